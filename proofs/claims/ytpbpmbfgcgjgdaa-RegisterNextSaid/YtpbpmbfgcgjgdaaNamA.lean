/- Contracts: name.Is and the reference's Is answer the same of each text. -/
import Derived.Test.YtpbpmbfgcgjgdaaEngV
import Derived.Laws.RangeAny
namespace Go.Eng
open Go Go.Proofs Go.RowKit
set_option maxHeartbeats 4000000

/-! The plain law. -/
def isLetterS (x : Int) : Bool := decide (97 ≤ x ∧ x ≤ 122 ∨ 48 ≤ x ∧ x ≤ 57 ∨ x = 45)
def okB (b : UInt8) : Bool := isLetterS (b.toNat : Int)
def nameS (s : List UInt8) : Bool := !(s == []) && decide (s.length ≤ 16) && s.all okB

theorem rune_ok (s : List UInt8) (pos : Nat) (h : pos < s.length) : isLetterS (std.rune s pos) = okB s[pos] ∧ (isLetterS (std.rune s pos) = true → std.npos s pos = pos + 1) := by
  have hb : pos < (bytes s).size := by simpa [bytes, ByteArray.size] using h
  have hg : (bytes s)[pos]'hb = s[pos] := rfl
  by_cases ha : (s[pos]).toNat < 128
  · have hd := decode_ascii (bytes s) pos hb (by rw [hg]; exact ha)
    rw [hg] at hd
    have e1 : std.rune s pos = ((s[pos]).toNat : Int) := congrArg (fun x : Nat × Nat => (x.1 : Int)) hd
    have e2 : std.npos s pos = pos + 1 := by
      show (if pos < s.length then pos + (Utf8.decode (bytes s) pos).2 else pos) = _
      rw [if_pos h, hd]
    exact ⟨by rw [e1]; rfl, fun _ => e2⟩
  · have hd := decode_high (bytes s) pos hb (by rw [hg]; omega)
    have e1 : 128 ≤ std.rune s pos := by show (128 : Int) ≤ ((Utf8.decode (bytes s) pos).1 : Int); exact_mod_cast hd.1
    have f1 : isLetterS (std.rune s pos) = false := by
      unfold isLetterS
      exact decide_eq_false (by omega)
    have f2 : okB s[pos] = false := by
      unfold okB isLetterS
      exact decide_eq_false (by omega)
    exact ⟨f1.trans f2.symm, by rw [f1]; simp⟩

theorem all_false {s : List UInt8} {f : UInt8 → Bool} {pos : Nat} (h : pos < s.length) (hf : f s[pos] = false) : s.all f = false := by
  rw [List.all_eq_false]; exact ⟨s[pos], List.getElem_mem h, by rw [hf]; simp⟩

theorem all_step {s : List UInt8} {f : UInt8 → Bool} {pos : Nat} (h : pos < s.length) (hp : (s.take pos).all f = true) (hf : f s[pos] = true) : (s.take (pos + 1)).all f = true := by
  rw [List.take_add_one, List.getElem?_eq_getElem h, List.all_append, hp]
  simp [hf]

/-! isLetter -/
theorem isLetter_c (x : Int) : ACalls Try.prog 20 [.int .i32 x] (.val (.bool (isLetterS x))) := by
  refine ACalls.ofK Try.func20 rfl nms mix tabOk noCall_sound ?_
  intro p L K hp hL hK _
  generalize hs : isLetterS x = spec at hK
  cbv
  subst hK
  refine post_ret rfl ?_
  show AV.bool _ = _
  subst hp hs
  simp only [std, isLetterS]
  congr 1
  simp only [Bool.decide_or, Bool.decide_and, Bool.or_assoc]

def cIsLetter (g : Int → Bool) : Oracle := fun _ f args => match f, args with
  | 20, [.int .i32 x] => some ⟨.val (.bool (g x)), []⟩
  | _, _ => none
theorem cIsLetter_ok : Sound Try.prog (cIsLetter isLetterS) := by
  intro id args r ks h _
  unfold cIsLetter at h
  split at h
  · cases h; exact isLetter_c _
  · cases h

/-! name.Is -/
theorem nameIs_c (s : List UInt8) : ACalls Try.prog 16 [.str s] (.val (.bool (nameS s))) := by
  have hc := cIsLetter_ok
  generalize hg : isLetterS = g at hc
  refine ACalls.ofK Try.func16 rfl nms mix tabOk hc ?_
  intro p L K hp hL hK _
  generalize hs : nameS s = spec at hK
  cbv
  split
  · rename_i h
    cbv
    subst hK
    refine post_ret rfl ?_
    show AV.bool _ = _
    subst hp hs
    simp only [std, Bool.or_eq_true, decide_eq_true_eq] at h
    unfold nameS
    rcases h with h | h
    · rw [h]; rfl
    · rw [show decide (s.length ≤ 16) = false from decide_eq_false (by omega)]; simp
  · rename_i h
    have h : ¬ s = [] ∧ s.length ≤ 16 := by
      subst hp
      simp only [std, Bool.or_eq_false_iff, decide_eq_false_iff_not] at h
      exact ⟨fun e => by rw [e] at h; simp at h, by omega⟩
    cbv
    rw [hL]
    refine AWp.loopG (fun pos => ⟨slots 20 [(0,.str s),(2,.bool false),(13,.ref 0 0)], [.siter s pos]⟩) (fun pos => pos ≤ s.length ∧ (s.take pos).all okB = true) (fun pos => s.length - pos) 0 (by simp) ?_ ?_
    · exact ⟨rfl, by cbv⟩
    intro pos hpos N hN
    refine wpT_sound mix tabOk hc hp rfl _ _ _ ?_
    generalize hL' : leafOf Try.prog = L'
    clear hL
    cbv
    split
    · rename_i hlt
      have hlt' : pos < s.length := by subst hp; simpa [std] using hlt
      obtain ⟨r1, r2⟩ := rune_ok s pos hlt'
      cbv
      split
      · rename_i hn
        cbv
        refine ⟨hlt, ?_⟩
        rw [hN]
        show K .ret _
        rw [hK]
        refine post_ret rfl ?_
        show AV.bool false = _
        subst hp hs hg
        simp only [std, Bool.not_eq_true'] at hn
        unfold nameS
        rw [all_false hlt' (r1.symm.trans hn)]
        simp
      · rename_i hn
        cbv
        refine ⟨hlt, ?_⟩
        rw [hN]
        have hn : isLetterS (std.rune s pos) = true := by subst hp hg; simpa only [std, Bool.not_eq_false'] using hn
        have e : p.npos s pos = pos + 1 := by rw [hp]; exact r2 hn
        refine NextQ.normal (p.npos s pos) ?_ ?_ ?_
        · rw [e]; omega
        · rw [e]; exact ⟨by omega, all_step hlt' hpos.2 (r1.symm.trans hn)⟩
        · exact ⟨rfl, by cbv⟩
    · rename_i hlt
      have hlt' : pos = s.length := by have := hpos.1; subst hp; simp [std] at hlt; omega
      cbv
      rw [hN]
      show wpT _ p _ _ _ _ _
      cbv
      rw [hK]
      refine post_ret rfl ?_
      show AV.bool true = _
      subst hs hlt'
      unfold nameS
      have := hpos.2
      rw [List.take_length] at this
      rw [this, decide_eq_true h.2]
      simp [h.1]

def cNameIs (g : List UInt8 → Bool) : Oracle := fun _ f args => match f, args with
  | 16, [.str s] => some ⟨.val (.bool (g s)), []⟩
  | _, _ => none
theorem cNameIs_ok : Sound Try.prog (cNameIs nameS) := by
  intro id args r ks h _
  unfold cNameIs at h
  split at h
  · cases h; exact nameIs_c _
  · cases h

end Go.Eng
