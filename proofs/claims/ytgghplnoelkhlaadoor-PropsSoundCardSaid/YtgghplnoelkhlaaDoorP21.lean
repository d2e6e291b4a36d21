/- Laws in plain Lean: p21. -/
import Derived.Test.YtgghplnoelkhlaaDoorK10
namespace Go.Eng
open Go Go.Proofs Go.RowKit

/-! Chapter 21: the runs of both sides, and the laws. -/
def inR (a b n : Int) : Bool := decide (a ≤ n) && decide (n ≤ b)
def mayS (f : Str) (n : Int) : Bool :=
  bif f == [110] || f == [114] || f == [119] then inR 1 16 n else bif f == [112, 114] || f == [112, 119] then inR 0 16 n else bif f == [115, 101, 118, 101, 114, 97, 108] || f == [109, 105, 115, 115, 105, 110, 103] || f == [98, 97, 115, 105, 99] then inR 0 1 n else false
theorem inR01 (n : Int) : inR 0 1 n = (decide (n = 0) || decide (n = 1)) := by
  unfold inR
  rw [Bool.eq_iff_iff]
  simp only [Bool.and_eq_true, Bool.or_eq_true, decide_eq_true_eq]
  omega
theorem may_run (f : Str) (n : Int) : (props_may_T f n).run = some (mayS f n) := by
  unfold props_may_T props_bounds_T mayS inR
  cases f == [110] <;> cases f == [114] <;> cases f == [119] <;> cases f == [112, 114] <;> cases f == [112, 119] <;> cases f == [115, 101, 118, 101, 114, 97, 108] <;> cases f == [109, 105, 115, 115, 105, 110, 103] <;> cases f == [98, 97, 115, 105, 99] <;>
    simp only [Tree.run, cond_true, cond_false, Option.bind_some, Bool.true_and, Bool.false_and, Bool.or_true, Bool.or_false, Bool.true_or]
theorem rMay_run (f : Str) (n : Int) : (r21_may_T f n).run = some (mayS f n) := by
  unfold r21_may_T mayS
  rw [inR01]
  unfold inR
  cases f == [110] <;> cases f == [114] <;> cases f == [119] <;> cases f == [112, 114] <;> cases f == [112, 119] <;> cases f == [115, 101, 118, 101, 114, 97, 108] <;> cases f == [109, 105, 115, 115, 105, 110, 103] <;> cases f == [98, 97, 115, 105, 99] <;>
    simp only [Tree.run, cond_true, cond_false, Option.bind_some, Bool.true_and, Bool.false_and, Bool.or_true, Bool.or_false, Bool.true_or]

def keyS (t b f : Str) : Str := ((((([112, 114, 111, 112, 47] : Str) ++ t) ++ ([47] : Str)) ++ b) ++ ([47] : Str)) ++ f
theorem keyS_len (t b f : Str) : (keyS t b f).length = t.length + b.length + f.length + 7 := by
  unfold keyS
  simp only [List.length_append, List.length_cons, List.length_nil]; omega
theorem rKey_run (t b f : Str) (ht : t.length ≤ 1000) (hb : b.length ≤ 1000) (hf : f.length ≤ 1000) : (r21_Key_T t b f).run = some (keyS t b f) := by
  unfold r21_Key_T
  refine (run_ask (decide_eq_true ?_)).trans ((run_ask (decide_eq_true ?_)).trans ((run_ask (decide_eq_true ?_)).trans ((run_ask (decide_eq_true ?_)).trans ((run_ask (decide_eq_true ?_)).trans rfl))))
  all_goals (simp only [List.length_append, List.length_cons, List.length_nil]; omega)
theorem key_run (t b f : Str) (ht : t.length ≤ 1000) (hb : b.length ≤ 1000) (hf : f.length ≤ 1000) : (props_Key_T t b f).run = some (keyS t b f) := by
  have e : joinS ([47] : Str) [([112, 114, 111, 112] : Str), t, b, f] = keyS t b f := by
    unfold joinS keyS
    simp
  have hj : (strings_Join_T [([112, 114, 111, 112] : Str), t, b, f] ([47] : Str)).run = some (keyS t b f) := by
    show (joinT _ _).run = _
    unfold joinT
    rw [e]
    have hl := keyS_len t b f
    exact (run_ask (decide_eq_true (by simp only [List.length_cons, List.length_nil]; omega))).trans ((run_ask (decide_eq_true (by omega))).trans rfl)
  unfold props_Key_T name_Path_T
  simp only [Tree.run, hj, Option.bind_some]

def fieldS (l : List Entry) (t b f : Str) (d : Int) : Int := bif (numS (getR l (keyS t b f)).2.2).2 && mayS f (numS (getR l (keyS t b f)).2.2).1 then (numS (getR l (keyS t b f)).2.2).1 else d
theorem num_run (s : Str) (h : s.length ≤ 1000) : (name_Num_T s).run = some ((numS s).1, (numS s).2, ()) := by
  unfold name_Num_T numT
  exact (run_ask (decide_eq_true (by omega))).trans rfl
theorem of1_run (l : List Entry) (t b f : Str) (d : Int) (hl : SmallE l) (ht : t.length ≤ 1000) (hb : b.length ≤ 1000) (hf : f.length ≤ 1000) : (props_Of_1_T f d l t b).run = some (fieldS l t b f d) := by
  have hl1 := hl.1
  unfold props_Of_1_T fieldS
  simp only [Tree.run, key_run t b f ht hb hf, get_run l _ (show l.length ≤ 1000000 by omega), num_run _ (getR_small hl (keyS t b f)).2, may_run, Option.bind_some, Option.isNone_some, Bool.and_false, cond_false, Option.getD_some]
  cases (numS (getR l (keyS t b f)).2.2).2 <;> cases mayS f (numS (getR l (keyS t b f)).2.2).1 <;> rfl
theorem of2_run (l : List Entry) (t b f : Str) (d : Int) (p : Props) (hl : SmallE l) (ht : t.length ≤ 1000) (hb : b.length ≤ 1000) (hf : f.length ≤ 1000) : (props_Of_2_T f d p l t b).run = some (std.imin p.1 (fieldS l t b f d)) := by
  unfold props_Of_2_T
  simp only [Tree.run, of1_run l t b f d hl ht hb hf, Option.bind_some]
theorem rField_run (l : List Entry) (t b f : Str) (d : Int) (hl : SmallE l) (ht : t.length ≤ 1000) (hb : b.length ≤ 1000) (hf : f.length ≤ 1000) : (r21_field_T l t b f d).run = some (fieldS l t b f d) := by
  have hl1 := hl.1
  unfold r21_field_T fieldS
  simp only [Tree.run, rKey_run t b f ht hb hf, rGet_run l _ (show l.length ≤ 1000000 by omega), r05Num_run, rMay_run, Option.bind_some, Option.isNone_some, Bool.and_false, cond_false, Option.getD_some]
  cases (numS (getR l (keyS t b f)).2.2).2 <;> cases mayS f (numS (getR l (keyS t b f)).2.2).1 <;> rfl
def ofS (l : List Entry) (t b : Str) : Props :=
  (fieldS l t b [110] 3, (std.imin (fieldS l t b [110] 3) (fieldS l t b [114] 2), (std.imin (fieldS l t b [110] 3) (fieldS l t b [119] 2), (std.imin (fieldS l t b [110] 3) (fieldS l t b [112, 114] 0), (std.imin (fieldS l t b [110] 3) (fieldS l t b [112, 119] 0),
    (decide (fieldS l t b [115, 101, 118, 101, 114, 97, 108] 1 = 1), (decide (fieldS l t b [109, 105, 115, 115, 105, 110, 103] 1 = 1), decide (fieldS l t b [98, 97, 115, 105, 99] 0 = 1))))))))
theorem of_run (l : List Entry) (t b : Str) (hl : SmallE l) (ht : t.length ≤ 1000) (hb : b.length ≤ 1000) : (props_Of_T l t b).run = some (ofS l t b) := by
  have a1 : ∀ f d, f.length ≤ 1000 → (props_Of_1_T f d l t b).run = some (fieldS l t b f d) := fun f d hf => of1_run l t b f d hl ht hb hf
  have a2 : ∀ f d p, f.length ≤ 1000 → (props_Of_2_T f d p l t b).run = some (std.imin p.1 (fieldS l t b f d)) := fun f d p hf => of2_run l t b f d p hl ht hb hf
  unfold props_Of_T ofS
  refine (run_bnd (a1 _ _ (by decide))).trans ?_
  refine (run_bnd (a2 _ _ _ (by decide))).trans ?_
  refine (run_bnd (a2 _ _ _ (by decide))).trans ?_
  refine (run_bnd (a2 _ _ _ (by decide))).trans ?_
  refine (run_bnd (a2 _ _ _ (by decide))).trans ?_
  simp only [Tree.run, a1 [115, 101, 118, 101, 114, 97, 108] 1 (by decide), a1 [109, 105, 115, 115, 105, 110, 103] 1 (by decide), a1 [98, 97, 115, 105, 99] 0 (by decide), Option.bind_some, if_true]
theorem rOf_run (l : List Entry) (t b : Str) (hl : SmallE l) (ht : t.length ≤ 1000) (hb : b.length ≤ 1000) : (r21_Of_T l t b).run = some (ofS l t b) := by
  have a1 : ∀ f d, f.length ≤ 1000 → (r21_field_T l t b f d).run = some (fieldS l t b f d) := fun f d hf => rField_run l t b f d hl ht hb hf
  unfold r21_Of_T ofS
  refine (run_bnd (a1 _ _ (by decide))).trans ?_
  refine (run_bnd (a1 _ _ (by decide))).trans ?_
  refine (run_bnd (a1 _ _ (by decide))).trans ?_
  refine (run_bnd (a1 _ _ (by decide))).trans ?_
  refine (run_bnd (a1 _ _ (by decide))).trans ?_
  refine (run_bnd (a1 _ _ (by decide))).trans ?_
  refine (run_bnd (a1 _ _ (by decide))).trans ?_
  exact (run_bnd (a1 _ _ (by decide))).trans rfl


def zE : Entry × Int × Unit := (([], (0, ([], []))), 1, ())
def psetS (l : List Entry) (b t k f : Str) (n : Int) : Entry × Int × Unit := bif nameS t && nameS k && mayS f n then setP l b (keyS t k f) (decS n) else zE
theorem pset_run (l : List Entry) (b t k f : Str) (n : Int) (hl : SmallE l) (hn : N64 n) (ht : t.length ≤ 1000) (hk : k.length ≤ 1000) (hf : f.length ≤ 1000) : (props_Set_T l b t k f n).run = some (psetS l b t k f n) := by
  have hd : (name_Dec_T n).run = some (decS n) := by
    unfold name_Dec_T
    show (Tree.bnd (Tree.ret (decS n)) _).run = _
    rfl
  unfold props_Set_T psetS
  refine (run_bnd (nameIs_run t)).trans ?_
  refine (run_grd (nameIs_run k)).trans ?_
  refine (run_grd (may_run f n)).trans ?_
  simp only [Tree.run, key_run t k f ht hk hf, hd, set_run l b _ _ hl, Option.bind_some]
  cases nameS t <;> cases nameS k <;> cases mayS f n <;> rfl
theorem rpset_run (l : List Entry) (b t k f : Str) (n : Int) (hl : SmallE l) (hn : N64 n) (hb : b.length ≤ 1000) (ht : t.length ≤ 1000) (hk : k.length ≤ 1000) (hf : f.length ≤ 1000) : (r21_Set_T l b t k f n).run = some (psetS l b t k f n) := by
  unfold r21_Set_T psetS
  refine (run_bnd (r05Is_run t (by omega))).trans ?_
  refine (run_grd (r05Is_run k (by omega))).trans ?_
  refine (run_grd (rMay_run f n)).trans ?_
  simp only [Tree.run, rKey_run t k f ht hk hf, r05Dec_run n hn, rSet_run l b _ _ hl hb, Option.bind_some]
  cases nameS t <;> cases nameS k <;> cases mayS f n <;> rfl
def pchk (p : Props) : Bool := mayS [110] p.1 && mayS [114] p.2.1 && mayS [119] p.2.2.1 && mayS [112, 114] p.2.2.2.1 && mayS [112, 119] p.2.2.2.2.1 && decide (p.2.1 ≤ p.1) && decide (p.2.2.1 ≤ p.1) && decide (p.2.2.2.1 ≤ p.1) && decide (p.2.2.2.2.1 ≤ p.1)
theorem imax_le (a b c : Int) : decide (c < std.imax a b) = (decide (c < a) || decide (c < b)) := by
  show decide (c < (if b > a then b else a)) = _
  rw [Bool.eq_iff_iff]
  simp only [Bool.or_eq_true, decide_eq_true_eq]
  split <;> omega
theorem dnle (a b : Int) : decide (a ≤ b) = !decide (b < a) := by rw [← decide_not]; congr 1; rw [eq_iff_iff]; omega
theorem pcheck_run (p : Props) : (props_Check_T p).run = some (bif pchk p then 0 else 1) := by
  unfold props_Check_T pchk
  simp only [Tree.run, may_run, Option.bind_some, Option.isNone_some, Bool.and_false, cond_false, Option.getD_some, imax_le, dnle]
  cases mayS [110] p.1 <;> cases mayS [114] p.2.1 <;> cases mayS [119] p.2.2.1 <;> cases mayS [112, 114] p.2.2.2.1 <;> cases mayS [112, 119] p.2.2.2.2.1 <;> cases decide (p.1 < p.2.1) <;> cases decide (p.1 < p.2.2.1) <;> cases decide (p.1 < p.2.2.2.1) <;> cases decide (p.1 < p.2.2.2.2.1) <;> rfl
theorem rpcheck_run (p : Props) : (r21_Check_T p).run = some (bif pchk p then 0 else 1) := by
  unfold r21_Check_T pchk
  simp only [Tree.run, rMay_run, Option.bind_some, Option.isNone_some, Bool.and_false, cond_false, Option.getD_some, dnle]
  cases mayS [110] p.1 <;> cases mayS [114] p.2.1 <;> cases mayS [119] p.2.2.1 <;> cases mayS [112, 114] p.2.2.2.1 <;> cases mayS [112, 119] p.2.2.2.2.1 <;> cases decide (p.1 < p.2.1) <;> cases decide (p.1 < p.2.2.1) <;> cases decide (p.1 < p.2.2.2.1) <;> cases decide (p.1 < p.2.2.2.2.1) <;> rfl
theorem pstrict_run (p : Props) : (props_Strict_T p).run = some (decide ((bif pchk p then (0 : Int) else 1) = 0) && decide (p.1 < w64 (p.2.2.2.1 + p.2.2.2.2.1))) := by
  unfold props_Strict_T
  exact (run_bnd (pcheck_run p)).trans rfl
theorem rpstrict_run (p : Props) : (r21_Strict_T p).run = some (decide ((bif pchk p then (0 : Int) else 1) = 0) && decide (p.1 < w64 (p.2.2.2.1 + p.2.2.2.2.1))) := by
  unfold r21_Strict_T
  exact (run_bnd (rpcheck_run p)).trans rfl
theorem awake21 : l21_awake_T.run = some true := by
  have hd : ([([112, 114, 111, 112, 47, 116, 47, 98, 47, 110], (1, ([110, 49], [50])))] : List Entry).length ≤ 10000 := by decide
  unfold l21_awake_T
  refine (run_bnd (Tree.runN_run (n := 40) (a := ((([112, 114, 111, 112, 47, 116, 47, 98, 47, 110] : Str), ((1 : Int), (([110, 49] : Str), ([50] : Str)))), (0 : Int), ())) (by kernel_rfl))).trans ?_
  refine (run_bnd (of_run _ _ _ ⟨by decide, by decide⟩ (by decide) (by decide))).trans ?_
  refine (run_bnd (Tree.runN_run (n := 40) (a := zE) (by kernel_rfl))).trans ?_
  refine (run_grd (pcheck_run _)).trans ?_
  refine (run_grd (pstrict_run _)).trans ?_
  refine (run_grd (pstrict_run _)).trans ?_
  have hdef : props_Default_T.run = some (ofS [] [] []) := by
    unfold props_Default_T
    exact (run_bnd (of_run _ _ _ ⟨by decide, fun x hx => by cases hx⟩ (by decide) (by decide))).trans rfl
  refine (run_grd hdef).trans ?_
  have hr : r21_Default_T.run = some ((3, (2, (2, (0, (0, (true, (true, false))))))) : Props) := rfl
  refine (run_grd hr).trans ?_
  show some _ = some true
  kernel_rfl

theorem propsOf_law (x : ElP l21_PropsOf_g.ps) (_ : okP l21_PropsOf_g.ps x) : (l21_PropsOf_g.f x).run = some true := by
  obtain ⟨l, t, b, _⟩ := x
  show (l21_PropsOf_T l t b).run = _
  unfold l21_PropsOf_T
  refine (run_bnd (few10_run l 30 (by omega) 30 rfl)).trans ?_
  by_cases hc : (((!(fewB q10 30 l)) || (decide ((100 : Int) < (t.length : Int)))) || (decide ((100 : Int) < (b.length : Int)))) = true
  · exact (run_t hc).trans ((run_bnd awake21).trans rfl)
  · have hc := Bool.not_eq_true _ ▸ hc
    refine (run_f hc).trans ?_
    simp only [Bool.or_eq_false_iff, Bool.not_eq_false', decide_eq_false_iff_not] at hc
    obtain ⟨⟨hf, ht⟩, hb⟩ := hc
    have hl := few10_small (by omega) hf
    have ht' : t.length ≤ 1000 := by omega
    have hb' : b.length ≤ 1000 := by omega
    refine (run_bnd (of_run l t b hl ht' hb')).trans ?_
    refine (run_bnd (rOf_run l t b hl ht' hb')).trans ?_
    refine (run_grd (key_run t b _ ht' hb' (by decide))).trans ?_
    refine (run_grd (rKey_run t b _ ht' hb' (by decide))).trans ?_
    refine (run_grd awake21).trans ?_
    simp only [Tree.run, decide_true, beq_self_eq_true, Bool.and_true, Bool.true_and]

theorem lenLoop (l : List Entry) (x : Str × (Str × (Str × Str))) (n : Int) :
    (Tree.loop (fun v => l21_PropsSet_L4_step l n x v) 0).run = some (bif decide ((100 : Int) < (x.1.length : Int)) || decide ((100 : Int) < (x.2.1.length : Int)) || decide ((100 : Int) < (x.2.2.1.length : Int)) || decide ((100 : Int) < (x.2.2.2.length : Int)) then .inl true else .inr ()) := by
  have w0 : w64 ((0 : Int) + 1) = 1 := by kernel_rfl
  have w1 : w64 ((1 : Int) + 1) = 2 := by kernel_rfl
  have w2 : w64 ((2 : Int) + 1) = 3 := by kernel_rfl
  have w3 : w64 ((3 : Int) + 1) = 4 := by kernel_rfl
  have i0 : inb 0 4 = true := by kernel_rfl
  have i1 : inb 1 4 = true := by kernel_rfl
  have i2 : inb 2 4 = true := by kernel_rfl
  have i3 : inb 3 4 = true := by kernel_rfl
  have s0 : (l21_PropsSet_L4_step l n x 0).run = some (bif decide ((100 : Int) < (x.1.length : Int)) then .inr (.inl true) else .inl 1) := by
    unfold l21_PropsSet_L4_step
    simp only [Tree.run, show decide ((0 : Int) < 4) = true from rfl, show decide ((0 : Int) = 0) = true from rfl, cond_true, i0, w0, awake21, Option.bind_some]
    cases decide ((100 : Int) < (x.1.length : Int)) <;> rfl
  have s1 : (l21_PropsSet_L4_step l n x 1).run = some (bif decide ((100 : Int) < (x.2.1.length : Int)) then .inr (.inl true) else .inl 2) := by
    unfold l21_PropsSet_L4_step
    simp only [Tree.run, show decide ((1 : Int) < 4) = true from rfl, show decide ((1 : Int) = 0) = false from rfl, show decide ((1 : Int) = 1) = true from rfl, cond_true, cond_false, i1, w1, awake21, Option.bind_some]
    cases decide ((100 : Int) < (x.2.1.length : Int)) <;> rfl
  have s2 : (l21_PropsSet_L4_step l n x 2).run = some (bif decide ((100 : Int) < (x.2.2.1.length : Int)) then .inr (.inl true) else .inl 3) := by
    unfold l21_PropsSet_L4_step
    simp only [Tree.run, show decide ((2 : Int) < 4) = true from rfl, show decide ((2 : Int) = 0) = false from rfl, show decide ((2 : Int) = 1) = false from rfl, show decide ((2 : Int) = 2) = true from rfl, cond_true, cond_false, i2, w2, awake21, Option.bind_some]
    cases decide ((100 : Int) < (x.2.2.1.length : Int)) <;> rfl
  have s3 : (l21_PropsSet_L4_step l n x 3).run = some (bif decide ((100 : Int) < (x.2.2.2.length : Int)) then .inr (.inl true) else .inl 4) := by
    unfold l21_PropsSet_L4_step
    simp only [Tree.run, show decide ((3 : Int) < 4) = true from rfl, show decide ((3 : Int) = 0) = false from rfl, show decide ((3 : Int) = 1) = false from rfl, show decide ((3 : Int) = 2) = false from rfl, show decide ((3 : Int) = 3) = true from rfl, cond_true, cond_false, i3, w3, awake21, Option.bind_some]
    cases decide ((100 : Int) < (x.2.2.2.length : Int)) <;> rfl
  have s4 : (l21_PropsSet_L4_step l n x 4).run = some (.inr (.inr ())) := by
    unfold l21_PropsSet_L4_step
    simp only [Tree.run, show decide ((4 : Int) < 4) = false from rfl, cond_false]
  simp only [Tree.run]
  rw [loopF_eq, s0]
  cases decide ((100 : Int) < (x.1.length : Int)) with
  | true => rfl
  | false =>
    show loopF _ 1 = _
    rw [loopF_eq, s1]
    cases decide ((100 : Int) < (x.2.1.length : Int)) with
    | true => rfl
    | false =>
      show loopF _ 2 = _
      rw [loopF_eq, s2]
      cases decide ((100 : Int) < (x.2.2.1.length : Int)) with
      | true => rfl
      | false =>
        show loopF _ 3 = _
        rw [loopF_eq, s3]
        cases decide ((100 : Int) < (x.2.2.2.length : Int)) with
        | true => rfl
        | false =>
          show loopF _ 4 = _
          rw [loopF_eq, s4]; rfl
theorem propsSet_law (x : ElP l21_PropsSet_g.ps) (hx : okP l21_PropsSet_g.ps x) : (l21_PropsSet_g.f x).run = some true := by
  obtain ⟨l, x, n, _⟩ := x
  have hn : N64 n := by
    obtain ⟨_, _, h, _⟩ := hx
    have h : (Lit.int .i64 n).wf = true := h
    have e1 : IntKind.i64.min = -9223372036854775808 := rfl
    have e2 : IntKind.i64.max = 9223372036854775807 := rfl
    simp only [Lit.wf, e1, e2, Bool.and_eq_true, decide_eq_true_eq] at h
    exact h
  show (l21_PropsSet_T l x n).run = _
  unfold l21_PropsSet_T
  refine (run_bnd (few10_run l 30 (by omega) 30 rfl)).trans ?_
  cases hf : fewB q10 30 l with
  | false => exact (run_t rfl).trans ((run_bnd awake21).trans rfl)
  | true =>
    refine (run_f rfl).trans ?_
    have hl := few10_small (by omega) hf
    refine (run_bnd (lenLoop l x n)).trans ?_
    cases hc : (decide ((100 : Int) < (x.1.length : Int)) || decide ((100 : Int) < (x.2.1.length : Int)) || decide ((100 : Int) < (x.2.2.1.length : Int)) || decide ((100 : Int) < (x.2.2.2.length : Int))) with
    | true => rfl
    | false =>
      simp only [Bool.or_eq_false_iff, decide_eq_false_iff_not] at hc
      obtain ⟨⟨⟨h0, h1⟩, h2⟩, h3⟩ := hc
      show (ask (inb 0 4) _).run = _
      have i0 : inb 0 4 = true := by kernel_rfl
      have i1 : inb 1 4 = true := by kernel_rfl
      have i2 : inb 2 4 = true := by kernel_rfl
      have i3 : inb 3 4 = true := by kernel_rfl
      refine (run_ask i0).trans ((run_ask i1).trans ((run_ask i2).trans ((run_ask i3).trans ?_)))
      refine (run_bnd (pset_run l x.1 x.2.1 x.2.2.1 x.2.2.2 n hl hn (by omega) (by omega) (by omega))).trans ?_
      refine (run_ask i0).trans ((run_ask i1).trans ((run_ask i2).trans ((run_ask i3).trans ?_)))
      refine (run_bnd (rpset_run l x.1 x.2.1 x.2.2.1 x.2.2.2 n hl hn (by omega) (by omega) (by omega) (by omega))).trans ?_
      refine (run_grd awake21).trans ?_
      simp only [Tree.run, decide_true, beq_self_eq_true, Bool.and_true, Bool.true_and]

theorem propsMay_law (x : ElP l21_PropsMay_g.ps) (_ : okP l21_PropsMay_g.ps x) : (l21_PropsMay_g.f x).run = some true := by
  obtain ⟨p, _⟩ := x
  show (l21_PropsMay_T p).run = _
  unfold l21_PropsMay_T
  refine (run_bnd (pcheck_run p)).trans ?_
  refine (run_bnd (rpcheck_run p)).trans ?_
  refine (run_grd (pstrict_run p)).trans ?_
  refine (run_grd (rpstrict_run p)).trans ?_
  refine (run_grd awake21).trans ?_
  simp only [Tree.run, decide_true, beq_self_eq_true, Bool.and_true, Bool.true_and]

/-! A bucket's properties may be. -/
theorem fieldS_may {l : List Entry} {t b f : Str} {d : Int} (hd : mayS f d = true) : mayS f (fieldS l t b f d) = true := by
  unfold fieldS
  cases h1 : (numS (getR l (keyS t b f)).2.2).2 <;> cases h2 : mayS f (numS (getR l (keyS t b f)).2.2).1 <;> first | exact hd | exact h2
theorem mayS_n (f : Str) (n : Int) (hf : f = [110] ∨ f = [114] ∨ f = [119]) : mayS f n = inR 1 16 n := by rcases hf with rfl | rfl | rfl <;> rfl
theorem mayS_p (f : Str) (n : Int) (hf : f = [112, 114] ∨ f = [112, 119]) : mayS f n = inR 0 16 n := by rcases hf with rfl | rfl <;> rfl
theorem ofS_may (l : List Entry) (t b : Str) : pchk (ofS l t b) = true := by
  have h1 := fieldS_may (l := l) (t := t) (b := b) (f := [110]) (d := 3) rfl
  have h2 := fieldS_may (l := l) (t := t) (b := b) (f := [114]) (d := 2) rfl
  have h3 := fieldS_may (l := l) (t := t) (b := b) (f := [119]) (d := 2) rfl
  have h4 := fieldS_may (l := l) (t := t) (b := b) (f := [112, 114]) (d := 0) rfl
  have h5 := fieldS_may (l := l) (t := t) (b := b) (f := [112, 119]) (d := 0) rfl
  have m : ∀ a b : Int, std.imin a b = if b < a then b else a := fun _ _ => rfl
  unfold pchk ofS
  simp only [m]
  rw [mayS_n _ _ (.inl rfl)] at h1
  rw [mayS_n _ _ (.inr (.inl rfl))] at h2
  rw [mayS_n _ _ (.inr (.inr rfl))] at h3
  rw [mayS_p _ _ (.inl rfl)] at h4
  rw [mayS_p _ _ (.inr rfl)] at h5
  rw [mayS_n _ _ (.inl rfl), mayS_n _ _ (.inr (.inl rfl)), mayS_n _ _ (.inr (.inr rfl)), mayS_p _ _ (.inl rfl), mayS_p _ _ (.inr rfl)]
  unfold inR at *
  simp only [Bool.and_eq_true, decide_eq_true_eq] at *
  generalize fieldS l t b [110] 3 = x1 at *
  generalize fieldS l t b [114] 2 = x2 at *
  generalize fieldS l t b [119] 2 = x3 at *
  generalize fieldS l t b [112, 114] 0 = x4 at *
  generalize fieldS l t b [112, 119] 0 = x5 at *
  refine ⟨⟨⟨⟨⟨⟨⟨⟨?_, ?_⟩, ?_⟩, ?_⟩, ?_⟩, ?_⟩, ?_⟩, ?_⟩, ?_⟩ <;> (try split) <;> omega
theorem rPutB_run (l : List Entry) (x : Entry) (hl : SmallE l) (hx : x.1.length ≤ 1000 ∧ x.2.2.1.length ≤ 1000 ∧ x.2.2.2.length ≤ 1000) :
    (r10_Put_T l x).run = some (bif mayB l && entB x then (bif decide ((4096 : Int) < ((putE l x).length : Int)) then ([], 4, ()) else (putE l x, 0, ())) else ([], 1, ())) := by
  have hl1 := hl.1
  unfold r10_Put_T
  simp only [Tree.run, regM_run l hl, rIsEntry_run x hx.2.1, putE_run l x (by omega), Option.bind_some, Option.isNone_some, Bool.and_false, cond_false, Option.getD_some]
  cases mayB l <;> cases entB x <;> cases decide ((4096 : Int) < ((putE l x).length : Int)) <;> rfl
theorem putE_mem {l : List Entry} {x y : Entry} (h : y ∈ putE l x) : y ∈ l ∨ y = x ∨ (y.1 = x.1 ∧ ∃ z ∈ l, y.2 = joinR z.2 x.2) := by
  unfold putE at h
  have t1 : ∀ z, z ∈ l.takeWhile (lowB x.1) → z ∈ l := fun z hz => (List.takeWhile_sublist _).subset hz
  have t2 : ∀ z, z ∈ l.dropWhile (lowB x.1) → z ∈ l := fun z hz => (List.dropWhile_sublist _).subset hz
  cases hd : l.dropWhile (lowB x.1) with
  | nil =>
    rw [hd] at h
    simp only [List.mem_append, List.mem_singleton] at h
    exact h.elim (fun h => .inl (t1 y h)) (fun h => .inr (.inl h))
  | cons z r =>
    rw [hd] at h t2
    simp only at h
    cases hb : z.1 == x.1 with
    | true =>
      rw [hb, cond_true] at h
      simp only [List.mem_append, List.mem_singleton] at h
      rcases h with (h | h) | h
      · exact .inl (t1 y h)
      · subst h; exact .inr (.inr ⟨rfl, z, t2 z (by simp), rfl⟩)
      · exact .inl (t2 y (by simp [h]))
    | false =>
      rw [hb, cond_false] at h
      simp only [List.mem_append, List.mem_cons, List.not_mem_nil, or_false] at h
      rcases h with (h | h) | h | h
      · exact .inl (t1 y h)
      · exact .inr (.inl h)
      · exact .inl (t2 y (by simp [h]))
      · exact .inl (t2 y (by simp [h]))
theorem putE_small {l : List Entry} {x : Entry} (hl : SmallE l) (hn : l.length ≤ 1000) (hx : x.1.length ≤ 1000 ∧ x.2.2.1.length ≤ 1000 ∧ x.2.2.2.length ≤ 1000) : SmallE (putE l x) := by
  refine ⟨by have := putE_len l x; omega, fun y hy => ?_⟩
  rcases putE_mem hy with h | h | ⟨h1, z, hz, h2⟩
  · exact hl.2 y h
  · rw [h]; exact hx
  · have hz' := hl.2 z hz
    rw [h1, h2]
    unfold joinR
    cases newR x.2 z.2
    · exact ⟨hx.1, hz'.2⟩
    · exact hx
theorem keyS_pre (t b f : Str) : (keyS t b f).take (keyS t b []).length = keyS t b [] := by
  have : keyS t b f = keyS t b [] ++ f := by unfold keyS; simp
  rw [this, List.take_left]
theorem getR_put {l : List Entry} {x : Entry} {k : Str} (hs : Srt l) (h : x.1 ≠ k) : getR (putE l x) k = getR l k := by
  unfold getR
  rw [(putE_spec hs x).2 k]
  have : (x.1 == k) = false := by rw [beq_eq_false_iff_ne]; exact h
  rw [this, cond_false]
theorem propsSound_law (x : ElP l21_PropsSound_g.ps) (_ : okP l21_PropsSound_g.ps x) : (l21_PropsSound_g.f x).run = some true := by
  obtain ⟨l, x, y, _⟩ := x
  show (l21_PropsSound_T l x y).run = _
  have i0 : inb 0 3 = true := by kernel_rfl
  have i1 : inb 1 3 = true := by kernel_rfl
  unfold l21_PropsSound_T
  refine (run_bnd (few10_run l 30 (by omega) 30 rfl)).trans ?_
  cases hf : fewB q10 30 l with
  | false =>
    refine (run_off rfl).trans ((run_off rfl).trans ?_)
    refine (run_ask (by simp)).trans ((run_ask (by simp)).trans ?_)
    exact (run_t rfl).trans ((run_bnd awake21).trans rfl)
  | true =>
    have hl := few10_small (by omega) hf
    have hl30 := fewB_len hf
    refine (run_grd (regM_run l hl)).trans ?_
    refine (run_grd (few10_run [y] 1 (by omega) 1 rfl)).trans ?_
    refine (run_ask (by rw [i0, Bool.or_true])).trans ((run_ask (by rw [i1, Bool.or_true])).trans ?_)
    by_cases hc : (((((!true) || (!(mayB l))) || (!(fewB q10 1 [y]))) || (decide ((100 : Int) < (x.1.length : Int)))) || (decide ((100 : Int) < (x.2.1.length : Int)))) = true
    · exact (run_t hc).trans ((run_bnd awake21).trans rfl)
    · have hc := Bool.not_eq_true _ ▸ hc
      refine (run_f hc).trans ?_
      simp only [Bool.or_eq_false_iff, Bool.not_eq_false', decide_eq_false_iff_not] at hc
      obtain ⟨⟨⟨⟨_, hm⟩, hy⟩, ht⟩, hb⟩ := hc
      have hy1 := few10_mem hy y (by simp)
      have ht' : x.1.length ≤ 1000 := by omega
      have hb' : x.2.1.length ≤ 1000 := by omega
      refine (run_ask i0).trans ((run_ask i1).trans ?_)
      refine (run_bnd (of_run l x.1 x.2.1 hl ht' hb')).trans ?_
      refine (run_bnd (pcheck_run _)).trans ?_
      rw [ofS_may]
      refine (run_f rfl).trans ?_
      refine (run_ask i0).trans ((run_ask i1).trans ?_)
      refine (run_bnd (rKey_run x.1 x.2.1 [] ht' hb' (by decide))).trans ?_
      refine (run_ask ?_).trans ?_
      · rw [inbe_nat]
        cases hd : decide ((keyS x.1 x.2.1 []).length ≤ y.1.length) with
        | true => rw [Bool.or_true]
        | false => rw [decide_eq_false (by have := of_decide_eq_false hd; omega)]; rfl
      by_cases hp : ((decide (((keyS x.1 x.2.1 []).length : Int) ≤ (y.1.length : Int))) && ((subS y.1 0 ((keyS x.1 x.2.1 []).length : Int).toNat) == (keyS x.1 x.2.1 []))) = true
      · exact (run_t hp).trans ((run_bnd awake21).trans rfl)
      · refine (run_f (Bool.not_eq_true _ ▸ hp)).trans ?_
        refine (run_bnd (rPutB_run l y hl hy1)).trans ?_
        rw [hm, Bool.true_and]
        have hs : Srt l := ((mayB_iff l).1 hm).2.1
        have hne : ∀ f, y.1 ≠ keyS x.1 x.2.1 f := fun f e => hp (by
          rw [e, decide_eq_true (by rw [keyS_len, keyS_len]; simp only [List.length_nil]; omega), Bool.true_and, Int.toNat_natCast]
          show ((keyS x.1 x.2.1 f).drop 0).take _ == _
          rw [List.drop_zero, Nat.sub_zero, keyS_pre, beq_self_eq_true])
        have hof : ofS (putE l y) x.1 x.2.1 = ofS l x.1 x.2.1 := by
          have : ∀ f d, fieldS (putE l y) x.1 x.2.1 f d = fieldS l x.1 x.2.1 f d := fun f d => by
            unfold fieldS
            rw [getR_put hs (hne f)]
          unfold ofS
          simp only [this]
        have hone := of_run (putE l y) x.1 x.2.1 (putE_small hl (by omega) hy1) ht' hb'
        rw [hof] at hone
        cases entB y with
        | false =>
          rw [cond_false]
          refine (run_ask rfl).trans ((run_ask rfl).trans ((run_off rfl).trans ((run_grd awake21).trans ?_)))
          rfl
        | true =>
          rw [cond_true]
          cases decide ((4096 : Int) < ((putE l y).length : Int)) with
          | true =>
            rw [cond_true]
            refine (run_ask rfl).trans ((run_ask rfl).trans ((run_off rfl).trans ((run_grd awake21).trans ?_)))
            rfl
          | false =>
            rw [cond_false]
            refine (run_ask (by rw [i0, Bool.or_true])).trans ((run_ask (by rw [i1, Bool.or_true])).trans ((run_grd hone).trans ((run_grd awake21).trans ?_)))
            simp only [Tree.run, decide_true, beq_self_eq_true, Bool.and_true, Bool.or_true]

end Go.Eng

