/- Laws in plain Lean: j52. -/
import Derived.Test.YthmlpkdgmpbffaaGreatDoorIc52
namespace Go.Eng
open Go Go.Proofs Go.RowKit

/-! Events read. -/
theorem smN {r : Text_reader} (h : SmW r) : SmW (rdN r).2 := (rdW_sm h).2
theorem smT {r : Text_reader} (h : SmW r) : SmW (rdTx r).2 := (rdW_sm h).2
theorem smK {r : Text_reader} (h : SmW r) : SmW (rdK r).2 := (rdW_sm h).2
theorem smC {r : Text_reader} (h : SmW r) : SmW (rdC r).2 := (rdW_sm h).2
theorem rdTx_in {r : Text_reader} (h : SmW r) : S1 (rdTx r).1 := by
  have := (rdW_sm h).1
  have h2 := readW_len (rdW r).1
  show (readW (rdW r).1).1.length ≤ _; omega
theorem rdN_in (r : Text_reader) : N64 (rdN r).1 := numS_in _
theorem rdC_in {r : Text_reader} (h : SmW r) : GX (rdC r).1 := ctxP_in (rdW_sm h).1
theorem rdK_in (r : Text_reader) : N64 (rdK r).1 := kindP_in _
def callP (r : Text_reader) : Call × Text_reader :=
  (((rdN r).1, ((rdTx (rdN r).2).1, ((rdTx (rdTx (rdN r).2).2).1, ((rdTx (rdTx (rdTx (rdN r).2).2).2).1, ((rdTx (rdTx (rdTx (rdTx (rdN r).2).2).2).2).1, ((rdC (rdTx (rdTx (rdTx (rdTx (rdN r).2).2).2).2).2).1, (rdN (rdC (rdTx (rdTx (rdTx (rdTx (rdN r).2).2).2).2).2).2).1)))))), (rdN (rdC (rdTx (rdTx (rdTx (rdTx (rdN r).2).2).2).2).2).2).2)
def adm5 (r : Text_reader) : Text_reader := (rdTx (rdTx (rdTx (rdTx (rdN r).2).2).2).2).2
def adm9 (r : Text_reader) : Text_reader := (rdTx (rdTx (rdTx (rdN (adm5 r)).2).2).2).2
def admP (r : Text_reader) : Admin × Text_reader :=
  (((rdN r).1, ((rdTx (rdN r).2).1, ((rdTx (rdTx (rdN r).2).2).1, ((rdTx (rdTx (rdTx (rdN r).2).2).2).1, ((rdTx (rdTx (rdTx (rdTx (rdN r).2).2).2).2).1, ((rdN (adm5 r)).1, ((rdTx (rdN (adm5 r)).2).1, ((rdTx (rdTx (rdN (adm5 r)).2).2).1, ((rdTx (rdTx (rdTx (rdN (adm5 r)).2).2).2).1, ((rdW (adm9 r)).1 == ([117, 112] : Str))))))))))), (rdW (adm9 r)).2)
def ev4 (r : Text_reader) : Text_reader := (rdTx (rdTx (rdTx (rdK r).2).2).2).2
def evP (r : Text_reader) : Event × Text_reader :=
  bif decide ((rdK r).1 = 1) then
    (((rdK r).1, ((rdTx (rdK r).2).1, ((rdTx (rdTx (rdK r).2).2).1, ((rdTx (rdTx (rdTx (rdK r).2).2).2).1, ((rdN (ev4 r)).1, ((callP (rdN (ev4 r)).2).1, adm0)))))), (callP (rdN (ev4 r)).2).2)
  else bif decide ((rdK r).1 = 14) then
    (((rdK r).1, ((rdTx (rdK r).2).1, ((rdTx (rdTx (rdK r).2).2).1, ((rdTx (rdTx (rdTx (rdK r).2).2).2).1, ((rdN (ev4 r)).1, (call0, (admP (rdN (ev4 r)).2).1)))))), (admP (rdN (ev4 r)).2).2)
  else (((rdK r).1, ((rdTx (rdK r).2).1, ((rdTx (rdTx (rdK r).2).2).1, ((rdTx (rdTx (rdTx (rdK r).2).2).2).1, ((rdN (ev4 r)).1, (call0, adm0)))))), (rdN (ev4 r)).2)
theorem texts3_run (r : Text_reader) (e : Event) (h : SmW r) : (text_reader_texts_T r e).run = some ((), (((rdTx (rdTx (rdTx r).2).2).2, ()), (((e.1, ((rdTx r).1, ((rdTx (rdTx r).2).1, ((rdTx (rdTx (rdTx r).2).2).1, e.2.2.2.2)))), ()), ()))) := by
  unfold text_reader_texts_T
  refine (run_t (by decide +kernel)).trans ?_
  refine (run_bnd (text1_run r h)).trans ?_
  refine (run_t (by decide +kernel)).trans ?_
  refine (run_bnd (text1_run _ (smT h))).trans ?_
  refine (run_t (by decide +kernel)).trans ?_
  refine (run_bnd (text1_run _ (smT (smT h)))).trans ?_
  exact run_f (by decide +kernel)
theorem texts4_run (r : Text_reader) (e : Event) (h : SmW r) : (text_reader_texts__T r e).run = some ((), (((rdTx (rdTx (rdTx (rdTx r).2).2).2).2, ()), (((e.1, (e.2.1, (e.2.2.1, (e.2.2.2.1, (e.2.2.2.2.1, ((e.2.2.2.2.2.1.1, ((rdTx r).1, ((rdTx (rdTx r).2).1, ((rdTx (rdTx (rdTx r).2).2).1, ((rdTx (rdTx (rdTx (rdTx r).2).2).2).1, e.2.2.2.2.2.1.2.2.2.2.2))))), e.2.2.2.2.2.2)))))), ()), ()))) := by
  unfold text_reader_texts__T
  refine (run_t (by decide +kernel)).trans ?_
  refine (run_bnd (text1_run r h)).trans ?_
  refine (run_t (by decide +kernel)).trans ?_
  refine (run_bnd (text1_run _ (smT h))).trans ?_
  refine (run_t (by decide +kernel)).trans ?_
  refine (run_bnd (text1_run _ (smT (smT h)))).trans ?_
  refine (run_t (by decide +kernel)).trans ?_
  refine (run_bnd (text1_run _ (smT (smT (smT h))))).trans ?_
  exact run_f (by decide +kernel)
theorem texts5_run (r : Text_reader) (e : Event) (h : SmW r) : (text_reader_texts___T r e).run = some ((), (((rdTx (rdTx (rdTx (rdTx r).2).2).2).2, ()), (((e.1, (e.2.1, (e.2.2.1, (e.2.2.2.1, (e.2.2.2.2.1, (e.2.2.2.2.2.1, (e.2.2.2.2.2.2.1, ((rdTx r).1, ((rdTx (rdTx r).2).1, ((rdTx (rdTx (rdTx r).2).2).1, ((rdTx (rdTx (rdTx (rdTx r).2).2).2).1, e.2.2.2.2.2.2.2.2.2.2.2))))))))))), ()), ()))) := by
  unfold text_reader_texts___T
  refine (run_t (by decide +kernel)).trans ?_
  refine (run_bnd (text1_run r h)).trans ?_
  refine (run_t (by decide +kernel)).trans ?_
  refine (run_bnd (text1_run _ (smT h))).trans ?_
  refine (run_t (by decide +kernel)).trans ?_
  refine (run_bnd (text1_run _ (smT (smT h)))).trans ?_
  refine (run_t (by decide +kernel)).trans ?_
  refine (run_bnd (text1_run _ (smT (smT (smT h))))).trans ?_
  exact run_f (by decide +kernel)
theorem texts6_run (r : Text_reader) (e : Event) (h : SmW r) : (text_reader_texts____T r e).run = some ((), (((rdTx (rdTx (rdTx r).2).2).2, ()), (((e.1, (e.2.1, (e.2.2.1, (e.2.2.2.1, (e.2.2.2.2.1, (e.2.2.2.2.2.1, (e.2.2.2.2.2.2.1, (e.2.2.2.2.2.2.2.1, (e.2.2.2.2.2.2.2.2.1, (e.2.2.2.2.2.2.2.2.2.1, (e.2.2.2.2.2.2.2.2.2.2.1, (e.2.2.2.2.2.2.2.2.2.2.2.1, ((rdTx r).1, ((rdTx (rdTx r).2).1, ((rdTx (rdTx (rdTx r).2).2).1, e.2.2.2.2.2.2.2.2.2.2.2.2.2.2.2))))))))))))))), ()), ()))) := by
  unfold text_reader_texts____T
  refine (run_t (by decide +kernel)).trans ?_
  refine (run_bnd (text1_run r h)).trans ?_
  refine (run_t (by decide +kernel)).trans ?_
  refine (run_bnd (text1_run _ (smT h))).trans ?_
  refine (run_t (by decide +kernel)).trans ?_
  refine (run_bnd (text1_run _ (smT (smT h)))).trans ?_
  exact run_f (by decide +kernel)
theorem event_run (r : Text_reader) (h : SmW r) : (text_reader_event_T r).run = some ((evP r).1, (((evP r).2, ()), ())) := by
  have hk := smK h
  have h4 : SmW (ev4 r) := smT (smT (smT hk))
  have hn := smN h4
  unfold text_reader_event_T evP
  refine (run_bnd (kindr_run r h)).trans ?_
  refine (run_bnd (texts3_run _ _ hk)).trans ?_
  refine (run_bnd (number_run (ev4 r) h4)).trans ?_
  cases q1 : decide ((rdK r).1 = 1) with
  | true =>
    refine (run_t rfl).trans ?_
    refine (run_bnd (number_run _ hn)).trans ?_
    have hc := smN hn
    refine (run_bnd (texts4_run _ _ hc)).trans ?_
    have hc2 := smT (smT (smT (smT hc)))
    refine (run_bnd (readctx_run _ hc2)).trans ?_
    exact (run_bnd (number_run _ (smC hc2))).trans rfl
  | false =>
    refine (run_f rfl).trans ?_
    cases q2 : decide ((rdK r).1 = 14) with
    | true =>
      refine (run_t rfl).trans ?_
      refine (run_bnd (number_run _ hn)).trans ?_
      have hc := smN hn
      refine (run_bnd (texts5_run _ _ hc)).trans ?_
      have h5 : SmW (adm5 (rdN (ev4 r)).2) := smT (smT (smT (smT hc)))
      refine (run_bnd (number_run (adm5 (rdN (ev4 r)).2) h5)).trans ?_
      have h6 := smN h5
      refine (run_bnd (texts6_run _ _ h6)).trans ?_
      exact (run_bnd (rword2_run (adm9 (rdN (ev4 r)).2))).trans rfl
    | false => exact run_f rfl
theorem n64_0 : N64 0 := ⟨by decide, by decide⟩
theorem s1_nil : S1 [] := Nat.zero_le _
theorem gc0 : GC call0 := ⟨n64_0, s1_nil, s1_nil, s1_nil, s1_nil, gx_nil, n64_0⟩
theorem ga0 : GA adm0 := ⟨n64_0, s1_nil, s1_nil, s1_nil, s1_nil, n64_0, s1_nil, s1_nil, s1_nil⟩
theorem ge0 : GE ev0 := ⟨n64_0, s1_nil, s1_nil, s1_nil, n64_0, gc0, ga0⟩
theorem callP_in {r : Text_reader} (h : SmW r) : GC (callP r).1 :=
  have a := smN h
  ⟨rdN_in _, rdTx_in a, rdTx_in (smT a), rdTx_in (smT (smT a)), rdTx_in (smT (smT (smT a))), rdC_in (smT (smT (smT (smT a)))), rdN_in _⟩
theorem admP_in {r : Text_reader} (h : SmW r) : GA (admP r).1 :=
  have a := smN h
  have b : SmW (adm5 r) := smT (smT (smT (smT a)))
  have c := smN b
  ⟨rdN_in _, rdTx_in a, rdTx_in (smT a), rdTx_in (smT (smT a)), rdTx_in (smT (smT (smT a))), rdN_in _, rdTx_in c, rdTx_in (smT c), rdTx_in (smT (smT c))⟩
theorem evP_in {r : Text_reader} (h : SmW r) : GE (evP r).1 := by
  have hk := smK h
  have h4 : SmW (ev4 r) := smT (smT (smT hk))
  have hn := smN h4
  unfold evP
  cases decide ((rdK r).1 = 1) with
  | true => exact ⟨rdK_in _, rdTx_in hk, rdTx_in (smT hk), rdTx_in (smT (smT hk)), rdN_in _, callP_in hn, ga0⟩
  | false =>
    cases decide ((rdK r).1 = 14) with
    | true => exact ⟨rdK_in _, rdTx_in hk, rdTx_in (smT hk), rdTx_in (smT (smT hk)), rdN_in _, gc0, admP_in hn⟩
    | false => exact ⟨rdK_in _, rdTx_in hk, rdTx_in (smT hk), rdTx_in (smT (smT hk)), rdN_in _, gc0, ga0⟩
/-- What a line tells. -/
def bareE (e : Event) : Event := (e.1, (e.2.1, (e.2.2.1, (e.2.2.2.1, (e.2.2.2.2.1, (bif decide (e.1 = 1) then e.2.2.2.2.2.1 else call0, bif decide (e.1 = 14) then e.2.2.2.2.2.2 else adm0))))))
theorem line_bare (e : Event) : lineS (bareE e) = lineS e := by
  show joinS [32] (headF e ++ bif decide (e.1 = 1) then callF (bif decide (e.1 = 1) then e.2.2.2.2.2.1 else call0) else bif decide (e.1 = 14) then admF (bif decide (e.1 = 14) then e.2.2.2.2.2.2 else adm0) else []) = _
  unfold lineS fieldsE
  cases decide (e.1 = 1) with
  | true => rfl
  | false => cases decide (e.1 = 14) <;> rfl
theorem bareE_in {e : Event} (h : GE e) : GE (bareE e) := by
  obtain ⟨h1, h2, h3, h4, h5, h6, h7⟩ := h
  refine ⟨h1, h2, h3, h4, h5, ?_, ?_⟩
  · show GC (bif decide (e.1 = 1) then e.2.2.2.2.2.1 else call0)
    cases decide (e.1 = 1); exact gc0; exact h6
  · show GA (bif decide (e.1 = 14) then e.2.2.2.2.2.2 else adm0)
    cases decide (e.1 = 14); exact ga0; exact h7
theorem rdK_of {k : Int} (hk : N64 k) (t : List Str) : rdK (kindS k :: t, false) = (k, (t, false)) := by
  unfold rdK
  show ((kindP (kindS k)).1, (t, false || (kindP (kindS k)).2)) = _
  rw [kindP_of hk]; rfl
theorem rdN_of {n : Int} (hn : N64 n) (t : List Str) : rdN (decS n :: t, false) = (n, (t, false)) := by
  unfold rdN
  show ((numS (decS n)).1, (t, false || !(numS (decS n)).2)) = _
  rw [numS_dec hn]; rfl
theorem rdTx_of (s : Str) (t : List Str) : rdTx (wordS s :: t, false) = (s, (t, false)) := by
  unfold rdTx
  show ((readW (wordS s)).1, (t, false || !(readW (wordS s)).2.1)) = _
  rw [read_of_word]; rfl
theorem rdC_of {c : List Seen} (h : GX c) (t : List Str) : rdC (ctxS c :: t, false) = (c, (t, false)) := by
  unfold rdC
  show ((ctxP (ctxS c)).1, (t, false || (ctxP (ctxS c)).2)) = _
  rw [ctxP_of h]; rfl
theorem callP_of {c : Call} (h : GC c) : callP (callF c, false) = (c, ([], false)) := by
  obtain ⟨h1, _, _, _, _, h6, h7⟩ := h
  unfold callP callF
  simp only [rdN_of h1, rdTx_of, rdC_of h6, rdN_of h7]
theorem st_up (b : Bool) : (stS b == ([117, 112] : Str)) = b := by cases b <;> rfl
theorem admP_of {a : Admin} (h : GA a) : admP (admF a, false) = (a, ([], false)) := by
  obtain ⟨h1, _, _, _, _, h6, _⟩ := h
  unfold admP adm9 adm5 admF
  simp only [rdN_of h1, rdTx_of, rdN_of h6]
  show ((_, (_, (_, (_, (_, (_, (_, (_, (_, (stS a.2.2.2.2.2.2.2.2.2 == ([117, 112] : Str))))))))))), ([], false)) = _
  rw [st_up]
theorem evP_of {e : Event} (h : GE e) : evP (fieldsE e, false) = (bareE e, ([], false)) := by
  obtain ⟨h1, _, _, _, h5, h6, h7⟩ := h
  have e0 : fieldsE e = kindS e.1 :: wordS e.2.1 :: wordS e.2.2.1 :: wordS e.2.2.2.1 :: decS e.2.2.2.2.1 :: (bif decide (e.1 = 1) then callF e.2.2.2.2.2.1 else bif decide (e.1 = 14) then admF e.2.2.2.2.2.2 else []) := rfl
  unfold evP ev4 bareE
  rw [e0]
  simp only [rdK_of h1, rdTx_of, rdN_of h5]
  cases q1 : decide (e.1 = 1) with
  | true =>
    have q2 : decide (e.1 = 14) = false := decide_eq_false (by have := of_decide_eq_true q1; omega)
    rw [q2, cond_true, cond_true, cond_true, cond_false, callP_of h6]
  | false =>
    rw [cond_false, cond_false, cond_false]
    cases q2 : decide (e.1 = 14) with
    | true => rw [cond_true, cond_true, cond_true, admP_of h7]
    | false => rfl
def parseS (s : Str) : Event × Int × Unit := bif (evP (splitC 32 s, false)).2.2 || (!(lineS (evP (splitC 32 s, false)).1 == s)) then (ev0, 3, ()) else ((evP (splitC 32 s, false)).1, 0, ())
theorem split_sm (c : UInt8) {s : Str} (hs : s.length ≤ 100000) (b : Bool) : SmW (splitC c s, b) := fun w hw => Nat.le_trans (splitC_len c s w hw) hs
theorem parse_run (s : Str) (hs : s.length ≤ 100000) : (text_Parse_T s).run = some (parseS s) := by
  have hsm := split_sm 32 hs false
  unfold text_Parse_T parseS
  refine (run_bnd (split_run 32 s (by omega))).trans ?_
  refine (run_bnd (event_run _ hsm)).trans ?_
  refine (run_grd (line_run _ (evP_in hsm))).trans ?_
  show (Tree.ite ((evP (splitC 32 s, false)).2.2 || (!(lineS (evP (splitC 32 s, false)).1 == s))) (.ret (ev0, 3, ())) (.ret ((evP (splitC 32 s, false)).1, 0, ()))).run = _
  cases (evP (splitC 32 s, false)).2.2 || (!(lineS (evP (splitC 32 s, false)).1 == s)) <;> rfl

/-! The document's guess. -/
theorem parseS_of {e : Event} (h : GE e) : parseS (lineS e) = (bareE e, 0, ()) := by
  unfold parseS
  rw [line_parts, evP_of h]
  show (bif false || (!(lineS (bareE e) == lineS e)) then _ else _ : Event × Int × Unit) = _
  rw [line_bare, beq_self_eq_true]; rfl
theorem parseS_in (s : Str) (hs : s.length ≤ 100000) : GE (parseS s).1 := by
  unfold parseS
  cases (evP (splitC 32 s, false)).2.2 || (!(lineS (evP (splitC 32 s, false)).1 == s)) with
  | true => exact ge0
  | false => exact evP_in (split_sm 32 hs false)

end Go.Eng

