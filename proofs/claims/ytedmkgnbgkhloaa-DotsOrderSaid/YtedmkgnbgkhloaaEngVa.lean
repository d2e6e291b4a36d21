/- Calls that are handed memory: out of code; and in a larger memory. -/
import Derived.Test.YtedmkgnbgkhloaaEngV
namespace Go.Eng
open Go Go.RowKit

variable {P : Program} {T : Tab} {base : Env} {w : World} {S : Nat → Prop} {m : Locs} {M : Mem}

/-- A slice that is nil, taken as one of the call's own. -/
theorem AWp.ownNil {c : Code} {Q : Exit → AS → Prop} {A : AS} (i : Nat) (e : TypeId) (sz : Nat) (c0 : Nat → Nat → AV) (hi : nth A.ts i = .nilsl ∨ nth A.ts i = .emp)
    (h : AWp P c Q ⟨put A.ts i (.own (lenM A.m) 0), snocM A.m (.rows e sz 0 c0), A.np⟩) : AWp P c Q A := by
  refine ⟨fun base w S m a hM hA => ?_⟩
  obtain ⟨ht, hm⟩ := hM.rel.allocN (.rows e sz 0 c0) rfl
  have hs := h.sem base w S (m ++ [none]) a ⟨hm, hM.pins⟩ ⟨by rw [lenA_put]; exact hA.1, hA.2.1, fun t => ?_⟩
  · exact hs
  · have hr := hA.2.2 t
    rw [nth_put]
    split
    · rename_i e'
      obtain ⟨rfl, _⟩ := e'
      have hlast : (m ++ [none])[lenM A.m]? = some none := by rw [← hM.rel.len]; simp
      rcases hi with hi | hi <;> rw [hi] at hr <;> (generalize a.tmps.getD i Go.undef = v at hr; cases hr; exact .own0 _ _ _ hlast)
    · exact ht.rel hr

/-! What a call answers, its own memory in it. -/
def rawVs (T : Tab) (A : AS) : List ResultVar → List AV
  | [] => []
  | r :: l => (aRes1 T A r).v :: rawVs T A l
def rawV (T : Tab) (A : AS) : List ResultVar → AV
  | [r] => (aRes1 T A r).v
  | rs => .tup (rawVs T A rs)

/-- What the code of a function must come to that is handed memory. -/
structure PostSR (T : Tab) (rs : List ResultVar) (np : Nat) (r : R) (A : AS) : Prop where
  ks : AllT (retKs T A rs)
  v : Le (rawV T A rs) r.v
  le : lenM r.m ≤ lenM A.m
  m : ∀ i, i < lenM r.m → (∀ w S m l, BRel w S m l (blk A.m i) → BRel w S m l (blk r.m i)) ∧ (isCells (blk A.m i) = true → isCells (blk r.m i) = true)
  np : np ≤ lenM r.m
  cl : lenM A.m = lenM r.m ∨ (closedN (lenM r.m) 4 r.v = true ∧ closedM (lenM r.m) r.m = true)

def PostS (T : Tab) (rs : List ResultVar) (np : Nat) (r : R) : Exit → AS → Prop
  | .ret, A => PostSR T rs np r A
  | .normal, A => PostSR T rs np r A
  | _, _ => False

theorem rawVs_len (A : AS) (rs : List ResultVar) : lenA (rawVs T A rs) = rs.length := by induction rs with | nil => rfl | cons r rs ih => simp [rawVs, lenA, ih]
theorem rawVs_nth (A : AS) (rs : List ResultVar) (i : Nat) (hi : i < rs.length) : nth (rawVs T A rs) i = (aRes1 T A rs[i]).v := by
  induction rs generalizing i with
  | nil => simp at hi
  | cons r rs ih => cases i with
    | zero => rfl
    | succ i => simpa [rawVs, nth] using ih i (by simpa using hi)

/-- All blocks are cells, but for one that may move. -/
def cellsBut (inv : Option Nat) : Nat → Mem → Bool
  | _, [] => true
  | i, B :: l => match isCells B with
    | true => cellsBut inv (i + 1) l
    | false => match inv with
      | some j => match Nat.beq i j with | true => cellsBut inv (i + 1) l | false => false
      | none => false

theorem cellsBut_blk {inv : Option Nat} : ∀ {M : Mem} {s : Nat}, cellsBut inv s M = true → ∀ i, i < lenM M → isCells (blk M i) = true ∨ inv = some (s + i)
  | B :: l, s, h, i, hi => by
    simp only [cellsBut] at h
    split at h
    · rename_i hc
      cases i with
      | zero => exact .inl hc
      | succ i =>
        have := cellsBut_blk h i (by simp [lenM] at hi; omega)
        rw [show s + 1 + i = s + (i + 1) by omega] at this
        exact this
    · split at h
      · rename_i j
        split at h
        · rename_i hj
          have hj := Nat.eq_of_beq_eq_true hj
          subst hj
          cases i with
          | zero => exact .inr rfl
          | succ i =>
            have := cellsBut_blk h i (by simp [lenM] at hi; omega)
            rw [show s + 1 + i = s + (i + 1) by omega] at this
            exact this
        · cases h
      · cases h

/-- A contract with memory, out of the code. -/
theorem SCalls.of {f : FuncId} {fn : Func} {c : Code} (hT : TabOk P T) (hf : P.funcs[f]? = some fn) (hb : fn.body = some c) (hname : (fn.name == "runtime.NumGoroutine") = false) {args : List AV} {r : R}
    (hc : cellsBut r.inv 0 M = true) (h : AWp P c (PostS T fn.results.toList (lenM M) r) ⟨catA args (und (fn.ntmps - lenA args)), M, lenM M⟩) : SCalls P f args M r := by
  intro Z w S m vs hM hargs
  refine .inl ⟨?_, ?_⟩
  · have hn : ¬ fn.name = "runtime.NumGoroutine" := by simpa using hname
    simp [callFunc, hf, hb, hn]
  refine calls_of_wp hf hb ?_
  -- what lies where it lay
  let E : Env := ⟨fun g => Z.Z g ∨ S g, fun i => match isCells (blk M i) with | true => (m[i]?).join | false => none⟩
  have hE : ∀ i l, E.pin i = some l ↔ isCells (blk M i) = true ∧ m[i]? = some (some l) := fun i l => by
    show (match isCells (blk M i) with | true => (m[i]?).join | false => none) = some l ↔ _
    cases hic : isCells (blk M i) with
    | false => simp
    | true => simp [Option.join_eq_some_iff]
  have hME : MRel E w S m M := ⟨hM.len, hM.sb, hM.bk, fun i l hi => ⟨fun h => h.elim (hM.lt i l hi).1 (hM.lt i l hi).2.2, (hM.lt i l hi).2⟩, hM.inj, fun b h => h.elim (hM.base_le b) (hM.sb b), fun i l hi => ⟨((hE i l).1 hi).2, ((hE i l).1 hi).1⟩⟩
  have hA : ARel w S m { tmps := vs ++ Array.replicate (fn.ntmps - vs.size) Go.undef, defers := [] } (catA args (und (fn.ntmps - lenA args))) := by
    refine ⟨by rw [lenA_cat, lenA_und]; simp [hargs.1], rfl, fun t => ?_⟩
    rw [nth_cat]
    simp only [Array.getD_eq_getD_getElem?]
    split
    · rename_i hlt
      rw [Array.getElem?_append_left (by rw [hargs.1]; exact hlt)]
      have := hargs.2 t hlt
      simpa using this
    · rw [nth_und]; exact .undef _ _
  have hpins : ∀ i l, E.pin i = some l → i < lenM M := fun i l hi => by
    have := ((hE i l).1 hi).2
    rw [← hM.len]; exact (List.getElem?_eq_some_iff.1 this).1
  refine Code.wp_mono ?_ (h.sem E w S m _ ⟨hME, hpins⟩ hA)
  rintro e a' w' ⟨A', S', m', hq, hbel, hS, hU, hM₀, hA'⟩
  have fin : PostSR T fn.results.toList (lenM M) r A' → a'.defers = [] ∧ ∃ v, (results fn a'.tmps).run P w' = .ok v w' ∧ SPost Z w S m r (.returned v) w' := by
    intro hr
    have hM' := hM₀.rel
    obtain ⟨us, k1, k2, k3⟩ := run_ress hT hM' hA' fn.results.toList hr.ks
    have hrun : (results fn a'.tmps).run P w' = .ok (if h : us.toArray.size = 1 then us.toArray[0] else .tuple us.toArray) w' := by
      unfold results
      rw [Array.mapM_eq_mapM_toList]
      simp only [Sem.run_bind, Sem.run_map, Result.andThen_ok, Sem.run_pure, Result.andThen]
      erw [k1]
    have hraw : Rel w' S' m' (if h : us.toArray.size = 1 then us.toArray[0] else .tuple us.toArray) (rawV T A' fn.results.toList) := by
      generalize hrs : fn.results.toList = rs at *
      match rs, us, k2, k3 with
      | [r1], [u], _, k3 => exact k3 0 (by simp) (by simp)
      | [], [], _, _ => exact .tup _ _ _ rfl fun i hi => absurd hi (Nat.not_lt_zero i)
      | r1 :: r2 :: rs, u1 :: u2 :: us, k2, k3 =>
        have hne : ¬ (u1 :: u2 :: us).toArray.size = 1 := by simp
        rw [dif_neg hne]
        refine .tup _ _ _ (by show _ = lenA (rawVs T A' (r1 :: r2 :: rs)); rw [rawVs_len]; simpa using k2) fun i hi => ?_
        change i < lenA (rawVs T A' (r1 :: r2 :: rs)) at hi
        rw [rawVs_len] at hi
        rw [rawVs_nth _ _ _ hi]
        have hi' : i < (u1 :: u2 :: us).length := by rw [k2]; exact hi
        have := k3 i hi hi'
        have e : (u1 :: u2 :: us).toArray.getD i Go.undef = (u1 :: u2 :: us)[i] := by rw [Array.getD_eq_getD_getElem?, List.getElem?_toArray, List.getElem?_eq_getElem hi']; rfl
        rw [e]; exact this
    refine ⟨hA'.2.1, _, hrun, ?_⟩
    have hv := hr.v _ _ _ _ hraw
    -- where the blocks lie
    have hloc : ∀ i l, isCells (blk M i) = true → m[i]? = some l → m'[i]? = some l := fun i l hic hi => by
      have hbk := hM.bk i l hi
      cases l with
      | none => revert hbk; cases hB : blk M i <;> rw [hB] at hic <;> simp [isCells, BRel] at hic ⊢
      | some l => exact (hM'.pin i l ((hE i l).2 ⟨hic, hi⟩)).1
    have hkle : lenM r.m ≤ lenM A'.m := hr.le
    have hlen' : (m'.take (lenM r.m)).length = lenM r.m := by rw [List.length_take, hM'.len]; omega
    have hlm : ∀ (i : Nat) (l : Option Loc), r.inv ≠ some i → m[i]? = some l → (m'.take (lenM r.m))[i]? = some l := fun i l hne hi => by
      have hlt : i < lenM M := by rw [← hM.len]; exact (List.getElem?_eq_some_iff.1 hi).1
      rw [List.getElem?_take_of_lt (Nat.lt_of_lt_of_le hlt hr.np)]
      rcases cellsBut_blk hc i hlt with hic | hinv
      · exact hloc i l hic hi
      · exact absurd (by rw [hinv, Nat.zero_add]) hne
    have hcl : closedN (lenM r.m) 4 r.v = true ∧ closedM (lenM r.m) r.m = true ∨ lenM A'.m = lenM r.m := hr.cl.symm
    have hvt : Rel w' S' (m'.take (lenM r.m)) (if h : us.toArray.size = 1 then us.toArray[0] else .tuple us.toArray) r.v := by
      rcases hcl with ⟨c1, _⟩ | c1
      · exact hv.take 4 c1
      · rw [← c1, ← hM'.len, List.take_length]; exact hv
    refine ⟨_, S', m'.take (lenM r.m), rfl, ⟨hbel.mono fun _ h => .inl h, hS, fun b h => (hU b h).imp id fun h h' => h (.inl h'), fun b hb => hbel.block b (.inr hb), hlm⟩, ?_, hvt⟩
    · have hs' : ∀ {i : Nat} {l : Option Loc}, (m'.take (lenM r.m))[i]? = some l → i < lenM r.m ∧ m'[i]? = some l := fun {i l} h' => by
        have hlt : i < lenM r.m := by have := (List.getElem?_eq_some_iff.1 h').1; omega
        rw [List.getElem?_take_of_lt hlt] at h'; exact ⟨hlt, h'⟩
      refine ⟨hlen', hM'.sb, fun i l hi => ?_, fun i l hi => have q := hM'.lt i l (hs' hi).2; ⟨fun h => q.1 (.inl h), q.2⟩, fun i j l l' hi hj => hM'.inj i j l l' (hs' hi).2 (hs' hj).2, fun b h => hM'.base_le b (.inl h), fun i l hi => ?_⟩
      · obtain ⟨hlt, hi⟩ := hs' hi
        have hB := (hr.m i hlt).1 _ _ _ _ (hM'.bk i l hi)
        rcases hcl with ⟨_, c1⟩ | c1
        · exact hB.take (fun e cs he => closedM_blk c1 he)
        · rw [← c1, ← hM'.len, List.take_length]; exact hB
      · obtain ⟨q1, q2⟩ := hM.pin i l hi
        have hlt : i < lenM r.m := Nat.lt_of_lt_of_le (by rw [← hM.len]; exact (List.getElem?_eq_some_iff.1 q1).1) hr.np
        obtain ⟨q3, q4⟩ := hM'.pin i l ((hE i l).2 ⟨q2, q1⟩)
        rw [List.getElem?_take_of_lt hlt]
        exact ⟨q3, (hr.m i hlt).2 q4⟩
  cases e with
  | ret => exact fin hq
  | normal => exact fin hq
  | exit id => exact hq.elim
  | goto l => exact hq.elim
  | panic ch => exact hq.elim
  | outgrown => exact hq.elim

end Go.Eng
