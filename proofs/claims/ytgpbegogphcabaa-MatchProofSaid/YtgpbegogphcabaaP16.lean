/- Laws in plain Lean: mt16 mu16 m16 a16 b16 c16 d16 e16 f16 setl g16 h16. -/
import Derived.Test.YtgpbegogphcabaaL16
import Derived.Test.YtgpbegogphcabaaTrI
import Derived.Test.YtgpbegogphcabaaTrH
import Derived.Test.YtgpbegogphcabaaTrS
namespace Go.Eng
open Go Go.Proofs Go.RowKit

/-! Pairs that do not meet: by ways that end where nothing is chosen. -/
abbrev Pf : Type := Int → Option Nat
def upd (f : Pf) (k : Int) (a : Nat) : Pf := fun q => if q = k then some a else f q
theorem upd_same (f : Pf) (k : Int) (a : Nat) : upd f k a k = some a := if_pos rfl
theorem upd_other (f : Pf) {k q : Int} (a : Nat) (h : q ≠ k) : upd f k a q = f q := if_neg h
/-- What was chosen, from the left and from the right. -/
structure Valid (l : List (Int × Int)) (L R : Pf) : Prop where
  lr : ∀ u a, L u = some a → ∃ v, l[a]? = some (u, v) ∧ R v = some a
  rl : ∀ v a, R v = some a → ∃ u, l[a]? = some (u, v) ∧ L u = some a
/-- A way from a number on the left, by rights that were not seen, to one that is free; what is chosen behind it. -/
inductive Aug (l : List (Int × Int)) (L R : Pf) : (Int → Prop) → Int → Pf → Pf → Prop where
  | base {S : Int → Prop} {u : Int} {a : Nat} {v : Int} (h : l[a]? = some (u, v)) (hs : ¬ S v) (hr : R v = none) : Aug l L R S u (upd L u a) (upd R v a)
  | step {S S1 : Int → Prop} {u : Int} {a : Nat} {v : Int} {o : Nat} {w v' : Int} {L1 R1 : Pf} (h : l[a]? = some (u, v)) (hs : ¬ S v) (hr : R v = some o) (ho : l[o]? = some (w, v')) (h1 : ∀ x, S x → S1 x) (hv : S1 v)
      (ih : Aug l L R S1 w L1 R1) : Aug l L R S u (upd L1 u a) (upd R1 v a)
structure AugOk (l : List (Int × Int)) (L R : Pf) (S : Int → Prop) (u : Int) (L' R' : Pf) : Prop where
  lr : ∀ (q : Int) (a : Nat), L' q = some a → ∃ v : Int, l[a]? = some (q, v) ∧ R' v = some a
  rl : ∀ (v : Int) (a : Nat), R' v = some a → (∀ (o : Nat) (z : Int), L u = some o → l[o]? = some (u, z) → v ≠ z) → ∃ q : Int, l[a]? = some (q, v) ∧ L' q = some a
  seen : ∀ v, S v → R' v = R v
  dom : ∀ q, L' q = none ↔ (q ≠ u ∧ L q = none)
  far : ∀ w a z, L w = some a → l[a]? = some (w, z) → S z → w ≠ u → L' w = L w
  new : ∃ a z, L' u = some a ∧ l[a]? = some (u, z) ∧ ¬ S z
theorem Aug.ok {l : List (Int × Int)} {L R : Pf} (hV : Valid l L R) {S : Int → Prop} {u : Int} {L' R' : Pf} (h : Aug l L R S u L' R') : (∀ o z, L u = some o → l[o]? = some (u, z) → S z) → AugOk l L R S u L' R' := by
  induction h with
  | @base S u a v h hs hr =>
    intro hu
    refine ⟨fun q b hq => ?_, fun z b hz hne => ?_, fun z hz => upd_other _ _ (fun e => hs (e ▸ hz)), fun q => ?_, fun w b z hw hb hz hwu => upd_other _ _ hwu, ⟨a, v, upd_same _ _ _, h, hs⟩⟩
    · by_cases e : q = u
      · subst e; rw [upd_same] at hq; cases hq; exact ⟨v, h, upd_same _ _ _⟩
      · rw [upd_other _ _ e] at hq
        obtain ⟨z, h1, h2⟩ := hV.lr q b hq
        refine ⟨z, h1, ?_⟩
        rw [upd_other _ _ (fun e => by rw [e, hr] at h2; cases h2)]; exact h2
    · by_cases e : z = v
      · subst e; rw [upd_same] at hz; cases hz; exact ⟨u, h, upd_same _ _ _⟩
      · rw [upd_other _ _ e] at hz
        obtain ⟨q, h1, h2⟩ := hV.rl z b hz
        refine ⟨q, h1, ?_⟩
        rw [upd_other _ _ (fun e => by subst e; exact hne b z h2 h1 rfl)]; exact h2
    · by_cases e : q = u
      · subst e; rw [upd_same]; exact ⟨fun h => (by cases h), fun h => absurd rfl h.1⟩
      · rw [upd_other _ _ e]; exact ⟨fun h => ⟨e, h⟩, fun h => h.2⟩
  | @step S S1 u a v o w v' L1 R1 h hs hr ho h1 hv ih0 ih =>
    intro hu
    obtain ⟨w2, k1, k2⟩ := hV.rl v o hr
    rw [ho] at k1
    cases k1
    have hI := ih fun o' z hL hl => by
      rw [k2] at hL; cases hL; rw [ho] at hl; cases hl; exact hv
    have huw : u ≠ w := fun e => by
      subst e; exact hs (hu o v k2 ho)
    refine ⟨fun q b hq => ?_, fun z b hz hne => ?_, fun z hz => ?_, fun q => ?_, fun w1 b z hw hb hz hwu => ?_, ⟨a, v, upd_same _ _ _, h, hs⟩⟩
    · by_cases e : q = u
      · subst e; rw [upd_same] at hq; cases hq; exact ⟨v, h, upd_same _ _ _⟩
      · rw [upd_other _ _ e] at hq
        obtain ⟨z, q1, q2⟩ := hI.lr q b hq
        refine ⟨z, q1, ?_⟩
        by_cases ez : z = v
        · exfalso
          subst ez
          rw [hI.seen z hv, hr] at q2
          cases q2
          rw [ho] at q1
          cases q1
          obtain ⟨a2, z2, n1, n2, n3⟩ := hI.new
          rw [hq] at n1
          cases n1
          rw [ho] at n2
          cases n2
          exact n3 hv
        · rw [upd_other _ _ ez]; exact q2
    · by_cases e : z = v
      · subst e; rw [upd_same] at hz; cases hz; exact ⟨u, h, upd_same _ _ _⟩
      · rw [upd_other _ _ e] at hz
        obtain ⟨q, q1, q2⟩ := hI.rl z b hz fun o' z' hL hl => by
          rw [k2] at hL; cases hL; rw [ho] at hl; cases hl; exact e
        refine ⟨q, q1, ?_⟩
        by_cases eq : q = u
        · exfalso
          subst eq
          cases hq : L q with
          | none =>
            have := (hI.dom q).2 ⟨huw, hq⟩
            rw [q2] at this; cases this
          | some o' =>
            obtain ⟨z2, r1, r2⟩ := hV.lr q o' hq
            have := hI.far q o' z2 hq r1 (h1 z2 (hu o' z2 hq r1)) huw
            rw [q2, hq] at this
            cases this
            rw [q1] at r1
            cases r1
            exact hne b z hq q1 rfl
        · rw [upd_other _ _ eq]; exact q2
    · rw [upd_other R1 a (show z ≠ v from fun e => hs (e ▸ hz))]; exact hI.seen z (h1 z hz)
    · by_cases e : q = u
      · subst e; rw [upd_same]; exact ⟨fun h => (by cases h), fun h => absurd rfl h.1⟩
      · rw [upd_other _ _ e]
        rw [hI.dom q]
        refine ⟨fun h => ⟨e, h.2⟩, fun h => ⟨fun ew => ?_, h.2⟩⟩
        rw [ew, k2] at h; cases h.2
    · rw [upd_other _ _ hwu]
      refine hI.far w1 b z hw hb (h1 z hz) fun ew => ?_
      subst ew
      rw [k2] at hw
      cases hw
      rw [ho] at hb
      cases hb
      exact hs hz
theorem Aug.valid {l : List (Int × Int)} {L R : Pf} (hV : Valid l L R) {S : Int → Prop} {u : Int} {L' R' : Pf} (h : Aug l L R S u L' R') (hu : L u = none) : Valid l L' R' ∧ ∀ q, L' q = none ↔ (q ≠ u ∧ L q = none) := by
  have hI := h.ok hV fun o z hL _ => by rw [hu] at hL; cases hL
  exact ⟨⟨hI.lr, fun v a hv => hI.rl v a hv fun o z hL _ => by rw [hu] at hL; cases hL⟩, hI.dom⟩

/-! Rights from which one comes nowhere else. -/
def Clo (l : List (Int × Int)) (R : Pf) (E : Int → Prop) : Prop := ∀ v, E v → ∃ (o : Nat) (w : Int), R v = some o ∧ l[o]? = some (w, v) ∧ ∀ (a : Nat) (z : Int), l[a]? = some (w, z) → E z
theorem Aug.no {l : List (Int × Int)} {L R : Pf} {E : Int → Prop} (hE : Clo l R E) {S : Int → Prop} {u : Int} {L' R' : Pf} (h : Aug l L R S u L' R') : (∀ (a : Nat) (z : Int), l[a]? = some (u, z) → E z) → False := by
  induction h with
  | base h hs hr =>
    intro hn
    obtain ⟨o, w, h1, _⟩ := hE _ (hn _ _ h)
    rw [hr] at h1; cases h1
  | step h hs hr ho h1 hv ih0 ih =>
    intro hn
    obtain ⟨o, w, h1, h2, h3⟩ := hE _ (hn _ _ h)
    rw [hr] at h1; cases h1
    rw [ho] at h2; cases h2
    exact ih h3
theorem Aug.keep {l : List (Int × Int)} {L R : Pf} {E : Int → Prop} (hE : Clo l R E) {S : Int → Prop} {u : Int} {L' R' : Pf} (h : Aug l L R S u L' R') : ∀ v, E v → R' v = R v := by
  induction h with
  | base h hs hr =>
    intro z hz
    refine upd_other _ _ fun e => ?_
    subst e
    obtain ⟨o, w, h1, _⟩ := hE _ hz
    rw [hr] at h1; cases h1
  | step h hs hr ho h1 hv ih0 ih =>
    intro z hz
    rw [upd_other _ _ (fun e => ?_)]
    · exact ih z hz
    · subst e
      obtain ⟨o, w, q1, q2, q3⟩ := hE _ hz
      rw [hr] at q1; cases q1
      rw [ho] at q2; cases q2
      exact ih0.no hE q3
theorem Clo.mono {l : List (Int × Int)} {R R' : Pf} {E : Int → Prop} (hE : Clo l R E) (h : ∀ v, E v → R' v = R v) : Clo l R' E := fun v hv => by
  obtain ⟨o, w, h1, h2, h3⟩ := hE v hv
  exact ⟨o, w, (h v hv).trans h1, h2, h3⟩

/-! One try that fails. -/
/-- Behind the first i pairs, none of which led on. -/
structure FailI (l : List (Int × Int)) (R : Pf) (S : Int → Prop) (u : Int) (i : Nat) (S' : Int → Prop) : Prop where
  mono : ∀ x, S x → S' x
  all : ∀ (a : Nat) (z : Int), a < i → l[a]? = some (u, z) → S' z
  clo : ∀ v, S' v → ¬ S v → ∃ (o : Nat) (w : Int), R v = some o ∧ l[o]? = some (w, v) ∧ ∀ (a : Nat) (z : Int), l[a]? = some (w, z) → S' z
theorem FailI.zero (l : List (Int × Int)) (R : Pf) (S : Int → Prop) (u : Int) : FailI l R S u 0 S := ⟨fun _ h => h, fun _ _ h => absurd h (Nat.not_lt_zero _), fun _ h k => absurd h k⟩
theorem FailI.skip {l : List (Int × Int)} {R : Pf} {S : Int → Prop} {u : Int} {i : Nat} {S' : Int → Prop} (h : FailI l R S u i S') (hn : ∀ z, l[i]? = some (u, z) → S' z) : FailI l R S u (i + 1) S' :=
  ⟨h.mono, fun a z ha hl => by
    by_cases e : a = i
    · subst e; exact hn z hl
    · exact h.all a z (by omega) hl, h.clo⟩
theorem FailI.more {l : List (Int × Int)} {R : Pf} {S : Int → Prop} {u : Int} {i : Nat} {S' S2 : Int → Prop} {v w : Int} {o : Nat} (h : FailI l R S u i S') (hl : l[i]? = some (u, v)) (hr : R v = some o) (ho : l[o]? = some (w, v))
    (h2 : FailI l R (fun x => S' x ∨ x = v) w l.length S2) : FailI l R S u (i + 1) S2 := by
  have hw : ∀ (a : Nat) (z : Int), l[a]? = some (w, z) → S2 z := fun a z ha => h2.all a z (List.getElem?_eq_some_iff.1 ha).1 ha
  refine ⟨fun x hx => h2.mono x (.inl (h.mono x hx)), fun a z ha hz => ?_, fun z hz hn => ?_⟩
  · by_cases e : a = i
    · subst e; rw [hl] at hz; cases hz; exact h2.mono _ (.inr rfl)
    · exact h2.mono _ (.inl (h.all a z (by omega) hz))
  · by_cases e : S' z ∨ z = v
    · rcases e with e | e
      · obtain ⟨o1, w1, q1, q2, q3⟩ := h.clo z e hn
        exact ⟨o1, w1, q1, q2, fun a y ha => h2.mono _ (.inl (q3 a y ha))⟩
      · subst e; exact ⟨o, w, hr, ho, hw⟩
    · exact h2.clo z hz e

/-! All of the pairs, one by one. -/
structure Chosen (l : List (Int × Int)) (k : Nat) (L R : Pf) : Prop where
  val : Valid l L R
  clo : ∃ E : Int → Prop, Clo l R E ∧ ∀ (a : Nat) (u z : Int), a < k → l[a]? = some (u, z) → L u = none → ∀ (b : Nat) (y : Int), l[b]? = some (u, y) → E y
theorem Chosen.zero (l : List (Int × Int)) : Chosen l 0 (fun _ => none) (fun _ => none) :=
  ⟨⟨fun _ _ h => (by cases h), fun _ _ h => (by cases h)⟩, fun _ => False, fun _ h => h.elim, fun _ _ _ h => absurd h (Nat.not_lt_zero _)⟩
theorem Chosen.skip {l : List (Int × Int)} {k : Nat} {L R : Pf} (h : Chosen l k L R) (hn : ∀ u z, l[k]? = some (u, z) → L u ≠ none) : Chosen l (k + 1) L R := by
  obtain ⟨E, h1, h2⟩ := h.clo
  refine ⟨h.val, E, h1, fun a u z ha hl hu => ?_⟩
  by_cases e : a = k
  · subst e; exact absurd hu (hn u z hl)
  · exact h2 a u z (by omega) hl hu
theorem Chosen.fail {l : List (Int × Int)} {k : Nat} {L R : Pf} (h : Chosen l k L R) {u v : Int} (hk : l[k]? = some (u, v)) {S' : Int → Prop} (hf : FailI l R (fun _ => False) u l.length S') : Chosen l (k + 1) L R := by
  obtain ⟨E, h1, h2⟩ := h.clo
  refine ⟨h.val, fun x => E x ∨ S' x, fun z hz => ?_, fun a q z ha hl hu b y hb => ?_⟩
  · rcases hz with hz | hz
    · obtain ⟨o, w, q1, q2, q3⟩ := h1 z hz
      exact ⟨o, w, q1, q2, fun a y ha => .inl (q3 a y ha)⟩
    · obtain ⟨o, w, q1, q2, q3⟩ := hf.clo z hz id
      exact ⟨o, w, q1, q2, fun a y ha => .inr (q3 a y ha)⟩
  · by_cases e : a = k
    · subst e
      rw [hk] at hl; cases hl
      exact .inr (hf.all b y (List.getElem?_eq_some_iff.1 hb).1 hb)
    · exact .inl (h2 a q z (by omega) hl hu b y hb)
theorem Chosen.aug {l : List (Int × Int)} {k : Nat} {L R L' R' : Pf} (h : Chosen l k L R) {u v : Int} (hk : l[k]? = some (u, v)) (hu : L u = none) (ha : Aug l L R (fun _ => False) u L' R') : Chosen l (k + 1) L' R' ∧ ∀ q, L' q = none ↔ (q ≠ u ∧ L q = none) := by
  obtain ⟨hv, hd⟩ := ha.valid h.val hu
  obtain ⟨E, h1, h2⟩ := h.clo
  refine ⟨⟨hv, E, h1.mono (ha.keep h1), fun a q z hlt hl hq b y hb => ?_⟩, hd⟩
  obtain ⟨hne, hq⟩ := (hd q).1 hq
  by_cases e : a = k
  · subst e; rw [hk] at hl; cases hl; exact absurd rfl hne
  · exact h2 a q z (by omega) hl hq b y hb

/-! How many at most. -/
theorem nodup_le {α : Type} [DecidableEq α] : ∀ {a b : List α}, a.Nodup → (∀ x, x ∈ a → x ∈ b) → a.length ≤ b.length
  | [], _, _, _ => Nat.zero_le _
  | x :: a, b, hn, hs => by
    obtain ⟨h1, h2⟩ := List.nodup_cons.1 hn
    have hx := hs x List.mem_cons_self
    have := nodup_le (a := a) (b := b.erase x) h2 fun y hy => (List.mem_erase_of_ne (show y ≠ x from fun e => h1 (by rw [← e]; exact hy))).2 (hs y (List.mem_cons_of_mem _ hy))
    rw [List.length_erase_of_mem hx] at this
    have hp := List.length_pos_of_mem hx
    rw [List.length_cons]; omega
/-- Places of pairs that do not meet. -/
def Ind (l : List (Int × Int)) (I : List Nat) : Prop := (∀ i ∈ I, i < l.length) ∧ I.Pairwise fun i j => ∀ p q, l[i]? = some p → l[j]? = some q → p.1 ≠ q.1 ∧ p.2 ≠ q.2
theorem pairwise_nodup_map {α β : Type} {r : α → α → Prop} {f : α → β} : ∀ {I : List α}, I.Pairwise r → (∀ i ∈ I, ∀ j ∈ I, r i j → f i ≠ f j) → (I.map f).Nodup
  | [], _, _ => List.nodup_nil
  | i :: I, h, hf => by
    obtain ⟨h1, h2⟩ := List.pairwise_cons.1 h
    rw [List.map_cons, List.nodup_cons]
    refine ⟨fun hm => ?_, pairwise_nodup_map h2 fun a ha b hb => hf a (List.mem_cons_of_mem _ ha) b (List.mem_cons_of_mem _ hb)⟩
    obtain ⟨j, hj, e⟩ := List.mem_map.1 hm
    exact hf i List.mem_cons_self j (List.mem_cons_of_mem _ hj) (h1 j hj) e.symm
open Classical in
theorem ind_le {l : List (Int × Int)} {L R : Pf} (h : Chosen l l.length L R) {D : List Int} (hD : ∀ u, L u ≠ none → u ∈ D) {I : List Nat} (hI : Ind l I) : I.length ≤ D.length := by
  obtain ⟨E, h1, h2⟩ := h.clo
  let f : Nat → Int := fun i => match l[i]? with
    | some (u, v) => if E v then (match R v with | some o => (match l[o]? with | some (w, _) => w | none => 0) | none => 0) else u
    | none => 0
  have fE : ∀ (i : Nat) (u v : Int), l[i]? = some (u, v) → E v → ∃ (o : Nat) (w : Int), R v = some o ∧ l[o]? = some (w, v) ∧ (∀ (a : Nat) (z : Int), l[a]? = some (w, z) → E z) ∧ f i = w := fun i u v hi hv => by
    obtain ⟨o, w, q1, q2, q3⟩ := h1 v hv
    refine ⟨o, w, q1, q2, q3, ?_⟩
    show (match l[i]? with
      | some (u, v) => if E v then (match R v with | some o => (match l[o]? with | some (w, _) => w | none => 0) | none => 0) else u
      | none => 0) = w
    rw [hi]
    simp only [if_pos hv, q1, q2]
  have fN : ∀ (i : Nat) (u v : Int), l[i]? = some (u, v) → ¬ E v → f i = u := fun i u v hi hv => by
    show (match l[i]? with
      | some (u, v) => if E v then (match R v with | some o => (match l[o]? with | some (w, _) => w | none => 0) | none => 0) else u
      | none => 0) = u
    rw [hi]
    simp only [if_neg hv]
  have hnd : (I.map f).Nodup := pairwise_nodup_map hI.2 fun i hi j hj hr e => by
    have li := hI.1 i hi
    have lj := hI.1 j hj
    obtain ⟨⟨u, v⟩, hp⟩ : ∃ p, l[i]? = some p := ⟨_, List.getElem?_eq_getElem li⟩
    obtain ⟨⟨u', v'⟩, hq⟩ : ∃ p, l[j]? = some p := ⟨_, List.getElem?_eq_getElem lj⟩
    obtain ⟨n1, n2⟩ := hr _ _ hp hq
    by_cases ev : E v
    · obtain ⟨o, w, q1, q2, q3, q4⟩ := fE i u v hp ev
      by_cases ev' : E v'
      · obtain ⟨o', w', r1, r2, r3, r4⟩ := fE j u' v' hq ev'
        rw [q4, r4] at e
        subst e
        obtain ⟨_, s1, s2⟩ := h.val.rl v o q1
        obtain ⟨_, t1, t2⟩ := h.val.rl v' o' r1
        rw [q2] at s1; cases s1
        rw [r2] at t1; cases t1
        rw [s2] at t2; cases t2
        rw [q2] at r2; cases r2
        exact n2 rfl
      · rw [q4, fN j u' v' hq ev'] at e
        subst e
        exact ev' (q3 j v' hq)
    · by_cases ev' : E v'
      · obtain ⟨o', w', r1, r2, r3, r4⟩ := fE j u' v' hq ev'
        rw [r4, fN i u v hp ev] at e
        subst e
        exact ev (r3 i v hp)
      · rw [fN i u v hp ev, fN j u' v' hq ev'] at e
        exact n1 e
  have hsub : ∀ x, x ∈ I.map f → x ∈ D := fun x hx => by
    obtain ⟨i, hi, rfl⟩ := List.mem_map.1 hx
    have li := hI.1 i hi
    obtain ⟨⟨u, v⟩, hp⟩ : ∃ p, l[i]? = some p := ⟨_, List.getElem?_eq_getElem li⟩
    by_cases ev : E v
    · obtain ⟨o, w, q1, q2, q3, q4⟩ := fE i u v hp ev
      obtain ⟨_, s1, s2⟩ := h.val.rl v o q1
      rw [q2] at s1; cases s1
      rw [q4]
      exact hD w (by rw [s2]; exact fun e => by cases e)
    · rw [fN i u v hp ev]
      exact hD u fun e => ev (h2 i u v li hp e i v hp)
  have := nodup_le hnd hsub
  rwa [List.length_map] at this
/-- What was chosen does not meet. -/
theorem chosen_ind {l : List (Int × Int)} {L R : Pf} (h : Valid l L R) {D : List Int} (hn : D.Nodup) (hD : ∀ u, u ∈ D → L u ≠ none) : Ind l (D.map fun u => (L u).getD 0) := by
  refine ⟨fun i hi => ?_, ?_⟩
  · obtain ⟨u, hu, rfl⟩ := List.mem_map.1 hi
    cases hL : L u with
    | none => exact absurd hL (hD u hu)
    | some a =>
      obtain ⟨v, h1, _⟩ := h.lr u a hL
      exact (List.getElem?_eq_some_iff.1 h1).1
  · rw [List.pairwise_map]
    refine List.Pairwise.imp_of_mem (fun {u w} hu hw hne p q hp hq => ?_) hn
    cases hL : L u with
    | none => exact absurd hL (hD u hu)
    | some a =>
      cases hL' : L w with
      | none => exact absurd hL' (hD w hw)
      | some b =>
        rw [hL] at hp
        rw [hL'] at hq
        obtain ⟨v, h1, h2⟩ := h.lr u a hL
        obtain ⟨v', h3, h4⟩ := h.lr w b hL'
        have hp : l[a]? = some p := hp
        have hq : l[b]? = some q := hq
        rw [h1] at hp; cases hp
        rw [h3] at hq; cases hq
        refine ⟨hne, fun e => ?_⟩
        have e : v = v' := e
        subst e
        rw [h2] at h4; cases h4
        rw [h1] at h3; cases h3
        exact hne rfl

/-! The most that do not meet; trying all; one pair more. -/
def MaxInd (l : List (Int × Int)) (n : Nat) : Prop := (∃ I, Ind l I ∧ I.length = n) ∧ ∀ I, Ind l I → I.length ≤ n
theorem MaxInd.uniq {l : List (Int × Int)} {n m : Nat} (h : MaxInd l n) (k : MaxInd l m) : n = m := by
  obtain ⟨⟨I, h1, h2⟩, h3⟩ := h
  obtain ⟨⟨J, k1, k2⟩, k3⟩ := k
  have := k3 I h1
  have := h3 J k1
  omega
theorem chosen_max {l : List (Int × Int)} {L R : Pf} (h : Chosen l l.length L R) {D : List Int} (hn : D.Nodup) (hD : ∀ u, u ∈ D ↔ L u ≠ none) : MaxInd l D.length :=
  ⟨⟨_, chosen_ind h.val hn fun u hu => (hD u).1 hu, List.length_map _⟩, fun _ hI => ind_le h (fun u hu => (hD u).2 hu) hI⟩
theorem Ind.nodup {l : List (Int × Int)} {I : List Nat} (h : Ind l I) : I.Nodup := by
  refine List.Pairwise.imp_of_mem (fun {i j} hi hj hr e => ?_) h.2
  subst e
  exact (hr _ _ (List.getElem?_eq_getElem (h.1 i hi)) (List.getElem?_eq_getElem (h.1 i hi))).1 rfl
/-- Does a pair meet none of those at some places? -/
def meets (l : List (Int × Int)) (i j : Nat) : Bool := match l[i]?, l[j]? with
  | some p, some q => p.1 == q.1 || p.2 == q.2
  | _, _ => false
def freeB (l : List (Int × Int)) (places : List Nat) (at_ : Nat) : Bool := places.all fun i => !meets l i at_
def mostP (l : List (Int × Int)) : Nat → Nat → List Nat → Nat
  | 0, _, _ => 0
  | r + 1, i, places => if freeB l places i then max (mostP l r (i + 1) places) (1 + mostP l r (i + 1) (places ++ [i])) else mostP l r (i + 1) places
theorem meets_no {l : List (Int × Int)} {i j : Nat} (hi : i < l.length) (hj : j < l.length) : meets l i j = false ↔ ∀ p q, l[i]? = some p → l[j]? = some q → p.1 ≠ q.1 ∧ p.2 ≠ q.2 := by
  unfold meets
  rw [List.getElem?_eq_getElem hi, List.getElem?_eq_getElem hj]
  simp only [Bool.or_eq_false_iff, beq_eq_false_iff_ne]
  exact ⟨fun h p q hp hq => by cases hp; cases hq; exact h, fun h => h _ _ rfl rfl⟩
theorem ind_snoc {l : List (Int × Int)} {I : List Nat} {i : Nat} (hI : Ind l I) (hi : i < l.length) : freeB l I i = true ↔ Ind l (I ++ [i]) := by
  unfold freeB
  rw [List.all_eq_true]
  constructor
  · intro h
    refine ⟨fun j hj => ?_, List.pairwise_append.2 ⟨hI.2, List.pairwise_singleton _ _, fun a ha b hb => ?_⟩⟩
    · rcases List.mem_append.1 hj with hj | hj
      · exact hI.1 j hj
      · rw [List.mem_singleton.1 hj]; exact hi
    · rw [List.mem_singleton.1 hb]
      exact (meets_no (hI.1 a ha) hi).1 (by have := h a ha; simpa using this)
  · intro h a ha
    have := (List.pairwise_append.1 h.2).2.2 a ha i (List.mem_singleton.2 rfl)
    rw [(meets_no (hI.1 a ha) hi).2 this]; rfl
theorem most_ge {l : List (Int × Int)} : ∀ (r i : Nat) (P J : List Nat), i + r = l.length → (∀ j ∈ J, i ≤ j) → J.Pairwise (· < ·) → Ind l (P ++ J) → J.length ≤ mostP l r i P
  | 0, i, P, J, hr, hj, _, hI => by
    cases J with
    | nil => exact Nat.le_refl _
    | cons j J =>
      have h1 := hj j List.mem_cons_self
      have h2 := hI.1 j (List.mem_append_right _ List.mem_cons_self)
      omega
  | r + 1, i, P, J, hr, hj, hs, hI => by
    have hP : Ind l P := ⟨fun a ha => hI.1 a (List.mem_append_left _ ha), (List.pairwise_append.1 hI.2).1⟩
    unfold mostP
    cases J with
    | nil => exact Nat.zero_le _
    | cons j J =>
      obtain ⟨h1, h2⟩ := List.pairwise_cons.1 hs
      by_cases e : j = i
      · subst e
        have hI2 : Ind l (P ++ [j] ++ J) := by rw [List.append_assoc]; exact hI
        have hI1 : Ind l (P ++ [j]) := ⟨fun a ha => hI2.1 a (List.mem_append_left _ ha), (List.pairwise_append.1 hI2.2).1⟩
        rw [if_pos ((ind_snoc hP (by omega)).2 hI1)]
        have := most_ge r (j + 1) (P ++ [j]) J (by omega) (fun k hk => h1 k hk) h2 hI2
        rw [List.length_cons]; omega
      · have hj0 := hj j List.mem_cons_self
        have := most_ge r (i + 1) P (j :: J) (by omega) (fun k hk => by
          rcases List.mem_cons.1 hk with rfl | hk
          · omega
          · have := h1 k hk; omega) hs hI
        split <;> omega
theorem most_is {l : List (Int × Int)} : ∀ (r i : Nat) (P : List Nat), i + r = l.length → Ind l P → ∃ J, Ind l (P ++ J) ∧ J.length = mostP l r i P
  | 0, i, P, _, hP => ⟨[], by rw [List.append_nil]; exact hP, rfl⟩
  | r + 1, i, P, hr, hP => by
    obtain ⟨J, h1, h2⟩ := most_is r (i + 1) P (by omega) hP
    unfold mostP
    split
    · rename_i hf
      obtain ⟨K, k1, k2⟩ := most_is r (i + 1) (P ++ [i]) (by omega) ((ind_snoc hP (by omega)).1 hf)
      by_cases hm : mostP l r (i + 1) P ≤ 1 + mostP l r (i + 1) (P ++ [i])
      · exact ⟨i :: K, by rw [List.append_assoc] at k1; exact k1, by rw [List.length_cons, k2]; omega⟩
      · exact ⟨J, h1, by omega⟩
    · exact ⟨J, h1, h2⟩
/-- Trying all finds the most. -/
theorem most_max (l : List (Int × Int)) : MaxInd l (mostP l l.length 0 []) := by
  refine ⟨?_, fun I hI => ?_⟩
  · obtain ⟨J, h1, h2⟩ := most_is (l := l) l.length 0 [] (by omega) ⟨fun _ h => (by cases h), List.Pairwise.nil⟩
    exact ⟨J, h1, h2⟩
  · let J := (List.range l.length).filter fun i => I.contains i
    have hJ : ∀ i, i ∈ J ↔ i ∈ I := fun i => by
      rw [List.mem_filter, List.mem_range, List.contains_iff_mem]
      exact ⟨fun h => h.2, fun h => ⟨hI.1 i h, h⟩⟩
    have hs : J.Pairwise (· < ·) := List.pairwise_lt_range.filter _
    have hl : I.length ≤ J.length := nodup_le hI.nodup fun i hi => (hJ i).2 hi
    have hsym : ∀ i j, i ∈ I → j ∈ I → i ≠ j → ∀ p q, l[i]? = some p → l[j]? = some q → p.1 ≠ q.1 ∧ p.2 ≠ q.2 := by
      have key : ∀ {I : List Nat}, (I.Pairwise fun i j => ∀ p q, l[i]? = some p → l[j]? = some q → p.1 ≠ q.1 ∧ p.2 ≠ q.2) → ∀ i j, i ∈ I → j ∈ I → i ≠ j → ∀ p q, l[i]? = some p → l[j]? = some q → p.1 ≠ q.1 ∧ p.2 ≠ q.2 := by
        intro I h
        induction h with
        | nil => intro i j hi; cases hi
        | cons h1 _ ih =>
          intro i j hi hj hne p q hp hq
          rcases List.mem_cons.1 hi with e | hi'
          · rcases List.mem_cons.1 hj with e' | hj'
            · exact absurd (e.trans e'.symm) hne
            · subst e; exact h1 j hj' p q hp hq
          · rcases List.mem_cons.1 hj with e' | hj'
            · subst e'
              have := h1 i hi' q p hq hp
              exact ⟨Ne.symm this.1, Ne.symm this.2⟩
            · exact ih i j hi' hj' hne p q hp hq
      exact key hI.2
    have hIJ : Ind l ([] ++ J) := ⟨fun i hi => hI.1 i ((hJ i).1 hi), List.Pairwise.imp_of_mem (fun {i j} hi hj hlt => hsym i j ((hJ i).1 hi) ((hJ j).1 hj) (Nat.ne_of_lt hlt)) hs⟩
    exact Nat.le_trans hl (most_ge l.length 0 [] J (by omega) (fun _ _ => Nat.zero_le _) hs hIJ)
/-- With a pair more. -/
theorem max_more {l : List (Int × Int)} {x : Int × Int} {n m : Nat} (h : MaxInd l n) (k : MaxInd (l ++ [x]) m) : (m = n ∨ m = n + 1) ∧ n ≤ l.length := by
  obtain ⟨⟨I, h1, h2⟩, h3⟩ := h
  obtain ⟨⟨J, k1, k2⟩, k3⟩ := k
  have hg : ∀ i, i < l.length → (l ++ [x])[i]? = l[i]? := fun i hi => List.getElem?_append_left hi
  have hI : Ind (l ++ [x]) I := ⟨fun i hi => by have := h1.1 i hi; rw [List.length_append]; omega, List.Pairwise.imp_of_mem (fun {i j} hi hj hr p q hp hq => hr p q (by rw [← hg i (h1.1 i hi)]; exact hp) (by rw [← hg j (h1.1 j hj)]; exact hq)) h1.2⟩
  have a1 := k3 I hI
  have hlt : ∀ i ∈ J.erase l.length, i < l.length := fun i hi => by
    have hm := (List.mem_erase_of_ne (a := l.length) (b := i) (l := J))
    have hJ := List.mem_of_mem_erase hi
    have := k1.1 i hJ
    rw [List.length_append, List.length_singleton] at this
    have hne : i ≠ l.length := fun e => by
      subst e
      exact (k1.nodup.not_mem_erase) hi
    omega
  have hJ : Ind l (J.erase l.length) := ⟨hlt, List.Pairwise.imp_of_mem (fun {i j} hi hj hr p q hp hq => hr p q (by rw [hg i (hlt i hi)]; exact hp) (by rw [hg j (hlt j hj)]; exact hq)) (k1.2.sublist List.erase_sublist)⟩
  have a2 := h3 _ hJ
  have a3 : J.length ≤ (J.erase l.length).length + 1 := by
    rw [List.length_erase]
    split <;> omega
  refine ⟨by omega, ?_⟩
  have := nodup_le h1.nodup (b := List.range l.length) fun i hi => List.mem_range.2 (h1.1 i hi)
  rw [List.length_range] at this
  omega

/-! The numbers of which one is a side of each pair. -/
structure Came (l : List (Int × Int)) (L R : Pf) (X Y : Int → Prop) : Prop where
  free : ∀ (a : Nat) (u z : Int), l[a]? = some (u, z) → L u = none → X u
  over : ∀ (a : Nat) (u v : Int), X u → l[a]? = some (u, v) → Y v
  back : ∀ (v : Int) (o : Nat) (w : Int), Y v → R v = some o → l[o]? = some (w, v) → X w
  only : ∀ E : Int → Prop, Clo l R E → (∀ (a : Nat) (u z : Int), l[a]? = some (u, z) → L u = none → ∀ (b : Nat) (y : Int), l[b]? = some (u, y) → E y) → ∀ v, Y v → E v
open Classical in
theorem cover_len {l : List (Int × Int)} {L R : Pf} (h : Chosen l l.length L R) {X Y : Int → Prop} (hc : Came l L R X Y) {D A B : List Int} (nD : D.Nodup) (hD : ∀ u, u ∈ D ↔ L u ≠ none)
    (nA : A.Nodup) (hA : ∀ u, u ∈ A ↔ (∃ (a : Nat) (z : Int), l[a]? = some (u, z)) ∧ ¬ X u) (nB : B.Nodup) (hB : ∀ v, v ∈ B ↔ (∃ (a : Nat) (u : Int), l[a]? = some (u, v)) ∧ Y v) : A.length + B.length = D.length := by
  obtain ⟨E, h1, h2⟩ := h.clo
  have hYE := hc.only E h1 fun a u z hl hu b y hb => h2 a u z (List.getElem?_eq_some_iff.1 hl).1 hl hu b y hb
  -- the partner of a number on the left
  let f : Int → Int := fun u => match L u with | some o => (match l[o]? with | some (_, v) => v | none => 0) | none => 0
  have hf : ∀ u, u ∈ D → ∃ o v, L u = some o ∧ l[o]? = some (u, v) ∧ R v = some o ∧ f u = v := fun u hu => by
    cases hL : L u with
    | none => exact absurd hL ((hD u).1 hu)
    | some o =>
      obtain ⟨v, q1, q2⟩ := h.val.lr u o hL
      refine ⟨o, v, rfl, q1, q2, ?_⟩
      show (match L u with | some o => (match l[o]? with | some (_, v) => v | none => 0) | none => 0) = v
      rw [hL]; simp only [q1]
  have hfi : ∀ u, u ∈ D → ∀ w, w ∈ D → f u = f w → u = w := fun u hu w hw e => by
    obtain ⟨o, v, q1, q2, q3, q4⟩ := hf u hu
    obtain ⟨o', v', r1, r2, r3, r4⟩ := hf w hw
    rw [q4, r4] at e
    subst e
    rw [q3] at r3; cases r3
    rw [q2] at r2; cases r2
    rfl
  let D1 := D.filter fun u => decide (Y (f u))
  let D2 := D.filter fun u => !decide (Y (f u))
  have hlen : D1.length + D2.length = D.length := by
    show (D.filter _).length + (D.filter _).length = _
    clear nD hD hf hfi
    induction D with
    | nil => rfl
    | cons u D ih =>
      rw [List.filter_cons, List.filter_cons]
      by_cases hy : Y (f u)
      · simp [hy]; omega
      · simp [hy]; omega
  have m1 : ∀ u, u ∈ D1 ↔ u ∈ D ∧ Y (f u) := fun u => by rw [List.mem_filter, decide_eq_true_eq]
  have m2 : ∀ u, u ∈ D2 ↔ u ∈ D ∧ ¬ Y (f u) := fun u => by rw [List.mem_filter]; simp
  have n1 : (D1.map f).Nodup := pairwise_nodup_map (r := fun a b => a ≠ b) (nD.filter _) fun i hi j hj hne e => hne (hfi i ((m1 i).1 hi).1 j ((m1 j).1 hj).1 e)
  have n2 : D2.Nodup := nD.filter _
  have e1 : ∀ v, v ∈ D1.map f ↔ v ∈ B := fun v => by
    rw [List.mem_map, hB]
    constructor
    · rintro ⟨u, hu, rfl⟩
      obtain ⟨hu, hy⟩ := (m1 u).1 hu
      obtain ⟨o, v, q1, q2, q3, q4⟩ := hf u hu
      rw [q4] at hy ⊢
      exact ⟨⟨o, u, q2⟩, hy⟩
    · rintro ⟨_, hy⟩
      obtain ⟨o, w, q1, q2, _⟩ := h1 v (hYE v hy)
      obtain ⟨w', r1, r2⟩ := h.val.rl v o q1
      rw [q2] at r1; cases r1
      have hw : w ∈ D := (hD w).2 (by rw [r2]; exact fun e => by cases e)
      obtain ⟨o', v', s1, s2, s3, s4⟩ := hf w hw
      rw [r2] at s1; cases s1
      rw [q2] at s2; cases s2
      exact ⟨w, (m1 w).2 ⟨hw, by rw [s4]; exact hy⟩, s4⟩
  have e2 : ∀ u, u ∈ D2 ↔ u ∈ A := fun u => by
    rw [m2, hA]
    constructor
    · rintro ⟨hu, hy⟩
      obtain ⟨o, v, q1, q2, q3, q4⟩ := hf u hu
      rw [q4] at hy
      exact ⟨⟨o, v, q2⟩, fun hx => hy (hc.over o u v hx q2)⟩
    · rintro ⟨⟨a, z, hl⟩, hx⟩
      have hu : u ∈ D := (hD u).2 fun e => hx (hc.free a u z hl e)
      obtain ⟨o, v, q1, q2, q3, q4⟩ := hf u hu
      exact ⟨hu, by rw [q4]; exact fun hy => hx (hc.back v o u hy q3 q2)⟩
  have l1 : B.length = D1.length := by
    have a := nodup_le nB fun v hv => (e1 v).2 hv
    have b := nodup_le n1 fun v hv => (e1 v).1 hv
    rw [List.length_map] at a b
    omega
  have l2 : A.length = D2.length := by
    have a := nodup_le nA fun v hv => (e2 v).2 hv
    have b := nodup_le n2 fun v hv => (e2 v).1 hv
    omega
  omega

/-! Trees that come to more, with more fuel. -/
def TLe {α : Type} (t t' : Tree α) : Prop := ∀ y, t.run = some y → t'.run = some y
theorem TLe.rfl {α : Type} (t : Tree α) : TLe t t := fun _ h => h
theorem TLe.ite {α : Type} {c : Bool} {a b a' b' : Tree α} (h : TLe a a') (k : TLe b b') : TLe (.ite c a b) (.ite c a' b') := by
  cases c
  · exact k
  · exact h
theorem TLe.fail {α : Type} (t : Tree α) : TLe .fail t := fun y h => by cases h
theorem TLe.bnd {α β : Type} {t t' : Tree α} {k k' : α → Tree β} (h : TLe t t') (hk : ∀ a, TLe (k a) (k' a)) : TLe (.bnd t k) (.bnd t' k') := fun y hy => by
  cases ht : t.run with
  | none => simp only [Tree.run, ht] at hy; cases hy
  | some a =>
    simp only [Tree.run, ht] at hy
    simp only [Tree.run, h a ht]
    exact hk a y hy
theorem TLe.both {α : Type} {a b a' b' : Tree α} (h : TLe a a') (k : TLe b b') : TLe (.both a b) (.both a' b') := fun y hy => by
  simp only [Tree.run] at hy ⊢
  split at hy
  · rename_i e
    rw [h y hy, k y (e ▸ hy)]; exact if_pos (by trivial)
  · cases hy
theorem TLe.sum {α β γ : Type} {s : α ⊕ β} {k k' : α → Tree γ} {l l' : β → Tree γ} (h : ∀ a, TLe (k a) (k' a)) (h' : ∀ a, TLe (l a) (l' a)) : TLe (.sum s k l) (.sum s k' l') := by
  cases s with
  | inl a => exact h a
  | inr b => exact h' b
theorem TLe.loop {σ α : Type} {f f' : σ → Tree (σ ⊕ α)} {s : σ} (h : ∀ s, TLe (f s) (f' s)) : TLe (.loop f s) (.loop f' s) := fun y hy => by
  replace hy : LoopR (fun s => (f s).run) s y := loopF_some.1 hy
  show loopF (fun s => (f' s).run) s = some y
  rw [loopF_some]
  induction hy with
  | more h1 _ ih => exact .more (h _ _ h1) ih
  | done h1 => exact .done (h _ _ h1)
theorem recT_run {α : Type} {F : Nat → Tree α} (hm : ∀ n, TLe (F n) (F (n + 1))) {n : Nat} {a : α} (h : (F n).run = some a) : (recT F).run = some a := by
  have hle : ∀ k n y, (F n).run = some y → (F (n + k)).run = some y := fun k => by
    induction k with
    | zero => exact fun n y h => h
    | succ k ih => exact fun n y h => hm _ y (ih n y h)
  obtain ⟨m, b, h1, h2⟩ := recT_of h
  have e1 := hle n m b h1
  have e2 := hle m n a h
  rw [Nat.add_comm] at e1
  rw [e1] at e2
  cases e2
  exact h2
theorem loop_mu {σ α : Type} {f : σ → Tree (σ ⊕ α)} (I : σ → Prop) (mu : σ → Nat) (Q : α → Prop) (h : ∀ s, I s → (∃ s', (f s).run = some (.inl s') ∧ I s' ∧ mu s' < mu s) ∨ ∃ a, (f s).run = some (.inr a) ∧ Q a) (s : σ) (hs : I s) :
    ∃ a, (Tree.loop f s).run = some a ∧ Q a := by
  obtain ⟨n, hn⟩ : ∃ n, mu s = n := ⟨_, rfl⟩
  induction n using Nat.strongRecOn generalizing s with
  | _ n ih =>
    rcases h s hs with ⟨s', h1, h2, h3⟩ | ⟨a, h1, h2⟩
    · obtain ⟨a, k1, k2⟩ := ih (mu s') (hn ▸ h3) s' h2 rfl
      refine ⟨a, ?_, k2⟩
      have k1 : loopF (fun s => (f s).run) s' = some a := k1
      show loopF (fun s => (f s).run) s = some a
      rw [loopF_some] at k1 ⊢
      exact .more h1 k1
    · refine ⟨a, ?_, h2⟩
      show loopF (fun s => (f s).run) s = some a
      rw [loopF_some]
      exact .done h1
theorem loop_run {σ α : Type} (f : σ → Tree (σ ⊕ α)) (s : σ) : (Tree.loop f s).run = loopF (fun s => (f s).run) s := rfl

/-! Maps of numbers to numbers. -/
abbrev IM : Type := List (Int × Int)
abbrev tI : Ty := .int .i64
def gI (x : IM) (k : Int) : Option Int := getM tI tI x k
def pI (x : IM) (k v : Int) : IM := putM tI tI x k v
theorem gI_nil (k : Int) : gI [] k = none := rfl
theorem gI_cons (p : Int × Int) (x : IM) (q : Int) : gI (p :: x) q = if q = p.1 then some p.2 else gI x q := by
  show (bif decide (q = p.1) then some p.2 else gI x q) = _
  by_cases e : q = p.1
  · rw [if_pos e, decide_eq_true e]; rfl
  · rw [if_neg e, decide_eq_false e]; rfl
theorem pI_cons (p : Int × Int) (x : IM) (k v : Int) : pI (p :: x) k v = if k = p.1 then (k, v) :: x else p :: pI x k v := by
  show (bif decide (k = p.1) then (k, v) :: x else p :: pI x k v) = _
  by_cases e : k = p.1
  · rw [if_pos e, decide_eq_true e]; rfl
  · rw [if_neg e, decide_eq_false e]; rfl
theorem gI_put (x : IM) (k v q : Int) : gI (pI x k v) q = if q = k then some v else gI x q := by
  induction x with
  | nil => exact gI_cons (k, v) [] q
  | cons p x ih =>
    rw [pI_cons]
    by_cases e : k = p.1
    · rw [if_pos e, gI_cons, gI_cons]
      by_cases e2 : q = k
      · rw [if_pos e2, if_pos e2]
      · rw [if_neg e2, if_neg e2, if_neg (fun h => e2 (h.trans e.symm))]
    · rw [if_neg e, gI_cons, gI_cons, ih]
      by_cases e2 : q = p.1
      · rw [if_pos e2, if_pos e2, if_neg (fun h => e (h.symm.trans e2))]
      · rw [if_neg e2, if_neg e2]
theorem gI_mem {x : IM} {k : Int} : k ∈ x.map (·.1) ↔ gI x k ≠ none := by
  induction x with
  | nil => simp [gI_nil]
  | cons p x ih =>
    rw [List.map_cons, List.mem_cons, gI_cons]
    by_cases e : k = p.1
    · rw [if_pos e]; simp [e]
    · rw [if_neg e, ← ih]; simp [e]
theorem pI_keys (x : IM) (k v : Int) : (pI x k v).map (·.1) = if k ∈ x.map (·.1) then x.map (·.1) else x.map (·.1) ++ [k] := by
  induction x with
  | nil => rfl
  | cons p x ih =>
    rw [pI_cons]
    by_cases e : k = p.1
    · rw [if_pos e, if_pos (by rw [List.map_cons, e]; exact List.mem_cons_self), List.map_cons, List.map_cons, e]
    · rw [if_neg e, List.map_cons, ih, List.map_cons]
      by_cases h : k ∈ x.map (·.1)
      · rw [if_pos h, if_pos (List.mem_cons_of_mem _ h)]
      · rw [if_neg h, if_neg (fun q => (List.mem_cons.1 q).elim e h)]; rfl
theorem ent_put (x : IM) (k v z : Int) : (entM tI tI x k z).modify (posM tI tI x k) (fun q => (q.1, v)) = pI x k v ∧ posM tI tI x k < (entM tI tI x k z).length ∧ (entM tI tI x k z).length = (pI x k v).length := by
  induction x with
  | nil => exact ⟨rfl, Nat.lt_succ_self _, rfl⟩
  | cons p x ih =>
    have he : entM tI tI (p :: x) k z = if k = p.1 then p :: x else p :: entM tI tI x k z := by
      unfold entM
      rw [show getM tI tI (p :: x) k = if k = p.1 then some p.2 else getM tI tI x k from gI_cons p x k]
      by_cases e : k = p.1
      · rw [if_pos e, if_pos e]
      · rw [if_neg e, if_neg e]
        cases getM tI tI x k <;> rfl
    have hp : posM tI tI (p :: x) k = if k = p.1 then 0 else posM tI tI x k + 1 := by
      show (bif decide (k = p.1) then 0 else posM tI tI x k + 1) = _
      by_cases e : k = p.1
      · rw [if_pos e, decide_eq_true e]; rfl
      · rw [if_neg e, decide_eq_false e]; rfl
    rw [he, hp, pI_cons]
    by_cases e : k = p.1
    · rw [if_pos e, if_pos e, if_pos e]
      exact ⟨by rw [e]; rfl, Nat.succ_pos _, rfl⟩
    · rw [if_neg e, if_neg e, if_neg e]
      obtain ⟨h1, h2, h3⟩ := ih
      exact ⟨by rw [List.modify_succ_cons, h1], Nat.succ_lt_succ h2, by rw [List.length_cons, List.length_cons, h3]⟩
/-- Keys once, and of some numbers. -/
structure Wf (x : IM) (K : List Int) : Prop where
  once : (x.map (·.1)).Nodup
  sub : ∀ k, gI x k ≠ none → k ∈ K
theorem Wf.len {x : IM} {K : List Int} (h : Wf x K) : x.length ≤ K.length := by
  have := nodup_le h.once fun k hk => h.sub k (gI_mem.1 hk)
  rwa [List.length_map] at this
theorem Wf.nil (K : List Int) : Wf [] K := ⟨List.nodup_nil, fun k h => absurd rfl h⟩
theorem Wf.put {x : IM} {K : List Int} (h : Wf x K) {k : Int} (hk : k ∈ K) (v : Int) : Wf (pI x k v) K := by
  refine ⟨?_, fun q hq => ?_⟩
  · rw [pI_keys]
    split
    · exact h.once
    · rename_i hn
      rw [List.nodup_append]
      refine ⟨h.once, List.nodup_cons.2 ⟨List.not_mem_nil, List.nodup_nil⟩, fun a ha b hb e => ?_⟩
      rw [List.mem_singleton] at hb
      exact hn (by rw [← hb, ← e]; exact ha)
  · rw [gI_put] at hq
    by_cases e : q = k
    · rw [e]; exact hk
    · rw [if_neg e] at hq; exact h.sub q hq
theorem pI_len (x : IM) (k v : Int) (h : gI x k = none) : (pI x k v).length = x.length + 1 := by
  have e := congrArg List.length (pI_keys x k v)
  rw [if_neg (fun hm => gI_mem.1 hm h)] at e
  simpa using e
theorem pI_le (x : IM) (k v : Int) : x.length ≤ (pI x k v).length := by
  have e := congrArg List.length (pI_keys x k v)
  rw [List.length_map] at e
  rw [e]
  split <;> simp

/-- A map as places. -/
def pfOf (x : IM) : Pf := fun q => (gI x q).map Int.toNat
theorem pfOf_put (x : IM) (k : Int) (i : Nat) : pfOf (pI x k (i : Int)) = upd (pfOf x) k i := by
  funext q
  show (gI (pI x k (i : Int)) q).map Int.toNat = if q = k then some i else (gI x q).map Int.toNat
  rw [gI_put]
  by_cases e : q = k
  · rw [if_pos e, if_pos e]; rfl
  · rw [if_neg e, if_neg e]
def nonneg (x : IM) : Prop := ∀ q a, gI x q = some a → 0 ≤ a
theorem nonneg.put {x : IM} (h : nonneg x) (k : Int) (i : Nat) : nonneg (pI x k (i : Int)) := fun q a hq => by
  rw [gI_put] at hq
  by_cases e : q = k
  · rw [if_pos e] at hq; cases hq; omega
  · rw [if_neg e] at hq; exact h q a hq
theorem pfOf_none {x : IM} {q : Int} : pfOf x q = none ↔ gI x q = none := by
  unfold pfOf; cases gI x q <;> simp
theorem pfOf_some {x : IM} (h : nonneg x) {q : Int} {a : Nat} : pfOf x q = some a ↔ gI x q = some (a : Int) := by
  unfold pfOf
  cases hq : gI x q with
  | none => simp
  | some b =>
    have := h q b hq
    simp only [Option.map_some, Option.some.injEq]
    omega
/-- A map as a set. -/
def ones (x : IM) : Prop := ∀ q a, gI x q = some a → a = 1
def inM (x : IM) : Int → Prop := fun q => gI x q = some 1
theorem ones.put {x : IM} (h : ones x) (k : Int) : ones (pI x k 1) := fun q a hq => by
  rw [gI_put] at hq
  by_cases e : q = k
  · rw [if_pos e] at hq; cases hq; rfl
  · rw [if_neg e] at hq; exact h q a hq
theorem inM_put (x : IM) (k : Int) : inM (pI x k 1) = fun q => inM x q ∨ q = k := by
  funext q
  show (gI (pI x k 1) q = some 1) = (gI x q = some 1 ∨ q = k)
  rw [gI_put]
  by_cases e : q = k
  · rw [if_pos e]; simp [e]
  · rw [if_neg e]; simp [e]
theorem ones.pos {x : IM} (h : ones x) (q : Int) : decide ((0 : Int) < (gI x q).getD 0) = true ↔ inM x q := by
  unfold inM
  cases hq : gI x q with
  | none => simp
  | some a => rw [h q a hq]; simp
theorem ones.not {x : IM} (h : ones x) {q : Int} (hn : ¬ inM x q) : gI x q = none := by
  cases hq : gI x q with
  | none => rfl
  | some a => exact absurd (by unfold inM; rw [hq, h q a hq]) hn

/-! One try. -/
abbrev Y16 : Type := Bool × ((Unit × Unit) × ((Unit × Unit) × (((Unit × (Unit × (Unit × (Unit × Unit)))) × Unit) × (((List (Int × Int)) × (Unit × (Unit × Unit))) × ((List (Int × Int)) × ((List (Int × Int)) × ((List (Int × Int)) × Unit)))))))
def mk16 (b : Bool) (l seen left right : IM) : Y16 := (b, (((), ()), (((), ()), ((((), ((), ((), ((), ())))), ()), ((l, ((), ((), ()))), (seen, (left, (right, ()))))))))
theorem getD_at {l : IM} {i : Nat} {p : Int × Int} (h : l[i]? = some p) : l.getD ((i : Int)).toNat (dfl (.pair tI tI) : Int × Int) = p := by
  rw [Int.toNat_natCast, List.getD_eq_getElem?_getD, h]; rfl
theorem inb_at {i n : Nat} (h : i < n) : inb (i : Int) n = true := by
  show decide ((0 : Int) ≤ (i : Int) ∧ (i : Int) < (n : Int)) = true
  rw [decide_eq_true_eq]; omega
theorem inb01 : inb 0 2 = true := rfl
theorem inb12 : inb 1 2 = true := rfl
theorem ent_run {β : Type} (left right : IM) (u v t3 : Int) (hl : (pI left u t3).length ≤ 1000) (hr : (pI right v t3).length ≤ 1000) (F : IM → IM → β) :
    (ask (decide ((entM tI tI left u (0 : Int)).length ≤ 9223372036854775807)) <| ask (inb ((posM tI tI left u : Nat) : Int) (entM tI tI left u (0 : Int)).length) <|
      ask (decide ((entM tI tI right v (0 : Int)).length ≤ 9223372036854775807)) <| ask (inb ((posM tI tI right v : Nat) : Int) (entM tI tI right v (0 : Int)).length) <|
      Tree.ret (F ((entM tI tI left u (0 : Int)).modify ((posM tI tI left u : Nat) : Int).toNat fun q => (q.1, t3)) ((entM tI tI right v (0 : Int)).modify ((posM tI tI right v : Nat) : Int).toNat fun q => (q.1, t3)))).run = some (F (pI left u t3) (pI right v t3)) := by
  obtain ⟨a1, a2, a3⟩ := ent_put left u t3 0
  obtain ⟨b1, b2, b3⟩ := ent_put right v t3 0
  refine (run_ask (decide_eq_true (by omega))).trans ?_
  refine (run_ask (inb_at a2)).trans ?_
  refine (run_ask (decide_eq_true (by omega))).trans ?_
  refine (run_ask (inb_at b2)).trans ?_
  rw [Int.toNat_natCast, Int.toNat_natCast, a1, b1]
  rfl
section
variable {r : Int → IM → IM → IM → IM → Tree Y16} {l seen left right : IM} {u : Int} {i : Nat} {v : Int}
theorem g_end : (match_pairs_grow_1_L2_step r u l (l.length : Int) (l.length : Int) l seen left right).run = some (.inr (.inr (l, seen, left, right))) :=
  (run_f (decide_eq_false (by omega))).trans rfl
theorem g_skip {u' : Int} (hl : l.length ≤ 1000) (h : l[i]? = some (u', v)) (ho : ones seen) (hc : u' ≠ u ∨ inM seen v) :
    (match_pairs_grow_1_L2_step r u l (l.length : Int) (i : Int) l seen left right).run = some (.inl (((i + 1 : Nat) : Int), l, seen, left, right)) := by
  have hi := (List.getElem?_eq_some_iff.1 h).1
  unfold match_pairs_grow_1_L2_step
  rw [getD_at h]
  refine (run_t (decide_eq_true (by omega))).trans ?_
  refine (run_ask (inb_at hi)).trans ?_
  refine (run_ask inb01).trans ?_
  refine (run_ask (by simp [inb12])).trans ?_
  refine (run_t ?_).trans ?_
  · rw [Bool.or_eq_true]
    rcases hc with hc | hc
    · left; simpa using hc
    · right; exact (ho.pos v).2 hc
  · rw [w64_i i (by omega)]; rfl
theorem g_free (hl : l.length ≤ 1000) (h : l[i]? = some (u, v)) (hn : gI seen v = none) (hr : gI right v = none) (h1 : (pI seen v 1).length ≤ 1000) (h2 : (pI left u (i : Int)).length ≤ 1000) (h3 : (pI right v (i : Int)).length ≤ 1000) :
    (match_pairs_grow_1_L2_step r u l (l.length : Int) (i : Int) l seen left right).run = some (.inr (.inl (true, l, pI seen v 1, pI left u (i : Int), pI right v (i : Int)))) := by
  have hi := (List.getElem?_eq_some_iff.1 h).1
  unfold match_pairs_grow_1_L2_step
  rw [getD_at h]
  have hn' : getM tI tI seen v = none := hn
  have hr' : getM tI tI right v = none := hr
  simp only
  refine (run_t (decide_eq_true (by omega))).trans ?_
  refine (run_ask (inb_at hi)).trans ?_
  refine (run_ask inb01).trans ?_
  refine (run_ask (by simp [inb12])).trans ?_
  refine (run_f (by rw [hn']; simp)).trans ?_
  refine (run_ask inb12).trans ?_
  refine (run_ask (decide_eq_true (show (pI seen v 1).length ≤ 9223372036854775807 by omega))).trans ?_
  refine (run_ask inb12).trans ?_
  refine (run_ask (by rw [hr']; rfl)).trans ?_
  refine (run_ask (by rw [hr']; rfl)).trans ?_
  refine (run_f (by rw [hr']; rfl)).trans ?_
  refine (run_t (by rw [hr']; rfl)).trans ?_
  refine (run_ask inb12).trans ?_
  have hA := ent_run left right u v (i : Int) h2 h3 (fun a b => (Sum.inr (Sum.inl (true, l, pI seen v 1, a, b)) : (Int × IM × IM × IM × IM) ⊕ ((Bool × IM × IM × IM × IM) ⊕ (IM × IM × IM × IM))))
  exact Tree.run_both (Tree.run_both hA (Tree.run_both hA hA)) (Tree.run_both (Tree.run_both hA hA) hA)
theorem g_call {o : Nat} {w v' : Int} {b : Bool} {seen' left' right' : IM} (hl : l.length ≤ 1000) (h : l[i]? = some (u, v)) (hn : gI seen v = none) (hr : gI right v = some (o : Int)) (ho : l[o]? = some (w, v')) (h1 : (pI seen v 1).length ≤ 1000)
    (hc : (r w l (pI seen v 1) left right).run = some (mk16 b l seen' left' right')) (h2 : (pI left' u (i : Int)).length ≤ 1000) (h3 : (pI right' v (i : Int)).length ≤ 1000) :
    (match_pairs_grow_1_L2_step r u l (l.length : Int) (i : Int) l seen left right).run = some (match b with
      | true => .inr (.inl (true, l, seen', pI left' u (i : Int), pI right' v (i : Int)))
      | false => .inl (((i + 1 : Nat) : Int), l, seen', left', right')) := by
  have hi := (List.getElem?_eq_some_iff.1 h).1
  have hoi := (List.getElem?_eq_some_iff.1 ho).1
  unfold match_pairs_grow_1_L2_step
  rw [getD_at h]
  have hn' : getM tI tI seen v = none := hn
  have hr' : getM tI tI right v = some (o : Int) := hr
  simp only
  refine (run_t (decide_eq_true (by omega))).trans ?_
  refine (run_ask (inb_at hi)).trans ?_
  refine (run_ask inb01).trans ?_
  refine (run_ask (by simp [inb12])).trans ?_
  refine (run_f (by rw [hn']; simp)).trans ?_
  refine (run_ask inb12).trans ?_
  refine (run_ask (decide_eq_true (show (pI seen v 1).length ≤ 9223372036854775807 by omega))).trans ?_
  refine (run_ask inb12).trans ?_
  rw [hr']
  refine (run_ask (by rw [Bool.or_eq_true]; exact .inr (inb_at hoi))).trans ?_
  refine (run_ask (by rw [Bool.or_eq_true]; exact .inr inb01)).trans ?_
  refine (run_t rfl).trans ?_
  rw [show (some (o : Int)).getD (0 : Int) = (o : Int) from rfl, getD_at ho]
  refine (run_bnd hc).trans ?_
  cases b with
  | false => rw [w64_i i (by omega)]; rfl
  | true =>
    refine (run_t rfl).trans ?_
    refine (run_ask inb12).trans ?_
    have hA := ent_run left' right' u v (i : Int) h2 h3 (fun a b => (Sum.inr (Sum.inl (true, l, seen', a, b)) : (Int × IM × IM × IM × IM) ⊕ ((Bool × IM × IM × IM × IM) ⊕ (IM × IM × IM × IM))))
    exact Tree.run_both (Tree.run_both hA (Tree.run_both hA hA)) (Tree.run_both (Tree.run_both hA hA) hA)
end

/-! One try, to its end. -/
abbrev lefts (l : IM) : List Int := l.map (·.1)
abbrev rights (l : IM) : List Int := l.map (·.2)
theorem mem_left {l : IM} {i : Nat} {u v : Int} (h : l[i]? = some (u, v)) : u ∈ lefts l := List.mem_map.2 ⟨(u, v), List.mem_of_getElem? h, rfl⟩
theorem mem_right {l : IM} {i : Nat} {u v : Int} (h : l[i]? = some (u, v)) : v ∈ rights l := List.mem_map.2 ⟨(u, v), List.mem_of_getElem? h, rfl⟩
structure Sn (l seen : IM) : Prop where
  wf : Wf seen (rights l)
  one : ones seen
structure Pl (l left right : IM) : Prop where
  wl : Wf left (lefts l)
  wr : Wf right (rights l)
  nl : nonneg left
  nr : nonneg right
theorem Sn.put {l seen : IM} (h : Sn l seen) {v : Int} (hv : v ∈ rights l) : Sn l (pI seen v 1) := ⟨h.wf.put hv 1, h.one.put v⟩
theorem Pl.put {l left right : IM} (h : Pl l left right) {u v : Int} (hu : u ∈ lefts l) (hv : v ∈ rights l) (i : Nat) : Pl l (pI left u (i : Int)) (pI right v (i : Int)) := ⟨h.wl.put hu _, h.wr.put hv _, h.nl.put u i, h.nr.put v i⟩
theorem len_r {l x : IM} (h : Wf x (rights l)) : x.length ≤ l.length := by have := h.len; rwa [List.length_map] at this
theorem len_l {l x : IM} (h : Wf x (lefts l)) : x.length ≤ l.length := by have := h.len; rwa [List.length_map] at this
structure TryOk (l seen left right : IM) (u : Int) (b : Bool) (seen' left' right' : IM) : Prop where
  sn : Sn l seen'
  pl : Pl l left' right'
  grow : seen.length ≤ seen'.length
  on : b = true → Aug l (pfOf left) (pfOf right) (inM seen) u (pfOf left') (pfOf right')
  off : b = false → left' = left ∧ right' = right ∧ FailI l (pfOf right) (inM seen) u l.length (inM seen')
theorem try_ok {l : IM} (hl : l.length ≤ 100) : ∀ (n : Nat) (u : Int) (seen left right : IM), Sn l seen → Pl l left right → Valid l (pfOf left) (pfOf right) → l.length < n + seen.length →
    ∃ b seen' left' right', (match_pairs_grow_1_rT n u l seen left right).run = some (mk16 b l seen' left' right') ∧ TryOk l seen left right u b seen' left' right' := by
  intro n
  induction n with
  | zero =>
    intro u seen left right hs _ _ hf
    have := len_r hs.wf
    omega
  | succ n ih =>
    intro u seen left right hs hp hV hf
    show ∃ b seen' left' right', (match_pairs_grow_1_BT (match_pairs_grow_1_rT n) u l seen left right).run = some (mk16 b l seen' left' right') ∧ TryOk l seen left right u b seen' left' right'
    unfold match_pairs_grow_1_BT
    obtain ⟨a, h1, b, seen', left', right', h2, h3⟩ := loop_mu (f := fun v : Int × IM × IM × IM × IM => match_pairs_grow_1_L2_step (match_pairs_grow_1_rT n) u l (l.length : Int) v.1 v.2.1 v.2.2.1 v.2.2.2.1 v.2.2.2.2)
      (fun s => ∃ (i : Nat) (si : IM), i ≤ l.length ∧ s = ((i : Int), l, si, left, right) ∧ Sn l si ∧ seen.length ≤ si.length ∧ FailI l (pfOf right) (inM seen) u i (inM si)) (fun s => l.length - s.1.toNat)
      (fun a => ∃ b seen' left' right', a = (match b with | true => .inl (true, l, seen', left', right') | false => .inr (l, seen', left', right')) ∧ TryOk l seen left right u b seen' left' right')
      (by
        rintro s ⟨i, si, hi, rfl, hsi, hle, hF⟩
        by_cases hlt : i < l.length
        case neg =>
          have : i = l.length := by omega
          subst this
          right
          exact ⟨_, g_end, false, si, left, right, rfl, hsi, hp, hle, fun h => (by cases h), fun _ => ⟨rfl, rfl, hF⟩⟩
        obtain ⟨⟨u', v⟩, h⟩ : ∃ p, l[i]? = some p := ⟨_, List.getElem?_eq_getElem hlt⟩
        by_cases hc : u' ≠ u ∨ inM si v
        · left
          refine ⟨_, g_skip (by omega) h hsi.one hc, ⟨i + 1, si, hlt, rfl, hsi, hle, hF.skip fun z hz => ?_⟩, ?_⟩
          · rw [h] at hz; cases hz
            exact hc.resolve_left fun e => e rfl
          · show l.length - (((i + 1 : Nat) : Int)).toNat < l.length - ((i : Int)).toNat
            rw [Int.toNat_natCast, Int.toNat_natCast]; omega
        · have hu : u' = u := Classical.byContradiction fun e => hc (.inl e)
          have hn : ¬ inM si v := fun e => hc (.inr e)
          subst hu
          have hn' := hsi.one.not hn
          have hns : ¬ inM seen v := fun e => hn (hF.mono v e)
          have hs2 := hsi.put (mem_right h)
          have b1 := len_r hs2.wf
          cases hr : gI right v with
          | none =>
            right
            have hp2 := hp.put (mem_left h) (mem_right h) i
            have hg := g_free (r := match_pairs_grow_1_rT n) (l := l) (seen := si) (left := left) (right := right) (u := u') (i := i) (v := v) (by omega) h hn' hr (by omega) (by have := len_l hp2.wl; omega) (by have := len_r hp2.wr; omega)
            refine ⟨_, hg, true, _, _, _, rfl, hs2, hp2, ?_, fun _ => ?_, fun e => by cases e⟩
            · have := pI_le si v 1; omega
            · rw [pfOf_put, pfOf_put]
              exact .base h hns (pfOf_none.2 hr)
          | some a =>
            obtain ⟨o, rfl⟩ := Int.eq_ofNat_of_zero_le (hp.nr v a hr)
            have hR : pfOf right v = some o := (pfOf_some hp.nr).2 hr
            obtain ⟨w, ho, hw⟩ := hV.rl v o hR
            obtain ⟨b, seen', left', right', k1, k2⟩ := ih w (pI si v 1) left right hs2 hp hV (by rw [pI_len si v 1 hn']; omega)
            have hp2 := k2.pl.put (mem_left h) (mem_right h) i
            have hg := g_call (u := u') (by omega) h hn' hr ho (by omega) k1 (by have := len_l hp2.wl; omega) (by have := len_r hp2.wr; omega)
            have hgr : seen.length ≤ seen'.length := by
              have := pI_le si v 1
              have := k2.grow
              omega
            cases b with
            | false =>
              left
              obtain ⟨rfl, rfl, q3⟩ := k2.off rfl
              refine ⟨_, hg, ⟨i + 1, seen', hlt, rfl, k2.sn, hgr, ?_⟩, ?_⟩
              · rw [inM_put] at q3
                exact hF.more h hR ho q3
              · show l.length - (((i + 1 : Nat) : Int)).toNat < l.length - ((i : Int)).toNat
                rw [Int.toNat_natCast, Int.toNat_natCast]; omega
            | true =>
              right
              refine ⟨_, hg, true, _, _, _, rfl, k2.sn, hp2, hgr, fun _ => ?_, fun e => by cases e⟩
              rw [pfOf_put, pfOf_put]
              have hin : inM (pI si v 1) = fun q => inM si q ∨ q = v := inM_put si v
              exact .step h hns hR ho (fun x hx => by rw [hin]; exact .inl (hF.mono x hx)) (by rw [hin]; exact .inr rfl) (k2.on rfl))
      (0, l, seen, left, right) ⟨0, seen, Nat.zero_le _, rfl, hs, Nat.le_refl _, .zero _ _ _ _⟩
    refine ⟨b, seen', left', right', (run_bnd h1).trans ?_, h3⟩
    subst h2
    cases b <;> rfl

/-! All of the tries. -/
theorem try_mono {r r' : Int → IM → IM → IM → IM → Tree Y16} (h : ∀ a b c d e, TLe (r a b c d e) (r' a b c d e)) (a : Int) (b c d e : IM) : TLe (match_pairs_grow_1_BT r a b c d e) (match_pairs_grow_1_BT r' a b c d e) := by
  unfold match_pairs_grow_1_BT
  refine TLe.bnd (TLe.loop fun s => ?_) fun _ => TLe.rfl _
  unfold match_pairs_grow_1_L2_step
  repeat' (first | exact h _ _ _ _ _ | with_reducible refine TLe.ite ?_ ?_ | with_reducible refine TLe.bnd ?_ fun _ => ?_ | exact TLe.rfl _)
theorem try_up : ∀ (n : Nat) (a : Int) (b c d e : IM), TLe (match_pairs_grow_1_rT n a b c d e) (match_pairs_grow_1_rT (n + 1) a b c d e)
  | 0, _, _, _, _, _ => TLe.fail _
  | n + 1, a, b, c, d, e => try_mono (try_up n) a b c d e
theorem inM_nil : inM [] = fun _ => False := by
  funext q
  show (gI [] q = some 1) = False
  rw [gI_nil]; simp
theorem Sn.nil (l : IM) : Sn l [] := ⟨.nil _, fun q a h => by cases h⟩
theorem Pl.nil (l : IM) : Pl l [] [] := ⟨.nil _, .nil _, fun q a h => (by cases h), fun q a h => (by cases h)⟩
theorem pfOf_nil : pfOf [] = fun _ => none := rfl
theorem grow_ok {l : IM} (hl : l.length ≤ 100) (u : Int) {left right : IM} (hp : Pl l left right) (hV : Valid l (pfOf left) (pfOf right)) :
    ∃ b seen' left' right', (match_pairs_grow_T u l left right).run = some ((), ((l, ((), ((), ()))), (left', (right', ())))) ∧ TryOk l [] left right u b seen' left' right' := by
  obtain ⟨b, seen', left', right', h1, h2⟩ := try_ok hl (l.length + 1) u [] left right (.nil l) hp hV (by rw [List.length_nil]; omega)
  refine ⟨b, seen', left', right', ?_, h2⟩
  unfold match_pairs_grow_T match_pairs_grow_1_T
  refine (run_bnd (recT_run (F := fun n => match_pairs_grow_1_rT n u l [] left right) (fun n => try_up n _ _ _ _ _) h1)).trans ?_
  rfl
theorem choose_ok {l : IM} (hl : l.length ≤ 100) :
    ∃ left right, (match_choose_T l).run = some ((), (left, (right, ((l, ((), ((), ()))), ())))) ∧ Pl l left right ∧ Chosen l l.length (pfOf left) (pfOf right) := by
  unfold match_choose_T
  obtain ⟨a, h1, left, right, rfl, h2, h3⟩ := loop_mu (f := fun v : Int × IM × IM × IM => match_choose_L3_step l (l.length : Int) v.1 v.2.1 v.2.2.1 v.2.2.2)
    (fun s => ∃ (i : Nat) (left right : IM), i ≤ l.length ∧ s = ((i : Int), left, right, l) ∧ Pl l left right ∧ Chosen l i (pfOf left) (pfOf right)) (fun s => l.length - s.1.toNat)
    (fun a => ∃ left right, a = (left, right, l) ∧ Pl l left right ∧ Chosen l l.length (pfOf left) (pfOf right))
    (by
      rintro s ⟨i, left, right, hi, rfl, hp, hC⟩
      have dec : l.length - (((i + 1 : Nat) : Int)).toNat < l.length - ((i : Int)).toNat ∨ ¬ i < l.length := by
        rw [Int.toNat_natCast, Int.toNat_natCast]; omega
      show (∃ s', (match_choose_L3_step l (l.length : Int) (i : Int) left right l).run = some (.inl s') ∧ _ ∧ _) ∨ ∃ a, (match_choose_L3_step l (l.length : Int) (i : Int) left right l).run = some (.inr a) ∧ _
      unfold match_choose_L3_step
      by_cases hlt : i < l.length
      case neg =>
        have : i = l.length := by omega
        subst this
        right
        exact ⟨_, (run_f (decide_eq_false (by omega))).trans rfl, left, right, rfl, hp, hC⟩
      left
      obtain ⟨⟨u, v⟩, h⟩ : ∃ p, l[i]? = some p := ⟨_, List.getElem?_eq_getElem hlt⟩
      rw [getD_at h]
      cases hu : gI left u with
      | some o =>
        refine ⟨(((i + 1 : Nat) : Int), left, right, l), ?_, ⟨i + 1, left, right, hlt, rfl, hp, hC.skip fun u' z hz => ?_⟩, dec.resolve_right fun h => h hlt⟩
        · refine (run_t (decide_eq_true (by omega))).trans ?_
          refine (run_ask (inb_at hlt)).trans ?_
          refine (run_ask inb01).trans ?_
          refine (run_f (by rw [show getM (.int .i64) (.int .i64) left u = some o from hu]; rfl)).trans ?_
          rw [w64_i i (by omega)]; rfl
        · rw [h] at hz; cases hz
          exact fun e => by rw [pfOf_none.1 e] at hu; cases hu
      | none =>
        obtain ⟨b, seen', left', right', k1, k2⟩ := grow_ok hl u hp hC.val
        refine ⟨(((i + 1 : Nat) : Int), left', right', l), ?_, ⟨i + 1, left', right', hlt, rfl, k2.pl, ?_⟩, dec.resolve_right fun h => h hlt⟩
        · refine (run_t (decide_eq_true (by omega))).trans ?_
          refine (run_ask (inb_at hlt)).trans ?_
          refine (run_ask inb01).trans ?_
          refine (run_t (by rw [show getM (.int .i64) (.int .i64) left u = none from hu]; rfl)).trans ?_
          refine (run_ask inb01).trans ?_
          refine (run_bnd k1).trans ?_
          rw [w64_i i (by omega)]; rfl
        · cases b with
          | true =>
            have ha := k2.on rfl
            rw [inM_nil] at ha
            exact (hC.aug h (pfOf_none.2 hu) ha).1
          | false =>
            obtain ⟨rfl, rfl, q3⟩ := k2.off rfl
            rw [inM_nil] at q3
            exact hC.fail h q3)
    (0, [], [], l) ⟨0, [], [], Nat.zero_le _, rfl, .nil l, .zero l⟩
  refine ⟨left, right, (run_bnd h1).trans ?_, h2, h3⟩
  rfl
theorem dom_iff (left : IM) (u : Int) : u ∈ left.map (·.1) ↔ pfOf left u ≠ none := gI_mem.trans ⟨fun h e => h (pfOf_none.1 e), fun h e => h (pfOf_none.2 e)⟩
theorem max_ok {l : IM} (hl : l.length ≤ 100) : ∃ n : Nat, (match_Max_T l).run = some (n : Int) ∧ MaxInd l n ∧ n ≤ l.length := by
  obtain ⟨left, right, h1, h2, h3⟩ := choose_ok hl
  have hm := chosen_max h3 h2.wl.once (dom_iff left)
  rw [List.length_map] at hm
  exact ⟨left.length, (run_bnd h1).trans rfl, hm, len_l h2.wl⟩

/-! Trying all. -/
theorem imax_nat (a b : Nat) : std.imax (a : Int) (b : Int) = ((max a b : Nat) : Int) := by
  show (if (a : Int) < (b : Int) then (b : Int) else (a : Int)) = _
  split <;> omega
abbrev toI (P : List Nat) : List Int := P.map Int.ofNat
theorem toI_at {P : List Nat} {i : Nat} (hi : i < P.length) : (toI P).getD ((i : Int)).toNat (0 : Int) = ((P[i] : Nat) : Int) := by
  rw [Int.toNat_natCast, List.getD_eq_getElem?_getD, List.getElem?_map, List.getElem?_eq_getElem hi]; rfl
theorem meets_at {l : IM} {i j : Nat} {p q : Int × Int} (hi : l[i]? = some p) (hj : l[j]? = some q) : meets l i j = (decide (p.1 = q.1) || decide (p.2 = q.2)) := by
  unfold meets; rw [hi, hj]
  show (p.1 == q.1 || p.2 == q.2) = _
  rw [show (p.1 == q.1) = decide (p.1 = q.1) from by cases h : decide (p.1 = q.1) <;> simp_all, show (p.2 == q.2) = decide (p.2 = q.2) from by cases h : decide (p.2 = q.2) <;> simp_all]
theorem free_run {l : IM} (hl : l.length ≤ 1000) {P : List Nat} (hP : ∀ p ∈ P, p < l.length) (hn : P.length ≤ 1000) {i : Nat} (hi : i < l.length) : (r16_Free_T l (toI P) (i : Int)).run = some (freeB l P i) := by
  have hlen : (toI P).length = P.length := by simp [toI]
  have h := any_loop P (fun p => meets l p i) (fun v => r16_Free_L2_step l (toI P) (i : Int) v) (Sum.inl false : Bool ⊕ Unit) (Sum.inr ()) (by omega)
    (fun k hk => by
      have hp := hP P[k] (List.getElem_mem hk)
      obtain ⟨p, h1⟩ : ∃ p, l[P[k]]? = some p := ⟨_, List.getElem?_eq_getElem hp⟩
      obtain ⟨q, h2⟩ : ∃ q, l[i]? = some q := ⟨_, List.getElem?_eq_getElem hi⟩
      show (r16_Free_L2_step l (toI P) (i : Int) (k : Int)).run = _
      unfold r16_Free_L2_step
      rw [toI_at hk, getD_at h1, getD_at h2, hlen, meets_at h1 h2]
      refine (run_t (decide_eq_true (by omega))).trans ?_
      refine (run_ask (inb_at hk)).trans ?_
      refine (run_ask (inb_at hp)).trans ?_
      refine (run_ask inb01).trans ?_
      refine (run_ask (inb_at hi)).trans ?_
      refine (run_ask inb01).trans ?_
      refine (run_ask (by rw [inb12, Bool.or_true])).trans ?_
      refine (run_ask (by rw [inb_at hi, Bool.or_true])).trans ?_
      refine (run_ask (by rw [inb12, Bool.or_true])).trans ?_
      cases hc : (decide (p.1 = q.1) || decide (p.2 = q.2)) with
      | true => rfl
      | false => rfl)
    (by
      show (r16_Free_L2_step l (toI P) (i : Int) (P.length : Int)).run = _
      unfold r16_Free_L2_step
      rw [hlen]
      exact (run_f (decide_eq_false (by omega))).trans rfl)
  unfold r16_Free_T
  refine (run_bnd (t := Tree.loop (fun v => r16_Free_L2_step l (toI P) (i : Int) v) 0) h).trans ?_
  have e : freeB l P i = !(P.any fun p => meets l p i) := by unfold freeB; rw [List.not_any_eq_all_not]
  rw [e]
  cases P.any (fun p => meets l p i) <;> rfl
theorem mostP_le (l : IM) : ∀ (r i : Nat) (P : List Nat), mostP l r i P ≤ r
  | 0, _, _ => Nat.le_refl _
  | r + 1, i, P => by
    unfold mostP
    have h1 := mostP_le l r (i + 1) P
    have h2 := mostP_le l r (i + 1) (P ++ [i])
    split <;> omega
theorem most_mono {r r' : IM → Int → List Int → Tree Int} (h : ∀ a b c, TLe (r a b c) (r' a b c)) (a : IM) (b : Int) (c : List Int) : TLe (r16_most_BT r a b c) (r16_most_BT r' a b c) := by
  unfold r16_most_BT
  repeat' (first | exact h _ _ _ | with_reducible refine TLe.ite ?_ ?_ | with_reducible refine TLe.bnd ?_ fun _ => ?_ | exact TLe.rfl _)
theorem most_up : ∀ (n : Nat) (a : IM) (b : Int) (c : List Int), TLe (r16_most_rT n a b c) (r16_most_rT (n + 1) a b c)
  | 0, _, _, _ => TLe.fail _
  | n + 1, a, b, c => most_mono (most_up n) a b c
theorem most_run {l : IM} (hl : l.length ≤ 100) : ∀ (n r i : Nat) (P : List Nat), i + r = l.length → r < n → (∀ p ∈ P, p < l.length) → P.length ≤ i → (r16_most_rT n l (i : Int) (toI P)).run = some ((mostP l r i P : Nat) : Int)
  | 0, r, i, P, _, h, _, _ => absurd h (Nat.not_lt_zero _)
  | n + 1, 0, i, P, hi, _, _, _ => (run_t (decide_eq_true (by omega))).trans rfl
  | n + 1, r + 1, i, P, hi, hr, hP, hn => by
    have hlt : i < l.length := by omega
    have h1 := most_run hl n r (i + 1) P (by omega) (by omega) hP (by omega)
    have h2 := most_run hl n r (i + 1) (P ++ [i]) (by omega) (by omega) (fun p hp => (List.mem_append.1 hp).elim (hP p) fun h => by rw [List.mem_singleton.1 h]; exact hlt) (by rw [List.length_append, List.length_singleton]; omega)
    have b1 := mostP_le l r (i + 1) P
    have b2 := mostP_le l r (i + 1) (P ++ [i])
    have e2 : toI (P ++ [i]) = toI P ++ [(i : Int)] := by rw [toI, List.map_append]; rfl
    rw [e2] at h2
    show (r16_most_BT (r16_most_rT n) l (i : Int) (toI P)).run = _
    unfold r16_most_BT mostP
    refine (run_f (decide_eq_false (by omega))).trans ?_
    rw [w64_i i (by omega)]
    refine (run_bnd h1).trans ?_
    refine (run_bnd (free_run (by omega) hP (by omega) hlt)).trans ?_
    cases hf : freeB l P i with
    | false => exact (run_f rfl).trans rfl
    | true =>
      refine (run_t rfl).trans ?_
      refine (run_ask (room_le _ _ (by rw [List.length_map]; omega) (by omega))).trans ?_
      refine (run_ask (room_le _ _ (by rw [List.length_append, List.length_map, List.length_singleton]; omega) (by omega))).trans ?_
      refine (run_bnd h2).trans ?_
      rw [Int.add_comm, w64_nat _ (by omega), imax_nat, if_pos rfl, Nat.add_comm 1]
      rfl
theorem rmax_run {l : IM} (hl : l.length ≤ 100) : (r16_Max_T l).run = some ((mostP l l.length 0 [] : Nat) : Int) := by
  unfold r16_Max_T r16_most_T
  refine (run_bnd (recT_run (F := fun n => r16_most_rT n l 0 []) (fun n => most_up n _ _ _) (n := l.length + 1) (most_run hl (l.length + 1) l.length 0 [] (by omega) (by omega) (fun p h => by cases h) (Nat.le_refl _)))).trans ?_
  rfl

/-! Where one comes from those that are free. -/
abbrev V16 : Type := Unit × ((Unit × Unit) × ((Unit × Unit) × ((Unit × Unit) × (((Unit × (Unit × (Unit × (Unit × (Unit × Unit))))) × Unit) × ((List (Int × Int)) × (((List (Int × Int)) × (Unit × (Unit × Unit))) × ((List (Int × Int)) × ((List (Int × Int)) × ((List (Int × Int)) × Unit)))))))))
def mkW16 (l rl rr left right : IM) : V16 := ((), (((), ()), (((), ()), (((), ()), ((((), ((), ((), ((), ((), ()))))), ()), (rl, ((l, ((), ((), ()))), (rr, (left, (right, ()))))))))))
section
variable {r : Int → IM → IM → IM → IM → IM → Tree V16} {l rl rr left right : IM} {u : Int} {i : Nat} {v : Int}
theorem v_end : (match_pairs_reach_1_L3_step r u l (l.length : Int) (l.length : Int) rl l rr left right).run = some (.inr (rl, l, rr, left, right)) :=
  (run_f (decide_eq_false (by omega))).trans rfl
theorem v_skip {u' : Int} (hl : l.length ≤ 1000) (h : l[i]? = some (u', v)) (hc : u' ≠ u) :
    (match_pairs_reach_1_L3_step r u l (l.length : Int) (i : Int) rl l rr left right).run = some (.inl (((i + 1 : Nat) : Int), rl, l, rr, left, right)) := by
  have hi := (List.getElem?_eq_some_iff.1 h).1
  unfold match_pairs_reach_1_L3_step
  rw [getD_at h]
  refine (run_t (decide_eq_true (by omega))).trans ?_
  refine (run_ask (inb_at hi)).trans ?_
  refine (run_ask inb01).trans ?_
  refine (run_t (by simpa using hc)).trans ?_
  rw [w64_i i (by omega)]; rfl
theorem v_free (hl : l.length ≤ 1000) (h : l[i]? = some (u, v)) (hr : gI right v = none) (h1 : (pI rr v 1).length ≤ 1000) :
    (match_pairs_reach_1_L3_step r u l (l.length : Int) (i : Int) rl l rr left right).run = some (.inl (((i + 1 : Nat) : Int), rl, l, pI rr v 1, left, right)) := by
  have hi := (List.getElem?_eq_some_iff.1 h).1
  unfold match_pairs_reach_1_L3_step
  rw [getD_at h]
  have hr' : getM tI tI right v = none := hr
  simp only
  refine (run_t (decide_eq_true (by omega))).trans ?_
  refine (run_ask (inb_at hi)).trans ?_
  refine (run_ask inb01).trans ?_
  refine (run_f (by simp)).trans ?_
  refine (run_ask inb12).trans ?_
  refine (run_ask (decide_eq_true (show (pI rr v 1).length ≤ 9223372036854775807 by omega))).trans ?_
  refine (run_ask inb12).trans ?_
  refine (run_f (by rw [hr']; rfl)).trans ?_
  rw [w64_i i (by omega)]; rfl
theorem v_call {o : Nat} {w v' : Int} {rl' rr' : IM} (hl : l.length ≤ 1000) (h : l[i]? = some (u, v)) (hr : gI right v = some (o : Int)) (ho : l[o]? = some (w, v')) (h1 : (pI rr v 1).length ≤ 1000)
    (hc : (r w rl l (pI rr v 1) left right).run = some (mkW16 l rl' rr' left right)) :
    (match_pairs_reach_1_L3_step r u l (l.length : Int) (i : Int) rl l rr left right).run = some (.inl (((i + 1 : Nat) : Int), rl', l, rr', left, right)) := by
  have hi := (List.getElem?_eq_some_iff.1 h).1
  have hoi := (List.getElem?_eq_some_iff.1 ho).1
  unfold match_pairs_reach_1_L3_step
  rw [getD_at h]
  have hr' : getM tI tI right v = some (o : Int) := hr
  simp only
  refine (run_t (decide_eq_true (by omega))).trans ?_
  refine (run_ask (inb_at hi)).trans ?_
  refine (run_ask inb01).trans ?_
  refine (run_f (by simp)).trans ?_
  refine (run_ask inb12).trans ?_
  refine (run_ask (decide_eq_true (show (pI rr v 1).length ≤ 9223372036854775807 by omega))).trans ?_
  refine (run_ask inb12).trans ?_
  rw [hr']
  refine (run_t rfl).trans ?_
  refine (run_ask (inb_at hoi)).trans ?_
  refine (run_ask inb01).trans ?_
  rw [show (some (o : Int)).getD (0 : Int) = (o : Int) from rfl, getD_at ho]
  refine (run_bnd hc).trans ?_
  rw [w64_i i (by omega)]; rfl
end
structure VisOk (l : IM) (R : Pf) (u : Int) (X Y X' Y' : Int → Prop) : Prop where
  mx : ∀ x, X x → X' x
  my : ∀ y, Y y → Y' y
  at_ : X' u
  over : ∀ x, X' x → ¬ X x → ∀ (a : Nat) (v : Int), l[a]? = some (x, v) → Y' v
  back : ∀ v, Y' v → ¬ Y v → ∀ (o : Nat) (w : Int), R v = some o → l[o]? = some (w, v) → X' w
  only : ∀ E : Int → Prop, Clo l R E → (∀ (a : Nat) (z : Int), l[a]? = some (u, z) → E z) → ∀ v, Y' v → ¬ Y v → E v
/-- Behind the first i pairs. -/
structure VisI (l : IM) (R : Pf) (u : Int) (i : Nat) (X Y X' Y' : Int → Prop) : Prop where
  mx : ∀ x, X x → X' x
  my : ∀ y, Y y → Y' y
  over : ∀ x, X' x → ¬ X x → ∀ (a : Nat) (v : Int), l[a]? = some (x, v) → Y' v
  back : ∀ v, Y' v → ¬ Y v → ∀ (o : Nat) (w : Int), R v = some o → l[o]? = some (w, v) → X' w
  only : ∀ E : Int → Prop, Clo l R E → (∀ (a : Nat) (z : Int), l[a]? = some (u, z) → E z) → ∀ v, Y' v → ¬ Y v → E v
  all : ∀ (a : Nat) (z : Int), a < i → l[a]? = some (u, z) → Y' z
theorem VisI.zero (l : IM) (R : Pf) (u : Int) (X Y : Int → Prop) : VisI l R u 0 X Y X Y :=
  ⟨fun _ h => h, fun _ h => h, fun _ h k => absurd h k, fun _ h k => absurd h k, fun _ _ _ _ h k => absurd h k, fun _ _ h => absurd h (Nat.not_lt_zero _)⟩
theorem VisI.skip {l : IM} {R : Pf} {u : Int} {i : Nat} {X Y X' Y' : Int → Prop} (h : VisI l R u i X Y X' Y') (hn : ∀ z, l[i]? ≠ some (u, z)) : VisI l R u (i + 1) X Y X' Y' :=
  ⟨h.mx, h.my, h.over, h.back, h.only, fun a z ha hz => by
    by_cases e : a = i
    · subst e; exact absurd hz (hn z)
    · exact h.all a z (by omega) hz⟩
theorem VisI.free {l : IM} {R : Pf} {u v : Int} {i : Nat} {X Y X' Y' : Int → Prop} (h : VisI l R u i X Y X' Y') (hl : l[i]? = some (u, v)) (hr : R v = none) : VisI l R u (i + 1) X Y X' (fun q => Y' q ∨ q = v) := by
  refine ⟨h.mx, fun y hy => .inl (h.my y hy), fun x hx hn a z hz => .inl (h.over x hx hn a z hz), fun z hz hn o w hR ho => ?_, fun E hE hu z hz hn => ?_, fun a z ha hz => ?_⟩
  · rcases hz with hz | rfl
    · exact h.back z hz hn o w hR ho
    · rw [hr] at hR; cases hR
  · rcases hz with hz | rfl
    · exact h.only E hE hu z hz hn
    · exact hu i z hl
  · by_cases e : a = i
    · subst e; rw [hl] at hz; cases hz; exact .inr rfl
    · exact .inl (h.all a z (by omega) hz)
theorem VisI.more {l : IM} {R : Pf} {u v w : Int} {i o : Nat} {X Y X' Y' X2 Y2 : Int → Prop} (h : VisI l R u i X Y X' Y') (hl : l[i]? = some (u, v)) (hr : R v = some o) (ho : l[o]? = some (w, v)) (k : VisOk l R w X' (fun q => Y' q ∨ q = v) X2 Y2) : VisI l R u (i + 1) X Y X2 Y2 := by
  refine ⟨fun x hx => k.mx x (h.mx x hx), fun y hy => k.my y (.inl (h.my y hy)), fun x hx hn a z hz => ?_, fun z hz hn o' w' hR ho' => ?_, fun E hE hu z hz hn => ?_, fun a z ha hz => ?_⟩
  · by_cases e : X' x
    · exact k.my z (.inl (h.over x e hn a z hz))
    · exact k.over x hx e a z hz
  · by_cases e : Y' z
    · exact k.mx w' (h.back z e hn o' w' hR ho')
    · by_cases e2 : z = v
      · subst e2
        rw [hr] at hR; cases hR
        rw [ho] at ho'; cases ho'
        exact k.at_
      · exact k.back z hz (fun q => q.elim e e2) o' w' hR ho'
  · by_cases e : Y' z
    · exact h.only E hE hu z e hn
    · by_cases e2 : z = v
      · subst e2; exact hu i z hl
      · refine k.only E hE (fun a y hy => ?_) z hz (fun q => q.elim e e2)
        obtain ⟨o2, w2, q1, q2, q3⟩ := hE v (hu i v hl)
        rw [hr] at q1; cases q1
        rw [ho] at q2; cases q2
        exact q3 a y hy
  · by_cases e : a = i
    · subst e; rw [hl] at hz; cases hz; exact k.my _ (.inr rfl)
    · exact k.my z (.inl (h.all a z (by omega) hz))
structure Lf (l rl : IM) : Prop where
  wf : Wf rl (lefts l)
  one : ones rl
theorem Lf.put {l rl : IM} (h : Lf l rl) {u : Int} (hu : u ∈ lefts l) : Lf l (pI rl u 1) := ⟨h.wf.put hu 1, h.one.put u⟩
structure VisR (l rl rr left right : IM) (u : Int) (rl' rr' : IM) : Prop where
  lf : Lf l rl'
  sn : Sn l rr'
  grow : rl.length ≤ rl'.length
  ok : VisOk l (pfOf right) u (inM rl) (inM rr) (inM rl') (inM rr')
theorem visit_ok {l : IM} (hl : l.length ≤ 100) {left right : IM} (hp : Pl l left right) (hV : Valid l (pfOf left) (pfOf right)) : ∀ (n : Nat) (u : Int) (rl rr : IM), Lf l rl → Sn l rr → u ∈ lefts l → l.length < n + rl.length →
    ∃ rl' rr', (match_pairs_reach_1_rT n u rl l rr left right).run = some (mkW16 l rl' rr' left right) ∧ VisR l rl rr left right u rl' rr' := by
  intro n
  induction n with
  | zero =>
    intro u rl rr hx _ _ hf
    have := len_l hx.wf
    omega
  | succ n ih =>
    intro u rl rr hx hy hu hf
    show ∃ rl' rr', (match_pairs_reach_1_BT (match_pairs_reach_1_rT n) u rl l rr left right).run = some (mkW16 l rl' rr' left right) ∧ VisR l rl rr left right u rl' rr'
    unfold match_pairs_reach_1_BT
    by_cases hin : inM rl u
    · refine ⟨rl, rr, (run_t ((hx.one.pos u).2 hin)).trans rfl, hx, hy, Nat.le_refl _, fun _ h => h, fun _ h => h, hin, fun _ h k => absurd h k, fun _ h k => absurd h k, fun _ _ _ _ h k => absurd h k⟩
    have hn := hx.one.not hin
    have hx1 := hx.put hu
    have b0 := len_l hx1.wf
    have hz0 : decide ((0 : Int) < (getM tI tI rl u).getD (0 : Int)) = false := by rw [show getM tI tI rl u = none from hn]; rfl
    obtain ⟨a, h1, rl', rr', rfl, h2⟩ := loop_mu (f := fun v : Int × IM × IM × IM × IM × IM => match_pairs_reach_1_L3_step (match_pairs_reach_1_rT n) u l (l.length : Int) v.1 v.2.1 v.2.2.1 v.2.2.2.1 v.2.2.2.2.1 v.2.2.2.2.2)
      (fun s => ∃ (i : Nat) (xi yi : IM), i ≤ l.length ∧ s = ((i : Int), xi, l, yi, left, right) ∧ Lf l xi ∧ Sn l yi ∧ rl.length + 1 ≤ xi.length ∧ VisI l (pfOf right) u i (inM (pI rl u 1)) (inM rr) (inM xi) (inM yi)) (fun s => l.length - s.1.toNat)
      (fun a => ∃ rl' rr', a = (rl', l, rr', left, right) ∧ VisR l rl rr left right u rl' rr')
      (by
        rintro s ⟨i, xi, yi, hi, rfl, hxi, hyi, hle, hI⟩
        have dec : l.length - (((i + 1 : Nat) : Int)).toNat < l.length - ((i : Int)).toNat ∨ ¬ i < l.length := by
          rw [Int.toNat_natCast, Int.toNat_natCast]; omega
        by_cases hlt : i < l.length
        case neg =>
          have : i = l.length := by omega
          subst this
          right
          have hX1 : ∀ x, ¬ inM rl x → x ≠ u → ¬ inM (pI rl u 1) x := fun x h1 h2 => by rw [inM_put]; exact fun q => q.elim h1 h2
          refine ⟨_, v_end, xi, yi, rfl, hxi, hyi, by omega, fun x h => hI.mx x (by rw [inM_put]; exact .inl h), hI.my, hI.mx u (by rw [inM_put]; exact .inr rfl), fun x hx hnx a z hz => ?_, hI.back, hI.only⟩
          by_cases e : x = u
          · subst e; exact hI.all a z (List.getElem?_eq_some_iff.1 hz).1 hz
          · exact hI.over x hx (hX1 x hnx e) a z hz
        left
        have dec := dec.resolve_right fun h => h hlt
        obtain ⟨⟨u', v⟩, h⟩ : ∃ p, l[i]? = some p := ⟨_, List.getElem?_eq_getElem hlt⟩
        by_cases hc : u' ≠ u
        · exact ⟨_, v_skip (by omega) h hc, ⟨i + 1, xi, yi, hlt, rfl, hxi, hyi, hle, hI.skip fun z hz => by rw [h] at hz; cases hz; exact hc rfl⟩, dec⟩
        have hc : u' = u := Classical.byContradiction hc
        subst hc
        have hy2 := hyi.put (mem_right h)
        have b1 := len_r hy2.wf
        cases hr : gI right v with
        | none =>
          refine ⟨_, v_free (r := match_pairs_reach_1_rT n) (rl := xi) (rr := yi) (left := left) (right := right) (by omega) h hr (by omega), ⟨i + 1, xi, _, hlt, rfl, hxi, hy2, hle, ?_⟩, dec⟩
          rw [inM_put yi v]
          exact hI.free h (pfOf_none.2 hr)
        | some a =>
          obtain ⟨o, rfl⟩ := Int.eq_ofNat_of_zero_le (hp.nr v a hr)
          have hR : pfOf right v = some o := (pfOf_some hp.nr).2 hr
          obtain ⟨w, ho, hw⟩ := hV.rl v o hR
          obtain ⟨x2, y2, k1, k2⟩ := ih w xi (pI yi v 1) hxi hy2 (mem_left ho) (by omega)
          have hg := v_call (r := match_pairs_reach_1_rT n) (l := l) (rl := xi) (rr := yi) (left := left) (right := right) (u := u') (i := i) (v := v) (by omega) h hr ho (by omega) k1
          refine ⟨_, hg, ⟨i + 1, x2, y2, hlt, rfl, k2.lf, k2.sn, by have := k2.grow; omega, ?_⟩, dec⟩
          have hk := k2.ok
          rw [inM_put yi v] at hk
          exact hI.more h hR ho hk)
      (0, pI rl u 1, l, rr, left, right) ⟨0, pI rl u 1, rr, Nat.zero_le _, rfl, hx1, hy, by rw [pI_len rl u 1 hn]; exact Nat.le_refl _, .zero _ _ _ _ _⟩
    refine ⟨rl', rr', ?_, h2⟩
    refine (run_f hz0).trans ?_
    refine (run_ask (decide_eq_true (show (pI rl u 1).length ≤ 9223372036854775807 by omega))).trans ?_
    exact (run_bnd h1).trans rfl

/-! From all that are free. -/
theorem visit_mono {r r' : Int → IM → IM → IM → IM → IM → Tree V16} (h : ∀ a b c d e f, TLe (r a b c d e f) (r' a b c d e f)) (a : Int) (b c d e f : IM) : TLe (match_pairs_reach_1_BT r a b c d e f) (match_pairs_reach_1_BT r' a b c d e f) := by
  unfold match_pairs_reach_1_BT
  refine TLe.ite (TLe.rfl _) (TLe.ite (TLe.bnd (TLe.loop fun s => ?_) fun _ => TLe.rfl _) (TLe.rfl _))
  unfold match_pairs_reach_1_L3_step
  repeat' (first | exact h _ _ _ _ _ _ | with_reducible refine TLe.ite ?_ ?_ | with_reducible refine TLe.bnd ?_ fun _ => ?_ | exact TLe.rfl _)
theorem visit_up : ∀ (n : Nat) (a : Int) (b c d e f : IM), TLe (match_pairs_reach_1_rT n a b c d e f) (match_pairs_reach_1_rT (n + 1) a b c d e f)
  | 0, _, _, _, _, _, _ => TLe.fail _
  | n + 1, a, b, c, d, e, f => visit_mono (visit_up n) a b c d e f
theorem visit_run {l : IM} (hl : l.length ≤ 100) {left right : IM} (hp : Pl l left right) (hV : Valid l (pfOf left) (pfOf right)) {u : Int} {rl rr : IM} (hx : Lf l rl) (hy : Sn l rr) (hu : u ∈ lefts l) :
    ∃ rl' rr', (match_pairs_reach_1_T u rl l rr left right).run = some (mkW16 l rl' rr' left right) ∧ VisR l rl rr left right u rl' rr' := by
  obtain ⟨rl', rr', h1, h2⟩ := visit_ok hl hp hV (l.length + 1) u rl rr hx hy hu (by omega)
  exact ⟨rl', rr', recT_run (F := fun n => match_pairs_reach_1_rT n u rl l rr left right) (fun n => visit_up n _ _ _ _ _ _) h1, h2⟩
structure ReI (l : IM) (L R : Pf) (k : Nat) (X Y : Int → Prop) : Prop where
  free : ∀ (a : Nat) (u z : Int), a < k → l[a]? = some (u, z) → L u = none → X u
  over : ∀ x, X x → ∀ (a : Nat) (v : Int), l[a]? = some (x, v) → Y v
  back : ∀ v, Y v → ∀ (o : Nat) (w : Int), R v = some o → l[o]? = some (w, v) → X w
  only : ∀ E : Int → Prop, Clo l R E → (∀ (a : Nat) (u z : Int), l[a]? = some (u, z) → L u = none → ∀ (b : Nat) (y : Int), l[b]? = some (u, y) → E y) → ∀ v, Y v → E v
theorem ReI.zero (l : IM) (L R : Pf) : ReI l L R 0 (fun _ => False) (fun _ => False) := ⟨fun _ _ _ h => absurd h (Nat.not_lt_zero _), fun _ h => h.elim, fun _ h => h.elim, fun _ _ _ _ h => h.elim⟩
theorem ReI.skip {l : IM} {L R : Pf} {k : Nat} {X Y : Int → Prop} (h : ReI l L R k X Y) (hn : ∀ u z, l[k]? = some (u, z) → L u ≠ none) : ReI l L R (k + 1) X Y :=
  ⟨fun a u z ha hl hu => by
    by_cases e : a = k
    · subst e; exact absurd hu (hn u z hl)
    · exact h.free a u z (by omega) hl hu, h.over, h.back, h.only⟩
theorem ReI.more {l : IM} {L R : Pf} {k : Nat} {X Y X' Y' : Int → Prop} {u z : Int} (h : ReI l L R k X Y) (hl : l[k]? = some (u, z)) (hu : L u = none) (v : VisOk l R u X Y X' Y') : ReI l L R (k + 1) X' Y' := by
  refine ⟨fun a u' z' ha hl' hu' => ?_, fun x hx a y hy => ?_, fun y hy o w hR ho => ?_, fun E hE hf y hy => ?_⟩
  · by_cases e : a = k
    · subst e; rw [hl] at hl'; cases hl'; exact v.at_
    · exact v.mx _ (h.free a u' z' (by omega) hl' hu')
  · by_cases e : X x
    · exact v.my y (h.over x e a y hy)
    · exact v.over x hx e a y hy
  · by_cases e : Y y
    · exact v.mx w (h.back y e o w hR ho)
    · exact v.back y hy e o w hR ho
  · by_cases e : Y y
    · exact h.only E hE hf y e
    · exact v.only E hE (fun b q hq => hf k u z hl hu b q hq) y hy e
theorem reach_ok {l : IM} (hl : l.length ≤ 100) {left right : IM} (hp : Pl l left right) (hV : Valid l (pfOf left) (pfOf right)) :
    ∃ rl rr, (match_pairs_reach_T l left right).run = some (((), ((), ())), ((l, ((), ((), ()))), (left, (right, (((), ()), (rl, (rr, ()))))))) ∧ Lf l rl ∧ Sn l rr ∧ ReI l (pfOf left) (pfOf right) l.length (inM rl) (inM rr) := by
  unfold match_pairs_reach_T
  obtain ⟨a, h1, rl, rr, rfl, h2, h3, h4⟩ := loop_mu (f := fun v : Int × IM × IM × IM × IM × IM => match_pairs_reach_L5_step l (l.length : Int) v.1 v.2.1 v.2.2.1 v.2.2.2.1 v.2.2.2.2.1 v.2.2.2.2.2)
    (fun s => ∃ (i : Nat) (rl rr : IM), i ≤ l.length ∧ s = ((i : Int), l, left, right, rl, rr) ∧ Lf l rl ∧ Sn l rr ∧ ReI l (pfOf left) (pfOf right) i (inM rl) (inM rr)) (fun s => l.length - s.1.toNat)
    (fun a => ∃ rl rr, a = (l, left, right, rl, rr) ∧ Lf l rl ∧ Sn l rr ∧ ReI l (pfOf left) (pfOf right) l.length (inM rl) (inM rr))
    (by
      rintro s ⟨i, rl, rr, hi, rfl, hx, hy, hR⟩
      have dec : l.length - (((i + 1 : Nat) : Int)).toNat < l.length - ((i : Int)).toNat ∨ ¬ i < l.length := by
        rw [Int.toNat_natCast, Int.toNat_natCast]; omega
      show (∃ s', (match_pairs_reach_L5_step l (l.length : Int) (i : Int) l left right rl rr).run = some (.inl s') ∧ _ ∧ _) ∨ ∃ a, (match_pairs_reach_L5_step l (l.length : Int) (i : Int) l left right rl rr).run = some (.inr a) ∧ _
      unfold match_pairs_reach_L5_step
      by_cases hlt : i < l.length
      case neg =>
        have : i = l.length := by omega
        subst this
        right
        exact ⟨_, (run_f (decide_eq_false (by omega))).trans rfl, rl, rr, rfl, hx, hy, hR⟩
      left
      obtain ⟨⟨u, v⟩, h⟩ : ∃ p, l[i]? = some p := ⟨_, List.getElem?_eq_getElem hlt⟩
      rw [getD_at h]
      cases hu : gI left u with
      | some o =>
        refine ⟨(((i + 1 : Nat) : Int), l, left, right, rl, rr), ?_, ⟨i + 1, rl, rr, hlt, rfl, hx, hy, hR.skip fun u' z hz => ?_⟩, dec.resolve_right fun h => h hlt⟩
        · refine (run_t (decide_eq_true (by omega))).trans ?_
          refine (run_ask (inb_at hlt)).trans ?_
          refine (run_ask inb01).trans ?_
          refine (run_f (by rw [show getM (.int .i64) (.int .i64) left u = some o from hu]; rfl)).trans ?_
          rw [w64_i i (by omega)]; rfl
        · rw [h] at hz; cases hz
          exact fun e => by rw [pfOf_none.1 e] at hu; cases hu
      | none =>
        obtain ⟨rl', rr', k1, k2⟩ := visit_run hl hp hV hx hy (mem_left h)
        refine ⟨(((i + 1 : Nat) : Int), l, left, right, rl', rr'), ?_, ⟨i + 1, rl', rr', hlt, rfl, k2.lf, k2.sn, hR.more h (pfOf_none.2 hu) k2.ok⟩, dec.resolve_right fun h => h hlt⟩
        refine (run_t (decide_eq_true (by omega))).trans ?_
        refine (run_ask (inb_at hlt)).trans ?_
        refine (run_ask inb01).trans ?_
        refine (run_t (by rw [show getM (.int .i64) (.int .i64) left u = none from hu]; rfl)).trans ?_
        refine (run_ask inb01).trans ?_
        refine (run_bnd k1).trans ?_
        rw [w64_i i (by omega)]; rfl)
    (0, l, left, right, [], []) ⟨0, [], [], Nat.zero_le _, rfl, ⟨.nil _, fun q a h => (by cases h)⟩, .nil l, by rw [inM_nil]; exact .zero _ _ _⟩
  exact ⟨rl, rr, (run_bnd h1).trans rfl, h2, h3, h4⟩
theorem ReI.came {l : IM} {L R : Pf} {X Y : Int → Prop} (h : ReI l L R l.length X Y) : Came l L R X Y :=
  ⟨fun a u z hl hu => h.free a u z (List.getElem?_eq_some_iff.1 hl).1 hl hu, fun a u v hx hl => h.over u hx a v hl, fun v o w hy hR ho => h.back v hy o w hR ho, h.only⟩

/-! Orders, and rising lists. -/
structure SO {α : Type} (lt : α → α → Bool) : Prop where
  irr : ∀ a, lt a a = false
  tr : ∀ a b c, lt a b = true → lt b c = true → lt a c = true
  tot : ∀ a b, lt a b = false → lt b a = false → a = b
theorem SO.asym {α : Type} {lt : α → α → Bool} (h : SO lt) {a b : α} (k : lt a b = true) : lt b a = false := by
  cases e : lt b a with
  | false => rfl
  | true => have := h.tr _ _ _ k e; rw [h.irr] at this; cases this
theorem soI : SO (fun a b : Int => decide (a < b)) := ⟨fun a => by simp, fun a b c h k => by simp only [decide_eq_true_eq] at *; omega, fun a b h k => by simp only [decide_eq_false_iff_not] at *; omega⟩
theorem soS : SO ltS := ⟨less_irrefl, fun a b c h k => less_trans h k, fun a b h k => less_total h k⟩
/-- Two rising lists of the same are one. -/
theorem SO.uniq {α : Type} {lt : α → α → Bool} (h : SO lt) {a b : List α} (ha : a.Pairwise fun x y => lt x y = true) (hb : b.Pairwise fun x y => lt x y = true) (hm : ∀ x, x ∈ a ↔ x ∈ b) : a = b := by
  induction a generalizing b with
  | nil =>
    cases b with
    | nil => rfl
    | cons y b => exact absurd ((hm y).2 List.mem_cons_self) List.not_mem_nil
  | cons x a ih =>
    cases b with
    | nil => exact absurd ((hm x).1 List.mem_cons_self) List.not_mem_nil
    | cons y b =>
      obtain ⟨a1, a2⟩ := List.pairwise_cons.1 ha
      obtain ⟨b1, b2⟩ := List.pairwise_cons.1 hb
      have e : x = y := by
        rcases List.mem_cons.1 ((hm x).1 List.mem_cons_self) with e | hx
        · exact e
        rcases List.mem_cons.1 ((hm y).2 List.mem_cons_self) with e | hy
        · exact e.symm
        have h1 := b1 x hx
        have h2 := a1 y hy
        rw [h.asym h1] at h2; cases h2
      subst e
      rw [ih a2 b2 fun z => ⟨fun hz => ?_, fun hz => ?_⟩]
      · rcases List.mem_cons.1 ((hm z).1 (List.mem_cons_of_mem _ hz)) with e | k
        · subst e; have := a1 z hz; rw [h.irr] at this; cases this
        · exact k
      · rcases List.mem_cons.1 ((hm z).2 (List.mem_cons_of_mem _ hz)) with e | k
        · subst e; have := b1 z hz; rw [h.irr] at this; cases this
        · exact k
theorem compFrom_ok {α : Type} {lt eq : α → α → Bool} (h : SO lt) (he : ∀ a b, eq a b = true ↔ a = b) (x : α) (l : List α) (hs : (x :: l).Pairwise fun a b => lt b a = false) :
    (x :: compFrom eq x l).Pairwise (fun a b => lt a b = true) ∧ (∀ z, z ∈ x :: compFrom eq x l ↔ z ∈ x :: l) ∧ (compFrom eq x l).length ≤ l.length := by
  induction l generalizing x with
  | nil => exact ⟨List.pairwise_singleton _ _, fun z => Iff.rfl, Nat.le_refl _⟩
  | cons y l ih =>
    obtain ⟨h1, h2⟩ := List.pairwise_cons.1 hs
    obtain ⟨h3, h4⟩ := List.pairwise_cons.1 h2
    simp only [compFrom]
    cases hq : eq y x with
    | true =>
      have e := (he y x).1 hq
      subst e
      obtain ⟨k1, k2, k3⟩ := ih y (List.pairwise_cons.2 ⟨h3, h4⟩)
      refine ⟨k1, fun z => ?_, by simp; omega⟩
      rw [k2 z]; simp
    | false =>
      obtain ⟨k1, k2, k3⟩ := ih y h2
      have hxy : lt x y = true := by
        cases hb : lt x y with
        | true => rfl
        | false =>
          have e := h.tot x y hb (h1 y List.mem_cons_self)
          subst e
          rw [(he x x).2 rfl] at hq; cases hq
      refine ⟨List.pairwise_cons.2 ⟨fun z hz => ?_, k1⟩, fun z => ?_, by simp; omega⟩
      · rcases List.mem_cons.1 hz with e | hz
        · subst e; exact hxy
        · exact h.tr _ _ _ hxy ((List.pairwise_cons.1 k1).1 z hz)
      · rw [List.mem_cons, k2 z, List.mem_cons (b := x)]
theorem compL_ok {α : Type} {lt eq : α → α → Bool} (h : SO lt) (he : ∀ a b, eq a b = true ↔ a = b) (l : List α) (hs : l.Pairwise fun a b => lt b a = false) :
    (compL eq l).Pairwise (fun a b => lt a b = true) ∧ (∀ z, z ∈ compL eq l ↔ z ∈ l) ∧ (compL eq l).length ≤ l.length := by
  cases l with
  | nil => exact ⟨List.Pairwise.nil, fun z => Iff.rfl, Nat.le_refl _⟩
  | cons x l =>
    obtain ⟨k1, k2, k3⟩ := compFrom_ok h he x l hs
    exact ⟨k1, k2, by simp [compL]; omega⟩
def setI (l : List Int) : List Int := compL eqI (sortI l)
def setS (l : List Str) : List Str := compL eqS (sortS l)
theorem setI_ok (l : List Int) : (setI l).Pairwise (fun a b => decide (a < b) = true) ∧ (∀ z, z ∈ setI l ↔ z ∈ l) ∧ (setI l).length ≤ l.length := by
  have hs := isortB_sorted (le := leI) (fun a b c h k => by unfold leI at *; simp only [decide_eq_true_eq] at *; omega) (fun a b h => by unfold leI at *; simp only [decide_eq_true_eq, decide_eq_false_iff_not] at *; omega) l
  obtain ⟨k1, k2, k3⟩ := compL_ok soI (eq := eqI) (fun a b => by unfold eqI; simp) (sortI l) (hs.imp fun {a b} h => by unfold leI at h; simp only [decide_eq_true_eq, decide_eq_false_iff_not] at *; omega)
  exact ⟨k1, fun z => (k2 z).trans (isortB_perm _ l).mem_iff, by rw [(isortB_perm leI l).length_eq] at k3; exact k3⟩
theorem setS_ok (l : List Str) : (setS l).Pairwise (fun a b => ltS a b = true) ∧ (∀ z, z ∈ setS l ↔ z ∈ l) ∧ (setS l).length ≤ l.length := by
  have hs := isortB_sorted (le := leS) leS_trans leS_total l
  obtain ⟨k1, k2, k3⟩ := compL_ok soS (eq := eqS) (fun a b => by unfold eqS; simp) (sortS l) (hs.imp fun {a b} h => by unfold leS at h; simpa using h)
  exact ⟨k1, fun z => (k2 z).trans (isortB_perm _ l).mem_iff, by rw [(isortB_perm leS l).length_eq] at k3; exact k3⟩
/-- One more, in its place, once. -/
def insL {α : Type} (lt : α → α → Bool) (x : α) : List α → List α
  | [] => [x]
  | y :: l => match lt y x with | true => y :: insL lt x l | false => match lt x y with | true => x :: y :: l | false => y :: l
theorem insL_ok {α : Type} {lt : α → α → Bool} (h : SO lt) (x : α) {l : List α} (hs : l.Pairwise fun a b => lt a b = true) :
    (insL lt x l).Pairwise (fun a b => lt a b = true) ∧ (∀ z, z ∈ insL lt x l ↔ z = x ∨ z ∈ l) ∧ (insL lt x l).length ≤ l.length + 1 := by
  induction l with
  | nil => exact ⟨List.pairwise_singleton _ _, fun z => by simp [insL], by simp [insL]⟩
  | cons y l ih =>
    obtain ⟨h1, h2⟩ := List.pairwise_cons.1 hs
    obtain ⟨k1, k2, k3⟩ := ih h2
    simp only [insL]
    cases hb : lt y x with
    | true =>
      refine ⟨List.pairwise_cons.2 ⟨fun z hz => ?_, k1⟩, fun z => ?_, by simp; omega⟩
      · rcases (k2 z).1 hz with rfl | hz
        · exact hb
        · exact h1 z hz
      · rw [List.mem_cons, k2 z, List.mem_cons]
        constructor
        · rintro (h | h | h)
          · exact .inr (.inl h)
          · exact .inl h
          · exact .inr (.inr h)
        · rintro (h | h | h)
          · exact .inr (.inl h)
          · exact .inl h
          · exact .inr (.inr h)
    | false =>
      cases hc : lt x y with
      | true =>
        refine ⟨List.pairwise_cons.2 ⟨fun z hz => ?_, hs⟩, fun z => by simp, by simp⟩
        rcases List.mem_cons.1 hz with rfl | hz
        · exact hc
        · exact h.tr _ _ _ hc (h1 z hz)
      | false =>
        have e := h.tot x y hc hb
        subst e
        exact ⟨hs, fun z => by simp, by simp⟩
def insAll {α : Type} (lt : α → α → Bool) (acc l : List α) : List α := l.foldl (fun acc x => insL lt x acc) acc
theorem insAll_ok {α : Type} {lt : α → α → Bool} (h : SO lt) (l : List α) {acc : List α} (hs : acc.Pairwise fun a b => lt a b = true) :
    (insAll lt acc l).Pairwise (fun a b => lt a b = true) ∧ (∀ z, z ∈ insAll lt acc l ↔ z ∈ acc ∨ z ∈ l) ∧ (insAll lt acc l).length ≤ acc.length + l.length := by
  induction l generalizing acc with
  | nil => exact ⟨hs, fun z => by simp [insAll], by simp [insAll]⟩
  | cons x l ih =>
    obtain ⟨k1, k2, k3⟩ := insL_ok h x hs
    obtain ⟨j1, j2, j3⟩ := ih k1
    refine ⟨j1, fun z => ?_, ?_⟩
    · show z ∈ insAll lt (insL lt x acc) l ↔ _
      rw [j2 z, k2 z, List.mem_cons]
      constructor
      · rintro ((h | h) | h)
        · exact .inr (.inl h)
        · exact .inl h
        · exact .inr (.inr h)
      · rintro (h | h | h)
        · exact .inl (.inr h)
        · exact .inl (.inl h)
        · exact .inr h
    · show (insAll lt (insL lt x acc) l).length ≤ _
      simp only [List.length_cons]; omega
theorem insAll_setI (l : List Int) : insAll (fun a b => decide (a < b)) [] l = setI l := by
  obtain ⟨k1, k2, _⟩ := insAll_ok soI l (acc := []) List.Pairwise.nil
  obtain ⟨j1, j2, _⟩ := setI_ok l
  exact soI.uniq k1 j1 fun z => by rw [k2, j2]; simp
theorem insAll_setS (l : List Str) : insAll ltS [] l = setS l := by
  obtain ⟨k1, k2, _⟩ := insAll_ok soS l (acc := []) List.Pairwise.nil
  obtain ⟨j1, j2, _⟩ := setS_ok l
  exact soS.uniq k1 j1 fun z => by rw [k2, j2]; simp

/-! The numbers of which one is a side of each pair. -/
def Rising (f : List Int) : Prop := f.Pairwise fun a b => a < b
theorem w64_id (j : Nat) (h : j ≤ 1000000) : w64 (j : Int) = (j : Int) := by
  cases j with
  | zero => rfl
  | succ k => exact w64_nat k (by omega)
theorem getI_at {f : List Int} {i : Nat} (hi : i < f.length) : f.getD ((i : Int)).toNat (0 : Int) = f[i] := by
  rw [Int.toNat_natCast, List.getD_eq_getElem?_getD, List.getElem?_eq_getElem hi]; rfl
theorem rise_run {f : List Int} (hl : f.length ≤ 1000) (h : Rising f) : (r16_Rise_T f).run = some true := by
  unfold r16_Rise_T
  obtain ⟨a, h1, rfl⟩ := loop_mu (f := fun v : Int => r16_Rise_L2_step f v) (fun s => ∃ i : Nat, s = (i : Int) ∧ 1 ≤ i) (fun s => f.length - s.toNat) (fun a => a = Sum.inr ()) (by
    rintro s ⟨i, rfl, hi⟩
    obtain ⟨j, rfl⟩ : ∃ j, i = j + 1 := ⟨i - 1, by omega⟩
    show (∃ s', (r16_Rise_L2_step f ((j + 1 : Nat) : Int)).run = some (.inl s') ∧ _ ∧ _) ∨ ∃ a, (r16_Rise_L2_step f ((j + 1 : Nat) : Int)).run = some (.inr a) ∧ _
    unfold r16_Rise_L2_step
    by_cases hlt : j + 1 < f.length
    · left
      have e : w64 (((j + 1 : Nat) : Int) - 1) = (j : Int) := by rw [show ((j + 1 : Nat) : Int) - 1 = (j : Int) by omega, w64_id j (by omega)]
      refine ⟨((j + 1 + 1 : Nat) : Int), ?_, ⟨j + 1 + 1, rfl, by omega⟩, ?_⟩
      · rw [e]
        refine (run_t (decide_eq_true (by omega))).trans ?_
        refine (run_ask (inb_at (by omega))).trans ?_
        refine (run_ask (inb_at hlt)).trans ?_
        refine (run_f ?_).trans ?_
        · rw [getI_at hlt, getI_at (show j < f.length by omega), decide_eq_false_iff_not]
          have := List.pairwise_iff_getElem.1 h j (j + 1) (by omega) hlt (by omega)
          omega
        · rw [w64_nat (j + 1) (by omega)]; rfl
      · rw [Int.toNat_natCast, Int.toNat_natCast]; omega
    · right
      exact ⟨_, (run_f (decide_eq_false (by omega))).trans rfl, rfl⟩)
    1 ⟨1, rfl, Nat.le_refl _⟩
  exact (run_bnd h1).trans rfl
theorem in_run {a : List Int} (hl : a.length ≤ 1000) (n : Int) : (r16_In_T a n).run = some (decide (n ∈ a)) := by
  have h := any_loop a (fun x => decide (x = n)) (fun v => r16_In_L2_step a n v) (Sum.inl true : Bool ⊕ Unit) (Sum.inr ()) (by omega)
    (fun k hk => by
      show (r16_In_L2_step a n (k : Int)).run = _
      unfold r16_In_L2_step
      rw [getI_at hk]
      refine (run_t (decide_eq_true (by omega))).trans ?_
      refine (run_ask (inb_at hk)).trans ?_
      cases decide (a[k] = n) <;> rfl)
    (by
      show (r16_In_L2_step a n (a.length : Int)).run = _
      unfold r16_In_L2_step
      exact (run_f (decide_eq_false (by omega))).trans rfl)
  unfold r16_In_T
  refine (run_bnd (t := Tree.loop (fun v => r16_In_L2_step a n v) 0) h).trans ?_
  have e : decide (n ∈ a) = a.any fun x => decide (x = n) := by
    rw [Bool.eq_iff_iff, decide_eq_true_eq, List.any_eq_true]
    exact ⟨fun h => ⟨n, h, decide_eq_true rfl⟩, fun ⟨x, h1, h2⟩ => of_decide_eq_true h2 ▸ h1⟩
  rw [e]
  cases a.any (fun x => decide (x = n)) <;> rfl
theorem ones.zero {x : IM} (h : ones x) (q : Int) : decide ((gI x q).getD 0 = 0) = true ↔ ¬ inM x q := by
  unfold inM
  cases hq : gI x q with
  | none => simp
  | some a => rw [h q a hq]; simp
theorem in_more {a : List Int} {i : Nat} {Q : Nat → Int → Prop} (h : ∀ u, u ∈ a ↔ ∃ j, j < i ∧ Q j u) {u0 : Int} (hq : ∀ u, Q i u ↔ u = u0) : ∀ u, u ∈ a ++ [u0] ↔ ∃ j, j < i + 1 ∧ Q j u := fun u => by
  rw [List.mem_append, List.mem_singleton, h]
  constructor
  · rintro (⟨j, h1, h2⟩ | e)
    · exact ⟨j, by omega, h2⟩
    · exact ⟨i, by omega, (hq u).2 e⟩
  · rintro ⟨j, h1, h2⟩
    by_cases e : j = i
    · subst e; exact .inr ((hq u).1 h2)
    · exact .inl ⟨j, by omega, h2⟩
theorem in_same {a : List Int} {i : Nat} {Q : Nat → Int → Prop} (h : ∀ u, u ∈ a ↔ ∃ j, j < i ∧ Q j u) (hq : ∀ u, ¬ Q i u) : ∀ u, u ∈ a ↔ ∃ j, j < i + 1 ∧ Q j u := fun u => by
  rw [h]
  constructor
  · rintro ⟨j, h1, h2⟩; exact ⟨j, by omega, h2⟩
  · rintro ⟨j, h1, h2⟩
    by_cases e : j = i
    · subst e; exact absurd h2 (hq u)
    · exact ⟨j, by omega, h2⟩
theorem cover_step {l : IM} (hl : l.length ≤ 100) {left right rl rr : IM} (hx : Lf l rl) (hy : Sn l rr) {i : Nat} {u v : Int} (h : l[i]? = some (u, v)) {a b : List Int} (ha : a.length ≤ 100) (hb : b.length ≤ 100) :
    ∃ a' b', (match_Cover_L5_step l (l.length : Int) left right rl rr (i : Int) a b).run = some (.inl (((i + 1 : Nat) : Int), a', b')) ∧ ((inM rl u ∧ a' = a) ∨ (¬ inM rl u ∧ a' = a ++ [u])) ∧ ((inM rr v ∧ b' = b ++ [v]) ∨ (¬ inM rr v ∧ b' = b)) := by
  have hi := (List.getElem?_eq_some_iff.1 h).1
  unfold match_Cover_L5_step
  rw [getD_at h]
  have ra : ∀ x : Int, decide ((a ++ [x]).length * 8 ≤ roomNat) = true := fun x => room_le _ _ (by rw [List.length_append, List.length_singleton]; omega) (by omega)
  have rb : ∀ x : Int, decide ((b ++ [x]).length * 8 ≤ roomNat) = true := fun x => room_le _ _ (by rw [List.length_append, List.length_singleton]; omega) (by omega)
  by_cases h1 : inM rl u
  · have e1 : decide ((getM tI tI rl u).getD (0 : Int) = 0) = false := Bool.eq_false_iff.2 fun q => (hx.one.zero u).1 q h1
    by_cases h2 : inM rr v
    · have e2 : decide ((0 : Int) < (getM tI tI rr v).getD (0 : Int)) = true := (hy.one.pos v).2 h2
      refine ⟨a, b ++ [v], ?_, .inl ⟨h1, rfl⟩, .inl ⟨h2, rfl⟩⟩
      refine (run_t (decide_eq_true (by omega))).trans ((run_ask (inb_at hi)).trans ((run_ask inb01).trans ((run_f e1).trans ((run_ask inb12).trans ((run_t e2).trans ((run_ask inb12).trans ((run_ask (rb v)).trans ?_)))))))
      rw [w64_i i (by omega)]; rfl
    · have e2 : decide ((0 : Int) < (getM tI tI rr v).getD (0 : Int)) = false := Bool.eq_false_iff.2 fun q => h2 ((hy.one.pos v).1 q)
      refine ⟨a, b, ?_, .inl ⟨h1, rfl⟩, .inr ⟨h2, rfl⟩⟩
      refine (run_t (decide_eq_true (by omega))).trans ((run_ask (inb_at hi)).trans ((run_ask inb01).trans ((run_f e1).trans ((run_ask inb12).trans ((run_f e2).trans ?_)))))
      rw [w64_i i (by omega)]; rfl
  · have e1 : decide ((getM tI tI rl u).getD (0 : Int) = 0) = true := (hx.one.zero u).2 h1
    by_cases h2 : inM rr v
    · have e2 : decide ((0 : Int) < (getM tI tI rr v).getD (0 : Int)) = true := (hy.one.pos v).2 h2
      refine ⟨a ++ [u], b ++ [v], ?_, .inr ⟨h1, rfl⟩, .inl ⟨h2, rfl⟩⟩
      refine (run_t (decide_eq_true (by omega))).trans ((run_ask (inb_at hi)).trans ((run_ask inb01).trans ((run_t e1).trans ((run_ask inb01).trans ((run_ask (ra u)).trans ((run_ask inb12).trans ((run_t e2).trans ((run_ask inb12).trans ((run_ask (rb v)).trans ?_)))))))))
      rw [w64_i i (by omega)]; rfl
    · have e2 : decide ((0 : Int) < (getM tI tI rr v).getD (0 : Int)) = false := Bool.eq_false_iff.2 fun q => h2 ((hy.one.pos v).1 q)
      refine ⟨a ++ [u], b, ?_, .inr ⟨h1, rfl⟩, .inr ⟨h2, rfl⟩⟩
      refine (run_t (decide_eq_true (by omega))).trans ((run_ask (inb_at hi)).trans ((run_ask inb01).trans ((run_t e1).trans ((run_ask inb01).trans ((run_ask (ra u)).trans ((run_ask inb12).trans ((run_f e2).trans ?_)))))))
      rw [w64_i i (by omega)]; rfl
structure CovOk (l : IM) (n : Nat) (A B : List Int) : Prop where
  ra : Rising A
  rb : Rising B
  sum : A.length + B.length = n
  all : ∀ (i : Nat) (u v : Int), l[i]? = some (u, v) → u ∈ A ∨ v ∈ B
theorem cover_ok {l : IM} (hl : l.length ≤ 100) {n : Nat} (hm : MaxInd l n) : ∃ A B, (match_Cover_T l).run = some (A, B, ()) ∧ CovOk l n A B := by
  obtain ⟨left, right, c1, c2, c3⟩ := choose_ok hl
  obtain ⟨rl, rr, d1, d2, d3, d4⟩ := reach_ok hl c2 c3.val
  unfold match_Cover_T
  obtain ⟨s, h1, a, b, rfl, ha, hb, qa, qb⟩ := loop_mu (f := fun v : Int × List Int × List Int => match_Cover_L5_step l (l.length : Int) left right rl rr v.1 v.2.1 v.2.2)
    (fun s => ∃ (i : Nat) (a b : List Int), i ≤ l.length ∧ s = ((i : Int), a, b) ∧ a.length ≤ i ∧ b.length ≤ i ∧ (∀ u, u ∈ a ↔ ∃ j, j < i ∧ ((∃ z, l[j]? = some (u, z)) ∧ ¬ inM rl u)) ∧ (∀ v, v ∈ b ↔ ∃ j, j < i ∧ ((∃ u, l[j]? = some (u, v)) ∧ inM rr v))) (fun s => l.length - s.1.toNat)
    (fun s => ∃ a b, s = (a, b) ∧ a.length ≤ l.length ∧ b.length ≤ l.length ∧ (∀ u, u ∈ a ↔ ∃ j, j < l.length ∧ ((∃ z, l[j]? = some (u, z)) ∧ ¬ inM rl u)) ∧ (∀ v, v ∈ b ↔ ∃ j, j < l.length ∧ ((∃ u, l[j]? = some (u, v)) ∧ inM rr v)))
    (by
      rintro s ⟨i, a, b, hi, rfl, la, lb, qa, qb⟩
      have dec : l.length - (((i + 1 : Nat) : Int)).toNat < l.length - ((i : Int)).toNat ∨ ¬ i < l.length := by
        rw [Int.toNat_natCast, Int.toNat_natCast]; omega
      by_cases hlt : i < l.length
      case neg =>
        have : i = l.length := by omega
        subst this
        right
        refine ⟨(a, b), ?_, a, b, rfl, la, lb, qa, qb⟩
        show (match_Cover_L5_step l (l.length : Int) left right rl rr (l.length : Int) a b).run = _
        unfold match_Cover_L5_step
        exact (run_f (decide_eq_false (by omega))).trans rfl
      left
      obtain ⟨⟨u, v⟩, h⟩ : ∃ p, l[i]? = some p := ⟨_, List.getElem?_eq_getElem hlt⟩
      obtain ⟨a', b', k1, k2, k3⟩ := cover_step (left := left) (right := right) hl d2 d3 h (a := a) (b := b) (by omega) (by omega)
      refine ⟨_, k1, ⟨i + 1, a', b', hlt, rfl, ?_, ?_, ?_, ?_⟩, dec.resolve_right fun h => h hlt⟩
      · rcases k2 with ⟨_, rfl⟩ | ⟨_, rfl⟩
        · omega
        · rw [List.length_append, List.length_singleton]; omega
      · rcases k3 with ⟨_, rfl⟩ | ⟨_, rfl⟩
        · rw [List.length_append, List.length_singleton]; omega
        · omega
      · rcases k2 with ⟨hin, rfl⟩ | ⟨hin, rfl⟩
        · exact in_same qa fun q => by rintro ⟨⟨z, hz⟩, hn⟩; rw [h] at hz; cases hz; exact hn hin
        · exact in_more qa fun q => ⟨by rintro ⟨⟨z, hz⟩, hn⟩; rw [h] at hz; cases hz; rfl, by rintro rfl; exact ⟨⟨v, h⟩, hin⟩⟩
      · rcases k3 with ⟨hin, rfl⟩ | ⟨hin, rfl⟩
        · exact in_more qb fun q => ⟨by rintro ⟨⟨z, hz⟩, hn⟩; rw [h] at hz; cases hz; rfl, by rintro rfl; exact ⟨⟨u, h⟩, hin⟩⟩
        · exact in_same qb fun q => by rintro ⟨⟨z, hz⟩, hn⟩; rw [h] at hz; cases hz; exact hin hn)
    (0, [], []) ⟨0, [], [], Nat.zero_le _, rfl, Nat.le_refl _, Nat.le_refl _, fun u => ⟨fun h => (by cases h), fun ⟨j, h, _⟩ => absurd h (Nat.not_lt_zero _)⟩, fun u => ⟨fun h => (by cases h), fun ⟨j, h, _⟩ => absurd h (Nat.not_lt_zero _)⟩⟩
  obtain ⟨a1, a2, a3⟩ := setI_ok a
  obtain ⟨b1, b2, b3⟩ := setI_ok b
  have ra : Rising (setI a) := a1.imp fun h => of_decide_eq_true h
  have rb : Rising (setI b) := b1.imp fun h => of_decide_eq_true h
  have na : (setI a).Nodup := ra.imp fun h e => by omega
  have nb : (setI b).Nodup := rb.imp fun h e => by omega
  have hA : ∀ u, u ∈ setI a ↔ (∃ (j : Nat) (z : Int), l[j]? = some (u, z)) ∧ ¬ inM rl u := fun u => by
    rw [a2, qa]
    exact ⟨fun ⟨j, _, ⟨z, hz⟩, hn⟩ => ⟨⟨j, z, hz⟩, hn⟩, fun ⟨⟨j, z, hz⟩, hn⟩ => ⟨j, (List.getElem?_eq_some_iff.1 hz).1, ⟨z, hz⟩, hn⟩⟩
  have hB : ∀ v, v ∈ setI b ↔ (∃ (j : Nat) (u : Int), l[j]? = some (u, v)) ∧ inM rr v := fun v => by
    rw [b2, qb]
    exact ⟨fun ⟨j, _, ⟨z, hz⟩, hn⟩ => ⟨⟨j, z, hz⟩, hn⟩, fun ⟨⟨j, z, hz⟩, hn⟩ => ⟨j, (List.getElem?_eq_some_iff.1 hz).1, ⟨z, hz⟩, hn⟩⟩
  have hsum := cover_len c3 d4.came c2.wl.once (dom_iff left) na hA nb hB
  have hmx := chosen_max c3 c2.wl.once (dom_iff left)
  refine ⟨setI a, setI b, ?_, ra, rb, hsum.trans (hmx.uniq hm), fun i u v h => ?_⟩
  · refine (run_bnd c1).trans ((run_bnd d1).trans ((run_bnd h1).trans ?_))
    have s1 : (slices_Sort_int_T a).run = some ((), (sortI a, ())) := run_ask (decide_eq_true (by omega))
    have s2 : (slices_Sort_int_T b).run = some ((), (sortI b, ())) := run_ask (decide_eq_true (by omega))
    exact (run_bnd s1).trans ((run_bnd s2).trans rfl)
  · by_cases hx : inM rl u
    · exact .inr ((hB v).2 ⟨⟨i, u, h⟩, d4.over u hx i v h⟩)
    · exact .inl ((hA u).2 ⟨⟨i, v, h⟩, hx⟩)

/-! The pairs that are found. -/
theorem val_at {x : IM} (hn : (x.map (·.1)).Nodup) {p : Int × Int} (h : p ∈ x) : gI x p.1 = some p.2 := by
  induction x with
  | nil => cases h
  | cons q x ih =>
    rw [List.map_cons, List.nodup_cons] at hn
    rw [gI_cons]
    rcases List.mem_cons.1 h with rfl | h
    · rw [if_pos rfl]
    · rw [if_neg (fun e => hn.1 (List.mem_map.2 ⟨p, h, e⟩))]
      exact ih hn.2 h
theorem Ind.perm {l : IM} {I J : List Nat} (h : Ind l I) (hp : I.Perm J) : Ind l J :=
  ⟨fun i hi => h.1 i (hp.mem_iff.2 hi), (hp.pairwise_iff (R := fun i j => ∀ p q, l[i]? = some p → l[j]? = some q → p.1 ≠ q.1 ∧ p.2 ≠ q.2) (fun {a b} hr p q hp hq => ⟨Ne.symm (hr q p hq hp).1, Ne.symm (hr q p hq hp).2⟩)).1 h.2⟩
theorem toI_back (J : List Nat) : (toI J).map Int.toNat = J := by
  rw [toI, List.map_map]
  have : (Int.toNat ∘ Int.ofNat) = id := by funext n; rfl
  rw [this, List.map_id]
theorem find_ok {l : IM} (hl : l.length ≤ 100) : ∃ I : List Nat, (match_Find_T l).run = some (toI I) ∧ I.Pairwise (· < ·) ∧ Ind l I ∧ MaxInd l I.length := by
  obtain ⟨left, right, c1, c2, c3⟩ := choose_ok hl
  have hJ : left.map (·.2) = toI ((left.map (·.1)).map fun u => (pfOf left u).getD 0) := by
    rw [toI, List.map_map, List.map_map]
    refine List.map_congr_left fun p hp => ?_
    have h1 := val_at c2.wl.once hp
    have h0 := c2.nl p.1 p.2 h1
    show p.2 = Int.ofNat (((gI left p.1).map Int.toNat).getD 0)
    rw [h1]
    show p.2 = ((p.2.toNat : Nat) : Int)
    omega
  have hI := chosen_ind c3.val c2.wl.once fun u hu => (dom_iff left u).1 hu
  have hm := chosen_max c3 c2.wl.once (dom_iff left)
  generalize hJJ : (left.map (·.1)).map (fun u => (pfOf left u).getD 0) = J at hJ hI
  have hlen : J.length = (left.map (·.1)).length := by rw [← hJJ, List.length_map]
  have hp : (sortI (toI J)).Perm (toI J) := isortB_perm leI _
  have hs := isortB_sorted (le := leI) (fun a b c h k => by unfold leI at *; simp only [decide_eq_true_eq] at *; omega) (fun a b h => by unfold leI at *; simp only [decide_eq_true_eq, decide_eq_false_iff_not] at *; omega) (toI J)
  have hpI : ((sortI (toI J)).map Int.toNat).Perm J := by have := hp.map Int.toNat; rwa [toI_back] at this
  have hback : toI ((sortI (toI J)).map Int.toNat) = sortI (toI J) := by
    rw [toI, List.map_map]
    have : ∀ x ∈ sortI (toI J), (Int.ofNat ∘ Int.toNat) x = id x := fun x hx => by
      obtain ⟨n, _, rfl⟩ := List.mem_map.1 (hp.mem_iff.1 hx)
      rfl
    rw [List.map_congr_left this, List.map_id]
  have hII := hI.perm hpI.symm
  refine ⟨(sortI (toI J)).map Int.toNat, ?_, ?_, hII, ?_⟩
  · unfold match_Find_T
    refine (run_bnd c1).trans ?_
    have b1 := len_l c2.wl
    refine (run_ask (room_le _ _ (by show left.length ≤ 1000000; omega) (by omega))).trans ?_
    refine (run_ask (decide_eq_true (by show left.length < 4611686018427387904; omega))).trans ?_
    show some (sortI (left.map (·.2))) = _
    rw [hJ, hback]
  · have h1 : (toI ((sortI (toI J)).map Int.toNat)).Pairwise fun a b => leI a b = true := by rw [hback]; exact hs
    rw [toI, List.pairwise_map] at h1
    refine (List.pairwise_and_iff.2 ⟨h1, hII.nodup⟩).imp fun {a b} h => ?_
    have h2 := h.1
    unfold leI at h2
    rw [decide_eq_true_eq] at h2
    have h3 : (a : Int) ≤ (b : Int) := h2
    have h4 := h.2
    omega
  · rw [hpI.length_eq, hlen]; exact hm
theorem inbe_at {i n : Nat} (h : i ≤ n) : inbe (i : Int) n = true := by
  show decide ((0 : Int) ≤ (i : Int) ∧ (i : Int) ≤ (n : Int)) = true
  rw [decide_eq_true_eq]; omega
theorem toI_rising {I : List Nat} (h : I.Pairwise (· < ·)) : Rising (toI I) := by
  unfold Rising toI
  rw [List.pairwise_map]
  exact h.imp fun {a b} h => by show (a : Int) < (b : Int); omega
theorem l8_run {l : IM} (hl : l.length ≤ 100) {I : List Nat} (hI : Ind l I) (hn : I.length ≤ 100) (A B : List Int) : (Tree.loop (fun v => l16_MatchProof_L8_step l A B (toI I) v) 0).run = some (.inr ()) := by
  have hlen : (toI I).length = I.length := by simp [toI]
  refine same_loop I.length (fun v => l16_MatchProof_L8_step l A B (toI I) v) (Sum.inr () : Bool ⊕ Unit) (by omega) (fun i hi => ?_) ?_
  · show (l16_MatchProof_L8_step l A B (toI I) (i : Int)).run = _
    unfold l16_MatchProof_L8_step
    have hlt := hI.1 I[i] (List.getElem_mem hi)
    rw [toI_at hi, hlen]
    have z1 : decide (((I[i] : Nat) : Int) < 0) = false := decide_eq_false (by omega)
    have z2 : decide ((l.length : Int) ≤ ((I[i] : Nat) : Int)) = false := decide_eq_false (by omega)
    rw [z1, z2]
    have htk : (toI I).take ((i : Int)).toNat = toI (I.take i) := by rw [Int.toNat_natCast, toI, ← List.map_take]
    have hsub : Ind l (I.take i ++ [I[i]]) := by
      rw [← List.take_succ_eq_append_getElem hi]
      exact ⟨fun a ha => hI.1 a (List.mem_of_mem_take ha), hI.2.sublist (List.take_sublist _ _)⟩
    have hsub0 : Ind l (I.take i) := ⟨fun a ha => hI.1 a (List.mem_of_mem_take ha), hI.2.sublist (List.take_sublist _ _)⟩
    have hfree := (ind_snoc hsub0 hlt).2 hsub
    have hf := free_run (l := l) (by omega) (P := I.take i) (fun p hp => hI.1 p (List.mem_of_mem_take hp)) (by have := List.length_take_le i I; omega) hlt
    rw [hfree, ← htk] at hf
    refine (run_t (decide_eq_true (by omega))).trans ?_
    refine (run_ask (inb_at hi)).trans ?_
    refine (run_ask (by rw [inb_at hi, Bool.or_true])).trans ?_
    refine (run_ask (by rw [inbe_at (by omega), Bool.or_true])).trans ?_
    refine (run_ask (by rw [inb_at hi, Bool.or_true])).trans ?_
    refine (run_grd hf).trans ?_
    rfl
  · show (l16_MatchProof_L8_step l A B (toI I) (I.length : Int)).run = _
    unfold l16_MatchProof_L8_step
    rw [hlen]
    exact (run_f (decide_eq_false (by omega))).trans rfl
theorem l13_run {l : IM} (hl : l.length ≤ 100) {A B : List Int} (ha : A.length ≤ 1000) (hb : B.length ≤ 1000) (h : ∀ (i : Nat) (u v : Int), l[i]? = some (u, v) → u ∈ A ∨ v ∈ B) : (Tree.loop (fun v => l16_MatchProof_L13_step l A B v) 0).run = some (.inr ()) := by
  refine same_loop l.length (fun v => l16_MatchProof_L13_step l A B v) (Sum.inr () : Bool ⊕ Unit) (by omega) (fun i hi => ?_) ?_
  · show (l16_MatchProof_L13_step l A B (i : Int)).run = _
    unfold l16_MatchProof_L13_step
    obtain ⟨⟨u, v⟩, hp⟩ : ∃ p, l[i]? = some p := ⟨_, List.getElem?_eq_getElem hi⟩
    rw [getD_at hp]
    refine (run_t (decide_eq_true (by omega))).trans ?_
    refine (run_ask (inb_at hi)).trans ?_
    refine (run_ask inb01).trans ?_
    refine (run_bnd (in_run ha u)).trans ?_
    refine (run_ask (by rw [inb_at hi, Bool.or_true])).trans ?_
    refine (run_ask (by rw [inb12, Bool.or_true])).trans ?_
    refine (run_grd (in_run hb v)).trans ?_
    refine (run_f ?_).trans rfl
    rcases h i u v hp with h | h
    · rw [decide_eq_true h]; rfl
    · rw [decide_eq_true h]; cases decide (u ∈ A) <;> rfl
  · show (l16_MatchProof_L13_step l A B (l.length : Int)).run = _
    unfold l16_MatchProof_L13_step
    exact (run_f (decide_eq_false (by omega))).trans rfl
theorem awake_max : MaxInd [(1, 1), (1, 2), (2, 1)] 2 := most_max [(1, 1), (1, 2), (2, 1)]
theorem awake_run : l16_awake_T.run = some true := by
  obtain ⟨A, B, h1, h2⟩ := cover_ok (l := [(1, 1), (1, 2), (2, 1)]) (by decide) awake_max
  obtain ⟨n, k1, k2, _⟩ := max_ok (l := [(1, 1), (1, 2), (2, 1)]) (by decide)
  obtain ⟨I, f1, f2, f3, f4⟩ := find_ok (l := [(1, 1), (1, 2), (2, 1)]) (by decide)
  have e1 := k2.uniq awake_max
  have e2 := f4.uniq awake_max
  subst e1
  have e3 : (toI I).length = 2 := by rw [← e2]; simp [toI]
  unfold l16_awake_T
  refine (run_bnd h1).trans ((run_bnd k1).trans ((run_grd f1).trans ?_))
  have e4 : w64 ((A.length : Int) + (B.length : Int)) = 2 := by
    have := h2.sum
    rw [show (A.length : Int) + (B.length : Int) = ((2 : Nat) : Int) by omega, w64_id 2 (by omega)]; rfl
  show some ((decide (((2 : Nat) : Int) = 2) && decide (((toI I).length : Int) = 2)) && decide (w64 ((A.length : Int) + (B.length : Int)) = 2)) = some true
  rw [e3, e4]; rfl
theorem matchMax_law (x : ElP l16_MatchMax_g.ps) (_ : okP l16_MatchMax_g.ps x) : (l16_MatchMax_g.f x).run = some true := by
  obtain ⟨l, _⟩ := x
  show (l16_MatchMax_T l).run = some true
  unfold l16_MatchMax_T
  by_cases hl : 12 < l.length
  · have hc : decide ((12 : Int) < (l.length : Int)) = true := decide_eq_true (by omega)
    rw [hc]
    refine (run_off rfl).trans ((run_off rfl).trans ((run_grd awake_run).trans ?_))
    rfl
  · obtain ⟨n, k1, k2, _⟩ := max_ok (l := l) (by omega)
    have e := k2.uniq (most_max l)
    refine (run_grd k1).trans ((run_grd (rmax_run (l := l) (by omega))).trans ((run_grd awake_run).trans ?_))
    rw [← e]
    show some ((decide ((12 : Int) < (l.length : Int)) || decide ((n : Int) = (n : Int))) && true) = some true
    rw [decide_eq_true (rfl : (n : Int) = n), Bool.or_true]; rfl
theorem matchMore_law (x : ElP l16_MatchMore_g.ps) (_ : okP l16_MatchMore_g.ps x) : (l16_MatchMore_g.f x).run = some true := by
  obtain ⟨l, p, _⟩ := x
  show (l16_MatchMore_T l p).run = some true
  unfold l16_MatchMore_T
  by_cases hl : 60 < l.length
  · exact (run_t (decide_eq_true (by omega))).trans ((run_bnd awake_run).trans rfl)
  refine (run_f (decide_eq_false (by omega))).trans ?_
  obtain ⟨n, k1, k2, k3⟩ := max_ok (l := l) (by omega)
  obtain ⟨m, q1, q2, q3⟩ := max_ok (l := l ++ [p]) (by rw [List.length_append, List.length_singleton]; omega)
  obtain ⟨h1, h2⟩ := max_more k2 q2
  refine (run_bnd k1).trans ?_
  have hc : ((decide ((m : Int) = (n : Int)) || decide ((m : Int) = w64 ((n : Int) + 1))) && decide ((n : Int) ≤ (l.length : Int))) = true := by
    rw [w64_nat n (by omega)]
    rw [Bool.and_eq_true, Bool.or_eq_true, decide_eq_true_eq, decide_eq_true_eq, decide_eq_true_eq]
    omega
  have hA : (ask (decide (l.length * 16 ≤ roomNat)) <| ask (decide ((l ++ [p]).length * 16 ≤ roomNat)) <| Tree.bnd (match_Max_T (l ++ [p])) fun y7 => Tree.grd (((decide (y7 = (n : Int))) || (decide (y7 = (w64 ((n : Int) + 1))))) && (decide ((n : Int) ≤ (l.length : Int)))) l16_awake_T false fun y8 =>
      Tree.ret ((((decide (y7 = (n : Int))) || (decide (y7 = (w64 ((n : Int) + 1))))) && (decide ((n : Int) ≤ (l.length : Int)))) && y8)).run = some true := by
    refine (run_ask (room_le _ _ (by omega) (by omega))).trans ?_
    refine (run_ask (room_le _ _ (by rw [List.length_append, List.length_singleton]; omega) (by omega))).trans ?_
    refine (run_bnd q1).trans ((run_grd awake_run).trans ?_)
    rw [hc]; rfl
  exact Tree.run_both (Tree.run_both hA hA) hA
theorem matchProof_law (x : ElP l16_MatchProof_g.ps) (_ : okP l16_MatchProof_g.ps x) : (l16_MatchProof_g.f x).run = some true := by
  obtain ⟨l, _⟩ := x
  show (l16_MatchProof_T l).run = some true
  unfold l16_MatchProof_T
  by_cases hl : 60 < l.length
  · exact (run_t (decide_eq_true (by omega))).trans ((run_bnd awake_run).trans rfl)
  refine (run_f (decide_eq_false (by omega))).trans ?_
  obtain ⟨I, f1, f2, f3, f4⟩ := find_ok (l := l) (by omega)
  obtain ⟨A, B, c1, c2⟩ := cover_ok (l := l) (by omega) f4
  obtain ⟨n, k1, k2, k3⟩ := max_ok (l := l) (by omega)
  have e := k2.uniq f4
  have hlen : (toI I).length = I.length := by simp [toI]
  have hs := c2.sum
  refine (run_bnd f1).trans ((run_bnd c1).trans ((run_bnd (rise_run (by omega) (toI_rising f2))).trans ((run_grd (rise_run (by show A.length ≤ 1000; omega) c2.ra)).trans ((run_grd (rise_run (by show B.length ≤ 1000; omega) c2.rb)).trans ((run_grd k1).trans ?_)))))
  refine (run_f ?_).trans ?_
  · show (((((!true) || (!true)) || (!true)) || (!decide (((toI I).length : Int) = (n : Int)))) || (!decide (((toI I).length : Int) = (w64 ((A.length : Int) + (B.length : Int)))))) = false
    rw [hlen, show (A.length : Int) + (B.length : Int) = ((I.length : Nat) : Int) by omega, w64_id _ (by omega), e, decide_eq_true rfl]; rfl
  · refine (run_bnd (l8_run (by omega) f3 (by omega) A B)).trans ?_
    refine (run_bnd (l13_run (by omega) (by omega) (by omega) c2.all)).trans ?_
    exact (run_bnd awake_run).trans rfl

end Go.Eng

