/- Contracts of calls that are handed memory, over plain data. -/
import Derived.Test.YtapnoaalcbcmaaaTrE
namespace Go.Eng
open Go Go.RowKit

variable {P : Program} {T : Tab}

def resM : (p : PS) → ElP p → AV := fun p x => match encP p x with
  | [v] => v
  | l => .tup l

/-- A contract over plain data and memory. -/
structure MSig where
  id : Nat
  ps : PS
  q : PM
  pre : List Pre
  rs : PS
  q' : PM
  inv : Option Nat
  f : ElA ps q → Tree (ElA rs q')

def crM (g : MSig) (y : ElA g.rs g.q') : R := ⟨resM g.rs y.1, encM g.q' y.2, [], g.inv⟩

def endOk (l : Mem) (n : Nat) (v : AV) (M : Mem) : Bool :=
  match l with
  | [] => true
  | _ :: _ => match closedN n 4 v, closedM n M with | true, true => true | _, _ => false
def finM1 (T : Tab) (vars : List ResultVar) (np : Nat) (rs : PS) (q' : PM) (A : AS) : Tree (ElA rs q') :=
  asksT (retKs T A vars) (match decP rs (rawVs T A vars), rdM q' A.m with
    | some (x, []), some (y, l) => match Nat.ble np (lenM (encM q' y)), endOk l (lenM (encM q' y)) (resM rs x) (encM q' y) with | true, true => .ret (x, y) | _, _ => .fail
    | _, _ => .fail)
def finM (T : Tab) (vars : List ResultVar) (np : Nat) (pre : List Pre) (rs : PS) (q' : PM) (r : Exit × AS) : Tree (ElA rs q') :=
  match r with
  | (.ret, A) => finM1 T vars np rs q' (preA pre A)
  | (.normal, A) => finM1 T vars np rs q' (preA pre A)
  | _ => .fail

def evFM (T : Tab) (o : OrT) (c : Code) (nt : Nat) (vars : List ResultVar) (ps : PS) (q : PM) (pre : List Pre) (rs : PS) (q' : PM) (x : ElA ps q) : Tree (ElA rs q') :=
  (evT std T o c ⟨catA (encP ps x.1) (und (nt - lenA (encP ps x.1))), encM q x.2, lenM (encM q x.2)⟩).bind (finM T vars (lenM (encM q x.2)) pre rs q')

def MSig.ok (P : Program) (g : MSig) : Prop := ∀ x y, (g.f x).run = some y → SCalls P g.id (encP g.ps x.1) (encM g.q x.2) (crM g y)

theorem finM1_pl (vars : List ResultVar) (np : Nat) (rs : PS) (q' : PM) (A : AS) : (finM1 T vars np rs q' A).pl := by
  unfold finM1
  refine asksT_pl ?_; repeat' split
  all_goals trivial
theorem finM_pl (vars : List ResultVar) (np : Nat) (pre : List Pre) (rs : PS) (q' : PM) (r : Exit × AS) : (finM T vars np pre rs q' r).pl := by
  unfold finM
  split
  · exact finM1_pl _ _ _ _ _
  · exact finM1_pl _ _ _ _ _
  · trivial

theorem encM_len (q : PM) (x y : ElM q) : lenM (encM q x) = lenM (encM q y) := by
  induction q with
  | nil => rfl
  | cells e p r ih => simp only [encM, lenM]; rw [ih x.2 y.2]
  | rows e t r ih => simp only [encM, lenM]; rw [ih x.2 y.2]
  | arr e t r ih => simp only [encM, lenM]; rw [ih x.2 y.2]
  | map t u r ih => simp only [encM, lenM]; rw [ih x.2 y.2]
  | fro e t r ih => simp only [encM, lenM]; rw [ih x.2 y.2]
  | dead r ih => simp only [encM, lenM]; rw [ih x y]
  | siter r ih => simp only [encM, lenM]; rw [ih x.2 y.2]
  | fam r ih => simp only [encM, lenM]; rw [ih x.2 y.2]

theorem retVs_raw {A : AS} {vars : List ResultVar} {p : PS} {x : ElP p} (h : decP p (rawVs T A vars) = some (x, [])) : Le (rawV T A vars) (resM p x) := by
  have hl := decP_all h
  match vars, hl with
  | [r], hl =>
    obtain ⟨h1, h2⟩ := hl
    unfold resM
    have e : lenA (encP p x) = 1 := by rw [← h1]; rfl
    match hp : encP p x, e with
    | [v], _ => have := h2 0; rw [hp] at this; exact this
  | [], hl =>
    obtain ⟨h1, h2⟩ := hl
    unfold resM
    have e : lenA (encP p x) = 0 := by rw [← h1]; rfl
    match hp : encP p x, e with
    | [], _ => exact Le.refl _
  | a :: b :: l, hl =>
    obtain ⟨h1, h2⟩ := hl
    unfold resM
    have hr : rawV T A (a :: b :: l) = .tup (rawVs T A (a :: b :: l)) := rfl
    rw [hr]
    have e : lenA (encP p x) = l.length + 2 := by rw [← h1, rawVs_len]; simp
    match hp : encP p x, e with
    | v :: w :: k, _ => exact Le.tup (by rw [h1, hp]) fun i _ => by have := h2 i; rw [hp] at this; exact this

theorem finM_ok {vars : List ResultVar} {np : Nat} {g : MSig} {e : Exit} {A : AS} {y : ElA g.rs g.q'} (h : (finM T vars np g.pre g.rs g.q' (e, A)).run = some y) : ∃ B, ALe A B ∧ PostS T vars np (crM g y) e B := by
  have key : ∀ A, (finM1 T vars np g.rs g.q' A).run = some y → PostSR T vars np (crM g y) A := by
    intro A h
    obtain ⟨h1, h2⟩ := asksT_run h
    split at h2
    · rename_i x y' l hx hy
      split at h2
      · rename_i hnp hend
        cases h2
        obtain ⟨m1, m2⟩ := rdM_ok hy
        refine ⟨h1, retVs_raw hx, by show lenM (encM g.q' y') ≤ _; omega, m2, Nat.le_of_ble_eq_true hnp, ?_⟩
        cases l with
        | nil => exact .inl m1.symm
        | cons B l =>
          simp only [endOk] at hend
          split at hend
          · exact .inr ⟨by assumption, by assumption⟩
          · cases hend
      · cases h2
    · cases h2
  cases e with
  | ret => exact ⟨_, preA_le g.pre A, key _ h⟩
  | normal => exact ⟨_, preA_le g.pre A, key _ h⟩
  | _ => cases h

theorem MSig.lift (hm : P.follows .mixedOrders = true) (hT : TabOk P T) (hn : namesOk P = true) (g : MSig) {fn : Func} {c : Code} (hf : P.funcs[g.id]? = some fn) (hb : fn.body = some c) {o : OrT} (ho : SoundT P o) (hl : AllLp P o (loopsOf c))
    (hc : ∀ x, cellsBut g.inv 0 (encM g.q x) = true) (heq : ∀ x, evFM T o c fn.ntmps fn.results.toList g.ps g.q g.pre g.rs g.q' x = g.f x) : g.ok P := by
  intro x y hy
  rw [← heq] at hy
  have hy := Tree.wp_bind.1 (Tree.run_wp hy)
  refine SCalls.of hT hf hb (name_ok hn hf) (hc x.2) (AWp.post_le (evT_sound hm hT ho c hl _ _ (Tree.wp_mono hy ?_)))
  rintro ⟨e, A⟩ h
  obtain ⟨y', h1, rfl⟩ := Tree.wp_run (finM_pl _ _ _ _ _ _) h
  exact finM_ok h1

/-! In a larger memory. -/
def encK (κ : List Nat) : (p : PS) → ElP p → List AV
  | .val g t, x => [encS g t x]
  | .ptr t, x => [.cptr (szT t) (nth (cellsT t x))]
  | .mv t u, x => [.mv t u x]
  | .nilm, _ => [.nilmap]
  | .full t, x => [.tsl t x true]
  | .flat t, x => cellsT t x
  | .cp a, x => [.cptr (lenA (encP a x)) (nth (encP a x))]
  | .lst a, x => [.lst 0 (encK κ a x)]
  | .nilp, _ => [.nilptr]
  | .nils, _ => [.nilsl]
  | .ref b off, _ => [match nthN κ b with | some b' => .ref b' off | none => badV]
  | .selfp b, _ => [match nthN κ b with | some b' => .selfp b' | none => badV]
  | .mp b, _ => [match nthN κ b with | some b' => .mp b' | none => badV]
  | .own b, _ => [match nthN κ b with | some b' => .ownT b' | none => badV]
  | .any, _ => [.undef]
  | .fn id f c, x => [.fn (.func id) (encK κ f x.1) (encK κ c x.2)]
  | .nil, _ => []
  | .cons a b, x => catA (encK κ a x.1) (encK κ b x.2)

def dcRefK (κ : List Nat) (b off : Nat) : AV → Option Unit
  | .ref b' off' => match nthN κ b with
    | some k => match Nat.beq k b', Nat.beq off off' with | true, true => some () | _, _ => none
    | none => none
  | _ => none
def dcSelfK (κ : List Nat) (b : Nat) (v : AV) : Option Unit :=
  match nthN κ b with
  | some k => dcSelf k v
  | none => none
def dcMpK (κ : List Nat) (b : Nat) (v : AV) : Option Unit :=
  match nthN κ b with
  | some k => dcMp k v
  | none => none
def dcOwnK (κ : List Nat) (b : Nat) : AV → Option Unit
  | .ownT b' => match nthN κ b with
    | some k => match Nat.beq k b' with | true => some () | _ => none
    | none => none
  | _ => none

def decK (κ : List Nat) : (p : PS) → List AV → Option (ElP p × List AV)
  | .val g t, l => dc1 (rdV g t) l
  | .ptr t, l => dc1 (dcPtr t) l
  | .mv t u, l => dc1 (dcMv t u) l
  | .nilm, l => dc1 dcNilm l
  | .full t, l => dc1 (dcFull t) l
  | .flat t, l => rdT t l
  | .cp a, l => decP (.cp a) l
  | .lst a, l => match l with
    | .lst 0 vs :: r => match decK κ a vs with
      | some (x, []) => some (x, r)
      | _ => none
    | _ => none
  | .nilp, l => dc1 dcNil l
  | .nils, l => dc1 dcNils l
  | .ref b off, l => dc1 (dcRefK κ b off) l
  | .selfp b, l => dc1 (dcSelfK κ b) l
  | .mp b, l => dc1 (dcMpK κ b) l
  | .own b, l => dc1 (dcOwnK κ b) l
  | .any, l => dc1 (fun _ => some ()) l
  | .fn id f c, l => match l with
    | .fn (.func id') a b :: r => match Nat.beq id id', decK κ f a, decK κ c b with
      | true, some (x, []), some (y, []) => some ((x, y), r)
      | _, _, _ => none
    | _ => none
  | .nil, l => some ((), l)
  | .cons a b, l => match decK κ a l with
    | some (x, r) => match decK κ b r with
      | some (y, r') => some ((x, y), r')
      | none => none
    | none => none

theorem decK_ok {κ : List Nat} {p : PS} {l r : List AV} {x : ElP p} (h : decK κ p l = some (x, r)) : ∃ pre, l = catA pre r ∧ LeS pre (encK κ p x) := by
  induction p generalizing l r with
  | val g t => exact dc1_ok (e := encS g t) (fun v x => rdV_ok) h
  | ptr t =>
    obtain ⟨pre, h1, h2⟩ := decP_ok (p := .ptr t) h
    exact ⟨pre, h1, h2⟩
  | mv t u =>
    obtain ⟨pre, h1, h2⟩ := decP_ok (p := .mv t u) h
    exact ⟨pre, h1, h2⟩
  | nilm =>
    obtain ⟨pre, h1, h2⟩ := decP_ok (p := .nilm) h
    exact ⟨pre, h1, h2⟩
  | full t =>
    obtain ⟨pre, h1, h2⟩ := decP_ok (p := .full t) h
    exact ⟨pre, h1, h2⟩
  | flat t =>
    obtain ⟨pre, h1, h2⟩ := decP_ok (p := .flat t) h
    exact ⟨pre, h1, h2⟩
  | cp a _ =>
    obtain ⟨pre, h1, h2⟩ := decP_ok (p := .cp a) h
    exact ⟨pre, h1, h2⟩
  | nilp =>
    obtain ⟨pre, h1, h2⟩ := decP_ok (p := .nilp) h
    exact ⟨pre, h1, h2⟩
  | nils =>
    obtain ⟨pre, h1, h2⟩ := decP_ok (p := .nils) h
    exact ⟨pre, h1, h2⟩
  | ref b off =>
    refine dc1_ok (e := fun _ => match nthN κ b with | some b' => .ref b' off | none => badV) (fun v x hv => ?_) h
    unfold dcRefK at hv
    split at hv
    · split at hv
      · rename_i k hk
        split at hv
        · rename_i h1 h2
          rw [← Nat.eq_of_beq_eq_true h1, ← Nat.eq_of_beq_eq_true h2]; exact Le.refl _
        · cases hv
      · cases hv
    · cases hv
  | mp b =>
    refine dc1_ok (e := fun _ => match nthN κ b with | some b' => .mp b' | none => badV) (fun v x hv => ?_) h
    unfold dcMpK at hv
    split at hv
    · rename_i k hk
      have hd : decP (.mp k) [v] = some ((), []) := by simp only [decP, dc1, hv]
      obtain ⟨pre, q1, q2⟩ := decP_ok hd
      rw [catA_eq, List.append_nil] at q1
      subst q1
      exact q2.2 0
    · cases hv
  | selfp b =>
    refine dc1_ok (e := fun _ => match nthN κ b with | some b' => .selfp b' | none => badV) (fun v x hv => ?_) h
    unfold dcSelfK at hv
    split at hv
    · rename_i k hk
      have hd : decP (.selfp k) [v] = some ((), []) := by simp only [decP, dc1, hv]
      obtain ⟨pre, q1, q2⟩ := decP_ok hd
      rw [catA_eq, List.append_nil] at q1
      subst q1
      exact q2.2 0
    · cases hv
  | own b =>
    refine dc1_ok (e := fun _ => match nthN κ b with | some b' => .ownT b' | none => badV) (fun v x hv => ?_) h
    unfold dcOwnK at hv
    split at hv
    · split at hv
      · rename_i k hk
        split at hv
        · rename_i h1
          rw [← Nat.eq_of_beq_eq_true h1]; exact Le.refl _
        · cases hv
      · cases hv
    · cases hv
  | any => exact dc1_ok (e := fun _ => .undef) (fun v x _ => Le.undef _) h
  | fn id f c ihf ihc =>
    simp only [decK] at h
    split at h
    · rename_i id' a b r' 
      split at h
      · rename_i x1 y1 hid ha hb
        cases h
        have hid := Nat.eq_of_beq_eq_true hid
        subst hid
        obtain ⟨p1, q1, r1⟩ := ihf ha
        obtain ⟨p2, q2, r2⟩ := ihc hb
        rw [catA_eq, List.append_nil] at q1 q2
        subst q1 q2
        exact ⟨[_], rfl, LeS.one (Le.fn r1 r2)⟩
      · cases h
    · cases h
  | lst a ih =>
    simp only [decK] at h
    split at h
    · rename_i vs r'
      split at h
      · rename_i x1 ha
        cases h
        obtain ⟨p1, q1, r1⟩ := ih ha
        rw [catA_eq, List.append_nil] at q1
        subst q1
        exact ⟨[_], rfl, LeS.one (Le.lst r1)⟩
      · cases h
    · cases h
  | nil => cases h; exact ⟨[], rfl, LeS.refl _⟩
  | cons a b iha ihb =>
    simp only [decK] at h
    split at h
    · rename_i x1 r1 h1
      split at h
      · rename_i y1 r2 h2
        cases h
        obtain ⟨p1, rfl, l1⟩ := iha h1
        obtain ⟨p2, rfl, l2⟩ := ihb h2
        exact ⟨catA p1 p2, by simp [catA_eq], LeS.cat l1 l2⟩
      · cases h
    · cases h

def okPS : Nat → PS → Bool
  | f, .val g _ => match g, f with | false, _ => true | true, 0 => false | true, _ + 1 => true
  | 0, .fn _ _ _ => false
  | 0, .lst _ => false
  | f + 1, .lst a => okPS f a
  | f + 1, .fn _ a c => okPS f a && okPS f c
  | f, .cons a b => okPS f a && okPS f b
  | _, _ => true

theorem mapA_cat (f : AV → AV) (l k : List AV) : mapA f (catA l k) = catA (mapA f l) (mapA f k) := by
  induction l with
  | nil => rfl
  | cons a l ih => simp only [catA, mapA, ih]
theorem ren_cellsT (d : AV) (κ : List Nat) (f : Nat) (t : Ty) (x : El t) : mapA (renN d κ f) (cellsT t x) = cellsT t x := by
  induction t with
  | pair a b iha ihb => simp only [cellsT, mapA_cat]; rw [iha, ihb]
  | _ => cases f <;> rfl
theorem ren_encS (d : AV) (κ : List Nat) (f : Nat) (g : Bool) (t : Ty) (x : El t) (h : okPS f (.val g t) = true) : renN d κ f (encS g t x) = encS g t x := by
  cases g with
  | true =>
    cases f with
    | zero => cases h
    | succ f => show AV.agg (mapA (renN d κ f) (cellsT t x)) = _; rw [ren_cellsT]; rfl
  | false =>
    show renN d κ f (nth (cellsT t x) 0) = nth (cellsT t x) 0
    have := congrArg (fun l => nth l 0) (ren_cellsT d κ f t x)
    have h1 : 0 < lenA (cellsT t x) := by rw [lenA_cellsT]; exact szT_pos t
    rwa [nth_mapA _ _ _ h1] at this
theorem ren_enc (κ : List Nat) : ∀ (p : PS) (f : Nat) (x : ElP p), okPS f p = true → mapA (renN badV κ f) (encP p x) = encK κ p x := by
  intro p
  induction p with
  | val g t => intro f x h; show [renN badV κ f (encS g t x)] = _; rw [ren_encS _ _ _ _ _ _ h]; rfl
  | fn id a c iha ihc =>
    intro f x h
    cases f with
    | zero => cases h
    | succ f =>
      simp only [okPS, Bool.and_eq_true] at h
      show [AV.fn (.func id) (mapA (renN badV κ f) (encP a x.1)) (mapA (renN badV κ f) (encP c x.2))] = _
      rw [iha f _ h.1, ihc f _ h.2]; rfl
  | lst a ih =>
    intro f x h
    cases f with
    | zero => cases h
    | succ f =>
      show [AV.lst 0 (mapA (renN badV κ f) (encP a x))] = _
      rw [ih f _ h]; rfl
  | cons a b iha ihb =>
    intro f x h
    have h : okPS f a = true ∧ okPS f b = true := by cases f <;> simpa [okPS] using h
    show mapA _ (catA (encP a x.1) (encP b x.2)) = _
    rw [mapA_cat, iha f _ h.1, ihb f _ h.2]; rfl
  | nil => intro f x h; rfl
  | ref b off => intro f x h; cases f <;> rfl
  | own b => intro f x h; cases f <;> rfl
  | selfp b => intro f x h; cases f <;> rfl
  | mp b => intro f x h; cases f <;> rfl
  | flat t => intro f x h; exact ren_cellsT _ _ _ _ _
  | _ => intro f x h; cases f <;> rfl

/-- Blocks of plain data, and of references to one another. -/
def okPM : PM → Bool
  | .nil => true
  | .cells _ p r => okPS 3 p && okPM r
  | .rows _ _ r => okPM r
  | .arr _ _ r => okPM r
  | .map _ _ r => okPM r
  | .fro _ _ r => okPM r
  | .dead r => okPM r
  | .siter r => okPM r
  | .fam r => okPM r
def encMK (κ : List Nat) : (q : PM) → ElM q → Mem
  | .nil, _ => []
  | .cells e p r, x => .cells e (encK κ p x.1) :: encMK κ r x.2
  | .rows e t r, x => .trows e t x.1 :: encMK κ r x.2
  | .arr e t r, x => .arr e t x.1 :: encMK κ r x.2
  | .map t u r, x => .map t u x.1 :: encMK κ r x.2
  | .fro e t r, x => .fro e t x.1 :: encMK κ r x.2
  | .dead r, x => .dead :: encMK κ r x
  | .siter r, x => .siter x.1.1 x.1.2 :: encMK κ r x.2
  | .fam r, x => .fam x.1.1 x.1.2 :: encMK κ r x.2
theorem encMK_len (κ : List Nat) : ∀ (q : PM) (x : ElM q), lenM (encMK κ q x) = lenM (encM q x) := by
  intro q
  induction q with
  | nil => intro x; rfl
  | cells e p r ih => intro x; simp only [encMK, encM, lenM, ih]
  | rows e t r ih => intro x; simp only [encMK, encM, lenM, ih]
  | arr e t r ih => intro x; simp only [encMK, encM, lenM, ih]
  | map t u r ih => intro x; simp only [encMK, encM, lenM, ih]
  | fro e t r ih => intro x; simp only [encMK, encM, lenM, ih]
  | dead r ih => intro x; simp only [encMK, encM, lenM, ih]
  | siter r ih => intro x; simp only [encMK, encM, lenM, ih]
  | fam r ih => intro x; simp only [encMK, encM, lenM, ih]
theorem renB_enc (κ : List Nat) : ∀ (q : PM) (x : ElM q) (i : Nat), okPM q = true → renB badV κ (blk (encM q x) i) = blk (encMK κ q x) i := by
  intro q
  induction q with
  | nil => intro x i h; rfl
  | cells e p r ih =>
    intro x i h
    simp only [okPM, Bool.and_eq_true] at h
    cases i with
    | zero =>
      show ABlk.cells e (mapA (renN badV κ 3) (encP p x.1)) = .cells e (encK κ p x.1)
      rw [ren_enc κ p 3 _ h.1]
    | succ i => exact ih _ i h.2
  | rows e t r ih => intro x i h; cases i with
    | zero => rfl
    | succ i => exact ih _ i h
  | arr e t r ih => intro x i h; cases i with
    | zero => rfl
    | succ i => exact ih _ i h
  | map t u r ih => intro x i h; cases i with
    | zero => rfl
    | succ i => exact ih _ i h
  | fro e t r ih => intro x i h; cases i with
    | zero => rfl
    | succ i => exact ih _ i h
  | dead r ih => intro x i h; cases i with
    | zero => rfl
    | succ i => exact ih _ i h
  | siter r ih => intro x i h; cases i with
    | zero => rfl
    | succ i => exact ih _ i h
  | fam r ih => intro x i h; cases i with
    | zero => rfl
    | succ i => exact ih _ i h
def dcCellsK (κ : List Nat) (e : Nat) (p : PS) : ABlk → Option (ElP p)
  | .cells e' cs => match Nat.beq e e', decK κ p cs with | true, some (x, []) => some x | _, _ => none
  | _ => none
def rdMK (κ : List Nat) : (q : PM) → Mem → Option (ElM q × Mem)
  | .nil, l => some ((), l)
  | .cells e p r, l => match l with
    | [] => none
    | B :: l => match dcCellsK κ e p B, rdMK κ r l with
      | some x, some (y, l') => some ((x, y), l')
      | _, _ => none
  | .rows e t r, l => match l with
    | [] => none
    | B :: l => match dcRows e t B, rdMK κ r l with
      | some x, some (y, l') => some ((x, y), l')
      | _, _ => none
  | .arr e t r, l => match l with
    | [] => none
    | B :: l => match dcArr e t B, rdMK κ r l with
      | some x, some (y, l') => some ((x, y), l')
      | _, _ => none
  | .map t u r, l => match l with
    | [] => none
    | B :: l => match dcMap t u B, rdMK κ r l with
      | some x, some (y, l') => some ((x, y), l')
      | _, _ => none
  | .fro e t r, l => match l with
    | [] => none
    | B :: l => match dcFro e t B, rdMK κ r l with
      | some x, some (y, l') => some ((x, y), l')
      | _, _ => none
  | .dead r, l => match l with
    | [] => none
    | B :: l => match isCells B with
      | true => none
      | false => rdMK κ r l
  | .siter r, l => match l with
    | [] => none
    | B :: l => match dcIter B, rdMK κ r l with
      | some x, some (y, l') => some ((x, y), l')
      | _, _ => none
  | .fam r, l => match l with
    | [] => none
    | B :: l => match dcFam B, rdMK κ r l with
      | some x, some (y, l') => some ((x, y), l')
      | _, _ => none
theorem rdMK_ok {κ : List Nat} {q : PM} {M r : Mem} {x : ElM q} (h : rdMK κ q M = some (x, r)) : lenM (encMK κ q x) + lenM r = lenM M ∧ ∀ i, i < lenM (encMK κ q x) → BLe (blk M i) (blk (encMK κ q x) i) := by
  induction q generalizing M r with
  | nil => cases h; exact ⟨by simp [encMK, lenM], fun i hi => absurd hi (Nat.not_lt_zero i)⟩
  | cells e p q ih =>
    simp only [rdMK] at h
    split at h
    · cases h
    · rename_i B l
      split at h
      · rename_i y z r' hd hr
        cases h
        obtain ⟨h1, h2⟩ := ih hr
        refine ⟨by simp only [encMK, lenM]; omega, fun i hi => ?_⟩
        cases i with
        | zero =>
          show BLe B (.cells e (encK κ p y))
          unfold dcCellsK at hd
          split at hd
          · split at hd
            · rename_i he hc
              injection hd with hd; subst hd
              have he := Nat.eq_of_beq_eq_true he
              subst he
              obtain ⟨pre, q1, q2⟩ := decK_ok hc
              rw [catA_eq, List.append_nil] at q1
              subst q1
              exact BLe.cells q2
            · cases hd
          · cases hd
        | succ i => exact h2 i (by simp only [encMK, lenM] at hi; omega)
      · cases h
  | rows e t q ih =>
    simp only [rdMK] at h
    split at h
    · cases h
    · rename_i B l
      split at h
      · rename_i y z r' hd hr
        cases h
        obtain ⟨h1, h2⟩ := ih hr
        refine ⟨by simp only [encMK, lenM]; omega, fun i hi => ?_⟩
        cases i with
        | zero =>
          have hd' : rdM (.rows e t .nil) [B] = some ((y, ()), []) := by simp only [rdM, hd]
          exact (rdM_ok hd').2 0 (by simp [encM, lenM])
        | succ i => exact h2 i (by simp only [encMK, lenM] at hi; omega)
      · cases h
  | map t u q ih =>
    simp only [rdMK] at h
    split at h
    · cases h
    · rename_i B l
      split at h
      · rename_i y z r' hd hr
        cases h
        obtain ⟨h1, h2⟩ := ih hr
        refine ⟨by simp only [encMK, lenM]; omega, fun i hi => ?_⟩
        cases i with
        | zero =>
          have hd' : rdM (.map t u .nil) [B] = some ((y, ()), []) := by simp only [rdM, hd]
          exact (rdM_ok hd').2 0 (by simp [encM, lenM])
        | succ i => exact h2 i (by simp only [encMK, lenM] at hi; omega)
      · cases h
  | arr e t q ih =>
    simp only [rdMK] at h
    split at h
    · cases h
    · rename_i B l
      split at h
      · rename_i y z r' hd hr
        cases h
        obtain ⟨h1, h2⟩ := ih hr
        refine ⟨by simp only [encMK, lenM]; omega, fun i hi => ?_⟩
        cases i with
        | zero =>
          have hd' : rdM (.arr e t .nil) [B] = some ((y, ()), []) := by simp only [rdM, hd]
          exact (rdM_ok hd').2 0 (by simp [encM, lenM])
        | succ i => exact h2 i (by simp only [encMK, lenM] at hi; omega)
      · cases h
  | fro e t q ih =>
    simp only [rdMK] at h
    split at h
    · cases h
    · rename_i B l
      split at h
      · rename_i y z r' hd hr
        cases h
        obtain ⟨h1, h2⟩ := ih hr
        refine ⟨by simp only [encMK, lenM]; omega, fun i hi => ?_⟩
        cases i with
        | zero =>
          have hd' : rdM (.fro e t .nil) [B] = some ((y, ()), []) := by simp only [rdM, hd]
          exact (rdM_ok hd').2 0 (by simp [encM, lenM])
        | succ i => exact h2 i (by simp only [encMK, lenM] at hi; omega)
      · cases h
  | dead q ih =>
    simp only [rdMK] at h
    split at h
    · cases h
    · rename_i B l
      split at h
      · cases h
      · rename_i hB
        obtain ⟨h1, h2⟩ := ih h
        refine ⟨by simp only [encMK, lenM]; omega, fun i hi => ?_⟩
        cases i with
        | zero => exact ⟨fun _ _ _ l _ => by cases l <;> trivial, fun h => by rw [show isCells (blk (B :: l) 0) = isCells B from rfl, hB] at h; cases h⟩
        | succ i => exact h2 i (by simp only [encMK, lenM] at hi; omega)
  | siter q ih =>
    simp only [rdMK] at h
    split at h
    · cases h
    · rename_i B l
      split at h
      · rename_i y z r' hd hr
        cases h
        obtain ⟨h1, h2⟩ := ih hr
        refine ⟨by simp only [encMK, lenM]; omega, fun i hi => ?_⟩
        cases i with
        | zero =>
          have hd' : rdM (.siter .nil) [B] = some ((y, ()), []) := by simp only [rdM, hd]
          exact (rdM_ok hd').2 0 (by simp [encM, lenM])
        | succ i => exact h2 i (by simp only [encMK, lenM] at hi; omega)
      · cases h
  | fam q ih =>
    simp only [rdMK] at h
    split at h
    · cases h
    · rename_i B l
      split at h
      · rename_i y z r' hd hr
        cases h
        obtain ⟨h1, h2⟩ := ih hr
        refine ⟨by simp only [encMK, lenM]; omega, fun i hi => ?_⟩
        cases i with
        | zero =>
          have hd' : rdM (.fam .nil) [B] = some ((y, ()), []) := by simp only [rdM, hd]
          exact (rdM_ok hd').2 0 (by simp [encM, lenM])
        | succ i => exact h2 i (by simp only [encMK, lenM] at hi; omega)
      · cases h

def selM (M : Mem) : List Nat → Mem
  | [] => []
  | j :: κ => blk M j :: selM M κ
def nodN : List Nat → Bool
  | [] => true
  | a :: l => (l.all fun b => !Nat.beq a b) && nodN l
def ltAll (n : Nat) : List Nat → Bool
  | [] => true
  | a :: l => Nat.blt a n && ltAll n l

def addN (b : Nat) (κ : List Nat) : List Nat := match κ.any fun c => Nat.beq b c with | true => κ | false => catN κ [b]

/-- Blocks that arguments name. -/
def refsA : Nat → List AV → List Nat → List Nat
  | 0, _, κ => κ
  | _, [], κ => κ
  | f + 1, a :: l, κ => refsA f l (match a with
    | .ref b _ => addN b κ
    | .ownT b => addN b κ
    | .mp b => addN b κ
    | .fn _ x y => refsA f y (refsA f x κ)
    | .lst _ x => refsA f x κ
    | _ => κ)

/-- And the blocks that those name. -/
def refsB (M : Mem) : List Nat → List Nat → List Nat
  | [], κ => κ
  | b :: l, κ => refsB M l (match blk M b with | .cells _ cs => refsA 40 cs κ | _ => κ)
def refsM (M : Mem) (args : List AV) : List Nat := refsB M (refsA 20 args []) (refsA 20 args [])
/-- And once more. -/
def refsM2 (M : Mem) (args : List AV) : List Nat := refsB M (refsM M args) (refsM M args)

def lenPM : PM → Nat
  | .nil => 0
  | .cells _ _ r => lenPM r + 1
  | .rows _ _ r => lenPM r + 1
  | .arr _ _ r => lenPM r + 1
  | .map _ _ r => lenPM r + 1
  | .fro _ _ r => lenPM r + 1
  | .dead r => lenPM r + 1
  | .siter r => lenPM r + 1
  | .fam r => lenPM r + 1
theorem lenPM_ok (q : PM) (x : ElM q) : lenM (encM q x) = lenPM q := by
  induction q with
  | nil => rfl
  | cells e p r ih => simp only [encM, lenM, lenPM]; rw [ih]
  | rows e t r ih => simp only [encM, lenM, lenPM]; rw [ih]
  | arr e t r ih => simp only [encM, lenM, lenPM]; rw [ih]
  | map t u r ih => simp only [encM, lenM, lenPM]; rw [ih]
  | fro e t r ih => simp only [encM, lenM, lenPM]; rw [ih]
  | dead r ih => simp only [encM, lenM, lenPM]; rw [ih]
  | siter r ih => simp only [encM, lenM, lenPM]; rw [ih]
  | fam r ih => simp only [encM, lenM, lenPM]; rw [ih]

def useM (g : MSig) (κ : List Nat) (args : List AV) (M : Mem) : Option CallM :=
  match decK κ g.ps args, rdMK κ g.q (selM M κ) with
  | some (x, []), some (y, []) =>
    match nodN κ && ltAll (lenM M) κ && okPS 4 g.ps && okPM g.q && Nat.beq (lenM (encM g.q y)) κ.length && (match g.inv with | some i => Nat.blt i κ.length | none => true) with
    | true => match Nat.ble (lenPM g.q) (lenPM g.q') with
      | true => some ⟨ElA g.rs g.q', g.f (x, y), fun z => frameR κ (setMs M κ (encMK κ g.q y)) (encM g.q y) (crM g z)⟩
      | false => none
    | false => none
  | _, _ => none

theorem nodN_ok : ∀ {l : List Nat}, nodN l = true → l.Nodup
  | [], _ => List.nodup_nil
  | a :: l, h => by
    simp only [nodN, Bool.and_eq_true, List.all_eq_true] at h
    refine List.nodup_cons.2 ⟨fun hm => ?_, nodN_ok h.2⟩
    have := h.1 a hm
    rw [Nat.beq_refl] at this; cases this
theorem ltAll_ok {n : Nat} : ∀ {l : List Nat}, ltAll n l = true → ∀ j ∈ l, j < n
  | [], _, _, h => by cases h
  | a :: l, h, j, hj => by
    simp only [ltAll, Bool.and_eq_true] at h
    rcases List.mem_cons.1 hj with e | hj
    · subst e; exact Nat.blt_eq ▸ h.1
    · exact ltAll_ok h.2 j hj
theorem selM_len (M : Mem) (κ : List Nat) : lenM (selM M κ) = κ.length := by induction κ with | nil => rfl | cons a κ ih => simp [selM, lenM, ih]
theorem selM_blk (M : Mem) : ∀ (κ : List Nat) (i j : Nat), κ[i]? = some j → blk (selM M κ) i = blk M j
  | a :: κ, 0, j, h => by simp at h; subst h; rfl
  | a :: κ, i + 1, j, h => by show blk (selM M κ) i = _; exact selM_blk M κ i j (by simpa using h)
  | [], i, j, h => by simp at h

theorem useM_ok {g : MSig} (hg : g.ok P) {κ : List Nat} {args : List AV} {M : Mem} {c : CallM} {a : c.α} (h : useM g κ args M = some c) (hr : c.t.run = some a) : SCalls P g.id args M (c.r a) := by
  unfold useM at h
  split at h
  case h_2 => cases h
  rename_i x y hx hy
  split at h
  case h_2 => cases h
  rename_i hck
  simp only [Bool.and_eq_true] at hck
  obtain ⟨⟨⟨⟨⟨c1, c2⟩, c3⟩, c4⟩, c5⟩, c6⟩ := hck
  split at h
  case h_2 => cases h
  rename_i hge
  cases h
  obtain ⟨z, hz, e⟩ : ∃ z : ElA g.rs g.q', (g.f (x, y)).run = some z ∧ z = a := ⟨a, hr, rfl⟩
  have hge : lenM (encM g.q y) ≤ lenM (encM g.q' z.2) := by rw [lenPM_ok, lenPM_ok]; exact Nat.le_of_ble_eq_true hge
  have hs := hg (x, y) z hz
  subst e
  have hlen : κ.length = lenM (encM g.q y) := (Nat.eq_of_beq_eq_true c5).symm
  have hnd := nodN_ok c1
  have hlt := ltAll_ok c2
  obtain ⟨m1, m2⟩ := rdMK_ok hy
  have hKl := encMK_len κ g.q y
  obtain ⟨s0, s1, s2, s3⟩ := setMs_get κ M (encMK κ g.q y) hnd hlt (by rw [hKl]; exact Nat.le_of_eq hlen)
  have hNl : lenM (setMs M κ (encMK κ g.q y)) = lenM M := by rw [s0, hKl, hlen]; omega
  have hN : ∀ i, i < lenM M → BLe (blk M i) (blk (setMs M κ (encMK κ g.q y)) i) := fun i hi => by
    by_cases hk : i ∈ κ
    · obtain ⟨k, hk⟩ := List.getElem?_of_mem hk
      rw [s1 k i hk, ← selM_blk M κ k i hk]
      have : k < κ.length := (List.getElem?_eq_some_iff.1 hk).1
      exact m2 k (by omega)
    · rw [s2 i hi hk]; exact BLe.refl _
  have hf := SCalls.frame (M := setMs M κ (encMK κ g.q y)) (args := encK κ g.ps x) hs hge κ hlen hnd (fun i j hj => ⟨by rw [hNl]; exact hlt j (List.mem_of_getElem? hj), by rw [s1 i j hj]; exact renB_enc κ g.q y i c4⟩)
    (ren_enc κ g.ps 4 x c3).symm (fun i hi => by
      have hi : g.inv = some i := hi
      rw [hi] at c6
      rw [← hlen]; exact Nat.blt_eq ▸ c6)
  intro Z w S m vs hM hargs
  have hlt' : ∀ {i : Nat} {l : Option Loc}, m[i]? = some l → i < lenM M := fun hi => by
    rw [← hM.len]; exact (List.getElem?_eq_some_iff.1 hi).1
  refine hf Z w S m vs (hM.to hNl (fun i l hi hb => (hN i (hlt' hi)).1 _ _ _ _ hb) (fun i hc => ?_)) ?_
  · by_cases hi : i < lenM M
    · exact (hN i hi).2 hc
    · rw [blk_eq, List.getD_eq_getElem?_getD, List.getElem?_eq_none (by rw [← lenM_eq]; omega)] at hc
      simp [isCells] at hc
  · obtain ⟨pre, h1, h2⟩ := decK_ok hx
    rw [catA_eq, List.append_nil] at h1
    subst h1
    exact ⟨hargs.1.trans h2.1, fun i hi => h2.2 i _ _ _ _ (hargs.2 i (by rw [h2.1]; exact hi))⟩

/-! What calls itself: with so much fuel as is enough. -/
open Classical in
noncomputable def recT {α : Type} (F : Nat → Tree α) : Tree α := if h : ∃ n a, (F n).run = some a then F (Classical.choose h) else .fail
theorem recT_some {α : Type} {F : Nat → Tree α} {a : α} (h : (recT F).run = some a) : ∃ n, (F n).run = some a := by
  unfold recT at h
  split at h
  · exact ⟨_, h⟩
  · cases h
theorem recT_of {α : Type} {F : Nat → Tree α} {n : Nat} {a : α} (h : (F n).run = some a) : ∃ m b, (F m).run = some b ∧ (recT F).run = some b := by
  have hx : ∃ n a, (F n).run = some a := ⟨n, a, h⟩
  obtain ⟨b, hb⟩ := Classical.choose_spec hx
  refine ⟨_, b, hb, ?_⟩
  unfold recT
  rw [dif_pos hx]
  exact hb

def AllMSig (P : Program) : List MSig → Prop
  | [] => True
  | g :: l => g.ok P ∧ AllMSig P l

def meOf : List MSig → Nat → List AV → Mem → Option CallM
  | [], _, _, _ => none
  | g :: l, id, args, M => match Nat.beq g.id id with
    | true => match useM g (refsM M args) args M with
      | some c => some c
      | none => match useM g (refsM2 M args) args M with
        | some c => some c
        | none => meOf l id args M
    | false => meOf l id args M

theorem meOf_ok : ∀ {l : List MSig}, AllMSig P l → ∀ id args M c a, meOf l id args M = some c → c.t.run = some a → AllT (c.r a).ks → SCalls P id args M (c.r a) := by
  intro l
  induction l with
  | nil => intro _ id args M c a h; cases h
  | cons g l ih =>
    intro hl id args M c a h ha hk
    simp only [meOf] at h
    split at h
    · rename_i hid
      have := Nat.eq_of_beq_eq_true hid
      subst this
      split at h
      · rename_i c' hc
        cases h
        exact useM_ok hl.1 hc ha
      · split at h
        · rename_i c' hc
          cases h
          exact useM_ok hl.1 hc ha
        · exact ih hl.2 _ _ _ _ _ h ha hk
    · exact ih hl.2 _ _ _ _ _ h ha hk

def orM (l : List Sig) (ml : List MSig) (lps : List Lp) (fz : Nat → List Pre) : OrT := ⟨puOf l, meOf ml, lpOf lps, fz⟩
theorem orM_sound {l : List Sig} {ml : List MSig} {lps : List Lp} {fz : Nat → List Pre} (h : AllSig P l) (hm : AllMSig P ml) : SoundT P (orM l ml lps fz) := ⟨puOf_ok h, meOf_ok hm⟩
theorem allLp_congr {o o' : OrT} (h : o.lp = o'.lp) : ∀ {ds : List Code}, AllLp P o ds → AllLp P o' ds
  | [], _ => trivial
  | d :: l, ⟨h1, h2⟩ => ⟨fun A t Q e => h1 A t Q (by rw [h]; exact e), allLp_congr h h2⟩
theorem allLp_ofM {sg : List Sig} {ml : List MSig} {fz : Nat → List Pre} {lps : List Lp} {c : Code} (ds : List Code) (hd : loopsOf c = ds) (h : All2 P lps ds) (hk : keysOk lps ds = true) : AllLp P (orM sg ml lps fz) (loopsOf c) :=
  allLp_congr (o := orT sg lps fz) (o' := orM sg ml lps fz) rfl (allLp_of ds hd h hk)
theorem allLp_ofUM {sg : List Sig} {ml : List MSig} {fz : Nat → List Pre} {lps : List Lp} {c : Code} (ds : List Code) (hd : keyed lps (loopsOf c) = ds) (h : All2 P lps ds) (hk : keysOk lps ds = true) : AllLp P (orM sg ml lps fz) (loopsOf c) :=
  allLp_congr (o := orT sg lps fz) (o' := orM sg ml lps fz) rfl (allLp_ofU ds hd h hk)

end Go.Eng
