/- The abstract machine's rules for code, and how a contract is got from them. -/
import Derived.Test.YtedmkgnbgkhloaaEngL
namespace Go.Eng
open Go Go.RowKit

variable {P : Program} {T : Tab} {base : Env} {w : World} {S : Nat → Prop} {m : Locs} {M : Mem}

theorem lenA_wipe (ts : List AV) (tg : Tags) : lenA (wipe ts tg) = lenA ts := by
  induction tg with
  | nil => rfl
  | cons x tg ih =>
    obtain ⟨s, C⟩ := x
    cases C with
    | nil => exact ih
    | cons y C => simp only [wipe]; rw [lenA_put]; exact ih

theorem nth_wipe (ts : List AV) (tg : Tags) (t : Nat) : nth (wipe ts tg) t = .undef ∨ (nth (wipe ts tg) t = nth ts t ∧ tagOf tg t = []) := by
  induction tg with
  | nil => exact .inr ⟨rfl, rfl⟩
  | cons x tg ih =>
    obtain ⟨s, C⟩ := x
    cases C with
    | nil =>
      simp only [wipe, tagOf]
      rcases ih with h | ⟨h1, h2⟩
      · exact .inl h
      · refine .inr ⟨h1, ?_⟩
        split
        · rfl
        · exact h2
    | cons y C =>
      simp only [wipe, tagOf]
      rw [nth_put]
      by_cases e : s = t
      · subst e
        by_cases hl : s < lenA (wipe ts tg)
        · exact .inl (by rw [if_pos ⟨rfl, hl⟩])
        · left; rw [if_neg (fun x => hl x.2)]; exact nth_out _ _ (by omega)
      · rw [if_neg (fun x => e x.1), nbeq_ne e]
        exact ih

/-- What is known of a frame between regions. -/
def ARel (w : World) (S : Nat → Prop) (m : Locs) (a : Act) (ts : List AV) : Prop := a.tmps.size = lenA ts ∧ a.defers = [] ∧ ∀ t, Rel w S m (a.tmps.getD t Go.undef) (nth ts t)

theorem ARel.start {a : Act} {ts : List AV} (h : ARel w S m a ts) (M : Mem) : FRel w S m a ⟨ts, M, [], []⟩ := ⟨h.1, h.2.1, fun t _ => h.2.2 t, fun t => .inl fun s b hm => by simp [tagOf] at hm⟩

theorem FRel.wipe {a : Act} {s : St} (h : FRel w S m a s) : ARel w S m a (Eng.wipe s.ts s.tg) := by
  refine ⟨by rw [lenA_wipe]; exact h.size, h.defers, fun t => ?_⟩
  rcases nth_wipe s.ts s.tg t with e | ⟨e, ht⟩
  · rw [e]; exact .undef _ _
  · rw [e]; exact h.rel t (by rw [ht]; intro s b hm; simp at hm)

structure MA (base : Env) (w : World) (S : Nat → Prop) (m : Locs) (A : AS) : Prop where
  rel : MRel base w S m A.m
  pins : ∀ i l, base.pin i = some l → i < A.np

/-- What is known behind a piece of code. -/
def Lift (base : Env) (w : World) (S : Nat → Prop) (Q : Exit → AS → Prop) (e : Exit) (a' : Act) (w' : World) : Prop :=
  ∃ (A' : AS) (S' : Nat → Prop) (m' : Locs), Q e A' ∧ Prot base.Z w w' ∧ (∀ b, S b → S' b) ∧ (∀ b, S' b → S b ∨ ¬ base.Z b) ∧ MA base w' S' m' A' ∧ ARel w' S' m' a' A'.ts

/-- THE RULE's SUBJECT: from the abstract state A the code comes to Q. -/
structure AWp (P : Program) (c : Code) (Q : Exit → AS → Prop) (A : AS) : Prop where
  sem : ∀ base w S m a, MA base w S m A → ARel w S m a A.ts → c.wp P (Lift base w S Q) a w

theorem Lift.step {w' : World} {S' : Nat → Prop} {Q : Exit → AS → Prop} (hb : Prot base.Z w w') (hS : ∀ b, S b → S' b) (hU : ∀ b, S' b → S b ∨ ¬ base.Z b) {e : Exit} {a'' : Act} {w'' : World} (h : Lift base w' S' Q e a'' w'') : Lift base w S Q e a'' w'' := by
  obtain ⟨A', S'', m', h1, h2, h3, h4, h5, h6⟩ := h
  exact ⟨A', S'', m', h1, hb.trans h2, fun b h => h3 b (hS b h), fun b h => (h4 b h).elim (hU b) .inr, h5, h6⟩

theorem AWp.mono {c : Code} {Q Q' : Exit → AS → Prop} {A : AS} (h : AWp P c Q A) (hq : ∀ e A, Q e A → Q' e A) : AWp P c Q' A :=
  ⟨fun base w S m a hM hA => Code.wp_mono (fun e a w ⟨A', S', m', h1, h2⟩ => ⟨A', S', m', hq _ _ h1, h2⟩) (h.sem base w S m a hM hA)⟩

theorem Lift.here {Q : Exit → AS → Prop} {A : AS} {e : Exit} {a : Act} (hq : Q e A) (hM : MA base w S m A) (hA : ARel w S m a A.ts) : Lift base w S Q e a w :=
  ⟨A, S, m, hq, Prot.refl _ _, fun _ h => h, fun _ h => .inl h, hM, hA⟩

theorem AWp.skip {Q : Exit → AS → Prop} {A : AS} (h : Q .normal A) : AWp P .skip Q A := ⟨fun _ _ _ _ _ hM hA => wp_skip (.here h hM hA)⟩
theorem AWp.exit {Q : Exit → AS → Prop} {A : AS} {id : Nat} (h : Q (.exit id) A) : AWp P (.exit id) Q A := ⟨fun _ _ _ _ _ hM hA => wp_exit (.here h hM hA)⟩
theorem AWp.ret {Q : Exit → AS → Prop} {A : AS} (h : Q .ret A) : AWp P .ret Q A := ⟨fun _ _ _ _ _ hM hA => wp_ret (.here h hM hA)⟩

def thenQ (next : AS → Prop) (Q : Exit → AS → Prop) : Exit → AS → Prop
  | .normal, A => next A
  | e, A => Q e A

theorem AWp.seq {x y : Code} {Q : Exit → AS → Prop} {A : AS} (h : AWp P x (thenQ (AWp P y Q) Q) A) : AWp P (.seq x y) Q A := by
  refine ⟨fun base w S m a hM hA => wp_seq (Code.wp_mono ?_ (h.sem base w S m a hM hA))⟩
  rintro e a' w' ⟨A', S', m', h1, h2, h3, h4, h5, h6⟩
  cases e with
  | normal => exact Code.wp_mono (fun e a w h => Lift.step h2 h3 h4 h) (AWp.sem h1 base w' S' m' a' h5 h6)
  | _ => exact ⟨A', S', m', h1, h2, h3, h4, h5, h6⟩

theorem AWp.cond {c : Operand} {x y : Code} {Q : Exit → AS → Prop} {A : AS} {b : Bool} (hc : opnd A.ts c = .bool b) (ht : b = true → AWp P x Q A) (hf : b = false → AWp P y Q A) : AWp P (.cond c x y) Q A := by
  refine ⟨fun base w S m a hM hA => ?_⟩
  have hr := opnd_rel' (a := a) (ts := A.ts) (m := m) (w := w) (S := S) c (fun t _ => hA.2.2 t)
  rw [hc] at hr
  have e : a.eval c = .bool b := by generalize a.eval c = v at hr; cases hr; rfl
  exact wp_cond_split e (fun h => (ht h).sem base w S m a hM hA) (fun h => (hf h).sem base w S m a hM hA)

theorem AWp.condN {c : Operand} {x y : Code} {Q : Exit → AS → Prop} {A : AS} {n : Nat} (hc : opnd A.ts c = .nilB n) (ht : n = 0 → AWp P x Q A) (hf : AWp P y Q A) : AWp P (.cond c x y) Q A := by
  refine ⟨fun base w S m a hM hA => ?_⟩
  have hr := opnd_rel' (a := a) (ts := A.ts) (m := m) (w := w) (S := S) c (fun t _ => hA.2.2 t)
  rw [hc] at hr
  obtain ⟨b, e, hb⟩ : ∃ b, a.eval c = .bool b ∧ (b = true → n = 0) := by generalize a.eval c = v at hr; cases hr; exact ⟨_, rfl, by assumption⟩
  exact wp_cond_split e (fun h => (ht (hb h)).sem base w S m a hM hA) (fun _ => hf.sem base w S m a hM hA)

def blockQ (id : Nat) (Q : Exit → AS → Prop) : Exit → AS → Prop
  | .exit id', A => if id' = id then Q .normal A else Q (.exit id') A
  | e, A => Q e A

theorem AWp.block {id : Nat} {c : Code} {Q : Exit → AS → Prop} {A : AS} (h : AWp P c (blockQ id Q) A) : AWp P (.block id c) Q A := by
  refine ⟨fun base w S m a hM hA => wp_block (Code.wp_mono ?_ (h.sem base w S m a hM hA))⟩
  rintro e a' w' ⟨A', S', m', h1, h2⟩
  cases e with
  | exit id' =>
    simp only [blockQ] at h1
    simp only [Exit.inBlock]
    split
    · rename_i hid; rw [if_pos hid] at h1; exact ⟨A', S', m', h1, h2⟩
    · rename_i hid; rw [if_neg hid] at h1; exact ⟨A', S', m', h1, h2⟩
  | _ => exact ⟨A', S', m', h1, h2⟩

theorem exists_least {p : Nat → Prop} (h : ∃ n, p n) : ∃ n, p n ∧ ∀ k, p k → n ≤ k := by
  obtain ⟨n, hn⟩ := h
  induction n using Nat.strongRecOn with
  | _ n ih =>
    by_cases hk : ∃ k, k < n ∧ p k
    · obtain ⟨k, hk, hp⟩ := hk; exact ih k hk hp
    · exact ⟨n, hn, fun k hp => Nat.le_of_not_lt fun hlt => hk ⟨k, hlt, hp⟩⟩

open Classical in
theorem wp_loop_nat {c : Code} {Q : Exit → Act → World → Prop} {a : Act} {w : World} (Inv : Nat → Act → World → Prop) (n : Nat) (h₀ : Inv n a w)
    (round : ∀ n a w, Inv n a w → c.wp P (Exit.then (fun a' w' => ∃ n', n' < n ∧ Inv n' a' w') Q) a w) : (Code.loop c).wp P Q a w := by
  refine wp_loop (fun a w => ∃ n, Inv n a w) (fun a w => if h : ∃ n, Inv n a w then Classical.choose (exists_least h) else 0) ⟨n, h₀⟩ fun a w hI => ?_
  have hs := Classical.choose_spec (exists_least hI)
  refine Code.wp_mono ?_ (round _ a w hs.1)
  intro e a' w' h
  cases e with
  | normal =>
    obtain ⟨n', hlt, hI'⟩ := h
    refine ⟨⟨n', hI'⟩, ?_⟩
    rw [dif_pos hI, dif_pos ⟨n', hI'⟩]
    exact Nat.lt_of_le_of_lt ((Classical.choose_spec (exists_least ⟨n', hI'⟩)).2 n' hI') hlt
  | _ => exact h

/-- A loop, by an invariant with a measure. -/
theorem AWp.loop {c : Code} {Q : Exit → AS → Prop} {A : AS} (I : Nat → AS → Prop) (n : Nat) (h₀ : I n A) (round : ∀ n A, I n A → AWp P c (thenQ (fun A' => ∃ n', n' < n ∧ I n' A') Q) A) : AWp P (.loop c) Q A := by
  refine ⟨fun base w S m a hM hA => ?_⟩
  let Inv : Nat → Act → World → Prop := fun n a' w' => ∃ (A' : AS) (S' : Nat → Prop) (m' : Locs), I n A' ∧ Prot base.Z w w' ∧ (∀ b, S b → S' b) ∧ (∀ b, S' b → S b ∨ ¬ base.Z b) ∧ MA base w' S' m' A' ∧ ARel w' S' m' a' A'.ts
  refine wp_loop_nat Inv n ⟨A, S, m, h₀, Prot.refl _ _, fun _ h => h, fun _ h => .inl h, hM, hA⟩ ?_
  rintro n a' w' ⟨A', S', m', h1, h2, h3, h4, h5, h6⟩
  refine Code.wp_mono ?_ ((round n A' h1).sem base w' S' m' a' h5 h6)
  rintro e a'' w'' ⟨A'', S'', m'', k1, k2, k3, k4, k5, k6⟩
  cases e with
  | normal =>
    obtain ⟨n', hn, hI⟩ := k1
    exact ⟨n', hn, A'', S'', m'', hI, h2.trans k2, fun b h => k3 b (h3 b h), fun b h => (k4 b h).elim (h4 b) .inr, k5, k6⟩
  | _ => exact Lift.step h2 h3 h4 ⟨A'', S'', m'', k1, k2, k3, k4, k5, k6⟩

/-- A region in the order of its text. -/
theorem AWp.region (hT : TabOk P T) {call : Oracle} (hcall : Sound P call) {id : Nat} {ops : Array Oper} {Q : Exit → AS → Prop} {A : AS} {s : St} (hs : aOps std T call ops.toList ops.toList ⟨A.ts, A.m, [], []⟩ = s)
    (hk : AllT s.ks) (hq : Q .normal ⟨wipe s.ts s.tg, s.m, A.np⟩) : AWp P (.region id ops false) Q A := by
  subst hs
  refine ⟨fun base w S m a hM hA => wp_region ?_⟩
  have e : List.range ops.size = List.range' 0 ops.toList.length := by rw [List.range_eq_range']; simp
  rw [e]
  refine aOps_wp hT hcall ops.toList 0 (fun k => by simp) hM.rel (hA.start A.m) hk ?_
  intro a' w' S' m' hb hS hU hM' hF'
  exact ⟨_, S', m', hq, hb, hS, hU, ⟨hM', hM.pins⟩, hF'.wipe⟩

/-! Contracts. -/

/-- One abstract value says no less than another one. -/
theorem Le.slice {sz n : Nat} {f : Bool} {c d : Nat → Nat → AV} (h : ∀ i, i < n → ∀ j, j < sz → c i j = d i j) : Le (.slice sz n f c) (.slice sz n false d) := by
  intro w S m v hr
  cases hr with
  | slice _ b o _ _ cap _ _ g hs hn hcap hf hc hr => exact .slice _ _ _ _ _ _ _ _ g hs hn hcap (fun h => by simp at h) hc (fun i hi j hj => by rw [← h i hi j hj]; exact hr i hi j hj)
  | slice0 _ a cap _ _ _ hcap hf => exact .slice0 _ _ _ _ _ _ hcap (fun h => by simp at h)
theorem Le.nilsl (sz : Nat) (f : Bool) (c : Nat → Nat → AV) : Le .nilsl (.slice sz 0 f c) := by
  intro w S m v hr; cases hr; exact .slice0 _ _ _ _ _ _ (by unfold maxLen; omega) (fun _ => rfl)
theorem Le.tup {l k : List AV} (hl : lenA l = lenA k) (h : ∀ i, i < lenA k → Le (nth l i) (nth k i)) : Le (.tup l) (.tup k) := by
  intro w S m v hr
  cases hr with
  | tup _ vs _ hlen hr => exact .tup _ _ _ (hlen.trans hl) fun i hi => h i hi _ _ _ _ (hr i (by omega))
theorem Le.agg {l k : List AV} (hl : lenA l = lenA k) (h : ∀ i, i < lenA k → Le (nth l i) (nth k i)) : Le (.agg l) (.agg k) := by
  intro w S m v hr
  cases hr with
  | agg _ vs _ hlen h1 hr => exact .agg _ _ _ (hlen.trans hl) (fun i hi => h1 i (by omega)) fun i hi => h i hi _ _ _ _ (hr i (by omega))

def aRes1 (T : Tab) (A : AS) : ResultVar → R
  | .tmp t => val A.m (nth A.ts t)
  | .cell a t => aLoad T A.m t (nth A.ts a)

def retVs (T : Tab) (A : AS) : List ResultVar → List AV
  | [] => []
  | r :: l => borrow A.m (aRes1 T A r).v :: retVs T A l
def retKs (T : Tab) (A : AS) : List ResultVar → List Bool
  | [] => []
  | r :: l => catB (aRes1 T A r).ks (retKs T A l)

def retV (T : Tab) (A : AS) : List ResultVar → AV
  | [r] => borrow A.m (aRes1 T A r).v
  | rs => .tup (retVs T A rs)

/-- What a function's code must come to. -/
def PostR (T : Tab) (rs : List ResultVar) (A : AS) : CR → Prop
  | .val v => AllT (retKs T A rs) ∧ Le (retV T A rs) v
  | .fresh e sz n c => AllT (retKs T A rs) ∧ ((n = 0 ∧ ∃ r1, rs = [r1] ∧ ((aRes1 T A r1).v = .nilsl ∨ (aRes1 T A r1).v = .emp)) ∨ ∃ r1 b k c', rs = [r1] ∧ (aRes1 T A r1).v = .own b n ∧ blk A.m b = .rows e sz k c' ∧ n ≤ k ∧ ∀ i, i < n → ∀ j, j < sz → c' i j = c i j)
  | .freshT e u l => AllT (retKs T A rs) ∧ ((l.length = 0 ∧ ∃ r1, rs = [r1] ∧ ((aRes1 T A r1).v = .nilsl ∨ (aRes1 T A r1).v = .emp)) ∨ (∃ r1 b, rs = [r1] ∧ (aRes1 T A r1).v = .ownT b ∧ blk A.m b = .trows e u l) ∨ ∃ r1 b n k, rs = [r1] ∧ (aRes1 T A r1).v = .own b n ∧ blk A.m b = .trows e u k ∧ l = k.take n)

def PostOf (T : Tab) (rs : List ResultVar) (r : CR) : Exit → AS → Prop
  | .ret, A => PostR T rs A r
  | .normal, A => PostR T rs A r
  | _, _ => False

theorem PostR.ks {rs : List ResultVar} {A : AS} {r : CR} (h : PostR T rs A r) : AllT (retKs T A rs) := by cases r <;> exact h.1

theorem run_res1 (hT : TabOk P T) {A : AS} {a : Act} (hM : MRel base w S m A.m) (hA : ARel w S m a A.ts) (r : ResultVar) (hk : AllT (aRes1 T A r).ks) :
    ∃ v, (match r with | .tmp t => (pure (a.tmps.getD t Go.undef) : Sem Value) | .cell p t => do loadVar t (← asAddr (a.tmps.getD p Go.undef))).run P w = .ok v w ∧ Rel w S m v (aRes1 T A r).v := by
  cases r with
  | tmp t => exact ⟨_, rfl, hA.2.2 t⟩
  | cell p t =>
    simp only [aRes1] at hk ⊢
    have hr := hA.2.2 p
    obtain ⟨v, h1, h4⟩ := aLoad_okV (P := P) hT hM t hr hk
    have hpt : ∃ ad, a.tmps.getD p Go.undef = .pointer (some ad) := by
      generalize a.tmps.getD p Go.undef = u at hr h1
      cases u with
      | pointer o =>
        cases o with
        | some ad => exact ⟨ad, rfl⟩
        | none => simp [Instr.loadAt, Instr.sureAddr] at h1
      | _ => simp [Instr.loadAt, Instr.sureAddr] at h1
    obtain ⟨ad, had⟩ := hpt
    rw [had] at h1 ⊢
    exact ⟨v, h1, h4⟩

theorem run_ress (hT : TabOk P T) {A : AS} {a : Act} (hM : MRel base w S m A.m) (hA : ARel w S m a A.ts) : ∀ (rs : List ResultVar), AllT (retKs T A rs) →
    ∃ vs : List Value, (rs.mapM (m := Sem) fun | .tmp t => pure (a.tmps.getD t Go.undef) | .cell p t => do loadVar t (← asAddr (a.tmps.getD p Go.undef))).run P w = .ok vs w ∧ vs.length = rs.length ∧
      ∀ i (h : i < rs.length) (h' : i < vs.length), Rel w S m vs[i] (aRes1 T A rs[i]).v := by
  intro rs
  induction rs with
  | nil => intro _; exact ⟨[], rfl, rfl, fun i h => by simp at h⟩
  | cons r rs ih =>
    intro hk
    simp only [retKs] at hk
    rw [AllT.cat] at hk
    obtain ⟨v, h1, h2⟩ := run_res1 hT hM hA r hk.1
    obtain ⟨vs, k1, k2, k3⟩ := ih hk.2
    refine ⟨v :: vs, ?_, by simp [k2], fun i h h' => ?_⟩
    · simp only [List.mapM_cons, Sem.run_bind]
      rw [h1]
      simp only [Result.andThen_ok, Sem.run_bind, k1, Sem.run_pure]
    · cases i with
      | zero => exact h2
      | succ i => simpa using k3 i (by simpa using h) (by simpa using h')

theorem retVs_len (A : AS) (rs : List ResultVar) : lenA (retVs T A rs) = rs.length := by induction rs with | nil => rfl | cons r rs ih => simp [retVs, lenA, ih]
theorem retVs_nth (A : AS) (rs : List ResultVar) (i : Nat) (hi : i < rs.length) : nth (retVs T A rs) i = borrow A.m (aRes1 T A rs[i]).v := by
  induction rs generalizing i with
  | nil => simp at hi
  | cons r rs ih => cases i with
    | zero => rfl
    | succ i => simpa [retVs, nth] using ih i (by simpa using hi)

def und : Nat → List AV
  | 0 => []
  | n + 1 => .undef :: und n
theorem lenA_und (n : Nat) : lenA (und n) = n := by induction n with | zero => rfl | succ n ih => simp [und, lenA, ih]
theorem nth_und (n i : Nat) : nth (und n) i = .undef := by
  induction n generalizing i with
  | zero => rfl
  | succ n ih => cases i with
    | zero => rfl
    | succ i => exact ih i

/-- The arguments stand for something. -/
def ArgsOk (args : List AV) : Prop := ∃ (w : World) (S : Nat → Prop) (vs : Array Value), RelL w S [] vs args

theorem NewS_of {w' : World} {S' : Nat → Prop} (hU : ∀ b, S' b → S b ∨ w.heap.size ≤ b) (hsb : ∀ b, S' b → b < w'.heap.size) : ∀ b, S' b → NewS w w' S b := fun b h => (hU b h).elim .inl fun h' => .inr ⟨h', hsb b h⟩

theorem ACalls.of {f : FuncId} {fn : Func} {c : Code} (hT : TabOk P T) (hf : P.funcs[f]? = some fn) (hb : fn.body = some c) (hname : (fn.name == "runtime.NumGoroutine") = false) {args : List AV} {r : CR}
    (h : ArgsOk args → AWp P c (PostOf T fn.results.toList r) ⟨catA args (und (fn.ntmps - lenA args)), [], 0⟩) : ACalls P f args r := by
  intro w S vs hsb hargs
  refine .inl ⟨?_, ?_⟩
  · have hn : ¬ fn.name = "runtime.NumGoroutine" := by simpa using hname
    simp [callFunc, hf, hb, hn]
  refine calls_of_wp hf hb ?_
  have hM : MRel ⟨fun b => b < w.heap.size, fun _ => none⟩ w S [] [] := ⟨rfl, hsb, fun i l h => by simp at h, fun i l h => by simp at h, fun i j l l' h => by simp at h, fun _ h => h, fun i l h => by simp at h⟩
  have hA : ARel w S [] { tmps := vs ++ Array.replicate (fn.ntmps - vs.size) Go.undef, defers := [] } (catA args (und (fn.ntmps - lenA args))) := by
    refine ⟨by rw [lenA_cat, lenA_und]; simp [hargs.1], rfl, fun t => ?_⟩
    rw [nth_cat]
    simp only [Array.getD_eq_getD_getElem?]
    split
    · rename_i hlt
      rw [Array.getElem?_append_left (by rw [hargs.1]; exact hlt)]
      have := hargs.2 t hlt
      simpa using this
    · rw [nth_und]; exact .undef _ _
  refine Code.wp_mono ?_ ((h ⟨w, S, vs, hargs⟩).sem _ w S [] _ ⟨hM, fun i l h => by simp at h⟩ hA)
  rintro e a' w' ⟨A', S', m', hq, hbel, hS, hU₀, hM₀, hA'⟩
  have hM' := hM₀.rel
  have hbel := hbel.below
  have hU : ∀ b, S' b → S b ∨ w.heap.size ≤ b := fun b h => (hU₀ b h).imp id (fun h => Nat.le_of_not_lt h)
  have fin : PostR T fn.results.toList A' r → a'.defers = [] ∧ ∃ v, (results fn a'.tmps).run P w' = .ok v w' ∧ CPost w S r (.returned v) w' := by
    intro hr
    have hk := hr.ks
    clear h hq
    refine ⟨hA'.2.1, ?_⟩
    obtain ⟨us, k1, k2, k3⟩ := run_ress hT hM' hA' fn.results.toList hk
    have hrun : (results fn a'.tmps).run P w' = .ok (if h : us.toArray.size = 1 then us.toArray[0] else .tuple us.toArray) w' := by
      unfold results
      rw [Array.mapM_eq_mapM_toList]
      simp only [Sem.run_bind, Sem.run_map, Result.andThen_ok, Sem.run_pure, Result.andThen]
      erw [k1]
    have hall : ∀ {v : Value} {a : AV}, Rel w' (AllS ⟨fun b => b < w.heap.size, fun _ => none⟩ S' w') [] v a → Rel w' (NewS w w' S) [] v a := fun {v a} hr =>
      hr.mono (fun b hb => by
        rcases hb.1 with h' | h'
        · exact NewS_of hU hM'.sb b h'
        · exact .inr ⟨Nat.le_of_not_lt h', hb.2⟩) (fun _ _ => rfl) _ (fun _ _ h => h)
    have hbor : ∀ i (h : i < fn.results.toList.length) (h' : i < us.length), Rel w' (NewS w w' S) [] us[i] (borrow A'.m (aRes1 T A' fn.results.toList[i]).v) := fun i h h' => hall (borrow_ok hM' (k3 i h h'))
    generalize hrs : fn.results.toList = rs at *
    refine ⟨_, hrun, _, rfl, hbel, ?_⟩
    cases r with
    | val v =>
      refine hr.2 _ _ _ _ ?_
      match rs, us, k2, hbor with
      | [r1], [u], _, hbor => exact hbor 0 (by simp) (by simp)
      | [], [], _, _ => exact .tup _ _ _ rfl fun i hi => absurd hi (Nat.not_lt_zero i)
      | r1 :: r2 :: rs, u1 :: u2 :: us, k2, hbor =>
        have hne : ¬ (u1 :: u2 :: us).toArray.size = 1 := by simp
        rw [dif_neg hne]
        refine .tup _ _ _ (by show _ = lenA (retVs T A' (r1 :: r2 :: rs)); rw [retVs_len]; simpa using k2) fun i hi => ?_
        change i < lenA (retVs T A' (r1 :: r2 :: rs)) at hi
        rw [retVs_len] at hi
        rw [retVs_nth _ _ _ hi]
        have hi' : i < (u1 :: u2 :: us).length := by rw [k2]; exact hi
        have := hbor i hi hi'
        have e : (u1 :: u2 :: us).toArray.getD i Go.undef = (u1 :: u2 :: us)[i] := by rw [Array.getD_eq_getD_getElem?, List.getElem?_toArray, List.getElem?_eq_getElem hi']; rfl
        rw [e]; exact this
    | fresh e sz n c =>
      obtain ⟨_, hr⟩ := hr
      rcases hr with ⟨rfl, r1, rfl, hnil⟩ | ⟨r1, b, k', c', e1, e2, e3, e4', e4⟩
      · match us, k2, k3 with
        | [u], _, k3 =>
          have hu := k3 0 (by simp) (by simp)
          simp only [List.getElem_cons_zero] at hu
          show CRes w w' S u (.fresh e sz 0 c)
          rcases hnil with hnil | hnil <;> rw [hnil] at hu <;> (cases hu; exact .inl ⟨⟨_, rfl⟩, rfl⟩)
      subst e1
      match us, k2, k3 with
      | [u], _, k3 =>
        have hu := k3 0 (by simp) (by simp)
        simp only [List.getElem_cons_zero] at hu
        rw [e2] at hu
        show CRes w w' S u (.fresh e sz n c)
        cases hu with
        | own0 _ a0 => exact .inl ⟨⟨a0, rfl⟩, rfl⟩
        | own _ _ _ l h0 hn hc =>
          have hB := bk_of hM' h0
          rw [e3] at hB
          obtain ⟨q1, q2, q3, q4, vs', q5, q6, q7⟩ := hB
          have hlt := hM'.lt _ _ h0
          refine .inr ⟨⟨l.g, l.cap, l.sz, n⟩, vs', rfl, Nat.le_of_not_lt hlt.1, hlt.2.1, q1, rfl, by show n ≤ l.cap; omega, q4, q5, q6, fun i hi j hj => ⟨(q7 i (by omega) j hj).1, ?_⟩⟩
          rw [← e4 i hi j hj]
          exact (q7 i (by omega) j hj).2.mono (fun b hb => ⟨NewS_of hU hM'.sb b hb, fun e => hlt.2.2 (e ▸ hb)⟩) (fun _ _ => rfl) _ (fun _ _ h => h)
    | freshT e sz l =>
      obtain ⟨_, hr⟩ := hr
      rcases hr with ⟨hl0, r1, rfl, hnil⟩ | ⟨r1, b, e1, e2, e3⟩ | ⟨r1, b, n, k0, e1, e2, e3, e4⟩
      · match us, k2, k3 with
        | [u], _, k3 =>
          have hu := k3 0 (by simp) (by simp)
          simp only [List.getElem_cons_zero] at hu
          show FreshV w w' S u e (szT sz) l.length (vw sz l)
          rcases hnil with hnil | hnil <;> rw [hnil] at hu <;> (cases hu; exact .inl ⟨⟨_, rfl⟩, hl0⟩)
      · subst e1
        match us, k2, k3 with
        | [u], _, k3 =>
          have hu := k3 0 (by simp) (by simp)
          simp only [List.getElem_cons_zero] at hu
          rw [e2] at hu
          show FreshV w w' S u e (szT sz) l.length (vw sz l)
          cases hu with
          | ownT0 _ a0 _ h0 =>
            have hB := hM'.bk _ _ h0
            rw [e3] at hB
            exact .inl ⟨⟨a0, rfl⟩, hB⟩
          | ownT _ _ l0 h0 hc =>
            have hB := bk_of hM' h0
            rw [e3] at hB
            obtain ⟨q1, q2, q3, q4, vs', q5, q6, q7⟩ := hB
            have hlt := hM'.lt _ _ h0
            exact .inr ⟨l0, vs', by rw [q2], Nat.le_of_not_lt hlt.1, hlt.2.1, q1, q2, q3, q4, q5, q6, fun i hi j hj => ⟨(q7 i hi j hj).1,
              (q7 i hi j hj).2.mono (fun b hb => ⟨NewS_of hU hM'.sb b hb, fun e => hlt.2.2 (e ▸ hb)⟩) (fun _ _ => rfl) _ (fun _ _ h => h)⟩⟩
      · subst e1 e4
        match us, k2, k3 with
        | [u], _, k3 =>
          have hu := k3 0 (by simp) (by simp)
          simp only [List.getElem_cons_zero] at hu
          rw [e2] at hu
          show FreshV w w' S u e (szT sz) (k0.take n).length (vw sz (k0.take n))
          cases hu with
          | own0 _ a0 _ h0 => exact .inl ⟨⟨a0, rfl⟩, by simp⟩
          | own _ _ _ l0 h0 hn hc =>
            have hB := bk_of hM' h0
            rw [e3] at hB
            obtain ⟨q1, q2, q3, q4, vs', q5, q6, q7⟩ := hB
            have hlt := hM'.lt _ _ h0
            have hlen : (k0.take n).length = n := by rw [List.length_take]; omega
            rw [hlen]
            refine .inr ⟨⟨l0.g, l0.cap, l0.sz, n⟩, vs', rfl, Nat.le_of_not_lt hlt.1, hlt.2.1, q1, rfl, by show n ≤ l0.cap; omega, q4, q5, q6, fun i hi j hj => ⟨(q7 i (by omega) j hj).1, ?_⟩⟩
            rw [vw_take _ _ _ _ _ hi]
            exact (q7 i (by omega) j hj).2.mono (fun b hb => ⟨NewS_of hU hM'.sb b hb, fun e => hlt.2.2 (e ▸ hb)⟩) (fun _ _ => rfl) _ (fun _ _ h => h)
  cases e with
  | ret => exact fin hq
  | normal => exact fin hq
  | exit id => exact hq.elim
  | goto l => exact hq.elim
  | panic ch => exact hq.elim
  | outgrown => exact hq.elim

end Go.Eng
