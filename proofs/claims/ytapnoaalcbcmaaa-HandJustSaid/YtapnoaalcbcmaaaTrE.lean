/- Contracts out of trees: the evaluator is sound; loops; functions. -/
import Derived.Test.YtapnoaalcbcmaaaTrD
import Derived.LoopN
namespace Go.Eng
open Go Go.RowKit

variable {P : Program} {T : Tab}

def wpQ (Q : Exit → AS → Prop) (r : Exit × AS) : Prop := Q r.1 r.2

theorem AWp.scopeW {c : Code} {Q : Exit → AS → Prop} {A : AS} (h : AWp P c (fun e A' => (∀ l, e ≠ .goto l) ∧ Q e A') A) : AWp P (.scope c) Q A := by
  refine ⟨fun base w S m a hM hA => wp_scope_straight (Code.wp_mono ?_ (h.sem base w S m a hM hA))⟩
  rintro e a' w' ⟨A', S', m', ⟨h1, h2⟩, h3⟩
  cases e with
  | goto l => exact absurd rfl (h1 l)
  | _ => exact ⟨A', S', m', h2, h3⟩

/-- A loop's contract, as the table has it. -/
def LpOk (P : Program) (o : OrT) (d : Code) : Prop := ∀ A t (Q : Exit → AS → Prop), o.lp (firstId d) A = some t → t.wp (wpQ Q) → AWp P (nodeL d) Q A
def AllLp (P : Program) (o : OrT) : List Code → Prop
  | [] => True
  | d :: l => LpOk P o d ∧ AllLp P o l
theorem AllLp.cat {o : OrT} : ∀ {k l : List Code}, AllLp P o (catCo k l) → AllLp P o k ∧ AllLp P o l
  | [], _, h => ⟨trivial, h⟩
  | _ :: _, _, h => let ⟨h1, h2⟩ := AllLp.cat h.2; ⟨⟨h.1, h1⟩, h2⟩

theorem splC_ok {c : Code} {Q : Exit → AS → Prop} {f : AS → Tree (Exit × AS)} {A : AS} {i : Nat} {k : IntKind} {x : Int} (hi : nth A.ts i = .int k x) (hf : ∀ A, (f A).wp (wpQ Q) → AWp P c Q A) : ∀ (n j : Nat), (splC i k x f A n j).wp (wpQ Q) → AWp P c Q A
  | 0, j, h => h.elim
  | n + 1, j, h => by
    simp only [splC, Tree.wp] at h
    by_cases e : x = (j : Int)
    · rw [show std.eq x (j : Int) = true from decide_eq_true e] at h
      have := hf _ h
      rwa [show put A.ts i (.int k (j : Int)) = A.ts from by rw [← e, ← hi, put_nth]] at this
    · rw [show std.eq x (j : Int) = false from decide_eq_false e] at h
      exact splC_ok hi hf n (j + 1) h
theorem splT_ok {c : Code} {Q : Exit → AS → Prop} {f : AS → Tree (Exit × AS)} : ∀ (l : List Pre) (A : AS), (splT f l A).wp (wpQ Q) → (∀ A, (f A).wp (wpQ Q) → AWp P c Q A) → AWp P c Q A
  | [], A, h, hf => hf A h
  | p :: l, A, h, hf => by
    have main : (splT f l (pre1A p A)).wp (wpQ Q) → AWp P c Q A := fun h => AWp.pre_le (pre1A_le p A) (splT_ok l _ h hf)
    cases p with
    | spl i n =>
      simp only [splT] at h
      split at h
      · rename_i k x hi
        exact splC_ok hi (fun A h => splT_ok l A h hf) _ _ h
      · exact h.elim
    | own i e u => exact main h
    | frz b => exact main h
    | ownC b j e u => exact main h
    | arr b u => exact main h
    | two => exact main h
    | unr n => exact main h
    | mvB k b => exact main h
    | twoN n => exact main h

/-- A loop that is taken round by round. -/
theorem unrT_rounds {c : Code} {f : AS → Tree (Exit × AS)} (hf : ∀ (A : AS) (Q : Exit → AS → Prop), (f A).wp (wpQ Q) → AWp P c Q A) {Q : Exit → AS → Prop} {base : Env} {w0 : World} {S0 : Nat → Prop} : ∀ (n : Nat) (A : AS), (unrT f n A).wp (wpQ Q) →
    ∀ (w : World) (S : Nat → Prop) (m : Locs) (a : Act), Prot base.Z w0 w → (∀ b, S0 b → S b) → (∀ b, S b → S0 b ∨ ¬ base.Z b) → MA base w S m A → ARel base.old w S m a A.ts → Code.rounds P c (Lift base w0 S0 Q) n a w
  | 0, _, h => h.elim
  | n + 1, A, h => by
    intro w S m a hP hS hU hM hA
    have h := Tree.wp_bind.1 h
    rw [rounds_succ]
    refine Code.wp_mono ?_ ((hf A (fun e A' => match e with | .normal => (unrT f n A').wp (wpQ Q) | e => Q e A') (Tree.wp_mono h ?_)).sem base w S m a hM hA)
    · rintro e a' w' ⟨A', S', m', h1, h2, h3, h4, h5, h6⟩
      cases e with
      | normal => exact unrT_rounds hf n A' h1 w' S' m' a' (hP.trans h2) (fun b h => h3 b (hS b h)) (fun b h => (h4 b h).elim (hU b) .inr) h5 h6
      | _ => exact Lift.step hP hS hU ⟨A', S', m', h1, h2, h3, h4, h5, h6⟩
    · rintro ⟨e, A'⟩ h
      cases e with
      | normal => exact h
      | _ => exact h
theorem unrT_ok {c : Code} {f : AS → Tree (Exit × AS)} (hf : ∀ (A : AS) (Q : Exit → AS → Prop), (f A).wp (wpQ Q) → AWp P c Q A) (n : Nat) (A : AS) (Q : Exit → AS → Prop) (h : (unrT f n A).wp (wpQ Q)) : AWp P (.loop c) Q A :=
  ⟨fun base w S m a hM hA => wp_loop_rounds n (unrT_rounds hf n A h w S m a (Prot.refl _ _) (fun _ h => h) (fun _ h => .inl h) hM hA)⟩

theorem evT_sound (hm : P.follows .mixedOrders = true) (hT : TabOk P T) {o : OrT} (ho : SoundT P o) : ∀ (c : Code), AllLp P o (loopsOf c) → ∀ (A : AS) (Q : Exit → AS → Prop), (evT std T o c A).wp (wpQ Q) → AWp P c Q A := by
  intro c
  induction c with
  | skip => intro _ A Q h; exact .skip h
  | label l => intro _ A Q h; exact .label h
  | exit id => intro _ A Q h; exact .exit h
  | ret => intro _ A Q h; exact .ret h
  | region id ops d =>
    intro _ A Q h
    simp only [evT] at h
    refine splT_ok (o.fz id) A h fun A h => ?_
    cases d with
    | false =>
      simp only [evReg] at h
      obtain ⟨s', hs, h⟩ := Tree.wp_run (opsT_pl _ _ _ _ _ _) (Tree.wp_bind.1 h)
      obtain ⟨h1, h2⟩ := opsT_ok rfl hs
      obtain ⟨K, k1, k2⟩ := h2 [] trivial
      exact AWp.region hT ho.old k2 k1 h
    | true =>
      simp only [evReg] at h
      split at h
      case h_2 =>
        split at h
        · exact AWp.regionPre hm hT ho (Tree.wp_bind.1 h)
        · exact AWp.regionD hm hT ho (Tree.wp_bind.1 h)
      split at h
      · split at h
        · exact AWp.regionD hm hT ho (Tree.wp_bind.1 h)
        · exact AWp.regionPre hm hT ho (Tree.wp_bind.1 h)
      split at h
      case h_2 => exact h.elim
      rename_i hd
      obtain ⟨s', hs, h⟩ := Tree.wp_run (opsQ_pl _ _ _ _ _ _) (Tree.wp_bind.1 h)
      obtain ⟨h1, h2⟩ := opsQ_ok rfl hs
      obtain ⟨K, k1, k2⟩ := h2 [] trivial
      exact AWp.regionDraw hm hT ho.old hd k2 k1 h
  | seq x y ihx ihy =>
    intro hl A Q h
    obtain ⟨hl1, hl2⟩ := AllLp.cat hl
    refine AWp.seq (ihx hl1 _ _ (Tree.wp_mono (Tree.wp_bind.1 h) ?_))
    rintro ⟨e, A'⟩ h
    cases e with
    | normal => exact ihy hl2 _ _ h
    | _ => exact h
  | cond c x y ihx ihy =>
    intro hl A Q h
    obtain ⟨hl1, hl2⟩ := AllLp.cat hl
    simp only [evT] at h
    split at h
    · rename_i b hb
      refine AWp.cond hb (fun e => ?_) (fun e => ?_)
      · subst e; exact ihx hl1 _ _ h
      · subst e; exact ihy hl2 _ _ h
    · rename_i n hb
      refine AWp.condN hb (fun e => ?_) ?_
      · subst e; exact ihx hl1 _ _ h.1
      · cases n with
        | zero => exact ihy hl2 _ _ h.2
        | succ n => exact ihy hl2 _ _ h
    · exact h.elim
  | block id c ih =>
    intro hl A Q h
    refine AWp.block (ih hl _ _ (Tree.wp_mono (Tree.wp_bind.1 h) ?_))
    rintro ⟨e, A'⟩ h
    cases e with
    | exit i =>
      show if i = id then _ else _
      simp only at h
      split at h
      · rename_i hi
        rw [if_pos (Nat.eq_of_beq_eq_true hi)]
        exact h
      · rename_i hi
        rw [if_neg (fun e => by rw [e, Nat.beq_refl] at hi; cases hi)]
        exact h
    | _ => exact h
  | loop c ih =>
    intro hl A Q h
    simp only [evT] at h
    split at h
    · exact h.elim
    · rename_i hr
      split at h
      · rename_i n hn
        split at h
        · rename_i hlo
          exact unrT_ok (fun A Q h => ih (by rw [hlo]; trivial) A Q h) n A Q h
        · exact h.elim
      split at h
      · rename_i t ht
        have := hl.1 _ _ _ ht h
        unfold nodeL at this
        rw [hr] at this
        exact this
      · exact h.elim
  | scope c ih =>
    intro hl A Q h
    refine AWp.scopeW (ih hl _ _ (Tree.wp_mono (Tree.wp_bind.1 h) ?_))
    rintro ⟨e, A'⟩ h
    cases e with
    | goto l => exact h.elim
    | _ => exact ⟨(fun l e => by cases e), h⟩
  | goto l => intro _ A Q h; exact h.elim
  | refuse s => intro _ A Q h; exact h.elim
  | rangeFunc f ps a b =>
    intro hl A Q h
    simp only [evT] at h
    split at h
    · rename_i t ht; exact hl.1 _ _ _ ht h
    · exact h.elim

/-! Functions. -/
def Sig.ok (P : Program) (g : Sig) : Prop := ∀ x y, (g.f x).run = some y → ACalls P g.id (encP g.ps x) (crR g.rs y)
def AllSig (P : Program) : List Sig → Prop
  | [] => True
  | g :: l => g.ok P ∧ AllSig P l

theorem acalls_le {f : Nat} {args args' : List AV} {r : CR} (h : ACalls P f args' r) (hl : LeS args args') : ACalls P f args r :=
  fun w S vs hgl hsb hr => h w S vs hgl hsb ⟨hr.1.trans hl.1, fun i hi => hl.2 i _ _ _ _ (hr.2 i (by rw [hl.1]; exact hi))⟩

theorem puOf_ok : ∀ {l : List Sig}, AllSig P l → ∀ id args c a, puOf l id args = some c → c.t.run = some a → ACalls P id args (c.r a) := by
  intro l
  induction l with
  | nil => intro _ id args c a h; cases h
  | cons g l ih =>
    intro hl id args c a h ha
    simp only [puOf] at h
    split at h
    · rename_i hid
      split at h
      · rename_i x hx
        cases h
        have := Nat.eq_of_beq_eq_true hid
        subst this
        exact acalls_le (hl.1 x a ha) (decP_all hx)
      · exact ih hl.2 _ _ _ _ h ha
    · exact ih hl.2 _ _ _ _ h ha

theorem retVs_one (A : AS) (vars : List ResultVar) {v : AV} (h : retVs T A vars = [v]) : ∃ r, vars = [r] ∧ v = borrow A.m (aRes1 T A r).v := by
  match vars, h with
  | [r], h => simp only [retVs] at h; injection h with h; exact ⟨r, rfl, h.symm⟩

theorem resT_ok {A : AS} {vars : List ResultVar} {rs : RS} {y : ElR rs} (hk : AllT (retKs T A vars)) (h : (resT T A vars rs).run = some y) : PostR T vars A (crR rs y) := by
  cases rs with
  | newv e u => cases h
  | fresh e u =>
    simp only [resT] at h
    split at h
    case h_2 => cases h
    rename_i v
    split at h
    · rename_i hv; cases h; exact ⟨hk, .inl ⟨rfl, v, rfl, .inl hv⟩⟩
    · rename_i hv; cases h; exact ⟨hk, .inl ⟨rfl, v, rfl, .inr hv⟩⟩
    · rename_i b hv
      split at h
      · rename_i e' u' l hb
        split at h
        · rename_i l' he hc
          have he := Nat.eq_of_beq_eq_true he
          obtain ⟨e1, rfl⟩ := castL_some hc
          subst e1 he
          cases h
          exact ⟨hk, .inr (.inl ⟨v, b, rfl, hv, hb⟩)⟩
        · cases h
      · cases h
    · rename_i b n hv
      split at h
      · rename_i e' u' l hb
        split at h
        · rename_i l' he hc
          have he := Nat.eq_of_beq_eq_true he
          obtain ⟨e1, rfl⟩ := castL_some hc
          subst e1 he
          cases h
          exact ⟨hk, .inr (.inr ⟨v, b, n, l, rfl, hv, hb, rfl⟩)⟩
        · cases h
      · cases h
    · cases h
  | one p =>
    simp only [resT] at h
    split at h
    case h_2 => cases h
    rename_i v
    split at h
    · rename_i x hx
      cases h
      exact ⟨hk, (decP_all hx).2 0⟩
    · cases h
  | vals p =>
    have other : ∀ {p : PS} {y : ElP p}, (∀ g t, p ≠ .val g t) → (match vars with
        | [_] => (Tree.fail : Tree (ElP p))
        | vars => match decP p (retVs T A vars) with
          | some (x, []) => .ret x
          | _ => .fail).run = some y → PostR T vars A (.val (.tup (encP p y))) := by
      intro p y _ h
      split at h
      · cases h
      · rename_i hne
        split at h
        · rename_i x hx
          cases h
          obtain ⟨q1, q2⟩ := decP_all hx
          refine ⟨hk, ?_⟩
          have : retV T A vars = .tup (retVs T A vars) := by
            match vars, hne with
            | [], _ => rfl
            | [r], hne => exact absurd rfl (hne r)
            | _ :: _ :: _, _ => rfl
          rw [this]
          exact Le.tup q1 fun i _ => q2 i
        · cases h
    cases p with
    | val g t =>
      simp only [resT] at h
      split at h
      · rename_i v
        split at h
        · rename_i x hx; cases h; exact ⟨hk, rdV_ok hx⟩
        · cases h
      · cases h
    | _ => exact other (fun _ _ e => by cases e) h

theorem resT_pl (A : AS) (vars : List ResultVar) (rs : RS) : (resT T A vars rs).pl := by
  cases rs with
  | newv e u => trivial
  | fresh e u =>
    simp only [resT]
    repeat' split
    all_goals trivial
  | one p =>
    simp only [resT]
    repeat' split
    all_goals trivial
  | vals p =>
    cases p <;> (simp only [resT]; repeat' split) <;> trivial
theorem finT_pl (vars : List ResultVar) (rs : RS) (r : Exit × AS) : (finT T vars rs r).pl := by
  unfold finT
  split
  · exact asksT_pl (resT_pl _ _ _)
  · exact asksT_pl (resT_pl _ _ _)
  · trivial

theorem finT_ok {vars : List ResultVar} {rs : RS} {e : Exit} {A : AS} {y : ElR rs} (h : (finT T vars rs (e, A)).run = some y) : PostOf T vars (crR rs y) e A := by
  cases e with
  | ret => obtain ⟨h1, h2⟩ := asksT_run h; exact resT_ok h1 h2
  | normal => obtain ⟨h1, h2⟩ := asksT_run h; exact resT_ok h1 h2
  | _ => cases h

theorem Sig.lift (hm : P.follows .mixedOrders = true) (hT : TabOk P T) (hn : namesOk P = true) (g : Sig) {fn : Func} {c : Code} (hf : P.funcs[g.id]? = some fn) (hb : fn.body = some c) {o : OrT} (ho : SoundT P o) (hl : AllLp P o (loopsOf c))
    (heq : ∀ x, evF T o c fn.ntmps fn.results.toList g.ps g.rs x = g.f x) : g.ok P := by
  intro x y hy
  rw [← heq] at hy
  have hy := Tree.wp_bind.1 (Tree.run_wp hy)
  refine ACalls.of hT hf hb (name_ok hn hf) fun _ => evT_sound hm hT ho c hl _ _ (Tree.wp_mono hy ?_)
  rintro ⟨e, A⟩ h
  obtain ⟨y', h1, rfl⟩ := Tree.wp_run (finT_pl _ _ _) h
  exact finT_ok h1

/-! Loops. -/
inductive LoopD {σ α : Type} (f : σ → Option (σ ⊕ α)) : Nat → σ → α → Prop where
  | more {n : Nat} {s s' : σ} {a : α} (h : f s = some (.inl s')) (r : LoopD f n s' a) : LoopD f (n + 1) s a
  | done {n : Nat} {s : σ} {a : α} (h : f s = some (.inr a)) : LoopD f n s a
theorem LoopR.depth {σ α : Type} {f : σ → Option (σ ⊕ α)} {s : σ} {a : α} (h : LoopR f s a) : ∃ n, LoopD f n s a := by
  induction h with
  | more h _ ih => obtain ⟨n, hn⟩ := ih; exact ⟨n + 1, .more h hn⟩
  | done h => exact ⟨0, .done h⟩

/-- A loop's contract. -/
def Lp.ok (P : Program) (g : Lp) (c : Code) : Prop := ∀ z (Q : Exit → AS → Prop), ((g.f z).bind (encX g.np g.xs)).wp (wpQ Q) → AWp P (nodeL c) Q (encA g.p g.q g.np z)
def AllLps (P : Program) (c : Code) : List Lp → Prop
  | [] => True
  | g :: l => (Nat.beq g.key (firstId c) = true → g.ok P c) ∧ AllLps P c l

theorem lpOf_ok {c : Code} : ∀ {l : List Lp}, AllLps P c l → ∀ A t (Q : Exit → AS → Prop), lpOf l (firstId c) A = some t → t.wp (wpQ Q) → AWp P (nodeL c) Q A := by
  intro l
  induction l with
  | nil => intro _ A t Q h; cases h
  | cons g l ih =>
    intro hl A t Q h ht
    simp only [lpOf] at h
    split at h
    · rename_i hk
      split at h
      · rename_i z hz
        cases h
        exact AWp.pre_le ((preA_le g.pre A).trans (rdA_le hz)) (hl.1 hk z Q ht)
      · exact ih hl.2 _ _ _ h ht
    · exact ih hl.2 _ _ _ h ht

theorem encX_one {np : Nat} {xs : XS} {y : ElX xs} {e : Exit} {A : AS} (Q : Exit → AS → Prop) (h : (encX np xs y).wp (wpQ Q)) (hA : (encX np xs y).run = some (e, A)) : Q e A := by
  induction xs with
  | one x pre p q => cases hA; exact h
  | norm p q => cases hA; exact h
  | more x pre p q r ih => cases y with
    | inl z => cases hA; exact h
    | inr z => exact ih h hA
theorem encX_run (np : Nat) (xs : XS) (y : ElX xs) : ∃ r, (encX np xs y).run = some r := by
  induction xs with
  | one x pre p q => exact ⟨_, rfl⟩
  | norm p q => exact ⟨_, rfl⟩
  | more x pre p q r ih => cases y with
    | inl z => exact ⟨_, rfl⟩
    | inr z => exact ih z

theorem Lp.lift (hm : P.follows .mixedOrders = true) (hT : TabOk P T) (g : Lp) {c : Code} {o : OrT} (ho : SoundT P o) (hl : AllLp P o (loopsOf c)) {π V ρ : Type} (emb : π → V → ElA g.p g.q) (embX : π → ρ → ElX g.xs) (step : π → V → Tree (V ⊕ ρ)) (kX : π → ρ → Tree (ElX g.xs))
    (px : ElA g.p g.q → π) (vx : ElA g.p g.q → V) (hz : ∀ z, emb (px z) (vx z) = z) (hf : ∀ z, g.f z = .bnd (.loop (step (px z)) (vx z)) (kX (px z))) (hk : ∀ x r (Q : ElX g.xs → Prop), (kX x r).wp Q → Q (embX x r))
    (heq : ∀ x v, (evT std T o c (encA g.p g.q g.np (emb x v))).bind (endRound g.rpre g.p g.q g.np g.xs) = (step x v).bind fun s => match s with
      | .inl v' => .ret (.inl (emb x v'))
      | .inr r => .ret (.inr (embX x r))) (hr : isRange c = false := by kernel_rfl) : g.ok P c := by
  intro z Q hw
  rw [hf] at hw
  obtain ⟨r, hr, hw⟩ := hw
  have hw := hk _ _ _ (Tree.wp_bind.1 hw)
  obtain ⟨⟨e, A'⟩, hA⟩ := encX_run g.np g.xs (embX (px z) r)
  have hq := encX_one Q hw hA
  obtain ⟨n, hd⟩ := (loopF_some.1 hr).depth
  have hz' := hz z
  clear hw hr hf
  generalize px z = x at *
  rw [← hz']
  generalize vx z = v at *
  unfold nodeL
  rw [hr]
  refine AWp.loop (fun n A => ∃ v, A = encA g.p g.q g.np (emb x v) ∧ LoopD (fun s => (step x s).run) n v r) n ⟨v, rfl, hd⟩ ?_
  rintro n _ ⟨v, rfl, hd⟩
  -- the round
  have hs : ∃ s, (step x v).run = some s := by cases hd with | more h _ => exact ⟨_, h⟩ | done h => exact ⟨_, h⟩
  obtain ⟨s, hs⟩ := hs
  have hround : ((evT std T o c (encA g.p g.q g.np (emb x v))).bind (endRound g.rpre g.p g.q g.np g.xs)).wp (fun y => y = match s with
      | .inl v' => .inl (emb x v')
      | .inr r => .inr (embX x r)) := by
    rw [heq]
    refine Tree.wp_bind.2 (Tree.wp_mono (Tree.run_wp hs) ?_)
    rintro s' rfl
    cases s' <;> rfl
  refine AWp.post_le (evT_sound hm hT ho c hl _ _ (Tree.wp_mono (Tree.wp_bind.1 hround) ?_))
  rintro ⟨e', A''⟩ hround
  cases e' with
  | normal =>
    simp only [endRound] at hround
    split at hround
    · rename_i z' hz'
      cases s with
      | inl v' =>
        injection hround with hround
        subst hround
        cases hd with
        | more h hd' =>
          rw [hs] at h
          injection h with h; injection h with h; subst h
          exact ⟨_, (preA_le _ _).trans (rdA_le hz'), _, Nat.lt_succ_self _, _, rfl, hd'⟩
        | done h => rw [hs] at h; injection h with h; cases h
      | inr r' => cases hround
    · exact hround.elim
  | _ =>
    simp only [endRound] at hround
    split at hround
    · rename_i y' hy'
      cases s with
      | inl v' => cases hround
      | inr r' =>
        injection hround with hround
        cases hd with
        | more h _ => rw [hs] at h; injection h with h; cases h
        | done h =>
          rw [hs] at h
          injection h with h; injection h with h; subst h
          obtain ⟨B, q1, q2⟩ := rdX_le hy'
          rw [hround, hA] at q1
          injection q1 with q1
          injection q1 with q1 q3
          refine ⟨B, q2, ?_⟩
          cases q1; cases q3; exact hq
    · exact hround.elim

theorem orT_sound {l : List Sig} {lps : List Lp} {fz : Nat → List Pre} (h : AllSig P l) : SoundT P (orT l lps fz) := ⟨puOf_ok h, fun _ _ _ _ _ e => by cases e⟩

def bodyOf (fn : Func) : Code := match fn.body with | some c => c | none => .skip
def nthC : List Code → Nat → Code
  | [], _ => .skip
  | a :: _, 0 => a
  | _ :: l, n + 1 => nthC l n

def notIn (k : Nat) : List Lp → Bool
  | [] => true
  | g :: l => match Nat.beq g.key k with | true => false | false => notIn k l
def keysOk : List Lp → List Code → Bool
  | [], [] => true
  | g :: l, d :: ds => match Nat.beq g.key (firstId d), notIn g.key l with | true, true => keysOk l ds | _, _ => false
  | _, _ => false
def All2 (P : Program) : List Lp → List Code → Prop
  | g :: l, d :: ds => g.ok P d ∧ All2 P l ds
  | _, _ => True

theorem notIn_all {c : Code} {k : Nat} (hk : k = firstId c) : ∀ {l : List Lp}, notIn k l = true → AllLps P c l
  | [], _ => trivial
  | g :: l, h => by
    simp only [notIn] at h
    split at h
    · cases h
    · rename_i hne
      exact ⟨(fun e => by rw [← hk, hne] at e; cases e), notIn_all hk h⟩

theorem notIn_ne {k : Nat} {g' : Lp} : ∀ {l : List Lp}, notIn k l = true → g' ∈ l → Nat.beq k g'.key = false := by
  intro l
  induction l with
  | nil => intro _ h; cases h
  | cons y l ih =>
    intro h hg
    simp only [notIn] at h
    split at h
    · cases h
    · rename_i hny
      rcases List.mem_cons.1 hg with e | hg
      · subst e
        cases hb : Nat.beq k g'.key with
        | false => rfl
        | true => rw [Nat.eq_of_beq_eq_true hb, Nat.beq_refl] at hny; cases hny
      · exact ih h hg
theorem notIn_snoc {k : Nat} {g : Lp} : ∀ {l : List Lp}, notIn k l = true → Nat.beq g.key k = false → notIn k (l ++ [g]) = true := by
  intro l
  induction l with
  | nil => intro _ h; simp only [List.nil_append, notIn, h]
  | cons y l ih =>
    intro h hg
    simp only [List.cons_append, notIn] at h ⊢
    split at h
    · cases h
    · exact ih h hg
theorem allLp_of2 {sg : List Sig} {fz : Nat → List Pre} : ∀ (pre lps : List Lp) (ds : List Code), (∀ g ∈ lps, notIn g.key pre = true) → All2 P lps ds → keysOk lps ds = true → AllLp P (orT sg (pre ++ lps) fz) ds := by
  intro pre lps
  induction lps generalizing pre with
  | nil => intro ds _ _ hk; cases ds with
    | nil => trivial
    | cons => cases hk
  | cons g l ih =>
    intro ds hpre h hk
    cases ds with
    | nil => cases hk
    | cons d ds =>
      simp only [keysOk] at hk
      split at hk
      case h_2 => cases hk
      rename_i h1 h2
      have hkey := Nat.eq_of_beq_eq_true h1
      refine ⟨?_, ?_⟩
      · have hall : AllLps P d (pre ++ g :: l) := by
          have hp := hpre g (by simp)
          have hl : AllLps P d (g :: l) := ⟨fun _ => h.1, notIn_all hkey h2⟩
          clear ih hpre
          induction pre with
          | nil => exact hl
          | cons x pre ihp =>
            simp only [notIn] at hp
            split at hp
            · cases hp
            · rename_i hne
              exact ⟨(fun e => by rw [← hkey, hne] at e; cases e), ihp hp⟩
        exact lpOf_ok hall
      · have e : pre ++ g :: l = (pre ++ [g]) ++ l := by simp
        rw [e]
        refine ih (pre ++ [g]) ds (fun g' hg' => ?_) h.2 hk
        have h3 := hpre g' (by simp [hg'])
        have hne : Nat.beq g.key g'.key = false := notIn_ne h2 hg'
        exact notIn_snoc h3 hne

theorem allLp_of {sg : List Sig} {fz : Nat → List Pre} {lps : List Lp} {c : Code} (ds : List Code) (hd : loopsOf c = ds) (h : All2 P lps ds) (hk : keysOk lps ds = true) : AllLp P (orT sg lps fz) (loopsOf c) := by
  rw [hd]; exact allLp_of2 [] lps ds (fun _ _ => rfl) h hk

/-! Loops that are taken round by round have no contract. -/
def hasKey : List Lp → Nat → Bool
  | [], _ => false
  | g :: l, k => match Nat.beq g.key k with | true => true | false => hasKey l k
def keyed (lps : List Lp) : List Code → List Code
  | [] => []
  | d :: l => match hasKey lps (firstId d) with | true => d :: keyed lps l | false => keyed lps l
theorem lpOf_none : ∀ {lps : List Lp} {k : Nat} {A : AS}, hasKey lps k = false → lpOf lps k A = none
  | [], _, _, _ => rfl
  | g :: l, k, A, h => by
    simp only [hasKey] at h
    split at h
    · cases h
    · rename_i h1
      simp only [lpOf, h1]
      exact lpOf_none h
theorem allLp_keyed {o : OrT} {lps : List Lp} (ho : o.lp = lpOf lps) : ∀ {ds : List Code}, AllLp P o (keyed lps ds) → AllLp P o ds
  | [], _ => trivial
  | d :: l, h => by
    simp only [keyed] at h
    split at h
    · exact ⟨h.1, allLp_keyed ho h.2⟩
    · rename_i h1
      refine ⟨fun A t Q e => ?_, allLp_keyed ho h⟩
      rw [ho, lpOf_none h1] at e
      cases e
theorem allLp_ofU {sg : List Sig} {fz : Nat → List Pre} {lps : List Lp} {c : Code} (ds : List Code) (hd : keyed lps (loopsOf c) = ds) (h : All2 P lps ds) (hk : keysOk lps ds = true) : AllLp P (orT sg lps fz) (loopsOf c) :=
  allLp_keyed (o := orT sg lps fz) rfl (by rw [hd]; exact allLp_of2 [] lps ds (fun _ _ => rfl) h hk)

end Go.Eng
