/- Loops by a family of abstract states; what a call answers, by an equation. -/
import Derived.Test.YtpbpmbfgcgjgdaaEngT
namespace Go.Eng
open Go Go.RowKit

variable {P : Program} {T : Tab} {base : Nat} {w : World} {S : Nat → Prop} {m : Locs} {M : Mem}

/-- Slots, of which only some are told. -/
def putAll (ts : List AV) : List (Nat × AV) → List AV
  | [] => ts
  | (i, v) :: l => put (putAll ts l) i v
def slots (n : Nat) (l : List (Nat × AV)) : List AV := putAll (und n) l

/-- The first state says no less than the second one. -/
def SubE : List AV → List AV → Prop
  | [], [] => True
  | _ :: l, .undef :: k => SubE l k
  | a :: l, b :: k => a = b ∧ SubE l k
  | _, _ => False

def SubL (l k : List AV) : Prop := lenA l = lenA k ∧ ∀ i, Le (nth l i) (nth k i)

structure Sub (A B : AS) : Prop where
  m : A.m = B.m
  ts : SubE A.ts B.ts

theorem SubE.le : ∀ {l k : List AV}, SubE l k → SubL l k := by
  intro l
  induction l with
  | nil =>
    intro k h
    cases k with
    | nil => exact ⟨rfl, fun i => Le.refl _⟩
    | cons b k => exact h.elim
  | cons a l ih =>
    intro k h
    cases k with
    | nil => exact h.elim
    | cons b k =>
      have hh : Le a b ∧ SubE l k := by
        cases b with
        | undef => exact ⟨Le.undef _, h⟩
        | _ => have h : _ = _ ∧ _ := h; exact ⟨h.1 ▸ Le.refl _, h.2⟩
      obtain ⟨h1, h2⟩ := ih hh.2
      refine ⟨by simp only [lenA]; rw [h1], fun i => ?_⟩
      cases i with
      | zero => exact hh.1
      | succ i => exact h2 i

theorem ARel.sub {a : Act} {l k : List AV} (h : ARel w S m a l) (hs : SubL l k) : ARel w S m a k := ⟨h.1.trans hs.1, h.2.1, fun t => hs.2 t _ _ _ _ (h.2.2 t)⟩

theorem AWp.sub {c : Code} {Q : Exit → AS → Prop} {A B : AS} (hs : Sub A B) (h : AWp P c Q B) : AWp P c Q A :=
  ⟨fun base w S m a hM hA => h.sem base w S m a (hs.m ▸ hM) (hA.sub hs.ts.le)⟩

/-- What of a state is relied on: slot by slot, and the memory as it is. -/
theorem AWp.loopSub {c : Code} {Q : Exit → AS → Prop} {A : AS} (I : Nat → AS → Prop) (n : Nat) (h₀ : ∃ B, Sub A B ∧ I n B) (round : ∀ n A, I n A → AWp P c (thenQ (fun A' => ∃ n', n' < n ∧ ∃ B, Sub A' B ∧ I n' B) Q) A) : AWp P (.loop c) Q A :=
  AWp.loop (fun n A => ∃ B, Sub A B ∧ I n B) n h₀ fun n _ ⟨B, hs, hB⟩ => AWp.sub hs (round n B hB)

/-- What is to be shown of a loop's round. -/
def NextQ {ι : Type} (B : ι → AS) (C : ι → Prop) (μ : ι → Nat) (i : ι) (Q : Exit → AS → Prop) : Exit → AS → Prop :=
  thenQ (fun A' => ∃ j, μ j < μ i ∧ C j ∧ Sub A' (B j)) Q

/-- A loop, by a family of states. -/
theorem AWp.loopG {c : Code} {Q : Exit → AS → Prop} {A : AS} {ι : Type} (B : ι → AS) (C : ι → Prop) (μ : ι → Nat) (i₀ : ι) (hc : C i₀) (h0 : Sub A (B i₀))
    (round : ∀ i, C i → ∀ N, N = NextQ B C μ i Q → AWp P c N (B i)) : AWp P (.loop c) Q A := by
  refine AWp.loopSub (fun n A => ∃ i, n = μ i ∧ C i ∧ A = B i) (μ i₀) ⟨_, h0, i₀, rfl, hc, rfl⟩ ?_
  rintro n A ⟨i, rfl, hi, rfl⟩
  refine (round i hi _ rfl).mono ?_
  intro e A' h
  cases e with
  | normal =>
    obtain ⟨j, h1, h2, h3⟩ := h
    exact ⟨μ j, h1, B j, h3, j, rfl, h2, rfl⟩
  | _ => exact h

theorem NextQ.normal {ι : Type} {B : ι → AS} {C : ι → Prop} {μ : ι → Nat} {i : ι} {Q : Exit → AS → Prop} {A' : AS} (j : ι) (h1 : μ j < μ i) (h2 : C j) (h3 : Sub A' (B j)) : NextQ B C μ i Q .normal A' := ⟨j, h1, h2, h3⟩

/-- A loop, so many rounds of it. -/
def Unr (P : Program) (c : Code) (Q : Exit → AS → Prop) : Nat → AS → Prop
  | 0, _ => False
  | n + 1, A => AWp P c (thenQ (Unr P c Q n) Q) A

theorem AWp.unroll {c : Code} {Q : Exit → AS → Prop} {A : AS} (n : Nat) (h : Unr P c Q n A) : AWp P (.loop c) Q A := by
  refine AWp.loop (Unr P c Q) n h ?_
  intro n A h
  cases n with
  | zero => exact h.elim
  | succ n =>
    refine h.mono ?_
    intro e A' h'
    cases e with
    | normal => exact ⟨n, Nat.lt_succ_self n, h'⟩
    | _ => exact h'

theorem Unr.step {c : Code} {Q : Exit → AS → Prop} {A : AS} {n : Nat} (h : ∀ N, N = thenQ (Unr P c Q n) Q → AWp P c N A) : Unr P c Q (n + 1) A := h _ rfl

/-- An answer, by an equation. -/
theorem post_ret {rs : List ResultVar} {A : AS} {v : AV} (hk : allT (retKs T A rs) = true) (h : retV T A rs = v) : PostOf T rs (.val v) .ret A := ⟨AllT.of hk, h ▸ Le.refl _⟩
theorem post_end {rs : List ResultVar} {A : AS} {v : AV} (hk : allT (retKs T A rs) = true) (h : retV T A rs = v) : PostOf T rs (.val v) .normal A := ⟨AllT.of hk, h ▸ Le.refl _⟩

theorem ACalls.ofK {f : FuncId} {fn : Func} {c : Code} (hf : P.funcs[f]? = some fn) (hb : fn.body = some c) (hn : namesOk P = true) (hm : P.follows .mixedOrders = true) (hT : TabOk P T) {call : Oracle} (hcall : Sound P call) {args : List AV} {r : CR}
    (h : ∀ (p : Prims) (L : Leaf) (K : Exit → AS → Prop), p = std → L = leafOf P → K = PostOf T fn.results.toList r → ArgsOk args → wpT L p T call c K ⟨catA args (und (fn.ntmps - lenA args)), []⟩) : ACalls P f args r :=
  ACalls.ofT hf hb hn hm hT hcall fun p L hp hL ha => h p L _ hp hL rfl ha

end Go.Eng
