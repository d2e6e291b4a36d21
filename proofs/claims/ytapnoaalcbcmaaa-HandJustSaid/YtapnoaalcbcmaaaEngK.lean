/- Every operation of the abstract machine is sound. One operation; then a region, guards and all. -/
import Derived.Test.YtapnoaalcbcmaaaEngI
import Derived.Test.YtapnoaalcbcmaaaEngMf
namespace Go.Eng
open Go Go.RowKit

variable {P : Program} {T : Tab} {base : Env} {w : World} {S : Nat → Prop} {m : Locs} {M : Mem}

/-- What follows an operation. -/
def Then (base : Env) (w : World) (S : Nat → Prop) (m : Locs) (r : R) (a : Act) (dst : Option Tmp) (K : Act → World → Prop) : Prop :=
  ∀ v w' S' m', Trans base w S m w' S' m' r.inv → MRel base w' S' m' (r.m) → Rel w' S' m' v r.v → K (a.put dst v) w'

theorem wp_of_res {o : Oper} {a : Act} {K : Act → World → Prop} {Q : Exit → Act → World → Prop} {r : R} {x : Sem Value} (he : execOp a.eval o = (do pure (.value (← x)))) (h : Res base w S m P r x)
    (hK : Then base w S m r a o.dst K) : o.wp P a w K Q := by
  obtain ⟨v, w', S', m', h1, h2, h3, h4⟩ := h
  unfold Oper.wp
  rw [he]
  simp only [Sem.run_bind, h1, Result.andThen_ok, Sem.run_pure]
  exact hK v w' S' m' h2 h3 h4

theorem wp_of_resU {o : Oper} {a : Act} {K : Act → World → Prop} {Q : Exit → Act → World → Prop} {r : R} {x : Sem Unit} (he : execOp a.eval o = (do x; pure .skip)) (h : ResU base w S m P r x)
    (hK : Then base w S m r a o.dst K) : o.wp P a w K Q := by
  obtain ⟨w', S', m', h1, h2, h3, h4⟩ := h
  unfold Oper.wp
  rw [he]
  simp only [Sem.run_bind, h1, Result.andThen_ok, Sem.run_pure]
  exact hK Go.undef w' S' m' h2 h3 (by rw [h4]; exact .undef _ _)

theorem allFlat_nth {l : List AV} (h : allFlat l = true) {i : Nat} (hi : i < lenA l) : flat (nth l i) = true := by
  induction l generalizing i with
  | nil => simp [lenA] at hi
  | cons a l ih =>
    simp only [allFlat] at h
    split at h
    · cases i with
      | zero => assumption
      | succ i => exact ih h (by simp [lenA] at hi; omega)
    · simp at h

theorem Rel.flatR {v : Value} {a : AV} (h : Rel w S [] v a) (hf : flatR a = true) (S' : Nat → Prop) : Rel w S' [] v a := by
  cases a with
  | tup vs =>
    cases h with
    | tup _ _ _ hl h => exact .tup _ _ _ hl fun i hi => (h i hi).flat (allFlat_nth (by simpa [Eng.flatR] using hf) hi) _ _
  | _ => exact h.flat (by simpa [Eng.flatR] using hf) _ _

/-- Behind a call all that there was lies as it lay. -/
theorem MRel.called {w' : World} {S' : Nat → Prop} (hM : MRel base w S m M) (hb : Below w.heap.size w w') (hS : ∀ b, S b → S' b) (hS' : ∀ b, S' b → b < w'.heap.size) (hnew : ∀ b, S' b → b < w.heap.size → S b) :
    Trans base w S m w' S' m none ∧ MRel base w' S' m M := by
  have hheap : ∀ b, b < w.heap.size → w'.heap[b]? = w.heap[b]? := fun b h => hb.block b h
  refine ⟨⟨prot_of_below hb hM.base_le, hS, fun b h => (Nat.lt_or_ge b w.heap.size).elim (fun hlt => .inl (hnew b h hlt)) (fun hge => .inr (hM.new hge)), fun b h => hheap b (hM.sb b h), lmEq fun _ _ _ h => h⟩, ?_⟩
  refine ⟨hM.len, hS', ?_, fun i l hi => ⟨(hM.lt i l hi).1, Nat.lt_of_lt_of_le (hM.lt i l hi).2.1 hb.size, fun hs => (hM.lt i l hi).2.2 (hnew _ hs (hM.lt i l hi).2.1)⟩, hM.inj, fun b h => Nat.lt_of_lt_of_le (hM.base_le b h) hb.size, hM.gl fun k hk => hheap k (hM.base_le k hk), hM.pin, fun i l hi => (hM.ext i l hi).to (fun b _ h => h) hb.size (fun b hx h => .inl (hnew b h ((hM.ext i l hi).out b hx).2.1)) fun j l' hj => .inl ⟨l', hj, rfl, .inl rfl⟩⟩
  intro i l hi
  have hbk := hM.bk i l hi
  have hrel : ∀ m v a, Rel w S m v a → Rel w' S' m v a := fun m v a hr => hr.mono hS (fun b h => hheap b (hM.sb b h)) _ (fun _ _ h => h)
  cases l with
  | none => revert hbk; cases blk M i <;> exact fun h => h
  | some l₀ =>
    have hlt := (hM.lt i l₀ hi).2.1
    revert hbk
    cases blk M i with
    | dead => exact fun h => h
    | cells e cs => rintro ⟨vs, h1, h2, h3, h4⟩; exact ⟨vs, (hheap _ hlt).trans h1, h2, h3, fun i hi => hrel _ _ _ (h4 i hi)⟩
    | rows e sz n c => rintro ⟨h0, h1, h2, h3, vs, h4, h5, h6⟩; exact ⟨h0, h1, h2, h3, vs, (hheap _ hlt).trans h4, h5, fun i hi j hj => ⟨(h6 i hi j hj).1, hrel _ _ _ (h6 i hi j hj).2⟩⟩
    | trows e ty x => rintro ⟨h0, h1, h2, h3, vs, h4, h5, h6⟩; exact ⟨h0, h1, h2, h3, vs, (hheap _ hlt).trans h4, h5, fun i hi j hj => ⟨(h6 i hi j hj).1, hrel _ _ _ (h6 i hi j hj).2⟩⟩
    | fro e ty x => rintro ⟨h0, h1, h2, h3, vs, fz, h4, h5, h6⟩; exact ⟨h0, h1, h2, h3, vs, fz, (hheap _ hlt).trans h4, h5, fun i hi j hj => ⟨(h6 i hi j hj).1, hrel _ _ _ (h6 i hi j hj).2⟩⟩
    | arr e ty x => rintro ⟨vs, h4, h5, h6⟩; exact ⟨vs, (hheap _ hlt).trans h4, h5, fun i hi => ⟨(h6 i hi).1, hrel _ _ _ (h6 i hi).2⟩⟩
    | map ty uy x => rintro ⟨es, ck, h4, h5, h6, h7⟩; exact ⟨es, ck, (hheap _ hlt).trans h4, h5, fun i hi => ⟨hrel _ _ _ (h6 i hi).1, hrel _ _ _ (h6 i hi).2⟩, h7⟩
    | siter s pos => rintro ⟨h1, h2⟩; exact ⟨(hheap _ hlt).trans h1, h2⟩
    | fam x y => exact fun hf => hf.keep hS (fun b h => hheap b (hM.sb b h)) (hheap _ hlt) fun b hx => hheap b ((hM.ext i l₀ hi).out b hx).2.1

/-- A slice that a callee has made, and that nobody else holds, becomes the call's own. -/
theorem MRel.adopt (hM : MRel base w S m M) (l : Option Loc) (B : ABlk) (hl : ∀ l₁, l = some l₁ → ¬ base.Z l₁.g ∧ l₁.g < w.heap.size ∧ ¬ S l₁.g ∧ ∀ (i : Nat) (l₂ : Loc), m[i]? = some (some l₂) → l₂.g ≠ l₁.g)
    (hB : BRel w S (m ++ [l]) l B) (hx : ∀ l₁, l = some l₁ → l₁.ext = [] ∧ ∀ (i : Nat) (l₂ : Loc), m[i]? = some (some l₂) → l₁.g ∉ l₂.ext) : Trans base w S m w S (m ++ [l]) none ∧ MRel base w S (m ++ [l]) (snocM M B) := by
  have hlm : ∀ (i : Nat) (l' : Option Loc), m[i]? = some l' → (m ++ [l])[i]? = some l' := fun i l' hi => by
    rw [List.getElem?_append_left (by exact (List.getElem?_eq_some_iff.1 hi).1)]; exact hi
  have hsplit : ∀ (i : Nat) (l' : Option Loc), (m ++ [l])[i]? = some l' → m[i]? = some l' ∨ (i = m.length ∧ l' = l) := fun i l' hi => by
    by_cases hlt : i < m.length
    · rw [List.getElem?_append_left hlt] at hi; exact .inl hi
    · have : i = m.length := by
        have := (List.getElem?_eq_some_iff.1 hi).1
        simp at this; omega
      subst this
      simp at hi
      exact .inr ⟨rfl, hi.symm⟩
  refine ⟨⟨Prot.refl _ _, fun _ h => h, fun _ h => .inl h, fun _ _ => rfl, lmEq fun i l' _ hi => hlm i l' hi⟩, ?_⟩
  refine ⟨by simp [lenM_snoc, hM.len], hM.sb, ?_, ?_, ?_, hM.base_le, hM.gok, hM.pin_snoc _ _, fun i l' hi => ?_⟩
  rotate_right
  · rcases hsplit i _ hi with hi' | ⟨rfl, e⟩
    · have q := hM.ext i l' hi'
      refine ⟨q.nd, q.out, fun b hb j l'' hj => ?_⟩
      rcases hsplit j _ hj with hj' | ⟨rfl, e⟩
      · exact q.far b hb j l'' hj'
      · obtain ⟨x1, x2⟩ := hx l'' e.symm
        exact ⟨fun e => x2 i l' hi' (e ▸ hb), fun _ => by rw [x1]; exact fun h => by cases h⟩
    · exact .nil (hx l' e.symm).1
  · intro i l' hi
    rcases hsplit i l' hi with hi' | ⟨rfl, rfl⟩
    · have hlt : i < m.length := (List.getElem?_eq_some_iff.1 hi').1
      rw [blk_snoc, if_neg (by rw [← hM.len]; omega)]
      have hb := hM.bk i l' hi'
      have hrel : ∀ v a, Rel w S m v a → Rel w S (m ++ [l]) v a := fun v a hr => hr.mono (fun _ h => h) (fun _ _ => rfl) _ hlm
      cases l' with
      | none => revert hb; cases blk M i <;> exact fun h => h
      | some l₀ =>
        revert hb
        cases blk M i with
        | dead => exact fun h => h
        | cells e cs => rintro ⟨vs, h1, h2, h3, h4⟩; exact ⟨vs, h1, h2, h3, fun i hi => hrel _ _ (h4 i hi)⟩
        | rows e sz n c => exact fun h => h
        | trows e ty x => exact fun h => h
        | fro e ty x => exact fun h => h
        | arr e ty x => exact fun h => h
        | map ty uy x => exact fun h => h
        | siter s pos => exact fun h => h
        | fam x y => exact fun h => h
    · rw [blk_snoc, if_pos hM.len]; exact hB
  · intro i l' hi
    rcases hsplit i (some l') hi with hi' | ⟨rfl, e⟩
    · exact hM.lt i l' hi'
    · have := hl l' e.symm; exact ⟨this.1, this.2.1, this.2.2.1⟩
  · intro i j l1 l2 hi hj e
    rcases hsplit i _ hi with hi' | ⟨rfl, e1⟩ <;> rcases hsplit j _ hj with hj' | ⟨rfl, e2⟩
    · exact hM.inj i j _ _ hi' hj' e
    · exact absurd e ((hl l2 e2.symm).2.2.2 i l1 hi')
    · exact absurd e.symm ((hl l1 e1.symm).2.2.2 j l2 hj')
    · rfl

theorem flat_cells {u : Ty} (h : flatT u = true) (x : El u) {j : Nat} (hj : j < szT u) : flat (nth (cellsT u x) j) = true := by
  induction u generalizing j with
  | list e => cases h
  | smap => cases h
  | pair a b iha ihb =>
    simp only [flatT] at h
    split at h
    · rename_i ha
      simp only [cellsT, nth_cat, lenA_cellsT]
      simp only [szT] at hj
      split
      · exact iha ha _ (by assumption)
      · exact ihb h _ (by omega)
    · cases h
  | _ =>
    have : j = 0 := by simp only [szT] at hj; omega
    subst this; rfl

theorem aCallP_wp {call : Oracle} (hcall : Sound P call) (hM : MRel base w S m M) {o : Oper} {a : Act} {K : Act → World → Prop} {Q : Exit → Act → World → Prop} {id : Nat} {bargs : List AV} {oo : Bool} {vs : Array Value}
    (hexec : execOp a.eval o = callFunc id vs) (hall : RelL w (AllS base S w) [] vs bargs) (houtr : oo = true → RelL w S [] vs bargs)
    (hk : AllT (aCallP std call M id bargs oo).ks) (hK : Then base w S m (aCallP std call M id bargs oo) a o.dst K) : o.wp P a w K Q := by
  unfold aCallP at hk hK
  -- how the call goes on
  have go : ∀ {Sc : Nat → Prop} {r : CR}, (∀ b, Sc b → b < w.heap.size) → RelL w Sc [] vs (bargs) → ACalls P id (bargs) r →
      (∀ v w', Below w.heap.size w w' → CRes w w' Sc v r → K (a.put o.dst v) w') → o.wp P a w K Q := fun {Sc r} hSc hr hc hk' => by
    unfold Oper.wp
    rw [hexec]
    rcases hc w Sc vs hM.gok hSc hr with ⟨hrun, hC⟩ | ⟨v, w', hrun, hp⟩
    · rw [hrun]
      refine Calls.mono hC fun e w' ⟨v, he, hb, hres⟩ => ?_
      subst he
      exact hk' v w' hb hres
    · rw [hrun]
      obtain ⟨v', hv, hb, hres⟩ := hp
      injection hv with hv; subst hv
      exact hk' v w' hb hres
  split at hk
  · rename_i v ks hc
    split at hk
    · refine go hM.sb (houtr rfl) (hcall.pu _ _ _ _ hc hk) fun u w' hb hres => ?_
      obtain ⟨ht, hm⟩ := hM.called (S' := NewS w w' S) hb (fun b h => .inl h) (fun b h => by rcases h with h | h; exact Nat.lt_of_lt_of_le (hM.sb b h) hb.size; exact h.2) (fun b h hlt => by rcases h with h | h; exact h; omega)
      simp only [hc] at hK
      exact hK u w' _ _ ht hm (Rel.weak hres)
    · split at hk
      case h_2 => exact (not_bad hk).elim
      rename_i hfl
      refine go (fun b h => h.2) hall (hcall.pu _ _ _ _ hc hk) fun u w' hb hres => ?_
      obtain ⟨ht, hm⟩ := hM.called (S' := S) hb (fun b h => h) (fun b h => Nat.lt_of_lt_of_le (hM.sb b h) hb.size) (fun b h _ => h)
      simp only [hc, hfl] at hK
      exact hK u w' _ _ ht hm (Rel.weak (Rel.flatR hres hfl S))
  · rename_i e sz n c ks hc
    split at hk
    case h_2 => exact (not_bad hk).elim
    refine go hM.sb (houtr rfl) (hcall.pu _ _ _ _ hc hk) fun u w' hb hres => ?_
    simp only [hc] at hK
    rcases hres with ⟨⟨a0, rfl⟩, rfl⟩ | ⟨l, vs', rfl, g1, g2, rfl, rfl, g3, g4, g5, g6, g7⟩
    · obtain ⟨ht, hm⟩ := hM.called (S' := S) hb (fun b h => h) (fun b h => Nat.lt_of_lt_of_le (hM.sb b h) hb.size) (fun b h _ => h)
      obtain ⟨ht', hm'⟩ := hm.adopt none (.rows e sz 0 c) (fun _ h => by simp at h) rfl (fun _ h => by cases h)
      exact hK _ w' _ _ ⟨ht.below.trans ht'.below, ht'.sub, ht.up, ht.st, lmCat ht.lm ht'.lm⟩ hm' (.own0 _ _ _ (by rw [← hM.len]; simp))
    · obtain ⟨ht, hm⟩ := hM.called (S' := fun b => NewS w w' S b ∧ b ≠ l.g) hb (fun b h => ⟨.inl h, fun e => by have := hM.sb b h; omega⟩) (fun b h => by rcases h.1 with h | h; exact Nat.lt_of_lt_of_le (hM.sb b h) hb.size; exact h.2) (fun b h hlt => by rcases h.1 with h | h; exact h; omega)
      obtain ⟨ht', hm'⟩ := hm.adopt (some { l with ext := [] }) (.rows e l.sz l.n c) (fun l₁ h => by
        injection h with h; subst h
        exact ⟨hM.new g1, g2, fun h => h.2 rfl, fun i l₂ hi e => by have := (hM.lt i l₂ hi).2.1; have e : l₂.g = l.g := e; omega⟩)
        ⟨rfl, rfl, g3, g4, vs', g5, g6, g7⟩ (fun l₁ h => by injection h with h; subst h; exact ⟨rfl, fun i l₂ hi hq => by have := ((hM.ext i l₂ hi).out _ hq).2.1; have h1 : w.heap.size ≤ l.g := g1; have : l.g < w.heap.size := this; omega⟩)
      exact hK _ w' _ _ ⟨ht.below.trans ht'.below, fun b h => ht.sub b h, ht.up, ht.st, lmCat ht.lm ht'.lm⟩ hm' (.own _ _ _ { l with ext := [] } (by rw [← hM.len]; simp) (Nat.le_refl _) ⟨g3, g4⟩)
  · rename_i e u x ks hc
    split at hk
    case h_2 => exact (not_bad hk).elim
    rename_i hor
    simp only [hc, hor] at hK
    have main : ∀ {Sc : Nat → Prop}, (∀ b, Sc b → b < w.heap.size) → RelL w Sc [] vs bargs → (∀ b, S b → Sc b) →
        (∀ {w' : World} {l : Loc} {v : Value} {i j : Nat}, i < x.length → j < szT u → Rel w' (fun b => NewS w w' Sc b ∧ b ≠ l.g) [] v (vw u x i j) → Rel w' (fun b => NewS w w' S b ∧ b ≠ l.g) [] v (vw u x i j)) → o.wp P a w K Q := by
      intro Sc hsc hrel hsub hflat
      refine go hsc hrel (hcall.pu _ _ _ _ hc hk) fun u' w' hb hres => ?_
      rcases hres with ⟨⟨a0, rfl⟩, hx0⟩ | ⟨l, vs', rfl, g1, g2, gsz, gn, g3, g4, g5, g6, g7⟩
      · obtain ⟨ht, hm⟩ := hM.called (S' := S) hb (fun b h => h) (fun b h => Nat.lt_of_lt_of_le (hM.sb b h) hb.size) (fun b h _ => h)
        obtain ⟨ht', hm'⟩ := hm.adopt none (.trows e u x) (fun _ h => by simp at h) hx0 (fun _ h => by cases h)
        exact hK _ w' _ _ ⟨ht.below.trans ht'.below, ht'.sub, ht.up, ht.st, lmCat ht.lm ht'.lm⟩ hm' (.ownT0 _ _ _ (by rw [← hM.len]; simp))
      · obtain ⟨ht, hm⟩ := hM.called (S' := fun b => NewS w w' S b ∧ b ≠ l.g) hb (fun b h => ⟨.inl h, fun e => by have := hM.sb b h; omega⟩) (fun b h => by rcases h.1 with h | h; exact Nat.lt_of_lt_of_le (hM.sb b h) hb.size; exact h.2) (fun b h hlt => by rcases h.1 with h | h; exact h; omega)
        obtain ⟨ht', hm'⟩ := hm.adopt (some { l with ext := [] }) (.trows e u x) (fun l₁ h => by
          injection h with h; subst h
          exact ⟨hM.new g1, g2, fun h => h.2 rfl, fun i l₂ hi e => by have := (hM.lt i l₂ hi).2.1; have e : l₂.g = l.g := e; omega⟩)
          ⟨gsz, gn, g3, g4, vs', g5, g6, fun i hi j hj => ⟨(g7 i hi j hj).1, hflat hi hj (g7 i hi j hj).2⟩⟩ (fun l₁ h => by injection h with h; subst h; exact ⟨rfl, fun i l₂ hi hq => by have := ((hM.ext i l₂ hi).out _ hq).2.1; have h1 : w.heap.size ≤ l.g := g1; have : l.g < w.heap.size := this; omega⟩)
        exact hK _ w' _ _ ⟨ht.below.trans ht'.below, fun b h => ht.sub b h, ht.up, ht.st, lmCat ht.lm ht'.lm⟩ hm' (gn ▸ (show Rel _ _ _ (.slice (some ⟨l.g, 0, none⟩) l.n l.cap) _ from .ownT _ _ { l with ext := [] } (by rw [← hM.len]; simp) ⟨(show l.n ≤ l.cap from gn ▸ g3), g4⟩))
    cases oo with
    | true => exact main hM.sb (houtr rfl) (fun _ h => h) fun _ _ h => h
    | false => exact main (fun b h => h.2) hall (fun b h => ⟨.inl h, hM.sb b h⟩) fun _ hj h => h.flat (flat_cells hor _ hj) _ _
  · rename_i e u x ks hc
    split at hk
    case h_2 => exact (not_bad hk).elim
    rename_i hor
    simp only [hc, hor] at hK
    refine go (fun b h => h.2) hall (hcall.pu _ _ _ _ hc hk) fun u' w' hb hres => ?_
    rcases hres with ⟨⟨a0, rfl⟩, hx0⟩ | ⟨l, vs', rfl, g1, g2, gsz, gn, g3, g4, g5, g6, g7⟩
    · obtain ⟨ht, hm⟩ := hM.called (S' := S) hb (fun b h => h) (fun b h => Nat.lt_of_lt_of_le (hM.sb b h) hb.size) (fun b h _ => h)
      exact hK _ w' _ _ ht hm (Le.tsl (fun h => h) rfl hx0.symm (fun _ _ _ _ => Le.refl _) _ _ _ _ (.slice0 _ _ _ _ _ _ (Nat.zero_le _) (fun h => by simp at h)))
    · obtain ⟨ht, hm⟩ := hM.called (S' := fun b => S b ∨ b = l.g) hb (fun b h => .inl h) (fun b h => by rcases h with h | h; exact Nat.lt_of_lt_of_le (hM.sb b h) hb.size; exact h ▸ g2) (fun b h hlt => by rcases h with h | h; exact h; omega)
      refine hK _ w' _ _ ht hm (Le.tsl (fun h => h) rfl rfl (fun _ _ _ _ => Le.refl _) _ _ _ _ ?_)
      refine .slice _ _ _ _ _ _ _ _ (fun i j => vs'.getD (i * szT u + j) Go.undef) (.inr rfl) (by omega) g4 (fun h => by simp at h) (fun i hi j hj => ⟨?_, (g7 i hi j hj).1⟩) (fun i hi j hj => ((g7 i hi j hj).2).flat (flat_cells hor _ hj) _ _)
      rw [Nat.zero_add]
      refine blk_cell g5 ?_
      have := eref_lt (off := j) (k := 1) (show i < x.length by omega) (show j + 1 ≤ szT u by omega)
      have h8 : x.length * szT u ≤ l.cap * szT u := Nat.mul_le_mul_right _ g3
      omega
  · exact (not_bad hk).elim

theorem aCall_wp {call : Oracle} (hcall : Sound P call) (hM : MRel base w S m M) {o : Oper} {a : Act} {K : Act → World → Prop} {Q : Exit → Act → World → Prop} {f : AV} {args : List AV} {vf : Value} {vargs : Array Value}
    (hf : Rel w S m vf f) (hargs : vargs.size = lenA args ∧ ∀ i, i < lenA args → Rel w S m (vargs.getD i Go.undef) (nth args i))
    (he : execOp a.eval o = (do let d ← Deferred.ofValue vf vargs; invoke d.target d.args)) (hk : AllT (aCall std call M f args).ks) (hK : Then base w S m (aCall std call M f args) a o.dst K) : o.wp P a w K Q := by
  unfold aCall at hk hK
  split at hk
  case h_3 => exact (not_bad hk).elim
  case h_2 =>
    rename_i id first cap
    cases hf with
    | clo _ _ fs cs _ _ hl0 hl h0 h =>
    let vs : Array Value := fs ++ vargs ++ cs
    have hexec : execOp a.eval o = callFunc id vs := by rw [he]; rfl
    have hlenb : lenA (borrows M args) = lenA args := lenA_mapA _ _
    have hvs : vs.size = lenA (catA first (catA (borrows M args) cap)) := by simp [vs, lenA_cat, hl, hl0, hargs.1, hlenb]
    have key : ∀ {Sc : Nat → Prop}, (∀ i, i < lenA first → Rel w Sc [] (fs.getD i Go.undef) (nth first i)) → (∀ i, i < lenA args → Rel w Sc [] (vargs.getD i Go.undef) (nth (borrows M args) i)) → (∀ i, i < lenA cap → Rel w Sc [] (cs.getD i Go.undef) (nth cap i)) → RelL w Sc [] vs (catA first (catA (borrows M args) cap)) := fun {Sc} r0 r1 r2 => by
      refine ⟨hvs, fun i hi => ?_⟩
      rw [lenA_cat, lenA_cat, hlenb] at hi
      rw [nth_cat, nth_cat, hlenb]
      simp only [vs, Array.getD_eq_getD_getElem?]
      by_cases c1 : i < lenA first
      · rw [if_pos c1, Array.getElem?_append_left (by simp; omega), Array.getElem?_append_left (by omega)]
        simpa using r0 i c1
      · rw [if_neg c1]
        by_cases c2 : i - lenA first < lenA args
        · rw [if_pos c2, Array.getElem?_append_left (by simp; omega), Array.getElem?_append_right (by omega), hl0]
          simpa using r1 _ c2
        · rw [if_neg c2, Array.getElem?_append_right (by simp; omega)]
          rw [show i - (fs ++ vargs).size = i - lenA first - lenA args by simp; omega]
          simpa using r2 (i - lenA first - lenA args) (by omega)
    refine aCallP_wp hcall hM hexec (key (fun i hi => (h0 i hi).all hM.sb) (fun i hi => ?_) (fun i hi => (h i hi).all hM.sb)) (fun ho => key h0 (fun i hi => ?_) h) hk hK
    · rw [show nth (borrows M _) i = borrow M (nth _ i) from nth_mapA _ _ _ hi]
      exact borrow_ok hM (hargs.2 i hi)
    · rw [show nth (borrows M _) i = borrow M (nth _ i) from nth_mapA _ _ _ hi]
      exact borrow_out (hargs.2 i hi) (allOut_nth ho hi)
  rename_i id first cap
  cases hf with
  | fn _ _ fs cs _ _ hl hl' h1 h1' h h' =>
  -- the arguments
  let vs : Array Value := fs ++ vargs ++ cs
  have hvs : vs.size = lenA (catA first (catA args cap)) := by simp [vs, lenA_cat, hl, hl', hargs.1]
  have hrel : ∀ i, i < lenA (catA first (catA args cap)) → Rel w S m (vs.getD i Go.undef) (nth (catA first (catA args cap)) i) := fun i hi => by
    rw [lenA_cat, lenA_cat] at hi
    rw [nth_cat, nth_cat]
    simp only [vs, Array.getD_eq_getD_getElem?]
    by_cases c1 : i < lenA first
    · rw [if_pos c1, Array.getElem?_append_left (by simp; omega), Array.getElem?_append_left (by omega)]
      simpa using h i c1
    · rw [if_neg c1]
      by_cases c2 : i - lenA first < lenA args
      · rw [if_pos c2, Array.getElem?_append_left (by simp; omega), Array.getElem?_append_right (by omega), hl]
        simpa using hargs.2 _ c2
      · rw [if_neg c2, Array.getElem?_append_right (by simp; omega)]
        rw [show i - (fs ++ vargs).size = i - lenA first - lenA args by simp; omega]
        simpa using h' (i - lenA first - lenA args) (by omega)
  have hexec : execOp a.eval o = callFunc id vs := by rw [he]; rfl
  have hrelL : RelL w S m vs (catA first (catA args cap)) := ⟨hvs, hrel⟩
  split at hk
  · rename_i r hme
    have hc := hcall.me _ _ _ _ hme hk
    simp only [hme] at hK
    unfold Oper.wp
    rw [hexec]
    rcases hc base w S m vs hM hrelL with ⟨hrun, hC⟩ | ⟨v, w', hrun, hp⟩
    · rw [hrun]
      refine Calls.mono hC fun e w' ⟨v, S', m', he, ht, hm, hr⟩ => ?_
      subst he
      exact hK v w' S' m' ht hm hr
    · rw [hrun]
      obtain ⟨v', S', m', hv, ht, hm, hr⟩ := hp
      injection hv with hv; subst hv
      exact hK v w' S' m' ht hm hr
  rename_i hme
  simp only [hme] at hK
  have hlenb : lenA (borrows M (catA first (catA args cap))) = lenA (catA first (catA args cap)) := lenA_mapA _ _
  have hall : RelL w (AllS base S w) [] vs (borrows M (catA first (catA args cap))) := ⟨hvs.trans hlenb.symm, fun i hi => by
    rw [hlenb] at hi
    rw [show nth (borrows M _) i = borrow M (nth _ i) from nth_mapA _ _ _ hi]
    exact borrow_ok hM (hrel i hi)⟩
  have houtr : allOut (catA first (catA args cap)) = true → RelL w S [] vs (borrows M (catA first (catA args cap))) := fun ho => ⟨hvs.trans hlenb.symm, fun i hi => by
    rw [hlenb] at hi
    rw [show nth (borrows M _) i = borrow M (nth _ i) from nth_mapA _ _ _ hi]
    exact borrow_out (hrel i hi) (allOut_nth ho hi)⟩
  exact aCallP_wp hcall hM hexec hall houtr hk hK

theorem const_rel (ts : List AV) (v : Value) : Rel w S m v (opnd ts (.const v)) := by
  cases v with
  | agg cs =>
    simp only [opnd]
    split
    · rename_i hc
      have hr : ∀ i, i < lenA (ofVals cs.toList) → Rel w S m (cs.getD i Go.undef) (nth (ofVals cs.toList) i) := fun i hi => rel_ofVals _ _ (by rw [lenA_ofVals] at hi; simpa using hi)
      exact .agg _ _ _ (by rw [lenA_ofVals]; simp) (fun i hi => (hr i hi).one (allCells_nth hc hi)) hr
    · exact .undef _ _
  | _ => exact rel_ofVal _

theorem opnd_rel' {a : Act} {ts : List AV} (x : Operand) (h : ∀ t, x = .tmp t → Rel w S m (a.tmps.getD t Go.undef) (nth ts t)) : Rel w S m (a.eval x) (opnd ts x) := by
  cases x with
  | tmp t => exact h t rfl
  | const v => exact const_rel ts v
  | global g => exact .undef _ _
  | func f => exact .fn _ _ _ _ _ _ rfl rfl (fun i hi => by simp [lenA] at hi) (fun i hi => by simp [lenA] at hi) (fun i hi => by simp [lenA] at hi) (fun i hi => by simp [lenA] at hi)

theorem opnds_len (ts : List AV) (l : List Operand) : lenA (opnds ts l) = l.length := by induction l with | nil => rfl | cons a l ih => simp [opnds, lenA, ih]
theorem opnds_nth (ts : List AV) (l : List Operand) (i : Nat) (hi : i < l.length) : nth (opnds ts l) i = opnd ts l[i] := by
  induction l generalizing i with
  | nil => simp at hi
  | cons a l ih => cases i with
    | zero => rfl
    | succ i => simpa [opnds, nth] using ih i (by simpa using hi)

theorem opnds_rel {a : Act} {ts : List AV} {l : Array Operand} (h : ∀ x ∈ l.toList, Rel w S m (a.eval x) (opnd ts x)) :
    (l.map a.eval).size = lenA (opnds ts l.toList) ∧ ∀ i, i < lenA (opnds ts l.toList) → Rel w S m ((l.map a.eval).getD i Go.undef) (nth (opnds ts l.toList) i) := by
  refine ⟨by rw [opnds_len]; simp, fun i hi => ?_⟩
  rw [opnds_len] at hi
  rw [opnds_nth _ _ _ hi]
  have hi' : i < l.size := by simpa using hi
  have e : (l.map a.eval).getD i Go.undef = a.eval l.toList[i] := by simp [hi']
  rw [e]
  exact h _ (List.getElem_mem _)

theorem aParts_len (ts : List AV) (l : List (Nat × Operand)) : (aParts ts l).length = l.length := by induction l with | nil => rfl | cons a l ih => obtain ⟨i, o⟩ := a; simp [aParts, ih]
theorem aParts_get (ts : List AV) (l : List (Nat × Operand)) (i : Nat) (hi : i < l.length) (hi' : i < (aParts ts l).length) : (aParts ts l)[i] = (l[i].1, opnd ts l[i].2) := by
  induction l generalizing i with
  | nil => simp at hi
  | cons a l ih =>
    obtain ⟨j, o⟩ := a
    cases i with
    | zero => rfl
    | succ i => simpa [aParts] using ih i (by simpa using hi) (by simpa [aParts] using hi')

theorem parts_rel {a : Act} {ts : List AV} {ps : Array (Nat × Operand)} (h : ∀ x ∈ ps.toList.map (·.2), Rel w S m (a.eval x) (opnd ts x)) :
    PRel w S m (ps.map fun (i, x) => (i, a.eval x)) (aParts ts ps.toList) := by
  refine ⟨by rw [aParts_len]; simp, fun j hj hj' => ?_⟩
  have hj2 : j < ps.toList.length := by rw [aParts_len] at hj; exact hj
  rw [aParts_get _ _ _ hj2 hj]
  have e : (ps.map fun (i, x) => (i, a.eval x)).toList[j] = (ps.toList[j].1, a.eval ps.toList[j].2) := by simp
  rw [e]
  exact ⟨rfl, h _ (List.mem_map.2 ⟨_, List.getElem_mem _, rfl⟩)⟩

theorem opt_rel {a : Act} {ts : List AV} (o : Option Operand) (h : ∀ x, o = some x → Rel w S m (a.eval x) (opnd ts x)) :
    (o.map a.eval = none ∧ optOpnd ts o = none) ∨ ∃ v b, o.map a.eval = some v ∧ optOpnd ts o = some b ∧ Rel w S m v b := by
  cases o with
  | none => exact .inl ⟨rfl, rfl⟩
  | some x => exact .inr ⟨_, _, rfl, rfl, h x rfl⟩

theorem builtin_wp (hT : TabOk P T) (hM : MRel base w S m M) {o : Oper} {a : Act} {K : Act → World → Prop} {Q : Exit → Act → World → Prop} {ts : List AV} (b : Builtin) (args : Array Operand) (ats : Array TypeId)
    (ho : o.op = .call ⟨.builtin b, args, ats⟩) (hops : ∀ x ∈ args.toList, Rel w S m (a.eval x) (opnd ts x)) (hk : AllT (aBuiltin std T M b ats.toList (opnds ts args.toList)).ks)
    (hK : Then base w S m (aBuiltin std T M b ats.toList (opnds ts args.toList)) a o.dst K) : o.wp P a w K Q := by
  obtain ⟨dst, op, type, pos, after, guard⟩ := o
  simp only at ho; subst ho
  have hexec : ∀ cs : Array Bool, True := fun _ => trivial
  unfold aBuiltin at hk hK
  generalize hg : opnds ts args.toList = as at hk hK
  split at hk
  · -- len
    rename_i x
    split at hk
    case h_2 => exact (not_bad hk).elim
    rename_i t hats
    have hargs : ∃ y, args = #[y] ∧ x = opnd ts y := by
      have hl := opnds_len ts args.toList
      rw [hg] at hl
      match args, hl, hg with
      | ⟨[y]⟩, _, hg => simp [opnds] at hg; exact ⟨y, rfl, hg.symm⟩
      | ⟨[]⟩, hl, _ => simp [lenA] at hl
      | ⟨_ :: _ :: _⟩, hl, _ => simp [lenA] at hl
    obtain ⟨y, rfl, rfl⟩ := hargs
    have hats' : ats = #[t] := by apply Array.ext'; simpa using hats
    subst hats'
    simp only [hats] at hK
    exact wp_of_res (x := Builtin.len_ #[t] type #[a.eval y]) (by simp [execOp, resolve, invoke, Go.builtin]) (aLen_ok hT hM t type (hops y (by simp)) hk) hK
  · -- cap
    rename_i x
    split at hk
    case h_2 => exact (not_bad hk).elim
    rename_i t hats
    have hargs : ∃ y, args = #[y] ∧ x = opnd ts y := by
      have hl := opnds_len ts args.toList
      rw [hg] at hl
      match args, hl, hg with
      | ⟨[y]⟩, _, hg => simp [opnds] at hg; exact ⟨y, rfl, hg.symm⟩
      | ⟨[]⟩, hl, _ => simp [lenA] at hl
      | ⟨_ :: _ :: _⟩, hl, _ => simp [lenA] at hl
    obtain ⟨y, rfl, rfl⟩ := hargs
    have hats' : ats = #[t] := by apply Array.ext'; simpa using hats
    subst hats'
    simp only [hats] at hK
    exact wp_of_res (x := Builtin.cap_ #[t] type #[a.eval y]) (by simp [execOp, resolve, invoke, Go.builtin]) (aCap_ok hT hM t type (hops y (by simp)) hk) hK
  · -- clear
    rename_i x
    split at hk
    case h_2 => exact (not_bad hk).elim
    rename_i t hats
    have hargs : ∃ y, args = #[y] ∧ x = opnd ts y := by
      have hl := opnds_len ts args.toList
      rw [hg] at hl
      match args, hl, hg with
      | ⟨[y]⟩, _, hg => simp [opnds] at hg; exact ⟨y, rfl, hg.symm⟩
      | ⟨[]⟩, hl, _ => simp [lenA] at hl
      | ⟨_ :: _ :: _⟩, hl, _ => simp [lenA] at hl
    obtain ⟨y, rfl, rfl⟩ := hargs
    have hats' : ats = #[t] := by apply Array.ext'; simpa using hats
    subst hats'
    simp only [hats] at hK
    exact wp_of_res (x := Builtin.clear_ #[t] type #[a.eval y]) (by simp [execOp, resolve, invoke, Go.builtin]) (aClear_ok hT hM t type (hops y (by simp)) hk) hK
  · -- delete
    rename_i d s
    have hargs : ∃ y z, args = #[y, z] ∧ d = opnd ts y ∧ s = opnd ts z := by
      have hl := opnds_len ts args.toList
      rw [hg] at hl
      match args, hl, hg with
      | ⟨[y, z]⟩, _, hg => simp [opnds] at hg; exact ⟨y, z, rfl, hg.1.symm, hg.2.symm⟩
      | ⟨[]⟩, hl, _ => simp [lenA] at hl
      | ⟨[_]⟩, hl, _ => simp [lenA] at hl
      | ⟨_ :: _ :: _ :: _⟩, hl, _ => simp [lenA] at hl
    obtain ⟨y, z, rfl, rfl, rfl⟩ := hargs
    split at hk
    case h_2 => exact (not_bad hk).elim
    rename_i t u hats
    have hats' : ats = #[t, u] := by apply Array.ext'; simpa using hats
    subst hats'
    simp only [hats] at hK
    exact wp_of_res (x := Builtin.delete_ #[t, u] type #[a.eval y, a.eval z]) (by simp [execOp, resolve, invoke, Go.builtin]) (aDel_ok hT hM t u type (hops y (by simp)) (hops z (by simp)) hk) hK
  · -- copy
    rename_i d s
    have hargs : ∃ y z, args = #[y, z] ∧ d = opnd ts y ∧ s = opnd ts z := by
      have hl := opnds_len ts args.toList
      rw [hg] at hl
      match args, hl, hg with
      | ⟨[y, z]⟩, _, hg => simp [opnds] at hg; exact ⟨y, z, rfl, hg.1.symm, hg.2.symm⟩
      | ⟨[]⟩, hl, _ => simp [lenA] at hl
      | ⟨[_]⟩, hl, _ => simp [lenA] at hl
      | ⟨_ :: _ :: _ :: _⟩, hl, _ => simp [lenA] at hl
    obtain ⟨y, z, rfl, rfl, rfl⟩ := hargs
    split at hk
    case h_2 => exact (not_bad hk).elim
    rename_i t u hats
    have hats' : ats = #[t, u] := by apply Array.ext'; simpa using hats
    subst hats'
    simp only [hats] at hK
    exact wp_of_res (x := Builtin.copy_ #[t, u] type #[a.eval y, a.eval z]) (by simp [execOp, resolve, invoke, Go.builtin]) (aCopy_ok hT hM t u type (hops y (by simp)) (hops z (by simp)) hk) hK
  · -- append
    rename_i s x
    have hargs : ∃ y z, args = #[y, z] ∧ s = opnd ts y ∧ x = opnd ts z := by
      have hl := opnds_len ts args.toList
      rw [hg] at hl
      match args, hl, hg with
      | ⟨[y, z]⟩, _, hg => simp [opnds] at hg; exact ⟨y, z, rfl, hg.1.symm, hg.2.symm⟩
      | ⟨[]⟩, hl, _ => simp [lenA] at hl
      | ⟨[_]⟩, hl, _ => simp [lenA] at hl
      | ⟨_ :: _ :: _ :: _⟩, hl, _ => simp [lenA] at hl
    obtain ⟨y, z, rfl, rfl, rfl⟩ := hargs
    split at hk
    · rename_i t hats
      have hats' : ats = #[t, t] := by
        match ats, hats with
        | ⟨[u, v]⟩, hats =>
          simp only [hdN2] at hats
          split at hats
          · rename_i huv
            have := Nat.eq_of_beq_eq_true huv; subst this
            injection hats with hats; subst hats; rfl
          · simp at hats
        | ⟨[]⟩, hats => simp [hdN2] at hats
        | ⟨[_]⟩, hats => simp [hdN2] at hats
        | ⟨_ :: _ :: _ :: _⟩, hats => simp [hdN2] at hats
      subst hats'
      simp only [hats] at hK
      exact wp_of_res (x := Builtin.append_ #[t, t] type #[a.eval y, a.eval z]) (by simp [execOp, resolve, invoke, Go.builtin]) (aAppend_ok hT hM t type (hops y (by simp)) (hops z (by simp)) hk) hK
    · rename_i hnone
      split at hk
      case h_2 => exact (not_bad hk).elim
      rename_i t u hats
      have hats' : ats = #[t, u] := by apply Array.ext'; simpa using hats
      subst hats'
      simp only [hnone, hats] at hK
      exact wp_of_res (x := Builtin.append_ #[t, u] type #[a.eval y, a.eval z]) (by simp [execOp, resolve, invoke, Go.builtin]) (aAppendU_ok hT hM t u type (hops y (by simp)) (hops z (by simp)) hk) hK
  · -- max
    rename_i k n l
    have hargs : ∃ y r, args.toList = y :: r ∧ .int k n = opnd ts y ∧ l = opnds ts r := by
      match args, hg with
      | ⟨y :: r⟩, hg => simp [opnds] at hg; exact ⟨y, r, rfl, hg.1.symm, hg.2.symm⟩
      | ⟨[]⟩, hg => simp [opnds] at hg
    obtain ⟨y, r, hr, h1, rfl⟩ := hargs
    have hy := hops y (by rw [hr]; simp)
    rw [← h1] at hy
    generalize hvy : a.eval y = vy at hy
    cases hy with
    | int _ _ _ hwf =>
    have hres := aMax_ok (P := P) hM (opnds ts r) (r.map a.eval) k n hwf (by have := opnds_len ts r; rw [lenA_eq] at this; simp [this]) (fun i hi hi' => by
      have hir : i < r.length := by simpa using hi'
      have := opnds_nth ts r i hir
      rw [nth_eq] at this
      simp only [List.getD, List.getElem?_eq_getElem hi, Option.getD_some] at this
      rw [this]
      simp only [List.getElem_map]
      exact hops _ (by rw [hr]; simp)) hk
    refine wp_of_res (x := Builtin.max_ ats type (args.map a.eval)) (by simp [execOp, resolve, invoke, Go.builtin]) ?_ hK
    obtain ⟨v, w', S', m', q1, q2⟩ := hres
    refine ⟨v, w', S', m', ?_, q2⟩
    have e : (args.map a.eval).toList = .int k n :: r.map a.eval := by simp [hr, hvy]
    simp only [Builtin.max_, e]
    exact q1
  · -- min
    rename_i k n l
    have hargs : ∃ y r, args.toList = y :: r ∧ .int k n = opnd ts y ∧ l = opnds ts r := by
      match args, hg with
      | ⟨y :: r⟩, hg => simp [opnds] at hg; exact ⟨y, r, rfl, hg.1.symm, hg.2.symm⟩
      | ⟨[]⟩, hg => simp [opnds] at hg
    obtain ⟨y, r, hr, h1, rfl⟩ := hargs
    have hy := hops y (by rw [hr]; simp)
    rw [← h1] at hy
    generalize hvy : a.eval y = vy at hy
    cases hy with
    | int _ _ _ hwf =>
    have hres := aMin_ok (P := P) hM (opnds ts r) (r.map a.eval) k n hwf (by have := opnds_len ts r; rw [lenA_eq] at this; simp [this]) (fun i hi hi' => by
      have hir : i < r.length := by simpa using hi'
      have := opnds_nth ts r i hir
      rw [nth_eq] at this
      simp only [List.getD, List.getElem?_eq_getElem hi, Option.getD_some] at this
      rw [this]
      simp only [List.getElem_map]
      exact hops _ (by rw [hr]; simp)) hk
    refine wp_of_res (x := Builtin.min_ ats type (args.map a.eval)) (by simp [execOp, resolve, invoke, Go.builtin]) ?_ hK
    obtain ⟨v, w', S', m', q1, q2⟩ := hres
    refine ⟨v, w', S', m', ?_, q2⟩
    have e : (args.map a.eval).toList = .int k n :: r.map a.eval := by simp [hr, hvy]
    simp only [Builtin.min_, e]
    exact q1
  · exact (not_bad hk).elim

end Go.Eng

namespace Go.Eng
open Go Go.RowKit

variable {P : Program} {T : Tab} {base : Env} {w : World} {S : Nat → Prop} {m : Locs} {M : Mem}

theorem litOp_ok (ts : List AV) (i : Operand) : ∀ k kk n, litOp i = some k → opnd ts i = .int kk n → n = (k : Int) := by
  intro k kk n h1 h2
  unfold litOp at h1
  split at h1
  · injection h1 with h1; subst h1
    simp only [opnd, ofVal] at h2
    split at h2
    · injection h2 with _ h2; exact h2.symm
    · simp at h2
  · simp at h1

set_option maxHeartbeats 2000000 in
theorem aOp_wp (hT : TabOk P T) {call : Oracle} (hcall : Sound P call) (hM : MRel base w S m M) {o : Oper} {a : Act} {K : Act → World → Prop} {Q : Exit → Act → World → Prop} {ts : List AV}
    (hops : ∀ x ∈ o.op.operands.toList, Rel w S m (a.eval x) (opnd ts x)) (hk : AllT (aOp std T call ts M o.op).ks) (hK : Then base w S m (aOp std T call ts M o.op) a o.dst K) : o.wp P a w K Q := by
  obtain ⟨dst, op, type, pos, after, guard⟩ := o
  simp only at hops hk hK
  cases op with
  | move x => exact wp_of_res (x := pure (a.eval x)) rfl (.val hM rfl (hops x (by simp [Op.operands]))) hK
  | assign x => exact wp_of_res (x := pure (a.eval x)) rfl (.val hM rfl (hops x (by simp [Op.operands]))) hK
  | alloc t => exact wp_of_res (x := Instr.alloc t true (.tuple #[])) rfl (aAlloc_ok hT hM t hk) hK
  | box t x => exact wp_of_res (x := Instr.box t (a.eval x)) rfl (aBox_ok (T := T) hM t (hops x (by simp [Op.operands])) hk) hK
  | build t ps => exact wp_of_res (x := Instr.build t (ps.map fun (i, x) => (i, a.eval x))) rfl (aBuild_ok hT hM t (parts_rel (fun x hx => hops x (by simpa [Op.operands] using hx))) hk) hK
  | buildSlice t n ps => exact wp_of_res (x := Instr.buildSlice t n (ps.map fun (i, x) => (i, a.eval x))) rfl (aBuildSlice_ok hT hM t n (parts_rel (fun x hx => hops x (by simpa [Op.operands] using hx))) hk) hK
  | load t x => exact wp_of_res (x := Instr.loadAt t (a.eval x)) rfl (aLoad_ok hT hM t (hops x (by simp [Op.operands])) hk) hK
  | store t x y => exact wp_of_resU (x := Instr.storeAt t (a.eval x) (a.eval y)) rfl (aStore_ok hT hM t (hops x (by simp [Op.operands])) (hops y (by simp [Op.operands])) hk) hK
  | binOp op t x y yt => exact wp_of_res (x := (do eqGuard op t x y (a.eval x) (a.eval y); binOp op t (a.eval x) (a.eval y))) rfl (aBin_ok hT hM op t x y (hops x (by simp [Op.operands])) (hops y (by simp [Op.operands])) hk) hK
  | unOp op t x => exact wp_of_res (x := Op.unary op (a.eval x)) rfl (aUn_ok hM op (hops x (by simp [Op.operands])) hk) hK
  | convert s d x => exact wp_of_res (x := convert s d (a.eval x)) rfl (aConvB_ok hT hM s d (hops x (by simp [Op.operands])) hk) hK
  | makeFunc f as cs =>
    simp only [aOp] at hk hK
    obtain ⟨l1, r1⟩ := opnds_rel (l := as) (fun x hx => hops x (by simp only [Op.operands, Array.toList_append, List.mem_append]; exact .inl hx))
    obtain ⟨l2, r2⟩ := opnds_rel (l := cs) (fun x hx => hops x (by simp only [Op.operands, Array.toList_append, List.mem_append]; exact .inr hx))
    split at hk
    case h_2 =>
      rename_i hne
      split at hk
      case h_2 => exact (not_bad hk).elim
      rename_i id h1 h2
      have hK : Then base w S m (val M (.clo id (opnds ts as.toList) (opnds ts cs.toList))) a dst K := by
        revert hK
        split
        · rename_i e1 e2; exact (hne e1 e2).elim
        · simp only [h1, h2]; exact fun h => h
      exact wp_of_res (x := Instr.makeFunc (.func id) (as.map a.eval) (cs.map a.eval)) rfl (.val hM rfl (.clo _ _ _ _ _ _ l1 l2 (fun i hi => (r1 i hi).plainV (allPlain_nth h1 hi) _) (fun i hi => (r2 i hi).plainV (allPlain_nth h2 hi) _))) hK
    rename_i h1 h2
    simp only [h1, h2] at hK
    exact wp_of_res (x := Instr.makeFunc f (as.map a.eval) (cs.map a.eval)) rfl (.val hM rfl (.fn _ _ _ _ _ _ l1 l2 (fun i hi => (r1 i hi).one (allCells_nth h1 hi)) (fun i hi => (r2 i hi).one (allCells_nth h2 hi)) r1 r2)) hK
  | makeSlice t l c => exact wp_of_res (x := Instr.makeSlice t (a.eval l) (a.eval c)) rfl (aMakeSlice_ok hT hM t (hops l (by simp [Op.operands])) (hops c (by simp [Op.operands])) hk) hK
  | slice t x lo hi mx =>
    cases mx with
    | some mx =>
      cases lo with
      | some lo => exact (not_bad hk).elim
      | none => cases hi with
        | none => exact (not_bad hk).elim
        | some hi =>
          exact wp_of_res (x := Instr.sliceAt t (a.eval x) none (some (a.eval hi)) (some (a.eval mx))) rfl (aSlice3g_ok hT hM t hi mx (hops x (by simp [Op.operands])) (hops hi (by simp [Op.operands])) (hops mx (by simp [Op.operands]))
            (fun k n e => by subst e; rfl) (fun k n e => by subst e; rfl) (fun i e1 e2 => by subst e1 e2; rfl) hk) hK
    | none => exact wp_of_res (x := Instr.sliceAt t (a.eval x) (lo.map a.eval) (hi.map a.eval) none) rfl (aSlice_ok hT hM t (hops x (by simp [Op.operands])) (opt_rel lo (fun x hx => hops x (by simp [Op.operands, hx]))) (opt_rel hi (fun x hx => hops x (by simp [Op.operands, hx]))) hk) hK
  | fieldAddr t x f => exact wp_of_res (x := Instr.fieldAt t (a.eval x) f) rfl (aFieldAddr_ok hT hM t f (hops x (by simp [Op.operands])) hk) hK
  | field t x f => exact wp_of_res (x := Instr.field t (a.eval x) f) rfl (aField_ok hT hM t f (hops x (by simp [Op.operands])) hk) hK
  | indexAddr t x i => exact wp_of_res (x := Instr.indexAt t (a.eval x) (a.eval i)) rfl (aIndexAddr_ok hT hM t (litOp_ok ts i) (hops x (by simp [Op.operands])) (hops i (by simp [Op.operands])) hk) hK
  | index t x i => exact wp_of_res (x := Instr.index t (a.eval x) (a.eval i)) rfl (aIndex_ok hT hM t (litOp_ok ts i) (hops x (by simp [Op.operands])) (hops i (by simp [Op.operands])) hk) hK
  | makeMap t r =>
    cases r with
    | none => exact wp_of_res (x := Instr.makeMap t none) rfl (aMakeMp_ok hT hM t hk) hK
    | some r => exact (not_bad hk).elim
  | lookup t x k ok => exact wp_of_res (x := Instr.lookup t (a.eval x) (a.eval k) ok) rfl (aLook_ok hT hM t ok (hops x (by simp [Op.operands])) (hops k (by simp [Op.operands])) hk) hK
  | mapUpdate t x k v => exact wp_of_resU (x := Instr.mapUpdate t (a.eval x) (a.eval k) (a.eval v)) rfl (aMapSet_ok hT hM t (hops x (by simp [Op.operands])) (hops k (by simp [Op.operands])) (hops v (by simp [Op.operands])) hk) hK
  | mapEntry t x k => exact wp_of_res (x := Instr.mapEntry t (a.eval x) (a.eval k)) rfl (aMapEntry_ok hT hM t (hops x (by simp [Op.operands])) (hops k (by simp [Op.operands])) hk) hK
  | entryStore t x s v => exact wp_of_resU (x := Instr.entryStore t (a.eval x) (a.eval s) (a.eval v)) rfl (aEntryStore_ok hT hM t (hops x (by simp [Op.operands])) (hops s (by simp [Op.operands])) (hops v (by simp [Op.operands])) hk) hK
  | range t x => exact wp_of_res (x := Instr.range t (a.eval x)) rfl (aRange_ok hT hM t (hops x (by simp [Op.operands])) hk) hK
  | next x s => exact wp_of_res (x := Instr.next (a.eval x) s type) rfl (aNext_ok hM type s (hops x (by simp [Op.operands])) hk) hK
  | extract x i => exact wp_of_res (x := Instr.extract (a.eval x) i) rfl (aExtract_ok hM i (hops x (by simp [Op.operands])) hk) hK
  | nilCheck x =>
    have hx := hops x (by simp [Op.operands])
    change AllT (aNil M (opnd ts x)).ks at hk
    change Then base w S m (aNil M (opnd ts x)) _ _ K at hK
    generalize opnd ts x = av at hx hk hK
    generalize hv : a.eval x = v at hx
    cases av with
    | ref b o => cases hx with | ref _ _ _ l h => exact wp_of_res (x := pure (.pointer (some ⟨l.g, o, none⟩))) (by simp only [execOp, hv]; rfl) (.val hM rfl (.ref _ _ _ _ h)) hK
    | eref b i o => cases hx with | eref _ _ _ _ l h hr => exact wp_of_res (x := pure (.pointer (some ⟨l.g, i * l.sz + o, none⟩))) (by simp only [execOp, hv]; rfl) (.val hM rfl (.eref _ _ _ _ _ h hr)) hK
    | cptr n c => cases hx with | cptr _ b o _ _ f hs hc h => exact wp_of_res (x := pure (.pointer (some ⟨b, o, none⟩))) (by simp only [execOp, hv]; rfl) (.val hM rfl (.cptr _ _ _ _ _ _ hs hc h)) hK
    | _ => exact (not_bad hk).elim
  | call c =>
    obtain ⟨callee, args, ats⟩ := c
    cases callee with
    | value f =>
      exact aCall_wp hcall hM (hops f (by simp [Op.operands, Call.operands])) (opnds_rel (fun x hx => hops x (by simp [Op.operands, Call.operands]; exact .inr (by simpa using hx)))) (by simp [execOp, resolve]) hk hK
    | invoke r s => exact (not_bad hk).elim
    | builtin b => exact builtin_wp hT hM b args ats rfl (fun x hx => hops x (by simp [Op.operands, Call.operands]; simpa using hx)) hk hK
  | _ => exact (not_bad hk).elim

end Go.Eng
