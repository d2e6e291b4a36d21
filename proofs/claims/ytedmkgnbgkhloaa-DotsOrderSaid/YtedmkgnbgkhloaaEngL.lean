/- A region in the order of its text. -/
import Derived.Test.YtedmkgnbgkhloaaEngK
namespace Go.Eng
open Go Go.RowKit

variable {P : Program} {T : Tab} {base : Env} {w : World} {S : Nat → Prop} {m : Locs} {M : Mem}

def holds (a : Act) (C : Chain) : Prop := ∀ s b, (s, b) ∈ C → a.tmps.getD s Go.undef = .bool b

structure FRel (w : World) (S : Nat → Prop) (m : Locs) (a : Act) (s : St) : Prop where
  size : a.tmps.size = lenA s.ts
  defers : a.defers = []
  rel : ∀ t, holds a (tagOf s.tg t) → Rel w S m (a.tmps.getD t Go.undef) (nth s.ts t)
  skip : ∀ t, holds a (tagOf s.tg t) ∨ a.tmps.getD t Go.undef = Go.undef

theorem catC_eq (k l : Chain) : catC k l = k ++ l := by induction k with | nil => rfl | cons a k ih => simp [catC, ih]

theorem isPre_sub : ∀ (k l : Chain), isPre k l = true → ∀ x, x ∈ k → x ∈ l := by
  intro k
  induction k with
  | nil => intro l _ x hx; simp at hx
  | cons a k ih =>
    obtain ⟨a, b⟩ := a
    intro l h x hx
    cases l with
    | nil => simp [isPre] at h
    | cons c l =>
      obtain ⟨c, d⟩ := c
      simp only [isPre] at h
      split at h
      · rename_i h1 h2
        have h1 := Nat.eq_of_beq_eq_true h1
        have h2 : b = d := by simpa using h2
        subst h1 h2
        rcases List.mem_cons.1 hx with rfl | hx
        · simp
        · exact List.mem_cons_of_mem _ (ih l h x hx)
      · simp at h

theorem holds_pre {a : Act} {k l : Chain} (h : isPre k l = true) (hl : holds a l) : holds a k := fun s b hm => hl s b (isPre_sub k l h _ hm)

theorem useOk_mem {tg : Tags} {C : Chain} : ∀ {l : List Operand}, useOk tg C l = true → ∀ t, Operand.tmp t ∈ l → isPre (tagOf tg t) C = true := by
  intro l
  induction l with
  | nil => intro _ t h; simp at h
  | cons x l ih =>
    intro h t ht
    cases x with
    | tmp u =>
      simp only [useOk] at h
      split at h
      · rename_i h1
        rcases List.mem_cons.1 ht with e | ht
        · injection e with e; subst e; exact h1
        · exact ih h t ht
      · simp at h
    | _ =>
      simp only [useOk] at h
      rcases List.mem_cons.1 ht with e | ht
      · cases e
      · exact ih h t ht

theorem mentions_mem {s : Nat} : ∀ {C : Chain}, mentions s C = false → ∀ t b, (t, b) ∈ C → s ≠ t := by
  intro C
  induction C with
  | nil => intro _ t b h; simp at h
  | cons x C ih =>
    obtain ⟨u, c⟩ := x
    intro h t b ht e
    simp only [mentions] at h
    split at h
    · simp at h
    · rename_i h1
      rcases List.mem_cons.1 ht with e2 | ht
      · injection e2 with e2 e3; subst e2; subst e; simp at h1
      · exact ih h t b ht e

theorem mentioned_mem {s : Nat} : ∀ {tg : Tags}, mentioned s tg = false → ∀ t, mentions s (tagOf tg t) = false := by
  intro tg
  induction tg with
  | nil => intro _ t; rfl
  | cons x tg ih =>
    obtain ⟨u, C⟩ := x
    intro h t
    simp only [mentioned] at h
    split at h
    · simp at h
    · rename_i h1
      simp only [tagOf]
      split
      · exact h1
      · exact ih h t

theorem tagOf_set (tg : Tags) (d : Nat) (C : Chain) (t : Nat) : tagOf (setTag tg d C) t = if d = t then C else tagOf tg t := by
  unfold setTag
  split
  · rename_i h
    by_cases e : d = t
    · subst e; rw [if_pos rfl]; exact h
    · rw [if_neg e]
  · simp only [tagOf]
    by_cases e : d = t
    · subst e; rw [Nat.beq_refl, if_pos rfl]
    · rw [nbeq_ne e, if_neg e]

theorem put_getD (a : Act) (d : Nat) (v : Value) (t : Nat) : (a.put (some d) v).tmps.getD t Go.undef = if d = t ∧ d < a.tmps.size then v else a.tmps.getD t Go.undef := by
  simp only [Act.put, Array.getD_eq_getD_getElem?, Array.getElem?_setIfInBounds]
  by_cases e : d = t
  · subst e
    by_cases h : d < a.tmps.size <;> simp [h]
  · simp [e]

theorem put_size (a : Act) (d : Option Tmp) (v : Value) : (a.put d v).tmps.size = a.tmps.size := by cases d <;> simp [Act.put]
theorem put_def (a : Act) (d : Option Tmp) (v : Value) : (a.put d v).defers = a.defers := by cases d <;> rfl

/-- A chain that does not look at the slot that is laid. -/
theorem holds_put {a : Act} {d : Nat} {v : Value} {C : Chain} (h : mentions d C = false) : holds (a.put (some d) v) C ↔ holds a C := by
  constructor
  · intro hh s b hm
    have := hh s b hm
    rw [put_getD, if_neg (fun x => mentions_mem h s b hm x.1)] at this
    exact this
  · intro hh s b hm
    rw [put_getD, if_neg (fun x => mentions_mem h s b hm x.1)]
    exact hh s b hm

theorem nth_fx (inv : Option Nat) (ts : List AV) (t : Nat) : nth (match inv with | none => ts | some b => invals b ts) t = fx inv (nth ts t) := by
  cases inv with
  | none => rfl
  | some b => exact nth_invals b ts t

/-- A result is laid into the frame. -/
theorem FRel.lay {w' : World} {S' : Nat → Prop} {m' : Locs} {a : Act} {s : St} (hF : FRel w S m a s) {C : Chain} (hC : holds a C) {dst : Option Nat} {v : Value} {av : AV} {mem : Mem} {ks : List Bool} {inv : Option Nat}
    (ht : Trans base w S m w' S' m' inv) (hv : Rel w' S' m' v av) (hk : AllT (lay s C dst av mem ks inv).ks) :
    FRel w' S' m' (a.put dst v) (lay s C dst av mem ks inv) ∧ (lay s C dst av mem ks inv).m = mem ∧ AllT s.ks ∧ AllT ks := by
  unfold Eng.lay at hk ⊢
  cases dst with
  | none =>
    cases inv with
    | none =>
      simp only at hk ⊢
      rw [AllT.cat] at hk
      exact ⟨⟨hF.size, hF.defers, fun t h => ht.rel (hF.rel t h), hF.skip⟩, trivial, hk.1, hk.2⟩
    | some b =>
      simp only at hk ⊢
      rw [AllT.cat] at hk
      exact ⟨⟨by rw [lenA_invals]; exact hF.size, hF.defers, fun t h => by rw [nth_invals]; exact ht.rel (hF.rel t h), hF.skip⟩, trivial, hk.1, hk.2⟩
  | some d =>
    simp only at hk ⊢
    split at hk
    case h_2 => simp [failSt, AllT] at hk
    rename_i hm1 hm2
    have hch : ∀ t, holds (a.put (some d) v) (tagOf s.tg t) ↔ holds a (tagOf s.tg t) := fun t => holds_put (mentioned_mem hm1 t)
    have hchC : holds (a.put (some d) v) C ↔ holds a C := holds_put hm2
    have key : ∀ (ts' : List AV), lenA ts' = lenA s.ts → (∀ t, nth ts' t = fx inv (nth s.ts t)) → FRel w' S' m' (a.put (some d) v) ⟨put ts' d av, mem, setTag s.tg d C, catB s.ks ks⟩ := fun ts' hl hn => by
      refine ⟨by rw [put_size, lenA_put, hl]; exact hF.size, by rw [put_def]; exact hF.defers, fun t h => ?_, fun t => ?_⟩
      · rw [tagOf_set] at h
        rw [put_getD, nth_put]
        by_cases e : d = t
        · subst e
          by_cases hlt : d < a.tmps.size
          · rw [if_pos ⟨rfl, hlt⟩, if_pos ⟨rfl, by rw [hl, ← hF.size]; exact hlt⟩]; exact hv
          · rw [if_neg (fun x => hlt x.2), if_neg (fun x => hlt (by rw [hF.size, ← hl]; exact x.2))]
            rw [nth_out _ _ (by rw [hl, ← hF.size]; omega)]
            exact .undef _ _
        · rw [if_neg e] at h
          rw [if_neg (fun x => e x.1), if_neg (fun x => e x.1), hn]
          exact ht.rel (hF.rel t ((hch t).1 h))
      · rw [tagOf_set]
        by_cases e : d = t
        · subst e; rw [if_pos rfl]; exact .inl (hchC.2 hC)
        · rw [if_neg e, put_getD, if_neg (fun x => e x.1)]
          rcases hF.skip t with h | h
          · exact .inl ((hch t).2 h)
          · exact .inr h
    cases inv with
    | none =>
      simp only at hk ⊢
      rw [AllT.cat] at hk
      exact ⟨key s.ts rfl (fun _ => rfl), trivial, hk.1, hk.2⟩
    | some b =>
      simp only at hk ⊢
      rw [AllT.cat] at hk
      exact ⟨key (invals b s.ts) (lenA_invals _ _) (fun t => nth_invals _ _ _), trivial, hk.1, hk.2⟩

/-- An operation that is passed over. -/
theorem FRel.pass {a : Act} {s : St} (hF : FRel w S m a s) {C : Chain} {d : Nat} {b : Bool} (hC : (d, b) ∈ C) (hno : a.tmps.getD d Go.undef ≠ .bool b) {dst : Option Nat} {av : AV} {ks : List Bool}
    (hk : AllT (Eng.lay s C dst av s.m ks none).ks) : FRel w S m (a.put dst Go.undef) (Eng.lay s C dst av s.m ks none) ∧ (Eng.lay s C dst av s.m ks none).m = s.m ∧ AllT s.ks := by
  unfold Eng.lay at hk ⊢
  cases dst with
  | none =>
    simp only at hk ⊢
    rw [AllT.cat] at hk
    exact ⟨⟨hF.size, hF.defers, hF.rel, hF.skip⟩, trivial, hk.1⟩
  | some e =>
    simp only at hk ⊢
    split at hk
    case h_2 => simp [failSt, AllT] at hk
    rename_i hm1 hm2
    have hch : ∀ t, holds (a.put (some e) Go.undef) (tagOf s.tg t) ↔ holds a (tagOf s.tg t) := fun t => holds_put (mentioned_mem hm1 t)
    have hchC : holds (a.put (some e) Go.undef) C ↔ holds a C := holds_put hm2
    simp only at hk ⊢
    rw [AllT.cat] at hk
    refine ⟨⟨by rw [put_size, lenA_put]; exact hF.size, by rw [put_def]; exact hF.defers, fun t h => ?_, fun t => ?_⟩, trivial, hk.1⟩
    · rw [tagOf_set] at h
      by_cases e2 : e = t
      · subst e2; rw [if_pos rfl] at h
        exact absurd (hchC.1 h d b hC) hno
      · rw [if_neg e2] at h
        rw [put_getD, nth_put, if_neg (fun x => e2 x.1), if_neg (fun x => e2 x.1)]
        exact hF.rel t ((hch t).1 h)
    · rw [tagOf_set]
      by_cases e2 : e = t
      · subst e2; rw [if_pos rfl, put_getD]
        right
        by_cases hlt : e < a.tmps.size
        · rw [if_pos ⟨rfl, hlt⟩]
        · rw [if_neg (fun x => hlt x.2)]; simp [hlt]
      · rw [if_neg e2, put_getD, if_neg (fun x => e2 x.1)]
        rcases hF.skip t with h | h
        · exact .inl ((hch t).2 h)
        · exact .inr h

/-- The value of a chain that holds. -/
theorem chainVal_true {a : Act} {s : St} (hF : FRel w S m a s) : ∀ {C : Chain} {g : Bool}, holds a C → chainVal std s.ts C = some g → g = true := by
  have lit : ∀ {d : Nat} {b x : Bool}, a.tmps.getD d Go.undef = .bool b → litOf std s.ts d b = some x → x = true := fun {d b x} h hl => by
    have hh : holds a (tagOf s.tg d) := by
      rcases hF.skip d with h' | h'
      · exact h'
      · rw [h] at h'; simp [Go.undef] at h'
    have hr := hF.rel d hh
    rw [h] at hr
    unfold litOf at hl
    split at hl
    · rename_i y hy
      rw [hy] at hr; cases hr; injection hl with hl; exact hl.symm
    · rename_i y hy
      rw [hy] at hr; cases hr; injection hl with hl; rw [← hl]; rfl
    · simp at hl
  intro C
  induction C with
  | nil => intro g _ h; injection h with h; exact h.symm
  | cons x C ih =>
    obtain ⟨d, b⟩ := x
    intro g hh h
    have h0 := hh d b (by simp)
    have hr : holds a C := fun s b hm => hh s b (List.mem_cons_of_mem _ hm)
    cases C with
    | nil => exact lit h0 h
    | cons y C =>
      simp only [chainVal] at h
      split at h
      · rename_i x1 y1 hx hy
        have e1 := lit h0 hx
        have e2 := ih hr hy
        injection h with h; subst h
        rw [e1, e2]; rfl
      · simp at h

theorem AllT_imp {ks : List Bool} (h : AllT (impAll std true ks)) : AllT ks := by
  induction ks with
  | nil => trivial
  | cons k ks ih =>
    rw [impAll, AllT.cons] at h
    rw [AllT.cons]
    exact ⟨by simpa [std] using h.1, ih h.2⟩

theorem yielded_iff (ops : Array Oper) (a : Act) (j d : Nat) (b : Bool) (hd : (ops[j]?).bind (·.dst) = some d) : yielded ops a.tmps j = some b ↔ a.tmps.getD d Go.undef = .bool b := by
  unfold yielded
  rw [hd]
  simp only [Option.bind_some, Array.getD_eq_getD_getElem?]
  cases h : a.tmps[d]? with
  | none => simp [Go.undef]
  | some v => cases v <;> simp

theorem bad_mem : (bad M).m = M ∧ (bad M).inv = none := ⟨rfl, rfl⟩

theorem aInt_mem (p : Prims) (op : BinOp) (k : IntKind) (x y : Int) : (aInt p M op k x y).m = M ∧ (aInt p M op k x y).inv = none := by cases op <;> exact ⟨rfl, rfl⟩
theorem aStr_mem (p : Prims) (op : BinOp) (x y : List UInt8) : (aStr p M op x y).m = M ∧ (aStr p M op x y).inv = none := by cases op <;> exact ⟨rfl, rfl⟩
theorem aBin_mem (p : Prims) (op : BinOp) (t : Nat) (x y : AV) : (aBin p T M op t x y).m = M ∧ (aBin p T M op t x y).inv = none := by
  unfold aBin
  split
  · exact ⟨rfl, rfl⟩
  · exact ⟨rfl, rfl⟩
  · split
    · exact aInt_mem p _ _ _ _
    · exact ⟨rfl, rfl⟩
  · exact aStr_mem p _ _ _
  all_goals (first | exact ⟨rfl, rfl⟩ | (split <;> exact ⟨rfl, rfl⟩))
theorem aUn_mem (p : Prims) (op : UnOp) (x : AV) : (aUn p M op x).m = M ∧ (aUn p M op x).inv = none := by unfold aUn; split <;> exact ⟨rfl, rfl⟩
theorem aConv_mem (p : Prims) (s d : Nat) (x : AV) : (aConv p T M s d x).m = M ∧ (aConv p T M s d x).inv = none := by unfold aConv; split <;> exact ⟨rfl, rfl⟩
theorem aBuild_mem (t : Nat) (ps : List (Nat × AV)) : (aBuild T M t ps).m = M ∧ (aBuild T M t ps).inv = none := by
  unfold aBuild
  split
  · split <;> exact ⟨rfl, rfl⟩
  · split <;> exact ⟨rfl, rfl⟩
  · exact ⟨rfl, rfl⟩
theorem aBuildSlice_mem (t n : Nat) (ps : List (Nat × AV)) : (aBuildSlice T M t n ps).m = M ∧ (aBuildSlice T M t n ps).inv = none := by
  unfold aBuildSlice
  repeat' (first | exact ⟨rfl, rfl⟩ | split)
theorem aFieldAddr_mem (t f : Nat) (x : AV) : (aFieldAddr T M t x f).m = M ∧ (aFieldAddr T M t x f).inv = none := by
  unfold aFieldAddr
  split
  · split
    · split
      · exact ⟨rfl, rfl⟩
      · exact ⟨rfl, rfl⟩
      · split <;> exact ⟨rfl, rfl⟩
      · exact ⟨rfl, rfl⟩
    · exact ⟨rfl, rfl⟩
  · exact ⟨rfl, rfl⟩
theorem aField_mem (t f : Nat) (x : AV) : (aField T M t x f).m = M ∧ (aField T M t x f).inv = none := by
  unfold aField
  split
  · split
    · split
      · split <;> exact ⟨rfl, rfl⟩
      · split <;> exact ⟨rfl, rfl⟩
    · exact ⟨rfl, rfl⟩
  · exact ⟨rfl, rfl⟩
theorem aIndexAddr_mem (p : Prims) (t : Nat) (lit : Option Nat) (x i : AV) : (aIndexAddr p T M t lit x i).m = M ∧ (aIndexAddr p T M t lit x i).inv = none := by
  unfold aIndexAddr
  repeat' (first | exact ⟨rfl, rfl⟩ | split)
theorem aIndex_mem (p : Prims) (t : Nat) (lit : Option Nat) (x i : AV) : (aIndex p T M t lit x i).m = M ∧ (aIndex p T M t lit x i).inv = none := by
  unfold aIndex
  repeat' (first | exact ⟨rfl, rfl⟩ | split)
theorem aExtract_mem (i : Nat) (x : AV) : (aExtract M x i).m = M ∧ (aExtract M x i).inv = none := by
  unfold aExtract
  split
  · split <;> exact ⟨rfl, rfl⟩
  · split
    · exact ⟨rfl, rfl⟩
    · split <;> exact ⟨rfl, rfl⟩
  · exact ⟨rfl, rfl⟩
theorem aSlice_mem (p : Prims) (t : Nat) (x : AV) (lo hi : Option AV) : (aSlice p T M t x lo hi).m = M ∧ (aSlice p T M t x lo hi).inv = none := by
  unfold aSlice
  repeat' (first | exact ⟨rfl, rfl⟩ | split)
theorem aLen_mem (p : Prims) (t : Nat) (x : AV) : (aLen p T M t x).m = M ∧ (aLen p T M t x).inv = none := by unfold aLen; repeat' (first | exact ⟨rfl, rfl⟩ | split)
theorem aCap_mem (p : Prims) (t : Nat) (x : AV) : (aCap p T M t x).m = M ∧ (aCap p T M t x).inv = none := by
  unfold aCap
  repeat' (first | exact ⟨rfl, rfl⟩ | split)
theorem aSlice3_mem (p : Prims) (t : Nat) (x : AV) (hi mx : Operand) (h : AV) : (aSlice3 p T M t x hi mx h).m = M ∧ (aSlice3 p T M t x hi mx h).inv = none := by
  unfold aSlice3
  repeat' (first | exact ⟨rfl, rfl⟩ | split)
theorem quietCall_no {p : Prims} {call : Oracle} {ts : List AV} {f : Operand} {args : Array Operand} {ats : Array TypeId} (h : quietCall p call ts M (.call ⟨.value f, args, ats⟩) = true) :
    ∀ id first cap, opnd ts f = .fn (.func id) first cap → call.me p id (catA first (catA (opnds ts args.toList) cap)) M = none := by
  intro id first cap e
  simp only [quietCall, e] at h
  split at h
  · assumption
  · simp at h
theorem aMax_mem (p : Prims) (k : IntKind) (a : Int) (l : List AV) : (aMax p M k a l).m = M ∧ (aMax p M k a l).inv = none := by
  induction l generalizing a with
  | nil => exact ⟨rfl, rfl⟩
  | cons x l ih =>
    cases x <;> try exact ⟨rfl, rfl⟩
    simp only [aMax]
    split
    · exact ih _
    · exact ⟨rfl, rfl⟩
theorem aMin_mem (p : Prims) (k : IntKind) (a : Int) (l : List AV) : (aMin p M k a l).m = M ∧ (aMin p M k a l).inv = none := by
  induction l generalizing a with
  | nil => exact ⟨rfl, rfl⟩
  | cons x l ih =>
    cases x <;> try exact ⟨rfl, rfl⟩
    simp only [aMin]
    split
    · exact ih _
    · exact ⟨rfl, rfl⟩

/-- What is guarded neither makes nor changes memory of the call's own. -/
theorem quiet_mem (p : Prims) (call : Oracle) (ts : List AV) (M : Mem) (op : Op) (h : quietOp op = true) : (aOp p T call ts M op).m = M ∧ (aOp p T call ts M op).inv = none := by
  cases op with
  | move x => exact ⟨rfl, rfl⟩
  | assign x => exact ⟨rfl, rfl⟩
  | load t x => exact aLoad_mem _ _
  | binOp op t x y yt => exact aBin_mem _ _ _ _ _
  | unOp op t x => exact aUn_mem _ _ _
  | convert s d x => exact aConv_mem _ _ _ _
  | makeFunc f a c => simp only [aOp]; split <;> first | exact ⟨rfl, rfl⟩ | (split <;> exact ⟨rfl, rfl⟩)
  | fieldAddr t x f => exact aFieldAddr_mem _ _ _
  | field t x f => exact aField_mem _ _ _
  | indexAddr t x i => exact aIndexAddr_mem _ _ _ _ _
  | index t x i => exact aIndex_mem _ _ _ _ _
  | extract x i => exact aExtract_mem _ _
  | build t ps => exact aBuild_mem _ _
  | buildSlice t n ps => exact aBuildSlice_mem _ _ _
  | slice t x lo hi mx =>
    cases mx with
    | none => exact aSlice_mem _ _ _ _ _
    | some mx =>
      cases lo with
      | some lo => exact ⟨rfl, rfl⟩
      | none => cases hi with
        | none => exact ⟨rfl, rfl⟩
        | some hi => exact aSlice3_mem _ _ _ _ _ _
  | call c =>
    obtain ⟨callee, args, ats⟩ := c
    cases callee with
    | builtin b =>
      simp only [aOp]
      cases b <;> simp [quietOp] at h <;> unfold aBuiltin <;> split <;> first | exact ⟨rfl, rfl⟩ | contradiction | (split <;> first | exact aLen_mem _ _ _ | exact aCap_mem _ _ _ | exact ⟨rfl, rfl⟩) | exact aMax_mem _ _ _ _ | exact aMin_mem _ _ _ _
    | _ => simp [quietOp] at h
  | _ => simp [quietOp] at h

theorem callP_mem (p : Prims) (call : Oracle) (M : Mem) (id : Nat) (bargs : List AV) (oo : Bool) (h : ∀ b n, (aCallP p call M id bargs oo).v ≠ .own b n) (h' : ∀ b, (aCallP p call M id bargs oo).v ≠ .ownT b) : (aCallP p call M id bargs oo).m = M ∧ (aCallP p call M id bargs oo).inv = none := by
  unfold aCallP at h h' ⊢
  split
  · split
    · exact ⟨rfl, rfl⟩
    · split <;> exact ⟨rfl, rfl⟩
  · rename_i hc
    split
    · simp only [hc] at h
      exact absurd rfl (h _ _)
    · exact ⟨rfl, rfl⟩
  · rename_i hc
    split
    · rename_i hor
      simp only [hc, hor] at h'
      exact absurd rfl (h' _)
    · exact ⟨rfl, rfl⟩
  · exact ⟨rfl, rfl⟩

theorem call_mem (p : Prims) (call : Oracle) (M : Mem) (f : AV) (args : List AV) (hq : ∀ id first cap, f = .fn (.func id) first cap → call.me p id (catA first (catA args cap)) M = none) (h : ∀ b n, (aCall p call M f args).v ≠ .own b n) (h' : ∀ b, (aCall p call M f args).v ≠ .ownT b) : (aCall p call M f args).m = M ∧ (aCall p call M f args).inv = none := by
  unfold aCall at h h' ⊢
  split
  · rename_i id first cap
    simp only [hq id first cap rfl] at h h' ⊢
    exact callP_mem _ _ _ _ _ _ h h'
  · exact callP_mem _ _ _ _ _ _ h h'
  · exact ⟨rfl, rfl⟩

/-- What follows an operation in a region. -/
def ThenS (base : Env) (w : World) (S : Nat → Prop) (m : Locs) (s' : St) (K : Act → World → Prop) : Prop :=
  ∀ a' w' S' m', Prot base.Z w w' → (∀ b, S b → S' b) → (∀ b, S' b → S b ∨ ¬ base.Z b) → MRel base w' S' m' s'.m → FRel w' S' m' a' s' → K a' w'

theorem aPick_ok {a : Act} {s : St} (hF : FRel w S m a s) {C : Chain} (hC : holds a C) {c x y : Operand} {v : AV} (h1 : pickOk s.tg C c x y = true) (h2 : aPick std s.ts c x y = some v) :
    ∃ b u, a.eval c = .bool b ∧ (if b then a.eval x else a.eval y) = u ∧ Rel w S m u v := by
  cases c with
  | tmp d =>
    simp only [pickOk] at h1
    split at h1
    case h_2 => simp at h1
    rename_i p1 p2 p3
    have hrd := hF.rel d (holds_pre p1 hC)
    simp only [aPick] at h2
    rw [show opnd s.ts (.tmp d) = nth s.ts d from rfl] at h2
    split at h2
    case h_2 => simp at h2
    rename_i bx hbx
    rw [hbx] at hrd
    have hcv : a.eval (.tmp d) = .bool bx := by
      show a.tmps.getD d Go.undef = _
      generalize a.tmps.getD d Go.undef = vv at hrd
      cases hrd; rfl
    have hcv' : a.tmps.getD d Go.undef = .bool bx := hcv
    -- the arms
    have armT : bx = true → ∀ o, useOk s.tg (catC C [(d, true)]) [o] = true → ∀ t, o = .tmp t → Rel w S m (a.tmps.getD t Go.undef) (nth s.ts t) := fun e o hu t ht => by
      subst ht
      refine hF.rel t (holds_pre (useOk_mem hu t (by simp)) ?_)
      intro s' b' hm
      rw [catC_eq] at hm
      rcases List.mem_append.1 hm with hm | hm
      · exact hC s' b' hm
      · simp at hm; obtain ⟨rfl, rfl⟩ := hm; rw [hcv', e]
    have armF : bx = false → ∀ o, useOk s.tg (catC C [(d, false)]) [o] = true → ∀ t, o = .tmp t → Rel w S m (a.tmps.getD t Go.undef) (nth s.ts t) := fun e o hu t ht => by
      subst ht
      refine hF.rel t (holds_pre (useOk_mem hu t (by simp)) ?_)
      intro s' b' hm
      rw [catC_eq] at hm
      rcases List.mem_append.1 hm with hm | hm
      · exact hC s' b' hm
      · simp at hm; obtain ⟨rfl, rfl⟩ := hm; rw [hcv', e]
    have orel : ∀ o, (∀ t, o = .tmp t → Rel w S m (a.tmps.getD t Go.undef) (nth s.ts t)) → Rel w S m (a.eval o) (opnd s.ts o) := fun o ho => opnd_rel' o ho
    refine ⟨bx, _, hcv, rfl, ?_⟩
    split at h2
    · -- c && x
      rename_i o
      split at h2
      case h_2 => simp at h2
      rename_i by_ hby
      injection h2 with h2; subst h2
      cases bx with
      | true =>
        have := orel _ (armT rfl _ p2)
        rw [hby] at this
        simpa [std] using this
      | false => exact .bool _ _
    · rename_i o _
      split at h2
      case h_2 => simp at h2
      rename_i by_ hby
      injection h2 with h2; subst h2
      cases bx with
      | true => exact .bool _ _
      | false =>
        have := orel _ (armF rfl _ p3)
        rw [hby] at this
        simpa [std] using this
    · simp at h2
  | _ => simp [pickOk] at h1

theorem lay_ks {s : St} {C : Chain} {dst : Option Nat} {av : AV} {mem : Mem} {ks : List Bool} {inv : Option Nat} (hk : AllT (lay s C dst av mem ks inv).ks) : AllT s.ks ∧ AllT ks := by
  unfold Eng.lay at hk
  split at hk
  · split at hk
    · split at hk <;> (simp only at hk; rw [AllT.cat] at hk; exact hk)
    · simp [failSt, AllT] at hk
  · split at hk <;> (simp only at hk; rw [AllT.cat] at hk; exact hk)

theorem fail_ks {s : St} (h : AllT (failSt s).ks) : False := by simp [failSt, AllT] at h

theorem nthO_eq (l : List Oper) (i : Nat) : nthO l i = l[i]? := by
  induction l generalizing i with
  | nil => rfl
  | cons a l ih => cases i with
    | zero => rfl
    | succ i => simpa [nthO] using ih i

theorem wanted_cases {ops : Array Oper} {o : Oper} {a : Act} {s : St} (hF : FRel w S m a s) {C : Chain} (hch : chainOf ops.toList s.tg o.guard = some C) :
    (Region.wanted o (yielded ops a.tmps) = true ∧ holds a C) ∨ (Region.wanted o (yielded ops a.tmps) = false ∧ ∃ d b, (d, b) ∈ C ∧ a.tmps.getD d Go.undef ≠ .bool b) := by
  unfold Region.wanted
  cases hg : o.guard with
  | none =>
    rw [hg] at hch
    injection hch with hch; subst hch
    exact .inl ⟨rfl, fun s b h => by simp at h⟩
  | some jb =>
    obtain ⟨j, b⟩ := jb
    rw [hg] at hch
    simp only [chainOf] at hch
    split at hch
    case h_2 => simp at hch
    rename_i d op ty pos af gu hd
    injection hch with hch; subst hch
    have hd' : (ops[j]?).bind (·.dst) = some d := by
      rw [nthO_eq, Array.getElem?_toList] at hd
      rw [hd]; rfl
    have hy := yielded_iff ops a j d b hd'
    by_cases e : a.tmps.getD d Go.undef = .bool b
    · refine .inl ⟨by simp [hy.2 e], fun s' b' hm => ?_⟩
      rw [catC_eq] at hm
      rcases List.mem_append.1 hm with hm | hm
      · rcases hF.skip d with h | h
        · exact h s' b' hm
        · rw [e] at h; simp [Go.undef] at h
      · simp at hm; obtain ⟨rfl, rfl⟩ := hm; exact e
    · refine .inr ⟨by simp; exact fun h => e (hy.1 h), d, b, by rw [catC_eq]; simp, e⟩

theorem aOper_ks {p : Prims} {call : Oracle} {all : List Oper} {s : St} {o : Oper} (h : AllT (aOper p T call all s o).ks) : AllT s.ks := by
  unfold aOper at h
  split at h
  · exact (fail_ks h).elim
  · rename_i C _
    unfold aOper2 at h
    split at h
    · unfold aPickS at h
      split at h
      · exact (lay_ks h).1
      · exact (fail_ks h).elim
    · unfold aOper1 at h
      split at h
      · exact (fail_ks h).elim
      · split at h
        · unfold aPlain at h; exact (lay_ks h).1
        · unfold aGuarded at h
          split at h
          · exact (fail_ks h).elim
          · split at h
            · exact (lay_ks h).1
            · split at h
              · split at h
                · exact (fail_ks h).elim
                · exact (fail_ks h).elim
                · exact (lay_ks h).1
                · exact (fail_ks h).elim
              · exact (fail_ks h).elim

def GoalOp (P : Program) (ops : Array Oper) (o : Oper) (a : Act) (w : World) (K : Act → World → Prop) (Q : Exit → Act → World → Prop) : Prop :=
  if Region.wanted o (yielded ops a.tmps) = true then o.wp P a w K Q ∨ (o.asks P a w ∧ LetsOut Q) else K (a.put o.dst Go.undef) w

def Wanted (ops : Array Oper) (o : Oper) (a : Act) (C : Chain) : Prop :=
  (Region.wanted o (yielded ops a.tmps) = true ∧ holds a C) ∨ (Region.wanted o (yielded ops a.tmps) = false ∧ ∃ d b, (d, b) ∈ C ∧ a.tmps.getD d Go.undef ≠ .bool b)

theorem aPickS_wp {ops : Array Oper} {o : Oper} {a : Act} {s : St} (hM : MRel base w S m s.m) (hF : FRel w S m a s) {K : Act → World → Prop} {Q : Exit → Act → World → Prop} {C : Chain} (hw : Wanted ops o a C)
    {c x y : Operand} (hop : o.op = .pick c x y) : AllT (aPickS std s C o.dst c x y).ks → ThenS base w S m (aPickS std s C o.dst c x y) K → GoalOp P ops o a w K Q := by
  unfold aPickS
  split
  · rename_i v h1 h2
    intro hk hK
    unfold GoalOp
    rcases hw with ⟨hw, hC⟩ | ⟨hw, d, b, hd, hne⟩
    · rw [if_pos hw]
      left
      obtain ⟨b, u, hb, hu, hr⟩ := aPick_ok hF hC h1 h2
      have hexec : (execOp a.eval o).run P w = .ok (.value u) w := by
        unfold execOp
        rw [hop]
        simp only [hb, asBool]
        subst hu
        cases b <;> rfl
      unfold Oper.wp
      rw [hexec]
      obtain ⟨f1, f2, _, _⟩ := hF.lay hC (Trans.refl base w S m) hr hk
      exact hK _ _ _ _ (Prot.refl _ _) (fun _ h => h) (fun _ h => .inl h) (by rw [f2]; exact hM) f1
    · rw [if_neg (by rw [hw]; simp)]
      obtain ⟨f1, f2, _⟩ := hF.pass hd hne hk
      exact hK _ _ _ _ (Prot.refl _ _) (fun _ h => h) (fun _ h => .inl h) (by rw [f2]; exact hM) f1
  · intro hk; exact (fail_ks hk).elim

theorem aPlain_wp (hT : TabOk P T) {call : Oracle} (hcall : Sound P call) {ops : Array Oper} {o : Oper} {a : Act} {s : St} (hM : MRel base w S m s.m) (hF : FRel w S m a s) {K : Act → World → Prop} {Q : Exit → Act → World → Prop} (hw : Wanted ops o a [])
    (hops : holds a [] → ∀ x ∈ o.op.operands.toList, Rel w S m (a.eval x) (opnd s.ts x)) : AllT (aPlain std T call s o.dst o.op).ks → ThenS base w S m (aPlain std T call s o.dst o.op) K → GoalOp P ops o a w K Q := by
  have e : aPlain std T call s o.dst o.op = lay s [] o.dst (aOp std T call s.ts s.m o.op).v (aOp std T call s.ts s.m o.op).m (aOp std T call s.ts s.m o.op).ks (aOp std T call s.ts s.m o.op).inv := rfl
  rw [e]
  intro hk hK
  unfold GoalOp
  rcases hw with ⟨hw, hC⟩ | ⟨hw, d, b, hd, hne⟩
  · rw [if_pos hw]
    left
    refine aOp_wp hT hcall hM (hops hC) (lay_ks hk).2 ?_
    intro v w' S' m' ht hm hr
    obtain ⟨f1, f2, _, _⟩ := hF.lay hC ht hr hk
    exact hK _ _ _ _ ht.below ht.sub ht.up (by rw [f2]; exact hm) f1
  · simp at hd

theorem aGuarded_wp (hT : TabOk P T) {call : Oracle} (hcall : Sound P call) {ops : Array Oper} {o : Oper} {a : Act} {s : St} (hM : MRel base w S m s.m) (hF : FRel w S m a s) {K : Act → World → Prop} {Q : Exit → Act → World → Prop} {C : Chain} (hw : Wanted ops o a C)
    (hops : holds a C → ∀ x ∈ o.op.operands.toList, Rel w S m (a.eval x) (opnd s.ts x)) : AllT (aGuarded std T call s C o.dst o.op).ks → ThenS base w S m (aGuarded std T call s C o.dst o.op) K → GoalOp P ops o a w K Q := by
  unfold aGuarded
  split
  · intro hk; exact (fail_ks hk).elim
  rename_i g hg
  have fin : ∀ {av : AV}, (aOp std T call s.ts s.m o.op).m = s.m → (aOp std T call s.ts s.m o.op).inv = none → av = (aOp std T call s.ts s.m o.op).v →
      AllT (lay s C o.dst av s.m (impAll std g (aOp std T call s.ts s.m o.op).ks) none).ks → ThenS base w S m (lay s C o.dst av s.m (impAll std g (aOp std T call s.ts s.m o.op).ks) none) K →
      GoalOp P ops o a w K Q := fun {av} e1 e2 e3 hk hK => by
    unfold GoalOp
    rcases hw with ⟨hw, hC⟩ | ⟨hw, d, b, hd, hne⟩
    · rw [if_pos hw]
      left
      have hgt := chainVal_true hF hC hg
      subst hgt
      refine aOp_wp hT hcall hM (hops hC) (AllT_imp (lay_ks hk).2) ?_
      intro v w' S' m' ht hm hr
      rw [e2] at ht
      rw [e1] at hm
      rw [← e3] at hr
      obtain ⟨f1, f2, _, _⟩ := hF.lay hC ht hr hk
      exact hK _ _ _ _ ht.below ht.sub ht.up (by rw [f2]; exact hm) f1
    · rw [if_neg (by rw [hw]; simp)]
      obtain ⟨f1, f2, _⟩ := hF.pass hd hne hk
      exact hK _ _ _ _ (Prot.refl _ _) (fun _ h => h) (fun _ h => .inl h) (by rw [f2]; exact hM) f1
  split
  · rename_i hq
    obtain ⟨e1, e2⟩ := quiet_mem (T := T) std call s.ts s.m o.op hq
    exact fin e1 e2 rfl
  · split
    · rename_i f args ats hop
      intro hk hK
      have hm : quietCall std call s.ts s.m o.op = true → (∀ b n, (aOp std T call s.ts s.m o.op).v ≠ .own b n) → (∀ b, (aOp std T call s.ts s.m o.op).v ≠ .ownT b) → (aOp std T call s.ts s.m o.op).m = s.m ∧ (aOp std T call s.ts s.m o.op).inv = none := fun hq h h' => by
        rw [hop] at h h' hq ⊢
        exact call_mem std call s.m _ _ (quietCall_no hq) h h'
      split at hk
      · exact (fail_ks hk).elim
      · exact (fail_ks hk).elim
      · rename_i hq hv hv'
        have hm := hm hq
        obtain ⟨e1, e2⟩ := hm (fun b n e => hv b n e) (fun b e => hv' b e)
        exact fin e1 e2 rfl hk (by
          revert hK
          rw [hq]
          generalize (aOp std T call s.ts s.m o.op).v = v at hv hv'
          cases v <;> first | exact fun h => h | exact absurd rfl (hv _ _) | exact absurd rfl (hv' _))
      · exact (fail_ks hk).elim
    · intro hk; exact (fail_ks hk).elim

theorem aOper1_wp (hT : TabOk P T) {call : Oracle} (hcall : Sound P call) {ops : Array Oper} {o : Oper} {a : Act} {s : St} (hM : MRel base w S m s.m) (hF : FRel w S m a s) {K : Act → World → Prop} {Q : Exit → Act → World → Prop} {C : Chain} (hw : Wanted ops o a C) :
    AllT (aOper1 std T call s C o.dst o.op).ks → ThenS base w S m (aOper1 std T call s C o.dst o.op) K → GoalOp P ops o a w K Q := by
  unfold aOper1
  split
  · intro hk; exact (fail_ks hk).elim
  rename_i hu
  have hops : holds a C → ∀ x ∈ o.op.operands.toList, Rel w S m (a.eval x) (opnd s.ts x) := fun hC x hx =>
    opnd_rel' x fun t ht => by subst ht; exact hF.rel t (holds_pre (useOk_mem hu t hx) hC)
  split
  · exact aPlain_wp hT hcall hM hF hw hops
  · exact aGuarded_wp hT hcall hM hF hw hops

theorem aOper_wp (hT : TabOk P T) {call : Oracle} (hcall : Sound P call) {ops : Array Oper} {o : Oper} {i : Nat} (hi : ops[i]? = some o) {a : Act} {s : St} (hM : MRel base w S m s.m) (hF : FRel w S m a s) {K : Act → World → Prop} {Q : Exit → Act → World → Prop} :
    AllT (aOper std T call ops.toList s o).ks → ThenS base w S m (aOper std T call ops.toList s o) K → wpOp P ops Q i K a w := by
  unfold aOper
  split
  · intro hk; exact (fail_ks hk).elim
  rename_i C hch
  have hw : Wanted ops o a C := wanted_cases (ops := ops) hF hch
  have e : wpOp P ops Q i K a w = GoalOp P ops o a w K Q := by unfold wpOp; simp only [hi]; rfl
  rw [e]
  unfold aOper2
  split
  · rename_i c x y hop; exact aPickS_wp hM hF hw hop
  · exact aOper1_wp hT hcall hM hF hw

theorem aOps_ks {p : Prims} {call : Oracle} {all : List Oper} : ∀ {l : List Oper} {s : St}, AllT (aOps p T call all l s).ks → AllT s.ks := by
  intro l
  induction l with
  | nil => intro s h; exact h
  | cons o l ih => intro s h; exact aOper_ks (ih h)

/-- Operations in the order of the text. -/
theorem aOps_wp (hT : TabOk P T) {call : Oracle} (hcall : Sound P call) {ops : Array Oper} {Q : Exit → Act → World → Prop} : ∀ (l : List Oper) (i : Nat) {w : World} {S : Nat → Prop} {m : Locs} {a : Act} {s : St}, (∀ k, l[k]? = ops[i + k]?) →
    MRel base w S m s.m → FRel w S m a s → AllT (aOps std T call ops.toList l s).ks → ThenS base w S m (aOps std T call ops.toList l s) (fun a w => Q .normal a w) → wpOps P ops Q (List.range' i l.length) a w := by
  intro l
  induction l with
  | nil => intro i w S m a s _ hM hF _ hK; exact hK a w S m (Prot.refl _ _) (fun _ h => h) (fun _ h => .inl h) hM hF
  | cons o l ih =>
    intro i w S m a s hl hM hF hk hK
    rw [List.length_cons, List.range'_succ, wpOps_cons]
    refine aOper_wp hT hcall (o := o) (by have := hl 0; simpa using this.symm) hM hF (aOps_ks hk) ?_
    intro a' w' S' m' hb hS hU hM' hF'
    refine ih (i + 1) (fun k => by have := hl (k + 1); rw [List.getElem?_cons_succ] at this; rw [this]; congr 1; omega) hM' hF' hk ?_
    intro a'' w'' S'' m'' hb' hS' hU' hM'' hF''
    exact hK a'' w'' S'' m'' (hb.trans hb') (fun b h => hS' b (hS b h)) (fun b h => (hU' b h).elim (hU b) .inr) hM'' hF''

end Go.Eng
