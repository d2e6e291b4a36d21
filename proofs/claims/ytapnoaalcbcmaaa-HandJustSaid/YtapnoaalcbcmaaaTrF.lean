/- The law's frame over plain data: arguments of a law as typed values; from a law's contract to its row. -/
import Derived.Test.YtapnoaalcbcmaaaEngZb
import Derived.Test.YtapnoaalcbcmaaaTrE
namespace Go.Eng
open Go Go.RowKit Go.ChangeShapes Go.WideShapes Go.ChangeAt

variable {H : Type} {enc : TypeId × Value → H} {P : Program} {T : Tab}

/-- Plain data that a program can hold. -/
def okE : (t : Ty) → El t → Prop
  | .int k, n => (Lit.int k n).wf = true
  | .bool, _ => True
  | .str, s => s.length ≤ maxLen
  | .pair a b, x => okE a x.1 ∧ okE b x.2
  | .list e, l => l.length ≤ maxLen ∧ ∀ x ∈ l, okE e x
  | .smap, _ => False

def FromT (t : Ty) (c : Nat → AV) (o : Nat) : Prop := ∃ x : El t, okE t x ∧ ∀ j, j < szT t → Le (c (o + j)) (nth (cellsT t x) j)

theorem FromT.pair {a b : Ty} {c : Nat → AV} {o : Nat} (h : FromT a c o) (k : FromT b c (o + szT a)) : FromT (.pair a b) c o := by
  obtain ⟨x, hx, h⟩ := h
  obtain ⟨y, hy, k⟩ := k
  refine ⟨(x, y), ⟨hx, hy⟩, fun j hj => ?_⟩
  simp only [cellsT, nth_cat, lenA_cellsT]
  simp only [szT] at hj
  split
  · exact h j (by assumption)
  · have := k (j - szT a) (by omega)
    rwa [Nat.add_assoc, show szT a + (j - szT a) = j from by omega] at this

theorem FromT.list {e : Ty} {c : Nat → AV} {o : Nat} {n : Nat} {d : Nat → Nat → AV} (hn : n ≤ maxLen) (he : c o = .slice (szT e) n false d) (h : ∀ i, i < n → FromT e (d i) 0) : FromT (.list e) c o := by
  have key : ∀ n, (∀ i, i < n → FromT e (d i) 0) → ∃ l : List (El e), l.length = n ∧ (∀ x ∈ l, okE e x) ∧ ∀ i, i < n → ∀ j, j < szT e → Le (d i j) (vw e l i j) := by
    intro n
    induction n with
    | zero => intro _; exact ⟨[], rfl, ⟨(fun _ hx => absurd hx List.not_mem_nil), (fun i hi => absurd hi (Nat.not_lt_zero _))⟩⟩
    | succ n ih =>
      intro h
      obtain ⟨l, h1, h2, h3⟩ := ih fun i hi => h i (Nat.lt_succ_of_lt hi)
      obtain ⟨x, hx, hc⟩ := h n (Nat.lt_succ_self n)
      refine ⟨l ++ [x], by simp [h1], fun y hy => ?_, fun i hi j hj => ?_⟩
      · rcases List.mem_append.1 hy with hy | hy
        · exact h2 y hy
        · rw [List.mem_singleton.1 hy]; exact hx
      · by_cases hin : i < n
        · rw [vw_append_l _ _ _ _ _ (by omega)]; exact h3 i hin j hj
        · obtain rfl : i = n := by omega
          have := hc j hj
          rw [Nat.zero_add] at this
          have e : vw e (l ++ [x]) i j = nth (cellsT e x) j := by
            have := vw_append_r e l [x] 0 j
            rw [h1, Nat.add_zero] at this
            rw [this]; rfl
          rw [e]; exact this
  obtain ⟨l, h1, h2, h3⟩ := key n h
  refine ⟨l, ⟨by omega, h2⟩, fun j hj => ?_⟩
  simp only [szT] at hj
  obtain rfl : j = 0 := by omega
  rw [Nat.add_zero, he]
  exact Le.tsl (fun h => h) rfl h1.symm h3

theorem shape_T : ∀ (F t : Nat) (u : Ty) (c : Nat → AV) (o : Nat), goodTy T F t = true → tyTy T F t = some u → Shape T F t c o → szT u = (tyi T t).sz ∧ FromT u c o := by
  intro F
  induction F with
  | zero => intro t u c o hg; simp [goodTy] at hg
  | succ F ih =>
    intro t u c o hg hu hs
    simp only [goodTy, tyTy, Shape] at hg hu hs
    split at hg
    · rename_i k hd
      simp only [hd] at hu hs
      cases hu
      obtain ⟨n, e, hw⟩ := hs
      refine ⟨(Nat.eq_of_beq_eq_true hg).symm, n, hw, fun j hj => ?_⟩
      simp only [szT] at hj; obtain rfl : j = 0 := by omega
      rw [Nat.add_zero, e]; exact Le.refl _
    · rename_i hd
      simp only [hd] at hu hs
      cases hu
      obtain ⟨n, e⟩ := hs
      refine ⟨(Nat.eq_of_beq_eq_true hg).symm, n, trivial, fun j hj => ?_⟩
      simp only [szT] at hj; obtain rfl : j = 0 := by omega
      rw [Nat.add_zero, e]; exact Le.refl _
    · rename_i hd
      simp only [hd] at hu hs
      cases hu
      obtain ⟨n, e, hw⟩ := hs
      refine ⟨(Nat.eq_of_beq_eq_true hg).symm, n, hw, fun j hj => ?_⟩
      simp only [szT] at hj; obtain rfl : j = 0 := by omega
      rw [Nat.add_zero, e]; exact Le.refl _
    · rename_i fs hd
      simp only [Bool.and_eq_true, List.all_eq_true] at hg
      simp only [hd] at hu hs
      -- by the fields
      have key : ∀ (fs : List (Nat × Nat)) (p n : Nat) (u : Ty), consec T fs p n = true → (∀ x ∈ fs, goodTy T F x.1 = true ∧ Nat.ble 1 (tyi T x.1).sz = true) → tyFs (tyTy T F) fs = some u → (∀ x ∈ fs, Shape T F x.1 c (o + x.2)) →
          p + szT u = n ∧ FromT u c (o + p) := by
        intro fs
        induction fs with
        | nil => intro p n u _ _ hu; simp [tyFs] at hu
        | cons y fs ihf =>
          obtain ⟨t, p'⟩ := y
          intro p n u hc hg hu hs
          simp only [consec, Bool.and_eq_true] at hc
          have e := Nat.eq_of_beq_eq_true hc.1
          subst e
          have hs0 := hs (t, p) (by simp)
          have hg0 := hg (t, p) (by simp)
          cases fs with
          | nil =>
            simp only [tyFs] at hu
            obtain ⟨h1, h2⟩ := ih t u c _ hg0.1 hu hs0
            have := Nat.eq_of_beq_eq_true hc.2
            exact ⟨by omega, h2⟩
          | cons z fs =>
            simp only [tyFs] at hu
            split at hu
            · rename_i a b ha hb
              cases hu
              obtain ⟨h1, h2⟩ := ih t a c _ hg0.1 ha hs0
              obtain ⟨h3, h4⟩ := ihf _ _ b hc.2 (fun x hx => hg x (List.mem_cons_of_mem _ hx)) hb (fun x hx => hs x (List.mem_cons_of_mem _ hx))
              refine ⟨by simp only [szT]; omega, h2.pair ?_⟩
              rw [h1, Nat.add_assoc]; exact h4
            · cases hu
      obtain ⟨h1, h2⟩ := key fs 0 _ u hg.1 hg.2 hu hs
      exact ⟨by omega, h2⟩
    · rename_i n e hd
      simp only [Bool.and_eq_true] at hg
      simp only [hd] at hu hs
      have hsz := Nat.eq_of_beq_eq_true hg.1.1
      cases n with
      | zero => cases hu
      | succ n =>
        simp only at hu
        split at hu
        · rename_i a _ ha
          cases hu
          have key : ∀ (n p : Nat), (∀ i, i < n + 1 → Shape T F e c (p + i * (tyi T e).sz)) → szT (tyRep a n) = (n + 1) * (tyi T e).sz ∧ FromT (tyRep a n) c p := by
            intro n
            induction n with
            | zero =>
              intro p hs
              have := hs 0 (by omega)
              rw [Nat.zero_mul, Nat.add_zero] at this
              obtain ⟨h1, h2⟩ := ih e a c _ hg.1.2 ha this
              exact ⟨by rw [Nat.zero_add, Nat.one_mul]; exact h1, h2⟩
            | succ n ihn =>
              intro p hs
              have h0 := hs 0 (by omega)
              rw [Nat.zero_mul, Nat.add_zero] at h0
              obtain ⟨h1, h2⟩ := ih e a c _ hg.1.2 ha h0
              obtain ⟨h3, h4⟩ := ihn (p + (tyi T e).sz) fun i hi => by
                have := hs (i + 1) (by omega)
                rwa [Nat.add_mul, Nat.one_mul, show p + (i * (tyi T e).sz + (tyi T e).sz) = p + (tyi T e).sz + i * (tyi T e).sz from by omega] at this
              refine ⟨?_, FromT.pair h2 (by rw [h1]; exact h4)⟩
              simp only [tyRep, szT]
              rw [h1, h3, Nat.add_mul (n + 1) 1, Nat.one_mul, Nat.add_comm]
          obtain ⟨h1, h2⟩ := key n o hs
          exact ⟨by rw [h1, hsz], h2⟩
        · cases hu
    · rename_i e hd
      simp only [Bool.and_eq_true] at hg
      simp only [hd] at hu hs
      have hsz := Nat.eq_of_beq_eq_true hg.1.1
      split at hu
      · rename_i a ha
        cases hu
        refine ⟨hsz.symm, ?_⟩
        rcases hs with hs | ⟨n, d, hn, hs, hd'⟩
        · refine ⟨([] : List (El a)), ⟨Nat.zero_le _, fun x hx => by cases hx⟩, fun j hj => ?_⟩
          simp only [szT] at hj; obtain rfl : j = 0 := by omega
          rw [Nat.add_zero, hs]; exact Le.nil _ _
        · have hsz' : n = 0 ∨ szT a = (tyi T e).sz := by
            cases n with
            | zero => exact .inl rfl
            | succ n => exact .inr (ih e a _ _ hg.1.2 ha (hd' 0 (by omega))).1
          rcases hsz' with rfl | hsz'
          · refine ⟨([] : List (El a)), ⟨Nat.zero_le _, fun x hx => by cases hx⟩, fun j hj => ?_⟩
            simp only [szT] at hj; obtain rfl : j = 0 := by omega
            rw [Nat.add_zero, hs]
            intro w S m v hr
            cases hr with
            | slice _ b o _ _ cap _ _ f' hs hn hcap hf hc hr => exact .tsl _ _ _ _ _ (.slice0 _ _ _ _ _ _ hcap (fun e => by cases e))
            | slice0 _ a cap _ _ _ hcap hf => exact .tsl _ _ _ _ _ (.slice0 _ _ _ _ _ _ hcap (fun e => by cases e))
          · exact FromT.list hn (by rw [hs, hsz']) fun i hi => (ih e a _ _ hg.1.2 ha (hd' i hi)).2
      · cases hu
    · simp at hg

/-- Shapes of a law's parameters. -/
def parPS (T : Tab) (F : Nat) : List Nat → Option PS
  | [] => some .nil
  | t :: ts => match tyTy T F t, parPS T F ts with
    | some u, some r => some (.cons (.val (isAggT T t) u) r)
    | _, _ => none

def okP : (ps : PS) → ElP ps → Prop
  | .val _ t, x => okE t x
  | .cons a b, x => okP a x.1 ∧ okP b x.2
  | _, _ => True

theorem nth_tab' (c : Nat → AV) (n j : Nat) (h : j < n) : nth (tab c 0 n) j = c j := by
  have := nth_tab c 0 n j h
  rwa [Nat.zero_add] at this

theorem argV_T {F t : Nat} {u : Ty} {c : Nat → AV} (hg : goodTy T F t = true) (hu : tyTy T F t = some u) (hs : Shape T F t c 0) : ∃ x : El u, okE u x ∧ Le (argV T t c) (encS (isAggT T t) u x) := by
  obtain ⟨hsz, x, hx, hc⟩ := shape_T F t u c 0 hg hu hs
  refine ⟨x, hx, ?_⟩
  have hc' : ∀ j, j < szT u → Le (c j) (nth (cellsT u x) j) := fun j hj => by have := hc j hj; rwa [Nat.zero_add] at this
  have agg : Le (.agg (tab c 0 (tyi T t).sz)) (encS true u x) := by
    intro w S m v hr
    cases hr with
    | agg _ vs _ hl h1 h =>
      rw [lenA_tab] at hl h1 h
      refine .agg _ _ _ (by rw [lenA_cellsT, hsz]; exact hl) (fun i hi => h1 i (by rw [lenA_cellsT, hsz] at hi; exact hi)) (fun i hi => ?_)
      rw [lenA_cellsT] at hi
      have := h i (by omega)
      rw [nth_tab' _ _ _ (by omega)] at this
      exact hc' i hi _ _ _ _ this
  have one : isAggT T t = false → argV T t c = c 0 → Le (argV T t c) (encS (isAggT T t) u x) := fun h1 h2 => by
    rw [h1, h2]; exact hc' 0 (szT_pos u)
  unfold argV isAggT at *
  cases hd : (tyi T t).d with
  | struct fs => simp only [hd] at *; exact agg
  | array n e => simp only [hd] at *; exact agg
  | _ => simp only [hd] at *; exact one trivial trivial

theorem args_T {F : Nat} : ∀ {ts : List Nat} {l : List AV} {ps : PS}, (ts.all fun t => goodTy T F t) = true → parPS T F ts = some ps → ArgsSh T F ts l →
    ∃ x : ElP ps, okP ps x ∧ lenA (encP ps x) = lenA l ∧ ∀ i, i < lenA l → Le (nth l i) (nth (encP ps x) i)
  | [], [], ps, _, hp, _ => by cases hp; exact ⟨(), trivial, rfl, fun i hi => by simp [lenA] at hi⟩
  | t :: ts, a :: l, ps, hg, hp, hs => by
    simp only [parPS] at hp
    split at hp
    · rename_i u r hu hr
      cases hp
      simp only [List.all_cons, Bool.and_eq_true] at hg
      obtain ⟨⟨c, hc, rfl⟩, hs⟩ := hs
      obtain ⟨x, hx, hxe⟩ := argV_T hg.1 hu hc
      obtain ⟨y, hy, hl, hye⟩ := args_T hg.2 hr hs
      refine ⟨(x, y), ⟨hx, hy⟩, ?_, fun i hi => ?_⟩
      · simp [encP, lenA_cat, lenA, hl]; omega
      · cases i with
        | zero => exact hxe
        | succ i => exact hye i (by simpa [lenA] using hi)
    · cases hp
  | [], _ :: _, _, _, _, h => h.elim
  | _ :: _, [], _, _, _, h => h.elim

theorem law_contractT (hT : TabOk P T) (hl : laidOutB P = true) (hn : namesOk P = true) {g : Sig} {f : Func} {code : Code} (hf : P.funcs[g.id]? = some f) (hb : f.body = some code) {s : ChangeSpec} {t : TypeId} (hv : s.vars = []) (hres : f.resultTypes = #[t]) (hu : P.underlying t = some .bool)
    (hfn : ∀ ds : List (DataW H), ds.length = f.params.toList.length → (s.fn H ds).results = [.lit (.bool true)] ∧ (s.fn H ds).args = ds ∧ (s.fn H ds).vars = [])
    (hpar : (f.params.toList.all fun t => P.readableRec t && Nat.blt t P.types.size) = true) {F : Nat} (hg : (f.params.toList.all fun t => goodTy T F t) = true) (hps : parPS T F f.params.toList = some g.ps)
    (law : ∀ x, okP g.ps x → ACalls P g.id (encP g.ps x) (.val (.bool true)))
    {apart fresh handsOn : Bool} {W : World} {b0 : Nat} {args : Array Value} {ds gs : List (DataW H)} {before : List MemPlace}
    (hval : ∀ (j : Nat) t v, f.params[j]? = some t → args[j]? = some v → Value.okWide P W .any b0 t v) (hW : DataW.Whole enc P f.params.toList s.vars apart W args.toList ds gs before) (hgl : GL W) :
    Calls P g.id args W fun e W' => ∃ v, e = .returned v ∧ s.post enc P f apart fresh handsOn false W args v W' := by
  obtain ⟨p, q, hA, _⟩ := hW
  obtain ⟨l, k1, k2, k3⟩ := args_ab hT hg (fun j t v ht hv => hval j t v (by rw [← Array.getElem?_toList]; exact ht) (by rw [← Array.getElem?_toList]; exact hv)) hA
  obtain ⟨x, hx, hxl, hxe⟩ := args_T hg hps k1
  refine (law x hx).bool hf hb (name_ok hn hf) hgl (S := fun b => b < W.heap.size) (fun _ h => h) ⟨by rw [← Array.length_toList, hxl]; exact k2, fun i hi => ?_⟩ (fun W' hbel => ⟨_, rfl, law_post hl hv hres hu hfn hpar ⟨p, q, hA, by assumption⟩ hbel⟩)
  rw [hxl] at hi
  have := k3 i hi
  rw [List.getD_eq_getElem?_getD, Array.getElem?_toList, ← Array.getD_eq_getD_getElem?] at this
  exact hxe i hi _ _ _ _ this

/-- A law whose tree comes to true. -/
theorem Sig.law {g : Sig} (hg : g.ok P) {tr : ElR g.rs} (hr : crR g.rs tr = .val (.bool true)) {x : ElP g.ps} (h : (g.f x).run = some tr) : ACalls P g.id (encP g.ps x) (.val (.bool true)) := by
  rw [← hr]; exact hg x tr h

/-- A fresh answer, as a value in new memory. -/
theorem acalls_new {k : Nat} {args : List AV} {e : Nat} {u : Ty} {l : List (El u)} (h : ACalls P k args (.freshT e u l)) : ACalls P k args (.valN e u l) :=
  fun w S vs hG hS hR => (h w S vs hG hS hR).mono fun _ _ hp => hp

/-- A fresh answer, as a value. -/
theorem acalls_val {k : Nat} {args : List AV} {e : Nat} {u : Ty} {l : List (El u)} (h : ACalls P k args (.freshT e u l)) : ACalls P k args (.val (.tsl u l false)) := by
  intro w S vs hG hS hR
  refine (h w S vs hG hS hR).mono ?_
  rintro en w' ⟨v, h1, h2, h3⟩
  refine ⟨v, h1, h2, ?_⟩
  show Rel _ _ _ _ _
  refine .tsl _ _ _ _ _ ?_
  rcases h3 with ⟨⟨a, rfl⟩, hn⟩ | ⟨g, cs, rfl, k1, k2, k3, k4, k5, k6, k7, k8, k9⟩
  · rw [hn]; exact .slice0 _ _ _ _ _ _ (Nat.zero_le _) (fun e => by cases e)
  · refine .slice _ g.g 0 _ _ g.cap _ _ (fun i j => cs.getD (i * szT u + j) Go.undef) (.inr ⟨k1, k2⟩) k5 k6 (fun e => by cases e) (fun i hi j hj => ⟨?_, (k9 i hi j hj).1⟩) (fun i hi j hj => (k9 i hi j hj).2.mono (fun _ h => h.1) (fun _ _ => rfl) _ (fun _ _ h => h))
    rw [Nat.zero_add]
    have hlt : i * szT u + j < cs.size := by
      rw [k8]
      have : (i + 1) * szT u ≤ g.cap * szT u := Nat.mul_le_mul_right _ (by omega)
      rw [Nat.add_mul] at this
      omega
    simp only [World.cell?, k7]
    rw [Array.getD_eq_getD_getElem?, Array.getElem?_eq_getElem hlt]
    rfl

end Go.Eng
