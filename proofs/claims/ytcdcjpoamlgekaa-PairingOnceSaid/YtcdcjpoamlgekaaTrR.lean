/- Loops over functions: code in a round; the rule for a loop that collects into a slice. -/
import Derived.Test.YtcdcjpoamlgekaaTrE
import Derived.RangeFuncWrites
import Derived.RangeFuncCalls
namespace Go.Eng
open Go Go.RowKit

variable {P : Program} {T : Tab} {base : Env} {w : World} {S : Nat → Prop} {m : Locs} {M : Mem}

/-! Code in a round. -/
def isDefer : Op → Bool
  | .defer _ => true
  | _ => false
def noDef : List Oper → Bool
  | [] => true
  | o :: l => match isDefer o.op with | true => false | false => noDef l
theorem noDef_ok (l : List Oper) : noDef l = true → ∀ o, o ∈ l → isDefer o.op = false := by
  induction l with
  | nil => intro _ o ho; cases ho
  | cons x l ih =>
    intro h o ho
    unfold noDef at h
    cases hx : isDefer x.op with
    | true => rw [hx] at h; cases h
    | false =>
      rw [hx] at h
      rcases List.mem_cons.1 ho with e | ho
      · rw [e]; exact hx
      · exact ih h o ho
theorem isDefer_no {op : Op} (h : isDefer op = false) (c : Call) : op ≠ .defer c := by
  intro e; subst e; exact Bool.noConfusion h

theorem wpOps_in {ops : Array Oper} (hd : noDef ops.toList = true) {Q : Exit → Act → World → Prop} (hl : ¬ LetsOut Q) (r : Nat) : ∀ (l : List Nat) (a : Act) (w : World), wpOps P ops Q l a w → wpOpsIn (Fence.wide.inRound r) 0 P ops Q l a w := by
  intro l
  induction l with
  | nil => intro a w h; exact h
  | cons i rest ih =>
    intro a w h
    simp only [wpOps] at h
    simp only [wpOpsIn]
    cases ho : ops[i]? with
    | none => simp only [ho] at h ⊢; exact ih a w h
    | some o =>
      simp only [ho] at h ⊢
      have hnd : ∀ c, o.op ≠ .defer c := isDefer_no (noDef_ok _ hd o (by rw [← Array.getElem?_toList] at ho; exact List.mem_of_getElem? ho))
      by_cases hw : Region.wanted o (yielded ops a.tmps) = true
      · simp only [hw, if_true] at h ⊢
        have h := h.resolve_right fun h => hl h.2
        refine ⟨fun _ _ => trivial, ?_⟩
        rw [Oper.semAt_eq _ _ _ hnd]
        unfold Oper.wp at h
        generalize (execOp a.eval o).run P w = x at h
        cases x with
        | ok v w' =>
          cases v with
          | value v => exact ih _ _ h
          | skip => exact ih _ _ h
          | defer d => exact ih _ _ h
          | enter f args =>
            refine ⟨(fun h => by cases h), CallsIn.inRound r ((callsIn_wide (n := 0 - 1)).2 (Calls.mono h ?_))⟩
            rintro (v | ch | _) w'' h
            · exact ih _ _ h
            · exact h
            · exact h
          | row row args =>
            refine ⟨(fun h => by cases h), fun c cs _ => ?_⟩
            obtain ⟨v, w'', h1, h2⟩ := h c cs
            exact ⟨v, w'', ih _ _ h1, stepsIn_wide.2 h2⟩
          | _ => exact h.elim
        | halt x w' => cases x <;> first | exact h | exact h.elim
      · simp only [hw, if_false, Bool.false_eq_true] at h ⊢
        exact ⟨fun _ _ => trivial, ih _ _ h⟩

structure AWpR (P : Program) (c : Code) (Q : Exit → AS → Prop) (A : AS) : Prop where
  sem : ∀ r base w S m a, MA base w S m A → ARel base.old w S m a A.ts → c.wpIn (Fence.wide.inRound r) 0 P (Lift base w S Q) a w

theorem lift_out {Q : Exit → AS → Prop} (hno : ∀ A, ¬ Q .outgrown A) : ¬ LetsOut (Lift base w S Q) := fun ⟨_, _, A', _, _, h, _⟩ => hno A' h

theorem AWpR.region (hT : TabOk P T) {call : Oracle} (hcall : Sound P call) {id : Nat} {ops : Array Oper} {Q : Exit → AS → Prop} {A : AS} {s : St} (hd : noDef ops.toList = true) (hno : ∀ A, ¬ Q .outgrown A)
    (hs : aOps std T call ops.toList ops.toList ⟨A.ts, A.m, [], []⟩ = s) (hk : AllT s.ks) (hq : Q .normal ⟨wipe s.ts s.tg, s.m, A.np⟩) : AWpR P (.region id ops false) Q A := by
  subst hs
  refine ⟨fun r base w S m a hM hA => wpIn_region (wpOps_in hd (lift_out hno) r _ _ _ ?_)⟩
  have e : List.range ops.size = List.range' 0 ops.toList.length := by rw [List.range_eq_range']; simp
  rw [e]
  refine aOps_wp hT hcall ops.toList 0 (fun k => by simp) hM.rel (hA.start A.m) hk ?_
  intro a' w' S' m' hb hS hU hM' hF'
  exact ⟨_, S', m', hq, hb, hS, hU, ⟨hM', hM.pins⟩, hF'.wipe⟩

theorem AWpR.seq {x y : Code} {Q : Exit → AS → Prop} {A : AS} (h : AWpR P x (thenQ (AWpR P y Q) Q) A) : AWpR P (.seq x y) Q A := by
  refine ⟨fun r base w S m a hM hA => wpIn_seq (wpIn_mono (h.sem r base w S m a hM hA) ?_)⟩
  rintro e a' w' ⟨A', S', m', h1, h2, h3, h4, h5, h6⟩
  cases e with
  | normal => exact wpIn_mono (AWpR.sem h1 r base w' S' m' a' h5 h6) (fun e a w h => Lift.step h2 h3 h4 h)
  | _ => exact ⟨A', S', m', h1, h2, h3, h4, h5, h6⟩

theorem AWpR.block {id : Nat} {c : Code} {Q : Exit → AS → Prop} {A : AS} (h : AWpR P c (blockQ id Q) A) : AWpR P (.block id c) Q A := by
  refine ⟨fun r base w S m a hM hA => wpIn_block (wpIn_mono (h.sem r base w S m a hM hA) ?_)⟩
  rintro e a' w' ⟨A', S', m', h1, h2⟩
  cases e with
  | exit id' =>
    simp only [blockQ] at h1
    simp only [Exit.inBlock]
    split
    · rename_i hid; rw [if_pos hid] at h1; exact ⟨A', S', m', h1, h2⟩
    · rename_i hid; rw [if_neg hid] at h1; exact ⟨A', S', m', h1, h2⟩
  | _ => exact ⟨A', S', m', h1, h2⟩

def okR (o : OrT) : Code → Bool
  | .skip => true
  | .region id ops false => match o.fz id, noDef ops.toList with | [], true => true | _, _ => false
  | .seq a b => match okR o a, okR o b with | true, true => true | _, _ => false
  | .block _ c => okR o c
  | _ => false

theorem evT_round (hT : TabOk P T) {o : OrT} (ho : SoundT P o) : ∀ (c : Code), okR o c = true → ∀ (A : AS) (Q : Exit → AS → Prop), (∀ A, ¬ Q .outgrown A) → (evT std T o c A).wp (wpQ Q) → AWpR P c Q A := by
  intro c
  induction c with
  | skip => intro _ A Q _ h; exact ⟨fun r base w S m a hM hA => wpIn_skip (.here h hM hA)⟩
  | region id ops d =>
    intro hc A Q hno h
    cases d with
    | true => simp [okR] at hc
    | false =>
      simp only [okR] at hc
      split at hc
      case h_2 => cases hc
      rename_i hfz hnd
      simp only [evT, hfz, splT, evReg] at h
      obtain ⟨s', hs, h⟩ := Tree.wp_run (opsT_pl _ _ _ _ _ _) (Tree.wp_bind.1 h)
      obtain ⟨h1, h2⟩ := opsT_ok rfl hs
      obtain ⟨K, k1, k2⟩ := h2 [] trivial
      exact AWpR.region hT ho.old hnd hno k2 k1 h
  | seq x y ihx ihy =>
    intro hc A Q hno h
    simp only [okR] at hc
    split at hc
    case h_2 => cases hc
    rename_i h1 h2
    refine AWpR.seq (ihx h1 _ _ hno (Tree.wp_mono (Tree.wp_bind.1 h) ?_))
    rintro ⟨e, A'⟩ h
    cases e with
    | normal => exact ihy h2 _ _ hno h
    | _ => exact h
  | block id c ih =>
    intro hc A Q hno h
    refine AWpR.block (ih hc _ _ hno (Tree.wp_mono (Tree.wp_bind.1 h) ?_))
    rintro ⟨e, A'⟩ h
    cases e with
    | exit i =>
      show if i = id then _ else _
      simp only at h
      split at h
      · rename_i hi
        rw [if_pos (Nat.eq_of_beq_eq_true hi)]
        exact h
      · rename_i hi
        rw [if_neg (fun e => by rw [e, Nat.beq_refl] at hi; cases hi)]
        exact h
    | _ => exact h
  | _ => intro hc; cases hc

/-! The loop. -/
theorem cell_cells {b o : Nat} {v : Value} (h : w.cell? ⟨b, o, none⟩ = some v) : ∃ vs e f, w.heap[b]? = some (.cells vs e f) := by
  unfold World.cell? at h
  split at h
  · rename_i c e f hc; exact ⟨c, e, f, hc⟩
  · cases h

theorem BRel.monoC {w' : World} {S' : Nat → Prop} {m' : Locs} {l : Option Loc} {B : ABlk} (h : BRel w S m l B) (hS : ∀ b, S b → S' b) (hw : ∀ b o v, S b → w.cell? ⟨b, o, none⟩ = some v → w'.cell? ⟨b, o, none⟩ = some v)
    (hl : B ≠ .dead → ∀ l', l = some l' → w'.heap[l'.g]? = w.heap[l'.g]?) (hm : ∀ (i : Nat) (x : Option Loc), m[i]? = some x → m'[i]? = some x) : BRel w' S' m' l B := by
  cases B with
  | dead => trivial
  | cells e cs =>
    cases l with
    | none => exact h
    | some l => obtain ⟨vs, h1, h2, h3, h4⟩ := h; exact ⟨vs, (hl (by simp) l rfl).trans h1, h2, h3, fun i hi => (h4 i hi).monoC hS hw _ hm⟩
  | rows e sz n c =>
    cases l with
    | none => exact h
    | some l => obtain ⟨q1, q2, q3, q4, vs, h1, h2, h3⟩ := h; exact ⟨q1, q2, q3, q4, vs, (hl (by simp) l rfl).trans h1, h2, fun i hi j hj => ⟨(h3 i hi j hj).1, (h3 i hi j hj).2.monoC hS hw _ (fun _ _ h => h)⟩⟩
  | trows e t x =>
    cases l with
    | none => exact h
    | some l => obtain ⟨q1, q2, q3, q4, vs, h1, h2, h3⟩ := h; exact ⟨q1, q2, q3, q4, vs, (hl (by simp) l rfl).trans h1, h2, fun i hi j hj => ⟨(h3 i hi j hj).1, (h3 i hi j hj).2.monoC hS hw _ (fun _ _ h => h)⟩⟩
  | arr e t x =>
    cases l with
    | none => exact h
    | some l => obtain ⟨vs, h1, h2, h3⟩ := h; exact ⟨vs, (hl (by simp) l rfl).trans h1, h2, fun i hi => ⟨(h3 i hi).1, (h3 i hi).2.monoC hS hw _ (fun _ _ h => h)⟩⟩
  | siter s pos =>
    cases l with
    | none => exact h
    | some l => exact ⟨(hl (by simp) l rfl).trans h.1, h.2⟩

def deads : Nat → Mem
  | 0 => []
  | k + 1 => .dead :: deads k
theorem deads_len (k : Nat) : (deads k).length = k := by induction k with | zero => rfl | succ k ih => simp [deads, ih]
theorem blk_app (M N : Mem) (i : Nat) : blk (M ++ N) i = if i < M.length then blk M i else blk N (i - M.length) := by
  rw [blk_eq, blk_eq, blk_eq]
  simp only [List.getD_eq_getElem?_getD, List.getElem?_append]
  split <;> rfl
theorem blk_deads (k : Nat) (N : Mem) (i : Nat) : blk (deads k ++ N) i = if i < k then .dead else blk N (i - k) := by
  rw [blk_app, deads_len]
  split
  · rename_i h
    induction k generalizing i with
    | zero => omega
    | succ k ih => cases i with
      | zero => rfl
      | succ i => exact ih i (by omega)
  · rfl

/-- The memory of such a loop: a box that holds a slice, and the slice's rows. -/
def boxM (e k e' : Nat) (u : Ty) (l : List (El u)) : Mem := [.cells e [.ownT (k + 1)], .trows e' u l]
theorem blk_box {e k e' : Nat} {u : Ty} {l : List (El u)} (j : Nat) : (j = 0 ∧ blk (boxM e k e' u l) j = .cells e [.ownT (k + 1)]) ∨ (j = 1 ∧ blk (boxM e k e' u l) j = .trows e' u l) ∨ (2 ≤ j ∧ blk (boxM e k e' u l) j = .dead) := by
  match j with
  | 0 => exact .inl ⟨rfl, rfl⟩
  | 1 => exact .inr (.inl ⟨rfl, rfl⟩)
  | j + 2 => exact .inr (.inr ⟨by omega, rfl⟩)

def hid (k : Nat) (m : Locs) : Locs := List.replicate k none ++ m.drop k
theorem hid_lt {k : Nat} {m : Locs} (hk : k ≤ m.length) {i : Nat} (h : i < k) : (hid k m)[i]? = some none := by
  unfold hid; rw [List.getElem?_append_left (by simpa using h)]; simp [h]
theorem hid_ge {k : Nat} {m : Locs} {i : Nat} (h : k ≤ i) : (hid k m)[i]? = m[i]? := by
  unfold hid
  rw [List.getElem?_append_right (by simpa using h), List.getElem?_drop]
  simp only [List.length_replicate]
  congr 1; omega

/-- The lower blocks out of sight. -/
theorem MRel.low {E : Env} {k e e' : Nat} {u : Ty} {l : List (El u)} {Mo : Mem} (h : MRel base w S m (Mo ++ boxM e k e' u l)) (hk : Mo.length = k) (hZ : ∀ (i : Nat) (x : Loc), k ≤ i → m[i]? = some (some x) → ¬ E.Z x.g) (hle : ∀ b, E.Z b → b < w.heap.size)
    (hp : ∀ (i : Nat) (x : Loc), E.pin i = some x → i = k ∧ m[k]? = some (some x)) : MRel E w S (hid k m) (deads k ++ boxM e k e' u l) := by
  have hlen : m.length = k + 2 := by rw [h.len, lenM_eq, List.length_append, hk]; rfl
  have hget : ∀ {i : Nat} {x : Loc}, (hid k m)[i]? = some (some x) → k ≤ i ∧ m[i]? = some (some x) := fun {i x} hi => by
    by_cases hik : i < k
    · rw [hid_lt (by omega) hik] at hi; cases hi
    · rw [hid_ge (by omega)] at hi; exact ⟨by omega, hi⟩
  refine ⟨?_, h.sb, fun i x hi => ?_, fun i x hi => ?_, fun i j x x' hi hj => h.inj i j x x' (hget hi).2 (hget hj).2, hle, h.gok, fun i x hi => ?_⟩
  · rw [lenM_eq, List.length_append, deads_len]; simp [hid, hlen, boxM]
  · rw [blk_deads]
    split
    · trivial
    · rename_i hik
      rw [hid_ge (by omega)] at hi
      have hb := h.bk i x hi
      rw [blk_app, hk, if_neg hik] at hb
      rcases blk_box (e := e) (k := k) (e' := e') (u := u) (l := l) (i - k) with ⟨hj, e1⟩ | ⟨hj, e1⟩ | ⟨hj, e1⟩
      · rw [e1] at hb ⊢
        cases x with
        | none => exact hb
        | some x =>
          obtain ⟨vs, h1, h2, h3, h4⟩ := hb
          refine ⟨vs, h1, h2, h3, fun q hq => ?_⟩
          have hr := h4 q hq
          have hq0 : q = 0 := by simp [lenA] at hq; omega
          subst hq0
          change Rel w S m _ (.ownT (k + 1)) at hr
          change Rel w S (hid k m) _ (.ownT (k + 1))
          generalize vs.getD 0 Go.undef = v at hr ⊢
          cases hr with
          | ownT0 _ a _ h => exact .ownT0 _ _ _ (by rw [hid_ge (by omega)]; exact h)
          | ownT _ _ l h hc => exact .ownT _ _ _ (by rw [hid_ge (by omega)]; exact h) hc
      · rw [e1] at hb ⊢
        cases x <;> exact hb
      · rw [e1]; cases x <;> trivial
  · obtain ⟨h1, h2⟩ := hget hi
    exact ⟨hZ i x h1 h2, (h.lt i x h2).2⟩
  · obtain ⟨rfl, h2⟩ := hp i x hi
    refine ⟨by rw [hid_ge (Nat.le_refl _)]; exact h2, ?_⟩
    rw [blk_deads, if_neg (Nat.lt_irrefl _), Nat.sub_self]; rfl

theorem MRel.own_cells {k e e' : Nat} {u : Ty} {l : List (El u)} {Mo : Mem} (h : MRel base w S m (Mo ++ boxM e k e' u l)) (hk : Mo.length = k) {i : Nat} {x : Loc} (hki : k ≤ i) (hi : m[i]? = some (some x)) : ∃ vs t, w.heap[x.g]? = some (.cells vs t (0, 0)) := by
  have hlen : m.length = k + 2 := by rw [h.len, lenM_eq, List.length_append, hk]; rfl
  have hilt := (List.getElem?_eq_some_iff.1 hi).1
  have hb := h.bk i _ hi
  rw [blk_app, hk, if_neg (by omega)] at hb
  rcases blk_box (e := e) (k := k) (e' := e') (u := u) (l := l) (i - k) with ⟨hj, e1⟩ | ⟨hj, e1⟩ | ⟨hj, e1⟩
  · rw [e1] at hb; obtain ⟨vs, h1, _⟩ := hb; exact ⟨vs, _, h1⟩
  · rw [e1] at hb; obtain ⟨_, _, _, _, vs, h1, _⟩ := hb; exact ⟨vs, _, h1⟩
  · omega

/-- Which values stand through such a loop. -/
def highV (k : Nat) (v : AV) : Bool :=
  match outside v with
  | true => true
  | false => match v with
    | .ref b 0 => Nat.beq b k
    | _ => false
def hideL (k : Nat) : List AV → List AV
  | [] => []
  | v :: l => match highV k v with | true => v :: hideL k l | false => .undef :: hideL k l
def lowOk (k : Nat) : List AV → Bool
  | [] => true
  | v :: l => match highV k v with
    | true => lowOk k l
    | false => match closedN k 4 v with | true => lowOk k l | false => false
theorem hideL_len (k : Nat) (l : List AV) : lenA (hideL k l) = lenA l := by
  induction l with
  | nil => rfl
  | cons v l ih => simp only [hideL]; split <;> simp [lenA, ih]
theorem hideL_nth (k : Nat) (l : List AV) (t : Nat) : nth (hideL k l) t = .undef ∨ (highV k (nth l t) = true ∧ nth (hideL k l) t = nth l t) := by
  induction l generalizing t with
  | nil => exact .inl rfl
  | cons v l ih =>
    simp only [hideL]
    split
    · rename_i hv
      cases t with
      | zero => exact .inr ⟨hv, rfl⟩
      | succ t => exact ih t
    · cases t with
      | zero => exact .inl rfl
      | succ t => exact ih t
theorem lowOk_nth (k : Nat) {l : List AV} (h : lowOk k l = true) (t : Nat) : highV k (nth l t) = true ∨ closedN k 4 (nth l t) = true := by
  induction l generalizing t with
  | nil => exact .inr rfl
  | cons v l ih =>
    simp only [lowOk] at h
    split at h
    · rename_i hv
      cases t with
      | zero => exact .inl hv
      | succ t => exact ih h t
    · split at h
      · rename_i hv
        cases t with
        | zero => exact .inr hv
        | succ t => exact ih h t
      · cases h
theorem highV_ok {k : Nat} {a : AV} (h : highV k a = true) : outside a = true ∨ a = .ref k 0 := by
  unfold highV at h
  split at h
  · rename_i ho; exact .inl ho
  · split at h
    · rename_i b _; exact .inr (by rw [Nat.eq_of_beq_eq_true h])
    · cases h

/-- What stands: in another world in which the shared blocks and the box lie as they lay. -/
theorem Rel.high {w' : World} {S' : Nat → Prop} {m' : Locs} {k : Nat} {lc : Loc} {v : Value} {a : AV} (h : Rel w S m v a) (ha : highV k a = true) (hS : ∀ b, S b → S' b) (hw : ∀ b, S b → w'.heap[b]? = w.heap[b]?) (h1 : m[k]? = some (some lc)) (h2 : m'[k]? = some (some lc)) : Rel w' S' m' v a := by
  rcases highV_ok ha with ho | rfl
  · exact ((h.out ho []).mono hS hw _ (fun _ _ h => by simp at h))
  · cases h with
    | ref _ _ _ l h => rw [h1] at h; injection h with h; injection h with h; subst h; exact .ref _ _ _ _ h2

theorem AWp.range {α : Type} {g : Operand} {ps : Array Tmp} {asg body : Code} {A : AS} {Q : Exit → AS → Prop} (k : Nat) {Mo : Mem} {e e' : Nat} {u : Ty} (f : List α → List (El u)) (hAm : A.m = Mo ++ boxM e k e' u (f [])) (hk : Mo.length = k) (hMo : closedM k Mo = true)
    {gf : Nat} {caps : List AV} (hg : opnd A.ts g = .fn (.func gf) [] caps) (hcaps : allOutside caps = true) (eg : ∀ args w, (callFunc gf args).run P w = .ok (.enter gf args) w) {encs : α → Array Value} (hps : ∀ x, (encs x).size = ps.size) {N : Nat} {Sx : List α → Prop}
    (hit : ∀ (w : World) (S : Nat → Prop) (lb : Array Value), GL w → (∀ b, S b → b < w.heap.size) → RelL w S [] lb caps → SeqStopsK Fence.wide 1 P gf lb encs (fun W W' => ∀ b, S b → W'.heap[b]? = W.heap[b]?) Sx (fun _ => True) N w)
    (hlow : lowOk k A.ts = true) (a₁ : Array Value → α → Act) (tsx : α → List AV) (ha₁ : ∀ w S m (ts : Array Value) x, ARel (fun _ => False) w S m { tmps := ts, defers := [] } (hideL k A.ts) → ARel (fun _ => False) w S m (a₁ ts x) (tsx x))
    (hasg : ∀ r (ts : Array Value) x W (K : Act → World → Prop), ts.size = lenA A.ts → K (a₁ ts x) W → asg.wpIn (Fence.wide.inRound r) 0 P (Exit.then K (fun _ _ _ => False)) { tmps := (ps.zip (encs x)).foldl (fun t (p, v) => t.setIfInBounds p v) ts, defers := [] } W)
    (hbody : ∀ pre x, pre.length < N → AWpR P body (fun ex A' => ex = .normal ∧ ∃ ts', ALe A' ⟨ts', deads k ++ boxM e k e' u (f (pre ++ [x])), k + 1⟩) ⟨tsx x, deads k ++ boxM e k e' u (f pre), k + 1⟩)
    (hq : ∀ xs, Sx xs → Q .normal ⟨A.ts, Mo ++ boxM e k e' u (f xs), A.np⟩) : AWp P (.rangeFunc g ps asg body) Q A := by
  refine ⟨fun base w S m a hM hAR => (wpIn_wide (n := 2)).1 ?_⟩
  have hM' := hM.rel
  rw [hAm] at hM'
  have hlen : m.length = k + 2 := by rw [hM'.len, lenM_eq, List.length_append, hk]; rfl
  -- the box
  obtain ⟨lc, hlc⟩ : ∃ lc, m[k]? = some (some lc) := by
    obtain ⟨ol, hol⟩ : ∃ ol, m[k]? = some ol := ⟨m[k]'(by omega), List.getElem?_eq_getElem _⟩
    have hb := hM'.bk k ol hol
    rw [blk_app, hk, if_neg (Nat.lt_irrefl _), Nat.sub_self] at hb
    cases ol with
    | none => exact hb.elim
    | some l => exact ⟨l, hol⟩
  -- what a round may not touch
  let E : Env := ⟨fun b => base.Z b ∨ S b ∨ ∃ i l, i < k ∧ m[i]? = some (some l) ∧ b = l.g, fun i => if i = k then some lc else none, fun g hg => .inl (base.gz g hg), fun _ => False, fun _ h => h.elim⟩
  have hEle : ∀ b, E.Z b → b < w.heap.size := fun b h => by
    rcases h with h | h | ⟨i, l, _, h, rfl⟩
    · exact hM'.base_le b h
    · exact hM'.sb b h
    · exact (hM'.lt i l h).2.1
  have hEnot : ∀ i l, k ≤ i → m[i]? = some (some l) → ¬ E.Z l.g := fun i l hi hl h => by
    rcases h with h | h | ⟨j, l', hj, h, e⟩
    · exact (hM'.lt i l hl).1 h
    · exact (hM'.lt i l hl).2.2 h
    · have := hM'.inj i j l l' hl h e; omega
  have hEp : ∀ {m' : Locs}, m'[k]? = some (some lc) → ∀ i x, E.pin i = some x → i = k ∧ m'[k]? = some (some x) := fun {m'} h i x hi => by
    have hi : (if i = k then some lc else none) = some x := hi
    split at hi
    · rename_i e; cases hi; exact ⟨e, h⟩
    · cases hi
  have hEk : E.pin k = some lc := if_pos rfl
  have hME : MRel E w S (hid k m) (deads k ++ boxM e k e' u (f [])) := hM'.low hk hEnot hEle (hEp hlc)
  -- the iterator
  have hgr := opnd_rel' (a := a) (ts := A.ts) (m := m) (w := w) (S := S) g (fun t _ => hAR.2.2 t)
  rw [hg] at hgr
  obtain ⟨lb, hlb, hrl⟩ : ∃ lb, a.eval g = .func (.func gf) #[] lb ∧ RelL w S [] lb caps := by
    generalize a.eval g = v at hgr
    cases hgr with
    | fn _ _ fs cs _ _ hl hl' _ _ h h' =>
      have : fs = #[] := Array.eq_empty_of_size_eq_zero hl
      subst this
      exact ⟨cs, rfl, hl', fun i hi => (h' i hi).out (allOutside_nth hcaps hi) []⟩
  let I : List α → World → Prop := fun pre W => ∃ S' m', (∀ b, S b → S' b) ∧ (∀ b, S' b → S b ∨ ¬ E.Z b) ∧ Prot E.Z w W ∧ MRel E W S' m' (deads k ++ boxM e k e' u (f pre))
  have hI0 : I [] w := ⟨S, hid k m, fun _ h => h, fun _ h => .inl h, Prot.refl _ _, hME⟩
  have hIown : OwnFrom w.heap.size I := by
    rintro pre W W' row ⟨S', m', h1, h2, h3, h4⟩ hgr hrow
    have hsame : ∀ b, b < W.heap.size → (∀ r, row = some r → b ≠ r) → W'.heap[b]? = W.heap[b]? := fun b hb hne => hgr.block b hb (fun e => hne b e.symm rfl)
    have hZ : ∀ b, E.Z b → W'.heap[b]? = W.heap[b]? := fun b hb => hsame b (h4.base_le b hb) fun r hr e => by have := (hrow r hr).1; have := hEle b hb; omega
    have hcells : ∀ (b : Nat) (vs : Array Value) (t : TypeId) (fz : Nat × Nat), W.heap[b]? = some (Obj.cells vs t fz) → W'.heap[b]? = W.heap[b]? := fun b vs t fz hb => hsame b (Array.getElem?_eq_some_iff.1 hb).1 fun r hr e => by
      subst e
      obtain ⟨_, o, ho, hc⟩ := hrow b hr
      rw [hb] at ho; cases ho; cases hc
    refine ⟨S', m', h1, h2, h3.trans ⟨hgr.os, hgr.tape, hgr.output, hgr.size, hZ⟩, ⟨h4.len, fun b hb => Nat.lt_of_lt_of_le (h4.sb b hb) hgr.size, fun i l hi => ?_, fun i l hi => have q := h4.lt i l hi; ⟨q.1, Nat.lt_of_lt_of_le q.2.1 hgr.size, q.2.2⟩, h4.inj, fun b hb => Nat.lt_of_lt_of_le (h4.base_le b hb) hgr.size, h4.gl hZ, h4.pin⟩⟩
    refine BRel.monoC (h4.bk i l hi) (fun _ h => h) (fun b o v _ hc => ?_) (fun hne l' e => ?_) (fun _ _ h => h)
    · obtain ⟨vs, t, fz, hb⟩ := cell_cells hc
      rw [← hc]; exact World.cell?_of_block (hcells b vs t fz hb)
    · subst e
      by_cases hik : k ≤ i
      · obtain ⟨vs, t, hb⟩ := h4.own_cells (deads_len k) hik hi
        exact hcells _ _ _ _ hb
      · exact absurd (by rw [blk_deads, if_pos (by omega)]) hne
  refine wpIn_rangeFunc_ownG (F := Fence.wide) (n := 2) rfl (by omega) hlb trivial eg (hit w S lb hM'.gok hM'.sb hrl) (fun h k b hb => (k b hb).trans (h b hb)) (fun W l o o' hl h _ _ b hb => World.putObj_heap_other (by have := hM'.sb b hb; omega)) (Below.refl _ _) hps
    I (fun _ _ _ => False) hIown (fun _ _ _ _ _ h _ _ => h) hI0 (a₁ a.tmps) (fun l x W K hK => hasg l a.tmps x W K hAR.1 hK) ?_ ?_ (fun _ _ _ _ _ _ h _ => h.elim)
  · -- a round
    rintro l pre x W ⟨S', m', h1, h2, h3, h4⟩ hlt
    let E' : Env := ⟨fun b => E.Z b ∨ S' b ∨ ∃ o, W.heap[b]? = some o ∧ o.isCells = false, E.pin, fun g hg => .inl (E.gz g hg), fun _ => False, fun _ h => h.elim⟩
    have hmk : m'[k]? = some (some lc) := (h4.pin k lc hEk).1
    have hM2 : MRel E' W S' (hid k m') (deads k ++ boxM e k e' u (f pre)) := by
      refine h4.low (deads_len k) (fun i y hi hy h => ?_) (fun b h => ?_) (hEp hmk)
      · rcases h with h | h | ⟨o, ho, hc⟩
        · exact (h4.lt i y hy).1 h
        · exact (h4.lt i y hy).2.2 h
        · obtain ⟨vs, t, hb⟩ := h4.own_cells (deads_len k) hi hy
          rw [hb] at ho; cases ho; cases hc
      · rcases h with h | h | ⟨o, ho, hc⟩
        · exact h4.base_le b h
        · exact h4.sb b h
        · exact (Array.getElem?_eq_some_iff.1 ho).1
    have hA2 : ARel (fun _ => False) W S' (hid k m') (a₁ a.tmps x) (tsx x) := by
      refine ha₁ _ _ _ _ _ ⟨by rw [hideL_len]; exact hAR.1, Marks.nil _ _ _, fun t => ?_⟩
      rcases hideL_nth k A.ts t with ht | ⟨hv, ht⟩
      · rw [ht]; exact .undef _ _
      · rw [ht]; exact (hAR.2.2 t).high hv h1 (fun b hb => h3.block b (.inr (.inl hb))) hlc (by rw [hid_ge (Nat.le_refl _)]; exact hmk)
    refine wpIn_mono ((hbody pre x hlt).sem l E' W S' (hid k m') _ ⟨hM2, fun i y hi => by have := (hEp hmk i y hi).1; show i < k + 1; omega⟩ hA2) ?_
    rintro ex a3 W3 ⟨A', S3, m3, ⟨rfl, ts', hle⟩, hP, hS3, hU3, hMA3, hAR3⟩
    obtain ⟨S4, m4, q1, q2, q3, q4⟩ := hle E' W3 S3 m3 a3 hMA3 hAR3
    have hq3 := q3.rel
    refine ⟨⟨hP.size, fun j o hj ho hc => (hP.block j (.inr (.inr ⟨o, ho, hc⟩))).trans ho⟩, fun b hb => hP.block b (.inl (.inr (.inl hb))), S4, hid k m4, fun b hb => q1 b (hS3 b (h1 b hb)), fun b hb => ?_, h3.trans (hP.mono fun _ h => .inl h), ?_⟩
    · rcases q2 b hb with h | h
      · rcases hU3 b h with h | h
        · exact h2 b h
        · exact .inr fun h' => h (.inl h')
      · exact .inr fun h' => h (.inl h')
    · exact hq3.low (deads_len k) (fun i y hi hy h => (hq3.lt i y hy).1 (.inl h)) (fun b h => hq3.base_le b (.inl h)) (hEp (hq3.pin k lc hEk).1)
  · -- behind the loop
    rintro D xs W hD hS ⟨S', m', h1, h2, h3, h4⟩ hK
    have hmk : m'[k]? = some (some lc) := (h4.pin k lc hEk).1
    have hlen' : m'.length = k + 2 := by rw [h4.len, lenM_eq, List.length_append, deads_len]; rfl
    have hDlt : D < W.heap.size := (Array.getElem?_eq_some_iff.1 hK).1
    have hg1 : ∀ {i : Nat}, i < k → (m.take k ++ m'.drop k)[i]? = m[i]? := fun {i} hi => by
      rw [List.getElem?_append_left (by rw [List.length_take]; omega), List.getElem?_take_of_lt hi]
    have hg2 : ∀ {i : Nat}, k ≤ i → (m.take k ++ m'.drop k)[i]? = m'[i]? := fun {i} hi => by
      rw [List.getElem?_append_right (by rw [List.length_take]; omega), List.getElem?_drop, List.length_take]
      congr 1; omega
    have hSw : ∀ b, S b → W.heap[b]? = w.heap[b]? := fun b hb => h3.block b (.inr (.inl hb))
    have hZD : ¬ base.Z D := fun h => by have := hM'.base_le D h; omega
    have htk : ∀ i x, (m.take k)[i]? = some x → (m.take k ++ m'.drop k)[i]? = some x := fun i x hi => by
      have hlt : i < k := by have := (List.getElem?_eq_some_iff.1 hi).1; rw [List.length_take] at this; omega
      rw [hg1 hlt, ← hi, List.getElem?_take_of_lt hlt]
    refine ⟨⟨A.ts, Mo ++ boxM e k e' u (f xs), A.np⟩, fun b => S' b ∨ b = D, m.take k ++ m'.drop k, hq xs hS, h3.mono fun _ h => .inl h, fun b hb => .inl (h1 b hb), ?_, ⟨?_, hM.pins⟩, hAR.1, ?_, fun t => ?_⟩
    · rintro b (h | rfl)
      · exact (h2 b h).imp id fun h h' => h (.inl h')
      · exact .inr hZD
    · refine ⟨?_, ?_, fun i l hi => ?_, fun i l hi => ?_, fun i j l l' hi hj hll => ?_, fun b hb => Nat.lt_of_lt_of_le (hM'.base_le b hb) h3.size, h4.gok, fun i l hi => ?_⟩
      · rw [lenM_eq, List.length_append, List.length_append, List.length_take, List.length_drop, hk, hlen, hlen']; simp [boxM]
      · rintro b (h | rfl)
        · exact h4.sb b h
        · exact hDlt
      · rw [blk_app, hk]
        by_cases hik : i < k
        · rw [if_pos hik]
          rw [hg1 hik] at hi
          have hb := hM'.bk i l hi
          rw [blk_app, hk, if_pos hik] at hb
          refine BRel.monoC (BRel.take hb fun e cs he => closedM_blk hMo he) (fun b hb => .inl (h1 b hb)) (fun b o v hb hc => by rw [← hc]; exact World.cell?_of_block (hSw b hb)) (fun _ l' e => ?_) htk
          subst e
          exact h3.block _ (.inr (.inr ⟨i, l', hik, hi, rfl⟩))
        · rw [if_neg hik]
          rw [hg2 (by omega)] at hi
          have hb := h4.bk i l hi
          rw [blk_deads, if_neg hik] at hb
          rcases blk_box (e := e) (k := k) (e' := e') (u := u) (l := f xs) (i - k) with ⟨hj, e1⟩ | ⟨hj, e1⟩ | ⟨hj, e1⟩
          · rw [e1] at hb ⊢
            cases l with
            | none => exact hb
            | some x =>
              obtain ⟨vs, p1, p2, p3, p4⟩ := hb
              refine ⟨vs, p1, p2, p3, fun q hq => ?_⟩
              have hr := p4 q hq
              have hq0 : q = 0 := by simp [lenA] at hq; omega
              subst hq0
              change Rel W S' m' _ (.ownT (k + 1)) at hr
              change Rel W _ _ _ (.ownT (k + 1))
              generalize vs.getD 0 Go.undef = v at hr ⊢
              cases hr with
              | ownT0 _ a _ h => exact .ownT0 _ _ _ (by rw [hg2 (by omega)]; exact h)
              | ownT _ _ l h hc => exact .ownT _ _ _ (by rw [hg2 (by omega)]; exact h) hc
          · rw [e1] at hb ⊢
            cases l with
            | none => exact hb
            | some x => obtain ⟨p1, p2, p3, p4, vs, p5, p6, p7⟩ := hb; exact ⟨p1, p2, p3, p4, vs, p5, p6, fun i hi j hj => ⟨(p7 i hi j hj).1, (p7 i hi j hj).2.mono (fun _ h => .inl h) (fun _ _ => rfl) _ (fun _ _ h => h)⟩⟩
          · rw [e1]; cases l <;> trivial
      · by_cases hik : i < k
        · rw [hg1 hik] at hi
          have q := hM'.lt i l hi
          refine ⟨q.1, Nat.lt_of_lt_of_le q.2.1 h3.size, fun h => ?_⟩
          rcases h with h | h
          · rcases h2 _ h with h | h
            · exact q.2.2 h
            · exact h (.inr (.inr ⟨i, l, hik, hi, rfl⟩))
          · omega
        · rw [hg2 (by omega)] at hi
          have q := h4.lt i l hi
          refine ⟨fun h => q.1 (.inl h), q.2.1, fun h => ?_⟩
          rcases h with h | h
          · exact q.2.2 h
          · obtain ⟨vs, t, hb⟩ := h4.own_cells (deads_len k) (by omega) hi
            rw [h, hK] at hb; cases hb
      · by_cases hik : i < k <;> by_cases hjk : j < k
        · rw [hg1 hik] at hi; rw [hg1 hjk] at hj; exact hM'.inj i j l l' hi hj hll
        · rw [hg1 hik] at hi; rw [hg2 (by omega)] at hj
          exact absurd (.inr (.inr ⟨i, l, hik, hi, hll.symm⟩)) (h4.lt j l' hj).1
        · rw [hg2 (by omega)] at hi; rw [hg1 hjk] at hj
          exact absurd (.inr (.inr ⟨j, l', hjk, hj, hll⟩)) (h4.lt i l hi).1
        · rw [hg2 (by omega)] at hi; rw [hg2 (by omega)] at hj; exact h4.inj i j l l' hi hj hll
      · obtain ⟨p1, p2⟩ := hM'.pin i l hi
        rw [blk_app, hk] at p2 ⊢
        by_cases hik : i < k
        · rw [if_pos hik] at p2 ⊢; rw [hg1 hik]; exact ⟨p1, p2⟩
        · rw [if_neg hik] at p2 ⊢
          rw [hg2 (by omega)]
          rcases blk_box (e := e) (k := k) (e' := e') (u := u) (l := f []) (i - k) with ⟨hj, e1⟩ | ⟨hj, e1⟩ | ⟨hj, e1⟩
          · have : i = k := by omega
            subst this
            rw [hlc] at p1; injection p1 with p1; injection p1 with p1; subst p1
            refine ⟨hmk, ?_⟩
            rw [Nat.sub_self]; rfl
          · rw [e1] at p2; cases p2
          · rw [e1] at p2; cases p2
    · refine ⟨List.nodup_cons.2 ⟨fun h => ?_, hAR.2.1.1⟩, fun d hd => ?_⟩
      · obtain ⟨D', e1, p1, p2, p3⟩ := hAR.2.1.2 _ h
        injection e1 with e1 _
        injection e1 with e1
        have := hM'.sb D' p1
        omega
      · rcases List.mem_cons.1 hd with rfl | hd
        · exact ⟨D, rfl, .inr rfl, fun h => hZD (base.oz D h), hK⟩
        · obtain ⟨D', e1, p1, p2, p3⟩ := hAR.2.1.2 d hd
          exact ⟨D', e1, .inl (h1 D' p1), p2, (hSw D' p1).trans p3⟩
    · rcases lowOk_nth k hlow t with hv | hv
      · exact (hAR.2.2 t).high hv (fun b hb => .inl (h1 b hb)) hSw hlc (by rw [hg2 (Nat.le_refl _)]; exact hmk)
      · exact ((hAR.2.2 t).take 4 hv).mono (fun b hb => .inl (h1 b hb)) hSw _ htk

end Go.Eng
