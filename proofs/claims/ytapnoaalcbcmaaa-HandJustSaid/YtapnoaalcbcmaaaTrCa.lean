/- Regions that draw their order, and write. -/
import Derived.Test.YtapnoaalcbcmaaaTrC
namespace Go.Eng
open Go Go.RowKit

variable {P : Program} {T : Tab} {base : Env} {w : World} {S : Nat → Prop} {m : Locs}

/-- A step of a tree is a step of the elder table. -/
theorem stepT_rel {o : OrT} {all : List Oper} {s s' : St} {op : Oper} (hs : s.ks = []) (h : (stepT std T o all s op).run = some s') :
    s'.ks = [] ∧ AllT (aOper std T o.old all s op).ks ∧ (aOper std T o.old all s op).ts = s'.ts ∧ (aOper std T o.old all s op).m = s'.m ∧ (aOper std T o.old all s op).tg = s'.tg := by
  obtain ⟨C, v, m1, ks, inv, q1, q2, q3⟩ := stepT_ok hs h
  obtain ⟨ts, m, tg, k⟩ := s
  simp only at hs; subst hs
  rw [aOper_pre, q1]
  subst q3
  exact ⟨rfl, q2, rfl, rfl, rfl⟩

theorem frel_eq {a : Act} {s s' : St} (h : FRel base.old w S m a s) (e1 : s.ts = s'.ts) (e2 : s.tg = s'.tg) : FRel base.old w S m a s' := by
  obtain ⟨ts, M, tg, ks⟩ := s
  obtain ⟨ts', M', tg', ks'⟩ := s'
  simp only at e1 e2; subst e1 e2
  exact ⟨h.size, h.defers, h.rel, h.skip⟩

theorem bothL_wp {f : Nat → Tree St} {Q : St → Prop} : ∀ {l : List Nat}, (bothL f l).wp Q → ∀ i ∈ l, (f i).wp Q
  | [], _, i, hi => by cases hi
  | [j], h, i, hi => by rw [List.mem_singleton.1 hi]; exact h
  | j :: k :: l, h, i, hi => by
    rcases List.mem_cons.1 hi with e | hi
    · subst e; exact h.1
    · exact bothL_wp h.2 i hi

theorem useOk_nil {tg : Tags} : ∀ {l : List Operand}, useOk tg [] l = true → ∀ t, Operand.tmp t ∈ l → tagOf tg t = []
  | [], _, t, h => by cases h
  | x :: l, h, t, ht => by
    cases x with
    | tmp u =>
      simp only [useOk] at h
      split at h
      · rename_i hp
        rcases List.mem_cons.1 ht with e | ht
        · injection e with e; subst e
          cases hC : tagOf tg t with
          | nil => rfl
          | cons y C => rw [hC] at hp; simp [isPre] at hp
        · exact useOk_nil h t ht
      · cases h
    | _ =>
      simp only [useOk] at h
      rcases List.mem_cons.1 ht with e | ht
      · cases e
      · exact useOk_nil h t ht

theorem guardCall_some {o : OrT} {ops : Array Oper} {s : St} {op : Oper} {g : Bool} {d : Nat} {b : Bool} (h : guardCall std o ops s op = some (g, d, b)) :
    ∃ j, op.guard = some (j, b) ∧ (ops[j]?).bind (·.dst) = some d ∧ tagOf s.tg d = [] ∧ litOf std s.ts d b = some g ∧ ∃ c, op.op = .call c := by
  unfold guardCall at h
  split at h
  case h_2 => cases h
  rename_i hop
  split at h
  case h_2 => cases h
  rename_i j b' hg
  split at h
  case h_2 => cases h
  split at h
  case h_2 => cases h
  split at h
  case h_2 => cases h
  rename_i d' op' ty pos af gu hd
  split at h
  case h_2 => cases h
  rename_i g' ht hl
  cases h
  rw [nthO_eq, Array.getElem?_toList] at hd
  exact ⟨j, hg, by rw [hd]; rfl, ht, hl, _, hop⟩
theorem lit_on {v : Value} {ts : List AV} {d : Nat} {b : Bool} (h : Rel w S m v (nth ts d)) (hl : litOf std ts d b = some true) : v = .bool b := by
  unfold litOf at hl
  split at hl
  · rename_i x hx; rw [hx] at h; cases h; cases hl; rfl
  · rename_i x hx; rw [hx] at h; cases h; injection hl with hl; simp [std] at hl; rw [hl]
  · cases hl
theorem lit_off {v : Value} {ts : List AV} {d : Nat} {b : Bool} (h : Rel w S m v (nth ts d)) (hl : litOf std ts d b = some false) : v ≠ .bool b := by
  unfold litOf at hl
  split at hl
  · rename_i x hx; rw [hx] at h; cases h; cases hl; simp
  · rename_i x hx; rw [hx] at h; cases h; injection hl with hl; simp [std] at hl; rw [hl]; simp
  · cases hl
theorem untag_tag (d : Nat) (b : Bool) (tg : Tags) (t : Nat) : tagOf (untag d b tg) t = tagOf tg t ∨ (tagOf (untag d b tg) t = [] ∧ tagOf tg t = [(d, b)]) := by
  induction tg with
  | nil => exact .inl rfl
  | cons x l ih =>
    have same : ∀ c, untag d b ((x.1, c) :: l) = (x.1, c) :: untag d b l → tagOf (untag d b ((x.1, c) :: l)) t = tagOf ((x.1, c) :: l) t ∨ (tagOf (untag d b ((x.1, c) :: l)) t = [] ∧ tagOf ((x.1, c) :: l) t = [(d, b)]) := fun c e => by
      rw [e]; simp only [tagOf]; split
      · exact .inl rfl
      · exact ih
    have cut : ∀ e c, e = d → c = b → untag d b ((x.1, [(e, c)]) :: l) = (x.1, []) :: untag d b l → tagOf (untag d b ((x.1, [(e, c)]) :: l)) t = tagOf ((x.1, [(e, c)]) :: l) t ∨ (tagOf (untag d b ((x.1, [(e, c)]) :: l)) t = [] ∧ tagOf ((x.1, [(e, c)]) :: l) t = [(d, b)]) := fun e c h1 h2 h => by
      rw [h]; simp only [tagOf]; split
      · exact .inr ⟨rfl, by rw [h1, h2]⟩
      · exact ih
    obtain ⟨u, C⟩ := x
    match C with
    | [] => exact same [] rfl
    | [(e, c)] =>
      cases hb : Nat.beq e d with
      | false => exact same _ (by simp only [untag, hb])
      | true =>
        have he := Nat.eq_of_beq_eq_true hb
        cases c <;> cases b
        · exact cut e _ he rfl (by simp only [untag, hb])
        · exact same _ (by simp only [untag, hb])
        · exact same _ (by simp only [untag, hb])
        · exact cut e _ he rfl (by simp only [untag, hb])
    | y :: z :: C => exact same _ rfl
theorem frel_untag {a : Act} {s : St} {d : Nat} {b : Bool} (h : FRel base.old w S m a s) (hd : a.tmps.getD d Go.undef = .bool b) : FRel base.old w S m a (untagS d b s) := by
  have key : ∀ t, holds a (tagOf (untag d b s.tg) t) → holds a (tagOf s.tg t) := fun t ht => by
    rcases untag_tag d b s.tg t with e | ⟨_, e⟩
    · rw [← e]; exact ht
    · rw [e]; intro u c hm; rw [List.mem_singleton] at hm; cases hm; exact hd
  refine ⟨h.size, h.defers, fun t ht => h.rel t (key t ht), fun t => ?_⟩
  rcases h.skip t with e | e
  · refine .inl ?_
    rcases untag_tag d b s.tg t with e' | ⟨e', _⟩
    · show holds a (tagOf (untag d b s.tg) t); rw [e']; exact e
    · show holds a (tagOf (untag d b s.tg) t); rw [e']; intro _ _ hm; cases hm
  · exact .inr e
theorem guardCall_off {ops : Array Oper} {op : Oper} {i j d : Nat} {b : Bool} {a : Act} {K : Act → World → Prop} {Q : Exit → Act → World → Prop} (hop : ops[i]? = some op) (e1 : op.guard = some (j, b)) (e2 : (ops[j]?).bind (·.dst) = some d) (hne : a.tmps.getD d Go.undef ≠ .bool b)
    (hK : K (a.put op.dst Go.undef) w) : wpOp P ops Q i K a w := by
  have hw : Region.wanted op (yielded ops a.tmps) = false := by
    unfold Region.wanted
    rw [e1]
    have hy := yielded_iff ops a j d b e2
    simp only [decide_eq_false_iff_not, beq_eq_false_iff_ne]
    simpa using fun h => hne (hy.1 h)
  unfold wpOp
  simp only [hop]
  rw [if_neg (by rw [hw]; simp)]
  exact hK
theorem guardCall_on (hT : TabOk P T) {call : Oracle} (hcall : Sound P call) {ops : Array Oper} {op : Oper} {i j d : Nat} {b : Bool} {a : Act} {s : St} {K : Act → World → Prop} {Q : Exit → Act → World → Prop} (hop : ops[i]? = some op)
    (hM : MRel base w S m s.m) (hF : FRel base.old w S m a s) (e1 : op.guard = some (j, b)) (e2 : (ops[j]?).bind (·.dst) = some d) (e5 : ∃ c, op.op = .call c) (he : a.tmps.getD d Go.undef = .bool b)
    (hk : AllT (aOper std T call ops.toList s { op with guard := none }).ks) (hK : ThenS base w S m (aOper std T call ops.toList s { op with guard := none }) K) : wpOp P ops Q i K a w := by
  have hw : Region.wanted op (yielded ops a.tmps) = true := by
    unfold Region.wanted
    rw [e1]
    have hy := yielded_iff ops a j d b e2
    simpa using hy.2 he
  obtain ⟨c, e5⟩ := e5
  have e : aOper std T call ops.toList s { op with guard := none } = aOper1 std T call s [] op.dst op.op := by
    unfold aOper aOper2
    simp only [chainOf, e5]
  rw [e] at hk hK
  have h := aOper1_wp (Q := Q) (K := K) hT hcall (ops := ops) (o := { op with guard := none }) (C := []) hM hF (.inl ⟨rfl, fun _ _ h => by cases h⟩) hk hK
  unfold GoalOp at h
  rw [if_pos (show Region.wanted { op with guard := none } (yielded ops a.tmps) = true from rfl)] at h
  unfold wpOp
  simp only [hop]
  rw [if_pos hw]
  exact h

theorem anyT_sound (hT : TabOk P T) {o : OrT} (ho : SoundT P o) {ops : Array Oper} (hsel : Region.noSelect ops = true) {D : World → Prop} (hD : ∀ w w', D w → Prot base.Z w w' → D w') {Qs : St → Prop} {Q : Exit → Act → World → Prop} (hQ : ∀ c a w, ¬ Q (.panic c) a w) : ∀ (n : Nat) (L : Array Bool) {s : St} {a : Act} {w : World} {S : Nat → Prop} {m : Locs},
    s.ks = [] → (anyT std T o ops n L s).wp Qs → MRel base w S m s.m → FRel base.old w S m a s → D w →
    (∀ s' a' w' S' m', Qs s' → Prot base.Z w w' → (∀ b, S b → S' b) → (∀ b, S' b → S b ∨ ¬ base.Z b) → MRel base w' S' m' s'.m → FRel base.old w' S' m' a' s' → Q .normal a' w') → wpAnyH P .any ops Q D n L a w := by
  intro n
  induction n with
  | zero =>
    intro L s a w S m hs h hM hF hd hK
    simp only [anyT] at h
    split at h
    · rename_i hr
      exact wpAnyH_done hr (hK s a w S m h (Prot.refl _ _) (fun _ h => h) (fun _ h => .inl h) hM hF) 0
    · exact h.elim
  | succ n ih =>
    intro L s a w S m hs h hM hF hd hK
    simp only [anyT] at h
    split at h
    · rename_i hr
      exact wpAnyH_done hr (hK s a w S m h (Prot.refl _ _) (fun _ h => h) (fun _ h => .inl h) hM hF) _
    · rename_i hne
      split at h
      · rename_i i op hqk
        obtain ⟨hop, hqk⟩ := quickOf_some hqk
        obtain ⟨s1, h1, h2⟩ := Tree.wp_run (stepT_pl _ _ _ _ _ _) (Tree.wp_bind.1 h)
        obtain ⟨r0, r1, r2, r3, r4⟩ := stepT_rel hs h1
        unfold quick at hqk
        split at hqk
        case h_2 => cases hqk
        rename_i f1 f2
        split at hqk
        case h_2 => cases hqk
        rename_i f3 f4
        obtain ⟨v, S', m', k1, k2, k3, k4, k5⟩ := pure_ok hT ho.old hop hM hF f1 (useOk_nil f2) r1
        rw [r3] at k4
        refine wpAnyH_take hop hsel f4 f3 (fun c a w h => absurd h (hQ _ _ _)) (k1 D) hd (ih _ r0 h2 k4 (frel_eq k5 r2 r4) hd fun s' a'' w'' S'' m'' hq hb' hS' hU' hM'' hF'' => ?_)
        exact hK s' a'' w'' S'' m'' hq hb' (fun b h => hS' b (k2 b h)) (fun b h => (hU' b h).elim (k3 b) .inr) hM'' hF''
      refine wpAnyH_all rfl hne fun i hi => ?_
      have h := bothL_wp h i hi
      unfold anyOne at h
      split at h
      case h_2 => exact h.elim
      rename_i op hop
      split at h
      · rename_i g d b hgc
        obtain ⟨j, e1, e2, e3, e4, e5⟩ := guardCall_some hgc
        have hrel : Rel w S m (a.tmps.getD d Go.undef) (nth s.ts d) := hF.rel d (by rw [e3]; intro _ _ hm; cases hm)
        cases g with
        | true =>
          have h : ((stepT std T o ops.toList (untagS d b s) { op with guard := none }).bind fun s' => anyT std T o ops n (L.setIfInBounds i true) s').wp Qs := h
          obtain ⟨s1, h1, h2⟩ := Tree.wp_run (stepT_pl _ _ _ _ _ _) (Tree.wp_bind.1 h)
          obtain ⟨r0, r1, r2, r3, r4⟩ := stepT_rel (s := untagS d b s) hs h1
          have hon := lit_on hrel e4
          refine guardCall_on hT ho.old hop (s := untagS d b s) hM (frel_untag hF hon) e1 e2 e5 hon r1 fun a' w' S' m' hb hS hU hM' hF' => ?_
          rw [r3] at hM'
          refine ⟨hD w w' hd hb, ih _ r0 h2 hM' (frel_eq hF' r2 r4) (hD w w' hd hb) fun s' a'' w'' S'' m'' hq hb' hS' hU' hM'' hF'' => ?_⟩
          exact hK s' a'' w'' S'' m'' hq (hb.trans hb') (fun b h => hS' b (hS b h)) (fun b h => (hU' b h).elim (hU b) .inr) hM'' hF''
        | false =>
          have h : ((okT (lay s [(d, b)] op.dst (.bool true) s.m [] none)).bind fun s' => anyT std T o ops n (L.setIfInBounds i true) s').wp Qs := h
          obtain ⟨s1, h1, h2⟩ := Tree.wp_run (okT_pl _) (Tree.wp_bind.1 h)
          obtain ⟨q1, q2⟩ := asksT_run h1
          cases q2
          refine guardCall_off hop e1 e2 (lit_off hrel e4) ?_
          obtain ⟨f1, f2, _⟩ := hF.pass (C := [(d, b)]) (List.mem_singleton.2 rfl) (lit_off hrel e4) q1
          refine ⟨hd, ih _ rfl h2 (by rw [f2]; exact hM) (frel_eq f1 rfl rfl) hd fun s' a'' w'' S'' m'' hq hb' hS' hU' hM'' hF'' => ?_⟩
          exact hK s' a'' w'' S'' m'' hq hb' hS' hU' hM'' hF''
      obtain ⟨s1, h1, h2⟩ := Tree.wp_run (stepT_pl _ _ _ _ _ _) (Tree.wp_bind.1 h)
      obtain ⟨r0, r1, r2, r3, r4⟩ := stepT_rel hs h1
      refine aOper_wp hT ho.old hop hM hF r1 fun a' w' S' m' hb hS hU hM' hF' => ?_
      rw [r3] at hM'
      refine ⟨hD w w' hd hb, ih _ r0 h2 hM' (frel_eq hF' r2 r4) (hD w w' hd hb) fun s' a'' w'' S'' m'' hq hb' hS' hU' hM'' hF'' => ?_⟩
      exact hK s' a'' w'' S'' m'' hq (hb.trans hb') (fun b h => hS' b (hS b h)) (fun b h => (hU' b h).elim (hU b) .inr) hM'' hF''

theorem fstT_sound (hT : TabOk P T) {o : OrT} (ho : SoundT P o) {ops : Array Oper} (hsel : Region.noSelect ops = true) {Q : Exit → Act → World → Prop} (hQ : ∀ c a w, ¬ Q (.panic c) a w) {R : Array Bool × Nat × St → Prop} : ∀ (l : List Nat) (L : Array Bool) (n : Nat) {s : St} {a : Act} {S : Nat → Prop} {m : Locs},
    s.ks = [] → (fstT std T o ops l L n s).wp R → MRel base w S m s.m → FRel base.old w S m a s →
    ∃ L' n' s' a' S' m', R (L', n', s') ∧ s'.ks = [] ∧ (∀ b, S b → S' b) ∧ (∀ b, S' b → S b ∨ ¬ base.Z b) ∧ MRel base w S' m' s'.m ∧ FRel base.old w S' m' a' s' ∧
      ∀ D : World → Prop, (∀ w', D w' → ∀ b, S' b → w'.heap[b]? = w.heap[b]?) → D w → wpAnyH P .any ops Q D n' L' a' w → wpAnyH P .any ops Q D n L a w := by
  intro l
  induction l with
  | nil =>
    intro L n s a S m hs h hM hF
    exact ⟨L, n, s, a, S, m, h, hs, fun _ h => h, fun _ h => .inl h, hM, hF, fun D _ _ h => h⟩
  | cons i l ih =>
    intro L n s a S m hs h hM hF
    simp only [fstT] at h
    split at h
    · exact ih L n hs h hM hF
    · rename_i op hop
      split at h
      · rename_i hone
        split at h
        · exact h.elim
        · rename_i n'
          obtain ⟨s1, h1, h2⟩ := Tree.wp_run (stepT_pl _ _ _ _ _ _) (Tree.wp_bind.1 h)
          obtain ⟨r0, r1, r2, r3, r4⟩ := stepT_rel hs h1
          unfold fstOne at hone
          split at hone
          case h_2 => cases hone
          rename_i f1 f2
          split at hone
          case h_2 => cases hone
          rename_i f3 f4
          obtain ⟨v, S', m', k1, k2, k3, k4, k5⟩ := first_ok hT ho.old hop hM hF f1 (useOk_nil f2) r1
          rw [r3] at k4
          obtain ⟨L'', n'', s'', a'', S'', m'', g1, g2, g3, g4, g5, g6, g7⟩ := ih _ _ r0 h2 k4 (frel_eq k5 r2 r4)
          refine ⟨L'', n'', s'', a'', S'', m'', g1, g2, fun b h => g3 b (k2 b h), fun b h => (g4 b h).elim (k3 b) .inr, g5, g6, fun D hD hw hany => ?_⟩
          exact wpAnyH_take hop hsel f4 f3 (fun c a w h => absurd h (hQ _ _ _)) (k1 D fun w' hw' b hb => hD w' hw' b (g3 b (k2 b hb))) hw (g7 D hD hw hany)
      · exact ih L n hs h hM hF

/-- A region that draws its order, and writes. -/
theorem AWp.regionD (hm : P.follows .mixedOrders = true) (hT : TabOk P T) {o : OrT} (ho : SoundT P o) {id : Nat} {ops : Array Oper} {Q : Exit → AS → Prop} {A : AS} (h : (evDraw std T o ops A).wp fun s => Q .normal ⟨wipe s.ts s.tg, s.m, A.np⟩) : AWp P (.region id ops true) Q A := by
  unfold evDraw at h
  split at h
  case h_2 => exact h.elim
  rename_i hsel
  refine AWp.mono (Q := fun e A' => e = .normal ∧ Q .normal A') ?_ (by rintro e A' ⟨rfl, h⟩; exact h)
  refine ⟨fun base w S m a hM hA => ?_⟩
  have hM' : MRel base w.drew S m A.m := hM.rel.drew
  have hB : Prot base.Z w w.drew := ⟨rfl, rfl, rfl, Nat.le_refl _, fun _ _ => rfl⟩
  have hF : FRel base.old w.drew S m a ⟨A.ts, A.m, [], []⟩ := ⟨hA.1, hA.2.1.mono (fun _ h => h) (fun _ _ => rfl), fun t _ => Rel.mono (w := w) (w' := w.drew) (fun _ h => h) (fun _ _ => rfl) (hA.2.2 t) _ (fun _ _ h => h), fun t => .inl fun s b hm => by simp [tagOf] at hm⟩
  have hno : ∀ c a w', ¬ Lift base w S (fun e A' => e = .normal ∧ Q .normal A') (.panic c) a w' := by
    rintro c a w' ⟨A', _, _, ⟨e, _⟩, _⟩; cases e
  obtain ⟨L, n, s, a1, S1, m1, g1, g2, g3, g4, g5, g6, g7⟩ := fstT_sound (base := base) (w := w.drew) hT ho hsel hno _ _ _ rfl (Tree.wp_bind.1 h) hM' hF
  -- the shared blocks are protected from here on
  let E : Env := ⟨fun g => base.Z g ∨ S1 g, base.pin, fun g hg => .inl (base.gz g hg), base.old, fun g h => .inl (base.oz g h)⟩
  have hME : MRel E w.drew S1 m1 s.m := ⟨g5.len, g5.sb, g5.bk, fun i l hi => ⟨fun h => h.elim (g5.lt i l hi).1 (g5.lt i l hi).2.2, (g5.lt i l hi).2⟩, g5.inj, fun b h => h.elim (g5.base_le b) (g5.sb b), g5.gok, g5.pin, fun i l hi => have q := g5.ext i l hi; ⟨q.nd, fun b hb => have r := q.out b hb; ⟨fun h => h.elim r.1 r.2.2, r.2⟩, q.far⟩⟩
  refine wp_region_held hm (S := fun w' => ∀ b, S1 b → w'.heap[b]? = w.drew.heap[b]?) (g7 _ (fun w' h => h) (fun _ _ => rfl) ?_)
  refine anyT_sound (base := E) hT ho hsel (fun w1 w2 h1 hp b hb => (hp.block b (.inr hb)).trans (h1 b hb)) hno n L g2 g1 hME g6 (fun _ _ => rfl) ?_
  intro s' a' w' S' m' hq hb hS hU hM2 hF2
  refine ⟨_, S', m', ⟨rfl, hq⟩, hB.trans ⟨hb.os, hb.tape, hb.output, hb.size, fun k hk => hb.block k (.inl hk)⟩, fun b h => hS b (g3 b h), fun b h => (hU b h).elim (g4 b) (fun h => .inr fun h' => h (.inl h')), ⟨?_, hM.pins⟩, hF2.wipe⟩
  exact ⟨hM2.len, hM2.sb, hM2.bk, fun i l hi => ⟨fun h => (hM2.lt i l hi).1 (.inl h), (hM2.lt i l hi).2⟩, hM2.inj, fun b h => hM2.base_le b (.inl h), hM2.gok, hM2.pin, fun i l hi => have q := hM2.ext i l hi; ⟨q.nd, fun b hb => have r := q.out b hb; ⟨fun h => r.1 (.inl h), r.2⟩, q.far⟩⟩

theorem listedN_eq {n n0 : Nat} {l : Array Bool} (hs : l.size = n) (h : ∀ i, i < n → l.getD i false = Nat.blt i n0) : l = listedN n n0 := by
  refine Array.ext (by rw [hs]; simp [listedN]) fun i h1 h2 => ?_
  have := h i (by omega)
  simp [Array.getD_eq_getD_getElem?, h1] at this
  rw [this]
  simp [listedN]
/-- A region that draws its order: first what leaves memory alone. -/
theorem AWp.regionPre (hm : P.follows .mixedOrders = true) (hT : TabOk P T) {o : OrT} (ho : SoundT P o) {id : Nat} {ops : Array Oper} {n0 : Nat} {Q : Exit → AS → Prop} {A : AS} (h : (evPreN std T o ops n0 A).wp fun s => Q .normal ⟨wipe s.ts s.tg, s.m, A.np⟩) : AWp P (.region id ops true) Q A := by
  unfold evPreN at h
  split at h
  case h_2 => exact h.elim
  rename_i hok
  unfold preOk at hok
  simp only [Bool.and_eq_true] at hok
  obtain ⟨⟨⟨hsel, hbk⟩, hchk⟩, hdr⟩ := hok
  have hback : ∀ (i : Nat) (o : Oper), ops[i]? = some o → ∀ k ∈ predsOf o, k < i := fun i o hi k hk => by
    unfold backOk at hbk
    rw [List.all_eq_true] at hbk
    have := hbk i (by rw [List.mem_range]; exact (Array.getElem?_eq_some_iff.1 hi).1)
    simp only [hi, List.all_eq_true] at this
    exact Nat.blt_eq ▸ this k hk
  have hn0 : n0 ≤ ops.size := by
    unfold preChk at hchk
    rw [Bool.and_eq_true] at hchk
    exact Nat.le_of_ble_eq_true hchk.1
  obtain ⟨s', hs, h⟩ := Tree.wp_run (opsQ_pl _ _ _ _ _ _) (Tree.wp_bind.1 h)
  obtain ⟨h1, h2⟩ := opsQ_ok rfl hs
  obtain ⟨K, k1, k2⟩ := h2 [] trivial
  refine AWp.mono (Q := fun e A' => e = .normal ∧ Q .normal A') ?_ (by rintro e A' ⟨rfl, h⟩; exact h)
  refine ⟨fun base w S m a hM hA => wp_region_any hm ?_⟩
  obtain ⟨ops', hops'⟩ : ∃ ops', ops' = (ops.toList.take n0).toArray := ⟨_, rfl⟩
  have hops : ops'.toList = ops.toList.take n0 := by rw [hops']
  rw [← hops'] at hdr
  have hd := DrawOk.of hdr
  have hM' : MRel base w.drew S m A.m := hM.rel.drew
  have hB : Prot base.Z w w.drew := ⟨rfl, rfl, rfl, Nat.le_refl _, fun _ _ => rfl⟩
  have hF : FRel base.old w.drew S m a ⟨A.ts, A.m, [], []⟩ := ⟨hA.1, hA.2.1.mono (fun _ h => h) (fun _ _ => rfl), fun t _ => Rel.mono (w := w) (w' := w.drew) (fun _ h => h) (fun _ _ => rfl) (hA.2.2 t) _ (fun _ _ h => h), fun t => .inl fun s b hm => by simp [tagOf] at hm⟩
  have es : stAt std T o.old ops' ⟨A.ts, A.m, [], []⟩ ops'.size = ⟨s'.ts, s'.m, s'.tg, K⟩ := by
    unfold stAt
    rw [← Array.length_toList, List.take_length, hops, ← k2]
  have hk : AllT (stAt std T o.old ops' ⟨A.ts, A.m, [], []⟩ ops'.size).ks := by rw [es]; exact k1
  have hno : ∀ j, ¬ Listed ops' (Array.replicate ops.size false) j := fun j ⟨hj, h⟩ => by
    by_cases hjs : j < ops.size <;> simp [Array.getD_eq_getD_getElem?, hjs] at h
  have h0 := stAt_hyb (p := std) (T := T) (call := o.old) (s0 := ⟨A.ts, A.m, [], []⟩) hd rfl hk 0 (Nat.zero_le _)
  have e0 : stAt std T o.old ops' ⟨A.ts, A.m, [], []⟩ 0 = ⟨A.ts, A.m, [], []⟩ := by simp [stAt, aOpsQ]
  have eL : (fun j => j < 0) = Listed ops' (Array.replicate ops.size false) := by
    funext j; apply propext
    exact ⟨fun h => absurd h (Nat.not_lt_zero _), fun h => absurd h (hno j)⟩
  rw [e0, eL] at h0
  have hno' : ∀ c a w', ¬ Lift base w S (fun e A' => e = .normal ∧ Q .normal A') (.panic c) a w' := by
    rintro c a w' ⟨A', _, _, ⟨e, _⟩, _⟩; cases e
  refine wpAny_pre (base := base) hT ho.old hback hchk hops hd rfl hk (w0 := w.drew) (S0 := S) ?_ ops.size (Array.replicate ops.size false) (List.range n0) (by simp) (by rw [List.length_range]; omega) List.nodup_range
    (fun i hi => ⟨fun _ => List.mem_range.2 hi, fun _ => by by_cases hjs : i < ops.size <;> simp [Array.getD_eq_getD_getElem?, hjs]⟩) (fun i hi => List.mem_range.1 hi) (fun i _ hi => by simp [Array.getD_eq_getD_getElem?, hi]) (fun j o' hj => absurd hj (hno j)) h0 (Prot.refl _ _) (fun _ h => h) (fun _ h => .inl h) hM' hF
  intro listed a' w' S' m' hsz hl hP hS hU hM2 hF2
  rw [es] at hM2 hF2
  rw [listedN_eq hsz hl]
  refine wpAny_of_held (S := fun _ => True) _ _ _ _ (anyT_sound (base := base) hT ho hsel (D := fun _ => True) (fun _ _ _ _ => trivial) hno' _ _ h1 h hM2 (frel_eq hF2 rfl rfl) trivial ?_)
  intro s'' a'' w'' S'' m'' hq hb hS' hU' hM3 hF3
  exact ⟨_, S'', m'', ⟨rfl, hq⟩, hB.trans (hP.trans hb), fun b h => hS' b (hS b h), fun b h => (hU' b h).elim (hU b) .inr, ⟨hM3, hM.pins⟩, hF3.wipe⟩

end Go.Eng
