/- A loop over a map that collects its keys: whatever order the tape gives, the states are those of some order of the keys. -/
import Derived.Test.YtapnoaalcbcmaaaTrE
import Derived.Maps.RangeRun
namespace Go.Eng
open Go Go.RowKit Go.ChangeMaps

variable {P : Program} {T : Tab} {base : Env} {w : World} {S : Nat → Prop} {m : Locs} {M : Mem}

/-! A slot that no operation writes. -/
theorem put_other {a : Act} {d : Option Tmp} {v : Value} {it : Nat} (h : d ≠ some it) : (a.put d v).tmps.getD it Go.undef = a.tmps.getD it Go.undef := by
  cases d with
  | none => rfl
  | some d =>
    have hne : d ≠ it := fun e => h (by rw [e])
    show (a.tmps.setIfInBounds d v).getD it Go.undef = _
    rw [Array.getD_eq_getD_getElem?, Array.getD_eq_getD_getElem?, Array.getElem?_setIfInBounds_ne hne]
theorem oper_slot {Q : Exit → Act → World → Prop} {o : Oper} {a : Act} {w : World} {K : Act → World → Prop} {it : Nat} {v : Value} (hd : o.dst ≠ some it) (ha : a.tmps.getD it Go.undef = v) (hh : o.wp P a w K Q) :
    o.wp P a w (fun a' w' => K a' w' ∧ a'.tmps.getD it Go.undef = v) (fun e a' w' => Q e a' w' ∧ (e = .normal → a'.tmps.getD it Go.undef = v)) := by
  unfold Oper.wp at *
  generalize (execOp a.eval o).run P w = r at *
  have hp : ∀ u, (a.put o.dst u).tmps.getD it Go.undef = v := fun u => by rw [put_other hd]; exact ha
  have hp' : ∀ d u, (({ a with defers := d :: a.defers } : Act).put o.dst u).tmps.getD it Go.undef = v := fun d u => by rw [put_other hd]; exact ha
  have hl : LetsOut Q → LetsOut (fun e a' w' => Q e a' w' ∧ (e = .normal → a'.tmps.getD it Go.undef = v)) := fun ⟨a, w, h⟩ => ⟨a, w, h, fun e => by cases e⟩
  cases r with
  | ok n w' =>
    cases n with
    | value u => exact ⟨hh, hp u⟩
    | skip => exact ⟨hh, hp _⟩
    | defer d => exact ⟨hh, hp' _ _⟩
    | enter f args =>
      simp only [Oper.upon] at hh ⊢
      exact Calls.mono hh (fun e w'' he => by
        cases e with
        | returned u => exact ⟨he, hp u⟩
        | panicked c => exact ⟨he, fun e => by cases e⟩
        | outgrown => exact hl he)
    | row r args =>
      simp only [Oper.upon] at hh ⊢
      exact Rows.mono hh (fun _ _ he => ⟨he, hp _⟩)
    | _ => exact hh
  | halt x w' =>
    cases x with
    | panic u => exact ⟨hh, fun e => by cases e⟩
    | _ => exact hh
theorem wpOps_slot {Q : Exit → Act → World → Prop} {ops : Array Oper} {it : Nat} {v : Value} : ∀ (l : List Nat) (a : Act) (w : World), (∀ i ∈ l, ∀ o, ops[i]? = some o → o.dst ≠ some it) → a.tmps.getD it Go.undef = v →
    wpOps P ops Q l a w → wpOps P ops (fun e a' w' => Q e a' w' ∧ (e = .normal → a'.tmps.getD it Go.undef = v)) l a w
  | [], a, w, _, ha, h => ⟨h, fun _ => ha⟩
  | i :: l, a, w, hd, ha, h => by
    rw [wpOps_cons] at h ⊢
    unfold wpOp at h ⊢
    cases ho : ops[i]? with
    | none =>
      simp only [ho] at h ⊢
      exact wpOps_slot l a w (fun j hj => hd j (List.mem_cons_of_mem _ hj)) ha h
    | some o =>
      simp only [ho] at h ⊢
      have hdo := hd i List.mem_cons_self o ho
      have hrest : ∀ a w, a.tmps.getD it Go.undef = v → wpOps P ops Q l a w → wpOps P ops (fun e a' w' => Q e a' w' ∧ (e = .normal → a'.tmps.getD it Go.undef = v)) l a w :=
        fun a w ha h => wpOps_slot l a w (fun j hj => hd j (List.mem_cons_of_mem _ hj)) ha h
      split
      · rename_i hw
        rw [if_pos hw] at h
        rcases h with h | ⟨h1, a', w', h2⟩
        · exact .inl (Oper.wp_mono (fun a w hk => hrest a w hk.2 hk.1) (oper_slot hdo ha h))
        · exact .inr ⟨h1, a', w', h2, fun e => by cases e⟩
      · rename_i hw
        rw [if_neg hw] at h
        exact hrest _ _ (by rw [put_other hdo]; exact ha) h

/-! The first operations of a region. -/
theorem aOps_wpK (hT : TabOk P T) {call : Oracle} (hcall : Sound P call) {ops : Array Oper} {Q : Exit → Act → World → Prop} (rest : List Nat) : ∀ (l : List Oper) (i : Nat) {w : World} {S : Nat → Prop} {m : Locs} {a : Act} {s : St}, (∀ k, k < l.length → l[k]? = ops[i + k]?) →
    MRel base w S m s.m → FRel base.old w S m a s → AllT (aOps std T call ops.toList l s).ks → ThenS base w S m (aOps std T call ops.toList l s) (fun a w => wpOps P ops Q rest a w) → wpOps P ops Q (List.range' i l.length ++ rest) a w := by
  intro l
  induction l with
  | nil => intro i w S m a s _ hM hF _ hK; exact hK a w S m (Prot.refl _ _) (fun _ h => h) (fun _ h => .inl h) hM hF
  | cons o l ih =>
    intro i w S m a s hl hM hF hk hK
    rw [List.length_cons, List.range'_succ, List.cons_append, wpOps_cons]
    refine aOper_wp hT hcall (o := o) (by have := hl 0 (Nat.succ_pos _); simpa using this.symm) hM hF (aOps_ks hk) ?_
    intro a' w' S' m' hb hS hU hM' hF'
    refine ih (i + 1) (fun k hk => by have := hl (k + 1) (Nat.succ_lt_succ hk); rw [List.getElem?_cons_succ] at this; rw [this]; congr 1; omega) hM' hF' hk ?_
    intro a'' w'' S'' m'' hb' hS' hU' hM'' hF''
    exact hK a'' w'' S'' m'' (hb.trans hb') (fun b h => hS' b (hS b h)) (fun b h => (hU' b h).elim (hU b) .inr) hM'' hF''

/-! The world turns where nobody of this call looks. -/
theorem MRel.aside (h : MRel base w S m M) {base' : Env} {w' : World} (hp : base'.pin = base.pin) (hS : ∀ b, S b → w'.heap[b]? = w.heap[b]?) (hl : ∀ (i : Nat) (l : Loc), m[i]? = some (some l) → w'.heap[l.g]? = w.heap[l.g]? ∧ ¬ base'.Z l.g)
    (hx : ∀ (i : Nat) (l : Loc), m[i]? = some (some l) → ∀ b ∈ l.ext, w'.heap[b]? = w.heap[b]? ∧ ¬ base'.Z b) (hsz : w.heap.size ≤ w'.heap.size) (hle : ∀ b, base'.Z b → b < w'.heap.size) (hg : GL w') : MRel base' w' S m M := by
  have hrel : ∀ {n : Locs} {v x}, Rel w S n v x → Rel w' S n v x := fun hr => hr.mono (fun _ h => h) hS _ (fun _ _ h => h)
  refine ⟨h.len, fun b hb => Nat.lt_of_lt_of_le (h.sb b hb) hsz, fun i l hi => ?_, fun i l hi => ⟨(hl i l hi).2, Nat.lt_of_lt_of_le (h.lt i l hi).2.1 hsz, (h.lt i l hi).2.2⟩, h.inj, hle, hg, fun i l hi => h.pin i l (by rw [← hp]; exact hi), fun i l hi => have q := h.ext i l hi; ⟨q.nd, fun b hb => ⟨(hx i l hi b hb).2, Nat.lt_of_lt_of_le (q.out b hb).2.1 hsz, (q.out b hb).2.2⟩, q.far⟩⟩
  have hB := h.bk i l hi
  cases l with
  | none => revert hB; cases blk M i <;> exact fun h => h
  | some l =>
    have e := (hl i l hi).1
    revert hB
    cases blk M i with
    | dead => exact fun h => h
    | fam x y => exact fun hf => hf.keep (fun _ h => h) hS e fun b hb => (hx i l hi b hb).1
    | cells ee cs => rintro ⟨vs, h1, h2, h3, h4⟩; exact ⟨vs, e.trans h1, h2, h3, fun i hi => hrel (h4 i hi)⟩
    | rows ee sz n c => rintro ⟨h0, h1, h2, h3, vs, h4, h5, h6⟩; exact ⟨h0, h1, h2, h3, vs, e.trans h4, h5, fun i hi j hj => ⟨(h6 i hi j hj).1, hrel (h6 i hi j hj).2⟩⟩
    | trows ee ty x => rintro ⟨h0, h1, h2, h3, vs, h4, h5, h6⟩; exact ⟨h0, h1, h2, h3, vs, e.trans h4, h5, fun i hi j hj => ⟨(h6 i hi j hj).1, hrel (h6 i hi j hj).2⟩⟩
    | fro ee ty x => rintro ⟨h0, h1, h2, h3, vs, fz, h4, h5, h6⟩; exact ⟨h0, h1, h2, h3, vs, fz, e.trans h4, h5, fun i hi j hj => ⟨(h6 i hi j hj).1, hrel (h6 i hi j hj).2⟩⟩
    | arr ee ty x => rintro ⟨vs, h4, h5, h6⟩; exact ⟨vs, e.trans h4, h5, fun i hi => ⟨(h6 i hi).1, hrel (h6 i hi).2⟩⟩
    | map ty uy x => rintro ⟨es, ck, h4, h5, h6, h7⟩; exact ⟨es, ck, e.trans h4, h5, fun i hi => ⟨hrel (h6 i hi).1, hrel (h6 i hi).2⟩, h7⟩
    | siter s pos => rintro ⟨h1, h2⟩; exact ⟨e.trans h1, h2⟩

/-! Which keys are left. -/
def unK : (t : Ty) → Value → El t
  | .int _, .int _ n => n
  | .bool, .bool b => b
  | .str, .string s => s.data.toList
  | t, _ => dfl t
theorem unK_key {t : Ty} (ht : isKey t = true) (k : El t) : unK t (keyV t k) = k := by
  cases t with
  | int q => rfl
  | bool => rfl
  | str => show (bytes k).data.toList = k; rfl
  | _ => cases ht
theorem filter_once {e : MapEntry} : ∀ {K : List MapEntry}, (K.map (·.born)).Nodup → e ∈ K → K.Perm (e :: K.filter fun x => !(x.born == e.born))
  | [], _, h => by cases h
  | x :: K, hn, h => by
    rw [List.map_cons, List.nodup_cons] at hn
    by_cases hx : x.born = e.born
    · have hxe : e = x := by
        rcases List.mem_cons.1 h with h | h
        · exact h
        · exact absurd (List.mem_map.2 ⟨e, h, hx.symm⟩) hn.1
      subst hxe
      have : (e :: K).filter (fun x => !(x.born == e.born)) = K := by
        rw [List.filter_cons, if_neg (by simp)]
        refine List.filter_eq_self.2 fun y hy => ?_
        have : y.born ≠ e.born := fun hq => hn.1 (hq ▸ List.mem_map_of_mem hy)
        simpa using this
      rw [this]
    · have hm : e ∈ K := (List.mem_cons.1 h).resolve_left fun hq => hx (by rw [hq])
      rw [List.filter_cons, if_pos (by simpa using hx)]
      exact ((filter_once hn.2 hm).cons x).trans (List.Perm.swap _ _ _)
theorem left_perm {es : Array MapEntry} {seen : Array Nat} {e : MapEntry} (hn : (es.toList.map (·.born)).Nodup) (he : e ∈ (leftOf es seen).toList) : (leftOf es seen).toList.Perm (e :: (leftOf es (seen.push e.born)).toList) := by
  have e1 : ∀ q : Array Nat, (leftOf es q).toList = es.toList.filter fun x => !q.contains x.born := fun q => by unfold leftOf; rw [Array.toList_filter]
  have e2 : (leftOf es (seen.push e.born)).toList = (leftOf es seen).toList.filter fun x => !(x.born == e.born) := by
    rw [e1, e1, List.filter_filter]
    refine List.filter_congr fun x _ => ?_
    rw [contains_push]
    cases seen.contains x.born <;> cases x.born == e.born <;> rfl
  rw [e2]
  refine filter_once ?_ he
  rw [e1]
  exact hn.sublist (List.filter_sublist.map _)

/-! The loop. -/
theorem put_self {a : Act} {v : Value} {it : Nat} (h : it < a.tmps.size) : (a.put (some it) v).tmps.getD it Go.undef = v := by
  show (a.tmps.setIfInBounds it v).getD it Go.undef = v
  rw [Array.getD_eq_getD_getElem?, Array.getElem?_setIfInBounds_self_of_lt h]; rfl
theorem wpl_op {ops : Array Oper} {Q : Exit → Act → World → Prop} {rest : List Oper} {o : Oper} {a : Act} {w w1 : World} {x : Sem Value} {v : Value} (hg : o.guard = none) (he : execOp a.eval o = (do pure (.value (← x)))) (hx : x.run P w = .ok v w1)
    (h : wpList P ops Q rest (a.put o.dst v) w1) : wpList P ops Q (o :: rest) a w :=
  wpList_plain hg fun K hK => by
    unfold Oper.wp
    rw [he]
    simp only [Sem.run_bind, hx, Result.andThen_ok, Sem.run_pure]
    exact hK _ _ h
theorem key_any {t : Ty} (ht : isKey t = true) {w' : World} {S' : Nat → Prop} {m' : Locs} {v : Value} {k : El t} (h : Rel w S m v (nth (cellsT t k) 0)) : Rel w' S' m' v (nth (cellsT t k) 0) := by
  cases t with
  | int q => change Rel w S m v (.int q k) at h; cases h; exact .int _ _ _ (by assumption)
  | bool => change Rel w S m v (.bool k) at h; cases h; exact .bool _ _
  | str => change Rel w S m v (.str k) at h; cases h; exact .str _ _ (by assumption)
  | _ => cases ht
theorem rel_put {v : Value} {a : Act} {ts : List AV} {t : Nat} (h : ARel base.old w S m a ts) (hu : nth ts t = .undef) : ARel base.old w S m (a.put (some t) v) ts := by
  refine ⟨by show (a.tmps.setIfInBounds t v).size = _; rw [Array.size_setIfInBounds]; exact h.1, h.2.1, fun i => ?_⟩
  by_cases e : t = i
  · subst e; rw [hu]; exact .undef _ _
  · rw [put_other (fun q => e (Option.some.inj q))]; exact h.2.2 i
theorem rel_put' {v : Value} {a : Act} {ts : List AV} {t : Nat} {x : AV} (h : ARel base.old w S m a ts) (hx : Rel w S m v x) : ARel base.old w S m (a.put (some t) v) (put ts t x) := by
  refine ⟨by show (a.tmps.setIfInBounds t v).size = _; rw [Array.size_setIfInBounds, lenA_put]; exact h.1, h.2.1, fun i => ?_⟩
  rw [nth_put]
  by_cases e : t = i
  · subst e
    by_cases hlt : t < lenA ts
    · rw [if_pos ⟨rfl, hlt⟩]
      show Rel w S m ((a.tmps.setIfInBounds t v).getD t Go.undef) x
      rw [Array.getD_eq_getD_getElem?, Array.getElem?_setIfInBounds_self_of_lt (by rw [h.1]; exact hlt)]
      exact hx
    · rw [if_neg (fun q => hlt q.2), nth_out _ _ (by omega)]; exact .undef _ _
  · rw [if_neg (fun q => e q.1), put_other (fun q => e (Option.some.inj q))]; exact h.2.2 i

/-- Slots that are forgotten. -/
inductive Drop : List AV → List AV → Prop where
  | nil : Drop [] []
  | keep (a : AV) {l l' : List AV} (h : Drop l l') : Drop (a :: l) (a :: l')
  | drop (a : AV) {l l' : List AV} (h : Drop l l') : Drop (a :: l) (.undef :: l')
theorem Drop.len {l l' : List AV} (h : Drop l l') : lenA l' = lenA l := by
  induction h with
  | nil => rfl
  | keep a _ ih => simp only [lenA, ih]
  | drop a _ ih => simp only [lenA, ih]
theorem Drop.nth {l l' : List AV} (h : Drop l l') : ∀ i, Eng.nth l' i = Eng.nth l i ∨ Eng.nth l' i = .undef := by
  induction h with
  | nil => intro i; exact .inl rfl
  | keep a _ ih => intro i; cases i with | zero => exact .inl rfl | succ i => exact ih i
  | drop a _ ih => intro i; cases i with | zero => exact .inr rfl | succ i => exact ih i
theorem ALe.drop {ts ts' : List AV} {M : Mem} {np : Nat} (h : Drop ts ts') : ALe ⟨ts, M, np⟩ ⟨ts', M, np⟩ := by
  intro base w S m a hM hA
  refine ⟨S, m, fun _ h => h, fun _ h => .inl h, ⟨hM.rel, hM.pins⟩, hA.1.trans h.len.symm, hA.2.1, fun t => ?_⟩
  rcases h.nth t with e | e
  · show Rel _ _ _ _ (Eng.nth ts' t); rw [e]; exact hA.2.2 t
  · show Rel _ _ _ _ (Eng.nth ts' t); rw [e]; exact .undef _ _

/-- What is known of a map's keys. -/
theorem map_keys {t u : Ty} {x : List (El t × El u)} {es : Array MapEntry} (h2 : es.size = x.length) (h3 : ∀ i, i < x.length → Rel w S [] (meK es i) (mkAV t u x i)) (ht : isKey t = true) : es.toList.length = x.length ∧
    (∀ j (h : j < es.toList.length) (h' : j < x.length), es.toList[j].key = keyV t x[j].1) ∧ (∀ j (h : j < es.toList.length) (h' : j < x.length), Rel w S [] es.toList[j].key (nth (cellsT t x[j].1) 0)) := by
  have key : ∀ j (h : j < es.toList.length) (h' : j < x.length), Rel w S [] es.toList[j].key (nth (cellsT t x[j].1) 0) := fun j hj hj' => by
    have := h3 j hj'
    have e0 : es[j]? = some es.toList[j] := by
      rw [← Array.getElem?_toList, List.getElem?_eq_getElem hj]
    have e1 : x.getD j (dfl t, dfl u) = x[j] := by simp [List.getD, hj']
    unfold meK mkAV at this
    rw [e0, e1] at this
    exact this
  exact ⟨by simpa using h2, fun j hj hj' => rel_key ht (key j hj hj'), key⟩
theorem AWp.keys (hT : TabOk P T) {call : Oracle} (hcall : Sound P call) {t u : Ty} (ht : isKey t = true) {l : List (El t × El u)} {mt kt et : Nat} (hmt : P.underlying mt = some (.map kt et))
    {i4 i5 i6 i7 id id1 it nx ok kx ke lane sm : Nat} {pre4 : List Oper} {oR oN oE oK oX oA : Oper} {ops7 : Array Oper} {A : AS}
    (gR : oR.guard = none) (pR : oR.op = .range mt (.tmp sm)) (dR : oR.dst = some it)
    (gN : oN.guard = none) (pN : oN.op = .next (.tmp it) false) (dN : oN.dst = some nx)
    (gE : oE.guard = none) (pE : oE.op = .extract (.tmp nx) 0) (dE : oE.dst = some ok)
    (gK : oK.guard = none) (pK : oK.op = .entry (.tmp it)) (dK : oK.dst = some kx)
    (gX : oX.guard = none) (pX : oX.op = .extract (.tmp kx) 0) (dX : oX.dst = some ke)
    (gA : oA.guard = none) (pA : oA.op = .assign (.tmp ke)) (dA : oA.dst = some lane)
    (hne : it ≠ nx ∧ it ≠ ok ∧ it ≠ kx ∧ it ≠ ke ∧ it ≠ lane) (h7 : ∀ (i : Nat) (o : Oper), ops7[i]? = some o → o.dst ≠ some it)
    (F : List (El t) → AS) (n0 : Nat) (hF : ∀ ks, lenA (F ks).ts = n0 ∧ nth (F ks).ts it = .undef ∧ nth (F ks).ts nx = .undef ∧ nth (F ks).ts ok = .undef ∧ nth (F ks).ts kx = .undef ∧ nth (F ks).ts ke = .undef)
    (hlt : it < n0 ∧ nx < n0 ∧ ok < n0 ∧ kx < n0 ∧ ke < n0 ∧ lane < n0)
    {s : St} (hs : aOps std T call (pre4 ++ [oR]) pre4 ⟨A.ts, A.m, [], []⟩ = s) (hk : AllT s.ks) (hmv : nth s.ts sm = .mv t u l) (htg : tagOf s.tg sm = [])
    (h0 : ALe ⟨wipe s.ts s.tg, s.m, A.np⟩ (F []))
    (hr : ∀ ks k, ks.length < l.length → ∃ s', aOps std T call ops7.toList ops7.toList ⟨put (F ks).ts lane (nth (cellsT t k) 0), (F ks).m, [], []⟩ = s' ∧ AllT s'.ks ∧ ALe ⟨wipe s'.ts s'.tg, s'.m, (F ks).np⟩ (F (ks ++ [k]))) :
    AWp P (.seq (.region i4 (pre4 ++ [oR]).toArray false) (.block id (.loop (.seq (.region i5 #[oN, oE] false) (.seq (.cond (.tmp ok) .skip (.exit id)) (.block id1 (.seq (.region i6 #[oK, oX, oA] false) (.region i7 ops7 false))))))))
      (fun e B => e = .normal ∧ ∃ ks, ks.Perm (l.map (·.1)) ∧ B = F ks) A := by
  subst hs
  obtain ⟨_, _, tyR, posR, afR, _⟩ := oR
  obtain ⟨_, _, tyN, posN, afN, _⟩ := oN
  obtain ⟨_, _, tyE, posE, afE, _⟩ := oE
  obtain ⟨_, _, tyK, posK, afK, _⟩ := oK
  obtain ⟨_, _, tyX, posX, afX, _⟩ := oX
  obtain ⟨_, _, tyA, posA, afA, _⟩ := oA
  simp only at gR pR dR gN pN dN gE pE dE gK pK dK gX pX dX gA pA dA
  subst gR pR dR gN pN dN gE pE dE gK pK dK gX pX dX gA pA dA
  refine ⟨fun base w S m a hM hA => wp_seq (wp_region ?_)⟩
  generalize hops : (pre4 ++ [(⟨some it, .range mt (.tmp sm), tyR, posR, afR, none⟩ : Oper)]).toArray = ops4
  have hl4 : ops4.toList = pre4 ++ [⟨some it, .range mt (.tmp sm), tyR, posR, afR, none⟩] := by rw [← hops]
  have hz4 : ops4.size = pre4.length + 1 := by rw [← hops]; simp
  have er : List.range ops4.size = List.range' 0 pre4.length ++ [pre4.length] := by
    rw [List.range_eq_range', hz4]
    simp [List.range'_concat]
  rw [er]
  rw [← hl4] at hk hmv htg h0
  have h4g : ∀ k, ops4[k]? = (pre4 ++ [(⟨some it, .range mt (.tmp sm), tyR, posR, afR, none⟩ : Oper)])[k]? := fun k => by rw [← hl4, Array.getElem?_toList]
  refine aOps_wpK hT hcall _ pre4 0 (fun k hk => by rw [h4g, Nat.zero_add, List.getElem?_append_left hk]) hM.rel (hA.start A.m) hk ?_
  intro a1 w1 S1 m1 hb1 hS1 hU1 hM1 hF1
  have hv := hF1.rel sm (by rw [htg]; intro s b hm; cases hm)
  rw [hmv] at hv
  have ho4 : ops4[pre4.length]? = some ⟨some it, .range mt (.tmp sm), tyR, posR, afR, none⟩ := by rw [h4g]; simp
  rw [wpOps_cons]
  unfold wpOp
  rw [ho4]
  simp only
  rw [if_pos (by simp [Region.wanted])]
  left
  generalize hvv : a1.tmps.getD sm Go.undef = v at hv
  cases hv with
  | mv0 =>
    have hev : a1.eval (.tmp sm) = .map none := hvv
    have hrange := run_range_nilMap (P := P) w1 mt kt et hmt
    have hnext := run_next_nilMap (P := P) w1 tyN 0 0 #[]
    unfold Oper.wp
    rw [show execOp a1.eval (⟨some it, .range mt (.tmp sm), tyR, posR, afR, none⟩ : Oper) = (do pure (.value (← Instr.range mt (a1.eval (.tmp sm))))) from rfl, hev]
    simp only [Sem.run_bind, hrange, Result.andThen_ok, Sem.run_pure]
    show (Code.block id _).wp P _ (a1.put (some it) (.pointer (some ⟨w1.heap.size, 0, none⟩))) (w1.alloc (.mapIter none 0 #[] 0))
    have hal := fun x (hx : x < w1.heap.size) => heap_alloc_old w1 (.mapIter none 0 #[] 0) hx
    have hMr : MRel base (w1.alloc (.mapIter none 0 #[] 0)) S1 m1 (aOps std T call ops4.toList pre4 ⟨A.ts, A.m, [], []⟩).m := hM1.aside rfl (fun x hx => hal x (hM1.sb x hx))
      (fun i l hi => ⟨hal _ (hM1.lt i l hi).2.1, (hM1.lt i l hi).1⟩) (fun i l hi b' hb' => ⟨hal _ ((hM1.ext i l hi).out b' hb').2.1, ((hM1.ext i l hi).out b' hb').1⟩) (by simp) (fun x hx => by have := hM1.base_le x hx; simp; omega)
      (hM1.gok.mono fun g hg => hal g (hM1.base_le g (base.gz g hg)))
    obtain ⟨S2, m2, hS2, hU2, hM2, hA2⟩ := h0 base _ S1 m1 a1 ⟨hMr, hM.pins⟩ (show ARel base.old _ S1 m1 a1 _ from
      ⟨hF1.wipe.1, hF1.wipe.2.1.mono (fun _ h => h) (fun x hx => hal x (hM1.sb x hx)), fun t => (hF1.wipe.2.2 t).mono (fun _ h => h) (fun x hx => hal x (hM1.sb x hx)) _ (fun _ _ h => h)⟩)
    have hA2 : ARel base.old (w1.alloc (.mapIter none 0 #[] 0)) S2 m2 a1 (F []).ts := hA2
    have hsz1 : a1.tmps.size = n0 := hA2.1.trans (hF []).1
    obtain ⟨g1, g2, g3, g4, g5⟩ := hne
    obtain ⟨z1, z2, z3, z4, z5, z6⟩ := hlt
    obtain ⟨f0, f1, f2, f3, f4, f5⟩ := hF []
    refine wp_block (wp_loop_nat (fun (_ : Nat) a' w' => a' = a1.put (some it) (.pointer (some ⟨w1.heap.size, 0, none⟩)) ∧ w' = w1.alloc (.mapIter none 0 #[] 0)) 0 ⟨rfl, rfl⟩ ?_)
    rintro n a' w' ⟨rfl, rfl⟩
    refine wp_seq (wp_region_list ?_)
    have hit : (a1.put (some it) (.pointer (some ⟨w1.heap.size, 0, none⟩))).eval (.tmp it) = .pointer (some ⟨w1.heap.size, 0, none⟩) := put_self (by rw [hsz1]; exact z1)
    refine wpl_op (x := Instr.next ((a1.put (some it) (.pointer (some ⟨w1.heap.size, 0, none⟩))).eval (.tmp it)) false tyN) rfl rfl (by rw [hit]; exact hnext) ?_
    generalize ha' : a1.put (some it) (.pointer (some ⟨w1.heap.size, 0, none⟩)) = a'
    have hsz : a'.tmps.size = n0 := by rw [← ha', put_size]; exact hsz1
    have p5 : ARel base.old (w1.alloc (.mapIter none 0 #[] 0)) S2 m2 a' (F []).ts := by rw [← ha']; exact rel_put hA2 f1
    have e1 : (a'.put (some nx) (.tuple #[.bool false])).eval (.tmp nx) = .tuple #[.bool false] := put_self (by rw [hsz]; exact z2)
    refine wpl_op (x := Instr.extract ((a'.put (some nx) (.tuple #[.bool false])).eval (.tmp nx)) 0) rfl rfl (by rw [e1]; exact run_extract #[.bool false] 0 (by decide)) ?_
    have e2 : ((a'.put (some nx) (.tuple #[.bool false])).put (some ok) (.bool false)).eval (.tmp ok) = .bool false := put_self (by rw [put_size, hsz]; exact z3)
    refine wpList_nil ?_
    show Code.wp P _ _ _ _
    refine wp_seq (wp_cond_split e2 (fun h => by cases h) fun _ => wp_exit ?_)
    show Exit.inBlock id _ (.exit id) _ _
    simp only [Exit.inBlock, if_true]
    exact ⟨F [], S2, m2, ⟨rfl, [], List.Perm.refl _, rfl⟩, hb1.alloc hM1.base_le _, fun x h => hS2 x (hS1 x h), fun x h => (hU2 x h).elim (hU1 x) .inr, hM2, rel_put (rel_put p5 f2) f3⟩
  | mv _ b es ck _ _ _ hsb hg hl h1 h2 hok =>
  have hev : a1.eval (.tmp sm) = .map (some b) := hvv
  have hrange := run_range_map (P := P) w1 mt kt et b es ck hmt hg
  unfold Oper.wp
  rw [show execOp a1.eval (⟨some it, .range mt (.tmp sm), tyR, posR, afR, none⟩ : Oper) = (do pure (.value (← Instr.range mt (a1.eval (.tmp sm))))) from rfl, hev]
  simp only [Sem.run_bind, hrange, Result.andThen_ok, Sem.run_pure]
  show (Code.block id _).wp P _ (a1.put (some it) (.pointer (some ⟨w1.heap.size, 0, none⟩))) (w1.alloc (.mapIter (some b) ck #[] ck))
  generalize hr0 : w1.heap.size = r
  generalize hW : w1.alloc (.mapIter (some b) ck #[] ck) = W
  have hsW : W.heap.size = r + 1 := by rw [← hW, ← hr0]; simp
  have hWr : W.heap[r]? = some (.mapIter (some b) ck #[] ck) := by rw [← hW, ← hr0]; exact heap_alloc_new _ _
  have hWo : ∀ x, x < r → W.heap[x]? = w1.heap[x]? := fun x hx => by rw [← hW]; exact heap_alloc_old _ _ (by omega)
  have hbr : b < r := by rw [← hr0]; exact hM1.sb b hsb
  have hS1r : ∀ x, S1 x → x < r := fun x hx => by rw [← hr0]; exact hM1.sb x hx
  let B : Env := ⟨fun x => base.Z x ∨ x = r ∨ x = b, base.pin, fun g hg => .inl (base.gz g hg), base.old, fun g hg => .inl (base.oz g hg)⟩
  have hZlt : ∀ x, base.Z x → x < r := fun x hx => by rw [← hr0]; exact hM1.base_le x hx
  have hMr : MRel B W S1 m1 (aOps std T call ops4.toList pre4 ⟨A.ts, A.m, [], []⟩).m := hM1.aside rfl (fun x hx => hWo x (hS1r x hx))
    (fun i l hi => ⟨hWo _ (by rw [← hr0]; exact (hM1.lt i l hi).2.1), fun hz => by
      have q := hM1.lt i l hi
      rcases hz with hz | hz | hz
      · exact q.1 hz
      · have := q.2.1; omega
      · exact q.2.2 (hz ▸ hsb)⟩) (fun i l hi b' hb' => have q := (hM1.ext i l hi).out b' hb'; ⟨hWo _ (by rw [← hr0]; exact q.2.1), fun hz => by
      rcases hz with hz | hz | hz
      · exact q.1 hz
      · have := q.2.1; omega
      · exact q.2.2 (hz ▸ hsb)⟩) (by omega) (fun x hx => by
      rcases hx with hx | hx | hx
      · have := hZlt x hx; omega
      · omega
      · omega) (hM1.gok.mono fun g hg => hWo g (hZlt g (base.gz g hg)))
  have harel : ∀ {w w' : World} {S : Nat → Prop} {m : Locs} {a : Act} {ts : List AV}, ARel base.old w S m a ts → (∀ b, S b → w'.heap[b]? = w.heap[b]?) → ARel base.old w' S m a ts := fun h hS =>
    ⟨h.1, h.2.1.mono (fun _ h => h) hS, fun t => (h.2.2 t).mono (fun _ h => h) hS _ (fun _ _ h => h)⟩
  obtain ⟨S2, m2, hS2, hU2, hM2, hA2⟩ := h0 B W S1 m1 a1 ⟨hMr, hM.pins⟩ (harel hF1.wipe fun x hx => hWo x (hS1r x hx))
  have hA2 : ARel base.old W S2 m2 a1 (F []).ts := hA2
  obtain ⟨k1, k2, k3⟩ := map_keys hl h1 ht
  have hkeys : es.toList.map (fun e => unK t e.key) = l.map (·.1) := by
    refine List.ext_getElem (by simp only [List.length_map]; exact k1) fun i hi hi' => ?_
    rw [List.getElem_map, List.getElem_map, k2 i (by simpa using hi) (by simpa using hi'), unK_key ht]
  have hWb : W.heap[b]? = some (.map es ck) := (hWo b hbr).trans hg
  have hS2r : ¬ S2 r := fun h => (hU2 r h).elim (fun h => Nat.lt_irrefl _ (hS1r r h)) fun h => h (.inr (.inl rfl))
  have hsz1 : a1.tmps.size = n0 := hA2.1.trans (hF []).1
  obtain ⟨g1, g2, g3, g4, g5⟩ := hne
  obtain ⟨z1, z2, z3, z4, z5, z6⟩ := hlt
  refine wp_block (wp_loop_nat (fun n a' w' => ∃ (ks : List (El t)) (S' : Nat → Prop) (m' : Locs) (seen : Array Nat) (c0 : Nat), Prot base.Z w w' ∧ (∀ b, S b → S' b) ∧ (∀ b, S' b → S b ∨ ¬ base.Z b) ∧ MA B w' S' m' (F ks) ∧ ARel base.old w' S' m' a' (F ks).ts ∧
      a'.tmps.getD it Go.undef = .pointer (some ⟨r, 0, none⟩) ∧ w'.heap[r]? = some (.mapIter (some b) ck seen c0) ∧ ck ≤ c0 ∧ w'.heap[b]? = some (.map es ck) ∧ ¬ S' r ∧ (ks ++ (leftOf es seen).toList.map (fun e => unK t e.key)).Perm (l.map (·.1)) ∧ n = (leftOf es seen).size)
    (leftOf es #[]).size ⟨[], S2, m2, #[], ck, ?_, fun x h => hS2 x (hS1 x h), fun x h => (hU2 x h).elim (hU1 x) (fun h => .inr fun hz => h (.inl hz)), hM2, rel_put hA2 (hF []).2.1, put_self (by rw [hsz1]; exact z1), hWr, Nat.le_refl _, hWb, hS2r, ?_, rfl⟩ ?_)
  · rw [← hW]; exact hb1.alloc hM1.base_le _
  · have : (leftOf es #[]).toList = es.toList := by unfold leftOf; rw [Array.toList_filter]; exact List.filter_eq_self.2 fun x _ => by simp
    rw [this, hkeys]; exact List.Perm.refl _
  rintro n a' w' ⟨ks, S', m', seen, c0, p1, p2, p3, p4, p5, p6, p7, p8, p9, p10, p11, rfl⟩
  obtain ⟨f0, f1, f2, f3, f4, f5⟩ := hF ks
  have hsz : a'.tmps.size = n0 := p5.1.trans f0
  refine wp_seq (wp_region_list ?_)
  have hit : a'.eval (.tmp it) = .pointer (some ⟨r, 0, none⟩) := p6
  rcases run_next_at (P := P) w' tyN r b ck c0 seen es ck p7 p9 hok.born p8 with ⟨hz, hrun⟩ | ⟨e, he, w2, hal, hrun⟩
  · refine wpl_op (x := Instr.next (a'.eval (.tmp it)) false tyN) rfl rfl (by rw [hit]; exact hrun) ?_
    have e1 : (a'.put (some nx) (.tuple #[.bool false])).eval (.tmp nx) = .tuple #[.bool false] := put_self (by rw [hsz]; exact z2)
    refine wpl_op (x := Instr.extract ((a'.put (some nx) (.tuple #[.bool false])).eval (.tmp nx)) 0) rfl rfl (by rw [e1]; exact run_extract #[.bool false] 0 (by decide)) ?_
    have e2 : ((a'.put (some nx) (.tuple #[.bool false])).put (some ok) (.bool false)).eval (.tmp ok) = .bool false := put_self (by rw [put_size, hsz]; exact z3)
    refine wpList_nil ?_
    show Code.wp P _ _ _ _
    refine wp_seq (wp_cond_split e2 (fun h => by cases h) fun _ => wp_exit ?_)
    show Exit.inBlock id _ (.exit id) _ _
    simp only [Exit.inBlock, if_true]
    refine ⟨F ks, S', m', ⟨rfl, ks, ?_, rfl⟩, p1, p2, p3, ⟨p4.rel.aside rfl (fun _ _ => rfl) (fun i l hi => ⟨rfl, fun hz => (p4.rel.lt i l hi).1 (.inl hz)⟩) (fun i l hi b' hb' => ⟨rfl, fun hz => ((p4.rel.ext i l hi).out b' hb').1 (.inl hz)⟩) (Nat.le_refl _) (fun x hx => p4.rel.base_le x (.inl hx)) p4.rel.gok, p4.pins⟩, rel_put (rel_put p5 f2) f3⟩
    have : (leftOf es seen).toList = [] := by
      have : (leftOf es seen).toList.length = 0 := by rw [Array.length_toList]; exact hz
      exact List.length_eq_zero_iff.1 this
    rw [this] at p11
    simpa using p11
  · refine wpl_op (x := Instr.next (a'.eval (.tmp it)) false tyN) rfl rfl (by rw [hit]; exact hrun) ?_
    have hal2 : w2.heap = w'.heap := by rcases hal with rfl | rfl <;> rfl
    generalize hw3 : setBlock w2 r (.mapIter (some b) ck (seen.push e.born) ck) = w3
    have hrlt : r < w'.heap.size := (Array.getElem?_eq_some_iff.1 p7).1
    have h3h : w3.heap = w'.heap.setIfInBounds r (.mapIter (some b) ck (seen.push e.born) ck) := by rw [← hw3, ← hal2]; rfl
    have h3r : w3.heap[r]? = some (.mapIter (some b) ck (seen.push e.born) ck) := by rw [h3h, Array.getElem?_setIfInBounds_self_of_lt hrlt]
    have h3o : ∀ x, x ≠ r → w3.heap[x]? = w'.heap[x]? := fun x hx => by rw [h3h, Array.getElem?_setIfInBounds_ne (Ne.symm hx)]
    have h3s : w3.heap.size = w'.heap.size := by rw [h3h, Array.size_setIfInBounds]
    have h3p : Prot base.Z w' w3 := by
      have hos : w3.os = w'.os ∧ w3.tape = w'.tape ∧ w3.output = w'.output := by rw [← hw3]; rcases hal with rfl | rfl <;> exact ⟨rfl, rfl, rfl⟩
      exact ⟨hos.1, hos.2.1, hos.2.2, Nat.le_of_eq h3s.symm, fun x hx => h3o x fun q => by have := hZlt x hx; omega⟩
    have h3b : w3.heap[b]? = some (.map es ck) := (h3o b (by omega)).trans p9
    have hS3 : ∀ x, S' x → w3.heap[x]? = w'.heap[x]? := fun x hx => h3o x fun q => p10 (q ▸ hx)
    have hM3 : MRel B w3 S' m' (F ks).m := p4.rel.aside rfl hS3 (fun i l hi => ⟨h3o _ fun q => (p4.rel.lt i l hi).1 (.inr (.inl q)), (p4.rel.lt i l hi).1⟩) (fun i l hi b' hb' => ⟨h3o _ fun q => ((p4.rel.ext i l hi).out b' hb').1 (.inr (.inl q)), ((p4.rel.ext i l hi).out b' hb').1⟩) (Nat.le_of_eq h3s.symm) (fun x hx => by rw [h3s]; exact p4.rel.base_le x hx)
      (p4.rel.gok.mono fun g hg => h3p.block g (base.gz g hg))
    have hA3 := harel p5 hS3
    have e1 : (a'.put (some nx) (.tuple #[.bool true, e.key, e.val])).eval (.tmp nx) = .tuple #[.bool true, e.key, e.val] := put_self (by rw [hsz]; exact z2)
    refine wpl_op (x := Instr.extract ((a'.put (some nx) (.tuple #[.bool true, e.key, e.val])).eval (.tmp nx)) 0) rfl rfl (by rw [e1]; exact run_extract #[.bool true, e.key, e.val] 0 (Nat.succ_pos _)) ?_
    generalize ha2 : (a'.put (some nx) (.tuple #[.bool true, e.key, e.val])).put (some ok) (.bool true) = a2
    have hA4 : ARel base.old w3 S' m' a2 (F ks).ts := by rw [← ha2]; exact rel_put (rel_put hA3 f2) f3
    have hs2 : a2.tmps.size = n0 := hA4.1.trans f0
    have hi2 : a2.tmps.getD it Go.undef = .pointer (some ⟨r, 0, none⟩) := by
      rw [← ha2, put_other (fun q => g2 (Option.some.inj q).symm), put_other (fun q => g1 (Option.some.inj q).symm)]; exact p6
    have e2 : a2.eval (.tmp ok) = .bool true := by rw [← ha2]; exact put_self (by rw [put_size, hsz]; exact z3)
    show wpList P _ _ [] ((a'.put (some nx) (.tuple #[.bool true, e.key, e.val])).put (some ok) (.bool true)) w3
    rw [ha2]
    refine wpList_nil ?_
    show Code.wp P _ _ _ _
    refine wp_seq (wp_cond_split e2 (fun _ => wp_skip ?_) fun h => by cases h)
    show Code.wp P _ _ _ _
    refine wp_block (wp_seq (wp_region_list ?_))
    have hem : e ∈ es.toList := (mem_left he).1
    have hrunE := run_entry_at (P := P) w3 r b ck seen es ck e h3r h3b hem hok.once
    refine wpl_op (x := Instr.entry (a2.eval (.tmp it))) rfl rfl (by rw [show a2.eval (.tmp it) = .pointer (some ⟨r, 0, none⟩) from hi2]; exact hrunE) ?_
    have e3 : (a2.put (some kx) (.tuple #[e.key, e.val])).eval (.tmp kx) = .tuple #[e.key, e.val] := put_self (by rw [hs2]; exact z4)
    refine wpl_op (x := Instr.extract ((a2.put (some kx) (.tuple #[e.key, e.val])).eval (.tmp kx)) 0) rfl rfl (by rw [e3]; exact run_extract #[e.key, e.val] 0 (Nat.succ_pos _)) ?_
    generalize ha3 : (a2.put (some kx) (.tuple #[e.key, e.val])).put (some ke) e.key = a3
    have hA5 : ARel base.old w3 S' m' a3 (F ks).ts := by rw [← ha3]; exact rel_put (rel_put hA4 f4) f5
    have hi3 : a3.tmps.getD it Go.undef = .pointer (some ⟨r, 0, none⟩) := by
      rw [← ha3, put_other (fun q => g4 (Option.some.inj q).symm), put_other (fun q => g3 (Option.some.inj q).symm)]; exact hi2
    have e4 : a3.eval (.tmp ke) = e.key := by rw [← ha3]; exact put_self (by rw [put_size, hs2]; exact z5)
    show wpList P _ _ _ ((a2.put (some kx) (.tuple #[e.key, e.val])).put (some ke) e.key) w3
    rw [ha3]
    refine wpl_op (x := pure (a3.eval (.tmp ke))) rfl rfl (by rw [e4]; rfl) ?_
    refine wpList_nil ?_
    show Code.wp P _ _ (a3.put (some lane) e.key) w3
    -- the key
    obtain ⟨j, hj, hje⟩ := List.getElem_of_mem hem
    have hj' : j < l.length := by omega
    have hkr : Rel w3 S' m' e.key (nth (cellsT t l[j].1) 0) := by rw [← hje]; exact key_any ht (k3 j hj hj')
    have hku : unK t e.key = l[j].1 := by rw [← hje, k2 j hj hj', unK_key ht]
    obtain ⟨s', q1, q2, q3⟩ := hr ks l[j].1 (by
      have h1 := p11.length_eq
      rw [List.length_append, List.length_map, List.length_map] at h1
      have := List.length_pos_of_mem he
      omega)
    subst q1
    have hA6 : ARel B.old w3 S' m' (a3.put (some lane) e.key) (put (F ks).ts lane (nth (cellsT t l[j].1) 0)) := rel_put' hA5 hkr
    have er7 : List.range ops7.size = List.range' 0 ops7.toList.length := by rw [List.range_eq_range']; simp
    refine Code.wp_mono ?_ (wp_region (Q := fun ex a6 w6 => (ex = .normal ∧ ∃ S6 m6, Prot B.Z w3 w6 ∧ (∀ x, S' x → S6 x) ∧ (∀ x, S6 x → S' x ∨ ¬ B.Z x) ∧ MA B w6 S6 m6 (F (ks ++ [l[j].1])) ∧ ARel base.old w6 S6 m6 a6 (F (ks ++ [l[j].1])).ts) ∧ (ex = .normal → a6.tmps.getD it Go.undef = .pointer (some ⟨r, 0, none⟩))) (by
      rw [er7]
      refine wpOps_slot _ _ _ (fun i _ o ho => h7 i o ho) (by rw [put_other (fun q => g5 (Option.some.inj q).symm)]; exact hi3) ?_
      refine aOps_wp hT hcall ops7.toList 0 (fun k => by simp) hM3 (hA6.start (F ks).m) q2 ?_
      intro a6 w6 S6 m6 hb6 hS6 hU6 hM6 hF6
      obtain ⟨S7, m7, hS7, hU7, hM7, hA7⟩ := q3 B w6 S6 m6 a6 ⟨hM6, p4.pins⟩ hF6.wipe
      exact ⟨rfl, S7, m7, hb6, fun x h => hS7 x (hS6 x h), fun x h => (hU7 x h).elim (hU6 x) .inr, hM7, hA7⟩))
    rintro ex a6 w6 ⟨⟨rfl, S6, m6, q1, q2, q3, q4, q5⟩, q6⟩
    refine ⟨_, left_shrinks es seen e he, ks ++ [l[j].1], S6, m6, seen.push e.born, ck, (p1.trans h3p).trans (q1.mono fun x hx => .inl hx), fun x h => q2 x (p2 x h), fun x h => (q3 x h).elim (p3 x) (fun h => .inr fun hz => h (.inl hz)), q4, q5, q6 rfl, (q1.block r (.inr (.inl rfl))).trans h3r, Nat.le_refl _,
      (q1.block b (.inr (.inr rfl))).trans h3b, fun h => (q3 r h).elim p10 fun h => h (.inr (.inl rfl)), ?_, rfl⟩
    have hp := (left_perm hok.once he).map (fun e => unK t e.key)
    rw [List.map_cons, hku] at hp
    rw [List.append_assoc]
    exact (hp.symm.append_left ks).trans p11
theorem key_val {u : Ty} (hu : isKey u = true) {v : Value} {x : El u} (h : Rel w S m v (nth (cellsT u x) 0)) : v = keyV u x := by
  cases u with
  | int q => change Rel w S m v (.int q x) at h; cases h; rfl
  | bool => change Rel w S m v (.bool x) at h; cases h; rfl
  | str => change Rel w S m v (.str x) at h; cases h; rfl
  | _ => cases hu
/-- The same, of values; the map may be one of one's own that is given away. -/
theorem AWp.vals (hT : TabOk P T) {o : OrT} (ho : SoundT P o) {t u : Ty} (ht : isKey t = true) (hu : isKey u = true) {l : List (El t × El u)} {mt kt et : Nat} (hmt : P.underlying mt = some (.map kt et))
    {i4 i5 i6 i7 id id1 it nx ok kx ke lane sm : Nat} {pre4 : List Oper} {oR oN oE oK oX oA : Oper} {ops7 : Array Oper} {A : AS}
    (gR : oR.guard = none) (pR : oR.op = .range mt (.tmp sm)) (dR : oR.dst = some it)
    (gN : oN.guard = none) (pN : oN.op = .next (.tmp it) false) (dN : oN.dst = some nx)
    (gE : oE.guard = none) (pE : oE.op = .extract (.tmp nx) 0) (dE : oE.dst = some ok)
    (gK : oK.guard = none) (pK : oK.op = .entry (.tmp it)) (dK : oK.dst = some kx)
    (gX : oX.guard = none) (pX : oX.op = .extract (.tmp kx) 1) (dX : oX.dst = some ke)
    (gA : oA.guard = none) (pA : oA.op = .assign (.tmp ke)) (dA : oA.dst = some lane)
    (hne : it ≠ nx ∧ it ≠ ok ∧ it ≠ kx ∧ it ≠ ke ∧ it ≠ lane) (h7 : ∀ (i : Nat) (o : Oper), ops7[i]? = some o → o.dst ≠ some it)
    (F : List (El u) → AS) (n0 : Nat) (hF : ∀ ks, lenA (F ks).ts = n0 ∧ nth (F ks).ts it = .undef ∧ nth (F ks).ts nx = .undef ∧ nth (F ks).ts ok = .undef ∧ nth (F ks).ts kx = .undef ∧ nth (F ks).ts ke = .undef)
    (hlt : it < n0 ∧ nx < n0 ∧ ok < n0 ∧ kx < n0 ∧ ke < n0 ∧ lane < n0)
    {s : St} (hs : (opsT std T o (pre4 ++ [oR]) pre4 ⟨A.ts, A.m, [], []⟩).run = some s) {A1 : AS} (hz : ALe ⟨wipe s.ts s.tg, s.m, A.np⟩ A1) (hmv : nth A1.ts sm = .mv t u l)
    (h0 : ALe A1 (F []))
    (hr : ∀ ks k, ks.length < l.length → ∃ s', aOps std T o.old ops7.toList ops7.toList ⟨put (F ks).ts lane (nth (cellsT u k) 0), (F ks).m, [], []⟩ = s' ∧ AllT s'.ks ∧ ALe ⟨wipe s'.ts s'.tg, s'.m, (F ks).np⟩ (F (ks ++ [k]))) :
    AWp P (.seq (.region i4 (pre4 ++ [oR]).toArray false) (.block id (.loop (.seq (.region i5 #[oN, oE] false) (.seq (.cond (.tmp ok) .skip (.exit id)) (.block id1 (.seq (.region i6 #[oK, oX, oA] false) (.region i7 ops7 false))))))))
      (fun e B => e = .normal ∧ ∃ ks, ks.Perm (l.map (·.2)) ∧ B = F ks) A := by
  obtain ⟨_, hops0⟩ := opsT_ok rfl hs
  obtain ⟨K, hK, hops1⟩ := hops0 [] trivial
  obtain ⟨_, _, tyR, posR, afR, _⟩ := oR
  obtain ⟨_, _, tyN, posN, afN, _⟩ := oN
  obtain ⟨_, _, tyE, posE, afE, _⟩ := oE
  obtain ⟨_, _, tyK, posK, afK, _⟩ := oK
  obtain ⟨_, _, tyX, posX, afX, _⟩ := oX
  obtain ⟨_, _, tyA, posA, afA, _⟩ := oA
  simp only at gR pR dR gN pN dN gE pE dE gK pK dK gX pX dX gA pA dA
  subst gR pR dR gN pN dN gE pE dE gK pK dK gX pX dX gA pA dA
  refine ⟨fun base w S m a hM hA => wp_seq (wp_region ?_)⟩
  generalize hops : (pre4 ++ [(⟨some it, .range mt (.tmp sm), tyR, posR, afR, none⟩ : Oper)]).toArray = ops4
  have hl4 : ops4.toList = pre4 ++ [⟨some it, .range mt (.tmp sm), tyR, posR, afR, none⟩] := by rw [← hops]
  have hz4 : ops4.size = pre4.length + 1 := by rw [← hops]; simp
  have er : List.range ops4.size = List.range' 0 pre4.length ++ [pre4.length] := by
    rw [List.range_eq_range', hz4]
    simp [List.range'_concat]
  rw [er]
  rw [← hl4] at hops1
  have hops1 : aOps std T o.old ops4.toList pre4 ⟨A.ts, A.m, [], []⟩ = ⟨s.ts, s.m, s.tg, K⟩ := hops1
  have h4g : ∀ k, ops4[k]? = (pre4 ++ [(⟨some it, .range mt (.tmp sm), tyR, posR, afR, none⟩ : Oper)])[k]? := fun k => by rw [← hl4, Array.getElem?_toList]
  refine aOps_wpK hT ho.old _ pre4 0 (fun k hk => by rw [h4g, Nat.zero_add, List.getElem?_append_left hk]) hM.rel (hA.start A.m) (by rw [hops1]; exact hK) ?_
  intro a1 w1 S0 m0 hb1 hS0 hU0 hM0 hF0
  rw [hops1] at hM0 hF0
  obtain ⟨S1, m1, hS01, hU01, hMM1, hA1⟩ := hz base w1 S0 m0 a1 ⟨hM0, hM.pins⟩ hF0.wipe
  have hS1 : ∀ b, S b → S1 b := fun b h => hS01 b (hS0 b h)
  have hU1 : ∀ b, S1 b → S b ∨ ¬ base.Z b := fun b h => (hU01 b h).elim (hU0 b) .inr
  have hM1 := hMM1.rel
  have hv := hA1.2.2 sm
  rw [hmv] at hv
  have ho4 : ops4[pre4.length]? = some ⟨some it, .range mt (.tmp sm), tyR, posR, afR, none⟩ := by rw [h4g]; simp
  rw [wpOps_cons]
  unfold wpOp
  rw [ho4]
  simp only
  rw [if_pos (by simp [Region.wanted])]
  left
  generalize hvv : a1.tmps.getD sm Go.undef = v at hv
  cases hv with
  | mv0 => cases hu
  | mv _ b es ck _ _ _ hsb hg hl h1 h2 hok =>
  have hev : a1.eval (.tmp sm) = .map (some b) := hvv
  have hrange := run_range_map (P := P) w1 mt kt et b es ck hmt hg
  unfold Oper.wp
  rw [show execOp a1.eval (⟨some it, .range mt (.tmp sm), tyR, posR, afR, none⟩ : Oper) = (do pure (.value (← Instr.range mt (a1.eval (.tmp sm))))) from rfl, hev]
  simp only [Sem.run_bind, hrange, Result.andThen_ok, Sem.run_pure]
  show (Code.block id _).wp P _ (a1.put (some it) (.pointer (some ⟨w1.heap.size, 0, none⟩))) (w1.alloc (.mapIter (some b) ck #[] ck))
  generalize hr0 : w1.heap.size = r
  generalize hW : w1.alloc (.mapIter (some b) ck #[] ck) = W
  have hsW : W.heap.size = r + 1 := by rw [← hW, ← hr0]; simp
  have hWr : W.heap[r]? = some (.mapIter (some b) ck #[] ck) := by rw [← hW, ← hr0]; exact heap_alloc_new _ _
  have hWo : ∀ x, x < r → W.heap[x]? = w1.heap[x]? := fun x hx => by rw [← hW]; exact heap_alloc_old _ _ (by omega)
  have hbr : b < r := by rw [← hr0]; exact hM1.sb b hsb
  have hS1r : ∀ x, S1 x → x < r := fun x hx => by rw [← hr0]; exact hM1.sb x hx
  let B : Env := ⟨fun x => base.Z x ∨ x = r ∨ x = b, base.pin, fun g hg => .inl (base.gz g hg), base.old, fun g hg => .inl (base.oz g hg)⟩
  have hZlt : ∀ x, base.Z x → x < r := fun x hx => by rw [← hr0]; exact hM1.base_le x hx
  have hMr : MRel B W S1 m1 A1.m := hM1.aside rfl (fun x hx => hWo x (hS1r x hx))
    (fun i l hi => ⟨hWo _ (by rw [← hr0]; exact (hM1.lt i l hi).2.1), fun hz => by
      have q := hM1.lt i l hi
      rcases hz with hz | hz | hz
      · exact q.1 hz
      · have := q.2.1; omega
      · exact q.2.2 (hz ▸ hsb)⟩) (fun i l hi b' hb' => have q := (hM1.ext i l hi).out b' hb'; ⟨hWo _ (by rw [← hr0]; exact q.2.1), fun hz => by
      rcases hz with hz | hz | hz
      · exact q.1 hz
      · have := q.2.1; omega
      · exact q.2.2 (hz ▸ hsb)⟩) (by omega) (fun x hx => by
      rcases hx with hx | hx | hx
      · have := hZlt x hx; omega
      · omega
      · omega) (hM1.gok.mono fun g hg => hWo g (hZlt g (base.gz g hg)))
  have harel : ∀ {w w' : World} {S : Nat → Prop} {m : Locs} {a : Act} {ts : List AV}, ARel base.old w S m a ts → (∀ b, S b → w'.heap[b]? = w.heap[b]?) → ARel base.old w' S m a ts := fun h hS =>
    ⟨h.1, h.2.1.mono (fun _ h => h) hS, fun t => (h.2.2 t).mono (fun _ h => h) hS _ (fun _ _ h => h)⟩
  obtain ⟨S2, m2, hS2, hU2, hM2, hA2⟩ := h0 B W S1 m1 a1 ⟨hMr, hMM1.pins⟩ (harel hA1 fun x hx => hWo x (hS1r x hx))
  have hA2 : ARel base.old W S2 m2 a1 (F []).ts := hA2
  obtain ⟨k1, k2, k3⟩ := map_ents hl (fun i hi => ⟨h1 i hi, h2 i hi⟩) ht (by cases u <;> first | rfl | cases hu)
  have hval : ∀ i (hi : i < es.toList.length) (hi' : i < l.length), es.toList[i].val = keyV u l[i].2 := fun i hi hi' => key_val hu (k3 i hi hi').2
  have hkeys : es.toList.map (fun e => unK u e.val) = l.map (·.2) := by
    refine List.ext_getElem (by simp only [List.length_map]; exact k1) fun i hi hi' => ?_
    rw [List.getElem_map, List.getElem_map, hval i (by simpa using hi) (by simpa using hi'), unK_key hu]
  have hWb : W.heap[b]? = some (.map es ck) := (hWo b hbr).trans hg
  have hS2r : ¬ S2 r := fun h => (hU2 r h).elim (fun h => Nat.lt_irrefl _ (hS1r r h)) fun h => h (.inr (.inl rfl))
  have hsz1 : a1.tmps.size = n0 := hA2.1.trans (hF []).1
  obtain ⟨g1, g2, g3, g4, g5⟩ := hne
  obtain ⟨z1, z2, z3, z4, z5, z6⟩ := hlt
  refine wp_block (wp_loop_nat (fun n a' w' => ∃ (ks : List (El u)) (S' : Nat → Prop) (m' : Locs) (seen : Array Nat) (c0 : Nat), Prot base.Z w w' ∧ (∀ b, S b → S' b) ∧ (∀ b, S' b → S b ∨ ¬ base.Z b) ∧ MA B w' S' m' (F ks) ∧ ARel base.old w' S' m' a' (F ks).ts ∧
      a'.tmps.getD it Go.undef = .pointer (some ⟨r, 0, none⟩) ∧ w'.heap[r]? = some (.mapIter (some b) ck seen c0) ∧ ck ≤ c0 ∧ w'.heap[b]? = some (.map es ck) ∧ ¬ S' r ∧ (ks ++ (leftOf es seen).toList.map (fun e => unK u e.val)).Perm (l.map (·.2)) ∧ n = (leftOf es seen).size)
    (leftOf es #[]).size ⟨[], S2, m2, #[], ck, ?_, fun x h => hS2 x (hS1 x h), fun x h => (hU2 x h).elim (hU1 x) (fun h => .inr fun hz => h (.inl hz)), hM2, rel_put hA2 (hF []).2.1, put_self (by rw [hsz1]; exact z1), hWr, Nat.le_refl _, hWb, hS2r, ?_, rfl⟩ ?_)
  · rw [← hW]; exact hb1.alloc hM1.base_le _
  · have : (leftOf es #[]).toList = es.toList := by unfold leftOf; rw [Array.toList_filter]; exact List.filter_eq_self.2 fun x _ => by simp
    rw [this, hkeys]; exact List.Perm.refl _
  rintro n a' w' ⟨ks, S', m', seen, c0, p1, p2, p3, p4, p5, p6, p7, p8, p9, p10, p11, rfl⟩
  obtain ⟨f0, f1, f2, f3, f4, f5⟩ := hF ks
  have hsz : a'.tmps.size = n0 := p5.1.trans f0
  refine wp_seq (wp_region_list ?_)
  have hit : a'.eval (.tmp it) = .pointer (some ⟨r, 0, none⟩) := p6
  rcases run_next_at (P := P) w' tyN r b ck c0 seen es ck p7 p9 hok.born p8 with ⟨hz, hrun⟩ | ⟨e, he, w2, hal, hrun⟩
  · refine wpl_op (x := Instr.next (a'.eval (.tmp it)) false tyN) rfl rfl (by rw [hit]; exact hrun) ?_
    have e1 : (a'.put (some nx) (.tuple #[.bool false])).eval (.tmp nx) = .tuple #[.bool false] := put_self (by rw [hsz]; exact z2)
    refine wpl_op (x := Instr.extract ((a'.put (some nx) (.tuple #[.bool false])).eval (.tmp nx)) 0) rfl rfl (by rw [e1]; exact run_extract #[.bool false] 0 (by decide)) ?_
    have e2 : ((a'.put (some nx) (.tuple #[.bool false])).put (some ok) (.bool false)).eval (.tmp ok) = .bool false := put_self (by rw [put_size, hsz]; exact z3)
    refine wpList_nil ?_
    show Code.wp P _ _ _ _
    refine wp_seq (wp_cond_split e2 (fun h => by cases h) fun _ => wp_exit ?_)
    show Exit.inBlock id _ (.exit id) _ _
    simp only [Exit.inBlock, if_true]
    refine ⟨F ks, S', m', ⟨rfl, ks, ?_, rfl⟩, p1, p2, p3, ⟨p4.rel.aside rfl (fun _ _ => rfl) (fun i l hi => ⟨rfl, fun hz => (p4.rel.lt i l hi).1 (.inl hz)⟩) (fun i l hi b' hb' => ⟨rfl, fun hz => ((p4.rel.ext i l hi).out b' hb').1 (.inl hz)⟩) (Nat.le_refl _) (fun x hx => p4.rel.base_le x (.inl hx)) p4.rel.gok, p4.pins⟩, rel_put (rel_put p5 f2) f3⟩
    have : (leftOf es seen).toList = [] := by
      have : (leftOf es seen).toList.length = 0 := by rw [Array.length_toList]; exact hz
      exact List.length_eq_zero_iff.1 this
    rw [this] at p11
    simpa using p11
  · refine wpl_op (x := Instr.next (a'.eval (.tmp it)) false tyN) rfl rfl (by rw [hit]; exact hrun) ?_
    have hal2 : w2.heap = w'.heap := by rcases hal with rfl | rfl <;> rfl
    generalize hw3 : setBlock w2 r (.mapIter (some b) ck (seen.push e.born) ck) = w3
    have hrlt : r < w'.heap.size := (Array.getElem?_eq_some_iff.1 p7).1
    have h3h : w3.heap = w'.heap.setIfInBounds r (.mapIter (some b) ck (seen.push e.born) ck) := by rw [← hw3, ← hal2]; rfl
    have h3r : w3.heap[r]? = some (.mapIter (some b) ck (seen.push e.born) ck) := by rw [h3h, Array.getElem?_setIfInBounds_self_of_lt hrlt]
    have h3o : ∀ x, x ≠ r → w3.heap[x]? = w'.heap[x]? := fun x hx => by rw [h3h, Array.getElem?_setIfInBounds_ne (Ne.symm hx)]
    have h3s : w3.heap.size = w'.heap.size := by rw [h3h, Array.size_setIfInBounds]
    have h3p : Prot base.Z w' w3 := by
      have hos : w3.os = w'.os ∧ w3.tape = w'.tape ∧ w3.output = w'.output := by rw [← hw3]; rcases hal with rfl | rfl <;> exact ⟨rfl, rfl, rfl⟩
      exact ⟨hos.1, hos.2.1, hos.2.2, Nat.le_of_eq h3s.symm, fun x hx => h3o x fun q => by have := hZlt x hx; omega⟩
    have h3b : w3.heap[b]? = some (.map es ck) := (h3o b (by omega)).trans p9
    have hS3 : ∀ x, S' x → w3.heap[x]? = w'.heap[x]? := fun x hx => h3o x fun q => p10 (q ▸ hx)
    have hM3 : MRel B w3 S' m' (F ks).m := p4.rel.aside rfl hS3 (fun i l hi => ⟨h3o _ fun q => (p4.rel.lt i l hi).1 (.inr (.inl q)), (p4.rel.lt i l hi).1⟩) (fun i l hi b' hb' => ⟨h3o _ fun q => ((p4.rel.ext i l hi).out b' hb').1 (.inr (.inl q)), ((p4.rel.ext i l hi).out b' hb').1⟩) (Nat.le_of_eq h3s.symm) (fun x hx => by rw [h3s]; exact p4.rel.base_le x hx)
      (p4.rel.gok.mono fun g hg => h3p.block g (base.gz g hg))
    have hA3 := harel p5 hS3
    have e1 : (a'.put (some nx) (.tuple #[.bool true, e.key, e.val])).eval (.tmp nx) = .tuple #[.bool true, e.key, e.val] := put_self (by rw [hsz]; exact z2)
    refine wpl_op (x := Instr.extract ((a'.put (some nx) (.tuple #[.bool true, e.key, e.val])).eval (.tmp nx)) 0) rfl rfl (by rw [e1]; exact run_extract #[.bool true, e.key, e.val] 0 (Nat.succ_pos _)) ?_
    generalize ha2 : (a'.put (some nx) (.tuple #[.bool true, e.key, e.val])).put (some ok) (.bool true) = a2
    have hA4 : ARel base.old w3 S' m' a2 (F ks).ts := by rw [← ha2]; exact rel_put (rel_put hA3 f2) f3
    have hs2 : a2.tmps.size = n0 := hA4.1.trans f0
    have hi2 : a2.tmps.getD it Go.undef = .pointer (some ⟨r, 0, none⟩) := by
      rw [← ha2, put_other (fun q => g2 (Option.some.inj q).symm), put_other (fun q => g1 (Option.some.inj q).symm)]; exact p6
    have e2 : a2.eval (.tmp ok) = .bool true := by rw [← ha2]; exact put_self (by rw [put_size, hsz]; exact z3)
    show wpList P _ _ [] ((a'.put (some nx) (.tuple #[.bool true, e.key, e.val])).put (some ok) (.bool true)) w3
    rw [ha2]
    refine wpList_nil ?_
    show Code.wp P _ _ _ _
    refine wp_seq (wp_cond_split e2 (fun _ => wp_skip ?_) fun h => by cases h)
    show Code.wp P _ _ _ _
    refine wp_block (wp_seq (wp_region_list ?_))
    have hem : e ∈ es.toList := (mem_left he).1
    have hrunE := run_entry_at (P := P) w3 r b ck seen es ck e h3r h3b hem hok.once
    refine wpl_op (x := Instr.entry (a2.eval (.tmp it))) rfl rfl (by rw [show a2.eval (.tmp it) = .pointer (some ⟨r, 0, none⟩) from hi2]; exact hrunE) ?_
    have e3 : (a2.put (some kx) (.tuple #[e.key, e.val])).eval (.tmp kx) = .tuple #[e.key, e.val] := put_self (by rw [hs2]; exact z4)
    refine wpl_op (x := Instr.extract ((a2.put (some kx) (.tuple #[e.key, e.val])).eval (.tmp kx)) 1) rfl rfl (by rw [e3]; exact run_extract #[e.key, e.val] 1 (Nat.le_refl 2)) ?_
    generalize ha3 : (a2.put (some kx) (.tuple #[e.key, e.val])).put (some ke) e.val = a3
    have hA5 : ARel base.old w3 S' m' a3 (F ks).ts := by rw [← ha3]; exact rel_put (rel_put hA4 f4) f5
    have hi3 : a3.tmps.getD it Go.undef = .pointer (some ⟨r, 0, none⟩) := by
      rw [← ha3, put_other (fun q => g4 (Option.some.inj q).symm), put_other (fun q => g3 (Option.some.inj q).symm)]; exact hi2
    have e4 : a3.eval (.tmp ke) = e.val := by rw [← ha3]; exact put_self (by rw [put_size, hs2]; exact z5)
    show wpList P _ _ _ ((a2.put (some kx) (.tuple #[e.key, e.val])).put (some ke) e.val) w3
    rw [ha3]
    refine wpl_op (x := pure (a3.eval (.tmp ke))) rfl rfl (by rw [e4]; rfl) ?_
    refine wpList_nil ?_
    show Code.wp P _ _ (a3.put (some lane) e.val) w3
    -- the key
    obtain ⟨j, hj, hje⟩ := List.getElem_of_mem hem
    have hj' : j < l.length := by omega
    have hkr : Rel w3 S' m' e.val (nth (cellsT u l[j].2) 0) := by rw [← hje]; exact key_any hu (k3 j hj hj').2
    have hku : unK u e.val = l[j].2 := by rw [← hje, hval j hj hj', unK_key hu]
    obtain ⟨s', q1, q2, q3⟩ := hr ks l[j].2 (by
      have h1 := p11.length_eq
      rw [List.length_append, List.length_map, List.length_map] at h1
      have := List.length_pos_of_mem he
      omega)
    subst q1
    have hA6 : ARel B.old w3 S' m' (a3.put (some lane) e.val) (put (F ks).ts lane (nth (cellsT u l[j].2) 0)) := rel_put' hA5 hkr
    have er7 : List.range ops7.size = List.range' 0 ops7.toList.length := by rw [List.range_eq_range']; simp
    refine Code.wp_mono ?_ (wp_region (Q := fun ex a6 w6 => (ex = .normal ∧ ∃ S6 m6, Prot B.Z w3 w6 ∧ (∀ x, S' x → S6 x) ∧ (∀ x, S6 x → S' x ∨ ¬ B.Z x) ∧ MA B w6 S6 m6 (F (ks ++ [l[j].2])) ∧ ARel base.old w6 S6 m6 a6 (F (ks ++ [l[j].2])).ts) ∧ (ex = .normal → a6.tmps.getD it Go.undef = .pointer (some ⟨r, 0, none⟩))) (by
      rw [er7]
      refine wpOps_slot _ _ _ (fun i _ o ho => h7 i o ho) (by rw [put_other (fun q => g5 (Option.some.inj q).symm)]; exact hi3) ?_
      refine aOps_wp hT ho.old ops7.toList 0 (fun k => by simp) hM3 (hA6.start (F ks).m) q2 ?_
      intro a6 w6 S6 m6 hb6 hS6 hU6 hM6 hF6
      obtain ⟨S7, m7, hS7, hU7, hM7, hA7⟩ := q3 B w6 S6 m6 a6 ⟨hM6, p4.pins⟩ hF6.wipe
      exact ⟨rfl, S7, m7, hb6, fun x h => hS7 x (hS6 x h), fun x h => (hU7 x h).elim (hU6 x) .inr, hM7, hA7⟩))
    rintro ex a6 w6 ⟨⟨rfl, S6, m6, q1, q2, q3, q4, q5⟩, q6⟩
    refine ⟨_, left_shrinks es seen e he, ks ++ [l[j].2], S6, m6, seen.push e.born, ck, (p1.trans h3p).trans (q1.mono fun x hx => .inl hx), fun x h => q2 x (p2 x h), fun x h => (q3 x h).elim (p3 x) (fun h => .inr fun hz => h (.inl hz)), q4, q5, q6 rfl, (q1.block r (.inr (.inl rfl))).trans h3r, Nat.le_refl _,
      (q1.block b (.inr (.inr rfl))).trans h3b, fun h => (q3 r h).elim p10 fun h => h (.inr (.inl rfl)), ?_, rfl⟩
    have hp := (left_perm hok.once he).map (fun e => unK u e.val)
    rw [List.map_cons, hku] at hp
    rw [List.append_assoc]
    exact (hp.symm.append_left ks).trans p11
/-- The end of a function, by its tree. -/
theorem evT_fin (hm : P.follows .mixedOrders = true) (hT : TabOk P T) {o : OrT} (ho : SoundT P o) {c : Code} (hl : AllLp P o (loopsOf c)) {A : AS} {vars : List ResultVar} {rs : RS} {y : ElR rs} (h : ((evT std T o c A).bind (finT T vars rs)).run = some y) : AWp P c (PostOf T vars (crR rs y)) A := by
  have hy := Tree.wp_bind.1 (Tree.run_wp h)
  refine evT_sound hm hT ho c hl _ _ (Tree.wp_mono hy ?_)
  rintro ⟨e, A⟩ h
  obtain ⟨y', h1, rfl⟩ := Tree.wp_run (finT_pl _ _ _) h
  exact finT_ok h1
/-- The parts of a piece of code. -/
def seqL : Code → Code | .seq a _ => a | c => c
def seqR : Code → Code | .seq _ b => b | c => c
def opsOf : Code → Array Oper | .region _ o _ => o | _ => #[]
theorem noCalls {P : Program} : Sound P (tblO noPu) := .tbl fun _ _ _ _ h => by cases h
end Go.Eng
