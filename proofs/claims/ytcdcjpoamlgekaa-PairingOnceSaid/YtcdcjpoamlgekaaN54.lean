/- The rounds: how the function that is ranged over is made; the loop over it; all rounds. -/
import Derived.Test.YtcdcjpoamlgekaaJ54
namespace Go.Eng
open Go Go.Proofs
set_option maxRecDepth 100000

abbrev P2 : Ty := .pair (.int .i64) (.int .i64)
abbrev tI : PS := .val false (.int .i64)
abbrev fn54 : PS := .fn 16 .nil (.cons (.ptr (.int .i64)) (.cons (.ptr (.int .i64)) .nil))

def pairs54_g : Sig := ⟨15, .cons tI (.cons tI .nil), .one fn54, fun z => .ret ((), (z.1, (z.2.1, ()))), ((), ((0 : Int), ((0 : Int), ())))⟩
theorem pairs54_ok : pairs54_g.ok Try.prog := by
  refine Sig.lift mix tabOk nms _ Try.func15 (c := (bodyOf Try.f15)) (by kernel_rfl) (o := orT [] [] noFz) (orT_sound trivial) (allLp_of [] (by kernel_rfl) trivial rfl) ?_
  intro z; kernel_rfl

abbrev pR : PS := .cons tI (ca2 (.cons (.own 0) (ca (.cons (.ref 1 0) (ca (ca2 (.cons tI (.cons tI (ca4 (.cons fn54 (ca2 (ca4 (ca8 .nil)))))))))))))
abbrev qR : PM := .rows 33 (.list P2) (.cells 33 (.own 2) (.rows 34 P2 .nil))
noncomputable def codeR : Code := nthC (loopsOf (nthC (loopsOf (bodyOf Try.f12)) 0)) 0
noncomputable def asgR : Code := match codeR with | .rangeFunc _ _ a _ => a | _ => .skip
noncomputable def bodyR : Code := match codeR with | .rangeFunc _ _ _ b => b | _ => .skip
theorem codeR_eq : nodeL codeR = .rangeFunc (.tmp 15) #[16, 17] asgR bodyR := by kernel_rfl


theorem wp_ask {α : Type} {c : Prop} [Decidable c] (h : c) {t : Tree α} {Q : α → Prop} (ht : t.wp Q) : (ask (decide c) t).wp Q := by
  show bif decide c then t.wp Q else _
  rw [decide_eq_true h]; exact ht

abbrev pB : PS := ca2 (ca4 (ca8 (ca16 .nil)))
abbrev qB : PM := .dead (.cells 33 (.own 2) (.rows 34 P2 .nil))
def tsR (z : ElP pR) (x : PairV) : List AV := put (put (put (put (hideL 1 (encP pR z)) 16 (.int .i64 x.1.1)) 17 (.int .i64 x.1.2)) 6 (.int .i64 x.1.1)) 7 (.int .i64 x.1.2)
abbrev bxM (l : List (Int × Int)) : Mem := deads 1 ++ boxM 33 1 34 P2 l
theorem round_ev (z : ElP pR) (x : PairV) (l : List (Int × Int)) : (evT std typs (orT [] [] noFz) bodyR ⟨tsR z x, bxM l, 2⟩).bind (endRound [] pB qB 2 (.norm .nil .nil))
    = ask (decide ((l ++ [x.1]).length * 16 ≤ roomNat)) (.ret (.inl ((cu2 (cu4 (cu8 (cu16 ())))), ((), (l ++ [x.1], ()))))) := by kernel_rfl

theorem round_gen {P : Program} {T : Tab} (hT : TabOk P T) {o : OrT} (ho : SoundT P o) {c : Code} (hok : okR o c = true) {A : AS} {p : PS} {q : PM} {np : Nat} (z : ElA p q) (M : Mem) (hM : encM q z.2 = M) {k : Prop} [Decidable k] (hk : k)
    (h : (evT std T o c A).bind (endRound [] p q np (.norm .nil .nil)) = ask (decide k) (.ret (.inl z))) : AWpR P c (fun ex A' => ex = .normal ∧ ∃ ts', ALe A' ⟨ts', M, np⟩) A := by
  subst hM
  refine evT_round hT ho c hok _ _ (fun A h => by cases h.1) ?_
  have hround : ((evT std T o c A).bind (endRound [] p q np (.norm .nil .nil))).wp (fun y => y = .inl z) := by
    rw [h]
    exact wp_ask hk rfl
  refine Tree.wp_mono (Tree.wp_bind.1 hround) ?_
  rintro ⟨e, A'⟩ hr
  cases e with
  | normal =>
    simp only [endRound] at hr
    split at hr
    · rename_i z' hz'
      injection hr with hr
      subst hr
      exact ⟨rfl, _, rdA_le hz'⟩
    · exact hr.elim
  | _ => exact absurd hr (by simp [endRound, rdX, Tree.wp])

theorem round_AWpR (z : ElP pR) (x : PairV) (l : List (Int × Int)) (h : (l.length + 1) * 16 ≤ roomNat) : AWpR Try.prog bodyR (fun ex A' => ex = .normal ∧ ∃ ts', ALe A' ⟨ts', bxM (l ++ [x.1]), 2⟩) ⟨tsR z x, bxM l, 2⟩ :=
  round_gen tabOk (o := orT [] [] noFz) (orT_sound trivial) (by kernel_rfl) _ _ rfl (by rw [List.length_append]; exact h) (round_ev z x l)


theorem arel_set {old : Nat → Prop} {w : World} {S : Nat → Prop} {m : Locs} {ts : Array Value} {l : List AV} (i : Nat) {v : Value} {a : AV} (h : ARel old w S m ⟨ts, []⟩ l) (hv : Rel w S m v a) : ARel old w S m ⟨ts.setIfInBounds i v, []⟩ (put l i a) := by
  refine ⟨by rw [lenA_put]; simpa using h.1, h.2.1, fun t => ?_⟩
  show Rel w S m ((ts.setIfInBounds i v).getD t Go.undef) (nth (put l i a) t)
  have h1 : ts.size = lenA l := h.1
  have h2 : Rel w S m (ts.getD t Go.undef) (nth l t) := h.2.2 t
  rw [nth_put]
  simp only [Array.getD_eq_getD_getElem?, Array.getElem?_setIfInBounds] at h2 ⊢
  by_cases e : i = t
  · subst e
    by_cases hi : i < ts.size
    · have hi' : i < lenA l := by omega
      simpa [hi, hi'] using hv
    · have hi' : ¬ i < lenA l := by omega
      simpa [hi, hi'] using h2
  · simpa [e] using h2
def actR (ts : Array Value) (x : PairV) : Act := ⟨(((ts.setIfInBounds 16 (.int .i64 x.1.1)).setIfInBounds 17 (.int .i64 x.1.2)).setIfInBounds 6 (.int .i64 x.1.1)).setIfInBounds 7 (.int .i64 x.1.2), []⟩
theorem asg_code : asgR = .seq (.region 7 #[{ dst := some 6, op := Op.assign (Operand.tmp 16), type := 3, pos := "pairing.go:54", after := #[], guard := none }] false) (.region 8 #[{ dst := some 7, op := Op.assign (Operand.tmp 17), type := 3, pos := "pairing.go:54", after := #[], guard := none }] false) := by kernel_rfl
end Go.Eng
namespace Go.Proofs
open Go Go.RowKit Go.Shelf Go.Eng
attribute [local go_sem] Oper.semAt_some
set_option maxRecDepth 100000 in
theorem asg_ok (r : Nat) (ts : Array Value) (x : PairV) (W : World) (K : Act → World → Prop) (hts : ts.size = 30) (hK : K (actR ts x) W) :
    asgR.wpIn (Fence.wide.inRound r) 0 Try.prog (Exit.then K (fun _ _ _ => False)) { tmps := ((#[16, 17] : Array Tmp).zip (encsP x)).foldl (fun t (p, v) => t.setIfInBounds p v) ts, defers := [] } W := by
  rw [asg_code]
  obtain ⟨⟨a, b⟩, hab⟩ := x
  obtain ⟨l⟩ := ts
  match l, hts with
  | [t0, t1, t2, t3, t4, t5, t6, t7, t8, t9, t10, t11, t12, t13, t14, t15, t16, t17, t18, t19, t20, t21, t22, t23, t24, t25, t26, t27, t28, t29], _ =>
    have e : (#[16, 17] : Array Tmp).zip (encsP ⟨(a, b), hab⟩) = #[(16, .int .i64 a), (17, .int .i64 b)] := by simp [encsP]
    rw [e]
    show Code.wpIn _ _ _ _ _ { tmps := #[t0, t1, t2, t3, t4, t5, t6, t7, t8, t9, t10, t11, t12, t13, t14, t15, (.int .i64 a), (.int .i64 b), t18, t19, t20, t21, t22, t23, t24, t25, t26, t27, t28, t29], defers := [] } W
    have hK : K { tmps := #[t0, t1, t2, t3, t4, t5, (.int .i64 a), (.int .i64 b), t8, t9, t10, t11, t12, t13, t14, t15, (.int .i64 a), (.int .i64 b), t18, t19, t20, t21, t22, t23, t24, t25, t26, t27, t28, t29], defers := [] } W := hK
    gi_wp2
    exact hK
end Go.Proofs
namespace Go.Eng
open Go Go.Proofs
set_option maxRecDepth 100000

/-- The two numbers that the iterator has caught. -/
abbrev capR (z : ElP pR) : Int × Int × Unit := z.2.2.2.2.2.2.2.2.2.2.2.2.2.2.2.1.2
theorem assigned {old : Nat → Prop} {w : World} {S : Nat → Prop} {m : Locs} {ts : Array Value} {l : List AV} (x : PairV) (h : ARel old w S m ⟨ts, []⟩ l) : ARel old w S m (actR ts x) (put (put (put (put l 16 (.int .i64 x.1.1)) 17 (.int .i64 x.1.2)) 6 (.int .i64 x.1.1)) 7 (.int .i64 x.1.2)) := by
  obtain ⟨⟨a, b⟩, ha, hb⟩ := x
  exact arel_set 7 (arel_set 6 (arel_set 17 (arel_set 16 h (.int _ _ _ ha)) (.int _ _ _ hb)) (.int _ _ _ ha)) (.int _ _ _ hb)
theorem assignedR {old : Nat → Prop} {w : World} {S : Nat → Prop} {m : Locs} {ts : Array Value} (z : ElP pR) (x : PairV) (h : ARel old w S m ⟨ts, []⟩ (hideL 1 (encP pR z))) : ARel old w S m (actR ts x) (tsR z x) := assigned x h
theorem room65 {a b R : Nat} (h : (a + 65) * 16 ≤ R) (hb : b < 65) : (a + b + 1) * 16 ≤ R := Nat.le_trans (Nat.mul_le_mul_right 16 (Nat.add_le_add_left hb a)) h
def range54 : Lp := ⟨7, [.ownC 1 0 34 P2], [], pR, qR, 0, .norm pR qR, fun z => ask (decide ((z.2.2.2.1.length + 65) * 16 ≤ roomNat)) (.ret (z.1, (z.2.1, ((), (z.2.2.2.1 ++ pairsL (capR z.1).1 (capR z.1).2.1, ())))))⟩

theorem range54_ok : range54.ok Try.prog codeR := by
  intro z Q hw
  have hw : (Tree.ite (decide ((z.2.2.2.1.length + 65) * 16 ≤ roomNat)) (.ret (.normal, encA pR qR 0 (z.1, (z.2.1, ((), (z.2.2.2.1 ++ pairsL (capR z.1).1 (capR z.1).2.1, ())))))) .fail : Tree (Exit × AS)).wp (wpQ Q) := hw
  simp only [Tree.wp] at hw
  have hroom : (z.2.2.2.1.length + 65) * 16 ≤ roomNat := by
    cases hd : decide ((z.2.2.2.1.length + 65) * 16 ≤ roomNat) with
    | true => exact of_decide_eq_true hd
    | false => rw [hd] at hw; exact hw.elim
  rw [decide_eq_true hroom] at hw
  have hw : Q .normal (encA pR qR 0 (z.1, (z.2.1, ((), (z.2.2.2.1 ++ pairsL (capR z.1).1 (capR z.1).2.1, ()))))) := hw
  rw [codeR_eq]
  obtain ⟨zp, out, _, l0, _⟩ := z
  change (l0.length + 65) * 16 ≤ roomNat at hroom
  change Q .normal (encA pR qR 0 (zp, (out, ((), (l0 ++ pairsL (capR zp).1 (capR zp).2.1, ()))))) at hw
  refine AWp.range (α := PairV) 1 (Mo := [.trows 33 (.list P2) out]) (e := 33) (e' := 34) (u := P2) (fun xs => l0 ++ xs.map (·.1)) ?_ rfl rfl (gf := 16) (caps := [.cptr 1 (nth [.int .i64 (capR zp).1]), .cptr 1 (nth [.int .i64 (capR zp).2.1])]) rfl rfl ?_ (encs := encsP) (fun _ => rfl) (N := 65) (Sx := fun xs => xs.map (·.1) = pairsL (capR zp).1 (capR zp).2.1) (fun w S lb _ hsb hr => pairs_stops w S lb _ _ hsb hr) rfl actR (tsR zp) ?_ ?_ ?_ ?_
  · show encM qR (out, ((), (l0, ()))) = [.trows 33 (.list P2) out] ++ boxM 33 1 34 P2 (l0 ++ [])
    rw [List.append_nil]; rfl
  · intro args w; rfl
  · intro w S m ts x h
    exact assignedR zp x h
  · intro r ts x W K hts hK
    exact asg_ok r ts x W K hts hK
  · intro pre x hlt
    have := round_AWpR zp x (l0 ++ pre.map (·.1)) (by rw [List.length_append, List.length_map]; exact room65 hroom hlt)
    rw [List.append_assoc] at this
    rw [List.map_append]
    exact this
  · intro xs hxs
    rw [hxs]
    exact hw

abbrev LP : Type := List (Int × Int)
def pairing_Rounds_fz : Nat → List Pre
  | 10 => [.frz 2]
  | _ => []
def pairing_Rounds_L3_step (many n r : Int) (out : List LP) : Tree ((Int × List LP) ⊕ List LP) :=
  .ite (decide (r < n)) (
    .bnd (.ret ((), (many, (r, ()))) : Tree (Unit × Int × Int × Unit)) fun y1 =>
    ask (decide ((([] : LP).length + 65) * 16 ≤ roomNat)) <|
    ask (decide ((out ++ [[] ++ pairsL y1.2.1 y1.2.2.1]).length * 24 ≤ roomNat)) <|
    .ret (.inl ((w64 (r + 1)), (out ++ [[] ++ pairsL y1.2.1 y1.2.2.1])))) (
    .ret (.inr out))
abbrev pL : PS := .cons tI (ca2 (.cons (.own 0) (ca (ca4 (.cons tI (.cons tI (ca (ca2 (ca16 .nil)))))))))
abbrev qL : PM := .rows 33 (.list P2) .nil
abbrev pX : PS := ca (ca2 (.cons (.own 0) (ca2 (ca8 (ca16 .nil)))))
def pairing_Rounds_L3 : Lp := ⟨3, [.own 3 33 (.list P2)], [], pL, qL, 0, .one 1 [] pX qL, fun z => .bnd (.loop (fun v => pairing_Rounds_L3_step z.1.1 z.1.2.2.2.2.2.2.2.2.2.1 v.1 v.2) (z.1.2.2.2.2.2.2.2.2.2.2.1, z.2.1)) fun r => .ret ((cu (cu2 ((), cu2 (cu8 (cu16 ()))))), (r, ()))⟩
theorem pairing_Rounds_L3_ok : pairing_Rounds_L3.ok Try.prog (nthC (loopsOf (bodyOf Try.f12)) 0) := by
  refine Lp.lift (π := (Int × Int)) (V := (Int × List LP)) (ρ := List LP) mix tabOk pairing_Rounds_L3 (o := orT [pairs54_g] [range54] pairing_Rounds_fz) (orT_sound ⟨pairs54_ok, trivial⟩) (allLp_of [codeR] (by kernel_rfl) ⟨range54_ok, trivial⟩ (by kernel_rfl)) (fun x v => ((x.1, (cu2 ((), (cu (cu4 (x.2, (v.1, (cu (cu2 (cu16 ())))))))))), (v.2, ()))) (fun x r => ((cu (cu2 ((), cu2 (cu8 (cu16 ()))))), (r, ()))) (fun x v => pairing_Rounds_L3_step x.1 x.2 v.1 v.2) (fun x r => .ret ((cu (cu2 ((), cu2 (cu8 (cu16 ()))))), (r, ()))) (fun z => (z.1.1, z.1.2.2.2.2.2.2.2.2.2.1)) (fun z => (z.1.2.2.2.2.2.2.2.2.2.2.1, z.2.1)) (fun _ => rfl) (fun _ => rfl) (fun _ _ _ h => h) ?_
  intro x v; kernel_rfl

def pairing_Rounds_T (x0 : Int) : Tree (List LP) :=
  .bnd (pairing_Count_T x0) fun y1 =>
  .bnd (.loop (fun v => pairing_Rounds_L3_step x0 y1 v.1 v.2) (0, ([] : List LP))) fun r1 =>
  .ret r1
def pairing_Rounds_g : Sig := ⟨12, (.cons (.val false (.int .i64)) .nil), .fresh 33 (.list (.pair (.int .i64) (.int .i64))), fun z => pairing_Rounds_T z.1, ([] : List (List (Int × Int)))⟩
theorem pairing_Rounds_ok : pairing_Rounds_g.ok Try.prog := by
  refine Sig.lift mix tabOk nms _ Try.func12 (c := (bodyOf Try.f12)) (by kernel_rfl) (o := orT [pairing_Count_g] [pairing_Rounds_L3] pairing_Rounds_fz) (orT_sound ⟨pairing_Count_ok, trivial⟩) (allLp_of [nthC (loopsOf (bodyOf Try.f12)) 0] (by kernel_rfl) ⟨pairing_Rounds_L3_ok, trivial⟩ (by kernel_rfl)) ?_
  intro z; kernel_rfl
def pairing_Rounds_gv : Sig := ⟨12, (.cons (.val false (.int .i64)) .nil), .vals (.val false (.list (.list (.pair (.int .i64) (.int .i64))))), fun z => pairing_Rounds_T z.1, ([] : List (List (Int × Int)))⟩
theorem pairing_Rounds_okv : pairing_Rounds_gv.ok Try.prog := fun x y h => acalls_val (pairing_Rounds_ok x y h)
end Go.Eng

