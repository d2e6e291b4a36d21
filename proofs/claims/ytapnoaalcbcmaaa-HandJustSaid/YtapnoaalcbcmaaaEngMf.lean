/- Maps in map values: the operations. -/
import Derived.Test.YtapnoaalcbcmaaaEngMp
namespace Go.Eng
open Go Go.RowKit

variable {P : Program} {T : Tab} {base : Env} {w : World} {S : Nat → Prop} {m : Locs} {M : Mem}

/-! What is flat stands anywhere. -/
theorem Rel.flat {v : Value} {a : AV} (h : Rel w S m v a) (hf : flat a = true) (S' : Nat → Prop) (m' : Locs) : Rel w S' m' v a := by
  have sc : ∀ {v : Value} {a : AV}, Rel w S m v a → scalar a = true → Rel w S' m' v a := fun {v a} h hs => by
    cases h with
    | int _ k n h => exact .int _ _ _ h
    | bool => exact .bool _ _
    | str _ s h => exact .str _ _ h
    | undef => exact .undef _ _
    | _ => simp [scalar] at hs
  cases a with
  | agg cs =>
    cases h with
    | agg _ vs _ hl h1 h =>
      refine .agg _ _ _ hl h1 fun i hi => sc (h i hi) ?_
      simp only [Eng.flat] at hf
      clear h h1 hl
      induction cs generalizing i with
      | nil => simp [lenA] at hi
      | cons a l ih =>
        simp only [allScalar] at hf
        split at hf
        · cases i with
          | zero => assumption
          | succ i => exact ih hf i (by simp [lenA] at hi; omega)
        · simp at hf
  | _ => exact sc h (by simpa [Eng.flat] using hf)

/-- An inner map, alone in a memory of its own: all else is protected. -/
theorem MRel.alone (hM : MRel base w S m M) {i : Nat} {l : Loc} (h : m[i]? = some (some l)) {j g : Nat} (hj : l.ext[j]? = some g) {y : List (List UInt8 × Int)} (hy : SubR w S g y) :
    ∃ E : Env, (∀ b, b < w.heap.size → b ≠ g → E.Z b) ∧ MRel E w S [some ⟨g, 0, 0, 0, false, []⟩] [.map .str (.int .i64) y] := by
  have ho := (hM.ext i l h).out g (List.mem_of_getElem? hj)
  refine ⟨⟨fun b => b < w.heap.size ∧ b ≠ g, fun _ => none, fun g' hg' => ⟨hM.base_le g' (base.gz g' hg'), fun e => ho.1 (e ▸ base.gz g' hg')⟩, fun b => b < w.heap.size ∧ b ≠ g, fun _ h => h⟩, fun b h1 h2 => ⟨h1, h2⟩, ?_⟩
  have h0 : ∀ {i : Nat} {l' : Option Loc}, [some (⟨g, 0, 0, 0, false, []⟩ : Loc)][i]? = some l' → i = 0 ∧ l' = some ⟨g, 0, 0, 0, false, []⟩ := fun {i l'} hi => by
    cases i with
    | zero => simp at hi; exact ⟨rfl, hi.symm⟩
    | succ i => simp at hi
  refine ⟨rfl, hM.sb, fun i l' hi => ?_, fun i l' hi => ?_, fun i j l1 l2 hi hj _ => ?_, fun b hb => hb.1, hM.gok, fun i l' hi => (by cases hi), fun i l' hi => ?_⟩
  · obtain ⟨rfl, rfl⟩ := h0 hi
    exact hy
  · obtain ⟨rfl, e⟩ := h0 hi
    injection e with e; subst e
    exact ⟨fun hz => hz.2 rfl, ho.2.1, ho.2.2⟩
  · rw [(h0 hi).1, (h0 hj).1]
  · obtain ⟨rfl, e⟩ := h0 hi
    injection e with e; subst e
    exact .nil rfl
theorem scal_any {t : Ty} (ht : isKey t = true) {w' : World} {S' : Nat → Prop} {m' : Locs} {v : Value} {k : El t} (h : Rel w S m v (nth (cellsT t k) 0)) : Rel w' S' m' v (nth (cellsT t k) 0) := by
  cases t with
  | int q => change Rel w S m v (.int q k) at h; cases h; exact .int _ _ _ (by assumption)
  | bool => change Rel w S m v (.bool k) at h; cases h; exact .bool _ _
  | str => change Rel w S m v (.str k) at h; cases h; exact .str _ _ (by assumption)
  | _ => cases ht
theorem SubR.any {S' : Nat → Prop} {g : Nat} {y : List (List UInt8 × Int)} (h : SubR w S g y) : SubR w S' g y := by
  obtain ⟨es, ck, h1, h2, h3, h4⟩ := h
  exact ⟨es, ck, h1, h2, fun i hi => ⟨scal_any (t := .str) rfl (h3 i hi).1, scal_any (t := .int .i64) rfl (h3 i hi).2⟩, h4⟩
/-- An inner map is set, whatever the operation on it alone comes to. -/
theorem sub_step (hM : MRel base w S m M) {i : Nat} {l : Loc} (h : m[i]? = some (some l)) {X : List (List UInt8 × (Int × (List UInt8 × Int)))} {Y : List (List (List UInt8 × Int))} (hb : blk M i = .fam X Y) {j g : Nat} (hj : l.ext[j]? = some g)
    {w' : World} (hos : w'.os = w.os ∧ w'.tape = w.tape ∧ w'.output = w.output ∧ w.heap.size ≤ w'.heap.size) (hst : ∀ b, b < w.heap.size → b ≠ g → w'.heap[b]? = w.heap[b]?) {S' : Nat → Prop} {y' : List (List UInt8 × Int)} (hy : SubR w' S' g y') :
    Trans base w S m w' S m none ∧ MRel base w' S m (setBlk M i (.fam X (Y.set (j + 1) y'))) := by
  have hF := bk_of hM h
  rw [hb] at hF
  have hx := hM.ext i l h
  have hg := List.mem_of_getElem? hj
  have ho := hx.out g hg
  have hS : ∀ b, S b → w'.heap[b]? = w.heap[b]? := fun b hb => hst b (hM.sb b hb) fun e => ho.2.2 (e ▸ hb)
  refine hM.turnX i l h hg (.fam X (Y.set (j + 1) y')) (fun hc => by rw [hb] at hc; cases hc) ⟨hos.1, hos.2.1, hos.2.2.1, hos.2.2.2, fun k hk => hst k (hM.base_le k hk) fun e => ho.1 (e ▸ hk)⟩ hst ?_
  obtain ⟨f1, f2, ⟨es1, ck1, f3, f4, f5, f6⟩, f7⟩ := hF
  have hjl : j + 1 < Y.length := by rw [← f1]; exact Nat.succ_lt_succ (List.getElem?_eq_some_iff.1 hj).1
  refine ⟨by rw [List.length_set]; exact f1, fun e => f2 (by have := congrArg List.length e; rw [List.length_set] at this; exact List.length_eq_zero_iff.1 this), ⟨es1, ck1, (hst l.g (hM.lt i l h).2.1 (hx.far g hg i l h).1).trans f3, f4, f5, f6⟩, fun j2 g2 hj2 => ?_⟩
  by_cases e : j2 = j
  · subst e
    rw [hj] at hj2; cases hj2
    rw [List.getD_eq_getElem?_getD, List.getElem?_set_self hjl]
    exact hy.any
  · have hne : g2 ≠ g := fun e2 => by
      subst e2
      have h1 := (List.getElem?_eq_some_iff.1 hj2).1
      exact e ((List.getElem?_inj h1 hx.nd).1 (hj2.trans hj.symm))
    rw [List.getD_eq_getElem?_getD, List.getElem?_set_ne (fun q => e (by omega)), ← List.getD_eq_getElem?_getD]
    exact (f7 j2 g2 hj2).keep (fun _ h => h) hS (hst g2 (hx.out g2 (List.mem_of_getElem? hj2)).2.1 hne)
theorem sub_put (hT : TabOk P T) (hM : MRel base w S m M) {i : Nat} {l : Loc} (h : m[i]? = some (some l)) {X : List (List UInt8 × (Int × (List UInt8 × Int)))} {Y : List (List (List UInt8 × Int))} (hb : blk M i = .fam X Y) {j g : Nat} (hj : l.ext[j]? = some g)
    (t : TypeId) {vk vv : Value} {k v : AV} (hkv : Rel w S m vk k) (hvv : Rel w S m vv v) (fk : flat k = true) (fv : flat v = true)
    (hk : AllT (aMapUpdate std T [.map .str (.int .i64) (Y.getD (j + 1) [])] t (.mp 0) k v).ks) {y' : List (List UInt8 × Int)} (hr : (aMapUpdate std T [.map .str (.int .i64) (Y.getD (j + 1) [])] t (.mp 0) k v).m = [.map .str (.int .i64) y']) (hi : (aMapUpdate std T [.map .str (.int .i64) (Y.getD (j + 1) [])] t (.mp 0) k v).inv = none) :
    ∃ w', (Instr.mapUpdate t (.map (some g)) vk vv).run P w = .ok () w' ∧ Trans base w S m w' S m none ∧ MRel base w' S m (setBlk M i (.fam X (Y.set (j + 1) y'))) := by
  have hF := bk_of hM h
  rw [hb] at hF
  obtain ⟨E, hE, hA⟩ := hM.alone h hj (hF.2.2.2 j g hj)
  obtain ⟨w', S', m', hrun, ht, hm, _⟩ := aMapUpdate_ok hT hA t (vx := .map (some g)) (x := .mp 0) (.mp _ 0 ⟨g, 0, 0, 0, false, []⟩ rfl) (hkv.flat fk _ _) (hvv.flat fv _ _) hk
  rw [hr] at hm
  rw [hi] at ht
  obtain ⟨l0, hl0, hle0⟩ := ht.lm 0 _ (by simp) rfl
  obtain ⟨e0, rfl⟩ := hle0.ofSome
  have hB := hm.bk 0 _ hl0
  obtain ⟨a, b⟩ := sub_step hM h hb hj (S' := S') (y' := y') ⟨ht.below.os, ht.below.tape, ht.below.output, ht.below.size⟩ (fun b h1 h2 => ht.below.block b (hE b h1 h2)) hB
  exact ⟨w', hrun, a, b⟩

/-! A map whose values hold maps: its entries. -/
theorem famTy_some {T : Tab} {t : Nat} (h : famTy T t = true) : ∃ k e fs, (tyi T t).d = .map k e ∧ (tyi T k).d = .str ∧ (tyi T e).d = .struct fs ∧ (tyi T e).sz = 3 ∧ (tyi T e).z = [.int .i64 0, .str [], .nilmap] := by
  unfold famTy at h
  split at h
  · rename_i k e hd
    split at h
    · rename_i fs h1 h2 h3 h4; exact ⟨k, e, _, hd, h1, h2, h3, h4⟩
    · cases h
  · cases h
theorem fam_zero (hT : TabOk P T) {e : Nat} {fs : List (Nat × Nat)} (hd : (tyi T e).d = .struct fs) (h3 : (tyi T e).sz = 3) (hz : (tyi T e).z = [.int .i64 0, .str [], .nilmap]) (w : World) (S : Nat → Prop) (m : Locs) : ∃ v, (zeroValue e).run P w = .ok v w ∧ Rel w S m v famN := by
  obtain ⟨d, i, v, f⟩ := hT.of_d hd (by simp)
  refine ⟨v, by simp [zeroValue, typeInfo, f.info, f.zero], ?_⟩
  obtain ⟨q1, q2, q3⟩ := zero_cells (w := w) (S := S) (m := m) f (by rw [hz]; rfl)
  rw [hz] at q1 q2 q3
  have q1 : v.cells.size = 3 := q1
  cases v with
  | agg vs => exact .agg _ _ _ q1 q2 q3
  | _ => simp [Value.cells] at q1
theorem fam_ents {l : Loc} {X : List (El .str × El famU)} {Y : List (List (List UInt8 × Int))} (h : FamR w S l X Y) : ∃ (es : Array MapEntry) (ck : Nat), w.heap[l.g]? = some (.map es ck) ∧ es.toList.length = X.length ∧
    (∀ j (h : j < es.toList.length) (h' : j < X.length), es.toList[j].key = keyV .str X[j].1) ∧
    (∀ j (h : j < es.toList.length) (h' : j < X.length), X[j].1.length ≤ maxLen ∧ ∃ q g : Nat, X[j].2.2.2 = (q : Int) ∧ l.ext[q]? = some g ∧ es.toList[j].val = .agg #[.int .i64 X[j].2.1, .string (bytes X[j].2.2.1), .map (some g)] ∧ (Lit.int .i64 X[j].2.1).wf = true ∧ X[j].2.2.1.length ≤ maxLen) ∧ FamOk es ck X := by
  obtain ⟨_, _, ⟨es, ck, f3, f4, f5, f6⟩, _⟩ := h
  have key : ∀ j (h : j < es.toList.length) (h' : j < X.length), es.toList[j].key = .string (bytes X[j].1) ∧ X[j].1.length ≤ maxLen ∧ ∃ q g : Nat, X[j].2.2.2 = (q : Int) ∧ l.ext[q]? = some g ∧ es.toList[j].val = .agg #[.int .i64 X[j].2.1, .string (bytes X[j].2.2.1), .map (some g)] ∧ (Lit.int .i64 X[j].2.1).wf = true ∧ X[j].2.2.1.length ≤ maxLen := fun j hj hj' => by
    have := f5 j _ (List.getElem?_eq_getElem hj')
    have e0 : es[j]? = some es.toList[j] := by rw [← Array.getElem?_toList, List.getElem?_eq_getElem hj]
    unfold meK meV at this
    rw [e0] at this
    exact this
  exact ⟨es, ck, f3, by simpa using f4, fun j hj hj' => (key j hj hj').1, fun j hj hj' => (key j hj hj').2, f6⟩
theorem famR_of {l : Loc} {X : List (El .str × El famU)} {Y : List (List (List UInt8 × Int))} {es : Array MapEntry} {ck : Nat} (h1 : l.ext.length + 1 = Y.length) (h2 : w.heap[l.g]? = some (.map es ck)) (h3 : es.toList.length = X.length)
    (h4 : ∀ j (h : j < es.toList.length) (h' : j < X.length), es.toList[j].key = keyV .str X[j].1)
    (h5 : ∀ j (h : j < es.toList.length) (h' : j < X.length), X[j].1.length ≤ maxLen ∧ ∃ q g : Nat, X[j].2.2.2 = (q : Int) ∧ l.ext[q]? = some g ∧ es.toList[j].val = .agg #[.int .i64 X[j].2.1, .string (bytes X[j].2.2.1), .map (some g)] ∧ (Lit.int .i64 X[j].2.1).wf = true ∧ X[j].2.2.1.length ≤ maxLen)
    (h6 : FamOk es ck X) (h7 : ∀ (j g : Nat), l.ext[j]? = some g → SubR w S g (Y.getD (j + 1) [])) : FamR w S l X Y := by
  refine ⟨h1, fun e => (by rw [e] at h1; cases h1), ⟨es, ck, h2, by simpa using h3, fun i p hp => ?_, h6⟩, h7⟩
  obtain ⟨hi, hp⟩ := List.getElem?_eq_some_iff.1 hp
  have hi' : i < es.toList.length := by omega
  have e0 : es[i]? = some es.toList[i] := by rw [← Array.getElem?_toList, List.getElem?_eq_getElem hi']
  have a := h4 i hi' hi
  have b := h5 i hi' hi
  rw [hp] at a b
  unfold meK meV
  rw [e0]
  exact ⟨a, b⟩

theorem aMakeMp_ok (hT : TabOk P T) (hM : MRel base w S m M) (t : TypeId) (hk : AllT (aMakeMp T M t).ks) : Res base w S m P (aMakeMp T M t) (Instr.makeMap t none) := by
  unfold aMakeMp at hk ⊢
  split at hk
  · split at hk
    case h_2 => exact (not_bad hk).elim
    let l : Loc := ⟨w.heap.size, 0, 0, 0, false, []⟩
    obtain ⟨ht, hm⟩ := hM.alloc (.map #[] 0) l (.fam [] [[]]) rfl ⟨rfl, by simp, ⟨#[], 0, Go.heap_alloc_new w _, rfl, fun i p h => by simp at h, ⟨fun e h => absurd h List.not_mem_nil, List.nodup_nil, .nil, Nat.zero_le _⟩⟩, fun j g h => by simp [l] at h⟩
    exact ⟨_, _, _, _, by simp [Instr.makeMap]; rfl, ht, hm, .mp _ _ l (by rw [← hM.len]; simp)⟩
  · exact aMakeMap_ok hT hM t hk

theorem famV_rel {l : Loc} {i q g : Nat} {n : Int} {d : List UInt8} {p : Int} (hm : m[i]? = some (some l)) (hp : p = (q : Int)) (hq : l.ext[q]? = some g) (hn : (Lit.int .i64 n).wf = true) (hd : d.length ≤ maxLen) :
    Rel w S m (.agg #[.int .i64 n, .string (bytes d), .map (some g)]) (famV i (n, d, p)) := by
  subst hp
  refine .agg _ _ _ rfl (fun j hj => ?_) (fun j hj => ?_)
  all_goals
    have hj : j < 3 := hj
    match j, hj with
    | 0, _ => first | rfl | exact .int _ _ _ hn
    | 1, _ => first | rfl | exact .str _ _ hd
    | 2, _ => first | rfl | exact .sub _ _ _ _ _ hm hq

/-- What is known of the entries of a map that is seen with its inner maps. -/
theorem view_ents {x : List (El .str × El viewT)} {es : Array MapEntry} (h2 : es.size = x.length) (h3 : ∀ i, i < x.length → Rel w S [] (meK es i) (mkAV .str viewT x i) ∧ Rel w S [] (meV es i) (mvAV .str viewT x i)) : es.toList.length = x.length ∧
    (∀ j (h : j < es.toList.length) (h' : j < x.length), es.toList[j].key = keyV .str x[j].1) ∧ (∀ j (h : j < es.toList.length) (h' : j < x.length), Rel w S [] es.toList[j].val (famW x[j].2)) := by
  have key : ∀ j (h : j < es.toList.length) (h' : j < x.length), Rel w S [] es.toList[j].key (nth (cellsT .str x[j].1) 0) ∧ Rel w S [] es.toList[j].val (famW x[j].2) := fun j hj hj' => by
    have := h3 j hj'
    have e0 : es[j]? = some es.toList[j] := by
      rw [← Array.getElem?_toList, List.getElem?_eq_getElem hj]
    have e1 : x.getD j (dfl .str, dfl viewT) = x[j] := by simp [List.getD, hj']
    unfold meK meV mkAV mvAV at this
    rw [e0, e1] at this
    exact this
  exact ⟨by simpa using h2, fun j hj hj' => rel_key (t := .str) rfl (key j hj hj').1, fun j hj hj' => (key j hj hj').2⟩
theorem aFamLook_ok (hT : TabOk P T) (hM : MRel base w S m M) {t : TypeId} (hf : famTy T t = true) (ok : Bool) {vx vk : Value} {x k : AV} (hx : Rel w S m vx x) (hkv : Rel w S m vk k) (hk : AllT (aFamLook M x k ok).ks) :
    Res base w S m P (aFamLook M x k ok) (Instr.lookup t vx vk ok) := by
  obtain ⟨kt, e, fs, h1, h2, h3, h4, h5⟩ := famTy_some hf
  have hu := map_und hT h1
  have hku : P.underlying kt = some (keyD .str) := key_und hT (by rw [h2]; rfl)
  obtain ⟨zv, hz, hzr⟩ := fam_zero hT h3 h4 h5 w S m
  have fin : ∀ kk : List UInt8, ∀ {v : Value} {a : AV} {b : Bool}, Rel w S m v a → (Instr.lookup t vx (keyV .str kk) ok).run P w = .ok (if ok then .tuple #[v, .bool b] else v) w → Res base w S m P (val M (okV ok b a)) (Instr.lookup t vx (keyV .str kk) ok) := by
    intro kk v a b hr hrun
    unfold okV
    cases ok with
    | true => exact .val hM hrun (.tup _ _ _ rfl fun i hi => by
        have hi : i < 2 := hi
        match i, hi with
        | 0, _ => exact hr
        | 1, _ => exact .bool _ _)
    | false => exact .val hM hrun hr
  have hnil : ∀ kk : List UInt8, (Instr.findKey kt (keyV .str kk) []).run P w = .ok none w := fun kk => by
    simp only [Instr.findKey, Sem.run_bind, run_underlying hku, Result.andThen_ok]; rfl
  unfold aFamLook at hk ⊢
  split at hk
  case h_3 => exact (not_bad hk).elim
  · rename_i a' u' l' kk
    split at hk
    case h_2 => exact (not_bad hk).elim
    rename_i l'' hc
    have hvk := rel_key (t := .str) rfl hkv
    subst hvk
    obtain ⟨_, _, hcast⟩ := castM_some hc
    have hx := hcast (fun a b x => Rel w S m vx (.mv a b x)) hx
    cases hx with
    | mv0 =>
      refine fin kk (b := false) hzr ?_
      unfold Instr.lookup
      simp only [Sem.run_bind, run_underlying hu, Result.andThen_ok, Sem.run_pure, check_key (t := .str) rfl hku]
      rw [hnil]
      cases ok <;> simp [hz]
    | mv _ g es ck _ _ _ hs hg hl hh1 hh2 hok =>
      obtain ⟨q2, q3, q4⟩ := view_ents hl (fun i hi => ⟨hh1 i hi, hh2 i hi⟩)
      have hrun := look_run (u := viewT) (a := .str) hu rfl hku ok kk hz (l := ⟨g, 0, 0, 0, false, []⟩) hg q2 q3
      cases hq : idxM .str viewT l'' kk with
      | none =>
        rw [hq] at hrun
        rw [(idxM_none hq).1]
        refine fin kk (b := false) hzr ?_
        rw [hrun]; rfl
      | some j =>
        obtain ⟨hj, _, hg⟩ := idxM_lt hq
        have hj' : j < es.toList.length := by omega
        rw [hq] at hrun
        rw [hg]
        refine fin kk (b := true) (v := es.toList[j].val) (q4 j hj' hj).weak ?_
        rw [hrun]
        simp only [Option.bind_some, List.getElem?_eq_getElem hj']
  rename_i i kk
  split at hk
  case h_2 => exact (not_bad hk).elim
  rename_i X Y hb
  have hvk := rel_key (t := .str) rfl hkv
  subst hvk
  cases hx with
  | mp0 _ _ h =>
    have hB := hM.bk _ _ h
    rw [hb] at hB
    obtain ⟨rfl, _⟩ := hB
    refine fin kk (b := false) hzr ?_
    unfold Instr.lookup
    simp only [Sem.run_bind, run_underlying hu, Result.andThen_ok, Sem.run_pure, check_key (t := .str) rfl hku]
    rw [hnil]
    cases ok <;> simp [hz]
  | mp _ _ l h =>
    have hB := bk_of hM h
    rw [hb] at hB
    obtain ⟨es, ck, q1, q2, q3, q4, q5⟩ := fam_ents hB
    have hrun := look_run (u := famU) (a := .str) hu rfl hku ok kk hz q1 q2 q3
    cases hq : idxM .str famU X kk with
    | none =>
      rw [hq] at hrun
      rw [(idxM_none hq).1]
      refine fin kk (b := false) hzr ?_
      rw [hrun]; rfl
    | some j =>
      obtain ⟨hj, _, hg⟩ := idxM_lt hq
      have hj' : j < es.toList.length := by omega
      obtain ⟨_, q, g, r1, r2, r3, r4, r5⟩ := q4 j hj' hj
      rw [hq] at hrun
      rw [hg]
      refine fin kk (b := true) (v := es.toList[j].val) ?_ ?_
      · rw [r3]; exact famV_rel h r1 r2 r4 r5
      · rw [hrun]
        simp only [Option.bind_some, List.getElem?_eq_getElem hj']
theorem aLook_ok (hT : TabOk P T) (hM : MRel base w S m M) (t : TypeId) (ok : Bool) {vx vk : Value} {x k : AV} (hx : Rel w S m vx x) (hkv : Rel w S m vk k) (hk : AllT (aLook T M t x k ok).ks) :
    Res base w S m P (aLook T M t x k ok) (Instr.lookup t vx vk ok) := by
  unfold aLook at hk ⊢
  split at hk
  · rename_i hf; exact aFamLook_ok hT hM hf ok hx hkv hk
  · exact aLookup_ok hT hM t ok hx hkv hk


theorem aFamDel_ok (hT : TabOk P T) (hM : MRel base w S m M) {t : TypeId} (kt0 ty : TypeId) (hf : famTy T t = true) {vx vk : Value} {x k : AV} (hx : Rel w S m vx x) (hkv : Rel w S m vk k) (hk : AllT (aFamDel M x k).ks) :
    Res base w S m P (aFamDel M x k) (Builtin.delete_ #[t, kt0] ty #[vx, vk]) := by
  obtain ⟨kt, e, fs, h1, h2, h3, h4, h5⟩ := famTy_some hf
  have hu := map_und hT h1
  have hku : P.underlying kt = some (keyD .str) := key_und hT (by rw [h2]; rfl)
  unfold aFamDel at hk ⊢
  split at hk
  case h_2 => exact (not_bad hk).elim
  rename_i i kk
  split at hk
  case h_2 => exact (not_bad hk).elim
  rename_i X Y hb
  have hvk := rel_key (t := .str) rfl hkv
  subst hvk
  have htup : ∀ {w' : World}, Rel w' S m (.tuple #[]) (.tup []) := .tup _ _ _ rfl fun i hi => absurd hi (Nat.not_lt_zero i)
  have hck := fun b => check_key (t := .str) rfl hku b kk w
  cases hx with
  | mp0 _ _ h =>
    have hB := hM.bk _ _ h
    rw [hb] at hB
    obtain ⟨rfl, rfl⟩ := hB
    refine ⟨.tuple #[], w, S, m, ?_, Trans.refl _ _ _ _, ?_, htup⟩
    · unfold Builtin.delete_
      simp [run_underlying hu, hck]
    · show MRel base w S m (setBlk M i (.fam [] []))
      rw [← hb, setBlk_self]; exact hM
  | mp _ _ l h =>
    have hB := bk_of hM h
    rw [hb] at hB
    have hB0 := hB
    obtain ⟨es, ck, q1, q2, q3, q4, q5⟩ := fam_ents hB
    have hx := hM.ext i l h
    have hg : (getObj l.g).run P w = .ok (.map es ck) w := by simp [getObj, Sem.run, q1]
    have hfk := find_key (u := famU) (a := .str) hku rfl kk q2 q3 w
    have turn : ∀ {X' : List (El .str × El famU)} {es' : Array MapEntry}, es'.toList.length = X'.length → (∀ j (h : j < es'.toList.length) (h' : j < X'.length), ∃ (j2 : Nat) (g : j2 < es.toList.length) (g' : j2 < X.length), es'.toList[j] = es.toList[j2] ∧ X'[j] = X[j2]) → FamOk es' ck X' →
        Trans base w S m (setMap w l.g es' ck) S m none ∧ MRel base (setMap w l.g es' ck) S m (setBlk M i (.fam X' Y)) := fun {X' es'} hl he hok => by
      have hl' := hM.lt _ _ h
      have hst : ∀ b, b < w.heap.size → b ≠ l.g → (setMap w l.g es' ck).heap[b]? = w.heap[b]? := fun b _ hne => by
        show (w.heap.setIfInBounds _ _)[b]? = _
        rw [Array.getElem?_setIfInBounds_ne (Ne.symm hne)]
      have hbel : Prot base.Z w (setMap w l.g es' ck) := ⟨rfl, rfl, rfl, by show _ ≤ (w.heap.setIfInBounds _ _).size; simp, fun k hk => by
        show (w.heap.setIfInBounds _ _)[k]? = _
        rw [Array.getElem?_setIfInBounds_ne (fun e => hl'.1 (by rw [e]; exact hk))]⟩
      have hS : ∀ b, S b → (setMap w l.g es' ck).heap[b]? = w.heap[b]? := fun b hb => hst b (hM.sb b hb) fun e => hl'.2.2 (e ▸ hb)
      refine hM.turn i l h (.fam X' Y) (fun hc => by rw [hb] at hc; cases hc) hbel hst (famR_of hB0.1 (by
        show (w.heap.setIfInBounds _ _)[l.g]? = _
        rw [Array.getElem?_setIfInBounds_self_of_lt hl'.2.1]) hl (fun j hj hj' => ?_) (fun j hj hj' => ?_) hok fun j g hj => ?_)
      · obtain ⟨j2, g, g', e1, e2⟩ := he j hj hj'
        rw [e1, e2]; exact q3 j2 g g'
      · obtain ⟨j2, g, g', e1, e2⟩ := he j hj hj'
        rw [e1, e2]; exact q4 j2 g g'
      · have hge := List.mem_of_getElem? hj
        exact (hB0.2.2.2 j g hj).keep (fun _ h => h) hS (hst g (hx.out g hge).2.1 fun e => (hx.far g hge i l h).1 e.symm)
    cases hq : idxM .str famU X kk with
    | none =>
      obtain ⟨n1, n2, n3, n4⟩ := idxM_none hq
      rw [hq] at hfk
      have hfk : (Instr.findKey kt (keyV .str kk) es.toList).run P w = .ok none w := hfk
      rw [n4]
      obtain ⟨ht, hm'⟩ := turn (X' := X) (es' := es) q2 (fun j hj hj' => ⟨j, hj, hj', rfl, rfl⟩) q5
      refine ⟨.tuple #[], _, S, m, ?_, ht, hm', htup⟩
      unfold Builtin.delete_
      simp [run_underlying hu, hck, hg, hfk, run_setMap q1]
    | some j =>
      obtain ⟨hj, hje, _⟩ := idxM_lt hq
      have hj' : j < es.toList.length := by omega
      obtain ⟨_, p2⟩ := idxM_put (dfl famU) hq
      rw [hq] at hfk
      have hfk : (Instr.findKey kt (keyV .str kk) es.toList).run P w = .ok (some (j, es.toList[j].val)) w := by
        rw [hfk]; simp only [Option.bind_some, List.getElem?_eq_getElem hj', Option.map_some, Nat.zero_add]
      have hsub : (delM .str famU X kk).Sublist X := del_sub (t := .str) (u := famU) X kk
      rw [p2] at hsub ⊢
      have hto : (es.eraseIdxIfInBounds j).toList = es.toList.eraseIdx j := Array.toList_eraseIdxIfInBounds
      have hl1 : (es.toList.eraseIdx j).length = es.toList.length - 1 := List.length_eraseIdx_of_lt hj'
      have hl2 : (X.eraseIdx j).length = X.length - 1 := List.length_eraseIdx_of_lt hj
      obtain ⟨ht, hm'⟩ := turn (X' := X.eraseIdx j) (es' := es.eraseIdxIfInBounds j) (by rw [hto, hl1, hl2, q2]) (fun i hi hi' => by
          rw [hto] at hi
          obtain ⟨i1, g1, e1, e2⟩ := eraseIdx_getElem es.toList j i hi hj'
          obtain ⟨i2, g2, e3, e4⟩ := eraseIdx_getElem X j i hi' hj
          have e5 : i1 = i2 := by rw [e2, e4]
          subst e5
          exact ⟨i1, g1, g2, by rw [List.getElem_of_eq hto, e1], e3⟩) ⟨fun e he => by
            rw [hto] at he
            exact q5.born e ((List.eraseIdx_sublist _ _).mem he), by
            rw [hto]
            exact ((List.eraseIdx_sublist es.toList j).map _).nodup q5.once, q5.keys.sublist hsub, Nat.le_trans hsub.length_le q5.few⟩
      refine ⟨.tuple #[], _, S, m, ?_, ht, hm', htup⟩
      unfold Builtin.delete_
      simp [run_underlying hu, hck, hg, hfk, run_setMap q1]
theorem aDel_ok (hT : TabOk P T) (hM : MRel base w S m M) (t kt0 ty : TypeId) {vx vk : Value} {x k : AV} (hx : Rel w S m vx x) (hkv : Rel w S m vk k) (hk : AllT (aDel T M t x k).ks) :
    Res base w S m P (aDel T M t x k) (Builtin.delete_ #[t, kt0] ty #[vx, vk]) := by
  unfold aDel at hk ⊢
  split at hk
  · rename_i hf; exact aFamDel_ok hT hM kt0 ty hf hx hkv hk
  · exact aDelete_ok hT hM t kt0 ty hx hkv hk


/-- Setting an entry: what becomes of the map. -/
theorem put_run {a u : Ty} {t kt e : TypeId} (hu : P.underlying t = some (.map kt e)) (hkey : isKey a = true) (hku : P.underlying kt = some (keyD a)) {g : Nat} {es : Array MapEntry} {ck : Nat} {x : List (El a × El u)} (q1 : w.heap[g]? = some (.map es ck)) (q2 : es.toList.length = x.length)
    (q3 : ∀ j (h : j < es.toList.length) (h' : j < x.length), es.toList[j].key = keyV a x[j].1) (hborn : ∀ e ∈ es.toList, e.born < ck) (hnd : (es.toList.map (·.born)).Nodup) (kk : El a) (y : El u) (vv : Value) :
    ∃ (es' : Array MapEntry) (ck' : Nat), (Instr.mapUpdate t (.map (some g)) (keyV a kk) vv).run P w = .ok () (setMap w g es' ck') ∧ es'.toList.length = (putM a u x kk y).length ∧
      (∀ j (h : j < es'.toList.length) (h' : j < (putM a u x kk y).length), es'.toList[j].key = keyV a (putM a u x kk y)[j].1 ∧ ((es'.toList[j].val = vv ∧ (putM a u x kk y)[j] = (kk, y)) ∨
        ∃ (i : Nat) (g : i < es.toList.length) (g' : i < x.length), es'.toList[j].val = es.toList[i].val ∧ (putM a u x kk y)[j] = x[i])) ∧ (∀ e ∈ es'.toList, e.born < ck') ∧ (es'.toList.map (·.born)).Nodup := by
  have hg : (getObj g).run P w = .ok (.map es ck) w := by simp [getObj, Sem.run, q1]
  have hfk := find_key (u := u) hku hkey kk q2 q3 w
  cases hq : idxM a u x kk with
  | none =>
    obtain ⟨n1, n2, n3, n4⟩ := idxM_none hq
    rw [hq] at hfk
    have hfk : (Instr.findKey kt (keyV a kk) es.toList).run P w = .ok none w := hfk
    rw [n3 y]
    have hto : (es.push { key := keyV a kk, val := vv, born := ck }).toList = es.toList ++ [{ key := keyV a kk, val := vv, born := ck }] := Array.toList_push
    refine ⟨es.push { key := keyV a kk, val := vv, born := ck }, ck + 1, ?_, by rw [hto]; simp [q2], fun j hj hj' => ?_, fun e he => ?_, ?_⟩
    · unfold Instr.mapUpdate
      simp only [Sem.run_bind, run_underlying hu, Result.andThen_ok, hg, check_key hkey hku, hfk]
      exact run_setMap q1 _ _
    · rw [List.getElem_of_eq hto]
      by_cases hlt : j < es.toList.length
      · rw [List.getElem_append_left hlt, List.getElem_append_left (by omega)]
        exact ⟨q3 j hlt (by omega), .inr ⟨j, hlt, by omega, rfl, rfl⟩⟩
      · have e1 : j = es.toList.length := by rw [hto] at hj; simp at hj; simp at hlt; simp; omega
        subst e1
        rw [List.getElem_append_right (Nat.le_refl _), List.getElem_append_right (by omega)]
        simp only [q2, Nat.sub_self, List.getElem_cons_zero]
        exact ⟨trivial, .inl ⟨trivial, trivial⟩⟩
    · rw [hto] at he
      rcases List.mem_append.1 he with he | he
      · have := hborn e he; omega
      · rw [List.mem_singleton.1 he]; exact Nat.lt_succ_self _
    · rw [hto, List.map_append, List.nodup_append]
      refine ⟨hnd, (List.nodup_cons.2 ⟨List.not_mem_nil, List.nodup_nil⟩), fun b hb c hc => ?_⟩
      obtain ⟨e, he, rfl⟩ := List.mem_map.1 hb
      rw [List.mem_singleton.1 hc]
      exact Nat.ne_of_lt (hborn e he)
  | some j =>
    obtain ⟨hj, hje, _⟩ := idxM_lt hq
    have hj' : j < es.toList.length := by omega
    obtain ⟨p1, _⟩ := idxM_put y hq
    have hkeq : kk = x[j].1 := (eqK_iff hkey _ _).1 hje
    rw [hq] at hfk
    have hfk : (Instr.findKey kt (keyV a kk) es.toList).run P w = .ok (some (j, es.toList[j].val)) w := by
      rw [hfk]; simp only [Option.bind_some, List.getElem?_eq_getElem hj', Option.map_some, Nat.zero_add]
    rw [p1]
    have hto : (es.modify j fun e => { e with key := keyV a kk, val := vv }).toList = es.toList.modify j fun e => { e with key := keyV a kk, val := vv } := Array.toList_modify
    have hold : ((es[j]?).map (·.key)).getD (keyV a kk) = keyV a kk := by
      rw [← Array.getElem?_toList, List.getElem?_eq_getElem hj']
      show es.toList[j].key = _
      rw [q3 j hj' hj, hkeq]
    refine ⟨es.modify j fun e => { e with key := keyV a kk, val := vv }, ck, ?_, by rw [hto]; simp [q2], fun i hi hi' => ?_, fun e he => ?_, ?_⟩
    · unfold Instr.mapUpdate
      simp only [Sem.run_bind, run_underlying hu, Result.andThen_ok, hg, check_key hkey hku, hfk, hold, key_stays hkey]
      exact run_setMap q1 _ _
    · rw [List.getElem_of_eq hto, List.getElem_modify, List.getElem_set]
      rw [hto, List.length_modify] at hi
      rw [List.length_set] at hi'
      by_cases e : j = i
      · rw [if_pos e, if_pos e]; exact ⟨rfl, .inl ⟨rfl, rfl⟩⟩
      · rw [if_neg e, if_neg e]; exact ⟨q3 i hi hi', .inr ⟨i, hi, hi', rfl, rfl⟩⟩
    · rw [hto] at he
      have hmem : e.born ∈ (es.toList.modify j fun e => { e with key := keyV a kk, val := vv }).map (·.born) := List.mem_map_of_mem he
      rw [modify_born _ _ (fun e => { e with key := keyV a kk, val := vv }) (fun _ => rfl)] at hmem
      obtain ⟨e0, he0, e1⟩ := List.mem_map.1 hmem
      rw [← e1]; exact hborn e0 he0
    · rw [hto, modify_born _ _ (fun e => { e with key := keyV a kk, val := vv }) (fun _ => rfl)]; exact hnd

/-- A block of one's own turns, and one place more lies further off. -/
theorem MRel.turnY {w' : World} (h : MRel base w S m M) (i₀ : Nat) (l : Loc) (h0 : m[i₀]? = some (some l)) {g : Nat} (hg : ¬ base.Z g ∧ g < w.heap.size ∧ ¬ S g) (hfar : ∀ (j : Nat) (l' : Loc), m[j]? = some (some l') → l'.g ≠ g ∧ g ∉ l'.ext) (B : ABlk)
    (hkind : isCells (blk M i₀) = false) (hbelow : Prot base.Z w w') (hst : ∀ b, b < w.heap.size → b ≠ l.g → w'.heap[b]? = w.heap[b]?) (hB : BRel w' S (m.set i₀ (some { l with ext := l.ext ++ [g] })) (some { l with ext := l.ext ++ [g] }) B) :
    Trans base w S m w' S (m.set i₀ (some { l with ext := l.ext ++ [g] })) none ∧ MRel base w' S (m.set i₀ (some { l with ext := l.ext ++ [g] })) (setBlk M i₀ B) := by
  have hl := h.lt i₀ l h0
  have hi₀ : i₀ < m.length := (List.getElem?_eq_some_iff.1 h0).1
  have hS : ∀ b, S b → w'.heap[b]? = w.heap[b]? := fun b hb => hst b (h.sb b hb) (fun e => hl.2.2 (e ▸ hb))
  have hml : ∀ (i : Nat) (l' : Option Loc), (m.set i₀ (some { l with ext := l.ext ++ [g] }))[i]? = some l' → (i ≠ i₀ ∧ m[i]? = some l') ∨ (i = i₀ ∧ l' = some { l with ext := l.ext ++ [g] }) := fun i l' hi => by
    by_cases e : i = i₀
    · subst e; rw [List.getElem?_set_self hi₀] at hi; injection hi with hi; exact .inr ⟨rfl, hi.symm⟩
    · rw [List.getElem?_set_ne (Ne.symm e)] at hi; exact .inl ⟨e, hi⟩
  have hml2 : ∀ (i : Nat) (l' : Loc), (m.set i₀ (some { l with ext := l.ext ++ [g] }))[i]? = some (some l') → ∃ l0 : Loc, m[i]? = some (some l0) ∧ l'.g = l0.g ∧ ∀ b ∈ l'.ext, b ∈ l0.ext ∨ (b = g ∧ i = i₀) := fun i l' hi => by
    rcases hml i _ hi with ⟨_, hi⟩ | ⟨rfl, e⟩
    · exact ⟨l', hi, rfl, fun b hb => .inl hb⟩
    · injection e with e; subst e
      exact ⟨l, h0, rfl, fun b hb => (List.mem_append.1 hb).imp id fun hb => ⟨List.mem_singleton.1 hb, rfl⟩⟩
  have hle : LocsLe m (m.set i₀ (some { l with ext := l.ext ++ [g] })) := fun i l' hi => by
    by_cases e : i = i₀
    · subst e
      rw [h0] at hi; injection hi with hi; subst hi
      exact ⟨_, List.getElem?_set_self hi₀, .ext l [g]⟩
    · exact ⟨l', by rw [List.getElem?_set_ne (Ne.symm e)]; exact hi, .refl _⟩
  refine ⟨⟨hbelow, fun _ h => h, fun _ h => .inl h, hS, fun i l' _ hi => hle i l' hi⟩, ?_⟩
  refine ⟨by rw [lenM_set, List.length_set]; exact h.len, fun b hb => Nat.lt_of_lt_of_le (h.sb b hb) hbelow.size, ?_, fun i l' hi => ?_, fun i j l1 l2 hi hj e => ?_, fun b hb => Nat.lt_of_lt_of_le (h.base_le b hb) hbelow.size, h.gl hbelow.block, fun i l' hi => ?_, fun i l' hi => ?_⟩
  · intro i l' hi
    rw [blk_set]
    rcases hml i l' hi with ⟨e, hi'⟩ | ⟨rfl, rfl⟩
    · rw [if_neg (fun x => e x.1.symm)]
      have hb := h.bk i l' hi'
      have hrel : ∀ v a, Rel w S m v a → Rel w' S (m.set i₀ (some { l with ext := l.ext ++ [g] })) v a := fun v a hr => (hr.mono (fun _ h => h) hS m (fun _ _ h => h)).longer _ hle
      have hrel0 : ∀ v a, Rel w S [] v a → Rel w' S [] v a := fun v a hr => hr.mono (fun _ h => h) hS _ (fun _ _ h => h)
      cases l' with
      | none => revert hb; cases blk M i <;> exact fun h => h
      | some l₁ =>
        have hlt' := (h.lt i l₁ hi').2.1
        have hne : l₁.g ≠ l.g := fun e' => e (h.inj i i₀ l₁ l hi' h0 e')
        have hh := hst _ hlt' hne
        revert hb
        cases blk M i with
        | dead => exact fun h => h
        | cells e cs => rintro ⟨vs, h1, h2, h3, h4⟩; exact ⟨vs, hh.trans h1, h2, h3, fun i hi => hrel _ _ (h4 i hi)⟩
        | rows e sz n c => rintro ⟨h0, h1, h2, h3, vs, h4, h5, h6⟩; exact ⟨h0, h1, h2, h3, vs, hh.trans h4, h5, fun i hi j hj => ⟨(h6 i hi j hj).1, hrel0 _ _ (h6 i hi j hj).2⟩⟩
        | trows e ty x => rintro ⟨h0, h1, h2, h3, vs, h4, h5, h6⟩; exact ⟨h0, h1, h2, h3, vs, hh.trans h4, h5, fun i hi j hj => ⟨(h6 i hi j hj).1, hrel0 _ _ (h6 i hi j hj).2⟩⟩
        | fro e ty x => rintro ⟨h0, h1, h2, h3, vs, fz, h4, h5, h6⟩; exact ⟨h0, h1, h2, h3, vs, fz, hh.trans h4, h5, fun i hi j hj => ⟨(h6 i hi j hj).1, hrel0 _ _ (h6 i hi j hj).2⟩⟩
        | arr e ty x => rintro ⟨vs, h4, h5, h6⟩; exact ⟨vs, hh.trans h4, h5, fun i hi => ⟨(h6 i hi).1, hrel0 _ _ (h6 i hi).2⟩⟩
        | map ty uy x => rintro ⟨es, ck, h4, h5, h6, h7⟩; exact ⟨es, ck, hh.trans h4, h5, fun i hi => ⟨hrel0 _ _ (h6 i hi).1, hrel0 _ _ (h6 i hi).2⟩, h7⟩
        | siter s pos => rintro ⟨h1, h2⟩; exact ⟨hh.trans h1, h2⟩
        | fam x y => exact fun hf => hf.keep (fun _ h => h) hS hh fun b hb => hst b ((h.ext i l₁ hi').out b hb).2.1 fun q => ((h.ext i l₁ hi').far b hb i₀ l h0).1 q.symm
    · rw [if_pos ⟨rfl, by rw [← h.len]; exact hi₀⟩]; exact hB
  · obtain ⟨l0, q1, q2, _⟩ := hml2 i l' hi
    rw [q2]
    exact ⟨(h.lt i l0 q1).1, Nat.lt_of_lt_of_le (h.lt i l0 q1).2.1 hbelow.size, (h.lt i l0 q1).2.2⟩
  · obtain ⟨l3, q1, q2, _⟩ := hml2 i l1 hi
    obtain ⟨l4, q3, q4, _⟩ := hml2 j l2 hj
    exact h.inj i j l3 l4 q1 q3 (by rw [← q2, ← q4]; exact e)
  · obtain ⟨q1, q2⟩ := h.pin i l' hi
    have hne : i ≠ i₀ := fun e => by subst e; rw [hkind] at q2; cases q2
    exact ⟨by rw [List.getElem?_set_ne (Ne.symm hne)]; exact q1, by rw [blk_set, if_neg (fun x => hne x.1.symm)]; exact q2⟩
  · have key : ∀ b, (∀ (j : Nat) (l1 : Loc), m[j]? = some (some l1) → l1.g ≠ b ∧ (i ≠ j → b ∉ l1.ext)) → (b = g → i = i₀) → ∀ (j : Nat) (l1 : Loc), (m.set i₀ (some { l with ext := l.ext ++ [g] }))[j]? = some (some l1) → l1.g ≠ b ∧ (i ≠ j → b ∉ l1.ext) := fun b hb hbg j l1 hj => by
      obtain ⟨l0, q1, q2, q3⟩ := hml2 j l1 hj
      refine ⟨by rw [q2]; exact (hb j l0 q1).1, fun hne hm => ?_⟩
      rcases q3 b hm with q | ⟨q, e⟩
      · exact (hb j l0 q1).2 hne q
      · exact hne (by rw [hbg q, e])
    rcases hml i _ hi with ⟨hne, hi'⟩ | ⟨rfl, e⟩
    · have q := h.ext i l' hi'
      exact ⟨q.nd, fun b hb => ⟨(q.out b hb).1, Nat.lt_of_lt_of_le (q.out b hb).2.1 hbelow.size, (q.out b hb).2.2⟩, fun b hb => key b (q.far b hb) fun e => absurd (e ▸ hb) (hfar i l' hi').2⟩
    · injection e with e; subst e
      have q := h.ext i l h0
      refine ⟨?_, fun b hb => ?_, fun b hb => ?_⟩
      · show (l.ext ++ [g]).Nodup
        exact List.nodup_append.2 ⟨q.nd, List.nodup_cons.2 ⟨List.not_mem_nil, List.nodup_nil⟩, fun a ha b hb e => (hfar i l h0).2 (by rw [List.mem_singleton.1 hb] at e; exact e ▸ ha)⟩
      · have hb : b ∈ l.ext ++ [g] := hb
        rcases List.mem_append.1 hb with hb | hb
        · exact ⟨(q.out b hb).1, Nat.lt_of_lt_of_le (q.out b hb).2.1 hbelow.size, (q.out b hb).2.2⟩
        · rw [List.mem_singleton.1 hb]; exact ⟨hg.1, Nat.lt_of_lt_of_le hg.2.1 hbelow.size, hg.2.2⟩
      · have hb : b ∈ l.ext ++ [g] := hb
        rcases List.mem_append.1 hb with hb | hb
        · exact key b (q.far b hb) fun _ => rfl
        · rw [List.mem_singleton.1 hb]; exact key g (fun j l1 hj => ⟨(hfar j l1 hj).1, fun _ => (hfar j l1 hj).2⟩) fun _ => rfl


theorem agg3 {vv : Value} {n : Int} {d : List UInt8} {b : Nat} {l : Loc} (hb : m[b]? = some (some l)) (h : Rel w S m vv (.agg [.int .i64 n, .str d, .mp b])) : vv = .agg #[.int .i64 n, .string (bytes d), .map (some l.g)] ∧ (Lit.int .i64 n).wf = true ∧ d.length ≤ maxLen := by
  cases h with
  | agg _ vs _ hl h1 h =>
    have hl : vs.size = 3 := hl
    have a0 : Rel w S m (vs.getD 0 Go.undef) (.int .i64 n) := h 0 (by show 0 < 3; decide)
    have a1 : Rel w S m (vs.getD 1 Go.undef) (.str d) := h 1 (by show 1 < 3; decide)
    have a2 : Rel w S m (vs.getD 2 Go.undef) (.mp b) := h 2 (by show 2 < 3; decide)
    generalize e0 : vs.getD 0 Go.undef = v0 at a0
    generalize e1 : vs.getD 1 Go.undef = v1 at a1
    generalize e2 : vs.getD 2 Go.undef = v2 at a2
    have hvs : vs = #[v0, v1, v2] := by
      apply Array.ext (by simpa using hl)
      intro i hi hi'
      have : i < 3 := by omega
      have g : ∀ i (hi : i < vs.size), vs.getD i Go.undef = vs[i] := fun i hi => by simp [Array.getD, hi]
      match i, this with
      | 0, _ => rw [← e0, g 0 (by omega)]; rfl
      | 1, _ => rw [← e1, g 1 (by omega)]; rfl
      | 2, _ => rw [← e2, g 2 (by omega)]; rfl
    subst hvs
    cases a0 with
    | int _ _ _ hn => cases a1 with
      | str _ _ hd => cases a2 with
        | mp _ _ l' h' => rw [hb] at h'; cases h'; exact ⟨rfl, hn, hd⟩
        | mp0 _ _ h' => rw [hb] at h'; cases h'

theorem aFamUpd_ok (hT : TabOk P T) (hM : MRel base w S m M) (t : TypeId) {vx vk vv : Value} {x k : AV} {n : Int} {d : List UInt8} {b : Nat} (hx : Rel w S m vx x) (hkv : Rel w S m vk k) (hvv : Rel w S m vv (.agg [.int .i64 n, .str d, .mp b])) (hk : AllT (aFamUpd std T M t x k n d b).ks) :
    ResU base w S m P (aFamUpd std T M t x k n d b) (Instr.mapUpdate t vx vk vv) := by
  unfold aFamUpd at hk ⊢
  split at hk
  case h_2 => exact (not_bad hk).elim
  rename_i i kk hf hbb
  split at hk
  case h_2 => exact (not_bad hk).elim
  rename_i X Y hne hb
  obtain ⟨kt, e, fs, h1, h2, h3, h4, h5⟩ := famTy_some hf
  have hu := map_und hT h1
  have hku : P.underlying kt = some (keyD .str) := key_und hT (by rw [h2]; rfl)
  have hvk := rel_key (t := .str) rfl hkv
  have hkl : kk.length ≤ maxLen := by cases hkv; assumption
  subst hvk
  have hne : i ≠ b := fun q => by subst q; rw [Nat.beq_refl] at hne; cases hne
  obtain ⟨hk1, hk2⟩ := AllT.cons.1 hk
  have hY : 1 ≤ Y.length := by simpa [std] using hk1
  have hlen : (putM .str famU X kk (n, d, ((Y.length - 1 : Nat) : Int))).length ≤ maxLen := by
    have hk2 : std.ble (putM .str famU X kk (n, d, ((Y.length - 1 : Nat) : Int))).length 9223372036854775807 = true := hk2
    simpa [std, maxLen] using hk2
  -- the block that is given
  have hbl : b < lenM M := blk_lt _ _ (by rw [hbb]; intro e; cases e)
  obtain ⟨ob, hob⟩ : ∃ ob, m[b]? = some ob := ⟨m[b]'(by rw [hM.len]; exact hbl), List.getElem?_eq_getElem _⟩
  have hBb := hM.bk b ob hob
  rw [hbb] at hBb
  cases ob with
  | none => exact absurd hBb.2 (by simp)
  | some lb =>
  have hBb : FamR w S lb [] [[]] := hBb
  obtain ⟨hvv', hn, hd⟩ := agg3 hob hvv
  obtain ⟨ht, hm⟩ := hM.move b (some lb) hob none .dead (by rw [hbb]; rfl) (Prot.refl _ _) (fun _ _ _ => rfl) (fun l2 e => by cases e) trivial
  have hlb := hM.lt b lb hob
  have hlbx : lb.ext = [] := by
    have := hBb.1
    exact List.length_eq_zero_iff.1 (by simpa using this)
  have hfar : ∀ (j : Nat) (l' : Loc), (m.set b none)[j]? = some (some l') → l'.g ≠ lb.g ∧ lb.g ∉ l'.ext := fun j l' hj => by
    by_cases e : j = b
    · subst e; rw [List.getElem?_set_self (by rw [hM.len]; exact hbl)] at hj; cases hj
    · rw [List.getElem?_set_ne (Ne.symm e)] at hj
      exact ⟨fun q => e (hM.inj j b l' lb hj hob q), fun q => ((hM.ext j l' hj).far _ q b lb hob).1 rfl⟩
  cases hx with
  | mp0 _ _ h =>
    have hB := hM.bk _ _ h
    rw [hb] at hB
    rw [hB.2] at hY; cases hY
  | mp _ _ l h =>
    have hB := bk_of hM h
    rw [hb] at hB
    have hB0 : FamR w S l X Y := hB
    obtain ⟨es, ck, q1, q2, q3, q4, q5⟩ := fam_ents hB0
    have hi1 : (m.set b none)[i]? = some (some l) := by rw [List.getElem?_set_ne (Ne.symm hne)]; exact h
    obtain ⟨es', ck', r1, r2, r3, r4, r5⟩ := put_run (u := famU) (a := .str) hu rfl hku q1 q2 q3 q5.born q5.once kk (n, d, ((Y.length - 1 : Nat) : Int)) vv
    have hl' := hM.lt _ _ h
    have hext := hM.ext i l h
    have hst : ∀ b, b < w.heap.size → b ≠ l.g → (setMap w l.g es' ck').heap[b]? = w.heap[b]? := fun b _ hne => by
      show (w.heap.setIfInBounds _ _)[b]? = _
      rw [Array.getElem?_setIfInBounds_ne (Ne.symm hne)]
    have hbel : Prot base.Z w (setMap w l.g es' ck') := ⟨rfl, rfl, rfl, by show _ ≤ (w.heap.setIfInBounds _ _).size; simp, fun k hk => by
      show (w.heap.setIfInBounds _ _)[k]? = _
      rw [Array.getElem?_setIfInBounds_ne (fun e => hl'.1 (by rw [e]; exact hk))]⟩
    have hS : ∀ b, S b → (setMap w l.g es' ck').heap[b]? = w.heap[b]? := fun b hb => hst b (hM.sb b hb) fun e => hl'.2.2 (e ▸ hb)
    have hlbl : lb.g ≠ l.g := fun q => hne (hM.inj i b l lb h hob q.symm)
    obtain ⟨es0, ck0, w1, w2, w3, w4, w5⟩ := fam_ents (X := ([] : List (El .str × El famU))) hBb
    have hY1 : l.ext.length = Y.length - 1 := by have := hB0.1; omega
    have hB2 : FamR (setMap w l.g es' ck') S { l with ext := l.ext ++ [lb.g] } (putM .str famU X kk (n, d, ((Y.length - 1 : Nat) : Int))) (Y ++ [[]]) := by
      refine famR_of (es := es') (ck := ck') (by
          show (l.ext ++ [lb.g]).length + 1 = (Y ++ [[]]).length
          have := hB0.1
          simp only [List.length_append, List.length_singleton]; omega) (by
          show (w.heap.setIfInBounds _ _)[l.g]? = _
          rw [Array.getElem?_setIfInBounds_self_of_lt hl'.2.1]) r2 (fun j hj hj' => (r3 j hj hj').1) (fun j hj hj' => ?_) ⟨r4, r5, pairwise_put (t := .str) (u := famU) rfl q5.keys kk _, hlen⟩ fun j g hj => ?_
      · rcases (r3 j hj hj').2 with ⟨e1, e2⟩ | ⟨j0, g0, g0', e1, e2⟩
        · rw [e1, e2]
          refine ⟨hkl, l.ext.length, lb.g, by rw [hY1], ?_, hvv', hn, hd⟩
          show (l.ext ++ [lb.g])[l.ext.length]? = _
          rw [List.getElem?_append_right (Nat.le_refl _), Nat.sub_self]; rfl
        · rw [e1, e2]
          obtain ⟨p0, q, g, p1, p2, p3⟩ := q4 j0 g0 g0'
          refine ⟨p0, q, g, p1, ?_, p3⟩
          show (l.ext ++ [lb.g])[q]? = _
          rw [List.getElem?_append_left (List.getElem?_eq_some_iff.1 p2).1]; exact p2
      · have hj : (l.ext ++ [lb.g])[j]? = some g := hj
        by_cases hlt : j < l.ext.length
        · rw [List.getElem?_append_left hlt] at hj
          have hge := List.mem_of_getElem? hj
          have e0 : (Y ++ [[]]).getD (j + 1) [] = Y.getD (j + 1) [] := by
            rw [List.getD_eq_getElem?_getD, List.getD_eq_getElem?_getD, List.getElem?_append_left (by have := hB0.1; omega)]
          rw [e0]
          exact (hB0.2.2.2 j g hj).keep (fun _ h => h) hS (hst g (hext.out g hge).2.1 fun e => (hext.far g hge i l h).1 e.symm)
        · rw [List.getElem?_append_right (by omega)] at hj
          have hj0 : j - l.ext.length = 0 := by
            have := (List.getElem?_eq_some_iff.1 hj).1
            rw [List.length_singleton] at this; omega
          rw [hj0] at hj
          have hg : g = lb.g := by simpa using hj.symm
          subst hg
          have e0 : (Y ++ [[]]).getD (j + 1) [] = [] := by
            rw [List.getD_eq_getElem?_getD, List.getElem?_append_right (by have := hB0.1; omega)]
            have : j + 1 - Y.length = 0 := by have := hB0.1; omega
            rw [this]; rfl
          rw [e0]
          have hes0 : es0.toList.length = 0 := w2
          refine ⟨es0, ck0, (hst _ hlb.2.1 hlbl).trans w1, by simpa using hes0, fun i hi => absurd hi (Nat.not_lt_zero i), ⟨w5.born, w5.once, .nil, rfl, (fun _ => rfl), Nat.zero_le _, fun h => by cases h⟩⟩
    obtain ⟨ht2, hm2⟩ := hm.turnY i l hi1 (g := lb.g) ⟨hlb.1, hlb.2.1, hlb.2.2⟩ hfar (.fam (putM .str famU X kk (n, d, ((Y.length - 1 : Nat) : Int))) (Y ++ [[]])) (by
        rw [blk_invalMs, isCells_inval, blk_set, if_neg (fun q => hne q.1.symm), hb]; rfl) hbel hst hB2
    refine ⟨_, S, _, r1, ⟨hbel, fun _ h => h, fun _ h => .inl h, hS, fun j lo hj hlo => ?_⟩, hm2, rfl⟩
    obtain ⟨l1, p1, p2⟩ := ht.lm j lo hj hlo
    obtain ⟨l2, p3, p4⟩ := ht2.lm j l1 (fun e => by cases e) p1
    exact ⟨l2, p3, p2.trans p4⟩
theorem aMapUpdate_inv (p : Prims) (T : Tab) (M : Mem) (t : Nat) (x k v : AV) : (aMapUpdate p T M t x k v).inv = none ∧ (aMapUpdate p T M t x k v).v = .undef := by
  unfold aMapUpdate bad
  repeat' split
  all_goals exact ⟨rfl, rfl⟩
theorem aSubUpd_ok (hT : TabOk P T) (hM : MRel base w S m M) (t : TypeId) {vx vk vv : Value} {i j : Nat} {k v : AV} (hx : Rel w S m vx (.sub i j)) (hkv : Rel w S m vk k) (hvv : Rel w S m vv v) (hk : AllT (aSubUpd std T M t i j k v).ks) :
    ResU base w S m P (aSubUpd std T M t i j k v) (Instr.mapUpdate t vx vk vv) := by
  unfold aSubUpd at hk ⊢
  split at hk
  case h_2 => exact (not_bad hk).elim
  rename_i X Y hb
  split at hk
  case h_2 => exact (not_bad hk).elim
  rename_i r y' ks fk fv hr
  cases hx with
  | sub _ _ _ l g h hj =>
    obtain ⟨w', r1, r2, r3⟩ := sub_put (P := P) hT hM h hb hj t hkv hvv fk fv (by rw [hr]; exact hk) (by rw [hr]) (by rw [hr])
    exact ⟨w', S, m, r1, r2, r3, rfl⟩
theorem aMapSet_ok (hT : TabOk P T) (hM : MRel base w S m M) (t : TypeId) {vx vk vv : Value} {x k v : AV} (hx : Rel w S m vx x) (hkv : Rel w S m vk k) (hvv : Rel w S m vv v) (hk : AllT (aMapSet std T M t x k v).ks) :
    ResU base w S m P (aMapSet std T M t x k v) (Instr.mapUpdate t vx vk vv) := by
  unfold aMapSet at hk ⊢
  split at hk
  · exact aSubUpd_ok hT hM t hx hkv hvv hk
  · split at hk
    · exact aFamUpd_ok hT hM t hx hkv hvv hk
    · exact aMapUpd_ok hT hM t hx hkv hvv hk

end Go.Eng
