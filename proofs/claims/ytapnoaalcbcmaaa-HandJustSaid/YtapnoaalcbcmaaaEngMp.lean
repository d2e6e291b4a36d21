/- Maps: making, looking up, setting, deleting. -/
import Derived.Test.YtapnoaalcbcmaaaEngH
namespace Go.Eng
open Go Go.RowKit

variable {P : Program} {T : Tab} {base : Env} {a u : Ty} {kt : Nat} {w : World} {S : Nat → Prop} {m : Locs} {M : Mem}

theorem keyTD_some {d : TD} {a : Ty} (h : keyTD d = some a) : (∃ k, d = .int k ∧ a = .int k) ∨ (d = .bool ∧ a = .bool) ∨ (d = .str ∧ a = .str) := by
  cases d <;> simp [keyTD] at h <;> subst h <;> simp
/-- The description of a key's type. -/
def keyD : Ty → TypeDesc
  | .int k => .int k
  | .bool => .bool
  | _ => .string
theorem key_und (hT : TabOk P T) {k : Nat} {a : Ty} (h : keyTD (tyi T k).d = some a) : P.underlying k = some (keyD a) := by
  rcases keyTD_some h with ⟨q, hd, rfl⟩ | ⟨hd, rfl⟩ | ⟨hd, rfl⟩
  · obtain ⟨_, _, _, g⟩ := hT.of_d hd (by simp)
    have e := g.d; rw [hd] at e
    rw [g.und, td_int e.symm]; rfl
  · obtain ⟨_, _, _, g⟩ := hT.of_d hd (by simp)
    have e := g.d; rw [hd] at e
    rw [g.und, td_bool e.symm]; rfl
  · obtain ⟨_, _, _, g⟩ := hT.of_d hd (by simp)
    have e := g.d; rw [hd] at e
    rw [g.und, td_str e.symm]; rfl
def isKey : Ty → Bool
  | .int _ => true
  | .bool => true
  | .str => true
  | _ => false
theorem keyTD_is {d : TD} {a : Ty} (h : keyTD d = some a) : isKey a = true := by
  rcases keyTD_some h with ⟨q, _, rfl⟩ | ⟨_, rfl⟩ | ⟨_, rfl⟩ <;> rfl
/-- The value of a key. -/
def keyV : (t : Ty) → El t → Value
  | .int k, n => .int k n
  | .bool, b => .bool b
  | .str, s => .string (bytes s)
  | _, _ => Go.undef
theorem rel_key {w : World} {S : Nat → Prop} {m : Locs} {v : Value} {t : Ty} (ht : isKey t = true) {k : El t} (h : Rel w S m v (nth (cellsT t k) 0)) : v = keyV t k := by
  cases t with
  | int q => change Rel w S m v (.int q k) at h; cases h; rfl
  | bool => change Rel w S m v (.bool k) at h; cases h; rfl
  | str => change Rel w S m v (.str k) at h; cases h; rfl
  | _ => cases ht
theorem sameNow_key {t : Ty} (ht : isKey t = true) (a b : El t) : Instr.sameNow (keyD t) (keyV t a) (keyV t b) = some (eqK t a b) := by
  cases t with
  | int q => simp [Instr.sameNow, keyD, keyV, eqK]; rfl
  | bool => rfl
  | str =>
    show some (bytes a == bytes b) = some (a == b)
    rw [beq_toListBytes, bytes_toList, bytes_toList]
  | _ => cases ht
theorem eqK_iff {t : Ty} (ht : isKey t = true) (a b : El t) : eqK t a b = true ↔ a = b := by
  cases t with
  | int q => exact decide_eq_true_iff
  | bool => exact beq_iff_eq
  | str => exact beq_iff_eq
  | _ => cases ht
theorem check_key {t : Ty} (ht : isKey t = true) {kt : Nat} (hu : P.underlying kt = some (keyD t)) (e : Bool) (k : El t) (w : World) : (Instr.checkKey e 10000 kt (keyV t k)).run P w = .ok () w := by
  have h : ∀ d : Nat, (Instr.checkKey e (d + 1) kt (keyV t k)).run P w = .ok () w := fun d => by
    cases t with
    | int q => simp [Instr.checkKey, run_underlying hu, keyD, keyV]
    | bool => simp [Instr.checkKey, run_underlying hu, keyD, keyV]
    | str => simp [Instr.checkKey, run_underlying hu, keyD, keyV]
    | _ => cases ht
  exact h 9999
/-- The place of a key. -/
def idxM (t u : Ty) : List (El t × El u) → El t → Option Nat
  | [], _ => none
  | p :: l, k => bif eqK t k p.1 then some 0 else (idxM t u l k).map (· + 1)
theorem find_now {t u : Ty} (ht : isKey t = true) (k : El t) : ∀ (L : List MapEntry) (x : List (El t × El u)) (i : Nat), L.length = x.length → (∀ j (h : j < L.length) (h' : j < x.length), L[j].key = keyV t x[j].1) →
    Instr.findNow (keyD t) (keyV t k) L i = some ((idxM t u x k).bind fun j => (L[j]?).map fun e => (i + j, e.val))
  | [], [], i, _, _ => rfl
  | [], _ :: _, _, h, _ => by simp at h
  | _ :: _, [], _, h, _ => by simp at h
  | e :: L, p :: x, i, hl, hk => by
    have h0 := hk 0 (by simp) (by simp)
    have h0 : e.key = keyV t p.1 := h0
    unfold Instr.findNow idxM
    rw [h0, sameNow_key ht]
    cases eqK t k p.1 with
    | true => rfl
    | false =>
      show Instr.findNow _ _ L (i + 1) = _
      rw [find_now ht k L x (i + 1) (by simpa using hl) fun j h h' => hk (j + 1) (by simp; omega) (by simp; omega), cond_false]
      cases idxM t u x k with
      | none => rfl
      | some j =>
        show some ((L[j]?).map fun e => (i + 1 + j, e.val)) = some (((e :: L)[j + 1]?).map fun e => (i + (j + 1), e.val))
        rw [List.getElem?_cons_succ]
        have : i + 1 + j = i + (j + 1) := by omega
        rw [this]
theorem idxM_lt {t u : Ty} : ∀ {x : List (El t × El u)} {k : El t} {j : Nat}, idxM t u x k = some j → ∃ h : j < x.length, eqK t k x[j].1 = true ∧ getM t u x k = some x[j].2
  | [], _, _, h => by cases h
  | p :: x, k, j, h => by
    unfold idxM at h
    unfold getM
    cases hb : eqK t k p.1 with
    | true =>
      rw [hb, cond_true] at h
      injection h with h; subst h
      exact ⟨by simp, hb, by rw [cond_true]; rfl⟩
    | false =>
      rw [hb, cond_false] at h
      cases hq : idxM t u x k with
      | none => rw [hq] at h; cases h
      | some j' =>
        rw [hq] at h
        injection h with h; subst h
        obtain ⟨h1, h2, h3⟩ := idxM_lt hq
        exact ⟨by simp; omega, h2, by rw [cond_false]; exact h3⟩
theorem idxM_none {t u : Ty} : ∀ {x : List (El t × El u)} {k : El t}, idxM t u x k = none → getM t u x k = none ∧ (∀ p ∈ x, eqK t k p.1 = false) ∧ (∀ v, putM t u x k v = x ++ [(k, v)]) ∧ delM t u x k = x
  | [], _, _ => ⟨rfl, fun _ h => absurd h List.not_mem_nil, fun _ => rfl, rfl⟩
  | p :: x, k, h => by
    unfold idxM at h
    unfold getM putM delM
    cases hb : eqK t k p.1 with
    | true => rw [hb] at h; cases h
    | false =>
      rw [hb, cond_false] at h
      cases hq : idxM t u x k with
      | some j' => rw [hq] at h; cases h
      | none =>
        obtain ⟨h1, h2, h3, h4⟩ := idxM_none hq
        refine ⟨h1, fun q hq' => ?_, fun v => ?_, ?_⟩
        · rcases List.mem_cons.1 hq' with rfl | hq'
          · exact hb
          · exact h2 q hq'
        · rw [cond_false, h3 v]; rfl
        · rw [cond_false, h4]
theorem idxM_put {t u : Ty} : ∀ {x : List (El t × El u)} {k : El t} {j : Nat} (v : El u), idxM t u x k = some j → putM t u x k v = x.set j (k, v) ∧ delM t u x k = x.eraseIdx j
  | [], _, _, _, h => by cases h
  | p :: x, k, j, v, h => by
    unfold idxM at h
    unfold putM delM
    cases hb : eqK t k p.1 with
    | true =>
      rw [hb, cond_true] at h
      injection h with h; subst h
      exact ⟨rfl, rfl⟩
    | false =>
      rw [hb, cond_false] at h
      cases hq : idxM t u x k with
      | none => rw [hq] at h; cases h
      | some j' =>
        rw [hq] at h
        injection h with h; subst h
        obtain ⟨h1, h2⟩ := idxM_put v hq
        exact ⟨by rw [cond_false, h1]; rfl, by rw [cond_false, h2]; rfl⟩
/-- What is known of a map's entries. -/
theorem map_ents {t u : Ty} {x : List (El t × El u)} {es : Array MapEntry} (h2 : es.size = x.length) (h3 : ∀ i, i < x.length → Rel w S [] (meK es i) (mkAV t u x i) ∧ Rel w S [] (meV es i) (mvAV t u x i)) (ht : isKey t = true) (hu1 : szT u = 1) : es.toList.length = x.length ∧
    (∀ j (h : j < es.toList.length) (h' : j < x.length), es.toList[j].key = keyV t x[j].1) ∧ (∀ j (h : j < es.toList.length) (h' : j < x.length), Rel w S [] es.toList[j].key (nth (cellsT t x[j].1) 0) ∧ Rel w S [] es.toList[j].val (nth (cellsT u x[j].2) 0)) := by
  have key : ∀ j (h : j < es.toList.length) (h' : j < x.length), Rel w S [] es.toList[j].key (nth (cellsT t x[j].1) 0) ∧ Rel w S [] es.toList[j].val (nth (cellsT u x[j].2) 0) := fun j hj hj' => by
    have := h3 j hj'
    have e0 : es[j]? = some es.toList[j] := by
      rw [← Array.getElem?_toList, List.getElem?_eq_getElem hj]
    have e1 : x.getD j (dfl t, dfl u) = x[j] := by simp [List.getD, hj']
    unfold meK meV mkAV mvAV at this
    rw [isView_one hu1, cond_false] at this
    rw [e0, e1] at this
    exact this
  exact ⟨by simpa using h2, fun j hj hj' => rel_key ht (key j hj hj').1, key⟩
/-- What is known of a map's block. -/
theorem map_blk {l : Loc} {t u : Ty} {x : List (El t × El u)} (h : BRel w S m (some l) (.map t u x)) (ht : isKey t = true) (hu1 : szT u = 1) : ∃ (es : Array MapEntry) (ck : Nat), w.heap[l.g]? = some (.map es ck) ∧ es.toList.length = x.length ∧
    (∀ j (h : j < es.toList.length) (h' : j < x.length), es.toList[j].key = keyV t x[j].1) ∧ (∀ j (h : j < es.toList.length) (h' : j < x.length), Rel w S [] es.toList[j].key (nth (cellsT t x[j].1) 0) ∧ Rel w S [] es.toList[j].val (nth (cellsT u x[j].2) 0)) ∧ MapOk t u es ck x := by
  obtain ⟨es, ck, h1, h2, h3, h4⟩ := h
  have key : ∀ j (h : j < es.toList.length) (h' : j < x.length), Rel w S [] es.toList[j].key (nth (cellsT t x[j].1) 0) ∧ Rel w S [] es.toList[j].val (nth (cellsT u x[j].2) 0) := fun j hj hj' => by
    have := h3 j hj'
    have e0 : es[j]? = some es.toList[j] := by
      rw [← Array.getElem?_toList, List.getElem?_eq_getElem hj]
    have e1 : x.getD j (dfl t, dfl u) = x[j] := by simp [List.getD, hj']
    unfold meK meV mkAV mvAV at this
    rw [isView_one hu1, cond_false] at this
    rw [e0, e1] at this
    exact this
  exact ⟨es, ck, h1, by simpa using h2, fun j hj hj' => rel_key ht (key j hj hj').1, key, h4⟩
theorem mapTy_some {T : Tab} {t : Nat} {a : Ty} {q : (u : Ty) × El u} (h : mapTy T t = some (a, q)) : ∃ k e, (tyi T t).d = .map k e ∧ keyTD (tyi T k).d = some a ∧ rdE q.1 (tyi T e).z = some q.2 ∧ szT q.1 = 1 ∧ (tyi T e).sz = 1 ∧ aggTD (tyi T e).d = false := by
  unfold mapTy at h
  split at h
  · rename_i k e hd
    split at h
    · rename_i a' b' h1 h2
      split at h
      · rename_i z h3 h4 h5 h6
        cases h
        exact ⟨k, e, hd, h1, h3, Nat.eq_of_beq_eq_true h4, Nat.eq_of_beq_eq_true h5, h6⟩
      · cases h
    · cases h
  · cases h
theorem map_und (hT : TabOk P T) {t k e : Nat} (h : (tyi T t).d = .map k e) : P.underlying t = some (.map k e) := by
  obtain ⟨_, _, _, g⟩ := hT.of_d h (by simp)
  have hd := g.d; rw [h] at hd
  rw [g.und, td_map hd.symm]
theorem castM_some {t' u' t u : Ty} {l : List (El t' × El u')} {l' : List (El t × El u)} (h : castM t' u' t u l = some l') : ∃ (e1 : t' = t) (e2 : u' = u), ∀ (B : (a b : Ty) → List (El a × El b) → Prop), B t' u' l → B t u l' := by
  obtain ⟨e, rfl⟩ := castL_some h
  cases e
  exact ⟨rfl, rfl, fun B h => h⟩

theorem aMakeMap_ok (hT : TabOk P T) (hM : MRel base w S m M) (t : TypeId) (hk : AllT (aMakeMap T M t).ks) : Res base w S m P (aMakeMap T M t) (Instr.makeMap t none) := by
  unfold aMakeMap at hk ⊢
  split at hk
  case h_2 => exact (not_bad hk).elim
  rename_i a b z hm
  obtain ⟨k, e, h1, h2, h3, h4, h5, _⟩ := mapTy_some hm
  let l : Loc := ⟨w.heap.size, 0, 0, 0, false, []⟩
  have hsz : szT a = 1 := by rcases keyTD_some h2 with ⟨q, _, rfl⟩ | ⟨_, rfl⟩ | ⟨_, rfl⟩ <;> rfl
  obtain ⟨ht, hm⟩ := hM.alloc (.map #[] 0) l (.map a b []) rfl ⟨#[], 0, Go.heap_alloc_new w _, rfl, fun i hi => absurd hi (Nat.not_lt_zero i), ⟨fun e h => absurd h List.not_mem_nil, List.nodup_nil, .nil, hsz, (fun _ => h4), Nat.zero_le _, fun _ => ⟨fun i e h => by simp at h, rfl⟩⟩⟩
  exact ⟨_, _, _, _, by simp [Instr.makeMap]; rfl, ht, hm, .mp _ _ l (by rw [← hM.len]; simp)⟩
theorem key_szT {d : TD} {a : Ty} (h : keyTD d = some a) : szT a = 1 := by rcases keyTD_some h with ⟨q, _, rfl⟩ | ⟨_, rfl⟩ | ⟨_, rfl⟩ <;> rfl
/-- A value that is read as plain data of one cell. -/
theorem rdE_one {t : Ty} {a : AV} {x : El t} (hs : szT t = 1) (h : rdE t [a] = some x) {w : World} {S : Nat → Prop} {m : Locs} {v : Value} (hv : Rel w S m v a) : Rel w S m v (nth (cellsT t x) 0) := by
  obtain ⟨_, h2⟩ := rdE_ok h
  exact h2 0 (by omega) _ _ _ _ hv
theorem zero_run (hT : TabOk P T) {e : Nat} {u : Ty} {z : El u} (h : rdE u (tyi T e).z = some z) (h1 : szT u = 1) (h2 : (tyi T e).sz = 1) (h3 : aggTD (tyi T e).d = false) (w : World) (S : Nat → Prop) (m : Locs) : ∃ v, (zeroValue e).run P w = .ok v w ∧ Rel w S m v (nth (cellsT u z) 0) := by
  obtain ⟨d, i, v, f⟩ := hT.of_sz (t := e) (by omega)
  refine ⟨v, by simp [zeroValue, typeInfo, f.info, f.zero], ?_⟩
  have hz := f.zk
  have hc : v.cells = #[v] := by
    unfold zok at hz
    rw [h3] at hz
    cases v <;> first | rfl | cases hz
  have hr := rel_ofVals (w := w) (S := S) (m := m) v.cells 0 (by rw [hc]; exact Nat.zero_lt_one)
  rw [← f.z] at hr
  have e0 : v.cells.getD 0 Go.undef = v := by rw [hc]; rfl
  rw [e0] at hr
  obtain ⟨_, h5⟩ := rdE_ok h
  exact h5 0 (by omega) _ _ _ _ hr

theorem mszT_pos : ∀ t : Ty, 1 ≤ szT t
  | .int _ => Nat.le_refl _
  | .bool => Nat.le_refl _
  | .str => Nat.le_refl _
  | .list _ => Nat.le_refl _
  | .smap => Nat.le_refl _
  | .pair a b => Nat.le_trans (mszT_pos a) (Nat.le_add_right _ _)
/-- Plain data in a cell stands whatever memory of one's own there is. -/
theorem rdE_plain {t : Ty} {a : AV} {x : El t} (hs : szT t = 1) (h : rdE t [a] = some x) {w : World} {S : Nat → Prop} {m : Locs} {v : Value} (hv : Rel w S m v a) : Rel w S [] v (nth (cellsT t x) 0) := by
  have h1 := rdE_one hs h hv
  cases t with
  | int k => exact (h1.plainV rfl _)
  | bool => exact (h1.plainV rfl _)
  | str => exact (h1.plainV rfl _)
  | list e => exact (h1.plainV rfl _)
  | smap => exact (h1.plainV rfl _)
  | pair a b =>
    have h1 := mszT_pos a
    have h2 := mszT_pos b
    have h3 : szT a + szT b = 1 := hs
    omega

/-- What a lookup comes to. -/
theorem look_run {t k e : TypeId} (hu : P.underlying t = some (.map k e)) {a u : Ty} (hkey : isKey a = true) (hku : P.underlying k = some (keyD a)) (ok : Bool) (kk : El a) {z : Value} (hz : (zeroValue e).run P w = .ok z w) {l : Loc} {x : List (El a × El u)} {es : Array MapEntry} {ck : Nat}
    (h1 : w.heap[l.g]? = some (.map es ck)) (h2 : es.toList.length = x.length) (h3 : ∀ j (h : j < es.toList.length) (h' : j < x.length), es.toList[j].key = keyV a x[j].1) :
    (Instr.lookup t (.map (some l.g)) (keyV a kk) ok).run P w = .ok (match (idxM a u x kk).bind fun j => es.toList[j]? with | some e => if ok then .tuple #[e.val, .bool true] else e.val | none => if ok then .tuple #[z, .bool false] else z) w := by
  have hf := find_now (u := u) hkey kk es.toList x 0 h2 h3
  have hg : (getObj l.g).run P w = .ok (.map es ck) w := by simp [getObj, Sem.run, h1]
  have hfk : (Instr.findKey k (keyV a kk) es.toList).run P w = .ok ((idxM a u x kk).bind fun j => (es.toList[j]?).map fun e => (0 + j, e.val)) w := by
    simp only [Instr.findKey, Sem.run_bind, run_underlying hku, Result.andThen_ok]
    rw [hf]; rfl
  unfold Instr.lookup
  simp only [Sem.run_bind, run_underlying hu, Result.andThen_ok, hg, Sem.run_pure, check_key hkey hku, hfk]
  cases hq : idxM a u x kk with
  | none => cases ok <;> simp [hz]
  | some j =>
    obtain ⟨hj, _, _⟩ := idxM_lt hq
    have hj' : j < es.toList.length := by omega
    simp only [Option.bind_some, List.getElem?_eq_getElem hj', Option.map_some]
    cases ok <;> rfl
theorem aLookup_ok (hT : TabOk P T) (hM : MRel base w S m M) (t : TypeId) (ok : Bool) {vx vk : Value} {x k : AV} (hx : Rel w S m vx x) (hkv : Rel w S m vk k) (hk : AllT (aLookup T M t x k ok).ks) :
    Res base w S m P (aLookup T M t x k ok) (Instr.lookup t vx vk ok) := by
  unfold aLookup at hk ⊢
  split at hk
  case h_2 => exact (not_bad hk).elim
  rename_i a u z hm
  obtain ⟨kt, e, h1, h2, h3, h4, h5, h6⟩ := mapTy_some hm
  have hu := map_und hT h1
  have hku := key_und hT h2
  have hkey := keyTD_is h2
  obtain ⟨zv, hz, hzr⟩ := zero_run hT h3 h4 h5 h6 w S m
  split at hk
  case h_2 => exact (not_bad hk).elim
  rename_i kk hkk
  have hvk := rel_key hkey (rdE_one (key_szT h2) hkk hkv)
  subst hvk
  have fin : ∀ {v : Value} {y : El u} {b : Bool} {r : Option (El u)}, r.getD z = y → r.isSome = b → Rel w S m v (nth (cellsT u y) 0) → (Instr.lookup t vx (keyV a kk) ok).run P w = .ok (if ok then .tuple #[v, .bool b] else v) w →
      Res base w S m P (lookR M ok u r z) (Instr.lookup t vx (keyV a kk) ok) := by
    intro v y b r e1 e2 hr hrun
    unfold lookR
    rw [e1, e2]
    cases ok with
    | true => exact .val hM hrun (.tup _ _ _ rfl fun i hi => by
        have hi : i < 2 := hi
        match i, hi with
        | 0, _ => exact hr
        | 1, _ => exact .bool _ _)
    | false => exact .val hM hrun hr
  split at hk
  · cases hx
    refine fin (r := none) rfl rfl hzr ?_
    have hn : (Instr.findKey kt (keyV a kk) []).run P w = .ok none w := by
      simp only [Instr.findKey, Sem.run_bind, run_underlying hku, Result.andThen_ok]; rfl
    unfold Instr.lookup
    simp only [Sem.run_bind, run_underlying hu, Result.andThen_ok, Sem.run_pure, check_key hkey hku]
    rw [hn]
    cases ok <;> simp [hz]
  · rename_i a' u' l'
    split at hk
    case h_2 => exact (not_bad hk).elim
    rename_i l'' hc
    obtain ⟨_, _, hcast⟩ := castM_some hc
    have hx := hcast (fun a b x => Rel w S m vx (.mv a b x)) hx
    cases hx with
    | mv0 => cases h4
    | mv _ g es ck _ _ _ hs hg hl hh1 hh2 hok =>
      obtain ⟨q2, q3, q4⟩ := map_ents hl (fun i hi => ⟨hh1 i hi, hh2 i hi⟩) hkey h4
      have hrun := look_run (u := u) hu hkey hku ok kk hz (l := ⟨g, 0, 0, 0, false, []⟩) hg q2 q3
      cases hq : idxM a u l'' kk with
      | none =>
        rw [hq] at hrun
        refine fin (r := getM a u l'' kk) (by rw [(idxM_none hq).1]; rfl) (by rw [(idxM_none hq).1]) hzr ?_
        rw [hrun]; rfl
      | some j =>
        obtain ⟨hj, _, hg⟩ := idxM_lt hq
        have hj' : j < es.toList.length := by omega
        rw [hq] at hrun
        refine fin (r := getM a u l'' kk) (by rw [hg]; rfl) (by rw [hg]) (q4 j hj' hj).2.weak ?_
        rw [hrun]
        simp only [Option.bind_some, List.getElem?_eq_getElem hj']
        rfl
  · rename_i i
    split at hk
    case h_2 => exact (not_bad hk).elim
    rename_i a' u' l' hb
    split at hk
    case h_2 => exact (not_bad hk).elim
    rename_i l'' hc
    cases hx with
    | mp0 _ _ h => exact (by have hB := hM.bk _ _ h; rw [hb] at hB; exact hB : False).elim
    | mp _ _ l h =>
      have hB := bk_of hM h
      rw [hb] at hB
      obtain ⟨_, _, hcast⟩ := castM_some hc
      have hB := hcast (fun a b x => BRel w S m (some l) (.map a b x)) hB
      obtain ⟨es, ck, q1, q2, q3, q4, q5⟩ := map_blk hB hkey h4
      have hrun := look_run (u := u) hu hkey hku ok kk hz q1 q2 q3
      cases hq : idxM a u l'' kk with
      | none =>
        rw [hq] at hrun
        refine fin (r := getM a u l'' kk) (by rw [(idxM_none hq).1]; rfl) (by rw [(idxM_none hq).1]) hzr ?_
        rw [hrun]; rfl
      | some j =>
        obtain ⟨hj, _, hg⟩ := idxM_lt hq
        have hj' : j < es.toList.length := by omega
        rw [hq] at hrun
        refine fin (r := getM a u l'' kk) (by rw [hg]; rfl) (by rw [hg]) (q4 j hj' hj).2.weak ?_
        rw [hrun]
        simp only [Option.bind_some, List.getElem?_eq_getElem hj']
        rfl
  · exact (not_bad hk).elim

/-- A map's block, from lists. -/
theorem mapblk_of {l : Loc} {t u : Ty} {x : List (El t × El u)} {es : Array MapEntry} {ck : Nat} (h1 : w.heap[l.g]? = some (.map es ck)) (h2 : es.toList.length = x.length)
    (h3 : ∀ j (h : j < es.toList.length) (h' : j < x.length), Rel w S [] es.toList[j].key (nth (cellsT t x[j].1) 0) ∧ Rel w S [] es.toList[j].val (nth (cellsT u x[j].2) 0)) (h4 : MapOk t u es ck x) (hu1 : szT u = 1 := by assumption) : BRel w S m (some l) (.map t u x) := by
  refine ⟨es, ck, h1, by simpa using h2, fun j hj => ?_, h4⟩
  have hj' : j < es.toList.length := by omega
  have := h3 j hj' hj
  have e0 : es[j]? = some es.toList[j] := by
    rw [← Array.getElem?_toList, List.getElem?_eq_getElem hj']
  have e1 : x.getD j (dfl t, dfl u) = x[j] := by simp [List.getD, hj]
  unfold meK meV mkAV mvAV
  rw [isView_one hu1, cond_false]
  rw [e0, e1]
  exact this
theorem same_bits {t : Ty} (ht : isKey t = true) (k : El t) (n : Nat) : Instr.sameBits n (keyV t k) (keyV t k) = true := by
  cases t with
  | int q => cases n <;> simp [Instr.sameBits, keyV]
  | bool => cases n <;> simp [Instr.sameBits, keyV]
  | str => cases n <;> simp [Instr.sameBits, keyV, beq_toListBytes]
  | _ => cases ht
theorem key_stays {t : Ty} (ht : isKey t = true) (k : El t) (w : World) : (Instr.keyThatStays (keyV t k) (keyV t k)).run P w = .ok (keyV t k) w := by
  unfold Instr.keyThatStays
  rw [if_pos (same_bits ht k 10000)]; rfl
def setMap (w : World) (g : Nat) (es : Array MapEntry) (ck : Nat) : World := { w with heap := w.heap.setIfInBounds g (.map es ck) }
theorem run_setMap {g : Nat} {es0 : Array MapEntry} {ck0 : Nat} (h : w.heap[g]? = some (.map es0 ck0)) (es : Array MapEntry) (ck : Nat) : (setObj g (.map es ck)).run P w = .ok () (setMap w g es ck) := by
  simp [setObj, Sem.run, h, setMap]
/-- The block of a map turns. -/
theorem map_turn (hM : MRel base w S m M) {b : Nat} {l : Loc} (h : m[b]? = some (some l)) {t u : Ty} {l0 : List (El t × El u)} (hb : ∃ (t0 u0 : Ty) (x0 : List (El t0 × El u0)), blk M b = .map t0 u0 x0) {x : List (El t × El u)} {es : Array MapEntry} {ck : Nat} (h2 : es.toList.length = x.length)
    (h3 : ∀ j (h : j < es.toList.length) (h' : j < x.length), Rel w S [] es.toList[j].key (nth (cellsT t x[j].1) 0) ∧ Rel w S [] es.toList[j].val (nth (cellsT u x[j].2) 0)) (h4 : MapOk t u es ck x) (hu1 : szT u = 1 := by assumption) :
    Trans base w S m (setMap w l.g es ck) S m none ∧ MRel base (setMap w l.g es ck) S m (setBlk M b (.map t u x)) := by
  have hl := hM.lt _ _ h
  have hst : ∀ b, b < w.heap.size → b ≠ l.g → (setMap w l.g es ck).heap[b]? = w.heap[b]? := fun b _ hne => by
    show (w.heap.setIfInBounds _ _)[b]? = _
    rw [Array.getElem?_setIfInBounds_ne (Ne.symm hne)]
  have hbel : Prot base.Z w (setMap w l.g es ck) := ⟨rfl, rfl, rfl, by show _ ≤ (w.heap.setIfInBounds _ _).size; simp, fun k hk => by
    show (w.heap.setIfInBounds _ _)[k]? = _
    rw [Array.getElem?_setIfInBounds_ne (fun e => hl.1 (by rw [e]; exact hk))]⟩
  have hS : ∀ b, S b → (setMap w l.g es ck).heap[b]? = w.heap[b]? := fun b hb => hst b (hM.sb b hb) fun e => hl.2.2 (e ▸ hb)
  obtain ⟨t0, u0, x0, hb⟩ := hb
  exact hM.turn b l h (.map t u x) (fun _ => rfl) hbel hst (mapblk_of (by
    show (w.heap.setIfInBounds _ _)[l.g]? = _
    rw [Array.getElem?_setIfInBounds_self_of_lt hl.2.1]) h2 (fun j hj hj' => ⟨(h3 j hj hj').1.mono (fun _ h => h) hS _ (fun _ _ h => h), (h3 j hj hj').2.mono (fun _ h => h) hS _ (fun _ _ h => h)⟩) h4 hu1)
theorem find_key (hku : P.underlying kt = some (keyD a)) (hkey : isKey a = true) (kk : El a) {x : List (El a × El u)} {es : Array MapEntry} (h2 : es.toList.length = x.length) (h3 : ∀ j (h : j < es.toList.length) (h' : j < x.length), es.toList[j].key = keyV a x[j].1) (w : World) :
    (Instr.findKey kt (keyV a kk) es.toList).run P w = .ok ((idxM a u x kk).bind fun j => (es.toList[j]?).map fun e => (0 + j, e.val)) w := by
  simp only [Instr.findKey, Sem.run_bind, run_underlying hku, Result.andThen_ok]
  rw [find_now (u := u) hkey kk es.toList x 0 h2 h3]; rfl
theorem modify_born (L : List MapEntry) (j : Nat) (f : MapEntry → MapEntry) (hf : ∀ e, (f e).born = e.born) : (L.modify j f).map (·.born) = L.map (·.born) := by
  induction L generalizing j with
  | nil => cases j <;> rfl
  | cons e L ih =>
    cases j with
    | zero => show (f e).born :: _ = e.born :: _; rw [hf]
    | succ j => show e.born :: (L.modify j f).map (·.born) = _; rw [ih]; rfl
theorem pairwise_put {t u : Ty} (ht : isKey t = true) {x : List (El t × El u)} (h : x.Pairwise fun a b => a.1 ≠ b.1) (k : El t) (v : El u) : (putM t u x k v).Pairwise fun a b => a.1 ≠ b.1 := by
  have mem : ∀ x : List (El t × El u), ∀ p ∈ putM t u x k v, p.1 = k ∨ p ∈ x := by
    intro x
    induction x with
    | nil => intro p hp; exact .inl (by rw [List.mem_singleton.1 hp])
    | cons q x ih =>
      intro p hp
      unfold putM at hp
      cases hb : eqK t k q.1 with
      | true =>
        rw [hb, cond_true] at hp
        rcases List.mem_cons.1 hp with rfl | hp
        · exact .inl rfl
        · exact .inr (List.mem_cons_of_mem _ hp)
      | false =>
        rw [hb, cond_false] at hp
        rcases List.mem_cons.1 hp with rfl | hp
        · exact .inr List.mem_cons_self
        · exact (ih p hp).imp_right (List.mem_cons_of_mem _)
  induction x with
  | nil => exact List.pairwise_singleton _ _
  | cons q x ih =>
    obtain ⟨h1, h2⟩ := List.pairwise_cons.1 h
    unfold putM
    cases hb : eqK t k q.1 with
    | true =>
      rw [cond_true]
      have e := (eqK_iff ht k q.1).1 hb
      exact List.pairwise_cons.2 ⟨fun p hp => by show k ≠ p.1; rw [e]; exact h1 p hp, h2⟩
    | false =>
      rw [cond_false]
      refine List.pairwise_cons.2 ⟨fun p hp => ?_, ih h2⟩
      rcases mem x p hp with e | hp
      · rw [e]; exact fun e' => by rw [(eqK_iff ht k q.1).2 e'.symm] at hb; cases hb
      · exact h1 p hp
theorem del_sub {t u : Ty} (x : List (El t × El u)) (k : El t) : (delM t u x k).Sublist x := by
  induction x with
  | nil => exact .slnil
  | cons q x ih =>
    unfold delM
    cases eqK t k q.1 with
    | true => exact List.sublist_cons_self _ _
    | false => exact ih.cons_cons _

theorem push_idx {es es' : Array MapEntry} {ck : Nat} {e0 : MapEntry} (h : (∀ (i : Nat) (e : MapEntry), es.toList[i]? = some e → e.born = i) ∧ ck = es.toList.length) (hto : es'.toList = es.toList ++ [{ e0 with born := ck }]) :
    (∀ (i : Nat) (e : MapEntry), es'.toList[i]? = some e → e.born = i) ∧ ck + 1 = es'.toList.length := by
  rw [hto]
  refine ⟨fun i e he => ?_, by rw [List.length_append, List.length_singleton, h.2]⟩
  by_cases hlt : i < es.toList.length
  · rw [List.getElem?_append_left hlt] at he; exact h.1 i e he
  · rw [List.getElem?_append_right (by omega)] at he
    have hi : i - es.toList.length = 0 := by
      have := (List.getElem?_eq_some_iff.1 he).1
      rw [List.length_singleton] at this; omega
    rw [hi] at he
    have he : some { e0 with born := ck } = some e := he
    cases he
    show ck = i
    have := h.2
    omega
theorem modify_idx {es es' : Array MapEntry} {ck j : Nat} {f : MapEntry → MapEntry} (h : (∀ (i : Nat) (e : MapEntry), es.toList[i]? = some e → e.born = i) ∧ ck = es.toList.length) (hto : es'.toList = es.toList.modify j f) (hf : ∀ e, (f e).born = e.born) :
    (∀ (i : Nat) (e : MapEntry), es'.toList[i]? = some e → e.born = i) ∧ ck = es'.toList.length := by
  rw [hto]
  refine ⟨fun i e he => ?_, by rw [List.length_modify]; exact h.2⟩
  rw [List.getElem?_modify] at he
  cases hq : es.toList[i]? with
  | none => rw [hq] at he; cases he
  | some e1 =>
    rw [hq] at he
    have h1 := h.1 i e1 hq
    have he : some (if j = i then f e1 else e1) = some e := he
    cases he
    split
    · rw [hf]; exact h1
    · exact h1
theorem posM_idx {t u : Ty} (x : List (El t × El u)) (k : El t) : match idxM t u x k with | some j => posM t u x k = j ∧ (getM t u x k).isSome = true | none => posM t u x k = x.length ∧ getM t u x k = none := by
  induction x with
  | nil => exact ⟨rfl, rfl⟩
  | cons p x ih =>
    unfold idxM posM getM
    cases hb : eqK t k p.1 with
    | true => exact ⟨rfl, rfl⟩
    | false =>
      simp only [cond_false]
      revert ih
      cases idxM t u x k with
      | none => exact fun h => ⟨by rw [h.1]; rfl, h.2⟩
      | some j => exact fun h => ⟨by rw [h.1], h.2⟩
theorem aMapUpdate_ok (hT : TabOk P T) (hM : MRel base w S m M) (t : TypeId) {vx vk vv : Value} {x k v : AV} (hx : Rel w S m vx x) (hkv : Rel w S m vk k) (hvv : Rel w S m vv v) (hk : AllT (aMapUpdate std T M t x k v).ks) :
    ResU base w S m P (aMapUpdate std T M t x k v) (Instr.mapUpdate t vx vk vv) := by
  unfold aMapUpdate at hk ⊢
  split at hk
  case h_2 => exact (not_bad hk).elim
  rename_i a u z hm
  obtain ⟨kt, e, h1, h2, h3, h4, h5, h6⟩ := mapTy_some hm
  have hu := map_und hT h1
  have hku := key_und hT h2
  have hkey := keyTD_is h2
  split at hk
  case h_2 => exact (not_bad hk).elim
  rename_i kk y hkk hy
  have hvk := rel_key hkey (rdE_one (key_szT h2) hkk hkv)
  have hkr := rdE_plain (key_szT h2) hkk hkv
  have hvr := rdE_plain h4 hy hvv
  subst hvk
  split at hk
  case h_2 => exact (not_bad hk).elim
  rename_i i
  split at hk
  case h_2 => exact (not_bad hk).elim
  rename_i a' u' l' hb
  split at hk
  case h_2 => exact (not_bad hk).elim
  rename_i l'' hc
  have hlen : (putM a u l'' kk y).length ≤ maxLen := by
    have hk : std.ble (putM a u l'' kk y).length 9223372036854775807 = true := hk
    simpa [std, maxLen] using hk
  cases hx with
  | mp0 _ _ h => exact (by have hB := hM.bk _ _ h; rw [hb] at hB; exact hB : False).elim
  | mp _ _ l h =>
    have hB := bk_of hM h
    rw [hb] at hB
    obtain ⟨_, _, hcast⟩ := castM_some hc
    have hB := hcast (fun a b x => BRel w S m (some l) (.map a b x)) hB
    obtain ⟨es, ck, q1, q2, q3, q4, q5⟩ := map_blk hB hkey h4
    have hg : (getObj l.g).run P w = .ok (.map es ck) w := by simp [getObj, Sem.run, q1]
    have hfk := find_key (u := u) hku hkey kk q2 q3 w
    cases hq : idxM a u l'' kk with
    | none =>
      obtain ⟨n1, n2, n3, n4⟩ := idxM_none hq
      rw [hq] at hfk
      have hfk : (Instr.findKey kt (keyV a kk) es.toList).run P w = .ok none w := hfk
      rw [n3 y] at hlen ⊢
      have hto : (es.push { key := keyV a kk, val := vv, born := ck }).toList = es.toList ++ [{ key := keyV a kk, val := vv, born := ck }] := Array.toList_push
      obtain ⟨ht, hm'⟩ := map_turn (t := a) (u := u) (x := l'' ++ [(kk, y)]) (es := es.push { key := keyV a kk, val := vv, born := ck }) (ck := ck + 1) (l0 := l'') hM h ⟨_, _, _, hb⟩ (by rw [hto]; simp [q2]) (fun j hj hj' => by
          rw [List.getElem_of_eq hto]
          by_cases hlt : j < es.toList.length
          · rw [List.getElem_append_left hlt, List.getElem_append_left (by omega)]; exact q4 j hlt (by omega)
          · have e1 : j = es.toList.length := by rw [hto] at hj; simp at hj; simp at hlt; simp; omega
            subst e1
            rw [List.getElem_append_right (Nat.le_refl _), List.getElem_append_right (by omega)]
            simp only [q2, Nat.sub_self, List.getElem_cons_zero]
            exact ⟨hkr, hvr⟩) ⟨fun e he => by
              rw [hto] at he
              rcases List.mem_append.1 he with he | he
              · have := q5.born e he; omega
              · rw [List.mem_singleton.1 he]; exact Nat.lt_succ_self _, by
              rw [hto, List.map_append, List.nodup_append]
              refine ⟨q5.once, (List.nodup_cons.2 ⟨List.not_mem_nil, List.nodup_nil⟩), fun b hb c hc => ?_⟩
              obtain ⟨e, he, rfl⟩ := List.mem_map.1 hb
              rw [List.mem_singleton.1 hc]
              have := q5.born e he
              exact Nat.ne_of_lt this, by rw [← n3 y]; exact pairwise_put hkey q5.keys kk y, key_szT h2, (fun _ => h4), hlen, fun ha => push_idx (e0 := { key := keyV a kk, val := vv, born := ck }) (q5.idx ha) hto⟩
      refine ⟨_, S, m, ?_, ht, hm', rfl⟩
      unfold Instr.mapUpdate
      simp only [Sem.run_bind, run_underlying hu, Result.andThen_ok, hg, check_key hkey hku, hfk]
      exact run_setMap q1 _ _
    | some j =>
      obtain ⟨hj, hje, _⟩ := idxM_lt hq
      have hj' : j < es.toList.length := by omega
      obtain ⟨p1, _⟩ := idxM_put y hq
      have hkeq : kk = l''[j].1 := (eqK_iff hkey _ _).1 hje
      rw [hq] at hfk
      have hfk : (Instr.findKey kt (keyV a kk) es.toList).run P w = .ok (some (j, es.toList[j].val)) w := by
        rw [hfk]; simp only [Option.bind_some, List.getElem?_eq_getElem hj', Option.map_some, Nat.zero_add]
      rw [p1] at hlen ⊢
      have hto : (es.modify j fun e => { e with key := keyV a kk, val := vv }).toList = es.toList.modify j fun e => { e with key := keyV a kk, val := vv } := Array.toList_modify
      obtain ⟨ht, hm'⟩ := map_turn (t := a) (u := u) (x := l''.set j (kk, y)) (es := es.modify j fun e => { e with key := keyV a kk, val := vv }) (ck := ck) (l0 := l'') hM h ⟨_, _, _, hb⟩ (by rw [hto]; simp [q2]) (fun i hi hi' => by
          rw [List.getElem_of_eq hto, List.getElem_modify, List.getElem_set]
          rw [hto, List.length_modify] at hi
          rw [List.length_set] at hi'
          by_cases e : j = i
          · rw [if_pos e, if_pos e]; exact ⟨hkr, hvr⟩
          · rw [if_neg e, if_neg e]; exact q4 i hi hi') ⟨fun e he => by
              rw [hto] at he
              have hmem : e.born ∈ (es.toList.modify j fun e => { e with key := keyV a kk, val := vv }).map (·.born) := List.mem_map_of_mem he
              rw [modify_born _ _ (fun e => { e with key := keyV a kk, val := vv }) (fun _ => rfl)] at hmem
              obtain ⟨e0, he0, e1⟩ := List.mem_map.1 hmem
              rw [← e1]; exact q5.born e0 he0, by
              rw [hto, modify_born _ _ (fun e => { e with key := keyV a kk, val := vv }) (fun _ => rfl)]; exact q5.once, by rw [← p1]; exact pairwise_put hkey q5.keys kk y, key_szT h2, (fun _ => h4), hlen, fun ha => modify_idx (q5.idx ha) hto fun _ => rfl⟩
      refine ⟨_, S, m, ?_, ht, hm', rfl⟩
      have hold : ((es[j]?).map (·.key)).getD (keyV a kk) = keyV a kk := by
        rw [← Array.getElem?_toList, List.getElem?_eq_getElem hj']
        show es.toList[j].key = _
        rw [q3 j hj' hj, hkeq]
      unfold Instr.mapUpdate
      simp only [Sem.run_bind, run_underlying hu, Result.andThen_ok, hg, check_key hkey hku, hfk, hold, key_stays hkey]
      exact run_setMap q1 _ _
/-- Nobody writes a block that nobody holds. -/
theorem MRel.grow (h : MRel base w S m M) {S' : Nat → Prop} (hS : ∀ g, S g → S' g) (hb : ∀ g, S' g → g < w.heap.size) (hno : ∀ (i : Nat) (l : Loc), m[i]? = some (some l) → ¬ S' l.g) (hnx : ∀ (i : Nat) (l : Loc), m[i]? = some (some l) → ∀ g ∈ l.ext, S' g → S g) : MRel base w S' m M := by
  have hrel : ∀ {n : Locs} {v x}, Rel w S n v x → Rel w S' n v x := fun hr => hr.mono hS (fun _ _ => rfl) _ (fun _ _ h => h)
  refine ⟨h.len, hb, fun i l hi => ?_, fun i l hi => ⟨(h.lt i l hi).1, (h.lt i l hi).2.1, hno i l hi⟩, h.inj, h.base_le, h.gok, h.pin, fun i l hi => (h.ext i l hi).to (fun _ _ h => h) (Nat.le_refl _) (fun b hb h => .inl (hnx i l hi b hb h)) fun j l' hj => .inl ⟨l', hj, rfl, .inl rfl⟩⟩
  have hB := h.bk i l hi
  cases l with
  | none => revert hB; cases blk M i <;> exact fun h => h
  | some l =>
    revert hB
    cases blk M i with
    | dead => exact fun h => h
    | fam x y => exact fun hf => hf.keep hS (fun _ _ => rfl) rfl fun _ _ => rfl
    | cells e cs => rintro ⟨vs, h1, h2, h3, h4⟩; exact ⟨vs, h1, h2, h3, fun i hi => hrel (h4 i hi)⟩
    | rows e sz n c => rintro ⟨h0, h1, h2, h3, vs, h4, h5, h6⟩; exact ⟨h0, h1, h2, h3, vs, h4, h5, fun i hi j hj => ⟨(h6 i hi j hj).1, hrel (h6 i hi j hj).2⟩⟩
    | trows e ty x => rintro ⟨h0, h1, h2, h3, vs, h4, h5, h6⟩; exact ⟨h0, h1, h2, h3, vs, h4, h5, fun i hi j hj => ⟨(h6 i hi j hj).1, hrel (h6 i hi j hj).2⟩⟩
    | fro e ty x => rintro ⟨h0, h1, h2, h3, vs, fz, h4, h5, h6⟩; exact ⟨h0, h1, h2, h3, vs, fz, h4, h5, fun i hi j hj => ⟨(h6 i hi j hj).1, hrel (h6 i hi j hj).2⟩⟩
    | arr e ty x => rintro ⟨vs, h4, h5, h6⟩; exact ⟨vs, h4, h5, fun i hi => ⟨(h6 i hi).1, hrel (h6 i hi).2⟩⟩
    | map ty uy x => rintro ⟨es, ck, h4, h5, h6, h7⟩; exact ⟨es, ck, h4, h5, fun i hi => ⟨hrel (h6 i hi).1, hrel (h6 i hi).2⟩, h7⟩
    | siter s pos => exact fun h => h
/-- Rows of one's own are given away. -/
theorem MRel.give (hM : MRel base w S m M) {b e : Nat} {u : Ty} {l : List (El u)} (hb : blk M b = .trows e u l) {v : Value} (hv : Rel w S m v (.ownT b)) :
    ∃ S' : Nat → Prop, Trans base w S m w S' (m.set b none) (some b) ∧ MRel base w S' (m.set b none) (invalMs b (setBlk M b .dead)) ∧ Rel w S' (m.set b none) v (.tsl u l false) := by
  have hblt : b < lenM M := blk_lt _ _ (by rw [hb]; intro e; cases e)
  obtain ⟨ol, hol⟩ : ∃ ol, m[b]? = some ol := ⟨m[b]'(by rw [hM.len]; exact hblt), List.getElem?_eq_getElem _⟩
  have hBr := hM.bk b ol hol
  rw [hb] at hBr
  obtain ⟨ht, hm⟩ := hM.move b ol hol none .dead (by rw [hb]; rfl) (Prot.refl _ _) (fun _ _ _ => rfl) (fun l2 e => by cases e) trivial
  let S' : Nat → Prop := fun g => S g ∨ ∃ l, ol = some l ∧ g = l.g
  have hS : ∀ g, S g → S' g := fun _ h => .inl h
  refine ⟨S', ⟨ht.below, fun _ h => .inl h, fun g hg => hg.elim .inl (fun ⟨l, e, h⟩ => .inr (h ▸ (hM.lt b l (e ▸ hol)).1)), ht.st, ht.lm⟩,
    hm.grow hS (fun g hg => hg.elim (hM.sb g) fun ⟨l, e, h⟩ => h ▸ (hM.lt b l (e ▸ hol)).2.1) (fun i l hi hs => hs.elim (hm.lt i l hi).2.2 fun ⟨l1, e, h⟩ => ?_) (fun i l hi g hg hs => hs.elim id fun ⟨l1, e, h⟩ => ?_), ?_⟩
  rotate_left
  · subst e
    by_cases hne : i = b
    · subst hne; rw [List.getElem?_set_self (by rw [hM.len]; exact hblt)] at hi; cases hi
    · rw [List.getElem?_set_ne (Ne.symm hne)] at hi
      exact absurd h.symm ((hM.ext i l hi).far g hg b l1 hol).1
  rotate_right
  · subst e
    by_cases hne : i = b
    · subst hne; rw [List.getElem?_set_self (by rw [hM.len]; exact hblt)] at hi; cases hi
    · rw [List.getElem?_set_ne (Ne.symm hne)] at hi
      exact hne (hM.inj i b l l1 hi hol h)
  · cases hv with
    | ownT _ i l' h hc =>
      rw [hol] at h; injection h with h; subst h
      obtain ⟨q1, q2, q3, q4, vs, q5, q6, q7⟩ := hBr
      refine Le.tsl id rfl q2 (fun _ _ _ _ => Le.refl _) _ _ _ _ ?_
      refine .slice _ _ _ _ _ _ _ _ (fun i j => vs.getD (i * szT u + j) Go.undef) (.inr ⟨_, rfl, rfl⟩) (by omega) hc.2 (fun h => by simp at h) (fun i hi j hj => ⟨?_, (q7 i (by omega) j hj).1⟩) (fun i hi j hj => (q7 i (by omega) j hj).2.mono hS (fun _ _ => rfl) _ (fun _ _ h => h))
      rw [Nat.zero_add]
      refine blk_cell q5 ?_
      have := eref_lt (off := j) (k := 1) (show i < l'.n by omega) (show j + 1 ≤ szT u by omega)
      have h8 : l'.n * szT u ≤ l'.cap * szT u := Nat.mul_le_mul_right _ hc.1
      omega
    | ownT0 _ aa i h =>
      rw [hol] at h; injection h with h; subst h
      have hB : l.length = 0 := hBr
      exact Le.tsl id rfl hB.symm (fun _ _ _ _ => Le.refl _) _ _ _ _ (.slice0 _ _ _ _ _ _ (Nat.zero_le _) (fun h => by simp at h))
theorem aMapUpd_ok (hT : TabOk P T) (hM : MRel base w S m M) (t : TypeId) {vx vk vv : Value} {x k v : AV} (hx : Rel w S m vx x) (hkv : Rel w S m vk k) (hvv : Rel w S m vv v) (hk : AllT (aMapUpd std T M t x k v).ks) :
    ResU base w S m P (aMapUpd std T M t x k v) (Instr.mapUpdate t vx vk vv) := by
  unfold aMapUpd at hk ⊢
  split at hk
  · rename_i b
    split at hk
    case h_2 => exact (not_bad hk).elim
    rename_i e u l hb
    obtain ⟨S', ht, hm, hv⟩ := hM.give hb hvv
    obtain ⟨w2, S2, m2, r1, r2, r3, r4⟩ := aMapUpdate_ok hT hm t (ht.rel hx) (ht.rel hkv) hv (by
      have : AllT (givenR b (aMapUpdate std T (invalMs b (setBlk M b .dead)) t (inval b x) (inval b k) (.tsl u l false))).ks := hk
      exact this)
    have e0 : (aMapUpdate std T (invalMs b (setBlk M b .dead)) t (inval b x) (inval b k) (.tsl u l false)).inv = none := by
      unfold aMapUpdate bad
      repeat' split
      all_goals rfl
    have r2 : Trans base w S' (m.set b none) w2 S2 m2 none := e0 ▸ r2
    exact ⟨w2, S2, m2, r1, ⟨⟨r2.below.os, r2.below.tape, r2.below.output, r2.below.size, r2.below.block⟩, fun g hg => r2.sub g (ht.sub g hg), fun g hg => (r2.up g hg).elim (ht.up g) .inr, fun g hg => r2.st g (ht.sub g hg), fun i l hi hl => by
      obtain ⟨l1, h1, h2⟩ := ht.lm i l hi hl
      obtain ⟨l2, h3, h4⟩ := r2.lm i l1 (fun e => by cases e) h1
      exact ⟨l2, h3, h2.trans h4⟩⟩, r3, r4⟩
  · exact aMapUpdate_ok hT hM t hx hkv hvv hk
theorem eraseIdx_getElem {α : Type} (L : List α) (j i : Nat) (h : i < (L.eraseIdx j).length) (hj : j < L.length) : ∃ (i' : Nat) (h' : i' < L.length), (L.eraseIdx j)[i] = L[i'] ∧ i' = if i < j then i else i + 1 := by
  have hl : (L.eraseIdx j).length = L.length - 1 := List.length_eraseIdx_of_lt hj
  by_cases hlt : i < j
  · exact ⟨i, by omega, by rw [List.getElem_eraseIdx_of_lt h hlt], by rw [if_pos hlt]⟩
  · exact ⟨i + 1, by omega, by rw [List.getElem_eraseIdx_of_ge h (by omega)], by rw [if_neg hlt]⟩
theorem aDelete_ok (hT : TabOk P T) (hM : MRel base w S m M) (t kt0 ty : TypeId) {vx vk : Value} {x k : AV} (hx : Rel w S m vx x) (hkv : Rel w S m vk k) (hk : AllT (aDelete T M t x k).ks) :
    Res base w S m P (aDelete T M t x k) (Builtin.delete_ #[t, kt0] ty #[vx, vk]) := by
  unfold aDelete at hk ⊢
  split at hk
  case h_2 => exact (not_bad hk).elim
  rename_i a u z hm
  obtain ⟨kt, e, h1, h2, h3, h4, h5, h6⟩ := mapTy_some hm
  have hu := map_und hT h1
  have hku := key_und hT h2
  have hkey := keyTD_is h2
  split at hk
  case h_2 => exact (not_bad hk).elim
  rename_i kk hkk
  have hvk := rel_key hkey (rdE_one (key_szT h2) hkk hkv)
  subst hvk
  have htup : ∀ {w' : World}, Rel w' S m (.tuple #[]) (.tup []) := .tup _ _ _ rfl fun i hi => absurd hi (Nat.not_lt_zero i)
  split at hk
  · cases hx
    refine .val hM (v := .tuple #[]) ?_ htup
    have hck := check_key hkey hku true kk w
    unfold Builtin.delete_
    simp [run_underlying hu, hck]
  · rename_i i
    split at hk
    case h_2 => exact (not_bad hk).elim
    rename_i a' u' l' hb
    split at hk
    case h_2 => exact (not_bad hk).elim
    rename_i l'' hc hint
    cases hx with
    | mp0 _ _ h => exact (by have hB := hM.bk _ _ h; rw [hb] at hB; exact hB : False).elim
    | mp _ _ l h =>
      have hB := bk_of hM h
      rw [hb] at hB
      obtain ⟨_, _, hcast⟩ := castM_some hc
      have hB := hcast (fun a b x => BRel w S m (some l) (.map a b x)) hB
      obtain ⟨es, ck, q1, q2, q3, q4, q5⟩ := map_blk hB hkey h4
      have hg : (getObj l.g).run P w = .ok (.map es ck) w := by simp [getObj, Sem.run, q1]
      have hfk := find_key (u := u) hku hkey kk q2 q3 w
      have hck := fun b => check_key hkey hku b kk w
      cases hq : idxM a u l'' kk with
      | none =>
        obtain ⟨n1, n2, n3, n4⟩ := idxM_none hq
        rw [hq] at hfk
        have hfk : (Instr.findKey kt (keyV a kk) es.toList).run P w = .ok none w := hfk
        rw [n4]
        obtain ⟨ht, hm'⟩ := map_turn (t := a) (u := u) (x := l'') (es := es) (ck := ck) (l0 := l'') hM h ⟨_, _, _, hb⟩ q2 q4 q5
        refine ⟨.tuple #[], _, S, m, ?_, ht, hm', htup⟩
        unfold Builtin.delete_
        simp [run_underlying hu, hck, hg, hfk, run_setMap q1]
      | some j =>
        obtain ⟨hj, hje, _⟩ := idxM_lt hq
        have hj' : j < es.toList.length := by omega
        obtain ⟨_, p2⟩ := idxM_put (dfl u) hq
        rw [hq] at hfk
        have hfk : (Instr.findKey kt (keyV a kk) es.toList).run P w = .ok (some (j, es.toList[j].val)) w := by
          rw [hfk]; simp only [Option.bind_some, List.getElem?_eq_getElem hj', Option.map_some, Nat.zero_add]
        have hsub := del_sub l'' kk
        rw [p2] at hsub ⊢
        have hto : (es.eraseIdxIfInBounds j).toList = es.toList.eraseIdx j := Array.toList_eraseIdxIfInBounds
        have hl1 : (es.toList.eraseIdx j).length = es.toList.length - 1 := List.length_eraseIdx_of_lt hj'
        have hl2 : (l''.eraseIdx j).length = l''.length - 1 := List.length_eraseIdx_of_lt hj
        obtain ⟨ht, hm'⟩ := map_turn (t := a) (u := u) (x := l''.eraseIdx j) (es := es.eraseIdxIfInBounds j) (ck := ck) (l0 := l'') hM h ⟨_, _, _, hb⟩ (by rw [hto, hl1, hl2, q2]) (fun i hi hi' => by
            rw [List.getElem_of_eq hto]
            rw [hto] at hi
            obtain ⟨i1, g1, e1, e2⟩ := eraseIdx_getElem es.toList j i hi hj'
            obtain ⟨i2, g2, e3, e4⟩ := eraseIdx_getElem l'' j i hi' hj
            have e5 : i1 = i2 := by rw [e2, e4]
            subst e5
            rw [e1, e3]
            exact q4 i1 g1 g2) ⟨fun e he => by
              rw [hto] at he
              exact q5.born e ((List.eraseIdx_sublist _ _).mem he), by
              rw [hto]
              exact ((List.eraseIdx_sublist es.toList j).map _).nodup q5.once, q5.keys.sublist hsub, key_szT h2, (fun _ => h4), Nat.le_trans hsub.length_le q5.few, fun ha => by rw [hint] at ha; cases ha⟩
        refine ⟨.tuple #[], _, S, m, ?_, ht, hm', htup⟩
        unfold Builtin.delete_
        simp [run_underlying hu, hck, hg, hfk, run_setMap q1]
  · exact (not_bad hk).elim
theorem aMapEntry_ok (hT : TabOk P T) (hM : MRel base w S m M) (t : TypeId) {vx vk : Value} {x k : AV} (hx : Rel w S m vx x) (hkv : Rel w S m vk k) (hk : AllT (aMapEntry std T M t x k).ks) :
    Res base w S m P (aMapEntry std T M t x k) (Instr.mapEntry t vx vk) := by
  unfold aMapEntry at hk ⊢
  split at hk
  case h_2 => exact (not_bad hk).elim
  rename_i a u z hm
  obtain ⟨kt, e, h1, h2, h3, h4, h5, h6⟩ := mapTy_some hm
  have hu := map_und hT h1
  have hku := key_und hT h2
  have hkey := keyTD_is h2
  split at hk
  case h_2 => exact (not_bad hk).elim
  rename_i kk hkk hint
  have hvk := rel_key hkey (rdE_one (key_szT h2) hkk hkv)
  have hkr := rdE_plain (key_szT h2) hkk hkv
  subst hvk
  split at hk
  case h_2 => exact (not_bad hk).elim
  rename_i i
  split at hk
  case h_2 => exact (not_bad hk).elim
  rename_i a' u' l' hb
  split at hk
  case h_2 => exact (not_bad hk).elim
  rename_i l'' hc
  have hlen : (entM a u l'' kk z).length ≤ maxLen := by
    have hk : std.ble (entM a u l'' kk z).length 9223372036854775807 = true := hk
    simpa [std, maxLen] using hk
  obtain ⟨zv, hz1, hz2⟩ := zero_run hT h3 h4 h5 h6 w S []
  cases hx with
  | mp0 _ _ h => exact (by have hB := hM.bk _ _ h; rw [hb] at hB; exact hB : False).elim
  | mp _ _ l h =>
    have hB := bk_of hM h
    rw [hb] at hB
    obtain ⟨_, _, hcast⟩ := castM_some hc
    have hB := hcast (fun a b x => BRel w S m (some l) (.map a b x)) hB
    obtain ⟨es, ck, q1, q2, q3, q4, q5⟩ := map_blk hB hkey h4
    have hg : (getObj l.g).run P w = .ok (.map es ck) w := by simp [getObj, Sem.run, q1]
    have hfk := find_key (u := u) hku hkey kk q2 q3 w
    obtain ⟨i1, i2⟩ := q5.idx hint
    have hpos := posM_idx (t := a) (u := u) l'' kk
    have hwf : ∀ n : Nat, n < maxLen → (Lit.int .i64 (n : Int)).wf = true := fun n hn => (wf_iff _ _).2 (by show (-9223372036854775808 : Int) ≤ _ ∧ _ ≤ (9223372036854775807 : Int); unfold maxLen at hn; omega)
    cases hq : idxM a u l'' kk with
    | none =>
      obtain ⟨n1, n2, n3, n4⟩ := idxM_none hq
      rw [hq] at hfk hpos
      have hfk : (Instr.findKey kt (keyV a kk) es.toList).run P w = .ok none w := hfk
      have he : entM a u l'' kk z = l'' ++ [(kk, z)] := by unfold entM; rw [n1]
      rw [he] at hlen ⊢
      rw [hpos.1, n1]
      have hto : (es.push { key := keyV a kk, val := zv, born := ck }).toList = es.toList ++ [{ key := keyV a kk, val := zv, born := ck }] := Array.toList_push
      obtain ⟨ht, hm'⟩ := map_turn (t := a) (u := u) (x := l'' ++ [(kk, z)]) (es := es.push { key := keyV a kk, val := zv, born := ck }) (ck := ck + 1) (l0 := l'') hM h ⟨_, _, _, hb⟩ (by rw [hto]; simp [q2]) (fun j hj hj' => by
          rw [List.getElem_of_eq hto]
          by_cases hlt : j < es.toList.length
          · rw [List.getElem_append_left hlt, List.getElem_append_left (by omega)]; exact q4 j hlt (by omega)
          · have e1 : j = es.toList.length := by rw [hto] at hj; simp at hj; simp at hlt; simp; omega
            subst e1
            rw [List.getElem_append_right (Nat.le_refl _), List.getElem_append_right (by omega)]
            simp only [q2, Nat.sub_self, List.getElem_cons_zero]
            exact ⟨hkr, hz2⟩) ⟨fun e he => by
              rw [hto] at he
              rcases List.mem_append.1 he with he | he
              · have := q5.born e he; omega
              · rw [List.mem_singleton.1 he]; exact Nat.lt_succ_self _, by
              rw [hto, List.map_append, List.nodup_append]
              refine ⟨q5.once, (List.nodup_cons.2 ⟨List.not_mem_nil, List.nodup_nil⟩), fun b hb c hc => ?_⟩
              obtain ⟨e, he, rfl⟩ := List.mem_map.1 hb
              rw [List.mem_singleton.1 hc]
              have := q5.born e he
              exact Nat.ne_of_lt this, by rw [← n3 z]; exact pairwise_put hkey q5.keys kk z, key_szT h2, (fun _ => h4), hlen, fun ha => push_idx (e0 := { key := keyV a kk, val := zv, born := ck }) (q5.idx ha) hto⟩
      refine ⟨.tuple #[zv, goInt ck], _, S, m, ?_, ht, hm', ?_⟩
      · unfold Instr.mapEntry
        simp only [Sem.run_bind, run_underlying hu, Result.andThen_ok, hg, check_key hkey hku, hfk, hz1, run_setMap q1]
        rfl
      · have hck : ck = l''.length := by rw [i2, q2]
        refine .tup _ _ _ rfl fun i hi => ?_
        match i, hi with
        | 0, _ => exact (hz2.mono (fun _ h => ht.sub _ h) (fun b hb => ht.st b hb) _ (fun i l h => by simp at h))
        | 1, _ =>
          show Rel _ S m (.int .i64 (ck : Int)) (.int .i64 (l''.length : Nat))
          rw [hck]
          exact .int _ _ _ (hwf _ (by rw [List.length_append, List.length_singleton] at hlen; omega))
    | some j =>
      obtain ⟨hj, hje, hgm⟩ := idxM_lt hq
      have hj' : j < es.toList.length := by omega
      have hkeq : kk = l''[j].1 := (eqK_iff hkey _ _).1 hje
      rw [hq] at hfk hpos
      have hfk : (Instr.findKey kt (keyV a kk) es.toList).run P w = .ok (some (j, es.toList[j].val)) w := by
        rw [hfk]; simp only [Option.bind_some, List.getElem?_eq_getElem hj', Option.map_some, Nat.zero_add]
      have he : entM a u l'' kk z = l'' := by unfold entM; rw [hgm]
      rw [he] at hlen ⊢
      rw [hpos.1, hgm]
      have hto : (es.modify j fun e => { e with key := keyV a kk }).toList = es.toList.modify j fun e => { e with key := keyV a kk } := Array.toList_modify
      have hkk2 : es.toList[j].key = keyV a kk := by rw [q3 j hj' hj, hkeq]
      obtain ⟨ht, hm'⟩ := map_turn (t := a) (u := u) (x := l'') (es := es.modify j fun e => { e with key := keyV a kk }) (ck := ck) (l0 := l'') hM h ⟨_, _, _, hb⟩ (by rw [hto]; simp [q2]) (fun i hi hi' => by
          rw [List.getElem_of_eq hto, List.getElem_modify]
          rw [hto, List.length_modify] at hi
          by_cases e : j = i
          · subst e
            rw [if_pos rfl]
            exact ⟨by show Rel w S [] (keyV a kk) _; rw [← hkk2]; exact (q4 j hi hi').1, (q4 j hi hi').2⟩
          · rw [if_neg e]; exact q4 i hi hi') ⟨fun e he => by
              rw [hto] at he
              have hmem : e.born ∈ (es.toList.modify j fun e => { e with key := keyV a kk }).map (·.born) := List.mem_map_of_mem he
              rw [modify_born _ _ (fun e => { e with key := keyV a kk }) (fun _ => rfl)] at hmem
              obtain ⟨e0, he0, e1⟩ := List.mem_map.1 hmem
              rw [← e1]; exact q5.born e0 he0, by
              rw [hto, modify_born _ _ (fun e => { e with key := keyV a kk }) (fun _ => rfl)]; exact q5.once, q5.keys, key_szT h2, (fun _ => h4), hlen, fun ha => modify_idx (q5.idx ha) hto fun _ => rfl⟩
      refine ⟨.tuple #[es.toList[j].val, goInt j], _, S, m, ?_, ht, hm', ?_⟩
      · have hold : ((es[j]?).map (·.key)).getD (keyV a kk) = keyV a kk := by
          rw [← Array.getElem?_toList, List.getElem?_eq_getElem hj']
          exact hkk2
        have hborn : ((es[j]?).map (fun x => (x.born : Int))).getD 0 = (j : Int) := by
          rw [← Array.getElem?_toList, List.getElem?_eq_getElem hj']
          exact congrArg Nat.cast (i1 j _ (List.getElem?_eq_getElem hj'))
        unfold Instr.mapEntry
        simp only [Sem.run_bind, run_underlying hu, Result.andThen_ok, hg, check_key hkey hku, hfk, hold, key_stays hkey, run_setMap q1, hborn]
        rfl
      · refine .tup _ _ _ rfl fun i hi => ?_
        match i, hi with
        | 0, _ => exact ((q4 j hj' hj).2.mono (fun _ h => ht.sub _ h) (fun b hb => ht.st b hb) _ (fun i l h => by simp at h))
        | 1, _ => exact .int _ _ _ (hwf _ (by omega))
theorem aEntryStore_ok (hT : TabOk P T) (hM : MRel base w S m M) (t : TypeId) {vx vs vv : Value} {x s v : AV} (hx : Rel w S m vx x) (hsv : Rel w S m vs s) (hvv : Rel w S m vv v) (hk : AllT (aEntryStore std T M t x s v).ks) :
    ResU base w S m P (aEntryStore std T M t x s v) (Instr.entryStore t vx vs vv) := by
  unfold aEntryStore at hk ⊢
  split at hk
  case h_2 => exact (not_bad hk).elim
  rename_i a u z hm
  obtain ⟨kt, e, h1, h2, h3, h4, h5, h6⟩ := mapTy_some hm
  have hkey := keyTD_is h2
  split at hk
  case h_2 => exact (not_bad hk).elim
  rename_i y hy hint
  have hvr := rdE_plain h4 hy hvv
  split at hk
  case h_2 => exact (not_bad hk).elim
  rename_i i n
  split at hk
  case h_2 => exact (not_bad hk).elim
  rename_i a' u' l' hb
  split at hk
  case h_2 => exact (not_bad hk).elim
  rename_i l'' hc
  have hn : 0 ≤ n ∧ n < l''.length := by
    have hk : std.inb n l''.length = true := hk
    simpa [std] using hk
  obtain ⟨j, rfl⟩ := Int.eq_ofNat_of_zero_le hn.1
  have hj : j < l''.length := by omega
  cases hsv
  cases hx with
  | mp0 _ _ h => exact (by have hB := hM.bk _ _ h; rw [hb] at hB; exact hB : False).elim
  | mp _ _ l h =>
    have hB := bk_of hM h
    rw [hb] at hB
    obtain ⟨_, _, hcast⟩ := castM_some hc
    have hB := hcast (fun a b x => BRel w S m (some l) (.map a b x)) hB
    obtain ⟨es, ck, q1, q2, q3, q4, q5⟩ := map_blk hB hkey h4
    have hg : (getObj l.g).run P w = .ok (.map es ck) w := by simp [getObj, Sem.run, q1]
    obtain ⟨i1, i2⟩ := q5.idx hint
    have hj' : j < es.toList.length := by omega
    have hjs : j < es.size := by simpa using hj'
    have hfi : es.findIdx? (fun e => (e.born : Int) == (j : Int)) = some j := by
      rw [Array.findIdx?_eq_some_iff_getElem]
      refine ⟨hjs, ?_, fun i hi => ?_⟩
      · have := i1 j es[j] (by rw [Array.getElem?_toList, Array.getElem?_eq_getElem hjs])
        rw [this]; exact beq_self_eq_true _
      · have his : i < es.size := by omega
        have := i1 i es[i] (by rw [Array.getElem?_toList, Array.getElem?_eq_getElem his])
        rw [this]
        simp; omega
    have hto : (es.modify j fun e => { e with val := vv }).toList = es.toList.modify j fun e => { e with val := vv } := Array.toList_modify
    have hkeys : (l''.modify j fun q => (q.1, y)).map (·.1) = l''.map (·.1) := by
      refine List.ext_getElem (by simp) fun i hi hi' => ?_
      rw [List.getElem_map, List.getElem_map, List.getElem_modify]
      split <;> rfl
    obtain ⟨ht, hm'⟩ := map_turn (t := a) (u := u) (x := l''.modify j fun q => (q.1, y)) (es := es.modify j fun e => { e with val := vv }) (ck := ck) (l0 := l'') hM h ⟨_, _, _, hb⟩ (by rw [hto]; simp [q2]) (fun i hi hi' => by
        rw [List.getElem_of_eq hto, List.getElem_modify, List.getElem_modify]
        rw [hto, List.length_modify] at hi
        rw [List.length_modify] at hi'
        by_cases e : j = i
        · subst e
          rw [if_pos rfl, if_pos rfl]
          exact ⟨(q4 j hi hi').1, hvr⟩
        · rw [if_neg e, if_neg e]; exact q4 i hi hi') ⟨fun e he => by
            rw [hto] at he
            have hmem : e.born ∈ (es.toList.modify j fun e => { e with val := vv }).map (·.born) := List.mem_map_of_mem he
            rw [modify_born _ _ (fun e => { e with val := vv }) (fun _ => rfl)] at hmem
            obtain ⟨e0, he0, e1⟩ := List.mem_map.1 hmem
            rw [← e1]; exact q5.born e0 he0, by
            rw [hto, modify_born _ _ (fun e => { e with val := vv }) (fun _ => rfl)]; exact q5.once, by
            have := List.pairwise_map.2 q5.keys
            rw [← hkeys] at this
            exact List.pairwise_map.1 this, key_szT h2, (fun _ => h4), by rw [List.length_modify]; exact q5.few, fun ha => modify_idx (q5.idx ha) hto fun _ => rfl⟩
    refine ⟨_, S, m, ?_, ht, hm', rfl⟩
    unfold Instr.entryStore
    simp only [Sem.run_bind, hg, Result.andThen_ok, asInt, asIntOf]
    simp only [Sem.run_bind, Sem.run_pure, Result.andThen_ok, hfi]
    exact run_setMap q1 _ _
theorem aSlice3d_ok (hT : TabOk P T) (hM : MRel base w S m M) (t : TypeId) {vx vh vm : Value} {x h g : AV} (hx : Rel w S m vx x) (hh : Rel w S m vh h) (hg : Rel w S m vm g)
    (hk : AllT (aSlice3d std T M t x h g).ks) : Res base w S m P (aSlice3d std T M t x h g) (Instr.sliceAt t vx none (some vh) (some vm)) := by
  unfold aSlice3d at hk ⊢
  split at hk
  case h_2 => exact (not_bad hk).elim
  rename_i e htd
  split at hk
  case h_2 => exact (not_bad hk).elim
  rename_i u l f kd k kd' k' hpos
  split at hk
  case h_2 => exact (not_bad hk).elim
  rename_i hkd hsz
  have hkd := of_decide_eq_true hkd
  subst hkd
  have hk' : std.and (std.eq k k') (std.inbe k l.length) = true := by simpa [valIf, AllT] using hk
  have hk2 : k = k' ∧ std.inbe k l.length = true := by
    simp only [std, Bool.and_eq_true, decide_eq_true_eq] at hk'
    exact ⟨hk'.1, by simpa [std] using hk'.2⟩
  obtain ⟨rfl, hin⟩ := hk2
  have e1 : vm = vh := by cases hh; cases hg; rfl
  have hr : aSlice3 std T M t (.tsl u l f) (.tmp 0) (.tmp 0) (.int kd k) = valIf M (std.inbe k l.length) (.tsl u (l.take (std.toNat k)) true) := by
    unfold aSlice3
    simp only [htd, hpos, hsz]
  have := aSlice3_ok hT hM t (vm := vm) (.tmp 0) (.tmp 0) hx hh (fun _ _ e => by cases e) (fun _ _ e => by cases e) (fun _ _ _ => e1) (by rw [hr]; simpa [valIf, AllT] using hin)
  rw [hr] at this
  exact this
theorem aSlice3g_ok (hT : TabOk P T) (hM : MRel base w S m M) (t : TypeId) {vx vh vm : Value} {x h g : AV} (hi mx : Operand) (hx : Rel w S m vx x) (hh : Rel w S m vh h) (hg : Rel w S m vm g)
    (hhi : ∀ k n, hi = .const (.int k n) → vh = .int k n) (hmx : ∀ k n, mx = .const (.int k n) → vm = .int k n) (hsame : ∀ i, hi = .tmp i → mx = .tmp i → vm = vh)
    (hk : AllT (aSlice3g std T M t x hi mx h g).ks) : Res base w S m P (aSlice3g std T M t x hi mx h g) (Instr.sliceAt t vx none (some vh) (some vm)) := by
  unfold aSlice3g at hk ⊢
  split at hk
  · rename_i i j
    split at hk
    · rename_i hij
      exact aSlice3_ok hT hM t _ _ hx hh hhi hmx hsame hk
    · exact aSlice3d_ok hT hM t hx hh hg hk
  · exact aSlice3_ok hT hM t _ _ hx hh hhi hmx hsame hk
/-- What lies further off of a block turns where it lies. -/
theorem MRel.turnX {w' : World} (h : MRel base w S m M) (i₀ : Nat) (l : Loc) (h0 : m[i₀]? = some (some l)) {g : Nat} (hg : g ∈ l.ext) (B : ABlk)
    (hkind : isCells (blk M i₀) = true → isCells B = true) (hbelow : Prot base.Z w w') (hst : ∀ b, b < w.heap.size → b ≠ g → w'.heap[b]? = w.heap[b]?) (hB : BRel w' S m (some l) B) :
    Trans base w S m w' S m none ∧ MRel base w' S m (setBlk M i₀ B) := by
  have hx := h.ext i₀ l h0
  have ho := hx.out g hg
  have hS : ∀ b, S b → w'.heap[b]? = w.heap[b]? := fun b hb => hst b (h.sb b hb) (fun e => ho.2.2 (e ▸ hb))
  refine ⟨⟨hbelow, fun _ h => h, fun _ h => .inl h, hS, lmEq fun _ _ _ h => h⟩, ?_⟩
  refine ⟨by rw [lenM_set]; exact h.len, fun b hb => Nat.lt_of_lt_of_le (h.sb b hb) hbelow.size, ?_, fun i l' hi => ⟨(h.lt i l' hi).1, Nat.lt_of_lt_of_le (h.lt i l' hi).2.1 hbelow.size, (h.lt i l' hi).2.2⟩, h.inj, fun b hb => Nat.lt_of_lt_of_le (h.base_le b hb) hbelow.size, h.gl hbelow.block, fun i l' hi => ⟨(h.pin i l' hi).1, ?_⟩, fun i l' hi => (h.ext i l' hi).to (fun b _ h => h) hbelow.size (fun b _ h => .inl h) fun j l'' hj => .inl ⟨l'', hj, rfl, .inl rfl⟩⟩
  rotate_left
  · rw [blk_set]
    split
    · rename_i e
      exact hkind (by rw [e.1]; exact (h.pin i l' hi).2)
    · exact (h.pin i l' hi).2
  intro i l' hi
  rw [blk_set]
  by_cases e : i₀ = i
  · subst e
    rw [if_pos ⟨rfl, by rw [← h.len]; exact (List.getElem?_eq_some_iff.1 h0).1⟩]
    rw [h0] at hi; injection hi with hi; subst hi; exact hB
  · rw [if_neg (fun x => e x.1)]
    have hb := h.bk i l' hi
    have hrel : ∀ m v a, Rel w S m v a → Rel w' S m v a := fun m v a hr => hr.mono (fun _ h => h) hS _ (fun _ _ h => h)
    cases l' with
    | none => revert hb; cases blk M i <;> exact fun h => h
    | some l₁ =>
      have hlt' := (h.lt i l₁ hi).2.1
      have hf := hx.far g hg i l₁ hi
      have hh : w'.heap[l₁.g]? = w.heap[l₁.g]? := hst _ hlt' hf.1
      revert hb
      cases blk M i with
      | dead => exact fun h => h
      | fam x y => exact fun hf' => hf'.keep (fun _ h => h) hS hh fun b hb => hst b ((h.ext i l₁ hi).out b hb).2.1 fun q => hf.2 e (q ▸ hb)
      | cells e cs => rintro ⟨vs, h1, h2, h3, h4⟩; exact ⟨vs, hh.trans h1, h2, h3, fun i hi => hrel _ _ _ (h4 i hi)⟩
      | rows e sz n c => rintro ⟨h0, h1, h2, h3, vs, h4, h5, h6⟩; exact ⟨h0, h1, h2, h3, vs, hh.trans h4, h5, fun i hi j hj => ⟨(h6 i hi j hj).1, hrel _ _ _ (h6 i hi j hj).2⟩⟩
      | trows e ty x => rintro ⟨h0, h1, h2, h3, vs, h4, h5, h6⟩; exact ⟨h0, h1, h2, h3, vs, hh.trans h4, h5, fun i hi j hj => ⟨(h6 i hi j hj).1, hrel _ _ _ (h6 i hi j hj).2⟩⟩
      | fro e ty x => rintro ⟨h0, h1, h2, h3, vs, fz, h4, h5, h6⟩; exact ⟨h0, h1, h2, h3, vs, fz, hh.trans h4, h5, fun i hi j hj => ⟨(h6 i hi j hj).1, hrel _ _ _ (h6 i hi j hj).2⟩⟩
      | arr e ty x => rintro ⟨vs, h4, h5, h6⟩; exact ⟨vs, hh.trans h4, h5, fun i hi => ⟨(h6 i hi).1, hrel _ _ _ (h6 i hi).2⟩⟩
      | map ty uy x => rintro ⟨es, ck, h4, h5, h6, h7⟩; exact ⟨es, ck, hh.trans h4, h5, fun i hi => ⟨hrel _ _ _ (h6 i hi).1, hrel _ _ _ (h6 i hi).2⟩, h7⟩
      | siter s pos => rintro ⟨h1, h2⟩; exact ⟨hh.trans h1, h2⟩

end Go.Eng
