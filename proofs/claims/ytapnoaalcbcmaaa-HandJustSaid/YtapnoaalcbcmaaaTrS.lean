/- slices.Sort, handed memory of the caller's own: by the library's contract. Conditions: less than 2^62 elements (asked). -/
import Derived.Test.YtapnoaalcbcmaaaTrO
import Derived.Test.YtapnoaalcbcmaaaTrG
import Derived.Shelf.Sort.Plain
import Derived.Shelf.Slices.In.SortNone
import Derived.Lib.SlicesCompact
namespace Go.Eng
open Go Go.RowKit Go.Sort

variable {P : Program}

theorem sort_scalls {f : Nat} {t : Ty} {e : Nat} [Inhabited (El t)] (ht : szT t = 1) (enc : El t → Value) (srt : List (El t) → List (El t)) (hlen : ∀ l, (srt l).length = l.length) (hmem : ∀ l x, x ∈ srt l → x ∈ l)
    (hrel : ∀ (w : World) (S : Nat → Prop) (v : Value) (x : El t), Rel w S [] v (nth (cellsT t x) 0) → v = enc x) (hcell : ∀ x, (enc x).oneCell' = true)
    (hcall : ∀ (b cap : Nat) (zs : List (El t)) (w : World), Holds enc w b 0 zs.toArray → b < w.heap.size → zs.length < 4611686018427387904 →
      Calls P f #[.slice (some ⟨b, 0, none⟩) zs.length cap] w fun e w' => e = .returned (.tuple #[]) ∧ ∃ n os, w' = grow (putRow enc (Sort.ahead w n) b 0 (srt zs).toArray) os)
    (hnone : ∀ (p : Option Addr) (cap : Nat) (w : World), Calls P f #[.slice p 0 cap] w fun e w' => e = .returned (.tuple #[]) ∧ w' = w)
    (henter : ∀ args w, (callFunc f args).run P w = .ok (.enter f args) w) :
    MSig.ok P ⟨f, .cons (.own 0) .nil, .rows e t .nil, [], .nil, .rows e t .nil, none, fun z => ask (decide (z.2.1.length < 4611686018427387904)) (.ret ((), (srt z.2.1, ())))⟩ := by
  rintro ⟨⟨_, _⟩, x, _⟩ y hy Z w S m vs hM hR
  have hy : (bif decide (x.length < 4611686018427387904) then some ((), (srt x, ())) else none) = some y := hy
  cases hd : decide (x.length < 4611686018427387904) with
  | false => rw [hd] at hy; cases hy
  | true =>
  rw [hd] at hy
  injection hy with hy
  subst hy
  have hd := of_decide_eq_true hd
  refine .inl ⟨henter _ _, ?_⟩
  obtain ⟨hs, hr⟩ := hR
  have hs : vs.size = 1 := hs
  have hvs : vs = #[vs.getD 0 Go.undef] := by
    apply Array.ext
    · simpa using hs
    · intro i h1 h2
      have : i = 0 := by omega
      subst this
      simp [Array.getD_eq_getD_getElem?, h1]
  have hv := hr 0 (by show 0 < 1; omega)
  have hv : Rel w S m (vs.getD 0 Go.undef) (.ownT 0) := hv
  rw [hvs]
  generalize vs.getD 0 Go.undef = v at hv
  have hfin : ∀ w' : World, Rel w' S m (.tuple #[]) (.tup []) := fun w' => .tup _ _ _ rfl fun i hi => absurd hi (Nat.not_lt_zero i)
  cases hv with
  | ownT0 _ a _ h0 =>
    have hB := hM.bk _ _ h0
    have hx : x.length = 0 := hB
    have hx : x = [] := List.length_eq_zero_iff.1 hx
    subst hx
    refine Calls.mono (hnone a 0 w) fun en w' h => ?_
    obtain ⟨rfl, rfl⟩ := h
    refine ⟨_, S, m, rfl, Trans.refl _ _ _ _, ?_, hfin _⟩
    have : srt [] = [] := List.length_eq_zero_iff.1 (hlen [])
    show MRel Z w' S m [.trows e t (srt [])]
    rw [this]; exact hM
  | ownT _ _ l h0 hc =>
    have hB := hM.bk _ _ h0
    obtain ⟨b1, b2, b3, b4, vs', b5, b6, b7⟩ := hB
    have b2 : l.n = x.length := b2
    have b3 : x.length ≤ l.cap := b3
    have b7 : ∀ i, i < x.length → (vs'.getD i Go.undef).oneCell' = true ∧ Rel w S [] (vs'.getD i Go.undef) (vw t x i 0) := fun i hi => by
      have := b7 i hi 0 (by omega)
      rwa [ht, Nat.mul_one, Nat.add_zero] at this
    rw [ht, Nat.mul_one] at b6
    have hlt := hM.lt _ _ h0
    have hxe : ∀ i (hi : i < x.length), vs'.getD i Go.undef = enc x[i] := fun i hi => by
      refine hrel w S _ _ ?_
      have := (b7 i hi).2
      unfold vw rowT at this
      rwa [getD_lt _ _ _ hi] at this
    have hH : Holds enc w l.g 0 x.toArray := fun j hj => by
      have hj : j < x.length := by simpa using hj
      rw [Nat.zero_add]
      refine ⟨?_, ?_⟩
      · rw [blk_cell b5 (by omega), hxe j hj]
        simp [hj]
      · exact FzOk.free (n := l.cap) (Loc.fzOk (by rw [b1, ht, Nat.mul_one])) (by omega) b5
    rw [b2]
    refine Calls.mono (hcall l.g l.cap x w hH hlt.2.1 hd) fun en w' h => ?_
    obtain ⟨rfl, n, os, rfl⟩ := h
    have hsz : (putRow enc (Sort.ahead w n) l.g 0 (srt x).toArray).heap.size = w.heap.size := by unfold putRow mapBlock; simp [Sort.ahead]
    have hold : ∀ b, b < w.heap.size → (grow (putRow enc (Sort.ahead w n) l.g 0 (srt x).toArray) os).heap[b]? = (w.heap.modify l.g (onCells (putCells enc 0 (srt x).toArray)))[b]? := fun b hb => by
      rw [heap_grow_old _ _ (by rw [hsz]; exact hb)]; rfl
    have hoth : ∀ b, b < w.heap.size → b ≠ l.g → (grow (putRow enc (Sort.ahead w n) l.g 0 (srt x).toArray) os).heap[b]? = w.heap[b]? := fun b hb hne => by
      rw [hold b hb, Array.getElem?_modify, if_neg (fun e => hne e.symm)]
    have hown : (grow (putRow enc (Sort.ahead w n) l.g 0 (srt x).toArray) os).heap[l.g]? = some (.cells (putCells enc 0 (srt x).toArray vs') e l.fz) := by
      rw [hold l.g hlt.2.1, Array.getElem?_modify, if_pos rfl, b5]; rfl
    obtain ⟨ht1, ht2⟩ := hM.turn 0 l h0 (.trows e t (srt x)) (fun h => h)
      (w' := grow (putRow enc (Sort.ahead w n) l.g 0 (srt x).toArray) os)
      ⟨rfl, rfl, rfl, by rw [size_grow, hsz]; omega, fun k hk => hoth k (hM.base_le k hk) fun e => hlt.1 (e ▸ hk)⟩ hoth
      ⟨b1, by rw [hlen]; exact b2, by rw [hlen]; exact b3, b4, _, hown, by unfold putCells; rw [Array.size_mapIdx, b6, ht, Nat.mul_one], fun i hi j hj => by
        rw [ht] at hj
        obtain rfl : j = 0 := by omega
        rw [ht, Nat.mul_one, Nat.add_zero]
        have hi' : i < x.length := by rw [hlen] at hi; exact hi
        have hget : (putCells enc 0 (srt x).toArray vs').getD i Go.undef = enc (srt x)[i] := by
          unfold putCells
          have h1 : i < (Array.mapIdx (fun k y => if 0 ≤ k ∧ k < 0 + (srt x).toArray.size then enc ((srt x).toArray[k - 0]!) else y) vs').size := by rw [Array.size_mapIdx]; omega
          rw [Array.getD_eq_getD_getElem?, Array.getElem?_eq_getElem h1, Array.getElem_mapIdx]
          simp [hi]
        rw [hget]
        refine ⟨hcell _, ?_⟩
        obtain ⟨k, hk, hke⟩ := List.mem_iff_getElem.1 (hmem x _ (List.getElem_mem hi))
        have hrk := (b7 k hk).2
        rw [hxe k hk, hke] at hrk
        have e1 : vw t x k 0 = vw t (srt x) i 0 := by
          unfold vw rowT
          rw [getD_lt _ _ _ hk, getD_lt _ _ _ hi, hke]
        rw [e1] at hrk
        exact hrk.mono (fun _ h => h) (fun b hb => hoth b (hM.sb b hb) fun e => hlt.2.2 (e ▸ hb)) _ (fun _ _ h => h)⟩
    exact ⟨_, S, m, rfl, ht1, ht2, hfin _⟩

theorem mergeI (l : List Int) : (l.mergeSort fun x y => decide (x ≤ y)) = sortI l := by
  refine mergeSort_isortB (le := leI) (fun a b c h k => ?_) (fun a b h => ?_) (fun a b h k => ?_) l <;> unfold leI at * <;> simp only [decide_eq_true_eq, decide_eq_false_iff_not] at * <;> omega
theorem mergeS (l : List Str) : (l.mergeSort fun x y => decide (x ≤ y)) = sortS l := by
  have e : (fun x y : Str => decide (x ≤ y)) = leS := by
    funext x y
    unfold leS
    show decide (x ≤ y) = !(Op.bytesLess y x)
    rw [Go.Proofs.bytesLess_eq, ← decide_not, decide_eq_decide]
    exact Iff.rfl
  rw [e]
  exact mergeSort_isortB leS_trans leS_total leS_anti l

/-- slices.Compact, handed memory of the caller's own. -/
theorem compact_scalls {f : Nat} {t : Ty} {e : Nat} [Inhabited (El t)] (ht : szT t = 1) (enc : El t → Value) (cmp : List (El t) → List (El t)) (zero : El t) (hle : ∀ l, (cmp l).length ≤ l.length) (hmem : ∀ l x, x ∈ cmp l → x ∈ l)
    (hrel : ∀ (w : World) (S : Nat → Prop) (v : Value) (x : El t), Rel w S [] v (nth (cellsT t x) 0) → v = enc x) (hcell : ∀ x, (enc x).oneCell' = true)
    (hcall : ∀ (b cap : Nat) (zs : List (El t)) (w : World), Holds enc w b 0 zs.toArray → zs.length ≤ 9223372036854775807 → zs.length ≤ cap →
      Calls P f #[.slice (some ⟨b, 0, none⟩) zs.length cap] w fun e w' => e = .returned (.slice (some ⟨b, 0, none⟩) (cmp zs).length cap) ∧ ∃ q, w' = putRow enc (Sort.ahead w q) b 0 (cmp zs ++ List.replicate (zs.length - (cmp zs).length) zero).toArray)
    (hnone : ∀ (p : Option Addr) (cap : Nat) (w : World), Calls P f #[.slice p 0 cap] w fun e w' => e = .returned (.slice p 0 cap) ∧ w' = w)
    (henter : ∀ args w, (callFunc f args).run P w = .ok (.enter f args) w) :
    MSig.ok P ⟨f, .cons (.own 0) .nil, .rows e t .nil, [], .own 0, .rows e t .nil, some 0, fun z => .ret ((), (cmp z.2.1, ()))⟩ := by
  rintro ⟨⟨_, _⟩, x, _⟩ y hy Z w S m vs hM hR
  have hy : some ((), (cmp x, ())) = some y := hy
  injection hy with hy
  subst hy
  refine .inl ⟨henter _ _, ?_⟩
  obtain ⟨hs, hr⟩ := hR
  have hs : vs.size = 1 := hs
  have hvs : vs = #[vs.getD 0 Go.undef] := by
    apply Array.ext
    · simpa using hs
    · intro i h1 h2
      have : i = 0 := by omega
      subst this
      simp [Array.getD_eq_getD_getElem?, h1]
  have hv := hr 0 (by show 0 < 1; omega)
  have hv : Rel w S m (vs.getD 0 Go.undef) (.ownT 0) := hv
  rw [hvs]
  generalize vs.getD 0 Go.undef = v at hv
  cases hv with
  | ownT0 _ a _ h0 =>
    have hB := hM.bk _ _ h0
    have hx : x.length = 0 := hB
    have hx : x = [] := List.length_eq_zero_iff.1 hx
    subst hx
    refine Calls.mono (hnone a 0 w) fun en w' h => ?_
    obtain ⟨rfl, rfl⟩ := h
    have hT := Trans.refl Z w' S m
    have : cmp [] = [] := List.length_eq_zero_iff.1 (Nat.le_zero.1 (hle []))
    refine ⟨_, S, m, rfl, ⟨hT.below, hT.sub, hT.up, hT.st, lmEq fun i l _ h => h⟩, ?_, .ownT0 _ _ _ h0⟩
    show MRel Z w' S m [.trows e t (cmp [])]
    rw [this]; exact hM
  | ownT _ _ l h0 hc =>
    have hB := hM.bk _ _ h0
    obtain ⟨b1, b2, b3, b4, vs', b5, b6, b7⟩ := hB
    have b2 : l.n = x.length := b2
    have b3 : x.length ≤ l.cap := b3
    have b4 : l.cap ≤ maxLen := b4
    have b7 : ∀ i, i < x.length → (vs'.getD i Go.undef).oneCell' = true ∧ Rel w S [] (vs'.getD i Go.undef) (vw t x i 0) := fun i hi => by
      have := b7 i hi 0 (by omega)
      rwa [ht, Nat.mul_one, Nat.add_zero] at this
    rw [ht, Nat.mul_one] at b6
    have hlt := hM.lt _ _ h0
    have hxe : ∀ i (hi : i < x.length), vs'.getD i Go.undef = enc x[i] := fun i hi => by
      refine hrel w S _ _ ?_
      have := (b7 i hi).2
      unfold vw rowT at this
      rwa [getD_lt _ _ _ hi] at this
    have hH : Holds enc w l.g 0 x.toArray := fun j hj => by
      have hj : j < x.length := by simpa using hj
      rw [Nat.zero_add]
      refine ⟨?_, ?_⟩
      · rw [blk_cell b5 (by omega), hxe j hj]
        simp [hj]
      · exact FzOk.free (n := l.cap) (Loc.fzOk (by rw [b1, ht, Nat.mul_one])) (by omega) b5
    rw [b2]
    refine Calls.mono (hcall l.g l.cap x w hH (by unfold maxLen at b4; omega) b3) fun en w' h => ?_
    obtain ⟨rfl, n, rfl⟩ := h
    have hcl := hle x
    generalize hrow : cmp x ++ List.replicate (x.length - (cmp x).length) zero = row
    have hrl : row.length = x.length := by rw [← hrow, List.length_append, List.length_replicate]; omega
    have hsz : (putRow enc (Sort.ahead w n) l.g 0 row.toArray).heap.size = w.heap.size := by unfold putRow mapBlock; simp [Sort.ahead]
    have hold : ∀ b : Nat, (putRow enc (Sort.ahead w n) l.g 0 row.toArray).heap[b]? = (w.heap.modify l.g (onCells (putCells enc 0 row.toArray)))[b]? := fun b => rfl
    have hoth : ∀ b : Nat, b ≠ l.g → (putRow enc (Sort.ahead w n) l.g 0 row.toArray).heap[b]? = w.heap[b]? := fun b hne => by
      rw [hold b, Array.getElem?_modify, if_neg (fun e => hne e.symm)]
    have hown : (putRow enc (Sort.ahead w n) l.g 0 row.toArray).heap[l.g]? = some (.cells (putCells enc 0 row.toArray vs') e l.fz) := by
      rw [hold l.g, Array.getElem?_modify, if_pos rfl, b5]; rfl
    obtain ⟨ht1, ht2⟩ := hM.move 0 (some l) h0 (some ⟨l.g, l.cap, l.sz, (cmp x).length, l.st, []⟩) (.trows e t (cmp x)) rfl
      (w' := putRow enc (Sort.ahead w n) l.g 0 row.toArray)
      ⟨rfl, rfl, rfl, by rw [hsz]; omega, fun k hk => hoth k fun e => hlt.1 (e ▸ hk)⟩ (fun b hb hne => hoth b (hne l rfl))
      (fun l₂ h2 => by injection h2 with h2; subst h2; exact ⟨.inl ⟨l, rfl, rfl⟩, by rw [hsz]; exact hlt.2.1⟩)
      ⟨b1, rfl, by show (cmp x).length ≤ l.cap; omega, b4, _, hown, by unfold putCells; rw [Array.size_mapIdx, b6, ht, Nat.mul_one], fun i hi j hj => by
        rw [ht] at hj
        obtain rfl : j = 0 := by omega
        rw [ht, Nat.mul_one, Nat.add_zero]
        have hi : i < (cmp x).length := hi
        have hi' : i < row.length := by omega
        have hget : (putCells enc 0 row.toArray vs').getD i Go.undef = enc row[i] := by
          unfold putCells
          have h1 : i < (Array.mapIdx (fun k y => if 0 ≤ k ∧ k < 0 + row.toArray.size then enc (row.toArray[k - 0]!) else y) vs').size := by rw [Array.size_mapIdx]; omega
          rw [Array.getD_eq_getD_getElem?, Array.getElem?_eq_getElem h1, Array.getElem_mapIdx]
          simp [hi']
        have hri : row[i] = (cmp x)[i] := by
          have : row[i]? = some (cmp x)[i] := by rw [← hrow, List.getElem?_append_left hi]; simp [hi]
          rw [List.getElem?_eq_getElem hi'] at this
          exact Option.some.inj this
        rw [hget, hri]
        refine ⟨hcell _, ?_⟩
        obtain ⟨k, hk, hke⟩ := List.mem_iff_getElem.1 (hmem x _ (List.getElem_mem hi))
        have hrk := (b7 k hk).2
        rw [hxe k hk, hke] at hrk
        have e1 : vw t x k 0 = vw t (cmp x) i 0 := by
          unfold vw rowT
          rw [getD_lt _ _ _ hk, getD_lt _ _ _ hi, hke]
        rw [e1] at hrk
        exact hrk.mono (fun _ h => h) (fun b hb => hoth b fun e => hlt.2.2 (e ▸ hb)) _ (fun _ _ h => h)⟩
    have hm0 : (m.set 0 (some ⟨l.g, l.cap, l.sz, (cmp x).length, l.st, []⟩))[0]? = some (some ⟨l.g, l.cap, l.sz, (cmp x).length, l.st, []⟩) := List.getElem?_set_self (List.getElem?_eq_some_iff.1 h0).1
    exact ⟨_, S, _, rfl, ht1, ht2, .ownT _ 0 ⟨l.g, l.cap, l.sz, (cmp x).length, l.st, []⟩ hm0 ⟨by show (cmp x).length ≤ l.cap; omega, b4⟩⟩

theorem compact_eq {α : Type} [DecidableEq α] [Inhabited α] (eq : α → α → Bool) (he : ∀ a b, eq a b = true ↔ a = b) (l : List α) : Lib.compact l = compL eq l := by
  have key : ∀ (l : List α) (x : α), ((List.range l.length).filter fun j => decide (l.getD j default ≠ (x :: l).getD j default)).map (fun j => l.getD j default) = compFrom eq x l := by
    intro l
    induction l with
    | nil => intro x; rfl
    | cons y l ih =>
      intro x
      rw [List.length_cons, List.range_succ_eq_map, List.filter_cons, List.filter_map]
      have hf : ((fun j => decide ((y :: l).getD j default ≠ (x :: y :: l).getD j default)) ∘ Nat.succ) = fun j => decide (l.getD j default ≠ (y :: l).getD j default) := by
        funext j; rfl
      rw [hf]
      simp only [compFrom]
      cases hq : eq y x with
      | true =>
        have e := (he y x).1 hq
        subst e
        have : decide ((y :: l).getD 0 default ≠ (y :: y :: l).getD 0 default) = false := by simp
        rw [this, if_neg Bool.false_ne_true, List.map_map, ← ih y]; rfl
      | false =>
        have hne : y ≠ x := fun e => by rw [(he y x).2 e] at hq; cases hq
        have : decide ((y :: l).getD 0 default ≠ (x :: y :: l).getD 0 default) = true := by simp [hne]
        rw [this, if_pos rfl, List.map_cons, List.map_map, ← ih y]; rfl
  cases l with
  | nil => rfl
  | cons x l =>
    unfold Lib.compact Lib.compactUpTo
    rw [List.length_cons, List.range_succ_eq_map, List.filter_cons, List.filter_map]
    have h0 : Lib.keeps (x :: l).toArray 0 = true := by simp [Lib.keeps]
    have hf : (Lib.keeps (x :: l).toArray ∘ Nat.succ) = fun j => decide (l.getD j default ≠ (x :: l).getD j default) := by
      funext j
      simp only [Function.comp, Lib.keeps, Nat.succ_eq_add_one, Nat.add_one_ne_zero, false_or, Nat.add_sub_cancel]
      have g1 : ∀ (k : List α) (i : Nat), k.toArray[i]! = k.getD i default := fun k i => by
        rw [List.getElem!_toArray, List.getElem!_eq_getElem?_getD]; rfl
      rw [g1, g1]; rfl
    rw [h0, if_pos rfl, hf, List.map_cons, List.map_map]
    simp only [compL]
    congr 1
    rw [← key l x]
    refine List.map_congr_left fun j _ => ?_
    have g1 : ∀ (k : List α) (i : Nat), k.toArray[i]! = k.getD i default := fun k i => by
      rw [List.getElem!_toArray, List.getElem!_eq_getElem?_getD]; rfl
    simp only [Function.comp]
    rw [g1]; rfl
end Go.Eng
