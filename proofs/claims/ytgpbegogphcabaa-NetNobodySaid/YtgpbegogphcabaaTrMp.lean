/- slices.Delete, handed memory of the caller's own, by the library's contract (asked: one element at least, within the slice); a range over a map whose keys are sorted. -/
import Derived.Test.YtgpbegogphcabaaTrS
namespace Go.Eng
open Go Go.RowKit Go.Sort

variable {P : Program}

/-- The elements but those from i on, up to j. -/
def cutL {α : Type} (l : List α) (i j : Int) : List α := l.take i.toNat ++ l.drop j.toNat
/-- slices.Delete, handed memory of the caller's own: of one element at least. -/
theorem delete_scalls {f : Nat} {t : Ty} {e : Nat} [Inhabited (El t)] (ht : szT t = 1) (enc : El t → Value) (zero : El t)
    (hrel : ∀ (w : World) (S : Nat → Prop) (v : Value) (x : El t), Rel w S [] v (nth (cellsT t x) 0) → v = enc x) (hcell : ∀ x, (enc x).oneCell' = true)
    (hcall : ∀ (b cap i j : Nat) (zs : List (El t)) (w : World), Holds enc w b 0 zs.toArray → zs.length ≤ cap → cap ≤ 9223372036854775807 → i ≤ j → j ≤ zs.length →
      Calls P f #[.slice (some ⟨b, 0, none⟩) zs.length cap, .int .i64 i, .int .i64 j] w fun e w' => e = .returned (.slice (some ⟨b, 0, none⟩) (zs.length - (j - i)) cap) ∧ ∃ q, w' = putRow enc (Sort.ahead w q) b 0 (zs.take i ++ zs.drop j ++ List.replicate (j - i) zero).toArray)
    (henter : ∀ args w, (callFunc f args).run P w = .ok (.enter f args) w) :
    MSig.ok P ⟨f, .cons (.own 0) (.cons (.val false (.int .i64)) (.cons (.val false (.int .i64)) .nil)), .rows e t .nil, [], .own 0, .rows e t .nil, some 0, fun z => ask (decide (0 ≤ z.1.2.1 ∧ z.1.2.1 < z.1.2.2.1 ∧ z.1.2.2.1 ≤ z.2.1.length)) (.ret ((), (cutL z.2.1 z.1.2.1 z.1.2.2.1, ())))⟩ := by
  rintro ⟨⟨_, (i : Int), (j : Int), _⟩, x, _⟩ y hy Z w S m vs hM hR
  have hy : (bif decide (0 ≤ i ∧ i < j ∧ j ≤ x.length) then some ((), (cutL x i j, ())) else none) = some y := hy
  cases hd : decide (0 ≤ i ∧ i < j ∧ j ≤ x.length) with
  | false => rw [hd] at hy; cases hy
  | true =>
  rw [hd] at hy
  injection hy with hy
  subst hy
  obtain ⟨hi0, hij, hjl⟩ := of_decide_eq_true hd
  obtain ⟨i, rfl⟩ := Int.eq_ofNat_of_zero_le hi0
  obtain ⟨j, rfl⟩ := Int.eq_ofNat_of_zero_le (show 0 ≤ j by omega)
  have hij : i < j := by omega
  have hjl : j ≤ x.length := by omega
  have hcut : cutL x (i : Int) (j : Int) = x.take i ++ x.drop j := rfl
  have hcl : (cutL x (i : Int) (j : Int)).length = x.length - (j - i) := by rw [hcut, List.length_append, List.length_take, List.length_drop]; omega
  have hmem : ∀ y, y ∈ cutL x (i : Int) (j : Int) → y ∈ x := fun y h => by
    rw [hcut] at h
    rcases List.mem_append.1 h with h | h
    · exact List.mem_of_mem_take h
    · exact List.mem_of_mem_drop h
  refine .inl ⟨henter _ _, ?_⟩
  obtain ⟨hs, hr⟩ := hR
  have hs : vs.size = 3 := hs
  have hvs : vs = #[vs.getD 0 Go.undef, vs.getD 1 Go.undef, vs.getD 2 Go.undef] := by
    apply Array.ext
    · simpa using hs
    · intro k h1 h2
      have : k = 0 ∨ k = 1 ∨ k = 2 := by omega
      rcases this with rfl | rfl | rfl <;> simp [Array.getD_eq_getD_getElem?, h1]
  have hv := hr 0 (by show 0 < 3; omega)
  have hv : Rel w S m (vs.getD 0 Go.undef) (.ownT 0) := hv
  have hv1 : Rel w S m (vs.getD 1 Go.undef) (.int .i64 (i : Int)) := hr 1 (by show 1 < 3; omega)
  have hv2 : Rel w S m (vs.getD 2 Go.undef) (.int .i64 (j : Int)) := hr 2 (by show 2 < 3; omega)
  have hv1 : vs.getD 1 Go.undef = .int .i64 (i : Int) := by generalize vs.getD 1 Go.undef = q at hv1; cases hv1; rfl
  have hv2 : vs.getD 2 Go.undef = .int .i64 (j : Int) := by generalize vs.getD 2 Go.undef = q at hv2; cases hv2; rfl
  rw [hvs, hv1, hv2]
  generalize vs.getD 0 Go.undef = v at hv
  cases hv with
  | ownT0 _ a _ h0 =>
    have hB := hM.bk _ _ h0
    have hx : x.length = 0 := hB
    have hx : x = [] := List.length_eq_zero_iff.1 hx
    subst hx
    simp at hjl; omega
  | ownT _ _ l h0 hc =>
    have hB := hM.bk _ _ h0
    obtain ⟨b1, b2, b3, b4, vs', b5, b6, b7⟩ := hB
    have b2 : l.n = x.length := b2
    have b3 : x.length ≤ l.cap := b3
    have b4 : l.cap ≤ maxLen := b4
    have b7 : ∀ i, i < x.length → (vs'.getD i Go.undef).oneCell' = true ∧ Rel w S [] (vs'.getD i Go.undef) (vw t x i 0) := fun i hi => by
      have := b7 i hi 0 (by omega)
      rwa [ht, Nat.mul_one, Nat.add_zero] at this
    rw [ht, Nat.mul_one] at b6
    have hlt := hM.lt _ _ h0
    have hxe : ∀ i (hi : i < x.length), vs'.getD i Go.undef = enc x[i] := fun i hi => by
      refine hrel w S _ _ ?_
      have := (b7 i hi).2
      unfold vw rowT at this
      rwa [getD_lt _ _ _ hi] at this
    have hH : Holds enc w l.g 0 x.toArray := fun j hj => by
      have hj : j < x.length := by simpa using hj
      rw [Nat.zero_add]
      refine ⟨?_, ?_⟩
      · rw [blk_cell b5 (by omega), hxe j hj]
        simp [hj]
      · exact FzOk.free (n := l.cap) (Loc.fzOk (by rw [b1, ht, Nat.mul_one])) (by omega) b5
    rw [b2]
    refine Calls.mono (hcall l.g l.cap i j x w hH b3 (by unfold maxLen at b4; omega) (by omega) hjl) fun en w' h => ?_
    obtain ⟨rfl, n, rfl⟩ := h
    rw [← hcut, show x.length - (j - i) = (cutL x (i : Int) (j : Int)).length by rw [hcl]]
    generalize hrow : cutL x (i : Int) (j : Int) ++ List.replicate (j - i) zero = row
    have hrl : row.length = x.length := by rw [← hrow, List.length_append, List.length_replicate, hcl]; omega
    have hsz : (putRow enc (Sort.ahead w n) l.g 0 row.toArray).heap.size = w.heap.size := by unfold putRow mapBlock; simp [Sort.ahead]
    have hold : ∀ b : Nat, (putRow enc (Sort.ahead w n) l.g 0 row.toArray).heap[b]? = (w.heap.modify l.g (onCells (putCells enc 0 row.toArray)))[b]? := fun b => rfl
    have hoth : ∀ b : Nat, b ≠ l.g → (putRow enc (Sort.ahead w n) l.g 0 row.toArray).heap[b]? = w.heap[b]? := fun b hne => by
      rw [hold b, Array.getElem?_modify, if_neg (fun e => hne e.symm)]
    have hown : (putRow enc (Sort.ahead w n) l.g 0 row.toArray).heap[l.g]? = some (.cells (putCells enc 0 row.toArray vs') e l.fz) := by
      rw [hold l.g, Array.getElem?_modify, if_pos rfl, b5]; rfl
    obtain ⟨ht1, ht2⟩ := hM.move 0 (some l) h0 (some ⟨l.g, l.cap, l.sz, (cutL x (i : Int) (j : Int)).length, l.st⟩) (.trows e t (cutL x (i : Int) (j : Int))) rfl
      (w' := putRow enc (Sort.ahead w n) l.g 0 row.toArray)
      ⟨rfl, rfl, rfl, by rw [hsz]; omega, fun k hk => hoth k fun e => hlt.1 (e ▸ hk)⟩ (fun b hb hne => hoth b (hne l rfl))
      (fun l₂ h2 => by injection h2 with h2; subst h2; exact ⟨.inl ⟨l, rfl, rfl⟩, by rw [hsz]; exact hlt.2.1⟩)
      ⟨b1, rfl, by show (cutL x (i : Int) (j : Int)).length ≤ l.cap; omega, b4, _, hown, by unfold putCells; rw [Array.size_mapIdx, b6, ht, Nat.mul_one], fun r hi j' hj => by
        rw [ht] at hj
        obtain rfl : j' = 0 := by omega
        rw [ht, Nat.mul_one, Nat.add_zero]
        have hi : r < (cutL x (i : Int) (j : Int)).length := hi
        have hi' : r < row.length := by omega
        have hget : (putCells enc 0 row.toArray vs').getD r Go.undef = enc row[r] := by
          unfold putCells
          have h1 : r < (Array.mapIdx (fun k y => if 0 ≤ k ∧ k < 0 + row.toArray.size then enc (row.toArray[k - 0]!) else y) vs').size := by rw [Array.size_mapIdx]; omega
          rw [Array.getD_eq_getD_getElem?, Array.getElem?_eq_getElem h1, Array.getElem_mapIdx]
          simp [hi']
        have hri : row[r] = (cutL x (i : Int) (j : Int))[r] := by
          have : row[r]? = some (cutL x (i : Int) (j : Int))[r] := by rw [← hrow, List.getElem?_append_left hi]; simp [hi]
          rw [List.getElem?_eq_getElem hi'] at this
          exact Option.some.inj this
        rw [hget, hri]
        refine ⟨hcell _, ?_⟩
        obtain ⟨k, hk, hke⟩ := List.mem_iff_getElem.1 (hmem _ (List.getElem_mem hi))
        have hrk := (b7 k hk).2
        rw [hxe k hk, hke] at hrk
        have e1 : vw t x k 0 = vw t (cutL x (i : Int) (j : Int)) r 0 := by
          unfold vw rowT
          rw [getD_lt _ _ _ hk, getD_lt _ _ _ hi, hke]
        rw [e1] at hrk
        exact hrk.mono (fun _ h => h) (fun b hb => hoth b fun e => hlt.2.2 (e ▸ hb)) _ (fun _ _ h => h)⟩
    have hm0 : (m.set 0 (some ⟨l.g, l.cap, l.sz, (cutL x (i : Int) (j : Int)).length, l.st⟩))[0]? = some (some ⟨l.g, l.cap, l.sz, (cutL x (i : Int) (j : Int)).length, l.st⟩) := List.getElem?_set_self (List.getElem?_eq_some_iff.1 h0).1
    exact ⟨_, S, _, rfl, ht1, ht2, .ownT _ 0 ⟨l.g, l.cap, l.sz, (cutL x (i : Int) (j : Int)).length, l.st⟩ hm0 ⟨by show (cutL x (i : Int) (j : Int)).length ≤ l.cap; omega, b4⟩⟩

end Go.Eng
