/- slices.SortFunc over structs of plain data, by texts that are apart: handed memory of the caller's own, by the library's contract. Asked: less than 2^62 elements, no text twice. -/
import Derived.Test.YtkecdcgcpccnfaaGreatDoorTrO
import Derived.Test.YtkecdcgcpccnfaaGreatDoorTrG
import Derived.Shelf.SlSortCmp.NoneTotal
namespace Go.Eng
open Go Go.RowKit Go.Sort Go.Proofs Go.Shelf

variable {P : Program}

/-! The cells of plain data. -/
def encV : (t : Ty) → El t → List Value
  | .int k, n => [.int k n]
  | .bool, b => [.bool b]
  | .str, s => [.string (bytes s)]
  | .pair a b, x => encV a x.1 ++ encV b x.2
  | .list _, _ => [Go.undef]
def plainT : Ty → Bool
  | .list _ => false
  | .pair a b => plainT a && plainT b
  | _ => true
theorem cellsT_lenV {t : Ty} (h : plainT t = true) (x : El t) : lenA (cellsT t x) = szT t := by
  induction t with
  | pair a b iha ihb =>
    simp only [plainT, Bool.and_eq_true] at h
    show lenA (catA (cellsT a x.1) (cellsT b x.2)) = szT a + szT b
    rw [lenA_cat, iha h.1 x.1, ihb h.2 x.2]
  | list _ => cases h
  | _ => rfl
theorem encV_len {t : Ty} (h : plainT t = true) (x : El t) : (encV t x).length = szT t := by
  induction t with
  | pair a b iha ihb =>
    simp only [plainT, Bool.and_eq_true] at h
    show (encV a x.1 ++ encV b x.2).length = szT a + szT b
    rw [List.length_append, iha h.1 x.1, ihb h.2 x.2]
  | list _ => cases h
  | _ => rfl
theorem encV_cell {t : Ty} (h : plainT t = true) (x : El t) : ∀ v ∈ encV t x, v.oneCell' = true := by
  induction t with
  | pair a b iha ihb =>
    simp only [plainT, Bool.and_eq_true] at h
    intro v hv
    rcases List.mem_append.1 hv with hv | hv
    · exact iha h.1 x.1 v hv
    · exact ihb h.2 x.2 v hv
  | list _ => cases h
  | int _ => intro v hv; cases List.mem_singleton.1 hv; rfl
  | bool => intro v hv; cases List.mem_singleton.1 hv; rfl
  | str => intro v hv; cases List.mem_singleton.1 hv; rfl
theorem encV_rel {t : Ty} (h : plainT t = true) {w : World} {S : Nat → Prop} {v : Value} (x : El t) {j : Nat} (hj : j < szT t) (hr : Rel w S [] v (nth (cellsT t x) j)) : v = (encV t x).getD j Go.undef := by
  induction t generalizing j with
  | pair a b iha ihb =>
    simp only [plainT, Bool.and_eq_true] at h
    have hr : Rel w S [] v (nth (catA (cellsT a x.1) (cellsT b x.2)) j) := hr
    have hj : j < szT a + szT b := hj
    show v = (encV a x.1 ++ encV b x.2).getD j Go.undef
    rw [nth_cat, cellsT_lenV h.1] at hr
    have hl := encV_len h.1 x.1
    by_cases hc : j < szT a
    · rw [if_pos hc] at hr
      rw [iha h.1 x.1 hc hr, List.getD_eq_getElem?_getD, List.getD_eq_getElem?_getD, List.getElem?_append_left (by omega)]
    · rw [if_neg hc] at hr
      rw [ihb h.2 x.2 (by omega) hr, List.getD_eq_getElem?_getD, List.getD_eq_getElem?_getD, List.getElem?_append_right (by omega), hl]
  | list _ => cases h
  | int _ => have : j = 0 := by (have : j < 1 := hj); omega
             subst this; cases hr; rfl
  | bool => have : j = 0 := by (have : j < 1 := hj); omega
            subst this; cases hr; rfl
  | str => have : j = 0 := by (have : j < 1 := hj); omega
           subst this; cases hr; rfl

/-! Texts that are apart; the order by them. -/
def apartB : List Str → Bool
  | [] => true
  | x :: l => !(l.any fun y => eqS x y) && apartB l
theorem eqS_iff (a b : Str) : eqS a b = true ↔ a = b := by unfold eqS; exact beq_iff_eq
theorem apart_inj {α : Type} {key : α → Str} {d : List α} (h : apartB (d.map key) = true) {x y : α} (hx : x ∈ d) (hy : y ∈ d) (hk : key x = key y) : x = y := by
  induction d with
  | nil => cases hx
  | cons a d ih =>
    simp only [List.map_cons, apartB, Bool.and_eq_true, Bool.not_eq_true'] at h
    have hn : ∀ z ∈ d, key a ≠ key z := fun z hz e => by
      have := List.any_eq_false.1 h.1 (key z) (List.mem_map_of_mem hz)
      exact this ((eqS_iff _ _).2 e)
    rcases List.mem_cons.1 hx with e1 | hx' <;> rcases List.mem_cons.1 hy with e2 | hy'
    · rw [e1, e2]
    · exact absurd (e1 ▸ hk) (hn y (by assumption))
    · exact absurd (e2 ▸ hk.symm) (hn x (by assumption))
    · exact ih h.2 hx' hy'
abbrev srtK {α : Type} (key : α → Str) (l : List α) : List α := isortB (fun a b => leS (key a) (key b)) l

theorem ltS_cmp (a b : Str) : decide (Lib.compareBytes a b < 0) = ltS a b := by
  rw [compare_bytes]
  by_cases h : a = b
  · subst h; rw [if_pos rfl, show ltS a a = false from less_irrefl a]; rfl
  · rw [if_neg h]
    cases hl : Op.bytesLess a b with
    | true => show decide ((-1 : Int) < 0) = ltS a b; rw [show ltS a b = true from hl]; rfl
    | false => show decide ((1 : Int) < 0) = ltS a b; rw [show ltS a b = false from hl]; rfl

theorem flatK_map {α β : Type} [Inhabited α] [Inhabited β] (f : α → β) (enc : β → List Value) (k : Nat) (X : List α) : flatK (fun x => enc (f x)) k X.toArray = flatK enc k (X.map f).toArray := by
  unfold flatK
  have hs : (X.map f).toArray.size = X.toArray.size := by simp
  rw [hs]
  apply Array.ext
  · simp
  · intro i h1 h2
    have hi : i < X.length * k := by simpa using h1
    have hk : 0 < k := by
      rcases Nat.eq_zero_or_pos k with h | h
      · rw [h, Nat.mul_zero] at hi; omega
      · exact h
    have hd : i / k < X.length := (Nat.div_lt_iff_lt_mul hk).2 hi
    simp [hd]

theorem sortF_call {ρ : Ren} (L : SlLaysF0.n6 P ρ) {t : Ty} {k : Nat} (aE : ∀ w, (isAgg (ρ.t 24)).run P w = .ok true w) (zE : ∀ w, (Go.sizeOf (ρ.t 24)).run P w = .ok k w) (hpl : plainT t = true) (hk : szT t = k) (key : El t → Str) (g : Nat)
    (eg : ∀ args w, (callFunc g args).run P w = .ok (.enter g args) w)
    (hcmp : ∀ (x y : El t) (W : World), Calls P g #[.agg (encV t x).toArray, .agg (encV t y).toArray] W fun e w' => e = .returned (.int .i64 (Lib.compareBytes (key x) (key y))) ∧ ∃ q os', w' = grow (W.drewN q) os')
    (b cap : Nat) (d : List (El t)) (w : World) (hd : apartB (d.map key) = true) (h0 : d ≠ []) (hH : Holds id w b 0 (@flatK (El t) ⟨dfl t⟩ (encV t) k d.toArray)) (hb : b < w.heap.size) (hsz : d.length < 4611686018427387904) :
    Calls P (ρ.f 6) #[.slice (some ⟨b, 0, none⟩) d.length cap, .func (.func g) #[] #[]] w fun e w' =>
      e = .returned (.tuple #[]) ∧ ∃ n os, w' = grow (putRow id (Sort.ahead w n) b 0 (@flatK (El t) ⟨dfl t⟩ (encV t) k (srtK key d).toArray)) os := by
  letI i0 : Inhabited (El t) := ⟨dfl t⟩
  obtain ⟨z, hz⟩ := List.exists_mem_of_ne_nil d h0
  letI i1 : Inhabited {x // x ∈ d} := ⟨⟨z, hz⟩⟩
  let encA : {x // x ∈ d} → List Value := fun x => encV t x.1
  let cf : {x // x ∈ d} → {x // x ∈ d} → Int := fun x y => Lib.compareBytes (key x.1) (key y.1)
  have hlt : ∀ x y, ltOf cf x y = ltS (key x.1) (key y.1) := fun x y => ltS_cmp _ _
  have hO : SWO (ltOf cf) := {
    irrefl := fun x => by rw [hlt]; exact less_irrefl _
    trans := fun x y z h1 h2 => by rw [hlt] at *; exact less_trans h1 h2
    ntrans := fun x y z h1 h2 => by
      rw [hlt] at *
      have := leS_trans (key z.1) (key y.1) (key x.1) (by unfold leS; rw [h2]; rfl) (by unfold leS; rw [h1]; rfl)
      unfold leS at this
      simpa using this }
  have hT : ∀ x y, ltOf cf x y = false → ltOf cf y x = false → x = y := fun x y h1 h2 => by
    rw [hlt] at h1 h2
    exact Subtype.ext (apart_inj hd x.2 y.2 (less_total h1 h2))
  have hmap : d.attach.map (·.1) = d := List.attach_map_subtype_val d
  have hfl : flatK encA k d.attach.toArray = flatK (encV t) k d.toArray := by
    rw [show flatK encA k d.attach.toArray = _ from flatK_map (fun x : {x // x ∈ d} => x.1) (encV t) k d.attach, hmap]
  have hsz' : d.attach.toArray.size = d.length := by simp
  have hcon := AnyQ.slices_SortFunc_total L k aE zE encA (fun x => by rw [← hk]; exact encV_len hpl x.1) (fun x => encV_cell hpl x.1) cf hO g #[] b 0 cap d.attach.toArray w eg (fun _ _ _ _ x y => hcmp x.1 y.1 _) (show Holds id w b 0 _ by rw [hfl]; exact hH) hb (by rw [hsz']; exact hsz) hT
  rw [hsz'] at hcon
  refine hcon.mono fun e w' h => ?_
  obtain ⟨he, n, os, hw⟩ := h
  refine ⟨he, n, os, ?_⟩
  rw [hw]
  show grow (putRow id (Sort.ahead w n) b 0 (flatK encA k _)) os = _
  have hle : (fun x y => !(ltOf cf) y x) = fun x y : {x // x ∈ d} => leS (key x.1) (key y.1) := by
    funext x y; rw [hlt]; rfl
  have hres : ((d.attach.toArray.toList.mergeSort fun x y => !(ltOf cf) y x).map (·.1)) = srtK key d := by
    rw [hle]
    have hp : ((d.attach.mergeSort fun x y => leS (key x.1) (key y.1)).map (·.1)).Perm d := by
      have := (List.mergeSort_perm d.attach (fun x y => leS (key x.1) (key y.1))).map (·.1)
      rwa [hmap] at this
    have hs := isortB_perm (fun a b => leS (key a) (key b)) d
    refine List.Perm.eq_of_pairwise (le := fun a b => leS (key a) (key b) = true) (fun a b ha hb h1 h2 => ?_) ?_ (isortB_sorted (le := fun a b => leS (key a) (key b)) (fun a b c => leS_trans _ _ _) (fun a b => leS_total _ _) d) (hp.trans hs.symm)
    · exact apart_inj hd (hp.mem_iff.1 ha) (hs.mem_iff.1 hb) (leS_anti _ _ h1 h2)
    · rw [List.pairwise_map]
      have h1 : ∀ a b c : {x // x ∈ d}, leS (key a.1) (key b.1) = true → leS (key b.1) (key c.1) = true → leS (key a.1) (key c.1) = true := fun a b c => leS_trans _ _ _
      have h2 : ∀ a b : {x // x ∈ d}, (leS (key a.1) (key b.1) || leS (key b.1) (key a.1)) = true := fun a b => by
        cases h : leS (key a.1) (key b.1) with
        | true => rfl
        | false => rw [leS_total _ _ h]; rfl
      exact List.pairwise_mergeSort (le := fun x y : {x // x ∈ d} => leS (key x.1) (key y.1)) h1 h2 _
  rw [show flatK encA k _ = _ from flatK_map (fun x : {x // x ∈ d} => x.1) (encV t) k _, hres]

theorem sortf_scalls {f g : Nat} {t : Ty} {e k : Nat} (hpl : plainT t = true) (hk : szT t = k) (hk0 : 0 < k) (key : El t → Str)
    (hcall : ∀ (b cap : Nat) (d : List (El t)) (w : World), apartB (d.map key) = true → d ≠ [] → Holds id w b 0 (@flatK (El t) ⟨dfl t⟩ (encV t) k d.toArray) → b < w.heap.size → d.length < 4611686018427387904 →
      Calls P f #[.slice (some ⟨b, 0, none⟩) d.length cap, .func (.func g) #[] #[]] w fun e w' => e = .returned (.tuple #[]) ∧ ∃ n os, w' = grow (putRow id (Sort.ahead w n) b 0 (@flatK (El t) ⟨dfl t⟩ (encV t) k (srtK key d).toArray)) os)
    (hnone : ∀ (p : Option Addr) (cap : Nat) (fv : Value) (w : World), Calls P f #[.slice p 0 cap, fv] w fun e w' => e = .returned (.tuple #[]) ∧ w' = w)
    (henter : ∀ args w, (callFunc f args).run P w = .ok (.enter f args) w) :
    MSig.ok P ⟨f, .cons (.own 0) (.cons (.fn g .nil .nil) .nil), .rows e t .nil, [], .nil, .rows e t .nil, none, fun z => ask (decide (z.2.1.length < 4611686018427387904)) (ask (apartB (z.2.1.map key)) (.ret ((), (srtK key z.2.1, ()))))⟩ := by
  letI i0 : Inhabited (El t) := ⟨dfl t⟩
  rintro ⟨⟨_, _⟩, x, _⟩ y hy Z w S m vs hM hR
  have hy : (bif decide (x.length < 4611686018427387904) then (bif apartB (x.map key) then some ((), (srtK key x, ())) else none) else none) = some y := hy
  cases hd : decide (x.length < 4611686018427387904) with
  | false => rw [hd] at hy; cases hy
  | true =>
  cases hap : apartB (x.map key) with
  | false => rw [hd, hap] at hy; cases hy
  | true =>
  rw [hd, hap] at hy
  injection hy with hy
  subst hy
  have hd := of_decide_eq_true hd
  refine .inl ⟨henter _ _, ?_⟩
  obtain ⟨hs, hr⟩ := hR
  have hs : vs.size = 2 := hs
  have hvs : vs = #[vs.getD 0 Go.undef, vs.getD 1 Go.undef] := by
    apply Array.ext
    · simpa using hs
    · intro i h1 h2
      have : i = 0 ∨ i = 1 := by omega
      rcases this with rfl | rfl <;> simp [Array.getD_eq_getD_getElem?, h1]
  have hv : Rel w S m (vs.getD 0 Go.undef) (.ownT 0) := hr 0 (by show 0 < 2; omega)
  have hf : Rel w S m (vs.getD 1 Go.undef) (.fn (.func g) [] []) := hr 1 (by show 1 < 2; omega)
  rw [hvs]
  generalize vs.getD 0 Go.undef = v at hv
  generalize vs.getD 1 Go.undef = fv at hf
  have hfv : fv = .func (.func g) #[] #[] := by
    cases hf with
    | fn _ _ fs cs _ _ hl hl' =>
      have e1 : fs = #[] := Array.eq_empty_of_size_eq_zero hl
      have e2 : cs = #[] := Array.eq_empty_of_size_eq_zero hl'
      rw [e1, e2]
  subst hfv
  have hfin : ∀ w' : World, Rel w' S m (.tuple #[]) (.tup []) := fun w' => .tup _ _ _ rfl fun i hi => absurd hi (Nat.not_lt_zero i)
  have hlen : (srtK key x).length = x.length := (isortB_perm _ x).length_eq
  cases hv with
  | ownT0 _ a _ h0 =>
    have hB := hM.bk _ _ h0
    have hx : x.length = 0 := hB
    have hx : x = [] := List.length_eq_zero_iff.1 hx
    subst hx
    refine Calls.mono (hnone a 0 _ w) fun en w' h => ?_
    obtain ⟨rfl, rfl⟩ := h
    exact ⟨_, S, m, rfl, Trans.refl _ _ _ _, hM, hfin _⟩
  | ownT _ _ l h0 hc =>
    have hB := hM.bk _ _ h0
    obtain ⟨b1, b2, b3, b4, vs', b5, b6, b7⟩ := hB
    have b2 : l.n = x.length := b2
    have b3 : x.length ≤ l.cap := b3
    rw [hk] at b1 b6
    have b7 : ∀ i, i < x.length → ∀ j, j < k → (vs'.getD (i * k + j) Go.undef).oneCell' = true ∧ Rel w S [] (vs'.getD (i * k + j) Go.undef) (vw t x i j) := fun i hi j hj => by
      have := b7 i hi j (by rw [hk]; exact hj)
      rwa [hk] at this
    have hlt := hM.lt _ _ h0
    by_cases hne : x = []
    · subst hne
      rw [b2]
      refine Calls.mono (hnone _ _ _ w) fun en w' h => ?_
      obtain ⟨rfl, rfl⟩ := h
      exact ⟨_, S, m, rfl, Trans.refl _ _ _ _, hM, hfin _⟩
    have hcellE : ∀ i (hi : i < x.length) j, j < k → vs'.getD (i * k + j) Go.undef = (encV t x[i]).getD j Go.undef := fun i hi j hj => by
      refine encV_rel hpl (w := w) (S := S) x[i] (by rw [hk]; exact hj) ?_
      have := (b7 i hi j hj).2
      unfold vw rowT at this
      rwa [getD_lt _ _ _ hi] at this
    have hflat : ∀ (d : List (El t)) (i : Nat) (hi : i < d.length) (j : Nat), j < k → (flatK (encV t) k d.toArray)[i * k + j]! = (encV t d[i]).getD j Go.undef := fun d i hi j hj => by
      have hin : i * k + j < d.toArray.size * k := by
        have : (i + 1) * k ≤ d.length * k := Nat.mul_le_mul_right k hi
        rw [Nat.add_mul, Nat.one_mul] at this
        simp only [List.size_toArray]
        omega
      rw [get_flatK _ _ _ _ hin]
      have e1 : (i * k + j) / k = i := by rw [Nat.mul_comm, Nat.mul_add_div hk0, Nat.div_eq_of_lt hj, Nat.add_zero]
      have e2 : (i * k + j) % k = j := by rw [Nat.mul_comm, Nat.mul_add_mod, Nat.mod_eq_of_lt hj]
      rw [e1, e2]
      have e3 : d.toArray[i]! = d[i] := by simp [hi]
      have hl : j < (encV t d[i]).length := by rw [encV_len hpl, hk]; exact hj
      rw [e3, getElem!_pos _ j hl, List.getD_eq_getElem?_getD, List.getElem?_eq_getElem hl]; rfl
    have hdm : ∀ p, p < x.length * k → ∃ i j, i < x.length ∧ j < k ∧ p = i * k + j := fun p hp =>
      ⟨p / k, p % k, (Nat.div_lt_iff_lt_mul hk0).2 hp, Nat.mod_lt _ hk0, by rw [Nat.mul_comm]; exact (Nat.div_add_mod p k).symm⟩
    have hbig : x.length * k ≤ l.cap * k := Nat.mul_le_mul_right k b3
    have hH : Holds id w l.g 0 (flatK (encV t) k x.toArray) := fun p hp => by
      have hp : p < x.length * k := by simpa using hp
      obtain ⟨i, j, hi, hj, rfl⟩ := hdm p hp
      rw [Nat.zero_add]
      refine ⟨?_, ?_⟩
      · rw [blk_cell b5 (by rw [b6]; omega), hcellE i hi j hj]
        show _ = some ((flatK (encV t) k x.toArray)[i * k + j]!)
        rw [hflat x i hi j hj]
      · exact FzOk.free (n := l.cap * k) (Loc.fzOk (by rw [b1])) (by omega) b5
    rw [b2]
    refine Calls.mono (hcall l.g l.cap x w hap hne hH hlt.2.1 hd) fun en w' h => ?_
    obtain ⟨rfl, n, os, rfl⟩ := h
    generalize hF : flatK (encV t) k (srtK key x).toArray = F
    have hFs : F.size = x.length * k := by rw [← hF, size_flatK, List.size_toArray, hlen]
    have hsz : (putRow id (Sort.ahead w n) l.g 0 F).heap.size = w.heap.size := by unfold putRow mapBlock; simp [Sort.ahead]
    have hold : ∀ b, b < w.heap.size → (grow (putRow id (Sort.ahead w n) l.g 0 F) os).heap[b]? = (w.heap.modify l.g (onCells (putCells id 0 F)))[b]? := fun b hb => by
      rw [heap_grow_old _ _ (by rw [hsz]; exact hb)]; rfl
    have hoth : ∀ b, b < w.heap.size → b ≠ l.g → (grow (putRow id (Sort.ahead w n) l.g 0 F) os).heap[b]? = w.heap[b]? := fun b hb hne => by
      rw [hold b hb, Array.getElem?_modify, if_neg (fun e => hne e.symm)]
    have hown : (grow (putRow id (Sort.ahead w n) l.g 0 F) os).heap[l.g]? = some (.cells (putCells id 0 F vs') e l.fz) := by
      rw [hold l.g hlt.2.1, Array.getElem?_modify, if_pos rfl, b5]; rfl
    obtain ⟨ht1, ht2⟩ := hM.turn 0 l h0 (.trows e t (srtK key x)) (fun h => h)
      (w' := grow (putRow id (Sort.ahead w n) l.g 0 F) os)
      ⟨rfl, rfl, rfl, by rw [size_grow, hsz]; omega, fun k hk => hoth k (hM.base_le k hk) fun e => hlt.1 (e ▸ hk)⟩ hoth
      ⟨by rw [hk]; exact b1, by rw [hlen]; exact b2, by rw [hlen]; exact b3, b4, _, hown, by unfold putCells; rw [Array.size_mapIdx, b6, hk], fun i hi j hj => by
        rw [hk] at hj ⊢
        have hi' : i < x.length := by rw [hlen] at hi; exact hi
        have hin : i * k + j < x.length * k := by
          have : (i + 1) * k ≤ x.length * k := Nat.mul_le_mul_right k hi'
          rw [Nat.add_mul, Nat.one_mul] at this
          omega
        have hget : (putCells id 0 F vs').getD (i * k + j) Go.undef = (encV t (srtK key x)[i]).getD j Go.undef := by
          unfold putCells
          have h1 : i * k + j < (Array.mapIdx (fun q y => if 0 ≤ q ∧ q < 0 + F.size then id (F[q - 0]!) else y) vs').size := by rw [Array.size_mapIdx, b6]; omega
          rw [Array.getD_eq_getD_getElem?, Array.getElem?_eq_getElem h1, Array.getElem_mapIdx, if_pos ⟨Nat.zero_le _, by omega⟩, Nat.sub_zero]
          show F[i * k + j]! = _
          rw [← hF, hflat _ i hi j hj]
        rw [hget]
        obtain ⟨q, hq, hqe⟩ := List.mem_iff_getElem.1 ((isortB_perm _ x).mem_iff.1 (List.getElem_mem hi))
        have hrk := b7 q hq j hj
        rw [hcellE q hq j hj, hqe] at hrk
        refine ⟨hrk.1, ?_⟩
        have e1 : vw t x q j = vw t (srtK key x) i j := by
          unfold vw rowT
          rw [getD_lt _ _ _ hq, getD_lt _ _ _ hi, hqe]
        have hrk := hrk.2
        rw [e1] at hrk
        exact hrk.mono (fun _ h => h) (fun b hb => hoth b (hM.sb b hb) fun e => hlt.2.2 (e ▸ hb)) _ (fun _ _ h => h)⟩
    exact ⟨_, S, m, rfl, ht1, ht2, hfin _⟩
end Go.Eng
