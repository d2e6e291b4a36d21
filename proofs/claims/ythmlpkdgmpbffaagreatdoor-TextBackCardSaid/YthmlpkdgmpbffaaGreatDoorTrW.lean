/- The kit's strings.Builder in memory of the call's own: what copyCheck and String do to it. -/
import Derived.Test.YthmlpkdgmpbffaaGreatDoorTrG
import Derived.Test.YthmlpkdgmpbffaaGreatDoorEngT
import Derived.Lib.UnsafeStr
import Derived.Lib.Builder
import Derived.Shelf.Abstract
import Derived.BigCall
import Derived.Shelf.RegionOpenPlain
import Derived.WalkKit
namespace Go.Proofs
open Go Go.RowKit Go.Shelf Go.Eng

set_option maxHeartbeats 1000000 in
set_option maxRecDepth 100000 in
theorem copyCheck_used (b : Nat) (w : World) (h0 : w.cell? ⟨b, 0, none⟩ = some (.pointer (some ⟨b, 0, none⟩))) :
    Calls Tryz.prog 55 #[.pointer (some ⟨b, 0, none⟩)] w fun e w' => e = .returned (.tuple #[]) ∧ w' = w := by
  obtain ⟨j, hj, _⟩ := Option.map_eq_some_iff.1 (show (Tryz.prog.info? 64).map (·.size) = some 2 by kernel_rfl)
  go_enter Tryz.func55, Tryz.ntmps55
  go_wp2
  rw [Lib.run_neq_ptr_same w _ Tryz.underlying61 hj]
  go_wp2
  go_end0
  exact ⟨rfl, rfl⟩

set_option maxHeartbeats 1000000 in
set_option maxRecDepth 100000 in
theorem copyCheck_fresh (b e : Nat) (w : World) (h0 : w.cell? ⟨b, 0, none⟩ = some (.pointer none)) (hsh : w.shape? b = some (e, 2)) (hfz : w.frozen? ⟨b, 0, none⟩ = false) (hl : liesAt Tryz.prog Tryz.prog.depth e (2 / Tryz.prog.cellsOf e) 0 64 1 = true) :
    Calls Tryz.prog 55 #[.pointer (some ⟨b, 0, none⟩)] w fun e w' => e = .returned (.tuple #[]) ∧ w' = w.setCell ⟨b, 0, none⟩ (.pointer (some ⟨b, 0, none⟩)) := by
  obtain ⟨j, hj, hjs⟩ := Option.map_eq_some_iff.1 (show (Tryz.prog.info? 64).map (·.size) = some 2 by kernel_rfl)
  go_enter Tryz.func55, Tryz.ntmps55
  go_wp2
  rw [Lib.run_to_unsafe w ⟨b, 0, none⟩ Tryz.underlying61 Tryz.underlying111 hj (by rw [hjs]; decide) hsh (Nat.zero_lt_succ 1)]
  simp only [Result.andThen]
  rw [Oper.upon_value]
  go_wp2
  rw [run_callFunc_extern Tryz.func73 (by kernel_rfl) (by kernel_rfl) (by kernel_rfl) (e := Extern.AbiNoEscape.same) (by kernel_rfl)]
  rw [Lib.run_noEscape]
  simp only [Result.andThen]
  rw [Oper.upon_value]
  go_wp2
  rw [Lib.run_from_unsafe w ⟨b, 0, none⟩ Tryz.underlying111 Tryz.underlying61 hj hsh hl]
  simp only [Result.andThen]
  rw [Oper.upon_value]
  go_wp2
  go_end0
  exact ⟨rfl, rfl⟩

set_option maxHeartbeats 1000000 in
set_option maxRecDepth 100000 in
/-- (*strings.Builder).String: of at least one byte. -/
theorem builder_String (b g cap n : Nat) (l : List UInt8) (h0 : l ≠ []) (w : World) (hc : w.cell? ⟨b, 1, none⟩ = some (.slice (some ⟨g, 0, none⟩) l.length cap)) (hsh : w.shape? g = some (5, n)) (hn : l.length ≤ n) (hcap : l.length ≤ cap) (h63 : l.length ≤ 9223372036854775807)
    (hb : ∀ j x, l[j]? = some x → w.cell? ⟨g, j, none⟩ = some (.int .u8 x.toNat)) :
    Calls Tryz.prog 30 #[.pointer (some ⟨b, 0, none⟩)] w fun e w' => e = .returned (.string ⟨l.toArray⟩) ∧ w' = w.drew.freeze ⟨g, 0, none⟩ l.length := by
  have hl0 : l.length ≠ 0 := by simpa using h0
  have c1 : w.drew.cell? ⟨b, 1, none⟩ = some (.slice (some ⟨g, 0, none⟩) l.length cap) := hc
  have hSD : (Builtin.unsafeSliceData_ #[62] 98 #[.slice (some ⟨g, 0, none⟩) l.length cap]).run Tryz.prog w.drew = .ok (.pointer (some ⟨g, 0, none⟩)) w.drew :=
    Lib.run_unsafeSliceData_row _ _ _ _ _ _ (by omega)
  have hUS : (Builtin.unsafeString_ #[98, 3] 9 #[.pointer (some ⟨g, 0, none⟩), .int .i64 l.length]).run Tryz.prog w.drew = .ok (.string ⟨l.toArray⟩) (w.drew.freeze ⟨g, 0, none⟩ l.length) :=
    Lib.run_unsafeString_row w.drew 98 3 9 5 Tryz.underlying98 (by kernel_rfl) g n hsh l h0 hn h63 (fun j x hx => by rw [add_zero_none]; exact hb j x hx)
  have mixed := mix
  go_enter Tryz.func30, Tryz.ntmps30
  go_wp2
  go_region_o
  all_goals (go_wp2; go_ret; exact ⟨rfl, rfl⟩)
end Go.Proofs
namespace Go.Eng
open Go Go.RowKit Go.Proofs

abbrev qW (e : Nat) : PM := .cells e (.cons (.selfp 0) (.cons (.own 1) .nil)) (.rows 5 (.int .u8) .nil)
abbrev qW' (e : Nat) : PM := .cells e (.cons (.selfp 0) (.cons .any .nil)) (.dead .nil)
theorem one_ref {w : World} {S : Nat → Prop} {m : Locs} {vs : Array Value} (h : RelL w S m vs [.ref 0 0]) : ∃ l : Loc, vs = #[.pointer (some ⟨l.g, 0, none⟩)] ∧ m[0]? = some (some l) := by
  obtain ⟨hsz, h⟩ := h
  have hsz : vs.size = 1 := hsz
  obtain ⟨vs⟩ := vs
  match vs, hsz with
  | [v], _ =>
    have h := h 0 (by show 0 < 1; omega)
    change Rel w S m v (.ref 0 0) at h
    cases h with
    | ref _ _ _ l h0 => exact ⟨l, rfl, h0⟩
theorem two_cells {w : World} {S : Nat → Prop} {m : Locs} {l : Loc} {e : Nat} {a b : AV} (h : BRel w S m (some l) (.cells e [a, b])) : ∃ c0 c1, w.heap[l.g]? = some (.cells #[c0, c1] e (0, 0)) ∧ c0.oneCell' = true ∧ c1.oneCell' = true ∧ Rel w S m c0 a ∧ Rel w S m c1 b := by
  obtain ⟨vs, h1, h2, h3, h4⟩ := h
  have h2 : vs.size = 2 := h2
  obtain ⟨vs⟩ := vs
  match vs, h2 with
  | [c0, c1], _ => exact ⟨c0, c1, h1, h3 0 (by show 0 < 2; omega), h3 1 (by show 1 < 2; omega), h4 0 (by show 0 < 2; omega), h4 1 (by show 1 < 2; omega)⟩
theorem cells_two {w : World} {S : Nat → Prop} {m : Locs} {l : Loc} {e : Nat} {a b : AV} {c0 c1 : Value} (h1 : w.heap[l.g]? = some (.cells #[c0, c1] e (0, 0))) (h2 : c0.oneCell' = true) (h3 : c1.oneCell' = true) (h4 : Rel w S m c0 a) (h5 : Rel w S m c1 b) : BRel w S m (some l) (.cells e [a, b]) := by
  refine ⟨#[c0, c1], h1, rfl, fun i hi => ?_, fun i hi => ?_⟩
  · match i, hi with
    | 0, _ => exact h2
    | 1, _ => exact h3
  · match i, hi with
    | 0, _ => exact h4
    | 1, _ => exact h5
theorem Rel.nothing (w : World) (S : Nat → Prop) (m : Locs) : Rel w S m (.tuple #[]) (.tup []) := .tup _ _ _ rfl fun i hi => absurd hi (Nat.not_lt_zero i)

theorem copyCheck_msig (e : Nat) (hl : liesAt Tryz.prog Tryz.prog.depth e (2 / Tryz.prog.cellsOf e) 0 64 1 = true) : MSig.ok Tryz.prog ⟨55, .cons (.ref 0 0) .nil, qW e, [], .nil, qW e, none, fun z => .ret ((), z.2)⟩ := by
  intro x y hy Z w S m vs hM hargs
  have hy : some ((), x.2) = some y := hy
  injection hy with hy
  subst hy
  obtain ⟨l, rfl, h0⟩ := one_ref hargs
  have hB0 : BRel w S m (some l) (.cells e [.selfp 0, .ownT 1]) := bk_of hM h0
  obtain ⟨c0, c1, b1, b2, b3, b4, b5⟩ := two_cells hB0
  have hlt := hM.lt _ _ h0
  have hcell : w.cell? ⟨l.g, 0, none⟩ = some c0 := blk_cell b1 (o := 0) (by show 0 < 2; omega)
  have hen := enters_of Tryz.func55 (by kernel_rfl) rfl #[.pointer (some ⟨l.g, 0, none⟩)] w
  have same : Calls Tryz.prog 55 #[.pointer (some ⟨l.g, 0, none⟩)] w (fun e w' => e = .returned (.tuple #[]) ∧ w' = w) → Via Tryz.prog 55 #[.pointer (some ⟨l.g, 0, none⟩)] w (SPost Z w S m ⟨.tup [], encM (qW e) x.2, [], none⟩) := fun h => .inl ⟨hen, Calls.mono h (by
    rintro e w' ⟨rfl, rfl⟩
    exact ⟨_, S, m, rfl, Trans.refl _ _ _ _, hM, Rel.nothing _ _ _⟩)⟩
  cases b4 with
  | selfp _ _ l' h0' =>
    have e9 : l' = l := Option.some.inj (Option.some.inj (h0'.symm.trans h0))
    rw [e9] at hcell
    exact same (copyCheck_used _ w hcell)
  | selfp0 =>
    have hsh : w.shape? l.g = some (e, 2) := by simp [World.shape?, b1]
    have hfz : w.frozen? ⟨l.g, 0, none⟩ = false := by simp [World.frozen?, b1]
    refine .inl ⟨hen, Calls.mono (copyCheck_fresh l.g e w hcell hsh hfz hl) ?_⟩
    rintro e' w' ⟨rfl, rfl⟩
    rw [setCell_eq_setRow w l.g 0 _ e (0, 0) (.pointer (some ⟨l.g, 0, none⟩)) b1]
    have hst : ∀ b, b < w.heap.size → b ≠ l.g → (w.setRow l.g ((#[.pointer none, c1] : Array Value).setIfInBounds 0 (.pointer (some ⟨l.g, 0, none⟩)))).heap[b]? = w.heap[b]? := fun b _ hne => setRow_other w l.g b _ hne
    obtain ⟨ht, hm⟩ := hM.turn 0 l h0 (.cells e [.selfp 0, .ownT 1]) (fun _ => rfl) (setRow_below l.g _ hlt.1) hst
      (cells_two (setRow_heap w l.g _ _ e _ b1) rfl b3 (.selfp _ _ _ h0) (b5.mono (fun _ h => h) (fun b hb => hst b (hM.sb b hb) (fun e => hlt.2.2 (e ▸ hb))) _ (fun _ _ h => h)))
    exact ⟨_, S, m, rfl, ht, hm, Rel.nothing _ _ _⟩

theorem heap_freeze (w : World) {g n : Nat} {cs : Array Value} {e : TypeId} {fz : Nat × Nat} (h : w.heap[g]? = some (.cells cs e fz)) : (∀ b, b ≠ g → (w.freeze ⟨g, 0, none⟩ n).heap[b]? = w.heap[b]?) ∧ (w.freeze ⟨g, 0, none⟩ n).heap.size = w.heap.size := by
  unfold World.freeze
  split
  · exact ⟨fun _ _ => rfl, rfl⟩
  · refine ⟨fun b hb => ?_, by simp⟩
    simp [Array.getElem?_modify, Ne.symm hb]
theorem prot_freeze (w : World) (Z : Nat → Prop) {g n : Nat} (hg : ¬ Z g) (h2 : (∀ b, b ≠ g → (w.freeze ⟨g, 0, none⟩ n).heap[b]? = w.heap[b]?) ∧ (w.freeze ⟨g, 0, none⟩ n).heap.size = w.heap.size) : Prot Z w (w.freeze ⟨g, 0, none⟩ n) := by
  refine ⟨?_, ?_, ?_, Nat.le_of_eq h2.2.symm, fun k hk => h2.1 k (fun e => hg (e ▸ hk))⟩
  all_goals (unfold World.freeze; split <;> rfl)

abbrev qF (e : Nat) : PM := .cells e (.cons (.selfp 0) (.cons (.own 1) .nil)) (.fro 5 (.int .u8) .nil)
theorem heap_freeze_at (w : World) {g n : Nat} {cs : Array Value} {e : TypeId} {fz : Nat × Nat} (h : w.heap[g]? = some (.cells cs e fz)) : ∃ fz', (w.freeze ⟨g, 0, none⟩ n).heap[g]? = some (.cells cs e fz') := by
  obtain ⟨lo, hi⟩ := fz
  unfold World.freeze
  split
  · exact ⟨_, h⟩
  · refine ⟨if lo == hi then (0, 0 + n) else (min lo 0, max hi (0 + n)), ?_⟩
    simp [Array.getElem?_modify, h]

theorem string_frozen (e : Nat) {Z : Env} {w : World} {S : Nat → Prop} {m : Locs} {xl : List Int} {B : ABlk} (hpos : 0 < xl.length) (hM : MRel Z w S m [.cells e [.selfp 0, .ownT 1], B]) {l l1 : Loc} (h0 : m[0]? = some (some l)) (h1 : m[1]? = some (some l1)) (hcells : isCells B = false)
    {c0 c1 : Value} (b1 : w.heap[l.g]? = some (.cells #[c0, c1] e (0, 0))) (hc1e : c1 = .slice (some ⟨l1.g, 0, none⟩) l1.n l1.cap)
    (q1 : l1.sz = szT (.int .u8)) (q2 : l1.n = xl.length) (q3 : xl.length ≤ l1.cap) (q4 : l1.cap ≤ maxLen) {vs0 : Array Value} {fz : Nat × Nat} (q5 : w.heap[l1.g]? = some (.cells vs0 5 fz)) (q6 : vs0.size = l1.cap * szT (.int .u8))
    (q7 : ∀ i, i < xl.length → ∀ j, j < szT (.int .u8) → (vs0.getD (i * szT (.int .u8) + j) Go.undef).oneCell' = true ∧ Rel w S [] (vs0.getD (i * szT (.int .u8) + j) Go.undef) (vw (.int .u8) xl i j)) :
    Via Tryz.prog 30 #[.pointer (some ⟨l.g, 0, none⟩)] w (SPost Z w S m ⟨.str (strB xl), encM (qF e) (((), ((), ())), (xl, ())), [], none⟩) := by
  have hen := enters_of Tryz.func30 (by kernel_rfl) rfl #[.pointer (some ⟨l.g, 0, none⟩)] w
  have hrow := byteRow_of q7
  have q6' : vs0.size = l1.cap := by rw [q6]; exact Nat.mul_one _
  have hlt := hM.lt _ _ h1
  subst hc1e
  have hc : w.cell? ⟨l.g, 1, none⟩ = some (.slice (some ⟨l1.g, 0, none⟩) (strB xl).length l1.cap) := by
    rw [show (strB xl).length = l1.n from by simp [strB, q2]]
    exact blk_cell b1 (o := 1) (by show 1 < 2; omega)
  have hlen : (strB xl).length = xl.length := by simp [strB]
  have hne : strB xl ≠ [] := fun e => by rw [e] at hlen; simp at hlen; omega
  have hw : ∀ v ∈ xl, (Lit.int .u8 v).wf = true := fun v hv => by
    obtain ⟨i, hi, rfl⟩ := List.getElem_of_mem hv
    have := (hrow i hi).2
    simpa [List.getD, hi] using this
  have hm9 : l1.cap ≤ 9223372036854775807 := by have := q4; unfold maxLen at this; exact this
  refine .inl ⟨hen, Calls.mono (builder_String l.g l1.g l1.cap vs0.size (strB xl) hne w hc (by simp [World.shape?, q5]) (by omega) (by omega) (by omega) (fun j b hj => ?_)) ?_⟩
  · have hj' : j < (strB xl).length := (List.getElem?_eq_some_iff.1 hj).1
    have hj2 : j < xl.length := by omega
    have hbj : (strB xl)[j] = b := (List.getElem?_eq_some_iff.1 hj).2
    rw [blk_cell q5 (o := j) (by omega), (hrow j hj2).1, ← hbj, strB_get hj2 hw]
    simp [List.getD, hj2]
  · rintro e' w' ⟨rfl, rfl⟩
    have hfr := heap_freeze w.drew (n := (strB xl).length) (show w.drew.heap[l1.g]? = _ from q5)
    obtain ⟨fz', hat⟩ := heap_freeze_at w.drew (n := (strB xl).length) (show w.drew.heap[l1.g]? = _ from q5)
    have hp : Prot Z.Z w (w.drew.freeze ⟨l1.g, 0, none⟩ (strB xl).length) := (Prot.refl Z.Z w).drew.trans (prot_freeze w.drew Z.Z hlt.1 hfr)
    obtain ⟨ht, hm⟩ := hM.turn 1 l1 h1 (.fro 5 (.int .u8) xl) (fun h => by rw [show blk [ABlk.cells e [.selfp 0, .ownT 1], B] 1 = B from rfl, hcells] at h; cases h) hp (fun b _ hne => hfr.1 b hne)
      ⟨q1, q2, q3, q4, vs0, fz', hat, q6, hrow.rows _ _⟩
    exact ⟨_, S, m, rfl, ht, hm, .str _ _ (by rw [hlen]; omega)⟩

theorem builder_String_msigF (e : Nat) : MSig.ok Tryz.prog ⟨30, .cons (.ref 0 0) .nil, qW e, [], .val false .str, qF e, none, fun z => ask (decide (0 < z.2.2.1.length)) (.ret (strB z.2.2.1, (((), ((), ())), (z.2.2.1, ()))))⟩ := by
  intro x y hy Z w S m vs hM hargs
  obtain ⟨xa, xc, xl, xu⟩ := x
  have hy : (bif decide (0 < xl.length) then some (strB xl, (((), ((), ())), (xl, ()))) else none) = some y := hy
  have hpos : 0 < xl.length := by
    cases h : decide (0 < xl.length) with
    | true => exact of_decide_eq_true h
    | false => rw [h] at hy; cases hy
  rw [decide_eq_true hpos] at hy
  have hy : some (strB xl, (((), ((), ())), (xl, ()))) = some y := hy
  injection hy with hy
  subst hy
  obtain ⟨l, rfl, h0⟩ := one_ref hargs
  have hB0 : BRel w S m (some l) (.cells e [.selfp 0, .ownT 1]) := bk_of hM h0
  obtain ⟨c0, c1, b1, b2, b3, b4, b5⟩ := two_cells hB0
  cases b5 with
  | ownT0 _ _ _ h1 =>
    have hB := hM.bk _ _ h1
    have hB : xl.length = 0 := hB
    omega
  | ownT _ _ l1 h1 hc1 =>
    have hB : BRel w S m (some l1) (.trows 5 (.int .u8) xl) := bk_of hM h1
    obtain ⟨q1, q2, q3, q4, vs0, q5, q6, q7⟩ := hB
    exact string_frozen e hpos hM h0 h1 rfl b1 rfl q1 q2 q3 q4 q5 q6 q7

end Go.Eng
