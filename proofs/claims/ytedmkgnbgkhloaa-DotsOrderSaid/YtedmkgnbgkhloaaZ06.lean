/- Laws in plain Lean: z06. -/
import Derived.Test.YtedmkgnbgkhloaaW06
namespace Go.Eng
open Go Go.Proofs Go.RowKit

/-! Few. -/
def q06 (x : Seen) : Bool := (decide ((100 : Int) < (x.1.length : Int))) || (decide ((40 : Int) < (x.2.2.length : Int)))
theorem few06_run (c : List Seen) : (r06_Few_T c).run = some (fewB q06 12 c) := by
  unfold r06_Few_T
  refine few_tree c 12 q06 (fun v => r06_Few_L2_step c v) (by omega) 12 rfl (fun i hi hm => ?_) (fun i hi => ?_)
  · have h4 : (i : Int) < 12 := by omega
    unfold r06_Few_L2_step q06
    simp only [Tree.run, Int.ofNat_lt, hi, h4, decide_true, cond_true, inb_nat, Int.toNat_natCast, getD_lt _ _ _ hi, Bool.and_true, Bool.or_true]
    cases (decide ((100 : Int) < (c[i].1.length : Int))) || (decide ((40 : Int) < (c[i].2.2.length : Int))) <;> rfl
  · have : (decide ((i : Int) < (c.length : Int)) && decide ((i : Int) < 12)) = false := by
      simp only [Bool.and_eq_false_iff, decide_eq_false_iff_not]; omega
    unfold r06_Few_L2_step
    simp only [Tree.run, this, cond_false]
/-- Bounds of a context. -/
def SmN (n m : Nat) (c : List Seen) : Prop := c.length ≤ n ∧ ∀ x ∈ c, x.1.length ≤ 100 ∧ x.2.2.length ≤ m
theorem few06_small {c : List Seen} (h : fewB q06 12 c = true) : SmN 12 40 c := ⟨fewB_len h, fun x hx => by
  have := fewB_mem h hx
  unfold q06 at this
  simp only [Bool.or_eq_false_iff, decide_eq_false_iff_not] at this
  omega⟩
theorem SmN.small {n m : Nat} {c : List Seen} (h : SmN n m c) (hn : n ≤ 1000) (hm : m ≤ 1000) : SmallC c := ⟨by have := h.1; omega, fun x hx => by have := h.2 x hx; omega⟩
theorem SmN.sum {n m : Nat} {c : List Seen} (h : SmN n m c) : sumM c ≤ n * m := by
  have : sumM c ≤ c.length * m := by
    have h2 := h.2
    clear h
    induction c with
    | nil => simp [sumM]
    | cons x c ih =>
      have e : sumM (x :: c) = x.2.2.length + sumM c := by simp [sumM]
      have := (h2 x List.mem_cons_self).2
      have := ih fun y hy => h2 y (List.mem_cons_of_mem _ hy)
      rw [e, List.length_cons, Nat.add_mul]; omega
  exact Nat.le_trans this (Nat.mul_le_mul_right _ h.1)
theorem SmN.of {n m : Nat} {c : List Seen} (h : SmN n m c) (s : Str) : (ofB c s).2.2.length ≤ m := by
  by_cases hs : s ∈ nds c
  · obtain ⟨x, hx, _, e⟩ := ofB_mem hs
    rw [e]; exact (h.2 x hx).2
  · rw [ofB_none hs]; exact Nat.zero_le _
theorem SmN.nds {n m : Nat} {c : List Seen} (h : SmN n m c) {s : Str} (hs : s ∈ nds c) : s.length ≤ 100 := by
  obtain ⟨x, hx, e, _⟩ := ofB_mem hs
  rw [← e]; exact (h.2 x hx).1
theorem SmN.out {n m n' m' : Nat} {a b : List Seen} (ha : SmN n m a) (hb : SmN n' m' b) (ca : ctxB a = true) (cb : ctxB b = true) : SmN (n + n') (m + m') (outL a b) := by
  obtain ⟨n1, n2, n3⟩ := nodesL_ok a b
  refine ⟨?_, fun x hx => ?_⟩
  · unfold outL; rw [List.length_map]; have := ha.1; have := hb.1; omega
  · obtain ⟨s, hs, rfl⟩ := List.mem_map.1 hx
    have h1 := (twoL_ok (ofB_VS ((ctxB_iff a).1 ca).1 s) (ofB_VS ((ctxB_iff b).1 cb).1 s)).2.2
    have h2 := ha.of s
    have h3 := hb.of s
    refine ⟨?_, by omega⟩
    show (ofB a s).1.length ≤ 100
    rw [ofB_node]
    rcases (n2 s).1 hs with q | q
    · exact ha.nds q
    · exact hb.nds q

/-! The nodes of two, by the reference. -/
structure JN (T : Str → Prop) (A B out : List Str) : Prop where
  ra : A.Pairwise (fun x y => ltS x y = true)
  rb : B.Pairwise (fun x y => ltS x y = true)
  ro : out.Pairwise (fun x y => ltS x y = true)
  mem : ∀ s, T s ↔ s ∈ out ∨ s ∈ A ∨ s ∈ B
  la : ∀ s ∈ out, ∀ z ∈ A, ltS s z = true
  lb : ∀ s ∈ out, ∀ z ∈ B, ltS s z = true
theorem JN.swap {T : Str → Prop} {A B out : List Str} (h : JN T A B out) : JN T B A out :=
  ⟨h.rb, h.ra, h.ro, fun s => by rw [h.mem s]; constructor <;> (rintro (q | q | q) <;> simp [q]), h.lb, h.la⟩
theorem ro_push {A out : List Str} {x : Str} (ho : out.Pairwise (fun x y => ltS x y = true)) (h : ∀ s ∈ out, ltS s x = true) : (out ++ [x]).Pairwise (fun x y => ltS x y = true) := by
  rw [List.pairwise_append]
  refine ⟨ho, List.pairwise_singleton _ _, fun s hs y hy => ?_⟩
  have hy : y = x := by simpa using hy
  rw [hy]; exact h s hs
theorem JN.left {T : Str → Prop} {A B out : List Str} {x : Str} (h : JN T (x :: A) B out) (hx : ∀ z ∈ B, ltS x z = true) : JN T A B (out ++ [x]) := by
  obtain ⟨p1, p2⟩ := List.pairwise_cons.1 h.ra
  refine ⟨p2, h.rb, ro_push (A := A) h.ro fun s hs => h.la s hs x List.mem_cons_self, fun s => ?_, fun s hs z hz => ?_, fun s hs z hz => ?_⟩
  · rw [h.mem s, List.mem_append, List.mem_cons, List.mem_singleton]
    constructor
    · rintro (q | (q | q) | q) <;> simp [q]
    · rintro ((q | q) | q | q) <;> simp [q]
  · rcases List.mem_append.1 hs with hs | hs
    · exact h.la s hs z (List.mem_cons_of_mem _ hz)
    · have hs : s = x := by simpa using hs
      rw [hs]; exact p1 z hz
  · rcases List.mem_append.1 hs with hs | hs
    · exact h.lb s hs z hz
    · have hs : s = x := by simpa using hs
      rw [hs]; exact hx z hz
theorem JN.both {T : Str → Prop} {A B out : List Str} {x : Str} (h : JN T (x :: A) (x :: B) out) : JN T A B (out ++ [x]) := by
  obtain ⟨p1, p2⟩ := List.pairwise_cons.1 h.ra
  obtain ⟨p3, p4⟩ := List.pairwise_cons.1 h.rb
  refine ⟨p2, p4, ro_push (A := A) h.ro fun s hs => h.la s hs x List.mem_cons_self, fun s => ?_, fun s hs z hz => ?_, fun s hs z hz => ?_⟩
  · rw [h.mem s, List.mem_append, List.mem_cons, List.mem_cons, List.mem_singleton]
    constructor
    · rintro (q | (q | q) | (q | q)) <;> simp [q]
    · rintro ((q | q) | q | q) <;> simp [q]
  · rcases List.mem_append.1 hs with hs | hs
    · exact h.la s hs z (List.mem_cons_of_mem _ hz)
    · have hs : s = x := by simpa using hs
      rw [hs]; exact p1 z hz
  · rcases List.mem_append.1 hs with hs | hs
    · exact h.lb s hs z (List.mem_cons_of_mem _ hz)
    · have hs : s = x := by simpa using hs
      rw [hs]; exact p3 z hz
theorem nds_drop (a : List Seen) (i : Nat) (hi : i < a.length) : (nds a).drop i = a[i].1 :: (nds a).drop (i + 1) := by
  have hl : i < (nds a).length := by unfold nds; rw [List.length_map]; exact hi
  rw [List.drop_eq_getElem_cons hl]
  have e : (nds a)[i] = a[i].1 := by simp only [nds, List.getElem_map]
  rw [e]
theorem nds_done (a : List Seen) : (nds a).drop a.length = [] := by
  have : (nds a).length = a.length := by unfold nds; rw [List.length_map]
  rw [← this, List.drop_length]
theorem nodes_run (a b : List Seen) (ha : ctxB a = true) (hb : ctxB b = true) (la : a.length ≤ 1000) (lb : b.length ≤ 1000) : (r06_nodes_T a b).run = some (nodesL a b) := by
  obtain ⟨_, a2, _⟩ := (ctxB_iff a).1 ha
  obtain ⟨_, b2, _⟩ := (ctxB_iff b).1 hb
  obtain ⟨n1, n2, _⟩ := nodesL_ok a b
  have key : ∃ r, loopF (fun v : Int × Int × List Str => (r06_nodes_L3_step a b v.1 v.2.1 v.2.2).run) (0, 0, ([] : List Str)) = some r ∧ r = nodesL a b := by
    refine loopF_mu (fun s => ∃ i k : Nat, s.1 = (i : Int) ∧ s.2.1 = (k : Int) ∧ i ≤ a.length ∧ k ≤ b.length ∧ s.2.2.length ≤ i + k ∧ JN (fun s => s ∈ nds a ∨ s ∈ nds b) ((nds a).drop i) ((nds b).drop k) s.2.2) (fun s => a.length + b.length - (s.1.toNat + s.2.1.toNat)) (fun r => r = nodesL a b) ?_ ⟨0, 0, rfl, rfl, Nat.zero_le _, Nat.zero_le _, Nat.le_refl _, a2, b2, List.Pairwise.nil, fun s => by simp, fun s hs => absurd hs List.not_mem_nil, fun s hs => absurd hs List.not_mem_nil⟩
    rintro ⟨i', k', out⟩ ⟨i, k, e1, e2, hi, hk, hl, hj⟩
    simp only at e1 e2 hl hj
    subst e1 e2
    simp only [Int.toNat_natCast]
    have r16 : ∀ s : Str, decide ((out ++ [s]).length * 16 ≤ roomNat) = true := fun s => room_le _ 16 (by rw [List.length_append]; simp; omega) (by omega)
    have ei : w64 ((i : Int) + 1) = ((i + 1 : Nat) : Int) := w64_i i (by omega)
    have ek : w64 ((k : Int) + 1) = ((k + 1 : Nat) : Int) := w64_i k (by omega)
    have lp : ∀ s : Str, (out ++ [s]).length = out.length + 1 := fun s => by simp
    unfold r06_nodes_L3_step
    rcases Nat.lt_or_ge i a.length with hia | hia
    · rcases Nat.lt_or_ge k b.length with hkb | hkb
      · have c1 : decide ((k : Int) = (b.length : Int)) = false := by rw [decide_eq_false_iff_not]; omega
        have c2 : decide ((i : Int) = (a.length : Int)) = false := by rw [decide_eq_false_iff_not]; omega
        rw [nds_drop a i hia, nds_drop b k hkb] at hj
        obtain ⟨p1, _⟩ := List.pairwise_cons.1 hj.ra
        obtain ⟨p3, _⟩ := List.pairwise_cons.1 hj.rb
        simp only [Tree.run, Int.ofNat_lt, hia, hkb, decide_true, Bool.or_true, Bool.true_or, cond_true, inb_nat, Int.toNat_natCast, getD_lt _ _ _ hia, getD_lt _ _ _ hkb, c1, c2, Bool.false_or, Bool.true_and, ei, ek, r16]
        cases h1 : ltS a[i].1 b[k].1 with
        | true =>
          refine .inl ⟨((i + 1 : Nat), (k : Nat), out ++ [a[i].1]), rfl, ⟨i + 1, k, rfl, rfl, hia, hk, by rw [lp]; omega, ?_⟩, by simp only [Int.toNat_natCast]; omega⟩
          rw [nds_drop b k hkb]
          exact hj.left fun z hz => by
            rcases List.mem_cons.1 hz with rfl | hz
            · exact h1
            · exact soS.tr _ _ _ h1 (p3 z hz)
        | false =>
          cases h2 : ltS b[k].1 a[i].1 with
          | true =>
            refine .inl ⟨((i : Nat), (k + 1 : Nat), out ++ [b[k].1]), rfl, ⟨i, k + 1, rfl, rfl, hi, hkb, by rw [lp]; omega, ?_⟩, by simp only [Int.toNat_natCast]; omega⟩
            rw [nds_drop a i hia]
            refine (hj.swap.left fun z hz => ?_).swap
            rcases List.mem_cons.1 hz with rfl | hz
            · exact h2
            · exact soS.tr _ _ _ h2 (p1 z hz)
          | false =>
            have e := soS.tot _ _ h1 h2
            refine .inl ⟨((i + 1 : Nat), (k + 1 : Nat), out ++ [a[i].1]), rfl, ⟨i + 1, k + 1, rfl, rfl, hia, hkb, by rw [lp]; omega, ?_⟩, by simp only [Int.toNat_natCast]; omega⟩
            rw [← e] at hj
            exact hj.both
      · have hkb : k = b.length := by omega
        subst hkb
        simp only [Tree.run, Int.ofNat_lt, hia, decide_true, Bool.or_true, Bool.true_or, Bool.not_true, Bool.false_and, Bool.not_false, cond_true, inb_nat, Int.toNat_natCast, getD_lt _ _ _ hia, ei, r16]
        refine .inl ⟨((i + 1 : Nat), (b.length : Nat), out ++ [a[i].1]), rfl, ⟨i + 1, b.length, rfl, rfl, hia, Nat.le_refl _, by rw [lp]; omega, ?_⟩, by simp only [Int.toNat_natCast]; omega⟩
        rw [nds_drop a i hia, nds_done] at hj
        rw [nds_done]
        exact hj.left fun z hz => absurd hz List.not_mem_nil
    · have hia : i = a.length := by omega
      subst hia
      have c2 : decide ((a.length : Int) < (a.length : Int)) = false := by simp
      rcases Nat.lt_or_ge k b.length with hkb | hkb
      · have c1 : decide ((k : Int) = (b.length : Int)) = false := by rw [decide_eq_false_iff_not]; omega
        simp only [Tree.run, Int.ofNat_lt, hkb, decide_true, Bool.or_true, Bool.true_or, Bool.not_true, Bool.false_and, Bool.and_false, Bool.not_false, cond_true, cond_false, inb_nat, Int.toNat_natCast, getD_lt _ _ _ hkb, c1, Nat.lt_irrefl, decide_false, Bool.false_or, ek, r16]
        refine .inl ⟨((a.length : Nat), (k + 1 : Nat), out ++ [b[k].1]), rfl, ⟨a.length, k + 1, rfl, rfl, Nat.le_refl _, hkb, by rw [lp]; omega, ?_⟩, by simp only [Int.toNat_natCast]; omega⟩
        rw [nds_drop b k hkb, nds_done] at hj
        rw [nds_done]
        exact (hj.swap.left fun z hz => absurd hz List.not_mem_nil).swap
      · have hkb : k = b.length := by omega
        subst hkb
        simp only [Tree.run, Nat.lt_irrefl, Int.lt_irrefl, decide_false, Bool.or_self, cond_false]
        refine .inr ⟨out, rfl, ?_⟩
        rw [nds_done, nds_done] at hj
        exact soS.uniq hj.ro n1 fun s => by
          rw [n2 s, hj.mem s]; simp
  obtain ⟨r, h1, h2⟩ := key
  unfold r06_nodes_T
  simp only [Tree.run, h1, h2, Option.bind_some]

/-! Joins. -/
theorem nds_take (c : List Seen) (i : Nat) (hi : i < c.length) : nds (c.take (i + 1)) = nds (c.take i) ++ [c[i].1] := by
  unfold nds
  rw [List.take_add_one, List.getElem?_eq_getElem hi, List.map_append]; rfl
theorem outL_take (a b : List Seen) (L : List Str) (i : Nat) (hi : i < L.length) : ((L.take (i + 1)).map fun s => twoL (ofB a s) (ofB b s)) = ((L.take i).map fun s => twoL (ofB a s) (ofB b s)) ++ [twoL (ofB a L[i]) (ofB b L[i])] := by
  rw [List.take_add_one, List.getElem?_eq_getElem hi, List.map_append]; rfl
theorem join_run {n m n' m' : Nat} (a b : List Seen) (ha : SmN n m a) (hb : SmN n' m' b) (hn : n + n' ≤ 1000) (hm : m + m' ≤ 1000) : (dots_Join_T a b).run = some ((joinL a b).1, (joinL a b).2, ()) := by
  have sa := ha.small (by omega) (by omega)
  have sb := hb.small (by omega) (by omega)
  unfold dots_Join_T joinL
  simp only [Tree.run, check_run a sa, check_run b sb, Option.bind_some]
  cases ca : ctxB a with
  | false => simp
  | true =>
  cases cb : ctxB b with
  | false => simp
  | true =>
  have hfl : ([a, b] : List (List Seen)).flatten = a ++ b := by simp
  have hsum : lenSum [a, b] ≤ 1000000 := by have := ha.1; have := hb.1; simp [lenSum]; omega
  have hla := ha.1
  have hlb := hb.1
  have hab : (a ++ b).length ≤ 1000 := by rw [List.length_append]; omega
  simp only [cond_true, decide_true, Bool.not_true, Bool.or_self, cond_false, Bool.not_false, Option.isNone_some, Bool.and_false, Option.getD_some, slices_Concat_Seen_run [a, b] (by simp) hsum, Option.bind_some, hfl]
  rw [loopF_run (S := fun i => ((i : Int), nds ((a ++ b).take i))) (n := (a ++ b).length) (a := nds (a ++ b)) (fun i hi => by
    have r16 : decide ((nds ((a ++ b).take i) ++ [(a ++ b)[i].1]).length * 16 ≤ roomNat) = true := room_le _ 16 (by rw [← nds_take _ _ hi]; unfold nds; rw [List.length_map, List.length_take]; omega) (by omega)
    unfold dots_Join_L5_step
    simp only [Tree.run, Int.ofNat_lt, hi, decide_true, cond_true, inb_nat, Int.toNat_natCast, getD_lt _ _ _ hi, w64_i i (by omega), r16]
    rw [nds_take _ _ hi]) (by unfold dots_Join_L5_step; simp only [Tree.run, Int.lt_irrefl, decide_false, cond_false, List.take_length]) (s0 := ((0 : Int), ([] : List Str))) (by simp [nds])]
  have hls : decide ((nds (a ++ b)).length < 4611686018427387904) = true := by rw [decide_eq_true_eq]; unfold nds; rw [List.length_map]; omega
  unfold slices_Sort_string_T slices_Compact_string_T
  simp only [Tree.run, Option.bind_some, hls, cond_true]
  have eN : compL eqS (sortS (nds (a ++ b))) = nodesL a b := rfl
  rw [eN]
  obtain ⟨n1, n2, n3⟩ := nodesL_ok a b
  have hv : ∀ s, VS (ofB a s) := ofB_VS ((ctxB_iff a).1 ca).1
  have hw : ∀ s, VS (ofB b s) := ofB_VS ((ctxB_iff b).1 cb).1
  have hout : ((nodesL a b).take (nodesL a b).length).map (fun s => twoL (ofB a s) (ofB b s)) = outL a b := by rw [List.take_length]; rfl
  have hco := check_run (outL a b) ((ha.out hb ca cb).small hn hm)
  rw [loopF_run (S := fun i => ((i : Int), ((nodesL a b).take i).map fun s => twoL (ofB a s) (ofB b s))) (n := (nodesL a b).length) (a := outL a b) (fun i hi => by
    have r48 : decide ((((nodesL a b).take i).map (fun s => twoL (ofB a s) (ofB b s)) ++ [twoL (ofB a (nodesL a b)[i]) (ofB b (nodesL a b)[i])]).length * 48 ≤ roomNat) = true := room_le _ 48 (by rw [← outL_take _ _ _ _ hi, List.length_map, List.length_take]; omega) (by omega)
    have h1 := ha.of (nodesL a b)[i]
    have h2 := hb.of (nodesL a b)[i]
    unfold dots_Join_L12_step
    simp only [Tree.run, Int.ofNat_lt, hi, decide_true, cond_true, inb_nat, Int.toNat_natCast, getD_lt _ _ _ hi, of_run a _ (by omega : a.length ≤ 1000) (ctx_sorted ca), of_run b _ (by omega : b.length ≤ 1000) (ctx_sorted cb), Option.bind_some, both_run _ _ (hv _) (hw _) (by omega : (ofB a (nodesL a b)[i]).2.2.length ≤ 1000) (by omega : (ofB b (nodesL a b)[i]).2.2.length ≤ 1000), w64_i i (by omega), r48]
    rw [outL_take _ _ _ _ hi]) (by unfold dots_Join_L12_step; simp only [Tree.run, Int.lt_irrefl, decide_false, cond_false, hout]) (s0 := ((0 : Int), ([] : List Seen))) (by simp)]
  simp only [Option.bind_some, hco]
  cases ctxB (outL a b) <;> simp
theorem rJoin_run {n m n' m' : Nat} (a b : List Seen) (ha : SmN n m a) (hb : SmN n' m' b) (hn : n + n' ≤ 1000) (hm : m + m' ≤ 1000) : (r06_Join_T a b).run = some ((joinL a b).1, (joinL a b).2, ()) := by
  have sa := ha.small (by omega) (by omega)
  have sb := hb.small (by omega) (by omega)
  unfold r06_Join_T joinL
  simp only [Tree.run, may_run a sa, may_run b sb, Option.bind_some]
  cases ca : ctxB a with
  | false => simp
  | true =>
  cases cb : ctxB b with
  | false => simp
  | true =>
  have hla := ha.1
  have hlb := hb.1
  obtain ⟨n1, n2, n3⟩ := nodesL_ok a b
  simp only [Bool.not_true, Bool.or_self, cond_false, Bool.not_false, Option.isNone_some, Bool.and_false, Option.getD_some, nodes_run a b ca cb (by omega) (by omega), Option.bind_some]
  have hv : ∀ s, VS (ofB a s) := ofB_VS ((ctxB_iff a).1 ca).1
  have hw : ∀ s, VS (ofB b s) := ofB_VS ((ctxB_iff b).1 cb).1
  have hout : ((nodesL a b).take (nodesL a b).length).map (fun s => twoL (ofB a s) (ofB b s)) = outL a b := by rw [List.take_length]; rfl
  have hco := may_run (outL a b) ((ha.out hb ca cb).small hn hm)
  rw [loopF_run (S := fun i => ((i : Int), ((nodesL a b).take i).map fun s => twoL (ofB a s) (ofB b s))) (n := (nodesL a b).length) (a := outL a b) (fun i hi => by
    have r48 : decide ((((nodesL a b).take i).map (fun s => twoL (ofB a s) (ofB b s)) ++ [twoL (ofB a (nodesL a b)[i]) (ofB b (nodesL a b)[i])]).length * 48 ≤ roomNat) = true := room_le _ 48 (by rw [← outL_take _ _ _ _ hi, List.length_map, List.length_take]; omega) (by omega)
    have h1 := ha.of (nodesL a b)[i]
    have h2 := hb.of (nodesL a b)[i]
    have hib : inb ((i : Nat) : Int) (nodesL a b).length = true := by rw [inb_nat, decide_eq_true hi]
    unfold r06_Join_L6_step
    rw [run_t (decide_eq_true (Int.ofNat_lt.2 hi)), run_ask hib, run_ask hib]
    refine Tree.run_both (Tree.run_both ?_ ?_) ?_ <;>
    · simp only [Tree.run, Int.toNat_natCast, getD_lt _ _ _ hi, rOf_run a _ (by omega : a.length ≤ 1000), rOf_run b _ (by omega : b.length ≤ 1000), Option.bind_some, rBoth_run _ _ (hv _) (hw _) (by omega : (ofB a (nodesL a b)[i]).2.2.length ≤ 1000) (by omega : (ofB b (nodesL a b)[i]).2.2.length ≤ 1000), w64_i i (by omega), r48, cond_true]
      rw [outL_take _ _ _ _ hi]) (by unfold r06_Join_L6_step; simp only [Tree.run, Int.lt_irrefl, decide_false, cond_false, hout]) (s0 := ((0 : Int), ([] : List Seen))) (by simp)]
  simp only [Option.bind_some, hco]
  cases ctxB (outL a b) <;> simp

/-! One more. -/
def dotB (d : Dot) : Bool := nameS d.1 && decide ((1 : Int) ≤ d.2) && decide (d.2 ≤ M53)
def oneL (d : Dot) : List Seen := bif decide (d.2 = 1) then [(d.1, (1, []))] else [(d.1, (0, [d.2]))]
def addL (c : List Seen) (d : Dot) : List Seen × Int := bif dotB d then joinL c (oneL d) else ([], 1)
theorem oneL_small {d : Dot} (hd : d.1.length ≤ 100) : SmN 1 1 (oneL d) := by
  unfold oneL
  cases decide (d.2 = 1)
  · exact ⟨Nat.le_refl _, fun x hx => by have hx : x = (d.1, (0, [d.2])) := by simpa using hx
                                         rw [hx]; exact ⟨hd, Nat.le_refl _⟩⟩
  · exact ⟨Nat.le_refl _, fun x hx => by have hx : x = (d.1, (1, [])) := by simpa using hx
                                         rw [hx]; exact ⟨hd, Nat.zero_le _⟩⟩
theorem add_run {n m : Nat} (c : List Seen) (d : Dot) (hc : SmN n m c) (hd : d.1.length ≤ 100) (hn : n + 1 ≤ 1000) (hm : m + 1 ≤ 1000) : (dots_Add_T c d).run = some ((addL c d).1, (addL c d).2, ()) := by
  have hj := join_run c (oneL d) hc (oneL_small hd) hn hm
  unfold dots_Add_T addL dotB
  simp only [Tree.run, nameIs_run, Option.bind_some]
  cases nameS d.1 with
  | false => simp
  | true =>
    by_cases h1 : d.2 < 1
    · have : ¬ (1 : Int) ≤ d.2 := by omega
      simp [h1, this]
    · have h1' : (1 : Int) ≤ d.2 := by omega
      by_cases h2 : M53 < d.2
      · have : ¬ d.2 ≤ M53 := by omega
        simp [h2, this]
      · have h2' : d.2 ≤ M53 := by omega
        have h3 : decide ((9007199254740992 : Int) < d.2) = false := decide_eq_false h2
        have h4 : decide (d.2 ≤ M53) = true := decide_eq_true h2'
        simp only [Bool.not_true, decide_eq_false h1, Bool.or_self, h3, cond_false, decide_eq_true h1', h4, Bool.and_self, cond_true]
        unfold oneL at hj ⊢
        cases hh : decide (d.2 = 1) with
        | true =>
          rw [hh, cond_true] at hj
          simp only [cond_true, hj, Option.bind_some]
        | false =>
          rw [hh, cond_false] at hj
          simp only [cond_false, hj, Option.bind_some]
theorem isDot_run (d : Dot) (hd : d.1.length ≤ 100) : (r06_IsDot_T d).run = some (dotB d) := by
  unfold r06_IsDot_T dotB
  simp only [Tree.run, r05Is_run d.1 (by omega), Option.bind_some]
theorem joinL_bad {c b : List Seen} (h : ctxB c = false) : joinL c b = ([], 1) := by unfold joinL; rw [h]; rfl
theorem rAdd_run {n m : Nat} (c : List Seen) (d : Dot) (hc : SmN n m c) (hd : d.1.length ≤ 100) (hn : n + 1 ≤ 1000) (hm : m + 1 ≤ 1000) : (r06_Add_T c d).run = some ((addL c d).1, (addL c d).2, ()) := by
  have hj := rJoin_run c (oneL d) hc (oneL_small hd) hn hm
  have hb := joinL_bad (c := c) (b := oneL d)
  unfold r06_Add_T addL
  simp only [Tree.run, may_run c (hc.small (by omega) (by omega)), isDot_run d hd, Option.bind_some]
  cases hcc : ctxB c with
  | false =>
    rw [hb hcc]
    cases dotB d <;> simp
  | true =>
    cases dotB d with
    | false => simp
    | true =>
      simp only [Bool.not_true, Bool.or_self, cond_false, cond_true, Bool.not_false, Option.isNone_some, Bool.and_false, Option.getD_some]
      unfold oneL at hj ⊢
      cases hh : decide (d.2 = 1) with
      | true =>
        rw [hh, cond_true] at hj
        simp only [cond_true, hj, Option.bind_some]
      | false =>
        rw [hh, cond_false] at hj
        simp only [cond_false, hj, Option.bind_some]
theorem oneL_ok {d : Dot} (h : dotB d = true) : ctxB (oneL d) = true ∧ ∀ e, hasB (oneL d) e = decide (e = d) := by
  unfold dotB at h
  simp only [Bool.and_eq_true, decide_eq_true_eq] at h
  obtain ⟨⟨h1, h2⟩, h3⟩ := h
  obtain ⟨s, n⟩ := d
  simp only at h1 h2 h3
  have nil0 : ([] : List Int).Pairwise (fun a b => decide (a < b) = true) := List.Pairwise.nil
  unfold oneL
  by_cases e1 : n = 1
  · have : decide (n = 1) = true := decide_eq_true e1
    simp only [this, cond_true]
    refine ⟨(ctxB_iff _).2 ⟨fun x hx => ?_, List.pairwise_singleton _ _, by simp [sumM]⟩, fun e => ?_⟩
    · have hx : x = (s, (1, [])) := by simpa using hx
      rw [hx]
      exact (seenB_iff _).2 ⟨h1, ⟨by show (0 : Int) ≤ 1; omega, by show (1 : Int) ≤ M53; decide, nil0, fun n hn => absurd hn List.not_mem_nil⟩, 1, (kn_iff _ _).2 (.inl ⟨by omega, Int.le_refl _⟩)⟩
    · obtain ⟨t, k⟩ := e
      rw [hasB_kn, Bool.eq_iff_iff]
      simp only [List.any_cons, List.any_nil, Bool.or_false, Bool.and_eq_true, beq_iff_eq, kn_iff, List.not_mem_nil, or_false, decide_eq_true_eq, Prod.mk.injEq]
      constructor
      · rintro ⟨q1, q2, q3⟩; exact ⟨q1.symm, by omega⟩
      · rintro ⟨q1, q2⟩; exact ⟨q1.symm, by omega, by omega⟩
  · have : decide (n = 1) = false := decide_eq_false e1
    simp only [this, cond_false]
    refine ⟨(ctxB_iff _).2 ⟨fun x hx => ?_, List.pairwise_singleton _ _, by simp [sumM]⟩, fun e => ?_⟩
    · have hx : x = (s, (0, [n])) := by simpa using hx
      rw [hx]
      exact (seenB_iff _).2 ⟨h1, ⟨by show (0 : Int) ≤ 0; omega, by show (0 : Int) ≤ M53; decide, List.pairwise_singleton _ _, fun k hk => by
        have hk : k = n := by simpa using hk
        rw [hk]; exact ⟨by show (0 : Int) + 1 < n; omega, h3⟩⟩, n, (kn_iff _ _).2 (.inr (by simp))⟩
    · obtain ⟨t, k⟩ := e
      rw [hasB_kn, Bool.eq_iff_iff]
      simp only [List.any_cons, List.any_nil, Bool.or_false, Bool.and_eq_true, beq_iff_eq, kn_iff, List.mem_singleton, decide_eq_true_eq, Prod.mk.injEq]
      constructor
      · rintro ⟨q1, q2 | q2⟩
        · omega
        · exact ⟨q1.symm, q2⟩
      · rintro ⟨q1, q2⟩; exact ⟨q1.symm, .inr q2⟩

/-! Whether they are the same. -/
theorem sameInts_run (a b : List Int) (ha : a.length ≤ 1000000) : (r06_SameInts_T a b).run = some (decide (a = b)) := by
  unfold r06_SameInts_T
  rw [equal_tree a b (fun x y => decide (x = y)) (fun v => r06_SameInts_L4_step a b v) ha (fun i hi hb => by
    unfold r06_SameInts_L4_step
    simp only [Tree.run, Int.ofNat_lt, hi, hb, decide_true, Bool.and_self, cond_true, inb_nat, Int.toNat_natCast, getD_lt _ _ _ hi, getD_lt _ _ _ hb]
    cases decide (a[i] = b[i]) <;> rfl) (fun he => by unfold r06_SameInts_L4_step; simp [Tree.run]), sameL_dec a b fun x _ y => rfl]
theorem same_run (a b : List Seen) (ha : SmallC a) : (r06_Same_T a b).run = some (decide (a = b)) := by
  unfold r06_Same_T
  rw [equal_tree a b (fun x y => decide (x = y)) (fun v => r06_Same_L4_step a b v) (by have := ha.1; omega) (fun i hi hb => by
    have hm := (ha.2 a[i] (List.getElem_mem hi)).2
    have e : decide (a[i] = b[i]) = ((a[i].1 == b[i].1) && decide (a[i].2.1 = b[i].2.1) && decide (a[i].2.2 = b[i].2.2)) := by
      rw [Bool.eq_iff_iff]
      simp only [Bool.and_eq_true, beq_iff_eq, decide_eq_true_eq]
      constructor
      · intro h; rw [h]; exact ⟨⟨rfl, rfl⟩, rfl⟩
      · rintro ⟨⟨q1, q2⟩, q3⟩; exact Prod.ext q1 (Prod.ext q2 q3)
    rw [e]
    unfold r06_Same_L4_step
    simp only [Tree.run, Int.ofNat_lt, hi, hb, decide_true, Bool.and_self, cond_true, inb_nat, Int.toNat_natCast, getD_lt _ _ _ hi, getD_lt _ _ _ hb, Bool.or_true, sameInts_run _ _ (by omega : a[i].2.2.length ≤ 1000000), Option.isNone_some, Bool.and_false, cond_false, Option.getD_some]
    cases (a[i].1 == b[i].1) <;> cases decide (a[i].2.1 = b[i].2.1) <;> cases decide (a[i].2.2 = b[i].2.2) <;> rfl) (fun he => by unfold r06_Same_L4_step; simp [Tree.run]), sameL_dec a b fun x _ y => rfl]
theorem awake06 : l06_awake_T.run = some true := Tree.runN_run (n := 20) (by kernel_rfl)

end Go.Eng
