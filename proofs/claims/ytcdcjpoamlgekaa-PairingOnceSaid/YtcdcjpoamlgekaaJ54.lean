/- The pairs of a round, as the function that is ranged over gives them. -/
import Derived.Test.YtcdcjpoamlgekaaI54
namespace Go.Proofs
open Go Go.RowKit Go.Shelf Go.Eng
attribute [local go_sem] Oper.semAt_some
theorem cell_lt {w : World} {b o : Nat} {v : Value} (h : w.cell? ⟨b, o, none⟩ = some v) : b < w.heap.size := by
  obtain ⟨vs, e, f, hb⟩ := cell_cells h
  exact (Array.getElem?_eq_some_iff.1 hb).1

set_option maxRecDepth 100000 in
set_option maxHeartbeats 2000000 in
theorem pairs_walk (l b1 o1 b2 o2 : Nat) (m r : Int) (hm : (Lit.int .i64 m).wf = true) (hr : (Lit.int .i64 r).wf = true) (S : Nat → Prop) (h1 : S b1) (h2 : S b2) (J Jx : List PairV → World → Prop)
    (hJ : ∀ pre wr wr', J pre wr → Below wr.heap.size wr wr' → J pre wr')
    (hY : ∀ pre x W, J pre W → pre.length < 65 → YieldAt Fence.wide 0 Try.prog l (encsP x) W fun e W' =>
      (e = .returned (.bool true) ∧ J (pre ++ [x]) W' ∧ (∀ b, S b → W'.heap[b]? = W.heap[b]?)) ∨ (e = .returned (.bool false) ∧ Jx (pre ++ [x]) W'))
    (W : World) (hc1 : W.cell? ⟨b1, o1, none⟩ = some (.int .i64 m)) (hc2 : W.cell? ⟨b2, o2, none⟩ = some (.int .i64 r)) (h0 : J [] W) :
    CallsIn Fence.wide 1 Try.prog 16 #[.func (.yield l) #[] #[], .pointer (some ⟨b1, o1, none⟩), .pointer (some ⟨b2, o2, none⟩)] W fun e W' => (∃ v, e = .returned v) ∧ ((∃ xs : List PairV, xs.map (·.1) = pairsL m r ∧ J xs W') ∨ ∃ xs, Jx xs W') := by
  refine callsIn_of_wp Try.func16 rfl trivial ?_ rfl
  simp only [Try.ntmps16, List.size_toArray, List.length_cons, List.length_nil, Nat.reduceAdd, Nat.reduceSub, Array.replicate_succ, Array.replicate_zero, List.push_toArray, List.append_toArray, List.nil_append, List.cons_append]
  gi_wp2
  gi_loopw [8] (fun p wr => ∃ (k : Nat) (pre : List PairV), p = .int .i64 k ∧ k ≤ m.toNat ∧ pre.map (·.1) = pairsUpto m r k ∧ J pre wr ∧ wr.cell? ⟨b1, o1, none⟩ = some (.int .i64 m) ∧ wr.cell? ⟨b2, o2, none⟩ = some (.int .i64 r))
    (fun p _ => m.toNat - (intOf p).toNat)
  case atStart => exact ⟨0, [], rfl, Nat.zero_le _, rfl, h0, hc1, hc2⟩
  case round =>
    obtain ⟨k, pre, rfl, hk, hpre, hJs, hd1, hd2⟩ := hrel
    by_cases hlt : k < m.toNat
    · have hkm : (k : Int) < m := by omega
      have hka : (Lit.int .i64 (k : Int)).wf = true := wf_between hm (fun _ => by omega) (fun h => by omega)
      have hw1 : wrap64 ((k : Int) + 1) = (k : Int) + 1 := by
        have h2 : m ≤ 9223372036854775807 := ((wf_iff _ _).1 hm).2
        exact IntWalk.wrap64_in _ (by omega)
      have hmc := fun w' hg => meets_calls m r k hm hr hka w' hg
      have hnext : ((meetsV m r k).2 && decide ((k : Int) < (meetsV m r k).1)) = true → pairsUpto m r (k + 1) = pairsUpto m r k ++ [((k : Int), (meetsV m r k).1)] := pairsUpto_hit
      have hmiss : ((meetsV m r k).2 && decide ((k : Int) < (meetsV m r k).1)) = false → pairsUpto m r (k + 1) = pairsUpto m r k := pairsUpto_miss
      have hmany : (meetsV m r k).2 = true → 2 ≤ m ∧ m ≤ 64 := meets_many
      obtain ⟨b, hb⟩ : ∃ b, (meetsV m r k).1 = b := ⟨_, rfl⟩
      obtain ⟨ok, hok⟩ : ∃ ok, (meetsV m r k).2 = ok := ⟨_, rfl⟩
      rw [hb, hok] at hnext hmiss
      rw [hok] at hmany
      simp only [hb, hok] at hmc
      have hplen : pre.length ≤ k := by rw [← List.length_map (f := (·.1)), hpre]; exact pairsUpto_len _ _ _
      have keep : ∀ w', Below wr.heap.size wr w' → J pre w' ∧ w'.cell? ⟨b1, o1, none⟩ = some (.int .i64 m) ∧ w'.cell? ⟨b2, o2, none⟩ = some (.int .i64 r) := fun w' hB =>
        ⟨hJ _ _ _ hJs hB, (hB.cell (p := ⟨b1, o1, none⟩) (cell_lt hd1)).trans hd1, (hB.cell (p := ⟨b2, o2, none⟩) (cell_lt hd2)).trans hd2⟩
      have hmeas : m.toNat - (intOf (.int .i64 (wrap64 ((k : Int) + 1)))).toNat < m.toNat - (intOf (.int .i64 (k : Int))).toNat := by
        rw [hw1]
        have e1 : intOf (.int .i64 ((k : Int) + 1)) = (k : Int) + 1 := rfl
        have e2 : intOf (.int .i64 (k : Int)) = (k : Int) := rfl
        rw [e1, e2]
        omega
      cases ok with
      | false =>
        gi_wp2_with (refine ⟨trivial, ?_⟩; gi_at_call 6; refine (callsIn_wide.2 (hmc _ trivial)).mono ?_; rintro e w' ⟨⟨rfl, hbw⟩, hB⟩)
        refine ⟨fun _ h => (by cases h), ?_⟩
        gi_wp2
        go_roundw
        case rel => obtain ⟨q1, q3, q4⟩ := keep w' hB; exact ⟨k + 1, pre, by simp [hw1], by omega, by rw [hpre, hmiss rfl], q1, q3, q4⟩
        case measure => exact hmeas
      | true =>
        by_cases hkb : (k : Int) < b
        · have hYk := fun w' hB hbw => hY pre ⟨((k : Int), b), hka, hbw⟩ w' (keep w' hB).1 (by have := hmany rfl; omega)
          gi_wp2_with (refine ⟨trivial, ?_⟩; gi_at_call 6; refine (callsIn_wide.2 (hmc _ trivial)).mono ?_; rintro e w' ⟨⟨rfl, hbw⟩, hB⟩; obtain ⟨fn, tmps, assign, body, hy, hR⟩ := hYk w' hB hbw)
          refine hR.mono ?_
          rintro e W3 (⟨rfl, hJ3, hk3⟩ | ⟨rfl, hF⟩)
          · obtain ⟨q1, q3, q4⟩ := keep w' hB
            gi_wp2
            go_roundw
            case rel => exact ⟨k + 1, pre ++ [⟨((k : Int), b), hka, hbw⟩], by simp [hw1], by omega, by rw [List.map_append, hpre, hnext (by simpa using hkb)]; rfl, hJ3, by rw [← q3]; exact World.cell?_of_block (hk3 _ h1), by rw [← q4]; exact World.cell?_of_block (hk3 _ h2)⟩
            case measure => exact hmeas
          · gi_wp2
            exact bodyPost_ret (results_none rfl _ _ _) rfl ⟨⟨_, rfl⟩, .inr ⟨_, hF⟩⟩
        · gi_wp2_with (refine ⟨trivial, ?_⟩; gi_at_call 6; refine (callsIn_wide.2 (hmc _ trivial)).mono ?_; rintro e w' ⟨⟨rfl, hbw⟩, hB⟩)
          refine ⟨fun _ h => (by cases h), ?_⟩
          gi_wp2
          go_roundw
          case rel => obtain ⟨q1, q3, q4⟩ := keep w' hB; exact ⟨k + 1, pre, by simp [hw1], by omega, by rw [hpre, hmiss (by simpa using hkb)], q1, q3, q4⟩
          case measure => exact hmeas
    · obtain rfl : k = m.toNat := by omega
      gi_wp2
      go_end0
      exact ⟨⟨_, rfl⟩, .inl ⟨pre, hpre, hJs⟩⟩

/-- The contract of the function that is ranged over. -/
theorem pairs_stops (w : World) (S : Nat → Prop) (lb : Array Value) (m r : Int) (hsb : ∀ b, S b → b < w.heap.size) (hr : RelL w S [] lb [.cptr 1 (nth [.int .i64 m]), .cptr 1 (nth [.int .i64 r])]) :
    SeqStopsK Fence.wide 1 Try.prog 16 lb encsP (fun W W' => ∀ b, S b → W'.heap[b]? = W.heap[b]?) (fun xs => xs.map (·.1) = pairsL m r) (fun _ => True) 65 w := by
  intro l J Jx W hB hJ hJx hY h0
  obtain ⟨hsz, hr⟩ := hr
  have hsz : lb.size = 2 := hsz
  obtain ⟨lb⟩ := lb
  match lb, hsz with
  | [x, y], _ =>
    have p0 := hr 0 (by show 0 < 2; omega)
    have p1 := hr 1 (by show 1 < 2; omega)
    change Rel w S [] x (.cptr 1 (nth [.int .i64 m])) at p0
    change Rel w S [] y (.cptr 1 (nth [.int .i64 r])) at p1
    cases p0 with
    | cptr _ b1 o1 _ _ f1 hs1 hc1 hv1 =>
      cases p1 with
      | cptr _ b2 o2 _ _ f2 hs2 hc2 hv2 =>
        have v1 := hv1 0 (by omega)
        have v2 := hv2 0 (by omega)
        have c1 := (hc1 0 (by omega)).1
        have c2 := (hc2 0 (by omega)).1
        generalize f1 0 = g1 at v1 c1
        generalize f2 0 = g2 at v2 c2
        change Rel w S [] g1 (.int .i64 m) at v1
        change Rel w S [] g2 (.int .i64 r) at v2
        cases v1 with
        | int _ _ _ w1 =>
          cases v2 with
          | int _ _ _ w2 =>
            refine (pairs_walk l b1 o1 b2 o2 m r w1 w2 S hs1 hs2 J Jx (fun pre wr wr' h hb => hJ pre wr wr' none h ⟨hb.os, hb.tape, hb.output, hb.size, fun b hb' _ => hb.block b hb'⟩ (fun r e => by cases e)) ?_ W ((hB.cell (p := ⟨b1, o1, none⟩) (hsb b1 hs1)).trans c1) ((hB.cell (p := ⟨b2, o2, none⟩) (hsb b2 hs2)).trans c2) h0).mono ?_
            · intro pre x W1 hJ1 hlt
              exact hY pre x W1 hJ1 hlt
            · rintro e W' ⟨hv, ⟨xs, q1, q2⟩ | ⟨xs, q⟩⟩
              · exact ⟨hv, .inl ⟨xs, q1, q2⟩⟩
              · exact ⟨hv, .inr ⟨xs, trivial, q⟩⟩
end Go.Proofs

