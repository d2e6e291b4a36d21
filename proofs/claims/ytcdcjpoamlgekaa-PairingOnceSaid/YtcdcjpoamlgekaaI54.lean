/- The pairs of a round: whom anybody meets; the pairs as a list. -/
import Derived.Test.YtcdcjpoamlgekaaL54m
import Derived.Test.YtcdcjpoamlgekaaTrR
import Derived.Test.YtcdcjpoamlgekaaTrH
import Derived.RangeFuncBox
import Derived.RangeFuncLeaves
import Derived.Shelf.Abstract
import Derived.WalkKit
import Derived.OwnWalkIn
import Derived.TacticsInMore
import Derived.LoopNIn
import Derived.LoopIn
import Derived.IntWalk
namespace Go.Eng
open Go Go.Proofs Go.RowKit

/-- How many rounds there are; whom one meets in a round. -/
def countV (m : Int) : Int := bif (decide (m < 2)) || (decide ((64 : Int) < m)) then 0 else w64 ((w64 (m + (m.tmod 2))) - 1)
def meetsV (m r a : Int) : Int × Bool :=
  bif ((((decide (r < 0)) || (decide (countV m ≤ r))) || (decide (a < 0))) || (decide (m ≤ a))) then (0, false) else
  bif decide (a = countV m) then (bif decide (m ≤ r) then (0, false) else (r, true)) else
  bif decide (a = r) then (bif decide (m ≤ countV m) then (0, false) else (countV m, true)) else
  bif decide (m ≤ (w64 ((w64 ((w64 ((2 : Int) * r)) - a)) + (w64 ((2 : Int) * countV m)))).tmod (countV m)) then (0, false) else
  ((w64 ((w64 ((w64 ((2 : Int) * r)) - a)) + (w64 ((2 : Int) * countV m)))).tmod (countV m), true)

theorem count_run (m : Int) : (pairing_Count_T m).run = some (countV m) := by
  unfold pairing_Count_T countV
  cases hc : (decide (m < 2)) || (decide ((64 : Int) < m)) <;> simp only [hc, Tree.run, ask, cond_true, cond_false] <;> rfl
theorem count_zero {m : Int} (h : 64 < m ∨ m < 2) : countV m = 0 := by
  unfold countV
  have : ((decide (m < 2)) || (decide ((64 : Int) < m))) = true := by simp; omega
  rw [this]; rfl

theorem meets_run (m r a : Int) : (pairing_Meets_T m r a).run = some ((meetsV m r a).1, (meetsV m r a).2, ()) := by
  unfold pairing_Meets_T
  rw [run_bnd (count_run m)]
  unfold meetsV
  cases hc : ((((decide (r < 0)) || (decide (countV m ≤ r))) || (decide (a < 0))) || (decide (m ≤ a)))
  · have hy0 : countV m ≠ 0 := by simp at hc; omega
    simp only [hc, hy0, Tree.run, ask, decide_false, Bool.not_false, cond_true, cond_false]
    generalize decide (a = countV m) = c1
    generalize decide (m ≤ r) = c2
    generalize decide (a = r) = c3
    generalize decide (m ≤ countV m) = c4
    generalize decide (m ≤ (w64 ((w64 ((w64 ((2 : Int) * r)) - a)) + (w64 ((2 : Int) * countV m)))).tmod (countV m)) = c5
    cases c1 <;> cases c2 <;> cases c3 <;> cases c4 <;> cases c5 <;> rfl
  · simp only [hc, Tree.run, cond_true]
theorem meets_many {m r a : Int} (h : (meetsV m r a).2 = true) : 2 ≤ m ∧ m ≤ 64 := by
  unfold meetsV at h
  cases hc : ((((decide (r < 0)) || (decide (countV m ≤ r))) || (decide (a < 0))) || (decide (m ≤ a)))
  · simp at hc
    constructor <;> (apply Int.not_lt.1; intro h'; have := count_zero (m := m) (by omega); omega)
  · rw [hc] at h; cases h

/-- Those who meet in a round, up to one. -/
def pairsUpto (m r : Int) (k : Nat) : List (Int × Int) := (List.range k).filterMap fun (a : Nat) => bif (meetsV m r a).2 && decide ((a : Int) < (meetsV m r a).1) then some ((a : Int), (meetsV m r a).1) else none
def pairsL (m r : Int) : List (Int × Int) := pairsUpto m r m.toNat
theorem pairsUpto_len (m r : Int) (k : Nat) : (pairsUpto m r k).length ≤ k := by
  unfold pairsUpto
  exact Nat.le_trans (List.length_filterMap_le _ _) (by simp)
theorem pairsUpto_hit {m r : Int} {k : Nat} (h : ((meetsV m r k).2 && decide ((k : Int) < (meetsV m r k).1)) = true) : pairsUpto m r (k + 1) = pairsUpto m r k ++ [((k : Int), (meetsV m r k).1)] := by
  unfold pairsUpto; rw [List.range_succ, List.filterMap_append]; simp only [List.filterMap_cons, List.filterMap_nil, h, cond_true]
theorem pairsUpto_miss {m r : Int} {k : Nat} (h : ((meetsV m r k).2 && decide ((k : Int) < (meetsV m r k).1)) = false) : pairsUpto m r (k + 1) = pairsUpto m r k := by
  unfold pairsUpto; rw [List.range_succ, List.filterMap_append]; simp only [List.filterMap_cons, List.filterMap_nil, h, cond_false, List.append_nil]

abbrev PairV := { x : Int × Int // (Lit.int .i64 x.1).wf = true ∧ (Lit.int .i64 x.2).wf = true }
abbrev encsP (x : PairV) : Array Value := #[.int .i64 x.1.1, .int .i64 x.1.2]

theorem meets_calls (m r a : Int) (hm : (Lit.int .i64 m).wf = true) (hr : (Lit.int .i64 r).wf = true) (ha : (Lit.int .i64 a).wf = true) (w : World) (hg : GL w) :
    Calls Try.prog 6 #[.int .i64 m, .int .i64 r, .int .i64 a] w fun e w' => (e = .returned (.tuple #[.int .i64 (meetsV m r a).1, .bool (meetsV m r a).2]) ∧ (Lit.int .i64 (meetsV m r a).1).wf = true) ∧ Below w.heap.size w w' := by
  have hc := pairing_Meets_ok (m, r, a, ()) _ (meets_run m r a) w (fun _ => False) #[.int .i64 m, .int .i64 r, .int .i64 a] hg (fun _ h => h.elim) ⟨rfl, fun i hi => by
    match i, hi with
    | 0, _ => exact .int _ _ _ hm
    | 1, _ => exact .int _ _ _ hr
    | 2, _ => exact .int _ _ _ ha⟩
  have hc : Via Try.prog 6 #[.int .i64 m, .int .i64 r, .int .i64 a] w (CPost w (fun _ => False) (.val (.tup [.int .i64 (meetsV m r a).1, .bool (meetsV m r a).2]))) := hc
  generalize (meetsV m r a).1 = b at *
  generalize (meetsV m r a).2 = ok at *
  rcases hc with ⟨_, hc⟩ | ⟨v, w', h, _⟩
  · refine Calls.mono hc ?_
    rintro e w' ⟨v, rfl, hb, hr⟩
    refine ⟨?_, hb⟩
    have hr : Rel w' _ [] v (.tup [.int .i64 b, .bool ok]) := hr
    cases hr with
    | tup _ vs _ hl h =>
      have h0 := h 0 (by show 0 < 2; omega)
      have h1 := h 1 (by show 1 < 2; omega)
      have hl : vs.size = 2 := hl
      obtain ⟨l⟩ := vs
      match l, hl with
      | [x, y], _ =>
        change Rel w' _ [] x (.int .i64 b) at h0
        change Rel w' _ [] y (.bool ok) at h1
        cases h0 with
        | int _ _ _ hw => cases h1; exact ⟨rfl, hw⟩
  · have he := enters_of Try.func6 (by kernel_rfl) rfl #[.int .i64 m, .int .i64 r, .int .i64 a] w
    rw [he] at h; cases h

end Go.Eng


