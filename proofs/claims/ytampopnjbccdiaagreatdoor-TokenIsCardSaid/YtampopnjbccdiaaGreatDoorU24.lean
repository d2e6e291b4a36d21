/- Laws in plain Lean: u24. -/
import Derived.Test.YtampopnjbccdiaaGreatDoorT24
namespace Go.Eng
open Go Go.Proofs Go.RowKit

/-! Tenants. -/
def tenantS : Str := [116, 101, 110, 97, 110, 116]
def secretS : Str := [115, 101, 99, 114, 101, 116]
def bytesS : Str := [98, 121, 116, 101, 115]
def rateS : Str := [114, 97, 116, 101]
def burstS : Str := [98, 117, 114, 115, 116]
def queueS : Str := [113, 117, 101, 117, 101]
def keyT (t f : Str) : Str := (((tenantS ++ [47]) ++ t) ++ [47]) ++ f
theorem keyT_len (t f : Str) : (keyT t f).length = 8 + t.length + f.length := by unfold keyT tenantS; simp only [List.length_append, List.length_cons, List.length_nil]; omega
theorem keyT_join (t f : Str) : joinS ([47] : Str) [tenantS, t, f] = keyT t f := by unfold joinS keyT; simp
theorem key_run (t f : Str) (ht : t.length ≤ 100000) (hf : f.length ≤ 100000) : (tenant_Key_T t f).run = some (keyT t f) := by
  unfold tenant_Key_T
  refine (run_bnd (path_run [tenantS, t, f] (by show 3 ≤ 1000000; omega) (by simp only [lenAll, List.map_cons, List.map_nil, List.sum_cons, List.sum_nil]; unfold tenantS; simp only [List.length_cons, List.length_nil]; omega))).trans ?_
  rw [keyT_join]; rfl
theorem rKey_run (t f : Str) (ht : t.length ≤ 100000) (hf : f.length ≤ 100000) : (r23_Key_T t f).run = some (keyT t f) := by
  unfold r23_Key_T
  have e : ([116, 101, 110, 97, 110, 116, 47] : Str) = tenantS ++ [47] := rfl
  rw [e]
  refine (run_ask (decide_eq_true (by unfold tenantS; simp only [List.length_append, List.length_cons, List.length_nil]; omega))).trans ?_
  refine (run_ask (decide_eq_true (by unfold tenantS; simp only [List.length_append, List.length_cons, List.length_nil]; omega))).trans ?_
  refine (run_ask (decide_eq_true (by unfold tenantS; simp only [List.length_append, List.length_cons, List.length_nil]; omega))).trans ?_
  rfl
/-- What the register of a tenant's field says. -/
def valT (l : List Entry) (t f : Str) : Str := (getR l (keyT t f)).2.2
theorem get1_run (l : List Entry) (t f : Str) (hl : l.length ≤ 1000000) (ht : t.length ≤ 100000) (hf : f.length ≤ 100000) : (tenant_Of_1_T f l t).run = some (valT l t f) := by
  unfold tenant_Of_1_T
  refine (run_bnd (key_run t f ht hf)).trans ?_
  exact (run_bnd (get_run l _ hl)).trans rfl
def secB (s : Str) : Bool := (!(s == ([] : Str))) && decide (s.length ≤ 64)
theorem isSecret_run (s : Str) : (tenant_isSecret_T s).run = some (secB s) := by
  unfold tenant_isSecret_T secB
  show some _ = some _
  congr 2
  exact decide_eq_decide.2 (by omega)
def limT (b : TBnd) (v : Str) : Int := bif ((!(numS v).2) || decide ((numS v).1 < 0)) || decide (b.1 < (numS v).1) then b.2 else (numS v).1
theorem lim_run (l : List Entry) (t f : Str) (b : TBnd) (g : Bool) (hb : (tenant_bounds_T f).run = some (b, g, ())) (hl : l.length ≤ 1000000) (ht : t.length ≤ 100000) (hf : f.length ≤ 100000) (hv : (valT l t f).length ≤ 1000000) :
    (tenant_Of_2_T f l t).run = some (limT b (valT l t f)) := by
  unfold tenant_Of_2_T
  refine (run_bnd hb).trans ?_
  refine (run_bnd (get1_run l t f hl ht hf)).trans ?_
  generalize valT l t f = v at hv ⊢
  refine (run_bnd (show (name_Num_T v).run = some ((numS v).1, (numS v).2, ()) from run_ask (decide_eq_true (by omega)))).trans ?_
  unfold limT
  show (Tree.ite (((!(numS v).2) || decide ((numS v).1 < 0)) || decide (b.1 < (numS v).1)) _ _).run = _
  cases ((!(numS v).2) || decide ((numS v).1 < 0)) || decide (b.1 < (numS v).1) <;> rfl
/-- What is said of a tenant. -/
def tenT (l : List Entry) (t : Str) : Tenant :=
  (t, (valT l t secretS, (limT (1099511627776, 1048576) (valT l t bytesS), (limT (1048576, 8) (valT l t rateS), (limT (1048576, 16) (valT l t burstS), limT (64, 16) (valT l t queueS))))))
def ofT (l : List Entry) (t : Str) : Tenant × Bool × Unit := bif nameS t && secB (valT l t secretS) then (tenT l t, true, ()) else (([], ([], (0, (0, (0, 0))))), false, ())
/-- Entries of small texts. -/
def SmT (l : List Entry) : Prop := l.length ≤ 1000000 ∧ ∀ x ∈ l, x.2.2.2.length ≤ 1000000
theorem valT_len {l : List Entry} (h : SmT l) (t f : Str) : (valT l t f).length ≤ 1000000 := by
  unfold valT getR
  cases hf : findR l (keyT t f) with
  | none => exact Nat.zero_le _
  | some r => exact h.2 _ (find_mem hf)
theorem of_runT (l : List Entry) (t : Str) (hl : SmT l) (ht : t.length ≤ 100000) : (tenant_Of_T l t).run = some (ofT l t) := by
  have v := fun f => valT_len hl t f
  unfold tenant_Of_T ofT
  refine (run_bnd (nameIs_run t)).trans ?_
  refine (run_grd (show (tenant_Of_1_T secretS l t).run = _ from get1_run l t secretS hl.1 ht (by decide))).trans ?_
  refine (run_grd (isSecret_run _)).trans ?_
  show (Tree.ite ((!nameS t) || (!secB (valT l t secretS))) _ _).run = _
  cases h : nameS t && secB (valT l t secretS) with
  | false =>
    refine (run_t ?_).trans rfl
    revert h; cases nameS t <;> cases secB (valT l t secretS) <;> simp
  | true =>
    refine (run_f ?_).trans ?_
    · revert h; cases nameS t <;> cases secB (valT l t secretS) <;> simp
    · refine (run_bnd (show (tenant_Of_1_T secretS l t).run = _ from get1_run l t secretS hl.1 ht (by decide))).trans ?_
      refine (run_bnd (lim_run l t bytesS (1099511627776, 1048576) true rfl hl.1 ht (by decide) (v _))).trans ?_
      refine (run_bnd (lim_run l t rateS (1048576, 8) true rfl hl.1 ht (by decide) (v _))).trans ?_
      refine (run_bnd (lim_run l t burstS (1048576, 16) true rfl hl.1 ht (by decide) (v _))).trans ?_
      exact (run_bnd (lim_run l t queueS (64, 16) true rfl hl.1 ht (by decide) (v _))).trans rfl

/-! Whose a token is. -/
abbrev Whose : Type := Str × Str × Int × Unit
def noOne : Whose := ([], [], 7, ())
def goodB (l : List Entry) (x : Str) (now : Int) : Bool :=
  (((readN x).2.2.2.1 && (ofT l (readN x).1).2.1) && nameS (readN x).2.1) && !decide ((readN x).2.2.1 < now)
def sumB (l : List Entry) (x : Str) : Bool := macN (ofT l (readN x).1).1.2.1 (x.take (x.length - 32)) == x.drop (x.length - 32)
def checkN (l : List Entry) (x : Str) (now : Int) : Whose := bif goodB l x now && sumB l x then ((readN x).1, (readN x).2.1, 0, ()) else noOne
theorem readN_short {x : Str} (h : x.length < 32) : readN x = noSaid := by unfold readN; rw [decide_eq_true h]; rfl
theorem readN_len (x : Str) : (readN x).1.length ≤ x.length := by
  unfold readN
  cases decide (x.length < 32) with
  | true => exact Nat.zero_le _
  | false =>
    rw [cond_false]
    generalize hd : doneR (numR 8 (textR (textR (x.take (x.length - 32), true)).2).2).2 = d
    cases d with
    | false => exact Nat.zero_le _
    | true =>
      show (textR (x.take (x.length - 32), true)).1.length ≤ _
      have h1 : ∀ (n : Nat) (r : OctR), (tkR n r).1.length ≤ r.1.length := fun n r => by
        unfold tkR
        cases !r.2 || decide (r.1.length < n) with
        | true => exact Nat.zero_le _
        | false => show (r.1.take n).length ≤ _; rw [List.length_take]; omega
      have h2 : (x.take (x.length - 32)).length ≤ x.length := by rw [List.length_take]; omega
      unfold textR
      cases decide (1048576 < numB (tkR 4 (x.take (x.length - 32), true)).1) with
      | true => exact Nat.zero_le _
      | false => exact Nat.le_trans (h1 _ _) (Nat.le_trans (tkR_rest 4 _) h2)
theorem ofT_sec (l : List Entry) (t : Str) : (ofT l t).1.2.1.length ≤ 64 := by
  unfold ofT
  cases h : nameS t && secB (valT l t secretS) with
  | false => exact Nat.zero_le _
  | true =>
    show (valT l t secretS).length ≤ 64
    simp only [Bool.and_eq_true, secB, decide_eq_true_eq] at h
    exact h.2.2
theorem tcheck_run (l : List Entry) (x : Str) (now : Int) (hl : SmT l) (hx : x.length ≤ 100000) : (token_Check_T l x now).run = some (checkN l x now) := by
  have hr := read_run x (by omega)
  have ho := of_runT l (readN x).1 hl (Nat.le_trans (readN_len x) hx)
  have hs := ofT_sec l (readN x).1
  have hn := nameIs_run (readN x).2.1
  by_cases h32 : x.length < 32
  · have hg : goodB l x now = false := by unfold goodB; rw [readN_short h32]; rfl
    unfold token_Check_T checkN
    refine (run_bnd hr).trans ?_
    refine (run_bnd ho).trans ?_
    rw [hg, readN_short h32]; rfl
  · have e : w64 ((x.length : Int) - 32) = ((x.length - 32 : Nat) : Int) := by rw [w64_of (by omega) (by omega)]; omega
    have hk : inbe ((x.length - 32 : Nat) : Int) x.length = true := decide_eq_true (show (0 : Int) ≤ ((x.length - 32 : Nat) : Int) ∧ ((x.length - 32 : Nat) : Int) ≤ (x.length : Int) by omega)
    have e2 : subS x 0 ((x.length - 32 : Nat) : Int).toNat = x.take (x.length - 32) := by
      show (x.drop 0).take (((x.length - 32 : Nat) : Int).toNat - 0) = _
      rw [Int.toNat_natCast]; rfl
    have e3 : subS x ((x.length - 32 : Nat) : Int).toNat x.length = x.drop (x.length - 32) := by
      show (x.drop ((x.length - 32 : Nat) : Int).toNat).take (x.length - ((x.length - 32 : Nat) : Int).toNat) = _
      rw [Int.toNat_natCast]
      exact List.take_of_length_le (by rw [List.length_drop]; omega)
    have hi := is_run (ofT l (readN x).1).1.2.1 (x.take (x.length - 32)) (x.drop (x.length - 32)) (by omega) (by rw [List.length_take]; omega)
    have hsum : (macN (ofT l (readN x).1).1.2.1 (x.take (x.length - 32)) == x.drop (x.length - 32)) = sumB l x := rfl
    rw [hsum] at hi
    unfold token_Check_T checkN goodB
    refine (run_bnd hr).trans ?_
    refine (run_bnd ho).trans ?_
    rw [e, e2, e3]
    generalize sumB l x = sb at hi ⊢
    generalize readN x = q at ho hn hs hi ⊢
    generalize ofT l q.1 = o at ho hs hi ⊢
    obtain ⟨qa, qu, qn, qb, _⟩ := q
    cases qb with
    | false => rfl
    | true =>
      refine (run_f rfl).trans ?_
      cases hob : o.2.1 with
      | false =>
        refine (run_t rfl).trans ?_
        exact (run_t rfl).trans rfl
      | true =>
        refine (run_f rfl).trans ?_
        refine (run_bnd hn).trans ?_
        cases nameS qu with
        | false => rfl
        | true =>
          refine (run_f rfl).trans ?_
          show (Tree.ite (decide (qn < now)) _ _).run = _
          cases decide (qn < now) with
          | true => rfl
          | false =>
            refine (run_f rfl).trans ?_
            refine (run_ask hk).trans ?_
            refine (run_ask hk).trans ?_
            refine (run_bnd hi).trans ?_
            cases sb <;> rfl
/-- One tenant, with its secret. -/
def knownN (t s : Str) : List Entry := [(keyT t secretS, (1, ([], s)))]
theorem known_run (t s : Str) (ht : t.length ≤ 100000) : (l24_known_T t s).run = some (knownN t s) := by
  unfold l24_known_T
  exact (run_bnd (show (r23_Key_T t secretS).run = _ from rKey_run t secretS ht (by decide))).trans rfl
theorem known_sm (t s : Str) (h : s.length ≤ 1000000) : SmT (knownN t s) := ⟨by show 1 ≤ 1000000; omega, fun x hx => by
  obtain rfl := List.mem_singleton.1 hx
  exact h⟩
theorem val_known (t s : Str) : valT (knownN t s) t secretS = s := by
  unfold valT getR findR knownN
  rw [List.find?_cons_of_pos (by simp)]
  rfl
theorem of_known {t s : Str} (ht : nameS t = true) (hs : secB s = true) : (ofT (knownN t s) t).2.1 = true ∧ (ofT (knownN t s) t).1.2.1 = s := by
  unfold ofT
  rw [val_known, ht, hs]
  exact ⟨rfl, val_known t s⟩
theorem of_none (t : Str) : (ofT [] t).2.1 = false := by
  have : valT [] t secretS = [] := rfl
  unfold ofT
  rw [this]
  cases nameS t <;> rfl
/-- It does what it is for. -/
theorem awake24_eq : (checkN (knownN [116] [107, 101, 121]) (tokN [107, 101, 121] [116] [97, 110, 110] 5) 5 = ([116], [97, 110, 110], 0, ())) ∧
    (checkN (knownN [116] [107, 101, 121]) (tokN [107, 101, 121] [116] [97, 110, 110] 5) 6 = noOne) ∧ (checkN (knownN [116] [111, 116, 104, 101, 114]) (tokN [107, 101, 121] [116] [97, 110, 110] 5) 5 = noOne) := by decide +kernel
theorem awake24 : l24_awake_T.run = some true := by
  have hl : (tokN [107, 101, 121] [116] [97, 110, 110] 5).length ≤ 100000 := by rw [tokN_len]; decide
  obtain ⟨h1, h2, h3⟩ := awake24_eq
  unfold l24_awake_T
  refine (run_bnd (make_run [107, 101, 121] [116] [97, 110, 110] 5 (by decide) (by decide) (by decide))).trans ?_
  refine (run_bnd (read_run _ (by omega))).trans ?_
  refine (run_bnd (known_run [116] [107, 101, 121] (by decide))).trans ?_
  refine (run_bnd (tcheck_run _ _ 5 (known_sm _ _ (by decide)) hl)).trans ?_
  refine (run_bnd (known_run [116] [107, 101, 121] (by decide))).trans ?_
  refine (run_bnd (tcheck_run _ _ 6 (known_sm _ _ (by decide)) hl)).trans ?_
  refine (run_bnd (known_run [116] [111, 116, 104, 101, 114] (by decide))).trans ?_
  refine (run_bnd (tcheck_run _ _ 5 (known_sm _ _ (by decide)) hl)).trans ?_
  rw [h1, h2, h3]
  have hr : readN (tokN [107, 101, 121] [116] [97, 110, 110] 5) = ([116], [97, 110, 110], 5, true, ()) := read_says (by decide) (by decide) ⟨by decide, by decide⟩ _ (macN_len _ _)
  rw [hr]
  rfl

end Go.Eng

