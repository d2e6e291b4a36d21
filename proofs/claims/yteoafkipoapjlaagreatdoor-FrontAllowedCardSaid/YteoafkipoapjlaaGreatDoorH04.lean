/- SHA-256: the 64 rounds over a block, of the program and of the document. -/
import Derived.Test.YteoafkipoapjlaaGreatDoorH3w
namespace Go.Eng
open Go Go.Proofs

abbrev N8 : Type := Nat × (Nat × (Nat × (Nat × (Nat × (Nat × (Nat × Nat))))))
abbrev I8 : Type := Int × (Int × (Int × (Int × (Int × (Int × (Int × Int))))))
def up8 (s : N8) : I8 := ((s.1 : Int), (s.2.1 : Int), (s.2.2.1 : Int), (s.2.2.2.1 : Int), (s.2.2.2.2.1 : Int), (s.2.2.2.2.2.1 : Int), (s.2.2.2.2.2.2.1 : Int), (s.2.2.2.2.2.2.2 : Int))
def ok8 (s : N8) : Prop := s.1 < 4294967296 ∧ s.2.1 < 4294967296 ∧ s.2.2.1 < 4294967296 ∧ s.2.2.2.1 < 4294967296 ∧ s.2.2.2.2.1 < 4294967296 ∧ s.2.2.2.2.2.1 < 4294967296 ∧ s.2.2.2.2.2.2.1 < 4294967296 ∧ s.2.2.2.2.2.2.2 < 4294967296

/-! What a round mixes. -/
def chN (e f g : Nat) : Nat := (e &&& f) ^^^ (notN e &&& g)
def majN (a b c : Nat) : Nat := ((a &&& b) ^^^ (a &&& c)) ^^^ (b &&& c)
theorem and_ltM {a b : Nat} (hb : b < 4294967296) : a &&& b < 4294967296 := Nat.and_lt_two_pow (n := 32) a hb
theorem xor_ltM {a b : Nat} (ha : a < 4294967296) (hb : b < 4294967296) : a ^^^ b < 4294967296 := Nat.xor_lt_two_pow (n := 32) ha hb
theorem not_ltM {a : Nat} (ha : a < 4294967296) : notN a < 4294967296 := xor_ltM ha (by decide)
theorem chN_lt {e f g : Nat} (hf : f < 4294967296) (hg : g < 4294967296) : chN e f g < 4294967296 := xor_ltM (and_ltM hf) (and_ltM hg)
theorem majN_lt {a b c : Nat} (hb : b < 4294967296) (hc : c < 4294967296) : majN a b c < 4294967296 := xor_ltM (xor_ltM (and_ltM hb) (and_ltM hc)) (and_ltM hc)
theorem ch32 {e f g : Nat} (he : e < 4294967296) (hf : f < 4294967296) (hg : g < 4294967296) : stdArith .xor .u32 (stdArith .and .u32 (e : Int) (f : Int)) (stdArith .and .u32 (stdArith .xor .u32 4294967295 (e : Int)) (g : Int)) = ((chN e f g : Nat) : Int) := by
  rw [not32 he, and32 he hf, and32 (not_ltM he) hg, xor32 (and_ltM hf) (and_ltM hg)]; rfl
theorem maj32 {a b c : Nat} (ha : a < 4294967296) (hb : b < 4294967296) (hc : c < 4294967296) : stdArith .xor .u32 (stdArith .xor .u32 (stdArith .and .u32 (a : Int) (b : Int)) (stdArith .and .u32 (a : Int) (c : Int))) (stdArith .and .u32 (b : Int) (c : Int)) = ((majN a b c : Nat) : Int) := by
  rw [and32 ha hb, and32 ha hc, and32 hb hc, xor32 (and_ltM hb) (and_ltM hc), xor32 (xor_ltM (and_ltM hb) (and_ltM hc)) (and_ltM hc)]; rfl
theorem mM {z : Nat} (h : z < 4294967296) : z < 9223372036854775808 := Nat.lt_trans h (by decide)
theorem ch64 {e f g : Nat} (he : e < 4294967296) (hf : f < 4294967296) (hg : g < 4294967296) : stdArith .xor .i64 (stdArith .and .i64 (e : Int) (f : Int)) (stdArith .and .i64 ((notN e : Nat) : Int) (g : Int)) = ((chN e f g : Nat) : Int) := by
  rw [and64 (mM he) (mM hf), and64 (mM (not_ltM he)) (mM hg), xor64 (mM (and_ltM hf)) (mM (and_ltM hg))]; rfl
theorem maj64 {a b c : Nat} (ha : a < 4294967296) (hb : b < 4294967296) (hc : c < 4294967296) : stdArith .xor .i64 (stdArith .xor .i64 (stdArith .and .i64 (a : Int) (b : Int)) (stdArith .and .i64 (a : Int) (c : Int))) (stdArith .and .i64 (b : Int) (c : Int)) = ((majN a b c : Nat) : Int) := by
  rw [and64 (mM ha) (mM hb), and64 (mM ha) (mM hc), and64 (mM hb) (mM hc), xor64 (mM (and_ltM hb)) (mM (and_ltM hc)), xor64 (mM (xor_ltM (and_ltM hb) (and_ltM hc))) (mM (and_ltM hc))]; rfl
theorem big64 {x : Nat} (a b c : Nat) (hx : x < 4294967296) : stdArith .xor .i64 (stdArith .xor .i64 ((rotN x a : Nat) : Int) ((rotN x b : Nat) : Int)) ((rotN x c : Nat) : Int) = ((bigN x a b c : Nat) : Int) := by
  rw [xor64 (mM (rotN_lt a hx)) (mM (rotN_lt b hx)), xor64 (mM (xor_ltM (rotN_lt a hx) (rotN_lt b hx))) (mM (rotN_lt c hx))]; rfl
theorem mods1 (h B C k w D J : Nat) : (((((h + B) % 4294967296 + C) % 4294967296 + k) % 4294967296 + w) % 4294967296 + (D + J) % 4294967296) % 4294967296 = (h + B + C + k + w + (D + J)) % 4294967296 := by omega
theorem mods2 (d h B C k w : Nat) : (d + ((((h + B) % 4294967296 + C) % 4294967296 + k) % 4294967296 + w) % 4294967296) % 4294967296 = (d + (h + B + C + k + w)) % 4294967296 := by omega
theorem sums1 {h B C k w D J : Nat} (h1 : h < 4294967296) (h2 : B < 4294967296) (h3 : C < 4294967296) (h4 : k < 4294967296) (h5 : w < 4294967296) (h6 : D < 4294967296) (h7 : J < 4294967296) :
    w64 ((w64 ((w64 ((w64 ((w64 ((h : Int) + (B : Int))) + (C : Int))) + (k : Int))) + (w : Int))) + (w64 ((D : Int) + (J : Int)))) = ((h + B + C + k + w + (D + J) : Nat) : Int) := by
  have q1 : w64 ((h : Int) + (B : Int)) = ((h + B : Nat) : Int) := add64 (by omega)
  have q2 : w64 (((h + B : Nat) : Int) + (C : Int)) = ((h + B + C : Nat) : Int) := add64 (by omega)
  have q3 : w64 (((h + B + C : Nat) : Int) + (k : Int)) = ((h + B + C + k : Nat) : Int) := add64 (by omega)
  have q4 : w64 (((h + B + C + k : Nat) : Int) + (w : Int)) = ((h + B + C + k + w : Nat) : Int) := add64 (by omega)
  have q5 : w64 ((D : Int) + (J : Int)) = ((D + J : Nat) : Int) := add64 (by omega)
  rw [q1, q2, q3, q4, q5]
  exact add64 (by omega)
theorem sums2 {d h B C k w : Nat} (h0 : d < 4294967296) (h1 : h < 4294967296) (h2 : B < 4294967296) (h3 : C < 4294967296) (h4 : k < 4294967296) (h5 : w < 4294967296) :
    w64 ((d : Int) + (w64 ((w64 ((w64 ((w64 ((h : Int) + (B : Int))) + (C : Int))) + (k : Int))) + (w : Int)))) = ((d + (h + B + C + k + w) : Nat) : Int) := by
  have q1 : w64 ((h : Int) + (B : Int)) = ((h + B : Nat) : Int) := add64 (by omega)
  have q2 : w64 (((h + B : Nat) : Int) + (C : Int)) = ((h + B + C : Nat) : Int) := add64 (by omega)
  have q3 : w64 (((h + B + C : Nat) : Int) + (k : Int)) = ((h + B + C + k : Nat) : Int) := add64 (by omega)
  have q4 : w64 (((h + B + C + k : Nat) : Int) + (w : Int)) = ((h + B + C + k + w : Nat) : Int) := add64 (by omega)
  rw [q1, q2, q3, q4]
  exact add64 (by omega)

/-- A round. -/
def rnd8 (k w a b c d e f g h : Nat) : N8 :=
  ((h + bigN e 6 11 25 + chN e f g + k + w + (bigN a 2 13 22 + majN a b c)) % 4294967296, (a, (b, (c, ((d + (h + bigN e 6 11 25 + chN e f g + k + w)) % 4294967296, (e, (f, g)))))))
theorem take_round (st c2 : I8) (ws ks : List Int) {t k w a b c d e f g h : Nat} (ht : t < 64) (hk : ks.length = 64) (hw : ws.length = 64) (gk : ks.getD t 0 = (k : Int)) (gw : ws.getD t 0 = (w : Int))
    (ha : a < 4294967296) (hb : b < 4294967296) (hc : c < 4294967296) (he : e < 4294967296) (hf : f < 4294967296) (hg : g < 4294967296) :
    (sha_take_L5_step st c2 ws ks (a : Int) (b : Int) (c : Int) (d : Int) (e : Int) (f : Int) (g : Int) (h : Int) (t : Int)).run = some (.inl (((rnd8 k w a b c d e f g h).1 : Int), (a : Int), (b : Int), (c : Int), ((rnd8 k w a b c d e f g h).2.2.2.2.1 : Int), (e : Int), (f : Int), (g : Int), ((t + 1 : Nat) : Int))) := by
  unfold sha_take_L5_step
  rw [hk, hw]
  simp only [Int.toNat_natCast]
  rw [gk, gw]
  refine (run_t (decide_eq_true (by omega))).trans ?_
  refine (run_bnd (turns_run (a := 6) (b := 11) (c := 25) he (by omega) (by omega) (by omega))).trans ?_
  refine (run_ask (inb_in (by omega))).trans ?_
  refine (run_ask (ble_in (by omega))).trans ?_
  refine (run_ask (inb_in (by omega))).trans ?_
  refine (run_ask (ble_in (by omega))).trans ?_
  refine (run_bnd (turns_run (a := 2) (b := 13) (c := 22) ha (by omega) (by omega) (by omega))).trans ?_
  simp only [ch32 he hf hg, maj32 ha hb hc, add32]
  rw [w64_nat t (by omega), mods1, mods2]
  rfl
theorem block_round (v c2 : I8) (ws ks : List Int) {t k w a b c d e f g h : Nat} (ht : t < 64) (hk : ks.length = 64) (hw : ws.length = 64) (gk : ks.getD t 0 = (k : Int)) (gw : ws.getD t 0 = (w : Int)) (bk : k < 4294967296) (bw : w < 4294967296)
    (ha : a < 4294967296) (hb : b < 4294967296) (hc : c < 4294967296) (hd : d < 4294967296) (he : e < 4294967296) (hf : f < 4294967296) (hg : g < 4294967296) (hh : h < 4294967296) :
    (r02_block_L5_step v c2 ws ks (t : Int) ((a : Int), ((b : Int), ((c : Int), ((d : Int), ((e : Int), ((f : Int), ((g : Int), (h : Int))))))))).run = some (.inl (((t + 1 : Nat) : Int), up8 (rnd8 k w a b c d e f g h))) := by
  unfold r02_block_L5_step
  dsimp only
  rw [hk, hw]
  simp only [Int.toNat_natCast]
  rw [gk, gw]
  refine (run_t (by rw [decide_eq_true (show (t : Int) < 64 by omega), decide_eq_true (show (t : Int) < ((64 : Nat) : Int) by omega)]; rfl)).trans ?_
  refine (run_ask rfl).trans ?_
  refine (run_ask rfl).trans ?_
  refine (run_ask rfl).trans ?_
  refine (run_bnd (turn_run (a := 6) he (by omega) (by omega))).trans ?_
  refine (run_bnd (turn_run (a := 11) he (by omega) (by omega))).trans ?_
  refine (run_bnd (turn_run (a := 25) he (by omega) (by omega))).trans ?_
  refine (run_ask rfl).trans ?_
  have hn : (r02_low_T (stdArith .xor .i64 (-1) (e : Int))).run = some ((notN e : Nat) : Int) := by unfold r02_low_T; rw [lowNot he]; rfl
  refine (run_bnd hn).trans ?_
  refine (run_ask rfl).trans ?_
  refine (run_ask (inb_in (by omega))).trans ?_
  refine (run_ask (ble_in (by omega))).trans ?_
  refine (run_ask (inb_in (by omega))).trans ?_
  refine (run_bnd (turn_run (a := 2) ha (by omega) (by omega))).trans ?_
  refine (run_bnd (turn_run (a := 13) ha (by omega) (by omega))).trans ?_
  refine (run_bnd (turn_run (a := 22) ha (by omega) (by omega))).trans ?_
  refine (run_ask rfl).trans ?_
  refine (run_ask rfl).trans ?_
  refine (run_ask rfl).trans ?_
  refine (run_ask rfl).trans ?_
  have b1 := bigN_lt 6 11 25 he
  have b2 := bigN_lt 2 13 22 ha
  have b3 := chN_lt (e := e) hf hg
  have b4 := majN_lt (a := a) hb hc
  have s1 := sums1 hh b1 b3 bk bw b2 b4
  have s2 := sums2 hd hh b1 b3 bk bw
  simp only [big64 _ _ _ he, big64 _ _ _ ha, ch64 he hf hg, maj64 ha hb hc]
  rw [s1, s2]
  clear s1 s2
  have e1 : rnd8 k w a b c d e f g h = ((h + bigN e 6 11 25 + chN e f g + k + w + (bigN a 2 13 22 + majN a b c)) % 4294967296, (a, (b, (c, ((d + (h + bigN e 6 11 25 + chN e f g + k + w)) % 4294967296, (e, (f, g))))))) := rfl
  rw [e1, w64_nat t (by omega)]
  clear e1
  generalize bigN e 6 11 25 = B1 at b1 ⊢
  generalize bigN a 2 13 22 = B2 at b2 ⊢
  generalize chN e f g = C1 at b3 ⊢
  generalize majN a b c = J1 at b4 ⊢
  refine (run_bnd (low_run (by omega))).trans ?_
  refine (run_ask rfl).trans ?_
  refine (run_ask rfl).trans ?_
  refine (run_ask rfl).trans ?_
  refine (run_ask rfl).trans ?_
  refine (run_bnd (low_run (by omega))).trans ?_
  refine (run_ask rfl).trans ?_
  refine (run_ask rfl).trans ?_
  refine (run_ask rfl).trans ?_
  rfl
def rndN (k w : Nat) (s : N8) : N8 := rnd8 k w s.1 s.2.1 s.2.2.1 s.2.2.2.1 s.2.2.2.2.1 s.2.2.2.2.2.1 s.2.2.2.2.2.2.1 s.2.2.2.2.2.2.2
theorem rndN_ok {k w : Nat} {s : N8} (h : ok8 s) : ok8 (rndN k w s) := by
  obtain ⟨h1, h2, h3, h4, h5, h6, h7, h8⟩ := h
  exact ⟨Nat.mod_lt _ (by decide), h1, h2, h3, Nat.mod_lt _ (by decide), h5, h6, h7⟩
def RSt (k w : Nat → Nat) (s : N8) : Nat → N8
  | 0 => s
  | t + 1 => rndN (k t) (w t) (RSt k w s t)
theorem RSt_ok (k w : Nat → Nat) {s : N8} (h : ok8 s) (t : Nat) : ok8 (RSt k w s t) := by
  induction t with
  | zero => exact h
  | succ t ih => exact rndN_ok ih

/-! The numbers of the rounds. -/
def kTup : A64u32 := match sha_rounds_T with
  | .ret x => x
  | _ => tup64f fun _ => 0
theorem k_prog : sha_rounds_T.run = some kTup := by kernel_rfl
theorem k_ref : r02_constants_T.run = some kTup := by kernel_rfl
def kN : List Nat := (tl64 kTup).map Int.toNat
theorem k_cst : tl64 kTup = cst kN := by decide +kernel
theorem k_len : (cst kN).length = 64 := by decide +kernel
theorem k_all : kN.all (fun n => decide (n < 4294967296)) = true := by decide +kernel
theorem k_lt (t : Nat) : kN.getD t 0 < 4294967296 := by
  rcases Nat.lt_or_ge t kN.length with h | h
  · rw [getD_lt _ _ _ h]; exact of_decide_eq_true (List.all_eq_true.1 k_all _ (List.getElem_mem h))
  · rw [getD_ge _ _ _ h]; decide

/-- The state behind t rounds over the block x. -/
def RB (x : Str) (s : N8) (t : Nat) : N8 := RSt (fun i => kN.getD i 0) (fun i => (WL x 64).getD i 0) s t
theorem RB_ok (x : Str) {s : N8} (h : ok8 s) (t : Nat) : ok8 (RB x s t) := RSt_ok _ _ h t
theorem RB_zero (x : Str) (s : N8) : RB x s 0 = s := rfl
theorem RB_succ (x : Str) (s : N8) (t : Nat) : RB x s (t + 1) = rndN (kN.getD t 0) ((WL x 64).getD t 0) (RB x s t) := rfl
def st9 (s : N8) (t : Nat) : Int × Int × Int × Int × Int × Int × Int × Int × Int := ((s.1 : Int), (s.2.1 : Int), (s.2.2.1 : Int), (s.2.2.2.1 : Int), (s.2.2.2.2.1 : Int), (s.2.2.2.2.2.1 : Int), (s.2.2.2.2.2.2.1 : Int), (s.2.2.2.2.2.2.2 : Int), (t : Int))
theorem w_len (x : Str) : (cst (WL x 64)).length = 64 := by rw [cst_len, WL_len]
theorem take_step (st c2 : I8) (x : Str) {s : N8} (h : ok8 s) {t : Nat} (ht : t < 64) :
    ((fun v => sha_take_L5_step st c2 (cst (WL x 64)) (cst kN) v.1 v.2.1 v.2.2.1 v.2.2.2.1 v.2.2.2.2.1 v.2.2.2.2.2.1 v.2.2.2.2.2.2.1 v.2.2.2.2.2.2.2.1 v.2.2.2.2.2.2.2.2) (st9 s t)).run = some (.inl (st9 (rndN (kN.getD t 0) ((WL x 64).getD t 0) s) (t + 1))) := by
  obtain ⟨h1, h2, h3, h4, h5, h6, h7, h8⟩ := h
  exact take_round st c2 _ _ ht k_len (w_len x) (cst_get _ _) (cst_get _ _) h1 h2 h3 h5 h6 h7
theorem block_step (st c2 : I8) (x : Str) {s : N8} (h : ok8 s) {t : Nat} (ht : t < 64) :
    (r02_block_L5_step st c2 (cst (WL x 64)) (cst kN) (t : Int) (up8 s)).run = some (.inl (((t + 1 : Nat) : Int), up8 (rndN (kN.getD t 0) ((WL x 64).getD t 0) s))) := by
  obtain ⟨h1, h2, h3, h4, h5, h6, h7, h8⟩ := h
  exact block_round st c2 _ _ ht k_len (w_len x) (cst_get _ _) (cst_get _ _) (k_lt _) (WL_lt _ _ _) h1 h2 h3 h4 h5 h6 h7 h8
theorem take_end (st c2 : I8) (w k : List Int) (s : N8) : ((fun v => sha_take_L5_step st c2 w k v.1 v.2.1 v.2.2.1 v.2.2.2.1 v.2.2.2.2.1 v.2.2.2.2.2.1 v.2.2.2.2.2.2.1 v.2.2.2.2.2.2.2.1 v.2.2.2.2.2.2.2.2) (st9 s 64)).run = some (.inr (up8 s)) := by
  show (sha_take_L5_step st c2 w k _ _ _ _ _ _ _ _ ((64 : Nat) : Int)).run = _
  unfold sha_take_L5_step
  exact run_f (decide_eq_false (by omega))
theorem block_end (st c2 : I8) (w k : List Int) (s : I8) : (r02_block_L5_step st c2 w k ((64 : Nat) : Int) s).run = some (.inr s) := by
  unfold r02_block_L5_step
  exact run_f (by rw [decide_eq_false (show ¬ ((64 : Nat) : Int) < 64 by omega)]; rfl)

/-! The state that was is added. -/
def mixI (f : Int → Int → Int) (x t : I8) : Nat → I8
  | 0 => x
  | 1 => (f x.1 t.1, x.2)
  | 2 => (f x.1 t.1, f x.2.1 t.2.1, x.2.2)
  | 3 => (f x.1 t.1, f x.2.1 t.2.1, f x.2.2.1 t.2.2.1, x.2.2.2)
  | 4 => (f x.1 t.1, f x.2.1 t.2.1, f x.2.2.1 t.2.2.1, f x.2.2.2.1 t.2.2.2.1, x.2.2.2.2)
  | 5 => (f x.1 t.1, f x.2.1 t.2.1, f x.2.2.1 t.2.2.1, f x.2.2.2.1 t.2.2.2.1, f x.2.2.2.2.1 t.2.2.2.2.1, x.2.2.2.2.2)
  | 6 => (f x.1 t.1, f x.2.1 t.2.1, f x.2.2.1 t.2.2.1, f x.2.2.2.1 t.2.2.2.1, f x.2.2.2.2.1 t.2.2.2.2.1, f x.2.2.2.2.2.1 t.2.2.2.2.2.1, x.2.2.2.2.2.2)
  | 7 => (f x.1 t.1, f x.2.1 t.2.1, f x.2.2.1 t.2.2.1, f x.2.2.2.1 t.2.2.2.1, f x.2.2.2.2.1 t.2.2.2.2.1, f x.2.2.2.2.2.1 t.2.2.2.2.2.1, f x.2.2.2.2.2.2.1 t.2.2.2.2.2.2.1, x.2.2.2.2.2.2.2)
  | _ => (f x.1 t.1, f x.2.1 t.2.1, f x.2.2.1 t.2.2.1, f x.2.2.2.1 t.2.2.2.1, f x.2.2.2.2.1 t.2.2.2.2.1, f x.2.2.2.2.2.1 t.2.2.2.2.2.1, f x.2.2.2.2.2.2.1 t.2.2.2.2.2.2.1, f x.2.2.2.2.2.2.2 t.2.2.2.2.2.2.2)
def addI (a b : Int) : Int := IntKind.wrap .u32 (a + b)
def addL (a b : Int) : Int := stdArith .and .i64 (w64 (a + b)) 4294967295
theorem take_add_step (t c x : I8) (i : Nat) (hi : i < 8) : (sha_take_L12_step t c (i : Int) (mixI addI x t i)).run = some (.inl (((i + 1 : Nat) : Int), mixI addI x t (i + 1))) :=
  match i, hi with
  | 0, _ => by kernel_rfl
  | 1, _ => by kernel_rfl
  | 2, _ => by kernel_rfl
  | 3, _ => by kernel_rfl
  | 4, _ => by kernel_rfl
  | 5, _ => by kernel_rfl
  | 6, _ => by kernel_rfl
  | 7, _ => by kernel_rfl
theorem take_add_end (t c x : I8) : (sha_take_L12_step t c ((8 : Nat) : Int) x).run = some (.inr x) := by kernel_rfl
theorem take_add (t c x : I8) : loopF (fun v => (sha_take_L12_step t c v.1 v.2).run) (0, x) = some (mixI addI x t 8) :=
  loopF_run (S := fun i => ((i : Int), mixI addI x t i)) (n := 8) (fun i hi => take_add_step t c x i hi) (take_add_end t c _) rfl
theorem block_add_step (t c x : I8) (i : Nat) (hi : i < 8) : (r02_block_L12_step t c (i : Int) (mixI addL x t i)).run = some (.inl (((i + 1 : Nat) : Int), mixI addL x t (i + 1))) :=
  match i, hi with
  | 0, _ => by kernel_rfl
  | 1, _ => by kernel_rfl
  | 2, _ => by kernel_rfl
  | 3, _ => by kernel_rfl
  | 4, _ => by kernel_rfl
  | 5, _ => by kernel_rfl
  | 6, _ => by kernel_rfl
  | 7, _ => by kernel_rfl
theorem block_add_end (t c x : I8) : (r02_block_L12_step t c ((8 : Nat) : Int) x).run = some (.inr x) := by kernel_rfl
theorem block_add (t c x : I8) : loopF (fun v => (r02_block_L12_step t c v.1 v.2).run) (0, x) = some (mixI addL x t 8) :=
  loopF_run (S := fun i => ((i : Int), mixI addL x t i)) (n := 8) (fun i hi => block_add_step t c x i hi) (block_add_end t c _) rfl
def add8 (s r : N8) : N8 := ((s.1 + r.1) % 4294967296, (s.2.1 + r.2.1) % 4294967296, (s.2.2.1 + r.2.2.1) % 4294967296, (s.2.2.2.1 + r.2.2.2.1) % 4294967296, (s.2.2.2.2.1 + r.2.2.2.2.1) % 4294967296, (s.2.2.2.2.2.1 + r.2.2.2.2.2.1) % 4294967296, (s.2.2.2.2.2.2.1 + r.2.2.2.2.2.2.1) % 4294967296, (s.2.2.2.2.2.2.2 + r.2.2.2.2.2.2.2) % 4294967296)
theorem add8_ok (s r : N8) : ok8 (add8 s r) := ⟨Nat.mod_lt _ (by decide), Nat.mod_lt _ (by decide), Nat.mod_lt _ (by decide), Nat.mod_lt _ (by decide), Nat.mod_lt _ (by decide), Nat.mod_lt _ (by decide), Nat.mod_lt _ (by decide), Nat.mod_lt _ (by decide)⟩
theorem addI_up (a b : Nat) : addI (a : Int) (b : Int) = (((a + b) % 4294967296 : Nat) : Int) := add32 a b
theorem addL_up {a b : Nat} (ha : a < 4294967296) (hb : b < 4294967296) : addL (a : Int) (b : Int) = (((b + a) % 4294967296 : Nat) : Int) := by
  unfold addL; rw [add64 (by omega), low64 (by omega), Nat.add_comm]
theorem mix_prog (s r : N8) : mixI addI (up8 s) (up8 r) 8 = up8 (add8 s r) := by
  simp only [mixI, up8, add8, addI_up]
theorem mix_ref {s r : N8} (hs : ok8 s) (hr : ok8 r) : mixI addL (up8 r) (up8 s) 8 = up8 (add8 s r) := by
  obtain ⟨h1, h2, h3, h4, h5, h6, h7, h8⟩ := hs
  obtain ⟨k1, k2, k3, k4, k5, k6, k7, k8⟩ := hr
  simp only [mixI, up8, add8, addL_up k1 h1, addL_up k2 h2, addL_up k3 h3, addL_up k4 h4, addL_up k5 h5, addL_up k6 h6, addL_up k7 h7, addL_up k8 h8]

/-- What a block makes of a state. -/
def blockN (x : Str) (s : N8) : N8 := add8 s (RB x s 64)
theorem blockN_ok (x : Str) (s : N8) : ok8 (blockN x s) := add8_ok _ _
def takeR (x0 : I8) (w k : List Int) : Tree I8 :=
  ask (inb 0 8) <|
  ask (inb 1 8) <|
  ask (inb 2 8) <|
  ask (inb 3 8) <|
  ask (inb 4 8) <|
  ask (inb 5 8) <|
  ask (inb 6 8) <|
  ask (inb 7 8) <|
  .bnd (.loop (fun v => sha_take_L5_step x0 (0, (0, (0, (0, (0, (0, (0, 0))))))) w k v.1 v.2.1 v.2.2.1 v.2.2.2.1 v.2.2.2.2.1 v.2.2.2.2.2.1 v.2.2.2.2.2.2.1 v.2.2.2.2.2.2.2.1 v.2.2.2.2.2.2.2.2) (x0.1, x0.2.1, x0.2.2.1, x0.2.2.2.1, x0.2.2.2.2.1, x0.2.2.2.2.2.1, x0.2.2.2.2.2.2.1, x0.2.2.2.2.2.2.2, 0)) fun r3 =>
  .bnd (.loop (fun v => sha_take_L12_step r3 (0, (0, (0, (0, (0, (0, (0, 0))))))) v.1 v.2) (0, x0)) fun r4 =>
  .ret r4
theorem take_eq (x0 : I8) (x1 : List Int) : sha_take_T x0 x1 = .bnd (sha_spread_T x1) fun y1 => .bnd sha_rounds_T fun y2 => takeR x0 (tl64 y1) (tl64 y2) := by kernel_rfl
def blockR (x0 : I8) (w k : List Int) : Tree I8 :=
  .bnd (.loop (fun v => r02_block_L5_step x0 (0, (0, (0, (0, (0, (0, (0, 0))))))) w k v.1 v.2) (0, x0)) fun r3 =>
  .bnd (.loop (fun v => r02_block_L12_step x0 (0, (0, (0, (0, (0, (0, (0, 0))))))) v.1 v.2) (0, r3)) fun r4 =>
  .ret r4
theorem block_eq (x0 : I8) (x1 : Str) : r02_block_T x0 x1 = .bnd (r02_words_T x1) fun y1 => .bnd r02_constants_T fun y2 => blockR x0 y1 (tl64 y2) := by kernel_rfl
attribute [local irreducible] RB WL kN kTup
theorem take_run (x : Str) (hx : x.length = 64) {s : N8} (hs : ok8 s) : (sha_take_T (up8 s) (strI x)).run = some (up8 (blockN x s)) := by
  rw [take_eq]
  refine (run_bnd (spread_run x hx)).trans ?_
  refine (run_bnd k_prog).trans ?_
  rw [tl_tup (w_len x), k_cst]
  unfold takeR
  refine (run_ask rfl).trans ?_
  refine (run_ask rfl).trans ?_
  refine (run_ask rfl).trans ?_
  refine (run_ask rfl).trans ?_
  refine (run_ask rfl).trans ?_
  refine (run_ask rfl).trans ?_
  refine (run_ask rfl).trans ?_
  refine (run_ask rfl).trans ?_
  refine (run_bnd (loop_run (loopF_run (a := up8 (RB x s 64)) (S := fun t => st9 (RB x s t) t) (n := 64) (fun t ht => ?_) ?_ ?_))).trans ?_
  · have := take_step (up8 s) (0, (0, (0, (0, (0, (0, (0, 0))))))) x (RB_ok x hs t) ht
    rw [← RB_succ] at this
    exact this
  · exact take_end _ _ _ _ _
  · rw [RB_zero]; rfl
  refine (run_bnd (loop_run (take_add _ _ _))).trans ?_
  rw [mix_prog]
  rfl
theorem block_run (x : Str) (hx : x.length = 64) {s : N8} (hs : ok8 s) : (r02_block_T (up8 s) x).run = some (up8 (blockN x s)) := by
  rw [block_eq]
  refine (run_bnd (words_run x hx)).trans ?_
  refine (run_bnd k_ref).trans ?_
  rw [k_cst]
  unfold blockR
  refine (run_bnd (loop_run (loopF_run (a := up8 (RB x s 64)) (S := fun t => ((t : Int), up8 (RB x s t))) (n := 64) (fun t ht => ?_) ?_ ?_))).trans ?_
  · have := block_step (up8 s) (0, (0, (0, (0, (0, (0, (0, 0))))))) x (RB_ok x hs t) ht
    rw [← RB_succ] at this
    exact this
  · exact block_end _ _ _ _ _
  · rw [RB_zero]; rfl
  refine (run_bnd (loop_run (block_add _ _ _))).trans ?_
  rw [mix_ref hs (RB_ok x hs 64)]
  rfl
end Go.Eng

