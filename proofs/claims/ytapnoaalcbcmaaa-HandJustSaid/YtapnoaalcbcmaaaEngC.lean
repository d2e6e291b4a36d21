/- The operations of the abstract machine are sound: types, memory, numbers. -/
import Derived.Test.YtapnoaalcbcmaaaEngB
import Derived.WalkSpells
import Derived.ChangeKeysEq
namespace Go.Eng
open Go Go.RowKit

def AllT : List Bool → Prop
  | [] => True
  | [b] => b = true
  | b :: l => b = true ∧ AllT l

theorem AllT.cons {b : Bool} {l : List Bool} : AllT (b :: l) ↔ b = true ∧ AllT l := by
  cases l with
  | nil => simp [AllT]
  | cons c l => exact Iff.rfl
theorem AllT.cat {k l : List Bool} : AllT (catB k l) ↔ AllT k ∧ AllT l := by
  induction k with
  | nil => simp [catB, AllT]
  | cons b k ih => simp only [catB, AllT.cons, ih, and_assoc]

def tdOf (P : Program) (t : TypeId) : TypeDesc → TD
  | .int k => .int k
  | .bool => .bool
  | .string => .str
  | .struct fs => match (fs.toList.all fun f => f.name != "_") && !P.stoodInHeld t && !P.eqGuardType P.depth t with
    | true => .struct (fs.toList.map fun f => (f.type, f.offset))
    | false => .other
  | .array n e => .array n e
  | .slice e => .slice e
  | .map k e => .map k e
  | .pointer e => .ptr e
  | .func .. => .func
  | _ => .other

def noTy : TyI := ⟨.other, 0, 0, [], none⟩

/-- A zero value that is no compound has one cell: itself. -/
def zok (d : TD) (z : Value) : Bool :=
  match aggTD d, z with
  | false, .agg _ => false
  | _, _ => true

def tyOf (P : Program) (t : TypeId) : TyI :=
  match P.underlying t, P.info? t with
  | some d, some i => match i.zero with
    | some z => match Nat.beq z.cells.size i.size && zok (tdOf P t d) z with
      | true => ⟨tdOf P t d, i.size, i.bytes, ofVals z.cells.toList, none⟩
      | false => noTy
    | none => noTy
  | _, _ => noTy

def tabOf (P : Program) : Nat → Nat → Tab
  | _, 0 => []
  | i, n + 1 => tyOf P i :: tabOf P (i + 1) n

def strip (x : TyI) : TyI := ⟨x.d, x.sz, x.bytes, x.z, none⟩
def stripT : Tab → Tab
  | [] => []
  | a :: l => strip a :: stripT l
theorem tyi_strip (T : Tab) (t : Nat) : tyi (stripT T) t = strip (tyi T t) := by
  induction T generalizing t with
  | nil => rfl
  | cons a l ih => cases t with
    | zero => rfl
    | succ t => exact ih t
def TabOk (P : Program) (T : Tab) : Prop := ∀ t, strip (tyi T t) = tyOf P t ∨ strip (tyi T t) = noTy

theorem tyi_tabOf (P : Program) (n i t : Nat) : tyi (tabOf P i n) t = tyOf P (i + t) ∨ tyi (tabOf P i n) t = noTy := by
  induction n generalizing i t with
  | zero => exact .inr rfl
  | succ n ih => cases t with
    | zero => exact .inl rfl
    | succ t => simp only [tabOf, tyi]; rw [show i + (t + 1) = i + 1 + t from by omega]; exact ih (i + 1) t

theorem tabOk_of {P : Program} {T : Tab} (n : Nat) (h : tabOf P 0 n = stripT T) : TabOk P T := by
  intro t; rw [← tyi_strip, ← h]; have := tyi_tabOf P n 0 t; simpa using this

variable {P : Program} {T : Tab}

structure TyFacts (P : Program) (ti : TyI) (t : Nat) (d : TypeDesc) (i : TypeInfo) (z : Value) : Prop where
  und : P.underlying t = some d
  info : P.info? t = some i
  zero : i.zero = some z
  zsz : z.cells.size = i.size
  d : ti.d = tdOf P t d
  sz : ti.sz = i.size
  by_ : ti.bytes = i.bytes
  zk : zok ti.d z = true
  z : ti.z = ofVals z.cells.toList

theorem TabOk.facts (h : TabOk P T) {t : Nat} (hne : strip (tyi T t) ≠ noTy) : ∃ d i z, TyFacts P (tyi T t) t d i z := by
  suffices hs : ∃ d i z, TyFacts P (strip (tyi T t)) t d i z by
    obtain ⟨d, i, z, f⟩ := hs; exact ⟨d, i, z, f.und, f.info, f.zero, f.zsz, f.d, f.sz, f.by_, f.zk, f.z⟩
  rcases h t with e | e
  · rw [e] at hne ⊢
    unfold tyOf at hne ⊢
    cases hd : P.underlying t with
    | none => simp [hd] at hne
    | some d =>
      cases hi : P.info? t with
      | none => simp [hd, hi] at hne
      | some i =>
        simp only [hd, hi] at hne ⊢
        cases hz : i.zero with
        | none => simp [hz] at hne
        | some z =>
          simp only [hz] at hne ⊢
          cases hb : Nat.beq z.cells.size i.size && zok (tdOf P t d) z with
          | false => simp [hb] at hne
          | true =>
            rw [Bool.and_eq_true] at hb
            exact ⟨d, i, z, hd, hi, hz, Nat.eq_of_beq_eq_true hb.1, rfl, rfl, rfl, hb.2, rfl⟩
  · exact absurd e hne

theorem TabOk.of_d (h : TabOk P T) {t : Nat} {x : TD} (hx : (tyi T t).d = x) (hne : x ≠ .other) : ∃ d i z, TyFacts P (tyi T t) t d i z :=
  h.facts (fun e => hne (by rw [← hx]; exact congrArg TyI.d e))

theorem TabOk.of_sz (h : TabOk P T) {t : Nat} (hx : 1 ≤ (tyi T t).sz) : ∃ d i z, TyFacts P (tyi T t) t d i z :=
  h.facts (fun e => by have e' : (tyi T t).sz = 0 := congrArg TyI.sz e; omega)

theorem td_int {t : Nat} {d : TypeDesc} {k : IntKind} (h : tdOf P t d = .int k) : d = .int k := by
  cases d <;> simp [tdOf] at h ⊢ <;> first | exact h | (split at h <;> simp at h)
theorem td_bool {t : Nat} {d : TypeDesc} (h : tdOf P t d = .bool) : d = .bool := by
  cases d <;> simp [tdOf] at h ⊢ <;> (split at h <;> simp at h)
theorem td_str {t : Nat} {d : TypeDesc} (h : tdOf P t d = .str) : d = .string := by
  cases d <;> simp [tdOf] at h ⊢ <;> (split at h <;> simp at h)
theorem td_slice {t : Nat} {d : TypeDesc} {e : Nat} (h : tdOf P t d = .slice e) : d = .slice e := by
  cases d <;> simp [tdOf] at h ⊢ <;> first | exact h | (split at h <;> simp at h)
theorem td_ptr {t : Nat} {d : TypeDesc} {e : Nat} (h : tdOf P t d = .ptr e) : d = .pointer e := by
  cases d <;> simp [tdOf] at h ⊢ <;> first | exact h | (split at h <;> simp at h)
theorem td_map {t : Nat} {d : TypeDesc} {k e : Nat} (h : tdOf P t d = .map k e) : d = .map k e := by
  cases d <;> simp [tdOf] at h ⊢ <;> first | exact h | (split at h <;> simp at h)
theorem td_array {t : Nat} {d : TypeDesc} {n e : Nat} (h : tdOf P t d = .array n e) : d = .array n e := by
  cases d <;> simp [tdOf] at h ⊢ <;> first | exact h | (split at h <;> simp at h)
theorem td_struct {t : Nat} {d : TypeDesc} {fs : List (Nat × Nat)} (h : tdOf P t d = .struct fs) :
    ∃ l : Array Field, d = .struct l ∧ fs = (l.toList.map fun f => (f.type, f.offset)) ∧ (∀ f ∈ l.toList, (f.name != "_") = true) ∧ P.stoodInHeld t = false ∧ P.eqGuardType P.depth t = false := by
  cases d with
  | struct l =>
    simp only [tdOf] at h
    cases hb : (l.toList.all fun f => f.name != "_") && !P.stoodInHeld t && !P.eqGuardType P.depth t with
    | false => rw [hb] at h; simp at h
    | true =>
      rw [hb] at h
      simp only [Bool.and_eq_true, Bool.not_eq_true', List.all_eq_true] at hb
      exact ⟨l, rfl, by injection h with h; exact h.symm, fun f hf => hb.1.1 f hf, hb.1.2, hb.2⟩
  | _ => simp [tdOf] at h

/-- What an operation of the abstract machine says of the true one. -/
def Res (base : Env) (w : World) (S : Nat → Prop) (m : Locs) (P : Program) (r : R) (x : Sem Value) : Prop :=
  ∃ v w' S' m', x.run P w = .ok v w' ∧ Trans base w S m w' S' m' r.inv ∧ MRel base w' S' m' (r.m) ∧ Rel w' S' m' v r.v

theorem Res.val {base : Env} {w : World} {S : Nat → Prop} {m : Locs} {M : Mem} (hM : MRel base w S m M) {x : Sem Value} {v : Value} {a : AV} {ks : List Bool} (hx : x.run P w = .ok v w) (hr : Rel w S m v a) :
    Res base w S m P ⟨a, M, ks, none⟩ x := ⟨v, w, S, m, hx, .refl _ _ _ _, hM, hr⟩

theorem not_bad {M : Mem} (h : AllT (bad M).ks) : False := by simp [bad, AllT] at h

section ops
variable {base : Env} {w : World} {S : Nat → Prop} {m : Locs} {M : Mem}

theorem min_le_zero (k : IntKind) : k.min ≤ 0 := by cases k <;> decide
theorem zero_le_max (k : IntKind) : 0 ≤ k.max := by cases k <;> decide
theorem wf_iff (k : IntKind) (n : Int) : (Lit.int k n).wf = true ↔ k.min ≤ n ∧ n ≤ k.max := by simp [Lit.wf]
theorem wf_between {k : IntKind} {a n : Int} (h : (Lit.int k a).wf = true) (h1 : 0 ≤ a → 0 ≤ n ∧ n ≤ a) (h2 : a < 0 → a ≤ n ∧ n ≤ 0) : (Lit.int k n).wf = true := by
  rw [wf_iff] at *
  have := min_le_zero k
  have := zero_le_max k
  by_cases ha : 0 ≤ a
  · have := h1 ha; omega
  · have := h2 (by omega); omega
theorem wf_wrap (k : IntKind) (n : Int) : (Lit.int k (k.wrap n)).wf = true := (wf_iff k _).2 (wrap_within k n)
theorem tmod_le' {a : Int} (b : Int) (h : 0 ≤ a) : a.tmod b ≤ a := by
  obtain ⟨n, rfl⟩ := Int.eq_ofNat_of_zero_le h
  cases b with
  | ofNat b => exact Int.ofNat_le.2 (Nat.mod_le n b)
  | negSucc b => exact Int.ofNat_le.2 (Nat.mod_le n (b + 1))
theorem wf_tmod {k : IntKind} {a : Int} (b : Int) (h : (Lit.int k a).wf = true) : (Lit.int k (a.tmod b)).wf = true := by
  refine wf_between h (fun ha => ?_) (fun ha => ?_)
  · exact ⟨Int.tmod_nonneg b ha, tmod_le' b ha⟩
  · have e : a.tmod b = -((-a).tmod b) := by rw [Int.neg_tmod, Int.neg_neg]
    rw [e]
    have h1 := Int.tmod_nonneg b (show (0 : Int) ≤ -a by omega)
    have h2 : (-a).tmod b ≤ -a := tmod_le' b (by omega)
    omega
theorem wf_fdiv {k : IntKind} {a : Int} (n : Nat) (h : (Lit.int k a).wf = true) : (Lit.int k (a.fdiv (2 ^ n))).wf = true := by
  have hp : (0 : Int) < 2 ^ n := Int.pow_pos (by decide)
  have e : a.fdiv (2 ^ n) = a / (2 ^ n) := Int.fdiv_eq_ediv_of_nonneg a (Int.le_of_lt hp)
  rw [e]
  refine wf_between h (fun ha => ?_) (fun ha => ?_)
  · exact ⟨Int.ediv_nonneg ha (Int.le_of_lt hp), Int.ediv_le_self _ ha⟩
  · refine ⟨?_, ?_⟩
    · rw [Int.le_ediv_iff_mul_le hp]
      have : (1 : Int) ≤ 2 ^ n := by omega
      calc a * 2 ^ n ≤ a * 1 := Int.mul_le_mul_of_nonpos_left (by omega) this
        _ = a := Int.mul_one a
    · exact Int.le_of_lt (Int.ediv_neg_of_neg_of_pos ha hp)

theorem aInt_ok (hM : MRel base w S m M) (op : BinOp) (t : TypeId) (xo yo : Operand) (k : IntKind) (a b : Int) (ha : (Lit.int k a).wf = true) (hk : AllT (aInt std M op k a b).ks) :
    Res base w S m P (aInt std M op k a b) (do eqGuard op t xo yo (.int k a) (.int k b); binOp op t (.int k a) (.int k b)) := by
  cases op
  case add => exact .val hM (by simp [eqGuard, binOp, Op.intArith]; rfl) (.int _ _ _ (wf_wrap k _))
  case sub => exact .val hM (by simp [eqGuard, binOp, Op.intArith]; rfl) (.int _ _ _ (wf_wrap k _))
  case mul => exact .val hM (by simp [eqGuard, binOp, Op.intArith]; rfl) (.int _ _ _ (wf_wrap k _))
  case and => exact .val hM (by simp [eqGuard, binOp, Op.intBits]; rfl) (.int _ _ _ (wf_wrap k _))
  case or => exact .val hM (by simp [eqGuard, binOp, Op.intBits]; rfl) (.int _ _ _ (wf_wrap k _))
  case xor => exact .val hM (by simp [eqGuard, binOp, Op.intBits]; rfl) (.int _ _ _ (wf_wrap k _))
  case andNot => exact .val hM (by simp [eqGuard, binOp, Op.intBits, std, stdArith]) (.int _ _ _ (wf_wrap k _))
  case quo =>
    have h0 : b ≠ 0 := by simpa [aInt, valIf, AllT, std] using hk
    exact .val hM (by simp [eqGuard, binOp, Op.intDiv, h0]; rfl) (.int _ _ _ (wf_wrap k _))
  case rem =>
    have h0 : b ≠ 0 := by simpa [aInt, valIf, AllT, std] using hk
    exact .val hM (by simp [eqGuard, binOp, Op.intDiv, h0]; rfl) (.int _ _ _ (wf_tmod b ha))
  case shl => exact (not_bad hk).elim
  case shr => exact (not_bad hk).elim
  case eql => exact .val hM (v := .bool (decide (a = b))) (by simp [eqGuard, binOp, Op.intCmp]; rfl) (.bool _ _)
  case neq => exact .val hM (v := .bool (!decide (a = b))) (by simp [eqGuard, binOp, Op.intCmp]; rfl) (.bool _ _)
  case lss => exact .val hM (v := .bool (decide (a < b))) (by simp [eqGuard, binOp, Op.intCmp]) (.bool _ _)
  case leq => exact .val hM (v := .bool (decide (a ≤ b))) (by simp [eqGuard, binOp, Op.intCmp]) (.bool _ _)
  case gtr => exact .val hM (v := .bool (decide (b < a))) (by simp [eqGuard, binOp, Op.intCmp]) (.bool _ _)
  case geq => exact .val hM (v := .bool (decide (b ≤ a))) (by simp [eqGuard, binOp, Op.intCmp]) (.bool _ _)

theorem aShift_ok (hM : MRel base w S m M) (op : BinOp) (hop : op = .shl ∨ op = .shr) (t : TypeId) (xo yo : Operand) (k k' : IntKind) (a b : Int) (ha : (Lit.int k a).wf = true) (hk : AllT (aShift std M op k a b).ks) :
    Res base w S m P (aShift std M op k a b) (do eqGuard op t xo yo (.int k a) (.int k' b); binOp op t (.int k a) (.int k' b)) := by
  have h0 : ¬ b < 0 := by simpa [aShift, valIf, AllT, std] using hk
  rcases hop with rfl | rfl
  · exact .val hM (by simp [eqGuard, binOp, Op.shift, h0]; rfl) (.int _ _ _ (wf_wrap k _))
  · exact .val hM (by simp [eqGuard, binOp, Op.shift, h0]; rfl) (.int _ _ _ (wf_fdiv _ ha))

theorem bytes_size (s : List UInt8) : (bytes s).size = s.length := by simp [bytes, ByteArray.size]
theorem bytes_toList (s : List UInt8) : (bytes s).toList = s := by
  rw [ByteArray.toList_eq]; simp [bytes]

theorem aStr_ok (hM : MRel base w S m M) (op : BinOp) (t : TypeId) (xo yo : Operand) (a b : List UInt8) (hk : AllT (aStr std M op a b).ks) :
    Res base w S m P (aStr std M op a b) (do eqGuard op t xo yo (.string (bytes a)) (.string (bytes b)); binOp op t (.string (bytes a)) (.string (bytes b))) := by
  have hne : eqGuard op t xo yo (.string (bytes a)) (.string (bytes b)) = pure () := by unfold eqGuard; split <;> rfl
  rw [hne]
  cases op <;> first
    | exact (not_bad hk).elim
    | (refine .val hM (v := .bool _) ?_ (.bool _ _); simp [binOp, Op.stringOp, bytes_toList]; rfl)
    | (refine .val hM (v := .bool _) ?_ (.bool _ _); simp [binOp, Op.stringOp, bytes_toList, std]; done)
    | skip
  have hl : a.length + b.length ≤ 9223372036854775807 := by simpa [aStr, valIf, AllT, std] using hk
  refine .val hM (v := .string (bytes (a ++ b))) ?_ (.str _ _ (by simp [std, maxLen]; omega))
  have h1 : ¬ (((bytes a).size + (bytes b).size : Nat) : Int) > IntKind.i64.max := by
    rw [bytes_size, bytes_size]; simp [IntKind.max, IntKind.signed, IntKind.bits]; omega
  have h2 : bytes a ++ bytes b = bytes (a ++ b) := by
    apply ByteArray.ext; simp [bytes, ByteArray.data_append]
  simp only [binOp, Op.stringOp, if_neg h1, h2]
  rfl

theorem eqCell_ok (hT : TabOk P T) {t : Nat} {x y : AV} {r : Bool} (h : eqCell std T t x y = some r) {vx vy : Value} (hx : Rel w S m vx x) (hy : Rel w S m vy y) (d : Nat) :
    (Op.equalIn (d + 1) t vx vy).run P w = .ok r w := by
  unfold eqCell at h
  cases ht : (tyi T t).d with
  | int k0 =>
    obtain ⟨d0, i, z, f⟩ := hT.of_d ht (by simp)
    have hd := f.d; rw [ht] at hd
    have hd := td_int hd.symm; subst hd
    rw [ht] at h
    cases x <;> try (simp at h; done)
    cases y <;> try (simp at h; done)
    rename_i k a k' b
    cases hx; cases hy
    by_cases hkk : k = k'
    · subst hkk
      simp only [decide_true] at h
      injection h with h; subst h
      simp [Op.equalIn, run_underlying f.und, std]
      rfl
    · simp [hkk] at h
  | bool =>
    obtain ⟨d0, i, z, f⟩ := hT.of_d ht (by simp)
    have hd := f.d; rw [ht] at hd
    have hd := td_bool hd.symm; subst hd
    rw [ht] at h
    cases x <;> try (simp at h; done)
    cases y <;> try (simp at h; done)
    cases hx; cases hy
    simp only [] at h
    injection h with h; subst h
    simp [Op.equalIn, run_underlying f.und, std]
  | str =>
    obtain ⟨d0, i, z, f⟩ := hT.of_d ht (by simp)
    have hd := f.d; rw [ht] at hd
    have hd := td_str hd.symm; subst hd
    rw [ht] at h
    cases x <;> try (simp at h; done)
    cases y <;> try (simp at h; done)
    rename_i a b
    cases hx; cases hy
    simp only [] at h
    injection h with h; subst h
    have e : (bytes a == bytes b) = (a == b) := by rw [beq_toListBytes, bytes_toList, bytes_toList]
    simp [Op.equalIn, run_underlying f.und, std, e]
  | _ => rw [ht] at h; simp at h

theorem getD_extract (xs : Array Value) (off n i : Nat) (h : off + n ≤ xs.size) (hi : i < n) : (xs.extract off (off + n)).getD i Go.undef = xs.getD (off + i) Go.undef := by
  simp only [Array.getD_eq_getD_getElem?]
  rw [Array.getElem?_extract]
  rw [if_pos (by omega)]

/-- The part of an aggregate. -/
theorem part_agg (hT : TabOk P T) {t off : Nat} {xs : Array Value} {cs : List AV} (hx : Rel w S m (.agg xs) (.agg cs)) (hagg : isAggT T t = true) (hsz : 1 ≤ (tyi T t).sz) (hl : off + (tyi T t).sz ≤ lenA cs) :
    ∃ v, (part t xs off).run P w = .ok (.agg v) w ∧ Rel w S m (.agg v) (.agg (takeN (tyi T t).sz (dropN off cs))) := by
  obtain ⟨d, i, z, f⟩ := hT.of_sz hsz
  cases hx with
  | agg _ _ _ hlen h1 h =>
    have hd := f.d
    have hag : ∃ b, (isAgg t).run P w = .ok b w ∧ b = true := by
      unfold isAggT at hagg
      rw [hd] at hagg
      refine ⟨true, ?_, rfl⟩
      cases d <;> simp [tdOf] at hagg <;> simp [isAgg, run_underlying f.und]
    obtain ⟨b, hb, rfl⟩ := hag
    refine ⟨xs.extract off (off + i.size), ?_, ?_⟩
    · simp [part, hb, sizeOf, typeInfo, f.info]
    · rw [f.sz] at hl ⊢
      have e : lenA (takeN i.size (dropN off cs)) = i.size := lenA_take _ _ (by rw [lenA_drop]; omega)
      refine .agg _ _ _ (by rw [e]; simp; omega) (fun j hj => ?_) (fun j hj => ?_)
      · rw [e] at hj; rw [getD_extract _ _ _ _ (by omega) hj]; exact h1 _ (by omega)
      · rw [e] at hj; rw [getD_extract _ _ _ _ (by omega) hj, nth_take_drop _ _ _ _ hj]; exact h _ (by omega)

theorem part_cell (hT : TabOk P T) {t off : Nat} {xs : Array Value} {cs : List AV} (hx : Rel w S m (.agg xs) (.agg cs)) (hagg : isAggT T t = false) (hd : (tyi T t).d ≠ .other) (hl : off + 1 ≤ lenA cs) :
    (part t xs off).run P w = .ok (xs.getD off Go.undef) w ∧ Rel w S m (xs.getD off Go.undef) (nth cs off) := by
  obtain ⟨d, i, z, f⟩ := hT.of_d rfl hd
  cases hx with
  | agg _ _ _ hlen h1 h =>
    refine ⟨?_, h _ (by omega)⟩
    have hb : (isAgg t).run P w = .ok false w := by
      unfold isAggT at hagg
      rw [f.d] at hagg hd
      cases d with
      | struct l => exfalso; revert hagg hd; simp only [tdOf]; split <;> simp
      | array n e => simp [tdOf] at hagg
      | _ => simp [isAgg, run_underlying f.und]
    have hlt : off < xs.size := by omega
    simp [part, hb, hlt]

theorem isAggT_struct {t : Nat} {fs : List (Nat × Nat)} (h : (tyi T t).d = .struct fs) : isAggT T t = true := by unfold isAggT; rw [h]

theorem aConj_some {a b : Option Bool} {r : Bool} (h : aConj std a b = some r) : ∃ x y, a = some x ∧ b = some y ∧ r = (x && y) := by
  cases a with
  | none => simp [aConj] at h
  | some x => cases b with
    | none => simp [aConj] at h
    | some y => exact ⟨x, y, rfl, rfl, by simpa [aConj, std] using h.symm⟩

theorem eqFields_ok (hT : TabOk P T) : ∀ (n : Nat) (l : List Field) (xs ys : Array Value) (cs ds : List AV) (r : Bool) (d : Nat), n ≤ d →
    (∀ f ∈ l, (f.name != "_") = true) → eqFields std T n (l.map fun f => (f.type, f.offset)) cs ds = some r →
    Rel w S m (.agg xs) (.agg cs) → Rel w S m (.agg ys) (.agg ds) → (Op.eqFields d xs ys l).run P w = .ok r w := by
  intro n
  induction n using Nat.strongRecOn with
  | _ n ih =>
  intro l xs ys cs ds r d hd hname h hx hy
  cases l with
  | nil => cases n <;> (simp [eqFields] at h; subst h; rfl)
  | cons f l =>
    cases n with
    | zero => simp [eqFields] at h
    | succ n =>
      obtain ⟨d, rfl⟩ : ∃ e, d = e + 1 := ⟨d - 1, by omega⟩
      simp only [List.map_cons, eqFields] at h
      split at h
      case h_2 => simp at h
      rename_i h1 h2 h3
      have h1 := Nat.le_of_ble_eq_true h1
      have h2 := Nat.le_of_ble_eq_true h2
      have h3 := Nat.le_of_ble_eq_true h3
      have hn : f.name ≠ "_" := by simpa using hname f (by simp)
      have step : ∀ (va vb : Value) (x y : Bool), (part f.type xs f.offset).run P w = .ok va w → (part f.type ys f.offset).run P w = .ok vb w → (Op.equalIn (d + 1) f.type va vb).run P w = .ok x w →
          eqFields std T n (l.map fun f => (f.type, f.offset)) cs ds = some y → (Op.eqFields (d + 1) xs ys (f :: l)).run P w = .ok (x && y) w := fun va vb x y ha hb hab hy' => by
        have hl := ih n (by omega) l xs ys cs ds y (d + 1) (by omega) (fun g hg => hname g (by simp [hg])) hy' hx hy
        simp only [Op.eqFields, ne_eq, hn, not_false_eq_true, if_true, Sem.run_bind, ha, hb, hab, Result.andThen_ok]
        cases x
        · rfl
        · simpa using hl
      cases htd : (tyi T f.type).d with
      | struct fs =>
        rw [htd] at h
        obtain ⟨x, y, hxx, hyy, rfl⟩ := aConj_some h
        obtain ⟨va, ha, hra⟩ := part_agg hT hx (isAggT_struct htd) h1 h2
        obtain ⟨vb, hb, hrb⟩ := part_agg hT hy (isAggT_struct htd) h1 h3
        refine step _ _ x y ha hb ?_ hyy
        cases n with
        | zero => simp [eqAgg] at hxx
        | succ n =>
          simp only [eqAgg, htd] at hxx
          obtain ⟨dd, i, z, ff⟩ := hT.of_d htd (by simp)
          have hdd := ff.d; rw [htd] at hdd
          obtain ⟨lf, rfl, rfl, hnm, hst, _⟩ := td_struct hdd.symm
          have hfo : P.fieldsOf f.type = lf := by simp [Program.fieldsOf, ff.und]
          rw [run_equalIn_struct w d f.type va vb (by rw [hfo]; exact ff.und) hst, hfo]
          exact ih n (by omega) lf.toList va vb _ _ x d (by omega) hnm hxx hra hrb
      | array k e => rw [htd] at h; simp at h
      | other => rw [htd] at h; obtain ⟨x, y, hxx, hyy, rfl⟩ := aConj_some h; simp [eqCell, htd] at hxx
      | slice e => rw [htd] at h; obtain ⟨x, y, hxx, hyy, rfl⟩ := aConj_some h; simp [eqCell, htd] at hxx
      | map k e => rw [htd] at h; obtain ⟨x, y, hxx, hyy, rfl⟩ := aConj_some h; simp [eqCell, htd] at hxx
      | ptr e => rw [htd] at h; obtain ⟨x, y, hxx, hyy, rfl⟩ := aConj_some h; simp [eqCell, htd] at hxx
      | func => rw [htd] at h; obtain ⟨x, y, hxx, hyy, rfl⟩ := aConj_some h; simp [eqCell, htd] at hxx
      | int k =>
        rw [htd] at h
        obtain ⟨x, y, hxx, hyy, rfl⟩ := aConj_some h
        obtain ⟨ha, hra⟩ := part_cell (t := f.type) (off := f.offset) hT hx (by simp [isAggT, htd]) (by rw [htd]; simp) (show f.offset + 1 ≤ lenA cs by omega)
        obtain ⟨hb, hrb⟩ := part_cell (t := f.type) (off := f.offset) hT hy (by simp [isAggT, htd]) (by rw [htd]; simp) (show f.offset + 1 ≤ lenA ds by omega)
        exact step _ _ x y ha hb (eqCell_ok hT hxx hra hrb d) hyy
      | bool =>
        rw [htd] at h
        obtain ⟨x, y, hxx, hyy, rfl⟩ := aConj_some h
        obtain ⟨ha, hra⟩ := part_cell (t := f.type) (off := f.offset) hT hx (by simp [isAggT, htd]) (by rw [htd]; simp) (show f.offset + 1 ≤ lenA cs by omega)
        obtain ⟨hb, hrb⟩ := part_cell (t := f.type) (off := f.offset) hT hy (by simp [isAggT, htd]) (by rw [htd]; simp) (show f.offset + 1 ≤ lenA ds by omega)
        exact step _ _ x y ha hb (eqCell_ok hT hxx hra hrb d) hyy
      | str =>
        rw [htd] at h
        obtain ⟨x, y, hxx, hyy, rfl⟩ := aConj_some h
        obtain ⟨ha, hra⟩ := part_cell (t := f.type) (off := f.offset) hT hx (by simp [isAggT, htd]) (by rw [htd]; simp) (show f.offset + 1 ≤ lenA cs by omega)
        obtain ⟨hb, hrb⟩ := part_cell (t := f.type) (off := f.offset) hT hy (by simp [isAggT, htd]) (by rw [htd]; simp) (show f.offset + 1 ≤ lenA ds by omega)
        exact step _ _ x y ha hb (eqCell_ok hT hxx hra hrb d) hyy

theorem td_scalar {t : Nat} {d : TypeDesc} (h : scalarD (tdOf P t d) = true) : (∃ k, d = .int k) ∨ d = .bool ∨ d = .string := by
  cases d with
  | struct l =>
    simp only [tdOf] at h
    generalize ((l.toList.all fun f => f.name != "_") && !P.stoodInHeld t && !P.eqGuardType P.depth t) = b at h
    cases b <;> simp [scalarD] at h
  | int k => exact .inl ⟨k, rfl⟩
  | bool => exact .inr (.inl rfl)
  | string => exact .inr (.inr rfl)
  | _ => simp [tdOf, scalarD] at h

theorem isAggT_scalar {e : Nat} (h : scalarD (tyi T e).d = true) : isAggT T e = false ∧ (tyi T e).d ≠ .other := by
  unfold isAggT
  cases hd : (tyi T e).d <;> rw [hd] at h <;> simp [scalarD] at h <;> exact ⟨rfl, by simp⟩

theorem eqArr_ok (hT : TabOk P T) {e : Nat} (he : scalarD (tyi T e).d = true) {xs ys : Array Value} {cs ds : List AV} (hx : Rel w S m (.agg xs) (.agg cs)) (hy : Rel w S m (.agg ys) (.agg ds)) (d : Nat) :
    ∀ (n i : Nat) (r : Bool), i + n ≤ lenA cs → i + n ≤ lenA ds → eqArr std T e cs ds i n = some r → (Op.eqItems (d + 1) e 1 xs ys (List.range' i n)).run P w = .ok r w := by
  intro n
  induction n with
  | zero => intro i r _ _ h; simp [eqArr] at h; subst h; rfl
  | succ n ih =>
    intro i r h1 h2 h
    simp only [eqArr] at h
    obtain ⟨x, y, hxx, hyy, rfl⟩ := aConj_some h
    obtain ⟨hag, hno⟩ := isAggT_scalar he
    obtain ⟨ha, hra⟩ := part_cell (t := e) (off := i) hT hx hag hno (by omega)
    obtain ⟨hb, hrb⟩ := part_cell (t := e) (off := i) hT hy hag hno (by omega)
    have hl := ih (i + 1) y (by omega) (by omega) hyy
    simp only [List.range'_succ, Op.eqItems, Nat.mul_one, Sem.run_bind, ha, hb, eqCell_ok hT hxx hra hrb d, Result.andThen_ok]
    cases x
    · rfl
    · simpa using hl

theorem eqAgg_ok (hT : TabOk P T) {t : Nat} {xs ys : Array Value} {cs ds : List AV} {r : Bool} (h : eqAgg std T 40 t cs ds = some r) (hx : Rel w S m (.agg xs) (.agg cs)) (hy : Rel w S m (.agg ys) (.agg ds)) :
    (Op.equal t (.agg xs) (.agg ys)).run P w = .ok r w ∧ P.eqGuardType P.depth t = false := by
  simp only [eqAgg] at h
  split at h
  case h_3 => simp at h
  case h_2 k e htd =>
    split at h
    case h_2 => simp at h
    rename_i hs hz h1 h2
    have hz := Nat.eq_of_beq_eq_true hz
    have h1 := Nat.le_of_ble_eq_true h1
    have h2 := Nat.le_of_ble_eq_true h2
    obtain ⟨dd, i, z, ff⟩ := hT.of_d htd (by simp)
    have hdd := ff.d; rw [htd] at hdd
    have hu : P.underlying t = some (.array k e) := by
      rw [ff.und]
      cases dd with
      | array k' e' => simp only [tdOf, TD.array.injEq] at hdd; rw [hdd.1, hdd.2]
      | struct l =>
        simp only [tdOf] at hdd
        generalize ((l.toList.all fun f => f.name != "_") && !P.stoodInHeld t && !P.eqGuardType P.depth t) = b at hdd
        cases b <;> simp at hdd
      | _ => simp [tdOf] at hdd
    obtain ⟨de, ie, ze, fe⟩ := hT.of_d (t := e) rfl (isAggT_scalar hs).2
    have hg : P.eqGuardType P.depth t = false := by
      have : P.depth = 2 * (P.types.size + Made.depth) + 1 + 1 := rfl
      rw [this]
      simp only [Program.eqGuardType, hu, fe.und]
      have hde := fe.d
      rw [hde] at hs
      rcases td_scalar hs with ⟨k', rfl⟩ | rfl | rfl <;> rfl
    refine ⟨?_, hg⟩
    have hc : P.cellsOf e = 1 := by rw [← hz, fe.sz]; simp [Program.cellsOf, fe.info]
    unfold Op.equal Op.maxDepth
    rw [run_equalIn_array w 9999 xs ys hu fe.info, hc, List.range_eq_range']
    exact eqArr_ok hT hs hx hy 9998 k 0 r (by omega) (by omega) h
  rename_i fs htd
  obtain ⟨dd, i, z, ff⟩ := hT.of_d htd (by simp)
  have hdd := ff.d; rw [htd] at hdd
  obtain ⟨lf, rfl, rfl, hnm, hst, hg⟩ := td_struct hdd.symm
  have hfo : P.fieldsOf t = lf := by simp [Program.fieldsOf, ff.und]
  refine ⟨?_, hg⟩
  unfold Op.equal Op.maxDepth
  rw [run_equalIn_struct w 9999 t xs ys (by rw [hfo]; exact ff.und) hst, hfo]
  exact eqFields_ok hT 39 lf.toList xs ys cs ds r 9999 (by omega) hnm h hx hy

theorem run_equalIn_bool (hT : TabOk P T) {t : Nat} (htd : (tyi T t).d = .bool) (a b : Bool) (d : Nat) : (Op.equalIn (d + 1) t (.bool a) (.bool b)).run P w = .ok (a == b) w := by
  obtain ⟨dd, i, z, ff⟩ := hT.of_d htd (by simp)
  have hdd := ff.d; rw [htd] at hdd
  have hdd := td_bool hdd.symm; subst hdd
  simp [Op.equalIn, run_underlying ff.und]
theorem run_equal_bool (hT : TabOk P T) {t : Nat} (htd : (tyi T t).d = .bool) (a b : Bool) : (Op.equal t (.bool a) (.bool b)).run P w = .ok (a == b) w :=
  run_equalIn_bool hT htd a b 9999

theorem eqGuard_agg {t : TypeId} (hg : P.eqGuardType P.depth t = false) (op : BinOp) (xo yo : Operand) (xs ys : Array Value) : (eqGuard op t xo yo (.agg xs) (.agg ys)).run P w = .ok () w := by
  unfold eqGuard
  split <;> simp [hg]

theorem eqGuard_sl {t : TypeId} (op : BinOp) (xo yo : Operand) (a b : Option Addr) (n c n' c' : Nat) : (eqGuard op t xo yo (.slice a n c) (.slice b n' c')).run P w = .ok () w := by
  simp [eqGuard]

theorem eqGuard_ptr {t : TypeId} (op : BinOp) (xo yo : Operand) (a b : Option Addr) : (eqGuard op t xo yo (.pointer a) (.pointer b)).run P w = .ok () w := by
  simp [eqGuard]
theorem run_equal_ptr (w : World) {t e : TypeId} (hu : P.underlying t = some (.pointer e)) (a : Option Addr) : (Op.equal t (.pointer a) (.pointer none)).run P w = .ok a.isNone w := by
  have h : ∀ d : Nat, (Op.equalIn (d + 1) t (.pointer a) (.pointer none)).run P w = .ok a.isNone w := fun d => by
    cases a <;> simp [Op.equalIn, run_underlying hu]
  exact h 9999
theorem run_eql_ptr (w : World) {t e : TypeId} (hu : P.underlying t = some (.pointer e)) (a : Option Addr) : (binOp .eql t (.pointer a) (.pointer none)).run P w = .ok (.bool a.isNone) w := by
  simp [binOp, run_equal_ptr w hu a]
theorem run_neq_ptr (w : World) {t e : TypeId} (hu : P.underlying t = some (.pointer e)) (a : Option Addr) : (binOp .neq t (.pointer a) (.pointer none)).run P w = .ok (.bool (!a.isNone)) w := by
  simp [binOp, run_equal_ptr w hu a]

theorem run_equal_map (w : World) {t k e : TypeId} (hu : P.underlying t = some (.map k e)) (a : Option Nat) : (Op.equal t (.map a) (.map none)).run P w = .ok a.isNone w := by
  have h : ∀ d : Nat, (Op.equalIn (d + 1) t (.map a) (.map none)).run P w = .ok a.isNone w := fun d => by
    cases a <;> simp [Op.equalIn, run_underlying hu]
  exact h 9999
theorem mp_nil {base : Env} {w : World} {S : Nat → Prop} {m : Locs} {M : Mem} (hM : MRel base w S m M) {v : Value} {b : Nat} (h : Rel w S m v (.mp b)) {q : Bool} (hq : mpNil (blk M b) = some q) : ∃ o, v = .map o ∧ o.isNone = q := by
  cases h with
  | mp _ _ l h =>
    have hB := hM.bk b _ h
    refine ⟨some l.g, rfl, ?_⟩
    revert hB hq
    cases blk M b with
    | map t u x => intro hq _; cases hq; rfl
    | fam x y =>
      intro hq hB
      cases hq
      have : y ≠ [] := hB.2.1
      cases y with
      | nil => exact absurd rfl this
      | cons a y => rfl
    | _ => intro hq; cases hq
  | mp0 _ _ h =>
    have hB := hM.bk b _ h
    refine ⟨none, rfl, ?_⟩
    revert hB hq
    cases blk M b with
    | map t u x => intro _ hB; exact hB.elim
    | fam x y => intro hq hB; cases hq; have : y = [] := hB.2; subst this; rfl
    | _ => intro hq; cases hq
theorem run_eql_map (w : World) {t k e : TypeId} (hu : P.underlying t = some (.map k e)) (a : Option Nat) : (binOp .eql t (.map a) (.map none)).run P w = .ok (.bool a.isNone) w := by
  simp [binOp, run_equal_map w hu a]
theorem run_neq_map (w : World) {t k e : TypeId} (hu : P.underlying t = some (.map k e)) (a : Option Nat) : (binOp .neq t (.map a) (.map none)).run P w = .ok (.bool (!a.isNone)) w := by
  simp [binOp, run_equal_map w hu a]
theorem eqGuard_map (op : BinOp) (t : TypeId) (xo yo : Operand) (a b : Option Nat) : (eqGuard op t xo yo (.map a) (.map b)).run P w = .ok () w := by
  unfold eqGuard
  cases op <;> rfl

theorem aBin_ok (hT : TabOk P T) (hM : MRel base w S m M) (op : BinOp) (t : TypeId) (xo yo : Operand) {vx vy : Value} {x y : AV} (hx : Rel w S m vx x) (hy : Rel w S m vy y) (hk : AllT (aBin std T M op t x y).ks) :
    Res base w S m P (aBin std T M op t x y) (do eqGuard op t xo yo vx vy; binOp op t vx vy) := by
  unfold aBin at hk ⊢
  split at hk
  · cases hx; cases hy; rename_i ha _ _ _; exact aShift_ok hM _ (.inl rfl) _ _ _ _ _ _ _ (by assumption) hk
  · cases hx; cases hy; exact aShift_ok hM _ (.inr rfl) _ _ _ _ _ _ _ (by assumption) hk
  · split at hk
    · rename_i hkk
      have hkk := of_decide_eq_true hkk; subst hkk
      cases hx; cases hy; exact aInt_ok hM _ _ _ _ _ _ _ (by assumption) hk
    · exact (not_bad hk).elim
  · cases hx; cases hy; exact aStr_ok hM _ _ _ _ _ _ hk
  · split at hk
    · rename_i htd
      cases hx; cases hy
      exact .val hM (v := .bool _) (by simp [eqGuard, binOp, run_equal_bool hT htd]; rfl) (.bool _ _)
    · exact (not_bad hk).elim
  · split at hk
    · rename_i htd
      cases hx; cases hy
      exact .val hM (v := .bool _) (by simp [eqGuard, binOp, run_equal_bool hT htd, std]) (.bool _ _)
    · exact (not_bad hk).elim
  · split at hk
    · rename_i r hr
      cases hx with
      | agg _ xs _ h1 h2 h3 =>
        cases hy with
        | agg _ ys _ k1 k2 k3 =>
          obtain ⟨he, hg⟩ := eqAgg_ok hT hr (.agg _ xs _ h1 h2 h3) (.agg _ ys _ k1 k2 k3)
          exact .val hM (v := .bool r) (by simp only [Sem.run_bind, eqGuard_agg hg, binOp, he, Result.andThen_ok]; rfl) (.bool _ _)
    · exact (not_bad hk).elim
  · split at hk
    · rename_i e htd
      obtain ⟨_, _, _, g⟩ := hT.of_d htd (by simp)
      have hd := g.d; rw [htd] at hd
      have := td_slice hd.symm; subst this
      cases hy
      cases hx with
      | slice => exact .val hM (v := .bool _) (by simp only [Sem.run_bind, eqGuard_sl, Result.andThen_ok]; exact Lib.run_eql_slice_nil w t e _ _ _ 0 0 g.und) (.nilB _ _ _ (fun h => by simp at h))
      | slice0 => exact .val hM (v := .bool _) (by simp only [Sem.run_bind, eqGuard_sl, Result.andThen_ok]; exact Lib.run_eql_slice_nil w t e _ _ _ 0 0 g.und) (.nilB _ _ _ (fun _ => rfl))
    · exact (not_bad hk).elim
  · split at hk
    · rename_i e htd
      obtain ⟨_, _, _, g⟩ := hT.of_d htd (by simp)
      have hd := g.d; rw [htd] at hd
      have := td_slice hd.symm; subst this
      cases hy
      cases hx with
      | tsl _ u l full v h =>
        obtain ⟨a, cap, rfl, _, _, _, h⟩ := h.slice_inv
        rcases h with h | ⟨b, o, f, rfl, _⟩
        · exact .val hM (v := .bool _) (by simp only [Sem.run_bind, eqGuard_sl, Result.andThen_ok]; exact Lib.run_eql_slice_nil w t e _ _ _ 0 0 g.und) (.nilB _ _ _ (fun _ => h))
        · exact .val hM (v := .bool _) (by simp only [Sem.run_bind, eqGuard_sl, Result.andThen_ok]; exact Lib.run_eql_slice_nil w t e _ _ _ 0 0 g.und) (.nilB _ _ _ (fun h => by simp at h))
    · exact (not_bad hk).elim
  · split at hk
    · rename_i e _ u l htd hb
      obtain ⟨_, _, _, g⟩ := hT.of_d htd (by simp)
      have hd := g.d; rw [htd] at hd
      have := td_slice hd.symm; subst this
      cases hy
      cases hx with
      | ownT => exact .val hM (v := .bool _) (by simp only [Sem.run_bind, eqGuard_sl, Result.andThen_ok]; exact Lib.run_eql_slice_nil w t e _ _ _ 0 0 g.und) (.nilB _ _ _ (fun h => by simp at h))
      | ownT0 _ a _ h0 =>
        have hB := hM.bk _ _ h0
        rw [hb] at hB
        exact .val hM (v := .bool _) (by simp only [Sem.run_bind, eqGuard_sl, Result.andThen_ok]; exact Lib.run_eql_slice_nil w t e _ _ _ 0 0 g.und) (.nilB _ _ _ (fun _ => hB))
    · exact (not_bad hk).elim
  · split at hk
    · rename_i e htd
      obtain ⟨_, _, _, g⟩ := hT.of_d htd (by simp)
      have hd := g.d; rw [htd] at hd
      have := td_slice hd.symm; subst this
      cases hy
      cases hx with
      | own => exact .val hM (v := .bool _) (by simp only [Sem.run_bind, eqGuard_sl, Result.andThen_ok]; exact Lib.run_eql_slice_nil w t e _ _ _ 0 0 g.und) (.nilB _ _ _ (fun h => by simp at h))
      | own0 => exact .val hM (v := .bool _) (by simp only [Sem.run_bind, eqGuard_sl, Result.andThen_ok]; exact Lib.run_eql_slice_nil w t e _ _ _ 0 0 g.und) (.nilB _ _ _ (fun _ => rfl))
    · exact (not_bad hk).elim
  · split at hk
    · rename_i e htd
      obtain ⟨_, _, _, g⟩ := hT.of_d htd (by simp)
      have hd := g.d; rw [htd] at hd
      have := td_slice hd.symm; subst this
      cases hy
      cases hx with
      | emp => exact .val hM (v := .bool _) (by simp only [Sem.run_bind, eqGuard_sl, Result.andThen_ok]; exact Lib.run_eql_slice_nil w t e _ _ _ 0 0 g.und) (.nilB _ _ _ (fun _ => rfl))
    · exact (not_bad hk).elim
  · split at hk
    · rename_i e htd
      obtain ⟨_, _, _, g⟩ := hT.of_d htd (by simp)
      have hd := g.d; rw [htd] at hd
      have := td_slice hd.symm; subst this
      cases hy
      cases hx; exact .val hM (v := .bool _) (by simp only [Sem.run_bind, eqGuard_sl, Result.andThen_ok]; exact Lib.run_eql_slice_nil w t e _ _ _ 0 0 g.und) (.bool _ _)
    · exact (not_bad hk).elim
  · split at hk
    · rename_i e htd
      obtain ⟨_, _, _, g⟩ := hT.of_d htd (by simp)
      have hd := g.d; rw [htd] at hd
      have := td_ptr hd.symm; subst this
      cases hy
      cases hx; exact .val hM (v := .bool _) (by simp only [Sem.run_bind, eqGuard_ptr, Result.andThen_ok]; exact run_eql_ptr w g.und _) (.bool _ _)
    · exact (not_bad hk).elim
  · split at hk
    · rename_i e htd
      obtain ⟨_, _, _, g⟩ := hT.of_d htd (by simp)
      have hd := g.d; rw [htd] at hd
      have := td_ptr hd.symm; subst this
      cases hy
      cases hx; exact .val hM (v := .bool _) (by simp only [Sem.run_bind, eqGuard_ptr, Result.andThen_ok]; exact run_eql_ptr w g.und _) (.bool _ _)
    · exact (not_bad hk).elim
  · split at hk
    · rename_i e htd
      obtain ⟨_, _, _, g⟩ := hT.of_d htd (by simp)
      have hd := g.d; rw [htd] at hd
      have := td_ptr hd.symm; subst this
      cases hy
      cases hx; exact .val hM (v := .bool _) (by simp only [Sem.run_bind, eqGuard_ptr, Result.andThen_ok]; exact run_eql_ptr w g.und _) (.bool _ _)
    · exact (not_bad hk).elim
  · split at hk
    · rename_i e htd
      obtain ⟨_, _, _, g⟩ := hT.of_d htd (by simp)
      have hd := g.d; rw [htd] at hd
      have := td_ptr hd.symm; subst this
      cases hy
      cases hx; exact .val hM (v := .bool _) (by simp only [Sem.run_bind, eqGuard_ptr, Result.andThen_ok]; exact run_neq_ptr w g.und _) (.bool _ _)
    · exact (not_bad hk).elim
  · split at hk
    · rename_i e htd
      obtain ⟨_, _, _, g⟩ := hT.of_d htd (by simp)
      have hd := g.d; rw [htd] at hd
      have := td_ptr hd.symm; subst this
      cases hy
      cases hx; exact .val hM (v := .bool _) (by simp only [Sem.run_bind, eqGuard_ptr, Result.andThen_ok]; exact run_neq_ptr w g.und _) (.bool _ _)
    · exact (not_bad hk).elim
  · split at hk
    · rename_i e htd
      obtain ⟨_, _, _, g⟩ := hT.of_d htd (by simp)
      have hd := g.d; rw [htd] at hd
      have := td_ptr hd.symm; subst this
      cases hy
      cases hx; exact .val hM (v := .bool _) (by simp only [Sem.run_bind, eqGuard_ptr, Result.andThen_ok]; exact run_neq_ptr w g.und _) (.bool _ _)
    · exact (not_bad hk).elim
  · split at hk
    · rename_i q htd hq
      obtain ⟨_, _, _, g⟩ := hT.of_d htd (by simp)
      have hd := g.d; rw [htd] at hd
      have := td_map hd.symm; subst this
      cases hy
      obtain ⟨o, rfl, e⟩ := mp_nil hM hx hq
      subst e
      exact .val hM (v := .bool _) (by simp only [Sem.run_bind, eqGuard_map, Result.andThen_ok]; exact run_eql_map w g.und _) (.bool _ _)
    · exact (not_bad hk).elim
  · split at hk
    · rename_i e htd hunk
      obtain ⟨_, _, _, g⟩ := hT.of_d htd (by simp)
      have hd := g.d; rw [htd] at hd
      have := td_map hd.symm; subst this
      cases hy
      cases hx with
      | mv0 => cases hunk
      | mv => exact .val hM (v := .bool _) (by simp only [Sem.run_bind, eqGuard_map, Result.andThen_ok]; exact run_eql_map w g.und _) (.bool _ _)
    · exact (not_bad hk).elim
  · split at hk
    · rename_i e htd
      obtain ⟨_, _, _, g⟩ := hT.of_d htd (by simp)
      have hd := g.d; rw [htd] at hd
      have := td_map hd.symm; subst this
      cases hy
      cases hx; exact .val hM (v := .bool _) (by simp only [Sem.run_bind, eqGuard_map, Result.andThen_ok]; exact run_eql_map w g.und _) (.bool _ _)
    · exact (not_bad hk).elim
  · split at hk
    · rename_i q htd hq
      obtain ⟨_, _, _, g⟩ := hT.of_d htd (by simp)
      have hd := g.d; rw [htd] at hd
      have := td_map hd.symm; subst this
      cases hy
      obtain ⟨o, rfl, e⟩ := mp_nil hM hx hq
      subst e
      exact .val hM (v := .bool _) (by simp only [Sem.run_bind, eqGuard_map, Result.andThen_ok]; exact run_neq_map w g.und _) (.bool _ _)
    · exact (not_bad hk).elim
  · split at hk
    · rename_i e htd hunk
      obtain ⟨_, _, _, g⟩ := hT.of_d htd (by simp)
      have hd := g.d; rw [htd] at hd
      have := td_map hd.symm; subst this
      cases hy
      cases hx with
      | mv0 => cases hunk
      | mv => exact .val hM (v := .bool _) (by simp only [Sem.run_bind, eqGuard_map, Result.andThen_ok]; exact run_neq_map w g.und _) (.bool _ _)
    · exact (not_bad hk).elim
  · split at hk
    · rename_i e htd
      obtain ⟨_, _, _, g⟩ := hT.of_d htd (by simp)
      have hd := g.d; rw [htd] at hd
      have := td_map hd.symm; subst this
      cases hy
      cases hx; exact .val hM (v := .bool _) (by simp only [Sem.run_bind, eqGuard_map, Result.andThen_ok]; exact run_neq_map w g.und _) (.bool _ _)
    · exact (not_bad hk).elim
  · split at hk
    · rename_i r hr
      cases hx with
      | agg _ xs _ h1 h2 h3 =>
        cases hy with
        | agg _ ys _ k1 k2 k3 =>
          obtain ⟨he, hg⟩ := eqAgg_ok hT hr (.agg _ xs _ h1 h2 h3) (.agg _ ys _ k1 k2 k3)
          exact .val hM (v := .bool (!r)) (by simp only [Sem.run_bind, eqGuard_agg hg, binOp, he, Result.andThen_ok]; rfl) (.bool _ _)
    · exact (not_bad hk).elim
  · exact (not_bad hk).elim

end ops
end Go.Eng
