/- One operation; then a region, guards and all. -/
import Derived.Test.YtedmkgnbgkhloaaEngJ
namespace Go.Eng
open Go Go.RowKit

variable {P : Program} {T : Tab} {base : Env} {w : World} {S : Nat → Prop} {m : Locs} {M : Mem}

theorem litOp_ok (ts : List AV) (i : Operand) : ∀ k kk n, litOp i = some k → opnd ts i = .int kk n → n = (k : Int) := by
  intro k kk n h1 h2
  unfold litOp at h1
  split at h1
  · injection h1 with h1; subst h1
    simp only [opnd, ofVal] at h2
    split at h2
    · injection h2 with _ h2; exact h2.symm
    · simp at h2
  · simp at h1

set_option maxHeartbeats 2000000 in
theorem aOp_wp (hT : TabOk P T) {call : Oracle} (hcall : Sound P call) (hM : MRel base w S m M) {o : Oper} {a : Act} {K : Act → World → Prop} {Q : Exit → Act → World → Prop} {ts : List AV}
    (hops : ∀ x ∈ o.op.operands.toList, Rel w S m (a.eval x) (opnd ts x)) (hk : AllT (aOp std T call ts M o.op).ks) (hK : Then base w S m (aOp std T call ts M o.op) a o.dst K) : o.wp P a w K Q := by
  obtain ⟨dst, op, type, pos, after, guard⟩ := o
  simp only at hops hk hK
  cases op with
  | move x => exact wp_of_res (x := pure (a.eval x)) rfl (.val hM rfl (hops x (by simp [Op.operands]))) hK
  | assign x => exact wp_of_res (x := pure (a.eval x)) rfl (.val hM rfl (hops x (by simp [Op.operands]))) hK
  | alloc t => exact wp_of_res (x := Instr.alloc t true (.tuple #[])) rfl (aAlloc_ok hT hM t hk) hK
  | box t x => exact wp_of_res (x := Instr.box t (a.eval x)) rfl (aBox_ok (T := T) hM t (hops x (by simp [Op.operands])) hk) hK
  | build t ps => exact wp_of_res (x := Instr.build t (ps.map fun (i, x) => (i, a.eval x))) rfl (aBuild_ok hT hM t (parts_rel (fun x hx => hops x (by simpa [Op.operands] using hx))) hk) hK
  | buildSlice t n ps => exact wp_of_res (x := Instr.buildSlice t n (ps.map fun (i, x) => (i, a.eval x))) rfl (aBuildSlice_ok hT hM t n (parts_rel (fun x hx => hops x (by simpa [Op.operands] using hx))) hk) hK
  | load t x => exact wp_of_res (x := Instr.loadAt t (a.eval x)) rfl (aLoad_ok hT hM t (hops x (by simp [Op.operands])) hk) hK
  | store t x y => exact wp_of_resU (x := Instr.storeAt t (a.eval x) (a.eval y)) rfl (aStore_ok hT hM t (hops x (by simp [Op.operands])) (hops y (by simp [Op.operands])) hk) hK
  | binOp op t x y yt => exact wp_of_res (x := (do eqGuard op t x y (a.eval x) (a.eval y); binOp op t (a.eval x) (a.eval y))) rfl (aBin_ok hT hM op t x y (hops x (by simp [Op.operands])) (hops y (by simp [Op.operands])) hk) hK
  | unOp op t x => exact wp_of_res (x := Op.unary op (a.eval x)) rfl (aUn_ok hM op (hops x (by simp [Op.operands])) hk) hK
  | convert s d x => exact wp_of_res (x := convert s d (a.eval x)) rfl (aConv_ok hT hM s d (hops x (by simp [Op.operands])) hk) hK
  | makeFunc f as cs =>
    simp only [aOp] at hk hK
    obtain ⟨l1, r1⟩ := opnds_rel (l := as) (fun x hx => hops x (by simp only [Op.operands, Array.toList_append, List.mem_append]; exact .inl hx))
    obtain ⟨l2, r2⟩ := opnds_rel (l := cs) (fun x hx => hops x (by simp only [Op.operands, Array.toList_append, List.mem_append]; exact .inr hx))
    split at hk
    case h_2 =>
      rename_i hne
      split at hk
      case h_2 => exact (not_bad hk).elim
      rename_i id h1 h2
      have hK : Then base w S m (val M (.clo id (opnds ts as.toList) (opnds ts cs.toList))) a dst K := by
        revert hK
        split
        · rename_i e1 e2; exact (hne e1 e2).elim
        · simp only [h1, h2]; exact fun h => h
      exact wp_of_res (x := Instr.makeFunc (.func id) (as.map a.eval) (cs.map a.eval)) rfl (.val hM rfl (.clo _ _ _ _ _ _ l1 l2 (fun i hi => (r1 i hi).plainV (allPlain_nth h1 hi) _) (fun i hi => (r2 i hi).plainV (allPlain_nth h2 hi) _))) hK
    rename_i h1 h2
    simp only [h1, h2] at hK
    exact wp_of_res (x := Instr.makeFunc f (as.map a.eval) (cs.map a.eval)) rfl (.val hM rfl (.fn _ _ _ _ _ _ l1 l2 (fun i hi => (r1 i hi).one (allCells_nth h1 hi)) (fun i hi => (r2 i hi).one (allCells_nth h2 hi)) r1 r2)) hK
  | makeSlice t l c => exact wp_of_res (x := Instr.makeSlice t (a.eval l) (a.eval c)) rfl (aMakeSlice_ok hT hM t (hops l (by simp [Op.operands])) (hops c (by simp [Op.operands])) hk) hK
  | slice t x lo hi mx =>
    cases mx with
    | some mx =>
      cases lo with
      | some lo => exact (not_bad hk).elim
      | none => cases hi with
        | none => exact (not_bad hk).elim
        | some hi =>
          exact wp_of_res (x := Instr.sliceAt t (a.eval x) none (some (a.eval hi)) (some (a.eval mx))) rfl (aSlice3_ok hT hM t hi mx (hops x (by simp [Op.operands])) (hops hi (by simp [Op.operands]))
            (fun k n e => by subst e; rfl) (fun k n e => by subst e; rfl) (fun i e1 e2 => by subst e1 e2; rfl) hk) hK
    | none => exact wp_of_res (x := Instr.sliceAt t (a.eval x) (lo.map a.eval) (hi.map a.eval) none) rfl (aSlice_ok hT hM t (hops x (by simp [Op.operands])) (opt_rel lo (fun x hx => hops x (by simp [Op.operands, hx]))) (opt_rel hi (fun x hx => hops x (by simp [Op.operands, hx]))) hk) hK
  | fieldAddr t x f => exact wp_of_res (x := Instr.fieldAt t (a.eval x) f) rfl (aFieldAddr_ok hT hM t f (hops x (by simp [Op.operands])) hk) hK
  | field t x f => exact wp_of_res (x := Instr.field t (a.eval x) f) rfl (aField_ok hT hM t f (hops x (by simp [Op.operands])) hk) hK
  | indexAddr t x i => exact wp_of_res (x := Instr.indexAt t (a.eval x) (a.eval i)) rfl (aIndexAddr_ok hT hM t (litOp_ok ts i) (hops x (by simp [Op.operands])) (hops i (by simp [Op.operands])) hk) hK
  | index t x i => exact wp_of_res (x := Instr.index t (a.eval x) (a.eval i)) rfl (aIndex_ok hT hM t (litOp_ok ts i) (hops x (by simp [Op.operands])) (hops i (by simp [Op.operands])) hk) hK
  | range t x => exact wp_of_res (x := Instr.range t (a.eval x)) rfl (aRange_ok hT hM t (hops x (by simp [Op.operands])) hk) hK
  | next x s => exact wp_of_res (x := Instr.next (a.eval x) s type) rfl (aNext_ok hM type s (hops x (by simp [Op.operands])) hk) hK
  | extract x i => exact wp_of_res (x := Instr.extract (a.eval x) i) rfl (aExtract_ok hM i (hops x (by simp [Op.operands])) hk) hK
  | call c =>
    obtain ⟨callee, args, ats⟩ := c
    cases callee with
    | value f =>
      exact aCall_wp hcall hM (hops f (by simp [Op.operands, Call.operands])) (opnds_rel (fun x hx => hops x (by simp [Op.operands, Call.operands]; exact .inr (by simpa using hx)))) (by simp [execOp, resolve]) hk hK
    | invoke r s => exact (not_bad hk).elim
    | builtin b => exact builtin_wp hT hM b args ats rfl (fun x hx => hops x (by simp [Op.operands, Call.operands]; simpa using hx)) hk hK
  | _ => exact (not_bad hk).elim

end Go.Eng
