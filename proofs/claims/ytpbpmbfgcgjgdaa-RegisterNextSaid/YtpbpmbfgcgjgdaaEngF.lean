/- The operations of the abstract machine are sound: slicing, making, appending. -/
import Derived.Test.YtpbpmbfgcgjgdaaEngE
namespace Go.Eng
open Go Go.RowKit

variable {P : Program} {T : Tab} {base : Nat} {w : World} {S : Nat → Prop} {m : Locs} {M : Mem}

theorem run_getIter {r : Nat} {s : ByteArray} {pos : Nat} (h : w.heap[r]? = some (.stringIter s pos)) : (getObj r).run P w = .ok (.stringIter s pos) w := by
  simp [getObj, Sem.run, h]
theorem run_setIter {r : Nat} {s : ByteArray} {pos : Nat} (h : w.heap[r]? = some (.stringIter s pos)) (o : Obj) : (setObj r o).run P w = .ok () { w with heap := w.heap.setIfInBounds r o } := by
  simp [setObj, Sem.run, h]

theorem aNext_ok (hM : MRel base w S m M) (ty : TypeId) (isS : Bool) {v : Value} {a : AV} (ha : Rel w S m v a) (hk : AllT (aNext std M a isS).ks) : Res base w S m P (aNext std M a isS) (Instr.next v isS ty) := by
  unfold aNext at hk ⊢
  split at hk
  case h_2 => exact (not_bad hk).elim
  rename_i b
  split at hk
  case h_2 => exact (not_bad hk).elim
  rename_i s pos hb
  cases ha with
  | ref _ _ _ l h =>
    have hB := bk_of hM h
    rw [hb] at hB
    obtain ⟨hg, hs⟩ := hB
    have hl := hM.lt _ _ h
    by_cases hp : pos < s.length
    · have hp' : pos < (bytes s).size := by rw [bytes_size]; exact hp
      have e1 : std.lt (std.ofNat pos) (std.ofNat (std.slen s)) = true := by simp [std, hp]
      have e2 : std.npos s pos = pos + (Utf8.decode (bytes s) pos).2 := by simp [std, hp]
      rw [e1, e2]
      let w' : World := { w with heap := w.heap.setIfInBounds l.g (.stringIter (bytes s) (pos + (Utf8.decode (bytes s) pos).2)) }
      have hst : ∀ b, b < w.heap.size → b ≠ l.g → w'.heap[b]? = w.heap[b]? := fun b _ hne => by
        show (w.heap.setIfInBounds _ _)[b]? = _
        rw [Array.getElem?_setIfInBounds_ne (Ne.symm hne)]
      have hbel : Below base w w' := ⟨rfl, rfl, rfl, by show _ ≤ (w.heap.setIfInBounds _ _).size; simp, fun k hk => by
        show (w.heap.setIfInBounds _ _)[k]? = _
        rw [Array.getElem?_setIfInBounds_ne (by have := hl.1; omega)]⟩
      obtain ⟨ht, hm'⟩ := hM.turn b l h (.siter s (pos + (Utf8.decode (bytes s) pos).2)) hbel hst ⟨by
        show (w.heap.setIfInBounds _ _)[l.g]? = _
        rw [Array.getElem?_setIfInBounds_self_of_lt hl.2.1], hs⟩
      refine ⟨.tuple #[.bool true, goInt pos, .int .i32 (Utf8.decode (bytes s) pos).1], w', S, m, ?_, ht, hm', .nxtT _ _ _ rfl rfl fun i hi => ?_⟩
      · simp only [Instr.next, Sem.run_bind, run_getIter hg, Result.andThen_ok, if_pos hp', run_setIter hg]
        rfl
      · have hi2 : i < 2 := hi
        have hle := decode_le (bytes s) pos
        match i, hi2 with
        | 0, _ => exact .int _ _ _ (by rw [wf_iff]; unfold maxLen at hs; simp [IntKind.min, IntKind.max, IntKind.signed, IntKind.bits]; omega)
        | 1, _ => exact .int _ _ _ (by rw [wf_iff]; simp [IntKind.min, IntKind.max, IntKind.signed, IntKind.bits]; omega)
    · have hp' : ¬ pos < (bytes s).size := by rw [bytes_size]; exact hp
      have e1 : std.lt (std.ofNat pos) (std.ofNat (std.slen s)) = false := by simp [std]; omega
      have e2 : std.npos s pos = pos := by simp [std, hp]
      rw [e1, e2]
      obtain ⟨ht, hm'⟩ := hM.turn b l h (.siter s pos) (Below.refl _ _) (fun _ _ _ => rfl) ⟨hg, hs⟩
      exact ⟨_, w, S, m, by simp only [Instr.next, Sem.run_bind, run_getIter hg, Result.andThen_ok, if_neg hp']; rfl, ht, hm', .nxtF _ _⟩

theorem extract_bytes (s : List UInt8) (l h : Nat) : (bytes s).extract l h = bytes ((s.drop l).take (h - l)) := by
  apply ByteArray.ext
  simp [bytes, ByteArray.data_extract, List.extract_eq_take_drop]

theorem aSlice_ok (hT : TabOk P T) (hM : MRel base w S m M) (t : TypeId) {vx : Value} {x : AV} (hx : Rel w S m vx x) {lo hi : Option Value} {alo ahi : Option AV}
    (hlo : (lo = none ∧ alo = none) ∨ ∃ v a, lo = some v ∧ alo = some a ∧ Rel w S m v a) (hhi : (hi = none ∧ ahi = none) ∨ ∃ v a, hi = some v ∧ ahi = some a ∧ Rel w S m v a)
    (hk : AllT (aSlice std T M t x alo ahi).ks) : Res base w S m P (aSlice std T M t x alo ahi) (Instr.sliceAt t vx lo hi none) := by
  have intOf : ∀ {o : Option Value} {k : IntKind} {n : Int}, ((o = none ∧ some (AV.int k n) = none) ∨ ∃ v a, o = some v ∧ some (AV.int k n) = some a ∧ Rel w S m v a) → o = some (.int k n) := by
    rintro o k n (⟨_, h⟩ | ⟨v, a, rfl, h, hr⟩)
    · simp at h
    · injection h with h; subst h; cases hr; rfl
  have noneOf : ∀ {o : Option Value}, ((o = none ∧ (none : Option AV) = none) ∨ ∃ v a, o = some v ∧ (none : Option AV) = some a ∧ Rel w S m v a) → o = none := by
    rintro o (⟨h, _⟩ | ⟨v, a, _, h, _⟩)
    · exact h
    · simp at h
  unfold aSlice at hk ⊢
  split at hk
  · rename_i s htd
    obtain ⟨_, _, _, g⟩ := hT.of_d htd (by simp)
    have hd := g.d; rw [htd] at hd
    have := td_str hd.symm; subst this
    cases hx with
    | str _ _ hs =>
    have sub : ∀ (l h : Nat), ((s.drop l).take (h - l)).length ≤ maxLen := fun l h => by simp; omega
    have run : ∀ lo hi, (Instr.sliceAt t (.string (bytes s)) lo hi none).run P w = (Instr.slice t (.string (bytes s)) lo hi none).run P w := fun lo hi => run_sliceAt_string w t _ lo hi none g.und
    split at hk
    · obtain rfl := noneOf hlo
      obtain rfl := noneOf hhi
      refine .val hM (v := .string (bytes s)) ?_ (.str _ _ hs)
      rw [run, run_slice_string_all w t _ g.und]
      congr 2
      apply ByteArray.ext; simp [bytes, ByteArray.size]
    · obtain rfl := intOf hlo
      obtain rfl := noneOf hhi
      rename_i k l
      have hin : 0 ≤ l ∧ l ≤ s.length := by simpa [valIf, AllT, std] using hk
      refine .val hM (v := .string (bytes ((s.drop l.toNat).take (s.length - l.toNat)))) ?_ (.str _ _ (sub _ _))
      rw [run, run_slice_string_from_if w t _ _ _ g.und, bytes_size, if_pos hin, extract_bytes]
    · obtain rfl := noneOf hlo
      obtain rfl := intOf hhi
      rename_i k h
      have hin : 0 ≤ h ∧ h ≤ s.length := by simpa [valIf, AllT, std] using hk
      refine .val hM (v := .string (bytes ((s.drop 0).take (h.toNat - 0)))) ?_ (.str _ _ (sub _ _))
      rw [run, run_slice_string_to_if w t _ _ _ g.und, bytes_size, if_pos hin, extract_bytes]
    · obtain rfl := intOf hlo
      obtain rfl := intOf hhi
      rename_i k l k' h
      have hin : (0 ≤ h ∧ h ≤ s.length) ∧ (0 ≤ l ∧ l ≤ (h.toNat : Int)) := by simpa [AllT, std] using hk
      refine .val hM (v := .string (bytes ((s.drop l.toNat).take (h.toNat - l.toNat)))) ?_ (.str _ _ (sub _ _))
      rw [run, run_slice_string w t _ _ _ _ _ g.und hin.2.1 (by omega) (by rw [bytes_size]; omega), extract_bytes]
    · exact (not_bad hk).elim
  · rename_i e sz n full c htd
    obtain ⟨_, _, _, g⟩ := hT.of_d htd (by simp)
    have hd := g.d; rw [htd] at hd
    have := td_slice hd.symm; subst this
    have hel : P.elem t = e := by simp [Program.elem, g.und]
    have ht' : P.underlying t = some (.slice (P.elem t)) := by rw [hel]; exact g.und
    have run : ∀ x lo hi, (Instr.sliceAt t x lo hi none).run P w = (Instr.slice t x lo hi none).run P w := fun x lo hi => run_sliceAt_slice w t x lo hi none ht'
    split at hk
    case h_2 => exact (not_bad hk).elim
    rename_i hsz hpos
    have hsz := Nat.eq_of_beq_eq_true hsz
    obtain ⟨_, ie, ze, ge⟩ := hT.of_sz (Nat.le_of_ble_eq_true hpos)
    have hsize : (sizeOf (P.elem t)).run P w = .ok sz w := by simp [sizeOf, typeInfo, hel, ge.info, hsz, ge.sz]
    -- what lies behind
    have key : ∀ {vx : Value}, Rel w S m vx (.slice sz n full c) → ∃ a cap, vx = .slice a n cap ∧ n ≤ cap ∧ (full = true → cap = n) ∧ ∀ l h, l ≤ h → h ≤ n → ∀ f', (f' = true → full = true ∧ h = n) →
        Rel w S m (sliced a l h cap sz) (.slice sz (h - l) f' fun i j => c (l + i) j) := by
      intro vx hx
      cases hx with
      | slice _ b o _ _ cap _ _ f hs hn hcap hf hc hr =>
        refine ⟨_, cap, rfl, hn, hf, fun l h hl hh f' hf' => ?_⟩
        unfold sliced
        by_cases hc0 : cap = l
        · rw [if_pos hc0]
          have : h - l = 0 := by omega
          rw [this]
          exact .slice0 _ _ _ _ _ _ (by omega) (fun e => by omega)
        · rw [if_neg hc0]
          simp only [Option.map_some, addr_add]
          refine .slice _ _ _ _ _ _ _ _ (fun i j => f (l + i) j) hs (by omega) (by omega) (fun e => by have := hf' e; have := hf this.1; omega) (fun i hi j hj => ?_) (fun i hi j hj => hr (l + i) (by omega) j hj)
          have := hc (l + i) (by omega) j hj
          rw [Nat.add_mul, ← Nat.add_assoc] at this
          exact this
      | slice0 _ a cap _ _ _ hcap hf =>
        refine ⟨a, cap, rfl, by omega, hf, fun l h hl hh f' hf' => ?_⟩
        obtain rfl : h = 0 := by omega
        obtain rfl : l = 0 := by omega
        unfold sliced
        simp only [Nat.zero_mul, Nat.sub_zero]
        exact .slice0 _ _ _ _ _ _ (by omega) (fun e => hf (hf' e).1)
    obtain ⟨a, cap, rfl, hncap, hfull, hrel⟩ := key hx
    split at hk
    · obtain rfl := noneOf hlo
      obtain rfl := noneOf hhi
      have := hrel 0 n (Nat.zero_le _) (Nat.le_refl _) full (fun e => ⟨e, rfl⟩)
      simp only [Nat.sub_zero, Nat.zero_add] at this
      exact .val hM (by rw [run, run_slice_all w t a n cap ht', hsize]; rfl) this
    · obtain rfl := intOf hlo
      obtain rfl := noneOf hhi
      rename_i k l
      have hin : 0 ≤ l ∧ l ≤ n := by simpa [valIf, AllT, std] using hk
      exact .val hM (by rw [run, run_slice_l w t a n cap ht' _ _ hin.1 hin.2, hsize]; rfl) (hrel l.toNat n (by omega) (Nat.le_refl _) full (fun e => ⟨e, rfl⟩))
    · obtain rfl := noneOf hlo
      obtain rfl := intOf hhi
      rename_i k h
      have hin : 0 ≤ h ∧ h ≤ n := by simpa [valIf, AllT, std] using hk
      have := hrel 0 h.toNat (Nat.zero_le _) (by omega) false (fun e => by simp at e)
      simp only [Nat.sub_zero, Nat.zero_add] at this
      exact .val hM (by rw [run, run_slice_h w t a n cap ht' _ _ hin.1 (by omega), hsize]; rfl) this
    · obtain rfl := intOf hlo
      obtain rfl := intOf hhi
      rename_i k l k' h
      have hin : (0 ≤ h ∧ h ≤ n) ∧ (0 ≤ l ∧ l ≤ (h.toNat : Int)) := by simpa [AllT, std] using hk
      exact .val hM (by rw [run, run_slice_lh w t a n cap ht' _ _ _ _ hin.2.1 (by omega) (by omega), hsize]; rfl) (hrel l.toNat h.toNat (by omega) (by omega) false (fun e => by simp at e))
    · exact (not_bad hk).elim
  · rename_i e b n htd
    obtain ⟨_, _, _, g⟩ := hT.of_d htd (by simp)
    have hd := g.d; rw [htd] at hd
    have := td_slice hd.symm; subst this
    have hel : P.elem t = e := by simp [Program.elem, g.und]
    have ht' : P.underlying t = some (.slice (P.elem t)) := by rw [hel]; exact g.und
    have run : ∀ x lo hi, (Instr.sliceAt t x lo hi none).run P w = (Instr.slice t x lo hi none).run P w := fun x lo hi => run_sliceAt_slice w t x lo hi none ht'
    have key : ∀ {vx : Value}, Rel w S m vx (.own b n) → ∃ a cap, vx = .slice a n cap ∧ n ≤ cap ∧ ∀ sz h, h ≤ n → Rel w S m (sliced a 0 h cap sz) (.own b h) := by
      intro vx hx
      cases hx with
      | own0 _ _ h0 =>
        refine ⟨none, 0, rfl, Nat.le_refl _, fun sz h hh => ?_⟩
        obtain rfl : h = 0 := by omega
        exact .own0 _ _ h0
      | own _ _ _ l h0 hn hc =>
        refine ⟨_, l.cap, rfl, by omega, fun sz h hh => ?_⟩
        unfold sliced
        have e : (if l.cap = 0 then some (⟨l.g, 0, none⟩ : Addr) else (some (⟨l.g, 0, none⟩ : Addr)).map fun x => x.add (0 * sz)) = some ⟨l.g, 0, none⟩ := by
          split
          · rfl
          · simp [Addr.add]
        rw [e]
        exact .own _ _ _ l h0 (by omega) hc
    obtain ⟨a, cap, rfl, hncap, hrel⟩ := key hx
    split at hk
    · rename_i hpos
      obtain ⟨_, ie, ze, ge⟩ := hT.of_sz (Nat.le_of_ble_eq_true hpos)
      have hsize : (sizeOf (P.elem t)).run P w = .ok (tyi T e).sz w := by simp [sizeOf, typeInfo, hel, ge.info, ge.sz]
      obtain rfl := noneOf hlo
      obtain rfl := noneOf hhi
      exact .val hM (by rw [run, run_slice_all w t a n cap ht', hsize]; rfl) (hrel _ n (Nat.le_refl _))
    · rename_i k h hpos
      obtain ⟨_, ie, ze, ge⟩ := hT.of_sz (Nat.le_of_ble_eq_true hpos)
      have hsize : (sizeOf (P.elem t)).run P w = .ok (tyi T e).sz w := by simp [sizeOf, typeInfo, hel, ge.info, ge.sz]
      obtain rfl := noneOf hlo
      obtain rfl := intOf hhi
      have hin : 0 ≤ h ∧ h ≤ n := by simpa [valIf, AllT, std] using hk
      exact .val hM (by rw [run, run_slice_h w t a n cap ht' _ _ hin.1 (by omega), hsize]; rfl) (hrel _ h.toNat (by omega))
    · exact (not_bad hk).elim
  · exact (not_bad hk).elim

end Go.Eng
