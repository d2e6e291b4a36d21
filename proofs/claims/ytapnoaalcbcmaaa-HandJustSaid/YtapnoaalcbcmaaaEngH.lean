/- The operations of the abstract machine are sound: append. -/
import Derived.Test.YtapnoaalcbcmaaaEngG
import Derived.Lib.AppendZeros
import Derived.Laws.IdiomStrings
import Derived.Lib.AppendStr
namespace Go.Eng
open Go Go.RowKit

variable {P : Program} {T : Tab} {base : Env} {w : World} {S : Nat → Prop} {m : Locs} {M : Mem}

/-- What is appended: rows of cells somewhere. -/
theorem content_ok (hM : MRel base w S m M) {sz k : Nat} {x : AV} {vx : Value} {d : Nat → Nat → AV} (hx : Rel w S m vx x) (h : content M sz x = some (k, d)) :
    (∃ a c, vx = .slice a k c) ∧ (0 < k → ∃ (b o c : Nat) (f : Nat → Nat → Value), vx = .slice (some ⟨b, o, none⟩) k c ∧
      (∀ i, i < k → ∀ j, j < sz → w.cell? ⟨b, o + i * sz + j, none⟩ = some (f i j) ∧ (f i j).oneCell' = true) ∧ ∀ i, i < k → ∀ j, j < sz → Rel w S [] (f i j) (d i j)) := by
  unfold content at h
  split at h
  · split at h
    case h_2 => simp at h
    rename_i hsz
    have hsz := Nat.eq_of_beq_eq_true hsz; subst hsz
    injection h with h; injection h with h1 h2; subst h1 h2
    cases hx with
    | slice _ b o _ _ cap _ _ f hs hn hcap hf hc hr => exact ⟨⟨_, _, rfl⟩, fun _ => ⟨b, o, cap, f, rfl, hc, hr⟩⟩
    | slice0 => exact ⟨⟨_, _, rfl⟩, fun h => by omega⟩
  · injection h with h; injection h with h1 h2; subst h1 h2
    cases hx; exact ⟨⟨_, _, rfl⟩, fun h => by omega⟩
  · injection h with h; injection h with h1 h2; subst h1 h2
    cases hx; exact ⟨⟨_, _, rfl⟩, fun h => by omega⟩
  · rename_i b lo n
    split at h
    case h_2 => simp at h
    rename_i e sz' n' c hb
    split at h
    case h_2 => simp at h
    rename_i hsz
    have hsz := Nat.eq_of_beq_eq_true hsz; subst hsz
    injection h with h; injection h with h1 h2; subst h1 h2
    cases hx with
    | tail _ a _ _ _ cp hn h =>
      refine ⟨⟨_, _, rfl⟩, fun hp => ?_⟩
      obtain ⟨l, h0, rfl, hle⟩ := h hp
      have hB := bk_of hM h0
      rw [hb] at hB
      obtain ⟨k1, k2, k3, k4, vs, k5, k6, k7⟩ := hB
      refine ⟨l.g, lo * l.sz, cp, fun i j => vs.getD ((lo + i) * sz + j) Go.undef, rfl, fun i hi j hj => ⟨?_, (k7 (lo + i) (by omega) j hj).1⟩, fun i hi j hj => (k7 (lo + i) (by omega) j hj).2⟩
      rw [k1, ← Nat.add_mul]
      refine blk_cell k5 ?_
      have := eref_lt (off := j) (k := 1) (show lo + i < n' by omega) (show j + 1 ≤ sz by omega)
      have h8 : n' * sz ≤ l.cap * sz := Nat.mul_le_mul_right _ k3
      omega
  · rename_i b n
    split at h
    case h_2 => simp at h
    rename_i e sz' n' c hb
    split at h
    case h_2 => simp at h
    rename_i hsz
    have hsz := Nat.eq_of_beq_eq_true hsz; subst hsz
    injection h with h; injection h with h1 h2; subst h1 h2
    cases hx with
    | own0 => exact ⟨⟨_, _, rfl⟩, fun h => by omega⟩
    | own _ _ _ l h0 hn hc =>
      have hB := bk_of hM h0
      rw [hb] at hB
      obtain ⟨k1, k2, k3, k4, vs, k5, k6, k7⟩ := hB
      refine ⟨⟨_, _, rfl⟩, fun _ => ⟨l.g, 0, l.cap, fun i j => vs.getD (i * sz + j) Go.undef, rfl, fun i hi j hj => ⟨?_, (k7 i (by omega) j hj).1⟩, fun i hi j hj => (k7 i (by omega) j hj).2⟩⟩
      rw [Nat.zero_add]
      refine blk_cell k5 ?_
      have := eref_lt (off := j) (k := 1) (show i < n' by omega) (show j + 1 ≤ sz by omega)
      have h8 : n' * sz ≤ l.cap * sz := Nat.mul_le_mul_right _ k3
      omega
  · simp at h

/-- Rows as one list of cells. -/
def flatRows (sz k : Nat) (f : Nat → Nat → Value) : List Value := (List.range (k * sz)).map fun q => f (q / sz) (q % sz)
theorem flatRows_len (sz k : Nat) (f : Nat → Nat → Value) : (flatRows sz k f).length = k * sz := by simp [flatRows]
theorem divmod_row {sz i j : Nat} (hj : j < sz) : (i * sz + j) / sz = i ∧ (i * sz + j) % sz = j := by
  have hp : 0 < sz := by omega
  constructor
  · rw [Nat.mul_comm, Nat.mul_add_div hp, Nat.div_eq_of_lt hj, Nat.add_zero]
  · rw [Nat.mul_comm, Nat.mul_add_mod, Nat.mod_eq_of_lt hj]
theorem flatRows_getD {sz k : Nat} {f : Nat → Nat → Value} {i j : Nat} (hi : i < k) (hj : j < sz) : (flatRows sz k f).getD (i * sz + j) Go.undef = f i j := by
  have hlt : i * sz + j < k * sz := by have := eref_lt (off := j) (k := 1) hi (show j + 1 ≤ sz by omega); omega
  obtain ⟨h1, h2⟩ := divmod_row (i := i) hj
  simp [flatRows, List.getD, hlt, h1, h2]
theorem flatRows_mem {sz k : Nat} {f : Nat → Nat → Value} {q : Nat} {v : Value} (h : (flatRows sz k f)[q]? = some v) : ∃ i j, i < k ∧ j < sz ∧ q = i * sz + j ∧ v = f i j := by
  have hlt : q < k * sz := by have := (List.getElem?_eq_some_iff.1 h).1; rwa [flatRows_len] at this
  have hsz : 0 < sz := by
    rcases Nat.eq_zero_or_pos sz with e | e
    · subst e; simp at hlt
    · exact e
  refine ⟨q / sz, q % sz, Nat.div_lt_of_lt_mul (by rw [Nat.mul_comm]; exact hlt), Nat.mod_lt _ hsz, by rw [Nat.mul_comm]; exact (Nat.div_add_mod q sz).symm, ?_⟩
  simp [flatRows, hlt] at h
  exact h.symm

/-- 'append' within the room of a row, none of whose cells is frozen. -/
theorem run_append_in {w : World} {t ty e : TypeId} {i : TypeInfo} (ht : P.underlying t = some (.slice e)) (hi : P.info? e = some i) {g n cap : Nat} {vs : Array Value} {fz : Nat × Nat} (hf : FzOk fz vs.size) (hg : w.heap[g]? = some (.cells vs e fz))
    {a : Addr} {k c : Nat} {l : List Value} (hl : l.length = k * i.size) (hc : ∀ j u, l[j]? = some u → w.cell? (a.add j) = some u) (h1 : ∀ u ∈ l, u.oneCell' = true) (hroom : n + k ≤ cap) (hfit : n * i.size + l.length ≤ vs.size) :
    (Builtin.append_ #[t, t] ty #[.slice (some ⟨g, 0, none⟩) n cap, .slice (some a) k c]).run P w = .ok (.slice (some ⟨g, 0, none⟩) (n + k) cap) (w.setRow g (seg vs (n * i.size) l)) := by
  have h2 := run_firstCells_some (P := P) w i.size k a k c l hl hc
  have h3 := run_storeRow P g (n * i.size) e l 0 vs w hf hg (by simpa using hfit) h1
  rw [Nat.add_zero] at h3
  simp [Builtin.append_, run_underlying ht, sizeOf, typeInfo, hi, Builtin.lenOf, hroom, h2, Addr.add_lit, h3, seg]

theorem run_append_zero (t ty e : TypeId) (i : TypeInfo) (ht : P.underlying t = some (.slice e)) (hi : P.info? e = some i) (b a : Option Addr) (n c c' : Nat) (hn : n ≤ c) :
    (Builtin.append_ #[t, t] ty #[.slice b n c, .slice a 0 c']).run P w = .ok (.slice b n c) w := by
  cases a <;> cases b <;> simp [Builtin.append_, run_underlying ht, sizeOf, typeInfo, hi, Builtin.lenOf, hn, Builtin.firstCells, loadCells, loadCellsFrom, storeCells]

/-- The cells of a new block: old rows, then new ones. -/
structure NewArr (sz n k cp : Nat) (arr : Array Value) (f0 f : Nat → Nat → Value) : Prop where
  size : arr.size = cp * sz
  cap : n + k ≤ cp
  capm : cp ≤ maxLen
  old : ∀ i j, i < n → j < sz → arr.getD (i * sz + j) Go.undef = f0 i j
  new : ∀ i j, i < k → j < sz → arr.getD ((n + i) * sz + j) Go.undef = f i j

theorem newArr_grow (n k old : Nat) (e : TypeId) (sz : Nat) (z : Value) (hz : z.cells.size = sz) (f0 f : Nat → Nat → Value) (h : n + k ≤ 140737488355328) :
    NewArr sz n k (grownCap w (n + k) old e) ((flatRows sz n f0).toArray ++ (flatRows sz k f).toArray ++ Builtin.zeroCells z.cells (grownCap w (n + k) old e - (n + k))) f0 f := by
  have hge := grownCap_ge w (n + k) old e
  refine ⟨?_, hge, grownCap_le_maxLen w (n + k) old e (by unfold maxLen; omega), fun i j hi hj => ?_, fun i j hi hj => ?_⟩
  · simp only [Array.size_append, List.size_toArray, flatRows_len, size_zeroCells, hz, ← Nat.add_mul]
    congr 1; omega
  · have hlt : i * sz + j < n * sz := by have := eref_lt (off := j) (k := 1) hi (show j + 1 ≤ sz by omega); omega
    have := flatRows_getD (f := f0) hi hj
    simp only [Array.getD_eq_getD_getElem?]
    rw [Array.getElem?_append_left (by simp [flatRows_len]; omega), Array.getElem?_append_left (by simp [flatRows_len]; exact hlt)]
    simpa [List.getD] using this
  · have hlt : i * sz + j < k * sz := by have := eref_lt (off := j) (k := 1) hi (show j + 1 ≤ sz by omega); omega
    have := flatRows_getD (f := f) hi hj
    simp only [Array.getD_eq_getD_getElem?]
    rw [Nat.add_mul]
    rw [Array.getElem?_append_left (by simp [flatRows_len]; omega), Array.getElem?_append_right (by simp [flatRows_len]; omega)]
    simp only [List.size_toArray, flatRows_len]
    rw [show n * sz + i * sz + j - n * sz = i * sz + j from by omega]
    simpa [List.getD] using this

theorem flat_cell {sz k : Nat} {f : Nat → Nat → Value} {b o : Nat} (hc : ∀ i, i < k → ∀ j, j < sz → w.cell? ⟨b, o + i * sz + j, none⟩ = some (f i j) ∧ (f i j).oneCell' = true) :
    ∀ (q : Nat) (u : Value), (flatRows sz k f)[q]? = some u → w.cell? ((⟨b, o, none⟩ : Addr).add q) = some u := fun q u hq => by
  obtain ⟨i, j, hi, hj, rfl, rfl⟩ := flatRows_mem hq
  rw [addr_add, ← Nat.add_assoc]; exact (hc i hi j hj).1

theorem flatRows_zero (sz : Nat) (f : Nat → Nat → Value) : flatRows sz 0 f = [] := by simp [flatRows]

theorem snocRows_old {n i j : Nat} {c d : Nat → Nat → AV} (h : i < n) : snocRows n c d i j = c i j := by simp [snocRows, h]
theorem snocRows_new {n i j : Nat} {c d : Nat → Nat → AV} : snocRows n c d (n + i) j = d i j := by
  have : ¬ n + i < n := by omega
  simp [snocRows, this]

theorem take_flat {vs : Array Value} {sz n : Nat} (h : n * sz ≤ vs.size) : vs.toList.take (n * sz) = flatRows sz n fun i j => vs.getD (i * sz + j) Go.undef := by
  apply List.ext_getElem?
  intro q
  by_cases hq : q < n * sz
  · rw [List.getElem?_take_of_lt hq]
    have hq' : q < vs.size := by omega
    have e : q / sz * sz + q % sz = q := by rw [Nat.mul_comm]; exact Nat.div_add_mod q sz
    simp [flatRows, hq, e, hq']
  · rw [List.getElem?_eq_none (by simp; omega), List.getElem?_eq_none (by rw [flatRows_len]; omega)]

theorem aAppendO_ok (hT : TabOk P T) (hM : MRel base w S m M) (t ty : TypeId) {vs vx : Value} {s x : AV} (hs : Rel w S m vs s) (hx : Rel w S m vx x) (hk : AllT (aAppendO std T M t s x).ks) :
    Res base w S m P (aAppendO std T M t s x) (Builtin.append_ #[t, t] ty #[vs, vx]) := by
  unfold aAppendO at hk ⊢
  split at hk
  case h_2 => exact (not_bad hk).elim
  rename_i e htd
  obtain ⟨_, _, _, g⟩ := hT.of_d htd (by simp)
  have hd := g.d; rw [htd] at hd
  have := td_slice hd.symm; subst this
  split at hk
  case h_2 => exact (not_bad hk).elim
  rename_i k d hcon
  obtain ⟨⟨ax, cx, rfl⟩, hcells⟩ := content_ok hM hx hcon
  split at hk
  · -- onto nil
    rename_i h1 h2
    have h1 := Nat.le_of_ble_eq_true h1
    have h2 := Nat.le_of_ble_eq_true h2
    obtain ⟨_, ie, ze, ge⟩ := hT.of_sz h1
    cases hs
    have hroom : k * (tyi T e).bytes ≤ roomNat := by simpa [AllT, std] using hk
    unfold roomNat at hroom
    have hk47 : k ≤ 140737488355328 := by have : k * 1 ≤ k * (tyi T e).bytes := Nat.mul_le_mul_left _ h2; omega
    by_cases hk0 : k = 0
    · subst hk0
      have hrun := run_append_zero (P := P) (w := w) t ty e ie g.und ge.info none ax 0 0 cx (Nat.le_refl _)
      obtain ⟨ht, hm⟩ := hM.allocN (.rows e (tyi T e).sz 0 d) rfl
      exact ⟨_, _, _, _, hrun, ht, hm, .own0 _ _ _ (by rw [← hM.len]; simp)⟩
    · obtain ⟨b, o, c, f, hv, hc, hr⟩ := hcells (by omega)
      injection hv with hv1 hv2 hv3; subst hv1 hv3
      have hnews : ∀ q u, (flatRows ie.size k f)[q]? = some u → w.cell? ((⟨b, o, none⟩ : Addr).add q) = some u := fun q u hq => by
        rw [← ge.sz] at hq
        obtain ⟨i, j, hi, hj, rfl, rfl⟩ := flatRows_mem hq
        rw [addr_add, ← Nat.add_assoc]; exact (hc i hi j hj).1
      have hrun := run_append_nil (P := P) w t ty e ie ze g.und ge.info ge.zero ⟨b, o, none⟩ k cx (flatRows ie.size k f) (flatRows_len _ _ _) hnews (by omega) (by omega) (by rw [← ge.by_]; omega)
      let cap := grownCap w k 0 e
      have hcap1 : k ≤ cap := grownCap_ge w k 0 e
      have hcap2 : cap ≤ maxLen := grownCap_le_maxLen w k 0 e (by unfold maxLen; omega)
      let arr : Array Value := (flatRows ie.size k f).toArray ++ Builtin.zeroCells ze.cells (cap - k)
      have harr : arr.size = cap * (tyi T e).sz := by
        simp only [arr, Array.size_append, List.size_toArray, flatRows_len, size_zeroCells, ge.zsz, ge.sz, ← Nat.add_mul]
        congr 1; omega
      have hget : ∀ i j, i < k → j < (tyi T e).sz → arr.getD (i * (tyi T e).sz + j) Go.undef = f i j := fun i j hi hj => by
        have hlt : i * (tyi T e).sz + j < k * (tyi T e).sz := by have := eref_lt (off := j) (k := 1) hi (show j + 1 ≤ (tyi T e).sz by omega); omega
        have := flatRows_getD (f := f) hi hj
        simp only [arr, ← ge.sz, Array.getD_eq_getD_getElem?]
        rw [Array.getElem?_append_left (by simp [flatRows_len]; exact hlt)]
        simpa [List.getD] using this
      let loc : Loc := ⟨w.heap.size, cap, (tyi T e).sz, k, false, []⟩
      have hMd : MRel base w.drew S m M := hM.drew
      obtain ⟨ht, hm⟩ := hMd.alloc (.cells arr e) loc (.rows e (tyi T e).sz k d) rfl
        ⟨rfl, rfl, hcap1, hcap2, arr, Go.heap_alloc_new w.drew _, harr, fun i hi j hj => by
          rw [hget i j hi hj]
          exact ⟨(hc i hi j hj).2, Rel.mono (w := w) (fun _ h => h) (fun b hb => Below.heap_alloc w.drew _ b (hM.sb b hb)) (hr i hi j hj) _ (fun _ _ h => h)⟩⟩
      exact ⟨_, _, _, _, hrun, ht.of_drew, hm, .own _ _ _ loc (by rw [← hM.len]; simp) (Nat.le_refl _) ⟨hcap1, hcap2⟩⟩
  · -- onto an empty one
    rename_i h1 h2
    have h1 := Nat.le_of_ble_eq_true h1
    have h2 := Nat.le_of_ble_eq_true h2
    obtain ⟨_, ie, ze, ge⟩ := hT.of_sz h1
    cases hs with
    | emp _ a0 =>
    have hroom : k * (tyi T e).bytes ≤ roomNat := by simpa [AllT, std] using hk
    unfold roomNat at hroom
    have hk47 : k ≤ 140737488355328 := by have : k * 1 ≤ k * (tyi T e).bytes := Nat.mul_le_mul_left _ h2; omega
    by_cases hk0 : k = 0
    · subst hk0
      have hrun := run_append_zero (P := P) (w := w) t ty e ie g.und ge.info a0 ax 0 0 cx (Nat.le_refl _)
      obtain ⟨ht, hm⟩ := hM.allocN (.rows e (tyi T e).sz 0 d) rfl
      exact ⟨_, _, _, _, hrun, ht, hm, .own0 _ _ _ (by rw [← hM.len]; simp)⟩
    · obtain ⟨b, o, c, f, hv, hc, hr⟩ := hcells (by omega)
      injection hv with hv1 hv2 hv3; subst hv1 hv3
      rw [show (tyi T e).sz = ie.size from ge.sz] at hc hr ⊢
      have hna := newArr_grow (w := w) 0 k 0 e ie.size ze ge.zsz (fun _ _ => Go.undef) f (by omega)
      simp only [flatRows_zero, Nat.zero_add, Array.empty_append] at hna
      have hrun : (Builtin.append_ #[t, t] ty #[.slice a0 0 0, .slice (some ⟨b, o, none⟩) k cx]).run P w = .ok (.slice (some ⟨w.heap.size, 0, none⟩) k (grownCap w k 0 e)) (w.drew.alloc (.cells ((flatRows ie.size k f).toArray ++ Builtin.zeroCells ze.cells (grownCap w k 0 e - k)) e)) := by
        cases a0 with
        | none => exact run_append_nil (P := P) w t ty e ie ze g.und ge.info ge.zero ⟨b, o, none⟩ k cx (flatRows ie.size k f) (flatRows_len _ _ _) (flat_cell hc) (by omega) (by omega) (by rw [← ge.by_]; omega)
        | some a1 =>
          have hrun := run_append_grow (P := P) w t ty e ie ze g.und ge.info ge.zero a1 0 0 [] (by simp) (by simp) ⟨b, o, none⟩ k cx (flatRows ie.size k f) (flatRows_len _ _ _) (flat_cell hc) (by omega) (by omega)
            (growslice_fits (by omega) (by rw [← ge.by_]; rw [Nat.zero_add]; exact hroom))
          simpa using hrun
      let loc : Loc := ⟨w.heap.size, grownCap w k 0 e, ie.size, k, false, []⟩
      have hMd : MRel base w.drew S m M := hM.drew
      obtain ⟨ht, hm⟩ := hMd.alloc (.cells ((flatRows ie.size k f).toArray ++ Builtin.zeroCells ze.cells (grownCap w k 0 e - k)) e) loc (.rows e ie.size k d) rfl
        ⟨rfl, rfl, by simpa using hna.cap, hna.capm, _, Go.heap_alloc_new w.drew _, hna.size, fun i hi j hj => by
          have := hna.new i j hi hj
          rw [Nat.zero_add] at this
          rw [this]
          exact ⟨(hc i hi j hj).2, Rel.mono (w := w) (fun _ h => h) (fun b hb => Below.heap_alloc w.drew _ b (hM.sb b hb)) (hr i hi j hj) _ (fun _ _ h => h)⟩⟩
      exact ⟨_, _, _, _, hrun, ht.of_drew, hm, .own _ _ _ loc (by rw [← hM.len]; simp) (Nat.le_refl _) ⟨by simpa using hna.cap, hna.capm⟩⟩
  · -- onto a slice of the call's own
    rename_i b n h1 h2
    have h1 := Nat.le_of_ble_eq_true h1
    have h2 := Nat.le_of_ble_eq_true h2
    obtain ⟨_, ie, ze, ge⟩ := hT.of_sz h1
    split at hk
    case h_2 => exact (not_bad hk).elim
    rename_i e' sz n' c hb
    split at hk
    case h_2 => exact (not_bad hk).elim
    rename_i he hsz
    have he := Nat.eq_of_beq_eq_true he; subst he
    have hsz := Nat.eq_of_beq_eq_true hsz
    have hroom : (n + k) * (tyi T e).bytes ≤ roomNat := by simpa [AllT, std] using hk
    unfold roomNat at hroom
    have hk47 : n + k ≤ 140737488355328 := by have : (n + k) * 1 ≤ (n + k) * (tyi T e).bytes := Nat.mul_le_mul_left _ h2; omega
    have eadd : std.nadd n k = n + k := rfl
    rw [eadd]
    have hbk : ∀ l, m[b]? = some l → BRel w S m l (.rows e sz n' c) := fun l hl => by have := hM.bk b l hl; rw [hb] at this; exact this
    cases hs with
    | own0 _ a0 _ h0 =>
      by_cases hk0 : k = 0
      · subst hk0
        have hrun := run_append_zero (P := P) (w := w) t ty e ie g.und ge.info a0 ax 0 0 cx (Nat.le_refl _)
        obtain ⟨ht, hm⟩ := hM.move b none h0 none (.rows e sz (0 + 0) (snocRows 0 c d)) (by rw [hb]; rfl) (Prot.refl _ _) (fun _ _ _ => rfl) (fun l₂ h => by simp at h) rfl
        exact ⟨_, _, _, _, hrun, ht, hm, .own0 _ _ _ (List.getElem?_set_self (by rw [hM.len]; exact blk_lt M b (by rw [hb]; simp)))⟩
      · obtain ⟨bb, o, c', f, hv, hc, hr⟩ := hcells (by omega)
        injection hv with hv1 hv2 hv3; subst hv1 hv3
        rw [show (tyi T e).sz = ie.size from ge.sz] at hc hr hsz
        have hroom' : k * ie.bytes ≤ 281474976710656 := by rw [← ge.by_]; rw [Nat.zero_add] at hroom; omega
        have hrun : (Builtin.append_ #[t, t] ty #[.slice a0 0 0, .slice (some ⟨bb, o, none⟩) k cx]).run P w = .ok (.slice (some ⟨w.heap.size, 0, none⟩) k (grownCap w k 0 e)) (w.drew.alloc (.cells ((flatRows ie.size k f).toArray ++ Builtin.zeroCells ze.cells (grownCap w k 0 e - k)) e)) := by
          cases a0 with
          | none => exact run_append_nil (P := P) w t ty e ie ze g.und ge.info ge.zero ⟨bb, o, none⟩ k cx (flatRows ie.size k f) (flatRows_len _ _ _) (flat_cell hc) (by omega) (by omega) hroom'
          | some a1 =>
            have hrun := run_append_grow (P := P) w t ty e ie ze g.und ge.info ge.zero a1 0 0 [] (by simp) (by simp) ⟨bb, o, none⟩ k cx (flatRows ie.size k f) (flatRows_len _ _ _) (flat_cell hc) (by omega) (by omega)
              (growslice_fits (by omega) (by rw [← ge.by_]; exact hroom))
            simpa using hrun
        have hna := newArr_grow (w := w) 0 k 0 e ie.size ze ge.zsz (fun _ _ => Go.undef) f (by omega)
        simp only [flatRows_zero, Nat.zero_add, Array.empty_append] at hna
        subst hsz
        have hbel : Prot base.Z w (w.drew.alloc (.cells ((flatRows ie.size k f).toArray ++ Builtin.zeroCells ze.cells (grownCap w k 0 e - k)) e)) := ((Prot.refl base.Z w).drew).alloc hM.base_le _
        obtain ⟨ht, hm⟩ := hM.move b none h0 (some ⟨w.heap.size, grownCap w k 0 e, ie.size, 0 + k, false, []⟩) (.rows e ie.size (0 + k) (snocRows 0 c d)) (by rw [hb]; rfl) hbel (fun b hb _ => Below.heap_alloc w.drew _ b hb)
          (fun l₂ h => by injection h with h; subst h; exact ⟨.inr (Nat.le_refl _), by simp⟩)
          ⟨rfl, rfl, by simpa using hna.cap, hna.capm, _, Go.heap_alloc_new w.drew _, hna.size, fun i hi j hj => by
            have hi' : i < k := by omega
            have := hna.new i j hi' hj
            rw [Nat.zero_add] at this
            rw [this]
            have e2 : snocRows 0 c d i j = d i j := by simp [snocRows]
            rw [e2]
            exact ⟨(hc i hi' j hj).2, Rel.mono (w := w) (fun _ h => h) (fun b hb => Below.heap_alloc w.drew _ b (hM.sb b hb)) (hr i hi' j hj) _ (fun _ _ h => h)⟩⟩
        refine ⟨_, _, _, _, hrun, ht, hm, ?_⟩
        have := Rel.own (w := (w.drew.alloc (.cells ((flatRows ie.size k f).toArray ++ Builtin.zeroCells ze.cells (grownCap w k 0 e - k)) e))) (S := S) (m.set b (some ⟨w.heap.size, grownCap w k 0 e, ie.size, 0 + k, false, []⟩)) b (0 + k) ⟨w.heap.size, grownCap w k 0 e, ie.size, 0 + k, false, []⟩ (List.getElem?_set_self (by rw [hM.len]; exact blk_lt M b (by rw [hb]; simp))) (Nat.le_refl _) ⟨by simpa using hna.cap, hna.capm⟩
        simpa using this
    | own _ _ _ l h0 hn hcap =>
      obtain ⟨rfl, rfl, q1', q2, vs, q3, q4, q5⟩ := hbk _ h0
      have q1 : n ≤ l.cap := Nat.le_trans hn q1'
      have hbm : b < m.length := by rw [hM.len]; exact blk_lt M b (by rw [hb]; simp)
      have hself : ∀ x : Option Loc, (m.set b x)[b]? = some x := fun x => List.getElem?_set_self hbm
      have hl := hM.lt _ _ h0
      have hfit : n * l.sz ≤ vs.size := by rw [q4]; exact Nat.mul_le_mul_right _ q1
      by_cases hk0 : k = 0
      · subst hk0
        have hrun := run_append_zero (P := P) (w := w) t ty e ie g.und ge.info (some ⟨l.g, 0, none⟩) ax n l.cap cx q1
        obtain ⟨ht, hm⟩ := hM.move b (some l) h0 (some ⟨l.g, l.cap, l.sz, n + 0, l.st, []⟩) (.rows e l.sz (n + 0) (snocRows n c d)) (by rw [hb]; rfl) (Prot.refl _ _) (fun _ _ _ => rfl)
          (fun l₂ h => by injection h with h; subst h; exact ⟨.inl ⟨l, rfl, rfl⟩, hl.2.1⟩)
          ⟨rfl, rfl, q1, q2, vs, q3, q4, fun i hi j hj => by rw [snocRows_old (by omega)]; exact q5 i (by omega) j hj⟩
        exact ⟨_, _, _, _, hrun, ht, hm, .own _ b (n + 0) ⟨l.g, l.cap, l.sz, n + 0, l.st, []⟩ (hself _) (Nat.le_refl _) ⟨q1, q2⟩⟩
      · obtain ⟨bb, o, c', f, hv, hc, hr⟩ := hcells (by omega)
        injection hv with hv1 hv2 hv3; subst hv1 hv3
        rw [← hsz] at hc hr
        have hsi : l.sz = ie.size := hsz.trans ge.sz
        by_cases hrm : n + k ≤ l.cap
        · have hle : (n + k) * l.sz ≤ vs.size := by rw [q4]; exact Nat.mul_le_mul_right _ hrm
          rw [Nat.add_mul] at hle
          have hrun := run_append_in (P := P) (ty := ty) g.und ge.info (Loc.fzOk q4) q3 (a := ⟨bb, o, none⟩) (k := k) (c := cx) (n := n) (cap := l.cap) (l := flatRows l.sz k f) (by rw [flatRows_len, hsi]) (flat_cell hc)
            (fun u hu => by obtain ⟨q, hq⟩ := List.getElem?_of_mem hu; obtain ⟨i, j, hi, hj, _, rfl⟩ := flatRows_mem hq; exact (hc i hi j hj).2) hrm (by rw [flatRows_len, ← hsi]; exact hle)
          rw [← hsi] at hrun
          change _ = Result.ok _ (w.setRow l.g (seg vs (n * l.sz) (flatRows l.sz k f))) at hrun
          have hseg : n * l.sz + (flatRows l.sz k f).length ≤ vs.size := by rw [flatRows_len]; exact hle
          have hst : ∀ x, x < w.heap.size → x ≠ l.g → (w.setRow l.g (seg vs (n * l.sz) (flatRows l.sz k f))).heap[x]? = w.heap[x]? := fun x _ hne => setRow_other w l.g x _ hne
          have hS : ∀ x, S x → (w.setRow l.g (seg vs (n * l.sz) (flatRows l.sz k f))).heap[x]? = w.heap[x]? := fun x hx => hst x (hM.sb x hx) (fun e => hl.2.2 (e ▸ hx))
          obtain ⟨ht, hm⟩ := hM.move b (some l) h0 (some ⟨l.g, l.cap, l.sz, n + k, l.st, []⟩) (.rows e l.sz (n + k) (snocRows n c d)) (by rw [hb]; rfl) (setRow_below l.g _ hl.1) (fun x hx hne => hst x hx (hne l rfl))
            (fun l₂ h => by injection h with h; subst h; exact ⟨.inl ⟨l, rfl, rfl⟩, by simpa using hl.2.1⟩)
            ⟨rfl, rfl, hrm, q2, _, setRow_heap w l.g vs _ e _ q3, by rw [seg_size _ _ _ hseg]; exact q4, fun i hi j hj => by
              rw [seg_getD _ _ _ hseg, flatRows_len]
              by_cases hin : i < n
              · have := eref_lt (off := j) (k := 1) hin (show j + 1 ≤ l.sz by omega)
                rw [if_neg (by omega), snocRows_old hin]
                have := q5 i (by omega) j hj
                exact ⟨this.1, this.2.mono (fun _ h => h) hS _ (fun _ _ h => h)⟩
              · obtain ⟨r, rfl⟩ : ∃ r, i = n + r := ⟨i - n, by omega⟩
                have hr' : r < k := by omega
                have := eref_lt (off := j) (k := 1) hr' (show j + 1 ≤ l.sz by omega)
                rw [snocRows_new, Nat.add_mul, if_pos (by omega), show n * l.sz + r * l.sz + j - n * l.sz = r * l.sz + j from by omega, flatRows_getD hr' hj]
                exact ⟨(hc r hr' j hj).2, (hr r hr' j hj).mono (fun _ h => h) hS _ (fun _ _ h => h)⟩⟩
          exact ⟨_, _, _, _, hrun, ht, hm, .own _ b (n + k) ⟨l.g, l.cap, l.sz, n + k, l.st, []⟩ (hself _) (Nat.le_refl _) ⟨hrm, q2⟩⟩
        · have hold : ∀ i, i < n → ∀ j, j < l.sz → w.cell? ⟨l.g, 0 + i * l.sz + j, none⟩ = some (vs.getD (i * l.sz + j) Go.undef) ∧ (vs.getD (i * l.sz + j) Go.undef).oneCell' = true := fun i hi j hj => by
            have := eref_lt (off := j) (k := 1) hi (show j + 1 ≤ l.sz by omega)
            rw [Nat.zero_add]
            exact ⟨blk_cell q3 (by omega), (q5 i (by omega) j hj).1⟩
          have hrun := run_append_grow (P := P) w t ty e ie ze g.und ge.info ge.zero ⟨l.g, 0, none⟩ n l.cap (flatRows l.sz n fun i j => vs.getD (i * l.sz + j) Go.undef) (by rw [flatRows_len, hsi]) (flat_cell hold)
            ⟨bb, o, none⟩ k cx (flatRows l.sz k f) (by rw [flatRows_len, hsi]) (flat_cell hc) (by omega) (by omega) (growslice_fits (by omega) (by rw [← ge.by_]; exact hroom))
          have hna := newArr_grow (w := w) n k l.cap e l.sz ze (ge.zsz.trans hsi.symm) (fun i j => vs.getD (i * l.sz + j) Go.undef) f (by omega)
          generalize hA : (flatRows l.sz n fun i j => vs.getD (i * l.sz + j) Go.undef).toArray ++ (flatRows l.sz k f).toArray ++ Builtin.zeroCells ze.cells (grownCap w (n + k) l.cap e - (n + k)) = arr at hrun hna
          have hbel : Prot base.Z w (w.drew.alloc (.cells arr e)) := ((Prot.refl base.Z w).drew).alloc hM.base_le _
          have hS : ∀ x, S x → (w.drew.alloc (.cells arr e)).heap[x]? = w.heap[x]? := fun x hx => Below.heap_alloc w.drew _ x (hM.sb x hx)
          obtain ⟨ht, hm⟩ := hM.move b (some l) h0 (some ⟨w.heap.size, grownCap w (n + k) l.cap e, l.sz, n + k, false, []⟩) (.rows e l.sz (n + k) (snocRows n c d)) (by rw [hb]; rfl) hbel (fun x hx _ => Below.heap_alloc w.drew _ x hx)
            (fun l₂ h => by injection h with h; subst h; exact ⟨.inr (Nat.le_refl _), by simp⟩)
            ⟨rfl, rfl, hna.cap, hna.capm, arr, Go.heap_alloc_new w.drew _, hna.size, fun i hi j hj => by
              by_cases hin : i < n
              · rw [hna.old i j hin hj, snocRows_old hin]
                have := q5 i (by omega) j hj
                exact ⟨this.1, this.2.mono (fun _ h => h) hS _ (fun _ _ h => h)⟩
              · obtain ⟨r, rfl⟩ : ∃ r, i = n + r := ⟨i - n, by omega⟩
                have hr' : r < k := by omega
                rw [hna.new r j hr' hj, snocRows_new]
                exact ⟨(hc r hr' j hj).2, (hr r hr' j hj).mono (fun _ h => h) hS _ (fun _ _ h => h)⟩⟩
          exact ⟨_, _, _, _, hrun, ht, hm, .own _ b (n + k) ⟨w.heap.size, grownCap w (n + k) l.cap e, l.sz, n + k, false, []⟩ (hself _) (Nat.le_refl _) ⟨hna.cap, hna.capm⟩⟩
  · -- onto a slice without room
    rename_i sz n c h1 h2
    have h1 := Nat.le_of_ble_eq_true h1
    have h2 := Nat.le_of_ble_eq_true h2
    obtain ⟨_, ie, ze, ge⟩ := hT.of_sz h1
    split at hk
    case h_2 => exact (not_bad hk).elim
    rename_i hsz
    have hsz := Nat.eq_of_beq_eq_true hsz
    have hroom : (n + k) * (tyi T e).bytes ≤ roomNat := by simpa [AllT, std] using hk
    unfold roomNat at hroom
    have hk47 : n + k ≤ 140737488355328 := by have : (n + k) * 1 ≤ (n + k) * (tyi T e).bytes := Nat.mul_le_mul_left _ h2; omega
    have eadd : std.nadd n k = n + k := rfl
    rw [eadd]
    have hsi : sz = ie.size := hsz.trans ge.sz
    -- what the old slice is
    have hold : ∃ a, vs = .slice a n n ∧ (0 < n → ∃ (bo oo : Nat) (f0 : Nat → Nat → Value), S bo ∧ a = some ⟨bo, oo, none⟩ ∧ (∀ i, i < n → ∀ j, j < sz → w.cell? ⟨bo, oo + i * sz + j, none⟩ = some (f0 i j) ∧ (f0 i j).oneCell' = true) ∧ ∀ i, i < n → ∀ j, j < sz → Rel w S [] (f0 i j) (c i j)) := by
      cases hs with
      | slice _ bo oo _ _ cap _ _ f0 hs hn hcap hf hc hr =>
        have := hf rfl; subst this
        exact ⟨_, rfl, fun _ => ⟨bo, oo, f0, hs, rfl, hc, hr⟩⟩
      | slice0 _ a cap _ _ _ hcap hf =>
        have := hf rfl; subst this
        exact ⟨a, rfl, fun h => by omega⟩
    obtain ⟨a0, rfl, hold⟩ := hold
    by_cases hk0 : k = 0
    · subst hk0
      have hrun := run_append_zero (P := P) (w := w) t ty e ie g.und ge.info a0 ax n n cx (Nat.le_refl _)
      refine .val hM hrun ?_
      by_cases hn0 : n = 0
      · subst hn0; exact .slice0 _ _ _ _ _ _ (by unfold maxLen; omega) (fun h => by simp at h)
      · obtain ⟨bo, oo, f0, hS0, rfl, hc0, hr0⟩ := hold (by omega)
        exact .slice _ _ _ _ _ _ _ _ f0 hS0 (Nat.le_refl _) (by unfold maxLen; omega) (fun h => by simp at h) hc0 (fun i hi j hj => by rw [snocRows_old (by omega)]; exact hr0 i (by omega) j hj)
    · obtain ⟨bb, o, c', f, hv, hc, hr⟩ := hcells (by omega)
      injection hv with hv1 hv2 hv3; subst hv1 hv3
      rw [← hsz] at hc hr
      -- a new block
      have fin : ∀ (cap : Nat) (arr : Array Value) (f0 : Nat → Nat → Value), NewArr sz n k cap arr f0 f → (∀ i, i < n → ∀ j, j < sz → (f0 i j).oneCell' = true ∧ Rel w S [] (f0 i j) (c i j)) →
          (Builtin.append_ #[t, t] ty #[.slice a0 n n, .slice (some ⟨bb, o, none⟩) k cx]).run P w = .ok (.slice (some ⟨w.heap.size, 0, none⟩) (n + k) cap) (w.drew.alloc (.cells arr e)) →
          Res base w S m P ⟨.slice sz (n + k) false (snocRows n c d), M, [std.ble (std.nmul (n + k) (tyi T e).bytes) roomNat], none⟩ (Builtin.append_ #[t, t] ty #[.slice a0 n n, .slice (some ⟨bb, o, none⟩) k cx]) := by
        intro cap arr f0 hna h0 hrun
        obtain ⟨ht, hm⟩ := hM.drew.allocS (.cells arr e)
        have hS : ∀ x, S x → (w.drew.alloc (.cells arr e)).heap[x]? = w.heap[x]? := fun x hx => Below.heap_alloc w.drew _ x (hM.sb x hx)
        refine ⟨_, _, _, _, hrun, ht.of_drew, hm, .slice _ _ _ _ _ _ _ _ (fun i j => arr.getD (i * sz + j) Go.undef) (.inr rfl) hna.cap hna.capm (fun h => by simp at h) (fun i hi j hj => ⟨?_, ?_⟩) (fun i hi j hj => ?_)⟩
        · have hcr := cell_of_row (w.drew.alloc (.cells arr e)) w.heap.size (i * sz + j) arr e (0, 0) (Go.heap_alloc_new w.drew _)
          rw [Nat.zero_add, hcr]
          have h8 := eref_lt (off := j) (k := 1) hi (show j + 1 ≤ sz by omega)
          have h9 : (n + k) * sz ≤ cap * sz := Nat.mul_le_mul_right _ hna.cap
          have h10 := hna.size
          simp [show i * sz + j < arr.size by omega]
        · by_cases hin : i < n
          · rw [hna.old i j hin hj]; exact (h0 i hin j hj).1
          · obtain ⟨r, rfl⟩ : ∃ r, i = n + r := ⟨i - n, by omega⟩
            rw [hna.new r j (by omega) hj]; exact (hc r (by omega) j hj).2
        · by_cases hin : i < n
          · rw [hna.old i j hin hj, snocRows_old hin]; exact (h0 i hin j hj).2.mono (fun _ h => .inl h) hS _ (fun _ _ h => h)
          · obtain ⟨r, rfl⟩ : ∃ r, i = n + r := ⟨i - n, by omega⟩
            rw [hna.new r j (by omega) hj, snocRows_new]; exact (hr r (by omega) j hj).mono (fun _ h => .inl h) hS _ (fun _ _ h => h)
      by_cases hn0 : n = 0
      · subst hn0
        have hna := newArr_grow (w := w) 0 k 0 e sz ze (ge.zsz.trans hsi.symm) (fun _ _ => Go.undef) f (by omega)
        cases a0 with
        | none =>
          have hroom' : k * ie.bytes ≤ 281474976710656 := by rw [← ge.by_]; rw [Nat.zero_add] at hroom; omega
          have hrun := run_append_nil (P := P) w t ty e ie ze g.und ge.info ge.zero ⟨bb, o, none⟩ k cx (flatRows sz k f) (by rw [flatRows_len, hsi]) (flat_cell hc) (by omega) (by omega) hroom'
          refine fin _ _ (fun _ _ => Go.undef) hna (fun i hi => by omega) ?_
          simpa [flatRows_zero] using hrun
        | some a1 =>
          have hrun := run_append_grow (P := P) w t ty e ie ze g.und ge.info ge.zero a1 0 0 [] (by simp) (by simp) ⟨bb, o, none⟩ k cx (flatRows sz k f) (by rw [flatRows_len, hsi]) (flat_cell hc) (by omega) (by omega)
            (growslice_fits (by omega) (by rw [← ge.by_]; exact hroom))
          refine fin _ _ (fun _ _ => Go.undef) hna (fun i hi => by omega) ?_
          simpa [flatRows_zero] using hrun
      · obtain ⟨bo, oo, f0, hS0, rfl, hc0, hr0⟩ := hold (by omega)
        have hna := newArr_grow (w := w) n k n e sz ze (ge.zsz.trans hsi.symm) f0 f (by omega)
        have hrun := run_append_grow (P := P) w t ty e ie ze g.und ge.info ge.zero ⟨bo, oo, none⟩ n n (flatRows sz n f0) (by rw [flatRows_len, hsi]) (flat_cell hc0) ⟨bb, o, none⟩ k cx (flatRows sz k f) (by rw [flatRows_len, hsi]) (flat_cell hc) (by omega) (by omega)
          (growslice_fits (by omega) (by rw [← ge.by_]; exact hroom))
        exact fin _ _ f0 hna (fun i hi j hj => ⟨(hc0 i hi j hj).2, hr0 i hi j hj⟩) hrun
  · exact (not_bad hk).elim

theorem contentT_ok (hM : MRel base w S m M) {u : Ty} {k : List (El u)} {x : AV} {vx : Value} (hx : Rel w S m vx x) (h : contentT M u x = some k) :
    ∃ x' d, Rel w S m vx x' ∧ content (unM M) (szT u) x' = some (k.length, d) ∧ ∀ i, i < k.length → ∀ j, j < szT u → d i j = vw u k i j := by
  unfold contentT at h
  split at h
  · obtain ⟨e, rfl⟩ := castL_some h
    subst e
    exact ⟨_, _, Le.un _ _ _ _ hx, by simp only [content, Nat.beq_refl], fun _ _ _ _ => rfl⟩
  · injection h with h; subst h
    exact ⟨.nilsl, _, hx, rfl, fun i hi => absurd hi (Nat.not_lt_zero i)⟩
  · injection h with h; subst h
    exact ⟨.emp, _, hx, rfl, fun i hi => absurd hi (Nat.not_lt_zero i)⟩
  · rename_i b
    split at h
    case h_2 => cases h
    rename_i e' u' l hb
    obtain ⟨e, rfl⟩ := castL_some h
    subst e
    have hbu : blk (unM M) b = .rows e' (szT u') l.length (vw u' l) := by rw [blk_un, hb]; rfl
    exact ⟨_, _, hx.T_own hM hb, by simp only [content, hbu, Nat.beq_refl], fun _ _ _ _ => rfl⟩
  · rename_i b lo n
    split at h
    case h_2 => cases h
    rename_i e' u' l hb
    obtain ⟨e, rfl⟩ := castL_some h
    subst e
    have hbu : blk (unM M) b = .rows e' (szT u') l.length (vw u' l) := by rw [blk_un, hb]; rfl
    have hlen : ((l.drop lo).take n).length = n := by
      cases hx with
      | tail _ a _ _ _ cp hn h =>
        by_cases h0 : n = 0
        · subst h0; simp
        · obtain ⟨l', h1, _, h2⟩ := h (by omega)
          have hB := hM.bk _ _ h1
          rw [hb] at hB
          have : l'.n = l.length := hB.2.1
          simp; omega
    refine ⟨_, fun i j => vw u' l (lo + i) j, hx, ?_, fun i hi j hj => ?_⟩
    · simp only [content, hbu, Nat.beq_refl]
      rw [hlen]
    · have hi' : i < n := by rw [← hlen]; exact hi
      show _ = vw u' ((l.drop lo).take n) i j
      rw [vw_take _ _ _ _ _ hi', vw_drop]
  · rename_i b n
    split at h
    case h_2 => cases h
    rename_i e' u' l hb
    obtain ⟨e, rfl⟩ := castL_some h
    subst e
    have hbu : blk (unM M) b = .rows e' (szT u') l.length (vw u' l) := by rw [blk_un, hb]; rfl
    have hlen : (l.take n).length = n := by
      cases hx with
      | own _ _ _ l' h hn hc =>
        have hB := hM.bk _ _ h
        rw [hb] at hB
        have : l'.n = l.length := hB.2.1
        simp; omega
      | own0 => simp
    refine ⟨.own b n, vw u' l, hx, ?_, fun i hi j hj => ?_⟩
    · simp only [content, hbu, Nat.beq_refl]
      rw [hlen]
    · have hi' : i < n := by rw [← hlen]; exact hi
      show vw u' l i j = vw u' (l.take n) i j
      rw [vw_take _ _ _ _ _ hi']
  · cases h

theorem unB_inval (b : Nat) (B : ABlk) : invalB b (unB B) = unB (invalB b B) := by cases B <;> rfl
theorem vw_snoc (u : Ty) (l k : List (El u)) (d : Nat → Nat → AV) (hd : ∀ i, i < k.length → ∀ j, j < szT u → d i j = vw u k i j) (i : Nat) (hi : i < l.length + k.length) (j : Nat) (hj : j < szT u) : snocRows l.length (vw u l) d i j = vw u (l ++ k) i j := by
  by_cases h : i < l.length
  · rw [snocRows_old h, vw_append_l _ _ _ _ _ h]
  · obtain ⟨r, rfl⟩ : ∃ r, i = l.length + r := ⟨i - l.length, by omega⟩
    rw [snocRows_new, vw_append_r, hd r (by omega) j hj]

theorem aAppendT_ok (hT : TabOk P T) (hM : MRel base w S m M) (t ty e : TypeId) (u : Ty) {vs vx : Value} {s x : AV} (htd : (tyi T t).d = .slice e) (hs : Rel w S m vs s) (hx : Rel w S m vx x) (hk : AllT (aAppendT std T M t e u s x).ks) :
    Res base w S m P (aAppendT std T M t e u s x) (Builtin.append_ #[t, t] ty #[vs, vx]) := by
  unfold aAppendT at hk ⊢
  split at hk
  case h_2 => exact (not_bad hk).elim
  rename_i k hcon hsz hpos hby
  obtain ⟨x', d, hx', hc', hd⟩ := contentT_ok hM hx hcon
  have hsz := Nat.eq_of_beq_eq_true hsz
  have hc2 : content (unM M) (tyi T e).sz x' = some (k.length, d) := by rw [← hsz]; exact hc'
  split at hk
  · have h0 := aAppendO_ok hT hM.un t ty hs hx'
    unfold aAppendO at h0
    simp only [htd, hc2, hpos, hby] at h0
    refine (h0 hk).to rfl (by simp [lenM_snoc, lenM_un]) (fun w' S' m' i l hB => ?_) (fun i hc => ?_) (fun w' S' m' v hm hv => ?_)
    · simp only [blk_snoc, lenM_un] at hB ⊢
      split
      · rename_i hi; rw [if_pos hi] at hB
        exact BRel.typed hB hsz.symm rfl fun i hi j hj => by rw [hd i hi j (by omega)]; exact Le.refl _
      · rename_i hi; rw [if_neg hi, blk_un] at hB; exact BRel.un.1 hB
    · simp only [blk_snoc, lenM_un] at hc ⊢
      split
      · rename_i hi; rw [if_pos hi] at hc; cases hc
      · rename_i hi; rw [if_neg hi, blk_un, isCells_un] at hc; exact hc
    · have := hv.own_T hm (by rw [blk_snoc, if_pos rfl])
      rw [lenM_un] at this; exact this
  · have h0 := aAppendO_ok hT hM.un t ty hs hx'
    unfold aAppendO at h0
    simp only [htd, hc2, hpos, hby] at h0
    refine (h0 hk).to rfl (by simp [lenM_snoc, lenM_un]) (fun w' S' m' i l hB => ?_) (fun i hc => ?_) (fun w' S' m' v hm hv => ?_)
    · simp only [blk_snoc, lenM_un] at hB ⊢
      split
      · rename_i hi; rw [if_pos hi] at hB
        exact BRel.typed hB hsz.symm rfl fun i hi j hj => by rw [hd i hi j (by omega)]; exact Le.refl _
      · rename_i hi; rw [if_neg hi, blk_un] at hB; exact BRel.un.1 hB
    · simp only [blk_snoc, lenM_un] at hc ⊢
      split
      · rename_i hi; rw [if_pos hi] at hc; cases hc
      · rename_i hi; rw [if_neg hi, blk_un, isCells_un] at hc; exact hc
    · have := hv.own_T hm (by rw [blk_snoc, if_pos rfl])
      rw [lenM_un] at this; exact this
  · rename_i b
    split at hk
    case h_2 => exact (not_bad hk).elim
    rename_i e' u' l hb
    split at hk
    case h_2 => exact (not_bad hk).elim
    rename_i l1 he hcl
    obtain ⟨eu, rfl⟩ := castL_some hcl
    subst eu
    have he' := Nat.eq_of_beq_eq_true he; subst he'
    have hbu : blk (unM M) b = .rows e (szT u') l.length (vw u' l) := by rw [blk_un, hb]; rfl
    have h0 := aAppendO_ok (s := .own b l.length) hT hM.un t ty (hs.T_own hM hb) hx'
    unfold aAppendO at h0
    have hsz' : Nat.beq (szT u') (tyi T e).sz = true := by rw [hsz]; exact Nat.beq_refl _
    simp only [htd, hc2, hpos, hby, hbu, he, hsz'] at h0
    have hk' : AllT [std.ble (std.nmul (std.nadd l.length k.length) (tyi T e).bytes) roomNat] := by
      have e1 : std.nadd l.length k.length = (l ++ k).length := by simp [std]
      rw [e1]; exact hk
    have hlen : lenM (invalMs b (setBlk (unM M) b (.rows e (szT u') (std.nadd l.length k.length) (snocRows l.length (vw u' l) d)))) = lenM M := by rw [lenM_invalMs, lenM_set, lenM_un]
    have hbl : b < lenM M := blk_lt M b (by rw [hb]; simp)
    refine (h0 hk').to rfl ?_ (fun w' S' m' i l2 hB => ?_) (fun i hc => ?_) (fun w' S' m' v hm hv => ?_)
    · rw [hlen, lenM_invalMs, lenM_set]
    · simp only [blk_invalMs, blk_set] at hB ⊢
      by_cases hi : b = i ∧ b < lenM M
      · rw [if_pos hi]; rw [if_pos (by rw [lenM_un]; exact hi)] at hB
        exact BRel.typed hB rfl (by simp [std]) fun i hi j hj => by rw [vw_snoc _ _ _ _ hd _ hi _ hj]; exact Le.refl _
      · rw [if_neg hi]; rw [if_neg (by rw [lenM_un]; exact hi), blk_un, unB_inval] at hB
        exact BRel.un.1 hB
    · simp only [blk_invalMs, blk_set, isCells_inval] at hc ⊢
      by_cases hi : b = i ∧ b < lenM M
      · rw [if_pos (by rw [lenM_un]; exact hi)] at hc; cases hc
      · rw [if_neg hi]; rw [if_neg (by rw [lenM_un]; exact hi), blk_un, isCells_un] at hc; exact hc
    · exact hv.own_T hm (by rw [blk_invalMs, blk_set, if_pos ⟨rfl, by rw [lenM_un]; exact hbl⟩]; rfl)
  · rename_i u' l
    split at hk
    case h_2 => exact (not_bad hk).elim
    rename_i l1 hcl
    obtain ⟨eu, rfl⟩ := castL_some hcl
    subst eu
    have h0 := aAppendO_ok hT hM.un t ty (Le.un _ _ _ _ hs) hx'
    unfold aAppendO at h0
    have hsz' : Nat.beq (szT u') (tyi T e).sz = true := by rw [hsz]; exact Nat.beq_refl _
    simp only [htd, hc2, hpos, hby, hsz'] at h0
    have hk' : AllT [std.ble (std.nmul (std.nadd l.length k.length) (tyi T e).bytes) roomNat] := by
      have e1 : std.nadd l.length k.length = (l ++ k).length := by simp [std]
      rw [e1]; exact hk
    refine (h0 hk').to rfl (lenM_un M).symm (fun w' S' m' i l2 hB => ?_) (fun i hc => ?_) (fun w' S' m' v hm hv => ?_)
    · rw [blk_un] at hB; exact BRel.un.1 hB
    · rw [blk_un, isCells_un] at hc; exact hc
    · exact Le.tsl id rfl (by simp [std]) (fun i hi j hj => by rw [vw_snoc _ _ _ _ hd _ hi _ hj]; exact Le.refl _) _ _ _ _ hv
  · exact (not_bad hk).elim

theorem aAppend_ok (hT : TabOk P T) (hM : MRel base w S m M) (t ty : TypeId) {vs vx : Value} {s x : AV} (hs : Rel w S m vs s) (hx : Rel w S m vx x) (hk : AllT (aAppend std T M t s x).ks) :
    Res base w S m P (aAppend std T M t s x) (Builtin.append_ #[t, t] ty #[vs, vx]) := by
  unfold aAppend at hk ⊢
  split at hk
  case h_2 => exact (not_bad hk).elim
  rename_i e htd
  split at hk
  · split at hk
    · exact aAppendT_ok hT hM t ty e _ htd hs hx hk
    · exact aAppendO_ok hT hM t ty hs hx hk
  · exact aAppendO_ok hT hM t ty hs hx hk

theorem zeroCells_getD {z : Array Value} {n r j : Nat} (hr : r < n) (hj : j < z.size) : (Builtin.zeroCells z n).toList.getD (r * z.size + j) Go.undef = z.getD j Go.undef := by
  have hlt : r * z.size + j < n * z.size := by have := eref_lt (off := j) (k := 1) hr (show j + 1 ≤ z.size by omega); omega
  have hm : (r * z.size + j) % z.size = j := (divmod_row hj).2
  have e : (Builtin.zeroCells z n)[r * z.size + j]? = some z[j] := by
    simp [Builtin.zeroCells, hlt, hm, hj]
  rw [List.getD_eq_getElem?_getD, Array.getElem?_toList, e]
  simp [hj]

theorem aAppendZ_ok (hT : TabOk P T) (hM : MRel base w S m M) (t u ty : TypeId) {vs vx : Value} {s x : AV} (hs : Rel w S m vs s) (hx : Rel w S m vx x) (hk : AllT (aAppendZ std T M t u s x).ks) :
    Res base w S m P (aAppendZ std T M t u s x) (Builtin.append_ #[t, u] ty #[vs, vx]) := by
  unfold aAppendZ at hk ⊢
  split at hk
  case h_2 => exact (not_bad hk).elim
  rename_i e ku kx n htd htu
  obtain ⟨_, _, _, g⟩ := hT.of_d htd (by simp)
  have hd := g.d; rw [htd] at hd
  have := td_slice hd.symm; subst this
  obtain ⟨_, _, _, gu⟩ := hT.of_d htu (by simp)
  have hdu := gu.d; rw [htu] at hdu
  have := td_int hdu.symm; subst this
  split at hk
  case h_2 => exact (not_bad hk).elim
  rename_i h1 h2 h3 h4
  have h2 := Nat.le_of_ble_eq_true h2
  have h3 := Nat.eq_of_beq_eq_true h3
  have h4 := Nat.le_of_ble_eq_true h4
  obtain ⟨_, ie, ze, ge⟩ := hT.of_sz h2
  obtain ⟨z1, z2, z3⟩ := zero_cells (w := w) (S := S) (m := m) ge h1
  have hk' : 0 < n ∧ n.toNat * (tyi T e).bytes ≤ roomNat := by simpa [AllT, std] using hk
  obtain ⟨k1, k3⟩ := hk'
  obtain ⟨ln, rfl⟩ := Int.eq_ofNat_of_zero_le (show 0 ≤ n by omega)
  cases hs; cases hx
  have hroom : ln * (tyi T e).bytes ≤ roomNat := by simpa using k3
  unfold roomNat at hroom
  have hln : ln ≤ 140737488355328 := by have : ln * 1 ≤ ln * (tyi T e).bytes := Nat.mul_le_mul_left _ h4; omega
  have hrun := Lib.run_append_nil_zeros (P := P) w t u ty e ie ze kx ku g.und gu.und ge.info ge.zero ln (by omega) (by have := ge.sz; omega) (by omega) (by rw [← ge.by_]; omega)
  have hcap := grownCap_ge w ln 0 e
  have hcapm := grownCap_le_maxLen w ln 0 e (by unfold maxLen; omega)
  have hzs : ze.cells.size = (tyi T e).sz := by omega
  let arr : Array Value := Builtin.zeroCells ze.cells ln ++ Builtin.zeroCells ze.cells (grownCap w ln 0 e - ln)
  have harr : arr.size = grownCap w ln 0 e * (tyi T e).sz := by
    simp only [arr, Array.size_append, size_zeroCells, hzs, ← Nat.add_mul]
    congr 1; omega
  have hget : ∀ i j, i < ln → j < (tyi T e).sz → arr.getD (i * (tyi T e).sz + j) Go.undef = ze.cells.getD j Go.undef := fun i j hi hj => by
    have hlt : i * (tyi T e).sz + j < ln * (tyi T e).sz := by have := eref_lt (off := j) (k := 1) hi (show j + 1 ≤ (tyi T e).sz by omega); omega
    have := zeroCells_getD (n := ln) hi (show j < ze.cells.size by omega)
    rw [hzs] at this
    simp only [arr, Array.getD_eq_getD_getElem?]
    rw [Array.getElem?_append_left (by rw [size_zeroCells, hzs]; exact hlt)]
    rw [List.getD_eq_getElem?_getD, Array.getElem?_toList] at this
    rw [this]; simp
  let loc : Loc := ⟨w.heap.size, grownCap w ln 0 e, (tyi T e).sz, ln, false, []⟩
  have hMd : MRel base w.drew S m M := hM.drew
  obtain ⟨ht, hm⟩ := hMd.alloc (.cells arr e) loc (.rows e (tyi T e).sz ln fun _ j => nth (tyi T e).z j) rfl
    ⟨rfl, rfl, hcap, hcapm, arr, Go.heap_alloc_new w.drew _, harr, fun i hi j hj => by
      rw [hget i j hi hj]
      refine ⟨z2 j (by omega), ?_⟩
      have hr := rel_ofVals (w := w.drew.alloc (.cells arr e)) (S := S) (m := []) ze.cells j (by omega)
      rw [← ge.z] at hr; exact hr⟩
  have e1 : std.toNat (ln : Int) = ln := rfl
  rw [e1]
  refine Res.zRows (ks := []) ?_
  exact ⟨_, _, _, _, hrun, ht.of_drew, hm, .own _ _ _ loc (by rw [← hM.len]; simp) (Nat.le_refl _) ⟨hcap, hcapm⟩⟩

theorem outside_cell {a : AV} (h : outside a = true) : isCell a = true := by cases a <;> first | rfl | simp [outside] at h
theorem allOutside_cells {l : List AV} (h : allOutside l = true) : allCells l = true := by
  induction l with
  | nil => rfl
  | cons a l ih =>
    simp only [allOutside] at h
    split at h
    · rename_i h1; simp only [allCells, outside_cell h1, ih h]
    · simp at h
theorem aClear_ok0 (hT : TabOk P T) (hM : MRel base w S m M) (t ty : TypeId) {v : Value} {a : AV} (hnt : ∀ b lo n e u l, a = .tail b lo n → blk M b = .trows e u l → False) (ha : Rel w S m v a) (hk : AllT (aClear T M t a).ks) : Res base w S m P (aClear T M t a) (Builtin.clear_ #[t] ty #[v]) := by
  unfold aClear at hk ⊢
  split at hk
  case h_2 => exact (not_bad hk).elim
  rename_i e htd
  obtain ⟨_, _, _, g⟩ := hT.of_d htd (by simp)
  have hd := g.d; rw [htd] at hd
  have := td_slice hd.symm; subst this
  split at hk
  case h_2 => exact (not_bad hk).elim
  rename_i b lo n h1 h2 h3
  have h1 := Nat.le_of_ble_eq_true h1
  have h3 := Nat.eq_of_beq_eq_true h3
  obtain ⟨_, ie, ze, ge⟩ := hT.of_sz h1
  have hzc : allCells (tyi T e).z = true := allOutside_cells h2
  obtain ⟨z1, z2, z3⟩ := zero_cells (w := w) (S := S) (m := m) ge hzc
  split at hk
  case h_3 => exact (not_bad hk).elim
  case h_2 =>
    rename_i e' u l hb
    exact (hnt b lo n e' u l rfl hb).elim
  rename_i e' sz k c hb
  split at hk
  case h_2 => exact (not_bad hk).elim
  rename_i hsz
  have hsz := Nat.eq_of_beq_eq_true hsz
  have hvt : Rel w S m (.tuple #[]) (.tup []) := .tup _ _ _ rfl fun i hi => absurd hi (Nat.not_lt_zero i)
  cases ha with
  | tail _ aa _ _ _ cp hn h =>
    by_cases hn0 : n = 0
    · subst hn0
      have e0 : clearRows lo 0 (tyi T e).z c = c := by
        funext i j; unfold clearRows; rw [if_neg (by omega)]
      have e1 : setBlk M b (.rows e' sz k c) = M := by rw [← hb]; exact setBlk_self M b
      simp only [hb, hsz, Nat.beq_refl, e0] at *
      rw [e1]
      refine .val hM ?_ hvt
      cases aa <;> simp [Builtin.clear_, run_underlying g.und]
    · obtain ⟨l, h0, rfl, hle⟩ := h (by omega)
      have hB := bk_of hM h0
      rw [hb] at hB
      obtain ⟨rfl, rfl, k3, k4, vs, k5, k6, k7⟩ := hB
      have hl := hM.lt _ _ h0
      have hzs : ze.cells.size = l.sz := by rw [z1, h3, hsz]
      have hlen : (Builtin.zeroCells ze.cells n).toList.length = n * l.sz := by simp [size_zeroCells, hzs]
      have hfit : lo * l.sz + n * l.sz ≤ vs.size := by
        rw [k6, ← Nat.add_mul]; exact Nat.mul_le_mul_right _ (by omega)
      have h1c : ∀ v ∈ (Builtin.zeroCells ze.cells n).toList, v.oneCell' = true := fun v hv => by
        simp only [Builtin.zeroCells, Array.toList_map, List.mem_map] at hv
        obtain ⟨i, hi, rfl⟩ := hv
        have hi' : i < n * ze.cells.size := by simpa using hi
        have hpos : 0 < ze.cells.size := by rw [hzs, hsz]; omega
        have hm := Nat.mod_lt i hpos
        have := z2 (i % ze.cells.size) (by rw [← z1]; exact hm)
        simpa [hm] using this
      have hst := run_storeRow P l.g (lo * l.sz) e' (Builtin.zeroCells ze.cells n).toList 0 vs w (Loc.fzOk k6) k5 (by rw [hlen]; simpa using hfit) h1c
      simp only [Nat.add_zero] at hst
      change _ = Result.ok _ (w.setRow l.g (seg vs (lo * l.sz) (Builtin.zeroCells ze.cells n).toList)) at hst
      have hseg : lo * l.sz + (Builtin.zeroCells ze.cells n).toList.length ≤ vs.size := by rw [hlen]; exact hfit
      have hfar : ∀ x, x < w.heap.size → x ≠ l.g → (w.setRow l.g (seg vs (lo * l.sz) (Builtin.zeroCells ze.cells n).toList)).heap[x]? = w.heap[x]? := fun x _ hne => setRow_other w l.g x _ hne
      have hS : ∀ x, S x → (w.setRow l.g (seg vs (lo * l.sz) (Builtin.zeroCells ze.cells n).toList)).heap[x]? = w.heap[x]? := fun x hx => hfar x (hM.sb x hx) (fun e => hl.2.2 (e ▸ hx))
      obtain ⟨ht, hm⟩ := hM.turn b l h0 (.rows e' l.sz l.n (clearRows lo n (tyi T e).z c)) (fun h => by rw [hb] at h; cases h) (setRow_below l.g _ hl.1) hfar
        ⟨rfl, rfl, k3, k4, _, setRow_heap w l.g vs _ e' _ k5, by rw [seg_size _ _ _ hseg]; exact k6, fun i hi j hj => by
          rw [seg_getD _ _ _ hseg, hlen]
          unfold clearRows
          by_cases hin : lo ≤ i ∧ i < lo + n
          · obtain ⟨r, rfl⟩ : ∃ r, i = lo + r := ⟨i - lo, by omega⟩
            have hr : r < n := by omega
            have := eref_lt (off := j) (k := 1) hr (show j + 1 ≤ l.sz by omega)
            have hj' : j < ze.cells.size := by rw [hzs]; exact hj
            have hz := zeroCells_getD hr hj'
            rw [hzs] at hz
            have hj2 : j < lenA (tyi T e).z := by rw [← z1]; exact hj'
            rw [if_pos hin, Nat.add_mul, if_pos (by omega), show lo * l.sz + r * l.sz + j - lo * l.sz = r * l.sz + j from by omega, hz]
            exact ⟨z2 _ hj2, ((z3 _ hj2).out (allOutside_nth h2 hj2) []).mono (fun _ h => h) hS _ (fun _ _ h => h)⟩
          · have hout : ¬ (lo * l.sz ≤ i * l.sz + j ∧ i * l.sz + j < lo * l.sz + n * l.sz) := by
              rintro ⟨q1, q2⟩
              apply hin
              rw [← Nat.add_mul] at q2
              constructor
              · apply Nat.le_of_not_lt; intro hlt
                have : (i + 1) * l.sz ≤ lo * l.sz := Nat.mul_le_mul_right _ hlt
                rw [Nat.add_mul] at this; omega
              · apply Nat.lt_of_not_le; intro hge
                have : (lo + n) * l.sz ≤ i * l.sz := Nat.mul_le_mul_right _ hge
                omega
            rw [if_neg hin, if_neg hout]
            have := k7 i hi j hj
            exact ⟨this.1, this.2.mono (fun _ h => h) hS _ (fun _ _ h => h)⟩⟩
      refine ⟨.tuple #[], _, _, _, ?_, ht, hm, .tup _ _ _ rfl fun i hi => absurd hi (Nat.not_lt_zero i)⟩
      cases n with
      | zero => omega
      | succ n => simp [Builtin.clear_, run_underlying g.und, zeroValue, typeInfo, ge.info, ge.zero, hst]

theorem vw_clear (u : Ty) (lo n : Nat) (x : El u) (l : List (El u)) (i : Nat) (hi : i < l.length) (j : Nat) : vw u (clearL lo n x l) i j = if lo ≤ i ∧ i < lo + n then nth (cellsT u x) j else vw u l i j := by
  unfold vw rowT clearL
  simp only [List.getD, List.getElem?_mapIdx]
  by_cases h : lo ≤ i ∧ i < lo + n
  · simp [hi, h]
  · simp [hi, h]

theorem aClear_ok (hT : TabOk P T) (hM : MRel base w S m M) (t ty : TypeId) {v : Value} {a : AV} (ha : Rel w S m v a) (hk : AllT (aClear T M t a).ks) : Res base w S m P (aClear T M t a) (Builtin.clear_ #[t] ty #[v]) := by
  by_cases hty : ∃ b lo n e u l, a = .tail b lo n ∧ blk M b = .trows e u l
  · obtain ⟨b, lo, n, e', u, l, rfl, hb⟩ := hty
    have hbu : blk (unM M) b = .rows e' (szT u) l.length (vw u l) := by rw [blk_un, hb]; rfl
    have h0 := aClear_ok0 hT hM.un t ty (fun b' lo' n' e u l h1 h2 => by rw [blk_un] at h2; cases hB : blk M b' <;> rw [hB] at h2 <;> cases h2) ha
    unfold aClear at h0 hk ⊢
    cases hd : (tyi T t).d <;> simp only [hd] at h0 hk ⊢ <;> try exact (not_bad hk).elim
    rename_i e
    cases h1 : Nat.ble 1 (tyi T e).sz <;> cases h2 : allOutside (tyi T e).z <;> cases h3 : Nat.beq (lenA (tyi T e).z) (tyi T e).sz <;> simp only [h1, h2, h3, hb, hbu] at h0 hk ⊢ <;> try exact (not_bad hk).elim
    cases h4 : Nat.beq (szT u) (tyi T e).sz <;> cases h5 : rdE u (tyi T e).z <;> simp only [h4, h5] at h0 hk ⊢ <;> try exact (not_bad hk).elim
    rename_i x
    obtain ⟨r1, r2⟩ := rdE_ok h5
    refine (h0 trivial).to rfl (by simp [lenM_set, lenM_un]) (fun w' S' m' i l2 hB => ?_) (fun i hc => ?_) (fun w' S' m' v hm hv => hv)
    · simp only [blk_set] at hB ⊢
      by_cases hi : b = i ∧ b < lenM M
      · rw [if_pos hi]; rw [if_pos (by rw [lenM_un]; exact hi)] at hB
        refine BRel.typed hB rfl (by simp [clearL]) fun i hi j hj => ?_
        rw [vw_clear _ _ _ _ _ _ hi]
        unfold clearRows
        split
        · exact r2 j hj
        · exact Le.refl _
      · rw [if_neg hi]; rw [if_neg (by rw [lenM_un]; exact hi), blk_un] at hB
        exact BRel.un.1 hB
    · simp only [blk_set] at hc ⊢
      by_cases hi : b = i ∧ b < lenM M
      · rw [if_pos (by rw [lenM_un]; exact hi)] at hc; cases hc
      · rw [if_neg hi]; rw [if_neg (by rw [lenM_un]; exact hi), blk_un, isCells_un] at hc; exact hc
  · exact aClear_ok0 hT hM t ty (fun b lo n e u l h1 h2 => hty ⟨b, lo, n, e, u, l, h1, h2⟩) ha hk


/-! Strings and bytes. -/
theorem isByte_eq {d : TD} (h : isByte d = true) : d = .int .u8 := by
  cases d with
  | int k => cases k <;> first | rfl | cases h
  | _ => cases h
theorem bytesRow_size (s : List UInt8) (cap : Nat) (h : s.length ≤ cap) : (bytesRow (bytes s) cap).size = cap := by
  simp [bytesRow, bytes, ByteArray.size]; omega
theorem bytesRow_get (s : List UInt8) (cap i : Nat) (h : i < s.length) : (bytesRow (bytes s) cap).getD i Go.undef = .int .u8 ((s.getD i 0).toNat : Int) := by
  have : i < (s.map fun b => Value.int .u8 (b.toNat : Int)).length := by simpa using h
  simp [bytesRow, bytes, Array.getD_eq_getD_getElem?, Array.getElem?_append, h, List.getD]
theorem wf_u8 (b : UInt8) : (Lit.int .u8 (b.toNat : Int)).wf = true := by
  have h := b.toNat_lt
  refine (wf_iff _ _).2 ?_
  simp [IntKind.min, IntKind.max, IntKind.signed, IntKind.bits]
  omega
theorem strB_get {l : List Int} {j : Nat} (hj : j < l.length) (hw : ∀ x ∈ l, (Lit.int .u8 x).wf = true) : (((strB l)[j]'(by simpa [strB] using hj)).toNat : Int) = l[j] := by
  have h := (wf_iff _ _).1 (hw _ (List.getElem_mem hj))
  simp [IntKind.min, IntKind.max, IntKind.signed, IntKind.bits] at h
  simp only [strB, List.getElem_map]
  have h2 : l[j].toNat < 256 := by omega
  rw [UInt8.toNat_ofNat']
  omega

theorem contentT_le (hM : MRel base w S m M) {u : Ty} {k : List (El u)} {x : AV} {vx : Value} (hx : Rel w S m vx x) (h : contentT M u x = some k) : k.length ≤ maxLen := by
  unfold contentT at h
  split at h
  · rename_i u' l g
    obtain ⟨e, rfl⟩ := castL_some h
    subst e
    have h1 : l.length ≤ maxLen := by
      cases hx with
      | tsl _ _ _ _ _ h => obtain ⟨_, _, _, h1, h2, _⟩ := h.slice_inv; omega
    exact h1
  · cases h; exact Nat.zero_le _
  · cases h; exact Nat.zero_le _
  · split at h
    · rename_i b e u' l hb
      obtain ⟨e, rfl⟩ := castL_some h
      subst e
      have h1 : l.length ≤ maxLen := by
        cases hx with
        | ownT _ _ l0 h0 hc => have hB := bk_of hM h0; rw [hb] at hB; obtain ⟨_, q1, q2, q3, _⟩ := hB; omega
        | ownT0 _ _ _ h0 => have hB := hM.bk _ _ h0; rw [hb] at hB; have hB : l.length = 0 := hB; omega
      exact h1
    · cases h
  · split at h
    · rename_i b lo n _ e u' l hb
      obtain ⟨e, rfl⟩ := castL_some h
      subst e
      have h1 : ((l.drop lo).take n).length ≤ maxLen := by
        cases hx with
        | tail _ _ _ _ _ cp hn h0 => rw [List.length_take]; omega
      exact h1
    · cases h
  · split at h
    · rename_i b n _ e u' l hb
      obtain ⟨e, rfl⟩ := castL_some h
      subst e
      have h1 : (l.take n).length ≤ maxLen := by
        cases hx with
        | own _ _ _ l0 h0 hn hc => rw [List.length_take]; omega
        | own0 => simp
      exact h1
    · cases h
  · cases h

theorem aConvB0_ok (hT : TabOk P T) (hM : MRel base w S m M) (s d : TypeId) {v : Value} {a : AV} (ha : Rel w S m v a) (hk : AllT (aConvB0 std T M s d a).ks) : Res base w S m P (aConvB0 std T M s d a) (convert s d v) := by
  unfold aConvB0 at hk ⊢
  split at hk
  · rename_i e hs hd
    split at hk
    case h_2 => exact (not_bad hk).elim
    rename_i x h1 h2
    obtain ⟨_, _, _, f⟩ := hT.of_d hs (by simp)
    obtain ⟨_, _, _, g⟩ := hT.of_d hd (by simp)
    have := f.d; rw [hs] at this; have := td_str this.symm; subst this
    have := g.d; rw [hd] at this; have := td_slice this.symm; subst this
    have h1 := isByte_eq h1
    obtain ⟨_, _, _, q⟩ := hT.of_d h1 (by simp)
    have := q.d; rw [h1] at this; have := td_int this.symm; subst this
    cases ha with
    | str _ _ hlen =>
      have hrun := run_bytes_of_string w s d e (bytes x) f.und g.und q.und
      have hge : x.length ≤ grownCap w x.length 0 e := grownCap_ge w x.length 0 e
      have hle : grownCap w x.length 0 e ≤ maxLen := grownCap_le_maxLen w x.length 0 e hlen
      have hsz : (bytes x).size = x.length := by simp [bytes, ByteArray.size]
      rw [hsz] at hrun
      have hrs := bytesRow_size x _ hge
      rw [hrs] at hrun
      have hMd := hM.drew
      obtain ⟨ht, hm⟩ := hMd.alloc (.cells (bytesRow (bytes x) (grownCap w x.length 0 e)) e (grownCap w x.length 0 e, grownCap w x.length 0 e + 1)) ⟨w.heap.size, grownCap w x.length 0 e, 1, x.length, true, []⟩ (.trows e (.int .u8) (strI x)) rfl
        ⟨rfl, by simp [strI], by simpa [strI] using hge, hle, _, by
          have := Go.heap_alloc_new w.drew (.cells (bytesRow (bytes x) (grownCap w x.length 0 e)) e (grownCap w x.length 0 e, grownCap w x.length 0 e + 1))
          simpa [Loc.fz] using this, by rw [hrs]; simp [szT], fun i hi j hj => by
          have hj : j = 0 := by simp [szT] at hj; omega
          subst hj
          have hi : i < x.length := by simpa [strI] using hi
          rw [show i * szT (.int .u8) + 0 = i from by simp [szT], bytesRow_get x _ i hi]
          refine ⟨rfl, ?_⟩
          have e1 : vw (.int .u8) (strI x) i 0 = .int .u8 ((x.getD i 0).toNat : Int) := by
            show AV.int .u8 ((strI x).getD i 0) = _
            simp [strI, List.getD, hi]
          rw [e1]
          exact .int _ _ _ (wf_u8 _)⟩
      refine ⟨_, _, _, _, hrun, ht.of_drew, hm, ?_⟩
      have := Rel.ownT (w := w.drew.alloc (.cells (bytesRow (bytes x) (grownCap w x.length 0 e)) e (grownCap w x.length 0 e, grownCap w x.length 0 e + 1))) (S := S) (m ++ [some ⟨w.heap.size, grownCap w x.length 0 e, 1, x.length, true, []⟩]) (lenM M) ⟨w.heap.size, grownCap w x.length 0 e, 1, x.length, true, []⟩ (by rw [← hM.len]; simp) ⟨hge, hle⟩
      exact this
  · rename_i e hs hd
    split at hk
    case h_2 => exact (not_bad hk).elim
    rename_i l h1 h2
    obtain ⟨_, _, _, f⟩ := hT.of_d hs (by simp)
    obtain ⟨_, _, _, g⟩ := hT.of_d hd (by simp)
    have := f.d; rw [hs] at this; have := td_slice this.symm; subst this
    have := g.d; rw [hd] at this; have := td_str this.symm; subst this
    have h1 := isByte_eq h1
    obtain ⟨_, _, _, q⟩ := hT.of_d h1 (by simp)
    have := q.d; rw [h1] at this; have := td_int this.symm; subst this
    obtain ⟨x', c, r1, r2, r3⟩ := contentT_ok hM ha h2
    obtain ⟨⟨a0, c0, rfl⟩, r5⟩ := content_ok hM.un r1 r2
    have hlm : l.length ≤ maxLen := contentT_le hM ha h2
    by_cases hl : 0 < l.length
    · obtain ⟨b, o, cp, ff, e1, q1, q2⟩ := r5 hl
      injection e1 with e1 e2 e3; subst e1 e3
      have hw : ∀ i (hi : i < l.length), w.cell? ⟨b, o + i, none⟩ = some (.int .u8 l[i]) ∧ (Lit.int .u8 l[i]).wf = true := fun i hi => by
        have p1 := (q1 i hi 0 (by simp [szT])).1
        have p2 := q2 i hi 0 (by simp [szT])
        rw [r3 i hi 0 (by simp [szT])] at p2
        have e1 : vw (.int .u8) l i 0 = .int .u8 l[i] := by
          show AV.int .u8 (l.getD i 0) = _
          simp [List.getD, hi]
        rw [e1] at p2
        rw [show o + i * szT (.int .u8) + 0 = o + i from by simp [szT]] at p1
        generalize ff i 0 = vv at p1 p2
        cases p2 with
        | int _ _ _ hwf => exact ⟨p1, hwf⟩
      refine .val hM ?_ (.str _ _ (by simpa [strB] using hlm))
      have hc : ∀ j (hj : j < (strB l).length), w.cell? ((⟨b, o, none⟩ : Addr).add j) = some (.int .u8 ((strB l)[j].toNat : Int)) := fun j hj => by
        have hj' : j < l.length := by simpa [strB] using hj
        rw [strB_get hj' (fun x hx => by obtain ⟨i, hi, rfl⟩ := List.getElem_of_mem hx; exact (hw i hi).2)]
        have : ((⟨b, o, none⟩ : Addr).add j) = ⟨b, o + j, none⟩ := by unfold Addr.add; split <;> simp_all
        rw [this]; exact (hw j hj').1
      have := run_convert_bytes_back w s d e ⟨b, o, none⟩ c0 (strB l) f.und q.und g.und hc
      rw [show (strB l).length = l.length from by simp [strB]] at this
      exact this
    · have : l = [] := List.eq_nil_of_length_eq_zero (by omega)
      subst this
      refine .val hM (v := .string (bytes [])) ?_ (.str _ _ (by simp))
      cases a0 with
      | none => exact (run_convert_bytes_string w s d e none 0 c0 f.und q.und g.und).trans rfl
      | some b => exact run_convert_bytes_back w s d e b c0 [] f.und q.und g.und (fun j hj => absurd hj (Nat.not_lt_zero _))
  · exact aConv_ok hT hM s d ha hk

theorem addz (g j : Nat) : ((⟨g, 0, none⟩ : Addr).add j) = ⟨g, j, none⟩ := by unfold Addr.add; split <;> simp_all
theorem aConvA_ok (hT : TabOk P T) (hM : MRel base w S m M) (s d : TypeId) {v : Value} {b n : Nat} (ha : Rel w S m v (.asl b n)) (hk : AllT (aConvA std T M s d b n).ks) : Res base w S m P (aConvA std T M s d b n) (convert s d v) := by
  unfold aConvA at hk ⊢
  split at hk
  case h_2 => exact (not_bad hk).elim
  rename_i e hs hd
  split at hk
  case h_2 => exact (not_bad hk).elim
  rename_i e' u x h1 hb
  split at hk
  case h_2 => exact (not_bad hk).elim
  rename_i l hl
  obtain ⟨_, _, _, f⟩ := hT.of_d hs (by simp)
  obtain ⟨_, _, _, g⟩ := hT.of_d hd (by simp)
  have := f.d; rw [hs] at this; have := td_slice this.symm; subst this
  have := g.d; rw [hd] at this; have := td_str this.symm; subst this
  have h1 := isByte_eq h1
  obtain ⟨_, _, _, q⟩ := hT.of_d h1 (by simp)
  have := q.d; rw [h1] at this; have := td_int this.symm; subst this
  obtain ⟨rfl, e1⟩ := castL_some hl
  have e1 : l = x := e1
  subst e1
  have hn : l.length = n := by simpa [AllT, std] using hk
  cases ha with
  | asl _ _ _ lo h0 hm =>
    have hB := bk_of hM h0
    rw [hb] at hB
    obtain ⟨vs, k1, k2, k3⟩ := hB
    have hw : ∀ i (hi : i < l.length), w.cell? ⟨lo.g, i, none⟩ = some (.int .u8 l[i]) ∧ (Lit.int .u8 l[i]).wf = true := fun i hi => by
      have p2 := (k3 i hi).2
      have p1 := blk_cell k1 (o := i) (by omega)
      rw [show vw (.int .u8) l i 0 = .int .u8 l[i] from by show AV.int .u8 (l.getD i 0) = _; simp [List.getD, hi]] at p2
      generalize vs.getD i Go.undef = vv at p1 p2
      cases p2 with
      | int _ _ _ hwf => exact ⟨p1, hwf⟩
    refine .val hM ?_ (.str _ _ (by simp [strB]; omega))
    have hc : ∀ j (hj : j < (strB l).length), w.cell? ((⟨lo.g, 0, none⟩ : Addr).add j) = some (.int .u8 ((strB l)[j].toNat : Int)) := fun j hj => by
      have hj' : j < l.length := by simpa [strB] using hj
      rw [strB_get hj' (fun y hy => by obtain ⟨i, hi, rfl⟩ := List.getElem_of_mem hy; exact (hw i hi).2)]
      rw [addz]; exact (hw j hj').1
    have := run_convert_bytes_back w s d e ⟨lo.g, 0, none⟩ n (strB l) f.und q.und g.und hc
    rw [show (strB l).length = n from by simp [strB]; exact hn] at this
    exact this

theorem aConvB_ok (hT : TabOk P T) (hM : MRel base w S m M) (s d : TypeId) {v : Value} {a : AV} (ha : Rel w S m v a) (hk : AllT (aConvB std T M s d a).ks) : Res base w S m P (aConvB std T M s d a) (convert s d v) := by
  unfold aConvB at hk ⊢
  split at hk
  · exact aConvA_ok hT hM s d ha hk
  · exact aConvB0_ok hT hM s d ha hk

/-- 'append' of a string within the room of a row. -/
theorem run_append_in_str {w : World} {t u ty e : TypeId} {i : TypeInfo} (ht : P.underlying t = some (.slice e)) (hu : P.underlying u = some .string) (hi : P.info? e = some i) (hs1 : i.size = 1) {g n cap : Nat} {vs : Array Value} {fz : Nat × Nat} (hf : FzOk fz vs.size) (hg : w.heap[g]? = some (.cells vs e fz))
    {s : ByteArray} (hroom : n + s.size ≤ cap) (hfit : n + s.size ≤ vs.size) :
    (Builtin.append_ #[t, u] ty #[.slice (some ⟨g, 0, none⟩) n cap, .string s]).run P w = .ok (.slice (some ⟨g, 0, none⟩) (n + s.size) cap) (w.setRow g (seg vs n (Lib.strCells s))) := by
  have h2 := Lib.run_firstCells_string (P := P) w 1 s
  have h3 := run_storeRow P g n e (Lib.strCells s) 0 vs w hf hg (by simpa [Lib.strCells_length] using hfit) (Lib.strCells_oneCell s)
  rw [Nat.add_zero] at h3
  simp [Builtin.append_, run_underlying ht, run_underlying hu, sizeOf, typeInfo, hi, hs1, Builtin.lenOf, hroom, h2, Addr.add_lit, h3, seg]
theorem vw_u8 (l : List Int) (i : Nat) : vw (.int .u8) l i 0 = .int .u8 (l.getD i 0) := rfl
/-- Rows of bytes, told by their numbers. -/
def ByteRow (vs : Array Value) (l : List Int) : Prop := ∀ i, i < l.length → vs.getD i Go.undef = .int .u8 (l.getD i 0) ∧ (Lit.int .u8 (l.getD i 0)).wf = true
theorem byteRow_of {vs : Array Value} {l : List Int} (h : ∀ i, i < l.length → ∀ j, j < szT (.int .u8) → (vs.getD (i * szT (.int .u8) + j) Go.undef).oneCell' = true ∧ Rel w S [] (vs.getD (i * szT (.int .u8) + j) Go.undef) (vw (.int .u8) l i j)) : ByteRow vs l := by
  intro i hi
  have h := (h i hi 0 (by simp [szT])).2
  rw [show i * szT (.int .u8) + 0 = i from by simp [szT], vw_u8] at h
  generalize vs.getD i Go.undef = v at h ⊢
  cases h with
  | int _ _ _ hw => exact ⟨rfl, hw⟩
theorem ByteRow.rows {vs : Array Value} {l : List Int} (h : ByteRow vs l) (w : World) (S : Nat → Prop) : ∀ i, i < l.length → ∀ j, j < szT (.int .u8) → (vs.getD (i * szT (.int .u8) + j) Go.undef).oneCell' = true ∧ Rel w S [] (vs.getD (i * szT (.int .u8) + j) Go.undef) (vw (.int .u8) l i j) := by
  intro i hi j hj
  have hj : j = 0 := by simp [szT] at hj; omega
  subst hj
  rw [show i * szT (.int .u8) + 0 = i from by simp [szT], vw_u8, (h i hi).1]
  exact ⟨rfl, .int _ _ _ (h i hi).2⟩
theorem strCells_get (x : List UInt8) (i : Nat) (hi : i < x.length) : (Lib.strCells (bytes x)).getD i Go.undef = .int .u8 ((x.getD i 0).toNat : Int) := by
  simp [Lib.strCells, bytes, List.getD, hi]
theorem strI_get (x : List UInt8) (i : Nat) (hi : i < x.length) : (strI x).getD i 0 = ((x.getD i 0).toNat : Int) := by simp [strI, List.getD, hi]
theorem strI_len (x : List UInt8) : (strI x).length = x.length := by simp [strI]
theorem getD_app {l k : List Int} (i : Nat) : (l ++ k).getD i 0 = if i < l.length then l.getD i 0 else k.getD (i - l.length) 0 := by
  simp only [List.getD, List.getElem?_append]; split <;> rfl
theorem byteRow_app {vs vs' : Array Value} {l : List Int} {x : List UInt8} (h1 : ∀ i, i < l.length → vs'.getD i Go.undef = vs.getD i Go.undef) (h : ByteRow vs l) (h2 : ∀ i, i < x.length → vs'.getD (l.length + i) Go.undef = (Lib.strCells (bytes x)).getD i Go.undef) : ByteRow vs' (l ++ strI x) := by
  intro i hi
  rw [getD_app]
  by_cases hl : i < l.length
  · rw [if_pos hl, h1 i hl]; exact h i hl
  · rw [if_neg hl]
    have hi' : i - l.length < x.length := by rw [List.length_append, strI_len] at hi; omega
    have := h2 (i - l.length) hi'
    rw [show l.length + (i - l.length) = i from by omega, strCells_get _ _ hi'] at this
    rw [this, strI_get _ _ hi']
    exact ⟨rfl, wf_u8 _⟩

theorem cpCells_ok (s : List UInt8) : ∀ {cs cs' : List AV} {j : Nat}, cpCells s j cs = some cs' → lenA cs' = lenA cs ∧ ∀ i, i < lenA cs → ∃ x, nth cs i = .int .u8 x ∧ nth cs' i = .int .u8 (cpB s (j + i) x) := by
  intro cs
  induction cs with
  | nil => intro cs' j h; cases h; exact ⟨rfl, fun i hi => absurd hi (Nat.not_lt_zero _)⟩
  | cons c l ih =>
    intro cs' j h
    cases c with
    | int k x =>
      cases k with
      | u8 =>
        simp only [cpCells] at h
        cases hr : cpCells s (j + 1) l with
        | none => rw [hr] at h; cases h
        | some r =>
          rw [hr] at h
          cases h
          obtain ⟨k1, k2⟩ := ih hr
          refine ⟨by simp only [lenA]; rw [k1], fun i hi => ?_⟩
          cases i with
          | zero => exact ⟨x, rfl, rfl⟩
          | succ i =>
            obtain ⟨y, q1, q2⟩ := k2 i (by simp only [lenA] at hi; omega)
            exact ⟨y, q1, by rw [show j + (i + 1) = j + 1 + i from by omega]; exact q2⟩
      | _ => simp [cpCells] at h
    | _ => simp [cpCells] at h

theorem run_copy_str (w : World) (dT sT ty elem : TypeId) (g n cap : Nat) (x : List UInt8) (cur : Array Value) (t : TypeId) (hu : P.underlying dT = some (.slice elem)) (hs : (P.info? elem).map (·.size) = some 1)
    (hg : w.heap[g]? = some (.cells cur t (0, 0))) (hn : cur.size = n) :
    (Builtin.copy_ #[dT, sT] ty #[.slice (some ⟨g, 0, none⟩) n cap, .string (bytes x)]).run P w =
      .ok (goInt (Nat.min x.length n)) (w.setRow g (Lib.strCells (bytes (x.take n)) ++ cur.toList.drop (Nat.min x.length n)).toArray) := by
  have hlen : (Lib.strCells (bytes (x.take n))).length = Nat.min x.length n := by rw [Lib.strCells_length, bytes_size, List.length_take, Nat.min_comm]
  have hc : ((bytes x).extract 0 (Nat.min x.length n)).data.map (fun b => Value.int .u8 b.toNat) = (Lib.strCells (bytes (x.take n))).toArray := by
    apply Array.ext'
    have : (bytes x).extract 0 (Nat.min x.length n) = bytes (x.take n) := by
      rw [extract_bytes]
      congr 1
      rw [List.drop_zero, Nat.sub_zero]
      rcases Nat.le_total x.length n with h | h
      · rw [show Nat.min x.length n = x.length from Nat.min_eq_left h, List.take_length, List.take_of_length_le h]
      · rw [show Nat.min x.length n = n from Nat.min_eq_right h]
    rw [this]
    simp [Lib.strCells]
  have hf : (Builtin.firstCells 1 (Nat.min x.length n) (.string (bytes x))).run P w = .ok (Lib.strCells (bytes (x.take n))).toArray w := by simp only [Builtin.firstCells]; rw [hc]; rfl
  have hst := run_storeCells_at P g 0 t (Lib.strCells (bytes (x.take n))) 0 cur w hg (by rw [hlen, hn, Nat.add_zero, Nat.zero_add]; exact Nat.min_le_right _ _) (Lib.strCells_oneCell _)
  rw [hlen] at hst
  simp only [Nat.add_zero, List.take_zero, List.nil_append, Nat.zero_add] at hst
  cases hq : P.info? elem with
  | none => simp [hq] at hs
  | some i =>
    have hi : i.size = 1 := by simpa [hq] using hs
    simp [Builtin.copy_, run_underlying hu, Builtin.lenOf, sizeOf, typeInfo, hq, hi, bytes_size, hf, hst]

theorem aCopy_ok (hT : TabOk P T) (hM : MRel base w S m M) (t u ty : TypeId) {vd vs : Value} {d s : AV} (hd : Rel w S m vd d) (hs : Rel w S m vs s) (hk : AllT (aCopy std T M t u d s).ks) :
    Res base w S m P (aCopy std T M t u d s) (Builtin.copy_ #[t, u] ty #[vd, vs]) := by
  unfold aCopy at hk ⊢
  split at hk
  case h_2 => exact (not_bad hk).elim
  rename_i e b n x htd hud
  split at hk
  case h_2 => exact (not_bad hk).elim
  rename_i e' cs h1 h2 hb
  split at hk
  case h_2 => exact (not_bad hk).elim
  rename_i cs' h3 h4
  obtain ⟨_, _, _, f⟩ := hT.of_d htd (by simp)
  have := f.d; rw [htd] at this; have := td_slice this.symm; subst this
  have h1 := isByte_eq h1
  obtain ⟨_, ie, _, q⟩ := hT.of_d h1 (by simp)
  have h2 := Nat.eq_of_beq_eq_true h2
  have h3 := Nat.eq_of_beq_eq_true h3
  obtain ⟨k1, k2⟩ := cpCells_ok x h4
  cases hd with
  | asl _ _ _ l h0 hm =>
    cases hs with
    | str _ _ hx =>
      have hB := bk_of hM h0
      rw [hb] at hB
      obtain ⟨cur, p1, p2, p3, p4⟩ := hB
      have hcur : cur.size = n := by omega
      have hrun := run_copy_str w t u ty e l.g n n x cur e' f.und (by rw [q.info]; simpa using q.sz.symm.trans h2) p1 hcur
      have hl := hM.lt _ _ h0
      have hst : ∀ g, g < w.heap.size → g ≠ l.g → (w.setRow l.g (Lib.strCells (bytes (x.take n)) ++ cur.toList.drop (Nat.min x.length n)).toArray).heap[g]? = w.heap[g]? := fun g _ hne => setRow_other w l.g g _ hne
      have hlen : (Lib.strCells (bytes (x.take n))).length = Nat.min x.length n := by rw [Lib.strCells_length, bytes_size, List.length_take, Nat.min_comm]
      have hget : ∀ i, i < n → (Lib.strCells (bytes (x.take n)) ++ cur.toList.drop (Nat.min x.length n)).toArray.getD i Go.undef = if i < x.length then .int .u8 ((x.getD i 0).toNat : Int) else cur.getD i Go.undef := fun i hi => by
        by_cases hx : i < x.length
        · rw [if_pos hx]
          have hi' : i < (x.take n).length := by rw [List.length_take]; omega
          have := strCells_get (x.take n) i hi'
          have e2 : (x.take n).getD i 0 = x.getD i 0 := by simp [List.getD, hi]
          rw [e2] at this
          rw [← this]
          have hi2 : i < (Lib.strCells (bytes (x.take n))).length := by rw [hlen]; exact Nat.lt_min.2 ⟨hx, hi⟩
          simp [List.getD, Array.getD_eq_getD_getElem?, List.getElem?_append_left hi2]
        · rw [if_neg hx]
          have e3 : Nat.min x.length n = x.length := Nat.min_eq_left (by omega)
          rw [e3] at hlen ⊢
          have : i - x.length + x.length = i := by omega
          simp only [Array.getD_eq_getD_getElem?, List.getElem?_toArray]
          rw [List.getElem?_append_right (by omega), hlen, List.getElem?_drop, show x.length + (i - x.length) = i from by omega]
          simp
      obtain ⟨ht, hm'⟩ := hM.turn b l h0 (.cells e' cs') (fun _ => rfl) (setRow_below l.g _ hl.1) hst
        ⟨_, setRow_heap w l.g cur _ e' _ p1, by
          rw [k1, h3]
          have h5 : cur.toList.length = n := by simpa using hcur
          rw [List.size_toArray, List.length_append, hlen, List.length_drop, h5]
          have : Nat.min x.length n ≤ n := Nat.min_le_right x.length n
          omega, fun i hi => by
          rw [k1] at hi
          rw [hget i (by omega)]
          split
          · rfl
          · exact p3 i hi, fun i hi => by
          rw [k1] at hi
          obtain ⟨y, q1, q2⟩ := k2 i hi
          rw [hget i (by omega), q2, Nat.zero_add]
          unfold cpB
          by_cases hx : i < x.length
          · rw [if_pos hx, decide_eq_true hx]; exact .int _ _ _ (wf_u8 _)
          · rw [if_neg hx, decide_eq_false hx]
            have := p4 i hi
            rw [q1] at this
            generalize cur.getD i Go.undef = vv at this ⊢
            cases this with
            | int _ _ _ hw => exact .int _ _ _ hw⟩
      refine ⟨_, _, _, _, hrun, ht, hm', ?_⟩
      show Rel _ _ _ (.int .i64 (Nat.min x.length n : Nat)) (.int .i64 (std.ofNat (std.nmin (std.slen x) n)))
      refine .int _ _ _ ?_
      rw [wf_iff]
      have : Nat.min x.length n ≤ n := Nat.min_le_right x.length n
      unfold maxLen at hm
      generalize Nat.min x.length n = y at this
      simp [IntKind.min, IntKind.max, IntKind.signed, IntKind.bits]
      omega

theorem add_zero_none (g j : Nat) : ((⟨g, 0, none⟩ : Addr).add j) = ⟨g, j, none⟩ := by unfold Addr.add; split <;> simp_all
theorem arr3_left {A B C : Array Value} {i : Nat} (h : i < A.size) : (A ++ B ++ C).getD i Go.undef = A.getD i Go.undef := by
  rw [Array.getD_eq_getD_getElem?, Array.getD_eq_getD_getElem?, Array.getElem?_append_left (by simp; omega), Array.getElem?_append_left h]
theorem arr3_mid {A B C : Array Value} {i : Nat} (h : i < B.size) : (A ++ B ++ C).getD (A.size + i) Go.undef = B.getD i Go.undef := by
  rw [Array.getD_eq_getD_getElem?, Array.getD_eq_getD_getElem?, Array.getElem?_append_left (by simp; omega), Array.getElem?_append_right (by omega), Nat.add_sub_cancel_left]
theorem aAppendS_ok (hT : TabOk P T) (hM : MRel base w S m M) (t u ty : TypeId) {vs : Value} {s : AV} {x : List UInt8} (hs : Rel w S m vs s) (hk : AllT (aAppendS std T M t u s x).ks) :
    Res base w S m P (aAppendS std T M t u s x) (Builtin.append_ #[t, u] ty #[vs, .string (bytes x)]) := by
  unfold aAppendS at hk ⊢
  split at hk
  case h_2 => exact (not_bad hk).elim
  rename_i e b hdt hdu
  split at hk
  case h_2 => exact (not_bad hk).elim
  rename_i e' u' l h1 h2 h3 hb
  split at hk
  case h_2 => exact (not_bad hk).elim
  rename_i l' he hc
  obtain ⟨eu, rfl⟩ := castL_some hc
  subst eu
  have he := Nat.eq_of_beq_eq_true he; subst he
  have h2 := Nat.eq_of_beq_eq_true h2
  have h3 := Nat.eq_of_beq_eq_true h3
  have hroom : (l ++ strI x).length * 1 ≤ roomNat := by simpa [AllT, std] using hk
  rw [List.length_append, strI_len, Nat.mul_one] at hroom
  unfold roomNat at hroom
  obtain ⟨_, _, _, g⟩ := hT.of_d hdt (by simp)
  have := g.d; rw [hdt] at this; have := td_slice this.symm; subst this
  obtain ⟨_, _, _, gu⟩ := hT.of_d hdu (by simp)
  have := gu.d; rw [hdu] at this; have := td_str this.symm; subst this
  obtain ⟨_, ie, ze, ge⟩ := hT.of_sz (show 1 ≤ (tyi T e).sz by omega)
  have hs1 : ie.size = 1 := ge.sz.symm.trans h2
  have hb1 : ie.bytes = 1 := ge.by_.symm.trans h3
  have hz1 : ze.cells.size = 1 := ge.zsz.trans hs1
  have hbm : b < m.length := by rw [hM.len]; exact blk_lt M b (by rw [hb]; simp)
  have hself : ∀ y : Option Loc, (m.set b y)[b]? = some y := fun y => List.getElem?_set_self hbm
  have hcB : isCells (blk M b) = false := by rw [hb]; rfl
  -- a new row
  have grown : ∀ (olds : List Value) (cap : Nat), olds.length = l.length → (∀ i, i < l.length → olds.getD i Go.undef = .int .u8 (l.getD i 0) ∧ (Lit.int .u8 (l.getD i 0)).wf = true) → ∀ (ol : Option Loc), m[b]? = some ol → l.length + x.length ≤ 140737488355328 → cap < l.length + x.length →
      ∀ v, (Builtin.append_ #[t, u] ty #[v, .string (bytes x)]).run P w = .ok (.slice (some ⟨w.heap.size, 0, none⟩) (l.length + x.length) (grownCap w (l.length + x.length) cap e)) (w.drew.alloc (.cells (olds.toArray ++ (Lib.strCells (bytes x)).toArray ++ Builtin.zeroCells ze.cells (grownCap w (l.length + x.length) cap e - (l.length + x.length))) e)) →
      Res base w S m P ⟨.ownT b, invalMs b (setBlk M b (.trows e (.int .u8) (l ++ strI x))), [std.ble (std.nmul (l ++ strI x).length 1) roomNat], some b⟩ (Builtin.append_ #[t, u] ty #[v, .string (bytes x)]) := by
    intro olds cap hol hold ol h0 hle hcap v hrun
    have hge := grownCap_ge w (l.length + x.length) cap e
    have hgm : grownCap w (l.length + x.length) cap e ≤ maxLen := grownCap_le_maxLen w _ cap e (by unfold maxLen; omega)
    have hlen : (l ++ strI x).length = l.length + x.length := by rw [List.length_append, strI_len]
    have hsl : (Lib.strCells (bytes x)).length = x.length := by rw [Lib.strCells_length, bytes_size]
    generalize hA : olds.toArray ++ (Lib.strCells (bytes x)).toArray ++ Builtin.zeroCells ze.cells (grownCap w (l.length + x.length) cap e - (l.length + x.length)) = arr at hrun
    have hsz : arr.size = grownCap w (l.length + x.length) cap e * 1 := by
      rw [← hA]; simp only [Array.size_append, List.size_toArray, size_zeroCells, hol, hsl, hz1]; omega
    have hrow : ByteRow arr (l ++ strI x) := by
      refine byteRow_app (vs := olds.toArray) (fun i hi => ?_) (fun i hi => ?_) (fun i hi => ?_)
      · rw [← hA]; exact arr3_left (by simp [hol, hi])
      · have := hold i hi
        simpa [Array.getD_eq_getD_getElem?, List.getD] using this
      · rw [← hA]
        have h9 := arr3_mid (A := olds.toArray) (B := (Lib.strCells (bytes x)).toArray) (C := Builtin.zeroCells ze.cells (grownCap w (l.length + x.length) cap e - (l.length + x.length))) (i := i) (by simp [hsl, hi])
        rw [List.size_toArray, hol] at h9
        rw [h9]
        simp [Array.getD_eq_getD_getElem?, List.getD]
    have hbel : Prot base.Z w (w.drew.alloc (.cells arr e)) := ((Prot.refl base.Z w).drew).alloc hM.base_le _
    obtain ⟨ht, hm⟩ := hM.move b ol h0 (some ⟨w.heap.size, grownCap w (l.length + x.length) cap e, 1, l.length + x.length, false, []⟩) (.trows e (.int .u8) (l ++ strI x)) hcB hbel (fun y hy _ => Below.heap_alloc w.drew _ y hy)
      (fun l₂ h => by injection h with h; subst h; exact ⟨.inr (Nat.le_refl _), by simp⟩)
      ⟨rfl, hlen.symm, by rw [hlen]; exact hge, hgm, arr, Go.heap_alloc_new w.drew _, hsz, hrow.rows _ _⟩
    refine ⟨_, _, _, _, hrun, ht, hm, ?_⟩
    have := Rel.ownT (w := w.drew.alloc (.cells arr e)) (S := S) (m.set b (some ⟨w.heap.size, grownCap w (l.length + x.length) cap e, 1, l.length + x.length, false, []⟩)) b ⟨w.heap.size, grownCap w (l.length + x.length) cap e, 1, l.length + x.length, false, []⟩ (hself _) ⟨hge, hgm⟩
    exact this
  by_cases hx0 : x.length = 0
  · have hx : x = [] := List.eq_nil_of_length_eq_zero hx0
    subst hx
    have hz : (ByteArray.mk (#[] : Array UInt8)).size = 0 := rfl
    have emp : ∀ (a : Option Addr) (n c : Nat), n ≤ c → (Builtin.append_ #[t, u] ty #[.slice a n c, .string (bytes [])]).run P w = .ok (.slice a n c) w := fun a n c hn => by
      cases a <;> simp [Builtin.append_, run_underlying g.und, run_underlying gu.und, sizeOf, typeInfo, ge.info, Builtin.lenOf, hn, Builtin.firstCells, storeCells, bytes, hz]
    have hB0 : strI [] = [] := rfl
    rw [hB0, List.append_nil]
    cases hs with
    | ownT0 _ a0 _ h0 =>
      have hB := hM.bk _ _ h0
      rw [hb] at hB
      obtain ⟨ht, hm⟩ := hM.move b none h0 none (.trows e (.int .u8) l) hcB (Prot.refl _ _) (fun _ _ _ => rfl) (fun l₂ h => by cases h) hB
      exact ⟨_, _, _, _, emp a0 0 0 (Nat.le_refl _), ht, hm, .ownT0 _ _ _ (hself _)⟩
    | ownT _ _ l0 h0 hc0 =>
      have hB := bk_of hM h0
      rw [hb] at hB
      obtain ⟨ht, hm⟩ := hM.move b (some l0) h0 (some l0) (.trows e (.int .u8) l) hcB (Prot.refl _ _) (fun _ _ _ => rfl) (fun l₂ h => by injection h with h; subst h; exact ⟨.inl ⟨l0, rfl, rfl⟩, (hM.lt _ _ h0).2.1⟩) hB
      exact ⟨_, _, _, _, emp _ _ _ hc0.1, ht, hm, .ownT _ _ l0 (hself _) hc0⟩
  cases hs with
  | ownT0 _ a0 _ h0 =>
    have hB := hM.bk _ _ h0
    rw [hb] at hB
    have hB : l.length = 0 := hB
    have hl : l = [] := List.eq_nil_of_length_eq_zero hB
    have hsx : 0 < (bytes x).size := by rw [bytes_size]; omega
    cases a0 with
    | none =>
      have hrun := run_append_nil_string (P := P) w t u ty e ie ze g.und gu.und ge.info ge.zero (bytes x) hsx (by rw [bytes_size]; omega) (by rw [bytes_size, hb1]; omega)
      refine grown [] 0 hB.symm (fun i hi => absurd hi (by omega)) none h0 (by omega) (by omega) _ ?_
      rw [hrun, bytes_size, hB, Nat.zero_add]
      congr 3
      apply Array.ext'
      simp [Lib.strCells]
    | some a1 =>
      have hrun := Lib.run_append_grow_string (P := P) w t u ty e ie ze g.und gu.und ge.info ge.zero a1 0 0 [] (by simp) (by simp) (bytes x) (by omega) (by rw [bytes_size]; omega) (growslice_fits (by omega) (by rw [bytes_size, hb1]; omega))
      refine grown [] 0 hB.symm (fun i hi => absurd hi (by omega)) none h0 (by omega) (by omega) _ ?_
      rw [hrun, bytes_size, hB]
  | ownT _ _ l0 h0 hc0 =>
    have hB := bk_of hM h0
    rw [hb] at hB
    obtain ⟨q1, q2, q3, q4, vs0, q5, q6, q7⟩ := hB
    have hrow := byteRow_of q7
    have hl := hM.lt _ _ h0
    have q1 : l0.sz = 1 := q1
    have q6 : vs0.size = l0.cap := by rw [q6]; simp [szT]
    rw [q2] at hc0 ⊢
    by_cases hrm : l.length + x.length ≤ l0.cap
    · have hfz : FzOk l0.fz vs0.size := Loc.fzOk (by rw [q6, q1]; omega)
      have hrun := run_append_in_str (P := P) (ty := ty) g.und gu.und ge.info hs1 hfz q5 (s := bytes x) (n := l.length) (cap := l0.cap) (by rw [bytes_size]; exact hrm) (by rw [bytes_size]; omega)
      rw [bytes_size] at hrun
      have hsl : (Lib.strCells (bytes x)).length = x.length := by rw [Lib.strCells_length, bytes_size]
      have hseg : l.length + (Lib.strCells (bytes x)).length ≤ vs0.size := by omega
      have hrow' : ByteRow (seg vs0 l.length (Lib.strCells (bytes x))) (l ++ strI x) := by
        refine byteRow_app (vs := vs0) (fun i hi => ?_) hrow (fun i hi => ?_)
        · rw [seg_getD _ _ _ hseg, if_neg (by omega)]
        · rw [seg_getD _ _ _ hseg, if_pos (by omega), show l.length + i - l.length = i from by omega]
      obtain ⟨ht, hm⟩ := hM.move b (some l0) h0 (some ⟨l0.g, l0.cap, l0.sz, l.length + x.length, l0.st, []⟩) (.trows e (.int .u8) (l ++ strI x)) hcB (setRow_below l0.g _ hl.1) (fun y hy hne => setRow_other w l0.g y _ (hne l0 rfl))
        (fun l₂ h => by injection h with h; subst h; exact ⟨.inl ⟨l0, rfl, rfl⟩, by simpa using hl.2.1⟩)
        ⟨q1, by rw [List.length_append, strI_len], by rw [List.length_append, strI_len]; exact hrm, q4, _, setRow_heap w l0.g vs0 _ e _ q5, by rw [seg_size _ _ _ hseg, q6]; exact (Nat.mul_one _).symm, hrow'.rows _ _⟩
      refine ⟨_, _, _, _, hrun, ht, hm, ?_⟩
      have := Rel.ownT (w := w.setRow l0.g (seg vs0 l.length (Lib.strCells (bytes x)))) (S := S) (m.set b (some ⟨l0.g, l0.cap, l0.sz, l.length + x.length, l0.st, []⟩)) b ⟨l0.g, l0.cap, l0.sz, l.length + x.length, l0.st, []⟩ (hself _) ⟨hrm, q4⟩
      exact this
    · have hrun := Lib.run_append_grow_string (P := P) w t u ty e ie ze g.und gu.und ge.info ge.zero ⟨l0.g, 0, none⟩ l.length l0.cap (l.map (Value.int .u8)) (by rw [List.length_map, hs1, Nat.mul_one]) (fun j v hj => by
        have hj' : j < l.length := by have := (List.getElem?_eq_some_iff.1 hj).1; simpa using this
        simp [hj'] at hj
        subst hj
        have := (hrow j hj').1
        have h8 : j < vs0.size := by omega
        have hcell := blk_cell q5 h8
        rw [this] at hcell
        have e1 : ((⟨l0.g, 0, none⟩ : Addr).add j) = ⟨l0.g, j, none⟩ := add_zero_none _ _
        rw [e1, hcell]
        simp [List.getD, hj']) (bytes x) (by rw [bytes_size]; omega) (by rw [bytes_size]; omega) (growslice_fits (by rw [bytes_size]; omega) (by rw [bytes_size, hb1]; omega))
      rw [bytes_size] at hrun
      refine grown (l.map (Value.int .u8)) l0.cap (by simp) (fun i hi => ⟨by simp [List.getD, hi], (hrow i hi).2⟩) (some l0) h0 (by omega) (by omega) _ hrun
theorem aAppendU_ok (hT : TabOk P T) (hM : MRel base w S m M) (t u ty : TypeId) {vs vx : Value} {s x : AV} (hs : Rel w S m vs s) (hx : Rel w S m vx x) (hk : AllT (aAppendU std T M t u s x).ks) :
    Res base w S m P (aAppendU std T M t u s x) (Builtin.append_ #[t, u] ty #[vs, vx]) := by
  unfold aAppendU at hk ⊢
  split at hk
  · cases hx; exact aAppendS_ok hT hM t u ty hs hk
  · exact aAppendZ_ok hT hM t u ty hs hx hk
end Go.Eng
