/- What is read as data stands for abstract values of its type: the proof. -/
import Derived.Test.YtedmkgnbgkhloaaEngX
import Derived.OpenShut
namespace Go.Eng
open Go Go.RowKit

variable {H : Type} {enc : TypeId × Value → H} {P : Program} {T : Tab} {w : World} {base : Nat} {spare : Nat → Bool} {held : Bool}

/-- Cells that stand for a type. -/
structure AbOk (w : World) (T : Tab) (F t : Nat) (vs : List Value) : Prop where
  len : vs.length = (tyi T t).sz
  rel : ∀ j, j < vs.length → Rel w (fun b => b < w.heap.size) [] (vs.getD j Go.undef) (ab w T F t j (vs.getD j Go.undef)) ∧ (vs.getD j Go.undef).oneCell' = true
  shape : Shape T F t (fun j => ab w T F t j (vs.getD j Go.undef)) 0

theorem seg_at {vs : List Value} {o n j : Nat} (hj : j < n) : ((vs.drop o).take n).getD j Go.undef = vs.getD (o + j) Go.undef := by
  simp [List.getD_eq_getElem?_getD, List.getElem?_take, hj]

theorem trod_ab (hT : TabOk P T) : ∀ (F t fuel : Nat) (vs : List Value) (x : DataW H × List MemPlace), goodTy T F t = true → DataW.trod enc P w base spare held fuel t vs = some x → AbOk w T F t vs := by
  intro F
  induction F with
  | zero => intro t fuel vs x h; simp [goodTy] at h
  | succ F ih =>
    intro t fuel vs x hg h
    simp only [goodTy] at hg
    split at hg
    · rename_i k hd
      have hsz := Nat.eq_of_beq_eq_true hg
      obtain ⟨d, i, z, f⟩ := hT.of_d hd (by simp)
      have hu := f.und
      rw [td_int (f.d.symm.trans hd)] at hu
      obtain ⟨n, rfl, _, hw⟩ := DataW.trod_int hu h
      refine ⟨by rw [hsz]; rfl, fun j hj => ?_, ?_⟩
      · have : j = 0 := by simp at hj; exact hj
        subst this
        simp only [ab, hd]
        exact ⟨.int _ _ _ hw, rfl⟩
      · simp only [Shape, hd, ab]
        exact ⟨n, rfl, hw⟩
    · rename_i hd
      have hsz := Nat.eq_of_beq_eq_true hg
      obtain ⟨d, i, z, f⟩ := hT.of_d hd (by simp)
      have hu := f.und
      rw [td_bool (f.d.symm.trans hd)] at hu
      obtain ⟨b, rfl, _⟩ := DataW.trod_bool hu h
      refine ⟨by rw [hsz]; rfl, fun j hj => ?_, ?_⟩
      · have : j = 0 := by simp at hj; exact hj
        subst this
        simp only [ab, hd]
        exact ⟨.bool _ _, rfl⟩
      · simp only [Shape, hd, ab]
        exact ⟨b, rfl⟩
    · rename_i hd
      have hsz := Nat.eq_of_beq_eq_true hg
      obtain ⟨d, i, z, f⟩ := hT.of_d hd (by simp)
      have hu := f.und
      rw [td_str (f.d.symm.trans hd)] at hu
      obtain ⟨s, rfl, _, hs⟩ := DataW.trod_string hu h
      have hs' : s.data.toList.length ≤ maxLen := by rw [Array.length_toList]; exact hs
      refine ⟨by rw [hsz]; rfl, fun j hj => ?_, ?_⟩
      · have : j = 0 := by simp at hj; exact hj
        subst this
        simp only [ab, hd]
        refine ⟨?_, rfl⟩
        have := Rel.str (w := w) (S := fun b => b < w.heap.size) [] s.data.toList hs'
        rwa [bytes_data] at this
      · simp only [Shape, hd, ab]
        exact ⟨_, rfl, hs'⟩
    · rename_i fs hd
      simp only [Bool.and_eq_true, List.all_eq_true] at hg
      obtain ⟨d, i, z, f⟩ := hT.of_d hd (by simp)
      have hu := f.und
      obtain ⟨l, hl, hfs, _⟩ := td_struct (f.d.symm.trans hd)
      rw [hl] at hu
      obtain ⟨xs, m, _, _, hlen, hxl, hx⟩ := DataW.trod_struct hu h
      have hcs : P.cellsOf t = (tyi T t).sz := by unfold Program.cellsOf; rw [f.info, f.sz]; rfl
      have hmem := consec_mem fs _ _ hg.1
      have part : ∀ y ∈ fs, AbOk w T F y.1 ((vs.drop y.2).take (tyi T y.1).sz) := fun y hy => by
        have hgy := hg.2 y hy
        rw [hfs] at hy
        obtain ⟨fl, hfl, rfl⟩ := List.mem_map.1 hy
        obtain ⟨k, hk⟩ := List.getElem?_of_mem hfl
        have hk' : l[k]? = some fl := by rw [← Array.getElem?_toList]; exact hk
        have hh := hx k fl hk'
        have hlt : k < xs.length := by rw [hxl]; exact (Array.getElem?_eq_some_iff.1 hk').1
        rw [List.getElem?_eq_getElem hlt, cellsOf_sz hT (Nat.le_of_ble_eq_true hgy.2)] at hh
        exact ih _ _ _ _ hgy.1 hh
      have hlen' : vs.length = (tyi T t).sz := hlen.trans hcs
      refine ⟨hlen', fun j hj => ?_, ?_⟩
      · obtain ⟨y, hy, hf, h1, h2⟩ := consec_cover fs _ _ hg.1 j (Nat.zero_le _) (by omega)
        have hp := part y hy
        have hlt : j - y.2 < ((vs.drop y.2).take (tyi T y.1).sz).length := by rw [hp.len]; omega
        have := hp.rel (j - y.2) hlt
        rw [seg_at (by omega), show y.2 + (j - y.2) = j from by omega] at this
        simp only [ab, hd, hf]
        exact this
      · simp only [Shape, hd]
        intro y hy
        have hp := part y hy
        refine Shape.congr F y.1 _ _ 0 (0 + y.2) (hg.2 y hy).1 (fun j hj => ?_) hp.shape
        simp only [Nat.zero_add]
        rw [seg_at hj]
        simp only [ab, hd, (hmem y hy).2.2 j hj]
        rw [Nat.add_sub_cancel_left]
    · rename_i n e hd
      simp only [Bool.and_eq_true] at hg
      obtain ⟨⟨hg1, hg2⟩, hg3⟩ := hg
      have hsz := Nat.eq_of_beq_eq_true hg1
      have he := Nat.le_of_ble_eq_true hg3
      obtain ⟨d, i, z, f⟩ := hT.of_d hd (by simp)
      have hu := f.und
      rw [td_array (f.d.symm.trans hd)] at hu
      obtain ⟨xs, m, _, _, hlen, hxl, hx⟩ := DataW.trod_array hu h
      have hcs : P.cellsOf t = (tyi T t).sz := by unfold Program.cellsOf; rw [f.info, f.sz]; rfl
      have part : ∀ k, k < n → AbOk w T F e ((vs.drop (k * (tyi T e).sz)).take (tyi T e).sz) := fun k hk => by
        have hh := hx k hk
        rw [List.getElem?_eq_getElem (by rw [hxl]; exact hk), cellsOf_sz hT he] at hh
        exact ih _ _ _ _ hg2 hh
      have hlen' : vs.length = (tyi T t).sz := hlen.trans hcs
      refine ⟨hlen', fun j hj => ?_, ?_⟩
      · have hk : j / (tyi T e).sz < n := by rw [Nat.div_lt_iff_lt_mul (by omega)]; omega
        have hm : j % (tyi T e).sz < (tyi T e).sz := Nat.mod_lt _ (by omega)
        have hp := part _ hk
        have := hp.rel (j % (tyi T e).sz) (by rw [hp.len]; exact hm)
        rw [seg_at hm, show j / (tyi T e).sz * (tyi T e).sz + j % (tyi T e).sz = j from by rw [Nat.mul_comm]; exact Nat.div_add_mod _ _] at this
        simp only [ab, hd]
        exact this
      · simp only [Shape, hd]
        intro k hk
        have hp := part k hk
        refine Shape.congr F e _ _ 0 _ hg2 (fun j hj => ?_) hp.shape
        simp only [Nat.zero_add]
        rw [seg_at hj]
        simp only [ab, hd]
        rw [show (k * (tyi T e).sz + j) % (tyi T e).sz = j from by rw [Nat.mul_comm, Nat.mul_add_mod, Nat.mod_eq_of_lt hj]]
    · rename_i e hd
      simp only [Bool.and_eq_true] at hg
      obtain ⟨⟨hg1, hg2⟩, hg3⟩ := hg
      have hsz := Nat.eq_of_beq_eq_true hg1
      have he := Nat.le_of_ble_eq_true hg3
      obtain ⟨d, i, z, f⟩ := hT.of_d hd (by simp)
      have hu := f.und
      rw [td_slice (f.d.symm.trans hd)] at hu
      rcases DataW.trod_slice hu h with ⟨rfl, _⟩ | ⟨a, len, cap, elems, rest, m, _, rfl, _, _, hl, hm, hel, hx, _⟩
      · refine ⟨by rw [hsz]; rfl, fun j hj => ?_, ?_⟩
        · have : j = 0 := by simp at hj; exact hj
          subst this
          simp only [ab, hd]
          exact ⟨.nilsl _, rfl⟩
        · simp only [Shape, hd, ab]
          exact .inl rfl
      · have part : ∀ k, k < len → ∃ us : List Value, AbOk w T F e us ∧ us.length = (tyi T e).sz ∧ ∀ j, j < (tyi T e).sz → w.cell? (a.add (k * (tyi T e).sz + j)) = some (us.getD j Go.undef) := fun k hk => by
          have hh := hx k hk
          rw [List.getElem?_eq_getElem (by rw [hel]; exact hk), cellsOf_sz hT he] at hh
          cases hc : w.cells? base (a.add (k * (tyi T e).sz)) (tyi T e).sz with
          | none => rw [hc] at hh; simp at hh
          | some us =>
            rw [hc] at hh
            obtain ⟨c1, c2⟩ := cells_at hc
            exact ⟨us, ih _ _ _ _ hg2 hh, c1, fun j hj => by rw [← c2 j hj, add_add]⟩
        refine ⟨by rw [hsz]; rfl, fun j hj => ?_, ?_⟩
        · have : j = 0 := by simp at hj; exact hj
          subst this
          simp only [ab, hd]
          refine ⟨?_, rfl⟩
          show Rel w _ [] (.slice (some a) len cap) _
          by_cases h0 : len = 0
          · subst h0
            exact .slice0 _ _ _ _ _ _ hm (fun h => by simp at h)
          · obtain ⟨us, _, _, hu0⟩ := part 0 (by omega)
            have hc0 := hu0 0 he
            rw [show a.add (0 * (tyi T e).sz + 0) = a from by simp [Addr.add]] at hc0
            obtain ⟨b, o, sp⟩ := a
            have hsp : sp = none ∧ b < w.heap.size := by
              unfold World.cell? at hc0
              simp only at hc0
              split at hc0
              · rename_i hb
                have hlt := (Array.getElem?_eq_some_iff.1 hb).1
                cases sp with
                | none => exact ⟨rfl, hlt⟩
                | some x => simp at hc0
              · cases hc0
            obtain ⟨rfl, hb⟩ := hsp
            have hadd : ∀ x, (Addr.mk b o none).add x = ⟨b, o + x, none⟩ := fun x => by
              unfold Addr.add
              by_cases hx : x = 0
              · subst hx; simp
              · simp [hx]
            refine .slice _ b o _ _ cap _ _ (fun i k => (w.cell? ⟨b, o + i * (tyi T e).sz + k, none⟩).getD Go.undef) hb hl hm (fun h => by simp at h) (fun i hi j hj => ?_) (fun i hi j hj => ?_)
            · obtain ⟨us, hp, h1, h2⟩ := part i hi
              have := h2 j hj
              rw [hadd, ← Nat.add_assoc] at this
              rw [this]
              exact ⟨rfl, (hp.rel j (by rw [h1]; exact hj)).2⟩
            · obtain ⟨us, hp, h1, h2⟩ := part i hi
              have := h2 j hj
              rw [hadd]
              rw [hadd] at this
              rw [← Nat.add_assoc] at this ⊢
              rw [this]
              exact (hp.rel j (by rw [h1]; exact hj)).1
        · simp only [Shape, hd, ab]
          refine .inr ⟨len, _, by omega, rfl, fun k hk => ?_⟩
          obtain ⟨us, hp, h1, h2⟩ := part k hk
          refine Shape.congr F e _ _ 0 0 hg2 (fun j hj => ?_) hp.shape
          simp only [Nat.zero_add]
          rw [h2 j hj]
          rfl
    · simp at hg

end Go.Eng
