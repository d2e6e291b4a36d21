/- A law's arguments as abstract values; from the contract to the row. -/
import Derived.Test.YtedmkgnbgkhloaaEngZ
namespace Go.Eng
open Go Go.RowKit Go.ChangeShapes Go.WideShapes Go.ChangeAt

variable {H : Type} {enc : TypeId × Value → H} {P : Program} {T : Tab}

/-- A value out of its cells. -/
def argV (T : Tab) (t : Nat) (c : Nat → AV) : AV := match (tyi T t).d with
  | .struct _ => .agg (tab c 0 (tyi T t).sz)
  | .array _ _ => .agg (tab c 0 (tyi T t).sz)
  | _ => c 0

/-- Arguments of these types. -/
def ArgsSh (T : Tab) (F : Nat) : List Nat → List AV → Prop
  | [], [] => True
  | t :: ts, a :: l => (∃ c, Shape T F t c 0 ∧ a = argV T t c) ∧ ArgsSh T F ts l
  | _, _ => False

theorem value_agg {W : World} {b0 : Nat} {t : TypeId} {v : Value} (hv : Value.okWide P W .any b0 t v) (h : (∃ fs, P.underlying t = some (.struct fs)) ∨ ∃ n e, P.underlying t = some (.array n e)) : ∃ cs, v = .agg cs := by
  unfold Value.okWide at hv
  rcases h with ⟨fs, h⟩ | ⟨n, e, h⟩ <;> rw [h] at hv <;> exact ⟨hv.choose, hv.choose_spec.1⟩

theorem cells_one {v : Value} (h : ∀ cs, v ≠ .agg cs) : v.cells.toList = [v] := by
  cases v <;> first | rfl | exact absurd rfl (h _)

theorem value_ab (hT : TabOk P T) {F : Nat} {W : World} {t : TypeId} {v : Value} {d : DataW H} {ps : List MemPlace} {b0 : Nat} (hg : goodTy T F t = true) (hv : Value.okWide P W .any b0 t v)
    (h : DataW.Trod enc P W 0 (fun _ => true) true t v d ps) : ∃ c, Shape T F t c 0 ∧ Rel W (fun b => b < W.heap.size) [] v (argV T t c) := by
  obtain ⟨fuel, h⟩ := h
  have ha := trod_ab hT F t fuel _ _ hg h
  refine ⟨_, ha.shape, ?_⟩
  have agg : ∀ cs, v = .agg cs → Rel W (fun b => b < W.heap.size) [] v (.agg (tab (fun j => ab W T F t j (v.cells.toList.getD j Go.undef)) 0 (tyi T t).sz)) := fun cs e => by
    subst e
    have hl : cs.size = (tyi T t).sz := by have := ha.len; simpa [Value.cells] using this
    have hr := ha.rel
    refine .agg _ _ _ (by rw [lenA_tab]; exact hl) (fun i hi => ?_) (fun i hi => ?_)
    · rw [lenA_tab] at hi
      have := (hr i (by rw [ha.len]; exact hi)).2
      simpa [Value.cells, List.getD_eq_getElem?_getD, Array.getD_eq_getD_getElem?] using this
    · rw [lenA_tab] at hi
      rw [nth_tab _ _ _ _ hi]
      have := (hr i (by rw [ha.len]; exact hi)).1
      simpa [Value.cells, List.getD_eq_getElem?_getD, Array.getD_eq_getD_getElem?] using this
  have one : (∀ cs, v ≠ .agg cs) → Rel W (fun b => b < W.heap.size) [] v (ab W T F t 0 (v.cells.toList.getD 0 Go.undef)) := fun hne => by
    have e := cells_one hne
    have := (ha.rel 0 (by rw [e]; simp)).1
    rw [e] at this ⊢
    exact this
  cases F with
  | zero => simp [goodTy] at hg
  | succ F =>
    have hg' := hg
    simp only [goodTy] at hg
    unfold argV
    split at hg
    · rename_i k hd
      simp only [hd]
      obtain ⟨d, i, z, f⟩ := hT.of_d hd (by simp)
      have hu := f.und
      rw [td_int (f.d.symm.trans hd)] at hu
      obtain ⟨n, rfl⟩ := okWide_int hu hv
      exact one (fun cs e => by cases e)
    · rename_i hd
      simp only [hd]
      obtain ⟨d, i, z, f⟩ := hT.of_d hd (by simp)
      have hu := f.und
      rw [td_bool (f.d.symm.trans hd)] at hu
      obtain ⟨n, rfl⟩ := okWide_bool hu hv
      exact one (fun cs e => by cases e)
    · rename_i hd
      simp only [hd]
      obtain ⟨d, i, z, f⟩ := hT.of_d hd (by simp)
      have hu := f.und
      rw [td_str (f.d.symm.trans hd)] at hu
      obtain ⟨n, rfl⟩ := okWide_string hu hv
      exact one (fun cs e => by cases e)
    · rename_i fs hd
      simp only [hd]
      obtain ⟨d, i, z, f⟩ := hT.of_d hd (by simp)
      have hu := f.und
      obtain ⟨l, hl, _⟩ := td_struct (f.d.symm.trans hd)
      rw [hl] at hu
      obtain ⟨cs, e⟩ := value_agg hv (.inl ⟨_, hu⟩)
      exact agg cs e
    · rename_i n e hd
      simp only [hd]
      obtain ⟨d, i, z, f⟩ := hT.of_d hd (by simp)
      have hu := f.und
      rw [td_array (f.d.symm.trans hd)] at hu
      obtain ⟨cs, e⟩ := value_agg hv (.inr ⟨_, _, hu⟩)
      exact agg cs e
    · rename_i e hd
      simp only [hd]
      obtain ⟨d, i, z, f⟩ := hT.of_d hd (by simp)
      have hu := f.und
      rw [td_slice (f.d.symm.trans hd)] at hu
      obtain ⟨a, n, c, rfl⟩ := okWide_slice hu hv
      exact one (fun cs e => by cases e)
    · simp at hg

end Go.Eng
