/- What the package-level variables hold that the program's functions read. The numbers are those of the variables' blocks. -/
import Derived.WalkKit
import Derived.Lib.ItoaNum
namespace Go.Eng
open Go

/-- The cells of a block. -/
def cellsIn (w : World) (g : Nat) : Option (Array Value) :=
  match w.heap[g]? with
  | some (.cells cs _ _) => some cs
  | _ => none
structure GL (w : World) : Prop where
  syn : ∃ tp p, cellsIn w 4 = some #[.iface tp p]
  rng : ∃ tp p, cellsIn w 5 = some #[.iface tp p]
  pow10 : cellsIn w 3 = some (Lib.pow10Tab.map fun z => Value.int .u64 z).toArray
  mlen : ∃ m, w.cell? ⟨0, 0, none⟩ = some (.int .i64 m)
def gblks : List Nat := [4, 5, 3, 0]
theorem cellsIn_mono {w w' : World} {g : Nat} (h : w'.heap[g]? = w.heap[g]?) : cellsIn w' g = cellsIn w g := by unfold cellsIn; rw [h]
theorem cellsIn_lt {w : World} {g : Nat} {a : Array Value} (h : cellsIn w g = some a) : g < w.heap.size := by
  unfold cellsIn at h
  cases hh : w.heap[g]? with
  | none => rw [hh] at h; cases h
  | some o => exact (Array.getElem?_eq_some_iff.1 hh).1
theorem cell_lt {w : World} {g o : Nat} {v : Value} (h : w.cell? ⟨g, o, none⟩ = some v) : g < w.heap.size := by
  unfold World.cell? at h
  cases hh : w.heap[g]? with
  | none => rw [hh] at h; cases h
  | some o => exact (Array.getElem?_eq_some_iff.1 hh).1
theorem GL.mono {w w' : World} (h : GL w) (hs : ∀ g, g ∈ gblks → w'.heap[g]? = w.heap[g]?) : GL w' :=
  ⟨by rw [cellsIn_mono (hs _ (by simp [gblks]))]; exact h.syn, by rw [cellsIn_mono (hs _ (by simp [gblks]))]; exact h.rng, by rw [cellsIn_mono (hs _ (by simp [gblks]))]; exact h.pow10, let ⟨m, hm⟩ := h.mlen; ⟨m, by rw [← hm]; exact World.cell?_of_block (hs _ (by simp [gblks]))⟩⟩
theorem GL.lt {w : World} (h : GL w) : ∀ g, g ∈ gblks → g < w.heap.size := fun g hg => by
  obtain ⟨⟨_, _, h1⟩, ⟨_, _, h2⟩, h3, ⟨_, h4⟩⟩ := h
  simp only [gblks, List.mem_cons, List.not_mem_nil, or_false] at hg
  rcases hg with rfl | rfl | rfl | rfl
  · exact cellsIn_lt h1
  · exact cellsIn_lt h2
  · exact cellsIn_lt h3
  · exact cell_lt h4

end Go.Eng
