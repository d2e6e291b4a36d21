/- What the package-level variables hold that the program's functions read. The numbers are those of the variables' blocks. -/
import Derived.WalkKit
import Derived.Lib.ItoaNum
namespace Go.aT
open Go
def cellsIn (w:World) (g:Nat):Option (Array Value) :=
 match w.heap[g]? with
 | some (.cells cs _ _)=>some cs
 | _=>none
structure GL (w:World):Prop where
 UZ:cellsIn w 1=some (Lib.pow10Tab.map fun z=>Value.int .u64 z).toArray
 U0:∃ m,w.cell? ⟨0,0,none⟩=some (.int .i64 m)
def yA:List Nat:=[1,0]
theorem adK {w w':World} {g:Nat} (h:w'.heap[g]? = w.heap[g]?):cellsIn w' g=cellsIn w g:=by unfold cellsIn; rw [h]
theorem adL {w:World} {g:Nat} {a:Array Value} (h:cellsIn w g=some a):g<w.heap.size:=by
 unfold cellsIn at h
 cases hh:w.heap[g]? with
 | none=>rw [hh] at h; cases h
 | some o=>exact (Array.getElem?_eq_some_iff.1 hh).1
theorem adM {w:World} {g o:Nat} {v:Value} (h:w.cell? ⟨g,o,none⟩=some v):g<w.heap.size:=by
 unfold World.cell? at h
 cases hh:w.heap[g]? with
 | none=>rw [hh] at h; cases h
 | some o=>exact (Array.getElem?_eq_some_iff.1 hh).1
theorem GL.mono {w w':World} (h:GL w) (hs:∀ g,g∈yA->w'.heap[g]? = w.heap[g]?):GL w' :=
 ⟨by rw [adK (hs _ (by simp [yA]))]; exact h.UZ,let ⟨m,hm⟩:=h.U0; ⟨m,by rw [<- hm]; exact World.cell?_of_block (hs _ (by simp [yA]))⟩⟩
theorem GL.lt {w:World} (h:GL w):∀ g,g∈yA->g<w.heap.size:=fun g hg=>by
 obtain ⟨h3,⟨_,h4⟩⟩:=h
 simp only [yA,List.mem_cons,List.not_mem_nil,or_false] at hg
 rcases hg with rfl | rfl
 ·exact adL h3
 ·exact adM h4
end Go.aT
