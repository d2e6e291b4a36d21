/- From a contract on shaped arguments to the law's row. -/
import Derived.Test.YtedmkgnbgkhloaaEngZa
namespace Go.Eng
open Go Go.RowKit Go.ChangeShapes Go.WideShapes Go.ChangeAt

variable {H : Type} {enc : TypeId × Value → H} {P : Program} {T : Tab}

theorem args_ab (hT : TabOk P T) {F : Nat} {W : World} {b0 : Nat} : ∀ {ts : List TypeId} {vs : List Value} {ds : List (DataW H)} {ps : List MemPlace}, (ts.all fun t => goodTy T F t) = true →
    (∀ (j : Nat) t v, ts[j]? = some t → vs[j]? = some v → Value.okWide P W .any b0 t v) → DataW.TrodAll enc P W 0 (fun _ => true) true ts vs ds ps →
    ∃ l, ArgsSh T F ts l ∧ vs.length = lenA l ∧ ∀ i, i < lenA l → Rel W (fun b => b < W.heap.size) [] (vs.getD i Go.undef) (nth l i)
  | [], [], [], _, _, _, _ => ⟨[], trivial, rfl, fun i hi => by simp [lenA] at hi⟩
  | t :: ts, v :: vs, d :: ds, ps, hg, hv, h => by
    obtain ⟨p, q, h1, h2, rfl⟩ := h
    simp only [List.all_cons, Bool.and_eq_true] at hg
    obtain ⟨c, hs, hr⟩ := value_ab hT hg.1 (hv 0 t v rfl rfl) h1
    obtain ⟨l, k1, k2, k3⟩ := args_ab hT hg.2 (fun j t v ht hv' => hv (j + 1) t v (by simpa using ht) (by simpa using hv')) h2
    refine ⟨argV T t c :: l, ⟨⟨c, hs, rfl⟩, k1⟩, by simp [lenA, k2], fun i hi => ?_⟩
    cases i with
    | zero => exact hr
    | succ i => simpa [nth] using k3 i (by simpa [lenA] using hi)
  | [], _ :: _, _, _, _, _, h => h.elim
  | [], [], _ :: _, _, _, _, h => h.elim
  | _ :: _, [], _, _, _, _, h => h.elim
  | _ :: _, _ :: _, [], _, _, _, h => h.elim

end Go.Eng
