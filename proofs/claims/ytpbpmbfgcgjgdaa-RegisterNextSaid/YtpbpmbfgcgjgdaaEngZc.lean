/- A law's contract, as the row's builder asks it. -/
import Derived.Test.YtpbpmbfgcgjgdaaEngZb
namespace Go.Eng
open Go Go.RowKit Go.ChangeShapes Go.WideShapes Go.ChangeAt

variable {H : Type} {enc : TypeId × Value → H} {P : Program} {T : Tab}

theorem law_contract (hT : TabOk P T) (hl : laidOutB P = true) (hn : namesOk P = true) {k : FuncId} {f : Func} {code : Code} (hf : P.funcs[k]? = some f) (hb : f.body = some code) {s : ChangeSpec} {t : TypeId} (hv : s.vars = []) (hres : f.resultTypes = #[t]) (hu : P.underlying t = some .bool)
    (hfn : ∀ ds : List (DataW H), ds.length = f.params.toList.length → (s.fn H ds).results = [.lit (.bool true)] ∧ (s.fn H ds).args = ds ∧ (s.fn H ds).vars = [])
    (hpar : (f.params.toList.all fun t => P.readableRec t && Nat.blt t P.types.size) = true) {F : Nat} (hg : (f.params.toList.all fun t => goodTy T F t) = true)
    (law : ∀ l, ArgsSh T F f.params.toList l → ACalls P k l (.val (.bool true)))
    {apart fresh handsOn : Bool} {W : World} {b0 : Nat} {args : Array Value} {ds gs : List (DataW H)} {before : List MemPlace}
    (hval : ∀ (j : Nat) t v, f.params[j]? = some t → args[j]? = some v → Value.okWide P W .any b0 t v) (hW : DataW.Whole enc P f.params.toList s.vars apart W args.toList ds gs before) :
    Calls P k args W fun e W' => ∃ v, e = .returned v ∧ s.post enc P f apart fresh handsOn false W args v W' := by
  obtain ⟨p, q, hA, _⟩ := hW
  obtain ⟨l, k1, k2, k3⟩ := args_ab hT hg (fun j t v ht hv => hval j t v (by rw [← Array.getElem?_toList]; exact ht) (by rw [← Array.getElem?_toList]; exact hv)) hA
  refine (law l k1).bool hf hb (name_ok hn hf) (S := fun b => b < W.heap.size) (fun _ h => h) ⟨by rw [← Array.length_toList]; exact k2, fun i hi => ?_⟩ (fun W' hbel => ⟨_, rfl, law_post hl hv hres hu hfn hpar ⟨p, q, hA, by assumption⟩ hbel⟩)
  have := k3 i hi
  rwa [List.getD_eq_getElem?_getD, Array.getElem?_toList, ← Array.getD_eq_getD_getElem?] at this

end Go.Eng
