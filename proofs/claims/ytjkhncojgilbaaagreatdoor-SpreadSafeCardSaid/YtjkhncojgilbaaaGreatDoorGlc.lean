/- From the variables that a row lists to what is known of them: the two errors of strconv, and its table of powers. -/
import Derived.Test.YtjkhncojgilbaaaGreatDoorGlo
import Derived.Test.YtjkhncojgilbaaaGreatDoorRows
import Derived.ProofKit
import Derived.OpenShut
import Derived.LaidMore
import Derived.Lay
import Derived.LaidByTextLater
import Derived.Shelf.Vars
namespace Go.aT
open Go Go.Proofs Go.Proofs.YtjkhncojgilbaaaGreatDoor
theorem UW {P:Program} {w:World}:∀ {l:List (String×DataW Unit)} {ps:List MemPlace},DataW.LaidVars P w l ps->∀ x,x∈l ->
  ∃ g t cs fuel p,P.globalNamed x.1=some g/\(P.globals[g]?).map (·.type)=some t/\w.var? P x.1=some cs/\DataW.trod (fun _=>()) P w 0 (fun _=>true) false fuel t cs.toList=some (x.2,p)
 | [],_,_,x,hx=>by cases hx
 | (n,d)::r,_,h,x,hx=>by
  obtain ⟨g,t,cs,fuel,p,q,h1,h2,h3,h4,h5,_⟩:=h
  cases hx with
  | head=>exact ⟨g,t,cs,fuel,p,h1,h2,h3,h4⟩
  | tail _ hx=>exact UW h5 x hx
def UX (P:Program) (n:String):Option TypeId:=(P.globalNamed n).bind fun g=>(P.globals[g]?).map (·.type)
def UY (P:Program) (n:String) (m:Nat) (k:IntKind):Bool:=match UX P n with
 | some t=>Nat.beq (P.cellsOf t) m&&match P.underlying t with
  | some (.array m' e)=>Nat.beq m' m&&Nat.beq (P.cellsOf e) 1&&match P.underlying e with | some (.int k')=>decide (k'=k) | _=>false
  | _=>false
 | none=>false
theorem adH {H:Type} {enc:TypeId×Value->H} {P:Program} {w:World} {base:Nat} {sp:Nat->Bool} {held:Bool} {fuel n:Nat} {t e:TypeId} {k:IntKind} {cs:List Value} {zs:List Int} {p:List MemPlace}
  (ht:P.underlying t=some (.array n e)) (he:P.underlying e=some (.int k)) (hc:P.cellsOf e=1) (hsz:P.cellsOf t=n)
  (h:DataW.trod enc P w base sp held fuel t cs=some (.agg (zs.map fun z=>.lit (.int k z)),p)):cs=zs.map fun z=>.int k z:=by
 obtain ⟨xs,m,_,ex,hl,hxl,hel⟩:=DataW.trod_array ht h
 have e3:(xs.map (·.1))=zs.map fun z=>.lit (.int k z):=(DataW.agg.inj (Prod.mk.inj ex).1).symm
 have hzl:zs.length=n:=by have:=congrArg List.length e3; simp only [List.length_map] at this; omega
 refine List.ext_getElem? fun i=>?_
 by_cases hi:i<n
 ·have hE:=hel i hi
  rw [hc,Nat.mul_one,List.getElem?_eq_getElem (by omega)] at hE
  obtain ⟨z,e1,e2,_⟩:=DataW.trod_int he hE
  have e4:(xs.map (·.1))[i]? = (zs.map fun z=>(DataW.lit (.int k z):DataW H))[i]?:=by rw [e3]
  rw [List.getElem?_map,List.getElem?_map,List.getElem?_eq_getElem (by omega:i<xs.length),List.getElem?_eq_getElem (by omega:i<zs.length),e2] at e4
  simp only [Option.map_some,Option.some.injEq,DataW.lit.injEq,Lit.int.injEq,true_and] at e4
  rw [List.getElem?_map,List.getElem?_eq_getElem (by omega:i<zs.length),Option.map_some,<- e4]
  have h0:((cs.drop i).take 1)[0]? = some (.int k z):=by rw [e1]; rfl
  simpa using h0
 ·rw [List.getElem?_eq_none (by omega),List.getElem?_eq_none (by rw [List.length_map]; omega)]
theorem adI {P:Program} {w:World} {n:String} {g:Nat} {cs:Array Value} (hg:P.globalNamed n=some g) (h:w.var? P n=some cs):cellsIn w g=some cs:=by
 unfold World.var? at h
 rw [hg,Option.bind_some] at h
 unfold cellsIn
 exact h
theorem adJ {P:Program} {laid:List (String×DataW Unit)} {w:World} (hp:(laid.all fun x=>x.2.handleName?.isNone)=true) (h:laidMetH P laid w) {n:String} {k:IntKind} {zs:List Int} {g m:Nat}
  (hm:(n,DataW.agg (zs.map fun z=>.lit (.int k z)))∈laid) (hg:P.globalNamed n=some g) (ht:UY P n m k=true):cellsIn w g=some (zs.map fun z=>Value.int k z).toArray:=by
 rw [MakeChecks.laidMetH_plain _ _ _ hp] at h
 obtain ⟨ps,hv,_⟩:=h
 obtain ⟨g',t,cs,fuel,p,h1,h2,h3,h4⟩:=UW hv _ hm
 have h1:P.globalNamed n=some g':=h1
 rw [h1] at hg; cases hg
 unfold UY UX at ht
 rw [h1,Option.bind_some,h2] at ht
 simp only [Bool.and_eq_true] at ht
 obtain ⟨ht1,ht⟩:=ht
 split at ht
 ·rename_i m' e hu
  simp only [Bool.and_eq_true] at ht
  obtain ⟨⟨q1,q2⟩,q3⟩:=ht
  split at q3
  ·rename_i k' hk
   have hk':=of_decide_eq_true q3
   subst hk'
   have:=adH hu hk (Nat.eq_of_beq_eq_true q2) (by rw [Nat.eq_of_beq_eq_true ht1,Nat.eq_of_beq_eq_true q1]) h4
   rw [adI h1 h3]; congr 1; rw [<- Array.toList_inj,this]
  ·cases q3
 ·cases ht
theorem LG {laid : List (String × DataW Unit)} {w : World} (hp : (laid.all fun x => x.2.handleName?.isNone) = true) (hm : ("internal/strconv.uint64pow10", Rows.laid_internal_strconv_uint64pow10) ∈ laid /\ True) (hsh : w.ShapedOpen Tryz.prog) (h : laidMetH Tryz.prog laid w) : GL w :=
 ⟨adJ (zs:=Lib.pow10Tab) (k:=.u64) (m:=20) hp h hm.1 (by kernel_rfl) (by kernel_rfl),cell_of_shapedOpen_int (zero:=#[.int .i64 0]) (t:=3) hsh (of_decide_eq_true (by kernel_rfl)) (by kernel_rfl) rfl (by kernel_rfl) (by kernel_rfl) Tryz.underlying3⟩
theorem LH {H:Type} {enc:TypeId×Value->H} {a:Assume} {C:Checked} {os:Os} {f:FuncId} {fn:Func} {s:ChangeSpec} {conds:List PathCond} {apart fresh handsOn again:Bool} {X:World->Array Value->Prop}
  (hX:∀ (w w':World) (args:Array Value),w.heap=w'.heap->X w args->X w' args)
  (own:ownKnob C.prog.godebug=none) (started:os.Started) (noInit:C.prog.inits.idxOf? f=none) (hfn:C.prog.funcs[f]? = some fn)
  (witness:∃ (w:World) (tape:Tape) (i:Input),w.os=os/\(w.forCall tape i).Shaped C.prog/\i.vars=[]/\Input.okWide C.prog (w.forCall tape i) .any w.heap.size f i /\
   ((s.pre enc C.prog fn conds apart (w.forCall tape i).memory i.args/\X (w.forCall tape i).memory i.args)/\sizedMet enc C.prog fn (OpenSpec.ofChange s) apart (w.forCall tape i).memory i.args)/\a.holds C.prog (lone (Frame.enter C.prog f i.args .normal) [] (w.forCall tape i)))
  (contract:∀ (W:World) (base:Nat) (args:Array Value) (ds gs:List (DataW H)) (before:List MemPlace),
   (∀ (j:Nat) t v,fn.params[j]? = some t->args[j]? = some v->Value.okWide C.prog W .any base t v) ->
   DataW.Whole enc C.prog fn.params.toList s.vars apart W args.toList ds gs before ->
   conds.all (PathCond.test C.prog ⟨fn.params.toList,ds,s.plain.varTypes C.prog,gs⟩)=true ->
   (DataW.weightsEach C.prog (fn.params.toList++s.plain.varTypes C.prog) (ds++gs)).all (·<=reachBytes)=true->X W args->W.ShapedOpen C.prog ->
   Calls C.prog f args W fun e W'=>∃ v,e = .returned v/\s.post enc C.prog fn apart fresh handsOn again W args v W') :
  ReturnsInHanded a C os f .any (fun w args=>(s.pre enc C.prog fn conds apart w args/\X w args)/\sizedMet enc C.prog fn (OpenSpec.ofChange s) apart w args) (s.post enc C.prog fn apart fresh handsOn again):=by
 refine returnsInHanded_of_calls own started noInit witness ?_
 intro w tape i _ hsh _ hok hpre _
 obtain ⟨_,_,_,fn',hfn',_,_,_,_,hval⟩:=hok
 have e:fn'=fn:=Option.some.inj (hfn'.symm.trans hfn)
 subst e
 obtain ⟨⟨⟨ds,gs,before,hw,hc⟩,hx⟩,hz⟩:=hpre
 have hw':=DataW.Whole.of_heap (w':=w.forCall tape i) (by rfl) hw
 refine (contract (w.forCall tape i) w.heap.size i.args ds gs before hval hw' hc (hz.weights hw) (hX _ _ _ (by rfl) hx) hsh).mono fun e W' ⟨v,he,hp⟩=>?_
 subst he
 exact ChangeSpec.post_blind hp
end Go.aT
