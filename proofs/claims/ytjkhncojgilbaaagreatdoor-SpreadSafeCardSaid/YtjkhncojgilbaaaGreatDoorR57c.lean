/- SpreadSafe: it returns true whatever its arguments are; the package-level variables that it lists hold what the program's text lays down. Conditions: none. -/
import Derived.Test.YtjkhncojgilbaaaGreatDoorV57
import Derived.Test.YtjkhncojgilbaaaGreatDoorGlc
import Derived.Test.YtjkhncojgilbaaaGreatDoorCards
import Derived.Test.YtjkhncojgilbaaaGreatDoorTie
import Derived.SevenTiedAt
import Derived.Stop.Joined
namespace Go.Proofs.YtjkhncojgilbaaaGreatDoor
open Go Go.aT Go.ChangeShapes Go.WideShapes Go.ChangeAt Go.RowKit
theorem own:ownKnob Tryz.prog.godebug=none:=by kernel_rfl
theorem laidOut:laidOutB Tryz.prog=true:=by kernel_rfl
set_option maxRecDepth 100000 in
theorem spreadSafe_lifted (os:Os) (started:os.Started) (H:Type) (enc:TypeId×Value->H) :
  ReturnsInHanded {} Tryz.checked os 5 .any (fun w args=>(Rows.spreadSafeSpec.pre enc Tryz.prog Tryz.f5 Rows.spreadSafeRow.domain false w args/\laidMetH Tryz.prog Rows.spreadSafeRow.laid w)/\sizedMet enc Tryz.prog Tryz.f5 (OpenSpec.ofChange Rows.spreadSafeSpec) false w args)
   (Rows.spreadSafeSpec.post enc Tryz.prog Tryz.f5 false true false false):=by
 refine LH (C:=Tryz.checked) (X:=fun w _=>laidMetH Tryz.prog Rows.spreadSafeRow.laid w) (fun _ _ _ hh h=>h.of_heap hh) own started (by kernel_rfl) Tryz.func5
  (ChangeSpec.witness_shaped (enc:=enc) (C:=Tryz.checked) (os:=os) (X:=fun w _=>laidMetH Tryz.prog Rows.spreadSafeRow.laid w) false (World.laidAll Tryz.prog os Rows.spreadSafeRow.laid) #[.slice none 0 0,.int .u8 0] 8 (World.laidAll_os _ _ _)
   (World.shaped_of_ZipB (by kernel_rfl) (by kernel_rfl)) (by kernel_rfl) (by kernel_rfl) (by kernel_rfl)
   (by rw [MakeChecks.laidMetH_plain _ _ _ (by kernel_rfl)]; exact laidMet_laidAll _ (by kernel_rfl) (by kernel_rfl))) ?_
 intro W base args ds gs before hval hW _ _ hL hsh
 have hL:laidMetH Tryz.prog Rows.spreadSafeRow.laid W:=hL
 refine PZ (g:=DI) aI laidOut bq Tryz.func5 rfl rfl rfl Tryz.underlying4 ?_ (by kernel_rfl) (F:=8) (by kernel_rfl) (by kernel_rfl) (fun x hx=>aA.law afk (tr:=true) rfl (aht x hx)) hval hW
  (LG (by kernel_rfl) (by repeat' (first | exact trivial | refine ⟨?_,?_⟩ | exact List.Mem.head _ | apply List.Mem.tail)) hsh hL)
 intro ds hd
 match ds,hd with
 | [d0,d1],_=>exact ⟨rfl,rfl,rfl⟩
theorem spreadSafe_holds:Rows.SpreadSafeSaid :=
 OpenClaim.holds_of_wide 5 Tryz.f5 rfl rfl rfl rfl rfl rfl rfl ⟨rfl,rfl,rfl,rfl,rfl⟩ rfl rfl rfl rfl rfl (by kernel_rfl) Tryz.func5 (by kernel_rfl)
  (of_decide_eq_true (by kernel_rfl)) (by unfold Func.isWrapper; first | (rw [if_pos (by decide +kernel)]; kernel_rfl) | (rw [if_neg (by decide +kernel)]; exact ⟨rfl,rfl⟩))
  (fun os started H enc _=>spreadSafe_lifted os started H enc)
theorem spreadSafe_card_holds:Rows.SpreadSafeCardSaid :=
 Claim7.holds_tied_plain_at .later [] [.data, .data, .data, .data, .pinned] true (true, "daa82fd4780cbda3d4b6ae98c906027b6157fd4cd5c888274da4782d269f8c63") false spreadSafe_holds (fun _ h => by cases h) (by kernel_rfl) (fun _ h => by cases h) spreadSafe_row_tie rfl ⟨rfl, rfl⟩ (by kernel_rfl) rfl
  (fun f fn hf hfn=>by
   obtain rfl : f = 5 := Option.some.inj ((show Tryz.prog.funcNamed "pantler/pantlerlaw57.SpreadSafe" = some 5 by kernel_rfl).symm.trans hf) |>.symm
   obtain rfl:fn=Tryz.f5:=(Option.some.inj (Tryz.func5.symm.trans hfn)).symm
   exact ⟨by kernel_rfl,fun j t ht=>by
    rw [Tryz.params5] at ht
    have hm:t ∈ [22,5]:=by simpa using Array.mem_of_getElem? ht
    have hall:([22,5].all fun u=>!Tryz.prog.wantsStandIn u)=true:=by kernel_rfl
    exact (show Tryz.prog.wantsStandIn t=false by simpa using List.all_eq_true.1 hall t hm)⟩)
  (by kernel_rfl)
end Go.Proofs.YtjkhncojgilbaaaGreatDoor
