/- Registers: whether one may be, which of two is newer, what they come to, the next one: the program's functions and the reference's come to the same plain ones. -/
import Derived.Test.YtjkhncojgilbaaaGreatDoorM57
import Derived.Test.YtjkhncojgilbaaaGreatDoorK05
namespace Go.aT
open Go Go.Proofs
def LK (r:ik):Bool:=decide ((1:Int)<=r.1)&&decide (r.1<=9007199254740992)&&((r.2.1==([]:Str))||jc r.2.1)&&decide (r.2.2.length<=256)
theorem adT (r:ik) (h:r.2.1.length<=1000000):(GM r).run=some (LK r):=by
 unfold GM LK
 simp only [Tree.run,CL _ h,Option.isNone_some,Bool.and_false,cond_false,Option.getD_some]
 have f3:decide ((r.2.2.length:Int)<=256)=decide (r.2.2.length<=256):=by rw [decide_eq_decide]; omega
 rw [f3]
