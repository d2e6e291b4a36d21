/- Maps in map values: the operations. -/
import Derived.Test.YtjkhncojgilbaaaGreatDoorEngMp
namespace Go.aT
open Go Go.RowKit
variable {P:Program} {T:aX} {base:Env} {w:World} {S:Nat->Prop} {m:aY} {M:Mem}
theorem Rel.flat {v:Value} {a:AV} (h:Rel w S m v a) (hf:flat a=true) (S':Nat->Prop) (m':aY):Rel w S' m' v a:=by
 have sc:∀ {v:Value} {a:AV},Rel w S m v a->scalar a=true->Rel w S' m' v a:=fun {v a} h hs=>by
  cases h with
  | int _ k n h=>exact .int _ _ _ h
  | bool=>exact .bool _ _
  | str _ s h=>exact .str _ _ h
  | undef=>exact .undef _ _
  | _=>simp [scalar] at hs
 cases a with
 | agg cs =>
  cases h with
  | agg _ vs _ hl h1 h =>
   refine .agg _ _ _ hl h1 fun i hi=>sc (h i hi) ?_
   simp only [aT.flat] at hf
   clear h h1 hl
   induction cs generalizing i with
   | nil=>simp [au] at hi
   | cons a l ih =>
    simp only [Kj] at hf
    split at hf
    ·cases i with
     | zero=>assumption
     | succ i=>exact ih hf i (by simp [au] at hi; omega)
    ·simp at hf
 | _=>exact sc h (by simpa [aT.flat] using hf)
theorem abY (hT:bG P T) (hM:aV base w S m M) (t:TypeId) (hk:aG (Kl T M t).ks):cB base w S m P (Kl T M t) (Instr.makeMap t none):=acL hT hM t hk
theorem abZ (hT:bG P T) (hM:aV base w S m M) (t:TypeId) (ok:Bool) {vx vk:Value} {x k:AV} (hx:Rel w S m vx x) (hkv:Rel w S m vk k) (hk:aG (BP T M t x k ok).ks) :
  cB base w S m P (BP T M t x k ok) (Instr.lookup t vx vk ok):=acM hT hM t ok hx hkv hk
theorem abW (hT:bG P T) (hM:aV base w S m M) (t kt0 ty:TypeId) {vx vk:Value} {x k:AV} (hx:Rel w S m vx x) (hkv:Rel w S m vk k) (hk:aG (Km T M t x k).ks) :
  cB base w S m P (Km T M t x k) (Builtin.delete_ #[t,kt0] ty #[vx,vk]):=acN hT hM t kt0 ty hx hkv hk
theorem ab0 (hT:bG P T) (hM:aV base w S m M) (t:TypeId) {vx vk vv:Value} {x k v:AV} (hx:Rel w S m vx x) (hkv:Rel w S m vk k) (hvv:Rel w S m vv v) (hk:aG (Kn ae T M t x k v).ks) :
  vU base w S m P (Kn ae T M t x k v) (Instr.mapUpdate t vx vk vv):=acO hT hM t hx hkv hvv hk
end Go.aT
