/- Go's library over lists, as plain functions: what the lifted loops come to. -/
import Derived.Test.YthmlpkdgmpbffaaGreatDoorTrH
namespace Go.Eng
open Go

/-- One behind another: each is good by what was ahead of it. -/
def chain {α γ : Type} (good : γ → α → Bool) (next : γ → α → γ) : γ → List α → Bool
  | _, [] => true
  | c, x :: l => good c x && chain good next (next c x) l
end Go.Eng
