/- The order of a list by insertion; each once: plain functions that can be reckoned. -/
import Derived.Test.YtjkhncojgilbaaaGreatDoorTrI
namespace Go.aT
open Go
def Bj {α:Type} (le:α->α->Bool) (x:α):List α->List α
 | []=>[x]
 | y::l=>match le x y with | true=>x::y::l | false=>y::Bj le x l
def Ey {α:Type} (le:α->α->Bool):List α->List α
 | []=>[]
 | x::l=>Bj le x (Ey le l)
theorem YV {α:Type} (le:α->α->Bool) (x:α) (l:List α):(Bj le x l).Perm (x::l):=by
 induction l with
 | nil=>exact List.Perm.refl _
 | cons y l ih =>
  simp only [Bj]
  cases le x y with
  | true=>exact List.Perm.refl _
  | false=>exact (List.Perm.cons y ih).trans (List.Perm.swap x y l)
theorem Xf {α:Type} (le:α->α->Bool) (l:List α):(Ey le l).Perm l:=by
 induction l with
 | nil=>exact List.Perm.refl _
 | cons x l ih=>exact (YV le x _).trans (List.Perm.cons x ih)
theorem ai8 {α:Type} {le:α->α->Bool} (ht:∀ a b c,le a b=true->le b c=true->le a c=true) (hto:∀ a b,le a b=false->le b a=true) (x:α) {l:List α} (h:l.Pairwise fun a b=>le a b=true):(Bj le x l).Pairwise fun a b=>le a b=true:=by
 induction l with
 | nil=>exact List.pairwise_singleton _ _
 | cons y l ih =>
  have h':=List.pairwise_cons.1 h
  simp only [Bj]
  cases hx:le x y with
  | true =>
   refine List.Pairwise.cons (fun z hz=>?_) h
   rcases List.mem_cons.1 hz with rfl | hz
   ·exact hx
   ·exact ht _ _ _ hx (h'.1 z hz)
  | false =>
   refine List.Pairwise.cons (fun z hz=>?_) (ih h'.2)
   rcases List.mem_cons.1 ((YV le x l).mem_iff.1 hz) with rfl | hz
   ·exact hto _ _ hx
   ·exact h'.1 z hz
theorem ag9 {α:Type} {le:α->α->Bool} (ht:∀ a b c,le a b=true->le b c=true->le a c=true) (hto:∀ a b,le a b=false->le b a=true) (l:List α):(Ey le l).Pairwise fun a b=>le a b=true:=by
 induction l with
 | nil=>exact List.Pairwise.nil
 | cons x l ih=>exact ai8 ht hto x ih
def leI (a b:Int):Bool:=decide (a<=b)
def oO (a b:Str):Bool:=!eY b a
abbrev aj8 (l:List Int):List Int:=Ey leI l
abbrev Xe (l:List Str):List Str:=Ey oO l
theorem aha (a b c:Str) (h:oO a b=true) (k:oO b c=true):oO a c=true:=by
 unfold oO at *
 simp only [Bool.not_eq_true'] at *
 cases hca:eY c a with
 | false=>rfl
 | true =>
  exfalso
  cases hab:eY a b with
  | true=>have:=LM hca hab; rw [show eY c b=true from this] at k; cases k
  | false=>have e:a=b:=Xd hab h; subst e; rw [hca] at k; cases k
theorem ahb (a b:Str) (h:oO a b=false):oO b a=true:=by
 unfold oO at *
 simp only [Bool.not_eq_false',Bool.not_eq_true'] at *
 exact aiW h
def xg {α:Type} (eq:α->α->Bool) (x:α):List α->List α
 | []=>[]
 | y::l=>match eq y x with | true=>xg eq x l | false=>y::xg eq y l
def Ec {α:Type} (eq:α->α->Bool):List α->List α
 | []=>[]
 | x::l=>x::xg eq x l
def PV (a b:Str):Bool:=a==b
end Go.aT
