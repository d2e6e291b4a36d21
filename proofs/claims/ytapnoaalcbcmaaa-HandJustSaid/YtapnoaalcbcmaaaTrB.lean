/- Contracts over plain data: shapes of arguments and results. -/
import Derived.Test.YtapnoaalcbcmaaaTrA
namespace Go.Eng
open Go Go.RowKit

/-- A value of plain data: as an aggregate, or as one cell. -/
def encS : (g : Bool) → (t : Ty) → El t → AV
  | true, t, x => .agg (cellsT t x)
  | false, t, x => nth (cellsT t x) 0
def rdV (g : Bool) (t : Ty) (v : AV) : Option (El t) :=
  match g with
  | true => match v with | .agg cs => rdE t cs | _ => none
  | false => rdE t [v]

/-- Shapes of arguments. -/
inductive PS where
  | val (g : Bool) (t : Ty)
  | ptr (t : Ty)
  | mv (t u : Ty)
  | nilm
  | full (t : Ty)
  | flat (t : Ty)
  | cp (a : PS)
  | lst (a : PS)
  | nilp
  | nils
  | ref (b off : Nat)
  | selfp (b : Nat)
  | mp (b : Nat)
  | own (b : Nat)
  | any
  | fn (id : Nat) (first cap : PS)
  | nil
  | cons (a b : PS)

@[reducible] def ElP : PS → Type
  | .val _ t => El t
  | .ptr t => El t
  | .mv t u => List (El t × El u)
  | .full t => List (El t)
  | .flat t => El t
  | .cp a => ElP a
  | .lst a => ElP a
  | .fn _ f c => ElP f × ElP c
  | .cons a b => ElP a × ElP b
  | _ => Unit

def encP : (p : PS) → ElP p → List AV
  | .val g t, x => [encS g t x]
  | .ptr t, x => [.cptr (szT t) (nth (cellsT t x))]
  | .mv t u, x => [.mv t u x]
  | .nilm, _ => [.nilmap]
  | .full t, x => [.tsl t x true]
  | .flat t, x => cellsT t x
  | .cp a, x => [.cptr (lenA (encP a x)) (nth (encP a x))]
  | .lst a, x => [.lst 0 (encP a x)]
  | .nilp, _ => [.nilptr]
  | .nils, _ => [.nilsl]
  | .ref b off, _ => [.ref b off]
  | .selfp b, _ => [.selfp b]
  | .mp b, _ => [.mp b]
  | .own b, _ => [.ownT b]
  | .any, _ => [.undef]
  | .fn id f c, x => [.fn (.func id) (encP f x.1) (encP c x.2)]
  | .nil, _ => []
  | .cons a b, x => catA (encP a x.1) (encP b x.2)

/-! Empty places, written short. -/
abbrev ca (r : PS) : PS := .cons .any r
abbrev ca2 (r : PS) : PS := ca (ca r)
abbrev ca4 (r : PS) : PS := ca2 (ca2 r)
abbrev ca8 (r : PS) : PS := ca4 (ca4 r)
abbrev ca16 (r : PS) : PS := ca8 (ca8 r)
abbrev ca32 (r : PS) : PS := ca16 (ca16 r)
abbrev cu {r : PS} (x : ElP r) : ElP (ca r) := ((), x)
abbrev cu2 {r : PS} (x : ElP r) : ElP (ca2 r) := cu (r := ca r) (cu x)
abbrev cu4 {r : PS} (x : ElP r) : ElP (ca4 r) := cu2 (r := ca2 r) (cu2 x)
abbrev cu8 {r : PS} (x : ElP r) : ElP (ca8 r) := cu4 (r := ca4 r) (cu4 x)
abbrev cu16 {r : PS} (x : ElP r) : ElP (ca16 r) := cu8 (r := ca8 r) (cu8 x)
abbrev cu32 {r : PS} (x : ElP r) : ElP (ca32 r) := cu16 (r := ca16 r) (cu16 x)

def dc1 {α : Type} (f : AV → Option α) : List AV → Option (α × List AV)
  | [] => none
  | v :: r => match f v with | some x => some (x, r) | none => none
def dcPtr (t : Ty) : AV → Option (El t)
  | .cptr n c => match Nat.ble (szT t) n with | true => rdE t (tab c 0 (szT t)) | false => none
  | _ => none
def dcMv (t u : Ty) : AV → Option (List (El t × El u))
  | .mv t' u' l => castL (.pair t' u') (.pair t u) l
  | _ => none
def dcFull (t : Ty) : AV → Option (List (El t))
  | .tsl t' l true => castL t' t l
  | _ => none
def dcNilm : AV → Option Unit
  | .nilmap => some ()
  | _ => none
def dcNil : AV → Option Unit
  | .nilptr => some ()
  | _ => none
def dcNils : AV → Option Unit
  | .nilsl => some ()
  | _ => none
def dcRef (b off : Nat) : AV → Option Unit
  | .ref b' off' => match Nat.beq b b', Nat.beq off off' with | true, true => some () | _, _ => none
  | _ => none
def dcSelf (b : Nat) : AV → Option Unit
  | .nilptr => some ()
  | .selfp b' => match Nat.beq b b' with | true => some () | false => none
  | .ref b' 0 => match Nat.beq b b' with | true => some () | false => none
  | _ => none
def dcMp (b : Nat) : AV → Option Unit
  | .mp b' => match Nat.beq b b' with | true => some () | false => none
  | _ => none
def dcOwn (b : Nat) : AV → Option Unit
  | .ownT b' => match Nat.beq b b' with | true => some () | _ => none
  | _ => none

def decP : (p : PS) → List AV → Option (ElP p × List AV)
  | .val g t, l => dc1 (rdV g t) l
  | .ptr t, l => dc1 (dcPtr t) l
  | .mv t u, l => dc1 (dcMv t u) l
  | .nilm, l => dc1 dcNilm l
  | .full t, l => dc1 (dcFull t) l
  | .flat t, l => rdT t l
  | .cp a, l => match l with
    | .cptr n c :: r => match decP a (tab c 0 n) with
      | some (x, []) => some (x, r)
      | _ => none
    | _ => none
  | .lst a, l => match l with
    | .lst 0 vs :: r => match decP a vs with
      | some (x, []) => some (x, r)
      | _ => none
    | _ => none
  | .nilp, l => dc1 dcNil l
  | .nils, l => dc1 dcNils l
  | .ref b off, l => dc1 (dcRef b off) l
  | .selfp b, l => dc1 (dcSelf b) l
  | .mp b, l => dc1 (dcMp b) l
  | .own b, l => dc1 (dcOwn b) l
  | .any, l => dc1 (fun _ => some ()) l
  | .fn id f c, l => match l with
    | .fn (.func id') a b :: r => match Nat.beq id id', decP f a, decP c b with
      | true, some (x, []), some (y, []) => some ((x, y), r)
      | _, _, _ => none
    | _ => none
  | .nil, l => some ((), l)
  | .cons a b, l => match decP a l with
    | some (x, r) => match decP b r with
      | some (y, r') => some ((x, y), r')
      | none => none
    | none => none

/-- Shapes of what is answered. -/
inductive RS where
  | fresh (e : Nat) (u : Ty)
  | newv (e : Nat) (u : Ty)
  | vals (p : PS)
  | one (p : PS)
@[reducible] def ElR : RS → Type
  | .fresh _ u => List (El u)
  | .newv _ u => List (El u)
  | .vals p => ElP p
  | .one p => ElP p
def crR : (r : RS) → ElR r → CR
  | .fresh e u, l => .freshT e u l
  | .newv e u, l => .valN e u l
  | .vals (.val g t), x => .val (encS g t x)
  | .vals p, x => .val (.tup (encP p x))
  | .one p, x => .val (nth (encP p x) 0)

def resT (T : Tab) (A : AS) (vars : List ResultVar) : (rs : RS) → Tree (ElR rs)
  | .newv _ _ => .fail
  | .fresh e u => match vars with
    | [v] => match (aRes1 T A v).v with
      | .nilsl => .ret []
      | .emp => .ret []
      | .ownT b => match blk A.m b with
        | .trows e' u' l => match Nat.beq e e', castL u' u l with
          | true, some l => .ret l
          | _, _ => .fail
        | _ => .fail
      | .own b n => match blk A.m b with
        | .trows e' u' l => match Nat.beq e e', castL u' u l with
          | true, some l => .ret (l.take n)
          | _, _ => .fail
        | _ => .fail
      | _ => .fail
    | _ => .fail
  | .vals (.val g t) => match vars with
    | [v] => match rdV g t (borrow A.m (aRes1 T A v).v) with
      | some x => .ret x
      | none => .fail
    | _ => .fail
  | .vals p => match vars with
    | [_] => .fail
    | vars => match decP p (retVs T A vars) with
      | some (x, []) => .ret x
      | _ => .fail
  | .one p => match vars with
    | [v] => match decP p [borrow A.m (aRes1 T A v).v] with
      | some (x, []) => .ret x
      | _ => .fail
    | _ => .fail
def finT (T : Tab) (vars : List ResultVar) (rs : RS) (r : Exit × AS) : Tree (ElR rs) :=
  match r with
  | (.ret, A) => asksT (retKs T A vars) (resT T A vars rs)
  | (.normal, A) => asksT (retKs T A vars) (resT T A vars rs)
  | _ => .fail

def evF (T : Tab) (o : OrT) (c : Code) (nt : Nat) (vars : List ResultVar) (ps : PS) (rs : RS) (x : ElP ps) : Tree (ElR rs) :=
  (evT std T o c ⟨catA (encP ps x) (und (nt - lenA (encP ps x))), [], 0⟩).bind (finT T vars rs)

/-- A contract over plain data. -/
structure Sig where
  id : Nat
  ps : PS
  rs : RS
  f : ElP ps → Tree (ElR rs)
  d : ElR rs

def puOf : List Sig → Nat → List AV → Option CallT
  | [], _, _ => none
  | g :: l, id, args => match Nat.beq g.id id with
    | true => match decP g.ps args with
      | some (x, []) => some ⟨ElR g.rs, g.f x, crR g.rs, g.d⟩
      | _ => puOf l id args
    | false => puOf l id args



/-! States: slots and memory, as plain data. -/
inductive PM where
  | nil
  | cells (e : Nat) (p : PS) (r : PM)
  | rows (e : Nat) (t : Ty) (r : PM)
  | arr (e : Nat) (t : Ty) (r : PM)
  | map (t u : Ty) (r : PM)
  | fro (e : Nat) (t : Ty) (r : PM)
  | dead (r : PM)
  | siter (r : PM)
  | fam (r : PM)

@[reducible] def ElM : PM → Type
  | .nil => Unit
  | .cells _ p r => ElP p × ElM r
  | .rows _ t r => List (El t) × ElM r
  | .arr _ t r => List (El t) × ElM r
  | .map t u r => List (El t × El u) × ElM r
  | .fro _ t r => List (El t) × ElM r
  | .dead r => ElM r
  | .siter r => (List UInt8 × Nat) × ElM r
  | .fam r => (List (List UInt8 × (Int × (List UInt8 × Int))) × List (List (List UInt8 × Int))) × ElM r

def encM : (q : PM) → ElM q → Mem
  | .nil, _ => []
  | .cells e p r, x => .cells e (encP p x.1) :: encM r x.2
  | .rows e t r, x => .trows e t x.1 :: encM r x.2
  | .arr e t r, x => .arr e t x.1 :: encM r x.2
  | .map t u r, x => .map t u x.1 :: encM r x.2
  | .fro e t r, x => .fro e t x.1 :: encM r x.2
  | .dead r, x => .dead :: encM r x
  | .siter r, x => .siter x.1.1 x.1.2 :: encM r x.2
  | .fam r, x => .fam x.1.1 x.1.2 :: encM r x.2

def dcCells (e : Nat) (p : PS) : ABlk → Option (ElP p)
  | .cells e' cs => match Nat.beq e e', decP p cs with | true, some (x, []) => some x | _, _ => none
  | _ => none
def dcRows (e : Nat) (t : Ty) : ABlk → Option (List (El t))
  | .trows e' t' l => match Nat.beq e e' with | true => castL t' t l | false => none
  | _ => none
def dcArr (e : Nat) (t : Ty) : ABlk → Option (List (El t))
  | .arr e' t' l => match Nat.beq e e' with | true => castL t' t l | false => none
  | _ => none
def dcMap (t u : Ty) : ABlk → Option (List (El t × El u))
  | .map t' u' l => castL (.pair t' u') (.pair t u) l
  | _ => none
def dcFro (e : Nat) (t : Ty) : ABlk → Option (List (El t))
  | .fro e' t' l => match Nat.beq e e' with | true => castL t' t l | false => none
  | _ => none
def dcIter : ABlk → Option (List UInt8 × Nat)
  | .siter s n => some (s, n)
  | _ => none
def dcFam : ABlk → Option (List (List UInt8 × (Int × (List UInt8 × Int))) × List (List (List UInt8 × Int)))
  | .fam x y => some (x, y)
  | _ => none

def rdM : (q : PM) → Mem → Option (ElM q × Mem)
  | .nil, l => some ((), l)
  | .cells e p r, l => match l with
    | [] => none
    | B :: l => match dcCells e p B, rdM r l with
      | some x, some (y, l') => some ((x, y), l')
      | _, _ => none
  | .rows e t r, l => match l with
    | [] => none
    | B :: l => match dcRows e t B, rdM r l with
      | some x, some (y, l') => some ((x, y), l')
      | _, _ => none
  | .arr e t r, l => match l with
    | [] => none
    | B :: l => match dcArr e t B, rdM r l with
      | some x, some (y, l') => some ((x, y), l')
      | _, _ => none
  | .map t u r, l => match l with
    | [] => none
    | B :: l => match dcMap t u B, rdM r l with
      | some x, some (y, l') => some ((x, y), l')
      | _, _ => none
  | .fro e t r, l => match l with
    | [] => none
    | B :: l => match dcFro e t B, rdM r l with
      | some x, some (y, l') => some ((x, y), l')
      | _, _ => none
  | .dead r, l => match l with
    | [] => none
    | B :: l => match isCells B with
      | true => none
      | false => rdM r l
  | .siter r, l => match l with
    | [] => none
    | B :: l => match dcIter B, rdM r l with
      | some x, some (y, l') => some ((x, y), l')
      | _, _ => none
  | .fam r, l => match l with
    | [] => none
    | B :: l => match dcFam B, rdM r l with
      | some x, some (y, l') => some ((x, y), l')
      | _, _ => none

@[reducible] def ElA (p : PS) (q : PM) : Type := ElP p × ElM q
def encA (p : PS) (q : PM) (np : Nat) (z : ElA p q) : AS := ⟨encP p z.1, encM q z.2, np⟩
def rdA (p : PS) (q : PM) (np : Nat) (A : AS) : Option (ElA p q) :=
  match Nat.beq A.np np, decP p A.ts, rdM q A.m with
  | true, some (x, []), some (y, l) => match l with
    | [] => some (x, y)
    | _ :: _ => match Nat.ble np (lenM (encM q y)), closedL (lenM (encM q y)) (encP p x), closedM (lenM (encM q y)) (encM q y) with
      | true, true, true => some (x, y)
      | _, _, _ => none
  | _, _, _ => none

/-- The ways out of a loop: 0 stands for 'return', i + 1 for the end of block i. -/
inductive XS where
  | one (x : Nat) (pre : List Pre) (p : PS) (q : PM)
  | more (x : Nat) (pre : List Pre) (p : PS) (q : PM) (r : XS)
  | norm (p : PS) (q : PM)
@[reducible] def ElX : XS → Type
  | .one _ _ p q => ElA p q
  | .more _ _ p q r => ElA p q ⊕ ElX r
  | .norm p q => ElA p q
def exitOf : Nat → Exit
  | 0 => .ret
  | i + 1 => .exit i
def isX (x : Nat) : Exit → Bool
  | .ret => match x with | 0 => true | _ => false
  | .exit i => match x with | 0 => false | j + 1 => Nat.beq i j
  | _ => false
def encX (np : Nat) : (xs : XS) → ElX xs → Tree (Exit × AS)
  | .one x _ p q, z => .ret (exitOf x, encA p q np z)
  | .more x _ p q r, z => match z with
    | .inl z => .ret (exitOf x, encA p q np z)
    | .inr z => encX np r z
  | .norm p q, z => .ret (.normal, encA p q np z)
def rdX (np : Nat) (e : Exit) (A : AS) : (xs : XS) → Option (ElX xs)
  | .one x pre p q => match isX x e with | true => rdA p q np (preA pre A) | false => none
  | .more x pre p q r => match isX x e with
    | true => match rdA p q np (preA pre A) with | some z => some (.inl z) | none => none
    | false => match rdX np e A r with | some z => some (.inr z) | none => none
  | .norm _ _ => none

/-- A round of a loop, read as plain data. -/
def endRound (pre : List Pre) (p : PS) (q : PM) (np : Nat) (xs : XS) (r : Exit × AS) : Tree (ElA p q ⊕ ElX xs) :=
  match r with
  | (.normal, A) => match rdA p q np (preA pre A) with | some z => .ret (.inl z) | none => .fail
  | (e, A) => match rdX np e A xs with | some z => .ret (.inr z) | none => .fail

/-- A loop's contract. -/
structure Lp where
  key : Nat
  pre : List Pre
  rpre : List Pre
  p : PS
  q : PM
  np : Nat
  xs : XS
  f : ElA p q → Tree (ElX xs)

def lpOf : List Lp → Nat → AS → Option (Tree (Exit × AS))
  | [], _, _ => none
  | g :: l, k, A => match Nat.beq g.key k with
    | true => match rdA g.p g.q g.np (preA g.pre A) with
      | some z => some ((g.f z).bind (encX g.np g.xs))
      | none => lpOf l k A
    | false => lpOf l k A

def orT (l : List Sig) (lps : List Lp) (fz : Nat → List Pre) : OrT := ⟨puOf l, fun _ _ _ => none, lpOf lps, fz⟩
def noFz : Nat → List Pre := fun _ => []

/-! Words of the lifted texts. -/
abbrev Str := List UInt8
@[reducible] def ask {α : Type} (k : Bool) (t : Tree α) : Tree α := .ite k t .fail
abbrev w64 (x : Int) : Int := IntKind.i64.wrap x
abbrev inb (i : Int) (n : Nat) : Bool := std.inb i n
abbrev inbe (i : Int) (n : Nat) : Bool := std.inbe i n
abbrev ltS (a b : Str) : Bool := Op.bytesLess a b
abbrev sgetI (s : Str) (i : Int) : Int := std.sget s i.toNat
abbrev subS (s : Str) (l h : Nat) : Str := std.ssub s l h

end Go.Eng
