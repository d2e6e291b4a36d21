/- An abstract machine for Go code: abstract values, abstract memory, the operations on them. Nothing is proved here. -/
import Derived.WalkKit
namespace Go.Eng
open Go

/-- Codes of plain data. -/
inductive Ty where
  | int (k : IntKind)
  | bool
  | str
  | pair (a b : Ty)
  | list (e : Ty)
  | smap
  deriving DecidableEq, Inhabited

/-- Plain data. -/
@[reducible] def El : Ty → Type
  | .int _ => Int
  | .bool => Bool
  | .str => List UInt8
  | .pair a b => El a × El b
  | .list e => List (El e)
  | .smap => List (List UInt8 × Int)

def szT : Ty → Nat
  | .pair a b => szT a + szT b
  | _ => 1

def dfl : (t : Ty) → El t
  | .int _ => (0 : Int)
  | .bool => false
  | .str => []
  | .pair a b => (dfl a, dfl b)
  | .list _ => []
  | .smap => []

/-- Abstract values. -/
inductive AV where
  | undef
  | int (k : IntKind) (n : Int)
  | bool (b : Bool)
  | str (s : List UInt8)
  | agg (cs : List AV)
  | tup (vs : List AV)
  | nilptr
  | cptr (n : Nat) (c : Nat → AV)
  | ref (b off : Nat)
  | selfp (b : Nat)
  | asl (b n : Nat)
  | mp (b : Nat)
  | sub (b j : Nat)
  | mv (t u : Ty) (l : List (El t × El u))
  | lst (k : Nat) (vs : List AV)
  | eref (b i off : Nat)
  | slice (sz n : Nat) (full : Bool) (c : Nat → Nat → AV)
  | tsl (t : Ty) (l : List (El t)) (full : Bool)
  | nilsl
  | emp
  | own (b n : Nat)
  | ownT (b : Nat)
  | tail (b lo n : Nat)
  | fn (f : Fn) (first captured : List AV)
  | nilfn
  | nilmap
  | niliface
  | nxt (b : Bool) (vs : List AV)
  | nilB (n : Nat)
  | clo (id : Nat) (first cap : List AV)
  deriving Inhabited

inductive ABlk where
  | cells (e : TypeId) (cs : List AV)
  | rows (e : TypeId) (sz n : Nat) (c : Nat → Nat → AV)
  | trows (e : TypeId) (t : Ty) (l : List (El t))
  | arr (e : TypeId) (t : Ty) (l : List (El t))
  | fro (e : TypeId) (t : Ty) (l : List (El t))
  | map (t u : Ty) (l : List (El t × El u))
  | siter (s : List UInt8) (pos : Nat)
  | fam (x : List (List UInt8 × (Int × (List UInt8 × Int)))) (y : List (List (List UInt8 × Int)))
  | dead
  deriving Inhabited

abbrev Mem := List ABlk

inductive TD where
  | int (k : IntKind) | bool | str
  | struct (fs : List (Nat × Nat))
  | array (n e : Nat)
  | slice (e : Nat)
  | map (k e : Nat)
  | ptr (e : Nat)
  | func
  | other
  deriving Inhabited

structure TyI where
  d : TD
  sz : Nat
  bytes : Nat
  z : List AV
  ty : Option Ty := none
  deriving Inhabited

abbrev Tab := List TyI

/-- The primitive functions on data: a record, so that evaluation can leave them closed. -/
structure Prims where
  arith : BinOp → IntKind → Int → Int → Int
  shift : BinOp → IntKind → Int → Int → Int
  conv : IntKind → Int → Int
  lt : Int → Int → Bool
  le : Int → Int → Bool
  eq : Int → Int → Bool
  imax : Int → Int → Int
  imin : Int → Int → Int
  not : Bool → Bool
  and : Bool → Bool → Bool
  or : Bool → Bool → Bool
  beq : Bool → Bool → Bool
  imp : Bool → Bool → Bool
  inb : Int → Nat → Bool
  inbe : Int → Nat → Bool
  ble : Nat → Nat → Bool
  ofNat : Nat → Int
  toNat : Int → Nat
  nadd : Nat → Nat → Nat
  nsub : Nat → Nat → Nat
  nmul : Nat → Nat → Nat
  nmin : Nat → Nat → Nat
  neq : Nat → Nat → Bool
  slen : List UInt8 → Nat
  sget : List UInt8 → Nat → Int
  ssub : List UInt8 → Nat → Nat → List UInt8
  scat : List UInt8 → List UInt8 → List UInt8
  seq : List UInt8 → List UInt8 → Bool
  slt : List UInt8 → List UInt8 → Bool
  rune : List UInt8 → Nat → Int
  npos : List UInt8 → Nat → Nat

def stdArith : BinOp → IntKind → Int → Int → Int
  | .add, k, a, b => k.wrap (a + b)
  | .sub, k, a, b => k.wrap (a - b)
  | .mul, k, a, b => k.wrap (a * b)
  | .quo, k, a, b => k.wrap (a.tdiv b)
  | .rem, _, a, b => a.tmod b
  | .and, k, a, b => k.wrap ((BitVec.ofInt k.bits a &&& BitVec.ofInt k.bits b).toNat : Int)
  | .or, k, a, b => k.wrap ((BitVec.ofInt k.bits a ||| BitVec.ofInt k.bits b).toNat : Int)
  | .xor, k, a, b => k.wrap ((BitVec.ofInt k.bits a ^^^ BitVec.ofInt k.bits b).toNat : Int)
  | .andNot, k, a, b => k.wrap ((BitVec.ofInt k.bits a &&& ~~~(BitVec.ofInt k.bits b)).toNat : Int)
  | _, _, _, _ => 0

def stdShift : BinOp → IntKind → Int → Int → Int
  | .shl, k, a, b => k.wrap (a * 2 ^ (min b.toNat k.bits))
  | _, k, a, b => a.fdiv (2 ^ (min b.toNat k.bits))

def bytes (s : List UInt8) : ByteArray := ⟨s.toArray⟩

def std : Prims where
  arith := stdArith
  shift := stdShift
  conv := fun k n => k.wrap n
  lt := fun a b => decide (a < b)
  le := fun a b => decide (a ≤ b)
  eq := fun a b => decide (a = b)
  imax := fun a b => if b > a then b else a
  imin := fun a b => if b < a then b else a
  not := fun a => !a
  and := fun a b => a && b
  or := fun a b => a || b
  beq := fun a b => a == b
  imp := fun a b => !a || b
  inb := fun i n => decide (0 ≤ i ∧ i < n)
  inbe := fun i n => decide (0 ≤ i ∧ i ≤ n)
  ble := fun a b => decide (a ≤ b)
  ofNat := fun n => (n : Int)
  toNat := fun i => i.toNat
  nadd := fun a b => a + b
  nsub := fun a b => a - b
  nmul := fun a b => a * b
  nmin := fun a b => min a b
  neq := fun a b => decide (a = b)
  slen := fun s => s.length
  sget := fun s i => ((s.getD i 0).toNat : Int)
  ssub := fun s l h => (s.drop l).take (h - l)
  scat := fun a b => a ++ b
  seq := fun a b => a == b
  slt := fun a b => Op.bytesLess a b
  rune := fun s i => (Utf8.decode (bytes s) i).1
  npos := fun s i => if i < s.length then i + (Utf8.decode (bytes s) i).2 else i

/-! Plain helpers, written for evaluation. -/
def nth : List AV → Nat → AV
  | [], _ => .undef
  | a :: _, 0 => a
  | _ :: l, n + 1 => nth l n

def put : List AV → Nat → AV → List AV
  | [], _, _ => []
  | _ :: l, 0, v => v :: l
  | a :: l, n + 1, v => a :: put l n v

def blk : Mem → Nat → ABlk
  | [], _ => .dead
  | a :: _, 0 => a
  | _ :: l, n + 1 => blk l n

def setBlk : Mem → Nat → ABlk → Mem
  | [], _, _ => []
  | _ :: l, 0, v => v :: l
  | a :: l, n + 1, v => a :: setBlk l n v

def tyi : Tab → Nat → TyI
  | [], _ => ⟨.other, 0, 0, [], none⟩
  | a :: _, 0 => a
  | _ :: l, n + 1 => tyi l n

/-! The plain data of a type. -/
def tyFs (f : Nat → Option Ty) : List (Nat × Nat) → Option Ty
  | [] => none
  | [(t, _)] => f t
  | (t, _) :: l => match f t, tyFs f l with
    | some a, some b => some (.pair a b)
    | _, _ => none
def tyRep (u : Ty) : Nat → Ty
  | 0 => u
  | n + 1 => .pair u (tyRep u n)
def tyTy (T : Tab) : Nat → Nat → Option Ty
  | 0, _ => none
  | n + 1, t => match (tyi T t).d with
    | .int k => some (.int k)
    | .bool => some .bool
    | .str => some .str
    | .slice e => match tyTy T n e with | some u => some (.list u) | none => none
    | .struct fs => tyFs (tyTy T n) fs
    | .array 0 _ => none
    | .array (k + 1) e => match Nat.ble k 8, tyTy T n e with | true, some u => some (tyRep u k) | _, _ => none
    | _ => none
def addTyF (T : Tab) : Nat → Tab → Tab
  | _, [] => []
  | i, a :: l => ⟨a.d, a.sz, a.bytes, a.z, tyTy T 8 i⟩ :: addTyF T (i + 1) l
def addTy (T : Tab) : Tab := addTyF T 0 T

def tab (c : Nat → AV) : Nat → Nat → List AV
  | _, 0 => []
  | i, n + 1 => c i :: tab c (i + 1) n

def takeN : Nat → List AV → List AV
  | 0, _ => []
  | _, [] => []
  | n + 1, a :: l => a :: takeN n l

def dropN : Nat → List AV → List AV
  | 0, l => l
  | _, [] => []
  | n + 1, _ :: l => dropN n l

def lenA : List AV → Nat
  | [] => 0
  | _ :: l => lenA l + 1

def lenM : Mem → Nat
  | [] => 0
  | _ :: l => lenM l + 1

def catA : List AV → List AV → List AV
  | [], l => l
  | a :: k, l => a :: catA k l

def snocM : Mem → ABlk → Mem
  | [], b => [b]
  | a :: l, b => a :: snocM l b

/-- A map whose values hold maps, as others see it. -/
abbrev viewT : Ty := .pair (.int .i64) (.pair .str .smap)
def famView (x : List (List UInt8 × (Int × (List UInt8 × Int)))) (y : List (List (List UInt8 × Int))) : List (El .str × El viewT) := x.map fun p => (p.1, (p.2.1, (p.2.2.1, y.getD (p.2.2.2.toNat + 1) [])))
def isView : Ty → Bool
  | .pair (.int .i64) (.pair .str .smap) => true
  | _ => false
/-- Is a map of one's own nil? -/
def mpNil : ABlk → Option Bool
  | .map _ _ _ => some false
  | .fam _ y => some (Nat.beq y.length 0)
  | _ => none
def isCells : ABlk → Bool
  | .cells _ _ => true
  | .map _ _ _ => true
  | _ => false

/-- A value that fills just one cell. -/
def isCell : AV → Bool
  | .int .. | .bool _ | .str _ | .nilptr | .cptr .. | .ref .. | .selfp _ | .asl .. | .mp _ | .sub .. | .mv .. | .eref .. | .slice .. | .tsl .. | .nilsl | .emp | .own .. | .ownT _ | .tail .. | .fn .. | .clo .. | .nilfn | .nilmap | .niliface => true
  | _ => false

def allCells : List AV → Bool
  | [] => true
  | a :: l => match isCell a with | true => allCells l | false => false

/-! Plain data as cells, and back. -/
def cellsT : (t : Ty) → El t → List AV
  | .int k, n => [.int k n]
  | .bool, b => [.bool b]
  | .str, s => [.str s]
  | .pair a b, x => catA (cellsT a x.1) (cellsT b x.2)
  | .list e, l => [.tsl e l false]
  | .smap, l => [.mv .str (.int .i64) l]

def rowT (t : Ty) (l : List (El t)) (i : Nat) : List AV := cellsT t (l.getD i (dfl t))
def vw (t : Ty) (l : List (El t)) (i j : Nat) : AV := nth (rowT t l i) j

def castL (t t' : Ty) (l : List (El t)) : Option (List (El t')) :=
  match decEq t t' with
  | isTrue h => some (Eq.rec (motive := fun u _ => List (El u)) l h)
  | isFalse _ => none

def rdI (k : IntKind) : List AV → Option (Int × List AV)
  | .int k' n :: r => match decide (k = k') with | true => some (n, r) | false => none
  | _ => none
def rdB : List AV → Option (Bool × List AV)
  | .bool b :: r => some (b, r)
  | _ => none
def rdS : List AV → Option (List UInt8 × List AV)
  | .str s :: r => some (s, r)
  | _ => none
def rdL (e : Ty) : List AV → Option (List (El e) × List AV)
  | .tsl e' l _ :: r => match castL e' e l with | some l => some (l, r) | none => none
  | .nilsl :: r => some ([], r)
  | .emp :: r => some ([], r)
  | _ => none
def rdT : (t : Ty) → List AV → Option (El t × List AV)
  | .int k, cs => rdI k cs
  | .bool, cs => rdB cs
  | .str, cs => rdS cs
  | .pair a b, cs => match rdT a cs with
    | some (x, r) => match rdT b r with
      | some (y, r') => some ((x, y), r')
      | none => none
    | none => none
  | .list e, cs => rdL e cs
  | .smap, _ => none

def rdE (t : Ty) (cs : List AV) : Option (El t) := match rdT t cs with | some (x, []) => some x | _ => none

def rdRows (t : Ty) : Nat → List AV → Option (List (El t))
  | 0, [] => some []
  | 0, _ => none
  | n + 1, cs => match rdT t cs with
    | some (x, r) => match rdRows t n r with
      | some l => some (x :: l)
      | none => none
    | none => none

/-- Old rows, as typed ones: what is read for the untyped machine. -/
def clearL {α : Type} (lo n : Nat) (x : α) (l : List α) : List α := l.mapIdx fun i y => match decide (lo ≤ i ∧ i < lo + n) with | true => x | false => y

def cellsOf : AV → List AV
  | .agg cs => cs
  | v => [v]

/-- No part of it lies in the memory of the call's own, and it points to nothing. -/
def scalar : AV → Bool
  | .int .. | .bool _ | .str _ => true
  | _ => false

def allScalar : List AV → Bool
  | [] => true
  | a :: l => match scalar a with | true => allScalar l | false => false

/-- No part of it lies in the memory of the call's own. -/
def outside : AV → Bool
  | .int .. | .bool _ | .str _ | .nilptr | .cptr .. | .slice .. | .tsl .. | .mv .. | .nilsl | .emp | .clo .. | .nilfn | .nilmap | .niliface => true
  | _ => false

def allOutside : List AV → Bool
  | [] => true
  | a :: l => match outside a with | true => allOutside l | false => false

/-- A value, or parts of one, none of which lies in the memory of the call's own. -/
def plainV : AV → Bool
  | .agg cs => allOutside cs
  | v => outside v
def allPlain : List AV → Bool
  | [] => true
  | a :: l => match plainV a with | true => allPlain l | false => false

/-- A constant of the code. -/
def lenU : List UInt8 → Nat
  | [] => 0
  | _ :: l => lenU l + 1

def ofVal : Value → AV
  | .int k n => match (Lit.int k n).wf with | true => .int k n | false => .undef
  | .bool b => .bool b
  | .string s => match Nat.ble (lenU s.data.toList) 100000 with | true => .str s.data.toList | false => .undef
  | .pointer none => .nilptr
  | .slice none 0 0 => .nilsl
  | .nilFunc => .nilfn
  | .map none => .nilmap
  | .nilIface => .niliface
  | _ => .undef

def ofVals : List Value → List AV
  | [] => []
  | v :: l => ofVal v :: ofVals l

def opnd (ts : List AV) : Operand → AV
  | .tmp t => nth ts t
  | .const (.agg cs) => match allCells (ofVals cs.toList) with | true => .agg (ofVals cs.toList) | false => .undef
  | .const v => ofVal v
  | .func f => .fn (.func f) [] []
  | .global _ => .undef

def opnds (ts : List AV) : List Operand → List AV
  | [] => []
  | o :: l => opnd ts o :: opnds ts l

/-- What an operation comes to. -/
structure R where
  v : AV
  m : Mem
  ks : List Bool
  inv : Option Nat

def bad (m : Mem) : R := ⟨.undef, m, [false], none⟩
def val (m : Mem) (v : AV) : R := ⟨v, m, [], none⟩
def valIf (m : Mem) (k : Bool) (v : AV) : R := ⟨v, m, [k], none⟩

/-! Operations that only reckon. -/
def aInt (p : Prims) (m : Mem) (op : BinOp) (k : IntKind) (a b : Int) : R :=
  match op with
  | .add | .sub | .mul | .and | .or | .xor | .andNot => val m (.int k (p.arith op k a b))
  | .quo | .rem => valIf m (p.not (p.eq b 0)) (.int k (p.arith op k a b))
  | .eql => val m (.bool (p.eq a b))
  | .neq => val m (.bool (p.not (p.eq a b)))
  | .lss => val m (.bool (p.lt a b))
  | .leq => val m (.bool (p.le a b))
  | .gtr => val m (.bool (p.lt b a))
  | .geq => val m (.bool (p.le b a))
  | .shl | .shr => bad m

def aShift (p : Prims) (m : Mem) (op : BinOp) (k : IntKind) (a b : Int) : R :=
  valIf m (p.le 0 b) (.int k (p.shift op k a b))

def aStr (p : Prims) (m : Mem) (op : BinOp) (a b : List UInt8) : R :=
  match op with
  | .add => valIf m (p.ble (p.nadd (p.slen a) (p.slen b)) 9223372036854775807) (.str (p.scat a b))
  | .eql => val m (.bool (p.seq a b))
  | .neq => val m (.bool (p.not (p.seq a b)))
  | .lss => val m (.bool (p.slt a b))
  | .leq => val m (.bool (p.or (p.slt a b) (p.seq a b)))
  | .gtr => val m (.bool (p.not (p.or (p.slt a b) (p.seq a b))))
  | .geq => val m (.bool (p.not (p.slt a b)))
  | _ => bad m

/-- '==' of two cells of a basic type. -/
def eqCell (p : Prims) (T : Tab) (t : Nat) (x y : AV) : Option Bool :=
  match (tyi T t).d, x, y with
  | .int _, .int k a, .int k' b => match decide (k = k') with | true => some (p.eq a b) | false => none
  | .bool, .bool a, .bool b => some (p.beq a b)
  | .str, .str a, .str b => some (p.seq a b)
  | _, _, _ => none

def aConj (p : Prims) : Option Bool → Option Bool → Option Bool
  | some a, some b => some (p.and a b)
  | _, _ => none

def eqArr (p : Prims) (T : Tab) (e : Nat) (xs ys : List AV) : Nat → Nat → Option Bool
  | _, 0 => some true
  | i, n + 1 => aConj p (eqCell p T e (nth xs i) (nth ys i)) (eqArr p T e xs ys (i + 1) n)
def scalarD : TD → Bool
  | .int _ => true
  | .bool => true
  | .str => true
  | _ => false

mutual
def eqAgg (p : Prims) (T : Tab) : Nat → Nat → List AV → List AV → Option Bool
  | 0, _, _, _ => none
  | n + 1, t, xs, ys =>
    match (tyi T t).d with
    | .struct fs => eqFields p T n fs xs ys
    | .array k e => match scalarD (tyi T e).d, Nat.beq (tyi T e).sz 1, Nat.ble k (lenA xs), Nat.ble k (lenA ys) with
      | true, true, true, true => eqArr p T e xs ys 0 k
      | _, _, _, _ => none
    | _ => none
def eqFields (p : Prims) (T : Tab) : Nat → List (Nat × Nat) → List AV → List AV → Option Bool
  | _, [], _, _ => some true
  | 0, _, _, _ => none
  | n + 1, (t, off) :: fs, xs, ys =>
    match Nat.ble 1 (tyi T t).sz, Nat.ble (off + (tyi T t).sz) (lenA xs), Nat.ble (off + (tyi T t).sz) (lenA ys) with
    | true, true, true => match (tyi T t).d with
      | .struct _ => aConj p (eqAgg p T n t (takeN (tyi T t).sz (dropN off xs)) (takeN (tyi T t).sz (dropN off ys))) (eqFields p T n fs xs ys)
      | .array _ _ => none
      | _ => aConj p (eqCell p T t (nth xs off) (nth ys off)) (eqFields p T n fs xs ys)
    | _, _, _ => none
end

def aBin (p : Prims) (T : Tab) (m : Mem) (op : BinOp) (t : Nat) (x y : AV) : R :=
  match op, x, y with
  | .shl, .int k a, .int _ b => aShift p m .shl k a b
  | .shr, .int k a, .int _ b => aShift p m .shr k a b
  | op, .int k a, .int k' b => match decide (k = k') with | true => aInt p m op k a b | false => bad m
  | op, .str a, .str b => aStr p m op a b
  | .eql, .bool a, .bool b => match (tyi T t).d with | .bool => val m (.bool (p.beq a b)) | _ => bad m
  | .neq, .bool a, .bool b => match (tyi T t).d with | .bool => val m (.bool (p.not (p.beq a b))) | _ => bad m
  | .eql, .agg xs, .agg ys => match eqAgg p T 40 t xs ys with | some b => val m (.bool b) | none => bad m
  | .eql, .slice _ n _ _, .nilsl => match (tyi T t).d with | .slice _ => val m (.nilB n) | _ => bad m
  | .eql, .tsl _ l _, .nilsl => match (tyi T t).d with | .slice _ => val m (.nilB l.length) | _ => bad m
  | .eql, .ownT b, .nilsl => match (tyi T t).d, blk m b with | .slice _, .trows _ _ l => val m (.nilB l.length) | _, _ => bad m
  | .eql, .own _ n, .nilsl => match (tyi T t).d with | .slice _ => val m (.nilB n) | _ => bad m
  | .eql, .emp, .nilsl => match (tyi T t).d with | .slice _ => val m (.nilB 0) | _ => bad m
  | .eql, .nilsl, .nilsl => match (tyi T t).d with | .slice _ => val m (.bool true) | _ => bad m
  | .eql, .ref _ _, .nilptr => match (tyi T t).d with | .ptr _ => val m (.bool false) | _ => bad m
  | .eql, .cptr _ _, .nilptr => match (tyi T t).d with | .ptr _ => val m (.bool false) | _ => bad m
  | .eql, .nilptr, .nilptr => match (tyi T t).d with | .ptr _ => val m (.bool true) | _ => bad m
  | .neq, .ref _ _, .nilptr => match (tyi T t).d with | .ptr _ => val m (.bool true) | _ => bad m
  | .neq, .cptr _ _, .nilptr => match (tyi T t).d with | .ptr _ => val m (.bool true) | _ => bad m
  | .neq, .nilptr, .nilptr => match (tyi T t).d with | .ptr _ => val m (.bool false) | _ => bad m
  | .eql, .mp b, .nilmap => match (tyi T t).d, mpNil (blk m b) with | .map _ _, some q => val m (.bool q) | _, _ => bad m
  | .eql, .mv _ u _, .nilmap => match (tyi T t).d, isView u with | .map _ _, false => val m (.bool false) | _, _ => bad m
  | .eql, .nilmap, .nilmap => match (tyi T t).d with | .map _ _ => val m (.bool true) | _ => bad m
  | .neq, .mp b, .nilmap => match (tyi T t).d, mpNil (blk m b) with | .map _ _, some q => val m (.bool (p.not q)) | _, _ => bad m
  | .neq, .mv _ u _, .nilmap => match (tyi T t).d, isView u with | .map _ _, false => val m (.bool true) | _, _ => bad m
  | .neq, .nilmap, .nilmap => match (tyi T t).d with | .map _ _ => val m (.bool false) | _ => bad m
  | .neq, .agg xs, .agg ys => match eqAgg p T 40 t xs ys with | some b => val m (.bool (p.not b)) | none => bad m
  | _, _, _ => bad m

def aUn (p : Prims) (m : Mem) (op : UnOp) (x : AV) : R :=
  match op, x with
  | .not, .bool b => val m (.bool (p.not b))
  | .neg, .int k n => val m (.int k (p.arith .sub k 0 n))
  | .xor, .int k n => val m (.int k (p.arith .xor k (match k.signed with | true => -1 | false => k.max) n))
  | _, _ => bad m

def aConv (p : Prims) (T : Tab) (m : Mem) (s d : Nat) (x : AV) : R :=
  match (tyi T s).d, (tyi T d).d, x with
  | .int _, .int k, .int _ n => val m (.int k (p.conv k n))
  | .str, .str, .str s => val m (.str s)
  | _, _, _ => bad m

def isAggT (T : Tab) (t : Nat) : Bool :=
  match (tyi T t).d with
  | .struct _ | .array _ _ => true
  | _ => false

def isOther : TD → Bool
  | .other => true
  | _ => false

/-! Memory. -/
def aLoad (T : Tab) (m : Mem) (t : Nat) (a : AV) : R :=
  match isAggT T t, a with
  | true, .cptr n c => match Nat.ble (tyi T t).sz n with | true => val m (.agg (tab c 0 (tyi T t).sz)) | false => bad m
  | true, .ref b off => match blk m b with
    | .cells _ cs => match Nat.ble (off + (tyi T t).sz) (lenA cs) with | true => val m (.agg (takeN (tyi T t).sz (dropN off cs))) | false => bad m
    | .arr _ u l => match Nat.beq (szT u) 1 with | true => valIf m (Nat.ble (off + (tyi T t).sz) l.length) (.agg (tab (fun j => vw u l (off + j) 0) 0 (tyi T t).sz)) | false => bad m
    | _ => bad m
  | true, .eref b i off => match blk m b with
    | .rows _ sz _ c => match Nat.ble (off + (tyi T t).sz) sz with | true => val m (.agg (tab (c i) off (tyi T t).sz)) | false => bad m
    | .trows _ u l => match Nat.ble (off + (tyi T t).sz) (szT u) with | true => val m (.agg (takeN (tyi T t).sz (dropN off (rowT u l i)))) | false => bad m
    | _ => bad m
  | false, a => match isOther (tyi T t).d, a with
    | false, .cptr n c => match Nat.ble 1 n with | true => val m (c 0) | false => bad m
    | false, .lst (k + 1) cs => match Nat.blt k (lenA cs) with | true => val m (nth cs k) | false => bad m
    | false, .ref b off => match blk m b with
      | .cells _ cs => match Nat.ble (off + 1) (lenA cs) with | true => val m (nth cs off) | false => bad m
      | .arr _ u l => match Nat.beq (szT u) 1 with | true => valIf m (Nat.ble (off + 1) l.length) (vw u l off 0) | false => bad m
      | _ => bad m
    | false, .eref b i off => match blk m b with
      | .rows _ sz _ c => match Nat.ble (off + 1) sz with | true => val m (c i off) | false => bad m
      | .trows _ u l => match Nat.ble (off + 1) (szT u) with | true => val m (nth (rowT u l i) off) | false => bad m
      | _ => bad m
    | _, _ => bad m
  | _, _ => bad m

def putL : List AV → Nat → List AV → List AV
  | cs, _, [] => cs
  | cs, off, v :: l => putL (put cs off v) (off + 1) l

def rowPut (c : Nat → Nat → AV) (i off sz : Nat) (cs : List AV) : Nat → Nat → AV :=
  fun i' j => if i' = i then (if off ≤ j ∧ j < off + sz then nth cs (j - off) else c i' j) else c i' j

def aStore (T : Tab) (m : Mem) (t : Nat) (a v : AV) : R :=
  match Nat.ble 1 (tyi T t).sz, Nat.beq (lenA (cellsOf v)) (tyi T t).sz, allCells (cellsOf v), a with
  | true, true, true, .ref b off => match blk m b with
    | .cells e old => match Nat.ble (off + (tyi T t).sz) (lenA old) with | true => ⟨.undef, setBlk m b (.cells e (putL old off (cellsOf v))), [], none⟩ | false => bad m
    | .arr e u l => match Nat.beq (tyi T t).sz 1, Nat.beq (szT u) 1, allOutside (cellsOf v), rdE u (cellsOf v) with
      | true, true, true, some x => ⟨.undef, setBlk m b (.arr e u (l.set off x)), [Nat.ble (off + 1) l.length], none⟩
      | _, _, _, _ => bad m
    | _ => bad m
  | true, true, true, .eref b i off => match blk m b, allOutside (cellsOf v) with
    | .rows e sz n c, true => match Nat.ble (off + (tyi T t).sz) sz with
      | true => ⟨.undef, setBlk m b (.rows e sz n (rowPut c i off (tyi T t).sz (cellsOf v))), [], none⟩
      | false => bad m
    | .trows e u l, true => match Nat.ble (off + (tyi T t).sz) (szT u), rdE u (putL (rowT u l i) off (cellsOf v)) with
      | true, some x => ⟨.undef, setBlk m b (.trows e u (l.set i x)), [], none⟩
      | _, _ => bad m
    | _, _ => bad m
  | _, _, _, _ => bad m

def newBlk (m : Mem) (b : ABlk) : R := ⟨.ref (lenM m) 0, snocM m b, [], none⟩

def aBox (T : Tab) (m : Mem) (t : Nat) (v : AV) : R :=
  let cs := cellsOf v
  match allCells cs with
  | true => newBlk m (.cells t cs)
  | false => bad m

def aAlloc (T : Tab) (m : Mem) (t : Nat) : R :=
  match Nat.ble 1 (tyi T t).sz, allCells (tyi T t).z with
  | true, true => newBlk m (.cells t (tyi T t).z)
  | _, _ => bad m

/-- The parts of a struct or of an array, laid over the zero cells. -/
def fillA (place : Nat → Option (Nat × Nat)) (cells : List AV) : List (Nat × AV) → Option (List AV)
  | [] => some cells
  | (i, v) :: rest =>
    match place i with
    | none => none
    | some (off, size) =>
      match Nat.beq (lenA (cellsOf v)) size, Nat.ble (off + size) (lenA cells), allCells (cellsOf v) with
      | true, true, true => fillA place (putL cells off (cellsOf v)) rest
      | _, _, _ => none

def fieldPl (T : Tab) : List (Nat × Nat) → Nat → Option (Nat × Nat)
  | [], _ => none
  | (t, off) :: _, 0 => some (off, (tyi T t).sz)
  | _ :: fs, n + 1 => fieldPl T fs n

def aParts (ts : List AV) : List (Nat × Operand) → List (Nat × AV)
  | [] => []
  | (i, o) :: l => (i, opnd ts o) :: aParts ts l

def allPos (T : Tab) : List (Nat × Nat) → Bool
  | [] => true
  | (t, _) :: l => match Nat.ble 1 (tyi T t).sz with | true => allPos T l | false => false

def aBuild (T : Tab) (m : Mem) (t : Nat) (ps : List (Nat × AV)) : R :=
  match (tyi T t).d with
  | .struct fs => match allCells (tyi T t).z, allPos T fs, fillA (fieldPl T fs) (tyi T t).z ps with | true, true, some cs => val m (.agg cs) | _, _, _ => bad m
  | .array _ e => match allCells (tyi T t).z, Nat.ble 1 (tyi T e).sz, fillA (fun i => some (i * (tyi T e).sz, (tyi T e).sz)) (tyi T t).z ps with | true, true, some cs => val m (.agg cs) | _, _, _ => bad m
  | _ => bad m

def repA : Nat → List AV → List AV
  | 0, _ => []
  | n + 1, z => catA z (repA n z)

def rowsL (sz : Nat) (cs : List AV) : Nat → Nat → AV := fun i j => nth cs (i * sz + j)

/-- A literal's rows. -/
def tslOr (ty : Option Ty) (sz n : Nat) (cs : List AV) : AV :=
  match ty with
  | none => .slice sz n true (rowsL sz cs)
  | some t => match Nat.beq (szT t) sz, rdRows t n cs with
    | true, some l => .tsl t l true
    | _, _ => .slice sz n true (rowsL sz cs)

def aBuildSlice (T : Tab) (m : Mem) (t len : Nat) (ps : List (Nat × AV)) : R :=
  match (tyi T t).d, len, ps with
  | .slice e, 0, [] => match Nat.ble 1 (tyi T e).sz, allCells (tyi T e).z, Nat.beq (lenA (tyi T e).z) (tyi T e).sz with
    | true, true, true => val m .emp
    | _, _, _ => bad m
  | .slice e, len, ps =>
    match Nat.ble 1 (tyi T e).sz, Nat.ble (len * (tyi T e).sz) 1000, allCells (tyi T e).z, Nat.beq (lenA (tyi T e).z) (tyi T e).sz,
        fillA (fun i => some (i * (tyi T e).sz, (tyi T e).sz)) (repA len (tyi T e).z) ps with
    | true, true, true, true, some cs => match allOutside cs with
      | true => val m (tslOr (tyi T e).ty (tyi T e).sz len cs)
      | false => match Nat.beq (tyi T e).sz 1 with | true => val m (.lst 0 cs) | false => bad m
    | _, _, _, _, _ => bad m
  | _, _, _ => bad m

def nthF : List (Nat × Nat) → Nat → Option (Nat × Nat)
  | [], _ => none
  | f :: _, 0 => some f
  | _ :: l, n + 1 => nthF l n

def aFieldAddr (T : Tab) (m : Mem) (t : Nat) (x : AV) (f : Nat) : R :=
  match (tyi T t).d with
  | .struct fs => match nthF fs f with
    | some (ft, off) => match Nat.ble 1 (tyi T ft).sz, x with
      | true, .ref b o => val m (.ref b (o + off))
      | true, .eref b i o => val m (.eref b i (o + off))
      | true, .cptr n c => match Nat.ble off n with | true => val m (.cptr (n - off) fun j => c (off + j)) | false => bad m
      | _, _ => bad m
    | none => bad m
  | _ => bad m

def aField (T : Tab) (m : Mem) (t : Nat) (x : AV) (f : Nat) : R :=
  match (tyi T t).d, x with
  | .struct fs, .agg cs => match nthF fs f with
    | some (ft, off) => match isAggT T ft with
      | true => match Nat.ble 1 (tyi T ft).sz, Nat.ble (off + (tyi T ft).sz) (lenA cs) with | true, true => val m (.agg (takeN (tyi T ft).sz (dropN off cs))) | _, _ => bad m
      | false => match isOther (tyi T ft).d, Nat.ble (off + 1) (lenA cs) with | false, true => val m (nth cs off) | _, _ => bad m
    | none => bad m
  | _, _ => bad m

def litNat (p : Prims) : Option Nat → Int → Nat
  | some k, _ => k
  | none, i => p.toNat i

/-- A place in a block: o + k * sz. -/
def offA (o k sz : Nat) : Nat := match o, sz with | 0, 1 => k | o, sz => o + k * sz
theorem offA_eq (o k sz : Nat) : offA o k sz = o + k * sz := by
  unfold offA
  split
  · omega
  · rfl
def litV : Option Nat → Int → Option Nat
  | some k, _ => some k
  | none, .ofNat k => some k
  | none, _ => none

def aIndexAddr (p : Prims) (T : Tab) (m : Mem) (t : Nat) (lit : Option Nat) (x i : AV) : R :=
  match (tyi T t).d, x, i with
  | .slice e, .slice sz n _ c, .int _ i => match Nat.beq sz (tyi T e).sz, Nat.ble 1 (tyi T e).sz with
    | true, true => valIf m (p.inb i n) (.cptr sz (c (p.toNat i)))
    | _, _ => bad m
  | .slice e, .tsl u l _, .int _ i => match Nat.beq (szT u) (tyi T e).sz, Nat.ble 1 (tyi T e).sz with
    | true, true => valIf m (p.inb i l.length) (.cptr (szT u) (nth (rowT u l (p.toNat i))))
    | _, _ => bad m
  | .slice e, .own b n, .int _ i => match blk m b with
    | .rows _ sz _ _ => match Nat.beq sz (tyi T e).sz, Nat.ble 1 (tyi T e).sz with
      | true, true => valIf m (p.inb i n) (.eref b (p.toNat i) 0)
      | _, _ => bad m
    | _ => bad m
  | .slice e, .ownT b, .int _ i => match blk m b with
    | .trows _ u l => match Nat.beq (szT u) (tyi T e).sz, Nat.ble 1 (tyi T e).sz with
      | true, true => valIf m (p.inb i l.length) (.eref b (p.toNat i) 0)
      | _, _ => bad m
    | _ => bad m
  | .slice e, .tail b lo n, .int _ i => match blk m b with
    | .trows _ u _ => match Nat.beq (szT u) (tyi T e).sz, Nat.ble 1 (tyi T e).sz with
      | true, true => valIf m (p.inb i n) (.eref b (p.nadd lo (p.toNat i)) 0)
      | _, _ => bad m
    | .rows _ sz _ _ => match Nat.beq sz (tyi T e).sz, Nat.ble 1 (tyi T e).sz with
      | true, true => valIf m (p.inb i n) (.eref b (p.nadd lo (p.toNat i)) 0)
      | _, _ => bad m
    | _ => bad m
  | .slice e, .lst 0 cs, .int _ i => match Nat.beq (tyi T e).sz 1, litV lit i with
    | true, some k => match Nat.blt k (lenA cs) with | true => val m (.lst (k + 1) cs) | false => bad m
    | _, _ => bad m
  | .array n e, .ref b o, .int _ i => match Nat.ble 1 (tyi T e).sz with
    | true => valIf m (p.inb i n) (.ref b (offA o (litNat p lit i) (tyi T e).sz))
    | false => bad m
  | .array n e, .eref b r o, .int _ i => match Nat.ble 1 (tyi T e).sz with
    | true => valIf m (p.inb i n) (.eref b r (o + litNat p lit i * (tyi T e).sz))
    | false => bad m
  | .array n e, .cptr k c, .int _ i => match Nat.ble 1 (tyi T e).sz, Nat.ble (n * (tyi T e).sz) k with
    | true, true => valIf m (p.inb i n) (.cptr (tyi T e).sz fun j => c (litNat p lit i * (tyi T e).sz + j))
    | _, _ => bad m
  | _, _, _ => bad m

def aIndex (p : Prims) (T : Tab) (m : Mem) (t : Nat) (lit : Option Nat) (x i : AV) : R :=
  match (tyi T t).d, x, i with
  | .str, .str s, .int _ i => valIf m (p.inb i (p.slen s)) (.int .u8 (p.sget s (p.toNat i)))
  | .array n e, .agg cs, .int _ i => match litV lit i with
    | some k => match isAggT T e with
      | true => match Nat.ble 1 (tyi T e).sz, Nat.ble (k * (tyi T e).sz + (tyi T e).sz) (lenA cs) with | true, true => valIf m (p.inb i n) (.agg (takeN (tyi T e).sz (dropN (k * (tyi T e).sz) cs))) | _, _ => bad m
      | false => match isOther (tyi T e).d, Nat.ble (k * (tyi T e).sz + 1) (lenA cs) with | false, true => valIf m (p.inb i n) (nth cs (k * (tyi T e).sz)) | _, _ => bad m
    | none => bad m
  | _, _, _ => bad m

def aSlice (p : Prims) (T : Tab) (m : Mem) (t : Nat) (x : AV) (lo hi : Option AV) : R :=
  match (tyi T t).d, x with
  | .str, .str s => match lo, hi with
    | none, none => val m (.str s)
    | some (.int _ l), none => valIf m (p.inbe l (p.slen s)) (.str (p.ssub s (p.toNat l) (p.slen s)))
    | none, some (.int _ h) => valIf m (p.inbe h (p.slen s)) (.str (p.ssub s 0 (p.toNat h)))
    | some (.int _ l), some (.int _ h) => ⟨.str (p.ssub s (p.toNat l) (p.toNat h)), m, [p.inbe h (p.slen s), p.inbe l (p.toNat h)], none⟩
    | _, _ => bad m
  | .slice e, .slice sz n f c => match Nat.beq sz (tyi T e).sz, Nat.ble 1 (tyi T e).sz with
    | true, true => match lo, hi with
      | none, none => val m (.slice sz n f c)
      | some (.int _ l), none => valIf m (p.inbe l n) (.slice sz (p.nsub n (p.toNat l)) f fun i j => c (p.nadd (p.toNat l) i) j)
      | none, some (.int _ h) => valIf m (p.inbe h n) (.slice sz (p.toNat h) false c)
      | some (.int _ l), some (.int _ h) => ⟨.slice sz (p.nsub (p.toNat h) (p.toNat l)) false (fun i j => c (p.nadd (p.toNat l) i) j), m, [p.inbe h n, p.inbe l (p.toNat h)], none⟩
      | _, _ => bad m
    | _, _ => bad m
  | .slice e, .tsl u l f => match Nat.beq (szT u) (tyi T e).sz, Nat.ble 1 (tyi T e).sz with
    | true, true => match lo, hi with
      | none, none => val m (.tsl u l f)
      | some (.int _ i), none => valIf m (p.inbe i l.length) (.tsl u (l.drop (p.toNat i)) f)
      | none, some (.int _ h) => valIf m (p.inbe h l.length) (.tsl u (l.take (p.toNat h)) false)
      | some (.int _ i), some (.int _ h) => ⟨.tsl u ((l.take (p.toNat h)).drop (p.toNat i)) false, m, [p.inbe h l.length, p.inbe i (p.toNat h)], none⟩
      | _, _ => bad m
    | _, _ => bad m
  | .slice e, .ownT b => match Nat.ble 1 (tyi T e).sz, blk m b with
    | true, .trows _ u l => match Nat.beq (szT u) (tyi T e).sz with
      | true => match lo, hi with
        | none, none => val m (.ownT b)
        | none, some (.int _ h) => valIf m (p.inbe h l.length) (.own b (p.toNat h))
        | some (.int _ i), none => valIf m (p.inbe i l.length) (.tail b (p.toNat i) (p.nsub l.length (p.toNat i)))
        | some (.int _ i), some (.int _ h) => ⟨.tail b (p.toNat i) (p.nsub (p.toNat h) (p.toNat i)), m, [p.inbe h l.length, p.inbe i (p.toNat h)], none⟩
        | _, _ => bad m
      | false => bad m
    | _, _ => bad m
  | .slice e, .own b n => match Nat.ble 1 (tyi T e).sz, blk m b, lo, hi with
    | true, _, none, none => val m (.own b n)
    | true, _, none, some (.int _ h) => valIf m (p.inbe h n) (.own b (p.toNat h))
    | true, .rows _ sz _ _, some (.int _ l), none => match Nat.beq sz (tyi T e).sz with
      | true => valIf m (p.inbe l n) (.tail b (p.toNat l) (p.nsub n (p.toNat l)))
      | false => bad m
    | true, .rows _ sz _ _, some (.int _ l), some (.int _ h) => match Nat.beq sz (tyi T e).sz with
      | true => ⟨.tail b (p.toNat l) (p.nsub (p.toNat h) (p.toNat l)), m, [p.inbe h n, p.inbe l (p.toNat h)], none⟩
      | false => bad m
    | _, _, _, _ => bad m
  | .slice e, .nilsl => match Nat.ble 1 (tyi T e).sz, lo, hi with
    | true, none, none => val m .nilsl
    | true, none, some (.int _ h) => valIf m (p.inbe h 0) .nilsl
    | _, _, _ => bad m
  | .array n e, .ref b 0 => match Nat.ble 1 (tyi T e).sz, lo, hi with
    | true, none, none => valIf m (p.ble n 9223372036854775807) (.asl b n)
    | _, _, _ => bad m
  | .array n e, .cptr k c => match Nat.beq (tyi T e).sz 1, Nat.ble n k, lo, hi with
    | true, true, none, none => valIf m (p.ble n 9223372036854775807) (tslOr (tyi T e).ty 1 n (tab c 0 n))
    | _, _, _, _ => bad m
  | _, _ => bad m

/-- 's[:0:0]', 's[:h:h]'. -/
def aSlice3 (p : Prims) (T : Tab) (m : Mem) (t : Nat) (x : AV) (hi mx : Operand) (h : AV) : R :=
  match (tyi T t).d with
  | .slice e => match Nat.ble 1 (tyi T e).sz, hi, mx with
    | true, .const (.int _ (.ofNat 0)), .const (.int _ (.ofNat 0)) => match x with
      | .slice .. | .tsl .. | .nilsl | .emp | .own .. | .ownT _ | .tail .. => val m .emp
      | _ => bad m
    | true, .tmp i, .tmp j => match Nat.beq i j, x, h with
      | true, .slice sz n _ c, .int _ k => match Nat.beq sz (tyi T e).sz with
        | true => valIf m (p.inbe k n) (.slice sz (p.toNat k) true c)
        | false => bad m
      | true, .tsl u l _, .int _ k => match Nat.beq (szT u) (tyi T e).sz with
        | true => valIf m (p.inbe k l.length) (.tsl u (l.take (p.toNat k)) true)
        | false => bad m
      | _, _, _ => bad m
    | _, _, _ => bad m
  | _ => bad m

/-- 's[:h:k]' where the two are the same number. -/
def aSlice3d (p : Prims) (T : Tab) (m : Mem) (t : Nat) (x h g : AV) : R :=
  match (tyi T t).d with
  | .slice e => match Nat.ble 1 (tyi T e).sz, x, h, g with
    | true, .tsl u l _, .int kd k, .int kd' k' => match decide (kd = kd'), Nat.beq (szT u) (tyi T e).sz with
      | true, true => valIf m (p.and (p.eq k k') (p.inbe k l.length)) (.tsl u (l.take (p.toNat k)) true)
      | _, _ => bad m
    | _, _, _, _ => bad m
  | _ => bad m
def aSlice3g (p : Prims) (T : Tab) (m : Mem) (t : Nat) (x : AV) (hi mx : Operand) (h g : AV) : R :=
  match hi, mx with
  | .tmp i, .tmp j => match Nat.beq i j with
    | true => aSlice3 p T m t x (.tmp i) (.tmp j) h
    | false => aSlice3d p T m t x h g
  | _, _ => aSlice3 p T m t x hi mx h

def aExtract (m : Mem) (x : AV) (i : Nat) : R :=
  match x with
  | .tup vs => match Nat.ble (i + 1) (lenA vs) with | true => val m (nth vs i) | false => bad m
  | .nxt b vs => match i with
    | 0 => val m (.bool b)
    | i + 1 => match Nat.ble (i + 1) (lenA vs) with | true => valIf m b (nth vs i) | false => bad m
  | _ => bad m

/-- A pointer that is no nil. -/
def aNil (m : Mem) (x : AV) : R :=
  match x with
  | .ref b o => val m (.ref b o)
  | .eref b i o => val m (.eref b i o)
  | .cptr n c => val m (.cptr n c)
  | _ => bad m

def aRange (T : Tab) (m : Mem) (t : Nat) (x : AV) : R :=
  match (tyi T t).d, x with
  | .str, .str s => newBlk m (.siter s 0)
  | _, _ => bad m

def aNext (p : Prims) (m : Mem) (x : AV) (isS : Bool) : R :=
  match x, isS with
  | .ref b 0, true => match blk m b with
    | .siter s pos => ⟨.nxt (p.lt (p.ofNat pos) (p.ofNat (p.slen s))) [.int .i64 (p.ofNat pos), .int .i32 (p.rune s pos)],
        setBlk m b (.siter s (p.npos s pos)), [], none⟩
    | _ => bad m
  | _, _ => bad m

def aLen (p : Prims) (T : Tab) (m : Mem) (t : Nat) (x : AV) : R :=
  match (tyi T t).d, x with
  | .str, .str s => val m (.int .i64 (p.ofNat (p.slen s)))
  | .slice _, .slice _ n _ _ => val m (.int .i64 (p.ofNat n))
  | .slice _, .tsl _ l _ => val m (.int .i64 (p.ofNat l.length))
  | .slice _, .ownT b => match blk m b with | .trows _ _ l => val m (.int .i64 (p.ofNat l.length)) | _ => bad m
  | .slice _, .own _ n => val m (.int .i64 (p.ofNat n))
  | .slice _, .tail _ _ n => val m (.int .i64 (p.ofNat n))
  | .slice _, .nilsl => val m (.int .i64 0)
  | .slice _, .emp => val m (.int .i64 0)
  | .slice _, .lst 0 cs => val m (.int .i64 (p.ofNat (lenA cs)))
  | .array n _, _ => valIf m (p.ble n 9223372036854775807) (.int .i64 (p.ofNat n))
  | .map _ _, .nilmap => val m (.int .i64 0)
  | .map _ _, .mv _ _ l => val m (.int .i64 (p.ofNat l.length))
  | .map _ _, .mp b => match blk m b with | .map _ _ l => val m (.int .i64 (p.ofNat l.length)) | _ => bad m
  | _, _ => bad m

def aCap (p : Prims) (T : Tab) (m : Mem) (t : Nat) (x : AV) : R :=
  match (tyi T t).d, x with
  | .slice _, .slice _ n true _ => val m (.int .i64 (p.ofNat n))
  | .slice _, .tsl _ l true => val m (.int .i64 (p.ofNat l.length))
  | .slice _, .nilsl => val m (.int .i64 0)
  | .slice _, .emp => val m (.int .i64 0)
  | _, _ => bad m

def clearRows (lo n : Nat) (z : List AV) (c : Nat → Nat → AV) : Nat → Nat → AV := fun i j => if lo ≤ i ∧ i < lo + n then nth z j else c i j

def aClear (T : Tab) (m : Mem) (t : Nat) (x : AV) : R :=
  match (tyi T t).d with
  | .slice e => match Nat.ble 1 (tyi T e).sz, allOutside (tyi T e).z, Nat.beq (lenA (tyi T e).z) (tyi T e).sz, x with
    | true, true, true, .tail b lo n => match blk m b with
      | .rows e' sz k c => match Nat.beq sz (tyi T e).sz with
        | true => ⟨.tup [], setBlk m b (.rows e' sz k (clearRows lo n (tyi T e).z c)), [], none⟩
        | false => bad m
      | .trows e' u l => match Nat.beq (szT u) (tyi T e).sz, rdE u (tyi T e).z with
        | true, some x => ⟨.tup [], setBlk m b (.trows e' u (clearL lo n x l)), [], none⟩
        | _, _ => bad m
      | _ => bad m
    | _, _, _, _ => bad m
  | _ => bad m

def aMax (p : Prims) (m : Mem) (k : IntKind) (a : Int) : List AV → R
  | [] => val m (.int k a)
  | .int k' b :: l => match decide (k = k') with | true => aMax p m k (p.imax a b) l | false => bad m
  | _ => bad m
def aMin (p : Prims) (m : Mem) (k : IntKind) (a : Int) : List AV → R
  | [] => val m (.int k a)
  | .int k' b :: l => match decide (k = k') with | true => aMin p m k (p.imin a b) l | false => bad m
  | _ => bad m

/-- The rows of a slice: how many, and their cells. -/
def content (m : Mem) (sz : Nat) : AV → Option (Nat × (Nat → Nat → AV))
  | .slice sz' n _ c => match Nat.beq sz sz' with | true => some (n, c) | false => none
  | .nilsl => some (0, fun _ _ => .undef)
  | .emp => some (0, fun _ _ => .undef)
  | .tail b lo n => match blk m b with | .rows _ sz' _ c => (match Nat.beq sz sz' with | true => some (n, fun i j => c (lo + i) j) | false => none) | _ => none
  | .own b n => match blk m b with | .rows _ sz' _ c => (match Nat.beq sz sz' with | true => some (n, c) | false => none) | _ => none
  | _ => none

/-- The rows of a slice, as plain data. -/
def contentT (m : Mem) (t : Ty) : AV → Option (List (El t))
  | .tsl u l _ => castL u t l
  | .nilsl => some []
  | .emp => some []
  | .ownT b => match blk m b with | .trows _ u l => castL u t l | _ => none
  | .tail b lo n => match blk m b with | .trows _ u l => castL u t ((l.drop lo).take n) | _ => none
  | .own b n => match blk m b with | .trows _ u l => castL u t (l.take n) | _ => none
  | _ => none

/-- A string's bytes as numbers; numbers as a string. -/
def strI (s : List UInt8) : List Int := s.map fun b => (b.toNat : Int)
def strB (l : List Int) : List UInt8 := l.map fun n => UInt8.ofNat n.toNat
def isByte : TD → Bool
  | .int .u8 => true
  | _ => false
/-- Conversions, those of strings and bytes among them. -/
def aConvB0 (p : Prims) (T : Tab) (m : Mem) (s d : Nat) (x : AV) : R :=
  match (tyi T s).d, (tyi T d).d with
  | .str, .slice e => match isByte (tyi T e).d, Nat.beq (tyi T e).sz 1, x with
    | true, true, .str s => ⟨.ownT (lenM m), snocM m (.trows e (.int .u8) (strI s)), [], none⟩
    | _, _, _ => bad m
  | .slice e, .str => match isByte (tyi T e).d, contentT m (.int .u8) x with
    | true, some l => val m (.str (strB l))
    | _, _ => bad m
  | _, _ => aConv p T m s d x

/-- The string of a whole array's bytes. -/
def aConvA (p : Prims) (T : Tab) (m : Mem) (s d : Nat) (b n : Nat) : R :=
  match (tyi T s).d, (tyi T d).d with
  | .slice e, .str => match isByte (tyi T e).d, blk m b with
    | true, .arr _ u l => match castL u (.int .u8) l with
      | some l => ⟨.str (strB l), m, [p.neq l.length n], none⟩
      | none => bad m
    | _, _ => bad m
  | _, _ => bad m
def aConvB (p : Prims) (T : Tab) (m : Mem) (s d : Nat) (x : AV) : R :=
  match x with
  | .asl b n => aConvA p T m s d b n
  | x => aConvB0 p T m s d x

/-- 'copy' of a string to a whole array of bytes. -/
def cpB (s : List UInt8) (j : Nat) (x : Int) : Int := match decide (j < s.length) with | true => ((s.getD j 0).toNat : Int) | false => x
def cpCells (s : List UInt8) : Nat → List AV → Option (List AV)
  | _, [] => some []
  | j, .int .u8 x :: l => match cpCells s (j + 1) l with | some r => some (.int .u8 (cpB s j x) :: r) | none => none
  | _, _ :: _ => none
def aCopy (p : Prims) (T : Tab) (m : Mem) (t u : Nat) (d s : AV) : R :=
  match (tyi T t).d, (tyi T u).d, d, s with
  | .slice e, .str, .asl b n, .str s => match isByte (tyi T e).d, Nat.beq (tyi T e).sz 1, blk m b with
    | true, true, .cells e' cs => match Nat.beq (lenA cs) n, cpCells s 0 cs with
      | true, some cs' => ⟨.int .i64 (p.ofNat (p.nmin (p.slen s) n)), setBlk m b (.cells e' cs'), [], none⟩
      | _, _ => bad m
    | _, _, _ => bad m
  | _, _, _, _ => bad m

def isTyped (m : Mem) : AV → Bool
  | .tsl .. => true
  | .ownT _ => true
  | .tail b _ _ => match blk m b with | .trows .. => true | _ => false
  | _ => false

def snocRows (n : Nat) (c d : Nat → Nat → AV) : Nat → Nat → AV := fun i j => if i < n then c i j else d (i - n) j

def roomNat : Nat := 140737488355328

def inval0 (b : Nat) : AV → AV
  | .own b' n => match Nat.beq b b' with | true => .undef | false => .own b' n
  | .ownT b' => match Nat.beq b b' with | true => .undef | false => .ownT b'
  | .tail b' lo n => match Nat.beq b b' with | true => .undef | false => .tail b' lo n
  | .eref b' i o => match Nat.beq b b' with | true => .undef | false => .eref b' i o
  | .ref b' o => match Nat.beq b b' with | true => .undef | false => .ref b' o
  | .selfp b' => match Nat.beq b b' with | true => .undef | false => .selfp b'
  | .asl b' n => match Nat.beq b b' with | true => .undef | false => .asl b' n
  | .mp b' => match Nat.beq b b' with | true => .undef | false => .mp b'
  | .sub b' j => match Nat.beq b b' with | true => .undef | false => .sub b' j
  | .fn _ _ _ => .undef
  | .tup _ => .undef
  | .lst _ _ => .undef
  | v => v
def inval0s (b : Nat) : List AV → List AV
  | [] => []
  | a :: l => inval0 b a :: inval0s b l
def inval1 (b : Nat) : AV → AV
  | .agg cs => .agg (inval0s b cs)
  | .fn f a c => .fn f (inval0s b a) (inval0s b c)
  | v => inval0 b v
def inval1s (b : Nat) : List AV → List AV
  | [] => []
  | a :: l => inval1 b a :: inval1s b l
def inval (b : Nat) : AV → AV
  | .tup vs => .tup (inval1s b vs)
  | .lst k vs => .lst k (inval1s b vs)
  | v => inval1 b v
def invals (b : Nat) : List AV → List AV
  | [] => []
  | a :: l => inval b a :: invals b l
def invalB (b : Nat) : ABlk → ABlk
  | .cells e cs => .cells e (inval0s b cs)
  | x => x
def invalMs (b : Nat) : Mem → Mem
  | [] => []
  | a :: l => invalB b a :: invalMs b l

/-- 'append', of plain data. -/
def aAppendT (p : Prims) (T : Tab) (m : Mem) (t e : Nat) (u : Ty) (s x : AV) : R :=
  match contentT m u x, Nat.beq (szT u) (tyi T e).sz, Nat.ble 1 (tyi T e).sz, Nat.ble 1 (tyi T e).bytes with
  | some k, true, true, true => match s with
    | .nilsl => ⟨.ownT (lenM m), snocM m (.trows e u k), [p.ble (p.nmul k.length (tyi T e).bytes) roomNat], none⟩
    | .emp => ⟨.ownT (lenM m), snocM m (.trows e u k), [p.ble (p.nmul k.length (tyi T e).bytes) roomNat], none⟩
    | .ownT b => match blk m b with
      | .trows e' u' l => match Nat.beq e e', castL u' u l with
        | true, some l => ⟨.ownT b, invalMs b (setBlk m b (.trows e u (l ++ k))), [p.ble (p.nmul (l ++ k).length (tyi T e).bytes) roomNat], some b⟩
        | _, _ => bad m
      | _ => bad m
    | .tsl u' l true => match castL u' u l with
      | some l => ⟨.tsl u (l ++ k) false, m, [p.ble (p.nmul (l ++ k).length (tyi T e).bytes) roomNat], none⟩
      | none => bad m
    | _ => bad m
  | _, _, _, _ => bad m

def aAppendO (p : Prims) (T : Tab) (m : Mem) (t : Nat) (s x : AV) : R :=
  match (tyi T t).d with
  | .slice e => match content m (tyi T e).sz x with
    | some (k, d) => match Nat.ble 1 (tyi T e).sz, Nat.ble 1 (tyi T e).bytes, s with
      | true, true, .nilsl => ⟨.own (lenM m) k, snocM m (.rows e (tyi T e).sz k d), [p.ble (p.nmul k (tyi T e).bytes) roomNat], none⟩
      | true, true, .emp => ⟨.own (lenM m) k, snocM m (.rows e (tyi T e).sz k d), [p.ble (p.nmul k (tyi T e).bytes) roomNat], none⟩
      | true, true, .own b n => match blk m b with
        | .rows e' sz _ c => match Nat.beq e e', Nat.beq sz (tyi T e).sz with
          | true, true => ⟨.own b (p.nadd n k), invalMs b (setBlk m b (.rows e' sz (p.nadd n k) (snocRows n c d))), [p.ble (p.nmul (p.nadd n k) (tyi T e).bytes) roomNat], some b⟩
          | _, _ => bad m
        | _ => bad m
      | true, true, .slice sz n true c => match Nat.beq sz (tyi T e).sz with
        | true => ⟨.slice sz (p.nadd n k) false (snocRows n c d), m, [p.ble (p.nmul (p.nadd n k) (tyi T e).bytes) roomNat], none⟩
        | false => bad m
      | _, _, _ => bad m
    | none => bad m
  | _ => bad m

def aAppend (p : Prims) (T : Tab) (m : Mem) (t : Nat) (s x : AV) : R :=
  match (tyi T t).d with
  | .slice e => match (tyi T e).ty with
    | some u => match contentT m u x with
      | some _ => aAppendT p T m t e u s x
      | none => aAppendO p T m t s x
    | none => aAppendO p T m t s x
  | _ => bad m

/-- New rows of zeros: typed, if the type is one of plain data. -/
def zRows (ty : Option Ty) (z : List AV) (sz : Nat) (m : Mem) (e n : Nat) : AV × Mem :=
  match ty with
  | none => (.own (lenM m) n, snocM m (.rows e sz n fun _ j => nth z j))
  | some u => match Nat.beq (szT u) sz, rdE u z with
    | true, some x => (.ownT (lenM m), snocM m (.trows e u (List.replicate n x)))
    | _, _ => (.own (lenM m) n, snocM m (.rows e sz n fun _ j => nth z j))

/-- 'append(nil, make([]T, n)...)'. -/
def aAppendZ (p : Prims) (T : Tab) (m : Mem) (t u : Nat) (s x : AV) : R :=
  match (tyi T t).d, (tyi T u).d, s, x with
  | .slice e, .int _, .nilsl, .int _ n => match allCells (tyi T e).z, Nat.ble 1 (tyi T e).sz, Nat.beq (lenA (tyi T e).z) (tyi T e).sz, Nat.ble 1 (tyi T e).bytes with
    | true, true, true, true => ⟨(zRows (tyi T e).ty (tyi T e).z (tyi T e).sz m e (p.toNat n)).1, (zRows (tyi T e).ty (tyi T e).z (tyi T e).sz m e (p.toNat n)).2, [p.lt 0 n, p.ble (p.nmul (p.toNat n) (tyi T e).bytes) roomNat], none⟩
    | _, _, _, _ => bad m
  | _, _, _, _ => bad m

/-- 'append' of a string's bytes. -/
def aAppendS (p : Prims) (T : Tab) (m : Mem) (t u : Nat) (s : AV) (x : List UInt8) : R :=
  match (tyi T t).d, (tyi T u).d, s with
  | .slice e, .str, .ownT b => match isByte (tyi T e).d, Nat.beq (tyi T e).sz 1, Nat.beq (tyi T e).bytes 1, blk m b with
    | true, true, true, .trows e' u' l => match Nat.beq e e', castL u' (.int .u8) l with
      | true, some l => ⟨.ownT b, invalMs b (setBlk m b (.trows e (.int .u8) (l ++ strI x))), [p.ble (p.nmul (l ++ strI x).length 1) roomNat], some b⟩
      | _, _ => bad m
    | _, _, _, _ => bad m
  | _, _, _ => bad m
def aAppendU (p : Prims) (T : Tab) (m : Mem) (t u : Nat) (s x : AV) : R :=
  match x with
  | .str x => aAppendS p T m t u s x
  | x => aAppendZ p T m t u s x

def isLit0 : AV → Bool
  | .int _ (.ofNat 0) => true
  | _ => false

def aMakeSlice (p : Prims) (T : Tab) (m : Mem) (t : Nat) (l c : AV) : R :=
  match (tyi T t).d, l, c with
  | .slice e, .int _ l, .int _ c => match allCells (tyi T e).z, Nat.ble 1 (tyi T e).sz, Nat.beq (lenA (tyi T e).z) (tyi T e).sz, Nat.ble 1 (tyi T e).bytes with
    | true, true, true, true => ⟨(zRows (tyi T e).ty (tyi T e).z (tyi T e).sz m e (p.toNat l)).1, (zRows (tyi T e).ty (tyi T e).z (tyi T e).sz m e (p.toNat l)).2, [p.le 0 l, p.le l c, p.ble (p.nmul (p.toNat c) (tyi T e).bytes) roomNat], none⟩
    | _, _, _, _ => bad m
  | _, _, _ => bad m

/-- What a callee is handed: memory of the caller's own is to it as all other memory. -/
def mapA (f : AV → AV) : List AV → List AV
  | [] => []
  | a :: l => f a :: mapA f l

def borrowN (m : Mem) : Nat → AV → AV
  | _, .own b n => match blk m b with
    | .rows _ sz _ c => .slice sz n false (fun i j => c i j)
    | .trows _ u l => .tsl u (l.take n) false
    | _ => .undef
  | _, .ownT b => match blk m b with | .trows _ u l => .tsl u l false | _ => .undef
  | _, .tail b lo n => match blk m b with
    | .rows _ sz _ c => .slice sz n false (fun i j => c (lo + i) j)
    | .trows _ u l => .tsl u ((l.drop lo).take n) false
    | _ => .undef
  | _, .eref b i off => match blk m b with
    | .rows _ sz _ c => .cptr (sz - off) (fun j => c i (off + j))
    | .trows _ u l => .cptr (szT u - off) (fun j => nth (rowT u l i) (off + j))
    | _ => .undef
  | _, .selfp _ => .undef
  | _, .asl _ _ => .undef
  | _, .mp b => match blk m b with | .map t u l => .mv t u l | .fam x y => .mv .str viewT (famView x y) | _ => .undef
  | _, .sub b j => match blk m b with | .fam _ y => .mv .str (.int .i64) (y.getD (j + 1) []) | _ => .undef
  | 0, .ref _ _ => .undef
  | k + 1, .ref b off => match blk m b with | .cells _ cs => .cptr (lenA cs - off) (fun j => nth (mapA (borrowN m k) cs) (off + j)) | _ => .undef
  | 0, .fn _ _ _ => .undef
  | k + 1, .fn f a c => .fn f (mapA (borrowN m k) a) (mapA (borrowN m k) c)
  | 0, .agg _ => .undef
  | k + 1, .agg cs => .agg (mapA (borrowN m k) cs)
  | 0, .tup _ => .undef
  | k + 1, .tup cs => .tup (mapA (borrowN m k) cs)
  | 0, .lst _ _ => .undef
  | k + 1, .lst i cs => .lst i (mapA (borrowN m k) cs)
  | _, v => v

def borrow (m : Mem) (v : AV) : AV := borrowN m 5 v
def borrows (m : Mem) (l : List AV) : List AV := mapA (borrowN m 5) l

/-- Does it lie in the memory of the call's own? (a callee might hand it back) -/
def isOut : AV → Bool
  | .agg cs => allOutside cs
  | .fn _ a c => match allOutside a, allOutside c with | true, true => true | _, _ => false
  | v => outside v

def allOut : List AV → Bool
  | [] => true
  | a :: l => match isOut a with | true => allOut l | false => false

def flat : AV → Bool
  | .agg cs => allScalar cs
  | v => scalar v

def allFlat : List AV → Bool
  | [] => true
  | a :: l => match flat a with | true => allFlat l | false => false

def flatR : AV → Bool
  | .tup vs => allFlat vs
  | v => flat v

/-- What a callee comes to: a value; or a slice that nobody else holds. -/
inductive CR where
  | val (v : AV)
  | fresh (e sz n : Nat) (c : Nat → Nat → AV)
  | freshT (e : Nat) (t : Ty) (l : List (El t))
  | valN (e : Nat) (t : Ty) (l : List (El t))

structure CallR where
  r : CR
  ks : List Bool

abbrev PureT := Prims → Nat → List AV → Option CallR
abbrev MemT := Prims → Nat → List AV → Mem → Option R

/-- What callees come to: by their arguments alone; or by what memory of the caller's own they are handed, too. -/
structure Oracle where
  pu : PureT
  me : MemT

def noMe : MemT := fun _ _ _ _ => none
def noPu : PureT := fun _ _ _ => none

/-- Data in which no slice lies. -/
def flatT : Ty → Bool
  | .list _ => false
  | .smap => false
  | .pair a b => match flatT a with | true => flatT b | false => false
  | _ => true
def orB : Bool → Bool → Bool
  | true, _ => true
  | false, b => b

def aCallP (p : Prims) (call : Oracle) (m : Mem) (id : Nat) (bargs : List AV) (oo : Bool) : R :=
    match call.pu p id bargs with
    | some ⟨.val v, ks⟩ => match oo with
      | true => ⟨v, m, ks, none⟩
      | false => match flatR v with
        | true => ⟨v, m, ks, none⟩
        | false => bad m
    | some ⟨.fresh e sz n c, ks⟩ => match oo with
      | true => ⟨.own (lenM m) n, snocM m (.rows e sz n c), ks, none⟩
      | false => bad m
    | some ⟨.freshT e u l, ks⟩ => match orB oo (flatT u) with
      | true => ⟨.ownT (lenM m), snocM m (.trows e u l), ks, none⟩
      | false => bad m
    | some ⟨.valN _ u l, ks⟩ => match flatT u with
      | true => ⟨.tsl u l false, m, ks, none⟩
      | false => bad m
    | none => bad m

def aCall (p : Prims) (call : Oracle) (m : Mem) (f : AV) (args : List AV) : R :=
  match f with
  | .fn (.func id) first cap =>
    match call.me p id (catA first (catA args cap)) m with
    | some r => r
    | none => aCallP p call m id (borrows m (catA first (catA args cap))) (allOut (catA first (catA args cap)))
  | .clo id first cap => aCallP p call m id (catA first (catA (borrows m args) cap)) (allOut args)
  | _ => bad m

def hd : List AV → AV
  | [] => .undef
  | a :: _ => a
def tl : List AV → List AV
  | [] => []
  | _ :: l => l
def hdN : List Nat → Nat
  | [t] => t
  | _ => 0
def hdN2 : List Nat → Option Nat
  | [t, u] => match Nat.beq t u with | true => some t | false => none
  | _ => none

/-! Maps: a list of keys and values, in the order in which they came. -/
def eqK : (t : Ty) → El t → El t → Bool
  | .int _, a, b => decide ((a : Int) = b)
  | .bool, a, b => (a : Bool) == b
  | .str, a, b => (a : List UInt8) == b
  | .pair _ _, _, _ => false
  | .list _, _, _ => false
  | .smap, _, _ => false
def getM (t u : Ty) : List (El t × El u) → El t → Option (El u)
  | [], _ => none
  | p :: l, k => bif eqK t k p.1 then some p.2 else getM t u l k
def putM (t u : Ty) : List (El t × El u) → El t → El u → List (El t × El u)
  | [], k, v => [(k, v)]
  | p :: l, k, v => bif eqK t k p.1 then (k, v) :: l else p :: putM t u l k v
def delM (t u : Ty) : List (El t × El u) → El t → List (El t × El u)
  | [], _ => []
  | p :: l, k => bif eqK t k p.1 then l else p :: delM t u l k
def keyTD : TD → Option Ty
  | .int k => some (.int k)
  | .bool => some .bool
  | .str => some .str
  | _ => none
def castM (t' u' t u : Ty) (l : List (El t' × El u')) : Option (List (El t × El u)) := castL (.pair t' u') (.pair t u) l
def aggTD : TD → Bool
  | .struct _ => true
  | .array _ _ => true
  | .other => true
  | _ => false
/-- A map type: its key's and its element's, and the element's zero. -/
def mapTy (T : Tab) (t : Nat) : Option (Ty × ((u : Ty) × El u)) :=
  match (tyi T t).d with
  | .map k e => match keyTD (tyi T k).d, (tyi T e).ty with
    | some a, some b => match rdE b (tyi T e).z, Nat.beq (szT b) 1, Nat.beq (tyi T e).sz 1, aggTD (tyi T e).d with
      | some z, true, true, false => some (a, ⟨b, z⟩)
      | _, _, _, _ => none
    | _, _ => none
  | _ => none
/-- Maps whose keys are numbers: nothing is struck from them, so an entry's stamp is its place. -/
def isIntT : Ty → Bool
  | .int _ => true
  | _ => false
def posM (t u : Ty) : List (El t × El u) → El t → Nat
  | [], _ => 0
  | p :: l, k => bif eqK t k p.1 then 0 else posM t u l k + 1
def entM (t u : Ty) (l : List (El t × El u)) (k : El t) (z : El u) : List (El t × El u) := match getM t u l k with | some _ => l | none => l ++ [(k, z)]
def aMakeMap (T : Tab) (m : Mem) (t : Nat) : R :=
  match mapTy T t with
  | some (a, ⟨b, _⟩) => ⟨.mp (lenM m), snocM m (.map a b []), [], none⟩
  | none => bad m
def lookR (m : Mem) (ok : Bool) (u : Ty) (r : Option (El u)) (z : El u) : R :=
  match ok with
  | true => val m (.tup [nth (cellsT u (r.getD z)) 0, .bool r.isSome])
  | false => val m (nth (cellsT u (r.getD z)) 0)
def aLookup (T : Tab) (m : Mem) (t : Nat) (x k : AV) (ok : Bool) : R :=
  match mapTy T t with
  | some (a, ⟨b, z⟩) => match rdE a [k] with
    | some k => match x with
      | .nilmap => lookR m ok b none z
      | .mv a' b' l => match castM a' b' a b l with
        | some l => lookR m ok b (getM a b l k) z
        | none => bad m
      | .mp i => match blk m i with
        | .map a' b' l => match castM a' b' a b l with
          | some l => lookR m ok b (getM a b l k) z
          | none => bad m
        | _ => bad m
      | _ => bad m
    | none => bad m
  | none => bad m
def aMapUpdate (p : Prims) (T : Tab) (m : Mem) (t : Nat) (x k v : AV) : R :=
  match mapTy T t with
  | some (a, ⟨b, _⟩) => match rdE a [k], rdE b [v] with
    | some k, some v => match x with
      | .mp i => match blk m i with
        | .map a' b' l => match castM a' b' a b l with
          | some l => ⟨.undef, setBlk m i (.map a b (putM a b l k v)), [p.ble (putM a b l k v).length 9223372036854775807], none⟩
          | none => bad m
        | _ => bad m
      | _ => bad m
    | _, _ => bad m
  | none => bad m
/-- Setting, where rows of one's own are given away. -/
def givenR (b : Nat) (r : R) : R := match r with | ⟨v, m, ks, _⟩ => ⟨v, m, ks, some b⟩
def aMapUpd (p : Prims) (T : Tab) (m : Mem) (t : Nat) (x k v : AV) : R :=
  match v with
  | .ownT b => match blk m b with
    | .trows _ u l => givenR b (aMapUpdate p T (invalMs b (setBlk m b .dead)) t (inval b x) (inval b k) (.tsl u l false))
    | _ => bad m
  | v => aMapUpdate p T m t x k v
def aDelete (T : Tab) (m : Mem) (t : Nat) (x k : AV) : R :=
  match mapTy T t with
  | some (a, ⟨b, _⟩) => match rdE a [k] with
    | some k => match x with
      | .nilmap => val m (.tup [])
      | .mp i => match blk m i with
        | .map a' b' l => match castM a' b' a b l, isIntT a with
          | some l, false => ⟨.tup [], setBlk m i (.map a b (delM a b l k)), [], none⟩
          | _, _ => bad m
        | _ => bad m
      | _ => bad m
    | none => bad m
  | none => bad m
/-- The entry of a key, laid there if there is none: its value, and its stamp. -/
def aMapEntry (p : Prims) (T : Tab) (m : Mem) (t : Nat) (x k : AV) : R :=
  match mapTy T t with
  | some (a, ⟨b, z⟩) => match rdE a [k], isIntT a with
    | some k, true => match x with
      | .mp i => match blk m i with
        | .map a' b' l => match castM a' b' a b l with
          | some l => ⟨.tup [nth (cellsT b ((getM a b l k).getD z)) 0, .int .i64 (posM a b l k : Nat)], setBlk m i (.map a b (entM a b l k z)), [p.ble (entM a b l k z).length 9223372036854775807], none⟩
          | none => bad m
        | _ => bad m
      | _ => bad m
    | _, _ => bad m
  | none => bad m
def aEntryStore (p : Prims) (T : Tab) (m : Mem) (t : Nat) (x s v : AV) : R :=
  match mapTy T t with
  | some (a, ⟨b, _⟩) => match rdE b [v], isIntT a with
    | some v, true => match x, s with
      | .mp i, .int .i64 n => match blk m i with
        | .map a' b' l => match castM a' b' a b l with
          | some l => ⟨.undef, setBlk m i (.map a b (l.modify n.toNat fun q => (q.1, v))), [p.inb n l.length], none⟩
          | none => bad m
        | _ => bad m
      | _, _ => bad m
    | _, _ => bad m
  | none => bad m

/-! Maps whose values hold maps. -/
abbrev famU : Ty := .pair (.int .i64) (.pair .str (.int .i64))
def famTy (T : Tab) (t : Nat) : Bool :=
  match (tyi T t).d with
  | .map k e => match (tyi T k).d, (tyi T e).d, (tyi T e).sz, (tyi T e).z with
    | .str, .struct _, 3, [.int .i64 (.ofNat 0), .str [], .nilmap] => true
    | _, _, _, _ => false
  | _ => false
def hasFam (T : Tab) : Nat → Bool
  | 0 => false
  | n + 1 => match famTy T n with | true => true | false => hasFam T n
def isSI : Ty → Ty → Bool
  | .str, .int .i64 => true
  | _, _ => false
/-- The maps that such a map's values hold. -/
def subTy (T : Tab) (t : Nat) : Bool :=
  match mapTy T t with
  | some (a, ⟨b, _⟩) => match isSI a b with | true => hasFam T T.length | false => false
  | none => false
def aMakeMp (T : Tab) (m : Mem) (t : Nat) : R :=
  match orB (famTy T t) (subTy T t) with
  | true => match (tyi T t).d with
    | .map _ _ => ⟨.mp (lenM m), snocM m (.fam [] [[]]), [], none⟩
    | _ => bad m
  | false => aMakeMap T m t
def famV (i : Nat) (q : El famU) : AV := .agg [.int .i64 q.1, .str q.2.1, .sub i q.2.2.toNat]
def famN : AV := .agg [.int .i64 0, .str [], .nilmap]
def okV (ok b : Bool) (v : AV) : AV := match ok with | true => .tup [v, .bool b] | false => v
def famW (q : El viewT) : AV := .agg [.int .i64 q.1, .str q.2.1, .mv .str (.int .i64) q.2.2]
def aFamLook (m : Mem) (x k : AV) (ok : Bool) : R :=
  match x, k with
  | .mv a b l, .str kk => match castM a b .str viewT l with
    | some l => match getM .str viewT l kk with
      | some q => val m (okV ok true (famW q))
      | none => val m (okV ok false famN)
    | none => bad m
  | .mp i, .str kk => match blk m i with
    | .fam X _ => match getM .str famU X kk with
      | some q => val m (okV ok true (famV i q))
      | none => val m (okV ok false famN)
    | _ => bad m
  | _, _ => bad m
def aLook (T : Tab) (m : Mem) (t : Nat) (x k : AV) (ok : Bool) : R :=
  match famTy T t with
  | true => aFamLook m x k ok
  | false => aLookup T m t x k ok
def aFamDel (m : Mem) (x k : AV) : R :=
  match x, k with
  | .mp i, .str kk => match blk m i with
    | .fam X Y => ⟨.tup [], setBlk m i (.fam (delM .str famU X kk) Y), [], none⟩
    | _ => bad m
  | _, _ => bad m
def aDel (T : Tab) (m : Mem) (t : Nat) (x k : AV) : R :=
  match famTy T t with
  | true => aFamDel m x k
  | false => aDelete T m t x k
/-- Setting: an inner map that was just made is given away. -/
def aFamUpd (p : Prims) (T : Tab) (m : Mem) (t : Nat) (x k : AV) (n : Int) (d : List UInt8) (b : Nat) : R :=
  match famTy T t, x, k, blk m b with
  | true, .mp i, .str kk, .fam [] [[]] => match Nat.beq i b, blk m i with
    | false, .fam X Y => ⟨.undef, setBlk (invalMs b (setBlk m b .dead)) i (.fam (putM .str famU X kk (n, d, ((Y.length - 1 : Nat) : Int))) (Y ++ [[]])), [p.ble 1 Y.length, p.ble (putM .str famU X kk (n, d, ((Y.length - 1 : Nat) : Int))).length 9223372036854775807], some b⟩
    | _, _ => bad m
  | _, _, _, _ => bad m
/-- An inner map is set. -/
def aSubUpd (p : Prims) (T : Tab) (m : Mem) (t : Nat) (i j : Nat) (k v : AV) : R :=
  match blk m i with
  | .fam X Y => match flat k, flat v, aMapUpdate p T [.map .str (.int .i64) (Y.getD (j + 1) [])] t (.mp 0) k v with
    | true, true, ⟨_, [.map .str (.int .i64) y'], ks, none⟩ => ⟨.undef, setBlk m i (.fam X (Y.set (j + 1) y')), ks, none⟩
    | _, _, _ => bad m
  | _ => bad m
def aMapSet (p : Prims) (T : Tab) (m : Mem) (t : Nat) (x k v : AV) : R :=
  match x with
  | .sub i j => aSubUpd p T m t i j k v
  | x => match v with
    | .agg [.int .i64 n, .str d, .mp b] => aFamUpd p T m t x k n d b
    | v => aMapUpd p T m t x k v

def aBuiltin (p : Prims) (T : Tab) (m : Mem) (b : Builtin) (at_ : List Nat) (args : List AV) : R :=
  match b, args with
  | .len, [x] => match at_ with | [t] => aLen p T m t x | _ => bad m
  | .cap, [x] => match at_ with | [t] => aCap p T m t x | _ => bad m
  | .clear, [x] => match at_ with | [t] => aClear T m t x | _ => bad m
  | .delete, [x, k] => match at_ with | [t, _] => aDel T m t x k | _ => bad m
  | .copy, [d, s] => match at_ with | [t, u] => aCopy p T m t u d s | _ => bad m
  | .append, [s, x] => match hdN2 at_ with
    | some t => aAppend p T m t s x
    | none => match at_ with
      | [t, u] => aAppendU p T m t u s x
      | _ => bad m
  | .max, .int k a :: l => aMax p m k a l
  | .min, .int k a :: l => aMin p m k a l
  | _, _ => bad m

def optOpnd (ts : List AV) : Option Operand → Option AV
  | none => none
  | some o => some (opnd ts o)

def litOp : Operand → Option Nat
  | .const (.int _ (.ofNat k)) => some k
  | _ => none

/-- One operation (but for 'pick', which the region sees to). -/
def aOp (p : Prims) (T : Tab) (call : Oracle) (ts : List AV) (m : Mem) (o : Op) : R :=
  match o with
  | .move x | .assign x => val m (opnd ts x)
  | .alloc t => aAlloc T m t
  | .box t x => aBox T m t (opnd ts x)
  | .build t ps => aBuild T m t (aParts ts ps.toList)
  | .buildSlice t n ps => aBuildSlice T m t n (aParts ts ps.toList)
  | .load t x => aLoad T m t (opnd ts x)
  | .store t x y => aStore T m t (opnd ts x) (opnd ts y)
  | .binOp op t x y _ => aBin p T m op t (opnd ts x) (opnd ts y)
  | .unOp op _ x => aUn p m op (opnd ts x)
  | .convert s d x => aConvB p T m s d (opnd ts x)
  | .makeFunc f a c => match allCells (opnds ts a.toList), allCells (opnds ts c.toList) with
    | true, true => val m (.fn f (opnds ts a.toList) (opnds ts c.toList))
    | _, _ => match f, allPlain (opnds ts a.toList), allPlain (opnds ts c.toList) with
      | .func id, true, true => val m (.clo id (opnds ts a.toList) (opnds ts c.toList))
      | _, _, _ => bad m
  | .makeSlice t l c => aMakeSlice p T m t (opnd ts l) (opnd ts c)
  | .slice t x lo hi mx => match mx with
    | none => aSlice p T m t (opnd ts x) (optOpnd ts lo) (optOpnd ts hi)
    | some mx => match lo, hi with
      | none, some hi => aSlice3g p T m t (opnd ts x) hi mx (opnd ts hi) (opnd ts mx)
      | _, _ => bad m
  | .fieldAddr t x f => aFieldAddr T m t (opnd ts x) f
  | .field t x f => aField T m t (opnd ts x) f
  | .indexAddr t x i => aIndexAddr p T m t (litOp i) (opnd ts x) (opnd ts i)
  | .index t x i => aIndex p T m t (litOp i) (opnd ts x) (opnd ts i)
  | .makeMap t none => aMakeMp T m t
  | .lookup t x k ok => aLook T m t (opnd ts x) (opnd ts k) ok
  | .mapUpdate t x k v => aMapSet p T m t (opnd ts x) (opnd ts k) (opnd ts v)
  | .mapEntry t x k => aMapEntry p T m t (opnd ts x) (opnd ts k)
  | .entryStore t x s v => aEntryStore p T m t (opnd ts x) (opnd ts s) (opnd ts v)
  | .range t x => aRange T m t (opnd ts x)
  | .next x s => aNext p m (opnd ts x) s
  | .extract x i => aExtract m (opnd ts x) i
  | .nilCheck x => aNil m (opnd ts x)
  | .call ⟨.builtin b, args, ats⟩ => aBuiltin p T m b ats.toList (opnds ts args.toList)
  | .call ⟨.value f, args, _⟩ => aCall p call m (opnd ts f) (opnds ts args.toList)
  | _ => bad m

/-! Regions: guards. -/
abbrev Chain := List (Nat × Bool)
abbrev Tags := List (Nat × Chain)

def tagOf : Tags → Nat → Chain
  | [], _ => []
  | (s, c) :: l, t => match Nat.beq s t with | true => c | false => tagOf l t

def isPre : Chain → Chain → Bool
  | [], _ => true
  | _, [] => false
  | (a, b) :: k, (c, d) :: l => match Nat.beq a c, b == d with | true, true => isPre k l | _, _ => false

def catC : Chain → Chain → Chain
  | [], l => l
  | a :: k, l => a :: catC k l

def useOk (tg : Tags) (C : Chain) : List Operand → Bool
  | [] => true
  | .tmp t :: l => match isPre (tagOf tg t) C with | true => useOk tg C l | false => false
  | _ :: l => useOk tg C l

def litOf (p : Prims) (ts : List AV) (s : Nat) (b : Bool) : Option Bool :=
  match nth ts s, b with
  | .bool x, true => some x
  | .bool x, false => some (p.not x)
  | _, _ => none

/-- The value of a chain of guards. -/
def chainVal (p : Prims) (ts : List AV) : Chain → Option Bool
  | [] => some true
  | [(s, b)] => litOf p ts s b
  | (s, b) :: c => match litOf p ts s b, chainVal p ts c with
    | some x, some y => some (p.and x y)
    | _, _ => none

def impAll (p : Prims) (g : Bool) : List Bool → List Bool
  | [] => []
  | k :: l => p.imp g k :: impAll p g l

def catB : List Bool → List Bool → List Bool
  | [], l => l
  | a :: k, l => a :: catB k l

structure St where
  ts : List AV
  m : Mem
  tg : Tags
  ks : List Bool

def mentions (s : Nat) : Chain → Bool
  | [] => false
  | (t, _) :: l => match Nat.beq s t with | true => true | false => mentions s l
def mentioned (s : Nat) : Tags → Bool
  | [] => false
  | (_, c) :: l => match mentions s c with | true => true | false => mentioned s l

def setTag (tg : Tags) (s : Nat) (c : Chain) : Tags :=
  match c, tagOf tg s with
  | [], [] => tg
  | c, _ => (s, c) :: tg

def isPickOp : Op → Bool
  | .pick .. => true
  | _ => false

/-- 'c && a', 'c || b': by the text of the operands. -/
def aPick (p : Prims) (ts : List AV) (c a b : Operand) : Option AV :=
  match opnd ts c with
  | .bool x =>
    match a, b with
    | a, .const (.bool false) => match opnd ts a with | .bool y => some (.bool (p.and x y)) | _ => none
    | .const (.bool true), b => match opnd ts b with | .bool y => some (.bool (p.or x y)) | _ => none
    | _, _ => none
  | _ => none

def pickOk (tg : Tags) (C : Chain) (c a b : Operand) : Bool :=
  match c with
  | .tmp s => match isPre (tagOf tg s) C, useOk tg (catC C [(s, true)]) [a], useOk tg (catC C [(s, false)]) [b] with
    | true, true, true => true
    | _, _, _ => false
  | _ => false

def failSt (s : St) : St := { s with ks := [false] }

def lenC : Chain → Nat
  | [] => 0
  | _ :: l => lenC l + 1

/-- Lays a result down. -/
def lay (s : St) (C : Chain) (dst : Option Nat) (v : AV) (m : Mem) (ks : List Bool) (inv : Option Nat) : St :=
  match dst with
  | some d =>
    match mentioned d s.tg, mentions d C with
    | false, false =>
      match inv with
      | none => ⟨put s.ts d v, m, setTag s.tg d C, catB s.ks ks⟩
      | some b => ⟨put (invals b s.ts) d v, m, setTag s.tg d C, catB s.ks ks⟩
    | _, _ => failSt s
  | none =>
    match inv with
    | none => ⟨s.ts, m, s.tg, catB s.ks ks⟩
    | some b => ⟨invals b s.ts, m, s.tg, catB s.ks ks⟩

def sameMem : R → Mem → Bool
  | _, _ => true

/-- Operations that neither make nor change memory of the call's own, whatever comes: these may be guarded. -/
def quietOp (T : Tab) : Op → Bool
  | .convert _ d _ => match (tyi T d).d with | .slice _ => false | _ => true
  | .move _ | .assign _ | .load .. | .binOp .. | .unOp .. | .makeFunc .. | .fieldAddr .. | .field .. | .indexAddr .. | .index .. | .lookup .. | .extract .. | .nilCheck _
  | .build .. | .buildSlice .. | .slice .. | .call ⟨.builtin .len, _, _⟩ | .call ⟨.builtin .cap, _, _⟩ | .call ⟨.builtin .max, _, _⟩ | .call ⟨.builtin .min, _, _⟩ => true
  | _ => false

def nthO : List Oper → Nat → Option Oper
  | [], _ => none
  | o :: _, 0 => some o
  | _ :: l, n + 1 => nthO l n

/-- The chain of guards of an operation. -/
def chainOf (ops : List Oper) (tg : Tags) : Option (Nat × Bool) → Option Chain
  | none => some []
  | some (j, b) => match nthO ops j with
    | some ⟨some d, _, _, _, _, _⟩ => some (catC (tagOf tg d) [(d, b)])
    | _ => none

/-- Is a call one that leaves memory of the call's own alone? -/
def quietCall (p : Prims) (call : Oracle) (ts : List AV) (m : Mem) : Op → Bool
  | .call ⟨.value f, args, _⟩ => match opnd ts f with
    | .fn (.func id) first cap => match call.me p id (catA first (catA (opnds ts args.toList) cap)) m with
      | none => true
      | some _ => false
    | _ => true
  | _ => true

/-- An operation behind guards. -/
def aGuarded (p : Prims) (T : Tab) (call : Oracle) (s : St) (C : Chain) (dst : Option Nat) (op : Op) : St :=
  match chainVal p s.ts C with
  | none => failSt s
  | some g =>
    match quietOp T op with
    | true => lay s C dst (aOp p T call s.ts s.m op).v s.m (impAll p g (aOp p T call s.ts s.m op).ks) none
    | false => match op with
      | .call ⟨.value _, _, _⟩ => match quietCall p call s.ts s.m op, (aOp p T call s.ts s.m op).v with
        | true, .own _ _ => failSt s
        | true, .ownT _ => failSt s
        | true, v => lay s C dst v s.m (impAll p g (aOp p T call s.ts s.m op).ks) none
        | false, _ => failSt s
      | _ => failSt s

def aPlain (p : Prims) (T : Tab) (call : Oracle) (s : St) (dst : Option Nat) (op : Op) : St :=
  match aOp p T call s.ts s.m op with
  | ⟨v, m, ks, inv⟩ => lay s [] dst v m ks inv

def aOper1 (p : Prims) (T : Tab) (call : Oracle) (s : St) (C : Chain) (dst : Option Nat) (op : Op) : St :=
  match useOk s.tg C op.operands.toList with
  | false => failSt s
  | true => match C with
    | [] => aPlain p T call s dst op
    | x :: C => aGuarded p T call s (x :: C) dst op

def aPickS (p : Prims) (s : St) (C : Chain) (dst : Option Nat) (c a b : Operand) : St :=
  match pickOk s.tg C c a b, aPick p s.ts c a b with
  | true, some v => lay s C dst v s.m [] none
  | _, _ => failSt s

def aOper2 (p : Prims) (T : Tab) (call : Oracle) (s : St) (C : Chain) (dst : Option Nat) : Op → St
  | .pick c a b => aPickS p s C dst c a b
  | op => aOper1 p T call s C dst op

def aOper (p : Prims) (T : Tab) (call : Oracle) (ops : List Oper) (s : St) (o : Oper) : St :=
  match chainOf ops s.tg o.guard with
  | none => failSt s
  | some C => aOper2 p T call s C o.dst o.op

def aOps (p : Prims) (T : Tab) (call : Oracle) (all : List Oper) : List Oper → St → St
  | [], s => s
  | o :: l, s => aOps p T call all l (aOper p T call all s o)

/-- Behind a region what was guarded is forgotten. -/
def wipe (ts : List AV) : Tags → List AV
  | [] => ts
  | (s, []) :: l => wipe ts l
  | (s, _ :: _) :: l => put (wipe ts l) s .undef

/-- A state: slots, memory; the first 'np' blocks are a caller's. -/
structure AS where
  ts : List AV
  m : Mem
  np : Nat

end Go.Eng
