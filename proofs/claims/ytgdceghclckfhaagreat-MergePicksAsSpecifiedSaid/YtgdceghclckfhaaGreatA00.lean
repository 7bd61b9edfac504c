/- The abstract machine: an evaluator over a heap that is told by numbers of its own, without tape and without draws. Definitions alone. -/
import GoSem.Step
import GoSem.Dispatch
import Derived.Below
import Derived.Laws.World
import Derived.Laws.Sem
import Derived.RangeFuncRecord
import Derived.Laws.Strings
import Derived.Laws.StructEq
import Derived.Laws.Cells
import Derived.Laws.Rows
import Derived.MapKept
import Derived.WideKeyRuns
import Derived.RangeFuncIn
import Derived.RangeFuncLeaves
import Derived.OrdersIn
import Derived.Scope
import Derived.LoopNIn
set_option linter.unusedVariables false
set_option linter.unusedSimpArgs false
namespace Go.AM
open Go

inductive AV where
  | undef
  | bool (b : Bool)
  | int (k : IntKind) (n : Int)
  | str (s : ByteArray)
  | nilptr
  | ptr (i off : Nat)
  | nilsl
  | sl (i off len cap es : Nat) (ex : Bool)
  | nilmap
  | map (i : Nat)
  | fn (f : Nat) (first cap : List AV)
  | yld (i : Nat)
  | nilfn
  | ifc (t : Nat) (v : AV)
  | nilif
  | agg (cs : List AV)
  | tup (vs : List AV)
  | lst (es n : Nat) (cs : List AV)
  | fp (off : Nat) (cs : List AV)
  deriving Inhabited

/-! Tries -/
inductive Tr (α : Type) where
  | leaf
  | node (l : Tr α) (v : Option α) (r : Tr α)

def Tr.val {α : Type} : Tr α → Option α
  | .leaf => none
  | .node _ v _ => v
def Tr.kid {α : Type} (b : Bool) : Tr α → Tr α
  | .leaf => .leaf
  | .node l _ r => (match b with | true => r | false => l)
def Tr.get {α : Type} (t : Tr α) : List Bool → Option α
  | [] => t.val
  | b :: p => (t.kid b).get p
def Tr.put {α : Type} (x : Option α) : Tr α → Tr α
  | .leaf => .node .leaf x .leaf
  | .node l _ r => .node l x r
def Tr.side {α : Type} (b : Bool) (k : Tr α) : Tr α → Tr α
  | .leaf => (match b with | true => .node .leaf none k | false => .node k none .leaf)
  | .node l v r => (match b with | true => .node l v k | false => .node k v r)
def Tr.set {α : Type} (t : Tr α) (p : List Bool) (x : α) : Tr α :=
  match p with
  | [] => t.put (some x)
  | b :: p => Tr.side b ((t.kid b).set p x) t

def pathF : Nat → Nat → List Bool
  | 0, _ => []
  | f + 1, n =>
    match n with
    | 0 => []
    | m + 1 => Nat.beq (m % 2) 1 :: pathF f (m / 2)

def path (n : Nat) : List Bool := pathF n n

abbrev Fr := Tr AV
def Fr.at_ (T : Fr) (p : List Bool) : AV :=
  match Tr.get T p with
  | some v => v
  | none => .undef

/-! Operands, operations, code -/
inductive AX where
  | t (p : List Bool)
  | c (v : AV)

def ev (T : Fr) : AX → AV
  | .t p => Fr.at_ T p
  | .c v => v

/-- what '==' looks at -/
inductive EqK where
  | bool | str | nilsl | nilptr | nilfn | nilmap | nilif | flat (n : Nat)

inductive AOp where
  | bad
  | mov (x : AX)
  | pick (c x y : AX)
  | alloc (cs : List AV)
  | box (x : AX)
  | build (z : List AV) (ps : List (Nat × Nat × AX))
  | bslice (es n : Nat) (z : List AV) (ps : List (Nat × Nat × AX))
  | load (x : AX) (ag : Bool) (n : Nat)
  | store (x v : AX) (n : Nat)
  | nilchk (x : AX)
  | bin (op : BinOp) (x y : AX)
  | eqv (neg : Bool) (k : EqK) (x y : AX)
  | un (op : UnOp) (x : AX)
  | convI (k : IntKind) (x : AX)
  | mkif (t : Nat) (x : AX)
  | mkfn (f : Nat) (first cap : List AX)
  | mkmap (kl : Nat)
  | mkslice (es bytes : Nat) (z : List AV) (l c : AX)
  | slice (es : Nat) (x : AX) (lo hi mx : Option AX)
  | slarr (n es : Nat) (x : AX) (lo hi mx : Option AX)
  | slstr (x : AX) (lo hi : Option AX)
  | faddr (off : Nat) (x : AX)
  | field (off n : Nat) (ag : Bool) (x : AX)
  | iaddrS (es : Nat) (x i : AX)
  | iaddrA (n es : Nat) (x i : AX)
  | idxA (len n : Nat) (ag : Bool) (x i : AX)
  | idxS (x i : AX)
  | lookup (kl : Nat) (z : AV) (ok : Bool) (m k : AX)
  | mapset (kl : Nat) (m k v : AX)
  | extract (x : AX) (i : Nat)
  | len (st : Bool) (x : AX)
  | append (es bytes : Nat) (s x : AX)
  | copy (es : Nat) (d s : AX)
  | clear (z : List AV) (x : AX)
  | mx (xs : List AX)
  | mn (xs : List AX)
  | call (f : Nat) (args : List AX)
  | callv (x : AX) (args : List AX)

structure AOper where
  dst : Option (List Bool)
  op : AOp
  guard : Option (List Bool × Bool)

/-- how an operation of a region that draws stands to the effects: an effect; an effect (a store) that may come ahead of the one before it; one that looks at memory, between the stages lo and hi; a new block that may be made at whatever stage; any other -/
inductive DK where
  | e
  | e2
  | l (lo hi : Nat)
  | pre (lo hi : Nat)
  | p

inductive ACode where
  | bad
  | skip
  | region (ops : List AOper)
  | draw (ops : List (DK × AOper))
  | seq (a b : ACode)
  | cond (c : AX) (a b : ACode)
  | block (id : Nat) (a : ACode)
  | loop (a : ACode)
  | exit (id : Nat)
  | ret
  | rangef (f : AX) (ps : List (List Bool)) (assign body : ACode)

inductive ARes where
  | t (p : List Bool)
  | cell (p : List Bool) (ag : Bool) (n : Nat)

structure AFn where
  body : ACode
  results : List ARes

inductive AExit where
  | normal
  | exit (id : Nat)
  | ret

structure ALoop where
  st : LoopState
  pend : Option AExit
  T : Fr
  ps : List (List Bool)
  assign : ACode
  body : ACode

inductive BSt where
  | own | ro

inductive AObj where
  | cells (cs : List AV) (st : BSt)
  | map (kl : Nat) (es : List (AV × AV × Nat)) (clock : Nat)
  | loop (L : ALoop)
  | gone

structure AHeap where
  tr : Tr AObj
  nx : Nat

def AHeap.get (H : AHeap) (i : Nat) : Option AObj := Tr.get H.tr (path i)
def AHeap.put (H : AHeap) (i : Nat) (o : AObj) : AHeap := ⟨Tr.set H.tr (path i) o, H.nx⟩
def AHeap.push (H : AHeap) (o : AObj) : AHeap := ⟨Tr.set H.tr (path H.nx) o, H.nx + 1⟩
def AHeap.empty : AHeap := ⟨.leaf, 0⟩

/-! Equality of values, told -/
def ikEq : IntKind → IntKind → Bool
  | .i8, .i8 | .i16, .i16 | .i32, .i32 | .i64, .i64 | .u8, .u8 | .u16, .u16 | .u32, .u32 | .u64, .u64 => true
  | _, _ => false
def intEq : Int → Int → Bool
  | .ofNat a, .ofNat b => Nat.beq a b
  | .negSucc a, .negSucc b => Nat.beq a b
  | _, _ => false
def intLe : Int → Int → Bool
  | .ofNat a, .ofNat b => Nat.ble a b
  | .ofNat _, .negSucc _ => false
  | .negSucc _, .ofNat _ => true
  | .negSucc a, .negSucc b => Nat.ble b a
def u8Eq (a b : UInt8) : Bool := Nat.beq a.toNat b.toNat
def bytesEq : List UInt8 → List UInt8 → Bool
  | [], [] => true
  | a :: x, b :: y => if u8Eq a b then bytesEq x y else false
  | _, _ => false
def boolEq : Bool → Bool → Bool
  | true, true | false, false => true
  | _, _ => false
mutual
def avEq : AV → AV → Bool
  | .undef, .undef => true
  | .bool a, .bool b => boolEq a b
  | .int j a, .int k b => ikEq j k && intEq a b
  | .str a, .str b => bytesEq a.data.toList b.data.toList
  | .nilptr, .nilptr => true
  | .ptr i o, .ptr j u => Nat.beq i j && Nat.beq o u
  | .nilsl, .nilsl => true
  | .sl i o l c e x, .sl i' o' l' c' e' x' => Nat.beq i i' && Nat.beq o o' && Nat.beq l l' && Nat.beq c c' && Nat.beq e e' && boolEq x x'
  | .nilmap, .nilmap => true
  | .map i, .map j => Nat.beq i j
  | .fn f a b, .fn g c d => Nat.beq f g && avsEq a c && avsEq b d
  | .yld i, .yld j => Nat.beq i j
  | .nilfn, .nilfn => true
  | .ifc t v, .ifc u w => Nat.beq t u && avEq v w
  | .nilif, .nilif => true
  | .agg a, .agg b => avsEq a b
  | .tup a, .tup b => avsEq a b
  | _, _ => false
def avsEq : List AV → List AV → Bool
  | [], [] => true
  | a :: x, b :: y => avEq a b && avsEq x y
  | _, _ => false
end

/-! Memory -/
def cellsOf : AV → Option (List AV)
  | .undef => none
  | .tup _ => none
  | .agg cs => some cs
  | v => some [v]
def isCell : AV → Bool
  | .undef => false
  | .tup _ => false
  | .agg _ => false
  | _ => true
def allCells : List AV → Bool
  | [] => true
  | v :: r => isCell v && allCells r

/-- n cells from a place on; none where there are not so many -/
def takeN : Nat → List AV → Option (List AV)
  | 0, _ => some []
  | _ + 1, [] => none
  | n + 1, v :: r =>
    match takeN n r with
    | some l => some (v :: l)
    | none => none
def dropN : Nat → List AV → Option (List AV)
  | 0, l => some l
  | _ + 1, [] => none
  | n + 1, _ :: r => dropN n r
def rangeOf (off n : Nat) (cs : List AV) : Option (List AV) :=
  match dropN off cs with
  | some l => takeN n l
  | none => none
/-- cells written from a place on -/
def overlay : List AV → List AV → Option (List AV)
  | [], cs => some cs
  | _ :: _, [] => none
  | v :: vs, _ :: cs =>
    match overlay vs cs with
    | some l => some (v :: l)
    | none => none
def write : Nat → List AV → List AV → Option (List AV)
  | 0, vs, cs => overlay vs cs
  | _ + 1, _, [] => none
  | n + 1, vs, c :: cs =>
    match write n vs cs with
    | some l => some (c :: l)
    | none => none

def AHeap.load (H : AHeap) (i off n : Nat) : Option (List AV) :=
  match H.get i with
  | some (.cells cs _) => rangeOf off n cs
  | _ => none
def AHeap.store (H : AHeap) (i off : Nat) (vs : List AV) : Option AHeap :=
  match H.get i with
  | some (.cells cs .own) =>
    match write off vs cs with
    | some l => some (H.put i (.cells l .own))
    | none => none
  | _ => none

def mkVal (ag : Bool) (cs : List AV) : Option AV :=
  if ag then some (.agg cs) else
  match cs with
  | [v] => some v
  | _ => none

def fill (z : List AV) : List (Nat × Nat × AV) → Option (List AV)
  | [] => some z
  | (off, n, v) :: r =>
    match cellsOf v with
    | some vs =>
      if Nat.beq vs.length n then
        match write off vs z with
        | some z' => fill z' r
        | none => none
      else none
    | none => none

/-! Numbers -/
def kMin : IntKind → Int
  | .i8 => -128 | .i16 => -32768 | .i32 => -2147483648 | .i64 => -9223372036854775808
  | _ => 0
def kMax : IntKind → Int
  | .i8 => 127 | .i16 => 32767 | .i32 => 2147483647 | .i64 => 9223372036854775807
  | .u8 => 255 | .u16 => 65535 | .u32 => 4294967295 | .u64 => 18446744073709551615
def wrapK (k : IntKind) (n : Int) : Int := if intLe (kMin k) n && intLe n (kMax k) then n else k.wrap n

def binI (op : BinOp) (k : IntKind) (x y : Int) : Option AV :=
  match op with
  | .add => some (.int k (wrapK k (x + y)))
  | .sub => some (.int k (wrapK k (x - y)))
  | .mul => some (.int k (wrapK k (x * y)))
  | .quo => if intEq y 0 then none else some (.int k (wrapK k (x.tdiv y)))
  | .rem => if intEq y 0 then none else some (.int k (x.tmod y))
  | .and => some (.int k (k.wrap (BitVec.ofInt k.bits x &&& BitVec.ofInt k.bits y).toNat))
  | .or => some (.int k (k.wrap (BitVec.ofInt k.bits x ||| BitVec.ofInt k.bits y).toNat))
  | .xor => some (.int k (k.wrap (BitVec.ofInt k.bits x ^^^ BitVec.ofInt k.bits y).toNat))
  | .andNot => some (.int k (k.wrap (BitVec.ofInt k.bits x &&& ~~~(BitVec.ofInt k.bits y)).toNat))
  | .eql => some (.bool (intEq x y))
  | .neq => some (.bool (!intEq x y))
  | .lss => some (.bool (!intLe y x))
  | .leq => some (.bool (intLe x y))
  | .gtr => some (.bool (!intLe x y))
  | .geq => some (.bool (intLe y x))
  | _ => none

def shiftI (op : BinOp) (k : IntKind) (x : Int) (y : Int) : Option AV :=
  match y with
  | .negSucc _ => none
  | .ofNat m =>
    match op with
    | .shl => some (.int k (wrapK k (x * 2 ^ (min m k.bits))))
    | .shr => some (.int k (x.fdiv (2 ^ (min m k.bits))))
    | _ => none

def bytesLt : List UInt8 → List UInt8 → Bool
  | _, [] => false
  | [], _ :: _ => true
  | a :: x, b :: y => if Nat.ble (a.toNat + 1) b.toNat then true else if u8Eq a b then bytesLt x y else false

def binS (op : BinOp) (x y : ByteArray) : Option AV :=
  match op with
  | .add => if Nat.ble (x.size + y.size) 1000000 then some (.str (x ++ y)) else none
  | .eql => some (.bool (bytesEq x.data.toList y.data.toList))
  | .neq => some (.bool (!bytesEq x.data.toList y.data.toList))
  | .lss => some (.bool (bytesLt x.data.toList y.data.toList))
  | .leq => some (.bool (bytesLt x.data.toList y.data.toList || bytesEq x.data.toList y.data.toList))
  | .gtr => some (.bool (!(bytesLt x.data.toList y.data.toList || bytesEq x.data.toList y.data.toList)))
  | .geq => some (.bool (!bytesLt x.data.toList y.data.toList))
  | _ => none

def bin (op : BinOp) (x y : AV) : Option AV :=
  match x, y with
  | .int k a, .int k' b =>
    match op with
    | .shl => shiftI .shl k a b
    | .shr => shiftI .shr k a b
    | op => if ikEq k k' then binI op k a b else none
  | .str a, .str b => binS op a b
  | _, _ => none

/-- equality of two flat rows of numbers, truth values, texts -/
def flatEq : List AV → List AV → Option Bool
  | [], [] => some true
  | .int j a :: x, .int k b :: y => if ikEq j k then (if intEq a b then flatEq x y else some false) else none
  | .bool a :: x, .bool b :: y => if boolEq a b then flatEq x y else some false
  | _, _ => none

/-- a frozen list is not nil where it has elements, or a mark; else it may be -/
def lstNil (n : Nat) : List AV → Option Bool
  | [] => if Nat.ble 1 n then some false else none
  | _ :: _ => some false
def eqv (k : EqK) (x y : AV) : Option Bool :=
  match k, x, y with
  | .bool, .bool a, .bool b => some (boolEq a b)
  | .nilsl, .nilsl, .nilsl => some true
  | .nilsl, .nilsl, .sl .. => some false
  | .nilsl, .sl .., .nilsl => some false
  | .nilsl, .nilsl, .lst _ n cs => lstNil n cs
  | .nilsl, .lst _ n cs, .nilsl => lstNil n cs
  | .nilptr, .nilptr, .nilptr => some true
  | .nilptr, .nilptr, .ptr .. => some false
  | .nilptr, .ptr .., .nilptr => some false
  | .nilptr, .nilptr, .fp .. => some false
  | .nilptr, .fp .., .nilptr => some false
  | .nilfn, .nilfn, .nilfn => some true
  | .nilfn, .nilfn, .fn .. => some false
  | .nilfn, .fn .., .nilfn => some false
  | .nilmap, .nilmap, .nilmap => some true
  | .nilmap, .nilmap, .map .. => some false
  | .nilmap, .map .., .nilmap => some false
  | .flat n, .agg a, .agg b => if Nat.beq a.length n && Nat.beq b.length n then flatEq a b else none
  | _, _, _ => none

def unop (op : UnOp) (x : AV) : Option AV :=
  match op, x with
  | .neg, .int k n => some (.int k (wrapK k (0 - n)))
  | .not, .bool b => some (.bool (!b))
  | .xor, .int k n => some (.int k (k.wrap (BitVec.ofInt k.bits (if k.signed then -1 else k.max) ^^^ BitVec.ofInt k.bits n).toNat))
  | _, _ => none

/-- a bound of a slice expression -/
def bnd (v : AV) (y : Nat) : Option Nat :=
  match v with
  | .int _ (.ofNat i) => if Nat.ble i y then some i else none
  | _ => none
def bounds (len cap : Nat) (lo hi mx : Option AV) : Option (Nat × Nat × Nat) :=
  match (match mx with | some v => bnd v cap | none => some cap) with
  | none => none
  | some m =>
    match (match hi, mx with
      | some v, some _ => bnd v m
      | some v, none => bnd v cap
      | none, none => some len
      | none, some _ => none) with
    | none => none
    | some h =>
      match (match lo with | some v => bnd v h | none => some 0) with
      | none => none
      | some l => some (l, h, m)

def maxI : AV → AV → Option AV
  | .int k x, .int _ y => some (.int k (if intLe y x then x else y))
  | _, _ => none
def minI : AV → AV → Option AV
  | .int k x, .int _ y => some (.int k (if intLe x y then x else y))
  | _, _ => none
def foldV (f : AV → AV → Option AV) : AV → List AV → Option AV
  | v, [] => some v
  | v, x :: r =>
    match f v x with
    | some u => foldV f u r
    | none => none

/-! Maps: keys are numbers (kl = 0), or rows of kl numbers -/
def keyOk (kl : Nat) : AV → Bool
  | .int .i64 _ => Nat.beq kl 0
  | .agg cs => Nat.ble 1 kl && Nat.beq cs.length kl && cs.all fun | .int .i64 _ => true | _ => false
  | _ => false
def findK (k : AV) : List (AV × AV × Nat) → Option AV
  | [] => none
  | (k', v, _) :: r => if avEq k k' then some v else findK k r
def setK (k v : AV) (clock : Nat) : List (AV × AV × Nat) → List (AV × AV × Nat) × Bool
  | [] => ([(k, v, clock)], true)
  | (k', u, b) :: r =>
    if avEq k k' then ((k', v, b) :: r, false) else
    match setK k v clock r with
    | (r', new) => ((k', u, b) :: r', new)

def evs (e : AX → AV) : List AX → List AV
  | [] => []
  | x :: r => e x :: evs e r
def parts (e : AX → AV) : List (Nat × Nat × AX) → List (Nat × Nat × AV)
  | [] => []
  | (a, b, x) :: r => (a, b, e x) :: parts e r
def optE (e : AX → AV) : Option AX → Option AV
  | none => none
  | some x => some (e x)
def repl (z : List AV) : Nat → List AV
  | 0 => []
  | n + 1 => z ++ repl z n

def firstCells (H : AHeap) (es n : Nat) : AV → Option (List AV)
  | .nilsl => if Nat.beq n 0 then some [] else none
  | .sl i off len _ es' _ => if Nat.ble n len && Nat.beq es es' then H.load i off (n * es) else none
  | .lst es' m cs => if Nat.ble n m && Nat.beq es es' then rangeOf 0 (n * es) cs else none
  | _ => none
def lenOf : AV → Option Nat
  | .nilsl => some 0
  | .sl _ _ len _ _ _ => some len
  | .lst _ n _ => some n
  | _ => none

/-- the most bytes that one slice may take here -/
def most : Nat := 1099511627776

/-- within the room that there is -/
def appIn (i off len cap n es : Nat) (ex : Bool) (new : List AV) (H : AHeap) : Option (AV × AHeap) :=
  match new with
  | [] => some (.sl i off len cap es ex, H)
  | _ =>
    match H.store i (off + len * es) new with
    | some H' => some (.sl i off (len + n) cap es ex, H')
    | none => none
/-- into a new block -/
def appNew (n es bytes : Nat) (cs : List AV) (H : AHeap) : Option (AV × AHeap) :=
  if Nat.ble ((n + 1) * bytes) most then some (.sl H.nx 0 n n es false, H.push (.cells cs .own)) else none
/-- the room is known, or not: then the elder block is given up -/
def appOut (i off len cap n es bytes : Nat) (ex : Bool) (new cs : List AV) (st : BSt) (H : AHeap) : Option (AV × AHeap) :=
  match rangeOf off (len * es) cs with
  | none => none
  | some old =>
    match ex with
    | true => appNew (len + n) es bytes (old ++ new) H
    | false =>
      match st with
      | .ro => none
      | .own => if Nat.beq len cap && Nat.beq (off + cap * es) cs.length then appNew (len + n) es bytes (old ++ new) (H.put i .gone) else none
def appTo (es bytes : Nat) (s : AV) (n : Nat) (new : List AV) (H : AHeap) : Option (AV × AHeap) :=
  match s with
  | .nilsl => if Nat.beq n 0 then some (.nilsl, H) else appNew n es bytes new H
  | .sl i off len cap es' ex =>
    if Nat.beq es es' then
      if Nat.ble (len + n) cap then appIn i off len cap n es ex new H
      else
        match H.get i with
        | some (.cells cs st) => appOut i off len cap n es bytes ex new cs st H
        | _ => none
    else none
  | _ => none
def appendOp (es bytes : Nat) (s x : AV) (H : AHeap) : Option (AV × AHeap) :=
  match lenOf x with
  | none => none
  | some n =>
    match firstCells H es n x with
    | none => none
    | some new => if allCells new && Nat.ble 1 es && Nat.ble 1 bytes then appTo es bytes s n new H else none

/-! Small looks at a value: so that each step of the evaluator is a small term -/
def asB : AV → Option Bool
  | .bool b => some b
  | _ => none
def asP : AV → Option (Nat × Nat)
  | .ptr i off => some (i, off)
  | _ => none
/-- a number that is not negative -/
def asN : AV → Option Nat
  | .int _ (.ofNat n) => some n
  | _ => none
def asI : AV → Option Int
  | .int _ n => some n
  | _ => none
def asA : AV → Option (List AV)
  | .agg cs => some cs
  | _ => none
def asT : AV → Option (List AV)
  | .tup vs => some vs
  | _ => none
def asStr : AV → Option ByteArray
  | .str s => some s
  | _ => none

def ret (H : AHeap) : Option AV → Option (AV × AHeap)
  | some v => some (v, H)
  | none => none
def retH : Option AHeap → Option (AV × AHeap)
  | some H => some (.undef, H)
  | none => none
/-- a block laid -/
def lay (cs : List AV) (H : AHeap) : AHeap := H.push (.cells cs .own)

def opPick (c x y : AV) (H : AHeap) : Option (AV × AHeap) :=
  match asB c with
  | some true => some (x, H)
  | some false => some (y, H)
  | none => none
def opBox (v : AV) (H : AHeap) : Option (AV × AHeap) :=
  match cellsOf v with
  | some cs => some (.ptr H.nx 0, lay cs H)
  | none => none
def opBuild (z : List AV) (ps : List (Nat × Nat × AV)) (H : AHeap) : Option (AV × AHeap) :=
  match fill z ps with
  | some cs => some (.agg cs, H)
  | none => none
def opBslice (es n : Nat) (z : List AV) (ps : List (Nat × Nat × AV)) (H : AHeap) : Option (AV × AHeap) :=
  match fill z ps with
  | some cs => some (.sl H.nx 0 n n es true, lay cs H)
  | none => none
def mkValO (ag : Bool) : Option (List AV) → Option AV
  | some cs => mkVal ag cs
  | none => none
def opLoad (v : AV) (ag : Bool) (n : Nat) (H : AHeap) : Option (AV × AHeap) :=
  match v with
  | .ptr i off => ret H (mkValO ag (H.load i off n))
  | .fp off cs => ret H (mkValO ag (rangeOf off n cs))
  | _ => none
def storeCs (a : Nat × Nat) (n : Nat) (cs : List AV) (H : AHeap) : Option AHeap :=
  if Nat.beq cs.length n && allCells cs then H.store a.1 a.2 cs else none
def opStore (x v : AV) (n : Nat) (H : AHeap) : Option (AV × AHeap) :=
  match asP x with
  | some a =>
    match cellsOf v with
    | some cs => retH (storeCs a n cs H)
    | none => none
  | none => none
def opNilchk (v : AV) (H : AHeap) : Option (AV × AHeap) :=
  match v with
  | .ptr i off => some (.ptr i off, H)
  | .fp off cs => some (.fp off cs, H)
  | .fn f a b => some (.fn f a b, H)
  | _ => none
def opEqv (neg : Bool) (k : EqK) (x y : AV) : Option AV :=
  match eqv k x y with
  | some b => some (.bool (if neg then !b else b))
  | none => none
def opConvI (k : IntKind) (v : AV) : Option AV :=
  match asI v with
  | some n => some (.int k (wrapK k n))
  | none => none
def opMkif (t : Nat) (v : AV) : Option AV :=
  match v with
  | .undef => none
  | v => some (.ifc t v)
def opMkslice (es bytes : Nat) (z : List AV) (l c : AV) (H : AHeap) : Option (AV × AHeap) :=
  match l, c with
  | .int .i64 (.ofNat l), .int .i64 (.ofNat c) =>
    if Nat.ble l c && Nat.ble (c * bytes) most && Nat.ble 1 bytes then some (.sl H.nx 0 l c es true, lay (repl z c) H) else none
  | _, _ => none
def slOf (es i off : Nat) (ex : Bool) (b : Nat × Nat × Nat) : AV := .sl i (off + b.1 * es) (b.2.1 - b.1) (b.2.2 - b.1) es ex
def slOfO (es i off : Nat) (ex : Bool) : Option (Nat × Nat × Nat) → Option AV
  | some b => some (slOf es i off ex b)
  | none => none
def lstOf (es : Nat) (cs : List AV) : Option (Nat × Nat × Nat) → Option AV
  | some b => some (.lst es (b.2.1 - b.1) ((cs.drop (b.1 * es)).take ((b.2.1 - b.1) * es)))
  | none => none
def opSlice (es : Nat) (v : AV) (lo hi mx : Option AV) : Option AV :=
  match v with
  | .nilsl =>
    match bounds 0 0 lo hi mx with
    | some _ => some .nilsl
    | none => none
  | .sl i off len cap es' ex =>
    if Nat.beq es es' then slOfO es i off (ex || mx.isSome) (bounds len cap lo hi mx) else none
  | .lst es' n cs => if Nat.beq es es' then lstOf es cs (bounds n n lo hi mx) else none
  | _ => none
def opSlarr (n es : Nat) (v : AV) (lo hi mx : Option AV) (H : AHeap) : Option (AV × AHeap) :=
  match v with
  | .ptr i off =>
    match H.get i with
    | some (.cells cs _) => if Nat.ble (off + n * es) cs.length then ret H (slOfO es i off true (bounds n n lo hi mx)) else none
    | _ => none
  | .fp off cs => if Nat.ble (off + n * es) cs.length then ret H (lstOf es (cs.drop off) (bounds n n lo hi mx)) else none
  | _ => none
def opSlstr (v : AV) (lo hi : Option AV) : Option AV :=
  match asStr v with
  | some s =>
    match bounds s.size s.size lo hi none with
    | some b => some (.str (s.extract b.1 b.2.1))
    | none => none
  | none => none
def opFaddr (off : Nat) (v : AV) : Option AV :=
  match v with
  | .ptr i o => some (.ptr i (o + off))
  | .fp o cs => some (.fp (o + off) cs)
  | _ => none
def opField (off n : Nat) (ag : Bool) (v : AV) : Option AV :=
  match asA v with
  | some cs => mkValO ag (rangeOf off n cs)
  | none => none
def opIaddrS (es : Nat) (v i : AV) : Option AV :=
  match v with
  | .sl b off len _ es' _ =>
    match asN i with
    | some k => if Nat.ble (k + 1) len && Nat.beq es es' then some (.ptr b (off + k * es)) else none
    | none => none
  | .lst es' n cs =>
    match asN i with
    | some k => if Nat.ble (k + 1) n && Nat.beq es es' then some (.fp (k * es) cs) else none
    | none => none
  | _ => none
def opIaddrA (n es : Nat) (v i : AV) : Option AV :=
  match v with
  | .ptr b off =>
    match asN i with
    | some k => if Nat.ble (k + 1) n then some (.ptr b (off + k * es)) else none
    | none => none
  | .fp off cs =>
    match asN i with
    | some k => if Nat.ble (k + 1) n then some (.fp (off + k * es) cs) else none
    | none => none
  | _ => none
def opIdxA (len n : Nat) (ag : Bool) (v i : AV) : Option AV :=
  match asA v with
  | some cs =>
    match asN i with
    | some k => if Nat.ble (k + 1) len then mkValO ag (rangeOf (k * n) n cs) else none
    | none => none
  | none => none
def opIdxS (v i : AV) : Option AV :=
  match asStr v with
  | some s =>
    match asN i with
    | some k =>
      match s.data.toList[k]? with
      | some b => some (.int .u8 (.ofNat b.toNat))
      | none => none
    | none => none
  | none => none
def found (z : AV) (ok : Bool) : Option AV → AV
  | some v => if ok then .tup [v, .bool true] else v
  | none => if ok then .tup [z, .bool false] else z
def opLookup (kl : Nat) (z : AV) (ok : Bool) (m k : AV) (H : AHeap) : Option (AV × AHeap) :=
  if keyOk kl k then
    match m with
    | .nilmap => some (found z ok none, H)
    | .map i =>
      match H.get i with
      | some (.map kl' es _) => if Nat.beq kl kl' then some (found z ok (findK k es), H) else none
      | _ => none
    | _ => none
  else none
def putMap (i kl clock : Nat) (H : AHeap) (r : List (AV × AV × Nat) × Bool) : AHeap :=
  match r.2 with
  | true => H.put i (.map kl r.1 (clock + 1))
  | false => H.put i (.map kl r.1 clock)
def opMapset (kl : Nat) (m k v : AV) (H : AHeap) : Option (AV × AHeap) :=
  if keyOk kl k then
    match m with
    | .map i =>
      match H.get i with
      | some (.map kl' es clock) => if Nat.beq kl kl' then some (.undef, putMap i kl clock H (setK k v clock es)) else none
      | _ => none
    | _ => none
  else none
def opExtract (v : AV) (i : Nat) : Option AV :=
  match asT v with
  | some vs => vs[i]?
  | none => none
def opLen (st : Bool) (v : AV) : Option AV :=
  match v with
  | .nilsl => if st then none else some (.int .i64 0)
  | .sl _ _ len _ _ _ => if st then none else some (.int .i64 (.ofNat len))
  | .lst _ n _ => if st then none else some (.int .i64 (.ofNat n))
  | .str s => if st then some (.int .i64 (.ofNat s.size)) else none
  | _ => none
def copyTo (es n : Nat) (d : AV) (cs : List AV) (H : AHeap) : Option (AV × AHeap) :=
  match cs with
  | [] => some (.int .i64 (.ofNat n), H)
  | _ =>
    match d with
    | .sl i off _ _ es' _ =>
      if Nat.beq es es' && allCells cs then
        match H.store i off cs with
        | some H' => some (.int .i64 (.ofNat n), H')
        | none => none
      else none
    | _ => none
def opCopy (es : Nat) (d s : AV) (H : AHeap) : Option (AV × AHeap) :=
  match lenOf s, lenOf d with
  | some n, some m =>
    match firstCells H es (min n m) s with
    | some cs => copyTo es (min n m) d cs H
    | none => none
  | _, _ => none
def opClear (z : List AV) (v : AV) (H : AHeap) : Option (AV × AHeap) :=
  match v with
  | .nilsl => some (.undef, H)
  | .sl i off len _ es' _ =>
    if Nat.beq len 0 then some (.undef, H) else
    if Nat.beq es' z.length && allCells z then retH (H.store i off (repl z len)) else none
  | _ => none
def opFold (f : AV → AV → Option AV) : List AV → Option AV
  | v :: r => foldV f v r
  | [] => none

def evalOp (e : AX → AV) (o : AOp) (H : AHeap) : Option (AV × AHeap) :=
  match o with
  | .bad => none
  | .mov x => some (e x, H)
  | .pick c x y => opPick (e c) (e x) (e y) H
  | .alloc cs => some (.ptr H.nx 0, lay cs H)
  | .box x => opBox (e x) H
  | .build z ps => opBuild z (parts e ps) H
  | .bslice es n z ps => opBslice es n z (parts e ps) H
  | .load x ag n => opLoad (e x) ag n H
  | .store x v n => opStore (e x) (e v) n H
  | .nilchk x => opNilchk (e x) H
  | .bin op x y => ret H (bin op (e x) (e y))
  | .eqv neg k x y => ret H (opEqv neg k (e x) (e y))
  | .un op x => ret H (unop op (e x))
  | .convI k x => ret H (opConvI k (e x))
  | .mkif t x => ret H (opMkif t (e x))
  | .mkfn f first cap => some (.fn f (evs e first) (evs e cap), H)
  | .mkmap kl => some (.map H.nx, H.push (.map kl [] 0))
  | .mkslice es bytes z l c => opMkslice es bytes z (e l) (e c) H
  | .slice es x lo hi mx => ret H (opSlice es (e x) (optE e lo) (optE e hi) (optE e mx))
  | .slarr n es x lo hi mx => opSlarr n es (e x) (optE e lo) (optE e hi) (optE e mx) H
  | .slstr x lo hi => ret H (opSlstr (e x) (optE e lo) (optE e hi))
  | .faddr off x => ret H (opFaddr off (e x))
  | .field off n ag x => ret H (opField off n ag (e x))
  | .iaddrS es x i => ret H (opIaddrS es (e x) (e i))
  | .iaddrA n es x i => ret H (opIaddrA n es (e x) (e i))
  | .idxA len n ag x i => ret H (opIdxA len n ag (e x) (e i))
  | .idxS x i => ret H (opIdxS (e x) (e i))
  | .lookup kl z ok m k => opLookup kl z ok (e m) (e k) H
  | .mapset kl m k v => opMapset kl (e m) (e k) (e v) H
  | .extract x i => ret H (opExtract (e x) i)
  | .len st x => ret H (opLen st (e x))
  | .append es bytes s x => appendOp es bytes (e s) (e x) H
  | .copy es d s => opCopy es (e d) (e s) H
  | .clear z x => opClear z (e x) H
  | .mx xs => ret H (opFold maxI (evs e xs))
  | .mn xs => ret H (opFold minI (evs e xs))
  | .call .. => none
  | .callv .. => none

/-! The evaluator. 'Rec': what is called one level down. -/
structure Rec where
  call : Nat → List AV → AHeap → Option (AV × AHeap)
  yld : Nat → List AV → AHeap → Option (AV × AHeap)
  loop : ACode → Fr → AHeap → Option (AExit × Fr × AHeap)

def callV (R : Rec) (f : AV) (args : List AV) (H : AHeap) : Option (AV × AHeap) :=
  match f with
  | .fn g first cap => R.call g (first ++ (args ++ cap)) H
  | .yld i => R.yld i args H
  | _ => none

def oper1 (R : Rec) (op : AOp) (T : Fr) (H : AHeap) : Option (AV × AHeap) :=
  match op with
  | .call f args => R.call f (evs (ev T) args) H
  | .callv x args => callV R (ev T x) (evs (ev T) args) H
  | o => evalOp (ev T) o H

def putD (dst : Option (List Bool)) (v : AV) (T : Fr) : Fr :=
  match dst with
  | some p => Tr.set T p v
  | none => T

/-- a guard's value: an operation that was passed over left the empty row, which wants nothing -/
def asW (want : Bool) : AV → Option Bool
  | .bool b => some b
  | .tup [] => some (!want)
  | _ => none
/-- is the operation carried out? -/
def wants (g : Option (List Bool × Bool)) (T : Fr) : Option Bool :=
  match g with
  | none => some true
  | some (p, b) =>
    match asW b (Fr.at_ T p) with
    | some c => some (boolEq b c)
    | none => none

def operRun (R : Rec) (o : AOper) (T : Fr) (H : AHeap) : Option (Fr × AHeap) :=
  match wants o.guard T with
  | some true =>
    match oper1 R o.op T H with
    | some (v, H') => some (putD o.dst v T, H')
    | none => none
  | some false => some (putD o.dst (.tup []) T, H)
  | none => none

def opsRun (R : Rec) : List AOper → Fr → AHeap → Option (Fr × AHeap)
  | [], T, H => some (T, H)
  | o :: r, T, H =>
    match operRun R o T H with
    | some (T', H') => opsRun R r T' H'
    | none => none

/-- what must read alike at each stage from lo to hi -/
inductive Rcd where
  | cells (i off n : Nat) (vs : List AV) (lo hi : Nat)
  | fresh (i : Nat) (cs : List AV) (lo hi : Nat)

def Rcd.ok (G : AHeap) : Rcd → Bool
  | .cells i off n vs _ _ =>
    match G.load i off n with
    | some l => avsEq l vs
    | none => false
  | .fresh i cs _ _ =>
    match G.get i with
    | some (.cells l .own) => avsEq l cs
    | _ => false
def Rcd.lo : Rcd → Nat
  | .cells _ _ _ _ lo _ => lo
  | .fresh _ _ lo _ => lo
def Rcd.hi : Rcd → Nat
  | .cells _ _ _ _ _ hi => hi
  | .fresh _ _ _ hi => hi

/-- all the stages, from number k on -/
def stagesOk (r : Rcd) : Nat → List AHeap → Bool
  | _, [] => true
  | k, G :: Gs => (if Nat.ble r.lo k && Nat.ble k r.hi then r.ok G else true) && stagesOk r (k + 1) Gs
def rcdsOk (Gs : List AHeap) : List Rcd → Bool
  | [] => true
  | r :: rs => stagesOk r 0 Gs && rcdsOk Gs rs

/-- the blocks that may be made at whatever stage are made first: the heap, their numbers, what is to be kept -/
def preRun : List (DK × AOper) → AHeap → Option (AHeap × List Nat × List Rcd)
  | [], H => some (H, [], [])
  | (.pre lo hi, o) :: r, H =>
    match o.guard, o.op with
    | none, .alloc cs =>
      (match preRun r (H.push (.cells cs .own)) with
       | some s => some (s.1, H.nx :: s.2.1, .fresh H.nx cs lo hi :: s.2.2)
       | none => none)
    | _, _ => none
  | _ :: r, H => preRun r H

def rcdOf (lo hi : Nat) (o : AOper) (T : Fr) (H : AHeap) : List Rcd :=
  match wants o.guard T with
  | some true =>
    (match o.op with
     | .load x _ n =>
       (match ev T x with
        | .ptr i off =>
          (match H.load i off n with
           | some vs => [.cells i off n vs lo hi]
           | none => [])
        | _ => [])
     | _ => [])
  | _ => []

/-- the block that a store goes to -/
def storeId (o : AOper) (T : Fr) : Option Nat :=
  match o.guard, o.op with
  | none, .store x _ _ =>
    (match ev T x with
     | .ptr i _ => some i
     | _ => none)
  | _, _ => none
def differ (a b : Option Nat) : Bool :=
  match a, b with
  | some i, some j => !Nat.beq i j
  | _, _ => false

/-- what a run of the operations gives: the frame, the heap, the heaps at the stages' ends, the records -/
structure DRes where
  T : Fr
  H : AHeap
  Gs : List AHeap
  rs : List Rcd
def DRes.stage (G : AHeap) : Option DRes → Option DRes
  | some r => some { r with Gs := G :: r.Gs }
  | none => none
def DRes.note (rs : List Rcd) : Option DRes → Option DRes
  | some r => some { r with rs := rs ++ r.rs }
  | none => none
/-- the operations in the text's order -/
def drawRun (R : Rec) : Option Nat → List Nat → List (DK × AOper) → Fr → AHeap → Option DRes
  | _, _, [], T, H => some { T := T, H := H, Gs := [H], rs := [] }
  | prev, ids, (.pre _ _, o) :: r, T, H =>
    match ids with
    | id :: ids' => drawRun R prev ids' r (putD o.dst (.ptr id 0) T) H
    | [] => none
  | _, ids, (.e, o) :: r, T, H =>
    match operRun R o T H with
    | some s => DRes.stage H (drawRun R (storeId o T) ids r s.1 s.2)
    | none => none
  | prev, ids, (.e2, o) :: r, T, H =>
    if differ prev (storeId o T) then
      match operRun R o T H with
      | some s => DRes.stage H (drawRun R none ids r s.1 s.2)
      | none => none
    else none
  | prev, ids, (.l lo hi, o) :: r, T, H =>
    match operRun R o T H with
    | some s => DRes.note (if Nat.beq lo hi then [] else rcdOf lo hi o T H) (drawRun R prev ids r s.1 s.2)
    | none => none
  | prev, ids, (.p, o) :: r, T, H =>
    match operRun R o T H with
    | some s => drawRun R prev ids r s.1 s.2
    | none => none

def drawEnd (rs1 : List Rcd) : Option DRes → Option (Fr × AHeap)
  | some r => if rcdsOk r.Gs rs1 && rcdsOk r.Gs r.rs then some (r.T, r.H) else none
  | none => none
def regionDraw (R : Rec) (ops : List (DK × AOper)) (T : Fr) (H : AHeap) : Option (Fr × AHeap) :=
  match preRun ops H with
  | some s => drawEnd s.2.2 (drawRun R none s.2.1 ops T s.1)
  | none => none

def setPs : List (List Bool) → List AV → Fr → Option Fr
  | [], [], T => some T
  | p :: ps, v :: vs, T => setPs ps vs (Tr.set T p v)
  | _, _, _ => none

def normC : Option (Fr × AHeap) → Option (AExit × Fr × AHeap)
  | some s => some (.normal, s.1, s.2)
  | none => none
def thenC (r : Option (AExit × Fr × AHeap)) (k : Fr → AHeap → Option (AExit × Fr × AHeap)) : Option (AExit × Fr × AHeap) :=
  match r with
  | none => none
  | some s =>
    match s.1 with
    | .normal => k s.2.1 s.2.2
    | e => some (e, s.2.1, s.2.2)
def blockC (id : Nat) (r : Option (AExit × Fr × AHeap)) : Option (AExit × Fr × AHeap) :=
  match r with
  | none => none
  | some s =>
    match s.1 with
    | .exit i => if Nat.beq i id then some (.normal, s.2.1, s.2.2) else some (.exit i, s.2.1, s.2.2)
    | e => some (e, s.2.1, s.2.2)
/-- behind the iterator's call -/
def rangeEnd (l : Nat) (T : Fr) (H : AHeap) : Option (AExit × Fr × AHeap) :=
  match H.get l with
  | some (.loop L) =>
    (match L.st with
     | .busy => none
     | _ =>
       (match L.pend with
        | none => some (.normal, T, H.put l (.loop { L with st := .exhausted }))
        | some e => some (e, T, H.put l (.loop { L with st := .exhausted }))))
  | _ => none
def rangeC (R : Rec) (f : AV) (ps : List (List Bool)) (assign body : ACode) (T : Fr) (H : AHeap) : Option (AExit × Fr × AHeap) :=
  match f with
  | .fn g first cap =>
    (match R.call g (first ++ ([.yld H.nx] ++ cap)) (H.push (.loop { st := .ready, pend := none, T := T, ps := ps, assign := assign, body := body })) with
     | some r => rangeEnd H.nx T r.2
     | none => none)
  | _ => none

def code (R : Rec) : ACode → Fr → AHeap → Option (AExit × Fr × AHeap)
  | .bad, _, _ => none
  | .skip, T, H => some (.normal, T, H)
  | .region ops, T, H => normC (opsRun R ops T H)
  | .draw ops, T, H => normC (regionDraw R ops T H)
  | .seq a b, T, H => thenC (code R a T H) (code R b)
  | .cond c a b, T, H =>
    match asB (ev T c) with
    | some true => code R a T H
    | some false => code R b T H
    | none => none
  | .block id a, T, H => blockC id (code R a T H)
  | .loop a, T, H => R.loop a T H
  | .exit id, T, H => some (.exit id, T, H)
  | .ret, T, H => some (.ret, T, H)
  | .rangef f ps assign body, T, H => rangeC R (ev T f) ps assign body T H

def resRun : List ARes → Fr → AHeap → Option (List AV)
  | [], _, _ => some []
  | .t p :: r, T, H =>
    match resRun r T H with
    | some vs => some (Fr.at_ T p :: vs)
    | none => none
  | .cell p ag n :: r, T, H =>
    match Fr.at_ T p with
    | .ptr i off =>
      (match H.load i off n with
       | some cs =>
         (match mkVal ag cs with
          | some v =>
            (match resRun r T H with
             | some vs => some (v :: vs)
             | none => none)
          | none => none)
       | none => none)
    | _ => none
def oneOrTup : List AV → AV
  | [v] => v
  | vs => .tup vs

def frameOf : Nat → List AV → Fr → Fr
  | _, [], T => T
  | k, v :: r, T => frameOf (k + 1) r (Tr.set T (path k) v)

def leaveF (rs : List ARes) (r : Option (AExit × Fr × AHeap)) : Option (AV × AHeap) :=
  match r with
  | none => none
  | some s =>
    match s.1 with
    | .exit _ => none
    | _ =>
      (match resRun rs s.2.1 s.2.2 with
       | some vs => some (oneOrTup vs, s.2.2)
       | none => none)
def callF (tbl : Nat → Option AFn) (R : Rec) (f : Nat) (args : List AV) (H : AHeap) : Option (AV × AHeap) :=
  match tbl f with
  | none => none
  | some fn => leaveF fn.results (code R fn.body (frameOf 0 args .leaf) H)

def yldF (R : Rec) (i : Nat) (args : List AV) (H : AHeap) : Option (AV × AHeap) :=
  match H.get i with
  | some (.loop L) =>
    (match setPs L.ps args L.T with
     | none => none
     | some T1 =>
       (match code R L.assign T1 H with
        | some (.normal, T2, H2) =>
          (match H2.get i with
           | some (.loop L2) =>
             (match L2.st with
              | .ready =>
                (match code R L.body T2 (H2.put i (.loop { L2 with st := .busy })) with
                 | some (e, _, H3) =>
                   (match H3.get i with
                    | some (.loop L3) =>
                      (match e with
                       | .normal => some (.bool true, H3.put i (.loop { L3 with st := .ready, pend := none }))
                       | e => some (.bool false, H3.put i (.loop { L3 with st := .done, pend := some e })))
                    | _ => none)
                 | none => none)
              | _ => none)
           | _ => none)
        | _ => none))
  | _ => none

def loopF (R : Rec) (a : ACode) (T : Fr) (H : AHeap) : Option (AExit × Fr × AHeap) := thenC (code R a T H) (R.loop a)

def stepR (tbl : Nat → Option AFn) (R : Rec) : Rec := { call := callF tbl R, yld := yldF R, loop := loopF R }
def noneR : Rec := { call := fun _ _ _ => none, yld := fun _ _ _ => none, loop := fun _ _ _ => none }
def runR (tbl : Nat → Option AFn) : Nat → Rec
  | 0 => noneR
  | n + 1 => stepR tbl (runR tbl n)

def isTrue (r : Option (AV × AHeap)) : Bool :=
  match r with
  | some (.bool true, _) => true
  | _ => false

end Go.AM
/- From the program's own code to the abstract machine's. -/
namespace Go.AM
open Go

def scalV : Value → Option AV
  | .bool b => some (.bool b)
  | .int k n => some (.int k n)
  | .string s => some (.str s)
  | .pointer none => some .nilptr
  | .slice none 0 0 => some .nilsl
  | .map none => some .nilmap
  | .nilFunc => some .nilfn
  | .nilIface => some .nilif
  | _ => none
def scalVs : List Value → Option (List AV)
  | [] => some []
  | v :: r =>
    match scalV v, scalVs r with
    | some a, some l => some (a :: l)
    | _, _ => none
def ofVal : Value → Option AV
  | .agg cs =>
    match scalVs cs.toList with
    | some l => some (.agg l)
    | none => none
  | v => scalV v

def cx : Operand → AX
  | .tmp t => .t (path t)
  | .const v =>
    match ofVal v with
    | some a => .c a
    | none => .c .undef
  | .func f => .c (.fn f [] [])
  | .global _ => .c .undef
def cxs : List Operand → List AX
  | [] => []
  | x :: r => cx x :: cxs r
def cxo : Option Operand → Option AX
  | none => none
  | some x => some (cx x)

section
variable (P : Program)
def usz (t : TypeId) : Option Nat := (P.info? t).map (·.size)
def uby (t : TypeId) : Option Nat := (P.info? t).map (·.bytes)
def uag (t : TypeId) : Option Bool :=
  match P.underlying t with
  | some (.struct _) => some true
  | some (.array _ _) => some true
  | some _ => some false
  | none => none
def uze (t : TypeId) : Option (List AV) :=
  match P.info? t with
  | some i =>
    match i.zero with
    | some v => scalVs v.cells.toList
    | none => none
  | none => none
/-- a type whose values are rows of that many numbers (or truth values), without a hidden field: an array of such -/
def flatInts (t : TypeId) : Option Nat :=
  match P.underlying t with
  | some (.array n e) =>
    match P.underlying e with
    | some (.int .i64) => if usz P e = some 1 then some n else none
    | _ => none
  | _ => none

def cparts (place : Nat → Option (Nat × Nat)) : List (Nat × Operand) → Option (List (Nat × Nat × AX))
  | [] => some []
  | (i, x) :: r =>
    match place i, cparts place r with
    | some (off, n), some l => some ((off, n, cx x) :: l)
    | _, _ => none

/-- a key's make: 0: a number; n: a row of n numbers -/
def keyOf (t : TypeId) : Option Nat :=
  match P.underlying t with
  | some (.int .i64) => some 0
  | _ =>
    match flatInts P t with
    | some n => if n = 0 then none else some n
    | none => none

def opt (o : Option AOp) : AOp :=
  match o with
  | some x => x
  | none => .bad

def cbin (op : BinOp) (xType : TypeId) (x y : Operand) : AOp :=
  match op with
  | .eql | .neq =>
    let neg := match op with | .neq => true | _ => false
    (match P.underlying xType with
     | some (.int _) | some .string => .bin op (cx x) (cx y)
     | some .bool => .eqv neg .bool (cx x) (cx y)
     | some (.slice _) => .eqv neg .nilsl (cx x) (cx y)
     | some (.pointer _) => .eqv neg .nilptr (cx x) (cx y)
     | some (.func ..) => .eqv neg .nilfn (cx x) (cx y)
     | some (.map ..) => .eqv neg .nilmap (cx x) (cx y)
     | _ => .bad)
  | _ => .bin op (cx x) (cx y)

def ccall (c : Call) : AOp :=
  match c.callee with
  | .value (.func f) => .call f (cxs c.args.toList)
  | .value x => .callv (cx x) (cxs c.args.toList)
  | .invoke _ _ => .bad
  | .builtin b =>
    match b, c.args.toList, c.argTypes.toList with
    | .len, [x], [t] =>
      (match P.underlying t with
       | some .string => .len true (cx x)
       | some (.slice _) => .len false (cx x)
       | _ => .bad)
    | .append, [s, x], [t, u] =>
      (match P.underlying t, P.underlying u with
       | some (.slice e), some (.slice _) =>
         (match usz P e, uby P e, uze P e with
          | some n, some b, some z => if z.length = n then .append n b (cx s) (cx x) else .bad
          | _, _, _ => .bad)
       | _, _ => .bad)
    | .copy, [d, s], [t, _] =>
      (match P.underlying t with
       | some (.slice e) =>
         (match usz P e with
          | some n => .copy n (cx d) (cx s)
          | none => .bad)
       | _ => .bad)
    | .clear, [x], [t] =>
      (match P.underlying t with
       | some (.slice e) =>
         (match uze P e, usz P e with
          | some z, some n => if z.length = n then .clear z (cx x) else .bad
          | _, _ => .bad)
       | _ => .bad)
    | .max, xs, _ => .mx (cxs xs)
    | .min, xs, _ => .mn (cxs xs)
    | _, _, _ => .bad

def cop (o : Oper) : AOp :=
  match o.op with
  | .move x | .assign x => .mov (cx x)
  | .pick c a b => .pick (cx c) (cx a) (cx b)
  | .alloc t =>
    match uze P t with
    | some z => .alloc z
    | none => .bad
  | .box _ x => .box (cx x)
  | .build t ps =>
    (match uze P t, P.underlying t with
     | some z, some (.struct fs) =>
       (match cparts (fun i => (fs[i]?).bind fun f => (usz P f.type).map fun n => (f.offset, n)) ps.toList with
        | some l => if fs.toList.all (fun f => (usz P f.type).isSome) then .build z l else .bad
        | none => .bad)
     | some z, some (.array _ e) =>
       (match usz P e with
        | some n =>
          (match cparts (fun i => some (i * n, n)) ps.toList with
           | some l => .build z l
           | none => .bad)
        | none => .bad)
     | _, _ => .bad)
  | .buildSlice t len ps =>
    (match P.underlying t with
     | some (.slice e) =>
       (match usz P e, uze P e with
        | some n, some z =>
          if z.length = n ∧ 1 ≤ n ∧ len * n ≤ 16777216 then
            (match cparts (fun i => some (i * n, n)) ps.toList with
             | some l => .bslice n len (repl z len) l
             | none => .bad)
          else .bad
        | _, _ => .bad)
     | _ => .bad)
  | .load t a =>
    (match uag P t, usz P t with
     | some true, some n => .load (cx a) true n
     | some false, some _ => .load (cx a) false 1
     | _, _ => .bad)
  | .store t a v =>
    (match usz P t with
     | some n => .store (cx a) (cx v) n
     | none => .bad)
  | .nilCheck x => .nilchk (cx x)
  | .binOp op t x y _ => cbin P op t x y
  | .unOp op _ x => .un op (cx x)
  | .convert src dst x =>
    (match P.underlying src, P.underlying dst with
     | some (.int _), some (.int k) => .convI k (cx x)
     | _, _ => .bad)
  | .makeInterface t x =>
    (match P.underlying t with
     | some (.interface _) => .bad
     | some _ => .mkif t (cx x)
     | none => .bad)
  | .makeFunc (.func f) first cap => .mkfn f (cxs first.toList) (cxs cap.toList)
  | .makeMap t none =>
    (match P.underlying t with
     | some (.map kt _) =>
       (match keyOf P kt with
        | some n => .mkmap n
        | none => .mkmap 0)
     | _ => .bad)
  | .makeSlice t l c =>
    (match P.underlying t with
     | some (.slice e) =>
       (match usz P e, uby P e, uze P e with
        | some n, some b, some z => if z.length = n ∧ 1 ≤ n then .mkslice n b z (cx l) (cx c) else .bad
        | _, _, _ => .bad)
     | _ => .bad)
  | .slice t x lo hi mx =>
    (match P.underlying t with
     | some (.slice e) =>
       (match usz P e with
        | some n => .slice n (cx x) (cxo lo) (cxo hi) (cxo mx)
        | none => .bad)
     | some (.array k e) =>
       (match usz P e with
        | some n => .slarr k n (cx x) (cxo lo) (cxo hi) (cxo mx)
        | none => .bad)
     | some .string => if mx.isNone then .slstr (cx x) (cxo lo) (cxo hi) else .bad
     | _ => .bad)
  | .fieldAddr t x f =>
    (match P.underlying t with
     | some (.struct fs) =>
       (match fs[f]? with
        | some g =>
          (match usz P g.type with
           | some (_ + 1) => .faddr g.offset (cx x)
           | _ => .bad)
        | none => .bad)
     | _ => .bad)
  | .field t x f =>
    (match P.underlying t with
     | some (.struct fs) =>
       (match fs[f]? with
        | some g =>
          (match uag P g.type, usz P g.type with
           | some true, some n => .field g.offset n true (cx x)
           | some false, some _ => .field g.offset 1 false (cx x)
           | _, _ => .bad)
        | none => .bad)
     | _ => .bad)
  | .indexAddr t x i =>
    (match P.underlying t with
     | some (.slice e) =>
       (match usz P e with
        | some n => .iaddrS n (cx x) (cx i)
        | none => .bad)
     | some (.array k e) =>
       (match usz P e with
        | some n => .iaddrA k n (cx x) (cx i)
        | none => .bad)
     | _ => .bad)
  | .index t x i =>
    (match P.underlying t with
     | some (.array k e) =>
       (match uag P e, usz P e with
        | some true, some n => .idxA k n true (cx x) (cx i)
        | some false, some 1 => .idxA k 1 false (cx x) (cx i)
        | _, _ => .bad)
     | some .string => .idxS (cx x) (cx i)
     | _ => .bad)
  | .lookup t m k ok =>
    (match P.underlying t with
     | some (.map kt e) =>
       (match keyOf P kt, P.info? e with
        | some n, some i =>
          (match i.zero with
           | some v =>
             (match ofVal v with
              | some z => .lookup n z ok (cx m) (cx k)
              | none => .bad)
           | none => .bad)
        | _, _ => .bad)
     | _ => .bad)
  | .mapUpdate t m k v | .insert t m k v =>
    (match P.underlying t with
     | some (.map kt _) =>
       (match keyOf P kt with
        | some n => .mapset n (cx m) (cx k) (cx v)
        | none => .bad)
     | _ => .bad)
  | .extract x i => .extract (cx x) i
  | .call c => ccall P c
  | _ => .bad

def cdst (N : Nat) : Option Tmp → Option (Option (List Bool))
  | none => some none
  | some d => if d < N then some (some (path d)) else none

/-- an operation of a region; one that does not fit becomes 'bad' -/
def coper (N : Nat) (ops : Array Oper) (o : Oper) : AOper :=
  match cdst N o.dst with
  | none => { dst := none, op := .bad, guard := none }
  | some dst =>
    match o.guard with
    | none => { dst := dst, op := cop P o, guard := none }
    | some (j, b) =>
      match (ops[j]?).bind (·.dst) with
      | some d => { dst := dst, op := cop P o, guard := some (path d, b) }
      | none => { dst := none, op := .bad, guard := none }
def copers (N : Nat) (ops : Array Oper) : List Oper → List AOper
  | [] => []
  | o :: r => coper P N ops o :: copers N ops r

/-! Regions that draw: who comes before whom -/
def maskOf (ms : List Nat) : List Edge → Nat
  | [] => 0
  | e :: r => if Region.binds .any e then 2 ^ e.on ||| (ms.getD e.on 0 ||| maskOf ms r) else maskOf ms r
def masksF : List Oper → List Nat → List Nat
  | [], ms => ms
  | o :: r, ms => masksF r (ms ++ [maskOf ms o.after.toList])
def masks (ops : List Oper) : List Nat := masksF ops []

def isE : AOp → Bool
  | .call .. | .callv .. | .append .. | .copy .. | .clear .. | .store .. | .mapset .. => true
  | _ => false
def isL : AOp → Bool
  | .load .. | .lookup .. | .len .. | .slarr .. => true
  | _ => false
def isA : AOp → Bool
  | .alloc .. | .box .. | .bslice .. | .mkslice .. | .mkmap _ => true
  | _ => false

/-- the numbers of the effects -/
def effs : Nat → List AOper → List Nat
  | _, [] => []
  | k, o :: r => if isE o.op then k :: effs (k + 1) r else effs (k + 1) r
/-- how many of the effects come before operation i at least: one more than the last that must -/
def loOf (m : Nat) : Nat → Nat → List Nat → Nat
  | _, acc, [] => acc
  | j, acc, e :: r => loOf m (j + 1) (if m.testBit e then j + 1 else acc) r
/-- the first effect that must come behind operation i -/
def hiOf (ms : List Nat) (i : Nat) : Nat → List Nat → Nat
  | j, [] => j
  | j, e :: r => if (ms.getD e 0).testBit i then j else hiOf ms i (j + 1) r

def kindsF (ms es : List Nat) (sw : Option Nat) : Nat → List AOper → List (DK × AOper)
  | _, [] => []
  | i, o :: r =>
    let m := ms.getD i 0
    let lo := loOf m 0 0 es
    let hi := hiOf ms i 0 es
    (if isE o.op then (if sw == some i then (.e2, o) else (.e, o))
     else if isL o.op then (.l lo hi, o)
     else if isA o.op then
       (if lo = hi then (.p, o) else (.pre lo hi, o))
     else (.p, o)) :: kindsF ms es sw (i + 1) r

/-- effects come one behind the other; the last two need not -/
def chained (ms : List Nat) : List Nat → Bool
  | [] => true
  | [_] => true
  | [_, _] => true
  | a :: b :: r => (ms.getD b 0).testBit a && chained ms (b :: r)
/-- the last effect, where it does not come behind the one before it -/
def swapOf (ms : List Nat) : List Nat → Option Nat
  | [] => none
  | [_] => none
  | [a, b] => if (ms.getD b 0).testBit a then none else some b
  | _ :: b :: r => swapOf ms (b :: r)
def lastTwo : List Nat → Option (Nat × Nat)
  | [a, b] => some (a, b)
  | _ :: r => lastTwo r
  | [] => none
/-- where the last two effects may change places: they are stores without a guard, and whoever looks at memory, makes a block or is another effect comes ahead of both -/
def aheadF (a b ma mb : Nat) : Nat → List AOper → Bool
  | _, [] => true
  | i, o :: r => (!(isL o.op || (isA o.op || (isE o.op && !(Nat.beq i a || Nat.beq i b)))) || (ma.testBit i && mb.testBit i)) && aheadF a b ma mb (i + 1) r
def swapOk (ms es : List Nat) (l : List AOper) : Bool :=
  match swapOf ms es, lastTwo es with
  | none, _ => true
  | some _, some (a, b) => aheadF a b (ms.getD a 0) (ms.getD b 0) 0 l
  | some _, none => false

/-- a path, told as a number -/
def num : List Bool → Nat
  | [] => 0
  | true :: p => 2 * num p + 2
  | false :: p => 2 * num p + 1
def xo : Option AX → List AX
  | none => []
  | some x => [x]
def xps : List (Nat × Nat × AX) → List AX
  | [] => []
  | (_, _, x) :: r => x :: xps r
/-- the operands -/
def AOp.xs : AOp → List AX
  | .bad => []
  | .mov x => [x]
  | .pick c x y => [c, x, y]
  | .alloc _ => []
  | .box x => [x]
  | .build _ ps => xps ps
  | .bslice _ _ _ ps => xps ps
  | .load x _ _ => [x]
  | .store x v _ => [x, v]
  | .nilchk x => [x]
  | .bin _ x y => [x, y]
  | .eqv _ _ x y => [x, y]
  | .un _ x => [x]
  | .convI _ x => [x]
  | .mkif _ x => [x]
  | .mkfn _ a b => a ++ b
  | .mkmap _ => []
  | .mkslice _ _ _ l c => [l, c]
  | .slice _ x lo hi top => x :: (xo lo ++ (xo hi ++ xo top))
  | .slarr _ _ x lo hi top => x :: (xo lo ++ (xo hi ++ xo top))
  | .slstr x lo hi => x :: (xo lo ++ xo hi)
  | .faddr _ x => [x]
  | .field _ _ _ x => [x]
  | .iaddrS _ x i => [x, i]
  | .iaddrA _ _ x i => [x, i]
  | .idxA _ _ _ x i => [x, i]
  | .idxS x i => [x, i]
  | .lookup _ _ _ m k => [m, k]
  | .mapset _ m k v => [m, k, v]
  | .extract x _ => [x]
  | .len _ x => [x]
  | .append _ _ s x => [s, x]
  | .copy _ d s => [d, s]
  | .clear _ x => [x]
  | .mx xs => xs
  | .mn xs => xs
  | .call _ args => args
  | .callv x args => x :: args
def looksX : List AX → List Nat
  | [] => []
  | .t p :: r => num p :: looksX r
  | .c _ :: r => looksX r
/-- the temporaries that an operation looks at -/
def looks (o : AOper) : List Nat :=
  match o.guard with
  | some (p, _) => num p :: looksX o.op.xs
  | none => looksX o.op.xs
/-- a writer of t, with its number, is set before or behind operation i as in the text -/
def orderly (ms : List Nat) (i : Nat) (mi t : Nat) : List (Nat × Nat) → Bool
  | [] => true
  | w :: ws => (if Nat.beq w.2 t then (if Nat.beq w.1 i then true else if Nat.blt w.1 i then mi.testBit w.1 else (ms.getD w.1 0).testBit i) else true) && orderly ms i mi t ws
def orderlyAll (ms : List Nat) (ws : List (Nat × Nat)) (i mi : Nat) : List Nat → Bool
  | [] => true
  | t :: ts => orderly ms i mi t ws && orderlyAll ms ws i mi ts
/-- nobody else writes t -/
def alone (i t : Nat) : List (Nat × Nat) → Bool
  | [] => true
  | w :: ws => (if Nat.beq w.2 t then Nat.beq w.1 i else true) && alone i t ws
/-- writers (with their numbers) and an operation (with its number): each writer of what it looks at is set before or behind it, as in the text; nobody else writes what it writes -/
def tmpsOk (ms : List Nat) (ws : List (Nat × Nat)) : Nat → List AOper → Bool
  | _, [] => true
  | i, o :: r => orderlyAll ms ws i (ms.getD i 0) (looks o) && (match o.dst with | some d => alone i (num d) ws | none => true) && tmpsOk ms ws (i + 1) r
def writersF : Nat → List AOper → List (Nat × Nat)
  | _, [] => []
  | i, o :: r =>
    match o.dst with
    | some d => (i, num d) :: writersF (i + 1) r
    | none => writersF (i + 1) r
/-- edges lead back; only where an operation floats is it a plain one -/
def edgesOk : Nat → List Oper → Bool
  | _, [] => true
  | i, o :: r => (o.after.toList.all fun e => !Region.binds .any e || e.on < i) && edgesOk (i + 1) r
def isN : AOp → Bool
  | .alloc _ | .bslice .. | .mkslice .. => true
  | _ => false
/-- floating ones: loads, and zeroed blocks without a guard; look-ups are not let float -/
def floatsOk : List (DK × AOper) → Bool
  | [] => true
  | (.p, o) :: r => (!isA o.op || isN o.op) && floatsOk r
  | (.pre _ _, o) :: r => (match o.op, o.guard with | .alloc _, none => true | _, _ => false) && floatsOk r
  | (.l lo hi, o) :: r => (lo == hi || (match o.op with | .load .. => true | .len .. => true | _ => false)) && floatsOk r
  | _ :: r => floatsOk r

def cdraw (N : Nat) (ops : Array Oper) : ACode :=
  let l := copers P N ops ops.toList
  let ms := masks ops.toList
  let es := effs 0 l
  let ks := kindsF ms es (swapOf ms es) 0 l
  if swapOk ms es l && edgesOk 0 ops.toList && chained ms es && tmpsOk ms (writersF 0 l) 0 l && floatsOk ks then .draw ks else .bad

/-- no range over a function within, and no label: what a round's body may be -/
def noR : Code → Bool
  | .seq a b => noR a && noR b
  | .cond _ a b => noR a && noR b
  | .block _ a => noR a
  | .loop a => noR a
  | .rangeFunc .. => false
  | .scope _ => false
  | _ => true

def cc (N : Nat) : Code → ACode
  | .skip => .skip
  | .region _ ops false => .region (copers P N ops ops.toList)
  | .region _ ops true => cdraw P N ops
  | .seq a b => .seq (cc N a) (cc N b)
  | .cond c a b => .cond (cx c) (cc N a) (cc N b)
  | .block id a => .block id (cc N a)
  | .loop a => .loop (cc N a)
  | .rangeFunc f ps assign body =>
    if ps.toList.all (· < N) && noR assign && noR body then .rangef (cx f) (ps.toList.map path) (cc N assign) (cc N body) else .bad
  | .exit id => .exit id
  | .scope a => cc N a
  | .label _ => .skip
  | .goto _ => .bad
  | .ret => .ret
  | .refuse _ => .bad

def cres : List ResultVar → Option (List ARes)
  | [] => some []
  | .tmp t :: r =>
    match cres r with
    | some l => some (.t (path t) :: l)
    | none => none
  | .cell a t :: r =>
    match uag P t, usz P t, cres r with
    | some true, some n, some l => some (.cell (path a) true n :: l)
    | some false, some _, some l => some (.cell (path a) false 1 :: l)
    | _, _, _ => none

def cfn (fn : Func) : Option AFn :=
  match fn.body, cres P fn.results.toList with
  | some c, some rs => if fn.name == "runtime.NumGoroutine" then none else some { body := cc P fn.ntmps c, results := rs }
  | _, _ => none
end

end Go.AM
/- Laws of the tries, of the paths, and of the told equality of values. -/
namespace Go.AM
open Go

theorem Tr.val_put {α : Type} (x : Option α) (t : Tr α) : (t.put x).val = x := by cases t <;> rfl
theorem Tr.kid_put {α : Type} (x : Option α) (b : Bool) (t : Tr α) : (t.put x).kid b = t.kid b := by cases t <;> cases b <;> rfl
theorem Tr.val_side {α : Type} (b : Bool) (k t : Tr α) : (Tr.side b k t).val = t.val := by cases t <;> cases b <;> rfl
theorem Tr.kid_side_same {α : Type} (b : Bool) (k t : Tr α) : (Tr.side b k t).kid b = k := by cases t <;> cases b <;> rfl
theorem Tr.kid_side_ne {α : Type} (b c : Bool) (h : b ≠ c) (k t : Tr α) : (Tr.side b k t).kid c = t.kid c := by
  cases t <;> cases b <;> cases c <;> first | rfl | exact absurd rfl h

theorem Tr.get_set_same {α : Type} (p : List Bool) (x : α) : ∀ t : Tr α, (t.set p x).get p = some x := by
  induction p with
  | nil => intro t; simp [Tr.set, Tr.get, Tr.val_put]
  | cons b p ih => intro t; simp [Tr.set, Tr.get, Tr.kid_side_same, ih]
theorem Tr.get_set_ne {α : Type} (p : List Bool) (x : α) : ∀ (t : Tr α) (q : List Bool), p ≠ q → (t.set p x).get q = t.get q := by
  induction p with
  | nil =>
    intro t q h
    cases q with
    | nil => exact absurd rfl h
    | cons c q => simp [Tr.set, Tr.get, Tr.kid_put]
  | cons b p ih =>
    intro t q h
    cases q with
    | nil => simp [Tr.set, Tr.get, Tr.val_side]
    | cons c q =>
      simp only [Tr.set, Tr.get]
      by_cases hb : b = c
      · subst hb
        rw [Tr.kid_side_same]
        exact ih _ _ (fun e => h (by rw [e]))
      · rw [Tr.kid_side_ne b c hb]
theorem Tr.get_leaf {α : Type} (p : List Bool) : (Tr.leaf : Tr α).get p = none := by
  induction p with
  | nil => rfl
  | cons b p ih => simpa [Tr.get, Tr.kid] using ih

theorem pathF_inj : ∀ (f g a b : Nat), a ≤ f → b ≤ g → pathF f a = pathF g b → a = b := by
  intro f
  induction f with
  | zero =>
    intro g a b ha hb h
    obtain rfl : a = 0 := by omega
    cases g with
    | zero => omega
    | succ g =>
      cases b with
      | zero => rfl
      | succ m => simp [pathF] at h
  | succ f ih =>
    intro g a b ha hb h
    cases g with
    | zero =>
      obtain rfl : b = 0 := by omega
      cases a with
      | zero => rfl
      | succ m => simp [pathF] at h
    | succ g =>
      cases a with
      | zero =>
        cases b with
        | zero => rfl
        | succ m => simp [pathF] at h
      | succ m =>
        cases b with
        | zero => simp [pathF] at h
        | succ n =>
          simp only [pathF, List.cons.injEq] at h
          have h2 := ih g (m / 2) (n / 2) (by omega) (by omega) h.2
          have h1 : (m % 2 = 1) ↔ (n % 2 = 1) := by
            constructor
            · intro e; have := h.1; rw [e] at this; exact Nat.eq_of_beq_eq_true this.symm
            · intro e; have := h.1; rw [e] at this; exact Nat.eq_of_beq_eq_true this
          omega
theorem path_inj {a b : Nat} (h : path a = path b) : a = b := pathF_inj a b a b (Nat.le_refl _) (Nat.le_refl _) h
theorem path_ne {a b : Nat} (h : a ≠ b) : path a ≠ path b := fun e => h (path_inj e)

theorem boolEq_eq {a b : Bool} (h : boolEq a b = true) : a = b := by cases a <;> cases b <;> first | rfl | cases h
theorem boolEq_iff {a b : Bool} : boolEq a b = true ↔ a = b := by cases a <;> cases b <;> simp [boolEq]
theorem ikEq_eq {a b : IntKind} (h : ikEq a b = true) : a = b := by cases a <;> cases b <;> first | rfl | cases h
theorem ikEq_refl (a : IntKind) : ikEq a a = true := by cases a <;> rfl
theorem intEq_eq {a b : Int} (h : intEq a b = true) : a = b := by
  cases a <;> cases b <;> simp [intEq] at h <;> simp [h]
theorem intEq_iff {a b : Int} : intEq a b = true ↔ a = b := ⟨intEq_eq, fun h => by subst h; cases a <;> simp [intEq]⟩
theorem intEq_dec (a b : Int) : intEq a b = (a == b) := by
  rw [Bool.eq_iff_iff, intEq_iff]; simp
theorem intLe_iff {a b : Int} : intLe a b = true ↔ a ≤ b := by
  cases a with
  | ofNat a => cases b with
    | ofNat b => simp [intLe]
    | negSucc b => simp [intLe]; omega
  | negSucc a => cases b with
    | ofNat b => simp [intLe]; omega
    | negSucc b => simp [intLe]; omega
theorem intLe_dec (a b : Int) : intLe a b = decide (a ≤ b) := by
  rw [Bool.eq_iff_iff, intLe_iff]; simp
theorem u8Eq_iff {a b : UInt8} : u8Eq a b = true ↔ a = b := by
  simp [u8Eq, UInt8.toNat_inj]
theorem bytesEq_iff : ∀ {a b : List UInt8}, bytesEq a b = true ↔ a = b := by
  intro a
  induction a with
  | nil => intro b; cases b <;> simp [bytesEq]
  | cons x a ih =>
    intro b
    cases b with
    | nil => simp [bytesEq]
    | cons y b =>
      simp only [bytesEq, List.cons.injEq]
      by_cases h : u8Eq x y = true
      · rw [if_pos h, ih]; simp [u8Eq_iff.1 h]
      · rw [if_neg h]; simp; intro e; exact absurd (u8Eq_iff.2 e) h

theorem str_ext {a b : ByteArray} (h : a.data.toList = b.data.toList) : a = b := by
  cases a; cases b; simp at h; simp [h]

mutual
theorem avEq_eq : ∀ {a b : AV}, avEq a b = true → a = b
  | .undef, b, h => by cases b <;> first | rfl | (simp [avEq] at h)
  | .bool x, b, h => by cases b <;> first | (simp only [avEq] at h; rw [boolEq_eq h]) | (simp [avEq] at h)
  | .int j x, b, h => by
    cases b <;> first
      | (simp only [avEq, Bool.and_eq_true] at h; rw [ikEq_eq h.1, intEq_eq h.2])
      | (simp [avEq] at h)
  | .str x, b, h => by
    cases b <;> first
      | (simp only [avEq] at h; rw [str_ext (bytesEq_iff.1 h)])
      | (simp [avEq] at h)
  | .nilptr, b, h => by cases b <;> first | rfl | (simp [avEq] at h)
  | .ptr i o, b, h => by
    cases b <;> first
      | (simp only [avEq, Bool.and_eq_true] at h; rw [Nat.eq_of_beq_eq_true h.1, Nat.eq_of_beq_eq_true h.2])
      | (simp [avEq] at h)
  | .nilsl, b, h => by cases b <;> first | rfl | (simp [avEq] at h)
  | .sl i o l c e x, b, h => by
    cases b <;> first
      | (simp only [avEq, Bool.and_eq_true] at h; obtain ⟨⟨⟨⟨⟨h1, h2⟩, h3⟩, h4⟩, h5⟩, h6⟩ := h; rw [Nat.eq_of_beq_eq_true h1, Nat.eq_of_beq_eq_true h2, Nat.eq_of_beq_eq_true h3, Nat.eq_of_beq_eq_true h4, Nat.eq_of_beq_eq_true h5, boolEq_eq h6])
      | (simp [avEq] at h)
  | .nilmap, b, h => by cases b <;> first | rfl | (simp [avEq] at h)
  | .map i, b, h => by
    cases b <;> first
      | (simp only [avEq] at h; rw [Nat.eq_of_beq_eq_true h])
      | (simp [avEq] at h)
  | .fn f x y, b, h => by
    cases b <;> first
      | (simp only [avEq, Bool.and_eq_true] at h; rw [Nat.eq_of_beq_eq_true h.1.1, avsEq_eq h.1.2, avsEq_eq h.2])
      | (simp [avEq] at h)
  | .yld i, b, h => by
    cases b <;> first
      | (simp only [avEq] at h; rw [Nat.eq_of_beq_eq_true h])
      | (simp [avEq] at h)
  | .nilfn, b, h => by cases b <;> first | rfl | (simp [avEq] at h)
  | .ifc t v, b, h => by
    cases b <;> first
      | (simp only [avEq, Bool.and_eq_true] at h; rw [Nat.eq_of_beq_eq_true h.1, avEq_eq h.2])
      | (simp [avEq] at h)
  | .nilif, b, h => by cases b <;> first | rfl | (simp [avEq] at h)
  | .agg x, b, h => by
    cases b <;> first
      | (simp only [avEq] at h; rw [avsEq_eq h])
      | (simp [avEq] at h)
  | .tup x, b, h => by
    cases b <;> first
      | (simp only [avEq] at h; rw [avsEq_eq h])
      | (simp [avEq] at h)
theorem avsEq_eq : ∀ {a b : List AV}, avsEq a b = true → a = b
  | [], b, h => by cases b <;> first | rfl | (simp [avsEq] at h)
  | x :: a, b, h => by
    cases b <;> first
      | (simp only [avsEq, Bool.and_eq_true] at h; rw [avEq_eq h.1, avsEq_eq h.2])
      | (simp [avsEq] at h)
end

end Go.AM
/- How the abstract machine's values and memory stand to the model's. -/
namespace Go.AM
open Go Go.RowKit

/-- which block, from which cell on, and how many cells that block has -/
abbrev Beta := Nat → Option (Nat × Nat × Nat)
def Ext (β β' : Beta) : Prop := ∀ i x, β i = some x → β' i = some x
theorem Ext.refl (β : Beta) : Ext β β := fun _ _ h => h
theorem Ext.trans {a b c : Beta} (h : Ext a b) (k : Ext b c) : Ext a c := fun i x e => k i x (h i x e)

mutual
inductive VR (β : Beta) : AV → Value → Prop where
  | undef (v : Value) : VR β .undef v
  | bool (b : Bool) : VR β (.bool b) (.bool b)
  | int (k : IntKind) (n : Int) : VR β (.int k n) (.int k n)
  | str (s : ByteArray) : VR β (.str s) (.string s)
  | nilptr : VR β .nilptr (.pointer none)
  | ptr (i off b s z : Nat) (h : β i = some (b, s, z)) : VR β (.ptr i off) (.pointer (some ⟨b, s + off, none⟩))
  | nilsl : VR β .nilsl (.slice none 0 0)
  | sl (i off len cap es : Nat) (ex : Bool) (b s z o c : Nat) (h : β i = some (b, s, z)) (hlc : len ≤ cap) (hcap : cap ≤ c) (hex : ex = true → c = cap)
      (ho : c = 0 ∨ o = s + off) (hz : s + off + c * es ≤ z) : VR β (.sl i off len cap es ex) (.slice (some ⟨b, o, none⟩) len c)
  | nilmap : VR β .nilmap (.map none)
  | map (i b s z : Nat) (h : β i = some (b, s, z)) : VR β (.map i) (.map (some b))
  | fn (f : Nat) (first cap : List AV) (fi ca : Array Value) (h1 : VRs β first fi.toList) (h2 : VRs β cap ca.toList) : VR β (.fn f first cap) (.func (.func f) fi ca)
  | yld (i b s z : Nat) (h : β i = some (b, s, z)) : VR β (.yld i) (.func (.yield b) #[] #[])
  | nilfn : VR β .nilfn .nilFunc
  | ifc (t : Nat) (v : AV) (w : Value) (h : VR β v w) : VR β (.ifc t v) (.iface t w)
  | nilif : VR β .nilif .nilIface
  | agg (cs : List AV) (c : Array Value) (h : VRs β cs c.toList) : VR β (.agg cs) (.agg c)
  | tup (cs : List AV) (c : Array Value) (h : VRs β cs c.toList) : VR β (.tup cs) (.tuple c)
inductive VRs (β : Beta) : List AV → List Value → Prop where
  | nil : VRs β [] []
  | cons (v : AV) (w : Value) (vs : List AV) (ws : List Value) (h : VR β v w) (hs : VRs β vs ws) : VRs β (v :: vs) (w :: ws)
end

mutual
theorem VR.mono {β β' : Beta} (e : Ext β β') : ∀ {v : AV} {w : Value}, VR β v w → VR β' v w
  | _, _, .undef v => .undef v
  | _, _, .bool b => .bool b
  | _, _, .int k n => .int k n
  | _, _, .str s => .str s
  | _, _, .nilptr => .nilptr
  | _, _, .ptr i off b s z h => .ptr i off b s z (e _ _ h)
  | _, _, .nilsl => .nilsl
  | _, _, .sl i off len cap es ex b s z o c h h1 h2 h3 h4 h5 => .sl i off len cap es ex b s z o c (e _ _ h) h1 h2 h3 h4 h5
  | _, _, .nilmap => .nilmap
  | _, _, .map i b s z h => .map i b s z (e _ _ h)
  | _, _, .fn f a b c d h1 h2 => .fn f a b c d (VRs.mono e h1) (VRs.mono e h2)
  | _, _, .yld i b s z h => .yld i b s z (e _ _ h)
  | _, _, .nilfn => .nilfn
  | _, _, .ifc t v w h => .ifc t v w (VR.mono e h)
  | _, _, .nilif => .nilif
  | _, _, .agg a b h => .agg a b (VRs.mono e h)
  | _, _, .tup a b h => .tup a b (VRs.mono e h)
theorem VRs.mono {β β' : Beta} (e : Ext β β') : ∀ {v : List AV} {w : List Value}, VRs β v w → VRs β' v w
  | _, _, .nil => .nil
  | _, _, .cons v w vs ws h hs => .cons v w vs ws (VR.mono e h) (VRs.mono e hs)
end

section
variable {β : Beta}
theorem VRs.length : ∀ {vs : List AV} {ws : List Value}, VRs β vs ws → vs.length = ws.length
  | _, _, .nil => rfl
  | _, _, .cons _ _ _ _ _ hs => by simp [hs.length]
theorem VRs.get : ∀ {vs : List AV} {ws : List Value}, VRs β vs ws → ∀ (k : Nat) (v : AV), vs[k]? = some v → ∃ w, ws[k]? = some w ∧ VR β v w
  | _, _, .nil, k, v, h => by simp at h
  | _, _, .cons v w vs ws h hs, k, u, hk => by
    cases k with
    | zero => simp at hk; subst hk; exact ⟨w, by simp, h⟩
    | succ k => simp at hk; obtain ⟨x, h1, h2⟩ := hs.get k u hk; exact ⟨x, by simpa using h1, h2⟩
theorem VRs.of_get : ∀ {vs : List AV} {ws : List Value}, vs.length = ws.length → (∀ (k : Nat) (v : AV), vs[k]? = some v → ∃ w, ws[k]? = some w ∧ VR β v w) → VRs β vs ws
  | [], [], _, _ => .nil
  | [], _ :: _, h, _ => by simp at h
  | _ :: _, [], h, _ => by simp at h
  | v :: vs, w :: ws, h, hg => by
    obtain ⟨x, h1, h2⟩ := hg 0 v (by simp)
    simp at h1; subst h1
    exact .cons v w vs ws h2 (VRs.of_get (by simpa using h) fun k u hk => by
      obtain ⟨x, h1, h2⟩ := hg (k + 1) u (by simpa using hk)
      exact ⟨x, by simpa using h1, h2⟩)
theorem VRs.append : ∀ {a : List AV} {a' : List Value} {b : List AV} {b' : List Value}, VRs β a a' → VRs β b b' → VRs β (a ++ b) (a' ++ b')
  | _, _, _, _, .nil, h => h
  | _, _, _, _, .cons v w vs ws h hs, hb => .cons v w _ _ h (hs.append hb)
theorem VR.oneCell {v : AV} {w : Value} (h : VR β v w) (hc : isCell v = true) : w.oneCell' = true := by
  cases h <;> first | rfl | (simp [isCell] at hc)
theorem cellsOf_rel {v : AV} {w : Value} (h : VR β v w) {cs : List AV} (hc : cellsOf v = some cs) : VRs β cs w.cells.toList := by
  cases h <;> simp only [cellsOf, Option.some.injEq] at hc <;> first
    | (subst hc; assumption)
    | (subst hc; exact .cons _ _ _ _ (by constructor <;> assumption) .nil)
    | cases hc
theorem cellsOf_size {v : AV} {w : Value} (h : VR β v w) {cs : List AV} (hc : cellsOf v = some cs) : w.cells.size = cs.length := by
  have := (cellsOf_rel h hc).length; simp at this; omega
end

/-! Frames -/
def TR (β : Beta) (N : Nat) (T : Fr) (tmps : Array Value) : Prop := N ≤ tmps.size ∧ ∀ t, VR β (Fr.at_ T (path t)) (tmps.getD t undef)
theorem TR.mono {β β' : Beta} (e : Ext β β') {N : Nat} {T : Fr} {tmps : Array Value} (h : TR β N T tmps) : TR β' N T tmps := ⟨h.1, fun t => (h.2 t).mono e⟩
theorem at_set_same (T : Fr) (p : List Bool) (v : AV) : Fr.at_ (Tr.set T p v) p = v := by simp [Fr.at_, Tr.get_set_same]
theorem at_set_ne (T : Fr) (p q : List Bool) (v : AV) (h : p ≠ q) : Fr.at_ (Tr.set T p v) q = Fr.at_ T q := by simp [Fr.at_, Tr.get_set_ne p v T q h]
theorem TR.set {β : Beta} {N : Nat} {T : Fr} {tmps : Array Value} (h : TR β N T tmps) {d : Nat} (hd : d < N) {v : AV} {w : Value} (hv : VR β v w) :
    TR β N (Tr.set T (path d) v) (tmps.setIfInBounds d w) := by
  refine ⟨by simpa using h.1, fun t => ?_⟩
  by_cases e : d = t
  · subst e
    have : d < tmps.size := Nat.lt_of_lt_of_le hd h.1
    rw [at_set_same]
    simp [Array.getD, this, hv]
  · rw [at_set_ne _ _ _ _ (path_ne e)]
    have : (tmps.setIfInBounds d w).getD t undef = tmps.getD t undef := by
      simp only [Array.getD_eq_getD_getElem?, Array.getElem?_setIfInBounds_ne e]
    rw [this]; exact h.2 t

/-! Memory -/
def codeOf : AExit → Option Code
  | .normal => none
  | .ret => some .ret
  | .exit id => some (.exit id)

def LR (P : Program) (pr : List Nat) (β : Beta) (L : ALoop) (L' : Loop) : Prop :=
  ∃ N, L'.state = L.st ∧ (L'.pending = match L.pend with | none => none | some e => codeOf e) ∧ L.pend ≠ some .normal ∧ TR β N L.T L'.tmps ∧
    L.ps = L'.params.toList.map path ∧ (∀ t, t ∈ L'.params.toList → t < N) ∧ L.assign = cc P N L'.assign ∧ L.body = cc P N L'.body ∧ noR L'.assign = true ∧ noR L'.body = true
theorem LR.mono {P : Program} {pr : List Nat} {β β' : Beta} (e : Ext β β') {L : ALoop} {L' : Loop} (h : LR P pr β L L') : LR P pr β' L L' := by
  obtain ⟨N, h1, h2, h3, h4, h5⟩ := h
  exact ⟨N, h1, h2, h3, h4.mono e, h5⟩

inductive ER (β : Beta) : List (AV × AV × Nat) → List MapEntry → Prop where
  | nil : ER β [] []
  | cons (k v : AV) (b : Nat) (k' v' : Value) (r : List (AV × AV × Nat)) (r' : List MapEntry) (hk : VR β k k') (hv : VR β v v') (hr : ER β r r') :
      ER β ((k, v, b) :: r) ({ key := k', val := v', born := b } :: r')
theorem ER.mono {β β' : Beta} (e : Ext β β') : ∀ {a : List (AV × AV × Nat)} {b : List MapEntry}, ER β a b → ER β' a b
  | _, _, .nil => .nil
  | _, _, .cons k v b k' v' r r' hk hv hr => .cons k v b k' v' r r' (hk.mono e) (hv.mono e) (hr.mono e)

def CR (β : Beta) (cs : List AV) (s : Nat) (c : Array Value) : Prop := ∀ (k : Nat) (v : AV), cs[k]? = some v → ∃ u, c[s + k]? = some u ∧ VR β v u

def OR (P : Program) (B : Nat) (pr : List Nat) (β : Beta) : AObj → Nat × Nat × Nat → World → Prop
  | .cells cs st, x, w => ∃ (c : Array Value) (e : TypeId) (fz : Nat × Nat), w.heap[x.1]? = some (.cells c e fz) ∧ c.size = x.2.2 ∧ x.2.1 + cs.length ≤ x.2.2 ∧
      CR β cs x.2.1 c ∧ (st = .own → B ≤ x.1 ∧ fz = (0, 0))
  | .map kl es ck, x, w => B ≤ x.1 ∧ ∃ ms, w.heap[x.1]? = some (.map ms ck) ∧ ER β es ms.toList ∧ ∀ y, y ∈ es → keyOk kl y.1 = true
  | .loop L, x, w => B ≤ x.1 ∧ ∃ L', w.heap[x.1]? = some (.loop L') ∧ LR P pr β L L'
  | .gone, _, _ => True

theorem OR.mono {P : Program} {B : Nat} {pr : List Nat} {β β' : Beta} (e : Ext β β') {o : AObj} {x : Nat × Nat × Nat} {w : World} (h : OR P B pr β o x w) : OR P B pr β' o x w := by
  cases o with
  | cells cs st =>
    obtain ⟨c, t, fz, h1, h2, h3, h4, h5⟩ := h
    exact ⟨c, t, fz, h1, h2, h3, fun k v hk => let ⟨u, a, b⟩ := h4 k v hk; ⟨u, a, b.mono e⟩, h5⟩
  | map kl es ck => obtain ⟨h0, ms, h1, h2, h3⟩ := h; exact ⟨h0, ms, h1, h2.mono e, h3⟩
  | loop L => obtain ⟨h0, L', h1, h2⟩ := h; exact ⟨h0, L', h1, h2.mono e⟩
  | gone => trivial
/-- an object's word speaks of one block -/
theorem OR.of_block {P : Program} {B : Nat} {pr : List Nat} {β : Beta} {o : AObj} {x : Nat × Nat × Nat} {w w' : World} (h : OR P B pr β o x w)
    (e : w'.heap[x.1]? = w.heap[x.1]?) : OR P B pr β o x w' := by
  cases o with
  | cells cs st => obtain ⟨c, t, fz, h1, h2⟩ := h; exact ⟨c, t, fz, e.trans h1, h2⟩
  | map kl es ck => obtain ⟨h0, ms, h1, h2⟩ := h; exact ⟨h0, ms, e.trans h1, h2⟩
  | loop L => obtain ⟨h0, L', h1, h2⟩ := h; exact ⟨h0, L', e.trans h1, h2⟩
  | gone => trivial

def live : AObj → Bool
  | .gone => false
  | _ => true

/-- a live object's block lies in memory -/
theorem OR.lt {P : Program} {B : Nat} {pr : List Nat} {β : Beta} {o : AObj} {x : Nat × Nat × Nat} {w : World} (h : OR P B pr β o x w) (hl : live o = true) : x.1 < w.heap.size := by
  have : ∃ ob, w.heap[x.1]? = some ob := by
    cases o with
    | cells cs st => obtain ⟨c, t, fz, h1, _⟩ := h; exact ⟨_, h1⟩
    | map kl es ck => obtain ⟨_, ms, h1, _⟩ := h; exact ⟨_, h1⟩
    | loop L => obtain ⟨_, L', h1, _⟩ := h; exact ⟨_, h1⟩
    | gone => simp [live] at hl
  obtain ⟨ob, h1⟩ := this
  exact (Array.getElem?_eq_some_iff.1 h1).1

structure HR (P : Program) (B : Nat) (w0 : World) (pr : List Nat) (β : Beta) (H : AHeap) (w : World) : Prop where
  below : Below B w0 w
  base : B ≤ w.heap.size
  dom : ∀ i x, β i = some x → i < H.nx
  free : ∀ i, H.nx ≤ i → H.get i = none
  inj : ∀ i j x y o u, i ≠ j → β i = some x → β j = some y → H.get i = some o → H.get j = some u → live o = true → live u = true → x.1 ≠ y.1
  obj : ∀ i x o, β i = some x → H.get i = some o → OR P B pr β o x w
  prs : ∀ d, d ∈ pr → B ≤ d ∧ w.heap[d]? = some (.deferred (some []))
  blk : ∀ i x, β i = some x → x.1 < w.heap.size

theorem get_put_same (H : AHeap) (i : Nat) (o : AObj) : (H.put i o).get i = some o := by simp [AHeap.put, AHeap.get, Tr.get_set_same]
theorem get_put_ne (H : AHeap) (i j : Nat) (o : AObj) (h : i ≠ j) : (H.put i o).get j = H.get j := by simp [AHeap.put, AHeap.get, Tr.get_set_ne _ _ _ _ (path_ne h)]
theorem get_push_same (H : AHeap) (o : AObj) : (H.push o).get H.nx = some o := by simp [AHeap.push, AHeap.get, Tr.get_set_same]
theorem get_push_ne (H : AHeap) (j : Nat) (o : AObj) (h : j ≠ H.nx) : (H.push o).get j = H.get j := by simp [AHeap.push, AHeap.get, Tr.get_set_ne _ _ _ _ (path_ne (Ne.symm h))]
@[simp] theorem nx_put (H : AHeap) (i : Nat) (o : AObj) : (H.put i o).nx = H.nx := rfl
@[simp] theorem nx_push (H : AHeap) (o : AObj) : (H.push o).nx = H.nx + 1 := rfl

def Beta.add (β : Beta) (i : Nat) (x : Nat × Nat × Nat) : Beta := fun j => if j = i then some x else β j
theorem Beta.add_same (β : Beta) (i : Nat) (x : Nat × Nat × Nat) : β.add i x i = some x := by simp [Beta.add]
theorem Beta.add_ne (β : Beta) (i j : Nat) (x : Nat × Nat × Nat) (h : j ≠ i) : β.add i x j = β j := by simp [Beta.add, h]
theorem Beta.add_ext (β : Beta) (i : Nat) (x : Nat × Nat × Nat) (h : β i = none) : Ext β (β.add i x) := fun j y hj => by
  by_cases e : j = i
  · subst e; rw [h] at hj; cases hj
  · rw [Beta.add_ne _ _ _ _ e]; exact hj

/-- what an elder number stands for stays; new numbers alone are given a block -/
def Ex (H : AHeap) (β : Beta) (H' : AHeap) (β' : Beta) : Prop := H.nx ≤ H'.nx ∧ ∀ i, i < H.nx → β' i = β i
theorem Ex.refl (H : AHeap) (β : Beta) : Ex H β H β := ⟨Nat.le_refl _, fun _ _ => rfl⟩
theorem Ex.same {H H' : AHeap} (β : Beta) (h : H'.nx = H.nx) : Ex H β H' β := ⟨by omega, fun _ _ => rfl⟩
theorem Ex.trans {H H' H'' : AHeap} {β β' β'' : Beta} (h : Ex H β H' β') (k : Ex H' β' H'' β'') : Ex H β H'' β'' :=
  ⟨Nat.le_trans h.1 k.1, fun i hi => (k.2 i (Nat.lt_of_lt_of_le hi h.1)).trans (h.2 i hi)⟩
theorem Ex.add {H H' : AHeap} {β : Beta} (x : Nat × Nat × Nat) (h : H'.nx = H.nx + 1) : Ex H β H' (β.add H.nx x) :=
  ⟨by omega, fun i hi => Beta.add_ne _ _ _ _ (by omega)⟩

section
variable {P : Program} {B : Nat} {w0 : World} {pr : List Nat} {β : Beta} {H : AHeap} {w : World}

theorem Ex.ext {H' : AHeap} {β' : Beta} (e : Ex H β H' β') (h : HR P B w0 pr β H w) : Ext β β' := fun i x hx => by rw [e.2 i (h.dom i x hx)]; exact hx

theorem HR.none_nx (h : HR P B w0 pr β H w) : β H.nx = none := by
  cases e : β H.nx with
  | none => rfl
  | some x => exact absurd (h.dom _ _ e) (Nat.lt_irrefl _)

/-- a draw turns nothing -/
theorem HR.drew (h : HR P B w0 pr β H w) : HR P B w0 pr β H w.drew :=
  { below := h.below.drew, base := h.base, dom := h.dom, free := h.free, inj := h.inj
    obj := fun i x o a b => (h.obj i x o a b).of_block rfl, prs := h.prs, blk := h.blk }

/-- a new block in memory, and a new number for it -/
theorem HR.push (h : HR P B w0 pr β H w) {o : AObj} {w' : World} (x : Nat × Nat × Nat) (hx : x.1 = w.heap.size)
    (hb : Below w.heap.size w w') (hsz : w.heap.size < w'.heap.size) (ho : OR P B pr (β.add H.nx x) o x w') :
    HR P B w0 pr (β.add H.nx x) (H.push o) w' := by
  have ext := β.add_ext H.nx x h.none_nx
  have old : ∀ i y, (β.add H.nx x) i = some y → i ≠ H.nx → β i = some y := fun i y e hi => by rw [Beta.add_ne _ _ _ _ hi] at e; exact e
  refine { below := h.below.trans (hb.mono h.base), base := Nat.le_trans h.base (Nat.le_of_lt hsz), dom := fun i y e => ?_, free := fun i hi => ?_, inj := ?_, obj := fun i y u e g => ?_, prs := fun d hd => ?_, blk := fun i y e => ?_ }
  · by_cases hi : i = H.nx
    · subst hi; simp
    · exact Nat.lt_succ_of_lt (h.dom _ _ (old i y e hi))
  · simp at hi
    rw [get_push_ne _ _ _ (by omega)]; exact h.free i (by omega)
  · intro i j y z u v hij ei ej gi gj lu lv
    by_cases hi : i = H.nx
    · subst hi
      rw [Beta.add_same] at ei; cases ei
      have hj : j ≠ H.nx := fun e => hij e.symm
      have := h.blk j z (old j z ej hj)
      omega
    · by_cases hj : j = H.nx
      · subst hj
        rw [Beta.add_same] at ej; cases ej
        have := h.blk i y (old i y ei hi)
        omega
      · rw [get_push_ne _ _ _ hi] at gi
        rw [get_push_ne _ _ _ hj] at gj
        exact h.inj i j y z u v hij (old i y ei hi) (old j z ej hj) gi gj lu lv
  · by_cases hi : i = H.nx
    · subst hi
      rw [Beta.add_same] at e; cases e
      rw [get_push_same] at g; cases g
      exact ho
    · rw [get_push_ne _ _ _ hi] at g
      have hb' := old i y e hi
      exact ((h.obj i y u hb' g).of_block (hb.block _ (h.blk i y hb'))).mono ext
  · have := h.prs d hd
    exact ⟨this.1, (hb.block _ (Array.getElem?_eq_some_iff.1 this.2).1).trans this.2⟩
  · by_cases hi : i = H.nx
    · subst hi; rw [Beta.add_same] at e; cases e; omega
    · exact Nat.lt_of_lt_of_le (h.blk i y (old i y e hi)) (Nat.le_of_lt hsz)

/-- one object is told anew -/
theorem HR.put (h : HR P B w0 pr β H w) {i : Nat} {x : Nat × Nat × Nat} {o : AObj} {w' : World} (hi : β i = some x) (hold : ∃ u, H.get i = some u ∧ live u = true)
    (hb : Below B w w') (hsame : ∀ k, k ≠ x.1 → w'.heap[k]? = w.heap[k]?) (hsz : w'.heap.size = w.heap.size) (hpr : x.1 ∉ pr)
    (ho : OR P B pr β o x w') : HR P B w0 pr β (H.put i o) w' := by
  obtain ⟨u0, hu0, hl0⟩ := hold
  refine { below := h.below.trans hb, base := by rw [hsz]; exact h.base, dom := h.dom, free := fun j hj => ?_, inj := ?_, obj := fun j y u e g => ?_, prs := fun d hd => ?_, blk := fun j y e => by rw [hsz]; exact h.blk j y e }
  · rw [get_put_ne _ _ _ _ (by rintro rfl; have := h.dom _ _ hi; simp at hj; omega)]; exact h.free j hj
  · intro j k y z u v hjk ej ek gj gk lu lv
    by_cases e1 : i = j
    · subst e1
      rw [get_put_ne _ _ _ _ hjk] at gk
      exact h.inj _ _ _ _ _ _ hjk ej ek hu0 gk hl0 lv
    · rw [get_put_ne _ _ _ _ e1] at gj
      by_cases e2 : i = k
      · subst e2
        exact h.inj _ _ _ _ _ _ hjk ej ek gj hu0 lu hl0
      · rw [get_put_ne _ _ _ _ e2] at gk
        exact h.inj _ _ _ _ _ _ hjk ej ek gj gk lu lv
  · by_cases e1 : i = j
    · subst e1
      rw [get_put_same] at g; cases g
      rw [hi] at e; cases e
      exact ho
    · rw [get_put_ne _ _ _ _ e1] at g
      cases hl : live u with
      | false => cases u <;> first | trivial | (simp [live] at hl)
      | true => exact (h.obj j y u e g).of_block (hsame _ (Ne.symm (h.inj _ _ _ _ _ _ e1 hi e hu0 g hl0 hl)))
  · have := h.prs d hd
    exact ⟨this.1, (hsame d (fun e => hpr (e ▸ hd))).trans this.2⟩

/-- a new number without a block of its own yet: nobody knows it -/
theorem HR.ghost (h : HR P B w0 pr β H w) (o : AObj) : HR P B w0 pr β (H.push o) w := by
  have hn := h.none_nx
  have ne : ∀ i x, β i = some x → i ≠ H.nx := fun i x e hi => by subst hi; rw [hn] at e; cases e
  exact { below := h.below, base := h.base, dom := fun i x e => Nat.lt_succ_of_lt (h.dom i x e)
          free := fun i hi => by simp at hi; rw [get_push_ne _ _ _ (by omega)]; exact h.free i (by omega)
          inj := fun i j x y o u hij ei ej gi gj lo lu => by
            rw [get_push_ne _ _ _ (ne i x ei)] at gi; rw [get_push_ne _ _ _ (ne j y ej)] at gj
            exact h.inj i j x y o u hij ei ej gi gj lo lu
          obj := fun i x o e g => by rw [get_push_ne _ _ _ (ne i x e)] at g; exact h.obj i x o e g
          prs := h.prs, blk := h.blk }

/-- cells cannot be a block that is kept for deferred calls -/
theorem HR.not_pr (h : HR P B w0 pr β H w) {i : Nat} {x : Nat × Nat × Nat} {o : AObj} (hi : β i = some x) (g : H.get i = some o) (hl : live o = true) : x.1 ∉ pr := by
  intro hd
  have h1 := (h.prs _ hd).2
  cases o with
  | cells cs st => obtain ⟨c, t, fz, h2, _⟩ := h.obj i x _ hi g; rw [h1] at h2; cases h2
  | map kl es ck => obtain ⟨_, ms, h2, _⟩ := h.obj i x _ hi g; rw [h1] at h2; cases h2
  | loop L => obtain ⟨_, L', h2, _⟩ := h.obj i x _ hi g; rw [h1] at h2; cases h2
  | gone => simp [live] at hl
end
end Go.AM
/- Operations that touch no memory: the abstract machine's word is the model's. -/
namespace Go.AM
open Go Go.RowKit

section
variable {P : Program} {w : World} {β : Beta}

def PureV (P : Program) (w : World) (β : Beta) (s : Sem Value) (r : Option AV) : Prop := ∀ v, r = some v → ∃ u, s.run P w = .ok u w ∧ VR β v u

/-! constants -/
theorem scalV_rel {v : Value} {a : AV} (h : scalV v = some a) : VR β a v := by
  unfold scalV at h
  split at h <;> first | cases h | skip
  all_goals constructor
theorem scalVs_rel : ∀ {l : List Value} {a : List AV}, scalVs l = some a → VRs β a l := by
  intro l
  induction l with
  | nil => intro a h; simp [scalVs] at h; subst h; exact .nil
  | cons v r ih =>
    intro a h
    simp only [scalVs] at h
    split at h <;> first | cases h | skip
    rename_i h1 h2
    exact .cons _ _ _ _ (scalV_rel h1) (ih h2)
theorem ofVal_rel {v : Value} {a : AV} (h : ofVal v = some a) : VR β a v := by
  unfold ofVal at h
  split at h
  · split at h <;> first | cases h | skip
    rename_i h1
    exact .agg _ _ (scalVs_rel h1)
  · exact scalV_rel h

theorem eval_rel {N : Nat} {T : Fr} {a : Act} (hT : TR β N T a.tmps) (x : Operand) : VR β (ev T (cx x)) (a.eval x) := by
  cases x with
  | tmp t => exact hT.2 t
  | const v =>
    simp only [cx]
    split
    · rename_i h; exact ofVal_rel h
    · exact .undef _
  | global g => exact .undef _
  | func f => exact .fn _ _ _ _ _ .nil .nil

/-! the program's tables -/
theorem run_underlying {t : TypeId} {d : TypeDesc} (h : P.underlying t = some d) : (underlying t).run P w = .ok d w := by simp [underlying, h]
theorem run_typeInfo {t : TypeId} {d : TypeInfo} (h : P.info? t = some d) : (typeInfo t).run P w = .ok d w := by simp [typeInfo, h]
theorem run_sizeOf {t : TypeId} {n : Nat} (h : usz P t = some n) : (sizeOf t).run P w = .ok n w := by
  unfold usz at h
  cases e : P.info? t with
  | none => simp [e] at h
  | some i => simp [e] at h; simp [sizeOf, run_typeInfo e, h]
theorem run_isAgg {t : TypeId} {b : Bool} (h : uag P t = some b) : (isAgg t).run P w = .ok b w := by
  unfold uag at h
  cases e : P.underlying t with
  | none => simp [e] at h
  | some d =>
    simp only [isAgg, Sem.run_bind, run_underlying e, Result.andThen_ok]
    cases d <;> simp_all
theorem run_zeroValue {t : TypeId} {i : TypeInfo} {v : Value} (h : P.info? t = some i) (hz : i.zero = some v) : (zeroValue t).run P w = .ok v w := by
  simp [zeroValue, run_typeInfo h, hz]

/-! numbers -/
theorem wrapK_eq (k : IntKind) (n : Int) : wrapK k n = k.wrap n := by
  unfold wrapK
  split
  · rename_i h
    simp only [Bool.and_eq_true, intLe_iff] at h
    obtain ⟨h1, h2⟩ := h
    cases k <;> simp only [kMin, kMax] at h1 h2 <;> simp only [IntKind.wrap, IntKind.bits, IntKind.signed] <;> simp <;> omega
  · rfl

theorem vr_int {k : IntKind} {n : Int} {u : Value} (h : VR β (.int k n) u) : u = .int k n := by cases h; rfl
theorem vr_bool {b : Bool} {u : Value} (h : VR β (.bool b) u) : u = .bool b := by cases h; rfl
theorem vr_str {s : ByteArray} {u : Value} (h : VR β (.str s) u) : u = .string s := by cases h; rfl

theorem not_intLe (a b : Int) : (!intLe a b) = decide (b < a) := by
  rw [intLe_dec]; simp only [← decide_not, Int.not_le]

theorem binI_run (op : BinOp) (k : IntKind) (x y : Int) (v : AV) (h : binI op k x y = some v) (hs : op ≠ .shl ∧ op ≠ .shr) :
    ∃ u, (Go.binOp op 0 (.int k x) (.int k y)).run P w = .ok u w ∧ VR β v u ∧ ∀ t, Go.binOp op t (.int k x) (.int k y) = Go.binOp op 0 (.int k x) (.int k y) := by
  cases op <;> simp only [binI] at h <;> first
    | (exact absurd rfl hs.1)
    | (exact absurd rfl hs.2)
    | cases h
    | skip
  all_goals first
    | (split at h
       · cases h
       · rename_i hy
         have hy' : y ≠ 0 := fun e => hy (intEq_iff.2 e)
         cases h
         refine ⟨_, by simp [Go.binOp, Op.intDiv, hy']; rfl, ?_, fun _ => rfl⟩
         first
           | (rw [wrapK_eq]; exact .int _ _)
           | exact .int _ _)
    | (refine ⟨_, by simp only [Go.binOp, ne_eq, not_true_eq_false, if_false, Op.intArith, Op.intBits, Op.intCmp]; rfl, ?_, fun _ => rfl⟩
       first
         | (rw [wrapK_eq]; exact .int _ _)
         | exact .int _ _
         | (rw [intEq_dec]; exact .bool _)
         | (rw [not_intLe]; exact .bool _)
         | (rw [intLe_dec]; exact .bool _))

theorem shiftI_run (op : BinOp) (t : TypeId) (k k' : IntKind) (x y : Int) (v : AV) (h : shiftI op k x y = some v) (hs : op = .shl ∨ op = .shr) :
    ∃ u, (Go.binOp op t (.int k x) (.int k' y)).run P w = .ok u w ∧ VR β v u := by
  cases y with
  | negSucc m => simp [shiftI] at h
  | ofNat m =>
    rcases hs with rfl | rfl
    · simp only [shiftI, Option.some.injEq] at h
      subst h
      refine ⟨.int k (k.wrap (x * 2 ^ min m k.bits)), ?_, by rw [wrapK_eq]; exact .int _ _⟩
      have : ¬ ((m : Int) < 0) := by omega
      simp [Go.binOp, Op.shift, this]
    · simp only [shiftI, Option.some.injEq] at h
      subst h
      refine ⟨.int k (x.fdiv (2 ^ min m k.bits)), ?_, .int _ _⟩
      have : ¬ ((m : Int) < 0) := by omega
      simp [Go.binOp, Op.shift, this]

theorem bytesLt_eq : ∀ (a b : List UInt8), bytesLt a b = Op.bytesLess a b := by
  intro a
  induction a with
  | nil => intro b; cases b <;> rfl
  | cons x a ih =>
    intro b
    cases b with
    | nil => rfl
    | cons y b =>
      simp only [bytesLt, Op.bytesLess]
      by_cases h : x < y
      · have : Nat.ble (x.toNat + 1) y.toNat = true := by simp [Nat.ble_eq]; exact UInt8.lt_iff_toNat_lt.1 h
        simp [this, h]
      · have : ¬ (Nat.ble (x.toNat + 1) y.toNat = true) := by simp only [Nat.ble_eq]; intro e; exact h (UInt8.lt_iff_toNat_lt.2 e)
        rw [if_neg this]
        by_cases e : x = y
        · subst e; rw [if_pos (u8Eq_iff.2 rfl), ih]; simp [h]
        · rw [if_neg (fun he => e (u8Eq_iff.1 he))]; simp [h, e]
theorem bytesEq_dec (a b : ByteArray) : bytesEq a.data.toList b.data.toList = (a.toList == b.toList) := by
  rw [Bool.eq_iff_iff, bytesEq_iff]
  rw [ByteArray.toList_eq, ByteArray.toList_eq]; simp

theorem binS_run (op : BinOp) (t : TypeId) (x y : ByteArray) (v : AV) (h : binS op x y = some v) :
    ∃ u, (Go.binOp op t (.string x) (.string y)).run P w = .ok u w ∧ VR β v u := by
  have hx : x.toList = x.data.toList := ByteArray.toList_eq x
  have hy : y.toList = y.data.toList := ByteArray.toList_eq y
  cases op <;> simp only [binS] at h <;> first | cases h | skip
  case add =>
    split at h
    · rename_i hb
      cases h
      refine ⟨_, ?_, .str _⟩
      have hle := Nat.le_of_ble_eq_true hb
      have : ¬ (((x.size + y.size : Nat) : Int) > IntKind.i64.max) := by
        have : IntKind.i64.max = 9223372036854775807 := by decide
        rw [this]; omega
      simp only [Go.binOp, Op.stringOp, if_neg this]; rfl
    · cases h
  all_goals
    refine ⟨_, by simp only [Go.binOp, Op.stringOp]; rfl, ?_⟩
    first
      | (rw [bytesEq_dec]; exact .bool _)
      | (rw [bytesLt_eq, bytesEq_dec, hx, hy]; exact .bool _)
      | (rw [bytesLt_eq, hx, hy]; exact .bool _)

theorem eqGuard_int (op : BinOp) (t : TypeId) (x y : Operand) (j k : IntKind) (a b : Int) : (eqGuard op t x y (.int j a) (.int k b)).run P w = .ok () w := by
  cases op <;> simp [eqGuard]
theorem eqGuard_str (op : BinOp) (t : TypeId) (x y : Operand) (a b : ByteArray) : (eqGuard op t x y (.string a) (.string b)).run P w = .ok () w := by
  cases op <;> simp [eqGuard]

theorem bin_sound (op : BinOp) (t : TypeId) (x y : Operand) {a b : AV} {u v : Value} (ha : VR β a u) (hb : VR β b v) :
    PureV P w β (do eqGuard op t x y u v; Go.binOp op t u v) (bin op a b) := by
  intro r hr
  unfold bin at hr
  split at hr
  · rename_i k n k' m
    obtain rfl := vr_int ha
    obtain rfl := vr_int hb
    simp only [Sem.run_bind, eqGuard_int, Result.andThen_ok]
    split at hr
    · exact shiftI_run _ _ _ _ _ _ _ hr (.inl rfl)
    · exact shiftI_run _ _ _ _ _ _ _ hr (.inr rfl)
    · rename_i h1 h2
      split at hr
      · rename_i hk
        obtain rfl := ikEq_eq hk
        obtain ⟨u, h3, h4, h5⟩ := binI_run (P := P) (w := w) (β := β) op k n m r hr ⟨h1, h2⟩
        exact ⟨u, by rw [h5]; exact h3, h4⟩
      · cases hr
  · obtain rfl := vr_str ha
    obtain rfl := vr_str hb
    simp only [Sem.run_bind, eqGuard_str, Result.andThen_ok]
    exact binS_run _ _ _ _ _ hr
  · cases hr

theorem un_sound (op : UnOp) {a : AV} {u : Value} (ha : VR β a u) : PureV P w β (Op.unary op u) (unop op a) := by
  intro r hr
  unfold unop at hr
  split at hr <;> first | cases hr | skip
  · obtain rfl := vr_int ha
    exact ⟨_, by simp only [Op.unary, Op.intArith]; rfl, by rw [wrapK_eq]; exact .int _ _⟩
  · obtain rfl := vr_bool ha
    exact ⟨_, by simp only [Op.unary]; rfl, .bool _⟩
  · obtain rfl := vr_int ha
    exact ⟨_, by simp only [Op.unary, Op.intBits]; rfl, .int _ _⟩

/-! equality -/
theorem eqGuard_calm (op : BinOp) (t : TypeId) (x y : Operand) (u v : Value) (h : ∀ a b, ¬ (u = .agg a ∧ v = .agg b)) (h' : ¬ (u = .nilIface ∧ v = .nilIface)) :
    (eqGuard op t x y u v).run P w = .ok () w := by
  have key : ∀ (f : Sem Unit) (g : Array Value → Array Value → Sem Unit), (match u, v with
      | .nilIface, .nilIface => f
      | .agg a, .agg b => g a b
      | _, _ => (Pure.pure () : Sem Unit)).run P w = .ok () w := by
    intro f g
    split
    · exact absurd ⟨rfl, rfl⟩ h'
    · exact absurd ⟨rfl, rfl⟩ (h _ _)
    · rfl
  cases op <;> first | rfl | skip
  all_goals (unfold eqGuard; exact key _ _)

/-- what a type's values compare by -/
def eqKind (P : Program) (t : TypeId) : Option EqK :=
  match P.underlying t with
  | some .bool => some .bool
  | some (.slice _) => some .nilsl
  | some (.pointer _) => some .nilptr
  | some (.func ..) => some .nilfn
  | some (.map ..) => some .nilmap
  | _ => none

theorem equalIn_sound (d : Nat) {t : TypeId} {k : EqK} (hk : eqKind P t = some k) {a b : AV} {u v : Value} (ha : VR β a u) (hb : VR β b v) {r : Bool} (hr : eqv k a b = some r) :
    (Op.equalIn (d + 1) t u v).run P w = .ok r w := by
  unfold eqKind at hk
  split at hk <;> cases hk
  all_goals
    rename_i hu
    cases ha <;> cases hb <;> first | (cases hr; done) | skip
    all_goals
      simp only [eqv, Option.some.injEq] at hr
      subst hr
      simp only [Op.equalIn, Sem.run_bind, run_underlying hu, Result.andThen_ok]
      first
        | rfl
        | (simp only [Sem.run_pure, Result.ok.injEq, and_true]; rw [Bool.eq_iff_iff, boolEq_iff]; simp)

theorem equal_sound {t : TypeId} {k : EqK} (hk : eqKind P t = some k) {a b : AV} {u v : Value} (ha : VR β a u) (hb : VR β b v) {r : Bool} (hr : eqv k a b = some r) :
    (∀ c d, ¬ (u = .agg c ∧ v = .agg d)) ∧ ¬ (u = .nilIface ∧ v = .nilIface) ∧
      (Go.binOp .eql t u v).run P w = .ok (.bool r) w ∧ (Go.binOp .neq t u v).run P w = .ok (.bool (!r)) w := by
  have h0 : (Op.equal t u v).run P w = .ok r w := equalIn_sound (P := P) (w := w) 9999 hk ha hb hr
  unfold eqKind at hk
  split at hk <;> cases hk
  all_goals
    cases ha <;> cases hb <;> first | (cases hr; done) | skip
    all_goals
      refine ⟨fun c d h => (by cases h.1), fun h => (by cases h.1), ?_, ?_⟩
      · simp only [Go.binOp, Sem.run_bind, h0, Result.andThen_ok, Sem.run_pure]
      · simp only [Go.binOp, Sem.run_bind, h0, Result.andThen_ok, Sem.run_pure]

theorem eqv_sound (neg : Bool) {t : TypeId} {k : EqK} (hk : eqKind P t = some k) (x y : Operand) {a b : AV} {u v : Value} (ha : VR β a u) (hb : VR β b v) :
    PureV P w β (do eqGuard (if neg then .neq else .eql) t x y u v; Go.binOp (if neg then .neq else .eql) t u v) (opEqv neg k a b) := by
  intro r hr
  unfold opEqv at hr
  split at hr <;> cases hr
  rename_i q hq
  obtain ⟨h1, h2, h3, h4⟩ := equal_sound (P := P) (w := w) hk ha hb hq
  simp only [Sem.run_bind, eqGuard_calm _ _ _ _ _ _ h1 h2, Result.andThen_ok]
  cases neg
  · exact ⟨_, h3, .bool _⟩
  · exact ⟨_, h4, .bool _⟩

/-! conversions, interface values, functions -/
theorem convI_sound {src dst : TypeId} {j k : IntKind} (hs : P.underlying src = some (.int j)) (hd : P.underlying dst = some (.int k)) {a : AV} {u : Value} (ha : VR β a u) :
    PureV P w β (convert src dst u) (opConvI k a) := by
  intro r hr
  unfold opConvI at hr
  split at hr <;> cases hr
  rename_i n hn
  cases ha <;> simp only [asI] at hn <;> first | (cases hn; done) | skip
  cases hn
  refine ⟨.int k (k.wrap n), ?_, by rw [wrapK_eq]; exact .int _ _⟩
  simp only [convert, Sem.run_bind, run_underlying hs, run_underlying hd, Result.andThen_ok]
  rfl

theorem mkif_sound {t : TypeId} {d : TypeDesc} (ht : P.underlying t = some d) (hn : ∀ ms, d ≠ .interface ms) {a : AV} {u : Value} (ha : VR β a u) :
    PureV P w β (Instr.makeInterface t u) (opMkif t a) := by
  intro r hr
  refine ⟨.iface t u, ?_, ?_⟩
  · simp only [Instr.makeInterface, Sem.run_bind, run_underlying ht, Result.andThen_ok]
    cases d <;> first | rfl | exact absurd rfl (hn _)
  · unfold opMkif at hr
    split at hr <;> cases hr
    exact .ifc _ _ _ ha

/-! parts of values -/
theorem rangeOf_get : ∀ (off n : Nat) (cs r : List AV), rangeOf off n cs = some r → r.length = n ∧ off + n ≤ cs.length ∧ ∀ k, k < n → r[k]? = cs[off + k]? := by
  have take : ∀ (n : Nat) (cs r : List AV), takeN n cs = some r → r.length = n ∧ n ≤ cs.length ∧ ∀ k, k < n → r[k]? = cs[k]? := by
    intro n
    induction n with
    | zero => intro cs r h; simp [takeN] at h; subst h; simp
    | succ n ih =>
      intro cs r h
      cases cs with
      | nil => simp [takeN] at h
      | cons v cs =>
        simp only [takeN] at h
        split at h <;> cases h
        rename_i l hl
        obtain ⟨h1, h2, h3⟩ := ih cs l hl
        refine ⟨by simp [h1], by simp; omega, fun k hk => ?_⟩
        cases k with
        | zero => rfl
        | succ k => simpa using h3 k (by omega)
  have drop : ∀ (off : Nat) (cs r : List AV), dropN off cs = some r → off ≤ cs.length ∧ r.length + off = cs.length ∧ ∀ k : Nat, r[k]? = cs[off + k]? := by
    intro off
    induction off with
    | zero => intro cs r h; simp [dropN] at h; subst h; simp
    | succ n ih =>
      intro cs r h
      cases cs with
      | nil => simp [dropN] at h
      | cons v cs =>
        simp only [dropN] at h
        obtain ⟨h1, h2, h3⟩ := ih cs r h
        refine ⟨by simp; omega, by simp; omega, fun k => ?_⟩
        rw [h3 k, Nat.add_right_comm]; rfl
  intro off n cs r h
  unfold rangeOf at h
  split at h <;> first | cases h | skip
  rename_i l hl
  obtain ⟨h1, h2, h3⟩ := drop _ _ _ hl
  obtain ⟨h4, h5, h6⟩ := take _ _ _ h
  exact ⟨h4, by omega, fun k hk => by rw [h6 k hk, h3 k]⟩

theorem VRs.get' {vs : List AV} {ws : List Value} (h : VRs β vs ws) (k : Nat) (hk : k < vs.length) : ∃ v w, vs[k]? = some v ∧ ws[k]? = some w ∧ VR β v w := by
  have e : vs[k]? = some vs[k] := List.getElem?_eq_getElem hk
  obtain ⟨w, h1, h2⟩ := h.get k _ e
  exact ⟨_, w, e, h1, h2⟩

/-- a part of a row of cells -/
theorem part_sound {t : TypeId} {ag : Bool} {n : Nat} (hag : uag P t = some ag) (hn : ag = true → usz P t = some n) (hn1 : ag = false → n = 1) {off : Nat} {cs : List AV} {c : Array Value}
    (h : VRs β cs c.toList) : PureV P w β (part t c off) (mkValO ag (rangeOf off n cs)) := by
  intro r hr
  unfold mkValO at hr
  split at hr <;> first | cases hr | skip
  rename_i l hl
  obtain ⟨h1, h2, h3⟩ := rangeOf_get _ _ _ _ hl
  have hlen := h.length
  simp only [Array.length_toList] at hlen
  simp only [part, Sem.run_bind, run_isAgg hag, Result.andThen_ok]
  cases ag with
  | true =>
    simp only [mkVal, if_true, Option.some.injEq] at hr
    subst hr
    have hs := hn rfl
    refine ⟨.agg (c.extract off (off + n)), by simp [run_sizeOf hs], .agg _ _ (VRs.of_get ?_ ?_)⟩
    · simp; omega
    · intro k v hk
      have hkn : k < n := by have := (List.getElem?_eq_some_iff.1 hk).1; omega
      rw [h3 k hkn] at hk
      obtain ⟨u, a, b⟩ := h.get _ _ hk
      refine ⟨u, ?_, b⟩
      simp only [Array.getElem?_toList, Array.getElem?_extract] at a ⊢
      rw [if_pos (by omega)]; exact a
  | false =>
    obtain rfl := hn1 rfl
    have h30 := h3 0 (by omega)
    simp only [mkVal, Bool.false_eq_true, if_false] at hr
    split at hr <;> cases hr
    simp only [List.getElem?_cons_zero, Nat.add_zero] at h30
    obtain ⟨u, a, b⟩ := h.get off _ h30.symm
    simp only [Array.getElem?_toList] at a
    exact ⟨u, by simp [a], b⟩

theorem field_sound {t : TypeId} {fs : Array Field} {f : Nat} {g : Field} (ht : P.underlying t = some (.struct fs)) (hg : fs[f]? = some g) {ag : Bool} {n : Nat}
    (hag : uag P g.type = some ag) (hn : ag = true → usz P g.type = some n) (hn1 : ag = false → n = 1) {a : AV} {u : Value} (ha : VR β a u) :
    PureV P w β (Instr.field t u f) (opField g.offset n ag a) := by
  intro r hr
  unfold opField at hr
  split at hr <;> first | cases hr | skip
  rename_i cs hcs
  cases ha <;> simp only [asA] at hcs <;> first | (cases hcs; done) | skip
  cases hcs
  rename_i c hc
  obtain ⟨v, h1, h2⟩ := part_sound (P := P) (w := w) (off := g.offset) hag hn hn1 hc r hr
  exact ⟨v, by simp [Instr.field, run_underlying ht, hg, asAgg, h1], h2⟩

theorem asN_rel {a : AV} {u : Value} (ha : VR β a u) {k : Nat} (h : asN a = some k) : ∃ j, u = .int j (.ofNat k) := by
  cases a <;> first | (simp [asN] at h; done) | skip
  rename_i j n
  cases n <;> first | (simp [asN] at h; done) | skip
  simp only [asN, Option.some.injEq] at h
  subst h
  cases ha
  exact ⟨_, rfl⟩

theorem idxA_sound {t e : TypeId} {len : Nat} (ht : P.underlying t = some (.array len e)) {ag : Bool} {n : Nat} (hs : usz P e = some n)
    (hag : uag P e = some ag) (hn1 : ag = false → n = 1) {a b : AV} {u v : Value} (ha : VR β a u) (hb : VR β b v) :
    PureV P w β (Instr.index t u v) (opIdxA len n ag a b) := by
  intro r hr
  unfold opIdxA at hr
  split at hr <;> first | cases hr | skip
  rename_i cs hcs
  cases ha <;> simp only [asA] at hcs <;> first | (cases hcs; done) | skip
  cases hcs
  rename_i c hc
  split at hr <;> first | cases hr | skip
  rename_i k hk
  obtain ⟨j, rfl⟩ := asN_rel hb hk
  split at hr <;> first | cases hr | skip
  rename_i hlt
  have hlt' : k + 1 ≤ len := Nat.le_of_ble_eq_true hlt
  obtain ⟨v, h1, h2⟩ := part_sound (P := P) (w := w) (off := k * n) hag (fun _ => hs) hn1 hc r hr
  refine ⟨v, ?_, h2⟩
  have hb2 : (0 : Int) ≤ Int.ofNat k ∧ Int.ofNat k < (len : Int) := ⟨by simp, by simp; omega⟩
  simp only [Instr.index, asIntOf, Sem.run_bind, Sem.run_pure, Result.andThen_ok, run_underlying ht, if_pos hb2, run_sizeOf hs]
  exact h1

theorem idxS_sound {t : TypeId} (ht : P.underlying t = some .string) {a b : AV} {u v : Value} (ha : VR β a u) (hb : VR β b v) :
    PureV P w β (Instr.index t u v) (opIdxS a b) := by
  intro r hr
  unfold opIdxS at hr
  split at hr <;> first | cases hr | skip
  rename_i s hs
  cases ha <;> simp only [asStr] at hs <;> first | (cases hs; done) | skip
  cases hs
  split at hr <;> first | cases hr | skip
  rename_i k hk
  obtain ⟨j, rfl⟩ := asN_rel hb hk
  split at hr <;> cases hr
  rename_i x hx
  refine ⟨.int .u8 x.toNat, ?_, .int _ _⟩
  have hx' : s[k]? = some x := by
    have hk : k < s.data.size := by
      have := (List.getElem?_eq_some_iff.1 hx).1; simpa using this
    have h2 : s.data[k]? = some x := by simpa using hx
    simp only [Array.getElem?_eq_some_iff] at h2
    obtain ⟨h3, h4⟩ := h2
    have : k < s.size := hk
    simp [this]
    exact h4
  simp only [Instr.index, asIntOf, Sem.run_bind, Sem.run_pure, Result.andThen_ok, run_underlying ht]
  have : (0 : Int) ≤ Int.ofNat k := by simp
  simp [hx']

theorem extract_sound {a : AV} {u : Value} (ha : VR β a u) (i : Nat) : PureV P w β (Instr.extract u i) (opExtract a i) := by
  intro r hr
  unfold opExtract at hr
  split at hr <;> first | cases hr | skip
  rename_i vs hvs
  cases ha <;> simp only [asT] at hvs <;> first | (cases hvs; done) | skip
  cases hvs
  rename_i c hc
  obtain ⟨v, h1, h2⟩ := hc.get _ _ hr
  exact ⟨v, by simp at h1; simp [Instr.extract, h1], h2⟩

theorem len_sound {t : TypeId} (st : Bool) (ht : if st then P.underlying t = some .string else ∃ e, P.underlying t = some (.slice e)) {a : AV} {u : Value} (ha : VR β a u) (rt : TypeId) :
    PureV P w β (Builtin.len_ #[t] rt #[u]) (opLen st a) := by
  intro r hr
  cases st with
  | false =>
    obtain ⟨e, ht⟩ := ht
    cases ha <;> simp only [opLen, Bool.false_eq_true, if_false] at hr <;> first | (cases hr; done) | skip
    · cases hr
      refine ⟨goInt 0, ?_, .int _ _⟩
      simp [Builtin.len_, run_underlying ht]
    · cases hr
      rename_i len _ _ _ _ _ _ _ _ _ _ _ _ _ _
      refine ⟨goInt len, ?_, .int _ _⟩
      simp [Builtin.len_, run_underlying ht]
  | true =>
    simp only [if_true] at ht
    cases ha <;> simp only [opLen, if_true] at hr <;> first | (cases hr; done) | skip
    · cases hr
      refine ⟨goInt _, ?_, .int _ _⟩
      simp [Builtin.len_, run_underlying ht]

end
end Go.AM
/- Slices, addresses, rows of cells: operations that touch no memory, the second part. -/
namespace Go.AM
open Go Go.RowKit

section
variable {P : Program} {w : World} {β : Beta}

inductive OR1 (β : Beta) : Option AV → Option Value → Prop where
  | none : OR1 β none none
  | some (a : AV) (u : Value) (h : VR β a u) : OR1 β (some a) (some u)

theorem bnd_run {a : AV} {u : Value} (ha : VR β a u) {y z : Nat} (hyz : y ≤ z) {i : Nat} (h : bnd a y = some i) (code : BoundsCode) :
    (Instr.sliceBound u z code).run P w = .ok i w ∧ i ≤ y := by
  unfold bnd at h
  split at h <;> first | cases h | skip
  split at h <;> cases h
  rename_i hle
  have hle' := Nat.le_of_ble_eq_true hle
  obtain rfl := vr_int ha
  refine ⟨?_, hle'⟩
  have h2 : (0 : Int) ≤ Int.ofNat i ∧ Int.ofNat i ≤ (z : Int) := ⟨by simp, by simp; omega⟩
  simp only [Instr.sliceBound, asIntOf, Sem.run_bind, Sem.run_pure, Result.andThen_ok, if_pos h2]
  simp

theorem bnd_run' {a : AV} {u : Value} (ha : VR β a u) {y z : Nat} (hyz : y ≤ z) {i : Nat} (h : bnd a y = some i) (code : BoundsCode) :
    (Instr.sliceBound u z code).run P w = .ok i w := (bnd_run ha hyz h code).1

/-- the bounds of a slice expression: the room in the model may be greater where it is not told -/
theorem bounds_run {len cap cap' : Nat} (isS : Bool) {lo hi mx : Option AV} {lo' hi' mx' : Option Value} (hl : OR1 β lo lo') (hh : OR1 β hi hi') (hm : OR1 β mx mx')
    (hc : cap ≤ cap') (hlen : len ≤ cap) {b : Nat × Nat × Nat} (h : bounds len cap lo hi mx = some b) :
    ∃ m', (Instr.sliceBounds isS len cap' lo' hi' mx').run P w = .ok (b.1, b.2.1, m') w ∧ b.1 ≤ b.2.1 ∧ b.2.1 ≤ b.2.2 ∧ b.2.2 ≤ cap ∧
      (mx = none → m' = cap' ∧ b.2.2 = cap) ∧ (mx ≠ none → m' = b.2.2) := by
  unfold bounds at h
  split at h <;> first | cases h | skip
  rename_i m hm1
  split at h <;> first | cases h | skip
  rename_i hh' hh1
  split at h <;> first | cases h | skip
  rename_i l hl1
  cases hm with
  | none =>
    simp only [Option.some.injEq] at hm1
    subst hm1
    cases hh with
    | none =>
      simp only [Option.some.injEq] at hh1
      subst hh1
      cases hl with
      | none =>
        simp only [Option.some.injEq] at hl1
        subst hl1
        exact ⟨cap', by simp [Instr.sliceBounds], by simp, hlen, Nat.le_refl _, fun _ => ⟨rfl, rfl⟩, fun h => absurd rfl h⟩
      | some a u ha =>
        obtain ⟨h1, h2⟩ := bnd_run (P := P) (w := w) ha (Nat.le_refl _) hl1 .sliceB
        exact ⟨cap', by simp [Instr.sliceBounds, h1], h2, hlen, Nat.le_refl _, fun _ => ⟨rfl, rfl⟩, fun h => absurd rfl h⟩
    | some a u ha =>
      simp only at hh1
      have h0 := fun code => (bnd_run (P := P) (w := w) ha hc hh1 code)
      cases hl with
      | none =>
        simp only [Option.some.injEq] at hl1
        subst hl1
        exact ⟨cap', by simp [Instr.sliceBounds, (h0 _).1], by simp, (h0 .index).2, Nat.le_refl _, fun _ => ⟨rfl, rfl⟩, fun h => absurd rfl h⟩
      | some a u ha =>
        obtain ⟨h1, h2⟩ := bnd_run (P := P) (w := w) ha (Nat.le_refl _) hl1 .sliceB
        exact ⟨cap', by simp [Instr.sliceBounds, (h0 _).1, h1], h2, (h0 .index).2, Nat.le_refl _, fun _ => ⟨rfl, rfl⟩, fun h => absurd rfl h⟩
  | some a u ha =>
    simp only at hm1
    have g0 := fun code => (bnd_run (P := P) (w := w) ha hc hm1 code)
    cases hh with
    | none => simp at hh1
    | some a u ha =>
      simp only at hh1
      have h0 := fun code => (bnd_run (P := P) (w := w) ha (Nat.le_refl _) hh1 code)
      cases hl with
      | none =>
        simp only [Option.some.injEq] at hl1
        subst hl1
        exact ⟨m, by simp [Instr.sliceBounds, (g0 _).1, (h0 _).1], by simp, (h0 .index).2, (g0 .index).2, fun h => absurd h (by simp), fun _ => rfl⟩
      | some a u ha =>
        obtain ⟨h1, h2⟩ := bnd_run (P := P) (w := w) ha (Nat.le_refl _) hl1 .slice3C
        exact ⟨m, by simp [Instr.sliceBounds, (g0 _).1, (h0 _).1, h1], h2, (h0 .index).2, (g0 .index).2, fun h => absurd h (by simp), fun _ => rfl⟩

theorem add_off (b o n : Nat) : (⟨b, o, none⟩ : Addr).add n = ⟨b, o + n, none⟩ := by
  unfold Addr.add; split
  · rename_i h; subst h; rfl
  · rfl

theorem slice_sound {t e : TypeId} {n : Nat} (ht : P.underlying t = some (.slice e)) (hn : usz P e = some n) {lo hi mx : Option AV} {lo' hi' mx' : Option Value}
    (hl : OR1 β lo lo') (hh : OR1 β hi hi') (hm : OR1 β mx mx') {a : AV} {u : Value} (ha : VR β a u) :
    PureV P w β (Instr.sliceAt t u lo' hi' mx') (opSlice n a lo hi mx) := by
  intro r hr
  unfold opSlice at hr
  simp only [Instr.sliceAt, Instr.slice, Sem.run_bind, run_underlying ht, Result.andThen_ok]
  split at hr <;> first | (cases hr; done) | (cases ha; done) | skip
  · split at hr <;> cases hr
    rename_i b hb
    cases ha
    obtain ⟨m', h1, h2, h3, h4, h5, h6⟩ := bounds_run (P := P) (w := w) true hl hh hm (Nat.le_refl 0) (Nat.le_refl 0) hb
    refine ⟨.slice none 0 0, ?_, .nilsl⟩
    have hm0 : m' = 0 := by
      cases hm with
      | none => exact (h5 rfl).1
      | some _ _ _ => rw [h6 (by simp)]; omega
    have e1 : b.1 = 0 := by omega
    have e2 : b.2.1 = 0 := by omega
    simp only [Sem.run_bind, h1, Result.andThen_ok, run_sizeOf hn, Sem.run_pure, e1, e2, hm0]
    simp
  · rename_i i off len cap es' ex
    split at hr <;> first | cases hr | skip
    rename_i hes
    obtain rfl := Nat.eq_of_beq_eq_true hes
    unfold slOfO at hr
    split at hr <;> cases hr
    rename_i bb hb
    cases ha
    rename_i b s z o c hi1 ho hcap hlc hz hex
    obtain ⟨m', h1, h2, h3, h4, h5, h6⟩ := bounds_run (P := P) (w := w) true hl hh hm hcap hlc hb
    refine ⟨_, by simp only [Sem.run_bind, h1, Result.andThen_ok, run_sizeOf hn, Sem.run_pure]; rfl, ?_⟩
    have hm' : bb.2.2 ≤ m' ∧ m' ≤ c := by
      cases hm with
      | none => obtain ⟨x, y⟩ := h5 rfl; omega
      | some _ _ _ => have := h6 (by simp); omega
    have hex' : (ex || mx.isSome) = true → m' = bb.2.2 := by
      intro h
      cases hm with
      | none => simp at h; obtain ⟨x, y⟩ := h5 rfl; have := hex h; omega
      | some _ _ _ => exact h6 (by simp)
    have mul : ∀ x y : Nat, x ≤ y → x * n ≤ y * n := fun x y h => Nat.mul_le_mul_right n h
    have dist : ∀ x y : Nat, y ≤ x → (x - y) * n + y * n = x * n := fun x y h => by rw [← Nat.add_mul, Nat.sub_add_cancel h]
    have hz2 : s + (off + bb.1 * n) + (m' - bb.1) * n ≤ z := by
      have := dist m' bb.1 (by omega)
      have := mul m' c hm'.2
      omega
    by_cases hml : m' = bb.1
    · have : (if m' = bb.1 then (some (⟨b, o, none⟩ : Addr)) else (some (⟨b, o, none⟩ : Addr)).map fun x => x.add (bb.1 * n)) = some ⟨b, o, none⟩ := if_pos hml
      simp only [hml, if_true]
      exact .sl _ _ _ _ _ _ b s z o _ hi1 (by omega) (by omega) (fun h => by have := hex' h; omega) (.inl (by omega)) (by have := hz2; rw [hml] at this; exact this)
    · simp only [hml, if_false, Option.map_some, add_off]
      have hc0 : c ≠ 0 := by omega
      have ho' : o = s + off := ho.resolve_left hc0
      subst ho'
      exact .sl _ _ _ _ _ _ b s z _ _ hi1 (by omega) (by omega) (fun h => by have := hex' h; omega) (.inr (by omega)) hz2


theorem asP_rel {a : AV} {u : Value} (ha : VR β a u) {x : Nat × Nat} (h : asP a = some x) : ∃ b s z, β x.1 = some (b, s, z) ∧ u = .pointer (some ⟨b, s + x.2, none⟩) := by
  cases a <;> first | (simp [asP] at h; done) | skip
  simp only [asP, Option.some.injEq] at h
  subst h
  cases ha
  rename_i b s z hb
  exact ⟨b, s, z, hb, rfl⟩

theorem slstr_sound {t : TypeId} (ht : P.underlying t = some .string) {lo hi : Option AV} {lo' hi' : Option Value}
    (hl : OR1 β lo lo') (hh : OR1 β hi hi') {a : AV} {u : Value} (ha : VR β a u) : PureV P w β (Instr.sliceAt t u lo' hi' none) (opSlstr a lo hi) := by
  intro r hr
  unfold opSlstr at hr
  split at hr <;> first | cases hr | skip
  rename_i s hs
  cases ha <;> simp only [asStr] at hs <;> first | (cases hs; done) | skip
  cases hs
  split at hr <;> cases hr
  rename_i b hb
  obtain ⟨m', h1, _⟩ := bounds_run (P := P) (w := w) false hl hh OR1.none (Nat.le_refl _) (Nat.le_refl _) hb
  refine ⟨.string (s.extract b.1 b.2.1), ?_, .str _⟩
  simp only [Instr.sliceAt, Instr.slice, Sem.run_bind, run_underlying ht, Result.andThen_ok]
  simp [h1]

theorem faddr_sound {t : TypeId} {fs : Array Field} {f n : Nat} {g : Field} (ht : P.underlying t = some (.struct fs)) (hg : fs[f]? = some g) (hn : usz P g.type = some (n + 1))
    {a : AV} {u : Value} (ha : VR β a u) : PureV P w β (Instr.fieldAt t u f) (opFaddr g.offset a) := by
  intro r hr
  unfold opFaddr at hr
  split at hr <;> first | (cases ha; done) | cases hr
  rename_i xi xo
  obtain ⟨b, s, z, hb, rfl⟩ := asP_rel (x := (xi, xo)) ha rfl
  refine ⟨.pointer (some ⟨b, s + (xo + g.offset), none⟩), ?_, .ptr _ _ b s z hb⟩
  simp [Instr.fieldAt, run_underlying ht, hg, Instr.sureAddr, fieldPlace, run_sizeOf hn, add_off, Nat.add_assoc]

theorem iaddrS_sound {t e : TypeId} {n : Nat} (ht : P.underlying t = some (.slice e)) (hn : usz P e = some n) {a i : AV} {u v : Value} (ha : VR β a u) (hi : VR β i v) :
    PureV P w β (Instr.indexAt t u v) (opIaddrS n a i) := by
  intro r hr
  unfold opIaddrS at hr
  split at hr <;> first | (cases hr; done) | (cases ha; done) | skip
  rename_i i0 off len cap0 es0 ex0
  split at hr <;> first | cases hr | skip
  rename_i k hk
  split at hr <;> cases hr
  rename_i h
  simp only [Bool.and_eq_true] at h
  have hlt := Nat.le_of_ble_eq_true h.1
  have hes := Nat.eq_of_beq_eq_true h.2
  obtain ⟨j, rfl⟩ := asN_rel hi hk
  cases ha
  rename_i b s z o c hi1 ho hcap hlc hz hex
  have hc0 : c ≠ 0 := by omega
  obtain rfl := ho.resolve_left hc0
  refine ⟨_, ?_, .ptr _ _ b s z hi1⟩
  have hb2 : (0 : Int) ≤ Int.ofNat k ∧ Int.ofNat k < (len : Int) := ⟨by simp, by simp; omega⟩
  simp only [Instr.indexAt, asIntOf, Sem.run_bind, Sem.run_pure, Result.andThen_ok, run_underlying ht]
  simp only [if_pos hb2, Sem.run_bind, run_sizeOf hn, Result.andThen_ok, Sem.run_pure, add_off, Nat.add_assoc]
  rfl

theorem iaddrA_sound {t e : TypeId} {n len : Nat} (ht : P.underlying t = some (.array len e)) (hn : usz P e = some n) {a i : AV} {u v : Value} (ha : VR β a u) (hi : VR β i v) :
    PureV P w β (Instr.indexAt t u v) (opIaddrA len n a i) := by
  intro r hr
  unfold opIaddrA at hr
  split at hr <;> first | (cases hr; done) | (cases ha; done) | skip
  rename_i xi xo
  split at hr <;> first | cases hr | skip
  rename_i k hk
  split at hr <;> cases hr
  rename_i h
  have hlt := Nat.le_of_ble_eq_true h
  obtain ⟨j, rfl⟩ := asN_rel hi hk
  obtain ⟨b, s, z, hb, rfl⟩ := asP_rel (x := (xi, xo)) ha rfl
  refine ⟨_, ?_, .ptr _ _ b s z hb⟩
  have hb2 : (0 : Int) ≤ Int.ofNat k ∧ Int.ofNat k < (len : Int) := ⟨by simp, by simp; omega⟩
  simp only [Instr.indexAt, asIntOf, Sem.run_bind, Sem.run_pure, Result.andThen_ok, run_underlying ht, Instr.sureAddr]
  simp only [if_pos hb2, Sem.run_bind, run_sizeOf hn, Result.andThen_ok, Sem.run_pure, add_off, Nat.add_assoc]
  rfl

theorem max2_run {a b r : AV} {u v : Value} (ha : VR β a u) (hb : VR β b v) (h : maxI a b = some r) : ∃ x, (Builtin.max2 u v).run P w = .ok x w ∧ VR β r x := by
  unfold maxI at h
  split at h <;> cases h
  obtain rfl := vr_int ha
  obtain rfl := vr_int hb
  rename_i k x k' y
  refine ⟨_, by simp only [Builtin.max2]; rfl, ?_⟩
  have : (if intLe y x = true then x else y) = (if y > x then y else x) := by
    by_cases h : y ≤ x
    · rw [if_pos (intLe_iff.2 h), if_neg (by omega)]
    · rw [if_neg (fun e => h (intLe_iff.1 e)), if_pos (by omega)]
  rw [this]; exact .int _ _
theorem min2_run {a b r : AV} {u v : Value} (ha : VR β a u) (hb : VR β b v) (h : minI a b = some r) : ∃ x, (Builtin.min2 u v).run P w = .ok x w ∧ VR β r x := by
  unfold minI at h
  split at h <;> cases h
  obtain rfl := vr_int ha
  obtain rfl := vr_int hb
  rename_i k x k' y
  refine ⟨_, by simp only [Builtin.min2]; rfl, ?_⟩
  have : (if intLe x y = true then x else y) = (if y < x then y else x) := by
    by_cases h : x ≤ y
    · rw [if_pos (intLe_iff.2 h), if_neg (by omega)]
    · rw [if_neg (fun e => h (intLe_iff.1 e)), if_pos (by omega)]
  rw [this]; exact .int _ _
theorem fold_run (f : AV → AV → Option AV) (g : Value → Value → Sem Value) (hfg : ∀ {a b r : AV} {u v : Value}, VR β a u → VR β b v → f a b = some r → ∃ x, (g u v).run P w = .ok x w ∧ VR β r x) :
    ∀ {l : List AV} {l' : List Value}, VRs β l l' → ∀ {a r : AV} {u : Value}, VR β a u → foldV f a l = some r → ∃ x, (l'.foldlM g u).run P w = .ok x w ∧ VR β r x
  | _, _, .nil, a, r, u, ha, h => by
    simp only [foldV, Option.some.injEq] at h
    subst h
    exact ⟨u, rfl, ha⟩
  | _, _, .cons v x vs xs hv hs, a, r, u, ha, h => by
    simp only [foldV] at h
    split at h <;> first | cases h | skip
    rename_i q hq
    obtain ⟨y, h1, h2⟩ := hfg ha hv hq
    obtain ⟨z, h3, h4⟩ := fold_run f g hfg hs h2 h
    exact ⟨z, by simp only [List.foldlM_cons, Sem.run_bind, h1, Result.andThen_ok, h3], h4⟩
theorem max_sound {l : List AV} {l' : Array Value} (h : VRs β l l'.toList) (ts : Array TypeId) (t : TypeId) : PureV P w β (Builtin.max_ ts t l') (opFold maxI l) := by
  intro r hr
  unfold Builtin.max_
  cases h' : l'.toList with
  | nil => rw [h'] at h; cases h; simp [opFold] at hr
  | cons v r => rw [h'] at h; cases h with | cons a u as us ha hs => exact fold_run maxI _ (fun a b c => max2_run a b c) hs ha hr
theorem min_sound {l : List AV} {l' : Array Value} (h : VRs β l l'.toList) (ts : Array TypeId) (t : TypeId) : PureV P w β (Builtin.min_ ts t l') (opFold minI l) := by
  intro r hr
  unfold Builtin.min_
  cases h' : l'.toList with
  | nil => rw [h'] at h; cases h; simp [opFold] at hr
  | cons v r => rw [h'] at h; cases h with | cons a u as us ha hs => exact fold_run minI _ (fun a b c => min2_run a b c) hs ha hr

/-! rows of cells written over -/
theorem write_get : ∀ (off : Nat) (vs cs l : List AV), write off vs cs = some l → l.length = cs.length ∧ off + vs.length ≤ cs.length ∧
    ∀ k : Nat, l[k]? = if off ≤ k ∧ k < off + vs.length then vs[k - off]? else cs[k]? := by
  have over : ∀ (vs cs l : List AV), overlay vs cs = some l → l.length = cs.length ∧ vs.length ≤ cs.length ∧ ∀ k : Nat, l[k]? = if k < vs.length then vs[k]? else cs[k]? := by
    intro vs
    induction vs with
    | nil => intro cs l h; simp [overlay] at h; subst h; simp
    | cons v vs ih =>
      intro cs l h
      cases cs with
      | nil => simp [overlay] at h
      | cons c cs =>
        simp only [overlay] at h
        split at h <;> cases h
        rename_i l' hl
        obtain ⟨h1, h2, h3⟩ := ih cs l' hl
        refine ⟨by simp [h1], by simp; omega, fun k => ?_⟩
        cases k with
        | zero => simp
        | succ k => simp [h3 k]
  intro off
  induction off with
  | zero =>
    intro vs cs l h
    simp only [write] at h
    obtain ⟨h1, h2, h3⟩ := over vs cs l h
    exact ⟨h1, by omega, fun k => by rw [h3 k]; simp⟩
  | succ n ih =>
    intro vs cs l h
    cases cs with
    | nil => simp [write] at h
    | cons c cs =>
      simp only [write] at h
      split at h <;> cases h
      rename_i l' hl
      obtain ⟨h1, h2, h3⟩ := ih vs cs l' hl
      refine ⟨by simp [h1], by simp; omega, fun k => ?_⟩
      cases k with
      | zero => simp
      | succ k =>
        simp only [List.getElem?_cons_succ, h3 k]
        by_cases hk : n ≤ k ∧ k < n + vs.length
        · rw [if_pos hk, if_pos (by omega)]; congr 1; omega
        · rw [if_neg hk, if_neg (by omega)]

theorem foldl_set_get (vc : List Value) (off : Nat) : ∀ (j : Nat) (c : Array Value), off + j + vc.length ≤ c.size →
    ((vc.zipIdx j).foldl (fun cs x => cs.setIfInBounds (off + x.2) x.1) c).size = c.size ∧
    ∀ k : Nat, ((vc.zipIdx j).foldl (fun cs x => cs.setIfInBounds (off + x.2) x.1) c)[k]? = if off + j ≤ k ∧ k < off + j + vc.length then vc[k - (off + j)]? else c[k]? := by
  induction vc with
  | nil => intro j c _; simp; intro k h1 h2; omega
  | cons v vc ih =>
    intro j c h
    simp only [List.length_cons] at h
    simp only [List.zipIdx_cons, List.foldl_cons]
    obtain ⟨h1, h2⟩ := ih (j + 1) (c.setIfInBounds (off + j) v) (by simp; omega)
    refine ⟨by rw [h1]; simp, fun k => ?_⟩
    rw [h2 k]
    simp only [List.length_cons]
    by_cases hk : off + (j + 1) ≤ k ∧ k < off + (j + 1) + vc.length
    · rw [if_pos hk, if_pos (by omega)]
      have : k - (off + j) = (k - (off + (j + 1))) + 1 := by omega
      rw [this]; simp
    · rw [if_neg hk]
      by_cases hk0 : k = off + j
      · subst hk0
        rw [if_pos (by omega)]
        simp [Array.getElem?_setIfInBounds_self_of_lt (by omega : off + j < c.size)]
      · rw [if_neg (by omega), Array.getElem?_setIfInBounds_ne (by omega)]

theorem VRs.get_iff {vs : List AV} {ws : List Value} : VRs β vs ws ↔ vs.length = ws.length ∧ ∀ (k : Nat) (v : AV), vs[k]? = some v → ∃ w, ws[k]? = some w ∧ VR β v w :=
  ⟨fun h => ⟨h.length, h.get⟩, fun h => VRs.of_get h.1 h.2⟩

theorem fill_one {z z' vs : List AV} {zc : Array Value} {vc : Array Value} {off : Nat} (hz : VRs β z zc.toList) (hv : VRs β vs vc.toList) (h : write off vs z = some z') :
    VRs β z' (vc.zipIdx.foldl (fun cs (x : Value × Nat) => cs.setIfInBounds (off + x.2) x.1) zc).toList ∧ off + vc.size ≤ zc.size := by
  obtain ⟨h1, h2, h3⟩ := write_get _ _ _ _ h
  have l1 := hz.length
  have l2 := hv.length
  simp only [Array.length_toList] at l1 l2
  have e : vc.zipIdx.foldl (fun cs (x : Value × Nat) => cs.setIfInBounds (off + x.2) x.1) zc = (vc.toList.zipIdx 0).foldl (fun cs x => cs.setIfInBounds (off + x.2) x.1) zc := by
    rw [← Array.foldl_toList, Array.toList_zipIdx]
  obtain ⟨g1, g2⟩ := foldl_set_get vc.toList off 0 zc (by simp; omega)
  rw [e]
  refine ⟨VRs.get_iff.2 ⟨by simp [g1]; omega, fun k v hk => ?_⟩, by omega⟩
  rw [h3 k] at hk
  simp only [Array.getElem?_toList, g2 k, Nat.add_zero, Array.length_toList]
  by_cases hc : off ≤ k ∧ k < off + vs.length
  · rw [if_pos hc] at hk
    rw [if_pos (by omega)]
    obtain ⟨u, a, b⟩ := hv.get _ _ hk
    exact ⟨u, by simpa using a, b⟩
  · rw [if_neg hc] at hk
    rw [if_neg (by omega)]
    obtain ⟨u, a, b⟩ := hz.get _ _ hk
    exact ⟨u, by simpa using a, b⟩

theorem fill_rel (place : Nat → Option (Nat × Nat)) (e : AX → AV) (ρ : Operand → Value) : ∀ (ps : List (Nat × Operand)) (l : List (Nat × Nat × AX)), cparts place ps = some l →
    (∀ p, p ∈ ps → VR β (e (cx p.2)) (ρ p.2)) → ∀ (z cs : List AV) (zc : Array Value), VRs β z zc.toList → fill z (parts e l) = some cs →
    ∃ c, Instr.fill place zc (ps.map fun p => (p.1, ρ p.2)) = some c ∧ VRs β cs c.toList := by
  intro ps
  induction ps with
  | nil =>
    intro l h _ z cs zc hz hf
    simp only [cparts, Option.some.injEq] at h
    subst h
    simp only [parts, fill, Option.some.injEq] at hf
    subst hf
    exact ⟨zc, rfl, hz⟩
  | cons p ps ih =>
    intro l h hρ z cs zc hz hf
    obtain ⟨i, x⟩ := p
    simp only [cparts] at h
    split at h <;> cases h
    rename_i off n l' hp hl
    simp only [parts, fill] at hf
    split at hf <;> first | cases hf | skip
    rename_i vs hvs
    split at hf <;> first | cases hf | skip
    rename_i hb
    split at hf <;> first | cases hf | skip
    rename_i z' hz'
    have hx : VR β (e (cx x)) (ρ x) := hρ (i, x) (List.mem_cons_self ..)
    have hsz := cellsOf_size hx hvs
    have hn := Nat.eq_of_beq_eq_true hb
    obtain ⟨h1, h2⟩ := fill_one hz (cellsOf_rel hx hvs) hz'
    obtain ⟨c, h3, h4⟩ := ih l' hl (fun p hp => hρ p (List.mem_cons_of_mem _ hp)) z' cs _ h1 hf
    refine ⟨c, ?_, h4⟩
    simp only [List.map_cons, Instr.fill, hp]
    rw [if_neg (by simp; omega)]
    exact h3

theorem scalVs_zero {t : TypeId} {z : List AV} (h : uze P t = some z) : ∃ i v, P.info? t = some i ∧ i.zero = some v ∧ VRs β z v.cells.toList := by
  unfold uze at h
  split at h <;> first | cases h | skip
  rename_i i hi
  split at h <;> first | cases h | skip
  rename_i v hv
  exact ⟨i, v, hi, hv, scalVs_rel h⟩

end
end Go.AM
/- Operations that make, read and write memory. -/
namespace Go.AM
open Go Go.RowKit

section
variable {P : Program} {B : Nat} {w0 : World} {pr : List Nat} {β : Beta} {H : AHeap} {w : World}

/-- the model's run ends, and stands as the abstract machine's word does -/
def SoundV (P : Program) (B : Nat) (w0 : World) (pr : List Nat) (β : Beta) (H : AHeap) (w : World) (s : Sem Value) (r : Option (AV × AHeap)) : Prop :=
  ∀ v H', r = some (v, H') → ∃ u w' β', s.run P w = .ok u w' ∧ Ex H β H' β' ∧ HR P B w0 pr β' H' w' ∧ VR β' v u
def SoundU (P : Program) (B : Nat) (w0 : World) (pr : List Nat) (β : Beta) (H : AHeap) (w : World) (s : Sem Unit) (r : Option (AV × AHeap)) : Prop :=
  ∀ v H', r = some (v, H') → v = .undef ∧ ∃ w' β', s.run P w = .ok () w' ∧ Ex H β H' β' ∧ HR P B w0 pr β' H' w'

theorem PureV.sound (h : HR P B w0 pr β H w) {s : Sem Value} {r : Option AV} (hs : PureV P w β s r) : SoundV P B w0 pr β H w s (ret H r) := by
  intro v H' e
  cases r with
  | none => cases e
  | some a =>
    cases e
    obtain ⟨u, h1, h2⟩ := hs v rfl
    exact ⟨u, w, β, h1, Ex.refl _ β, h, h2⟩

/-! new blocks -/
theorem HR.lay' (h : HR P B w0 pr β H w) {cs : List AV} {c : Array Value} (t : TypeId) (hle : cs.length ≤ c.size)
    (hc : ∀ (k : Nat) (v : AV), cs[k]? = some v → ∃ u, c[k]? = some u ∧ VR β v u) :
    HR P B w0 pr (β.add H.nx (w.heap.size, 0, c.size)) (lay cs H) (w.alloc (.cells c t)) := by
  refine h.push (w.heap.size, 0, c.size) rfl ((Below.refl _ _).alloc (Nat.le_refl _) _) (by simp) ?_
  refine ⟨c, t, (0, 0), heap_alloc_new w _, rfl, by simpa using hle, fun k v hk => ?_, fun _ => ⟨h.base, rfl⟩⟩
  obtain ⟨u, a, b⟩ := hc k v hk
  exact ⟨u, by simpa using a, b.mono (β.add_ext _ _ h.none_nx)⟩
theorem HR.lay (h : HR P B w0 pr β H w) {cs : List AV} {c : Array Value} (t : TypeId) (hc : VRs β cs c.toList) :
    HR P B w0 pr (β.add H.nx (w.heap.size, 0, c.size)) (lay cs H) (w.alloc (.cells c t)) := by
  have hl := hc.length
  simp only [Array.length_toList] at hl
  exact h.lay' t (by omega) fun k v hk => let ⟨u, a, b⟩ := hc.get k v hk; ⟨u, by simpa using a, b⟩

theorem new_ext {H' : AHeap} (h : H'.nx = H.nx + 1) (x : Nat × Nat × Nat) : Ex H β H' (β.add H.nx x) := Ex.add x h

theorem run_newRow (e : TypeId) (c : Array Value) : (newRow e c).run P w = .ok ⟨w.heap.size, 0, none⟩ (w.alloc (.cells c e)) := by
  simp only [newRow, Sem.run_bind, run_newObj, Result.andThen_ok, Sem.run_pure]
  rfl

/-- a run that makes one block of cells: 'v id' is what it hands back, where the block is told by 'id' -/
def AllocV (P : Program) (β : Beta) (w : World) (s : Sem Value) (cs : List AV) (v : Nat → AV) : Prop :=
  ∃ (c : Array Value) (t : TypeId) (u : Value), s.run P w = .ok u (w.alloc (.cells c t)) ∧ VRs β cs c.toList ∧ ∀ (β' : Beta) (id : Nat), β' id = some (w.heap.size, 0, c.size) → VR β' (v id) u
theorem AllocV.sound (h : HR P B w0 pr β H w) {s : Sem Value} {cs : List AV} {v : Nat → AV} (ha : AllocV P β w s cs v) : SoundV P B w0 pr β H w s (some (v H.nx, lay cs H)) := by
  obtain ⟨c, t, u, h1, h2, h3⟩ := ha
  intro v' H' e
  cases e
  exact ⟨u, _, _, h1, new_ext rfl _, h.lay t h2, h3 _ _ (Beta.add_same ..)⟩

theorem newVar_alloc {cs : List AV} {u : Value} (t : TypeId) (hc : VRs β cs u.cells.toList) : AllocV P β w (do pure (.pointer (some (← newVar t u)))) cs (fun id => .ptr id 0) := by
  refine ⟨u.cells, t, .pointer (some ⟨w.heap.size, 0, none⟩), ?_, hc, fun β' id hid => .ptr _ _ w.heap.size 0 u.cells.size hid⟩
  simp only [newVar, Sem.run_bind, run_newRow, Result.andThen_ok, Sem.run_pure]
theorem newVar_sound (h : HR P B w0 pr β H w) {cs : List AV} {u : Value} (t : TypeId) (hc : VRs β cs u.cells.toList) :
    SoundV P B w0 pr β H w (do pure (.pointer (some (← newVar t u)))) (some (.ptr H.nx 0, lay cs H)) := (newVar_alloc t hc).sound h

theorem alloc_alloc {t : TypeId} {z : List AV} (hz : uze P t = some z) (u : Value) : AllocV P β w (Instr.alloc t true u) z (fun id => .ptr id 0) := by
  obtain ⟨i, v, h1, h2, h3⟩ := scalVs_zero hz
  obtain ⟨c, ty, u', g1, g2⟩ := newVar_alloc (P := P) (w := w) t (h3 : VRs β z v.cells.toList)
  exact ⟨c, ty, u', by simp only [Instr.alloc, Sem.run_bind, run_zeroValue h1 h2, Result.andThen_ok]; simpa using g1, g2⟩
theorem alloc_sound (h : HR P B w0 pr β H w) {t : TypeId} {z : List AV} (hz : uze P t = some z) (u : Value) :
    SoundV P B w0 pr β H w (Instr.alloc t true u) (some (.ptr H.nx 0, lay z H)) := (alloc_alloc hz u).sound h

theorem box_sound (h : HR P B w0 pr β H w) (t : TypeId) {a : AV} {u : Value} (ha : VR β a u) : SoundV P B w0 pr β H w (Instr.box t u) (opBox a H) := by
  intro v H' e
  unfold opBox at e
  split at e <;> cases e
  rename_i cs hcs
  exact newVar_sound h t (cellsOf_rel ha hcs) _ _ rfl

/-! structs and arrays built; slices' literals -/
theorem run_places {fs : Array Field} (hall : ∀ f, f ∈ fs.toList → (usz P f.type).isSome = true) :
    (fs.mapM fun (f : Field) => do pure (f.offset, ← sizeOf f.type)).run P w = .ok (fs.map fun (f : Field) => (f.offset, (usz P f.type).getD 0)) w := by
  have key : ∀ l : List Field, (∀ f, f ∈ l → (usz P f.type).isSome = true) → (l.mapM fun (f : Field) => (do pure (f.offset, ← sizeOf f.type) : Sem (Nat × Nat))).run P w = .ok (l.map fun (f : Field) => (f.offset, (usz P f.type).getD 0)) w := by
    intro l
    induction l with
    | nil => intro _; rfl
    | cons f l ih =>
      intro hl
      have h1 := hl f (List.mem_cons_self ..)
      obtain ⟨n, hn⟩ := Option.isSome_iff_exists.1 h1
      simp only [List.mapM_cons, Sem.run_bind, run_sizeOf hn, Result.andThen_ok, Sem.run_pure, ih fun g hg => hl g (List.mem_cons_of_mem _ hg), List.map_cons, hn, Option.getD_some]
  rw [Array.mapM_eq_mapM_toList, Sem.run_map, key _ hall, Result.andThen_ok]
  congr 1
  exact Array.ext' (by simp)

theorem parts_map (ρ : Operand → Value) (ps : Array (Nat × Operand)) : (ps.map fun x => match x with | (i, x) => (i, ρ x)).toList = ps.toList.map fun p => (p.1, ρ p.2) := by
  simp

theorem fill_place {p q : Nat → Option (Nat × Nat)} : ∀ (l : List (Nat × Value)) (c : Array Value), (∀ x, x ∈ l → p x.1 = q x.1) → Instr.fill p c l = Instr.fill q c l := by
  intro l
  induction l with
  | nil => intro c _; rfl
  | cons x l ih =>
    intro c h
    obtain ⟨i, v⟩ := x
    have h1 := h (i, v) (List.mem_cons_self ..)
    simp only at h1
    simp only [Instr.fill, h1]
    split
    · rfl
    · split
      · rfl
      · exact ih _ fun y hy => h y (List.mem_cons_of_mem _ hy)

theorem cparts_mem {place : Nat → Option (Nat × Nat)} : ∀ {ps : List (Nat × Operand)} {l : List (Nat × Nat × AX)}, cparts place ps = some l → ∀ x, x ∈ ps → (place x.1).isSome = true := by
  intro ps
  induction ps with
  | nil => intro l _ x hx; cases hx
  | cons p ps ih =>
    intro l h x hx
    obtain ⟨i, y⟩ := p
    simp only [cparts] at h
    split at h <;> cases h
    rename_i off n l' hp hl
    rcases List.mem_cons.1 hx with rfl | hx
    · simp [hp]
    · exact ih hl x hx

theorem buildS_sound (h : HR P B w0 pr β H w) {t : TypeId} {fs : Array Field} (ht : P.underlying t = some (.struct fs)) {z : List AV} (hz : uze P t = some z)
    (hall : ∀ f, f ∈ fs.toList → (usz P f.type).isSome = true) (e : AX → AV) (ρ : Operand → Value) (ps : Array (Nat × Operand)) {l : List (Nat × Nat × AX)}
    (hl : cparts (fun i => (fs[i]?).bind fun f => (usz P f.type).map fun n => (f.offset, n)) ps.toList = some l) (hρ : ∀ p, p ∈ ps.toList → VR β (e (cx p.2)) (ρ p.2)) :
    SoundV P B w0 pr β H w (Instr.build t (ps.map fun x => match x with | (i, x) => (i, ρ x))) (opBuild z (parts e l) H) := by
  intro v H' eq
  unfold opBuild at eq
  split at eq <;> cases eq
  rename_i cs hcs
  obtain ⟨i, zv, h1, h2, h3⟩ := scalVs_zero (β := β) hz
  obtain ⟨c, h4, h5⟩ := fill_rel (β := β) _ e ρ ps.toList l hl hρ z cs zv.cells h3 hcs
  refine ⟨.agg c, w, β, ?_, Ex.refl _ β, h, .agg _ _ h5⟩
  simp only [Instr.build, Sem.run_bind, run_zeroValue h1 h2, run_underlying ht, Result.andThen_ok, run_places hall, parts_map]
  rw [fill_place (q := fun i => (fs[i]?).bind fun f => (usz P f.type).map fun n => (f.offset, n)), h4]
  · rfl
  · intro x hx
    obtain ⟨p, hp, rfl⟩ := List.mem_map.1 hx
    have := cparts_mem hl p hp
    cases hf : fs[p.1]? with
    | none => simp [hf] at this
    | some f =>
      simp only [hf, Option.bind_some] at this ⊢
      simp only [Array.getElem?_map, hf, Option.map_some]
      cases hn : usz P f.type with
      | none => simp [hn] at this
      | some n => simp

theorem buildA_sound (h : HR P B w0 pr β H w) {t el : TypeId} {n len : Nat} (ht : P.underlying t = some (.array len el)) (hn : usz P el = some n) {z : List AV} (hz : uze P t = some z)
    (e : AX → AV) (ρ : Operand → Value) (ps : Array (Nat × Operand)) {l : List (Nat × Nat × AX)}
    (hl : cparts (fun i => some (i * n, n)) ps.toList = some l) (hρ : ∀ p, p ∈ ps.toList → VR β (e (cx p.2)) (ρ p.2)) :
    SoundV P B w0 pr β H w (Instr.build t (ps.map fun x => match x with | (i, x) => (i, ρ x))) (opBuild z (parts e l) H) := by
  intro v H' eq
  unfold opBuild at eq
  split at eq <;> cases eq
  rename_i cs hcs
  obtain ⟨i, zv, h1, h2, h3⟩ := scalVs_zero (β := β) hz
  obtain ⟨c, h4, h5⟩ := fill_rel (β := β) _ e ρ ps.toList l hl hρ z cs zv.cells h3 hcs
  refine ⟨.agg c, w, β, ?_, Ex.refl _ β, h, .agg _ _ h5⟩
  simp only [Instr.build, Sem.run_bind, run_zeroValue h1 h2, run_underlying ht, Result.andThen_ok, run_sizeOf hn, parts_map]
  rw [h4]; rfl

/-- a row of zeros, as the model lays it -/
theorem zeros_rel {z : List AV} {zc : Array Value} {n : Nat} (hz : VRs β z zc.toList) (hn : z.length = n) (hn1 : 1 ≤ n) (len : Nat) :
    VRs β (repl z len) ((Array.range (len * n)).map (zc[· % zc.size]!)).toList := by
  have hl := hz.length
  simp only [Array.length_toList] at hl
  have hsz : zc.size = n := by omega
  have hrl : ∀ m, (repl z m).length = m * n := by
    intro m
    induction m with
    | zero => simp [repl]
    | succ m ih => simp [repl, ih, hn, Nat.succ_mul]; omega
  have hrg : ∀ m (k : Nat), k < m * n → (repl z m)[k]? = z[k % n]? := by
    intro m
    induction m with
    | zero => intro k hk; simp at hk
    | succ m ih =>
      intro k hk
      simp only [repl]
      by_cases h : k < n
      · rw [List.getElem?_append_left (by omega), Nat.mod_eq_of_lt h]
      · rw [List.getElem?_append_right (by omega), hn, ih (k - n) (by rw [Nat.succ_mul] at hk; omega)]
        rw [Nat.mod_eq_sub_mod (by omega : k ≥ n)]
  refine VRs.get_iff.2 ⟨by simp [hrl], fun k v hk => ?_⟩
  have hk' : k < len * n := by have := (List.getElem?_eq_some_iff.1 hk).1; rw [hrl] at this; exact this
  rw [hrg _ _ hk'] at hk
  obtain ⟨u, a, b⟩ := hz.get _ _ hk
  refine ⟨u, ?_, b⟩
  simp only [Array.getElem?_toList] at a
  have hlt : k % n < zc.size := (Array.getElem?_eq_some_iff.1 a).1
  simp only [Array.toList_map, Array.toList_range, List.getElem?_map, List.getElem?_range hk', Option.map_some, hsz]
  congr 1
  have : zc[k % n]? = some zc[k % n]! := by
    rw [getElem!_pos zc (k % n) hlt]; exact Array.getElem?_eq_getElem hlt
  rw [this] at a; exact Option.some.inj a

theorem bslice_alloc {t el : TypeId} {n len : Nat} (ht : P.underlying t = some (.slice el)) (hn : usz P el = some n) {z : List AV} (hz : uze P el = some z)
    (hzn : z.length = n) (hn1 : 1 ≤ n) (hlen : len * n ≤ 16777216) (e : AX → AV) (ρ : Operand → Value) (ps : Array (Nat × Operand)) {l : List (Nat × Nat × AX)}
    (hl : cparts (fun i => some (i * n, n)) ps.toList = some l) (hρ : ∀ p, p ∈ ps.toList → VR β (e (cx p.2)) (ρ p.2))
    {v : AV} {H H' : AHeap} (eq : opBslice n len (repl z len) (parts e l) H = some (v, H')) :
    ∃ cs, H' = lay cs H ∧ v = .sl H.nx 0 len len n true ∧ AllocV P β w (Instr.buildSlice t len (ps.map fun x => match x with | (i, x) => (i, ρ x))) cs (fun id => .sl id 0 len len n true) := by
  unfold opBslice at eq
  split at eq <;> cases eq
  rename_i cs hcs
  obtain ⟨i, zv, h1, h2, h3⟩ := scalVs_zero (β := β) hz
  have hsz : zv.cells.size = n := by have := h3.length; simp at this; omega
  have hrow2 : VRs β (repl z len) ((Array.range (len * n)).map ((if len * n = 0 then #[] else zv.cells)[· % (if len * n = 0 then #[] else zv.cells).size]!)).toList := by
    by_cases h0 : len * n = 0
    · have : len = 0 := by
        rcases Nat.mul_eq_zero.1 h0 with h | h
        · exact h
        · omega
      subst this
      simp [repl]; exact .nil
    · simp only [if_neg h0]
      exact zeros_rel h3 hzn hn1 len
  obtain ⟨c, h4, h5⟩ := fill_rel (β := β) _ e ρ ps.toList l hl hρ _ cs _ hrow2 hcs
  have hcl : c.size = len * n := by
    have a1 := h5.length
    have a2 : cs.length = (repl z len).length := by
      have : ∀ (ps : List (Nat × Nat × AV)) (z cs : List AV), fill z ps = some cs → cs.length = z.length := by
        intro ps
        induction ps with
        | nil => intro z cs h; simp [fill] at h; rw [h]
        | cons p ps ih =>
          intro z cs h
          obtain ⟨a, b, x⟩ := p
          simp only [fill] at h
          split at h <;> first | cases h | skip
          split at h <;> first | cases h | skip
          split at h <;> first | cases h | skip
          rename_i z' hz'
          rw [ih _ _ h, (write_get _ _ _ _ hz').1]
      exact this _ _ _ hcs
    have a3 := hrow2.length
    simp at a1 a3
    omega
  refine ⟨cs, rfl, rfl, c, el, .slice (some ⟨w.heap.size, 0, none⟩) len len, ?_, h5, fun β' id hid => ?_⟩
  · simp only [Instr.buildSlice, Sem.run_bind, run_underlying ht, run_sizeOf hn, Result.andThen_ok]
    have hnl : ¬ (len * n > 2 ^ 24) := by omega
    simp only [if_neg hnl, parts_map]
    by_cases h0 : len * n = 0
    · simp only [if_pos h0] at h4 ⊢
      simp only [Sem.run_bind, Sem.run_pure, Result.andThen_ok]
      rw [h4]
      simp only [Sem.run_bind, run_newRow, Result.andThen_ok, Sem.run_pure]
    · simp only [if_neg h0] at h4 ⊢
      simp only [Sem.run_bind, Sem.run_pure, Result.andThen_ok, run_zeroValue h1 h2]
      rw [h4]
      simp only [Sem.run_bind, run_newRow, Result.andThen_ok, Sem.run_pure]
  · exact .sl _ _ _ _ _ _ w.heap.size 0 c.size 0 len hid (Nat.le_refl _) (Nat.le_refl _) (fun _ => rfl) (.inr rfl) (by omega)
theorem bslice_sound (h : HR P B w0 pr β H w) {t el : TypeId} {n len : Nat} (ht : P.underlying t = some (.slice el)) (hn : usz P el = some n) {z : List AV} (hz : uze P el = some z)
    (hzn : z.length = n) (hn1 : 1 ≤ n) (hlen : len * n ≤ 16777216) (e : AX → AV) (ρ : Operand → Value) (ps : Array (Nat × Operand)) {l : List (Nat × Nat × AX)}
    (hl : cparts (fun i => some (i * n, n)) ps.toList = some l) (hρ : ∀ p, p ∈ ps.toList → VR β (e (cx p.2)) (ρ p.2)) :
    SoundV P B w0 pr β H w (Instr.buildSlice t len (ps.map fun x => match x with | (i, x) => (i, ρ x))) (opBslice n len (repl z len) (parts e l) H) := by
  intro v H' eq
  obtain ⟨cs, rfl, rfl, h1⟩ := bslice_alloc (P := P) (w := w) ht hn hz hzn hn1 hlen e ρ ps hl hρ eq
  exact h1.sound h _ _ rfl

/-! reading -/
theorem cellsAt (h : HR P B w0 pr β H w) {i : Nat} {x : Nat × Nat × Nat} (hi : β i = some x) {off n : Nat} {l : List AV} (hl : H.load i off n = some l) :
    l.length = n ∧ ∀ (k : Nat) (v : AV), l[k]? = some v → ∃ u, w.cell? ⟨x.1, x.2.1 + off + k, none⟩ = some u ∧ VR β v u := by
  unfold AHeap.load at hl
  split at hl <;> first | cases hl | skip
  rename_i cs st hg
  obtain ⟨c, t, fz, h1, h2, h3, h4, h5⟩ := h.obj i x _ hi hg
  obtain ⟨g1, g2, g3⟩ := rangeOf_get _ _ _ _ hl
  refine ⟨g1, fun k v hk => ?_⟩
  have hkn : k < n := by have := (List.getElem?_eq_some_iff.1 hk).1; omega
  rw [g3 k hkn] at hk
  obtain ⟨u, a, b⟩ := h4 _ _ hk
  exact ⟨u, by rw [cell_of_row w x.1 _ c t fz h1, Nat.add_assoc]; exact a, b⟩

theorem run_loads (h : HR P B w0 pr β H w) {i : Nat} {x : Nat × Nat × Nat} (hi : β i = some x) {off n : Nat} {l : List AV} (hl : H.load i off n = some l) :
    ∃ us : List Value, us.length = n ∧ (loadCells ⟨x.1, x.2.1 + off, none⟩ n).run P w = .ok us.toArray w ∧ VRs β l us := by
  obtain ⟨h1, h2⟩ := cellsAt h hi hl
  have key : ∀ l : List AV, (∀ (k : Nat) (v : AV), l[k]? = some v → ∃ u, w.cell? ⟨x.1, x.2.1 + off + k, none⟩ = some u ∧ VR β v u) →
      ∃ us : List Value, us.length = l.length ∧ (∀ j v, us[j]? = some v → w.cell? ⟨x.1, x.2.1 + off + j, none⟩ = some v) ∧ VRs β l us := by
    intro l hl
    refine ⟨(List.range l.length).map fun k => (w.cell? ⟨x.1, x.2.1 + off + k, none⟩).getD undef, by simp, fun j v hj => ?_, VRs.get_iff.2 ⟨by simp, fun k v hk => ?_⟩⟩
    · have hjl : j < l.length := by have := (List.getElem?_eq_some_iff.1 hj).1; simpa using this
      obtain ⟨u, a, b⟩ := hl j _ (List.getElem?_eq_getElem hjl)
      simp [hjl, a] at hj
      rw [a, hj]
    · have hkl : k < l.length := (List.getElem?_eq_some_iff.1 hk).1
      obtain ⟨u, a, b⟩ := hl k v hk
      exact ⟨u, by simp [hkl, a], b⟩
  obtain ⟨us, g1, g2, g3⟩ := key l h2
  refine ⟨us, by omega, ?_, g3⟩
  have := run_loadCells_list (P := P) w ⟨x.1, x.2.1 + off, none⟩ us (fun j v hj => by rw [add_off]; exact g2 j v hj)
  rw [show us.length = n from by omega] at this
  exact this

theorem load_sound (h : HR P B w0 pr β H w) {t : TypeId} {ag : Bool} {n : Nat} (hag : uag P t = some ag) (hn : ag = true → usz P t = some n) (hn1 : ag = false → n = 1) {a : AV} {u : Value} (ha : VR β a u) :
    SoundV P B w0 pr β H w (Instr.loadAt t u) (opLoad a ag n H) := by
  intro v H' e
  unfold opLoad at e
  split at e <;> first | (cases e; done) | (cases ha; done) | skip
  rename_i xi xo
  obtain ⟨b, s, z, hb, rfl⟩ := asP_rel (x := (xi, xo)) ha rfl
  unfold ret at e
  split at e <;> cases e
  rename_i hv
  unfold mkValO at hv
  split at hv <;> first | cases hv | skip
  rename_i l hl
  obtain ⟨us, g1, g2, g3⟩ := run_loads h hb hl
  simp only at g2
  cases ag with
  | true =>
    simp only [mkVal, if_true, Option.some.injEq] at hv
    subst hv
    refine ⟨.agg us.toArray, w, β, ?_, Ex.refl _ β, h, .agg _ _ (by simpa using g3)⟩
    simp only [Instr.loadAt, Instr.sureAddr, Sem.run_bind, Sem.run_pure, Result.andThen_ok, loadVar, run_isAgg hag, if_true, run_sizeOf (hn rfl), g2]
  | false =>
    obtain rfl := hn1 rfl
    simp only [mkVal, Bool.false_eq_true, if_false] at hv
    split at hv <;> cases hv
    obtain ⟨_, h2⟩ := cellsAt h hb hl
    obtain ⟨y, a1, a2⟩ := h2 0 v (by simp)
    refine ⟨y, w, β, ?_, Ex.refl _ β, h, a2⟩
    simp only [Nat.add_zero] at a1
    simp only [Instr.loadAt, Instr.sureAddr, Sem.run_bind, Sem.run_pure, Result.andThen_ok, loadVar, run_isAgg hag, Bool.false_eq_true, if_false, run_load, a1]

/-! writing -/
theorem run_stores (b o : Nat) : ∀ (vs : List Value), (∀ v, v ∈ vs → v.oneCell' = true) → ∀ (i : Nat) (w : World) (c : Array Value) (e : TypeId), w.heap[b]? = some (.cells c e (0, 0)) →
    o + i + vs.length ≤ c.size → ∃ w', (storeCells ⟨b, o, none⟩ vs i).run P w = .ok () w' ∧
      w'.heap[b]? = some (.cells ((vs.zipIdx i).foldl (fun cs x => cs.setIfInBounds (o + x.2) x.1) c) e (0, 0)) ∧
      (∀ k, k ≠ b → w'.heap[k]? = w.heap[k]?) ∧ w'.heap.size = w.heap.size ∧ (∀ B, B ≤ b → Below B w w') := by
  intro vs
  induction vs with
  | nil => intro _ i w c e hw _; exact ⟨w, rfl, by simpa using hw, fun _ _ => rfl, rfl, fun B _ => Below.refl _ _⟩
  | cons v vs ih =>
    intro hv i w c e hw hlen
    simp only [List.length_cons] at hlen
    have hcell : w.cell? ⟨b, o + i, none⟩ = some c[o + i] := by
      rw [cell_of_row w b _ c e _ hw]; exact Array.getElem?_eq_getElem (by omega)
    have hfro : w.frozen? ⟨b, o + i, none⟩ = false := frozen_of_row w b _ c e hw
    have hs := run_store P w ⟨b, o + i, none⟩ v .plain (hv v (List.mem_cons_self ..))
    rw [hcell, hfro] at hs
    simp only [Bool.false_eq_true, if_false] at hs
    have hw1 := heap_setCell_same w b (o + i) c e v hw
    obtain ⟨w', g1, g2, g3, g4, g5⟩ := ih (fun x hx => hv x (List.mem_cons_of_mem _ hx)) (i + 1) (w.setCell ⟨b, o + i, none⟩ v) _ e hw1 (by simp; omega)
    refine ⟨w', ?_, by simpa using g2, fun k hk => (g3 k hk).trans (heap_setCell_other w _ k v hk), by rw [g4]; simp, fun B hB => ?_⟩
    · simp only [storeCells, add_off, Sem.run_bind, hs, Result.andThen_ok, g1]
    · exact ((Below.refl B w).setCell (p := ⟨b, o + i, none⟩) hB v).trans (g5 B hB)

theorem allCells_mem : ∀ {l : List AV} {us : List Value}, VRs β l us → allCells l = true → ∀ u, u ∈ us → u.oneCell' = true
  | _, _, .nil, _, u, hu => by cases hu
  | _, _, .cons v w vs ws h hs, ha, u, hu => by
    simp only [allCells, Bool.and_eq_true] at ha
    rcases List.mem_cons.1 hu with rfl | hu
    · exact h.oneCell ha.1
    · exact allCells_mem hs ha.2 u hu

theorem stores_sound (h : HR P B w0 pr β H w) {i : Nat} {x : Nat × Nat × Nat} (hi : β i = some x) {off : Nat} {l : List AV} {us : List Value} (hl : VRs β l us) (hc : allCells l = true)
    {H' : AHeap} (hs : H.store i off l = some H') :
    ∃ w', (storeCells ⟨x.1, x.2.1 + off, none⟩ us).run P w = .ok () w' ∧ HR P B w0 pr β H' w' := by
  unfold AHeap.store at hs
  split at hs <;> first | cases hs | skip
  rename_i cs hg
  split at hs <;> cases hs
  rename_i l' hl'
  obtain ⟨c, t, fz, h1, h2, h3, h4, h5⟩ := h.obj i x _ hi hg
  obtain ⟨hB, rfl⟩ := h5 rfl
  obtain ⟨g1, g2, g3⟩ := write_get _ _ _ _ hl'
  have hlen := hl.length
  obtain ⟨w', k1, k2, k3, k4, k5⟩ := run_stores (P := P) x.1 (x.2.1 + off) us (allCells_mem hl hc) 0 w c t h1 (by omega)
  obtain ⟨f1, f2⟩ := foldl_set_get us (x.2.1 + off) 0 c (by omega)
  refine ⟨w', k1, h.put hi ⟨_, hg, rfl⟩ (k5 B hB) k3 k4 (h.not_pr hi hg rfl) ?_⟩
  refine ⟨_, t, (0, 0), k2, by rw [f1]; exact h2, by omega, fun k v hk => ?_, fun _ => ⟨hB, rfl⟩⟩
  rw [g3 k] at hk
  rw [f2 (x.2.1 + k)]
  by_cases hr : off ≤ k ∧ k < off + l.length
  · rw [if_pos hr] at hk
    rw [if_pos (by omega)]
    obtain ⟨u, a, b⟩ := hl.get _ _ hk
    exact ⟨u, by rw [show x.2.1 + k - (x.2.1 + off + 0) = k - off from by omega]; exact a, b⟩
  · rw [if_neg hr] at hk
    rw [if_neg (by omega)]
    exact h4 k v hk

theorem store_nx {i off : Nat} {l : List AV} {H' : AHeap} (hs : H.store i off l = some H') : H'.nx = H.nx := by
  unfold AHeap.store at hs
  split at hs <;> first | cases hs | skip
  split at hs <;> cases hs
  rfl

theorem store_sound (h : HR P B w0 pr β H w) {t : TypeId} {n : Nat} (hn : usz P t = some n) {a b : AV} {u v : Value} (ha : VR β a u) (hb : VR β b v) :
    SoundU P B w0 pr β H w (Instr.storeAt t u v) (opStore a b n H) := by
  intro r H' e
  unfold opStore at e
  split at e <;> first | cases e | skip
  rename_i x hx
  obtain ⟨bb, s, z, hbb, rfl⟩ := asP_rel ha hx
  split at e <;> first | cases e | skip
  rename_i cs hcs
  unfold retH at e
  split at e <;> cases e
  rename_i H2 hst
  refine ⟨rfl, ?_⟩
  unfold storeCs at hst
  split at hst <;> first | cases hst | skip
  rename_i hck
  simp only [Bool.and_eq_true] at hck
  have hlen := Nat.eq_of_beq_eq_true hck.1
  obtain ⟨w', g1, g2⟩ := stores_sound h hbb (cellsOf_rel hb hcs) hck.2 hst
  refine ⟨w', β, ?_, Ex.same β (store_nx hst), g2⟩
  have hsz : ¬ (v.cells.size ≠ n) := by rw [cellsOf_size hb hcs]; simpa using hlen
  simp only [Instr.storeAt, Instr.sureAddr, Sem.run_bind, Sem.run_pure, Result.andThen_ok, storeVar, run_sizeOf hn, if_neg hsz]
  exact g1

theorem nilchk_sound (h : HR P B w0 pr β H w) {a : AV} {u : Value} (ha : VR β a u) {v : AV} {H' : AHeap} (e : opNilchk a H = some (v, H')) :
    v = a ∧ H' = H ∧ ((∃ x, u = .pointer (some x)) ∨ ∃ f fi ca, u = .func (.func f) fi ca) := by
  unfold opNilchk at e
  split at e <;> cases e
  · cases ha; exact ⟨rfl, rfl, .inl ⟨_, rfl⟩⟩
  · cases ha
  · cases ha; exact ⟨rfl, rfl, .inr ⟨_, _, _, rfl⟩⟩

theorem mkslice_alloc {t el : TypeId} {n by_ : Nat} (ht : P.underlying t = some (.slice el)) (hn : usz P el = some n) (hby : uby P el = some by_) {z : List AV} (hz : uze P el = some z)
    (hzn : z.length = n) (hn1 : 1 ≤ n) {a b : AV} {u v : Value} (ha : VR β a u) (hb : VR β b v) {r : AV} {H H' : AHeap} (e : opMkslice n by_ z a b H = some (r, H')) :
    ∃ cs vf, H' = lay cs H ∧ r = vf H.nx ∧ AllocV P β w (Instr.makeSlice t u v) cs vf := by
  unfold opMkslice at e
  split at e <;> first | cases e | skip
  rename_i l c
  split at e <;> cases e
  rename_i hck
  simp only [Bool.and_eq_true] at hck
  obtain ⟨⟨h1, h2⟩, h3⟩ := hck
  have h1 := Nat.le_of_ble_eq_true h1
  have h2 := Nat.le_of_ble_eq_true h2
  have h3 := Nat.le_of_ble_eq_true h3
  obtain rfl := vr_int ha
  obtain rfl := vr_int hb
  obtain ⟨i, zv, z1, z2, z3⟩ := scalVs_zero (β := β) hz
  have hbi : i.bytes = by_ := by
    unfold uby at hby; rw [z1] at hby; simpa using hby
  have hti : (typeInfo el).run P w = .ok i w := run_typeInfo z1
  have hrow := zeros_rel (β := β) z3 hzn hn1 c
  unfold most at h2
  have hcb : c ≤ c * by_ := Nat.le_mul_of_pos_right c (by omega)
  have wc : IntKind.i64.wrap (Int.ofNat c) = (c : Int) := by
    rw [← wrapK_eq]; unfold wrapK
    rw [if_pos]; · rfl
    simp only [Bool.and_eq_true, intLe_iff, kMin, kMax]; simp; omega
  have wl : IntKind.i64.wrap (Int.ofNat l) = (l : Int) := by
    rw [← wrapK_eq]; unfold wrapK
    rw [if_pos]; · rfl
    simp only [Bool.and_eq_true, intLe_iff, kMin, kMax]; simp; omega
  have hrow2 : VRs β (repl z c) ((Array.range (c * n)).map ((if c * n = 0 then #[] else zv.cells)[· % (if c * n = 0 then #[] else zv.cells).size]!)).toList := by
    by_cases h0 : c * n = 0
    · have : c = 0 := by
        rcases Nat.mul_eq_zero.1 h0 with h | h
        · exact h
        · omega
      subst this
      simp [repl]; exact .nil
    · simp only [if_neg h0]; exact hrow
  have hsz : ((Array.range (c * n)).map ((if c * n = 0 then #[] else zv.cells)[· % (if c * n = 0 then #[] else zv.cells).size]!)).size = c * n := by simp
  refine ⟨_, fun id => .sl id 0 l c n true, rfl, rfl, _, el, .slice (some ⟨w.heap.size, 0, none⟩) l c, ?_, hrow2, fun β' id hid => ?_⟩
  · have hmul : ((by_ : Int) * (c : Int)) = ((c * by_ : Nat) : Int) := by push_cast; rw [Int.mul_comm]
    have t1 : (decide ((c : Int) < 0) || decide ((by_ : Int) * (c : Int) > 2 ^ 48)) = false := by
      rw [hmul]; simp; omega
    have t2 : ¬ ((l : Int) < 0) := by omega
    have t3 : ¬ ((l : Int) > (c : Int)) := by omega
    simp only [Instr.makeSlice, Sem.run_bind, run_underlying ht, Result.andThen_ok, asInt, asIntOf, Sem.run_pure, hti, hbi, wc, wl, t1, decide_eq_false t2, decide_eq_false t3, Bool.or_self, Bool.false_eq_true, if_false,
      run_askRoom, run_sizeOf hn, Int.toNat_natCast]
    by_cases h0 : c * n = 0
    · simp only [if_pos h0, Sem.run_bind, Sem.run_pure, Result.andThen_ok, run_newRow]
    · simp only [if_neg h0, Sem.run_bind, Sem.run_pure, Result.andThen_ok, run_zeroValue z1 z2, run_newRow]
  · exact .sl _ _ _ _ _ _ w.heap.size 0 _ 0 c hid h1 (Nat.le_refl _) (fun _ => rfl) (.inr rfl) (by rw [hsz]; omega)
theorem mkslice_sound (h : HR P B w0 pr β H w) {t el : TypeId} {n by_ : Nat} (ht : P.underlying t = some (.slice el)) (hn : usz P el = some n) (hby : uby P el = some by_) {z : List AV} (hz : uze P el = some z)
    (hzn : z.length = n) (hn1 : 1 ≤ n) {a b : AV} {u v : Value} (ha : VR β a u) (hb : VR β b v) : SoundV P B w0 pr β H w (Instr.makeSlice t u v) (opMkslice n by_ z a b H) := by
  intro r H' e
  obtain ⟨cs, vf, rfl, rfl, h1⟩ := mkslice_alloc (P := P) (w := w) ht hn hby hz hzn hn1 ha hb e
  exact h1.sound h _ _ rfl

theorem mkmap_sound (h : HR P B w0 pr β H w) (t : TypeId) (kl : Nat) : SoundV P B w0 pr β H w (Instr.makeMap t none) (some (.map H.nx, H.push (.map kl [] 0))) := by
  intro v H' e
  cases e
  refine ⟨.map (some w.heap.size), w.alloc (.map #[] 0), _, rfl, new_ext rfl (w.heap.size, 0, 0), ?_, .map _ w.heap.size 0 0 (Beta.add_same ..)⟩
  refine h.push (w.heap.size, 0, 0) rfl ((Below.refl _ _).alloc (Nat.le_refl _) _) (by simp) ?_
  exact ⟨h.base, #[], heap_alloc_new w _, .nil, fun y hy => by cases hy⟩

theorem slarr_sound (h : HR P B w0 pr β H w) {t e : TypeId} {n len : Nat} (ht : P.underlying t = some (.array len e)) (hn : usz P e = some n) {lo hi mx : Option AV} {lo' hi' mx' : Option Value}
    (hl : OR1 β lo lo') (hh : OR1 β hi hi') (hm : OR1 β mx mx') {a : AV} {u : Value} (ha : VR β a u) :
    SoundV P B w0 pr β H w (Instr.sliceAt t u lo' hi' mx') (opSlarr len n a lo hi mx H) := by
  intro r H' e
  unfold opSlarr at e
  split at e <;> first | (cases e; done) | (cases ha; done) | skip
  rename_i xi xo
  obtain ⟨b, s, z, hb, rfl⟩ := asP_rel (x := (xi, xo)) ha rfl
  split at e <;> first | cases e | skip
  rename_i cs st hg
  split at e <;> first | cases e | skip
  rename_i hle
  have hle := Nat.le_of_ble_eq_true hle
  unfold ret at e
  split at e <;> cases e
  rename_i hr
  unfold slOfO at hr
  split at hr <;> cases hr
  rename_i bb hbb
  obtain ⟨c, ty, fz, h1, h2, h3, h4, h5⟩ := h.obj _ _ _ hb hg
  simp only at h2 h3
  obtain ⟨m', k1, k2, k3, k4, k5, k6⟩ := bounds_run (P := P) (w := w) false hl hh hm (Nat.le_refl len) (Nat.le_refl len) hbb
  have hm' : m' = bb.2.2 := by
    cases hm with
    | none => obtain ⟨x, y⟩ := k5 rfl; omega
    | some _ _ _ => exact k6 (by simp)
  subst hm'
  refine ⟨_, w, β, by simp only [Instr.sliceAt, Sem.run_bind, run_underlying ht, Result.andThen_ok, Instr.sureAddr, Sem.run_pure, k1, run_sizeOf hn]; rfl, Ex.refl _ β, h, ?_⟩
  have dist : ∀ x y : Nat, y ≤ x → (x - y) * n + y * n = x * n := fun x y h => by rw [← Nat.add_mul, Nat.sub_add_cancel h]
  have hz2 : s + (xo + bb.1 * n) + (bb.2.2 - bb.1) * n ≤ z := by
    have := dist bb.2.2 bb.1 (by omega)
    have : bb.2.2 * n ≤ len * n := Nat.mul_le_mul_right n k4
    omega
  by_cases hml : bb.2.2 = bb.1
  · simp only [hml, if_true]
    exact .sl _ _ _ _ _ _ b s z _ _ hb (by omega) (by omega) (fun _ => by omega) (.inl (by omega)) (by rw [hml] at hz2; exact hz2)
  · simp only [hml, if_false, add_off]
    exact .sl _ _ _ _ _ _ b s z _ _ hb (by omega) (by omega) (fun _ => by omega) (.inr (by omega)) hz2

end
end Go.AM
/- Maps with keys that are numbers or rows of numbers. -/
namespace Go.AM
open Go Go.RowKit

section
variable {P : Program} {B : Nat} {w0 : World} {pr : List Nat} {β : Beta} {H : AHeap} {w : World}

theorem flatInts_spec {t : TypeId} {n : Nat} (h : flatInts P t = some n) : ∃ e, P.underlying t = some (.array n e) ∧ P.underlying e = some (.int .i64) ∧ usz P e = some 1 := by
  unfold flatInts at h
  split at h <;> first | cases h | skip
  rename_i m e hu
  split at h <;> first | cases h | skip
  rename_i hi
  split at h <;> cases h
  exact ⟨e, hu, hi, by assumption⟩

theorem run_part_int {e : TypeId} (he : P.underlying e = some (.int .i64)) {cs : Array Value} {i : Nat} {v : Value} (h : cs[i]? = some v) : (part e cs i).run P w = .ok v w := by
  simp [part, isAgg, run_underlying he, h]

theorem check_arr (em : Bool) (m : Nat) {t e : TypeId} {n : Nat} (ht : P.underlying t = some (.array n e)) (he : P.underlying e = some (.int .i64)) (hs : usz P e = some 1) (cs : Array Value)
    (hc : ∀ i, i < n → ∃ x, cs[i]? = some (.int .i64 x)) : (Instr.checkKey em (m + 1 + 1) t (.agg cs)).run P w = .ok () w := by
  rw [Instr.checkKey]
  simp only [Sem.run_bind, run_underlying ht, Result.andThen_ok]
  simp only [Std.Legacy.Range.forIn_eq_forIn_range', Std.Legacy.Range.size, Nat.sub_zero, Nat.add_one_sub_one, Nat.div_one]
  have hm : ∀ i, i ∈ List.range' 0 n → ∃ x, cs[i]? = some (.int .i64 x) := fun i hi => hc i (by simp at hi; omega)
  generalize List.range' 0 n = is at hm
  induction is with
  | nil => simp
  | cons i is ih =>
    obtain ⟨x, hx⟩ := hm i (List.mem_cons_self ..)
    have h1 : (Instr.checkKey em (m + 1) e (.int .i64 x)).run P w = .ok () w := by simp [Instr.checkKey, run_underlying he]
    simp only [List.forIn_cons, Sem.run_bind, run_sizeOf hs, Result.andThen_ok, Nat.mul_one, run_part_int he hx, h1, Sem.run_pure]
    exact ih fun j hj => hm j (List.mem_cons_of_mem _ hj)

theorem equal_arr (d : Nat) {t e : TypeId} {n : Nat} (ht : P.underlying t = some (.array n e)) (he : P.underlying e = some (.int .i64)) (hs : usz P e = some 1) (xs ys : Array Value)
    (hx : ∀ i, i < n → ∃ a b, xs[i]? = some (.int .i64 a) ∧ ys[i]? = some (.int .i64 b)) :
    ∃ r : Bool, (Op.equalIn (d + 1 + 1) t (.agg xs) (.agg ys)).run P w = .ok r w ∧ (r = true ↔ ∀ i, i < n → xs[i]? = ys[i]?) := by
  rw [Op.equalIn]
  simp only [Sem.run_bind, run_underlying ht, Result.andThen_ok, run_sizeOf hs, Nat.mul_one]
  simp only [Std.Legacy.Range.forIn_eq_forIn_range', Std.Legacy.Range.size, Nat.sub_zero, Nat.add_one_sub_one, Nat.div_one]
  have hm : ∀ i, i ∈ List.range' 0 n → ∃ a b, xs[i]? = some (.int .i64 a) ∧ ys[i]? = some (.int .i64 b) := fun i hi => hx i (by simp at hi; omega)
  have hq : (∀ i, i < n → xs[i]? = ys[i]?) ↔ (∀ i, i ∈ List.range' 0 n → xs[i]? = ys[i]?) :=
    ⟨fun h i hi => h i (by simp at hi; omega), fun h i hi => h i (by simp; omega)⟩
  rw [hq]
  clear hq hx
  generalize List.range' 0 n = is at hm
  induction is with
  | nil => exact ⟨true, by simp, by simp⟩
  | cons i is ih =>
    obtain ⟨a, b, hxi, hyi⟩ := hm i (List.mem_cons_self ..)
    have h1 : (Op.equalIn (d + 1) e (.int .i64 a) (.int .i64 b)).run P w = .ok (a == b) w := by simp [Op.equalIn, run_underlying he]
    simp only [List.forIn_cons, Sem.run_bind, run_part_int he hxi, run_part_int he hyi, Result.andThen_ok, h1]
    by_cases hab : a = b
    · subst hab
      simp only [beq_self_eq_true, Bool.not_true, Bool.false_eq_true, if_false, Sem.run_pure, Result.andThen_ok]
      obtain ⟨r, h2, h3⟩ := ih fun j hj => hm j (List.mem_cons_of_mem _ hj)
      refine ⟨r, h2, ?_⟩
      rw [h3]
      simp [hxi, hyi]
    · have hne : (a == b) = false := by simpa using hab
      simp only [hne, Bool.not_false, if_true, Sem.run_pure, Result.andThen_ok]
      refine ⟨false, rfl, ?_⟩
      simp [hxi, hyi, hab]

/-! a key of the abstract machine is the model's to the sign -/
def KeyV (kl : Nat) (u : Value) : Prop := (kl = 0 ∧ ∃ n, u = .int .i64 n) ∨ (1 ≤ kl ∧ ∃ c : Array Value, u = .agg c ∧ c.size = kl ∧ ∀ i, i < kl → ∃ n, c[i]? = some (.int .i64 n))

theorem keyOk_rel {kl : Nat} {k : AV} {u : Value} (hv : VR β k u) (h : keyOk kl k = true) : KeyV kl u := by
  unfold keyOk at h
  split at h <;> first | cases h | skip
  · obtain rfl := vr_int hv
    exact .inl ⟨Nat.eq_of_beq_eq_true h, _, rfl⟩
  · rename_i cs
    simp only [Bool.and_eq_true] at h
    obtain ⟨⟨h1, h2⟩, h3⟩ := h
    cases hv with
    | agg cs c hc =>
      have hl := hc.length
      have h2 := Nat.eq_of_beq_eq_true h2
      simp only [Array.length_toList] at hl
      refine .inr ⟨Nat.le_of_ble_eq_true h1, c, rfl, by omega, fun i hi => ?_⟩
      have hi' : i < cs.length := by omega
      obtain ⟨x, a, b⟩ := hc.get i _ (List.getElem?_eq_getElem hi')
      have h4 := List.all_eq_true.1 h3 cs[i] (List.getElem_mem hi')
      split at h4 <;> first | cases h4 | skip
      rename_i n hn
      rw [hn] at b
      obtain rfl := vr_int b
      exact ⟨_, by simpa using a⟩

theorem key_eq {kl : Nat} {k k' : AV} {u u' : Value} (hv : VR β k u) (hv' : VR β k' u') (h : KeyV kl u) (h' : KeyV kl u') (e : u = u') (hk : keyOk kl k = true) (hk' : keyOk kl k' = true) : avEq k k' = true := by
  subst e
  have inj : ∀ {a b : AV} {u : Value}, VR β a u → VR β b u → (∃ n, u = .int .i64 n) → (∃ m, a = .int .i64 m) → (∃ m, b = .int .i64 m) → avEq a b = true := by
    rintro a b u h1 h2 ⟨n, rfl⟩ ⟨m, rfl⟩ ⟨m', rfl⟩
    cases h1; cases h2
    simp [avEq, ikEq_refl, intEq_iff]
  unfold keyOk at hk hk'
  split at hk <;> first | cases hk | skip
  · split at hk' <;> first | cases hk' | skip
    · rcases h with ⟨_, n, hn⟩ | ⟨_, c, hc, _⟩
      · exact inj hv hv' ⟨n, hn⟩ ⟨_, rfl⟩ ⟨_, rfl⟩
      · subst hc; cases hv
    · cases hv; cases hv'
  · rename_i cs
    split at hk' <;> first | cases hk' | skip
    · cases hv'; cases hv
    · rename_i cs'
      simp only [Bool.and_eq_true] at hk hk'
      cases hv with
      | agg _ c hc =>
        cases hv' with
        | agg _ _ hc' =>
          simp only [avEq]
          have a1 := List.all_eq_true.1 hk.2
          have a2 := List.all_eq_true.1 hk'.2
          have all : ∀ {l : List Value} {cs cs' : List AV}, VRs β cs l → VRs β cs' l → (∀ x, x ∈ cs → (match x with | .int .i64 _ => true | _ => false) = true) →
              (∀ x, x ∈ cs' → (match x with | .int .i64 _ => true | _ => false) = true) → avsEq cs cs' = true := by
            intro l
            induction l with
            | nil => intro cs cs' h1 h2 _ _; cases h1; cases h2; rfl
            | cons y l ih =>
              intro cs cs' h1 h2 b1 b2
              cases h1 with
              | cons v _ vs _ g gs =>
                cases h2 with
                | cons v' _ vs' _ g' gs' =>
                  simp only [avsEq, Bool.and_eq_true]
                  refine ⟨?_, ih gs gs' (fun x hx => b1 x (List.mem_cons_of_mem _ hx)) (fun x hx => b2 x (List.mem_cons_of_mem _ hx))⟩
                  have b1 := b1 v (List.mem_cons_self ..)
                  have b2 := b2 v' (List.mem_cons_self ..)
                  split at b1 <;> first | cases b1 | skip
                  split at b2 <;> first | cases b2 | skip
                  exact inj g g' ⟨_, vr_int g⟩ ⟨_, rfl⟩ ⟨_, rfl⟩
          exact all hc hc' a1 a2

theorem key_ne {kl : Nat} {k k' : AV} {u u' : Value} (hv : VR β k u) (hv' : VR β k' u') (h : avEq k k' = true) (hk : keyOk kl k = true) : u = u' := by
  obtain rfl := avEq_eq h
  unfold keyOk at hk
  split at hk <;> first | cases hk | skip
  · rw [vr_int hv, vr_int hv']
  · simp only [Bool.and_eq_true] at hk
    have a1 := List.all_eq_true.1 hk.2
    cases hv with
    | agg _ c hc =>
      cases hv' with
      | agg _ c' hc' =>
        have : ∀ {cs : List AV} {l l' : List Value}, VRs β cs l → VRs β cs l' → (∀ x, x ∈ cs → (match x with | .int .i64 _ => true | _ => false) = true) → l = l' := by
          intro cs
          induction cs with
          | nil => intro l l' h1 h2 _; cases h1; cases h2; rfl
          | cons x cs ih =>
            intro l l' h1 h2 ha
            cases h1 with
            | cons _ w _ ws g gs =>
              cases h2 with
              | cons _ w' _ ws' g' gs' =>
                have b1 := ha x (List.mem_cons_self ..)
                split at b1 <;> first | cases b1 | skip
                rw [vr_int g, vr_int g', ih gs gs' fun y hy => ha y (List.mem_cons_of_mem _ hy)]
        rw [Array.ext' (this hc hc' a1)]

/-- the type of a key that the abstract machine takes -/
def KeyT (P : Program) (kl : Nat) (kt : TypeId) : Prop :=
  (kl = 0 ∧ P.underlying kt = some (.int .i64)) ∨ (1 ≤ kl ∧ ∃ e, P.underlying kt = some (.array kl e) ∧ P.underlying e = some (.int .i64) ∧ usz P e = some 1)
theorem keyOf_spec {kt : TypeId} {kl : Nat} (h : keyOf P kt = some kl) : KeyT P kl kt := by
  unfold keyOf at h
  split at h
  · cases h; exact .inl ⟨rfl, by assumption⟩
  · split at h <;> first | cases h | skip
    rename_i n hn
    split at h <;> cases h
    obtain ⟨e, h1, h2, h3⟩ := flatInts_spec hn
    exact .inr ⟨by omega, e, h1, h2, h3⟩

theorem check_key (em : Bool) {kl : Nat} {kt : TypeId} (ht : KeyT P kl kt) {u : Value} (hu : KeyV kl u) : (Instr.checkKey em 10000 kt u).run P w = .ok () w := by
  rcases ht with ⟨rfl, h⟩ | ⟨h1, e, h2, h3, h4⟩
  · rcases hu with ⟨_, n, rfl⟩ | ⟨h1, _⟩
    · have : ∀ d, (Instr.checkKey em (d + 1) kt (.int .i64 n)).run P w = .ok () w := fun d => by simp [Instr.checkKey, run_underlying h]
      exact this 9999
    · omega
  · rcases hu with ⟨h0, _⟩ | ⟨_, c, rfl, h5, h6⟩
    · omega
    · exact check_arr em 9998 h2 h3 h4 c h6

theorem equal_key {kl : Nat} {kt : TypeId} (ht : KeyT P kl kt) {u u' : Value} (hu : KeyV kl u) (hu' : KeyV kl u') : ∃ r : Bool, (Op.equal kt u u').run P w = .ok r w ∧ (r = true ↔ u = u') := by
  rcases ht with ⟨rfl, h⟩ | ⟨h1, e, h2, h3, h4⟩
  · rcases hu with ⟨_, n, rfl⟩ | ⟨h1, _⟩
    · rcases hu' with ⟨_, m, rfl⟩ | ⟨h1, _⟩
      · have : ∀ d, (Op.equalIn (d + 1) kt (.int .i64 n) (.int .i64 m)).run P w = .ok (n == m) w := fun d => by simp [Op.equalIn, run_underlying h]
        exact ⟨n == m, this 9999, by simp⟩
      · omega
    · omega
  · rcases hu with ⟨h0, _⟩ | ⟨_, c, rfl, h5, h6⟩
    · omega
    · rcases hu' with ⟨h0, _⟩ | ⟨_, c', rfl, h5', h6'⟩
      · omega
      · obtain ⟨r, g1, g2⟩ := equal_arr (P := P) (w := w) 9998 h2 h3 h4 c c' (fun i hi => by
          obtain ⟨a, ha⟩ := h6 i hi
          obtain ⟨b, hb⟩ := h6' i hi
          exact ⟨a, b, ha, hb⟩)
        refine ⟨r, g1, g2.trans ⟨fun h => ?_, fun h => ?_⟩⟩
        · congr 1
          apply Array.ext_getElem?
          intro i
          by_cases hi : i < kl
          · exact h i hi
          · rw [Array.getElem?_eq_none (by omega), Array.getElem?_eq_none (by omega)]
        · cases h; exact fun _ _ => rfl

/-- the entry that is found; the row with the entry told anew -/
theorem find_key {kl : Nat} {kt : TypeId} (ht : KeyT P kl kt) {k nv : AV} {u nu : Value} (hv : VR β k u) (hk : keyOk kl k = true) (hnv : VR β nv nu) (ck : Nat) :
    ∀ {es : List (AV × AV × Nat)} {ms : List MapEntry}, ER β es ms → (∀ x, x ∈ es → keyOk kl x.1 = true) → ∀ i, 
      ∃ r, (Instr.findAsking kt u ms i).run P w = .ok r w ∧
        ((r = none ∧ findK k es = none ∧ setK k nv ck es = (es ++ [(k, nv, ck)], true)) ∨
         ∃ j x v es', r = some (i + j, x) ∧ findK k es = some v ∧ VR β v x ∧ setK k nv ck es = (es', false) ∧ (∃ m, ms[j]? = some m ∧ m.key = u) ∧
           ER β es' (ms.modify j fun e => { e with key := u, val := nu }) ∧ ∀ x, x ∈ es' → keyOk kl x.1 = true)
  | _, _, .nil, _, i => ⟨none, rfl, .inl ⟨rfl, rfl, rfl⟩⟩
  | _, _, .cons k' v b u' x r r' hk' hv' hr, hall, i => by
    have hko := hall _ (List.mem_cons_self ..)
    obtain ⟨q, h1, h2⟩ := equal_key (P := P) (w := w) ht (keyOk_rel hv hk) (keyOk_rel hk' hko)
    simp only [Instr.findAsking, Sem.run_bind, h1, Result.andThen_ok, findK, setK]
    by_cases he : u = u'
    · have hq := h2.2 he
      have ha := key_eq hv hk' (keyOk_rel hv hk) (keyOk_rel hk' hko) he hk hko
      rw [if_pos ha, hq, if_pos ha]
      subst he
      refine ⟨_, rfl, .inr ⟨0, x, v, _, by simp, rfl, hv', rfl, ⟨{ key := u, val := x, born := b }, by simp, rfl⟩, ?_, fun y hy => ?_⟩⟩
      · simp only [List.modify_zero_cons]
        exact .cons _ _ _ _ _ _ _ hk' hnv hr
      · rcases List.mem_cons.1 hy with rfl | hy
        · exact hko
        · exact hall y (List.mem_cons_of_mem _ hy)
    · have hq : q = false := by cases q <;> simp_all
      have ha : ¬ (avEq k k' = true) := fun e => he (key_ne hv hk' e hk)
      rw [if_neg ha, hq, if_neg ha]
      obtain ⟨r0, g1, g2⟩ := find_key ht hv hk hnv ck hr (fun y hy => hall y (List.mem_cons_of_mem _ hy)) (i + 1)
      refine ⟨r0, by simpa using g1, ?_⟩
      rcases g2 with ⟨e1, e2, e3⟩ | ⟨j, y, v0, es', e1, e2, e3, e4, e5, e6, e7⟩
      · exact .inl ⟨e1, e2, by rw [e3]; rfl⟩
      · refine .inr ⟨j + 1, y, v0, (k', v, b) :: es', by rw [e1]; congr 2; omega, e2, e3, by rw [e4], by simpa using e5, ?_, fun z hz => ?_⟩
        · simp only [List.modify_succ_cons]
          exact .cons _ _ _ _ _ _ _ hk' hv' e6
        · rcases List.mem_cons.1 hz with rfl | hz
          · exact hko
          · exact e7 z hz

theorem run_findKey {kl : Nat} {kt : TypeId} (ht : KeyT P kl kt) {k nv : AV} {u nu : Value} (hv : VR β k u) (hk : keyOk kl k = true) (hnv : VR β nv nu) (ck : Nat)
    {es : List (AV × AV × Nat)} {ms : List MapEntry} (he : ER β es ms) (hall : ∀ x, x ∈ es → keyOk kl x.1 = true) :
      ∃ r, (Instr.findKey kt u ms).run P w = .ok r w ∧
        ((r = none ∧ findK k es = none ∧ setK k nv ck es = (es ++ [(k, nv, ck)], true)) ∨
         ∃ j x v es', r = some (j, x) ∧ findK k es = some v ∧ VR β v x ∧ setK k nv ck es = (es', false) ∧ (∃ m, ms[j]? = some m ∧ m.key = u) ∧
           ER β es' (ms.modify j fun e => { e with key := u, val := nu }) ∧ ∀ x, x ∈ es' → keyOk kl x.1 = true) := by
  obtain ⟨r, h1, h2⟩ := find_key (P := P) (w := w) ht hv hk hnv ck he hall 0
  simp only [Nat.zero_add] at h2
  rcases ht with ⟨rfl, hi⟩ | ⟨hkl, e, ha, hb, hc⟩
  · -- a number: the model compares at once where it can; it asks, where it cannot
    cases hf : Instr.findNow (.int .i64) u ms 0 with
    | none => exact ⟨r, by simp only [Instr.findKey, Sem.run_bind, Go.AM.run_underlying hi, Result.andThen_ok, hf, h1], h2⟩
    | some q =>
      have same : ∀ {es : List (AV × AV × Nat)} {ms : List MapEntry}, ER β es ms → (∀ x, x ∈ es → keyOk 0 x.1 = true) → ∀ i q r, Instr.findNow (.int .i64) u ms i = some q → (Instr.findAsking kt u ms i).run P w = .ok r w → q = r := by
        intro es ms he
        induction he with
        | nil => intro _ i q r a b; simp [Instr.findNow] at a; simp [Instr.findAsking] at b; rw [← a, ← b]
        | cons k' v b u' x r r' hk' hv' hr ih =>
          intro hall i q r0 a c
          have hko := hall _ (List.mem_cons_self ..)
          rcases keyOk_rel hv hk with ⟨_, n, rfl⟩ | ⟨h0, _⟩
          · rcases keyOk_rel hk' hko with ⟨_, m, rfl⟩ | ⟨h0, _⟩
            · have hq : (Op.equal kt (.int .i64 n) (.int .i64 m)).run P w = .ok (n == m) w := by
                have : ∀ d, (Op.equalIn (d + 1) kt (.int .i64 n) (.int .i64 m)).run P w = .ok (n == m) w := fun d => by simp [Op.equalIn, Go.AM.run_underlying hi]
                exact this 9999
              simp only [Instr.findAsking, Sem.run_bind, hq, Result.andThen_ok] at c
              simp only [Instr.findNow, Instr.sameNow, if_true] at a
              by_cases hnm : n = m
              · subst hnm
                simp at a c
                rw [← a, ← c]
              · have : (n == m) = false := by simpa using hnm
                rw [this] at a c
                simp at a c
                exact ih (fun y hy => hall y (List.mem_cons_of_mem _ hy)) (i + 1) q r0 a c
            · omega
          · omega
      obtain rfl := same he hall 0 q r hf h1
      exact ⟨q, by simp only [Instr.findKey, Sem.run_bind, Go.AM.run_underlying hi, Result.andThen_ok, hf, Sem.run_pure], h2⟩
  · refine ⟨r, ?_, h2⟩
    rw [run_findKey_eq w (by simp [ha]) u ms]; exact h1

theorem found_rel {z : AV} {zv : Value} (hz : VR β z zv) (ok : Bool) {o : Option AV} {x : Value} {b : Bool} (h : match o with | none => b = false ∧ x = zv | some v => b = true ∧ VR β v x) :
    VR β (found z ok o) (if ok then .tuple #[x, .bool b] else x) := by
  cases o with
  | none =>
    obtain ⟨rfl, rfl⟩ := h
    cases ok
    · exact hz
    · exact .tup _ _ (.cons _ _ _ _ hz (.cons _ _ _ _ (.bool _) .nil))
  | some v =>
    obtain ⟨rfl, h⟩ := h
    cases ok
    · exact h
    · exact .tup _ _ (.cons _ _ _ _ h (.cons _ _ _ _ (.bool _) .nil))

theorem lookup_sound (h : HR P B w0 pr β H w) {t kt e : TypeId} {kl : Nat} (ht : P.underlying t = some (.map kt e)) (hkt : KeyT P kl kt) {i : TypeInfo} {zv : Value} {z : AV} (hi : P.info? e = some i) (hz : i.zero = some zv)
    (hzz : ofVal zv = some z) (ok : Bool) {m k : AV} {um uk : Value} (hm : VR β m um) (hk : VR β k uk) : SoundV P B w0 pr β H w (Instr.lookup t um uk ok) (opLookup kl z ok m k H) := by
  intro v H' eq
  unfold opLookup at eq
  split at eq <;> first | cases eq | skip
  rename_i hko
  have hzr : VR β z zv := ofVal_rel hzz
  split at eq
  · cases eq
    cases hm
    refine ⟨_, w, β, ?_, Ex.refl _ β, h, found_rel hzr ok (o := none) (b := false) (x := zv) ⟨rfl, rfl⟩⟩
    have hnil : ∃ r, (Instr.findKey kt uk []).run P w = .ok r w ∧ r = none := by
      obtain ⟨r, h1, h2⟩ := run_findKey (P := P) (w := w) hkt hk hko hk 0 (es := []) (ms := []) .nil (fun x hx => by cases hx)
      rcases h2 with ⟨rfl, _⟩ | ⟨j, x, v, es', rfl, h3, _⟩
      · exact ⟨_, h1, rfl⟩
      · simp [findK] at h3
    obtain ⟨r, h1, rfl⟩ := hnil
    simp only [Instr.lookup, Sem.run_bind, Go.AM.run_underlying ht, Result.andThen_ok, Sem.run_pure, check_key _ hkt (keyOk_rel hk hko)]
    have : (#[] : Array MapEntry).toList = [] := rfl
    simp only [this, h1, Sem.run_bind, Result.andThen_ok, Go.AM.run_zeroValue hi hz, Sem.run_pure]
  rotate_left
  · cases eq
  · rename_i mi
    split at eq <;> first | cases eq | skip
    rename_i kl' es ck hg
    split at eq <;> cases eq
    rename_i hkl
    obtain rfl := Nat.eq_of_beq_eq_true hkl
    cases hm with
    | map _ b s zz hb =>
      obtain ⟨h0, ms, h1, h2, h3⟩ := h.obj _ _ _ hb hg
      simp only at h1
      obtain ⟨r, g1, g2⟩ := run_findKey (P := P) (w := w) hkt hk hko hk 0 h2 h3
      have hgo : (getObj b).run P w = .ok (.map ms ck) w := by simp [getObj, Sem.run, h1]
      rcases g2 with ⟨rfl, g3, _⟩ | ⟨j, x, v, es', rfl, g3, g4, _⟩
      · rw [g3]
        refine ⟨_, w, β, ?_, Ex.refl _ β, h, found_rel hzr ok (o := none) (b := false) (x := zv) ⟨rfl, rfl⟩⟩
        simp only [Instr.lookup, Sem.run_bind, Go.AM.run_underlying ht, Result.andThen_ok, Sem.run_pure, hgo, check_key _ hkt (keyOk_rel hk hko), g1, Go.AM.run_zeroValue hi hz]
      · rw [g3]
        refine ⟨_, w, β, ?_, Ex.refl _ β, h, found_rel hzr ok (o := some v) (b := true) (x := x) ⟨rfl, g4⟩⟩
        simp only [Instr.lookup, Sem.run_bind, Go.AM.run_underlying ht, Result.andThen_ok, Sem.run_pure, hgo, check_key _ hkt (keyOk_rel hk hko), g1]

theorem sameBits_refl {kl : Nat} {u : Value} (h : KeyV kl u) : Instr.sameBits 10000 u u = true := by
  have gen : ∀ d, Instr.sameBits (d + 1) u u = true := by
    intro d
    rcases h with ⟨_, n, rfl⟩ | ⟨_, c, rfl, h1, h2⟩
    · simp [Instr.sameBits]
    · simp only [Instr.sameBits, beq_self_eq_true, Bool.true_and, List.all_eq_true]
      intro p hp
      obtain ⟨i, hi, hpe⟩ := List.mem_iff_getElem.1 hp
      simp at hi
      obtain ⟨n, hn⟩ := h2 i (by omega)
      have : c[i] = .int .i64 n := by
        rw [Array.getElem?_eq_getElem (by omega)] at hn; exact Option.some.inj hn
      subst hpe
      simp [this, Instr.sameBits]
  exact gen 9999

theorem ER.snoc : ∀ {es : List (AV × AV × Nat)} {ms : List MapEntry}, ER β es ms → ∀ {k v : AV} {u x : Value} {b : Nat}, VR β k u → VR β v x → ER β (es ++ [(k, v, b)]) (ms ++ [{ key := u, val := x, born := b }])
  | _, _, .nil, _, _, _, _, _, h1, h2 => .cons _ _ _ _ _ _ _ h1 h2 .nil
  | _, _, .cons k v b u x r r' hk hv hr, _, _, _, _, _, h1, h2 => .cons k v b u x _ _ hk hv (hr.snoc h1 h2)

theorem putMap_nx (i kl clock : Nat) (H : AHeap) (r : List (AV × AV × Nat) × Bool) : (putMap i kl clock H r).nx = H.nx := by
  unfold putMap; split <;> rfl

theorem mapset_sound (h : HR P B w0 pr β H w) {t kt e : TypeId} {kl : Nat} (ht : P.underlying t = some (.map kt e)) (hkt : KeyT P kl kt) {m k v : AV} {um uk uv : Value} (hm : VR β m um) (hk : VR β k uk) (hv : VR β v uv) :
    SoundU P B w0 pr β H w (Instr.mapUpdate t um uk uv) (opMapset kl m k v H) := by
  intro r H' eq
  unfold opMapset at eq
  split at eq <;> first | cases eq | skip
  rename_i hko
  split at eq <;> first | cases eq | skip
  rename_i mi
  split at eq <;> first | cases eq | skip
  rename_i kl' es ck hg
  split at eq <;> cases eq
  rename_i hkl
  obtain rfl := Nat.eq_of_beq_eq_true hkl
  refine ⟨rfl, ?_⟩
  cases hm with
  | map _ b s zz hb =>
    obtain ⟨h0, ms, h1, h2, h3⟩ := h.obj _ _ _ hb hg
    simp only at h1 h0
    have hlt : b < w.heap.size := (Array.getElem?_eq_some_iff.1 h1).1
    obtain ⟨r, g1, g2⟩ := run_findKey (P := P) (w := w) hkt hk hko hv ck h2 h3
    have hgo : (getObj b).run P w = .ok (.map ms ck) w := by simp [getObj, Sem.run, h1]
    have hso : ∀ o, (setObj b o).run P w = .ok () (w.putObj b o) := fun o => by simp [setObj, Sem.run, h1, World.putObj]
    have hbel : ∀ o, Below B w (w.putObj b o) := fun o => ⟨rfl, rfl, rfl, by simp, fun k hk => World.putObj_heap_other (by omega)⟩
    have fin : ∀ (es' : List (AV × AV × Nat)) (ms' : Array MapEntry) (ck' : Nat), ER β es' ms'.toList → (∀ x, x ∈ es' → keyOk kl x.1 = true) → HR P B w0 pr β (H.put mi (.map kl es' ck')) (w.putObj b (.map ms' ck')) := by
      intro es' ms' ck' he ha
      refine h.put hb ⟨_, hg, rfl⟩ (hbel _) (fun k hk => World.putObj_heap_other hk) (by simp) (h.not_pr hb hg rfl) ?_
      exact ⟨h0, ms', World.putObj_heap_same hlt, he, ha⟩
    rcases g2 with ⟨rfl, g3, g4⟩ | ⟨j, x, v0, es', rfl, g3, g4, g5, ⟨me, g6, g6'⟩, g7, g8⟩
    · refine ⟨w.putObj b (.map (ms.push { key := uk, val := uv, born := ck }) (ck + 1)), β, ?_, Ex.same β (putMap_nx ..), ?_⟩
      · simp only [Instr.mapUpdate, Sem.run_bind, Go.AM.run_underlying ht, Result.andThen_ok, hgo, check_key _ hkt (keyOk_rel hk hko), g1, hso]
      · rw [g4]
        refine fin _ _ _ ?_ fun y hy => ?_
        · simpa using h2.snoc hk hv
        · rcases List.mem_append.1 hy with hy | hy
          · exact h3 y hy
          · simp at hy; subst hy; exact hko
    · refine ⟨w.putObj b (.map (ms.modify j fun e => { e with key := uk, val := uv }) ck), β, ?_, Ex.same β (putMap_nx ..), ?_⟩
      · have hkey : ((ms[j]?).map (·.key)).getD uk = uk := by
          simp only [Array.getElem?_toList] at g6
          rw [g6]; simpa using g6'
        simp only [Instr.mapUpdate, Sem.run_bind, Go.AM.run_underlying ht, Result.andThen_ok, hgo, check_key _ hkt (keyOk_rel hk hko), g1, hkey, Instr.keyThatStays, sameBits_refl (keyOk_rel hk hko), if_true, Sem.run_pure, hso]
      · rw [g5]
        refine fin _ _ _ ?_ g8
        simpa using g7
end
end Go.AM
/- clear, copy, append. -/
namespace Go.AM
open Go Go.RowKit

section
variable {P : Program} {B : Nat} {w0 : World} {pr : List Nat} {β : Beta} {H : AHeap} {w : World}

theorem zeroCells_rel {z : List AV} {zc : Array Value} (hz : VRs β z zc.toList) (n : Nat) : VRs β (repl z n) (Builtin.zeroCells zc n).toList := by
  have hl := hz.length
  simp only [Array.length_toList] at hl
  by_cases h0 : z.length = 0
  · have : z = [] := List.length_eq_zero_iff.1 h0
    subst this
    have hr : repl [] n = [] := by
      induction n with
      | zero => rfl
      | succ n ih => simp [repl, ih]
    have hs : zc.size = 0 := by simpa using hl.symm
    rw [hr]
    have : (Builtin.zeroCells zc n) = #[] := by
      apply Array.eq_empty_of_size_eq_zero
      simp [Builtin.zeroCells, hs]
    rw [this]; exact .nil
  · have := zeros_rel hz rfl (by omega) n
    unfold Builtin.zeroCells
    rw [show n * zc.size = n * z.length from by rw [hl]]; exact this

theorem clear_sound (h : HR P B w0 pr β H w) {t e : TypeId} (ht : P.underlying t = some (.slice e)) {z : List AV} (hz : uze P e = some z) (rt : TypeId) {a : AV} {u : Value} (ha : VR β a u) :
    SoundV P B w0 pr β H w (Builtin.clear_ #[t] rt #[u]) (opClear z a H) := by
  intro v H' eq
  obtain ⟨i, zv, z1, z2, z3⟩ := scalVs_zero (β := β) hz
  unfold opClear at eq
  split at eq
  · cases eq
    cases ha
    exact ⟨.tuple #[], w, β, by simp [Builtin.clear_, run_underlying ht], Ex.refl _ β, h, .undef _⟩
  · rename_i i0 off len cap es' ex
    split at eq
    · rename_i h0
      cases eq
      obtain rfl := Nat.eq_of_beq_eq_true h0
      cases ha
      exact ⟨.tuple #[], w, β, by simp [Builtin.clear_, run_underlying ht], Ex.refl _ β, h, .undef _⟩
    · rename_i h0
      split at eq <;> first | cases eq | skip
      rename_i hck
      simp only [Bool.and_eq_true] at hck
      have hes := Nat.eq_of_beq_eq_true hck.1
      unfold retH at eq
      split at eq <;> cases eq
      rename_i H2 hst
      cases ha
      rename_i b s zz o c hi1 ho hcap hlc hzz hex
      have hlen0 : len ≠ 0 := fun e => h0 (by subst e; rfl)
      have hc0 : c ≠ 0 := by omega
      obtain rfl := ho.resolve_left hc0
      have hall : allCells (repl z len) = true := by
        have app : ∀ a b, allCells a = true → allCells b = true → allCells (a ++ b) = true := by
          intro a
          induction a with
          | nil => intro b _ hb; simpa using hb
          | cons x a ih => intro b ha hb; simp only [allCells, Bool.and_eq_true, List.cons_append] at ha ⊢; exact ⟨ha.1, ih b ha.2 hb⟩
        have : ∀ n, allCells (repl z n) = true := by
          intro n
          induction n with
          | zero => rfl
          | succ n ih => exact app _ _ hck.2 ih
        exact this len
      obtain ⟨w', g1, g2⟩ := stores_sound h hi1 (zeroCells_rel z3 len) hall hst
      refine ⟨.tuple #[], w', β, ?_, Ex.same β (store_nx hst), g2, .undef _⟩
      obtain ⟨n, rfl⟩ : ∃ n, len = n + 1 := ⟨len - 1, by omega⟩
      simp only [Builtin.clear_, List.getElem?_toArray, List.getElem?_cons_zero, Sem.run_bind, run_underlying ht, Result.andThen_ok, run_zeroValue z1 z2, g1, Sem.run_pure]
  · cases eq

/-- the first cells of what is appended or copied -/
theorem firstCells_run (h : HR P B w0 pr β H w) {es n : Nat} {a : AV} {u : Value} (ha : VR β a u) {l : List AV} (hl : firstCells H es n a = some l) :
    ∃ c : Array Value, (Builtin.firstCells es n u).run P w = .ok c w ∧ VRs β l c.toList := by
  unfold firstCells at hl
  split at hl <;> first | (cases hl; done) | (cases ha; done) | skip
  · split at hl <;> cases hl
    cases ha
    exact ⟨#[], by simp [Builtin.firstCells], .nil⟩
  · split at hl <;> first | cases hl | skip
    rename_i i off len cap es' ex hck
    simp only [Bool.and_eq_true] at hck
    have hn := Nat.le_of_ble_eq_true hck.1
    obtain rfl := Nat.eq_of_beq_eq_true hck.2
    cases ha
    rename_i b s zz o c hi1 ho hcap hlc hzz hex
    by_cases hn0 : n = 0
    · subst hn0
      have : l = [] := by
        have := (cellsAt h hi1 hl).1
        simp at this
        exact this
      subst this
      exact ⟨#[], by simp [Builtin.firstCells, loadCells, loadCellsFrom], .nil⟩
    · have hc0 : c ≠ 0 := by omega
      obtain rfl := ho.resolve_left hc0
      obtain ⟨us, g1, g2, g3⟩ := run_loads h hi1 hl
      exact ⟨us.toArray, by simpa [Builtin.firstCells] using g2, by simpa using g3⟩

theorem load_len {i off n : Nat} {l : List AV} (hl : H.load i off n = some l) : l.length = n := by
  unfold AHeap.load at hl
  split at hl <;> first | cases hl | skip
  exact (rangeOf_get _ _ _ _ hl).1
theorem firstCells_len {es n : Nat} {a : AV} {l : List AV} (hl : firstCells H es n a = some l) : l.length = n * es := by
  unfold firstCells at hl
  split at hl <;> first | cases hl | skip
  · split at hl <;> cases hl
    rename_i hn
    rw [Nat.eq_of_beq_eq_true hn]; simp
  · split at hl <;> first | cases hl | skip
    exact load_len hl
  · split at hl <;> first | cases hl | skip
    exact (rangeOf_get _ _ _ _ hl).1

theorem lenOf_run {a : AV} {u : Value} (ha : VR β a u) {n : Nat} (h : lenOf a = some n) : (Builtin.lenOf u).run P w = .ok n w ∧ ∃ o c, u = .slice o n c := by
  cases ha <;> simp only [lenOf] at h <;> first | (cases h; done) | skip
  · cases h; exact ⟨rfl, _, _, rfl⟩
  · cases h; exact ⟨rfl, _, _, rfl⟩

theorem copy_sound (h : HR P B w0 pr β H w) {t t2 e : TypeId} {n : Nat} (ht : P.underlying t = some (.slice e)) (hn : usz P e = some n) (rt : TypeId) {d s : AV} {ud us : Value} (hd : VR β d ud) (hs : VR β s us) :
    SoundV P B w0 pr β H w (Builtin.copy_ #[t, t2] rt #[ud, us]) (opCopy n d s H) := by
  intro v H' eq
  unfold opCopy at eq
  split at eq <;> first | cases eq | skip
  rename_i n1 m1 hn1 hm1
  split at eq <;> first | cases eq | skip
  rename_i l hl
  obtain ⟨k1, os, cs', rfl⟩ := lenOf_run (P := P) (w := w) hs hn1
  obtain ⟨k2, od, cd, rfl⟩ := lenOf_run (P := P) (w := w) hd hm1
  obtain ⟨c, k3, k4⟩ := firstCells_run h hs hl
  have hmin : (n1.min m1) = min n1 m1 := rfl
  simp only [Builtin.copy_, List.getElem?_toArray, List.getElem?_cons_zero, List.getElem?_cons_succ, Sem.run_bind, run_underlying ht, Result.andThen_ok, k1, run_sizeOf hn, hmin, k3]
  unfold copyTo at eq
  split at eq
  · cases eq
    have hc : c.toList = [] := by
      cases hcl : c.toList with
      | nil => rfl
      | cons x xs => rw [hcl] at k4; cases k4
    refine ⟨goInt ((min n1 m1 : Nat) : Int), w, β, ?_, Ex.refl _ β, h, .int _ _⟩
    rw [hc]
    cases od <;> simp [storeCells]
  · rename_i hne
    split at eq
    · rename_i i0 off len cap es' ex
      split at eq <;> first | cases eq | skip
      rename_i hck
      simp only [Bool.and_eq_true] at hck
      obtain rfl := Nat.eq_of_beq_eq_true hck.1
      split at eq <;> cases eq
      rename_i H2 hst
      have hl0 : l.length ≠ 0 := fun e => hne (List.length_eq_zero_iff.1 e)
      cases hd with
      | sl _ _ _ _ _ _ b s0 zz o _ hi1 hlc hcap hex ho hzz =>
      have hm0 : m1 ≠ 0 := by
        rintro rfl
        have := firstCells_len hl
        simp at this
        exact hl0 (by rw [this]; rfl)
      have hc0 : cd ≠ 0 := by
        simp only [lenOf, Option.some.injEq] at hm1
        omega
      obtain rfl := ho.resolve_left hc0
      obtain ⟨w', g1, g2⟩ := stores_sound h hi1 k4 hck.2 hst
      refine ⟨goInt ((min n1 m1 : Nat) : Int), w', β, ?_, Ex.same β (store_nx hst), g2, .int _ _⟩
      simp only [g1, Result.andThen_ok, Sem.run_bind, Sem.run_pure]
    · cases eq


/-! append -/
theorem growBy_le (need : Nat) : ∀ r c, Builtin.growBy need r c ≤ max c (need + (need + 768) / 4) := by
  intro r
  induction r with
  | zero => intro c; simp only [Builtin.growBy]; omega
  | succ r ih =>
    intro c
    simp only [Builtin.growBy]
    split
    · omega
    · have := ih (c + (c + 768) / 4)
      omega
theorem nextcap_le {need old : Nat} (h : old < need) : Builtin.nextslicecap need old ≤ 2 * need + 192 := by
  unfold Builtin.nextslicecap
  split
  · omega
  · split
    · omega
    · have := growBy_le need 4 old
      omega

/-- an object's number given up -/
theorem HR.gone (h : HR P B w0 pr β H w) (i : Nat) (hi : i < H.nx) : HR P B w0 pr β (H.put i .gone) w :=
  { below := h.below, base := h.base, dom := h.dom
    free := fun j hj => by simp at hj; rw [get_put_ne _ _ _ _ (by omega)]; exact h.free j hj
    inj := fun j k x y o u hjk ej ek gj gk lo lu => by
      by_cases e1 : i = j
      · subst e1; rw [get_put_same] at gj; cases gj; cases lo
      · by_cases e2 : i = k
        · subst e2; rw [get_put_same] at gk; cases gk; cases lu
        · rw [get_put_ne _ _ _ _ e1] at gj; rw [get_put_ne _ _ _ _ e2] at gk
          exact h.inj j k x y o u hjk ej ek gj gk lo lu
    obj := fun j x o e g => by
      by_cases e1 : i = j
      · subst e1; rw [get_put_same] at g; cases g; trivial
      · rw [get_put_ne _ _ _ _ e1] at g; exact h.obj j x o e g
    prs := h.prs, blk := h.blk }

/-- the block of a number that is given up is taken over by a new one -/
theorem HR.takeover (h : HR P B w0 pr β H w) {i : Nat} {x y : Nat × Nat × Nat} {u : AObj} (hi : β i = some x) (hg : H.get i = some u) (hl : live u = true) {w' : World}
    (hxy : y.1 = x.1) (hb : Below B w w') (hsame : ∀ k, k ≠ x.1 → w'.heap[k]? = w.heap[k]?) (hsz : w'.heap.size = w.heap.size) {o : AObj} (ho : OR P B pr (β.add H.nx y) o y w') :
    HR P B w0 pr (β.add H.nx y) ((H.put i .gone).push o) w' := by
  have ext := β.add_ext H.nx y h.none_nx
  have hin : i < H.nx := h.dom _ _ hi
  have old : ∀ j z, (β.add H.nx y) j = some z → j ≠ H.nx → β j = some z := fun j z e hj => by rw [Beta.add_ne _ _ _ _ hj] at e; exact e
  have hpr := h.not_pr hi hg hl
  have gold : ∀ j, j ≠ H.nx → ((H.put i .gone).push o).get j = (H.put i .gone).get j := fun j hj => get_push_ne _ _ _ (by simpa using hj)
  have gnew : ((H.put i .gone).push o).get H.nx = some o := get_push_same (H.put i .gone) o
  have keepLive : ∀ j z v, β j = some z → (H.put i .gone).get j = some v → live v = true → z.1 ≠ x.1 ∧ H.get j = some v := by
    intro j z v e g lv
    by_cases e1 : i = j
    · subst e1; rw [get_put_same] at g; cases g; cases lv
    · rw [get_put_ne _ _ _ _ e1] at g
      exact ⟨Ne.symm (h.inj i j x z u v e1 hi e hg g hl lv), g⟩
  refine { below := h.below.trans hb, base := by rw [hsz]; exact h.base, dom := fun j z e => ?_, free := fun j hj => ?_, inj := ?_, obj := fun j z v e g => ?_, prs := fun d hd => ?_, blk := fun j z e => ?_ }
  · by_cases hj : j = H.nx
    · subst hj; simp
    · exact Nat.lt_succ_of_lt (h.dom _ _ (old j z e hj))
  · simp at hj
    rw [gold _ (by omega), get_put_ne _ _ _ _ (by omega)]; exact h.free j (by omega)
  · intro j k z z' v v' hjk ej ek gj gk lv lv'
    by_cases e1 : j = H.nx
    · subst e1
      rw [Beta.add_same] at ej; cases ej
      have hk : k ≠ H.nx := fun e => hjk e.symm
      rw [gold _ hk] at gk
      rw [hxy]; exact Ne.symm (keepLive k z' v' (old k z' ek hk) gk lv').1
    · by_cases e2 : k = H.nx
      · subst e2
        rw [Beta.add_same] at ek; cases ek
        rw [gold _ e1] at gj
        rw [hxy]; exact (keepLive j z v (old j z ej e1) gj lv).1
      · rw [gold _ e1] at gj
        rw [gold _ e2] at gk
        exact h.inj j k z z' v v' hjk (old j z ej e1) (old k z' ek e2) (keepLive j z v (old j z ej e1) gj lv).2 (keepLive k z' v' (old k z' ek e2) gk lv').2 lv lv'
  · by_cases hj : j = H.nx
    · subst hj
      rw [Beta.add_same] at e; cases e
      rw [gnew] at g; cases g
      exact ho
    · rw [gold _ hj] at g
      have hb' := old j z e hj
      cases lv : live v with
      | false => cases v <;> first | trivial | (simp [live] at lv)
      | true =>
        obtain ⟨a, b⟩ := keepLive j z v hb' g lv
        exact ((h.obj j z v hb' b).of_block (hsame _ a)).mono ext
  · have := h.prs d hd
    exact ⟨this.1, (hsame d (fun e => hpr (e ▸ hd))).trans this.2⟩
  · rw [hsz]
    by_cases hj : j = H.nx
    · subst hj; rw [Beta.add_same] at e; cases e; rw [hxy]; exact h.blk i x hi
    · exact h.blk j z (old j z e hj)

/-- the model's append where a new array is made -/
theorem run_append_new {t t2 e : TypeId} {es by_ : Nat} (ht : P.underlying t = some (.slice e)) {e2 : TypeId} (ht2 : P.underlying t2 = some (.slice e2)) (hn : usz P e = some es) (hby : uby P e = some by_)
    {i : TypeInfo} {zv : Value} (hi : P.info? e = some i) (hz : i.zero = some zv) (hzs : zv.cells.size = es) (hes : 1 ≤ es) (hby1 : 1 ≤ by_) (rt : TypeId) {base : Option Addr} {len c n : Nat} {x : Value} {w : World}
    (hx : (Builtin.lenOf x).run P w = .ok n w) (hneed : ¬ (len + n ≤ c)) (hmost : (len + n + 1) * by_ ≤ most) {old new : Array Value}
    (ho : (Builtin.firstCells es len (.slice base len c)).run P w.drew = .ok old w.drew) (hw : (Builtin.firstCells es n x).run P w.drew = .ok new w.drew) :
    ∃ cap' rest, len + n ≤ cap' ∧ rest.size = (cap' - (len + n)) * es ∧
      (Builtin.append_ #[t, t2] rt #[.slice base len c, x]).run P w = .ok (.slice (some ⟨w.heap.size, 0, none⟩) (len + n) cap') (w.drew.alloc (.cells (old ++ new ++ rest) e)) := by
  have hti : ∀ w, (typeInfo e).run P w = .ok i w := fun w => run_typeInfo hi
  have hbi : i.bytes = by_ := by unfold uby at hby; rw [hi] at hby; simpa using hby
  have hnc := nextcap_le (need := len + n) (old := c) (by omega)
  unfold most at hmost
  have hb1 : ¬ (Builtin.nextslicecap (len + n) c * by_ > 2 ^ 48) := by
    have h1 : Builtin.nextslicecap (len + n) c * by_ ≤ (2 * (len + n) + 192) * by_ := Nat.mul_le_mul_right _ hnc
    have h2 : (2 * (len + n) + 192) * by_ ≤ 192 * ((len + n + 1) * by_) := by
      rw [← Nat.mul_assoc]; exact Nat.mul_le_mul_right _ (by omega)
    have h3 : 192 * ((len + n + 1) * by_) ≤ 192 * 1099511627776 := Nat.mul_le_mul_left _ hmost
    omega
  refine ⟨(len + n) + w.tape w.drawn (.appendCap (len + n) c e) % (2 ^ 63 - (len + n)), Builtin.zeroCells zv.cells (w.tape w.drawn (.appendCap (len + n) c e) % (2 ^ 63 - (len + n))), Nat.le_add_right _ _, ?_, ?_⟩
  · simp [Builtin.zeroCells, hzs]
  · have hcut : (Question.appendCap (len + n) c e).cut (w.tape w.drawn (.appendCap (len + n) c e)) = (len + n) + w.tape w.drawn (.appendCap (len + n) c e) % (2 ^ 63 - (len + n)) := rfl
    have hz1 : ¬ (((len + n : Nat) : Int) > IntKind.i64.max ∧ (False ∨ by_ = 0)) := by rintro ⟨_, h | h⟩ <;> first | exact h | omega
    simp only [Builtin.append_, List.getElem?_toArray, List.getElem?_cons_zero, List.getElem?_cons_succ, Sem.run_bind, run_underlying ht, run_underlying ht2, Result.andThen_ok, run_sizeOf hn, Sem.run_pure, Bool.false_eq_true, if_false, hx, if_neg hneed,
      hti, hbi, if_neg hz1, if_neg hb1, run_choose, Question.forced, World.drew_eq, run_askRoom, ho, Bool.not_false, if_true, hw, run_zeroValue hi hz, hcut, Nat.add_sub_cancel_left, run_newRow, World.size_drew]

theorem append_sound (h : HR P B w0 pr β H w) {t t2 e e2 : TypeId} {es by_ : Nat} (ht : P.underlying t = some (.slice e)) (ht2 : P.underlying t2 = some (.slice e2)) (hn : usz P e = some es) (hby : uby P e = some by_)
    {z : List AV} (hz : uze P e = some z) (hzn : z.length = es) (rt : TypeId) {s x : AV} {us ux : Value} (hs : VR β s us) (hx : VR β x ux) :
    SoundV P B w0 pr β H w (Builtin.append_ #[t, t2] rt #[us, ux]) (appendOp es by_ s x H) := by
  intro v H' eq
  obtain ⟨i, zv, z1, z2, z3⟩ := scalVs_zero (β := β) hz
  have hzs : zv.cells.size = es := by have := z3.length; simp at this; omega
  unfold appendOp at eq
  split at eq <;> first | cases eq | skip
  rename_i n hln
  split at eq <;> first | cases eq | skip
  rename_i new hnew
  split at eq <;> first | cases eq | skip
  rename_i hck
  simp only [Bool.and_eq_true] at hck
  obtain ⟨⟨hall, hes⟩, hb1⟩ := hck
  have hes := Nat.le_of_ble_eq_true hes
  have hb1 := Nat.le_of_ble_eq_true hb1
  obtain ⟨k1, _⟩ := lenOf_run (P := P) (w := w) hx hln
  have k1d := (lenOf_run (P := P) (w := w.drew) hx hln).1
  have hnewlen := firstCells_len hnew
  obtain ⟨nc, k2, k3⟩ := firstCells_run h hx hnew
  obtain ⟨ncd, k2d, k3d⟩ := firstCells_run h.drew hx hnew
  have hd := h.drew
  -- a new array: whatever the old cells
  have mkNew : ∀ {base : Option Addr} {len c : Nat} {old : List AV} {oc : Array Value} {H1 : AHeap} {r : AV × AHeap}, HR P B w0 pr β H1 w.drew → H1.nx = H.nx → ¬ (len + n ≤ c) → old.length = len * es →
      (Builtin.firstCells es len (.slice base len c)).run P w.drew = .ok oc w.drew → VRs β old oc.toList → appNew (len + n) es by_ (old ++ new) H1 = some r →
      ∃ u w' β', (Builtin.append_ #[t, t2] rt #[.slice base len c, ux]).run P w = .ok u w' ∧ Ex H β r.2 β' ∧ HR P B w0 pr β' r.2 w' ∧ VR β' r.1 u := by
    intro base len c old oc H1 r hH1 hnx hneed holdlen hrun hold hap
    unfold appNew at hap
    split at hap <;> cases hap
    rename_i hmost
    have hmost := Nat.le_of_ble_eq_true hmost
    obtain ⟨cap', rest, g1, g2, g3⟩ := run_append_new ht ht2 hn hby z1 z2 hzs hes hb1 rt k1 hneed hmost hrun k2d
    have ho1 := hold.length
    have hn1 := k3d.length
    simp only [Array.length_toList] at ho1 hn1
    have hboth := hold.append k3d
    have hlay := hH1.lay' (cs := old ++ new) (c := oc ++ ncd ++ rest) e (by simp; omega) (fun k v hk => by
      obtain ⟨u, a, b⟩ := hboth.get k v hk
      refine ⟨u, ?_, b⟩
      have hlt : k < (oc ++ ncd).size := by
        have := (List.getElem?_eq_some_iff.1 a).1; simp at this; simpa using this
      rw [Array.getElem?_append_left hlt]
      rw [← Array.getElem?_toList, Array.toList_append]; exact a)
    refine ⟨_, _, _, g3, ⟨by simp; omega, fun i hi => Beta.add_ne _ _ _ _ (by omega)⟩, hlay, ?_⟩
    have hsz : (oc ++ ncd ++ rest).size = cap' * es := by
      have e1 : (cap' - (len + n)) * es + (len + n) * es = cap' * es := by rw [← Nat.add_mul, Nat.sub_add_cancel g1]
      have e2 : (len + n) * es = len * es + n * es := Nat.add_mul ..
      simp
      omega
    exact .sl _ _ _ _ _ _ w.heap.size 0 _ 0 cap' (Beta.add_same ..) (Nat.le_refl _) g1 (fun h => by cases h) (.inr rfl) (by rw [hsz]; omega)
  unfold appTo at eq
  split at eq
  · split at eq
    · rename_i hn0
      cases eq
      have hn0 := Nat.eq_of_beq_eq_true hn0
      subst hn0
      cases hs
      refine ⟨.slice none 0 0, w, β, ?_, Ex.refl _ β, h, .nilsl⟩
      simp only [Builtin.append_, List.getElem?_toArray, List.getElem?_cons_zero, List.getElem?_cons_succ, Sem.run_bind, run_underlying ht, run_underlying ht2, Result.andThen_ok, run_sizeOf hn, Sem.run_pure, Bool.false_eq_true, if_false, k1,
        Nat.add_zero, Nat.le_refl, if_true, Bool.not_false, k2]
    · rename_i hn0
      cases hs
      have hn0 : n ≠ 0 := fun e => hn0 (by subst e; rfl)
      have := mkNew (base := none) (len := 0) (c := 0) (old := []) (oc := #[]) (H1 := H) (r := (v, H')) hd rfl (by omega) (by simp) (by simp [Builtin.firstCells]) .nil (by simpa using eq)
      simpa using this
  · rename_i i0 off len cap es' ex
    split at eq <;> first | cases eq | skip
    rename_i hes'
    obtain rfl := Nat.eq_of_beq_eq_true hes'
    cases hs with
    | sl _ _ _ _ _ _ b s0 zz o c hi1 hlc hcap hex ho hzz =>
    split at eq
    · rename_i hfit
      have hfit := Nat.le_of_ble_eq_true hfit
      have hneed : len + n ≤ c := by omega
      have hrun : ∀ w', (storeCells ((⟨b, o, none⟩ : Addr).add (len * es)) nc.toList).run P w = .ok () w' →
          (Builtin.append_ #[t, t2] rt #[.slice (some ⟨b, o, none⟩) len c, ux]).run P w = .ok (.slice (some ⟨b, o, none⟩) (len + n) c) w' := by
        intro w' hw'
        simp only [Builtin.append_, List.getElem?_toArray, List.getElem?_cons_zero, List.getElem?_cons_succ, Sem.run_bind, run_underlying ht, run_underlying ht2, Result.andThen_ok, run_sizeOf hn, Sem.run_pure, Bool.false_eq_true, if_false, k1,
          if_pos hneed, Bool.not_false, if_true, k2, hw']
      unfold appIn at eq
      split at eq
      · cases eq
        have hn0 : n = 0 := by
          have hz0 : n * es = 0 := hnewlen.symm
          rcases Nat.mul_eq_zero.1 hz0 with h | h
          · exact h
          · omega
        subst hn0
        have hnc : nc.toList = [] := by
          cases hcl : nc.toList with
          | nil => rfl
          | cons x xs => rw [hcl] at k3; cases k3
        refine ⟨_, w, β, hrun w (by rw [hnc]; rfl), Ex.refl _ β, h, .sl _ _ _ _ _ _ b s0 zz o c hi1 hlc hcap hex ho hzz⟩
      · rename_i hne
        split at eq <;> cases eq
        rename_i H2 hst
        have hn0 : n ≠ 0 := by
          rintro rfl
          exact hne (List.length_eq_zero_iff.1 (by rw [hnewlen]; simp))
        have hc0 : c ≠ 0 := by omega
        obtain rfl := ho.resolve_left hc0
        obtain ⟨w', g1, g2⟩ := stores_sound h hi1 k3 hall hst
        refine ⟨_, w', β, hrun w' (by rw [add_off, Nat.add_assoc]; exact g1), Ex.same β (store_nx hst), g2, .sl _ _ _ _ _ _ b s0 zz _ c hi1 (by omega) hcap hex (.inr rfl) hzz⟩
    · rename_i hfit
      have hfit : ¬ (len + n ≤ cap) := fun e => hfit (Nat.ble_eq_true_of_le e)
      split at eq <;> first | cases eq | skip
      rename_i cs st hg
      obtain ⟨cc0, ty, fz, o1, o2, o3, o4, o5⟩ := h.obj _ _ _ hi1 hg
      simp only at o1 o2 o3 o4 o5
      unfold appOut at eq
      split at eq <;> first | cases eq | skip
      rename_i old hold
      obtain ⟨r1, r2, r3⟩ := rangeOf_get _ _ _ _ hold
      -- the old cells, read
      have oldrun : ∃ oc : Array Value, (Builtin.firstCells es len (.slice (some ⟨b, o, none⟩) len c)).run P w.drew = .ok oc w.drew ∧ VRs β old oc.toList := by
        have hf : firstCells H es len (.sl i0 off len cap es ex) = some old := by
          show (if (Nat.ble len len && Nat.beq es es) = true then H.load i0 off (len * es) else none) = some old
          rw [if_pos (by rw [Nat.ble_eq_true_of_le (Nat.le_refl len), Nat.beq_refl]; rfl)]
          unfold AHeap.load
          rw [hg]; exact hold
        exact firstCells_run hd (.sl _ _ _ _ _ _ b s0 zz o c hi1 hlc hcap hex ho hzz) hf
      obtain ⟨oc, p1, p2⟩ := oldrun
      split at eq
      · have hcc : c = cap := hex rfl
        exact mkNew hd rfl (by omega) r1 p1 p2 eq
      · split at eq <;> first | cases eq | skip
        split at eq <;> first | cases eq | skip
        rename_i hfull
        simp only [Bool.and_eq_true] at hfull
        have hlcap := Nat.eq_of_beq_eq_true hfull.1
        have hend := Nat.eq_of_beq_eq_true hfull.2
        subst hlcap
        have hin : i0 < H.nx := h.dom _ _ hi1
        by_cases hneed : len + n ≤ c
        · -- there is room: the elder array goes on
          unfold appNew at eq
          split at eq <;> cases eq
          have hn0 : n ≠ 0 := by omega
          have hc0 : c ≠ 0 := by omega
          obtain rfl := ho.resolve_left hc0
          obtain ⟨hB, rfl⟩ := o5 rfl
          have nl := k3.length
          simp only [Array.length_toList] at nl
          have hroom : (len + n) * es ≤ c * es := Nat.mul_le_mul_right _ hneed
          have hadd : (len + n) * es = len * es + n * es := Nat.add_mul ..
          obtain ⟨w', q1, q2, q3, q4, q5⟩ := run_stores (P := P) b (s0 + off + len * es) nc.toList (allCells_mem k3 hall) 0 w cc0 ty o1 (by simp; omega)
          obtain ⟨f1, f2⟩ := foldl_set_get nc.toList (s0 + off + len * es) 0 cc0 (by simp; omega)
          have ext := β.add_ext _ (b, s0 + off, zz) h.none_nx
          have key := h.takeover (y := (b, s0 + off, zz)) hi1 hg rfl (w' := w') rfl (q5 B hB) q3 q4 (o := .cells (old ++ new) .own) (by
            refine ⟨_, ty, (0, 0), q2, by rw [f1]; exact o2, by simp; omega, fun k v hk => ?_, fun _ => ⟨hB, rfl⟩⟩
            simp only
            rw [f2]
            by_cases hk1 : k < old.length
            · rw [List.getElem?_append_left hk1, r3 k (by omega)] at hk
              rw [if_neg (by omega)]
              obtain ⟨u, a, bb⟩ := o4 _ _ hk
              exact ⟨u, by rw [Nat.add_assoc]; exact a, bb.mono ext⟩
            · rw [List.getElem?_append_right (by omega)] at hk
              have hk2 : k - old.length < new.length := (List.getElem?_eq_some_iff.1 hk).1
              obtain ⟨u, a, bb⟩ := k3.get _ _ hk
              rw [if_pos (by simp; omega)]
              exact ⟨u, by rw [show s0 + off + k - (s0 + off + len * es + 0) = k - old.length from by omega]; exact a, bb.mono ext⟩)
          refine ⟨.slice (some ⟨b, s0 + off, none⟩) (len + n) c, w', _, ?_, new_ext rfl _, key, .sl _ _ _ _ _ _ b (s0 + off) zz _ c (Beta.add_same ..) (Nat.le_refl _) hneed (fun h => by cases h) (.inr (by omega)) (by omega)⟩
          simp only [Builtin.append_, List.getElem?_toArray, List.getElem?_cons_zero, List.getElem?_cons_succ, Sem.run_bind, run_underlying ht, run_underlying ht2, Result.andThen_ok, run_sizeOf hn, Sem.run_pure, Bool.false_eq_true, if_false, k1,
            if_pos hneed, Bool.not_false, if_true, k2, add_off, q1]
        · exact mkNew (hd.gone i0 hin) rfl hneed r1 p1 p2 eq
  · cases eq

end
end Go.AM
/- Every operation that is no call of a function. -/
namespace Go.AM
open Go Go.RowKit

section
variable {P : Program} {B : Nat} {w0 : World} {pr : List Nat} {β : Beta} {H : AHeap} {w : World}

def SoundN (P : Program) (B : Nat) (w0 : World) (pr : List Nat) (β : Beta) (H : AHeap) (w : World) (s : Sem Next) (r : Option (AV × AHeap)) : Prop :=
  ∀ v H', r = some (v, H') → ∃ nx w' β', s.run P w = .ok nx w' ∧ (nx = .skip ∧ v = .undef ∨ ∃ u, nx = .value u ∧ VR β' v u) ∧ Ex H β H' β' ∧ HR P B w0 pr β' H' w'

theorem SoundV.next {s : Sem Value} {r : Option (AV × AHeap)} (h : SoundV P B w0 pr β H w s r) : SoundN P B w0 pr β H w (do pure (.value (← s))) r := by
  intro v H' e
  obtain ⟨u, w', β', h1, h2, h3, h4⟩ := h v H' e
  exact ⟨.value u, w', β', by simp only [Sem.run_bind, h1, Result.andThen_ok, Sem.run_pure], .inr ⟨u, rfl, h4⟩, h2, h3⟩
theorem SoundU.next {s : Sem Unit} {r : Option (AV × AHeap)} (h : SoundU P B w0 pr β H w s r) : SoundN P B w0 pr β H w (do s; pure .skip) r := by
  intro v H' e
  obtain ⟨hv, w', β', h1, h2, h3⟩ := h v H' e
  exact ⟨.skip, w', β', by simp only [Sem.run_bind, h1, Result.andThen_ok, Sem.run_pure], .inl ⟨rfl, hv⟩, h2, h3⟩
theorem soundN_none {s : Sem Next} : SoundN P B w0 pr β H w s none := fun _ _ e => by cases e
theorem PureV.next (h : HR P B w0 pr β H w) {s : Sem Value} {r : Option AV} (hs : PureV P w β s r) : SoundN P B w0 pr β H w (do pure (.value (← s))) (ret H r) := (hs.sound h).next

theorem evs_rel {e : AX → AV} {ρ : Operand → Value} : ∀ {l : List Operand}, (∀ x, x ∈ l → VR β (e (cx x)) (ρ x)) → VRs β (evs e (cxs l)) (l.map ρ)
  | [], _ => .nil
  | x :: l, h => .cons _ _ _ _ (h x (List.mem_cons_self ..)) (evs_rel fun y hy => h y (List.mem_cons_of_mem _ hy))
theorem optE_rel {e : AX → AV} {ρ : Operand → Value} {o : Option Operand} (h : ∀ x, o = some x → VR β (e (cx x)) (ρ x)) : OR1 β (optE e (cxo o)) (o.map ρ) := by
  cases o with
  | none => exact .none
  | some x => exact .some _ _ (h x rfl)

theorem builtin_run (ρ : Operand → Value) (c : Call) (t : TypeId) {b : Builtin} (hb : c.callee = .builtin b) :
    ∃ consts, (do let d ← resolve ρ c t; invoke d.target d.args : Sem Next) = builtin b c.argTypes t consts (c.args.map ρ) := by
  obtain ⟨callee, args, argTypes⟩ := c
  simp only at hb
  subst hb
  exact ⟨_, rfl⟩

theorem ccall_sound (h : HR P B w0 pr β H w) (e : AX → AV) (ρ : Operand → Value) (c : Call) (t : TypeId) (hρ : ∀ x, x ∈ c.operands.toList → VR β (e (cx x)) (ρ x)) :
    SoundN P B w0 pr β H w (do let d ← resolve ρ c t; invoke d.target d.args) (evalOp e (ccall P c) H) := by
  unfold ccall
  split
  · exact soundN_none
  · exact soundN_none
  · exact soundN_none
  · rename_i b hb
    obtain ⟨consts, hc⟩ := builtin_run ρ c t hb
    rw [hc]
    have hargs : ∀ x, x ∈ c.args.toList → VR β (e (cx x)) (ρ x) := fun x hx => hρ x (by simp [Call.operands, hb]; simpa using hx)
    have hall : VRs β (evs e (cxs c.args.toList)) (c.args.map ρ).toList := by
      have := evs_rel hargs
      simpa using this
    split
    · rename_i x ty ha ht
      have ha' : c.args = #[x] := Array.ext' (by simpa using ha)
      have ht' : c.argTypes = #[ty] := Array.ext' (by simpa using ht)
      have hm : (#[x] : Array Operand).map ρ = #[ρ x] := by simp
      rw [ha', ht', hm]
      have hx : VR β (e (cx x)) (ρ x) := hargs x (by rw [ha]; simp)
      split
      · exact (len_sound true (if_pos rfl ▸ (by assumption : P.underlying ty = some .string)) hx t).next h
      · exact (len_sound false (by exact ⟨_, ‹_›⟩) hx t).next h
      · exact soundN_none
    · rename_i s x ty ty2 ha ht
      have ha' : c.args = #[s, x] := Array.ext' (by simpa using ha)
      have ht' : c.argTypes = #[ty, ty2] := Array.ext' (by simpa using ht)
      have hm : (#[s, x] : Array Operand).map ρ = #[ρ s, ρ x] := by simp
      rw [ha', ht', hm]
      have hs : VR β (e (cx s)) (ρ s) := hargs s (by rw [ha]; simp)
      have hx : VR β (e (cx x)) (ρ x) := hargs x (by rw [ha]; simp)
      split
      · rename_i el el2 g1 g2
        split
        · rename_i n1 b1 z1 g3 g4 g5
          split
          · rename_i g6
            exact (append_sound h g1 g2 g3 g4 g5 g6 t hs hx).next
          · exact soundN_none
        · exact soundN_none
      · exact soundN_none
    · rename_i d s ty ty2 ha ht
      have ha' : c.args = #[d, s] := Array.ext' (by simpa using ha)
      have ht' : c.argTypes = #[ty, ty2] := Array.ext' (by simpa using ht)
      have hm : (#[d, s] : Array Operand).map ρ = #[ρ d, ρ s] := by simp
      rw [ha', ht', hm]
      have hd : VR β (e (cx d)) (ρ d) := hargs d (by rw [ha]; simp)
      have hs : VR β (e (cx s)) (ρ s) := hargs s (by rw [ha]; simp)
      split
      · split
        · exact (copy_sound h ‹_› ‹_› t hd hs).next
        · exact soundN_none
      · exact soundN_none
    · rename_i x ty ha ht
      have ha' : c.args = #[x] := Array.ext' (by simpa using ha)
      have ht' : c.argTypes = #[ty] := Array.ext' (by simpa using ht)
      have hm : (#[x] : Array Operand).map ρ = #[ρ x] := by simp
      rw [ha', ht', hm]
      have hx : VR β (e (cx x)) (ρ x) := hargs x (by rw [ha]; simp)
      split
      · split
        · split
          · exact (clear_sound h ‹_› ‹_› t hx).next
          · exact soundN_none
        · exact soundN_none
      · exact soundN_none
    · exact (max_sound hall _ t).next h
    · exact (min_sound hall _ t).next h
    · exact soundN_none

theorem cbin_sound (h : HR P B w0 pr β H w) (e : AX → AV) (ρ : Operand → Value) (op : BinOp) (t : TypeId) (x y : Operand) (hx : VR β (e (cx x)) (ρ x)) (hy : VR β (e (cx y)) (ρ y)) :
    SoundN P B w0 pr β H w (do pure (.value (← (do eqGuard op t x y (ρ x) (ρ y); Go.binOp op t (ρ x) (ρ y))))) (evalOp e (cbin P op t x y) H) := by
  have plain : SoundN P B w0 pr β H w (do pure (.value (← (do eqGuard op t x y (ρ x) (ρ y); Go.binOp op t (ρ x) (ρ y))))) (evalOp e (.bin op (cx x) (cx y)) H) :=
    (bin_sound op t x y hx hy).next h
  have eqs : ∀ (neg : Bool) (k : EqK), eqKind P t = some k → op = (if neg then .neq else .eql) →
      SoundN P B w0 pr β H w (do pure (.value (← (do eqGuard op t x y (ρ x) (ρ y); Go.binOp op t (ρ x) (ρ y))))) (evalOp e (.eqv neg k (cx x) (cx y)) H) := by
    intro neg k hk ho
    subst ho
    exact (eqv_sound neg hk x y hx hy).next h
  unfold cbin
  cases op <;> first | exact plain | skip
  all_goals
    simp only
    split
    · exact plain
    · exact plain
    · exact eqs _ _ (by unfold eqKind; simp only [*]) rfl
    · exact eqs _ _ (by unfold eqKind; simp only [*]) rfl
    · exact eqs _ _ (by unfold eqKind; simp only [*]) rfl
    · exact eqs _ _ (by unfold eqKind; simp only [*]) rfl
    · exact eqs _ _ (by unfold eqKind; simp only [*]) rfl
    · exact soundN_none

theorem evalOp_sound (h : HR P B w0 pr β H w) (e : AX → AV) (ρ : Operand → Value) (o : Oper) (hρ : ∀ x, x ∈ o.op.operands.toList → VR β (e (cx x)) (ρ x)) :
    SoundN P B w0 pr β H w (execOp ρ o) (evalOp e (cop P o) H) := by
  obtain ⟨dst, op, type, pos, after, guard⟩ := o
  simp only at hρ
  have mem : ∀ {x : Operand}, x ∈ op.operands → VR β (e (cx x)) (ρ x) := fun hx => hρ _ (by simpa using hx)
  cases op <;> simp only [Op.operands] at mem <;> simp only [cop, execOp]
  case move x =>
    intro v H' eq; cases eq
    exact ⟨_, w, β, rfl, .inr ⟨_, rfl, mem (by simp)⟩, Ex.refl _ β, h⟩
  case assign x =>
    intro v H' eq; cases eq
    exact ⟨_, w, β, rfl, .inr ⟨_, rfl, mem (by simp)⟩, Ex.refl _ β, h⟩
  case pick c x y =>
    intro v H' eq
    have hc := mem (x := c) (by simp)
    simp only [evalOp, opPick] at eq
    cases hv : asB (e (cx c)) with
    | none => rw [hv] at eq; cases eq
    | some b =>
      rw [hv] at eq
      have hb : ρ c = .bool b := by
        cases hec : e (cx c) <;> rw [hec] at hv <;> simp only [asB] at hv <;> first | (cases hv; done) | skip
        cases hv
        rw [hec] at hc
        exact vr_bool hc
      cases b
      · cases eq
        exact ⟨.value (ρ y), w, β, by simp [hb, asBool], .inr ⟨_, rfl, mem (by simp)⟩, Ex.refl _ β, h⟩
      · cases eq
        exact ⟨.value (ρ x), w, β, by simp [hb, asBool], .inr ⟨_, rfl, mem (by simp)⟩, Ex.refl _ β, h⟩
  case alloc t =>
    split
    · exact (alloc_sound h ‹_› _).next
    · exact soundN_none
  case box t x => exact (box_sound h t (mem (by simp))).next
  case build t ps =>
    have hp : ∀ p, p ∈ ps.toList → VR β (e (cx p.2)) (ρ p.2) := fun p hp => mem (by simp; exact ⟨p.1, by simpa using hp⟩)
    split
    · split
      · split
        · exact (buildS_sound h ‹_› ‹_› (fun f hf => List.all_eq_true.1 ‹_› f hf) e ρ ps ‹_› hp).next
        · exact soundN_none
      · exact soundN_none
    · split
      · split
        · exact (buildA_sound h ‹_› ‹_› ‹_› e ρ ps ‹_› hp).next
        · exact soundN_none
      · exact soundN_none
    · exact soundN_none
  case buildSlice t len ps =>
    have hp : ∀ p, p ∈ ps.toList → VR β (e (cx p.2)) (ρ p.2) := fun p hp => mem (by simp; exact ⟨p.1, by simpa using hp⟩)
    split
    · split
      · split
        · rename_i hc
          split
          · exact (bslice_sound h ‹_› ‹_› ‹_› hc.1 hc.2.1 hc.2.2 e ρ ps ‹_› hp).next
          · exact soundN_none
        · exact soundN_none
      · exact soundN_none
    · exact soundN_none
  case load t x =>
    split
    · exact (load_sound h ‹_› (fun _ => ‹_›) (fun h => by cases h) (mem (by simp))).next
    · exact (load_sound h ‹_› (fun h => by cases h) (fun _ => rfl) (mem (by simp))).next
    · exact soundN_none
  case store t x y =>
    split
    · exact (store_sound h ‹_› (mem (by simp)) (mem (by simp))).next
    · exact soundN_none
  case nilCheck x =>
    intro v H' eq
    obtain ⟨h1, h2, h3⟩ := nilchk_sound (H := H) h (mem (x := x) (by simp)) eq
    subst h1; subst h2
    have hx := mem (x := x) (by simp)
    rcases h3 with ⟨a, ha⟩ | ⟨f, fi, ca, ha⟩
    · rw [ha] at hx ⊢
      exact ⟨.value (.pointer (some a)), w, β, rfl, .inr ⟨_, rfl, hx⟩, Ex.refl _ β, h⟩
    · rw [ha] at hx ⊢
      exact ⟨.value (.func (.func f) fi ca), w, β, rfl, .inr ⟨_, rfl, hx⟩, Ex.refl _ β, h⟩
  case binOp op t x y yt => exact cbin_sound h e ρ op t x y (mem (by simp)) (mem (by simp))
  case unOp op t x => exact (un_sound op (mem (by simp))).next h
  case convert src dst x =>
    split
    · exact (convI_sound ‹_› ‹_› (mem (by simp))).next h
    · exact soundN_none
  case makeInterface t x =>
    split
    · exact soundN_none
    · rename_i d hn hd
      exact (mkif_sound hd (fun ms hm => hn ms hm) (mem (by simp))).next h
    · exact soundN_none
  case makeFunc fn first cap =>
    cases fn <;> simp only <;> first | exact soundN_none | skip
    intro v H' eq; cases eq
    refine ⟨_, w, β, rfl, .inr ⟨_, rfl, .fn _ _ _ _ _ ?_ ?_⟩, Ex.refl _ β, h⟩
    · have := evs_rel (e := e) (ρ := ρ) (β := β) (l := first.toList) fun x hx => mem (by simp; exact .inl (by simpa using hx))
      simpa using this
    · have := evs_rel (e := e) (ρ := ρ) (β := β) (l := cap.toList) fun x hx => mem (by simp; exact .inr (by simpa using hx))
      simpa using this
  case makeMap t r =>
    cases r <;> simp only <;> first | exact soundN_none | skip
    split
    · split
      · exact (mkmap_sound h t _).next
      · exact (mkmap_sound h t _).next
    · exact soundN_none
  case makeSlice t l c =>
    split
    · split
      · split
        · rename_i hc
          exact (mkslice_sound h ‹_› ‹_› ‹_› ‹_› hc.1 hc.2 (mem (by simp)) (mem (by simp))).next
        · exact soundN_none
      · exact soundN_none
    · exact soundN_none
  case slice t x lo hi mx =>
    have hl : OR1 β (optE e (cxo lo)) (lo.map ρ) := optE_rel fun y hy => mem (by subst hy; simp)
    have hh : OR1 β (optE e (cxo hi)) (hi.map ρ) := optE_rel fun y hy => mem (by subst hy; simp)
    have hm : OR1 β (optE e (cxo mx)) (mx.map ρ) := optE_rel fun y hy => mem (by subst hy; simp)
    split
    · split
      · exact (slice_sound ‹_› ‹_› hl hh hm (mem (by simp))).next h
      · exact soundN_none
    · split
      · exact (slarr_sound h ‹_› ‹_› hl hh hm (mem (by simp))).next
      · exact soundN_none
    · split
      · rename_i hn
        have : mx = none := by simpa using hn
        subst this
        exact (slstr_sound ‹_› hl hh (mem (by simp))).next h
      · exact soundN_none
    · exact soundN_none
  case fieldAddr t x f =>
    split
    · split
      · split
        · exact (faddr_sound ‹_› ‹_› ‹_› (mem (by simp))).next h
        · exact soundN_none
      · exact soundN_none
    · exact soundN_none
  case field t x f =>
    split
    · split
      · split
        · exact (field_sound ‹_› ‹_› ‹_› (fun _ => ‹_›) (fun h => by cases h) (mem (by simp))).next h
        · exact (field_sound ‹_› ‹_› ‹_› (fun h => by cases h) (fun _ => rfl) (mem (by simp))).next h
        · exact soundN_none
      · exact soundN_none
    · exact soundN_none
  case indexAddr t x i =>
    split
    · split
      · exact (iaddrS_sound ‹_› ‹_› (mem (by simp)) (mem (by simp))).next h
      · exact soundN_none
    · split
      · exact (iaddrA_sound ‹_› ‹_› (mem (by simp)) (mem (by simp))).next h
      · exact soundN_none
    · exact soundN_none
  case index t x i =>
    split
    · split
      · exact (idxA_sound ‹_› ‹_› ‹_› (fun h => by cases h) (mem (by simp)) (mem (by simp))).next h
      · exact (idxA_sound ‹_› ‹_› ‹_› (fun _ => rfl) (mem (by simp)) (mem (by simp))).next h
      · exact soundN_none
    · exact (idxS_sound ‹_› (mem (by simp)) (mem (by simp))).next h
    · exact soundN_none
  case lookup t m k ok =>
    split
    · split
      · split
        · split
          · exact (lookup_sound h ‹_› (keyOf_spec ‹_›) ‹_› ‹_› ‹_› ok (mem (by simp)) (mem (by simp))).next
          · exact soundN_none
        · exact soundN_none
      · exact soundN_none
    · exact soundN_none
  case mapUpdate t m k v =>
    split
    · split
      · exact (mapset_sound h ‹_› (keyOf_spec ‹_›) (mem (by simp)) (mem (by simp)) (mem (by simp))).next
      · exact soundN_none
    · exact soundN_none
  case insert t m k v =>
    split
    · split
      · exact (mapset_sound h ‹_› (keyOf_spec ‹_›) (mem (by simp)) (mem (by simp)) (mem (by simp))).next
      · exact soundN_none
    · exact soundN_none
  case extract x i => exact (extract_sound (mem (by simp)) i).next h
  case call c => exact ccall_sound h e ρ c type (fun x hx => mem (by simpa using hx))
  all_goals exact soundN_none

end
end Go.AM
/- One operation, carried out: calls of functions and of yield among them. -/
namespace Go.AM
open Go Go.RowKit

/-- the fence that lets all by; in a round of loop l: 'some l' -/
def WF (ro : Option Nat) : Fence := { Fence.wide with round := ro }
theorem WF.fn (ro : Option Nat) (f : FuncId) : (WF ro).fn f := trivial
theorem WF.depth (ro : Option Nat) {p : Prop} : (WF ro).depth.isSome = true → p := fun h => by cases h
theorem callsWF {ro ro' : Option Nat} {m : Nat} {P : Program} {f : FuncId} {args : Array Value} {w : World} {R : Ending → World → Prop} (h : CallsIn (WF ro) m P f args w R) : CallsIn (WF ro') m P f args w R := h
theorem roundWF {ro ro' : Option Nat} {m : Nat} {P : Program} {l : Nat} {f : FuncId} {tmps : Array Value} {a b : Code} {w : World} {R : Ending → World → Prop} (h : RoundIn (WF ro) m P l f tmps a b w R) : RoundIn (WF ro') m P l f tmps a b w R := h

def Ret (P : Program) (B : Nat) (w0 : World) (pr : List Nat) (β : Beta) (H : AHeap) (r : AV) (H' : AHeap) (e : Ending) (w' : World) : Prop :=
  ∃ v β', e = .returned v ∧ Ex H β H' β' ∧ HR P B w0 pr β' H' w' ∧ VR β' r v

structure RSound (P : Program) (R : Rec) : Prop where
  fn : ∀ f args H r, R.call f args H = some r → ∃ g c, P.funcs[f]? = some g ∧ g.body = some c ∧ (g.name == "runtime.NumGoroutine") = false
  call : ∀ f args H r H', R.call f args H = some (r, H') → ∀ B w0 pr β w (args' : Array Value) ro m, HR P B w0 pr β H w → pr.Nodup → VRs β args args'.toList →
    CallsIn (WF ro) m P f args' w (Ret P B w0 pr β H r H')
  yld : ∀ i args H r H', R.yld i args H = some (r, H') → ∀ B w0 pr β w (args' : Array Value) ro m b s z, HR P B w0 pr β H w → pr.Nodup → VRs β args args'.toList → β i = some (b, s, z) →
    ∃ fn tmps assign body, (Instr.yield b args').run P w = .ok (.round b fn tmps assign body) w ∧ RoundIn (WF ro) m P b fn tmps assign body w (Ret P B w0 pr β H r H')

def opE (R : Rec) (op : AOp) (e : AX → AV) (H : AHeap) : Option (AV × AHeap) :=
  match op with
  | .call f args => R.call f (evs e args) H
  | .callv x args => callV R (e x) (evs e args) H
  | o => evalOp e o H
theorem oper1_eq (R : Rec) (op : AOp) (T : Fr) (H : AHeap) : oper1 R op T H = opE R op (ev T) H := by cases op <;> rfl

section
variable {P : Program} {R : Rec} {B : Nat} {w0 : World} {pr : List Nat} {β : Beta} {H : AHeap} {w : World}

theorem run_callFunc {f : FuncId} {g : Func} {c : Code} (hf : P.funcs[f]? = some g) (hb : g.body = some c) (hn : (g.name == "runtime.NumGoroutine") = false) (args : Array Value) :
    (callFunc f args).run P w = .ok (.enter f args) w := by
  simp only [callFunc, Sem.run_bind, run_program, Result.andThen_ok, hf, hn, Bool.false_eq_true, if_false, hb, Option.isNone_some, Sem.run_pure]

theorem semAt_of (o : Oper) (ro : Option Nat) (ρ : Operand → Value) (h : cop P o ≠ .bad) : Oper.semAt ro ρ o = execOp ρ o := by
  refine Oper.semAt_eq ro ρ o fun c hc => h ?_
  obtain ⟨dst, op, type, pos, after, guard⟩ := o
  simp only at hc
  subst hc
  rfl

theorem opE_not_bad {op : AOp} {e : AX → AV} {r : AV × AHeap} (h : opE R op e H = some r) : op ≠ .bad := by
  rintro rfl; cases h

/-- what an operation that is a call of a function is -/
theorem ccall_call {c : Call} {f : Nat} {args : List AX} (h : ccall P c = .call f args) : c.callee = .value (.func f) ∧ args = cxs c.args.toList := by
  unfold ccall at h
  split at h <;> first | (cases h; done) | skip
  · cases h; exact ⟨by assumption, rfl⟩
  · (repeat' split at h) <;> cases h
theorem ccall_callv {c : Call} {x : AX} {args : List AX} (h : ccall P c = .callv x args) : ∃ y, c.callee = .value y ∧ x = cx y ∧ args = cxs c.args.toList := by
  unfold ccall at h
  split at h <;> first | (cases h; done) | skip
  · cases h; exact ⟨_, by assumption, rfl, rfl⟩
  · (repeat' split at h) <;> cases h
theorem cbin_call {op : BinOp} {t : TypeId} {x y : Operand} : (∀ f args, cbin P op t x y ≠ .call f args) ∧ ∀ v args, cbin P op t x y ≠ .callv v args := by
  unfold cbin
  constructor <;> intro _ _ h <;> (repeat' split at h) <;> cases h
theorem cop_call {o : Oper} {f : Nat} {args : List AX} (h : cop P o = .call f args) : ∃ c, o.op = .call c ∧ c.callee = .value (.func f) ∧ args = cxs c.args.toList := by
  obtain ⟨dst, op, type, pos, after, guard⟩ := o
  cases op <;> simp only [cop] at h
  case call c => exact ⟨c, rfl, ccall_call h⟩
  case binOp op t x y yt => exact absurd h (cbin_call.1 _ _)
  case makeFunc fn a b => cases fn <;> simp only [cop] at h <;> cases h
  case makeMap t r => cases r <;> simp only [cop] at h <;> (repeat' split at h) <;> cases h
  all_goals ((repeat' split at h) <;> cases h)
theorem cop_callv {o : Oper} {x : AX} {args : List AX} (h : cop P o = .callv x args) : ∃ c y, o.op = .call c ∧ c.callee = .value y ∧ x = cx y ∧ args = cxs c.args.toList := by
  obtain ⟨dst, op, type, pos, after, guard⟩ := o
  cases op <;> simp only [cop] at h
  case call c => obtain ⟨y, h1⟩ := ccall_callv h; exact ⟨c, y, rfl, h1⟩
  case binOp op t x y yt => exact absurd h (cbin_call.2 _ _)
  case makeFunc fn a b => cases fn <;> simp only [cop] at h <;> cases h
  case makeMap t r => cases r <;> simp only [cop] at h <;> (repeat' split at h) <;> cases h
  all_goals ((repeat' split at h) <;> cases h)

theorem op_wp (hR : RSound P R) (h : HR P B w0 pr β H w) (hpr : pr.Nodup) (o : Oper) (a : Act) (e : AX → AV) (hρ : ∀ x, x ∈ o.op.operands.toList → VR β (e (cx x)) (a.eval x)) {v : AV} {H' : AHeap}
    (hop : opE R (cop P o) e H = some (v, H')) (ro : Option Nat) (m : Nat) {next : Act → World → Prop} {Q : Exit → Act → World → Prop}
    (hk : ∀ u w' β', Ex H β H' β' → HR P B w0 pr β' H' w' → VR β' v u → next (a.put o.dst u) w') : o.wpIn (WF ro) m P a w next Q := by
  refine ⟨fun f _ => WF.fn ro f, ?_⟩
  rw [show (WF ro).round = ro from rfl, semAt_of o ro a.eval (opE_not_bad hop)]
  -- the plain ones
  have plain : evalOp e (cop P o) H = some (v, H') → o.uponIn (WF ro) m P a next Q ((execOp a.eval o).run P w) := by
    intro hev
    obtain ⟨nx, w', β', h1, h2, h3, h4⟩ := evalOp_sound h e a.eval o hρ v H' hev
    rw [h1]
    rcases h2 with ⟨rfl, rfl⟩ | ⟨u, rfl, h5⟩
    · exact hk undef w' β' h3 h4 (.undef _)
    · exact hk u w' β' h3 h4 h5
  -- a function entered
  have enter : ∀ (f : Nat) (args : List AV) (args' : Array Value), R.call f args H = some (v, H') → VRs β args args'.toList → (execOp a.eval o).run P w = .ok (.enter f args') w →
      o.uponIn (WF ro) m P a next Q ((execOp a.eval o).run P w) := by
    intro f args args' hc hargs hrun
    rw [hrun]
    refine ⟨WF.depth ro, (hR.call f args H v H' hc B w0 pr β w args' ro (m - 1) h hpr hargs).mono ?_⟩
    rintro e' w' ⟨u, β', rfl, g1, g2, g3⟩
    exact hk u w' β' g1 g2 g3
  cases hc : cop P o with
  | call f args =>
    rw [hc] at hop
    obtain ⟨c, ho, hcal, rfl⟩ := cop_call hc
    obtain ⟨g, b, k1, k2, k3⟩ := hR.fn _ _ _ _ hop
    have hargs : VRs β (evs e (cxs c.args.toList)) (c.args.map a.eval).toList := by
      have := evs_rel (β := β) (e := e) (ρ := a.eval) (l := c.args.toList) fun x hx => hρ x (by rw [ho]; simp [Op.operands, Call.operands, hcal]; exact .inr (by simpa using hx))
      simpa using this
    refine enter f _ (c.args.map a.eval) hop hargs ?_
    obtain ⟨dst, op, type, pos, after, guard⟩ := o
    simp only at ho
    subst ho
    obtain ⟨callee, cargs, cty⟩ := c
    simp only at hcal
    subst hcal
    have : (execOp a.eval { dst := dst, op := .call { callee := .value (.func f), args := cargs, argTypes := cty }, type := type, pos := pos, after := after, guard := guard }) = callFunc f ((#[] ++ cargs.map a.eval) ++ #[]) := rfl
    rw [this, run_callFunc k1 k2 k3]
    simp
  | callv x args =>
    rw [hc] at hop
    obtain ⟨c, y, ho, hcal, rfl, rfl⟩ := cop_callv hc
    simp only [opE] at hop
    have hy : VR β (e (cx y)) (a.eval y) := hρ y (by rw [ho]; simp [Op.operands, Call.operands, hcal])
    have hargs : VRs β (evs e (cxs c.args.toList)) (c.args.map a.eval).toList := by
      have := evs_rel (β := β) (e := e) (ρ := a.eval) (l := c.args.toList) fun x hx => hρ x (by rw [ho]; simp [Op.operands, Call.operands, hcal]; exact .inr (by simpa using hx))
      simpa using this
    obtain ⟨dst, op, type, pos, after, guard⟩ := o
    simp only at ho
    subst ho
    obtain ⟨callee, cargs, cty⟩ := c
    simp only at hcal
    subst hcal
    unfold callV at hop
    split at hop
    · rename_i g first cap heq
      rw [heq] at hy
      cases hy' : a.eval y with
      | func fn fi ca =>
        rw [hy'] at hy
        cases hy with
        | fn _ _ _ _ _ h1 h2 =>
          obtain ⟨g', b, k1, k2, k3⟩ := hR.fn _ _ _ _ hop
          refine enter g _ ((fi ++ cargs.map a.eval) ++ ca) hop ?_ ?_
          · simp only [Array.toList_append]
            rw [List.append_assoc]
            exact h1.append (hargs.append h2)
          · have : (execOp a.eval { dst := dst, op := .call { callee := .value y, args := cargs, argTypes := cty }, type := type, pos := pos, after := after, guard := guard }) =
                (do let d ← Deferred.ofValue (a.eval y) (cargs.map a.eval); invoke d.target d.args) := rfl
            rw [this, hy']
            show Sem.run P (callFunc g ((fi ++ cargs.map a.eval) ++ ca)) w = _
            exact run_callFunc k1 k2 k3 _
      | _ => rw [hy'] at hy; cases hy
    · rename_i i heq
      rw [heq] at hy
      cases hy' : a.eval y with
      | func fn fi ca =>
        rw [hy'] at hy
        cases hy with
        | yld _ b s z hb =>
          obtain ⟨fn, tmps, assign, body, k1, k2⟩ := hR.yld _ _ _ _ _ hop B w0 pr β w (cargs.map a.eval) ro (m - 1) b s z h hpr hargs hb
          have hrun : (execOp a.eval { dst := dst, op := .call { callee := .value y, args := cargs, argTypes := cty }, type := type, pos := pos, after := after, guard := guard }).run P w = .ok (.round b fn tmps assign body) w := by
            have : (execOp a.eval { dst := dst, op := .call { callee := .value y, args := cargs, argTypes := cty }, type := type, pos := pos, after := after, guard := guard }) =
                (do let d ← Deferred.ofValue (a.eval y) (cargs.map a.eval); invoke d.target d.args) := rfl
            rw [this, hy']
            show Sem.run P (Instr.yield b (#[] ++ cargs.map a.eval)) w = _
            simpa using k1
          rw [hrun]
          refine ⟨WF.depth ro, k2.mono ?_⟩
          rintro e' w' ⟨u, β', rfl, g1, g2, g3⟩
          exact hk u w' β' g1 g2 g3
      | _ => rw [hy'] at hy; cases hy
    · cases hop
  | _ =>
    refine plain ?_
    rw [hc] at hop ⊢
    exact hop

end
end Go.AM
/- A region whose order the text gives. -/
namespace Go.AM
open Go Go.RowKit

section
variable {P : Program} {R : Rec} {B : Nat} {w0 : World} {pr : List Nat} {β : Beta} {H : AHeap} {w : World}

/-- the guard, as the abstract machine has it -/
def GuardIs (ops : Array Oper) (o : Oper) (g : Option (List Bool × Bool)) : Prop :=
  (o.guard = none ∧ g = none) ∨ ∃ j b d, o.guard = some (j, b) ∧ (ops[j]?).bind (·.dst) = some d ∧ g = some (path d, b)

theorem coper_spec (N : Nat) (ops : Array Oper) (o : Oper) : coper P N ops o = { dst := none, op := .bad, guard := none } ∨
    ∃ dst g, cdst N o.dst = some dst ∧ coper P N ops o = { dst := dst, op := cop P o, guard := g } ∧ GuardIs ops o g := by
  unfold coper
  split
  · exact .inl rfl
  · rename_i dst hd
    split
    · rename_i hg
      exact .inr ⟨dst, none, hd, rfl, .inl ⟨hg, rfl⟩⟩
    · rename_i j b hg
      split
      · rename_i d hj
        exact .inr ⟨dst, _, hd, rfl, .inr ⟨j, b, d, hg, hj, rfl⟩⟩
      · exact .inl rfl

theorem putD_rel {N : Nat} {T : Fr} {a : Act} (hT : TR β N T a.tmps) {d : Option Tmp} {dst : Option (List Bool)} (hd : cdst N d = some dst) {v : AV} {u : Value} (hv : VR β v u) :
    TR β N (putD dst v T) (a.put d u).tmps := by
  unfold cdst at hd
  split at hd
  · cases hd; exact hT
  · split at hd <;> cases hd
    exact hT.set (by assumption) hv
theorem put_defers (a : Act) (d : Option Tmp) (u : Value) : (a.put d u).defers = a.defers := by cases d <;> rfl

theorem getD_some {tmps : Array Value} {d : Nat} {b : Bool} (h : tmps.getD d undef = .bool b) : tmps[d]? = some (.bool b) := by
  rw [Array.getD_eq_getD_getElem?] at h
  cases e : tmps[d]? with
  | none => rw [e] at h; simp [undef] at h
  | some v => rw [e] at h; simpa using h

theorem asB_rel {v : AV} {u : Value} (h : VR β v u) {b : Bool} (hb : asB v = some b) : u = .bool b := by
  cases v <;> simp only [asB] at hb <;> first | (cases hb; done) | skip
  cases hb
  exact vr_bool h

theorem asW_cases {want : Bool} {v : AV} {c : Bool} (h : asW want v = some c) : v = .bool c ∨ (v = .tup [] ∧ c = !want) := by
  unfold asW at h
  split at h <;> cases h
  · exact .inl rfl
  · exact .inr ⟨rfl, rfl⟩
theorem wants_rel {ops : Array Oper} {o : Oper} {g : Option (List Bool × Bool)} (hg : GuardIs ops o g) {T : Fr} {tmps : Array Value}
    (hT : ∀ j b d, o.guard = some (j, b) → (ops[j]?).bind (·.dst) = some d → VR β (Fr.at_ T (path d)) (tmps.getD d undef)) {b : Bool} (hw : wants g T = some b) :
    Region.wanted o (yielded ops tmps) = b := by
  rcases hg with ⟨h1, rfl⟩ | ⟨j, want, d, h1, h2, rfl⟩
  · simp only [wants, Option.some.injEq] at hw
    simp [Region.wanted, h1, hw]
  · simp only [wants] at hw
    split at hw <;> cases hw
    rename_i c hc
    rcases asW_cases hc with hv | ⟨hv, rfl⟩
    · have h3 := getD_some (asB_rel (hT j want d h1 h2) (b := c) (by rw [hv]; rfl))
      have hy : yielded ops tmps j = some c := by simp [yielded, h2, h3]
      simp only [Region.wanted, h1, hy]
      cases want <;> cases c <;> rfl
    · have h3 := hT j want d h1 h2
      rw [hv] at h3
      have hu : tmps.getD d undef = .tuple #[] := by
        generalize tmps.getD d undef = u at h3
        cases h3 with
        | tup _ c h => 
          have hl : c.toList = [] := by
            generalize c.toList = l at h
            cases h; rfl
          have : c = #[] := by cases c; simp_all
          rw [this]
      have hy : yielded ops tmps j = none := by
        have hb : ∀ b : Bool, tmps[d]? ≠ some (.bool b) := fun b e => by
          have : tmps.getD d undef = .bool b := by rw [Array.getD_eq_getD_getElem?, e]; rfl
          rw [this] at hu; cases hu
        simp only [yielded, h2, Option.bind_some]
      simp only [Region.wanted, h1, hy]
      cases want <;> rfl

theorem ops_wp (hR : RSound P R) (N : Nat) (ops : Array Oper) (ro : Option Nat) (m : Nat) {Q : Exit → Act → World → Prop} : ∀ (l : List Oper) (k : Nat), ops.toList.drop k = l →
    ∀ {T T' : Fr} {H H' : AHeap} {β : Beta} {w : World} {a : Act}, opsRun R (copers P N ops l) T H = some (T', H') → HR P B w0 pr β H w → pr.Nodup → TR β N T a.tmps →
    (∀ β' w' a', Ex H β H' β' → HR P B w0 pr β' H' w' → TR β' N T' a'.tmps → a'.defers = a.defers → Q .normal a' w') →
    wpOpsIn (WF ro) m P ops Q (List.range' k l.length) a w := by
  intro l
  induction l with
  | nil =>
    intro k _ T T' H H' β w a hrun h hpr hT hQ
    simp only [copers, opsRun] at hrun
    cases hrun
    exact hQ β w a (Ex.refl _ β) h hT rfl
  | cons o l ih =>
    intro k hk T T' H H' β w a hrun h hpr hT hQ
    have ho : ops[k]? = some o := by
      have : (ops.toList.drop k)[0]? = some o := by rw [hk]; rfl
      simpa using this
    have hk' : ops.toList.drop (k + 1) = l := by
      rw [← List.drop_drop, hk]; rfl
    simp only [copers, opsRun] at hrun
    split at hrun <;> first | cases hrun | skip
    rename_i T1 H1 h1
    unfold operRun at h1
    simp only [List.length_cons, List.range'_succ, wpOpsIn, ho]
    rcases coper_spec (P := P) N ops o with hbad | ⟨dst, g, hd, hc, hg⟩
    · rw [hbad] at h1
      simp [wants, oper1, evalOp] at h1
    · rw [hc] at h1
      simp only at h1
      split at h1
      · rename_i hw
        have hw' := wants_rel hg (T := T) (tmps := a.tmps) (fun j b d _ _ => hT.2 d) hw
        rw [if_pos hw']
        split at h1 <;> cases h1
        rename_i v hop
        rw [oper1_eq] at hop
        refine op_wp hR h hpr o a (ev T) (fun x _ => eval_rel hT x) hop ro m ?_
        intro u w' β' e1 e2 e3
        refine ih (k + 1) hk' hrun e2 hpr (putD_rel (hT.mono (e1.ext h)) hd e3) ?_
        intro β'' w'' a'' f1 f2 f3 f4
        exact hQ β'' w'' a'' (e1.trans f1) f2 f3 (f4.trans (put_defers ..))
      · rename_i hw
        have hw' := wants_rel hg (T := T) (tmps := a.tmps) (fun j b d _ _ => hT.2 d) hw
        rw [if_neg (by rw [hw']; simp)]
        cases h1
        refine ⟨fun f _ => WF.fn ro f, ih (k + 1) hk' hrun h hpr (putD_rel hT hd (.tup [] #[] .nil)) ?_⟩
        intro β'' w'' a'' f1 f2 f3 f4
        exact hQ β'' w'' a'' f1 f2 f3 (f4.trans (put_defers ..))
      · cases h1

theorem region_wp (hR : RSound P R) (N : Nat) (id : Nat) (ops : Array Oper) (ro : Option Nat) (m : Nat) {Q : Exit → Act → World → Prop} {T T' : Fr} {H H' : AHeap} {a : Act}
    (hrun : opsRun R (copers P N ops ops.toList) T H = some (T', H')) (h : HR P B w0 pr β H w) (hpr : pr.Nodup) (hT : TR β N T a.tmps)
    (hQ : ∀ β' w' a', Ex H β H' β' → HR P B w0 pr β' H' w' → TR β' N T' a'.tmps → a'.defers = a.defers → Q .normal a' w') : (Code.region id ops false).wpIn (WF ro) m P Q a w := by
  refine wpIn_region ?_
  have := ops_wp hR N ops ro m (Q := Q) ops.toList 0 (by simp) hrun h hpr hT hQ
  rw [List.range_eq_range']
  simpa using this

end
end Go.AM
/- Code: the abstract machine's runs are the model's. -/
namespace Go.AM
open Go Go.RowKit

/-- the mark that a range over a function leaves among the deferred calls -/
def mk (d : Nat) : Deferred := { target := .collected d, args := #[] }

def exOf : AExit → Exit
  | .normal => .normal
  | .exit id => .exit id
  | .ret => .ret

def DrawSound (P : Program) (R : Rec) : Prop :=
  ∀ (N id : Nat) (ops : Array Oper) (ks : List (DK × AOper)) (T T' : Fr) (H H' : AHeap), cdraw P N ops = .draw ks → regionDraw R ks T H = some (T', H') →
    ∀ (B : Nat) (w0 : World) (pr : List Nat) (β : Beta) (w : World) (a : Act) (ro : Option Nat) (m : Nat) (Q : Exit → Act → World → Prop), HR P B w0 pr β H w → pr.Nodup → TR β N T a.tmps →
      (∀ β' w' a', Ex H β H' β' → HR P B w0 pr β' H' w' → TR β' N T' a'.tmps → a'.defers = a.defers → Q .normal a' w') → (Code.region id ops true).wpIn (WF ro) m P Q a w

/-- what stands behind a piece of code -/
def Post (P : Program) (B : Nat) (w0 : World) (pr ds : List Nat) (N : Nat) (ro : Option Nat) (β : Beta) (H : AHeap) (e : AExit) (T' : Fr) (H' : AHeap) (ex : Exit) (a' : Act) (w' : World) : Prop :=
  ex = exOf e ∧ ∃ ds' β', Ex H β H' β' ∧ HR P B w0 (ds' ++ pr) β' H' w' ∧ TR β' N T' a'.tmps ∧ a'.defers = ds'.map mk ∧ (ds' ++ pr).Nodup ∧ (ro.isSome = true → ds' = ds)

def CS (P : Program) (N : Nat) (ro : Option Nat) (c : Code) (T : Fr) (H : AHeap) (r : Option (AExit × Fr × AHeap)) : Prop :=
  ∀ e T' H', r = some (e, T', H') → (ro = none ∨ noR c = true) → ∀ B w0 pr ds β w (a : Act) m, HR P B w0 (ds ++ pr) β H w → TR β N T a.tmps → a.defers = ds.map mk → (ds ++ pr).Nodup →
    c.wpIn (WF ro) m P (Post P B w0 pr ds N ro β H e T' H') a w

structure Sound (P : Program) (R : Rec) (n : Nat) : Prop where
  r : RSound P R
  loop : ∀ (c : Code) (N : Nat) (ro : Option Nat) (T : Fr) (H : AHeap) e T' H', R.loop (cc P N c) T H = some (e, T', H') → (ro = none ∨ noR c = true) → ∀ B w0 pr ds β w (a : Act) m, HR P B w0 (ds ++ pr) β H w →
    TR β N T a.tmps → a.defers = ds.map mk → (ds ++ pr).Nodup → Code.roundsIn (WF ro) m P c (Post P B w0 pr ds N ro β H e T' H') n a w

section
variable {P : Program} {R : Rec}

theorem HR.weaken {B : Nat} {w0 : World} {pr pr' : List Nat} {β : Beta} {H : AHeap} {w : World} (h : HR P B w0 pr β H w) (hs : ∀ d, d ∈ pr' → d ∈ pr) : HR P B w0 pr' β H w :=
  { below := h.below, base := h.base, dom := h.dom, free := h.free, inj := h.inj
    obj := fun i x o a b => by
      have := h.obj i x o a b
      cases o with
      | cells cs st => exact this
      | map kl es ck => exact this
      | loop L => exact this
      | gone => trivial
    prs := fun d hd => h.prs d (hs d hd), blk := h.blk }

theorem Post.chain {B : Nat} {w0 : World} {pr ds ds' : List Nat} {N : Nat} {ro : Option Nat} {β β' : Beta} {H H' H'' : AHeap} {e : AExit} {T'' : Fr} {ex : Exit} {a' : Act} {w' : World}
    (e1 : Ex H β H' β') (hds : ro.isSome = true → ds' = ds) (h : Post P B w0 pr ds' N ro β' H' e T'' H'' ex a' w') : Post P B w0 pr ds N ro β H e T'' H'' ex a' w' := by
  obtain ⟨h1, ds2, β2, h2, h3, h4, h5, h6, h7⟩ := h
  exact ⟨h1, ds2, β2, e1.trans h2, h3, h4, h5, h6, fun hr => (h7 hr).trans (hds hr)⟩

theorem noR_cond {x : Operand} {a b : Code} {ro : Option Nat} (h : ro = none ∨ noR (.cond x a b) = true) : (ro = none ∨ noR a = true) ∧ (ro = none ∨ noR b = true) := by
  rcases h with h | h
  · exact ⟨.inl h, .inl h⟩
  · simp only [noR, Bool.and_eq_true] at h; exact ⟨.inr h.1, .inr h.2⟩
theorem noR_seq {a b : Code} {ro : Option Nat} (h : ro = none ∨ noR (.seq a b) = true) : (ro = none ∨ noR a = true) ∧ (ro = none ∨ noR b = true) := by
  rcases h with h | h
  · exact ⟨.inl h, .inl h⟩
  · simp only [noR, Bool.and_eq_true] at h; exact ⟨.inr h.1, .inr h.2⟩

theorem then_wp {x : Code} {N : Nat} {ro : Option Nat} {T : Fr} {H : AHeap} {r : Option (AExit × Fr × AHeap)} {k : Fr → AHeap → Option (AExit × Fr × AHeap)} (hn : ro = none ∨ noR x = true) (hx : CS P N ro x T H r)
    {e : AExit} {T' : Fr} {H' : AHeap} (hr : thenC r k = some (e, T', H')) (B : Nat) (w0 : World) (pr ds : List Nat) (β : Beta) (w : World) (a : Act) (m : Nat) (K : Act → World → Prop)
    (hK : ∀ T1 H1, k T1 H1 = some (e, T', H') → ∀ ds' β' w' (a' : Act), Ex H β H1 β' → HR P B w0 (ds' ++ pr) β' H1 w' → TR β' N T1 a'.tmps → a'.defers = ds'.map mk → (ds' ++ pr).Nodup → (ro.isSome = true → ds' = ds) → K a' w')
    (h : HR P B w0 (ds ++ pr) β H w) (hT : TR β N T a.tmps) (hd : a.defers = ds.map mk) (hnd : (ds ++ pr).Nodup) :
      x.wpIn (WF ro) m P (Exit.then K (Post P B w0 pr ds N ro β H e T' H')) a w := by
  unfold thenC at hr
  split at hr <;> first | cases hr | skip
  rename_i s
  obtain ⟨e1, T1, H1⟩ := s
  simp only at hr
  have h1 := hx e1 T1 H1 rfl hn B w0 pr ds β w a m h hT hd hnd
  refine wpIn_mono h1 ?_
  rintro ex a' w' ⟨rfl, ds', β', g1, g2, g3, g4, g5, g6⟩
  cases e1 with
  | normal =>
    simp only at hr
    exact hK T1 H1 hr ds' β' w' a' g1 g2 g3 g4 g5 g6
  | exit id => cases hr; exact ⟨rfl, ds', β', g1, g2, g3, g4, g5, g6⟩
  | ret => cases hr; exact ⟨rfl, ds', β', g1, g2, g3, g4, g5, g6⟩

theorem run_enterLoop (f : FuncId) (tmps : Array Value) (ps : Array Tmp) (as bd : Code) (w : World) :
    (Instr.enterLoop f tmps ps as bd none).run P w = .ok (w.heap.size + 1, [mk w.heap.size])
      ((w.alloc (.deferred (some []))).alloc (.loop { state := .ready, pending := none, fn := f, tmps := tmps, params := ps, assign := as, body := bd, defers := w.heap.size })) := by
  simp only [Instr.enterLoop, Sem.run_bind, run_newObj, Result.andThen_ok, Sem.run_pure, mk]
  simp
  rfl

theorem code_sound {lv : Nat} (hS : Sound P R lv) (hD : DrawSound P R) (N : Nat) (ro : Option Nat) : ∀ (c : Code) (T : Fr) (H : AHeap), CS P N ro c T H (code R (cc P N c) T H) := by
  intro c
  induction c with
  | skip =>
    intro T H e T' H' hr _ B w0 pr ds β w a m h hT hd hnd
    cases hr
    exact wpIn_skip ⟨rfl, ds, β, Ex.refl _ β, h, hT, hd, hnd, fun _ => rfl⟩
  | region id ops draw =>
    intro T H e T' H' hr _ B w0 pr ds β w a m h hT hd hnd
    have fin : ∀ {T' : Fr} {H' : AHeap} (β' : Beta) (w' : World) (a' : Act), Ex H β H' β' → HR P B w0 (ds ++ pr) β' H' w' → TR β' N T' a'.tmps → a'.defers = a.defers →
        Post P B w0 pr ds N ro β H .normal T' H' .normal a' w' := fun β' w' a' g1 g2 g3 g4 => ⟨rfl, ds, β', g1, g2, g3, g4.trans hd, hnd, fun _ => rfl⟩
    cases draw with
    | false =>
      simp only [cc, code] at hr
      unfold normC at hr
      split at hr <;> cases hr
      rename_i s hs
      exact region_wp hS.r N id ops ro m hs h hnd hT fun β' w' a' g1 g2 g3 g4 => fin β' w' a' g1 g2 g3 g4
    | true =>
      simp only [cc] at hr
      cases hc : cdraw P N ops with
      | draw ks =>
        rw [hc] at hr
        simp only [code] at hr
        unfold normC at hr
        split at hr <;> cases hr
        rename_i s hs
        exact hD N id ops ks T _ H _ hc hs B w0 (ds ++ pr) β w a ro m _ h hnd hT fun β' w' a' g1 g2 g3 g4 => fin β' w' a' g1 g2 g3 g4
      | _ =>
        exfalso
        unfold cdraw at hc
        simp only at hc
        split at hc <;> first | (cases hc; done) | skip
        all_goals (rw [show cdraw P N ops = .bad from by unfold cdraw; simp only; rw [if_neg (by assumption)]] at hr; simp [code] at hr)
  | seq x y ihx ihy =>
    intro T H e T' H' hr hn B w0 pr ds β w a m h hT hd hnd
    simp only [cc, code] at hr
    refine wpIn_seq (then_wp (noR_seq hn).1 (ihx T H) hr B w0 pr ds β w a m _ ?_ h hT hd hnd)
    intro T1 H1 hk ds' β' w' a' g1 g2 g3 g4 g5 g6
    exact wpIn_mono (ihy T1 H1 e T' H' hk (noR_seq hn).2 B w0 pr ds' β' w' a' m g2 g3 g4 g5) fun ex a'' w'' hp => hp.chain g1 g6
  | cond c x y ihx ihy =>
    intro T H e T' H' hr hn B w0 pr ds β w a m h hT hd hnd
    simp only [cc, code] at hr
    split at hr
    · rename_i hb
      have hb' := asB_rel (eval_rel hT c) hb
      exact wpIn_cond_true hb' (ihx T H e T' H' hr (noR_cond hn).1 B w0 pr ds β w a m h hT hd hnd)
    · rename_i hb
      have hb' := asB_rel (eval_rel hT c) hb
      exact wpIn_cond_false hb' (ihy T H e T' H' hr (noR_cond hn).2 B w0 pr ds β w a m h hT hd hnd)
    · cases hr
  | block id x ih =>
    intro T H e T' H' hr hn B w0 pr ds β w a m h hT hd hnd
    simp only [cc, code] at hr
    unfold blockC at hr
    split at hr <;> first | cases hr | skip
    rename_i s hs
    obtain ⟨e1, T1, H1⟩ := s
    simp only at hr
    have hn' : ro = none ∨ noR x = true := by simpa [noR] using hn
    refine wpIn_block (wpIn_mono (ih T H e1 T1 H1 hs hn' B w0 pr ds β w a m h hT hd hnd) ?_)
    rintro ex a' w' ⟨rfl, hp⟩
    cases e1 with
    | normal => cases hr; exact ⟨rfl, hp⟩
    | ret => cases hr; exact ⟨rfl, hp⟩
    | exit i =>
      simp only [exOf, Exit.inBlock]
      simp only at hr
      split at hr <;> cases hr
      · rename_i hi
        rw [if_pos (Nat.eq_of_beq_eq_true hi)]
        exact ⟨rfl, hp⟩
      · rename_i hi
        rw [if_neg (fun e => hi (by rw [e]; exact Nat.beq_refl _))]
        exact ⟨rfl, hp⟩
  | loop x ih =>
    intro T H e T' H' hr hn B w0 pr ds β w a m h hT hd hnd
    simp only [cc, code] at hr
    exact wpIn_loop_rounds lv (hS.loop x N ro T H e T' H' hr (by simpa [noR] using hn) B w0 pr ds β w a m h hT hd hnd)
  | rangeFunc f ps as bd iha ihb =>
    intro T H e T' H' hr hn B w0 pr ds β w a m h hT hd hnd
    have hro : ro = none := by
      rcases hn with h | h
      · exact h
      · simp [noR] at h
    subst hro
    simp only [cc] at hr
    split at hr <;> first | (simp [code] at hr; done) | skip
    rename_i hck
    simp only [Bool.and_eq_true] at hck
    obtain ⟨⟨hps, hna⟩, hnb⟩ := hck
    simp only [code] at hr
    unfold rangeC at hr
    split at hr <;> first | cases hr | skip
    rename_i g first cap hf
    split at hr <;> first | cases hr | skip
    rename_i s hs
    obtain ⟨rv, H2⟩ := s
    have hfv := eval_rel hT f
    rw [hf] at hfv
    -- the record's block, and the block for deferred calls
    refine wpIn_rangeFunc fun fn _ => ?_
    have hsz : w.heap.size + 1 < ((w.alloc (.deferred (some []))).alloc (.loop { state := .ready, pending := none, fn := fn, tmps := a.tmps, params := ps, assign := as, body := bd, defers := w.heap.size })).heap.size := by simp
    have hw1 : HR P B w0 ((w.heap.size :: ds) ++ pr) β H (w.alloc (.deferred (some []))) := by
      have hb : Below w.heap.size w (w.alloc (.deferred (some []))) := (Below.refl _ _).alloc (Nat.le_refl _) _
      exact { below := h.below.trans (hb.mono h.base), base := by simp; have := h.base; omega, dom := h.dom, free := h.free, inj := h.inj
              obj := fun i x o e g => by
                have := (h.obj i x o e g).of_block (w' := w.alloc (.deferred (some []))) (hb.block _ (h.blk i x e))
                cases o with
                | cells cs st => exact this
                | map kl es ck => exact this
                | loop L => exact this
                | gone => trivial
              prs := fun d hd => by
                rcases List.mem_cons.1 hd with rfl | hd
                · exact ⟨h.base, heap_alloc_new w _⟩
                · have := h.prs d hd
                  exact ⟨this.1, (hb.block _ (Array.getElem?_eq_some_iff.1 this.2).1).trans this.2⟩
              blk := fun i x e => by simp; have := h.blk i x e; omega }
    have hnd1 : ((w.heap.size :: ds) ++ pr).Nodup := by
      simp only [List.cons_append, List.nodup_cons]
      exact ⟨fun hd => by
        have := (Array.getElem?_eq_some_iff.1 (h.prs _ hd).2).1
        omega, hnd⟩
    have hLR : ∀ β', Ext β β' → LR P ((w.heap.size :: ds) ++ pr) β' { st := .ready, pend := none, T := T, ps := ps.toList.map path, assign := cc P N as, body := cc P N bd }
        { state := .ready, pending := none, fn := fn, tmps := a.tmps, params := ps, assign := as, body := bd, defers := w.heap.size } := fun β' e =>
      ⟨N, rfl, rfl, by simp, hT.mono e, rfl, fun t ht => by simpa using List.all_eq_true.1 hps t ht, rfl, rfl, hna, hnb⟩
    have hw2 : HR P B w0 ((w.heap.size :: ds) ++ pr) (β.add H.nx (w.heap.size + 1, 0, 0)) (H.push (.loop { st := .ready, pend := none, T := T, ps := ps.toList.map path, assign := cc P N as, body := cc P N bd }))
        ((w.alloc (.deferred (some []))).alloc (.loop { state := .ready, pending := none, fn := fn, tmps := a.tmps, params := ps, assign := as, body := bd, defers := w.heap.size })) := by
      refine hw1.push (w.heap.size + 1, 0, 0) (by simp) ((Below.refl _ _).alloc (Nat.le_refl _) _) (by simp) ?_
      refine ⟨by simp; have := h.base; omega, _, ?_, hLR _ (β.add_ext _ _ h.none_nx)⟩
      have := heap_alloc_new (w.alloc (.deferred (some []))) (.loop { state := .ready, pending := none, fn := fn, tmps := a.tmps, params := ps, assign := as, body := bd, defers := w.heap.size })
      simpa using this
    have hyld : VR (β.add H.nx (w.heap.size + 1, 0, 0)) (.yld H.nx) (.func (.yield (w.heap.size + 1)) #[] #[]) := .yld _ _ 0 0 (Beta.add_same ..)
    have ext := β.add_ext H.nx (w.heap.size + 1, 0, 0) h.none_nx
    cases hfe : a.eval f with
    | func fn' fi ca =>
      rw [hfe] at hfv
      cases hfv with
      | fn _ _ _ _ _ k1 k2 =>
        obtain ⟨g', b', q1, q2, q3⟩ := hS.r.fn _ _ _ _ hs
        have hargs : VRs (β.add H.nx (w.heap.size + 1, 0, 0)) (first ++ ([AV.yld H.nx] ++ cap)) ((fi ++ #[Value.func (.yield (w.heap.size + 1)) #[] #[]]) ++ ca).toList := by
          simp only [Array.toList_append]
          rw [List.append_assoc]
          exact (k1.mono ext).append ((VRs.cons _ _ _ _ hyld .nil).append (k2.mono ext))
        have hcall := hS.r.call g _ _ rv H2 hs B w0 ((w.heap.size :: ds) ++ pr) _ _ ((fi ++ #[Value.func (.yield (w.heap.size + 1)) #[] #[]]) ++ ca) none (m - 1) hw2 hnd1 hargs
        refine ⟨w.heap.size + 1, [mk w.heap.size], _, { target := .fn (.func g) ca, args := fi ++ #[Value.func (.yield (w.heap.size + 1)) #[] #[]] }, ((w.alloc (.deferred (some []))).alloc (.loop { state := .ready, pending := none, fn := fn, tmps := a.tmps, params := ps, assign := as, body := bd, defers := w.heap.size })), g, _, ((w.alloc (.deferred (some []))).alloc (.loop { state := .ready, pending := none, fn := fn, tmps := a.tmps, params := ps, assign := as, body := bd, defers := w.heap.size })), run_enterLoop _ _ _ _ _ w, ?_, fun _ _ => trivial, ?_, WF.depth none, hcall.mono ?_⟩
        · have : resolve a.eval (rangeCall f (w.heap.size + 1)) 0 = Deferred.ofValue (a.eval f) #[Value.func (.yield (w.heap.size + 1)) #[] #[]] := by
            simp [resolve, rangeCall, Act.eval]
          rw [this, hfe]; rfl
        · show Sem.run P (callFunc g ((fi ++ #[Value.func (.yield (w.heap.size + 1)) #[] #[]]) ++ ca)) _ = _
          exact run_callFunc q1 q2 q3 _
        · rintro e' w3 ⟨v3, β3, rfl, g1, g2, g3⟩
          -- the record, behind the call
          unfold rangeEnd at hr
          split at hr <;> first | cases hr | skip
          rename_i L hL
          have hb3 : β3 H.nx = some (w.heap.size + 1, 0, 0) := by rw [g1.2 _ (by simp)]; exact Beta.add_same ..
          obtain ⟨o0, L', o1, N', l1, l2, l3, l4⟩ := g2.obj _ _ _ hb3 hL
          simp only at o1 o0
          have hlt : w.heap.size + 1 < w3.heap.size := (Array.getElem?_eq_some_iff.1 o1).1
          have hend : L.st ≠ .busy → (Instr.endLoop (w.heap.size + 1)).run P w3 = .ok L'.pending (w3.putObj (w.heap.size + 1) (.loop { L' with state := .exhausted })) := by
            intro hnb
            have hst : (L'.state == LoopState.busy) = false := by rw [l1]; cases hq : L.st <;> first | rfl | exact absurd hq hnb
            simp only [Instr.endLoop, Instr.getLoop, Sem.run_bind, run_getObj_loop o1, Result.andThen_ok, Sem.run_pure, hst, Bool.false_eq_true, if_false, run_setObj_loop _ o1]
          have hput : HR P B w0 ((w.heap.size :: ds) ++ pr) β3 (H2.put H.nx (.loop { L with st := .exhausted })) (w3.putObj (w.heap.size + 1) (.loop { L' with state := .exhausted })) := by
            refine g2.put hb3 ⟨_, hL, rfl⟩ ⟨rfl, rfl, rfl, by simp, fun k hk => World.putObj_heap_other (by omega)⟩ (fun k hk => World.putObj_heap_other hk) (by simp) (g2.not_pr hb3 hL rfl) ?_
            exact ⟨o0, _, World.putObj_heap_same hlt, N', rfl, l2, l3, l4⟩
          have hEx : Ex H β (H2.put H.nx (.loop { L with st := .exhausted })) β3 := by
            refine ⟨Nat.le_trans (by simp) g1.1, fun i hi => ?_⟩
            rw [g1.2 i (by simp; omega)]; exact Beta.add_ne _ _ _ _ (by omega)
          have hTR3 : TR β3 N T a.tmps := hT.mono (hEx.ext h)
          have hdef : ([mk w.heap.size] ++ a.defers) = (w.heap.size :: ds).map mk := by rw [hd]; rfl
          have hpost : ∀ ee, Post P B w0 pr ds N none β H ee T (H2.put H.nx (.loop { L with st := .exhausted })) (exOf ee) { a with defers := [mk w.heap.size] ++ a.defers } (w3.putObj (w.heap.size + 1) (.loop { L' with state := .exhausted })) := fun ee =>
            ⟨rfl, w.heap.size :: ds, β3, hEx, hput, hTR3, hdef, hnd1, fun h => by cases h⟩
          split at hr <;> first | cases hr | skip
          rename_i hnbusy
          split at hr <;> cases hr
          · rename_i hp
            rw [hp] at l2
            exact ⟨none, _, (hend (fun h => hnbusy h)).trans (congrArg (fun j => Result.ok j _) l2), hpost .normal⟩
          · rename_i hp
            rw [hp] at l2 l3
            refine ⟨codeOf e, _, (hend (fun h => hnbusy h)).trans (congrArg (fun j => Result.ok j _) l2), ?_⟩
            cases e with
            | normal => exact absurd rfl l3
            | ret => exact wpIn_ret (hpost .ret)
            | exit id => exact wpIn_exit (hpost (.exit id))
    | _ => rw [hfe] at hfv; cases hfv
  | exit id =>
    intro T H e T' H' hr _ B w0 pr ds β w a m h hT hd hnd
    cases hr
    exact wpIn_exit ⟨rfl, ds, β, Ex.refl _ β, h, hT, hd, hnd, fun _ => rfl⟩
  | scope x ih =>
    intro T H e T' H' hr hn B w0 pr ds β w a m h hT hd hnd
    have hro : ro = none := by
      rcases hn with h | h
      · exact h
      · simp [noR] at h
    subst hro
    simp only [cc] at hr
    refine wpIn_wide.2 (wp_scope_straight (wpIn_wide.1 (wpIn_mono (ih T H e T' H' hr (.inl rfl) B w0 pr ds β w a m h hT hd hnd) ?_)))
    · rintro ex a' w' ⟨rfl, hp⟩
      cases e <;> exact ⟨rfl, hp⟩
  | label l =>
    intro T H e T' H' hr _ B w0 pr ds β w a m h hT hd hnd
    cases hr
    exact wpIn_label ⟨rfl, ds, β, Ex.refl _ β, h, hT, hd, hnd, fun _ => rfl⟩
  | goto l => intro T H e T' H' hr; simp [cc, code] at hr
  | ret =>
    intro T H e T' H' hr _ B w0 pr ds β w a m h hT hd hnd
    cases hr
    exact wpIn_ret ⟨rfl, ds, β, Ex.refl _ β, h, hT, hd, hnd, fun _ => rfl⟩
  | refuse why => intro T H e T' H' hr; simp [cc, code] at hr

end
end Go.AM
