/- FontWraps is proved in the last part: for every font, text, size and width the law returns true and the input reads as it did; no condition. -/
import Derived.Below
import Derived.Deep.Quiet
import Derived.IntWalk
import Derived.Laws.BytesString
import Derived.Laws.CopyRow
import Derived.Laws.Strings2
import Derived.Laws.StructEq
import Derived.Lib.ConvBytes
import Derived.Orders
import GoSem.Claims
section
set_option linter.unusedVariables false
set_option linter.unusedSimpArgs false
set_option linter.unusedSectionVars false
namespace Go.VE

/-- A value as a tree: slices read only are lists; 'rs', 'ptr' lead into rows of the call's own; 'ow' is a row that a call hands back. -/
inductive AV where
  | int (k : IntKind) (n : Int)
  | bool (b : Bool)
  | str (s : List UInt8)
  | sl (nn : Bool) (k : Nat) (l : List AV)
  | rs (id k off len : Nat)
  | ow (T k : Nat) (l : List AV)
  | nilp
  | ptr (id idx off : Nat)
  | pim (x : AV) (off : Nat)
  | agg (cs : List AV)
  | tup (vs : List AV)
  | fn (f : Nat) (cap : List AV)
  | nilfn
  | und
  | dead
  deriving Inhabited

/-- A row of the call's own. st: 0 gone, 1 read only from now on, 2 may be written, 3 made and not yet given its value. flat: no element leads into another row of the call's own. T: the element's type; k: its cells. -/
structure Blk where
  st : Nat
  flat : Bool
  T : Nat
  k : Nat
  es : List AV
  deriving Inhabited

structure St where
  t : List AV
  h : List Blk

/-- What is known of the program's types and functions. -/
structure Env where
  fn : Nat → Option Func
  und : Nat → Option TypeDesc
  size : Nat → Option Nat
  bytes : Nat → Option Nat
  zero : Nat → Option AV
  cmp : Nat → Bool
  keep : Nat → Nat → Option (List Nat)
  ord : Nat → Nat → Option (List Nat)
  orc : Nat → Option (List AV → Option AV)
  op : Nat → AV → (AV → Option AV) → Option AV := fun _ y k => k y
  opr : Nat → AV → (AV → Option AV) → Option AV := fun _ y k => k y
  base : Nat := 0
  fk : Nat → List Nat := fun _ => []
  ic : (Nat → List AV → Option AV) → Nat → Option (List AV → List Blk → Option (AV × List Blk)) := fun _ _ => none
  kic : (Nat → List AV → Option AV) → Nat → Option (List AV → List Blk → (AV × List Blk → Option AV) → Option AV) := fun _ _ => none

def nth {α : Type} : List α → Nat → Option α
  | [], _ => none
  | x :: _, 0 => some x
  | _ :: l, i + 1 => nth l i

def setN {α : Type} : List α → Nat → α → List α
  | [], _, _ => []
  | _ :: l, 0, y => y :: l
  | x :: l, i + 1, y => x :: setN l i y

def guard' (b : Bool) : Option Unit := if b then some () else none

def AV.cells : AV → List AV
  | .agg cs => cs
  | v => [v]

/-- Does it lead into no row of the call's own (as far as its head and its cells show it)? -/
def AV.rf1 : AV → Bool
  | .rs .. | .ptr .. | .ow .. | .tup .. | .agg .. | .dead | .und => false
  | .fn _ cap => cap.isEmpty
  | _ => true
def AV.rf : AV → Bool
  | .agg cs => cs.all AV.rf1
  | v => v.rf1

/-- A value that a cell may hold. -/
def AV.sto : AV → Bool
  | .ow .. | .tup .. | .agg .. | .dead | .und => false
  | _ => true
def AV.okv (v : AV) : Bool := v.cells.all AV.sto

def constAV : Value → Option AV
  | .bool b => some (.bool b)
  | .int k n => some (.int k n)
  | .string s => some (.str s.data.toList)
  | .slice none 0 0 => some (.sl false 0 [])
  | .pointer none => some .nilp
  | .nilFunc => some .nilfn
  | _ => none

def evO (t : List AV) : Operand → Option AV
  | .tmp i => nth t i
  | .const v => constAV v
  | .func f => some (.fn f [])
  | .global _ => none

def evOs (t : List AV) : List Operand → Option (List AV)
  | [] => some []
  | o :: os => match evO t o with
    | some v => match evOs t os with
      | some vs => some (v :: vs)
      | none => none
    | none => none

/-! ### nil slices carry their element's size where they are kept -/
def fixC (k : Nat) (v : AV) : AV := match v with
  | .sl nn k' l => if k' = k then v else match nn, l with
    | false, [] => .sl false k []
    | _, _ => v
  | v => v
def fixCs : List Nat → List AV → List AV
  | [], cs => cs
  | _, [] => []
  | k :: ks, c :: cs => fixC k c :: fixCs ks cs
def fixV (ks : List Nat) (v : AV) : AV := match ks with
  | [] => v
  | k :: ks => match v with
    | .agg cs => .agg (fixCs (k :: ks) cs)
    | v => fixC k v
def Env.fix (E : Env) (T : Nat) (v : AV) : AV := fixV (E.fk T) v
def evF (E : Env) (T : Nat) (t : List AV) (o : Operand) : Option AV := match evO t o with
  | some v => some (E.fix T v)
  | none => none
def fixP (E : Env) (T : Nat) : List (Nat × AV) → List (Nat × AV)
  | [] => []
  | p :: r => (p.1, E.fix T p.2) :: fixP E T r
def fixTs (E : Env) : List Nat → List AV → List AV
  | [], vs => vs
  | _, [] => []
  | T :: Ts, v :: vs => E.fix T v :: fixTs E Ts vs

section
variable (E : Env)

def isAggT (t : Nat) : Option Bool :=
  match E.und t with
  | some (.struct _) => some true
  | some (.array _ _) => some true
  | some _ => some false
  | none => none

/-- The part of a value's cells that a variable of type t takes from 'off' on. -/
def partA (t : Nat) (cs : List AV) (off : Nat) : Option AV :=
  match isAggT E t with
  | some true => match E.size t with
    | some n => if off + n ≤ cs.length then some (.agg ((cs.drop off).take n)) else none
    | none => none
  | some false => nth cs off
  | none => none

def splice (cs : List AV) (off : Nat) (vs : List AV) : List AV := cs.take off ++ vs ++ cs.drop (off + vs.length)

/-- The value x with the cells from 'off' on replaced. -/
def withCells (x : AV) (off : Nat) (vs : List AV) : Option AV :=
  match x with
  | .agg cs => if off + vs.length ≤ cs.length then some (.agg (splice cs off vs)) else none
  | _ => match off, vs with
    | 0, [v] => some v
    | _, _ => none

/-! ### equality -/
def leafEq : TypeDesc → AV → AV → Option Bool
  | .bool, .bool a, .bool b => some (a == b)
  | .int _, .int k a, .int k' b => if k = k' then some (a == b) else none
  | .string, .str a, .str b => some (a == b)
  | .pointer _, .nilp, .nilp => some true
  | .pointer _, .nilp, .ptr .. => some false
  | .pointer _, .nilp, .pim .. => some false
  | .pointer _, .ptr .., .nilp => some false
  | .pointer _, .pim .., .nilp => some false
  | .slice _, .sl false _ _, .sl b _ _ => some (!b)
  | .slice _, .sl false _ _, .rs .. => some false
  | .slice _, .sl true _ _, .sl false _ _ => some false
  | .slice _, .rs .., .sl false _ _ => some false
  | .func _ _ _, .nilfn, .nilfn => some true
  | .func _ _ _, .nilfn, .fn .. => some false
  | .func _ _ _, .fn .., .nilfn => some false
  | _, _, _ => none

def fieldsEq (rec : Nat → AV → AV → Option Bool) (xs ys : List AV) : List Field → Option Bool
  | [] => some true
  | f :: fs => match partA E f.type xs f.offset, partA E f.type ys f.offset with
    | some x, some y => match rec f.type x y, fieldsEq rec xs ys fs with
      | some a, some b => some (a && b)
      | _, _ => none
    | _, _ => none

def arrEq (rec : Nat → AV → AV → Option Bool) (e n : Nat) (xs ys : List AV) : Nat → Nat → Option Bool
  | 0, _ => some true
  | m + 1, i => match partA E e xs (i * n), partA E e ys (i * n) with
    | some x, some y => match rec e x y, arrEq rec e n xs ys m (i + 1) with
      | some a, some b => some (a && b)
      | _, _ => none
    | _, _ => none

def aeq : Nat → Nat → AV → AV → Option Bool
  | 0, _, _, _ => none
  | d + 1, t, x, y => match E.und t with
    | some (.struct fs) => match x, y with
      | .agg xs, .agg ys => if E.cmp t then fieldsEq E (aeq d) xs ys fs.toList else none
      | _, _ => none
    | some (.array len e) => match x, y, E.size e with
      | .agg xs, .agg ys, some n => if E.cmp t then arrEq E (aeq d) e n xs ys len 0 else none
      | _, _, _ => none
    | some td => leafEq td x y
    | none => none

/-! ### operations without memory -/
def bitsA (k : IntKind) (op : BinOp) (x y : Int) : Option AV :=
  let a := BitVec.ofInt k.bits x
  let b := BitVec.ofInt k.bits y
  match op with
  | .and => some (.int k (k.wrap (a &&& b).toNat))
  | .or => some (.int k (k.wrap (a ||| b).toNat))
  | .xor => some (.int k (k.wrap (a ^^^ b).toNat))
  | .andNot => some (.int k (k.wrap (a &&& ~~~b).toNat))
  | _ => none

def intA (op : BinOp) (k : IntKind) (x y : Int) : Option AV :=
  match op with
  | .add => some (.int k (k.wrap (x + y)))
  | .sub => some (.int k (k.wrap (x - y)))
  | .mul => some (.int k (k.wrap (x * y)))
  | .quo => if y = 0 then none else some (.int k (k.wrap (x.tdiv y)))
  | .rem => if y = 0 then none else some (.int k (x.tmod y))
  | .and | .or | .xor | .andNot => bitsA k op x y
  | .eql => some (.bool (x == y))
  | .neq => some (.bool (x != y))
  | .lss => some (.bool (decide (x < y)))
  | .leq => some (.bool (decide (x ≤ y)))
  | .gtr => some (.bool (decide (x > y)))
  | .geq => some (.bool (decide (x ≥ y)))
  | _ => none

def shiftA (op : BinOp) (k : IntKind) (x y : Int) : Option AV :=
  if y < 0 then none else
  match op with
  | .shl => some (.int k (k.wrap (x * 2 ^ min y.toNat k.bits)))
  | .shr => some (.int k (x.fdiv (2 ^ min y.toNat k.bits)))
  | _ => none

def strA (op : BinOp) (x y : List UInt8) : Option AV :=
  match op with
  | .add => if x.length + y.length ≤ 9223372036854775807 then some (.str (x ++ y)) else none
  | .eql => some (.bool (x == y))
  | .neq => some (.bool (!(x == y)))
  | .lss => some (.bool (Op.bytesLess x y))
  | .leq => some (.bool (Op.bytesLess x y || x == y))
  | .gtr => some (.bool (!(Op.bytesLess x y || x == y)))
  | .geq => some (.bool (!(Op.bytesLess x y)))
  | _ => none

def isShift : BinOp → Bool
  | .shl | .shr => true
  | _ => false

def binA (op : BinOp) (xt : Nat) (x y : AV) : Option AV :=
  match x, y with
  | .int k a, .int k' b => if isShift op then shiftA op k a b else if k = k' then intA op k a b else none
  | .str a, .str b => strA op a b
  | x, y => match op with
    | .eql => (aeq E 8 xt x y).map .bool
    | .neq => (aeq E 8 xt x y).map fun b => .bool (!b)
    | _ => none

def unA (op : UnOp) (x : AV) : Option AV :=
  match op, x with
  | .neg, .int k n => some (.int k (k.wrap (0 - n)))
  | .xor, .int k n => bitsA k .xor (if k.signed then -1 else k.max) n
  | .not, .bool b => some (.bool (!b))
  | _, _ => none

def fillA (place : Nat → Option (Nat × Nat)) (cells : List AV) : List (Nat × AV) → Option (List AV)
  | [] => some cells
  | (i, v) :: rest =>
    match place i with
    | none => none
    | some (off, size) =>
      if v.cells.length = size ∧ off + size ≤ cells.length ∧ v.okv = true then fillA place (splice cells off v.cells) rest else none

def places : List Field → Option (List (Nat × Nat))
  | [] => some []
  | f :: fs => match E.size f.type, places fs with
    | some n, some r => some ((f.offset, n) :: r)
    | _, _ => none

def evParts (t : List AV) : List (Nat × Operand) → Option (List (Nat × AV))
  | [] => some []
  | (i, o) :: r => match evO t o, evParts t r with
    | some v, some vs => some ((i, v) :: vs)
    | _, _ => none

def buildA (T : Nat) (parts : List (Nat × AV)) : Option AV :=
  match E.zero T, E.und T with
  | some z, some (.struct fs) => match places E fs.toList with
    | some pl => match fillA (nth pl) z.cells parts with
      | some cs => if z.okv then some (.agg cs) else none
      | none => none
    | none => none
  | some z, some (.array _ e) => match E.size e with
    | some n => match fillA (fun i => some (i * n, n)) z.cells parts with
      | some cs => if z.okv then some (.agg cs) else none
      | none => none
    | none => none
  | _, _ => none

def blk (h : List Blk) (id : Nat) : Option Blk :=
  match nth h id with
  | some b => if b.st = 1 ∨ b.st = 2 then some b else none
  | none => none

/-- A part of the row's elements. -/
def seg (es : List AV) (off len : Nat) : Option (List AV) :=
  if off + len ≤ es.length then some ((es.drop off).take len) else none

def loadA (h : List Blk) (T : Nat) (a : AV) : Option AV :=
  match a with
  | .ptr id idx off => match blk h id with
    | some b => match nth b.es idx with
      | some x => partA E T x.cells off
      | none => none
    | none => none
  | .pim x off => partA E T x.cells off
  | _ => none

def fieldAddrA (S : Nat) (a : AV) (f : Nat) : Option AV :=
  match E.und S with
  | some (.struct fs) => match fs[f]? with
    | some fd => match E.size fd.type with
      | some 0 => none
      | some _ => match a with
        | .ptr id idx off => some (.ptr id idx (off + fd.offset))
        | .pim x off => some (.pim x (off + fd.offset))
        | _ => none
      | none => none
    | none => none
  | _ => none

def indexAddrA (T : Nat) (x i : AV) : Option AV :=
  match i with
  | .int _ n => if n < 0 then none else
    match E.und T with
    | some (.slice e) => match x, E.size e with
      | .sl _ k l, some k' => if k = k' then (nth l n.toNat).map fun y => .pim y 0 else none
      | .rs id k off len, some k' => if k = k' ∧ n.toNat < len then some (.ptr id (off + n.toNat) 0) else none
      | _, _ => none
    | some (.array len e) => match x, E.size e with
      | .ptr id idx off, some k => if n.toNat < len then some (.ptr id idx (off + n.toNat * k)) else none
      | .pim y off, some k => if n.toNat < len then some (.pim y (off + n.toNat * k)) else none
      | _, _ => none
    | _ => none
  | _ => none

def indexA (T : Nat) (x i : AV) : Option AV :=
  match i with
  | .int _ n => if n < 0 then none else
    match E.und T, x with
    | some .string, .str s => (nth s n.toNat).map fun b => .int .u8 b.toNat
    | some (.array len e), .agg cs => match E.size e with
      | some k => if n.toNat < len then partA E e cs (n.toNat * k) else none
      | none => none
    | _, _ => none
  | _ => none

def natOf : AV → Option Nat
  | .int _ n => if n < 0 then none else some n.toNat
  | _ => none

def optNat (t : List AV) (d : Nat) : Option Operand → Option Nat
  | none => some d
  | some o => match evO t o with
    | some v => natOf v
    | none => none

def lenA : AV → Option Nat
  | .str s => some s.length
  | .sl _ _ l => some l.length
  | .rs _ _ _ n => some n
  | _ => none

def sliceA (T : Nat) (x : AV) (lo hi : Nat) : Option AV :=
  match E.und T, x with
  | some .string, .str s => if lo ≤ hi ∧ hi ≤ s.length then some (.str ((s.drop lo).take (hi - lo))) else none
  | some (.slice e), .sl b k l => match E.size e with
    | some k' => if lo ≤ hi ∧ hi ≤ l.length ∧ (b = false ∨ k = k') then some (.sl b k ((l.drop lo).take (hi - lo))) else none
    | none => none
  | some (.slice e), .rs id k off n => match E.size e with
    | some k' => if lo ≤ hi ∧ hi ≤ n ∧ k = k' then some (.rs id k (off + lo) (hi - lo)) else none
    | none => none
  | _, _ => none

def bytesAV : List UInt8 → List AV := List.map fun b => .int .u8 b.toNat
def unbytes : List AV → Option (List UInt8)
  | [] => some []
  | .int .u8 n :: r => if 0 ≤ n ∧ n < 256 then (unbytes r).map (UInt8.ofNat n.toNat :: ·) else none
  | _ => none

def listOf (h : List Blk) : AV → Option (List AV)
  | .sl _ _ l => some l
  | .rs id k off len => match blk h id with
    | some b => if b.k = k then seg b.es off len else none
    | none => none
  | _ => none

def convA (s d : Nat) (x : AV) : Option AV :=
  match E.und s, E.und d, x with
  | some _, some (.int k), .int _ n => some (.int k (k.wrap n))
  | some _, some .string, .str s => some (.str s)
  | _, _, _ => none

def mmI (mx : Bool) (a b : Int) : Int := if mx then (if a < b then b else a) else (if b < a then b else a)
def minmax (mx : Bool) : AV → List AV → Option AV
  | x, [] => some x
  | .int k a, .int _ b :: r => minmax mx (.int k (mmI mx a b)) r
  | _, _ => none

/-- Operations that leave memory as it is. -/
def pureOp (h : List Blk) (t : List AV) : Op → Option AV
  | .move x | .assign x => evO t x
  | .pick c a b => match evO t c with
    | some (.bool true) => evO t a
    | some (.bool false) => evO t b
    | _ => none
  | .build T parts => match evParts t parts.toList with
    | some ps => match buildA E T ps with
      | some v => some (E.fix T v)
      | none => none
    | none => none
  | .load T a => match evO t a with
    | some a => loadA E h T a
    | none => none
  | .nilCheck x => match evO t x with
    | some (.ptr a b c) => some (.ptr a b c)
    | some (.pim a b) => some (.pim a b)
    | some (.fn a b) => some (.fn a b)
    | _ => none
  | .binOp op xt x y _ => match evO t x, evO t y with
    | some a, some b => binA E op xt a b
    | _, _ => none
  | .unOp op _ x => match evO t x with
    | some a => unA op a
    | none => none
  | .convert s d x => match evO t x with
    | some a => convA E s d a
    | none => none
  | .makeFunc (.func f) first cap => match first.toList with
    | [] => (evOs t cap.toList).map (.fn f)
    | _ => none
  | .slice T x lo hi none => match evO t x with
    | some a => match lenA a with
      | some n => match optNat t 0 lo, optNat t n hi with
        | some l, some u => sliceA E T a l u
        | _, _ => none
      | none => none
    | none => none
  | .fieldAddr S x f => match evO t x with
    | some a => fieldAddrA E S a f
    | none => none
  | .field T x f => match evO t x, E.und T with
    | some (.agg cs), some (.struct fs) => match fs[f]? with
      | some fd => partA E fd.type cs fd.offset
      | none => none
    | _, _ => none
  | .indexAddr T x i => match evO t x, evO t i with
    | some a, some b => indexAddrA E T a b
    | _, _ => none
  | .index T x i => match evO t x, evO t i with
    | some a, some b => indexA E T a b
    | _, _ => none
  | .extract x i => match evO t x with
    | some (.tup vs) => nth vs i
    | _ => none
  | .call c => match c.callee with
    | .builtin .len => match c.args.toList, c.argTypes.toList with
      | [x], [T] => match evO t x, E.und T with
        | some (.str s), some .string => some (.int .i64 s.length)
        | some (.sl _ _ l), some (.slice _) => some (.int .i64 l.length)
        | some (.rs _ _ _ n), some (.slice _) => some (.int .i64 n)
        | _, some (.array n _) => some (.int .i64 n)
        | _, _ => none
      | _, _ => none
    | .builtin .min => match evOs t c.args.toList with
      | some (x :: r) => minmax false x r
      | _ => none
    | .builtin .max => match evOs t c.args.toList with
      | some (x :: r) => minmax true x r
      | _ => none
    | _ => none
  | _ => none

/-! ### operations that make or write memory -/
def rep {α : Type} : Nat → α → List α
  | 0, _ => []
  | n + 1, x => x :: rep n x

def setParts (es : List AV) : List (Nat × AV) → Option (List AV)
  | [] => some es
  | (i, v) :: r => if i < es.length then setParts (setN es i v) r else none

def srcOf (h : List Blk) (k : Nat) : AV → Option (Bool × List AV)
  | .sl nn k' l => if k = k' then some (true, l) else if nn then none else
    match l with
    | [] => some (true, [])
    | _ => none
  | .rs id _ off len => match blk h id with
    | some b => if b.k = k then (seg b.es off len).map fun l => (b.flat, l) else none
    | none => none
  | .str s => if k = 1 then some (true, bytesAV s) else none
  | _ => none

def appendA (h : List Blk) (T : Nat) (s x : AV) : Option (AV × List Blk) :=
  match E.und T with
  | some (.slice e) => match E.size e, E.bytes e, E.zero e with
    | some k, some by_, some z => if k = 0 ∨ by_ = 0 ∨ ¬ z.cells.length = k ∨ z.okv = false then none else
      match srcOf h k x with
      | some (fl, l) => match s with
        | .sl false _ [] => match l with
          | [] => some (.sl false 0 [], h)
          | _ => if l.length * by_ ≤ 140737488355328 then some (.rs h.length k 0 l.length, h ++ [⟨2, fl, e, k, l⟩]) else none
        | .rs id _ off len => match nth h id with
          | some b => if b.st = 2 ∧ b.k = k then
              match seg b.es off len with
              | some l0 => if (l0.length + l.length) * by_ ≤ 140737488355328 then
                  some (.rs h.length k 0 (l0.length + l.length), setN h id ⟨0, b.flat, b.T, b.k, b.es⟩ ++ [⟨2, b.flat && fl, e, k, l0 ++ l⟩]) else none
              | none => none
            else none
          | none => none
        | _ => none
      | none => none
    | _, _, _ => none
  | _ => none

def storeA (h : List Blk) (T : Nat) (a v : AV) : Option (List Blk) :=
  match a, E.size T with
  | .ptr id idx off, some n => match nth h id with
    | some b => if b.st = 2 ∧ v.cells.length = n ∧ v.okv = true then
        match nth b.es idx with
        | some x => match withCells x off v.cells with
          | some x' => some (setN h id ⟨2, b.flat && v.rf, b.T, b.k, setN b.es idx x'⟩)
          | none => none
        | none => none
      else none
    | none => none
  | _, _ => none

def heapOp (h : List Blk) (t : List AV) : Op → Option (AV × List Blk)
  | .alloc T => match E.zero T, E.size T with
    | some z, some k => if z.cells.length = k ∧ z.okv = true then some (.ptr h.length 0 0, h ++ [⟨2, true, T, k, [z]⟩]) else none
    | _, _ => none
  | .box T x => match evF E T t x, E.size T with
    | some v, some k => if v.cells.length = k ∧ v.okv = true then some (.ptr h.length 0 0, h ++ [⟨2, v.rf, T, k, [v]⟩]) else none
    | _, _ => none
  | .buildSlice T n parts => match E.und T with
    | some (.slice e) => match E.zero e, E.size e, evParts t parts.toList with
      | some z, some k, some ps0 => if z.cells.length = k ∧ z.okv = true ∧ 0 < k ∧ n * k ≤ 16777216 ∧ (fixP E e ps0).all (fun p => p.2.cells.length = k && p.2.okv) then
          match setParts (rep n z) (fixP E e ps0) with
          | some es => some (.rs h.length k 0 n, h ++ [⟨2, (fixP E e ps0).all fun p => p.2.rf, e, k, es⟩])
          | none => none
        else none
      | _, _, _ => none
    | _ => none
  | .makeSlice T l c => match E.und T, evO t l, evO t c with
    | some (.slice e), some (.int .i64 n), some (.int .i64 m) => match E.zero e, E.size e, E.bytes e with
      | some z, some k, some by_ => if z.cells.length = k ∧ z.okv = true ∧ 0 < k ∧ 0 ≤ n ∧ n ≤ m ∧ m * by_ ≤ 281474976710656 ∧ m < 9223372036854775808 then
          some (.rs h.length k 0 n.toNat, h ++ [⟨2, true, e, k, rep n.toNat z⟩]) else none
      | _, _, _ => none
    | _, _, _ => none
  | .store T a v => match evO t a, evF E T t v with
    | some a, some v => match storeA E h T a v with
      | some h' => some (.dead, h')
      | none => none
    | _, _ => none
  | .convert s d x => match E.und d, evO t x with
    | some (.slice e), some (.str l) => match E.und s, E.und e, E.size e with
      | some _, some (.int .u8), some 1 => some (.sl true 1 (bytesAV l), h)
      | _, _, _ => none
    | _, _ => none
  | .call c => match c.callee with
    | .builtin .append => match c.args.toList, c.argTypes.toList with
      | [s, x], [T, T2] => match evO t s, evO t x with
        | some s, some x => match E.und T2 with
          | some (.slice _) => appendA E h T s x
          | some .string => appendA E h T s x
          | _ => none
        | _, _ => none
      | _, _ => none
    | _ => none
  | _ => none

end

def mapO {α β : Type} (f : α → Option β) : List α → Option (List β)
  | [] => some []
  | x :: r => match f x with
    | some y => match mapO f r with
      | some s => some (y :: s)
      | none => none
    | none => none

/-! ### calls: what is handed over is seen as a tree that is only read; what comes back is a tree, whose own rows are taken in -/
def view (h : List Blk) : Nat → AV → Option AV
  | 0, _ => none
  | n + 1, .rs id _ off len => match blk h id with
    | some b => match seg b.es off len with
      | some l => if b.flat then some (.sl true b.k l) else (mapO (view h n) l).map (.sl true b.k)
      | none => none
    | none => none
  | n + 1, .ptr id idx off => match blk h id with
    | some b => match nth b.es idx with
      | some x => if b.flat then some (.pim x off) else (view h n x).map fun y => .pim y off
      | none => none
    | none => none
  | n + 1, .agg cs => (mapO (view h n) cs).map .agg
  | n + 1, .fn f cap => (mapO (view h n) cap).map (.fn f)
  | _ + 1, .ow .. => none
  | _ + 1, .tup _ => none
  | _ + 1, .dead => none
  | _ + 1, .und => none
  | _ + 1, v => some v

/-- The rows that a view goes through. -/
def reach (h : List Blk) : Nat → AV → List Nat
  | 0, _ => []
  | n + 1, .rs id _ _ _ => match blk h id with
    | some b => if b.flat then [id] else id :: b.es.flatMap (reach h n)
    | none => []
  | n + 1, .ptr id _ _ => match blk h id with
    | some b => if b.flat then [id] else id :: b.es.flatMap (reach h n)
    | none => []
  | n + 1, .agg cs => cs.flatMap (reach h n)
  | n + 1, .fn _ cap => cap.flatMap (reach h n)
  | _ + 1, _ => []

def depth : Nat := 12

/-- A cell of a result. -/
def closeC (h : List Blk) (x : AV) : Option AV :=
  match x with
  | .rs id _ off len => match blk h id with
    | some b => match seg b.es off len with
      | some l => match (if b.flat then some l else mapO (view h depth) l) with
        | some l' => if b.st = 2 then some (.ow b.T b.k l') else some (.sl true b.k l')
        | none => none
      | none => none
    | none => none
  | x => view h depth x

def closeV (h : List Blk) (x : AV) : Option AV :=
  match x with
  | .agg cs => (mapO (closeC h) cs).map .agg
  | x => closeC h x

/-- The own rows that a result hands back. -/
def topC (h : List Blk) : AV → List Nat
  | .rs id _ _ _ => match blk h id with
    | some b => if b.st = 2 then [id] else []
    | none => []
  | _ => []
def topV (h : List Blk) : AV → List Nat
  | .agg cs => cs.flatMap (topC h)
  | x => topC h x
/-- The rows that it leads to besides. -/
def underC (h : List Blk) : AV → List Nat
  | .rs id _ _ _ => match blk h id with
    | some b => if b.flat then (if b.st = 2 then [] else [id]) else (if b.st = 2 then b.es.flatMap (reach h depth) else id :: b.es.flatMap (reach h depth))
    | none => []
  | x => reach h depth x
def underV (h : List Blk) : AV → List Nat
  | .agg cs => cs.flatMap (underC h)
  | x => underC h x

def nodupB : List Nat → Bool
  | [] => true
  | x :: l => !(l.contains x) && nodupB l
def apartB (a b : List Nat) : Bool := a.all fun x => !(b.contains x)

def closeAll (h : List Blk) (vs : List AV) : Option (List AV) :=
  if nodupB (vs.flatMap (topV h)) && apartB (vs.flatMap (topV h)) (vs.flatMap (underV h)) then mapO (closeV h) vs else none

def resVal (E : Env) (s : St) : ResultVar → Option AV
  | .tmp t => nth s.t t
  | .cell a T => match nth s.t a with
    | some p => loadA E s.h T p
    | none => none

def oneOrTup : List AV → Option AV
  | [x] => match x with
    | .tup _ => none
    | x => some x
  | l => some (.tup l)

def close (E : Env) (fn : Func) (s : St) : Option AV :=
  match mapO (resVal E s) fn.results.toList with
  | some vs => match closeAll s.h (fixTs E fn.resultTypes.toList vs) with
    | some rs => oneOrTup rs
    | none => none
  | none => none

/-- The caller takes in what a call handed back. -/
def thawC (h : List Blk) : AV → AV × List Blk
  | .ow T k l => (.rs h.length k 0 l.length, h ++ [⟨2, true, T, k, l⟩])
  | x => (x, h)
def thawCs (h : List Blk) : List AV → List AV × List Blk
  | [] => ([], h)
  | x :: r => let p := thawC h x; let q := thawCs p.2 r; (p.1 :: q.1, q.2)
def thawV (h : List Blk) : AV → AV × List Blk
  | .agg cs => let p := thawCs h cs; (.agg p.1, p.2)
  | x => thawC h x
def thawVs (h : List Blk) : List AV → List AV × List Blk
  | [] => ([], h)
  | x :: r => let p := thawV h x; let q := thawVs p.2 r; (p.1 :: q.1, q.2)
def thaw (h : List Blk) : AV → AV × List Blk
  | .tup vs => let p := thawVs h vs; (.tup p.1, p.2)
  | x => thawV h x

/-- Does a result lead into no memory but its own rows? -/
def scalarT (E : Env) (T : Nat) : Bool :=
  match E.und T with
  | some .bool | some (.int _) | some .string => true
  | _ => false
def bareC : AV → Bool
  | .int .. | .bool _ | .str _ | .nilp | .nilfn => true
  | _ => false
def bareV : AV → Bool
  | .agg cs => cs.all bareC
  | x => bareC x
def solidC : AV → Bool
  | .sl false _ _ => true
  | .ow _ _ l => l.all bareV
  | x => bareC x
def solidV : AV → Bool
  | .agg cs => cs.all solidC
  | x => solidC x
def solid : AV → Bool
  | .tup vs => vs.all solidV
  | x => solidV x

def freezeB (ids : List Nat) : Nat → List Blk → List Blk
  | _, [] => []
  | i, b :: r => (if ids.contains i && b.st == 2 then { b with st := 1 } else b) :: freezeB ids (i + 1) r

def callA (E : Env) (call : Nat → List AV → Option AV) (h : List Blk) (g : Nat) (args : List AV) : Option (AV × List Blk) :=
  match mapO (view h depth) args with
  | some vs => match call g vs with
    | some r =>
      if (args.flatMap (reach h depth)).isEmpty || solid r then some (thaw h r)
      else some (thaw (freezeB (args.flatMap (reach h depth)) 0 h) r)
    | none => none
  | none => none

def evCallee (E : Env) (t : List AV) (c : Call) : Option (Nat × List AV) :=
  match c.callee with
  | .value f => match evO t f, evOs t c.args.toList with
    | some (.fn g cap), some args => if (E.fn g).isSome then some (g, args ++ cap) else none
    | _, _ => none
  | _ => none

/-! ### regions -/
def putA (t : List AV) (d : Option Nat) (v : AV) : List AV :=
  match d with
  | some i => setN t i v
  | none => t

def wantedA (ops : Array Oper) (t : List AV) (o : Oper) : Option Bool :=
  match o.guard with
  | none => some true
  | some (j, want) => match (ops[j]?).bind (·.dst) with
    | some d => match nth t d with
      | some (.bool b) => some (b == want)
      | some .und => some false
      | _ => none
    | none => some false

/-- Ahead of an append: rows that the new elements lead to are only read from now on. -/
def settle (h : List Blk) (x : AV) : Option (List Blk) :=
  match x with
  | .rs id _ _ _ => match blk h id with
    | some b => if b.flat then some h else
      match mapO (view h depth) b.es with
      | some es => if (b.es.flatMap (reach h depth)).contains id then none else
        match nth (freezeB (b.es.flatMap (reach h depth)) 0 h) id with
        | some b1 => some (setN (freezeB (b.es.flatMap (reach h depth)) 0 h) id ⟨b1.st, true, b1.T, b1.k, es⟩)
        | none => none
      | none => none
    | none => none
  | _ => some h
def settleO (h : List Blk) (t : List AV) (c : Call) : Option (List Blk) :=
  match c.args.toList with
  | [_, x] => match evO t x with
    | some x => settle h x
    | none => none
  | _ => some h

def evOp (E : Env) (call : Nat → List AV → Option AV) (h : List Blk) (t : List AV) (o : Oper) : Option (AV × List Blk) :=
  match o.op with
  | .call c => match c.callee with
    | .value _ => match evCallee E t c with
      | some (g, args) => match E.ic call g with
        | some F => F args h
        | none => callA E call h g args
      | none => none
    | .builtin .append => match settleO h t c with
      | some h1 => heapOp E h1 t (.call c)
      | none => none
    | _ => match pureOp E h t (.call c) with
      | some v => some (v, h)
      | none => heapOp E h t (.call c)
  | op => match pureOp E h t op with
    | some v => some (v, h)
    | none => heapOp E h t op

def evOps (E : Env) (call : Nat → List AV → Option AV) (ops : Array Oper) : List Oper → St → Option St
  | [], s => some s
  | o :: r, s => match wantedA ops s.t o with
    | some true => match evOp E call s.h s.t o with
      | some (v, h) => evOps E call ops r ⟨putA s.t o.dst v, h⟩
      | none => none
    | some false => evOps E call ops r ⟨putA s.t o.dst .und, s.h⟩
    | none => none

def posOf (id : Nat) : List Nat → Nat → Option Nat
  | [], _ => none
  | x :: r, i => if x = id then some i else posOf id r (i + 1)

/-! ### a region that draws its order: the operations are carried out in one order; a check by program says that any other comes to the same -/
def detC : AV → Bool
  | .int .. | .bool _ | .str _ => true
  | _ => false
def detR : AV → Bool
  | .tup vs => vs.all detC
  | x => detC x

def detT (E : Env) (ty : Nat) : Bool :=
  match E.und ty with
  | some .bool | some (.int _) | some .string => true
  | some (.tuple ts) => ts.toList.all (scalarT E)
  | _ => false

def quietO (E : Env) (o : Oper) : Bool :=
  match o.op with
  | .call c => match c.callee with
    | .value _ => detT E o.type
    | .builtin .len | .builtin .min | .builtin .max => true
    | _ => false
  | .move _ | .assign _ | .pick .. | .build .. | .load .. | .nilCheck _ | .binOp .. | .unOp .. | .makeFunc .. | .slice .. | .fieldAddr .. | .field ..
  | .indexAddr .. | .index .. | .extract .. => true
  | .convert _ d _ => match E.und d with
    | some (.slice _) => false
    | _ => true
  | _ => false
def readerO (o : Oper) : Bool :=
  match o.op with
  | .call c => match c.callee with
    | .value _ => true
    | _ => false
  | .load .. => true
  | _ => false
def writerO (o : Oper) : Bool :=
  match o.op with
  | .store .. => true
  | .call c => match c.callee with
    | .builtin .append => true
    | _ => false
  | _ => false

/-- The places of what a region makes by 'alloc' and 'box'. -/
def fdsts : List Oper → List Nat
  | [] => []
  | o :: r => match o.op, o.dst with
    | .alloc _, some d => d :: fdsts r
    | .box _ _, some d => d :: fdsts r
    | _, _ => fdsts r
def adsts : List Oper → List Nat
  | [] => []
  | o :: r => match o.op, o.dst with
    | .alloc _, some d => d :: adsts r
    | _, _ => adsts r
def stored (d : Nat) : List Oper → Bool
  | [] => false
  | o :: r => match o.op with
    | .store _ (.tmp e) _ => e == d || stored d r
    | _ => stored d r

inductive Cls where
  | q
  | f
  | l
  deriving DecidableEq

/-- quiet · writes one new row's place alone · all else -/
def clsO (E : Env) (ops : Array Oper) (o : Oper) : Cls :=
  if quietO E o then .q else
  match o.op with
  | .alloc _ | .box _ _ => .f
  | .store _ (.tmp d) _ => if (adsts ops.toList).contains d then .f else .l
  | _ => .l

/-- May operation u, which comes first in the order told, also come behind i? -/
def swapOk (E : Env) (ops : Array Oper) (u i : Oper) : Bool :=
  u.apart ops i && match clsO E ops u, clsO E ops i with
    | .q, .q => true
    | .q, .f => true
    | .q, .l => !(writerO i) || !(readerO u)
    | .f, .f => true
    | .l, .f => true
    | _, _ => false

/-- quiet: a value alone -/
def qOp (E : Env) (call : Nat → List AV → Option AV) (h : List Blk) (t : List AV) (o : Oper) : Option AV :=
  match o.op with
  | .call c => match c.callee with
    | .value _ => match evCallee E t c with
      | some (g, args) => match mapO (view h depth) args with
        | some vs => match call g vs with
          | some r => if detR r then some r else none
          | none => none
        | none => none
      | none => none
    | _ => pureOp E h t (.call c)
  | op => pureOp E h t op

/-- Is this place kept free? -/
def free (h : List Blk) (id : Nat) : Bool :=
  match nth h id with
  | some b => b.st == 0 && b.k == 0
  | none => false

/-- a value, and what a row's place holds from now on -/
def fOp (E : Env) (base : Nat) (ops : Array Oper) (h : List Blk) (t : List AV) (o : Oper) : Option (AV × Nat × Blk) :=
  match o.op with
  | .alloc T => match o.dst with
    | some d => match posOf d (fdsts ops.toList) 0, E.zero T, E.size T with
      | some i, some z, some k => if z.cells.length = k ∧ z.okv = true ∧ free h (base + i) = true then
          some (.ptr (base + i) 0 0, base + i, ⟨if stored d ops.toList then 3 else 2, true, T, k, [z]⟩) else none
      | _, _, _ => none
    | none => none
  | .box T x => match o.dst with
    | some d => match posOf d (fdsts ops.toList) 0, evF E T t x, E.size T with
      | some i, some v, some k => if v.cells.length = k ∧ v.okv = true ∧ free h (base + i) = true then some (.ptr (base + i) 0 0, base + i, ⟨2, v.rf, T, k, [v]⟩) else none
      | _, _, _ => none
    | none => none
  | .store T (.tmp d) x => match posOf d (fdsts ops.toList) 0, nth t d, evF E T t x with
    | some i, some (.ptr id 0 0), some v => if id = base + i then
        match nth h id, E.size T with
        | some b, some n => if b.st = 3 ∧ v.cells.length = n ∧ b.k = n ∧ v.okv = true ∧ b.es.length = 1 then some (.und, id, ⟨2, v.rf, b.T, b.k, [v]⟩) else none
        | _, _ => none
      else none
    | _, _, _ => none
  | _ => none

def rfV : AV → Bool
  | .agg cs => cs.all AV.rf1
  | v => v.rf1

def lOp (E : Env) (call : Nat → List AV → Option AV) (h : List Blk) (t : List AV) (o : Oper) : Option (AV × List Blk) :=
  match o.op with
  | .call c => match c.callee with
    | .value _ => match evCallee E t c with
      | some (g, args) => match mapO (view h depth) args with
        | some vs => match call g vs with
          | some r => if args.all rfV || solid r then some (thaw h r) else none
          | none => none
        | none => none
      | none => none
    | _ => heapOp E h t (.call c)
  | op => heapOp E h t op

def stepD (E : Env) (call : Nat → List AV → Option AV) (base : Nat) (ops : Array Oper) (o : Oper) (s : St) : Option St :=
  match wantedA ops s.t o with
  | some true => match clsO E ops o with
    | .q => match qOp E call s.h s.t o with
      | some v => some ⟨putA s.t o.dst v, s.h⟩
      | none => none
    | .f => match fOp E base ops s.h s.t o with
      | some (v, id, b) => if id < s.h.length then some ⟨putA s.t o.dst v, setN s.h id b⟩ else none
      | none => none
    | .l => match lOp E call s.h s.t o with
      | some (v, h) => some ⟨putA s.t o.dst v, h⟩
      | none => none
  | some false => some ⟨putA s.t o.dst .und, s.h⟩
  | none => none

def evDraw (E : Env) (call : Nat → List AV → Option AV) (base : Nat) (ops : Array Oper) : List Oper → St → Option St
  | [], s => some s
  | o :: r, s => match stepD E call base ops o s with
    | some s1 => evDraw E call base ops r s1
    | none => none

def reachB (ops : Array Oper) : Nat → Nat → Nat → Bool
  | 0, _, _ => false
  | n + 1, i, u => match ops[i]? with
    | some o => o.after.toList.any fun e => Region.binds .any e && (e.on == u || reachB ops n e.on u)
    | none => false

def directB (ops : Array Oper) (i u : Nat) : Bool :=
  match ops[i]? with
  | some o => o.after.toList.any fun e => Region.binds .any e && e.on == u
  | none => false

/-- The order: a permutation; nothing ahead of what it waits for; two of which neither waits for the other may change places. -/
def pairsOk (E : Env) (ops : Array Oper) : List Nat → Bool
  | [] => true
  | u :: r => (match ops[u]? with
    | some ou => !(directB ops u u) && (ou.after.toList.all fun e => !(Region.binds .any e) || e.on < ops.size) && r.all fun i => match ops[i]? with
      | some oi => !(directB ops u i) && (reachB ops ops.size i u || swapOk E ops ou oi)
      | none => false
    | none => false) && pairsOk E ops r

def ordOk (E : Env) (ops : Array Oper) (ord : List Nat) : Bool :=
  nodupB ord && ord.length == ops.size && ord.all (· < ops.size) && pairsOk E ops ord && (List.range ops.size).all (ord.contains ·)

def pickOps (ops : Array Oper) (ord : List Nat) : List Oper := ord.filterMap (nth ops.toList)

/-! ### a round of a loop begins: what is not kept is forgotten, the rows are numbered anew -/
def refs : Nat → AV → List Nat
  | 0, _ => []
  | _ + 1, .rs id _ _ _ => [id]
  | _ + 1, .ptr id _ _ => [id]
  | n + 1, .agg cs => cs.flatMap (refs n)
  | n + 1, .tup vs => vs.flatMap (refs n)
  | n + 1, .fn _ cap => cap.flatMap (refs n)
  | _ + 1, _ => []

def collect (h : List Blk) : Nat → List Nat → List Nat → List Nat
  | 0, _, seen => seen
  | _, [], seen => seen
  | n + 1, id :: todo, seen =>
    if seen.contains id then collect h n todo seen else
    match blk h id with
    | some b => if b.flat then collect h n todo (seen ++ [id]) else collect h n (todo ++ b.es.flatMap (refs depth)) (seen ++ [id])
    | none => collect h n todo seen

def remap (ids : List Nat) : Nat → AV → AV
  | 0, _ => .dead
  | _ + 1, .rs id k off len => match posOf id ids 0 with
    | some i => .rs i k off len
    | none => .dead
  | _ + 1, .ptr id idx off => match posOf id ids 0 with
    | some i => .ptr i idx off
    | none => .dead
  | n + 1, .agg cs => .agg (cs.map (remap ids n))
  | n + 1, .tup vs => .tup (vs.map (remap ids n))
  | n + 1, .fn f cap => .fn f (cap.map (remap ids n))
  | _ + 1, x => x

def keepT (keep : List Nat) : Nat → List AV → List AV
  | _, [] => []
  | i, x :: r => (if keep.contains i then x else .dead) :: keepT keep (i + 1) r

def gcRow (ids : List Nat) (b : Blk) : Option Blk :=
  if b.flat then some b else
  if (b.es.map (remap ids depth)).all AV.okv then some { b with es := b.es.map (remap ids depth) } else none

/-- Rows that are not this call's (below 'base') stay where they are. -/
def gcRow1 (ids : List Nat) (b : Blk) : Option Blk := if b.st = 1 ∨ b.st = 2 then gcRow ids b else some b
def lowRefs : Nat → List Blk → List Nat
  | 0, _ => []
  | _, [] => []
  | n + 1, b :: r => (if b.flat then [] else if b.st = 1 ∨ b.st = 2 then b.es.flatMap (refs depth) else []) ++ lowRefs n r
def upto : Nat → List Nat → List Nat
  | 0, l => l
  | n + 1, l => upto n (n :: l)
def dropLow (base : Nat) : List Nat → List Nat
  | [] => []
  | i :: l => if i < base then dropLow base l else i :: dropLow base l

def gc (base : Nat) (keep : List Nat) (s : St) : Option St :=
  let t := keepT keep 0 s.t
  let ids := upto base (dropLow base (collect s.h 1000 (t.flatMap (refs depth) ++ lowRefs base s.h) []))
  match mapO (fun id => match nth s.h id with
    | some b => gcRow1 ids b
    | none => none) ids with
  | some h => if nodupB ids then some ⟨t.map (remap ids depth), h⟩ else none
  | none => none

def firstReg : Code → Nat
  | .region id _ _ => id
  | .seq a _ => firstReg a
  | .block _ c => firstReg c
  | .loop c => firstReg c
  | .scope c => firstReg c
  | _ => 0

def head (E : Env) (f : Nat) (c : Code) (s : St) : Option St :=
  match E.keep f (firstReg c) with
  | some l => gc E.base l s
  | none => some s

/-- Where a loop or the body is left, what is not kept is forgotten. -/
def prune (E : Env) (f key : Nat) (s : St) : St :=
  match E.keep f key with
  | some l => ⟨keepT l 0 s.t, s.h⟩
  | none => s

/-! ### code -/
inductive Ex where
  | norm
  | ex (id : Nat)
  | ret

def iter : Nat → (St → Option (Ex × St)) → St → Option (Ex × St)
  | 0, _, _ => none
  | n + 1, g, s => match g s with
    | some (.norm, s1) => iter n g s1
    | r => r

def evCode (E : Env) (call : Nat → List AV → Option AV) (n f : Nat) : Code → St → Option (Ex × St)
  | .skip, s => some (.norm, s)
  | .region id ops draw, s =>
    if draw then
      match E.ord f id with
      | some ord => (evDraw E call s.h.length ops (pickOps ops ord) ⟨s.t, s.h ++ rep (fdsts ops.toList).length ⟨0, true, 0, 0, []⟩⟩).map fun s => (.norm, s)
      | none => none
    else (evOps E call ops ops.toList s).map fun s => (.norm, s)
  | .seq a b, s => match evCode E call n f a s with
    | some (.norm, s1) => evCode E call n f b s1
    | r => r
  | .cond c a b, s => match evO s.t c with
    | some (.bool true) => evCode E call n f a s
    | some (.bool false) => evCode E call n f b s
    | _ => none
  | .block id c, s => match evCode E call n f c s with
    | some (.ex i, s1) => if i = id then some (.norm, s1) else some (.ex i, s1)
    | r => r
  | .loop c, s => iter n (fun s => match head E f c s with
    | some s1 => evCode E call n f c s1
    | none => none) s
  | .exit id, s => some (.ex id, prune E f (1000 + id) s)
  | .label _, s => some (.norm, s)
  | .ret, s => some (.ret, prune E f 999 s)
  | _, _ => none

/-- Each region of a function's code that draws has its order, and the order holds. -/
def regOk (E : Env) (f : Nat) : Code → Bool
  | .region id ops draw => if draw then (match E.ord f id with
    | some ord => ordOk E ops ord
    | none => true) else true
  | .seq a b => regOk E f a && regOk E f b
  | .cond _ a b => regOk E f a && regOk E f b
  | .block _ c => regOk E f c
  | .loop c => regOk E f c
  | _ => true

def evBody (E : Env) (call : Nat → List AV → Option AV) (n f : Nat) (fn : Func) (c : Code) (args : List AV) : Option AV :=
  match evCode E call n f c ⟨args ++ rep (fn.ntmps - args.length) .und, []⟩ with
  | some (.norm, s) => close E fn s
  | some (.ret, s) => close E fn s
  | _ => none

/-- A call that works on the caller's rows. -/
def iClose (E : Env) (fn : Func) (s : St) : Option (AV × List Blk) :=
  match mapO (resVal E s) fn.results.toList with
  | some vs => match oneOrTup vs with
    | some r => some (r, s.h)
    | none => none
  | none => none
def iBody (E : Env) (call : Nat → List AV → Option AV) (n f : Nat) (fn : Func) (c : Code) (args : List AV) (h : List Blk) : Option (AV × List Blk) :=
  match evCode { E with base := h.length } call n f c ⟨args ++ rep (fn.ntmps - args.length) .und, h⟩ with
  | some (.norm, s) => iClose E fn s
  | some (.ret, s) => iClose E fn s
  | _ => none
def iFun (E : Env) (call : Nat → List AV → Option AV) (n f : Nat) (args : List AV) (h : List Blk) : Option (AV × List Blk) :=
  match E.fn f with
  | some fn => match fn.body with
    | some c => iBody E call n f fn c args h
    | none => none
  | none => none

def evCall (E : Env) : Nat → Nat → List AV → Option AV
  | 0, _, _ => none
  | n + 1, f, args => match E.orc f with
    | some g => g args
    | none => match E.fn f with
      | some fn => match fn.body with
        | some c => evBody E (evCall E n) n f fn c args
        | none => none
      | none => none

end Go.VE
end
section
set_option linter.unusedVariables false
set_option linter.unusedSimpArgs false
set_option linter.unusedSectionVars false
namespace Go.VE
open Go.RowKit

structure Loc where
  g : Nat
  o : Nat
  k : Nat
  sz : Nat
abbrev Mu := Nat → Option Loc
def noMu : Mu := fun _ => none

theorem nth_eq {α : Type} : ∀ (l : List α) (i : Nat), nth l i = l[i]?
  | [], i => by simp [nth]
  | x :: l, 0 => by simp [nth]
  | x :: l, i + 1 => by simp [nth, nth_eq l i]
theorem setN_eq {α : Type} : ∀ (l : List α) (i : Nat) (x : α), setN l i x = l.set i x
  | [], i, x => by simp [setN]
  | y :: l, 0, x => by simp [setN]
  | y :: l, i + 1, x => by simp [setN, setN_eq l i x]
theorem rep_eq {α : Type} (n : Nat) (x : α) : rep n x = List.replicate n x := by
  induction n with
  | zero => rfl
  | succ n ih => simp [rep, ih, List.replicate_succ]

/-- What a slice of a row of the call's own is as a value. -/
def RsAt (L : Loc) (off len : Nat) (v : Value) : Prop :=
  (∃ cap, v = .slice (some ⟨L.g, L.o + off * L.k, none⟩) len cap ∧ len ≤ cap ∧ off * L.k + cap * L.k ≤ L.sz) ∨
  (len = 0 ∧ ∃ ad, v = .slice (some ad) 0 0)

mutual
/-- The value v is the tree; what it leads to lies in the world w, in no block of S but by way of μ. -/
def R (w : World) (S : Nat → Prop) : AV → Mu → Value → Prop
  | .int k n, _, v => v = .int k n
  | .bool b, _, v => v = .bool b
  | .str s, _, v => v = .string ⟨s.toArray⟩
  | .sl b k l, _, v => (b = false ∧ l = [] ∧ v = .slice none 0 0) ∨ (b = true ∧ ∃ ad cap, v = .slice (some ad) l.length cap ∧ l.length ≤ cap ∧ RowAt w S l ad k 0)
  | .rs id k off len, μ, v => ∃ L, μ id = some L ∧ L.k = k ∧ RsAt L off len v
  | .ow .., _, _ => False
  | .nilp, _, v => v = .pointer none
  | .ptr id idx off, μ, v => ∃ L, μ id = some L ∧ v = .pointer (some ⟨L.g, L.o + idx * L.k + off, none⟩)
  | .pim x off, _, v => ∃ ad : Addr, v = .pointer (some (ad.add off)) ∧ (ad.block < w.heap.size ∧ ¬ S ad.block) ∧ x.okv = true ∧ ∃ u : Value, R w S x noMu u ∧ ∀ (j : Nat) (c : Value), u.cells[j]? = some c → w.cell? (ad.add j) = some c
  | .agg cs, μ, v => ∃ l : List Value, v = .agg l.toArray ∧ Rs w S cs μ l
  | .tup vs, μ, v => ∃ l : List Value, v = .tuple l.toArray ∧ Rs w S vs μ l
  | .fn f cap, μ, v => ∃ l : List Value, v = .func (.func f) #[] l.toArray ∧ Rs w S cap μ l
  | .nilfn, _, v => v = .nilFunc
  | .und, _, v => v = undef
  | .dead, _, _ => True
def Rs (w : World) (S : Nat → Prop) : List AV → Mu → List Value → Prop
  | [], _, l => l = []
  | x :: r, μ, l => ∃ v l', l = v :: l' ∧ R w S x μ v ∧ Rs w S r μ l'
def RowAt (w : World) (S : Nat → Prop) : List AV → Addr → Nat → Nat → Prop
  | [], _, _, _ => True
  | x :: r, ad, k, i => ((ad.block < w.heap.size ∧ ¬ S ad.block) ∧ x.okv = true ∧ ∃ u : Value, R w S x noMu u ∧ u.cells.size = k ∧ ∀ (j : Nat) (c : Value), u.cells[j]? = some c → w.cell? (ad.add (i + j)) = some c) ∧ RowAt w S r ad k (i + k)
end

/-- A row's elements among the cells c, from place 'i' on. -/
def RowC (w : World) (S : Nat → Prop) (μ : Mu) (c : Array Value) (k : Nat) : List AV → Nat → Prop
  | [], _ => True
  | x :: r, i => (x.okv = true ∧ ∃ u : Value, R w S x μ u ∧ u.cells.size = k ∧ ∀ (j : Nat) (d : Value), u.cells[j]? = some d → c[i + j]? = some d) ∧ RowC w S μ c k r (i + k)

/-- What was there outside S still is, and is still outside. -/
structure Kept (w : World) (S : Nat → Prop) (w' : World) (S' : Nat → Prop) : Prop where
  size : w.heap.size ≤ w'.heap.size
  heap : ∀ g, ¬ S g → g < w.heap.size → w'.heap[g]? = w.heap[g]?
  out : ∀ g, g < w.heap.size → S' g → S g

theorem Kept.cell {w w' : World} {S S' : Nat → Prop} (h : Kept w S w' S') {a : Addr} {v : Value} (ha : ¬ S a.block) (hc : w.cell? a = some v) : w'.cell? a = some v := by
  have := World.block_lt_of_cell? w a hc
  rw [World.cell?_of_block (w := w) (h.heap _ ha this)]; exact hc
theorem Kept.not {w w' : World} {S S' : Nat → Prop} (h : Kept w S w' S') {g : Nat} (hg : g < w.heap.size) (hn : ¬ S g) : ¬ S' g := fun hs => hn (h.out g hg hs)

theorem noMu_le (μ : Mu) : ∀ id L, noMu id = some L → μ id = some L := fun _ _ h => by cases h

theorem block_add (ad : Addr) (n : Nat) : (ad.add n).block = ad.block := by unfold Addr.add; split <;> rfl
theorem add_add (ad : Addr) (m n : Nat) : (ad.add m).add n = ad.add (m + n) := by
  unfold Addr.add
  by_cases h : m = 0 <;> by_cases h' : n = 0 <;> simp [h, h', Nat.add_assoc]
theorem add_zero (ad : Addr) : ad.add 0 = ad := by simp [Addr.add]
theorem add_none (g o n : Nat) : (⟨g, o, none⟩ : Addr).add n = ⟨g, o + n, none⟩ := by unfold Addr.add; split <;> simp_all

theorem cells_pos {u : Value} {k : Nat} (h : u.cells.size = k) (hk : 0 < k) : ∃ c, u.cells[0]? = some c := ⟨u.cells[0], by simp [h, hk]⟩

mutual
theorem R_mono {w w' : World} {S S' : Nat → Prop} (hk : Kept w S w' S') : ∀ (x : AV) {μ μ' : Mu} (_ : ∀ id L, μ id = some L → μ' id = some L) {v : Value}, R w S x μ v → R w' S' x μ' v
  | .int .., _, _, _, _, h => by simpa [R] using h
  | .bool _, _, _, _, _, h => by simpa [R] using h
  | .str _, _, _, _, _, h => by simpa [R] using h
  | .sl b k l, μ, μ', hm, v, h => by
    simp only [R] at h ⊢
    rcases h with h | ⟨h1, ad, cap, h2, h3, h4⟩
    · exact .inl h
    · exact .inr ⟨h1, ad, cap, h2, h3, RowAt_mono hk l h4⟩
  | .rs .., _, _, hm, _, h => by
    simp only [R] at h ⊢
    obtain ⟨L, h1, h2, h3⟩ := h
    exact ⟨L, hm _ _ h1, h2, h3⟩
  | .ow .., _, _, _, _, h => by simp [R] at h
  | .nilp, _, _, _, _, h => by simpa [R] using h
  | .ptr .., _, _, hm, _, h => by
    simp only [R] at h ⊢
    obtain ⟨L, h1, h2⟩ := h
    exact ⟨L, hm _ _ h1, h2⟩
  | .pim x off, _, _, _, _, h => by
    simp only [R] at h ⊢
    obtain ⟨ad, h1, h2, ho, u, h3, h4⟩ := h
    exact ⟨ad, h1, ⟨Nat.lt_of_lt_of_le h2.1 hk.size, hk.not h2.1 h2.2⟩, ho, u, R_mono hk x (noMu_le _) h3, fun j c hc => hk.cell (by rw [block_add]; exact h2.2) (h4 j c hc)⟩
  | .agg cs, _, _, hm, _, h => by
    simp only [R] at h ⊢
    obtain ⟨l, h1, h2⟩ := h
    exact ⟨l, h1, Rs_mono hk cs hm h2⟩
  | .tup cs, _, _, hm, _, h => by
    simp only [R] at h ⊢
    obtain ⟨l, h1, h2⟩ := h
    exact ⟨l, h1, Rs_mono hk cs hm h2⟩
  | .fn _ cs, _, _, hm, _, h => by
    simp only [R] at h ⊢
    obtain ⟨l, h1, h2⟩ := h
    exact ⟨l, h1, Rs_mono hk cs hm h2⟩
  | .nilfn, _, _, _, _, h => by simpa [R] using h
  | .und, _, _, _, _, h => by simpa [R] using h
  | .dead, _, _, _, _, _ => by simp [R]
theorem Rs_mono {w w' : World} {S S' : Nat → Prop} (hk : Kept w S w' S') : ∀ (x : List AV) {μ μ' : Mu} (_ : ∀ id L, μ id = some L → μ' id = some L) {l : List Value}, Rs w S x μ l → Rs w' S' x μ' l
  | [], _, _, _, _, h => by simpa [Rs] using h
  | x :: r, _, _, hm, _, h => by
    simp only [Rs] at h ⊢
    obtain ⟨v, l', h1, h2, h3⟩ := h
    exact ⟨v, l', h1, R_mono hk x hm h2, Rs_mono hk r hm h3⟩
theorem RowAt_mono {w w' : World} {S S' : Nat → Prop} (hk : Kept w S w' S') : ∀ (x : List AV) {ad : Addr} {k i : Nat}, RowAt w S x ad k i → RowAt w' S' x ad k i
  | [], _, _, _, _ => by simp [RowAt]
  | x :: r, ad, k, i, h => by
    simp only [RowAt] at h ⊢
    obtain ⟨⟨h1, ho, u, h2, h3, h4⟩, h5⟩ := h
    exact ⟨⟨⟨Nat.lt_of_lt_of_le h1.1 hk.size, hk.not h1.1 h1.2⟩, ho, u, R_mono hk x (noMu_le _) h2, h3, fun j c hc => hk.cell (by rw [block_add]; exact h1.2) (h4 j c hc)⟩, RowAt_mono hk r h5⟩
end

theorem Rs_len {w : World} {S : Nat → Prop} {μ : Mu} : ∀ {xs : List AV} {l : List Value}, Rs w S xs μ l → xs.length = l.length
  | [], l, h => by simp only [Rs] at h; simp [h]
  | x :: r, l, h => by
    simp only [Rs] at h
    obtain ⟨v, l', rfl, _, h3⟩ := h
    simp [Rs_len h3]
theorem Rs_get {w : World} {S : Nat → Prop} {μ : Mu} : ∀ {xs : List AV} {l : List Value}, Rs w S xs μ l → ∀ (i : Nat) (x : AV), xs[i]? = some x → ∃ v, l[i]? = some v ∧ R w S x μ v
  | [], _, _, i, x, hx => by simp at hx
  | y :: r, l, h, i, x, hx => by
    simp only [Rs] at h
    obtain ⟨v, l', rfl, h2, h3⟩ := h
    cases i with
    | zero => simp only [List.getElem?_cons_zero, Option.some.injEq] at hx; exact ⟨v, by simp, hx ▸ h2⟩
    | succ i => simp only [List.getElem?_cons_succ] at hx ⊢; exact Rs_get h3 i x hx
theorem Rs_of {w : World} {S : Nat → Prop} {μ : Mu} : ∀ {xs : List AV} {l : List Value}, xs.length = l.length → (∀ (i : Nat) (x : AV) (v : Value), xs[i]? = some x → l[i]? = some v → R w S x μ v) → Rs w S xs μ l
  | [], l, h, _ => by simp only [Rs]; exact List.length_eq_zero_iff.1 h.symm
  | y :: r, [], h, _ => by simp at h
  | y :: r, v :: l, h, hr => by
    simp only [Rs]
    exact ⟨v, l, rfl, hr 0 y v (by simp) (by simp), Rs_of (by simpa using h) fun i x u hx hu => hr (i + 1) x u (by simpa using hx) (by simpa using hu)⟩
theorem Rs_append {w : World} {S : Nat → Prop} {μ : Mu} : ∀ {xs ys : List AV} {l m : List Value}, Rs w S xs μ l → Rs w S ys μ m → Rs w S (xs ++ ys) μ (l ++ m)
  | [], _, l, _, h, h' => by simp only [Rs] at h; subst h; simpa using h'
  | x :: r, ys, l, m, h, h' => by
    simp only [Rs] at h
    obtain ⟨v, l', rfl, h2, h3⟩ := h
    simp only [List.cons_append, Rs]
    exact ⟨v, l' ++ m, rfl, h2, Rs_append h3 h'⟩
theorem Rs_take {w : World} {S : Nat → Prop} {μ : Mu} {xs : List AV} {l : List Value} (h : Rs w S xs μ l) (n : Nat) : Rs w S (xs.take n) μ (l.take n) := by
  refine Rs_of (by simp [Rs_len h]) fun i x v hx hv => ?_
  simp only [List.getElem?_take] at hx hv
  split at hx
  · rename_i hi
    simp only [hi, if_true] at hv
    obtain ⟨u, hu, hr⟩ := Rs_get h i x hx
    rw [hv] at hu; cases hu; exact hr
  · simp at hx
theorem Rs_drop {w : World} {S : Nat → Prop} {μ : Mu} {xs : List AV} {l : List Value} (h : Rs w S xs μ l) (n : Nat) : Rs w S (xs.drop n) μ (l.drop n) := by
  refine Rs_of (by simp [Rs_len h]) fun i x v hx hv => ?_
  simp only [List.getElem?_drop] at hx hv
  obtain ⟨u, hu, hr⟩ := Rs_get h _ x hx
  rw [hv] at hu; cases hu; exact hr

def ElemAt (w : World) (S : Nat → Prop) (x : AV) (ad : Addr) (k i : Nat) : Prop :=
  (ad.block < w.heap.size ∧ ¬ S ad.block) ∧ x.okv = true ∧ ∃ u : Value, R w S x noMu u ∧ u.cells.size = k ∧ ∀ (j : Nat) (c : Value), u.cells[j]? = some c → w.cell? (ad.add (i + j)) = some c
def ElemC (w : World) (S : Nat → Prop) (μ : Mu) (c : Array Value) (k : Nat) (x : AV) (i : Nat) : Prop :=
  x.okv = true ∧ ∃ u : Value, R w S x μ u ∧ u.cells.size = k ∧ ∀ (j : Nat) (d : Value), u.cells[j]? = some d → c[i + j]? = some d

theorem RowAt_get {w : World} {S : Nat → Prop} : ∀ {l : List AV} {ad : Addr} {k i0 : Nat}, RowAt w S l ad k i0 → ∀ (i : Nat) (x : AV), l[i]? = some x → ElemAt w S x ad k (i0 + i * k)
  | [], _, _, _, _, i, x, hx => by simp at hx
  | y :: r, ad, k, i0, h, i, x, hx => by
    simp only [RowAt] at h
    cases i with
    | zero => simp only [List.getElem?_cons_zero, Option.some.injEq] at hx; subst hx; simpa [ElemAt] using h.1
    | succ i =>
      have := RowAt_get h.2 i x (by simpa using hx)
      rwa [show i0 + k + i * k = i0 + (i + 1) * k by rw [Nat.add_mul]; omega] at this
theorem RowAt_of {w : World} {S : Nat → Prop} : ∀ {l : List AV} {ad : Addr} {k i0 : Nat}, (∀ (i : Nat) (x : AV), l[i]? = some x → ElemAt w S x ad k (i0 + i * k)) → RowAt w S l ad k i0
  | [], _, _, _, _ => by simp [RowAt]
  | y :: r, ad, k, i0, h => by
    simp only [RowAt]
    refine ⟨by simpa [ElemAt] using h 0 y (by simp), RowAt_of fun i x hx => ?_⟩
    have := h (i + 1) x (by simpa using hx)
    rwa [show i0 + (i + 1) * k = i0 + k + i * k by rw [Nat.add_mul]; omega] at this
theorem RowC_get {w : World} {S : Nat → Prop} {μ : Mu} {c : Array Value} {k : Nat} : ∀ {l : List AV} {i0 : Nat}, RowC w S μ c k l i0 → ∀ (i : Nat) (x : AV), l[i]? = some x → ElemC w S μ c k x (i0 + i * k)
  | [], _, _, i, x, hx => by simp at hx
  | y :: r, i0, h, i, x, hx => by
    simp only [RowC] at h
    cases i with
    | zero => simp only [List.getElem?_cons_zero, Option.some.injEq] at hx; subst hx; simpa [ElemC] using h.1
    | succ i =>
      have := RowC_get h.2 i x (by simpa using hx)
      rwa [show i0 + k + i * k = i0 + (i + 1) * k by rw [Nat.add_mul]; omega] at this
theorem RowC_of {w : World} {S : Nat → Prop} {μ : Mu} {c : Array Value} {k : Nat} : ∀ {l : List AV} {i0 : Nat}, (∀ (i : Nat) (x : AV), l[i]? = some x → ElemC w S μ c k x (i0 + i * k)) → RowC w S μ c k l i0
  | [], _, _ => by simp [RowC]
  | y :: r, i0, h => by
    simp only [RowC]
    refine ⟨by simpa [ElemC] using h 0 y (by simp), RowC_of fun i x hx => ?_⟩
    have := h (i + 1) x (by simpa using hx)
    rwa [show i0 + (i + 1) * k = i0 + k + i * k by rw [Nat.add_mul]; omega] at this
theorem RowC_mono {w w' : World} {S S' : Nat → Prop} (hk : Kept w S w' S') {μ μ' : Mu} (hm : ∀ id L, μ id = some L → μ' id = some L) {c : Array Value} {k : Nat} {l : List AV} {i0 : Nat} (h : RowC w S μ c k l i0) : RowC w' S' μ' c k l i0 :=
  RowC_of fun i x hx => let ⟨ho, u, h1, h2⟩ := RowC_get h i x hx; ⟨ho, u, R_mono hk x hm h1, h2⟩

theorem R_noMu {w : World} {S : Nat → Prop} {x : AV} {μ : Mu} {v : Value} (h : R w S x noMu v) : R w S x μ v :=
  R_mono ⟨Nat.le_refl _, fun _ _ _ => rfl, fun _ _ h => h⟩ x (noMu_le μ) h

/-- A value whose cells may be stored: its cells, one by one. -/
theorem sto_one {w : World} {S : Nat → Prop} {x : AV} {μ : Mu} {v : Value} (h : R w S x μ v) (hs : x.sto = true) : v.oneCell' = true ∧ v.cells = #[v] := by
  cases x <;> simp only [AV.sto, R, Bool.false_eq_true] at hs h
  all_goals first
    | (subst h; exact ⟨rfl, rfl⟩)
    | (rcases h with ⟨_, _, rfl⟩ | ⟨_, ad, cap, rfl, _⟩ <;> exact ⟨rfl, rfl⟩)
    | (obtain ⟨L, _, h⟩ := h; first | (subst h; exact ⟨rfl, rfl⟩) | (rcases h.2 with ⟨cap, rfl, _⟩ | ⟨_, ad, rfl⟩ <;> exact ⟨rfl, rfl⟩))
    | (obtain ⟨ad, rfl, _⟩ := h; exact ⟨rfl, rfl⟩)
theorem okv_cells {w : World} {S : Nat → Prop} {x : AV} {μ : Mu} {v : Value} (h : R w S x μ v) (hs : x.okv = true) :
    Rs w S x.cells μ v.cells.toList ∧ v.cells.size = x.cells.length ∧ (∀ c ∈ v.cells.toList, c.oneCell' = true) := by
  have hone : ∀ (y : AV), x = y → y.sto = true → y.cells = [y] → Rs w S x.cells μ v.cells.toList ∧ v.cells.size = x.cells.length ∧ (∀ c ∈ v.cells.toList, c.oneCell' = true) := by
    rintro y rfl h1 h2
    obtain ⟨h3, h4⟩ := sto_one h h1
    rw [h4, h2]
    refine ⟨by simp only [Rs]; exact ⟨v, [], rfl, h, rfl⟩, rfl, ?_⟩
    simp [h3]
  cases x with
  | agg cs =>
    simp only [R] at h
    obtain ⟨l, rfl, h⟩ := h
    have hl := Rs_len h
    refine ⟨by simpa [AV.cells, Value.cells] using h, by simp [Value.cells, AV.cells, hl], fun c hc => ?_⟩
    simp only [Value.cells, List.mem_iff_getElem?] at hc
    obtain ⟨i, hi⟩ := hc
    simp only [AV.okv, AV.cells, List.all_eq_true] at hs
    have hlt : i < cs.length := by
      rw [hl]; exact (List.getElem?_eq_some_iff.1 (by simpa using hi)).1
    obtain ⟨u, hu, hr⟩ := Rs_get h i cs[i] (by simp [hlt])
    have : u = c := by simpa [hu] using hi
    subst this
    exact (sto_one hr (hs _ (List.getElem_mem hlt))).1
  | tup _ => simp [AV.okv, AV.cells, AV.sto] at hs
  | ow _ _ _ => simp [AV.okv, AV.cells, AV.sto] at hs
  | dead => simp [AV.okv, AV.cells, AV.sto] at hs
  | und => simp [AV.okv, AV.cells, AV.sto] at hs
  | int _ _ => exact hone _ rfl rfl rfl
  | bool _ => exact hone _ rfl rfl rfl
  | str _ => exact hone _ rfl rfl rfl
  | sl _ _ _ => exact hone _ rfl rfl rfl
  | rs _ _ _ => exact hone _ rfl rfl rfl
  | nilp => exact hone _ rfl rfl rfl
  | ptr _ _ _ => exact hone _ rfl rfl rfl
  | pim _ _ => exact hone _ rfl rfl rfl
  | fn f cap =>
    refine hone _ rfl ?_ rfl
    simpa [AV.okv, AV.cells] using hs
  | nilfn => exact hone _ rfl rfl rfl

/-- What leads to no row of the call's own needs no μ. -/
theorem rf1_noMu {w : World} {S : Nat → Prop} {x : AV} {μ : Mu} {v : Value} (h : R w S x μ v) (hs : x.rf1 = true) : R w S x noMu v := by
  cases x <;> simp only [AV.rf1, Bool.false_eq_true] at hs <;> try exact h
  rename_i f cap
  have : cap = [] := by simpa using hs
  subst this
  exact h
theorem rf_noMu {w : World} {S : Nat → Prop} {x : AV} {μ : Mu} {v : Value} (h : R w S x μ v) (hs : x.rf = true) : R w S x noMu v := by
  cases x with
  | agg cs =>
    simp only [AV.rf, List.all_eq_true] at hs
    simp only [R] at h ⊢
    obtain ⟨l, rfl, h⟩ := h
    exact ⟨l, rfl, Rs_of (Rs_len h) fun i x v hx hv => by
      obtain ⟨u, hu, hr⟩ := Rs_get h i x hx
      rw [hv] at hu; cases hu
      exact rf1_noMu hr (hs _ (List.mem_of_getElem? hx))⟩
  | _ => exact rf1_noMu h hs
theorem fixC_R {w : World} {S : Nat → Prop} {μ : Mu} {k : Nat} {x : AV} {v : Value} (h : R w S x μ v) : R w S (fixC k x) μ v := by
  unfold fixC
  split
  · split
    · exact h
    · split
      · simp only [R] at h ⊢
        rcases h with h | h
        · exact .inl h
        · exact absurd h.1 (by simp)
      · exact h
  · exact h
theorem fixCs_R {w : World} {S : Nat → Prop} {μ : Mu} : ∀ {ks : List Nat} {cs : List AV} {l : List Value}, Rs w S cs μ l → Rs w S (fixCs ks cs) μ l
  | [], _, _, h => by simpa only [fixCs] using h
  | _ :: _, [], _, h => by simpa only [fixCs] using h
  | k :: ks, c :: cs, l, h => by
    simp only [fixCs, Rs] at h ⊢
    obtain ⟨v, l', h1, h2, h3⟩ := h
    exact ⟨v, l', h1, fixC_R h2, fixCs_R h3⟩
theorem fixV_R {w : World} {S : Nat → Prop} {μ : Mu} {ks : List Nat} {x : AV} {v : Value} (h : R w S x μ v) : R w S (fixV ks x) μ v := by
  unfold fixV
  split
  · exact h
  · split
    · simp only [R] at h ⊢
      obtain ⟨l, h1, h2⟩ := h
      exact ⟨l, h1, fixCs_R h2⟩
    · exact fixC_R h
theorem fix_R {E : Env} {w : World} {S : Nat → Prop} {μ : Mu} {T : Nat} {x : AV} {v : Value} (h : R w S x μ v) : R w S (E.fix T x) μ v := fixV_R h
theorem fixP_fst {E : Env} {T : Nat} : ∀ {ps : List (Nat × AV)}, (fixP E T ps).map (·.1) = ps.map (·.1)
  | [] => rfl
  | p :: r => by simp [fixP, fixP_fst]
theorem fixP_R {E : Env} {w : World} {S : Nat → Prop} {μ : Mu} {T : Nat} : ∀ {ps : List (Nat × AV)} {l : List Value}, Rs w S (ps.map (·.2)) μ l → Rs w S ((fixP E T ps).map (·.2)) μ l
  | [], _, h => h
  | p :: r, l, h => by
    simp only [fixP, List.map_cons, Rs] at h ⊢
    obtain ⟨v, l', h1, h2, h3⟩ := h
    exact ⟨v, l', h1, fix_R h2, fixP_R h3⟩
theorem fixTs_R {E : Env} {w : World} {S : Nat → Prop} {μ : Mu} : ∀ {Ts : List Nat} {vs : List AV} {l : List Value}, Rs w S vs μ l → Rs w S (fixTs E Ts vs) μ l
  | [], _, _, h => by simpa only [fixTs] using h
  | _ :: _, [], _, h => by simpa only [fixTs] using h
  | T :: Ts, c :: cs, l, h => by
    simp only [fixTs, Rs] at h ⊢
    obtain ⟨v, l', h1, h2, h3⟩ := h
    exact ⟨v, l', h1, fix_R h2, fixTs_R h3⟩
theorem evF_some {E : Env} {T : Nat} {t : List AV} {o : Operand} {x : AV} (h : evF E T t o = some x) : ∃ y, evO t o = some y ∧ x = E.fix T y := by
  unfold evF at h
  split at h
  · rename_i v hv; cases h; exact ⟨v, hv, rfl⟩
  · cases h
end Go.VE
end
section
set_option linter.unusedVariables false
set_option linter.unusedSimpArgs false
set_option linter.unusedSectionVars false
namespace Go.VE
open Go.RowKit

/-- What may be written by somebody: what was kept from this call (S0), and its own rows. -/
def InS (S0 : Nat → Prop) (h : List Blk) (μ : Mu) (g : Nat) : Prop := S0 g ∨ ∃ id b L, nth h id = some b ∧ (b.st = 2 ∨ b.st = 3) ∧ μ id = some L ∧ L.g = g

def muOf (b : Blk) (μ : Mu) : Mu := if b.flat then noMu else μ

structure BlkOk (S0 : Nat → Prop) (B : Nat) (h : List Blk) (μ : Mu) (w : World) (id : Nat) (b : Blk) : Prop where
  st : b.st = 1 ∨ b.st = 2 ∨ b.st = 3
  row : ∃ L c e, μ id = some L ∧ L.k = b.k ∧ B ≤ L.g ∧ w.heap[L.g]? = some (.cells c e (0, 0)) ∧ c.size = L.o + L.sz ∧ b.es.length * b.k ≤ L.sz ∧ (b.st ≠ 3 → RowC w (InS S0 h μ) (muOf b μ) c b.k b.es L.o) ∧ (b.st = 1 → ¬ InS S0 h μ L.g)

structure HeapOk (S0 : Nat → Prop) (B : Nat) (h : List Blk) (μ : Mu) (w : World) : Prop where
  blk : ∀ id b, nth h id = some b → b.st ≠ 0 → BlkOk S0 B h μ w id b
  dom : ∀ id, h.length ≤ id → μ id = none
  prot : ∀ g, S0 g → g < B
  res : ∀ id b, nth h id = some b → b.st = 0 → b.k = 0 → μ id = none
  inj : ∀ id id' b b' L L', nth h id = some b → (b.st = 2 ∨ b.st = 3) → nth h id' = some b' → (b'.st = 2 ∨ b'.st = 3) → μ id = some L → μ id' = some L' → L.g = L'.g → id = id'

/-- The package's variables hold what they held when all began, and what their types allow. -/
def Glob (P : Program) (w : World) : Prop := P.globals.size ≤ w.heap.size ∧ ∃ w1 : World, w1.ShapedOpen P ∧ ∀ g, g < P.globals.size → w.heap[g]? = w1.heap[g]?
theorem Glob.below {P : Program} {w w' : World} {B : Nat} (h : Glob P w) (hb : Below B w w') (hB : P.globals.size ≤ B) : Glob P w' :=
  ⟨Nat.le_trans h.1 hb.size, by
    obtain ⟨_, w1, h1, h2⟩ := h
    exact ⟨w1, h1, fun g hg => (hb.block g (by omega)).trans (h2 g hg)⟩⟩

/-- The rows up to N alone. -/
def cutMu (N : Nat) (μ : Mu) : Mu := fun i => if i < N then μ i else none

/-- What a call comes to that works on the caller's rows. -/
def AfterI (S0 : Nat → Prop) (B : Nat) (h : List Blk) (μ : Mu) (w : World) (r : AV) (h' : List Blk) (e : Ending) (w' : World) : Prop :=
  ∃ v μ', e = .returned v ∧ Below B w w' ∧ HeapOk S0 B h' μ' w' ∧ B ≤ w'.heap.size ∧ R w' (InS S0 h' μ') r μ' v ∧
    ∀ N, N ≤ h.length → ∀ x u, R w (InS S0 h μ) x (cutMu N μ) u → R w' (InS S0 h' μ') x (cutMu N μ') u
def ICallOk (P : Program) (f : Nat) (args : List AV) (h : List Blk) (r : AV) (h' : List Blk) : Prop :=
  ∀ (S0 : Nat → Prop) (B : Nat) (μ : Mu) (w : World) (vs : List Value), Glob P w → P.globals.size ≤ B → HeapOk S0 B h μ w → B ≤ w.heap.size → Rs w (InS S0 h μ) args μ vs → Calls P f vs.toArray w (AfterI S0 B h μ w r h')

/-- A row that a call hands back, in a block of its own. -/
def OwAt (w : World) (S : Nat → Prop) (k : Nat) (l : List AV) (g : Nat) (v : Value) : Prop :=
  ∃ o c e, w.heap[g]? = some (.cells c e (0, 0)) ∧ RowC w S noMu c k l o ∧ o + l.length * k ≤ c.size ∧
    ((∃ cap, v = .slice (some ⟨g, o, none⟩) l.length cap ∧ l.length ≤ cap ∧ o + cap * k ≤ c.size) ∨ (l = [] ∧ ∃ ad, v = .slice (some ad) 0 0))

def RRc (w : World) (S : Nat → Prop) (x : AV) (gs : List Nat) (v : Value) : Prop :=
  match x with
  | .ow _ k l => ∃ g, gs = [g] ∧ OwAt w S k l g v
  | x => gs = [] ∧ R w S x noMu v
def RRcs (w : World) (S : Nat → Prop) : List AV → List Nat → List Value → Prop
  | [], gs, l => gs = [] ∧ l = []
  | x :: r, gs, l => ∃ g1 g2 v l', gs = g1 ++ g2 ∧ l = v :: l' ∧ RRc w S x g1 v ∧ RRcs w S r g2 l'
def RRv (w : World) (S : Nat → Prop) (x : AV) (gs : List Nat) (v : Value) : Prop :=
  match x with
  | .agg cs => ∃ l : List Value, v = .agg l.toArray ∧ RRcs w S cs gs l
  | x => RRc w S x gs v
def RRvs (w : World) (S : Nat → Prop) : List AV → List Nat → List Value → Prop
  | [], gs, l => gs = [] ∧ l = []
  | x :: r, gs, l => ∃ g1 g2 v l', gs = g1 ++ g2 ∧ l = v :: l' ∧ RRv w S x g1 v ∧ RRvs w S r g2 l'
def RR (w : World) (S : Nat → Prop) (x : AV) (gs : List Nat) (v : Value) : Prop :=
  match x with
  | .tup vs => ∃ l : List Value, v = .tuple l.toArray ∧ RRvs w S vs gs l
  | x => RRv w S x gs v

/-- What a call comes to: it returns, nothing that was there has changed, and its result reads as r. -/
def Res (S0 : Nat → Prop) (w : World) (r : AV) (e : Ending) (w' : World) : Prop :=
  ∃ v gs, e = .returned v ∧ Below w.heap.size w w' ∧ gs.Nodup ∧ (∀ g ∈ gs, w.heap.size ≤ g) ∧ RR w' (fun g => S0 g ∨ g ∈ gs) r gs v

def CallOk (P : Program) (f : Nat) (args : List AV) (r : AV) : Prop :=
  ∀ (S0 : Nat → Prop) (w : World) (vs : List Value), Glob P w → (∀ g, S0 g → g < w.heap.size) → Rs w S0 args noMu vs → Calls P f vs.toArray w (Res S0 w r)

structure Env.Ok (E : Env) (P : Program) : Prop where
  und : ∀ t d, E.und t = some d → P.underlying t = some d
  size : ∀ t n, E.size t = some n → ∃ i, P.info? t = some i ∧ i.size = n
  bytes : ∀ t n, E.bytes t = some n → ∃ i, P.info? t = some i ∧ i.bytes = n
  zero : ∀ t z, E.zero t = some z → ∃ i v, P.info? t = some i ∧ i.zero = some v ∧ ∀ w S, R w S z noMu v
  cmp : ∀ t, E.cmp t = true → P.stoodInHeld t = false ∧ P.eqGuardType P.depth t = false ∧ (∀ fs, P.underlying t = some (.struct fs) → ∀ f ∈ fs.toList, f.name ≠ "_")
  fn : ∀ f g, E.fn f = some g → P.funcs[f]? = some g ∧ g.body.isNone = false ∧ (g.name == "runtime.NumGoroutine") = false
  mixed : P.follows .mixedOrders = true
  reg : ∀ f g c, E.fn f = some g → g.body = some c → regOk E f c = true
  op : ∀ T y k r, E.op T y k = some r → k y = some r
  opr : ∀ T y k r, E.opr T y k = some r → k y = some r
  ic : ∀ call, (∀ g args r, call g args = some r → CallOk P g args r) → ∀ g F args h r h', E.ic call g = some F → F args h = some (r, h') → ICallOk P g args h r h'

section
variable {E : Env} {P : Program} (ok : E.Ok P)
include ok

theorem run_isAggT {t : Nat} {b : Bool} (h : isAggT E t = some b) (w : World) : (isAgg t).run P w = .ok b w := by
  unfold isAggT at h
  cases hu : E.und t with
  | none => simp [hu] at h
  | some d =>
    have h1 := ok.und t d hu
    unfold isAgg
    simp only [Sem.run_bind, run_underlying h1, Result.andThen_ok]
    rw [hu] at h
    cases d <;> simp at h <;> subst h <;> rfl
theorem run_sizeT {t n : Nat} (h : E.size t = some n) (w : World) : (sizeOf t).run P w = .ok n w := by
  obtain ⟨i, hi, rfl⟩ := ok.size t n h
  simp [sizeOf, typeInfo, hi]
theorem run_bytesT {t n : Nat} (h : E.bytes t = some n) (w : World) : ∃ i, (typeInfo t).run P w = .ok i w ∧ i.bytes = n := by
  obtain ⟨i, hi, rfl⟩ := ok.bytes t n h
  exact ⟨i, by simp [typeInfo, hi], rfl⟩
theorem run_zeroT {t : Nat} {z : AV} (h : E.zero t = some z) : ∃ v, (∀ w : World, (zeroValue t).run P w = .ok v w) ∧ ∀ w S, R w S z noMu v := by
  obtain ⟨i, v, hi, hz, hr⟩ := ok.zero t z h
  exact ⟨v, fun w => by simp [zeroValue, typeInfo, hi, hz], hr⟩

theorem run_part {w : World} {S : Nat → Prop} {μ : Mu} {t off : Nat} {cs : List AV} {y : AV} (h : partA E t cs off = some y) {l : List Value} (hr : Rs w S cs μ l) :
    ∃ v, (part t l.toArray off).run P w = .ok v w ∧ R w S y μ v := by
  unfold partA at h
  split at h
  · rename_i ha
    split at h
    · rename_i n hn
      split at h
      · rename_i hle
        cases h
        refine ⟨.agg ((l.drop off).take n).toArray, ?_, ?_⟩
        · simp only [part, Sem.run_bind, run_isAggT ok ha, Result.andThen_ok, if_true, run_sizeT ok hn, Sem.run_pure]
          congr 2
          apply Array.ext'
          simp [List.drop_take]
        · simp only [R]; exact ⟨_, rfl, Rs_take (Rs_drop hr off) n⟩
      · cases h
    · cases h
  · rename_i ha
    rw [nth_eq] at h
    obtain ⟨v, hv, hr'⟩ := Rs_get hr off y h
    refine ⟨v, ?_, hr'⟩
    simp [part, run_isAggT ok ha, hv]
  · cases h

theorem run_loadV {w : World} {S : Nat → Prop} {μ : Mu} {t off : Nat} {cs : List AV} {y : AV} (h : partA E t cs off = some y) {l : List Value} (hr : Rs w S cs μ l) {ad : Addr}
    (hc : ∀ (j : Nat) (c : Value), l[j]? = some c → w.cell? (ad.add j) = some c) : ∃ v, (loadVar t (ad.add off)).run P w = .ok v w ∧ R w S y μ v := by
  unfold partA at h
  split at h
  · rename_i ha
    split at h
    · rename_i n hn
      split at h
      · rename_i hle
        cases h
        refine ⟨.agg ((l.drop off).take n).toArray, ?_, ?_⟩
        · have hlen : ((l.drop off).take n).length = n := by have := Rs_len hr; simp; omega
          have := run_loadCells_list (P := P) w (ad.add off) ((l.drop off).take n) (fun j c hj => by
            rw [add_add]
            refine hc _ c ?_
            simp only [List.getElem?_take, List.getElem?_drop] at hj
            split at hj
            · exact hj
            · cases hj)
          rw [hlen] at this
          simp only [loadVar, Sem.run_bind, run_isAggT ok ha, Result.andThen_ok, if_true, run_sizeT ok hn, this, Sem.run_pure]
        · simp only [R]; exact ⟨_, rfl, Rs_take (Rs_drop hr off) n⟩
      · cases h
    · cases h
  · rename_i ha
    rw [nth_eq] at h
    obtain ⟨v, hv, hr'⟩ := Rs_get hr off y h
    refine ⟨v, ?_, hr'⟩
    simp [loadVar, run_isAggT ok ha, hc off v hv]
  · cases h
end

structure TmpsOk (S0 : Nat → Prop) (h : List Blk) (μ : Mu) (w : World) (t : List AV) (a : Act) : Prop where
  size : t.length = a.tmps.size
  val : ∀ i x, nth t i = some x → R w (InS S0 h μ) x μ (a.tmps.getD i undef)

theorem evO_ok {S0 : Nat → Prop} {h : List Blk} {μ : Mu} {w : World} {t : List AV} {a : Act} (ht : TmpsOk S0 h μ w t a) {o : Operand} {x : AV} (he : evO t o = some x) : R w (InS S0 h μ) x μ (a.eval o) := by
  cases o with
  | tmp i => exact ht.val i x he
  | const v =>
    simp only [evO, constAV] at he
    split at he <;> cases he <;> simp [R, Act.eval]
  | func f => simp only [evO] at he; cases he; simp [R, Rs, Act.eval]
  | global g => simp [evO] at he
theorem evF_ok {E : Env} {T : Nat} {S0 : Nat → Prop} {h : List Blk} {μ : Mu} {w : World} {t : List AV} {a : Act} (ht : TmpsOk S0 h μ w t a) {o : Operand} {x : AV} (he : evF E T t o = some x) : R w (InS S0 h μ) x μ (a.eval o) := by
  obtain ⟨y, h1, rfl⟩ := evF_some he
  exact fix_R (evO_ok ht h1)
theorem evOs_ok {S0 : Nat → Prop} {h : List Blk} {μ : Mu} {w : World} {t : List AV} {a : Act} (ht : TmpsOk S0 h μ w t a) : ∀ {os : List Operand} {xs : List AV}, evOs t os = some xs → Rs w (InS S0 h μ) xs μ (os.map a.eval)
  | [], xs, he => by simp only [evOs] at he; cases he; simp [Rs]
  | o :: os, xs, he => by
    simp only [evOs] at he
    split at he
    · rename_i v hv
      split at he
      · rename_i vs hvs
        cases he
        simp only [List.map_cons, Rs]
        exact ⟨_, _, rfl, evO_ok ht hv, evOs_ok ht hvs⟩
      · cases he
    · cases he
end Go.VE
end
section
set_option linter.unusedVariables false
set_option linter.unusedSimpArgs false
set_option linter.unusedSectionVars false
namespace Go.VE
open Go.RowKit

/-- The array's loop, as a recursion. -/
def eqCells (d : Nat) (e n : Nat) (xs ys : Array Value) : Nat → Nat → Sem Bool
  | 0, _ => pure true
  | m + 1, i => do
    let a ← part e xs (i * n)
    let b ← part e ys (i * n)
    let r ← Op.equalIn d e a b
    if (!r) = true then pure false else eqCells d e n xs ys m (i + 1)

theorem run_equalIn_array {P : Program} (w : World) (d t len e n : Nat) (xs ys : Array Value) (ht : P.underlying t = some (.array len e)) (hn : ∀ w : World, (sizeOf e).run P w = .ok n w) :
    (Op.equalIn (d + 1) t (.agg xs) (.agg ys)).run P w = (eqCells d e n xs ys len 0).run P w := by
  simp only [Op.equalIn, Sem.run_bind, run_underlying ht, Result.andThen_ok, hn]
  rw [Std.Legacy.Range.forIn_eq_forIn_range']
  simp only [Std.Legacy.Range.size, Nat.sub_zero, Nat.add_sub_cancel, Nat.div_one]
  generalize hk : (0 : Nat) = k
  clear hk ht hn
  induction len generalizing w k with
  | zero => simp [eqCells]
  | succ m ih =>
    simp only [List.range'_succ, List.forIn_cons, eqCells, Sem.run_bind]
    generalize (part e xs (k * n)).run P w = r1
    cases r1 with
    | ok a w1 =>
      simp only [Result.andThen_ok]
      generalize (part e ys (k * n)).run P w1 = r2
      cases r2 with
      | ok b w2 =>
        simp only [Result.andThen_ok]
        generalize (Op.equalIn d e a b).run P w2 = r3
        cases r3 with
        | ok r w3 =>
          cases r
          · simp
          · simp only [Result.andThen_ok, Bool.not_true, Bool.false_eq_true, if_false, Sem.run_pure]
            exact ih w3 (k + 1)
        | halt x w3 => simp [Result.andThen]
      | halt x w2 => simp [Result.andThen]
    | halt x w1 => simp [Result.andThen]

section
variable {E : Env} {P : Program} (ok : E.Ok P)

theorem leafEq_ok {td : TypeDesc} {t : Nat} (ht : P.underlying t = some td) {x y : AV} {b : Bool} (h : leafEq td x y = some b) {w : World} {S : Nat → Prop} {μ : Mu} {vx vy : Value}
    (hx : R w S x μ vx) (hy : R w S y μ vy) (d : Nat) : (Op.equalIn (d + 1) t vx vy).run P w = .ok b w := by
  unfold leafEq at h
  split at h
  all_goals try simp only [R] at hx hy
  · cases h; subst hx; subst hy; simp [Op.equalIn, run_underlying ht]
  · split at h
    · rename_i hk; cases h; subst hx; subst hy; subst hk; simp [Op.equalIn, run_underlying ht]
    · cases h
  · cases h; subst hx; subst hy; simp [Op.equalIn, run_underlying ht, beq_toListBytes]
  · cases h; subst hx; subst hy; simp [Op.equalIn, run_underlying ht]
  · cases h; obtain ⟨L, _, rfl⟩ := hy; subst hx; simp [Op.equalIn, run_underlying ht]
  · cases h; obtain ⟨ad, rfl, _⟩ := hy; subst hx; simp [Op.equalIn, run_underlying ht]
  · cases h; obtain ⟨L, _, rfl⟩ := hx; subst hy; simp [Op.equalIn, run_underlying ht]
  · cases h; obtain ⟨ad, rfl, _⟩ := hx; subst hy; simp [Op.equalIn, run_underlying ht]
  · cases h
    rcases hx with ⟨_, _, rfl⟩ | ⟨h0, _⟩
    · rcases hy with ⟨rfl, _, rfl⟩ | ⟨rfl, ad, cap, rfl, _⟩ <;> simp [Op.equalIn, run_underlying ht]
    · cases h0
  · cases h
    rcases hx with ⟨_, _, rfl⟩ | ⟨h0, _⟩
    · obtain ⟨L, _, _, hy⟩ := hy
      rcases hy with ⟨cap, rfl, _⟩ | ⟨_, ad, rfl⟩ <;> simp [Op.equalIn, run_underlying ht]
    · cases h0
  · cases h
    rcases hx with ⟨h0, _⟩ | ⟨_, ad, cap, rfl, _⟩
    · cases h0
    · rcases hy with ⟨_, _, rfl⟩ | ⟨h0, _⟩
      · simp [Op.equalIn, run_underlying ht]
      · cases h0
  · cases h
    obtain ⟨L, _, _, hx⟩ := hx
    rcases hy with ⟨_, _, rfl⟩ | ⟨h0, _⟩
    · rcases hx with ⟨cap, rfl, _⟩ | ⟨_, ad, rfl⟩ <;> simp [Op.equalIn, run_underlying ht]
    · cases h0
  · cases h; subst hx; subst hy; simp [Op.equalIn, run_underlying ht]
  · cases h; obtain ⟨l, rfl, _⟩ := hy; subst hx; simp [Op.equalIn, run_underlying ht]
  · cases h; obtain ⟨l, rfl, _⟩ := hx; subst hy; simp [Op.equalIn, run_underlying ht]
  · cases h

include ok

theorem fieldsEq_ok {d : Nat} {rec : Nat → AV → AV → Option Bool} {w : World} {S : Nat → Prop} {μ : Mu}
    (hrec : ∀ t x y b vx vy, rec t x y = some b → R w S x μ vx → R w S y μ vy → (Op.equalIn d t vx vy).run P w = .ok b w)
    {xs ys : List AV} {lx ly : List Value} (hx : Rs w S xs μ lx) (hy : Rs w S ys μ ly) : ∀ (fs : List Field) (b : Bool), (∀ f ∈ fs, f.name ≠ "_") → fieldsEq E rec xs ys fs = some b →
    (Op.eqFields d lx.toArray ly.toArray fs).run P w = .ok b w
  | [], b, _, h => by simp only [fieldsEq] at h; cases h; simp [Op.eqFields]
  | f :: fs, b, hn, h => by
    simp only [fieldsEq] at h
    split at h
    · rename_i x y h1 h2
      split at h
      · rename_i p q h3 h4
        cases h
        obtain ⟨vx, e1, r1⟩ := run_part ok h1 hx
        obtain ⟨vy, e2, r2⟩ := run_part ok h2 hy
        have e3 := hrec _ _ _ _ _ _ h3 r1 r2
        have e4 := fieldsEq_ok hrec hx hy fs q (fun f hf => hn f (by simp [hf])) h4
        simp only [Op.eqFields, if_pos (hn f (by simp)), Sem.run_bind, e1, e2, e3, Result.andThen_ok, Sem.run_ite, e4]
        cases p <;> simp
      · cases h
    · cases h

theorem arrEq_ok {d : Nat} {rec : Nat → AV → AV → Option Bool} {w : World} {S : Nat → Prop} {μ : Mu}
    (hrec : ∀ t x y b vx vy, rec t x y = some b → R w S x μ vx → R w S y μ vy → (Op.equalIn d t vx vy).run P w = .ok b w)
    {xs ys : List AV} {lx ly : List Value} (hx : Rs w S xs μ lx) (hy : Rs w S ys μ ly) (e n : Nat) : ∀ (m i : Nat) (b : Bool), arrEq E rec e n xs ys m i = some b →
    (eqCells d e n lx.toArray ly.toArray m i).run P w = .ok b w
  | 0, i, b, h => by simp only [arrEq] at h; cases h; simp [eqCells]
  | m + 1, i, b, h => by
    simp only [arrEq] at h
    split at h
    · rename_i x y h1 h2
      split at h
      · rename_i p q h3 h4
        cases h
        obtain ⟨vx, e1, r1⟩ := run_part ok h1 hx
        obtain ⟨vy, e2, r2⟩ := run_part ok h2 hy
        have e3 := hrec _ _ _ _ _ _ h3 r1 r2
        have e4 := arrEq_ok hrec hx hy e n m (i + 1) q h4
        simp only [eqCells, Sem.run_bind, e1, e2, e3, Result.andThen_ok, Sem.run_ite, e4]
        cases p <;> simp
      · cases h
    · cases h

theorem aeq_ok {w : World} {S : Nat → Prop} {μ : Mu} : ∀ (d d' : Nat), d ≤ d' → ∀ (t : Nat) (x y : AV) (b : Bool) (vx vy : Value), aeq E d t x y = some b → R w S x μ vx → R w S y μ vy →
    (Op.equalIn d' t vx vy).run P w = .ok b w
  | 0, _, _, _, _, _, _, _, _, h, _, _ => by simp [aeq] at h
  | d + 1, 0, hd, _, _, _, _, _, _, _, _, _ => by omega
  | d + 1, d' + 1, hd, t, x, y, b, vx, vy, h, hx, hy => by
    simp only [aeq] at h
    cases hu : E.und t with
    | none => simp [hu] at h
    | some td =>
      have ht := ok.und t td hu
      rw [hu] at h
      have leaf : leafEq td x y = some b → (Op.equalIn (d' + 1) t vx vy).run P w = .ok b w := fun h => leafEq_ok ht h hx hy d'
      cases td with
      | struct fs =>
        simp only at h
        split at h
        · rename_i xs ys
          split at h
          · rename_i hc
            obtain ⟨h1, _, h3⟩ := ok.cmp t hc
            simp only [R] at hx hy
            obtain ⟨lx, rfl, hx⟩ := hx
            obtain ⟨ly, rfl, hy⟩ := hy
            have hf : P.fieldsOf t = fs := by simp [Program.fieldsOf, ht]
            rw [run_equalIn_struct w d' t _ _ (by rw [hf]; exact ht) h1, hf]
            exact fieldsEq_ok ok (fun t x y b vx vy h hx hy => aeq_ok d d' (by omega) t x y b vx vy h hx hy) hx hy _ _ (h3 fs ht) h
          · cases h
        · cases h
      | array len e =>
        simp only at h
        split at h
        · rename_i xs ys n hn
          split at h
          · simp only [R] at hx hy
            obtain ⟨lx, rfl, hx⟩ := hx
            obtain ⟨ly, rfl, hy⟩ := hy
            rw [run_equalIn_array w d' t len e n _ _ ht (run_sizeT ok hn)]
            exact arrEq_ok ok (fun t x y b vx vy h hx hy => aeq_ok d d' (by omega) t x y b vx vy h hx hy) hx hy _ _ _ _ _ h
          · cases h
        · cases h
      | _ => exact leaf h

/-- What a comparison by '==' gives, where the operands are no numbers and no strings. -/
theorem aeq_equal {w : World} {S : Nat → Prop} {μ : Mu} {t : Nat} {x y : AV} {b : Bool} {vx vy : Value} (h : aeq E 8 t x y = some b) (hx : R w S x μ vx) (hy : R w S y μ vy) :
    (Op.equal t vx vy).run P w = .ok b w := aeq_ok ok 8 Op.maxDepth (by decide) t x y b vx vy h hx hy
end
end Go.VE
end
section
set_option linter.unusedVariables false
set_option linter.unusedSimpArgs false
set_option linter.unusedSectionVars false
namespace Go.VE
open Go.RowKit

section
variable {E : Env} {P : Program}

theorem bits_ok {k : IntKind} {op : BinOp} {a b : Int} {z : AV} (h : bitsA k op a b = some z) {w : World} {S : Nat → Prop} {μ : Mu} :
    ∃ v, (Op.intBits op k a b).run P w = .ok v w ∧ R w S z μ v := by
  cases op <;> simp only [bitsA, reduceCtorEq, Option.some.injEq] at h <;> subst h <;> exact ⟨_, rfl, by simp [R]⟩

theorem int_ok {k : IntKind} {op : BinOp} {a b : Int} {z : AV} (hs : isShift op = false) (h : intA op k a b = some z) {w : World} {S : Nat → Prop} {μ : Mu} (t : Nat) :
    ∃ v, (binOp op t (.int k a) (.int k b)).run P w = .ok v w ∧ R w S z μ v := by
  cases op
  case add => simp only [intA, Option.some.injEq] at h; subst h; exact ⟨_, by simp [binOp, Op.intArith]; rfl, by simp [R]⟩
  case sub => simp only [intA, Option.some.injEq] at h; subst h; exact ⟨_, by simp [binOp, Op.intArith]; rfl, by simp [R]⟩
  case mul => simp only [intA, Option.some.injEq] at h; subst h; exact ⟨_, by simp [binOp, Op.intArith]; rfl, by simp [R]⟩
  case quo =>
    simp only [intA] at h
    split at h
    · cases h
    · rename_i h0; cases h; exact ⟨_, by simp [binOp, Op.intDiv, h0]; rfl, by simp [R]⟩
  case rem =>
    simp only [intA] at h
    split at h
    · cases h
    · rename_i h0; cases h; exact ⟨_, by simp [binOp, Op.intDiv, h0]; rfl, by simp [R]⟩
  case and => obtain ⟨v, h1, h2⟩ := bits_ok (P := P) (w := w) (S := S) (μ := μ) (by simpa [intA] using h); exact ⟨v, by simpa [binOp] using h1, h2⟩
  case or => obtain ⟨v, h1, h2⟩ := bits_ok (P := P) (w := w) (S := S) (μ := μ) (by simpa [intA] using h); exact ⟨v, by simpa [binOp] using h1, h2⟩
  case xor => obtain ⟨v, h1, h2⟩ := bits_ok (P := P) (w := w) (S := S) (μ := μ) (by simpa [intA] using h); exact ⟨v, by simpa [binOp] using h1, h2⟩
  case andNot => obtain ⟨v, h1, h2⟩ := bits_ok (P := P) (w := w) (S := S) (μ := μ) (by simpa [intA] using h); exact ⟨v, by simpa [binOp] using h1, h2⟩
  case shl => simp [isShift] at hs
  case shr => simp [isShift] at hs
  all_goals
    simp only [intA, Option.some.injEq] at h
    subst h
    exact ⟨_, by simp [binOp, Op.intCmp]; rfl, by simp [R]⟩

theorem shift_ok {k k' : IntKind} {op : BinOp} {a b : Int} {z : AV} (hs : isShift op = true) (h : shiftA op k a b = some z) {w : World} {S : Nat → Prop} {μ : Mu} (t : Nat) :
    ∃ v, (binOp op t (.int k a) (.int k' b)).run P w = .ok v w ∧ R w S z μ v := by
  unfold shiftA at h
  split at h
  · cases h
  · rename_i h0
    cases op <;> simp only [isShift, Bool.false_eq_true] at hs
    · simp only [Option.some.injEq] at h; subst h; exact ⟨_, by simp [binOp, Op.shift, h0]; rfl, by simp [R]⟩
    · simp only [Option.some.injEq] at h; subst h; exact ⟨_, by simp [binOp, Op.shift, h0]; rfl, by simp [R]⟩

theorem str_ok {op : BinOp} {a b : List UInt8} {z : AV} (h : strA op a b = some z) {w : World} {S : Nat → Prop} {μ : Mu} (t : Nat) :
    ∃ v, (binOp op t (.string ⟨a.toArray⟩) (.string ⟨b.toArray⟩)).run P w = .ok v w ∧ R w S z μ v := by
  cases op
  case add =>
    simp only [strA] at h
    split at h
    · rename_i hl
      cases h
      refine ⟨.string ⟨(a ++ b).toArray⟩, ?_, by simp [R]⟩
      have e1 : (⟨a.toArray⟩ : ByteArray).size = a.length := by simp [ByteArray.size]
      have e2 : (⟨b.toArray⟩ : ByteArray).size = b.length := by simp [ByteArray.size]
      have e3 : (⟨a.toArray⟩ : ByteArray) ++ (⟨b.toArray⟩ : ByteArray) = ⟨(a ++ b).toArray⟩ := by
        apply ByteArray.ext
        simp
      have hm : IntKind.i64.max = 9223372036854775807 := by decide
      simp only [binOp, Op.stringOp, e1, e2, hm, e3]
      rw [if_neg (by omega)]
      rfl
    · cases h
  all_goals first
    | (simp [strA] at h; done)
    | (simp only [strA, Option.some.injEq] at h
       subst h
       exact ⟨_, by simp [binOp, Op.stringOp]; rfl, by simp [R]⟩)

variable (ok : E.Ok P)
include ok

omit ok in
theorem run_guard_plain {op : BinOp} {t : Nat} {x y : Operand} {vx vy : Value} (h1 : vx ≠ .nilIface) (h2 : ∀ c, vx ≠ .agg c) {w : World} : (eqGuard op t x y vx vy).run P w = .ok () w := by
  unfold eqGuard
  cases op <;> simp <;> cases vx <;> simp_all <;> cases vy <;> simp

omit ok in
theorem R_noIface {w : World} {S : Nat → Prop} {x : AV} {μ : Mu} {v : Value} (h : R w S x μ v) (hd : x ≠ .dead) : v ≠ .nilIface := by
  rintro rfl
  cases x <;> simp only [R] at h
  all_goals first
    | (exact absurd rfl hd)
    | (cases h; done)
    | (rcases h with ⟨_, _, h⟩ | ⟨_, ad, cap, h, _⟩ <;> cases h; done)
    | (obtain ⟨L, _, h⟩ := h; first | (cases h; done) | (rcases h.2 with ⟨_, h, _⟩ | ⟨_, _, h⟩ <;> cases h))
    | (obtain ⟨_, h, _⟩ := h; cases h)
    | (simp [undef] at h; done)

omit ok in
theorem R_agg {w : World} {S : Nat → Prop} {x : AV} {μ : Mu} {c : Array Value} (h : R w S x μ (.agg c)) (hd : x ≠ .dead) : ∃ cs, x = .agg cs := by
  cases x <;> simp only [R] at h
  all_goals first
    | (exact absurd rfl hd)
    | (exact ⟨_, rfl⟩)
    | (cases h; done)
    | (rcases h with ⟨_, _, h⟩ | ⟨_, ad, cap, h, _⟩ <;> cases h; done)
    | (obtain ⟨L, _, h⟩ := h; first | (cases h; done) | (rcases h.2 with ⟨_, h, _⟩ | ⟨_, _, h⟩ <;> cases h))
    | (obtain ⟨_, h, _⟩ := h; cases h)
    | (simp [undef] at h; done)

/-- Neither two numbers nor two strings. -/
structure NoPair (vx vy : Value) : Prop where
  n : ∀ k a k' b, vx = .int k a → vy = .int k' b → False
  s : ∀ a b, vx = .string a → vy = .string b → False
  f : ∀ k a k' b, vx = .float k a → vy = .float k' b → False
  c : ∀ k a b k' c d, vx = .complex k a b → vy = .complex k' c d → False

omit ok in
theorem binOp_eql {vx vy : Value} (h : NoPair vx vy) (t : Nat) : binOp .eql t vx vy = (do pure (.bool (← Op.equal t vx vy))) := by
  cases vx <;> cases vy <;> first
    | rfl
    | (exact (h.n _ _ _ _ rfl rfl).elim)
    | (exact (h.s _ _ rfl rfl).elim)
    | (exact (h.f _ _ _ _ rfl rfl).elim)
    | (exact (h.c _ _ _ _ _ _ rfl rfl).elim)
omit ok in
theorem binOp_neq {vx vy : Value} (h : NoPair vx vy) (t : Nat) : binOp .neq t vx vy = (do pure (.bool (!(← Op.equal t vx vy)))) := by
  cases vx <;> cases vy <;> first
    | rfl
    | (exact (h.n _ _ _ _ rfl rfl).elim)
    | (exact (h.s _ _ rfl rfl).elim)
    | (exact (h.f _ _ _ _ rfl rfl).elim)
    | (exact (h.c _ _ _ _ _ _ rfl rfl).elim)

omit ok in
theorem leafEq_dead (td : TypeDesc) (y : AV) : leafEq td .dead y = none := by cases td <;> rfl
omit ok in
theorem leafEq_agg (td : TypeDesc) (cs : List AV) (y : AV) : leafEq td (.agg cs) y = none := by cases td <;> rfl

omit ok in
theorem aeq_dead {d t : Nat} {y : AV} {b : Bool} (h : aeq E d t .dead y = some b) : False := by
  cases d with
  | zero => simp [aeq] at h
  | succ d =>
    simp only [aeq] at h
    cases hu : E.und t with
    | none => simp [hu] at h
    | some td =>
      rw [hu] at h
      cases td with
      | struct fs => simp at h
      | array len e => simp at h
      | _ => simp only [leafEq_dead] at h; cases h
omit ok in
theorem aeq_agg {d t : Nat} {cs : List AV} {y : AV} {b : Bool} (h : aeq E d t (.agg cs) y = some b) : E.cmp t = true ∧ ∃ ds, y = .agg ds := by
  cases d with
  | zero => simp [aeq] at h
  | succ d =>
    simp only [aeq] at h
    cases hu : E.und t with
    | none => simp [hu] at h
    | some td =>
      rw [hu] at h
      cases td with
      | struct fs =>
        cases y <;> simp at h
        exact ⟨h.1, _, rfl⟩
      | array len e =>
        cases y <;> simp at h
        cases hn : E.size e with
        | none => simp [hn] at h
        | some n =>
          simp [hn] at h
          exact ⟨h.1, _, rfl⟩
      | _ => simp only [leafEq_agg] at h; cases h

theorem bin_gen {op : BinOp} {t : Nat} {x y z : AV} {w : World} {S : Nat → Prop} {μ : Mu} {vx vy : Value} (hx : R w S x μ vx) (hy : R w S y μ vy) (ox oy : Operand)
    (h : (match op with
      | .eql => (aeq E 8 t x y).map AV.bool
      | .neq => (aeq E 8 t x y).map fun b => AV.bool (!b)
      | _ => none) = some z) (hp : NoPair vx vy) :
    ∃ v, (do eqGuard op t ox oy vx vy; binOp op t vx vy).run P w = .ok v w ∧ R w S z μ v := by
  have hg : ∀ {b : Bool}, aeq E 8 t x y = some b → (eqGuard op t ox oy vx vy).run P w = .ok () w := by
    intro b hb
    have hxd : x ≠ .dead := by rintro rfl; exact aeq_dead hb
    by_cases ha : ∃ cs, x = .agg cs
    · obtain ⟨cs, rfl⟩ := ha
      obtain ⟨hcmp, ds, rfl⟩ := aeq_agg hb
      simp only [R] at hx hy
      obtain ⟨lx, rfl, _⟩ := hx
      obtain ⟨ly, rfl, _⟩ := hy
      exact run_eqGuard_agg w op t ox oy _ _ (ok.cmp t hcmp).2.1
    · refine run_guard_plain (R_noIface hx hxd) fun c hcv => ?_
      subst hcv
      exact ha (R_agg hx hxd)
  have hb : ∀ (b : Bool), aeq E 8 t x y = some b → (Op.equal t vx vy).run P w = .ok b w := fun b h => aeq_equal ok h hx hy
  cases ha : aeq E 8 t x y with
  | none => cases op <;> simp [ha] at h
  | some b =>
    have e1 := hg ha
    have e2 := hb b ha
    cases op <;> simp only [ha, Option.map_some, Option.some.injEq, reduceCtorEq] at h
    · subst h
      exact ⟨.bool b, by simp [e1, binOp_eql hp, e2], by simp [R]⟩
    · subst h
      exact ⟨.bool (!b), by simp [e1, binOp_neq hp, e2], by simp [R]⟩

omit ok in
theorem R_int {w : World} {S : Nat → Prop} {x : AV} {μ : Mu} {k : IntKind} {n : Int} (h : R w S x μ (.int k n)) (hd : x ≠ .dead) : x = .int k n := by
  cases x <;> simp only [R] at h
  all_goals first
    | (exact absurd rfl hd)
    | (cases h; rfl)
    | (cases h; done)
    | (rcases h with ⟨_, _, h⟩ | ⟨_, ad, cap, h, _⟩ <;> cases h; done)
    | (obtain ⟨L, _, h⟩ := h; first | (cases h; done) | (rcases h.2 with ⟨_, h, _⟩ | ⟨_, _, h⟩ <;> cases h))
    | (obtain ⟨_, h, _⟩ := h; cases h)
    | (simp [undef] at h; done)
omit ok in
theorem R_string {w : World} {S : Nat → Prop} {x : AV} {μ : Mu} {b : ByteArray} (h : R w S x μ (.string b)) (hd : x ≠ .dead) : ∃ s, x = .str s := by
  cases x <;> simp only [R] at h
  all_goals first
    | (exact absurd rfl hd)
    | (exact ⟨_, rfl⟩)
    | (cases h; done)
    | (rcases h with ⟨_, _, h⟩ | ⟨_, ad, cap, h, _⟩ <;> cases h; done)
    | (obtain ⟨L, _, h⟩ := h; first | (cases h; done) | (rcases h.2 with ⟨_, h, _⟩ | ⟨_, _, h⟩ <;> cases h))
    | (obtain ⟨_, h, _⟩ := h; cases h)
    | (simp [undef] at h; done)
omit ok in
theorem R_float {w : World} {S : Nat → Prop} {x : AV} {μ : Mu} {k : FloatKind} {n : Nat} (h : R w S x μ (.float k n)) (hd : x ≠ .dead) : False := by
  cases x <;> simp only [R] at h
  all_goals first
    | (exact absurd rfl hd)
    | (cases h; done)
    | (rcases h with ⟨_, _, h⟩ | ⟨_, ad, cap, h, _⟩ <;> cases h; done)
    | (obtain ⟨L, _, h⟩ := h; first | (cases h; done) | (rcases h.2 with ⟨_, h, _⟩ | ⟨_, _, h⟩ <;> cases h))
    | (obtain ⟨_, h, _⟩ := h; cases h)
    | (simp [undef] at h; done)
omit ok in
theorem R_complex {w : World} {S : Nat → Prop} {x : AV} {μ : Mu} {k : FloatKind} {n m : Nat} (h : R w S x μ (.complex k n m)) (hd : x ≠ .dead) : False := by
  cases x <;> simp only [R] at h
  all_goals first
    | (exact absurd rfl hd)
    | (cases h; done)
    | (rcases h with ⟨_, _, h⟩ | ⟨_, ad, cap, h, _⟩ <;> cases h; done)
    | (obtain ⟨L, _, h⟩ := h; first | (cases h; done) | (rcases h.2 with ⟨_, h, _⟩ | ⟨_, _, h⟩ <;> cases h))
    | (obtain ⟨_, h, _⟩ := h; cases h)
    | (simp [undef] at h; done)
omit ok in
/-- A comparison of two trees of which the first is known: the second is too. -/
theorem aeq_int {d t : Nat} {k : IntKind} {n : Int} {y : AV} {b : Bool} (h : aeq E d t (.int k n) y = some b) : y ≠ .dead := by
  rintro rfl
  cases d with
  | zero => simp [aeq] at h
  | succ d =>
    simp only [aeq] at h
    cases hu : E.und t with
    | none => simp [hu] at h
    | some td =>
      rw [hu] at h
      cases td <;> simp [leafEq] at h
omit ok in
theorem aeq_str {d t : Nat} {s : List UInt8} {y : AV} {b : Bool} (h : aeq E d t (.str s) y = some b) : y ≠ .dead := by
  rintro rfl
  cases d with
  | zero => simp [aeq] at h
  | succ d =>
    simp only [aeq] at h
    cases hu : E.und t with
    | none => simp [hu] at h
    | some td =>
      rw [hu] at h
      cases td <;> simp [leafEq] at h

theorem bin_ok {op : BinOp} {t : Nat} {x y z : AV} (h : binA E op t x y = some z) {w : World} {S : Nat → Prop} {μ : Mu} {vx vy : Value} (hx : R w S x μ vx) (hy : R w S y μ vy) (ox oy : Operand) :
    ∃ v, (do eqGuard op t ox oy vx vy; binOp op t vx vy).run P w = .ok v w ∧ R w S z μ v := by
  unfold binA at h
  split at h
  · rename_i k a k' b
    simp only [R] at hx hy
    subst hx; subst hy
    have hg : (eqGuard op t ox oy (.int k a) (.int k' b)).run P w = .ok () w := run_guard_plain (by simp) (by simp)
    split at h
    · rename_i hs
      obtain ⟨v, h1, h2⟩ := shift_ok (P := P) (k' := k') hs h (w := w) (S := S) (μ := μ) t
      exact ⟨v, by simp [hg, h1], h2⟩
    · rename_i hs
      split at h
      · rename_i hk
        subst hk
        obtain ⟨v, h1, h2⟩ := int_ok (P := P) (by simpa using hs) h (w := w) (S := S) (μ := μ) t
        exact ⟨v, by simp [hg, h1], h2⟩
      · cases h
  · rename_i a b
    simp only [R] at hx hy
    subst hx; subst hy
    have hg : (eqGuard op t ox oy (.string ⟨a.toArray⟩) (.string ⟨b.toArray⟩)).run P w = .ok () w := run_guard_plain (by simp) (by simp)
    obtain ⟨v, h1, h2⟩ := str_ok (P := P) h (w := w) (S := S) (μ := μ) t
    exact ⟨v, by simp [hg, h1], h2⟩
  · rename_i h1 h2
    have hb : ∃ b, aeq E 8 t x y = some b := by
      cases ha : aeq E 8 t x y with
      | none => cases op <;> simp [ha] at h
      | some b => exact ⟨b, rfl⟩
    obtain ⟨b, hb⟩ := hb
    have nd : x ≠ .dead := by rintro rfl; exact aeq_dead hb
    refine bin_gen ok hx hy ox oy h ⟨?_, ?_, ?_, ?_⟩
    · rintro k a k' b' rfl rfl
      obtain rfl := R_int hx nd
      obtain rfl := R_int hy (aeq_int hb)
      exact h1 _ _ _ _ rfl rfl
    · rintro a b' rfl rfl
      obtain ⟨s, rfl⟩ := R_string hx nd
      obtain ⟨s', rfl⟩ := R_string hy (aeq_str hb)
      exact h2 _ _ rfl rfl
    · rintro k a k' b' rfl -
      exact R_float hx nd
    · rintro k a b' k' c d rfl -
      exact R_complex hx nd
end
end Go.VE
end
section
set_option linter.unusedVariables false
set_option linter.unusedSimpArgs false
set_option linter.unusedSectionVars false
namespace Go.VE
open Go.RowKit

theorem fold_set (vs : List Value) : ∀ (off j0 : Nat) (cells : Array Value), off + j0 + vs.length ≤ cells.size →
    ((vs.zipIdx j0).foldl (fun cs (p : Value × Nat) => cs.setIfInBounds (off + p.2) p.1) cells).toList = cells.toList.take (off + j0) ++ vs ++ cells.toList.drop (off + j0 + vs.length) := by
  induction vs with
  | nil => intro off j0 cells _; simp
  | cons v vs ih =>
    intro off j0 cells h
    simp only [List.zipIdx_cons, List.foldl_cons]
    rw [show off + j0 = off + j0 from rfl, ih off (j0 + 1) (cells.setIfInBounds (off + j0) v) (by simp at h ⊢; omega)]
    have hi : off + j0 < cells.toList.length := by simp at h ⊢; omega
    have e := list_seg_step cells.toList (off + j0) v vs (by simp at h ⊢; omega)
    simpa [Array.toList_setIfInBounds, Nat.add_assoc, Nat.add_comm 1] using e

section
variable {w : World} {S : Nat → Prop} {μ : Mu}

theorem splice_ok {xs : List AV} {l : List Value} (h : Rs w S xs μ l) {vs : List AV} {m : List Value} (h' : Rs w S vs μ m) (off : Nat) (hl : off + vs.length ≤ xs.length) :
    Rs w S (splice xs off vs) μ (l.take off ++ m ++ l.drop (off + m.length)) := by
  unfold splice
  have := Rs_len h'
  rw [this]
  exact Rs_append (Rs_append (Rs_take h off) h') (Rs_drop h _)

theorem fill_ok {place : Nat → Option (Nat × Nat)} : ∀ (ps : List (Nat × AV)) (vs : List (Nat × Value)) {xs : List AV} {c : Array Value} {ys : List AV}, Rs w S xs μ c.toList →
    ps.map (·.1) = vs.map (·.1) → Rs w S (ps.map (·.2)) μ (vs.map (·.2)) → fillA place xs ps = some ys → ∃ d, Instr.fill place c vs = some d ∧ Rs w S ys μ d.toList
  | [], vs, xs, c, ys, h, h1, _, hf => by
    have : vs = [] := by simpa using h1.symm
    subst this
    simp only [fillA] at hf
    cases hf
    exact ⟨c, rfl, h⟩
  | (i, x) :: ps, vs, xs, c, ys, h, h1, h2, hf => by
    cases vs with
    | nil => simp at h1
    | cons p vs =>
      obtain ⟨i', v⟩ := p
      simp only [List.map_cons, List.cons.injEq] at h1
      obtain ⟨rfl, h1⟩ := h1
      simp only [List.map_cons, Rs] at h2
      obtain ⟨v', l', h2a, h2b, h2c⟩ := h2
      obtain ⟨rfl, rfl⟩ := List.cons.inj h2a
      simp only [fillA] at hf
      cases hp : place i with
      | none => simp [hp] at hf
      | some q =>
        obtain ⟨off, size⟩ := q
        simp only [hp] at hf
        split at hf
        · rename_i hc
          obtain ⟨hc1, hc2, hc3⟩ := hc
          obtain ⟨r1, r2, r3⟩ := okv_cells h2b hc3
          have hlen : c.size = xs.length := by have := Rs_len h; simpa using this.symm
          have hfold := fold_set v.cells.toList off 0 c (by simp only [Array.length_toList]; omega)
          have hs := splice_ok h r1 off (by omega)
          have e : (v.cells.zipIdx.foldl (fun cs (p : Value × Nat) => cs.setIfInBounds (off + p.2) p.1) c).toList = c.toList.take off ++ v.cells.toList ++ c.toList.drop (off + v.cells.toList.length) := by
            rw [← Array.foldl_toList, Array.toList_zipIdx]
            simpa using hfold
          obtain ⟨d, hd1, hd2⟩ := fill_ok ps vs (c := v.cells.zipIdx.foldl (fun cs (p : Value × Nat) => cs.setIfInBounds (off + p.2) p.1) c) (by rw [e]; exact hs) h1 h2c hf
          refine ⟨d, ?_, hd2⟩
          simp only [Instr.fill, hp]
          rw [if_neg (by simp; omega)]
          exact hd1
        · cases hf
end

section
variable {E : Env} {P : Program} (ok : E.Ok P) {S0 : Nat → Prop} {B : Nat} {h : List Blk} {μ : Mu} {w : World} {t : List AV} {a : Act} (hh : HeapOk S0 B h μ w) (ht : TmpsOk S0 h μ w t a)

include hh in
theorem blk_ok {id : Nat} {b : Blk} (hb : blk h id = some b) : (b.st = 1 ∨ b.st = 2) ∧ nth h id = some b ∧ ∃ L c e, μ id = some L ∧ L.k = b.k ∧ B ≤ L.g ∧ w.heap[L.g]? = some (.cells c e (0, 0)) ∧ c.size = L.o + L.sz ∧ b.es.length * b.k ≤ L.sz ∧
    RowC w (InS S0 h μ) (muOf b μ) c b.k b.es L.o ∧ (b.st = 1 → ¬ InS S0 h μ L.g) := by
  unfold blk at hb
  split at hb
  · rename_i b' hn
    split at hb
    · rename_i hst
      cases hb
      obtain ⟨L, c, e, h1, h2, h3, h4, h5, h6, h7, h8⟩ := (hh.blk id b hn (by omega)).row
      exact ⟨hst, hn, L, c, e, h1, h2, h3, h4, h5, h6, h7 (by omega), h8⟩
    · cases hb
  · cases hb

theorem cell_at {w : World} {g : Nat} {c : Array Value} {e : TypeId} (hc : w.heap[g]? = some (.cells c e (0, 0))) (i : Nat) : w.cell? ⟨g, i, none⟩ = c[i]? := by simp [World.cell?, hc]

theorem muOf_le {b : Blk} {μ : Mu} : ∀ id L, muOf b μ id = some L → μ id = some L := by
  unfold muOf; split
  · exact noMu_le μ
  · exact fun _ _ h => h

theorem R_le {w : World} {S : Nat → Prop} {x : AV} {μ μ' : Mu} {v : Value} (hm : ∀ id L, μ id = some L → μ' id = some L) (h : R w S x μ v) : R w S x μ' v :=
  R_mono ⟨Nat.le_refl _, fun _ _ _ => rfl, fun _ _ h => h⟩ x hm h

include ok hh in
theorem load_ok {T : Nat} {x y : AV} {v : Value} (hx : R w (InS S0 h μ) x μ v) (hl : loadA E h T x = some y) : ∃ u, (Instr.loadAt T v).run P w = .ok u w ∧ R w (InS S0 h μ) y μ u := by
  unfold loadA at hl
  split at hl
  · rename_i id idx off
    split at hl
    · rename_i b hb
      split at hl
      · rename_i z hz
        simp only [R] at hx
        obtain ⟨L', hL', rfl⟩ := hx
        obtain ⟨_, _, L, c, e, h1, h2, h3, h4, h5, h6, h7, h8⟩ := blk_ok hh hb
        obtain rfl : L = L' := by rw [h1] at hL'; exact Option.some.inj hL'
        rw [nth_eq] at hz
        obtain ⟨ho, u, r1, r2, r3⟩ := RowC_get h7 idx z hz
        obtain ⟨q1, q2, q3⟩ := okv_cells r1 ho
        obtain ⟨u', e1, e2⟩ := run_loadV ok hl q1 (ad := ⟨L.g, L.o + idx * L.k, none⟩) (w := w) (fun j d hd => by
          rw [add_none, cell_at h4, h2]
          exact r3 j d (by simpa using hd))
        rw [add_none] at e1
        exact ⟨u', by simpa [Instr.loadAt, Instr.sureAddr] using e1, R_le muOf_le e2⟩
      · cases hl
    · cases hl
  · rename_i z off
    simp only [R] at hx
    obtain ⟨ad, rfl, _, ho, u, r1, r3⟩ := hx
    obtain ⟨q1, q2, q3⟩ := okv_cells r1 ho
    obtain ⟨u', e1, e2⟩ := run_loadV ok hl q1 (ad := ad) (w := w) (fun j d hd => r3 j d (by simpa using hd))
    exact ⟨u', by simpa [Instr.loadAt, Instr.sureAddr] using e1, R_noMu e2⟩
  · cases hl

include ok in
theorem fieldAddr_ok {T f : Nat} {x y : AV} {v : Value} {S : Nat → Prop} (hx : R w S x μ v) (hl : fieldAddrA E T x f = some y) : ∃ u, (Instr.fieldAt T v f).run P w = .ok u w ∧ R w S y μ u := by
  unfold fieldAddrA at hl
  split at hl
  · rename_i fs hu
    have hu' := ok.und _ _ hu
    split at hl
    · rename_i fd hfd
      split at hl
      · cases hl
      · rename_i n hn0 hn
        have hsz := run_sizeT ok hn w
        split at hl
        · rename_i id idx off
          cases hl
          simp only [R] at hx
          obtain ⟨L, hL, rfl⟩ := hx
          refine ⟨.pointer (some ⟨L.g, L.o + idx * L.k + (off + fd.offset), none⟩), ?_, ?_⟩
          · simp only [Instr.fieldAt, Sem.run_bind, run_underlying hu', Result.andThen_ok, hfd, Instr.sureAddr, Sem.run_pure, fieldPlace, hsz, Sem.run_ite]
            rw [if_neg (fun h0 => hn0 h0)]
            simp [add_none, Nat.add_assoc]
          · simp only [R]; exact ⟨L, hL, rfl⟩
        · rename_i z off
          cases hl
          simp only [R] at hx
          obtain ⟨ad, rfl, hr⟩ := hx
          refine ⟨.pointer (some (ad.add (off + fd.offset))), ?_, ?_⟩
          · simp only [Instr.fieldAt, Sem.run_bind, run_underlying hu', Result.andThen_ok, hfd, Instr.sureAddr, Sem.run_pure, fieldPlace, hsz, Sem.run_ite]
            rw [if_neg (fun h0 => hn0 h0)]
            simp [add_add]
          · simp only [R]; exact ⟨ad, rfl, hr⟩
        · cases hl
      · cases hl
    · cases hl
  · cases hl

include ok in
theorem indexAddr_ok {T : Nat} {x i y : AV} {v u : Value} (hx : R w (InS S0 h μ) x μ v) (hi : R w (InS S0 h μ) i μ u) (hl : indexAddrA E T x i = some y) : ∃ p, (Instr.indexAt T v u).run P w = .ok p w ∧ R w (InS S0 h μ) y μ p := by
  unfold indexAddrA at hl
  split at hl
  · rename_i k n
    simp only [R] at hi
    subst hi
    split at hl
    · cases hl
    · rename_i hn
      split at hl
      · rename_i e hu
        have hu' := ok.und _ _ hu
        split at hl
        · rename_i nn0 k0 l k' hk'
          split at hl
          · rename_i hkk
            subst hkk
            rw [nth_eq] at hl
            cases hy : l[n.toNat]? with
            | none => simp [hy] at hl
            | some z =>
              simp only [hy, Option.map_some, Option.some.injEq] at hl
              subst hl
              simp only [R] at hx
              rcases hx with ⟨_, rfl, _⟩ | ⟨_, ad, cap, rfl, hcap, hrow⟩
              · simp at hy
              · have hsz := run_sizeT ok hk' w
                have hlt : n.toNat < l.length := (List.getElem?_eq_some_iff.1 hy).1
                obtain ⟨hb, ho, uu, r1, r2, r3⟩ := RowAt_get hrow n.toNat z hy
                refine ⟨.pointer (some ((ad.add (n.toNat * k0)).add 0)), ?_, ?_⟩
                · simp only [Instr.indexAt, asIntOf, Sem.run_bind, Sem.run_pure, Result.andThen_ok, run_underlying hu', hsz]
                  rw [if_pos (by constructor <;> omega)]
                  simp [hsz, add_zero]
                · simp only [R]
                  exact ⟨_, rfl, by simpa [block_add] using hb, ho, uu, r1, fun j c hc => by rw [add_add]; simpa using r3 j c hc⟩
          · cases hl
        · rename_i id k1 off len k' hk'
          split at hl
          · rename_i hc
            obtain ⟨hc1, hc2⟩ := hc
            cases hl
            simp only [R] at hx
            obtain ⟨L, h1, hLk, hx⟩ := hx
            have hsz := run_sizeT ok hk' w
            rcases hx with ⟨cap, rfl, hcap, hfit⟩ | ⟨h0, _⟩
            · refine ⟨.pointer (some ⟨L.g, L.o + (off + n.toNat) * L.k + 0, none⟩), ?_, ?_⟩
              · simp only [Instr.indexAt, asIntOf, Sem.run_bind, Sem.run_pure, Result.andThen_ok, run_underlying hu', hsz]
                rw [if_pos (by constructor <;> omega)]
                have : L.k = k' := by rw [hLk, hc1]
                simp [hsz, add_none, ← this, Nat.add_mul, Nat.add_assoc]
              · simp only [R]; exact ⟨L, h1, rfl⟩
            · omega
          · cases hl
        · cases hl
      · rename_i len e hu
        have hu' := ok.und _ _ hu
        split at hl
        · rename_i id idx off k0 hk'
          split at hl
          · rename_i hlt
            cases hl
            simp only [R] at hx
            obtain ⟨L, hL, rfl⟩ := hx
            have hsz := run_sizeT ok hk' w
            refine ⟨.pointer (some ⟨L.g, L.o + idx * L.k + (off + n.toNat * k0), none⟩), ?_, ?_⟩
            · simp only [Instr.indexAt, asIntOf, Instr.sureAddr, Sem.run_bind, Sem.run_pure, Result.andThen_ok, run_underlying hu', hsz]
              rw [if_pos (by constructor <;> omega)]
              simp [hsz, add_none, Nat.add_assoc]
            · simp only [R]; exact ⟨L, hL, rfl⟩
          · cases hl
        · rename_i z off k0 hk'
          split at hl
          · rename_i hlt
            cases hl
            simp only [R] at hx
            obtain ⟨ad, rfl, hr⟩ := hx
            have hsz := run_sizeT ok hk' w
            refine ⟨.pointer (some (ad.add (off + n.toNat * k0))), ?_, ?_⟩
            · simp only [Instr.indexAt, asIntOf, Instr.sureAddr, Sem.run_bind, Sem.run_pure, Result.andThen_ok, run_underlying hu', hsz]
              rw [if_pos (by constructor <;> omega)]
              simp [hsz, add_add]
            · simp only [R]; exact ⟨ad, rfl, hr⟩
          · cases hl
        · cases hl
      · cases hl
  · cases hl
end
end Go.VE
end
section
set_option linter.unusedVariables false
set_option linter.unusedSimpArgs false
set_option linter.unusedSectionVars false
namespace Go.VE
open Go.RowKit

section
variable {E : Env} {P : Program} (ok : E.Ok P) {S0 : Nat → Prop} {B : Nat} {h : List Blk} {μ : Mu} {w : World} {t : List AV} {a : Act} (hh : HeapOk S0 B h μ w) (ht : TmpsOk S0 h μ w t a) {S : Nat → Prop}

include ok in
theorem index_ok {T : Nat} {x i y : AV} {v u : Value} (hx : R w S x μ v) (hi : R w S i μ u) (hl : indexA E T x i = some y) : ∃ p, (Instr.index T v u).run P w = .ok p w ∧ R w S y μ p := by
  unfold indexA at hl
  split at hl
  · rename_i k n
    simp only [R] at hi
    subst hi
    split at hl
    · cases hl
    · rename_i hn
      split at hl
      · rename_i s hu
        have hu' := ok.und _ _ hu
        simp only [R] at hx
        subst hx
        rw [nth_eq] at hl
        cases hb : (s[n.toNat]? : Option UInt8) with
        | none => simp [hb] at hl
        | some b =>
          simp only [hb, Option.map_some, Option.some.injEq] at hl
          subst hl
          refine ⟨.int .u8 b.toNat, ?_, by simp [R]⟩
          have hn' : 0 ≤ n := by omega
          have hlt : n.toNat < s.length := (List.getElem?_eq_some_iff.1 hb).1
          have hlt' : n.toNat < (⟨s.toArray⟩ : ByteArray).size := by simpa [ByteArray.size] using hlt
          have e : (⟨s.toArray⟩ : ByteArray)[n.toNat]? = some b := by
            rw [getElem?_pos (⟨s.toArray⟩ : ByteArray) n.toNat hlt']
            have hb' := hb
            rw [List.getElem?_eq_getElem hlt] at hb'
            rw [← Option.some.inj hb']; rfl
          simp only [Instr.index, asIntOf, Sem.run_bind, Sem.run_pure, Result.andThen_ok, run_underlying hu']
          rw [if_pos hn', e]
          rfl
      · rename_i len e cs hu
        have hu' := ok.und _ _ hu
        split at hl
        · rename_i k' hk'
          split at hl
          · rename_i hlt
            simp only [R] at hx
            obtain ⟨l, rfl, hx⟩ := hx
            obtain ⟨p, e1, e2⟩ := run_part ok hl hx
            have hsz := run_sizeT ok hk' w
            refine ⟨p, ?_, e2⟩
            simp only [Instr.index, asIntOf, Sem.run_bind, Sem.run_pure, Result.andThen_ok, run_underlying hu']
            rw [if_pos (by constructor <;> omega)]
            simp [hsz, e1]
          · cases hl
        · cases hl
      · cases hl
  · cases hl

theorem RowAt_sub {w : World} {S : Nat → Prop} {l : List AV} {ad : Addr} {k : Nat} (h : RowAt w S l ad k 0) (lo n : Nat) : RowAt w S ((l.drop lo).take n) (ad.add (lo * k)) k 0 :=
  RowAt_of fun i x hx => by
    simp only [List.getElem?_take, List.getElem?_drop] at hx
    split at hx
    · obtain ⟨hb, ho, u, r1, r2, r3⟩ := RowAt_get h (lo + i) x hx
      refine ⟨by simpa [block_add] using hb, ho, u, r1, r2, fun j c hc => ?_⟩
      rw [add_add]
      have := r3 j c hc
      rwa [show 0 + (lo + i) * k + j = lo * k + (0 + i * k + j) by rw [Nat.add_mul]; omega] at this
    · cases hx

theorem natOf_ok {x : AV} {n : Nat} {v : Value} (hx : R w S x μ v) (hn : natOf x = some n) : ∃ k, v = .int k n := by
  unfold natOf at hn
  split at hn
  · rename_i k m
    split at hn
    · cases hn
    · cases hn
      simp only [R] at hx
      exact ⟨k, by rw [hx]; congr 1; omega⟩
  · cases hn

theorem run_sliceBound {k : IntKind} {n y : Nat} (hle : n ≤ y) (code : BoundsCode) : (Instr.sliceBound (.int k n) y code).run P w = .ok n w := by
  simp only [Instr.sliceBound, asIntOf, Sem.run_bind, Sem.run_pure, Result.andThen_ok]
  rw [if_pos (by omega)]
  simp

theorem run_sliceBounds {b : Bool} {len cap lo hi : Nat} {ol oh : Option Value} (h1 : ol = none ∧ lo = 0 ∨ ∃ k, ol = some (.int k lo)) (h2 : oh = none ∧ hi = len ∨ ∃ k, oh = some (.int k hi)) (h3 : lo ≤ hi) (h4 : hi ≤ cap) :
    (Instr.sliceBounds b len cap ol oh none).run P w = .ok (lo, hi, cap) w := by
  unfold Instr.sliceBounds
  rcases h1 with ⟨rfl, rfl⟩ | ⟨k, rfl⟩ <;> rcases h2 with ⟨rfl, rfl⟩ | ⟨k', rfl⟩ <;> simp [run_sliceBound, *]

include ok in
theorem slice_ok {T lo hi : Nat} {x y : AV} {v : Value} {ol oh : Option Value} {n : Nat} (hx : R w S x μ v) (hn : lenA x = some n) (h1 : ol = none ∧ lo = 0 ∨ ∃ k, ol = some (.int k lo)) (h2 : oh = none ∧ hi = n ∨ ∃ k, oh = some (.int k hi))
    (hl : sliceA E T x lo hi = some y) : ∃ p, (Instr.sliceAt T v ol oh none).run P w = .ok p w ∧ R w S y μ p := by
  unfold sliceA at hl
  split at hl
  · rename_i s hu
    have hu' := ok.und _ _ hu
    split at hl
    · rename_i hc
      cases hl
      simp only [R] at hx
      subst hx
      simp only [lenA, Option.some.injEq] at hn
      have hs : (⟨s.toArray⟩ : ByteArray).size = s.length := by simp [ByteArray.size]
      refine ⟨.string ⟨((s.drop lo).take (hi - lo)).toArray⟩, ?_, by simp [R]⟩
      simp only [Instr.sliceAt, Instr.slice, Sem.run_bind, run_underlying hu', Result.andThen_ok, hs, Option.isSome_none, Bool.false_eq_true, if_false]
      rw [run_sliceBounds h1 (by rw [hn]; exact h2) hc.1 hc.2]
      simp [ByteArray.extract_mk]
    · cases hl
  · rename_i e b k l hu
    have hu' := ok.und _ _ hu
    split at hl
    · rename_i k' hk'
      have hsz := run_sizeT ok hk' w
      split at hl
      · rename_i hc
        obtain ⟨hc1, hc2, hc3⟩ := hc
        cases hl
        simp only [lenA, Option.some.injEq] at hn
        simp only [R] at hx
        rcases hx with ⟨rfl, rfl, rfl⟩ | ⟨rfl, ad, cap, rfl, hcap, hrow⟩
        · have : lo = 0 ∧ hi = 0 := by simp at hc2; omega
          obtain ⟨rfl, rfl⟩ := this
          refine ⟨.slice none 0 0, ?_, by simp [R]⟩
          simp only [Instr.sliceAt, Instr.slice, Sem.run_bind, run_underlying hu', Result.andThen_ok]
          rw [run_sliceBounds h1 (by rw [← hn] at h2; exact h2) (Nat.le_refl _) (Nat.le_refl _)]
          simp [hsz]
        · have hkk : k = k' := by simpa using hc3
          subst hkk
          refine ⟨.slice (some (if cap = lo then ad else ad.add (lo * k))) (hi - lo) (cap - lo), ?_, ?_⟩
          · simp only [Instr.sliceAt, Instr.slice, Sem.run_bind, run_underlying hu', Result.andThen_ok]
            rw [run_sliceBounds h1 (by rw [hn]; exact h2) hc1 (by omega)]
            simp only [Result.andThen_ok, hsz, Sem.run_bind, Sem.run_pure]
            split <;> simp
          · simp only [R]
            refine .inr ⟨trivial, (if cap = lo then ad else ad.add (lo * k)), cap - lo, ?_, ?_, ?_⟩
            · rw [show ((l.drop lo).take (hi - lo)).length = hi - lo by simp; omega]
            · simp; omega
            · split
              · rename_i hcl
                have : (l.drop lo).take (hi - lo) = [] := by
                  rw [List.take_eq_nil_iff]; exact .inl (by omega)
                rw [this]; simp [RowAt]
              · exact RowAt_sub hrow lo (hi - lo)
      · cases hl
    · cases hl
  · rename_i e id k off m hu
    have hu' := ok.und _ _ hu
    split at hl
    · rename_i k' hk'
      have hsz := run_sizeT ok hk' w
      split at hl
      · rename_i hc
        obtain ⟨hc1, hc2, rfl⟩ := hc
        cases hl
        simp only [lenA, Option.some.injEq] at hn
        subst hn
        simp only [R] at hx
        obtain ⟨L, hL, hLk, hx⟩ := hx
        rcases hx with ⟨cap, rfl, hcap, hfit⟩ | ⟨rfl, ad, rfl⟩
        · refine ⟨.slice (some (if cap = lo then ⟨L.g, L.o + off * L.k, none⟩ else (⟨L.g, L.o + off * L.k, none⟩ : Addr).add (lo * k))) (hi - lo) (cap - lo), ?_, ?_⟩
          · simp only [Instr.sliceAt, Instr.slice, Sem.run_bind, run_underlying hu', Result.andThen_ok]
            rw [run_sliceBounds h1 h2 hc1 (by omega)]
            simp only [Result.andThen_ok, hsz, Sem.run_bind, Sem.run_pure]
            split <;> simp
          · simp only [R]
            refine ⟨L, hL, hLk, ?_⟩
            by_cases hcl : cap = lo
            · rw [if_pos hcl]
              right
              have : hi - lo = 0 := by omega
              rw [this, hcl, Nat.sub_self]
              exact ⟨rfl, _, rfl⟩
            · rw [if_neg hcl]
              left
              refine ⟨cap - lo, ?_, by omega, ?_⟩
              · rw [add_none, ← hLk, Nat.add_mul, Nat.add_assoc]
              · have : (off + lo) * L.k + (cap - lo) * L.k = off * L.k + cap * L.k := by
                  rw [← Nat.add_mul, ← Nat.add_mul]; congr 1; omega
                omega
        · have : lo = 0 ∧ hi = 0 := by omega
          obtain ⟨rfl, rfl⟩ := this
          refine ⟨.slice (some ad) 0 0, ?_, ?_⟩
          · simp only [Instr.sliceAt, Instr.slice, Sem.run_bind, run_underlying hu', Result.andThen_ok]
            rw [run_sliceBounds h1 h2 (Nat.le_refl _) (Nat.le_refl _)]
            simp [hsz]
          · simp only [R]; exact ⟨L, hL, hLk, .inr ⟨rfl, ad, rfl⟩⟩
      · cases hl
    · cases hl
  · cases hl

theorem unbytes_ok : ∀ {l : List AV} {s : List UInt8} {c : List Value}, unbytes l = some s → Rs w S l μ c → c = s.map fun b => .int .u8 b.toNat
  | [], s, c, h, hr => by simp only [unbytes] at h; cases h; simp only [Rs] at hr; simpa using hr
  | x :: r, s, c, h, hr => by
    simp only [Rs] at hr
    obtain ⟨v, l', rfl, h2, h3⟩ := hr
    have hx : ∃ n : Int, x = .int .u8 n := by
      cases x with
      | int k n => cases k <;> first | exact ⟨_, rfl⟩ | simp [unbytes] at h
      | _ => simp [unbytes] at h
    obtain ⟨n, rfl⟩ := hx
    simp only [unbytes] at h
    split at h
    · rename_i hc
      cases hs : unbytes r with
      | none => simp [hs] at h
      | some s' =>
        simp only [hs, Option.map_some, Option.some.injEq] at h
        subst h
        have := unbytes_ok hs h3
        simp only [R] at h2
        subst h2
        rw [this]
        simp only [List.map_cons, List.cons.injEq, and_true, Value.int.injEq, true_and]
        simp [UInt8.toNat_ofNat']
        omega
    · cases h

theorem minmax_ok (mx : Bool) : ∀ {r : List AV} {x y : AV} {v : Value} {vs : List Value}, minmax mx x r = some y → R w S x μ v → Rs w S r μ vs →
    ∃ u, (vs.foldlM (if mx then Builtin.max2 else Builtin.min2) v).run P w = .ok u w ∧ R w S y μ u
  | [], x, y, v, vs, h, hx, hr => by
    simp only [minmax, mmI] at h
    cases h
    simp only [Rs] at hr
    subst hr
    exact ⟨v, by simp, hx⟩
  | z :: r, x, y, v, vs, h, hx, hr => by
    simp only [Rs] at hr
    obtain ⟨u, l', rfl, h2, h3⟩ := hr
    have hxz : (∃ k n, x = .int k n) ∧ ∃ k n, z = .int k n := by
      cases x <;> cases z <;> simp [minmax] at h
      exact ⟨⟨_, _, rfl⟩, _, _, rfl⟩
    obtain ⟨⟨k1, n1, rfl⟩, k2, n2, rfl⟩ := hxz
    simp only [minmax, mmI] at h
    simp only [R] at hx h2
    subst hx; subst h2
    obtain ⟨q, e1, e2⟩ := minmax_ok mx h (by simp only [R]; rfl) h3
    refine ⟨q, ?_, e2⟩
    simp only [List.foldlM_cons, Sem.run_bind]
    cases mx <;> simpa [Builtin.max2, Builtin.min2] using e1
end
end Go.VE
end
section
set_option linter.unusedVariables false
set_option linter.unusedSimpArgs false
set_option linter.unusedSectionVars false
namespace Go.VE
open Go.RowKit

section
variable {E : Env} {P : Program} (ok : E.Ok P) {S0 : Nat → Prop} {B : Nat} {h : List Blk} {μ : Mu} {w : World} {t : List AV} {a : Act} (hh : HeapOk S0 B h μ w) (ht : TmpsOk S0 h μ w t a) {S : Nat → Prop}

include ok in
theorem conv_ok {s d : Nat} {x y : AV} {v : Value} (hx : R w S x μ v) (hl : convA E s d x = some y) : ∃ p, (convert s d v).run P w = .ok p w ∧ R w S y μ p := by
  unfold convA at hl
  split at hl
  · rename_i td k k' n hs hu
    have hs' := ok.und _ _ hs
    have hu' := ok.und _ _ hu
    cases hl
    simp only [R] at hx
    subst hx
    refine ⟨.int k (k.wrap n), ?_, by simp [R]⟩
    simp only [convert, Sem.run_bind, run_underlying hs', run_underlying hu', Result.andThen_ok]
    cases td <;> rfl
  · rename_i td s' hs hu
    have hs' := ok.und _ _ hs
    have hu' := ok.und _ _ hu
    cases hl
    simp only [R] at hx
    subst hx
    refine ⟨.string ⟨s'.toArray⟩, ?_, by simp [R]⟩
    simp only [convert, Sem.run_bind, run_underlying hs', run_underlying hu', Result.andThen_ok]
    cases td <;> rfl
  · cases hl

include ht in
theorem parts_ok : ∀ {ps : List (Nat × Operand)} {xs : List (Nat × AV)}, evParts t ps = some xs → xs.map (·.1) = (ps.map fun p => (p.1, a.eval p.2)).map (·.1) ∧ Rs w (InS S0 h μ) (xs.map (·.2)) μ ((ps.map fun p => (p.1, a.eval p.2)).map (·.2))
  | [], xs, he => by simp only [evParts] at he; cases he; simp [Rs]
  | (i, o) :: ps, xs, he => by
    simp only [evParts] at he
    split at he
    · rename_i v vs hv hvs
      cases he
      obtain ⟨h1, h2⟩ := parts_ok hvs
      refine ⟨by simpa using h1, ?_⟩
      simp only [List.map_cons, Rs]
      exact ⟨_, _, rfl, evO_ok ht hv, h2⟩
    · cases he

theorem run_mapM_places (ok : E.Ok P) : ∀ {fs : List Field} {pl : List (Nat × Nat)}, places E fs = some pl → ∀ (w : World),
    (fs.mapM (m := Sem) fun f => do pure (f.offset, ← sizeOf f.type)).run P w = .ok pl w
  | [], pl, hp, w => by simp only [places] at hp; cases hp; simp
  | f :: fs, pl, hp, w => by
    simp only [places] at hp
    split at hp
    · rename_i n r hn hr
      cases hp
      have ih := run_mapM_places ok hr w
      simp only [List.mapM_cons, Sem.run_bind, run_sizeT ok hn, Result.andThen_ok, Sem.run_pure]
      rw [ih]; rfl
    · cases hp

include ok in
theorem build_ok {T : Nat} {ps : List (Nat × AV)} {vs : Array (Nat × Value)} {y : AV} (h1 : ps.map (·.1) = vs.toList.map (·.1)) (h2 : Rs w S (ps.map (·.2)) μ (vs.toList.map (·.2))) (hl : buildA E T ps = some y) :
    ∃ p, (Instr.build T vs).run P w = .ok p w ∧ R w S y μ p := by
  have zc : ∀ {z : AV} {zv : Value}, R w S z noMu zv → z.okv = true → Rs w S z.cells μ zv.cells.toList := fun hz ho => (okv_cells (R_noMu hz) ho).1
  unfold buildA at hl
  split at hl
  · rename_i z fs hz hu
    have hu' := ok.und _ _ hu
    obtain ⟨zv, hz1, hz2⟩ := run_zeroT ok hz
    split at hl
    · rename_i pl hpl
      cases hf : fillA (nth pl) z.cells ps with
      | none => simp [hf] at hl
      | some cs =>
        simp only [hf] at hl
        split at hl
        · rename_i ho
          cases hl
          obtain ⟨d, e1, e2⟩ := fill_ok ps vs.toList (zc (hz2 w S) ho) h1 h2 hf
          refine ⟨.agg d, ?_, by simp only [R]; exact ⟨d.toList, by simp, e2⟩⟩
          have hm := run_mapM_places ok hpl w
          have e0 : (fun i => pl.toArray[i]?) = nth pl := by funext i; simp [nth_eq]
          simp only [Instr.build, Sem.run_bind, hz1, Result.andThen_ok, run_underlying hu']
          rw [Array.mapM_eq_mapM_toList]
          simp only [Sem.run_map, hm, Result.andThen_ok, e0, e1, Sem.run_pure]
        · cases hl
    · cases hl
  · rename_i z n0 e hz hu
    have hu' := ok.und _ _ hu
    obtain ⟨zv, hz1, hz2⟩ := run_zeroT ok hz
    split at hl
    · rename_i n hn
      cases hf : fillA (fun i => some (i * n, n)) z.cells ps with
      | none => simp [hf] at hl
      | some cs =>
        simp only [hf] at hl
        split at hl
        · rename_i ho
          cases hl
          obtain ⟨d, e1, e2⟩ := fill_ok ps vs.toList (zc (hz2 w S) ho) h1 h2 hf
          refine ⟨.agg d, ?_, by simp only [R]; exact ⟨d.toList, by simp, e2⟩⟩
          simp only [Instr.build, Sem.run_bind, hz1, Result.andThen_ok, run_underlying hu', run_sizeT ok hn, e1, Sem.run_pure]
        · cases hl
    · cases hl
  · cases hl

include ht in
theorem optNat_ok {o : Option Operand} {d n : Nat} (hn : optNat t d o = some n) : o.map a.eval = none ∧ n = d ∨ ∃ k, o.map a.eval = some (.int k n) := by
  cases o with
  | none => simp only [optNat] at hn; cases hn; exact .inl ⟨rfl, rfl⟩
  | some x =>
    simp only [optNat] at hn
    split at hn
    · rename_i v hv
      obtain ⟨k, hk⟩ := natOf_ok (evO_ok ht hv) hn
      exact .inr ⟨k, by simp [hk]⟩
    · cases hn

include ok hh ht in
theorem pure_ok {o : Oper} {x : AV} (hp : pureOp E h t o.op = some x) : ∃ v, (execOp a.eval o).run P w = .ok (.value v) w ∧ R w (InS S0 h μ) x μ v := by
  cases ho : o.op <;> rw [ho] at hp <;> simp only [pureOp, reduceCtorEq] at hp <;> simp only [execOp, ho]
  case move y => exact ⟨_, rfl, evO_ok ht hp⟩
  case assign y => exact ⟨_, rfl, evO_ok ht hp⟩
  case pick c y z =>
    split at hp
    · rename_i hc
      have := evO_ok ht hc
      simp only [R] at this
      exact ⟨a.eval y, by simp [asBool, this], evO_ok ht hp⟩
    · rename_i hc
      have := evO_ok ht hc
      simp only [R] at this
      exact ⟨a.eval z, by simp [asBool, this], evO_ok ht hp⟩
    · cases hp
  case build T parts =>
    split at hp
    · rename_i ps hps
      obtain ⟨h1, h2⟩ := parts_ok ht hps
      split at hp
      · rename_i b hb
        cases hp
        obtain ⟨v, e1, e2⟩ := build_ok ok (vs := parts.map fun (i, x) => (i, a.eval x)) (by simpa using h1) (by simpa using h2) hb
        exact ⟨v, by simp [e1], fix_R e2⟩
      · cases hp
    · cases hp
  case load T y =>
    split at hp
    · rename_i y' hy
      obtain ⟨v, e1, e2⟩ := load_ok ok hh (evO_ok ht hy) hp
      exact ⟨v, by simp [e1], e2⟩
    · cases hp
  case nilCheck y =>
    split at hp
    · rename_i hy
      cases hp
      have := evO_ok ht hy
      have h2 := this
      simp only [R] at this
      obtain ⟨L, _, he⟩ := this
      exact ⟨a.eval y, by rw [he]; rfl, h2⟩
    · rename_i hy
      cases hp
      have := evO_ok ht hy
      have h2 := this
      simp only [R] at this
      obtain ⟨ad, he, _⟩ := this
      exact ⟨a.eval y, by rw [he]; rfl, h2⟩
    · rename_i hy
      cases hp
      have := evO_ok ht hy
      have h2 := this
      simp only [R] at this
      obtain ⟨l, he, _⟩ := this
      exact ⟨a.eval y, by rw [he]; rfl, h2⟩
    · cases hp
  case binOp op xt y z yt =>
    split at hp
    · rename_i y' z' hy hz
      obtain ⟨v, e1, e2⟩ := bin_ok ok hp (evO_ok ht hy) (evO_ok ht hz) y z
      exact ⟨v, by rw [Sem.run_bind, e1]; rfl, e2⟩
    · cases hp
  case unOp op xt y =>
    split at hp
    · rename_i y' hy
      have hr := evO_ok ht hy
      unfold unA at hp
      split at hp
      · rename_i k n
        cases hp
        simp only [R] at hr
        exact ⟨_, by simp [hr, Op.unary, Op.intArith]; rfl, by simp [R]⟩
      · rename_i k n
        simp only [R] at hr
        obtain ⟨v, e1, e2⟩ := bits_ok (P := P) (w := w) (S := InS S0 h μ) (μ := μ) hp
        exact ⟨v, by simp [hr, Op.unary, e1], e2⟩
      · rename_i b
        cases hp
        simp only [R] at hr
        exact ⟨_, by simp [hr, Op.unary]; rfl, by simp [R]⟩
      · cases hp
    · cases hp
  case convert s d y =>
    split at hp
    · rename_i y' hy
      obtain ⟨v, e1, e2⟩ := conv_ok ok (evO_ok ht hy) hp
      exact ⟨v, by simp [e1], e2⟩
    · cases hp
  case makeFunc fn first cap =>
    cases fn <;> try (simp [pureOp] at hp; done)
    rename_i f
    simp only [pureOp] at hp
    split at hp
    · rename_i hf
      cases hc : evOs t cap.toList with
      | none => simp [hc] at hp
      | some cs =>
        simp only [hc, Option.map_some, Option.some.injEq] at hp
        subst hp
        have hf' : first = #[] := by
          apply Array.ext'; simpa using hf
        subst hf'
        refine ⟨.func (.func f) #[] (cap.toList.map a.eval).toArray, ?_, by simp only [R]; exact ⟨_, rfl, evOs_ok ht hc⟩⟩
        have e : cap.map a.eval = (cap.toList.map a.eval).toArray := by apply Array.ext'; simp
        simp [Instr.makeFunc, e]
    · cases hp
  case slice T y lo hi mx =>
    cases mx with
    | some m => simp at hp
    | none =>
      simp only at hp
      split at hp
      · rename_i y' hy
        split at hp
        · rename_i n hn
          split at hp
          · rename_i l u hl hu
            obtain ⟨v, e1, e2⟩ := slice_ok ok (evO_ok ht hy) hn (optNat_ok ht hl) (optNat_ok ht hu) hp
            exact ⟨v, by simp [e1], e2⟩
          · cases hp
        · cases hp
      · cases hp
  case fieldAddr T y f =>
    split at hp
    · rename_i y' hy
      obtain ⟨v, e1, e2⟩ := fieldAddr_ok ok (evO_ok ht hy) hp
      exact ⟨v, by simp [e1], e2⟩
    · cases hp
  case field T y f =>
    split at hp
    · rename_i cs fs hy hu
      have hu' := ok.und _ _ hu
      split at hp
      · rename_i fd hfd
        have hr := evO_ok ht hy
        simp only [R] at hr
        obtain ⟨l, he, hr⟩ := hr
        obtain ⟨v, e1, e2⟩ := run_part ok hp hr
        exact ⟨v, by simp [Instr.field, run_underlying hu', hfd, he, asAgg, e1], e2⟩
      · cases hp
    · cases hp
  case indexAddr T y i =>
    split at hp
    · rename_i y' i' hy hi
      obtain ⟨v, e1, e2⟩ := indexAddr_ok ok (evO_ok ht hy) (evO_ok ht hi) hp
      exact ⟨v, by simp [e1], e2⟩
    · cases hp
  case index T y i =>
    split at hp
    · rename_i y' i' hy hi
      obtain ⟨v, e1, e2⟩ := index_ok ok (evO_ok ht hy) (evO_ok ht hi) hp
      exact ⟨v, by simp [e1], e2⟩
    · cases hp
  case extract y i =>
    split at hp
    · rename_i vs hy
      have hr := evO_ok ht hy
      simp only [R] at hr
      obtain ⟨l, he, hr⟩ := hr
      rw [nth_eq] at hp
      obtain ⟨v, hv, hr'⟩ := Rs_get hr i x hp
      exact ⟨v, by simp [Instr.extract, he, hv], hr'⟩
    · cases hp
  case call c =>
    obtain ⟨callee, args, argTypes⟩ := c
    simp only at hp
    split at hp
    · split at hp
      · rename_i y T hargs hT
        have e1 : args = #[y] := by apply Array.ext'; simpa using hargs
        have e2 : argTypes = #[T] := by apply Array.ext'; simpa using hT
        subst e1; subst e2
        have key : ∀ (v : Value), (Builtin.len_ #[T] o.type #[a.eval y]).run P w = .ok v w →
            (do let d ← resolve a.eval { callee := .builtin .len, args := #[y], argTypes := #[T] } o.type; invoke d.target d.args : Sem Next).run P w = .ok (.value v) w := by
          intro v hv
          simp [resolve, invoke, builtin, hv]
        split at hp
        · rename_i s hy hu
          cases hp
          have hr := evO_ok ht hy
          simp only [R] at hr
          refine ⟨_, key (.int .i64 s.length) ?_, by simp [R]⟩
          have hs : (⟨s.toArray⟩ : ByteArray).size = s.length := by simp [ByteArray.size]
          simp only [Builtin.len_, List.getElem?_toArray, List.getElem?_cons_zero, Sem.run_bind, run_underlying (ok.und _ _ hu), Result.andThen_ok, hr, goInt, hs, Sem.run_pure]
        · rename_i b k l e hy hu
          cases hp
          have hr := evO_ok ht hy
          simp only [R] at hr
          refine ⟨_, key (.int .i64 l.length) ?_, by simp [R]⟩
          rcases hr with ⟨_, rfl, hv⟩ | ⟨_, ad, cap, hv, _⟩ <;> simp [Builtin.len_, run_underlying (ok.und _ _ hu), hv, goInt]
        · rename_i id k off n e hy hu
          cases hp
          have hr := evO_ok ht hy
          simp only [R] at hr
          obtain ⟨L, _, _, hr⟩ := hr
          refine ⟨_, key (.int .i64 n) ?_, by simp [R]⟩
          rcases hr with ⟨cap, hv, _⟩ | ⟨rfl, ad, hv⟩ <;> simp [Builtin.len_, run_underlying (ok.und _ _ hu), hv, goInt]
        · rename_i n e hu
          cases hp
          refine ⟨_, key (.int .i64 n) ?_, by simp [R]⟩
          simp [Builtin.len_, run_underlying (ok.und _ _ hu), goInt]
        · cases hp
      · cases hp
    · split at hp
      · rename_i y r hargs
        have hr := evOs_ok ht hargs
        cases hl : args.toList with
        | nil => simp [hl, evOs] at hargs
        | cons q qs =>
          rw [hl] at hr
          simp only [List.map_cons, Rs] at hr
          obtain ⟨v, l', h1, h2, h3⟩ := hr
          obtain ⟨rfl, rfl⟩ := List.cons.inj h1
          obtain ⟨u, e1, e2⟩ := minmax_ok (P := P) false hp h2 h3
          refine ⟨u, ?_, e2⟩
          have e : (args.map a.eval).toList = a.eval q :: qs.map a.eval := by simp [hl]
          have e1' : (List.foldlM Builtin.min2 (a.eval q) (qs.map a.eval)).run P w = .ok u w := by simpa using e1
          simp only [resolve, invoke, builtin, Builtin.min_, e, Sem.run_bind, Sem.run_pure, Result.andThen_ok, e1']
      · cases hp
    · split at hp
      · rename_i y r hargs
        have hr := evOs_ok ht hargs
        cases hl : args.toList with
        | nil => simp [hl, evOs] at hargs
        | cons q qs =>
          rw [hl] at hr
          simp only [List.map_cons, Rs] at hr
          obtain ⟨v, l', h1, h2, h3⟩ := hr
          obtain ⟨rfl, rfl⟩ := List.cons.inj h1
          obtain ⟨u, e1, e2⟩ := minmax_ok (P := P) true hp h2 h3
          refine ⟨u, ?_, e2⟩
          have e : (args.map a.eval).toList = a.eval q :: qs.map a.eval := by simp [hl]
          have e1' : (List.foldlM Builtin.max2 (a.eval q) (qs.map a.eval)).run P w = .ok u w := by simpa using e1
          simp only [resolve, invoke, builtin, Builtin.max_, e, Sem.run_bind, Sem.run_pure, Result.andThen_ok, e1']
      · cases hp
    · cases hp
end
end Go.VE
end
section
set_option linter.unusedVariables false
set_option linter.unusedSimpArgs false
set_option linter.unusedSectionVars false
namespace Go.VE
open Go.RowKit

/-- From one state of the rows to a later one. -/
structure Stp (S0 : Nat → Prop) (B : Nat) (h : List Blk) (μ : Mu) (w : World) (h' : List Blk) (μ' : Mu) (w' : World) : Prop where
  heap : HeapOk S0 B h' μ' w'
  kept : Kept w (InS S0 h μ) w' (InS S0 h' μ')
  mu : ∀ id L, μ id = some L → μ' id = some L
  below : Below B w w'
  sz : B ≤ w'.heap.size

theorem Stp.refl {S0 : Nat → Prop} {B : Nat} {h : List Blk} {μ : Mu} {w : World} (hh : HeapOk S0 B h μ w) (hB : B ≤ w.heap.size) : Stp S0 B h μ w h μ w :=
  ⟨hh, ⟨Nat.le_refl _, fun _ _ _ => rfl, fun _ _ h => h⟩, fun _ _ h => h, Below.refl B w, hB⟩

theorem Kept.trans {w1 w2 w3 : World} {S1 S2 S3 : Nat → Prop} (h : Kept w1 S1 w2 S2) (k : Kept w2 S2 w3 S3) : Kept w1 S1 w3 S3 :=
  ⟨Nat.le_trans h.size k.size, fun g hn hg => (k.heap g (h.not hg hn) (Nat.lt_of_lt_of_le hg h.size)).trans (h.heap g hn hg),
    fun g hg hs => h.out g hg (k.out g (Nat.lt_of_lt_of_le hg h.size) hs)⟩

theorem Stp.trans {S0 : Nat → Prop} {B : Nat} {h1 h2 h3 : List Blk} {μ1 μ2 μ3 : Mu} {w1 w2 w3 : World} (a : Stp S0 B h1 μ1 w1 h2 μ2 w2) (b : Stp S0 B h2 μ2 w2 h3 μ3 w3) : Stp S0 B h1 μ1 w1 h3 μ3 w3 :=
  ⟨b.heap, a.kept.trans b.kept, fun id L h => b.mu id L (a.mu id L h), a.below.trans b.below, b.sz⟩

theorem Stp.R {S0 : Nat → Prop} {B : Nat} {h h' : List Blk} {μ μ' : Mu} {w w' : World} (s : Stp S0 B h μ w h' μ' w') {x : AV} {v : Value} (hx : R w (InS S0 h μ) x μ v) : R w' (InS S0 h' μ') x μ' v := R_mono s.kept x s.mu hx
theorem Stp.tmps {S0 : Nat → Prop} {B : Nat} {h h' : List Blk} {μ μ' : Mu} {w w' : World} (s : Stp S0 B h μ w h' μ' w') {t : List AV} {a : Act} (ht : TmpsOk S0 h μ w t a) : TmpsOk S0 h' μ' w' t a :=
  ⟨ht.size, fun i x hx => s.R (ht.val i x hx)⟩

def upd (μ : Mu) (id : Nat) (L : Loc) : Mu := fun i => if i = id then some L else μ i
theorem upd_same (μ : Mu) (id : Nat) (L : Loc) : upd μ id L id = some L := by simp [upd]
theorem upd_other (μ : Mu) {id i : Nat} (L : Loc) (h : i ≠ id) : upd μ id L i = μ i := by simp [upd, h]

theorem nth_append_lt {α : Type} {l m : List α} {i : Nat} (h : i < l.length) : nth (l ++ m) i = nth l i := by simp [nth_eq, List.getElem?_append_left h]
theorem nth_append_len {α : Type} (l : List α) (x : α) : nth (l ++ [x]) l.length = some x := by simp [nth_eq]
theorem nth_lt {α : Type} {l : List α} {i : Nat} {x : α} (h : nth l i = some x) : i < l.length := by rw [nth_eq] at h; exact (List.getElem?_eq_some_iff.1 h).1
theorem nth_snoc {α : Type} {l : List α} {x y : α} {i : Nat} (h : nth (l ++ [x]) i = some y) : (i < l.length ∧ nth l i = some y) ∨ (i = l.length ∧ y = x) := by
  by_cases hi : i < l.length
  · exact .inl ⟨hi, by rwa [nth_append_lt hi] at h⟩
  · have := nth_lt h
    simp at this
    have : i = l.length := by omega
    subst this
    rw [nth_append_len] at h
    exact .inr ⟨rfl, (Option.some.inj h).symm⟩
theorem nth_setN {α : Type} {l : List α} {i j : Nat} {x y : α} (h : nth (setN l i x) j = some y) : (j = i ∧ y = x) ∨ (j ≠ i ∧ nth l j = some y) := by
  rw [nth_eq, setN_eq, List.getElem?_set] at h
  split at h
  · rename_i hij
    split at h
    · exact .inl ⟨hij.symm, (Option.some.inj h).symm⟩
    · cases h
  · rename_i hij
    exact .inr ⟨fun e => hij e.symm, by rw [nth_eq]; exact h⟩
theorem setN_len {α : Type} (l : List α) (i : Nat) (x : α) : (setN l i x).length = l.length := by simp [setN_eq]
theorem nth_setN_same {α : Type} {l : List α} {i : Nat} (x : α) (h : i < l.length) : nth (setN l i x) i = some x := by simp [nth_eq, setN_eq, h]
theorem nth_setN_ne {α : Type} {l : List α} {i j : Nat} (x : α) (h : j ≠ i) : nth (setN l i x) j = nth l j := by simp [nth_eq, setN_eq, Ne.symm h]

section
variable {S0 : Nat → Prop} {B : Nat} {h : List Blk} {μ : Mu} {w : World} (hh : HeapOk S0 B h μ w)
include hh

theorem InS_lt (hB : B ≤ w.heap.size) {g : Nat} (hs : InS S0 h μ g) : g < w.heap.size := by
  rcases hs with hs | ⟨id, b, L, h1, h2, h3, rfl⟩
  · exact Nat.lt_of_lt_of_le (hh.prot g hs) hB
  · obtain ⟨L', c, e, q1, q2, q3, q4, _⟩ := (hh.blk id b h1 (by omega)).row
    rw [h3] at q1; cases q1
    exact (Array.getElem?_eq_some_iff.1 q4).1
theorem InS_of {id : Nat} {b : Blk} {L : Loc} (h1 : nth h id = some b) (h2 : b.st = 2 ∨ b.st = 3) (h3 : μ id = some L) : InS S0 h μ L.g ∧ B ≤ L.g ∧ L.g < w.heap.size := by
  refine ⟨.inr ⟨id, b, L, h1, h2, h3, rfl⟩, ?_⟩
  obtain ⟨L', c, e, q1, q2, q3, q4, _⟩ := (hh.blk id b h1 (by omega)).row
  rw [h3] at q1; cases q1
  exact ⟨q3, (Array.getElem?_eq_some_iff.1 q4).1⟩

/-- The world has changed outside the rows of the call's own alone, and they are none other. -/
theorem heap_world {w' : World} (hk : Kept w (InS S0 h μ) w' (InS S0 h μ)) (hr : ∀ g, InS S0 h μ g → w'.heap[g]? = w.heap[g]?) : HeapOk S0 B h μ w' := by
  refine ⟨fun id b h1 h2 => ?_, hh.dom, hh.prot, hh.res, hh.inj⟩
  obtain ⟨L, c, e, q1, q2, q3, q4, q5, q6, q7, q8⟩ := (hh.blk id b h1 h2).row
  refine ⟨(hh.blk id b h1 h2).st, L, c, e, q1, q2, q3, ?_, q5, q6, fun hs => RowC_mono hk (fun _ _ h => h) (q7 hs), q8⟩
  by_cases hs : InS S0 h μ L.g
  · rw [hr _ hs]; exact q4
  · rw [hk.heap _ hs (Array.getElem?_eq_some_iff.1 q4).1]; exact q4

/-- A row is given up. -/
theorem kill_step (hB : B ≤ w.heap.size) {id : Nat} {b : Blk} (hb : nth h id = some b) (hst : b.st = 2) (f : Bool) (T k : Nat) (hk0 : k ≠ 0) (es : List AV) : Stp S0 B h μ w (setN h id ⟨0, f, T, k, es⟩) μ w := by
  have hsub : ∀ g, InS S0 (setN h id ⟨0, f, T, k, es⟩) μ g → InS S0 h μ g := by
    rintro g (h0 | ⟨i, c, L, h1, h2, h3, h4⟩)
    · exact .inl h0
    rcases nth_setN h1 with ⟨rfl, rfl⟩ | ⟨hne, h1⟩
    · simp at h2
    · exact .inr ⟨i, c, L, h1, h2, h3, h4⟩
  have hk : Kept w (InS S0 h μ) w (InS S0 (setN h id ⟨0, f, T, k, es⟩) μ) := ⟨Nat.le_refl _, fun _ _ _ => rfl, fun g _ hs => hsub g hs⟩
  refine ⟨⟨fun i c h1 h2 => ?_, fun i hi => hh.dom i (by rwa [setN_len] at hi), hh.prot, fun i c h1 h2 h3 => (by
    rcases nth_setN h1 with ⟨rfl, rfl⟩ | ⟨hne, h1⟩
    · exact absurd h3 hk0
    · exact hh.res i c h1 h2 h3), fun i i' c c' L L' h1 h2 h3 h4 h5 h6 h7 => ?_⟩, hk, fun _ _ h => h, Below.refl B w, hB⟩
  · rcases nth_setN h1 with ⟨rfl, rfl⟩ | ⟨hne, h1⟩
    · exact absurd rfl h2
    · obtain ⟨L, c', e, q1, q2, q3, q4, q5, q6, q7, q8⟩ := (hh.blk i c h1 h2).row
      exact ⟨(hh.blk i c h1 h2).st, L, c', e, q1, q2, q3, q4, q5, q6, fun hs => RowC_mono hk (fun _ _ h => h) (q7 hs), fun h1 hs => q8 h1 (hsub _ hs)⟩
  · rcases nth_setN h1 with ⟨rfl, rfl⟩ | ⟨hne, h1⟩
    · simp at h2
    · rcases nth_setN h3 with ⟨rfl, rfl⟩ | ⟨hne', h3⟩
      · simp at h4
      · exact hh.inj i i' c c' L L' h1 h2 h3 h4 h5 h6 h7

/-- A new row: a new block. -/
theorem alloc_step (hB : B ≤ w.heap.size) {fl : Bool} {st T k : Nat} {es : List AV} {cs : Array Value} {e : TypeId} (hst : st = 2 ∨ st = 3) (hl : es.length * k ≤ cs.size)
    (hr : st ≠ 3 → RowC w (InS S0 h μ) (if fl then noMu else μ) cs k es 0) :
    Stp S0 B h μ w (h ++ [⟨st, fl, T, k, es⟩]) (upd μ h.length ⟨w.heap.size, 0, k, cs.size⟩) (w.alloc (.cells cs e)) := by
  have hnone : μ h.length = none := hh.dom _ (Nat.le_refl _)
  have hmu : ∀ id L, μ id = some L → upd μ h.length ⟨w.heap.size, 0, k, cs.size⟩ id = some L := fun id L hL => by
    rw [upd_other]; exact hL
    rintro rfl; rw [hnone] at hL; cases hL
  have hS : ∀ g, InS S0 (h ++ [⟨st, fl, T, k, es⟩]) (upd μ h.length ⟨w.heap.size, 0, k, cs.size⟩) g → InS S0 h μ g ∨ g = w.heap.size := by
    rintro g (h0 | ⟨i, c, L, h1, h2, h3, h4⟩)
    · exact .inl (.inl h0)
    rcases nth_snoc h1 with ⟨hi, h1⟩ | ⟨rfl, rfl⟩
    · rw [upd_other _ _ (Nat.ne_of_lt hi)] at h3
      exact .inl (.inr ⟨i, c, L, h1, h2, h3, h4⟩)
    · rw [upd_same] at h3; cases h3; exact .inr h4.symm
  have hk : Kept w (InS S0 h μ) (w.alloc (.cells cs e)) (InS S0 (h ++ [⟨st, fl, T, k, es⟩]) (upd μ h.length ⟨w.heap.size, 0, k, cs.size⟩)) :=
    ⟨by simp, fun g _ hg => heap_alloc_old w _ _ hg, fun g hg hs => by rcases hS g hs with h | h; exact h; omega⟩
  refine ⟨⟨fun i c h1 h2 => ?_, fun i hi => ?_, hh.prot, fun i c h1 h2 h3 => (by
    rcases nth_snoc h1 with ⟨hi, h1⟩ | ⟨rfl, rfl⟩
    · rw [upd_other _ _ (Nat.ne_of_lt hi)]; exact hh.res i c h1 h2 h3
    · simp only at h2; omega), fun i i' c c' L L' h1 h2 h3 h4 h5 h6 h7 => ?_⟩, hk, hmu, (Below.refl B w).alloc hB _, by simp; omega⟩
  · rcases nth_snoc h1 with ⟨hi, h1⟩ | ⟨rfl, rfl⟩
    · obtain ⟨L, c', e', q1, q2, q3, q4, q5, q6, q7, q8⟩ := (hh.blk i c h1 h2).row
      have hlt := (Array.getElem?_eq_some_iff.1 q4).1
      refine ⟨(hh.blk i c h1 h2).st, L, c', e', hmu _ _ q1, q2, q3, by rw [heap_alloc_old w _ _ hlt]; exact q4, q5, q6, fun hs => RowC_mono hk ?_ (q7 hs), fun h1 hs => ?_⟩
      · unfold muOf; split
        · exact fun _ _ h => h
        · exact hmu
      · rcases hS _ hs with h | h
        · exact q8 h1 h
        · omega
    · refine ⟨.inr hst, ⟨w.heap.size, 0, k, cs.size⟩, cs, e, upd_same _ _ _, rfl, hB, heap_alloc_new w _, by simp, hl, fun hs => ?_, fun h1 => ?_⟩
      · refine RowC_mono hk ?_ (hr hs)
        unfold muOf; split
        · exact fun _ _ h => h
        · exact hmu
      · simp only at h1; omega
  · rw [upd_other]
    · exact hh.dom i (by simp at hi; omega)
    · simp at hi; omega
  · rcases nth_snoc h1 with ⟨hi, h1⟩ | ⟨rfl, rfl⟩ <;> rcases nth_snoc h3 with ⟨hi', h3⟩ | ⟨rfl, rfl⟩
    · rw [upd_other _ _ (Nat.ne_of_lt hi)] at h5
      rw [upd_other _ _ (Nat.ne_of_lt hi')] at h6
      exact hh.inj i i' c c' L L' h1 h2 h3 h4 h5 h6 h7
    · rw [upd_other _ _ (Nat.ne_of_lt hi)] at h5
      rw [upd_same] at h6; cases h6
      have := (InS_of hh h1 h2 h5).2.2
      simp only at h7; omega
    · rw [upd_other _ _ (Nat.ne_of_lt hi')] at h6
      rw [upd_same] at h5; cases h5
      have := (InS_of hh h3 h4 h6).2.2
      simp only at h7; omega
    · rfl

/-- A row's cells are written, from the row's own place on. -/
theorem write_step (hB : B ≤ w.heap.size) {id : Nat} {b b' : Blk} {L : Loc} {c c' : Array Value} {e : TypeId} (hb : nth h id = some b) (hst : b.st = 2 ∨ b.st = 3) (hst' : b'.st = 2) (hL : μ id = some L) (hk' : b'.k = b.k)
    (hc : w.heap[L.g]? = some (.cells c e (0, 0))) (hsz : c'.size = c.size) (hl : b'.es.length * b'.k ≤ L.sz)
    (hr : RowC w (InS S0 h μ) (muOf b' μ) c' b'.k b'.es L.o) : Stp S0 B h μ w (setN h id b') μ (w.setRow L.g c') := by
  have hg : InS S0 h μ L.g := .inr ⟨id, b, L, hb, hst, hL, rfl⟩
  have hlt := nth_lt hb
  have hS : ∀ g, InS S0 (setN h id b') μ g → InS S0 h μ g := by
    rintro g (h0 | ⟨i, d, L', h1, h2, h3, h4⟩)
    · exact .inl h0
    rcases nth_setN h1 with ⟨rfl, rfl⟩ | ⟨hne, h1⟩
    · exact .inr ⟨i, b, L', hb, hst, h3, h4⟩
    · exact .inr ⟨i, d, L', h1, h2, h3, h4⟩
  have hk : Kept w (InS S0 h μ) (w.setRow L.g c') (InS S0 (setN h id b') μ) :=
    ⟨by simp [World.setRow], fun g hn _ => setRow_other w L.g g c' (fun e => hn (e ▸ hg)), fun g _ hs => hS g hs⟩
  refine ⟨⟨fun i d h1 h2 => ?_, fun i hi => hh.dom i (by rwa [setN_len] at hi), hh.prot, fun i c h1 h2 h3 => (by
    rcases nth_setN h1 with ⟨rfl, rfl⟩ | ⟨hne, h1⟩
    · omega
    · exact hh.res i c h1 h2 h3), fun i i' d d' L1 L1' h1 h2 h3 h4 h5 h6 h7 => ?_⟩, hk, fun _ _ h => h, ?_, by simpa [World.setRow] using hB⟩
  · rcases nth_setN h1 with ⟨rfl, rfl⟩ | ⟨hne, h1⟩
    · obtain ⟨L1, c1, e1, q1, q2, q3, q4, q5, q6, q7, q8⟩ := (hh.blk i b hb (by omega)).row
      rw [hL] at q1; cases q1
      rw [hc] at q4; cases q4
      exact ⟨.inr (.inl hst'), L, c', e, hL, by rw [q2, hk'], q3, setRow_heap w L.g c c' e (0, 0) hc, by rw [hsz, q5], hl, fun _ => RowC_mono hk (fun _ _ h => h) hr, fun h => by omega⟩
    · obtain ⟨L1, c1, e1, q1, q2, q3, q4, q5, q6, q7, q8⟩ := (hh.blk i d h1 h2).row
      have hne' : L1.g ≠ L.g := by
        intro heq
        rcases (hh.blk i d h1 h2).st with h1' | h23
        · exact q8 h1' (heq ▸ hg)
        · exact hne (hh.inj i id d b L1 L h1 h23 hb hst q1 hL heq)
      exact ⟨(hh.blk i d h1 h2).st, L1, c1, e1, q1, q2, q3, by rw [setRow_other w L.g _ c' hne']; exact q4, q5, q6, fun hs => RowC_mono hk (fun _ _ h => h) (q7 hs), fun h1 hs => q8 h1 (hS _ hs)⟩
  · have key : ∀ j dj, nth (setN h id b') j = some dj → (dj.st = 2 ∨ dj.st = 3) → ∃ dd, nth h j = some dd ∧ (dd.st = 2 ∨ dd.st = 3) := fun j dj h1 h2 => by
      rcases nth_setN h1 with ⟨rfl, rfl⟩ | ⟨hne, h1⟩
      · exact ⟨b, hb, hst⟩
      · exact ⟨dj, h1, h2⟩
    obtain ⟨dd, r1, r2⟩ := key i d h1 h2
    obtain ⟨dd', r1', r2'⟩ := key i' d' h3 h4
    exact hh.inj i i' dd dd' L1 L1' r1 r2 r1' r2' h5 h6 h7
  · have hBg := (InS_of hh hb hst hL).2.1
    exact ⟨rfl, rfl, rfl, by simp [World.setRow], fun k hk => setRow_other w L.g k c' (by omega)⟩

/-- A row is given up; what stands in its block, from a place on, is a new row's. -/
theorem inplace_step (hB : B ≤ w.heap.size) {id : Nat} {b : Blk} {L : Loc} {c c' : Array Value} {e : TypeId} (hb : nth h id = some b) (hst : b.st = 2) (hL : μ id = some L)
    (hc : w.heap[L.g]? = some (.cells c e (0, 0))) (hsz : c'.size = c.size) {d k T : Nat} {fl f0 : Bool} {T0 k0 : Nat} {es0 es : List AV} (hk0 : k0 ≠ 0) (hd : d ≤ L.sz) (hl : es.length * k ≤ L.sz - d)
    (hr : RowC w (InS S0 h μ) (if fl then noMu else μ) c' k es (L.o + d)) :
    Stp S0 B h μ w (setN h id ⟨0, f0, T0, k0, es0⟩ ++ [⟨2, fl, T, k, es⟩]) (upd μ h.length ⟨L.g, L.o + d, k, L.sz - d⟩) (w.setRow L.g c') := by
  have hg : InS S0 h μ L.g := .inr ⟨id, b, L, hb, .inl hst, hL, rfl⟩
  have hnone : μ h.length = none := hh.dom _ (Nat.le_refl _)
  have hlen : (setN h id ⟨0, f0, T0, k0, es0⟩).length = h.length := setN_len _ _ _
  have hmu : ∀ id L', μ id = some L' → upd μ h.length ⟨L.g, L.o + d, k, L.sz - d⟩ id = some L' := fun id L' hL' => by
    rw [upd_other]; exact hL'
    rintro rfl; rw [hnone] at hL'; cases hL'
  have old : ∀ {i : Nat} {x : Blk}, nth (setN h id ⟨0, f0, T0, k0, es0⟩ ++ [⟨2, fl, T, k, es⟩]) i = some x → x.st ≠ 0 → (i < h.length ∧ i ≠ id ∧ nth h i = some x) ∨ (i = h.length ∧ x = ⟨2, fl, T, k, es⟩) := by
    intro i x hx h0
    rcases nth_snoc hx with ⟨hi, hx⟩ | ⟨hi, hx⟩
    · rcases nth_setN hx with ⟨rfl, rfl⟩ | ⟨hne, hx⟩
      · exact absurd rfl h0
      · exact .inl ⟨by rwa [hlen] at hi, hne, hx⟩
    · exact .inr ⟨by rwa [hlen] at hi, hx⟩
  have hS : ∀ g, InS S0 (setN h id ⟨0, f0, T0, k0, es0⟩ ++ [⟨2, fl, T, k, es⟩]) (upd μ h.length ⟨L.g, L.o + d, k, L.sz - d⟩) g → InS S0 h μ g := by
    rintro g (h0 | ⟨i, x, L', h1, h2, h3, h4⟩)
    · exact .inl h0
    rcases old h1 (by omega) with ⟨hi, hne, h1⟩ | ⟨rfl, rfl⟩
    · rw [upd_other _ _ (Nat.ne_of_lt hi)] at h3
      exact .inr ⟨i, x, L', h1, h2, h3, h4⟩
    · rw [upd_same] at h3; cases h3; exact h4 ▸ hg
  have hk : Kept w (InS S0 h μ) (w.setRow L.g c') (InS S0 (setN h id ⟨0, f0, T0, k0, es0⟩ ++ [⟨2, fl, T, k, es⟩]) (upd μ h.length ⟨L.g, L.o + d, k, L.sz - d⟩)) :=
    ⟨by simp [World.setRow], fun g hn _ => setRow_other w L.g g c' (fun e => hn (e ▸ hg)), fun g _ hs => hS g hs⟩
  obtain ⟨L1, c1, e1, p1, p2, p3, p4, p5, p6, p7, p8⟩ := (hh.blk id b hb (by omega)).row
  obtain rfl : L = L1 := by rw [hL] at p1; exact Option.some.inj p1
  obtain rfl : c = c1 := by rw [hc] at p4; cases p4; rfl
  refine ⟨⟨fun i x h1 h2 => ?_, fun i hi => ?_, hh.prot, fun i x h1 h2 h3 => (by
    rcases nth_snoc h1 with ⟨hi, h1⟩ | ⟨_, rfl⟩
    · rcases nth_setN h1 with ⟨rfl, rfl⟩ | ⟨hne, h1⟩
      · exact absurd h3 hk0
      · rw [hlen] at hi
        rw [upd_other _ _ (Nat.ne_of_lt hi)]; exact hh.res i x h1 h2 h3
    · simp at h2), fun i i' x x' L1 L1' h1 h2 h3 h4 h5 h6 h7 => ?_⟩, hk, hmu, ?_, by simpa [World.setRow] using hB⟩
  · rcases old h1 h2 with ⟨hi, hne, h1⟩ | ⟨rfl, rfl⟩
    · obtain ⟨L1, c1, e1, q1, q2, q3, q4, q5, q6, q7, q8⟩ := (hh.blk i x h1 h2).row
      have hne' : L1.g ≠ L.g := by
        intro heq
        rcases (hh.blk i x h1 h2).st with h1' | h23
        · exact q8 h1' (heq ▸ hg)
        · exact hne (hh.inj i id x b L1 L h1 h23 hb (.inl hst) q1 hL heq)
      refine ⟨(hh.blk i x h1 h2).st, L1, c1, e1, hmu _ _ q1, q2, q3, by rw [setRow_other w L.g _ c' hne']; exact q4, q5, q6, fun hs => RowC_mono hk ?_ (q7 hs), fun h1 hs => q8 h1 (hS _ hs)⟩
      unfold muOf; split
      · exact fun _ _ h => h
      · exact hmu
    · refine ⟨.inr (.inl rfl), ⟨L.g, L.o + d, k, L.sz - d⟩, c', e, upd_same _ _ _, rfl, p3, setRow_heap w L.g c c' e (0, 0) hc, by simp only; omega, hl, fun _ => RowC_mono hk ?_ hr, fun h => by simp at h⟩
      unfold muOf; split
      · exact fun _ _ h => h
      · exact hmu
  · have : h.length < i := by simp [hlen] at hi; omega
    rw [upd_other _ _ (by omega)]
    exact hh.dom i (by omega)
  · rcases old h1 (by omega) with ⟨hi, hne, h1⟩ | ⟨rfl, rfl⟩ <;> rcases old h3 (by omega) with ⟨hi', hne', h3⟩ | ⟨rfl, rfl⟩
    · rw [upd_other _ _ (Nat.ne_of_lt hi)] at h5
      rw [upd_other _ _ (Nat.ne_of_lt hi')] at h6
      exact hh.inj i i' x x' L1 L1' h1 h2 h3 h4 h5 h6 h7
    · rw [upd_other _ _ (Nat.ne_of_lt hi)] at h5
      rw [upd_same] at h6; cases h6
      exact absurd (hh.inj i id x b L1 L h1 h2 hb (.inl hst) h5 hL h7) hne
    · rw [upd_other _ _ (Nat.ne_of_lt hi')] at h6
      rw [upd_same] at h5; cases h5
      exact absurd (hh.inj i' id x' b L1' L h3 h4 hb (.inl hst) h6 hL h7.symm) hne'
    · rfl
  · have hBg := p3
    exact ⟨rfl, rfl, rfl, by simp [World.setRow], fun k hk => setRow_other w L.g k c' (by omega)⟩
end
end Go.VE
end
section
set_option linter.unusedVariables false
set_option linter.unusedSimpArgs false
set_option linter.unusedSectionVars false
namespace Go.VE
open Go.RowKit

theorem seg_get {α : Type} (l vs : List α) (off : Nat) (h : off + vs.length ≤ l.length) (j : Nat) :
    (l.take off ++ vs ++ l.drop (off + vs.length))[j]? = if off ≤ j ∧ j < off + vs.length then vs[j - off]? else l[j]? := by
  by_cases h1 : j < off
  · rw [if_neg (by omega), List.append_assoc, List.getElem?_append_left (by simp; omega), List.getElem?_take, if_pos h1]
  · by_cases h2 : j < off + vs.length
    · rw [if_pos (by omega), List.append_assoc, List.getElem?_append_right (by simp; omega), List.getElem?_append_left (by simp; omega)]
      congr 1
      simp; omega
    · rw [if_neg (by omega), List.getElem?_append_right (by simp; omega), List.getElem?_drop]
      congr 1
      simp; omega

section
variable {w : World} {S : Nat → Prop}

theorem RowC_le {μ μ' : Mu} (hm : ∀ id L, μ id = some L → μ' id = some L) {c : Array Value} {k i0 : Nat} {es : List AV} (h : RowC w S μ c k es i0) : RowC w S μ' c k es i0 :=
  RowC_mono ⟨Nat.le_refl _, fun _ _ _ => rfl, fun _ _ h => h⟩ hm h

theorem mul_apart {i j k : Nat} (h : i ≠ j) {p q : Nat} (hp : p < k) (hq : q < k) : i * k + p ≠ j * k + q := by
  intro he
  rcases Nat.lt_or_gt_of_ne h with h | h
  · have : (i + 1) * k ≤ j * k := Nat.mul_le_mul_right k h
    rw [Nat.add_mul] at this; omega
  · have : (j + 1) * k ≤ i * k := Nat.mul_le_mul_right k h
    rw [Nat.add_mul] at this; omega

/-- One element of a row is replaced. -/
theorem RowC_upd {μ : Mu} {c c' : Array Value} {k i0 i : Nat} {es : List AV} {x : AV} (h : RowC w S μ c k es i0) (hx : ElemC w S μ c' k x (i0 + i * k))
    (hc : ∀ j, (j < i0 + i * k ∨ i0 + i * k + k ≤ j) → c'[j]? = c[j]?) : RowC w S μ c' k (setN es i x) i0 :=
  RowC_of fun j y hy => by
    rw [← nth_eq] at hy
    rcases nth_setN hy with ⟨rfl, rfl⟩ | ⟨hne, hy⟩
    · exact hx
    · rw [nth_eq] at hy
      obtain ⟨ho, u, r1, r2, r3⟩ := RowC_get h j y hy
      refine ⟨ho, u, r1, r2, fun q d hd => ?_⟩
      have hq : q < k := by rw [← r2]; exact (Array.getElem?_eq_some_iff.1 hd).1
      rw [hc]
      · exact r3 q d hd
      · rcases Nat.lt_or_gt_of_ne hne with h' | h'
        · left
          have : (j + 1) * k ≤ i * k := Nat.mul_le_mul_right k h'
          rw [Nat.add_mul] at this; omega
        · right
          have : (i + 1) * k ≤ j * k := Nat.mul_le_mul_right k h'
          rw [Nat.add_mul] at this; omega

theorem ElemC_of_R {μ : Mu} {x : AV} {v : Value} {k : Nat} (h : R w S x μ v) (ho : x.okv = true) (hk : x.cells.length = k) {c : Array Value} {i : Nat} (hc : ∀ (j : Nat) (d : Value), v.cells[j]? = some d → c[i + j]? = some d) : ElemC w S μ c k x i :=
  ⟨ho, v, h, by rw [(okv_cells h ho).2.1, hk], hc⟩

/-- What a store leaves in the element. -/
theorem withCells_ok {μ : Mu} {x y : AV} {u : Value} {vs : List AV} {m : List Value} {off : Nat} (hx : R w S x μ u) (ho : x.okv = true) (hm : Rs w S vs μ m) (hmo : vs.all AV.sto = true) (h : withCells x off vs = some y) :
    off + vs.length ≤ u.cells.size ∧ y.okv = true ∧ ∃ u', R w S y μ u' ∧ u'.cells.toList = u.cells.toList.take off ++ m ++ u.cells.toList.drop (off + m.length) := by
  have hlen := Rs_len hm
  obtain ⟨q1, q2, q3⟩ := okv_cells hx ho
  unfold withCells at h
  split at h
  · rename_i cs
    split at h
    · rename_i hle
      cases h
      have hcs : (AV.agg cs).cells = cs := rfl
      rw [hcs] at q1 q2
      refine ⟨by omega, ?_, .agg (u.cells.toList.take off ++ m ++ u.cells.toList.drop (off + m.length)).toArray, ?_, by simp [Value.cells]⟩
      · simp only [AV.okv, AV.cells, splice, List.all_append, Bool.and_eq_true]
        simp only [AV.okv, AV.cells, List.all_eq_true] at ho
        refine ⟨⟨?_, hmo⟩, ?_⟩
        · simp only [List.all_eq_true]; exact fun y hy => ho y (List.mem_of_mem_take hy)
        · simp only [List.all_eq_true]; exact fun y hy => ho y (List.mem_of_mem_drop hy)
      · simp only [R]
        exact ⟨_, rfl, splice_ok q1 hm off hle⟩
    · cases h
  · rename_i hna
    split at h
    · cases h
      simp only [Rs] at hm
      obtain ⟨v', l', rfl, r1, rfl⟩ := hm
      have hs : y.sto = true := by simpa using hmo
      have hxs : x.cells = [x] := by
        cases x <;> first | rfl | exact absurd rfl (hna _)
      obtain ⟨_, hv2⟩ := sto_one r1 hs
      rw [hxs] at q2
      have hu : u.cells.toList.length = 1 := by simpa using q2
      refine ⟨by simp [q2], ?_, v', r1, ?_⟩
      · cases y <;> first | (simpa [AV.okv, AV.cells] using hs) | (simp [AV.sto] at hs)
      · rw [hv2]
        have : u.cells.toList.drop 1 = [] := by rw [List.drop_eq_nil_iff]; omega
        simp [this]
    · cases h
end

section
variable {E : Env} {P : Program} (ok : E.Ok P) {S0 : Nat → Prop} {B : Nat} {h : List Blk} {μ : Mu} {w : World} {t : List AV} {a : Act} (hh : HeapOk S0 B h μ w) (ht : TmpsOk S0 h μ w t a) (hB : B ≤ w.heap.size)

/-- The end of an operation that changes memory. -/
def Did (S0 : Nat → Prop) (P : Program) (B : Nat) (h : List Blk) (μ : Mu) (w : World) (s : Sem Next) (x : AV) (h' : List Blk) : Prop :=
  ∃ n v μ' w', s.run P w = .ok n w' ∧ (n = .value v ∨ n = .skip ∧ v = undef) ∧ Stp S0 B h μ w h' μ' w' ∧ R w' (InS S0 h' μ') x μ' v

include ok hh hB in
theorem store_ok {T : Nat} {x y : AV} {vx vy : Value} (hx : R w (InS S0 h μ) x μ vx) (hy : R w (InS S0 h μ) y μ vy) {h' : List Blk} (hs : storeA E h T x y = some h') :
    ∃ w', (Instr.storeAt T vx vy).run P w = .ok () w' ∧ Stp S0 B h μ w h' μ w' := by
  unfold storeA at hs
  split at hs
  · rename_i id idx off n hn
    split at hs
    · rename_i b hb
      split at hs
      · rename_i hc
        obtain ⟨hc1, hc2, hc3⟩ := hc
        split at hs
        · rename_i z hz
          split at hs
          · rename_i x' hw
            cases hs
            simp only [R] at hx
            obtain ⟨L, hL, rfl⟩ := hx
            obtain ⟨L', c, e, q1, q2, q3, q4, q5, q6, q7, q8⟩ := (hh.blk id b hb (by omega)).row
            obtain rfl : L = L' := by rw [hL] at q1; exact Option.some.inj q1
            have hrow := q7 (by omega)
            have hmu : ∀ id L, muOf b μ id = some L → muOf ⟨2, b.flat && y.rf, b.T, b.k, setN b.es idx x'⟩ μ id = some L := by
              intro id L hid
              unfold muOf at hid ⊢
              split at hid
              · cases hid
              · rename_i hf
                have : b.flat = false := by simpa using hf
                simpa [this] using hid
            have hy' : R w (InS S0 h μ) y (muOf ⟨2, b.flat && y.rf, b.T, b.k, setN b.es idx x'⟩ μ) vy := by
              unfold muOf
              split
              · rename_i hf
                simp only [Bool.and_eq_true] at hf
                exact rf_noMu hy hf.2
              · exact hy
            have hrow' := RowC_le hmu hrow
            rw [nth_eq] at hz
            have hlt : idx < b.es.length := (List.getElem?_eq_some_iff.1 hz).1
            obtain ⟨ho, u, r1, r2, r3⟩ := RowC_get hrow' idx z hz
            obtain ⟨p1, p2, p3⟩ := okv_cells hy' hc3
            obtain ⟨s1, s2, u', s3, s4⟩ := withCells_ok r1 ho p1 (by simpa [AV.okv] using hc3) hw
            have hle : (idx + 1) * b.k ≤ b.es.length * b.k := Nat.mul_le_mul_right _ hlt
            rw [Nat.add_mul] at hle
            have hsz := run_sizeT ok hn w
            have hlen : vy.cells.toList.length = n := by simp [p2, hc2]
            have hfit : (L.o + idx * L.k + off) + 0 + vy.cells.toList.length ≤ c.size := by
              rw [hlen, q2]
              have : y.cells.length = n := hc2
              omega
            have hst := run_storeCells_at P L.g (L.o + idx * L.k + off) e vy.cells.toList 0 c w q4 hfit p3
            refine ⟨w.setRow L.g (c.toList.take (L.o + idx * L.k + off) ++ vy.cells.toList ++ c.toList.drop (L.o + idx * L.k + off + vy.cells.toList.length)).toArray, ?_,
              write_step (b' := ⟨2, b.flat && y.rf, b.T, b.k, setN b.es idx x'⟩) hh hB hb (.inl hc1) rfl hL rfl q4 ?_ ?_ ?_⟩
            rotate_left
            · simp at hfit ⊢; omega
            · simpa [setN_len] using q6
            · have hg : ∀ j, ((c.toList.take (L.o + idx * L.k + off) ++ vy.cells.toList ++ c.toList.drop (L.o + idx * L.k + off + vy.cells.toList.length)).toArray)[j]? =
                  if L.o + idx * L.k + off ≤ j ∧ j < L.o + idx * L.k + off + vy.cells.toList.length then vy.cells.toList[j - (L.o + idx * L.k + off)]? else c[j]? := by
                intro j
                have := seg_get c.toList vy.cells.toList (L.o + idx * L.k + off) (by simp at hfit ⊢; omega) j
                simpa using this
              refine RowC_upd hrow' ?_ ?_
              · refine ⟨s2, u', s3, ?_, fun j d hd => ?_⟩
                · have : u'.cells.toList.length = u.cells.toList.length := by
                    rw [s4]; simp; have := Rs_len p1; simp at this; omega
                  simpa [r2] using this
                · rw [hg]
                  have hd' : u'.cells.toList[j]? = some d := by simpa using hd
                  rw [s4, seg_get u.cells.toList vy.cells.toList off (by have := Rs_len p1; simp at this ⊢; omega)] at hd'
                  rw [← q2]
                  split at hd'
                  · rename_i hj
                    rw [if_pos (by omega)]
                    rw [show L.o + idx * L.k + j - (L.o + idx * L.k + off) = j - off by omega]
                    exact hd'
                  · rename_i hj
                    rw [if_neg (by omega)]
                    have := r3 j d (by simpa using hd')
                    rwa [← q2] at this
              · intro j hj
                rw [hg, if_neg]
                have hku : u.cells.size = b.k := r2
                have := Rs_len p1
                simp only [Array.length_toList] at this
                rw [← q2] at hj
                have hlen2 : vy.cells.toList.length = y.cells.length := by simp [p2]
                rw [hlen2]
                rw [← q2] at hku
                omega
            · have e0 : (vy.cells.size ≠ n) = False := by simp [p2, hc2]
              simp only [Instr.storeAt, Instr.sureAddr, storeVar, Sem.run_bind, Sem.run_pure, Result.andThen_ok, hsz, e0, if_false]
              exact hst
          · cases hs
        · cases hs
      · cases hs
    · cases hs
  · cases hs
end
end Go.VE
end
section
set_option linter.unusedVariables false
set_option linter.unusedSimpArgs false
set_option linter.unusedSectionVars false
namespace Go.VE
open Go.RowKit

section
variable {w : World} {S : Nat → Prop}

theorem RowC_one {μ : Mu} {x : AV} {v : Value} {k : Nat} (h : R w S x μ v) (ho : x.okv = true) (hk : x.cells.length = k) : RowC w S μ v.cells k [x] 0 := by
  simp only [RowC]
  exact ⟨⟨ho, v, h, by rw [(okv_cells h ho).2.1, hk], fun j d hd => by simpa using hd⟩, trivial⟩

/-- The cells of a row that is only read. -/
theorem RowAt_cells {ad : Addr} {k : Nat} : ∀ {l : List AV} {i0 : Nat}, RowAt w S l ad k i0 → ∃ news : List Value, news.length = l.length * k ∧ (∀ j c, news[j]? = some c → w.cell? (ad.add (i0 + j)) = some c) ∧ RowC w S noMu news.toArray k l 0 ∧ (∀ c ∈ news, c.oneCell' = true)
  | [], i0, _ => ⟨[], by simp, by simp, by simp [RowC], by simp⟩
  | x :: r, i0, h => by
    simp only [RowAt] at h
    obtain ⟨⟨_, ho, u, r1, r2, r3⟩, h5⟩ := h
    obtain ⟨news, n1, n2, n3, n4⟩ := RowAt_cells h5
    obtain ⟨q1, q2, q3⟩ := okv_cells r1 ho
    have hl : u.cells.toList.length = k := by simpa using r2
    refine ⟨u.cells.toList ++ news, by simp [n1, r2, Nat.add_mul]; omega, fun j c hj => ?_, ?_, fun c hc => ?_⟩
    · by_cases hjk : j < k
      · rw [List.getElem?_append_left (by omega)] at hj
        exact r3 j c (by simpa using hj)
      · rw [List.getElem?_append_right (by omega)] at hj
        have := n2 _ c hj
        rwa [hl, show i0 + k + (j - k) = i0 + j by omega] at this
    · refine RowC_of fun i y hy => ?_
      cases i with
      | zero =>
        simp only [List.getElem?_cons_zero, Option.some.injEq] at hy
        subst hy
        refine ⟨ho, u, r1, r2, fun j d hd => ?_⟩
        have hlt : j < u.cells.toList.length := by simpa using (Array.getElem?_eq_some_iff.1 hd).1
        simp only [Nat.zero_mul, Nat.zero_add, List.getElem?_toArray]
        rw [List.getElem?_append_left hlt]
        simpa using hd
      | succ i =>
        obtain ⟨ho', u', s1, s2, s3⟩ := RowC_get n3 i y (by simpa using hy)
        refine ⟨ho', u', s1, s2, fun j d hd => ?_⟩
        have := s3 j d hd
        simp only [List.getElem?_toArray] at this ⊢
        rw [List.getElem?_append_right (by rw [hl, Nat.add_mul]; omega), hl]
        rwa [show 0 + (i + 1) * k + j - k = 0 + i * k + j by rw [Nat.add_mul]; omega]
    · rcases List.mem_append.1 hc with hc | hc
      · exact q3 c hc
      · exact n4 c hc

/-- The cells of a part of a row of the call's own. -/
theorem RowC_cells {μ : Mu} {c : Array Value} {k : Nat} : ∀ {l : List AV} {i0 : Nat}, RowC w S μ c k l i0 → ∃ news : List Value, news.length = l.length * k ∧ (∀ j d, news[j]? = some d → c[i0 + j]? = some d) ∧ RowC w S μ news.toArray k l 0 ∧ (∀ c ∈ news, c.oneCell' = true)
  | [], i0, _ => ⟨[], by simp, by simp, by simp [RowC], by simp⟩
  | x :: r, i0, h => by
    simp only [RowC] at h
    obtain ⟨⟨ho, u, r1, r2, r3⟩, h5⟩ := h
    obtain ⟨news, n1, n2, n3, n4⟩ := RowC_cells h5
    obtain ⟨q1, q2, q3⟩ := okv_cells r1 ho
    have hl : u.cells.toList.length = k := by simpa using r2
    refine ⟨u.cells.toList ++ news, by simp [n1, r2, Nat.add_mul]; omega, fun j c hj => ?_, ?_, fun c hc => ?_⟩
    · by_cases hjk : j < k
      · rw [List.getElem?_append_left (by omega)] at hj
        exact r3 j c (by simpa using hj)
      · rw [List.getElem?_append_right (by omega)] at hj
        have := n2 _ c hj
        rwa [hl, show i0 + k + (j - k) = i0 + j by omega] at this
    · refine RowC_of fun i y hy => ?_
      cases i with
      | zero =>
        simp only [List.getElem?_cons_zero, Option.some.injEq] at hy
        subst hy
        refine ⟨ho, u, r1, r2, fun j d hd => ?_⟩
        have hlt : j < u.cells.toList.length := by simpa using (Array.getElem?_eq_some_iff.1 hd).1
        simp only [Nat.zero_mul, Nat.zero_add, List.getElem?_toArray]
        rw [List.getElem?_append_left hlt]
        simpa using hd
      | succ i =>
        obtain ⟨ho', u', s1, s2, s3⟩ := RowC_get n3 i y (by simpa using hy)
        refine ⟨ho', u', s1, s2, fun j d hd => ?_⟩
        have := s3 j d hd
        simp only [List.getElem?_toArray] at this ⊢
        rw [List.getElem?_append_right (by rw [hl, Nat.add_mul]; omega), hl]
        rwa [show 0 + (i + 1) * k + j - k = 0 + i * k + j by rw [Nat.add_mul]; omega]
    · rcases List.mem_append.1 hc with hc | hc
      · exact q3 c hc
      · exact n4 c hc

theorem RowC_sub {μ : Mu} {c : Array Value} {k i0 : Nat} {l : List AV} (h : RowC w S μ c k l i0) (lo n : Nat) : RowC w S μ c k ((l.drop lo).take n) (i0 + lo * k) :=
  RowC_of fun i x hx => by
    simp only [List.getElem?_take, List.getElem?_drop] at hx
    split at hx
    · have := RowC_get h (lo + i) x hx
      rwa [show i0 + (lo + i) * k = i0 + lo * k + i * k by rw [Nat.add_mul]; omega] at this
    · cases hx

/-- Cells that stand at another place. -/
theorem RowC_move {μ : Mu} {c d : Array Value} {k i0 i1 : Nat} {l : List AV} (h : RowC w S μ c k l i0) (hc : ∀ j u, j < l.length * k → c[i0 + j]? = some u → d[i1 + j]? = some u) : RowC w S μ d k l i1 :=
  RowC_of fun i x hx => by
    obtain ⟨ho, u, r1, r2, r3⟩ := RowC_get h i x hx
    refine ⟨ho, u, r1, r2, fun j e he => ?_⟩
    have hjk : j < k := by rw [← r2]; exact (Array.getElem?_eq_some_iff.1 he).1
    have hil : i < l.length := (List.getElem?_eq_some_iff.1 hx).1
    have hle : (i + 1) * k ≤ l.length * k := Nat.mul_le_mul_right _ hil
    rw [Nat.add_mul] at hle
    have := hc (i * k + j) e (by omega) (by rw [← Nat.add_assoc]; exact r3 j e he)
    rwa [← Nat.add_assoc] at this

theorem RowC_append {μ : Mu} {c : Array Value} {k i0 : Nat} : ∀ {l m : List AV}, RowC w S μ c k l i0 → RowC w S μ c k m (i0 + l.length * k) → RowC w S μ c k (l ++ m) i0 := fun {l m} h h' =>
  RowC_of fun i x hx => by
    by_cases hi : i < l.length
    · rw [List.getElem?_append_left hi] at hx
      exact RowC_get h i x hx
    · rw [List.getElem?_append_right (by omega)] at hx
      have := RowC_get h' _ x hx
      rwa [Nat.add_assoc, ← Nat.add_mul, show l.length + (i - l.length) = i by omega] at this
end

section
variable {E : Env} {P : Program} (ok : E.Ok P) {S0 : Nat → Prop} {B : Nat} {h : List Blk} {μ : Mu} {w : World} {t : List AV} {a : Act} (hh : HeapOk S0 B h μ w) (ht : TmpsOk S0 h μ w t a) (hB : B ≤ w.heap.size)

include hh in
/-- What an append takes its new elements from. -/
theorem src_ok {k : Nat} {x : AV} {fl : Bool} {l : List AV} {v : Value} (hs : srcOf h k x = some (fl, l)) (hx : R w (InS S0 h μ) x μ v) :
    (Builtin.lenOf v).run P w = .ok l.length w ∧ ∃ news : List Value, news.length = l.length * k ∧ (∀ w' : World, Kept w (InS S0 h μ) w' (InS S0 h μ) → (∀ g, InS S0 h μ g → w'.heap[g]? = w.heap[g]?) → (Builtin.firstCells k l.length v).run P w' = .ok news.toArray w') ∧
      RowC w (InS S0 h μ) (if fl then noMu else μ) news.toArray k l 0 ∧ (∀ c ∈ news, c.oneCell' = true) := by
  unfold srcOf at hs
  split at hs
  · split at hs
    · rename_i hk
      subst hk
      cases hs
      simp only [R] at hx
      rcases hx with ⟨_, rfl, rfl⟩ | ⟨_, ad, cap, rfl, hcap, hrow⟩
      · exact ⟨by simp [Builtin.lenOf], [], by simp, fun w' _ _ => by simp [Builtin.firstCells], by simp [RowC], by simp⟩
      · obtain ⟨news, n1, n2, n3, n4⟩ := RowAt_cells hrow
        refine ⟨by simp [Builtin.lenOf], news, n1, fun w' hk hg => ?_, n3, n4⟩
        refine run_firstCells_some w' k l.length ad l.length cap news n1 fun j c hj => ?_
        have h1 := n2 j c hj
        simp only [Nat.zero_add] at h1
        have hlt : j < news.length := (List.getElem?_eq_some_iff.1 hj).1
        have hlpos : 0 < l.length := by
          rcases Nat.eq_zero_or_pos l.length with h0 | h0
          · rw [n1, h0] at hlt; omega
          · exact h0
        obtain ⟨hb, _⟩ := RowAt_get hrow 0 l[0] (by simp [hlpos])
        exact hk.cell (by rw [block_add]; exact hb.2) h1
    · split at hs
      · cases hs
      · rename_i hnn
        split at hs
        · cases hs
          simp only [R] at hx
          rcases hx with ⟨_, _, rfl⟩ | ⟨h0, _⟩
          · exact ⟨by simp [Builtin.lenOf], [], by simp, fun w' _ _ => by simp [Builtin.firstCells], by simp [RowC], by simp⟩
          · exact absurd h0 hnn
        · cases hs
  · rename_i id k0 off len
    split at hs
    · rename_i b hb
      split at hs
      · rename_i hk
        cases hsg : seg b.es off len with
        | none => simp [hsg] at hs
        | some l' =>
          simp only [hsg, Option.map_some, Option.some.injEq, Prod.mk.injEq] at hs
          obtain ⟨rfl, rfl⟩ := hs
          unfold seg at hsg
          split at hsg
          · rename_i hle
            cases hsg
            simp only [R] at hx
            obtain ⟨L', hL', hLk', hx⟩ := hx
            obtain ⟨hst, hbn, L, c, e, q1, q2, q3, q4, q5, q6, q7, q8⟩ := blk_ok hh hb
            obtain rfl : L = L' := by rw [q1] at hL'; exact Option.some.inj hL'
            have hll : ((b.es.drop off).take len).length = len := by simp; omega
            have hsub := RowC_sub q7 off len
            obtain ⟨news, n1, n2, n3, n4⟩ := RowC_cells hsub
            have hlen : (Builtin.lenOf v).run P w = .ok ((b.es.drop off).take len).length w := by
              rw [hll]
              rcases hx with ⟨cap, rfl, _⟩ | ⟨rfl, ad, rfl⟩ <;> simp [Builtin.lenOf]
            refine ⟨hlen, news, by rw [n1, hk], fun w' hkp hg => ?_, ?_, n4⟩
            · rw [hll]
              rcases hx with ⟨cap, rfl, _⟩ | ⟨rfl, ad, rfl⟩
              · refine run_firstCells_some w' k len _ len cap news (by rw [n1, hll, hk]) fun j d hj => ?_
                rw [add_none, q2]
                have hcell : w'.heap[L.g]? = some (.cells c e (0, 0)) := by
                  by_cases hs : InS S0 h μ L.g
                  · rw [hg _ hs]; exact q4
                  · rw [hkp.heap _ hs (Array.getElem?_eq_some_iff.1 q4).1]; exact q4
                rw [cell_at hcell]
                exact n2 j d hj
              · have : news = [] := List.eq_nil_of_length_eq_zero (by rw [n1, hll]; simp)
                subst this
                simp [Builtin.firstCells, loadCells, loadCellsFrom]
            · rw [← hk]
              exact n3
          · cases hsg
      · cases hs
    · cases hs
  · rename_i s
    split at hs
    · rename_i hk
      subst hk
      cases hs
      simp only [R] at hx
      subst hx
      have hsz : (⟨s.toArray⟩ : ByteArray).size = s.length := by simp [ByteArray.size]
      have hbl : (bytesAV s).length = s.length := by simp [bytesAV]
      refine ⟨by simp [Builtin.lenOf, hsz, hbl], s.map fun b => .int .u8 b.toNat, by simp [bytesAV], fun w' _ _ => ?_, ?_, ?_⟩
      · rw [hbl]
        have e1 : (⟨s.toArray⟩ : ByteArray).extract 0 s.length = ⟨s.toArray⟩ := by
          rw [ByteArray.extract_mk]; simp
        simp only [Builtin.firstCells, e1, Sem.run_pure]
        congr 2
        simp
      · refine RowC_of fun i x hx => ?_
        simp only [bytesAV, List.getElem?_map] at hx
        cases hb : s[i]? with
        | none => simp [hb] at hx
        | some b =>
          simp only [hb, Option.map_some, Option.some.injEq] at hx
          subst hx
          refine ⟨rfl, .int .u8 b.toNat, by simp [R], rfl, fun j d hd => ?_⟩
          simp only [Value.cells] at hd
          have hj : j = 0 := by
            have := (Array.getElem?_eq_some_iff.1 hd).1; simp at this; exact this
          subst hj
          simp at hd
          subst hd
          simp [hb]
      · intro c hc
        simp only [List.mem_map] at hc
        obtain ⟨b, _, rfl⟩ := hc
        rfl
    · cases hs
  · cases hs
end
end Go.VE
end
section
set_option linter.unusedVariables false
set_option linter.unusedSimpArgs false
set_option linter.unusedSectionVars false
namespace Go.VE
open Go.RowKit

/-- The second operand's type is no number's. -/
def notInt (P : Program) (T : TypeId) : Prop := (∃ e, P.underlying T = some (.slice e)) ∨ P.underlying T = some .string

section
variable {P : Program} {w : World}

theorem run_app_room {T T2 ty e : TypeId} {k m sLen sCap : Nat} {ad : Addr} {v : Value} {news : List Value} (ht : P.underlying T = some (.slice e)) (hk : (sizeOf e).run P w = .ok k w) (h2 : notInt P T2)
    (hl : (Builtin.lenOf v).run P w = .ok m w) (hf : (Builtin.firstCells k m v).run P w = .ok news.toArray w) (hroom : sLen + m ≤ sCap) {w' : World} (hs : (storeCells (ad.add (sLen * k)) news).run P w = .ok () w') :
    (Builtin.append_ #[T, T2] ty #[.slice (some ad) sLen sCap, v]).run P w = .ok (.slice (some ad) (sLen + m) sCap) w' := by
  rcases h2 with ⟨e2, h2⟩ | h2 <;>
    simp [Builtin.append_, run_underlying ht, run_underlying h2, hk, hl, hroom, hf, hs]

theorem run_app_grow {T T2 ty e : TypeId} {i : TypeInfo} {z : Value} {k m sLen sCap : Nat} {base : Option Addr} {v : Value} {olds news : List Value} (ht : P.underlying T = some (.slice e)) (hi : P.info? e = some i) (hz : i.zero = some z) (hk : i.size = k) (h2 : notInt P T2)
    (hl : (Builtin.lenOf v).run P w = .ok m w) (hf : (Builtin.firstCells k m v).run P w.drew = .ok news.toArray w.drew) (ho : (Builtin.firstCells k sLen (.slice base sLen sCap)).run P w.drew = .ok olds.toArray w.drew)
    (hroom : sCap < sLen + m) (h63 : sLen + m ≤ 9223372036854775807) (hfit : Builtin.nextslicecap (sLen + m) sCap * i.bytes ≤ 281474976710656) (hb : i.bytes ≠ 0) :
    (Builtin.append_ #[T, T2] ty #[.slice base sLen sCap, v]).run P w = .ok (.slice (some ⟨w.heap.size, 0, none⟩) (sLen + m) (grownCap w (sLen + m) sCap e))
        (w.drew.alloc (.cells (olds.toArray ++ news.toArray ++ Builtin.zeroCells z.cells (grownCap w (sLen + m) sCap e - (sLen + m))) e)) := by
  have hn : ¬ (sLen + m ≤ sCap) := by omega
  have hm : ¬ (9223372036854775807 < ((sLen : Int) + (m : Int))) := by omega
  have h48' : ¬ (281474976710656 < Builtin.nextslicecap (sLen + m) sCap * i.bytes) := by omega
  subst hk
  rcases h2 with ⟨e2, h2⟩ | h2 <;>
    simp [Builtin.append_, run_underlying ht, run_underlying h2, sizeOf, typeInfo, zeroValue, hi, hz, hl, hn, hm, h48', Question.forced, hf, ho, newRow, grownCap, hb, -List.append_toArray]
end

section
variable {E : Env} {P : Program} (ok : E.Ok P) {S0 : Nat → Prop} {B : Nat} {h : List Blk} {μ : Mu} {w : World} {t : List AV} {a : Act} (hh : HeapOk S0 B h μ w) (ht : TmpsOk S0 h μ w t a) (hB : B ≤ w.heap.size)

theorem drew_kept {S0 : Nat → Prop} (h : List Blk) (μ : Mu) (w : World) : Kept w (InS S0 h μ) w.drew (InS S0 h μ) := ⟨Nat.le_refl _, fun _ _ _ => rfl, fun _ _ h => h⟩

include hh hB in
theorem drew_step : Stp S0 B h μ w h μ w.drew := ⟨heap_world hh (drew_kept h μ w) (fun _ _ => rfl), drew_kept h μ w, fun _ _ h => h, (Below.refl B w).drew, hB⟩

/-- The new block of an append that grows. -/
theorem RowC_grown {S : Nat → Prop} {μ μ1 μ2 : Mu} {w : World} {k : Nat} {l0 l : List AV} {olds news : List Value} {rest : Array Value} (h0 : RowC w S μ1 olds.toArray k l0 0) (h1 : RowC w S μ2 news.toArray k l 0) (hm1 : ∀ id L, μ1 id = some L → μ id = some L) (hm2 : ∀ id L, μ2 id = some L → μ id = some L)
    (hl0 : olds.length = l0.length * k) : RowC w S μ (olds.toArray ++ news.toArray ++ rest) k (l0 ++ l) 0 := by
  refine RowC_append (RowC_move (RowC_le hm1 h0) fun j u hj hc => ?_) (RowC_move (RowC_le hm2 h1) fun j u hj hc => ?_)
  · simp only [Nat.zero_add, List.getElem?_toArray] at hc ⊢
    have : j < olds.length := by omega
    rw [Array.getElem?_append_left (by simp; omega), Array.getElem?_append_left (by simpa using this)]
    simpa using hc
  · simp only [Nat.zero_add, List.getElem?_toArray] at hc ⊢
    have hlt := (List.getElem?_eq_some_iff.1 hc).1
    rw [Array.getElem?_append_left (by simp; omega), Array.getElem?_append_right (by simp; omega)]
    have : l0.length * k + j - olds.toArray.size = j := by simp; omega
    rw [this]
    simpa using hc

include ok hh hB in
theorem append_ok {T T2 ty : Nat} {s x y : AV} {h' : List Blk} {vs vx : Value} (hs : R w (InS S0 h μ) s μ vs) (hx : R w (InS S0 h μ) x μ vx) (h2 : notInt P T2) (ha : appendA E h T s x = some (y, h')) :
    ∃ v μ' w', (Builtin.append_ #[T, T2] ty #[vs, vx]).run P w = .ok v w' ∧ Stp S0 B h μ w h' μ' w' ∧ R w' (InS S0 h' μ') y μ' v := by
  unfold appendA at ha
  split at ha
  · rename_i e hu
    have ht := ok.und _ _ hu
    split at ha
    · rename_i k by_ z hk hby hz
      split at ha
      · cases ha
      · rename_i hcond
        have hk0 : k ≠ 0 := fun h0 => hcond (.inl h0)
        have hb0 : by_ ≠ 0 := fun h0 => hcond (.inr (.inl h0))
        obtain ⟨i, hi, hik⟩ := ok.size e k hk
        obtain ⟨i', hi', hib⟩ := ok.bytes e by_ hby
        obtain rfl : i = i' := by rw [hi] at hi'; exact Option.some.inj hi'
        obtain ⟨i'', zv, hi'', hzz, hzr⟩ := ok.zero e z hz
        obtain rfl : i = i'' := by rw [hi] at hi''; exact Option.some.inj hi''
        have hzo : z.okv = true := by
          cases hzo : z.okv with
          | true => rfl
          | false => exact absurd (.inr (.inr (.inr hzo))) hcond
        have hzl : z.cells.length = k := by
          by_cases hzl : z.cells.length = k
          · exact hzl
          · exact absurd (.inr (.inr (.inl hzl))) hcond
        have hzs : zv.cells.size = k := by
          have := (okv_cells (R_noMu (μ := μ) (hzr w (InS S0 h μ))) hzo).2.1
          rw [this, hzl]
        cases hsrc : srcOf h k x with
        | none => simp [hsrc] at ha
        | some p =>
          obtain ⟨fl, l⟩ := p
          simp only [hsrc] at ha
          obtain ⟨hlen, news, n1, n2, n3, n4⟩ := src_ok (P := P) hh hsrc hx
          have hsz : ∀ w : World, (sizeOf e).run P w = .ok k w := fun w => run_sizeT ok hk w
          have hmuIf : ∀ {f : Bool}, ∀ id L, (if f then noMu else μ) id = some L → μ id = some L := fun {f} id L hid => by
            cases f
            · exact hid
            · exact noMu_le μ id L hid
          by_cases hnils : ∃ k0, s = .sl false k0 []
          · -- an append to nil
            obtain ⟨k0, rfl⟩ := hnils
            simp only at ha
            simp only [R] at hs
            rcases hs with ⟨_, _, rfl⟩ | ⟨h0, _⟩
            · by_cases hl0 : l = []
              · subst hl0
                simp only [Option.some.injEq, Prod.mk.injEq] at ha
                obtain ⟨rfl, rfl⟩ := ha
                have hnil : news = [] := List.eq_nil_of_length_eq_zero (by simpa using n1)
                subst hnil
                refine ⟨.slice none 0 0, μ, w, ?_, Stp.refl hh hB, by simp [R]⟩
                have hf := n2 w ⟨Nat.le_refl _, fun _ _ _ => rfl, fun _ _ h => h⟩ (fun _ _ => rfl)
                simp only [List.length_nil] at hf hlen
                rcases h2 with ⟨e2, h2⟩ | h2 <;>
                  simp [Builtin.append_, run_underlying ht, run_underlying h2, hsz, hlen, hf]
              · have hlpos : 0 < l.length := by
                  cases l with
                  | nil => exact absurd rfl hl0
                  | cons _ _ => simp
                have ha' : (if l.length * by_ ≤ 140737488355328 then some (AV.rs h.length k 0 l.length, h ++ [⟨2, fl, e, k, l⟩]) else none) = some (y, h') := by
                  cases l with
                  | nil => exact absurd rfl hl0
                  | cons _ _ => exact ha
                split at ha'
                · rename_i hfit
                  cases ha'
                  have hf := n2 w.drew (drew_kept h μ w) (fun _ _ => rfl)
                  have hrun := run_app_grow (ty := ty) (base := none) (sLen := 0) (sCap := 0) (olds := []) ht hi hzz hik h2 hlen hf (by simp [Builtin.firstCells]) (by omega) (by
                    have : l.length * 1 ≤ l.length * by_ := Nat.mul_le_mul_left _ (by omega)
                    omega) (by rw [hib]; exact growslice_fits (by omega) (by simpa using hfit)) (by omega)
                  simp only [Nat.zero_add] at hrun
                  have hd := drew_step hh hB
                  have hst := alloc_step hd.heap hB (fl := fl) (st := 2) (T := e) (k := k) (es := l) (cs := ([] : List Value).toArray ++ news.toArray ++ Builtin.zeroCells zv.cells (grownCap w l.length 0 e - l.length)) (e := e) (.inl rfl) (by
                    simp [n1]) (fun _ => by
                    have := RowC_grown (w := w.drew) (S := InS S0 h μ) (μ := if fl then noMu else μ) (μ1 := noMu) (olds := []) (l0 := []) (rest := Builtin.zeroCells zv.cells (grownCap w l.length 0 e - l.length)) (by simp [RowC]) (RowC_mono (drew_kept h μ w) (fun _ _ h => h) n3) (noMu_le _) (fun _ _ h => h) (by simp)
                    simpa using this)
                  refine ⟨_, _, _, hrun, hd.trans hst, ?_⟩
                  simp only [R]
                  refine ⟨_, upd_same _ _ _, rfl, .inl ⟨grownCap w l.length 0 e, by simp, ?_, ?_⟩⟩
                  · simpa using grownCap_ge w l.length 0 e
                  · have := grownCap_ge w l.length 0 e
                    simp only [Nat.zero_mul, Nat.zero_add, Array.size_append, List.size_toArray, List.length_nil, n1, size_zeroCells, hzs, ← Nat.add_mul]
                    exact Nat.mul_le_mul_right _ (by omega)
                · cases ha'
            · cases h0
          by_cases hrs : ∃ id k1 off len, s = .rs id k1 off len
          · -- an append to a row of the call's own
            obtain ⟨id, k1, off, len, rfl⟩ := hrs
            simp only at ha
            cases hb : nth h id with
            | none => simp [hb] at ha
            | some b =>
              simp only [hb] at ha
              by_cases hc : b.st = 2 ∧ b.k = k
              · rw [if_pos hc] at ha
                obtain ⟨hst, hbk⟩ := hc
                cases hseg : seg b.es off len with
                | none => simp [hseg] at ha
                | some l0 =>
                  simp only [hseg] at ha
                  by_cases hfit : (l0.length + l.length) * by_ ≤ 140737488355328
                  · rw [if_pos hfit] at ha
                    cases ha
                    unfold seg at hseg
                    split at hseg
                    · rename_i hle
                      cases hseg
                      simp only [R] at hs
                      obtain ⟨L, hL, hLk, hs⟩ := hs
                      obtain ⟨L', c, e', q1, q2, q3, q4, q5, q6, q7, q8⟩ := (hh.blk id b hb (by omega)).row
                      obtain rfl : L = L' := by rw [hL] at q1; exact Option.some.inj q1
                      have hrow := q7 (by omega)
                      have hl0 : ((b.es.drop off).take len).length = len := by simp; omega
                      have hsub := RowC_sub hrow off len
                      have hLk' : L.k = k := by rw [q2, hbk]
                      obtain ⟨olds, o1, o2, o3, o4⟩ := RowC_cells hsub
                      have hofs : (off + len) * b.k ≤ b.es.length * b.k := Nat.mul_le_mul_right _ hle
                      rw [Nat.add_mul] at hofs
                      have hmu0 : ∀ id L, muOf b μ id = some L → (if (b.flat && fl) then noMu else μ) id = some L := by
                        intro id L hid
                        unfold muOf at hid
                        cases hbf : b.flat with
                        | true => rw [hbf] at hid; cases hid
                        | false => rw [hbf] at hid; simpa using hid
                      have hmu1 : ∀ id L, (if fl then noMu else μ) id = some L → (if (b.flat && fl) then noMu else μ) id = some L := by
                        intro id L hid
                        cases fl with
                        | true => cases hid
                        | false => simpa using hid
                      rw [hl0] at hfit ⊢
                      have h63 : len + l.length ≤ 9223372036854775807 := by
                        have : (len + l.length) * 1 ≤ (len + l.length) * by_ := Nat.mul_le_mul_left _ (by omega)
                        omega
                      -- where the block must grow
                      have grow : ∀ (base : Option Addr) (cap : Nat), vs = .slice base len cap → cap < len + l.length → (∀ w' : World, Kept w (InS S0 h μ) w' (InS S0 h μ) → (∀ g, InS S0 h μ g → w'.heap[g]? = w.heap[g]?) → (Builtin.firstCells k len (.slice base len cap)).run P w' = .ok olds.toArray w') →
                          ∃ v μ' w', (Builtin.append_ #[T, T2] ty #[vs, vx]).run P w = .ok v w' ∧ Stp S0 B h μ w (setN h id ⟨0, b.flat, b.T, b.k, b.es⟩ ++ [⟨2, b.flat && fl, e, k, (b.es.drop off).take len ++ l⟩]) μ' w' ∧
                            R w' (InS S0 (setN h id ⟨0, b.flat, b.T, b.k, b.es⟩ ++ [⟨2, b.flat && fl, e, k, (b.es.drop off).take len ++ l⟩]) μ') (.rs h.length k 0 (len + l.length)) μ' v := by
                        intro base cap hvs hcap hfo
                        subst hvs
                        have hf := n2 w.drew (drew_kept h μ w) (fun _ _ => rfl)
                        have ho := hfo w.drew (drew_kept h μ w) (fun _ _ => rfl)
                        have hrun := run_app_grow (ty := ty) ht hi hzz hik h2 hlen hf ho hcap h63 (by rw [hib]; exact growslice_fits hcap hfit) (by omega)
                        have hd := drew_step hh hB
                        have hk := hd.trans (kill_step hd.heap hB hb hst b.flat b.T b.k (by rw [hbk]; exact hk0) b.es)
                        have hlen' : (setN h id ⟨0, b.flat, b.T, b.k, b.es⟩).length = h.length := setN_len _ _ _
                        have hst' := alloc_step hk.heap hB (fl := b.flat && fl) (st := 2) (T := e) (k := k) (es := (b.es.drop off).take len ++ l) (cs := olds.toArray ++ news.toArray ++ Builtin.zeroCells zv.cells (grownCap w (len + l.length) cap e - (len + l.length))) (e := e) (.inl rfl) (by
                          simp only [Array.size_append, List.size_toArray, List.length_append, hl0, o1, n1, hbk, Nat.add_mul]; omega) (fun _ => by
                          refine RowC_grown (μ1 := muOf b μ) (μ2 := if fl then noMu else μ) (RowC_mono hk.kept (fun _ _ h => h) ?_) (RowC_mono hk.kept (fun _ _ h => h) n3) hmu0 hmu1 (by rw [o1, hbk])
                          rw [← hbk]; exact o3)
                        rw [hlen'] at hst'
                        refine ⟨_, _, _, hrun, hk.trans hst', ?_⟩
                        simp only [R]
                        refine ⟨_, upd_same _ _ _, rfl, .inl ⟨grownCap w (len + l.length) cap e, by simp, grownCap_ge w _ _ _, ?_⟩⟩
                        have hge := grownCap_ge w (len + l.length) cap e
                        simp only [Nat.zero_mul, Nat.zero_add, Array.size_append, List.size_toArray, o1, n1, hl0, hbk, size_zeroCells, hzs, ← Nat.add_mul]
                        exact Nat.mul_le_mul_right _ (by omega)
                      rcases hs with ⟨cap, rfl, hcap, hcfit⟩ | ⟨h0, ad, rfl⟩
                      · by_cases hroom : len + l.length ≤ cap
                        · have hf := n2 w ⟨Nat.le_refl _, fun _ _ _ => rfl, fun _ _ h => h⟩ (fun _ _ => rfl)
                          have hcl : (len + l.length) * k ≤ cap * k := Nat.mul_le_mul_right _ hroom
                          rw [Nat.add_mul] at hcl
                          rw [hLk'] at hcfit
                          have hfitc : (L.o + off * L.k + len * k) + 0 + news.length ≤ c.size := by rw [n1, hLk']; omega
                          have hstc := run_storeCells_at P L.g (L.o + off * L.k + len * k) e' news 0 c w q4 hfitc n4
                          have hrun := run_app_room (ty := ty) (ad := ⟨L.g, L.o + off * L.k, none⟩) (sLen := len) (sCap := cap) ht (hsz w) h2 hlen hf hroom (by rw [add_none]; exact hstc)
                          have hgc : ∀ j, ((c.toList.take (L.o + off * L.k + len * k + 0) ++ news ++ c.toList.drop (L.o + off * L.k + len * k + 0 + news.length)).toArray)[j]? =
                              if L.o + off * L.k + len * k ≤ j ∧ j < L.o + off * L.k + len * k + news.length then news[j - (L.o + off * L.k + len * k)]? else c[j]? := by
                            intro j
                            have := seg_get c.toList news (L.o + off * L.k + len * k) (by simpa using hfitc) j
                            simpa using this
                          have hstp := inplace_step hh hB (T := e) (k := k) (d := off * L.k) (fl := b.flat && fl) (f0 := b.flat) (T0 := b.T) (k0 := b.k) (es0 := b.es) (es := (b.es.drop off).take len ++ l)
                            (c' := (c.toList.take (L.o + off * L.k + len * k + 0) ++ news ++ c.toList.drop (L.o + off * L.k + len * k + 0 + news.length)).toArray) hb hst hL q4 (by simp at hfitc ⊢; omega) (by rw [hbk]; exact hk0) (by rw [hLk']; omega)
                            (by simp only [List.length_append, hl0, Nat.add_mul, hLk']; omega) (by
                              refine RowC_append (RowC_move (RowC_le hmu0 (by rw [← hbk, ← q2] at *; exact hsub)) fun j u hj hu => ?_) (RowC_move (RowC_le hmu1 n3) fun j u hj hu => ?_)
                              · rw [hgc, if_neg]
                                · exact hu
                                · rw [hl0] at hj; omega
                              · have hlt := (List.getElem?_eq_some_iff.1 (by simpa using hu)).1
                                rw [hgc, hl0, if_pos (by omega)]
                                rw [show L.o + off * L.k + len * k + j - (L.o + off * L.k + len * k) = j by omega]
                                simpa using hu)
                          refine ⟨_, _, _, hrun, hstp, ?_⟩
                          simp only [R]
                          refine ⟨_, upd_same _ _ _, rfl, .inl ⟨cap, by simp, hroom, ?_⟩⟩
                          simp only [Nat.zero_mul, Nat.zero_add]
                          rw [hLk']; omega
                        · refine grow _ cap rfl (by omega) fun w' hkp hg => ?_
                          refine run_firstCells_some w' k len _ len cap olds (by rw [o1, hl0, hbk]) fun j d hj => ?_
                          rw [add_none, q2]
                          have hcell : w'.heap[L.g]? = some (.cells c e' (0, 0)) := by
                            rw [hg L.g (.inr ⟨id, b, L, hb, .inl hst, hL, rfl⟩)]; exact q4
                          rw [cell_at hcell]
                          exact o2 j d hj
                      · subst h0
                        by_cases hroom : l.length = 0
                        · have hnil : news = [] := List.eq_nil_of_length_eq_zero (by rw [n1, hroom]; simp)
                          have hlnil : l = [] := List.eq_nil_of_length_eq_zero hroom
                          subst hnil; subst hlnil
                          have hf := n2 w ⟨Nat.le_refl _, fun _ _ _ => rfl, fun _ _ h => h⟩ (fun _ _ => rfl)
                          have hrun := run_app_room (ty := ty) (ad := ad) (sLen := 0) (sCap := 0) ht (hsz w) h2 hlen hf (by simp) (w' := w) (by simp [storeCells])
                          have hstp := inplace_step hh hB (T := e) (k := k) (d := off * L.k) (fl := b.flat && fl) (f0 := b.flat) (T0 := b.T) (k0 := b.k) (es0 := b.es) (es := (b.es.drop off).take 0 ++ []) (c' := c) hb hst hL q4 rfl (by rw [hbk]; exact hk0) (by rw [q2]; omega)
                            (by simp) (by simp [RowC])
                          rw [setRow_self w L.g c e' (0, 0) q4] at hstp
                          refine ⟨_, _, _, hrun, hstp, ?_⟩
                          simp only [R]
                          exact ⟨_, upd_same _ _ _, rfl, .inr ⟨by simp, ad, by simp⟩⟩
                        · have : olds = [] := List.eq_nil_of_length_eq_zero (by rw [o1, hl0]; simp)
                          subst this
                          exact grow (some ad) 0 rfl (by omega) fun w' _ _ => by simp [Builtin.firstCells, loadCells, loadCellsFrom]
                    · cases hseg
                  · rw [if_neg hfit] at ha; cases ha
              · rw [if_neg hc] at ha; cases ha
          · split at ha
            · exact absurd ⟨_, rfl⟩ hnils
            · exact absurd ⟨_, _, _, _, rfl⟩ hrs
            · cases ha
    · cases ha
  · cases ha
end
end Go.VE
end
section
set_option linter.unusedVariables false
set_option linter.unusedSimpArgs false
set_option linter.unusedSectionVars false
namespace Go.VE
open Go.RowKit

section
variable {E : Env} {P : Program} (ok : E.Ok P) {S0 : Nat → Prop} {B : Nat} {h : List Blk} {μ : Mu} {w : World} {t : List AV} {a : Act} (hh : HeapOk S0 B h μ w) (ht : TmpsOk S0 h μ w t a) (hB : B ≤ w.heap.size)

theorem getElem?_range_map (n : Nat) (f : Nat → Value) (j : Nat) : ((Array.range n).map f)[j]? = if j < n then some (f j) else none := by
  simp only [Array.getElem?_map, Array.getElem?_range]
  split <;> rfl

/-- Zeros, row by row. -/
theorem zeros_row {S : Nat → Prop} {z : AV} {zv : Value} {k n m : Nat} (hz : R w S z noMu zv) (ho : z.okv = true) (hk : z.cells.length = k) (hk0 : 0 < k) (hm : n * k ≤ m) :
    RowC w S noMu ((Array.range m).map (zv.cells[· % zv.cells.size]!)) k (List.replicate n z) 0 := by
  have hs : zv.cells.size = k := by rw [(okv_cells hz ho).2.1, hk]
  refine RowC_of fun i x hx => ?_
  rw [List.getElem?_replicate] at hx
  split at hx
  · rename_i hi
    cases hx
    refine ⟨ho, zv, hz, hs, fun j d hd => ?_⟩
    have hj : j < k := by rw [← hs]; exact (Array.getElem?_eq_some_iff.1 hd).1
    have hle : (i + 1) * k ≤ n * k := Nat.mul_le_mul_right _ hi
    rw [Nat.add_mul] at hle
    rw [getElem?_range_map, if_pos (by omega), hs]
    have hmod : (0 + i * k + j) % k = j := by
      rw [Nat.zero_add, Nat.mul_comm, Nat.mul_add_mod, Nat.mod_eq_of_lt hj]
    rw [hmod]
    have hlt := (Array.getElem?_eq_some_iff.1 hd).1
    rw [getElem!_pos zv.cells j hlt]
    rw [Array.getElem?_eq_getElem hlt] at hd
    exact hd
  · cases hx

/-- A literal's elements, laid one by one. -/
theorem lit_row {S : Nat → Prop} {k : Nat} (hk0 : 0 < k) : ∀ (ps : List (Nat × AV)) (vs : List (Nat × Value)) {es ys : List AV} {c : Array Value}, RowC w S μ c k es 0 → es.length * k ≤ c.size → ps.map (·.1) = vs.map (·.1) →
    Rs w S (ps.map (·.2)) μ (vs.map (·.2)) → (ps.all fun p => p.2.cells.length = k && p.2.okv) = true → setParts es ps = some ys → ∃ d, Instr.fill (fun i => some (i * k, k)) c vs = some d ∧ d.size = c.size ∧ RowC w S μ d k ys 0 ∧ ys.length = es.length
  | [], vs, es, ys, c, hr, hl, h1, h2, _, hs => by
    have : vs = [] := by simpa using h1.symm
    subst this
    simp only [setParts] at hs
    cases hs
    exact ⟨c, rfl, rfl, hr, rfl⟩
  | (i, x) :: ps, vs, es, ys, c, hr, hl, h1, h2, hall, hs => by
    cases vs with
    | nil => simp at h1
    | cons p vs =>
      obtain ⟨i', v⟩ := p
      simp only [List.map_cons, List.cons.injEq] at h1
      obtain ⟨rfl, h1⟩ := h1
      simp only [List.map_cons, Rs] at h2
      obtain ⟨v', l', h2a, h2b, h2c⟩ := h2
      obtain ⟨rfl, rfl⟩ := List.cons.inj h2a
      simp only [List.all_cons, Bool.and_eq_true, decide_eq_true_eq] at hall
      obtain ⟨⟨hk, ho⟩, hall⟩ := hall
      simp only [setParts] at hs
      split at hs
      · rename_i hi
        obtain ⟨r1, r2, r3⟩ := okv_cells h2b ho
        have hle : (i + 1) * k ≤ es.length * k := Nat.mul_le_mul_right _ hi
        rw [Nat.add_mul] at hle
        have hvl : v.cells.toList.length = k := by simp [r2, hk]
        have hfold := fold_set v.cells.toList (i * k) 0 c (by rw [hvl]; omega)
        have e : (v.cells.zipIdx.foldl (fun cs (p : Value × Nat) => cs.setIfInBounds (i * k + p.2) p.1) c).toList = c.toList.take (i * k) ++ v.cells.toList ++ c.toList.drop (i * k + v.cells.toList.length) := by
          rw [← Array.foldl_toList, Array.toList_zipIdx]
          simpa using hfold
        have hget : ∀ j, (v.cells.zipIdx.foldl (fun cs (p : Value × Nat) => cs.setIfInBounds (i * k + p.2) p.1) c)[j]? = if i * k ≤ j ∧ j < i * k + k then v.cells.toList[j - i * k]? else c[j]? := by
          intro j
          rw [← Array.getElem?_toList, e, seg_get c.toList v.cells.toList (i * k) (by rw [hvl]; simp; omega) j, hvl]
          simp
        have hsize : (v.cells.zipIdx.foldl (fun cs (p : Value × Nat) => cs.setIfInBounds (i * k + p.2) p.1) c).size = c.size := by
          rw [← Array.length_toList, e]
          simp only [List.length_append, List.length_take, List.length_drop, Array.length_toList, hvl] at *
          omega
        have hr' : RowC w S μ (v.cells.zipIdx.foldl (fun cs (p : Value × Nat) => cs.setIfInBounds (i * k + p.2) p.1) c) k (setN es i x) 0 := by
          refine RowC_upd hr ?_ ?_
          · refine ElemC_of_R h2b ho hk fun j d hd => ?_
            have hj : j < k := by rw [← hvl]; simpa using (Array.getElem?_eq_some_iff.1 hd).1
            rw [hget, if_pos (by omega)]
            rw [show 0 + i * k + j - i * k = j by omega]
            simpa using hd
          · intro j hj
            rw [hget, if_neg (by omega)]
        obtain ⟨d, d1, d2, d3, d4⟩ := lit_row hk0 ps vs hr' (by rw [setN_len, hsize]; exact hl) h1 h2c hall hs
        refine ⟨d, ?_, by rw [d2, hsize], d3, by rw [d4, setN_len]⟩
        simp only [Instr.fill]
        rw [if_neg (by
          have : v.cells.size = k := by simpa using hvl
          simp [this]; omega)]
        exact d1
      · cases hs

theorem Kept.of_below {S : Nat → Prop} {w w' : World} (hs : w.heap.size ≤ w'.heap.size) (hb : ∀ g, g < w.heap.size → w'.heap[g]? = w.heap[g]?) : Kept w S w' S := ⟨hs, fun g _ hg => hb g hg, fun _ _ h => h⟩

include hh hB in
theorem bytes_ok {s d e : Nat} {l : List UInt8} {v : Value} (hv : v = .string ⟨l.toArray⟩) (hd : P.underlying d = some (.slice e)) (he : P.underlying e = some (.int .u8)) (hs : ∃ td, P.underlying s = some td) :
    Did S0 P B h μ w (do pure (.value (← convert s d v))) (.sl true 1 (bytesAV l)) h := by
  subst hv
  obtain ⟨td, hs⟩ := hs
  have hrun := Lib.run_convert_string_bytes (P := P) w s d e ⟨l.toArray⟩ hs hd he
  have hsz : (⟨l.toArray⟩ : ByteArray).size = l.length := by simp [ByteArray.size]
  have hold := Lib.bytesWorld_at_old w e ⟨l.toArray⟩
  have hgs := Lib.bytesWorld_size w e ⟨l.toArray⟩
  have hk : Kept w (InS S0 h μ) (Lib.bytesWorld w e ⟨l.toArray⟩) (InS S0 h μ) := Kept.of_below (by rw [hgs]; omega) (fun g hg => hold g hg)
  have hh' := heap_world hh hk (fun g hg => hold g (InS_lt hh hB hg))
  refine ⟨_, _, μ, _, by rw [Sem.run_bind, hrun]; rfl, .inl rfl, ⟨hh', hk, fun _ _ h => h, ⟨rfl, rfl, rfl, by rw [hgs]; omega, fun k hk => hold k (by omega)⟩, by rw [hgs]; omega⟩, ?_⟩
  simp only [R]
  refine .inr ⟨trivial, ⟨w.heap.size, 0, none⟩, grownCap w (⟨l.toArray⟩ : ByteArray).size 0 e, ?_, ?_, ?_⟩
  · rw [show (bytesAV l).length = (⟨l.toArray⟩ : ByteArray).size by rw [hsz]; simp [bytesAV]]
  · have := grownCap_ge w l.length 0 e
    simpa [bytesAV, hsz] using this
  · refine RowAt_of fun i x hx => ?_
    simp only [bytesAV, List.getElem?_map] at hx
    cases hb : l[i]? with
    | none => simp [hb] at hx
    | some b =>
      simp only [hb, Option.map_some, Option.some.injEq] at hx
      subst hx
      have hi : i < l.length := (List.getElem?_eq_some_iff.1 hb).1
      refine ⟨⟨by rw [hgs]; simp, fun hs => ?_⟩, rfl, .int .u8 b.toNat, by simp [R], rfl, fun j d hd => ?_⟩
      · have := InS_lt hh hB hs; simp at this
      · simp only [Value.cells] at hd
        have hj : j = 0 := by
          have := (Array.getElem?_eq_some_iff.1 hd).1; simp at this; exact this
        subst hj
        simp at hd
        subst hd
        have := Lib.bytesWorld_cell w e ⟨l.toArray⟩ i (by rw [hsz]; exact hi)
        rw [add_none]
        simp only [Nat.zero_add, Nat.mul_one, Nat.add_zero]
        rw [this]
        simp [hb]

include ok hh ht hB in
theorem heap_ok {o : Oper} {x : AV} {h' : List Blk} (hp : heapOp E h t o.op = some (x, h')) : Did S0 P B h μ w (execOp a.eval o) x h' := by
  cases ho : o.op <;> rw [ho] at hp <;> simp only [heapOp, reduceCtorEq] at hp <;> simp only [execOp, ho]
  case alloc T =>
    split at hp
    · rename_i z k hz hk
      split at hp
      · rename_i hc
        obtain ⟨hc1, hc2⟩ := hc
        cases hp
        obtain ⟨zv, hz1, hz2⟩ := run_zeroT ok hz
        have hr := hz2 w (InS S0 h μ)
        have hzs : zv.cells.size = k := by rw [(okv_cells hr hc2).2.1, hc1]
        have hst := alloc_step hh hB (fl := true) (st := 2) (T := T) (k := k) (es := [z]) (cs := zv.cells) (e := T) (.inl rfl) (by simp [hzs]) (fun _ => RowC_one hr hc2 hc1)
        refine ⟨.value (.pointer (some ⟨w.heap.size, 0, none⟩)), _, _, _, ?_, .inl rfl, hst, ?_⟩
        · simp [Instr.alloc, hz1, newVar, newRow]
        · simp only [R]; exact ⟨_, upd_same _ _ _, by simp⟩
      · cases hp
    · cases hp
  case box T y =>
    split at hp
    · rename_i v k hv hk
      split at hp
      · rename_i hc
        obtain ⟨hc1, hc2⟩ := hc
        cases hp
        have hr := evF_ok ht hv
        have hvs : (a.eval y).cells.size = k := by rw [(okv_cells hr hc2).2.1, hc1]
        have hst := alloc_step hh hB (fl := v.rf) (st := 2) (T := T) (k := k) (es := [v]) (cs := (a.eval y).cells) (e := T) (.inl rfl) (by simp [hvs]) (fun _ => by
          split
          · rename_i hf; exact RowC_one (rf_noMu hr hf) hc2 hc1
          · exact RowC_one hr hc2 hc1)
        refine ⟨.value (.pointer (some ⟨w.heap.size, 0, none⟩)), _, _, _, ?_, .inl rfl, hst, ?_⟩
        · simp [Instr.box, newVar, newRow]
        · simp only [R]; exact ⟨_, upd_same _ _ _, by simp⟩
      · cases hp
    · cases hp
  case buildSlice T n parts =>
    split at hp
    · rename_i e hu
      have hu' := ok.und _ _ hu
      split at hp
      · rename_i z k ps0 hz hk hps
        generalize hps1 : fixP E e ps0 = ps at hp
        split at hp
        · rename_i hc
          obtain ⟨hc1, hc2, hc3, hc4, hc5⟩ := hc
          split at hp
          · rename_i es hes
            cases hp
            obtain ⟨zv, hz1, hz2⟩ := run_zeroT ok hz
            have hr := hz2 w (InS S0 h μ)
            have hzs : zv.cells.size = k := by rw [(okv_cells hr hc2).2.1, hc1]
            obtain ⟨p1, p2⟩ := parts_ok ht hps
            have p1 : ps.map (·.1) = (parts.toList.map fun p => (p.1, a.eval p.2)).map (·.1) := by rw [← hps1, fixP_fst]; exact p1
            have p2 : Rs w (InS S0 h μ) (ps.map (·.2)) μ ((parts.toList.map fun p => (p.1, a.eval p.2)).map (·.2)) := by rw [← hps1]; exact fixP_R p2
            have hsz := run_sizeT ok hk w
            rw [rep_eq] at hes
            have hzr := zeros_row (m := n * k) hr hc2 hc1 hc3 (Nat.le_refl (n * k))
            have hres : ∀ (μ' : Mu), (Rs w (InS S0 h μ) (ps.map (·.2)) μ' ((parts.toList.map fun p => (p.1, a.eval p.2)).map (·.2))) → ∃ d, Instr.fill (fun i => some (i * k, k)) ((Array.range (n * k)).map (zv.cells[· % zv.cells.size]!)) (parts.toList.map fun p => (p.1, a.eval p.2)) = some d ∧ d.size = n * k ∧ RowC w (InS S0 h μ) μ' d k es 0 ∧ es.length = n := by
              intro μ' hp2
              obtain ⟨d, d1, d2, d3, d4⟩ := lit_row (μ := μ') hc3 ps (parts.toList.map fun p => (p.1, a.eval p.2)) (es := List.replicate n z) (c := (Array.range (n * k)).map (zv.cells[· % zv.cells.size]!)) (RowC_le (noMu_le _) hzr) (by simp) p1 hp2 (by simpa using hc5) hes
              exact ⟨d, d1, by rw [d2]; simp, d3, by rw [d4]; simp⟩
            obtain ⟨d, d1, d2, d3, d4⟩ := hres μ p2
            have hst := alloc_step hh hB (fl := ps.all fun p => p.2.rf) (st := 2) (T := e) (k := k) (es := es) (cs := d) (e := e) (.inl rfl) (by rw [d4, d2]; omega) (fun _ => by
              split
              · rename_i hf
                simp only [List.all_eq_true] at hf
                obtain ⟨d', q1, _, q3, _⟩ := hres noMu (Rs_of (Rs_len p2) fun i x v hx hv => by
                  obtain ⟨u, hu, hr⟩ := Rs_get p2 i x hx
                  rw [hv] at hu; cases hu
                  have hmem : x ∈ ps.map (·.2) := List.mem_of_getElem? hx
                  obtain ⟨q, hq, rfl⟩ := List.mem_map.1 hmem
                  exact rf_noMu hr (hf q hq))
                rw [d1] at q1; cases q1
                exact q3
              · exact d3)
            refine ⟨.value (.slice (some ⟨w.heap.size, 0, none⟩) n n), _, _, _, ?_, .inl rfl, hst, ?_⟩
            · have hcond : ¬ (n * k > 2 ^ 24) := by omega
              have e0 : ((parts.map fun (i, x) => (i, a.eval x)).toList) = parts.toList.map fun p => (p.1, a.eval p.2) := by simp
              simp only [Instr.buildSlice, Sem.run_bind, run_underlying hu', Result.andThen_ok, hsz, if_neg hcond, Sem.run_pure, e0]
              by_cases hn0 : n * k = 0
              · have hnz : n = 0 := by
                  rcases Nat.mul_eq_zero.1 hn0 with h | h
                  · exact h
                  · omega
                subst hnz
                have hz0 : ∀ f : Nat → Value, (Array.range (0 * k)).map f = #[] := by intro f; exact Array.eq_empty_of_size_eq_zero (by simp)
                rw [hz0] at d1
                simp only [if_pos hn0, Sem.run_pure, Result.andThen_ok, hz0, d1]
                simp [newRow]
              · simp only [if_neg hn0, Sem.run_bind, hz1, Result.andThen_ok, Sem.run_pure, d1]
                simp [newRow]
            · simp only [R]
              exact ⟨_, upd_same _ _ _, rfl, .inl ⟨n, by simp, Nat.le_refl _, by simp [d2]⟩⟩
          · cases hp
        · cases hp
      · cases hp
    · cases hp
  case store T y z =>
    split at hp
    · rename_i y' z' hy hz
      split at hp
      · rename_i h'' hs
        cases hp
        obtain ⟨w', e1, e2⟩ := store_ok ok hh hB (evO_ok ht hy) (evF_ok ht hz) hs
        exact ⟨.skip, undef, μ, w', by simp [e1], .inr ⟨rfl, rfl⟩, e2, by simp [R]⟩
      · cases hp
    · cases hp
  case convert s d y =>
    split at hp
    · rename_i e l hu hy
      have hu' := ok.und _ _ hu
      split at hp
      · rename_i td hs hue hse
        cases hp
        have hue' := ok.und _ _ hue
        have hr := evO_ok ht hy
        simp only [R] at hr
        exact bytes_ok hh hB hr hu' hue' ⟨_, ok.und _ _ hs⟩
      · cases hp
    · cases hp
  case makeSlice T l c =>
    split at hp
    · rename_i e n m hu hl hc
      have hu' := ok.und _ _ hu
      split at hp
      · rename_i z k by_ hz hk hby
        split at hp
        · rename_i hcond
          obtain ⟨hc1, hc2, hc3, hc4, hc5, hc6, hc7⟩ := hcond
          cases hp
          obtain ⟨zv, hz1, hz2⟩ := run_zeroT ok hz
          have hr := hz2 w (InS S0 h μ)
          have hsz := run_sizeT ok hk w
          obtain ⟨i, hti, hib⟩ := run_bytesT ok hby w
          have el := evO_ok ht hl
          have ec := evO_ok ht hc
          simp only [R] at el ec
          have hle : n.toNat * k ≤ m.toNat * k := Nat.mul_le_mul_right _ (by omega)
          have hzr := zeros_row (n := n.toNat) (m := m.toNat * k) hr hc2 hc1 hc3 hle
          have hst := alloc_step hh hB (fl := true) (st := 2) (T := e) (k := k) (es := rep n.toNat z) (cs := (Array.range (m.toNat * k)).map (zv.cells[· % zv.cells.size]!)) (e := e) (.inl rfl) (by simp [rep_eq]; omega) (fun _ => by
            rw [rep_eq]; exact hzr)
          have hwn : IntKind.i64.wrap n = n := IntWalk.i64_in n (by omega)
          have hwm : IntKind.i64.wrap m = m := IntWalk.i64_in m (by omega)
          refine ⟨.value (.slice (some ⟨w.heap.size, 0, none⟩) n.toNat m.toNat), _, _, _, ?_, .inl rfl, hst, ?_⟩
          · have b1 : ((i.bytes : Int) * m > 2 ^ 48) = False := by
              rw [hib, Int.mul_comm]; simp; omega
            have b2 : (m < 0) = False := by simp; omega
            have b3 : (n < 0) = False := by simp; omega
            have b4 : (n > m) = False := by simp; omega
            simp only [Instr.makeSlice, Sem.run_bind, run_underlying hu', Result.andThen_ok, el, ec, asInt, asIntOf, Sem.run_pure, hti, hwn, hwm, b1, b2, b3, b4, decide_false, Bool.or_false, Bool.false_eq_true, if_false, run_askRoom, hsz]
            by_cases h0 : m.toNat * k = 0
            · have hz0 : ∀ f : Nat → Value, (Array.range (m.toNat * k)).map f = #[] := by intro f; exact Array.eq_empty_of_size_eq_zero (by simp [h0])
              simp only [if_pos h0, Sem.run_pure, Result.andThen_ok, hz0]
              simp [newRow]
            · simp only [if_neg h0, Sem.run_bind, hz1, Result.andThen_ok, Sem.run_pure]
              simp [newRow]
          · simp only [R]
            refine ⟨_, upd_same _ _ _, rfl, .inl ⟨m.toNat, by simp, by omega, by simp⟩⟩
        · cases hp
      · cases hp
    · cases hp
  case call c =>
    obtain ⟨callee, args, argTypes⟩ := c
    simp only at hp
    split at hp
    · split at hp
      · rename_i s x' T T2 hargs hT
        have e1 : args = #[s, x'] := by apply Array.ext'; simpa using hargs
        have e2 : argTypes = #[T, T2] := by apply Array.ext'; simpa using hT
        subst e1; subst e2
        split at hp
        · rename_i s' x'' hs hx
          have fin : notInt P T2 → appendA E h T s' x'' = some (x, h') → Did S0 P B h μ w (do let d ← resolve a.eval { callee := .builtin .append, args := #[s, x'], argTypes := #[T, T2] } o.type; invoke d.target d.args) x h' := by
            intro h2 hp
            obtain ⟨v, μ', w', r1, r2, r3⟩ := append_ok ok hh hB (ty := o.type) (evO_ok ht hs) (evO_ok ht hx) h2 hp
            exact ⟨.value v, v, μ', w', by simp [resolve, invoke, builtin, r1], .inl rfl, r2, r3⟩
          split at hp
          · rename_i e hu
            exact fin (.inl ⟨e, ok.und _ _ hu⟩) hp
          · rename_i hu
            exact fin (.inr (ok.und _ _ hu)) hp
          · cases hp
        · cases hp
      · cases hp
    · cases hp
end
end Go.VE
end
section
set_option linter.unusedVariables false
set_option linter.unusedSimpArgs false
set_option linter.unusedSectionVars false
namespace Go.VE
open Go.RowKit

theorem mapO_get {α β : Type} {f : α → Option β} : ∀ {l : List α} {m : List β}, mapO f l = some m → m.length = l.length ∧ ∀ (i : Nat) (y : β), m[i]? = some y → ∃ x, l[i]? = some x ∧ f x = some y
  | [], m, h => by simp only [mapO] at h; cases h; simp
  | x :: r, m, h => by
    simp only [mapO] at h
    split at h
    · rename_i y hy
      split at h
      · rename_i s hs
        cases h
        obtain ⟨h1, h2⟩ := mapO_get hs
        refine ⟨by simp [h1], fun i z hz => ?_⟩
        cases i with
        | zero => simp only [List.getElem?_cons_zero, Option.some.injEq] at hz; subst hz; exact ⟨x, by simp, hy⟩
        | succ i => exact h2 i z (by simpa using hz)
      · cases h
    · cases h

section
variable {S0 : Nat → Prop} {B : Nat} {h : List Blk} {μ : Mu} {w : World} (hh : HeapOk S0 B h μ w)

theorem view_sto {n : Nat} {x y : AV} (hs : x.sto = true) (hv : view h n x = some y) : y.sto = true := by
  cases n with
  | zero => simp [view] at hv
  | succ n =>
    cases x <;> simp only [view, AV.sto, Bool.false_eq_true, reduceCtorEq] at hs hv
    all_goals first
      | (simp only [Option.some.injEq] at hv; subst hv; rfl)
      | skip
    · split at hv
      · split at hv
        · split at hv
          · simp only [Option.some.injEq] at hv; subst hv; rfl
          · rename_i l _ _
            cases hm : mapO (view h n) l with
            | none => simp [hm] at hv
            | some m => simp only [hm, Option.map_some, Option.some.injEq] at hv; subst hv; rfl
        · cases hv
      · cases hv
    · split at hv
      · split at hv
        · split at hv
          · simp only [Option.some.injEq] at hv; subst hv; rfl
          · rename_i z _ _
            cases hm : view h n z with
            | none => simp [hm] at hv
            | some m => simp only [hm, Option.map_some, Option.some.injEq] at hv; subst hv; rfl
        · cases hv
      · cases hv
    · rename_i f cap
      cases hm : mapO (view h n) cap with
      | none => simp [hm] at hv
      | some m => simp only [hm, Option.map_some, Option.some.injEq] at hv; subst hv; rfl

theorem view_okv {n : Nat} {x y : AV} (ho : x.okv = true) (hv : view h n x = some y) : y.okv = true := by
  cases n with
  | zero => simp [view] at hv
  | succ n =>
    by_cases ha : ∃ cs, x = .agg cs
    · obtain ⟨cs, rfl⟩ := ha
      simp only [view] at hv
      cases hm : mapO (view h n) cs with
      | none => simp [hm] at hv
      | some m =>
        simp only [hm, Option.map_some, Option.some.injEq] at hv
        subst hv
        obtain ⟨h1, h2⟩ := mapO_get hm
        simp only [AV.okv, AV.cells, List.all_eq_true] at ho ⊢
        intro y hy
        obtain ⟨i, hi⟩ := List.mem_iff_getElem?.1 hy
        obtain ⟨z, hz, hvz⟩ := h2 i y hi
        exact view_sto (ho z (List.mem_of_getElem? hz)) hvz
    · have hs : x.sto = true := by
        cases x <;> first | (exact absurd ⟨_, rfl⟩ ha) | (simpa [AV.okv, AV.cells] using ho)
      have hy := view_sto hs hv
      cases y <;> first | (simp [AV.sto] at hy; done) | (simpa [AV.okv, AV.cells] using hy)

include hh in
theorem view_ok {S : Nat → Prop} (hS : ∀ g, S g → InS S0 h μ g) : ∀ (n : Nat) (x y : AV) (μ' : Mu) (v : Value), (∀ id L, μ' id = some L → μ id = some L) → view h n x = some y → R w (InS S0 h μ) x μ' v →
    (∀ id ∈ reach h n x, ∀ L, μ id = some L → ¬ S L.g) → R w S y noMu v
  | 0, x, y, μ', v, _, hv, _, _ => by simp [view] at hv
  | n + 1, x, y, μ', v, hm, hv, hx, hr => by
    have hk : Kept w (InS S0 h μ) w S := ⟨Nat.le_refl _, fun _ _ _ => rfl, fun g _ h => hS g h⟩
    have lists : ∀ (l m : List AV) (μ1 : Mu) (c : List Value), (∀ id L, μ1 id = some L → μ id = some L) → mapO (view h n) l = some m → Rs w (InS S0 h μ) l μ1 c → (∀ id ∈ l.flatMap (reach h n), ∀ L, μ id = some L → ¬ S L.g) → Rs w S m noMu c := by
      intro l m μ1 c hm1 hl hc hr
      obtain ⟨h1, h2⟩ := mapO_get hl
      refine Rs_of (by rw [h1, Rs_len hc]) fun i y u hy hu => ?_
      obtain ⟨z, hz, hvz⟩ := h2 i y hy
      obtain ⟨u', hu', hru⟩ := Rs_get hc i z hz
      rw [hu] at hu'; cases hu'
      exact view_ok hS n z y μ1 u hm1 hvz hru fun id hid => hr id (List.mem_flatMap.2 ⟨z, List.mem_of_getElem? hz, hid⟩)
    cases x <;> simp only [view, reduceCtorEq, Option.some.injEq] at hv
    case int => subst hv; simpa [R] using hx
    case bool => subst hv; simpa [R] using hx
    case str => subst hv; simpa [R] using hx
    case nilp => subst hv; simpa [R] using hx
    case nilfn => subst hv; simpa [R] using hx
    case sl b k l =>
      subst hv
      have := R_mono hk (.sl b k l) (fun _ _ h => h) hx
      simpa only [R] using this
    case pim z off =>
      subst hv
      have := R_mono hk (.pim z off) (fun _ _ h => h) hx
      simpa only [R] using this
    case agg cs =>
      cases hl : mapO (view h n) cs with
      | none => simp [hl] at hv
      | some m =>
        simp only [hl, Option.map_some, Option.some.injEq] at hv
        subst hv
        simp only [R] at hx ⊢
        obtain ⟨l, rfl, hx⟩ := hx
        exact ⟨l, rfl, lists cs m μ' l hm hl hx (by simpa [reach] using hr)⟩
    case fn f cs =>
      cases hl : mapO (view h n) cs with
      | none => simp [hl] at hv
      | some m =>
        simp only [hl, Option.map_some, Option.some.injEq] at hv
        subst hv
        simp only [R] at hx ⊢
        obtain ⟨l, rfl, hx⟩ := hx
        exact ⟨l, rfl, lists cs m μ' l hm hl hx (by simpa [reach] using hr)⟩
    case rs id k off len =>
      cases hb : blk h id with
      | none => simp [hb] at hv
      | some b =>
        simp only [hb] at hv
        simp only [reach, hb] at hr
        cases hs : seg b.es off len with
        | none => simp [hs] at hv
        | some l =>
          simp only [hs] at hv
          unfold seg at hs
          split at hs
          · rename_i hle
            cases hs
            simp only [R] at hx
            obtain ⟨L', hL', hLk', hx⟩ := hx
            obtain ⟨hst, hbn, L, c, e, q1, q2, q3, q4, q5, q6, q7, q8⟩ := blk_ok hh hb
            obtain rfl : L = L' := by have := hm _ _ hL'; rw [q1] at this; exact Option.some.inj this
            have hnS : ¬ S L.g := hr id (by split <;> simp) L q1
            have hlen : ((b.es.drop off).take len).length = len := by simp; omega
            have hsub := RowC_sub q7 off len
            have hofs : (off + len) * b.k ≤ b.es.length * b.k := Nat.mul_le_mul_right _ hle
            have fin : ∀ m : List AV, m.length = len → (∀ (i : Nat) (y : AV), m[i]? = some y → ∃ x, ((b.es.drop off).take len)[i]? = some x ∧ (x.okv = true → y.okv = true) ∧ ∀ u, R w (InS S0 h μ) x (muOf b μ) u → R w S y noMu u) → R w S (.sl true b.k m) noMu v := by
              intro m hml hme
              simp only [R]
              rcases hx with ⟨cap, rfl, hcap, hfit⟩ | ⟨h0, ad, rfl⟩
              · refine .inr ⟨trivial, ⟨L.g, L.o + off * L.k, none⟩, cap, by rw [hml], by omega, RowAt_of fun i y hy => ?_⟩
                obtain ⟨x, hx1, hx2, hx3⟩ := hme i y hy
                obtain ⟨ho, u, r1, r2, r3⟩ := RowC_get hsub i x hx1
                refine ⟨⟨(Array.getElem?_eq_some_iff.1 q4).1, hnS⟩, hx2 ho, u, hx3 u r1, r2, fun j c' hc' => ?_⟩
                rw [add_none, cell_at q4, q2, Nat.zero_add, ← Nat.add_assoc]
                exact r3 j c' hc'
              · subst h0
                have : m = [] := List.eq_nil_of_length_eq_zero hml
                subst this
                exact .inr ⟨trivial, ad, 0, rfl, Nat.le_refl _, by simp [RowAt]⟩
            split at hv
            · rename_i hf
              simp only [Option.some.injEq] at hv
              subst hv
              refine fin _ hlen fun i y hy => ⟨y, hy, fun h => h, fun u hu => ?_⟩
              rw [muOf, if_pos hf] at hu
              exact R_mono hk y (fun _ _ h => h) hu
            · rename_i hf
              cases hl : mapO (view h n) ((b.es.drop off).take len) with
              | none => simp [hl] at hv
              | some m =>
                simp only [hl, Option.map_some, Option.some.injEq] at hv
                subst hv
                obtain ⟨h1, h2⟩ := mapO_get hl
                refine fin _ (by rw [h1, hlen]) fun i y hy => ?_
                obtain ⟨x, hx1, hx2⟩ := h2 i y hy
                refine ⟨x, hx1, fun ho => view_okv ho hx2, fun u hu => view_ok hS n x y (muOf b μ) u muOf_le hx2 hu fun id' hid' => hr id' ?_⟩
                rw [if_neg hf]
                refine List.mem_cons_of_mem _ (List.mem_flatMap.2 ⟨x, ?_, hid'⟩)
                exact List.mem_of_mem_drop (List.mem_of_mem_take (List.mem_of_getElem? hx1))
          · cases hs
    case ptr id idx off =>
      cases hb : blk h id with
      | none => simp [hb] at hv
      | some b =>
        simp only [hb] at hv
        simp only [reach, hb] at hr
        cases hs : nth b.es idx with
        | none => simp [hs] at hv
        | some z =>
          simp only [hs] at hv
          rw [nth_eq] at hs
          simp only [R] at hx
          obtain ⟨L', hL', rfl⟩ := hx
          obtain ⟨hst, hbn, L, c, e, q1, q2, q3, q4, q5, q6, q7, q8⟩ := blk_ok hh hb
          obtain rfl : L = L' := by have := hm _ _ hL'; rw [q1] at this; exact Option.some.inj this
          have hnS : ¬ S L.g := hr id (by split <;> simp) L q1
          obtain ⟨ho, u, r1, r2, r3⟩ := RowC_get q7 idx z hs
          have fin : ∀ y' : AV, y'.okv = true → R w S y' noMu u → R w S (.pim y' off) noMu (.pointer (some ⟨L.g, L.o + idx * L.k + off, none⟩)) := by
            intro y' hy' hru
            simp only [R]
            refine ⟨⟨L.g, L.o + idx * L.k, none⟩, by rw [add_none], ⟨(Array.getElem?_eq_some_iff.1 q4).1, hnS⟩, hy', u, hru, fun j d hd => ?_⟩
            rw [add_none, cell_at q4, q2]
            exact r3 j d hd
          split at hv
          · rename_i hf
            simp only [Option.some.injEq] at hv
            subst hv
            rw [muOf, if_pos hf] at r1
            exact fin z ho (R_mono hk z (fun _ _ h => h) r1)
          · rename_i hf
            cases hl : view h n z with
            | none => simp [hl] at hv
            | some y' =>
              simp only [hl, Option.map_some, Option.some.injEq] at hv
              subst hv
              refine fin y' (view_okv ho hl) (view_ok hS n z y' (muOf b μ) u muOf_le hl r1 fun id' hid' => hr id' ?_)
              rw [if_neg hf]
              exact List.mem_cons_of_mem _ (List.mem_flatMap.2 ⟨z, List.mem_of_getElem? hs, hid'⟩)
end
end Go.VE
end
section
set_option linter.unusedVariables false
set_option linter.unusedSimpArgs false
set_option linter.unusedSectionVars false
namespace Go.VE
open Go.RowKit

def gOf (μ : Mu) (id : Nat) : Nat := match μ id with
  | some L => L.g
  | none => 0

theorem nodupB_ok : ∀ {l : List Nat}, nodupB l = true → l.Nodup
  | [], _ => List.nodup_nil
  | x :: l, h => by
    simp only [nodupB, Bool.and_eq_true, Bool.not_eq_true', List.contains_eq_mem, decide_eq_false_iff_not] at h
    exact List.nodup_cons.2 ⟨h.1, nodupB_ok h.2⟩
theorem apartB_ok {a b : List Nat} (h : apartB a b = true) : ∀ x ∈ a, x ∉ b := by
  simp only [apartB, List.all_eq_true, Bool.not_eq_true', List.contains_eq_mem, decide_eq_false_iff_not] at h
  exact h

section
variable {S0 : Nat → Prop} {B : Nat} {h : List Blk} {μ : Mu} {w : World} (hh : HeapOk S0 B h μ w)

include hh in
theorem closeC_ok {S : Nat → Prop} (hS : ∀ g, S g → InS S0 h μ g) {x y : AV} {v : Value} (hc : closeC h x = some y) (hx : R w (InS S0 h μ) x μ v) (hu : ∀ id ∈ underC h x, ∀ L, μ id = some L → ¬ S L.g) :
    RRc w S y ((topC h x).map (gOf μ)) v := by
  have hk : Kept w (InS S0 h μ) w S := ⟨Nat.le_refl _, fun _ _ _ => rfl, fun g _ h => hS g h⟩
  have plain : (∀ id k off len, x ≠ .rs id k off len) → RRc w S y ((topC h x).map (gOf μ)) v := by
    intro hne
    have e1 : closeC h x = view h depth x := by
      cases x <;> first | rfl | exact absurd rfl (hne _ _ _ _)
    have e2 : topC h x = [] := by
      cases x <;> first | rfl | exact absurd rfl (hne _ _ _ _)
    have e3 : underC h x = reach h depth x := by
      cases x <;> first | rfl | exact absurd rfl (hne _ _ _ _)
    rw [e1] at hc
    rw [e3] at hu
    have hr := view_ok hh hS depth x y μ v (fun _ _ h => h) hc hx hu
    rw [e2]
    cases y <;> first | (exact ⟨rfl, hr⟩) | (simp [R] at hr)
  cases x
  case rs id k off len =>
    simp only [closeC] at hc
    cases hb : blk h id with
    | none => simp [hb] at hc
    | some b =>
      simp only [hb] at hc
      simp only [underC, hb] at hu
      cases hs : seg b.es off len with
      | none => simp [hs] at hc
      | some l =>
        simp only [hs] at hc
        cases hl' : (if b.flat then some l else mapO (view h depth) l) with
        | none => simp [hl'] at hc
        | some l' =>
          simp only [hl'] at hc
          unfold seg at hs
          split at hs
          · rename_i hle
            cases hs
            simp only [R] at hx
            obtain ⟨L', hL', hLk', hx⟩ := hx
            obtain ⟨hst, hbn, L, c, e, q1, q2, q3, q4, q5, q6, q7, q8⟩ := blk_ok hh hb
            obtain rfl : L = L' := by rw [q1] at hL'; exact Option.some.inj hL'
            have hlen : ((b.es.drop off).take len).length = len := by simp; omega
            have hsub := RowC_sub q7 off len
            have hofs : (off + len) * b.k ≤ b.es.length * b.k := Nat.mul_le_mul_right _ hle
            rw [Nat.add_mul] at hofs
            have hlen' : l'.length = len := by
              split at hl'
              · cases hl'; exact hlen
              · rw [(mapO_get hl').1, hlen]
            -- the elements, for whoever keeps off S
            have elems : (b.flat = false → ∀ id' ∈ b.es.flatMap (reach h depth), ∀ L, μ id' = some L → ¬ S L.g) → RowC w S noMu c b.k l' (L.o + off * L.k) := by
              intro hre
              rw [q2]
              refine RowC_of fun i y hy => ?_
              split at hl'
              · rename_i hf
                cases hl'
                obtain ⟨ho, u, r1, r2, r3⟩ := RowC_get hsub i y hy
                rw [muOf, if_pos hf] at r1
                exact ⟨ho, u, R_mono hk y (fun _ _ h => h) r1, r2, r3⟩
              · rename_i hf
                obtain ⟨z, hz, hvz⟩ := (mapO_get hl').2 i y hy
                obtain ⟨ho, u, r1, r2, r3⟩ := RowC_get hsub i z hz
                exact ⟨view_okv ho hvz, u, view_ok hh hS depth z y (muOf b μ) u muOf_le hvz r1 fun id' hid' => hre (by simpa using hf) id' (List.mem_flatMap.2 ⟨z, List.mem_of_mem_drop (List.mem_of_mem_take (List.mem_of_getElem? hz)), hid'⟩), r2, r3⟩
            have hvs : (∃ cap, v = .slice (some ⟨L.g, L.o + off * L.k, none⟩) l'.length cap ∧ l'.length ≤ cap ∧ off * L.k + cap * L.k ≤ L.sz) ∨ (l' = [] ∧ ∃ ad, v = .slice (some ad) 0 0) := by
              rcases hx with ⟨cap, hv, h1, h2⟩ | ⟨h0, ad, hv⟩
              · exact .inl ⟨cap, by rw [hlen']; exact hv, by rw [hlen']; exact h1, h2⟩
              · exact .inr ⟨List.eq_nil_of_length_eq_zero (by rw [hlen', h0]), ad, hv⟩
            by_cases h2 : b.st = 2
            · rw [if_pos h2] at hc
              cases hc
              have e2 : (topC h (.rs id k off len)).map (gOf μ) = [L.g] := by simp [topC, hb, h2, gOf, q1]
              rw [e2]
              refine ⟨L.g, rfl, L.o + off * L.k, c, e, q4, elems fun hf id' hid' => hu id' ?_, by rw [hlen', q5, q2]; omega, ?_⟩
              · rw [if_neg (by simp [hf]), if_pos h2]; exact hid'
              · rcases hvs with ⟨cap, h1, h2, h3⟩ | h3
                · exact .inl ⟨cap, h1, h2, by rw [q5, ← q2]; omega⟩
                · exact .inr h3
            · rw [if_neg h2] at hc
              cases hc
              have e2 : topC h (.rs id k off len) = [] := by simp [topC, hb, h2]
              rw [e2]
              refine ⟨rfl, ?_⟩
              simp only [R]
              have hnS : ¬ S L.g := hu id (by rw [if_neg h2, if_neg h2]; split <;> simp) L q1
              have hrow := elems fun hf id' hid' => hu id' (by rw [if_neg (by simp [hf]), if_neg h2]; exact List.mem_cons_of_mem _ hid')
              rcases hvs with ⟨cap, h1, h2, h3⟩ | ⟨h3, ad, hv⟩
              · refine .inr ⟨trivial, ⟨L.g, L.o + off * L.k, none⟩, cap, h1, h2, RowAt_of fun i y hy => ?_⟩
                obtain ⟨ho, u, r1, r2, r3⟩ := RowC_get hrow i y hy
                refine ⟨⟨(Array.getElem?_eq_some_iff.1 q4).1, hnS⟩, ho, u, r1, r2, fun j d hd => ?_⟩
                rw [add_none, cell_at q4, Nat.zero_add, ← Nat.add_assoc]
                exact r3 j d hd
              · subst h3
                exact .inr ⟨trivial, ad, 0, hv, Nat.le_refl _, by simp [RowAt]⟩
          · cases hs
  all_goals exact plain (by intros; simp)

include hh in
theorem closeV_ok {S : Nat → Prop} (hS : ∀ g, S g → InS S0 h μ g) {x y : AV} {v : Value} (hc : closeV h x = some y) (hx : R w (InS S0 h μ) x μ v) (hu : ∀ id ∈ underV h x, ∀ L, μ id = some L → ¬ S L.g) :
    RRv w S y ((topV h x).map (gOf μ)) v := by
  by_cases ha : ∃ cs, x = .agg cs
  · obtain ⟨cs, rfl⟩ := ha
    simp only [closeV] at hc
    cases hm : mapO (closeC h) cs with
    | none => simp [hm] at hc
    | some m =>
      simp only [hm, Option.map_some, Option.some.injEq] at hc
      subst hc
      simp only [R] at hx
      obtain ⟨l, rfl, hx⟩ := hx
      refine ⟨l, rfl, ?_⟩
      simp only [topV]
      simp only [underV] at hu
      induction cs generalizing m l with
      | nil =>
        simp only [mapO] at hm
        cases hm
        simp only [Rs] at hx
        exact ⟨rfl, hx⟩
      | cons z cs ih =>
        simp only [mapO] at hm
        split at hm
        · rename_i y hy
          split at hm
          · rename_i s hs
            cases hm
            simp only [Rs] at hx
            obtain ⟨u, l', rfl, h2, h3⟩ := hx
            refine ⟨(topC h z).map (gOf μ), (cs.flatMap (topC h)).map (gOf μ), u, l', by simp, rfl, closeC_ok hh hS hy h2 fun id hid => hu id (by simp only [List.flatMap_cons, List.mem_append]; exact .inl hid), ?_⟩
            exact ih (fun id hid => hu id (by simp only [List.flatMap_cons, List.mem_append]; exact .inr hid)) s hs l' h3
          · cases hm
        · cases hm
  · have e1 : closeV h x = closeC h x := by cases x <;> first | rfl | exact absurd ⟨_, rfl⟩ ha
    have e2 : topV h x = topC h x := by cases x <;> first | rfl | exact absurd ⟨_, rfl⟩ ha
    have e3 : underV h x = underC h x := by cases x <;> first | rfl | exact absurd ⟨_, rfl⟩ ha
    rw [e1] at hc
    rw [e3] at hu
    rw [e2]
    have hr := closeC_ok hh hS hc hx hu
    cases y <;> first | exact hr | skip
    -- an aggregate comes of an aggregate alone
    rename_i cs
    exfalso
    cases x <;> simp only [closeC, view, depth, reduceCtorEq, Option.some.injEq] at hc
    all_goals first
      | (exact ha ⟨_, rfl⟩)
      | skip
    · split at hc
      · split at hc
        · split at hc
          · split at hc <;> cases hc
          · cases hc
        · cases hc
      · cases hc
    · split at hc
      · split at hc
        · split at hc
          · cases hc
          · rename_i z _ _
            cases hq : view h 11 z with
            | none => simp [hq] at hc
            | some q => simp [hq] at hc
        · cases hc
      · cases hc
    · rename_i f cap
      cases hq : mapO (view h 11) cap with
      | none => simp [hq] at hc
      | some q => simp [hq] at hc

theorem topC_own {id : Nat} {x : AV} (hi : id ∈ topC h x) : ∃ b, blk h id = some b ∧ b.st = 2 := by
  cases x <;> simp only [topC, List.not_mem_nil] at hi
  split at hi
  · rename_i b hb
    split at hi
    · simp only [List.mem_singleton] at hi; subst hi; exact ⟨b, hb, by assumption⟩
    · simp at hi
  · simp at hi
theorem topV_own {id : Nat} {x : AV} (hi : id ∈ topV h x) : ∃ b, blk h id = some b ∧ b.st = 2 := by
  by_cases ha : ∃ cs, x = .agg cs
  · obtain ⟨cs, rfl⟩ := ha
    simp only [topV, List.mem_flatMap] at hi
    obtain ⟨y, _, hy⟩ := hi
    exact topC_own hy
  · have e2 : topV h x = topC h x := by cases x <;> first | rfl | exact absurd ⟨_, rfl⟩ ha
    rw [e2] at hi
    exact topC_own hi

theorem reach_own : ∀ {n id : Nat} {x : AV}, id ∈ reach h n x → ∃ b, blk h id = some b
  | 0, id, x, hi => by simp [reach] at hi
  | n + 1, id, x, hi => by
    have lists : ∀ {l : List AV}, id ∈ l.flatMap (reach h n) → ∃ b, blk h id = some b := fun hl => by
      obtain ⟨y, _, hy⟩ := List.mem_flatMap.1 hl
      exact reach_own hy
    cases x <;> simp only [reach, List.not_mem_nil] at hi
    · split at hi
      · rename_i b hb
        split at hi
        · simp only [List.mem_singleton] at hi; subst hi; exact ⟨b, hb⟩
        · rcases List.mem_cons.1 hi with rfl | hi
          · exact ⟨b, hb⟩
          · exact lists hi
      · simp at hi
    · split at hi
      · rename_i b hb
        split at hi
        · simp only [List.mem_singleton] at hi; subst hi; exact ⟨b, hb⟩
        · rcases List.mem_cons.1 hi with rfl | hi
          · exact ⟨b, hb⟩
          · exact lists hi
      · simp at hi
    · exact lists hi
    · exact lists hi
theorem underC_own {id : Nat} {x : AV} (hi : id ∈ underC h x) : ∃ b, blk h id = some b := by
  have lists : ∀ {l : List AV}, id ∈ l.flatMap (reach h depth) → ∃ b, blk h id = some b := fun hl => by
    obtain ⟨y, _, hy⟩ := List.mem_flatMap.1 hl
    exact reach_own hy
  cases x
  case rs id' k off len =>
    simp only [underC] at hi
    split at hi
    · rename_i b hb
      split at hi
      · split at hi
        · simp at hi
        · simp only [List.mem_singleton] at hi; subst hi; exact ⟨b, hb⟩
      · split at hi
        · exact lists hi
        · rcases List.mem_cons.1 hi with rfl | hi
          · exact ⟨b, hb⟩
          · exact lists hi
    · simp at hi
  all_goals exact reach_own hi
theorem underV_own {id : Nat} {x : AV} (hi : id ∈ underV h x) : ∃ b, blk h id = some b := by
  by_cases ha : ∃ cs, x = .agg cs
  · obtain ⟨cs, rfl⟩ := ha
    simp only [underV, List.mem_flatMap] at hi
    obtain ⟨y, _, hy⟩ := hi
    exact underC_own hy
  · have e2 : underV h x = underC h x := by cases x <;> first | rfl | exact absurd ⟨_, rfl⟩ ha
    rw [e2] at hi
    exact underC_own hi

include hh in
/-- The results of a call, all together. -/
theorem closeAll_ok {xs ys : List AV} {vs : List Value} (hc : closeAll h xs = some ys) (hx : Rs w (InS S0 h μ) xs μ vs) :
    ∃ gs : List Nat, gs.Nodup ∧ (∀ g ∈ gs, B ≤ g) ∧ RRvs w (fun g => S0 g ∨ g ∈ gs) ys gs vs := by
  unfold closeAll at hc
  split at hc
  · rename_i hcond
    simp only [Bool.and_eq_true] at hcond
    obtain ⟨c1, c2⟩ := hcond
    have hnd := nodupB_ok c1
    have hap := apartB_ok c2
    have own : ∀ id ∈ xs.flatMap (topV h), ∃ b L, nth h id = some b ∧ b.st = 2 ∧ μ id = some L ∧ gOf μ id = L.g ∧ B ≤ L.g := by
      intro id hid
      obtain ⟨x, _, hx⟩ := List.mem_flatMap.1 hid
      obtain ⟨b, hb, hst⟩ := topV_own hx
      obtain ⟨_, hbn, L, c, e, q1, q2, q3, _⟩ := blk_ok hh hb
      exact ⟨b, L, hbn, hst, q1, by simp [gOf, q1], q3⟩
    have hgs : ((xs.flatMap (topV h)).map (gOf μ)).Nodup := by
      refine List.pairwise_map.2 (hnd.imp_of_mem fun {i j} hi hj hne hij => hne ?_)
      obtain ⟨b, L, h1, h2, h3, h4, _⟩ := own i hi
      obtain ⟨b', L', h1', h2', h3', h4', _⟩ := own j hj
      exact hh.inj i j b b' L L' h1 (.inl h2) h1' (.inl h2') h3 h3' (by rw [← h4, ← h4', hij])
    have hB : ∀ g ∈ (xs.flatMap (topV h)).map (gOf μ), B ≤ g := by
      intro g hg
      obtain ⟨id, hid, rfl⟩ := List.mem_map.1 hg
      obtain ⟨b, L, _, _, _, h4, h5⟩ := own id hid
      rw [h4]; exact h5
    have hS : ∀ g, (S0 g ∨ g ∈ (xs.flatMap (topV h)).map (gOf μ)) → InS S0 h μ g := by
      rintro g (h0 | hg)
      · exact .inl h0
      · obtain ⟨id, hid, rfl⟩ := List.mem_map.1 hg
        obtain ⟨b, L, h1, h2, h3, h4, _⟩ := own id hid
        rw [h4]
        exact .inr ⟨id, b, L, h1, .inl h2, h3, rfl⟩
    have hu : ∀ id ∈ xs.flatMap (underV h), ∀ L, μ id = some L → ¬ (S0 L.g ∨ L.g ∈ (xs.flatMap (topV h)).map (gOf μ)) := by
      intro id hid L hL hs
      have hst : ∀ b, nth h id = some b → (b.st = 1 ∨ b.st = 2) → False := by
        intro b hb hst
        obtain ⟨L', c, e, q1, q2, q3, q4, q5, q6, q7, q8⟩ := (hh.blk id b hb (by omega)).row
        rw [hL] at q1; cases q1
        rcases hs with h0 | hg
        · have := hh.prot _ h0; omega
        · obtain ⟨id', hid', he⟩ := List.mem_map.1 hg
          obtain ⟨b', L', h1, h2, h3, h4, _⟩ := own id' hid'
          have hgg : L'.g = L.g := by rw [← h4]; exact he
          rcases hst with h1' | h2'
          · exact q8 h1' (hgg ▸ .inr ⟨id', b', L', h1, .inl h2, h3, rfl⟩)
          · have := hh.inj id' id b' b L' L h1 (.inl h2) hb (.inl h2') h3 hL hgg
            subst this
            exact hap _ hid' hid
      obtain ⟨x, _, hx⟩ := List.mem_flatMap.1 hid
      obtain ⟨b, hb⟩ := underV_own hx
      unfold blk at hb
      split at hb
      · rename_i b' hn
        split at hb
        · rename_i h12; exact hst b' hn h12
        · cases hb
      · cases hb
    refine ⟨_, hgs, hB, ?_⟩
    generalize hSd : (fun g => S0 g ∨ g ∈ (xs.flatMap (topV h)).map (gOf μ)) = S at hS hu ⊢
    have hu' : ∀ id ∈ xs.flatMap (underV h), ∀ L, μ id = some L → ¬ S L.g := by rw [← hSd]; exact hu
    have hS' : ∀ g, S g → InS S0 h μ g := by rw [← hSd]; exact hS
    clear hSd hS hu hgs hB own hap hnd c1 c2
    induction xs generalizing ys vs with
    | nil =>
      simp only [mapO] at hc
      cases hc
      simp only [Rs] at hx
      exact ⟨rfl, hx⟩
    | cons z cs ih =>
      simp only [mapO] at hc
      split at hc
      · rename_i y hy
        split at hc
        · rename_i s hs
          cases hc
          simp only [Rs] at hx
          obtain ⟨u, l', rfl, h2, h3⟩ := hx
          refine ⟨(topV h z).map (gOf μ), (cs.flatMap (topV h)).map (gOf μ), u, l', by simp, rfl, closeV_ok hh hS' hy h2 fun id hid => hu' id (by simp only [List.flatMap_cons, List.mem_append]; exact .inl hid), ?_⟩
          exact ih h3 hs (fun id hid => hu' id (by simp only [List.flatMap_cons, List.mem_append]; exact .inr hid))
        · cases hc
      · cases hc
  · cases hc
end
end Go.VE
end
section
set_option linter.unusedVariables false
set_option linter.unusedSimpArgs false
set_option linter.unusedSectionVars false
namespace Go.VE
open Go.RowKit

theorem bareC_any {w w' : World} {S S' : Nat → Prop} {μ μ' : Mu} {x : AV} {v : Value} (hb : bareC x = true) (h : R w S x μ v) : R w' S' x μ' v := by
  cases x <;> simp only [bareC, Bool.false_eq_true] at hb <;> simpa [R] using h
theorem bareV_any {w w' : World} {S S' : Nat → Prop} {μ μ' : Mu} {x : AV} {v : Value} (hb : bareV x = true) (h : R w S x μ v) : R w' S' x μ' v := by
  by_cases ha : ∃ cs, x = .agg cs
  · obtain ⟨cs, rfl⟩ := ha
    simp only [bareV, List.all_eq_true] at hb
    simp only [R] at h ⊢
    obtain ⟨l, rfl, h⟩ := h
    exact ⟨l, rfl, Rs_of (Rs_len h) fun i y u hy hu => by
      obtain ⟨u', hu', hr⟩ := Rs_get h i y hy
      rw [hu] at hu'; cases hu'
      exact bareC_any (hb y (List.mem_of_getElem? hy)) hr⟩
  · exact bareC_any (by cases x <;> first | exact hb | exact absurd ⟨_, rfl⟩ ha) h
theorem solidC_any {w : World} {S S' : Nat → Prop} {x : AV} {gs : List Nat} {v : Value} (hb : solidC x = true) (h : RRc w S x gs v) : RRc w S' x gs v := by
  cases x
  case ow T k l =>
    simp only [solidC, List.all_eq_true] at hb
    obtain ⟨g, h1, o, c, e, h2, h3, h4⟩ := h
    exact ⟨g, h1, o, c, e, h2, RowC_of fun i y hy => by
      obtain ⟨ho, u, r1, r2, r3⟩ := RowC_get h3 i y hy
      exact ⟨ho, u, bareV_any (hb y (List.mem_of_getElem? hy)) r1, r2, r3⟩, h4⟩
  case sl b k l =>
    cases b
    · obtain ⟨h1, h2⟩ := h
      refine ⟨h1, ?_⟩
      simp only [R] at h2 ⊢
      rcases h2 with h2 | ⟨h2, _⟩
      · exact .inl h2
      · cases h2
    · simp [solidC, bareC] at hb
  all_goals first
    | (simp [solidC, bareC] at hb; done)
    | exact ⟨h.1, bareC_any hb h.2⟩
theorem solidCs_any {w : World} {S S' : Nat → Prop} : ∀ {xs : List AV} {gs : List Nat} {l : List Value}, xs.all solidC = true → RRcs w S xs gs l → RRcs w S' xs gs l
  | [], _, _, _, h => h
  | x :: r, gs, l, hb, h => by
    simp only [List.all_cons, Bool.and_eq_true] at hb
    obtain ⟨g1, g2, v, l', h1, h2, h3, h4⟩ := h
    exact ⟨g1, g2, v, l', h1, h2, solidC_any hb.1 h3, solidCs_any hb.2 h4⟩
theorem solidV_any {w : World} {S S' : Nat → Prop} {x : AV} {gs : List Nat} {v : Value} (hb : solidV x = true) (h : RRv w S x gs v) : RRv w S' x gs v := by
  by_cases ha : ∃ cs, x = .agg cs
  · obtain ⟨cs, rfl⟩ := ha
    obtain ⟨l, h1, h2⟩ := h
    exact ⟨l, h1, solidCs_any (by simpa [solidV] using hb) h2⟩
  · have e : ∀ S, RRv w S x gs v = RRc w S x gs v := fun S => by cases x <;> first | rfl | exact absurd ⟨_, rfl⟩ ha
    rw [e] at h ⊢
    exact solidC_any (by cases x <;> first | exact hb | exact absurd ⟨_, rfl⟩ ha) h
theorem solidVs_any {w : World} {S S' : Nat → Prop} : ∀ {xs : List AV} {gs : List Nat} {l : List Value}, xs.all solidV = true → RRvs w S xs gs l → RRvs w S' xs gs l
  | [], _, _, _, h => h
  | x :: r, gs, l, hb, h => by
    simp only [List.all_cons, Bool.and_eq_true] at hb
    obtain ⟨g1, g2, v, l', h1, h2, h3, h4⟩ := h
    exact ⟨g1, g2, v, l', h1, h2, solidV_any hb.1 h3, solidVs_any hb.2 h4⟩
theorem solid_any {w : World} {S S' : Nat → Prop} {x : AV} {gs : List Nat} {v : Value} (hb : solid x = true) (h : RR w S x gs v) : RR w S' x gs v := by
  by_cases ha : ∃ cs, x = .tup cs
  · obtain ⟨cs, rfl⟩ := ha
    obtain ⟨l, h1, h2⟩ := h
    exact ⟨l, h1, solidVs_any (by simpa [solid] using hb) h2⟩
  · have e : ∀ S, RR w S x gs v = RRv w S x gs v := fun S => by cases x <;> first | rfl | exact absurd ⟨_, rfl⟩ ha
    rw [e] at h ⊢
    exact solidV_any (by cases x <;> first | exact hb | exact absurd ⟨_, rfl⟩ ha) h

/-! ### the caller takes in what came back -/
/-- The rows while they are being taken in: F is all that may be written in the end. -/
structure Ad (S0 : Nat → Prop) (B : Nat) (μ : Mu) (w' : World) (F : Nat → Prop) (h1 : List Blk) (μ1 : Mu) : Prop where
  blk : ∀ id b, nth h1 id = some b → b.st ≠ 0 → (b.st = 1 ∨ b.st = 2 ∨ b.st = 3) ∧ ∃ L c e, μ1 id = some L ∧ L.k = b.k ∧ B ≤ L.g ∧ w'.heap[L.g]? = some (.cells c e (0, 0)) ∧ c.size = L.o + L.sz ∧ b.es.length * b.k ≤ L.sz ∧
    (b.st ≠ 3 → RowC w' F (muOf b μ1) c b.k b.es L.o) ∧ (b.st = 1 → ¬ F L.g)
  dom : ∀ id, h1.length ≤ id → μ1 id = none
  prot : ∀ g, S0 g → g < B
  res : ∀ id b, nth h1 id = some b → b.st = 0 → b.k = 0 → μ1 id = none
  inj : ∀ id id' b b' L L', nth h1 id = some b → (b.st = 2 ∨ b.st = 3) → nth h1 id' = some b' → (b'.st = 2 ∨ b'.st = 3) → μ1 id = some L → μ1 id' = some L' → L.g = L'.g → id = id'
  mu : ∀ id L, μ id = some L → μ1 id = some L
  sub : ∀ g, InS S0 h1 μ1 g → F g

section
variable {S0 : Nat → Prop} {B : Nat} {μ : Mu} {w w' : World} {F : Nat → Prop}

/-- What may be written now. -/
theorem Ad.kept {h1 : List Blk} {μ1 : Mu} (ad : Ad S0 B μ w' F h1 μ1) : Kept w' F w' (InS S0 h1 μ1) := ⟨Nat.le_refl _, fun _ _ _ => rfl, fun g _ h => ad.sub g h⟩

theorem Ad.heap {h1 : List Blk} {μ1 : Mu} (ad : Ad S0 B μ w' F h1 μ1) : HeapOk S0 B h1 μ1 w' :=
  ⟨fun id b h2 h3 => by
    obtain ⟨hst, L, c, e, q1, q2, q3, q4, q5, q6, q7, q8⟩ := ad.blk id b h2 h3
    exact ⟨hst, L, c, e, q1, q2, q3, q4, q5, q6, fun hs => RowC_mono ad.kept (fun _ _ h => h) (q7 hs), fun hs hI => q8 hs (ad.sub _ hI)⟩, ad.dom, ad.prot, ad.res, ad.inj⟩

theorem RowC_muOf {w : World} {S : Nat → Prop} {b : Blk} {μ μ' : Mu} (hm : ∀ id L, μ id = some L → μ' id = some L) {c : Array Value} {k i0 : Nat} {es : List AV} (h : RowC w S (muOf b μ) c k es i0) : RowC w S (muOf b μ') c k es i0 := by
  refine RowC_le ?_ h
  unfold muOf; split
  · exact fun _ _ h => h
  · exact hm

theorem adopt {h1 : List Blk} {μ1 : Mu} (ad : Ad S0 B μ w' F h1 μ1) {T k : Nat} {l : List AV} {g : Nat} {v : Value} (ho : OwAt w' F k l g v) (hg : B ≤ g) (hn : ¬ InS S0 h1 μ1 g) (hF : F g) :
    ∃ μ2 : Mu, Ad S0 B μ w' F (h1 ++ [⟨2, true, T, k, l⟩]) μ2 ∧ (∀ id L, μ1 id = some L → μ2 id = some L) ∧ R w' F (.rs h1.length k 0 l.length) μ2 v ∧ (∀ g', InS S0 (h1 ++ [⟨2, true, T, k, l⟩]) μ2 g' → InS S0 h1 μ1 g' ∨ g' = g) := by
  obtain ⟨o, c, e, q1, q2, q3, q4⟩ := ho
  have hnone : μ1 h1.length = none := ad.dom _ (Nat.le_refl _)
  let L : Loc := ⟨g, o, k, c.size - o⟩
  have hmu : ∀ id L', μ1 id = some L' → upd μ1 h1.length L id = some L' := fun id L' hL => by
    rw [upd_other]; exact hL
    rintro rfl; rw [hnone] at hL; cases hL
  have hS : ∀ g', InS S0 (h1 ++ [⟨2, true, T, k, l⟩]) (upd μ1 h1.length L) g' → InS S0 h1 μ1 g' ∨ g' = g := by
    rintro g' (h0 | ⟨i, b, L', h1', h2, h3, h4⟩)
    · exact .inl (.inl h0)
    rcases nth_snoc h1' with ⟨hi, h1'⟩ | ⟨rfl, rfl⟩
    · rw [upd_other _ _ (Nat.ne_of_lt hi)] at h3
      exact .inl (.inr ⟨i, b, L', h1', h2, h3, h4⟩)
    · rw [upd_same] at h3; cases h3; exact .inr h4.symm
  refine ⟨upd μ1 h1.length L, ⟨fun i b h2 h3 => ?_, fun i hi => ?_, ad.prot, fun i b h1 h2 h3 => (by
    rcases nth_snoc h1 with ⟨hi, h1⟩ | ⟨rfl, rfl⟩
    · rw [upd_other _ _ (Nat.ne_of_lt hi)]; exact ad.res i b h1 h2 h3
    · simp at h2), fun i i' b b' L1 L1' a1 a2 a3 a4 a5 a6 a7 => ?_, fun id L' h => hmu id L' (ad.mu id L' h), fun g' hg' => ?_⟩, hmu, ?_, hS⟩
  · rcases nth_snoc h2 with ⟨hi, h2⟩ | ⟨rfl, rfl⟩
    · obtain ⟨hst, L1, c1, e1, p1, p2, p3, p4, p5, p6, p7, p8⟩ := ad.blk i b h2 h3
      exact ⟨hst, L1, c1, e1, hmu _ _ p1, p2, p3, p4, p5, p6, fun hs => RowC_muOf hmu (p7 hs), p8⟩
    · exact ⟨.inr (.inl rfl), L, c, e, upd_same _ _ _, rfl, hg, q1, by show c.size = o + (c.size - o); omega, by show l.length * k ≤ c.size - o; omega, fun _ => q2, fun h => by simp at h⟩
  · rw [upd_other]
    · exact ad.dom i (by simp at hi; omega)
    · simp at hi; omega
  · rcases nth_snoc a1 with ⟨hi, a1⟩ | ⟨rfl, rfl⟩ <;> rcases nth_snoc a3 with ⟨hi', a3⟩ | ⟨rfl, rfl⟩
    · rw [upd_other _ _ (Nat.ne_of_lt hi)] at a5
      rw [upd_other _ _ (Nat.ne_of_lt hi')] at a6
      exact ad.inj i i' b b' L1 L1' a1 a2 a3 a4 a5 a6 a7
    · rw [upd_other _ _ (Nat.ne_of_lt hi)] at a5
      rw [upd_same] at a6; cases a6
      exact absurd (.inr ⟨i, b, L1, a1, a2, a5, a7⟩) hn
    · rw [upd_other _ _ (Nat.ne_of_lt hi')] at a6
      rw [upd_same] at a5; cases a5
      exact absurd (.inr ⟨i', b', L1', a3, a4, a6, a7.symm⟩) hn
    · rfl
  · rcases hS g' hg' with h | h
    · exact ad.sub g' h
    · rw [h]; exact hF
  · simp only [R]
    refine ⟨L, upd_same _ _ _, rfl, ?_⟩
    rcases q4 with ⟨cap, h1, h2, h3⟩ | ⟨h1, ad', h2⟩
    · exact .inl ⟨cap, by simpa using h1, h2, by show 0 * k + cap * k ≤ c.size - o; omega⟩
    · exact .inr ⟨by simp [h1], ad', h2⟩

/-- What is got by taking in: the later rows, where the earlier words still hold. -/
structure Got (S0 : Nat → Prop) (B : Nat) (μ : Mu) (w' : World) (F : Nat → Prop) (h1 : List Blk) (μ1 : Mu) (gs : List Nat) (h2 : List Blk) (μ2 : Mu) : Prop where
  ad : Ad S0 B μ w' F h2 μ2
  le : ∀ id L, μ1 id = some L → μ2 id = some L
  ins : ∀ g, InS S0 h2 μ2 g → InS S0 h1 μ1 g ∨ g ∈ gs

theorem thawC_ok {h1 : List Blk} {μ1 : Mu} (ad : Ad S0 B μ w' F h1 μ1) {x : AV} {gs : List Nat} {v : Value} (hx : RRc w' F x gs v) (hg : ∀ g ∈ gs, B ≤ g ∧ ¬ InS S0 h1 μ1 g ∧ F g) :
    ∃ μ2, Got S0 B μ w' F h1 μ1 gs (thawC h1 x).2 μ2 ∧ R w' F (thawC h1 x).1 μ2 v := by
  by_cases ho : ∃ T k l, x = .ow T k l
  · obtain ⟨T, k, l, rfl⟩ := ho
    obtain ⟨g, rfl, ho⟩ := hx
    obtain ⟨hB, hn, hF⟩ := hg g (by simp)
    obtain ⟨μ2, r1, r2, r3, r4⟩ := adopt ad (T := T) ho hB hn hF
    exact ⟨μ2, ⟨r1, r2, fun g' hg' => by simpa using r4 g' hg'⟩, r3⟩
  · have e1 : thawC h1 x = (x, h1) := by cases x <;> first | rfl | exact absurd ⟨_, _, _, rfl⟩ ho
    have e2 : RRc w' F x gs v = (gs = [] ∧ R w' F x noMu v) := by cases x <;> first | rfl | exact absurd ⟨_, _, _, rfl⟩ ho
    rw [e2] at hx
    rw [e1]
    exact ⟨μ1, ⟨ad, fun _ _ h => h, fun g h => .inl h⟩, R_noMu hx.2⟩

theorem thawCs_ok : ∀ {xs : List AV} {h1 : List Blk} {μ1 : Mu} (_ : Ad S0 B μ w' F h1 μ1) {gs : List Nat} {l : List Value}, RRcs w' F xs gs l → gs.Nodup → (∀ g ∈ gs, B ≤ g ∧ ¬ InS S0 h1 μ1 g ∧ F g) →
    ∃ μ2, Got S0 B μ w' F h1 μ1 gs (thawCs h1 xs).2 μ2 ∧ Rs w' F (thawCs h1 xs).1 μ2 l
  | [], h1, μ1, ad, gs, l, hx, _, _ => ⟨μ1, ⟨ad, fun _ _ h => h, fun g h => .inl h⟩, by simpa [thawCs, Rs] using hx.2⟩
  | x :: r, h1, μ1, ad, gs, l, hx, hnd, hg => by
    obtain ⟨g1, g2, v, l', rfl, rfl, h3, h4⟩ := hx
    rw [List.nodup_append] at hnd
    obtain ⟨n1, n2, n3⟩ := hnd
    obtain ⟨μ2, got1, r1⟩ := thawC_ok ad h3 fun g hgm => hg g (List.mem_append.2 (.inl hgm))
    obtain ⟨μ3, got2, r2⟩ := thawCs_ok got1.ad h4 n2 fun g hgm => by
      obtain ⟨a1, a2, a3⟩ := hg g (List.mem_append.2 (.inr hgm))
      refine ⟨a1, fun hI => ?_, a3⟩
      rcases got1.ins g hI with h | h
      · exact a2 h
      · exact n3 g h g hgm rfl
    refine ⟨μ3, ⟨got2.ad, fun id L h => got2.le id L (got1.le id L h), fun g h => ?_⟩, ?_⟩
    · rcases got2.ins g h with h | h
      · rcases got1.ins g h with h | h
        · exact .inl h
        · exact .inr (List.mem_append.2 (.inl h))
      · exact .inr (List.mem_append.2 (.inr h))
    · simp only [thawCs, Rs]
      exact ⟨v, l', rfl, R_le got2.le r1, r2⟩

theorem thawV_ok {h1 : List Blk} {μ1 : Mu} (ad : Ad S0 B μ w' F h1 μ1) {x : AV} {gs : List Nat} {v : Value} (hx : RRv w' F x gs v) (hnd : gs.Nodup) (hg : ∀ g ∈ gs, B ≤ g ∧ ¬ InS S0 h1 μ1 g ∧ F g) :
    ∃ μ2, Got S0 B μ w' F h1 μ1 gs (thawV h1 x).2 μ2 ∧ R w' F (thawV h1 x).1 μ2 v := by
  by_cases ha : ∃ cs, x = .agg cs
  · obtain ⟨cs, rfl⟩ := ha
    obtain ⟨l, rfl, hx⟩ := hx
    obtain ⟨μ2, got, r⟩ := thawCs_ok ad hx hnd hg
    exact ⟨μ2, got, by simp only [thawV, R]; exact ⟨l, rfl, r⟩⟩
  · have e1 : thawV h1 x = thawC h1 x := by cases x <;> first | rfl | exact absurd ⟨_, rfl⟩ ha
    have e2 : RRv w' F x gs v = RRc w' F x gs v := by cases x <;> first | rfl | exact absurd ⟨_, rfl⟩ ha
    rw [e2] at hx
    rw [e1]
    exact thawC_ok ad hx hg

theorem thawVs_ok : ∀ {xs : List AV} {h1 : List Blk} {μ1 : Mu} (_ : Ad S0 B μ w' F h1 μ1) {gs : List Nat} {l : List Value}, RRvs w' F xs gs l → gs.Nodup → (∀ g ∈ gs, B ≤ g ∧ ¬ InS S0 h1 μ1 g ∧ F g) →
    ∃ μ2, Got S0 B μ w' F h1 μ1 gs (thawVs h1 xs).2 μ2 ∧ Rs w' F (thawVs h1 xs).1 μ2 l
  | [], h1, μ1, ad, gs, l, hx, _, _ => ⟨μ1, ⟨ad, fun _ _ h => h, fun g h => .inl h⟩, by simpa [thawVs, Rs] using hx.2⟩
  | x :: r, h1, μ1, ad, gs, l, hx, hnd, hg => by
    obtain ⟨g1, g2, v, l', rfl, rfl, h3, h4⟩ := hx
    rw [List.nodup_append] at hnd
    obtain ⟨n1, n2, n3⟩ := hnd
    obtain ⟨μ2, got1, r1⟩ := thawV_ok ad h3 n1 fun g hgm => hg g (List.mem_append.2 (.inl hgm))
    obtain ⟨μ3, got2, r2⟩ := thawVs_ok got1.ad h4 n2 fun g hgm => by
      obtain ⟨a1, a2, a3⟩ := hg g (List.mem_append.2 (.inr hgm))
      refine ⟨a1, fun hI => ?_, a3⟩
      rcases got1.ins g hI with h | h
      · exact a2 h
      · exact n3 g h g hgm rfl
    refine ⟨μ3, ⟨got2.ad, fun id L h => got2.le id L (got1.le id L h), fun g h => ?_⟩, ?_⟩
    · rcases got2.ins g h with h | h
      · rcases got1.ins g h with h | h
        · exact .inl h
        · exact .inr (List.mem_append.2 (.inl h))
      · exact .inr (List.mem_append.2 (.inr h))
    · simp only [thawVs, Rs]
      exact ⟨v, l', rfl, R_le got2.le r1, r2⟩

theorem thaw_ok {h1 : List Blk} {μ1 : Mu} (ad : Ad S0 B μ w' F h1 μ1) {x : AV} {gs : List Nat} {v : Value} (hx : RR w' F x gs v) (hnd : gs.Nodup) (hg : ∀ g ∈ gs, B ≤ g ∧ ¬ InS S0 h1 μ1 g ∧ F g) :
    ∃ μ2, Got S0 B μ w' F h1 μ1 gs (thaw h1 x).2 μ2 ∧ R w' F (thaw h1 x).1 μ2 v := by
  by_cases ha : ∃ cs, x = .tup cs
  · obtain ⟨cs, rfl⟩ := ha
    obtain ⟨l, rfl, hx⟩ := hx
    obtain ⟨μ2, got, r⟩ := thawVs_ok ad hx hnd hg
    exact ⟨μ2, got, by simp only [thaw, R]; exact ⟨l, rfl, r⟩⟩
  · have e1 : thaw h1 x = thawV h1 x := by cases x <;> first | rfl | exact absurd ⟨_, rfl⟩ ha
    have e2 : RR w' F x gs v = RRv w' F x gs v := by cases x <;> first | rfl | exact absurd ⟨_, rfl⟩ ha
    rw [e2] at hx
    rw [e1]
    exact thawV_ok ad hx hnd hg
end
end Go.VE
end
section
set_option linter.unusedVariables false
set_option linter.unusedSimpArgs false
set_option linter.unusedSectionVars false
namespace Go.VE
open Go.RowKit

section
variable {w : World} {S S' : Nat → Prop} (hS : ∀ g, S' g → S g)

include hS in
theorem RRc_le {x : AV} {gs : List Nat} {v : Value} (h : RRc w S x gs v) : RRc w S' x gs v := by
  have hk : Kept w S w S' := ⟨Nat.le_refl _, fun _ _ _ => rfl, fun g _ h => hS g h⟩
  cases x
  case ow T k l =>
    obtain ⟨g, h1, o, c, e, h2, h3, h4⟩ := h
    exact ⟨g, h1, o, c, e, h2, RowC_mono hk (fun _ _ h => h) h3, h4⟩
  all_goals exact ⟨h.1, R_mono hk _ (fun _ _ h => h) h.2⟩
include hS in
theorem RRcs_le : ∀ {xs : List AV} {gs : List Nat} {l : List Value}, RRcs w S xs gs l → RRcs w S' xs gs l
  | [], _, _, h => h
  | x :: r, gs, l, h => by
    obtain ⟨g1, g2, v, l', h1, h2, h3, h4⟩ := h
    exact ⟨g1, g2, v, l', h1, h2, RRc_le hS h3, RRcs_le h4⟩
include hS in
theorem RRv_le {x : AV} {gs : List Nat} {v : Value} (h : RRv w S x gs v) : RRv w S' x gs v := by
  by_cases ha : ∃ cs, x = .agg cs
  · obtain ⟨cs, rfl⟩ := ha
    obtain ⟨l, h1, h2⟩ := h
    exact ⟨l, h1, RRcs_le hS h2⟩
  · have e : ∀ S, RRv w S x gs v = RRc w S x gs v := fun S => by cases x <;> first | rfl | exact absurd ⟨_, rfl⟩ ha
    rw [e] at h ⊢
    exact RRc_le hS h
include hS in
theorem RRvs_le : ∀ {xs : List AV} {gs : List Nat} {l : List Value}, RRvs w S xs gs l → RRvs w S' xs gs l
  | [], _, _, h => h
  | x :: r, gs, l, h => by
    obtain ⟨g1, g2, v, l', h1, h2, h3, h4⟩ := h
    exact ⟨g1, g2, v, l', h1, h2, RRv_le hS h3, RRvs_le h4⟩
include hS in
theorem RR_le {x : AV} {gs : List Nat} {v : Value} (h : RR w S x gs v) : RR w S' x gs v := by
  by_cases ha : ∃ cs, x = .tup cs
  · obtain ⟨cs, rfl⟩ := ha
    obtain ⟨l, h1, h2⟩ := h
    exact ⟨l, h1, RRvs_le hS h2⟩
  · have e : ∀ S, RR w S x gs v = RRv w S x gs v := fun S => by cases x <;> first | rfl | exact absurd ⟨_, rfl⟩ ha
    rw [e] at h ⊢
    exact RRv_le hS h
end

theorem nth_freezeB {ids : List Nat} : ∀ {h : List Blk} {i0 i : Nat} {b : Blk}, nth (freezeB ids i0 h) i = some b → ∃ b0, nth h i = some b0 ∧ b = (if ids.contains (i0 + i) && b0.st == 2 then { b0 with st := 1 } else b0)
  | [], i0, i, b, h => by simp [freezeB, nth] at h
  | x :: r, i0, 0, b, h => by simp only [freezeB, nth, Option.some.injEq] at h; exact ⟨x, rfl, by rw [← h]; simp⟩
  | x :: r, i0, i + 1, b, h => by
    simp only [freezeB, nth] at h ⊢
    obtain ⟨b0, h1, h2⟩ := nth_freezeB h
    exact ⟨b0, h1, by rw [h2, show i0 + 1 + i = i0 + (i + 1) by omega]⟩
theorem freezeB_len {ids : List Nat} : ∀ {h : List Blk} {i0 : Nat}, (freezeB ids i0 h).length = h.length
  | [], _ => rfl
  | x :: r, i0 => by simp [freezeB, freezeB_len]

section
variable {S0 : Nat → Prop} {B : Nat} {h : List Blk} {μ : Mu} {w : World} (hh : HeapOk S0 B h μ w)

include hh in
/-- Rows that have been handed over, and that a result may lead to, are only read from now on. -/
theorem freeze_ok {ids : List Nat} (hids : ∀ id ∈ ids, ∃ b, blk h id = some b) : HeapOk S0 B (freezeB ids 0 h) μ w ∧ (∀ g, InS S0 (freezeB ids 0 h) μ g → InS S0 h μ g ∧ ∀ id ∈ ids, ∀ L, μ id = some L → L.g ≠ g) := by
  have hst : ∀ {i : Nat} {b : Blk}, nth (freezeB ids 0 h) i = some b → ∃ b0, nth h i = some b0 ∧ b.flat = b0.flat ∧ b.T = b0.T ∧ b.k = b0.k ∧ b.es = b0.es ∧ (b = b0 ∧ (b0.st = 2 → i ∉ ids) ∨ b.st = 1 ∧ b0.st = 2 ∧ i ∈ ids) := by
    intro i b hb
    obtain ⟨b0, h1, h2⟩ := nth_freezeB hb
    refine ⟨b0, h1, ?_⟩
    rw [Nat.zero_add] at h2
    by_cases hc : (ids.contains i && b0.st == 2) = true
    · rw [if_pos hc] at h2
      subst h2
      simp only [Bool.and_eq_true, List.contains_eq_mem, decide_eq_true_eq, beq_iff_eq] at hc
      exact ⟨rfl, rfl, rfl, rfl, .inr ⟨rfl, hc.2, hc.1⟩⟩
    · rw [if_neg hc] at h2
      subst h2
      refine ⟨rfl, rfl, rfl, rfl, .inl ⟨rfl, fun h2 hi => hc ?_⟩⟩
      simp [h2, hi]
  have hsub : ∀ g, InS S0 (freezeB ids 0 h) μ g → InS S0 h μ g := by
    rintro g (h0 | ⟨i, b, L, h1, h2, h3, h4⟩)
    · exact .inl h0
    · obtain ⟨b0, r1, _, _, _, _, ⟨rfl, _⟩ | ⟨r2, _⟩⟩ := hst h1
      · exact .inr ⟨i, b, L, r1, h2, h3, h4⟩
      · omega
  have hnot : ∀ g, InS S0 (freezeB ids 0 h) μ g → ∀ id ∈ ids, ∀ L, μ id = some L → L.g ≠ g := by
    rintro g hI id hid L hL rfl
    obtain ⟨b, hb⟩ := hids id hid
    obtain ⟨hst', hbn, L', c, e, q1, q2, q3, q4, q5, q6, q7, q8⟩ := blk_ok hh hb
    rw [hL] at q1; cases q1
    rcases hst' with h1 | h2
    · exact q8 h1 (hsub _ hI)
    · rcases hI with h0 | ⟨i, b', L', r1, r2, r3, r4⟩
      · have := hh.prot _ h0; omega
      · obtain ⟨b0, s1, _, _, _, _, ⟨rfl, s2⟩ | ⟨s2, _⟩⟩ := hst r1
        · have := hh.inj i id b' b L' L s1 r2 hbn (.inl h2) r3 hL r4
          subst this
          rw [hbn] at s1; cases s1
          exact s2 h2 hid
        · omega
  refine ⟨⟨fun i b h1 h2 => ?_, fun i hi => hh.dom i (by rwa [freezeB_len] at hi), hh.prot, fun i b h1 h2 h3 => (by
    obtain ⟨b0, r1, r2, r3, r4, r5, r6⟩ := hst h1
    rcases r6 with ⟨rfl, _⟩ | ⟨h, _⟩
    · exact hh.res i b r1 h2 h3
    · omega), fun i i' b b' L L' h1 h2 h3 h4 h5 h6 h7 => ?_⟩, fun g hg => ⟨hsub g hg, hnot g hg⟩⟩
  · obtain ⟨b0, r1, r2, r3, r4, r5, r6⟩ := hst h1
    have hb0 : b0.st ≠ 0 := by
      rcases r6 with ⟨rfl, _⟩ | ⟨_, h, _⟩
      · exact h2
      · omega
    obtain ⟨L, c, e, q1, q2, q3, q4, q5, q6, q7, q8⟩ := (hh.blk i b0 r1 hb0).row
    have hk : Kept w (InS S0 h μ) w (InS S0 (freezeB ids 0 h) μ) := ⟨Nat.le_refl _, fun _ _ _ => rfl, fun g _ h => hsub g h⟩
    refine ⟨?_, L, c, e, q1, by rw [r4]; exact q2, q3, q4, q5, by rw [r4, r5]; exact q6, fun hs => ?_, fun hs hI => ?_⟩
    · rcases r6 with ⟨rfl, _⟩ | ⟨h, _⟩
      · exact (hh.blk i b r1 h2).st
      · exact .inl h
    · have : muOf b μ = muOf b0 μ := by unfold muOf; rw [r2]
      rw [this, r4, r5]
      refine RowC_mono hk (fun _ _ h => h) (q7 ?_)
      rcases r6 with ⟨rfl, _⟩ | ⟨_, h, _⟩
      · exact hs
      · omega
    · rcases r6 with ⟨rfl, _⟩ | ⟨_, _, hid⟩
      · exact q8 hs (hsub _ hI)
      · exact hnot _ hI i hid L q1 rfl
  · have key : ∀ j bj, nth (freezeB ids 0 h) j = some bj → (bj.st = 2 ∨ bj.st = 3) → nth h j = some bj := fun j bj h1 h2 => by
      obtain ⟨b0, r1, _, _, _, _, ⟨rfl, _⟩ | ⟨h, _⟩⟩ := hst h1
      · exact r1
      · omega
    exact hh.inj i i' b b' L L' (key i b h1 h2) h2 (key i' b' h3 h4) h4 h5 h6 h7

/-- Behind a call: the rows as they were, and the world behind. -/
theorem ad_init {hf : List Blk} (hhf : HeapOk S0 B hf μ w) (hB : B ≤ w.heap.size) {w' : World} (hb : Below w.heap.size w w') {gs : List Nat} (hgs : ∀ g ∈ gs, w.heap.size ≤ g) :
    Ad S0 B μ w' (fun g => InS S0 hf μ g ∨ g ∈ gs) hf μ := by
  have hk : Kept w (InS S0 hf μ) w' (fun g => InS S0 hf μ g ∨ g ∈ gs) := ⟨hb.size, fun g _ hg => hb.block g hg, fun g hg hs => by
    rcases hs with h | h
    · exact h
    · have := hgs g h; omega⟩
  refine ⟨fun i b h1 h2 => ?_, hhf.dom, hhf.prot, hhf.res, hhf.inj, fun _ _ h => h, fun g h => .inl h⟩
  obtain ⟨L, c, e, q1, q2, q3, q4, q5, q6, q7, q8⟩ := (hhf.blk i b h1 h2).row
  have hlt := (Array.getElem?_eq_some_iff.1 q4).1
  refine ⟨(hhf.blk i b h1 h2).st, L, c, e, q1, q2, q3, by rw [hb.block _ hlt]; exact q4, q5, q6, fun hs => RowC_mono hk (fun _ _ h => h) (q7 hs), fun hs hF => ?_⟩
  rcases hF with h | h
  · exact q8 hs h
  · have := hgs _ h; omega

variable {E : Env} {P : Program} (hB : B ≤ w.heap.size)

/-- What a call leaves. -/
def After (S0 : Nat → Prop) (B : Nat) (h : List Blk) (μ : Mu) (w : World) (x : AV) (h' : List Blk) (e : Ending) (w' : World) : Prop :=
  ∃ v μ', e = .returned v ∧ Stp S0 B h μ w h' μ' w' ∧ R w' (InS S0 h' μ') x μ' v

include hB in
theorem after_res {hf : List Blk} (hhf : HeapOk S0 B hf μ w) (hsub : ∀ g, InS S0 hf μ g → InS S0 h μ g) {S0c : Nat → Prop} {r : AV} {e : Ending} {w' : World} (hr : Res S0c w r e w') (hS : (∀ g, InS S0 hf μ g → S0c g) ∨ solid r = true) :
    After S0 B h μ w (thaw hf r).1 (thaw hf r).2 e w' := by
  obtain ⟨v, gs, rfl, hb, hnd, hgs, hrr⟩ := hr
  have ad := ad_init hhf hB hb hgs
  have hrF : RR w' (fun g => InS S0 hf μ g ∨ g ∈ gs) r gs v := by
    rcases hS with hS | hS
    · exact RR_le (fun g hg => hg.imp (hS g) id) hrr
    · exact solid_any hS hrr
  obtain ⟨μ2, got, rx⟩ := thaw_ok ad hrF hnd fun g hg => ⟨Nat.le_trans hB (hgs g hg), fun hI => by
    have := InS_lt hhf hB hI
    have := hgs g hg
    omega, .inr hg⟩
  have hk : Kept w (InS S0 h μ) w' (InS S0 (thaw hf r).2 μ2) := ⟨hb.size, fun g _ hg => hb.block g hg, fun g hg hs => by
    rcases got.ad.sub g hs with h | h
    · exact hsub g h
    · have := hgs g h; omega⟩
  exact ⟨v, μ2, rfl, ⟨got.ad.heap, hk, got.ad.mu, hb.mono hB, Nat.le_trans hB hb.size⟩, R_mono got.ad.kept _ (fun _ _ h => h) rx⟩

include hh hB in
theorem callA_ok (hgl : Glob P w) {call : Nat → List AV → Option AV} (hcall : ∀ g args r, call g args = some r → CallOk P g args r) {g : Nat} {args : List AV} {cargs : List Value} {x : AV} {h' : List Blk} (hc : callA E call h g args = some (x, h'))
    (ha : Rs w (InS S0 h μ) args μ cargs) : Calls P g cargs.toArray w (After S0 B h μ w x h') := by
  unfold callA at hc
  cases hv : mapO (view h depth) args with
  | none => simp [hv] at hc
  | some vs =>
    simp only [hv] at hc
    cases hr : call g vs with
    | none => simp [hr] at hc
    | some r =>
      simp only [hr] at hc
      have hids : ∀ id ∈ args.flatMap (reach h depth), ∃ b, blk h id = some b := fun id hid => by
        obtain ⟨y, _, hy⟩ := List.mem_flatMap.1 hid
        exact reach_own hy
      have views : ∀ S : Nat → Prop, (∀ g, S g → InS S0 h μ g) → (∀ id ∈ args.flatMap (reach h depth), ∀ L, μ id = some L → ¬ S L.g) → Rs w S vs noMu cargs := by
        intro S hS hn
        obtain ⟨h1, h2⟩ := mapO_get hv
        refine Rs_of (by rw [h1, Rs_len ha]) fun i y u hy hu => ?_
        obtain ⟨z, hz, hvz⟩ := h2 i y hy
        obtain ⟨u', hu', hru⟩ := Rs_get ha i z hz
        rw [hu] at hu'; cases hu'
        exact view_ok hh hS depth z y μ u (fun _ _ h => h) hvz hru fun id hid => hn id (List.mem_flatMap.2 ⟨z, List.mem_of_getElem? hz, hid⟩)
      have ck := hcall g vs r hr
      split at hc
      · rename_i hcond
        simp only [Option.some.injEq] at hc
        have e1 : (thaw h r).1 = x := by rw [hc]
        have e2 : (thaw h r).2 = h' := by rw [hc]
        rw [← e1, ← e2]
        simp only [Bool.or_eq_true, List.isEmpty_iff] at hcond
        rcases hcond with hcond | hcond
        · refine (ck (InS S0 h μ) w cargs hgl (fun g hg => InS_lt hh hB hg) (views _ (fun _ h => h) (by rw [hcond]; simp))).mono fun e w' hres => ?_
          exact after_res hB hh (fun _ h => h) hres (.inl fun _ h => h)
        · refine (ck (fun _ => False) w cargs hgl (fun g hg => hg.elim) (views _ (fun _ h => h.elim) (fun _ _ _ _ h => h))).mono fun e w' hres => ?_
          exact after_res hB hh (fun _ h => h) hres (.inr hcond)
      · simp only [Option.some.injEq] at hc
        have e1 : (thaw (freezeB (args.flatMap (reach h depth)) 0 h) r).1 = x := by rw [hc]
        have e2 : (thaw (freezeB (args.flatMap (reach h depth)) 0 h) r).2 = h' := by rw [hc]
        rw [← e1, ← e2]
        obtain ⟨hf, hfs⟩ := freeze_ok hh hids
        refine (ck (fun g => InS S0 h μ g ∧ ∀ id ∈ args.flatMap (reach h depth), ∀ L, μ id = some L → L.g ≠ g) w cargs hgl (fun g hg => InS_lt hh hB hg.1) (views _ (fun _ h => h.1) (fun id hid L hL hs => hs.2 id hid L hL rfl))).mono fun e w' hres => ?_
        exact after_res hB hf (fun g hg => (hfs g hg).1) hres (.inl hfs)
end
end Go.VE
end
