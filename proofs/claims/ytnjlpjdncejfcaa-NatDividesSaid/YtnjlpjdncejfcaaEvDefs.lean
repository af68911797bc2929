/-
  The evaluator: values, blocks, states, operations, code. Definitions alone. (A text of ours; no condition.)
-/
import Derived.WalkKit
namespace Go.Proofs.Ytnjlpjdncejfcaa.Ev

/-- A column of cells. -/
inductive Col where
  | ints (k : IntKind) (l : List Int)
  | bools (l : List Bool)
  | strs (l : List ByteArray)

def colC : Col → Nat → Value
  | .ints k l, i => .int k (l.getD i 0)
  | .bools l, i => .bool (l.getD i false)
  | .strs l, i => .string (l.getD i ByteArray.empty)

def colsAt : List Col → Nat → List Value
  | [], _ => []
  | c :: r, i => colC c i :: colsAt r i

/-- Abstract values. 'c': the model's own value. 'il': an immutable slice (w cells an element); 'iv': one of mixed cells, by columns. 'sw', 'sl': a slice of a block of ours. -/
inductive V where
  | c (v : Value)
  | poison
  | ptr (id off ext : Nat)
  | sw (id w : Nat)
  | sl (id w off len : Nat)
  | il (k : IntKind) (w : Nat) (l : List Int)
  | iv (n : Nat) (cols : List Col)
  | ilp (k : IntKind) (l : List Int) (off ext : Nat)
  | ivp (cols : List Col) (i off ext : Nat)
  | agg (cs : List V)
  | tup (vs : List V)
  | fn (f : FuncId) (first cap : List V)

inductive Blk where
  | dead
  | ints (k : IntKind) (l : List Int)
  | vals (cs : List V)

structure St where
  T : List (Nat × V)
  H : List Blk

def St.nil : St := ⟨[], []⟩

inductive Ex where
  | normal
  | exit (id : Nat)
  | goto (l : Nat)
  | ret (v : V) (bs : List Blk)

/-- A type's row: its kind, cells, bytes, zero cells. -/
inductive TK where
  | int (k : IntKind) | bool | str
  | slice (e : Nat) | arr (n e : Nat)
  | struct (fs : List (Nat × Nat))
  | ptr (e : Nat) | func | other

structure TI where
  tk : TK
  size : Nat
  bytes : Nat
  zero : List Value

def TI.isAgg (t : TI) : Bool := match t.tk with | .struct _ => true | .arr _ _ => true | _ => false

/-- A callee's row: the typed computation that its arguments decode to, and how its result reads. -/
inductive Alt where
  | one (v : V) (bs : List Blk)
  | two (b : Bool) (v1 : V) (bs1 : List Blk) (v2 : V) (bs2 : List Blk)

def Alt.pick : Alt → V × List Blk
  | .one v bs => (v, bs)
  | .two b v1 bs1 v2 bs2 => bif b then (v1, bs1) else (v2, bs2)

def Alt.go {R : Type} (k : V → List Blk → Option R) : Alt → Option R
  | .one v bs => k v bs
  | .two b v1 bs1 v2 bs2 => bif b then k v1 bs1 else k v2 bs2

structure Entry where
  A : Type
  dec : List V → List Blk → Option (Option A × (A → Alt))
  fresh : Nat
  imm : List Bool

/-- What a place in the frame is made to be where a loop or a piece begins. -/
inductive Sh where
  | any
  | row (k : IntKind) (w : Nat)
  | part (k : IntKind) (w : Nat)
  | il (k : IntKind) (w : Nat)
  | box (cs : List Sh)
  | recd (cs : List Sh)
  | tup (cs : List Sh)

structure Hint where
  keep : List (Nat × Sh)
  out : List (Nat × Sh)

structure Cut where
  run : {R : Type} → List V → List Blk → (Ex → St → Option R) → Option R

structure Env where
  ty : Nat → Option TI
  tab : Nat → Option Entry
  hint : Nat → Option Hint
  cut : Nat → Option Cut
  N : Nat
  res : List ResultVar
  rsh : List Sh
  nb : Nat
  ntmps : Nat
  own : Bool := false

def kcode : IntKind → Nat
  | .i8 => 0 | .i16 => 1 | .i32 => 2 | .i64 => 3 | .u8 => 4 | .u16 => 5 | .u32 => 6 | .u64 => 7
def keq (a b : IntKind) : Bool := Nat.beq (kcode a) (kcode b)

def look : List (Nat × V) → Nat → V
  | [], _ => .poison
  | (a, v) :: r, t => bif Nat.beq a t then v else look r t

def blkAt : List Blk → Nat → Blk
  | [], _ => .dead
  | b :: _, 0 => b
  | _ :: r, n + 1 => blkAt r n

def setBlk : List Blk → Nat → Blk → List Blk
  | [], _, _ => []
  | _ :: r, 0, x => x :: r
  | b :: r, n + 1, x => b :: setBlk r n x

def wrs : List Blk → List (Nat × Blk) → List Blk
  | H, [] => H
  | H, (i, b) :: r => wrs (setBlk H i b) r

def news (H : List Blk) (nid : Nat) : List Blk → List Blk
  | [] => H
  | b :: r => news (setBlk H nid b) (nid + 1) r

def vconst : Value → V
  | .agg cs => .agg (cs.toList.map .c)
  | v => .c v

def evO (T : List (Nat × V)) : Operand → V
  | .tmp t => look T t
  | .const v => vconst v
  | .global _ => .poison
  | .func f => .fn f [] []

def cnt (w n : Nat) : Nat := match w with
  | 1 => n
  | w => n / w
def mulw (w n : Nat) : Nat := match w with
  | 1 => n
  | w => n * w

/-- A value's cells. (None of what isn't known.) -/
def cellsO : V → Option (List V)
  | .agg cs => some cs
  | .poison => none
  | .c (.agg _) => none
  | v => some [v]

structure Out where
  val : V
  wr : List (Nat × Blk) := []
  new : List Blk := []
  touch : List Nat := []

abbrev Res := Option (Bool × Out)
def pureV (v : V) : Res := some (true, { val := v })
def pureIf (b : Bool) (v : V) : Res := some (b, { val := v })

def undefV : V := .c (.tuple #[])

def zeroV (t : TI) : List V := t.zero.map .c
def packV (t : TI) (cs : List V) : V := bif t.isAgg then .agg cs else match cs with | v :: _ => v | [] => .agg []

def intsAt (k : IntKind) (l : List Int) : Nat → Nat → List V
  | _, 0 => []
  | off, n + 1 => .c (.int k (l.getD off 0)) :: intsAt k l (off + 1) n

def takeV : List V → Nat → Option (List V)
  | _, 0 => some []
  | [], _ + 1 => none
  | v :: r, n + 1 => (takeV r n).map (v :: ·)

def dropV : List V → Nat → List V
  | l, 0 => l
  | [], _ + 1 => []
  | _ :: r, n + 1 => dropV r n

def getV : List V → Nat → Option V
  | [], _ => none
  | v :: _, 0 => some v
  | _ :: r, n + 1 => getV r n

def loadBlk (t : TI) (off : Nat) : Blk → Option V
  | .dead => none
  | .ints k l => some (bif t.isAgg then .agg (intsAt k l off t.size) else .c (.int k (l.getD off 0)))
  | .vals cs => match takeV (dropV cs off) t.size with
    | none => none
    | some cs => some (packV t cs)

def setInts (k : IntKind) : List Int → Nat → List V → Option (List Int)
  | l, _, [] => some l
  | l, off, .c (.int k' n) :: r => bif keq k k' then setInts k (l.set off n) (off + 1) r else none
  | _, _, _ :: _ => none

def setVals : List V → Nat → List V → Option (List V)
  | cs, _, [] => some cs
  | [], _, _ :: _ => none
  | _ :: cs, 0, v :: r => (setVals cs 0 r).map (v :: ·)
  | c :: cs, off + 1, v :: r => (setVals cs off (v :: r)).map (c :: ·)

/-- A value of one cell. -/
def cellOk : V → Bool
  | .c (.agg _) => false
  | .c (.tuple _) => false
  | .poison => false
  | .agg _ => false
  | .tup _ => false
  | _ => true

def storeBlk (off : Nat) (vs : List V) : Blk → Option Blk
  | .dead => none
  | .ints k l => (setInts k l off vs).map (.ints k)
  | .vals cs => bif vs.all cellOk then (setVals cs off vs).map .vals else none

/-- All cells integers of one kind. -/
def asInts (k : IntKind) : List V → Option (List Int)
  | [] => some []
  | .c (.int k' n) :: r => bif keq k k' then (asInts k r).map (n :: ·) else none
  | _ :: _ => none

/-- The one kind of integers that a type's cells are. -/
def homo (t : TI) : Option IntKind := match t.zero with
  | .int k _ :: r => bif r.all (fun | .int k' _ => keq k k' | _ => false) then some k else none
  | _ => none

def mkRow (t : TI) (cs : List V) : Option Blk := match homo t with
  | some k => (asInts k cs).map (.ints k)
  | none => some (.vals cs)

/-- build's parts laid over the zero cells. -/
def fillV (place : Nat → Option (Nat × Nat)) : List V → List (Nat × V) → Option (List V)
  | cs, [] => some cs
  | cs, (i, v) :: r => match place i with
    | none => none
    | some (off, size) => match cellsO v with
      | some vs => bif Nat.beq vs.length size && Nat.blt 0 size then
        (match setVals cs off vs with | some cs => fillV place cs r | none => none) else none
      | none => none

def fieldOf (ty : Nat → Option TI) (fs : List (Nat × Nat)) (i : Nat) : Option (Nat × Nat) := match fs[i]? with
  | some (t, off) => match ty t with | some ti => some (off, ti.size) | none => none
  | none => none

def repV : Nat → List V → List V
  | 0, _ => []
  | n + 1, l => l ++ repV n l

def mx2 (a b : Int) : Int := if b > a then b else a
def mn2 (a b : Int) : Int := if b < a then b else a

def bitsOp (op : BinOp) (k : IntKind) (a b : Int) : Option Int := match op with
  | .and => some (k.wrap (BitVec.ofInt k.bits a &&& BitVec.ofInt k.bits b).toNat)
  | .or => some (k.wrap (BitVec.ofInt k.bits a ||| BitVec.ofInt k.bits b).toNat)
  | .xor => some (k.wrap (BitVec.ofInt k.bits a ^^^ BitVec.ofInt k.bits b).toNat)
  | .andNot => some (k.wrap (BitVec.ofInt k.bits a &&& ~~~ BitVec.ofInt k.bits b).toNat)
  | _ => none

def intOp (op : BinOp) (k : IntKind) (a b : Int) : Res := match op with
  | .add => pureV (.c (.int k (k.wrap (a + b))))
  | .sub => pureV (.c (.int k (k.wrap (a - b))))
  | .mul => pureV (.c (.int k (k.wrap (a * b))))
  | .quo => pureIf (!(b == 0)) (.c (.int k (k.wrap (a.tdiv b))))
  | .rem => pureIf (!(b == 0)) (.c (.int k (a.tmod b)))
  | .eql => pureV (.c (.bool (a == b)))
  | .neq => pureV (.c (.bool (a != b)))
  | .lss => pureV (.c (.bool (decide (a < b))))
  | .leq => pureV (.c (.bool (decide (a ≤ b))))
  | .gtr => pureV (.c (.bool (decide (a > b))))
  | .geq => pureV (.c (.bool (decide (a ≥ b))))
  | .and | .or | .xor | .andNot => match bitsOp op k a b with
    | some n => pureV (.c (.int k n))
    | none => none
  | _ => none

def shiftOp (op : BinOp) (k : IntKind) (a b : Int) : Res := match op with
  | .shl => pureIf (decide (0 ≤ b)) (.c (.int k (k.wrap (a * 2 ^ (min b.toNat k.bits)))))
  | .shr => pureIf (decide (0 ≤ b)) (.c (.int k (a.fdiv (2 ^ (min b.toNat k.bits)))))
  | _ => none

def eq1 (ti : Option TI) (x y : V) : Option Bool := match ti with
  | some ⟨.int _, _, _, _⟩ => (match x, y with
    | .c (.int k a), .c (.int k' b) => bif keq k k' then some (a == b) else none
    | _, _ => none)
  | some ⟨.bool, _, _, _⟩ => (match x, y with
    | .c (.bool a), .c (.bool b) => some (a == b)
    | _, _ => none)
  | _ => none

/-- Structs whose fields are whole numbers and bools: whether all are alike. -/
def eqCells (ty : Nat → Option TI) : List (Nat × Nat) → Nat → List V → List V → Option Bool
  | [], _, [], [] => some true
  | [(t, off)], i, [x], [y] => bif Nat.beq off i then eq1 (ty t) x y else none
  | (t, off) :: r, i, x :: cx, y :: cy => bif Nat.beq off i then
      (match eq1 (ty t) x y, eqCells ty r (i + 1) cx cy with
       | some e, some e' => some (e && e')
       | _, _ => none) else none
  | _, _, _, _ => none

def eqStruct (ty : Nat → Option TI) (t : Nat) (x y : List V) : Option Bool := match ty t with
  | some ⟨.struct fs, _, _, _⟩ => eqCells ty fs 0 x y
  | _ => none

def binV (ty : Nat → Option TI) (t : Nat) (op : BinOp) (x y : V) : Res := match op, x, y with
  | .shl, .c (.int k a), .c (.int _ b) => shiftOp .shl k a b
  | .shr, .c (.int k a), .c (.int _ b) => shiftOp .shr k a b
  | op, .c (.int k a), .c (.int k' b) => bif keq k k' then intOp op k a b else none
  | .eql, .c (.bool a), .c (.bool b) => (match ty t with | some ⟨.bool, _, _, _⟩ => pureV (.c (.bool (a == b))) | _ => none)
  | .neq, .c (.bool a), .c (.bool b) => (match ty t with | some ⟨.bool, _, _, _⟩ => pureV (.c (.bool (!(a == b)))) | _ => none)
  | .add, .c (.string a), .c (.string b) => pureIf (decide (((a.size + b.size : Nat) : Int) ≤ 9223372036854775807)) (.c (.string (a ++ b)))
  | .eql, .c (.string a), .c (.string b) => pureV (.c (.bool (a.toList == b.toList)))
  | .neq, .c (.string a), .c (.string b) => pureV (.c (.bool (!(a.toList == b.toList))))
  | .eql, .agg a, .agg b => match eqStruct ty t a b with | some e => pureV (.c (.bool e)) | none => none
  | .neq, .agg a, .agg b => match eqStruct ty t a b with | some e => pureV (.c (.bool (!e))) | none => none
  | _, _, _ => none

def pickV (b : Bool) (x y : V) : V := match x, y with
  | .c (.bool p), .c (.bool q) => .c (.bool (bif b then p else q))
  | x, y => bif b then x else y

def bytesOfInts (l : List Int) : ByteArray := ⟨(l.map fun n => UInt8.ofNat n.toNat).toArray⟩
def intsOfBytes (s : ByteArray) : List Int := s.data.toList.map fun b => (b.toNat : Int)
def byteAt (s : ByteArray) (i : Nat) : Int := ((s.data.toList.getD i 0).toNat : Int)

/-- A slice's cells, for one who only reads: kind, cells an element, list. -/
def rowOf (h : Nat → Blk) : V → Option (IntKind × Nat × List Int × List Nat)
  | .sw id w => match h id with | .ints k l => some (k, w, l, [id]) | _ => none
  | .sl id w off len => match h id with | .ints k l => some (k, w, (l.drop off).take (mulw w len), [id]) | _ => none
  | .il k w l => some (k, w, l, [])
  | _ => none

def rowV (h : Nat → Blk) : V → Option (Nat × List V × List Nat)
  | .sw id w => match h id with | .vals l => some (w, l, [id]) | _ => none
  | _ => none

def lenV (h : Nat → Blk) : V → Option (Nat × List Nat)
  | .c (.slice none 0 0) => some (0, [])
  | .c (.string s) => some (s.size, [])
  | .sw id w => match h id with
    | .ints _ l => some (cnt w l.length, [id])
    | .vals l => some (cnt w l.length, [id])
    | .dead => none
  | .sl _ _ _ len => some (len, [])
  | .il _ w l => some (cnt w l.length, [])
  | .iv n _ => some (n, [])
  | _ => none

def lenTk : TK → V → Bool
  | .str, .c (.string _) => true
  | .slice _, .c (.string _) => false
  | .slice _, _ => true
  | _, _ => false

def nilSlice : V := .c (.slice none 0 0)

/-- append's right-hand side. -/
def srcInts (h : Nat → Blk) (k : IntKind) (size : Nat) : V → Option (List Int × List Nat)
  | .c (.slice none 0 0) => some ([], [])
  | .c (.string s) => bif keq k .u8 && Nat.beq size 1 then some (intsOfBytes s, []) else none
  | v => match rowOf h v with
    | some (k', w, l, t) => bif keq k k' && Nat.beq w size then some (l, t) else none
    | none => none

def srcVals (h : Nat → Blk) (size : Nat) : V → Option (List V × List Nat)
  | .c (.slice none 0 0) => some ([], [])
  | v => match rowV h v with
    | some (w, l, t) => bif Nat.beq w size && l.all cellOk then some (l, t) else none
    | none => none

def roomy (n b : Nat) : Bool := decide (n * b ≤ 70368744177664)

def appendV (ti : TI) (h : Nat → Blk) (nid : Nat) (d s : V) : Res := bif !(Nat.blt 0 ti.bytes && Nat.blt 0 ti.size) then none else match homo ti with
  | some k => match srcInts h k ti.size s with
    | none => none
    | some (src, t) => match d with
      | .c (.slice none 0 0) => some (roomy (cnt ti.size src.length) ti.bytes, { val := .sw nid ti.size, new := [.ints k src], touch := t })
      | .sw id w => match h id with
        | .ints k' l => bif keq k k' && Nat.beq w ti.size then
            some (roomy (cnt ti.size (l.length + src.length)) ti.bytes, { val := .sw nid ti.size, wr := [(id, .dead)], new := [.ints k (l ++ src)], touch := id :: t }) else none
        | _ => none
      | _ => none
  | none => match srcVals h ti.size s with
    | none => none
    | some (src, t) => match d with
      | .c (.slice none 0 0) => some (roomy (cnt ti.size src.length) ti.bytes, { val := .sw nid ti.size, new := [.vals src], touch := t })
      | .sw id w => match h id with
        | .vals l => bif Nat.beq w ti.size then
            some (roomy (cnt ti.size (l.length + src.length)) ti.bytes, { val := .sw nid ti.size, wr := [(id, .dead)], new := [.vals (l ++ src)], touch := id :: t }) else none
        | _ => none
      | _ => none

def splice (l : List Int) (off : Nat) (x : List Int) : List Int := l.take off ++ x ++ l.drop (off + x.length)

def copyV (ti : TI) (h : Nat → Blk) (d s : V) : Res := match homo ti with
  | none => none
  | some k => match srcInts h k ti.size s with
    | none => none
    | some (src, t) => match d with
      | .sw id w => match h id with
        | .ints k' l => bif keq k k' && Nat.beq w ti.size then
            let n : Nat := min (cnt w src.length) (cnt w l.length)
            some (true, { val := .c (.int .i64 (n : Int)), wr := [(id, .ints k (splice l 0 (src.take (mulw w n))))], touch := id :: t }) else none
        | _ => none
      | _ => none

def foldInts (f : Int → Int → Int) (k : IntKind) : Int → List V → Option Int
  | a, [] => some a
  | a, .c (.int k' b) :: r => bif keq k k' then foldInts f k (f a b) r else none
  | _, _ :: _ => none

def minmax (f : Int → Int → Int) : List V → Res
  | .c (.int k a) :: r => match foldInts f k a r with | some n => pureV (.c (.int k n)) | none => none
  | _ => none

def builtinV (ty : Nat → Option TI) (nid : Nat) (b : Builtin) (ts : List Nat) (xs : List V) (h : Nat → Blk) : Res := match b, xs with
  | .len, [x] => match ts with
    | t :: _ => (match ty t, lenV h x with
      | some ti, some (n, tc) => bif lenTk ti.tk x then some (true, { val := .c (.int .i64 (n : Int)), touch := tc }) else none
      | _, _ => none)
    | _ => none
  | .max, xs => minmax mx2 xs
  | .min, xs => minmax mn2 xs
  | .append, [d, s] => match ts with
    | t :: t2 :: _ => match ty t, ty t2 with
      | some ⟨.slice e, _, _, _⟩, some t2 => match t2.tk with
        | .slice _ | .str => (match ty e with | some ti => appendV ti h nid d s | none => none)
        | _ => none
      | _, _ => none
    | _ => none
  | .copy, [d, s] => match ts with
    | t :: _ => match ty t with
      | some ⟨.slice e, _, _, _⟩ => match ty e with | some ti => copyV ti h d s | none => none
      | _ => none
    | _ => none
  | _, _ => none

def indexAt (ty : Nat → Option TI) (t : Nat) (x i : V) (h : Nat → Blk) : Res := match i, ty t with
  | .c (.int _ n), some ⟨.slice e, _, _, _⟩ => match ty e with
    | none => none
    | some te => match x with
      | .sw id w => bif Nat.beq w te.size then match h id with
        | .ints _ l => some (decide (0 ≤ n) && decide (n < (cnt w l.length : Nat)), { val := .ptr id (mulw w n.toNat) w, touch := [id] })
        | .vals l => some (decide (0 ≤ n) && decide (n < (cnt w l.length : Nat)), { val := .ptr id (mulw w n.toNat) w, touch := [id] })
        | .dead => none
        else none
      | .sl id w off len => bif Nat.beq w te.size then pureIf (decide (0 ≤ n) && decide (n < (len : Int))) (.ptr id (off + mulw w n.toNat) w) else none
      | .il k w l => bif Nat.beq w te.size then pureIf (decide (0 ≤ n) && decide (n < (cnt w l.length : Nat))) (.ilp k l (mulw w n.toNat) w) else none
      | .iv m cols => bif Nat.beq cols.length te.size then pureIf (decide (0 ≤ n) && decide (n < (m : Int))) (.ivp cols n.toNat 0 cols.length) else none
      | _ => none
  | .c (.int _ n), some ⟨.arr len e, _, _, _⟩ => match ty e with
    | none => none
    | some te => match x with
      | .ptr id off ext => bif Nat.ble (len * te.size) ext then pureIf (decide (0 ≤ n) && decide (n < (len : Int))) (.ptr id (off + mulw te.size n.toNat) te.size) else none
      | .ilp k l off ext => bif Nat.ble (len * te.size) ext then pureIf (decide (0 ≤ n) && decide (n < (len : Int))) (.ilp k l (off + mulw te.size n.toNat) te.size) else none
      | .ivp l i off ext => bif Nat.ble (len * te.size) ext then pureIf (decide (0 ≤ n) && decide (n < (len : Int))) (.ivp l i (off + mulw te.size n.toNat) te.size) else none
      | _ => none
  | _, _ => none

def indexOf (ty : Nat → Option TI) (t : Nat) (x i : V) : Res := match i, ty t, x with
  | .c (.int _ n), some ⟨.str, _, _, _⟩, .c (.string s) => pureIf (decide (0 ≤ n) && decide (n < (s.size : Int))) (.c (.int .u8 (byteAt s n.toNat)))
  | .c (.int _ n), some ⟨.arr len e, _, _, _⟩, .agg cs => match ty e with
    | none => none
    | some te => match takeV (dropV cs (n.toNat * te.size)) te.size with
      | none => none
      | some cs => bif Nat.blt 0 te.size then pureIf (decide (0 ≤ n) && decide (n < (len : Int))) (packV te cs) else none
  | _, _, _ => none

def bnd : Option V → Int → Option Int
  | none, d => some d
  | some (.c (.int _ n)), _ => some n
  | some _, _ => none

/-- x[lo:hi:max]: no bound beyond the length (a capacity is not known here). -/
def sliceV (ty : Nat → Option TI) (t : Nat) (x : V) (lo hi mx : Option V) (h : Nat → Blk) : Res := match ty t with
  | none => none
  | some ti => bif hi.isNone && mx.isSome then none else match lenV h x with
    | none => (match ti.tk, x with
      | .arr n e, .ptr id off ext => match ty e, bnd lo 0, bnd hi n, bnd mx n with
        | some te, some l, some h, some m => bif Nat.ble (n * te.size) ext && Nat.blt 0 te.size then
            pureIf (decide (0 ≤ l) && decide (l ≤ h) && decide (h ≤ m) && decide (m ≤ (n : Int))) (.sl id te.size (off + mulw te.size l.toNat) (h.toNat - l.toNat)) else none
        | _, _, _, _ => none
      | _, _ => none)
    | some (len, tc) => match bnd lo 0, bnd hi len, bnd mx len with
      | some l, some h', some m =>
        let ok := decide (0 ≤ l) && decide (l ≤ h') && decide (h' ≤ m) && decide (m ≤ (len : Int))
        match ti.tk, x with
        | .str, .c (.string s) => (match mx with | none => pureIf ok (.c (.string (s.extract l.toNat h'.toNat))) | some _ => none)
        | .slice e, .sw id w => (match ty e with
          | some te => bif Nat.beq w te.size then some (ok, { val := .sl id w (mulw w l.toNat) (h'.toNat - l.toNat), touch := tc }) else none
          | none => none)
        | .slice e, .sl id w off _ => (match ty e with
          | some te => bif Nat.beq w te.size then pureIf ok (.sl id w (off + mulw w l.toNat) (h'.toNat - l.toNat)) else none
          | none => none)
        | .slice e, .il k w l0 => (match ty e with
          | some te => bif Nat.beq w te.size then pureIf ok (.il k w ((l0.drop (mulw w l.toNat)).take (mulw w (h'.toNat - l.toNat)))) else none
          | none => none)
        | .slice e, .c (.slice none 0 0) => (match ty e with
          | some _ => pureIf ok nilSlice
          | none => none)
        | _, _ => none
      | _, _, _ => none

def unV (op : UnOp) (x : V) : Res := match op, x with
  | .neg, .c (.int k n) => pureV (.c (.int k (k.wrap (0 - n))))
  | .not, .c (.bool b) => pureV (.c (.bool (!b)))
  | .xor, .c (.int k n) => match bitsOp .xor k (if k.signed then -1 else k.max) n with
    | some n => pureV (.c (.int k n))
    | none => none
  | _, _ => none

def convV (ty : Nat → Option TI) (nid : Nat) (s d : Nat) (x : V) (h : Nat → Blk) : Res := match ty s, ty d with
  | some ts, some td => match td.tk, x with
    | .int k, .c (.int _ n) => pureV (.c (.int k (k.wrap n)))
    | .str, .c (.string s) => pureV (.c (.string s))
    | .str, .c (.slice none 0 0) => (match ts.tk with
      | .slice e => (match ty e with | some ⟨.int .u8, _, _, _⟩ => pureV (.c (.string ByteArray.empty)) | _ => none)
      | _ => none)
    | .slice e, .c (.string b) => (match ty e with
      | some ⟨.int .u8, _, _, _⟩ => some (true, { val := .sw nid 1, new := [.ints .u8 (intsOfBytes b)] })
      | _ => none)
    | .str, x => (match ts.tk with
      | .slice e => (match ty e, rowOf h x with
        | some ⟨.int .u8, _, _, _⟩, some (.u8, w, l, t) => bif Nat.beq w 1 then some (true, { val := .c (.string (bytesOfInts l)), touch := t }) else none
        | _, _ => none)
      | _ => none)
    | _, _ => none
  | _, _ => none

def loadV (ti : TI) (a : V) (h : Nat → Blk) : Res := match a with
  | .ptr id off ext => bif Nat.ble ti.size ext && Nat.blt 0 ti.size then
      match loadBlk ti off (h id) with
      | some v => some (true, { val := v, touch := [id] })
      | none => none
    else none
  | .ilp k l off ext => bif Nat.ble ti.size ext && Nat.blt 0 ti.size then
      match loadBlk ti off (.ints k l) with
      | some v => pureV v
      | none => none
    else none
  | .ivp l i off ext => bif Nat.ble ti.size ext && Nat.blt 0 ti.size then
      match loadBlk ti off (.vals ((colsAt l i).map .c)) with
      | some v => pureV v
      | none => none
    else none
  | _ => none

def fieldAtV (ty : Nat → Option TI) (fs : List (Nat × Nat)) (f : Nat) (x : V) : Res := match x with
  | .ptr id off ext => (match fieldOf ty fs f with
    | some (fo, fsz) => bif Nat.ble (fo + fsz) ext && Nat.blt 0 fsz then pureV (.ptr id (off + fo) fsz) else none
    | none => none)
  | .ilp k l off ext => (match fieldOf ty fs f with
    | some (fo, fsz) => bif Nat.ble (fo + fsz) ext && Nat.blt 0 fsz then pureV (.ilp k l (off + fo) fsz) else none
    | none => none)
  | .ivp l i off ext => (match fieldOf ty fs f with
    | some (fo, fsz) => bif Nat.ble (fo + fsz) ext && Nat.blt 0 fsz then pureV (.ivp l i (off + fo) fsz) else none
    | none => none)
  | _ => none

def act (ty : Nat → Option TI) (nid : Nat) (o : Op) (ev : Operand → V) (h : Nat → Blk) : Res := match o with
  | .move x | .assign x => pureV (ev x)
  | .pick c a b => match ev c with
    | .c (.bool b') => pureV (pickV b' (ev a) (ev b))
    | _ => none
  | .alloc t => match ty t with
    | some ti => some (true, { val := .ptr nid 0 ti.size, new := [.vals (zeroV ti)] })
    | none => none
  | .box t x => match ty t with
    | some ti => match cellsO (ev x) with
      | some vs => bif Nat.beq vs.length ti.size then some (true, { val := .ptr nid 0 ti.size, new := [.vals vs] }) else none
      | none => none
    | none => none
  | .build t ps => match ty t with
    | some ti => (match ti.tk with
      | .struct fs => bif fs.all (fun p => (ty p.1).isSome) then
          (match fillV (fieldOf ty fs) (zeroV ti) (ps.toList.map fun p => (p.1, ev p.2)) with
          | some cs => pureV (.agg cs)
          | none => none) else none
      | .arr _ e => match ty e with
        | some te => match fillV (fun i => some (i * te.size, te.size)) (zeroV ti) (ps.toList.map fun p => (p.1, ev p.2)) with
          | some cs => pureV (.agg cs)
          | none => none
        | none => none
      | _ => none)
    | none => none
  | .buildSlice t len ps => match ty t with
    | some ⟨.slice e, _, _, _⟩ => match ty e with
      | some te => bif Nat.ble (len * te.size) 16777216 && Nat.blt 0 te.size then
          match fillV (fun i => some (i * te.size, te.size)) (repV len (zeroV te)) (ps.toList.map fun p => (p.1, ev p.2)) with
          | some cs => match mkRow te cs with
            | some b => some (true, { val := .sw nid te.size, new := [b] })
            | none => none
          | none => none
        else none
      | none => none
    | _ => none
  | .load t a => match ty t with
    | some ti => loadV ti (ev a) h
    | none => none
  | .store t a x => match ty t, ev a with
    | some ti, .ptr id off ext => match cellsO (ev x) with
      | some vs => bif Nat.ble ti.size ext && Nat.beq vs.length ti.size then
        match storeBlk off vs (h id) with
        | some b => some (true, { val := undefV, wr := [(id, b)], touch := [id] })
        | none => none
        else none
      | none => none
    | _, _ => none
  | .nilCheck x => match ev x with
    | .ptr id off ext => pureV (.ptr id off ext)
    | .ilp k l off ext => pureV (.ilp k l off ext)
    | .ivp l i off ext => pureV (.ivp l i off ext)
    | _ => none
  | .binOp op t x y _ => binV ty t op (ev x) (ev y)
  | .unOp op _ x => unV op (ev x)
  | .convert s d x => convV ty nid s d (ev x) h
  | .makeFunc (.func f) first cap => pureV (.fn f (first.toList.map ev) (cap.toList.map ev))
  | .makeSlice t l c => match ty t, ev l, ev c with
    | some ⟨.slice e, _, _, _⟩, .c (.int .i64 n), .c (.int .i64 m) => match ty e with
      | some te => match homo te, te.zero with
        | some k, _ => bif te.zero.all (fun | .int _ z => z == 0 | _ => false) then
            some (decide (n = m) && decide (0 ≤ n) && decide (n ≤ 9223372036854775807) && roomy n.toNat te.bytes, { val := .sw nid te.size, new := [.ints k (List.replicate (mulw te.size n.toNat) 0)] }) else none
        | none, _ => none
      | none => none
    | _, _, _ => none
  | .slice t x lo hi mx => sliceV ty t (ev x) (lo.map ev) (hi.map ev) (mx.map ev) h
  | .fieldAddr t x f => match ty t with
    | some ⟨.struct fs, _, _, _⟩ => fieldAtV ty fs f (ev x)
    | _ => none
  | .field t x f => match ty t, ev x with
    | some ⟨.struct fs, _, _, _⟩, .agg cs => match fs[f]? with
      | some (t, fo) => match ty t with
        | some te => match takeV (dropV cs fo) te.size with
          | some cs => bif Nat.blt 0 te.size then pureV (packV te cs) else none
          | none => none
        | none => none
      | none => none
    | _, _ => none
  | .indexAddr t x i => indexAt ty t (ev x) (ev i) h
  | .index t x i => indexOf ty t (ev x) (ev i)
  | .extract t i => match ev t with
    | .tup vs => match getV vs i with | some v => pureV v | none => none
    | _ => none
  | .call ⟨.builtin b, args, ts⟩ => builtinV ty nid b ts.toList (args.toList.map ev) h
  | _ => none

/-- How many blocks an operation may make. -/
def room (tab : Nat → Option Entry) : Op → Nat
  | .alloc _ | .box .. | .buildSlice .. | .makeSlice .. => 1
  | .convert .. => 1
  | .call ⟨.builtin .append, _, _⟩ => 1
  | .call ⟨.value (.func f), _, _⟩ => (match tab f with | some e => e.fresh | none => 0)
  | _ => 0

/- References: which blocks a value reaches at first hand. -/
mutual
def refs : V → List Nat
  | .ptr id _ _ => [id]
  | .sw id _ => [id]
  | .sl id _ _ _ => [id]
  | .agg cs => refsL cs
  | .tup cs => refsL cs
  | .fn _ a b => refsL a ++ refsL b
  | _ => []
def refsL : List V → List Nat
  | [] => []
  | v :: r => refs v ++ refsL r
end

def refsB : Blk → List Nat
  | .vals cs => refsL cs
  | _ => []

def addNew (σ : List Nat) : List Nat → List Nat
  | [] => σ
  | i :: r => bif σ.any (Nat.beq i) then addNew σ r else addNew (σ ++ [i]) r

def reach (h : Nat → Blk) : Nat → List Nat → List Nat
  | 0, σ => σ
  | n + 1, σ => reach h n (addNew σ (σ.flatMap fun i => refsB (h i)))

def place (i : Nat) : List Nat → Nat → Option Nat
  | [], _ => none
  | j :: r, n => bif Nat.beq j i then some n else place i r (n + 1)

/- Names changed along a map; what has no name there: poison. -/
mutual
def ren (m : Nat → Option Nat) : V → V
  | .ptr id off ext => match m id with | some j => .ptr j off ext | none => .poison
  | .sw id w => match m id with | some j => .sw j w | none => .poison
  | .sl id w off len => match m id with | some j => .sl j w off len | none => .poison
  | .agg cs => .agg (renL m cs)
  | .tup cs => .tup (renL m cs)
  | .fn f a b => .fn f (renL m a) (renL m b)
  | .c v => .c v
  | .poison => .poison
  | .il k w l => .il k w l
  | .iv w l => .iv w l
  | .ilp k l off ext => .ilp k l off ext
  | .ivp l i off ext => .ivp l i off ext
def renL (m : Nat → Option Nat) : List V → List V
  | [] => []
  | v :: r => ren m v :: renL m r
end

def renB (m : Nat → Option Nat) : Blk → Blk
  | .vals cs => .vals (renL m cs)
  | .dead => .dead
  | .ints k l => .ints k l

def outName (σ : List Nat) (nid : Nat) (j : Nat) : Option Nat :=
  match σ[j]? with
  | some i => some i
  | none => some (nid + (j - σ.length))

def zipW : List Nat → List Blk → List (Nat × Blk)
  | i :: r, b :: s => (i, b) :: zipW r s
  | _, _ => []

def dropB : List Blk → Nat → List Blk
  | l, 0 => l
  | [], _ + 1 => []
  | _ :: r, n + 1 => dropB r n

/- Arguments that are only read: a block of whole numbers is handed on as what it holds. -/
mutual
def immV (h : Nat → Blk) : V → V × List Nat
  | .sw id w => (match h id with
    | .ints k l => (.il k w l, [id])
    | _ => (.sw id w, []))
  | .sl id w off len => (match h id with
    | .ints k l => (.il k w ((l.drop off).take (mulw w len)), [id])
    | _ => (.sl id w off len, []))
  | .agg cs => (.agg (immL h cs).1, (immL h cs).2)
  | v => (v, [])
def immL (h : Nat → Blk) : List V → List V × List Nat
  | [] => ([], [])
  | v :: r => ((immV h v).1 :: (immL h r).1, (immV h v).2 ++ (immL h r).2)
end

def immArgs (h : Nat → Blk) : List Bool → List V → List V × List Nat
  | true :: bs, v :: r => ((immV h v).1 :: (immArgs h bs r).1, (immV h v).2 ++ (immArgs h bs r).2)
  | false :: bs, v :: r => (v :: (immArgs h bs r).1, (immArgs h bs r).2)
  | [], vs => (vs, [])
  | _, [] => ([], [])

/- Holds a value no immutable slice? -/
mutual
def noImm : V → Bool
  | .il _ _ _ => false
  | .iv _ _ => false
  | .ilp _ _ _ _ => false
  | .ivp _ _ _ _ => false
  | .agg cs => noImmL cs
  | .tup cs => noImmL cs
  | .fn _ a b => noImmL a && noImmL b
  | _ => true
def noImmL : List V → Bool
  | [] => true
  | v :: r => noImm v && noImmL r
end
def noImmB : Blk → Bool
  | .vals cs => noImmL cs
  | _ => true

def calleeOut (σ τ : List Nat) (nid : Nat) (v : V) (bs : List Blk) : Out :=
  { val := ren (outName σ nid) v,
    wr := zipW σ (bs.map (renB (outName σ nid))) ++ (bif noImm v && bs.all noImmB then [] else τ.map fun i => (i, .dead)),
    new := dropB (bs.map (renB (outName σ nid))) σ.length,
    touch := σ ++ τ }

def nodup : List Nat → Bool
  | [] => true
  | i :: r => !(r.any (Nat.beq i)) && nodup r

def meets (a b : List Nat) : Bool := a.any fun i => b.any (Nat.beq i)

def callK {R : Type} (tab : Nat → Option Entry) (nid : Nat) (f : Nat) (args : List V) (h : Nat → Blk) (k : Out → Option R) : Option R :=
  match tab f with
  | none => none
  | some e =>
    let at_ := immArgs h e.imm args
    let σ := reach h 3 (addNew [] (refsL at_.1))
    match e.dec (renL (place · σ 0) at_.1) (σ.map fun i => renB (place · σ 0) (h i)) with
    | none => none
    | some (m, enc) => m.bind fun a => (enc a).go fun v bs =>
      bif Nat.ble bs.length (σ.length + e.fresh) && Nat.ble σ.length bs.length && nodup σ && !meets σ at_.2 then k (calleeOut σ at_.2 nid v bs) else none

structure Fp where
  i : Nat
  touch : List Nat
  wr : List Nat

def putT (T : List (Nat × V)) (d : Option Nat) (v : V) : List (Nat × V) := match d with
  | some d => (d, v) :: T
  | none => T

def evExec {R : Type} (E : Env) (nid : Nat) (o : Oper) (T : List (Nat × V)) (h : Nat → Blk) (k : Out → Option R) : Option R := match o.op with
  | .call ⟨.value f, args, _⟩ => match evO T f with
    | .fn g first cap => callK E.tab nid g (first ++ (args.toList.map (evO T) ++ cap)) h k
    | _ => none
  | op => match act E.ty nid op (evO T) h with
    | none => none
    | some (ok, out) => bif ok then k out else none

/-- The blocks that are written, and made, have their places. -/
def okIds (H : List Blk) (nid rm : Nat) (out : Out) : Bool := Nat.ble out.new.length rm && Nat.ble (nid + rm) H.length && out.wr.all fun p => Nat.blt p.1 H.length

def dstOk (n : Nat) : Option Nat → Bool
  | none => true
  | some d => Nat.blt d n

def evOps {R : Type} (E : Env) (all : List Oper) : Nat → List Oper → Nat → List (Nat × V) → List Blk → List Fp → (St → List Fp → Option R) → Option R
  | _, [], _, T, H, fps, k => k ⟨T, H⟩ fps
  | i, o :: rest, nid, T, H, fps, k =>
    let go (T : List (Nat × V)) : Option R :=
      evExec E nid o T (blkAt H) fun out => bif okIds H nid (room E.tab o.op) out then
        evOps E all (i + 1) rest (nid + room E.tab o.op) (putT T o.dst out.val) (news (wrs H out.wr) nid out.new)
          (⟨i, out.touch, out.wr.map (·.1) ++ (List.range out.new.length).map (nid + ·)⟩ :: fps) k
        else none
    let skip (T : List (Nat × V)) : Option R :=
      evOps E all (i + 1) rest (nid + room E.tab o.op) (putT T o.dst undefV) H (⟨i, [], []⟩ :: fps) k
    bif dstOk E.ntmps o.dst then
      match o.guard with
      | none => go T
      | some (j, want) => match (all[j]?).bind (·.dst) with
        | none => none
        | some g => match look T g with
          | .c (.bool true) => bif want then go ((g, .c (.bool true)) :: T) else skip ((g, .c (.bool true)) :: T)
          | .c (.bool false) => bif want then skip ((g, .c (.bool false)) :: T) else go ((g, .c (.bool false)) :: T)
          | .c (.tuple _) => skip T
          | _ => none
    else none

end Go.Proofs.Ytnjlpjdncejfcaa.Ev
