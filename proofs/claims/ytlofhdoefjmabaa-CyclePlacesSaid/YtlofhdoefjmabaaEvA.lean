/-
  The evaluator: values, blocks, states, operations, code. Definitions alone. (A text of ours; no condition.)
-/
import Derived.WalkKit
namespace Go.Proofs.Ytlofhdoefjmabaa.Ev

/-- A column of cells. -/
inductive Col where
  | ints (k : IntKind) (l : List Int)
  | bools (l : List Bool)
  | strs (l : List ByteArray)

def colC : Col → Nat → Value
  | .ints k l, i => .int k (l.getD i 0)
  | .bools l, i => .bool (l.getD i false)
  | .strs l, i => .string (l.getD i ByteArray.empty)

def colsAt : List Col → Nat → List Value
  | [], _ => []
  | c :: r, i => colC c i :: colsAt r i

/-- Abstract values. 'c': the model's own value. 'il': an immutable slice (w cells an element); 'iv': one of mixed cells, by columns. 'sw', 'sl': a slice of a block of ours. -/
inductive V where
  | c (v : Value)
  | poison
  | ptr (id off ext : Nat)
  | sw (id w : Nat)
  | sl (id w off len : Nat)
  | il (k : IntKind) (w : Nat) (l : List Int)
  | iv (n : Nat) (cols : List Col)
  | ilp (k : IntKind) (l : List Int) (off ext : Nat)
  | ivp (cols : List Col) (i off ext : Nat)
  | agg (cs : List V)
  | tup (vs : List V)
  | fn (f : FuncId) (first cap : List V)
  | mref (id : Nat)

/-- 'mp': a map whose keys are rows of n whole numbers, with its values by a column. 'nl': a row of immutable slices of whole numbers (s cells an element). 'it': an iterator over the map of a name, begun when it had 'cnt' entries: what is to come, in no order; what came last. -/
inductive Blk where
  | dead
  | ints (k : IntKind) (l : List Int)
  | vals (cs : List V)
  | mp (k : IntKind) (n : Nat) (ks : List (List Int)) (vs : Col)
  | it (mid : Option Nat) (cnt : Nat) (rem : List Nat) (cur : Nat)
  | nl (k : IntKind) (s : Nat) (rows : List (List Int))

structure St where
  T : List (Nat × V)
  H : List Blk

def St.nil : St := ⟨[], []⟩

inductive Ex where
  | normal
  | exit (id : Nat)
  | goto (l : Nat)
  | ret (v : V) (bs : List Blk)

/-- A type's row: its kind, cells, bytes, zero cells. -/
inductive TK where
  | int (k : IntKind) | bool | str
  | slice (e : Nat) | arr (n e : Nat)
  | struct (fs : List (Nat × Nat))
  | ptr (e : Nat) | func | other
  | map (k e : Nat)

structure TI where
  tk : TK
  size : Nat
  bytes : Nat
  zero : List Value

def TI.isAgg (t : TI) : Bool := match t.tk with | .struct _ => true | .arr _ _ => true | _ => false

def TI.isSl (t : TI) : Bool := match t.tk with | .slice _ => true | _ => false

/-- A callee's row: the typed computation that its arguments decode to, and how its result reads. -/
inductive Alt where
  | one (v : V) (bs : List Blk)
  | two (b : Bool) (v1 : V) (bs1 : List Blk) (v2 : V) (bs2 : List Blk)

def Alt.pick : Alt → V × List Blk
  | .one v bs => (v, bs)
  | .two b v1 bs1 v2 bs2 => bif b then (v1, bs1) else (v2, bs2)

def Alt.go {R : Type} (k : V → List Blk → Option R) : Alt → Option R
  | .one v bs => k v bs
  | .two b v1 bs1 v2 bs2 => bif b then k v1 bs1 else k v2 bs2

structure Entry where
  A : Type
  dec : List V → List Blk → Option (Option A × (A → Alt))
  fresh : Nat
  imm : List Bool

/-- What a place in the frame is made to be where a loop or a piece begins. -/
inductive Sh where
  | any
  | row (k : IntKind) (w : Nat)
  | part (k : IntKind) (w : Nat)
  | il (k : IntKind) (w : Nat)
  | box (cs : List Sh)
  | recd (cs : List Sh)
  | tup (cs : List Sh)
  | nrow (k : IntKind) (s : Nat)

structure Hint where
  keep : List (Nat × Sh)
  out : List (Nat × Sh)

structure Cut where
  run : {R : Type} → List V → List Blk → (Ex → St → Option R) → Option R

structure Env where
  ty : Nat → Option TI
  tab : Nat → Option Entry
  hint : Nat → Option Hint
  cut : Nat → Option Cut
  N : Nat
  res : List ResultVar
  rsh : List Sh
  nb : Nat
  ntmps : Nat
  own : Bool := false
  bsh : List (Nat × List Sh) := []

def kcode : IntKind → Nat
  | .i8 => 0 | .i16 => 1 | .i32 => 2 | .i64 => 3 | .u8 => 4 | .u16 => 5 | .u32 => 6 | .u64 => 7
def keq (a b : IntKind) : Bool := Nat.beq (kcode a) (kcode b)

def look : List (Nat × V) → Nat → V
  | [], _ => .poison
  | (a, v) :: r, t => bif Nat.beq a t then v else look r t

def blkAt : List Blk → Nat → Blk
  | [], _ => .dead
  | b :: _, 0 => b
  | _ :: r, n + 1 => blkAt r n

def setBlk : List Blk → Nat → Blk → List Blk
  | [], _, _ => []
  | _ :: r, 0, x => x :: r
  | b :: r, n + 1, x => b :: setBlk r n x

def wrs : List Blk → List (Nat × Blk) → List Blk
  | H, [] => H
  | H, (i, b) :: r => wrs (setBlk H i b) r

def news (H : List Blk) (nid : Nat) : List Blk → List Blk
  | [] => H
  | b :: r => news (setBlk H nid b) (nid + 1) r

def vconst : Value → V
  | .agg cs => .agg (cs.toList.map .c)
  | v => .c v

def evO (T : List (Nat × V)) : Operand → V
  | .tmp t => look T t
  | .const v => vconst v
  | .global _ => .poison
  | .func f => .fn f [] []

def cnt (w n : Nat) : Nat := match w with
  | 1 => n
  | w => n / w
def mulw (w n : Nat) : Nat := match w with
  | 1 => n
  | w => n * w

/-- A value's cells. (None of what isn't known.) -/
def cellsO : V → Option (List V)
  | .agg cs => some cs
  | .poison => none
  | .c (.agg _) => none
  | v => some [v]

structure Out where
  val : V
  wr : List (Nat × Blk) := []
  new : List Blk := []
  touch : List Nat := []

abbrev Res := Option (Bool × Out)
def pureV (v : V) : Res := some (true, { val := v })
def pureIf (b : Bool) (v : V) : Res := some (b, { val := v })

def undefV : V := .c (.tuple #[])

def zeroV (t : TI) : List V := t.zero.map .c
def packV (t : TI) (cs : List V) : V := bif t.isAgg then .agg cs else match cs with | v :: _ => v | [] => .agg []

def intsAt (k : IntKind) (l : List Int) : Nat → Nat → List V
  | _, 0 => []
  | off, n + 1 => .c (.int k (l.getD off 0)) :: intsAt k l (off + 1) n

def takeV : List V → Nat → Option (List V)
  | _, 0 => some []
  | [], _ + 1 => none
  | v :: r, n + 1 => (takeV r n).map (v :: ·)

def dropV : List V → Nat → List V
  | l, 0 => l
  | [], _ + 1 => []
  | _ :: r, n + 1 => dropV r n

def getV : List V → Nat → Option V
  | [], _ => none
  | v :: _, 0 => some v
  | _ :: r, n + 1 => getV r n

def loadBlk (t : TI) (off : Nat) : Blk → Option V
  | .dead => none
  | .mp _ _ _ _ => none
  | .it _ _ _ _ => none
  | .ints k l => some (bif t.isAgg then .agg (intsAt k l off t.size) else .c (.int k (l.getD off 0)))
  | .nl k s rows => bif t.isAgg then none else (match t.tk with
    | .slice _ => some (.il k s (rows.getD off []))
    | _ => none)
  | .vals cs => match takeV (dropV cs off) t.size with
    | none => none
    | some cs => some (packV t cs)

def setInts (k : IntKind) : List Int → Nat → List V → Option (List Int)
  | l, _, [] => some l
  | l, off, .c (.int k' n) :: r => bif keq k k' then setInts k (l.set off n) (off + 1) r else none
  | _, _, _ :: _ => none

def setVals : List V → Nat → List V → Option (List V)
  | cs, _, [] => some cs
  | [], _, _ :: _ => none
  | _ :: cs, 0, v :: r => (setVals cs 0 r).map (v :: ·)
  | c :: cs, off + 1, v :: r => (setVals cs off (v :: r)).map (c :: ·)

/-- A value of one cell. -/
def cellOk : V → Bool
  | .c (.agg _) => false
  | .c (.tuple _) => false
  | .poison => false
  | .agg _ => false
  | .tup _ => false
  | _ => true

def storeBlk (off : Nat) (vs : List V) : Blk → Option Blk
  | .dead => none
  | .mp _ _ _ _ => none
  | .it _ _ _ _ => none
  | .ints k l => (setInts k l off vs).map (.ints k)
  | .nl _ _ _ => none
  | .vals cs => bif vs.all cellOk then (setVals cs off vs).map .vals else none

/-- All cells integers of one kind. -/
def asInts (k : IntKind) : List V → Option (List Int)
  | [] => some []
  | .c (.int k' n) :: r => bif keq k k' then (asInts k r).map (n :: ·) else none
  | _ :: _ => none

/-- The one kind of integers that a type's cells are. -/
def homo (t : TI) : Option IntKind := match t.zero with
  | .int k _ :: r => bif r.all (fun | .int k' _ => keq k k' | _ => false) then some k else none
  | _ => none

def mkRow (t : TI) (cs : List V) : Option Blk := match homo t with
  | some k => (asInts k cs).map (.ints k)
  | none => some (.vals cs)

/-- build's parts laid over the zero cells. -/
def fillV (place : Nat → Option (Nat × Nat)) : List V → List (Nat × V) → Option (List V)
  | cs, [] => some cs
  | cs, (i, v) :: r => match place i with
    | none => none
    | some (off, size) => match cellsO v with
      | some vs => bif Nat.beq vs.length size && Nat.blt 0 size then
        (match setVals cs off vs with | some cs => fillV place cs r | none => none) else none
      | none => none

def fieldOf (ty : Nat → Option TI) (fs : List (Nat × Nat)) (i : Nat) : Option (Nat × Nat) := match fs[i]? with
  | some (t, off) => match ty t with | some ti => some (off, ti.size) | none => none
  | none => none

def repV : Nat → List V → List V
  | 0, _ => []
  | n + 1, l => l ++ repV n l

def mx2 (a b : Int) : Int := if b > a then b else a
def mn2 (a b : Int) : Int := if b < a then b else a

def bitsOp (op : BinOp) (k : IntKind) (a b : Int) : Option Int := match op with
  | .and => some (k.wrap (BitVec.ofInt k.bits a &&& BitVec.ofInt k.bits b).toNat)
  | .or => some (k.wrap (BitVec.ofInt k.bits a ||| BitVec.ofInt k.bits b).toNat)
  | .xor => some (k.wrap (BitVec.ofInt k.bits a ^^^ BitVec.ofInt k.bits b).toNat)
  | .andNot => some (k.wrap (BitVec.ofInt k.bits a &&& ~~~ BitVec.ofInt k.bits b).toNat)
  | _ => none

def intOp (op : BinOp) (k : IntKind) (a b : Int) : Res := match op with
  | .add => pureV (.c (.int k (k.wrap (a + b))))
  | .sub => pureV (.c (.int k (k.wrap (a - b))))
  | .mul => pureV (.c (.int k (k.wrap (a * b))))
  | .quo => pureIf (!(b == 0)) (.c (.int k (k.wrap (a.tdiv b))))
  | .rem => pureIf (!(b == 0)) (.c (.int k (a.tmod b)))
  | .eql => pureV (.c (.bool (a == b)))
  | .neq => pureV (.c (.bool (a != b)))
  | .lss => pureV (.c (.bool (decide (a < b))))
  | .leq => pureV (.c (.bool (decide (a ≤ b))))
  | .gtr => pureV (.c (.bool (decide (a > b))))
  | .geq => pureV (.c (.bool (decide (a ≥ b))))
  | .and | .or | .xor | .andNot => match bitsOp op k a b with
    | some n => pureV (.c (.int k n))
    | none => none
  | _ => none

def shiftOp (op : BinOp) (k : IntKind) (a b : Int) : Res := match op with
  | .shl => pureIf (decide (0 ≤ b)) (.c (.int k (k.wrap (a * 2 ^ (min b.toNat k.bits)))))
  | .shr => pureIf (decide (0 ≤ b)) (.c (.int k (a.fdiv (2 ^ (min b.toNat k.bits)))))
  | _ => none

def eq1 (ti : Option TI) (x y : V) : Option Bool := match ti with
  | some ⟨.int _, _, _, _⟩ => (match x, y with
    | .c (.int k a), .c (.int k' b) => bif keq k k' then some (a == b) else none
    | _, _ => none)
  | some ⟨.bool, _, _, _⟩ => (match x, y with
    | .c (.bool a), .c (.bool b) => some (a == b)
    | _, _ => none)
  | _ => none

/-- Structs whose fields are whole numbers and bools: whether all are alike. -/
def eqCells (ty : Nat → Option TI) : List (Nat × Nat) → Nat → List V → List V → Option Bool
  | [], _, [], [] => some true
  | [(t, off)], i, [x], [y] => bif Nat.beq off i then eq1 (ty t) x y else none
  | (t, off) :: r, i, x :: cx, y :: cy => bif Nat.beq off i then
      (match eq1 (ty t) x y, eqCells ty r (i + 1) cx cy with
       | some e, some e' => some (e && e')
       | _, _ => none) else none
  | _, _, _, _ => none

def eqStruct (ty : Nat → Option TI) (t : Nat) (x y : List V) : Option Bool := match ty t with
  | some ⟨.struct fs, _, _, _⟩ => eqCells ty fs 0 x y
  | _ => none

def binV (ty : Nat → Option TI) (t : Nat) (op : BinOp) (x y : V) : Res := match op, x, y with
  | .shl, .c (.int k a), .c (.int _ b) => shiftOp .shl k a b
  | .shr, .c (.int k a), .c (.int _ b) => shiftOp .shr k a b
  | op, .c (.int k a), .c (.int k' b) => bif keq k k' then intOp op k a b else none
  | .eql, .c (.bool a), .c (.bool b) => (match ty t with | some ⟨.bool, _, _, _⟩ => pureV (.c (.bool (a == b))) | _ => none)
  | .neq, .c (.bool a), .c (.bool b) => (match ty t with | some ⟨.bool, _, _, _⟩ => pureV (.c (.bool (!(a == b)))) | _ => none)
  | .add, .c (.string a), .c (.string b) => pureIf (decide (((a.size + b.size : Nat) : Int) ≤ 9223372036854775807)) (.c (.string (a ++ b)))
  | .eql, .c (.string a), .c (.string b) => pureV (.c (.bool (a.toList == b.toList)))
  | .neq, .c (.string a), .c (.string b) => pureV (.c (.bool (!(a.toList == b.toList))))
  | .eql, .agg a, .agg b => match eqStruct ty t a b with | some e => pureV (.c (.bool e)) | none => none
  | .neq, .agg a, .agg b => match eqStruct ty t a b with | some e => pureV (.c (.bool (!e))) | none => none
  | _, _, _ => none

def pickV (b : Bool) (x y : V) : V := match x, y with
  | .c (.bool p), .c (.bool q) => .c (.bool (bif b then p else q))
  | x, y => bif b then x else y

def bytesOfInts (l : List Int) : ByteArray := ⟨(l.map fun n => UInt8.ofNat n.toNat).toArray⟩
def intsOfBytes (s : ByteArray) : List Int := s.data.toList.map fun b => (b.toNat : Int)
def byteAt (s : ByteArray) (i : Nat) : Int := ((s.data.toList.getD i 0).toNat : Int)

/-- A slice's cells, for one who only reads: kind, cells an element, list. -/
def rowOf (h : Nat → Blk) : V → Option (IntKind × Nat × List Int × List Nat)
  | .sw id w => match h id with | .ints k l => some (k, w, l, [id]) | _ => none
  | .sl id w off len => match h id with | .ints k l => some (k, w, (l.drop off).take (mulw w len), [id]) | _ => none
  | .il k w l => some (k, w, l, [])
  | _ => none

def rowV (h : Nat → Blk) : V → Option (Nat × List V × List Nat)
  | .sw id w => match h id with | .vals l => some (w, l, [id]) | _ => none
  | _ => none

def lenV (h : Nat → Blk) : V → Option (Nat × List Nat)
  | .c (.slice none 0 0) => some (0, [])
  | .c (.string s) => some (s.size, [])
  | .sw id w => match h id with
    | .ints _ l => some (cnt w l.length, [id])
    | .vals l => some (cnt w l.length, [id])
    | .nl _ _ l => some (cnt w l.length, [id])
    | .dead => none
    | .mp _ _ _ _ => none
    | .it _ _ _ _ => none
  | .sl _ _ _ len => some (len, [])
  | .il _ w l => some (cnt w l.length, [])
  | .iv n _ => some (n, [])
  | _ => none

def lenTk : TK → V → Bool
  | .str, .c (.string _) => true
  | .slice _, .c (.string _) => false
  | .slice _, _ => true
  | _, _ => false

def nilSlice : V := .c (.slice none 0 0)

/-- append's right-hand side. -/
def srcInts (h : Nat → Blk) (k : IntKind) (size : Nat) : V → Option (List Int × List Nat)
  | .c (.slice none 0 0) => some ([], [])
  | .c (.string s) => bif keq k .u8 && Nat.beq size 1 then some (intsOfBytes s, []) else none
  | v => match rowOf h v with
    | some (k', w, l, t) => bif keq k k' && Nat.beq w size then some (l, t) else none
    | none => none

def srcVals (h : Nat → Blk) (size : Nat) : V → Option (List V × List Nat)
  | .c (.slice none 0 0) => some ([], [])
  | v => match rowV h v with
    | some (w, l, t) => bif Nat.beq w size && l.all cellOk then some (l, t) else none
    | none => none

def roomy (n b : Nat) : Bool := decide (n * b ≤ 70368744177664)

/-- A slice of whole numbers as one of a row of slices: what it holds, and the block that is let go. -/
def rowIn (h : Nat → Blk) : V → Option (IntKind × Nat × List Int × List Nat)
  | .sw id w => match h id with | .ints k l => some (k, w, l, [id]) | _ => none
  | .il k w l => some (k, w, l, [])
  | _ => none
/-- One slice appended to a row of slices. -/
def appendN (ti : TI) (h : Nat → Blk) (nid : Nat) (d s : V) : Res := match s with
  | .sw ids w1 => match h ids with
    | .vals [e] => match rowIn h e with
      | some (k, w, l, kl) => bif Nat.beq w1 1 && Nat.beq ti.size 1 then (match d with
        | .c (.slice none 0 0) => some (roomy 1 ti.bytes, { val := .sw nid 1, wr := kl.map fun i => (i, Blk.dead), new := [.nl k w [l]], touch := ids :: kl })
        | .sw id w2 => match h id with
          | .nl k' w' rows => bif keq k k' && Nat.beq w w' && Nat.beq w2 1 then
              some (roomy (rows.length + 1) ti.bytes, { val := .sw nid 1, wr := (kl.map fun i => (i, Blk.dead)) ++ [(id, .dead)], new := [.nl k w (rows ++ [l])], touch := id :: ids :: kl }) else none
          | _ => none
        | _ => none) else none
      | none => none
    | _ => none
  | _ => none

def appendV (ti : TI) (h : Nat → Blk) (nid : Nat) (d s : V) : Res := bif !(Nat.blt 0 ti.bytes && Nat.blt 0 ti.size) then none else match homo ti with
  | some k => match srcInts h k ti.size s with
    | none => none
    | some (src, t) => match d with
      | .c (.slice none 0 0) => some (roomy (cnt ti.size src.length) ti.bytes, { val := .sw nid ti.size, new := [.ints k src], touch := t })
      | .sw id w => match h id with
        | .ints k' l => bif keq k k' && Nat.beq w ti.size then
            some (roomy (cnt ti.size (l.length + src.length)) ti.bytes, { val := .sw nid ti.size, wr := [(id, .dead)], new := [.ints k (l ++ src)], touch := id :: t }) else none
        | _ => none
      | _ => none
  | none => bif ti.isSl then appendN ti h nid d s else match srcVals h ti.size s with
    | none => none
    | some (src, t) => match d with
      | .c (.slice none 0 0) => some (roomy (cnt ti.size src.length) ti.bytes, { val := .sw nid ti.size, new := [.vals src], touch := t })
      | .sw id w => match h id with
        | .vals l => bif Nat.beq w ti.size then
            some (roomy (cnt ti.size (l.length + src.length)) ti.bytes, { val := .sw nid ti.size, wr := [(id, .dead)], new := [.vals (l ++ src)], touch := id :: t }) else none
        | _ => none
      | _ => none

def splice (l : List Int) (off : Nat) (x : List Int) : List Int := l.take off ++ x ++ l.drop (off + x.length)

def copyV (ti : TI) (h : Nat → Blk) (d s : V) : Res := match homo ti with
  | none => none
  | some k => match srcInts h k ti.size s with
    | none => none
    | some (src, t) => match d with
      | .sw id w => match h id with
        | .ints k' l => bif keq k k' && Nat.beq w ti.size then
            let n : Nat := min (cnt w src.length) (cnt w l.length)
            some (true, { val := .c (.int .i64 (n : Int)), wr := [(id, .ints k (splice l 0 (src.take (mulw w n))))], touch := id :: t }) else none
        | _ => none
      | _ => none

def foldInts (f : Int → Int → Int) (k : IntKind) : Int → List V → Option Int
  | a, [] => some a
  | a, .c (.int k' b) :: r => bif keq k k' then foldInts f k (f a b) r else none
  | _, _ :: _ => none

def minmax (f : Int → Int → Int) : List V → Res
  | .c (.int k a) :: r => match foldInts f k a r with | some n => pureV (.c (.int k n)) | none => none
  | _ => none

def builtinV (ty : Nat → Option TI) (nid : Nat) (b : Builtin) (ts : List Nat) (xs : List V) (h : Nat → Blk) : Res := match b, xs with
  | .len, [x] => match ts with
    | t :: _ => (match ty t, lenV h x with
      | some ti, some (n, tc) => bif lenTk ti.tk x then some (true, { val := .c (.int .i64 (n : Int)), touch := tc }) else none
      | _, _ => none)
    | _ => none
  | .max, xs => minmax mx2 xs
  | .min, xs => minmax mn2 xs
  | .append, [d, s] => match ts with
    | t :: t2 :: _ => match ty t, ty t2 with
      | some ⟨.slice e, _, _, _⟩, some t2 => match t2.tk with
        | .slice _ | .str => (match ty e with | some ti => appendV ti h nid d s | none => none)
        | _ => none
      | _, _ => none
    | _ => none
  | .copy, [d, s] => match ts with
    | t :: _ => match ty t with
      | some ⟨.slice e, _, _, _⟩ => match ty e with | some ti => copyV ti h d s | none => none
      | _ => none
    | _ => none
  | _, _ => none

def indexAt (ty : Nat → Option TI) (t : Nat) (x i : V) (h : Nat → Blk) : Res := match i, ty t with
  | .c (.int _ n), some ⟨.slice e, _, _, _⟩ => match ty e with
    | none => none
    | some te => match x with
      | .sw id w => bif Nat.beq w te.size then match h id with
        | .ints _ l => some (decide (0 ≤ n) && decide (n < (cnt w l.length : Nat)), { val := .ptr id (mulw w n.toNat) w, touch := [id] })
        | .vals l => some (decide (0 ≤ n) && decide (n < (cnt w l.length : Nat)), { val := .ptr id (mulw w n.toNat) w, touch := [id] })
        | .nl _ _ l => some (decide (0 ≤ n) && decide (n < (cnt w l.length : Nat)), { val := .ptr id (mulw w n.toNat) w, touch := [id] })
        | .dead => none
        | .mp _ _ _ _ => none
        | .it _ _ _ _ => none
        else none
      | .sl id w off len => bif Nat.beq w te.size then pureIf (decide (0 ≤ n) && decide (n < (len : Int))) (.ptr id (off + mulw w n.toNat) w) else none
      | .il k w l => bif Nat.beq w te.size then pureIf (decide (0 ≤ n) && decide (n < (cnt w l.length : Nat))) (.ilp k l (mulw w n.toNat) w) else none
      | .iv m cols => bif Nat.beq cols.length te.size then pureIf (decide (0 ≤ n) && decide (n < (m : Int))) (.ivp cols n.toNat 0 cols.length) else none
      | _ => none
  | .c (.int _ n), some ⟨.arr len e, _, _, _⟩ => match ty e with
    | none => none
    | some te => match x with
      | .ptr id off ext => bif Nat.ble (len * te.size) ext then pureIf (decide (0 ≤ n) && decide (n < (len : Int))) (.ptr id (off + mulw te.size n.toNat) te.size) else none
      | .ilp k l off ext => bif Nat.ble (len * te.size) ext then pureIf (decide (0 ≤ n) && decide (n < (len : Int))) (.ilp k l (off + mulw te.size n.toNat) te.size) else none
      | .ivp l i off ext => bif Nat.ble (len * te.size) ext then pureIf (decide (0 ≤ n) && decide (n < (len : Int))) (.ivp l i (off + mulw te.size n.toNat) te.size) else none
      | _ => none
  | _, _ => none

/-- An array's whole numbers. -/
def intElems (te : TI) (cs : List V) : Option (IntKind × List Int) := match te.tk with
  | .int k => (match asInts k cs with | some l => some (k, l) | none => none)
  | _ => none
def indexOf (ty : Nat → Option TI) (t : Nat) (x i : V) : Res := match i, ty t, x with
  | .c (.int _ n), some ⟨.str, _, _, _⟩, .c (.string s) => pureIf (decide (0 ≤ n) && decide (n < (s.size : Int))) (.c (.int .u8 (byteAt s n.toNat)))
  | .c (.int _ n), some ⟨.arr len e, _, _, _⟩, .agg cs => match ty e with
    | none => none
    | some te => match intElems te cs with
      | some (k, l) => bif Nat.beq l.length len && Nat.beq te.size 1 then pureIf (decide (0 ≤ n) && decide (n < (len : Int))) (.c (.int k (l.getD n.toNat 0))) else none
      | none => match takeV (dropV cs (n.toNat * te.size)) te.size with
        | none => none
        | some cs => bif Nat.blt 0 te.size then pureIf (decide (0 ≤ n) && decide (n < (len : Int))) (packV te cs) else none
  | _, _, _ => none

def bnd : Option V → Int → Option Int
  | none, d => some d
  | some (.c (.int _ n)), _ => some n
  | some _, _ => none

/-- x[lo:hi:max]: no bound beyond the length (a capacity is not known here). -/
def sliceV (ty : Nat → Option TI) (t : Nat) (x : V) (lo hi mx : Option V) (h : Nat → Blk) : Res := match ty t with
  | none => none
  | some ti => bif hi.isNone && mx.isSome then none else match lenV h x with
    | none => (match ti.tk, x with
      | .arr n e, .ptr id off ext => match ty e, bnd lo 0, bnd hi n, bnd mx n with
        | some te, some l, some h, some m => bif Nat.ble (n * te.size) ext && Nat.blt 0 te.size then
            pureIf (decide (0 ≤ l) && decide (l ≤ h) && decide (h ≤ m) && decide (m ≤ (n : Int))) (.sl id te.size (off + mulw te.size l.toNat) (h.toNat - l.toNat)) else none
        | _, _, _, _ => none
      | _, _ => none)
    | some (len, tc) => match bnd lo 0, bnd hi len, bnd mx len with
      | some l, some h', some m =>
        let ok := decide (0 ≤ l) && decide (l ≤ h') && decide (h' ≤ m) && decide (m ≤ (len : Int))
        match ti.tk, x with
        | .str, .c (.string s) => (match mx with | none => pureIf ok (.c (.string (s.extract l.toNat h'.toNat))) | some _ => none)
        | .slice e, .sw id w => (match ty e with
          | some te => bif Nat.beq w te.size then some (ok, { val := .sl id w (mulw w l.toNat) (h'.toNat - l.toNat), touch := tc }) else none
          | none => none)
        | .slice e, .sl id w off _ => (match ty e with
          | some te => bif Nat.beq w te.size then pureIf ok (.sl id w (off + mulw w l.toNat) (h'.toNat - l.toNat)) else none
          | none => none)
        | .slice e, .il k w l0 => (match ty e with
          | some te => bif Nat.beq w te.size then pureIf ok (.il k w ((l0.drop (mulw w l.toNat)).take (mulw w (h'.toNat - l.toNat)))) else none
          | none => none)
        | .slice e, .c (.slice none 0 0) => (match ty e with
          | some _ => pureIf ok nilSlice
          | none => none)
        | _, _ => none
      | _, _, _ => none

def unV (op : UnOp) (x : V) : Res := match op, x with
  | .neg, .c (.int k n) => pureV (.c (.int k (k.wrap (0 - n))))
  | .not, .c (.bool b) => pureV (.c (.bool (!b)))
  | .xor, .c (.int k n) => match bitsOp .xor k (if k.signed then -1 else k.max) n with
    | some n => pureV (.c (.int k n))
    | none => none
  | _, _ => none

def convV (ty : Nat → Option TI) (nid : Nat) (s d : Nat) (x : V) (h : Nat → Blk) : Res := match ty s, ty d with
  | some ts, some td => match td.tk, x with
    | .int k, .c (.int _ n) => pureV (.c (.int k (k.wrap n)))
    | .str, .c (.string s) => pureV (.c (.string s))
    | .str, .c (.slice none 0 0) => (match ts.tk with
      | .slice e => (match ty e with | some ⟨.int .u8, _, _, _⟩ => pureV (.c (.string ByteArray.empty)) | _ => none)
      | _ => none)
    | .slice e, .c (.string b) => (match ty e with
      | some ⟨.int .u8, _, _, _⟩ => some (true, { val := .sw nid 1, new := [.ints .u8 (intsOfBytes b)] })
      | _ => none)
    | .str, x => (match ts.tk with
      | .slice e => (match ty e, rowOf h x with
        | some ⟨.int .u8, _, _, _⟩, some (.u8, w, l, t) => bif Nat.beq w 1 then some (true, { val := .c (.string (bytesOfInts l)), touch := t }) else none
        | _, _ => none)
      | _ => none)
    | _, _ => none
  | _, _ => none

def loadV (ti : TI) (a : V) (h : Nat → Blk) : Res := match a with
  | .ptr id off ext => bif Nat.ble ti.size ext && Nat.blt 0 ti.size then
      match loadBlk ti off (h id) with
      | some v => some (true, { val := v, touch := [id] })
      | none => none
    else none
  | .ilp k l off ext => bif Nat.ble ti.size ext && Nat.blt 0 ti.size then
      match loadBlk ti off (.ints k l) with
      | some v => pureV v
      | none => none
    else none
  | .ivp l i off ext => bif Nat.ble ti.size ext && Nat.blt 0 ti.size then
      match loadBlk ti off (.vals ((colsAt l i).map .c)) with
      | some v => pureV v
      | none => none
    else none
  | _ => none

def fieldAtV (ty : Nat → Option TI) (fs : List (Nat × Nat)) (f : Nat) (x : V) : Res := match x with
  | .ptr id off ext => (match fieldOf ty fs f with
    | some (fo, fsz) => bif Nat.ble (fo + fsz) ext && Nat.blt 0 fsz then pureV (.ptr id (off + fo) fsz) else none
    | none => none)
  | .ilp k l off ext => (match fieldOf ty fs f with
    | some (fo, fsz) => bif Nat.ble (fo + fsz) ext && Nat.blt 0 fsz then pureV (.ilp k l (off + fo) fsz) else none
    | none => none)
  | .ivp l i off ext => (match fieldOf ty fs f with
    | some (fo, fsz) => bif Nat.ble (fo + fsz) ext && Nat.blt 0 fsz then pureV (.ivp l i (off + fo) fsz) else none
    | none => none)
  | _ => none

/- Maps: keys are rows of whole numbers. -/
def eqL : List Int → List Int → Bool
  | [], [] => true
  | a :: r, b :: s => (a == b) && eqL r s
  | _, _ => false
def mpos (l : List Int) : List (List Int) → Nat → Option Nat
  | [], _ => none
  | x :: r, n => bif eqL l x then some n else mpos l r (n + 1)
def mhas (l : List Int) (ks : List (List Int)) : Bool := (mpos l ks 0).isSome
def mputK (l : List Int) (ks : List (List Int)) : List (List Int) := bif mhas l ks then ks else ks ++ [l]
def mput {α : Type} (l : List Int) (x : α) (ks : List (List Int)) (vs : List α) : List α := match mpos l ks 0 with
  | some j => vs.set j x
  | none => vs ++ [x]
def mgetI (l : List Int) (ks : List (List Int)) (vs : List Int) : Int := match mpos l ks 0 with
  | some j => vs.getD j 0
  | none => 0
def mgetB (l : List Int) (ks : List (List Int)) (vs : List Bool) : Bool := match mpos l ks 0 with
  | some j => vs.getD j false
  | none => false
def newCol (t : TI) : Option Col := match t.tk with
  | .int k => some (.ints k [])
  | .bool => some (.bools [])
  | _ => none
def putCol (l : List Int) (ks : List (List Int)) : Col → V → Option Col
  | .ints k vs, .c (.int k' x) => bif keq k k' then some (.ints k (mput l x ks vs)) else none
  | .bools vs, .c (.bool x) => some (.bools (mput l x ks vs))
  | _, _ => none
def getCol (l : List Int) (ks : List (List Int)) : Col → Option V
  | .ints k vs => some (.c (.int k (mgetI l ks vs)))
  | .bools vs => some (.c (.bool (mgetB l ks vs)))
  | .strs _ => none
def keyL (k : IntKind) (n : Nat) : V → Option (List Int)
  | .agg cs => match asInts k cs with
    | some l => bif Nat.beq l.length n then some l else none
    | none => none
  | _ => none
def colKind (t : TI) : Col → Bool
  | .ints k _ => match t.tk, t.zero with | .int k', [.int k'' z] => keq k k' && (keq k k'' && (z == 0)) | _, _ => false
  | .bools _ => match t.tk, t.zero with | .bool, [.bool z] => !z | _, _ => false
  | .strs _ => false
/-- Fields that are whole numbers, one behind the other. -/
def intF (ty : Nat → Option TI) : List (Nat × Nat) → Nat → Nat → Bool
  | [], _, 0 => true
  | (t, off) :: r, i, n + 1 => Nat.beq off i && ((match ty t with | some ⟨.int _, _, _, _⟩ => true | _ => false) && intF ty r (i + 1) n)
  | _, _, _ => false
def keyFit (ty : Nat → Option TI) (n : Nat) (t : TI) : Bool := match t.tk with | .struct fs => intF ty fs 0 n | _ => false
def makeMapV (ty : Nat → Option TI) (nid t : Nat) : Res := match ty t with
  | some ⟨.map kt et, _, _, _⟩ => match ty kt, ty et with
    | some tk, some te => match homo tk, newCol te with
      | some k, some c => bif keyFit ty tk.size tk then some (true, { val := .mref nid, new := [.mp k tk.size [] c] }) else none
      | _, _ => none
    | _, _ => none
  | _ => none
def lookupV (ty : Nat → Option TI) (t : Nat) (m i : V) (ok : Bool) (h : Nat → Blk) : Res := match ty t, m with
  | some ⟨.map kt et, _, _, _⟩, .mref id => match h id, ty kt, ty et with
    | .mp k n ks vs, some tk, some te => match keyL k n i, getCol (match keyL k n i with | some l => l | none => []) ks vs with
      | some l, some v => bif keyFit ty n tk && colKind te vs then some (true, { val := bif ok then .tup [v, .c (.bool (mhas l ks))] else v, touch := [id] }) else none
      | _, _ => none
    | _, _, _ => none
  | _, _ => none
def mapUpdateV (ty : Nat → Option TI) (t : Nat) (m i x : V) (h : Nat → Blk) : Res := match ty t, m with
  | some ⟨.map kt _, _, _, _⟩, .mref id => match h id, ty kt with
    | .mp k n ks vs, some tk => match keyL k n i with
      | some l => match putCol l ks vs x with
        | some c => bif keyFit ty n tk then some (true, { val := undefV, wr := [(id, .mp k n (mputK l ks) c)], touch := [id] }) else none
        | none => none
      | none => none
    | _, _ => none
  | _, _ => none

def takeCol (n : Nat) : Col → Col
  | .ints k l => .ints k (l.take n)
  | .bools l => .bools (l.take n)
  | .strs l => .strs (l.take n)
def stampL (l : List Int) (ks : List (List Int)) : Int := match mpos l ks 0 with
  | some j => (j : Int)
  | none => (ks.length : Int)
/-- An entry's place made, with nought where there was none: the value, and the entry's stamp. -/
def mapEntryV (ty : Nat → Option TI) (t : Nat) (m i : V) (h : Nat → Blk) : Res := match ty t, m with
  | some ⟨.map kt et, _, _, _⟩, .mref id => match h id, ty kt, ty et with
    | .mp k n ks vs, some tk, some te => match keyL k n i, getCol (match keyL k n i with | some l => l | none => []) ks vs with
      | some l, some v => match putCol l ks (takeCol ks.length vs) v with
        | some c => bif keyFit ty n tk && colKind te vs then some (true, { val := .tup [v, .c (.int .i64 (stampL l ks))], wr := [(id, .mp k n (mputK l ks) c)], touch := [id] }) else none
        | none => none
      | _, _ => none
    | _, _, _ => none
  | _, _ => none
def setCol (j : Nat) : Col → V → Option Col
  | .ints k vs, .c (.int k' x) => bif keq k k' then some (.ints k (vs.set j x)) else none
  | .bools vs, .c (.bool x) => some (.bools (vs.set j x))
  | _, _ => none
/-- A value put at a stamp. -/
def entryStoreV (m s x : V) (h : Nat → Blk) : Res := match m, s with
  | .mref id, .c (.int .i64 q) => match h id with
    | .mp k n ks vs => match setCol q.toNat vs x with
      | some c => some (decide (0 ≤ q) && decide (q < (ks.length : Int)), { val := undefV, wr := [(id, .mp k n ks c)], touch := [id] })
      | none => none
    | _ => none
  | _, _ => none

def colV : Col → Nat → V
  | .ints k l, i => .c (.int k (l.getD i 0))
  | .bools l, i => .c (.bool (l.getD i false))
  | .strs l, i => .c (.string (l.getD i ByteArray.empty))
def rangeV (ty : Nat → Option TI) (nid t : Nat) (m : V) (h : Nat → Blk) : Res := match ty t, m with
  | some ⟨.map _ _, _, _, _⟩, .mref id => match h id with
    | .mp _ _ ks _ => some (true, { val := .ptr nid 0 0, new := [.it (some id) ks.length (List.range ks.length) ks.length], touch := [id] })
    | _ => none
  | _, _ => none
def entryV (m : V) (h : Nat → Blk) : Res := match m with
  | .ptr id 0 _ => match h id with
    | .it (some mid) cnt _ cur => (match h mid with
      | .mp k n ks vs => some (Nat.beq ks.length cnt && Nat.blt cur ks.length, { val := .tup [.agg (intsAt k (ks.getD cur []) 0 n), colV vs cur], touch := [id, mid] })
      | _ => none)
    | _ => none
  | _ => none

def act (ty : Nat → Option TI) (nid : Nat) (o : Op) (ev : Operand → V) (h : Nat → Blk) : Res := match o with
  | .move x | .assign x => pureV (ev x)
  | .pick c a b => match ev c with
    | .c (.bool b') => pureV (pickV b' (ev a) (ev b))
    | _ => none
  | .alloc t => match ty t with
    | some ti => some (true, { val := .ptr nid 0 ti.size, new := [.vals (zeroV ti)] })
    | none => none
  | .box t x => match ty t with
    | some ti => match cellsO (ev x) with
      | some vs => bif Nat.beq vs.length ti.size then some (true, { val := .ptr nid 0 ti.size, new := [.vals vs] }) else none
      | none => none
    | none => none
  | .build t ps => match ty t with
    | some ti => (match ti.tk with
      | .struct fs => bif fs.all (fun p => (ty p.1).isSome) then
          (match fillV (fieldOf ty fs) (zeroV ti) (ps.toList.map fun p => (p.1, ev p.2)) with
          | some cs => pureV (.agg cs)
          | none => none) else none
      | .arr _ e => match ty e with
        | some te => match fillV (fun i => some (i * te.size, te.size)) (zeroV ti) (ps.toList.map fun p => (p.1, ev p.2)) with
          | some cs => pureV (.agg cs)
          | none => none
        | none => none
      | _ => none)
    | none => none
  | .buildSlice t len ps => match ty t with
    | some ⟨.slice e, _, _, _⟩ => match ty e with
      | some te => bif Nat.ble (len * te.size) 16777216 && Nat.blt 0 te.size then
          match fillV (fun i => some (i * te.size, te.size)) (repV len (zeroV te)) (ps.toList.map fun p => (p.1, ev p.2)) with
          | some cs => match mkRow te cs with
            | some b => some (true, { val := .sw nid te.size, new := [b] })
            | none => none
          | none => none
        else none
      | none => none
    | _ => none
  | .load t a => match ty t with
    | some ti => loadV ti (ev a) h
    | none => none
  | .store t a x => match ty t, ev a with
    | some ti, .ptr id off ext => match cellsO (ev x) with
      | some vs => bif Nat.ble ti.size ext && Nat.beq vs.length ti.size then
        match storeBlk off vs (h id) with
        | some b => some (true, { val := undefV, wr := [(id, b)], touch := [id] })
        | none => none
        else none
      | none => none
    | _, _ => none
  | .nilCheck x => match ev x with
    | .ptr id off ext => pureV (.ptr id off ext)
    | .ilp k l off ext => pureV (.ilp k l off ext)
    | .ivp l i off ext => pureV (.ivp l i off ext)
    | _ => none
  | .binOp op t x y _ => binV ty t op (ev x) (ev y)
  | .unOp op _ x => unV op (ev x)
  | .convert s d x => convV ty nid s d (ev x) h
  | .makeFunc (.func f) first cap => pureV (.fn f (first.toList.map ev) (cap.toList.map ev))
  | .makeSlice t l c => match ty t, ev l, ev c with
    | some ⟨.slice e, _, _, _⟩, .c (.int .i64 n), .c (.int .i64 m) => match ty e with
      | some te => match homo te, te.zero with
        | some k, _ => bif te.zero.all (fun | .int _ z => z == 0 | _ => false) then
            some (decide (n = m) && decide (0 ≤ n) && decide (n ≤ 9223372036854775807) && roomy n.toNat te.bytes, { val := .sw nid te.size, new := [.ints k (List.replicate (mulw te.size n.toNat) 0)] }) else none
        | none, _ => none
      | none => none
    | _, _, _ => none
  | .slice t x lo hi mx => sliceV ty t (ev x) (lo.map ev) (hi.map ev) (mx.map ev) h
  | .fieldAddr t x f => match ty t with
    | some ⟨.struct fs, _, _, _⟩ => fieldAtV ty fs f (ev x)
    | _ => none
  | .field t x f => match ty t, ev x with
    | some ⟨.struct fs, _, _, _⟩, .agg cs => match fs[f]? with
      | some (t, fo) => match ty t with
        | some te => match takeV (dropV cs fo) te.size with
          | some cs => bif Nat.blt 0 te.size then pureV (packV te cs) else none
          | none => none
        | none => none
      | none => none
    | _, _ => none
  | .indexAddr t x i => indexAt ty t (ev x) (ev i) h
  | .index t x i => indexOf ty t (ev x) (ev i)
  | .extract t i => match ev t with
    | .tup vs => match getV vs i with | some v => pureV v | none => none
    | _ => none
  | .call ⟨.builtin b, args, ts⟩ => builtinV ty nid b ts.toList (args.toList.map ev) h
  | .makeMap t none => makeMapV ty nid t
  | .range t x => rangeV ty nid t (ev x) h
  | .entry x => entryV (ev x) h
  | .lookup t m i ok => lookupV ty t (ev m) (ev i) ok h
  | .mapUpdate t m i x => mapUpdateV ty t (ev m) (ev i) (ev x) h
  | .insert t m i x => mapUpdateV ty t (ev m) (ev i) (ev x) h
  | .mapEntry t m i => mapEntryV ty t (ev m) (ev i) h
  | .entryStore _ m s x => entryStoreV (ev m) (ev s) (ev x) h
  | _ => none

/-- How many blocks an operation may make. -/
def room (tab : Nat → Option Entry) : Op → Nat
  | .alloc _ | .box .. | .buildSlice .. | .makeSlice .. | .makeMap .. | .range .. => 1
  | .convert .. => 1
  | .call ⟨.builtin .append, _, _⟩ => 1
  | .call ⟨.value (.func f), _, _⟩ => (match tab f with | some e => e.fresh | none => 0)
  | .call ⟨.value (.tmp _), _, _⟩ => 1
  | _ => 0

/- References: which blocks a value reaches at first hand. -/
mutual
def refs : V → List Nat
  | .ptr id _ _ => [id]
  | .sw id _ => [id]
  | .sl id _ _ _ => [id]
  | .mref id => [id]
  | .agg cs => refsL cs
  | .tup cs => refsL cs
  | .fn _ a b => refsL a ++ refsL b
  | _ => []
def refsL : List V → List Nat
  | [] => []
  | v :: r => refs v ++ refsL r
end

def refsB : Blk → List Nat
  | .vals cs => refsL cs
  | .it (some mid) _ _ _ => [mid]
  | _ => []

def addNew (σ : List Nat) : List Nat → List Nat
  | [] => σ
  | i :: r => bif σ.any (Nat.beq i) then addNew σ r else addNew (σ ++ [i]) r

def reach (h : Nat → Blk) : Nat → List Nat → List Nat
  | 0, σ => σ
  | n + 1, σ => reach h n (addNew σ (σ.flatMap fun i => refsB (h i)))

def place (i : Nat) : List Nat → Nat → Option Nat
  | [], _ => none
  | j :: r, n => bif Nat.beq j i then some n else place i r (n + 1)

/- Names changed along a map; what has no name there: poison. -/
mutual
def ren (m : Nat → Option Nat) : V → V
  | .ptr id off ext => match m id with | some j => .ptr j off ext | none => .poison
  | .sw id w => match m id with | some j => .sw j w | none => .poison
  | .sl id w off len => match m id with | some j => .sl j w off len | none => .poison
  | .mref id => match m id with | some j => .mref j | none => .poison
  | .agg cs => .agg (renL m cs)
  | .tup cs => .tup (renL m cs)
  | .fn f a b => .fn f (renL m a) (renL m b)
  | .c v => .c v
  | .poison => .poison
  | .il k w l => .il k w l
  | .iv w l => .iv w l
  | .ilp k l off ext => .ilp k l off ext
  | .ivp l i off ext => .ivp l i off ext
def renL (m : Nat → Option Nat) : List V → List V
  | [] => []
  | v :: r => ren m v :: renL m r
end

def renB (m : Nat → Option Nat) : Blk → Blk
  | .vals cs => .vals (renL m cs)
  | .dead => .dead
  | .ints k l => .ints k l
  | .mp k n ks vs => .mp k n ks vs
  | .it mid cnt rem cur => .it (mid.bind m) cnt rem cur
  | .nl k s rows => .nl k s rows

def outName (σ : List Nat) (nid : Nat) (j : Nat) : Option Nat :=
  match σ[j]? with
  | some i => some i
  | none => some (nid + (j - σ.length))

def zipW : List Nat → List Blk → List (Nat × Blk)
  | i :: r, b :: s => (i, b) :: zipW r s
  | _, _ => []

def dropB : List Blk → Nat → List Blk
  | l, 0 => l
  | [], _ + 1 => []
  | _ :: r, n + 1 => dropB r n

/- Arguments that are only read: a block of whole numbers is handed on as what it holds. -/
mutual
def immV (h : Nat → Blk) : V → V × List Nat
  | .sw id w => (match h id with
    | .ints k l => (.il k w l, [id])
    | _ => (.sw id w, []))
  | .sl id w off len => (match h id with
    | .ints k l => (.il k w ((l.drop off).take (mulw w len)), [id])
    | _ => (.sl id w off len, []))
  | .agg cs => (.agg (immL h cs).1, (immL h cs).2)
  | v => (v, [])
def immL (h : Nat → Blk) : List V → List V × List Nat
  | [] => ([], [])
  | v :: r => ((immV h v).1 :: (immL h r).1, (immV h v).2 ++ (immL h r).2)
end

def immArgs (h : Nat → Blk) : List Bool → List V → List V × List Nat
  | true :: bs, v :: r => ((immV h v).1 :: (immArgs h bs r).1, (immV h v).2 ++ (immArgs h bs r).2)
  | false :: bs, v :: r => (v :: (immArgs h bs r).1, (immArgs h bs r).2)
  | [], vs => (vs, [])
  | _, [] => ([], [])

/- Holds a value no immutable slice? -/
mutual
def noImm : V → Bool
  | .il _ _ _ => false
  | .iv _ _ => false
  | .ilp _ _ _ _ => false
  | .ivp _ _ _ _ => false
  | .agg cs => noImmL cs
  | .tup cs => noImmL cs
  | .fn _ a b => noImmL a && noImmL b
  | _ => true
def noImmL : List V → Bool
  | [] => true
  | v :: r => noImm v && noImmL r
end
def noImmB : Blk → Bool
  | .vals cs => noImmL cs
  | .nl _ _ _ => false
  | _ => true

def calleeOut (σ τ : List Nat) (nid : Nat) (v : V) (bs : List Blk) : Out :=
  { val := ren (outName σ nid) v,
    wr := zipW σ (bs.map (renB (outName σ nid))) ++ (bif noImm v && bs.all noImmB then [] else τ.map fun i => (i, .dead)),
    new := dropB (bs.map (renB (outName σ nid))) σ.length,
    touch := σ ++ τ }

def nodup : List Nat → Bool
  | [] => true
  | i :: r => !(r.any (Nat.beq i)) && nodup r

def meets (a b : List Nat) : Bool := a.any fun i => b.any (Nat.beq i)

def callK {R : Type} (tab : Nat → Option Entry) (nid : Nat) (f : Nat) (args : List V) (h : Nat → Blk) (k : Out → Option R) : Option R :=
  match tab f with
  | none => none
  | some e =>
    let at_ := immArgs h e.imm args
    let σ := reach h 3 (addNew [] (refsL at_.1))
    match e.dec (renL (place · σ 0) at_.1) (σ.map fun i => renB (place · σ 0) (h i)) with
    | none => none
    | some (m, enc) => m.bind fun a => (enc a).go fun v bs =>
      bif Nat.ble bs.length (σ.length + e.fresh) && Nat.ble σ.length bs.length && nodup σ && !meets σ at_.2 then k (calleeOut σ at_.2 nid v bs) else none

structure Fp where
  i : Nat
  touch : List Nat
  wr : List Nat

def putT (T : List (Nat × V)) (d : Option Nat) (v : V) : List (Nat × V) := match d with
  | some d => (d, v) :: T
  | none => T

def evExec {R : Type} (E : Env) (nid : Nat) (o : Oper) (T : List (Nat × V)) (h : Nat → Blk) (k : Out → Option R) : Option R := match o.op with
  | .call ⟨.value f, args, _⟩ => match evO T f with
    | .fn g first cap => callK E.tab nid g (first ++ (args.toList.map (evO T) ++ cap)) h k
    | _ => none
  | op => match act E.ty nid op (evO T) h with
    | none => none
    | some (ok, out) => bif ok then k out else none

/-- The blocks that are written, and made, have their places. -/
def okIds (H : List Blk) (nid rm : Nat) (out : Out) : Bool := Nat.ble out.new.length rm && Nat.ble (nid + rm) H.length && out.wr.all fun p => Nat.blt p.1 H.length

def dstOk (n : Nat) : Option Nat → Bool
  | none => true
  | some d => Nat.blt d n

def evOps {R : Type} (E : Env) (all : List Oper) : Nat → List Oper → Nat → List (Nat × V) → List Blk → List Fp → (St → List Fp → Option R) → Option R
  | _, [], _, T, H, fps, k => k ⟨T, H⟩ fps
  | i, o :: rest, nid, T, H, fps, k =>
    let go (T : List (Nat × V)) : Option R :=
      evExec E nid o T (blkAt H) fun out => bif okIds H nid (room E.tab o.op) out then
        evOps E all (i + 1) rest (nid + room E.tab o.op) (putT T o.dst out.val) (news (wrs H out.wr) nid out.new)
          (⟨i, out.touch, out.wr.map (·.1) ++ (List.range out.new.length).map (nid + ·)⟩ :: fps) k
        else none
    let skip (T : List (Nat × V)) : Option R :=
      evOps E all (i + 1) rest (nid + room E.tab o.op) (putT T o.dst undefV) H (⟨i, [], []⟩ :: fps) k
    bif dstOk E.ntmps o.dst then
      match o.guard with
      | none => go T
      | some (j, want) => match (all[j]?).bind (·.dst) with
        | none => none
        | some g => match look T g with
          | .c (.bool true) => bif want then go ((g, .c (.bool true)) :: T) else skip ((g, .c (.bool true)) :: T)
          | .c (.bool false) => bif want then skip ((g, .c (.bool false)) :: T) else go ((g, .c (.bool false)) :: T)
          | .c (.tuple _) => skip T
          | _ => none
    else none

end Go.Proofs.Ytlofhdoefjmabaa.Ev

/-
  The evaluator's second part: regions, normal forms of a state, code. Definitions alone. (A text of ours; no condition.)
-/
namespace Go.Proofs.Ytlofhdoefjmabaa.Ev


/-- Which earlier operations an operation must stand behind, through all its edges: a number's bits. -/
def befores : List Oper → List Nat → List Nat
  | [], acc => acc.reverse
  | o :: r, acc =>
    befores r ((((o.after.toList.filter (Region.binds .any)).map (·.on)).foldl (fun m d => m ||| (1 <<< d) ||| acc.reverse.getD d 0) 0) :: acc)

def tmpsOf (xs : List Operand) : List Nat := xs.filterMap fun | .tmp t => some t | _ => none

/-- What an operation looks at in the frame. -/
def looks (all : List Oper) (o : Oper) : List Nat :=
  tmpsOf o.op.operands.toList ++ (match o.guard with
    | some (j, _) => ((all[j]?).bind (·.dst)).toList
    | none => [])

def apartT (all : List Oper) (x y : Oper) : Bool :=
  (match x.dst with
   | some d => !((looks all y).any (Nat.beq d)) && !(y.dst.toList.any (Nat.beq d))
   | none => true) &&
  (match y.dst with
   | some d => !((looks all x).any (Nat.beq d))
   | none => true)

/-- A look at an entry, and the same entry's place made: the look sees the same behind it. -/
def isLook (x y : Op) : Bool := match x, y with
  | .lookup t (.tmp a) (.tmp b) false, .mapEntry t' (.tmp a') (.tmp b') => Nat.beq t t' && (Nat.beq a a' && Nat.beq b b')
  | _, _ => false

/-- Two of a region's operations may change places: 'x' stands first in the text. -/
def indep (all : List Oper) (bef : List Nat) (x y : Fp) : Bool :=
  (bef.getD y.i 0).testBit x.i ||
  (apartT all (all.getD x.i default) (all.getD y.i default) && (!meets x.touch y.wr || isLook (all.getD x.i default).op (all.getD y.i default).op) && !meets x.wr y.touch && !meets x.wr y.wr)

/-- fps: the last one first. -/
def okDraw (all : List Oper) (bef : List Nat) : List Fp → Bool
  | [] => true
  | y :: r => r.all (fun x => indep all bef x y) && okDraw all bef r

/-- The edges of a region point backwards. -/
def backward : Nat → List Oper → Bool
  | _, [] => true
  | i, o :: r => o.after.toList.all (fun e => !Region.binds .any e || Nat.blt e.on i) && backward (i + 1) r

def plainOps (ops : List Oper) : Bool := ops.all fun o => match o.op with
  | .select .. | .go _ | .defer _ => false
  | _ => true

def roomOps (tab : Nat → Option Entry) : List Oper → Nat
  | [] => 0
  | o :: r => room tab o.op + roomOps tab r

def evRegion {R : Type} (E : Env) (ops : Array Oper) (draw : Bool) (s : St) (k : St → Option R) : Option R :=
  evOps E ops.toList 0 ops.toList s.H.length s.T (s.H ++ List.replicate (roomOps E.tab ops.toList) .dead) [] fun s' fps =>
    bif !draw || (backward 0 ops.toList && plainOps ops.toList && okDraw ops.toList (befores ops.toList []) fps) then k s' else none

/-- Whichever of these: all tell the same. -/
noncomputable def demon {R : Type} (n : Nat) (f : Nat → Option R) : Option R := by
  classical exact if h : 0 < n ∧ ∃ r, ∀ i, i < n → f i = some r then some (Classical.choose h.2) else none

/-- A range's step over a map: whichever entry comes, or none. -/
noncomputable def evNext {R : Type} (d1 d2 : Nat) (it : V) (T : List (Nat × V)) (H : List Blk) (k : St → Option R) : Option R := match it with
  | .ptr id 0 _ => match blkAt H id with
    | .it (some mid) cnt rem _ => (match blkAt H mid with
      | .mp _ _ ks _ => bif Nat.beq ks.length cnt then (bif rem.isEmpty then k ⟨(d2, .c (.bool false)) :: (d1, .poison) :: T, H⟩
          else demon rem.length fun p => k ⟨(d2, .c (.bool true)) :: (d1, .poison) :: T, setBlk H id (.it (some mid) cnt (rem.eraseIdx p) (rem.getD p 0))⟩) else none
      | _ => none)
    | _ => none
  | _ => none

/-- A region that is a range's step: the iterator, and where it is put. -/
def isNext : List Oper → Option (Operand × Nat × Nat)
  | [o1, o2] => match o1.op, o1.dst, o1.guard, o2.op, o2.dst, o2.guard with
    | .next it false, some d1, none, .extract (.tmp t) 0, some d2, none => bif Nat.beq t d1 then some (it, d1, d2) else none
    | _, _, _, _, _, _ => none
  | _ => none

/- A state brought to a form: what is kept, what becomes of it. -/
structure Acc where
  src : List (Option Nat)     -- of each new block: the old one, or none: nothing yet
  blks : List Blk

def findSrc (id : Nat) : List (Option Nat) → Nat → Option Nat
  | [], _ => none
  | some j :: r, n => bif Nat.beq j id then some n else findSrc id r (n + 1)
  | none :: r, n => findSrc id r (n + 1)

/-- A closure's variables, kept ahead. -/
def fnPs (src : List (Option Nat)) : List V → Option (List V)
  | [] => some []
  | .ptr id off ext :: r => (match findSrc id src 0, fnPs src r with
      | some j, some r' => some (.ptr j off ext :: r')
      | _, _ => none)
  | _ :: _ => none

mutual
def shape (h : Nat → Blk) : Sh → V → Acc → Option (V × Acc)
  | .any, v, a => bif (refs v).isEmpty then some (v, a) else
      (match v with
       | .ptr id off ext => (match findSrc id a.src 0 with
          | some j => some (.ptr j off ext, a)
          | none => match h id with
            | .ints k l => some (.ptr a.src.length off ext, ⟨a.src ++ [some id], a.blks ++ [.ints k l]⟩)
            | .vals cs => bif (refsL cs).isEmpty then some (.ptr a.src.length off ext, ⟨a.src ++ [some id], a.blks ++ [.vals cs]⟩) else none
            | .dead => none
            | .nl _ _ _ => none
            | .mp _ _ _ _ => none
            | .it (some mid) cnt rem cur => (match findSrc mid a.src 0 with
              | some j => some (.ptr a.src.length off ext, ⟨a.src ++ [some id], a.blks ++ [.it (some j) cnt rem cur]⟩)
              | none => match h mid with
                | .mp k n ks vs => some (.ptr (a.src.length + 1) off ext, ⟨(a.src ++ [some mid]) ++ [some id], (a.blks ++ [.mp k n ks vs]) ++ [.it (some a.src.length) cnt rem cur]⟩)
                | _ => none)
            | .it none _ _ _ => none)
       | .sw id w => (match findSrc id a.src 0 with
          | some j => some (.sw j w, a)
          | none => match h id with
            | .ints k l => some (.sw a.src.length w, ⟨a.src ++ [some id], a.blks ++ [.ints k l]⟩)
            | .vals cs => bif (refsL cs).isEmpty then some (.sw a.src.length w, ⟨a.src ++ [some id], a.blks ++ [.vals cs]⟩) else none
            | .nl k s rows => some (.sw a.src.length w, ⟨a.src ++ [some id], a.blks ++ [.nl k s rows]⟩)
            | .dead => none
            | .mp _ _ _ _ => none
            | .it _ _ _ _ => none)
       | .sl id w off len => (match findSrc id a.src 0 with
          | some j => some (.sl j w off len, a)
          | none => match h id with
            | .ints k l => some (.sl a.src.length w off len, ⟨a.src ++ [some id], a.blks ++ [.ints k l]⟩)
            | .vals cs => bif (refsL cs).isEmpty then some (.sl a.src.length w off len, ⟨a.src ++ [some id], a.blks ++ [.vals cs]⟩) else none
            | .dead => none
            | .nl _ _ _ => none
            | .mp _ _ _ _ => none
            | .it _ _ _ _ => none)
       | .mref id => (match findSrc id a.src 0 with
          | some j => some (.mref j, a)
          | none => match h id with
            | .mp k n ks vs => some (.mref a.src.length, ⟨a.src ++ [some id], a.blks ++ [.mp k n ks vs]⟩)
            | _ => none)
       | .fn f va vc => (match fnPs a.src va, fnPs a.src vc with
          | some va', some vc' => some (.fn f va' vc', a)
          | _, _ => none)
       | _ => none)
  | .row k w, v, a => (match v with
      | .c (.slice none 0 0) => bif Nat.blt 0 w then some (.sw a.src.length w, ⟨a.src ++ [none], a.blks ++ [.ints k []]⟩) else none
      | .sw id w' => bif Nat.beq w w' then (match findSrc id a.src 0 with
          | some j => some (.sw j w, a)
          | none => match h id with
            | .ints k' l => bif keq k k' then some (.sw a.src.length w, ⟨a.src ++ [some id], a.blks ++ [.ints k' l]⟩) else none
            | _ => none) else none
      | _ => none)
  | .part k w, v, a => (match v with
      | .c (.slice none 0 0) => bif Nat.blt 0 w then some (.sl a.src.length w 0 0, ⟨a.src ++ [none], a.blks ++ [.ints k []]⟩) else none
      | .sw id w' => bif Nat.beq w w' then (match h id with
          | .ints k' l => bif keq k k' then (match findSrc id a.src 0 with
            | some j => some (.sl j w 0 (cnt w l.length), a)
            | none => some (.sl a.src.length w 0 (cnt w l.length), ⟨a.src ++ [some id], a.blks ++ [.ints k' l]⟩)) else none
          | _ => none) else none
      | .sl id w' off len => bif Nat.beq w w' then (match h id with
          | .ints k' l => bif keq k k' then (match findSrc id a.src 0 with
            | some j => some (.sl j w' off len, a)
            | none => some (.sl a.src.length w' off len, ⟨a.src ++ [some id], a.blks ++ [.ints k' l]⟩)) else none
          | _ => none) else none
      | _ => none)
  | .il k w, v, a => (match v with
      | .c (.slice none 0 0) => bif Nat.blt 0 w then some (.il k w [], a) else none
      | .il k' w' l => bif keq k k' && Nat.beq w w' then some (.il k' w' l, a) else none
      | _ => none)
  | .box ss, v, a => (match v with
      | .ptr id off ext => (match findSrc id a.src 0 with
          | some j => some (.ptr j off ext, a)
          | none => match h id with
            | .vals cs => (match shapeL h ss cs ⟨a.src ++ [some id], a.blks ++ [.dead]⟩ with
              | some (cs', a') => some (.ptr a.src.length off ext, ⟨a'.src, setBlk a'.blks a.src.length (.vals cs')⟩)
              | none => none)
            | _ => none)
      | _ => none)
  | .nrow k s, v, a => (match v with
      | .c (.slice none 0 0) => some (.sw a.src.length 1, ⟨a.src ++ [none], a.blks ++ [.nl k s []]⟩)
      | .sw id w' => bif Nat.beq 1 w' then (match findSrc id a.src 0 with
          | some j => some (.sw j 1, a)
          | none => match h id with
            | .nl k' s' rows => bif keq k k' && Nat.beq s s' then some (.sw a.src.length 1, ⟨a.src ++ [some id], a.blks ++ [.nl k' s' rows]⟩) else none
            | _ => none) else none
      | _ => none)
  | .recd ss, v, a => (match v with
      | .agg cs => (match shapeL h ss cs a with
        | some (cs', a') => some (.agg cs', a')
        | none => none)
      | _ => none)
  | .tup ss, v, a => (match v with
      | .tup cs => (match shapeL h ss cs a with
        | some (cs', a') => some (.tup cs', a')
        | none => none)
      | _ => none)
def shapeL (h : Nat → Blk) : List Sh → List V → Acc → Option (List V × Acc)
  | [], [], a => some ([], a)
  | s :: ss, v :: vs, a => (match shape h s v a with
      | some (v', a') => (match shapeL h ss vs a' with
        | some (vs', a'') => some (v' :: vs', a'')
        | none => none)
      | none => none)
  | _, _, _ => none
end

def startAcc (nb : Nat) (H : List Blk) : Acc := ⟨(List.range nb).map some, H.take nb⟩

def blksOk (nb : Nat) : List Blk → Bool
  | [] => true
  | b :: r => (refsB b).all (fun i => Nat.blt i nb) && blksOk nb r

def norm (nb : Nat) (keep : List (Nat × Sh)) (s : St) : Option (List V × List Blk) :=
  match shapeL (blkAt s.H) (keep.map (·.2)) (keep.map fun p => look s.T p.1) (startAcc nb s.H) with
  | some (vs, a) => bif blksOk nb (s.H.take nb) then some (vs, a.blks) else none
  | none => none

/-- Blocks that were handed in and that refer to what is new: brought to a form too. -/
def killB : List (Nat × List Sh) → List Blk → List Blk
  | [], H => H
  | p :: r, H => killB r (setBlk H p.1 .dead)

def shapeB (h : Nat → Blk) : List (Nat × List Sh) → Acc → Option Acc
  | [], a => some a
  | p :: r, a => (match h p.1 with
      | .vals cs => (match shapeL h p.2 cs a with
        | some (cs', a') => shapeB h r ⟨a'.src, setBlk a'.blks p.1 (.vals cs')⟩
        | none => none)
      | _ => none)

def normB (nb : Nat) (bsh : List (Nat × List Sh)) (keep : List (Nat × Sh)) (s : St) : Option (List V × List Blk) :=
  match shapeL (blkAt s.H) (keep.map (·.2)) (keep.map fun p => look s.T p.1) ⟨(List.range nb).map some, killB bsh (s.H.take nb)⟩ with
  | some (vs, a) => (match shapeB (blkAt s.H) bsh a with
      | some a' => bif blksOk nb (killB bsh (s.H.take nb)) && bsh.all (fun p => Nat.blt p.1 nb) then some (vs, a'.blks) else none
      | none => none)
  | none => none

def mkT : List (Nat × Sh) → List V → List (Nat × V)
  | (t, _) :: r, v :: vs => (t, v) :: mkT r vs
  | _, _ => []

/- Results: what is the frame's own and of whole numbers becomes immutable. -/
mutual
def freeze (nb : Nat) (h : Nat → Blk) : Sh → V → Option V
  | .il k w, v => (match v with
      | .c (.slice none 0 0) => bif Nat.blt 0 w then some (.il k w []) else none
      | .il k' w' l => bif keq k k' && Nat.beq w w' then some (.il k' w' l) else none
      | .sw id w' => bif Nat.ble nb id && Nat.beq w w' then (match h id with
          | .ints k' l => bif keq k k' then some (.il k' w l) else none
          | _ => none) else none
      | .sl id w' off len => bif Nat.ble nb id && Nat.beq w w' then (match h id with
          | .ints k' l => bif keq k k' then some (.il k' w ((l.drop off).take (mulw w len))) else none
          | _ => none) else none
      | _ => none)
  | .recd ss, v => (match v with
      | .agg cs => (match freezeL nb h ss cs with | some cs' => some (.agg cs') | none => none)
      | _ => none)
  | .tup ss, v => (match v with
      | .tup cs => (match freezeL nb h ss cs with | some cs' => some (.tup cs') | none => none)
      | _ => none)
  | _, v => bif (refs v).all (fun i => Nat.blt i nb) then some v else none
def freezeL (nb : Nat) (h : Nat → Blk) : List Sh → List V → Option (List V)
  | [], [] => some []
  | s :: ss, v :: vs => (match freeze nb h s v with
      | some v' => (match freezeL nb h ss vs with | some vs' => some (v' :: vs') | none => none)
      | none => none)
  | _, _ => none
end

def resV (E : Env) (s : St) : List ResultVar → Option (List V)
  | [] => some []
  | .tmp t :: r => (match resV E s r with | some vs => some (look s.T t :: vs) | none => none)
  | .cell a t :: r => (match E.ty t, look s.T a with
      | some ti, .ptr id off ext => bif Nat.ble ti.size ext && Nat.blt 0 ti.size then
          (match loadBlk ti off (blkAt s.H id), resV E s r with
           | some v, some vs => some (v :: vs)
           | _, _ => none) else none
      | _, _ => none)

def one (vs : List V) : V := match vs with
  | [v] => v
  | vs => .tup vs

def zipSh : Nat → List Sh → List (Nat × Sh)
  | _, [] => []
  | i, s :: r => (i, s) :: zipSh (i + 1) r

def mkArgs : Nat → List V → List (Nat × V)
  | _, [] => []
  | i, v :: r => (i, v) :: mkArgs (i + 1) r

def fin (E : Env) (s : St) : Option (V × List Blk) :=
  match resV E s E.res with
  | none => none
  | some vs => bif E.own then
      (match normB E.nb E.bsh (zipSh 0 E.rsh) ⟨mkArgs 0 vs, s.H⟩ with
       | none => none
       | some (vs', H') => bif Nat.beq vs.length E.rsh.length && Nat.beq vs'.length E.rsh.length then some (one vs', H') else none)
    else match freezeL E.nb (blkAt s.H) E.rsh vs with
    | none => none
    | some vs => bif blksOk E.nb (s.H.take E.nb) then some (one vs, s.H.take E.nb) else none

def firstRegion : Code → Option Nat
  | .region id _ _ => some id
  | .seq a b => match firstRegion a with
    | some i => some i
    | none => firstRegion b
  | .cond _ x y => match firstRegion x with
    | some i => some i
    | none => firstRegion y
  | .block _ b | .loop b | .scope b => firstRegion b
  | _ => none

def loopKey (c : Code) : Nat := (firstRegion c).getD 0

/-- A loop's rounds, each from a state in its form; 'n': at most so many. -/
def evLoop {R : Type} (nb : Nat) (hd : Hint) (f : St → (Ex → St → Option R) → Option R) : Nat → List V → List Blk → (Ex → St → Option R) → Option R
  | 0, _, _, _ => none
  | n + 1, vs, H, k => f ⟨mkT hd.keep vs, H⟩ fun ex s => match ex with
    | .normal => (match norm nb hd.keep s with
      | some (vs, H) => evLoop nb hd f n vs H k
      | none => none)
    | .ret v bs => k (.ret v bs) .nil
    | e => (match norm nb hd.out s with
      | some (vs, H) => k e ⟨mkT hd.out vs, H⟩
      | none => none)

/-- A scope: jumps to its labels. -/
def evScope {R : Type} (nb : Nat) (hd : Hint) (f : Code → St → (Ex → St → Option R) → Option R) (body : Code) : Nat → Code → List V → List Blk → (Ex → St → Option R) → Option R
  | 0, _, _, _, _ => none
  | n + 1, c, vs, H, k => f c ⟨mkT hd.keep vs, H⟩ fun ex s => match ex with
    | .goto l => (match findLabel body l with
      | some rest => (match norm nb hd.keep s with
        | some (vs, H) => evScope nb hd f body n rest vs H k
        | none => none)
      | none => none)
    | .ret v bs => k (.ret v bs) .nil
    | e => (match norm nb hd.out s with
      | some (vs, H) => k e ⟨mkT hd.out vs, H⟩
      | none => none)

def isJump : Code → Nat → Bool
  | .goto _, _ => true
  | .seq a b, n => isJump a n || isJump b n
  | .cond _ a b, n => isJump a n || isJump b n
  | .block _ b, n | .loop b, n | .scope b, n => isJump b n
  | _, _ => false

noncomputable def evCode {R : Type} (E : Env) : Nat → Code → St → (Ex → St → Option R) → Option R
  | 0, _, _, _ => none
  | d + 1, c, s, k => match c with
    | .skip => k .normal s
    | .label _ => k .normal s
    | .region _ ops draw => match isNext ops.toList with
      | some (it, d1, d2) => bif !draw && (Nat.blt d1 E.ntmps && (Nat.blt d2 E.ntmps)) then evNext d1 d2 (evO s.T it) s.T s.H (fun s' => k .normal s') else none
      | none => evRegion E ops draw s fun s' => k .normal s'
    | .seq a b => evCode E d a s fun ex s' => match ex with
      | .normal => evCode E d b s' k
      | e => k e s'
    | .cond c x y => match evO s.T c with
      | .c (.bool b) => bif b then evCode E d x s k else evCode E d y s k
      | _ => none
    | .block id b => evCode E d b s fun ex s' => match ex with
      | .exit i => bif Nat.beq i id then k .normal s' else k (.exit i) s'
      | e => k e s'
    | .loop b => match E.hint (loopKey b) with
      | none => none
      | some hd => match norm E.nb hd.keep s with
        | none => none
        | some (vs, H) => match E.cut (loopKey b) with
          | some e => e.run vs H k
          | none => evLoop E.nb hd (fun s k => evCode E d b s k) E.N vs H k
    | .scope b => bif isJump b 0 then
        match E.hint (1000000 + loopKey b) with
        | none => none
        | some hd => match norm E.nb hd.keep s with
          | none => none
          | some (vs, H) => match E.cut (1000000 + loopKey b) with
            | some e => e.run vs H k
            | none => evScope E.nb hd (fun c s k => evCode E d c s k) b E.N b vs H k
      else evCode E d b s fun ex s' => match ex with
        | .goto _ => none
        | e => k e s'
    | .exit id => k (.exit id) s
    | .goto l => k (.goto l) s
    | .ret => match fin E s with
      | some (v, bs) => k (.ret v bs) .nil
      | none => none
    | _ => none

def lookN {α : Type _} : List (Nat × α) → Nat → Option α
  | [], _ => none
  | (a, v) :: r, t => bif Nat.beq a t then some v else lookN r t

def depth : Nat := 400

/-- A call's body, from its arguments and the blocks that they reach. -/
noncomputable def evFun {R : Type} (E : Env) (body : Code) (args : List V) (bs : List Blk) (k : V → List Blk → Option R) : Option R :=
  evCode E depth body ⟨mkArgs 0 args, bs⟩ fun ex s => match ex with
    | .ret v bs => k v bs
    | .normal => (match fin E s with
      | some (v, bs) => k v bs
      | none => none)
    | _ => none

def subLoops : Code → List Code
  | .seq a b => subLoops a ++ subLoops b
  | .cond _ a b => subLoops a ++ subLoops b
  | .block _ b => subLoops b
  | .loop b => .loop b :: subLoops b
  | .scope b => .scope b :: subLoops b
  | _ => []

def inner : Code → Code
  | .loop b => b
  | .scope b => b
  | c => c

def wi8 (n : Int) : Int := IntKind.wrap .i8 n
def wi16 (n : Int) : Int := IntKind.wrap .i16 n
def wi32 (n : Int) : Int := IntKind.wrap .i32 n
def wi64 (n : Int) : Int := IntKind.wrap .i64 n
def wu8 (n : Int) : Int := IntKind.wrap .u8 n
def wu16 (n : Int) : Int := IntKind.wrap .u16 n
def wu32 (n : Int) : Int := IntKind.wrap .u32 n
def wu64 (n : Int) : Int := IntKind.wrap .u64 n
def bit_and (k : IntKind) (a b : Int) : Int := k.wrap (BitVec.ofInt k.bits a &&& BitVec.ofInt k.bits b).toNat
def bit_or (k : IntKind) (a b : Int) : Int := k.wrap (BitVec.ofInt k.bits a ||| BitVec.ofInt k.bits b).toNat
def bit_xor (k : IntKind) (a b : Int) : Int := k.wrap (BitVec.ofInt k.bits a ^^^ BitVec.ofInt k.bits b).toNat
def bit_andNot (k : IntKind) (a b : Int) : Int := k.wrap (BitVec.ofInt k.bits a &&& ~~~ BitVec.ofInt k.bits b).toNat

end Go.Proofs.Ytlofhdoefjmabaa.Ev

/-
  The evaluator's meaning: how abstract values and blocks read in a world; what stays when the world goes on. (A text of ours; no condition.)
-/
namespace Go.Proofs.Ytlofhdoefjmabaa.Ev

/-- Where a block of ours lies: the world's block (none: nothing yet), the cells that are known, all its cells. -/
structure Pl where
  blk : Option Nat
  n : Nat
  C : Nat

abbrev Rho := Nat → Option Pl

mutual
def Rel (ρ : Rho) (M : Nat → Prop) (w : World) : V → Value → Prop
  | .c x, v => v = x
  | .poison, _ => True
  | .ptr id off ext, v => ∃ b n C, ρ id = some ⟨some b, n, C⟩ ∧ off + ext ≤ n ∧ v = .pointer (some ⟨b, off, none⟩)
  | .sw id s, v => 0 < s ∧ ((∃ b n C cap, ρ id = some ⟨some b, n, C⟩ ∧ n % s = 0 ∧ n / s ≤ cap ∧ cap * s ≤ C ∧ v = .slice (some ⟨b, 0, none⟩) (n / s) cap) ∨ (ρ id = some ⟨none, 0, 0⟩ ∧ v = .slice none 0 0))
  | .sl id s off len, v => 0 < s ∧ ((∃ b n C cap, ρ id = some ⟨some b, n, C⟩ ∧ off + len * s ≤ n ∧ len ≤ cap ∧ off + cap * s ≤ C ∧ v = .slice (some ⟨b, off, none⟩) len cap) ∨ (len = 0 ∧ ∃ a, v = .slice a 0 0))
  | .il k s l, v => 0 < s ∧ l.length % s = 0 ∧ ((l = [] ∧ ∃ a, v = .slice a 0 0) ∨ ∃ b o cap, v = .slice (some ⟨b, o, none⟩) (l.length / s) cap ∧ l.length / s ≤ cap ∧ b < w.heap.size ∧ ¬ M b ∧
      ∀ j, j < l.length → w.cell? ⟨b, o + j, none⟩ = some (.int k (l.getD j 0)))
  | .iv n cols, v => 0 < cols.length ∧ ((n = 0 ∧ ∃ a, v = .slice a 0 0) ∨ ∃ b o cap, v = .slice (some ⟨b, o, none⟩) n cap ∧ n ≤ cap ∧ b < w.heap.size ∧ ¬ M b ∧
      ∀ i, i < n → ∀ j, j < cols.length → w.cell? ⟨b, o + i * cols.length + j, none⟩ = (colsAt cols i)[j]?)
  | .ilp k l off ext, v => ∃ b o, v = .pointer (some ⟨b, o + off, none⟩) ∧ off + ext ≤ l.length ∧ b < w.heap.size ∧ ¬ M b ∧ ∀ j, j < l.length → w.cell? ⟨b, o + j, none⟩ = some (.int k (l.getD j 0))
  | .ivp cols i off ext, v => ∃ b o, v = .pointer (some ⟨b, o + off, none⟩) ∧ off + ext ≤ cols.length ∧ b < w.heap.size ∧ ¬ M b ∧ ∀ j, j < cols.length → w.cell? ⟨b, o + j, none⟩ = (colsAt cols i)[j]?
  | .agg cs, v => ∃ vs : Array Value, v = .agg vs ∧ RelL ρ M w cs vs.toList
  | .tup cs, v => ∃ vs : Array Value, v = .tuple vs ∧ RelL ρ M w cs vs.toList
  | .mref id, v => ∃ b, ρ id = some ⟨some b, 0, 0⟩ ∧ v = .map (some b)
  | .fn f a c, v => ∃ va vc : Array Value, v = .func (.func f) va vc ∧ RelL ρ M w a va.toList ∧ RelL ρ M w c vc.toList
def RelL (ρ : Rho) (M : Nat → Prop) (w : World) : List V → List Value → Prop
  | [], [] => True
  | x :: xs, v :: vs => Rel ρ M w x v ∧ RelL ρ M w xs vs
  | _, _ => False
end

def Blk.live : Blk → Prop
  | .dead => False
  | _ => True

/-- A block of ours in the world. -/
def Own (w : World) (b C : Nat) (c : Array Value) : Prop :=
  ∃ e fr, w.heap[b]? = some (.cells c e fr) ∧ c.size = C ∧ ∀ i, i < C → ¬ (fr.1 ≤ i ∧ i < fr.2)

/-- A column's length. -/
def Col.len : Col → Nat
  | .ints _ l => l.length
  | .bools l => l.length
  | .strs l => l.length

/-- A map's entries. -/
structure Entries (k : IntKind) (n : Nat) (ks : List (List Int)) (vs : Col) (es : Array MapEntry) (clk : Nat) : Prop where
  size : es.size = ks.length
  at_ : ∀ j, j < ks.length → (ks.getD j []).length = n ∧ ∃ e, es[j]? = some e ∧ e.key = .agg ((ks.getD j []).map (Value.int k)).toArray ∧ e.val = colC vs j
  old : ∀ e ∈ es.toList, e.born < clk
  apart : (es.toList.map (·.born)).Nodup
  stamp : clk = ks.length
  born : ∀ (j : Nat) (e : MapEntry), es[j]? = some e → e.born = j

/-- What of a map's entries is to come, and what came last. -/
structure Left (cnt : Nat) (seen : Array Nat) (rem : List Nat) (cur : Nat) : Prop where
  nodup : rem.Nodup
  lt : ∀ j ∈ rem, j < cnt
  iff : ∀ j, j < cnt → (j ∈ rem ↔ seen.contains j = false)
  last : cur < cnt → ∃ seen0 : Array Nat, seen = seen0.push cur

def BlkRel (ρ : Rho) (M : Nat → Prop) (w : World) (p : Pl) : Blk → Prop
  | .dead => True
  | .ints k l => l.length = p.n ∧ ((p.blk = none ∧ l = [] ∧ p.C = 0) ∨ ∃ b c, p.blk = some b ∧ Own w b p.C c ∧ p.n ≤ p.C ∧ ∀ i, i < l.length → c[i]? = some (.int k (l.getD i 0)))
  | .vals cs => cs.length = p.n ∧ ((p.blk = none ∧ cs = [] ∧ p.C = 0) ∨ ∃ b c, p.blk = some b ∧ Own w b p.C c ∧ p.n ≤ p.C ∧ RelL ρ M w cs (c.toList.take p.n))
  | .nl k s rows => rows.length = p.n ∧ ((p.blk = none ∧ rows = [] ∧ p.C = 0) ∨ ∃ b c, p.blk = some b ∧ Own w b p.C c ∧ p.n ≤ p.C ∧ RelL ρ M w (rows.map (.il k s)) (c.toList.take p.n))
  | .mp k n ks vs => p.n = 0 ∧ p.C = 0 ∧ vs.len = ks.length ∧ ∃ b es clk, p.blk = some b ∧ w.heap[b]? = some (.map es clk) ∧ Entries k n ks vs es clk
  | .it mid cnt rem cur => p.n = 0 ∧ p.C = 0 ∧ ∃ b mb seen, p.blk = some b ∧ w.heap[b]? = some (.mapIter (some mb) cnt seen cnt) ∧ (∀ i, mid = some i → ρ i = some ⟨some mb, 0, 0⟩) ∧ Left cnt seen rem cur

/-- The world's blocks that are ours to write. -/
def liveM (ρ : Rho) (h : Nat → Blk) (b : Nat) : Prop := ∃ id n C, ρ id = some ⟨some b, n, C⟩ ∧ (h id).live

/-- What no immutable slice lies in: what is ours to write, and what is others'. -/
def av (F M : Nat → Prop) (b : Nat) : Prop := F b ∨ M b

structure HeapRel (F : Nat → Prop) (ρ : Rho) (h : Nat → Blk) (w : World) : Prop where
  wf : ∀ id p, ρ id = some p → p.n ≤ p.C
  rel : ∀ id, (h id).live → ∃ p, ρ id = some p ∧ BlkRel ρ (av F (liveM ρ h)) w p (h id)
  inj : ∀ id id' b n C n' C', (h id).live → (h id').live → ρ id = some ⟨some b, n, C⟩ → ρ id' = some ⟨some b, n', C'⟩ → id = id'
  low : ∀ b, F b → b < w.heap.size
  out : ∀ b, liveM ρ h b → ¬ F b

/-- What no operation of ours turns. -/
structure Keeps (w w' : World) : Prop where
  os : w'.os = w.os
  tape : w'.tape = w.tape
  output : w'.output = w.output
  drawn : w.drawn ≤ w'.drawn
theorem Keeps.refl (w : World) : Keeps w w := ⟨rfl, rfl, rfl, Nat.le_refl _⟩
theorem Keeps.trans {a b c : World} (h : Keeps a b) (k : Keeps b c) : Keeps a c := ⟨k.os.trans h.os, k.tape.trans h.tape, k.output.trans h.output, Nat.le_trans h.drawn k.drawn⟩

structure Ext (M : Nat → Prop) (w : World) (M' : Nat → Prop) (w' : World) : Prop where
  size : w.heap.size ≤ w'.heap.size
  same : ∀ b, b < w.heap.size → ¬ M b → w'.heap[b]? = w.heap[b]?
  sub : ∀ b, M' b → M b ∨ w.heap.size ≤ b
  keeps : Keeps w w'

def Sub (ρ ρ' : Rho) : Prop := ∀ id p, ρ id = some p → ρ' id = some p

theorem Ext.refl (M : Nat → Prop) (w : World) : Ext M w M w := ⟨Nat.le_refl _, fun _ _ _ => rfl, fun _ h => .inl h, .refl _⟩
theorem Ext.trans {M M' M'' : Nat → Prop} {w w' w'' : World} (h : Ext M w M' w') (h' : Ext M' w' M'' w'') : Ext M w M'' w'' where
  size := Nat.le_trans h.size h'.size
  same b hb hm := by
    have hm' : ¬ M' b := fun hx => (h.sub b hx).elim hm (fun hs => absurd hs (by omega))
    rw [h'.same b (Nat.lt_of_lt_of_le hb h.size) hm', h.same b hb hm]
  sub b hb := (h'.sub b hb).elim (h.sub b) (fun hs => .inr (Nat.le_trans h.size hs))
  keeps := h.keeps.trans h'.keeps
theorem Sub.refl (ρ : Rho) : Sub ρ ρ := fun _ _ h => h
theorem Sub.trans {ρ ρ' ρ'' : Rho} (h : Sub ρ ρ') (h' : Sub ρ' ρ'') : Sub ρ ρ'' := fun id p hp => h' id p (h id p hp)

theorem cell_same {w w' : World} {b : Nat} (h : w'.heap[b]? = w.heap[b]?) (o : Nat) : w'.cell? ⟨b, o, none⟩ = w.cell? ⟨b, o, none⟩ := by
  unfold World.cell?; rw [h]

theorem av_ext {F M M' : Nat → Prop} {w w' : World} (he : Ext M w M' w') {b : Nat} (hb : b < w.heap.size) (h : ¬ av F M b) : ¬ av F M' b :=
  fun hx => hx.elim (fun hf => h (.inl hf)) (fun hm => (he.sub b hm).elim (fun hm => h (.inr hm)) (fun hz => absurd hz (by omega)))

mutual
theorem Rel.mono {ρ ρ' : Rho} {F M M' : Nat → Prop} {w w' : World} (hs : Sub ρ ρ') (he : Ext M w M' w') : ∀ (x : V) (v : Value), Rel ρ (av F M) w x v → Rel ρ' (av F M') w' x v
  | .c _, _, h => by simpa only [Rel] using h
  | .poison, _, _ => by simp only [Rel]
  | .ptr _ _ _, _, h => by
    simp only [Rel] at h ⊢
    obtain ⟨b, n, C, h1, h2, h3⟩ := h
    exact ⟨b, n, C, hs _ _ h1, h2, h3⟩
  | .sw _ _, _, h => by
    simp only [Rel] at h ⊢
    obtain ⟨h0, ⟨b, n, C, cap, h1, h2⟩ | ⟨h1, h2⟩⟩ := h
    · exact ⟨h0, .inl ⟨b, n, C, cap, hs _ _ h1, h2⟩⟩
    · exact ⟨h0, .inr ⟨hs _ _ h1, h2⟩⟩
  | .sl _ _ _ _, _, h => by
    simp only [Rel] at h ⊢
    obtain ⟨h0, ⟨b, n, C, cap, h1, h2⟩ | ⟨h1, h2⟩⟩ := h
    · exact ⟨h0, .inl ⟨b, n, C, cap, hs _ _ h1, h2⟩⟩
    · exact ⟨h0, .inr ⟨h1, h2⟩⟩
  | .il _ _ _, _, h => by
    simp only [Rel] at h ⊢
    obtain ⟨h0, h1, h2 | ⟨b, o, cap, h2, h3, h4, h5, h6⟩⟩ := h
    · exact ⟨h0, h1, .inl h2⟩
    · exact ⟨h0, h1, .inr ⟨b, o, cap, h2, h3, Nat.lt_of_lt_of_le h4 he.size, av_ext he h4 h5, fun j hj => by rw [cell_same (he.same b h4 (fun hm => h5 (.inr hm)))]; exact h6 j hj⟩⟩
  | .iv _ _, _, h => by
    simp only [Rel] at h ⊢
    obtain ⟨h0, h2 | ⟨b, o, cap, h2, h3, h4, h5, h7⟩⟩ := h
    · exact ⟨h0, .inl h2⟩
    · exact ⟨h0, .inr ⟨b, o, cap, h2, h3, Nat.lt_of_lt_of_le h4 he.size, av_ext he h4 h5, fun i hi j hj => by rw [cell_same (he.same b h4 (fun hm => h5 (.inr hm)))]; exact h7 i hi j hj⟩⟩
  | .ilp _ _ _ _, _, h => by
    simp only [Rel] at h ⊢
    obtain ⟨b, o, h2, h3, h4, h5, h6⟩ := h
    exact ⟨b, o, h2, h3, Nat.lt_of_lt_of_le h4 he.size, av_ext he h4 h5, fun j hj => by rw [cell_same (he.same b h4 (fun hm => h5 (.inr hm)))]; exact h6 j hj⟩
  | .ivp _ _ _ _, _, h => by
    simp only [Rel] at h ⊢
    obtain ⟨b, o, h2, h3, h4, h5, h7⟩ := h
    exact ⟨b, o, h2, h3, Nat.lt_of_lt_of_le h4 he.size, av_ext he h4 h5, fun j hj => by rw [cell_same (he.same b h4 (fun hm => h5 (.inr hm)))]; exact h7 j hj⟩
  | .mref _, _, h => by
    simp only [Rel] at h ⊢
    obtain ⟨b, h1, h2⟩ := h
    exact ⟨b, hs _ _ h1, h2⟩
  | .agg cs, _, h => by
    simp only [Rel] at h ⊢
    obtain ⟨vs, h1, h2⟩ := h
    exact ⟨vs, h1, RelL.mono hs he cs _ h2⟩
  | .tup cs, _, h => by
    simp only [Rel] at h ⊢
    obtain ⟨vs, h1, h2⟩ := h
    exact ⟨vs, h1, RelL.mono hs he cs _ h2⟩
  | .fn _ a c, _, h => by
    simp only [Rel] at h ⊢
    obtain ⟨va, vc, h1, h2, h3⟩ := h
    exact ⟨va, vc, h1, RelL.mono hs he a _ h2, RelL.mono hs he c _ h3⟩
theorem RelL.mono {ρ ρ' : Rho} {F M M' : Nat → Prop} {w w' : World} (hs : Sub ρ ρ') (he : Ext M w M' w') : ∀ (x : List V) (v : List Value), RelL ρ (av F M) w x v → RelL ρ' (av F M') w' x v
  | [], [], _ => by simp only [RelL]
  | x :: xs, v :: vs, h => by
    simp only [RelL] at h ⊢
    exact ⟨Rel.mono hs he x v h.1, RelL.mono hs he xs vs h.2⟩
  | [], _ :: _, h => by simp only [RelL] at h
  | _ :: _, [], h => by simp only [RelL] at h
end

theorem RelL.consts {ρ : Rho} {M : Nat → Prop} {w : World} : ∀ (vs : List Value), RelL ρ M w (vs.map .c) vs
  | [] => by simp only [List.map_nil, RelL]
  | v :: vs => by simp only [List.map_cons, RelL, Rel]; exact ⟨trivial, RelL.consts vs⟩
theorem colsAt_length : ∀ (cols : List Col) (i : Nat), (colsAt cols i).length = cols.length
  | [], _ => rfl
  | _ :: r, i => by simp only [colsAt, List.length_cons, colsAt_length r i]

theorem RelL.length {ρ : Rho} {M : Nat → Prop} {w : World} : ∀ {xs : List V} {vs : List Value}, RelL ρ M w xs vs → xs.length = vs.length
  | [], [], _ => rfl
  | _ :: xs, _ :: vs, h => by simp only [RelL] at h; simp [RelL.length h.2]
  | [], _ :: _, h => by simp only [RelL] at h
  | _ :: _, [], h => by simp only [RelL] at h

theorem RelL.get {ρ : Rho} {M : Nat → Prop} {w : World} : ∀ {xs : List V} {vs : List Value}, RelL ρ M w xs vs → ∀ {i : Nat} {x : V}, xs[i]? = some x → ∃ v, vs[i]? = some v ∧ Rel ρ M w x v
  | [], [], _, i, x, hx => by simp at hx
  | y :: xs, v :: vs, h, 0, x, hx => by
    simp only [RelL] at h
    simp at hx; subst hx
    exact ⟨v, rfl, h.1⟩
  | y :: xs, v :: vs, h, i + 1, x, hx => by
    simp only [RelL] at h
    simp at hx
    obtain ⟨u, hu, hr⟩ := RelL.get h.2 hx
    exact ⟨u, by simpa using hu, hr⟩
  | [], _ :: _, h, _, _, _ => by simp only [RelL] at h
  | _ :: _, [], h, _, _, _ => by simp only [RelL] at h

theorem RelL.append {ρ : Rho} {M : Nat → Prop} {w : World} : ∀ {xs : List V} {vs : List Value} {ys : List V} {us : List Value}, RelL ρ M w xs vs → RelL ρ M w ys us → RelL ρ M w (xs ++ ys) (vs ++ us)
  | [], [], _, _, _, h => by simpa using h
  | _ :: xs, _ :: vs, _, _, h, h' => by
    simp only [RelL] at h
    simp only [List.cons_append, RelL]
    exact ⟨h.1, RelL.append h.2 h'⟩
  | [], _ :: _, _, _, h, _ => by simp only [RelL] at h
  | _ :: _, [], _, _, h, _ => by simp only [RelL] at h

theorem RelL.take {ρ : Rho} {M : Nat → Prop} {w : World} : ∀ {xs : List V} {vs : List Value} (n : Nat), RelL ρ M w xs vs → RelL ρ M w (xs.take n) (vs.take n)
  | [], [], n, h => by simp [RelL]
  | _ :: _, _ :: _, 0, _ => by simp [RelL]
  | _ :: xs, _ :: vs, n + 1, h => by
    simp only [RelL] at h
    simp only [List.take_succ_cons, RelL]
    exact ⟨h.1, RelL.take n h.2⟩
  | [], _ :: _, _, h => by simp only [RelL] at h
  | _ :: _, [], _, h => by simp only [RelL] at h

theorem RelL.drop {ρ : Rho} {M : Nat → Prop} {w : World} : ∀ {xs : List V} {vs : List Value} (n : Nat), RelL ρ M w xs vs → RelL ρ M w (xs.drop n) (vs.drop n)
  | [], [], n, h => by simp [RelL]
  | _ :: _, _ :: _, 0, h => by simpa using h
  | _ :: xs, _ :: vs, n + 1, h => by
    simp only [RelL] at h
    simp only [List.drop_succ_cons]
    exact RelL.drop n h.2
  | [], _ :: _, _, h => by simp only [RelL] at h
  | _ :: _, [], _, h => by simp only [RelL] at h

mutual
theorem Rel.world {ρ : Rho} {M : Nat → Prop} {w w' : World} (hw : w'.heap = w.heap) : ∀ (x : V) (v : Value), Rel ρ M w x v → Rel ρ M w' x v
  | .c _, _, h => by simpa only [Rel] using h
  | .poison, _, _ => by simp only [Rel]
  | .ptr _ _ _, _, h => by simpa only [Rel] using h
  | .sw _ _, _, h => by simpa only [Rel] using h
  | .sl _ _ _ _, _, h => by simpa only [Rel] using h
  | .mref _, _, h => by simpa only [Rel] using h
  | .il _ _ _, _, h => by
    simp only [Rel] at h ⊢
    obtain ⟨h0, h1, h2 | ⟨b, o, cap, h2, h3, h4, h5, h6⟩⟩ := h
    · exact ⟨h0, h1, .inl h2⟩
    · exact ⟨h0, h1, .inr ⟨b, o, cap, h2, h3, by rw [hw]; exact h4, h5, fun j hj => by rw [cell_same (w := w) (by rw [hw])]; exact h6 j hj⟩⟩
  | .iv _ _, _, h => by
    simp only [Rel] at h ⊢
    obtain ⟨h0, h2 | ⟨b, o, cap, h2, h3, h4, h5, h7⟩⟩ := h
    · exact ⟨h0, .inl h2⟩
    · exact ⟨h0, .inr ⟨b, o, cap, h2, h3, by rw [hw]; exact h4, h5, fun i hi j hj => by rw [cell_same (w := w) (by rw [hw])]; exact h7 i hi j hj⟩⟩
  | .ilp _ _ _ _, _, h => by
    simp only [Rel] at h ⊢
    obtain ⟨b, o, h2, h3, h4, h5, h6⟩ := h
    exact ⟨b, o, h2, h3, by rw [hw]; exact h4, h5, fun j hj => by rw [cell_same (w := w) (by rw [hw])]; exact h6 j hj⟩
  | .ivp _ _ _ _, _, h => by
    simp only [Rel] at h ⊢
    obtain ⟨b, o, h2, h3, h4, h5, h7⟩ := h
    exact ⟨b, o, h2, h3, by rw [hw]; exact h4, h5, fun j hj => by rw [cell_same (w := w) (by rw [hw])]; exact h7 j hj⟩
  | .agg cs, _, h => by
    simp only [Rel] at h ⊢
    obtain ⟨vs, h1, h2⟩ := h
    exact ⟨vs, h1, RelL.world hw cs _ h2⟩
  | .tup cs, _, h => by
    simp only [Rel] at h ⊢
    obtain ⟨vs, h1, h2⟩ := h
    exact ⟨vs, h1, RelL.world hw cs _ h2⟩
  | .fn _ a c, _, h => by
    simp only [Rel] at h ⊢
    obtain ⟨va, vc, h1, h2, h3⟩ := h
    exact ⟨va, vc, h1, RelL.world hw a _ h2, RelL.world hw c _ h3⟩
theorem RelL.world {ρ : Rho} {M : Nat → Prop} {w w' : World} (hw : w'.heap = w.heap) : ∀ (x : List V) (v : List Value), RelL ρ M w x v → RelL ρ M w' x v
  | [], [], _ => by simp only [RelL]
  | x :: xs, v :: vs, h => by
    simp only [RelL] at h ⊢
    exact ⟨Rel.world hw x v h.1, RelL.world hw xs vs h.2⟩
  | [], _ :: _, h => by simp only [RelL] at h
  | _ :: _, [], h => by simp only [RelL] at h
end

theorem BlkRel.world {ρ : Rho} {M : Nat → Prop} {w w' : World} (hw : w'.heap = w.heap) {p : Pl} {x : Blk} (h : BlkRel ρ M w p x) : BlkRel ρ M w' p x := by
  cases x with
  | dead => trivial
  | ints k l =>
    obtain ⟨h1, h2 | ⟨b, c, h2, ⟨e, fr, h3, h4⟩, h5⟩⟩ := h
    · exact ⟨h1, .inl h2⟩
    · exact ⟨h1, .inr ⟨b, c, h2, ⟨e, fr, by rw [hw]; exact h3, h4⟩, h5⟩⟩
  | vals cs =>
    obtain ⟨h1, h2 | ⟨b, c, h2, ⟨e, fr, h3, h4⟩, h5, h6⟩⟩ := h
    · exact ⟨h1, .inl h2⟩
    · exact ⟨h1, .inr ⟨b, c, h2, ⟨e, fr, by rw [hw]; exact h3, h4⟩, h5, RelL.world hw _ _ h6⟩⟩
  | nl k s rows =>
    obtain ⟨h1, h2 | ⟨b, c, h2, ⟨e, fr, h3, h4⟩, h5, h6⟩⟩ := h
    · exact ⟨h1, .inl h2⟩
    · exact ⟨h1, .inr ⟨b, c, h2, ⟨e, fr, by rw [hw]; exact h3, h4⟩, h5, RelL.world hw _ _ h6⟩⟩
  | mp k n ks vs =>
    obtain ⟨h1, h2, h3, b, es, clk, h4, h5, h6⟩ := h
    exact ⟨h1, h2, h3, b, es, clk, h4, by rw [hw]; exact h5, h6⟩
  | it mid cnt rem cur =>
    obtain ⟨h1, h2, b, mb, seen, h4, h5, h6⟩ := h
    exact ⟨h1, h2, b, mb, seen, h4, by rw [hw]; exact h5, h6⟩

theorem RelL.none {ρ : Rho} {F M : Nat → Prop} {w : World} {xs : List V} {vs : List Value} (h : RelL (fun _ => none) (av F M) w xs vs) : RelL ρ (av F M) w xs vs :=
  RelL.mono (fun _ _ h => by cases h) (Ext.refl _ _) xs vs h
theorem Rel.none {ρ : Rho} {F M : Nat → Prop} {w : World} {x : V} {v : Value} (h : Rel (fun _ => none) (av F M) w x v) : Rel ρ (av F M) w x v :=
  Rel.mono (fun _ _ h => by cases h) (Ext.refl _ _) x v h

theorem BlkRel.mono {ρ ρ' : Rho} {F M M' : Nat → Prop} {w w' : World} (hs : Sub ρ ρ') (he : Ext M w M' w') {p : Pl} {x : Blk} (h : BlkRel ρ (av F M) w p x)
    (hb : ∀ b, p.blk = some b → w'.heap[b]? = w.heap[b]?) : BlkRel ρ' (av F M') w' p x := by
  cases x with
  | dead => trivial
  | ints k l =>
    obtain ⟨h1, h2 | ⟨b, c, h2, ⟨e, fr, h3, h4⟩, h5⟩⟩ := h
    · exact ⟨h1, .inl h2⟩
    · exact ⟨h1, .inr ⟨b, c, h2, ⟨e, fr, by rw [hb b h2]; exact h3, h4⟩, h5⟩⟩
  | vals cs =>
    obtain ⟨h1, h2 | ⟨b, c, h2, ⟨e, fr, h3, h4⟩, h5, h6⟩⟩ := h
    · exact ⟨h1, .inl h2⟩
    · exact ⟨h1, .inr ⟨b, c, h2, ⟨e, fr, by rw [hb b h2]; exact h3, h4⟩, h5, RelL.mono hs he _ _ h6⟩⟩
  | nl k s rows =>
    obtain ⟨h1, h2 | ⟨b, c, h2, ⟨e, fr, h3, h4⟩, h5, h6⟩⟩ := h
    · exact ⟨h1, .inl h2⟩
    · exact ⟨h1, .inr ⟨b, c, h2, ⟨e, fr, by rw [hb b h2]; exact h3, h4⟩, h5, RelL.mono hs he _ _ h6⟩⟩
  | mp k n ks vs =>
    obtain ⟨h1, h2, h3, b, es, clk, h4, h5, h6⟩ := h
    exact ⟨h1, h2, h3, b, es, clk, h4, by rw [hb b h4]; exact h5, h6⟩
  | it mid cnt rem cur =>
    obtain ⟨h1, h2, b, mb, seen, h4, h5, h6, h7⟩ := h
    exact ⟨h1, h2, b, mb, seen, h4, by rw [hb b h4]; exact h5, fun i hi => hs _ _ (h6 i hi), h7⟩

end Go.Proofs.Ytlofhdoefjmabaa.Ev
