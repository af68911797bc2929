/-
  The evaluator's second part: regions, normal forms of a state, code. Definitions alone. (A text of ours; no condition.)
-/
import Derived.Test.YtnjlpjdncejfcaaEvDefs
namespace Go.Proofs.Ytnjlpjdncejfcaa.Ev


/-- Which earlier operations an operation must stand behind, through all its edges: a number's bits. -/
def befores : List Oper → List Nat → List Nat
  | [], acc => acc.reverse
  | o :: r, acc =>
    befores r ((((o.after.toList.filter (Region.binds .any)).map (·.on)).foldl (fun m d => m ||| (1 <<< d) ||| acc.reverse.getD d 0) 0) :: acc)

def tmpsOf (xs : List Operand) : List Nat := xs.filterMap fun | .tmp t => some t | _ => none

/-- What an operation looks at in the frame. -/
def looks (all : List Oper) (o : Oper) : List Nat :=
  tmpsOf o.op.operands.toList ++ (match o.guard with
    | some (j, _) => ((all[j]?).bind (·.dst)).toList
    | none => [])

def apartT (all : List Oper) (x y : Oper) : Bool :=
  (match x.dst with
   | some d => !((looks all y).any (Nat.beq d)) && !(y.dst.toList.any (Nat.beq d))
   | none => true) &&
  (match y.dst with
   | some d => !((looks all x).any (Nat.beq d))
   | none => true)

/-- Two of a region's operations may change places: 'x' stands first in the text. -/
def indep (all : List Oper) (bef : List Nat) (x y : Fp) : Bool :=
  (bef.getD y.i 0).testBit x.i ||
  (apartT all (all.getD x.i default) (all.getD y.i default) && !meets x.touch y.wr && !meets x.wr y.touch && !meets x.wr y.wr)

/-- fps: the last one first. -/
def okDraw (all : List Oper) (bef : List Nat) : List Fp → Bool
  | [] => true
  | y :: r => r.all (fun x => indep all bef x y) && okDraw all bef r

/-- The edges of a region point backwards. -/
def backward : Nat → List Oper → Bool
  | _, [] => true
  | i, o :: r => o.after.toList.all (fun e => !Region.binds .any e || Nat.blt e.on i) && backward (i + 1) r

def plainOps (ops : List Oper) : Bool := ops.all fun o => match o.op with
  | .select .. | .go _ | .defer _ => false
  | _ => true

def roomOps (tab : Nat → Option Entry) : List Oper → Nat
  | [] => 0
  | o :: r => room tab o.op + roomOps tab r

def evRegion {R : Type} (E : Env) (ops : Array Oper) (draw : Bool) (s : St) (k : St → Option R) : Option R :=
  evOps E ops.toList 0 ops.toList s.H.length s.T (s.H ++ List.replicate (roomOps E.tab ops.toList) .dead) [] fun s' fps =>
    bif !draw || (backward 0 ops.toList && plainOps ops.toList && okDraw ops.toList (befores ops.toList []) fps) then k s' else none

/- A state brought to a form: what is kept, what becomes of it. -/
structure Acc where
  src : List (Option Nat)     -- of each new block: the old one, or none: nothing yet
  blks : List Blk

def findSrc (id : Nat) : List (Option Nat) → Nat → Option Nat
  | [], _ => none
  | some j :: r, n => bif Nat.beq j id then some n else findSrc id r (n + 1)
  | none :: r, n => findSrc id r (n + 1)

mutual
def shape (h : Nat → Blk) : Sh → V → Acc → Option (V × Acc)
  | .any, v, a => bif (refs v).isEmpty then some (v, a) else
      (match v with
       | .ptr id off ext => (match findSrc id a.src 0 with
          | some j => some (.ptr j off ext, a)
          | none => match h id with
            | .ints k l => some (.ptr a.src.length off ext, ⟨a.src ++ [some id], a.blks ++ [.ints k l]⟩)
            | .vals cs => bif (refsL cs).isEmpty then some (.ptr a.src.length off ext, ⟨a.src ++ [some id], a.blks ++ [.vals cs]⟩) else none
            | .dead => none)
       | .sw id w => (match findSrc id a.src 0 with
          | some j => some (.sw j w, a)
          | none => match h id with
            | .ints k l => some (.sw a.src.length w, ⟨a.src ++ [some id], a.blks ++ [.ints k l]⟩)
            | .vals cs => bif (refsL cs).isEmpty then some (.sw a.src.length w, ⟨a.src ++ [some id], a.blks ++ [.vals cs]⟩) else none
            | .dead => none)
       | .sl id w off len => (match findSrc id a.src 0 with
          | some j => some (.sl j w off len, a)
          | none => match h id with
            | .ints k l => some (.sl a.src.length w off len, ⟨a.src ++ [some id], a.blks ++ [.ints k l]⟩)
            | .vals cs => bif (refsL cs).isEmpty then some (.sl a.src.length w off len, ⟨a.src ++ [some id], a.blks ++ [.vals cs]⟩) else none
            | .dead => none)
       | .fn f [.ptr id off ext] [] => (match findSrc id a.src 0 with
          | some j => some (.fn f [.ptr j off ext] [], a)
          | none => none)
       | _ => none)
  | .row k w, v, a => (match v with
      | .c (.slice none 0 0) => bif Nat.blt 0 w then some (.sw a.src.length w, ⟨a.src ++ [none], a.blks ++ [.ints k []]⟩) else none
      | .sw id w' => bif Nat.beq w w' then (match findSrc id a.src 0 with
          | some j => some (.sw j w, a)
          | none => match h id with
            | .ints k' l => bif keq k k' then some (.sw a.src.length w, ⟨a.src ++ [some id], a.blks ++ [.ints k' l]⟩) else none
            | _ => none) else none
      | _ => none)
  | .part k w, v, a => (match v with
      | .c (.slice none 0 0) => bif Nat.blt 0 w then some (.sl a.src.length w 0 0, ⟨a.src ++ [none], a.blks ++ [.ints k []]⟩) else none
      | .sw id w' => bif Nat.beq w w' then (match h id with
          | .ints k' l => bif keq k k' then (match findSrc id a.src 0 with
            | some j => some (.sl j w 0 (cnt w l.length), a)
            | none => some (.sl a.src.length w 0 (cnt w l.length), ⟨a.src ++ [some id], a.blks ++ [.ints k' l]⟩)) else none
          | _ => none) else none
      | .sl id w' off len => bif Nat.beq w w' then (match h id with
          | .ints k' l => bif keq k k' then (match findSrc id a.src 0 with
            | some j => some (.sl j w' off len, a)
            | none => some (.sl a.src.length w' off len, ⟨a.src ++ [some id], a.blks ++ [.ints k' l]⟩)) else none
          | _ => none) else none
      | _ => none)
  | .il k w, v, a => (match v with
      | .c (.slice none 0 0) => bif Nat.blt 0 w then some (.il k w [], a) else none
      | .il k' w' l => bif keq k k' && Nat.beq w w' then some (.il k' w' l, a) else none
      | _ => none)
  | .box ss, v, a => (match v with
      | .ptr id off ext => (match findSrc id a.src 0 with
          | some j => some (.ptr j off ext, a)
          | none => match h id with
            | .vals cs => (match shapeL h ss cs ⟨a.src ++ [some id], a.blks ++ [.dead]⟩ with
              | some (cs', a') => some (.ptr a.src.length off ext, ⟨a'.src, setBlk a'.blks a.src.length (.vals cs')⟩)
              | none => none)
            | _ => none)
      | _ => none)
  | .recd ss, v, a => (match v with
      | .agg cs => (match shapeL h ss cs a with
        | some (cs', a') => some (.agg cs', a')
        | none => none)
      | _ => none)
  | .tup ss, v, a => (match v with
      | .tup cs => (match shapeL h ss cs a with
        | some (cs', a') => some (.tup cs', a')
        | none => none)
      | _ => none)
def shapeL (h : Nat → Blk) : List Sh → List V → Acc → Option (List V × Acc)
  | [], [], a => some ([], a)
  | s :: ss, v :: vs, a => (match shape h s v a with
      | some (v', a') => (match shapeL h ss vs a' with
        | some (vs', a'') => some (v' :: vs', a'')
        | none => none)
      | none => none)
  | _, _, _ => none
end

def startAcc (nb : Nat) (H : List Blk) : Acc := ⟨(List.range nb).map some, H.take nb⟩

def blksOk (nb : Nat) : List Blk → Bool
  | [] => true
  | b :: r => (refsB b).all (fun i => Nat.blt i nb) && blksOk nb r

def norm (nb : Nat) (keep : List (Nat × Sh)) (s : St) : Option (List V × List Blk) :=
  match shapeL (blkAt s.H) (keep.map (·.2)) (keep.map fun p => look s.T p.1) (startAcc nb s.H) with
  | some (vs, a) => bif blksOk nb (s.H.take nb) then some (vs, a.blks) else none
  | none => none

def mkT : List (Nat × Sh) → List V → List (Nat × V)
  | (t, _) :: r, v :: vs => (t, v) :: mkT r vs
  | _, _ => []

/- Results: what is the frame's own and of whole numbers becomes immutable. -/
mutual
def freeze (nb : Nat) (h : Nat → Blk) : Sh → V → Option V
  | .il k w, v => (match v with
      | .c (.slice none 0 0) => bif Nat.blt 0 w then some (.il k w []) else none
      | .il k' w' l => bif keq k k' && Nat.beq w w' then some (.il k' w' l) else none
      | .sw id w' => bif Nat.ble nb id && Nat.beq w w' then (match h id with
          | .ints k' l => bif keq k k' then some (.il k' w l) else none
          | _ => none) else none
      | .sl id w' off len => bif Nat.ble nb id && Nat.beq w w' then (match h id with
          | .ints k' l => bif keq k k' then some (.il k' w ((l.drop off).take (mulw w len))) else none
          | _ => none) else none
      | _ => none)
  | .recd ss, v => (match v with
      | .agg cs => (match freezeL nb h ss cs with | some cs' => some (.agg cs') | none => none)
      | _ => none)
  | .tup ss, v => (match v with
      | .tup cs => (match freezeL nb h ss cs with | some cs' => some (.tup cs') | none => none)
      | _ => none)
  | _, v => bif (refs v).all (fun i => Nat.blt i nb) then some v else none
def freezeL (nb : Nat) (h : Nat → Blk) : List Sh → List V → Option (List V)
  | [], [] => some []
  | s :: ss, v :: vs => (match freeze nb h s v with
      | some v' => (match freezeL nb h ss vs with | some vs' => some (v' :: vs') | none => none)
      | none => none)
  | _, _ => none
end

def resV (E : Env) (s : St) : List ResultVar → Option (List V)
  | [] => some []
  | .tmp t :: r => (match resV E s r with | some vs => some (look s.T t :: vs) | none => none)
  | .cell a t :: r => (match E.ty t, look s.T a with
      | some ti, .ptr id off ext => bif Nat.ble ti.size ext && Nat.blt 0 ti.size then
          (match loadBlk ti off (blkAt s.H id), resV E s r with
           | some v, some vs => some (v :: vs)
           | _, _ => none) else none
      | _, _ => none)

def one (vs : List V) : V := match vs with
  | [v] => v
  | vs => .tup vs

def zipSh : Nat → List Sh → List (Nat × Sh)
  | _, [] => []
  | i, s :: r => (i, s) :: zipSh (i + 1) r

def mkArgs : Nat → List V → List (Nat × V)
  | _, [] => []
  | i, v :: r => (i, v) :: mkArgs (i + 1) r

def fin (E : Env) (s : St) : Option (V × List Blk) :=
  match resV E s E.res with
  | none => none
  | some vs => bif E.own then
      (match norm E.nb (zipSh 0 E.rsh) ⟨mkArgs 0 vs, s.H⟩ with
       | none => none
       | some (vs', H') => bif Nat.beq vs.length E.rsh.length && Nat.beq vs'.length E.rsh.length then some (one vs', H') else none)
    else match freezeL E.nb (blkAt s.H) E.rsh vs with
    | none => none
    | some vs => bif blksOk E.nb (s.H.take E.nb) then some (one vs, s.H.take E.nb) else none

def firstRegion : Code → Option Nat
  | .region id _ _ => some id
  | .seq a b => match firstRegion a with
    | some i => some i
    | none => firstRegion b
  | .cond _ x y => match firstRegion x with
    | some i => some i
    | none => firstRegion y
  | .block _ b | .loop b | .scope b => firstRegion b
  | _ => none

def loopKey (c : Code) : Nat := (firstRegion c).getD 0

/-- A loop's rounds, each from a state in its form; 'n': at most so many. -/
def evLoop {R : Type} (nb : Nat) (hd : Hint) (f : St → (Ex → St → Option R) → Option R) : Nat → List V → List Blk → (Ex → St → Option R) → Option R
  | 0, _, _, _ => none
  | n + 1, vs, H, k => f ⟨mkT hd.keep vs, H⟩ fun ex s => match ex with
    | .normal => (match norm nb hd.keep s with
      | some (vs, H) => evLoop nb hd f n vs H k
      | none => none)
    | .ret v bs => k (.ret v bs) .nil
    | e => (match norm nb hd.out s with
      | some (vs, H) => k e ⟨mkT hd.out vs, H⟩
      | none => none)

/-- A scope: jumps to its labels. -/
def evScope {R : Type} (nb : Nat) (hd : Hint) (f : Code → St → (Ex → St → Option R) → Option R) (body : Code) : Nat → Code → List V → List Blk → (Ex → St → Option R) → Option R
  | 0, _, _, _, _ => none
  | n + 1, c, vs, H, k => f c ⟨mkT hd.keep vs, H⟩ fun ex s => match ex with
    | .goto l => (match findLabel body l with
      | some rest => (match norm nb hd.keep s with
        | some (vs, H) => evScope nb hd f body n rest vs H k
        | none => none)
      | none => none)
    | .ret v bs => k (.ret v bs) .nil
    | e => (match norm nb hd.out s with
      | some (vs, H) => k e ⟨mkT hd.out vs, H⟩
      | none => none)

def isJump : Code → Nat → Bool
  | .goto _, _ => true
  | .seq a b, n => isJump a n || isJump b n
  | .cond _ a b, n => isJump a n || isJump b n
  | .block _ b, n | .loop b, n | .scope b, n => isJump b n
  | _, _ => false

def evCode {R : Type} (E : Env) : Nat → Code → St → (Ex → St → Option R) → Option R
  | 0, _, _, _ => none
  | d + 1, c, s, k => match c with
    | .skip => k .normal s
    | .label _ => k .normal s
    | .region _ ops draw => evRegion E ops draw s fun s' => k .normal s'
    | .seq a b => evCode E d a s fun ex s' => match ex with
      | .normal => evCode E d b s' k
      | e => k e s'
    | .cond c x y => match evO s.T c with
      | .c (.bool b) => bif b then evCode E d x s k else evCode E d y s k
      | _ => none
    | .block id b => evCode E d b s fun ex s' => match ex with
      | .exit i => bif Nat.beq i id then k .normal s' else k (.exit i) s'
      | e => k e s'
    | .loop b => match E.hint (loopKey b) with
      | none => none
      | some hd => match norm E.nb hd.keep s with
        | none => none
        | some (vs, H) => match E.cut (loopKey b) with
          | some e => e.run vs H k
          | none => evLoop E.nb hd (fun s k => evCode E d b s k) E.N vs H k
    | .scope b => bif isJump b 0 then
        match E.hint (1000000 + loopKey b) with
        | none => none
        | some hd => match norm E.nb hd.keep s with
          | none => none
          | some (vs, H) => match E.cut (1000000 + loopKey b) with
            | some e => e.run vs H k
            | none => evScope E.nb hd (fun c s k => evCode E d c s k) b E.N b vs H k
      else evCode E d b s fun ex s' => match ex with
        | .goto _ => none
        | e => k e s'
    | .exit id => k (.exit id) s
    | .goto l => k (.goto l) s
    | .ret => match fin E s with
      | some (v, bs) => k (.ret v bs) .nil
      | none => none
    | _ => none

def lookN {α : Type _} : List (Nat × α) → Nat → Option α
  | [], _ => none
  | (a, v) :: r, t => bif Nat.beq a t then some v else lookN r t

def depth : Nat := 400

/-- A call's body, from its arguments and the blocks that they reach. -/
def evFun {R : Type} (E : Env) (body : Code) (args : List V) (bs : List Blk) (k : V → List Blk → Option R) : Option R :=
  evCode E depth body ⟨mkArgs 0 args, bs⟩ fun ex s => match ex with
    | .ret v bs => k v bs
    | .normal => (match fin E s with
      | some (v, bs) => k v bs
      | none => none)
    | _ => none

def subLoops : Code → List Code
  | .seq a b => subLoops a ++ subLoops b
  | .cond _ a b => subLoops a ++ subLoops b
  | .block _ b => subLoops b
  | .loop b => .loop b :: subLoops b
  | .scope b => .scope b :: subLoops b
  | _ => []

def inner : Code → Code
  | .loop b => b
  | .scope b => b
  | c => c

def wi8 (n : Int) : Int := IntKind.wrap .i8 n
def wi16 (n : Int) : Int := IntKind.wrap .i16 n
def wi32 (n : Int) : Int := IntKind.wrap .i32 n
def wi64 (n : Int) : Int := IntKind.wrap .i64 n
def wu8 (n : Int) : Int := IntKind.wrap .u8 n
def wu16 (n : Int) : Int := IntKind.wrap .u16 n
def wu32 (n : Int) : Int := IntKind.wrap .u32 n
def wu64 (n : Int) : Int := IntKind.wrap .u64 n
def bit_and (k : IntKind) (a b : Int) : Int := k.wrap (BitVec.ofInt k.bits a &&& BitVec.ofInt k.bits b).toNat
def bit_or (k : IntKind) (a b : Int) : Int := k.wrap (BitVec.ofInt k.bits a ||| BitVec.ofInt k.bits b).toNat
def bit_xor (k : IntKind) (a b : Int) : Int := k.wrap (BitVec.ofInt k.bits a ^^^ BitVec.ofInt k.bits b).toNat
def bit_andNot (k : IntKind) (a b : Int) : Int := k.wrap (BitVec.ofInt k.bits a &&& ~~~ BitVec.ofInt k.bits b).toNat

end Go.Proofs.Ytnjlpjdncejfcaa.Ev
