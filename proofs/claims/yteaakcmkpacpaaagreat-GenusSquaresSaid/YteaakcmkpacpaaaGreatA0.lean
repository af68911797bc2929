import Derived.WalkKit
import Derived.Laws.StructEq
import Derived.Laws.BytesArg
import Derived.Lib.ConvBytes
import Derived.Laws.IdiomStrings
import Derived.MapKept
import Derived.WideKeyRuns
import Derived.ChangeKeysEq
import Derived.Maps.RangeRun
open Go.Result renaming andThen_ok→hA
open List renaming getD_eq_getElem?_getD→iA,getElem?_append_left→aE,getElem?_append_right→hE,getElem?_take_of_lt→zE,getElem?_eq_getElem→cP,length_eq_zero_iff→hR,getElem?_set_ne→hT,getElem?_toArray→hW,map_cons→eX,getElem?_cons_succ→hX,getElem?_cons_zero→iX,getElem?_map→hY,length_cons→c0,getElem?_eq_none→p0,ext_getElem?→w0,getElem?_drop→l1,getElem?_take→x2,length_nil→y2,mem_singleton→c3,take_of_length_le→l3,append_assoc→n3,length_replicate→s3,mem_map→u3,drop_eq_getElem_cons→x3,all_eq_true→c4,length_take→k4,length_singleton→l4,length_set→p4,mem_map_of_mem→x4,size_toArray→c5,length_drop→k5,map_nil→l5,getElem?_replicate→s5,forIn_cons→w5,eraseIdx_sublist→x5,getElem?_of_mem→b6,all_cons→e6,mem_cons→k6
open Go.Sem renaming run_bind→hB,run_pure→iB,run_ite→b5
open Nat renaming le_refl→hD,mul_le_mul_right→hF,zero_add→hP,lt_of_lt_of_le→hQ,dvd_of_mod_eq_zero→hU,div_mul_cancel→q0,add_assoc→x0,add_mul→y0,mul_mod_left→x1,sub_self→y1,eq_of_beq_eq_true→w3,add_zero→y3,succ_mul→s4,mul_one→y4,le_of_ble_eq_true→a6,div_mul_le_self→l6,add_comm→q6,le_trans→w6,div_one→x6,le_succ→a7
open Option renaming map_eq_some_iff→hG,map_some→hV,map_none→u4,getD_some→p5
open Bool renaming false_eq_true→hI,and_eq_true→hL
open Array renaming getElem?_modify→xK,getElem?_eq_some_iff→yK,getElem?_push→hN,getElem?_toList→o0,getElem?_eq_getElem→u0,getElem?_append_left→n1,toList_push→b4,mem_toList_iff→n4,length_toList→w4
open Go.Builtin renaming append_→l2,copy_→c6,len_→p6
set_option linter.unusedVariables false
set_option linter.unusedSimpArgs false
namespace Go.Proofs.YteaakcmkpacpaaaGreat.Ev
inductive xN where
 |ints (k:IntKind) (l:List Int)
 |bools (l:List Bool)
 |strs (l:List ByteArray)
def cI:xN→Nat→Value
 | .ints k l,i=>.int k (l.getD i 0)
 | .bools l,i=>.bool (l.getD i false)
 | .strs l,i=>.string (l.getD i ByteArray.empty)
def vM:List xN→Nat→List Value
 | [],_=>[]
 |c::r,i=>cI c i::vM r i
inductive V where
 |c (v:Value)
 |poison
 |ptr (id off ext:Nat)
 |sw (id w:Nat)
 |sl (id w off len:Nat)
 |il (k:IntKind) (w:Nat) (l:List Int)
 |iv (n:Nat) (cols:List xN)
 |ilp (k:IntKind) (l:List Int) (off ext:Nat)
 |ivp (cols:List xN) (i off ext:Nat)
 |agg (cs:List V)
 |tup (vs:List V)
 |fn (f:FuncId) (first cap:List V)
 |mref (id:Nat)
 |inl (k:IntKind) (s:Nat) (rows:List (List Int))
 |inlp (k:IntKind) (s:Nat) (rows:List (List Int)) (i:Nat)
 |lv (n:Nat)
inductive qA where
 |dead
 |ints (k:IntKind) (l:List Int)
 |vals (cs:List V)
 |mp (k:IntKind) (n:Nat) (ks:List (List Int)) (vs:xN)
 |it (mid:Option Nat) (gE:Nat) (rem:List Nat) (cur:Nat)
 |nw (k:IntKind) (s:Nat) (rows:List (List Int)) (hole:Option (Nat×Nat))
 |bls (l:List Bool)
structure St where
 T:List (Nat×V)
 H:List qA
def St.nil:St:=⟨[],[]⟩
inductive Ex where
 |normal
 |exit (id:Nat)
 |goto (l:Nat)
 |ret (v:V) (bs:List qA)
inductive TK where
 |int (k:IntKind)|bool|str
 |slice (e:Nat)|arr (n e:Nat)
 |struct (fs:List (Nat×Nat))
 |ptr (e:Nat)|func|other
 |map (k e:Nat)
structure TI where
 tk:TK
 size:Nat
 bytes:Nat
 zero:List Value
def TI.isAgg (t:TI):Bool:=match t.tk with| .struct _=>true| .arr _ _=>true|_=>false
def TI.isSl (t:TI):Bool:=match t.tk with| .slice _=>true|_=>false
inductive vu where
 |one (v:V) (bs:List qA)
 |two (b:Bool) (v1:V) (bs1:List qA) (v2:V) (bs2:List qA)
def vu.pick:vu→V×List qA
 | .one v bs=>(v,bs)
 | .two b v1 bs1 v2 bs2=>bif b then(v1,bs1)else(v2,bs2)
def vu.go {R:Type}(k:V→List qA→Option R):vu→Option R
 | .one v bs=>k v bs
 | .two b v1 bs1 v2 bs2=>bif b then k v1 bs1 else k v2 bs2
structure yA where
 A:Type
 dec:List V→List qA→Option (Option A×(A→vu))
 fresh:Nat
 imm:List Bool
inductive Sh where
 |any
 |row (k:IntKind) (w:Nat)
 |part (k:IntKind) (w:Nat)
 |il (k:IntKind) (w:Nat)
 |box (cs:List Sh)
 |recd (cs:List Sh)
 |tup (cs:List Sh)
 |nrow (k:IntKind) (s:Nat)
 |vrow (cs:List Sh)
 |vrows (k:IntKind) (s:Nat)
 |fnc (cs:List Sh)
 |inl (k:IntKind) (s:Nat)
structure cE where
 keep:List (Nat×Sh)
 out:List (Nat×Sh)
structure tK where
 run:{R:Type}→List V→List qA→(Ex→St→Option R)→Option R
structure yC where
 ty:Nat→Option TI
 tab:Nat→Option yA
 hint:Nat→Option cE
 cut:Nat→Option tK
 N:Nat
 res:List ResultVar
 rsh:List Sh
 nb:Nat
 ntmps:Nat
 own:Bool:=false
 keep:Bool:=false
 bsh:List (Nat×List Sh):=[]
def Qm:IntKind→Nat
 | .i8=>0| .i16=>1| .i32=>2| .i64=>3| .u8=>4| .u16=>5| .u32=>6| .u64=>7
def sN (a b:IntKind):Bool:=Nat.beq (Qm a) (Qm b)
def fE:List (Nat×V)→Nat→V
 | [],_=>.poison
 |(a,v)::r,t=>bif Nat.beq a t then v else fE r t
def rA:List qA→Nat→qA
 | [],_=>.dead
 |b::_,0=>b
 |_::r,n+1=>rA r n
def oC:List qA→Nat→qA→List qA
 | [],_,_=>[]
 |_::r,0,x=>x::r
 |b::r,n+1,x=>b::oC r n x
def Bt:List qA→List (Nat×qA)→List qA
 |H,[]=>H
 |H,(i,b)::r=>Bt (oC H i b) r
def E9 (H:List qA)(nid:Nat):List qA→List qA
 | []=>H
 |b::r=>E9 (oC H nid b) (nid+1) r
def kv:Value→V
 | .agg cs=>.agg (cs.toList.map .c)
 |v=>.c v
def Qk (T:List (Nat×V)):Operand→V
 | .tmp t=>fE T t
 | .const v=>kv v
 | .global _=>.poison
 | .func f=>.fn f [] []
def gE (w n:Nat):Nat:=match w with
 |1=>n
 |w=>n/w
def kG (w n:Nat):Nat:=match w with
 |1=>n
 |w=>n*w
def oE:V→Option (List V)
 | .agg cs=>some cs
 | .poison=>none
 | .c (.agg _)=>none
 |v=>some [v]
structure oF where
 val:V
 wr:List (Nat×qA):=[]
 new:List qA:=[]
 touch:List Nat:=[]
abbrev nP:=Option (Bool×oF)
def mC (v:V):nP:=some (true,{val:=v})
def wD (b:Bool)(v:V):nP:=some (b,{val:=v})
def bI:V:=.c (.tuple #[])
def pG (t:TI):List V:=t.zero.map .c
def sS (t:TI)(cs:List V):V:=bif t.isAgg then .agg cs else match cs with|v::_=>v| []=>.agg []
def gN (k:IntKind)(l:List Int):Nat→Nat→List V
 |_,0=>[]
 |off,n+1=>.c (.int k (l.getD off 0))::gN k l (off+1) n
def nL:List V→Nat→Option (List V)
 |_,0=>some []
 | [],_+1=>none
 |v::r,n+1=>(nL r n).map (v:: ·)
def rN:List V→Nat→List V
 |l,0=>l
 | [],_+1=>[]
 |_::r,n+1=>rN r n
def so:List V→Nat→Option V
 | [],_=>none
 |v::_,0=>some v
 |_::r,n+1=>so r n
def kF (t:TI)(off:Nat):qA→Option V
 | .dead=>none
 | .mp _ _ _ _=>none
 | .it _ _ _ _=>none
 | .ints k l=>some (bif t.isAgg then .agg (gN k l off t.size)else .c (.int k (l.getD off 0)))
 | .nw _ _ _ _=>none
 | .bls l=>(match t.tk with
  | .bool=>some (.c (.bool (l.getD off false)))
  |_=>none)
 | .vals cs=>match nL (rN cs off) t.size with
  |none=>none
  |some cs=>some (sS t cs)
def mN (k:IntKind):List Int→Nat→List V→Option (List Int)
 |l,_,[]=>some l
 |l,off,.c (.int k' n)::r=>bif sN k k' then mN k (l.set off n) (off+1) r else none
 |_,_,_::_=>none
def aH:List V→Nat→List V→Option (List V)
 |cs,_,[]=>some cs
 | [],_,_::_=>none
 |_::cs,0,v::r=>(aH cs 0 r).map (v:: ·)
 |c::cs,off+1,v::r=>(aH cs off (v::r)).map (c:: ·)
def pQ:V→Bool
 | .c (.agg _)=>false
 | .c (.tuple _)=>false
 | .poison=>false
 | .agg _=>false
 | .tup _=>false
 |_=>true
def wG (off:Nat)(vs:List V):qA→Option qA
 | .dead=>none
 | .mp _ _ _ _=>none
 | .it _ _ _ _=>none
 | .ints k l=>(mN k l off vs).map (.ints k)
 | .nw _ _ _ _=>none
 | .bls l=>(match vs with
  | [.c (.bool b)]=>some (.bls (l.set off b))
  |_=>none)
 | .vals cs=>bif vs.all pQ then(aH cs off vs).map .vals else none
def vF (k:IntKind):List V→Option (List Int)
 | []=>some []
 | .c (.int k' n)::r=>bif sN k k' then(vF k r).map (n:: ·)else none
 |_::_=>none
def dQ (t:TI):Option IntKind:=match t.zero with
 | .int k _::r=>bif r.all (fun| .int k' _=>sN k k'|_=>false)then some k else none
 |_=>none
def ot (t:TI)(cs:List V):Option qA:=match dQ t with
 |some k=>(vF k cs).map (.ints k)
 |none=>some (.vals cs)
def bK (vH:Nat→Option (Nat×Nat)):List V→List (Nat×V)→Option (List V)
 |cs,[]=>some cs
 |cs,(i,v)::r=>match vH i with
  |none=>none
  |some (off,size)=>match oE v with
   |some vs=>bif Nat.beq vs.length size&&Nat.blt 0 size then
    (match aH cs off vs with|some cs=>bK vH cs r|none=>none)else none
   |none=>none
def sI (ty:Nat→Option TI)(fs:List (Nat×Nat))(i:Nat):Option (Nat×Nat):=match fs[i]? with
 |some (t,off)=>match ty t with|some ti=>some (off,ti.size)|none=>none
 |none=>none
def ah:Nat→List V→List V
 |0,_=>[]
 |n+1,l=>l++ah n l
def E6 (a b:Int):Int:=if b>a then b else a
def Qr (a b:Int):Int:=if b<a then b else a
def gd (op:BinOp)(k:IntKind)(a b:Int):Option Int:=match op with
 | .and=>some (k.wrap (BitVec.ofInt k.bits a&&& BitVec.ofInt k.bits b).toNat)
 | .or=>some (k.wrap (BitVec.ofInt k.bits a|||BitVec.ofInt k.bits b).toNat)
 | .xor=>some (k.wrap (BitVec.ofInt k.bits a^^^BitVec.ofInt k.bits b).toNat)
 | .andNot=>some (k.wrap (BitVec.ofInt k.bits a&&& ~~~ BitVec.ofInt k.bits b).toNat)
 |_=>none
def Dh (op:BinOp)(k:IntKind)(a b:Int):nP:=match op with
 | .add=>mC (.c (.int k (k.wrap (a+b))))
 | .sub=>mC (.c (.int k (k.wrap (a-b))))
 | .mul=>mC (.c (.int k (k.wrap (a*b))))
 | .quo=>wD (!(b==0)) (.c (.int k (k.wrap (a.tdiv b))))
 | .rem=>wD (!(b==0)) (.c (.int k (a.tmod b)))
 | .eql=>mC (.c (.bool (a==b)))
 | .neq=>mC (.c (.bool (a != b)))
 | .lss=>mC (.c (.bool (decide (a<b))))
 | .leq=>mC (.c (.bool (decide (a≤b))))
 | .gtr=>mC (.c (.bool (decide (a>b))))
 | .geq=>mC (.c (.bool (decide (a≥b))))
 | .and| .or| .xor| .andNot=>match gd op k a b with
  |some n=>mC (.c (.int k n))
  |none=>none
 |_=>none
def cX (op:BinOp)(k:IntKind)(a b:Int):nP:=match op with
 | .shl=>wD (decide (0≤b)) (.c (.int k (k.wrap (a*2^(min b.toNat k.bits)))))
 | .shr=>wD (decide (0≤b)) (.c (.int k (a.fdiv (2^(min b.toNat k.bits)))))
 |_=>none
def Qj (ti:Option TI)(x y:V):Option Bool:=match ti with
 |some ⟨.int _,_,_,_⟩=>(match x,y with
  | .c (.int k a),.c (.int k' b)=>bif sN k k' then some (a==b)else none
  |_,_=>none)
 |some ⟨.bool,_,_,_⟩=>(match x,y with
  | .c (.bool a),.c (.bool b)=>some (a==b)
  |_,_=>none)
 |_=>none
def jG (ty:Nat→Option TI):List (Nat×Nat)→Nat→List V→List V→Option Bool
 | [],_,[],[]=>some true
 | [(t,off)],i,[x],[y]=>bif Nat.beq off i then Qj (ty t) x y else none
 |(t,off)::r,i,x::cx,y::cy=>bif Nat.beq off i then
   (match Qj (ty t) x y,jG ty r (i+1) cx cy with
    |some e,some e'=>some (e&&e')
    |_,_=>none)else none
 |_,_,_,_=>none
def cM (ty:Nat→Option TI)(t:Nat)(x y:List V):Option Bool:=match ty t with
 |some ⟨.struct fs,_,_,_⟩=>jG ty fs 0 x y
 |_=>none
def Rk (ty:Nat→Option TI)(t:Nat)(op:BinOp)(x y:V):nP:=match op,x,y with
 | .shl,.c (.int k a),.c (.int _ b)=>cX .shl k a b
 | .shr,.c (.int k a),.c (.int _ b)=>cX .shr k a b
 |op,.c (.int k a),.c (.int k' b)=>bif sN k k' then Dh op k a b else none
 | .eql,.c (.bool a),.c (.bool b)=>(match ty t with|some ⟨.bool,_,_,_⟩=>mC (.c (.bool (a==b)))|_=>none)
 | .neq,.c (.bool a),.c (.bool b)=>(match ty t with|some ⟨.bool,_,_,_⟩=>mC (.c (.bool (!(a==b))))|_=>none)
 | .add,.c (.string a),.c (.string b)=>wD (decide (((a.size+b.size:Nat):Int)≤9223372036854775807)) (.c (.string (a++b)))
 | .eql,.c (.string a),.c (.string b)=>mC (.c (.bool (a.toList==b.toList)))
 | .neq,.c (.string a),.c (.string b)=>mC (.c (.bool (!(a.toList==b.toList))))
 | .eql,.agg a,.agg b=>match cM ty t a b with|some e=>mC (.c (.bool e))|none=>none
 | .neq,.agg a,.agg b=>match cM ty t a b with|some e=>mC (.c (.bool (!e)))|none=>none
 |_,_,_=>none
def Ey (b:Bool)(x y:V):V:=match x,y with
 | .c (.bool p),.c (.bool q)=>.c (.bool (bif b then p else q))
 |x,y=>bif b then x else y
def aJ (l:List Int):ByteArray:=⟨(l.map fun n=>UInt8.ofNat n.toNat).toArray⟩
def bG (s:ByteArray):List Int:=s.data.toList.map fun b=>(b.toNat:Int)
def xF (s:ByteArray)(i:Nat):Int:=((s.data.toList.getD i 0).toNat:Int)
def bT (h:Nat→qA):V→Option (IntKind×Nat×List Int×List Nat)
 | .sw id w=>match h id with| .ints k l=>some (k,w,l,[id])|_=>none
 | .sl id w off len=>match h id with| .ints k l=>some (k,w,(l.drop off).take (kG w len),[id])|_=>none
 | .il k w l=>some (k,w,l,[])
 |_=>none
def uu (h:Nat→qA):V→Option (Nat×List V×List Nat)
 | .sw id w=>match h id with| .vals l=>some (w,l,[id])|_=>none
 |_=>none
def rK (h:Nat→qA):V→Option (Nat×List Nat)
 | .c (.slice none 0 0)=>some (0,[])
 | .c (.string s)=>some (s.size,[])
 | .sw id w=>match h id with
  | .ints _ l=>some (gE w l.length,[id])
  | .vals l=>some (gE w l.length,[id])
  | .nw _ _ _ _=>none
  | .bls l=>some (gE w l.length,[id])
  | .dead=>none
  | .mp _ _ _ _=>none
  | .it _ _ _ _=>none
 | .sl _ _ _ len=>some (len,[])
 | .il _ w l=>some (gE w l.length,[])
 | .iv n _=>some (n,[])
 | .inl _ _ rows=>some (rows.length,[])
 | .lv n=>some (n,[])
 |_=>none
def dt (h:Nat→qA):V→Option (Nat×List Nat)
 | .mref id=>match h id with
  | .mp _ _ ks _=>some (ks.length,[id])
  |_=>none
 |_=>none
def xm:TK→V→Bool
 | .str,.c (.string _)=>true
 | .slice _,.c (.string _)=>false
 | .slice _,_=>true
 |_,_=>false
def Ea:V:=.c (.slice none 0 0)
def nG (h:Nat→qA)(k:IntKind)(size:Nat):V→Option (List Int×List Nat)
 | .c (.slice none 0 0)=>some ([],[])
 | .c (.string s)=>bif sN k .u8&&Nat.beq size 1 then some (bG s,[])else none
 |v=>match bT h v with
  |some (k',w,l,t)=>bif sN k k'&&Nat.beq w size then some (l,t)else none
  |none=>none
def kL (h:Nat→qA)(size:Nat):V→Option (List V×List Nat)
 | .c (.slice none 0 0)=>some ([],[])
 |v=>match uu h v with
  |some (w,l,t)=>bif Nat.beq w size&&l.all pQ then some (l,t)else none
  |none=>none
def cB (n b:Nat):Bool:=decide (n*b≤70368744177664)
def pI (ti:TI)(h:Nat→qA)(nid:Nat)(d s:V):nP:=bif !(Nat.blt 0 ti.bytes&&Nat.blt 0 ti.size)then none else match dQ ti with
 |some k=>match nG h k ti.size s with
  |none=>none
  |some (src,t)=>match d with
   | .c (.slice none 0 0)=>some (cB (gE ti.size src.length) ti.bytes,{val:=.sw nid ti.size,new:=[.ints k src],touch:=t})
   | .sw id w=>match h id with
    | .ints k' l=>bif sN k k'&&Nat.beq w ti.size then
      some (cB (gE ti.size (l.length+src.length)) ti.bytes,{val:=.sw nid ti.size,wr:=[(id,.dead)],new:=[.ints k (l++src)],touch:=id::t})else none
    |_=>none
   |_=>none
 |none=>match kL h ti.size s with
  |none=>none
  |some (src,t)=>match d with
   | .c (.slice none 0 0)=>some (cB (gE ti.size src.length) ti.bytes,{val:=.sw nid ti.size,new:=[.vals src],touch:=t})
   | .sw id w=>match h id with
    | .vals l=>bif Nat.beq w ti.size then
      some (cB (gE ti.size (l.length+src.length)) ti.bytes,{val:=.sw nid ti.size,wr:=[(id,.dead)],new:=[.vals (l++src)],touch:=id::t})else none
    |_=>none
   |_=>none
def lF (l:List Int)(off:Nat)(x:List Int):List Int:=l.take off++x++l.drop (off+x.length)
def mg (ti:TI)(h:Nat→qA)(d s:V):nP:=match dQ ti with
 |none=>none
 |some k=>match nG h k ti.size s with
  |none=>none
  |some (src,t)=>match d with
   | .sw id w=>match h id with
    | .ints k' l=>bif sN k k'&&Nat.beq w ti.size then
      let n:Nat:=min (gE w src.length) (gE w l.length)
      some (true,{val:=.c (.int .i64 (n:Int)),wr:=[(id,.ints k (lF l 0 (src.take (kG w n))))],touch:=id::t})else none
    |_=>none
   |_=>none
def cK (f:Int→Int→Int)(k:IntKind):Int→List V→Option Int
 |a,[]=>some a
 |a,.c (.int k' b)::r=>bif sN k k' then cK f k (f a b) r else none
 |_,_::_=>none
def jd (f:Int→Int→Int):List V→nP
 | .c (.int k a)::r=>match cK f k a r with|some n=>mC (.c (.int k n))|none=>none
 |_=>none
def sH (ty:Nat→Option TI)(nid:Nat)(b:Builtin)(ts:List Nat)(xs:List V)(h:Nat→qA):nP:=match b,xs with
 | .len,[x]=>match ts with
  |t::_=>(match ty t,rK h x with
   |some ti,some (n,tc)=>bif xm ti.tk x then some (true,{val:=.c (.int .i64 (n:Int)),touch:=tc})else none
   |some ti,none=>(match ti.tk,dt h x with
    | .map _ _,some (n,tc)=>some (true,{val:=.c (.int .i64 (n:Int)),touch:=tc})
    |_,_=>none)
   |none,_=>none)
  |_=>none
 | .max,xs=>jd E6 xs
 | .min,xs=>jd Qr xs
 | .append,[d,s]=>match ts with
  |t::t2::_=>match ty t,ty t2 with
   |some ⟨.slice e,_,_,_⟩,some t2=>match t2.tk with
    | .slice _| .str=>(match ty e with|some ti=>pI ti h nid d s|none=>none)
    |_=>none
   |_,_=>none
  |_=>none
 | .copy,[d,s]=>match ts with
  |t::_=>match ty t with
   |some ⟨.slice e,_,_,_⟩=>match ty e with|some ti=>mg ti h d s|none=>none
   |_=>none
  |_=>none
 |_,_=>none
def aL (ty:Nat→Option TI)(t:Nat)(x i:V)(h:Nat→qA):nP:=match i,ty t with
 | .c (.int _ n),some ⟨.slice e,_,_,_⟩=>match ty e with
  |none=>none
  |some te=>match x with
   | .sw id w=>bif Nat.beq w te.size then match h id with
    | .ints _ l=>some (decide (0≤n)&&decide (n<(gE w l.length:Nat)),{val:=.ptr id (kG w n.toNat) w,touch:=[id]})
    | .vals l=>some (decide (0≤n)&&decide (n<(gE w l.length:Nat)),{val:=.ptr id (kG w n.toNat) w,touch:=[id]})
    | .nw _ _ _ _=>none
    | .bls l=>some (decide (0≤n)&&decide (n<(gE w l.length:Nat)),{val:=.ptr id (kG w n.toNat) w,touch:=[id]})
    | .dead=>none
    | .mp _ _ _ _=>none
    | .it _ _ _ _=>none
    else none
   | .sl id w off len=>bif Nat.beq w te.size then wD (decide (0≤n)&&decide (n<(len:Int))) (.ptr id (off+kG w n.toNat) w)else none
   | .il k w l=>bif Nat.beq w te.size then wD (decide (0≤n)&&decide (n<(gE w l.length:Nat))) (.ilp k l (kG w n.toNat) w)else none
   | .iv m cols=>bif Nat.beq cols.length te.size then wD (decide (0≤n)&&decide (n<(m:Int))) (.ivp cols n.toNat 0 cols.length)else none
   | .inl k s rows=>bif Nat.beq 1 te.size then wD (decide (0≤n)&&decide (n<(rows.length:Nat))) (.inlp k s rows n.toNat)else none
   |_=>none
 | .c (.int _ n),some ⟨.arr len e,_,_,_⟩=>match ty e with
  |none=>none
  |some te=>match x with
   | .ptr id off ext=>bif Nat.ble (len*te.size) ext then wD (decide (0≤n)&&decide (n<(len:Int))) (.ptr id (off+kG te.size n.toNat) te.size)else none
   | .ilp k l off ext=>bif Nat.ble (len*te.size) ext then wD (decide (0≤n)&&decide (n<(len:Int))) (.ilp k l (off+kG te.size n.toNat) te.size)else none
   | .ivp l i off ext=>bif Nat.ble (len*te.size) ext then wD (decide (0≤n)&&decide (n<(len:Int))) (.ivp l i (off+kG te.size n.toNat) te.size)else none
   |_=>none
 |_,_=>none
def nu (te:TI)(cs:List V):Option (IntKind×List Int):=match te.tk with
 | .int k=>(match vF k cs with|some l=>some (k,l)|none=>none)
 |_=>none
def iu (ty:Nat→Option TI)(t:Nat)(x i:V):nP:=match i,ty t,x with
 | .c (.int _ n),some ⟨.str,_,_,_⟩,.c (.string s)=>wD (decide (0≤n)&&decide (n<(s.size:Int))) (.c (.int .u8 (xF s n.toNat)))
 | .c (.int _ n),some ⟨.arr len e,_,_,_⟩,.agg cs=>match ty e with
  |none=>none
  |some te=>match nu te cs with
   |some (k,l)=>bif Nat.beq l.length len&&Nat.beq te.size 1 then wD (decide (0≤n)&&decide (n<(len:Int))) (.c (.int k (l.getD n.toNat 0)))else none
   |none=>match nL (rN cs (n.toNat*te.size)) te.size with
    |none=>none
    |some cs=>bif Nat.blt 0 te.size then wD (decide (0≤n)&&decide (n<(len:Int))) (sS te cs)else none
 |_,_,_=>none
def Ch:Option V→Int→Option Int
 |none,d=>some d
 |some (.c (.int _ n)),_=>some n
 |some _,_=>none
def xU (ty:Nat→Option TI)(t:Nat)(x:V)(lo hi mx:Option V)(h:Nat→qA):nP:=match ty t with
 |none=>none
 |some ti=>bif hi.isNone&&mx.isSome then none else match rK h x with
  |none=>(match ti.tk,x with
   | .arr n e,.ptr id off ext=>match ty e,Ch lo 0,Ch hi n,Ch mx n with
    |some te,some l,some h,some m=>bif Nat.ble (n*te.size) ext&&Nat.blt 0 te.size then
      wD (decide (0≤l)&&decide (l≤h)&&decide (h≤m)&&decide (m≤(n:Int))) (.sl id te.size (off+kG te.size l.toNat) (h.toNat-l.toNat))else none
    |_,_,_,_=>none
   |_,_=>none)
  |some (len,tc)=>match Ch lo 0,Ch hi len,Ch mx len with
   |some l,some h',some m=>
    let ok:=decide (0≤l)&&decide (l≤h')&&decide (h'≤m)&&decide (m≤(len:Int))
    match ti.tk,x with
    | .str,.c (.string s)=>(match mx with|none=>wD ok (.c (.string (s.extract l.toNat h'.toNat)))|some _=>none)
    | .slice e,.sw id w=>(match ty e with
     |some te=>bif Nat.beq w te.size then some (ok,{val:=.sl id w (kG w l.toNat) (h'.toNat-l.toNat),touch:=tc})else none
     |none=>none)
    | .slice e,.sl id w off _=>(match ty e with
     |some te=>bif Nat.beq w te.size then wD ok (.sl id w (off+kG w l.toNat) (h'.toNat-l.toNat))else none
     |none=>none)
    | .slice e,.il k w l0=>(match ty e with
     |some te=>bif Nat.beq w te.size then wD ok (.il k w ((l0.drop (kG w l.toNat)).take (kG w (h'.toNat-l.toNat))))else none
     |none=>none)
    | .slice e,.c (.slice none 0 0)=>(match ty e with
     |some _=>wD ok Ea
     |none=>none)
    |_,_=>none
   |_,_,_=>none
def Ur (op:UnOp)(x:V):nP:=match op,x with
 | .neg,.c (.int k n)=>mC (.c (.int k (k.wrap (0-n))))
 | .not,.c (.bool b)=>mC (.c (.bool (!b)))
 | .xor,.c (.int k n)=>match gd .xor k (if k.signed then-1 else k.max) n with
  |some n=>mC (.c (.int k n))
  |none=>none
 |_,_=>none
def bl (ty:Nat→Option TI)(nid:Nat)(s d:Nat)(x:V)(h:Nat→qA):nP:=match ty s,ty d with
 |some ts,some td=>match td.tk,x with
  | .int k,.c (.int _ n)=>mC (.c (.int k (k.wrap n)))
  | .str,.c (.string s)=>mC (.c (.string s))
  | .str,.c (.slice none 0 0)=>(match ts.tk with
   | .slice e=>(match ty e with|some ⟨.int .u8,_,_,_⟩=>mC (.c (.string ByteArray.empty))|_=>none)
   |_=>none)
  | .slice e,.c (.string b)=>(match ty e with
   |some ⟨.int .u8,_,_,_⟩=>some (true,{val:=.sw nid 1,new:=[.ints .u8 (bG b)]})
   |_=>none)
  | .str,x=>(match ts.tk with
   | .slice e=>(match ty e,bT h x with
    |some ⟨.int .u8,_,_,_⟩,some (.u8,w,l,t)=>bif Nat.beq w 1 then some (true,{val:=.c (.string (aJ l)),touch:=t})else none
    |_,_=>none)
   |_=>none)
  |_,_=>none
 |_,_=>none
def tN (ti:TI)(a:V)(h:Nat→qA):nP:=match a with
 | .ptr id off ext=>bif Nat.ble ti.size ext&&Nat.blt 0 ti.size then
   match kF ti off (h id)with
   |some v=>some (true,{val:=v,touch:=[id]})
   |none=>none
  else none
 | .ilp k l off ext=>bif Nat.ble ti.size ext&&Nat.blt 0 ti.size then
   match kF ti off (.ints k l)with
   |some v=>mC v
   |none=>none
  else none
 | .ivp l i off ext=>bif Nat.ble ti.size ext&&Nat.blt 0 ti.size then
   match kF ti off (.vals ((vM l i).map .c))with
   |some v=>mC v
   |none=>none
  else none
 | .inlp k s rows i=>bif ti.isSl&&Nat.beq ti.size 1 then mC (.il k s (rows.getD i []))else none
 |_=>none
def lY (ty:Nat→Option TI)(fs:List (Nat×Nat))(f:Nat)(x:V):nP:=match x with
 | .ptr id off ext=>(match sI ty fs f with
  |some (fo,fsz)=>bif Nat.ble (fo+fsz) ext&&Nat.blt 0 fsz then mC (.ptr id (off+fo) fsz)else none
  |none=>none)
 | .ilp k l off ext=>(match sI ty fs f with
  |some (fo,fsz)=>bif Nat.ble (fo+fsz) ext&&Nat.blt 0 fsz then mC (.ilp k l (off+fo) fsz)else none
  |none=>none)
 | .ivp l i off ext=>(match sI ty fs f with
  |some (fo,fsz)=>bif Nat.ble (fo+fsz) ext&&Nat.blt 0 fsz then mC (.ivp l i (off+fo) fsz)else none
  |none=>none)
 |_=>none
def rQ:List Int→List Int→Bool
 | [],[]=>true
 |a::r,b::s=>(a==b)&&rQ r s
 |_,_=>false
def sD (l:List Int):List (List Int)→Nat→Option Nat
 | [],_=>none
 |x::r,n=>bif rQ l x then some n else sD l r (n+1)
def hJ (l:List Int)(ks:List (List Int)):Bool:=(sD l ks 0).isSome
def oB (l:List Int)(ks:List (List Int)):List (List Int):=bif hJ l ks then ks else ks++[l]
def iH {α:Type}(l:List Int)(x:α)(ks:List (List Int))(vs:List α):List α:=match sD l ks 0 with
 |some j=>vs.set j x
 |none=>vs++[x]
def mD (l:List Int)(ks:List (List Int))(vs:List Int):Int:=match sD l ks 0 with
 |some j=>vs.getD j 0
 |none=>0
def Du (l:List Int)(ks:List (List Int))(vs:List Bool):Bool:=match sD l ks 0 with
 |some j=>vs.getD j false
 |none=>false
def E7 (t:TI):Option xN:=match t.tk with
 | .int k=>some (.ints k [])
 | .bool=>some (.bools [])
 |_=>none
def yQ (l:List Int)(ks:List (List Int)):xN→V→Option xN
 | .ints k vs,.c (.int k' x)=>bif sN k k' then some (.ints k (iH l x ks vs))else none
 | .bools vs,.c (.bool x)=>some (.bools (iH l x ks vs))
 |_,_=>none
def eH (l:List Int)(ks:List (List Int)):xN→Option V
 | .ints k vs=>some (.c (.int k (mD l ks vs)))
 | .bools vs=>some (.c (.bool (Du l ks vs)))
 | .strs _=>none
def tn (k:IntKind)(n:Nat):V→Option (List Int)
 | .agg cs=>match vF k cs with
  |some l=>bif Nat.beq l.length n then some l else none
  |none=>none
 |_=>none
def uM (t:TI):xN→Bool
 | .ints k _=>match t.tk,t.zero with| .int k',[.int k'' z]=>sN k k'&&(sN k k''&&(z==0))|_,_=>false
 | .bools _=>match t.tk,t.zero with| .bool,[.bool z]=>!z|_,_=>false
 | .strs _=>false
def u9 (ty:Nat→Option TI):List (Nat×Nat)→Nat→Nat→Bool
 | [],_,0=>true
 |(t,off)::r,i,n+1=>Nat.beq off i&&((match ty t with|some ⟨.int _,_,_,_⟩=>true|_=>false)&&u9 ty r (i+1) n)
 |_,_,_=>false
def fK (ty:Nat→Option TI)(n:Nat)(t:TI):Bool:=match t.tk with
 | .struct fs=>u9 ty fs 0 n
 | .arr m e=>Nat.beq m n&&(match ty e with|some ⟨.int _,_,_,_⟩=>true|_=>false)
 |_=>false
def gZ (ty:Nat→Option TI)(nid t:Nat):nP:=match ty t with
 |some ⟨.map kt et,_,_,_⟩=>match ty kt,ty et with
  |some tk,some te=>match dQ tk,E7 te with
   |some k,some c=>bif fK ty tk.size tk then some (true,{val:=.mref nid,new:=[.mp k tk.size [] c]})else none
   |_,_=>none
  |_,_=>none
 |_=>none
def oJ (ty:Nat→Option TI)(t:Nat)(m i:V)(ok:Bool)(h:Nat→qA):nP:=match ty t,m with
 |some ⟨.map kt et,_,_,_⟩,.mref id=>match h id,ty kt,ty et with
  | .mp k n ks vs,some tk,some te=>match tn k n i,eH (match tn k n i with|some l=>l|none=>[]) ks vs with
   |some l,some v=>bif fK ty n tk&&uM te vs then some (true,{val:=bif ok then .tup [v,.c (.bool (hJ l ks))]else v,touch:=[id]})else none
   |_,_=>none
  |_,_,_=>none
 |_,_=>none
def gH (ty:Nat→Option TI)(t:Nat)(m i x:V)(h:Nat→qA):nP:=match ty t,m with
 |some ⟨.map kt _,_,_,_⟩,.mref id=>match h id,ty kt with
  | .mp k n ks vs,some tk=>match tn k n i with
   |some l=>match yQ l ks vs x with
    |some c=>bif fK ty n tk then some (true,{val:=bI,wr:=[(id,.mp k n (oB l ks) c)],touch:=[id]})else none
    |none=>none
   |none=>none
  |_,_=>none
 |_,_=>none
def xP (n:Nat):xN→xN
 | .ints k l=>.ints k (l.take n)
 | .bools l=>.bools (l.take n)
 | .strs l=>.strs (l.take n)
def jP (l:List Int)(ks:List (List Int)):Int:=match sD l ks 0 with
 |some j=>(j:Int)
 |none=>(ks.length:Int)
def nH (ty:Nat→Option TI)(t:Nat)(m i:V)(h:Nat→qA):nP:=match ty t,m with
 |some ⟨.map kt et,_,_,_⟩,.mref id=>match h id,ty kt,ty et with
  | .mp k n ks vs,some tk,some te=>match tn k n i,eH (match tn k n i with|some l=>l|none=>[]) ks vs with
   |some l,some v=>match yQ l ks (xP ks.length vs) v with
    |some c=>bif fK ty n tk&&uM te vs then some (true,{val:=.tup [v,.c (.int .i64 (jP l ks))],wr:=[(id,.mp k n (oB l ks) c)],touch:=[id]})else none
    |none=>none
   |_,_=>none
  |_,_,_=>none
 |_,_=>none
def uy (j:Nat):xN→V→Option xN
 | .ints k vs,.c (.int k' x)=>bif sN k k' then some (.ints k (vs.set j x))else none
 | .bools vs,.c (.bool x)=>some (.bools (vs.set j x))
 |_,_=>none
def lH (m s x:V)(h:Nat→qA):nP:=match m,s with
 | .mref id,.c (.int .i64 q)=>match h id with
  | .mp k n ks vs=>match uy q.toNat vs x with
   |some c=>some (decide (0≤q)&&decide (q<(ks.length:Int)),{val:=bI,wr:=[(id,.mp k n ks c)],touch:=[id]})
   |none=>none
  |_=>none
 |_,_=>none
def Ta:xN→Nat→V
 | .ints k l,i=>.c (.int k (l.getD i 0))
 | .bools l,i=>.c (.bool (l.getD i false))
 | .strs l,i=>.c (.string (l.getD i ByteArray.empty))
def rU (ty:Nat→Option TI)(nid t:Nat)(m:V)(h:Nat→qA):nP:=match ty t,m with
 |some ⟨.map _ _,_,_,_⟩,.mref id=>match h id with
  | .mp _ _ ks _=>some (true,{val:=.ptr nid 0 0,new:=[.it (some id) ks.length (List.range ks.length) ks.length],touch:=[id]})
  |_=>none
 |_,_=>none
def zT (m:V)(h:Nat→qA):nP:=match m with
 | .ptr id 0 _=>match h id with
  | .it (some mid) gE _ cur=>(match h mid with
   | .mp k n ks vs=>some (Nat.beq ks.length gE&&Nat.blt cur ks.length,{val:=.tup [.agg (gN k (ks.getD cur []) 0 n),Ta vs cur],touch:=[id,mid]})
   |_=>none)
  |_=>none
 |_=>none
def qw (ti:TI):qA:=match ti.tk with
 | .arr _ _=>(match ot ti (pG ti)with|some b=>b|none=>.vals (pG ti))
 |_=>.vals (pG ti)
def yI (ty:Nat→Option TI)(nid:Nat)(o:Op)(ev:Operand→V)(h:Nat→qA):nP:=match o with
 | .move x| .assign x=>mC (ev x)
 | .pick c a b=>match ev c with
  | .c (.bool b')=>mC (Ey b' (ev a) (ev b))
  |_=>none
 | .alloc t=>match ty t with
  |some ti=>some (true,{val:=.ptr nid 0 ti.size,new:=[qw ti]})
  |none=>none
 | .box t x=>match ty t with
  |some ti=>match oE (ev x)with
   |some vs=>bif Nat.beq vs.length ti.size then some (true,{val:=.ptr nid 0 ti.size,new:=[.vals vs]})else none
   |none=>none
  |none=>none
 | .build t ps=>match ty t with
  |some ti=>(match ti.tk with
   | .struct fs=>bif fs.all (fun p=>(ty p.1).isSome)then
     (match bK (sI ty fs) (pG ti) (ps.toList.map fun p=>(p.1,ev p.2))with
     |some cs=>mC (.agg cs)
     |none=>none)else none
   | .arr _ e=>match ty e with
    |some te=>match bK (fun i=>some (i*te.size,te.size)) (pG ti) (ps.toList.map fun p=>(p.1,ev p.2))with
     |some cs=>mC (.agg cs)
     |none=>none
    |none=>none
   |_=>none)
  |none=>none
 | .buildSlice t len ps=>match ty t with
  |some ⟨.slice e,_,_,_⟩=>match ty e with
   |some te=>bif Nat.ble (len*te.size) 16777216&&Nat.blt 0 te.size then
     match bK (fun i=>some (i*te.size,te.size)) (ah len (pG te)) (ps.toList.map fun p=>(p.1,ev p.2))with
     |some cs=>match ot te cs with
      |some b=>some (true,{val:=.sw nid te.size,new:=[b]})
      |none=>none
     |none=>none
    else none
   |none=>none
  |_=>none
 | .load t a=>match ty t with
  |some ti=>tN ti (ev a) h
  |none=>none
 | .store t a x=>match ty t,ev a with
  |some ti,.ptr id off ext=>match oE (ev x)with
   |some vs=>bif Nat.ble ti.size ext&&Nat.beq vs.length ti.size then
    match wG off vs (h id)with
    |some b=>some (true,{val:=bI,wr:=[(id,b)],touch:=[id]})
    |none=>none
    else none
   |none=>none
  |_,_=>none
 | .nilCheck x=>match ev x with
  | .ptr id off ext=>mC (.ptr id off ext)
  | .ilp k l off ext=>mC (.ilp k l off ext)
  | .ivp l i off ext=>mC (.ivp l i off ext)
  | .inlp k s rows i=>mC (.inlp k s rows i)
  |_=>none
 | .binOp op t x y _=>Rk ty t op (ev x) (ev y)
 | .unOp op _ x=>Ur op (ev x)
 | .convert s d x=>bl ty nid s d (ev x) h
 | .makeFunc (.func f) first cap=>mC (.fn f (first.toList.map ev) (cap.toList.map ev))
 | .makeSlice t l c=>match ty t,ev l,ev c with
  |some ⟨.slice e,_,_,_⟩,.c (.int .i64 n),.c (.int .i64 m)=>match ty e with
   |some te=>match dQ te,te.zero with
    |some k,_=>bif te.zero.all (fun| .int _ z=>z==0|_=>false)then
      some (decide (n=m)&&decide (0≤n)&&decide (n≤9223372036854775807)&&cB n.toNat te.bytes,{val:=.sw nid te.size,new:=[.ints k (List.replicate (kG te.size n.toNat) 0)]})else none
    |none,[.bool false]=>bif Nat.beq te.size 1 then some (decide (n=m)&&decide (0≤n)&&decide (n≤9223372036854775807)&&cB n.toNat te.bytes,{val:=.sw nid 1,new:=[.bls (List.replicate n.toNat false)]})else none
    |none,_=>none
   |none=>none
  |_,_,_=>none
 | .slice t x lo hi mx=>xU ty t (ev x) (lo.map ev) (hi.map ev) (mx.map ev) h
 | .fieldAddr t x f=>match ty t with
  |some ⟨.struct fs,_,_,_⟩=>lY ty fs f (ev x)
  |_=>none
 | .field t x f=>match ty t,ev x with
  |some ⟨.struct fs,_,_,_⟩,.agg cs=>match fs[f]? with
   |some (t,fo)=>match ty t with
    |some te=>match nL (rN cs fo) te.size with
     |some cs=>bif Nat.blt 0 te.size then mC (sS te cs)else none
     |none=>none
    |none=>none
   |none=>none
  |_,_=>none
 | .indexAddr t x i=>aL ty t (ev x) (ev i) h
 | .index t x i=>iu ty t (ev x) (ev i)
 | .extract t i=>match ev t with
  | .tup vs=>match so vs i with|some v=>mC v|none=>none
  |_=>none
 | .call ⟨.builtin b,args,ts⟩=>sH ty nid b ts.toList (args.toList.map ev) h
 | .makeMap t none=>gZ ty nid t
 | .range t x=>rU ty nid t (ev x) h
 | .entry x=>zT (ev x) h
 | .lookup t m i ok=>oJ ty t (ev m) (ev i) ok h
 | .mapUpdate t m i x=>gH ty t (ev m) (ev i) (ev x) h
 | .insert t m i x=>gH ty t (ev m) (ev i) (ev x) h
 | .mapEntry t m i=>nH ty t (ev m) (ev i) h
 | .entryStore _ m s x=>lH (ev m) (ev s) (ev x) h
 |_=>none
def yN (tab:Nat→Option yA):Op→Nat
 | .alloc _| .box .. | .buildSlice .. | .makeSlice .. | .makeMap .. | .range .. =>1
 | .convert .. =>1
 | .call ⟨.builtin .append,_,_⟩=>1
 | .call ⟨.value (.func f),_,_⟩=>(match tab f with|some e=>e.fresh|none=>0)
 | .call ⟨.value (.tmp _),_,_⟩=>2
 | .load t _=>(match tab (3000000+t)with|some e=>e.fresh|none=>0)
 |_=>0
mutual
def mK:V→List Nat
 | .ptr id _ _=>[id]
 | .sw id _=>[id]
 | .sl id _ _ _=>[id]
 | .mref id=>[id]
 | .agg cs=>iF cs
 | .tup cs=>iF cs
 | .fn _ a b=>iF a++iF b
 |_=>[]
def iF:List V→List Nat
 | []=>[]
 |v::r=>mK v++iF r
end
def vS:qA→List Nat
 | .vals cs=>iF cs
 | .it (some mid) _ _ _=>[mid]
 |_=>[]
def rM (σ:List Nat):List Nat→List Nat
 | []=>σ
 |i::r=>bif σ.any (Nat.beq i)then rM σ r else rM (σ++[i]) r
def xV (h:Nat→qA):Nat→List Nat→List Nat
 |0,σ=>σ
 |n+1,σ=>xV h n (rM σ (σ.flatMap fun i=>vS (h i)))
def vH (i:Nat):List Nat→Nat→Option Nat
 | [],_=>none
 |j::r,n=>bif Nat.beq j i then some n else vH i r (n+1)
mutual
def Tz (m:Nat→Option Nat):V→V
 | .ptr id off ext=>match m id with|some j=>.ptr j off ext|none=>.poison
 | .sw id w=>match m id with|some j=>.sw j w|none=>.poison
 | .sl id w off len=>match m id with|some j=>.sl j w off len|none=>.poison
 | .mref id=>match m id with|some j=>.mref j|none=>.poison
 | .agg cs=>.agg (aR m cs)
 | .tup cs=>.tup (aR m cs)
 | .fn f a b=>.fn f (aR m a) (aR m b)
 | .c v=>.c v
 | .poison=>.poison
 | .il k w l=>.il k w l
 | .iv w l=>.iv w l
 | .ilp k l off ext=>.ilp k l off ext
 | .ivp l i off ext=>.ivp l i off ext
 | .inl k s rows=>.inl k s rows
 | .inlp k s rows i=>.inlp k s rows i
 | .lv n=>.lv n
def aR (m:Nat→Option Nat):List V→List V
 | []=>[]
 |v::r=>Tz m v::aR m r
end
def dI (m:Nat→Option Nat):qA→qA
 | .vals cs=>.vals (aR m cs)
 | .dead=>.dead
 | .ints k l=>.ints k l
 | .bls l=>.bls l
 | .mp k n ks vs=>.mp k n ks vs
 | .it mid gE rem cur=>.it (mid.bind m) gE rem cur
 | .nw k s rows hole=>.nw k s rows (match hole with|some (j,g)=>(match m g with|some g'=>some (j,g')|none=>none)|none=>none)
def top:Nat:=1000000
def sF (σ:List Nat)(nid:Nat)(j:Nat):Option Nat:=
 match σ[j]? with
 |some i=>some i
 |none=>bif Nat.blt j top then some (nid+(j-σ.length))else none
def v8:List Nat→List qA→List (Nat×qA)
 |i::r,b::s=>(i,b)::v8 r s
 |_,_=>[]
def br:List qA→Nat→List qA
 |l,0=>l
 | [],_+1=>[]
 |_::r,n+1=>br r n
def wY (k:IntKind)(s:Nat):List V→Option (List (List Int))
 | []=>some []
 | .il k' s' l::r=>bif sN k k'&&Nat.beq s s' then(match wY k s r with|some rows=>some (l::rows)|none=>none)else none
 |_::_=>none
def tb:List V→Option (IntKind×Nat×List (List Int))
 | .il k s l::r=>(match wY k s r with|some rows=>some (k,s,l::rows)|none=>none)
 |_=>none
mutual
def fH (h:Nat→qA):V→V×List Nat
 | .sw id w=>(match h id with
  | .ints k l=>(.il k w l,[id])
  | .nw k s rows none=>bif Nat.beq w 1 then(.inl k s rows,[id])else(.sw id w,[])
  | .vals cs=>(match tb cs with
   |some (k,s,rows)=>bif Nat.beq w 1 then(.inl k s rows,[id])else(.sw id w,[])
   |none=>(.sw id w,[]))
  |_=>(.sw id w,[]))
 | .sl id w off len=>(match h id with
  | .ints k l=>(.il k w ((l.drop off).take (kG w len)),[id])
  |_=>(.sl id w off len,[]))
 | .agg cs=>(.agg (dU h cs).1,(dU h cs).2)
 |v=>(v,[])
def dU (h:Nat→qA):List V→List V×List Nat
 | []=>([],[])
 |v::r=>((fH h v).1::(dU h r).1,(fH h v).2++(dU h r).2)
end
def kD (h:Nat→qA):List Bool→List V→List V×List Nat
 |true::bs,v::r=>((fH h v).1::(kD h bs r).1,(fH h v).2++(kD h bs r).2)
 |false::bs,v::r=>(v::(kD h bs r).1,(kD h bs r).2)
 | [],vs=>(vs,[])
 |_,[]=>([],[])
mutual
def gI:V→Bool
 | .il _ _ _=>false
 | .iv _ _=>false
 | .ilp _ _ _ _=>false
 | .ivp _ _ _ _=>false
 | .inl _ _ _=>false
 | .inlp _ _ _ _=>false
 | .agg cs=>kK cs
 | .tup cs=>kK cs
 | .fn _ a b=>kK a&&kK b
 |_=>true
def kK:List V→Bool
 | []=>true
 |v::r=>gI v&&kK r
end
def mU:qA→Bool
 | .vals cs=>kK cs
 |_=>true
def cF (σ τ:List Nat)(nid:Nat)(v:V)(bs:List qA):oF:=
 {val:=Tz (sF σ nid) v,
  wr:=v8 σ (bs.map (dI (sF σ nid)))++(bif gI v&&bs.all mU then []else τ.map fun i=>(i,.dead)),
  new:=br (bs.map (dI (sF σ nid))) σ.length,
  touch:=σ++τ}
def nodup:List Nat→Bool
 | []=>true
 |i::r=>!(r.any (Nat.beq i))&&nodup r
def jZ (a b:List Nat):Bool:=a.any fun i=>b.any (Nat.beq i)
def qA.isNw:qA→Bool
 | .nw _ _ _ _=>true
 |_=>false
def A0:qA→Bool
 | .nw _ _ _ (some _)=>false
 |_=>true
def iS (h:Nat→qA)(l:List Nat):Bool:=l.all fun i=>Nat.blt i top&& !(h i).isNw
def oW (h:Nat→qA)(out:oF):Bool:=iS h out.touch&&(out.wr.all (fun p=>out.touch.any (Nat.beq p.1)&& !p.2.isNw)&&out.new.all (fun b=>!b.isNw))
def di (ti:TI)(nid id off ext:Nat)(k:IntKind)(s:Nat)(rows:List (List Int))(hole:Option (Nat×Nat))(h:Nat→qA):nP:=
 bif ti.isSl&&(Nat.beq ti.size 1&&Nat.blt 0 ext)then(match hole with
  |none=>some (true,{val:=.sw nid s,wr:=[(id,.nw k s rows (some (off,nid)))],new:=[.ints k (rows.getD off [])],touch:=[id]})
  |some (j,g)=>match h g with
   | .ints k' l=>bif sN k k' then some (true,{val:=.sw nid s,wr:=[(g,.dead),(id,.nw k s (rows.set j l) (some (off,nid)))],new:=[.ints k ((rows.set j l).getD off [])],touch:=[id,g]})else none
   |_=>none)else none
def zU (ti:TI)(id off ext:Nat)(k:IntKind)(s:Nat)(rows:List (List Int))(hole:Option (Nat×Nat))(x:V)(h:Nat→qA):nP:=match x with
 | .sw g s'=>(match h g with
  | .ints k' l=>bif Nat.ble ti.size ext&&Nat.beq ti.size 1&&(sN k k'&&Nat.beq s s')then
    some ((match hole with|none=>true|some (j,_)=>Nat.beq j off),{val:=bI,wr:=[(g,.dead),(id,.nw k s (rows.set off l) none)],touch:=[id,g]})else none
  |_=>none)
 |_=>none
def iq (ty:Nat→Option TI)(t id w n:Nat)(i:V):nP:=match i,ty t with
 | .c (.int _ m),some ⟨.slice e,_,_,_⟩=>(match ty e with
  |some te=>bif Nat.beq w te.size&&Nat.beq w 1 then some (decide (0≤m)&&decide (m<(n:Nat)),{val:=.ptr id m.toNat 1,touch:=[id]})else none
  |none=>none)
 |_,_=>none
def Np (ty:Nat→Option TI)(ts:List Nat)(id w n:Nat):nP:=match ts with
 |t::_=>(match ty t with
  |some ti=>bif ti.isSl&&Nat.beq w 1 then some (true,{val:=.c (.int .i64 (n:Int)),touch:=[id]})else none
  |none=>none)
 |_=>none
def Bi (ty:Nat→Option TI)(ti:TI)(h:Nat→qA):V→Option (IntKind×Nat×List Int×List Nat)
 | .c (.slice none 0 0)=>(match ti.tk with
  | .slice e=>(match ty e with
   |some te=>(match dQ te with|some k=>bif Nat.blt 0 te.size then some (k,te.size,[],[])else none|none=>none)
   |none=>none)
  |_=>none)
 | .sw g s=>(match h g with| .ints k l=>some (k,s,l,[g])|_=>none)
 |_=>none
def xJ (ty:Nat→Option TI)(ti:TI)(h:Nat→qA)(nid:Nat)(d s:V):nP:=match s with
 | .sw ids w1=>(match h ids with
  | .vals [e]=>(match Bi ty ti h e with
   |some (k,w,l,gs)=>bif Nat.beq w1 1&&(Nat.beq ti.size 1&&(Nat.blt 0 ti.bytes&&(dQ ti).isNone))then(match d with
    | .c (.slice none 0 0)=>some (cB 1 ti.bytes,{val:=.sw nid 1,wr:=gs.map fun i=>(i,qA.dead),new:=[.nw k w [l] none],touch:=ids::gs})
    | .sw id w2=>(match h id with
     | .nw k' w' rows none=>bif sN k k'&&Nat.beq w w'&&Nat.beq w2 1 then
       some (cB (rows.length+1) ti.bytes,{val:=.sw nid 1,wr:=(gs.map fun i=>(i,qA.dead))++[(id,.dead)],new:=[.nw k w (rows++[l]) none],touch:=id::ids::gs})else none
     |_=>none)
    |_=>none)else none
   |none=>none)
  |_=>none)
 |_=>none
def wJ (ti:TI)(h:Nat→qA)(d s:V):nP:=bif !(Nat.blt 0 ti.bytes&&Nat.blt 0 ti.size)then none else match dQ ti with
 |some k=>(match nG h k ti.size s with
  |none=>none
  |some (src,t)=>match d with
   | .sw id w=>(match h id with
    | .ints k' l=>bif sN k k'&&Nat.beq w ti.size then some (cB (gE ti.size (l.length+src.length)) ti.bytes,{val:=.lv (gE ti.size (l.length+src.length)),touch:=id::t})else none
    |_=>none)
   |_=>none)
 |none=>none
def bh (keep:Bool)(ty:Nat→Option TI)(nid:Nat)(b:Builtin)(ts:List Nat)(xs:List V)(h:Nat→qA):Option nP:=match b,xs with
 | .len,[.sw id w]=>(match h id with
   | .nw _ _ rows _=>some (Np ty ts id w rows.length)
   |_=>none)
 | .append,[d,s]=>(match ts with
  |t::t2::_=>(match ty t,ty t2 with
   |some ⟨.slice e,_,_,_⟩,some ⟨.slice _,_,_,_⟩=>(match ty e with
    |some ti=>bif ti.isSl then some (xJ ty ti h nid d s)else bif keep then some (wJ ti h d s)else none
    |none=>none)
   |_,_=>none)
  |_=>none)
 |_,_=>none
def dO (keep:Bool)(ty:Nat→Option TI)(nid:Nat)(o:Op)(ev:Operand→V)(h:Nat→qA):Option nP:=match o with
 | .indexAddr t x i=>(match ev x with
  | .sw id w=>(match h id with
   | .nw _ _ rows _=>some (iq ty t id w rows.length (ev i))
   |_=>none)
  |_=>none)
 | .load t a=>(match ev a with
  | .ptr id off ext=>(match h id with
   | .nw k s rows hole=>some (match ty t with|some ti=>di ti nid id off ext k s rows hole h|none=>none)
   |_=>none)
  |_=>none)
 | .store t a x=>(match ev a with
  | .ptr id off ext=>(match h id with
   | .nw k s rows hole=>some (match ty t with|some ti=>zU ti id off ext k s rows hole (ev x) h|none=>none)
   |_=>none)
  |_=>none)
 | .call ⟨.builtin b,args,ts⟩=>bh keep ty nid b ts.toList (args.toList.map ev) h
 |_=>none
def Ck {R:Type}(tab:Nat→Option yA)(nid:Nat)(f:Nat)(args:List V)(h:Nat→qA)(k:oF→Option R):Option R:=
 match tab f with
 |none=>none
 |some e=>
  let at_:=kD h e.imm args
  let σ:=xV h 3 (rM [] (iF at_.1))
  match e.dec (aR (vH · σ 0) at_.1) (σ.map fun i=>dI (vH · σ 0) (h i))with
  |none=>none
  |some (m,enc)=>m.bind fun a=>(enc a).go fun v bs=>
   bif Nat.ble bs.length (σ.length+e.fresh)&&Nat.ble σ.length bs.length&&nodup σ&& !jZ σ at_.2&&(iS h σ&&(at_.2.all (fun i=>Nat.blt i top)&&(bs.all A0&&Nat.ble bs.length top)))then k (cF σ at_.2 nid v bs)else none
structure Fp where
 i:Nat
 touch:List Nat
 wr:List Nat
def B6 (T:List (Nat×V))(d:Option Nat)(v:V):List (Nat×V):=match d with
 |some d=>(d,v)::T
 |none=>T
def gn {R:Type}(E:yC)(nid:Nat)(o:Oper)(T:List (Nat×V))(h:Nat→qA)(k:oF→Option R):Option R:=match o.op with
 | .call ⟨.value f,args,_⟩=>match Qk T f with
  | .fn g first cap=>Ck E.tab nid g (first++(args.toList.map (Qk T)++cap)) h k
  |_=>none
 |op=>match dO E.keep E.ty nid op (Qk T) h with
  |some r=>(match r with
   |none=>none
   |some (ok,out)=>bif ok then k out else none)
  |none=>(match yI E.ty nid op (Qk T) h with
   |none=>none
   |some (ok,out)=>bif oW h out then(bif ok then k out else none)else none)
def Ek (H:List qA)(nid rm:Nat)(out:oF):Bool:=Nat.ble out.new.length rm&&(Nat.ble (nid+rm) H.length&&Nat.ble H.length top)&&out.wr.all fun p=>Nat.blt p.1 H.length
def wu (n:Nat):Option Nat→Bool
 |none=>true
 |some d=>Nat.blt d n
def iY {R:Type}(E:yC)(all:List Oper):Nat→List Oper→Nat→List (Nat×V)→List qA→List Fp→(St→List Fp→Option R)→Option R
 |_,[],_,T,H,fps,k=>k ⟨T,H⟩ fps
 |i,o::rest,nid,T,H,fps,k=>
  let go (T:List (Nat×V)):Option R:=
   gn E nid o T (rA H) fun out=>bif Ek H nid (yN E.tab o.op) out then
    iY E all (i+1) rest (nid+yN E.tab o.op) (B6 T o.dst out.val) (E9 (Bt H out.wr) nid out.new)
     (⟨i,out.touch,out.wr.map (·.1)++(List.range out.new.length).map (nid+ ·)⟩::fps) k
    else none
  let skip (T:List (Nat×V)):Option R:=
   iY E all (i+1) rest (nid+yN E.tab o.op) (B6 T o.dst bI) H (⟨i,[],[]⟩::fps) k
  bif wu E.ntmps o.dst then
   match o.guard with
   |none=>go T
   |some (j,want)=>match(all[j]?).bind (·.dst)with
    |none=>none
    |some g=>match fE T g with
     | .c (.bool true)=>bif want then go ((g,.c (.bool true))::T)else skip ((g,.c (.bool true))::T)
     | .c (.bool false)=>bif want then skip ((g,.c (.bool false))::T)else go ((g,.c (.bool false))::T)
     | .c (.tuple _)=>skip T
     |_=>none
  else none
def vK:List Oper→List Nat→List Nat
 | [],acc=>acc.reverse
 |o::r,acc=>
  vK r ((((o.after.toList.filter (Region.binds .any)).map (·.on)).foldl (fun m d=>m|||(1<<<d)|||acc.reverse.getD d 0) 0)::acc)
def Mf (xs:List Operand):List Nat:=xs.filterMap fun| .tmp t=>some t|_=>none
def sV (all:List Oper)(o:Oper):List Nat:=
 Mf o.op.operands.toList++(match o.guard with
  |some (j,_)=>((all[j]?).bind (·.dst)).toList
  |none=>[])
def Cd (all:List Oper)(x y:Oper):Bool:=
 (match x.dst with
  |some d=>!((sV all y).any (Nat.beq d))&& !(y.dst.toList.any (Nat.beq d))
  |none=>true)&&
 (match y.dst with
  |some d=>!((sV all x).any (Nat.beq d))
  |none=>true)
def ix (x y:Op):Bool:=match x,y with
 | .lookup t (.tmp a) (.tmp b) false,.mapEntry t' (.tmp a') (.tmp b')=>Nat.beq t t'&&(Nat.beq a a'&&Nat.beq b b')
 |_,_=>false
def nt (all:List Oper)(bef:List Nat)(x y:Fp):Bool:=
 (bef.getD y.i 0).testBit x.i||
 (Cd all (all.getD x.i default) (all.getD y.i default)&&(!jZ x.touch y.wr||ix (all.getD x.i default).op (all.getD y.i default).op)&& !jZ x.wr y.touch&& !jZ x.wr y.wr)
def jj (all:List Oper)(bef:List Nat):List Fp→Bool
 | []=>true
 |y::r=>r.all (fun x=>nt all bef x y)&&jj all bef r
def xL:Nat→List Oper→Bool
 |_,[]=>true
 |i,o::r=>o.after.toList.all (fun e=>!Region.binds .any e||Nat.blt e.on i)&&xL (i+1) r
def Ez (ops:List Oper):Bool:=ops.all fun o=>match o.op with
 | .select .. | .go _| .defer _=>false
 |_=>true
def zW (tab:Nat→Option yA):List Oper→Nat
 | []=>0
 |o::r=>yN tab o.op+zW tab r
def jY {R:Type}(E:yC)(ops:Array Oper)(draw:Bool)(s:St)(k:St→Option R):Option R:=
 iY E ops.toList 0 ops.toList s.H.length s.T (s.H++List.replicate (zW E.tab ops.toList) .dead) [] fun s' fps=>
  bif Nat.ble s'.H.length top&&(!draw||(xL 0 ops.toList&&Ez ops.toList&&jj ops.toList (vK ops.toList []) fps))then k s' else none
noncomputable def bp {R:Type}(n:Nat)(f:Nat→Option R):Option R:=by
 classical exact if h:0<n∧∃r,∀i,i<n→f i=some r then some (Classical.choose h.2)else none
noncomputable def rv {R:Type}(d1 d2:Nat)(it:V)(T:List (Nat×V))(H:List qA)(k:St→Option R):Option R:=match it with
 | .ptr id 0 _=>match rA H id with
  | .it (some mid) gE rem _=>(match rA H mid with
   | .mp _ _ ks _=>bif Nat.beq ks.length gE then(bif rem.isEmpty then k ⟨(d2,.c (.bool false))::(d1,.poison)::T,H⟩
     else bp rem.length fun p=>k ⟨(d2,.c (.bool true))::(d1,.poison)::T,oC H id (.it (some mid) gE (rem.eraseIdx p) (rem.getD p 0))⟩)else none
   |_=>none)
  |_=>none
 |_=>none
def tm:List Oper→Option (Operand×Nat×Nat)
 | [o1,o2]=>match o1.op,o1.dst,o1.guard,o2.op,o2.dst,o2.guard with
  | .next it false,some d1,none,.extract (.tmp t) 0,some d2,none=>bif Nat.beq t d1 then some (it,d1,d2)else none
  |_,_,_,_,_,_=>none
 |_=>none
structure kR where
 src:List (Option Nat)
 blks:List qA
def dC (id:Nat):List (Option Nat)→Nat→Option Nat
 | [],_=>none
 |some j::r,n=>bif Nat.beq j id then some n else dC id r (n+1)
 |none::r,n=>dC id r (n+1)
def Al (src:List (Option Nat)):List V→Option (List V)
 | []=>some []
 | .ptr id off ext::r=>(match dC id src 0,Al src r with
   |some j,some r'=>some (.ptr j off ext::r')
   |_,_=>none)
 |_::_=>none
def Cz (h:Nat→qA)(k:IntKind)(s:Nat)(v:V)(a:kR):Option (V×kR):=match v with
 | .c (.slice none 0 0)=>some (.c (.slice none 0 0),a)
 | .sw id w'=>bif Nat.beq s w' then(match dC id a.src 0 with
   |some j=>some (.sw j s,a)
   |none=>match h id with
    | .ints k' l=>bif sN k k' then some (.sw a.src.length s,⟨a.src++[some id],a.blks++[.ints k' l]⟩)else none
    |_=>none)else none
 |_=>none
def dY (h:Nat→qA)(k:IntKind)(s:Nat):List V→kR→Option (List V×kR)
 | [],a=>some ([],a)
 |v::vs,a=>(match Cz h k s v a with
   |some (v',a')=>(match dY h k s vs a' with
    |some (vs',a'')=>some (v'::vs',a'')
    |none=>none)
   |none=>none)
mutual
def iL (h:Nat→qA):Sh→V→kR→Option (V×kR)
 | .any,v,a=>bif (mK v).isEmpty then some (v,a)else
   (match v with
    | .ptr id off ext=>(match dC id a.src 0 with
     |some j=>some (.ptr j off ext,a)
     |none=>match h id with
      | .ints k l=>some (.ptr a.src.length off ext,⟨a.src++[some id],a.blks++[.ints k l]⟩)
      | .bls l=>some (.ptr a.src.length off ext,⟨a.src++[some id],a.blks++[.bls l]⟩)
      | .vals cs=>bif (iF cs).isEmpty then some (.ptr a.src.length off ext,⟨a.src++[some id],a.blks++[.vals cs]⟩)else none
      | .dead=>none
      | .nw _ _ _ _=>none
      | .mp _ _ _ _=>none
      | .it (some mid) gE rem cur=>(match dC mid a.src 0 with
       |some j=>some (.ptr a.src.length off ext,⟨a.src++[some id],a.blks++[.it (some j) gE rem cur]⟩)
       |none=>match h mid with
        | .mp k n ks vs=>some (.ptr (a.src.length+1) off ext,⟨(a.src++[some mid])++[some id],(a.blks++[.mp k n ks vs])++[.it (some a.src.length) gE rem cur]⟩)
        |_=>none)
      | .it none _ _ _=>none)
    | .sw id w=>(match dC id a.src 0 with
     |some j=>some (.sw j w,a)
     |none=>match h id with
      | .ints k l=>some (.sw a.src.length w,⟨a.src++[some id],a.blks++[.ints k l]⟩)
      | .bls l=>some (.sw a.src.length w,⟨a.src++[some id],a.blks++[.bls l]⟩)
      | .vals cs=>bif (iF cs).isEmpty then some (.sw a.src.length w,⟨a.src++[some id],a.blks++[.vals cs]⟩)else none
      | .nw k s rows hole=>(match hole with|none=>some (.sw a.src.length w,⟨a.src++[some id],a.blks++[.nw k s rows none]⟩)|some _=>none)
      | .dead=>none
      | .mp _ _ _ _=>none
      | .it _ _ _ _=>none)
    | .sl id w off len=>(match dC id a.src 0 with
     |some j=>some (.sl j w off len,a)
     |none=>match h id with
      | .ints k l=>some (.sl a.src.length w off len,⟨a.src++[some id],a.blks++[.ints k l]⟩)
      | .bls _=>none
      | .vals cs=>bif (iF cs).isEmpty then some (.sl a.src.length w off len,⟨a.src++[some id],a.blks++[.vals cs]⟩)else none
      | .dead=>none
      | .nw _ _ _ _=>none
      | .mp _ _ _ _=>none
      | .it _ _ _ _=>none)
    | .mref id=>(match dC id a.src 0 with
     |some j=>some (.mref j,a)
     |none=>match h id with
      | .mp k n ks vs=>some (.mref a.src.length,⟨a.src++[some id],a.blks++[.mp k n ks vs]⟩)
      |_=>none)
    | .fn f va vc=>(match Al a.src va,Al a.src vc with
     |some va',some vc'=>some (.fn f va' vc',a)
     |_,_=>none)
    |_=>none)
 | .row k w,v,a=>(match v with
   | .c (.slice none 0 0)=>bif Nat.blt 0 w then some (.sw a.src.length w,⟨a.src++[none],a.blks++[.ints k []]⟩)else none
   | .sw id w'=>bif Nat.beq w w' then(match dC id a.src 0 with
     |some j=>some (.sw j w,a)
     |none=>match h id with
      | .ints k' l=>bif sN k k' then some (.sw a.src.length w,⟨a.src++[some id],a.blks++[.ints k' l]⟩)else none
      |_=>none)else none
   |_=>none)
 | .part k w,v,a=>(match v with
   | .c (.slice none 0 0)=>bif Nat.blt 0 w then some (.sl a.src.length w 0 0,⟨a.src++[none],a.blks++[.ints k []]⟩)else none
   | .sw id w'=>bif Nat.beq w w' then(match h id with
     | .ints k' l=>bif sN k k' then(match dC id a.src 0 with
      |some j=>some (.sl j w 0 (gE w l.length),a)
      |none=>some (.sl a.src.length w 0 (gE w l.length),⟨a.src++[some id],a.blks++[.ints k' l]⟩))else none
     |_=>none)else none
   | .sl id w' off len=>bif Nat.beq w w' then(match h id with
     | .ints k' l=>bif sN k k' then(match dC id a.src 0 with
      |some j=>some (.sl j w' off len,a)
      |none=>some (.sl a.src.length w' off len,⟨a.src++[some id],a.blks++[.ints k' l]⟩))else none
     |_=>none)else none
   |_=>none)
 | .il k w,v,a=>(match v with
   | .c (.slice none 0 0)=>bif Nat.blt 0 w then some (.il k w [],a)else none
   | .il k' w' l=>bif sN k k'&&Nat.beq w w' then some (.il k' w' l,a)else none
   |_=>none)
 | .inl k s,v,a=>(match v with
   | .c (.slice none 0 0)=>bif Nat.blt 0 s then some (.inl k s [],a)else none
   | .inl k' s' rows=>bif sN k k'&&Nat.beq s s' then some (.inl k' s' rows,a)else none
   |_=>none)
 | .box ss,v,a=>(match v with
   | .ptr id off ext=>(match dC id a.src 0 with
     |some j=>some (.ptr j off ext,a)
     |none=>match h id with
      | .vals cs=>(match aI h ss cs ⟨a.src++[some id],a.blks++[.dead]⟩with
       |some (cs',a')=>some (.ptr a.src.length off ext,⟨a'.src,oC a'.blks a.src.length (.vals cs')⟩)
       |none=>none)
      |_=>none)
   |_=>none)
 | .vrow ss,v,a=>(match v with
   | .sw id w=>(match dC id a.src 0 with
     |some j=>some (.sw j w,a)
     |none=>match h id with
      | .vals cs=>(match aI h ss cs ⟨a.src++[some id],a.blks++[.dead]⟩with
       |some (cs',a')=>some (.sw a.src.length w,⟨a'.src,oC a'.blks a.src.length (.vals cs')⟩)
       |none=>none)
      |_=>none)
   |_=>none)
 | .vrows k s,v,a=>(match v with
   | .c (.slice none 0 0)=>some (.c (.slice none 0 0),a)
   | .sw id w=>(match dC id a.src 0 with
     |some j=>some (.sw j w,a)
     |none=>match h id with
      | .vals cs=>(match dY h k s cs ⟨a.src++[some id],a.blks++[.dead]⟩with
       |some (cs',a')=>some (.sw a.src.length w,⟨a'.src,oC a'.blks a.src.length (.vals cs')⟩)
       |none=>none)
      |_=>none)
   |_=>none)
 | .fnc ss,v,a=>(match v with
   | .fn f [] cs=>(match aI h ss cs a with
    |some (cs',a')=>some (.fn f [] cs',a')
    |none=>none)
   |_=>none)
 | .nrow k s,v,a=>(match v with
   | .c (.slice none 0 0)=>some (.sw a.src.length 1,⟨a.src++[none],a.blks++[.nw k s [] none]⟩)
   | .sw id w'=>bif Nat.beq 1 w' then(match dC id a.src 0 with
     |some j=>some (.sw j 1,a)
     |none=>match h id with
      | .nw k' s' rows none=>bif sN k k'&&Nat.beq s s' then some (.sw a.src.length 1,⟨a.src++[some id],a.blks++[.nw k' s' rows none]⟩)else none
      |_=>none)else none
   |_=>none)
 | .recd ss,v,a=>(match v with
   | .agg cs=>(match aI h ss cs a with
    |some (cs',a')=>some (.agg cs',a')
    |none=>none)
   |_=>none)
 | .tup ss,v,a=>(match v with
   | .tup cs=>(match aI h ss cs a with
    |some (cs',a')=>some (.tup cs',a')
    |none=>none)
   |_=>none)
def aI (h:Nat→qA):List Sh→List V→kR→Option (List V×kR)
 | [],[],a=>some ([],a)
 |s::ss,v::vs,a=>(match iL h s v a with
   |some (v',a')=>(match aI h ss vs a' with
    |some (vs',a'')=>some (v'::vs',a'')
    |none=>none)
   |none=>none)
 |_,_,_=>none
end
def vG (nb:Nat)(H:List qA):kR:=⟨(List.range nb).map some,H.take nb⟩
def uT (nb:Nat):List qA→Bool
 | []=>true
 |b::r=>(vS b).all (fun i=>Nat.blt i nb)&& !b.isNw&&uT nb r
def bX (H:List qA)(id:Nat):List qA:=match rA H id with
 | .nw k s rows (some (j,g))=>(match rA H g with
  | .ints k' l=>bif sN k k' then oC (oC H g .dead) id (.nw k s (rows.set j l) none)else H
  |_=>H)
 |_=>H
def Eh:List qA→Nat→List Nat
 | [],_=>[]
 |b::r,n=>bif b.isNw then n::Eh r (n+1)else Eh r (n+1)
def jx:List Nat→List qA→List qA
 | [],H=>H
 |i::r,H=>jx r (bX H i)
def Lx (H:List qA):List qA:=jx (Eh H 0) H
def Ed (nb:Nat)(keep:List (Nat×Sh))(s:St):Option (List V×List qA):=
 match aI (rA s.H) (keep.map (·.2)) (keep.map fun p=>fE s.T p.1) (vG nb s.H)with
 |some (vs,a)=>bif uT nb (s.H.take nb)&&Nat.ble a.blks.length top then some (vs,a.blks)else none
 |none=>none
def uh (nb:Nat)(keep:List (Nat×Sh))(s:St):Option (List V×List qA):=Ed nb keep ⟨s.T,Lx s.H⟩
def fM:List (Nat×List Sh)→List qA→List qA
 | [],H=>H
 |p::r,H=>fM r (oC H p.1 .dead)
def s6 (h:Nat→qA):List (Nat×List Sh)→kR→Option kR
 | [],a=>some a
 |p::r,a=>(match h p.1 with
   | .vals cs=>(match aI h p.2 cs a with
    |some (cs',a')=>s6 h r ⟨a'.src,oC a'.blks p.1 (.vals cs')⟩
    |none=>none)
   |_=>none)
def Ef (nb:Nat)(bsh:List (Nat×List Sh))(keep:List (Nat×Sh))(s:St):Option (List V×List qA):=
 match aI (rA s.H) (keep.map (·.2)) (keep.map fun p=>fE s.T p.1) ⟨(List.range nb).map some,fM bsh (s.H.take nb)⟩with
 |some (vs,a)=>(match s6 (rA s.H) bsh a with
   |some a'=>bif uT nb (fM bsh (s.H.take nb))&&(bsh.all (fun p=>Nat.blt p.1 nb)&&Nat.ble a'.blks.length top)then some (vs,a'.blks)else none
   |none=>none)
 |none=>none
def iE:List (Nat×Sh)→List V→List (Nat×V)
 |(t,_)::r,v::vs=>(t,v)::iE r vs
 |_,_=>[]
mutual
def tH (nb:Nat)(h:Nat→qA):Sh→V→Option V
 | .il k w,v=>(match v with
   | .c (.slice none 0 0)=>bif Nat.blt 0 w then some (.il k w [])else none
   | .il k' w' l=>bif sN k k'&&Nat.beq w w' then some (.il k' w' l)else none
   | .sw id w'=>bif Nat.ble nb id&&Nat.beq w w' then(match h id with
     | .ints k' l=>bif sN k k' then some (.il k' w l)else none
     |_=>none)else none
   | .sl id w' off len=>bif Nat.ble nb id&&Nat.beq w w' then(match h id with
     | .ints k' l=>bif sN k k' then some (.il k' w ((l.drop off).take (kG w len)))else none
     |_=>none)else none
   |_=>none)
 | .inl k s,v=>(match v with
   | .c (.slice none 0 0)=>bif Nat.blt 0 s then some (.inl k s [])else none
   | .inl k' s' rows=>bif sN k k'&&Nat.beq s s' then some (.inl k' s' rows)else none
   | .sw id w=>bif Nat.ble nb id&&Nat.beq w 1 then(match h id with
     | .nw k' s' rows none=>bif sN k k'&&(Nat.beq s s'&&Nat.blt id top)then some (.inl k' s' rows)else none
     |_=>none)else none
   |_=>none)
 | .recd ss,v=>(match v with
   | .agg cs=>(match uH nb h ss cs with|some cs'=>some (.agg cs')|none=>none)
   |_=>none)
 | .tup ss,v=>(match v with
   | .tup cs=>(match uH nb h ss cs with|some cs'=>some (.tup cs')|none=>none)
   |_=>none)
 |_,v=>bif (mK v).all (fun i=>Nat.blt i nb)then some v else none
def uH (nb:Nat)(h:Nat→qA):List Sh→List V→Option (List V)
 | [],[]=>some []
 |s::ss,v::vs=>(match tH nb h s v with
   |some v'=>(match uH nb h ss vs with|some vs'=>some (v'::vs')|none=>none)
   |none=>none)
 |_,_=>none
end
def uo (E:yC)(s:St):List ResultVar→Option (List V)
 | []=>some []
 | .tmp t::r=>(match uo E s r with|some vs=>some (fE s.T t::vs)|none=>none)
 | .cell a t::r=>(match E.ty t,fE s.T a with
   |some ti,.ptr id off ext=>bif Nat.ble ti.size ext&&Nat.blt 0 ti.size then
     (match kF ti off (rA s.H id),uo E s r with
      |some v,some vs=>some (v::vs)
      |_,_=>none)else none
   |_,_=>none)
def one (vs:List V):V:=match vs with
 | [v]=>v
 |vs=>.tup vs
def qn:Nat→List Sh→List (Nat×Sh)
 |_,[]=>[]
 |i,s::r=>(i,s)::qn (i+1) r
def qO:Nat→List V→List (Nat×V)
 |_,[]=>[]
 |i,v::r=>(i,v)::qO (i+1) r
def bN (E:yC)(s:St):Option (V×List qA):=
 match uo E s E.res with
 |none=>none
 |some vs=>bif E.own then
   (match Ef E.nb E.bsh (qn 0 E.rsh) ⟨qO 0 vs,s.H⟩with
    |none=>none
    |some (vs',H')=>bif Nat.beq vs.length E.rsh.length&&Nat.beq vs'.length E.rsh.length then some (one vs',H')else none)
  else match uH E.nb (rA s.H) E.rsh vs with
  |none=>none
  |some vs=>bif uT E.nb (s.H.take E.nb)then some (one vs,s.H.take E.nb)else none
def mH:Code→Option Nat
 | .region id _ _=>some id
 | .seq a b=>match mH a with
  |some i=>some i
  |none=>mH b
 | .cond _ x y=>match mH x with
  |some i=>some i
  |none=>mH y
 | .block _ b| .loop b| .scope b=>mH b
 |_=>none
def qF (c:Code):Nat:=(mH c).getD 0
def vB {R:Type}(nb:Nat)(hd:cE)(f:St→(Ex→St→Option R)→Option R):Nat→List V→List qA→(Ex→St→Option R)→Option R
 |0,_,_,_=>none
 |n+1,vs,H,k=>f ⟨iE hd.keep vs,H⟩ fun ex s=>match ex with
  | .normal=>(match uh nb hd.keep s with
   |some (vs,H)=>vB nb hd f n vs H k
   |none=>none)
  | .ret v bs=>k (.ret v bs) .nil
  |e=>(match uh nb hd.out s with
   |some (vs,H)=>k e ⟨iE hd.out vs,H⟩
   |none=>none)
def aN {R:Type}(nb:Nat)(hd:cE)(f:Code→St→(Ex→St→Option R)→Option R)(body:Code):Nat→Code→List V→List qA→(Ex→St→Option R)→Option R
 |0,_,_,_,_=>none
 |n+1,c,vs,H,k=>f c ⟨iE hd.keep vs,H⟩ fun ex s=>match ex with
  | .goto l=>(match findLabel body l with
   |some rest=>(match uh nb hd.keep s with
    |some (vs,H)=>aN nb hd f body n rest vs H k
    |none=>none)
   |none=>none)
  | .ret v bs=>k (.ret v bs) .nil
  |e=>(match uh nb hd.out s with
   |some (vs,H)=>k e ⟨iE hd.out vs,H⟩
   |none=>none)
def uQ:Code→Nat→Bool
 | .goto _,_=>true
 | .seq a b,n=>uQ a n||uQ b n
 | .cond _ a b,n=>uQ a n||uQ b n
 | .block _ b,n| .loop b,n| .scope b,n=>uQ b n
 |_,_=>false
noncomputable def kB {R:Type}(E:yC):Nat→Code→St→(Ex→St→Option R)→Option R
 |0,_,_,_=>none
 |d+1,c,s,k=>match c with
  | .skip=>k .normal s
  | .label _=>k .normal s
  | .region _ ops draw=>match tm ops.toList with
   |some (it,d1,d2)=>bif !draw&&(Nat.blt d1 E.ntmps&&(Nat.blt d2 E.ntmps))then rv d1 d2 (Qk s.T it) s.T s.H (fun s'=>k .normal s')else none
   |none=>jY E ops draw s fun s'=>k .normal s'
  | .seq a b=>kB E d a s fun ex s'=>match ex with
   | .normal=>kB E d b s' k
   |e=>k e s'
  | .cond c x y=>match Qk s.T c with
   | .c (.bool b)=>bif b then kB E d x s k else kB E d y s k
   |_=>none
  | .block id b=>kB E d b s fun ex s'=>match ex with
   | .exit i=>bif Nat.beq i id then k .normal s' else k (.exit i) s'
   |e=>k e s'
  | .loop b=>match E.hint (qF b)with
   |none=>none
   |some hd=>match uh E.nb hd.keep s with
    |none=>none
    |some (vs,H)=>match E.cut (qF b)with
     |some e=>e.run vs H k
     |none=>vB E.nb hd (fun s k=>kB E d b s k) E.N vs H k
  | .scope b=>bif uQ b 0 then
    match E.hint (1000000+qF b)with
    |none=>none
    |some hd=>match uh E.nb hd.keep s with
     |none=>none
     |some (vs,H)=>match E.cut (1000000+qF b)with
      |some e=>e.run vs H k
      |none=>aN E.nb hd (fun c s k=>kB E d c s k) b E.N b vs H k
   else kB E d b s fun ex s'=>match ex with
    | .goto _=>none
    |e=>k e s'
  | .exit id=>k (.exit id) s
  | .goto l=>k (.goto l) s
  | .ret=>match bN E s with
   |some (v,bs)=>k (.ret v bs) .nil
   |none=>none
  |_=>none
def jM {α:Type _}:List (Nat×α)→Nat→Option α
 | [],_=>none
 |(a,v)::r,t=>bif Nat.beq a t then some v else jM r t
def Qi:Nat:=400
noncomputable def eB {R:Type}(E:yC)(body:Code)(args:List V)(bs:List qA)(k:V→List qA→Option R):Option R:=
 kB E Qi body ⟨qO 0 args,bs⟩ fun ex s=>match ex with
  | .ret v bs=>k v bs
  | .normal=>(match bN E s with
   |some (v,bs)=>k v bs
   |none=>none)
  |_=>none
def jA:Code→List Code
 | .seq a b=>jA a++jA b
 | .cond _ a b=>jA a++jA b
 | .block _ b=>jA b
 | .loop b=>.loop b::jA b
 | .scope b=>.scope b::jA b
 |_=>[]
def bB:Code→Code
 | .loop b=>b
 | .scope b=>b
 |c=>c
def aA (n:Int):Int:=IntKind.wrap .i64 n
def pM (n:Int):Int:=IntKind.wrap .u8 n
def gF (n:Int):Int:=IntKind.wrap .u32 n
def nA (n:Int):Int:=IntKind.wrap .u64 n
def mB (k:IntKind)(a b:Int):Int:=k.wrap (BitVec.ofInt k.bits a&&& BitVec.ofInt k.bits b).toNat
def dE (k:IntKind)(a b:Int):Int:=k.wrap (BitVec.ofInt k.bits a|||BitVec.ofInt k.bits b).toNat
def rW (k:IntKind)(a b:Int):Int:=k.wrap (BitVec.ofInt k.bits a^^^BitVec.ofInt k.bits b).toNat
structure Pl where
 blk:Option Nat
 n:Nat
 C:Nat
abbrev xC:=Nat→Option Pl
def fI (M:Nat→Prop)(w:World)(k:IntKind)(s:Nat)(l:List Int)(v:Value):Prop:=
 0<s∧l.length%s=0∧((l=[]∧∃a,v= .slice a 0 0)∨∃b o cap,v= .slice (some ⟨b,o,none⟩) (l.length/s) cap∧l.length/s≤cap∧b<w.heap.size∧¬M b∧
   ∀j,j<l.length→w.cell? ⟨b,o+j,none⟩=some (.int k (l.getD j 0)))
mutual
def oA (ρ:xC)(M:Nat→Prop)(w:World):V→Value→Prop
 | .c x,v=>v=x
 | .poison,_=>True
 | .ptr id off ext,v=>∃b n C,ρ id=some ⟨some b,n,C⟩∧off+ext≤n∧v= .pointer (some ⟨b,off,none⟩)
 | .sw id s,v=>0<s∧((∃b n C cap,ρ id=some ⟨some b,n,C⟩∧n%s=0∧n/s≤cap∧cap*s≤C∧v= .slice (some ⟨b,0,none⟩) (n/s) cap)∨(ρ id=some ⟨none,0,0⟩∧v= .slice none 0 0))
 | .sl id s off len,v=>0<s∧((∃b n C cap,ρ id=some ⟨some b,n,C⟩∧off+len*s≤n∧len≤cap∧off+cap*s≤C∧v= .slice (some ⟨b,off,none⟩) len cap)∨(len=0∧∃a,v= .slice a 0 0))
 | .il k s l,v=>0<s∧l.length%s=0∧((l=[]∧∃a,v= .slice a 0 0)∨∃b o cap,v= .slice (some ⟨b,o,none⟩) (l.length/s) cap∧l.length/s≤cap∧b<w.heap.size∧¬M b∧
   ∀j,j<l.length→w.cell? ⟨b,o+j,none⟩=some (.int k (l.getD j 0)))
 | .iv n cols,v=>0<cols.length∧((n=0∧∃a,v= .slice a 0 0)∨∃b o cap,v= .slice (some ⟨b,o,none⟩) n cap∧n≤cap∧b<w.heap.size∧¬M b∧
   ∀i,i<n→∀j,j<cols.length→w.cell? ⟨b,o+i*cols.length+j,none⟩=(vM cols i)[j]?)
 | .ilp k l off ext,v=>∃b o,v= .pointer (some ⟨b,o+off,none⟩)∧off+ext≤l.length∧b<w.heap.size∧¬M b∧∀j,j<l.length→w.cell? ⟨b,o+j,none⟩=some (.int k (l.getD j 0))
 | .ivp cols i off ext,v=>∃b o,v= .pointer (some ⟨b,o+off,none⟩)∧off+ext≤cols.length∧b<w.heap.size∧¬M b∧∀j,j<cols.length→w.cell? ⟨b,o+j,none⟩=(vM cols i)[j]?
 | .agg cs,v=>∃vs:Array Value,v= .agg vs∧mA ρ M w cs vs.toList
 | .tup cs,v=>∃vs:Array Value,v= .tuple vs∧mA ρ M w cs vs.toList
 | .mref id,v=>∃b,ρ id=some ⟨some b,0,0⟩∧v= .map (some b)
 | .inl k s rows,v=>((rows=[]∧∃a,v= .slice a 0 0)∨∃b o cap,v= .slice (some ⟨b,o,none⟩) rows.length cap∧rows.length≤cap∧b<w.heap.size∧¬M b∧
   ∀i,i<rows.length→∃u,w.cell? ⟨b,o+i,none⟩=some u∧fI M w k s (rows.getD i []) u)
 | .inlp k s rows i,v=>∃b o,v= .pointer (some ⟨b,o+i,none⟩)∧i<rows.length∧b<w.heap.size∧¬M b∧∀j,j<rows.length→∃u,w.cell? ⟨b,o+j,none⟩=some u∧fI M w k s (rows.getD j []) u
 | .lv n,v=>∃a cap,v= .slice a n cap∧n≤cap
 | .fn f a c,v=>∃va vc:Array Value,v= .func (.func f) va vc∧mA ρ M w a va.toList∧mA ρ M w c vc.toList
def mA (ρ:xC)(M:Nat→Prop)(w:World):List V→List Value→Prop
 | [],[]=>True
 |x::xs,v::vs=>oA ρ M w x v∧mA ρ M w xs vs
 |_,_=>False
end
def qA.live:qA→Prop
 | .dead=>False
 |_=>True
def lb (w:World)(b C:Nat)(c:Array Value):Prop:=
 ∃e fr,w.heap[b]?=some (.cells c e fr)∧c.size=C∧∀i,i<C→¬(fr.1≤i∧i<fr.2)
def xN.len:xN→Nat
 | .ints _ l=>l.length
 | .bools l=>l.length
 | .strs l=>l.length
structure wc (k:IntKind)(n:Nat)(ks:List (List Int))(vs:xN)(es:Array MapEntry)(clk:Nat):Prop where
 size:es.size=ks.length
 at_:∀j,j<ks.length→(ks.getD j []).length=n∧∃e,es[j]?=some e∧e.key= .agg ((ks.getD j []).map (Value.int k)).toArray∧e.val=cI vs j
 old:∀e∈es.toList,e.born<clk
 apart:(es.toList.map (·.born)).Nodup
 stamp:clk=ks.length
 born:∀(j:Nat) (e:MapEntry),es[j]?=some e→e.born=j
structure Rb (gE:Nat)(seen:Array Nat)(rem:List Nat)(cur:Nat):Prop where
 nodup:rem.Nodup
 lt:∀j∈rem,j<gE
 iff:∀j,j<gE→(j∈rem↔seen.contains j=false)
 last:cur<gE→∃seen0:Array Nat,seen=seen0.push cur
def jB (ρ:xC)(M:Nat→Prop)(w:World)(p:Pl):qA→Prop
 | .dead=>True
 | .ints k l=>l.length=p.n∧((p.blk=none∧l=[]∧p.C=0)∨∃b c,p.blk=some b∧lb w b p.C c∧p.n≤p.C∧∀i,i<l.length→c[i]?=some (.int k (l.getD i 0)))
 | .vals cs=>cs.length=p.n∧((p.blk=none∧cs=[]∧p.C=0)∨∃b c,p.blk=some b∧lb w b p.C c∧p.n≤p.C∧mA ρ M w cs (c.toList.take p.n))
 | .nw _ _ _ _=>False
 | .bls l=>l.length=p.n∧((p.blk=none∧l=[]∧p.C=0)∨∃b c,p.blk=some b∧lb w b p.C c∧p.n≤p.C∧∀i,i<l.length→c[i]?=some (.bool (l.getD i false)))
 | .mp k n ks vs=>p.n=0∧p.C=0∧vs.len=ks.length∧∃b es clk,p.blk=some b∧w.heap[b]?=some (.map es clk)∧wc k n ks vs es clk
 | .it mid gE rem cur=>p.n=0∧p.C=0∧∃b mb seen,p.blk=some b∧w.heap[b]?=some (.mapIter (some mb) gE seen gE)∧(∀i,mid=some i→ρ i=some ⟨some mb,0,0⟩)∧Rb gE seen rem cur
def fA (ρ:xC)(h:Nat→qA)(b:Nat):Prop:=∃id n C,ρ id=some ⟨some b,n,C⟩∧(h id).live
def av (F M:Nat→Prop)(b:Nat):Prop:=F b∨M b
structure kA (F:Nat→Prop)(ρ:xC)(h:Nat→qA)(w:World):Prop where
 wf:∀id p,ρ id=some p→p.n≤p.C
 rel:∀id,(h id).live→∃p,ρ id=some p∧jB ρ (av F (fA ρ h)) w p (h id)
 inj:∀id id' b n C n' C',(h id).live→(h id').live→ρ id=some ⟨some b,n,C⟩→ρ id'=some ⟨some b,n',C'⟩→id=id'
 low:∀b,F b→b<w.heap.size
 out:∀b,fA ρ h b→¬F b
structure sG (w w':World):Prop where
 os:w'.os=w.os
 tape:w'.tape=w.tape
 output:w'.output=w.output
 drawn:w.drawn≤w'.drawn
theorem sG.refl (w:World):sG w w:=⟨rfl,rfl,rfl,hD _⟩
theorem sG.trans {a b c:World}(h:sG a b)(k:sG b c):sG a c:=⟨k.os.trans h.os,k.tape.trans h.tape,k.output.trans h.output,w6 h.drawn k.drawn⟩
structure qG (M:Nat→Prop)(w:World)(M':Nat→Prop)(w':World):Prop where
 size:w.heap.size≤w'.heap.size
 same:∀b,b<w.heap.size→¬M b→w'.heap[b]?=w.heap[b]?
 sub:∀b,M' b→M b∨w.heap.size≤b
 keeps:sG w w'
def vL (ρ ρ':xC):Prop:=∀id p,ρ id=some p→ρ' id=some p
theorem qG.refl (M:Nat→Prop)(w:World):qG M w M w:=⟨hD _,fun _ _ _=>rfl,fun _ h=>.inl h,.refl _⟩
theorem qG.trans {M M' M'':Nat→Prop}{w w' w'':World}(h:qG M w M' w')(h':qG M' w' M'' w''):qG M w M'' w'' where
 size:=w6 h.size h'.size
 same b hb hm:=by have hm':¬M' b:=fun hx=>(h.sub b hx).elim hm (fun hs=>absurd hs (by omega));rw[h'.same b (hQ hb h.size) hm',h.same b hb hm]
 sub b hb:=(h'.sub b hb).elim (h.sub b) (fun hs=>.inr (w6 h.size hs))
 keeps:=h.keeps.trans h'.keeps
theorem vL.refl (ρ:xC):vL ρ ρ:=fun _ _ h=>h
theorem vL.trans {ρ ρ' ρ'':xC}(h:vL ρ ρ')(h':vL ρ' ρ''):vL ρ ρ'':=fun id p hp=>h' id p (h id p hp)
theorem zC {w w':World}{b:Nat}(h:w'.heap[b]?=w.heap[b]?)(o:Nat):w'.cell? ⟨b,o,none⟩=w.cell? ⟨b,o,none⟩:=by
 unfold World.cell?;rw[h]
theorem oQ {F M M':Nat→Prop}{w w':World}(he:qG M w M' w'){b:Nat}(hb:b<w.heap.size)(h:¬av F M b):¬av F M' b:=
 fun hx=>hx.elim (fun hf=>h (.inl hf)) (fun hm=>(he.sub b hm).elim (fun hm=>h (.inr hm)) (fun hz=>absurd hz (by omega)))
theorem fI.mono {F M M':Nat→Prop}{w w':World}(he:qG M w M' w'){k:IntKind}{s:Nat}{l:List Int}{v:Value}(h:fI (av F M) w k s l v):fI (av F M') w' k s l v:=by
 obtain⟨h0,h1,h2|⟨b,o,cap,h2,h3,h4,h5,h6⟩⟩:=h
 ·exact⟨h0,h1,.inl h2⟩
 ·exact⟨h0,h1,.inr ⟨b,o,cap,h2,h3,hQ h4 he.size,oQ he h4 h5,fun j hj=>by rw[zC (he.same b h4 (fun hm=>h5 (.inr hm)))];exact h6 j hj⟩⟩
theorem fI.world {M:Nat→Prop}{w w':World}(hw:w'.heap=w.heap){k:IntKind}{s:Nat}{l:List Int}{v:Value}(h:fI M w k s l v):fI M w' k s l v:=by
 obtain⟨h0,h1,h2|⟨b,o,cap,h2,h3,h4,h5,h6⟩⟩:=h
 ·exact⟨h0,h1,.inl h2⟩
 ·exact⟨h0,h1,.inr ⟨b,o,cap,h2,h3,by rw[hw];exact h4,h5,fun j hj=>by rw[zC (w:=w) (by rw[hw])];exact h6 j hj⟩⟩
theorem fI.avoid {M M':Nat→Prop}{w:World}(hM:∀b,M' b→M b){k:IntKind}{s:Nat}{l:List Int}{v:Value}(h:fI M w k s l v):fI M' w k s l v:=by
 obtain⟨h0,h1,h2|⟨b,o,cap,h2,h3,h4,h5,h6⟩⟩:=h
 ·exact⟨h0,h1,.inl h2⟩
 ·exact⟨h0,h1,.inr ⟨b,o,cap,h2,h3,h4,fun hm=>h5 (hM b hm),h6⟩⟩
theorem fI.of {ρ:xC}{M:Nat→Prop}{w:World}{k:IntKind}{s:Nat}{l:List Int}{v:Value}(h:oA ρ M w (.il k s l) v):fI M w k s l v:=by
 simp only[oA]at h;exact h
theorem fI.rel {ρ:xC}{M:Nat→Prop}{w:World}{k:IntKind}{s:Nat}{l:List Int}{v:Value}(h:fI M w k s l v):oA ρ M w (.il k s l) v:=by
 simp only[oA];exact h
mutual
theorem oA.mono {ρ ρ':xC}{F M M':Nat→Prop}{w w':World}(hs:vL ρ ρ')(he:qG M w M' w'):∀(x:V) (v:Value),oA ρ (av F M) w x v→oA ρ' (av F M') w' x v
 | .c _,_,h=>by simpa only[oA]using h
 | .poison,_,_=>by simp only[oA]
 | .ptr _ _ _,_,h=>by simp only[oA]at h⊢;obtain⟨b,n,C,h1,h2,h3⟩:=h;exact⟨b,n,C,hs _ _ h1,h2,h3⟩
 | .sw _ _,_,h=>by
  simp only[oA]at h⊢;obtain⟨h0,⟨b,n,C,cap,h1,h2⟩|⟨h1,h2⟩⟩:=h
  ·exact⟨h0,.inl ⟨b,n,C,cap,hs _ _ h1,h2⟩⟩
  ·exact⟨h0,.inr ⟨hs _ _ h1,h2⟩⟩
 | .sl _ _ _ _,_,h=>by
  simp only[oA]at h⊢;obtain⟨h0,⟨b,n,C,cap,h1,h2⟩|⟨h1,h2⟩⟩:=h
  ·exact⟨h0,.inl ⟨b,n,C,cap,hs _ _ h1,h2⟩⟩
  ·exact⟨h0,.inr ⟨h1,h2⟩⟩
 | .il _ _ _,_,h=>by
  simp only[oA]at h⊢;obtain⟨h0,h1,h2|⟨b,o,cap,h2,h3,h4,h5,h6⟩⟩:=h
  ·exact⟨h0,h1,.inl h2⟩
  ·exact⟨h0,h1,.inr ⟨b,o,cap,h2,h3,hQ h4 he.size,oQ he h4 h5,fun j hj=>by rw[zC (he.same b h4 (fun hm=>h5 (.inr hm)))];exact h6 j hj⟩⟩
 | .iv _ _,_,h=>by
  simp only[oA]at h⊢;obtain⟨h0,h2|⟨b,o,cap,h2,h3,h4,h5,h7⟩⟩:=h
  ·exact⟨h0,.inl h2⟩
  ·exact⟨h0,.inr ⟨b,o,cap,h2,h3,hQ h4 he.size,oQ he h4 h5,fun i hi j hj=>by rw[zC (he.same b h4 (fun hm=>h5 (.inr hm)))];exact h7 i hi j hj⟩⟩
 | .ilp _ _ _ _,_,h=>by simp only[oA]at h⊢;obtain⟨b,o,h2,h3,h4,h5,h6⟩:=h;exact⟨b,o,h2,h3,hQ h4 he.size,oQ he h4 h5,fun j hj=>by rw[zC (he.same b h4 (fun hm=>h5 (.inr hm)))];exact h6 j hj⟩
 | .ivp _ _ _ _,_,h=>by simp only[oA]at h⊢;obtain⟨b,o,h2,h3,h4,h5,h7⟩:=h;exact⟨b,o,h2,h3,hQ h4 he.size,oQ he h4 h5,fun j hj=>by rw[zC (he.same b h4 (fun hm=>h5 (.inr hm)))];exact h7 j hj⟩
 | .mref _,_,h=>by simp only[oA]at h⊢;obtain⟨b,h1,h2⟩:=h;exact⟨b,hs _ _ h1,h2⟩
 | .inl _ _ _,_,h=>by
  simp only[oA]at h⊢;obtain h2|⟨b,o,cap,h2,h3,h4,h5,h6⟩:=h
  ·exact .inl h2
  ·exact .inr ⟨b,o,cap,h2,h3,hQ h4 he.size,oQ he h4 h5,fun i hi=>by obtain⟨u,hu,hr⟩:=h6 i hi;exact⟨u,by rw[zC (he.same b h4 (fun hm=>h5 (.inr hm)))];exact hu,hr.mono he⟩⟩
 | .inlp _ _ _ _,_,h=>by simp only[oA]at h⊢;obtain⟨b,o,h2,h3,h4,h5,h6⟩:=h;exact⟨b,o,h2,h3,hQ h4 he.size,oQ he h4 h5,fun i hi=>by obtain⟨u,hu,hr⟩:=h6 i hi;exact⟨u,by rw[zC (he.same b h4 (fun hm=>h5 (.inr hm)))];exact hu,hr.mono he⟩⟩
 | .lv _,_,h=>by simpa only[oA]using h
 | .agg cs,_,h=>by simp only[oA]at h⊢;obtain⟨vs,h1,h2⟩:=h;exact⟨vs,h1,mA.mono hs he cs _ h2⟩
 | .tup cs,_,h=>by simp only[oA]at h⊢;obtain⟨vs,h1,h2⟩:=h;exact⟨vs,h1,mA.mono hs he cs _ h2⟩
 | .fn _ a c,_,h=>by simp only[oA]at h⊢;obtain⟨va,vc,h1,h2,h3⟩:=h;exact⟨va,vc,h1,mA.mono hs he a _ h2,mA.mono hs he c _ h3⟩
theorem mA.mono {ρ ρ':xC}{F M M':Nat→Prop}{w w':World}(hs:vL ρ ρ')(he:qG M w M' w'):∀(x:List V) (v:List Value),mA ρ (av F M) w x v→mA ρ' (av F M') w' x v
 | [],[],_=>by simp only[mA]
 |x::xs,v::vs,h=>by simp only[mA]at h⊢;exact⟨oA.mono hs he x v h.1,mA.mono hs he xs vs h.2⟩
 | [],_::_,h=>by simp only[mA]at h
 |_::_,[],h=>by simp only[mA]at h
end
theorem mA.consts {ρ:xC}{M:Nat→Prop}{w:World}:∀(vs:List Value),mA ρ M w (vs.map .c) vs
 | []=>by simp only[l5,mA]
 |v::vs=>by simp only[eX,mA,oA];exact⟨trivial,mA.consts vs⟩
theorem jQ:∀(cols:List xN) (i:Nat),(vM cols i).length=cols.length
 | [],_=>rfl
 |_::r,i=>by simp only[vM,c0,jQ r i]
theorem mA.length {ρ:xC}{M:Nat→Prop}{w:World}:∀{xs:List V} {vs:List Value},mA ρ M w xs vs→xs.length=vs.length
 | [],[],_=>rfl
 |_::xs,_::vs,h=>by simp only[mA]at h;simp[mA.length h.2]
 | [],_::_,h=>by simp only[mA]at h
 |_::_,[],h=>by simp only[mA]at h
theorem mA.get {ρ:xC}{M:Nat→Prop}{w:World}:∀{xs:List V} {vs:List Value},mA ρ M w xs vs→∀{i:Nat} {x:V},xs[i]?=some x→∃v,vs[i]?=some v∧oA ρ M w x v
 | [],[],_,i,x,hx=>by simp at hx
 |y::xs,v::vs,h,0,x,hx=>by simp only[mA]at h;simp at hx;subst hx;exact⟨v,rfl,h.1⟩
 |y::xs,v::vs,h,i+1,x,hx=>by simp only[mA]at h;simp at hx;obtain⟨u,hu,hr⟩:=mA.get h.2 hx;exact⟨u,by simpa using hu,hr⟩
 | [],_::_,h,_,_,_=>by simp only[mA]at h
 |_::_,[],h,_,_,_=>by simp only[mA]at h
theorem mA.append {ρ:xC}{M:Nat→Prop}{w:World}:∀{xs:List V} {vs:List Value} {ys:List V} {us:List Value},mA ρ M w xs vs→mA ρ M w ys us→mA ρ M w (xs++ys) (vs++us)
 | [],[],_,_,_,h=>by simpa using h
 |_::xs,_::vs,_,_,h,h'=>by simp only[mA]at h;simp only[List.cons_append,mA];exact⟨h.1,mA.append h.2 h'⟩
 | [],_::_,_,_,h,_=>by simp only[mA]at h
 |_::_,[],_,_,h,_=>by simp only[mA]at h
theorem mA.take {ρ:xC}{M:Nat→Prop}{w:World}:∀{xs:List V} {vs:List Value} (n:Nat),mA ρ M w xs vs→mA ρ M w (xs.take n) (vs.take n)
 | [],[],n,h=>by simp[mA]
 |_::_,_::_,0,_=>by simp[mA]
 |_::xs,_::vs,n+1,h=>by simp only[mA]at h;simp only[List.take_succ_cons,mA];exact⟨h.1,mA.take n h.2⟩
 | [],_::_,_,h=>by simp only[mA]at h
 |_::_,[],_,h=>by simp only[mA]at h
theorem mA.drop {ρ:xC}{M:Nat→Prop}{w:World}:∀{xs:List V} {vs:List Value} (n:Nat),mA ρ M w xs vs→mA ρ M w (xs.drop n) (vs.drop n)
 | [],[],n,h=>by simp[mA]
 |_::_,_::_,0,h=>by simpa using h
 |_::xs,_::vs,n+1,h=>by simp only[mA]at h;simp only[List.drop_succ_cons];exact mA.drop n h.2
 | [],_::_,_,h=>by simp only[mA]at h
 |_::_,[],_,h=>by simp only[mA]at h
mutual
theorem oA.world {ρ:xC}{M:Nat→Prop}{w w':World}(hw:w'.heap=w.heap):∀(x:V) (v:Value),oA ρ M w x v→oA ρ M w' x v
 | .c _,_,h=>by simpa only[oA]using h
 | .poison,_,_=>by simp only[oA]
 | .ptr _ _ _,_,h=>by simpa only[oA]using h
 | .sw _ _,_,h=>by simpa only[oA]using h
 | .sl _ _ _ _,_,h=>by simpa only[oA]using h
 | .mref _,_,h=>by simpa only[oA]using h
 | .inl _ _ _,_,h=>by
  simp only[oA]at h⊢;obtain h2|⟨b,o,cap,h2,h3,h4,h5,h6⟩:=h
  ·exact .inl h2
  ·exact .inr ⟨b,o,cap,h2,h3,by rw[hw];exact h4,h5,fun i hi=>by obtain⟨u,hu,hr⟩:=h6 i hi;exact⟨u,by rw[zC (w:=w) (by rw[hw])];exact hu,hr.world hw⟩⟩
 | .inlp _ _ _ _,_,h=>by simp only[oA]at h⊢;obtain⟨b,o,h2,h3,h4,h5,h6⟩:=h;exact⟨b,o,h2,h3,by rw[hw];exact h4,h5,fun i hi=>by obtain⟨u,hu,hr⟩:=h6 i hi;exact⟨u,by rw[zC (w:=w) (by rw[hw])];exact hu,hr.world hw⟩⟩
 | .lv _,_,h=>by simpa only[oA]using h
 | .il _ _ _,_,h=>by
  simp only[oA]at h⊢;obtain⟨h0,h1,h2|⟨b,o,cap,h2,h3,h4,h5,h6⟩⟩:=h
  ·exact⟨h0,h1,.inl h2⟩
  ·exact⟨h0,h1,.inr ⟨b,o,cap,h2,h3,by rw[hw];exact h4,h5,fun j hj=>by rw[zC (w:=w) (by rw[hw])];exact h6 j hj⟩⟩
 | .iv _ _,_,h=>by
  simp only[oA]at h⊢;obtain⟨h0,h2|⟨b,o,cap,h2,h3,h4,h5,h7⟩⟩:=h
  ·exact⟨h0,.inl h2⟩
  ·exact⟨h0,.inr ⟨b,o,cap,h2,h3,by rw[hw];exact h4,h5,fun i hi j hj=>by rw[zC (w:=w) (by rw[hw])];exact h7 i hi j hj⟩⟩
 | .ilp _ _ _ _,_,h=>by simp only[oA]at h⊢;obtain⟨b,o,h2,h3,h4,h5,h6⟩:=h;exact⟨b,o,h2,h3,by rw[hw];exact h4,h5,fun j hj=>by rw[zC (w:=w) (by rw[hw])];exact h6 j hj⟩
 | .ivp _ _ _ _,_,h=>by simp only[oA]at h⊢;obtain⟨b,o,h2,h3,h4,h5,h7⟩:=h;exact⟨b,o,h2,h3,by rw[hw];exact h4,h5,fun j hj=>by rw[zC (w:=w) (by rw[hw])];exact h7 j hj⟩
 | .agg cs,_,h=>by simp only[oA]at h⊢;obtain⟨vs,h1,h2⟩:=h;exact⟨vs,h1,mA.world hw cs _ h2⟩
 | .tup cs,_,h=>by simp only[oA]at h⊢;obtain⟨vs,h1,h2⟩:=h;exact⟨vs,h1,mA.world hw cs _ h2⟩
 | .fn _ a c,_,h=>by simp only[oA]at h⊢;obtain⟨va,vc,h1,h2,h3⟩:=h;exact⟨va,vc,h1,mA.world hw a _ h2,mA.world hw c _ h3⟩
theorem mA.world {ρ:xC}{M:Nat→Prop}{w w':World}(hw:w'.heap=w.heap):∀(x:List V) (v:List Value),mA ρ M w x v→mA ρ M w' x v
 | [],[],_=>by simp only[mA]
 |x::xs,v::vs,h=>by simp only[mA]at h⊢;exact⟨oA.world hw x v h.1,mA.world hw xs vs h.2⟩
 | [],_::_,h=>by simp only[mA]at h
 |_::_,[],h=>by simp only[mA]at h
end
theorem jB.world {ρ:xC}{M:Nat→Prop}{w w':World}(hw:w'.heap=w.heap){p:Pl}{x:qA}(h:jB ρ M w p x):jB ρ M w' p x:=by
 cases x with
 |dead=>trivial
 |ints k l=>
  obtain⟨h1,h2|⟨b,c,h2,⟨e,fr,h3,h4⟩,h5⟩⟩:=h
  ·exact⟨h1,.inl h2⟩
  ·exact⟨h1,.inr ⟨b,c,h2,⟨e,fr,by rw[hw];exact h3,h4⟩,h5⟩⟩
 |bls l=>
  obtain⟨h1,h2|⟨b,c,h2,⟨e,fr,h3,h4⟩,h5⟩⟩:=h
  ·exact⟨h1,.inl h2⟩
  ·exact⟨h1,.inr ⟨b,c,h2,⟨e,fr,by rw[hw];exact h3,h4⟩,h5⟩⟩
 |vals cs=>
  obtain⟨h1,h2|⟨b,c,h2,⟨e,fr,h3,h4⟩,h5,h6⟩⟩:=h
  ·exact⟨h1,.inl h2⟩
  ·exact⟨h1,.inr ⟨b,c,h2,⟨e,fr,by rw[hw];exact h3,h4⟩,h5,mA.world hw _ _ h6⟩⟩
 |nw _ _ _ _=>exact h.elim
 |mp k n ks vs=>obtain⟨h1,h2,h3,b,es,clk,h4,h5,h6⟩:=h;exact⟨h1,h2,h3,b,es,clk,h4,by rw[hw];exact h5,h6⟩
 |it mid gE rem cur=>obtain⟨h1,h2,b,mb,seen,h4,h5,h6⟩:=h;exact⟨h1,h2,b,mb,seen,h4,by rw[hw];exact h5,h6⟩
theorem jB.mono {ρ ρ':xC}{F M M':Nat→Prop}{w w':World}(hs:vL ρ ρ')(he:qG M w M' w'){p:Pl}{x:qA}(h:jB ρ (av F M) w p x)
  (hb:∀b,p.blk=some b→w'.heap[b]?=w.heap[b]?):jB ρ' (av F M') w' p x:=by
 cases x with
 |dead=>trivial
 |ints k l=>
  obtain⟨h1,h2|⟨b,c,h2,⟨e,fr,h3,h4⟩,h5⟩⟩:=h
  ·exact⟨h1,.inl h2⟩
  ·exact⟨h1,.inr ⟨b,c,h2,⟨e,fr,by rw[hb b h2];exact h3,h4⟩,h5⟩⟩
 |bls l=>
  obtain⟨h1,h2|⟨b,c,h2,⟨e,fr,h3,h4⟩,h5⟩⟩:=h
  ·exact⟨h1,.inl h2⟩
  ·exact⟨h1,.inr ⟨b,c,h2,⟨e,fr,by rw[hb b h2];exact h3,h4⟩,h5⟩⟩
 |vals cs=>
  obtain⟨h1,h2|⟨b,c,h2,⟨e,fr,h3,h4⟩,h5,h6⟩⟩:=h
  ·exact⟨h1,.inl h2⟩
  ·exact⟨h1,.inr ⟨b,c,h2,⟨e,fr,by rw[hb b h2];exact h3,h4⟩,h5,mA.mono hs he _ _ h6⟩⟩
 |nw _ _ _ _=>exact h.elim
 |mp k n ks vs=>obtain⟨h1,h2,h3,b,es,clk,h4,h5,h6⟩:=h;exact⟨h1,h2,h3,b,es,clk,h4,by rw[hb b h4];exact h5,h6⟩
 |it mid gE rem cur=>obtain⟨h1,h2,b,mb,seen,h4,h5,h6,h7⟩:=h;exact⟨h1,h2,b,mb,seen,h4,by rw[hb b h4];exact h5,fun i hi=>hs _ _ (h6 i hi),h7⟩
def tZ:Value→Bool
 | .int _ _=>true
 | .bool _=>true
 |_=>false
def xD (P:Program)(t:Nat):TK→Prop
 | .int k=>P.underlying t=some (.int k)
 | .bool=>P.underlying t=some .bool
 | .str=>P.underlying t=some .string
 | .slice e=>P.underlying t=some (.slice e)
 | .arr n e=>P.underlying t=some (.array n e)
 | .struct fs=>∃fields:Array Field,P.underlying t=some (.struct fields)∧fields.toList.map (fun f=>(f.type,f.offset))=fs∧∀f∈fields.toList,f.name≠ "_"
 | .ptr e=>P.underlying t=some (.pointer e)
 | .func=>∃a b c,P.underlying t=some (.func a b c)
 | .map k e=>P.underlying t=some (.map k e)∧∃i z,P.info? e=some i∧i.zero=some z∧tZ z=true
 | .other=>∃d,P.underlying t=some d∧(∀fs,d≠ .struct fs)∧∀n e,d≠ .array n e
structure kC (P:Program)(t:Nat)(ti:TI):Prop where
 info:∃i,P.info? t=some i∧i.size=ti.size∧i.bytes=ti.bytes∧∃z,i.zero=some z∧z.cells.toList=ti.zero
 zlen:ti.zero.length=ti.size
 one:ti.isAgg=false→ti.size=1
 tk:xD P t ti.tk
 eq:ti.isAgg=true→P.stoodInHeld t=false∧P.eqGuardType P.depth t=false
def uD (P:Program)(ty:Nat→Option TI):Prop:=∀t ti,ty t=some ti→kC P t ti
section
variable {P:Program}{w:World}{t:Nat}{ti:TI}
theorem kC.sizeOf (h:kC P t ti):(Go.sizeOf t).run P w= .ok ti.size w:=by
 obtain⟨i,h1,h2,_⟩:=h.info;simp[Go.sizeOf,typeInfo,h1,h2]
theorem kC.typeInfo (h:kC P t ti):∃i,(Go.typeInfo t).run P w= .ok i w∧i.bytes=ti.bytes∧i.size=ti.size:=by
 obtain⟨i,h1,h2,h3,_⟩:=h.info;exact⟨i,by simp[Go.typeInfo,h1],h3,h2⟩
theorem kC.zeroValue (h:kC P t ti):∃z,(Go.zeroValue t).run P w= .ok z w∧z.cells.toList=ti.zero:=by
 obtain⟨i,h1,_,_,z,h4,h5⟩:=h.info;exact⟨z,by simp[Go.zeroValue,Go.typeInfo,h1,h4],h5⟩
theorem kC.isAgg (h:kC P t ti):(Go.isAgg t).run P w= .ok ti.isAgg w:=by
 have hk:=h.tk;unfold TI.isAgg;cases hti:ti.tk<;>rw[hti]at hk<;>simp only[xD]at hk
 case struct fs=>obtain⟨fields,h1,_⟩:=hk;simp[Go.isAgg,run_underlying h1]
 case other=>obtain⟨d,h1,h2,h3⟩:=hk;cases d<;>simp_all[Go.isAgg,run_underlying h1]
 case func=>obtain⟨a,b,c,h1⟩:=hk;simp[Go.isAgg,run_underlying h1]
 case map k e=>simp[Go.isAgg,run_underlying hk.1]
 all_goals simp[Go.isAgg,run_underlying hk]
theorem kC.und (h:kC P t ti):∃d,P.underlying t=some d:=by
 have hk:=h.tk;cases hti:ti.tk<;>rw[hti]at hk<;>simp only[xD]at hk
 case struct fs=>obtain⟨fields,h1,_⟩:=hk;exact⟨_,h1⟩
 case other=>obtain⟨d,h1,h2,h3⟩:=hk;exact⟨_,h1⟩
 case func=>obtain⟨a,b,c,h1⟩:=hk;exact⟨_,h1⟩
 case map k e=>exact⟨_,hk.1⟩
 all_goals exact⟨_,hk⟩
end
theorem bU {fields:Array Field}{fs:List (Nat×Nat)}{i t off:Nat}(h:fields.toList.map (fun f=>(f.type,f.offset))=fs)(hi:fs[i]?=some (t,off)):
  ∃f,fields[i]?=some f∧f.type=t∧f.offset=off:=by
 subst h;simp only[hY,hG]at hi;obtain⟨f,h1,h2⟩:=hi;exact⟨f,by simpa using h1,by cases h2;rfl,by cases h2;rfl⟩
theorem aC {a b:Nat}(h:Nat.blt a b=true):a<b:=a6 h
theorem lE {a b:Nat}(h:Nat.ble a b=true):a≤b:=a6 h
theorem aB {a b:Nat}(h:Nat.beq a b=true):a=b:=w3 h
theorem yE {a b:IntKind}(h:sN a b=true):a=b:=by
 revert h;cases a<;>cases b<;>decide
theorem uF (b o n:Nat):Addr.add ⟨b,o,none⟩ n=⟨b,o+n,none⟩:=Addr.add_lit b o n
theorem yB (w n:Nat):kG w n=n*w:=by unfold kG;split<;>simp
theorem mE (w n:Nat):gE w n=n/w:=by unfold gE;split<;>simp
def bD (h:Nat→qA):List (Nat×qA)→Nat→qA
 | [],j=>h j
 |(i,b)::r,j=>bD (fun j=>if j=i then b else h j) r j
def qk (h:Nat→qA)(nid:Nat):List qA→Nat→qA
 | [],j=>h j
 |b::r,j=>qk (fun j=>if j=nid then b else h j) (nid+1) r j
def tG (h:Nat→qA)(nid:Nat)(out:oF):Nat→qA:=qk (bD h out.wr) nid out.new
def rD (F:Nat→Prop)(ρ:xC)(h:Nat→qA)(w:World)(nid:Nat)(out:oF)(r:Result Next):Prop:=
 ∃v w' ρ',(r= .ok (.value v) w'∨(r= .ok .skip w'∧v=undef))∧vL ρ ρ'∧(∀id,(id<nid∨nid+out.new.length≤id)→ρ' id=ρ id)∧
  kA F ρ' (tG h nid out) w'∧oA ρ' (av F (fA ρ' (tG h nid out))) w' out.val v∧qG (fA ρ h) w (fA ρ' (tG h nid out)) w'
section
variable {P:Program}{F:Nat→Prop}{ρ:xC}{h:Nat→qA}{w:World}{nid:Nat}
theorem rD.pure {x:V}{v:Value}{tc:List Nat}{r:Result Next}(hh:kA F ρ h w)(hr:r= .ok (.value v) w)(hv:oA ρ (av F (fA ρ h)) w x v):rD F ρ h w nid {val:=x,touch:=tc} r:=
 ⟨v,w,ρ,.inl hr,vL.refl _,fun _ _=>rfl,hh,hv,qG.refl _ _⟩
theorem oA.cells {ρ:xC}{M:Nat→Prop}{w:World}{x:V}{v:Value}{cs:List V}(hv:oA ρ M w x v)(hc:oE x=some cs):mA ρ M w cs v.cells.toList:=by
 cases x with
 |c u=>simp only[oA]at hv;subst hv;cases v<;>simp_all[oE]<;>subst hc<;>simp[mA,Value.cells,oA]
 |poison=>simp[oE]at hc
 |agg cs=>simp only[oA]at hv;obtain⟨vs,rfl,hr⟩:=hv;simp[oE]at hc;subst hc;simpa[Value.cells]using hr
 |ptr _ _ _=>simp[oE]at hc;subst hc;have hv':=hv;simp only[oA]at hv;obtain⟨_,_,_,_,_,rfl⟩:=hv;simp only[Value.cells,mA,and_true];exact hv'
 |sw _ _=>simp[oE]at hc;subst hc;have hv':=hv;simp only[oA]at hv;obtain⟨_,⟨_,_,_,_,_,_,_,_,rfl⟩|⟨_,rfl⟩⟩:=hv<;>(simp only[Value.cells,mA,and_true];exact hv')
 |sl _ _ _ _=>simp[oE]at hc;subst hc;have hv':=hv;simp only[oA]at hv;obtain⟨_,⟨_,_,_,_,_,_,_,_,rfl⟩|⟨_,_,rfl⟩⟩:=hv<;>(simp only[Value.cells,mA,and_true];exact hv')
 |il _ _ _=>simp[oE]at hc;subst hc;have hv':=hv;simp only[oA]at hv;obtain⟨_,_,⟨_,_,rfl⟩|⟨_,_,_,rfl,_⟩⟩:=hv<;>(simp only[Value.cells,mA,and_true];exact hv')
 |iv _ _=>simp[oE]at hc;subst hc;have hv':=hv;simp only[oA]at hv;obtain⟨_,⟨_,_,rfl⟩|⟨_,_,_,rfl,_⟩⟩:=hv<;>(simp only[Value.cells,mA,and_true];exact hv')
 |ilp _ _ _ _=>simp[oE]at hc;subst hc;have hv':=hv;simp only[oA]at hv;obtain⟨_,_,rfl,_⟩:=hv;simp only[Value.cells,mA,and_true];exact hv'
 |ivp _ _ _ _=>simp[oE]at hc;subst hc;have hv':=hv;simp only[oA]at hv;obtain⟨_,_,rfl,_⟩:=hv;simp only[Value.cells,mA,and_true];exact hv'
 |mref _=>simp[oE]at hc;subst hc;have hv':=hv;simp only[oA]at hv;obtain⟨_,_,rfl⟩:=hv;simp only[Value.cells,mA,and_true];exact hv'
 |inl _ _ _=>simp[oE]at hc;subst hc;have hv':=hv;simp only[oA]at hv;obtain⟨_,_,rfl⟩|⟨_,_,_,rfl,_⟩:=hv<;>(simp only[Value.cells,mA,and_true];exact hv')
 |inlp _ _ _ _=>simp[oE]at hc;subst hc;have hv':=hv;simp only[oA]at hv;obtain⟨_,_,rfl,_⟩:=hv;simp only[Value.cells,mA,and_true];exact hv'
 |lv _=>simp[oE]at hc;subst hc;have hv':=hv;simp only[oA]at hv;obtain⟨_,_,rfl,_⟩:=hv;simp only[Value.cells,mA,and_true];exact hv'
 |tup cs=>simp[oE]at hc;subst hc;have hv':=hv;simp only[oA]at hv;obtain⟨vs,rfl,hr⟩:=hv;simp only[Value.cells,mA,and_true];exact hv'
 |fn f a c=>simp[oE]at hc;subst hc;have hv':=hv;simp only[oA]at hv;obtain⟨va,vc,rfl,_,_⟩:=hv;simp only[Value.cells,mA,and_true];exact hv'
end
section
variable {P:Program}{F:Nat→Prop}{ρ:xC}{M:Nat→Prop}{h:Nat→qA}{w:World}{nid:Nat}
theorem oA.int {k:IntKind}{n:Int}{v:Value}(hv:oA ρ M w (.c (.int k n)) v):v= .int k n:=by simpa only[oA]using hv
theorem oA.c {x v:Value}(hv:oA ρ M w (.c x) v):v=x:=by simpa only[oA]using hv
theorem oA.of_c (x:Value):oA ρ M w (.c x) x:=by simp only[oA]
theorem Di {op:BinOp}{k:IntKind}{a b:Int}{out:oF}(hs:op≠ .shl∧op≠ .shr)(ha:Dh op k a b=some (true,out))(t:Nat)(x y:Operand):
  ∃v,out={val:=.c v}∧((do eqGuard op t x y (.int k a) (.int k b);binOp op t (.int k a) (.int k b)):Sem Value).run P w= .ok v w:=by
 cases op<;>simp only[Dh,mC,wD,gd,Option.some.injEq,Prod.mk.injEq,reduceCtorEq,true_and]at ha
 case quo=>
  obtain⟨hb,ho⟩:=ha;have hb':b≠0:=by simpa using hb
  exact⟨_,ho.symm,by rw[eqGuard_at_int];simp[binOp,Op.intDiv,hb']⟩
 case rem=>
  obtain⟨hb,ho⟩:=ha;have hb':b≠0:=by simpa using hb
  exact⟨_,ho.symm,by rw[eqGuard_at_int];simp[binOp,Op.intDiv,hb']⟩
 all_goals first
  |exact absurd rfl hs.1
  |exact absurd rfl hs.2
  |exact⟨_,ha.symm,by rw[eqGuard_at_int];simp[binOp,Op.intArith,Op.intCmp,Op.intBits]⟩
theorem u6 {op:BinOp}{k yk:IntKind}{a b:Int}{out:oF}(ha:cX op k a b=some (true,out))(t:Nat)(x y:Operand):
  ∃v,out={val:=.c v}∧((do eqGuard op t x y (.int k a) (.int yk b);binOp op t (.int k a) (.int yk b)):Sem Value).run P w= .ok v w:=by
 cases op<;>simp only[cX,wD,Option.some.injEq,Prod.mk.injEq,reduceCtorEq]at ha
 all_goals
  obtain⟨hb,ho⟩:=ha;have hb':¬b<0:=by simp at hb;omega
  exact⟨_,ho.symm,by rw[eqGuard_at_int];simp[binOp,Op.shift,hb']⟩
theorem Rp {ty:Nat→Option TI}(hty:uD P ty){t d:Nat}{x y:V}{vx vy:Value}{e:Bool}(he:Qj (ty t) x y=some e)(hx:oA ρ M w x vx)(hy:oA ρ M w y vy):
  (Op.equalIn (d+1) t vx vy).run P w= .ok e w∧(Go.isAgg t).run P w= .ok false w:=by
 unfold Qj at he;split at he
 ·rename_i k0 s0 b0 z0 ht;have hk:=(hty _ _ ht).tk;simp only[xD]at hk;split at he
  ·rename_i k a k' b;cases hkk:sN k k' with
   |false=>simp[hkk]at he
   |true=>have:=yE hkk;subst this;simp[hkk]at he;subst he;have h1:=hx.int;have h2:=hy.int;subst h1;subst h2;exact⟨run_equalIn_int w d t k k0 a b hk,by simp[Go.isAgg,run_underlying hk]⟩
  ·cases he
 ·rename_i s0 b0 z0 ht;have hk:=(hty _ _ ht).tk;simp only[xD]at hk;split at he
  ·rename_i a b;have h1:=hx.c;have h2:=hy.c;subst h1;subst h2;simp only[Option.some.injEq]at he;subst he;exact⟨run_equalIn_bool w d t a b hk,by simp[Go.isAgg,run_underlying hk]⟩
  ·cases he
 ·cases he
theorem fY {ty:Nat→Option TI}(hty:uD P ty){d:Nat}{xs ys:Array Value}:∀(fs:List Field) (ts:List (Nat×Nat)) (i:Nat) (cx cy:List V) (e:Bool),jG ty ts i cx cy=some e→
  fs.map (fun f=>(f.type,f.offset))=ts→(∀f∈fs,f.name≠ "_")→
  mA ρ M w cx (xs.toList.drop i)→mA ρ M w cy (ys.toList.drop i)→(Op.eqFields (d+1) xs ys fs).run P w= .ok e w
 | [],ts,i,cx,cy,e,he,hts,_,_,_=>by simp at hts;subst hts;cases cx<;>cases cy<;>simp[jG]at he;subst he;simp[Op.eqFields]
 |f::fs,ts,i,cx,cy,e,he,hts,hnm,hx,hy=>by
  subst hts;have hn:=hnm f (by simp);have part_at:∀{zs:Array Value} {cz:List V} {z:V},mA ρ M w (z::cz) (zs.toList.drop i)→∃v,zs[i]?=some v∧oA ρ M w z v∧mA ρ M w cz (zs.toList.drop (i+1)):=by
   intro zs cz z hz;have hne:zs.toList.drop i≠ []:=by intro h0;rw[h0]at hz;simp[mA]at hz
   obtain⟨v,r,hd⟩:=List.exists_cons_of_ne_nil hne;rw[hd]at hz;simp only[mA]at hz;have h1:zs.toList[i]?=some v:=by
    have:(zs.toList.drop i)[0]?=some v:=by rw[hd];rfl
    simpa using this
   have h2:zs.toList.drop (i+1)=r:=by have:=congrArg List.tail hd;simpa[List.tail_drop]using this
   exact⟨v,by simpa using h1,hz.1,by rw[h2];exact hz.2⟩
  cases cx with
  |nil=>cases fs<;>cases cy<;>simp[jG]at he
  |cons x cx=>
  cases cy with
  |nil=>cases fs<;>cases cx<;>simp[jG]at he
  |cons y cy=>
  obtain⟨vx,gx,rx,tx⟩:=part_at hx;obtain⟨vy,gy,ry,ty'⟩:=part_at hy;have bN:∀q s,f.offset=i→Qj (ty f.type) x y=some q→(Op.eqFields (d+1) xs ys fs).run P w= .ok s w→(Op.eqFields (d+1) xs ys (f::fs)).run P w= .ok (q&&s) w:=by
   intro q s ho hq ih;obtain⟨he1,hagg⟩:=Rp (d:=d) hty hq rx ry;have px:(part f.type xs f.offset).run P w= .ok vx w:=by simp[part,hagg,ho,gx]
   have py:(part f.type ys f.offset).run P w= .ok vy w:=by simp[part,hagg,ho,gy]
   rw[Op.eqFields];simp only[if_pos hn,hB,px,py,he1,hA];cases q
   ·simp
   ·simpa using ih
  have gen:∀q s,(Nat.beq f.offset i=true)→Qj (ty f.type) x y=some q→jG ty (fs.map fun f=>(f.type,f.offset)) (i+1) cx cy=some s→(Op.eqFields (d+1) xs ys (f::fs)).run P w= .ok (q&&s) w:=
   fun q s ho hq hs=>bN q s (w3 ho) hq (fY hty fs _ (i+1) cx cy s hs rfl (fun g hg=>hnm g (by simp[hg])) tx ty')
  cases fs with
  |nil=>
   cases cx<;>cases cy<;>simp only[eX,l5,jG]at he
   ·cases ho:Nat.beq f.offset i with
    |false=>simp[ho]at he
    |true=>simp[ho]at he;have:=bN e true (w3 ho) he (by simp[Op.eqFields]);simpa using this
   all_goals (cases ho:Nat.beq f.offset i<;>simp[ho]at he)
  |cons g gs=>
   simp only[eX,jG]at he;cases ho:Nat.beq f.offset i with
   |false=>simp[ho]at he
   |true=>
    simp only[ho,cond_true]at he;split at he
    ·rename_i q s hq hs;simp only[Option.some.injEq]at he;subst he;exact gen q s ho hq (by simpa using hs)
    ·cases he
theorem mO {ty:Nat→Option TI}(hty:uD P ty){t:Nat}{a b:List V}{e:Bool}{xs ys:Array Value}(he:cM ty t a b=some e)(hx:mA ρ M w a xs.toList)(hy:mA ρ M w b ys.toList):
  (Op.equalIn 10000 t (.agg xs) (.agg ys)).run P w= .ok e w∧P.eqGuardType P.depth t=false:=by
 unfold cM at he;split at he
 ·rename_i fs s0 b0 z0 ht;have hk:=(hty _ _ ht).tk;have hq:=(hty _ _ ht).eq rfl;simp only[xD]at hk;obtain⟨fields,h1,h2,h3⟩:=hk;have hf:P.fieldsOf t=fields:=by simp[Program.fieldsOf,h1]
  refine⟨?_,hq.2⟩;rw[run_equalIn_struct (P:=P) w 9999 t xs ys (by rw[hf];exact h1) hq.1,hf];exact fY hty fields.toList fs 0 a b e he h2 h3 (by simpa using hx) (by simpa using hy)
 ·cases he
theorem Mz {ty:Nat→Option TI}(hty:uD P ty){op:BinOp}{t:Nat}{x y:V}{vx vy:Value}{out:oF}(xo yo:Operand)(hb:Rk ty t op x y=some (true,out))(hx:oA ρ M w x vx)(hy:oA ρ M w y vy):
  ∃v,out={val:=.c v}∧((do eqGuard op t xo yo vx vy;binOp op t vx vy):Sem Value).run P w= .ok v w:=by
 unfold Rk at hb;split at hb
 ·have:=hx.int;have:=hy.int;subst_vars;exact u6 hb t xo yo
 ·have:=hx.int;have:=hy.int;subst_vars;exact u6 hb t xo yo
 ·rename_i o x y k a k' b h1 h2;cases hk:sN k k' with
  |false=>simp[hk]at hb
  |true=>have:=yE hk;subst this;simp only[hk,cond_true]at hb;have:=hx.int;have:=hy.int;subst_vars;exact Di ⟨h1,h2⟩ hb t xo yo
 ·split at hb
  ·rename_i a b _ _ _ _ ht;have hk:=(hty _ _ ht).tk;simp only[xD]at hk;have:=hx.c;have:=hy.c;subst_vars;simp only[mC,Option.some.injEq,Prod.mk.injEq,true_and]at hb;exact⟨_,hb.symm,by rw[eqGuard_at_bool];simp[run_eql_bool w t a b hk]⟩
  ·cases hb
 ·split at hb
  ·rename_i a b _ _ _ _ ht;have hk:=(hty _ _ ht).tk;simp only[xD]at hk;have:=hx.c;have:=hy.c;subst_vars;simp only[mC,Option.some.injEq,Prod.mk.injEq,true_and]at hb;exact⟨_,hb.symm,by rw[eqGuard_at_bool];simp[run_neq_bool w t a b hk]⟩
  ·cases hb
 ·rename_i a b;have:=hx.c;have:=hy.c;subst_vars;simp only[wD,Option.some.injEq,Prod.mk.injEq]at hb;obtain⟨h1,h2⟩:=hb;refine⟨_,h2.symm,?_⟩;have h1':¬(((a.size+b.size:Nat):Int)>IntKind.i64.max):=by simp at h1⊢;omega
  rw[eqGuard_at_string];simp only[binOp,Op.stringOp,hB,iB,hA,if_neg h1']
 ·rename_i a b;have:=hx.c;have:=hy.c;subst_vars;simp only[mC,Option.some.injEq,Prod.mk.injEq,true_and]at hb;exact⟨_,hb.symm,by rw[eqGuard_at_string];simp[binOp,Op.stringOp]⟩
 ·rename_i a b;have:=hx.c;have:=hy.c;subst_vars;simp only[mC,Option.some.injEq,Prod.mk.injEq,true_and]at hb;exact⟨_,hb.symm,by rw[eqGuard_at_string];simp[binOp,Op.stringOp]⟩
 ·split at hb
  ·rename_i a b e he;simp only[oA]at hx hy;obtain⟨xs,rfl,hx⟩:=hx;obtain⟨ys,rfl,hy⟩:=hy;obtain⟨h1,h2⟩:=mO hty he hx hy;simp only[mC,Option.some.injEq,Prod.mk.injEq,true_and]at hb;exact⟨_,hb.symm,by rw[hB,run_eqGuard_agg w _ t xo yo xs ys h2,hA,run_eql_struct,h1,hA]⟩
  ·cases hb
 ·split at hb
  ·rename_i a b e he;simp only[oA]at hx hy;obtain⟨xs,rfl,hx⟩:=hx;obtain⟨ys,rfl,hy⟩:=hy;obtain⟨h1,h2⟩:=mO hty he hx hy;simp only[mC,Option.some.injEq,Prod.mk.injEq,true_and]at hb;exact⟨_,hb.symm,by rw[hB,run_eqGuard_agg w _ t xo yo xs ys h2,hA,run_neq_struct,h1,hA]⟩
  ·cases hb
 ·cases hb
end
section
variable {P:Program}{F:Nat→Prop}{ρ:xC}{M:Nat→Prop}{h:Nat→qA}{w:World}{nid:Nat}
theorem zB {x:V}{out:oF}(h:mC x=some (true,out)):out={val:=x}:=by
 simp only[mC,Option.some.injEq,Prod.mk.injEq,true_and]at h;exact h.symm
theorem oD {b:Bool}{x:V}{out:oF}(h:wD b x=some (true,out)):b=true∧out={val:=x}:=by
 simp only[wD,Option.some.injEq,Prod.mk.injEq]at h;exact⟨h.1,h.2.symm⟩
theorem Sv {op:UnOp}{x:V}{vx:Value}{out:oF}(hb:Ur op x=some (true,out))(hx:oA ρ M w x vx):
  ∃v,out={val:=.c v}∧(Op.unary op vx).run P w= .ok v w:=by
 unfold Ur at hb;split at hb
 ·have:=hx.int;subst this;exact⟨_,zB hb,by simp[Op.unary,Op.intArith]⟩
 ·have:=hx.c;subst this;exact⟨_,zB hb,by simp[Op.unary]⟩
 ·have:=hx.int;subst this;simp only[gd]at hb;exact⟨_,zB hb,by simp[Op.unary,Op.intBits]⟩
 ·cases hb
theorem jV {f:Int→Int→Int}{g:Value→Value→Sem Value}{k:IntKind}(hg:∀a b,g (.int k a) (.int k b)=pure (.int k (f a b))):∀(xs:List V) (vs:List Value) (a n:Int),
  cK f k a xs=some n→mA ρ M w xs vs→(vs.foldlM g (.int k a)).run P w= .ok (.int k n) w
 | [],[],a,n,h,_=>by simp[cK]at h;subst h;simp
 | [],_::_,_,_,_,h=>by simp[mA]at h
 |_::_,[],_,_,_,h=>by simp[mA]at h
 |x::xs,v::vs,a,n,h,hr=>by
  simp only[mA]at hr;cases x with
  |c u=>
   cases u with
   |int k' b=>
    simp only[cK]at h;cases hk:sN k k' with
    |false=>simp[hk]at h
    |true=>have:=yE hk;subst this;simp only[hk,cond_true]at h;have:=hr.1.int;subst this;rw[List.foldlM_cons,hg];simp only[hB,iB,hA];exact jV hg xs vs _ n h hr.2
   |_=>simp[cK]at h
  |_=>simp[cK]at h
theorem dq {f:Int→Int→Int}{g:Value→Value→Sem Value}(hg:∀k a b,g (.int k a) (.int k b)=pure (.int k (f a b))){xs:List V}{vs:List Value}{out:oF}(h:jd f xs=some (true,out))(hr:mA ρ M w xs vs):
  ∃x r v,vs=x::r∧out={val:=.c v}∧(r.foldlM g x).run P w= .ok v w:=by
 unfold jd at h;split at h
 ·rename_i k a r;split at h
  ·rename_i n hn;cases vs with
   |nil=>simp[mA]at hr
   |cons v vs=>simp only[mA]at hr;have:=hr.1.int;subst this;exact⟨_,_,_,rfl,zB h,jV (fun a b=>hg k a b) r vs a n hn hr.2⟩
  ·cases h
 ·cases h
theorem zH {b o:Nat}:∀(n i:Nat) (acc:Array Value) (vs:List Value),vs.length=n→(∀j,j<n→w.cell? ⟨b,o+(i+j),none⟩=vs[j]?)→
  (loadCellsFrom ⟨b,o,none⟩ i n acc).run P w= .ok (acc++vs.toArray) w
 |0,i,acc,vs,hl,_=>by have:vs=[]:=hR.mp hl;subst this;simp[loadCellsFrom]
 |n+1,i,acc,vs,hl,hc=>by
  cases vs with
  |nil=>simp at hl
  |cons v vs=>have h0:=hc 0 (by omega);simp only[y3,iX]at h0;simp only[loadCellsFrom,hB,uF,run_load,h0,hA];rw[zH n (i+1) _ vs (by simpa using hl) (fun j hj=>by have:=hc (j+1) (by omega);simpa[x0,q6 1 j]using this)];simp
theorem gL {t:Nat}{ti:TI}(ht:kC P t ti)(hs:0<ti.size){b o:Nat}{vs:List Value}(hl:vs.length=ti.size)(hc:∀j,j<ti.size→w.cell? ⟨b,o+j,none⟩=vs[j]?)(h1:ti.isAgg=false→ti.size=1):
  (loadVar t ⟨b,o,none⟩).run P w= .ok (if ti.isAgg then .agg vs.toArray else vs.headD undef) w:=by
 unfold loadVar;simp only[hB,ht.isAgg,hA];cases ha:ti.isAgg with
 |true=>have h2:=zH (P:=P) (w:=w) (b:=b) (o:=o) ti.size 0 #[] vs hl (fun j hj=>by simpa using hc j hj);simp only[if_true,loadCells,hB,ht.sizeOf,hA,h2,iB];simp
 |false=>
  have h0:=hc 0 hs;cases vs with
  |nil=>simp at hl;omega
  |cons v vs=>simp at h0;simp[h0]
theorem u7:∀{cs r:List V} {n:Nat},nL cs n=some r→r=cs.take n∧n≤cs.length
 |cs,r,0,h=>by simp[nL]at h;subst h;simp
 | [],r,n+1,h=>by simp[nL]at h
 |c::cs,r,n+1,h=>by simp only[nL,hG]at h;obtain⟨r',h1,h2⟩:=h;obtain⟨h3,h4⟩:=u7 h1;subst h2;subst h3;simp;omega
theorem kO:∀(cs:List V) (n:Nat),rN cs n=cs.drop n
 |cs,0=>by simp[rN]
 | [],n+1=>by simp[rN]
 |c::cs,n+1=>by simp[rN,kO cs n]
theorem xd:∀(cs:List V) (n:Nat),so cs n=cs[n]?
 | [],n=>by simp[so]
 |c::cs,0=>by simp[so]
 |c::cs,n+1=>by simp[so,xd cs n]
theorem zY (k:IntKind)(l:List Int):∀(off n:Nat),mA ρ M w (gN k l off n) ((List.range n).map fun j=>Value.int k (l.getD (off+j) 0))
 |_,0=>by simp[gN,mA]
 |off,n+1=>by
  rw[List.range_succ_eq_map];simp only[gN,eX,mA,List.map_map,y3];refine⟨oA.of_c _,?_⟩;have:=zY k l (off+1) n;have e:((fun j=>Value.int k (l.getD (off+j) 0))∘Nat.succ)=fun j=>Value.int k (l.getD (off+1+j) 0):=by funext j;simp[x0,q6 1 j]
  rw[e];exact this
def vw (ρ:xC)(M:Nat→Prop)(w:World)(b o:Nat)(n:Nat)(x:qA):Prop:=match x with
 | .dead=>False
 | .ints k l=>n≤l.length∧∀j,j<n→w.cell? ⟨b,o+j,none⟩=some (.int k (l.getD j 0))
 | .vals cs=>n≤cs.length∧∃vs,mA ρ M w cs vs∧∀j,j<n→w.cell? ⟨b,o+j,none⟩=vs[j]?
 | .nw _ _ _ _=>False
 | .bls l=>n≤l.length∧∀j,j<n→w.cell? ⟨b,o+j,none⟩=some (.bool (l.getD j false))
 | .mp _ _ _ _=>n=0
 | .it _ _ _ _=>n=0
theorem jN {t:Nat}{ti:TI}(ht:kC P t ti)(hs:0<ti.size){b o off n:Nat}{x:qA}{y:V}(hc:vw ρ M w b o n x)(hn:off+ti.size≤n)(hl:kF ti off x=some y)(h1:ti.isAgg=false→ti.size=1):
  ∃v,(loadVar t ⟨b,o+off,none⟩).run P w= .ok v w∧oA ρ M w y v:=by
 cases x with
 |dead=>exact hc.elim
 |mp _ _ _ _=>simp[kF]at hl
 |it _ _ _ _=>simp[kF]at hl
 |ints k l=>
  obtain⟨hl0,hc⟩:=hc;simp only[kF,Option.some.injEq]at hl;subst hl;have hr:=gL ht hs (b:=b) (o:=o+off) (vs:=(List.range ti.size).map fun j=>Value.int k (l.getD (off+j) 0)) (by simp) (fun j hj=>by rw[x0,hc (off+j) (by omega)];simp[hj]) h1;refine⟨_,hr,?_⟩;cases ha:ti.isAgg with
  |true=>simp only[cond_true,if_true,oA];exact⟨_,rfl,by simpa using zY k l off ti.size⟩
  |false=>have hz:=h1 ha;simp only[cond_false,hI,if_false];rw[hz];exact oA.of_c _
 |nw _ _ _ _=>exact hc.elim
 |bls l=>
  obtain⟨hl0,hc⟩:=hc;simp only[kF]at hl;split at hl<;>cases hl;rename_i htk;have ha:ti.isAgg=false:=by unfold TI.isAgg;rw[htk]
  have hz:=h1 ha;have hr:=gL ht hs (b:=b) (o:=o+off) (vs:=[Value.bool (l.getD off false)]) (by rw[hz];rfl) (fun j hj=>by
   have:j=0:=by omega
   subst this;rw[y3,hc off (by omega)];rfl) h1
  rw[ha]at hr;exact⟨_,hr,oA.of_c _⟩
 |vals cs=>
  obtain⟨hl0,vs,hrel,hc⟩:=hc;simp only[kF,kO]at hl;split at hl
  ·cases hl
  ·rename_i r hr;obtain⟨h2,h3⟩:=u7 hr;simp only[Option.some.injEq]at hl;subst hl;have hlen:=hrel.length;have hrl:((vs.drop off).take ti.size).length=ti.size:=by simp;omega
   have hrv:=gL ht hs (b:=b) (o:=o+off) (vs:=(vs.drop off).take ti.size) hrl (fun j hj=>by rw[x0,hc (off+j) (by omega)];simp[x2,hj]) h1;have hrr:mA ρ M w r ((vs.drop off).take ti.size):=by rw[h2];exact(hrel.drop off).take ti.size
   refine⟨_,hrv,?_⟩;unfold sS;cases ha:ti.isAgg with
   |true=>simp only[cond_true,if_true,oA];exact⟨_,rfl,by simpa using hrr⟩
   |false=>
    simp only[cond_false,hI,if_false];cases r with
    |nil=>have:=hrr.length;rw[hrl]at this;simp at this;omega
    |cons v r=>
     cases hvs:(vs.drop off).take ti.size with
     |nil=>rw[hvs]at hrl;simp at hrl;omega
     |cons u us=>rw[hvs]at hrr;simp only[mA]at hrr;exact hrr.1
theorem lb.cell {b C:Nat}{c:Array Value}(ho:lb w b C c)(o:Nat):w.cell? ⟨b,o,none⟩=c[o]?:=by
 obtain⟨e,fr,h1,_⟩:=ho;simp[World.cell?,h1]
theorem kA.cellsAt (hh:kA F ρ h w){id b n C:Nat}(hl:(h id).live)(hp:ρ id=some ⟨some b,n,C⟩):vw ρ (av F (fA ρ h)) w b 0 n (h id):=by
 obtain⟨p,h1,h2⟩:=hh.rel id hl;rw[hp]at h1;simp only[Option.some.injEq]at h1;subst h1;cases hx:h id with
 |dead=>rw[hx]at hl;exact hl.elim
 |mp _ _ _ _=>rw[hx]at h2;exact h2.1
 |it _ _ _ _=>rw[hx]at h2;exact h2.1
 |ints k l=>
  rw[hx]at h2;obtain⟨h3,h4⟩:=h2;rcases h4 with⟨h5,_⟩|⟨b',c,h5,h6,h7,h8⟩
  ·cases h5
  ·simp only[Option.some.injEq]at h5;subst h5;dsimp only at h3;exact⟨by omega,fun j hj=>by rw[hP,h6.cell];exact h8 j (by omega)⟩
 |vals cs=>
  rw[hx]at h2;obtain⟨h3,⟨h5,_⟩|⟨b',c,h5,h6,h7,h8⟩⟩:=h2
  ·cases h5
  simp only[Option.some.injEq]at h5;subst h5;dsimp only at h3 h7 h8;exact⟨by omega,_,h8,fun j hj=>by rw[hP,h6.cell];simp[x2,hj]⟩
 |nw _ _ _ _=>rw[hx]at h2;exact h2.elim
 |bls l=>
  rw[hx]at h2;obtain⟨h3,h4⟩:=h2;rcases h4 with⟨h5,_⟩|⟨b',c,h5,h6,h7,h8⟩
  ·cases h5
  ·simp only[Option.some.injEq]at h5;subst h5;dsimp only at h3;exact⟨by omega,fun j hj=>by rw[hP,h6.cell];exact h8 j (by omega)⟩
end
section
variable {P:Program}{F:Nat→Prop}{ρ:xC}{h:Nat→qA}{w:World}{nid:Nat}
def uC (ρ:xC)(M:Nat→Prop)(w:World)(n:Nat)(c:Array Value):qA→Prop
 | .dead=>False
 | .ints k l=>l.length=n∧n≤c.size∧∀i,i<l.length→c[i]?=some (.int k (l.getD i 0))
 | .vals cs=>cs.length=n∧n≤c.size∧mA ρ M w cs (c.toList.take n)
 | .nw _ _ _ _=>False
 | .bls l=>l.length=n∧n≤c.size∧∀i,i<l.length→c[i]?=some (.bool (l.getD i false))
 | .mp _ _ _ _=>False
 | .it _ _ _ _=>False
def qA.flat:qA→Prop
 | .mp _ _ _ _=>False
 | .it _ _ _ _=>False
 |_=>True
theorem uC.mono {ρ ρ':xC}{F M M':Nat→Prop}{w w':World}{n:Nat}{c:Array Value}{x:qA}(hs:vL ρ ρ')(he:qG M w M' w')(h:uC ρ (av F M) w n c x):uC ρ' (av F M') w' n c x:=by
 cases x with
 |dead=>exact h
 |mp _ _ _ _=>exact h
 |it _ _ _ _=>exact h
 |ints k l=>exact h
 |vals cs=>exact⟨h.1,h.2.1,mA.mono hs he _ _ h.2.2⟩
 |nw _ _ _ _=>exact h
 |bls l=>exact h
theorem uC.le {M:Nat→Prop}{n:Nat}{c:Array Value}{x:qA}(h:uC ρ M w n c x):n≤c.size:=by
 cases x with
 |dead=>exact h.elim
 |mp _ _ _ _=>exact h.elim
 |it _ _ _ _=>exact h.elim
 |ints k l=>exact h.2.1
 |vals cs=>exact h.2.1
 |nw _ _ _ _=>exact h.elim
 |bls l=>exact h.2.1
theorem uC.live {M:Nat→Prop}{n:Nat}{c:Array Value}{x:qA}(h:uC ρ M w n c x):x.live:=by
 cases x with
 |dead=>exact h.elim
 |_=>trivial
theorem uC.blkRel {M:Nat→Prop}{n b:Nat}{c:Array Value}{x:qA}(h:uC ρ M w n c x)(ho:lb w b c.size c):jB ρ M w ⟨some b,n,c.size⟩ x:=by
 cases x with
 |dead=>trivial
 |mp _ _ _ _=>exact h.elim
 |it _ _ _ _=>exact h.elim
 |ints k l=>exact⟨h.1,.inr ⟨b,c,rfl,ho,h.2.1,h.2.2⟩⟩
 |vals cs=>exact⟨h.1,.inr ⟨b,c,rfl,ho,h.2.1,h.2.2⟩⟩
 |nw _ _ _ _=>exact h.elim
 |bls l=>exact⟨h.1,.inr ⟨b,c,rfl,ho,h.2.1,h.2.2⟩⟩
theorem kA.own (hh:kA F ρ h w){id b n C:Nat}(hl:(h id).live)(hf:(h id).flat)(hp:ρ id=some ⟨some b,n,C⟩):∃c,lb w b C c∧c.size=C∧uC ρ (av F (fA ρ h)) w n c (h id):=by
 obtain⟨p,h1,h2⟩:=hh.rel id hl;rw[hp]at h1;simp only[Option.some.injEq]at h1;subst h1;cases hx:h id with
 |dead=>rw[hx]at hl;exact hl.elim
 |mp _ _ _ _=>rw[hx]at hf;exact hf.elim
 |it _ _ _ _=>rw[hx]at hf;exact hf.elim
 |ints k l=>
  rw[hx]at h2;obtain⟨h3,⟨h5,_⟩|⟨b',c,h5,h6,h7,h8⟩⟩:=h2
  ·cases h5
  ·simp only[Option.some.injEq]at h5;subst h5;have hsz:c.size=C:=by obtain⟨e,fr,_,q,_⟩:=h6;exact q
   exact⟨c,h6,hsz,h3,by rw[hsz];exact h7,h8⟩
 |vals cs=>
  rw[hx]at h2;obtain⟨h3,⟨h5,_⟩|⟨b',c,h5,h6,h7,h8⟩⟩:=h2
  ·cases h5
  simp only[Option.some.injEq]at h5;subst h5;have hsz:c.size=C:=by obtain⟨e,fr,_,q,_⟩:=h6;exact q
  exact⟨c,h6,hsz,h3,by rw[hsz];exact h7,h8⟩
 |nw _ _ _ _=>rw[hx]at h2;exact h2.elim
 |bls l=>
  rw[hx]at h2;obtain⟨h3,⟨h5,_⟩|⟨b',c,h5,h6,h7,h8⟩⟩:=h2
  ·cases h5
  ·simp only[Option.some.injEq]at h5;subst h5;have hsz:c.size=C:=by obtain⟨e,fr,_,q,_⟩:=h6;exact q
   exact⟨c,h6,hsz,h3,by rw[hsz];exact h7,h8⟩
theorem lb.lt {b C:Nat}{c:Array Value}(ho:lb w b C c):b<w.heap.size:=by
 obtain⟨e,fr,h1,_⟩:=ho;exact(yK.mp h1).1
theorem kA.ownMap (hh:kA F ρ h w){id b n C:Nat}{k:IntKind}{m:Nat}{ks:List (List Int)}{vs:xN}(hx:h id= .mp k m ks vs)(hp:ρ id=some ⟨some b,n,C⟩):
  n=0∧C=0∧vs.len=ks.length∧∃es clk,w.heap[b]?=some (.map es clk)∧wc k m ks vs es clk:=by
 obtain⟨p,h1,h2⟩:=hh.rel id (by rw[hx];trivial);rw[hp]at h1;simp only[Option.some.injEq]at h1;subst h1;rw[hx]at h2;obtain⟨q1,q2,q3,b',es,clk,q4,q5⟩:=h2;simp only[Option.some.injEq]at q4;subst q4;exact⟨q1,q2,q3,es,clk,q5⟩
theorem kA.ownIt (hh:kA F ρ h w){id b n C:Nat}{mid:Option Nat}{gE:Nat}{rem:List Nat}{cur:Nat}(hx:h id= .it mid gE rem cur)(hp:ρ id=some ⟨some b,n,C⟩):
  n=0∧C=0∧∃mb seen,w.heap[b]?=some (.mapIter (some mb) gE seen gE)∧(∀i,mid=some i→ρ i=some ⟨some mb,0,0⟩)∧Rb gE seen rem cur:=by
 obtain⟨p,h1,h2⟩:=hh.rel id (by rw[hx];trivial);rw[hp]at h1;simp only[Option.some.injEq]at h1;subst h1;rw[hx]at h2;obtain⟨q1,q2,b',mb,seen,q4,q5⟩:=h2;simp only[Option.some.injEq]at q4;subst q4;exact⟨q1,q2,mb,seen,q5⟩
theorem qA.flat_or (x:qA):x.flat∨(∃k n ks vs,x= .mp k n ks vs)∨∃mid gE rem cur,x= .it mid gE rem cur:=by
 cases x with
 |mp k n ks vs=>exact .inr (.inl ⟨k,n,ks,vs,rfl⟩)
 |it mid gE rem cur=>exact .inr (.inr ⟨mid,gE,rem,cur,rfl⟩)
 |_=>exact .inl trivial
theorem fA.lt (hh:kA F ρ h w){b:Nat}(hb:fA ρ h b):b<w.heap.size:=by
 obtain⟨id,n,C,hp,hl⟩:=hb;rcases(h id).flat_or with hf|⟨k,m,ks,vs,hx⟩|⟨mid,gE,rem,cur,hx⟩
 ·obtain⟨c,ho,_⟩:=hh.own hl hf hp;exact ho.lt
 ·obtain⟨_,_,_,es,clk,h1,_⟩:=hh.ownMap hx hp;exact(yK.mp h1).1
 ·obtain⟨_,_,mb,seen,h1,_⟩:=hh.ownIt hx hp;exact(yK.mp h1).1
theorem kA.low' (hh:kA F ρ h w){M':Nat→Prop}{w':World}(he:qG (fA ρ h) w M' w'):∀b,F b→b<w'.heap.size:=fun b hb=>hQ (hh.low b hb) he.size
theorem kA.out' (hh:kA F ρ h w){M':Nat→Prop}{w':World}(he:qG (fA ρ h) w M' w'):∀b,M' b→¬F b:=fun b hb hf=>(he.sub b hb).elim (fun h=>hh.out b h hf) (fun h=>absurd (hh.low b hf) (by omega))
def nB (h:Nat→qA)(id:Nat)(x:qA):Nat→qA:=fun j=>if j=id then x else h j
def iC (ρ:xC)(id:Nat)(p:Pl):xC:=fun j=>if j=id then some p else ρ j
theorem vP {p:Pl}(hw:∀id p,ρ id=some p→p.n≤p.C)(hp:p.n≤p.C):∀id q,iC ρ nid p id=some q→q.n≤q.C:=by
 intro id q hq;unfold iC at hq;split at hq
 ·simp only[Option.some.injEq]at hq;subst hq;exact hp
 ·exact hw id q hq
theorem pE {p:Pl}(hn:ρ nid=none):vL ρ (iC ρ nid p):=by
 intro id q hq;unfold iC;split
 ·rename_i e;subst e;rw[hn]at hq;cases hq
 ·exact hq
theorem kA.kill (hh:kA F ρ h w)(id:Nat):kA F ρ (nB h id .dead) w∧qG (fA ρ h) w (fA ρ (nB h id .dead)) w:=by
 have hsub:∀b,fA ρ (nB h id .dead) b→fA ρ h b:=by
  rintro b ⟨j,n,C,hp,hl⟩;refine⟨j,n,C,hp,?_⟩;unfold nB at hl;split at hl
  ·exact hl.elim
  ·exact hl
 have hext:qG (fA ρ h) w (fA ρ (nB h id .dead)) w:=⟨hD _,fun _ _ _=>rfl,fun b hb=>.inl (hsub b hb),.refl _⟩
 refine⟨⟨hh.wf,?_,?_,hh.low' hext,hh.out' hext⟩,hext⟩
 ·intro j hl;have hj:nB h id .dead j=h j:=by
   unfold nB at hl⊢;split
   ·rename_i e;rw[if_pos e]at hl;exact hl.elim
   ·rfl
  rw[hj]at hl⊢;obtain⟨p,hp,hb⟩:=hh.rel j hl;exact⟨p,hp,jB.mono (vL.refl _) hext hb (fun _ _=>rfl)⟩
 ·intro i j b n C n' C' hi hj;have lv:∀{k},(nB h id .dead k).live→(h k).live:=by
   intro k hk;unfold nB at hk;split at hk
   ·exact hk.elim
   ·exact hk
  exact hh.inj i j b n C n' C' (lv hi) (lv hj)
theorem kA.alloc (hh:kA F ρ h w)(hn:ρ nid=none){c:Array Value}{e:TypeId}{fr:Nat×Nat}{n:Nat}{x:qA}(hfr:∀i,i<c.size→¬(fr.1≤i∧i<fr.2))(hx:uC ρ (av F (fA ρ h)) w n c x){w':World}(hkp:sG w w')(hw:w'.heap=w.heap.push (.cells c e fr)):
  kA F (iC ρ nid ⟨some w.heap.size,n,c.size⟩) (nB h nid x) w'∧qG (fA ρ h) w (fA (iC ρ nid ⟨some w.heap.size,n,c.size⟩) (nB h nid x)) w':=by
 have hnew:w'.heap[w.heap.size]?=some (.cells c e fr):=by rw[hw];simp
 have hold:∀b,b<w.heap.size→w'.heap[b]?=w.heap[b]?:=by
  intro b hb;rw[hw,hN];split
  ·omega
  ·rfl
 have hown:lb w' w.heap.size c.size c:=⟨e,fr,hnew,rfl,hfr⟩
 have hsub:∀b,fA (iC ρ nid ⟨some w.heap.size,n,c.size⟩) (nB h nid x) b→fA ρ h b∨w.heap.size≤b:=by
  rintro b ⟨j,m,C,hp,hl⟩;unfold iC at hp;unfold nB at hl;split at hp
  ·simp only[Option.some.injEq,Pl.mk.injEq]at hp;obtain⟨h1,_⟩:=hp;exact .inr (by omega)
  ·rename_i hne;rw[if_neg hne]at hl;exact .inl ⟨j,m,C,hp,hl⟩
 have hext:qG (fA ρ h) w (fA (iC ρ nid ⟨some w.heap.size,n,c.size⟩) (nB h nid x)) w':=⟨by rw[hw];simp,fun b hb _=>hold b hb,hsub,hkp⟩
 refine⟨⟨vP hh.wf hx.le,?_,?_,hh.low' hext,hh.out' hext⟩,hext⟩
 ·intro j hl;by_cases hj:j=nid
  ·subst hj;refine⟨⟨some w.heap.size,n,c.size⟩,by simp[iC],?_⟩;have:nB h j x j=x:=by simp[nB]
   rw[this];exact(hx.mono (pE hn) hext).blkRel hown
  ·have h1:nB h nid x j=h j:=by simp[nB,hj]
   rw[h1]at hl⊢;obtain⟨p,hp,hb⟩:=hh.rel j hl;refine⟨p,by simp[iC,hj,hp],jB.mono (pE hn) hext hb ?_⟩;intro b hb';refine hold b ?_;obtain⟨pb,pn,pC⟩:=p;dsimp only at hb';subst hb';exact fA.lt hh ⟨j,pn,pC,hp,hl⟩
 ·intro i j b m C m' C' hi hj hpi hpj;have key:∀{k m C},(nB h nid x k).live→iC ρ nid ⟨some w.heap.size,n,c.size⟩ k=some ⟨some b,m,C⟩→k≠nid→(h k).live∧ρ k=some ⟨some b,m,C⟩∧b<w.heap.size:=by
   intro k m C hk hpk hne;have h1:nB h nid x k=h k:=by simp[nB,hne]
   have h2:iC ρ nid ⟨some w.heap.size,n,c.size⟩ k=ρ k:=by simp[iC,hne]
   rw[h1]at hk;rw[h2]at hpk;exact⟨hk,hpk,fA.lt hh ⟨k,m,C,hpk,hk⟩⟩
  have new:∀{m C},iC ρ nid ⟨some w.heap.size,n,c.size⟩ nid=some ⟨some b,m,C⟩→b=w.heap.size:=by intro m C hp;simp[iC]at hp;omega
  by_cases h1:i=nid<;>by_cases h2:j=nid
  ·rw[h1,h2]
  ·subst h1;have:=new hpi;have:=(key hj hpj h2).2.2;omega
  ·subst h2;have:=new hpj;have:=(key hi hpi h1).2.2;omega
  ·obtain⟨a1,a2,_⟩:=key hi hpi h1;obtain⟨b1,b2,_⟩:=key hj hpj h2;exact hh.inj i j b m C m' C' a1 b1 a2 b2
theorem kA.virtual (hh:kA F ρ h w)(hn:ρ nid=none){x:qA}(hx:(∃k,x= .ints k [])∨x= .vals []∨(∃_ _:Nat,x= .bls [])):
  kA F (iC ρ nid ⟨none,0,0⟩) (nB h nid x) w∧qG (fA ρ h) w (fA (iC ρ nid ⟨none,0,0⟩) (nB h nid x)) w:=by
 have lv:∀{j b m C},iC ρ nid ⟨none,0,0⟩ j=some ⟨some b,m,C⟩→(nB h nid x j).live→ρ j=some ⟨some b,m,C⟩∧(h j).live:=by
  intro j b m C hp hl;unfold iC at hp;unfold nB at hl;split at hp
  ·simp at hp
  ·rename_i hne;rw[if_neg hne]at hl;exact⟨hp,hl⟩
 have hext:qG (fA ρ h) w (fA (iC ρ nid ⟨none,0,0⟩) (nB h nid x)) w:=⟨hD _,fun _ _ _=>rfl,fun b hb=>by obtain⟨j,m,C,hp,hl⟩:=hb;obtain⟨h1,h2⟩:=lv hp hl;exact .inl ⟨j,m,C,h1,h2⟩,.refl _⟩
 refine⟨⟨vP hh.wf (hD _),?_,?_,hh.low' hext,hh.out' hext⟩,hext⟩
 ·intro j hl;by_cases hj:j=nid
  ·subst hj;refine⟨⟨none,0,0⟩,by simp[iC],?_⟩;rcases hx with⟨k,rfl⟩|rfl|⟨_,_,rfl⟩<;>simp[nB,jB]
  ·have h1:nB h nid x j=h j:=by simp[nB,hj]
   rw[h1]at hl⊢;obtain⟨p,hp,hb⟩:=hh.rel j hl;exact⟨p,by simp[iC,hj,hp],jB.mono (pE hn) hext hb (fun _ _=>rfl)⟩
 ·intro i j b m C m' C' hi hj hpi hpj;obtain⟨a1,a2⟩:=lv hpi hi;obtain⟨b1,b2⟩:=lv hpj hj;exact hh.inj i j b m C m' C' a2 b2 a1 b1
theorem kA.write (hh:kA F ρ h w){id b n:Nat}{c:Array Value}{x:qA}(hl:(h id).live)(hp:ρ id=some ⟨some b,n,c.size⟩){w':World}(hsz0:w'.heap.size=w.heap.size∧sG w w')(hw:∀b',b'≠b→w'.heap[b']?=w.heap[b']?)
  (ho:lb w' b c.size c)(hx:uC ρ (av F (fA ρ h)) w n c x):
  kA F ρ (nB h id x) w'∧qG (fA ρ h) w (fA ρ (nB h id x)) w':=by
 have hbM:fA ρ h b:=⟨id,n,_,hp,hl⟩
 obtain⟨hsz,hkp⟩:=hsz0;have lv:∀{j},(nB h id x j).live→(h j).live:=by
  intro j hj;unfold nB at hj;split at hj
  ·rename_i e;subst e;exact hl
  ·exact hj
 have hext:qG (fA ρ h) w (fA ρ (nB h id x)) w':=⟨by omega,fun b' _ hm=>hw b' (fun e=>hm (e▸hbM)),fun b' hb=>by obtain⟨j,m,C,h1,h2⟩:=hb;exact .inl ⟨j,m,C,h1,lv h2⟩,hkp⟩
 refine⟨⟨hh.wf,?_,?_,hh.low' hext,hh.out' hext⟩,hext⟩
 ·intro j hj;by_cases he:j=id
  ·subst he;refine⟨_,hp,?_⟩;have:nB h j x j=x:=by simp[nB]
   rw[this];exact(hx.mono (vL.refl _) hext).blkRel ho
  ·have h1:nB h id x j=h j:=by simp[nB,he]
   rw[h1]at hj⊢;obtain⟨p,hpj,hb⟩:=hh.rel j hj;refine⟨p,hpj,jB.mono (vL.refl _) hext hb ?_⟩;intro b' hb';refine hw b' (fun e=>he ?_);subst e;obtain⟨pb,pn,pC⟩:=p;dsimp only at hb';subst hb';exact hh.inj j id b' _ _ _ _ hj hl hpj hp
 ·intro i j b' m C m' C' hi hj;exact hh.inj i j b' m C m' C' (lv hi) (lv hj)
theorem kA.retake (hh:kA F ρ h w)(hn:ρ nid=none){id b n m:Nat}{c:Array Value}{x:qA}(hl:(h id).live)(hp:ρ id=some ⟨some b,n,c.size⟩){w':World}(hsz0:w'.heap.size=w.heap.size∧sG w w')(hw:∀b',b'≠b→w'.heap[b']?=w.heap[b']?)
  (ho:lb w' b c.size c)(hx:uC ρ (av F (fA ρ h)) w m c x):
  kA F (iC ρ nid ⟨some b,m,c.size⟩) (nB (nB h id .dead) nid x) w'∧qG (fA ρ h) w (fA (iC ρ nid ⟨some b,m,c.size⟩) (nB (nB h id .dead) nid x)) w':=by
 have hbM:fA ρ h b:=⟨id,n,_,hp,hl⟩
 obtain⟨hsz,hkp⟩:=hsz0;have hne:id≠nid:=by rintro rfl;rw[hn]at hp;cases hp
 have lv:∀{j b' m' C'},j≠nid→iC ρ nid ⟨some b,m,c.size⟩ j=some ⟨some b',m',C'⟩→(nB (nB h id .dead) nid x j).live→ρ j=some ⟨some b',m',C'⟩∧(h j).live∧j≠id:=by
  intro j b' m' C' hj hpj hlj;have h1:iC ρ nid ⟨some b,m,c.size⟩ j=ρ j:=by simp[iC,hj]
  rw[h1]at hpj;unfold nB at hlj;rw[if_neg hj]at hlj;split at hlj
  ·exact hlj.elim
  ·rename_i e;exact⟨hpj,hlj,e⟩
 have hext:qG (fA ρ h) w (fA (iC ρ nid ⟨some b,m,c.size⟩) (nB (nB h id .dead) nid x)) w':=⟨by omega,fun b' _ hm=>hw b' (fun e=>hm (e▸hbM)),fun b' hb=>by
  obtain⟨j,m',C',h1,h2⟩:=hb;by_cases hj:j=nid
  ·subst hj;simp[iC]at h1;exact .inl (h1.1▸hbM)
  ·obtain⟨a1,a2,_⟩:=lv hj h1 h2;exact .inl ⟨j,m',C',a1,a2⟩,hkp⟩
 refine⟨⟨vP hh.wf hx.le,?_,?_,hh.low' hext,hh.out' hext⟩,hext⟩
 ·intro j hj;by_cases he:j=nid
  ·subst he;refine⟨⟨some b,m,c.size⟩,by simp[iC],?_⟩;have:nB (nB h id .dead) j x j=x:=by simp[nB]
   rw[this];exact(hx.mono (pE hn) hext).blkRel ho
  ·have h1:nB (nB h id .dead) nid x j=nB h id .dead j:=by simp[nB,he]
   rw[h1]at hj⊢;have hji:j≠id:=by rintro rfl;simp[nB,qA.live]at hj
   have h2:nB h id .dead j=h j:=by simp[nB,hji]
   rw[h2]at hj⊢;obtain⟨p,hpj,hb⟩:=hh.rel j hj;refine⟨p,by simp[iC,he,hpj],jB.mono (pE hn) hext hb ?_⟩;intro b' hb';refine hw b' (fun e=>hji ?_);subst e;obtain⟨pb,pn,pC⟩:=p;dsimp only at hb';subst hb';exact hh.inj j id b' _ _ _ _ hj hl hpj hp
 ·intro i j b' m1 C1 m2 C2 hi hj hpi hpj;have new:∀{m' C'},iC ρ nid ⟨some b,m,c.size⟩ nid=some ⟨some b',m',C'⟩→b'=b:=by
   intro m' C' hp';simp[iC]at hp';exact hp'.1.symm
  by_cases h1:i=nid<;>by_cases h2:j=nid
  ·rw[h1,h2]
  ·subst h1;have hb':=new hpi;subst hb';obtain⟨a1,a2,a3⟩:=lv h2 hpj hj;exact absurd (hh.inj j id _ _ _ _ _ a2 hl a1 hp) a3
  ·subst h2;have hb':=new hpj;subst hb';obtain⟨a1,a2,a3⟩:=lv h1 hpi hi;exact absurd (hh.inj i id _ _ _ _ _ a2 hl a1 hp) a3
  ·obtain⟨a1,a2,_⟩:=lv h1 hpi hi;obtain⟨b1,b2,_⟩:=lv h2 hpj hj;exact hh.inj i j b' _ _ _ _ a2 b2 a1 b1
theorem eG {b:Nat}:∀(vs:List Value) (w:World) (o i C:Nat) (c:Array Value),lb w b C c→o+i+vs.length≤C→(∀v∈vs,v.oneCell'=true)→
  ∃w' c',(storeCells ⟨b,o,none⟩ vs i).run P w= .ok () w'∧(w'.heap.size=w.heap.size∧sG w w')∧(∀b',b'≠b→w'.heap[b']?=w.heap[b']?)∧lb w' b C c'∧c'.size=C∧
   (∀j,c'[j]?=if o+i≤j∧j<o+i+vs.length then vs[j- (o+i)]? else c[j]?)
 | [],w,o,i,C,c,ho,_,_=>by
  have hsz:c.size=C:=by obtain⟨e,fr,_,q,_⟩:=ho;exact q
  exact⟨w,c,by simp[storeCells],⟨rfl,.refl _⟩,fun _ _=>rfl,ho,hsz,fun j=>by simp;omega⟩
 |v::vs,w,o,i,C,c,ho,hle,hv=>by
  obtain⟨e,fr,h1,h2,h3⟩:=ho;simp only[c0]at hle;have hlt:o+i<c.size:=by omega
  have hcell:w.cell? ⟨b,o+i,none⟩=some c[o+i]:=by simp[World.cell?,h1,hlt]
  have hfz:w.frozen? ⟨b,o+i,none⟩=false:=by simp only[World.frozen?,h1];have:=h3 (o+i) (by omega);simp only[Bool.and_eq_false_iff,decide_eq_false_iff_not];omega
  have hb:b<w.heap.size:=(yK.mp h1).1
  let w1:=w.setCell ⟨b,o+i,none⟩ v
  have hh1:w1.heap[b]?=some (.cells (c.setIfInBounds (o+i) v) e fr):=by simp only[w1,World.setCell,xK,h1,if_true,hV,Option.isSome_none,hI,if_false]
  have ho1:lb w1 b C (c.setIfInBounds (o+i) v):=⟨e,fr,hh1,by simpa using h2,h3⟩
  obtain⟨w',c',r1,r2,r3,r4,r5,r6⟩:=eG vs w1 o (i+1) C _ ho1 (by omega) (fun u hu=>hv u (List.mem_cons_of_mem _ hu));have hrun:(storeCells ⟨b,o,none⟩ (v::vs) i).run P w=(storeCells ⟨b,o,none⟩ vs (i+1)).run P w1:=by simp only[storeCells,hB,uF,run_store P w _ v .plain (hv v (by simp)),hcell,hfz,hI,if_false,hA];rfl
  refine⟨w',c',by rw[hrun];exact r1,⟨by rw[r2.1];simp[w1,World.setCell],sG.trans (b:=w1) ⟨rfl,rfl,rfl,hD _⟩ r2.2⟩,fun b' hb'=>?_,r4,r5,fun j=>?_⟩
  ·rw[r3 b' hb'];simp only[w1,World.setCell,xK,if_neg (Ne.symm hb')]
  ·rw[r6 j];simp only[c0];by_cases hj:j=o+i
   ·subst hj;rw[if_neg (by omega),if_pos (by omega)];simp[hlt]
   ·by_cases hj2:o+(i+1)≤j∧j<o+(i+1)+vs.length
    ·rw[if_pos hj2,if_pos (by omega)];have:j- (o+i)=(j- (o+(i+1)))+1:=by omega
     rw[this,hX]
    ·rw[if_neg hj2,if_neg (by omega)];simp[Array.getElem?_setIfInBounds_ne (Ne.symm hj)]
end
section
variable {P:Program}{F:Nat→Prop}{ρ:xC}{M:Nat→Prop}{h:Nat→qA}{w:World}{nid:Nat}{ty:Nat→Option TI}
theorem mA.map_c:∀(vs:List Value),mA ρ M w (vs.map .c) vs
 | []=>by simp[mA]
 |v::vs=>by simp only[eX,mA];exact⟨oA.of_c v,mA.map_c vs⟩
theorem nK:∀{cs:List V} {off:Nat} {vs r:List V},aH cs off vs=some r→r=cs.take off++vs++cs.drop (off+vs.length)∧(vs≠ []→off+vs.length≤cs.length)
 |cs,off,[],r,h=>by cases cs<;>cases off<;>simp[aH]at h<;>subst h<;>simp
 | [],off,v::vs,r,h=>by cases off<;>simp[aH]at h
 |c::cs,0,v::vs,r,h=>by
  simp only[aH,hG]at h;obtain⟨r',h1,h2⟩:=h;obtain⟨h3,h4⟩:=nK h1;subst h2;subst h3;refine⟨by simp,fun _=>?_⟩;cases vs with
  |nil=>simp
  |cons u us=>have:=h4 (by simp);simp at this⊢;omega
 |c::cs,off+1,v::vs,r,h=>by
  simp only[aH,hG]at h;obtain⟨r',h1,h2⟩:=h;obtain⟨h3,h4⟩:=nK h1;subst h2;subst h3;refine⟨?_,fun _=>?_⟩
  ·have:off+1+(v::vs).length=off+(v::vs).length+1:=by omega
   rw[this];simp
  ·have:=h4 (by simp);simp at this⊢;omega
theorem mA.splice {cs vs:List V}{xs ys:List Value}(off:Nat)(h1:mA ρ M w cs xs)(h2:mA ρ M w vs ys):
  mA ρ M w (cs.take off++vs++cs.drop (off+vs.length)) (xs.take off++ys++xs.drop (off+ys.length)):=by
 rw[←h2.length];exact((h1.take off).append h2).append (h1.drop _)
theorem nh (off:Nat):∀(vs:List Value) (i:Nat) (cs:Array Value),off+i+vs.length≤cs.size→
  ((vs.zipIdx i).foldl (fun(cs:Array Value) (p:Value×Nat)=>cs.setIfInBounds (off+p.2) p.1) cs).toList=cs.toList.take (off+i)++vs++cs.toList.drop (off+i+vs.length)
 | [],i,cs,h=>by simp
 |v::vs,i,cs,h=>by
  simp only[c0]at h;rw[List.zipIdx_cons,List.foldl_cons,nh off vs (i+1) _ (by simp;omega)];simp only[Array.toList_setIfInBounds];apply w0;intro j;simp only[n3];by_cases h1:j<off+i
  ·rw[aE (by simp;omega),aE (by simp;omega)];rw[zE (by omega),zE h1];rw[hT (by omega)]
  ·rw[hE (l₁:=List.take (off+i) _) (by simp;omega)];simp only[k4,w4];have e1:min (off+i) cs.size=off+i:=by omega
   rw[e1];by_cases h2:j=off+i
   ·subst h2;rw[aE (by simp;omega),zE (by omega)];have hlt:off+i<cs.toList.length:=by simp;omega
    rw[List.getElem?_set_self hlt,y1];rfl
   ·rw[hE (by simp;omega)];simp only[k4,p4,w4];have e2:min (off+(i+1)) cs.size=off+(i+1):=by omega
    rw[e2];have e3:j- (off+i)=(j- (off+(i+1)))+1:=by omega
    rw[e3,List.cons_append,hX];by_cases h3:j- (off+(i+1))<vs.length
    ·rw[aE h3,aE h3]
    ·rw[hE (by omega),hE (by omega)];simp only[l1,c0];rw[hT (by omega)];congr 1;omega
theorem vR {pl:Nat→Option (Nat×Nat)}{pl':Nat→Option (Nat×Nat)}(hpl:∀i p,pl i=some p→pl' i=some p):∀(ps:List (Nat×V)) (qs:List (Nat×Value)) (cs r:List V) (xs:Array Value),bK pl cs ps=some r→
  mA ρ M w cs xs.toList→ps.length=qs.length→(∀(j:Nat) p q,ps[j]?=some p→qs[j]?=some q→p.1=q.1∧oA ρ M w p.2 q.2)→∃ys,Instr.fill pl' xs qs=some ys∧mA ρ M w r ys.toList
 | [],[],cs,r,xs,hf,hr,_,_=>by simp[bK]at hf;subst hf;exact⟨xs,by simp[Instr.fill],hr⟩
 | [],_::_,_,_,_,_,_,h,_=>by simp at h
 |_::_,[],_,_,_,_,_,h,_=>by simp at h
 |(i,v)::ps,(j,u)::qs,cs,r,xs,hf,hr,hl,hp=>by
  obtain⟨h1,h2⟩:=hp 0 _ _ rfl rfl;dsimp only at h1 h2;subst h1;simp only[bK]at hf;split at hf
  ·cases hf
  ·rename_i off size hpi;split at hf
   ·rename_i vs hvs;cases hb:(Nat.beq vs.length size&&Nat.blt 0 size)with
    |false=>simp[hb]at hf
    |true=>
     simp only[hb,cond_true]at hf;rw[hL]at hb;have hsz:=w3 hb.1;have hpos:0<size:=aC hb.2;split at hf
     ·rename_i cs' hcs;have hc:=oA.cells h2 hvs;obtain⟨h3,h4⟩:=nK hcs;have hlen:=hc.length;have hlen2:=hr.length;have hus:u.cells.size=size:=by simp at hlen;omega
      have hbig:off+u.cells.size≤xs.size:=by have:=h4 (by rintro rfl;simp at hsz;omega);simp at hlen hlen2;omega
      have h6:mA ρ M w cs' (u.cells.zipIdx.foldl (fun(cs:Array Value) (p:Value×Nat)=>cs.setIfInBounds (off+p.2) p.1) xs).toList:=by
       have e:=nh off u.cells.toList 0 xs (by simpa using hbig);have e2:(u.cells.zipIdx.foldl (fun(cs:Array Value) (p:Value×Nat)=>cs.setIfInBounds (off+p.2) p.1) xs)=((u.cells.toList.zipIdx 0).foldl (fun(cs:Array Value) (p:Value×Nat)=>cs.setIfInBounds (off+p.2) p.1) xs):=by rw[←Array.foldl_toList,Array.toList_zipIdx]
       rw[e2,e,h3];simp only[y3];exact mA.splice off hr hc
      obtain⟨ys,h7,h8⟩:=vR hpl ps qs cs' r _ hf h6 (by simpa using hl) (fun j p q hj hq=>hp (j+1) p q (by simpa using hj) (by simpa using hq));refine⟨ys,?_,h8⟩;simp only[Instr.fill,hpl _ _ hpi];rw[if_neg (by simp;exact⟨hus,hbig⟩)];exact h7
     ·cases hf
   ·cases hf
end
section
variable {P:Program}{F:Nat→Prop}{ρ:xC}{h:Nat→qA}{w:World}{nid:Nat}{ty:Nat→Option TI}{ev:Operand→V}{ae:Operand→Value}{out:oF}
theorem oA.bool {M:Nat→Prop}{b:Bool}{v:Value}(hv:oA ρ M w (.c (.bool b)) v):v= .bool b:=hv.c
theorem cA {α:Type}{b:Bool}{x:Option α}{y:α}(h:(bif b then x else none)=some y):b=true∧x=some y:=by
 cases b<;>simp_all
theorem O1 {M:Nat→Prop}{b:Bool}{x y:V}{u v:Value}(hx:oA ρ M w x u)(hy:oA ρ M w y v):oA ρ M w (Ey b x y) (if b then u else v):=by
 unfold Ey;split
 ·have:=hx.bool;have:=hy.bool;subst_vars;cases b<;>exact oA.of_c _
 ·cases b<;>simpa
theorem rD.made (hh:kA F ρ h w)(hn:ρ nid=none){c:Array Value}{e:TypeId}{fr:Nat×Nat}{n:Nat}{x:qA}(hfr:∀i,i<c.size→¬(fr.1≤i∧i<fr.2))(hx:uC ρ (av F (fA ρ h)) w n c x){w':World}(hw:w'.heap=w.heap.push (.cells c e fr))
  {r:Result Next}{v:Value}{y:V}{tc:List Nat}(hr:r= .ok (.value v) w')(hv:∀ρ' M' w'',ρ' nid=some ⟨some w.heap.size,n,c.size⟩→oA ρ' M' w'' y v)(hkp:sG w w':=by exact⟨rfl,rfl,rfl,by first|exact hD _|exact a7 _⟩):rD F ρ h w nid {val:=y,new:=[x],touch:=tc} r:=by
 obtain⟨h1,h2⟩:=kA.alloc hh hn hfr hx hkp hw;refine⟨v,w',_,.inl hr,pE hn,fun id hid=>?_,h1,hv _ _ _ (by simp[iC]),h2⟩;simp only[c0,y2]at hid;unfold iC;rw[if_neg (by omega)]
theorem Cb {t:Nat}{ti:TI}(ht:kC P t ti)(hh:kA F ρ h w){x:qA}(hb:∀c:Array Value,mA ρ (av F (fA ρ h)) w (pG ti) c.toList→uC ρ (av F (fA ρ h)) w (pG ti).length c x)(hn:ρ nid=none):
  rD F ρ h w nid {val:=.ptr nid 0 ti.size,new:=[x]} ((do pure (.value (←Instr.alloc t true (.tuple #[]))):Sem Next).run P w):=by
 obtain⟨z,h1,h2⟩:=ht.zeroValue (w:=w);have hl:z.cells.size=ti.size:=by have:=congrArg List.length h2;simp at this;rw[this,ht.zlen]
 refine rD.made (c:=z.cells) (e:=t) (fr:=(0,0)) (n:=ti.size) (w':={w with heap:=w.heap.push (.cells z.cells t)}) hh hn (fun i _=>by dsimp only;omega) ?_ rfl (v:=.pointer (some ⟨w.heap.size,0,none⟩)) ?_ ?_
 ·have h3:=hb z.cells (by rw[h2];exact mA.map_c _);have h4:(pG ti).length=ti.size:=by simp[pG,ht.zlen]
  rw[h4]at h3;exact h3
 ·simp[Instr.alloc,h1,newVar,newRow]
 ·intro ρ' M' w'' hp;simp only[oA];exact⟨_,_,_,hp,by simp,rfl⟩
theorem Rl {t:Nat}{x:V}{vs:List V}{v:Value}(hh:kA F ρ h w)(hn:ρ nid=none)(hx:oA ρ (av F (fA ρ h)) w x v)(hc:oE x=some vs){n:Nat}(hvs:vs.length=n):
  rD F ρ h w nid {val:=.ptr nid 0 n,new:=[.vals vs]} ((do pure (.value (←Instr.box t v)):Sem Next).run P w):=by
 have hr:=oA.cells hx hc;have hl:=hr.length;simp at hl;refine rD.made (c:=v.cells) (e:=t) (fr:=(0,0)) (n:=n) (w':={w with heap:=w.heap.push (.cells v.cells t)}) hh hn (fun i _=>by dsimp only;omega) ?_ rfl (v:=.pointer (some ⟨w.heap.size,0,none⟩)) ?_ ?_
 ·refine⟨hvs,by omega,?_⟩;rw[l3 (by simp;omega)];exact hr
 ·simp[Instr.box,newVar,newRow]
 ·intro ρ' M' w'' hp;simp only[oA];exact⟨_,_,_,hp,by simp,rfl⟩
theorem mY {fs:List (Nat×Nat)}{i off size:Nat}(hf:sI ty fs i=some (off,size)):∃t ti,fs[i]?=some (t,off)∧ty t=some ti∧ti.size=size:=by
 unfold sI at hf;split at hf
 ·rename_i t o hg;split at hf
  ·rename_i ti ht;simp only[Option.some.injEq,Prod.mk.injEq]at hf;exact⟨t,ti,by rw[hg,hf.1],ht,hf.2⟩
  ·cases hf
 ·cases hf
theorem vN (hty:uD P ty):∀(fields:List Field),(∀f∈fields,∃ti,ty f.type=some ti)→
  (fields.mapM (fun f=>(do pure (f.offset,←Go.sizeOf f.type):Sem (Nat×Nat)))).run P w= .ok (fields.map fun f=>(f.offset,((ty f.type).map (·.size)).getD 0)) w
 | [],_=>by simp
 |f::fs,h=>by obtain⟨ti,hti⟩:=h f (by simp);simp only[List.mapM_cons,hB,(hty _ _ hti).sizeOf,hA,iB];rw[vN hty fs (fun g hg=>h g (by simp[hg]))];simp[hti]
theorem gu {M:Nat→Prop}(he:∀x,oA ρ M w (ev x) (ae x))(ps:List (Nat×Operand)):∀(j:Nat) p q,(ps.map fun p=>(p.1,ev p.2))[j]?=some p→(ps.map fun p=>(p.1,ae p.2))[j]?=some q→p.1=q.1∧oA ρ M w p.2 q.2:=by
 intro j p q hp hq;simp only[hY,hG]at hp hq;obtain⟨a,h1,rfl⟩:=hp;obtain⟨b,h2,rfl⟩:=hq;rw[h1]at h2;simp only[Option.some.injEq]at h2;subst h2;exact⟨rfl,he _⟩
theorem Ci {M:Nat→Prop}(hty:uD P ty){t:Nat}{ti:TI}{ps:Array (Nat×Operand)}(ht:ty t=some ti)(he:∀x,oA ρ M w (ev x) (ae x)){cs:List V}
  (hb:(∃fs,ti.tk= .struct fs∧fs.all (fun p=>(ty p.1).isSome)=true∧bK (sI ty fs) (pG ti) (ps.toList.map fun p=>(p.1,ev p.2))=some cs)∨
   (∃n e te,ti.tk= .arr n e∧ty e=some te∧bK (fun i=>some (i*te.size,te.size)) (pG ti) (ps.toList.map fun p=>(p.1,ev p.2))=some cs)):
  ∃v,(Instr.build t (ps.map fun(i,x)=>(i,ae x))).run P w= .ok v w∧oA ρ M w (.agg cs) v:=by
 have h0:=hty _ _ ht;obtain⟨z,h1,h2⟩:=h0.zeroValue (w:=w);have hk:=h0.tk;have hz:mA ρ M w (pG ti) z.cells.toList:=by rw[h2];exact mA.map_c _
 have hps:(ps.map fun(i,x)=>(i,ae x)).toList=ps.toList.map fun p=>(p.1,ae p.2):=by simp
 rcases hb with⟨fs,h3,h4,h5⟩|⟨n,e,te,h3,h4,h5⟩
 ·rw[h3]at hk;obtain⟨fields,h6,h7,h8⟩:=hk;have hall:∀f∈fields.toList,∃ti,ty f.type=some ti:=by
   intro f hf;have:=c4.mp h4 (f.type,f.offset) (by rw[←h7];exact u3.mpr ⟨f,hf,rfl⟩);exact Option.isSome_iff_exists.mp this
  have hm:=vN (P:=P) (w:=w) hty fields.toList hall;have hpl:∀i p,sI ty fs i=some p→(fields.toList.map fun f=>(f.offset,((ty f.type).map (·.size)).getD 0)).toArray[i]?=some p:=by
   rintro i ⟨off,size⟩ hp;obtain⟨t',ti',a1,a2,a3⟩:=mY hp;obtain⟨f,b1,b2,b3⟩:=bU h7 a1;simp only[hW,hY];have:fields.toList[i]?=some f:=by simpa using b1
   rw[this];simp[b2,b3,a2,a3]
  obtain⟨ys,c1,c2⟩:=vR hpl _ (ps.toList.map fun p=>(p.1,ae p.2)) _ _ _ h5 hz (by simp) (gu he ps.toList);refine⟨.agg ys,?_,by simp only[oA];exact⟨ys,rfl,c2⟩⟩;simp only[Instr.build,hB,h1,hA,run_underlying h6,Array.mapM_eq_mapM_toList,Sem.run_map,hm];rw[hps];simp only[hB,Sem.run_map,hm,hA,c1,iB]
 ·rw[h3]at hk;simp only[xD]at hk;obtain⟨ys,c1,c2⟩:=vR (pl':=fun i=>some (i*te.size,te.size)) (fun i p hp=>hp) _ (ps.toList.map fun p=>(p.1,ae p.2)) _ _ _ h5 hz (by simp) (gu he ps.toList);refine⟨.agg ys,?_,by simp only[oA];exact⟨ys,rfl,c2⟩⟩;simp only[Instr.build,hB,h1,hA,run_underlying hk,(hty _ _ h4).sizeOf];rw[hps];simp only[c1,iB]
end
section
variable {P:Program}{F:Nat→Prop}{ρ:xC}{h:Nat→qA}{w:World}{nid:Nat}{ty:Nat→Option TI}{ev:Operand→V}{ae:Operand→Value}{out:oF}
theorem Nq (hty:uD P ty)(hh:kA F ρ h w){t:Nat}{a:V}{va:Value}(ha:oA ρ (av F (fA ρ h)) w a va)
  {ti:TI}(ht:ty t=some ti){y:V}{out:oF}
  (hl:tN ti a h=some (true,out)):
  ∃y tc v,out={val:=y,touch:=tc}∧(Instr.loadAt t va).run P w= .ok v w∧oA ρ (av F (fA ρ h)) w y v:=by
 have h0:=hty _ _ ht;cases a with
 |ptr id off ext=>
  simp only[tN]at hl;obtain⟨h1,h2⟩:=cA hl;rw[hL]at h1;have hle:=lE h1.1;have hpos:=aC h1.2;split at h2
  ·rename_i y hy;simp only[Option.some.injEq,Prod.mk.injEq,true_and]at h2;simp only[oA]at ha;obtain⟨b,n,C,hp,hn,rfl⟩:=ha;have hlive:(h id).live:=by
    cases hx:h id with
    |dead=>rw[hx]at hy;simp[kF]at hy
    |_=>trivial
   obtain⟨v,r1,r2⟩:=jN (b:=b) (o:=0) h0 hpos (hh.cellsAt hlive hp) (by omega) hy h0.one;rw[hP]at r1;exact⟨y,_,v,h2.symm,by simp only[Instr.loadAt,Instr.sureAddr,hB,iB,hA];exact r1,r2⟩
  ·cases h2
 |ilp k l off ext=>
  simp only[tN]at hl;obtain⟨h1,h2⟩:=cA hl;rw[hL]at h1;have hle:=lE h1.1;have hpos:=aC h1.2;split at h2
  ·rename_i y hy;simp only[oA]at ha;obtain⟨b,o,rfl,hn,hb,hM,hc⟩:=ha;obtain⟨v,r1,r2⟩:=jN (ρ:=ρ) (M:=av F (fA ρ h)) (b:=b) (o:=o) (n:=l.length) (x:=.ints k l) h0 hpos ⟨hD _,hc⟩ (by omega) hy h0.one;exact⟨y,[],v,zB h2,by simp only[Instr.loadAt,Instr.sureAddr,hB,iB,hA];exact r1,r2⟩
  ·cases h2
 |ivp cols i off ext=>
  simp only[tN]at hl;obtain⟨h1,h2⟩:=cA hl;rw[hL]at h1;have hle:=lE h1.1;have hpos:=aC h1.2;split at h2
  ·rename_i y hy;simp only[oA]at ha;obtain⟨b,o,rfl,hn,hb,hM,hc⟩:=ha;have hlen:((vM cols i).map V.c).length=cols.length:=by rw[List.length_map,jQ]
   obtain⟨v,r1,r2⟩:=jN (ρ:=ρ) (M:=av F (fA ρ h)) (b:=b) (o:=o) (n:=cols.length) (x:=.vals ((vM cols i).map .c)) h0 hpos ⟨by rw[hlen];exact hD _,vM cols i,mA.consts _,hc⟩ (by omega) hy h0.one;exact⟨y,[],v,zB h2,by simp only[Instr.loadAt,Instr.sureAddr,hB,iB,hA];exact r1,r2⟩
  ·cases h2
 |inlp k s rows i=>
  simp only[tN]at hl;obtain⟨h1,h2⟩:=cA hl;obtain⟨hsl,hsz⟩:=(hL _ _).mp h1;have hsz:=aB hsz;simp only[oA]at ha;obtain⟨b,o,rfl,hi,hb,hM,hc⟩:=ha;obtain⟨u,hu,hru⟩:=hc i hi;have hagg:ti.isAgg=false:=by unfold TI.isSl at hsl;unfold TI.isAgg;cases hk:ti.tk<;>rw[hk]at hsl<;>first|rfl|cases hsl
  have hrv:=gL (w:=w) h0 (by omega) (b:=b) (o:=o+i) (vs:=[u]) (by rw[hsz];rfl) (fun j hj=>by
   have:j=0:=by omega
   subst this;simpa using hu) h0.one
  rw[hagg]at hrv;exact⟨_,[],u,zB h2,by simp only[Instr.loadAt,Instr.sureAddr,hB,iB,hA];simpa using hrv,hru.rel⟩
 |_=>simp[tN]at hl
theorem j6 {k:IntKind}{M:Nat→Prop}:∀(vs:List V) (us:List Value) (l l':List Int) (off:Nat),mN k l off vs=some l'→mA ρ M w vs us→
  l'.length=l.length∧(∀u∈us,u.oneCell'=true)∧∀j,j<l.length→Value.int k (l'.getD j 0)=if off≤j∧j<off+us.length then us.getD (j-off) undef else .int k (l.getD j 0)
 | [],[],l,l',off,h,_=>by simp[mN]at h;subst h;exact⟨rfl,by simp,fun j _=>by rw[if_neg (by simp only[y2];omega)]⟩
 | [],_::_,_,_,_,_,h=>by simp[mA]at h
 |_::_,[],_,_,_,_,h=>by simp[mA]at h
 |x::vs,u::us,l,l',off,h,hr=>by
  simp only[mA]at hr;cases x with
  |c y=>
   cases y with
   |int k' n=>
    simp only[mN]at h;obtain⟨hk,h0⟩:=cA h;have hkk:=yE hk;subst hkk;have hu:=hr.1.int;subst hu;obtain⟨h1,h2,h3⟩:=j6 vs us _ _ _ h0 hr.2;simp only[p4]at h1 h3;refine⟨h1,?_,?_⟩
    ·intro v hv;rcases k6.mp hv with rfl|hv
     ·rfl
     ·exact h2 v hv
    ·intro j hj;rw[h3 j hj];simp only[c0];by_cases e:j=off
     ·subst e;rw[if_neg (by omega),if_pos (by omega)];simp[iA,hj]
     ·by_cases e2:off+1≤j∧j<off+1+us.length
      ·rw[if_pos e2,if_pos (by omega)];have:j-off=(j- (off+1))+1:=by omega
       rw[this];simp[iA]
      ·rw[if_neg e2,if_neg (by omega)];simp[iA,hT (Ne.symm e)]
   |_=>simp[mN]at h
  |_=>simp[mN]at h
theorem oA.oneCell {M:Nat→Prop}{x:V}{v:Value}(hr:oA ρ M w x v)(hc:pQ x=true):v.oneCell'=true:=by
 cases x<;>simp only[pQ,hI]at hc
 case c y=>have:=hr.c;subst this;cases v<;>simp_all[pQ,Value.oneCell']
 case ptr=>simp only[oA]at hr;obtain⟨_,_,_,_,_,rfl⟩:=hr;rfl
 case sw=>simp only[oA]at hr;obtain⟨_,⟨_,_,_,_,_,_,_,_,rfl⟩|⟨_,rfl⟩⟩:=hr<;>rfl
 case sl=>simp only[oA]at hr;obtain⟨_,⟨_,_,_,_,_,_,_,_,rfl⟩|⟨_,_,rfl⟩⟩:=hr<;>rfl
 case il=>simp only[oA]at hr;obtain⟨_,_,⟨_,_,rfl⟩|⟨_,_,_,rfl,_⟩⟩:=hr<;>rfl
 case iv=>simp only[oA]at hr;obtain⟨_,⟨_,_,rfl⟩|⟨_,_,_,rfl,_⟩⟩:=hr<;>rfl
 case ilp=>simp only[oA]at hr;obtain⟨_,_,rfl,_⟩:=hr;rfl
 case ivp=>simp only[oA]at hr;obtain⟨_,_,rfl,_⟩:=hr;rfl
 case inl=>simp only[oA]at hr;obtain⟨_,_,rfl⟩|⟨_,_,_,rfl,_⟩:=hr<;>rfl
 case inlp=>simp only[oA]at hr;obtain⟨_,_,rfl,_⟩:=hr;rfl
 case lv=>simp only[oA]at hr;obtain⟨_,_,rfl,_⟩:=hr;rfl
 case fn=>simp only[oA]at hr;obtain⟨_,_,rfl,_⟩:=hr;rfl
 case mref=>simp only[oA]at hr;obtain⟨_,_,rfl⟩:=hr;rfl
theorem mA.oneCell {M:Nat→Prop}:∀{xs:List V} {vs:List Value},mA ρ M w xs vs→xs.all pQ=true→∀v∈vs,v.oneCell'=true
 | [],[],_,_,v,hv=>by simp at hv
 |x::xs,u::us,hr,hc,v,hv=>by
  simp only[mA]at hr;simp only[e6,hL]at hc;rcases k6.mp hv with rfl|hv
  ·exact hr.1.oneCell hc.1
  ·exact mA.oneCell hr.2 hc.2 v hv
 | [],_::_,h,_,_,_=>by simp[mA]at h
 |_::_,[],h,_,_,_=>by simp[mA]at h
theorem gW {M:Nat→Prop}{x x':qA}{off n:Nat}{vs:List V}{us:List Value}{c c':Array Value}(hs:wG off vs x=some x')(hx:uC ρ M w n c x)(hr:mA ρ M w vs us)(hle:off+us.length≤n)
  (hc':c'.size=c.size)(hcc:∀j,c'[j]?=if off≤j∧j<off+us.length then us[j-off]? else c[j]?):(∀v∈us,v.oneCell'=true)∧uC ρ M w n c' x':=by
 cases x with
 |dead=>exact hx.elim
 |mp _ _ _ _=>exact hx.elim
 |it _ _ _ _=>exact hx.elim
 |nw _ _ _ _=>exact hx.elim
 |bls l=>
  simp only[wG]at hs;split at hs
  ·rename_i b;cases hs;cases us with
   |nil=>simp only[mA]at hr
   |cons u us=>
    cases us with
    |cons _ _=>simp only[mA]at hr;exact hr.2.elim
    |nil=>
     simp only[mA]at hr;have:=hr.1.c;subst this;obtain⟨a1,a2,a3⟩:=hx;refine⟨fun v hv=>by simp only[c3]at hv;subst hv;rfl,by rw[p4];exact a1,by rw[hc'];exact a2,fun i hi=>?_⟩;rw[p4]at hi;rw[hcc i];simp only[l4]at hle⊢;by_cases he:i=off
     ·subst he;rw[if_pos (by omega)];simp[iA,hi]
     ·rw[if_neg (by omega),a3 i hi];simp[iA,hT (Ne.symm he)]
  ·cases hs
 |ints k l=>
  simp only[wG,hG]at hs;obtain⟨l',h1,rfl⟩:=hs;obtain⟨h2,h3,h4⟩:=j6 vs us l l' off h1 hr;obtain⟨a1,a2,a3⟩:=hx;refine⟨h3,by omega,by omega,fun i hi=>?_⟩;rw[hcc i,h4 i (by omega)];split
  ·rename_i hb;rw[cP (by omega)];simp[iA,cP (show i-off<us.length by omega)]
  ·exact a3 i (by omega)
 |vals cs=>
  simp only[wG]at hs;obtain⟨hok,hs⟩:=cA hs;simp only[hG]at hs;obtain⟨cs',h1,rfl⟩:=hs;obtain⟨h2,h3⟩:=nK h1;obtain⟨a1,a2,a3⟩:=hx;have hlen:=hr.length;refine⟨mA.oneCell hr hok,?_,by omega,?_⟩
  ·rw[h2];simp;omega
  ·have key:c'.toList.take n=(c.toList.take n).take off++us++(c.toList.take n).drop (off+us.length):=by
    apply w0;intro j;by_cases hj:j<n
    ·rw[zE hj];have hcj:=hcc j;simp only[←o0]at hcj;rw[hcj];by_cases h5:j<off
     ·rw[if_neg (by omega),n3,aE (by simp;omega),zE h5,zE hj]
     ·rw[n3,hE (by simp;omega)];have e:(List.take off (List.take n c.toList)).length=off:=by simp;omega
      rw[e];by_cases h6:j<off+us.length
      ·rw[if_pos ⟨by omega,h6⟩,aE (by omega)]
      ·rw[if_neg (by omega),hE (by omega),l1];have e2:off+us.length+(j-off-us.length)=j:=by omega
       rw[e2,zE hj]
    ·rw[p0 (by simp;omega),p0 (by simp;omega)]
   rw[key,h2];exact mA.splice off a3 hr
theorem M5 (hty:uD P ty)(hh:kA F ρ h w){t id off ext:Nat}{va vx:Value}{x:V}{vs:List V}{b:qA}{ti:TI}(ha:oA ρ (av F (fA ρ h)) w (.ptr id off ext) va)(hx:oA ρ (av F (fA ρ h)) w x vx)
  (ht:ty t=some ti)(hc:oE x=some vs)(hle:ti.size≤ext)(hl:vs.length=ti.size)(hs:wG off vs (h id)=some b):
  rD F ρ h w nid {val:=bI,wr:=[(id,b)],touch:=[id]} ((do Instr.storeAt t va vx;pure .skip:Sem Next).run P w):=by
 have h0:=hty _ _ ht;simp only[oA]at ha;obtain⟨bb,n,C,hp,hn,rfl⟩:=ha;have hlive:(h id).live:=by
  cases hx:h id with
  |dead=>rw[hx]at hs;simp[wG]at hs
  |_=>trivial
 have hflat:(h id).flat:=by
  cases hx:h id with
  |mp _ _ _ _=>rw[hx]at hs;simp[wG]at hs
  |it _ _ _ _=>rw[hx]at hs;simp[wG]at hs
  |_=>trivial
 obtain⟨c,ho,hsz,hold⟩:=hh.own hlive hflat hp;have hr:=oA.cells hx hc;have hlen:=hr.length;have hnC:n≤c.size:=by
  cases hx:h id with
  |dead=>rw[hx]at hlive;exact hlive.elim
  |mp _ _ _ _=>rw[hx]at hflat;exact hflat.elim
  |it _ _ _ _=>rw[hx]at hflat;exact hflat.elim
  |ints k l=>rw[hx]at hold;exact hold.2.1
  |vals cs=>rw[hx]at hold;exact hold.2.1
  |nw _ _ _ _=>rw[hx]at hold;exact hold.elim
  |bls l=>rw[hx]at hold;exact hold.2.1
 have hone:∀v∈vx.cells.toList,v.oneCell'=true:=by
  have:=gW (c:=c) (c':=(c.toList.take off++vx.cells.toList++c.toList.drop (off+vx.cells.toList.length)).toArray) hs hold hr (by simp at hlen⊢;omega) (by simp at hlen⊢;omega) (fun j=>by
   simp only[hW];by_cases h5:j<off
   ·rw[if_neg (by omega),n3,aE (by simp;omega),zE h5];simp
   ·rw[n3,hE (by simp;omega)];have e:(List.take off c.toList).length=off:=by simp;simp at hlen;omega
    rw[e];by_cases h6:j<off+vx.cells.toList.length
    ·rw[if_pos ⟨by omega,h6⟩,aE (by omega)]
    ·rw[if_neg (by omega),hE (by omega),l1];have e2:off+vx.cells.toList.length+(j-off-vx.cells.toList.length)=j:=by omega
     rw[e2];simp)
  exact this.1
 obtain⟨w',c',r1,r2,r3,r4,r5,r6⟩:=eG (P:=P) (b:=bb) vx.cells.toList w off 0 C c ho (by simp at hlen⊢;omega) hone;obtain⟨_,hold'⟩:=gW (c':=c') hs hold hr (by simp at hlen⊢;omega) (by omega) (fun j=>by rw[r6 j];simp only[y3]);subst hsz;rw[←r5]at r4 hp;obtain⟨q1,q2⟩:=kA.write hh hlive hp r2 r3 r4 hold';refine⟨undef,w',ρ,.inr ⟨?_,rfl⟩,vL.refl _,fun _ _=>rfl,q1,oA.of_c _,q2⟩;have hsize:¬(vx.cells.size≠ti.size):=by simp at hlen⊢;omega
 simp only[Instr.storeAt,Instr.sureAddr,storeVar,hB,iB,hA,h0.sizeOf,if_neg hsize,b5,r1]
end
section
variable {P:Program}{F:Nat→Prop}{ρ:xC}{h:Nat→qA}{w:World}{nid:Nat}{ty:Nat→Option TI}{ev:Operand→V}{ae:Operand→Value}{out:oF}{M:Nat→Prop}
theorem dP (hty:uD P ty){t f fo fsz:Nat}{ti:TI}{fs:List (Nat×Nat)}(ht:ty t=some ti)(hk:ti.tk= .struct fs)(hf:sI ty fs f=some (fo,fsz))(hpos:0<fsz)(b o:Nat):
  (Instr.fieldAt t (.pointer (some ⟨b,o,none⟩)) f).run P w= .ok (.pointer (some ⟨b,o+fo,none⟩)) w:=by
 have h0:=(hty _ _ ht).tk;rw[hk]at h0;obtain⟨fields,h1,h2,h3⟩:=h0;obtain⟨t',ti',a1,a2,a3⟩:=mY hf;obtain⟨fl,b1,b2,b3⟩:=bU h2 a1;have hs:(Go.sizeOf fl.type).run P w= .ok ti'.size w:=by rw[b2];exact(hty _ _ a2).sizeOf
 have hne:¬ti'.size=0:=by omega
 simp only[Instr.fieldAt,hB,run_underlying h1,hA,b1,Instr.sureAddr,iB,fieldPlace,hs,if_neg hne,uF,b3]
theorem ia (hty:uD P ty){t f:Nat}{ti:TI}{fs:List (Nat×Nat)}{x:V}{vx:Value}(ht:ty t=some ti)(hk:ti.tk= .struct fs)(hx:oA ρ M w x vx){out:oF}
  (hb:lY ty fs f x=some (true,out)):
  ∃y v,out={val:=y}∧(Instr.fieldAt t vx f).run P w= .ok v w∧oA ρ M w y v:=by
 cases x<;>simp only[lY]at hb
 case ptr id off ext=>
  split at hb
  ·rename_i fo fsz hf;obtain⟨h1,h2⟩:=cA hb;rw[hL]at h1;have:=lE h1.1;simp only[oA]at hx;obtain⟨b,n,C,hp,hn,rfl⟩:=hx;exact⟨_,_,zB h2,dP hty ht hk hf (aC h1.2) b off,by simp only[oA];exact⟨b,n,C,hp,by omega,rfl⟩⟩
  ·cases hb
 case ilp k l off ext=>
  split at hb
  ·rename_i fo fsz hf;obtain⟨h1,h2⟩:=cA hb;rw[hL]at h1;have:=lE h1.1;simp only[oA]at hx;obtain⟨b,o,rfl,hn,hr⟩:=hx;exact⟨_,_,zB h2,dP hty ht hk hf (aC h1.2) b (o+off),by simp only[oA];exact⟨b,o,by rw[x0],by omega,hr⟩⟩
  ·cases hb
 case ivp l i off ext=>
  split at hb
  ·rename_i fo fsz hf;obtain⟨h1,h2⟩:=cA hb;rw[hL]at h1;have:=lE h1.1;simp only[oA]at hx;obtain⟨b,o,rfl,hn,hr⟩:=hx;exact⟨_,_,zB h2,dP hty ht hk hf (aC h1.2) b (o+off),by simp only[oA];exact⟨b,o,by rw[x0],by omega,hr⟩⟩
  ·cases hb
 all_goals cases hb
theorem jm {t:Nat}{ti:TI}(ht:kC P t ti)(hpos:0<ti.size){cs r:List V}{xs:Array Value}{off:Nat}(hr:mA ρ M w cs xs.toList)(hc:nL (rN cs off) ti.size=some r):
  ∃v,(part t xs off).run P w= .ok v w∧oA ρ M w (sS ti r) v:=by
 rw[kO]at hc;obtain⟨h1,h2⟩:=u7 hc;have hlen:=hr.length;have hrr:mA ρ M w r ((xs.toList.drop off).take ti.size):=by rw[h1];exact(hr.drop off).take _
 unfold part sS;simp only[hB,ht.isAgg,hA];cases ha:ti.isAgg with
 |true=>
  refine⟨.agg (xs.extract off (off+ti.size)),by simp only[if_true,hB,ht.sizeOf,hA,iB],?_⟩;simp only[cond_true,oA];refine⟨_,rfl,?_⟩;have:(xs.extract off (off+ti.size)).toList=(xs.toList.drop off).take ti.size:=by simp[Array.toList_extract]
  rw[this];exact hrr
 |false=>
  have hone:=ht.one ha;simp only[k5]at h2;have hlt:off<xs.size:=by simp at hlen;omega
  refine⟨xs[off],by simp[hlt],?_⟩;simp only[cond_false];have e:(xs.toList.drop off).take ti.size=[xs[off]]:=by rw[hone,x3 (by simpa using hlt)];simp
  rw[e]at hrr;cases r with
  |nil=>simp[mA]at hrr
  |cons v r=>simp only[mA]at hrr;exact hrr.1
theorem D5 (hty:uD P ty){t f:Nat}{ti:TI}{fs:List (Nat×Nat)}{cs r:List V}{vx:Value}{t' fo:Nat}{te:TI}(ht:ty t=some ti)(hk:ti.tk= .struct fs)(hx:oA ρ M w (.agg cs) vx)
  (hf:fs[f]?=some (t',fo))(hte:ty t'=some te)(hpos:0<te.size)(hc:nL (rN cs fo) te.size=some r):
  ∃v,(Instr.field t vx f).run P w= .ok v w∧oA ρ M w (sS te r) v:=by
 have h0:=(hty _ _ ht).tk;rw[hk]at h0;obtain⟨fields,h1,h2,h3⟩:=h0;obtain⟨fl,b1,b2,b3⟩:=bU h2 hf;simp only[oA]at hx;obtain⟨xs,rfl,hx⟩:=hx;obtain⟨v,c1,c2⟩:=jm (hty _ _ hte) hpos hx hc;refine⟨v,?_,c2⟩;simp only[Instr.field,hB,run_underlying h1,hA,b1,asAgg,iB,b2,b3,c1]
theorem si {i:Nat}{vs:List V}{y:V}{vx:Value}(hx:oA ρ M w (.tup vs) vx)(hg:so vs i=some y):∃v,(Instr.extract vx i).run P w= .ok v w∧oA ρ M w y v:=by
 simp only[oA]at hx;obtain⟨xs,rfl,hx⟩:=hx;rw[xd]at hg;obtain⟨v,h1,h2⟩:=hx.get hg;refine⟨v,?_,h2⟩;have:xs[i]?=some v:=by simpa using h1
 simp only[Instr.extract,this,iB]
theorem fG (hh:kA F ρ h w){id s:Nat}{vx:Value}(hx:oA ρ (av F (fA ρ h)) w (.sw id s) vx)(hl:(h id).live)(hf:(h id).flat):
  0<s∧((∃b n C cap c,ρ id=some ⟨some b,n,C⟩∧n%s=0∧n/s≤cap∧cap*s≤C∧vx= .slice (some ⟨b,0,none⟩) (n/s) cap∧lb w b C c∧c.size=C∧uC ρ (av F (fA ρ h)) w n c (h id))∨
   (ρ id=some ⟨none,0,0⟩∧vx= .slice none 0 0∧((∃k,h id= .ints k [])∨h id= .vals []∨(∃_ _:Nat,h id= .bls [])))):=by
 simp only[oA]at hx;obtain⟨h0,⟨b,n,C,cap,h1,h2,h3,h4,h5⟩|⟨h1,h2⟩⟩:=hx
 ·obtain⟨c,ho,hsz,hold⟩:=hh.own hl hf h1;exact⟨h0,.inl ⟨b,n,C,cap,c,h1,h2,h3,h4,h5,ho,hsz,hold⟩⟩
 ·refine⟨h0,.inr ⟨h1,h2,?_⟩⟩;obtain⟨p,hp,hb⟩:=hh.rel id hl;rw[h1]at hp;simp only[Option.some.injEq]at hp;subst hp;cases hx:h id with
  |dead=>rw[hx]at hl;exact hl.elim
  |mp _ _ _ _=>rw[hx]at hf;exact hf.elim
  |it _ _ _ _=>rw[hx]at hf;exact hf.elim
  |ints k l=>rw[hx]at hb;obtain⟨hb1,_⟩:=hb;have:l=[]:=hR.mp hb1;exact .inl ⟨k,by rw[this]⟩
  |vals cs=>rw[hx]at hb;obtain⟨hb1,_⟩:=hb;have:cs=[]:=hR.mp hb1;exact .inr (.inl (by rw[this]))
  |nw _ _ _ _=>rw[hx]at hb;exact hb.elim
  |bls l=>rw[hx]at hb;obtain⟨hb1,_⟩:=hb;have:l=[]:=hR.mp hb1;exact .inr (.inr ⟨0,0,by rw[this]⟩)
theorem uC.len {n:Nat}{c:Array Value}{k:IntKind}{l:List Int}(hx:uC ρ M w n c (.ints k l)):l.length=n:=hx.1
theorem uC.lenV {n:Nat}{c:Array Value}{l:List V}(hx:uC ρ M w n c (.vals l)):l.length=n:=hx.1
theorem dZ (hh:kA F ρ h w){x:V}{vx:Value}{n:Nat}{tc:List Nat}(hx:oA ρ (av F (fA ρ h)) w x vx)(hl:rK h x=some (n,tc))(hs:∀s,x≠ .c (.string s)):∃a c,vx= .slice a n c∧n≤c:=by
 unfold rK at hl;split at hl
 ·simp only[Option.some.injEq,Prod.mk.injEq]at hl;have:=hx.c;subst this;obtain⟨rfl,_⟩:=hl;exact⟨none,0,rfl,hD _⟩
 ·rename_i s;exact absurd rfl (hs s)
 ·rename_i id s;have hlive:(h id).live:=by
   cases hx:h id with
   |dead=>rw[hx]at hl;simp at hl
   |_=>trivial
  have hflat:(h id).flat:=by
   cases hx:h id with
   |mp _ _ _ _=>rw[hx]at hl;simp at hl
   |it _ _ _ _=>rw[hx]at hl;simp at hl
   |_=>trivial
  obtain⟨h0,⟨b,m,C,cap,c,h1,h2,h3,h4,h5,ho,hsz,hold⟩|⟨h1,h2,⟨k,hk⟩|hk|⟨_,_,hk⟩⟩⟩:=fG hh hx hlive hflat
  ·split at hl
   ·rename_i k l hid;simp only[Option.some.injEq,Prod.mk.injEq,mE]at hl;rw[hid]at hold;have:=hold.len;obtain⟨rfl,_⟩:=hl;exact⟨_,cap,by rw[this];exact h5,by rw[this];exact h3⟩
   ·rename_i l hid;simp only[Option.some.injEq,Prod.mk.injEq,mE]at hl;rw[hid]at hold;have:=hold.lenV;obtain⟨rfl,_⟩:=hl;exact⟨_,cap,by rw[this];exact h5,by rw[this];exact h3⟩
   ·cases hl
   ·rename_i l hid;simp only[Option.some.injEq,Prod.mk.injEq,mE]at hl;rw[hid]at hold;have:=hold.1;obtain⟨rfl,_⟩:=hl;exact⟨_,cap,by rw[this];exact h5,by rw[this];exact h3⟩
   ·cases hl
   ·cases hl
   ·cases hl
  all_goals
   rw[hk]at hl;simp only[Option.some.injEq,Prod.mk.injEq,mE,y2,Nat.zero_div]at hl;obtain⟨rfl,_⟩:=hl;exact⟨none,0,h2,hD _⟩
 ·rename_i id s off len;simp only[Option.some.injEq,Prod.mk.injEq]at hl;obtain⟨rfl,_⟩:=hl;simp only[oA]at hx;obtain⟨h0,⟨b,m,C,cap,h1,h2,h3,h4,h5⟩|⟨h2,a,h3⟩⟩:=hx
  ·exact⟨_,cap,h5,h3⟩
  ·exact⟨a,0,by rw[h2];exact h3,by omega⟩
 ·rename_i k s l;simp only[Option.some.injEq,Prod.mk.injEq,mE]at hl;obtain⟨rfl,_⟩:=hl;simp only[oA]at hx;obtain⟨h0,h1,⟨h2,a,h3⟩|⟨b,o,cap,h2,h3,_⟩⟩:=hx
  ·subst h2;exact⟨a,0,by simpa using h3,by simp⟩
  ·exact⟨_,cap,h2,h3⟩
 ·rename_i m cols;simp only[Option.some.injEq,Prod.mk.injEq]at hl;obtain⟨rfl,_⟩:=hl;simp only[oA]at hx;obtain⟨h0,⟨h2,a,h3⟩|⟨b,o,cap,h2,h3,_⟩⟩:=hx
  ·subst h2;exact⟨a,0,h3,hD _⟩
  ·exact⟨_,cap,h2,h3⟩
 ·rename_i k s rows;simp only[Option.some.injEq,Prod.mk.injEq]at hl;obtain⟨rfl,_⟩:=hl;simp only[oA]at hx;obtain⟨h2,a,h3⟩|⟨b,o,cap,h2,h3,_⟩:=hx
  ·subst h2;exact⟨a,0,h3,hD _⟩
  ·exact⟨_,cap,h2,h3⟩
 ·rename_i m;simp only[Option.some.injEq,Prod.mk.injEq]at hl;obtain⟨rfl,_⟩:=hl;simpa only[oA]using hx
 ·cases hl
theorem Rt (hty:uD P ty)(hh:kA F ρ h w){t:Nat}{ti:TI}{x:V}{vx:Value}{n:Nat}{tc:List Nat}(ht:ty t=some ti)(hx:oA ρ (av F (fA ρ h)) w x vx)(hl:rK h x=some (n,tc))(hk:xm ti.tk x=true)(ts:Array TypeId)(hts:ts[0]?=some t)(t':TypeId):
  (p6 ts t' #[vx]).run P w= .ok (.int .i64 n) w:=by
 have h0:=(hty _ _ ht).tk;unfold xm at hk;split at hk
 ·rename_i s hti;rw[hti]at h0;simp only[xD]at h0;have:=hx.c;subst this;simp only[rK,Option.some.injEq,Prod.mk.injEq]at hl;obtain⟨rfl,_⟩:=hl;simp[p6,hts,run_underlying h0,goInt]
 ·cases hk
 ·rename_i e hti hns;rw[hti]at h0;simp only[xD]at h0;obtain⟨a,c,rfl,_⟩:=dZ hh hx hl (fun s e=>hns s e);simp[p6,hts,run_underlying h0,goInt]
 ·cases hk
theorem cJ {t:Nat}{e:Nat}{te:TI}(hty:uD P ty)(hte:ty e=some te)(hu:P.underlying t=some (.slice e)){b off len cap:Nat}{k:IntKind}{i:Int}(h0:0≤i)(h1:i<(len:Int)):
  (Instr.indexAt t (.slice (some ⟨b,off,none⟩) len cap) (.int k i)).run P w= .ok (.pointer (some ⟨b,off+kG te.size i.toNat,none⟩)) w:=by
 simp only[Instr.indexAt,asIntOf,hB,iB,hA,run_underlying hu,if_pos (And.intro h0 h1),(hty _ _ hte).sizeOf,uF,yB]
theorem lN {t n:Nat}{e:Nat}{te:TI}(hty:uD P ty)(hte:ty e=some te)(hu:P.underlying t=some (.array n e)){b off:Nat}{k:IntKind}{i:Int}(h0:0≤i)(h1:i<(n:Int)):
  (Instr.indexAt t (.pointer (some ⟨b,off,none⟩)) (.int k i)).run P w= .ok (.pointer (some ⟨b,off+kG te.size i.toNat,none⟩)) w:=by
 simp only[Instr.indexAt,asIntOf,Instr.sureAddr,hB,iB,hA,run_underlying hu,if_pos (And.intro h0 h1),(hty _ _ hte).sizeOf,uF,yB]
theorem wA {a b:Bool}(h:(a&&b)=true):a=true∧b=true:=by simpa using h
theorem jU {i n w:Nat}(h:i<n):i*w+w≤n*w:=by
 have:(i+1)*w≤n*w:=hF w h;rw[s4]at this;exact this
theorem tf (hty:uD P ty)(hh:kA F ρ h w){t:Nat}{x i:V}{vx vi:Value}{out:oF}(hx:oA ρ (av F (fA ρ h)) w x vx)(hi:oA ρ (av F (fA ρ h)) w i vi)(hb:aL ty t x i h=some (true,out)):
  ∃y tc v,out={val:=y,touch:=tc}∧(Instr.indexAt t vx vi).run P w= .ok v w∧oA ρ (av F (fA ρ h)) w y v:=by
 unfold aL at hb;split at hb
 ·rename_i ki n e s0 b0 z0 ht;have hvi:=hi.int;subst hvi;have hu:=(hty _ _ ht).tk;simp only[xD]at hu;split at hb
  ·cases hb
  ·rename_i te hte;split at hb
   ·rename_i id s;obtain⟨hw,hb⟩:=cA hb;have hw:=aB hw;have hlive:(h id).live:=by
     cases hx:h id with
     |dead=>rw[hx]at hb;simp at hb
     |_=>trivial
    have hflat:(h id).flat:=by
     cases hx:h id with
     |mp _ _ _ _=>rw[hx]at hb;simp at hb
     |it _ _ _ _=>rw[hx]at hb;simp at hb
     |_=>trivial
    have bN:∀L:Nat,(∀{m c},uC ρ (av F (fA ρ h)) w m c (h id)→L=m)→((∃k,h id= .ints k [])∨h id= .vals []∨(∃_ _:Nat,h id= .bls [])→L=0)→(decide (0≤n)&&decide (n<((gE s L:Nat):Int)))=true→out={val:=.ptr id (kG s n.toNat) s,touch:=[id]}→
      ∃y tc v,out={val:=y,touch:=tc}∧(Instr.indexAt t vx (.int ki n)).run P w= .ok v w∧oA ρ (av F (fA ρ h)) w y v:=by
     intro L hL1 hL2 hok hout;obtain⟨g0,g1⟩:=wA hok;have g0:0≤n:=by simpa using g0
     have g1:n<((gE s L:Nat):Int):=by simpa using g1
     rw[mE]at g1;obtain⟨h0,⟨b,m,C,cap,c,h1,h2,h3,h4,h5,ho,hsz,hold⟩|⟨h1,h2,hk⟩⟩:=fG hh hx hlive hflat
     ·have:=hL1 hold;subst this;subst h5;refine⟨_,_,_,hout,cJ hty hte hu g0 g1,?_⟩;simp only[oA];refine⟨b,L,C,h1,?_,by rw[hP,hw]⟩;rw[yB];have h6:n.toNat<L/s:=by omega
      have:=jU (w:=s) h6;have h7:=l6 L s;omega
     ·have:=hL2 hk;subst this;simp at g1;omega
    split at hb
    ·rename_i k l hid;simp only[Option.some.injEq,Prod.mk.injEq]at hb;exact bN l.length (fun{m c} hold=>by rw[hid]at hold;exact hold.len) (fun hk=>by rw[hid]at hk;rcases hk with⟨k',hk⟩|hk|⟨_,_,hk⟩<;>cases hk;rfl) hb.1 hb.2.symm
    ·rename_i l hid;simp only[Option.some.injEq,Prod.mk.injEq]at hb;exact bN l.length (fun{m c} hold=>by rw[hid]at hold;exact hold.lenV) (fun hk=>by rw[hid]at hk;rcases hk with⟨k',hk⟩|hk|⟨_,_,hk⟩<;>cases hk;rfl) hb.1 hb.2.symm
    ·cases hb
    ·rename_i l hid;simp only[Option.some.injEq,Prod.mk.injEq]at hb;exact bN l.length (fun{m c} hold=>by rw[hid]at hold;exact hold.1) (fun hk=>by rw[hid]at hk;rcases hk with⟨k',hk⟩|hk|⟨_,_,hk⟩<;>cases hk;rfl) hb.1 hb.2.symm
    ·cases hb
    ·cases hb
    ·cases hb
   ·rename_i id s off len;obtain⟨hw,hb⟩:=cA hb;have hw:=aB hw;obtain⟨hok,hout⟩:=oD hb;obtain⟨g0,g1⟩:=wA hok;have g0:0≤n:=by simpa using g0
    have g1:n<(len:Int):=by simpa using g1
    simp only[oA]at hx;obtain⟨h0,⟨b,m,C,cap,h1,h2,h3,h4,h5⟩|⟨h2,h3⟩⟩:=hx
    ·subst h5;refine⟨_,[],_,hout,cJ hty hte hu g0 g1,?_⟩;simp only[oA];refine⟨b,m,C,h1,?_,by rw[hw]⟩;rw[yB];have h6:n.toNat<len:=by omega
     have:=jU (w:=s) h6;omega
    ·omega
   ·rename_i k s l;obtain⟨hw,hb⟩:=cA hb;have hw:=aB hw;obtain⟨hok,hout⟩:=oD hb;obtain⟨g0,g1⟩:=wA hok;have g0:0≤n:=by simpa using g0
    have g1:n<((gE s l.length:Nat):Int):=by simpa using g1
    rw[mE]at g1;simp only[oA]at hx;obtain⟨h0,hm,⟨h2,h3⟩|⟨b,o,cap,h2,h3,h4,h5,h6⟩⟩:=hx
    ·subst h2;simp at g1;omega
    ·subst h2;refine⟨_,[],_,hout,cJ hty hte hu g0 g1,?_⟩;simp only[oA];refine⟨b,o,by rw[hw],?_,h4,h5,h6⟩;rw[yB];have h7:n.toNat<l.length/s:=by omega
     have:=jU (w:=s) h7;have h8:=l6 l.length s;omega
   ·rename_i m cols;obtain⟨hw,hb⟩:=cA hb;have hw:=aB hw;obtain⟨hok,hout⟩:=oD hb;obtain⟨g0,g1⟩:=wA hok;have g0:0≤n:=by simpa using g0
    have g1:n<(m:Int):=by simpa using g1
    simp only[oA]at hx;obtain⟨h0,⟨h2,h3⟩|⟨b,o,cap,h2,h3,h4,h5,h6⟩⟩:=hx
    ·subst h2;simp at g1;omega
    ·subst h2;refine⟨_,[],_,hout,cJ hty hte hu g0 g1,?_⟩;simp only[oA];refine⟨b,o+n.toNat*cols.length,by rw[yB,hw,y3],by omega,h4,h5,fun j hj=>h6 n.toNat (by omega) j hj⟩
   ·rename_i k s rows;obtain⟨hw,hb⟩:=cA hb;have hw:=aB hw;obtain⟨hok,hout⟩:=oD hb;obtain⟨g0,g1⟩:=wA hok;have g0:0≤n:=by simpa using g0
    have g1:n<(rows.length:Int):=by simpa using g1
    simp only[oA]at hx;obtain⟨h2,h3⟩|⟨b,o,cap,h2,h3,h4,h5,h6⟩:=hx
    ·subst h2;simp at g1;omega
    ·subst h2;refine⟨_,[],_,hout,cJ hty hte hu g0 g1,?_⟩;simp only[oA];exact⟨b,o,by rw[yB,←hw,y4],by omega,h4,h5,h6⟩
   ·cases hb
 ·rename_i ki n len e s0 b0 z0 ht;have hvi:=hi.int;subst hvi;have hu:=(hty _ _ ht).tk;simp only[xD]at hu;split at hb
  ·cases hb
  ·rename_i te hte;have go:∀{y:V} {ext:Nat},(bif Nat.ble (len*te.size) ext then wD (decide (0≤n)&&decide (n<(len:Int))) y else none)=some (true,out)→len*te.size≤ext∧0≤n∧n<(len:Int)∧out={val:=y}:=by
    intro y ext hb;obtain⟨hw,hb⟩:=cA hb;obtain⟨hok,hout⟩:=oD hb;obtain⟨g0,g1⟩:=wA hok;exact⟨lE hw,by simpa using g0,by simpa using g1,hout⟩
   split at hb
   ·rename_i id off ext;obtain⟨g,g0,g1,hout⟩:=go hb;simp only[oA]at hx;obtain⟨b,m,C,h1,h2,rfl⟩:=hx;refine⟨_,[],_,hout,lN hty hte hu g0 g1,?_⟩;simp only[oA];refine⟨b,m,C,h1,?_,rfl⟩;rw[yB];have:=jU (w:=te.size) (show n.toNat<len by omega);omega
   ·rename_i k l off ext;obtain⟨g,g0,g1,hout⟩:=go hb;simp only[oA]at hx;obtain⟨b,o,rfl,h2,hr⟩:=hx;refine⟨_,[],_,hout,lN hty hte hu g0 g1,?_⟩;simp only[oA];refine⟨b,o,by rw[x0],?_,hr⟩;rw[yB];have:=jU (w:=te.size) (show n.toNat<len by omega);omega
   ·rename_i l i off ext;obtain⟨g,g0,g1,hout⟩:=go hb;simp only[oA]at hx;obtain⟨b,o,rfl,h2,hr⟩:=hx;refine⟨_,[],_,hout,lN hty hte hu g0 g1,?_⟩;simp only[oA];refine⟨b,o,by rw[x0],?_,hr⟩;rw[yB];have:=jU (w:=te.size) (show n.toNat<len by omega);omega
   ·cases hb
 ·cases hb
end
section
variable {P:Program}{F:Nat→Prop}{ρ:xC}{h:Nat→qA}{w:World}{nid:Nat}{ty:Nat→Option TI}{ev:Operand→V}{ae:Operand→Value}{out:oF}{M:Nat→Prop}
theorem Cj (s:ByteArray)(i:Nat)(hi:i<s.size):s[i]?=some s[i]∧(s[i].toNat:Int)=xF s i:=by
 refine⟨by simp[hi],?_⟩;unfold xF;have:s.data.toList.getD i 0=s[i]:=by
  have h1:i<s.data.toList.length:=by simpa using hi
  rw[iA,cP h1];rfl
 rw[this]
theorem vX:∀{k:IntKind} {cs:List V} {l:List Int},vF k cs=some l→cs=l.map (fun n=>.c (.int k n))
 |k,[],l,h=>by simp[vF]at h;subst h;rfl
 |k,x::r,l,h=>by
  cases x with
  |c y=>
   cases y with
   |int k' n=>simp only[vF]at h;obtain⟨hk,h1⟩:=cA h;have hkk:=yE hk;subst hkk;simp only[hG]at h1;obtain⟨r',h2,rfl⟩:=h1;rw[vX h2];rfl
   |_=>simp[vF]at h
  |_=>simp[vF]at h
theorem tg (hty:uD P ty){t:Nat}{x i:V}{vx vi:Value}{out:oF}(hx:oA ρ M w x vx)(hi:oA ρ M w i vi)(hb:iu ty t x i=some (true,out)):
  ∃y v,out={val:=y}∧(Instr.index t vx vi).run P w= .ok v w∧oA ρ M w y v:=by
 unfold iu at hb;split at hb
 ·rename_i ki n s0 b0 z0 s ht;have:=hi.int;subst this;have:=hx.c;subst this;have hu:=(hty _ _ ht).tk;simp only[xD]at hu;obtain⟨hok,hout⟩:=oD hb;obtain⟨g0,g1⟩:=wA hok;have g0:0≤n:=by simpa using g0
  have g1:n<(s.size:Int):=by simpa using g1
  obtain⟨h1,h2⟩:=Cj s n.toNat (by omega);refine⟨_,_,hout,?_,oA.of_c _⟩;simp only[Instr.index,asIntOf,hB,iB,hA,run_underlying hu,if_pos g0,h1,h2]
 ·rename_i ki n len e s0 b0 z0 cs ht;have:=hi.int;subst this;have hu:=(hty _ _ ht).tk;simp only[xD]at hu;simp only[oA]at hx;obtain⟨xs,rfl,hx⟩:=hx;split at hb
  ·cases hb
  ·rename_i te hte;split at hb
   ·rename_i k l hint;obtain⟨h0,hb⟩:=cA hb;obtain⟨h01,h02⟩:=wA h0;have h01:=aB h01;have h02:=aB h02;obtain⟨hok,hout⟩:=oD hb;obtain⟨g0,g1⟩:=wA hok;have g0:0≤n:=by simpa using g0
    have g1:n<(len:Int):=by simpa using g1
    unfold nu at hint;split at hint
    ·rename_i k' htk;split at hint
     ·rename_i l' hl;simp only[Option.some.injEq,Prod.mk.injEq]at hint;obtain⟨rfl,rfl⟩:=hint;have hcs:=vX hl;have hlt:n.toNat<l'.length:=by omega
      have hr:nL (rN cs (n.toNat*te.size)) te.size=some [.c (.int k' (l'.getD n.toNat 0))]:=by rw[h02,kO,y4,hcs,←List.map_drop,x3 hlt];simp only[eX,nL,hV];simp[iA,hlt]
      obtain⟨v,c1,c2⟩:=jm (hty _ _ hte) (by omega) hx hr;refine⟨_,v,hout,?_,?_⟩
      ·simp only[Instr.index,asIntOf,hB,iB,hA,run_underlying hu,if_pos (And.intro g0 g1),(hty _ _ hte).sizeOf,c1]
      ·have hag:te.isAgg=false:=by unfold TI.isAgg;rw[htk]
       simpa only[sS,hag,cond_false]using c2
     ·cases hint
    ·cases hint
   split at hb
   ·cases hb
   ·rename_i r hr;obtain⟨h0,hb⟩:=cA hb;obtain⟨hok,hout⟩:=oD hb;obtain⟨g0,g1⟩:=wA hok;have g0:0≤n:=by simpa using g0
    have g1:n<(len:Int):=by simpa using g1
    obtain⟨v,c1,c2⟩:=jm (hty _ _ hte) (aC h0) hx hr;refine⟨_,v,hout,?_,c2⟩;simp only[Instr.index,asIntOf,hB,iB,hA,run_underlying hu,if_pos (And.intro g0 g1),(hty _ _ hte).sizeOf,c1]
 ·cases hb
theorem eD {k:IntKind}{i:Int}{y:Nat}(code:BoundsCode)(h0:0≤i)(h1:i≤(y:Int)):(Instr.sliceBound (.int k i) y code).run P w= .ok i.toNat w:=by
 simp only[Instr.sliceBound,asIntOf,hB,iB,hA,if_pos (And.intro h0 h1)]
def gJ (ρ:xC)(M:Nat→Prop)(w:World):Option V→Option Value→Prop
 |none,none=>True
 |some x,some v=>oA ρ M w x v
 |_,_=>False
theorem gJ.of {x:Option Operand}(he:∀x,oA ρ M w (ev x) (ae x)):gJ ρ M w (x.map ev) (x.map ae):=by
 cases x with
 |none=>trivial
 |some x=>exact he x
theorem vT {x:Option V}{v:Option Value}{d i:Int}(hx:Ch x d=some i)(hr:gJ ρ M w x v):(x=none∧v=none∧i=d)∨∃k,x.isSome=true∧v=some (.int k i):=by
 unfold Ch at hx;split at hx
 ·simp only[Option.some.injEq]at hx;cases v with
  |none=>exact .inl ⟨rfl,rfl,hx.symm⟩
  |some v=>exact hr.elim
 ·simp only[Option.some.injEq]at hx;subst hx;cases v with
  |none=>exact hr.elim
  |some v=>have hr':oA ρ M w _ v:=hr;have:=oA.int hr';subst this;exact .inr ⟨_,rfl,rfl⟩
 ·cases hx
theorem fD {lo hi mx:Option V}{vlo vhi vmx:Option Value}{n cap:Nat}{l h' m:Int}(isS:Bool)(hlo:Ch lo 0=some l)(hhi:Ch hi n=some h')(hmx:Ch mx n=some m)
  (rlo:gJ ρ M w lo vlo)(rhi:gJ ρ M w hi vhi)(rmx:gJ ρ M w mx vmx)
  (hform:(hi.isNone&&mx.isSome)=false)(h0:0≤l)(h1:l≤h')(h2:h'≤m)(h3:m≤(n:Int))(hlc:n≤cap):
  ∃m':Nat,(Instr.sliceBounds isS n cap vlo vhi vmx).run P w= .ok (l.toNat,h'.toNat,m') w∧h'.toNat≤m'∧m'≤cap:=by
 rcases vT hlo rlo with⟨_,rfl,e1⟩|⟨k1,_,rfl⟩<;>rcases vT hhi rhi with⟨e5,rfl,e2⟩|⟨k2,_,rfl⟩<;>rcases vT hmx rmx with⟨_,rfl,e3⟩|⟨k3,e4,rfl⟩
 case inl.inl.inr=>subst e5;simp[e4]at hform
 case inr.inl.inr=>subst e5;simp[e4]at hform
 ·exact⟨cap,by simp[Instr.sliceBounds,e1,e2],by omega,hD _⟩
 ·exact⟨cap,by simp[Instr.sliceBounds,e1,eD _ (show 0≤h' by omega) (show h'≤(cap:Int) by omega)],by omega,hD _⟩
 ·exact⟨m.toNat,by simp[Instr.sliceBounds,e1,eD _ (show 0≤m by omega) (show m≤(cap:Int) by omega),eD _ (show 0≤h' by omega) (show h'≤(m.toNat:Int) by omega)],by omega,by omega⟩
 ·exact⟨cap,by simp[Instr.sliceBounds,e2,eD _ h0 (show l≤(n:Int) by omega)],by omega,hD _⟩
 ·exact⟨cap,by simp[Instr.sliceBounds,eD _ (show 0≤h' by omega) (show h'≤(cap:Int) by omega),eD _ h0 (show l≤(h'.toNat:Int) by omega)],by omega,hD _⟩
 ·exact⟨m.toNat,by simp[Instr.sliceBounds,eD _ (show 0≤m by omega) (show m≤(cap:Int) by omega),eD _ (show 0≤h' by omega) (show h'≤(m.toNat:Int) by omega),eD _ h0 (show l≤(h'.toNat:Int) by omega)],by omega,by omega⟩
theorem cU {a b c d:Bool}(h:(a&&b&&c&&d)=true):a=true∧b=true∧c=true∧d=true:=by
 simp only[hL]at h;exact⟨h.1.1.1,h.1.1.2,h.1.2,h.2⟩
theorem dD {n w:Nat}(hw:0<w):n*w/w=n:=Nat.mul_div_cancel n hw
theorem Bc (hty:uD P ty)(hh:kA F ρ h w){t:Nat}{x:V}{vx:Value}{lo hi mx:Option V}{vlo vhi vmx:Option Value}{out:oF}(hx:oA ρ (av F (fA ρ h)) w x vx)
  (rlo:gJ ρ (av F (fA ρ h)) w lo vlo)(rhi:gJ ρ (av F (fA ρ h)) w hi vhi)(rmx:gJ ρ (av F (fA ρ h)) w mx vmx)(hb:xU ty t x lo hi mx h=some (true,out)):
  ∃y tc v,out={val:=y,touch:=tc}∧(Instr.sliceAt t vx vlo vhi vmx).run P w= .ok v w∧oA ρ (av F (fA ρ h)) w y v:=by
 unfold xU at hb;split at hb
 ·cases hb
 rename_i ti ht;have hu:=(hty _ _ ht).tk;cases hform:(hi.isNone&&mx.isSome)with
 |true=>simp[hform]at hb
 |false=>
 simp only[hform,cond_false]at hb;split at hb
 ·
  split at hb
  ·rename_i n e id off ext htk hnl;rw[htk]at hu;simp only[xD]at hu;split at hb
   ·rename_i te l h' m hte hlo hhi hmx;obtain⟨hg,hb⟩:=cA hb;obtain⟨hg1,hg2⟩:=wA hg;obtain⟨hok,hout⟩:=oD hb;obtain⟨o1,o2,o3,o4⟩:=cU hok;simp only[decide_eq_true_eq]at o1 o2 o3 o4;have hle:=lE hg1;have hpos:=aC hg2;simp only[oA]at hx;obtain⟨b,nn,C,hp,hn,rfl⟩:=hx;obtain⟨m',r1,r2,r3⟩:=fD (P:=P) (cap:=n) false hlo hhi hmx rlo rhi rmx hform o1 o2 o3 o4 (hD _);refine⟨_,[],.slice (some (if m'=l.toNat then⟨b,off,none⟩else⟨b,off+l.toNat*te.size,none⟩)) (h'.toNat-l.toNat) (m'-l.toNat),hout,?_,?_⟩
    ·simp only[Instr.sliceAt,hB,run_underlying hu,hA,Instr.sureAddr,iB,r1,(hty _ _ hte).sizeOf,uF]
    ·simp only[oA];refine⟨hpos,?_⟩;by_cases hml:m'=l.toNat
     ·right;refine⟨by omega,?_⟩;simp only[hml,if_true,y1];exact⟨some ⟨b,off,none⟩,by congr 1;omega⟩
     ·left;refine⟨b,nn,C,m'-l.toNat,hp,?_,by omega,?_,by simp only[if_neg hml,yB]⟩
      ·rw[yB];have h1:(h'.toNat-l.toNat)*te.size+l.toNat*te.size=h'.toNat*te.size:=by rw[←y0];congr 1;omega
       have h2:h'.toNat*te.size≤n*te.size:=hF _ (by omega);omega
      ·rw[yB];have h1:(m'-l.toNat)*te.size+l.toNat*te.size=m'*te.size:=by rw[←y0];congr 1;omega
       have h2:m'*te.size≤n*te.size:=hF _ r3;have h3:=hh.wf _ _ hp;dsimp only at h3;omega
   ·cases hb
  ·cases hb
 ·rename_i len tc hlen;split at hb
  ·rename_i l h' m hlo hhi hmx;have kind:∀{ok:Bool},ok=(decide (0≤l)&&decide (l≤h')&&decide (h'≤m)&&decide (m≤(len:Int)))→ok=true→0≤l∧l≤h'∧h'≤m∧m≤(len:Int):=by
    intro ok e hok;rw[e]at hok;obtain⟨o1,o2,o3,o4⟩:=cU hok;simp only[decide_eq_true_eq]at o1 o2 o3 o4;exact⟨o1,o2,o3,o4⟩
   split at hb
   ·
    rename_i s htk;rw[htk]at hu;simp only[xD]at hu;have:=hx.c;subst this;simp only[rK,Option.some.injEq,Prod.mk.injEq]at hlen;obtain⟨rfl,_⟩:=hlen;split at hb
    ·obtain⟨hok,hout⟩:=oD hb;obtain⟨o1,o2,o3,o4⟩:=kind rfl hok;obtain⟨m',r1,r2,r3⟩:=fD (P:=P) (cap:=s.size) false hlo hhi hmx rlo rhi rmx hform o1 o2 o3 o4 (hD _);cases vmx with
     |some v=>exact rmx.elim
     |none=>refine⟨_,[],_,hout,?_,oA.of_c _⟩;simp only[Instr.sliceAt,Instr.slice,hB,run_underlying hu,hA];simp[r1]
    ·cases hb
   ·
    rename_i e id s htk;rw[htk]at hu;simp only[xD]at hu;split at hb
    ·rename_i te hte;obtain⟨hw,hb⟩:=cA hb;have hw:=aB hw;simp only[Option.some.injEq,Prod.mk.injEq]at hb;obtain⟨hok,hout⟩:=hb;obtain⟨o1,o2,o3,o4⟩:=kind rfl hok;obtain⟨a,c,hv,hlc⟩:=dZ hh hx hlen (by intro s h;cases h);have hx':=hx;simp only[oA]at hx;obtain⟨h0,⟨b,n,C,cap,h1,h2,h3,h4,h5⟩|⟨h1,h2⟩⟩:=hx
     ·rw[h5]at hv;simp only[Value.slice.injEq]at hv;obtain⟨_,e1,e2⟩:=hv;subst e1;obtain⟨m',r1,r2,r3⟩:=fD (P:=P) (cap:=cap) true hlo hhi hmx rlo rhi rmx hform o1 o2 o3 o4 h3;subst h5;refine⟨_,tc,.slice (if m'=l.toNat then some ⟨b,0,none⟩else some ⟨b,0+l.toNat*te.size,none⟩) (h'.toNat-l.toNat) (m'-l.toNat),hout.symm,?_,?_⟩
      ·simp only[Instr.sliceAt,Instr.slice,hB,run_underlying hu,hA,iB,r1,(hty _ _ hte).sizeOf,hV,uF]
      ·simp only[oA];refine⟨h0,?_⟩;by_cases hml:m'=l.toNat
       ·right;exact⟨by omega,some ⟨b,0,none⟩,by simp only[hml,if_true,y1];congr 1;omega⟩
       ·left;have hn:n/s*s=n:=q0 (hU h2);refine⟨b,n,C,m'-l.toNat,h1,?_,by omega,?_,by simp only[if_neg hml,yB,hw,hP]⟩
        ·rw[yB];have h6:(h'.toNat-l.toNat)*s+l.toNat*s=h'.toNat*s:=by rw[←y0];congr 1;omega
         have h7:h'.toNat*s≤n/s*s:=hF _ (by omega);omega
        ·rw[yB];have h6:(m'-l.toNat)*s+l.toNat*s=m'*s:=by rw[←y0];congr 1;omega
         have h7:m'*s≤cap*s:=hF _ r3;omega
     ·subst h2;simp only[Value.slice.injEq]at hv;obtain⟨_,e1,e2⟩:=hv;subst e1;obtain⟨m',r1,r2,r3⟩:=fD (P:=P) (cap:=0) true hlo hhi hmx rlo rhi rmx hform o1 o2 o3 o4 (hD _);refine⟨_,tc,.slice none 0 0,hout.symm,?_,?_⟩
      ·have em:m'=0:=by omega
       have el:l.toNat=0:=by omega
       have eh:h'.toNat=0:=by omega
       simp only[Instr.sliceAt,Instr.slice,hB,run_underlying hu,hA,iB,r1,(hty _ _ hte).sizeOf,u4,em,el,eh];simp
      ·simp only[oA];exact⟨h0,.inr ⟨by omega,none,rfl⟩⟩
    ·cases hb
   ·
    rename_i e id s off len' htk;rw[htk]at hu;simp only[xD]at hu;split at hb
    ·rename_i te hte;obtain⟨hw,hb⟩:=cA hb;have hw:=aB hw;obtain⟨hok,hout⟩:=oD hb;obtain⟨o1,o2,o3,o4⟩:=kind rfl hok;simp only[rK,Option.some.injEq,Prod.mk.injEq]at hlen;obtain⟨rfl,_⟩:=hlen;simp only[oA]at hx;obtain⟨h0,⟨b,n,C,cap,h1,h2,h3,h4,h5⟩|⟨h1,a,h2⟩⟩:=hx
     ·obtain⟨m',r1,r2,r3⟩:=fD (P:=P) (cap:=cap) true hlo hhi hmx rlo rhi rmx hform o1 o2 o3 o4 h3;subst h5;refine⟨_,[],.slice (if m'=l.toNat then some ⟨b,off,none⟩else some ⟨b,off+l.toNat*te.size,none⟩) (h'.toNat-l.toNat) (m'-l.toNat),hout,?_,?_⟩
      ·simp only[Instr.sliceAt,Instr.slice,hB,run_underlying hu,hA,iB,r1,(hty _ _ hte).sizeOf,hV,uF]
      ·simp only[oA];refine⟨h0,?_⟩;by_cases hml:m'=l.toNat
       ·right;exact⟨by omega,some ⟨b,off,none⟩,by simp only[hml,if_true,y1];congr 1;omega⟩
       ·left;refine⟨b,n,C,m'-l.toNat,h1,?_,by omega,?_,by simp only[if_neg hml,yB,hw]⟩
        ·rw[yB];have h6:(h'.toNat-l.toNat)*s+l.toNat*s=h'.toNat*s:=by rw[←y0];congr 1;omega
         have h7:h'.toNat*s≤len'*s:=hF _ (by omega);omega
        ·rw[yB];have h6:(m'-l.toNat)*s+l.toNat*s=m'*s:=by rw[←y0];congr 1;omega
         have h7:m'*s≤cap*s:=hF _ r3;omega
     ·subst h1;subst h2;obtain⟨m',r1,r2,r3⟩:=fD (P:=P) (cap:=0) true hlo hhi hmx rlo rhi rmx hform o1 o2 o3 o4 (hD _);have em:m'=0:=by omega
      have el:l.toNat=0:=by omega
      have eh:h'.toNat=0:=by omega
      refine⟨_,[],.slice a 0 0,hout,?_,?_⟩
      ·simp only[Instr.sliceAt,Instr.slice,hB,run_underlying hu,hA,iB,r1,(hty _ _ hte).sizeOf,em,el,eh,if_true,y1]
      ·simp only[oA];exact⟨h0,.inr ⟨by omega,a,rfl⟩⟩
    ·cases hb
   ·
    rename_i e k s l0 htk;rw[htk]at hu;simp only[xD]at hu;split at hb
    ·rename_i te hte;obtain⟨hw,hb⟩:=cA hb;have hw:=aB hw;obtain⟨hok,hout⟩:=oD hb;obtain⟨o1,o2,o3,o4⟩:=kind rfl hok;simp only[rK,mE,Option.some.injEq,Prod.mk.injEq]at hlen;obtain⟨rfl,_⟩:=hlen;simp only[oA]at hx;obtain⟨h0,hmod,⟨h1,a,h2⟩|⟨b,o,cap,h2,h3,h4,h5,h6⟩⟩:=hx
     ·subst h1;subst h2;simp only[y2,Nat.zero_div]at*;obtain⟨m',r1,r2,r3⟩:=fD (P:=P) (cap:=0) true hlo hhi hmx rlo rhi rmx hform o1 o2 o3 o4 (hD _);have em:m'=0:=by omega
      have el:l.toNat=0:=by omega
      have eh:h'.toNat=0:=by omega
      refine⟨_,[],.slice a 0 0,hout,?_,?_⟩
      ·simp only[Instr.sliceAt,Instr.slice,hB,run_underlying hu,hA,iB,r1,(hty _ _ hte).sizeOf,em,el,eh,if_true,y1]
      ·simp only[oA];exact⟨h0,by simp,.inl ⟨by simp,a,rfl⟩⟩
     ·obtain⟨m',r1,r2,r3⟩:=fD (P:=P) (cap:=cap) true hlo hhi hmx rlo rhi rmx hform o1 o2 o3 o4 h3;subst h2;have hn:l0.length/s*s=l0.length:=q0 (hU hmod);have hl1:(h'.toNat-l.toNat)*s+l.toNat*s=h'.toNat*s:=by rw[←y0];congr 1;omega
      have hl2:h'.toNat*s≤l0.length/s*s:=hF _ (by omega);have hlen':((l0.drop (kG s l.toNat)).take (kG s (h'.toNat-l.toNat))).length=(h'.toNat-l.toNat)*s:=by simp only[yB,k4,k5];omega
      refine⟨_,[],.slice (if m'=l.toNat then some ⟨b,o,none⟩else some ⟨b,o+l.toNat*te.size,none⟩) (h'.toNat-l.toNat) (m'-l.toNat),hout,?_,?_⟩
      ·simp only[Instr.sliceAt,Instr.slice,hB,run_underlying hu,hA,iB,r1,(hty _ _ hte).sizeOf,hV,uF]
      ·simp only[oA];refine⟨h0,by rw[hlen'];exact x1 _ _,?_⟩;by_cases hml:m'=l.toNat
       ·left;have e0:h'.toNat-l.toNat=0:=by omega
        refine⟨hR.mp (by rw[hlen',e0];simp),some ⟨b,o,none⟩,by simp only[hml,if_true,y1];congr 1⟩
       ·right;refine⟨b,o+l.toNat*s,m'-l.toNat,by rw[hlen',dD h0,if_neg hml,hw],by rw[hlen',dD h0];omega,h4,h5,fun j hj=>?_⟩;rw[hlen']at hj;rw[x0,h6 (l.toNat*s+j) (by omega)];simp only[yB,iA,x2,if_pos hj,l1]
    ·cases hb
   ·
    rename_i e htk;rw[htk]at hu;simp only[xD]at hu;split at hb
    ·rename_i te hte;obtain⟨hok,hout⟩:=oD hb;obtain⟨o1,o2,o3,o4⟩:=kind rfl hok;simp only[rK,Option.some.injEq,Prod.mk.injEq]at hlen;obtain⟨rfl,_⟩:=hlen;have:=hx.c;subst this;obtain⟨m',r1,r2,r3⟩:=fD (P:=P) (cap:=0) true hlo hhi hmx rlo rhi rmx hform o1 o2 o3 o4 (hD _);have em:m'=0:=by omega
     have el:l.toNat=0:=by omega
     have eh:h'.toNat=0:=by omega
     refine⟨_,[],.slice none 0 0,hout,?_,oA.of_c _⟩;simp only[Instr.sliceAt,Instr.slice,hB,run_underlying hu,hA,iB,r1,(hty _ _ hte).sizeOf,em,el,eh,if_true,y1]
    ·cases hb
   ·cases hb
  ·cases hb
end
section
variable {P:Program}{F:Nat→Prop}{ρ:xC}{h:Nat→qA}{w:World}{nid:Nat}{ty:Nat→Option TI}{ev:Operand→V}{ae:Operand→Value}{out:oF}{M:Nat→Prop}
theorem pv (hh:kA F ρ h w){x:V}{vx:Value}{k:IntKind}{s:Nat}{l:List Int}{tc:List Nat}(hx:oA ρ (av F (fA ρ h)) w x vx)(hr:bT h x=some (k,s,l,tc)):
  0<s∧∃a len cap,vx= .slice a len cap∧l.length=len*s∧len≤cap∧(l=[]∨∃b o,a=some ⟨b,o,none⟩∧∀j,j<l.length→w.cell? ⟨b,o+j,none⟩=some (.int k (l.getD j 0))):=by
 unfold bT at hr;split at hr
 ·rename_i id s';split at hr
  ·rename_i k' l' hid;simp only[Option.some.injEq,Prod.mk.injEq]at hr;obtain⟨rfl,rfl,rfl,_⟩:=hr;obtain⟨h0,⟨b,n,C,cap,c,h1,h2,h3,h4,h5,ho,hsz,hold⟩|⟨h1,h2,hk⟩⟩:=fG hh hx (by rw[hid];trivial) (by rw[hid];trivial)
   ·rw[hid]at hold;obtain⟨e1,e2,e3⟩:=hold;have hn:n/s'*s'=n:=q0 (hU h2);exact⟨h0,_,_,_,h5,by omega,h3,.inr ⟨b,0,rfl,fun j hj=>by rw[hP,ho.cell];exact e3 j hj⟩⟩
   ·rw[hid]at hk;rcases hk with⟨k2,hk⟩|hk|⟨_,_,hk⟩<;>cases hk;exact⟨h0,_,_,_,h2,by simp,hD _,.inl rfl⟩
  ·cases hr
 ·rename_i id s' off len;split at hr
  ·rename_i k' l' hid;simp only[Option.some.injEq,Prod.mk.injEq]at hr;obtain⟨rfl,rfl,rfl,_⟩:=hr;simp only[oA]at hx;obtain⟨h0,⟨b,n,C,cap,h1,h2,h3,h4,h5⟩|⟨h1,a,h2⟩⟩:=hx
   ·obtain⟨c,ho,hsz,hold⟩:=hh.own (by rw[hid];trivial) (by rw[hid];trivial) h1;rw[hid]at hold;obtain⟨e1,e2,e3⟩:=hold;have hl:((l'.drop off).take (kG s' len)).length=len*s':=by simp only[yB,k4,k5];omega
    refine⟨h0,_,_,_,h5,hl,h3,.inr ⟨b,off,rfl,fun j hj=>?_⟩⟩;rw[hl]at hj;rw[ho.cell,e3 (off+j) (by omega)];simp only[yB,iA,x2,if_pos hj,l1]
   ·subst h1;refine⟨h0,a,0,0,h2,by simp[yB],hD _,.inl (by simp[yB])⟩
  ·cases hr
 ·rename_i k' s' l';simp only[Option.some.injEq,Prod.mk.injEq]at hr;obtain⟨rfl,rfl,rfl,_⟩:=hr;simp only[oA]at hx;obtain⟨h0,h1,⟨h2,a,h3⟩|⟨b,o,cap,h2,h3,_,_,h4⟩⟩:=hx
  ·exact⟨h0,a,0,0,h3,by rw[h2];simp,hD _,.inl h2⟩
  ·exact⟨h0,_,_,_,h2,(q0 (hU h1)).symm,h3,.inr ⟨b,o,rfl,h4⟩⟩
 ·cases hr
theorem O2 (hh:kA F ρ h w){x:V}{vx:Value}{s:Nat}{l:List V}{tc:List Nat}(hx:oA ρ (av F (fA ρ h)) w x vx)(hr:uu h x=some (s,l,tc)):
  0<s∧∃a len cap cs,vx= .slice a len cap∧l.length=len*s∧len≤cap∧mA ρ (av F (fA ρ h)) w l cs∧(l=[]∨∃b o,a=some ⟨b,o,none⟩∧∀j,j<l.length→w.cell? ⟨b,o+j,none⟩=cs[j]?):=by
 unfold uu at hr;split at hr
 ·rename_i id s';split at hr
  ·rename_i l' hid;simp only[Option.some.injEq,Prod.mk.injEq]at hr;obtain⟨rfl,rfl,_⟩:=hr;obtain⟨h0,⟨b,n,C,cap,c,h1,h2,h3,h4,h5,ho,hsz,hold⟩|⟨h1,h2,hk⟩⟩:=fG hh hx (by rw[hid];trivial) (by rw[hid];trivial)
   ·rw[hid]at hold;obtain⟨e1,e2,e3⟩:=hold;have hn:n/s'*s'=n:=q0 (hU h2);exact⟨h0,_,_,_,_,h5,by omega,h3,e3,.inr ⟨b,0,rfl,fun j hj=>by rw[hP,ho.cell];simp[x2,show j<n by omega]⟩⟩
   ·rw[hid]at hk;rcases hk with⟨k2,hk⟩|hk|⟨_,_,hk⟩<;>cases hk;exact⟨h0,_,_,_,[],h2,by simp,hD _,by simp[mA],.inl rfl⟩
  ·cases hr
 ·cases hr
theorem yH {a:Option Addr}{len cap s n:Nat}{vs:List Value}(hl:vs.length=n*s)(hc:vs=[]∨∃b o,a=some ⟨b,o,none⟩∧∀j,j<vs.length→w.cell? ⟨b,o+j,none⟩=vs[j]?)(hn:a=none→vs=[]):
  (Builtin.firstCells s n (.slice a len cap)).run P w= .ok vs.toArray w:=by
 cases a with
 |none=>rw[hn rfl];simp[Builtin.firstCells]
 |some a=>
  rcases hc with hc|⟨b,o,h1,h2⟩
  ·subst hc;simp only[y2]at hl;simp[Builtin.firstCells,loadCells,←hl,loadCellsFrom]
  ·simp only[Option.some.injEq]at h1;subst h1;have:=zH (P:=P) (w:=w) (b:=b) (o:=o) (n*s) 0 #[] vs hl (fun j hj=>by rw[hP];exact h2 j (by omega));simp only[Builtin.firstCells,loadCells,this];simp
theorem vY (k:IntKind)(l:List Int){j:Nat}(hj:j<l.length):(l.map (Value.int k))[j]?=some (.int k (l.getD j 0)):=by
 simp[iA,hj]
theorem dR (hh:kA F ρ h w){x:V}{vx:Value}{k:IntKind}{s:Nat}{l:List Int}{tc:List Nat}(hs:0<s)(hx:oA ρ (av F (fA ρ h)) w x vx)(hr:nG h k s x=some (l,tc)):
  ∃n,(Builtin.lenOf vx).run P w= .ok n w∧l.length=n*s∧∀n',n'≤n→(Builtin.firstCells s n' vx).run P w= .ok ((l.take (n'*s)).map (Value.int k)).toArray w:=by
 unfold nG at hr;split at hr
 ·simp only[Option.some.injEq,Prod.mk.injEq]at hr;obtain⟨rfl,_⟩:=hr;have:=hx.c;subst this;exact⟨0,by simp[Builtin.lenOf],by simp,fun n' hn'=>by simp[Builtin.firstCells]⟩
 ·rename_i b;obtain⟨hk,hr⟩:=cA hr;obtain⟨hk1,hk2⟩:=wA hk;have hk1:=yE hk1;have hk2:=aB hk2;simp only[Option.some.injEq,Prod.mk.injEq]at hr;obtain⟨rfl,_⟩:=hr;have:=hx.c;subst this;subst hk1;subst hk2;refine⟨b.size,by simp[Builtin.lenOf],by simp[bG],fun n' hn'=>?_⟩;simp only[Builtin.firstCells,iB,y4];congr 1;apply Array.ext';simp[bG,List.map_take];rfl
 ·split at hr
  ·rename_i k' s' l' t' hrow;obtain⟨hk,hr⟩:=cA hr;obtain⟨hk1,hk2⟩:=wA hk;have hk1:=yE hk1;have hk2:=aB hk2;simp only[Option.some.injEq,Prod.mk.injEq]at hr;obtain⟨rfl,_⟩:=hr;subst hk1;subst hk2;obtain⟨_,a,len,cap,rfl,h2,h3,h4⟩:=pv hh hx hrow;refine⟨len,by simp[Builtin.lenOf],h2,fun n' hn'=>?_⟩;have hle:n'*s'≤len*s':=hF _ hn';refine yH (by simp;omega) ?_ ?_
   ·rcases h4 with h4|⟨b,o,h4,h5⟩
    ·subst h4;left;simp
    ·right;refine⟨b,o,h4,fun j hj=>?_⟩;simp at hj;rw[h5 j (by omega),List.map_take,zE (by omega),vY k l' (by omega)]
   ·intro ha;rcases h4 with h4|⟨b,o,h4,h5⟩
    ·subst h4;simp
    ·rw[ha]at h4;cases h4
  ·cases hr
theorem aw {k:IntKind}:∀{cs:List V} {l:List Int} {vs:List Value},vF k cs=some l→mA ρ M w cs vs→vs=l.map (.int k)
 | [],l,[],h,_=>by simp[vF]at h;subst h;rfl
 | [],_,_::_,_,h=>by simp[mA]at h
 |_::_,_,[],_,h=>by simp[mA]at h
 |x::cs,l,v::vs,h,hr=>by
  simp only[mA]at hr;cases x with
  |c y=>
   cases y with
   |int k' n=>simp only[vF]at h;obtain⟨hk,h1⟩:=cA h;have hkk:=yE hk;subst hkk;simp only[hG]at h1;obtain⟨r,h2,rfl⟩:=h1;have:=hr.1.int;subst this;rw[aw h2 hr.2];rfl
   |_=>simp[vF]at h
  |_=>simp[vF]at h
theorem ou {ti:TI}{cs:List V}{b:qA}{c:Array Value}(hm:ot ti cs=some b)(hr:mA ρ M w cs c.toList):uC ρ M w cs.length c b:=by
 unfold ot at hm;have hlen:=hr.length;split at hm
 ·rename_i k hk;simp only[hG]at hm;obtain⟨l,h1,rfl⟩:=hm;have h2:=aw h1 hr;have h3:l.length=c.size:=by have:=congrArg List.length h2;simpa using this.symm
  refine⟨by simp at hlen;omega,by simp at hlen;omega,fun i hi=>?_⟩;have:c[i]?=(c.toList)[i]?:=by simp
  rw[this,h2];simp[iA,hi]
 ·simp only[Option.some.injEq]at hm;subst hm;refine⟨rfl,by simp at hlen;omega,?_⟩;rw[l3 (by omega)];exact hr
theorem pk (l:List V):∀n,(ah n l).length=n*l.length
 |0=>by simp[ah]
 |n+1=>by simp[ah,pk l n,s4,q6]
theorem ej {zero:Array Value}(hz:0<zero.size):∀n,((Array.range (n*zero.size)).map (zero[· %zero.size]!)).toList=(List.replicate n zero.toList).flatten
 |0=>by simp
 |n+1=>by
  have ih:=ej hz n;apply w0;intro j;rw[List.replicate_succ',List.flatten_append];simp only[List.flatten_cons,List.flatten_nil,List.append_nil];by_cases h1:j<n*zero.size
  ·rw[aE (by rw[←ih];simp;exact h1),←ih];simp[h1,show j<(n+1)*zero.size by rw[s4];omega]
  ·rw[hE (by rw[←ih];simp;omega),←ih];simp only[Array.toList_map,List.length_map,w4,Array.size_range];by_cases h2:j<(n+1)*zero.size
   ·have h3:j-n*zero.size<zero.size:=by rw[s4]at h2;omega
    have h4:j%zero.size=j-n*zero.size:=by
     have:j=(j-n*zero.size)+zero.size*n:=by rw[Nat.mul_comm zero.size n];omega
     rw[this,Nat.add_mul_mod_self_left,Nat.mod_eq_of_lt h3];have:zero.size*n=n*zero.size:=Nat.mul_comm _ _;omega
    simp only[hY];have:(Array.range ((n+1)*zero.size)).toList[j]?=some j:=by simp[h2]
    rw[this];simp[h4,h3]
   ·have h3:¬j-n*zero.size<zero.size:=by rw[s4]at h2;omega
    rw[p0 (by simp;omega),p0 (by simp;omega)]
theorem po {cs:List V}{vs:List Value}(hr:mA ρ M w cs vs):∀n,mA ρ M w (ah n cs) (List.replicate n vs).flatten
 |0=>by simp[ah,mA]
 |n+1=>by rw[List.replicate_succ,List.flatten_cons];exact hr.append (po hr n)
theorem cg {pl:Nat→Option (Nat×Nat)}:∀(ps:List (Nat×V)) (cs r:List V),bK pl cs ps=some r→r.length=cs.length
 | [],cs,r,h=>by simp[bK]at h;subst h;rfl
 |(i,v)::ps,cs,r,h=>by
  simp only[bK]at h;split at h
  ·cases h
  ·split at h
   ·rename_i vs hvs;obtain⟨hg,h⟩:=cA h;obtain⟨hg1,hg2⟩:=wA hg;have hpos:=aC hg2;have he:=aB hg1;split at h
    ·rename_i cs' hcs;obtain⟨h3,h4⟩:=nK hcs;have:=h4 (by rintro rfl;simp at he;omega);rw[cg ps cs' r h,h3];simp;omega
    ·cases h
   ·cases h
theorem j9 (hty:uD P ty)(hh:kA F ρ h w)(hn:ρ nid=none)(he:∀x,oA ρ (av F (fA ρ h)) w (ev x) (ae x)){t e len:Nat}{ti te:TI}{ps:Array (Nat×Operand)}{cs:List V}{b:qA}(ht:ty t=some ti)(htk:ti.tk= .slice e)(hte:ty e=some te)
  (hg:(Nat.ble (len*te.size) 16777216&&Nat.blt 0 te.size)=true)(hf:bK (fun i=>some (i*te.size,te.size)) (ah len (pG te)) (ps.toList.map fun p=>(p.1,ev p.2))=some cs)(hm:ot te cs=some b):
  rD F ρ h w nid {val:=.sw nid te.size,new:=[b]} ((do pure (.value (←Instr.buildSlice t len (ps.map fun(i,x)=>(i,ae x)))):Sem Next).run P w):=by
 have h0:=hty _ _ hte;have hu:=(hty _ _ ht).tk;rw[htk]at hu;simp only[xD]at hu;obtain⟨hg1,hg2⟩:=wA hg;have hle:=lE hg1;have hs:=aC hg2;obtain⟨z,z1,z2⟩:=h0.zeroValue (w:=w);have hzl:z.cells.size=te.size:=by have:=congrArg List.length z2;simp at this;rw[this,h0.zlen]
 generalize hzc:(if len*te.size=0 then #[]else z.cells)=zc;have hz:mA ρ (av F (fA ρ h)) w (ah len (pG te)) ((Array.range (len*te.size)).map (zc[· %zc.size]!)).toList:=by
  by_cases h0:len*te.size=0
  ·have hl0:len=0:=by
    rcases Nat.mul_eq_zero.mp h0 with h|h
    ·exact h
    ·omega
   subst hl0;simp[ah,mA]
  ·rw[if_neg h0]at hzc;subst hzc;rw[←hzl,ej (by omega),z2];exact po (mA.map_c _) len
 obtain⟨ys,c1,c2⟩:=vR (pl':=fun i=>some (i*te.size,te.size)) (fun i p hp=>hp) _ (ps.toList.map fun p=>(p.1,ae p.2)) _ _ _ hf hz (by simp) (gu he ps.toList);have hps:(ps.map fun(i,x)=>(i,ae x)).toList=ps.toList.map fun p=>(p.1,ae p.2):=by simp
 have hold:=ou hm c2;have hcl:cs.length=len*te.size:=by rw[cg _ _ _ hf,pk];simp[pG,h0.zlen]
 rw[hcl]at hold;refine rD.made (c:=ys) (e:=e) (fr:=(0,0)) (n:=len*te.size) (w':={w with heap:=w.heap.push (.cells ys e)}) hh hn (fun i _=>by dsimp only;omega) hold rfl (v:=.slice (some ⟨w.heap.size,0,none⟩) len len) ?_ ?_
 ·have hbig:¬(len*te.size>2^24):=by omega
  rw[←hps]at c1;by_cases hne:len*te.size=0
  ·rw[if_pos hne]at hzc;subst hzc;simp only[Instr.buildSlice,hB,run_underlying hu,hA,h0.sizeOf,if_neg hbig,if_pos hne,z1,iB,b5];simp only[c1,newRow,hB,run_newObj,hA,iB]
  ·rw[if_neg hne]at hzc;subst hzc;simp only[Instr.buildSlice,hB,run_underlying hu,hA,h0.sizeOf,if_neg hbig,if_neg hne,z1,iB,b5];simp only[c1,newRow,hB,run_newObj,hA,iB]
 ·intro ρ' M' w'' hp;simp only[oA];have hys:=c2.length;simp at hys;exact⟨hs,.inl ⟨_,_,_,len,hp,x1 _ _,by rw[dD hs];exact hD _,by omega,by rw[dD hs]⟩⟩
theorem Px {n:Int}(h0:0≤n)(h1:n≤9223372036854775807):IntKind.i64.wrap n=n:=by
 have e0:(2:Int)^IntKind.i64.bits=18446744073709551616:=by decide
 have eb:(2:Int)^(IntKind.i64.bits-1)=9223372036854775808:=by decide
 have e:n%2^IntKind.i64.bits=n:=Int.emod_eq_of_lt h0 (by rw[e0];omega);unfold IntKind.wrap;simp only[e];rw[if_neg];simp only[hL,decide_eq_true_eq,not_and];intro _;rw[eb];omega
theorem Ar {ti:TI}{k:IntKind}(hh:dQ ti=some k)(hz:ti.zero.all (fun| .int _ z=>z==0|_=>false)=true):∀v∈ti.zero,v= .int k 0:=by
 unfold dQ at hh;split at hh
 ·rename_i k0 n0 r hr;obtain⟨h1,h2⟩:=cA hh;simp only[Option.some.injEq]at h2;subst h2;intro v hv;have hv0:=c4.mp hz v hv;rw[hr]at hv;rcases k6.mp hv with rfl|hv
  ·simp at hv0;rw[hv0]
  ·have:=c4.mp h1 v hv;cases v with
   |int k' n'=>simp only at this hv0;have hk:=yE this;simp at hv0;rw[hk,hv0]
   |_=>simp at hv0
 ·cases hh
theorem hZ (hty:uD P ty)(hh:kA F ρ h w)(hn:ρ nid=none){t e:Nat}{ti te:TI}{n m:Int}{v0:Value}{x:qA}(ht:ty t=some ti)(htk:ti.tk= .slice e)(hte:ty e=some te)(hs:0<te.size)(hz:∀v∈te.zero,v=v0)
  (hx:∀c:Array Value,c.size=n.toNat*te.size→(∀j,j<n.toNat*te.size→c[j]?=some v0)→uC ρ (av F (fA ρ h)) w (n.toNat*te.size) c x)
  (hg:(decide (n=m)&&decide (0≤n)&&decide (n≤9223372036854775807)&&cB n.toNat te.bytes)=true):
  rD F ρ h w nid {val:=.sw nid te.size,new:=[x]} ((do pure (.value (←Instr.makeSlice t (.int .i64 n) (.int .i64 m))):Sem Next).run P w):=by
 have h0:=hty _ _ hte;have hu:=(hty _ _ ht).tk;rw[htk]at hu;simp only[xD]at hu;obtain⟨o1,o2,o3,o4⟩:=cU hg;simp only[decide_eq_true_eq,cB]at o1 o2 o3 o4;subst o1;obtain⟨z,z1,z2⟩:=h0.zeroValue (w:=w);obtain⟨inf,i1,i2,i3⟩:=h0.typeInfo (w:=w);have hzl:z.cells.size=te.size:=by have:=congrArg List.length z2;simp at this;rw[this,h0.zlen]
 have hw:=Px o2 o3;have hsmall:¬(decide (n<0)||decide ((te.bytes:Int)*n>2^48))=true:=by
  have h1:¬n<0:=by omega
  have h2:(te.bytes:Int)*n≤70368744177664:=by have:((n.toNat*te.bytes:Nat):Int)≤70368744177664:=Int.ofNat_le.mpr o4;rw[Int.natCast_mul,Int.toNat_of_nonneg o2,Int.mul_comm]at this;exact this
  simp only[Bool.or_eq_true,decide_eq_true_eq,not_or];exact⟨h1,by omega⟩
 have hcells:∀j,j<n.toNat*te.size→(((Array.range (n.toNat*te.size)).map (z.cells[· %z.cells.size]!)))[j]?=some v0:=by
  intro j hj;have hlt:j%z.cells.size<z.cells.size:=Nat.mod_lt _ (by omega);have hmem:z.cells[j%z.cells.size]∈te.zero:=by rw[←z2];exact n4.mpr (Array.getElem_mem hlt)
  have:=hz _ hmem;have e1:(Array.range (n.toNat*te.size))[j]?=some j:=by simp[hj]
  rw[Array.getElem?_map,e1];simp only[hV];rw[getElem!_pos z.cells (j%z.cells.size) hlt,this]
 refine rD.made (c:=(Array.range (n.toNat*te.size)).map (z.cells[· %z.cells.size]!)) (e:=e) (fr:=(0,0)) (n:=n.toNat*te.size) (w':={w with heap:=w.heap.push (.cells ((Array.range (n.toNat*te.size)).map (z.cells[· %z.cells.size]!)) e)}) hh hn (fun i _=>by dsimp only;omega) ?_ rfl (v:=.slice (some ⟨w.heap.size,0,none⟩) n.toNat n.toNat) ?_ ?_
 ·exact hx _ (by rw[Array.size_map,Array.size_range]) hcells
 ·have hor:¬((decide (n<0)||decide ((te.bytes:Int)*n>2^48))||decide (n<0)||decide (n>n))=true:=by
   simp only[Bool.or_eq_true,decide_eq_true_eq,not_or]at hsmall⊢;omega
  simp only[Instr.makeSlice,hB,run_underlying hu,hA,asInt,asIntOf,iB,i1,i2,hw,if_neg hor,run_askRoom,h0.sizeOf,newRow,run_newObj,b5];by_cases hz0:n.toNat*te.size=0
  ·have he:∀f:Nat→Value,(Array.range (n.toNat*te.size)).map f= #[]:=by intro f;rw[hz0];simp
   rw[if_pos hz0,he,he];rfl
  ·rw[if_neg hz0,z1];rfl
 ·intro ρ' M' w'' hp;simp only[oA];refine⟨hs,.inl ⟨_,_,_,n.toNat,hp,x1 _ _,by rw[dD hs];exact hD _,by simp,by rw[dD hs]⟩⟩
theorem ja (hty:uD P ty)(hh:kA F ρ h w)(hn:ρ nid=none){t e:Nat}{ti te:TI}{n m:Int}{k:IntKind}(ht:ty t=some ti)(htk:ti.tk= .slice e)(hte:ty e=some te)(hk:dQ te=some k)(hz:te.zero.all (fun| .int _ z=>z==0|_=>false)=true)
  (hg:(decide (n=m)&&decide (0≤n)&&decide (n≤9223372036854775807)&&cB n.toNat te.bytes)=true):
  rD F ρ h w nid {val:=.sw nid te.size,new:=[.ints k (List.replicate (kG te.size n.toNat) 0)]} ((do pure (.value (←Instr.makeSlice t (.int .i64 n) (.int .i64 m))):Sem Next).run P w):=by
 have hs:0<te.size:=by
  rw[←(hty _ _ hte).zlen];unfold dQ at hk;split at hk
  ·rename_i hr;rw[hr];simp
  ·cases hk
 refine hZ hty hh hn ht htk hte hs (Ar hk hz) (fun c hc hj=>⟨by rw[s3,yB],by omega,fun i hi=>?_⟩) hg;simp only[yB,s3]at hi;rw[hj i hi];simp[yB,iA,s5,hi]
theorem iz (hty:uD P ty)(hh:kA F ρ h w)(hn:ρ nid=none){t e:Nat}{ti te:TI}{n m:Int}(ht:ty t=some ti)(htk:ti.tk= .slice e)(hte:ty e=some te)(hz:te.zero=[.bool false])(hs:te.size=1)
  (hg:(decide (n=m)&&decide (0≤n)&&decide (n≤9223372036854775807)&&cB n.toNat te.bytes)=true):
  rD F ρ h w nid {val:=.sw nid 1,new:=[.bls (List.replicate n.toNat false)]} ((do pure (.value (←Instr.makeSlice t (.int .i64 n) (.int .i64 m))):Sem Next).run P w):=by
 have:=hZ (x:=.bls (List.replicate n.toNat false)) hty hh hn ht htk hte (by omega) (v0:=.bool false) (by rw[hz];simp) (fun c hc hj=>⟨by rw[s3,hs,y4],by omega,fun i hi=>?_⟩) hg
 ·rw[hs]at this;exact this
 ·simp only[s3]at hi;rw[hj i (by rw[hs,y4];exact hi)];simp[iA,s5,hi]
end
section
variable {P:Program}{F:Nat→Prop}{ρ:xC}{h:Nat→qA}{w:World}{nid:Nat}{ty:Nat→Option TI}{ev:Operand→V}{ae:Operand→Value}{out:oF}{M:Nat→Prop}{ts:Array TypeId}{e:Nat}{te:TI}
theorem ct (newLen:Nat):∀(r c:Nat),c≤2*newLen→256≤newLen→Builtin.growBy newLen r c≤2*newLen
 |0,c,h,_=>by simpa[Builtin.growBy]using h
 |r+1,c,h,h2=>by
  simp only[Builtin.growBy];split
  ·exact h
  ·exact ct newLen r _ (by omega) h2
theorem ug {need cap:Nat}(h:cap<need):Builtin.nextslicecap need cap≤2*need:=by
 unfold Builtin.nextslicecap;split
 ·omega
 ·split
  ·omega
  ·exact ct need 4 cap (by omega) (by omega)
theorem F3 {n b:Nat}(h:cB n b=true):n*b≤70368744177664:=by simpa[cB]using h
theorem Cu (need old:Nat)(e:TypeId)(t:Nat):need≤Question.cut (.appendCap need old e) t:=by simp[Question.cut]
theorem uC.grow_ints {n m:Nat}{c c':Array Value}{k:IntKind}{l src:List Int}(hx:uC ρ M w n c (.ints k l))(hl:src.length=m)(hs:n+m≤c'.size)(h1:∀j,j<n→c'[j]?=c[j]?)(h2:∀j,j<m→c'[n+j]?=some (.int k (src.getD j 0))):
  uC ρ M w (n+m) c' (.ints k (l++src)):=by
 obtain⟨a1,a2,a3⟩:=hx;refine⟨by simp;omega,hs,fun i hi=>?_⟩;simp at hi;by_cases h:i<n
 ·rw[h1 i h,a3 i (by omega)];simp[iA,aE (show i<l.length by omega)]
 ·have e:i=n+(i-n):=by omega
  rw[e,h2 (i-n) (by omega)];simp[iA,hE (show l.length≤n+(i-n) by omega),a1]
theorem uC.grow_vals {n m:Nat}{c c':Array Value}{l src:List V}{us:List Value}(hx:uC ρ M w n c (.vals l))(hr:mA ρ M w src us)(hl:us.length=m)(hs:n+m≤c'.size)(h1:∀j,j<n→c'[j]?=c[j]?)(h2:∀j,j<m→c'[n+j]?=us[j]?):
  uC ρ M w (n+m) c' (.vals (l++src)):=by
 obtain⟨a1,a2,a3⟩:=hx;have hlen:=hr.length;refine⟨by simp;omega,hs,?_⟩;have e:c'.toList.take (n+m)=c.toList.take n++us:=by
  apply w0;intro j;by_cases hj:j<n+m
  ·rw[zE hj,o0];by_cases h:j<n
   ·rw[h1 j h,aE (by simp;omega),zE h,o0]
   ·have e:j=n+(j-n):=by omega
    rw[e,h2 (j-n) (by omega),hE (by simp;omega)];congr 1;simp;omega
  ·rw[p0 (by simp;omega),p0 (by simp;omega)]
 rw[e];exact a3.append hr
theorem vI {t e t2:Nat}{te:TI}{ts:Array TypeId}(t':TypeId){d2:TypeDesc}(hu:P.underlying t=some (.slice e))(h0:kC P e te)(hts0:ts[0]?=some t)(hts1:ts[1]?=some t2)(hd2:P.underlying t2=some d2)(hd2i:(∃x,d2= .slice x)∨d2= .string)
  {base:Option Addr}{n cap m:Nat}{vx:Value}{us:List Value}(hlen:(Builtin.lenOf vx).run P w= .ok m w)(hcells:(Builtin.firstCells te.size m vx).run P w= .ok us.toArray w)(hle:n+m≤cap):
  (l2 ts t' #[.slice base n cap,vx]).run P w=match base with
   |some a=>((storeCells (a.add (n*te.size)) us).run P w).andThen fun _ w'=>.ok (.slice base (n+m) cap) w'
   |none=>.ok (.slice base (n+m) cap) w:=by
 have hz:((underlying t2).run P w)= .ok d2 w:=run_underlying hd2 w;rcases hd2i with⟨y,rfl⟩|rfl<;>
  (simp only[l2,hts0,hts1,hW,iX,hX,hB,run_underlying hu,run_underlying hd2,hA,h0.sizeOf,iB,hlen,hI,if_false,if_pos hle,hcells,Bool.not_false,if_true]
   cases base<;>simp[hcells])
theorem s8 (zero:Array Value)(n:Nat):(Builtin.zeroCells zero n).size=n*zero.size:=by simp[Builtin.zeroCells]
theorem zG {t e t2:Nat}{te:TI}{ts:Array TypeId}(t':TypeId){d2:TypeDesc}(hu:P.underlying t=some (.slice e))(h0:kC P e te)(hts0:ts[0]?=some t)(hts1:ts[1]?=some t2)(hd2:P.underlying t2=some d2)(hd2i:(∃x,d2= .slice x)∨d2= .string)(hb:0<te.bytes)
  {base:Option Addr}{n cap m:Nat}{vx:Value}{us os:List Value}(hlen:(Builtin.lenOf vx).run P w= .ok m w)(hcells:∀w':World,w'.heap=w.heap→(Builtin.firstCells te.size m vx).run P w'= .ok us.toArray w')
  (hold:∀w':World,w'.heap=w.heap→(Builtin.firstCells te.size n (.slice base n cap)).run P w'= .ok os.toArray w')(hlt:cap<n+m)(hroom:cB (n+m) te.bytes=true):
  ∃newCap w' zs,n+m≤newCap∧zs.size=(newCap- (n+m))*te.size∧(w'.heap=w.heap.push (.cells (os.toArray++us.toArray++zs) e)∧sG w w')∧
   (l2 ts t' #[.slice base n cap,vx]).run P w= .ok (.slice (some ⟨w.heap.size,0,none⟩) (n+m) newCap) w':=by
 have hz:((underlying t2).run P w)= .ok d2 w:=run_underlying hd2 w;obtain⟨inf,i1,i2,i3⟩:=h0.typeInfo (w:=w);have hr:=F3 hroom;have hnle:¬(n+m≤cap):=by omega
 have hb1:inf.bytes=te.bytes:=i2;have hsm:n+m≤70368744177664:=by have:(n+m)*1≤(n+m)*te.bytes:=Nat.mul_le_mul_left _ hb;omega
 have hnc:=ug (show cap<n+m by omega);have hncb:¬(Builtin.nextslicecap (n+m) cap*te.bytes>2^48):=by have h1:Builtin.nextslicecap (n+m) cap*te.bytes≤2*(n+m)*te.bytes:=hF _ hnc;have h2:2*(n+m)*te.bytes=2*((n+m)*te.bytes):=Nat.mul_assoc _ _ _;omega
 let w1:World:={w with drawn:=w.drawn+1}
 let nc:=Question.cut (.appendCap (n+m) cap e) (w.tape w.drawn (.appendCap (n+m) cap e))
 obtain⟨z,z1,z2⟩:=h0.zeroValue (w:=w1);obtain⟨inf1,j1,j2,j3⟩:=h0.typeInfo (w:=w1);have hzl:z.cells.size=te.size:=by have:=congrArg List.length z2;simp at this;rw[this,h0.zlen]
 have hch:(choose (.appendCap (n+m) cap e)).run P w= .ok nc w1:=by simp[run_choose,Question.forced,nc,w1]
 have hmx:¬(((n+m:Nat):Int)>IntKind.i64.max∧(false=true∨inf.bytes=0)):=by
  rintro⟨h1,h2|h2⟩
  ·cases h2
  ·omega
 refine⟨nc,{w1 with heap:=w1.heap.push (.cells (os.toArray++us.toArray++Builtin.zeroCells z.cells (nc- (n+m))) e)},Builtin.zeroCells z.cells (nc- (n+m)),Cu _ _ _ _,by rw[s8,hzl],⟨rfl,⟨rfl,rfl,rfl,a7 _⟩⟩,?_⟩;have ho:=hold w1 rfl;have hc:=hcells w1 rfl;have hncb':¬(Builtin.nextslicecap (n+m) cap*inf.bytes>2^48):=by rw[hb1];exact hncb
 have hmx':¬(((n+m:Nat):Int)>IntKind.i64.max∧inf.bytes=0):=by rintro⟨_,h2⟩;omega
 rcases hd2i with⟨y,rfl⟩|rfl<;>
  (simp only[l2,hts0,hts1,hW,iX,hX,hB,run_underlying hu,run_underlying hd2,hA,h0.sizeOf,iB,hlen,hI,if_false,if_neg hnle,hcells,Bool.not_false,if_true,i1,b5,if_neg hncb',hch,run_askRoom,ho,hc,z1,j1,newRow,run_newObj,false_or]
   rw[if_neg hmx'])
theorem qG.heq {M:Nat→Prop}{w':World}(he:w'.heap=w.heap)(hk:sG w w'):qG M w M w':=⟨by rw[he];exact hD _,fun b _ _=>by rw[he],fun b h=>.inl h,hk⟩
theorem kA.heq {w':World}(he:w'.heap=w.heap)(hh:kA F ρ h w):kA F ρ h w':=
 ⟨hh.wf,fun id hl=>by obtain⟨p,h1,h2⟩:=hh.rel id hl;exact⟨p,h1,jB.world he h2⟩,hh.inj,fun b hb=>by rw[he];exact hh.low b hb,hh.out⟩
theorem dW (hh:kA F ρ h w){x:V}{vx:Value}{k:IntKind}{s:Nat}{l:List Int}{tc:List Nat}(hs:0<s)(hx:oA ρ (av F (fA ρ h)) w x vx)(hr:nG h k s x=some (l,tc)):
  ∃n,(Builtin.lenOf vx).run P w= .ok n w∧l.length=n*s∧∀w':World,w'.heap=w.heap→(Builtin.firstCells s n vx).run P w'= .ok (l.map (Value.int k)).toArray w':=by
 obtain⟨n,h1,h2,_⟩:=dR (P:=P) hh hs hx hr;refine⟨n,h1,h2,fun w' he=>?_⟩;obtain⟨n2,h3,h4,h5⟩:=dR (P:=P) (hh.heq he) hs (oA.world he _ _ hx) hr;have:n2=n:=Nat.eq_of_mul_eq_mul_right hs (by omega);subst this;have:=h5 n2 (hD _);rwa[l3 (by omega)]at this
theorem qf (hh:kA F ρ h w){x:V}{vx:Value}{s:Nat}{l:List V}{tc:List Nat}(hs:0<s)(hx:oA ρ (av F (fA ρ h)) w x vx)(hr:kL h s x=some (l,tc)):
  ∃n cs,(Builtin.lenOf vx).run P w= .ok n w∧l.length=n*s∧mA ρ (av F (fA ρ h)) w l cs∧(∀v∈cs,v.oneCell'=true)∧∀w':World,w'.heap=w.heap→(Builtin.firstCells s n vx).run P w'= .ok cs.toArray w':=by
 unfold kL at hr;split at hr
 ·simp only[Option.some.injEq,Prod.mk.injEq]at hr;obtain⟨rfl,_⟩:=hr;have:=hx.c;subst this;exact⟨0,[],by simp[Builtin.lenOf],by simp,by simp[mA],by simp,fun w' _=>by simp[Builtin.firstCells]⟩
 ·split at hr
  ·rename_i s' l' t' hrow;obtain⟨hk,hr⟩:=cA hr;obtain⟨hk1,hk2⟩:=wA hk;have hk1:=aB hk1;simp only[Option.some.injEq,Prod.mk.injEq]at hr;obtain⟨rfl,_⟩:=hr;subst hk1;obtain⟨_,a,len,cap,cs,rfl,h2,h3,h4,h5⟩:=O2 hh hx hrow;have hlen:=h4.length;refine⟨len,cs,by simp[Builtin.lenOf],h2,h4,mA.oneCell h4 hk2,fun w' he=>yH (by omega) ?_ ?_⟩
   ·rcases h5 with h5|⟨b,o,h5,h6⟩
    ·left;subst h5;simp at hlen;exact hR.mp hlen.symm
    ·right;exact⟨b,o,h5,fun j hj=>by rw[zC (w:=w) (w':=w') (by rw[he])];exact h6 j (by omega)⟩
   ·intro ha;rcases h5 with h5|⟨b,o,h5,h6⟩
    ·subst h5;simp at hlen;exact hR.mp hlen.symm
    ·rw[ha]at h5;cases h5
  ·cases hr
structure Qc (P:Program)(w:World)(s m:Nat)(vx:Value)(us:List Value):Prop where
 len:(Builtin.lenOf vx).run P w= .ok m w
 size:us.length=m*s
 one:∀v∈us,v.oneCell'=true
 cells:∀w':World,w'.heap=w.heap→(Builtin.firstCells s m vx).run P w'= .ok us.toArray w'
structure A3 (P:Program)(ts:Array TypeId)(e:Nat)(te:TI):Prop where
 t:∃t,ts[0]?=some t∧P.underlying t=some (.slice e)
 t2:∃t2 d2,ts[1]?=some t2∧P.underlying t2=some d2∧((∃x,d2= .slice x)∨d2= .string)
 e:kC P e te
 bytes:0<te.bytes
 size:0<te.size
theorem uX (ht:A3 P ts e te)(t':TypeId)(hh:kA F ρ h w)(hn:ρ nid=none){vx:Value}{m:Nat}{us:List Value}(hs:Qc P w te.size m vx us)(hroom:cB m te.bytes=true){x:qA}
  (hx0:us=[]→(∃k,x= .ints k [])∨x= .vals []∨(∃_ _:Nat,x= .bls []))(hx:∀c:Array Value,us.length≤c.size→(∀j,j<us.length→c[j]?=us[j]?)→uC ρ (av F (fA ρ h)) w us.length c x):
  ∃v w' ρ',(l2 ts t' #[.slice none 0 0,vx]).run P w= .ok v w'∧vL ρ ρ'∧(∀id,id≠nid→ρ' id=ρ id)∧kA F ρ' (nB h nid x) w'∧oA ρ' (av F (fA ρ' (nB h nid x))) w' (.sw nid te.size) v∧qG (fA ρ h) w (fA ρ' (nB h nid x)) w':=by
 obtain⟨t,ts0,hu⟩:=ht.t;obtain⟨t2,d2,ts1,hd2,hd2i⟩:=ht.t2;by_cases hm:m=0
 ·subst hm;have husz:=hs.size;simp at husz;have:=vI (P:=P) (w:=w) t' hu ht.e ts0 ts1 hd2 hd2i (base:=none) (n:=0) (cap:=0) hs.len (hs.cells w rfl) (by omega);obtain⟨h1,h2⟩:=kA.virtual hh hn (hx0 husz);refine⟨_,w,_,this,pE hn,fun id hid=>by simp[iC,hid],h1,?_,h2⟩;simp only[oA];exact⟨ht.size,.inr ⟨by simp[iC],by first|trivial|rfl⟩⟩
 ·obtain⟨nc,w',zs,r1,r2,r3,r4⟩:=zG (P:=P) (w:=w) t' hu ht.e ts0 ts1 hd2 hd2i ht.bytes (base:=none) (n:=0) (cap:=0) (os:=[]) hs.len hs.cells (fun w' _=>by simp[Builtin.firstCells]) (by omega) (by simpa using hroom);have hus:=hs.size;have hsz:(([]:List Value).toArray++us.toArray++zs:Array Value).size=nc*te.size:=by
   simp only[Array.size_append,c5,y2,hus,r2,hP,←y0];congr 1;omega
  have hle:m*te.size≤nc*te.size:=hF _ (by omega);obtain⟨q1,q2⟩:=kA.alloc (fr:=(0,0)) hh hn (fun i _=>by dsimp only;omega) (hx (([]:List Value).toArray++us.toArray++zs) (by rw[hsz];omega) (fun j hj=>by
   have e0:(([]:List Value).toArray++us.toArray++zs:Array Value)=us.toArray++zs:=by simp
   rw[e0,n1 (by simpa using hj)];simp)) r3.2 r3.1
  refine⟨_,w',_,r4,pE hn,fun id hid=>by simp[iC,hid],q1,?_,q2⟩;simp only[oA];refine⟨ht.size,.inl ⟨w.heap.size,us.length,(([]:List Value).toArray++us.toArray++zs:Array Value).size,nc,by simp only[iC,if_true],by rw[hus];exact x1 _ _,by rw[hus,dD ht.size];omega,by rw[hsz];exact hD _,?_⟩⟩;rw[hus,dD ht.size,hP]
theorem qz (ht:A3 P ts e te)(t':TypeId)(hh:kA F ρ h w)(hn:ρ nid=none){vx:Value}{m:Nat}{us:List Value}(hs:Qc P w te.size m vx us){id b n C cap:Nat}{c:Array Value}(hl:(h id).live)(hp:ρ id=some ⟨some b,n,C⟩)
  (hmod:n%te.size=0)(hcap:n/te.size≤cap)(hC:cap*te.size≤C)(ho:lb w b C c)(hcC:c.size=C)(hnC:n≤C)(hroom:cB (n/te.size+m) te.bytes=true){x:qA}
  (hx:∀c':Array Value,n+us.length≤c'.size→(∀j,j<n→c'[j]?=c[j]?)→(∀j,j<us.length→c'[n+j]?=us[j]?)→uC ρ (av F (fA ρ h)) w (n+us.length) c' x):
  ∃v w' ρ',(l2 ts t' #[.slice (some ⟨b,0,none⟩) (n/te.size) cap,vx]).run P w= .ok v w'∧vL ρ ρ'∧(∀id,id≠nid→ρ' id=ρ id)∧kA F ρ' (nB (nB h id .dead) nid x) w'∧oA ρ' (av F (fA ρ' (nB (nB h id .dead) nid x))) w' (.sw nid te.size) v∧qG (fA ρ h) w (fA ρ' (nB (nB h id .dead) nid x)) w':=by
 obtain⟨t,ts0,hu⟩:=ht.t;obtain⟨t2,d2,ts1,hd2,hd2i⟩:=ht.t2;have hns:n/te.size*te.size=n:=q0 (hU hmod);have hus:=hs.size;have hsum:(n/te.size+m)*te.size=n+us.length:=by rw[y0,hns,hus]
 have hdiv:(n+us.length)/te.size=n/te.size+m:=by rw[←hsum,dD ht.size]
 by_cases hle:n/te.size+m≤cap
 ·have h1:=vI (P:=P) (w:=w) t' hu ht.e ts0 ts1 hd2 hd2i (base:=some ⟨b,0,none⟩) (n:=n/te.size) (cap:=cap) hs.len (hs.cells w rfl) hle;have hroomC:n+us.length≤C:=by
   have:(n/te.size+m)*te.size≤cap*te.size:=hF _ hle;omega
  obtain⟨w',c',r1,r2,r3,r4,r5,r6⟩:=eG (P:=P) (b:=b) us w n 0 C c ho (by omega) hs.one;subst hcC;rw[←r5]at r4 hp;obtain⟨q1,q2⟩:=kA.retake hh hn hl hp r2 r3 r4 (hx c' (by omega) (fun j hj=>by rw[r6 j,if_neg (by omega)]) (fun j hj=>by rw[r6 (n+j),if_pos (by omega)];congr 1;omega));refine⟨.slice (some ⟨b,0,none⟩) (n/te.size+m) cap,w',iC ρ nid ⟨some b,n+us.length,c'.size⟩,?_,pE hn,fun id hid=>by simp[iC,hid],q1,?_,q2⟩
  ·rw[h1];simp only[uF,hP,hns,r1,hA]
  ·simp only[oA];refine⟨ht.size,.inl ⟨b,n+us.length,c'.size,cap,by simp only[iC,if_true],by rw[←hsum];exact x1 _ _,by rw[hdiv];exact hle,by omega,by rw[hdiv]⟩⟩
 ·have hos:∀w':World,w'.heap=w.heap→(Builtin.firstCells te.size (n/te.size) (.slice (some ⟨b,0,none⟩) (n/te.size) cap)).run P w'= .ok (c.toList.take n).toArray w':=by
   intro w' he;refine yH (by simp;omega) (.inr ⟨b,0,rfl,fun j hj=>?_⟩) (fun h=>by cases h);rw[zC (w:=w) (w':=w') (by rw[he]),hP,ho.cell];simp at hj;rw[zE (by omega)];simp
  obtain⟨nc,w',zs,r1,r2,r3,r4⟩:=zG (P:=P) (w:=w) t' hu ht.e ts0 ts1 hd2 hd2i ht.bytes (base:=some ⟨b,0,none⟩) (n:=n/te.size) (cap:=cap) hs.len hs.cells hos (by omega) hroom;have hsz:((c.toList.take n).toArray++us.toArray++zs:Array Value).size=nc*te.size:=by
   have h1:(c.toList.take n).length=n:=by simp;omega
   have h2:(nc- (n/te.size+m))*te.size+(n/te.size+m)*te.size=nc*te.size:=by rw[←y0];congr 1;omega
   simp only[Array.size_append,c5,h1,r2];omega
  have hle2:n+us.length≤nc*te.size:=by rw[←hsum];exact hF _ r1
  obtain⟨k1,k2⟩:=hh.kill id;have hx':=hx ((c.toList.take n).toArray++us.toArray++zs) (by rw[hsz];exact hle2) (fun j hj=>by
    rw[Array.append_assoc,n1 (by simp;omega)];simp[zE hj]) (fun j hj=>by
    have h1:(c.toList.take n).length=n:=by simp;omega
    rw[Array.append_assoc,Array.getElem?_append_right (by simp;omega),n1 (by simp;omega)];simp only[c5,h1,hW];congr 1;omega)
  obtain⟨q1,q2⟩:=kA.alloc (fr:=(0,0)) k1 hn (fun i _=>by dsimp only;omega) (hx'.mono (vL.refl _) k2) r3.2 r3.1;refine⟨_,w',_,r4,pE hn,fun id hid=>by simp[iC,hid],q1,?_,k2.trans q2⟩;simp only[oA];refine⟨ht.size,.inl ⟨w.heap.size,n+us.length,((c.toList.take n).toArray++us.toArray++zs:Array Value).size,nc,by simp only[iC,if_true],by rw[←hsum];exact x1 _ _,by rw[hdiv];exact r1,by rw[hsz];exact hD _,by rw[hdiv]⟩⟩
end
section
variable {P:Program}{F:Nat→Prop}{ρ:xC}{h:Nat→qA}{w:World}{nid:Nat}{ty:Nat→Option TI}{ev:Operand→V}{ae:Operand→Value}{out:oF}{M:Nat→Prop}{ts:Array TypeId}{e:Nat}{te:TI}
theorem gR {k:IntKind}(l:List Int):∀v∈l.map (Value.int k),v.oneCell'=true:=by
 intro v hv;obtain⟨n,_,rfl⟩:=u3.mp hv;rfl
theorem uU {id:Nat}{x:qA}(he:h id=x):nB h id x=h:=by
 funext j;unfold nB;split
 ·rename_i e;rw[e,he]
 ·rfl
theorem N9 (hty:uD P ty)(hh:kA F ρ h w){t:Nat}(hts0:ts[0]?=some t)(hu:P.underlying t=some (.slice e))(hte:ty e=some te)(t':TypeId){k:IntKind}(hk:dQ te=some k){src:List Int}{tc:List Nat}{x:V}{vx vd:Value}{id:Nat}{l:List Int}
  (hs:nG h k te.size x=some (src,tc))(hx:oA ρ (av F (fA ρ h)) w x vx)(hd:oA ρ (av F (fA ρ h)) w (.sw id te.size) vd)(hid:h id= .ints k l){tc':List Nat}:
  rD F ρ h w nid {val:=.c (.int .i64 ((min (gE te.size src.length) (gE te.size l.length):Nat):Int)),wr:=[(id,.ints k (lF l 0 (src.take (kG te.size (min (gE te.size src.length) (gE te.size l.length))))))],touch:=tc'}
   ((do pure (.value (←c6 ts t' #[vd,vx])):Sem Next).run P w):=by
 have h0:=hty _ _ hte;have hpos:0<te.size:=by
  rw[←h0.zlen];unfold dQ at hk;split at hk
  ·rename_i hr;rw[hr];simp
  ·cases hk
 obtain⟨m,m1,m2,m3⟩:=dR (P:=P) hh hpos hx hs;have hcm:gE te.size src.length=m:=by rw[mE,m2,dD hpos]
 obtain⟨_,⟨b,n,C,cap,c,h1,h2,h3,h4,h5,ho,hsz,hold⟩|⟨h1,h2,hk2⟩⟩:=fG hh hd (by rw[hid];trivial) (by rw[hid];trivial)
 ·rw[hid]at hold;obtain⟨a1,a2,a3⟩:=hold;have hns:n/te.size*te.size=n:=q0 (hU h2);have hcn:gE te.size l.length=n/te.size:=by rw[mE,a1]
  rw[hcm,hcn,yB];generalize hq:min m (n/te.size)=q;have hqm:q≤m:=by omega
  have hqn:q*te.size≤n:=by rw[←hns];exact hF _ (by omega)
  have hqs:q*te.size≤src.length:=by rw[m2];exact hF _ hqm
  have hlen:((src.take (q*te.size)).map (Value.int k)).length=q*te.size:=by simp;omega
  obtain⟨w',c',r1,r2,r3,r4,r5,r6⟩:=eG (P:=P) (b:=b) ((src.take (q*te.size)).map (Value.int k)) w 0 0 C c ho (by omega) (gR _);subst hsz;rw[←r5]at r4 h1;have hold':uC ρ (av F (fA ρ h)) w n c' (.ints k (lF l 0 (src.take (q*te.size)))):=by
   have hsl:(lF l 0 (src.take (q*te.size))).length=n:=by simp[lF];omega
   refine⟨hsl,by omega,fun i hi=>?_⟩;rw[hsl]at hi;rw[r6 i,hlen];simp only[lF,List.take_zero,List.nil_append,hP,Nat.sub_zero];have hlt:(src.take (q*te.size)).length=q*te.size:=by simp;omega
   by_cases hiq:i<q*te.size
   ·rw[if_pos ⟨by omega,by omega⟩];simp only[hY,iA];rw[aE (by omega),cP (by omega)];rfl
   ·rw[if_neg (by omega),a3 i (by omega),hlt];simp only[iA];rw[hE (by omega),hlt,l1];congr 4;omega
  obtain⟨q1,q2⟩:=kA.write hh (by rw[hid];trivial) h1 r2 r3 r4 hold';refine⟨_,w',ρ,.inl ?_,vL.refl _,fun _ _=>rfl,q1,oA.of_c _,q2⟩;subst h5;have hnm:Nat.min m (n/te.size)=q:=hq;have hc:=m3 q hqm;simp only[c6,hts0,hW,iX,hX,hB,run_underlying hu,hA,m1,hnm,h0.sizeOf,hc,iB];simp only[r1,hA,goInt]
 ·rw[hid]at hk2;have hl:l=[]:=by rcases hk2 with⟨k2,hk2⟩|hk2|⟨_,_,hk2⟩<;>cases hk2;rfl
  subst hl;subst h2;have hq:min (gE te.size src.length) (gE te.size ([]:List Int).length)=0:=by simp[mE]
  rw[hq];have hsp:lF [] 0 (src.take (kG te.size 0))=[]:=by simp[lF,yB]
  rw[hsp];have hc:=m3 0 (by omega);refine⟨_,w,ρ,.inl ?_,vL.refl _,fun _ _=>rfl,?_,oA.of_c _,?_⟩
  ·have hnm:Nat.min m 0=0:=Nat.min_zero m;simp only[c6,hts0,hW,iX,hX,hB,run_underlying hu,hA,m1,hnm,h0.sizeOf,hc,iB];rfl
  ·show kA F ρ (nB h id (.ints k [])) w;rw[uU hid];exact hh
  ·show qG (fA ρ h) w (fA ρ (nB h id (.ints k []))) w;rw[uU hid];exact qG.refl _ _
theorem N8 (hty:uD P ty)(hh:kA F ρ h w){s d:Nat}{x:V}{vx:Value}{out:oF}(hx:oA ρ (av F (fA ρ h)) w x vx)(hb:bl ty nid s d x h=some (true,out))(hn:out.new.length=1→ρ nid=none):
  rD F ρ h w nid out ((do pure (.value (←convert s d vx)):Sem Next).run P w):=by
 unfold bl at hb;split at hb
 ·rename_i ts td hs hd;obtain⟨us,hus⟩:=(hty _ _ hs).und;have hud:=(hty _ _ hd).tk;split at hb
  ·rename_i k ki n htk;rw[htk]at hud;simp only[xD]at hud;have:=hx.int;subst this;have:=zB hb;subst this;exact rD.pure hh (v:=.int k (k.wrap n)) (by simp[convert,run_underlying hus,run_underlying hud,Conv.intToInt]) (oA.of_c _)
  ·rename_i b htk;rw[htk]at hud;simp only[xD]at hud;have:=hx.c;subst this;have:=zB hb;subst this;exact rD.pure hh (v:=.string b) (by cases us<;>simp[convert,run_underlying hus,run_underlying hud]) (oA.of_c _)
  ·rename_i htk;rw[htk]at hud;simp only[xD]at hud;split at hb
   ·rename_i e hse;have hks:=(hty _ _ hs).tk;rw[hse]at hks;simp only[xD]at hks;split at hb
    ·rename_i s0 b0 z0 hte;have hke:=(hty _ _ hte).tk;simp only[xD]at hke;have:=hx.c;subst this;have:=zB hb;subst this;exact rD.pure hh (v:=.string ByteArray.empty) (by simp[run_convert_bytes_nil w s e hks hke 0 0 d hud]) (oA.of_c _)
    ·cases hb
   ·cases hb
  ·rename_i e b htk;rw[htk]at hud;simp only[xD]at hud;split at hb
   ·rename_i s0 b0 z0 hte;have hke:=(hty _ _ hte).tk;simp only[xD]at hke;have:=hx.c;subst this;simp only[Option.some.injEq,Prod.mk.injEq,true_and]at hb;subst hb;have hcap:b.size≤grownCap w b.size 0 e:=Cu _ _ _ _;have hus':P.underlying s=some us:=hus;have hrun:(convert s d (.string b)).run P w= .ok (.slice (some ⟨w.heap.size,0,none⟩) b.size (grownCap w b.size 0 e)) (Lib.bytesWorld w e b):=Lib.run_convert_string_bytes w s d e b hus hud hke;have hnew:=Lib.bytesWorld_at_new w e b;have hrow:Lib.bytesCells w e b=bytesRow b (grownCap w b.size 0 e):=rfl;have hsz:(Lib.bytesCells w e b).size=grownCap w b.size 0 e:=by
     have h1:b.data.size=b.size:=rfl;simp[Lib.bytesCells,h1];omega
    have hheap:(Lib.bytesWorld w e b).heap=w.heap.push (.cells (Lib.bytesCells w e b) e ((Lib.bytesCells w e b).size,(Lib.bytesCells w e b).size+1)):=by
     apply Array.ext
     ·rw[Lib.bytesWorld_size];simp
     ·intro i h0' h2;have h1:=h0';rw[Lib.bytesWorld_size]at h1;have e1:(Lib.bytesWorld w e b).heap[i]?=(w.heap.push (.cells (Lib.bytesCells w e b) e ((Lib.bytesCells w e b).size,(Lib.bytesCells w e b).size+1)))[i]?:=by
       by_cases hi:i=w.heap.size
       ·subst hi;rw[hnew];simp
       ·rw[Lib.bytesWorld_at_old w e b i (by omega),hN,if_neg hi]
      rw[u0 h0',u0 h2]at e1;exact Option.some.inj e1
    have hb1:(bG b).length=b.size:=by simp[bG]
    refine rD.made (c:=Lib.bytesCells w e b) (n:=b.size) hh (hn rfl) (fun i hi=>by dsimp only;omega) ?_ hheap (v:=.slice (some ⟨w.heap.size,0,none⟩) b.size (grownCap w b.size 0 e)) (by simp[hrun]) ?_
    ·refine⟨hb1,by omega,fun i hi=>?_⟩;rw[hb1]at hi;have h1:b.data.size=b.size:=rfl;simp only[Lib.bytesCells];rw[n1 (by simp[h1,hi])];simp[bG,iA,h1,hi]
    ·intro ρ' M' w'' hp;simp only[oA];exact⟨by omega,.inl ⟨_,_,_,grownCap w b.size 0 e,hp,Nat.mod_one _,by rw[x6];exact hcap,by rw[hsz];omega,by rw[x6]⟩⟩
   ·cases hb
  ·rename_i x htk hn1 hn2;rw[htk]at hud;simp only[xD]at hud;split at hb
   ·rename_i e hse;have hks:=(hty _ _ hs).tk;rw[hse]at hks;simp only[xD]at hks;split at hb
    ·rename_i s0 b0 z0 w1 l t1 hte hrow;have hke:=(hty _ _ hte).tk;simp only[xD]at hke;obtain⟨hw,hb2⟩:=cA hb;have hw2:=aB hw;simp only[Option.some.injEq,Prod.mk.injEq,true_and]at hb2;subst hb2;clear hb hw;subst hw2;obtain⟨_,a,len,cap,rfl,g1,g2,g3⟩:=pv hh hx hrow;have hrun:(convert s d (.slice a len cap)).run P w= .ok (.string (aJ l)) w:=by
      rcases g3 with g3|⟨b,o,g3,g4⟩
      ·subst g3;have hl0:len=0:=by simp at g1;omega
       subst hl0;rw[run_convert_bytes_string w s d e a 0 cap hks hke hud];cases a with
       |none=>simp[Conv.bytesToString,aJ];rfl
       |some a=>rw[run_bytesToString w a 0 cap [] (by simp[loadCells,loadCellsFrom])];simp[aJ];rfl
      ·subst g3;exact run_convert_bytes_arg w s e hks hke b o len cap l (by omega) (fun i hi=>g4 i (by omega)) d hud
     exact rD.pure hh (v:=.string (aJ l)) (by simp[hrun]) (oA.of_c _)
    ·cases hb
   ·cases hb
  ·cases hb
 ·cases hb
end
section
variable {P:Program}{F:Nat→Prop}{ρ:xC}{h:Nat→qA}{w:World}{nid:Nat}{ty:Nat→Option TI}
theorem zM:∀(a b:List Int),rQ a b=true↔a=b
 | [],[]=>by simp[rQ]
 | [],_::_=>by simp[rQ]
 |_::_,[]=>by simp[rQ]
 |a::r,b::s=>by simp[rQ,zM r s]
theorem sR {k:IntKind}:∀(fs:List (Nat×Nat)) (i n:Nat) (a b:List Int),u9 ty fs i n=true→a.length=n→b.length=n→
  jG ty fs i (a.map fun x=>V.c (.int k x)) (b.map fun x=>V.c (.int k x))=some (rQ a b)
 | [],i,0,a,b,_,ha,hb=>by cases a<;>cases b<;>simp_all[jG,rQ]
 | [],i,n+1,_,_,h,_,_=>by simp[u9]at h
 |(t,off)::r,i,0,_,_,h,_,_=>by simp[u9]at h
 |(t,off)::r,i,n+1,a,b,h,ha,hb=>by
  obtain⟨x,a,rfl⟩:∃x a',a=x::a':=by cases a<;>simp_all
  obtain⟨y,b,rfl⟩:∃x a',b=x::a':=by cases b<;>simp_all
  simp only[u9]at h;obtain⟨h1,h2⟩:=wA h;obtain⟨h3,h4⟩:=wA h2;have hk:sN k k=true:=by cases k<;>decide
  have he:Qj (ty t) (V.c (.int k x)) (V.c (.int k y))=some (x==y):=by
   cases ht:ty t with
   |none=>rw[ht]at h3;cases h3
   |some ti=>obtain⟨tk,s0,b0,z0⟩:=ti;rw[ht]at h3;cases tk<;>simp at h3;simp[Qj,hk]
  have ih:=sR (k:=k) r (i+1) n a b h4 (by simpa using ha) (by simpa using hb);cases r with
  |nil=>
   cases n with
   |succ n=>simp[u9]at h4
   |zero=>cases a<;>cases b<;>simp at ha hb;simp[jG,h1,he,rQ]
  |cons f r=>simp[jG,h1,he,ih,rQ]
theorem mA.ints {ρ:xC}{M:Nat→Prop}{k:IntKind}(l:List Int):mA ρ M w (l.map fun x=>V.c (.int k x)) (l.map (Value.int k)):=by
 have:=mA.consts (ρ:=ρ) (M:=M) (w:=w) (l.map (Value.int k));rw[List.map_map]at this;exact this
theorem tR (hty:uD P ty){e:Nat}{te:TI}{k k0:IntKind}(hte:ty e=some te)(htk:te.tk= .int k0)(d:Nat){a b:List Int}(hab:a.length=b.length):∀(is:List Nat),(∀j∈is,j<a.length)→
  (Op.eqItems (d+1) e 1 (a.map (Value.int k)).toArray (b.map (Value.int k)).toArray is).run P w= .ok (is.all fun j=>a.getD j 0==b.getD j 0) w
 | [],_=>by simp[Op.eqItems]
 |j::is,h=>by
  have hu:=(hty _ _ hte).tk;rw[htk]at hu;simp only[xD]at hu;have hj:=h j (by simp);have ih:=tR hty (k:=k) hte htk d hab is (fun i hi=>h i (by simp[hi]));have hp:∀{c:List Int},j<c.length→(part e (c.map (Value.int k)).toArray (j*1)).run P w= .ok (.int k (c.getD j 0)) w:=fun{c} hc=>by simp[part,Go.isAgg,run_underlying hu,hc,iA]
  have he:(Op.equalIn (d+1) e (.int k (a.getD j 0)) (.int k (b.getD j 0))).run P w= .ok (a.getD j 0==b.getD j 0) w:=by simp[Op.equalIn,run_underlying hu]
  simp only[Op.eqItems,hB,hp hj,hp (show j<b.length by omega),he,hA,e6];cases hq:(a.getD j 0==b.getD j 0)
  ·simp
  ·simpa using ih
theorem Na:∀(a b:List Int),a.length=b.length→(List.range a.length).all (fun j=>a.getD j 0==b.getD j 0)=rQ a b:=by
 intro a b hab;rw[Bool.eq_iff_iff,zM,c4];constructor
 ·intro h;apply List.ext_getElem hab;intro i h1 h2;have:=h i (by simpa using h1);simpa[iA,h1,h2]using this
 ·intro h j _;rw[h];simp
theorem ly (hty:uD P ty){t n m e:Nat}{s0 b0:Nat}{z0:List Value}{k:IntKind}(ht:ty t=some ⟨.arr m e,s0,b0,z0⟩)(hf:(Nat.beq m n&&(match ty e with|some ⟨.int _,_,_,_⟩=>true|_=>false))=true){a b:List Int}(ha:a.length=n)(hb:b.length=n):
  (Op.equal t (.agg (a.map (Value.int k)).toArray) (.agg (b.map (Value.int k)).toArray)).run P w= .ok (rQ a b) w:=by
 obtain⟨h1,h2⟩:=wA hf;have hm:=aB h1;subst hm;cases hte:ty e with
 |none=>rw[hte]at h2;cases h2
 |some te=>
  obtain⟨tk,s1,b1,z1⟩:=te;rw[hte]at h2;cases tk<;>simp at h2;rename_i k0;have hu:=(hty _ _ ht).tk;simp only[xD]at hu;obtain⟨i,hi,hs,_⟩:=(hty _ _ hte).info;have hone:P.cellsOf e=1:=by have:=(hty _ _ hte).one rfl;simp only at this hs;simp[Program.cellsOf,hi,hs,this]
  show(Op.equalIn (9999+1) t _ _).run P w=_;rw[run_equalIn_array w 9999 _ _ hu hi,hone,tR hty hte rfl 9998 (by omega) _ (fun j hj=>by rw[List.mem_range]at hj;omega),←ha,Na a b (by omega)]
theorem fx (hty:uD P ty){t n m e:Nat}{s0 b0:Nat}{z0:List Value}{k:IntKind}(ht:ty t=some ⟨.arr m e,s0,b0,z0⟩)(hf:(Nat.beq m n&&(match ty e with|some ⟨.int _,_,_,_⟩=>true|_=>false))=true)(em:Bool){a:List Int}(ha:a.length=n):
  (Instr.checkKey em 10000 t (.agg (a.map (Value.int k)).toArray)).run P w= .ok () w:=by
 obtain⟨h1,h2⟩:=wA hf;have hm:=aB h1;subst hm;cases hte:ty e with
 |none=>rw[hte]at h2;cases h2
 |some te=>
  obtain⟨tk,s1,b1,z1⟩:=te;rw[hte]at h2;cases tk<;>simp at h2;rename_i k0;have hu:=(hty _ _ ht).tk;simp only[xD]at hu;have hue:=(hty _ _ hte).tk;simp only[xD]at hue;have hsz:=(hty _ _ hte).sizeOf (w:=w);have hone:=(hty _ _ hte).one rfl;simp only at hone hsz;rw[hone]at hsz;rw[show(10000:Nat)=9999+1 from rfl,Instr.checkKey];simp only[hB,run_underlying hu,hA];simp only[Std.Legacy.Range.forIn_eq_forIn_range',Std.Legacy.Range.size,Nat.sub_zero,Nat.add_one_sub_one,x6];have loop:∀is:List Nat,(∀j∈is,j<a.length)→(forIn is PUnit.unit fun i (_:PUnit)=>(do
    let x←part e (a.map (Value.int k)).toArray (i*(←Go.sizeOf e))
    Instr.checkKey em 9999 e x
    pure (ForInStep.yield PUnit.unit):Sem (ForInStep PUnit))).run P w= .ok PUnit.unit w:=by
   intro is;induction is with
   |nil=>intro _;simp
   |cons j is ih=>
    intro h;have hj:=h j (by simp);have hp:(part e (a.map (Value.int k)).toArray (j*1)).run P w= .ok (.int k (a.getD j 0)) w:=by simp[part,Go.isAgg,run_underlying hue,hj,iA]
    have hc0:∀d,(Instr.checkKey em (d+1) e (.int k (a.getD j 0))).run P w= .ok () w:=fun d=>by simp[Instr.checkKey,run_underlying hue]
    have hc:(Instr.checkKey em 9999 e (.int k (a.getD j 0))).run P w= .ok () w:=hc0 9998;simp only[w5,hB,hsz,hp,hc,hA,iB];exact ih (fun i hi=>h i (by simp[hi]))
  have:=loop (List.range' 0 m) (fun j hj=>by rw[List.mem_range'_1]at hj;omega);rw[this];simp
theorem Nm (hty:uD P ty){t n:Nat}{ti:TI}{k:IntKind}(ht:ty t=some ti)(hf:fK ty n ti=true){a b:List Int}(ha:a.length=n)(hb:b.length=n):
  (Op.equal t (.agg (a.map (Value.int k)).toArray) (.agg (b.map (Value.int k)).toArray)).run P w= .ok (rQ a b) w:=by
 obtain⟨tk,s0,b0,z0⟩:=ti;cases tk<;>simp only[fK,hI]at hf
 case arr m e=>exact ly hty ht hf ha hb
 rename_i fs;have he:cM ty t (a.map fun x=>V.c (.int k x)) (b.map fun x=>V.c (.int k x))=some (rQ a b):=by simp only[cM,ht];exact sR fs 0 n a b hf ha hb
 exact(mO (ρ:=fun _=>none) (M:=fun _=>False) hty he (by simpa using mA.ints a) (by simpa using mA.ints b)).1
theorem lJ (hty:uD P ty){t n:Nat}{ti:TI}{k:IntKind}(ht:ty t=some ti)(hf:fK ty n ti=true){a:List Int}(ha:a.length=n):
  ∀(es:List MapEntry) (ks:List (List Int)) (i:Nat),es.length=ks.length→(∀j,j<ks.length→(ks.getD j []).length=n∧∃e,es[j]?=some e∧e.key= .agg ((ks.getD j []).map (Value.int k)).toArray)→
   (Instr.findAsking t (.agg (a.map (Value.int k)).toArray) es i).run P w= .ok ((sD a ks i).bind fun j=>(es[j-i]?).map fun e=>(j,e.val)) w∧(∀j,sD a ks i=some j→i≤j∧j-i<ks.length∧ks.getD (j-i) []=a)
 | [],[],i,_,_=>by simp[Instr.findAsking,sD]
 | [],_::_,_,hl,_=>by simp at hl
 |_::_,[],_,hl,_=>by simp at hl
 |e::es,x::ks,i,hl,he=>by
  obtain⟨h1,e',h2,h3⟩:=he 0 (by simp);simp only[List.getD_cons_zero,iX,Option.some.injEq]at h1 h2 h3;subst h2;have hk:=Nm (P:=P) (w:=w) (k:=k) hty ht hf ha h1;have ih:=lJ hty (k:=k) ht hf ha es ks (i+1) (by simpa using hl) (fun j hj=>by have:=he (j+1) (by simpa using hj);simpa using this);simp only[Instr.findAsking,hB,h3,hk,hA,sD];cases hq:rQ a x with
  |true=>have:=(zM a x).1 hq;simp[this]
  |false=>
   simp only[hI,if_false,cond_false];obtain⟨ih1,ih2⟩:=ih;rw[ih1];refine⟨?_,fun j hj=>?_⟩
   ·cases hm:sD a ks (i+1)with
    |none=>rfl
    |some j=>
     obtain⟨g1,g2,g3⟩:=ih2 j hm;have:j-i=(j- (i+1))+1:=by omega
     simp[this]
   ·obtain⟨g1,g2,g3⟩:=ih2 j hj;have:j-i=(j- (i+1))+1:=by omega
    rw[this];simp only[c0,List.getD_cons_succ];exact⟨by omega,by omega,g3⟩
theorem iO (hty:uD P ty){k:IntKind}(em:Bool)(d:Nat){a:List Int}:∀(fs:List Field) (i n:Nat),u9 ty (fs.map fun f=>(f.type,f.offset)) i n=true→i+n=a.length→
  (forIn fs PUnit.unit (fun f (r:PUnit)=>do
    if f.name≠ "_" then do Instr.checkKey em (d+1) f.type (←part f.type (a.map (Value.int k)).toArray f.offset);pure PUnit.unit;pure (ForInStep.yield PUnit.unit)
    else pure (ForInStep.yield PUnit.unit)):Sem PUnit).run P w= .ok PUnit.unit w
 | [],i,n,_,_=>by simp
 |f::fs,i,0,h,_=>by simp[u9]at h
 |f::fs,i,n+1,h,hn=>by
  simp only[eX,u9]at h;obtain⟨h1,h2⟩:=wA h;obtain⟨h3,h4⟩:=wA h2;have ho:=aB h1;have ih:=iO hty (k:=k) em d (a:=a) fs (i+1) n h4 (by omega);cases ht:ty f.type with
  |none=>rw[ht]at h3;cases h3
  |some ti=>
   obtain⟨tk,s0,b0,z0⟩:=ti;rw[ht]at h3;cases tk<;>simp at h3;have hu:=(hty _ _ ht).tk;simp only[xD]at hu;have hlt:i<a.length:=by omega
   have hp:(part f.type (a.map (Value.int k)).toArray f.offset).run P w= .ok (.int k (a.getD i 0)) w:=by simp[part,Go.isAgg,run_underlying hu,ho,hlt,iA]
   have hc:(Instr.checkKey em (d+1) f.type (.int k (a.getD i 0))).run P w= .ok () w:=by simp[Instr.checkKey,run_underlying hu]
   by_cases hnm:f.name≠ "_"
   ·simp only[w5,if_pos hnm,hB,hp,hc,hA,iB];exact ih
   ·simp only[w5,if_neg hnm,hB,hA,iB];exact ih
theorem jO (hty:uD P ty){t n:Nat}{ti:TI}{k:IntKind}(ht:ty t=some ti)(hf:fK ty n ti=true)(em:Bool){a:List Int}(ha:a.length=n):
  (Instr.checkKey em 10000 t (.agg (a.map (Value.int k)).toArray)).run P w= .ok () w:=by
 obtain⟨tk,s0,b0,z0⟩:=ti;cases tk<;>simp only[fK,hI]at hf
 case arr m e=>exact fx hty ht hf em ha
 rename_i fs;have hu:=(hty _ _ ht).tk;simp only[xD]at hu;obtain⟨fields,h1,h2,_⟩:=hu;subst h2;have:=iO (P:=P) (w:=w) hty (k:=k) em 9998 (a:=a) fields.toList 0 n hf (by omega);rw[show(10000:Nat)=9999+1 from rfl,Instr.checkKey];simp only[hB,run_underlying h1,hA];rw[←Array.forIn_toList];rw[show(forIn fields.toList PUnit.unit fun f (__s:PUnit)=>(if f.name≠ "_" then do
   let x←part f.type (List.map (Value.int k) a).toArray f.offset
   Instr.checkKey em 9999 f.type x
   pure (ForInStep.yield PUnit.unit)
  else pure (ForInStep.yield PUnit.unit):Sem (ForInStep PUnit))).run P w= .ok PUnit.unit w from this]
 simp
theorem kA.allocMap (hh:kA F ρ h w)(hn:ρ nid=none){k:IntKind}{n:Nat}{c:xN}(hc:c.len=0){w':World}(hkp:sG w w')(hw:w'.heap=w.heap.push (.map #[] 0)):
  kA F (iC ρ nid ⟨some w.heap.size,0,0⟩) (nB h nid (.mp k n [] c)) w'∧qG (fA ρ h) w (fA (iC ρ nid ⟨some w.heap.size,0,0⟩) (nB h nid (.mp k n [] c))) w':=by
 have hnew:w'.heap[w.heap.size]?=some (.map #[] 0):=by rw[hw];simp
 have hold:∀b,b<w.heap.size→w'.heap[b]?=w.heap[b]?:=by
  intro b hb;rw[hw,hN];split
  ·omega
  ·rfl
 have hsub:∀b,fA (iC ρ nid ⟨some w.heap.size,0,0⟩) (nB h nid (.mp k n [] c)) b→fA ρ h b∨w.heap.size≤b:=by
  rintro b ⟨j,m,C,hp,hl⟩;unfold iC at hp;unfold nB at hl;split at hp
  ·simp only[Option.some.injEq,Pl.mk.injEq]at hp;obtain⟨h1,_⟩:=hp;exact .inr (by omega)
  ·rename_i hne;rw[if_neg hne]at hl;exact .inl ⟨j,m,C,hp,hl⟩
 have hext:qG (fA ρ h) w (fA (iC ρ nid ⟨some w.heap.size,0,0⟩) (nB h nid (.mp k n [] c))) w':=⟨by rw[hw];simp,fun b hb _=>hold b hb,hsub,hkp⟩
 refine⟨⟨vP hh.wf (hD _),?_,?_,hh.low' hext,hh.out' hext⟩,hext⟩
 ·intro j hl;by_cases hj:j=nid
  ·subst hj;refine⟨⟨some w.heap.size,0,0⟩,by simp[iC],?_⟩;have:nB h j (.mp k n [] c) j= .mp k n [] c:=by simp[nB]
   rw[this];exact⟨rfl,rfl,by simpa using hc,_,#[],0,rfl,hnew,by simp,fun i hi=>by simp at hi,by simp,by simp,rfl,fun j e he=>by simp at he⟩
  ·have h1:nB h nid (.mp k n [] c) j=h j:=by simp[nB,hj]
   rw[h1]at hl⊢;obtain⟨p,hp,hb⟩:=hh.rel j hl;refine⟨p,by simp[iC,hj,hp],jB.mono (pE hn) hext hb ?_⟩;intro b hb';refine hold b ?_;obtain⟨pb,pn,pC⟩:=p;dsimp only at hb';subst hb';exact fA.lt hh ⟨j,pn,pC,hp,hl⟩
 ·intro i j b m C m' C' hi hj hpi hpj;have key:∀{l m C},(nB h nid (.mp k n [] c) l).live→iC ρ nid ⟨some w.heap.size,0,0⟩ l=some ⟨some b,m,C⟩→l≠nid→(h l).live∧ρ l=some ⟨some b,m,C⟩∧b<w.heap.size:=by
   intro l m C hk hpk hne;have h1:nB h nid (.mp k n [] c) l=h l:=by simp[nB,hne]
   have h2:iC ρ nid ⟨some w.heap.size,0,0⟩ l=ρ l:=by simp[iC,hne]
   rw[h1]at hk;rw[h2]at hpk;exact⟨hk,hpk,fA.lt hh ⟨l,m,C,hpk,hk⟩⟩
  have new:∀{m C},iC ρ nid ⟨some w.heap.size,0,0⟩ nid=some ⟨some b,m,C⟩→b=w.heap.size:=by intro m C hp;simp[iC]at hp;omega
  by_cases h1:i=nid<;>by_cases h2:j=nid
  ·rw[h1,h2]
  ·subst h1;have:=new hpi;have:=(key hj hpj h2).2.2;omega
  ·subst h2;have:=new hpj;have:=(key hi hpi h1).2.2;omega
  ·obtain⟨a1,a2,_⟩:=key hi hpi h1;obtain⟨b1,b2,_⟩:=key hj hpj h2;exact hh.inj i j b m C m' C' a1 b1 a2 b2
theorem kA.writeMap (hh:kA F ρ h w){id b n C:Nat}{x:qA}(hl:(h id).live)(hxl:x.live)(hp:ρ id=some ⟨some b,n,C⟩){w':World}(hsz0:w'.heap.size=w.heap.size∧sG w w')(hw:∀b',b'≠b→w'.heap[b']?=w.heap[b']?)
  (hx:∀M',(∀b,M' b→av F (fA ρ h) b)→jB ρ M' w' ⟨some b,n,C⟩ x):
  kA F ρ (nB h id x) w'∧qG (fA ρ h) w (fA ρ (nB h id x)) w':=by
 have hbM:fA ρ h b:=⟨id,n,_,hp,hl⟩
 obtain⟨hsz,hkp⟩:=hsz0;have lv:∀{j},(nB h id x j).live→(h j).live:=by
  intro j hj;unfold nB at hj;split at hj
  ·rename_i e;subst e;exact hl
  ·exact hj
 have hext:qG (fA ρ h) w (fA ρ (nB h id x)) w':=⟨by omega,fun b' _ hm=>hw b' (fun e=>hm (e▸hbM)),fun b' hb=>by obtain⟨j,m,C,h1,h2⟩:=hb;exact .inl ⟨j,m,C,h1,lv h2⟩,hkp⟩
 refine⟨⟨hh.wf,?_,?_,hh.low' hext,hh.out' hext⟩,hext⟩
 ·intro j hj;by_cases he:j=id
  ·subst he;refine⟨_,hp,?_⟩;have:nB h j x j=x:=by simp[nB]
   rw[this];exact hx _ (fun b hb=>hb.imp id (fun hm=>(hext.sub b hm).elim id (fun hz=>by obtain⟨i,m,C,h1,h2⟩:=hm;exact⟨i,m,C,h1,lv h2⟩)))
  ·have h1:nB h id x j=h j:=by simp[nB,he]
   rw[h1]at hj⊢;obtain⟨p,hpj,hb⟩:=hh.rel j hj;refine⟨p,hpj,jB.mono (vL.refl _) hext hb ?_⟩;intro b' hb';refine hw b' (fun e=>he ?_);subst e;obtain⟨pb,pn,pC⟩:=p;dsimp only at hb';subst hb';exact hh.inj j id b' _ _ _ _ hj hl hpj hp
 ·intro i j b' m C m' C' hi hj;exact hh.inj i j b' m C m' C' (lv hi) (lv hj)
theorem oi {t:Nat}{out:oF}(hh:kA F ρ h w)(ha:gZ ty nid t=some (true,out))(hn1:out.new.length=1→ρ nid=none):
  rD F ρ h w nid out ((do pure (.value (←Instr.makeMap t none)):Sem Next).run P w):=by
 unfold gZ at ha;split at ha
 ·split at ha
  ·split at ha
   ·rename_i k c hk hc;obtain⟨_,h2⟩:=cA ha;simp only[Option.some.injEq,Prod.mk.injEq,true_and]at h2;subst h2;have hcl:c.len=0:=by
     unfold E7 at hc;split at hc<;>simp at hc<;>subst hc<;>rfl
    obtain⟨q1,q2⟩:=kA.allocMap hh (hn1 rfl) (k:=k) (n:=_) hcl (w':=w.alloc (.map #[] 0)) ⟨rfl,rfl,rfl,hD _⟩ rfl;refine⟨.map (some w.heap.size),w.alloc (.map #[] 0),_,.inl ?_,pE (hn1 rfl),fun id hid=>?_,q1,?_,q2⟩
    ·simp[Instr.makeMap]
    ·simp at hid;have:id≠nid:=by omega
     simp[iC,this]
    ·simp only[oA];exact⟨_,by simp[iC],rfl⟩
   ·cases ha
  ·cases ha
 ·cases ha
theorem bZ {M:Nat→Prop}{k:IntKind}{n:Nat}{x:V}{vx:Value}{l:List Int}(hk:tn k n x=some l)(hx:oA ρ M w x vx):l.length=n∧vx= .agg (l.map (Value.int k)).toArray:=by
 unfold tn at hk;split at hk
 ·split at hk
  ·rename_i l' hl;obtain⟨h1,h2⟩:=cA hk;simp only[Option.some.injEq]at h2;subst h2;simp only[oA]at hx;obtain⟨vs,rfl,hr⟩:=hx;refine⟨aB h1,?_⟩;congr 1;have:∀(cs:List V) (vs:List Value) (l:List Int),vF k cs=some l→mA ρ M w cs vs→vs=l.map (Value.int k):=by
    intro cs;induction cs with
    |nil=>intro vs l h1 h2;cases vs<;>simp[vF,mA]at h1 h2;subst h1;rfl
    |cons c cs ih=>
     intro vs l h1 h2;cases vs with
     |nil=>simp[mA]at h2
     |cons v vs=>
      simp only[mA]at h2;unfold vF at h1;split at h1
      ·rename_i he;cases he
      ·rename_i k' n r he;simp only[List.cons.injEq]at he;obtain⟨rfl,rfl⟩:=he;obtain⟨e1,e2⟩:=cA h1;have e1:=yE e1;subst e1;simp only[hG]at e2;obtain⟨l',g1,g2⟩:=e2;subst g2;have:=h2.1.int;subst this;simp[ih vs l' g1 h2.2]
      ·cases h1
   have h3:=this _ _ _ hl hr;apply Array.ext';simpa using h3
  ·cases hk
 ·cases hk
theorem nV {l:List Int}{ks:List (List Int)}{vs:xN}{v:V}{j:Nat}(hg:eH l ks vs=some v)(hm:sD l ks 0=some j):v= .c (cI vs j):=by
 cases vs<;>simp only[eH,mD,Du,hm,Option.some.injEq,reduceCtorEq]at hg<;>subst hg<;>rfl
theorem mV {l:List Int}{ks:List (List Int)}{vs:xN}{v:V}{te:TI}{z:Value}(hg:eH l ks vs=some v)(hm:sD l ks 0=none)(hc:uM te vs=true)(hz:z.cells.toList=te.zero)(hp:tZ z=true):v= .c z:=by
 cases vs with
 |strs l=>simp[eH]at hg
 |ints k l=>
  simp only[eH,mD,hm,Option.some.injEq]at hg;subst hg;unfold uM at hc;simp only at hc;split at hc
  ·rename_i k1 k2 z0 h1 h2;obtain⟨_,hc⟩:=wA hc;obtain⟨hk,hz0⟩:=wA hc;rw[h2]at hz;cases z<;>simp[tZ]at hp<;>simp[Value.cells]at hz;obtain⟨rfl,rfl⟩:=hz;rw[yE hk,eq_of_beq hz0]
  ·cases hc
 |bools l=>
  simp only[eH,Du,hm,Option.some.injEq]at hg;subst hg;unfold uM at hc;simp only at hc;split at hc
  ·rename_i z0 h1 h2;rw[h2]at hz;cases z<;>simp[tZ]at hp<;>simp[Value.cells]at hz;subst hz;simp at hc;subst hc;rfl
  ·cases hc
theorem y5 (hty:uD P ty){t n:Nat}{ti:TI}{k:IntKind}(ht:ty t=some ti)(hf:fK ty n ti=true){a:List Int}(ha:a.length=n){es:Array MapEntry}{ks:List (List Int)}{vs:xN}(hl:es.size=ks.length)
  (he:∀j,j<ks.length→(ks.getD j []).length=n∧∃e,es[j]?=some e∧e.key= .agg ((ks.getD j []).map (Value.int k)).toArray∧e.val=cI vs j):
  (Instr.findKey t (.agg (a.map (Value.int k)).toArray) es.toList).run P w= .ok ((sD a ks 0).map fun j=>(j,cI vs j)) w∧(∀j,sD a ks 0=some j→j<ks.length∧ks.getD j []=a):=by
 have hu:(match P.underlying t with|some (.array _ _)|some (.struct _)=>true|_=>false)=true:=by
  obtain⟨tk,s0,b0,z0⟩:=ti;cases tk<;>simp only[fK,hI]at hf
  case arr m e=>have hu:=(hty _ _ ht).tk;simp only[xD]at hu;rw[hu]
  have hu:=(hty _ _ ht).tk;simp only[xD]at hu;obtain⟨fields,h1,_⟩:=hu;rw[h1]
 obtain⟨h1,h2⟩:=lJ (P:=P) (w:=w) hty (k:=k) ht hf ha es.toList ks 0 (by simpa using hl) (fun j hj=>by obtain⟨g1,e,g2,g3,_⟩:=he j hj;exact⟨g1,e,by simpa using g2,g3⟩);rw[run_findKey_eq w hu,h1];refine⟨?_,fun j hj=>?_⟩
 ·cases hm:sD a ks 0 with
  |none=>rfl
  |some j=>obtain⟨_,g1,_⟩:=h2 j hm;obtain⟨_,e,g2,_,g3⟩:=he j (by simpa using g1);simp[g2,g3]
 ·obtain⟨_,g1,g2⟩:=h2 j hj;exact⟨by simpa using g1,by simpa using g2⟩
theorem tv {t:Nat}{m i:V}{vm vi:Value}{ok:Bool}{out:oF}(hty:uD P ty)(hh:kA F ρ h w)(hm:oA ρ (av F (fA ρ h)) w m vm)(hi:oA ρ (av F (fA ρ h)) w i vi)(ha:oJ ty t m i ok h=some (true,out)):
  rD F ρ h w nid out ((do pure (.value (←Instr.lookup t vm vi ok)):Sem Next).run P w):=by
 unfold oJ at ha;split at ha
 ·rename_i kt et s0 b0 z0 id ht;split at ha
  ·rename_i k n ks vs tk te hid htk hte;split at ha
   ·rename_i l v hl hv;obtain⟨hc,h2⟩:=cA ha;simp only[Option.some.injEq,Prod.mk.injEq,true_and]at h2;subst h2;obtain⟨hc1,hc2⟩:=wA hc;rw[hl]at hv;simp only at hv;obtain⟨hln,rfl⟩:=bZ hl hi;simp only[oA]at hm;obtain⟨b,hp,rfl⟩:=hm;obtain⟨_,_,hlen,es,clk,hb,hes,hent,hold,hapart⟩:=hh.ownMap hid hp;obtain⟨hf1,hf2⟩:=y5 (P:=P) (w:=w) hty (k:=k) htk hc1 hln hes hent;have hu:=(hty _ _ ht).tk;simp only[xD]at hu;obtain⟨hu,i0,z,hi0,hz,hzp⟩:=hu;have hck:=jO (P:=P) (w:=w) hty (k:=k) htk hc1 es.isEmpty hln;have hzc:z.cells.toList=te.zero:=by
     obtain⟨i1,g1,_,_,z1,g2,g3⟩:=(hty _ _ hte).info;rw[hi0]at g1;simp only[Option.some.injEq]at g1;subst g1;rw[hz]at g2;simp only[Option.some.injEq]at g2;subst g2;exact g3
    have hzv:(Go.zeroValue et).run P w= .ok z w:=by simp[Go.zeroValue,Go.typeInfo,hi0,hz]
    have hrun:∃u,v= .c u∧(Instr.lookup t (.map (some b)) (.agg (l.map (Value.int k)).toArray) ok).run P w= .ok (bif ok then .tuple #[u,.bool (hJ l ks)]else u) w:=by
     cases hm:sD l ks 0 with
     |none=>refine⟨z,mV hv hm hc2 hzc hzp,?_⟩;simp only[Instr.lookup,hB,run_underlying hu,hA,MapKept.run_getObj_map hb,iB,hck,hf1,hm,u4,hzv,hJ,Option.isSome_none];cases ok<;>simp
     |some j=>refine⟨cI vs j,nV hv hm,?_⟩;simp only[Instr.lookup,hB,run_underlying hu,hA,MapKept.run_getObj_map hb,iB,hck,hf1,hm,hV,hJ,Option.isSome_some];cases ok<;>simp
    obtain⟨u,rfl,hrun⟩:=hrun;refine rD.pure hh (v:=bif ok then .tuple #[u,.bool (hJ l ks)]else u) (by simp[hrun]) ?_;cases ok
    ·exact oA.of_c _
    ·simp only[cond_true,oA];exact⟨_,rfl,by simp[mA,oA]⟩
   ·cases ha
  ·cases ha
 ·cases ha
theorem ai (k:IntKind)(l:List Int)(n:Nat):Instr.sameBits (n+1) (.agg (l.map (Value.int k)).toArray) (.agg (l.map (Value.int k)).toArray)=true:=by
 have h:∀l:List Int,((l.map (Value.int k)).zip (l.map (Value.int k))).all (fun x=>Instr.sameBits n x.1 x.2)=true:=by
  intro l;induction l with
  |nil=>rfl
  |cons a l ih=>simp only[eX,List.zip_cons_cons,e6,ih,Bool.and_true];cases n<;>simp[Instr.sameBits]
 simp only[Instr.sameBits,beq_self_eq_true,Bool.true_and];exact h l
theorem ny (k:IntKind)(l:List Int):(Instr.keyThatStays (.agg (l.map (Value.int k)).toArray) (.agg (l.map (Value.int k)).toArray)).run P w= .ok (.agg (l.map (Value.int k)).toArray) w:=by
 simp only[Instr.keyThatStays,ai k l 9999,if_true,iB]
theorem oy {α:Type}{l:List Int}{x:α}{ks:List (List Int)}{vs:List α}(hl:vs.length=ks.length):(iH l x ks vs).length=(oB l ks).length:=by
 unfold iH oB hJ;cases sD l ks 0<;>simp[hl]
theorem zQ {M:Nat→Prop}{l:List Int}{ks:List (List Int)}{vs c:xN}{x:V}{vx:Value}(hc:yQ l ks vs x=some c)(hx:oA ρ M w x vx)(hl:vs.len=ks.length):
  c.len=(oB l ks).length∧(∀j,sD l ks 0=some j→j<ks.length→cI c j=vx∧∀i,i≠j→cI c i=cI vs i)∧(sD l ks 0=none→cI c ks.length=vx∧∀i,i<ks.length→cI c i=cI vs i):=by
 unfold yQ at hc;split at hc
 ·rename_i k vs k' x;obtain⟨h1,h2⟩:=cA hc;simp only[Option.some.injEq]at h2;subst h2;have:=yE h1;subst this;have:=hx.int;subst this;simp only[xN.len]at hl⊢;refine⟨oy hl,fun j hj hlt=>?_,fun hj=>?_⟩
  ·simp only[iH,hj,cI];refine⟨by simp[iA,hl,hlt],fun i hi=>?_⟩;simp only[iA,hT (Ne.symm hi)]
  ·simp only[iH,hj,cI];refine⟨by simp[iA,←hl],fun i hi=>?_⟩;simp only[iA];rw[aE (by omega)]
 ·rename_i vs x;simp only[Option.some.injEq]at hc;subst hc;have:=hx.c;subst this;simp only[xN.len]at hl⊢;refine⟨oy hl,fun j hj hlt=>?_,fun hj=>?_⟩
  ·simp only[iH,hj,cI];refine⟨by simp[iA,hl,hlt],fun i hi=>?_⟩;simp only[iA,hT (Ne.symm hi)]
  ·simp only[iH,hj,cI];refine⟨by simp[iA,←hl],fun i hi=>?_⟩;simp only[iA];rw[aE (by omega)]
 ·cases hc
theorem uV (es:Array MapEntry)(j:Nat)(k v:Value):(es.modify j fun e=>{e with key:=k,val:=v}).toList.map (·.born)=es.toList.map (·.born):=by
 apply w0;intro i;simp only[hY,o0,xK];by_cases hij:j=i
 ·subst hij;cases es[j]?<;>simp
 ·simp[hij]
theorem bf {es:Array MapEntry}(h:∀(j:Nat) (e:MapEntry),es[j]?=some e→e.born=j){x:MapEntry}(hx:x.born=es.size):∀(j:Nat) (e:MapEntry),(es.push x)[j]?=some e→e.born=j:=by
 intro j e he;rw[hN]at he;split at he
 ·rename_i hj;simp only[Option.some.injEq]at he;subst he;rw[hx,hj]
 ·exact h j e he
theorem gO {es:Array MapEntry}(h:∀(j:Nat) (e:MapEntry),es[j]?=some e→e.born=j){i:Nat}(f:MapEntry→MapEntry)(hf:∀e,(f e).born=e.born):∀(j:Nat) (e:MapEntry),(es.modify i f)[j]?=some e→e.born=j:=by
 intro j e he;rw[xK]at he;split at he
 ·cases hq:es[j]? with
  |none=>rw[hq]at he;cases he
  |some y=>rw[hq]at he;simp only[hV,Option.some.injEq]at he;subst he;rw[hf];exact h j y hq
 ·exact h j e he
theorem lZ (es:Array MapEntry)(j:Nat)(k:Value):(es.modify j fun e=>{e with key:=k}).toList.map (·.born)=es.toList.map (·.born):=by
 apply w0;intro i;simp only[hY,o0,xK];by_cases hij:j=i
 ·subst hij;cases es[j]?<;>simp
 ·simp[hij]
theorem ub (es:Array MapEntry)(j:Nat)(k:Value):(es.modify j fun e=>{e with val:=k}).toList.map (·.born)=es.toList.map (·.born):=by
 apply w0;intro i;simp only[hY,o0,xK];by_cases hij:j=i
 ·subst hij;cases es[j]?<;>simp
 ·simp[hij]
theorem kQ {t:Nat}{m i x:V}{vm vi vx:Value}{out:oF}(hty:uD P ty)(hh:kA F ρ h w)(hm:oA ρ (av F (fA ρ h)) w m vm)(hi:oA ρ (av F (fA ρ h)) w i vi)(hx:oA ρ (av F (fA ρ h)) w x vx)(ha:gH ty t m i x h=some (true,out)):
  rD F ρ h w nid out ((do Instr.mapUpdate t vm vi vx;pure .skip:Sem Next).run P w):=by
 unfold gH at ha;split at ha
 ·rename_i kt et s0 b0 z0 id ht;split at ha
  ·rename_i k n ks vs tk hid htk;split at ha
   ·rename_i l hl;split at ha
    ·rename_i c hcol;obtain⟨hc1,h2⟩:=cA ha;simp only[Option.some.injEq,Prod.mk.injEq,true_and]at h2;subst h2;obtain⟨hln,rfl⟩:=bZ hl hi;simp only[oA]at hm;obtain⟨b,hp,rfl⟩:=hm;obtain⟨_,_,hlen,es,clk,hb,hes,hent,hold,hapart,hstamp,hborn⟩:=hh.ownMap hid hp;obtain⟨hf1,hf2⟩:=y5 (P:=P) (w:=w) hty (k:=k) htk hc1 hln hes hent;have hu:=(hty _ _ ht).tk;simp only[xD]at hu;obtain⟨hu,_⟩:=hu;have hck:=jO (P:=P) (w:=w) hty (k:=k) htk hc1 false hln;obtain⟨p1,p2,p3⟩:=zQ hcol hx hlen;have hlt:b<w.heap.size:=(yK.mp hb).1;have bN:∀es' clk',(Instr.mapUpdate t (.map (some b)) (.agg (l.map (Value.int k)).toArray) vx).run P w= .ok () {w with heap:=w.heap.setIfInBounds b (.map es' clk')}→es'.size=(oB l ks).length→
       (∀j,j<(oB l ks).length→((oB l ks).getD j []).length=n∧∃e,es'[j]?=some e∧e.key= .agg (((oB l ks).getD j []).map (Value.int k)).toArray∧e.val=cI c j)→(∀e∈es'.toList,e.born<clk')→(es'.toList.map (·.born)).Nodup→clk'=(oB l ks).length→(∀(j:Nat) (e:MapEntry),es'[j]?=some e→e.born=j)→
       rD F ρ h w nid {val:=bI,wr:=[(id,.mp k n (oB l ks) c)],touch:=[id]} ((do Instr.mapUpdate t (.map (some b)) (.agg (l.map (Value.int k)).toArray) vx;pure .skip:Sem Next).run P w):=by
      intro es' clk' r1 r2 r3 r4 r5 r6 r7;obtain⟨q1,q2⟩:=kA.writeMap (w':={w with heap:=w.heap.setIfInBounds b (.map es' clk')}) (x:=.mp k n (oB l ks) c) hh (by rw[hid];trivial) trivial hp ⟨by simp,⟨rfl,rfl,rfl,hD _⟩⟩
       (fun b' hb'=>(MapKept.heap_set hb).2 b' hb') (fun M' _=>⟨rfl,rfl,p1,b,es',clk',rfl,(MapKept.heap_set hb).1,r2,r3,r4,r5,r6,r7⟩)
      exact⟨undef,_,ρ,.inr ⟨by simp[r1],rfl⟩,vL.refl _,fun _ _=>rfl,q1,oA.of_c _,q2⟩
     cases hm:sD l ks 0 with
     |none=>
      obtain⟨q1,q2⟩:=p3 hm;have hK:oB l ks=ks++[l]:=by simp[oB,hJ,hm]
      refine bN (es.push {key:=.agg (l.map (Value.int k)).toArray,val:=vx,born:=clk}) (clk+1) ?_ ?_ ?_ ?_ ?_ (by rw[hK,hstamp];simp) (bf hborn (by rw[hstamp,hes]))
      ·simp only[Instr.mapUpdate,hB,run_underlying hu,hA,MapKept.run_getObj_map hb,hck,hf1,hm,u4,MapKept.run_setObj_map _ hb]
      ·simp[hK,hes]
      ·intro j hj;rw[hK]at hj⊢;simp only[List.length_append,l4]at hj;by_cases hj2:j<ks.length
       ·obtain⟨g1,e,g2,g3,g4⟩:=hent j hj2;have hg:(ks++[l]).getD j []=ks.getD j []:=by simp[iA,aE hj2]
        rw[hg];refine⟨g1,e,?_,g3,by rw[g4,q2 j hj2]⟩;rw[hN,if_neg (by omega)];exact g2
       ·have:j=ks.length:=by omega
        subst this;have hg:(ks++[l]).getD ks.length []=l:=by simp[iA]
        rw[hg];exact⟨hln,_,by rw[hN,if_pos hes.symm],rfl,q1.symm⟩
      ·intro e he;simp only[b4,List.mem_append,c3]at he;rcases he with he|rfl
       ·exact Nat.lt_succ_of_lt (hold e he)
       ·exact Nat.lt_succ_self _
      ·simp only[b4,List.map_append,eX,l5];refine List.nodup_append.2 ⟨hapart,by simp,?_⟩;intro a ha b hb';simp only[c3]at hb';subst hb';obtain⟨x,hx,rfl⟩:=u3.1 ha;exact Nat.ne_of_lt (hold x hx)
     |some j0=>
      obtain⟨hj0,hkj0⟩:=hf2 j0 hm;obtain⟨q1,q2⟩:=p2 j0 hm hj0;obtain⟨g1,e0,g2,g3,g4⟩:=hent j0 hj0;rw[hkj0]at g3;have hK:oB l ks=ks:=by simp[oB,hJ,hm]
      refine bN (es.modify j0 fun e=>{e with key:=.agg (l.map (Value.int k)).toArray,val:=vx}) clk ?_ ?_ ?_ ?_ ?_ (by rw[hK,hstamp]) (gO hborn _ (fun _=>rfl))
      ·simp only[Instr.mapUpdate,hB,run_underlying hu,hA,MapKept.run_getObj_map hb,hck,hf1,hm,hV,g2,p5,g3,ny,MapKept.run_setObj_map _ hb]
      ·simp[hK,hes]
      ·intro j hj;rw[hK]at hj⊢;obtain⟨a1,e,a2,a3,a4⟩:=hent j hj;refine⟨a1,?_⟩;rw[xK];by_cases hjj:j0=j
       ·subst hjj;rw[if_pos rfl,g2];exact⟨_,rfl,by simp only[hkj0],q1.symm⟩
       ·rw[if_neg hjj];exact⟨e,a2,a3,by rw[a4,q2 j (Ne.symm hjj)]⟩
      ·intro e he;have:=x4 (f:=(·.born)) he;rw[uV]at this;obtain⟨y,hy,e1⟩:=u3.1 this;rw[←e1];exact hold y hy
      ·rw[uV];exact hapart
    ·cases ha
   ·cases ha
  ·cases ha
 ·cases ha
theorem vk {n:Nat}{vs:xN}(h:vs.len=n):xP n vs=vs:=by
 cases vs<;>simp only[xN.len]at h<;>simp only[xP]<;>rw[l3 (by omega)]
theorem jc {t:Nat}{m i:V}{vm vi:Value}{out:oF}(hty:uD P ty)(hh:kA F ρ h w)(hm:oA ρ (av F (fA ρ h)) w m vm)(hi:oA ρ (av F (fA ρ h)) w i vi)(ha:nH ty t m i h=some (true,out)):
  rD F ρ h w nid out ((do pure (.value (←Instr.mapEntry t vm vi)):Sem Next).run P w):=by
 unfold nH at ha;split at ha
 ·rename_i kt et s0 b0 z0 id ht;split at ha
  ·rename_i k n ks vs tk te hid htk hte;split at ha
   ·rename_i l v hl hv;split at ha
    ·rename_i c hcol;obtain⟨hc,h2⟩:=cA ha;simp only[Option.some.injEq,Prod.mk.injEq,true_and]at h2;subst h2;obtain⟨hc1,hc2⟩:=wA hc;rw[hl]at hv;simp only at hv;obtain⟨hln,rfl⟩:=bZ hl hi;simp only[oA]at hm;obtain⟨b,hp,rfl⟩:=hm;obtain⟨_,_,hlen,es,clk,hb,hes,hent,hold,hapart,hstamp,hborn⟩:=hh.ownMap hid hp;rw[vk hlen]at hcol;obtain⟨hf1,hf2⟩:=y5 (P:=P) (w:=w) hty (k:=k) htk hc1 hln hes hent;have hu:=(hty _ _ ht).tk;simp only[xD]at hu;obtain⟨hu,i0,z,hi0,hz,hzp⟩:=hu;have hck:=jO (P:=P) (w:=w) hty (k:=k) htk hc1 false hln;have hzc:z.cells.toList=te.zero:=by
      obtain⟨i1,g1,_,_,z1,g2,g3⟩:=(hty _ _ hte).info;rw[hi0]at g1;simp only[Option.some.injEq]at g1;subst g1;rw[hz]at g2;simp only[Option.some.injEq]at g2;subst g2;exact g3
     have hzv:(Go.zeroValue et).run P w= .ok z w:=by simp[Go.zeroValue,Go.typeInfo,hi0,hz]
     have hlt:b<w.heap.size:=(yK.mp hb).1;have bN:∀(u:Value) es' clk',v= .c u→(Instr.mapEntry t (.map (some b)) (.agg (l.map (Value.int k)).toArray)).run P w= .ok (.tuple #[u,.int .i64 (jP l ks)]) {w with heap:=w.heap.setIfInBounds b (.map es' clk')}→es'.size=(oB l ks).length→
       (∀j,j<(oB l ks).length→((oB l ks).getD j []).length=n∧∃e,es'[j]?=some e∧e.key= .agg (((oB l ks).getD j []).map (Value.int k)).toArray∧e.val=cI c j)→(∀e∈es'.toList,e.born<clk')→(es'.toList.map (·.born)).Nodup→clk'=(oB l ks).length→(∀(j:Nat) (e:MapEntry),es'[j]?=some e→e.born=j)→c.len=(oB l ks).length→
       rD F ρ h w nid {val:=.tup [v,.c (.int .i64 (jP l ks))],wr:=[(id,.mp k n (oB l ks) c)],touch:=[id]} ((do pure (.value (←Instr.mapEntry t (.map (some b)) (.agg (l.map (Value.int k)).toArray))):Sem Next).run P w):=by
      intro u es' clk' r0 r1 r2 r3 r4 r5 r6 r7 p1;obtain⟨q1,q2⟩:=kA.writeMap (w':={w with heap:=w.heap.setIfInBounds b (.map es' clk')}) (x:=.mp k n (oB l ks) c) hh (by rw[hid];trivial) trivial hp ⟨by simp,⟨rfl,rfl,rfl,hD _⟩⟩
       (fun b' hb'=>(MapKept.heap_set hb).2 b' hb') (fun M' _=>⟨rfl,rfl,p1,b,es',clk',rfl,(MapKept.heap_set hb).1,r2,r3,r4,r5,r6,r7⟩)
      refine⟨.tuple #[u,.int .i64 (jP l ks)],_,ρ,.inl (by simp[r1]),vL.refl _,fun _ _=>rfl,q1,?_,q2⟩;simp only[oA];exact⟨_,rfl,by simp[mA,oA,r0]⟩
     cases hm:sD l ks 0 with
     |none=>
      have hvz:=mV hv hm hc2 hzc hzp;obtain⟨p1,p2,p3⟩:=zQ (ρ:=ρ) (M:=av F (fA ρ h)) (w:=w) (vx:=z) hcol (by rw[hvz];exact oA.of_c _) hlen;obtain⟨q1,q2⟩:=p3 hm;have hK:oB l ks=ks++[l]:=by simp[oB,hJ,hm]
      have hS:jP l ks=(clk:Int):=by simp[jP,hm,hstamp]
      refine bN z (es.push {key:=.agg (l.map (Value.int k)).toArray,val:=z,born:=clk}) (clk+1) hvz ?_ ?_ ?_ ?_ ?_ (by rw[hK,hstamp];simp) (bf hborn (by rw[hstamp,hes])) p1
      ·simp only[Instr.mapEntry,hB,run_underlying hu,hA,MapKept.run_getObj_map hb,hck,hf1,hm,u4,hzv,MapKept.run_setObj_map _ hb,iB,hS];rfl
      ·simp[hK,hes]
      ·intro j hj;rw[hK]at hj⊢;simp only[List.length_append,l4]at hj;by_cases hj2:j<ks.length
       ·obtain⟨g1,e,g2,g3,g4⟩:=hent j hj2;have hg:(ks++[l]).getD j []=ks.getD j []:=by simp[iA,aE hj2]
        rw[hg];refine⟨g1,e,?_,g3,by rw[g4,q2 j hj2]⟩;rw[hN,if_neg (by omega)];exact g2
       ·have:j=ks.length:=by omega
        subst this;have hg:(ks++[l]).getD ks.length []=l:=by simp[iA]
        rw[hg];exact⟨hln,_,by rw[hN,if_pos hes.symm],rfl,q1.symm⟩
      ·intro e he;simp only[b4,List.mem_append,c3]at he;rcases he with he|rfl
       ·exact Nat.lt_succ_of_lt (hold e he)
       ·exact Nat.lt_succ_self _
      ·simp only[b4,List.map_append,eX,l5];refine List.nodup_append.2 ⟨hapart,by simp,?_⟩;intro a ha b hb';simp only[c3]at hb';subst hb';obtain⟨x,hx,rfl⟩:=u3.1 ha;exact Nat.ne_of_lt (hold x hx)
     |some j0=>
      have hvz:=nV hv hm;obtain⟨hj0,hkj0⟩:=hf2 j0 hm;obtain⟨p1,p2,p3⟩:=zQ (ρ:=ρ) (M:=av F (fA ρ h)) (w:=w) (vx:=cI vs j0) hcol (by rw[hvz];exact oA.of_c _) hlen;obtain⟨q1,q2⟩:=p2 j0 hm hj0;obtain⟨g1,e0,g2,g3,g4⟩:=hent j0 hj0;rw[hkj0]at g3;have hK:oB l ks=ks:=by simp[oB,hJ,hm]
      have hS:jP l ks=(j0:Int):=by simp[jP,hm]
      have hb0:=hborn j0 e0 g2;refine bN (cI vs j0) (es.modify j0 fun e=>{e with key:=.agg (l.map (Value.int k)).toArray}) clk hvz ?_ ?_ ?_ ?_ ?_ (by rw[hK,hstamp]) (gO hborn _ (fun _=>rfl)) p1
      ·simp only[Instr.mapEntry,hB,run_underlying hu,hA,MapKept.run_getObj_map hb,hck,hf1,hm,hV,g2,p5,g3,ny,MapKept.run_setObj_map _ hb,iB,hS,hb0];rfl
      ·simp[hK,hes]
      ·intro j hj;rw[hK]at hj⊢;obtain⟨a1,e,a2,a3,a4⟩:=hent j hj;refine⟨a1,?_⟩;rw[xK];by_cases hjj:j0=j
       ·subst hjj;rw[if_pos rfl,g2];exact⟨_,rfl,by simp only[hkj0],by rw[q1];simp only;rw[g4]⟩
       ·rw[if_neg hjj];exact⟨e,a2,a3,by rw[a4,q2 j (Ne.symm hjj)]⟩
      ·intro e he;have hbm:(es.modify j0 fun e=>{e with key:=.agg (l.map (Value.int k)).toArray}).toList.map (·.born)=es.toList.map (·.born):=lZ _ _ _;have:=x4 (f:=(·.born)) he;rw[hbm]at this;obtain⟨y,hy,e1⟩:=u3.1 this;rw[←e1];exact hold y hy
      ·have hbm:(es.modify j0 fun e=>{e with key:=.agg (l.map (Value.int k)).toArray}).toList.map (·.born)=es.toList.map (·.born):=lZ _ _ _;rw[hbm];exact hapart
    ·cases ha
   ·cases ha
  ·cases ha
 ·cases ha
theorem uz {M:Nat→Prop}{q:Nat}{vs c:xN}{x:V}{vx:Value}(hc:uy q vs x=some c)(hx:oA ρ M w x vx):c.len=vs.len∧(q<vs.len→cI c q=vx)∧∀i,i≠q→cI c i=cI vs i:=by
 unfold uy at hc;split at hc
 ·obtain⟨h1,h2⟩:=cA hc;simp only[Option.some.injEq]at h2;subst h2;have:=yE h1;subst this;have:=hx.int;subst this;refine⟨by simp[xN.len],fun hq=>?_,fun i hi=>?_⟩
  ·simp only[xN.len]at hq;simp[cI,iA,hq]
  ·simp only[cI,iA,hT (Ne.symm hi)]
 ·simp only[Option.some.injEq]at hc;subst hc;have:=hx.c;subst this;refine⟨by simp[xN.len],fun hq=>?_,fun i hi=>?_⟩
  ·simp only[xN.len]at hq;simp[cI,iA,hq]
  ·simp only[cI,iA,hT (Ne.symm hi)]
 ·cases hc
theorem eY {t:TypeId}{m s x:V}{vm vs' vx:Value}{out:oF}(hh:kA F ρ h w)(hm:oA ρ (av F (fA ρ h)) w m vm)(hs:oA ρ (av F (fA ρ h)) w s vs')(hx:oA ρ (av F (fA ρ h)) w x vx)(ha:lH m s x h=some (true,out)):
  rD F ρ h w nid out ((do Instr.entryStore t vm vs' vx;pure .skip:Sem Next).run P w):=by
 unfold lH at ha;split at ha
 ·rename_i id q;split at ha
  ·rename_i k n ks vs hid;split at ha
   ·rename_i c hcol;simp only[Option.some.injEq,Prod.mk.injEq]at ha;obtain⟨hq,rfl⟩:=ha;obtain⟨hq1,hq2⟩:=wA hq;have hq1:=of_decide_eq_true hq1;have hq2:=of_decide_eq_true hq2;have:=hs.int;subst this;simp only[oA]at hm;obtain⟨b,hp,rfl⟩:=hm;obtain⟨_,_,hlen,es,clk,hb,hes,hent,hold,hapart,hstamp,hborn⟩:=hh.ownMap hid hp;obtain⟨p1,p2,p3⟩:=uz hcol hx;have hlt:q.toNat<es.size:=by omega
    have hfind:es.findIdx? (fun e=>(e.born:Int)==q)=some q.toNat:=by
     rw[Array.findIdx?_eq_some_iff_getElem];refine⟨hlt,?_,fun j hj=>?_⟩
     ·have:=hborn q.toNat _ (u0 hlt);simp only[this,beq_iff_eq];omega
     ·have hj2:j<es.size:=by omega
      have:=hborn j _ (u0 hj2);simp only[this,beq_iff_eq];omega
    have hrun:(Instr.entryStore t (.map (some b)) (.int .i64 q) vx).run P w= .ok () {w with heap:=w.heap.setIfInBounds b (.map (es.modify q.toNat fun e=>{e with val:=vx}) clk)}:=by
     have hai:(asInt (.int .i64 q)).run P w= .ok q w:=by simp[asInt,asIntOf]
     simp only[Instr.entryStore,hB,MapKept.run_getObj_map hb,hA,hai,hfind,MapKept.run_setObj_map _ hb]
    have hbm:(es.modify q.toNat fun e=>{e with val:=vx}).toList.map (·.born)=es.toList.map (·.born):=ub _ _ _;obtain⟨q1,q2⟩:=kA.writeMap (w':={w with heap:=w.heap.setIfInBounds b (.map (es.modify q.toNat fun e=>{e with val:=vx}) clk)}) (x:=.mp k n ks c) hh (by rw[hid];trivial) trivial hp ⟨by simp,⟨rfl,rfl,rfl,hD _⟩⟩
     (fun b' hb'=>(MapKept.heap_set hb).2 b' hb') (fun M' _=>⟨rfl,rfl,by rw[p1];exact hlen,b,_,clk,rfl,(MapKept.heap_set hb).1,by simpa using hes,fun j hj=>by
      obtain⟨a1,e,a2,a3,a4⟩:=hent j hj;refine⟨a1,?_⟩;rw[xK];by_cases hjj:q.toNat=j
      ·subst hjj;rw[if_pos rfl,a2];exact⟨_,rfl,a3,(p2 (by omega)).symm⟩
      ·rw[if_neg hjj];exact⟨e,a2,a3,by rw[a4,p3 j (Ne.symm hjj)]⟩,fun e he=>by
      have:=x4 (f:=(·.born)) he;rw[hbm]at this;obtain⟨y,hy,e1⟩:=u3.1 this;rw[←e1];exact hold y hy,by rw[hbm];exact hapart,hstamp,gO hborn _ (fun _=>rfl)⟩)
    exact⟨undef,_,ρ,.inr ⟨by simp[hrun],rfl⟩,vL.refl _,fun _ _=>rfl,q1,oA.of_c _,q2⟩
   ·cases ha
  ·cases ha
 ·cases ha
theorem kA.allocIt (hh:kA F ρ h w)(hn:ρ nid=none){id mb gE:Nat}(hp:ρ id=some ⟨some mb,0,0⟩)
  {w':World}(hkp:sG w w')(hw:w'.heap=w.heap.push (.mapIter (some mb) gE #[] gE)):
  kA F (iC ρ nid ⟨some w.heap.size,0,0⟩) (nB h nid (.it (some id) gE (List.range gE) gE)) w'∧qG (fA ρ h) w (fA (iC ρ nid ⟨some w.heap.size,0,0⟩) (nB h nid (.it (some id) gE (List.range gE) gE))) w':=by
 generalize hxe:qA.it (some id) gE (List.range gE) gE=x;have hnew:w'.heap[w.heap.size]?=some (.mapIter (some mb) gE #[] gE):=by rw[hw];simp
 have hold:∀b,b<w.heap.size→w'.heap[b]?=w.heap[b]?:=by
  intro b hb;rw[hw,hN];split
  ·omega
  ·rfl
 have hsub:∀b,fA (iC ρ nid ⟨some w.heap.size,0,0⟩) (nB h nid x) b→fA ρ h b∨w.heap.size≤b:=by
  rintro b ⟨j,m,C,hp,hl⟩;unfold iC at hp;unfold nB at hl;split at hp
  ·simp only[Option.some.injEq,Pl.mk.injEq]at hp;obtain⟨h1,_⟩:=hp;exact .inr (by omega)
  ·rename_i hne;rw[if_neg hne]at hl;exact .inl ⟨j,m,C,hp,hl⟩
 have hext:qG (fA ρ h) w (fA (iC ρ nid ⟨some w.heap.size,0,0⟩) (nB h nid x)) w':=⟨by rw[hw];simp,fun b hb _=>hold b hb,hsub,hkp⟩
 refine⟨⟨vP hh.wf (hD _),?_,?_,hh.low' hext,hh.out' hext⟩,hext⟩
 ·intro j hl;by_cases hj:j=nid
  ·subst hj;refine⟨⟨some w.heap.size,0,0⟩,by simp[iC],?_⟩;have:nB h j x j=x:=by simp[nB]
   rw[this];subst hxe;have hid:id≠j:=by rintro rfl;rw[hn]at hp;cases hp
   refine⟨rfl,rfl,_,mb,#[],rfl,hnew,fun i hi=>?_,⟨List.nodup_range,fun i hi=>by simpa using hi,fun i hi=>by simp[hi],fun hc=>by omega⟩⟩;simp only[Option.some.injEq]at hi;subst hi;simp[iC,hid,hp]
  ·have h1:nB h nid x j=h j:=by simp[nB,hj]
   rw[h1]at hl⊢;obtain⟨p,hp,hb⟩:=hh.rel j hl;refine⟨p,by simp[iC,hj,hp],jB.mono (pE hn) hext hb ?_⟩;intro b hb';refine hold b ?_;obtain⟨pb,pn,pC⟩:=p;dsimp only at hb';subst hb';exact fA.lt hh ⟨j,pn,pC,hp,hl⟩
 ·intro i j b m C m' C' hi hj hpi hpj;have key:∀{l m C},(nB h nid x l).live→iC ρ nid ⟨some w.heap.size,0,0⟩ l=some ⟨some b,m,C⟩→l≠nid→(h l).live∧ρ l=some ⟨some b,m,C⟩∧b<w.heap.size:=by
   intro l m C hk hpk hne;have h1:nB h nid x l=h l:=by simp[nB,hne]
   have h2:iC ρ nid ⟨some w.heap.size,0,0⟩ l=ρ l:=by simp[iC,hne]
   rw[h1]at hk;rw[h2]at hpk;exact⟨hk,hpk,fA.lt hh ⟨l,m,C,hpk,hk⟩⟩
  have new:∀{m C},iC ρ nid ⟨some w.heap.size,0,0⟩ nid=some ⟨some b,m,C⟩→b=w.heap.size:=by intro m C hp;simp[iC]at hp;omega
  by_cases h1:i=nid<;>by_cases h2:j=nid
  ·rw[h1,h2]
  ·subst h1;have:=new hpi;have:=(key hj hpj h2).2.2;omega
  ·subst h2;have:=new hpj;have:=(key hi hpi h1).2.2;omega
  ·obtain⟨a1,a2,_⟩:=key hi hpi h1;obtain⟨b1,b2,_⟩:=key hj hpj h2;exact hh.inj i j b m C m' C' a1 b1 a2 b2
theorem B8 {t:Nat}{m:V}{vm:Value}{out:oF}(hty:uD P ty)(hh:kA F ρ h w)(hm:oA ρ (av F (fA ρ h)) w m vm)(ha:rU ty nid t m h=some (true,out))(hn1:out.new.length=1→ρ nid=none):
  rD F ρ h w nid out ((do pure (.value (←Instr.range t vm)):Sem Next).run P w):=by
 unfold rU at ha;split at ha
 ·rename_i kt et s0 b0 z0 id ht;split at ha
  ·rename_i k n ks vs hid;simp only[Option.some.injEq,Prod.mk.injEq,true_and]at ha;subst ha;simp only[oA]at hm;obtain⟨b,hp,rfl⟩:=hm;obtain⟨_,_,hlen,es,clk,hb,hent⟩:=hh.ownMap hid hp;have hst:=hent.stamp;subst hst;have hu:=(hty _ _ ht).tk;simp only[xD]at hu;have hrun:=run_range_map w t _ _ b es ks.length hu.1 hb;obtain⟨q1,q2⟩:=kA.allocIt (w':=w.alloc (.mapIter (some b) ks.length #[] ks.length)) hh (hn1 rfl) hp ⟨rfl,rfl,rfl,hD _⟩ rfl;refine⟨_,_,_,.inl (by rw[hB,hrun];rfl),pE (hn1 rfl),fun i hi=>?_,q1,?_,q2⟩
   ·simp at hi;have:i≠nid:=by omega
    simp[iC,this]
   ·simp only[oA];exact⟨_,0,0,by simp[iC],by omega,rfl⟩
  ·cases ha
 ·cases ha
theorem cw (k:IntKind)(l:List Int):∀(n off:Nat),off+n=l.length→gN k l off n=(l.drop off).map fun x=>V.c (.int k x)
 |0,off,h=>by simp[gN,List.drop_eq_nil_of_le (show l.length≤off by omega)]
 |n+1,off,h=>by simp only[gN];rw[cw k l n (off+1) (by omega),x3 (show off<l.length by omega),eX];rw[iA,cP (show off<l.length by omega),p5]
theorem Aj {m:V}{vm:Value}{out:oF}(hh:kA F ρ h w)(hm:oA ρ (av F (fA ρ h)) w m vm)(ha:zT m h=some (true,out)):
  rD F ρ h w nid out ((do pure (.value (←Instr.entry vm)):Sem Next).run P w):=by
 unfold zT at ha;split at ha
 ·rename_i id ext;split at ha
  ·rename_i mid gE rem cur hid;split at ha
   ·rename_i k n ks vs hmid;simp only[Option.some.injEq,Prod.mk.injEq]at ha;obtain⟨hcb,rfl⟩:=ha;obtain⟨hcn0,hc0⟩:=wA hcb;have hcn:=aB hcn0;have hc:=aC hc0;subst hcn;simp only[oA]at hm;obtain⟨b,n',C',hp,_,rfl⟩:=hm;obtain⟨_,_,mb,seen,h1,h2,h6⟩:=hh.ownIt hid hp;obtain⟨_,_,hlen,es,clk,h4,h5⟩:=hh.ownMap hmid (h2 mid rfl);have hst:=h5.stamp;subst hst;obtain⟨g1,e,g2,g3,g4⟩:=h5.at_ cur hc;obtain⟨seen0,rfl⟩:=h6.last hc;have hborn:=h5.born cur e g2;have hrun:=run_entry_at (P:=P) w b mb ks.length seen0 es ks.length e (by rw[hborn];exact h1) h4 (by rw[n4];exact Array.mem_of_getElem? g2) h5.apart;refine rD.pure hh (v:=.tuple #[e.key,e.val]) (by rw[hB,hrun];rfl) ?_;simp only[oA];refine⟨_,rfl,?_⟩;simp only[mA,and_true];refine⟨?_,?_⟩
    ·rw[g3,cw k _ n 0 (by omega)];simp only[oA,List.drop_zero];exact⟨_,rfl,by simpa using mA.ints _⟩
    ·rw[g4];cases vs<;>simp[Ta,cI,oA]
   ·cases ha
  ·cases ha
 ·cases ha
theorem Nu {id ext:Nat}{vm:Value}(hh:kA F ρ h w)(hm:oA ρ (av F (fA ρ h)) w (.ptr id 0 ext) vm){k:IntKind}{n:Nat}{ks:List (List Int)}{vs:xN}{mid gE:Nat}{rem:List Nat}{cur:Nat}(hid:h id= .it (some mid) gE rem cur)(hmid:h mid= .mp k n ks vs)(hcn:ks.length=gE)(ty:TypeId):
  (rem=[]∧(Instr.next vm false ty).run P w= .ok (.tuple #[.bool false]) w)∨
  ∃p u1 u2 w',p<rem.length∧(Instr.next vm false ty).run P w= .ok (.tuple #[.bool true,u1,u2]) w'∧kA F ρ (nB h id (.it (some mid) gE (rem.eraseIdx p) (rem.getD p 0))) w'∧qG (fA ρ h) w (fA ρ (nB h id (.it (some mid) gE (rem.eraseIdx p) (rem.getD p 0)))) w':=by
 subst hcn;simp only[oA]at hm;obtain⟨b,n',C',hp,_,rfl⟩:=hm;obtain⟨hn0,hC0,mb,seen,h1,h2,h6⟩:=hh.ownIt hid hp;obtain⟨_,_,hlen,es,clk,h4,h5⟩:=hh.ownMap hmid (h2 mid rfl);have hst:=h5.stamp;subst hst;have hes:=h5.size;subst hn0;subst hC0;rcases run_next_at (P:=P) w ty b mb ks.length ks.length seen es ks.length h1 h4 h5.old (hD _)with⟨e0,hrun⟩|⟨e,he,w1,hal,hrun⟩
 ·left;refine⟨?_,hrun⟩;cases hr:rem with
  |nil=>rfl
  |cons j r=>
   exfalso;have hj:j∈rem:=by rw[hr];simp
   have hlt:=h6.lt j hj;have hlt2:j<es.size:=by omega
   have hg:es[j]?=some es[j]:=u0 hlt2;have hsj:=(h6.iff j hlt).1 hj;have hbj:=h5.born j _ hg;have hm:es[j]∈(leftOf es seen).toList:=by unfold leftOf;rw[n4,Array.mem_filter];exact⟨by simp,by rw[hbj,hsj];rfl⟩
   have:0<(leftOf es seen).toList.length:=List.length_pos_of_mem hm;simp at this;omega
 ·right;obtain⟨hem,hesn⟩:=mem_left he;obtain⟨j,hj⟩:=b6 hem;have hj':es[j]?=some e:=by simpa using hj
  have hjlt:j<ks.length:=by have:=(yK.mp hj').1;omega
  have hbe:=h5.born j e hj';rw[hbe]at hesn;have hjr:j∈rem:=(h6.iff j hjlt).2 hesn;obtain⟨p,hplt,hpj⟩:=List.getElem_of_mem hjr;have hpd:rem.getD p 0=j:=by simp[iA,hplt,hpj]
  have hw1:w1.heap=w.heap:=by rcases hal with rfl|rfl<;>rfl
  have hk1:sG w w1:=by
   rcases hal with rfl|rfl
   ·exact .refl _
   ·exact⟨rfl,rfl,rfl,a7 _⟩
  have h1':w1.heap[b]?=some (.mapIter (some mb) ks.length seen ks.length):=by rw[hw1];exact h1
  have hset:=MapKept.heap_set (o':=.mapIter (some mb) ks.length (seen.push e.born) ks.length) h1';have hleft:Rb ks.length (seen.push e.born) (rem.eraseIdx p) j:=by
   rw[hbe];refine⟨(x5 _ _).nodup h6.nodup,fun i hi=>h6.lt i ((x5 _ _).subset hi),fun i hi=>?_,fun _=>⟨seen,rfl⟩⟩;have hmem:i∈rem.eraseIdx p↔(i∈rem∧i≠j):=by
    rw[List.mem_eraseIdx_iff_getElem?];constructor
    ·rintro⟨q,hqp,hq⟩;refine⟨List.mem_of_getElem? hq,fun e1=>hqp ?_⟩;have hql:q<rem.length:=(List.getElem?_eq_some_iff.mp hq).1;refine(List.getElem?_inj hql h6.nodup).mp ?_;rw[hq,e1,cP hplt,hpj]
    ·rintro⟨hi1,hi2⟩;obtain⟨q,hq⟩:=b6 hi1;refine⟨q,fun e1=>hi2 ?_,hq⟩;rw[e1,cP hplt,hpj]at hq;exact(Option.some.inj hq).symm
   rw[hmem,h6.iff i hi];have hcp:(seen.push j).contains i=(seen.contains i||(i==j)):=by rw[Bool.eq_iff_iff];simp[Array.contains_iff_mem]
   rw[hcp,Bool.or_eq_false_iff];exact and_congr_right fun _=>by rw[beq_eq_false_iff_ne]
  obtain⟨q1,q2⟩:=kA.writeMap (w':=ChangeMaps.setBlock w1 b (.mapIter (some mb) ks.length (seen.push e.born) ks.length)) (x:=.it (some mid) ks.length (rem.eraseIdx p) (rem.getD p 0)) hh (by rw[hid];trivial) trivial hp ⟨by simp[ChangeMaps.setBlock,hw1],hk1.trans ⟨rfl,rfl,rfl,hD _⟩⟩
   (fun b' hb'=>by rw[show(ChangeMaps.setBlock w1 b (.mapIter (some mb) ks.length (seen.push e.born) ks.length)).heap[b']?=w1.heap[b']? from hset.2 b' hb',hw1])
   (fun M' hM'=>⟨rfl,rfl,b,mb,seen.push e.born,rfl,hset.1,h2,by rw[hpd];exact hleft⟩)
  exact⟨p,e.key,e.val,_,hplt,hrun,q1,q2⟩
end
end Go.Proofs.YteaakcmkpacpaaaGreat.Ev
