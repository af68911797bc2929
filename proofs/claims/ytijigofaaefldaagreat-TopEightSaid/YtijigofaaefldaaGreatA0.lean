import Derived.WalkKit
import Derived.Test.YtijigofaaefldaaGreatProg
import Derived.RangeFuncSeq
import Derived.Laws.StructEq
import Derived.Laws.BytesArg
import Derived.Lib.ConvBytes
import Derived.Laws.IdiomStrings
open Option.some renaming injEq→hA,inj→yK
open Go.Result renaming andThen_ok→hB
open Prod.mk renaming injEq→hD
open Go.Sem renaming run_bind→aE,run_pure→hF,run_ite→j6
open Nat renaming le_refl→hE,mul_le_mul_right→xK,zero_add→hN,lt_of_lt_of_le→hW,add_mul→hX,dvd_of_mod_eq_zero→hY,add_assoc→p0,div_mul_cancel→y0,mul_mod_left→p1,sub_self→l3,add_zero→n4,eq_of_beq_eq_true→p4,mul_div_cancel→u4,mul_one→l5,add_comm→a6,succ_mul→b6,le_of_mul_le_mul_right→p6,mul_eq_zero→l7,div_one→p7,le_of_ble_eq_true→s7,div_mul_le_self→e8,le_trans→l8,zero_div→r8
open List renaming getD_eq_getElem?_getD→zE,getElem?_append_left→hG,getElem?_append_right→hI,getElem?_take_of_lt→hK,replicate→hP,getElem?_eq_getElem→hS,length_cons→hT,length_eq_zero_iff→hU,length_nil→hV,getElem?_toArray→hZ,getElem?_take→o0,getElem?_cons_succ→q0,replicate_succ→r0,take_of_length_le→u0,getElem?_eq_none→x0,append_assoc→l1,getElem?_cons_zero→n1,getElem?_drop→x1,getElem?_map→p2,drop_eq_getElem_cons→x2,getElem?_eq_some_iff→y2,map_cons→n3,mem_cons→p3,length_map→x3,getElem?_set_ne→s4,ext_getElem?→w4,flatten_cons→b5,set_eq_take_append_cons_drop→j5,length_take→n5,not_mem_nil→p5,length_replicate→s5,length_set→w5,mem_of_getElem?→x5,size_toArray→s6,all_eq_true→a7,cons_append→b7,length_drop→c7,nil_append→e7,mem_cons_of_mem→w7,map_take→y7,drop_succ_cons→b8,take_succ_cons→c8
open Bool renaming and_eq_true→hJ,false_eq_true→c0
open Option renaming map_eq_some_iff→hQ,map_some→j4
open Array renaming getElem?_append_left→y1,getElem?_toList→l4,length_toList→e6,getElem?_eq_some_iff→l6,getElem?_eq_getElem→w6,size_range→x6,getElem?_modify→r7,getElem?_push→a8
open Go.Builtin renaming append_→w3,copy_→x7,len_→k8
set_option linter.unusedVariables false
set_option linter.unusedSimpArgs false
namespace Go.Proofs.YtijigofaaefldaaGreat.Ev
noncomputable abbrev E8:Program:=Tryz.prog
structure vF where
 l:Nat
 cap:Nat
 J:List Nat→List (List Int×Int)→World→Prop
inductive Fv where
 |ints (k:IntKind) (l:List Int)
 |bools (l:List Bool)
 |strs (l:List ByteArray)
def J2:Fv→Nat→Value
 | .ints k l,i=>.int k (l.getD i 0)
 | .bools l,i=>.bool (l.getD i false)
 | .strs l,i=>.string (l.getD i ByteArray.empty)
def iK:List Fv→Nat→List Value
 | [],_=>[]
 |c::r,i=>J2 c i::iK r i
inductive V where
 |c (v:Value)
 |poison
 |ptr (id off ext:Nat)
 |sw (id w:Nat)
 |sl (id w off len:Nat)
 |il (k:IntKind) (w:Nat) (l:List Int)
 |iv (n:Nat) (cols:List Fv)
 |ilp (k:IntKind) (l:List Int) (off ext:Nat)
 |ivp (cols:List Fv) (i off ext:Nat)
 |agg (cs:List V)
 |tup (vs:List V)
 |fn (f:FuncId) (first cap:List V)
 |rp (pid q w:Nat)
 |ep (pid q i w:Nat)
 |tp (id i w:Nat)
 |inl (k:IntKind) (s:Nat) (rows:List (List Int))
 |inlp (k:IntKind) (s:Nat) (rows:List (List Int)) (i:Nat)
 |yv (id:Nat)
inductive RK where
 |int (k:IntKind)
 |zi
 |qr
 |sh
abbrev RK.El:RK→Type
 | .int _=>Int
 | .zi=>Bool×List Int
 | .qr=>Bool×List Int×List Int
 | .sh=>List Int×Int
def RK.w:RK→Nat
 | .int _=>1
 | .zi=>2
 | .qr=>3
 | .sh=>2
def RK.z:(r:RK)→r.El
 | .int _=>(0:Int)
 | .zi=>(false,[])
 | .qr=>(false,[],[])
 | .sh=>([],0)
def RK.cells:(r:RK)→r.El→List V
 | .int k,x=>[.c (.int k x)]
 | .zi,x=>[.c (.bool x.1),.il .u32 1 x.2]
 | .qr,x=>[.c (.bool x.1),.il .u32 1 x.2.1,.il .u32 1 x.2.2]
 | .sh,x=>[.il .i64 1 x.1,.c (.int .i64 x.2)]
def RK.flat (r:RK)(l:List r.El):List V:=l.flatMap r.cells
inductive oA where
 |dead
 |ints (k:IntKind) (l:List Int)
 |vals (cs:List V)
 |tw (r:RK) (l:List r.El)
 |po (s pid:Nat) (π:List Nat)
 |pool (r:RK) (rows:List (List r.El))
 |amb (A:vF) (pre:List (List Int×Int))
structure St where
 T:List (Nat×V)
 H:List oA
def St.nil:St:=⟨[],[]⟩
inductive Ex where
 |normal
 |exit (id:Nat)
 |goto (l:Nat)
 |ret (v:V) (bs:List oA)
inductive TK where
 |int (k:IntKind)|bool|str
 |slice (e:Nat)|arr (n e:Nat)
 |struct (fs:List (Nat×Nat))
 |ptr (e:Nat)|func|other
structure TI where
 tk:TK
 size:Nat
 bytes:Nat
 zero:List Value
def TI.isAgg (t:TI):Bool:=match t.tk with| .struct _=>true| .arr _ _=>true|_=>false
def TI.isSl (t:TI):Bool:=match t.tk with| .slice _=>true|_=>false
inductive wm where
 |one (v:V) (bs:List oA)
 |two (b:Bool) (v1:V) (bs1:List oA) (v2:V) (bs2:List oA)
def wm.pick:wm→V×List oA
 | .one v bs=>(v,bs)
 | .two b v1 bs1 v2 bs2=>bif b then(v1,bs1)else(v2,bs2)
def wm.go {R:Type}(k:V→List oA→Option R):wm→Option R
 | .one v bs=>k v bs
 | .two b v1 bs1 v2 bs2=>bif b then k v1 bs1 else k v2 bs2
structure rA where
 A:Type
 dec:List V→List oA→Option (Option A×(A→wm))
 fresh:Nat
 imm:List Bool
inductive Sh where
 |any
 |row (k:IntKind) (w:Nat)
 |part (k:IntKind) (w:Nat)
 |il (k:IntKind) (w:Nat)
 |inl (k:IntKind) (w:Nat)
 |box (cs:List Sh)
 |recd (cs:List Sh)
 |tup (cs:List Sh)
 |mrow (r:RK)
 |vrow (cs:List Sh)
 |vrows (k:IntKind) (s:Nat)
 |fnc (cs:List Sh)
structure uB where
 keep:List (Nat×Sh)
 out:List (Nat×Sh)
structure mF where
 run:{R:Type}→List V→List oA→(Ex→St→Option R)→Option R
structure aC where
 ty:Nat→Option TI
 tab:Nat→Option rA
 hint:Nat→Option uB
 cut:Nat→Option mF
 N:Nat
 res:List ResultVar
 rsh:List Sh
 nb:Nat
 ntmps:Nat
 own:Bool:=false
 bsh:List (Nat×List Sh):=[]
 yld:Bool:=false
 mark:Bool:=false
 lo:Nat:=0
def F9:IntKind→Nat
 | .i8=>0| .i16=>1| .i32=>2| .i64=>3| .u8=>4| .u16=>5| .u32=>6| .u64=>7
def dQ (a b:IntKind):Bool:=Nat.beq (F9 a) (F9 b)
def cE:List (Nat×V)→Nat→V
 | [],_=>.poison
 |(a,v)::r,t=>bif Nat.beq a t then v else cE r t
def jA:List oA→Nat→oA
 | [],_=>.dead
 |b::_,0=>b
 |_::r,n+1=>jA r n
def oD:List oA→Nat→oA→List oA
 | [],_,_=>[]
 |_::r,0,x=>x::r
 |b::r,n+1,x=>b::oD r n x
def we:List oA→List (Nat×oA)→List oA
 |H,[]=>H
 |H,(i,b)::r=>we (oD H i b) r
def Ak (H:List oA)(nid:Nat):List oA→List oA
 | []=>H
 |b::r=>Ak (oD H nid b) (nid+1) r
def fj:Value→V
 | .agg cs=>.agg (cs.toList.map .c)
 |v=>.c v
def Hg (T:List (Nat×V)):Operand→V
 | .tmp t=>cE T t
 | .const v=>fj v
 | .global _=>.poison
 | .func f=>.fn f [] []
def pJ (w n:Nat):Nat:=match w with
 |1=>n
 |w=>n/w
def rH (w n:Nat):Nat:=match w with
 |1=>n
 |w=>n*w
def iE:V→Option (List V)
 | .agg cs=>some cs
 | .poison=>none
 | .c (.agg _)=>none
 |v=>some [v]
structure jJ where
 val:V
 wr:List (Nat×oA):=[]
 new:List oA:=[]
 touch:List Nat:=[]
abbrev pZ:=Option (Bool×jJ)
def kC (v:V):pZ:=some (true,{val:=v})
def eE (b:Bool)(v:V):pZ:=some (b,{val:=v})
def tI:V:=.c (.tuple #[])
def bH (t:TI):List V:=t.zero.map .c
def xN (t:TI)(cs:List V):V:=bif t.isAgg then .agg cs else match cs with|v::_=>v| []=>.agg []
def uX (k:IntKind)(l:List Int):Nat→Nat→List V
 |_,0=>[]
 |off,n+1=>.c (.int k (l.getD off 0))::uX k l (off+1) n
def bO:List V→Nat→Option (List V)
 |_,0=>some []
 | [],_+1=>none
 |v::r,n+1=>(bO r n).map (v:: ·)
def qO:List V→Nat→List V
 |l,0=>l
 | [],_+1=>[]
 |_::r,n+1=>qO r n
def nh:List V→Nat→Option V
 | [],_=>none
 |v::_,0=>some v
 |_::r,n+1=>nh r n
def cI (t:TI)(off:Nat):oA→Option V
 | .dead=>none
 | .tw _ _=>none
 | .pool _ _=>none
 | .amb _ _=>none
 | .ints k l=>some (bif t.isAgg then .agg (uX k l off t.size)else .c (.int k (l.getD off 0)))
 | .po s pid π=>bif t.isAgg then none else some (.rp pid (π.getD off 0) s)
 | .vals cs=>match bO (qO cs off) t.size with
  |none=>none
  |some cs=>some (xN t cs)
def pN (k:IntKind):List Int→Nat→List V→Option (List Int)
 |l,_,[]=>some l
 |l,off,.c (.int k' n)::r=>bif dQ k k' then pN k (l.set off n) (off+1) r else none
 |_,_,_::_=>none
def xJ:List V→Nat→List V→Option (List V)
 |cs,_,[]=>some cs
 | [],_,_::_=>none
 |_::cs,0,v::r=>(xJ cs 0 r).map (v:: ·)
 |c::cs,off+1,v::r=>(xJ cs off (v::r)).map (c:: ·)
def sQ:V→Bool
 | .c (.agg _)=>false
 | .c (.tuple _)=>false
 | .poison=>false
 | .agg _=>false
 | .tup _=>false
 |_=>true
def jH (off:Nat)(vs:List V):oA→Option oA
 | .dead=>none
 | .tw _ _=>none
 | .pool _ _=>none
 | .amb _ _=>none
 | .ints k l=>(pN k l off vs).map (.ints k)
 | .po s pid π=>(match vs with
  | [.rp pid' q s']=>bif Nat.beq pid pid'&&Nat.beq s s' then some (.po s pid (π.set off q))else none
  |_=>none)
 | .vals cs=>bif vs.all sQ then(xJ cs off vs).map .vals else none
def oI (k:IntKind):List V→Option (List Int)
 | []=>some []
 | .c (.int k' n)::r=>bif dQ k k' then(oI k r).map (n:: ·)else none
 |_::_=>none
def tZ (t:TI):Option IntKind:=match t.zero with
 | .int k _::r=>bif r.all (fun| .int k' _=>dQ k k'|_=>false)then some k else none
 |_=>none
def jk (t:TI)(cs:List V):Option oA:=match tZ t with
 |some k=>(oI k cs).map (.ints k)
 |none=>some (.vals cs)
def mK (kG:Nat→Option (Nat×Nat)):List V→List (Nat×V)→Option (List V)
 |cs,[]=>some cs
 |cs,(i,v)::r=>match kG i with
  |none=>none
  |some (off,size)=>match iE v with
   |some vs=>bif Nat.beq vs.length size&&Nat.blt 0 size then
    (match xJ cs off vs with|some cs=>mK kG cs r|none=>none)else none
   |none=>none
def wI (ty:Nat→Option TI)(fs:List (Nat×Nat))(i:Nat):Option (Nat×Nat):=match fs[i]? with
 |some (t,off)=>match ty t with|some ti=>some (off,ti.size)|none=>none
 |none=>none
def yZ:Nat→List V→List V
 |0,_=>[]
 |n+1,l=>l++yZ n l
def Dp (a b:Int):Int:=if b>a then b else a
def Fc (a b:Int):Int:=if b<a then b else a
def bk (op:BinOp)(k:IntKind)(a b:Int):Option Int:=match op with
 | .and=>some (k.wrap (BitVec.ofInt k.bits a&&& BitVec.ofInt k.bits b).toNat)
 | .or=>some (k.wrap (BitVec.ofInt k.bits a|||BitVec.ofInt k.bits b).toNat)
 | .xor=>some (k.wrap (BitVec.ofInt k.bits a^^^BitVec.ofInt k.bits b).toNat)
 | .andNot=>some (k.wrap (BitVec.ofInt k.bits a&&& ~~~ BitVec.ofInt k.bits b).toNat)
 |_=>none
def zw (op:BinOp)(k:IntKind)(a b:Int):pZ:=match op with
 | .add=>kC (.c (.int k (k.wrap (a+b))))
 | .sub=>kC (.c (.int k (k.wrap (a-b))))
 | .mul=>kC (.c (.int k (k.wrap (a*b))))
 | .quo=>eE (!(b==0)) (.c (.int k (k.wrap (a.tdiv b))))
 | .rem=>eE (!(b==0)) (.c (.int k (a.tmod b)))
 | .eql=>kC (.c (.bool (a==b)))
 | .neq=>kC (.c (.bool (a != b)))
 | .lss=>kC (.c (.bool (decide (a<b))))
 | .leq=>kC (.c (.bool (decide (a≤b))))
 | .gtr=>kC (.c (.bool (decide (a>b))))
 | .geq=>kC (.c (.bool (decide (a≥b))))
 | .and| .or| .xor| .andNot=>match bk op k a b with
  |some n=>kC (.c (.int k n))
  |none=>none
 |_=>none
def fW (op:BinOp)(k:IntKind)(a b:Int):pZ:=match op with
 | .shl=>eE (decide (0≤b)) (.c (.int k (k.wrap (a*2^(min b.toNat k.bits)))))
 | .shr=>eE (decide (0≤b)) (.c (.int k (a.fdiv (2^(min b.toNat k.bits)))))
 |_=>none
def Hf (ti:Option TI)(x y:V):Option Bool:=match ti with
 |some ⟨.int _,_,_,_⟩=>(match x,y with
  | .c (.int k a),.c (.int k' b)=>bif dQ k k' then some (a==b)else none
  |_,_=>none)
 |some ⟨.bool,_,_,_⟩=>(match x,y with
  | .c (.bool a),.c (.bool b)=>some (a==b)
  |_,_=>none)
 |_=>none
def vJ (ty:Nat→Option TI):List (Nat×Nat)→Nat→List V→List V→Option Bool
 | [],_,[],[]=>some true
 | [(t,off)],i,[x],[y]=>bif Nat.beq off i then Hf (ty t) x y else none
 |(t,off)::r,i,x::cx,y::cy=>bif Nat.beq off i then
   (match Hf (ty t) x y,vJ ty r (i+1) cx cy with
    |some e,some e'=>some (e&&e')
    |_,_=>none)else none
 |_,_,_,_=>none
def cS (ty:Nat→Option TI)(t:Nat)(x y:List V):Option Bool:=match ty t with
 |some ⟨.struct fs,_,_,_⟩=>vJ ty fs 0 x y
 |_=>none
def G2 (ty:Nat→Option TI)(t:Nat)(op:BinOp)(x y:V):pZ:=match op,x,y with
 | .shl,.c (.int k a),.c (.int _ b)=>fW .shl k a b
 | .shr,.c (.int k a),.c (.int _ b)=>fW .shr k a b
 |op,.c (.int k a),.c (.int k' b)=>bif dQ k k' then zw op k a b else none
 | .eql,.c (.bool a),.c (.bool b)=>(match ty t with|some ⟨.bool,_,_,_⟩=>kC (.c (.bool (a==b)))|_=>none)
 | .neq,.c (.bool a),.c (.bool b)=>(match ty t with|some ⟨.bool,_,_,_⟩=>kC (.c (.bool (!(a==b))))|_=>none)
 | .add,.c (.string a),.c (.string b)=>eE (decide (((a.size+b.size:Nat):Int)≤9223372036854775807)) (.c (.string (a++b)))
 | .eql,.c (.string a),.c (.string b)=>kC (.c (.bool (a.toList==b.toList)))
 | .neq,.c (.string a),.c (.string b)=>kC (.c (.bool (!(a.toList==b.toList))))
 | .eql,.agg a,.agg b=>match cS ty t a b with|some e=>kC (.c (.bool e))|none=>none
 | .neq,.agg a,.agg b=>match cS ty t a b with|some e=>kC (.c (.bool (!e)))|none=>none
 |_,_,_=>none
def Ax (b:Bool)(x y:V):V:=match x,y with
 | .c (.bool p),.c (.bool q)=>.c (.bool (bif b then p else q))
 |x,y=>bif b then x else y
def zD (l:List Int):ByteArray:=⟨(l.map fun n=>UInt8.ofNat n.toNat).toArray⟩
def rG (s:ByteArray):List Int:=s.data.toList.map fun b=>(b.toNat:Int)
def pG (s:ByteArray)(i:Nat):Int:=((s.data.toList.getD i 0).toNat:Int)
def uY (h:Nat→oA):V→Option (IntKind×Nat×List Int×List Nat)
 | .sw id w=>match h id with| .ints k l=>some (k,w,l,[id])|_=>none
 | .sl id w off len=>match h id with| .ints k l=>some (k,w,(l.drop off).take (rH w len),[id])|_=>none
 | .il k w l=>some (k,w,l,[])
 |_=>none
def jw (h:Nat→oA):V→Option (Nat×List V×List Nat)
 | .sw id w=>match h id with| .vals l=>some (w,l,[id])|_=>none
 |_=>none
def gO (h:Nat→oA):V→Option (Nat×List Nat)
 | .c (.slice none 0 0)=>some (0,[])
 | .c (.string s)=>some (s.size,[])
 | .sw id w=>match h id with
  | .ints _ l=>some (pJ w l.length,[id])
  | .vals l=>some (pJ w l.length,[id])
  | .tw r l=>bif Nat.beq w r.w then some (l.length,[id])else none
  | .po _ _ π=>bif Nat.beq w 1 then some (π.length,[id])else none
  | .dead=>none
  | .pool _ _=>none
  | .amb _ _=>none
 | .sl _ _ _ len=>some (len,[])
 | .il _ w l=>some (pJ w l.length,[])
 | .iv n _=>some (n,[])
 | .inl _ _ l=>some (l.length,[])
 | .rp pid q w=>match h pid with
  | .pool r rows=>bif Nat.beq w r.w then some ((rows.getD q []).length,[pid])else none
  |_=>none
 |_=>none
def A6:TK→V→Bool
 | .str,.c (.string _)=>true
 | .slice _,.c (.string _)=>false
 | .slice _,_=>true
 |_,_=>false
def Al:V:=.c (.slice none 0 0)
def yJ (h:Nat→oA)(k:IntKind)(size:Nat):V→Option (List Int×List Nat)
 | .c (.slice none 0 0)=>some ([],[])
 | .c (.string s)=>bif dQ k .u8&&Nat.beq size 1 then some (rG s,[])else none
 |v=>match uY h v with
  |some (k',w,l,t)=>bif dQ k k'&&Nat.beq w size then some (l,t)else none
  |none=>none
def zJ (h:Nat→oA)(size:Nat):V→Option (List V×List Nat)
 | .c (.slice none 0 0)=>some ([],[])
 |v=>match jw h v with
  |some (w,l,t)=>bif Nat.beq w size&&l.all sQ then some (l,t)else none
  |none=>none
def dG (a b:Int):Bool:=decide (a=b)
def lB (n b:Nat):Bool:=decide (n*b≤70368744177664)
def jd:V→Option (List Int)
 | .il k w l=>bif dQ k .u32&&Nat.beq w 1 then some l else none
 | .c (.slice none 0 0)=>some []
 |_=>none
def oh:V→Option (List Int)
 | .il k w l=>bif dQ k .i64&&Nat.beq w 1 then some l else none
 | .c (.slice none 0 0)=>some []
 |_=>none
def RK.of:(r:RK)→List V→Option r.El
 | .int k,[.c (.int k' n)]=>bif dQ k k' then some n else none
 | .zi,[.c (.bool b),v]=>(match jd v with|some l=>some (b,l)|none=>none)
 | .qr,[.c (.bool b),v,u]=>(match jd v,jd u with|some l,some m=>some (b,l,m)|_,_=>none)
 | .sh,[v,.c (.int k n)]=>bif dQ k .i64 then(match oh v with|some l=>some (l,n)|none=>none)else none
 |_,_=>none
def Dz (t:TI):Option RK:=match t.zero with
 | [.int k z]=>bif z==0 then some (.int k)else none
 | [.bool b,.slice none 0 0]=>bif b then none else some .zi
 | [.bool b,.slice none 0 0,.slice none 0 0]=>bif b then none else some .qr
 | [.slice none 0 0,.int k z]=>bif dQ k .i64&&z==0 then some .sh else none
 |_=>none
def RK.blk:(r:RK)→List r.El→oA
 | .int k,l=>.ints k l
 | .zi,l=>.tw .zi l
 | .qr,l=>.tw .qr l
 | .sh,l=>.tw .sh l
def RK.row:(r:RK)→oA→Option (List r.El)
 | .int k,.ints k' l=>bif dQ k k' then some l else none
 | .zi,.tw .zi l=>some l
 | .qr,.tw .qr l=>some l
 | .sh,.tw .sh l=>some l
 |_,_=>none
def Ke:oA→Option RK
 | .ints k _=>some (.int k)
 | .tw r _=>some r
 |_=>none
def sJ (ti:TI)(h:Nat→oA)(nid:Nat)(d s:V):pZ:=match s with
 | .sw ids w1=>match h ids with
  | .vals [.sw g w]=>match Ke (h g)with
   |some r=>match r.row (h g)with
    |some l=>bif Nat.beq w1 1&&Nat.beq ti.size 1&&(Nat.beq w r.w&& !(Nat.beq g ids))then(match d with
     | .c (.slice none 0 0)=>some (lB 1 ti.bytes,{val:=.sw nid 1,wr:=[(g,.dead)],new:=[.po w (nid+1) [0],.pool r [l]],touch:=[ids,g]})
     | .sw id w2=>match h id with
      | .po w' pid π=>(match h pid with
       | .pool r' rows=>(match r'.row (h g)with
        |some l'=>bif Nat.beq w w'&&Nat.beq w r'.w&&Nat.beq w2 1&&(!(Nat.beq g id)&& !(Nat.beq g pid))then
          some (lB (π.length+1) ti.bytes,{val:=.sw nid 1,wr:=[(g,.dead),(pid,.pool r' (rows++[l'])),(id,.dead)],new:=[.po w pid (π++[rows.length])],touch:=[id,pid,ids,g]})else none
        |none=>none)
       |_=>none)
      |_=>none
     |_=>none)else none
    |none=>none
   |none=>none
  |_=>none
 |_=>none
def fY (h:Nat→oA)(s:V):Bool:=match s with
 | .sw ids _=>(match h ids with| .vals [.c (.slice none 0 0)]=>true|_=>false)
 |_=>false
def wM (ti:TI)(h:Nat→oA)(nid:Nat)(d s:V):pZ:=bif !(Nat.blt 0 ti.bytes&&Nat.blt 0 ti.size)then none else match tZ ti with
 |some k=>match yJ h k ti.size s with
  |none=>none
  |some (src,t)=>match d with
   | .c (.slice none 0 0)=>some (lB (pJ ti.size src.length) ti.bytes,{val:=.sw nid ti.size,new:=[.ints k src],touch:=t})
   | .sw id w=>match h id with
    | .ints k' l=>bif dQ k k'&&Nat.beq w ti.size then
      some (lB (pJ ti.size (l.length+src.length)) ti.bytes,{val:=.sw nid ti.size,wr:=[(id,.dead)],new:=[.ints k (l++src)],touch:=id::t})else none
    |_=>none
   |_=>none
 |none=>bif ti.isSl&& !(fY h s)then sJ ti h nid d s else match zJ h ti.size s with
  |none=>none
  |some (src,t)=>match d with
   | .c (.slice none 0 0)=>some (lB (pJ ti.size src.length) ti.bytes,{val:=.sw nid ti.size,new:=[.vals src],touch:=t})
   | .sw id w=>match h id with
    | .vals l=>bif Nat.beq w ti.size then
      some (lB (pJ ti.size (l.length+src.length)) ti.bytes,{val:=.sw nid ti.size,wr:=[(id,.dead)],new:=[.vals (l++src)],touch:=id::t})else none
    |_=>none
   |_=>none
def zF (l:List Int)(off:Nat)(x:List Int):List Int:=l.take off++x++l.drop (off+x.length)
def gz (ti:TI)(h:Nat→oA)(d s:V):pZ:=match tZ ti with
 |none=>none
 |some k=>match yJ h k ti.size s with
  |none=>none
  |some (src,t)=>match d with
   | .sw id w=>match h id with
    | .ints k' l=>bif dQ k k'&&Nat.beq w ti.size then
      let n:Nat:=min (pJ w src.length) (pJ w l.length)
      some (true,{val:=.c (.int .i64 (n:Int)),wr:=[(id,.ints k (zF l 0 (src.take (rH w n))))],touch:=id::t})else none
    |_=>none
   |_=>none
def nK (f:Int→Int→Int)(k:IntKind):Int→List V→Option Int
 |a,[]=>some a
 |a,.c (.int k' b)::r=>bif dQ k k' then nK f k (f a b) r else none
 |_,_::_=>none
def df (f:Int→Int→Int):List V→pZ
 | .c (.int k a)::r=>match nK f k a r with|some n=>kC (.c (.int k n))|none=>none
 |_=>none
def gM (ty:Nat→Option TI)(nid:Nat)(b:Builtin)(ts:List Nat)(xs:List V)(h:Nat→oA):pZ:=match b,xs with
 | .len,[x]=>match ts with
  |t::_=>(match ty t,gO h x with
   |some ti,some (n,tc)=>bif A6 ti.tk x then some (true,{val:=.c (.int .i64 (n:Int)),touch:=tc})else none
   |_,_=>none)
  |_=>none
 | .max,xs=>df Dp xs
 | .min,xs=>df Fc xs
 | .append,[d,s]=>match ts with
  |t::t2::_=>match ty t,ty t2 with
   |some ⟨.slice e,_,_,_⟩,some t2=>match t2.tk with
    | .slice _| .str=>(match ty e with|some ti=>wM ti h nid d s|none=>none)
    |_=>none
   |_,_=>none
  |_=>none
 | .copy,[d,s]=>match ts with
  |t::_=>match ty t with
   |some ⟨.slice e,_,_,_⟩=>match ty e with|some ti=>gz ti h d s|none=>none
   |_=>none
  |_=>none
 |_,_=>none
def rP (ty:Nat→Option TI)(t:Nat)(x i:V)(h:Nat→oA):pZ:=match i,ty t with
 | .c (.int _ n),some ⟨.slice e,_,_,_⟩=>match ty e with
  |none=>none
  |some te=>match x with
   | .sw id w=>bif Nat.beq w te.size then match h id with
    | .ints _ l=>some (decide (0≤n)&&decide (n<(pJ w l.length:Nat)),{val:=.ptr id (rH w n.toNat) w,touch:=[id]})
    | .vals l=>some (decide (0≤n)&&decide (n<(pJ w l.length:Nat)),{val:=.ptr id (rH w n.toNat) w,touch:=[id]})
    | .tw r l=>bif Nat.beq w r.w then some (decide (0≤n)&&decide (n<(l.length:Nat)),{val:=.tp id n.toNat w,touch:=[id]})else none
    | .po _ _ π=>bif Nat.beq w 1 then some (decide (0≤n)&&decide (n<(π.length:Nat)),{val:=.ptr id n.toNat 1,touch:=[id]})else none
    | .dead=>none
    | .pool _ _=>none
    | .amb _ _=>none
    else none
   | .rp pid q w=>bif Nat.beq w te.size then(match h pid with
    | .pool r rows=>bif Nat.beq w r.w then some (decide (0≤n)&&decide (n<((rows.getD q []).length:Nat)),{val:=.ep pid q n.toNat w,touch:=[pid]})else none
    |_=>none)else none
   | .inl k s rows=>bif Nat.beq te.size 1&&te.isSl then eE (decide (0≤n)&&decide (n<(rows.length:Nat))) (.inlp k s rows n.toNat)else none
   | .sl id w off len=>bif Nat.beq w te.size then eE (decide (0≤n)&&decide (n<(len:Int))) (.ptr id (off+rH w n.toNat) w)else none
   | .il k w l=>bif Nat.beq w te.size then eE (decide (0≤n)&&decide (n<(pJ w l.length:Nat))) (.ilp k l (rH w n.toNat) w)else none
   | .iv m cols=>bif Nat.beq cols.length te.size then eE (decide (0≤n)&&decide (n<(m:Int))) (.ivp cols n.toNat 0 cols.length)else none
   |_=>none
 | .c (.int _ n),some ⟨.arr len e,_,_,_⟩=>match ty e with
  |none=>none
  |some te=>match x with
   | .ptr id off ext=>bif Nat.ble (len*te.size) ext then eE (decide (0≤n)&&decide (n<(len:Int))) (.ptr id (off+rH te.size n.toNat) te.size)else none
   | .ilp k l off ext=>bif Nat.ble (len*te.size) ext then eE (decide (0≤n)&&decide (n<(len:Int))) (.ilp k l (off+rH te.size n.toNat) te.size)else none
   | .ivp l i off ext=>bif Nat.ble (len*te.size) ext then eE (decide (0≤n)&&decide (n<(len:Int))) (.ivp l i (off+rH te.size n.toNat) te.size)else none
   |_=>none
 |_,_=>none
def ja (te:TI)(cs:List V):Option (IntKind×List Int):=match te.tk with
 | .int k=>(match oI k cs with|some l=>some (k,l)|none=>none)
 |_=>none
def cr (ty:Nat→Option TI)(t:Nat)(x i:V):pZ:=match i,ty t,x with
 | .c (.int _ n),some ⟨.str,_,_,_⟩,.c (.string s)=>eE (decide (0≤n)&&decide (n<(s.size:Int))) (.c (.int .u8 (pG s n.toNat)))
 | .c (.int _ n),some ⟨.arr len e,_,_,_⟩,.agg cs=>match ty e with
  |none=>none
  |some te=>match ja te cs with
   |some (k,l)=>bif Nat.beq l.length len&&Nat.beq te.size 1 then eE (decide (0≤n)&&decide (n<(len:Int))) (.c (.int k (l.getD n.toNat 0)))else none
   |none=>match bO (qO cs (n.toNat*te.size)) te.size with
    |none=>none
    |some cs=>bif Nat.blt 0 te.size then eE (decide (0≤n)&&decide (n<(len:Int))) (xN te cs)else none
 |_,_,_=>none
def xp:Option V→Int→Option Int
 |none,d=>some d
 |some (.c (.int _ n)),_=>some n
 |some _,_=>none
def fU (ty:Nat→Option TI)(t:Nat)(x:V)(lo hi mx:Option V)(h:Nat→oA):pZ:=match ty t with
 |none=>none
 |some ti=>bif hi.isNone&&mx.isSome then none else match gO h x with
  |none=>(match ti.tk,x with
   | .arr n e,.ptr id off ext=>match ty e,xp lo 0,xp hi n,xp mx n with
    |some te,some l,some h,some m=>bif Nat.ble (n*te.size) ext&&Nat.blt 0 te.size then
      eE (decide (0≤l)&&decide (l≤h)&&decide (h≤m)&&decide (m≤(n:Int))) (.sl id te.size (off+rH te.size l.toNat) (h.toNat-l.toNat))else none
    |_,_,_,_=>none
   |_,_=>none)
  |some (len,tc)=>match xp lo 0,xp hi len,xp mx len with
   |some l,some h',some m=>
    let ok:=decide (0≤l)&&decide (l≤h')&&decide (h'≤m)&&decide (m≤(len:Int))
    match ti.tk,x with
    | .str,.c (.string s)=>(match mx with|none=>eE ok (.c (.string (s.extract l.toNat h'.toNat)))|some _=>none)
    | .slice e,.sw id w=>(match ty e with
     |some te=>bif Nat.beq w te.size then some (ok,{val:=.sl id w (rH w l.toNat) (h'.toNat-l.toNat),touch:=tc})else none
     |none=>none)
    | .slice e,.sl id w off _=>(match ty e with
     |some te=>bif Nat.beq w te.size then eE ok (.sl id w (off+rH w l.toNat) (h'.toNat-l.toNat))else none
     |none=>none)
    | .slice e,.il k w l0=>(match ty e with
     |some te=>bif Nat.beq w te.size then eE ok (.il k w ((l0.drop (rH w l.toNat)).take (rH w (h'.toNat-l.toNat))))else none
     |none=>none)
    | .slice e,.c (.slice none 0 0)=>(match ty e with
     |some _=>eE ok Al
     |none=>none)
    |_,_=>none
   |_,_,_=>none
def Jv (op:UnOp)(x:V):pZ:=match op,x with
 | .neg,.c (.int k n)=>kC (.c (.int k (k.wrap (0-n))))
 | .not,.c (.bool b)=>kC (.c (.bool (!b)))
 | .xor,.c (.int k n)=>match bk .xor k (if k.signed then-1 else k.max) n with
  |some n=>kC (.c (.int k n))
  |none=>none
 |_,_=>none
def j7 (ty:Nat→Option TI)(nid:Nat)(s d:Nat)(x:V)(h:Nat→oA):pZ:=match ty s,ty d with
 |some ts,some td=>match td.tk,x with
  | .int k,.c (.int _ n)=>kC (.c (.int k (k.wrap n)))
  | .str,.c (.string s)=>kC (.c (.string s))
  | .str,.c (.slice none 0 0)=>(match ts.tk with
   | .slice e=>(match ty e with|some ⟨.int .u8,_,_,_⟩=>kC (.c (.string ByteArray.empty))|_=>none)
   |_=>none)
  | .slice e,.c (.string b)=>(match ty e with
   |some ⟨.int .u8,_,_,_⟩=>some (true,{val:=.sw nid 1,new:=[.ints .u8 (rG b)]})
   |_=>none)
  | .str,x=>(match ts.tk with
   | .slice e=>(match ty e,uY h x with
    |some ⟨.int .u8,_,_,_⟩,some (.u8,w,l,t)=>bif Nat.beq w 1 then some (true,{val:=.c (.string (zD l)),touch:=t})else none
    |_,_=>none)
   |_=>none)
  |_,_=>none
 |_,_=>none
def vN (ti:TI)(a:V)(h:Nat→oA):pZ:=match a with
 | .ptr id off ext=>bif Nat.ble ti.size ext&&Nat.blt 0 ti.size then
   match cI ti off (h id)with
   |some v=>some (true,{val:=v,touch:=[id]})
   |none=>none
  else none
 | .ilp k l off ext=>bif Nat.ble ti.size ext&&Nat.blt 0 ti.size then
   match cI ti off (.ints k l)with
   |some v=>kC v
   |none=>none
  else none
 | .ivp l i off ext=>bif Nat.ble ti.size ext&&Nat.blt 0 ti.size then
   match cI ti off (.vals ((iK l i).map .c))with
   |some v=>kC v
   |none=>none
  else none
 | .inlp k s rows i=>bif ti.isSl&&Nat.beq ti.size 1 then kC (.il k s (rows.getD i []))else none
 | .tp id i w=>match h id with
  | .tw r l=>bif Nat.beq ti.size w&&Nat.beq w r.w then some (true,{val:=xN ti (r.cells (l.getD i r.z)),touch:=[id]})else none
  |_=>none
 | .ep pid q i w=>match h pid with
  | .pool r rows=>bif Nat.beq ti.size w&&Nat.beq w r.w then some (true,{val:=xN ti (r.cells ((rows.getD q []).getD i r.z)),touch:=[pid]})else none
  |_=>none
 |_=>none
def iU (ti:TI)(a x:V)(h:Nat→oA):pZ:=match a with
 | .ptr id off ext=>(match iE x with
  |some vs=>bif Nat.ble ti.size ext&&Nat.beq vs.length ti.size then
    (match h id,vs with
    | .po s pid π,[.sw g w]=>(match h pid with
     | .pool r rows=>(match r.row (h g)with
      |some l=>bif Nat.beq s w&&Nat.beq w r.w&&(Nat.beq ti.size 1&& !(Nat.beq g id))&&(!(Nat.beq g pid)&& !(Nat.beq id pid))then some (true,{val:=tI,wr:=[(g,.dead),(pid,.pool r (rows++[l])),(id,.po s pid (π.set off rows.length))],touch:=[id,pid,g]})else none
      |none=>none)
     |_=>none)
    |b,vs=>(match jH off vs b with
     |some b=>some (true,{val:=tI,wr:=[(id,b)],touch:=[id]})
     |none=>none))
    else none
  |none=>none)
 | .tp id i w=>(match h id,iE x with
  | .tw r l,some vs=>(match r.of vs with
   |some e=>bif Nat.beq ti.size w&&Nat.beq w r.w then some (true,{val:=tI,wr:=[(id,.tw r (l.set i e))],touch:=[id]})else none
   |none=>none)
  |_,_=>none)
 | .ep pid q i w=>(match h pid,iE x with
  | .pool r rows,some vs=>(match r.of vs with
   |some e=>bif Nat.beq ti.size w&&Nat.beq w r.w then some (true,{val:=tI,wr:=[(pid,.pool r (rows.set q ((rows.getD q []).set i e)))],touch:=[pid]})else none
   |none=>none)
  |_,_=>none)
 |_=>none
def A8 (ty:Nat→Option TI)(nid:Nat)(te:TI)(n:Nat):Option (V×List oA):=match tZ te with
 |some k=>bif te.zero.all (fun| .int _ z=>z==0|_=>false)then some (.sw nid te.size,[.ints k (hP (rH te.size n) 0)])else none
 |none=>(match Dz te with
  |some r=>bif Nat.beq te.size r.w then some (.sw nid te.size,[.tw r (hP n r.z)])else none
  |none=>(match te.tk,te.zero with
   | .slice e,[.slice none 0 0]=>(match ty e with
    |some t2=>(match Dz t2 with
     |some r=>bif Nat.beq te.size 1&&Nat.beq t2.size r.w then some (.sw nid 1,[.po r.w (nid+1) (hP n 0),.pool r [[]]])else none
     |none=>none)
    |none=>none)
   |_,_=>none))
def kX (ty:Nat→Option TI)(fs:List (Nat×Nat))(f:Nat)(x:V):pZ:=match x with
 | .ptr id off ext=>(match wI ty fs f with
  |some (fo,fsz)=>bif Nat.ble (fo+fsz) ext&&Nat.blt 0 fsz then kC (.ptr id (off+fo) fsz)else none
  |none=>none)
 | .ilp k l off ext=>(match wI ty fs f with
  |some (fo,fsz)=>bif Nat.ble (fo+fsz) ext&&Nat.blt 0 fsz then kC (.ilp k l (off+fo) fsz)else none
  |none=>none)
 | .ivp l i off ext=>(match wI ty fs f with
  |some (fo,fsz)=>bif Nat.ble (fo+fsz) ext&&Nat.blt 0 fsz then kC (.ivp l i (off+fo) fsz)else none
  |none=>none)
 |_=>none
def lq (ti:TI):oA:=match ti.tk with
 | .arr _ _=>(match jk ti (bH ti)with|some b=>b|none=>.vals (bH ti))
 |_=>.vals (bH ti)
def fO (ty:Nat→Option TI)(nid:Nat)(o:Op)(ev:Operand→V)(h:Nat→oA):pZ:=match o with
 | .move x| .assign x=>kC (ev x)
 | .pick c a b=>match ev c with
  | .c (.bool b')=>kC (Ax b' (ev a) (ev b))
  |_=>none
 | .alloc t=>match ty t with
  |some ti=>some (true,{val:=.ptr nid 0 ti.size,new:=[lq ti]})
  |none=>none
 | .box t x=>match ty t with
  |some ti=>match iE (ev x)with
   |some vs=>bif Nat.beq vs.length ti.size then some (true,{val:=.ptr nid 0 ti.size,new:=[.vals vs]})else none
   |none=>none
  |none=>none
 | .build t ps=>match ty t with
  |some ti=>(match ti.tk with
   | .struct fs=>bif fs.all (fun p=>(ty p.1).isSome)then
     (match mK (wI ty fs) (bH ti) (ps.toList.map fun p=>(p.1,ev p.2))with
     |some cs=>kC (.agg cs)
     |none=>none)else none
   | .arr _ e=>match ty e with
    |some te=>match mK (fun i=>some (i*te.size,te.size)) (bH ti) (ps.toList.map fun p=>(p.1,ev p.2))with
     |some cs=>kC (.agg cs)
     |none=>none
    |none=>none
   |_=>none)
  |none=>none
 | .buildSlice t len ps=>match ty t with
  |some ⟨.slice e,_,_,_⟩=>match ty e with
   |some te=>bif Nat.ble (len*te.size) 16777216&&Nat.blt 0 te.size then
     match mK (fun i=>some (i*te.size,te.size)) (yZ len (bH te)) (ps.toList.map fun p=>(p.1,ev p.2))with
     |some cs=>match jk te cs with
      |some b=>some (true,{val:=.sw nid te.size,new:=[b]})
      |none=>none
     |none=>none
    else none
   |none=>none
  |_=>none
 | .load t a=>match ty t with
  |some ti=>vN ti (ev a) h
  |none=>none
 | .store t a x=>match ty t with
  |some ti=>iU ti (ev a) (ev x) h
  |none=>none
 | .nilCheck x=>match ev x with
  | .ptr id off ext=>kC (.ptr id off ext)
  | .ilp k l off ext=>kC (.ilp k l off ext)
  | .ivp l i off ext=>kC (.ivp l i off ext)
  | .inlp k s rows i=>kC (.inlp k s rows i)
  |_=>none
 | .binOp op t x y _=>G2 ty t op (ev x) (ev y)
 | .unOp op _ x=>Jv op (ev x)
 | .convert s d x=>j7 ty nid s d (ev x) h
 | .makeFunc (.func f) first cap=>kC (.fn f (first.toList.map ev) (cap.toList.map ev))
 | .makeSlice t l c=>match ty t,ev l,ev c with
  |some ⟨.slice e,_,_,_⟩,.c (.int .i64 n),.c (.int .i64 m)=>match ty e with
   |some te=>(match A8 ty nid te n.toNat with
    |some (v,bs)=>some (dG n m&&decide (0≤n)&&decide (n≤9223372036854775807)&&lB n.toNat te.bytes,{val:=v,new:=bs})
    |none=>none)
   |none=>none
  |_,_,_=>none
 | .slice t x lo hi mx=>fU ty t (ev x) (lo.map ev) (hi.map ev) (mx.map ev) h
 | .fieldAddr t x f=>match ty t with
  |some ⟨.struct fs,_,_,_⟩=>kX ty fs f (ev x)
  |_=>none
 | .field t x f=>match ty t,ev x with
  |some ⟨.struct fs,_,_,_⟩,.agg cs=>match fs[f]? with
   |some (t,fo)=>match ty t with
    |some te=>match bO (qO cs fo) te.size with
     |some cs=>bif Nat.blt 0 te.size then kC (xN te cs)else none
     |none=>none
    |none=>none
   |none=>none
  |_,_=>none
 | .indexAddr t x i=>rP ty t (ev x) (ev i) h
 | .index t x i=>cr ty t (ev x) (ev i)
 | .extract t i=>match ev t with
  | .tup vs=>match nh vs i with|some v=>kC v|none=>none
  |_=>none
 | .call ⟨.builtin b,args,ts⟩=>gM ty nid b ts.toList (args.toList.map ev) h
 |_=>none
def iO (tab:Nat→Option rA):Op→Nat
 | .alloc _| .box .. | .buildSlice .. =>1
 | .makeSlice .. =>2
 | .convert .. =>1
 | .call ⟨.builtin .append,_,_⟩=>2
 | .call ⟨.value (.func f),_,_⟩=>(match tab f with|some e=>e.fresh|none=>0)
 | .call ⟨.value (.tmp _),_,_⟩=>2
 |_=>0
mutual
def dL:V→List Nat
 | .ptr id _ _=>[id]
 | .sw id _=>[id]
 | .sl id _ _ _=>[id]
 | .rp id _ _=>[id]
 | .ep id _ _ _=>[id]
 | .tp id _ _=>[id]
 | .yv id=>[id]
 | .agg cs=>dF cs
 | .tup cs=>dF cs
 | .fn _ a b=>dF a++dF b
 |_=>[]
def dF:List V→List Nat
 | []=>[]
 |v::r=>dL v++dF r
end
def sS:oA→List Nat
 | .vals cs=>dF cs
 | .po _ pid _=>[pid]
 |_=>[]
def uM (σ:List Nat):List Nat→List Nat
 | []=>σ
 |i::r=>bif σ.any (Nat.beq i)then uM σ r else uM (σ++[i]) r
def uU (h:Nat→oA):Nat→List Nat→List Nat
 |0,σ=>σ
 |n+1,σ=>uU h n (uM σ (σ.flatMap fun i=>sS (h i)))
def kG (i:Nat):List Nat→Nat→Option Nat
 | [],_=>none
 |j::r,n=>bif Nat.beq j i then some n else kG i r (n+1)
mutual
def I4 (m:Nat→Option Nat):V→V
 | .ptr id off ext=>match m id with|some j=>.ptr j off ext|none=>.poison
 | .sw id w=>match m id with|some j=>.sw j w|none=>.poison
 | .sl id w off len=>match m id with|some j=>.sl j w off len|none=>.poison
 | .rp id q w=>match m id with|some j=>.rp j q w|none=>.poison
 | .ep id q i w=>match m id with|some j=>.ep j q i w|none=>.poison
 | .tp id i w=>match m id with|some j=>.tp j i w|none=>.poison
 | .yv id=>match m id with|some j=>.yv j|none=>.poison
 | .agg cs=>.agg (uL m cs)
 | .tup cs=>.tup (uL m cs)
 | .fn f a b=>.fn f (uL m a) (uL m b)
 | .c v=>.c v
 | .poison=>.poison
 | .il k w l=>.il k w l
 | .iv w l=>.iv w l
 | .ilp k l off ext=>.ilp k l off ext
 | .ivp l i off ext=>.ivp l i off ext
 | .inl k s rows=>.inl k s rows
 | .inlp k s rows i=>.inlp k s rows i
def uL (m:Nat→Option Nat):List V→List V
 | []=>[]
 |v::r=>I4 m v::uL m r
end
def jI (m:Nat→Option Nat):oA→oA
 | .vals cs=>.vals (uL m cs)
 | .dead=>.dead
 | .ints k l=>.ints k l
 | .tw r l=>.tw r l
 | .pool r rows=>.pool r rows
 | .amb A pre=>.amb A pre
 | .po s pid π=>(match m pid with
  |some j=>.po s j π
  |none=>.vals (π.map fun _=>.poison))
def dI (σ:List Nat)(nid:Nat)(j:Nat):Option Nat:=
 match σ[j]? with
 |some i=>some i
 |none=>some (nid+(j-σ.length))
def y3:List Nat→List oA→List (Nat×oA)
 |i::r,b::s=>(i,b)::y3 r s
 |_,_=>[]
def u7:List oA→Nat→List oA
 |l,0=>l
 | [],_+1=>[]
 |_::r,n+1=>u7 r n
mutual
def cH (h:Nat→oA):V→V×List Nat
 | .sw id w=>(match h id with
  | .ints k l=>(.il k w l,[id])
  |_=>(.sw id w,[]))
 | .sl id w off len=>(match h id with
  | .ints k l=>(.il k w ((l.drop off).take (rH w len)),[id])
  |_=>(.sl id w off len,[]))
 | .agg cs=>(.agg (wT h cs).1,(wT h cs).2)
 |v=>(v,[])
def wT (h:Nat→oA):List V→List V×List Nat
 | []=>([],[])
 |v::r=>((cH h v).1::(wT h r).1,(cH h v).2++(wT h r).2)
end
def pD (h:Nat→oA):List Bool→List V→List V×List Nat
 |true::bs,v::r=>((cH h v).1::(pD h bs r).1,(cH h v).2++(pD h bs r).2)
 |false::bs,v::r=>(v::(pD h bs r).1,(pD h bs r).2)
 | [],vs=>(vs,[])
 |_,[]=>([],[])
mutual
def eG:V→Bool
 | .il _ _ _=>false
 | .iv _ _=>false
 | .ilp _ _ _ _=>false
 | .ivp _ _ _ _=>false
 | .inl _ _ _=>false
 | .inlp _ _ _ _=>false
 | .agg cs=>sH cs
 | .tup cs=>sH cs
 | .fn _ a b=>sH a&&sH b
 |_=>true
def sH:List V→Bool
 | []=>true
 |v::r=>eG v&&sH r
end
def rK:oA→Bool
 | .vals cs=>sH cs
 | .tw _ _=>false
 | .pool (.int _) _=>true
 | .pool _ _=>false
 |_=>true
def vG (σ τ:List Nat)(nid:Nat)(v:V)(bs:List oA):jJ:=
 {val:=I4 (dI σ nid) v,
  wr:=y3 σ (bs.map (jI (dI σ nid)))++(bif eG v&&bs.all rK then []else τ.map fun i=>(i,.dead)),
  new:=u7 (bs.map (jI (dI σ nid))) σ.length,
  touch:=σ++τ}
def nodup:List Nat→Bool
 | []=>true
 |i::r=>!(r.any (Nat.beq i))&&nodup r
def dY (a b:List Nat):Bool:=a.any fun i=>b.any (Nat.beq i)
def xv {R:Type}(tab:Nat→Option rA)(nid:Nat)(f:Nat)(args:List V)(h:Nat→oA)(k:jJ→Option R):Option R:=
 match tab f with
 |none=>none
 |some e=>
  let at_:=pD h e.imm args
  let σ:=uU h 3 (uM [] (dF at_.1))
  match e.dec (uL (kG · σ 0) at_.1) (σ.map fun i=>jI (kG · σ 0) (h i))with
  |none=>none
  |some (m,enc)=>m.bind fun a=>(enc a).go fun v bs=>
   bif Nat.ble bs.length (σ.length+e.fresh)&&Nat.ble σ.length bs.length&&nodup σ&& !dY σ at_.2 then k (vG σ at_.2 nid v bs)else none
def nP (id:Nat)(args:List V)(h:Nat→oA):pZ:=match args with
 | [.sw b w,.c (.int k m)]=>(match h id,h b with
  | .amb A pre,.ints k' l=>bif dQ k .i64&&dQ k' .i64&&(Nat.beq w 1&& !(Nat.beq b id))then
    some (Nat.blt 0 l.length&&(Nat.blt l.length 1000&&Nat.blt pre.length A.cap),{val:=.c (.bool true),wr:=[(b,.dead),(id,.amb A (pre++[(l,m)]))],touch:=[id,b]})else none
  |_,_=>none)
 |_=>none
structure Fp where
 i:Nat
 touch:List Nat
 wr:List Nat
def ux (T:List (Nat×V))(d:Option Nat)(v:V):List (Nat×V):=match d with
 |some d=>(d,v)::T
 |none=>T
def cd {R:Type}(E:aC)(nid:Nat)(o:Oper)(T:List (Nat×V))(h:Nat→oA)(k:jJ→Option R):Option R:=match o.op with
 | .call ⟨.value f,args,_⟩=>match Hg T f with
  | .fn g first cap=>xv E.tab nid g (first++(args.toList.map (Hg T)++cap)) h k
  | .yv id=>(match nP id (args.toList.map (Hg T)) h with
   |some (ok,out)=>bif E.yld then(bif ok then k out else none)else none
   |none=>none)
  |_=>none
 |op=>match fO E.ty nid op (Hg T) h with
  |none=>none
  |some (ok,out)=>bif ok then k out else none
def Aq (H:List oA)(nid rm:Nat)(out:jJ):Bool:=Nat.ble out.new.length rm&&Nat.ble (nid+rm) H.length&&out.wr.all fun p=>Nat.blt p.1 H.length
def qg (n:Nat):Option Nat→Bool
 |none=>true
 |some d=>Nat.blt d n
def iX {R:Type}(E:aC)(all:List Oper):Nat→List Oper→Nat→List (Nat×V)→List oA→List Fp→(St→List Fp→Option R)→Option R
 |_,[],_,T,H,fps,k=>k ⟨T,H⟩ fps
 |i,o::rest,nid,T,H,fps,k=>
  let go (T:List (Nat×V)):Option R:=
   cd E nid o T (jA H) fun out=>bif Aq H nid (iO E.tab o.op) out then
    iX E all (i+1) rest (nid+iO E.tab o.op) (ux T o.dst out.val) (Ak (we H out.wr) nid out.new)
     (⟨i,out.touch,out.wr.map (·.1)++(List.range out.new.length).map (nid+ ·)⟩::fps) k
    else none
  let skip (T:List (Nat×V)):Option R:=
   iX E all (i+1) rest (nid+iO E.tab o.op) (ux T o.dst tI) H (⟨i,[],[]⟩::fps) k
  bif qg E.ntmps o.dst then
   match o.guard with
   |none=>go T
   |some (j,want)=>match(all[j]?).bind (·.dst)with
    |none=>none
    |some g=>match cE T g with
     | .c (.bool true)=>bif want then go ((g,.c (.bool true))::T)else skip ((g,.c (.bool true))::T)
     | .c (.bool false)=>bif want then skip ((g,.c (.bool false))::T)else go ((g,.c (.bool false))::T)
     | .c (.tuple _)=>skip T
     |_=>none
  else none
def iL:List Oper→List Nat→List Nat
 | [],acc=>acc.reverse
 |o::r,acc=>
  iL r ((((o.after.toList.filter (Region.binds .any)).map (·.on)).foldl (fun m d=>m|||(1<<<d)|||acc.reverse.getD d 0) 0)::acc)
def Bv (xs:List Operand):List Nat:=xs.filterMap fun| .tmp t=>some t|_=>none
def sU (all:List Oper)(o:Oper):List Nat:=
 Bv o.op.operands.toList++(match o.guard with
  |some (j,_)=>((all[j]?).bind (·.dst)).toList
  |none=>[])
def xk (all:List Oper)(x y:Oper):Bool:=
 (match x.dst with
  |some d=>!((sU all y).any (Nat.beq d))&& !(y.dst.toList.any (Nat.beq d))
  |none=>true)&&
 (match y.dst with
  |some d=>!((sU all x).any (Nat.beq d))
  |none=>true)
def iz (all:List Oper)(bef:List Nat)(x y:Fp):Bool:=
 (bef.getD y.i 0).testBit x.i||
 (xk all (all.getD x.i default) (all.getD y.i default)&& !dY x.touch y.wr&& !dY x.wr y.touch&& !dY x.wr y.wr)
def dn (all:List Oper)(bef:List Nat):List Fp→Bool
 | []=>true
 |y::r=>r.all (fun x=>iz all bef x y)&&dn all bef r
def dM:Nat→List Oper→Bool
 |_,[]=>true
 |i,o::r=>o.after.toList.all (fun e=>!Region.binds .any e||Nat.blt e.on i)&&dM (i+1) r
def Ay (ops:List Oper):Bool:=ops.all fun o=>match o.op with
 | .select .. | .go _| .defer _=>false
 |_=>true
def aQ (tab:Nat→Option rA):List Oper→Nat
 | []=>0
 |o::r=>iO tab o.op+aQ tab r
def tO {R:Type}(E:aC)(ops:Array Oper)(draw:Bool)(s:St)(k:St→Option R):Option R:=
 iX (bif draw then{E with yld:=false} else E) ops.toList 0 ops.toList s.H.length s.T (s.H++hP (aQ E.tab ops.toList) .dead) [] fun s' fps=>
  bif !draw||(dM 0 ops.toList&&Ay ops.toList&&dn ops.toList (iL ops.toList []) fps)then k s' else none
structure kO where
 src:List (Option Nat)
 blks:List oA
def wB (id:Nat):List (Option Nat)→Nat→Option Nat
 | [],_=>none
 |some j::r,n=>bif Nat.beq j id then some n else wB id r (n+1)
 |none::r,n=>wB id r (n+1)
def yu (h:Nat→oA)(k:IntKind)(s:Nat)(v:V)(a:kO):Option (V×kO):=match v with
 | .c (.slice none 0 0)=>some (.c (.slice none 0 0),a)
 | .sw id w'=>bif Nat.beq s w' then(match wB id a.src 0 with
   |some j=>some (.sw j s,a)
   |none=>match h id with
    | .ints k' l=>bif dQ k k' then some (.sw a.src.length s,⟨a.src++[some id],a.blks++[.ints k' l]⟩)else none
    |_=>none)else none
 |_=>none
def fX (h:Nat→oA)(k:IntKind)(s:Nat):List V→kO→Option (List V×kO)
 | [],a=>some ([],a)
 |v::vs,a=>(match yu h k s v a with
   |some (v',a')=>(match fX h k s vs a' with
    |some (vs',a'')=>some (v'::vs',a'')
    |none=>none)
   |none=>none)
def Iu (h:Nat→oA)(id w s pid:Nat)(π:List Nat)(a:kO):Option (V×kO):=match wB pid a.src 0 with
 |some j=>some (.sw a.src.length w,⟨a.src++[some id],a.blks++[.po s j π]⟩)
 |none=>match h pid with
  | .pool r rows=>some (.sw (a.src.length+1) w,⟨(a.src++[some pid])++[some id],(a.blks++[.pool r rows])++[.po s a.src.length π]⟩)
  |_=>none
mutual
def oL (h:Nat→oA):Sh→V→kO→Option (V×kO)
 | .any,v,a=>bif (dL v).isEmpty then some (v,a)else
   (match v with
    | .ptr id off ext=>(match wB id a.src 0 with
     |some j=>some (.ptr j off ext,a)
     |none=>match h id with
      | .ints k l=>some (.ptr a.src.length off ext,⟨a.src++[some id],a.blks++[.ints k l]⟩)
      | .vals cs=>bif (dF cs).isEmpty then some (.ptr a.src.length off ext,⟨a.src++[some id],a.blks++[.vals cs]⟩)else none
      | .dead=>none
      | .tw _ _=>none
      | .po _ _ _=>none
      | .pool _ _=>none
      | .amb _ _=>none)
    | .sw id w=>(match wB id a.src 0 with
     |some j=>some (.sw j w,a)
     |none=>match h id with
      | .ints k l=>some (.sw a.src.length w,⟨a.src++[some id],a.blks++[.ints k l]⟩)
      | .vals cs=>bif (dF cs).isEmpty then some (.sw a.src.length w,⟨a.src++[some id],a.blks++[.vals cs]⟩)else none
      | .tw r l=>some (.sw a.src.length w,⟨a.src++[some id],a.blks++[.tw r l]⟩)
      | .po s pid π=>Iu h id w s pid π a
      | .dead=>none
      | .pool _ _=>none
      | .amb _ _=>none)
    | .sl id w off len=>(match wB id a.src 0 with
     |some j=>some (.sl j w off len,a)
     |none=>match h id with
      | .ints k l=>some (.sl a.src.length w off len,⟨a.src++[some id],a.blks++[.ints k l]⟩)
      | .vals cs=>bif (dF cs).isEmpty then some (.sl a.src.length w off len,⟨a.src++[some id],a.blks++[.vals cs]⟩)else none
      | .dead=>none
      | .tw _ _=>none
      | .po _ _ _=>none
      | .pool _ _=>none
      | .amb _ _=>none)
    | .rp id q w=>(match wB id a.src 0 with
     |some j=>some (.rp j q w,a)
     |none=>match h id with
      | .pool r rows=>some (.rp a.src.length q w,⟨a.src++[some id],a.blks++[.pool r rows]⟩)
      |_=>none)
    | .yv id=>(match wB id a.src 0 with
     |some j=>some (.yv j,a)
     |none=>none)
    | .fn f va vc=>some (I4 (fun i=>wB i a.src 0) (.fn f va vc),a)
    |_=>none)
 | .row k w,v,a=>(match v with
   | .c (.slice none 0 0)=>bif Nat.blt 0 w then some (.sw a.src.length w,⟨a.src++[none],a.blks++[.ints k []]⟩)else none
   | .sw id w'=>bif Nat.beq w w' then(match wB id a.src 0 with
     |some j=>some (.sw j w,a)
     |none=>match h id with
      | .ints k' l=>bif dQ k k' then some (.sw a.src.length w,⟨a.src++[some id],a.blks++[.ints k' l]⟩)else none
      |_=>none)else none
   |_=>none)
 | .part k w,v,a=>(match v with
   | .c (.slice none 0 0)=>bif Nat.blt 0 w then some (.sl a.src.length w 0 0,⟨a.src++[none],a.blks++[.ints k []]⟩)else none
   | .sw id w'=>bif Nat.beq w w' then(match h id with
     | .ints k' l=>bif dQ k k' then(match wB id a.src 0 with
      |some j=>some (.sl j w 0 (pJ w l.length),a)
      |none=>some (.sl a.src.length w 0 (pJ w l.length),⟨a.src++[some id],a.blks++[.ints k' l]⟩))else none
     |_=>none)else none
   | .sl id w' off len=>bif Nat.beq w w' then(match h id with
     | .ints k' l=>bif dQ k k' then(match wB id a.src 0 with
      |some j=>some (.sl j w' off len,a)
      |none=>some (.sl a.src.length w' off len,⟨a.src++[some id],a.blks++[.ints k' l]⟩))else none
     |_=>none)else none
   |_=>none)
 | .il k w,v,a=>(match v with
   | .c (.slice none 0 0)=>bif Nat.blt 0 w then some (.il k w [],a)else none
   | .il k' w' l=>bif dQ k k'&&Nat.beq w w' then some (.il k' w' l,a)else none
   |_=>none)
 | .inl k w,v,a=>(match v with
   | .c (.slice none 0 0)=>some (.inl k w [],a)
   | .inl k' w' l=>bif dQ k k'&&Nat.beq w w' then some (.inl k' w' l,a)else none
   |_=>none)
 | .box ss,v,a=>(match v with
   | .ptr id off ext=>(match wB id a.src 0 with
     |some j=>some (.ptr j off ext,a)
     |none=>match h id with
      | .vals cs=>(match fI h ss cs ⟨a.src++[some id],a.blks++[.dead]⟩with
       |some (cs',a')=>some (.ptr a.src.length off ext,⟨a'.src,oD a'.blks a.src.length (.vals cs')⟩)
       |none=>none)
      |_=>none)
   |_=>none)
 | .vrow ss,v,a=>(match v with
   | .sw id w=>(match wB id a.src 0 with
     |some j=>some (.sw j w,a)
     |none=>match h id with
      | .vals cs=>(match fI h ss cs ⟨a.src++[some id],a.blks++[.dead]⟩with
       |some (cs',a')=>some (.sw a.src.length w,⟨a'.src,oD a'.blks a.src.length (.vals cs')⟩)
       |none=>none)
      |_=>none)
   |_=>none)
 | .vrows k s,v,a=>(match v with
   | .c (.slice none 0 0)=>some (.c (.slice none 0 0),a)
   | .sw id w=>(match wB id a.src 0 with
     |some j=>some (.sw j w,a)
     |none=>match h id with
      | .vals cs=>(match fX h k s cs ⟨a.src++[some id],a.blks++[.dead]⟩with
       |some (cs',a')=>some (.sw a.src.length w,⟨a'.src,oD a'.blks a.src.length (.vals cs')⟩)
       |none=>none)
      |_=>none)
   |_=>none)
 | .fnc ss,v,a=>(match v with
   | .fn f [] cs=>(match fI h ss cs a with
    |some (cs',a')=>some (.fn f [] cs',a')
    |none=>none)
   |_=>none)
 | .mrow r,v,a=>(match v with
   | .c (.slice none 0 0)=>some (.sw (a.src.length+1) 1,⟨(a.src++[none])++[none],(a.blks++[.pool r []])++[.po r.w a.src.length []]⟩)
   | .sw id w=>(match wB id a.src 0 with
     |some j=>some (.sw j w,a)
     |none=>match h id with
      | .po s pid π=>Iu h id w s pid π a
      |_=>none)
   |_=>none)
 | .recd ss,v,a=>(match v with
   | .agg cs=>(match fI h ss cs a with
    |some (cs',a')=>some (.agg cs',a')
    |none=>none)
   |_=>none)
 | .tup ss,v,a=>(match v with
   | .tup cs=>(match fI h ss cs a with
    |some (cs',a')=>some (.tup cs',a')
    |none=>none)
   |_=>none)
def fI (h:Nat→oA):List Sh→List V→kO→Option (List V×kO)
 | [],[],a=>some ([],a)
 |s::ss,v::vs,a=>(match oL h s v a with
   |some (v',a')=>(match fI h ss vs a' with
    |some (vs',a'')=>some (v'::vs',a'')
    |none=>none)
   |none=>none)
 |_,_,_=>none
end
def iH (nb:Nat)(H:List oA):kO:=⟨(List.range nb).map some,H.take nb⟩
def nT (nb:Nat):List oA→Bool
 | []=>true
 |b::r=>(sS b).all (fun i=>Nat.blt i nb)&&nT nb r
def dj (nb:Nat)(keep:List (Nat×Sh))(s:St):Option (List V×List oA):=
 match fI (jA s.H) (keep.map (·.2)) (keep.map fun p=>cE s.T p.1) (iH nb s.H)with
 |some (vs,a)=>bif nT nb (s.H.take nb)then some (vs,a.blks)else none
 |none=>none
def lM:List (Nat×List Sh)→List oA→List oA
 | [],H=>H
 |p::r,H=>lM r (oD H p.1 .dead)
def yY (h:Nat→oA):List (Nat×List Sh)→kO→Option kO
 | [],a=>some a
 |p::r,a=>(match h p.1 with
   | .vals cs=>(match fI h p.2 cs a with
    |some (cs',a')=>yY h r ⟨a'.src,oD a'.blks p.1 (.vals cs')⟩
    |none=>none)
   |_=>none)
def An (nb:Nat)(bsh:List (Nat×List Sh))(keep:List (Nat×Sh))(s:St):Option (List V×List oA):=
 match fI (jA s.H) (keep.map (·.2)) (keep.map fun p=>cE s.T p.1) ⟨(List.range nb).map some,lM bsh (s.H.take nb)⟩with
 |some (vs,a)=>(match yY (jA s.H) bsh a with
   |some a'=>bif nT nb (lM bsh (s.H.take nb))&&bsh.all (fun p=>Nat.blt p.1 nb)then some (vs,a'.blks)else none
   |none=>none)
 |none=>none
def tB:List (Nat×Sh)→List V→List (Nat×V)
 |(t,_)::r,v::vs=>(t,v)::tB r vs
 |_,_=>[]
mutual
def zH (nb:Nat)(h:Nat→oA):Sh→V→Option V
 | .il k w,v=>(match v with
   | .c (.slice none 0 0)=>bif Nat.blt 0 w then some (.il k w [])else none
   | .il k' w' l=>bif dQ k k'&&Nat.beq w w' then some (.il k' w' l)else none
   | .sw id w'=>bif Nat.ble nb id&&Nat.beq w w' then(match h id with
     | .ints k' l=>bif dQ k k' then some (.il k' w l)else none
     |_=>none)else none
   | .sl id w' off len=>bif Nat.ble nb id&&Nat.beq w w' then(match h id with
     | .ints k' l=>bif dQ k k' then some (.il k' w ((l.drop off).take (rH w len)))else none
     |_=>none)else none
   |_=>none)
 | .inl k w,v=>(match v with
   | .c (.slice none 0 0)=>some (.inl k w [])
   | .inl k' w' l=>bif dQ k k'&&Nat.beq w w' then some (.inl k' w' l)else none
   | .sw id w'=>bif Nat.beq w' 1&&(Nat.ble nb id&&Nat.beq w 1)then(match h id with
     | .po s pid π=>bif Nat.ble nb pid&&Nat.beq s 1 then(match h pid with
      | .pool (.int k') rows=>bif dQ k k' then some (.inl k' 1 (π.map fun q=>(rows.getD q []:List Int)))else none
      |_=>none)else none
     |_=>none)else none
   |_=>none)
 | .recd ss,v=>(match v with
   | .agg cs=>(match mH nb h ss cs with|some cs'=>some (.agg cs')|none=>none)
   |_=>none)
 | .tup ss,v=>(match v with
   | .tup cs=>(match mH nb h ss cs with|some cs'=>some (.tup cs')|none=>none)
   |_=>none)
 |_,v=>bif (dL v).all (fun i=>Nat.blt i nb)then some v else none
def mH (nb:Nat)(h:Nat→oA):List Sh→List V→Option (List V)
 | [],[]=>some []
 |s::ss,v::vs=>(match zH nb h s v with
   |some v'=>(match mH nb h ss vs with|some vs'=>some (v'::vs')|none=>none)
   |none=>none)
 |_,_=>none
end
def oc (E:aC)(s:St):List ResultVar→Option (List V)
 | []=>some []
 | .tmp t::r=>(match oc E s r with|some vs=>some (cE s.T t::vs)|none=>none)
 | .cell a t::r=>(match E.ty t,cE s.T a with
   |some ti,.ptr id off ext=>bif Nat.ble ti.size ext&&Nat.blt 0 ti.size then
     (match cI ti off (jA s.H id),oc E s r with
      |some v,some vs=>some (v::vs)
      |_,_=>none)else none
   |_,_=>none)
def one (vs:List V):V:=match vs with
 | [v]=>v
 |vs=>.tup vs
def ky:Nat→List Sh→List (Nat×Sh)
 |_,[]=>[]
 |i,s::r=>(i,s)::ky (i+1) r
def lN:Nat→List V→List (Nat×V)
 |_,[]=>[]
 |i,v::r=>(i,v)::lN (i+1) r
def wV (E:aC)(s:St):Option (V×List oA):=
 match oc E s E.res with
 |none=>none
 |some vs=>bif E.own then
   (match An E.nb E.bsh (ky 0 E.rsh) ⟨lN 0 vs,s.H⟩with
    |none=>none
    |some (vs',H')=>bif Nat.beq vs.length E.rsh.length&&Nat.beq vs'.length E.rsh.length then some (one vs',H')else none)
  else match mH E.nb (jA s.H) E.rsh vs with
  |none=>none
  |some vs=>bif nT E.nb (s.H.take E.nb)then some (one vs,s.H.take E.nb)else none
def vH:Code→Option Nat
 | .region id _ _=>some id
 | .seq a b=>match vH a with
  |some i=>some i
  |none=>vH b
 | .cond _ x y=>match vH x with
  |some i=>some i
  |none=>vH y
 | .block _ b| .loop b| .scope b=>vH b
 |_=>none
def mC (c:Code):Nat:=(vH c).getD 0
def vA {R:Type}(nb:Nat)(hd:uB)(f:St→(Ex→St→Option R)→Option R):Nat→List V→List oA→(Ex→St→Option R)→Option R
 |0,_,_,_=>none
 |n+1,vs,H,k=>f ⟨tB hd.keep vs,H⟩ fun ex s=>match ex with
  | .normal=>(match dj nb hd.keep s with
   |some (vs,H)=>vA nb hd f n vs H k
   |none=>none)
  | .ret v bs=>k (.ret v bs) .nil
  |e=>(match dj nb hd.out s with
   |some (vs,H)=>k e ⟨tB hd.out vs,H⟩
   |none=>none)
def vV {R:Type}(nb:Nat)(hd:uB)(f:Code→St→(Ex→St→Option R)→Option R)(body:Code):Nat→Code→List V→List oA→(Ex→St→Option R)→Option R
 |0,_,_,_,_=>none
 |n+1,c,vs,H,k=>f c ⟨tB hd.keep vs,H⟩ fun ex s=>match ex with
  | .goto l=>(match findLabel body l with
   |some rest=>(match dj nb hd.keep s with
    |some (vs,H)=>vV nb hd f body n rest vs H k
    |none=>none)
   |none=>none)
  | .ret v bs=>k (.ret v bs) .nil
  |e=>(match dj nb hd.out s with
   |some (vs,H)=>k e ⟨tB hd.out vs,H⟩
   |none=>none)
def zQ:Code→Nat→Bool
 | .goto _,_=>true
 | .seq a b,n=>zQ a n||zQ b n
 | .cond _ a b,n=>zQ a n||zQ b n
 | .block _ b,n| .loop b,n| .scope b,n=>zQ b n
 |_,_=>false
noncomputable def tA {R:Type}(E:aC):Nat→Code→St→(Ex→St→Option R)→Option R
 |0,_,_,_=>none
 |d+1,c,s,k=>match c with
  | .skip=>k .normal s
  | .label _=>k .normal s
  | .region _ ops draw=>tO E ops draw s fun s'=>k .normal s'
  | .seq a b=>tA E d a s fun ex s'=>match ex with
   | .normal=>tA E d b s' k
   |e=>k e s'
  | .cond c x y=>match Hg s.T c with
   | .c (.bool b)=>bif b then tA E d x s k else tA E d y s k
   |_=>none
  | .block id b=>tA E d b s fun ex s'=>match ex with
   | .exit i=>bif Nat.beq i id then k .normal s' else k (.exit i) s'
   |e=>k e s'
  | .loop b=>match E.hint (mC b)with
   |none=>none
   |some hd=>match dj E.nb hd.keep s with
    |none=>none
    |some (vs,H)=>match E.cut (mC b)with
     |some e=>e.run vs H k
     |none=>vA E.nb hd (fun s k=>tA E d b s k) E.N vs H k
  | .scope b=>bif zQ b 0 then
    match E.hint (1000000+mC b)with
    |none=>none
    |some hd=>match dj E.nb hd.keep s with
     |none=>none
     |some (vs,H)=>match E.cut (1000000+mC b)with
      |some e=>e.run vs H k
      |none=>vV E.nb hd (fun c s k=>tA E d c s k) b E.N b vs H k
   else tA E d b s fun ex s'=>match ex with
    | .goto _=>none
    |e=>k e s'
  | .exit id=>k (.exit id) s
  | .goto l=>k (.goto l) s
  | .ret=>match wV E s with
   |some (v,bs)=>k (.ret v bs) .nil
   |none=>none
  | .rangeFunc _ _ asg _=>match E.hint (2000000+mC asg)with
   |none=>none
   |some hd=>match dj E.nb hd.keep s with
    |none=>none
    |some (vs,H)=>match E.cut (2000000+mC asg)with
     |some e=>e.run vs H k
     |none=>none
  |_=>none
def bF {α:Type _}:List (Nat×α)→Nat→Option α
 | [],_=>none
 |(a,v)::r,t=>bif Nat.beq a t then some v else bF r t
def yg:Nat:=400
noncomputable def uA {R:Type}(E:aC)(body:Code)(args:List V)(bs:List oA)(k:V→List oA→Option R):Option R:=
 tA E yg body ⟨lN 0 args,bs⟩ fun ex s=>match ex with
  | .ret v bs=>k v bs
  | .normal=>(match wV E s with
   |some (v,bs)=>k v bs
   |none=>none)
  |_=>none
def cA:Code→List Code
 | .seq a b=>cA a++cA b
 | .cond _ a b=>cA a++cA b
 | .block _ b=>cA b
 | .loop b=>.loop b::cA b
 | .scope b=>.scope b::cA b
 | .rangeFunc g ps asg b=>[.rangeFunc g ps asg b]
 |_=>[]
def mA:Code→Code
 | .loop b=>b
 | .scope b=>b
 |c=>c
def fA (n:Int):Int:=IntKind.wrap .i64 n
def fL (n:Int):Int:=IntKind.wrap .u8 n
def oE (n:Int):Int:=IntKind.wrap .u32 n
def dB (n:Int):Int:=IntKind.wrap .u64 n
def bj (k:IntKind)(a b:Int):Int:=k.wrap (BitVec.ofInt k.bits a&&& BitVec.ofInt k.bits b).toNat
def iF (k:IntKind)(a b:Int):Int:=k.wrap (BitVec.ofInt k.bits a|||BitVec.ofInt k.bits b).toNat
def tV (k:IntKind)(a b:Int):Int:=k.wrap (BitVec.ofInt k.bits a^^^BitVec.ofInt k.bits b).toNat
structure gT where
 blk:Option Nat
 n:Nat
 C:Nat
structure Pl where
 blk:Option Nat
 n:Nat
 C:Nat
 R:List gT
def Pl.le (p p':Pl):Prop:=p'.blk=p.blk∧p'.n=p.n∧p'.C=p.C∧∃X,p'.R=p.R++X
abbrev fC:=Nat→Option Pl
def Hn (pl:gT)(s:Nat)(v:Value):Prop:=
 (∃b cap,pl.blk=some b∧pl.n%s=0∧pl.n/s≤cap∧cap*s≤pl.C∧v= .slice (some ⟨b,0,none⟩) (pl.n/s) cap)∨(pl.blk=none∧pl.n=0∧v= .slice none 0 0)
def dE (R:List gT):List Nat:=R.filterMap (·.blk)
theorem qH {R:List gT}{b:Nat}:b∈dE R↔∃q∈R,q.blk=some b:=by
 simp[dE]
def iG (M:Nat→Prop)(w:World)(k:IntKind)(s:Nat)(l:List Int)(v:Value):Prop:=
 0<s∧l.length%s=0∧((l=[]∧∃a,v= .slice a 0 0)∨∃b o cap,v= .slice (some ⟨b,o,none⟩) (l.length/s) cap∧l.length/s≤cap∧b<w.heap.size∧¬M b∧
   ∀j,j<l.length→w.cell? ⟨b,o+j,none⟩=some (.int k (l.getD j 0)))
mutual
def nA (ρ:fC)(M:Nat→Prop)(w:World):V→Value→Prop
 | .c x,v=>v=x
 | .poison,_=>True
 | .ptr id off ext,v=>∃b n C R,ρ id=some ⟨some b,n,C,R⟩∧off+ext≤n∧v= .pointer (some ⟨b,off,none⟩)
 | .sw id s,v=>0<s∧((∃b n C R cap,ρ id=some ⟨some b,n,C,R⟩∧n%s=0∧n/s≤cap∧cap*s≤C∧v= .slice (some ⟨b,0,none⟩) (n/s) cap)∨(∃R,ρ id=some ⟨none,0,0,R⟩∧v= .slice none 0 0))
 | .sl id s off len,v=>0<s∧((∃b n C R cap,ρ id=some ⟨some b,n,C,R⟩∧off+len*s≤n∧len≤cap∧off+cap*s≤C∧v= .slice (some ⟨b,off,none⟩) len cap)∨(len=0∧∃a,v= .slice a 0 0))
 | .il k s l,v=>0<s∧l.length%s=0∧((l=[]∧∃a,v= .slice a 0 0)∨∃b o cap,v= .slice (some ⟨b,o,none⟩) (l.length/s) cap∧l.length/s≤cap∧b<w.heap.size∧¬M b∧
   ∀j,j<l.length→w.cell? ⟨b,o+j,none⟩=some (.int k (l.getD j 0)))
 | .iv n cols,v=>0<cols.length∧((n=0∧∃a,v= .slice a 0 0)∨∃b o cap,v= .slice (some ⟨b,o,none⟩) n cap∧n≤cap∧b<w.heap.size∧¬M b∧
   ∀i,i<n→∀j,j<cols.length→w.cell? ⟨b,o+i*cols.length+j,none⟩=(iK cols i)[j]?)
 | .ilp k l off ext,v=>∃b o,v= .pointer (some ⟨b,o+off,none⟩)∧off+ext≤l.length∧b<w.heap.size∧¬M b∧∀j,j<l.length→w.cell? ⟨b,o+j,none⟩=some (.int k (l.getD j 0))
 | .ivp cols i off ext,v=>∃b o,v= .pointer (some ⟨b,o+off,none⟩)∧off+ext≤cols.length∧b<w.heap.size∧¬M b∧∀j,j<cols.length→w.cell? ⟨b,o+j,none⟩=(iK cols i)[j]?
 | .agg cs,v=>∃vs:Array Value,v= .agg vs∧iA ρ M w cs vs.toList
 | .tup cs,v=>∃vs:Array Value,v= .tuple vs∧iA ρ M w cs vs.toList
 | .inl k s rows,v=>((rows=[]∧∃a,v= .slice a 0 0)∨∃b o cap,v= .slice (some ⟨b,o,none⟩) rows.length cap∧rows.length≤cap∧b<w.heap.size∧¬M b∧
   ∀i,i<rows.length→∃u,w.cell? ⟨b,o+i,none⟩=some u∧iG M w k s (rows.getD i []) u)
 | .inlp k s rows i,v=>∃b o,v= .pointer (some ⟨b,o+i,none⟩)∧i<rows.length∧b<w.heap.size∧¬M b∧∀j,j<rows.length→∃u,w.cell? ⟨b,o+j,none⟩=some u∧iG M w k s (rows.getD j []) u
 | .rp pid q s,v=>0<s∧∃p pl,ρ pid=some p∧p.R[q]?=some pl∧Hn pl s v
 | .ep pid q i s,v=>∃p pl b,ρ pid=some p∧p.R[q]?=some pl∧pl.blk=some b∧i*s+s≤pl.n∧v= .pointer (some ⟨b,i*s,none⟩)
 | .yv id,v=>∃p,ρ id=some p∧v= .func (.yield p.C) #[] #[]
 | .tp id i s,v=>∃b n C R,ρ id=some ⟨some b,n,C,R⟩∧i*s+s≤n∧v= .pointer (some ⟨b,i*s,none⟩)
 | .fn f a c,v=>∃va vc:Array Value,v= .func (.func f) va vc∧iA ρ M w a va.toList∧iA ρ M w c vc.toList
def iA (ρ:fC)(M:Nat→Prop)(w:World):List V→List Value→Prop
 | [],[]=>True
 |x::xs,v::vs=>nA ρ M w x v∧iA ρ M w xs vs
 |_,_=>False
end
def oA.live:oA→Prop
 | .dead=>False
 |_=>True
def oA.has (x:oA)(p:Pl)(b:Nat):Prop:=match x with
 | .dead=>False
 | .pool _ _=>∃q∈p.R,q.blk=some b
 | .amb _ _=>∃q∈p.R,q.blk=some b
 |_=>p.blk=some b
def oA.flat:oA→Prop
 | .pool _ _=>False
 | .amb _ _=>False
 |_=>True
theorem oA.has.live {x:oA}{p:Pl}{b:Nat}(h:x.has p b):x.live:=by
 cases x with
 |dead=>exact h
 |_=>trivial
theorem oA.has_flat {x:oA}{p:Pl}{b:Nat}(hf:x.flat)(h:x.has p b):p.blk=some b:=by
 cases x with
 |dead=>exact h.elim
 |pool _ _=>exact hf.elim
 |amb _ _=>exact hf.elim
 |_=>exact h
theorem oA.flat_has {x:oA}{p:Pl}{b:Nat}(hf:x.flat)(hl:x.live)(h:p.blk=some b):x.has p b:=by
 cases x with
 |dead=>exact hl.elim
 |pool _ _=>exact hf.elim
 |amb _ _=>exact hf.elim
 |_=>exact h
theorem oA.flat_or (x:oA):x.flat∨(∃r rows,x= .pool r rows)∨∃A pre,x= .amb A pre:=by
 cases x with
 |pool r rows=>exact .inr (.inl ⟨r,rows,rfl⟩)
 |amb A pre=>exact .inr (.inr ⟨A,pre,rfl⟩)
 |_=>exact .inl trivial
def fT (w:World)(b C:Nat)(c:Array Value):Prop:=
 ∃e fr,w.heap[b]?=some (.cells c e fr)∧c.size=C∧∀i,i<C→¬(fr.1≤i∧i<fr.2)
def Fv.len:Fv→Nat
 | .ints _ l=>l.length
 | .bools l=>l.length
 | .strs l=>l.length
def lJ (M:Nat→Prop)(w:World)(pl:gT)(cs:List V):Prop:=
 cs.length=pl.n∧((pl.blk=none∧cs=[]∧pl.C=0)∨∃b c,pl.blk=some b∧fT w b pl.C c∧pl.n≤pl.C∧iA (fun _=>none) M w cs (c.toList.take pl.n))
def cL (s pid:Nat)(π:List Nat):List V:=π.map fun q=>.rp pid q s
structure nF (w w':World):Prop where
 os:w'.os=w.os
 tape:w'.tape=w.tape
 output:w'.output=w.output
 drawn:w.drawn≤w'.drawn
theorem nF.refl (w:World):nF w w:=⟨rfl,rfl,rfl,hE _⟩
theorem nF.trans {a b c:World}(h:nF a b)(k:nF b c):nF a c:=⟨k.os.trans h.os,k.tape.trans h.tape,k.output.trans h.output,l8 h.drawn k.drawn⟩
structure aq (A:vF):Prop where
 stable:∀S pre w w',A.J S pre w→(∀b∈S,w'.heap[b]?=w.heap[b]?)→w.heap.size≤w'.heap.size→A.J S pre w'
 round:∀S pre w (x:List Int) (m:Int) b cap,A.J S pre w→pre.length<A.cap→0<x.length→x.length<1000→b<w.heap.size→b∉S→x.length≤cap→(∀i,i<x.length→w.cell? ⟨b,i,none⟩=some (.int .i64 (x.getD i 0)))→
  ∀n,YieldAt Fence.wide n E8 A.l #[.slice (some ⟨b,0,none⟩) x.length cap,.int .i64 m] w fun e w'=>e= .returned (.bool true)∧∃S',A.J (S++b::S') (pre++[(x,m)]) w'∧(∀c∈S',w.heap.size≤c∧c<w'.heap.size)∧w.heap.size≤w'.heap.size∧(∀c,c<w.heap.size→c∉S→w'.heap[c]?=w.heap[c]?)∧nF w w'
def pQ (w:World)(p:Pl)(A:vF)(pre:List (List Int×Int)):Prop:=p.blk=none∧p.n=0∧p.C=A.l∧aq A∧A.J (dE p.R) pre w∧∀b∈dE p.R,b<w.heap.size
theorem pQ.same {w w':World}{p:Pl}{A:vF}{pre:List (List Int×Int)}(h:pQ w p A pre)(hw:∀b,b<w.heap.size→b∈dE p.R→w'.heap[b]?=w.heap[b]?)(hs:w.heap.size≤w'.heap.size):pQ w' p A pre:=by
 obtain⟨h1,h2,h3,h4,h5,h6⟩:=h;exact⟨h1,h2,h3,h4,h4.stable _ _ _ _ h5 (fun b hb=>hw b (h6 b hb) hb) hs,fun b hb=>hW (h6 b hb) hs⟩
def cB (ρ:fC)(M:Nat→Prop)(w:World)(p:Pl)(cs:List V):Prop:=
 cs.length=p.n∧((p.blk=none∧cs=[]∧p.C=0)∨∃b c,p.blk=some b∧fT w b p.C c∧p.n≤p.C∧iA ρ M w cs (c.toList.take p.n))
def wA (ρ:fC)(M:Nat→Prop)(w:World)(p:Pl):oA→Prop
 | .dead=>True
 | .ints k l=>l.length=p.n∧((p.blk=none∧l=[]∧p.C=0)∨∃b c,p.blk=some b∧fT w b p.C c∧p.n≤p.C∧∀i,i<l.length→c[i]?=some (.int k (l.getD i 0)))
 | .vals cs=>cB ρ M w p cs
 | .tw r l=>cB ρ M w p (r.flat l)
 | .po s pid π=>cB ρ M w p (cL s pid π)
 | .pool r rows=>p.blk=none∧p.n=0∧p.C=0∧p.R.length=rows.length∧(∀(q:Nat) pl l,p.R[q]?=some pl→rows[q]?=some l→lJ M w pl (r.flat l))∧
   (∀(q q':Nat) pl pl' b,p.R[q]?=some pl→p.R[q']?=some pl'→pl.blk=some b→pl'.blk=some b→q=q')
 | .amb A pre=>pQ w p A pre
def gA (ρ:fC)(h:Nat→oA)(b:Nat):Prop:=∃id p,ρ id=some p∧(h id).has p b
def av (F M:Nat→Prop)(b:Nat):Prop:=F b∨M b
structure lA (F:Nat→Prop)(ρ:fC)(h:Nat→oA)(w:World):Prop where
 wf:∀id p,ρ id=some p→p.n≤p.C
 rel:∀id,(h id).live→∃p,ρ id=some p∧wA ρ (av F (gA ρ h)) w p (h id)
 inj:∀id id' b p p',ρ id=some p→ρ id'=some p'→(h id).has p b→(h id').has p' b→id=id'
 low:∀b,F b→b<w.heap.size
 out:∀b,gA ρ h b→¬F b
structure nG (M:Nat→Prop)(w:World)(M':Nat→Prop)(w':World):Prop where
 size:w.heap.size≤w'.heap.size
 same:∀b,b<w.heap.size→¬M b→w'.heap[b]?=w.heap[b]?
 sub:∀b,M' b→M b∨w.heap.size≤b
 keeps:nF w w'
theorem Pl.le.refl (p:Pl):p.le p:=⟨rfl,rfl,rfl,[],by simp⟩
theorem Pl.le.trans {p q r:Pl}(h:p.le q)(h':q.le r):p.le r:=by
 obtain⟨a1,a2,a3,X,a4⟩:=h;obtain⟨b1,b2,b3,Y,b4⟩:=h';exact⟨b1.trans a1,b2.trans a2,b3.trans a3,X++Y,by rw[b4,a4,l1]⟩
theorem Pl.le.get {p p':Pl}(h:p.le p'){q:Nat}{pl:gT}(hq:p.R[q]?=some pl):p'.R[q]?=some pl:=by
 obtain⟨_,_,_,X,e⟩:=h;rw[e,hG (y2.mp hq).1];exact hq
def iI (ρ ρ':fC):Prop:=∀id p,ρ id=some p→∃p',ρ' id=some p'∧p.le p'
theorem nG.refl (M:Nat→Prop)(w:World):nG M w M w:=⟨hE _,fun _ _ _=>rfl,fun _ h=>.inl h,.refl _⟩
theorem nG.trans {M M' M'':Nat→Prop}{w w' w'':World}(h:nG M w M' w')(h':nG M' w' M'' w''):nG M w M'' w'' where
 size:=l8 h.size h'.size
 same b hb hm:=by have hm':¬M' b:=fun hx=>(h.sub b hx).elim hm (fun hs=>absurd hs (by omega));rw[h'.same b (hW hb h.size) hm',h.same b hb hm]
 sub b hb:=(h'.sub b hb).elim (h.sub b) (fun hs=>.inr (l8 h.size hs))
 keeps:=h.keeps.trans h'.keeps
theorem iI.refl (ρ:fC):iI ρ ρ:=fun _ p h=>⟨p,h,.refl p⟩
theorem iI.trans {ρ ρ' ρ'':fC}(h:iI ρ ρ')(h':iI ρ' ρ''):iI ρ ρ'':=fun id p hp=>by
 obtain⟨p',h1,h2⟩:=h id p hp;obtain⟨p'',h3,h4⟩:=h' id p' h1;exact⟨p'',h3,h2.trans h4⟩
theorem iI.eq {ρ ρ':fC}(h:∀id p,ρ id=some p→ρ' id=some p):iI ρ ρ':=fun id p hp=>⟨p,h id p hp,.refl p⟩
theorem iI.at {ρ ρ':fC}(hs:iI ρ ρ'){id n C:Nat}{b:Option Nat}{R:List gT}(h:ρ id=some ⟨b,n,C,R⟩):∃R',ρ' id=some ⟨b,n,C,R'⟩:=by
 obtain⟨⟨b',n',C',R'⟩,h1,h2,h3,h4,_⟩:=hs _ _ h;dsimp only at h2 h3 h4;subst h2;subst h3;subst h4;exact⟨R',h1⟩
theorem xC {w w':World}{b:Nat}(h:w'.heap[b]?=w.heap[b]?)(o:Nat):w'.cell? ⟨b,o,none⟩=w.cell? ⟨b,o,none⟩:=by
 unfold World.cell?;rw[h]
theorem rQ {F M M':Nat→Prop}{w w':World}(he:nG M w M' w'){b:Nat}(hb:b<w.heap.size)(h:¬av F M b):¬av F M' b:=
 fun hx=>hx.elim (fun hf=>h (.inl hf)) (fun hm=>(he.sub b hm).elim (fun hm=>h (.inr hm)) (fun hz=>absurd hz (by omega)))
theorem iG.mono {F M M':Nat→Prop}{w w':World}(he:nG M w M' w'){k:IntKind}{s:Nat}{l:List Int}{v:Value}(h:iG (av F M) w k s l v):iG (av F M') w' k s l v:=by
 obtain⟨h0,h1,h2|⟨b,o,cap,h2,h3,h4,h5,h6⟩⟩:=h
 ·exact⟨h0,h1,.inl h2⟩
 ·exact⟨h0,h1,.inr ⟨b,o,cap,h2,h3,hW h4 he.size,rQ he h4 h5,fun j hj=>by rw[xC (he.same b h4 (fun hm=>h5 (.inr hm)))];exact h6 j hj⟩⟩
theorem iG.world {M:Nat→Prop}{w w':World}(hw:w'.heap=w.heap){k:IntKind}{s:Nat}{l:List Int}{v:Value}(h:iG M w k s l v):iG M w' k s l v:=by
 obtain⟨h0,h1,h2|⟨b,o,cap,h2,h3,h4,h5,h6⟩⟩:=h
 ·exact⟨h0,h1,.inl h2⟩
 ·exact⟨h0,h1,.inr ⟨b,o,cap,h2,h3,by rw[hw];exact h4,h5,fun j hj=>by rw[xC (w:=w) (by rw[hw])];exact h6 j hj⟩⟩
theorem iG.avoid {M M':Nat→Prop}{w:World}(hM:∀b,M' b→M b){k:IntKind}{s:Nat}{l:List Int}{v:Value}(h:iG M w k s l v):iG M' w k s l v:=by
 obtain⟨h0,h1,h2|⟨b,o,cap,h2,h3,h4,h5,h6⟩⟩:=h
 ·exact⟨h0,h1,.inl h2⟩
 ·exact⟨h0,h1,.inr ⟨b,o,cap,h2,h3,h4,fun hm=>h5 (hM b hm),h6⟩⟩
theorem iG.of {ρ:fC}{M:Nat→Prop}{w:World}{k:IntKind}{s:Nat}{l:List Int}{v:Value}(h:nA ρ M w (.il k s l) v):iG M w k s l v:=by
 simp only[nA]at h;exact h
theorem iG.rel {ρ:fC}{M:Nat→Prop}{w:World}{k:IntKind}{s:Nat}{l:List Int}{v:Value}(h:iG M w k s l v):nA ρ M w (.il k s l) v:=by
 simp only[nA];exact h
mutual
theorem nA.mono {ρ ρ':fC}{F M M':Nat→Prop}{w w':World}(hs:iI ρ ρ')(he:nG M w M' w'):∀(x:V) (v:Value),nA ρ (av F M) w x v→nA ρ' (av F M') w' x v
 | .c _,_,h=>by simpa only[nA]using h
 | .poison,_,_=>by simp only[nA]
 | .ptr _ _ _,_,h=>by simp only[nA]at h⊢;obtain⟨b,n,C,R,h1,h2,h3⟩:=h;obtain⟨R',h1⟩:=hs.at h1;exact⟨b,n,C,R',h1,h2,h3⟩
 | .sw _ _,_,h=>by
  simp only[nA]at h⊢;obtain⟨h0,⟨b,n,C,R,cap,h1,h2⟩|⟨R,h1,h2⟩⟩:=h
  ·obtain⟨R',h1⟩:=hs.at h1;exact⟨h0,.inl ⟨b,n,C,R',cap,h1,h2⟩⟩
  ·obtain⟨R',h1⟩:=hs.at h1;exact⟨h0,.inr ⟨R',h1,h2⟩⟩
 | .sl _ _ _ _,_,h=>by
  simp only[nA]at h⊢;obtain⟨h0,⟨b,n,C,R,cap,h1,h2⟩|⟨h1,h2⟩⟩:=h
  ·obtain⟨R',h1⟩:=hs.at h1;exact⟨h0,.inl ⟨b,n,C,R',cap,h1,h2⟩⟩
  ·exact⟨h0,.inr ⟨h1,h2⟩⟩
 | .il _ _ _,_,h=>by
  simp only[nA]at h⊢;obtain⟨h0,h1,h2|⟨b,o,cap,h2,h3,h4,h5,h6⟩⟩:=h
  ·exact⟨h0,h1,.inl h2⟩
  ·exact⟨h0,h1,.inr ⟨b,o,cap,h2,h3,hW h4 he.size,rQ he h4 h5,fun j hj=>by rw[xC (he.same b h4 (fun hm=>h5 (.inr hm)))];exact h6 j hj⟩⟩
 | .iv _ _,_,h=>by
  simp only[nA]at h⊢;obtain⟨h0,h2|⟨b,o,cap,h2,h3,h4,h5,h7⟩⟩:=h
  ·exact⟨h0,.inl h2⟩
  ·exact⟨h0,.inr ⟨b,o,cap,h2,h3,hW h4 he.size,rQ he h4 h5,fun i hi j hj=>by rw[xC (he.same b h4 (fun hm=>h5 (.inr hm)))];exact h7 i hi j hj⟩⟩
 | .ilp _ _ _ _,_,h=>by simp only[nA]at h⊢;obtain⟨b,o,h2,h3,h4,h5,h6⟩:=h;exact⟨b,o,h2,h3,hW h4 he.size,rQ he h4 h5,fun j hj=>by rw[xC (he.same b h4 (fun hm=>h5 (.inr hm)))];exact h6 j hj⟩
 | .ivp _ _ _ _,_,h=>by simp only[nA]at h⊢;obtain⟨b,o,h2,h3,h4,h5,h7⟩:=h;exact⟨b,o,h2,h3,hW h4 he.size,rQ he h4 h5,fun j hj=>by rw[xC (he.same b h4 (fun hm=>h5 (.inr hm)))];exact h7 j hj⟩
 | .inl _ _ _,_,h=>by
  simp only[nA]at h⊢;obtain h2|⟨b,o,cap,h2,h3,h4,h5,h6⟩:=h
  ·exact .inl h2
  ·exact .inr ⟨b,o,cap,h2,h3,hW h4 he.size,rQ he h4 h5,fun i hi=>by obtain⟨u,hu,hr⟩:=h6 i hi;exact⟨u,by rw[xC (he.same b h4 (fun hm=>h5 (.inr hm)))];exact hu,hr.mono he⟩⟩
 | .inlp _ _ _ _,_,h=>by simp only[nA]at h⊢;obtain⟨b,o,h2,h3,h4,h5,h6⟩:=h;exact⟨b,o,h2,h3,hW h4 he.size,rQ he h4 h5,fun i hi=>by obtain⟨u,hu,hr⟩:=h6 i hi;exact⟨u,by rw[xC (he.same b h4 (fun hm=>h5 (.inr hm)))];exact hu,hr.mono he⟩⟩
 | .rp _ _ _,_,h=>by simp only[nA]at h⊢;obtain⟨h0,p,pl,h1,h2,h3⟩:=h;obtain⟨p',h4,h5⟩:=hs _ _ h1;exact⟨h0,p',pl,h4,h5.get h2,h3⟩
 | .ep _ _ _ _,_,h=>by simp only[nA]at h⊢;obtain⟨p,pl,b,h1,h2,h3⟩:=h;obtain⟨p',h4,h5⟩:=hs _ _ h1;exact⟨p',pl,b,h4,h5.get h2,h3⟩
 | .tp _ _ _,_,h=>by simp only[nA]at h⊢;obtain⟨b,n,C,R,h1,h2,h3⟩:=h;obtain⟨R',h1⟩:=hs.at h1;exact⟨b,n,C,R',h1,h2,h3⟩
 | .yv _,_,h=>by simp only[nA]at h⊢;obtain⟨⟨b,n,C,R⟩,h1,h2⟩:=h;obtain⟨R',h1⟩:=hs.at h1;exact⟨_,h1,h2⟩
 | .agg cs,_,h=>by simp only[nA]at h⊢;obtain⟨vs,h1,h2⟩:=h;exact⟨vs,h1,iA.mono hs he cs _ h2⟩
 | .tup cs,_,h=>by simp only[nA]at h⊢;obtain⟨vs,h1,h2⟩:=h;exact⟨vs,h1,iA.mono hs he cs _ h2⟩
 | .fn _ a c,_,h=>by simp only[nA]at h⊢;obtain⟨va,vc,h1,h2,h3⟩:=h;exact⟨va,vc,h1,iA.mono hs he a _ h2,iA.mono hs he c _ h3⟩
theorem iA.mono {ρ ρ':fC}{F M M':Nat→Prop}{w w':World}(hs:iI ρ ρ')(he:nG M w M' w'):∀(x:List V) (v:List Value),iA ρ (av F M) w x v→iA ρ' (av F M') w' x v
 | [],[],_=>by simp only[iA]
 |x::xs,v::vs,h=>by simp only[iA]at h⊢;exact⟨nA.mono hs he x v h.1,iA.mono hs he xs vs h.2⟩
 | [],_::_,h=>by simp only[iA]at h
 |_::_,[],h=>by simp only[iA]at h
end
theorem iA.consts {ρ:fC}{M:Nat→Prop}{w:World}:∀(vs:List Value),iA ρ M w (vs.map .c) vs
 | []=>by simp only[List.map_nil,iA]
 |v::vs=>by simp only[n3,iA,nA];exact⟨trivial,iA.consts vs⟩
theorem vI:∀(cols:List Fv) (i:Nat),(iK cols i).length=cols.length
 | [],_=>rfl
 |_::r,i=>by simp only[iK,hT,vI r i]
theorem iA.length {ρ:fC}{M:Nat→Prop}{w:World}:∀{xs:List V} {vs:List Value},iA ρ M w xs vs→xs.length=vs.length
 | [],[],_=>rfl
 |_::xs,_::vs,h=>by simp only[iA]at h;simp[iA.length h.2]
 | [],_::_,h=>by simp only[iA]at h
 |_::_,[],h=>by simp only[iA]at h
theorem iA.get {ρ:fC}{M:Nat→Prop}{w:World}:∀{xs:List V} {vs:List Value},iA ρ M w xs vs→∀{i:Nat} {x:V},xs[i]?=some x→∃v,vs[i]?=some v∧nA ρ M w x v
 | [],[],_,i,x,hx=>by simp at hx
 |y::xs,v::vs,h,0,x,hx=>by simp only[iA]at h;simp at hx;subst hx;exact⟨v,rfl,h.1⟩
 |y::xs,v::vs,h,i+1,x,hx=>by simp only[iA]at h;simp at hx;obtain⟨u,hu,hr⟩:=iA.get h.2 hx;exact⟨u,by simpa using hu,hr⟩
 | [],_::_,h,_,_,_=>by simp only[iA]at h
 |_::_,[],h,_,_,_=>by simp only[iA]at h
theorem iA.append {ρ:fC}{M:Nat→Prop}{w:World}:∀{xs:List V} {vs:List Value} {ys:List V} {us:List Value},iA ρ M w xs vs→iA ρ M w ys us→iA ρ M w (xs++ys) (vs++us)
 | [],[],_,_,_,h=>by simpa using h
 |_::xs,_::vs,_,_,h,h'=>by simp only[iA]at h;simp only[b7,iA];exact⟨h.1,iA.append h.2 h'⟩
 | [],_::_,_,_,h,_=>by simp only[iA]at h
 |_::_,[],_,_,h,_=>by simp only[iA]at h
theorem iA.take {ρ:fC}{M:Nat→Prop}{w:World}:∀{xs:List V} {vs:List Value} (n:Nat),iA ρ M w xs vs→iA ρ M w (xs.take n) (vs.take n)
 | [],[],n,h=>by simp[iA]
 |_::_,_::_,0,_=>by simp[iA]
 |_::xs,_::vs,n+1,h=>by simp only[iA]at h;simp only[c8,iA];exact⟨h.1,iA.take n h.2⟩
 | [],_::_,_,h=>by simp only[iA]at h
 |_::_,[],_,h=>by simp only[iA]at h
theorem iA.drop {ρ:fC}{M:Nat→Prop}{w:World}:∀{xs:List V} {vs:List Value} (n:Nat),iA ρ M w xs vs→iA ρ M w (xs.drop n) (vs.drop n)
 | [],[],n,h=>by simp[iA]
 |_::_,_::_,0,h=>by simpa using h
 |_::xs,_::vs,n+1,h=>by simp only[iA]at h;simp only[b8];exact iA.drop n h.2
 | [],_::_,_,h=>by simp only[iA]at h
 |_::_,[],_,h=>by simp only[iA]at h
mutual
theorem nA.world {ρ:fC}{M:Nat→Prop}{w w':World}(hw:w'.heap=w.heap):∀(x:V) (v:Value),nA ρ M w x v→nA ρ M w' x v
 | .c _,_,h=>by simpa only[nA]using h
 | .poison,_,_=>by simp only[nA]
 | .ptr _ _ _,_,h=>by simpa only[nA]using h
 | .sw _ _,_,h=>by simpa only[nA]using h
 | .sl _ _ _ _,_,h=>by simpa only[nA]using h
 | .rp _ _ _,_,h=>by simpa only[nA]using h
 | .ep _ _ _ _,_,h=>by simpa only[nA]using h
 | .tp _ _ _,_,h=>by simpa only[nA]using h
 | .yv _,_,h=>by simpa only[nA]using h
 | .inl _ _ _,_,h=>by
  simp only[nA]at h⊢;obtain h2|⟨b,o,cap,h2,h3,h4,h5,h6⟩:=h
  ·exact .inl h2
  ·exact .inr ⟨b,o,cap,h2,h3,by rw[hw];exact h4,h5,fun i hi=>by obtain⟨u,hu,hr⟩:=h6 i hi;exact⟨u,by rw[xC (w:=w) (by rw[hw])];exact hu,hr.world hw⟩⟩
 | .inlp _ _ _ _,_,h=>by simp only[nA]at h⊢;obtain⟨b,o,h2,h3,h4,h5,h6⟩:=h;exact⟨b,o,h2,h3,by rw[hw];exact h4,h5,fun i hi=>by obtain⟨u,hu,hr⟩:=h6 i hi;exact⟨u,by rw[xC (w:=w) (by rw[hw])];exact hu,hr.world hw⟩⟩
 | .il _ _ _,_,h=>by
  simp only[nA]at h⊢;obtain⟨h0,h1,h2|⟨b,o,cap,h2,h3,h4,h5,h6⟩⟩:=h
  ·exact⟨h0,h1,.inl h2⟩
  ·exact⟨h0,h1,.inr ⟨b,o,cap,h2,h3,by rw[hw];exact h4,h5,fun j hj=>by rw[xC (w:=w) (by rw[hw])];exact h6 j hj⟩⟩
 | .iv _ _,_,h=>by
  simp only[nA]at h⊢;obtain⟨h0,h2|⟨b,o,cap,h2,h3,h4,h5,h7⟩⟩:=h
  ·exact⟨h0,.inl h2⟩
  ·exact⟨h0,.inr ⟨b,o,cap,h2,h3,by rw[hw];exact h4,h5,fun i hi j hj=>by rw[xC (w:=w) (by rw[hw])];exact h7 i hi j hj⟩⟩
 | .ilp _ _ _ _,_,h=>by simp only[nA]at h⊢;obtain⟨b,o,h2,h3,h4,h5,h6⟩:=h;exact⟨b,o,h2,h3,by rw[hw];exact h4,h5,fun j hj=>by rw[xC (w:=w) (by rw[hw])];exact h6 j hj⟩
 | .ivp _ _ _ _,_,h=>by simp only[nA]at h⊢;obtain⟨b,o,h2,h3,h4,h5,h7⟩:=h;exact⟨b,o,h2,h3,by rw[hw];exact h4,h5,fun j hj=>by rw[xC (w:=w) (by rw[hw])];exact h7 j hj⟩
 | .agg cs,_,h=>by simp only[nA]at h⊢;obtain⟨vs,h1,h2⟩:=h;exact⟨vs,h1,iA.world hw cs _ h2⟩
 | .tup cs,_,h=>by simp only[nA]at h⊢;obtain⟨vs,h1,h2⟩:=h;exact⟨vs,h1,iA.world hw cs _ h2⟩
 | .fn _ a c,_,h=>by simp only[nA]at h⊢;obtain⟨va,vc,h1,h2,h3⟩:=h;exact⟨va,vc,h1,iA.world hw a _ h2,iA.world hw c _ h3⟩
theorem iA.world {ρ:fC}{M:Nat→Prop}{w w':World}(hw:w'.heap=w.heap):∀(x:List V) (v:List Value),iA ρ M w x v→iA ρ M w' x v
 | [],[],_=>by simp only[iA]
 |x::xs,v::vs,h=>by simp only[iA]at h⊢;exact⟨nA.world hw x v h.1,iA.world hw xs vs h.2⟩
 | [],_::_,h=>by simp only[iA]at h
 |_::_,[],h=>by simp only[iA]at h
end
theorem fT.world {w w':World}(hw:w'.heap=w.heap){b C:Nat}{c:Array Value}(h:fT w b C c):fT w' b C c:=by
 obtain⟨e,fr,h3,h4⟩:=h;exact⟨e,fr,by rw[hw];exact h3,h4⟩
theorem fT.same {w w':World}{b C:Nat}{c:Array Value}(hw:w'.heap[b]?=w.heap[b]?)(h:fT w b C c):fT w' b C c:=by
 obtain⟨e,fr,h3,h4⟩:=h;exact⟨e,fr,by rw[hw];exact h3,h4⟩
theorem cB.world {ρ:fC}{M:Nat→Prop}{w w':World}(hw:w'.heap=w.heap){p:Pl}{cs:List V}(h:cB ρ M w p cs):cB ρ M w' p cs:=by
 obtain⟨h1,h2|⟨b,c,h2,h3,h5,h6⟩⟩:=h
 ·exact⟨h1,.inl h2⟩
 ·exact⟨h1,.inr ⟨b,c,h2,h3.world hw,h5,iA.world hw _ _ h6⟩⟩
theorem lJ.world {M:Nat→Prop}{w w':World}(hw:w'.heap=w.heap){p:gT}{cs:List V}(h:lJ M w p cs):lJ M w' p cs:=by
 obtain⟨h1,h2|⟨b,c,h2,h3,h5,h6⟩⟩:=h
 ·exact⟨h1,.inl h2⟩
 ·exact⟨h1,.inr ⟨b,c,h2,h3.world hw,h5,iA.world hw _ _ h6⟩⟩
theorem wA.world {ρ:fC}{M:Nat→Prop}{w w':World}(hw:w'.heap=w.heap){p:Pl}{x:oA}(h:wA ρ M w p x):wA ρ M w' p x:=by
 cases x with
 |dead=>trivial
 |ints k l=>
  obtain⟨h1,h2|⟨b,c,h2,h3,h5⟩⟩:=h
  ·exact⟨h1,.inl h2⟩
  ·exact⟨h1,.inr ⟨b,c,h2,h3.world hw,h5⟩⟩
 |vals cs=>exact cB.world hw h
 |tw r l=>exact cB.world hw h
 |po s pid π=>exact cB.world hw h
 |amb A pre=>exact pQ.same h (fun b _ _=>by rw[hw]) (by rw[hw];exact hE _)
 |pool r rows=>obtain⟨h1,h2,h3,h4,h5,h6⟩:=h;exact⟨h1,h2,h3,h4,fun q pl l hq hl=>(h5 q pl l hq hl).world hw,h6⟩
theorem iA.none {ρ:fC}{F M:Nat→Prop}{w:World}{xs:List V}{vs:List Value}(h:iA (fun _=>none) (av F M) w xs vs):iA ρ (av F M) w xs vs:=
 iA.mono (fun _ _ h=>by cases h) (nG.refl _ _) xs vs h
theorem nA.none {ρ:fC}{F M:Nat→Prop}{w:World}{x:V}{v:Value}(h:nA (fun _=>none) (av F M) w x v):nA ρ (av F M) w x v:=
 nA.mono (fun _ _ h=>by cases h) (nG.refl _ _) x v h
theorem cB.mono {ρ ρ':fC}{F M M':Nat→Prop}{w w':World}(hs:iI ρ ρ')(he:nG M w M' w'){p:Pl}{cs:List V}(h:cB ρ (av F M) w p cs)
  (hb:∀b,p.blk=some b→w'.heap[b]?=w.heap[b]?):cB ρ' (av F M') w' p cs:=by
 obtain⟨h1,h2|⟨b,c,h2,h3,h5,h6⟩⟩:=h
 ·exact⟨h1,.inl h2⟩
 ·exact⟨h1,.inr ⟨b,c,h2,h3.same (hb b h2),h5,iA.mono hs he _ _ h6⟩⟩
theorem lJ.mono {F M M':Nat→Prop}{w w':World}(he:nG M w M' w'){p:gT}{cs:List V}(h:lJ (av F M) w p cs)
  (hb:∀b,p.blk=some b→w'.heap[b]?=w.heap[b]?):lJ (av F M') w' p cs:=by
 obtain⟨h1,h2|⟨b,c,h2,h3,h5,h6⟩⟩:=h
 ·exact⟨h1,.inl h2⟩
 ·exact⟨h1,.inr ⟨b,c,h2,h3.same (hb b h2),h5,iA.mono (iI.refl _) he _ _ h6⟩⟩
theorem wA.mono {ρ ρ':fC}{F M M':Nat→Prop}{w w':World}(hs:iI ρ ρ')(he:nG M w M' w'){p:Pl}{x:oA}(h:wA ρ (av F M) w p x)
  (hb:∀b,x.has p b→w'.heap[b]?=w.heap[b]?):wA ρ' (av F M') w' p x:=by
 cases x with
 |dead=>trivial
 |ints k l=>
  obtain⟨h1,h2|⟨b,c,h2,h3,h5⟩⟩:=h
  ·exact⟨h1,.inl h2⟩
  ·exact⟨h1,.inr ⟨b,c,h2,h3.same (hb b h2),h5⟩⟩
 |vals cs=>exact cB.mono hs he h fun b h=>hb b h
 |tw r l=>exact cB.mono hs he h fun b h=>hb b h
 |po s pid π=>exact cB.mono hs he h fun b h=>hb b h
 |amb A pre=>exact pQ.same h (fun b _ h=>hb b (qH.mp h)) he.size
 |pool r rows=>obtain⟨h1,h2,h3,h4,h5,h6⟩:=h;exact⟨h1,h2,h3,h4,fun q pl l hq hl=>(h5 q pl l hq hl).mono he fun b h=>hb b ⟨pl,x5 hq,h⟩,h6⟩
def fG (P:Program)(t:Nat):TK→Prop
 | .int k=>P.underlying t=some (.int k)
 | .bool=>P.underlying t=some .bool
 | .str=>P.underlying t=some .string
 | .slice e=>P.underlying t=some (.slice e)
 | .arr n e=>P.underlying t=some (.array n e)
 | .struct fs=>∃fields:Array Field,P.underlying t=some (.struct fields)∧fields.toList.map (fun f=>(f.type,f.offset))=fs∧∀f∈fields.toList,f.name≠ "_"
 | .ptr e=>P.underlying t=some (.pointer e)
 | .func=>∃a b c,P.underlying t=some (.func a b c)
 | .other=>∃d,P.underlying t=some d∧(∀fs,d≠ .struct fs)∧∀n e,d≠ .array n e
structure cC (P:Program)(t:Nat)(ti:TI):Prop where
 info:∃i,P.info? t=some i∧i.size=ti.size∧i.bytes=ti.bytes∧∃z,i.zero=some z∧z.cells.toList=ti.zero
 zlen:ti.zero.length=ti.size
 one:ti.isAgg=false→ti.size=1
 tk:fG P t ti.tk
 eq:ti.isAgg=true→P.stoodInHeld t=false∧P.eqGuardType P.depth t=false
def eD (P:Program)(ty:Nat→Option TI):Prop:=∀t ti,ty t=some ti→cC P t ti
section
variable {P:Program}{w:World}{t:Nat}{ti:TI}
theorem cC.sizeOf (h:cC P t ti):(Go.sizeOf t).run P w= .ok ti.size w:=by
 obtain⟨i,h1,h2,_⟩:=h.info;simp[Go.sizeOf,typeInfo,h1,h2]
theorem cC.typeInfo (h:cC P t ti):∃i,(Go.typeInfo t).run P w= .ok i w∧i.bytes=ti.bytes∧i.size=ti.size:=by
 obtain⟨i,h1,h2,h3,_⟩:=h.info;exact⟨i,by simp[Go.typeInfo,h1],h3,h2⟩
theorem cC.zeroValue (h:cC P t ti):∃z,(Go.zeroValue t).run P w= .ok z w∧z.cells.toList=ti.zero:=by
 obtain⟨i,h1,_,_,z,h4,h5⟩:=h.info;exact⟨z,by simp[Go.zeroValue,Go.typeInfo,h1,h4],h5⟩
theorem cC.isAgg (h:cC P t ti):(Go.isAgg t).run P w= .ok ti.isAgg w:=by
 have hk:=h.tk;unfold TI.isAgg;cases hti:ti.tk<;>rw[hti]at hk<;>simp only[fG]at hk
 case struct fs=>obtain⟨fields,h1,_⟩:=hk;simp[Go.isAgg,run_underlying h1]
 case other=>obtain⟨d,h1,h2,h3⟩:=hk;cases d<;>simp_all[Go.isAgg,run_underlying h1]
 case func=>obtain⟨a,b,c,h1⟩:=hk;simp[Go.isAgg,run_underlying h1]
 all_goals simp[Go.isAgg,run_underlying hk]
theorem cC.und (h:cC P t ti):∃d,P.underlying t=some d:=by
 have hk:=h.tk;cases hti:ti.tk<;>rw[hti]at hk<;>simp only[fG]at hk
 case struct fs=>obtain⟨fields,h1,_⟩:=hk;exact⟨_,h1⟩
 case other=>obtain⟨d,h1,h2,h3⟩:=hk;exact⟨_,h1⟩
 case func=>obtain⟨a,b,c,h1⟩:=hk;exact⟨_,h1⟩
 all_goals exact⟨_,hk⟩
end
theorem sT {fields:Array Field}{fs:List (Nat×Nat)}{i t off:Nat}(h:fields.toList.map (fun f=>(f.type,f.offset))=fs)(hi:fs[i]?=some (t,off)):
  ∃f,fields[i]?=some f∧f.type=t∧f.offset=off:=by
 subst h;simp only[p2,hQ]at hi;obtain⟨f,h1,h2⟩:=hi;exact⟨f,by simpa using h1,by cases h2;rfl,by cases h2;rfl⟩
theorem nC {a b:Nat}(h:Nat.blt a b=true):a<b:=s7 h
theorem wF {a b:Nat}(h:Nat.ble a b=true):a≤b:=s7 h
theorem yA {a b:Nat}(h:Nat.beq a b=true):a=b:=p4 h
theorem yF {a b:IntKind}(h:dQ a b=true):a=b:=by
 revert h;cases a<;>cases b<;>decide
theorem eH (b o n:Nat):Addr.add ⟨b,o,none⟩ n=⟨b,o+n,none⟩:=Addr.add_lit b o n
theorem rB (w n:Nat):rH w n=n*w:=by unfold rH;split<;>simp
theorem jE (w n:Nat):pJ w n=n/w:=by unfold pJ;split<;>simp
def lF (h:Nat→oA):List (Nat×oA)→Nat→oA
 | [],j=>h j
 |(i,b)::r,j=>lF (fun j=>if j=i then b else h j) r j
def pe (h:Nat→oA)(nid:Nat):List oA→Nat→oA
 | [],j=>h j
 |b::r,j=>pe (fun j=>if j=nid then b else h j) (nid+1) r j
def cJ (h:Nat→oA)(nid:Nat)(out:jJ):Nat→oA:=pe (lF h out.wr) nid out.new
def gF (F:Nat→Prop)(ρ:fC)(h:Nat→oA)(w:World)(nid:Nat)(out:jJ)(r:Result Next):Prop:=
 ∃v w' ρ',(r= .ok (.value v) w'∨(r= .ok .skip w'∧v=undef))∧iI ρ ρ'∧(∀id,(id<nid∨nid+out.new.length≤id)→ρ id=none→ρ' id=none)∧
  lA F ρ' (cJ h nid out) w'∧nA ρ' (av F (gA ρ' (cJ h nid out))) w' out.val v∧nG (gA ρ h) w (gA ρ' (cJ h nid out)) w'
section
variable {P:Program}{F:Nat→Prop}{ρ:fC}{h:Nat→oA}{w:World}{nid:Nat}
theorem gF.pure {x:V}{v:Value}{tc:List Nat}{r:Result Next}(hh:lA F ρ h w)(hr:r= .ok (.value v) w)(hv:nA ρ (av F (gA ρ h)) w x v):gF F ρ h w nid {val:=x,touch:=tc} r:=
 ⟨v,w,ρ,.inl hr,iI.refl _,fun _ _ h=>h,hh,hv,nG.refl _ _⟩
theorem nA.cells {ρ:fC}{M:Nat→Prop}{w:World}{x:V}{v:Value}{cs:List V}(hv:nA ρ M w x v)(hc:iE x=some cs):iA ρ M w cs v.cells.toList:=by
 cases x with
 |c u=>simp only[nA]at hv;subst hv;cases v<;>simp_all[iE]<;>subst hc<;>simp[iA,Value.cells,nA]
 |poison=>simp[iE]at hc
 |agg cs=>simp only[nA]at hv;obtain⟨vs,rfl,hr⟩:=hv;simp[iE]at hc;subst hc;simpa[Value.cells]using hr
 |ptr _ _ _=>simp[iE]at hc;subst hc;have hv':=hv;simp only[nA]at hv;obtain⟨_,_,_,_,_,_,rfl⟩:=hv;simp only[Value.cells,iA,and_true];exact hv'
 |sw _ _=>simp[iE]at hc;subst hc;have hv':=hv;simp only[nA]at hv;obtain⟨_,⟨_,_,_,_,_,_,_,_,_,rfl⟩|⟨_,_,rfl⟩⟩:=hv<;>(simp only[Value.cells,iA,and_true];exact hv')
 |sl _ _ _ _=>simp[iE]at hc;subst hc;have hv':=hv;simp only[nA]at hv;obtain⟨_,⟨_,_,_,_,_,_,_,_,_,rfl⟩|⟨_,_,rfl⟩⟩:=hv<;>(simp only[Value.cells,iA,and_true];exact hv')
 |il _ _ _=>simp[iE]at hc;subst hc;have hv':=hv;simp only[nA]at hv;obtain⟨_,_,⟨_,_,rfl⟩|⟨_,_,_,rfl,_⟩⟩:=hv<;>(simp only[Value.cells,iA,and_true];exact hv')
 |iv _ _=>simp[iE]at hc;subst hc;have hv':=hv;simp only[nA]at hv;obtain⟨_,⟨_,_,rfl⟩|⟨_,_,_,rfl,_⟩⟩:=hv<;>(simp only[Value.cells,iA,and_true];exact hv')
 |ilp _ _ _ _=>simp[iE]at hc;subst hc;have hv':=hv;simp only[nA]at hv;obtain⟨_,_,rfl,_⟩:=hv;simp only[Value.cells,iA,and_true];exact hv'
 |ivp _ _ _ _=>simp[iE]at hc;subst hc;have hv':=hv;simp only[nA]at hv;obtain⟨_,_,rfl,_⟩:=hv;simp only[Value.cells,iA,and_true];exact hv'
 |inl _ _ _=>simp[iE]at hc;subst hc;have hv':=hv;simp only[nA]at hv;obtain⟨_,_,rfl⟩|⟨_,_,_,rfl,_⟩:=hv<;>(simp only[Value.cells,iA,and_true];exact hv')
 |inlp _ _ _ _=>simp[iE]at hc;subst hc;have hv':=hv;simp only[nA]at hv;obtain⟨_,_,rfl,_⟩:=hv;simp only[Value.cells,iA,and_true];exact hv'
 |rp _ _ _=>simp[iE]at hc;subst hc;have hv':=hv;simp only[nA]at hv;obtain⟨_,_,_,_,_,⟨_,_,_,_,_,_,rfl⟩|⟨_,_,rfl⟩⟩:=hv<;>(simp only[Value.cells,iA,and_true];exact hv')
 |ep _ _ _ _=>simp[iE]at hc;subst hc;have hv':=hv;simp only[nA]at hv;obtain⟨_,_,_,_,_,_,_,rfl⟩:=hv;simp only[Value.cells,iA,and_true];exact hv'
 |tp _ _ _=>simp[iE]at hc;subst hc;have hv':=hv;simp only[nA]at hv;obtain⟨_,_,_,_,_,_,rfl⟩:=hv;simp only[Value.cells,iA,and_true];exact hv'
 |yv _=>simp[iE]at hc;subst hc;have hv':=hv;simp only[nA]at hv;obtain⟨_,_,rfl⟩:=hv;simp only[Value.cells,iA,and_true];exact hv'
 |tup cs=>simp[iE]at hc;subst hc;have hv':=hv;simp only[nA]at hv;obtain⟨vs,rfl,hr⟩:=hv;simp only[Value.cells,iA,and_true];exact hv'
 |fn f a c=>simp[iE]at hc;subst hc;have hv':=hv;simp only[nA]at hv;obtain⟨va,vc,rfl,_,_⟩:=hv;simp only[Value.cells,iA,and_true];exact hv'
end
section
variable {P:Program}{F:Nat→Prop}{ρ:fC}{M:Nat→Prop}{h:Nat→oA}{w:World}{nid:Nat}
theorem nA.int {k:IntKind}{n:Int}{v:Value}(hv:nA ρ M w (.c (.int k n)) v):v= .int k n:=by simpa only[nA]using hv
theorem nA.c {x v:Value}(hv:nA ρ M w (.c x) v):v=x:=by simpa only[nA]using hv
theorem nA.of_c (x:Value):nA ρ M w (.c x) x:=by simp only[nA]
theorem zx {op:BinOp}{k:IntKind}{a b:Int}{out:jJ}(hs:op≠ .shl∧op≠ .shr)(ha:zw op k a b=some (true,out))(t:Nat)(x y:Operand):
  ∃v,out={val:=.c v}∧((do eqGuard op t x y (.int k a) (.int k b);binOp op t (.int k a) (.int k b)):Sem Value).run P w= .ok v w:=by
 cases op<;>simp only[zw,kC,eE,bk,hA,hD,reduceCtorEq,true_and]at ha
 case quo=>
  obtain⟨hb,ho⟩:=ha;have hb':b≠0:=by simpa using hb
  exact⟨_,ho.symm,by rw[eqGuard_at_int];simp[binOp,Op.intDiv,hb']⟩
 case rem=>
  obtain⟨hb,ho⟩:=ha;have hb':b≠0:=by simpa using hb
  exact⟨_,ho.symm,by rw[eqGuard_at_int];simp[binOp,Op.intDiv,hb']⟩
 all_goals first
  |exact absurd rfl hs.1
  |exact absurd rfl hs.2
  |exact⟨_,ha.symm,by rw[eqGuard_at_int];simp[binOp,Op.intArith,Op.intCmp,Op.intBits]⟩
theorem zY {op:BinOp}{k yk:IntKind}{a b:Int}{out:jJ}(ha:fW op k a b=some (true,out))(t:Nat)(x y:Operand):
  ∃v,out={val:=.c v}∧((do eqGuard op t x y (.int k a) (.int yk b);binOp op t (.int k a) (.int yk b)):Sem Value).run P w= .ok v w:=by
 cases op<;>simp only[fW,eE,hA,hD,reduceCtorEq]at ha
 all_goals
  obtain⟨hb,ho⟩:=ha;have hb':¬b<0:=by simp at hb;omega
  exact⟨_,ho.symm,by rw[eqGuard_at_int];simp[binOp,Op.shift,hb']⟩
theorem Gh {ty:Nat→Option TI}(hty:eD P ty){t d:Nat}{x y:V}{vx vy:Value}{e:Bool}(he:Hf (ty t) x y=some e)(hx:nA ρ M w x vx)(hy:nA ρ M w y vy):
  (Op.equalIn (d+1) t vx vy).run P w= .ok e w∧(Go.isAgg t).run P w= .ok false w:=by
 unfold Hf at he;split at he
 ·rename_i k0 s0 b0 z0 ht;have hk:=(hty _ _ ht).tk;simp only[fG]at hk;split at he
  ·rename_i k a k' b;cases hkk:dQ k k' with
   |false=>simp[hkk]at he
   |true=>have:=yF hkk;subst this;simp[hkk]at he;subst he;have h1:=hx.int;have h2:=hy.int;subst h1;subst h2;exact⟨run_equalIn_int w d t k k0 a b hk,by simp[Go.isAgg,run_underlying hk]⟩
  ·cases he
 ·rename_i s0 b0 z0 ht;have hk:=(hty _ _ ht).tk;simp only[fG]at hk;split at he
  ·rename_i a b;have h1:=hx.c;have h2:=hy.c;subst h1;subst h2;simp only[hA]at he;subst he;exact⟨run_equalIn_bool w d t a b hk,by simp[Go.isAgg,run_underlying hk]⟩
  ·cases he
 ·cases he
theorem gX {ty:Nat→Option TI}(hty:eD P ty){d:Nat}{xs ys:Array Value}:∀(fs:List Field) (ts:List (Nat×Nat)) (i:Nat) (cx cy:List V) (e:Bool),vJ ty ts i cx cy=some e→
  fs.map (fun f=>(f.type,f.offset))=ts→(∀f∈fs,f.name≠ "_")→
  iA ρ M w cx (xs.toList.drop i)→iA ρ M w cy (ys.toList.drop i)→(Op.eqFields (d+1) xs ys fs).run P w= .ok e w
 | [],ts,i,cx,cy,e,he,hts,_,_,_=>by simp at hts;subst hts;cases cx<;>cases cy<;>simp[vJ]at he;subst he;simp[Op.eqFields]
 |f::fs,ts,i,cx,cy,e,he,hts,hnm,hx,hy=>by
  subst hts;have hn:=hnm f (by simp);have part_at:∀{zs:Array Value} {cz:List V} {z:V},iA ρ M w (z::cz) (zs.toList.drop i)→∃v,zs[i]?=some v∧nA ρ M w z v∧iA ρ M w cz (zs.toList.drop (i+1)):=by
   intro zs cz z hz;have hne:zs.toList.drop i≠ []:=by intro h0;rw[h0]at hz;simp[iA]at hz
   obtain⟨v,r,hd⟩:=List.exists_cons_of_ne_nil hne;rw[hd]at hz;simp only[iA]at hz;have h1:zs.toList[i]?=some v:=by
    have:(zs.toList.drop i)[0]?=some v:=by rw[hd];rfl
    simpa using this
   have h2:zs.toList.drop (i+1)=r:=by have:=congrArg List.tail hd;simpa[List.tail_drop]using this
   exact⟨v,by simpa using h1,hz.1,by rw[h2];exact hz.2⟩
  cases cx with
  |nil=>cases fs<;>cases cy<;>simp[vJ]at he
  |cons x cx=>
  cases cy with
  |nil=>cases fs<;>cases cx<;>simp[vJ]at he
  |cons y cy=>
  obtain⟨vx,gx,rx,tx⟩:=part_at hx;obtain⟨vy,gy,ry,ty'⟩:=part_at hy;have wV:∀q s,f.offset=i→Hf (ty f.type) x y=some q→(Op.eqFields (d+1) xs ys fs).run P w= .ok s w→(Op.eqFields (d+1) xs ys (f::fs)).run P w= .ok (q&&s) w:=by
   intro q s ho hq ih;obtain⟨he1,hagg⟩:=Gh (d:=d) hty hq rx ry;have px:(part f.type xs f.offset).run P w= .ok vx w:=by simp[part,hagg,ho,gx]
   have py:(part f.type ys f.offset).run P w= .ok vy w:=by simp[part,hagg,ho,gy]
   rw[Op.eqFields];simp only[if_pos hn,aE,px,py,he1,hB];cases q
   ·simp
   ·simpa using ih
  have gen:∀q s,(Nat.beq f.offset i=true)→Hf (ty f.type) x y=some q→vJ ty (fs.map fun f=>(f.type,f.offset)) (i+1) cx cy=some s→(Op.eqFields (d+1) xs ys (f::fs)).run P w= .ok (q&&s) w:=
   fun q s ho hq hs=>wV q s (p4 ho) hq (gX hty fs _ (i+1) cx cy s hs rfl (fun g hg=>hnm g (by simp[hg])) tx ty')
  cases fs with
  |nil=>
   cases cx<;>cases cy<;>simp only[n3,List.map_nil,vJ]at he
   ·cases ho:Nat.beq f.offset i with
    |false=>simp[ho]at he
    |true=>simp[ho]at he;have:=wV e true (p4 ho) he (by simp[Op.eqFields]);simpa using this
   all_goals (cases ho:Nat.beq f.offset i<;>simp[ho]at he)
  |cons g gs=>
   simp only[n3,vJ]at he;cases ho:Nat.beq f.offset i with
   |false=>simp[ho]at he
   |true=>
    simp only[ho,cond_true]at he;split at he
    ·rename_i q s hq hs;simp only[hA]at he;subst he;exact gen q s ho hq (by simpa using hs)
    ·cases he
theorem nU {ty:Nat→Option TI}(hty:eD P ty){t:Nat}{a b:List V}{e:Bool}{xs ys:Array Value}(he:cS ty t a b=some e)(hx:iA ρ M w a xs.toList)(hy:iA ρ M w b ys.toList):
  (Op.equalIn 10000 t (.agg xs) (.agg ys)).run P w= .ok e w∧P.eqGuardType P.depth t=false:=by
 unfold cS at he;split at he
 ·rename_i fs s0 b0 z0 ht;have hk:=(hty _ _ ht).tk;have hq:=(hty _ _ ht).eq rfl;simp only[fG]at hk;obtain⟨fields,h1,h2,h3⟩:=hk;have hf:P.fieldsOf t=fields:=by simp[Program.fieldsOf,h1]
  refine⟨?_,hq.2⟩;rw[run_equalIn_struct (P:=P) w 9999 t xs ys (by rw[hf];exact h1) hq.1,hf];exact gX hty fields.toList fs 0 a b e he h2 h3 (by simpa using hx) (by simpa using hy)
 ·cases he
theorem Cx {ty:Nat→Option TI}(hty:eD P ty){op:BinOp}{t:Nat}{x y:V}{vx vy:Value}{out:jJ}(xo yo:Operand)(hb:G2 ty t op x y=some (true,out))(hx:nA ρ M w x vx)(hy:nA ρ M w y vy):
  ∃v,out={val:=.c v}∧((do eqGuard op t xo yo vx vy;binOp op t vx vy):Sem Value).run P w= .ok v w:=by
 unfold G2 at hb;split at hb
 ·have:=hx.int;have:=hy.int;subst_vars;exact zY hb t xo yo
 ·have:=hx.int;have:=hy.int;subst_vars;exact zY hb t xo yo
 ·rename_i o x y k a k' b h1 h2;cases hk:dQ k k' with
  |false=>simp[hk]at hb
  |true=>have:=yF hk;subst this;simp only[hk,cond_true]at hb;have:=hx.int;have:=hy.int;subst_vars;exact zx ⟨h1,h2⟩ hb t xo yo
 ·split at hb
  ·rename_i a b _ _ _ _ ht;have hk:=(hty _ _ ht).tk;simp only[fG]at hk;have:=hx.c;have:=hy.c;subst_vars;simp only[kC,hA,hD,true_and]at hb;exact⟨_,hb.symm,by rw[eqGuard_at_bool];simp[run_eql_bool w t a b hk]⟩
  ·cases hb
 ·split at hb
  ·rename_i a b _ _ _ _ ht;have hk:=(hty _ _ ht).tk;simp only[fG]at hk;have:=hx.c;have:=hy.c;subst_vars;simp only[kC,hA,hD,true_and]at hb;exact⟨_,hb.symm,by rw[eqGuard_at_bool];simp[run_neq_bool w t a b hk]⟩
  ·cases hb
 ·rename_i a b;have:=hx.c;have:=hy.c;subst_vars;simp only[eE,hA,hD]at hb;obtain⟨h1,h2⟩:=hb;refine⟨_,h2.symm,?_⟩;have h1':¬(((a.size+b.size:Nat):Int)>IntKind.i64.max):=by simp at h1⊢;omega
  rw[eqGuard_at_string];simp only[binOp,Op.stringOp,aE,hF,hB,if_neg h1']
 ·rename_i a b;have:=hx.c;have:=hy.c;subst_vars;simp only[kC,hA,hD,true_and]at hb;exact⟨_,hb.symm,by rw[eqGuard_at_string];simp[binOp,Op.stringOp]⟩
 ·rename_i a b;have:=hx.c;have:=hy.c;subst_vars;simp only[kC,hA,hD,true_and]at hb;exact⟨_,hb.symm,by rw[eqGuard_at_string];simp[binOp,Op.stringOp]⟩
 ·split at hb
  ·rename_i a b e he;simp only[nA]at hx hy;obtain⟨xs,rfl,hx⟩:=hx;obtain⟨ys,rfl,hy⟩:=hy;obtain⟨h1,h2⟩:=nU hty he hx hy;simp only[kC,hA,hD,true_and]at hb;exact⟨_,hb.symm,by rw[aE,run_eqGuard_agg w _ t xo yo xs ys h2,hB,run_eql_struct,h1,hB]⟩
  ·cases hb
 ·split at hb
  ·rename_i a b e he;simp only[nA]at hx hy;obtain⟨xs,rfl,hx⟩:=hx;obtain⟨ys,rfl,hy⟩:=hy;obtain⟨h1,h2⟩:=nU hty he hx hy;simp only[kC,hA,hD,true_and]at hb;exact⟨_,hb.symm,by rw[aE,run_eqGuard_agg w _ t xo yo xs ys h2,hB,run_neq_struct,h1,hB]⟩
  ·cases hb
 ·cases hb
end
section
variable {P:Program}{F:Nat→Prop}{ρ:fC}{M:Nat→Prop}{h:Nat→oA}{w:World}{nid:Nat}
theorem vB {x:V}{out:jJ}(h:kC x=some (true,out)):out={val:=x}:=by
 simp only[kC,hA,hD,true_and]at h;exact h.symm
theorem vD {b:Bool}{x:V}{out:jJ}(h:eE b x=some (true,out)):b=true∧out={val:=x}:=by
 simp only[eE,hA,hD]at h;exact⟨h.1,h.2.symm⟩
theorem H5 {op:UnOp}{x:V}{vx:Value}{out:jJ}(hb:Jv op x=some (true,out))(hx:nA ρ M w x vx):
  ∃v,out={val:=.c v}∧(Op.unary op vx).run P w= .ok v w:=by
 unfold Jv at hb;split at hb
 ·have:=hx.int;subst this;exact⟨_,vB hb,by simp[Op.unary,Op.intArith]⟩
 ·have:=hx.c;subst this;exact⟨_,vB hb,by simp[Op.unary]⟩
 ·have:=hx.int;subst this;simp only[bk]at hb;exact⟨_,vB hb,by simp[Op.unary,Op.intBits]⟩
 ·cases hb
theorem pU {f:Int→Int→Int}{g:Value→Value→Sem Value}{k:IntKind}(hg:∀a b,g (.int k a) (.int k b)=pure (.int k (f a b))):∀(xs:List V) (vs:List Value) (a n:Int),
  nK f k a xs=some n→iA ρ M w xs vs→(vs.foldlM g (.int k a)).run P w= .ok (.int k n) w
 | [],[],a,n,h,_=>by simp[nK]at h;subst h;simp
 | [],_::_,_,_,_,h=>by simp[iA]at h
 |_::_,[],_,_,_,h=>by simp[iA]at h
 |x::xs,v::vs,a,n,h,hr=>by
  simp only[iA]at hr;cases x with
  |c u=>
   cases u with
   |int k' b=>
    simp only[nK]at h;cases hk:dQ k k' with
    |false=>simp[hk]at h
    |true=>have:=yF hk;subst this;simp only[hk,cond_true]at h;have:=hr.1.int;subst this;rw[List.foldlM_cons,hg];simp only[aE,hF,hB];exact pU hg xs vs _ n h hr.2
   |_=>simp[nK]at h
  |_=>simp[nK]at h
theorem j9 {f:Int→Int→Int}{g:Value→Value→Sem Value}(hg:∀k a b,g (.int k a) (.int k b)=pure (.int k (f a b))){xs:List V}{vs:List Value}{out:jJ}(h:df f xs=some (true,out))(hr:iA ρ M w xs vs):
  ∃x r v,vs=x::r∧out={val:=.c v}∧(r.foldlM g x).run P w= .ok v w:=by
 unfold df at h;split at h
 ·rename_i k a r;split at h
  ·rename_i n hn;cases vs with
   |nil=>simp[iA]at hr
   |cons v vs=>simp only[iA]at hr;have:=hr.1.int;subst this;exact⟨_,_,_,rfl,vB h,pU (fun a b=>hg k a b) r vs a n hn hr.2⟩
  ·cases h
 ·cases h
theorem eI {b o:Nat}:∀(n i:Nat) (acc:Array Value) (vs:List Value),vs.length=n→(∀j,j<n→w.cell? ⟨b,o+(i+j),none⟩=vs[j]?)→
  (loadCellsFrom ⟨b,o,none⟩ i n acc).run P w= .ok (acc++vs.toArray) w
 |0,i,acc,vs,hl,_=>by have:vs=[]:=hU.mp hl;subst this;simp[loadCellsFrom]
 |n+1,i,acc,vs,hl,hc=>by
  cases vs with
  |nil=>simp at hl
  |cons v vs=>have h0:=hc 0 (by omega);simp only[n4,n1]at h0;simp only[loadCellsFrom,aE,eH,run_load,h0,hB];rw[eI n (i+1) _ vs (by simpa using hl) (fun j hj=>by have:=hc (j+1) (by omega);simpa[p0,a6 1 j]using this)];simp
theorem eJ {t:Nat}{ti:TI}(ht:cC P t ti)(hs:0<ti.size){b o:Nat}{vs:List Value}(hl:vs.length=ti.size)(hc:∀j,j<ti.size→w.cell? ⟨b,o+j,none⟩=vs[j]?)(h1:ti.isAgg=false→ti.size=1):
  (loadVar t ⟨b,o,none⟩).run P w= .ok (if ti.isAgg then .agg vs.toArray else vs.headD undef) w:=by
 unfold loadVar;simp only[aE,ht.isAgg,hB];cases ha:ti.isAgg with
 |true=>have h2:=eI (P:=P) (w:=w) (b:=b) (o:=o) ti.size 0 #[] vs hl (fun j hj=>by simpa using hc j hj);simp only[if_true,loadCells,aE,ht.sizeOf,hB,h2,hF];simp
 |false=>
  have h0:=hc 0 hs;cases vs with
  |nil=>simp at hl;omega
  |cons v vs=>simp at h0;simp[h0]
theorem dZ:∀{cs r:List V} {n:Nat},bO cs n=some r→r=cs.take n∧n≤cs.length
 |cs,r,0,h=>by simp[bO]at h;subst h;simp
 | [],r,n+1,h=>by simp[bO]at h
 |c::cs,r,n+1,h=>by simp only[bO,hQ]at h;obtain⟨r',h1,h2⟩:=h;obtain⟨h3,h4⟩:=dZ h1;subst h2;subst h3;simp;omega
theorem yR:∀(cs:List V) (n:Nat),qO cs n=cs.drop n
 |cs,0=>by simp[qO]
 | [],n+1=>by simp[qO]
 |c::cs,n+1=>by simp[qO,yR cs n]
theorem qm:∀(cs:List V) (n:Nat),nh cs n=cs[n]?
 | [],n=>by simp[nh]
 |c::cs,0=>by simp[nh]
 |c::cs,n+1=>by simp[nh,qm cs n]
theorem vX (k:IntKind)(l:List Int):∀(off n:Nat),iA ρ M w (uX k l off n) ((List.range n).map fun j=>Value.int k (l.getD (off+j) 0))
 |_,0=>by simp[uX,iA]
 |off,n+1=>by
  rw[List.range_succ_eq_map];simp only[uX,n3,iA,List.map_map,n4];refine⟨nA.of_c _,?_⟩;have:=vX k l (off+1) n;have e:((fun j=>Value.int k (l.getD (off+j) 0))∘Nat.succ)=fun j=>Value.int k (l.getD (off+1+j) 0):=by funext j;simp[p0,a6 1 j]
  rw[e];exact this
def au (ρ:fC)(M:Nat→Prop)(w:World)(b o:Nat)(n:Nat)(x:oA):Prop:=match x with
 | .dead=>False
 | .ints k l=>n≤l.length∧∀j,j<n→w.cell? ⟨b,o+j,none⟩=some (.int k (l.getD j 0))
 | .vals cs=>n≤cs.length∧∃vs,iA ρ M w cs vs∧∀j,j<n→w.cell? ⟨b,o+j,none⟩=vs[j]?
 | .tw r l=>n≤(r.flat l).length∧∃vs,iA ρ M w (r.flat l) vs∧∀j,j<n→w.cell? ⟨b,o+j,none⟩=vs[j]?
 | .po s pid π=>n≤(cL s pid π).length∧∃vs,iA ρ M w (cL s pid π) vs∧∀j,j<n→w.cell? ⟨b,o+j,none⟩=vs[j]?
 | .pool _ _=>False
 | .amb _ _=>False
theorem iN {t:Nat}{ti:TI}(ht:cC P t ti)(hs:0<ti.size){b o off n:Nat}{x:oA}{y:V}(hc:au ρ M w b o n x)(hn:off+ti.size≤n)(hl:cI ti off x=some y)(h1:ti.isAgg=false→ti.size=1):
  ∃v,(loadVar t ⟨b,o+off,none⟩).run P w= .ok v w∧nA ρ M w y v:=by
 cases x with
 |dead=>exact hc.elim
 |tw _ _=>simp[cI]at hl
 |pool _ _=>exact hc.elim
 |amb _ _=>exact hc.elim
 |ints k l=>
  obtain⟨hl0,hc⟩:=hc;simp only[cI,hA]at hl;subst hl;have hr:=eJ ht hs (b:=b) (o:=o+off) (vs:=(List.range ti.size).map fun j=>Value.int k (l.getD (off+j) 0)) (by simp) (fun j hj=>by rw[p0,hc (off+j) (by omega)];simp[hj]) h1;refine⟨_,hr,?_⟩;cases ha:ti.isAgg with
  |true=>simp only[cond_true,if_true,nA];exact⟨_,rfl,by simpa using vX k l off ti.size⟩
  |false=>have hz:=h1 ha;simp only[cond_false,c0,if_false];rw[hz];exact nA.of_c _
 |po s pid π=>
  obtain⟨hl0,vs,hrel,hc⟩:=hc;simp only[cI]at hl;cases ha:ti.isAgg with
  |true=>rw[ha]at hl;cases hl
  |false=>
   rw[ha,cond_false]at hl;have hz:=h1 ha;simp only[hA]at hl;subst hl;have hlen:=hrel.length;simp only[cL,x3]at hlen hl0;have hlt:off<π.length:=by omega
   have hrv:=eJ ht hs (b:=b) (o:=o+off) (vs:=(vs.drop off).take ti.size) (by rw[hz];simp;omega) (fun j hj=>by rw[p0,hc (off+j) (by omega)];simp[o0,hj]) h1;obtain⟨u,hu,hru⟩:=hrel.get (i:=off) (x:=.rp pid (π.getD off 0) s) (by simp only[cL];rw[p2,hS hlt,zE,hS hlt];rfl);have e:(vs.drop off).take ti.size=[u]:=by rw[hz];obtain⟨hlt2,hu2⟩:=y2.mp hu;rw[x2 hlt2,hu2];rfl
   rw[e,ha]at hrv;exact⟨u,hrv,hru⟩
 |vals cs=>
  obtain⟨hl0,vs,hrel,hc⟩:=hc;simp only[cI,yR]at hl;split at hl
  ·cases hl
  ·rename_i r hr;obtain⟨h2,h3⟩:=dZ hr;simp only[hA]at hl;subst hl;have hlen:=hrel.length;have hrl:((vs.drop off).take ti.size).length=ti.size:=by simp;omega
   have hrv:=eJ ht hs (b:=b) (o:=o+off) (vs:=(vs.drop off).take ti.size) hrl (fun j hj=>by rw[p0,hc (off+j) (by omega)];simp[o0,hj]) h1;have hrr:iA ρ M w r ((vs.drop off).take ti.size):=by rw[h2];exact(hrel.drop off).take ti.size
   refine⟨_,hrv,?_⟩;unfold xN;cases ha:ti.isAgg with
   |true=>simp only[cond_true,if_true,nA];exact⟨_,rfl,by simpa using hrr⟩
   |false=>
    simp only[cond_false,c0,if_false];cases r with
    |nil=>have:=hrr.length;rw[hrl]at this;simp at this;omega
    |cons v r=>
     cases hvs:(vs.drop off).take ti.size with
     |nil=>rw[hvs]at hrl;simp at hrl;omega
     |cons u us=>rw[hvs]at hrr;simp only[iA]at hrr;exact hrr.1
theorem fT.cell {b C:Nat}{c:Array Value}(ho:fT w b C c)(o:Nat):w.cell? ⟨b,o,none⟩=c[o]?:=by
 obtain⟨e,fr,h1,_⟩:=ho;simp[World.cell?,h1]
theorem cB.cellsAt {M:Nat→Prop}{b n C:Nat}{R:List gT}{cs:List V}(h:cB ρ M w ⟨some b,n,C,R⟩ cs):n≤cs.length∧∃vs,iA ρ M w cs vs∧∀j,j<n→w.cell? ⟨b,0+j,none⟩=vs[j]?:=by
 obtain⟨h3,⟨h5,_⟩|⟨b',c,h5,h6,h7,h8⟩⟩:=h
 ·cases h5
 simp only[hA]at h5;subst h5;dsimp only at h3 h7 h8;exact⟨by omega,_,h8,fun j hj=>by rw[hN,h6.cell];simp[o0,hj]⟩
theorem lA.cellsAt (hh:lA F ρ h w){id b n C:Nat}{R:List gT}(hl:(h id).live)(hp:ρ id=some ⟨some b,n,C,R⟩):au ρ (av F (gA ρ h)) w b 0 n (h id):=by
 obtain⟨p,h1,h2⟩:=hh.rel id hl;rw[hp]at h1;simp only[hA]at h1;subst h1;cases hx:h id with
 |dead=>rw[hx]at hl;exact hl.elim
 |pool _ _=>rw[hx]at h2;obtain⟨h3,_⟩:=h2;cases h3
 |amb _ _=>rw[hx]at h2;obtain⟨h3,_⟩:=h2;cases h3
 |ints k l=>
  rw[hx]at h2;obtain⟨h3,h4⟩:=h2;rcases h4 with⟨h5,_⟩|⟨b',c,h5,h6,h7,h8⟩
  ·cases h5
  ·simp only[hA]at h5;subst h5;dsimp only at h3;exact⟨by omega,fun j hj=>by rw[hN,h6.cell];exact h8 j (by omega)⟩
 |vals cs=>rw[hx]at h2;exact cB.cellsAt h2
 |tw r l=>rw[hx]at h2;exact cB.cellsAt h2
 |po s pid π=>rw[hx]at h2;exact cB.cellsAt h2
end
section
variable {P:Program}{F:Nat→Prop}{ρ:fC}{h:Nat→oA}{w:World}{nid:Nat}
def sM (ρ:fC)(M:Nat→Prop)(w:World)(n:Nat)(c:Array Value)(cs:List V):Prop:=cs.length=n∧n≤c.size∧iA ρ M w cs (c.toList.take n)
def rC (ρ:fC)(M:Nat→Prop)(w:World)(n:Nat)(c:Array Value):oA→Prop
 | .dead=>False
 | .ints k l=>l.length=n∧n≤c.size∧∀i,i<l.length→c[i]?=some (.int k (l.getD i 0))
 | .vals cs=>sM ρ M w n c cs
 | .tw r l=>sM ρ M w n c (r.flat l)
 | .po s pid π=>sM ρ M w n c (cL s pid π)
 | .pool _ _=>False
 | .amb _ _=>False
theorem rC.mono {ρ ρ':fC}{F M M':Nat→Prop}{w w':World}{n:Nat}{c:Array Value}{x:oA}(hs:iI ρ ρ')(he:nG M w M' w')(h:rC ρ (av F M) w n c x):rC ρ' (av F M') w' n c x:=by
 cases x with
 |dead=>exact h
 |pool _ _=>exact h
 |amb _ _=>exact h
 |ints k l=>exact h
 |vals cs=>exact⟨h.1,h.2.1,iA.mono hs he _ _ h.2.2⟩
 |tw r l=>exact⟨h.1,h.2.1,iA.mono hs he _ _ h.2.2⟩
 |po s pid π=>exact⟨h.1,h.2.1,iA.mono hs he _ _ h.2.2⟩
theorem rC.le {M:Nat→Prop}{n:Nat}{c:Array Value}{x:oA}(h:rC ρ M w n c x):n≤c.size:=by
 cases x with
 |dead=>exact h.elim
 |pool _ _=>exact h.elim
 |amb _ _=>exact h.elim
 |_=>exact h.2.1
theorem rC.live {M:Nat→Prop}{n:Nat}{c:Array Value}{x:oA}(h:rC ρ M w n c x):x.live:=by
 cases x with
 |dead=>exact h.elim
 |_=>trivial
theorem rC.flat {M:Nat→Prop}{n:Nat}{c:Array Value}{x:oA}(h:rC ρ M w n c x):x.flat:=by
 cases x with
 |pool _ _=>exact h.elim
 |amb _ _=>exact h.elim
 |_=>trivial
theorem rC.blkRel {M:Nat→Prop}{n b:Nat}{R:List gT}{c:Array Value}{x:oA}(h:rC ρ M w n c x)(ho:fT w b c.size c):wA ρ M w ⟨some b,n,c.size,R⟩ x:=by
 cases x with
 |dead=>trivial
 |pool _ _=>exact h.elim
 |amb _ _=>exact h.elim
 |_=>exact⟨h.1,.inr ⟨b,c,rfl,ho,h.2.1,h.2.2⟩⟩
theorem fT.size_eq {b C:Nat}{c:Array Value}(h:fT w b C c):c.size=C:=by obtain⟨e,fr,_,q,_⟩:=h;exact q
theorem cB.own {M:Nat→Prop}{b n C:Nat}{R:List gT}{cs:List V}(h2:cB ρ M w ⟨some b,n,C,R⟩ cs):∃c,fT w b C c∧c.size=C∧sM ρ M w n c cs:=by
 obtain⟨h3,⟨h5,_⟩|⟨b',c,h5,h6,h7,h8⟩⟩:=h2
 ·cases h5
 simp only[hA]at h5;subst h5;have hsz:=h6.size_eq;dsimp only at hsz;exact⟨c,h6,hsz,h3,by rw[hsz];exact h7,h8⟩
theorem lA.own (hh:lA F ρ h w){id b n C:Nat}{R:List gT}(hl:(h id).live)(hf:(h id).flat)(hp:ρ id=some ⟨some b,n,C,R⟩):∃c,fT w b C c∧c.size=C∧rC ρ (av F (gA ρ h)) w n c (h id):=by
 obtain⟨p,h1,h2⟩:=hh.rel id hl;rw[hp]at h1;simp only[hA]at h1;subst h1;cases hx:h id with
 |dead=>rw[hx]at hl;exact hl.elim
 |pool _ _=>rw[hx]at hf;exact hf.elim
 |amb _ _=>rw[hx]at hf;exact hf.elim
 |ints k l=>
  rw[hx]at h2;obtain⟨h3,⟨h5,_⟩|⟨b',c,h5,h6,h7,h8⟩⟩:=h2
  ·cases h5
  ·simp only[hA]at h5;subst h5;have hsz:=h6.size_eq;dsimp only at hsz;exact⟨c,h6,hsz,h3,by rw[hsz];exact h7,h8⟩
 |vals cs=>rw[hx]at h2;exact cB.own h2
 |tw r l=>rw[hx]at h2;exact cB.own h2
 |po s pid π=>rw[hx]at h2;exact cB.own h2
theorem fT.lt {b C:Nat}{c:Array Value}(ho:fT w b C c):b<w.heap.size:=by
 obtain⟨e,fr,h1,_⟩:=ho;exact(l6.mp h1).1
theorem lA.poolRow (hh:lA F ρ h w){id:Nat}{p:Pl}{r:RK}{rows:List (List r.El)}(hx:h id= .pool r rows)(hp:ρ id=some p){q:Nat}{pl:gT}(hq:p.R[q]?=some pl):
  q<rows.length∧lJ (av F (gA ρ h)) w pl (r.flat (rows.getD q [])):=by
 obtain⟨p',h1,h2⟩:=hh.rel id (by rw[hx];trivial);rw[hp]at h1;simp only[hA]at h1;subst h1;rw[hx]at h2;obtain⟨_,_,_,h3,h4,_⟩:=h2;have hlt:q<rows.length:=by rw[←h3];exact(y2.mp hq).1
 refine⟨hlt,h4 q pl _ hq ?_⟩;rw[zE,hS hlt];rfl
theorem gA.lt (hh:lA F ρ h w){b:Nat}(hb:gA ρ h b):b<w.heap.size:=by
 obtain⟨id,p,hp,hb⟩:=hb;rcases(h id).flat_or with hf|⟨r,rows,hx⟩|⟨A,pre,hx⟩
 rotate_right
 ·obtain⟨p',h1,h2⟩:=hh.rel id hb.live;rw[hp]at h1;cases h1;rw[hx]at h2 hb;obtain⟨_,_,_,_,_,h6⟩:=h2;exact h6 b (qH.mpr hb)
 ·obtain⟨pb,pn,pC,pR⟩:=p;have:=oA.has_flat hf hb;dsimp only at this;subst this;obtain⟨c,ho,_⟩:=hh.own hb.live hf hp;exact ho.lt
 ·rw[hx]at hb;obtain⟨pl,hm,hpl⟩:=hb;obtain⟨q,hq⟩:=List.mem_iff_getElem?.mp hm;obtain⟨_,_,⟨h5,_⟩|⟨b',c,h5,h6,_⟩⟩:=hh.poolRow hx hp hq
  ·rw[hpl]at h5;cases h5
  ·rw[hpl]at h5;cases h5;exact h6.lt
theorem lA.low' (hh:lA F ρ h w){M':Nat→Prop}{w':World}(he:nG (gA ρ h) w M' w'):∀b,F b→b<w'.heap.size:=fun b hb=>hW (hh.low b hb) he.size
theorem lA.out' (hh:lA F ρ h w){M':Nat→Prop}{w':World}(he:nG (gA ρ h) w M' w'):∀b,M' b→¬F b:=fun b hb hf=>(he.sub b hb).elim (fun h=>hh.out b h hf) (fun h=>absurd (hh.low b hf) (by omega))
def oB (h:Nat→oA)(id:Nat)(x:oA):Nat→oA:=fun j=>if j=id then x else h j
def fE (ρ:fC)(id:Nat)(p:Pl):fC:=fun j=>if j=id then some p else ρ j
theorem eW {p:Pl}(hw:∀id p,ρ id=some p→p.n≤p.C)(hp:p.n≤p.C):∀id q,fE ρ nid p id=some q→q.n≤q.C:=by
 intro id q hq;unfold fE at hq;split at hq
 ·simp only[hA]at hq;subst hq;exact hp
 ·exact hw id q hq
theorem qF {p:Pl}(hn:ρ nid=none):iI ρ (fE ρ nid p):=iI.eq fun id q hq=>by
 unfold fE;split
 ·rename_i e;subst e;rw[hn]at hq;cases hq
 ·exact hq
theorem lA.step (hh:lA F ρ h w){ρ':fC}{h':Nat→oA}{w':World}(ch:Nat→Prop)(hs:iI ρ ρ')(hwf:∀id p,ρ' id=some p→p.n≤p.C)(hext:nG (gA ρ h) w (gA ρ' h') w')
  (hsame:∀j,¬ch j→(h' j).live→h' j=h j∧ρ' j=ρ j)(hold:∀j p b,¬ch j→ρ j=some p→(h j).has p b→(h' j).live→w'.heap[b]?=w.heap[b]?)
  (hnew:∀j,ch j→(h' j).live→∃p,ρ' j=some p∧wA ρ' (av F (gA ρ' h')) w' p (h' j))
  (hinj:∀i j b p p',ch i→ρ' i=some p→ρ' j=some p'→(h' i).has p b→(h' j).has p' b→i=j):lA F ρ' h' w':=by
 refine⟨hwf,?_,?_,hh.low' hext,hh.out' hext⟩
 ·intro j hl;by_cases hc:ch j
  ·exact hnew j hc hl
  ·obtain⟨e1,e2⟩:=hsame j hc hl;have hl':(h j).live:=e1▸hl;obtain⟨p,hp,hb⟩:=hh.rel j hl';refine⟨p,by rw[e2];exact hp,?_⟩;rw[e1];exact wA.mono hs hext hb fun b hb'=>hold j p b hc hp hb' hl
 ·intro i j b p p' hi hj hb hb';by_cases hc:ch i
  ·exact hinj i j b p p' hc hi hj hb hb'
  ·by_cases hc':ch j
   ·exact(hinj j i b p' p hc' hj hi hb' hb).symm
   ·obtain⟨e1,e2⟩:=hsame i hc hb.live;obtain⟨e3,e4⟩:=hsame j hc' hb'.live;rw[e1]at hb;rw[e2]at hi;rw[e3]at hb';rw[e4]at hj;exact hh.inj i j b p p' hi hj hb hb'
theorem sB (id:Nat)(x:oA):oB h id x id=x:=by simp[oB]
theorem zB {id j:Nat}(x:oA)(hj:j≠id):oB h id x j=h j:=by simp[oB,hj]
theorem lC (id:Nat)(p:Pl):fE ρ id p id=some p:=by simp[fE]
theorem tC {id j:Nat}(p:Pl)(hj:j≠id):fE ρ id p j=ρ j:=by simp[fE,hj]
theorem lA.kill (hh:lA F ρ h w)(id:Nat):lA F ρ (oB h id .dead) w∧nG (gA ρ h) w (gA ρ (oB h id .dead)) w:=by
 have hsub:∀b,gA ρ (oB h id .dead) b→gA ρ h b:=by
  rintro b ⟨j,p,hp,hl⟩;refine⟨j,p,hp,?_⟩;by_cases hj:j=id
  ·subst hj;rw[sB]at hl;exact hl.elim
  ·rwa[zB _ hj]at hl
 have hext:nG (gA ρ h) w (gA ρ (oB h id .dead)) w:=⟨hE _,fun _ _ _=>rfl,fun b hb=>.inl (hsub b hb),.refl _⟩
 refine⟨hh.step (fun j=>j=id) (iI.refl _) hh.wf hext (fun j hj _=>⟨zB _ hj,rfl⟩) (fun _ _ _ _ _ _ _=>rfl) ?_ ?_,hext⟩
 ·rintro j rfl hl;rw[sB]at hl;exact hl.elim
 ·rintro i j b p p' rfl _ _ hb _;rw[sB]at hb;exact hb.elim
theorem lA.alloc (hh:lA F ρ h w)(hn:ρ nid=none){c:Array Value}{e:TypeId}{fr:Nat×Nat}{n:Nat}{x:oA}(hfr:∀i,i<c.size→¬(fr.1≤i∧i<fr.2))(hx:rC ρ (av F (gA ρ h)) w n c x){w':World}(hkp:nF w w')(hw:w'.heap=w.heap.push (.cells c e fr)):
  lA F (fE ρ nid ⟨some w.heap.size,n,c.size,[]⟩) (oB h nid x) w'∧nG (gA ρ h) w (gA (fE ρ nid ⟨some w.heap.size,n,c.size,[]⟩) (oB h nid x)) w':=by
 have hnew:w'.heap[w.heap.size]?=some (.cells c e fr):=by rw[hw];simp
 have hold:∀b,b<w.heap.size→w'.heap[b]?=w.heap[b]?:=by
  intro b hb;rw[hw,a8];split
  ·omega
  ·rfl
 have hown:fT w' w.heap.size c.size c:=⟨e,fr,hnew,rfl,hfr⟩
 have new:∀{p b},fE ρ nid ⟨some w.heap.size,n,c.size,[]⟩ nid=some p→(oB h nid x nid).has p b→b=w.heap.size:=by intro p b hp hb;rw[lC]at hp;cases hp;rw[sB]at hb;exact(yK (oA.has_flat hx.flat hb)).symm
 have hsub:∀b,gA (fE ρ nid ⟨some w.heap.size,n,c.size,[]⟩) (oB h nid x) b→gA ρ h b∨w.heap.size≤b:=by
  rintro b ⟨j,p,hp,hl⟩;by_cases hj:j=nid
  ·subst hj;exact .inr (by rw[new hp hl];exact hE _)
  ·rw[tC _ hj]at hp;rw[zB _ hj]at hl;exact .inl ⟨j,p,hp,hl⟩
 have hext:nG (gA ρ h) w (gA (fE ρ nid ⟨some w.heap.size,n,c.size,[]⟩) (oB h nid x)) w':=⟨by rw[hw];simp,fun b hb _=>hold b hb,hsub,hkp⟩
 refine⟨hh.step (fun j=>j=nid) (qF hn) (eW hh.wf hx.le) hext (fun j hj _=>⟨zB _ hj,tC _ hj⟩) ?_ ?_ ?_,hext⟩
 ·intro j p b _ hp hb _;exact hold b (gA.lt hh ⟨j,p,hp,hb⟩)
 ·rintro j rfl _;refine⟨_,lC _ _,?_⟩;rw[sB];exact(hx.mono (qF hn) hext).blkRel hown
 ·rintro i j b p p' rfl hi hj hb hb';by_cases he:j=i
  ·exact he.symm
  ·have:=new hi hb;rw[tC _ he]at hj;rw[zB _ he]at hb';have:=gA.lt hh ⟨j,p',hj,hb'⟩;omega
theorem lA.virtual' (hh:lA F ρ h w)(hn:ρ nid=none){x:oA}{p:Pl}(hp:p.n≤p.C)(hno:∀b,¬x.has p b)(hx:∀ρ M,wA ρ M w p x):
  lA F (fE ρ nid p) (oB h nid x) w∧nG (gA ρ h) w (gA (fE ρ nid p) (oB h nid x)) w:=by
 have nb:∀{q b},fE ρ nid p nid=some q→¬(oB h nid x nid).has q b:=by intro q b hq hb;rw[lC]at hq;cases hq;rw[sB]at hb;exact hno b hb
 have hext:nG (gA ρ h) w (gA (fE ρ nid p) (oB h nid x)) w:=⟨hE _,fun _ _ _=>rfl,fun b hb=>by
  obtain⟨j,q,hp,hl⟩:=hb;by_cases hj:j=nid
  ·subst hj;exact(nb hp hl).elim
  ·rw[tC _ hj]at hp;rw[zB _ hj]at hl;exact .inl ⟨j,q,hp,hl⟩,.refl _⟩
 refine⟨hh.step (fun j=>j=nid) (qF hn) (eW hh.wf hp) hext (fun j hj _=>⟨zB _ hj,tC _ hj⟩) (fun _ _ _ _ _ _ _=>rfl) ?_ ?_,hext⟩
 ·rintro j rfl _;refine⟨_,lC _ _,?_⟩;rw[sB];exact hx _ _
 ·rintro i j b p p' rfl hi _ hb _;exact(nb hi hb).elim
theorem Hl.rel {x:oA}(hx:wA (fun _=>none) (fun _=>False) w ⟨none,0,0,[]⟩ x)(ρ:fC)(M:Nat→Prop):wA ρ M w ⟨none,0,0,[]⟩ x:=by
 have nil:∀{cs:List V},cB (fun _=>none) (fun _=>False) w ⟨none,0,0,[]⟩ cs→∀ρ M,cB ρ M w ⟨none,0,0,[]⟩ cs:=by
  rintro cs ⟨h1,h2|⟨b,c,h2,_⟩⟩ ρ M
  ·exact⟨h1,.inl h2⟩
  ·cases h2
 cases x with
 |dead=>trivial
 |ints k l=>
  obtain⟨h1,h2|⟨b,c,h2,_⟩⟩:=hx
  ·exact⟨h1,.inl h2⟩
  ·cases h2
 |vals cs=>exact nil hx _ _
 |tw r l=>exact nil hx _ _
 |po s pid π=>exact nil hx _ _
 |amb A pre=>exact hx
 |pool r rows=>obtain⟨h1,h2,h3,h4,_,h6⟩:=hx;exact⟨h1,h2,h3,h4,fun q pl l hq=>by simp at hq,h6⟩
theorem lA.virtual (hh:lA F ρ h w)(hn:ρ nid=none){x:oA}(hx:wA (fun _=>none) (fun _=>False) w ⟨none,0,0,[]⟩ x):
  lA F (fE ρ nid ⟨none,0,0,[]⟩) (oB h nid x) w∧nG (gA ρ h) w (gA (fE ρ nid ⟨none,0,0,[]⟩) (oB h nid x)) w:=
 hh.virtual' hn (hE _) (fun b hb=>by
  rcases x.flat_or with hf|⟨r,rows,e⟩|⟨A,pre,e⟩
  ·have:=oA.has_flat hf hb;cases this
  ·rw[e]at hb;obtain⟨q,hq,_⟩:=hb;cases hq
  ·rw[e]at hb;obtain⟨q,hq,_⟩:=hb;cases hq) (Hl.rel hx)
theorem lA.write (hh:lA F ρ h w){id b n:Nat}{R:List gT}{c:Array Value}{x:oA}(hl:(h id).live)(hf:(h id).flat)(hp:ρ id=some ⟨some b,n,c.size,R⟩){w':World}(hsz0:w'.heap.size=w.heap.size∧nF w w')(hw:∀b',b'≠b→w'.heap[b']?=w.heap[b']?)
  (ho:fT w' b c.size c)(hx:rC ρ (av F (gA ρ h)) w n c x):
  lA F ρ (oB h id x) w'∧nG (gA ρ h) w (gA ρ (oB h id x)) w':=by
 have hbid:(h id).has ⟨some b,n,c.size,R⟩ b:=oA.flat_has hf hl rfl;have hbM:gA ρ h b:=⟨id,_,hp,hbid⟩
 obtain⟨hsz,hkp⟩:=hsz0;have self:∀{p b'},ρ id=some p→(oB h id x id).has p b'→b'=b:=by intro p b' hp' hb;rw[hp]at hp';cases hp';rw[sB]at hb;exact(yK (oA.has_flat hx.flat hb)).symm
 have hext:nG (gA ρ h) w (gA ρ (oB h id x)) w':=⟨by omega,fun b' _ hm=>hw b' (fun e=>hm (e▸hbM)),fun b' hb=>by
  obtain⟨j,p,h1,h2⟩:=hb;by_cases hj:j=id
  ·subst hj;rw[self h1 h2];exact .inl hbM
  ·rw[zB _ hj]at h2;exact .inl ⟨j,p,h1,h2⟩,hkp⟩
 refine⟨hh.step (fun j=>j=id) (iI.refl _) hh.wf hext (fun j hj _=>⟨zB _ hj,rfl⟩) ?_ ?_ ?_,hext⟩
 ·intro j p b' hj hpj hb _;refine hw b' (fun e=>hj ?_);subst e;exact hh.inj j id b' _ _ hpj hp hb hbid
 ·rintro j rfl _;refine⟨_,hp,?_⟩;rw[sB];exact(hx.mono (iI.refl _) hext).blkRel ho
 ·rintro i j b' p p' rfl hi hj hb hb';by_cases he:j=i
  ·exact he.symm
  ·rw[zB _ he]at hb';rw[self hi hb]at hb';exact hh.inj i j b _ _ hp hj hbid hb'
theorem lA.retake (hh:lA F ρ h w)(hn:ρ nid=none){id b n m:Nat}{R:List gT}{c:Array Value}{x:oA}(hl:(h id).live)(hf:(h id).flat)(hp:ρ id=some ⟨some b,n,c.size,R⟩){w':World}(hsz0:w'.heap.size=w.heap.size∧nF w w')(hw:∀b',b'≠b→w'.heap[b']?=w.heap[b']?)
  (ho:fT w' b c.size c)(hx:rC ρ (av F (gA ρ h)) w m c x):
  lA F (fE ρ nid ⟨some b,m,c.size,[]⟩) (oB (oB h id .dead) nid x) w'∧nG (gA ρ h) w (gA (fE ρ nid ⟨some b,m,c.size,[]⟩) (oB (oB h id .dead) nid x)) w':=by
 have hbid:(h id).has ⟨some b,n,c.size,R⟩ b:=oA.flat_has hf hl rfl;have hbM:gA ρ h b:=⟨id,_,hp,hbid⟩
 obtain⟨hsz,hkp⟩:=hsz0;have hne:id≠nid:=by rintro rfl;rw[hn]at hp;cases hp
 have new:∀{p b'},fE ρ nid ⟨some b,m,c.size,[]⟩ nid=some p→(oB (oB h id .dead) nid x nid).has p b'→b'=b:=by intro p b' hp' hb;rw[lC]at hp';cases hp';rw[sB]at hb;exact(yK (oA.has_flat hx.flat hb)).symm
 have oth:∀{j p b'},j≠nid→fE ρ nid ⟨some b,m,c.size,[]⟩ j=some p→(oB (oB h id .dead) nid x j).has p b'→ρ j=some p∧(h j).has p b'∧j≠id:=by
  intro j p b' hj hpj hb;rw[tC _ hj]at hpj;rw[zB _ hj]at hb;by_cases he:j=id
  ·subst he;rw[sB]at hb;exact hb.elim
  ·rw[zB _ he]at hb;exact⟨hpj,hb,he⟩
 have hext:nG (gA ρ h) w (gA (fE ρ nid ⟨some b,m,c.size,[]⟩) (oB (oB h id .dead) nid x)) w':=⟨by omega,fun b' _ hm=>hw b' (fun e=>hm (e▸hbM)),fun b' hb=>by
  obtain⟨j,p,h1,h2⟩:=hb;by_cases hj:j=nid
  ·subst hj;rw[new h1 h2];exact .inl hbM
  ·obtain⟨a1,a2,_⟩:=oth hj h1 h2;exact .inl ⟨j,p,a1,a2⟩,hkp⟩
 refine⟨hh.step (fun j=>j=nid∨j=id) (qF hn) (eW hh.wf hx.le) hext (fun j hj _=>?_) ?_ ?_ ?_,hext⟩
 ·rw[zB _ (fun e=>hj (.inl e)),zB _ (fun e=>hj (.inr e)),tC _ (fun e=>hj (.inl e))];exact⟨rfl,rfl⟩
 ·intro j p b' hj hpj hb _;refine hw b' (fun e=>hj (.inr ?_));subst e;exact hh.inj j id b' _ _ hpj hp hb hbid
 ·rintro j (rfl|rfl) hlj
  ·refine⟨_,lC _ _,?_⟩;rw[sB];exact(hx.mono (qF hn) hext).blkRel ho
  ·rw[zB _ hne,sB]at hlj;exact hlj.elim
 ·rintro i j b' p p' (rfl|rfl) hi hj hb hb'
  ·by_cases he:j=i
   ·exact he.symm
   ·obtain⟨a1,a2,a3⟩:=oth he hj hb';rw[new hi hb]at a2;exact absurd (hh.inj j id b _ _ a1 hp a2 hbid) a3
  ·rw[zB _ hne,sB]at hb;exact hb.elim
theorem sG {b:Nat}:∀(vs:List Value) (w:World) (o i C:Nat) (c:Array Value),fT w b C c→o+i+vs.length≤C→(∀v∈vs,v.oneCell'=true)→
  ∃w' c',(storeCells ⟨b,o,none⟩ vs i).run P w= .ok () w'∧(w'.heap.size=w.heap.size∧nF w w')∧(∀b',b'≠b→w'.heap[b']?=w.heap[b']?)∧fT w' b C c'∧c'.size=C∧
   (∀j,c'[j]?=if o+i≤j∧j<o+i+vs.length then vs[j- (o+i)]? else c[j]?)
 | [],w,o,i,C,c,ho,_,_=>by
  have hsz:c.size=C:=by obtain⟨e,fr,_,q,_⟩:=ho;exact q
  exact⟨w,c,by simp[storeCells],⟨rfl,.refl _⟩,fun _ _=>rfl,ho,hsz,fun j=>by simp;omega⟩
 |v::vs,w,o,i,C,c,ho,hle,hv=>by
  obtain⟨e,fr,h1,h2,h3⟩:=ho;simp only[hT]at hle;have hlt:o+i<c.size:=by omega
  have hcell:w.cell? ⟨b,o+i,none⟩=some c[o+i]:=by simp[World.cell?,h1,hlt]
  have hfz:w.frozen? ⟨b,o+i,none⟩=false:=by simp only[World.frozen?,h1];have:=h3 (o+i) (by omega);simp only[Bool.and_eq_false_iff,decide_eq_false_iff_not];omega
  have hb:b<w.heap.size:=(l6.mp h1).1
  let w1:=w.setCell ⟨b,o+i,none⟩ v
  have hh1:w1.heap[b]?=some (.cells (c.setIfInBounds (o+i) v) e fr):=by simp only[w1,World.setCell,r7,h1,if_true,j4,Option.isSome_none,c0,if_false]
  have ho1:fT w1 b C (c.setIfInBounds (o+i) v):=⟨e,fr,hh1,by simpa using h2,h3⟩
  obtain⟨w',c',r1,r2,r3,r4,r5,r6⟩:=sG vs w1 o (i+1) C _ ho1 (by omega) (fun u hu=>hv u (w7 _ hu));have hrun:(storeCells ⟨b,o,none⟩ (v::vs) i).run P w=(storeCells ⟨b,o,none⟩ vs (i+1)).run P w1:=by simp only[storeCells,aE,eH,run_store P w _ v .plain (hv v (by simp)),hcell,hfz,c0,if_false,hB];rfl
  refine⟨w',c',by rw[hrun];exact r1,⟨by rw[r2.1];simp[w1,World.setCell],nF.trans (b:=w1) ⟨rfl,rfl,rfl,hE _⟩ r2.2⟩,fun b' hb'=>?_,r4,r5,fun j=>?_⟩
  ·rw[r3 b' hb'];simp only[w1,World.setCell,r7,if_neg (Ne.symm hb')]
  ·rw[r6 j];simp only[hT];by_cases hj:j=o+i
   ·subst hj;rw[if_neg (by omega),if_pos (by omega)];simp[hlt]
   ·by_cases hj2:o+(i+1)≤j∧j<o+(i+1)+vs.length
    ·rw[if_pos hj2,if_pos (by omega)];have:j- (o+i)=(j- (o+(i+1)))+1:=by omega
     rw[this,q0]
    ·rw[if_neg hj2,if_neg (by omega)];simp[Array.getElem?_setIfInBounds_ne (Ne.symm hj)]
end
section
variable {P:Program}{F:Nat→Prop}{ρ:fC}{M:Nat→Prop}{h:Nat→oA}{w:World}{nid:Nat}{ty:Nat→Option TI}
theorem iA.map_c:∀(vs:List Value),iA ρ M w (vs.map .c) vs
 | []=>by simp[iA]
 |v::vs=>by simp only[n3,iA];exact⟨nA.of_c v,iA.map_c vs⟩
theorem uK:∀{cs:List V} {off:Nat} {vs r:List V},xJ cs off vs=some r→r=cs.take off++vs++cs.drop (off+vs.length)∧(vs≠ []→off+vs.length≤cs.length)
 |cs,off,[],r,h=>by cases cs<;>cases off<;>simp[xJ]at h<;>subst h<;>simp
 | [],off,v::vs,r,h=>by cases off<;>simp[xJ]at h
 |c::cs,0,v::vs,r,h=>by
  simp only[xJ,hQ]at h;obtain⟨r',h1,h2⟩:=h;obtain⟨h3,h4⟩:=uK h1;subst h2;subst h3;refine⟨by simp,fun _=>?_⟩;cases vs with
  |nil=>simp
  |cons u us=>have:=h4 (by simp);simp at this⊢;omega
 |c::cs,off+1,v::vs,r,h=>by
  simp only[xJ,hQ]at h;obtain⟨r',h1,h2⟩:=h;obtain⟨h3,h4⟩:=uK h1;subst h2;subst h3;refine⟨?_,fun _=>?_⟩
  ·have:off+1+(v::vs).length=off+(v::vs).length+1:=by omega
   rw[this];simp
  ·have:=h4 (by simp);simp at this⊢;omega
theorem iA.splice {cs vs:List V}{xs ys:List Value}(off:Nat)(h1:iA ρ M w cs xs)(h2:iA ρ M w vs ys):
  iA ρ M w (cs.take off++vs++cs.drop (off+vs.length)) (xs.take off++ys++xs.drop (off+ys.length)):=by
 rw[←h2.length];exact((h1.take off).append h2).append (h1.drop _)
theorem iu (off:Nat):∀(vs:List Value) (i:Nat) (cs:Array Value),off+i+vs.length≤cs.size→
  ((vs.zipIdx i).foldl (fun(cs:Array Value) (p:Value×Nat)=>cs.setIfInBounds (off+p.2) p.1) cs).toList=cs.toList.take (off+i)++vs++cs.toList.drop (off+i+vs.length)
 | [],i,cs,h=>by simp
 |v::vs,i,cs,h=>by
  simp only[hT]at h;rw[List.zipIdx_cons,List.foldl_cons,iu off vs (i+1) _ (by simp;omega)];simp only[Array.toList_setIfInBounds];apply w4;intro j;simp only[l1];by_cases h1:j<off+i
  ·rw[hG (by simp;omega),hG (by simp;omega)];rw[hK (by omega),hK h1];rw[s4 (by omega)]
  ·rw[hI (l₁:=List.take (off+i) _) (by simp;omega)];simp only[n5,e6];have e1:min (off+i) cs.size=off+i:=by omega
   rw[e1];by_cases h2:j=off+i
   ·subst h2;rw[hG (by simp;omega),hK (by omega)];have hlt:off+i<cs.toList.length:=by simp;omega
    rw[List.getElem?_set_self hlt,l3];rfl
   ·rw[hI (by simp;omega)];simp only[n5,w5,e6];have e2:min (off+(i+1)) cs.size=off+(i+1):=by omega
    rw[e2];have e3:j- (off+i)=(j- (off+(i+1)))+1:=by omega
    rw[e3,b7,q0];by_cases h3:j- (off+(i+1))<vs.length
    ·rw[hG h3,hG h3]
    ·rw[hI (by omega),hI (by omega)];simp only[x1,hT];rw[s4 (by omega)];congr 1;omega
theorem eS {pl:Nat→Option (Nat×Nat)}{pl':Nat→Option (Nat×Nat)}(hpl:∀i p,pl i=some p→pl' i=some p):∀(ps:List (Nat×V)) (qs:List (Nat×Value)) (cs r:List V) (xs:Array Value),mK pl cs ps=some r→
  iA ρ M w cs xs.toList→ps.length=qs.length→(∀(j:Nat) p q,ps[j]?=some p→qs[j]?=some q→p.1=q.1∧nA ρ M w p.2 q.2)→∃ys,Instr.fill pl' xs qs=some ys∧iA ρ M w r ys.toList
 | [],[],cs,r,xs,hf,hr,_,_=>by simp[mK]at hf;subst hf;exact⟨xs,by simp[Instr.fill],hr⟩
 | [],_::_,_,_,_,_,_,h,_=>by simp at h
 |_::_,[],_,_,_,_,_,h,_=>by simp at h
 |(i,v)::ps,(j,u)::qs,cs,r,xs,hf,hr,hl,hp=>by
  obtain⟨h1,h2⟩:=hp 0 _ _ rfl rfl;dsimp only at h1 h2;subst h1;simp only[mK]at hf;split at hf
  ·cases hf
  ·rename_i off size hpi;split at hf
   ·rename_i vs hvs;cases hb:(Nat.beq vs.length size&&Nat.blt 0 size)with
    |false=>simp[hb]at hf
    |true=>
     simp only[hb,cond_true]at hf;rw[hJ]at hb;have hsz:=p4 hb.1;have hpos:0<size:=nC hb.2;split at hf
     ·rename_i cs' hcs;have hc:=nA.cells h2 hvs;obtain⟨h3,h4⟩:=uK hcs;have hlen:=hc.length;have hlen2:=hr.length;have hus:u.cells.size=size:=by simp at hlen;omega
      have hbig:off+u.cells.size≤xs.size:=by have:=h4 (by rintro rfl;simp at hsz;omega);simp at hlen hlen2;omega
      have h6:iA ρ M w cs' (u.cells.zipIdx.foldl (fun(cs:Array Value) (p:Value×Nat)=>cs.setIfInBounds (off+p.2) p.1) xs).toList:=by
       have e:=iu off u.cells.toList 0 xs (by simpa using hbig);have e2:(u.cells.zipIdx.foldl (fun(cs:Array Value) (p:Value×Nat)=>cs.setIfInBounds (off+p.2) p.1) xs)=((u.cells.toList.zipIdx 0).foldl (fun(cs:Array Value) (p:Value×Nat)=>cs.setIfInBounds (off+p.2) p.1) xs):=by rw[←Array.foldl_toList,Array.toList_zipIdx]
       rw[e2,e,h3];simp only[n4];exact iA.splice off hr hc
      obtain⟨ys,h7,h8⟩:=eS hpl ps qs cs' r _ hf h6 (by simpa using hl) (fun j p q hj hq=>hp (j+1) p q (by simpa using hj) (by simpa using hq));refine⟨ys,?_,h8⟩;simp only[Instr.fill,hpl _ _ hpi];rw[if_neg (by simp;exact⟨hus,hbig⟩)];exact h7
     ·cases hf
   ·cases hf
end
section
variable {P:Program}{F:Nat→Prop}{ρ:fC}{h:Nat→oA}{w:World}{nid:Nat}{ty:Nat→Option TI}{ev:Operand→V}{ae:Operand→Value}{out:jJ}
theorem nA.bool {M:Nat→Prop}{b:Bool}{v:Value}(hv:nA ρ M w (.c (.bool b)) v):v= .bool b:=hv.c
theorem eA {α:Type}{b:Bool}{x:Option α}{y:α}(h:(bif b then x else none)=some y):b=true∧x=some y:=by
 cases b<;>simp_all
theorem Dw {M:Nat→Prop}{b:Bool}{x y:V}{u v:Value}(hx:nA ρ M w x u)(hy:nA ρ M w y v):nA ρ M w (Ax b x y) (if b then u else v):=by
 unfold Ax;split
 ·have:=hx.bool;have:=hy.bool;subst_vars;cases b<;>exact nA.of_c _
 ·cases b<;>simpa
theorem gF.made (hh:lA F ρ h w)(hn:ρ nid=none){c:Array Value}{e:TypeId}{fr:Nat×Nat}{n:Nat}{x:oA}(hfr:∀i,i<c.size→¬(fr.1≤i∧i<fr.2))(hx:rC ρ (av F (gA ρ h)) w n c x){w':World}(hw:w'.heap=w.heap.push (.cells c e fr))
  {r:Result Next}{v:Value}{y:V}{tc:List Nat}(hr:r= .ok (.value v) w')(hv:∀ρ' M' w'',ρ' nid=some ⟨some w.heap.size,n,c.size,[]⟩→nA ρ' M' w'' y v)(hkp:nF w w':=by exact⟨rfl,rfl,rfl,by first|exact hE _|exact Nat.le_succ _⟩):gF F ρ h w nid {val:=y,new:=[x],touch:=tc} r:=by
 obtain⟨h1,h2⟩:=lA.alloc hh hn hfr hx hkp hw;refine⟨v,w',_,.inl hr,qF hn,fun id hid hno=>?_,h1,hv _ _ _ (by simp[fE]),h2⟩;simp only[hT,hV]at hid;unfold fE;rw[if_neg (by omega)];exact hno
theorem xj {t:Nat}{ti:TI}(ht:cC P t ti)(hh:lA F ρ h w){x:oA}(hb:∀c:Array Value,iA ρ (av F (gA ρ h)) w (bH ti) c.toList→rC ρ (av F (gA ρ h)) w (bH ti).length c x)(hn:ρ nid=none):
  gF F ρ h w nid {val:=.ptr nid 0 ti.size,new:=[x]} ((do pure (.value (←Instr.alloc t true (.tuple #[]))):Sem Next).run P w):=by
 obtain⟨z,h1,h2⟩:=ht.zeroValue (w:=w);have hl:z.cells.size=ti.size:=by have:=congrArg List.length h2;simp at this;rw[this,ht.zlen]
 refine gF.made (c:=z.cells) (e:=t) (fr:=(0,0)) (n:=ti.size) (w':={w with heap:=w.heap.push (.cells z.cells t)}) hh hn (fun i _=>by dsimp only;omega) ?_ rfl (v:=.pointer (some ⟨w.heap.size,0,none⟩)) ?_ ?_
 ·have h3:=hb z.cells (by rw[h2];exact iA.map_c _);have h4:(bH ti).length=ti.size:=by simp[bH,ht.zlen]
  rw[h4]at h3;exact h3
 ·simp[Instr.alloc,h1,newVar,newRow]
 ·intro ρ' M' w'' hp;simp only[nA];exact⟨_,_,_,_,hp,by simp,rfl⟩
theorem G4 {t:Nat}{x:V}{vs:List V}{v:Value}(hh:lA F ρ h w)(hn:ρ nid=none)(hx:nA ρ (av F (gA ρ h)) w x v)(hc:iE x=some vs){n:Nat}(hvs:vs.length=n):
  gF F ρ h w nid {val:=.ptr nid 0 n,new:=[.vals vs]} ((do pure (.value (←Instr.box t v)):Sem Next).run P w):=by
 have hr:=nA.cells hx hc;have hl:=hr.length;simp at hl;refine gF.made (c:=v.cells) (e:=t) (fr:=(0,0)) (n:=n) (w':={w with heap:=w.heap.push (.cells v.cells t)}) hh hn (fun i _=>by dsimp only;omega) ?_ rfl (v:=.pointer (some ⟨w.heap.size,0,none⟩)) ?_ ?_
 ·refine⟨hvs,by omega,?_⟩;rw[u0 (by simp;omega)];exact hr
 ·simp[Instr.box,newVar,newRow]
 ·intro ρ' M' w'' hp;simp only[nA];exact⟨_,_,_,_,hp,by simp,rfl⟩
theorem lX {fs:List (Nat×Nat)}{i off size:Nat}(hf:wI ty fs i=some (off,size)):∃t ti,fs[i]?=some (t,off)∧ty t=some ti∧ti.size=size:=by
 unfold wI at hf;split at hf
 ·rename_i t o hg;split at hf
  ·rename_i ti ht;simp only[hA,hD]at hf;exact⟨t,ti,by rw[hg,hf.1],ht,hf.2⟩
  ·cases hf
 ·cases hf
theorem aO (hty:eD P ty):∀(fields:List Field),(∀f∈fields,∃ti,ty f.type=some ti)→
  (fields.mapM (fun f=>(do pure (f.offset,←Go.sizeOf f.type):Sem (Nat×Nat)))).run P w= .ok (fields.map fun f=>(f.offset,((ty f.type).map (·.size)).getD 0)) w
 | [],_=>by simp
 |f::fs,h=>by obtain⟨ti,hti⟩:=h f (by simp);simp only[List.mapM_cons,aE,(hty _ _ hti).sizeOf,hB,hF];rw[aO hty fs (fun g hg=>h g (by simp[hg]))];simp[hti]
theorem cg {M:Nat→Prop}(he:∀x,nA ρ M w (ev x) (ae x))(ps:List (Nat×Operand)):∀(j:Nat) p q,(ps.map fun p=>(p.1,ev p.2))[j]?=some p→(ps.map fun p=>(p.1,ae p.2))[j]?=some q→p.1=q.1∧nA ρ M w p.2 q.2:=by
 intro j p q hp hq;simp only[p2,hQ]at hp hq;obtain⟨a,h1,rfl⟩:=hp;obtain⟨b,h2,rfl⟩:=hq;rw[h1]at h2;simp only[hA]at h2;subst h2;exact⟨rfl,he _⟩
theorem xr {M:Nat→Prop}(hty:eD P ty){t:Nat}{ti:TI}{ps:Array (Nat×Operand)}(ht:ty t=some ti)(he:∀x,nA ρ M w (ev x) (ae x)){cs:List V}
  (hb:(∃fs,ti.tk= .struct fs∧fs.all (fun p=>(ty p.1).isSome)=true∧mK (wI ty fs) (bH ti) (ps.toList.map fun p=>(p.1,ev p.2))=some cs)∨
   (∃n e te,ti.tk= .arr n e∧ty e=some te∧mK (fun i=>some (i*te.size,te.size)) (bH ti) (ps.toList.map fun p=>(p.1,ev p.2))=some cs)):
  ∃v,(Instr.build t (ps.map fun(i,x)=>(i,ae x))).run P w= .ok v w∧nA ρ M w (.agg cs) v:=by
 have h0:=hty _ _ ht;obtain⟨z,h1,h2⟩:=h0.zeroValue (w:=w);have hk:=h0.tk;have hz:iA ρ M w (bH ti) z.cells.toList:=by rw[h2];exact iA.map_c _
 have hps:(ps.map fun(i,x)=>(i,ae x)).toList=ps.toList.map fun p=>(p.1,ae p.2):=by simp
 rcases hb with⟨fs,h3,h4,h5⟩|⟨n,e,te,h3,h4,h5⟩
 ·rw[h3]at hk;obtain⟨fields,h6,h7,h8⟩:=hk;have hall:∀f∈fields.toList,∃ti,ty f.type=some ti:=by
   intro f hf;have:=a7.mp h4 (f.type,f.offset) (by rw[←h7];exact List.mem_map.mpr ⟨f,hf,rfl⟩);exact Option.isSome_iff_exists.mp this
  have hm:=aO (P:=P) (w:=w) hty fields.toList hall;have hpl:∀i p,wI ty fs i=some p→(fields.toList.map fun f=>(f.offset,((ty f.type).map (·.size)).getD 0)).toArray[i]?=some p:=by
   rintro i ⟨off,size⟩ hp;obtain⟨t',ti',a1,a2,a3⟩:=lX hp;obtain⟨f,b1,b2,b3⟩:=sT h7 a1;simp only[hZ,p2];have:fields.toList[i]?=some f:=by simpa using b1
   rw[this];simp[b2,b3,a2,a3]
  obtain⟨ys,c1,c2⟩:=eS hpl _ (ps.toList.map fun p=>(p.1,ae p.2)) _ _ _ h5 hz (by simp) (cg he ps.toList);refine⟨.agg ys,?_,by simp only[nA];exact⟨ys,rfl,c2⟩⟩;simp only[Instr.build,aE,h1,hB,run_underlying h6,Array.mapM_eq_mapM_toList,Sem.run_map,hm];rw[hps];simp only[aE,Sem.run_map,hm,hB,c1,hF]
 ·rw[h3]at hk;simp only[fG]at hk;obtain⟨ys,c1,c2⟩:=eS (pl':=fun i=>some (i*te.size,te.size)) (fun i p hp=>hp) _ (ps.toList.map fun p=>(p.1,ae p.2)) _ _ _ h5 hz (by simp) (cg he ps.toList);refine⟨.agg ys,?_,by simp only[nA];exact⟨ys,rfl,c2⟩⟩;simp only[Instr.build,aE,h1,hB,run_underlying hk,(hty _ _ h4).sizeOf];rw[hps];simp only[c1,hF]
end
section
variable {P:Program}{F:Nat→Prop}{ρ:fC}{h:Nat→oA}{w:World}{nid:Nat}{ty:Nat→Option TI}{ev:Operand→V}{ae:Operand→Value}{out:jJ}
theorem zz {ti:TI}(h:ti.isSl=true):ti.isAgg=false:=by
 unfold TI.isSl at h;unfold TI.isAgg;cases ht:ti.tk<;>rw[ht]at h<;>simp_all
theorem RK.cells_len (r:RK)(x:r.El):(r.cells x).length=r.w:=by cases r<;>rfl
theorem RK.w_pos (r:RK):0<r.w:=by cases r<;>simp[RK.w]
theorem RK.flat_cons (r:RK)(x:r.El)(l:List r.El):r.flat (x::l)=r.cells x++r.flat l:=by simp[RK.flat]
theorem RK.flat_len (r:RK):∀l:List r.El,(r.flat l).length=l.length*r.w
 | []=>by simp[RK.flat]
 |x::l=>by rw[RK.flat_cons,List.length_append,r.cells_len,r.flat_len l,hT,hX];omega
theorem RK.flat_drop (r:RK):∀(l:List r.El) (i:Nat),(r.flat l).drop (i*r.w)=r.flat (l.drop i)
 |l,0=>by simp
 | [],i+1=>by simp[RK.flat]
 |x::l,i+1=>by rw[RK.flat_cons,b8,←r.flat_drop l i,hX,Nat.one_mul,a6,←List.drop_drop];congr 1;rw[List.drop_append_of_le_length (by rw[r.cells_len];exact hE _),List.drop_of_length_le (by rw[r.cells_len];exact hE _),e7]
theorem RK.flat_take (r:RK):∀(l:List r.El) (i:Nat),(r.flat l).take (i*r.w)=r.flat (l.take i)
 |l,0=>by simp[RK.flat]
 | [],i+1=>by simp[RK.flat]
 |x::l,i+1=>by rw[RK.flat_cons,c8,RK.flat_cons,←r.flat_take l i,hX,Nat.one_mul,a6];have:=r.cells_len x;rw[←this,List.take_length_add_append]
theorem RK.flat_append (r:RK)(l m:List r.El):r.flat (l++m)=r.flat l++r.flat m:=by simp[RK.flat]
theorem RK.flat_at (r:RK){l:List r.El}{i:Nat}(hi:i<l.length):((r.flat l).drop (i*r.w)).take r.w=r.cells (l.getD i r.z):=by
 rw[r.flat_drop,x2 hi,RK.flat_cons,List.take_append_of_le_length (by rw[r.cells_len];exact hE _),u0 (by rw[r.cells_len];exact hE _)];rw[zE,hS hi];rfl
theorem RK.flat_set (r:RK){l:List r.El}{i:Nat}(hi:i<l.length)(e:r.El):r.flat (l.set i e)=(r.flat l).take (i*r.w)++r.cells e++(r.flat l).drop (i*r.w+(r.cells e).length):=by
 rw[j5,if_pos hi,r.flat_append,RK.flat_cons,r.flat_take,r.cells_len];have:i*r.w+r.w=(i+1)*r.w:=by rw[hX];omega
 rw[this,r.flat_drop,l1]
theorem qi {t:Nat}{ti:TI}(h0:cC P t ti){r:RK}(hz:ti.size=r.w){M:Nat→Prop}{b o n i:Nat}(hn:i*r.w+r.w≤n){l:List r.El}{vs:List Value}(hrel:iA ρ M w (r.flat l) vs)(hl:n≤l.length*r.w)(hc:∀j,j<n→w.cell? ⟨b,o+j,none⟩=vs[j]?):
  ∃v,(loadVar t ⟨b,o+i*r.w,none⟩).run P w= .ok v w∧nA ρ M w (xN ti (r.cells (l.getD i r.z))) v:=by
 have hi:i<l.length:=by
  have:=r.w_pos;have h2:(i+1)*r.w≤l.length*r.w:=by rw[hX];omega
  have:=p6 h2 this;omega
 have hpos:=r.w_pos;have hlen:=hrel.length;rw[r.flat_len]at hlen;have hrl:((vs.drop (i*r.w)).take ti.size).length=ti.size:=by simp;omega
 have hrv:=eJ (P:=P) (w:=w) h0 (by omega) (b:=b) (o:=o+i*r.w) (vs:=(vs.drop (i*r.w)).take ti.size) hrl (fun j hj=>by rw[p0,hc (i*r.w+j) (by omega)];simp[o0,hj]) h0.one;have hrr:iA ρ M w (r.cells (l.getD i r.z)) ((vs.drop (i*r.w)).take ti.size):=by rw[←r.flat_at hi,hz];exact(hrel.drop _).take _
 refine⟨_,hrv,?_⟩;unfold xN;cases ha:ti.isAgg with
 |true=>simp only[cond_true,if_true,nA];exact⟨_,rfl,by simpa using hrr⟩
 |false=>
  simp only[cond_false,c0,if_false];generalize r.cells (l.getD i r.z)=cs at hrr;cases cs with
  |nil=>have:=hrr.length;rw[hrl]at this;simp at this;omega
  |cons v r2=>
   cases hvs:(vs.drop (i*r.w)).take ti.size with
   |nil=>rw[hvs]at hrl;simp at hrl;omega
   |cons u us=>rw[hvs]at hrr;simp only[iA]at hrr;exact hrr.1
theorem Dk (hty:eD P ty)(hh:lA F ρ h w){t:Nat}{a:V}{va:Value}(ha:nA ρ (av F (gA ρ h)) w a va)
  {ti:TI}(ht:ty t=some ti){y:V}{out:jJ}
  (hl:vN ti a h=some (true,out)):
  ∃y tc v,out={val:=y,touch:=tc}∧(Instr.loadAt t va).run P w= .ok v w∧nA ρ (av F (gA ρ h)) w y v:=by
 have h0:=hty _ _ ht;cases a with
 |ptr id off ext=>
  simp only[vN]at hl;obtain⟨h1,h2⟩:=eA hl;rw[hJ]at h1;have hle:=wF h1.1;have hpos:=nC h1.2;split at h2
  ·rename_i y hy;simp only[hA,hD,true_and]at h2;simp only[nA]at ha;obtain⟨b,n,C,R,hp,hn,rfl⟩:=ha;have hlive:(h id).live:=by
    cases hx:h id with
    |dead=>rw[hx]at hy;simp[cI]at hy
    |_=>trivial
   obtain⟨v,r1,r2⟩:=iN (b:=b) (o:=0) h0 hpos (hh.cellsAt hlive hp) (by omega) hy h0.one;rw[hN]at r1;exact⟨y,_,v,h2.symm,by simp only[Instr.loadAt,Instr.sureAddr,aE,hF,hB];exact r1,r2⟩
  ·cases h2
 |ilp k l off ext=>
  simp only[vN]at hl;obtain⟨h1,h2⟩:=eA hl;rw[hJ]at h1;have hle:=wF h1.1;have hpos:=nC h1.2;split at h2
  ·rename_i y hy;simp only[nA]at ha;obtain⟨b,o,rfl,hn,hb,hM,hc⟩:=ha;obtain⟨v,r1,r2⟩:=iN (ρ:=ρ) (M:=av F (gA ρ h)) (b:=b) (o:=o) (n:=l.length) (x:=.ints k l) h0 hpos ⟨hE _,hc⟩ (by omega) hy h0.one;exact⟨y,[],v,vB h2,by simp only[Instr.loadAt,Instr.sureAddr,aE,hF,hB];exact r1,r2⟩
  ·cases h2
 |ivp cols i off ext=>
  simp only[vN]at hl;obtain⟨h1,h2⟩:=eA hl;rw[hJ]at h1;have hle:=wF h1.1;have hpos:=nC h1.2;split at h2
  ·rename_i y hy;simp only[nA]at ha;obtain⟨b,o,rfl,hn,hb,hM,hc⟩:=ha;have hlen:((iK cols i).map V.c).length=cols.length:=by rw[x3,vI]
   obtain⟨v,r1,r2⟩:=iN (ρ:=ρ) (M:=av F (gA ρ h)) (b:=b) (o:=o) (n:=cols.length) (x:=.vals ((iK cols i).map .c)) h0 hpos ⟨by rw[hlen];exact hE _,iK cols i,iA.consts _,hc⟩ (by omega) hy h0.one;exact⟨y,[],v,vB h2,by simp only[Instr.loadAt,Instr.sureAddr,aE,hF,hB];exact r1,r2⟩
  ·cases h2
 |inlp k s rows i=>
  simp only[vN]at hl;obtain⟨h1,h2⟩:=eA hl;rw[hJ]at h1;have hz:=yA h1.2;have hag:=zz h1.1;simp only[nA]at ha;obtain⟨b,o,rfl,hn,hb,hM,hc⟩:=ha;obtain⟨u,hu,hr⟩:=hc i hn;have hrv:=eJ (P:=P) (w:=w) h0 (by omega) (b:=b) (o:=o+i) (vs:=[u]) (by rw[hz];rfl) (fun j hj=>by
   obtain rfl:j=0:=by omega
   rw[n4];exact hu) h0.one
  rw[hag]at hrv;exact⟨_,[],u,vB h2,by simp only[Instr.loadAt,Instr.sureAddr,aE,hF,hB];exact hrv,hr.rel⟩
 |tp id i s=>
  simp only[vN]at hl;split at hl
  ·rename_i r l hid;obtain⟨h1,h2⟩:=eA hl;rw[hJ]at h1;have hz:=yA h1.1;have hw:=yA h1.2;subst hw;simp only[hA,hD,true_and]at h2;subst h2;simp only[nA]at ha;obtain⟨b,n,C,R,hp,hn,rfl⟩:=ha;obtain⟨hl0,vs,hrel,hc⟩:au ρ (av F (gA ρ h)) w b 0 n (.tw r l):=hid▸hh.cellsAt (by rw[hid];trivial) hp;obtain⟨v,r1,r2⟩:=qi h0 hz hn hrel (by rw[RK.flat_len]at hl0;exact hl0) hc;rw[hN]at r1;exact⟨_,_,v,rfl,by simp only[Instr.loadAt,Instr.sureAddr,aE,hF,hB];exact r1,r2⟩
  ·cases hl
 |ep pid q i s=>
  simp only[vN]at hl;split at hl
  ·rename_i r rows hid;obtain⟨h1,h2⟩:=eA hl;rw[hJ]at h1;have hz:=yA h1.1;have hw:=yA h1.2;subst hw;simp only[hA,hD,true_and]at h2;subst h2;simp only[nA]at ha;obtain⟨p,pl,b,hp,hq,hb,hn,rfl⟩:=ha;obtain⟨hlt,hl0,⟨h5,_⟩|⟨b',c,h5,h6,h7,h8⟩⟩:=hh.poolRow hid hp hq
   ·rw[hb]at h5;cases h5
   rw[hb]at h5;obtain rfl:=yK h5;obtain⟨v,r1,r2⟩:=qi (ρ:=ρ) (o:=0) h0 hz hn (iA.none h8) (by rw[RK.flat_len]at hl0;omega) (fun j hj=>by rw[hN,h6.cell];simp[o0,hj]);rw[hN]at r1;exact⟨_,_,v,rfl,by simp only[Instr.loadAt,Instr.sureAddr,aE,hF,hB];exact r1,r2⟩
  ·cases hl
 |_=>simp[vN]at hl
theorem xY {k:IntKind}{M:Nat→Prop}:∀(vs:List V) (us:List Value) (l l':List Int) (off:Nat),pN k l off vs=some l'→iA ρ M w vs us→
  l'.length=l.length∧(∀u∈us,u.oneCell'=true)∧∀j,j<l.length→Value.int k (l'.getD j 0)=if off≤j∧j<off+us.length then us.getD (j-off) undef else .int k (l.getD j 0)
 | [],[],l,l',off,h,_=>by simp[pN]at h;subst h;exact⟨rfl,by simp,fun j _=>by rw[if_neg (by simp only[hV];omega)]⟩
 | [],_::_,_,_,_,_,h=>by simp[iA]at h
 |_::_,[],_,_,_,_,h=>by simp[iA]at h
 |x::vs,u::us,l,l',off,h,hr=>by
  simp only[iA]at hr;cases x with
  |c y=>
   cases y with
   |int k' n=>
    simp only[pN]at h;obtain⟨hk,h0⟩:=eA h;have hkk:=yF hk;subst hkk;have hu:=hr.1.int;subst hu;obtain⟨h1,h2,h3⟩:=xY vs us _ _ _ h0 hr.2;simp only[w5]at h1 h3;refine⟨h1,?_,?_⟩
    ·intro v hv;rcases p3.mp hv with rfl|hv
     ·rfl
     ·exact h2 v hv
    ·intro j hj;rw[h3 j hj];simp only[hT];by_cases e:j=off
     ·subst e;rw[if_neg (by omega),if_pos (by omega)];simp[zE,hj]
     ·by_cases e2:off+1≤j∧j<off+1+us.length
      ·rw[if_pos e2,if_pos (by omega)];have:j-off=(j- (off+1))+1:=by omega
       rw[this];simp[zE]
      ·rw[if_neg e2,if_neg (by omega)];simp[zE,s4 (Ne.symm e)]
   |_=>simp[pN]at h
  |_=>simp[pN]at h
theorem nA.oneCell {M:Nat→Prop}{x:V}{v:Value}(hr:nA ρ M w x v)(hc:sQ x=true):v.oneCell'=true:=by
 cases x<;>simp only[sQ,c0]at hc
 case c y=>have:=hr.c;subst this;cases v<;>simp_all[sQ,Value.oneCell']
 case ptr=>simp only[nA]at hr;obtain⟨_,_,_,_,_,_,rfl⟩:=hr;rfl
 case sw=>simp only[nA]at hr;obtain⟨_,⟨_,_,_,_,_,_,_,_,_,rfl⟩|⟨_,_,rfl⟩⟩:=hr<;>rfl
 case sl=>simp only[nA]at hr;obtain⟨_,⟨_,_,_,_,_,_,_,_,_,rfl⟩|⟨_,_,rfl⟩⟩:=hr<;>rfl
 case il=>simp only[nA]at hr;obtain⟨_,_,⟨_,_,rfl⟩|⟨_,_,_,rfl,_⟩⟩:=hr<;>rfl
 case iv=>simp only[nA]at hr;obtain⟨_,⟨_,_,rfl⟩|⟨_,_,_,rfl,_⟩⟩:=hr<;>rfl
 case ilp=>simp only[nA]at hr;obtain⟨_,_,rfl,_⟩:=hr;rfl
 case ivp=>simp only[nA]at hr;obtain⟨_,_,rfl,_⟩:=hr;rfl
 case fn=>simp only[nA]at hr;obtain⟨_,_,rfl,_⟩:=hr;rfl
 case yv=>simp only[nA]at hr;obtain⟨_,_,rfl⟩:=hr;rfl
 case inl=>simp only[nA]at hr;obtain⟨_,_,rfl⟩|⟨_,_,_,rfl,_⟩:=hr<;>rfl
 case inlp=>simp only[nA]at hr;obtain⟨_,_,rfl,_⟩:=hr;rfl
 case rp=>simp only[nA]at hr;obtain⟨_,_,_,_,_,⟨_,_,_,_,_,_,rfl⟩|⟨_,_,rfl⟩⟩:=hr<;>rfl
 case ep=>simp only[nA]at hr;obtain⟨_,_,_,_,_,_,_,rfl⟩:=hr;rfl
 case tp=>simp only[nA]at hr;obtain⟨_,_,_,_,_,_,rfl⟩:=hr;rfl
theorem iA.oneCell {M:Nat→Prop}:∀{xs:List V} {vs:List Value},iA ρ M w xs vs→xs.all sQ=true→∀v∈vs,v.oneCell'=true
 | [],[],_,_,v,hv=>by simp at hv
 |x::xs,u::us,hr,hc,v,hv=>by
  simp only[iA]at hr;simp only[List.all_cons,hJ]at hc;rcases p3.mp hv with rfl|hv
  ·exact hr.1.oneCell hc.1
  ·exact iA.oneCell hr.2 hc.2 v hv
 | [],_::_,h,_,_,_=>by simp[iA]at h
 |_::_,[],h,_,_,_=>by simp[iA]at h
theorem kP {off n:Nat}{us:List Value}{c c':Array Value}(hle:off+us.length≤n)(hnc:n≤c.size)(hc':c'.size=c.size)(hcc:∀j,c'[j]?=if off≤j∧j<off+us.length then us[j-off]? else c[j]?):
  c'.toList.take n=(c.toList.take n).take off++us++(c.toList.take n).drop (off+us.length):=by
 apply w4;intro j;by_cases hj:j<n
 ·rw[hK hj];have hcj:=hcc j;simp only[←l4]at hcj;rw[hcj];by_cases h5:j<off
  ·rw[if_neg (by omega),l1,hG (by simp;omega),hK h5,hK hj]
  ·rw[l1,hI (by simp;omega)];have e:(List.take off (List.take n c.toList)).length=off:=by simp;omega
   rw[e];by_cases h6:j<off+us.length
   ·rw[if_pos ⟨by omega,h6⟩,hG (by omega)]
   ·rw[if_neg (by omega),hI (by omega),x1];have e2:off+us.length+(j-off-us.length)=j:=by omega
    rw[e2,hK hj]
 ·rw[x0 (by simp;omega),x0 (by simp;omega)]
theorem dV {M:Nat→Prop}{x x':oA}{off n:Nat}{vs:List V}{us:List Value}{c c':Array Value}(hs:jH off vs x=some x')(hx:rC ρ M w n c x)(hr:iA ρ M w vs us)(hle:off+us.length≤n)
  (hc':c'.size=c.size)(hcc:∀j,c'[j]?=if off≤j∧j<off+us.length then us[j-off]? else c[j]?):(∀v∈us,v.oneCell'=true)∧rC ρ M w n c' x':=by
 cases x with
 |dead=>exact hx.elim
 |pool _ _=>exact hx.elim
 |amb _ _=>exact hx.elim
 |tw _ _=>simp[jH]at hs
 |po s pid π=>
  simp only[jH]at hs;split at hs
  ·rename_i pid' q s';obtain⟨hc2,hs2⟩:=eA hs;rw[hJ]at hc2;have e1:=yA hc2.1;have e2:=yA hc2.2;subst e1;subst e2;obtain rfl:=yK hs2;obtain⟨a1,a2,a3⟩:=hx;have hlen:=hr.length;simp only[hT,hV]at hlen;have hoff:off<π.length:=by simp only[cL,x3]at a1;omega
   refine⟨iA.oneCell hr rfl,by simpa[cL]using a1,by omega,?_⟩;rw[kP hle a2 hc' hcc];have e:cL s pid (π.set off q)=(cL s pid π).take off++[V.rp pid q s]++(cL s pid π).drop (off+ [V.rp pid q s].length):=by simp only[cL,List.length_singleton];rw[j5,if_pos hoff];simp[y7,List.map_drop]
   rw[e];exact iA.splice off a3 hr
  ·cases hs
 |ints k l=>
  simp only[jH,hQ]at hs;obtain⟨l',h1,rfl⟩:=hs;obtain⟨h2,h3,h4⟩:=xY vs us l l' off h1 hr;obtain⟨a1,a2,a3⟩:=hx;refine⟨h3,by omega,by omega,fun i hi=>?_⟩;rw[hcc i,h4 i (by omega)];split
  ·rename_i hb;rw[hS (by omega)];simp[zE,hS (show i-off<us.length by omega)]
  ·exact a3 i (by omega)
 |vals cs=>
  simp only[jH]at hs;obtain⟨hok,hs⟩:=eA hs;simp only[hQ]at hs;obtain⟨cs',h1,rfl⟩:=hs;obtain⟨h2,h3⟩:=uK h1;obtain⟨a1,a2,a3⟩:=hx;have hlen:=hr.length;refine⟨iA.oneCell hr hok,?_,by omega,?_⟩
  ·rw[h2];simp;omega
  ·rw[kP hle a2 hc' hcc,h2];exact iA.splice off a3 hr
theorem fR (hh:lA F ρ h w){id b n C off:Nat}{R:List gT}{us:List Value}(hl:(h id).live)(hf:(h id).flat)(hp:ρ id=some ⟨some b,n,C,R⟩)(hle:off+us.length≤n){x':oA}
  (hx:∀c c':Array Value,rC ρ (av F (gA ρ h)) w n c (h id)→c'.size=c.size→(∀j,c'[j]?=if off≤j∧j<off+us.length then us[j-off]? else c[j]?)→(∀v∈us,v.oneCell'=true)∧rC ρ (av F (gA ρ h)) w n c' x'):
  ∃w',(storeCells ⟨b,off,none⟩ us 0).run P w= .ok () w'∧lA F ρ (oB h id x') w'∧nG (gA ρ h) w (gA ρ (oB h id x')) w':=by
 obtain⟨c,ho,hsz,hold⟩:=hh.own hl hf hp;have hnC:=hold.le;have hone:∀v∈us,v.oneCell'=true:=(hx c (c.toList.take off++us++c.toList.drop (off+us.length)).toArray hold (by simp;omega) (fun j=>by
   simp only[hZ];by_cases h5:j<off
   ·rw[if_neg (by omega),l1,hG (by simp;omega),hK h5];simp
   ·rw[l1,hI (by simp;omega)];have e:(List.take off c.toList).length=off:=by simp;omega
    rw[e];by_cases h6:j<off+us.length
    ·rw[if_pos ⟨by omega,h6⟩,hG (by omega)]
    ·rw[if_neg (by omega),hI (by omega),x1];have e2:off+us.length+(j-off-us.length)=j:=by omega
     rw[e2];simp)).1
 obtain⟨w',c',r1,r2,r3,r4,r5,r6⟩:=sG (P:=P) (b:=b) us w off 0 C c ho (by omega) hone;obtain⟨_,hold'⟩:=hx c c' hold (by omega) (fun j=>by rw[r6 j];simp only[n4]);subst hsz;rw[←r5]at r4 hp;obtain⟨q1,q2⟩:=lA.write hh hl hf hp r2 r3 r4 hold';exact⟨w',r1,q1,q2⟩
theorem yU {t b off:Nat}{ti:TI}{vx:Value}(h0:cC P t ti)(hl:vx.cells.toList.length=ti.size){w':World}(hr:(storeCells ⟨b,off,none⟩ vx.cells.toList 0).run P w= .ok () w'):
  ((do Instr.storeAt t (.pointer (some ⟨b,off,none⟩)) vx;pure .skip:Sem Next).run P w)= .ok .skip w':=by
 have hsize:¬(vx.cells.size≠ti.size):=by simp at hl⊢;omega
 simp only[Instr.storeAt,Instr.sureAddr,storeVar,aE,hF,hB,h0.sizeOf,if_neg hsize,j6,hr]
theorem zX {M:Nat→Prop}{x:V}{v:Value}{l:List Int}(hl:jd x=some l)(hx:nA ρ M w x v):nA ρ M w (.il .u32 1 l) v∧v.oneCell'=true:=by
 unfold jd at hl;split at hl
 ·rename_i k s l';obtain⟨h1,h2⟩:=eA hl;rw[hJ]at h1;have e1:=yF h1.1;have e2:=yA h1.2;subst e1;subst e2;simp only[hA]at h2;subst h2;exact⟨hx,hx.oneCell rfl⟩
 ·simp only[hA]at hl;subst hl;have:=hx.c;subst this;refine⟨?_,rfl⟩;simp only[nA];exact⟨by decide,by simp,.inl ⟨by simp,none,rfl⟩⟩
 ·cases hl
theorem vj {M:Nat→Prop}{x:V}{v:Value}{l:List Int}(hl:oh x=some l)(hx:nA ρ M w x v):nA ρ M w (.il .i64 1 l) v∧v.oneCell'=true:=by
 unfold oh at hl;split at hl
 ·rename_i k s l';obtain⟨h1,h2⟩:=eA hl;rw[hJ]at h1;have e1:=yF h1.1;have e2:=yA h1.2;subst e1;subst e2;simp only[hA]at h2;subst h2;exact⟨hx,hx.oneCell rfl⟩
 ·simp only[hA]at hl;subst hl;have:=hx.c;subst this;refine⟨?_,rfl⟩;simp only[nA];exact⟨by decide,by simp,.inl ⟨by simp,none,rfl⟩⟩
 ·cases hl
theorem Ap {M:Nat→Prop}{r:RK}{vs:List V}{us:List Value}{e:r.El}(ho:r.of vs=some e)(hr:iA ρ M w vs us):iA ρ M w (r.cells e) us∧∀u∈us,u.oneCell'=true:=by
 unfold RK.of at ho;split at ho
 ·rename_i k k' n;obtain⟨h1,h2⟩:=eA ho;have e1:=yF h1;subst e1;simp only[hA]at h2;subst h2;exact⟨hr,iA.oneCell hr rfl⟩
 ·rename_i b v;split at ho
  ·rename_i l hv;simp only[hA]at ho;subst ho
   match us,hr with
   | [u1,u2],hr=>
    simp only[iA,and_true]at hr;obtain⟨a1,a2⟩:=zX hv hr.2;refine⟨by simp only[RK.cells,iA,and_true];exact⟨hr.1,a1⟩,?_⟩;intro u hu;simp only[p3,p5,or_false]at hu;rcases hu with rfl|rfl
    ·exact hr.1.oneCell rfl
    ·exact a2
   | [],hr=>simp[iA]at hr
   | [_],hr=>simp[iA]at hr
   |_::_::_::_,hr=>simp[iA]at hr
  ·cases ho
 ·rename_i b v v2;split at ho
  ·rename_i l l2 hv hv2;simp only[hA]at ho;subst ho
   match us,hr with
   | [u1,u2,u3],hr=>
    simp only[iA,and_true]at hr;obtain⟨a1,a2⟩:=zX hv hr.2.1;obtain⟨b1,b2⟩:=zX hv2 hr.2.2;refine⟨by simp only[RK.cells,iA,and_true];exact⟨hr.1,a1,b1⟩,?_⟩;intro u hu;simp only[p3,p5,or_false]at hu;rcases hu with rfl|rfl|rfl
    ·exact hr.1.oneCell rfl
    ·exact a2
    ·exact b2
   | [],hr=>simp[iA]at hr
   | [_],hr=>simp[iA]at hr
   | [_,_],hr=>simp[iA]at hr
   |_::_::_::_::_,hr=>simp[iA]at hr
  ·cases ho
 ·rename_i v k n;obtain⟨h0,ho2⟩:=eA ho;have e0:=yF h0;subst e0;split at ho2
  ·rename_i l hv;simp only[hA]at ho2;subst ho2
   match us,hr with
   | [u1,u2],hr=>
    simp only[iA,and_true]at hr;obtain⟨a1,a2⟩:=vj hv hr.1;refine⟨by simp only[RK.cells,iA,and_true];exact⟨a1,hr.2⟩,?_⟩;intro u hu;simp only[p3,p5,or_false]at hu;rcases hu with rfl|rfl
    ·exact a2
    ·exact hr.2.oneCell rfl
   | [],hr=>simp[iA]at hr
   | [_],hr=>simp[iA]at hr
   |_::_::_::_,hr=>simp[iA]at hr
  ·cases ho2
 ·cases ho
theorem Dd {r:RK}{i n m:Nat}(hn:i*r.w+r.w≤n)(hl:n≤m*r.w):i<m:=by
 have:=r.w_pos;have h2:(i+1)*r.w≤m*r.w:=by rw[hX];omega
 have:=p6 h2 this;omega
theorem jy {M:Nat→Prop}{r:RK}{l:List r.El}{i n:Nat}{c c':Array Value}{e:r.El}{us:List Value}(hn:i*r.w+r.w≤n)(hx:sM ρ M w n c (r.flat l))(hr:iA ρ M w (r.cells e) us)(hc':c'.size=c.size)
  (hcc:∀j,c'[j]?=if i*r.w≤j∧j<i*r.w+us.length then us[j-i*r.w]? else c[j]?):sM ρ M w n c' (r.flat (l.set i e)):=by
 obtain⟨a1,a2,a3⟩:=hx;have hlen:=hr.length;rw[r.cells_len]at hlen;have hi:i<l.length:=Dd hn (by rw[←a1,r.flat_len];exact hE _);refine⟨by rw[r.flat_len,w5,←r.flat_len];exact a1,by omega,?_⟩;rw[kP (by omega) a2 hc' hcc,r.flat_set hi];exact iA.splice _ a3 hr
theorem lA.writeRow (hh:lA F ρ h w){pid:Nat}{p:Pl}{r:RK}{rows:List (List r.El)}(hx:h pid= .pool r rows)(hp:ρ pid=some p){q:Nat}{pl:gT}(hq:p.R[q]?=some pl){b:Nat}(hb:pl.blk=some b)
  {w':World}(hsz0:w'.heap.size=w.heap.size∧nF w w')(hw:∀b',b'≠b→w'.heap[b']?=w.heap[b']?){c:Array Value}(ho:fT w' b pl.C c){l:List r.El}(hlen:(r.flat l).length=pl.n)(hnC:pl.n≤pl.C)(hr:iA (fun _=>none) (av F (gA ρ h)) w (r.flat l) (c.toList.take pl.n)):
  lA F ρ (oB h pid (.pool r (rows.set q l))) w'∧nG (gA ρ h) w (gA ρ (oB h pid (.pool r (rows.set q l)))) w':=by
 have hbid:(h pid).has p b:=by rw[hx];exact⟨pl,x5 hq,hb⟩
 have hbM:gA ρ h b:=⟨pid,_,hp,hbid⟩
 obtain⟨hsz,hkp⟩:=hsz0;have hhas:∀{p b},(oB h pid (.pool r (rows.set q l)) pid).has p b↔(h pid).has p b:=by intro p b;rw[sB,hx];exact Iff.rfl
 have hM:∀b',gA ρ (oB h pid (.pool r (rows.set q l))) b'→gA ρ h b':=by
  rintro b' ⟨j,pj,h1,h2⟩;by_cases hj:j=pid
  ·subst hj;exact⟨j,pj,h1,hhas.mp h2⟩
  ·rw[zB _ hj]at h2;exact⟨j,pj,h1,h2⟩
 have hext:nG (gA ρ h) w (gA ρ (oB h pid (.pool r (rows.set q l)))) w':=⟨by omega,fun b' _ hm=>hw b' (fun e=>hm (e▸hbM)),fun b' hb=>.inl (hM b' hb),hkp⟩
 refine⟨hh.step (fun j=>j=pid) (iI.refl _) hh.wf hext (fun j hj _=>⟨zB _ hj,rfl⟩) ?_ ?_ ?_,hext⟩
 ·intro j pj b' hj hpj hb' _;refine hw b' (fun e=>hj ?_);subst e;exact hh.inj j pid b' _ _ hpj hp hb' hbid
 ·rintro j rfl _;refine⟨p,hp,?_⟩;rw[sB];obtain⟨p',h1,h2⟩:=hh.rel j (by rw[hx];trivial);rw[hp]at h1;obtain rfl:=yK h1;rw[hx]at h2;obtain⟨k1,k2,k3,k4,k5,k6⟩:=h2;refine⟨k1,k2,k3,by rw[w5];exact k4,fun q' pl' l' hq' hl'=>?_,k6⟩;by_cases he:q'=q
  ·subst he;rw[hq]at hq';obtain rfl:=yK hq';rw[List.getElem?_set_self']at hl';have hlt:q'<rows.length:=by rw[←k4];exact(y2.mp hq).1
   rw[hS hlt]at hl';simp at hl';subst hl';exact⟨hlen,.inr ⟨b,c,hb,ho,hnC,iA.mono (iI.refl _) hext _ _ hr⟩⟩
  ·rw[s4 (Ne.symm he)]at hl';refine(k5 q' pl' l' hq' hl').mono hext fun b' hb'=>hw b' (fun e=>he ?_);subst e;exact k6 q' q pl' pl b' hq' hq hb' hb
 ·rintro i j b' pi pj rfl hi hj hb1 hb2;by_cases he:j=i
  ·exact he.symm
  ·rw[zB _ he]at hb2;exact hh.inj i j b' _ _ hi hj (hhas.mp hb1) hb2
theorem ub {M:Nat→Prop}{k:IntKind}{l:List Int}{c:List Value}(hl:c.length=l.length)(hc:∀i,i<l.length→c[i]?=some (.int k (l.getD i 0))):iA ρ M w ((RK.int k).flat l) c:=by
 induction l generalizing c with
 |nil=>have:c=[]:=hU.mp (by simpa using hl);subst this;simp[RK.flat,iA]
 |cons x l ih=>
  cases c with
  |nil=>simp at hl
  |cons u c=>have h0:=hc 0 (by simp);simp at h0;subst h0;rw[RK.flat_cons];simp only[RK.cells,b7,e7,iA];refine⟨nA.of_c _,ih (by simpa using hl) fun i hi=>?_⟩;have:=hc (i+1) (by simpa using hi);simpa using this
mutual
def jc:V→Prop
 | .c _=>True
 | .il _ _ _=>True
 |_=>False
end
theorem iA.leaf {ρ ρ':fC}{M:Nat→Prop}:∀{xs:List V} {vs:List Value},(∀x∈xs,jc x)→iA ρ M w xs vs→iA ρ' M w xs vs
 | [],[],_,_=>by simp[iA]
 |x::xs,v::vs,hl,hr=>by
  simp only[iA]at hr⊢;refine⟨?_,iA.leaf (fun y hy=>hl y (w7 _ hy)) hr.2⟩;have h0:=hl x (by simp);cases x with
  |c y=>simpa only[nA]using hr.1
  |il k s l=>simpa only[nA]using hr.1
  |_=>exact h0.elim
 | [],_::_,_,h=>by simp[iA]at h
 |_::_,[],_,h=>by simp[iA]at h
theorem RK.flat_leaf (r:RK)(l:List r.El):∀x∈r.flat l,jc x:=by
 intro x hx;simp only[RK.flat,List.mem_flatMap]at hx;obtain⟨e,_,hx⟩:=hx;cases r<;>simp only[RK.cells,p3,p5,or_false]at hx
 ·subst hx;trivial
 ·rcases hx with rfl|rfl<;>trivial
 ·rcases hx with rfl|rfl|rfl<;>trivial
 ·rcases hx with rfl|rfl<;>trivial
theorem vY {r:RK}{x:oA}{l:List r.El}(hr:r.row x=some l):x.flat∧x.live:=by
 unfold RK.row at hr;split at hr
 ·exact⟨trivial,trivial⟩
 ·exact⟨trivial,trivial⟩
 ·exact⟨trivial,trivial⟩
 ·exact⟨trivial,trivial⟩
 ·cases hr
theorem E2 {M:Nat→Prop}{r:RK}{x:oA}{l:List r.El}(hr:r.row x=some l){p:Pl}(hb:wA ρ M w p x):lJ M w ⟨p.blk,p.n,p.C⟩ (r.flat l):=by
 unfold RK.row at hr;split at hr
 ·rename_i k k' l';obtain⟨h1,h2⟩:=eA hr;have e:=yF h1;subst e;simp only[hA]at h2;subst h2;obtain⟨h1,⟨a1,a2,a3⟩|⟨b,c,a1,a2,a3,a4⟩⟩:=hb
  ·refine⟨by rw[RK.flat_len];simp only[RK.w,l5];exact h1,.inl ⟨a1,by subst a2;rfl,a3⟩⟩
  ·refine⟨by rw[RK.flat_len];simp only[RK.w,l5];exact h1,.inr ⟨b,c,a1,a2,a3,?_⟩⟩;have hsz:=a2.size_eq;dsimp only at a3 hsz h1⊢;refine ub (by simp;omega) fun i hi=>?_;rw[hK (by omega),l4];exact a4 i hi
 all_goals first
  |cases hr;done
  |(simp only[hA]at hr
    subst hr;obtain⟨h1,h2|⟨b,c,a1,a2,a3,a4⟩⟩:=hb
    ·exact⟨h1,.inl h2⟩
    ·exact⟨h1,.inr ⟨b,c,a1,a2,a3,iA.leaf (RK.flat_leaf _ _) a4⟩⟩)
theorem lA.absorb (hh:lA F ρ h w){g pid:Nat}{p pg:Pl}{r:RK}{rows:List (List r.El)}{l:List r.El}(hx:h pid= .pool r rows)(hp:ρ pid=some p)(hg:r.row (h g)=some l)(hpg:ρ g=some pg):
  iI ρ (fE ρ pid ⟨p.blk,p.n,p.C,p.R++[⟨pg.blk,pg.n,pg.C⟩]⟩)∧lA F (fE ρ pid ⟨p.blk,p.n,p.C,p.R++[⟨pg.blk,pg.n,pg.C⟩]⟩) (oB (oB h g .dead) pid (.pool r (rows++[l]))) w∧
   nG (gA ρ h) w (gA (fE ρ pid ⟨p.blk,p.n,p.C,p.R++[⟨pg.blk,pg.n,pg.C⟩]⟩) (oB (oB h g .dead) pid (.pool r (rows++[l])))) w:=by
 obtain⟨hgf,hgl⟩:=vY hg;have hne:g≠pid:=by rintro rfl;rw[hx]at hgf;exact hgf
 have hsub:iI ρ (fE ρ pid ⟨p.blk,p.n,p.C,p.R++[⟨pg.blk,pg.n,pg.C⟩]⟩):=by
  intro j pj hj;by_cases he:j=pid
  ·subst he;rw[hp]at hj;obtain rfl:=yK hj;exact⟨_,lC _ _,rfl,rfl,rfl,_,rfl⟩
  ·exact⟨pj,by rw[tC _ he];exact hj,.refl _⟩
 have new:∀{p' b},fE ρ pid ⟨p.blk,p.n,p.C,p.R++[⟨pg.blk,pg.n,pg.C⟩]⟩ pid=some p'→(oB (oB h g .dead) pid (.pool r (rows++[l])) pid).has p' b→(h pid).has p b∨(h g).has pg b:=by
  intro p' b hp' hb;rw[lC]at hp';cases hp';rw[sB]at hb;obtain⟨q,hq,hb⟩:=hb;rcases List.mem_append.mp hq with hq|hq
  ·rw[hx];exact .inl ⟨q,hq,hb⟩
  ·simp only[List.mem_singleton]at hq;subst hq;exact .inr (oA.flat_has hgf hgl hb)
 have oth:∀{j p' b},j≠pid→fE ρ pid ⟨p.blk,p.n,p.C,p.R++[⟨pg.blk,pg.n,pg.C⟩]⟩ j=some p'→(oB (oB h g .dead) pid (.pool r (rows++[l])) j).has p' b→ρ j=some p'∧(h j).has p' b∧j≠g:=by
  intro j p' b hj hp' hb;rw[tC _ hj]at hp';rw[zB _ hj]at hb;by_cases he:j=g
  ·subst he;rw[sB]at hb;exact hb.elim
  ·rw[zB _ he]at hb;exact⟨hp',hb,he⟩
 have hext:nG (gA ρ h) w (gA (fE ρ pid ⟨p.blk,p.n,p.C,p.R++[⟨pg.blk,pg.n,pg.C⟩]⟩) (oB (oB h g .dead) pid (.pool r (rows++[l])))) w:=⟨hE _,fun _ _ _=>rfl,fun b hb=>by
  obtain⟨j,p',h1,h2⟩:=hb;by_cases hj:j=pid
  ·subst hj;rcases new h1 h2 with h3|h3
   ·exact .inl ⟨_,_,hp,h3⟩
   ·exact .inl ⟨_,_,hpg,h3⟩
  ·obtain⟨a1,a2,_⟩:=oth hj h1 h2;exact .inl ⟨j,p',a1,a2⟩,.refl _⟩
 refine⟨hsub,hh.step (fun j=>j=pid∨j=g) hsub (eW hh.wf (show p.n≤p.C from hh.wf _ _ hp)) hext (fun j hj _=>?_) (fun _ _ _ _ _ _ _=>rfl) ?_ ?_,hext⟩
 ·rw[zB _ (fun e=>hj (.inl e)),zB _ (fun e=>hj (.inr e)),tC _ (fun e=>hj (.inl e))];exact⟨rfl,rfl⟩
 ·rintro j (rfl|rfl) hlj
  ·refine⟨_,lC _ _,?_⟩;rw[sB];obtain⟨p',h1,h2⟩:=hh.rel j (by rw[hx];trivial);rw[hp]at h1;obtain rfl:=yK h1;rw[hx]at h2;obtain⟨k1,k2,k3,k4,k5,k6⟩:=h2;obtain⟨pg',g1,g2⟩:=hh.rel g hgl;rw[hpg]at g1;obtain rfl:=yK g1;have hrow:=E2 hg g2;refine⟨k1,k2,k3,by simp[k4],fun q pl l' hq hl'=>?_,?_⟩
   ·rcases Nat.lt_or_ge q rows.length with hlt|hge
    ·rw[hG (by omega)]at hq hl';exact(k5 q pl l' hq hl').mono hext fun _ _=>rfl
    ·rw[hI (by omega)]at hq hl';rw[k4]at hq;cases hqq:q-rows.length with
     |zero=>rw[hqq]at hq hl';simp at hq hl';subst hq;subst hl';exact hrow.mono hext fun _ _=>rfl
     |succ m=>rw[hqq]at hq;simp at hq
   ·have hold:∀(q:Nat) (pl:gT) b,p.R[q]?=some pl→pl.blk=some b→(h j).has p b:=fun q pl b hq hb=>by rw[hx];exact⟨pl,x5 hq,hb⟩
    have hg':∀b,pg.blk=some b→(h g).has pg b:=fun b hb=>oA.flat_has hgf hgl hb;have part:∀q pl,(p.R++[(⟨pg.blk,pg.n,pg.C⟩:gT)])[q]?=some pl→(p.R[q]?=some pl∧q<p.R.length)∨(pl=⟨pg.blk,pg.n,pg.C⟩∧q=p.R.length):=by
     intro q pl hq;rcases Nat.lt_or_ge q p.R.length with hlt|hge
     ·rw[hG hlt]at hq;exact .inl ⟨hq,hlt⟩
     ·rw[hI hge]at hq;cases hqq:q-p.R.length with
      |zero=>rw[hqq]at hq;simp at hq;exact .inr ⟨hq.symm,by omega⟩
      |succ m=>rw[hqq]at hq;simp at hq
    intro q q' pl pl' b hq hq' hb hb';rcases part q pl hq with⟨a1,a2⟩|⟨a1,a2⟩<;>rcases part q' pl' hq' with⟨b1,b2⟩|⟨b1,b2⟩
    ·exact k6 q q' pl pl' b a1 b1 hb hb'
    ·subst b1;exact absurd (hh.inj j g b _ _ hp hpg (hold q pl b a1 hb) (hg' b hb')) (Ne.symm hne)
    ·subst a1;exact absurd (hh.inj g j b _ _ hpg hp (hg' b hb) (hold q' pl' b b1 hb')) hne
    ·omega
  ·rw[zB _ hne,sB]at hlj;exact hlj.elim
 ·rintro i j b p' p'' (rfl|rfl) hi hj hb hb'
  ·by_cases he:j=i
   ·exact he.symm
   ·obtain⟨a1,a2,a3⟩:=oth he hj hb';rcases new hi hb with h3|h3
    ·exact hh.inj i j b _ _ hp a1 h3 a2
    ·exact absurd (hh.inj g j b _ _ hpg a1 h3 a2) (Ne.symm a3)
  ·rw[zB _ hne,sB]at hb;exact hb.elim
theorem Bn (hty:eD P ty)(hh:lA F ρ h w){t:Nat}{a x:V}{va vx:Value}{ti:TI}{out:jJ}(ha:nA ρ (av F (gA ρ h)) w a va)(hx:nA ρ (av F (gA ρ h)) w x vx)
  (ht:ty t=some ti)(hs:iU ti a x h=some (true,out)):
  gF F ρ h w nid out ((do Instr.storeAt t va vx;pure .skip:Sem Next).run P w):=by
 have h0:=hty _ _ ht;have done:∀{b off w' x' id},va= .pointer (some ⟨b,off,none⟩)→vx.cells.toList.length=ti.size→(storeCells ⟨b,off,none⟩ vx.cells.toList 0).run P w= .ok () w'→lA F ρ (oB h id x') w'→nG (gA ρ h) w (gA ρ (oB h id x')) w'→
   gF F ρ h w nid {val:=tI,wr:=[(id,x')],touch:=[id]} ((do Instr.storeAt t va vx;pure .skip:Sem Next).run P w):=by
  rintro b off w' x' id rfl e2 e3 e4 e5;exact⟨undef,w',ρ,.inr ⟨yU h0 e2 e3,rfl⟩,iI.refl _,fun _ _ hno=>hno,e4,nA.of_c _,e5⟩
 unfold iU at hs;split at hs
 ·rename_i id off ext;simp only[nA]at ha;obtain⟨bb,n,C,R,hp,hn,rfl⟩:=ha;split at hs
  ·rename_i vs hc;obtain⟨hsz,hs⟩:=eA hs;rw[hJ]at hsz;have hle:=wF hsz.1;have hl:=yA hsz.2;have hr:=nA.cells hx hc;have hlen:=hr.length;split at hs
   ·
    rename_i s pid π g w0 hid _;split at hs
    ·rename_i r rows hpool;split at hs
     ·rename_i l hrow;obtain⟨hchk,hs2⟩:=eA hs;simp only[hJ,Bool.not_eq_true']at hchk;obtain⟨⟨⟨c1,c2⟩,c3,c4⟩,c5,c6⟩:=hchk;have c1:=yA c1;have c2:=yA c2;have c3:=yA c3;subst c1;have ng:g≠id:=fun e=>by subst e;simp at c4
      have ngp:g≠pid:=fun e=>by subst e;simp at c5
      have nip:id≠pid:=fun e=>by subst e;simp at c6
      simp only[hA,hD,true_and]at hs2;subst hs2
      match hcells:vx.cells.toList,hr with
      | [u],hr=>
       simp only[iA,and_true,nA]at hr;obtain⟨hs0,hru⟩:=hr;obtain⟨hgf,hgl⟩:=vY hrow;obtain⟨pg,hpg,hbg⟩:=hh.rel g hgl;obtain⟨pp,hpp,hbp⟩:=hh.rel pid (by rw[hpool];trivial);obtain⟨s1,s2,s3⟩:=hh.absorb hpool hpp hrow hpg;have hR:pp.R.length=rows.length:=by rw[hpool]at hbp;exact hbp.2.2.2.1
       generalize hρ':fE ρ pid ⟨pp.blk,pp.n,pp.C,pp.R++[⟨pg.blk,pg.n,pg.C⟩]⟩=ρ' at s1 s2 s3;generalize hh':oB (oB h g .dead) pid (.pool r (rows++[l]))=h' at s2 s3;have hid':h' id= .po s pid π:=by rw[←hh',zB _ nip,zB _ (Ne.symm ng)];exact hid
       have hρid:ρ' id=some ⟨some bb,n,C,R⟩:=by rw[←hρ',tC _ nip];exact hp
       have hrel:nA ρ' (av F (gA ρ' h')) w (.rp pid rows.length s) u:=by
        simp only[nA];refine⟨hs0,_,⟨pg.blk,pg.n,pg.C⟩,by rw[←hρ'];exact lC _ _,by rw[←hR];simp,?_⟩;rcases hru with⟨b',n',C',R',cap,q1,q2,q3,q4,q5⟩|⟨R',q1,q2⟩
        ·rw[hpg]at q1;obtain rfl:=yK q1;exact .inl ⟨b',cap,rfl,q2,q3,q4,q5⟩
        ·rw[hpg]at q1;obtain rfl:=yK q1;exact .inr ⟨rfl,rfl,q2⟩
       obtain⟨w',r1,r2,r3⟩:=fR (P:=P) (us:=[u]) (off:=off) s2 (by rw[hid'];trivial) (by rw[hid'];trivial) hρid (by simp only[hT,hV];omega) (x':=.po s pid (π.set off rows.length)) (fun c c' hc0 hcs hcc=>by rw[hid']at hc0;exact dV (x:=.po s pid π) (vs:=[.rp pid rows.length s]) (by simp[jH]) hc0 (by simp only[iA,and_true];exact hrel) (by simp only[hT,hV];omega) hcs hcc);have hrun:=yU (P:=P) (vx:=vx) h0 (by rw[hcells];simp only[hT,hV];omega) (by rw[hcells];exact r1);refine⟨undef,w',ρ',.inr ⟨hrun,rfl⟩,s1,fun j _ hno=>?_,?_,nA.of_c _,?_⟩
       ·rw[←hρ',tC];exact hno;rintro rfl;rw[hpp]at hno;cases hno
       ·have e:cJ h nid {val:=tI,wr:=[(g,.dead),(pid,.pool r (rows++[l])),(id,.po s pid (π.set off rows.length))],touch:=[id,pid,g]}=oB h' id (.po s pid (π.set off rows.length)):=by
         rw[←hh'];rfl
        rw[e];exact r2
       ·have e:cJ h nid {val:=tI,wr:=[(g,.dead),(pid,.pool r (rows++[l])),(id,.po s pid (π.set off rows.length))],touch:=[id,pid,g]}=oB h' id (.po s pid (π.set off rows.length)):=by
         rw[←hh'];rfl
        rw[e];exact s3.trans r3
      | [],hr=>simp[iA]at hr
      |_::_::_,hr=>simp[iA]at hr
     ·cases hs
    ·cases hs
   ·split at hs
    ·rename_i b hb;simp only[hA,hD,true_and]at hs;subst hs;have hlive:(h id).live:=by
      cases hx:h id with
      |dead=>rw[hx]at hb;simp[jH]at hb
      |_=>trivial
     have hflat:(h id).flat:=by
      cases hx:h id with
      |pool _ _=>rw[hx]at hb;simp[jH]at hb
      |amb _ _=>rw[hx]at hb;simp[jH]at hb
      |_=>trivial
     obtain⟨w',r1,r2,r3⟩:=fR (P:=P) (us:=vx.cells.toList) (off:=off) hh hlive hflat hp (by omega) (x':=b) (fun c c' hc0 hcs hcc=>dV hb hc0 hr (by omega) hcs hcc);exact done rfl (by omega) r1 r2 r3
    ·cases hs
  ·cases hs
 ·rename_i id i s;split at hs
  ·rename_i r l vs hid hc;split at hs
   ·rename_i e he;obtain⟨hsz,hs2⟩:=eA hs;rw[hJ]at hsz;have hz:=yA hsz.1;have hw:=yA hsz.2;subst hw;simp only[hA,hD,true_and]at hs2;subst hs2;obtain⟨hr,hone⟩:=Ap he (nA.cells hx hc);have hlen:=hr.length;rw[r.cells_len]at hlen;simp only[nA]at ha;obtain⟨bb,n,C,R,hp,hn,rfl⟩:=ha;obtain⟨w',r1,r2,r3⟩:=fR (P:=P) (us:=vx.cells.toList) (off:=i*r.w) hh (by rw[hid];trivial) (by rw[hid];trivial) hp (by omega) (x':=.tw r (l.set i e)) (fun c c' hc0 hcs hcc=>by
     rw[hid]at hc0;exact⟨hone,jy hn hc0 hr hcs hcc⟩)
    exact done rfl (by omega) r1 r2 r3
   ·cases hs
  ·cases hs
 ·rename_i pid q i s;split at hs
  ·rename_i r rows vs hid hc;split at hs
   ·rename_i e he;obtain⟨hsz,hs2⟩:=eA hs;rw[hJ]at hsz;have hz:=yA hsz.1;have hw:=yA hsz.2;subst hw;simp only[hA,hD,true_and]at hs2;subst hs2;simp only[nA]at ha;obtain⟨p,pl,b,hp,hq,hb,hn,rfl⟩:=ha;obtain⟨hlt,hl0,⟨h5,_⟩|⟨b',c,h5,h6,h7,h8⟩⟩:=hh.poolRow hid hp hq
    ·rw[hb]at h5;cases h5
    rw[hb]at h5;obtain rfl:=yK h5;obtain⟨hr,hone⟩:=Ap he (nA.cells hx hc);have hr':=iA.leaf (ρ':=fun _=>none) (fun x hx=>by have:=r.flat_leaf [e] x (by simpa[RK.flat]using hx);exact this) hr;have hlen:=hr.length;rw[r.cells_len]at hlen;obtain⟨w',c',r1,r2,r3,r4,r5,r6⟩:=sG (P:=P) (b:=b) vx.cells.toList w (i*r.w) 0 pl.C c h6 (by omega) hone;have hcs:=h6.size_eq;obtain⟨k1,k2,k3⟩:=jy (c:=c) (c':=c') hn ⟨hl0,by omega,h8⟩ hr' (by omega) (fun j=>by rw[r6 j];simp only[n4]);obtain⟨q1,q2⟩:=hh.writeRow hid hp hq hb r2 r3 r4 k1 h7 k3;exact done rfl (by omega) r1 q1 q2
   ·cases hs
  ·cases hs
 ·cases hs
end
section
variable {P:Program}{F:Nat→Prop}{ρ:fC}{h:Nat→oA}{w:World}{nid:Nat}{ty:Nat→Option TI}{ev:Operand→V}{ae:Operand→Value}{out:jJ}{M:Nat→Prop}
theorem fP (hty:eD P ty){t f fo fsz:Nat}{ti:TI}{fs:List (Nat×Nat)}(ht:ty t=some ti)(hk:ti.tk= .struct fs)(hf:wI ty fs f=some (fo,fsz))(hpos:0<fsz)(b o:Nat):
  (Instr.fieldAt t (.pointer (some ⟨b,o,none⟩)) f).run P w= .ok (.pointer (some ⟨b,o+fo,none⟩)) w:=by
 have h0:=(hty _ _ ht).tk;rw[hk]at h0;obtain⟨fields,h1,h2,h3⟩:=h0;obtain⟨t',ti',a1,a2,a3⟩:=lX hf;obtain⟨fl,b1,b2,b3⟩:=sT h2 a1;have hs:(Go.sizeOf fl.type).run P w= .ok ti'.size w:=by rw[b2];exact(hty _ _ a2).sizeOf
 have hne:¬ti'.size=0:=by omega
 simp only[Instr.fieldAt,aE,run_underlying h1,hB,b1,Instr.sureAddr,hF,fieldPlace,hs,if_neg hne,eH,b3]
theorem cj (hty:eD P ty){t f:Nat}{ti:TI}{fs:List (Nat×Nat)}{x:V}{vx:Value}(ht:ty t=some ti)(hk:ti.tk= .struct fs)(hx:nA ρ M w x vx){out:jJ}
  (hb:kX ty fs f x=some (true,out)):
  ∃y v,out={val:=y}∧(Instr.fieldAt t vx f).run P w= .ok v w∧nA ρ M w y v:=by
 cases x<;>simp only[kX]at hb
 case ptr id off ext=>
  split at hb
  ·rename_i fo fsz hf;obtain⟨h1,h2⟩:=eA hb;rw[hJ]at h1;have:=wF h1.1;simp only[nA]at hx;obtain⟨b,n,C,R,hp,hn,rfl⟩:=hx;exact⟨_,_,vB h2,fP hty ht hk hf (nC h1.2) b off,by simp only[nA];exact⟨b,n,C,R,hp,by omega,rfl⟩⟩
  ·cases hb
 case ilp k l off ext=>
  split at hb
  ·rename_i fo fsz hf;obtain⟨h1,h2⟩:=eA hb;rw[hJ]at h1;have:=wF h1.1;simp only[nA]at hx;obtain⟨b,o,rfl,hn,hr⟩:=hx;exact⟨_,_,vB h2,fP hty ht hk hf (nC h1.2) b (o+off),by simp only[nA];exact⟨b,o,by rw[p0],by omega,hr⟩⟩
  ·cases hb
 case ivp l i off ext=>
  split at hb
  ·rename_i fo fsz hf;obtain⟨h1,h2⟩:=eA hb;rw[hJ]at h1;have:=wF h1.1;simp only[nA]at hx;obtain⟨b,o,rfl,hn,hr⟩:=hx;exact⟨_,_,vB h2,fP hty ht hk hf (nC h1.2) b (o+off),by simp only[nA];exact⟨b,o,by rw[p0],by omega,hr⟩⟩
  ·cases hb
 all_goals cases hb
theorem dr {t:Nat}{ti:TI}(ht:cC P t ti)(hpos:0<ti.size){cs r:List V}{xs:Array Value}{off:Nat}(hr:iA ρ M w cs xs.toList)(hc:bO (qO cs off) ti.size=some r):
  ∃v,(part t xs off).run P w= .ok v w∧nA ρ M w (xN ti r) v:=by
 rw[yR]at hc;obtain⟨h1,h2⟩:=dZ hc;have hlen:=hr.length;have hrr:iA ρ M w r ((xs.toList.drop off).take ti.size):=by rw[h1];exact(hr.drop off).take _
 unfold part xN;simp only[aE,ht.isAgg,hB];cases ha:ti.isAgg with
 |true=>
  refine⟨.agg (xs.extract off (off+ti.size)),by simp only[if_true,aE,ht.sizeOf,hB,hF],?_⟩;simp only[cond_true,nA];refine⟨_,rfl,?_⟩;have:(xs.extract off (off+ti.size)).toList=(xs.toList.drop off).take ti.size:=by simp[Array.toList_extract]
  rw[this];exact hrr
 |false=>
  have hone:=ht.one ha;simp only[c7]at h2;have hlt:off<xs.size:=by simp at hlen;omega
  refine⟨xs[off],by simp[hlt],?_⟩;simp only[cond_false];have e:(xs.toList.drop off).take ti.size=[xs[off]]:=by rw[hone,x2 (by simpa using hlt)];simp
  rw[e]at hrr;cases r with
  |nil=>simp[iA]at hrr
  |cons v r=>simp only[iA]at hrr;exact hrr.1
theorem yz (hty:eD P ty){t f:Nat}{ti:TI}{fs:List (Nat×Nat)}{cs r:List V}{vx:Value}{t' fo:Nat}{te:TI}(ht:ty t=some ti)(hk:ti.tk= .struct fs)(hx:nA ρ M w (.agg cs) vx)
  (hf:fs[f]?=some (t',fo))(hte:ty t'=some te)(hpos:0<te.size)(hc:bO (qO cs fo) te.size=some r):
  ∃v,(Instr.field t vx f).run P w= .ok v w∧nA ρ M w (xN te r) v:=by
 have h0:=(hty _ _ ht).tk;rw[hk]at h0;obtain⟨fields,h1,h2,h3⟩:=h0;obtain⟨fl,b1,b2,b3⟩:=sT h2 hf;simp only[nA]at hx;obtain⟨xs,rfl,hx⟩:=hx;obtain⟨v,c1,c2⟩:=dr (hty _ _ hte) hpos hx hc;refine⟨v,?_,c2⟩;simp only[Instr.field,aE,run_underlying h1,hB,b1,asAgg,hF,b2,b3,c1]
theorem mv {i:Nat}{vs:List V}{y:V}{vx:Value}(hx:nA ρ M w (.tup vs) vx)(hg:nh vs i=some y):∃v,(Instr.extract vx i).run P w= .ok v w∧nA ρ M w y v:=by
 simp only[nA]at hx;obtain⟨xs,rfl,hx⟩:=hx;rw[qm]at hg;obtain⟨v,h1,h2⟩:=hx.get hg;refine⟨v,?_,h2⟩;have:xs[i]?=some v:=by simpa using h1
 simp only[Instr.extract,this,hF]
def gL (x:oA):Prop:=(∃k,x= .ints k [])∨x= .vals []∨(∃r,x= .tw r [])∨∃s pid,x= .po s pid []
theorem sF (hh:lA F ρ h w){id s:Nat}{vx:Value}(hx:nA ρ (av F (gA ρ h)) w (.sw id s) vx)(hl:(h id).live)(hf:(h id).flat):
  0<s∧((∃b n C R cap c,ρ id=some ⟨some b,n,C,R⟩∧n%s=0∧n/s≤cap∧cap*s≤C∧vx= .slice (some ⟨b,0,none⟩) (n/s) cap∧fT w b C c∧c.size=C∧rC ρ (av F (gA ρ h)) w n c (h id))∨
   (∃R,ρ id=some ⟨none,0,0,R⟩∧vx= .slice none 0 0∧gL (h id))):=by
 simp only[nA]at hx;obtain⟨h0,⟨b,n,C,R,cap,h1,h2,h3,h4,h5⟩|⟨R,h1,h2⟩⟩:=hx
 ·obtain⟨c,ho,hsz,hold⟩:=hh.own hl hf h1;exact⟨h0,.inl ⟨b,n,C,R,cap,c,h1,h2,h3,h4,h5,ho,hsz,hold⟩⟩
 ·refine⟨h0,.inr ⟨R,h1,h2,?_⟩⟩;obtain⟨p,hp,hb⟩:=hh.rel id hl;rw[h1]at hp;simp only[hA]at hp;subst hp;cases hx:h id with
  |dead=>rw[hx]at hl;exact hl.elim
  |pool _ _=>rw[hx]at hf;exact hf.elim
  |amb _ _=>rw[hx]at hf;exact hf.elim
  |ints k l=>rw[hx]at hb;obtain⟨hb1,_⟩:=hb;have:l=[]:=hU.mp hb1;exact .inl ⟨k,by rw[this]⟩
  |vals cs=>rw[hx]at hb;obtain⟨hb1,_⟩:=hb;have:cs=[]:=hU.mp hb1;exact .inr (.inl (by rw[this]))
  |tw r l=>rw[hx]at hb;obtain⟨hb1,_⟩:=hb;dsimp only at hb1;rw[RK.flat_len]at hb1;have hw:=r.w_pos;have:l=[]:=hU.mp ((l7.mp hb1).resolve_right (by omega));exact .inr (.inr (.inl ⟨r,by rw[this]⟩))
  |po s pid π=>rw[hx]at hb;obtain⟨hb1,_⟩:=hb;have:π=[]:=hU.mp (by simpa[cL]using hb1);exact .inr (.inr (.inr ⟨s,pid,by rw[this]⟩))
theorem rC.len {n:Nat}{c:Array Value}{k:IntKind}{l:List Int}(hx:rC ρ M w n c (.ints k l)):l.length=n:=hx.1
theorem rC.lenV {n:Nat}{c:Array Value}{l:List V}(hx:rC ρ M w n c (.vals l)):l.length=n:=hx.1
theorem dy (hh:lA F ρ h w){pid q:Nat}{r:RK}{rows:List (List r.El)}(hid:h pid= .pool r rows){vx:Value}(hx:nA ρ (av F (gA ρ h)) w (.rp pid q r.w) vx):
  q<rows.length∧∃p pl,ρ pid=some p∧p.R[q]?=some pl∧pl.n=(rows.getD q []).length*r.w∧((∃b cap,pl.blk=some b∧(rows.getD q []).length≤cap∧vx= .slice (some ⟨b,0,none⟩) (rows.getD q []).length cap)∨((rows.getD q []).length=0∧vx= .slice none 0 0)):=by
 simp only[nA]at hx;obtain⟨h0,p,pl,h1,h2,h3⟩:=hx;obtain⟨hlt,hl,hk⟩:=hh.poolRow hid h1 h2;rw[RK.flat_len]at hl;have e:pl.n/r.w=(rows.getD q []).length:=by rw[←hl];exact u4 _ r.w_pos
 refine⟨hlt,p,pl,h1,h2,hl.symm,?_⟩;rcases h3 with⟨b,cap,a1,a2,a3,a4,a5⟩|⟨a1,a2,a3⟩
 ·rw[e]at a3 a5;exact .inl ⟨b,cap,a1,a3,a5⟩
 ·refine .inr ⟨?_,a3⟩;rw[a2]at hl;have:=r.w_pos;exact(l7.mp hl).resolve_right (by omega)
theorem Gv (hh:lA F ρ h w){pid q:Nat}{r:RK}{rows:List (List r.El)}(hid:h pid= .pool r rows){vx:Value}(hx:nA ρ (av F (gA ρ h)) w (.rp pid q r.w) vx):
  ∃a cap,q<rows.length∧vx= .slice a (rows.getD q []).length cap∧(rows.getD q []).length≤cap:=by
 obtain⟨h1,p,pl,h2,h3,h4,⟨b,cap,h5,h6,h7⟩|⟨h5,h6⟩⟩:=dy hh hid hx
 ·exact⟨_,cap,h1,h7,h6⟩
 ·exact⟨none,0,h1,by rw[h5];exact h6,by omega⟩
theorem yX (hh:lA F ρ h w){x:V}{vx:Value}{n:Nat}{tc:List Nat}(hx:nA ρ (av F (gA ρ h)) w x vx)(hl:gO h x=some (n,tc))(hs:∀s,x≠ .c (.string s)):∃a c,vx= .slice a n c∧n≤c:=by
 unfold gO at hl;split at hl
 ·simp only[hA,hD]at hl;have:=hx.c;subst this;obtain⟨rfl,_⟩:=hl;exact⟨none,0,rfl,hE _⟩
 ·rename_i s;exact absurd rfl (hs s)
 ·rename_i id s;have hlive:(h id).live:=by
   cases hx:h id with
   |dead=>rw[hx]at hl;simp at hl
   |_=>trivial
  have hflat:(h id).flat:=by
   cases hx:h id with
   |pool _ _=>rw[hx]at hl;simp at hl
   |amb _ _=>rw[hx]at hl;simp at hl
   |_=>trivial
  obtain⟨h0,⟨b,m,C,R,cap,c,h1,h2,h3,h4,h5,ho,hsz,hold⟩|⟨R,h1,h2,hk⟩⟩:=sF hh hx hlive hflat
  ·split at hl
   ·rename_i k l hid;simp only[hA,hD,jE]at hl;rw[hid]at hold;have:=hold.len;obtain⟨rfl,_⟩:=hl;exact⟨_,cap,by rw[this];exact h5,by rw[this];exact h3⟩
   ·rename_i l hid;simp only[hA,hD,jE]at hl;rw[hid]at hold;have:=hold.lenV;obtain⟨rfl,_⟩:=hl;exact⟨_,cap,by rw[this];exact h5,by rw[this];exact h3⟩
   ·rename_i r l hid;obtain⟨hw,hl2⟩:=eA hl;have hw:=yA hw;subst hw;simp only[hA,hD]at hl2;rw[hid]at hold;have:=hold.1;rw[RK.flat_len]at this;obtain⟨rfl,_⟩:=hl2;have e:m/r.w=l.length:=by rw[←this];exact u4 _ r.w_pos
    rw[e]at h5 h3;exact⟨_,cap,h5,h3⟩
   ·rename_i s2 pid π hid;obtain⟨hw,hl2⟩:=eA hl;have hw:=yA hw;subst hw;simp only[hA,hD]at hl2;rw[hid]at hold;have:=hold.1;simp only[cL,x3]at this;obtain⟨rfl,_⟩:=hl2;rw[p7,←this]at h5 h3;exact⟨_,cap,h5,h3⟩
   ·cases hl
   ·cases hl
   ·cases hl
  ·rcases hk with⟨k,hk⟩|hk|⟨r,hk⟩|⟨_,_,hk⟩<;>rw[hk]at hl
   ·simp only[hA,hD,jE,hV,r8]at hl;obtain⟨rfl,_⟩:=hl;exact⟨none,0,h2,hE _⟩
   ·simp only[hA,hD,jE,hV,r8]at hl;obtain⟨rfl,_⟩:=hl;exact⟨none,0,h2,hE _⟩
   all_goals
    obtain⟨_,hl⟩:=eA hl;simp only[hA,hD,hV]at hl;obtain⟨rfl,_⟩:=hl;exact⟨none,0,h2,hE _⟩
 ·rename_i id s off len;simp only[hA,hD]at hl;obtain⟨rfl,_⟩:=hl;simp only[nA]at hx;obtain⟨h0,⟨b,m,C,R,cap,h1,h2,h3,h4,h5⟩|⟨h2,a,h3⟩⟩:=hx
  ·exact⟨_,cap,h5,h3⟩
  ·exact⟨a,0,by rw[h2];exact h3,by omega⟩
 ·rename_i k s l;simp only[hA,hD,jE]at hl;obtain⟨rfl,_⟩:=hl;simp only[nA]at hx;obtain⟨h0,h1,⟨h2,a,h3⟩|⟨b,o,cap,h2,h3,_⟩⟩:=hx
  ·subst h2;exact⟨a,0,by simpa using h3,by simp⟩
  ·exact⟨_,cap,h2,h3⟩
 ·rename_i m cols;simp only[hA,hD]at hl;obtain⟨rfl,_⟩:=hl;simp only[nA]at hx;obtain⟨h0,⟨h2,a,h3⟩|⟨b,o,cap,h2,h3,_⟩⟩:=hx
  ·subst h2;exact⟨a,0,h3,hE _⟩
  ·exact⟨_,cap,h2,h3⟩
 ·rename_i k s l;simp only[hA,hD]at hl;obtain⟨rfl,_⟩:=hl;simp only[nA]at hx;obtain⟨h2,a,h3⟩|⟨b,o,cap,h2,h3,_⟩:=hx
  ·subst h2;exact⟨a,0,h3,hE _⟩
  ·exact⟨_,cap,h2,h3⟩
 ·rename_i pid q s;split at hl
  ·rename_i r rows hid;obtain⟨hw,hl2⟩:=eA hl;have hw:=yA hw;subst hw;simp only[hA,hD]at hl2;obtain⟨rfl,_⟩:=hl2;obtain⟨pl,cap,h1,h2,h3⟩:=Gv hh hid hx;exact⟨_,_,h2,h3⟩
  ·cases hl
 ·cases hl
theorem Gn (hty:eD P ty)(hh:lA F ρ h w){t:Nat}{ti:TI}{x:V}{vx:Value}{n:Nat}{tc:List Nat}(ht:ty t=some ti)(hx:nA ρ (av F (gA ρ h)) w x vx)(hl:gO h x=some (n,tc))(hk:A6 ti.tk x=true)(ts:Array TypeId)(hts:ts[0]?=some t)(t':TypeId):
  (k8 ts t' #[vx]).run P w= .ok (.int .i64 n) w:=by
 have h0:=(hty _ _ ht).tk;unfold A6 at hk;split at hk
 ·rename_i s hti;rw[hti]at h0;simp only[fG]at h0;have:=hx.c;subst this;simp only[gO,hA,hD]at hl;obtain⟨rfl,_⟩:=hl;simp[k8,hts,run_underlying h0,goInt]
 ·cases hk
 ·rename_i e hti hns;rw[hti]at h0;simp only[fG]at h0;obtain⟨a,c,rfl,_⟩:=yX hh hx hl (fun s e=>hns s e);simp[k8,hts,run_underlying h0,goInt]
 ·cases hk
theorem uF {t:Nat}{e:Nat}{te:TI}(hty:eD P ty)(hte:ty e=some te)(hu:P.underlying t=some (.slice e)){b off len cap:Nat}{k:IntKind}{i:Int}(h0:0≤i)(h1:i<(len:Int)):
  (Instr.indexAt t (.slice (some ⟨b,off,none⟩) len cap) (.int k i)).run P w= .ok (.pointer (some ⟨b,off+rH te.size i.toNat,none⟩)) w:=by
 simp only[Instr.indexAt,asIntOf,aE,hF,hB,run_underlying hu,if_pos (And.intro h0 h1),(hty _ _ hte).sizeOf,eH,rB]
theorem oN {t n:Nat}{e:Nat}{te:TI}(hty:eD P ty)(hte:ty e=some te)(hu:P.underlying t=some (.array n e)){b off:Nat}{k:IntKind}{i:Int}(h0:0≤i)(h1:i<(n:Int)):
  (Instr.indexAt t (.pointer (some ⟨b,off,none⟩)) (.int k i)).run P w= .ok (.pointer (some ⟨b,off+rH te.size i.toNat,none⟩)) w:=by
 simp only[Instr.indexAt,asIntOf,Instr.sureAddr,aE,hF,hB,run_underlying hu,if_pos (And.intro h0 h1),(hty _ _ hte).sizeOf,eH,rB]
theorem gB {a b:Bool}(h:(a&&b)=true):a=true∧b=true:=by simpa using h
theorem aP {i n w:Nat}(h:i<n):i*w+w≤n*w:=by
 have:(i+1)*w≤n*w:=xK w h;rw[b6]at this;exact this
theorem np (hty:eD P ty)(hh:lA F ρ h w){t:Nat}{x i:V}{vx vi:Value}{out:jJ}(hx:nA ρ (av F (gA ρ h)) w x vx)(hi:nA ρ (av F (gA ρ h)) w i vi)(hb:rP ty t x i h=some (true,out)):
  ∃y tc v,out={val:=y,touch:=tc}∧(Instr.indexAt t vx vi).run P w= .ok v w∧nA ρ (av F (gA ρ h)) w y v:=by
 unfold rP at hb;split at hb
 ·rename_i ki n e s0 b0 z0 ht;have hvi:=hi.int;subst hvi;have hu:=(hty _ _ ht).tk;simp only[fG]at hu;split at hb
  ·cases hb
  ·rename_i te hte;split at hb
   ·rename_i id s;obtain⟨hw,hb⟩:=eA hb;have hw:=yA hw;have hlive:(h id).live:=by
     cases hx:h id with
     |dead=>rw[hx]at hb;simp at hb
     |_=>trivial
    have hflat:(h id).flat:=by
     cases hx:h id with
     |pool _ _=>rw[hx]at hb;simp at hb
     |amb _ _=>rw[hx]at hb;simp at hb
     |_=>trivial
    obtain⟨h0,⟨b,m,C,R,cap,c,h1,h2,h3,h4,h5,ho,hsz,hold⟩|⟨R,h1,h2,hk⟩⟩:=sF hh hx hlive hflat
    ·subst h5;have wV:∀L:Nat,L=m→(decide (0≤n)&&decide (n<((pJ s L:Nat):Int)))=true→out={val:=.ptr id (rH s n.toNat) s,touch:=[id]}→
      ∃y tc v,out={val:=y,touch:=tc}∧(Instr.indexAt t (.slice (some ⟨b,0,none⟩) (m/s) cap) (.int ki n)).run P w= .ok v w∧nA ρ (av F (gA ρ h)) w y v:=by
      intro L hL hok hout;subst hL;obtain⟨g0,g1⟩:=gB hok;have g0:0≤n:=by simpa using g0
      have g1:n<((pJ s L:Nat):Int):=by simpa using g1
      rw[jE]at g1;refine⟨_,_,_,hout,uF hty hte hu g0 g1,?_⟩;simp only[nA];refine⟨b,L,C,R,h1,?_,by rw[hN,hw]⟩;rw[rB];have h6:n.toNat<L/s:=by omega
      have:=aP (w:=s) h6;have h7:=e8 L s;omega
     split at hb
     ·rename_i k l hid;simp only[hA,hD]at hb;rw[hid]at hold;exact wV l.length hold.len hb.1 hb.2.symm
     ·rename_i l hid;simp only[hA,hD]at hb;rw[hid]at hold;exact wV l.length hold.lenV hb.1 hb.2.symm
     ·rename_i r l hid;obtain⟨hw2,hb⟩:=eA hb;have hw2:=yA hw2;simp only[hA,hD]at hb;obtain⟨hok,hout⟩:=hb;obtain⟨g0,g1⟩:=gB hok;have g0:0≤n:=by simpa using g0
      have g1:n<((l.length:Nat):Int):=by simpa using g1
      rw[hid]at hold;have hm:=hold.1;rw[RK.flat_len,←hw2]at hm;have e:m/s=l.length:=by rw[←hm];exact u4 _ h0
      refine⟨_,_,_,hout.symm,uF hty hte hu g0 (by rw[e];exact g1),?_⟩;simp only[nA];refine⟨b,m,C,R,h1,?_,by rw[hN,rB,hw]⟩;rw[←hm];exact aP (w:=s) (show n.toNat<l.length by omega)
     ·rename_i s2 pid π hid;obtain⟨hw2,hb2⟩:=eA hb;have hw2:=yA hw2;subst hw2;simp only[hA,hD]at hb2;obtain⟨hok,hout⟩:=hb2;rw[hid]at hold;have hm:=hold.1;simp only[cL,x3]at hm;obtain⟨g0,g1⟩:=gB hok;have g0:0≤n:=by simpa using g0
      have g1:n<((π.length:Nat):Int):=by simpa using g1
      refine⟨_,_,_,hout.symm,uF hty hte hu g0 (by rw[p7,←hm];exact g1),?_⟩;simp only[nA];exact⟨b,m,C,R,h1,by omega,by rw[hN,rB,←hw,l5]⟩
     ·cases hb
     ·cases hb
     ·cases hb
    ·exfalso;rcases hk with⟨k,hk⟩|hk|⟨r,hk⟩|⟨_,_,hk⟩<;>rw[hk]at hb
     ·simp[jE]at hb;omega
     ·simp[jE]at hb;omega
     all_goals
      obtain⟨_,hb⟩:=eA hb;simp at hb;omega
   ·rename_i pid q s;obtain⟨hw,hb⟩:=eA hb;have hw:=yA hw;split at hb
    ·rename_i r rows hid;obtain⟨hw2,hb2⟩:=eA hb;have hw2:=yA hw2;subst hw2;simp only[hA,hD]at hb2;obtain⟨hok,hout⟩:=hb2;obtain⟨g0,g1⟩:=gB hok;have g0:0≤n:=by simpa using g0
     have g1:n<(((rows.getD q []).length:Nat):Int):=by simpa using g1
     obtain⟨k1,p,pl,k2,k3,k4,⟨b,cap,k5,k6,k7⟩|⟨k5,k6⟩⟩:=dy hh hid hx
     ·subst k7;refine⟨_,_,_,hout.symm,uF hty hte hu g0 g1,?_⟩;simp only[nA];refine⟨p,pl,b,k2,k3,k5,?_,by rw[hN,rB,hw]⟩;rw[k4];exact aP (show n.toNat<(rows.getD q []).length by omega)
     ·omega
    ·cases hb
   ·rename_i k s rows;obtain⟨hw,hb⟩:=eA hb;rw[hJ]at hw;have hw:=yA hw.1;obtain⟨hok,hout⟩:=vD hb;obtain⟨g0,g1⟩:=gB hok;have g0:0≤n:=by simpa using g0
    have g1:n<((rows.length:Nat):Int):=by simpa using g1
    simp only[nA]at hx;obtain⟨h2,h3⟩|⟨b,o,cap,h2,h3,h4,h5,h6⟩:=hx
    ·subst h2;simp at g1;omega
    ·subst h2;refine⟨_,[],_,hout,uF hty hte hu g0 g1,?_⟩;simp only[nA];exact⟨b,o,by rw[rB,hw,l5],by omega,h4,h5,h6⟩
   ·rename_i id s off len;obtain⟨hw,hb⟩:=eA hb;have hw:=yA hw;obtain⟨hok,hout⟩:=vD hb;obtain⟨g0,g1⟩:=gB hok;have g0:0≤n:=by simpa using g0
    have g1:n<(len:Int):=by simpa using g1
    simp only[nA]at hx;obtain⟨h0,⟨b,m,C,R,cap,h1,h2,h3,h4,h5⟩|⟨h2,h3⟩⟩:=hx
    ·subst h5;refine⟨_,[],_,hout,uF hty hte hu g0 g1,?_⟩;simp only[nA];refine⟨b,m,C,R,h1,?_,by rw[hw]⟩;rw[rB];have h6:n.toNat<len:=by omega
     have:=aP (w:=s) h6;omega
    ·omega
   ·rename_i k s l;obtain⟨hw,hb⟩:=eA hb;have hw:=yA hw;obtain⟨hok,hout⟩:=vD hb;obtain⟨g0,g1⟩:=gB hok;have g0:0≤n:=by simpa using g0
    have g1:n<((pJ s l.length:Nat):Int):=by simpa using g1
    rw[jE]at g1;simp only[nA]at hx;obtain⟨h0,hm,⟨h2,h3⟩|⟨b,o,cap,h2,h3,h4,h5,h6⟩⟩:=hx
    ·subst h2;simp at g1;omega
    ·subst h2;refine⟨_,[],_,hout,uF hty hte hu g0 g1,?_⟩;simp only[nA];refine⟨b,o,by rw[hw],?_,h4,h5,h6⟩;rw[rB];have h7:n.toNat<l.length/s:=by omega
     have:=aP (w:=s) h7;have h8:=e8 l.length s;omega
   ·rename_i m cols;obtain⟨hw,hb⟩:=eA hb;have hw:=yA hw;obtain⟨hok,hout⟩:=vD hb;obtain⟨g0,g1⟩:=gB hok;have g0:0≤n:=by simpa using g0
    have g1:n<(m:Int):=by simpa using g1
    simp only[nA]at hx;obtain⟨h0,⟨h2,h3⟩|⟨b,o,cap,h2,h3,h4,h5,h6⟩⟩:=hx
    ·subst h2;simp at g1;omega
    ·subst h2;refine⟨_,[],_,hout,uF hty hte hu g0 g1,?_⟩;simp only[nA];refine⟨b,o+n.toNat*cols.length,by rw[rB,hw,n4],by omega,h4,h5,fun j hj=>h6 n.toNat (by omega) j hj⟩
   ·cases hb
 ·rename_i ki n len e s0 b0 z0 ht;have hvi:=hi.int;subst hvi;have hu:=(hty _ _ ht).tk;simp only[fG]at hu;split at hb
  ·cases hb
  ·rename_i te hte;have go:∀{y:V} {ext:Nat},(bif Nat.ble (len*te.size) ext then eE (decide (0≤n)&&decide (n<(len:Int))) y else none)=some (true,out)→len*te.size≤ext∧0≤n∧n<(len:Int)∧out={val:=y}:=by
    intro y ext hb;obtain⟨hw,hb⟩:=eA hb;obtain⟨hok,hout⟩:=vD hb;obtain⟨g0,g1⟩:=gB hok;exact⟨wF hw,by simpa using g0,by simpa using g1,hout⟩
   split at hb
   ·rename_i id off ext;obtain⟨g,g0,g1,hout⟩:=go hb;simp only[nA]at hx;obtain⟨b,m,C,R,h1,h2,rfl⟩:=hx;refine⟨_,[],_,hout,oN hty hte hu g0 g1,?_⟩;simp only[nA];refine⟨b,m,C,R,h1,?_,rfl⟩;rw[rB];have:=aP (w:=te.size) (show n.toNat<len by omega);omega
   ·rename_i k l off ext;obtain⟨g,g0,g1,hout⟩:=go hb;simp only[nA]at hx;obtain⟨b,o,rfl,h2,hr⟩:=hx;refine⟨_,[],_,hout,oN hty hte hu g0 g1,?_⟩;simp only[nA];refine⟨b,o,by rw[p0],?_,hr⟩;rw[rB];have:=aP (w:=te.size) (show n.toNat<len by omega);omega
   ·rename_i l i off ext;obtain⟨g,g0,g1,hout⟩:=go hb;simp only[nA]at hx;obtain⟨b,o,rfl,h2,hr⟩:=hx;refine⟨_,[],_,hout,oN hty hte hu g0 g1,?_⟩;simp only[nA];refine⟨b,o,by rw[p0],?_,hr⟩;rw[rB];have:=aP (w:=te.size) (show n.toNat<len by omega);omega
   ·cases hb
 ·cases hb
end
section
variable {P:Program}{F:Nat→Prop}{ρ:fC}{h:Nat→oA}{w:World}{nid:Nat}{ty:Nat→Option TI}{ev:Operand→V}{ae:Operand→Value}{out:jJ}{M:Nat→Prop}
theorem xt (s:ByteArray)(i:Nat)(hi:i<s.size):s[i]?=some s[i]∧(s[i].toNat:Int)=pG s i:=by
 refine⟨by simp[hi],?_⟩;unfold pG;have:s.data.toList.getD i 0=s[i]:=by
  have h1:i<s.data.toList.length:=by simpa using hi
  rw[zE,hS h1];rfl
 rw[this]
theorem qW:∀{k:IntKind} {cs:List V} {l:List Int},oI k cs=some l→cs=l.map (fun n=>.c (.int k n))
 |k,[],l,h=>by simp[oI]at h;subst h;rfl
 |k,x::r,l,h=>by
  cases x with
  |c y=>
   cases y with
   |int k' n=>simp only[oI]at h;obtain⟨hk,h1⟩:=eA h;have hkk:=yF hk;subst hkk;simp only[hQ]at h1;obtain⟨r',h2,rfl⟩:=h1;rw[qW h2];rfl
   |_=>simp[oI]at h
  |_=>simp[oI]at h
theorem nq (hty:eD P ty){t:Nat}{x i:V}{vx vi:Value}{out:jJ}(hx:nA ρ M w x vx)(hi:nA ρ M w i vi)(hb:cr ty t x i=some (true,out)):
  ∃y v,out={val:=y}∧(Instr.index t vx vi).run P w= .ok v w∧nA ρ M w y v:=by
 unfold cr at hb;split at hb
 ·rename_i ki n s0 b0 z0 s ht;have:=hi.int;subst this;have:=hx.c;subst this;have hu:=(hty _ _ ht).tk;simp only[fG]at hu;obtain⟨hok,hout⟩:=vD hb;obtain⟨g0,g1⟩:=gB hok;have g0:0≤n:=by simpa using g0
  have g1:n<(s.size:Int):=by simpa using g1
  obtain⟨h1,h2⟩:=xt s n.toNat (by omega);refine⟨_,_,hout,?_,nA.of_c _⟩;simp only[Instr.index,asIntOf,aE,hF,hB,run_underlying hu,if_pos g0,h1,h2]
 ·rename_i ki n len e s0 b0 z0 cs ht;have:=hi.int;subst this;have hu:=(hty _ _ ht).tk;simp only[fG]at hu;simp only[nA]at hx;obtain⟨xs,rfl,hx⟩:=hx;split at hb
  ·cases hb
  ·rename_i te hte;split at hb
   ·rename_i k l hint;obtain⟨h0,hb⟩:=eA hb;obtain⟨h01,h02⟩:=gB h0;have h01:=yA h01;have h02:=yA h02;obtain⟨hok,hout⟩:=vD hb;obtain⟨g0,g1⟩:=gB hok;have g0:0≤n:=by simpa using g0
    have g1:n<(len:Int):=by simpa using g1
    unfold ja at hint;split at hint
    ·rename_i k' htk;split at hint
     ·rename_i l' hl;simp only[hA,hD]at hint;obtain⟨rfl,rfl⟩:=hint;have hcs:=qW hl;have hlt:n.toNat<l'.length:=by omega
      have hr:bO (qO cs (n.toNat*te.size)) te.size=some [.c (.int k' (l'.getD n.toNat 0))]:=by rw[h02,yR,l5,hcs,←List.map_drop,x2 hlt];simp only[n3,bO,j4];simp[zE,hlt]
      obtain⟨v,c1,c2⟩:=dr (hty _ _ hte) (by omega) hx hr;refine⟨_,v,hout,?_,?_⟩
      ·simp only[Instr.index,asIntOf,aE,hF,hB,run_underlying hu,if_pos (And.intro g0 g1),(hty _ _ hte).sizeOf,c1]
      ·have hag:te.isAgg=false:=by unfold TI.isAgg;rw[htk]
       simpa only[xN,hag,cond_false]using c2
     ·cases hint
    ·cases hint
   split at hb
   ·cases hb
   ·rename_i r hr;obtain⟨h0,hb⟩:=eA hb;obtain⟨hok,hout⟩:=vD hb;obtain⟨g0,g1⟩:=gB hok;have g0:0≤n:=by simpa using g0
    have g1:n<(len:Int):=by simpa using g1
    obtain⟨v,c1,c2⟩:=dr (hty _ _ hte) (nC h0) hx hr;refine⟨_,v,hout,?_,c2⟩;simp only[Instr.index,asIntOf,aE,hF,hB,run_underlying hu,if_pos (And.intro g0 g1),(hty _ _ hte).sizeOf,c1]
 ·cases hb
theorem gD {k:IntKind}{i:Int}{y:Nat}(code:BoundsCode)(h0:0≤i)(h1:i≤(y:Int)):(Instr.sliceBound (.int k i) y code).run P w= .ok i.toNat w:=by
 simp only[Instr.sliceBound,asIntOf,aE,hF,hB,if_pos (And.intro h0 h1)]
def kJ (ρ:fC)(M:Nat→Prop)(w:World):Option V→Option Value→Prop
 |none,none=>True
 |some x,some v=>nA ρ M w x v
 |_,_=>False
theorem kJ.of {x:Option Operand}(he:∀x,nA ρ M w (ev x) (ae x)):kJ ρ M w (x.map ev) (x.map ae):=by
 cases x with
 |none=>trivial
 |some x=>exact he x
theorem oT {x:Option V}{v:Option Value}{d i:Int}(hx:xp x d=some i)(hr:kJ ρ M w x v):(x=none∧v=none∧i=d)∨∃k,x.isSome=true∧v=some (.int k i):=by
 unfold xp at hx;split at hx
 ·simp only[hA]at hx;cases v with
  |none=>exact .inl ⟨rfl,rfl,hx.symm⟩
  |some v=>exact hr.elim
 ·simp only[hA]at hx;subst hx;cases v with
  |none=>exact hr.elim
  |some v=>have hr':nA ρ M w _ v:=hr;have:=nA.int hr';subst this;exact .inr ⟨_,rfl,rfl⟩
 ·cases hx
theorem iD {lo hi mx:Option V}{vlo vhi vmx:Option Value}{n cap:Nat}{l h' m:Int}(isS:Bool)(hlo:xp lo 0=some l)(hhi:xp hi n=some h')(hmx:xp mx n=some m)
  (rlo:kJ ρ M w lo vlo)(rhi:kJ ρ M w hi vhi)(rmx:kJ ρ M w mx vmx)
  (hform:(hi.isNone&&mx.isSome)=false)(h0:0≤l)(h1:l≤h')(h2:h'≤m)(h3:m≤(n:Int))(hlc:n≤cap):
  ∃m':Nat,(Instr.sliceBounds isS n cap vlo vhi vmx).run P w= .ok (l.toNat,h'.toNat,m') w∧h'.toNat≤m'∧m'≤cap:=by
 rcases oT hlo rlo with⟨_,rfl,e1⟩|⟨k1,_,rfl⟩<;>rcases oT hhi rhi with⟨e5,rfl,e2⟩|⟨k2,_,rfl⟩<;>rcases oT hmx rmx with⟨_,rfl,e3⟩|⟨k3,e4,rfl⟩
 case inl.inl.inr=>subst e5;simp[e4]at hform
 case inr.inl.inr=>subst e5;simp[e4]at hform
 ·exact⟨cap,by simp[Instr.sliceBounds,e1,e2],by omega,hE _⟩
 ·exact⟨cap,by simp[Instr.sliceBounds,e1,gD _ (show 0≤h' by omega) (show h'≤(cap:Int) by omega)],by omega,hE _⟩
 ·exact⟨m.toNat,by simp[Instr.sliceBounds,e1,gD _ (show 0≤m by omega) (show m≤(cap:Int) by omega),gD _ (show 0≤h' by omega) (show h'≤(m.toNat:Int) by omega)],by omega,by omega⟩
 ·exact⟨cap,by simp[Instr.sliceBounds,e2,gD _ h0 (show l≤(n:Int) by omega)],by omega,hE _⟩
 ·exact⟨cap,by simp[Instr.sliceBounds,gD _ (show 0≤h' by omega) (show h'≤(cap:Int) by omega),gD _ h0 (show l≤(h'.toNat:Int) by omega)],by omega,hE _⟩
 ·exact⟨m.toNat,by simp[Instr.sliceBounds,gD _ (show 0≤m by omega) (show m≤(cap:Int) by omega),gD _ (show 0≤h' by omega) (show h'≤(m.toNat:Int) by omega),gD _ h0 (show l≤(h'.toNat:Int) by omega)],by omega,by omega⟩
theorem tT {a b c d:Bool}(h:(a&&b&&c&&d)=true):a=true∧b=true∧c=true∧d=true:=by
 simp only[hJ]at h;exact⟨h.1.1.1,h.1.1.2,h.1.2,h.2⟩
theorem uC {n w:Nat}(hw:0<w):n*w/w=n:=u4 n hw
theorem vk (hty:eD P ty)(hh:lA F ρ h w){t:Nat}{x:V}{vx:Value}{lo hi mx:Option V}{vlo vhi vmx:Option Value}{out:jJ}(hx:nA ρ (av F (gA ρ h)) w x vx)
  (rlo:kJ ρ (av F (gA ρ h)) w lo vlo)(rhi:kJ ρ (av F (gA ρ h)) w hi vhi)(rmx:kJ ρ (av F (gA ρ h)) w mx vmx)(hb:fU ty t x lo hi mx h=some (true,out)):
  ∃y tc v,out={val:=y,touch:=tc}∧(Instr.sliceAt t vx vlo vhi vmx).run P w= .ok v w∧nA ρ (av F (gA ρ h)) w y v:=by
 unfold fU at hb;split at hb
 ·cases hb
 rename_i ti ht;have hu:=(hty _ _ ht).tk;cases hform:(hi.isNone&&mx.isSome)with
 |true=>simp[hform]at hb
 |false=>
 simp only[hform,cond_false]at hb;split at hb
 ·
  split at hb
  ·rename_i n e id off ext htk hnl;rw[htk]at hu;simp only[fG]at hu;split at hb
   ·rename_i te l h' m hte hlo hhi hmx;obtain⟨hg,hb⟩:=eA hb;obtain⟨hg1,hg2⟩:=gB hg;obtain⟨hok,hout⟩:=vD hb;obtain⟨o1,o2,o3,o4⟩:=tT hok;simp only[decide_eq_true_eq]at o1 o2 o3 o4;have hle:=wF hg1;have hpos:=nC hg2;simp only[nA]at hx;obtain⟨b,nn,C,R,hp,hn,rfl⟩:=hx;obtain⟨m',r1,r2,r3⟩:=iD (P:=P) (cap:=n) false hlo hhi hmx rlo rhi rmx hform o1 o2 o3 o4 (hE _);refine⟨_,[],.slice (some (if m'=l.toNat then⟨b,off,none⟩else⟨b,off+l.toNat*te.size,none⟩)) (h'.toNat-l.toNat) (m'-l.toNat),hout,?_,?_⟩
    ·simp only[Instr.sliceAt,aE,run_underlying hu,hB,Instr.sureAddr,hF,r1,(hty _ _ hte).sizeOf,eH]
    ·simp only[nA];refine⟨hpos,?_⟩;by_cases hml:m'=l.toNat
     ·right;refine⟨by omega,?_⟩;simp only[hml,if_true,l3];exact⟨some ⟨b,off,none⟩,by congr 1;omega⟩
     ·left;refine⟨b,nn,C,R,m'-l.toNat,hp,?_,by omega,?_,by simp only[if_neg hml,rB]⟩
      ·rw[rB];have h1:(h'.toNat-l.toNat)*te.size+l.toNat*te.size=h'.toNat*te.size:=by rw[←hX];congr 1;omega
       have h2:h'.toNat*te.size≤n*te.size:=xK _ (by omega);omega
      ·rw[rB];have h1:(m'-l.toNat)*te.size+l.toNat*te.size=m'*te.size:=by rw[←hX];congr 1;omega
       have h2:m'*te.size≤n*te.size:=xK _ r3;have h3:=hh.wf _ _ hp;dsimp only at h3;omega
   ·cases hb
  ·cases hb
 ·rename_i len tc hlen;split at hb
  ·rename_i l h' m hlo hhi hmx;have kind:∀{ok:Bool},ok=(decide (0≤l)&&decide (l≤h')&&decide (h'≤m)&&decide (m≤(len:Int)))→ok=true→0≤l∧l≤h'∧h'≤m∧m≤(len:Int):=by
    intro ok e hok;rw[e]at hok;obtain⟨o1,o2,o3,o4⟩:=tT hok;simp only[decide_eq_true_eq]at o1 o2 o3 o4;exact⟨o1,o2,o3,o4⟩
   split at hb
   ·
    rename_i s htk;rw[htk]at hu;simp only[fG]at hu;have:=hx.c;subst this;simp only[gO,hA,hD]at hlen;obtain⟨rfl,_⟩:=hlen;split at hb
    ·obtain⟨hok,hout⟩:=vD hb;obtain⟨o1,o2,o3,o4⟩:=kind rfl hok;obtain⟨m',r1,r2,r3⟩:=iD (P:=P) (cap:=s.size) false hlo hhi hmx rlo rhi rmx hform o1 o2 o3 o4 (hE _);cases vmx with
     |some v=>exact rmx.elim
     |none=>refine⟨_,[],_,hout,?_,nA.of_c _⟩;simp only[Instr.sliceAt,Instr.slice,aE,run_underlying hu,hB];simp[r1]
    ·cases hb
   ·
    rename_i e id s htk;rw[htk]at hu;simp only[fG]at hu;split at hb
    ·rename_i te hte;obtain⟨hw,hb⟩:=eA hb;have hw:=yA hw;simp only[hA,hD]at hb;obtain⟨hok,hout⟩:=hb;obtain⟨o1,o2,o3,o4⟩:=kind rfl hok;obtain⟨a,c,hv,hlc⟩:=yX hh hx hlen (by intro s h;cases h);have hx':=hx;simp only[nA]at hx;obtain⟨h0,⟨b,n,C,R,cap,h1,h2,h3,h4,h5⟩|⟨R,h1,h2⟩⟩:=hx
     ·rw[h5]at hv;simp only[Value.slice.injEq]at hv;obtain⟨_,e1,e2⟩:=hv;subst e1;obtain⟨m',r1,r2,r3⟩:=iD (P:=P) (cap:=cap) true hlo hhi hmx rlo rhi rmx hform o1 o2 o3 o4 h3;subst h5;refine⟨_,tc,.slice (if m'=l.toNat then some ⟨b,0,none⟩else some ⟨b,0+l.toNat*te.size,none⟩) (h'.toNat-l.toNat) (m'-l.toNat),hout.symm,?_,?_⟩
      ·simp only[Instr.sliceAt,Instr.slice,aE,run_underlying hu,hB,hF,r1,(hty _ _ hte).sizeOf,j4,eH]
      ·simp only[nA];refine⟨h0,?_⟩;by_cases hml:m'=l.toNat
       ·right;exact⟨by omega,some ⟨b,0,none⟩,by simp only[hml,if_true,l3];congr 1;omega⟩
       ·left;have hn:n/s*s=n:=y0 (hY h2);refine⟨b,n,C,R,m'-l.toNat,h1,?_,by omega,?_,by simp only[if_neg hml,rB,hw,hN]⟩
        ·rw[rB];have h6:(h'.toNat-l.toNat)*s+l.toNat*s=h'.toNat*s:=by rw[←hX];congr 1;omega
         have h7:h'.toNat*s≤n/s*s:=xK _ (by omega);omega
        ·rw[rB];have h6:(m'-l.toNat)*s+l.toNat*s=m'*s:=by rw[←hX];congr 1;omega
         have h7:m'*s≤cap*s:=xK _ r3;omega
     ·subst h2;simp only[Value.slice.injEq]at hv;obtain⟨_,e1,e2⟩:=hv;subst e1;obtain⟨m',r1,r2,r3⟩:=iD (P:=P) (cap:=0) true hlo hhi hmx rlo rhi rmx hform o1 o2 o3 o4 (hE _);refine⟨_,tc,.slice none 0 0,hout.symm,?_,?_⟩
      ·have em:m'=0:=by omega
       have el:l.toNat=0:=by omega
       have eh:h'.toNat=0:=by omega
       simp only[Instr.sliceAt,Instr.slice,aE,run_underlying hu,hB,hF,r1,(hty _ _ hte).sizeOf,Option.map_none,em,el,eh];simp
      ·simp only[nA];exact⟨h0,.inr ⟨by omega,none,rfl⟩⟩
    ·cases hb
   ·
    rename_i e id s off len' htk;rw[htk]at hu;simp only[fG]at hu;split at hb
    ·rename_i te hte;obtain⟨hw,hb⟩:=eA hb;have hw:=yA hw;obtain⟨hok,hout⟩:=vD hb;obtain⟨o1,o2,o3,o4⟩:=kind rfl hok;simp only[gO,hA,hD]at hlen;obtain⟨rfl,_⟩:=hlen;simp only[nA]at hx;obtain⟨h0,⟨b,n,C,R,cap,h1,h2,h3,h4,h5⟩|⟨h1,a,h2⟩⟩:=hx
     ·obtain⟨m',r1,r2,r3⟩:=iD (P:=P) (cap:=cap) true hlo hhi hmx rlo rhi rmx hform o1 o2 o3 o4 h3;subst h5;refine⟨_,[],.slice (if m'=l.toNat then some ⟨b,off,none⟩else some ⟨b,off+l.toNat*te.size,none⟩) (h'.toNat-l.toNat) (m'-l.toNat),hout,?_,?_⟩
      ·simp only[Instr.sliceAt,Instr.slice,aE,run_underlying hu,hB,hF,r1,(hty _ _ hte).sizeOf,j4,eH]
      ·simp only[nA];refine⟨h0,?_⟩;by_cases hml:m'=l.toNat
       ·right;exact⟨by omega,some ⟨b,off,none⟩,by simp only[hml,if_true,l3];congr 1;omega⟩
       ·left;refine⟨b,n,C,R,m'-l.toNat,h1,?_,by omega,?_,by simp only[if_neg hml,rB,hw]⟩
        ·rw[rB];have h6:(h'.toNat-l.toNat)*s+l.toNat*s=h'.toNat*s:=by rw[←hX];congr 1;omega
         have h7:h'.toNat*s≤len'*s:=xK _ (by omega);omega
        ·rw[rB];have h6:(m'-l.toNat)*s+l.toNat*s=m'*s:=by rw[←hX];congr 1;omega
         have h7:m'*s≤cap*s:=xK _ r3;omega
     ·subst h1;subst h2;obtain⟨m',r1,r2,r3⟩:=iD (P:=P) (cap:=0) true hlo hhi hmx rlo rhi rmx hform o1 o2 o3 o4 (hE _);have em:m'=0:=by omega
      have el:l.toNat=0:=by omega
      have eh:h'.toNat=0:=by omega
      refine⟨_,[],.slice a 0 0,hout,?_,?_⟩
      ·simp only[Instr.sliceAt,Instr.slice,aE,run_underlying hu,hB,hF,r1,(hty _ _ hte).sizeOf,em,el,eh,if_true,l3]
      ·simp only[nA];exact⟨h0,.inr ⟨by omega,a,rfl⟩⟩
    ·cases hb
   ·
    rename_i e k s l0 htk;rw[htk]at hu;simp only[fG]at hu;split at hb
    ·rename_i te hte;obtain⟨hw,hb⟩:=eA hb;have hw:=yA hw;obtain⟨hok,hout⟩:=vD hb;obtain⟨o1,o2,o3,o4⟩:=kind rfl hok;simp only[gO,jE,hA,hD]at hlen;obtain⟨rfl,_⟩:=hlen;simp only[nA]at hx;obtain⟨h0,hmod,⟨h1,a,h2⟩|⟨b,o,cap,h2,h3,h4,h5,h6⟩⟩:=hx
     ·subst h1;subst h2;simp only[hV,r8]at*;obtain⟨m',r1,r2,r3⟩:=iD (P:=P) (cap:=0) true hlo hhi hmx rlo rhi rmx hform o1 o2 o3 o4 (hE _);have em:m'=0:=by omega
      have el:l.toNat=0:=by omega
      have eh:h'.toNat=0:=by omega
      refine⟨_,[],.slice a 0 0,hout,?_,?_⟩
      ·simp only[Instr.sliceAt,Instr.slice,aE,run_underlying hu,hB,hF,r1,(hty _ _ hte).sizeOf,em,el,eh,if_true,l3]
      ·simp only[nA];exact⟨h0,by simp,.inl ⟨by simp,a,rfl⟩⟩
     ·obtain⟨m',r1,r2,r3⟩:=iD (P:=P) (cap:=cap) true hlo hhi hmx rlo rhi rmx hform o1 o2 o3 o4 h3;subst h2;have hn:l0.length/s*s=l0.length:=y0 (hY hmod);have hl1:(h'.toNat-l.toNat)*s+l.toNat*s=h'.toNat*s:=by rw[←hX];congr 1;omega
      have hl2:h'.toNat*s≤l0.length/s*s:=xK _ (by omega);have hlen':((l0.drop (rH s l.toNat)).take (rH s (h'.toNat-l.toNat))).length=(h'.toNat-l.toNat)*s:=by simp only[rB,n5,c7];omega
      refine⟨_,[],.slice (if m'=l.toNat then some ⟨b,o,none⟩else some ⟨b,o+l.toNat*te.size,none⟩) (h'.toNat-l.toNat) (m'-l.toNat),hout,?_,?_⟩
      ·simp only[Instr.sliceAt,Instr.slice,aE,run_underlying hu,hB,hF,r1,(hty _ _ hte).sizeOf,j4,eH]
      ·simp only[nA];refine⟨h0,by rw[hlen'];exact p1 _ _,?_⟩;by_cases hml:m'=l.toNat
       ·left;have e0:h'.toNat-l.toNat=0:=by omega
        refine⟨hU.mp (by rw[hlen',e0];simp),some ⟨b,o,none⟩,by simp only[hml,if_true,l3];congr 1⟩
       ·right;refine⟨b,o+l.toNat*s,m'-l.toNat,by rw[hlen',uC h0,if_neg hml,hw],by rw[hlen',uC h0];omega,h4,h5,fun j hj=>?_⟩;rw[hlen']at hj;rw[p0,h6 (l.toNat*s+j) (by omega)];simp only[rB,zE,o0,if_pos hj,x1]
    ·cases hb
   ·
    rename_i e htk;rw[htk]at hu;simp only[fG]at hu;split at hb
    ·rename_i te hte;obtain⟨hok,hout⟩:=vD hb;obtain⟨o1,o2,o3,o4⟩:=kind rfl hok;simp only[gO,hA,hD]at hlen;obtain⟨rfl,_⟩:=hlen;have:=hx.c;subst this;obtain⟨m',r1,r2,r3⟩:=iD (P:=P) (cap:=0) true hlo hhi hmx rlo rhi rmx hform o1 o2 o3 o4 (hE _);have em:m'=0:=by omega
     have el:l.toNat=0:=by omega
     have eh:h'.toNat=0:=by omega
     refine⟨_,[],.slice none 0 0,hout,?_,nA.of_c _⟩;simp only[Instr.sliceAt,Instr.slice,aE,run_underlying hu,hB,hF,r1,(hty _ _ hte).sizeOf,em,el,eh,if_true,l3]
    ·cases hb
   ·cases hb
  ·cases hb
end
section
variable {P:Program}{F:Nat→Prop}{ρ:fC}{h:Nat→oA}{w:World}{nid:Nat}{ty:Nat→Option TI}{ev:Operand→V}{ae:Operand→Value}{out:jJ}{M:Nat→Prop}
theorem jv (hh:lA F ρ h w){x:V}{vx:Value}{k:IntKind}{s:Nat}{l:List Int}{tc:List Nat}(hx:nA ρ (av F (gA ρ h)) w x vx)(hr:uY h x=some (k,s,l,tc)):
  0<s∧∃a len cap,vx= .slice a len cap∧l.length=len*s∧len≤cap∧(l=[]∨∃b o,a=some ⟨b,o,none⟩∧∀j,j<l.length→w.cell? ⟨b,o+j,none⟩=some (.int k (l.getD j 0))):=by
 unfold uY at hr;split at hr
 ·rename_i id s';split at hr
  ·rename_i k' l' hid;simp only[hA,hD]at hr;obtain⟨rfl,rfl,rfl,_⟩:=hr;obtain⟨h0,⟨b,n,C,R,cap,c,h1,h2,h3,h4,h5,ho,hsz,hold⟩|⟨R,h1,h2,hk⟩⟩:=sF hh hx (by rw[hid];trivial) (by rw[hid];trivial)
   ·rw[hid]at hold;obtain⟨e1,e2,e3⟩:=hold;have hn:n/s'*s'=n:=y0 (hY h2);exact⟨h0,_,_,_,h5,by omega,h3,.inr ⟨b,0,rfl,fun j hj=>by rw[hN,ho.cell];exact e3 j hj⟩⟩
   ·rw[hid]at hk;rcases hk with⟨k2,hk⟩|hk|⟨_,hk⟩|⟨_,_,hk⟩<;>cases hk;exact⟨h0,_,_,_,h2,by simp,hE _,.inl rfl⟩
  ·cases hr
 ·rename_i id s' off len;split at hr
  ·rename_i k' l' hid;simp only[hA,hD]at hr;obtain⟨rfl,rfl,rfl,_⟩:=hr;simp only[nA]at hx;obtain⟨h0,⟨b,n,C,R,cap,h1,h2,h3,h4,h5⟩|⟨h1,a,h2⟩⟩:=hx
   ·obtain⟨c,ho,hsz,hold⟩:=hh.own (by rw[hid];trivial) (by rw[hid];trivial) h1;rw[hid]at hold;obtain⟨e1,e2,e3⟩:=hold;have hl:((l'.drop off).take (rH s' len)).length=len*s':=by simp only[rB,n5,c7];omega
    refine⟨h0,_,_,_,h5,hl,h3,.inr ⟨b,off,rfl,fun j hj=>?_⟩⟩;rw[hl]at hj;rw[ho.cell,e3 (off+j) (by omega)];simp only[rB,zE,o0,if_pos hj,x1]
   ·subst h1;refine⟨h0,a,0,0,h2,by simp[rB],hE _,.inl (by simp[rB])⟩
  ·cases hr
 ·rename_i k' s' l';simp only[hA,hD]at hr;obtain⟨rfl,rfl,rfl,_⟩:=hr;simp only[nA]at hx;obtain⟨h0,h1,⟨h2,a,h3⟩|⟨b,o,cap,h2,h3,_,_,h4⟩⟩:=hx
  ·exact⟨h0,a,0,0,h3,by rw[h2];simp,hE _,.inl h2⟩
  ·exact⟨h0,_,_,_,h2,(y0 (hY h1)).symm,h3,.inr ⟨b,o,rfl,h4⟩⟩
 ·cases hr
theorem E1 (hh:lA F ρ h w){x:V}{vx:Value}{s:Nat}{l:List V}{tc:List Nat}(hx:nA ρ (av F (gA ρ h)) w x vx)(hr:jw h x=some (s,l,tc)):
  0<s∧∃a len cap cs,vx= .slice a len cap∧l.length=len*s∧len≤cap∧iA ρ (av F (gA ρ h)) w l cs∧(l=[]∨∃b o,a=some ⟨b,o,none⟩∧∀j,j<l.length→w.cell? ⟨b,o+j,none⟩=cs[j]?):=by
 unfold jw at hr;split at hr
 ·rename_i id s';split at hr
  ·rename_i l' hid;simp only[hA,hD]at hr;obtain⟨rfl,rfl,_⟩:=hr;obtain⟨h0,⟨b,n,C,R,cap,c,h1,h2,h3,h4,h5,ho,hsz,hold⟩|⟨R,h1,h2,hk⟩⟩:=sF hh hx (by rw[hid];trivial) (by rw[hid];trivial)
   ·rw[hid]at hold;obtain⟨e1,e2,e3⟩:=hold;have hn:n/s'*s'=n:=y0 (hY h2);exact⟨h0,_,_,_,_,h5,by omega,h3,e3,.inr ⟨b,0,rfl,fun j hj=>by rw[hN,ho.cell];simp[o0,show j<n by omega]⟩⟩
   ·rw[hid]at hk;rcases hk with⟨k2,hk⟩|hk|⟨_,hk⟩|⟨_,_,hk⟩<;>cases hk;exact⟨h0,_,_,_,[],h2,by simp,hE _,by simp[iA],.inl rfl⟩
  ·cases hr
 ·cases hr
theorem tK {a:Option Addr}{len cap s n:Nat}{vs:List Value}(hl:vs.length=n*s)(hc:vs=[]∨∃b o,a=some ⟨b,o,none⟩∧∀j,j<vs.length→w.cell? ⟨b,o+j,none⟩=vs[j]?)(hn:a=none→vs=[]):
  (Builtin.firstCells s n (.slice a len cap)).run P w= .ok vs.toArray w:=by
 cases a with
 |none=>rw[hn rfl];simp[Builtin.firstCells]
 |some a=>
  rcases hc with hc|⟨b,o,h1,h2⟩
  ·subst hc;simp only[hV]at hl;simp[Builtin.firstCells,loadCells,←hl,loadCellsFrom]
  ·simp only[hA]at h1;subst h1;have:=eI (P:=P) (w:=w) (b:=b) (o:=o) (n*s) 0 #[] vs hl (fun j hj=>by rw[hN];exact h2 j (by omega));simp only[Builtin.firstCells,loadCells,this];simp
theorem oX (k:IntKind)(l:List Int){j:Nat}(hj:j<l.length):(l.map (Value.int k))[j]?=some (.int k (l.getD j 0)):=by
 simp[zE,hj]
theorem dR (hh:lA F ρ h w){x:V}{vx:Value}{k:IntKind}{s:Nat}{l:List Int}{tc:List Nat}(hs:0<s)(hx:nA ρ (av F (gA ρ h)) w x vx)(hr:yJ h k s x=some (l,tc)):
  ∃n,(Builtin.lenOf vx).run P w= .ok n w∧l.length=n*s∧∀n',n'≤n→(Builtin.firstCells s n' vx).run P w= .ok ((l.take (n'*s)).map (Value.int k)).toArray w:=by
 unfold yJ at hr;split at hr
 ·simp only[hA,hD]at hr;obtain⟨rfl,_⟩:=hr;have:=hx.c;subst this;exact⟨0,by simp[Builtin.lenOf],by simp,fun n' hn'=>by simp[Builtin.firstCells]⟩
 ·rename_i b;obtain⟨hk,hr⟩:=eA hr;obtain⟨hk1,hk2⟩:=gB hk;have hk1:=yF hk1;have hk2:=yA hk2;simp only[hA,hD]at hr;obtain⟨rfl,_⟩:=hr;have:=hx.c;subst this;subst hk1;subst hk2;refine⟨b.size,by simp[Builtin.lenOf],by simp[rG],fun n' hn'=>?_⟩;simp only[Builtin.firstCells,hF,l5];congr 1;apply Array.ext';simp[rG,y7];rfl
 ·split at hr
  ·rename_i k' s' l' t' hrow;obtain⟨hk,hr⟩:=eA hr;obtain⟨hk1,hk2⟩:=gB hk;have hk1:=yF hk1;have hk2:=yA hk2;simp only[hA,hD]at hr;obtain⟨rfl,_⟩:=hr;subst hk1;subst hk2;obtain⟨_,a,len,cap,rfl,h2,h3,h4⟩:=jv hh hx hrow;refine⟨len,by simp[Builtin.lenOf],h2,fun n' hn'=>?_⟩;have hle:n'*s'≤len*s':=xK _ hn';refine tK (by simp;omega) ?_ ?_
   ·rcases h4 with h4|⟨b,o,h4,h5⟩
    ·subst h4;left;simp
    ·right;refine⟨b,o,h4,fun j hj=>?_⟩;simp at hj;rw[h5 j (by omega),y7,hK (by omega),oX k l' (by omega)]
   ·intro ha;rcases h4 with h4|⟨b,o,h4,h5⟩
    ·subst h4;simp
    ·rw[ha]at h4;cases h4
  ·cases hr
theorem y5 {k:IntKind}:∀{cs:List V} {l:List Int} {vs:List Value},oI k cs=some l→iA ρ M w cs vs→vs=l.map (.int k)
 | [],l,[],h,_=>by simp[oI]at h;subst h;rfl
 | [],_,_::_,_,h=>by simp[iA]at h
 |_::_,_,[],_,h=>by simp[iA]at h
 |x::cs,l,v::vs,h,hr=>by
  simp only[iA]at hr;cases x with
  |c y=>
   cases y with
   |int k' n=>simp only[oI]at h;obtain⟨hk,h1⟩:=eA h;have hkk:=yF hk;subst hkk;simp only[hQ]at h1;obtain⟨r,h2,rfl⟩:=h1;have:=hr.1.int;subst this;rw[y5 h2 hr.2];rfl
   |_=>simp[oI]at h
  |_=>simp[oI]at h
theorem jl {ti:TI}{cs:List V}{b:oA}{c:Array Value}(hm:jk ti cs=some b)(hr:iA ρ M w cs c.toList):rC ρ M w cs.length c b:=by
 unfold jk at hm;have hlen:=hr.length;split at hm
 ·rename_i k hk;simp only[hQ]at hm;obtain⟨l,h1,rfl⟩:=hm;have h2:=y5 h1 hr;have h3:l.length=c.size:=by have:=congrArg List.length h2;simpa using this.symm
  refine⟨by simp at hlen;omega,by simp at hlen;omega,fun i hi=>?_⟩;have:c[i]?=(c.toList)[i]?:=by simp
  rw[this,h2];simp[zE,hi]
 ·simp only[hA]at hm;subst hm;refine⟨rfl,by simp at hlen;omega,?_⟩;rw[u0 (by omega)];exact hr
theorem jt (l:List V):∀n,(yZ n l).length=n*l.length
 |0=>by simp[yZ]
 |n+1=>by simp[yZ,jt l n,b6,a6]
theorem xP {zero:Array Value}(hz:0<zero.size):∀n,((Array.range (n*zero.size)).map (zero[· %zero.size]!)).toList=(hP n zero.toList).flatten
 |0=>by simp
 |n+1=>by
  have ih:=xP hz n;apply w4;intro j;rw[List.replicate_succ',List.flatten_append];simp only[b5,List.flatten_nil,List.append_nil];by_cases h1:j<n*zero.size
  ·rw[hG (by rw[←ih];simp;exact h1),←ih];simp[h1,show j<(n+1)*zero.size by rw[b6];omega]
  ·rw[hI (by rw[←ih];simp;omega),←ih];simp only[Array.toList_map,x3,e6,x6];by_cases h2:j<(n+1)*zero.size
   ·have h3:j-n*zero.size<zero.size:=by rw[b6]at h2;omega
    have h4:j%zero.size=j-n*zero.size:=by
     have:j=(j-n*zero.size)+zero.size*n:=by rw[Nat.mul_comm zero.size n];omega
     rw[this,Nat.add_mul_mod_self_left,Nat.mod_eq_of_lt h3];have:zero.size*n=n*zero.size:=Nat.mul_comm _ _;omega
    simp only[p2];have:(Array.range ((n+1)*zero.size)).toList[j]?=some j:=by simp[h2]
    rw[this];simp[h4,h3]
   ·have h3:¬j-n*zero.size<zero.size:=by rw[b6]at h2;omega
    rw[x0 (by simp;omega),x0 (by simp;omega)]
theorem ju {cs:List V}{vs:List Value}(hr:iA ρ M w cs vs):∀n,iA ρ M w (yZ n cs) (hP n vs).flatten
 |0=>by simp[yZ,iA]
 |n+1=>by rw[r0,b5];exact hr.append (ju hr n)
theorem o8 {pl:Nat→Option (Nat×Nat)}:∀(ps:List (Nat×V)) (cs r:List V),mK pl cs ps=some r→r.length=cs.length
 | [],cs,r,h=>by simp[mK]at h;subst h;rfl
 |(i,v)::ps,cs,r,h=>by
  simp only[mK]at h;split at h
  ·cases h
  ·split at h
   ·rename_i vs hvs;obtain⟨hg,h⟩:=eA h;obtain⟨hg1,hg2⟩:=gB hg;have hpos:=nC hg2;have he:=yA hg1;split at h
    ·rename_i cs' hcs;obtain⟨h3,h4⟩:=uK hcs;have:=h4 (by rintro rfl;simp at he;omega);rw[o8 ps cs' r h,h3];simp;omega
    ·cases h
   ·cases h
theorem rZ (hty:eD P ty)(hh:lA F ρ h w)(hn:ρ nid=none)(he:∀x,nA ρ (av F (gA ρ h)) w (ev x) (ae x)){t e len:Nat}{ti te:TI}{ps:Array (Nat×Operand)}{cs:List V}{b:oA}(ht:ty t=some ti)(htk:ti.tk= .slice e)(hte:ty e=some te)
  (hg:(Nat.ble (len*te.size) 16777216&&Nat.blt 0 te.size)=true)(hf:mK (fun i=>some (i*te.size,te.size)) (yZ len (bH te)) (ps.toList.map fun p=>(p.1,ev p.2))=some cs)(hm:jk te cs=some b):
  gF F ρ h w nid {val:=.sw nid te.size,new:=[b]} ((do pure (.value (←Instr.buildSlice t len (ps.map fun(i,x)=>(i,ae x)))):Sem Next).run P w):=by
 have h0:=hty _ _ hte;have hu:=(hty _ _ ht).tk;rw[htk]at hu;simp only[fG]at hu;obtain⟨hg1,hg2⟩:=gB hg;have hle:=wF hg1;have hs:=nC hg2;obtain⟨z,z1,z2⟩:=h0.zeroValue (w:=w);have hzl:z.cells.size=te.size:=by have:=congrArg List.length z2;simp at this;rw[this,h0.zlen]
 generalize hzc:(if len*te.size=0 then #[]else z.cells)=zc;have hz:iA ρ (av F (gA ρ h)) w (yZ len (bH te)) ((Array.range (len*te.size)).map (zc[· %zc.size]!)).toList:=by
  by_cases h0:len*te.size=0
  ·have hl0:len=0:=by
    rcases l7.mp h0 with h|h
    ·exact h
    ·omega
   subst hl0;simp[yZ,iA]
  ·rw[if_neg h0]at hzc;subst hzc;rw[←hzl,xP (by omega),z2];exact ju (iA.map_c _) len
 obtain⟨ys,c1,c2⟩:=eS (pl':=fun i=>some (i*te.size,te.size)) (fun i p hp=>hp) _ (ps.toList.map fun p=>(p.1,ae p.2)) _ _ _ hf hz (by simp) (cg he ps.toList);have hps:(ps.map fun(i,x)=>(i,ae x)).toList=ps.toList.map fun p=>(p.1,ae p.2):=by simp
 have hold:=jl hm c2;have hcl:cs.length=len*te.size:=by rw[o8 _ _ _ hf,jt];simp[bH,h0.zlen]
 rw[hcl]at hold;refine gF.made (c:=ys) (e:=e) (fr:=(0,0)) (n:=len*te.size) (w':={w with heap:=w.heap.push (.cells ys e)}) hh hn (fun i _=>by dsimp only;omega) hold rfl (v:=.slice (some ⟨w.heap.size,0,none⟩) len len) ?_ ?_
 ·have hbig:¬(len*te.size>2^24):=by omega
  rw[←hps]at c1;by_cases hne:len*te.size=0
  ·rw[if_pos hne]at hzc;subst hzc;simp only[Instr.buildSlice,aE,run_underlying hu,hB,h0.sizeOf,if_neg hbig,if_pos hne,z1,hF,j6];simp only[c1,newRow,aE,run_newObj,hB,hF]
  ·rw[if_neg hne]at hzc;subst hzc;simp only[Instr.buildSlice,aE,run_underlying hu,hB,h0.sizeOf,if_neg hbig,if_neg hne,z1,hF,j6];simp only[c1,newRow,aE,run_newObj,hB,hF]
 ·intro ρ' M' w'' hp;simp only[nA];have hys:=c2.length;simp at hys;exact⟨hs,.inl ⟨_,_,_,_,len,hp,p1 _ _,by rw[uC hs];exact hE _,by omega,by rw[uC hs]⟩⟩
theorem Em {n:Int}(h0:0≤n)(h1:n≤9223372036854775807):IntKind.i64.wrap n=n:=by
 have e0:(2:Int)^IntKind.i64.bits=18446744073709551616:=by decide
 have eb:(2:Int)^(IntKind.i64.bits-1)=9223372036854775808:=by decide
 have e:n%2^IntKind.i64.bits=n:=Int.emod_eq_of_lt h0 (by rw[e0];omega);unfold IntKind.wrap;simp only[e];rw[if_neg];simp only[hJ,decide_eq_true_eq,not_and];intro _;rw[eb];omega
theorem tz {ti:TI}{k:IntKind}(hh:tZ ti=some k)(hz:ti.zero.all (fun| .int _ z=>z==0|_=>false)=true):∀v∈ti.zero,v= .int k 0:=by
 unfold tZ at hh;split at hh
 ·rename_i k0 n0 r hr;obtain⟨h1,h2⟩:=eA hh;simp only[hA]at h2;subst h2;intro v hv;have hv0:=a7.mp hz v hv;rw[hr]at hv;rcases p3.mp hv with rfl|hv
  ·simp at hv0;rw[hv0]
  ·have:=a7.mp h1 v hv;cases v with
   |int k' n'=>simp only at this hv0;have hk:=yF this;simp at hv0;rw[hk,hv0]
   |_=>simp at hv0
 ·cases hh
theorem wY (hty:eD P ty){t e:Nat}{ti te:TI}{n m:Int}(ht:ty t=some ti)(htk:ti.tk= .slice e)(hte:ty e=some te)(hs:0<te.size)
  (hg:(decide (n=m)&&decide (0≤n)&&decide (n≤9223372036854775807)&&lB n.toNat te.bytes)=true):
  ∃z:Array Value,z.toList=te.zero∧z.size=te.size∧
   ((do pure (.value (←Instr.makeSlice t (.int .i64 n) (.int .i64 m))):Sem Next).run P w)= .ok (.value (.slice (some ⟨w.heap.size,0,none⟩) n.toNat n.toNat)) {w with heap:=w.heap.push (.cells ((Array.range (n.toNat*te.size)).map (z[· %z.size]!)) e)}:=by
 have h0:=hty _ _ hte;have hu:=(hty _ _ ht).tk;rw[htk]at hu;simp only[fG]at hu;obtain⟨o1,o2,o3,o4⟩:=tT hg;simp only[decide_eq_true_eq,lB]at o1 o2 o3 o4;subst o1;obtain⟨z,z1,z2⟩:=h0.zeroValue (w:=w);obtain⟨inf,i1,i2,i3⟩:=h0.typeInfo (w:=w);have hzl:z.cells.size=te.size:=by have:=congrArg List.length z2;simp at this;rw[this,h0.zlen]
 refine⟨z.cells,z2,hzl,?_⟩;have hw:=Em o2 o3;have hsmall:¬(decide (n<0)||decide ((te.bytes:Int)*n>2^48))=true:=by
  have h1:¬n<0:=by omega
  have h2:(te.bytes:Int)*n≤70368744177664:=by have:((n.toNat*te.bytes:Nat):Int)≤70368744177664:=Int.ofNat_le.mpr o4;rw[Int.natCast_mul,Int.toNat_of_nonneg o2,Int.mul_comm]at this;exact this
  simp only[Bool.or_eq_true,decide_eq_true_eq,not_or];exact⟨h1,by omega⟩
 have hor:¬((decide (n<0)||decide ((te.bytes:Int)*n>2^48))||decide (n<0)||decide (n>n))=true:=by simp only[Bool.or_eq_true,decide_eq_true_eq,not_or]at hsmall⊢;omega
 simp only[Instr.makeSlice,aE,run_underlying hu,hB,asInt,asIntOf,hF,i1,i2,hw,if_neg hor,run_askRoom,h0.sizeOf,newRow,run_newObj,j6];by_cases hz0:n.toNat*te.size=0
 ·have he:∀f:Nat→Value,(Array.range (n.toNat*te.size)).map f= #[]:=by intro f;rw[hz0];simp
  rw[if_pos hz0,he,he];rfl
 ·rw[if_neg hz0,z1];rfl
theorem zu {te:TI}(hl:te.zero.length=te.size){k:IntKind}(hk:tZ te=some k):0<te.size:=by
 rw[←hl];unfold tZ at hk;split at hk
 ·rename_i hr;rw[hr];simp
 ·cases hk
theorem vf {M:Nat→Prop}{te:TI}{r:RK}(hr:Dz te=some r):iA ρ M w (r.cells r.z) te.zero:=by
 unfold Dz at hr;split at hr
 ·rename_i k z hz;obtain⟨h1,h2⟩:=eA hr;obtain rfl:=yK h2;rw[hz];have:z=0:=by simpa using h1
  subst this;simp only[RK.cells,RK.z,iA,and_true];exact nA.of_c _
 ·rename_i b hz;cases b<;>simp only[cond_true,cond_false]at hr
  ·obtain rfl:=yK hr;rw[hz];simp only[RK.cells,RK.z,iA,and_true];refine⟨nA.of_c _,?_⟩;simp only[nA];exact⟨by decide,by simp,.inl ⟨by simp,none,rfl⟩⟩
  ·cases hr
 ·rename_i b hz;cases b<;>simp only[cond_true,cond_false]at hr
  ·obtain rfl:=yK hr;rw[hz];simp only[RK.cells,RK.z,iA,and_true];refine⟨nA.of_c _,?_,?_⟩<;>
   ·simp only[nA];exact⟨by decide,by simp,.inl ⟨by simp,none,rfl⟩⟩
  ·cases hr
 ·rename_i k z hz;obtain⟨h1,h2⟩:=eA hr;obtain rfl:=yK h2;obtain⟨h3,h4⟩:=gB h1;have e:=yF h3;subst e;have:z=0:=by simpa using h4
  subst this;rw[hz];simp only[RK.cells,RK.z,iA,and_true];refine⟨?_,nA.of_c _⟩;simp only[nA];exact⟨by decide,by simp,.inl ⟨by simp,none,rfl⟩⟩
 ·cases hr
theorem uO {M:Nat→Prop}{r:RK}{vs:List Value}(hr:iA ρ M w (r.cells r.z) vs):∀n,iA ρ M w (r.flat (hP n r.z)) (hP n vs).flatten
 |0=>by simp[RK.flat,iA]
 |n+1=>by rw[r0,r0,b5,RK.flat_cons];exact hr.append (uO hr n)
theorem C6 (h:Nat→oA)(nid:Nat)(a b:oA):pe h nid [a,b]=oB (oB h (nid+1) b) nid a:=by
 funext j;simp only[pe,oB];by_cases h1:j=nid
 ·subst h1;simp
 ·by_cases h2:j=nid+1
  ·subst h2;simp
  ·simp[h1,h2]
theorem A9 (hty:eD P ty)(hh:lA F ρ h w){t e:Nat}{ti te:TI}{n m:Int}{v:V}{bs:List oA}(hn:∀id,nid≤id→id<nid+bs.length→ρ id=none)(ht:ty t=some ti)(htk:ti.tk= .slice e)(hte:ty e=some te)(hm:A8 ty nid te n.toNat=some (v,bs))
  (hg:(decide (n=m)&&decide (0≤n)&&decide (n≤9223372036854775807)&&lB n.toNat te.bytes)=true):
  gF F ρ h w nid {val:=v,new:=bs} ((do pure (.value (←Instr.makeSlice t (.int .i64 n) (.int .i64 m))):Sem Next).run P w):=by
 have h0:=hty _ _ hte;unfold A8 at hm;split at hm
 ·rename_i k hk;obtain⟨hz,hm⟩:=eA hm;simp only[hA,hD]at hm;obtain⟨rfl,rfl⟩:=hm;have hs:=zu h0.zlen hk;obtain⟨z,z2,hzl,hrun⟩:=wY (P:=P) (w:=w) hty ht htk hte hs hg;have hcells:∀j,j<n.toNat*te.size→(((Array.range (n.toNat*te.size)).map (z[· %z.size]!)))[j]?=some (.int k 0):=by
   intro j hj;have hlt:j%z.size<z.size:=Nat.mod_lt _ (by omega);have hmem:z[j%z.size]∈te.zero:=by rw[←z2];exact Array.mem_toList_iff.mpr (Array.getElem_mem hlt)
   have:=tz hk hz _ hmem;have e1:(Array.range (n.toNat*te.size))[j]?=some j:=by simp[hj]
   rw[Array.getElem?_map,e1];simp only[j4];rw[getElem!_pos z (j%z.size) hlt,this]
  refine gF.made (c:=(Array.range (n.toNat*te.size)).map (z[· %z.size]!)) (e:=e) (fr:=(0,0)) (n:=n.toNat*te.size) hh (hn nid (hE _) (by simp)) (fun i _=>by dsimp only;omega) ?_ rfl hrun ?_
  ·refine⟨by rw[s5,rB],by rw[Array.size_map,x6];exact hE _,fun i hi=>?_⟩;simp only[rB,s5]at hi;rw[hcells i hi];simp[rB,zE,List.getElem?_replicate,hi]
  ·intro ρ' M' w'' hp;simp only[nA];exact⟨hs,.inl ⟨_,_,_,_,n.toNat,hp,p1 _ _,by rw[uC hs];exact hE _,by simp,by rw[uC hs]⟩⟩
 ·split at hm
  ·rename_i r hr;obtain⟨hz,hm⟩:=eA hm;have hz:=yA hz;simp only[hA,hD]at hm;obtain⟨rfl,rfl⟩:=hm;have hs:0<te.size:=by rw[hz];exact r.w_pos
   obtain⟨z,z2,hzl,hrun⟩:=wY (P:=P) (w:=w) hty ht htk hte hs hg;refine gF.made (c:=(Array.range (n.toNat*te.size)).map (z[· %z.size]!)) (e:=e) (fr:=(0,0)) (n:=n.toNat*te.size) hh (hn nid (hE _) (by simp)) (fun i _=>by dsimp only;omega) ?_ rfl hrun ?_
   ·refine⟨by rw[RK.flat_len,s5,hz],by rw[Array.size_map,x6];exact hE _,?_⟩;rw[u0 (by simp),←hzl,xP (by omega),z2];exact uO (vf hr) _
   ·intro ρ' M' w'' hp;simp only[nA];exact⟨hs,.inl ⟨_,_,_,_,n.toNat,hp,p1 _ _,by rw[uC hs];exact hE _,by simp,by rw[uC hs]⟩⟩
  ·split at hm
   ·rename_i e2 hsl hzero;split at hm
    ·rename_i t2 ht2;split at hm
     ·rename_i r hr;obtain⟨hz,hm⟩:=eA hm;obtain⟨hz,hz2⟩:=gB hz;have hz:=yA hz;simp only[hA,hD]at hm;obtain⟨rfl,rfl⟩:=hm;have hs:0<te.size:=by rw[hz];exact Nat.one_pos
      obtain⟨z,z2,hzl,hrun⟩:=wY (P:=P) (w:=w) hty ht htk hte hs hg;have hn1:=hn (nid+1) (by omega) (by simp);have hn0:=hn nid (hE _) (by simp);obtain⟨v1,v2⟩:=hh.virtual' (nid:=nid+1) hn1 (x:=.pool r [[]]) (p:=⟨none,0,0,[⟨none,0,0⟩]⟩) (hE _) (fun b hb=>by
        obtain⟨q,hq,hb⟩:=hb;simp only[List.mem_singleton]at hq;subst hq;cases hb) (fun ρ M=>by
        refine⟨rfl,rfl,rfl,rfl,fun q pl l hq hl=>?_,fun q q' pl pl' b hq hq' hb hb'=>?_⟩
        ·cases q with
         |zero=>simp at hq hl;subst hq;subst hl;exact⟨rfl,.inl ⟨rfl,rfl,rfl⟩⟩
         |succ q=>simp at hq
        ·cases q with
         |zero=>simp at hq;subst hq;cases hb
         |succ q=>simp at hq)
      generalize hρ1:fE ρ (nid+1) ⟨none,0,0,[⟨none,0,0⟩]⟩=ρ1 at v1 v2;have hpid:ρ1 (nid+1)=some ⟨none,0,0,[⟨none,0,0⟩]⟩:=by rw[←hρ1];exact lC _ _
      have hρ1n:ρ1 nid=none:=by rw[←hρ1,tC _ (by omega)];exact hn0
      have hrow:∀k,iA ρ1 (av F (gA ρ1 (oB h (nid+1) (.pool r [[]])))) w (cL r.w (nid+1) (hP k 0)) (hP k (Value.slice none 0 0)):=by
       intro k;induction k with
       |zero=>simp[cL,iA]
       |succ k ih=>rw[r0,r0];simp only[cL,n3,iA];refine⟨?_,ih⟩;simp only[nA];exact⟨r.w_pos,_,⟨none,0,0⟩,hpid,rfl,.inr ⟨rfl,rfl,rfl⟩⟩
      have hcs:((Array.range (n.toNat*te.size)).map (z[· %z.size]!)).toList=hP n.toNat (Value.slice none 0 0):=by
       rw[←hzl,xP (by omega),z2,hzero];generalize n.toNat=k;induction k with
       |zero=>rfl
       |succ k ih=>rw[r0,r0,b5,ih];rfl
      obtain⟨q1,q2⟩:=v1.alloc (nid:=nid) hρ1n (c:=(Array.range (n.toNat*te.size)).map (z[· %z.size]!)) (e:=e) (fr:=(0,0)) (n:=n.toNat*te.size) (x:=.po r.w (nid+1) (hP n.toNat 0)) (fun i _=>by dsimp only;omega) (by refine⟨by simp[cL,hz],by simp,?_⟩;rw[u0 (by simp),hcs];exact hrow _) (w':={w with heap:=w.heap.push (.cells ((Array.range (n.toNat*te.size)).map (z[· %z.size]!)) e)}) ⟨rfl,rfl,rfl,hE _⟩ rfl;refine⟨_,_,fE ρ1 nid ⟨some w.heap.size,n.toNat*te.size,((Array.range (n.toNat*te.size)).map (z[· %z.size]!)).size,[]⟩,.inl hrun,(by rw[←hρ1];exact qF hn1:iI ρ ρ1).trans (qF hρ1n),fun id hid hno=>?_,?_,?_,?_⟩
      ·simp only[hT,hV]at hid;rw[tC _ (by omega),←hρ1,tC _ (by omega)];exact hno
      ·have e:cJ h nid {val:=.sw nid 1,new:=[.po r.w (nid+1) (hP n.toNat 0),.pool r [[]]]}=oB (oB h (nid+1) (.pool r [[]])) nid (.po r.w (nid+1) (hP n.toNat 0)):=C6 _ _ _ _;rw[e];exact q1
      ·simp only[nA];refine⟨Nat.one_pos,.inl ⟨_,_,_,_,n.toNat,lC _ _,Nat.mod_one _,?_,?_,?_⟩⟩
       ·rw[hz];simp
       ·rw[hz];simp
       ·rw[hz];simp
      ·have e:cJ h nid {val:=.sw nid 1,new:=[.po r.w (nid+1) (hP n.toNat 0),.pool r [[]]]}=oB (oB h (nid+1) (.pool r [[]])) nid (.po r.w (nid+1) (hP n.toNat 0)):=C6 _ _ _ _;rw[e];exact v2.trans q2
     ·cases hm
    ·cases hm
   ·cases hm
end
section
variable {P:Program}{F:Nat→Prop}{ρ:fC}{h:Nat→oA}{w:World}{nid:Nat}{ty:Nat→Option TI}{ev:Operand→V}{ae:Operand→Value}{out:jJ}{M:Nat→Prop}{ts:Array TypeId}{e:Nat}{te:TI}
theorem q8 (newLen:Nat):∀(r c:Nat),c≤2*newLen→256≤newLen→Builtin.growBy newLen r c≤2*newLen
 |0,c,h,_=>by simpa[Builtin.growBy]using h
 |r+1,c,h,h2=>by
  simp only[Builtin.growBy];split
  ·exact h
  ·exact q8 newLen r _ (by omega) h2
theorem ny {need cap:Nat}(h:cap<need):Builtin.nextslicecap need cap≤2*need:=by
 unfold Builtin.nextslicecap;split
 ·omega
 ·split
  ·omega
  ·exact q8 need 4 cap (by omega) (by omega)
theorem B8 {n b:Nat}(h:lB n b=true):n*b≤70368744177664:=by simpa[lB]using h
theorem ye (need old:Nat)(e:TypeId)(t:Nat):need≤Question.cut (.appendCap need old e) t:=by simp[Question.cut]
theorem rC.grow_ints {n m:Nat}{c c':Array Value}{k:IntKind}{l src:List Int}(hx:rC ρ M w n c (.ints k l))(hl:src.length=m)(hs:n+m≤c'.size)(h1:∀j,j<n→c'[j]?=c[j]?)(h2:∀j,j<m→c'[n+j]?=some (.int k (src.getD j 0))):
  rC ρ M w (n+m) c' (.ints k (l++src)):=by
 obtain⟨a1,a2,a3⟩:=hx;refine⟨by simp;omega,hs,fun i hi=>?_⟩;simp at hi;by_cases h:i<n
 ·rw[h1 i h,a3 i (by omega)];simp[zE,hG (show i<l.length by omega)]
 ·have e:i=n+(i-n):=by omega
  rw[e,h2 (i-n) (by omega)];simp[zE,hI (show l.length≤n+(i-n) by omega),a1]
theorem rC.grow_vals {n m:Nat}{c c':Array Value}{l src:List V}{us:List Value}(hx:sM ρ M w n c l)(hr:iA ρ M w src us)(hl:us.length=m)(hs:n+m≤c'.size)(h1:∀j,j<n→c'[j]?=c[j]?)(h2:∀j,j<m→c'[n+j]?=us[j]?):
  sM ρ M w (n+m) c' (l++src):=by
 obtain⟨a1,a2,a3⟩:=hx;have hlen:=hr.length;refine⟨by simp;omega,hs,?_⟩;have e:c'.toList.take (n+m)=c.toList.take n++us:=by
  apply w4;intro j;by_cases hj:j<n+m
  ·rw[hK hj,l4];by_cases h:j<n
   ·rw[h1 j h,hG (by simp;omega),hK h,l4]
   ·have e:j=n+(j-n):=by omega
    rw[e,h2 (j-n) (by omega),hI (by simp;omega)];congr 1;simp;omega
  ·rw[x0 (by simp;omega),x0 (by simp;omega)]
 rw[e];exact a3.append hr
theorem mQ {t e t2:Nat}{te:TI}{ts:Array TypeId}(t':TypeId){d2:TypeDesc}(hu:P.underlying t=some (.slice e))(h0:cC P e te)(hts0:ts[0]?=some t)(hts1:ts[1]?=some t2)(hd2:P.underlying t2=some d2)(hd2i:(∃x,d2= .slice x)∨d2= .string)
  {base:Option Addr}{n cap m:Nat}{vx:Value}{us:List Value}(hlen:(Builtin.lenOf vx).run P w= .ok m w)(hcells:(Builtin.firstCells te.size m vx).run P w= .ok us.toArray w)(hle:n+m≤cap):
  (w3 ts t' #[.slice base n cap,vx]).run P w=match base with
   |some a=>((storeCells (a.add (n*te.size)) us).run P w).andThen fun _ w'=>.ok (.slice base (n+m) cap) w'
   |none=>.ok (.slice base (n+m) cap) w:=by
 have hz:((underlying t2).run P w)= .ok d2 w:=run_underlying hd2 w;rcases hd2i with⟨y,rfl⟩|rfl<;>
  (simp only[w3,hts0,hts1,hZ,n1,q0,aE,run_underlying hu,run_underlying hd2,hB,h0.sizeOf,hF,hlen,c0,if_false,if_pos hle,hcells,Bool.not_false,if_true]
   cases base<;>simp[hcells])
theorem nZ (zero:Array Value)(n:Nat):(Builtin.zeroCells zero n).size=n*zero.size:=by simp[Builtin.zeroCells]
theorem zN {t e t2:Nat}{te:TI}{ts:Array TypeId}(t':TypeId){d2:TypeDesc}(hu:P.underlying t=some (.slice e))(h0:cC P e te)(hts0:ts[0]?=some t)(hts1:ts[1]?=some t2)(hd2:P.underlying t2=some d2)(hd2i:(∃x,d2= .slice x)∨d2= .string)(hb:0<te.bytes)
  {base:Option Addr}{n cap m:Nat}{vx:Value}{us os:List Value}(hlen:(Builtin.lenOf vx).run P w= .ok m w)(hcells:∀w':World,w'.heap=w.heap→(Builtin.firstCells te.size m vx).run P w'= .ok us.toArray w')
  (hold:∀w':World,w'.heap=w.heap→(Builtin.firstCells te.size n (.slice base n cap)).run P w'= .ok os.toArray w')(hlt:cap<n+m)(hroom:lB (n+m) te.bytes=true):
  ∃newCap w' zs,n+m≤newCap∧zs.size=(newCap- (n+m))*te.size∧(w'.heap=w.heap.push (.cells (os.toArray++us.toArray++zs) e)∧nF w w')∧
   (w3 ts t' #[.slice base n cap,vx]).run P w= .ok (.slice (some ⟨w.heap.size,0,none⟩) (n+m) newCap) w':=by
 have hz:((underlying t2).run P w)= .ok d2 w:=run_underlying hd2 w;obtain⟨inf,i1,i2,i3⟩:=h0.typeInfo (w:=w);have hr:=B8 hroom;have hnle:¬(n+m≤cap):=by omega
 have hb1:inf.bytes=te.bytes:=i2;have hsm:n+m≤70368744177664:=by have:(n+m)*1≤(n+m)*te.bytes:=Nat.mul_le_mul_left _ hb;omega
 have hnc:=ny (show cap<n+m by omega);have hncb:¬(Builtin.nextslicecap (n+m) cap*te.bytes>2^48):=by have h1:Builtin.nextslicecap (n+m) cap*te.bytes≤2*(n+m)*te.bytes:=xK _ hnc;have h2:2*(n+m)*te.bytes=2*((n+m)*te.bytes):=Nat.mul_assoc _ _ _;omega
 let w1:World:={w with drawn:=w.drawn+1}
 let nc:=Question.cut (.appendCap (n+m) cap e) (w.tape w.drawn (.appendCap (n+m) cap e))
 obtain⟨z,z1,z2⟩:=h0.zeroValue (w:=w1);obtain⟨inf1,j1,j2,j3⟩:=h0.typeInfo (w:=w1);have hzl:z.cells.size=te.size:=by have:=congrArg List.length z2;simp at this;rw[this,h0.zlen]
 have hch:(choose (.appendCap (n+m) cap e)).run P w= .ok nc w1:=by simp[run_choose,Question.forced,nc,w1]
 have hmx:¬(((n+m:Nat):Int)>IntKind.i64.max∧(false=true∨inf.bytes=0)):=by
  rintro⟨h1,h2|h2⟩
  ·cases h2
  ·omega
 refine⟨nc,{w1 with heap:=w1.heap.push (.cells (os.toArray++us.toArray++Builtin.zeroCells z.cells (nc- (n+m))) e)},Builtin.zeroCells z.cells (nc- (n+m)),ye _ _ _ _,by rw[nZ,hzl],⟨rfl,⟨rfl,rfl,rfl,Nat.le_succ _⟩⟩,?_⟩;have ho:=hold w1 rfl;have hc:=hcells w1 rfl;have hncb':¬(Builtin.nextslicecap (n+m) cap*inf.bytes>2^48):=by rw[hb1];exact hncb
 have hmx':¬(((n+m:Nat):Int)>IntKind.i64.max∧inf.bytes=0):=by rintro⟨_,h2⟩;omega
 rcases hd2i with⟨y,rfl⟩|rfl<;>
  (simp only[w3,hts0,hts1,hZ,n1,q0,aE,run_underlying hu,run_underlying hd2,hB,h0.sizeOf,hF,hlen,c0,if_false,if_neg hnle,hcells,Bool.not_false,if_true,i1,j6,if_neg hncb',hch,run_askRoom,ho,hc,z1,j1,newRow,run_newObj,false_or]
   rw[if_neg hmx'])
theorem nG.heq {M:Nat→Prop}{w':World}(he:w'.heap=w.heap)(hk:nF w w'):nG M w M w':=⟨by rw[he];exact hE _,fun b _ _=>by rw[he],fun b h=>.inl h,hk⟩
theorem lA.heq {w':World}(he:w'.heap=w.heap)(hh:lA F ρ h w):lA F ρ h w':=
 ⟨hh.wf,fun id hl=>by obtain⟨p,h1,h2⟩:=hh.rel id hl;exact⟨p,h1,wA.world he h2⟩,hh.inj,fun b hb=>by rw[he];exact hh.low b hb,hh.out⟩
theorem kh (hh:lA F ρ h w){x:V}{vx:Value}{k:IntKind}{s:Nat}{l:List Int}{tc:List Nat}(hs:0<s)(hx:nA ρ (av F (gA ρ h)) w x vx)(hr:yJ h k s x=some (l,tc)):
  ∃n,(Builtin.lenOf vx).run P w= .ok n w∧l.length=n*s∧∀w':World,w'.heap=w.heap→(Builtin.firstCells s n vx).run P w'= .ok (l.map (Value.int k)).toArray w':=by
 obtain⟨n,h1,h2,_⟩:=dR (P:=P) hh hs hx hr;refine⟨n,h1,h2,fun w' he=>?_⟩;obtain⟨n2,h3,h4,h5⟩:=dR (P:=P) (hh.heq he) hs (nA.world he _ _ hx) hr;have:n2=n:=Nat.eq_of_mul_eq_mul_right hs (by omega);subst this;have:=h5 n2 (hE _);rwa[u0 (by omega)]at this
theorem cV (hh:lA F ρ h w){x:V}{vx:Value}{s:Nat}{l:List V}{tc:List Nat}(hs:0<s)(hx:nA ρ (av F (gA ρ h)) w x vx)(hr:zJ h s x=some (l,tc)):
  ∃n cs,(Builtin.lenOf vx).run P w= .ok n w∧l.length=n*s∧iA ρ (av F (gA ρ h)) w l cs∧(∀v∈cs,v.oneCell'=true)∧∀w':World,w'.heap=w.heap→(Builtin.firstCells s n vx).run P w'= .ok cs.toArray w':=by
 unfold zJ at hr;split at hr
 ·simp only[hA,hD]at hr;obtain⟨rfl,_⟩:=hr;have:=hx.c;subst this;exact⟨0,[],by simp[Builtin.lenOf],by simp,by simp[iA],by simp,fun w' _=>by simp[Builtin.firstCells]⟩
 ·split at hr
  ·rename_i s' l' t' hrow;obtain⟨hk,hr⟩:=eA hr;obtain⟨hk1,hk2⟩:=gB hk;have hk1:=yA hk1;simp only[hA,hD]at hr;obtain⟨rfl,_⟩:=hr;subst hk1;obtain⟨_,a,len,cap,cs,rfl,h2,h3,h4,h5⟩:=E1 hh hx hrow;have hlen:=h4.length;refine⟨len,cs,by simp[Builtin.lenOf],h2,h4,iA.oneCell h4 hk2,fun w' he=>tK (by omega) ?_ ?_⟩
   ·rcases h5 with h5|⟨b,o,h5,h6⟩
    ·left;subst h5;simp at hlen;exact hU.mp hlen.symm
    ·right;exact⟨b,o,h5,fun j hj=>by rw[xC (w:=w) (w':=w') (by rw[he])];exact h6 j (by omega)⟩
   ·intro ha;rcases h5 with h5|⟨b,o,h5,h6⟩
    ·subst h5;simp at hlen;exact hU.mp hlen.symm
    ·rw[ha]at h5;cases h5
  ·cases hr
theorem gL.rel {x:oA}(h:gL x):wA (fun _=>none) (fun _=>False) w ⟨none,0,0,[]⟩ x:=by
 rcases h with⟨k,rfl⟩|rfl|⟨r,rfl⟩|⟨s,pid,rfl⟩<;>exact⟨rfl,.inl ⟨rfl,rfl,rfl⟩⟩
structure Fy (P:Program)(w:World)(s m:Nat)(vx:Value)(us:List Value):Prop where
 len:(Builtin.lenOf vx).run P w= .ok m w
 size:us.length=m*s
 one:∀v∈us,v.oneCell'=true
 cells:∀w':World,w'.heap=w.heap→(Builtin.firstCells s m vx).run P w'= .ok us.toArray w'
structure wx (P:Program)(ts:Array TypeId)(e:Nat)(te:TI):Prop where
 t:∃t,ts[0]?=some t∧P.underlying t=some (.slice e)
 t2:∃t2 d2,ts[1]?=some t2∧P.underlying t2=some d2∧((∃x,d2= .slice x)∨d2= .string)
 e:cC P e te
 bytes:0<te.bytes
 size:0<te.size
theorem xM (ht:wx P ts e te)(t':TypeId)(hh:lA F ρ h w)(hn:ρ nid=none){vx:Value}{m:Nat}{us:List Value}(hs:Fy P w te.size m vx us)(hroom:lB m te.bytes=true){x:oA}
  (hx0:us=[]→gL x)(hx:∀c:Array Value,us.length≤c.size→(∀j,j<us.length→c[j]?=us[j]?)→rC ρ (av F (gA ρ h)) w us.length c x):
  ∃v w' ρ',(w3 ts t' #[.slice none 0 0,vx]).run P w= .ok v w'∧iI ρ ρ'∧(∀id,id≠nid→ρ' id=ρ id)∧lA F ρ' (oB h nid x) w'∧nA ρ' (av F (gA ρ' (oB h nid x))) w' (.sw nid te.size) v∧nG (gA ρ h) w (gA ρ' (oB h nid x)) w':=by
 obtain⟨t,ts0,hu⟩:=ht.t;obtain⟨t2,d2,ts1,hd2,hd2i⟩:=ht.t2;by_cases hm:m=0
 ·subst hm;have husz:=hs.size;simp at husz;have:=mQ (P:=P) (w:=w) t' hu ht.e ts0 ts1 hd2 hd2i (base:=none) (n:=0) (cap:=0) hs.len (hs.cells w rfl) (by omega);obtain⟨h1,h2⟩:=lA.virtual hh hn (hx0 husz).rel;refine⟨_,w,_,this,qF hn,fun id hid=>by simp[fE,hid],h1,?_,h2⟩;simp only[nA];exact⟨ht.size,.inr ⟨_,lC _ _,by first|trivial|rfl⟩⟩
 ·obtain⟨nc,w',zs,r1,r2,r3,r4⟩:=zN (P:=P) (w:=w) t' hu ht.e ts0 ts1 hd2 hd2i ht.bytes (base:=none) (n:=0) (cap:=0) (os:=[]) hs.len hs.cells (fun w' _=>by simp[Builtin.firstCells]) (by omega) (by simpa using hroom);have hus:=hs.size;have hsz:(([]:List Value).toArray++us.toArray++zs:Array Value).size=nc*te.size:=by
   simp only[Array.size_append,s6,hV,hus,r2,hN,←hX];congr 1;omega
  have hle:m*te.size≤nc*te.size:=xK _ (by omega);obtain⟨q1,q2⟩:=lA.alloc (fr:=(0,0)) hh hn (fun i _=>by dsimp only;omega) (hx (([]:List Value).toArray++us.toArray++zs) (by rw[hsz];omega) (fun j hj=>by
   have e0:(([]:List Value).toArray++us.toArray++zs:Array Value)=us.toArray++zs:=by simp
   rw[e0,y1 (by simpa using hj)];simp)) r3.2 r3.1
  refine⟨_,w',_,r4,qF hn,fun id hid=>by simp[fE,hid],q1,?_,q2⟩;simp only[nA];refine⟨ht.size,.inl ⟨w.heap.size,us.length,(([]:List Value).toArray++us.toArray++zs:Array Value).size,[],nc,by simp only[fE,if_true],by rw[hus];exact p1 _ _,by rw[hus,uC ht.size];omega,by rw[hsz];exact hE _,?_⟩⟩;rw[hus,uC ht.size,hN]
theorem pW (ht:wx P ts e te)(t':TypeId)(hh:lA F ρ h w)(hn:ρ nid=none){vx:Value}{m:Nat}{us:List Value}(hs:Fy P w te.size m vx us){id b n C cap:Nat}{R:List gT}{c:Array Value}(hl:(h id).live)(hf:(h id).flat)(hp:ρ id=some ⟨some b,n,C,R⟩)
  (hmod:n%te.size=0)(hcap:n/te.size≤cap)(hC:cap*te.size≤C)(ho:fT w b C c)(hcC:c.size=C)(hnC:n≤C)(hroom:lB (n/te.size+m) te.bytes=true){x:oA}
  (hx:∀c':Array Value,n+us.length≤c'.size→(∀j,j<n→c'[j]?=c[j]?)→(∀j,j<us.length→c'[n+j]?=us[j]?)→rC ρ (av F (gA ρ h)) w (n+us.length) c' x):
  ∃v w' ρ',(w3 ts t' #[.slice (some ⟨b,0,none⟩) (n/te.size) cap,vx]).run P w= .ok v w'∧iI ρ ρ'∧(∀id,id≠nid→ρ' id=ρ id)∧lA F ρ' (oB (oB h id .dead) nid x) w'∧nA ρ' (av F (gA ρ' (oB (oB h id .dead) nid x))) w' (.sw nid te.size) v∧nG (gA ρ h) w (gA ρ' (oB (oB h id .dead) nid x)) w':=by
 obtain⟨t,ts0,hu⟩:=ht.t;obtain⟨t2,d2,ts1,hd2,hd2i⟩:=ht.t2;have hns:n/te.size*te.size=n:=y0 (hY hmod);have hus:=hs.size;have hsum:(n/te.size+m)*te.size=n+us.length:=by rw[hX,hns,hus]
 have hdiv:(n+us.length)/te.size=n/te.size+m:=by rw[←hsum,uC ht.size]
 by_cases hle:n/te.size+m≤cap
 ·have h1:=mQ (P:=P) (w:=w) t' hu ht.e ts0 ts1 hd2 hd2i (base:=some ⟨b,0,none⟩) (n:=n/te.size) (cap:=cap) hs.len (hs.cells w rfl) hle;have hroomC:n+us.length≤C:=by
   have:(n/te.size+m)*te.size≤cap*te.size:=xK _ hle;omega
  obtain⟨w',c',r1,r2,r3,r4,r5,r6⟩:=sG (P:=P) (b:=b) us w n 0 C c ho (by omega) hs.one;subst hcC;rw[←r5]at r4 hp;obtain⟨q1,q2⟩:=lA.retake hh hn hl hf hp r2 r3 r4 (hx c' (by omega) (fun j hj=>by rw[r6 j,if_neg (by omega)]) (fun j hj=>by rw[r6 (n+j),if_pos (by omega)];congr 1;omega));refine⟨.slice (some ⟨b,0,none⟩) (n/te.size+m) cap,w',fE ρ nid ⟨some b,n+us.length,c'.size,[]⟩,?_,qF hn,fun id hid=>by simp[fE,hid],q1,?_,q2⟩
  ·rw[h1];simp only[eH,hN,hns,r1,hB]
  ·simp only[nA];refine⟨ht.size,.inl ⟨b,n+us.length,c'.size,[],cap,by simp only[fE,if_true],by rw[←hsum];exact p1 _ _,by rw[hdiv];exact hle,by omega,by rw[hdiv]⟩⟩
 ·have hos:∀w':World,w'.heap=w.heap→(Builtin.firstCells te.size (n/te.size) (.slice (some ⟨b,0,none⟩) (n/te.size) cap)).run P w'= .ok (c.toList.take n).toArray w':=by
   intro w' he;refine tK (by simp;omega) (.inr ⟨b,0,rfl,fun j hj=>?_⟩) (fun h=>by cases h);rw[xC (w:=w) (w':=w') (by rw[he]),hN,ho.cell];simp at hj;rw[hK (by omega)];simp
  obtain⟨nc,w',zs,r1,r2,r3,r4⟩:=zN (P:=P) (w:=w) t' hu ht.e ts0 ts1 hd2 hd2i ht.bytes (base:=some ⟨b,0,none⟩) (n:=n/te.size) (cap:=cap) hs.len hs.cells hos (by omega) hroom;have hsz:((c.toList.take n).toArray++us.toArray++zs:Array Value).size=nc*te.size:=by
   have h1:(c.toList.take n).length=n:=by simp;omega
   have h2:(nc- (n/te.size+m))*te.size+(n/te.size+m)*te.size=nc*te.size:=by rw[←hX];congr 1;omega
   simp only[Array.size_append,s6,h1,r2];omega
  have hle2:n+us.length≤nc*te.size:=by rw[←hsum];exact xK _ r1
  obtain⟨k1,k2⟩:=hh.kill id;have hx':=hx ((c.toList.take n).toArray++us.toArray++zs) (by rw[hsz];exact hle2) (fun j hj=>by
    rw[Array.append_assoc,y1 (by simp;omega)];simp[hK hj]) (fun j hj=>by
    have h1:(c.toList.take n).length=n:=by simp;omega
    rw[Array.append_assoc,Array.getElem?_append_right (by simp;omega),y1 (by simp;omega)];simp only[s6,h1,hZ];congr 1;omega)
  obtain⟨q1,q2⟩:=lA.alloc (fr:=(0,0)) k1 hn (fun i _=>by dsimp only;omega) (hx'.mono (iI.refl _) k2) r3.2 r3.1;refine⟨_,w',_,r4,qF hn,fun id hid=>by simp[fE,hid],q1,?_,k2.trans q2⟩;simp only[nA];refine⟨ht.size,.inl ⟨w.heap.size,n+us.length,((c.toList.take n).toArray++us.toArray++zs:Array Value).size,[],nc,by simp only[fE,if_true],by rw[←hsum];exact p1 _ _,by rw[hdiv];exact r1,by rw[hsz];exact hE _,by rw[hdiv]⟩⟩
end
section
variable {P:Program}{F:Nat→Prop}{ρ:fC}{h:Nat→oA}{w:World}{nid:Nat}{ty:Nat→Option TI}{ev:Operand→V}{ae:Operand→Value}{out:jJ}{M:Nat→Prop}{ts:Array TypeId}{e:Nat}{te:TI}
theorem fZ {k:IntKind}(l:List Int):∀v∈l.map (Value.int k),v.oneCell'=true:=by
 intro v hv;obtain⟨n,_,rfl⟩:=List.mem_map.mp hv;rfl
theorem re {id:Nat}{x:oA}(he:h id=x):oB h id x=h:=by
 funext j;unfold oB;split
 ·rename_i e;rw[e,he]
 ·rfl
theorem D6 (hty:eD P ty)(hh:lA F ρ h w){t:Nat}(hts0:ts[0]?=some t)(hu:P.underlying t=some (.slice e))(hte:ty e=some te)(t':TypeId){k:IntKind}(hk:tZ te=some k){src:List Int}{tc:List Nat}{x:V}{vx vd:Value}{id:Nat}{l:List Int}
  (hs:yJ h k te.size x=some (src,tc))(hx:nA ρ (av F (gA ρ h)) w x vx)(hd:nA ρ (av F (gA ρ h)) w (.sw id te.size) vd)(hid:h id= .ints k l){tc':List Nat}:
  gF F ρ h w nid {val:=.c (.int .i64 ((min (pJ te.size src.length) (pJ te.size l.length):Nat):Int)),wr:=[(id,.ints k (zF l 0 (src.take (rH te.size (min (pJ te.size src.length) (pJ te.size l.length))))))],touch:=tc'}
   ((do pure (.value (←x7 ts t' #[vd,vx])):Sem Next).run P w):=by
 have h0:=hty _ _ hte;have hpos:0<te.size:=by
  rw[←h0.zlen];unfold tZ at hk;split at hk
  ·rename_i hr;rw[hr];simp
  ·cases hk
 obtain⟨m,m1,m2,m3⟩:=dR (P:=P) hh hpos hx hs;have hcm:pJ te.size src.length=m:=by rw[jE,m2,uC hpos]
 obtain⟨_,⟨b,n,C,R,cap,c,h1,h2,h3,h4,h5,ho,hsz,hold⟩|⟨R,h1,h2,hk2⟩⟩:=sF hh hd (by rw[hid];trivial) (by rw[hid];trivial)
 ·rw[hid]at hold;obtain⟨a1,a2,a3⟩:=hold;have hns:n/te.size*te.size=n:=y0 (hY h2);have hcn:pJ te.size l.length=n/te.size:=by rw[jE,a1]
  rw[hcm,hcn,rB];generalize hq:min m (n/te.size)=q;have hqm:q≤m:=by omega
  have hqn:q*te.size≤n:=by rw[←hns];exact xK _ (by omega)
  have hqs:q*te.size≤src.length:=by rw[m2];exact xK _ hqm
  have hlen:((src.take (q*te.size)).map (Value.int k)).length=q*te.size:=by simp;omega
  obtain⟨w',c',r1,r2,r3,r4,r5,r6⟩:=sG (P:=P) (b:=b) ((src.take (q*te.size)).map (Value.int k)) w 0 0 C c ho (by omega) (fZ _);subst hsz;rw[←r5]at r4 h1;have hold':rC ρ (av F (gA ρ h)) w n c' (.ints k (zF l 0 (src.take (q*te.size)))):=by
   have hsl:(zF l 0 (src.take (q*te.size))).length=n:=by simp[zF];omega
   refine⟨hsl,by omega,fun i hi=>?_⟩;rw[hsl]at hi;rw[r6 i,hlen];simp only[zF,List.take_zero,e7,hN,Nat.sub_zero];have hlt:(src.take (q*te.size)).length=q*te.size:=by simp;omega
   by_cases hiq:i<q*te.size
   ·rw[if_pos ⟨by omega,by omega⟩];simp only[p2,zE];rw[hG (by omega),hS (by omega)];rfl
   ·rw[if_neg (by omega),a3 i (by omega),hlt];simp only[zE];rw[hI (by omega),hlt,x1];congr 4;omega
  obtain⟨q1,q2⟩:=lA.write hh (by rw[hid];trivial) (by rw[hid];trivial) h1 r2 r3 r4 hold';refine⟨_,w',ρ,.inl ?_,iI.refl _,fun _ _ h=>h,q1,nA.of_c _,q2⟩;subst h5;have hnm:Nat.min m (n/te.size)=q:=hq;have hc:=m3 q hqm;simp only[x7,hts0,hZ,n1,q0,aE,run_underlying hu,hB,m1,hnm,h0.sizeOf,hc,hF];simp only[r1,hB,goInt]
 ·rw[hid]at hk2;have hl:l=[]:=by rcases hk2 with⟨k2,hk2⟩|hk2|⟨_,hk2⟩|⟨_,_,hk2⟩<;>cases hk2;rfl
  subst hl;subst h2;have hq:min (pJ te.size src.length) (pJ te.size ([]:List Int).length)=0:=by simp[jE]
  rw[hq];have hsp:zF [] 0 (src.take (rH te.size 0))=[]:=by simp[zF,rB]
  rw[hsp];have hc:=m3 0 (by omega);refine⟨_,w,ρ,.inl ?_,iI.refl _,fun _ _ h=>h,?_,nA.of_c _,?_⟩
  ·have hnm:Nat.min m 0=0:=Nat.min_zero m;simp only[x7,hts0,hZ,n1,q0,aE,run_underlying hu,hB,m1,hnm,h0.sizeOf,hc,hF];rfl
  ·show lA F ρ (oB h id (.ints k [])) w;rw[re hid];exact hh
  ·show nG (gA ρ h) w (gA ρ (oB h id (.ints k []))) w;rw[re hid];exact nG.refl _ _
theorem D5 (hty:eD P ty)(hh:lA F ρ h w){s d:Nat}{x:V}{vx:Value}{out:jJ}(hx:nA ρ (av F (gA ρ h)) w x vx)(hb:j7 ty nid s d x h=some (true,out))(hn:out.new.length=1→ρ nid=none):
  gF F ρ h w nid out ((do pure (.value (←convert s d vx)):Sem Next).run P w):=by
 unfold j7 at hb;split at hb
 ·rename_i ts td hs hd;obtain⟨us,hus⟩:=(hty _ _ hs).und;have hud:=(hty _ _ hd).tk;split at hb
  ·rename_i k ki n htk;rw[htk]at hud;simp only[fG]at hud;have:=hx.int;subst this;have:=vB hb;subst this;exact gF.pure hh (v:=.int k (k.wrap n)) (by simp[convert,run_underlying hus,run_underlying hud,Conv.intToInt]) (nA.of_c _)
  ·rename_i b htk;rw[htk]at hud;simp only[fG]at hud;have:=hx.c;subst this;have:=vB hb;subst this;exact gF.pure hh (v:=.string b) (by cases us<;>simp[convert,run_underlying hus,run_underlying hud]) (nA.of_c _)
  ·rename_i htk;rw[htk]at hud;simp only[fG]at hud;split at hb
   ·rename_i e hse;have hks:=(hty _ _ hs).tk;rw[hse]at hks;simp only[fG]at hks;split at hb
    ·rename_i s0 b0 z0 hte;have hke:=(hty _ _ hte).tk;simp only[fG]at hke;have:=hx.c;subst this;have:=vB hb;subst this;exact gF.pure hh (v:=.string ByteArray.empty) (by simp[run_convert_bytes_nil w s e hks hke 0 0 d hud]) (nA.of_c _)
    ·cases hb
   ·cases hb
  ·rename_i e b htk;rw[htk]at hud;simp only[fG]at hud;split at hb
   ·rename_i s0 b0 z0 hte;have hke:=(hty _ _ hte).tk;simp only[fG]at hke;have:=hx.c;subst this;simp only[hA,hD,true_and]at hb;subst hb;have hcap:b.size≤grownCap w b.size 0 e:=ye _ _ _ _;have hus':P.underlying s=some us:=hus;have hrun:(convert s d (.string b)).run P w= .ok (.slice (some ⟨w.heap.size,0,none⟩) b.size (grownCap w b.size 0 e)) (Lib.bytesWorld w e b):=Lib.run_convert_string_bytes w s d e b hus hud hke;have hnew:=Lib.bytesWorld_at_new w e b;have hrow:Lib.bytesCells w e b=bytesRow b (grownCap w b.size 0 e):=rfl;have hsz:(Lib.bytesCells w e b).size=grownCap w b.size 0 e:=by
     have h1:b.data.size=b.size:=rfl;simp[Lib.bytesCells,h1];omega
    have hheap:(Lib.bytesWorld w e b).heap=w.heap.push (.cells (Lib.bytesCells w e b) e ((Lib.bytesCells w e b).size,(Lib.bytesCells w e b).size+1)):=by
     apply Array.ext
     ·rw[Lib.bytesWorld_size];simp
     ·intro i h0' h2;have h1:=h0';rw[Lib.bytesWorld_size]at h1;have e1:(Lib.bytesWorld w e b).heap[i]?=(w.heap.push (.cells (Lib.bytesCells w e b) e ((Lib.bytesCells w e b).size,(Lib.bytesCells w e b).size+1)))[i]?:=by
       by_cases hi:i=w.heap.size
       ·subst hi;rw[hnew];simp
       ·rw[Lib.bytesWorld_at_old w e b i (by omega),a8,if_neg hi]
      rw[w6 h0',w6 h2]at e1;exact yK e1
    have hb1:(rG b).length=b.size:=by simp[rG]
    refine gF.made (c:=Lib.bytesCells w e b) (n:=b.size) hh (hn rfl) (fun i hi=>by dsimp only;omega) ?_ hheap (v:=.slice (some ⟨w.heap.size,0,none⟩) b.size (grownCap w b.size 0 e)) (by simp[hrun]) ?_
    ·refine⟨hb1,by omega,fun i hi=>?_⟩;rw[hb1]at hi;have h1:b.data.size=b.size:=rfl;simp only[Lib.bytesCells];rw[y1 (by simp[h1,hi])];simp[rG,zE,h1,hi]
    ·intro ρ' M' w'' hp;simp only[nA];exact⟨by omega,.inl ⟨_,_,_,_,grownCap w b.size 0 e,hp,Nat.mod_one _,by rw[p7];exact hcap,by rw[hsz];omega,by rw[p7]⟩⟩
   ·cases hb
  ·rename_i x htk hn1 hn2;rw[htk]at hud;simp only[fG]at hud;split at hb
   ·rename_i e hse;have hks:=(hty _ _ hs).tk;rw[hse]at hks;simp only[fG]at hks;split at hb
    ·rename_i s0 b0 z0 w1 l t1 hte hrow;have hke:=(hty _ _ hte).tk;simp only[fG]at hke;obtain⟨hw,hb2⟩:=eA hb;have hw2:=yA hw;simp only[hA,hD,true_and]at hb2;subst hb2;clear hb hw;subst hw2;obtain⟨_,a,len,cap,rfl,g1,g2,g3⟩:=jv hh hx hrow;have hrun:(convert s d (.slice a len cap)).run P w= .ok (.string (zD l)) w:=by
      rcases g3 with g3|⟨b,o,g3,g4⟩
      ·subst g3;have hl0:len=0:=by simp at g1;omega
       subst hl0;rw[run_convert_bytes_string w s d e a 0 cap hks hke hud];cases a with
       |none=>simp[Conv.bytesToString,zD];rfl
       |some a=>rw[run_bytesToString w a 0 cap [] (by simp[loadCells,loadCellsFrom])];simp[zD];rfl
      ·subst g3;exact run_convert_bytes_arg w s e hks hke b o len cap l (by omega) (fun i hi=>g4 i (by omega)) d hud
     exact gF.pure hh (v:=.string (zD l)) (by simp[hrun]) (nA.of_c _)
    ·cases hb
   ·cases hb
  ·cases hb
 ·cases hb
end
end Go.Proofs.YtijigofaaefldaaGreat.Ev
