import Derived.WalkKit
import Derived.Laws.StructEq
import Derived.Laws.BytesArg
import Derived.Lib.ConvBytes
import Derived.Laws.IdiomStrings
import Derived.MapKept
import Derived.WideKeyRuns
import Derived.Maps.RangeRun
open Go.Result renaming andThen_ok→hA
open List renaming getD_eq_getElem?_getD→iA,getElem?_append_left→zB,getElem?_take_of_lt→cD,getElem?_append_right→hD,getElem?_eq_getElem→zE,getElem?_eq_none→hG,map_cons→hN,length_eq_zero_iff→hQ,ext_getElem?→hT,getElem?_map→hU,getElem?_toArray→hV,getElem?_set_ne→hW,getElem?_cons_succ→hX,getElem?_cons_zero→iX,length_cons→o0,getElem?_take→p0,take_of_length_le→x0,getElem?_drop→l1,length_nil→y2,append_assoc→c3,length_singleton→l3,map_nil→u3,mem_map→w3,drop_eq_getElem_cons→y3,mem_singleton→b4,length_take→p4,mem_map_of_mem→y4,size_toArray→c5,getElem?_eq_some_iff→l5,all_eq_true→p5,cons_append→s5,length_drop→u5,length_map→x5,map_append→y5,eraseIdx_sublist→a6,length_replicate→b6,getElem?_of_mem→k6,mem_cons→p6
open Go.Sem renaming run_bind→zA,run_pure→hB,run_ite→b5
open Nat renaming le_refl→iB,mul_le_mul_right→aE,zero_add→hP,dvd_of_mod_eq_zero→sS,add_assoc→c0,div_mul_cancel→q0,add_mul→y0,lt_of_lt_of_le→x1,sub_self→y1,mul_mod_left→x2,eq_of_beq_eq_true→x3,add_zero→c4,succ_mul→u4,add_mul_div_right→c6,le_of_ble_eq_true→e6,div_mul_le_self→q6,add_comm→w6,le_trans→x6,div_one→y6,le_succ→a7
open Option renaming map_eq_some_iff→hE,map_some→hY,map_none→w4,getD_some→w5
open Bool renaming false_eq_true→hI,and_eq_true→hR
open Array renaming getElem?_modify→xK,getElem?_toList→yK,getElem?_eq_some_iff→hL,getElem?_push→dQ,getElem?_eq_getElem→u0,getElem?_append_left→l2,toList_push→l4,mem_toList_iff→s4,length_toList→x4
open Go.Builtin renaming append_→w0,copy_→l6,len_→u6
set_option linter.unusedVariables false
set_option linter.unusedSimpArgs false
namespace Go.Proofs.YtjpdjdhdchjcgaaGreat.Ev
inductive sO where
 |ints (k:IntKind) (l:List Int)
 |bools (l:List Bool)
 |strs (l:List ByteArray)
def iI:sO→Nat→Value
 | .ints k l,i=>.int k (l.getD i 0)
 | .bools l,i=>.bool (l.getD i false)
 | .strs l,i=>.string (l.getD i ByteArray.empty)
def kN:List sO→Nat→List Value
 | [],_=>[]
 |c::r,i=>iI c i::kN r i
inductive V where
 |c (v:Value)
 |poison
 |ptr (id off ext:Nat)
 |sw (id w:Nat)
 |sl (id w off len:Nat)
 |il (k:IntKind) (w:Nat) (l:List Int)
 |iv (n:Nat) (cols:List sO)
 |ilp (k:IntKind) (l:List Int) (off ext:Nat)
 |ivp (cols:List sO) (i off ext:Nat)
 |agg (cs:List V)
 |tup (vs:List V)
 |fn (f:FuncId) (first cap:List V)
 |mref (id:Nat)
inductive rA where
 |dead
 |ints (k:IntKind) (l:List Int)
 |vals (cs:List V)
 |mp (k:IntKind) (n:Nat) (ks:List (List Int)) (vs:sO)
 |it (mid:Option Nat) (wE:Nat) (rem:List Nat) (cur:Nat)
 |nl (k:IntKind) (s:Nat) (jD:List (List Int))
structure St where
 T:List (Nat×V)
 H:List rA
def St.nil:St:=⟨[],[]⟩
inductive Ex where
 |normal
 |exit (id:Nat)
 |goto (l:Nat)
 |ret (v:V) (bs:List rA)
inductive TK where
 |int (k:IntKind)|bool|str
 |slice (e:Nat)|arr (n e:Nat)
 |struct (fs:List (Nat×Nat))
 |ptr (e:Nat)|func|other
 |map (k e:Nat)
structure TI where
 tk:TK
 size:Nat
 bytes:Nat
 zero:List Value
def TI.isAgg (t:TI):Bool:=match t.tk with| .struct _=>true| .arr _ _=>true|_=>false
def TI.isSl (t:TI):Bool:=match t.tk with| .slice _=>true|_=>false
inductive vu where
 |one (v:V) (bs:List rA)
 |two (b:Bool) (v1:V) (bs1:List rA) (v2:V) (bs2:List rA)
def vu.pick:vu→V×List rA
 | .one v bs=>(v,bs)
 | .two b v1 bs1 v2 bs2=>bif b then(v1,bs1)else(v2,bs2)
def vu.go {R:Type}(k:V→List rA→Option R):vu→Option R
 | .one v bs=>k v bs
 | .two b v1 bs1 v2 bs2=>bif b then k v1 bs1 else k v2 bs2
structure uA where
 A:Type
 dec:List V→List rA→Option (Option A×(A→vu))
 fresh:Nat
 imm:List Bool
inductive Sh where
 |any
 |row (k:IntKind) (w:Nat)
 |part (k:IntKind) (w:Nat)
 |il (k:IntKind) (w:Nat)
 |box (cs:List Sh)
 |recd (cs:List Sh)
 |tup (cs:List Sh)
 |nrow (k:IntKind) (s:Nat)
structure cC where
 keep:List (Nat×Sh)
 out:List (Nat×Sh)
structure nF where
 run:{R:Type}→List V→List rA→(Ex→St→Option R)→Option R
structure jC where
 ty:Nat→Option TI
 tab:Nat→Option uA
 hint:Nat→Option cC
 cut:Nat→Option nF
 N:Nat
 res:List ResultVar
 rsh:List Sh
 nb:Nat
 ntmps:Nat
 own:Bool:=false
 bsh:List (Nat×List Sh):=[]
def Gy:IntKind→Nat
 | .i8=>0| .i16=>1| .i32=>2| .i64=>3| .u8=>4| .u16=>5| .u32=>6| .u64=>7
def pT (a b:IntKind):Bool:=Nat.beq (Gy a) (Gy b)
def iE:List (Nat×V)→Nat→V
 | [],_=>.poison
 |(a,v)::r,t=>bif Nat.beq a t then v else iE r t
def qA:List rA→Nat→rA
 | [],_=>.dead
 |b::_,0=>b
 |_::r,n+1=>qA r n
def uD:List rA→Nat→rA→List rA
 | [],_,_=>[]
 |_::r,0,x=>x::r
 |b::r,n+1,x=>b::uD r n x
def Bg:List rA→List (Nat×rA)→List rA
 |H,[]=>H
 |H,(i,b)::r=>Bg (uD H i b) r
def Dh (H:List rA)(nid:Nat):List rA→List rA
 | []=>H
 |b::r=>Dh (uD H nid b) (nid+1) r
def jv:Value→V
 | .agg cs=>.agg (cs.toList.map .c)
 |v=>.c v
def Hw (T:List (Nat×V)):Operand→V
 | .tmp t=>iE T t
 | .const v=>jv v
 | .global _=>.poison
 | .func f=>.fn f [] []
def wE (w n:Nat):Nat:=match w with
 |1=>n
 |w=>n/w
def rG (w n:Nat):Nat:=match w with
 |1=>n
 |w=>n*w
def rF:V→Option (List V)
 | .agg cs=>some cs
 | .poison=>none
 | .c (.agg _)=>none
 |v=>some [v]
structure sH where
 val:V
 wr:List (Nat×rA):=[]
 new:List rA:=[]
 touch:List Nat:=[]
abbrev bV:=Option (Bool×sH)
def xC (v:V):bV:=some (true,{val:=v})
def kE (b:Bool)(v:V):bV:=some (b,{val:=v})
def eM:V:=.c (.tuple #[])
def tL (t:TI):List V:=t.zero.map .c
def vZ (t:TI)(cs:List V):V:=bif t.isAgg then .agg cs else match cs with|v::_=>v| []=>.agg []
def tN (k:IntKind)(l:List Int):Nat→Nat→List V
 |_,0=>[]
 |off,n+1=>.c (.int k (l.getD off 0))::tN k l (off+1) n
def aR:List V→Nat→Option (List V)
 |_,0=>some []
 | [],_+1=>none
 |v::r,n+1=>(aR r n).map (v:: ·)
def tQ:List V→Nat→List V
 |l,0=>l
 | [],_+1=>[]
 |_::r,n+1=>tQ r n
def so:List V→Nat→Option V
 | [],_=>none
 |v::_,0=>some v
 |_::r,n+1=>so r n
def zG (t:TI)(off:Nat):rA→Option V
 | .dead=>none
 | .mp _ _ _ _=>none
 | .it _ _ _ _=>none
 | .ints k l=>some (bif t.isAgg then .agg (tN k l off t.size)else .c (.int k (l.getD off 0)))
 | .nl k s jD=>bif t.isAgg then none else(match t.tk with
  | .slice _=>some (.il k s (jD.getD off []))
  |_=>none)
 | .vals cs=>match aR (tQ cs off) t.size with
  |none=>none
  |some cs=>some (vZ t cs)
def iO (k:IntKind):List Int→Nat→List V→Option (List Int)
 |l,_,[]=>some l
 |l,off,.c (.int k' n)::r=>bif pT k k' then iO k (l.set off n) (off+1) r else none
 |_,_,_::_=>none
def rJ:List V→Nat→List V→Option (List V)
 |cs,_,[]=>some cs
 | [],_,_::_=>none
 |_::cs,0,v::r=>(rJ cs 0 r).map (v:: ·)
 |c::cs,off+1,v::r=>(rJ cs off (v::r)).map (c:: ·)
def bR:V→Bool
 | .c (.agg _)=>false
 | .c (.tuple _)=>false
 | .poison=>false
 | .agg _=>false
 | .tup _=>false
 |_=>true
def eI (off:Nat)(vs:List V):rA→Option rA
 | .dead=>none
 | .mp _ _ _ _=>none
 | .it _ _ _ _=>none
 | .ints k l=>(iO k l off vs).map (.ints k)
 | .nl _ _ _=>none
 | .vals cs=>bif vs.all bR then(rJ cs off vs).map .vals else none
def cK (k:IntKind):List V→Option (List Int)
 | []=>some []
 | .c (.int k' n)::r=>bif pT k k' then(cK k r).map (n:: ·)else none
 |_::_=>none
def wY (t:TI):Option IntKind:=match t.zero with
 | .int k _::r=>bif r.all (fun| .int k' _=>pT k k'|_=>false)then some k else none
 |_=>none
def xf (t:TI)(cs:List V):Option rA:=match wY t with
 |some k=>(cK k cs).map (.ints k)
 |none=>some (.vals cs)
def gK (zH:Nat→Option (Nat×Nat)):List V→List (Nat×V)→Option (List V)
 |cs,[]=>some cs
 |cs,(i,v)::r=>match zH i with
  |none=>none
  |some (off,size)=>match rF v with
   |some vs=>bif Nat.beq vs.length size&&Nat.blt 0 size then
    (match rJ cs off vs with|some cs=>gK zH cs r|none=>none)else none
   |none=>none
def wI (ty:Nat→Option TI)(fs:List (Nat×Nat))(i:Nat):Option (Nat×Nat):=match fs[i]? with
 |some (t,off)=>match ty t with|some ti=>some (off,ti.size)|none=>none
 |none=>none
def aj:Nat→List V→List V
 |0,_=>[]
 |n+1,l=>l++aj n l
def tv (a b:Int):Int:=if b>a then b else a
def H5 (a b:Int):Int:=if b<a then b else a
def fu (op:BinOp)(k:IntKind)(a b:Int):Option Int:=match op with
 | .and=>some (k.wrap (BitVec.ofInt k.bits a&&& BitVec.ofInt k.bits b).toNat)
 | .or=>some (k.wrap (BitVec.ofInt k.bits a|||BitVec.ofInt k.bits b).toNat)
 | .xor=>some (k.wrap (BitVec.ofInt k.bits a^^^BitVec.ofInt k.bits b).toNat)
 | .andNot=>some (k.wrap (BitVec.ofInt k.bits a&&& ~~~ BitVec.ofInt k.bits b).toNat)
 |_=>none
def Cs (op:BinOp)(k:IntKind)(a b:Int):bV:=match op with
 | .add=>xC (.c (.int k (k.wrap (a+b))))
 | .sub=>xC (.c (.int k (k.wrap (a-b))))
 | .mul=>xC (.c (.int k (k.wrap (a*b))))
 | .quo=>kE (!(b==0)) (.c (.int k (k.wrap (a.tdiv b))))
 | .rem=>kE (!(b==0)) (.c (.int k (a.tmod b)))
 | .eql=>xC (.c (.bool (a==b)))
 | .neq=>xC (.c (.bool (a != b)))
 | .lss=>xC (.c (.bool (decide (a<b))))
 | .leq=>xC (.c (.bool (decide (a≤b))))
 | .gtr=>xC (.c (.bool (decide (a>b))))
 | .geq=>xC (.c (.bool (decide (a≥b))))
 | .and| .or| .xor| .andNot=>match fu op k a b with
  |some n=>xC (.c (.int k n))
  |none=>none
 |_=>none
def aX (op:BinOp)(k:IntKind)(a b:Int):bV:=match op with
 | .shl=>kE (decide (0≤b)) (.c (.int k (k.wrap (a*2^(min b.toNat k.bits)))))
 | .shr=>kE (decide (0≤b)) (.c (.int k (a.fdiv (2^(min b.toNat k.bits)))))
 |_=>none
def Gw (ti:Option TI)(x y:V):Option Bool:=match ti with
 |some ⟨.int _,_,_,_⟩=>(match x,y with
  | .c (.int k a),.c (.int k' b)=>bif pT k k' then some (a==b)else none
  |_,_=>none)
 |some ⟨.bool,_,_,_⟩=>(match x,y with
  | .c (.bool a),.c (.bool b)=>some (a==b)
  |_,_=>none)
 |_=>none
def pG (ty:Nat→Option TI):List (Nat×Nat)→Nat→List V→List V→Option Bool
 | [],_,[],[]=>some true
 | [(t,off)],i,[x],[y]=>bif Nat.beq off i then Gw (ty t) x y else none
 |(t,off)::r,i,x::cx,y::cy=>bif Nat.beq off i then
   (match Gw (ty t) x y,pG ty r (i+1) cx cy with
    |some e,some e'=>some (e&&e')
    |_,_=>none)else none
 |_,_,_,_=>none
def oM (ty:Nat→Option TI)(t:Nat)(x y:List V):Option Bool:=match ty t with
 |some ⟨.struct fs,_,_,_⟩=>pG ty fs 0 x y
 |_=>none
def Ht (ty:Nat→Option TI)(t:Nat)(op:BinOp)(x y:V):bV:=match op,x,y with
 | .shl,.c (.int k a),.c (.int _ b)=>aX .shl k a b
 | .shr,.c (.int k a),.c (.int _ b)=>aX .shr k a b
 |op,.c (.int k a),.c (.int k' b)=>bif pT k k' then Cs op k a b else none
 | .eql,.c (.bool a),.c (.bool b)=>(match ty t with|some ⟨.bool,_,_,_⟩=>xC (.c (.bool (a==b)))|_=>none)
 | .neq,.c (.bool a),.c (.bool b)=>(match ty t with|some ⟨.bool,_,_,_⟩=>xC (.c (.bool (!(a==b))))|_=>none)
 | .add,.c (.string a),.c (.string b)=>kE (decide (((a.size+b.size:Nat):Int)≤9223372036854775807)) (.c (.string (a++b)))
 | .eql,.c (.string a),.c (.string b)=>xC (.c (.bool (a.toList==b.toList)))
 | .neq,.c (.string a),.c (.string b)=>xC (.c (.bool (!(a.toList==b.toList))))
 | .eql,.agg a,.agg b=>match oM ty t a b with|some e=>xC (.c (.bool e))|none=>none
 | .neq,.agg a,.agg b=>match oM ty t a b with|some e=>xC (.c (.bool (!e)))|none=>none
 |_,_,_=>none
def Dw (b:Bool)(x y:V):V:=match x,y with
 | .c (.bool p),.c (.bool q)=>.c (.bool (bif b then p else q))
 |x,y=>bif b then x else y
def aJ (l:List Int):ByteArray:=⟨(l.map fun n=>UInt8.ofNat n.toNat).toArray⟩
def kG (s:ByteArray):List Int:=s.data.toList.map fun b=>(b.toNat:Int)
def iG (s:ByteArray)(i:Nat):Int:=((s.data.toList.getD i 0).toNat:Int)
def s7 (h:Nat→rA):V→Option (IntKind×Nat×List Int×List Nat)
 | .sw id w=>match h id with| .ints k l=>some (k,w,l,[id])|_=>none
 | .sl id w off len=>match h id with| .ints k l=>some (k,w,(l.drop off).take (rG w len),[id])|_=>none
 | .il k w l=>some (k,w,l,[])
 |_=>none
def ou (h:Nat→rA):V→Option (Nat×List V×List Nat)
 | .sw id w=>match h id with| .vals l=>some (w,l,[id])|_=>none
 |_=>none
def uO (h:Nat→rA):V→Option (Nat×List Nat)
 | .c (.slice none 0 0)=>some (0,[])
 | .c (.string s)=>some (s.size,[])
 | .sw id w=>match h id with
  | .ints _ l=>some (wE w l.length,[id])
  | .vals l=>some (wE w l.length,[id])
  | .nl _ _ l=>some (wE w l.length,[id])
  | .dead=>none
  | .mp _ _ _ _=>none
  | .it _ _ _ _=>none
 | .sl _ _ _ len=>some (len,[])
 | .il _ w l=>some (wE w l.length,[])
 | .iv n _=>some (n,[])
 |_=>none
def Cy:TK→V→Bool
 | .str,.c (.string _)=>true
 | .slice _,.c (.string _)=>false
 | .slice _,_=>true
 |_,_=>false
def Di:V:=.c (.slice none 0 0)
def sJ (h:Nat→rA)(k:IntKind)(size:Nat):V→Option (List Int×List Nat)
 | .c (.slice none 0 0)=>some ([],[])
 | .c (.string s)=>bif pT k .u8&&Nat.beq size 1 then some (kG s,[])else none
 |v=>match s7 h v with
  |some (k',w,l,t)=>bif pT k k'&&Nat.beq w size then some (l,t)else none
  |none=>none
def tJ (h:Nat→rA)(size:Nat):V→Option (List V×List Nat)
 | .c (.slice none 0 0)=>some ([],[])
 |v=>match ou h v with
  |some (w,l,t)=>bif Nat.beq w size&&l.all bR then some (l,t)else none
  |none=>none
def jB (n b:Nat):Bool:=decide (n*b≤70368744177664)
def dw (h:Nat→rA):V→Option (IntKind×Nat×List Int×List Nat)
 | .sw id w=>match h id with| .ints k l=>some (k,w,l,[id])|_=>none
 | .il k w l=>some (k,w,l,[])
 |_=>none
def fN (ti:TI)(h:Nat→rA)(nid:Nat)(d s:V):bV:=match s with
 | .sw ids w1=>match h ids with
  | .vals [e]=>match dw h e with
   |some (k,w,l,kl)=>bif Nat.beq w1 1&&Nat.beq ti.size 1 then(match d with
    | .c (.slice none 0 0)=>some (jB 1 ti.bytes,{val:=.sw nid 1,wr:=kl.map fun i=>(i,rA.dead),new:=[.nl k w [l]],touch:=ids::kl})
    | .sw id w2=>match h id with
     | .nl k' w' jD=>bif pT k k'&&Nat.beq w w'&&Nat.beq w2 1 then
       some (jB (jD.length+1) ti.bytes,{val:=.sw nid 1,wr:=(kl.map fun i=>(i,rA.dead))++[(id,.dead)],new:=[.nl k w (jD++[l])],touch:=id::ids::kl})else none
     |_=>none
    |_=>none)else none
   |none=>none
  |_=>none
 |_=>none
def gN (ti:TI)(h:Nat→rA)(nid:Nat)(d s:V):bV:=bif !(Nat.blt 0 ti.bytes&&Nat.blt 0 ti.size)then none else match wY ti with
 |some k=>match sJ h k ti.size s with
  |none=>none
  |some (src,t)=>match d with
   | .c (.slice none 0 0)=>some (jB (wE ti.size src.length) ti.bytes,{val:=.sw nid ti.size,new:=[.ints k src],touch:=t})
   | .sw id w=>match h id with
    | .ints k' l=>bif pT k k'&&Nat.beq w ti.size then
      some (jB (wE ti.size (l.length+src.length)) ti.bytes,{val:=.sw nid ti.size,wr:=[(id,.dead)],new:=[.ints k (l++src)],touch:=id::t})else none
    |_=>none
   |_=>none
 |none=>bif ti.isSl then fN ti h nid d s else match tJ h ti.size s with
  |none=>none
  |some (src,t)=>match d with
   | .c (.slice none 0 0)=>some (jB (wE ti.size src.length) ti.bytes,{val:=.sw nid ti.size,new:=[.vals src],touch:=t})
   | .sw id w=>match h id with
    | .vals l=>bif Nat.beq w ti.size then
      some (jB (wE ti.size (l.length+src.length)) ti.bytes,{val:=.sw nid ti.size,wr:=[(id,.dead)],new:=[.vals (l++src)],touch:=id::t})else none
    |_=>none
   |_=>none
def vF (l:List Int)(off:Nat)(x:List Int):List Int:=l.take off++x++l.drop (off+x.length)
def ll (ti:TI)(h:Nat→rA)(d s:V):bV:=match wY ti with
 |none=>none
 |some k=>match sJ h k ti.size s with
  |none=>none
  |some (src,t)=>match d with
   | .sw id w=>match h id with
    | .ints k' l=>bif pT k k'&&Nat.beq w ti.size then
      let n:Nat:=min (wE w src.length) (wE w l.length)
      some (true,{val:=.c (.int .i64 (n:Int)),wr:=[(id,.ints k (vF l 0 (src.take (rG w n))))],touch:=id::t})else none
    |_=>none
   |_=>none
def kK (f:Int→Int→Int)(k:IntKind):Int→List V→Option Int
 |a,[]=>some a
 |a,.c (.int k' b)::r=>bif pT k k' then kK f k (f a b) r else none
 |_,_::_=>none
def ir (f:Int→Int→Int):List V→bV
 | .c (.int k a)::r=>match kK f k a r with|some n=>xC (.c (.int k n))|none=>none
 |_=>none
def mM (ty:Nat→Option TI)(nid:Nat)(b:Builtin)(ts:List Nat)(xs:List V)(h:Nat→rA):bV:=match b,xs with
 | .len,[x]=>match ts with
  |t::_=>(match ty t,uO h x with
   |some ti,some (n,tc)=>bif Cy ti.tk x then some (true,{val:=.c (.int .i64 (n:Int)),touch:=tc})else none
   |_,_=>none)
  |_=>none
 | .max,xs=>ir tv xs
 | .min,xs=>ir H5 xs
 | .append,[d,s]=>match ts with
  |t::t2::_=>match ty t,ty t2 with
   |some ⟨.slice e,_,_,_⟩,some t2=>match t2.tk with
    | .slice _| .str=>(match ty e with|some ti=>gN ti h nid d s|none=>none)
    |_=>none
   |_,_=>none
  |_=>none
 | .copy,[d,s]=>match ts with
  |t::_=>match ty t with
   |some ⟨.slice e,_,_,_⟩=>match ty e with|some ti=>ll ti h d s|none=>none
   |_=>none
  |_=>none
 |_,_=>none
def gQ (ty:Nat→Option TI)(t:Nat)(x i:V)(h:Nat→rA):bV:=match i,ty t with
 | .c (.int _ n),some ⟨.slice e,_,_,_⟩=>match ty e with
  |none=>none
  |some te=>match x with
   | .sw id w=>bif Nat.beq w te.size then match h id with
    | .ints _ l=>some (decide (0≤n)&&decide (n<(wE w l.length:Nat)),{val:=.ptr id (rG w n.toNat) w,touch:=[id]})
    | .vals l=>some (decide (0≤n)&&decide (n<(wE w l.length:Nat)),{val:=.ptr id (rG w n.toNat) w,touch:=[id]})
    | .nl _ _ l=>some (decide (0≤n)&&decide (n<(wE w l.length:Nat)),{val:=.ptr id (rG w n.toNat) w,touch:=[id]})
    | .dead=>none
    | .mp _ _ _ _=>none
    | .it _ _ _ _=>none
    else none
   | .sl id w off len=>bif Nat.beq w te.size then kE (decide (0≤n)&&decide (n<(len:Int))) (.ptr id (off+rG w n.toNat) w)else none
   | .il k w l=>bif Nat.beq w te.size then kE (decide (0≤n)&&decide (n<(wE w l.length:Nat))) (.ilp k l (rG w n.toNat) w)else none
   | .iv m cols=>bif Nat.beq cols.length te.size then kE (decide (0≤n)&&decide (n<(m:Int))) (.ivp cols n.toNat 0 cols.length)else none
   |_=>none
 | .c (.int _ n),some ⟨.arr len e,_,_,_⟩=>match ty e with
  |none=>none
  |some te=>match x with
   | .ptr id off ext=>bif Nat.ble (len*te.size) ext then kE (decide (0≤n)&&decide (n<(len:Int))) (.ptr id (off+rG te.size n.toNat) te.size)else none
   | .ilp k l off ext=>bif Nat.ble (len*te.size) ext then kE (decide (0≤n)&&decide (n<(len:Int))) (.ilp k l (off+rG te.size n.toNat) te.size)else none
   | .ivp l i off ext=>bif Nat.ble (len*te.size) ext then kE (decide (0≤n)&&decide (n<(len:Int))) (.ivp l i (off+rG te.size n.toNat) te.size)else none
   |_=>none
 |_,_=>none
def ic (ty:Nat→Option TI)(t:Nat)(x i:V):bV:=match i,ty t,x with
 | .c (.int _ n),some ⟨.str,_,_,_⟩,.c (.string s)=>kE (decide (0≤n)&&decide (n<(s.size:Int))) (.c (.int .u8 (iG s n.toNat)))
 | .c (.int _ n),some ⟨.arr len e,_,_,_⟩,.agg cs=>match ty e with
  |none=>none
  |some te=>match aR (tQ cs (n.toNat*te.size)) te.size with
   |none=>none
   |some cs=>bif Nat.blt 0 te.size then kE (decide (0≤n)&&decide (n<(len:Int))) (vZ te cs)else none
 |_,_,_=>none
def tG:Option V→Int→Option Int
 |none,d=>some d
 |some (.c (.int _ n)),_=>some n
 |some _,_=>none
def wU (ty:Nat→Option TI)(t:Nat)(x:V)(lo hi mx:Option V)(h:Nat→rA):bV:=match ty t with
 |none=>none
 |some ti=>bif hi.isNone&&mx.isSome then none else match uO h x with
  |none=>(match ti.tk,x with
   | .arr n e,.ptr id off ext=>match ty e,tG lo 0,tG hi n,tG mx n with
    |some te,some l,some h,some m=>bif Nat.ble (n*te.size) ext&&Nat.blt 0 te.size then
      kE (decide (0≤l)&&decide (l≤h)&&decide (h≤m)&&decide (m≤(n:Int))) (.sl id te.size (off+rG te.size l.toNat) (h.toNat-l.toNat))else none
    |_,_,_,_=>none
   |_,_=>none)
  |some (len,tc)=>match tG lo 0,tG hi len,tG mx len with
   |some l,some h',some m=>
    let ok:=decide (0≤l)&&decide (l≤h')&&decide (h'≤m)&&decide (m≤(len:Int))
    match ti.tk,x with
    | .str,.c (.string s)=>(match mx with|none=>kE ok (.c (.string (s.extract l.toNat h'.toNat)))|some _=>none)
    | .slice e,.sw id w=>(match ty e with
     |some te=>bif Nat.beq w te.size then some (ok,{val:=.sl id w (rG w l.toNat) (h'.toNat-l.toNat),touch:=tc})else none
     |none=>none)
    | .slice e,.sl id w off _=>(match ty e with
     |some te=>bif Nat.beq w te.size then kE ok (.sl id w (off+rG w l.toNat) (h'.toNat-l.toNat))else none
     |none=>none)
    | .slice e,.il k w l0=>(match ty e with
     |some te=>bif Nat.beq w te.size then kE ok (.il k w ((l0.drop (rG w l.toNat)).take (rG w (h'.toNat-l.toNat))))else none
     |none=>none)
    | .slice e,.c (.slice none 0 0)=>(match ty e with
     |some _=>kE ok Di
     |none=>none)
    |_,_=>none
   |_,_,_=>none
def Jt (op:UnOp)(x:V):bV:=match op,x with
 | .neg,.c (.int k n)=>xC (.c (.int k (k.wrap (0-n))))
 | .not,.c (.bool b)=>xC (.c (.bool (!b)))
 | .xor,.c (.int k n)=>match fu .xor k (if k.signed then-1 else k.max) n with
  |some n=>xC (.c (.int k n))
  |none=>none
 |_,_=>none
def bj (ty:Nat→Option TI)(nid:Nat)(s d:Nat)(x:V)(h:Nat→rA):bV:=match ty s,ty d with
 |some ts,some td=>match td.tk,x with
  | .int k,.c (.int _ n)=>xC (.c (.int k (k.wrap n)))
  | .str,.c (.string s)=>xC (.c (.string s))
  | .str,.c (.slice none 0 0)=>(match ts.tk with
   | .slice e=>(match ty e with|some ⟨.int .u8,_,_,_⟩=>xC (.c (.string ByteArray.empty))|_=>none)
   |_=>none)
  | .slice e,.c (.string b)=>(match ty e with
   |some ⟨.int .u8,_,_,_⟩=>some (true,{val:=.sw nid 1,new:=[.ints .u8 (kG b)]})
   |_=>none)
  | .str,x=>(match ts.tk with
   | .slice e=>(match ty e,s7 h x with
    |some ⟨.int .u8,_,_,_⟩,some (.u8,w,l,t)=>bif Nat.beq w 1 then some (true,{val:=.c (.string (aJ l)),touch:=t})else none
    |_,_=>none)
   |_=>none)
  |_,_=>none
 |_,_=>none
def rS (ti:TI)(a:V)(h:Nat→rA):bV:=match a with
 | .ptr id off ext=>bif Nat.ble ti.size ext&&Nat.blt 0 ti.size then
   match zG ti off (h id)with
   |some v=>some (true,{val:=v,touch:=[id]})
   |none=>none
  else none
 | .ilp k l off ext=>bif Nat.ble ti.size ext&&Nat.blt 0 ti.size then
   match zG ti off (.ints k l)with
   |some v=>xC v
   |none=>none
  else none
 | .ivp l i off ext=>bif Nat.ble ti.size ext&&Nat.blt 0 ti.size then
   match zG ti off (.vals ((kN l i).map .c))with
   |some v=>xC v
   |none=>none
  else none
 |_=>none
def nY (ty:Nat→Option TI)(fs:List (Nat×Nat))(f:Nat)(x:V):bV:=match x with
 | .ptr id off ext=>(match wI ty fs f with
  |some (fo,fsz)=>bif Nat.ble (fo+fsz) ext&&Nat.blt 0 fsz then xC (.ptr id (off+fo) fsz)else none
  |none=>none)
 | .ilp k l off ext=>(match wI ty fs f with
  |some (fo,fsz)=>bif Nat.ble (fo+fsz) ext&&Nat.blt 0 fsz then xC (.ilp k l (off+fo) fsz)else none
  |none=>none)
 | .ivp l i off ext=>(match wI ty fs f with
  |some (fo,fsz)=>bif Nat.ble (fo+fsz) ext&&Nat.blt 0 fsz then xC (.ivp l i (off+fo) fsz)else none
  |none=>none)
 |_=>none
def bW:List Int→List Int→Bool
 | [],[]=>true
 |a::r,b::s=>(a==b)&&bW r s
 |_,_=>false
def cF (l:List Int):List (List Int)→Nat→Option Nat
 | [],_=>none
 |x::r,n=>bif bW l x then some n else cF l r (n+1)
def oQ (l:List Int)(ks:List (List Int)):Bool:=(cF l ks 0).isSome
def yB (l:List Int)(ks:List (List Int)):List (List Int):=bif oQ l ks then ks else ks++[l]
def nG {α:Type}(l:List Int)(x:α)(ks:List (List Int))(vs:List α):List α:=match cF l ks 0 with
 |some j=>vs.set j x
 |none=>vs++[x]
def yE (l:List Int)(ks:List (List Int))(vs:List Int):Int:=match cF l ks 0 with
 |some j=>vs.getD j 0
 |none=>0
def D7 (l:List Int)(ks:List (List Int))(vs:List Bool):Bool:=match cF l ks 0 with
 |some j=>vs.getD j false
 |none=>false
def Df (t:TI):Option sO:=match t.tk with
 | .int k=>some (.ints k [])
 | .bool=>some (.bools [])
 |_=>none
def mR (l:List Int)(ks:List (List Int)):sO→V→Option sO
 | .ints k vs,.c (.int k' x)=>bif pT k k' then some (.ints k (nG l x ks vs))else none
 | .bools vs,.c (.bool x)=>some (.bools (nG l x ks vs))
 |_,_=>none
def cH (l:List Int)(ks:List (List Int)):sO→Option V
 | .ints k vs=>some (.c (.int k (yE l ks vs)))
 | .bools vs=>some (.c (.bool (D7 l ks vs)))
 | .strs _=>none
def tl (k:IntKind)(n:Nat):V→Option (List Int)
 | .agg cs=>match cK k cs with
  |some l=>bif Nat.beq l.length n then some l else none
  |none=>none
 |_=>none
def jN (t:TI):sO→Bool
 | .ints k _=>match t.tk,t.zero with| .int k',[.int k'' z]=>pT k k'&&(pT k k''&&(z==0))|_,_=>false
 | .bools _=>match t.tk,t.zero with| .bool,[.bool z]=>!z|_,_=>false
 | .strs _=>false
def af (ty:Nat→Option TI):List (Nat×Nat)→Nat→Nat→Bool
 | [],_,0=>true
 |(t,off)::r,i,n+1=>Nat.beq off i&&((match ty t with|some ⟨.int _,_,_,_⟩=>true|_=>false)&&af ty r (i+1) n)
 |_,_,_=>false
def oK (ty:Nat→Option TI)(n:Nat)(t:TI):Bool:=match t.tk with| .struct fs=>af ty fs 0 n|_=>false
def kZ (ty:Nat→Option TI)(nid t:Nat):bV:=match ty t with
 |some ⟨.map kt et,_,_,_⟩=>match ty kt,ty et with
  |some tk,some te=>match wY tk,Df te with
   |some k,some c=>bif oK ty tk.size tk then some (true,{val:=.mref nid,new:=[.mp k tk.size [] c]})else none
   |_,_=>none
  |_,_=>none
 |_=>none
def qJ (ty:Nat→Option TI)(t:Nat)(m i:V)(ok:Bool)(h:Nat→rA):bV:=match ty t,m with
 |some ⟨.map kt et,_,_,_⟩,.mref id=>match h id,ty kt,ty et with
  | .mp k n ks vs,some tk,some te=>match tl k n i,cH (match tl k n i with|some l=>l|none=>[]) ks vs with
   |some l,some v=>bif oK ty n tk&&jN te vs then some (true,{val:=bif ok then .tup [v,.c (.bool (oQ l ks))]else v,touch:=[id]})else none
   |_,_=>none
  |_,_,_=>none
 |_,_=>none
def eH (ty:Nat→Option TI)(t:Nat)(m i x:V)(h:Nat→rA):bV:=match ty t,m with
 |some ⟨.map kt _,_,_,_⟩,.mref id=>match h id,ty kt with
  | .mp k n ks vs,some tk=>match tl k n i with
   |some l=>match mR l ks vs x with
    |some c=>bif oK ty n tk then some (true,{val:=eM,wr:=[(id,.mp k n (yB l ks) c)],touch:=[id]})else none
    |none=>none
   |none=>none
  |_,_=>none
 |_,_=>none
def lQ (n:Nat):sO→sO
 | .ints k l=>.ints k (l.take n)
 | .bools l=>.bools (l.take n)
 | .strs l=>.strs (l.take n)
def lE (l:List Int)(ks:List (List Int)):Int:=match cF l ks 0 with
 |some j=>(j:Int)
 |none=>(ks.length:Int)
def oH (ty:Nat→Option TI)(t:Nat)(m i:V)(h:Nat→rA):bV:=match ty t,m with
 |some ⟨.map kt et,_,_,_⟩,.mref id=>match h id,ty kt,ty et with
  | .mp k n ks vs,some tk,some te=>match tl k n i,cH (match tl k n i with|some l=>l|none=>[]) ks vs with
   |some l,some v=>match mR l ks (lQ ks.length vs) v with
    |some c=>bif oK ty n tk&&jN te vs then some (true,{val:=.tup [v,.c (.int .i64 (lE l ks))],wr:=[(id,.mp k n (yB l ks) c)],touch:=[id]})else none
    |none=>none
   |_,_=>none
  |_,_,_=>none
 |_,_=>none
def vb (j:Nat):sO→V→Option sO
 | .ints k vs,.c (.int k' x)=>bif pT k k' then some (.ints k (vs.set j x))else none
 | .bools vs,.c (.bool x)=>some (.bools (vs.set j x))
 |_,_=>none
def jH (m s x:V)(h:Nat→rA):bV:=match m,s with
 | .mref id,.c (.int .i64 q)=>match h id with
  | .mp k n ks vs=>match vb q.toNat vs x with
   |some c=>some (decide (0≤q)&&decide (q<(ks.length:Int)),{val:=eM,wr:=[(id,.mp k n ks c)],touch:=[id]})
   |none=>none
  |_=>none
 |_,_=>none
def It:sO→Nat→V
 | .ints k l,i=>.c (.int k (l.getD i 0))
 | .bools l,i=>.c (.bool (l.getD i false))
 | .strs l,i=>.c (.string (l.getD i ByteArray.empty))
def sU (ty:Nat→Option TI)(nid t:Nat)(m:V)(h:Nat→rA):bV:=match ty t,m with
 |some ⟨.map _ _,_,_,_⟩,.mref id=>match h id with
  | .mp _ _ ks _=>some (true,{val:=.ptr nid 0 0,new:=[.it (some id) ks.length (List.range ks.length) ks.length],touch:=[id]})
  |_=>none
 |_,_=>none
def bU (m:V)(h:Nat→rA):bV:=match m with
 | .ptr id 0 _=>match h id with
  | .it (some mid) wE _ cur=>(match h mid with
   | .mp k n ks vs=>some (Nat.beq ks.length wE&&Nat.blt cur ks.length,{val:=.tup [.agg (tN k (ks.getD cur []) 0 n),It vs cur],touch:=[id,mid]})
   |_=>none)
  |_=>none
 |_=>none
def tO (ty:Nat→Option TI)(nid:Nat)(o:Op)(ev:Operand→V)(h:Nat→rA):bV:=match o with
 | .move x| .assign x=>xC (ev x)
 | .pick c a b=>match ev c with
  | .c (.bool b')=>xC (Dw b' (ev a) (ev b))
  |_=>none
 | .alloc t=>match ty t with
  |some ti=>some (true,{val:=.ptr nid 0 ti.size,new:=[.vals (tL ti)]})
  |none=>none
 | .box t x=>match ty t with
  |some ti=>match rF (ev x)with
   |some vs=>bif Nat.beq vs.length ti.size then some (true,{val:=.ptr nid 0 ti.size,new:=[.vals vs]})else none
   |none=>none
  |none=>none
 | .build t ps=>match ty t with
  |some ti=>(match ti.tk with
   | .struct fs=>bif fs.all (fun p=>(ty p.1).isSome)then
     (match gK (wI ty fs) (tL ti) (ps.toList.map fun p=>(p.1,ev p.2))with
     |some cs=>xC (.agg cs)
     |none=>none)else none
   | .arr _ e=>match ty e with
    |some te=>match gK (fun i=>some (i*te.size,te.size)) (tL ti) (ps.toList.map fun p=>(p.1,ev p.2))with
     |some cs=>xC (.agg cs)
     |none=>none
    |none=>none
   |_=>none)
  |none=>none
 | .buildSlice t len ps=>match ty t with
  |some ⟨.slice e,_,_,_⟩=>match ty e with
   |some te=>bif Nat.ble (len*te.size) 16777216&&Nat.blt 0 te.size then
     match gK (fun i=>some (i*te.size,te.size)) (aj len (tL te)) (ps.toList.map fun p=>(p.1,ev p.2))with
     |some cs=>match xf te cs with
      |some b=>some (true,{val:=.sw nid te.size,new:=[b]})
      |none=>none
     |none=>none
    else none
   |none=>none
  |_=>none
 | .load t a=>match ty t with
  |some ti=>rS ti (ev a) h
  |none=>none
 | .store t a x=>match ty t,ev a with
  |some ti,.ptr id off ext=>match rF (ev x)with
   |some vs=>bif Nat.ble ti.size ext&&Nat.beq vs.length ti.size then
    match eI off vs (h id)with
    |some b=>some (true,{val:=eM,wr:=[(id,b)],touch:=[id]})
    |none=>none
    else none
   |none=>none
  |_,_=>none
 | .nilCheck x=>match ev x with
  | .ptr id off ext=>xC (.ptr id off ext)
  | .ilp k l off ext=>xC (.ilp k l off ext)
  | .ivp l i off ext=>xC (.ivp l i off ext)
  |_=>none
 | .binOp op t x y _=>Ht ty t op (ev x) (ev y)
 | .unOp op _ x=>Jt op (ev x)
 | .convert s d x=>bj ty nid s d (ev x) h
 | .makeFunc (.func f) first cap=>xC (.fn f (first.toList.map ev) (cap.toList.map ev))
 | .makeSlice t l c=>match ty t,ev l,ev c with
  |some ⟨.slice e,_,_,_⟩,.c (.int .i64 n),.c (.int .i64 m)=>match ty e with
   |some te=>match wY te,te.zero with
    |some k,_=>bif te.zero.all (fun| .int _ z=>z==0|_=>false)then
      some (decide (n=m)&&decide (0≤n)&&decide (n≤9223372036854775807)&&jB n.toNat te.bytes,{val:=.sw nid te.size,new:=[.ints k (List.replicate (rG te.size n.toNat) 0)]})else none
    |none,_=>none
   |none=>none
  |_,_,_=>none
 | .slice t x lo hi mx=>wU ty t (ev x) (lo.map ev) (hi.map ev) (mx.map ev) h
 | .fieldAddr t x f=>match ty t with
  |some ⟨.struct fs,_,_,_⟩=>nY ty fs f (ev x)
  |_=>none
 | .field t x f=>match ty t,ev x with
  |some ⟨.struct fs,_,_,_⟩,.agg cs=>match fs[f]? with
   |some (t,fo)=>match ty t with
    |some te=>match aR (tQ cs fo) te.size with
     |some cs=>bif Nat.blt 0 te.size then xC (vZ te cs)else none
     |none=>none
    |none=>none
   |none=>none
  |_,_=>none
 | .indexAddr t x i=>gQ ty t (ev x) (ev i) h
 | .index t x i=>ic ty t (ev x) (ev i)
 | .extract t i=>match ev t with
  | .tup vs=>match so vs i with|some v=>xC v|none=>none
  |_=>none
 | .call ⟨.builtin b,args,ts⟩=>mM ty nid b ts.toList (args.toList.map ev) h
 | .makeMap t none=>kZ ty nid t
 | .range t x=>sU ty nid t (ev x) h
 | .entry x=>bU (ev x) h
 | .lookup t m i ok=>qJ ty t (ev m) (ev i) ok h
 | .mapUpdate t m i x=>eH ty t (ev m) (ev i) (ev x) h
 | .insert t m i x=>eH ty t (ev m) (ev i) (ev x) h
 | .mapEntry t m i=>oH ty t (ev m) (ev i) h
 | .entryStore _ m s x=>jH (ev m) (ev s) (ev x) h
 |_=>none
def vO (tab:Nat→Option uA):Op→Nat
 | .alloc _| .box .. | .buildSlice .. | .makeSlice .. | .makeMap .. | .range .. =>1
 | .convert .. =>1
 | .call ⟨.builtin .append,_,_⟩=>1
 | .call ⟨.value (.func f),_,_⟩=>(match tab f with|some e=>e.fresh|none=>0)
 | .call ⟨.value (.tmp _),_,_⟩=>1
 |_=>0
mutual
def cO:V→List Nat
 | .ptr id _ _=>[id]
 | .sw id _=>[id]
 | .sl id _ _ _=>[id]
 | .mref id=>[id]
 | .agg cs=>yF cs
 | .tup cs=>yF cs
 | .fn _ a b=>yF a++yF b
 |_=>[]
def yF:List V→List Nat
 | []=>[]
 |v::r=>cO v++yF r
end
def eT:rA→List Nat
 | .vals cs=>yF cs
 | .it (some mid) _ _ _=>[mid]
 |_=>[]
def eN (σ:List Nat):List Nat→List Nat
 | []=>σ
 |i::r=>bif σ.any (Nat.beq i)then eN σ r else eN (σ++[i]) r
def qV (h:Nat→rA):Nat→List Nat→List Nat
 |0,σ=>σ
 |n+1,σ=>qV h n (eN σ (σ.flatMap fun i=>eT (h i)))
def zH (i:Nat):List Nat→Nat→Option Nat
 | [],_=>none
 |j::r,n=>bif Nat.beq j i then some n else zH i r (n+1)
mutual
def Ja (m:Nat→Option Nat):V→V
 | .ptr id off ext=>match m id with|some j=>.ptr j off ext|none=>.poison
 | .sw id w=>match m id with|some j=>.sw j w|none=>.poison
 | .sl id w off len=>match m id with|some j=>.sl j w off len|none=>.poison
 | .mref id=>match m id with|some j=>.mref j|none=>.poison
 | .agg cs=>.agg (pR m cs)
 | .tup cs=>.tup (pR m cs)
 | .fn f a b=>.fn f (pR m a) (pR m b)
 | .c v=>.c v
 | .poison=>.poison
 | .il k w l=>.il k w l
 | .iv w l=>.iv w l
 | .ilp k l off ext=>.ilp k l off ext
 | .ivp l i off ext=>.ivp l i off ext
def pR (m:Nat→Option Nat):List V→List V
 | []=>[]
 |v::r=>Ja m v::pR m r
end
def bM (m:Nat→Option Nat):rA→rA
 | .vals cs=>.vals (pR m cs)
 | .dead=>.dead
 | .ints k l=>.ints k l
 | .mp k n ks vs=>.mp k n ks vs
 | .it mid wE rem cur=>.it (mid.bind m) wE rem cur
 | .nl k s jD=>.nl k s jD
def yH (σ:List Nat)(nid:Nat)(j:Nat):Option Nat:=
 match σ[j]? with
 |some i=>some i
 |none=>some (nid+(j-σ.length))
def an:List Nat→List rA→List (Nat×rA)
 |i::r,b::s=>(i,b)::an r s
 |_,_=>[]
def bl:List rA→Nat→List rA
 |l,0=>l
 | [],_+1=>[]
 |_::r,n+1=>bl r n
mutual
def jI (h:Nat→rA):V→V×List Nat
 | .sw id w=>(match h id with
  | .ints k l=>(.il k w l,[id])
  |_=>(.sw id w,[]))
 | .sl id w off len=>(match h id with
  | .ints k l=>(.il k w ((l.drop off).take (rG w len)),[id])
  |_=>(.sl id w off len,[]))
 | .agg cs=>(.agg (fU h cs).1,(fU h cs).2)
 |v=>(v,[])
def fU (h:Nat→rA):List V→List V×List Nat
 | []=>([],[])
 |v::r=>((jI h v).1::(fU h r).1,(jI h v).2++(fU h r).2)
end
def wD (h:Nat→rA):List Bool→List V→List V×List Nat
 |true::bs,v::r=>((jI h v).1::(wD h bs r).1,(jI h v).2++(wD h bs r).2)
 |false::bs,v::r=>(v::(wD h bs r).1,(wD h bs r).2)
 | [],vs=>(vs,[])
 |_,[]=>([],[])
mutual
def wG:V→Bool
 | .il _ _ _=>false
 | .iv _ _=>false
 | .ilp _ _ _ _=>false
 | .ivp _ _ _ _=>false
 | .agg cs=>yN cs
 | .tup cs=>yN cs
 | .fn _ a b=>yN a&&yN b
 |_=>true
def yN:List V→Bool
 | []=>true
 |v::r=>wG v&&yN r
end
def iJ:rA→Bool
 | .vals cs=>yN cs
 | .nl _ _ _=>false
 |_=>true
def oG (σ τ:List Nat)(nid:Nat)(v:V)(bs:List rA):sH:=
 {val:=Ja (yH σ nid) v,
  wr:=an σ (bs.map (bM (yH σ nid)))++(bif wG v&&bs.all iJ then []else τ.map fun i=>(i,.dead)),
  new:=bl (bs.map (bM (yH σ nid))) σ.length,
  touch:=σ++τ}
def nodup:List Nat→Bool
 | []=>true
 |i::r=>!(r.any (Nat.beq i))&&nodup r
def mZ (a b:List Nat):Bool:=a.any fun i=>b.any (Nat.beq i)
def C4 {R:Type}(tab:Nat→Option uA)(nid:Nat)(f:Nat)(args:List V)(h:Nat→rA)(k:sH→Option R):Option R:=
 match tab f with
 |none=>none
 |some e=>
  let at_:=wD h e.imm args
  let σ:=qV h 3 (eN [] (yF at_.1))
  match e.dec (pR (zH · σ 0) at_.1) (σ.map fun i=>bM (zH · σ 0) (h i))with
  |none=>none
  |some (m,enc)=>m.bind fun a=>(enc a).go fun v bs=>
   bif Nat.ble bs.length (σ.length+e.fresh)&&Nat.ble σ.length bs.length&&nodup σ&& !mZ σ at_.2 then k (oG σ at_.2 nid v bs)else none
structure Fp where
 i:Nat
 touch:List Nat
 wr:List Nat
def An (T:List (Nat×V))(d:Option Nat)(v:V):List (Nat×V):=match d with
 |some d=>(d,v)::T
 |none=>T
def gg {R:Type}(E:jC)(nid:Nat)(o:Oper)(T:List (Nat×V))(h:Nat→rA)(k:sH→Option R):Option R:=match o.op with
 | .call ⟨.value f,args,_⟩=>match Hw T f with
  | .fn g first cap=>C4 E.tab nid g (first++(args.toList.map (Hw T)++cap)) h k
  |_=>none
 |op=>match tO E.ty nid op (Hw T) h with
  |none=>none
  |some (ok,out)=>bif ok then k out else none
def Dp (H:List rA)(nid rm:Nat)(out:sH):Bool:=Nat.ble out.new.length rm&&Nat.ble (nid+rm) H.length&&out.wr.all fun p=>Nat.blt p.1 H.length
def wh (n:Nat):Option Nat→Bool
 |none=>true
 |some d=>Nat.blt d n
def kY {R:Type}(E:jC)(all:List Oper):Nat→List Oper→Nat→List (Nat×V)→List rA→List Fp→(St→List Fp→Option R)→Option R
 |_,[],_,T,H,fps,k=>k ⟨T,H⟩ fps
 |i,o::rest,nid,T,H,fps,k=>
  let go (T:List (Nat×V)):Option R:=
   gg E nid o T (qA H) fun out=>bif Dp H nid (vO E.tab o.op) out then
    kY E all (i+1) rest (nid+vO E.tab o.op) (An T o.dst out.val) (Dh (Bg H out.wr) nid out.new)
     (⟨i,out.touch,out.wr.map (·.1)++(List.range out.new.length).map (nid+ ·)⟩::fps) k
    else none
  let skip (T:List (Nat×V)):Option R:=
   kY E all (i+1) rest (nid+vO E.tab o.op) (An T o.dst eM) H (⟨i,[],[]⟩::fps) k
  bif wh E.ntmps o.dst then
   match o.guard with
   |none=>go T
   |some (j,want)=>match(all[j]?).bind (·.dst)with
    |none=>none
    |some g=>match iE T g with
     | .c (.bool true)=>bif want then go ((g,.c (.bool true))::T)else skip ((g,.c (.bool true))::T)
     | .c (.bool false)=>bif want then skip ((g,.c (.bool false))::T)else go ((g,.c (.bool false))::T)
     | .c (.tuple _)=>skip T
     |_=>none
  else none
def bL:List Oper→List Nat→List Nat
 | [],acc=>acc.reverse
 |o::r,acc=>
  bL r ((((o.after.toList.filter (Region.binds .any)).map (·.on)).foldl (fun m d=>m|||(1<<<d)|||acc.reverse.getD d 0) 0)::acc)
def Ep (xs:List Operand):List Nat:=xs.filterMap fun| .tmp t=>some t|_=>none
def mV (all:List Oper)(o:Oper):List Nat:=
 Ep o.op.operands.toList++(match o.guard with
  |some (j,_)=>((all[j]?).bind (·.dst)).toList
  |none=>[])
def Bw (all:List Oper)(x y:Oper):Bool:=
 (match x.dst with
  |some d=>!((mV all y).any (Nat.beq d))&& !(y.dst.toList.any (Nat.beq d))
  |none=>true)&&
 (match y.dst with
  |some d=>!((mV all x).any (Nat.beq d))
  |none=>true)
def ie (x y:Op):Bool:=match x,y with
 | .lookup t (.tmp a) (.tmp b) false,.mapEntry t' (.tmp a') (.tmp b')=>Nat.beq t t'&&(Nat.beq a a'&&Nat.beq b b')
 |_,_=>false
def aZ (all:List Oper)(bef:List Nat)(x y:Fp):Bool:=
 (bef.getD y.i 0).testBit x.i||
 (Bw all (all.getD x.i default) (all.getD y.i default)&&(!mZ x.touch y.wr||ie (all.getD x.i default).op (all.getD y.i default).op)&& !mZ x.wr y.touch&& !mZ x.wr y.wr)
def iz (all:List Oper)(bef:List Nat):List Fp→Bool
 | []=>true
 |y::r=>r.all (fun x=>aZ all bef x y)&&iz all bef r
def jM:Nat→List Oper→Bool
 |_,[]=>true
 |i,o::r=>o.after.toList.all (fun e=>!Region.binds .any e||Nat.blt e.on i)&&jM (i+1) r
def Dx (ops:List Oper):Bool:=ops.all fun o=>match o.op with
 | .select .. | .go _| .defer _=>false
 |_=>true
def yW (tab:Nat→Option uA):List Oper→Nat
 | []=>0
 |o::r=>vO tab o.op+yW tab r
def lY {R:Type}(E:jC)(ops:Array Oper)(draw:Bool)(s:St)(k:St→Option R):Option R:=
 kY E ops.toList 0 ops.toList s.H.length s.T (s.H++List.replicate (yW E.tab ops.toList) .dead) [] fun s' fps=>
  bif !draw||(jM 0 ops.toList&&Dx ops.toList&&iz ops.toList (bL ops.toList []) fps)then k s' else none
noncomputable def bY {R:Type}(n:Nat)(f:Nat→Option R):Option R:=by
 classical exact if h:0<n∧∃r,∀i,i<n→f i=some r then some (Classical.choose h.2)else none
noncomputable def rz {R:Type}(d1 d2:Nat)(it:V)(T:List (Nat×V))(H:List rA)(k:St→Option R):Option R:=match it with
 | .ptr id 0 _=>match qA H id with
  | .it (some mid) wE rem _=>(match qA H mid with
   | .mp _ _ ks _=>bif Nat.beq ks.length wE then(bif rem.isEmpty then k ⟨(d2,.c (.bool false))::(d1,.poison)::T,H⟩
     else bY rem.length fun p=>k ⟨(d2,.c (.bool true))::(d1,.poison)::T,uD H id (.it (some mid) wE (rem.eraseIdx p) (rem.getD p 0))⟩)else none
   |_=>none)
  |_=>none
 |_=>none
def tj:List Oper→Option (Operand×Nat×Nat)
 | [o1,o2]=>match o1.op,o1.dst,o1.guard,o2.op,o2.dst,o2.guard with
  | .next it false,some d1,none,.extract (.tmp t) 0,some d2,none=>bif Nat.beq t d1 then some (it,d1,d2)else none
  |_,_,_,_,_,_=>none
 |_=>none
structure o9 where
 src:List (Option Nat)
 blks:List rA
def uC (id:Nat):List (Option Nat)→Nat→Option Nat
 | [],_=>none
 |some j::r,n=>bif Nat.beq j id then some n else uC id r (n+1)
 |none::r,n=>uC id r (n+1)
def A0 (src:List (Option Nat)):List V→Option (List V)
 | []=>some []
 | .ptr id off ext::r=>(match uC id src 0,A0 src r with
   |some j,some r'=>some (.ptr j off ext::r')
   |_,_=>none)
 |_::_=>none
mutual
def yQ (h:Nat→rA):Sh→V→o9→Option (V×o9)
 | .any,v,a=>bif (cO v).isEmpty then some (v,a)else
   (match v with
    | .ptr id off ext=>(match uC id a.src 0 with
     |some j=>some (.ptr j off ext,a)
     |none=>match h id with
      | .ints k l=>some (.ptr a.src.length off ext,⟨a.src++[some id],a.blks++[.ints k l]⟩)
      | .vals cs=>bif (yF cs).isEmpty then some (.ptr a.src.length off ext,⟨a.src++[some id],a.blks++[.vals cs]⟩)else none
      | .dead=>none
      | .nl _ _ _=>none
      | .mp _ _ _ _=>none
      | .it (some mid) wE rem cur=>(match uC mid a.src 0 with
       |some j=>some (.ptr a.src.length off ext,⟨a.src++[some id],a.blks++[.it (some j) wE rem cur]⟩)
       |none=>match h mid with
        | .mp k n ks vs=>some (.ptr (a.src.length+1) off ext,⟨(a.src++[some mid])++[some id],(a.blks++[.mp k n ks vs])++[.it (some a.src.length) wE rem cur]⟩)
        |_=>none)
      | .it none _ _ _=>none)
    | .sw id w=>(match uC id a.src 0 with
     |some j=>some (.sw j w,a)
     |none=>match h id with
      | .ints k l=>some (.sw a.src.length w,⟨a.src++[some id],a.blks++[.ints k l]⟩)
      | .vals cs=>bif (yF cs).isEmpty then some (.sw a.src.length w,⟨a.src++[some id],a.blks++[.vals cs]⟩)else none
      | .nl k s jD=>some (.sw a.src.length w,⟨a.src++[some id],a.blks++[.nl k s jD]⟩)
      | .dead=>none
      | .mp _ _ _ _=>none
      | .it _ _ _ _=>none)
    | .sl id w off len=>(match uC id a.src 0 with
     |some j=>some (.sl j w off len,a)
     |none=>match h id with
      | .ints k l=>some (.sl a.src.length w off len,⟨a.src++[some id],a.blks++[.ints k l]⟩)
      | .vals cs=>bif (yF cs).isEmpty then some (.sl a.src.length w off len,⟨a.src++[some id],a.blks++[.vals cs]⟩)else none
      | .dead=>none
      | .nl _ _ _=>none
      | .mp _ _ _ _=>none
      | .it _ _ _ _=>none)
    | .mref id=>(match uC id a.src 0 with
     |some j=>some (.mref j,a)
     |none=>match h id with
      | .mp k n ks vs=>some (.mref a.src.length,⟨a.src++[some id],a.blks++[.mp k n ks vs]⟩)
      |_=>none)
    | .fn f va vc=>(match A0 a.src va,A0 a.src vc with
     |some va',some vc'=>some (.fn f va' vc',a)
     |_,_=>none)
    |_=>none)
 | .row k w,v,a=>(match v with
   | .c (.slice none 0 0)=>bif Nat.blt 0 w then some (.sw a.src.length w,⟨a.src++[none],a.blks++[.ints k []]⟩)else none
   | .sw id w'=>bif Nat.beq w w' then(match uC id a.src 0 with
     |some j=>some (.sw j w,a)
     |none=>match h id with
      | .ints k' l=>bif pT k k' then some (.sw a.src.length w,⟨a.src++[some id],a.blks++[.ints k' l]⟩)else none
      |_=>none)else none
   |_=>none)
 | .part k w,v,a=>(match v with
   | .c (.slice none 0 0)=>bif Nat.blt 0 w then some (.sl a.src.length w 0 0,⟨a.src++[none],a.blks++[.ints k []]⟩)else none
   | .sw id w'=>bif Nat.beq w w' then(match h id with
     | .ints k' l=>bif pT k k' then(match uC id a.src 0 with
      |some j=>some (.sl j w 0 (wE w l.length),a)
      |none=>some (.sl a.src.length w 0 (wE w l.length),⟨a.src++[some id],a.blks++[.ints k' l]⟩))else none
     |_=>none)else none
   | .sl id w' off len=>bif Nat.beq w w' then(match h id with
     | .ints k' l=>bif pT k k' then(match uC id a.src 0 with
      |some j=>some (.sl j w' off len,a)
      |none=>some (.sl a.src.length w' off len,⟨a.src++[some id],a.blks++[.ints k' l]⟩))else none
     |_=>none)else none
   |_=>none)
 | .il k w,v,a=>(match v with
   | .c (.slice none 0 0)=>bif Nat.blt 0 w then some (.il k w [],a)else none
   | .il k' w' l=>bif pT k k'&&Nat.beq w w' then some (.il k' w' l,a)else none
   |_=>none)
 | .box ss,v,a=>(match v with
   | .ptr id off ext=>(match uC id a.src 0 with
     |some j=>some (.ptr j off ext,a)
     |none=>match h id with
      | .vals cs=>(match jJ h ss cs ⟨a.src++[some id],a.blks++[.dead]⟩with
       |some (cs',a')=>some (.ptr a.src.length off ext,⟨a'.src,uD a'.blks a.src.length (.vals cs')⟩)
       |none=>none)
      |_=>none)
   |_=>none)
 | .nrow k s,v,a=>(match v with
   | .c (.slice none 0 0)=>some (.sw a.src.length 1,⟨a.src++[none],a.blks++[.nl k s []]⟩)
   | .sw id w'=>bif Nat.beq 1 w' then(match uC id a.src 0 with
     |some j=>some (.sw j 1,a)
     |none=>match h id with
      | .nl k' s' jD=>bif pT k k'&&Nat.beq s s' then some (.sw a.src.length 1,⟨a.src++[some id],a.blks++[.nl k' s' jD]⟩)else none
      |_=>none)else none
   |_=>none)
 | .recd ss,v,a=>(match v with
   | .agg cs=>(match jJ h ss cs a with
    |some (cs',a')=>some (.agg cs',a')
    |none=>none)
   |_=>none)
 | .tup ss,v,a=>(match v with
   | .tup cs=>(match jJ h ss cs a with
    |some (cs',a')=>some (.tup cs',a')
    |none=>none)
   |_=>none)
def jJ (h:Nat→rA):List Sh→List V→o9→Option (List V×o9)
 | [],[],a=>some ([],a)
 |s::ss,v::vs,a=>(match yQ h s v a with
   |some (v',a')=>(match jJ h ss vs a' with
    |some (vs',a'')=>some (v'::vs',a'')
    |none=>none)
   |none=>none)
 |_,_,_=>none
end
def yG (nb:Nat)(H:List rA):o9:=⟨(List.range nb).map some,H.take nb⟩
def xT (nb:Nat):List rA→Bool
 | []=>true
 |b::r=>(eT b).all (fun i=>Nat.blt i nb)&&xT nb r
def nu (nb:Nat)(keep:List (Nat×Sh))(s:St):Option (List V×List rA):=
 match jJ (qA s.H) (keep.map (·.2)) (keep.map fun p=>iE s.T p.1) (yG nb s.H)with
 |some (vs,a)=>bif xT nb (s.H.take nb)then some (vs,a.blks)else none
 |none=>none
def rM:List (Nat×List Sh)→List rA→List rA
 | [],H=>H
 |p::r,H=>rM r (uD H p.1 .dead)
def o8 (h:Nat→rA):List (Nat×List Sh)→o9→Option o9
 | [],a=>some a
 |p::r,a=>(match h p.1 with
   | .vals cs=>(match jJ h p.2 cs a with
    |some (cs',a')=>o8 h r ⟨a'.src,uD a'.blks p.1 (.vals cs')⟩
    |none=>none)
   |_=>none)
def Dk (nb:Nat)(bsh:List (Nat×List Sh))(keep:List (Nat×Sh))(s:St):Option (List V×List rA):=
 match jJ (qA s.H) (keep.map (·.2)) (keep.map fun p=>iE s.T p.1) ⟨(List.range nb).map some,rM bsh (s.H.take nb)⟩with
 |some (vs,a)=>(match o8 (qA s.H) bsh a with
   |some a'=>bif xT nb (rM bsh (s.H.take nb))&&bsh.all (fun p=>Nat.blt p.1 nb)then some (vs,a'.blks)else none
   |none=>none)
 |none=>none
def fC:List (Nat×Sh)→List V→List (Nat×V)
 |(t,_)::r,v::vs=>(t,v)::fC r vs
 |_,_=>[]
mutual
def xL (nb:Nat)(h:Nat→rA):Sh→V→Option V
 | .il k w,v=>(match v with
   | .c (.slice none 0 0)=>bif Nat.blt 0 w then some (.il k w [])else none
   | .il k' w' l=>bif pT k k'&&Nat.beq w w' then some (.il k' w' l)else none
   | .sw id w'=>bif Nat.ble nb id&&Nat.beq w w' then(match h id with
     | .ints k' l=>bif pT k k' then some (.il k' w l)else none
     |_=>none)else none
   | .sl id w' off len=>bif Nat.ble nb id&&Nat.beq w w' then(match h id with
     | .ints k' l=>bif pT k k' then some (.il k' w ((l.drop off).take (rG w len)))else none
     |_=>none)else none
   |_=>none)
 | .recd ss,v=>(match v with
   | .agg cs=>(match wH nb h ss cs with|some cs'=>some (.agg cs')|none=>none)
   |_=>none)
 | .tup ss,v=>(match v with
   | .tup cs=>(match wH nb h ss cs with|some cs'=>some (.tup cs')|none=>none)
   |_=>none)
 |_,v=>bif (cO v).all (fun i=>Nat.blt i nb)then some v else none
def wH (nb:Nat)(h:Nat→rA):List Sh→List V→Option (List V)
 | [],[]=>some []
 |s::ss,v::vs=>(match xL nb h s v with
   |some v'=>(match wH nb h ss vs with|some vs'=>some (v'::vs')|none=>none)
   |none=>none)
 |_,_=>none
end
def uk (E:jC)(s:St):List ResultVar→Option (List V)
 | []=>some []
 | .tmp t::r=>(match uk E s r with|some vs=>some (iE s.T t::vs)|none=>none)
 | .cell a t::r=>(match E.ty t,iE s.T a with
   |some ti,.ptr id off ext=>bif Nat.ble ti.size ext&&Nat.blt 0 ti.size then
     (match zG ti off (qA s.H id),uk E s r with
      |some v,some vs=>some (v::vs)
      |_,_=>none)else none
   |_,_=>none)
def one (vs:List V):V:=match vs with
 | [v]=>v
 |vs=>.tup vs
def qj:Nat→List Sh→List (Nat×Sh)
 |_,[]=>[]
 |i,s::r=>(i,s)::qj (i+1) r
def jP:Nat→List V→List (Nat×V)
 |_,[]=>[]
 |i,v::r=>(i,v)::jP (i+1) r
def fin (E:jC)(s:St):Option (V×List rA):=
 match uk E s E.res with
 |none=>none
 |some vs=>bif E.own then
   (match Dk E.nb E.bsh (qj 0 E.rsh) ⟨jP 0 vs,s.H⟩with
    |none=>none
    |some (vs',H')=>bif Nat.beq vs.length E.rsh.length&&Nat.beq vs'.length E.rsh.length then some (one vs',H')else none)
  else match wH E.nb (qA s.H) E.rsh vs with
  |none=>none
  |some vs=>bif xT E.nb (s.H.take E.nb)then some (one vs,s.H.take E.nb)else none
def lH:Code→Option Nat
 | .region id _ _=>some id
 | .seq a b=>match lH a with
  |some i=>some i
  |none=>lH b
 | .cond _ x y=>match lH x with
  |some i=>some i
  |none=>lH y
 | .block _ b| .loop b| .scope b=>lH b
 |_=>none
def nD (c:Code):Nat:=(lH c).getD 0
def dB {R:Type}(nb:Nat)(hd:cC)(f:St→(Ex→St→Option R)→Option R):Nat→List V→List rA→(Ex→St→Option R)→Option R
 |0,_,_,_=>none
 |n+1,vs,H,k=>f ⟨fC hd.keep vs,H⟩ fun ex s=>match ex with
  | .normal=>(match nu nb hd.keep s with
   |some (vs,H)=>dB nb hd f n vs H k
   |none=>none)
  | .ret v bs=>k (.ret v bs) .nil
  |e=>(match nu nb hd.out s with
   |some (vs,H)=>k e ⟨fC hd.out vs,H⟩
   |none=>none)
def pN {R:Type}(nb:Nat)(hd:cC)(f:Code→St→(Ex→St→Option R)→Option R)(body:Code):Nat→Code→List V→List rA→(Ex→St→Option R)→Option R
 |0,_,_,_,_=>none
 |n+1,c,vs,H,k=>f c ⟨fC hd.keep vs,H⟩ fun ex s=>match ex with
  | .goto l=>(match findLabel body l with
   |some rest=>(match nu nb hd.keep s with
    |some (vs,H)=>pN nb hd f body n rest vs H k
    |none=>none)
   |none=>none)
  | .ret v bs=>k (.ret v bs) .nil
  |e=>(match nu nb hd.out s with
   |some (vs,H)=>k e ⟨fC hd.out vs,H⟩
   |none=>none)
def fR:Code→Nat→Bool
 | .goto _,_=>true
 | .seq a b,n=>fR a n||fR b n
 | .cond _ a b,n=>fR a n||fR b n
 | .block _ b,n| .loop b,n| .scope b,n=>fR b n
 |_,_=>false
noncomputable def bB {R:Type}(E:jC):Nat→Code→St→(Ex→St→Option R)→Option R
 |0,_,_,_=>none
 |d+1,c,s,k=>match c with
  | .skip=>k .normal s
  | .label _=>k .normal s
  | .region _ ops draw=>match tj ops.toList with
   |some (it,d1,d2)=>bif !draw&&(Nat.blt d1 E.ntmps&&(Nat.blt d2 E.ntmps))then rz d1 d2 (Hw s.T it) s.T s.H (fun s'=>k .normal s')else none
   |none=>lY E ops draw s fun s'=>k .normal s'
  | .seq a b=>bB E d a s fun ex s'=>match ex with
   | .normal=>bB E d b s' k
   |e=>k e s'
  | .cond c x y=>match Hw s.T c with
   | .c (.bool b)=>bif b then bB E d x s k else bB E d y s k
   |_=>none
  | .block id b=>bB E d b s fun ex s'=>match ex with
   | .exit i=>bif Nat.beq i id then k .normal s' else k (.exit i) s'
   |e=>k e s'
  | .loop b=>match E.hint (nD b)with
   |none=>none
   |some hd=>match nu E.nb hd.keep s with
    |none=>none
    |some (vs,H)=>match E.cut (nD b)with
     |some e=>e.run vs H k
     |none=>dB E.nb hd (fun s k=>bB E d b s k) E.N vs H k
  | .scope b=>bif fR b 0 then
    match E.hint (1000000+nD b)with
    |none=>none
    |some hd=>match nu E.nb hd.keep s with
     |none=>none
     |some (vs,H)=>match E.cut (1000000+nD b)with
      |some e=>e.run vs H k
      |none=>pN E.nb hd (fun c s k=>bB E d c s k) b E.N b vs H k
   else bB E d b s fun ex s'=>match ex with
    | .goto _=>none
    |e=>k e s'
  | .exit id=>k (.exit id) s
  | .goto l=>k (.goto l) s
  | .ret=>match fin E s with
   |some (v,bs)=>k (.ret v bs) .nil
   |none=>none
  |_=>none
def cJ {α:Type _}:List (Nat×α)→Nat→Option α
 | [],_=>none
 |(a,v)::r,t=>bif Nat.beq a t then some v else cJ r t
def Gv:Nat:=400
noncomputable def aB {R:Type}(E:jC)(body:Code)(args:List V)(bs:List rA)(k:V→List rA→Option R):Option R:=
 bB E Gv body ⟨jP 0 args,bs⟩ fun ex s=>match ex with
  | .ret v bs=>k v bs
  | .normal=>(match fin E s with
   |some (v,bs)=>k v bs
   |none=>none)
  |_=>none
def dA:Code→List Code
 | .seq a b=>dA a++dA b
 | .cond _ a b=>dA a++dA b
 | .block _ b=>dA b
 | .loop b=>.loop b::dA b
 | .scope b=>.scope b::dA b
 |_=>[]
def nA:Code→Code
 | .loop b=>b
 | .scope b=>b
 |c=>c
def aA (n:Int):Int:=IntKind.wrap .i64 n
def cN (n:Int):Int:=IntKind.wrap .u8 n
def rB (n:Int):Int:=IntKind.wrap .u32 n
def jA (n:Int):Int:=IntKind.wrap .u64 n
def mC (k:IntKind)(a b:Int):Int:=k.wrap (BitVec.ofInt k.bits a&&& BitVec.ofInt k.bits b).toNat
def fE (k:IntKind)(a b:Int):Int:=k.wrap (BitVec.ofInt k.bits a|||BitVec.ofInt k.bits b).toNat
def nW (k:IntKind)(a b:Int):Int:=k.wrap (BitVec.ofInt k.bits a^^^BitVec.ofInt k.bits b).toNat
structure Pl where
 blk:Option Nat
 n:Nat
 C:Nat
abbrev sD:=Nat→Option Pl
mutual
def vA (ρ:sD)(M:Nat→Prop)(w:World):V→Value→Prop
 | .c x,v=>v=x
 | .poison,_=>True
 | .ptr id off ext,v=>∃b n C,ρ id=some ⟨some b,n,C⟩∧off+ext≤n∧v= .pointer (some ⟨b,off,none⟩)
 | .sw id s,v=>0<s∧((∃b n C cap,ρ id=some ⟨some b,n,C⟩∧n%s=0∧n/s≤cap∧cap*s≤C∧v= .slice (some ⟨b,0,none⟩) (n/s) cap)∨(ρ id=some ⟨none,0,0⟩∧v= .slice none 0 0))
 | .sl id s off len,v=>0<s∧((∃b n C cap,ρ id=some ⟨some b,n,C⟩∧off+len*s≤n∧len≤cap∧off+cap*s≤C∧v= .slice (some ⟨b,off,none⟩) len cap)∨(len=0∧∃a,v= .slice a 0 0))
 | .il k s l,v=>0<s∧l.length%s=0∧((l=[]∧∃a,v= .slice a 0 0)∨∃b o cap,v= .slice (some ⟨b,o,none⟩) (l.length/s) cap∧l.length/s≤cap∧b<w.heap.size∧¬M b∧
   ∀j,j<l.length→w.cell? ⟨b,o+j,none⟩=some (.int k (l.getD j 0)))
 | .iv n cols,v=>0<cols.length∧((n=0∧∃a,v= .slice a 0 0)∨∃b o cap,v= .slice (some ⟨b,o,none⟩) n cap∧n≤cap∧b<w.heap.size∧¬M b∧
   ∀i,i<n→∀j,j<cols.length→w.cell? ⟨b,o+i*cols.length+j,none⟩=(kN cols i)[j]?)
 | .ilp k l off ext,v=>∃b o,v= .pointer (some ⟨b,o+off,none⟩)∧off+ext≤l.length∧b<w.heap.size∧¬M b∧∀j,j<l.length→w.cell? ⟨b,o+j,none⟩=some (.int k (l.getD j 0))
 | .ivp cols i off ext,v=>∃b o,v= .pointer (some ⟨b,o+off,none⟩)∧off+ext≤cols.length∧b<w.heap.size∧¬M b∧∀j,j<cols.length→w.cell? ⟨b,o+j,none⟩=(kN cols i)[j]?
 | .agg cs,v=>∃vs:Array Value,v= .agg vs∧lA ρ M w cs vs.toList
 | .tup cs,v=>∃vs:Array Value,v= .tuple vs∧lA ρ M w cs vs.toList
 | .mref id,v=>∃b,ρ id=some ⟨some b,0,0⟩∧v= .map (some b)
 | .fn f a c,v=>∃va vc:Array Value,v= .func (.func f) va vc∧lA ρ M w a va.toList∧lA ρ M w c vc.toList
def lA (ρ:sD)(M:Nat→Prop)(w:World):List V→List Value→Prop
 | [],[]=>True
 |x::xs,v::vs=>vA ρ M w x v∧lA ρ M w xs vs
 |_,_=>False
end
def rA.live:rA→Prop
 | .dead=>False
 |_=>True
def kc (w:World)(b C:Nat)(c:Array Value):Prop:=
 ∃e fr,w.heap[b]?=some (.cells c e fr)∧c.size=C∧∀i,i<C→¬(fr.1≤i∧i<fr.2)
def sO.len:sO→Nat
 | .ints _ l=>l.length
 | .bools l=>l.length
 | .strs l=>l.length
structure vw (k:IntKind)(n:Nat)(ks:List (List Int))(vs:sO)(es:Array MapEntry)(clk:Nat):Prop where
 size:es.size=ks.length
 at_:∀j,j<ks.length→(ks.getD j []).length=n∧∃e,es[j]?=some e∧e.key= .agg ((ks.getD j []).map (Value.int k)).toArray∧e.val=iI vs j
 old:∀e∈es.toList,e.born<clk
 apart:(es.toList.map (·.born)).Nodup
 stamp:clk=ks.length
 born:∀(j:Nat) (e:MapEntry),es[j]?=some e→e.born=j
structure Hl (wE:Nat)(seen:Array Nat)(rem:List Nat)(cur:Nat):Prop where
 nodup:rem.Nodup
 lt:∀j∈rem,j<wE
 iff:∀j,j<wE→(j∈rem↔seen.contains j=false)
 last:cur<wE→∃seen0:Array Nat,seen=seen0.push cur
def qB (ρ:sD)(M:Nat→Prop)(w:World)(p:Pl):rA→Prop
 | .dead=>True
 | .ints k l=>l.length=p.n∧((p.blk=none∧l=[]∧p.C=0)∨∃b c,p.blk=some b∧kc w b p.C c∧p.n≤p.C∧∀i,i<l.length→c[i]?=some (.int k (l.getD i 0)))
 | .vals cs=>cs.length=p.n∧((p.blk=none∧cs=[]∧p.C=0)∨∃b c,p.blk=some b∧kc w b p.C c∧p.n≤p.C∧lA ρ M w cs (c.toList.take p.n))
 | .nl k s jD=>jD.length=p.n∧((p.blk=none∧jD=[]∧p.C=0)∨∃b c,p.blk=some b∧kc w b p.C c∧p.n≤p.C∧lA ρ M w (jD.map (.il k s)) (c.toList.take p.n))
 | .mp k n ks vs=>p.n=0∧p.C=0∧vs.len=ks.length∧∃b es clk,p.blk=some b∧w.heap[b]?=some (.map es clk)∧vw k n ks vs es clk
 | .it mid wE rem cur=>p.n=0∧p.C=0∧∃b mb seen,p.blk=some b∧w.heap[b]?=some (.mapIter (some mb) wE seen wE)∧(∀i,mid=some i→ρ i=some ⟨some mb,0,0⟩)∧Hl wE seen rem cur
def kA (ρ:sD)(h:Nat→rA)(b:Nat):Prop:=∃id n C,ρ id=some ⟨some b,n,C⟩∧(h id).live
def av (F M:Nat→Prop)(b:Nat):Prop:=F b∨M b
structure mA (F:Nat→Prop)(ρ:sD)(h:Nat→rA)(w:World):Prop where
 wf:∀id p,ρ id=some p→p.n≤p.C
 rel:∀id,(h id).live→∃p,ρ id=some p∧qB ρ (av F (kA ρ h)) w p (h id)
 inj:∀id id' b n C n' C',(h id).live→(h id').live→ρ id=some ⟨some b,n,C⟩→ρ id'=some ⟨some b,n',C'⟩→id=id'
 low:∀b,F b→b<w.heap.size
 out:∀b,kA ρ h b→¬F b
structure iH (w w':World):Prop where
 os:w'.os=w.os
 tape:w'.tape=w.tape
 output:w'.output=w.output
 drawn:w.drawn≤w'.drawn
theorem iH.refl (w:World):iH w w:=⟨rfl,rfl,rfl,iB _⟩
theorem iH.trans {a b c:World}(h:iH a b)(k:iH b c):iH a c:=⟨k.os.trans h.os,k.tape.trans h.tape,k.output.trans h.output,x6 h.drawn k.drawn⟩
structure uH (M:Nat→Prop)(w:World)(M':Nat→Prop)(w':World):Prop where
 size:w.heap.size≤w'.heap.size
 same:∀b,b<w.heap.size→¬M b→w'.heap[b]?=w.heap[b]?
 sub:∀b,M' b→M b∨w.heap.size≤b
 keeps:iH w w'
def nO (ρ ρ':sD):Prop:=∀id p,ρ id=some p→ρ' id=some p
theorem uH.refl (M:Nat→Prop)(w:World):uH M w M w:=⟨iB _,fun _ _ _=>rfl,fun _ h=>.inl h,.refl _⟩
theorem uH.trans {M M' M'':Nat→Prop}{w w' w'':World}(h:uH M w M' w')(h':uH M' w' M'' w''):uH M w M'' w'' where
 size:=x6 h.size h'.size
 same b hb hm:=by have hm':¬M' b:=fun hx=>(h.sub b hx).elim hm (fun hs=>absurd hs (by omega));rw[h'.same b (x1 hb h.size) hm',h.same b hb hm]
 sub b hb:=(h'.sub b hb).elim (h.sub b) (fun hs=>.inr (x6 h.size hs))
 keeps:=h.keeps.trans h'.keeps
theorem nO.refl (ρ:sD):nO ρ ρ:=fun _ _ h=>h
theorem nO.trans {ρ ρ' ρ'':sD}(h:nO ρ ρ')(h':nO ρ' ρ''):nO ρ ρ'':=fun id p hp=>h' id p (h id p hp)
theorem cG {w w':World}{b:Nat}(h:w'.heap[b]?=w.heap[b]?)(o:Nat):w'.cell? ⟨b,o,none⟩=w.cell? ⟨b,o,none⟩:=by
 unfold World.cell?;rw[h]
theorem fq {F M M':Nat→Prop}{w w':World}(he:uH M w M' w'){b:Nat}(hb:b<w.heap.size)(h:¬av F M b):¬av F M' b:=
 fun hx=>hx.elim (fun hf=>h (.inl hf)) (fun hm=>(he.sub b hm).elim (fun hm=>h (.inr hm)) (fun hz=>absurd hz (by omega)))
mutual
theorem vA.mono {ρ ρ':sD}{F M M':Nat→Prop}{w w':World}(hs:nO ρ ρ')(he:uH M w M' w'):∀(x:V) (v:Value),vA ρ (av F M) w x v→vA ρ' (av F M') w' x v
 | .c _,_,h=>by simpa only[vA]using h
 | .poison,_,_=>by simp only[vA]
 | .ptr _ _ _,_,h=>by simp only[vA]at h⊢;obtain⟨b,n,C,h1,h2,h3⟩:=h;exact⟨b,n,C,hs _ _ h1,h2,h3⟩
 | .sw _ _,_,h=>by
  simp only[vA]at h⊢;obtain⟨h0,⟨b,n,C,cap,h1,h2⟩|⟨h1,h2⟩⟩:=h
  ·exact⟨h0,.inl ⟨b,n,C,cap,hs _ _ h1,h2⟩⟩
  ·exact⟨h0,.inr ⟨hs _ _ h1,h2⟩⟩
 | .sl _ _ _ _,_,h=>by
  simp only[vA]at h⊢;obtain⟨h0,⟨b,n,C,cap,h1,h2⟩|⟨h1,h2⟩⟩:=h
  ·exact⟨h0,.inl ⟨b,n,C,cap,hs _ _ h1,h2⟩⟩
  ·exact⟨h0,.inr ⟨h1,h2⟩⟩
 | .il _ _ _,_,h=>by
  simp only[vA]at h⊢;obtain⟨h0,h1,h2|⟨b,o,cap,h2,h3,h4,h5,h6⟩⟩:=h
  ·exact⟨h0,h1,.inl h2⟩
  ·exact⟨h0,h1,.inr ⟨b,o,cap,h2,h3,x1 h4 he.size,fq he h4 h5,fun j hj=>by rw[cG (he.same b h4 (fun hm=>h5 (.inr hm)))];exact h6 j hj⟩⟩
 | .iv _ _,_,h=>by
  simp only[vA]at h⊢;obtain⟨h0,h2|⟨b,o,cap,h2,h3,h4,h5,h7⟩⟩:=h
  ·exact⟨h0,.inl h2⟩
  ·exact⟨h0,.inr ⟨b,o,cap,h2,h3,x1 h4 he.size,fq he h4 h5,fun i hi j hj=>by rw[cG (he.same b h4 (fun hm=>h5 (.inr hm)))];exact h7 i hi j hj⟩⟩
 | .ilp _ _ _ _,_,h=>by simp only[vA]at h⊢;obtain⟨b,o,h2,h3,h4,h5,h6⟩:=h;exact⟨b,o,h2,h3,x1 h4 he.size,fq he h4 h5,fun j hj=>by rw[cG (he.same b h4 (fun hm=>h5 (.inr hm)))];exact h6 j hj⟩
 | .ivp _ _ _ _,_,h=>by simp only[vA]at h⊢;obtain⟨b,o,h2,h3,h4,h5,h7⟩:=h;exact⟨b,o,h2,h3,x1 h4 he.size,fq he h4 h5,fun j hj=>by rw[cG (he.same b h4 (fun hm=>h5 (.inr hm)))];exact h7 j hj⟩
 | .mref _,_,h=>by simp only[vA]at h⊢;obtain⟨b,h1,h2⟩:=h;exact⟨b,hs _ _ h1,h2⟩
 | .agg cs,_,h=>by simp only[vA]at h⊢;obtain⟨vs,h1,h2⟩:=h;exact⟨vs,h1,lA.mono hs he cs _ h2⟩
 | .tup cs,_,h=>by simp only[vA]at h⊢;obtain⟨vs,h1,h2⟩:=h;exact⟨vs,h1,lA.mono hs he cs _ h2⟩
 | .fn _ a c,_,h=>by simp only[vA]at h⊢;obtain⟨va,vc,h1,h2,h3⟩:=h;exact⟨va,vc,h1,lA.mono hs he a _ h2,lA.mono hs he c _ h3⟩
theorem lA.mono {ρ ρ':sD}{F M M':Nat→Prop}{w w':World}(hs:nO ρ ρ')(he:uH M w M' w'):∀(x:List V) (v:List Value),lA ρ (av F M) w x v→lA ρ' (av F M') w' x v
 | [],[],_=>by simp only[lA]
 |x::xs,v::vs,h=>by simp only[lA]at h⊢;exact⟨vA.mono hs he x v h.1,lA.mono hs he xs vs h.2⟩
 | [],_::_,h=>by simp only[lA]at h
 |_::_,[],h=>by simp only[lA]at h
end
theorem lA.consts {ρ:sD}{M:Nat→Prop}{w:World}:∀(vs:List Value),lA ρ M w (vs.map .c) vs
 | []=>by simp only[u3,lA]
 |v::vs=>by simp only[hN,lA,vA];exact⟨trivial,lA.consts vs⟩
theorem rQ:∀(cols:List sO) (i:Nat),(kN cols i).length=cols.length
 | [],_=>rfl
 |_::r,i=>by simp only[kN,o0,rQ r i]
theorem lA.length {ρ:sD}{M:Nat→Prop}{w:World}:∀{xs:List V} {vs:List Value},lA ρ M w xs vs→xs.length=vs.length
 | [],[],_=>rfl
 |_::xs,_::vs,h=>by simp only[lA]at h;simp[lA.length h.2]
 | [],_::_,h=>by simp only[lA]at h
 |_::_,[],h=>by simp only[lA]at h
theorem lA.get {ρ:sD}{M:Nat→Prop}{w:World}:∀{xs:List V} {vs:List Value},lA ρ M w xs vs→∀{i:Nat} {x:V},xs[i]?=some x→∃v,vs[i]?=some v∧vA ρ M w x v
 | [],[],_,i,x,hx=>by simp at hx
 |y::xs,v::vs,h,0,x,hx=>by simp only[lA]at h;simp at hx;subst hx;exact⟨v,rfl,h.1⟩
 |y::xs,v::vs,h,i+1,x,hx=>by simp only[lA]at h;simp at hx;obtain⟨u,hu,hr⟩:=lA.get h.2 hx;exact⟨u,by simpa using hu,hr⟩
 | [],_::_,h,_,_,_=>by simp only[lA]at h
 |_::_,[],h,_,_,_=>by simp only[lA]at h
theorem lA.append {ρ:sD}{M:Nat→Prop}{w:World}:∀{xs:List V} {vs:List Value} {ys:List V} {us:List Value},lA ρ M w xs vs→lA ρ M w ys us→lA ρ M w (xs++ys) (vs++us)
 | [],[],_,_,_,h=>by simpa using h
 |_::xs,_::vs,_,_,h,h'=>by simp only[lA]at h;simp only[s5,lA];exact⟨h.1,lA.append h.2 h'⟩
 | [],_::_,_,_,h,_=>by simp only[lA]at h
 |_::_,[],_,_,h,_=>by simp only[lA]at h
theorem lA.take {ρ:sD}{M:Nat→Prop}{w:World}:∀{xs:List V} {vs:List Value} (n:Nat),lA ρ M w xs vs→lA ρ M w (xs.take n) (vs.take n)
 | [],[],n,h=>by simp[lA]
 |_::_,_::_,0,_=>by simp[lA]
 |_::xs,_::vs,n+1,h=>by simp only[lA]at h;simp only[List.take_succ_cons,lA];exact⟨h.1,lA.take n h.2⟩
 | [],_::_,_,h=>by simp only[lA]at h
 |_::_,[],_,h=>by simp only[lA]at h
theorem lA.drop {ρ:sD}{M:Nat→Prop}{w:World}:∀{xs:List V} {vs:List Value} (n:Nat),lA ρ M w xs vs→lA ρ M w (xs.drop n) (vs.drop n)
 | [],[],n,h=>by simp[lA]
 |_::_,_::_,0,h=>by simpa using h
 |_::xs,_::vs,n+1,h=>by simp only[lA]at h;simp only[List.drop_succ_cons];exact lA.drop n h.2
 | [],_::_,_,h=>by simp only[lA]at h
 |_::_,[],_,h=>by simp only[lA]at h
mutual
theorem vA.world {ρ:sD}{M:Nat→Prop}{w w':World}(hw:w'.heap=w.heap):∀(x:V) (v:Value),vA ρ M w x v→vA ρ M w' x v
 | .c _,_,h=>by simpa only[vA]using h
 | .poison,_,_=>by simp only[vA]
 | .ptr _ _ _,_,h=>by simpa only[vA]using h
 | .sw _ _,_,h=>by simpa only[vA]using h
 | .sl _ _ _ _,_,h=>by simpa only[vA]using h
 | .mref _,_,h=>by simpa only[vA]using h
 | .il _ _ _,_,h=>by
  simp only[vA]at h⊢;obtain⟨h0,h1,h2|⟨b,o,cap,h2,h3,h4,h5,h6⟩⟩:=h
  ·exact⟨h0,h1,.inl h2⟩
  ·exact⟨h0,h1,.inr ⟨b,o,cap,h2,h3,by rw[hw];exact h4,h5,fun j hj=>by rw[cG (w:=w) (by rw[hw])];exact h6 j hj⟩⟩
 | .iv _ _,_,h=>by
  simp only[vA]at h⊢;obtain⟨h0,h2|⟨b,o,cap,h2,h3,h4,h5,h7⟩⟩:=h
  ·exact⟨h0,.inl h2⟩
  ·exact⟨h0,.inr ⟨b,o,cap,h2,h3,by rw[hw];exact h4,h5,fun i hi j hj=>by rw[cG (w:=w) (by rw[hw])];exact h7 i hi j hj⟩⟩
 | .ilp _ _ _ _,_,h=>by simp only[vA]at h⊢;obtain⟨b,o,h2,h3,h4,h5,h6⟩:=h;exact⟨b,o,h2,h3,by rw[hw];exact h4,h5,fun j hj=>by rw[cG (w:=w) (by rw[hw])];exact h6 j hj⟩
 | .ivp _ _ _ _,_,h=>by simp only[vA]at h⊢;obtain⟨b,o,h2,h3,h4,h5,h7⟩:=h;exact⟨b,o,h2,h3,by rw[hw];exact h4,h5,fun j hj=>by rw[cG (w:=w) (by rw[hw])];exact h7 j hj⟩
 | .agg cs,_,h=>by simp only[vA]at h⊢;obtain⟨vs,h1,h2⟩:=h;exact⟨vs,h1,lA.world hw cs _ h2⟩
 | .tup cs,_,h=>by simp only[vA]at h⊢;obtain⟨vs,h1,h2⟩:=h;exact⟨vs,h1,lA.world hw cs _ h2⟩
 | .fn _ a c,_,h=>by simp only[vA]at h⊢;obtain⟨va,vc,h1,h2,h3⟩:=h;exact⟨va,vc,h1,lA.world hw a _ h2,lA.world hw c _ h3⟩
theorem lA.world {ρ:sD}{M:Nat→Prop}{w w':World}(hw:w'.heap=w.heap):∀(x:List V) (v:List Value),lA ρ M w x v→lA ρ M w' x v
 | [],[],_=>by simp only[lA]
 |x::xs,v::vs,h=>by simp only[lA]at h⊢;exact⟨vA.world hw x v h.1,lA.world hw xs vs h.2⟩
 | [],_::_,h=>by simp only[lA]at h
 |_::_,[],h=>by simp only[lA]at h
end
theorem qB.world {ρ:sD}{M:Nat→Prop}{w w':World}(hw:w'.heap=w.heap){p:Pl}{x:rA}(h:qB ρ M w p x):qB ρ M w' p x:=by
 cases x with
 |dead=>trivial
 |ints k l=>
  obtain⟨h1,h2|⟨b,c,h2,⟨e,fr,h3,h4⟩,h5⟩⟩:=h
  ·exact⟨h1,.inl h2⟩
  ·exact⟨h1,.inr ⟨b,c,h2,⟨e,fr,by rw[hw];exact h3,h4⟩,h5⟩⟩
 |vals cs=>
  obtain⟨h1,h2|⟨b,c,h2,⟨e,fr,h3,h4⟩,h5,h6⟩⟩:=h
  ·exact⟨h1,.inl h2⟩
  ·exact⟨h1,.inr ⟨b,c,h2,⟨e,fr,by rw[hw];exact h3,h4⟩,h5,lA.world hw _ _ h6⟩⟩
 |nl k s jD=>
  obtain⟨h1,h2|⟨b,c,h2,⟨e,fr,h3,h4⟩,h5,h6⟩⟩:=h
  ·exact⟨h1,.inl h2⟩
  ·exact⟨h1,.inr ⟨b,c,h2,⟨e,fr,by rw[hw];exact h3,h4⟩,h5,lA.world hw _ _ h6⟩⟩
 |mp k n ks vs=>obtain⟨h1,h2,h3,b,es,clk,h4,h5,h6⟩:=h;exact⟨h1,h2,h3,b,es,clk,h4,by rw[hw];exact h5,h6⟩
 |it mid wE rem cur=>obtain⟨h1,h2,b,mb,seen,h4,h5,h6⟩:=h;exact⟨h1,h2,b,mb,seen,h4,by rw[hw];exact h5,h6⟩
theorem qB.mono {ρ ρ':sD}{F M M':Nat→Prop}{w w':World}(hs:nO ρ ρ')(he:uH M w M' w'){p:Pl}{x:rA}(h:qB ρ (av F M) w p x)
  (hb:∀b,p.blk=some b→w'.heap[b]?=w.heap[b]?):qB ρ' (av F M') w' p x:=by
 cases x with
 |dead=>trivial
 |ints k l=>
  obtain⟨h1,h2|⟨b,c,h2,⟨e,fr,h3,h4⟩,h5⟩⟩:=h
  ·exact⟨h1,.inl h2⟩
  ·exact⟨h1,.inr ⟨b,c,h2,⟨e,fr,by rw[hb b h2];exact h3,h4⟩,h5⟩⟩
 |vals cs=>
  obtain⟨h1,h2|⟨b,c,h2,⟨e,fr,h3,h4⟩,h5,h6⟩⟩:=h
  ·exact⟨h1,.inl h2⟩
  ·exact⟨h1,.inr ⟨b,c,h2,⟨e,fr,by rw[hb b h2];exact h3,h4⟩,h5,lA.mono hs he _ _ h6⟩⟩
 |nl k s jD=>
  obtain⟨h1,h2|⟨b,c,h2,⟨e,fr,h3,h4⟩,h5,h6⟩⟩:=h
  ·exact⟨h1,.inl h2⟩
  ·exact⟨h1,.inr ⟨b,c,h2,⟨e,fr,by rw[hb b h2];exact h3,h4⟩,h5,lA.mono hs he _ _ h6⟩⟩
 |mp k n ks vs=>obtain⟨h1,h2,h3,b,es,clk,h4,h5,h6⟩:=h;exact⟨h1,h2,h3,b,es,clk,h4,by rw[hb b h4];exact h5,h6⟩
 |it mid wE rem cur=>obtain⟨h1,h2,b,mb,seen,h4,h5,h6,h7⟩:=h;exact⟨h1,h2,b,mb,seen,h4,by rw[hb b h4];exact h5,fun i hi=>hs _ _ (h6 i hi),h7⟩
def zZ:Value→Bool
 | .int _ _=>true
 | .bool _=>true
 |_=>false
def xE (P:Program)(t:Nat):TK→Prop
 | .int k=>P.underlying t=some (.int k)
 | .bool=>P.underlying t=some .bool
 | .str=>P.underlying t=some .string
 | .slice e=>P.underlying t=some (.slice e)
 | .arr n e=>P.underlying t=some (.array n e)
 | .struct fs=>∃fields:Array Field,P.underlying t=some (.struct fields)∧fields.toList.map (fun f=>(f.type,f.offset))=fs∧∀f∈fields.toList,f.name≠ "_"
 | .ptr e=>P.underlying t=some (.pointer e)
 | .func=>∃a b c,P.underlying t=some (.func a b c)
 | .map k e=>P.underlying t=some (.map k e)∧∃i z,P.info? e=some i∧i.zero=some z∧zZ z=true
 | .other=>∃d,P.underlying t=some d∧(∀fs,d≠ .struct fs)∧∀n e,d≠ .array n e
structure zC (P:Program)(t:Nat)(ti:TI):Prop where
 info:∃i,P.info? t=some i∧i.size=ti.size∧i.bytes=ti.bytes∧∃z,i.zero=some z∧z.cells.toList=ti.zero
 zlen:ti.zero.length=ti.size
 one:ti.isAgg=false→ti.size=1
 tk:xE P t ti.tk
 eq:ti.isAgg=true→P.stoodInHeld t=false∧P.eqGuardType P.depth t=false
def bF (P:Program)(ty:Nat→Option TI):Prop:=∀t ti,ty t=some ti→zC P t ti
section
variable {P:Program}{w:World}{t:Nat}{ti:TI}
theorem zC.sizeOf (h:zC P t ti):(Go.sizeOf t).run P w= .ok ti.size w:=by
 obtain⟨i,h1,h2,_⟩:=h.info;simp[Go.sizeOf,typeInfo,h1,h2]
theorem zC.typeInfo (h:zC P t ti):∃i,(Go.typeInfo t).run P w= .ok i w∧i.bytes=ti.bytes∧i.size=ti.size:=by
 obtain⟨i,h1,h2,h3,_⟩:=h.info;exact⟨i,by simp[Go.typeInfo,h1],h3,h2⟩
theorem zC.zeroValue (h:zC P t ti):∃z,(Go.zeroValue t).run P w= .ok z w∧z.cells.toList=ti.zero:=by
 obtain⟨i,h1,_,_,z,h4,h5⟩:=h.info;exact⟨z,by simp[Go.zeroValue,Go.typeInfo,h1,h4],h5⟩
theorem zC.isAgg (h:zC P t ti):(Go.isAgg t).run P w= .ok ti.isAgg w:=by
 have hk:=h.tk;unfold TI.isAgg;cases hti:ti.tk<;>rw[hti]at hk<;>simp only[xE]at hk
 case struct fs=>obtain⟨fields,h1,_⟩:=hk;simp[Go.isAgg,run_underlying h1]
 case other=>obtain⟨d,h1,h2,h3⟩:=hk;cases d<;>simp_all[Go.isAgg,run_underlying h1]
 case func=>obtain⟨a,b,c,h1⟩:=hk;simp[Go.isAgg,run_underlying h1]
 case map k e=>simp[Go.isAgg,run_underlying hk.1]
 all_goals simp[Go.isAgg,run_underlying hk]
theorem zC.und (h:zC P t ti):∃d,P.underlying t=some d:=by
 have hk:=h.tk;cases hti:ti.tk<;>rw[hti]at hk<;>simp only[xE]at hk
 case struct fs=>obtain⟨fields,h1,_⟩:=hk;exact⟨_,h1⟩
 case other=>obtain⟨d,h1,h2,h3⟩:=hk;exact⟨_,h1⟩
 case func=>obtain⟨a,b,c,h1⟩:=hk;exact⟨_,h1⟩
 case map k e=>exact⟨_,hk.1⟩
 all_goals exact⟨_,hk⟩
end
theorem cU {fields:Array Field}{fs:List (Nat×Nat)}{i t off:Nat}(h:fields.toList.map (fun f=>(f.type,f.offset))=fs)(hi:fs[i]?=some (t,off)):
  ∃f,fields[i]?=some f∧f.type=t∧f.offset=off:=by
 subst h;simp only[hU,hE]at hi;obtain⟨f,h1,h2⟩:=hi;exact⟨f,by simpa using h1,by cases h2;rfl,by cases h2;rfl⟩
theorem dD {a b:Nat}(h:Nat.blt a b=true):a<b:=e6 h
theorem gG {a b:Nat}(h:Nat.ble a b=true):a≤b:=e6 h
theorem vB {a b:Nat}(h:Nat.beq a b=true):a=b:=x3 h
theorem dH {a b:IntKind}(h:pT a b=true):a=b:=by
 revert h;cases a<;>cases b<;>decide
theorem uG (b o n:Nat):Addr.add ⟨b,o,none⟩ n=⟨b,o+n,none⟩:=Addr.add_lit b o n
theorem bC (w n:Nat):rG w n=n*w:=by unfold rG;split<;>simp
theorem pE (w n:Nat):wE w n=n/w:=by unfold wE;split<;>simp
def vD (h:Nat→rA):List (Nat×rA)→Nat→rA
 | [],j=>h j
 |(i,b)::r,j=>vD (fun j=>if j=i then b else h j) r j
def Gh (h:Nat→rA)(nid:Nat):List rA→Nat→rA
 | [],j=>h j
 |b::r,j=>Gh (fun j=>if j=nid then b else h j) (nid+1) r j
def zL (h:Nat→rA)(nid:Nat)(out:sH):Nat→rA:=Gh (vD h out.wr) nid out.new
def cE (F:Nat→Prop)(ρ:sD)(h:Nat→rA)(w:World)(nid:Nat)(out:sH)(r:Result Next):Prop:=
 ∃v w' ρ',(r= .ok (.value v) w'∨(r= .ok .skip w'∧v=undef))∧nO ρ ρ'∧(∀id,(id<nid∨nid+out.new.length≤id)→ρ' id=ρ id)∧
  mA F ρ' (zL h nid out) w'∧vA ρ' (av F (kA ρ' (zL h nid out))) w' out.val v∧uH (kA ρ h) w (kA ρ' (zL h nid out)) w'
section
variable {P:Program}{F:Nat→Prop}{ρ:sD}{h:Nat→rA}{w:World}{nid:Nat}
theorem cE.pure {x:V}{v:Value}{tc:List Nat}{r:Result Next}(hh:mA F ρ h w)(hr:r= .ok (.value v) w)(hv:vA ρ (av F (kA ρ h)) w x v):cE F ρ h w nid {val:=x,touch:=tc} r:=
 ⟨v,w,ρ,.inl hr,nO.refl _,fun _ _=>rfl,hh,hv,uH.refl _ _⟩
theorem vA.cells {ρ:sD}{M:Nat→Prop}{w:World}{x:V}{v:Value}{cs:List V}(hv:vA ρ M w x v)(hc:rF x=some cs):lA ρ M w cs v.cells.toList:=by
 cases x with
 |c u=>simp only[vA]at hv;subst hv;cases v<;>simp_all[rF]<;>subst hc<;>simp[lA,Value.cells,vA]
 |poison=>simp[rF]at hc
 |agg cs=>simp only[vA]at hv;obtain⟨vs,rfl,hr⟩:=hv;simp[rF]at hc;subst hc;simpa[Value.cells]using hr
 |ptr _ _ _=>simp[rF]at hc;subst hc;have hv':=hv;simp only[vA]at hv;obtain⟨_,_,_,_,_,rfl⟩:=hv;simp only[Value.cells,lA,and_true];exact hv'
 |sw _ _=>simp[rF]at hc;subst hc;have hv':=hv;simp only[vA]at hv;obtain⟨_,⟨_,_,_,_,_,_,_,_,rfl⟩|⟨_,rfl⟩⟩:=hv<;>(simp only[Value.cells,lA,and_true];exact hv')
 |sl _ _ _ _=>simp[rF]at hc;subst hc;have hv':=hv;simp only[vA]at hv;obtain⟨_,⟨_,_,_,_,_,_,_,_,rfl⟩|⟨_,_,rfl⟩⟩:=hv<;>(simp only[Value.cells,lA,and_true];exact hv')
 |il _ _ _=>simp[rF]at hc;subst hc;have hv':=hv;simp only[vA]at hv;obtain⟨_,_,⟨_,_,rfl⟩|⟨_,_,_,rfl,_⟩⟩:=hv<;>(simp only[Value.cells,lA,and_true];exact hv')
 |iv _ _=>simp[rF]at hc;subst hc;have hv':=hv;simp only[vA]at hv;obtain⟨_,⟨_,_,rfl⟩|⟨_,_,_,rfl,_⟩⟩:=hv<;>(simp only[Value.cells,lA,and_true];exact hv')
 |ilp _ _ _ _=>simp[rF]at hc;subst hc;have hv':=hv;simp only[vA]at hv;obtain⟨_,_,rfl,_⟩:=hv;simp only[Value.cells,lA,and_true];exact hv'
 |ivp _ _ _ _=>simp[rF]at hc;subst hc;have hv':=hv;simp only[vA]at hv;obtain⟨_,_,rfl,_⟩:=hv;simp only[Value.cells,lA,and_true];exact hv'
 |mref _=>simp[rF]at hc;subst hc;have hv':=hv;simp only[vA]at hv;obtain⟨_,_,rfl⟩:=hv;simp only[Value.cells,lA,and_true];exact hv'
 |tup cs=>simp[rF]at hc;subst hc;have hv':=hv;simp only[vA]at hv;obtain⟨vs,rfl,hr⟩:=hv;simp only[Value.cells,lA,and_true];exact hv'
 |fn f a c=>simp[rF]at hc;subst hc;have hv':=hv;simp only[vA]at hv;obtain⟨va,vc,rfl,_,_⟩:=hv;simp only[Value.cells,lA,and_true];exact hv'
end
section
variable {P:Program}{F:Nat→Prop}{ρ:sD}{M:Nat→Prop}{h:Nat→rA}{w:World}{nid:Nat}
theorem vA.int {k:IntKind}{n:Int}{v:Value}(hv:vA ρ M w (.c (.int k n)) v):v= .int k n:=by simpa only[vA]using hv
theorem vA.c {x v:Value}(hv:vA ρ M w (.c x) v):v=x:=by simpa only[vA]using hv
theorem vA.of_c (x:Value):vA ρ M w (.c x) x:=by simp only[vA]
theorem Ct {op:BinOp}{k:IntKind}{a b:Int}{out:sH}(hs:op≠ .shl∧op≠ .shr)(ha:Cs op k a b=some (true,out))(t:Nat)(x y:Operand):
  ∃v,out={val:=.c v}∧((do eqGuard op t x y (.int k a) (.int k b);binOp op t (.int k a) (.int k b)):Sem Value).run P w= .ok v w:=by
 cases op<;>simp only[Cs,xC,kE,fu,Option.some.injEq,Prod.mk.injEq,reduceCtorEq,true_and]at ha
 case quo=>
  obtain⟨hb,ho⟩:=ha;have hb':b≠0:=by simpa using hb
  exact⟨_,ho.symm,by rw[eqGuard_at_int];simp[binOp,Op.intDiv,hb']⟩
 case rem=>
  obtain⟨hb,ho⟩:=ha;have hb':b≠0:=by simpa using hb
  exact⟨_,ho.symm,by rw[eqGuard_at_int];simp[binOp,Op.intDiv,hb']⟩
 all_goals first
  |exact absurd rfl hs.1
  |exact absurd rfl hs.2
  |exact⟨_,ha.symm,by rw[eqGuard_at_int];simp[binOp,Op.intArith,Op.intCmp,Op.intBits]⟩
theorem p8 {op:BinOp}{k yk:IntKind}{a b:Int}{out:sH}(ha:aX op k a b=some (true,out))(t:Nat)(x y:Operand):
  ∃v,out={val:=.c v}∧((do eqGuard op t x y (.int k a) (.int yk b);binOp op t (.int k a) (.int yk b)):Sem Value).run P w= .ok v w:=by
 cases op<;>simp only[aX,kE,Option.some.injEq,Prod.mk.injEq,reduceCtorEq]at ha
 all_goals
  obtain⟨hb,ho⟩:=ha;have hb':¬b<0:=by simp at hb;omega
  exact⟨_,ho.symm,by rw[eqGuard_at_int];simp[binOp,Op.shift,hb']⟩
theorem Hv {ty:Nat→Option TI}(hty:bF P ty){t d:Nat}{x y:V}{vx vy:Value}{e:Bool}(he:Gw (ty t) x y=some e)(hx:vA ρ M w x vx)(hy:vA ρ M w y vy):
  (Op.equalIn (d+1) t vx vy).run P w= .ok e w∧(Go.isAgg t).run P w= .ok false w:=by
 unfold Gw at he;split at he
 ·rename_i k0 s0 b0 z0 ht;have hk:=(hty _ _ ht).tk;simp only[xE]at hk;split at he
  ·rename_i k a k' b;cases hkk:pT k k' with
   |false=>simp[hkk]at he
   |true=>have:=dH hkk;subst this;simp[hkk]at he;subst he;have h1:=hx.int;have h2:=hy.int;subst h1;subst h2;exact⟨run_equalIn_int w d t k k0 a b hk,by simp[Go.isAgg,run_underlying hk]⟩
  ·cases he
 ·rename_i s0 b0 z0 ht;have hk:=(hty _ _ ht).tk;simp only[xE]at hk;split at he
  ·rename_i a b;have h1:=hx.c;have h2:=hy.c;subst h1;subst h2;simp only[Option.some.injEq]at he;subst he;exact⟨run_equalIn_bool w d t a b hk,by simp[Go.isAgg,run_underlying hk]⟩
  ·cases he
 ·cases he
theorem gY {ty:Nat→Option TI}(hty:bF P ty){d:Nat}{xs ys:Array Value}:∀(fs:List Field) (ts:List (Nat×Nat)) (i:Nat) (cx cy:List V) (e:Bool),pG ty ts i cx cy=some e→
  fs.map (fun f=>(f.type,f.offset))=ts→(∀f∈fs,f.name≠ "_")→
  lA ρ M w cx (xs.toList.drop i)→lA ρ M w cy (ys.toList.drop i)→(Op.eqFields (d+1) xs ys fs).run P w= .ok e w
 | [],ts,i,cx,cy,e,he,hts,_,_,_=>by simp at hts;subst hts;cases cx<;>cases cy<;>simp[pG]at he;subst he;simp[Op.eqFields]
 |f::fs,ts,i,cx,cy,e,he,hts,hnm,hx,hy=>by
  subst hts;have hn:=hnm f (by simp);have part_at:∀{zs:Array Value} {cz:List V} {z:V},lA ρ M w (z::cz) (zs.toList.drop i)→∃v,zs[i]?=some v∧vA ρ M w z v∧lA ρ M w cz (zs.toList.drop (i+1)):=by
   intro zs cz z hz;have hne:zs.toList.drop i≠ []:=by intro h0;rw[h0]at hz;simp[lA]at hz
   obtain⟨v,r,hd⟩:=List.exists_cons_of_ne_nil hne;rw[hd]at hz;simp only[lA]at hz;have h1:zs.toList[i]?=some v:=by
    have:(zs.toList.drop i)[0]?=some v:=by rw[hd];rfl
    simpa using this
   have h2:zs.toList.drop (i+1)=r:=by have:=congrArg List.tail hd;simpa[List.tail_drop]using this
   exact⟨v,by simpa using h1,hz.1,by rw[h2];exact hz.2⟩
  cases cx with
  |nil=>cases fs<;>cases cy<;>simp[pG]at he
  |cons x cx=>
  cases cy with
  |nil=>cases fs<;>cases cx<;>simp[pG]at he
  |cons y cy=>
  obtain⟨vx,gx,rx,tx⟩:=part_at hx;obtain⟨vy,gy,ry,ty'⟩:=part_at hy;have fin:∀q s,f.offset=i→Gw (ty f.type) x y=some q→(Op.eqFields (d+1) xs ys fs).run P w= .ok s w→(Op.eqFields (d+1) xs ys (f::fs)).run P w= .ok (q&&s) w:=by
   intro q s ho hq ih;obtain⟨he1,hagg⟩:=Hv (d:=d) hty hq rx ry;have px:(part f.type xs f.offset).run P w= .ok vx w:=by simp[part,hagg,ho,gx]
   have py:(part f.type ys f.offset).run P w= .ok vy w:=by simp[part,hagg,ho,gy]
   rw[Op.eqFields];simp only[if_pos hn,zA,px,py,he1,hA];cases q
   ·simp
   ·simpa using ih
  have gen:∀q s,(Nat.beq f.offset i=true)→Gw (ty f.type) x y=some q→pG ty (fs.map fun f=>(f.type,f.offset)) (i+1) cx cy=some s→(Op.eqFields (d+1) xs ys (f::fs)).run P w= .ok (q&&s) w:=
   fun q s ho hq hs=>fin q s (x3 ho) hq (gY hty fs _ (i+1) cx cy s hs rfl (fun g hg=>hnm g (by simp[hg])) tx ty')
  cases fs with
  |nil=>
   cases cx<;>cases cy<;>simp only[hN,u3,pG]at he
   ·cases ho:Nat.beq f.offset i with
    |false=>simp[ho]at he
    |true=>simp[ho]at he;have:=fin e true (x3 ho) he (by simp[Op.eqFields]);simpa using this
   all_goals (cases ho:Nat.beq f.offset i<;>simp[ho]at he)
  |cons g gs=>
   simp only[hN,pG]at he;cases ho:Nat.beq f.offset i with
   |false=>simp[ho]at he
   |true=>
    simp only[ho,cond_true]at he;split at he
    ·rename_i q s hq hs;simp only[Option.some.injEq]at he;subst he;exact gen q s ho hq (by simpa using hs)
    ·cases he
theorem dP {ty:Nat→Option TI}(hty:bF P ty){t:Nat}{a b:List V}{e:Bool}{xs ys:Array Value}(he:oM ty t a b=some e)(hx:lA ρ M w a xs.toList)(hy:lA ρ M w b ys.toList):
  (Op.equalIn 10000 t (.agg xs) (.agg ys)).run P w= .ok e w∧P.eqGuardType P.depth t=false:=by
 unfold oM at he;split at he
 ·rename_i fs s0 b0 z0 ht;have hk:=(hty _ _ ht).tk;have hq:=(hty _ _ ht).eq rfl;simp only[xE]at hk;obtain⟨fields,h1,h2,h3⟩:=hk;have hf:P.fieldsOf t=fields:=by simp[Program.fieldsOf,h1]
  refine⟨?_,hq.2⟩;rw[run_equalIn_struct (P:=P) w 9999 t xs ys (by rw[hf];exact h1) hq.1,hf];exact gY hty fields.toList fs 0 a b e he h2 h3 (by simpa using hx) (by simpa using hy)
 ·cases he
theorem F7 {ty:Nat→Option TI}(hty:bF P ty){op:BinOp}{t:Nat}{x y:V}{vx vy:Value}{out:sH}(xo yo:Operand)(hb:Ht ty t op x y=some (true,out))(hx:vA ρ M w x vx)(hy:vA ρ M w y vy):
  ∃v,out={val:=.c v}∧((do eqGuard op t xo yo vx vy;binOp op t vx vy):Sem Value).run P w= .ok v w:=by
 unfold Ht at hb;split at hb
 ·have:=hx.int;have:=hy.int;subst_vars;exact p8 hb t xo yo
 ·have:=hx.int;have:=hy.int;subst_vars;exact p8 hb t xo yo
 ·rename_i o x y k a k' b h1 h2;cases hk:pT k k' with
  |false=>simp[hk]at hb
  |true=>have:=dH hk;subst this;simp only[hk,cond_true]at hb;have:=hx.int;have:=hy.int;subst_vars;exact Ct ⟨h1,h2⟩ hb t xo yo
 ·split at hb
  ·rename_i a b _ _ _ _ ht;have hk:=(hty _ _ ht).tk;simp only[xE]at hk;have:=hx.c;have:=hy.c;subst_vars;simp only[xC,Option.some.injEq,Prod.mk.injEq,true_and]at hb;exact⟨_,hb.symm,by rw[eqGuard_at_bool];simp[run_eql_bool w t a b hk]⟩
  ·cases hb
 ·split at hb
  ·rename_i a b _ _ _ _ ht;have hk:=(hty _ _ ht).tk;simp only[xE]at hk;have:=hx.c;have:=hy.c;subst_vars;simp only[xC,Option.some.injEq,Prod.mk.injEq,true_and]at hb;exact⟨_,hb.symm,by rw[eqGuard_at_bool];simp[run_neq_bool w t a b hk]⟩
  ·cases hb
 ·rename_i a b;have:=hx.c;have:=hy.c;subst_vars;simp only[kE,Option.some.injEq,Prod.mk.injEq]at hb;obtain⟨h1,h2⟩:=hb;refine⟨_,h2.symm,?_⟩;have h1':¬(((a.size+b.size:Nat):Int)>IntKind.i64.max):=by simp at h1⊢;omega
  rw[eqGuard_at_string];simp only[binOp,Op.stringOp,zA,hB,hA,if_neg h1']
 ·rename_i a b;have:=hx.c;have:=hy.c;subst_vars;simp only[xC,Option.some.injEq,Prod.mk.injEq,true_and]at hb;exact⟨_,hb.symm,by rw[eqGuard_at_string];simp[binOp,Op.stringOp]⟩
 ·rename_i a b;have:=hx.c;have:=hy.c;subst_vars;simp only[xC,Option.some.injEq,Prod.mk.injEq,true_and]at hb;exact⟨_,hb.symm,by rw[eqGuard_at_string];simp[binOp,Op.stringOp]⟩
 ·split at hb
  ·rename_i a b e he;simp only[vA]at hx hy;obtain⟨xs,rfl,hx⟩:=hx;obtain⟨ys,rfl,hy⟩:=hy;obtain⟨h1,h2⟩:=dP hty he hx hy;simp only[xC,Option.some.injEq,Prod.mk.injEq,true_and]at hb;exact⟨_,hb.symm,by rw[zA,run_eqGuard_agg w _ t xo yo xs ys h2,hA,run_eql_struct,h1,hA]⟩
  ·cases hb
 ·split at hb
  ·rename_i a b e he;simp only[vA]at hx hy;obtain⟨xs,rfl,hx⟩:=hx;obtain⟨ys,rfl,hy⟩:=hy;obtain⟨h1,h2⟩:=dP hty he hx hy;simp only[xC,Option.some.injEq,Prod.mk.injEq,true_and]at hb;exact⟨_,hb.symm,by rw[zA,run_eqGuard_agg w _ t xo yo xs ys h2,hA,run_neq_struct,h1,hA]⟩
  ·cases hb
 ·cases hb
end
section
variable {P:Program}{F:Nat→Prop}{ρ:sD}{M:Nat→Prop}{h:Nat→rA}{w:World}{nid:Nat}
theorem kC {x:V}{out:sH}(h:xC x=some (true,out)):out={val:=x}:=by
 simp only[xC,Option.some.injEq,Prod.mk.injEq,true_and]at h;exact h.symm
theorem qE {b:Bool}{x:V}{out:sH}(h:kE b x=some (true,out)):b=true∧out={val:=x}:=by
 simp only[kE,Option.some.injEq,Prod.mk.injEq]at h;exact⟨h.1,h.2.symm⟩
theorem Ih {op:UnOp}{x:V}{vx:Value}{out:sH}(hb:Jt op x=some (true,out))(hx:vA ρ M w x vx):
  ∃v,out={val:=.c v}∧(Op.unary op vx).run P w= .ok v w:=by
 unfold Jt at hb;split at hb
 ·have:=hx.int;subst this;exact⟨_,kC hb,by simp[Op.unary,Op.intArith]⟩
 ·have:=hx.c;subst this;exact⟨_,kC hb,by simp[Op.unary]⟩
 ·have:=hx.int;subst this;simp only[fu]at hb;exact⟨_,kC hb,by simp[Op.unary,Op.intBits]⟩
 ·cases hb
theorem fV {f:Int→Int→Int}{g:Value→Value→Sem Value}{k:IntKind}(hg:∀a b,g (.int k a) (.int k b)=pure (.int k (f a b))):∀(xs:List V) (vs:List Value) (a n:Int),
  kK f k a xs=some n→lA ρ M w xs vs→(vs.foldlM g (.int k a)).run P w= .ok (.int k n) w
 | [],[],a,n,h,_=>by simp[kK]at h;subst h;simp
 | [],_::_,_,_,_,h=>by simp[lA]at h
 |_::_,[],_,_,_,h=>by simp[lA]at h
 |x::xs,v::vs,a,n,h,hr=>by
  simp only[lA]at hr;cases x with
  |c u=>
   cases u with
   |int k' b=>
    simp only[kK]at h;cases hk:pT k k' with
    |false=>simp[hk]at h
    |true=>have:=dH hk;subst this;simp only[hk,cond_true]at h;have:=hr.1.int;subst this;rw[List.foldlM_cons,hg];simp only[zA,hB,hA];exact fV hg xs vs _ n h hr.2
   |_=>simp[kK]at h
  |_=>simp[kK]at h
theorem dd {f:Int→Int→Int}{g:Value→Value→Sem Value}(hg:∀k a b,g (.int k a) (.int k b)=pure (.int k (f a b))){xs:List V}{vs:List Value}{out:sH}(h:ir f xs=some (true,out))(hr:lA ρ M w xs vs):
  ∃x r v,vs=x::r∧out={val:=.c v}∧(r.foldlM g x).run P w= .ok v w:=by
 unfold ir at h;split at h
 ·rename_i k a r;split at h
  ·rename_i n hn;cases vs with
   |nil=>simp[lA]at hr
   |cons v vs=>simp only[lA]at hr;have:=hr.1.int;subst this;exact⟨_,_,_,rfl,kC h,fV (fun a b=>hg k a b) r vs a n hn hr.2⟩
  ·cases h
 ·cases h
theorem bI {b o:Nat}:∀(n i:Nat) (acc:Array Value) (vs:List Value),vs.length=n→(∀j,j<n→w.cell? ⟨b,o+(i+j),none⟩=vs[j]?)→
  (loadCellsFrom ⟨b,o,none⟩ i n acc).run P w= .ok (acc++vs.toArray) w
 |0,i,acc,vs,hl,_=>by have:vs=[]:=hQ.mp hl;subst this;simp[loadCellsFrom]
 |n+1,i,acc,vs,hl,hc=>by
  cases vs with
  |nil=>simp at hl
  |cons v vs=>have h0:=hc 0 (by omega);simp only[c4,iX]at h0;simp only[loadCellsFrom,zA,uG,run_load,h0,hA];rw[bI n (i+1) _ vs (by simpa using hl) (fun j hj=>by have:=hc (j+1) (by omega);simpa[c0,w6 1 j]using this)];simp
theorem sP {t:Nat}{ti:TI}(ht:zC P t ti)(hs:0<ti.size){b o:Nat}{vs:List Value}(hl:vs.length=ti.size)(hc:∀j,j<ti.size→w.cell? ⟨b,o+j,none⟩=vs[j]?)(h1:ti.isAgg=false→ti.size=1):
  (loadVar t ⟨b,o,none⟩).run P w= .ok (if ti.isAgg then .agg vs.toArray else vs.headD undef) w:=by
 unfold loadVar;simp only[zA,ht.isAgg,hA];cases ha:ti.isAgg with
 |true=>have h2:=bI (P:=P) (w:=w) (b:=b) (o:=o) ti.size 0 #[] vs hl (fun j hj=>by simpa using hc j hj);simp only[if_true,loadCells,zA,ht.sizeOf,hA,h2,hB];simp
 |false=>
  have h0:=hc 0 hs;cases vs with
  |nil=>simp at hl;omega
  |cons v vs=>simp at h0;simp[h0]
theorem r8:∀{cs r:List V} {n:Nat},aR cs n=some r→r=cs.take n∧n≤cs.length
 |cs,r,0,h=>by simp[aR]at h;subst h;simp
 | [],r,n+1,h=>by simp[aR]at h
 |c::cs,r,n+1,h=>by simp only[aR,hE]at h;obtain⟨r',h1,h2⟩:=h;obtain⟨h3,h4⟩:=r8 h1;subst h2;subst h3;simp;omega
theorem dY:∀(cs:List V) (n:Nat),tQ cs n=cs.drop n
 |cs,0=>by simp[tQ]
 | [],n+1=>by simp[tQ]
 |c::cs,n+1=>by simp[tQ,dY cs n]
theorem wv:∀(cs:List V) (n:Nat),so cs n=cs[n]?
 | [],n=>by simp[so]
 |c::cs,0=>by simp[so]
 |c::cs,n+1=>by simp[so,wv cs n]
theorem bZ (k:IntKind)(l:List Int):∀(off n:Nat),lA ρ M w (tN k l off n) ((List.range n).map fun j=>Value.int k (l.getD (off+j) 0))
 |_,0=>by simp[tN,lA]
 |off,n+1=>by
  rw[List.range_succ_eq_map];simp only[tN,hN,lA,List.map_map,c4];refine⟨vA.of_c _,?_⟩;have:=bZ k l (off+1) n;have e:((fun j=>Value.int k (l.getD (off+j) 0))∘Nat.succ)=fun j=>Value.int k (l.getD (off+1+j) 0):=by funext j;simp[c0,w6 1 j]
  rw[e];exact this
def vv (ρ:sD)(M:Nat→Prop)(w:World)(b o:Nat)(n:Nat)(x:rA):Prop:=match x with
 | .dead=>False
 | .ints k l=>n≤l.length∧∀j,j<n→w.cell? ⟨b,o+j,none⟩=some (.int k (l.getD j 0))
 | .vals cs=>n≤cs.length∧∃vs,lA ρ M w cs vs∧∀j,j<n→w.cell? ⟨b,o+j,none⟩=vs[j]?
 | .nl k s jD=>n≤jD.length∧∃vs,lA ρ M w (jD.map (.il k s)) vs∧∀j,j<n→w.cell? ⟨b,o+j,none⟩=vs[j]?
 | .mp _ _ _ _=>n=0
 | .it _ _ _ _=>n=0
theorem vN {t:Nat}{ti:TI}(ht:zC P t ti)(hs:0<ti.size){b o off n:Nat}{x:rA}{y:V}(hc:vv ρ M w b o n x)(hn:off+ti.size≤n)(hl:zG ti off x=some y)(h1:ti.isAgg=false→ti.size=1):
  ∃v,(loadVar t ⟨b,o+off,none⟩).run P w= .ok v w∧vA ρ M w y v:=by
 cases x with
 |dead=>exact hc.elim
 |mp _ _ _ _=>simp[zG]at hl
 |it _ _ _ _=>simp[zG]at hl
 |ints k l=>
  obtain⟨hl0,hc⟩:=hc;simp only[zG,Option.some.injEq]at hl;subst hl;have hr:=sP ht hs (b:=b) (o:=o+off) (vs:=(List.range ti.size).map fun j=>Value.int k (l.getD (off+j) 0)) (by simp) (fun j hj=>by rw[c0,hc (off+j) (by omega)];simp[hj]) h1;refine⟨_,hr,?_⟩;cases ha:ti.isAgg with
  |true=>simp only[cond_true,if_true,vA];exact⟨_,rfl,by simpa using bZ k l off ti.size⟩
  |false=>have hz:=h1 ha;simp only[cond_false,hI,if_false];rw[hz];exact vA.of_c _
 |nl k s jD=>
  obtain⟨hl0,vs,hrel,hc⟩:=hc;simp only[zG]at hl;cases ha:ti.isAgg with
  |true=>rw[ha]at hl;cases hl
  |false=>
   rw[ha,cond_false]at hl;have hz:=h1 ha;split at hl<;>cases hl;have hlen:=hrel.length;rw[x5]at hlen;have hlt:off<jD.length:=by omega
   have hrv:=sP ht hs (b:=b) (o:=o+off) (vs:=(vs.drop off).take ti.size) (by rw[hz];simp;omega) (fun j hj=>by rw[c0,hc (off+j) (by omega)];simp[p0,hj]) h1;obtain⟨u,hu,hru⟩:=hrel.get (i:=off) (x:=.il k s (jD.getD off [])) (by rw[hU,zE hlt,iA,zE hlt];rfl);have e:(vs.drop off).take ti.size=[u]:=by rw[hz];obtain⟨hlt2,hu2⟩:=l5.mp hu;rw[y3 hlt2,hu2];rfl
   rw[e,ha]at hrv;exact⟨u,hrv,hru⟩
 |vals cs=>
  obtain⟨hl0,vs,hrel,hc⟩:=hc;simp only[zG,dY]at hl;split at hl
  ·cases hl
  ·rename_i r hr;obtain⟨h2,h3⟩:=r8 hr;simp only[Option.some.injEq]at hl;subst hl;have hlen:=hrel.length;have hrl:((vs.drop off).take ti.size).length=ti.size:=by simp;omega
   have hrv:=sP ht hs (b:=b) (o:=o+off) (vs:=(vs.drop off).take ti.size) hrl (fun j hj=>by rw[c0,hc (off+j) (by omega)];simp[p0,hj]) h1;have hrr:lA ρ M w r ((vs.drop off).take ti.size):=by rw[h2];exact(hrel.drop off).take ti.size
   refine⟨_,hrv,?_⟩;unfold vZ;cases ha:ti.isAgg with
   |true=>simp only[cond_true,if_true,vA];exact⟨_,rfl,by simpa using hrr⟩
   |false=>
    simp only[cond_false,hI,if_false];cases r with
    |nil=>have:=hrr.length;rw[hrl]at this;simp at this;omega
    |cons v r=>
     cases hvs:(vs.drop off).take ti.size with
     |nil=>rw[hvs]at hrl;simp at hrl;omega
     |cons u us=>rw[hvs]at hrr;simp only[lA]at hrr;exact hrr.1
theorem kc.cell {b C:Nat}{c:Array Value}(ho:kc w b C c)(o:Nat):w.cell? ⟨b,o,none⟩=c[o]?:=by
 obtain⟨e,fr,h1,_⟩:=ho;simp[World.cell?,h1]
theorem mA.cellsAt (hh:mA F ρ h w){id b n C:Nat}(hl:(h id).live)(hp:ρ id=some ⟨some b,n,C⟩):vv ρ (av F (kA ρ h)) w b 0 n (h id):=by
 obtain⟨p,h1,h2⟩:=hh.rel id hl;rw[hp]at h1;simp only[Option.some.injEq]at h1;subst h1;cases hx:h id with
 |dead=>rw[hx]at hl;exact hl.elim
 |mp _ _ _ _=>rw[hx]at h2;exact h2.1
 |it _ _ _ _=>rw[hx]at h2;exact h2.1
 |ints k l=>
  rw[hx]at h2;obtain⟨h3,h4⟩:=h2;rcases h4 with⟨h5,_⟩|⟨b',c,h5,h6,h7,h8⟩
  ·cases h5
  ·simp only[Option.some.injEq]at h5;subst h5;dsimp only at h3;exact⟨by omega,fun j hj=>by rw[hP,h6.cell];exact h8 j (by omega)⟩
 |vals cs=>
  rw[hx]at h2;obtain⟨h3,⟨h5,_⟩|⟨b',c,h5,h6,h7,h8⟩⟩:=h2
  ·cases h5
  simp only[Option.some.injEq]at h5;subst h5;dsimp only at h3 h7 h8;exact⟨by omega,_,h8,fun j hj=>by rw[hP,h6.cell];simp[p0,hj]⟩
 |nl k s jD=>
  rw[hx]at h2;obtain⟨h3,⟨h5,_⟩|⟨b',c,h5,h6,h7,h8⟩⟩:=h2
  ·cases h5
  simp only[Option.some.injEq]at h5;subst h5;dsimp only at h3 h7 h8;exact⟨by omega,_,h8,fun j hj=>by rw[hP,h6.cell];simp[p0,hj]⟩
end
section
variable {P:Program}{F:Nat→Prop}{ρ:sD}{h:Nat→rA}{w:World}{nid:Nat}
def lD (ρ:sD)(M:Nat→Prop)(w:World)(n:Nat)(c:Array Value):rA→Prop
 | .dead=>False
 | .ints k l=>l.length=n∧n≤c.size∧∀i,i<l.length→c[i]?=some (.int k (l.getD i 0))
 | .vals cs=>cs.length=n∧n≤c.size∧lA ρ M w cs (c.toList.take n)
 | .nl k s jD=>jD.length=n∧n≤c.size∧lA ρ M w (jD.map (.il k s)) (c.toList.take n)
 | .mp _ _ _ _=>False
 | .it _ _ _ _=>False
def rA.flat:rA→Prop
 | .mp _ _ _ _=>False
 | .it _ _ _ _=>False
 |_=>True
theorem lD.mono {ρ ρ':sD}{F M M':Nat→Prop}{w w':World}{n:Nat}{c:Array Value}{x:rA}(hs:nO ρ ρ')(he:uH M w M' w')(h:lD ρ (av F M) w n c x):lD ρ' (av F M') w' n c x:=by
 cases x with
 |dead=>exact h
 |mp _ _ _ _=>exact h
 |it _ _ _ _=>exact h
 |ints k l=>exact h
 |vals cs=>exact⟨h.1,h.2.1,lA.mono hs he _ _ h.2.2⟩
 |nl k s jD=>exact⟨h.1,h.2.1,lA.mono hs he _ _ h.2.2⟩
theorem lD.le {M:Nat→Prop}{n:Nat}{c:Array Value}{x:rA}(h:lD ρ M w n c x):n≤c.size:=by
 cases x with
 |dead=>exact h.elim
 |mp _ _ _ _=>exact h.elim
 |it _ _ _ _=>exact h.elim
 |ints k l=>exact h.2.1
 |vals cs=>exact h.2.1
 |nl k s jD=>exact h.2.1
theorem lD.live {M:Nat→Prop}{n:Nat}{c:Array Value}{x:rA}(h:lD ρ M w n c x):x.live:=by
 cases x with
 |dead=>exact h.elim
 |_=>trivial
theorem lD.blkRel {M:Nat→Prop}{n b:Nat}{c:Array Value}{x:rA}(h:lD ρ M w n c x)(ho:kc w b c.size c):qB ρ M w ⟨some b,n,c.size⟩ x:=by
 cases x with
 |dead=>trivial
 |mp _ _ _ _=>exact h.elim
 |it _ _ _ _=>exact h.elim
 |ints k l=>exact⟨h.1,.inr ⟨b,c,rfl,ho,h.2.1,h.2.2⟩⟩
 |vals cs=>exact⟨h.1,.inr ⟨b,c,rfl,ho,h.2.1,h.2.2⟩⟩
 |nl k s jD=>exact⟨h.1,.inr ⟨b,c,rfl,ho,h.2.1,h.2.2⟩⟩
theorem mA.own (hh:mA F ρ h w){id b n C:Nat}(hl:(h id).live)(hf:(h id).flat)(hp:ρ id=some ⟨some b,n,C⟩):∃c,kc w b C c∧c.size=C∧lD ρ (av F (kA ρ h)) w n c (h id):=by
 obtain⟨p,h1,h2⟩:=hh.rel id hl;rw[hp]at h1;simp only[Option.some.injEq]at h1;subst h1;cases hx:h id with
 |dead=>rw[hx]at hl;exact hl.elim
 |mp _ _ _ _=>rw[hx]at hf;exact hf.elim
 |it _ _ _ _=>rw[hx]at hf;exact hf.elim
 |ints k l=>
  rw[hx]at h2;obtain⟨h3,⟨h5,_⟩|⟨b',c,h5,h6,h7,h8⟩⟩:=h2
  ·cases h5
  ·simp only[Option.some.injEq]at h5;subst h5;have hsz:c.size=C:=by obtain⟨e,fr,_,q,_⟩:=h6;exact q
   exact⟨c,h6,hsz,h3,by rw[hsz];exact h7,h8⟩
 |vals cs=>
  rw[hx]at h2;obtain⟨h3,⟨h5,_⟩|⟨b',c,h5,h6,h7,h8⟩⟩:=h2
  ·cases h5
  simp only[Option.some.injEq]at h5;subst h5;have hsz:c.size=C:=by obtain⟨e,fr,_,q,_⟩:=h6;exact q
  exact⟨c,h6,hsz,h3,by rw[hsz];exact h7,h8⟩
 |nl k s jD=>
  rw[hx]at h2;obtain⟨h3,⟨h5,_⟩|⟨b',c,h5,h6,h7,h8⟩⟩:=h2
  ·cases h5
  simp only[Option.some.injEq]at h5;subst h5;have hsz:c.size=C:=by obtain⟨e,fr,_,q,_⟩:=h6;exact q
  exact⟨c,h6,hsz,h3,by rw[hsz];exact h7,h8⟩
theorem kc.lt {b C:Nat}{c:Array Value}(ho:kc w b C c):b<w.heap.size:=by
 obtain⟨e,fr,h1,_⟩:=ho;exact(hL.mp h1).1
theorem mA.ownMap (hh:mA F ρ h w){id b n C:Nat}{k:IntKind}{m:Nat}{ks:List (List Int)}{vs:sO}(hx:h id= .mp k m ks vs)(hp:ρ id=some ⟨some b,n,C⟩):
  n=0∧C=0∧vs.len=ks.length∧∃es clk,w.heap[b]?=some (.map es clk)∧vw k m ks vs es clk:=by
 obtain⟨p,h1,h2⟩:=hh.rel id (by rw[hx];trivial);rw[hp]at h1;simp only[Option.some.injEq]at h1;subst h1;rw[hx]at h2;obtain⟨q1,q2,q3,b',es,clk,q4,q5⟩:=h2;simp only[Option.some.injEq]at q4;subst q4;exact⟨q1,q2,q3,es,clk,q5⟩
theorem mA.ownIt (hh:mA F ρ h w){id b n C:Nat}{mid:Option Nat}{wE:Nat}{rem:List Nat}{cur:Nat}(hx:h id= .it mid wE rem cur)(hp:ρ id=some ⟨some b,n,C⟩):
  n=0∧C=0∧∃mb seen,w.heap[b]?=some (.mapIter (some mb) wE seen wE)∧(∀i,mid=some i→ρ i=some ⟨some mb,0,0⟩)∧Hl wE seen rem cur:=by
 obtain⟨p,h1,h2⟩:=hh.rel id (by rw[hx];trivial);rw[hp]at h1;simp only[Option.some.injEq]at h1;subst h1;rw[hx]at h2;obtain⟨q1,q2,b',mb,seen,q4,q5⟩:=h2;simp only[Option.some.injEq]at q4;subst q4;exact⟨q1,q2,mb,seen,q5⟩
theorem rA.flat_or (x:rA):x.flat∨(∃k n ks vs,x= .mp k n ks vs)∨∃mid wE rem cur,x= .it mid wE rem cur:=by
 cases x with
 |mp k n ks vs=>exact .inr (.inl ⟨k,n,ks,vs,rfl⟩)
 |it mid wE rem cur=>exact .inr (.inr ⟨mid,wE,rem,cur,rfl⟩)
 |_=>exact .inl trivial
theorem kA.lt (hh:mA F ρ h w){b:Nat}(hb:kA ρ h b):b<w.heap.size:=by
 obtain⟨id,n,C,hp,hl⟩:=hb;rcases(h id).flat_or with hf|⟨k,m,ks,vs,hx⟩|⟨mid,wE,rem,cur,hx⟩
 ·obtain⟨c,ho,_⟩:=hh.own hl hf hp;exact ho.lt
 ·obtain⟨_,_,_,es,clk,h1,_⟩:=hh.ownMap hx hp;exact(hL.mp h1).1
 ·obtain⟨_,_,mb,seen,h1,_⟩:=hh.ownIt hx hp;exact(hL.mp h1).1
theorem mA.low' (hh:mA F ρ h w){M':Nat→Prop}{w':World}(he:uH (kA ρ h) w M' w'):∀b,F b→b<w'.heap.size:=fun b hb=>x1 (hh.low b hb) he.size
theorem mA.out' (hh:mA F ρ h w){M':Nat→Prop}{w':World}(he:uH (kA ρ h) w M' w'):∀b,M' b→¬F b:=fun b hb hf=>(he.sub b hb).elim (fun h=>hh.out b h hf) (fun h=>absurd (hh.low b hf) (by omega))
def mB (h:Nat→rA)(id:Nat)(x:rA):Nat→rA:=fun j=>if j=id then x else h j
def vC (ρ:sD)(id:Nat)(p:Pl):sD:=fun j=>if j=id then some p else ρ j
theorem iT {p:Pl}(hw:∀id p,ρ id=some p→p.n≤p.C)(hp:p.n≤p.C):∀id q,vC ρ nid p id=some q→q.n≤q.C:=by
 intro id q hq;unfold vC at hq;split at hq
 ·simp only[Option.some.injEq]at hq;subst hq;exact hp
 ·exact hw id q hq
theorem gF {p:Pl}(hn:ρ nid=none):nO ρ (vC ρ nid p):=by
 intro id q hq;unfold vC;split
 ·rename_i e;subst e;rw[hn]at hq;cases hq
 ·exact hq
theorem mA.kill (hh:mA F ρ h w)(id:Nat):mA F ρ (mB h id .dead) w∧uH (kA ρ h) w (kA ρ (mB h id .dead)) w:=by
 have hsub:∀b,kA ρ (mB h id .dead) b→kA ρ h b:=by
  rintro b ⟨j,n,C,hp,hl⟩;refine⟨j,n,C,hp,?_⟩;unfold mB at hl;split at hl
  ·exact hl.elim
  ·exact hl
 have hext:uH (kA ρ h) w (kA ρ (mB h id .dead)) w:=⟨iB _,fun _ _ _=>rfl,fun b hb=>.inl (hsub b hb),.refl _⟩
 refine⟨⟨hh.wf,?_,?_,hh.low' hext,hh.out' hext⟩,hext⟩
 ·intro j hl;have hj:mB h id .dead j=h j:=by
   unfold mB at hl⊢;split
   ·rename_i e;rw[if_pos e]at hl;exact hl.elim
   ·rfl
  rw[hj]at hl⊢;obtain⟨p,hp,hb⟩:=hh.rel j hl;exact⟨p,hp,qB.mono (nO.refl _) hext hb (fun _ _=>rfl)⟩
 ·intro i j b n C n' C' hi hj;have lv:∀{k},(mB h id .dead k).live→(h k).live:=by
   intro k hk;unfold mB at hk;split at hk
   ·exact hk.elim
   ·exact hk
  exact hh.inj i j b n C n' C' (lv hi) (lv hj)
theorem mA.alloc (hh:mA F ρ h w)(hn:ρ nid=none){c:Array Value}{e:TypeId}{fr:Nat×Nat}{n:Nat}{x:rA}(hfr:∀i,i<c.size→¬(fr.1≤i∧i<fr.2))(hx:lD ρ (av F (kA ρ h)) w n c x){w':World}(hkp:iH w w')(hw:w'.heap=w.heap.push (.cells c e fr)):
  mA F (vC ρ nid ⟨some w.heap.size,n,c.size⟩) (mB h nid x) w'∧uH (kA ρ h) w (kA (vC ρ nid ⟨some w.heap.size,n,c.size⟩) (mB h nid x)) w':=by
 have hnew:w'.heap[w.heap.size]?=some (.cells c e fr):=by rw[hw];simp
 have hold:∀b,b<w.heap.size→w'.heap[b]?=w.heap[b]?:=by
  intro b hb;rw[hw,dQ];split
  ·omega
  ·rfl
 have hown:kc w' w.heap.size c.size c:=⟨e,fr,hnew,rfl,hfr⟩
 have hsub:∀b,kA (vC ρ nid ⟨some w.heap.size,n,c.size⟩) (mB h nid x) b→kA ρ h b∨w.heap.size≤b:=by
  rintro b ⟨j,m,C,hp,hl⟩;unfold vC at hp;unfold mB at hl;split at hp
  ·simp only[Option.some.injEq,Pl.mk.injEq]at hp;obtain⟨h1,_⟩:=hp;exact .inr (by omega)
  ·rename_i hne;rw[if_neg hne]at hl;exact .inl ⟨j,m,C,hp,hl⟩
 have hext:uH (kA ρ h) w (kA (vC ρ nid ⟨some w.heap.size,n,c.size⟩) (mB h nid x)) w':=⟨by rw[hw];simp,fun b hb _=>hold b hb,hsub,hkp⟩
 refine⟨⟨iT hh.wf hx.le,?_,?_,hh.low' hext,hh.out' hext⟩,hext⟩
 ·intro j hl;by_cases hj:j=nid
  ·subst hj;refine⟨⟨some w.heap.size,n,c.size⟩,by simp[vC],?_⟩;have:mB h j x j=x:=by simp[mB]
   rw[this];exact(hx.mono (gF hn) hext).blkRel hown
  ·have h1:mB h nid x j=h j:=by simp[mB,hj]
   rw[h1]at hl⊢;obtain⟨p,hp,hb⟩:=hh.rel j hl;refine⟨p,by simp[vC,hj,hp],qB.mono (gF hn) hext hb ?_⟩;intro b hb';refine hold b ?_;obtain⟨pb,pn,pC⟩:=p;dsimp only at hb';subst hb';exact kA.lt hh ⟨j,pn,pC,hp,hl⟩
 ·intro i j b m C m' C' hi hj hpi hpj;have key:∀{k m C},(mB h nid x k).live→vC ρ nid ⟨some w.heap.size,n,c.size⟩ k=some ⟨some b,m,C⟩→k≠nid→(h k).live∧ρ k=some ⟨some b,m,C⟩∧b<w.heap.size:=by
   intro k m C hk hpk hne;have h1:mB h nid x k=h k:=by simp[mB,hne]
   have h2:vC ρ nid ⟨some w.heap.size,n,c.size⟩ k=ρ k:=by simp[vC,hne]
   rw[h1]at hk;rw[h2]at hpk;exact⟨hk,hpk,kA.lt hh ⟨k,m,C,hpk,hk⟩⟩
  have new:∀{m C},vC ρ nid ⟨some w.heap.size,n,c.size⟩ nid=some ⟨some b,m,C⟩→b=w.heap.size:=by intro m C hp;simp[vC]at hp;omega
  by_cases h1:i=nid<;>by_cases h2:j=nid
  ·rw[h1,h2]
  ·subst h1;have:=new hpi;have:=(key hj hpj h2).2.2;omega
  ·subst h2;have:=new hpj;have:=(key hi hpi h1).2.2;omega
  ·obtain⟨a1,a2,_⟩:=key hi hpi h1;obtain⟨b1,b2,_⟩:=key hj hpj h2;exact hh.inj i j b m C m' C' a1 b1 a2 b2
theorem mA.virtual (hh:mA F ρ h w)(hn:ρ nid=none){x:rA}(hx:(∃k,x= .ints k [])∨x= .vals []∨(∃k s,x= .nl k s [])):
  mA F (vC ρ nid ⟨none,0,0⟩) (mB h nid x) w∧uH (kA ρ h) w (kA (vC ρ nid ⟨none,0,0⟩) (mB h nid x)) w:=by
 have lv:∀{j b m C},vC ρ nid ⟨none,0,0⟩ j=some ⟨some b,m,C⟩→(mB h nid x j).live→ρ j=some ⟨some b,m,C⟩∧(h j).live:=by
  intro j b m C hp hl;unfold vC at hp;unfold mB at hl;split at hp
  ·simp at hp
  ·rename_i hne;rw[if_neg hne]at hl;exact⟨hp,hl⟩
 have hext:uH (kA ρ h) w (kA (vC ρ nid ⟨none,0,0⟩) (mB h nid x)) w:=⟨iB _,fun _ _ _=>rfl,fun b hb=>by obtain⟨j,m,C,hp,hl⟩:=hb;obtain⟨h1,h2⟩:=lv hp hl;exact .inl ⟨j,m,C,h1,h2⟩,.refl _⟩
 refine⟨⟨iT hh.wf (iB _),?_,?_,hh.low' hext,hh.out' hext⟩,hext⟩
 ·intro j hl;by_cases hj:j=nid
  ·subst hj;refine⟨⟨none,0,0⟩,by simp[vC],?_⟩;rcases hx with⟨k,rfl⟩|rfl|⟨k,s,rfl⟩<;>simp[mB,qB]
  ·have h1:mB h nid x j=h j:=by simp[mB,hj]
   rw[h1]at hl⊢;obtain⟨p,hp,hb⟩:=hh.rel j hl;exact⟨p,by simp[vC,hj,hp],qB.mono (gF hn) hext hb (fun _ _=>rfl)⟩
 ·intro i j b m C m' C' hi hj hpi hpj;obtain⟨a1,a2⟩:=lv hpi hi;obtain⟨b1,b2⟩:=lv hpj hj;exact hh.inj i j b m C m' C' a2 b2 a1 b1
theorem mA.write (hh:mA F ρ h w){id b n:Nat}{c:Array Value}{x:rA}(hl:(h id).live)(hp:ρ id=some ⟨some b,n,c.size⟩){w':World}(hsz0:w'.heap.size=w.heap.size∧iH w w')(hw:∀b',b'≠b→w'.heap[b']?=w.heap[b']?)
  (ho:kc w' b c.size c)(hx:lD ρ (av F (kA ρ h)) w n c x):
  mA F ρ (mB h id x) w'∧uH (kA ρ h) w (kA ρ (mB h id x)) w':=by
 have hbM:kA ρ h b:=⟨id,n,_,hp,hl⟩
 obtain⟨hsz,hkp⟩:=hsz0;have lv:∀{j},(mB h id x j).live→(h j).live:=by
  intro j hj;unfold mB at hj;split at hj
  ·rename_i e;subst e;exact hl
  ·exact hj
 have hext:uH (kA ρ h) w (kA ρ (mB h id x)) w':=⟨by omega,fun b' _ hm=>hw b' (fun e=>hm (e▸hbM)),fun b' hb=>by obtain⟨j,m,C,h1,h2⟩:=hb;exact .inl ⟨j,m,C,h1,lv h2⟩,hkp⟩
 refine⟨⟨hh.wf,?_,?_,hh.low' hext,hh.out' hext⟩,hext⟩
 ·intro j hj;by_cases he:j=id
  ·subst he;refine⟨_,hp,?_⟩;have:mB h j x j=x:=by simp[mB]
   rw[this];exact(hx.mono (nO.refl _) hext).blkRel ho
  ·have h1:mB h id x j=h j:=by simp[mB,he]
   rw[h1]at hj⊢;obtain⟨p,hpj,hb⟩:=hh.rel j hj;refine⟨p,hpj,qB.mono (nO.refl _) hext hb ?_⟩;intro b' hb';refine hw b' (fun e=>he ?_);subst e;obtain⟨pb,pn,pC⟩:=p;dsimp only at hb';subst hb';exact hh.inj j id b' _ _ _ _ hj hl hpj hp
 ·intro i j b' m C m' C' hi hj;exact hh.inj i j b' m C m' C' (lv hi) (lv hj)
theorem mA.retake (hh:mA F ρ h w)(hn:ρ nid=none){id b n m:Nat}{c:Array Value}{x:rA}(hl:(h id).live)(hp:ρ id=some ⟨some b,n,c.size⟩){w':World}(hsz0:w'.heap.size=w.heap.size∧iH w w')(hw:∀b',b'≠b→w'.heap[b']?=w.heap[b']?)
  (ho:kc w' b c.size c)(hx:lD ρ (av F (kA ρ h)) w m c x):
  mA F (vC ρ nid ⟨some b,m,c.size⟩) (mB (mB h id .dead) nid x) w'∧uH (kA ρ h) w (kA (vC ρ nid ⟨some b,m,c.size⟩) (mB (mB h id .dead) nid x)) w':=by
 have hbM:kA ρ h b:=⟨id,n,_,hp,hl⟩
 obtain⟨hsz,hkp⟩:=hsz0;have hne:id≠nid:=by rintro rfl;rw[hn]at hp;cases hp
 have lv:∀{j b' m' C'},j≠nid→vC ρ nid ⟨some b,m,c.size⟩ j=some ⟨some b',m',C'⟩→(mB (mB h id .dead) nid x j).live→ρ j=some ⟨some b',m',C'⟩∧(h j).live∧j≠id:=by
  intro j b' m' C' hj hpj hlj;have h1:vC ρ nid ⟨some b,m,c.size⟩ j=ρ j:=by simp[vC,hj]
  rw[h1]at hpj;unfold mB at hlj;rw[if_neg hj]at hlj;split at hlj
  ·exact hlj.elim
  ·rename_i e;exact⟨hpj,hlj,e⟩
 have hext:uH (kA ρ h) w (kA (vC ρ nid ⟨some b,m,c.size⟩) (mB (mB h id .dead) nid x)) w':=⟨by omega,fun b' _ hm=>hw b' (fun e=>hm (e▸hbM)),fun b' hb=>by
  obtain⟨j,m',C',h1,h2⟩:=hb;by_cases hj:j=nid
  ·subst hj;simp[vC]at h1;exact .inl (h1.1▸hbM)
  ·obtain⟨a1,a2,_⟩:=lv hj h1 h2;exact .inl ⟨j,m',C',a1,a2⟩,hkp⟩
 refine⟨⟨iT hh.wf hx.le,?_,?_,hh.low' hext,hh.out' hext⟩,hext⟩
 ·intro j hj;by_cases he:j=nid
  ·subst he;refine⟨⟨some b,m,c.size⟩,by simp[vC],?_⟩;have:mB (mB h id .dead) j x j=x:=by simp[mB]
   rw[this];exact(hx.mono (gF hn) hext).blkRel ho
  ·have h1:mB (mB h id .dead) nid x j=mB h id .dead j:=by simp[mB,he]
   rw[h1]at hj⊢;have hji:j≠id:=by rintro rfl;simp[mB,rA.live]at hj
   have h2:mB h id .dead j=h j:=by simp[mB,hji]
   rw[h2]at hj⊢;obtain⟨p,hpj,hb⟩:=hh.rel j hj;refine⟨p,by simp[vC,he,hpj],qB.mono (gF hn) hext hb ?_⟩;intro b' hb';refine hw b' (fun e=>hji ?_);subst e;obtain⟨pb,pn,pC⟩:=p;dsimp only at hb';subst hb';exact hh.inj j id b' _ _ _ _ hj hl hpj hp
 ·intro i j b' m1 C1 m2 C2 hi hj hpi hpj;have new:∀{m' C'},vC ρ nid ⟨some b,m,c.size⟩ nid=some ⟨some b',m',C'⟩→b'=b:=by
   intro m' C' hp';simp[vC]at hp';exact hp'.1.symm
  by_cases h1:i=nid<;>by_cases h2:j=nid
  ·rw[h1,h2]
  ·subst h1;have hb':=new hpi;subst hb';obtain⟨a1,a2,a3⟩:=lv h2 hpj hj;exact absurd (hh.inj j id _ _ _ _ _ a2 hl a1 hp) a3
  ·subst h2;have hb':=new hpj;subst hb';obtain⟨a1,a2,a3⟩:=lv h1 hpi hi;exact absurd (hh.inj i id _ _ _ _ _ a2 hl a1 hp) a3
  ·obtain⟨a1,a2,_⟩:=lv h1 hpi hi;obtain⟨b1,b2,_⟩:=lv h2 hpj hj;exact hh.inj i j b' _ _ _ _ a2 b2 a1 b1
theorem cI {b:Nat}:∀(vs:List Value) (w:World) (o i C:Nat) (c:Array Value),kc w b C c→o+i+vs.length≤C→(∀v∈vs,v.oneCell'=true)→
  ∃w' c',(storeCells ⟨b,o,none⟩ vs i).run P w= .ok () w'∧(w'.heap.size=w.heap.size∧iH w w')∧(∀b',b'≠b→w'.heap[b']?=w.heap[b']?)∧kc w' b C c'∧c'.size=C∧
   (∀j,c'[j]?=if o+i≤j∧j<o+i+vs.length then vs[j- (o+i)]? else c[j]?)
 | [],w,o,i,C,c,ho,_,_=>by
  have hsz:c.size=C:=by obtain⟨e,fr,_,q,_⟩:=ho;exact q
  exact⟨w,c,by simp[storeCells],⟨rfl,.refl _⟩,fun _ _=>rfl,ho,hsz,fun j=>by simp;omega⟩
 |v::vs,w,o,i,C,c,ho,hle,hv=>by
  obtain⟨e,fr,h1,h2,h3⟩:=ho;simp only[o0]at hle;have hlt:o+i<c.size:=by omega
  have hcell:w.cell? ⟨b,o+i,none⟩=some c[o+i]:=by simp[World.cell?,h1,hlt]
  have hfz:w.frozen? ⟨b,o+i,none⟩=false:=by simp only[World.frozen?,h1];have:=h3 (o+i) (by omega);simp only[Bool.and_eq_false_iff,decide_eq_false_iff_not];omega
  have hb:b<w.heap.size:=(hL.mp h1).1
  let w1:=w.setCell ⟨b,o+i,none⟩ v
  have hh1:w1.heap[b]?=some (.cells (c.setIfInBounds (o+i) v) e fr):=by simp only[w1,World.setCell,xK,h1,if_true,hY,Option.isSome_none,hI,if_false]
  have ho1:kc w1 b C (c.setIfInBounds (o+i) v):=⟨e,fr,hh1,by simpa using h2,h3⟩
  obtain⟨w',c',r1,r2,r3,r4,r5,r6⟩:=cI vs w1 o (i+1) C _ ho1 (by omega) (fun u hu=>hv u (List.mem_cons_of_mem _ hu));have hrun:(storeCells ⟨b,o,none⟩ (v::vs) i).run P w=(storeCells ⟨b,o,none⟩ vs (i+1)).run P w1:=by simp only[storeCells,zA,uG,run_store P w _ v .plain (hv v (by simp)),hcell,hfz,hI,if_false,hA];rfl
  refine⟨w',c',by rw[hrun];exact r1,⟨by rw[r2.1];simp[w1,World.setCell],iH.trans (b:=w1) ⟨rfl,rfl,rfl,iB _⟩ r2.2⟩,fun b' hb'=>?_,r4,r5,fun j=>?_⟩
  ·rw[r3 b' hb'];simp only[w1,World.setCell,xK,if_neg (Ne.symm hb')]
  ·rw[r6 j];simp only[o0];by_cases hj:j=o+i
   ·subst hj;rw[if_neg (by omega),if_pos (by omega)];simp[hlt]
   ·by_cases hj2:o+(i+1)≤j∧j<o+(i+1)+vs.length
    ·rw[if_pos hj2,if_pos (by omega)];have:j- (o+i)=(j- (o+(i+1)))+1:=by omega
     rw[this,hX]
    ·rw[if_neg hj2,if_neg (by omega)];simp[Array.getElem?_setIfInBounds_ne (Ne.symm hj)]
end
section
variable {P:Program}{F:Nat→Prop}{ρ:sD}{M:Nat→Prop}{h:Nat→rA}{w:World}{nid:Nat}{ty:Nat→Option TI}
theorem lA.map_c:∀(vs:List Value),lA ρ M w (vs.map .c) vs
 | []=>by simp[lA]
 |v::vs=>by simp only[hN,lA];exact⟨vA.of_c v,lA.map_c vs⟩
theorem uK:∀{cs:List V} {off:Nat} {vs r:List V},rJ cs off vs=some r→r=cs.take off++vs++cs.drop (off+vs.length)∧(vs≠ []→off+vs.length≤cs.length)
 |cs,off,[],r,h=>by cases cs<;>cases off<;>simp[rJ]at h<;>subst h<;>simp
 | [],off,v::vs,r,h=>by cases off<;>simp[rJ]at h
 |c::cs,0,v::vs,r,h=>by
  simp only[rJ,hE]at h;obtain⟨r',h1,h2⟩:=h;obtain⟨h3,h4⟩:=uK h1;subst h2;subst h3;refine⟨by simp,fun _=>?_⟩;cases vs with
  |nil=>simp
  |cons u us=>have:=h4 (by simp);simp at this⊢;omega
 |c::cs,off+1,v::vs,r,h=>by
  simp only[rJ,hE]at h;obtain⟨r',h1,h2⟩:=h;obtain⟨h3,h4⟩:=uK h1;subst h2;subst h3;refine⟨?_,fun _=>?_⟩
  ·have:off+1+(v::vs).length=off+(v::vs).length+1:=by omega
   rw[this];simp
  ·have:=h4 (by simp);simp at this⊢;omega
theorem lA.splice {cs vs:List V}{xs ys:List Value}(off:Nat)(h1:lA ρ M w cs xs)(h2:lA ρ M w vs ys):
  lA ρ M w (cs.take off++vs++cs.drop (off+vs.length)) (xs.take off++ys++xs.drop (off+ys.length)):=by
 rw[←h2.length];exact((h1.take off).append h2).append (h1.drop _)
theorem mj (off:Nat):∀(vs:List Value) (i:Nat) (cs:Array Value),off+i+vs.length≤cs.size→
  ((vs.zipIdx i).foldl (fun(cs:Array Value) (p:Value×Nat)=>cs.setIfInBounds (off+p.2) p.1) cs).toList=cs.toList.take (off+i)++vs++cs.toList.drop (off+i+vs.length)
 | [],i,cs,h=>by simp
 |v::vs,i,cs,h=>by
  simp only[o0]at h;rw[List.zipIdx_cons,List.foldl_cons,mj off vs (i+1) _ (by simp;omega)];simp only[Array.toList_setIfInBounds];apply hT;intro j;simp only[c3];by_cases h1:j<off+i
  ·rw[zB (by simp;omega),zB (by simp;omega)];rw[cD (by omega),cD h1];rw[hW (by omega)]
  ·rw[hD (l₁:=List.take (off+i) _) (by simp;omega)];simp only[p4,x4];have e1:min (off+i) cs.size=off+i:=by omega
   rw[e1];by_cases h2:j=off+i
   ·subst h2;rw[zB (by simp;omega),cD (by omega)];have hlt:off+i<cs.toList.length:=by simp;omega
    rw[List.getElem?_set_self hlt,y1];rfl
   ·rw[hD (by simp;omega)];simp only[p4,List.length_set,x4];have e2:min (off+(i+1)) cs.size=off+(i+1):=by omega
    rw[e2];have e3:j- (off+i)=(j- (off+(i+1)))+1:=by omega
    rw[e3,s5,hX];by_cases h3:j- (off+(i+1))<vs.length
    ·rw[zB h3,zB h3]
    ·rw[hD (by omega),hD (by omega)];simp only[l1,o0];rw[hW (by omega)];congr 1;omega
theorem iS {pl:Nat→Option (Nat×Nat)}{pl':Nat→Option (Nat×Nat)}(hpl:∀i p,pl i=some p→pl' i=some p):∀(ps:List (Nat×V)) (qs:List (Nat×Value)) (cs r:List V) (xs:Array Value),gK pl cs ps=some r→
  lA ρ M w cs xs.toList→ps.length=qs.length→(∀(j:Nat) p q,ps[j]?=some p→qs[j]?=some q→p.1=q.1∧vA ρ M w p.2 q.2)→∃ys,Instr.fill pl' xs qs=some ys∧lA ρ M w r ys.toList
 | [],[],cs,r,xs,hf,hr,_,_=>by simp[gK]at hf;subst hf;exact⟨xs,by simp[Instr.fill],hr⟩
 | [],_::_,_,_,_,_,_,h,_=>by simp at h
 |_::_,[],_,_,_,_,_,h,_=>by simp at h
 |(i,v)::ps,(j,u)::qs,cs,r,xs,hf,hr,hl,hp=>by
  obtain⟨h1,h2⟩:=hp 0 _ _ rfl rfl;dsimp only at h1 h2;subst h1;simp only[gK]at hf;split at hf
  ·cases hf
  ·rename_i off size hpi;split at hf
   ·rename_i vs hvs;cases hb:(Nat.beq vs.length size&&Nat.blt 0 size)with
    |false=>simp[hb]at hf
    |true=>
     simp only[hb,cond_true]at hf;rw[hR]at hb;have hsz:=x3 hb.1;have hpos:0<size:=dD hb.2;split at hf
     ·rename_i cs' hcs;have hc:=vA.cells h2 hvs;obtain⟨h3,h4⟩:=uK hcs;have hlen:=hc.length;have hlen2:=hr.length;have hus:u.cells.size=size:=by simp at hlen;omega
      have hbig:off+u.cells.size≤xs.size:=by have:=h4 (by rintro rfl;simp at hsz;omega);simp at hlen hlen2;omega
      have h6:lA ρ M w cs' (u.cells.zipIdx.foldl (fun(cs:Array Value) (p:Value×Nat)=>cs.setIfInBounds (off+p.2) p.1) xs).toList:=by
       have e:=mj off u.cells.toList 0 xs (by simpa using hbig);have e2:(u.cells.zipIdx.foldl (fun(cs:Array Value) (p:Value×Nat)=>cs.setIfInBounds (off+p.2) p.1) xs)=((u.cells.toList.zipIdx 0).foldl (fun(cs:Array Value) (p:Value×Nat)=>cs.setIfInBounds (off+p.2) p.1) xs):=by rw[←Array.foldl_toList,Array.toList_zipIdx]
       rw[e2,e,h3];simp only[c4];exact lA.splice off hr hc
      obtain⟨ys,h7,h8⟩:=iS hpl ps qs cs' r _ hf h6 (by simpa using hl) (fun j p q hj hq=>hp (j+1) p q (by simpa using hj) (by simpa using hq));refine⟨ys,?_,h8⟩;simp only[Instr.fill,hpl _ _ hpi];rw[if_neg (by simp;exact⟨hus,hbig⟩)];exact h7
     ·cases hf
   ·cases hf
end
section
variable {P:Program}{F:Nat→Prop}{ρ:sD}{h:Nat→rA}{w:World}{nid:Nat}{ty:Nat→Option TI}{ev:Operand→V}{ae:Operand→Value}{out:sH}
theorem vA.bool {M:Nat→Prop}{b:Bool}{v:Value}(hv:vA ρ M w (.c (.bool b)) v):v= .bool b:=hv.c
theorem gA {α:Type}{b:Bool}{x:Option α}{y:α}(h:(bif b then x else none)=some y):b=true∧x=some y:=by
 cases b<;>simp_all
theorem G6 {M:Nat→Prop}{b:Bool}{x y:V}{u v:Value}(hx:vA ρ M w x u)(hy:vA ρ M w y v):vA ρ M w (Dw b x y) (if b then u else v):=by
 unfold Dw;split
 ·have:=hx.bool;have:=hy.bool;subst_vars;cases b<;>exact vA.of_c _
 ·cases b<;>simpa
theorem cE.made (hh:mA F ρ h w)(hn:ρ nid=none){c:Array Value}{e:TypeId}{fr:Nat×Nat}{n:Nat}{x:rA}(hfr:∀i,i<c.size→¬(fr.1≤i∧i<fr.2))(hx:lD ρ (av F (kA ρ h)) w n c x){w':World}(hw:w'.heap=w.heap.push (.cells c e fr))
  {r:Result Next}{v:Value}{y:V}{tc:List Nat}(hr:r= .ok (.value v) w')(hv:∀ρ' M' w'',ρ' nid=some ⟨some w.heap.size,n,c.size⟩→vA ρ' M' w'' y v)(hkp:iH w w':=by exact⟨rfl,rfl,rfl,by first|exact iB _|exact a7 _⟩):cE F ρ h w nid {val:=y,new:=[x],touch:=tc} r:=by
 obtain⟨h1,h2⟩:=mA.alloc hh hn hfr hx hkp hw;refine⟨v,w',_,.inl hr,gF hn,fun id hid=>?_,h1,hv _ _ _ (by simp[vC]),h2⟩;simp only[o0,y2]at hid;unfold vC;rw[if_neg (by omega)]
theorem Bu {t:Nat}{ti:TI}(ht:zC P t ti)(hh:mA F ρ h w)(hn:ρ nid=none):
  cE F ρ h w nid {val:=.ptr nid 0 ti.size,new:=[.vals (tL ti)]} ((do pure (.value (←Instr.alloc t true (.tuple #[]))):Sem Next).run P w):=by
 obtain⟨z,h1,h2⟩:=ht.zeroValue (w:=w);have hl:z.cells.size=ti.size:=by have:=congrArg List.length h2;simp at this;rw[this,ht.zlen]
 refine cE.made (c:=z.cells) (e:=t) (fr:=(0,0)) (n:=ti.size) (w':={w with heap:=w.heap.push (.cells z.cells t)}) hh hn (fun i _=>by dsimp only;omega) ?_ rfl (v:=.pointer (some ⟨w.heap.size,0,none⟩)) ?_ ?_
 ·refine⟨by simp[tL,ht.zlen],by omega,?_⟩;rw[x0 (by simp[hl]),h2];exact lA.map_c _
 ·simp[Instr.alloc,h1,newVar,newRow]
 ·intro ρ' M' w'' hp;simp only[vA];exact⟨_,_,_,hp,by simp,rfl⟩
theorem Hu {t:Nat}{x:V}{vs:List V}{v:Value}(hh:mA F ρ h w)(hn:ρ nid=none)(hx:vA ρ (av F (kA ρ h)) w x v)(hc:rF x=some vs){n:Nat}(hvs:vs.length=n):
  cE F ρ h w nid {val:=.ptr nid 0 n,new:=[.vals vs]} ((do pure (.value (←Instr.box t v)):Sem Next).run P w):=by
 have hr:=vA.cells hx hc;have hl:=hr.length;simp at hl;refine cE.made (c:=v.cells) (e:=t) (fr:=(0,0)) (n:=n) (w':={w with heap:=w.heap.push (.cells v.cells t)}) hh hn (fun i _=>by dsimp only;omega) ?_ rfl (v:=.pointer (some ⟨w.heap.size,0,none⟩)) ?_ ?_
 ·refine⟨hvs,by omega,?_⟩;rw[x0 (by simp;omega)];exact hr
 ·simp[Instr.box,newVar,newRow]
 ·intro ρ' M' w'' hp;simp only[vA];exact⟨_,_,_,hp,by simp,rfl⟩
theorem oY {fs:List (Nat×Nat)}{i off size:Nat}(hf:wI ty fs i=some (off,size)):∃t ti,fs[i]?=some (t,off)∧ty t=some ti∧ti.size=size:=by
 unfold wI at hf;split at hf
 ·rename_i t o hg;split at hf
  ·rename_i ti ht;simp only[Option.some.injEq,Prod.mk.injEq]at hf;exact⟨t,ti,by rw[hg,hf.1],ht,hf.2⟩
  ·cases hf
 ·cases hf
theorem qO (hty:bF P ty):∀(fields:List Field),(∀f∈fields,∃ti,ty f.type=some ti)→
  (fields.mapM (fun f=>(do pure (f.offset,←Go.sizeOf f.type):Sem (Nat×Nat)))).run P w= .ok (fields.map fun f=>(f.offset,((ty f.type).map (·.size)).getD 0)) w
 | [],_=>by simp
 |f::fs,h=>by obtain⟨ti,hti⟩:=h f (by simp);simp only[List.mapM_cons,zA,(hty _ _ hti).sizeOf,hA,hB];rw[qO hty fs (fun g hg=>h g (by simp[hg]))];simp[hti]
theorem gi {M:Nat→Prop}(he:∀x,vA ρ M w (ev x) (ae x))(ps:List (Nat×Operand)):∀(j:Nat) p q,(ps.map fun p=>(p.1,ev p.2))[j]?=some p→(ps.map fun p=>(p.1,ae p.2))[j]?=some q→p.1=q.1∧vA ρ M w p.2 q.2:=by
 intro j p q hp hq;simp only[hU,hE]at hp hq;obtain⟨a,h1,rfl⟩:=hp;obtain⟨b,h2,rfl⟩:=hq;rw[h1]at h2;simp only[Option.some.injEq]at h2;subst h2;exact⟨rfl,he _⟩
theorem C0 {M:Nat→Prop}(hty:bF P ty){t:Nat}{ti:TI}{ps:Array (Nat×Operand)}(ht:ty t=some ti)(he:∀x,vA ρ M w (ev x) (ae x)){cs:List V}
  (hb:(∃fs,ti.tk= .struct fs∧fs.all (fun p=>(ty p.1).isSome)=true∧gK (wI ty fs) (tL ti) (ps.toList.map fun p=>(p.1,ev p.2))=some cs)∨
   (∃n e te,ti.tk= .arr n e∧ty e=some te∧gK (fun i=>some (i*te.size,te.size)) (tL ti) (ps.toList.map fun p=>(p.1,ev p.2))=some cs)):
  ∃v,(Instr.build t (ps.map fun(i,x)=>(i,ae x))).run P w= .ok v w∧vA ρ M w (.agg cs) v:=by
 have h0:=hty _ _ ht;obtain⟨z,h1,h2⟩:=h0.zeroValue (w:=w);have hk:=h0.tk;have hz:lA ρ M w (tL ti) z.cells.toList:=by rw[h2];exact lA.map_c _
 have hps:(ps.map fun(i,x)=>(i,ae x)).toList=ps.toList.map fun p=>(p.1,ae p.2):=by simp
 rcases hb with⟨fs,h3,h4,h5⟩|⟨n,e,te,h3,h4,h5⟩
 ·rw[h3]at hk;obtain⟨fields,h6,h7,h8⟩:=hk;have hall:∀f∈fields.toList,∃ti,ty f.type=some ti:=by
   intro f hf;have:=p5.mp h4 (f.type,f.offset) (by rw[←h7];exact w3.mpr ⟨f,hf,rfl⟩);exact Option.isSome_iff_exists.mp this
  have hm:=qO (P:=P) (w:=w) hty fields.toList hall;have hpl:∀i p,wI ty fs i=some p→(fields.toList.map fun f=>(f.offset,((ty f.type).map (·.size)).getD 0)).toArray[i]?=some p:=by
   rintro i ⟨off,size⟩ hp;obtain⟨t',ti',a1,a2,a3⟩:=oY hp;obtain⟨f,b1,b2,b3⟩:=cU h7 a1;simp only[hV,hU];have:fields.toList[i]?=some f:=by simpa using b1
   rw[this];simp[b2,b3,a2,a3]
  obtain⟨ys,c1,c2⟩:=iS hpl _ (ps.toList.map fun p=>(p.1,ae p.2)) _ _ _ h5 hz (by simp) (gi he ps.toList);refine⟨.agg ys,?_,by simp only[vA];exact⟨ys,rfl,c2⟩⟩;simp only[Instr.build,zA,h1,hA,run_underlying h6,Array.mapM_eq_mapM_toList,Sem.run_map,hm];rw[hps];simp only[zA,Sem.run_map,hm,hA,c1,hB]
 ·rw[h3]at hk;simp only[xE]at hk;obtain⟨ys,c1,c2⟩:=iS (pl':=fun i=>some (i*te.size,te.size)) (fun i p hp=>hp) _ (ps.toList.map fun p=>(p.1,ae p.2)) _ _ _ h5 hz (by simp) (gi he ps.toList);refine⟨.agg ys,?_,by simp only[vA];exact⟨ys,rfl,c2⟩⟩;simp only[Instr.build,zA,h1,hA,run_underlying hk,(hty _ _ h4).sizeOf];rw[hps];simp only[c1,hB]
end
section
variable {P:Program}{F:Nat→Prop}{ρ:sD}{h:Nat→rA}{w:World}{nid:Nat}{ty:Nat→Option TI}{ev:Operand→V}{ae:Operand→Value}{out:sH}
theorem Fs (hty:bF P ty)(hh:mA F ρ h w){t:Nat}{a:V}{va:Value}(ha:vA ρ (av F (kA ρ h)) w a va)
  {ti:TI}(ht:ty t=some ti){y:V}{out:sH}
  (hl:rS ti a h=some (true,out)):
  ∃y tc v,out={val:=y,touch:=tc}∧(Instr.loadAt t va).run P w= .ok v w∧vA ρ (av F (kA ρ h)) w y v:=by
 have h0:=hty _ _ ht;cases a with
 |ptr id off ext=>
  simp only[rS]at hl;obtain⟨h1,h2⟩:=gA hl;rw[hR]at h1;have hle:=gG h1.1;have hpos:=dD h1.2;split at h2
  ·rename_i y hy;simp only[Option.some.injEq,Prod.mk.injEq,true_and]at h2;simp only[vA]at ha;obtain⟨b,n,C,hp,hn,rfl⟩:=ha;have hlive:(h id).live:=by
    cases hx:h id with
    |dead=>rw[hx]at hy;simp[zG]at hy
    |_=>trivial
   obtain⟨v,r1,r2⟩:=vN (b:=b) (o:=0) h0 hpos (hh.cellsAt hlive hp) (by omega) hy h0.one;rw[hP]at r1;exact⟨y,_,v,h2.symm,by simp only[Instr.loadAt,Instr.sureAddr,zA,hB,hA];exact r1,r2⟩
  ·cases h2
 |ilp k l off ext=>
  simp only[rS]at hl;obtain⟨h1,h2⟩:=gA hl;rw[hR]at h1;have hle:=gG h1.1;have hpos:=dD h1.2;split at h2
  ·rename_i y hy;simp only[vA]at ha;obtain⟨b,o,rfl,hn,hb,hM,hc⟩:=ha;obtain⟨v,r1,r2⟩:=vN (ρ:=ρ) (M:=av F (kA ρ h)) (b:=b) (o:=o) (n:=l.length) (x:=.ints k l) h0 hpos ⟨iB _,hc⟩ (by omega) hy h0.one;exact⟨y,[],v,kC h2,by simp only[Instr.loadAt,Instr.sureAddr,zA,hB,hA];exact r1,r2⟩
  ·cases h2
 |ivp cols i off ext=>
  simp only[rS]at hl;obtain⟨h1,h2⟩:=gA hl;rw[hR]at h1;have hle:=gG h1.1;have hpos:=dD h1.2;split at h2
  ·rename_i y hy;simp only[vA]at ha;obtain⟨b,o,rfl,hn,hb,hM,hc⟩:=ha;have hlen:((kN cols i).map V.c).length=cols.length:=by rw[x5,rQ]
   obtain⟨v,r1,r2⟩:=vN (ρ:=ρ) (M:=av F (kA ρ h)) (b:=b) (o:=o) (n:=cols.length) (x:=.vals ((kN cols i).map .c)) h0 hpos ⟨by rw[hlen];exact iB _,kN cols i,lA.consts _,hc⟩ (by omega) hy h0.one;exact⟨y,[],v,kC h2,by simp only[Instr.loadAt,Instr.sureAddr,zA,hB,hA];exact r1,r2⟩
  ·cases h2
 |_=>simp[rS]at hl
theorem j8 {k:IntKind}{M:Nat→Prop}:∀(vs:List V) (us:List Value) (l l':List Int) (off:Nat),iO k l off vs=some l'→lA ρ M w vs us→
  l'.length=l.length∧(∀u∈us,u.oneCell'=true)∧∀j,j<l.length→Value.int k (l'.getD j 0)=if off≤j∧j<off+us.length then us.getD (j-off) undef else .int k (l.getD j 0)
 | [],[],l,l',off,h,_=>by simp[iO]at h;subst h;exact⟨rfl,by simp,fun j _=>by rw[if_neg (by simp only[y2];omega)]⟩
 | [],_::_,_,_,_,_,h=>by simp[lA]at h
 |_::_,[],_,_,_,_,h=>by simp[lA]at h
 |x::vs,u::us,l,l',off,h,hr=>by
  simp only[lA]at hr;cases x with
  |c y=>
   cases y with
   |int k' n=>
    simp only[iO]at h;obtain⟨hk,h0⟩:=gA h;have hkk:=dH hk;subst hkk;have hu:=hr.1.int;subst hu;obtain⟨h1,h2,h3⟩:=j8 vs us _ _ _ h0 hr.2;simp only[List.length_set]at h1 h3;refine⟨h1,?_,?_⟩
    ·intro v hv;rcases p6.mp hv with rfl|hv
     ·rfl
     ·exact h2 v hv
    ·intro j hj;rw[h3 j hj];simp only[o0];by_cases e:j=off
     ·subst e;rw[if_neg (by omega),if_pos (by omega)];simp[iA,hj]
     ·by_cases e2:off+1≤j∧j<off+1+us.length
      ·rw[if_pos e2,if_pos (by omega)];have:j-off=(j- (off+1))+1:=by omega
       rw[this];simp[iA]
      ·rw[if_neg e2,if_neg (by omega)];simp[iA,hW (Ne.symm e)]
   |_=>simp[iO]at h
  |_=>simp[iO]at h
theorem vA.oneCell {M:Nat→Prop}{x:V}{v:Value}(hr:vA ρ M w x v)(hc:bR x=true):v.oneCell'=true:=by
 cases x<;>simp only[bR,hI]at hc
 case c y=>have:=hr.c;subst this;cases v<;>simp_all[bR,Value.oneCell']
 case ptr=>simp only[vA]at hr;obtain⟨_,_,_,_,_,rfl⟩:=hr;rfl
 case sw=>simp only[vA]at hr;obtain⟨_,⟨_,_,_,_,_,_,_,_,rfl⟩|⟨_,rfl⟩⟩:=hr<;>rfl
 case sl=>simp only[vA]at hr;obtain⟨_,⟨_,_,_,_,_,_,_,_,rfl⟩|⟨_,_,rfl⟩⟩:=hr<;>rfl
 case il=>simp only[vA]at hr;obtain⟨_,_,⟨_,_,rfl⟩|⟨_,_,_,rfl,_⟩⟩:=hr<;>rfl
 case iv=>simp only[vA]at hr;obtain⟨_,⟨_,_,rfl⟩|⟨_,_,_,rfl,_⟩⟩:=hr<;>rfl
 case ilp=>simp only[vA]at hr;obtain⟨_,_,rfl,_⟩:=hr;rfl
 case ivp=>simp only[vA]at hr;obtain⟨_,_,rfl,_⟩:=hr;rfl
 case fn=>simp only[vA]at hr;obtain⟨_,_,rfl,_⟩:=hr;rfl
 case mref=>simp only[vA]at hr;obtain⟨_,_,rfl⟩:=hr;rfl
theorem lA.oneCell {M:Nat→Prop}:∀{xs:List V} {vs:List Value},lA ρ M w xs vs→xs.all bR=true→∀v∈vs,v.oneCell'=true
 | [],[],_,_,v,hv=>by simp at hv
 |x::xs,u::us,hr,hc,v,hv=>by
  simp only[lA]at hr;simp only[List.all_cons,hR]at hc;rcases p6.mp hv with rfl|hv
  ·exact hr.1.oneCell hc.1
  ·exact lA.oneCell hr.2 hc.2 v hv
 | [],_::_,h,_,_,_=>by simp[lA]at h
 |_::_,[],h,_,_,_=>by simp[lA]at h
theorem zV {M:Nat→Prop}{x x':rA}{off n:Nat}{vs:List V}{us:List Value}{c c':Array Value}(hs:eI off vs x=some x')(hx:lD ρ M w n c x)(hr:lA ρ M w vs us)(hle:off+us.length≤n)
  (hc':c'.size=c.size)(hcc:∀j,c'[j]?=if off≤j∧j<off+us.length then us[j-off]? else c[j]?):(∀v∈us,v.oneCell'=true)∧lD ρ M w n c' x':=by
 cases x with
 |dead=>exact hx.elim
 |mp _ _ _ _=>exact hx.elim
 |it _ _ _ _=>exact hx.elim
 |nl _ _ _=>simp[eI]at hs
 |ints k l=>
  simp only[eI,hE]at hs;obtain⟨l',h1,rfl⟩:=hs;obtain⟨h2,h3,h4⟩:=j8 vs us l l' off h1 hr;obtain⟨a1,a2,a3⟩:=hx;refine⟨h3,by omega,by omega,fun i hi=>?_⟩;rw[hcc i,h4 i (by omega)];split
  ·rename_i hb;rw[zE (by omega)];simp[iA,zE (show i-off<us.length by omega)]
  ·exact a3 i (by omega)
 |vals cs=>
  simp only[eI]at hs;obtain⟨hok,hs⟩:=gA hs;simp only[hE]at hs;obtain⟨cs',h1,rfl⟩:=hs;obtain⟨h2,h3⟩:=uK h1;obtain⟨a1,a2,a3⟩:=hx;have hlen:=hr.length;refine⟨lA.oneCell hr hok,?_,by omega,?_⟩
  ·rw[h2];simp;omega
  ·have key:c'.toList.take n=(c.toList.take n).take off++us++(c.toList.take n).drop (off+us.length):=by
    apply hT;intro j;by_cases hj:j<n
    ·rw[cD hj];have hcj:=hcc j;simp only[←yK]at hcj;rw[hcj];by_cases h5:j<off
     ·rw[if_neg (by omega),c3,zB (by simp;omega),cD h5,cD hj]
     ·rw[c3,hD (by simp;omega)];have e:(List.take off (List.take n c.toList)).length=off:=by simp;omega
      rw[e];by_cases h6:j<off+us.length
      ·rw[if_pos ⟨by omega,h6⟩,zB (by omega)]
      ·rw[if_neg (by omega),hD (by omega),l1];have e2:off+us.length+(j-off-us.length)=j:=by omega
       rw[e2,cD hj]
    ·rw[hG (by simp;omega),hG (by simp;omega)]
   rw[key,h2];exact lA.splice off a3 hr
theorem Eg (hty:bF P ty)(hh:mA F ρ h w){t id off ext:Nat}{va vx:Value}{x:V}{vs:List V}{b:rA}{ti:TI}(ha:vA ρ (av F (kA ρ h)) w (.ptr id off ext) va)(hx:vA ρ (av F (kA ρ h)) w x vx)
  (ht:ty t=some ti)(hc:rF x=some vs)(hle:ti.size≤ext)(hl:vs.length=ti.size)(hs:eI off vs (h id)=some b):
  cE F ρ h w nid {val:=eM,wr:=[(id,b)],touch:=[id]} ((do Instr.storeAt t va vx;pure .skip:Sem Next).run P w):=by
 have h0:=hty _ _ ht;simp only[vA]at ha;obtain⟨bb,n,C,hp,hn,rfl⟩:=ha;have hlive:(h id).live:=by
  cases hx:h id with
  |dead=>rw[hx]at hs;simp[eI]at hs
  |_=>trivial
 have hflat:(h id).flat:=by
  cases hx:h id with
  |mp _ _ _ _=>rw[hx]at hs;simp[eI]at hs
  |it _ _ _ _=>rw[hx]at hs;simp[eI]at hs
  |_=>trivial
 obtain⟨c,ho,hsz,hold⟩:=hh.own hlive hflat hp;have hr:=vA.cells hx hc;have hlen:=hr.length;have hnC:n≤c.size:=by
  cases hx:h id with
  |dead=>rw[hx]at hlive;exact hlive.elim
  |mp _ _ _ _=>rw[hx]at hflat;exact hflat.elim
  |it _ _ _ _=>rw[hx]at hflat;exact hflat.elim
  |ints k l=>rw[hx]at hold;exact hold.2.1
  |vals cs=>rw[hx]at hold;exact hold.2.1
  |nl _ _ _=>rw[hx]at hold;exact hold.2.1
 have hone:∀v∈vx.cells.toList,v.oneCell'=true:=by
  have:=zV (c:=c) (c':=(c.toList.take off++vx.cells.toList++c.toList.drop (off+vx.cells.toList.length)).toArray) hs hold hr (by simp at hlen⊢;omega) (by simp at hlen⊢;omega) (fun j=>by
   simp only[hV];by_cases h5:j<off
   ·rw[if_neg (by omega),c3,zB (by simp;omega),cD h5];simp
   ·rw[c3,hD (by simp;omega)];have e:(List.take off c.toList).length=off:=by simp;simp at hlen;omega
    rw[e];by_cases h6:j<off+vx.cells.toList.length
    ·rw[if_pos ⟨by omega,h6⟩,zB (by omega)]
    ·rw[if_neg (by omega),hD (by omega),l1];have e2:off+vx.cells.toList.length+(j-off-vx.cells.toList.length)=j:=by omega
     rw[e2];simp)
  exact this.1
 obtain⟨w',c',r1,r2,r3,r4,r5,r6⟩:=cI (P:=P) (b:=bb) vx.cells.toList w off 0 C c ho (by simp at hlen⊢;omega) hone;obtain⟨_,hold'⟩:=zV (c':=c') hs hold hr (by simp at hlen⊢;omega) (by omega) (fun j=>by rw[r6 j];simp only[c4]);subst hsz;rw[←r5]at r4 hp;obtain⟨q1,q2⟩:=mA.write hh hlive hp r2 r3 r4 hold';refine⟨undef,w',ρ,.inr ⟨?_,rfl⟩,nO.refl _,fun _ _=>rfl,q1,vA.of_c _,q2⟩;have hsize:¬(vx.cells.size≠ti.size):=by simp at hlen⊢;omega
 simp only[Instr.storeAt,Instr.sureAddr,storeVar,zA,hB,hA,h0.sizeOf,if_neg hsize,b5,r1]
end
section
variable {P:Program}{F:Nat→Prop}{ρ:sD}{h:Nat→rA}{w:World}{nid:Nat}{ty:Nat→Option TI}{ev:Operand→V}{ae:Operand→Value}{out:sH}{M:Nat→Prop}
theorem rP (hty:bF P ty){t f fo fsz:Nat}{ti:TI}{fs:List (Nat×Nat)}(ht:ty t=some ti)(hk:ti.tk= .struct fs)(hf:wI ty fs f=some (fo,fsz))(hpos:0<fsz)(b o:Nat):
  (Instr.fieldAt t (.pointer (some ⟨b,o,none⟩)) f).run P w= .ok (.pointer (some ⟨b,o+fo,none⟩)) w:=by
 have h0:=(hty _ _ ht).tk;rw[hk]at h0;obtain⟨fields,h1,h2,h3⟩:=h0;obtain⟨t',ti',a1,a2,a3⟩:=oY hf;obtain⟨fl,b1,b2,b3⟩:=cU h2 a1;have hs:(Go.sizeOf fl.type).run P w= .ok ti'.size w:=by rw[b2];exact(hty _ _ a2).sizeOf
 have hne:¬ti'.size=0:=by omega
 simp only[Instr.fieldAt,zA,run_underlying h1,hA,b1,Instr.sureAddr,hB,fieldPlace,hs,if_neg hne,uG,b3]
theorem gj (hty:bF P ty){t f:Nat}{ti:TI}{fs:List (Nat×Nat)}{x:V}{vx:Value}(ht:ty t=some ti)(hk:ti.tk= .struct fs)(hx:vA ρ M w x vx){out:sH}
  (hb:nY ty fs f x=some (true,out)):
  ∃y v,out={val:=y}∧(Instr.fieldAt t vx f).run P w= .ok v w∧vA ρ M w y v:=by
 cases x<;>simp only[nY]at hb
 case ptr id off ext=>
  split at hb
  ·rename_i fo fsz hf;obtain⟨h1,h2⟩:=gA hb;rw[hR]at h1;have:=gG h1.1;simp only[vA]at hx;obtain⟨b,n,C,hp,hn,rfl⟩:=hx;exact⟨_,_,kC h2,rP hty ht hk hf (dD h1.2) b off,by simp only[vA];exact⟨b,n,C,hp,by omega,rfl⟩⟩
  ·cases hb
 case ilp k l off ext=>
  split at hb
  ·rename_i fo fsz hf;obtain⟨h1,h2⟩:=gA hb;rw[hR]at h1;have:=gG h1.1;simp only[vA]at hx;obtain⟨b,o,rfl,hn,hr⟩:=hx;exact⟨_,_,kC h2,rP hty ht hk hf (dD h1.2) b (o+off),by simp only[vA];exact⟨b,o,by rw[c0],by omega,hr⟩⟩
  ·cases hb
 case ivp l i off ext=>
  split at hb
  ·rename_i fo fsz hf;obtain⟨h1,h2⟩:=gA hb;rw[hR]at h1;have:=gG h1.1;simp only[vA]at hx;obtain⟨b,o,rfl,hn,hr⟩:=hx;exact⟨_,_,kC h2,rP hty ht hk hf (dD h1.2) b (o+off),by simp only[vA];exact⟨b,o,by rw[c0],by omega,hr⟩⟩
  ·cases hb
 all_goals cases hb
theorem vW {t:Nat}{ti:TI}(ht:zC P t ti)(hpos:0<ti.size){cs r:List V}{xs:Array Value}{off:Nat}(hr:lA ρ M w cs xs.toList)(hc:aR (tQ cs off) ti.size=some r):
  ∃v,(part t xs off).run P w= .ok v w∧vA ρ M w (vZ ti r) v:=by
 rw[dY]at hc;obtain⟨h1,h2⟩:=r8 hc;have hlen:=hr.length;have hrr:lA ρ M w r ((xs.toList.drop off).take ti.size):=by rw[h1];exact(hr.drop off).take _
 unfold part vZ;simp only[zA,ht.isAgg,hA];cases ha:ti.isAgg with
 |true=>
  refine⟨.agg (xs.extract off (off+ti.size)),by simp only[if_true,zA,ht.sizeOf,hA,hB],?_⟩;simp only[cond_true,vA];refine⟨_,rfl,?_⟩;have:(xs.extract off (off+ti.size)).toList=(xs.toList.drop off).take ti.size:=by simp[Array.toList_extract]
  rw[this];exact hrr
 |false=>
  have hone:=ht.one ha;simp only[u5]at h2;have hlt:off<xs.size:=by simp at hlen;omega
  refine⟨xs[off],by simp[hlt],?_⟩;simp only[cond_false];have e:(xs.toList.drop off).take ti.size=[xs[off]]:=by rw[hone,y3 (by simpa using hlt)];simp
  rw[e]at hrr;cases r with
  |nil=>simp[lA]at hrr
  |cons v r=>simp only[lA]at hrr;exact hrr.1
theorem Ci (hty:bF P ty){t f:Nat}{ti:TI}{fs:List (Nat×Nat)}{cs r:List V}{vx:Value}{t' fo:Nat}{te:TI}(ht:ty t=some ti)(hk:ti.tk= .struct fs)(hx:vA ρ M w (.agg cs) vx)
  (hf:fs[f]?=some (t',fo))(hte:ty t'=some te)(hpos:0<te.size)(hc:aR (tQ cs fo) te.size=some r):
  ∃v,(Instr.field t vx f).run P w= .ok v w∧vA ρ M w (vZ te r) v:=by
 have h0:=(hty _ _ ht).tk;rw[hk]at h0;obtain⟨fields,h1,h2,h3⟩:=h0;obtain⟨fl,b1,b2,b3⟩:=cU h2 hf;simp only[vA]at hx;obtain⟨xs,rfl,hx⟩:=hx;obtain⟨v,c1,c2⟩:=vW (hty _ _ hte) hpos hx hc;refine⟨v,?_,c2⟩;simp only[Instr.field,zA,run_underlying h1,hA,b1,asAgg,hB,b2,b3,c1]
theorem sj {i:Nat}{vs:List V}{y:V}{vx:Value}(hx:vA ρ M w (.tup vs) vx)(hg:so vs i=some y):∃v,(Instr.extract vx i).run P w= .ok v w∧vA ρ M w y v:=by
 simp only[vA]at hx;obtain⟨xs,rfl,hx⟩:=hx;rw[wv]at hg;obtain⟨v,h1,h2⟩:=hx.get hg;refine⟨v,?_,h2⟩;have:xs[i]?=some v:=by simpa using h1
 simp only[Instr.extract,this,hB]
theorem zF (hh:mA F ρ h w){id s:Nat}{vx:Value}(hx:vA ρ (av F (kA ρ h)) w (.sw id s) vx)(hl:(h id).live)(hf:(h id).flat):
  0<s∧((∃b n C cap c,ρ id=some ⟨some b,n,C⟩∧n%s=0∧n/s≤cap∧cap*s≤C∧vx= .slice (some ⟨b,0,none⟩) (n/s) cap∧kc w b C c∧c.size=C∧lD ρ (av F (kA ρ h)) w n c (h id))∨
   (ρ id=some ⟨none,0,0⟩∧vx= .slice none 0 0∧((∃k,h id= .ints k [])∨h id= .vals []∨(∃k s,h id= .nl k s [])))):=by
 simp only[vA]at hx;obtain⟨h0,⟨b,n,C,cap,h1,h2,h3,h4,h5⟩|⟨h1,h2⟩⟩:=hx
 ·obtain⟨c,ho,hsz,hold⟩:=hh.own hl hf h1;exact⟨h0,.inl ⟨b,n,C,cap,c,h1,h2,h3,h4,h5,ho,hsz,hold⟩⟩
 ·refine⟨h0,.inr ⟨h1,h2,?_⟩⟩;obtain⟨p,hp,hb⟩:=hh.rel id hl;rw[h1]at hp;simp only[Option.some.injEq]at hp;subst hp;cases hx:h id with
  |dead=>rw[hx]at hl;exact hl.elim
  |mp _ _ _ _=>rw[hx]at hf;exact hf.elim
  |it _ _ _ _=>rw[hx]at hf;exact hf.elim
  |ints k l=>rw[hx]at hb;obtain⟨hb1,_⟩:=hb;have:l=[]:=hQ.mp hb1;exact .inl ⟨k,by rw[this]⟩
  |vals cs=>rw[hx]at hb;obtain⟨hb1,_⟩:=hb;have:cs=[]:=hQ.mp hb1;exact .inr (.inl (by rw[this]))
  |nl k s jD=>rw[hx]at hb;obtain⟨hb1,_⟩:=hb;have:jD=[]:=hQ.mp hb1;exact .inr (.inr ⟨k,s,by rw[this]⟩)
theorem lD.len {n:Nat}{c:Array Value}{k:IntKind}{l:List Int}(hx:lD ρ M w n c (.ints k l)):l.length=n:=hx.1
theorem lD.lenV {n:Nat}{c:Array Value}{l:List V}(hx:lD ρ M w n c (.vals l)):l.length=n:=hx.1
theorem gZ (hh:mA F ρ h w){x:V}{vx:Value}{n:Nat}{tc:List Nat}(hx:vA ρ (av F (kA ρ h)) w x vx)(hl:uO h x=some (n,tc))(hs:∀s,x≠ .c (.string s)):∃a c,vx= .slice a n c∧n≤c:=by
 unfold uO at hl;split at hl
 ·simp only[Option.some.injEq,Prod.mk.injEq]at hl;have:=hx.c;subst this;obtain⟨rfl,_⟩:=hl;exact⟨none,0,rfl,iB _⟩
 ·rename_i s;exact absurd rfl (hs s)
 ·rename_i id s;have hlive:(h id).live:=by
   cases hx:h id with
   |dead=>rw[hx]at hl;simp at hl
   |_=>trivial
  have hflat:(h id).flat:=by
   cases hx:h id with
   |mp _ _ _ _=>rw[hx]at hl;simp at hl
   |it _ _ _ _=>rw[hx]at hl;simp at hl
   |_=>trivial
  obtain⟨h0,⟨b,m,C,cap,c,h1,h2,h3,h4,h5,ho,hsz,hold⟩|⟨h1,h2,⟨k,hk⟩|hk|⟨_,_,hk⟩⟩⟩:=zF hh hx hlive hflat
  ·split at hl
   ·rename_i k l hid;simp only[Option.some.injEq,Prod.mk.injEq,pE]at hl;rw[hid]at hold;have:=hold.len;obtain⟨rfl,_⟩:=hl;exact⟨_,cap,by rw[this];exact h5,by rw[this];exact h3⟩
   ·rename_i l hid;simp only[Option.some.injEq,Prod.mk.injEq,pE]at hl;rw[hid]at hold;have:=hold.lenV;obtain⟨rfl,_⟩:=hl;exact⟨_,cap,by rw[this];exact h5,by rw[this];exact h3⟩
   ·rename_i l hid;simp only[Option.some.injEq,Prod.mk.injEq,pE]at hl;rw[hid]at hold;have:=hold.1;obtain⟨rfl,_⟩:=hl;exact⟨_,cap,by rw[this];exact h5,by rw[this];exact h3⟩
   ·cases hl
   ·cases hl
   ·cases hl
  all_goals
   rw[hk]at hl;simp only[Option.some.injEq,Prod.mk.injEq,pE,y2,Nat.zero_div]at hl;obtain⟨rfl,_⟩:=hl;exact⟨none,0,h2,iB _⟩
 ·rename_i id s off len;simp only[Option.some.injEq,Prod.mk.injEq]at hl;obtain⟨rfl,_⟩:=hl;simp only[vA]at hx;obtain⟨h0,⟨b,m,C,cap,h1,h2,h3,h4,h5⟩|⟨h2,a,h3⟩⟩:=hx
  ·exact⟨_,cap,h5,h3⟩
  ·exact⟨a,0,by rw[h2];exact h3,by omega⟩
 ·rename_i k s l;simp only[Option.some.injEq,Prod.mk.injEq,pE]at hl;obtain⟨rfl,_⟩:=hl;simp only[vA]at hx;obtain⟨h0,h1,⟨h2,a,h3⟩|⟨b,o,cap,h2,h3,_⟩⟩:=hx
  ·subst h2;exact⟨a,0,by simpa using h3,by simp⟩
  ·exact⟨_,cap,h2,h3⟩
 ·rename_i m cols;simp only[Option.some.injEq,Prod.mk.injEq]at hl;obtain⟨rfl,_⟩:=hl;simp only[vA]at hx;obtain⟨h0,⟨h2,a,h3⟩|⟨b,o,cap,h2,h3,_⟩⟩:=hx
  ·subst h2;exact⟨a,0,h3,iB _⟩
  ·exact⟨_,cap,h2,h3⟩
 ·cases hl
theorem Hz (hty:bF P ty)(hh:mA F ρ h w){t:Nat}{ti:TI}{x:V}{vx:Value}{n:Nat}{tc:List Nat}(ht:ty t=some ti)(hx:vA ρ (av F (kA ρ h)) w x vx)(hl:uO h x=some (n,tc))(hk:Cy ti.tk x=true)(ts:Array TypeId)(hts:ts[0]?=some t)(t':TypeId):
  (u6 ts t' #[vx]).run P w= .ok (.int .i64 n) w:=by
 have h0:=(hty _ _ ht).tk;unfold Cy at hk;split at hk
 ·rename_i s hti;rw[hti]at h0;simp only[xE]at h0;have:=hx.c;subst this;simp only[uO,Option.some.injEq,Prod.mk.injEq]at hl;obtain⟨rfl,_⟩:=hl;simp[u6,hts,run_underlying h0,goInt]
 ·cases hk
 ·rename_i e hti hns;rw[hti]at h0;simp only[xE]at h0;obtain⟨a,c,rfl,_⟩:=gZ hh hx hl (fun s e=>hns s e);simp[u6,hts,run_underlying h0,goInt]
 ·cases hk
theorem mL {t:Nat}{e:Nat}{te:TI}(hty:bF P ty)(hte:ty e=some te)(hu:P.underlying t=some (.slice e)){b off len cap:Nat}{k:IntKind}{i:Int}(h0:0≤i)(h1:i<(len:Int)):
  (Instr.indexAt t (.slice (some ⟨b,off,none⟩) len cap) (.int k i)).run P w= .ok (.pointer (some ⟨b,off+rG te.size i.toNat,none⟩)) w:=by
 simp only[Instr.indexAt,asIntOf,zA,hB,hA,run_underlying hu,if_pos (And.intro h0 h1),(hty _ _ hte).sizeOf,uG,bC]
theorem gO {t n:Nat}{e:Nat}{te:TI}(hty:bF P ty)(hte:ty e=some te)(hu:P.underlying t=some (.array n e)){b off:Nat}{k:IntKind}{i:Int}(h0:0≤i)(h1:i<(n:Int)):
  (Instr.indexAt t (.pointer (some ⟨b,off,none⟩)) (.int k i)).run P w= .ok (.pointer (some ⟨b,off+rG te.size i.toNat,none⟩)) w:=by
 simp only[Instr.indexAt,asIntOf,Instr.sureAddr,zA,hB,hA,run_underlying hu,if_pos (And.intro h0 h1),(hty _ _ hte).sizeOf,uG,bC]
theorem wB {a b:Bool}(h:(a&&b)=true):a=true∧b=true:=by simpa using h
theorem kU {i n w:Nat}(h:i<n):i*w+w≤n*w:=by
 have:(i+1)*w≤n*w:=aE w h;rw[u4]at this;exact this
theorem sz (hty:bF P ty)(hh:mA F ρ h w){t:Nat}{x i:V}{vx vi:Value}{out:sH}(hx:vA ρ (av F (kA ρ h)) w x vx)(hi:vA ρ (av F (kA ρ h)) w i vi)(hb:gQ ty t x i h=some (true,out)):
  ∃y tc v,out={val:=y,touch:=tc}∧(Instr.indexAt t vx vi).run P w= .ok v w∧vA ρ (av F (kA ρ h)) w y v:=by
 unfold gQ at hb;split at hb
 ·rename_i ki n e s0 b0 z0 ht;have hvi:=hi.int;subst hvi;have hu:=(hty _ _ ht).tk;simp only[xE]at hu;split at hb
  ·cases hb
  ·rename_i te hte;split at hb
   ·rename_i id s;obtain⟨hw,hb⟩:=gA hb;have hw:=vB hw;have hlive:(h id).live:=by
     cases hx:h id with
     |dead=>rw[hx]at hb;simp at hb
     |_=>trivial
    have hflat:(h id).flat:=by
     cases hx:h id with
     |mp _ _ _ _=>rw[hx]at hb;simp at hb
     |it _ _ _ _=>rw[hx]at hb;simp at hb
     |_=>trivial
    have fin:∀L:Nat,(∀{m c},lD ρ (av F (kA ρ h)) w m c (h id)→L=m)→((∃k,h id= .ints k [])∨h id= .vals []∨(∃k s,h id= .nl k s [])→L=0)→(decide (0≤n)&&decide (n<((wE s L:Nat):Int)))=true→out={val:=.ptr id (rG s n.toNat) s,touch:=[id]}→
      ∃y tc v,out={val:=y,touch:=tc}∧(Instr.indexAt t vx (.int ki n)).run P w= .ok v w∧vA ρ (av F (kA ρ h)) w y v:=by
     intro L hL1 hL2 hok hout;obtain⟨g0,g1⟩:=wB hok;have g0:0≤n:=by simpa using g0
     have g1:n<((wE s L:Nat):Int):=by simpa using g1
     rw[pE]at g1;obtain⟨h0,⟨b,m,C,cap,c,h1,h2,h3,h4,h5,ho,hsz,hold⟩|⟨h1,h2,hk⟩⟩:=zF hh hx hlive hflat
     ·have:=hL1 hold;subst this;subst h5;refine⟨_,_,_,hout,mL hty hte hu g0 g1,?_⟩;simp only[vA];refine⟨b,L,C,h1,?_,by rw[hP,hw]⟩;rw[bC];have h6:n.toNat<L/s:=by omega
      have:=kU (w:=s) h6;have h7:=q6 L s;omega
     ·have:=hL2 hk;subst this;simp at g1;omega
    split at hb
    ·rename_i k l hid;simp only[Option.some.injEq,Prod.mk.injEq]at hb;exact fin l.length (fun{m c} hold=>by rw[hid]at hold;exact hold.len) (fun hk=>by rw[hid]at hk;rcases hk with⟨k',hk⟩|hk|⟨_,_,hk⟩<;>cases hk;rfl) hb.1 hb.2.symm
    ·rename_i l hid;simp only[Option.some.injEq,Prod.mk.injEq]at hb;exact fin l.length (fun{m c} hold=>by rw[hid]at hold;exact hold.lenV) (fun hk=>by rw[hid]at hk;rcases hk with⟨k',hk⟩|hk|⟨_,_,hk⟩<;>cases hk;rfl) hb.1 hb.2.symm
    ·rename_i l hid;simp only[Option.some.injEq,Prod.mk.injEq]at hb;exact fin l.length (fun{m c} hold=>by rw[hid]at hold;exact hold.1) (fun hk=>by rw[hid]at hk;rcases hk with⟨k',hk⟩|hk|⟨_,_,hk⟩<;>cases hk;rfl) hb.1 hb.2.symm
    ·cases hb
    ·cases hb
    ·cases hb
   ·rename_i id s off len;obtain⟨hw,hb⟩:=gA hb;have hw:=vB hw;obtain⟨hok,hout⟩:=qE hb;obtain⟨g0,g1⟩:=wB hok;have g0:0≤n:=by simpa using g0
    have g1:n<(len:Int):=by simpa using g1
    simp only[vA]at hx;obtain⟨h0,⟨b,m,C,cap,h1,h2,h3,h4,h5⟩|⟨h2,h3⟩⟩:=hx
    ·subst h5;refine⟨_,[],_,hout,mL hty hte hu g0 g1,?_⟩;simp only[vA];refine⟨b,m,C,h1,?_,by rw[hw]⟩;rw[bC];have h6:n.toNat<len:=by omega
     have:=kU (w:=s) h6;omega
    ·omega
   ·rename_i k s l;obtain⟨hw,hb⟩:=gA hb;have hw:=vB hw;obtain⟨hok,hout⟩:=qE hb;obtain⟨g0,g1⟩:=wB hok;have g0:0≤n:=by simpa using g0
    have g1:n<((wE s l.length:Nat):Int):=by simpa using g1
    rw[pE]at g1;simp only[vA]at hx;obtain⟨h0,hm,⟨h2,h3⟩|⟨b,o,cap,h2,h3,h4,h5,h6⟩⟩:=hx
    ·subst h2;simp at g1;omega
    ·subst h2;refine⟨_,[],_,hout,mL hty hte hu g0 g1,?_⟩;simp only[vA];refine⟨b,o,by rw[hw],?_,h4,h5,h6⟩;rw[bC];have h7:n.toNat<l.length/s:=by omega
     have:=kU (w:=s) h7;have h8:=q6 l.length s;omega
   ·rename_i m cols;obtain⟨hw,hb⟩:=gA hb;have hw:=vB hw;obtain⟨hok,hout⟩:=qE hb;obtain⟨g0,g1⟩:=wB hok;have g0:0≤n:=by simpa using g0
    have g1:n<(m:Int):=by simpa using g1
    simp only[vA]at hx;obtain⟨h0,⟨h2,h3⟩|⟨b,o,cap,h2,h3,h4,h5,h6⟩⟩:=hx
    ·subst h2;simp at g1;omega
    ·subst h2;refine⟨_,[],_,hout,mL hty hte hu g0 g1,?_⟩;simp only[vA];refine⟨b,o+n.toNat*cols.length,by rw[bC,hw,c4],by omega,h4,h5,fun j hj=>h6 n.toNat (by omega) j hj⟩
   ·cases hb
 ·rename_i ki n len e s0 b0 z0 ht;have hvi:=hi.int;subst hvi;have hu:=(hty _ _ ht).tk;simp only[xE]at hu;split at hb
  ·cases hb
  ·rename_i te hte;have go:∀{y:V} {ext:Nat},(bif Nat.ble (len*te.size) ext then kE (decide (0≤n)&&decide (n<(len:Int))) y else none)=some (true,out)→len*te.size≤ext∧0≤n∧n<(len:Int)∧out={val:=y}:=by
    intro y ext hb;obtain⟨hw,hb⟩:=gA hb;obtain⟨hok,hout⟩:=qE hb;obtain⟨g0,g1⟩:=wB hok;exact⟨gG hw,by simpa using g0,by simpa using g1,hout⟩
   split at hb
   ·rename_i id off ext;obtain⟨g,g0,g1,hout⟩:=go hb;simp only[vA]at hx;obtain⟨b,m,C,h1,h2,rfl⟩:=hx;refine⟨_,[],_,hout,gO hty hte hu g0 g1,?_⟩;simp only[vA];refine⟨b,m,C,h1,?_,rfl⟩;rw[bC];have:=kU (w:=te.size) (show n.toNat<len by omega);omega
   ·rename_i k l off ext;obtain⟨g,g0,g1,hout⟩:=go hb;simp only[vA]at hx;obtain⟨b,o,rfl,h2,hr⟩:=hx;refine⟨_,[],_,hout,gO hty hte hu g0 g1,?_⟩;simp only[vA];refine⟨b,o,by rw[c0],?_,hr⟩;rw[bC];have:=kU (w:=te.size) (show n.toNat<len by omega);omega
   ·rename_i l i off ext;obtain⟨g,g0,g1,hout⟩:=go hb;simp only[vA]at hx;obtain⟨b,o,rfl,h2,hr⟩:=hx;refine⟨_,[],_,hout,gO hty hte hu g0 g1,?_⟩;simp only[vA];refine⟨b,o,by rw[c0],?_,hr⟩;rw[bC];have:=kU (w:=te.size) (show n.toNat<len by omega);omega
   ·cases hb
 ·cases hb
end
section
variable {P:Program}{F:Nat→Prop}{ρ:sD}{h:Nat→rA}{w:World}{nid:Nat}{ty:Nat→Option TI}{ev:Operand→V}{ae:Operand→Value}{out:sH}{M:Nat→Prop}
theorem C3 (s:ByteArray)(i:Nat)(hi:i<s.size):s[i]?=some s[i]∧(s[i].toNat:Int)=iG s i:=by
 refine⟨by simp[hi],?_⟩;unfold iG;have:s.data.toList.getD i 0=s[i]:=by
  have h1:i<s.data.toList.length:=by simpa using hi
  rw[iA,zE h1];rfl
 rw[this]
theorem tb (hty:bF P ty){t:Nat}{x i:V}{vx vi:Value}{out:sH}(hx:vA ρ M w x vx)(hi:vA ρ M w i vi)(hb:ic ty t x i=some (true,out)):
  ∃y v,out={val:=y}∧(Instr.index t vx vi).run P w= .ok v w∧vA ρ M w y v:=by
 unfold ic at hb;split at hb
 ·rename_i ki n s0 b0 z0 s ht;have:=hi.int;subst this;have:=hx.c;subst this;have hu:=(hty _ _ ht).tk;simp only[xE]at hu;obtain⟨hok,hout⟩:=qE hb;obtain⟨g0,g1⟩:=wB hok;have g0:0≤n:=by simpa using g0
  have g1:n<(s.size:Int):=by simpa using g1
  obtain⟨h1,h2⟩:=C3 s n.toNat (by omega);refine⟨_,_,hout,?_,vA.of_c _⟩;simp only[Instr.index,asIntOf,zA,hB,hA,run_underlying hu,if_pos g0,h1,h2]
 ·rename_i ki n len e s0 b0 z0 cs ht;have:=hi.int;subst this;have hu:=(hty _ _ ht).tk;simp only[xE]at hu;simp only[vA]at hx;obtain⟨xs,rfl,hx⟩:=hx;split at hb
  ·cases hb
  ·rename_i te hte;split at hb
   ·cases hb
   ·rename_i r hr;obtain⟨h0,hb⟩:=gA hb;obtain⟨hok,hout⟩:=qE hb;obtain⟨g0,g1⟩:=wB hok;have g0:0≤n:=by simpa using g0
    have g1:n<(len:Int):=by simpa using g1
    obtain⟨v,c1,c2⟩:=vW (hty _ _ hte) (dD h0) hx hr;refine⟨_,v,hout,?_,c2⟩;simp only[Instr.index,asIntOf,zA,hB,hA,run_underlying hu,if_pos (And.intro g0 g1),(hty _ _ hte).sizeOf,c1]
 ·cases hb
theorem pD {k:IntKind}{i:Int}{y:Nat}(code:BoundsCode)(h0:0≤i)(h1:i≤(y:Int)):(Instr.sliceBound (.int k i) y code).run P w= .ok i.toNat w:=by
 simp only[Instr.sliceBound,asIntOf,zA,hB,hA,if_pos (And.intro h0 h1)]
def fJ (ρ:sD)(M:Nat→Prop)(w:World):Option V→Option Value→Prop
 |none,none=>True
 |some x,some v=>vA ρ M w x v
 |_,_=>False
theorem fJ.of {x:Option Operand}(he:∀x,vA ρ M w (ev x) (ae x)):fJ ρ M w (x.map ev) (x.map ae):=by
 cases x with
 |none=>trivial
 |some x=>exact he x
theorem yT {x:Option V}{v:Option Value}{d i:Int}(hx:tG x d=some i)(hr:fJ ρ M w x v):(x=none∧v=none∧i=d)∨∃k,x.isSome=true∧v=some (.int k i):=by
 unfold tG at hx;split at hx
 ·simp only[Option.some.injEq]at hx;cases v with
  |none=>exact .inl ⟨rfl,rfl,hx.symm⟩
  |some v=>exact hr.elim
 ·simp only[Option.some.injEq]at hx;subst hx;cases v with
  |none=>exact hr.elim
  |some v=>have hr':vA ρ M w _ v:=hr;have:=vA.int hr';subst this;exact .inr ⟨_,rfl,rfl⟩
 ·cases hx
theorem qD {lo hi mx:Option V}{vlo vhi vmx:Option Value}{n cap:Nat}{l h' m:Int}(isS:Bool)(hlo:tG lo 0=some l)(hhi:tG hi n=some h')(hmx:tG mx n=some m)
  (rlo:fJ ρ M w lo vlo)(rhi:fJ ρ M w hi vhi)(rmx:fJ ρ M w mx vmx)
  (hform:(hi.isNone&&mx.isSome)=false)(h0:0≤l)(h1:l≤h')(h2:h'≤m)(h3:m≤(n:Int))(hlc:n≤cap):
  ∃m':Nat,(Instr.sliceBounds isS n cap vlo vhi vmx).run P w= .ok (l.toNat,h'.toNat,m') w∧h'.toNat≤m'∧m'≤cap:=by
 rcases yT hlo rlo with⟨_,rfl,e1⟩|⟨k1,_,rfl⟩<;>rcases yT hhi rhi with⟨e5,rfl,e2⟩|⟨k2,_,rfl⟩<;>rcases yT hmx rmx with⟨_,rfl,e3⟩|⟨k3,e4,rfl⟩
 case inl.inl.inr=>subst e5;simp[e4]at hform
 case inr.inl.inr=>subst e5;simp[e4]at hform
 ·exact⟨cap,by simp[Instr.sliceBounds,e1,e2],by omega,iB _⟩
 ·exact⟨cap,by simp[Instr.sliceBounds,e1,pD _ (show 0≤h' by omega) (show h'≤(cap:Int) by omega)],by omega,iB _⟩
 ·exact⟨m.toNat,by simp[Instr.sliceBounds,e1,pD _ (show 0≤m by omega) (show m≤(cap:Int) by omega),pD _ (show 0≤h' by omega) (show h'≤(m.toNat:Int) by omega)],by omega,by omega⟩
 ·exact⟨cap,by simp[Instr.sliceBounds,e2,pD _ h0 (show l≤(n:Int) by omega)],by omega,iB _⟩
 ·exact⟨cap,by simp[Instr.sliceBounds,pD _ (show 0≤h' by omega) (show h'≤(cap:Int) by omega),pD _ h0 (show l≤(h'.toNat:Int) by omega)],by omega,iB _⟩
 ·exact⟨m.toNat,by simp[Instr.sliceBounds,pD _ (show 0≤m by omega) (show m≤(cap:Int) by omega),pD _ (show 0≤h' by omega) (show h'≤(m.toNat:Int) by omega),pD _ h0 (show l≤(h'.toNat:Int) by omega)],by omega,by omega⟩
theorem eU {a b c d:Bool}(h:(a&&b&&c&&d)=true):a=true∧b=true∧c=true∧d=true:=by
 simp only[hR]at h;exact⟨h.1.1.1,h.1.1.2,h.1.2,h.2⟩
theorem mD {n w:Nat}(hw:0<w):n*w/w=n:=Nat.mul_div_cancel n hw
theorem B4 (hty:bF P ty)(hh:mA F ρ h w){t:Nat}{x:V}{vx:Value}{lo hi mx:Option V}{vlo vhi vmx:Option Value}{out:sH}(hx:vA ρ (av F (kA ρ h)) w x vx)
  (rlo:fJ ρ (av F (kA ρ h)) w lo vlo)(rhi:fJ ρ (av F (kA ρ h)) w hi vhi)(rmx:fJ ρ (av F (kA ρ h)) w mx vmx)(hb:wU ty t x lo hi mx h=some (true,out)):
  ∃y tc v,out={val:=y,touch:=tc}∧(Instr.sliceAt t vx vlo vhi vmx).run P w= .ok v w∧vA ρ (av F (kA ρ h)) w y v:=by
 unfold wU at hb;split at hb
 ·cases hb
 rename_i ti ht;have hu:=(hty _ _ ht).tk;cases hform:(hi.isNone&&mx.isSome)with
 |true=>simp[hform]at hb
 |false=>
 simp only[hform,cond_false]at hb;split at hb
 ·
  split at hb
  ·rename_i n e id off ext htk hnl;rw[htk]at hu;simp only[xE]at hu;split at hb
   ·rename_i te l h' m hte hlo hhi hmx;obtain⟨hg,hb⟩:=gA hb;obtain⟨hg1,hg2⟩:=wB hg;obtain⟨hok,hout⟩:=qE hb;obtain⟨o1,o2,o3,o4⟩:=eU hok;simp only[decide_eq_true_eq]at o1 o2 o3 o4;have hle:=gG hg1;have hpos:=dD hg2;simp only[vA]at hx;obtain⟨b,nn,C,hp,hn,rfl⟩:=hx;obtain⟨m',r1,r2,r3⟩:=qD (P:=P) (cap:=n) false hlo hhi hmx rlo rhi rmx hform o1 o2 o3 o4 (iB _);refine⟨_,[],.slice (some (if m'=l.toNat then⟨b,off,none⟩else⟨b,off+l.toNat*te.size,none⟩)) (h'.toNat-l.toNat) (m'-l.toNat),hout,?_,?_⟩
    ·simp only[Instr.sliceAt,zA,run_underlying hu,hA,Instr.sureAddr,hB,r1,(hty _ _ hte).sizeOf,uG]
    ·simp only[vA];refine⟨hpos,?_⟩;by_cases hml:m'=l.toNat
     ·right;refine⟨by omega,?_⟩;simp only[hml,if_true,y1];exact⟨some ⟨b,off,none⟩,by congr 1;omega⟩
     ·left;refine⟨b,nn,C,m'-l.toNat,hp,?_,by omega,?_,by simp only[if_neg hml,bC]⟩
      ·rw[bC];have h1:(h'.toNat-l.toNat)*te.size+l.toNat*te.size=h'.toNat*te.size:=by rw[←y0];congr 1;omega
       have h2:h'.toNat*te.size≤n*te.size:=aE _ (by omega);omega
      ·rw[bC];have h1:(m'-l.toNat)*te.size+l.toNat*te.size=m'*te.size:=by rw[←y0];congr 1;omega
       have h2:m'*te.size≤n*te.size:=aE _ r3;have h3:=hh.wf _ _ hp;dsimp only at h3;omega
   ·cases hb
  ·cases hb
 ·rename_i len tc hlen;split at hb
  ·rename_i l h' m hlo hhi hmx;have kind:∀{ok:Bool},ok=(decide (0≤l)&&decide (l≤h')&&decide (h'≤m)&&decide (m≤(len:Int)))→ok=true→0≤l∧l≤h'∧h'≤m∧m≤(len:Int):=by
    intro ok e hok;rw[e]at hok;obtain⟨o1,o2,o3,o4⟩:=eU hok;simp only[decide_eq_true_eq]at o1 o2 o3 o4;exact⟨o1,o2,o3,o4⟩
   split at hb
   ·
    rename_i s htk;rw[htk]at hu;simp only[xE]at hu;have:=hx.c;subst this;simp only[uO,Option.some.injEq,Prod.mk.injEq]at hlen;obtain⟨rfl,_⟩:=hlen;split at hb
    ·obtain⟨hok,hout⟩:=qE hb;obtain⟨o1,o2,o3,o4⟩:=kind rfl hok;obtain⟨m',r1,r2,r3⟩:=qD (P:=P) (cap:=s.size) false hlo hhi hmx rlo rhi rmx hform o1 o2 o3 o4 (iB _);cases vmx with
     |some v=>exact rmx.elim
     |none=>refine⟨_,[],_,hout,?_,vA.of_c _⟩;simp only[Instr.sliceAt,Instr.slice,zA,run_underlying hu,hA];simp[r1]
    ·cases hb
   ·
    rename_i e id s htk;rw[htk]at hu;simp only[xE]at hu;split at hb
    ·rename_i te hte;obtain⟨hw,hb⟩:=gA hb;have hw:=vB hw;simp only[Option.some.injEq,Prod.mk.injEq]at hb;obtain⟨hok,hout⟩:=hb;obtain⟨o1,o2,o3,o4⟩:=kind rfl hok;obtain⟨a,c,hv,hlc⟩:=gZ hh hx hlen (by intro s h;cases h);have hx':=hx;simp only[vA]at hx;obtain⟨h0,⟨b,n,C,cap,h1,h2,h3,h4,h5⟩|⟨h1,h2⟩⟩:=hx
     ·rw[h5]at hv;simp only[Value.slice.injEq]at hv;obtain⟨_,e1,e2⟩:=hv;subst e1;obtain⟨m',r1,r2,r3⟩:=qD (P:=P) (cap:=cap) true hlo hhi hmx rlo rhi rmx hform o1 o2 o3 o4 h3;subst h5;refine⟨_,tc,.slice (if m'=l.toNat then some ⟨b,0,none⟩else some ⟨b,0+l.toNat*te.size,none⟩) (h'.toNat-l.toNat) (m'-l.toNat),hout.symm,?_,?_⟩
      ·simp only[Instr.sliceAt,Instr.slice,zA,run_underlying hu,hA,hB,r1,(hty _ _ hte).sizeOf,hY,uG]
      ·simp only[vA];refine⟨h0,?_⟩;by_cases hml:m'=l.toNat
       ·right;exact⟨by omega,some ⟨b,0,none⟩,by simp only[hml,if_true,y1];congr 1;omega⟩
       ·left;have hn:n/s*s=n:=q0 (sS h2);refine⟨b,n,C,m'-l.toNat,h1,?_,by omega,?_,by simp only[if_neg hml,bC,hw,hP]⟩
        ·rw[bC];have h6:(h'.toNat-l.toNat)*s+l.toNat*s=h'.toNat*s:=by rw[←y0];congr 1;omega
         have h7:h'.toNat*s≤n/s*s:=aE _ (by omega);omega
        ·rw[bC];have h6:(m'-l.toNat)*s+l.toNat*s=m'*s:=by rw[←y0];congr 1;omega
         have h7:m'*s≤cap*s:=aE _ r3;omega
     ·subst h2;simp only[Value.slice.injEq]at hv;obtain⟨_,e1,e2⟩:=hv;subst e1;obtain⟨m',r1,r2,r3⟩:=qD (P:=P) (cap:=0) true hlo hhi hmx rlo rhi rmx hform o1 o2 o3 o4 (iB _);refine⟨_,tc,.slice none 0 0,hout.symm,?_,?_⟩
      ·have em:m'=0:=by omega
       have el:l.toNat=0:=by omega
       have eh:h'.toNat=0:=by omega
       simp only[Instr.sliceAt,Instr.slice,zA,run_underlying hu,hA,hB,r1,(hty _ _ hte).sizeOf,w4,em,el,eh];simp
      ·simp only[vA];exact⟨h0,.inr ⟨by omega,none,rfl⟩⟩
    ·cases hb
   ·
    rename_i e id s off len' htk;rw[htk]at hu;simp only[xE]at hu;split at hb
    ·rename_i te hte;obtain⟨hw,hb⟩:=gA hb;have hw:=vB hw;obtain⟨hok,hout⟩:=qE hb;obtain⟨o1,o2,o3,o4⟩:=kind rfl hok;simp only[uO,Option.some.injEq,Prod.mk.injEq]at hlen;obtain⟨rfl,_⟩:=hlen;simp only[vA]at hx;obtain⟨h0,⟨b,n,C,cap,h1,h2,h3,h4,h5⟩|⟨h1,a,h2⟩⟩:=hx
     ·obtain⟨m',r1,r2,r3⟩:=qD (P:=P) (cap:=cap) true hlo hhi hmx rlo rhi rmx hform o1 o2 o3 o4 h3;subst h5;refine⟨_,[],.slice (if m'=l.toNat then some ⟨b,off,none⟩else some ⟨b,off+l.toNat*te.size,none⟩) (h'.toNat-l.toNat) (m'-l.toNat),hout,?_,?_⟩
      ·simp only[Instr.sliceAt,Instr.slice,zA,run_underlying hu,hA,hB,r1,(hty _ _ hte).sizeOf,hY,uG]
      ·simp only[vA];refine⟨h0,?_⟩;by_cases hml:m'=l.toNat
       ·right;exact⟨by omega,some ⟨b,off,none⟩,by simp only[hml,if_true,y1];congr 1;omega⟩
       ·left;refine⟨b,n,C,m'-l.toNat,h1,?_,by omega,?_,by simp only[if_neg hml,bC,hw]⟩
        ·rw[bC];have h6:(h'.toNat-l.toNat)*s+l.toNat*s=h'.toNat*s:=by rw[←y0];congr 1;omega
         have h7:h'.toNat*s≤len'*s:=aE _ (by omega);omega
        ·rw[bC];have h6:(m'-l.toNat)*s+l.toNat*s=m'*s:=by rw[←y0];congr 1;omega
         have h7:m'*s≤cap*s:=aE _ r3;omega
     ·subst h1;subst h2;obtain⟨m',r1,r2,r3⟩:=qD (P:=P) (cap:=0) true hlo hhi hmx rlo rhi rmx hform o1 o2 o3 o4 (iB _);have em:m'=0:=by omega
      have el:l.toNat=0:=by omega
      have eh:h'.toNat=0:=by omega
      refine⟨_,[],.slice a 0 0,hout,?_,?_⟩
      ·simp only[Instr.sliceAt,Instr.slice,zA,run_underlying hu,hA,hB,r1,(hty _ _ hte).sizeOf,em,el,eh,if_true,y1]
      ·simp only[vA];exact⟨h0,.inr ⟨by omega,a,rfl⟩⟩
    ·cases hb
   ·
    rename_i e k s l0 htk;rw[htk]at hu;simp only[xE]at hu;split at hb
    ·rename_i te hte;obtain⟨hw,hb⟩:=gA hb;have hw:=vB hw;obtain⟨hok,hout⟩:=qE hb;obtain⟨o1,o2,o3,o4⟩:=kind rfl hok;simp only[uO,pE,Option.some.injEq,Prod.mk.injEq]at hlen;obtain⟨rfl,_⟩:=hlen;simp only[vA]at hx;obtain⟨h0,hmod,⟨h1,a,h2⟩|⟨b,o,cap,h2,h3,h4,h5,h6⟩⟩:=hx
     ·subst h1;subst h2;simp only[y2,Nat.zero_div]at*;obtain⟨m',r1,r2,r3⟩:=qD (P:=P) (cap:=0) true hlo hhi hmx rlo rhi rmx hform o1 o2 o3 o4 (iB _);have em:m'=0:=by omega
      have el:l.toNat=0:=by omega
      have eh:h'.toNat=0:=by omega
      refine⟨_,[],.slice a 0 0,hout,?_,?_⟩
      ·simp only[Instr.sliceAt,Instr.slice,zA,run_underlying hu,hA,hB,r1,(hty _ _ hte).sizeOf,em,el,eh,if_true,y1]
      ·simp only[vA];exact⟨h0,by simp,.inl ⟨by simp,a,rfl⟩⟩
     ·obtain⟨m',r1,r2,r3⟩:=qD (P:=P) (cap:=cap) true hlo hhi hmx rlo rhi rmx hform o1 o2 o3 o4 h3;subst h2;have hn:l0.length/s*s=l0.length:=q0 (sS hmod);have hl1:(h'.toNat-l.toNat)*s+l.toNat*s=h'.toNat*s:=by rw[←y0];congr 1;omega
      have hl2:h'.toNat*s≤l0.length/s*s:=aE _ (by omega);have hlen':((l0.drop (rG s l.toNat)).take (rG s (h'.toNat-l.toNat))).length=(h'.toNat-l.toNat)*s:=by simp only[bC,p4,u5];omega
      refine⟨_,[],.slice (if m'=l.toNat then some ⟨b,o,none⟩else some ⟨b,o+l.toNat*te.size,none⟩) (h'.toNat-l.toNat) (m'-l.toNat),hout,?_,?_⟩
      ·simp only[Instr.sliceAt,Instr.slice,zA,run_underlying hu,hA,hB,r1,(hty _ _ hte).sizeOf,hY,uG]
      ·simp only[vA];refine⟨h0,by rw[hlen'];exact x2 _ _,?_⟩;by_cases hml:m'=l.toNat
       ·left;have e0:h'.toNat-l.toNat=0:=by omega
        refine⟨hQ.mp (by rw[hlen',e0];simp),some ⟨b,o,none⟩,by simp only[hml,if_true,y1];congr 1⟩
       ·right;refine⟨b,o+l.toNat*s,m'-l.toNat,by rw[hlen',mD h0,if_neg hml,hw],by rw[hlen',mD h0];omega,h4,h5,fun j hj=>?_⟩;rw[hlen']at hj;rw[c0,h6 (l.toNat*s+j) (by omega)];simp only[bC,iA,p0,if_pos hj,l1]
    ·cases hb
   ·
    rename_i e htk;rw[htk]at hu;simp only[xE]at hu;split at hb
    ·rename_i te hte;obtain⟨hok,hout⟩:=qE hb;obtain⟨o1,o2,o3,o4⟩:=kind rfl hok;simp only[uO,Option.some.injEq,Prod.mk.injEq]at hlen;obtain⟨rfl,_⟩:=hlen;have:=hx.c;subst this;obtain⟨m',r1,r2,r3⟩:=qD (P:=P) (cap:=0) true hlo hhi hmx rlo rhi rmx hform o1 o2 o3 o4 (iB _);have em:m'=0:=by omega
     have el:l.toNat=0:=by omega
     have eh:h'.toNat=0:=by omega
     refine⟨_,[],.slice none 0 0,hout,?_,vA.of_c _⟩;simp only[Instr.sliceAt,Instr.slice,zA,run_underlying hu,hA,hB,r1,(hty _ _ hte).sizeOf,em,el,eh,if_true,y1]
    ·cases hb
   ·cases hb
  ·cases hb
end
section
variable {P:Program}{F:Nat→Prop}{ρ:sD}{h:Nat→rA}{w:World}{nid:Nat}{ty:Nat→Option TI}{ev:Operand→V}{ae:Operand→Value}{out:sH}{M:Nat→Prop}
theorem ot (hh:mA F ρ h w){x:V}{vx:Value}{k:IntKind}{s:Nat}{l:List Int}{tc:List Nat}(hx:vA ρ (av F (kA ρ h)) w x vx)(hr:s7 h x=some (k,s,l,tc)):
  0<s∧∃a len cap,vx= .slice a len cap∧l.length=len*s∧len≤cap∧(l=[]∨∃b o,a=some ⟨b,o,none⟩∧∀j,j<l.length→w.cell? ⟨b,o+j,none⟩=some (.int k (l.getD j 0))):=by
 unfold s7 at hr;split at hr
 ·rename_i id s';split at hr
  ·rename_i k' l' hid;simp only[Option.some.injEq,Prod.mk.injEq]at hr;obtain⟨rfl,rfl,rfl,_⟩:=hr;obtain⟨h0,⟨b,n,C,cap,c,h1,h2,h3,h4,h5,ho,hsz,hold⟩|⟨h1,h2,hk⟩⟩:=zF hh hx (by rw[hid];trivial) (by rw[hid];trivial)
   ·rw[hid]at hold;obtain⟨e1,e2,e3⟩:=hold;have hn:n/s'*s'=n:=q0 (sS h2);exact⟨h0,_,_,_,h5,by omega,h3,.inr ⟨b,0,rfl,fun j hj=>by rw[hP,ho.cell];exact e3 j hj⟩⟩
   ·rw[hid]at hk;rcases hk with⟨k2,hk⟩|hk|⟨_,_,hk⟩<;>cases hk;exact⟨h0,_,_,_,h2,by simp,iB _,.inl rfl⟩
  ·cases hr
 ·rename_i id s' off len;split at hr
  ·rename_i k' l' hid;simp only[Option.some.injEq,Prod.mk.injEq]at hr;obtain⟨rfl,rfl,rfl,_⟩:=hr;simp only[vA]at hx;obtain⟨h0,⟨b,n,C,cap,h1,h2,h3,h4,h5⟩|⟨h1,a,h2⟩⟩:=hx
   ·obtain⟨c,ho,hsz,hold⟩:=hh.own (by rw[hid];trivial) (by rw[hid];trivial) h1;rw[hid]at hold;obtain⟨e1,e2,e3⟩:=hold;have hl:((l'.drop off).take (rG s' len)).length=len*s':=by simp only[bC,p4,u5];omega
    refine⟨h0,_,_,_,h5,hl,h3,.inr ⟨b,off,rfl,fun j hj=>?_⟩⟩;rw[hl]at hj;rw[ho.cell,e3 (off+j) (by omega)];simp only[bC,iA,p0,if_pos hj,l1]
   ·subst h1;refine⟨h0,a,0,0,h2,by simp[bC],iB _,.inl (by simp[bC])⟩
  ·cases hr
 ·rename_i k' s' l';simp only[Option.some.injEq,Prod.mk.injEq]at hr;obtain⟨rfl,rfl,rfl,_⟩:=hr;simp only[vA]at hx;obtain⟨h0,h1,⟨h2,a,h3⟩|⟨b,o,cap,h2,h3,_,_,h4⟩⟩:=hx
  ·exact⟨h0,a,0,0,h3,by rw[h2];simp,iB _,.inl h2⟩
  ·exact⟨h0,_,_,_,h2,(q0 (sS h1)).symm,h3,.inr ⟨b,o,rfl,h4⟩⟩
 ·cases hr
theorem G8 (hh:mA F ρ h w){x:V}{vx:Value}{s:Nat}{l:List V}{tc:List Nat}(hx:vA ρ (av F (kA ρ h)) w x vx)(hr:ou h x=some (s,l,tc)):
  0<s∧∃a len cap cs,vx= .slice a len cap∧l.length=len*s∧len≤cap∧lA ρ (av F (kA ρ h)) w l cs∧(l=[]∨∃b o,a=some ⟨b,o,none⟩∧∀j,j<l.length→w.cell? ⟨b,o+j,none⟩=cs[j]?):=by
 unfold ou at hr;split at hr
 ·rename_i id s';split at hr
  ·rename_i l' hid;simp only[Option.some.injEq,Prod.mk.injEq]at hr;obtain⟨rfl,rfl,_⟩:=hr;obtain⟨h0,⟨b,n,C,cap,c,h1,h2,h3,h4,h5,ho,hsz,hold⟩|⟨h1,h2,hk⟩⟩:=zF hh hx (by rw[hid];trivial) (by rw[hid];trivial)
   ·rw[hid]at hold;obtain⟨e1,e2,e3⟩:=hold;have hn:n/s'*s'=n:=q0 (sS h2);exact⟨h0,_,_,_,_,h5,by omega,h3,e3,.inr ⟨b,0,rfl,fun j hj=>by rw[hP,ho.cell];simp[p0,show j<n by omega]⟩⟩
   ·rw[hid]at hk;rcases hk with⟨k2,hk⟩|hk|⟨_,_,hk⟩<;>cases hk;exact⟨h0,_,_,_,[],h2,by simp,iB _,by simp[lA],.inl rfl⟩
  ·cases hr
 ·cases hr
theorem tK {a:Option Addr}{len cap s n:Nat}{vs:List Value}(hl:vs.length=n*s)(hc:vs=[]∨∃b o,a=some ⟨b,o,none⟩∧∀j,j<vs.length→w.cell? ⟨b,o+j,none⟩=vs[j]?)(hn:a=none→vs=[]):
  (Builtin.firstCells s n (.slice a len cap)).run P w= .ok vs.toArray w:=by
 cases a with
 |none=>rw[hn rfl];simp[Builtin.firstCells]
 |some a=>
  rcases hc with hc|⟨b,o,h1,h2⟩
  ·subst hc;simp only[y2]at hl;simp[Builtin.firstCells,loadCells,←hl,loadCellsFrom]
  ·simp only[Option.some.injEq]at h1;subst h1;have:=bI (P:=P) (w:=w) (b:=b) (o:=o) (n*s) 0 #[] vs hl (fun j hj=>by rw[hP];exact h2 j (by omega));simp only[Builtin.firstCells,loadCells,this];simp
theorem vY (k:IntKind)(l:List Int){j:Nat}(hj:j<l.length):(l.map (Value.int k))[j]?=some (.int k (l.getD j 0)):=by
 simp[iA,hj]
theorem tR (hh:mA F ρ h w){x:V}{vx:Value}{k:IntKind}{s:Nat}{l:List Int}{tc:List Nat}(hs:0<s)(hx:vA ρ (av F (kA ρ h)) w x vx)(hr:sJ h k s x=some (l,tc)):
  ∃n,(Builtin.lenOf vx).run P w= .ok n w∧l.length=n*s∧∀n',n'≤n→(Builtin.firstCells s n' vx).run P w= .ok ((l.take (n'*s)).map (Value.int k)).toArray w:=by
 unfold sJ at hr;split at hr
 ·simp only[Option.some.injEq,Prod.mk.injEq]at hr;obtain⟨rfl,_⟩:=hr;have:=hx.c;subst this;exact⟨0,by simp[Builtin.lenOf],by simp,fun n' hn'=>by simp[Builtin.firstCells]⟩
 ·rename_i b;obtain⟨hk,hr⟩:=gA hr;obtain⟨hk1,hk2⟩:=wB hk;have hk1:=dH hk1;have hk2:=vB hk2;simp only[Option.some.injEq,Prod.mk.injEq]at hr;obtain⟨rfl,_⟩:=hr;have:=hx.c;subst this;subst hk1;subst hk2;refine⟨b.size,by simp[Builtin.lenOf],by simp[kG],fun n' hn'=>?_⟩;simp only[Builtin.firstCells,hB,Nat.mul_one];congr 1;apply Array.ext';simp[kG,List.map_take];rfl
 ·split at hr
  ·rename_i k' s' l' t' hrow;obtain⟨hk,hr⟩:=gA hr;obtain⟨hk1,hk2⟩:=wB hk;have hk1:=dH hk1;have hk2:=vB hk2;simp only[Option.some.injEq,Prod.mk.injEq]at hr;obtain⟨rfl,_⟩:=hr;subst hk1;subst hk2;obtain⟨_,a,len,cap,rfl,h2,h3,h4⟩:=ot hh hx hrow;refine⟨len,by simp[Builtin.lenOf],h2,fun n' hn'=>?_⟩;have hle:n'*s'≤len*s':=aE _ hn';refine tK (by simp;omega) ?_ ?_
   ·rcases h4 with h4|⟨b,o,h4,h5⟩
    ·subst h4;left;simp
    ·right;refine⟨b,o,h4,fun j hj=>?_⟩;simp at hj;rw[h5 j (by omega),List.map_take,cD (by omega),vY k l' (by omega)]
   ·intro ha;rcases h4 with h4|⟨b,o,h4,h5⟩
    ·subst h4;simp
    ·rw[ha]at h4;cases h4
  ·cases hr
theorem ax {k:IntKind}:∀{cs:List V} {l:List Int} {vs:List Value},cK k cs=some l→lA ρ M w cs vs→vs=l.map (.int k)
 | [],l,[],h,_=>by simp[cK]at h;subst h;rfl
 | [],_,_::_,_,h=>by simp[lA]at h
 |_::_,_,[],_,h=>by simp[lA]at h
 |x::cs,l,v::vs,h,hr=>by
  simp only[lA]at hr;cases x with
  |c y=>
   cases y with
   |int k' n=>simp only[cK]at h;obtain⟨hk,h1⟩:=gA h;have hkk:=dH hk;subst hkk;simp only[hE]at h1;obtain⟨r,h2,rfl⟩:=h1;have:=hr.1.int;subst this;rw[ax h2 hr.2];rfl
   |_=>simp[cK]at h
  |_=>simp[cK]at h
theorem D9 {ti:TI}{cs:List V}{b:rA}{c:Array Value}(hm:xf ti cs=some b)(hr:lA ρ M w cs c.toList):lD ρ M w cs.length c b:=by
 unfold xf at hm;have hlen:=hr.length;split at hm
 ·rename_i k hk;simp only[hE]at hm;obtain⟨l,h1,rfl⟩:=hm;have h2:=ax h1 hr;have h3:l.length=c.size:=by have:=congrArg List.length h2;simpa using this.symm
  refine⟨by simp at hlen;omega,by simp at hlen;omega,fun i hi=>?_⟩;have:c[i]?=(c.toList)[i]?:=by simp
  rw[this,h2];simp[iA,hi]
 ·simp only[Option.some.injEq]at hm;subst hm;refine⟨rfl,by simp at hlen;omega,?_⟩;rw[x0 (by omega)];exact hr
theorem oi (l:List V):∀n,(aj n l).length=n*l.length
 |0=>by simp[aj]
 |n+1=>by simp[aj,oi l n,u4,w6]
theorem du {zero:Array Value}(hz:0<zero.size):∀n,((Array.range (n*zero.size)).map (zero[· %zero.size]!)).toList=(List.replicate n zero.toList).flatten
 |0=>by simp
 |n+1=>by
  have ih:=du hz n;apply hT;intro j;rw[List.replicate_succ',List.flatten_append];simp only[List.flatten_cons,List.flatten_nil,List.append_nil];by_cases h1:j<n*zero.size
  ·rw[zB (by rw[←ih];simp;exact h1),←ih];simp[h1,show j<(n+1)*zero.size by rw[u4];omega]
  ·rw[hD (by rw[←ih];simp;omega),←ih];simp only[Array.toList_map,x5,x4,Array.size_range];by_cases h2:j<(n+1)*zero.size
   ·have h3:j-n*zero.size<zero.size:=by rw[u4]at h2;omega
    have h4:j%zero.size=j-n*zero.size:=by
     have:j=(j-n*zero.size)+zero.size*n:=by rw[Nat.mul_comm zero.size n];omega
     rw[this,Nat.add_mul_mod_self_left,Nat.mod_eq_of_lt h3];have:zero.size*n=n*zero.size:=Nat.mul_comm _ _;omega
    simp only[hU];have:(Array.range ((n+1)*zero.size)).toList[j]?=some j:=by simp[h2]
    rw[this];simp[h4,h3]
   ·have h3:¬j-n*zero.size<zero.size:=by rw[u4]at h2;omega
    rw[hG (by simp;omega),hG (by simp;omega)]
theorem om {cs:List V}{vs:List Value}(hr:lA ρ M w cs vs):∀n,lA ρ M w (aj n cs) (List.replicate n vs).flatten
 |0=>by simp[aj,lA]
 |n+1=>by rw[List.replicate_succ,List.flatten_cons];exact hr.append (om hr n)
theorem bm {pl:Nat→Option (Nat×Nat)}:∀(ps:List (Nat×V)) (cs r:List V),gK pl cs ps=some r→r.length=cs.length
 | [],cs,r,h=>by simp[gK]at h;subst h;rfl
 |(i,v)::ps,cs,r,h=>by
  simp only[gK]at h;split at h
  ·cases h
  ·split at h
   ·rename_i vs hvs;obtain⟨hg,h⟩:=gA h;obtain⟨hg1,hg2⟩:=wB hg;have hpos:=dD hg2;have he:=vB hg1;split at h
    ·rename_i cs' hcs;obtain⟨h3,h4⟩:=uK hcs;have:=h4 (by rintro rfl;simp at he;omega);rw[bm ps cs' r h,h3];simp;omega
    ·cases h
   ·cases h
theorem q9 (hty:bF P ty)(hh:mA F ρ h w)(hn:ρ nid=none)(he:∀x,vA ρ (av F (kA ρ h)) w (ev x) (ae x)){t e len:Nat}{ti te:TI}{ps:Array (Nat×Operand)}{cs:List V}{b:rA}(ht:ty t=some ti)(htk:ti.tk= .slice e)(hte:ty e=some te)
  (hg:(Nat.ble (len*te.size) 16777216&&Nat.blt 0 te.size)=true)(hf:gK (fun i=>some (i*te.size,te.size)) (aj len (tL te)) (ps.toList.map fun p=>(p.1,ev p.2))=some cs)(hm:xf te cs=some b):
  cE F ρ h w nid {val:=.sw nid te.size,new:=[b]} ((do pure (.value (←Instr.buildSlice t len (ps.map fun(i,x)=>(i,ae x)))):Sem Next).run P w):=by
 have h0:=hty _ _ hte;have hu:=(hty _ _ ht).tk;rw[htk]at hu;simp only[xE]at hu;obtain⟨hg1,hg2⟩:=wB hg;have hle:=gG hg1;have hs:=dD hg2;obtain⟨z,z1,z2⟩:=h0.zeroValue (w:=w);have hzl:z.cells.size=te.size:=by have:=congrArg List.length z2;simp at this;rw[this,h0.zlen]
 generalize hzc:(if len*te.size=0 then #[]else z.cells)=zc;have hz:lA ρ (av F (kA ρ h)) w (aj len (tL te)) ((Array.range (len*te.size)).map (zc[· %zc.size]!)).toList:=by
  by_cases h0:len*te.size=0
  ·have hl0:len=0:=by
    rcases Nat.mul_eq_zero.mp h0 with h|h
    ·exact h
    ·omega
   subst hl0;simp[aj,lA]
  ·rw[if_neg h0]at hzc;subst hzc;rw[←hzl,du (by omega),z2];exact om (lA.map_c _) len
 obtain⟨ys,c1,c2⟩:=iS (pl':=fun i=>some (i*te.size,te.size)) (fun i p hp=>hp) _ (ps.toList.map fun p=>(p.1,ae p.2)) _ _ _ hf hz (by simp) (gi he ps.toList);have hps:(ps.map fun(i,x)=>(i,ae x)).toList=ps.toList.map fun p=>(p.1,ae p.2):=by simp
 have hold:=D9 hm c2;have hcl:cs.length=len*te.size:=by rw[bm _ _ _ hf,oi];simp[tL,h0.zlen]
 rw[hcl]at hold;refine cE.made (c:=ys) (e:=e) (fr:=(0,0)) (n:=len*te.size) (w':={w with heap:=w.heap.push (.cells ys e)}) hh hn (fun i _=>by dsimp only;omega) hold rfl (v:=.slice (some ⟨w.heap.size,0,none⟩) len len) ?_ ?_
 ·have hbig:¬(len*te.size>2^24):=by omega
  rw[←hps]at c1;by_cases hne:len*te.size=0
  ·rw[if_pos hne]at hzc;subst hzc;simp only[Instr.buildSlice,zA,run_underlying hu,hA,h0.sizeOf,if_neg hbig,if_pos hne,z1,hB,b5];simp only[c1,newRow,zA,run_newObj,hA,hB]
  ·rw[if_neg hne]at hzc;subst hzc;simp only[Instr.buildSlice,zA,run_underlying hu,hA,h0.sizeOf,if_neg hbig,if_neg hne,z1,hB,b5];simp only[c1,newRow,zA,run_newObj,hA,hB]
 ·intro ρ' M' w'' hp;simp only[vA];have hys:=c2.length;simp at hys;exact⟨hs,.inl ⟨_,_,_,len,hp,x2 _ _,by rw[mD hs];exact iB _,by omega,by rw[mD hs]⟩⟩
theorem Gm {n:Int}(h0:0≤n)(h1:n≤9223372036854775807):IntKind.i64.wrap n=n:=by
 have e0:(2:Int)^IntKind.i64.bits=18446744073709551616:=by decide
 have eb:(2:Int)^(IntKind.i64.bits-1)=9223372036854775808:=by decide
 have e:n%2^IntKind.i64.bits=n:=Int.emod_eq_of_lt h0 (by rw[e0];omega);unfold IntKind.wrap;simp only[e];rw[if_neg];simp only[hR,decide_eq_true_eq,not_and];intro _;rw[eb];omega
theorem Ab {ti:TI}{k:IntKind}(hh:wY ti=some k)(hz:ti.zero.all (fun| .int _ z=>z==0|_=>false)=true):∀v∈ti.zero,v= .int k 0:=by
 unfold wY at hh;split at hh
 ·rename_i k0 n0 r hr;obtain⟨h1,h2⟩:=gA hh;simp only[Option.some.injEq]at h2;subst h2;intro v hv;have hv0:=p5.mp hz v hv;rw[hr]at hv;rcases p6.mp hv with rfl|hv
  ·simp at hv0;rw[hv0]
  ·have:=p5.mp h1 v hv;cases v with
   |int k' n'=>simp only at this hv0;have hk:=dH this;simp at hv0;rw[hk,hv0]
   |_=>simp at hv0
 ·cases hh
theorem ik (hty:bF P ty)(hh:mA F ρ h w)(hn:ρ nid=none){t e:Nat}{ti te:TI}{n m:Int}{k:IntKind}(ht:ty t=some ti)(htk:ti.tk= .slice e)(hte:ty e=some te)(hk:wY te=some k)(hz:te.zero.all (fun| .int _ z=>z==0|_=>false)=true)
  (hg:(decide (n=m)&&decide (0≤n)&&decide (n≤9223372036854775807)&&jB n.toNat te.bytes)=true):
  cE F ρ h w nid {val:=.sw nid te.size,new:=[.ints k (List.replicate (rG te.size n.toNat) 0)]} ((do pure (.value (←Instr.makeSlice t (.int .i64 n) (.int .i64 m))):Sem Next).run P w):=by
 have h0:=hty _ _ hte;have hu:=(hty _ _ ht).tk;rw[htk]at hu;simp only[xE]at hu;obtain⟨o1,o2,o3,o4⟩:=eU hg;simp only[decide_eq_true_eq,jB]at o1 o2 o3 o4;subst o1;obtain⟨z,z1,z2⟩:=h0.zeroValue (w:=w);obtain⟨inf,i1,i2,i3⟩:=h0.typeInfo (w:=w);have hzl:z.cells.size=te.size:=by have:=congrArg List.length z2;simp at this;rw[this,h0.zlen]
 have hs:0<te.size:=by
  rw[←h0.zlen];unfold wY at hk;split at hk
  ·rename_i hr;rw[hr];simp
  ·cases hk
 have hw:=Gm o2 o3;have hsmall:¬(decide (n<0)||decide ((te.bytes:Int)*n>2^48))=true:=by
  have h1:¬n<0:=by omega
  have h2:(te.bytes:Int)*n≤70368744177664:=by have:((n.toNat*te.bytes:Nat):Int)≤70368744177664:=Int.ofNat_le.mpr o4;rw[Int.natCast_mul,Int.toNat_of_nonneg o2,Int.mul_comm]at this;exact this
  simp only[Bool.or_eq_true,decide_eq_true_eq,not_or];exact⟨h1,by omega⟩
 have hcells:∀j,j<n.toNat*te.size→(((Array.range (n.toNat*te.size)).map (z.cells[· %z.cells.size]!)))[j]?=some (.int k 0):=by
  intro j hj;have hlt:j%z.cells.size<z.cells.size:=Nat.mod_lt _ (by omega);have hmem:z.cells[j%z.cells.size]∈te.zero:=by rw[←z2];exact s4.mpr (Array.getElem_mem hlt)
  have:=Ab hk hz _ hmem;have e1:(Array.range (n.toNat*te.size))[j]?=some j:=by simp[hj]
  rw[Array.getElem?_map,e1];simp only[hY];rw[getElem!_pos z.cells (j%z.cells.size) hlt,this]
 refine cE.made (c:=(Array.range (n.toNat*te.size)).map (z.cells[· %z.cells.size]!)) (e:=e) (fr:=(0,0)) (n:=n.toNat*te.size) (w':={w with heap:=w.heap.push (.cells ((Array.range (n.toNat*te.size)).map (z.cells[· %z.cells.size]!)) e)}) hh hn (fun i _=>by dsimp only;omega) ?_ rfl (v:=.slice (some ⟨w.heap.size,0,none⟩) n.toNat n.toNat) ?_ ?_
 ·refine⟨by rw[b6,bC],by rw[Array.size_map,Array.size_range];exact iB _,fun i hi=>?_⟩;simp only[bC,b6]at hi;rw[hcells i hi];simp[bC,iA,List.getElem?_replicate,hi]
 ·have hor:¬((decide (n<0)||decide ((te.bytes:Int)*n>2^48))||decide (n<0)||decide (n>n))=true:=by
   simp only[Bool.or_eq_true,decide_eq_true_eq,not_or]at hsmall⊢;omega
  simp only[Instr.makeSlice,zA,run_underlying hu,hA,asInt,asIntOf,hB,i1,i2,hw,if_neg hor,run_askRoom,h0.sizeOf,newRow,run_newObj,b5];by_cases hz0:n.toNat*te.size=0
  ·have he:∀f:Nat→Value,(Array.range (n.toNat*te.size)).map f= #[]:=by intro f;rw[hz0];simp
   rw[if_pos hz0,he,he];rfl
  ·rw[if_neg hz0,z1];rfl
 ·intro ρ' M' w'' hp;simp only[vA];refine⟨hs,.inl ⟨_,_,_,n.toNat,hp,x2 _ _,by rw[mD hs];exact iB _,by simp,by rw[mD hs]⟩⟩
end
section
variable {P:Program}{F:Nat→Prop}{ρ:sD}{h:Nat→rA}{w:World}{nid:Nat}{ty:Nat→Option TI}{ev:Operand→V}{ae:Operand→Value}{out:sH}{M:Nat→Prop}{ts:Array TypeId}{e:Nat}{te:TI}
theorem ca (newLen:Nat):∀(r c:Nat),c≤2*newLen→256≤newLen→Builtin.growBy newLen r c≤2*newLen
 |0,c,h,_=>by simpa[Builtin.growBy]using h
 |r+1,c,h,h2=>by
  simp only[Builtin.growBy];split
  ·exact h
  ·exact ca newLen r _ (by omega) h2
theorem tz {need cap:Nat}(h:cap<need):Builtin.nextslicecap need cap≤2*need:=by
 unfold Builtin.nextslicecap;split
 ·omega
 ·split
  ·omega
  ·exact ca need 4 cap (by omega) (by omega)
theorem E6 {n b:Nat}(h:jB n b=true):n*b≤70368744177664:=by simpa[jB]using h
theorem Cd (need old:Nat)(e:TypeId)(t:Nat):need≤Question.cut (.appendCap need old e) t:=by simp[Question.cut]
theorem lD.grow_ints {n m:Nat}{c c':Array Value}{k:IntKind}{l src:List Int}(hx:lD ρ M w n c (.ints k l))(hl:src.length=m)(hs:n+m≤c'.size)(h1:∀j,j<n→c'[j]?=c[j]?)(h2:∀j,j<m→c'[n+j]?=some (.int k (src.getD j 0))):
  lD ρ M w (n+m) c' (.ints k (l++src)):=by
 obtain⟨a1,a2,a3⟩:=hx;refine⟨by simp;omega,hs,fun i hi=>?_⟩;simp at hi;by_cases h:i<n
 ·rw[h1 i h,a3 i (by omega)];simp[iA,zB (show i<l.length by omega)]
 ·have e:i=n+(i-n):=by omega
  rw[e,h2 (i-n) (by omega)];simp[iA,hD (show l.length≤n+(i-n) by omega),a1]
theorem lD.grow_vals {n m:Nat}{c c':Array Value}{l src:List V}{us:List Value}(hx:lD ρ M w n c (.vals l))(hr:lA ρ M w src us)(hl:us.length=m)(hs:n+m≤c'.size)(h1:∀j,j<n→c'[j]?=c[j]?)(h2:∀j,j<m→c'[n+j]?=us[j]?):
  lD ρ M w (n+m) c' (.vals (l++src)):=by
 obtain⟨a1,a2,a3⟩:=hx;have hlen:=hr.length;refine⟨by simp;omega,hs,?_⟩;have e:c'.toList.take (n+m)=c.toList.take n++us:=by
  apply hT;intro j;by_cases hj:j<n+m
  ·rw[cD hj,yK];by_cases h:j<n
   ·rw[h1 j h,zB (by simp;omega),cD h,yK]
   ·have e:j=n+(j-n):=by omega
    rw[e,h2 (j-n) (by omega),hD (by simp;omega)];congr 1;simp;omega
  ·rw[hG (by simp;omega),hG (by simp;omega)]
 rw[e];exact a3.append hr
theorem xQ {t e t2:Nat}{te:TI}{ts:Array TypeId}(t':TypeId){d2:TypeDesc}(hu:P.underlying t=some (.slice e))(h0:zC P e te)(hts0:ts[0]?=some t)(hts1:ts[1]?=some t2)(hd2:P.underlying t2=some d2)(hd2i:(∃x,d2= .slice x)∨d2= .string)
  {base:Option Addr}{n cap m:Nat}{vx:Value}{us:List Value}(hlen:(Builtin.lenOf vx).run P w= .ok m w)(hcells:(Builtin.firstCells te.size m vx).run P w= .ok us.toArray w)(hle:n+m≤cap):
  (w0 ts t' #[.slice base n cap,vx]).run P w=match base with
   |some a=>((storeCells (a.add (n*te.size)) us).run P w).andThen fun _ w'=>.ok (.slice base (n+m) cap) w'
   |none=>.ok (.slice base (n+m) cap) w:=by
 have hz:((underlying t2).run P w)= .ok d2 w:=run_underlying hd2 w;rcases hd2i with⟨y,rfl⟩|rfl<;>
  (simp only[w0,hts0,hts1,hV,iX,hX,zA,run_underlying hu,run_underlying hd2,hA,h0.sizeOf,hB,hlen,hI,if_false,if_pos hle,hcells,Bool.not_false,if_true]
   cases base<;>simp[hcells])
theorem j9 (zero:Array Value)(n:Nat):(Builtin.zeroCells zero n).size=n*zero.size:=by simp[Builtin.zeroCells]
theorem pO {t e t2:Nat}{te:TI}{ts:Array TypeId}(t':TypeId){d2:TypeDesc}(hu:P.underlying t=some (.slice e))(h0:zC P e te)(hts0:ts[0]?=some t)(hts1:ts[1]?=some t2)(hd2:P.underlying t2=some d2)(hd2i:(∃x,d2= .slice x)∨d2= .string)(hb:0<te.bytes)
  {base:Option Addr}{n cap m:Nat}{vx:Value}{us os:List Value}(hlen:(Builtin.lenOf vx).run P w= .ok m w)(hcells:∀w':World,w'.heap=w.heap→(Builtin.firstCells te.size m vx).run P w'= .ok us.toArray w')
  (hold:∀w':World,w'.heap=w.heap→(Builtin.firstCells te.size n (.slice base n cap)).run P w'= .ok os.toArray w')(hlt:cap<n+m)(hroom:jB (n+m) te.bytes=true):
  ∃newCap w' zs,n+m≤newCap∧zs.size=(newCap- (n+m))*te.size∧(w'.heap=w.heap.push (.cells (os.toArray++us.toArray++zs) e)∧iH w w')∧
   (w0 ts t' #[.slice base n cap,vx]).run P w= .ok (.slice (some ⟨w.heap.size,0,none⟩) (n+m) newCap) w':=by
 have hz:((underlying t2).run P w)= .ok d2 w:=run_underlying hd2 w;obtain⟨inf,i1,i2,i3⟩:=h0.typeInfo (w:=w);have hr:=E6 hroom;have hnle:¬(n+m≤cap):=by omega
 have hb1:inf.bytes=te.bytes:=i2;have hsm:n+m≤70368744177664:=by have:(n+m)*1≤(n+m)*te.bytes:=Nat.mul_le_mul_left _ hb;omega
 have hnc:=tz (show cap<n+m by omega);have hncb:¬(Builtin.nextslicecap (n+m) cap*te.bytes>2^48):=by have h1:Builtin.nextslicecap (n+m) cap*te.bytes≤2*(n+m)*te.bytes:=aE _ hnc;have h2:2*(n+m)*te.bytes=2*((n+m)*te.bytes):=Nat.mul_assoc _ _ _;omega
 let w1:World:={w with drawn:=w.drawn+1}
 let nc:=Question.cut (.appendCap (n+m) cap e) (w.tape w.drawn (.appendCap (n+m) cap e))
 obtain⟨z,z1,z2⟩:=h0.zeroValue (w:=w1);obtain⟨inf1,j1,j2,j3⟩:=h0.typeInfo (w:=w1);have hzl:z.cells.size=te.size:=by have:=congrArg List.length z2;simp at this;rw[this,h0.zlen]
 have hch:(choose (.appendCap (n+m) cap e)).run P w= .ok nc w1:=by simp[run_choose,Question.forced,nc,w1]
 have hmx:¬(((n+m:Nat):Int)>IntKind.i64.max∧(false=true∨inf.bytes=0)):=by
  rintro⟨h1,h2|h2⟩
  ·cases h2
  ·omega
 refine⟨nc,{w1 with heap:=w1.heap.push (.cells (os.toArray++us.toArray++Builtin.zeroCells z.cells (nc- (n+m))) e)},Builtin.zeroCells z.cells (nc- (n+m)),Cd _ _ _ _,by rw[j9,hzl],⟨rfl,⟨rfl,rfl,rfl,a7 _⟩⟩,?_⟩;have ho:=hold w1 rfl;have hc:=hcells w1 rfl;have hncb':¬(Builtin.nextslicecap (n+m) cap*inf.bytes>2^48):=by rw[hb1];exact hncb
 have hmx':¬(((n+m:Nat):Int)>IntKind.i64.max∧inf.bytes=0):=by rintro⟨_,h2⟩;omega
 rcases hd2i with⟨y,rfl⟩|rfl<;>
  (simp only[w0,hts0,hts1,hV,iX,hX,zA,run_underlying hu,run_underlying hd2,hA,h0.sizeOf,hB,hlen,hI,if_false,if_neg hnle,hcells,Bool.not_false,if_true,i1,b5,if_neg hncb',hch,run_askRoom,ho,hc,z1,j1,newRow,run_newObj,false_or]
   rw[if_neg hmx'])
theorem uH.heq {M:Nat→Prop}{w':World}(he:w'.heap=w.heap)(hk:iH w w'):uH M w M w':=⟨by rw[he];exact iB _,fun b _ _=>by rw[he],fun b h=>.inl h,hk⟩
theorem mA.heq {w':World}(he:w'.heap=w.heap)(hh:mA F ρ h w):mA F ρ h w':=
 ⟨hh.wf,fun id hl=>by obtain⟨p,h1,h2⟩:=hh.rel id hl;exact⟨p,h1,qB.world he h2⟩,hh.inj,fun b hb=>by rw[he];exact hh.low b hb,hh.out⟩
theorem pe (hh:mA F ρ h w){x:V}{vx:Value}{k:IntKind}{s:Nat}{l:List Int}{tc:List Nat}(hs:0<s)(hx:vA ρ (av F (kA ρ h)) w x vx)(hr:sJ h k s x=some (l,tc)):
  ∃n,(Builtin.lenOf vx).run P w= .ok n w∧l.length=n*s∧∀w':World,w'.heap=w.heap→(Builtin.firstCells s n vx).run P w'= .ok (l.map (Value.int k)).toArray w':=by
 obtain⟨n,h1,h2,_⟩:=tR (P:=P) hh hs hx hr;refine⟨n,h1,h2,fun w' he=>?_⟩;obtain⟨n2,h3,h4,h5⟩:=tR (P:=P) (hh.heq he) hs (vA.world he _ _ hx) hr;have:n2=n:=Nat.eq_of_mul_eq_mul_right hs (by omega);subst this;have:=h5 n2 (iB _);rwa[x0 (by omega)]at this
theorem tP (hh:mA F ρ h w){x:V}{vx:Value}{s:Nat}{l:List V}{tc:List Nat}(hs:0<s)(hx:vA ρ (av F (kA ρ h)) w x vx)(hr:tJ h s x=some (l,tc)):
  ∃n cs,(Builtin.lenOf vx).run P w= .ok n w∧l.length=n*s∧lA ρ (av F (kA ρ h)) w l cs∧(∀v∈cs,v.oneCell'=true)∧∀w':World,w'.heap=w.heap→(Builtin.firstCells s n vx).run P w'= .ok cs.toArray w':=by
 unfold tJ at hr;split at hr
 ·simp only[Option.some.injEq,Prod.mk.injEq]at hr;obtain⟨rfl,_⟩:=hr;have:=hx.c;subst this;exact⟨0,[],by simp[Builtin.lenOf],by simp,by simp[lA],by simp,fun w' _=>by simp[Builtin.firstCells]⟩
 ·split at hr
  ·rename_i s' l' t' hrow;obtain⟨hk,hr⟩:=gA hr;obtain⟨hk1,hk2⟩:=wB hk;have hk1:=vB hk1;simp only[Option.some.injEq,Prod.mk.injEq]at hr;obtain⟨rfl,_⟩:=hr;subst hk1;obtain⟨_,a,len,cap,cs,rfl,h2,h3,h4,h5⟩:=G8 hh hx hrow;have hlen:=h4.length;refine⟨len,cs,by simp[Builtin.lenOf],h2,h4,lA.oneCell h4 hk2,fun w' he=>tK (by omega) ?_ ?_⟩
   ·rcases h5 with h5|⟨b,o,h5,h6⟩
    ·left;subst h5;simp at hlen;exact hQ.mp hlen.symm
    ·right;exact⟨b,o,h5,fun j hj=>by rw[cG (w:=w) (w':=w') (by rw[he])];exact h6 j (by omega)⟩
   ·intro ha;rcases h5 with h5|⟨b,o,h5,h6⟩
    ·subst h5;simp at hlen;exact hQ.mp hlen.symm
    ·rw[ha]at h5;cases h5
  ·cases hr
structure Hp (P:Program)(w:World)(s m:Nat)(vx:Value)(us:List Value):Prop where
 len:(Builtin.lenOf vx).run P w= .ok m w
 size:us.length=m*s
 one:∀v∈us,v.oneCell'=true
 cells:∀w':World,w'.heap=w.heap→(Builtin.firstCells s m vx).run P w'= .ok us.toArray w'
structure Bn (P:Program)(ts:Array TypeId)(e:Nat)(te:TI):Prop where
 t:∃t,ts[0]?=some t∧P.underlying t=some (.slice e)
 t2:∃t2 d2,ts[1]?=some t2∧P.underlying t2=some d2∧((∃x,d2= .slice x)∨d2= .string)
 e:zC P e te
 bytes:0<te.bytes
 size:0<te.size
theorem iN (ht:Bn P ts e te)(t':TypeId)(hh:mA F ρ h w)(hn:ρ nid=none){vx:Value}{m:Nat}{us:List Value}(hs:Hp P w te.size m vx us)(hroom:jB m te.bytes=true){x:rA}
  (hx0:us=[]→(∃k,x= .ints k [])∨x= .vals []∨(∃k s,x= .nl k s []))(hx:∀c:Array Value,us.length≤c.size→(∀j,j<us.length→c[j]?=us[j]?)→lD ρ (av F (kA ρ h)) w us.length c x):
  ∃v w' ρ',(w0 ts t' #[.slice none 0 0,vx]).run P w= .ok v w'∧nO ρ ρ'∧(∀id,id≠nid→ρ' id=ρ id)∧mA F ρ' (mB h nid x) w'∧vA ρ' (av F (kA ρ' (mB h nid x))) w' (.sw nid te.size) v∧uH (kA ρ h) w (kA ρ' (mB h nid x)) w':=by
 obtain⟨t,ts0,hu⟩:=ht.t;obtain⟨t2,d2,ts1,hd2,hd2i⟩:=ht.t2;by_cases hm:m=0
 ·subst hm;have husz:=hs.size;simp at husz;have:=xQ (P:=P) (w:=w) t' hu ht.e ts0 ts1 hd2 hd2i (base:=none) (n:=0) (cap:=0) hs.len (hs.cells w rfl) (by omega);obtain⟨h1,h2⟩:=mA.virtual hh hn (hx0 husz);refine⟨_,w,_,this,gF hn,fun id hid=>by simp[vC,hid],h1,?_,h2⟩;simp only[vA];exact⟨ht.size,.inr ⟨by simp[vC],by first|trivial|rfl⟩⟩
 ·obtain⟨nc,w',zs,r1,r2,r3,r4⟩:=pO (P:=P) (w:=w) t' hu ht.e ts0 ts1 hd2 hd2i ht.bytes (base:=none) (n:=0) (cap:=0) (os:=[]) hs.len hs.cells (fun w' _=>by simp[Builtin.firstCells]) (by omega) (by simpa using hroom);have hus:=hs.size;have hsz:(([]:List Value).toArray++us.toArray++zs:Array Value).size=nc*te.size:=by
   simp only[Array.size_append,c5,y2,hus,r2,hP,←y0];congr 1;omega
  have hle:m*te.size≤nc*te.size:=aE _ (by omega);obtain⟨q1,q2⟩:=mA.alloc (fr:=(0,0)) hh hn (fun i _=>by dsimp only;omega) (hx (([]:List Value).toArray++us.toArray++zs) (by rw[hsz];omega) (fun j hj=>by
   have e0:(([]:List Value).toArray++us.toArray++zs:Array Value)=us.toArray++zs:=by simp
   rw[e0,l2 (by simpa using hj)];simp)) r3.2 r3.1
  refine⟨_,w',_,r4,gF hn,fun id hid=>by simp[vC,hid],q1,?_,q2⟩;simp only[vA];refine⟨ht.size,.inl ⟨w.heap.size,us.length,(([]:List Value).toArray++us.toArray++zs:Array Value).size,nc,by simp only[vC,if_true],by rw[hus];exact x2 _ _,by rw[hus,mD ht.size];omega,by rw[hsz];exact iB _,?_⟩⟩;rw[hus,mD ht.size,hP]
theorem tX (ht:Bn P ts e te)(t':TypeId)(hh:mA F ρ h w)(hn:ρ nid=none){vx:Value}{m:Nat}{us:List Value}(hs:Hp P w te.size m vx us){id b n C cap:Nat}{c:Array Value}(hl:(h id).live)(hp:ρ id=some ⟨some b,n,C⟩)
  (hmod:n%te.size=0)(hcap:n/te.size≤cap)(hC:cap*te.size≤C)(ho:kc w b C c)(hcC:c.size=C)(hnC:n≤C)(hroom:jB (n/te.size+m) te.bytes=true){x:rA}
  (hx:∀c':Array Value,n+us.length≤c'.size→(∀j,j<n→c'[j]?=c[j]?)→(∀j,j<us.length→c'[n+j]?=us[j]?)→lD ρ (av F (kA ρ h)) w (n+us.length) c' x):
  ∃v w' ρ',(w0 ts t' #[.slice (some ⟨b,0,none⟩) (n/te.size) cap,vx]).run P w= .ok v w'∧nO ρ ρ'∧(∀id,id≠nid→ρ' id=ρ id)∧mA F ρ' (mB (mB h id .dead) nid x) w'∧vA ρ' (av F (kA ρ' (mB (mB h id .dead) nid x))) w' (.sw nid te.size) v∧uH (kA ρ h) w (kA ρ' (mB (mB h id .dead) nid x)) w':=by
 obtain⟨t,ts0,hu⟩:=ht.t;obtain⟨t2,d2,ts1,hd2,hd2i⟩:=ht.t2;have hns:n/te.size*te.size=n:=q0 (sS hmod);have hus:=hs.size;have hsum:(n/te.size+m)*te.size=n+us.length:=by rw[y0,hns,hus]
 have hdiv:(n+us.length)/te.size=n/te.size+m:=by rw[←hsum,mD ht.size]
 by_cases hle:n/te.size+m≤cap
 ·have h1:=xQ (P:=P) (w:=w) t' hu ht.e ts0 ts1 hd2 hd2i (base:=some ⟨b,0,none⟩) (n:=n/te.size) (cap:=cap) hs.len (hs.cells w rfl) hle;have hroomC:n+us.length≤C:=by
   have:(n/te.size+m)*te.size≤cap*te.size:=aE _ hle;omega
  obtain⟨w',c',r1,r2,r3,r4,r5,r6⟩:=cI (P:=P) (b:=b) us w n 0 C c ho (by omega) hs.one;subst hcC;rw[←r5]at r4 hp;obtain⟨q1,q2⟩:=mA.retake hh hn hl hp r2 r3 r4 (hx c' (by omega) (fun j hj=>by rw[r6 j,if_neg (by omega)]) (fun j hj=>by rw[r6 (n+j),if_pos (by omega)];congr 1;omega));refine⟨.slice (some ⟨b,0,none⟩) (n/te.size+m) cap,w',vC ρ nid ⟨some b,n+us.length,c'.size⟩,?_,gF hn,fun id hid=>by simp[vC,hid],q1,?_,q2⟩
  ·rw[h1];simp only[uG,hP,hns,r1,hA]
  ·simp only[vA];refine⟨ht.size,.inl ⟨b,n+us.length,c'.size,cap,by simp only[vC,if_true],by rw[←hsum];exact x2 _ _,by rw[hdiv];exact hle,by omega,by rw[hdiv]⟩⟩
 ·have hos:∀w':World,w'.heap=w.heap→(Builtin.firstCells te.size (n/te.size) (.slice (some ⟨b,0,none⟩) (n/te.size) cap)).run P w'= .ok (c.toList.take n).toArray w':=by
   intro w' he;refine tK (by simp;omega) (.inr ⟨b,0,rfl,fun j hj=>?_⟩) (fun h=>by cases h);rw[cG (w:=w) (w':=w') (by rw[he]),hP,ho.cell];simp at hj;rw[cD (by omega)];simp
  obtain⟨nc,w',zs,r1,r2,r3,r4⟩:=pO (P:=P) (w:=w) t' hu ht.e ts0 ts1 hd2 hd2i ht.bytes (base:=some ⟨b,0,none⟩) (n:=n/te.size) (cap:=cap) hs.len hs.cells hos (by omega) hroom;have hsz:((c.toList.take n).toArray++us.toArray++zs:Array Value).size=nc*te.size:=by
   have h1:(c.toList.take n).length=n:=by simp;omega
   have h2:(nc- (n/te.size+m))*te.size+(n/te.size+m)*te.size=nc*te.size:=by rw[←y0];congr 1;omega
   simp only[Array.size_append,c5,h1,r2];omega
  have hle2:n+us.length≤nc*te.size:=by rw[←hsum];exact aE _ r1
  obtain⟨k1,k2⟩:=hh.kill id;have hx':=hx ((c.toList.take n).toArray++us.toArray++zs) (by rw[hsz];exact hle2) (fun j hj=>by
    rw[Array.append_assoc,l2 (by simp;omega)];simp[cD hj]) (fun j hj=>by
    have h1:(c.toList.take n).length=n:=by simp;omega
    rw[Array.append_assoc,Array.getElem?_append_right (by simp;omega),l2 (by simp;omega)];simp only[c5,h1,hV];congr 1;omega)
  obtain⟨q1,q2⟩:=mA.alloc (fr:=(0,0)) k1 hn (fun i _=>by dsimp only;omega) (hx'.mono (nO.refl _) k2) r3.2 r3.1;refine⟨_,w',_,r4,gF hn,fun id hid=>by simp[vC,hid],q1,?_,k2.trans q2⟩;simp only[vA];refine⟨ht.size,.inl ⟨w.heap.size,n+us.length,((c.toList.take n).toArray++us.toArray++zs:Array Value).size,nc,by simp only[vC,if_true],by rw[←hsum];exact x2 _ _,by rw[hdiv];exact r1,by rw[hsz];exact iB _,by rw[hdiv]⟩⟩
end
section
variable {P:Program}{F:Nat→Prop}{ρ:sD}{h:Nat→rA}{w:World}{nid:Nat}{ty:Nat→Option TI}{ev:Operand→V}{ae:Operand→Value}{out:sH}{M:Nat→Prop}{ts:Array TypeId}{e:Nat}{te:TI}
theorem s8 {k:IntKind}(l:List Int):∀v∈l.map (Value.int k),v.oneCell'=true:=by
 intro v hv;obtain⟨n,_,rfl⟩:=w3.mp hv;rfl
theorem dy {id:Nat}{x:rA}(he:h id=x):mB h id x=h:=by
 funext j;unfold mB;split
 ·rename_i e;rw[e,he]
 ·rfl
theorem Ff (hty:bF P ty)(hh:mA F ρ h w){t:Nat}(hts0:ts[0]?=some t)(hu:P.underlying t=some (.slice e))(hte:ty e=some te)(t':TypeId){k:IntKind}(hk:wY te=some k){src:List Int}{tc:List Nat}{x:V}{vx vd:Value}{id:Nat}{l:List Int}
  (hs:sJ h k te.size x=some (src,tc))(hx:vA ρ (av F (kA ρ h)) w x vx)(hd:vA ρ (av F (kA ρ h)) w (.sw id te.size) vd)(hid:h id= .ints k l){tc':List Nat}:
  cE F ρ h w nid {val:=.c (.int .i64 ((min (wE te.size src.length) (wE te.size l.length):Nat):Int)),wr:=[(id,.ints k (vF l 0 (src.take (rG te.size (min (wE te.size src.length) (wE te.size l.length))))))],touch:=tc'}
   ((do pure (.value (←l6 ts t' #[vd,vx])):Sem Next).run P w):=by
 have h0:=hty _ _ hte;have hpos:0<te.size:=by
  rw[←h0.zlen];unfold wY at hk;split at hk
  ·rename_i hr;rw[hr];simp
  ·cases hk
 obtain⟨m,m1,m2,m3⟩:=tR (P:=P) hh hpos hx hs;have hcm:wE te.size src.length=m:=by rw[pE,m2,mD hpos]
 obtain⟨_,⟨b,n,C,cap,c,h1,h2,h3,h4,h5,ho,hsz,hold⟩|⟨h1,h2,hk2⟩⟩:=zF hh hd (by rw[hid];trivial) (by rw[hid];trivial)
 ·rw[hid]at hold;obtain⟨a1,a2,a3⟩:=hold;have hns:n/te.size*te.size=n:=q0 (sS h2);have hcn:wE te.size l.length=n/te.size:=by rw[pE,a1]
  rw[hcm,hcn,bC];generalize hq:min m (n/te.size)=q;have hqm:q≤m:=by omega
  have hqn:q*te.size≤n:=by rw[←hns];exact aE _ (by omega)
  have hqs:q*te.size≤src.length:=by rw[m2];exact aE _ hqm
  have hlen:((src.take (q*te.size)).map (Value.int k)).length=q*te.size:=by simp;omega
  obtain⟨w',c',r1,r2,r3,r4,r5,r6⟩:=cI (P:=P) (b:=b) ((src.take (q*te.size)).map (Value.int k)) w 0 0 C c ho (by omega) (s8 _);subst hsz;rw[←r5]at r4 h1;have hold':lD ρ (av F (kA ρ h)) w n c' (.ints k (vF l 0 (src.take (q*te.size)))):=by
   have hsl:(vF l 0 (src.take (q*te.size))).length=n:=by simp[vF];omega
   refine⟨hsl,by omega,fun i hi=>?_⟩;rw[hsl]at hi;rw[r6 i,hlen];simp only[vF,List.take_zero,List.nil_append,hP,Nat.sub_zero];have hlt:(src.take (q*te.size)).length=q*te.size:=by simp;omega
   by_cases hiq:i<q*te.size
   ·rw[if_pos ⟨by omega,by omega⟩];simp only[hU,iA];rw[zB (by omega),zE (by omega)];rfl
   ·rw[if_neg (by omega),a3 i (by omega),hlt];simp only[iA];rw[hD (by omega),hlt,l1];congr 4;omega
  obtain⟨q1,q2⟩:=mA.write hh (by rw[hid];trivial) h1 r2 r3 r4 hold';refine⟨_,w',ρ,.inl ?_,nO.refl _,fun _ _=>rfl,q1,vA.of_c _,q2⟩;subst h5;have hnm:Nat.min m (n/te.size)=q:=hq;have hc:=m3 q hqm;simp only[l6,hts0,hV,iX,hX,zA,run_underlying hu,hA,m1,hnm,h0.sizeOf,hc,hB];simp only[r1,hA,goInt]
 ·rw[hid]at hk2;have hl:l=[]:=by rcases hk2 with⟨k2,hk2⟩|hk2|⟨_,_,hk2⟩<;>cases hk2;rfl
  subst hl;subst h2;have hq:min (wE te.size src.length) (wE te.size ([]:List Int).length)=0:=by simp[pE]
  rw[hq];have hsp:vF [] 0 (src.take (rG te.size 0))=[]:=by simp[vF,bC]
  rw[hsp];have hc:=m3 0 (by omega);refine⟨_,w,ρ,.inl ?_,nO.refl _,fun _ _=>rfl,?_,vA.of_c _,?_⟩
  ·have hnm:Nat.min m 0=0:=Nat.min_zero m;simp only[l6,hts0,hV,iX,hX,zA,run_underlying hu,hA,m1,hnm,h0.sizeOf,hc,hB];rfl
  ·show mA F ρ (mB h id (.ints k [])) w;rw[dy hid];exact hh
  ·show uH (kA ρ h) w (kA ρ (mB h id (.ints k []))) w;rw[dy hid];exact uH.refl _ _
theorem Fc (hty:bF P ty)(hh:mA F ρ h w){s d:Nat}{x:V}{vx:Value}{out:sH}(hx:vA ρ (av F (kA ρ h)) w x vx)(hb:bj ty nid s d x h=some (true,out))(hn:out.new.length=1→ρ nid=none):
  cE F ρ h w nid out ((do pure (.value (←convert s d vx)):Sem Next).run P w):=by
 unfold bj at hb;split at hb
 ·rename_i ts td hs hd;obtain⟨us,hus⟩:=(hty _ _ hs).und;have hud:=(hty _ _ hd).tk;split at hb
  ·rename_i k ki n htk;rw[htk]at hud;simp only[xE]at hud;have:=hx.int;subst this;have:=kC hb;subst this;exact cE.pure hh (v:=.int k (k.wrap n)) (by simp[convert,run_underlying hus,run_underlying hud,Conv.intToInt]) (vA.of_c _)
  ·rename_i b htk;rw[htk]at hud;simp only[xE]at hud;have:=hx.c;subst this;have:=kC hb;subst this;exact cE.pure hh (v:=.string b) (by cases us<;>simp[convert,run_underlying hus,run_underlying hud]) (vA.of_c _)
  ·rename_i htk;rw[htk]at hud;simp only[xE]at hud;split at hb
   ·rename_i e hse;have hks:=(hty _ _ hs).tk;rw[hse]at hks;simp only[xE]at hks;split at hb
    ·rename_i s0 b0 z0 hte;have hke:=(hty _ _ hte).tk;simp only[xE]at hke;have:=hx.c;subst this;have:=kC hb;subst this;exact cE.pure hh (v:=.string ByteArray.empty) (by simp[run_convert_bytes_nil w s e hks hke 0 0 d hud]) (vA.of_c _)
    ·cases hb
   ·cases hb
  ·rename_i e b htk;rw[htk]at hud;simp only[xE]at hud;split at hb
   ·rename_i s0 b0 z0 hte;have hke:=(hty _ _ hte).tk;simp only[xE]at hke;have:=hx.c;subst this;simp only[Option.some.injEq,Prod.mk.injEq,true_and]at hb;subst hb;have hcap:b.size≤grownCap w b.size 0 e:=Cd _ _ _ _;have hus':P.underlying s=some us:=hus;have hrun:(convert s d (.string b)).run P w= .ok (.slice (some ⟨w.heap.size,0,none⟩) b.size (grownCap w b.size 0 e)) (Lib.bytesWorld w e b):=Lib.run_convert_string_bytes w s d e b hus hud hke;have hnew:=Lib.bytesWorld_at_new w e b;have hrow:Lib.bytesCells w e b=bytesRow b (grownCap w b.size 0 e):=rfl;have hsz:(Lib.bytesCells w e b).size=grownCap w b.size 0 e:=by
     have h1:b.data.size=b.size:=rfl;simp[Lib.bytesCells,h1];omega
    have hheap:(Lib.bytesWorld w e b).heap=w.heap.push (.cells (Lib.bytesCells w e b) e ((Lib.bytesCells w e b).size,(Lib.bytesCells w e b).size+1)):=by
     apply Array.ext
     ·rw[Lib.bytesWorld_size];simp
     ·intro i h0' h2;have h1:=h0';rw[Lib.bytesWorld_size]at h1;have e1:(Lib.bytesWorld w e b).heap[i]?=(w.heap.push (.cells (Lib.bytesCells w e b) e ((Lib.bytesCells w e b).size,(Lib.bytesCells w e b).size+1)))[i]?:=by
       by_cases hi:i=w.heap.size
       ·subst hi;rw[hnew];simp
       ·rw[Lib.bytesWorld_at_old w e b i (by omega),dQ,if_neg hi]
      rw[u0 h0',u0 h2]at e1;exact Option.some.inj e1
    have hb1:(kG b).length=b.size:=by simp[kG]
    refine cE.made (c:=Lib.bytesCells w e b) (n:=b.size) hh (hn rfl) (fun i hi=>by dsimp only;omega) ?_ hheap (v:=.slice (some ⟨w.heap.size,0,none⟩) b.size (grownCap w b.size 0 e)) (by simp[hrun]) ?_
    ·refine⟨hb1,by omega,fun i hi=>?_⟩;rw[hb1]at hi;have h1:b.data.size=b.size:=rfl;simp only[Lib.bytesCells];rw[l2 (by simp[h1,hi])];simp[kG,iA,h1,hi]
    ·intro ρ' M' w'' hp;simp only[vA];exact⟨by omega,.inl ⟨_,_,_,grownCap w b.size 0 e,hp,Nat.mod_one _,by rw[y6];exact hcap,by rw[hsz];omega,by rw[y6]⟩⟩
   ·cases hb
  ·rename_i x htk hn1 hn2;rw[htk]at hud;simp only[xE]at hud;split at hb
   ·rename_i e hse;have hks:=(hty _ _ hs).tk;rw[hse]at hks;simp only[xE]at hks;split at hb
    ·rename_i s0 b0 z0 w1 l t1 hte hrow;have hke:=(hty _ _ hte).tk;simp only[xE]at hke;obtain⟨hw,hb2⟩:=gA hb;have hw2:=vB hw;simp only[Option.some.injEq,Prod.mk.injEq,true_and]at hb2;subst hb2;clear hb hw;subst hw2;obtain⟨_,a,len,cap,rfl,g1,g2,g3⟩:=ot hh hx hrow;have hrun:(convert s d (.slice a len cap)).run P w= .ok (.string (aJ l)) w:=by
      rcases g3 with g3|⟨b,o,g3,g4⟩
      ·subst g3;have hl0:len=0:=by simp at g1;omega
       subst hl0;rw[run_convert_bytes_string w s d e a 0 cap hks hke hud];cases a with
       |none=>simp[Conv.bytesToString,aJ];rfl
       |some a=>rw[run_bytesToString w a 0 cap [] (by simp[loadCells,loadCellsFrom])];simp[aJ];rfl
      ·subst g3;exact run_convert_bytes_arg w s e hks hke b o len cap l (by omega) (fun i hi=>g4 i (by omega)) d hud
     exact cE.pure hh (v:=.string (aJ l)) (by simp[hrun]) (vA.of_c _)
    ·cases hb
   ·cases hb
  ·cases hb
 ·cases hb
end
section
variable {P:Program}{F:Nat→Prop}{ρ:sD}{h:Nat→rA}{w:World}{nid:Nat}{ty:Nat→Option TI}
theorem fQ:∀(a b:List Int),bW a b=true↔a=b
 | [],[]=>by simp[bW]
 | [],_::_=>by simp[bW]
 |_::_,[]=>by simp[bW]
 |a::r,b::s=>by simp[bW,fQ r s]
theorem gS {k:IntKind}:∀(fs:List (Nat×Nat)) (i n:Nat) (a b:List Int),af ty fs i n=true→a.length=n→b.length=n→
  pG ty fs i (a.map fun x=>V.c (.int k x)) (b.map fun x=>V.c (.int k x))=some (bW a b)
 | [],i,0,a,b,_,ha,hb=>by cases a<;>cases b<;>simp_all[pG,bW]
 | [],i,n+1,_,_,h,_,_=>by simp[af]at h
 |(t,off)::r,i,0,_,_,h,_,_=>by simp[af]at h
 |(t,off)::r,i,n+1,a,b,h,ha,hb=>by
  obtain⟨x,a,rfl⟩:∃x a',a=x::a':=by cases a<;>simp_all
  obtain⟨y,b,rfl⟩:∃x a',b=x::a':=by cases b<;>simp_all
  simp only[af]at h;obtain⟨h1,h2⟩:=wB h;obtain⟨h3,h4⟩:=wB h2;have hk:pT k k=true:=by cases k<;>decide
  have he:Gw (ty t) (V.c (.int k x)) (V.c (.int k y))=some (x==y):=by
   cases ht:ty t with
   |none=>rw[ht]at h3;cases h3
   |some ti=>obtain⟨tk,s0,b0,z0⟩:=ti;rw[ht]at h3;cases tk<;>simp at h3;simp[Gw,hk]
  have ih:=gS (k:=k) r (i+1) n a b h4 (by simpa using ha) (by simpa using hb);cases r with
  |nil=>
   cases n with
   |succ n=>simp[af]at h4
   |zero=>cases a<;>cases b<;>simp at ha hb;simp[pG,h1,he,bW]
  |cons f r=>simp[pG,h1,he,ih,bW]
theorem lA.ints {ρ:sD}{M:Nat→Prop}{k:IntKind}(l:List Int):lA ρ M w (l.map fun x=>V.c (.int k x)) (l.map (Value.int k)):=by
 have:=lA.consts (ρ:=ρ) (M:=M) (w:=w) (l.map (Value.int k));rw[List.map_map]at this;exact this
theorem Fq (hty:bF P ty){t n:Nat}{ti:TI}{k:IntKind}(ht:ty t=some ti)(hf:oK ty n ti=true){a b:List Int}(ha:a.length=n)(hb:b.length=n):
  (Op.equal t (.agg (a.map (Value.int k)).toArray) (.agg (b.map (Value.int k)).toArray)).run P w= .ok (bW a b) w:=by
 obtain⟨tk,s0,b0,z0⟩:=ti;cases tk<;>simp only[oK,hI]at hf;rename_i fs;have he:oM ty t (a.map fun x=>V.c (.int k x)) (b.map fun x=>V.c (.int k x))=some (bW a b):=by simp only[oM,ht];exact gS fs 0 n a b hf ha hb
 exact(dP (ρ:=fun _=>none) (M:=fun _=>False) hty he (by simpa using lA.ints a) (by simpa using lA.ints b)).1
theorem kJ (hty:bF P ty){t n:Nat}{ti:TI}{k:IntKind}(ht:ty t=some ti)(hf:oK ty n ti=true){a:List Int}(ha:a.length=n):
  ∀(es:List MapEntry) (ks:List (List Int)) (i:Nat),es.length=ks.length→(∀j,j<ks.length→(ks.getD j []).length=n∧∃e,es[j]?=some e∧e.key= .agg ((ks.getD j []).map (Value.int k)).toArray)→
   (Instr.findAsking t (.agg (a.map (Value.int k)).toArray) es i).run P w= .ok ((cF a ks i).bind fun j=>(es[j-i]?).map fun e=>(j,e.val)) w∧(∀j,cF a ks i=some j→i≤j∧j-i<ks.length∧ks.getD (j-i) []=a)
 | [],[],i,_,_=>by simp[Instr.findAsking,cF]
 | [],_::_,_,hl,_=>by simp at hl
 |_::_,[],_,hl,_=>by simp at hl
 |e::es,x::ks,i,hl,he=>by
  obtain⟨h1,e',h2,h3⟩:=he 0 (by simp);simp only[List.getD_cons_zero,iX,Option.some.injEq]at h1 h2 h3;subst h2;have hk:=Fq (P:=P) (w:=w) (k:=k) hty ht hf ha h1;have ih:=kJ hty (k:=k) ht hf ha es ks (i+1) (by simpa using hl) (fun j hj=>by have:=he (j+1) (by simpa using hj);simpa using this);simp only[Instr.findAsking,zA,h3,hk,hA,cF];cases hq:bW a x with
  |true=>have:=(fQ a x).1 hq;simp[this]
  |false=>
   simp only[hI,if_false,cond_false];obtain⟨ih1,ih2⟩:=ih;rw[ih1];refine⟨?_,fun j hj=>?_⟩
   ·cases hm:cF a ks (i+1)with
    |none=>rfl
    |some j=>
     obtain⟨g1,g2,g3⟩:=ih2 j hm;have:j-i=(j- (i+1))+1:=by omega
     simp[this]
   ·obtain⟨g1,g2,g3⟩:=ih2 j hj;have:j-i=(j- (i+1))+1:=by omega
    rw[this];simp only[o0,List.getD_cons_succ];exact⟨by omega,by omega,g3⟩
theorem aP (hty:bF P ty){k:IntKind}(em:Bool)(d:Nat){a:List Int}:∀(fs:List Field) (i n:Nat),af ty (fs.map fun f=>(f.type,f.offset)) i n=true→i+n=a.length→
  (forIn fs PUnit.unit (fun f (r:PUnit)=>do
    if f.name≠ "_" then do Instr.checkKey em (d+1) f.type (←part f.type (a.map (Value.int k)).toArray f.offset);pure PUnit.unit;pure (ForInStep.yield PUnit.unit)
    else pure (ForInStep.yield PUnit.unit)):Sem PUnit).run P w= .ok PUnit.unit w
 | [],i,n,_,_=>by simp
 |f::fs,i,0,h,_=>by simp[af]at h
 |f::fs,i,n+1,h,hn=>by
  simp only[hN,af]at h;obtain⟨h1,h2⟩:=wB h;obtain⟨h3,h4⟩:=wB h2;have ho:=vB h1;have ih:=aP hty (k:=k) em d (a:=a) fs (i+1) n h4 (by omega);cases ht:ty f.type with
  |none=>rw[ht]at h3;cases h3
  |some ti=>
   obtain⟨tk,s0,b0,z0⟩:=ti;rw[ht]at h3;cases tk<;>simp at h3;have hu:=(hty _ _ ht).tk;simp only[xE]at hu;have hlt:i<a.length:=by omega
   have hp:(part f.type (a.map (Value.int k)).toArray f.offset).run P w= .ok (.int k (a.getD i 0)) w:=by simp[part,Go.isAgg,run_underlying hu,ho,hlt,iA]
   have hc:(Instr.checkKey em (d+1) f.type (.int k (a.getD i 0))).run P w= .ok () w:=by simp[Instr.checkKey,run_underlying hu]
   by_cases hnm:f.name≠ "_"
   ·simp only[List.forIn_cons,if_pos hnm,zA,hp,hc,hA,hB];exact ih
   ·simp only[List.forIn_cons,if_neg hnm,zA,hA,hB];exact ih
theorem bP (hty:bF P ty){t n:Nat}{ti:TI}{k:IntKind}(ht:ty t=some ti)(hf:oK ty n ti=true)(em:Bool){a:List Int}(ha:a.length=n):
  (Instr.checkKey em 10000 t (.agg (a.map (Value.int k)).toArray)).run P w= .ok () w:=by
 obtain⟨tk,s0,b0,z0⟩:=ti;cases tk<;>simp only[oK,hI]at hf;rename_i fs;have hu:=(hty _ _ ht).tk;simp only[xE]at hu;obtain⟨fields,h1,h2,_⟩:=hu;subst h2;have:=aP (P:=P) (w:=w) hty (k:=k) em 9998 (a:=a) fields.toList 0 n hf (by omega);rw[show(10000:Nat)=9999+1 from rfl,Instr.checkKey];simp only[zA,run_underlying h1,hA];rw[←Array.forIn_toList];rw[show(forIn fields.toList PUnit.unit fun f (__s:PUnit)=>(if f.name≠ "_" then do
   let x←part f.type (List.map (Value.int k) a).toArray f.offset
   Instr.checkKey em 9999 f.type x
   pure (ForInStep.yield PUnit.unit)
  else pure (ForInStep.yield PUnit.unit):Sem (ForInStep PUnit))).run P w= .ok PUnit.unit w from this]
 simp
theorem mA.allocMap (hh:mA F ρ h w)(hn:ρ nid=none){k:IntKind}{n:Nat}{c:sO}(hc:c.len=0){w':World}(hkp:iH w w')(hw:w'.heap=w.heap.push (.map #[] 0)):
  mA F (vC ρ nid ⟨some w.heap.size,0,0⟩) (mB h nid (.mp k n [] c)) w'∧uH (kA ρ h) w (kA (vC ρ nid ⟨some w.heap.size,0,0⟩) (mB h nid (.mp k n [] c))) w':=by
 have hnew:w'.heap[w.heap.size]?=some (.map #[] 0):=by rw[hw];simp
 have hold:∀b,b<w.heap.size→w'.heap[b]?=w.heap[b]?:=by
  intro b hb;rw[hw,dQ];split
  ·omega
  ·rfl
 have hsub:∀b,kA (vC ρ nid ⟨some w.heap.size,0,0⟩) (mB h nid (.mp k n [] c)) b→kA ρ h b∨w.heap.size≤b:=by
  rintro b ⟨j,m,C,hp,hl⟩;unfold vC at hp;unfold mB at hl;split at hp
  ·simp only[Option.some.injEq,Pl.mk.injEq]at hp;obtain⟨h1,_⟩:=hp;exact .inr (by omega)
  ·rename_i hne;rw[if_neg hne]at hl;exact .inl ⟨j,m,C,hp,hl⟩
 have hext:uH (kA ρ h) w (kA (vC ρ nid ⟨some w.heap.size,0,0⟩) (mB h nid (.mp k n [] c))) w':=⟨by rw[hw];simp,fun b hb _=>hold b hb,hsub,hkp⟩
 refine⟨⟨iT hh.wf (iB _),?_,?_,hh.low' hext,hh.out' hext⟩,hext⟩
 ·intro j hl;by_cases hj:j=nid
  ·subst hj;refine⟨⟨some w.heap.size,0,0⟩,by simp[vC],?_⟩;have:mB h j (.mp k n [] c) j= .mp k n [] c:=by simp[mB]
   rw[this];exact⟨rfl,rfl,by simpa using hc,_,#[],0,rfl,hnew,by simp,fun i hi=>by simp at hi,by simp,by simp,rfl,fun j e he=>by simp at he⟩
  ·have h1:mB h nid (.mp k n [] c) j=h j:=by simp[mB,hj]
   rw[h1]at hl⊢;obtain⟨p,hp,hb⟩:=hh.rel j hl;refine⟨p,by simp[vC,hj,hp],qB.mono (gF hn) hext hb ?_⟩;intro b hb';refine hold b ?_;obtain⟨pb,pn,pC⟩:=p;dsimp only at hb';subst hb';exact kA.lt hh ⟨j,pn,pC,hp,hl⟩
 ·intro i j b m C m' C' hi hj hpi hpj;have key:∀{l m C},(mB h nid (.mp k n [] c) l).live→vC ρ nid ⟨some w.heap.size,0,0⟩ l=some ⟨some b,m,C⟩→l≠nid→(h l).live∧ρ l=some ⟨some b,m,C⟩∧b<w.heap.size:=by
   intro l m C hk hpk hne;have h1:mB h nid (.mp k n [] c) l=h l:=by simp[mB,hne]
   have h2:vC ρ nid ⟨some w.heap.size,0,0⟩ l=ρ l:=by simp[vC,hne]
   rw[h1]at hk;rw[h2]at hpk;exact⟨hk,hpk,kA.lt hh ⟨l,m,C,hpk,hk⟩⟩
  have new:∀{m C},vC ρ nid ⟨some w.heap.size,0,0⟩ nid=some ⟨some b,m,C⟩→b=w.heap.size:=by intro m C hp;simp[vC]at hp;omega
  by_cases h1:i=nid<;>by_cases h2:j=nid
  ·rw[h1,h2]
  ·subst h1;have:=new hpi;have:=(key hj hpj h2).2.2;omega
  ·subst h2;have:=new hpj;have:=(key hi hpi h1).2.2;omega
  ·obtain⟨a1,a2,_⟩:=key hi hpi h1;obtain⟨b1,b2,_⟩:=key hj hpj h2;exact hh.inj i j b m C m' C' a1 b1 a2 b2
theorem mA.writeMap (hh:mA F ρ h w){id b n C:Nat}{x:rA}(hl:(h id).live)(hxl:x.live)(hp:ρ id=some ⟨some b,n,C⟩){w':World}(hsz0:w'.heap.size=w.heap.size∧iH w w')(hw:∀b',b'≠b→w'.heap[b']?=w.heap[b']?)
  (hx:∀M',(∀b,M' b→av F (kA ρ h) b)→qB ρ M' w' ⟨some b,n,C⟩ x):
  mA F ρ (mB h id x) w'∧uH (kA ρ h) w (kA ρ (mB h id x)) w':=by
 have hbM:kA ρ h b:=⟨id,n,_,hp,hl⟩
 obtain⟨hsz,hkp⟩:=hsz0;have lv:∀{j},(mB h id x j).live→(h j).live:=by
  intro j hj;unfold mB at hj;split at hj
  ·rename_i e;subst e;exact hl
  ·exact hj
 have hext:uH (kA ρ h) w (kA ρ (mB h id x)) w':=⟨by omega,fun b' _ hm=>hw b' (fun e=>hm (e▸hbM)),fun b' hb=>by obtain⟨j,m,C,h1,h2⟩:=hb;exact .inl ⟨j,m,C,h1,lv h2⟩,hkp⟩
 refine⟨⟨hh.wf,?_,?_,hh.low' hext,hh.out' hext⟩,hext⟩
 ·intro j hj;by_cases he:j=id
  ·subst he;refine⟨_,hp,?_⟩;have:mB h j x j=x:=by simp[mB]
   rw[this];exact hx _ (fun b hb=>hb.imp id (fun hm=>(hext.sub b hm).elim id (fun hz=>by obtain⟨i,m,C,h1,h2⟩:=hm;exact⟨i,m,C,h1,lv h2⟩)))
  ·have h1:mB h id x j=h j:=by simp[mB,he]
   rw[h1]at hj⊢;obtain⟨p,hpj,hb⟩:=hh.rel j hj;refine⟨p,hpj,qB.mono (nO.refl _) hext hb ?_⟩;intro b' hb';refine hw b' (fun e=>he ?_);subst e;obtain⟨pb,pn,pC⟩:=p;dsimp only at hb';subst hb';exact hh.inj j id b' _ _ _ _ hj hl hpj hp
 ·intro i j b' m C m' C' hi hj;exact hh.inj i j b' m C m' C' (lv hi) (lv hj)
theorem nf {t:Nat}{out:sH}(hh:mA F ρ h w)(ha:kZ ty nid t=some (true,out))(hn1:out.new.length=1→ρ nid=none):
  cE F ρ h w nid out ((do pure (.value (←Instr.makeMap t none)):Sem Next).run P w):=by
 unfold kZ at ha;split at ha
 ·split at ha
  ·split at ha
   ·rename_i k c hk hc;obtain⟨_,h2⟩:=gA ha;simp only[Option.some.injEq,Prod.mk.injEq,true_and]at h2;subst h2;have hcl:c.len=0:=by
     unfold Df at hc;split at hc<;>simp at hc<;>subst hc<;>rfl
    obtain⟨q1,q2⟩:=mA.allocMap hh (hn1 rfl) (k:=k) (n:=_) hcl (w':=w.alloc (.map #[] 0)) ⟨rfl,rfl,rfl,iB _⟩ rfl;refine⟨.map (some w.heap.size),w.alloc (.map #[] 0),_,.inl ?_,gF (hn1 rfl),fun id hid=>?_,q1,?_,q2⟩
    ·simp[Instr.makeMap]
    ·simp at hid;have:id≠nid:=by omega
     simp[vC,this]
    ·simp only[vA];exact⟨_,by simp[vC],rfl⟩
   ·cases ha
  ·cases ha
 ·cases ha
theorem eZ {M:Nat→Prop}{k:IntKind}{n:Nat}{x:V}{vx:Value}{l:List Int}(hk:tl k n x=some l)(hx:vA ρ M w x vx):l.length=n∧vx= .agg (l.map (Value.int k)).toArray:=by
 unfold tl at hk;split at hk
 ·split at hk
  ·rename_i l' hl;obtain⟨h1,h2⟩:=gA hk;simp only[Option.some.injEq]at h2;subst h2;simp only[vA]at hx;obtain⟨vs,rfl,hr⟩:=hx;refine⟨vB h1,?_⟩;congr 1;have:∀(cs:List V) (vs:List Value) (l:List Int),cK k cs=some l→lA ρ M w cs vs→vs=l.map (Value.int k):=by
    intro cs;induction cs with
    |nil=>intro vs l h1 h2;cases vs<;>simp[cK,lA]at h1 h2;subst h1;rfl
    |cons c cs ih=>
     intro vs l h1 h2;cases vs with
     |nil=>simp[lA]at h2
     |cons v vs=>
      simp only[lA]at h2;unfold cK at h1;split at h1
      ·rename_i he;cases he
      ·rename_i k' n r he;simp only[List.cons.injEq]at he;obtain⟨rfl,rfl⟩:=he;obtain⟨e1,e2⟩:=gA h1;have e1:=dH e1;subst e1;simp only[hE]at e2;obtain⟨l',g1,g2⟩:=e2;subst g2;have:=h2.1.int;subst this;simp[ih vs l' g1 h2.2]
      ·cases h1
   have h3:=this _ _ _ hl hr;apply Array.ext';simpa using h3
  ·cases hk
 ·cases hk
theorem iV {l:List Int}{ks:List (List Int)}{vs:sO}{v:V}{j:Nat}(hg:cH l ks vs=some v)(hm:cF l ks 0=some j):v= .c (iI vs j):=by
 cases vs<;>simp only[cH,yE,D7,hm,Option.some.injEq,reduceCtorEq]at hg<;>subst hg<;>rfl
theorem gV {l:List Int}{ks:List (List Int)}{vs:sO}{v:V}{te:TI}{z:Value}(hg:cH l ks vs=some v)(hm:cF l ks 0=none)(hc:jN te vs=true)(hz:z.cells.toList=te.zero)(hp:zZ z=true):v= .c z:=by
 cases vs with
 |strs l=>simp[cH]at hg
 |ints k l=>
  simp only[cH,yE,hm,Option.some.injEq]at hg;subst hg;unfold jN at hc;simp only at hc;split at hc
  ·rename_i k1 k2 z0 h1 h2;obtain⟨_,hc⟩:=wB hc;obtain⟨hk,hz0⟩:=wB hc;rw[h2]at hz;cases z<;>simp[zZ]at hp<;>simp[Value.cells]at hz;obtain⟨rfl,rfl⟩:=hz;rw[dH hk,eq_of_beq hz0]
  ·cases hc
 |bools l=>
  simp only[cH,D7,hm,Option.some.injEq]at hg;subst hg;unfold jN at hc;simp only at hc;split at hc
  ·rename_i z0 h1 h2;rw[h2]at hz;cases z<;>simp[zZ]at hp<;>simp[Value.cells]at hz;subst hz;simp at hc;subst hc;rfl
  ·cases hc
theorem z7 (hty:bF P ty){t n:Nat}{ti:TI}{k:IntKind}(ht:ty t=some ti)(hf:oK ty n ti=true){a:List Int}(ha:a.length=n){es:Array MapEntry}{ks:List (List Int)}{vs:sO}(hl:es.size=ks.length)
  (he:∀j,j<ks.length→(ks.getD j []).length=n∧∃e,es[j]?=some e∧e.key= .agg ((ks.getD j []).map (Value.int k)).toArray∧e.val=iI vs j):
  (Instr.findKey t (.agg (a.map (Value.int k)).toArray) es.toList).run P w= .ok ((cF a ks 0).map fun j=>(j,iI vs j)) w∧(∀j,cF a ks 0=some j→j<ks.length∧ks.getD j []=a):=by
 have hu:(match P.underlying t with|some (.array _ _)|some (.struct _)=>true|_=>false)=true:=by obtain⟨tk,s0,b0,z0⟩:=ti;cases tk<;>simp only[oK,hI]at hf;have hu:=(hty _ _ ht).tk;simp only[xE]at hu;obtain⟨fields,h1,_⟩:=hu;rw[h1]
 obtain⟨h1,h2⟩:=kJ (P:=P) (w:=w) hty (k:=k) ht hf ha es.toList ks 0 (by simpa using hl) (fun j hj=>by obtain⟨g1,e,g2,g3,_⟩:=he j hj;exact⟨g1,e,by simpa using g2,g3⟩);rw[run_findKey_eq w hu,h1];refine⟨?_,fun j hj=>?_⟩
 ·cases hm:cF a ks 0 with
  |none=>rfl
  |some j=>obtain⟨_,g1,_⟩:=h2 j hm;obtain⟨_,e,g2,_,g3⟩:=he j (by simpa using g1);simp[g2,g3]
 ·obtain⟨_,g1,g2⟩:=h2 j hj;exact⟨by simpa using g1,by simpa using g2⟩
theorem tr {t:Nat}{m i:V}{vm vi:Value}{ok:Bool}{out:sH}(hty:bF P ty)(hh:mA F ρ h w)(hm:vA ρ (av F (kA ρ h)) w m vm)(hi:vA ρ (av F (kA ρ h)) w i vi)(ha:qJ ty t m i ok h=some (true,out)):
  cE F ρ h w nid out ((do pure (.value (←Instr.lookup t vm vi ok)):Sem Next).run P w):=by
 unfold qJ at ha;split at ha
 ·rename_i kt et s0 b0 z0 id ht;split at ha
  ·rename_i k n ks vs tk te hid htk hte;split at ha
   ·rename_i l v hl hv;obtain⟨hc,h2⟩:=gA ha;simp only[Option.some.injEq,Prod.mk.injEq,true_and]at h2;subst h2;obtain⟨hc1,hc2⟩:=wB hc;rw[hl]at hv;simp only at hv;obtain⟨hln,rfl⟩:=eZ hl hi;simp only[vA]at hm;obtain⟨b,hp,rfl⟩:=hm;obtain⟨_,_,hlen,es,clk,hb,hes,hent,hold,hapart⟩:=hh.ownMap hid hp;obtain⟨hf1,hf2⟩:=z7 (P:=P) (w:=w) hty (k:=k) htk hc1 hln hes hent;have hu:=(hty _ _ ht).tk;simp only[xE]at hu;obtain⟨hu,i0,z,hi0,hz,hzp⟩:=hu;have hck:=bP (P:=P) (w:=w) hty (k:=k) htk hc1 es.isEmpty hln;have hzc:z.cells.toList=te.zero:=by
     obtain⟨i1,g1,_,_,z1,g2,g3⟩:=(hty _ _ hte).info;rw[hi0]at g1;simp only[Option.some.injEq]at g1;subst g1;rw[hz]at g2;simp only[Option.some.injEq]at g2;subst g2;exact g3
    have hzv:(Go.zeroValue et).run P w= .ok z w:=by simp[Go.zeroValue,Go.typeInfo,hi0,hz]
    have hrun:∃u,v= .c u∧(Instr.lookup t (.map (some b)) (.agg (l.map (Value.int k)).toArray) ok).run P w= .ok (bif ok then .tuple #[u,.bool (oQ l ks)]else u) w:=by
     cases hm:cF l ks 0 with
     |none=>refine⟨z,gV hv hm hc2 hzc hzp,?_⟩;simp only[Instr.lookup,zA,run_underlying hu,hA,MapKept.run_getObj_map hb,hB,hck,hf1,hm,w4,hzv,oQ,Option.isSome_none];cases ok<;>simp
     |some j=>refine⟨iI vs j,iV hv hm,?_⟩;simp only[Instr.lookup,zA,run_underlying hu,hA,MapKept.run_getObj_map hb,hB,hck,hf1,hm,hY,oQ,Option.isSome_some];cases ok<;>simp
    obtain⟨u,rfl,hrun⟩:=hrun;refine cE.pure hh (v:=bif ok then .tuple #[u,.bool (oQ l ks)]else u) (by simp[hrun]) ?_;cases ok
    ·exact vA.of_c _
    ·simp only[cond_true,vA];exact⟨_,rfl,by simp[lA,vA]⟩
   ·cases ha
  ·cases ha
 ·cases ha
theorem ak (k:IntKind)(l:List Int)(n:Nat):Instr.sameBits (n+1) (.agg (l.map (Value.int k)).toArray) (.agg (l.map (Value.int k)).toArray)=true:=by
 have h:∀l:List Int,((l.map (Value.int k)).zip (l.map (Value.int k))).all (fun x=>Instr.sameBits n x.1 x.2)=true:=by
  intro l;induction l with
  |nil=>rfl
  |cons a l ih=>simp only[hN,List.zip_cons_cons,List.all_cons,ih,Bool.and_true];cases n<;>simp[Instr.sameBits]
 simp only[Instr.sameBits,beq_self_eq_true,Bool.true_and];exact h l
theorem my (k:IntKind)(l:List Int):(Instr.keyThatStays (.agg (l.map (Value.int k)).toArray) (.agg (l.map (Value.int k)).toArray)).run P w= .ok (.agg (l.map (Value.int k)).toArray) w:=by
 simp only[Instr.keyThatStays,ak k l 9999,if_true,hB]
theorem nr {α:Type}{l:List Int}{x:α}{ks:List (List Int)}{vs:List α}(hl:vs.length=ks.length):(nG l x ks vs).length=(yB l ks).length:=by
 unfold nG yB oQ;cases cF l ks 0<;>simp[hl]
theorem nR {M:Nat→Prop}{l:List Int}{ks:List (List Int)}{vs c:sO}{x:V}{vx:Value}(hc:mR l ks vs x=some c)(hx:vA ρ M w x vx)(hl:vs.len=ks.length):
  c.len=(yB l ks).length∧(∀j,cF l ks 0=some j→j<ks.length→iI c j=vx∧∀i,i≠j→iI c i=iI vs i)∧(cF l ks 0=none→iI c ks.length=vx∧∀i,i<ks.length→iI c i=iI vs i):=by
 unfold mR at hc;split at hc
 ·rename_i k vs k' x;obtain⟨h1,h2⟩:=gA hc;simp only[Option.some.injEq]at h2;subst h2;have:=dH h1;subst this;have:=hx.int;subst this;simp only[sO.len]at hl⊢;refine⟨nr hl,fun j hj hlt=>?_,fun hj=>?_⟩
  ·simp only[nG,hj,iI];refine⟨by simp[iA,hl,hlt],fun i hi=>?_⟩;simp only[iA,hW (Ne.symm hi)]
  ·simp only[nG,hj,iI];refine⟨by simp[iA,←hl],fun i hi=>?_⟩;simp only[iA];rw[zB (by omega)]
 ·rename_i vs x;simp only[Option.some.injEq]at hc;subst hc;have:=hx.c;subst this;simp only[sO.len]at hl⊢;refine⟨nr hl,fun j hj hlt=>?_,fun hj=>?_⟩
  ·simp only[nG,hj,iI];refine⟨by simp[iA,hl,hlt],fun i hi=>?_⟩;simp only[iA,hW (Ne.symm hi)]
  ·simp only[nG,hj,iI];refine⟨by simp[iA,←hl],fun i hi=>?_⟩;simp only[iA];rw[zB (by omega)]
 ·cases hc
theorem nV (es:Array MapEntry)(j:Nat)(k v:Value):(es.modify j fun e=>{e with key:=k,val:=v}).toList.map (·.born)=es.toList.map (·.born):=by
 apply hT;intro i;simp only[hU,yK,xK];by_cases hij:j=i
 ·subst hij;cases es[j]?<;>simp
 ·simp[hij]
theorem bf {es:Array MapEntry}(h:∀(j:Nat) (e:MapEntry),es[j]?=some e→e.born=j){x:MapEntry}(hx:x.born=es.size):∀(j:Nat) (e:MapEntry),(es.push x)[j]?=some e→e.born=j:=by
 intro j e he;rw[dQ]at he;split at he
 ·rename_i hj;simp only[Option.some.injEq]at he;subst he;rw[hx,hj]
 ·exact h j e he
theorem zO {es:Array MapEntry}(h:∀(j:Nat) (e:MapEntry),es[j]?=some e→e.born=j){i:Nat}(f:MapEntry→MapEntry)(hf:∀e,(f e).born=e.born):∀(j:Nat) (e:MapEntry),(es.modify i f)[j]?=some e→e.born=j:=by
 intro j e he;rw[xK]at he;split at he
 ·cases hq:es[j]? with
  |none=>rw[hq]at he;cases he
  |some y=>rw[hq]at he;simp only[hY,Option.some.injEq]at he;subst he;rw[hf];exact h j y hq
 ·exact h j e he
theorem pZ (es:Array MapEntry)(j:Nat)(k:Value):(es.modify j fun e=>{e with key:=k}).toList.map (·.born)=es.toList.map (·.born):=by
 apply hT;intro i;simp only[hU,yK,xK];by_cases hij:j=i
 ·subst hij;cases es[j]?<;>simp
 ·simp[hij]
theorem tu (es:Array MapEntry)(j:Nat)(k:Value):(es.modify j fun e=>{e with val:=k}).toList.map (·.born)=es.toList.map (·.born):=by
 apply hT;intro i;simp only[hU,yK,xK];by_cases hij:j=i
 ·subst hij;cases es[j]?<;>simp
 ·simp[hij]
theorem vQ {t:Nat}{m i x:V}{vm vi vx:Value}{out:sH}(hty:bF P ty)(hh:mA F ρ h w)(hm:vA ρ (av F (kA ρ h)) w m vm)(hi:vA ρ (av F (kA ρ h)) w i vi)(hx:vA ρ (av F (kA ρ h)) w x vx)(ha:eH ty t m i x h=some (true,out)):
  cE F ρ h w nid out ((do Instr.mapUpdate t vm vi vx;pure .skip:Sem Next).run P w):=by
 unfold eH at ha;split at ha
 ·rename_i kt et s0 b0 z0 id ht;split at ha
  ·rename_i k n ks vs tk hid htk;split at ha
   ·rename_i l hl;split at ha
    ·rename_i c hcol;obtain⟨hc1,h2⟩:=gA ha;simp only[Option.some.injEq,Prod.mk.injEq,true_and]at h2;subst h2;obtain⟨hln,rfl⟩:=eZ hl hi;simp only[vA]at hm;obtain⟨b,hp,rfl⟩:=hm;obtain⟨_,_,hlen,es,clk,hb,hes,hent,hold,hapart,hstamp,hborn⟩:=hh.ownMap hid hp;obtain⟨hf1,hf2⟩:=z7 (P:=P) (w:=w) hty (k:=k) htk hc1 hln hes hent;have hu:=(hty _ _ ht).tk;simp only[xE]at hu;obtain⟨hu,_⟩:=hu;have hck:=bP (P:=P) (w:=w) hty (k:=k) htk hc1 false hln;obtain⟨p1,p2,p3⟩:=nR hcol hx hlen;have hlt:b<w.heap.size:=(hL.mp hb).1;have fin:∀es' clk',(Instr.mapUpdate t (.map (some b)) (.agg (l.map (Value.int k)).toArray) vx).run P w= .ok () {w with heap:=w.heap.setIfInBounds b (.map es' clk')}→es'.size=(yB l ks).length→
       (∀j,j<(yB l ks).length→((yB l ks).getD j []).length=n∧∃e,es'[j]?=some e∧e.key= .agg (((yB l ks).getD j []).map (Value.int k)).toArray∧e.val=iI c j)→(∀e∈es'.toList,e.born<clk')→(es'.toList.map (·.born)).Nodup→clk'=(yB l ks).length→(∀(j:Nat) (e:MapEntry),es'[j]?=some e→e.born=j)→
       cE F ρ h w nid {val:=eM,wr:=[(id,.mp k n (yB l ks) c)],touch:=[id]} ((do Instr.mapUpdate t (.map (some b)) (.agg (l.map (Value.int k)).toArray) vx;pure .skip:Sem Next).run P w):=by
      intro es' clk' r1 r2 r3 r4 r5 r6 r7;obtain⟨q1,q2⟩:=mA.writeMap (w':={w with heap:=w.heap.setIfInBounds b (.map es' clk')}) (x:=.mp k n (yB l ks) c) hh (by rw[hid];trivial) trivial hp ⟨by simp,⟨rfl,rfl,rfl,iB _⟩⟩
       (fun b' hb'=>(MapKept.heap_set hb).2 b' hb') (fun M' _=>⟨rfl,rfl,p1,b,es',clk',rfl,(MapKept.heap_set hb).1,r2,r3,r4,r5,r6,r7⟩)
      exact⟨undef,_,ρ,.inr ⟨by simp[r1],rfl⟩,nO.refl _,fun _ _=>rfl,q1,vA.of_c _,q2⟩
     cases hm:cF l ks 0 with
     |none=>
      obtain⟨q1,q2⟩:=p3 hm;have hK:yB l ks=ks++[l]:=by simp[yB,oQ,hm]
      refine fin (es.push {key:=.agg (l.map (Value.int k)).toArray,val:=vx,born:=clk}) (clk+1) ?_ ?_ ?_ ?_ ?_ (by rw[hK,hstamp];simp) (bf hborn (by rw[hstamp,hes]))
      ·simp only[Instr.mapUpdate,zA,run_underlying hu,hA,MapKept.run_getObj_map hb,hck,hf1,hm,w4,MapKept.run_setObj_map _ hb]
      ·simp[hK,hes]
      ·intro j hj;rw[hK]at hj⊢;simp only[List.length_append,l3]at hj;by_cases hj2:j<ks.length
       ·obtain⟨g1,e,g2,g3,g4⟩:=hent j hj2;have hg:(ks++[l]).getD j []=ks.getD j []:=by simp[iA,zB hj2]
        rw[hg];refine⟨g1,e,?_,g3,by rw[g4,q2 j hj2]⟩;rw[dQ,if_neg (by omega)];exact g2
       ·have:j=ks.length:=by omega
        subst this;have hg:(ks++[l]).getD ks.length []=l:=by simp[iA]
        rw[hg];exact⟨hln,_,by rw[dQ,if_pos hes.symm],rfl,q1.symm⟩
      ·intro e he;simp only[l4,List.mem_append,b4]at he;rcases he with he|rfl
       ·exact Nat.lt_succ_of_lt (hold e he)
       ·exact Nat.lt_succ_self _
      ·simp only[l4,y5,hN,u3];refine List.nodup_append.2 ⟨hapart,by simp,?_⟩;intro a ha b hb';simp only[b4]at hb';subst hb';obtain⟨x,hx,rfl⟩:=w3.1 ha;exact Nat.ne_of_lt (hold x hx)
     |some j0=>
      obtain⟨hj0,hkj0⟩:=hf2 j0 hm;obtain⟨q1,q2⟩:=p2 j0 hm hj0;obtain⟨g1,e0,g2,g3,g4⟩:=hent j0 hj0;rw[hkj0]at g3;have hK:yB l ks=ks:=by simp[yB,oQ,hm]
      refine fin (es.modify j0 fun e=>{e with key:=.agg (l.map (Value.int k)).toArray,val:=vx}) clk ?_ ?_ ?_ ?_ ?_ (by rw[hK,hstamp]) (zO hborn _ (fun _=>rfl))
      ·simp only[Instr.mapUpdate,zA,run_underlying hu,hA,MapKept.run_getObj_map hb,hck,hf1,hm,hY,g2,w5,g3,my,MapKept.run_setObj_map _ hb]
      ·simp[hK,hes]
      ·intro j hj;rw[hK]at hj⊢;obtain⟨a1,e,a2,a3,a4⟩:=hent j hj;refine⟨a1,?_⟩;rw[xK];by_cases hjj:j0=j
       ·subst hjj;rw[if_pos rfl,g2];exact⟨_,rfl,by simp only[hkj0],q1.symm⟩
       ·rw[if_neg hjj];exact⟨e,a2,a3,by rw[a4,q2 j (Ne.symm hjj)]⟩
      ·intro e he;have:=y4 (f:=(·.born)) he;rw[nV]at this;obtain⟨y,hy,e1⟩:=w3.1 this;rw[←e1];exact hold y hy
      ·rw[nV];exact hapart
    ·cases ha
   ·cases ha
  ·cases ha
 ·cases ha
theorem vl {n:Nat}{vs:sO}(h:vs.len=n):lQ n vs=vs:=by
 cases vs<;>simp only[sO.len]at h<;>simp only[lQ]<;>rw[x0 (by omega)]
theorem iq {t:Nat}{m i:V}{vm vi:Value}{out:sH}(hty:bF P ty)(hh:mA F ρ h w)(hm:vA ρ (av F (kA ρ h)) w m vm)(hi:vA ρ (av F (kA ρ h)) w i vi)(ha:oH ty t m i h=some (true,out)):
  cE F ρ h w nid out ((do pure (.value (←Instr.mapEntry t vm vi)):Sem Next).run P w):=by
 unfold oH at ha;split at ha
 ·rename_i kt et s0 b0 z0 id ht;split at ha
  ·rename_i k n ks vs tk te hid htk hte;split at ha
   ·rename_i l v hl hv;split at ha
    ·rename_i c hcol;obtain⟨hc,h2⟩:=gA ha;simp only[Option.some.injEq,Prod.mk.injEq,true_and]at h2;subst h2;obtain⟨hc1,hc2⟩:=wB hc;rw[hl]at hv;simp only at hv;obtain⟨hln,rfl⟩:=eZ hl hi;simp only[vA]at hm;obtain⟨b,hp,rfl⟩:=hm;obtain⟨_,_,hlen,es,clk,hb,hes,hent,hold,hapart,hstamp,hborn⟩:=hh.ownMap hid hp;rw[vl hlen]at hcol;obtain⟨hf1,hf2⟩:=z7 (P:=P) (w:=w) hty (k:=k) htk hc1 hln hes hent;have hu:=(hty _ _ ht).tk;simp only[xE]at hu;obtain⟨hu,i0,z,hi0,hz,hzp⟩:=hu;have hck:=bP (P:=P) (w:=w) hty (k:=k) htk hc1 false hln;have hzc:z.cells.toList=te.zero:=by
      obtain⟨i1,g1,_,_,z1,g2,g3⟩:=(hty _ _ hte).info;rw[hi0]at g1;simp only[Option.some.injEq]at g1;subst g1;rw[hz]at g2;simp only[Option.some.injEq]at g2;subst g2;exact g3
     have hzv:(Go.zeroValue et).run P w= .ok z w:=by simp[Go.zeroValue,Go.typeInfo,hi0,hz]
     have hlt:b<w.heap.size:=(hL.mp hb).1;have fin:∀(u:Value) es' clk',v= .c u→(Instr.mapEntry t (.map (some b)) (.agg (l.map (Value.int k)).toArray)).run P w= .ok (.tuple #[u,.int .i64 (lE l ks)]) {w with heap:=w.heap.setIfInBounds b (.map es' clk')}→es'.size=(yB l ks).length→
       (∀j,j<(yB l ks).length→((yB l ks).getD j []).length=n∧∃e,es'[j]?=some e∧e.key= .agg (((yB l ks).getD j []).map (Value.int k)).toArray∧e.val=iI c j)→(∀e∈es'.toList,e.born<clk')→(es'.toList.map (·.born)).Nodup→clk'=(yB l ks).length→(∀(j:Nat) (e:MapEntry),es'[j]?=some e→e.born=j)→c.len=(yB l ks).length→
       cE F ρ h w nid {val:=.tup [v,.c (.int .i64 (lE l ks))],wr:=[(id,.mp k n (yB l ks) c)],touch:=[id]} ((do pure (.value (←Instr.mapEntry t (.map (some b)) (.agg (l.map (Value.int k)).toArray))):Sem Next).run P w):=by
      intro u es' clk' r0 r1 r2 r3 r4 r5 r6 r7 p1;obtain⟨q1,q2⟩:=mA.writeMap (w':={w with heap:=w.heap.setIfInBounds b (.map es' clk')}) (x:=.mp k n (yB l ks) c) hh (by rw[hid];trivial) trivial hp ⟨by simp,⟨rfl,rfl,rfl,iB _⟩⟩
       (fun b' hb'=>(MapKept.heap_set hb).2 b' hb') (fun M' _=>⟨rfl,rfl,p1,b,es',clk',rfl,(MapKept.heap_set hb).1,r2,r3,r4,r5,r6,r7⟩)
      refine⟨.tuple #[u,.int .i64 (lE l ks)],_,ρ,.inl (by simp[r1]),nO.refl _,fun _ _=>rfl,q1,?_,q2⟩;simp only[vA];exact⟨_,rfl,by simp[lA,vA,r0]⟩
     cases hm:cF l ks 0 with
     |none=>
      have hvz:=gV hv hm hc2 hzc hzp;obtain⟨p1,p2,p3⟩:=nR (ρ:=ρ) (M:=av F (kA ρ h)) (w:=w) (vx:=z) hcol (by rw[hvz];exact vA.of_c _) hlen;obtain⟨q1,q2⟩:=p3 hm;have hK:yB l ks=ks++[l]:=by simp[yB,oQ,hm]
      have hS:lE l ks=(clk:Int):=by simp[lE,hm,hstamp]
      refine fin z (es.push {key:=.agg (l.map (Value.int k)).toArray,val:=z,born:=clk}) (clk+1) hvz ?_ ?_ ?_ ?_ ?_ (by rw[hK,hstamp];simp) (bf hborn (by rw[hstamp,hes])) p1
      ·simp only[Instr.mapEntry,zA,run_underlying hu,hA,MapKept.run_getObj_map hb,hck,hf1,hm,w4,hzv,MapKept.run_setObj_map _ hb,hB,hS];rfl
      ·simp[hK,hes]
      ·intro j hj;rw[hK]at hj⊢;simp only[List.length_append,l3]at hj;by_cases hj2:j<ks.length
       ·obtain⟨g1,e,g2,g3,g4⟩:=hent j hj2;have hg:(ks++[l]).getD j []=ks.getD j []:=by simp[iA,zB hj2]
        rw[hg];refine⟨g1,e,?_,g3,by rw[g4,q2 j hj2]⟩;rw[dQ,if_neg (by omega)];exact g2
       ·have:j=ks.length:=by omega
        subst this;have hg:(ks++[l]).getD ks.length []=l:=by simp[iA]
        rw[hg];exact⟨hln,_,by rw[dQ,if_pos hes.symm],rfl,q1.symm⟩
      ·intro e he;simp only[l4,List.mem_append,b4]at he;rcases he with he|rfl
       ·exact Nat.lt_succ_of_lt (hold e he)
       ·exact Nat.lt_succ_self _
      ·simp only[l4,y5,hN,u3];refine List.nodup_append.2 ⟨hapart,by simp,?_⟩;intro a ha b hb';simp only[b4]at hb';subst hb';obtain⟨x,hx,rfl⟩:=w3.1 ha;exact Nat.ne_of_lt (hold x hx)
     |some j0=>
      have hvz:=iV hv hm;obtain⟨hj0,hkj0⟩:=hf2 j0 hm;obtain⟨p1,p2,p3⟩:=nR (ρ:=ρ) (M:=av F (kA ρ h)) (w:=w) (vx:=iI vs j0) hcol (by rw[hvz];exact vA.of_c _) hlen;obtain⟨q1,q2⟩:=p2 j0 hm hj0;obtain⟨g1,e0,g2,g3,g4⟩:=hent j0 hj0;rw[hkj0]at g3;have hK:yB l ks=ks:=by simp[yB,oQ,hm]
      have hS:lE l ks=(j0:Int):=by simp[lE,hm]
      have hb0:=hborn j0 e0 g2;refine fin (iI vs j0) (es.modify j0 fun e=>{e with key:=.agg (l.map (Value.int k)).toArray}) clk hvz ?_ ?_ ?_ ?_ ?_ (by rw[hK,hstamp]) (zO hborn _ (fun _=>rfl)) p1
      ·simp only[Instr.mapEntry,zA,run_underlying hu,hA,MapKept.run_getObj_map hb,hck,hf1,hm,hY,g2,w5,g3,my,MapKept.run_setObj_map _ hb,hB,hS,hb0];rfl
      ·simp[hK,hes]
      ·intro j hj;rw[hK]at hj⊢;obtain⟨a1,e,a2,a3,a4⟩:=hent j hj;refine⟨a1,?_⟩;rw[xK];by_cases hjj:j0=j
       ·subst hjj;rw[if_pos rfl,g2];exact⟨_,rfl,by simp only[hkj0],by rw[q1];simp only;rw[g4]⟩
       ·rw[if_neg hjj];exact⟨e,a2,a3,by rw[a4,q2 j (Ne.symm hjj)]⟩
      ·intro e he;have hbm:(es.modify j0 fun e=>{e with key:=.agg (l.map (Value.int k)).toArray}).toList.map (·.born)=es.toList.map (·.born):=pZ _ _ _;have:=y4 (f:=(·.born)) he;rw[hbm]at this;obtain⟨y,hy,e1⟩:=w3.1 this;rw[←e1];exact hold y hy
      ·have hbm:(es.modify j0 fun e=>{e with key:=.agg (l.map (Value.int k)).toArray}).toList.map (·.born)=es.toList.map (·.born):=pZ _ _ _;rw[hbm];exact hapart
    ·cases ha
   ·cases ha
  ·cases ha
 ·cases ha
theorem ve {M:Nat→Prop}{q:Nat}{vs c:sO}{x:V}{vx:Value}(hc:vb q vs x=some c)(hx:vA ρ M w x vx):c.len=vs.len∧(q<vs.len→iI c q=vx)∧∀i,i≠q→iI c i=iI vs i:=by
 unfold vb at hc;split at hc
 ·obtain⟨h1,h2⟩:=gA hc;simp only[Option.some.injEq]at h2;subst h2;have:=dH h1;subst this;have:=hx.int;subst this;refine⟨by simp[sO.len],fun hq=>?_,fun i hi=>?_⟩
  ·simp only[sO.len]at hq;simp[iI,iA,hq]
  ·simp only[iI,iA,hW (Ne.symm hi)]
 ·simp only[Option.some.injEq]at hc;subst hc;have:=hx.c;subst this;refine⟨by simp[sO.len],fun hq=>?_,fun i hi=>?_⟩
  ·simp only[sO.len]at hq;simp[iI,iA,hq]
  ·simp only[iI,iA,hW (Ne.symm hi)]
 ·cases hc
theorem fY {t:TypeId}{m s x:V}{vm vs' vx:Value}{out:sH}(hh:mA F ρ h w)(hm:vA ρ (av F (kA ρ h)) w m vm)(hs:vA ρ (av F (kA ρ h)) w s vs')(hx:vA ρ (av F (kA ρ h)) w x vx)(ha:jH m s x h=some (true,out)):
  cE F ρ h w nid out ((do Instr.entryStore t vm vs' vx;pure .skip:Sem Next).run P w):=by
 unfold jH at ha;split at ha
 ·rename_i id q;split at ha
  ·rename_i k n ks vs hid;split at ha
   ·rename_i c hcol;simp only[Option.some.injEq,Prod.mk.injEq]at ha;obtain⟨hq,rfl⟩:=ha;obtain⟨hq1,hq2⟩:=wB hq;have hq1:=of_decide_eq_true hq1;have hq2:=of_decide_eq_true hq2;have:=hs.int;subst this;simp only[vA]at hm;obtain⟨b,hp,rfl⟩:=hm;obtain⟨_,_,hlen,es,clk,hb,hes,hent,hold,hapart,hstamp,hborn⟩:=hh.ownMap hid hp;obtain⟨p1,p2,p3⟩:=ve hcol hx;have hlt:q.toNat<es.size:=by omega
    have hfind:es.findIdx? (fun e=>(e.born:Int)==q)=some q.toNat:=by
     rw[Array.findIdx?_eq_some_iff_getElem];refine⟨hlt,?_,fun j hj=>?_⟩
     ·have:=hborn q.toNat _ (u0 hlt);simp only[this,beq_iff_eq];omega
     ·have hj2:j<es.size:=by omega
      have:=hborn j _ (u0 hj2);simp only[this,beq_iff_eq];omega
    have hrun:(Instr.entryStore t (.map (some b)) (.int .i64 q) vx).run P w= .ok () {w with heap:=w.heap.setIfInBounds b (.map (es.modify q.toNat fun e=>{e with val:=vx}) clk)}:=by
     have hai:(asInt (.int .i64 q)).run P w= .ok q w:=by simp[asInt,asIntOf]
     simp only[Instr.entryStore,zA,MapKept.run_getObj_map hb,hA,hai,hfind,MapKept.run_setObj_map _ hb]
    have hbm:(es.modify q.toNat fun e=>{e with val:=vx}).toList.map (·.born)=es.toList.map (·.born):=tu _ _ _;obtain⟨q1,q2⟩:=mA.writeMap (w':={w with heap:=w.heap.setIfInBounds b (.map (es.modify q.toNat fun e=>{e with val:=vx}) clk)}) (x:=.mp k n ks c) hh (by rw[hid];trivial) trivial hp ⟨by simp,⟨rfl,rfl,rfl,iB _⟩⟩
     (fun b' hb'=>(MapKept.heap_set hb).2 b' hb') (fun M' _=>⟨rfl,rfl,by rw[p1];exact hlen,b,_,clk,rfl,(MapKept.heap_set hb).1,by simpa using hes,fun j hj=>by
      obtain⟨a1,e,a2,a3,a4⟩:=hent j hj;refine⟨a1,?_⟩;rw[xK];by_cases hjj:q.toNat=j
      ·subst hjj;rw[if_pos rfl,a2];exact⟨_,rfl,a3,(p2 (by omega)).symm⟩
      ·rw[if_neg hjj];exact⟨e,a2,a3,by rw[a4,p3 j (Ne.symm hjj)]⟩,fun e he=>by
      have:=y4 (f:=(·.born)) he;rw[hbm]at this;obtain⟨y,hy,e1⟩:=w3.1 this;rw[←e1];exact hold y hy,by rw[hbm];exact hapart,hstamp,zO hborn _ (fun _=>rfl)⟩)
    exact⟨undef,_,ρ,.inr ⟨by simp[hrun],rfl⟩,nO.refl _,fun _ _=>rfl,q1,vA.of_c _,q2⟩
   ·cases ha
  ·cases ha
 ·cases ha
theorem mA.allocIt (hh:mA F ρ h w)(hn:ρ nid=none){id mb wE:Nat}(hp:ρ id=some ⟨some mb,0,0⟩)
  {w':World}(hkp:iH w w')(hw:w'.heap=w.heap.push (.mapIter (some mb) wE #[] wE)):
  mA F (vC ρ nid ⟨some w.heap.size,0,0⟩) (mB h nid (.it (some id) wE (List.range wE) wE)) w'∧uH (kA ρ h) w (kA (vC ρ nid ⟨some w.heap.size,0,0⟩) (mB h nid (.it (some id) wE (List.range wE) wE))) w':=by
 generalize hxe:rA.it (some id) wE (List.range wE) wE=x;have hnew:w'.heap[w.heap.size]?=some (.mapIter (some mb) wE #[] wE):=by rw[hw];simp
 have hold:∀b,b<w.heap.size→w'.heap[b]?=w.heap[b]?:=by
  intro b hb;rw[hw,dQ];split
  ·omega
  ·rfl
 have hsub:∀b,kA (vC ρ nid ⟨some w.heap.size,0,0⟩) (mB h nid x) b→kA ρ h b∨w.heap.size≤b:=by
  rintro b ⟨j,m,C,hp,hl⟩;unfold vC at hp;unfold mB at hl;split at hp
  ·simp only[Option.some.injEq,Pl.mk.injEq]at hp;obtain⟨h1,_⟩:=hp;exact .inr (by omega)
  ·rename_i hne;rw[if_neg hne]at hl;exact .inl ⟨j,m,C,hp,hl⟩
 have hext:uH (kA ρ h) w (kA (vC ρ nid ⟨some w.heap.size,0,0⟩) (mB h nid x)) w':=⟨by rw[hw];simp,fun b hb _=>hold b hb,hsub,hkp⟩
 refine⟨⟨iT hh.wf (iB _),?_,?_,hh.low' hext,hh.out' hext⟩,hext⟩
 ·intro j hl;by_cases hj:j=nid
  ·subst hj;refine⟨⟨some w.heap.size,0,0⟩,by simp[vC],?_⟩;have:mB h j x j=x:=by simp[mB]
   rw[this];subst hxe;have hid:id≠j:=by rintro rfl;rw[hn]at hp;cases hp
   refine⟨rfl,rfl,_,mb,#[],rfl,hnew,fun i hi=>?_,⟨List.nodup_range,fun i hi=>by simpa using hi,fun i hi=>by simp[hi],fun hc=>by omega⟩⟩;simp only[Option.some.injEq]at hi;subst hi;simp[vC,hid,hp]
  ·have h1:mB h nid x j=h j:=by simp[mB,hj]
   rw[h1]at hl⊢;obtain⟨p,hp,hb⟩:=hh.rel j hl;refine⟨p,by simp[vC,hj,hp],qB.mono (gF hn) hext hb ?_⟩;intro b hb';refine hold b ?_;obtain⟨pb,pn,pC⟩:=p;dsimp only at hb';subst hb';exact kA.lt hh ⟨j,pn,pC,hp,hl⟩
 ·intro i j b m C m' C' hi hj hpi hpj;have key:∀{l m C},(mB h nid x l).live→vC ρ nid ⟨some w.heap.size,0,0⟩ l=some ⟨some b,m,C⟩→l≠nid→(h l).live∧ρ l=some ⟨some b,m,C⟩∧b<w.heap.size:=by
   intro l m C hk hpk hne;have h1:mB h nid x l=h l:=by simp[mB,hne]
   have h2:vC ρ nid ⟨some w.heap.size,0,0⟩ l=ρ l:=by simp[vC,hne]
   rw[h1]at hk;rw[h2]at hpk;exact⟨hk,hpk,kA.lt hh ⟨l,m,C,hpk,hk⟩⟩
  have new:∀{m C},vC ρ nid ⟨some w.heap.size,0,0⟩ nid=some ⟨some b,m,C⟩→b=w.heap.size:=by intro m C hp;simp[vC]at hp;omega
  by_cases h1:i=nid<;>by_cases h2:j=nid
  ·rw[h1,h2]
  ·subst h1;have:=new hpi;have:=(key hj hpj h2).2.2;omega
  ·subst h2;have:=new hpj;have:=(key hi hpi h1).2.2;omega
  ·obtain⟨a1,a2,_⟩:=key hi hpi h1;obtain⟨b1,b2,_⟩:=key hj hpj h2;exact hh.inj i j b m C m' C' a1 b1 a2 b2
theorem As {t:Nat}{m:V}{vm:Value}{out:sH}(hty:bF P ty)(hh:mA F ρ h w)(hm:vA ρ (av F (kA ρ h)) w m vm)(ha:sU ty nid t m h=some (true,out))(hn1:out.new.length=1→ρ nid=none):
  cE F ρ h w nid out ((do pure (.value (←Instr.range t vm)):Sem Next).run P w):=by
 unfold sU at ha;split at ha
 ·rename_i kt et s0 b0 z0 id ht;split at ha
  ·rename_i k n ks vs hid;simp only[Option.some.injEq,Prod.mk.injEq,true_and]at ha;subst ha;simp only[vA]at hm;obtain⟨b,hp,rfl⟩:=hm;obtain⟨_,_,hlen,es,clk,hb,hent⟩:=hh.ownMap hid hp;have hst:=hent.stamp;subst hst;have hu:=(hty _ _ ht).tk;simp only[xE]at hu;have hrun:=run_range_map w t _ _ b es ks.length hu.1 hb;obtain⟨q1,q2⟩:=mA.allocIt (w':=w.alloc (.mapIter (some b) ks.length #[] ks.length)) hh (hn1 rfl) hp ⟨rfl,rfl,rfl,iB _⟩ rfl;refine⟨_,_,_,.inl (by rw[zA,hrun];rfl),gF (hn1 rfl),fun i hi=>?_,q1,?_,q2⟩
   ·simp at hi;have:i≠nid:=by omega
    simp[vC,this]
   ·simp only[vA];exact⟨_,0,0,by simp[vC],by omega,rfl⟩
  ·cases ha
 ·cases ha
theorem cn (k:IntKind)(l:List Int):∀(n off:Nat),off+n=l.length→tN k l off n=(l.drop off).map fun x=>V.c (.int k x)
 |0,off,h=>by simp[tN,List.drop_eq_nil_of_le (show l.length≤off by omega)]
 |n+1,off,h=>by simp only[tN];rw[cn k l n (off+1) (by omega),y3 (show off<l.length by omega),hN];rw[iA,zE (show off<l.length by omega),w5]
theorem zl {m:V}{vm:Value}{out:sH}(hh:mA F ρ h w)(hm:vA ρ (av F (kA ρ h)) w m vm)(ha:bU m h=some (true,out)):
  cE F ρ h w nid out ((do pure (.value (←Instr.entry vm)):Sem Next).run P w):=by
 unfold bU at ha;split at ha
 ·rename_i id ext;split at ha
  ·rename_i mid wE rem cur hid;split at ha
   ·rename_i k n ks vs hmid;simp only[Option.some.injEq,Prod.mk.injEq]at ha;obtain⟨hcb,rfl⟩:=ha;obtain⟨hcn0,hc0⟩:=wB hcb;have hcn:=vB hcn0;have hc:=dD hc0;subst hcn;simp only[vA]at hm;obtain⟨b,n',C',hp,_,rfl⟩:=hm;obtain⟨_,_,mb,seen,h1,h2,h6⟩:=hh.ownIt hid hp;obtain⟨_,_,hlen,es,clk,h4,h5⟩:=hh.ownMap hmid (h2 mid rfl);have hst:=h5.stamp;subst hst;obtain⟨g1,e,g2,g3,g4⟩:=h5.at_ cur hc;obtain⟨seen0,rfl⟩:=h6.last hc;have hborn:=h5.born cur e g2;have hrun:=run_entry_at (P:=P) w b mb ks.length seen0 es ks.length e (by rw[hborn];exact h1) h4 (by rw[s4];exact Array.mem_of_getElem? g2) h5.apart;refine cE.pure hh (v:=.tuple #[e.key,e.val]) (by rw[zA,hrun];rfl) ?_;simp only[vA];refine⟨_,rfl,?_⟩;simp only[lA,and_true];refine⟨?_,?_⟩
    ·rw[g3,cn k _ n 0 (by omega)];simp only[vA,List.drop_zero];exact⟨_,rfl,by simpa using lA.ints _⟩
    ·rw[g4];cases vs<;>simp[It,iI,vA]
   ·cases ha
  ·cases ha
 ·cases ha
theorem Fv {id ext:Nat}{vm:Value}(hh:mA F ρ h w)(hm:vA ρ (av F (kA ρ h)) w (.ptr id 0 ext) vm){k:IntKind}{n:Nat}{ks:List (List Int)}{vs:sO}{mid wE:Nat}{rem:List Nat}{cur:Nat}(hid:h id= .it (some mid) wE rem cur)(hmid:h mid= .mp k n ks vs)(hcn:ks.length=wE)(ty:TypeId):
  (rem=[]∧(Instr.next vm false ty).run P w= .ok (.tuple #[.bool false]) w)∨
  ∃p u1 u2 w',p<rem.length∧(Instr.next vm false ty).run P w= .ok (.tuple #[.bool true,u1,u2]) w'∧mA F ρ (mB h id (.it (some mid) wE (rem.eraseIdx p) (rem.getD p 0))) w'∧uH (kA ρ h) w (kA ρ (mB h id (.it (some mid) wE (rem.eraseIdx p) (rem.getD p 0)))) w':=by
 subst hcn;simp only[vA]at hm;obtain⟨b,n',C',hp,_,rfl⟩:=hm;obtain⟨hn0,hC0,mb,seen,h1,h2,h6⟩:=hh.ownIt hid hp;obtain⟨_,_,hlen,es,clk,h4,h5⟩:=hh.ownMap hmid (h2 mid rfl);have hst:=h5.stamp;subst hst;have hes:=h5.size;subst hn0;subst hC0;rcases run_next_at (P:=P) w ty b mb ks.length ks.length seen es ks.length h1 h4 h5.old (iB _)with⟨e0,hrun⟩|⟨e,he,w1,hal,hrun⟩
 ·left;refine⟨?_,hrun⟩;cases hr:rem with
  |nil=>rfl
  |cons j r=>
   exfalso;have hj:j∈rem:=by rw[hr];simp
   have hlt:=h6.lt j hj;have hlt2:j<es.size:=by omega
   have hg:es[j]?=some es[j]:=u0 hlt2;have hsj:=(h6.iff j hlt).1 hj;have hbj:=h5.born j _ hg;have hm:es[j]∈(leftOf es seen).toList:=by unfold leftOf;rw[s4,Array.mem_filter];exact⟨by simp,by rw[hbj,hsj];rfl⟩
   have:0<(leftOf es seen).toList.length:=List.length_pos_of_mem hm;simp at this;omega
 ·right;obtain⟨hem,hesn⟩:=mem_left he;obtain⟨j,hj⟩:=k6 hem;have hj':es[j]?=some e:=by simpa using hj
  have hjlt:j<ks.length:=by have:=(hL.mp hj').1;omega
  have hbe:=h5.born j e hj';rw[hbe]at hesn;have hjr:j∈rem:=(h6.iff j hjlt).2 hesn;obtain⟨p,hplt,hpj⟩:=List.getElem_of_mem hjr;have hpd:rem.getD p 0=j:=by simp[iA,hplt,hpj]
  have hw1:w1.heap=w.heap:=by rcases hal with rfl|rfl<;>rfl
  have hk1:iH w w1:=by
   rcases hal with rfl|rfl
   ·exact .refl _
   ·exact⟨rfl,rfl,rfl,a7 _⟩
  have h1':w1.heap[b]?=some (.mapIter (some mb) ks.length seen ks.length):=by rw[hw1];exact h1
  have hset:=MapKept.heap_set (o':=.mapIter (some mb) ks.length (seen.push e.born) ks.length) h1';have hleft:Hl ks.length (seen.push e.born) (rem.eraseIdx p) j:=by
   rw[hbe];refine⟨(a6 _ _).nodup h6.nodup,fun i hi=>h6.lt i ((a6 _ _).subset hi),fun i hi=>?_,fun _=>⟨seen,rfl⟩⟩;have hmem:i∈rem.eraseIdx p↔(i∈rem∧i≠j):=by
    rw[List.mem_eraseIdx_iff_getElem?];constructor
    ·rintro⟨q,hqp,hq⟩;refine⟨List.mem_of_getElem? hq,fun e1=>hqp ?_⟩;have hql:q<rem.length:=(l5.mp hq).1;refine(List.getElem?_inj hql h6.nodup).mp ?_;rw[hq,e1,zE hplt,hpj]
    ·rintro⟨hi1,hi2⟩;obtain⟨q,hq⟩:=k6 hi1;refine⟨q,fun e1=>hi2 ?_,hq⟩;rw[e1,zE hplt,hpj]at hq;exact(Option.some.inj hq).symm
   rw[hmem,h6.iff i hi];have hcp:(seen.push j).contains i=(seen.contains i||(i==j)):=by rw[Bool.eq_iff_iff];simp[Array.contains_iff_mem]
   rw[hcp,Bool.or_eq_false_iff];exact and_congr_right fun _=>by rw[beq_eq_false_iff_ne]
  obtain⟨q1,q2⟩:=mA.writeMap (w':=ChangeMaps.setBlock w1 b (.mapIter (some mb) ks.length (seen.push e.born) ks.length)) (x:=.it (some mid) ks.length (rem.eraseIdx p) (rem.getD p 0)) hh (by rw[hid];trivial) trivial hp ⟨by simp[ChangeMaps.setBlock,hw1],hk1.trans ⟨rfl,rfl,rfl,iB _⟩⟩
   (fun b' hb'=>by rw[show(ChangeMaps.setBlock w1 b (.mapIter (some mb) ks.length (seen.push e.born) ks.length)).heap[b']?=w1.heap[b']? from hset.2 b' hb',hw1])
   (fun M' hM'=>⟨rfl,rfl,b,mb,seen.push e.born,rfl,hset.1,h2,by rw[hpd];exact hleft⟩)
  exact⟨p,e.key,e.val,_,hplt,hrun,q1,q2⟩
end
section
variable {P:Program}{F:Nat→Prop}{ρ:sD}{h:Nat→rA}{w:World}{nid:Nat}{ty:Nat→Option TI}{ev:Operand→V}{ae:Operand→Value}{out:sH}{M:Nat→Prop}
theorem yI {y:V}{tc:List Nat}{v:Value}{s:Sem Value}(hh:mA F ρ h w)(hr:s.run P w= .ok v w)(hv:vA ρ (av F (kA ρ h)) w y v):cE F ρ h w nid {val:=y,touch:=tc} ((do pure (.value (←s)):Sem Next).run P w):=
 cE.pure hh (v:=v) (by simp[hr]) hv
theorem lA.map_ev (he:∀x,vA ρ M w (ev x) (ae x)):∀(xs:List Operand),lA ρ M w (xs.map ev) (xs.map ae)
 | []=>by simp[lA]
 |x::xs=>by simp only[hN,lA];exact⟨he x,lA.map_ev he xs⟩
theorem Ea (hh:mA F ρ h w){e:V}{k:IntKind}{s:Nat}{l:List Int}{kl:List Nat}(hr:dw h e=some (k,s,l,kl)):
  mA F ρ (vD h (kl.map fun i=>(i,rA.dead))) w∧uH (kA ρ h) w (kA ρ (vD h (kl.map fun i=>(i,rA.dead)))) w∧(∀id,¬(∃k l,h id= .ints k l)→vD h (kl.map fun i=>(i,rA.dead)) id=h id)∧bR e=true∧
  ∀u,vA ρ (av F (kA ρ h)) w e u→vA ρ (av F (kA ρ (vD h (kl.map fun i=>(i,rA.dead))))) w (.il k s l) u:=by
 unfold dw at hr;split at hr
 ·rename_i id s';split at hr
  ·rename_i k' l' hid;simp only[Option.some.injEq,Prod.mk.injEq]at hr;obtain⟨rfl,rfl,rfl,rfl⟩:=hr;obtain⟨q1,q2⟩:=hh.kill id;have e:vD h ([id].map fun i=>(i,rA.dead))=mB h id .dead:=rfl;rw[e];have hl:(h id).live:=by rw[hid];trivial
   refine⟨q1,q2,fun j hj=>?_,rfl,fun u hu=>?_⟩
   ·unfold mB;rw[if_neg];rintro rfl;exact hj ⟨_,_,hid⟩
   ·obtain⟨h0,⟨b,n,C,cap,c,h1,h2,h3,h4,h5,ho,hsz,hold⟩|⟨h1,h2,hk⟩⟩:=zF hh hu hl (by rw[hid];trivial)
    ·rw[hid]at hold;obtain⟨e1,e2,e3⟩:=hold;simp only[vA];refine⟨h0,by rw[e1];exact h2,.inr ⟨b,0,cap,by rw[e1];exact h5,by rw[e1];exact h3,ho.lt,?_,fun j hj=>?_⟩⟩
     ·rintro(hf|⟨id2,n2,C2,hp2,hl2⟩)
      ·exact hh.out b ⟨id,n,C,h1,hl⟩ hf
      ·have hne:id2≠id:=by
        rintro rfl;simp[mB,rA.live]at hl2
       have hl3:(h id2).live:=by simpa[mB,hne]using hl2
       exact hne (hh.inj id2 id b n2 C2 n C hl3 hl hp2 h1)
     ·rw[hP,ho.cell];exact e3 j hj
    ·rw[hid]at hk;rcases hk with⟨k2,hk⟩|hk|⟨_,_,hk⟩<;>cases hk;simp only[vA];exact⟨h0,by simp,.inl ⟨trivial,none,h2⟩⟩
  ·cases hr
 ·simp only[Option.some.injEq,Prod.mk.injEq]at hr;obtain⟨rfl,rfl,rfl,rfl⟩:=hr;exact⟨hh,uH.refl _ _,fun _ _=>rfl,rfl,fun u hu=>hu⟩
 ·cases hr
theorem qf:∀(a b:List (Nat×rA)) (h:Nat→rA),vD h (a++b)=vD (vD h a) b
 | [],b,h=>by funext j;rfl
 |(i,x)::a,b,h=>by funext j;simp only[s5,vD];rw[qf a b]
theorem qt {ts:Array TypeId}{e:Nat}{te:TI}(hat:Bn P ts e te)(hh:mA F ρ h w){d s:V}{vd vx:Value}(hd:vA ρ (av F (kA ρ h)) w d vd)(hx:vA ρ (av F (kA ρ h)) w s vx)
  (ha:fN te h nid d s=some (true,out))(hn1:out.new.length=1→ρ nid=none)(t':TypeId)(cs:Array Bool):
  cE F ρ h w nid out ((builtin .append ts t' cs [vd,vx].toArray).run P w):=by
 have run_eq:∀{v:Value} {w':World},(w0 ts t' #[vd,vx]).run P w= .ok v w'→(builtin .append ts t' cs [vd,vx].toArray).run P w= .ok (.value v) w':=by intro v w' h1;simp[builtin,h1]
 unfold fN at ha;split at ha
 ·rename_i ids w1;split at ha
  ·rename_i el hids;split at ha
   ·rename_i k s0 l kl hrow;obtain⟨hg,ha2⟩:=gA ha;clear ha;have ha:=ha2;obtain⟨hg1,hg2⟩:=wB hg;have hw1:=vB hg1;have hsz:=vB hg2;subst hw1;obtain⟨k1,k2,k3,k4,k5⟩:=Ea hh hrow;have hids1:vD h (kl.map fun i=>(i,rA.dead)) ids= .vals [el]:=by
     rw[k3 ids (by rw[hids];rintro⟨_,_,h⟩;cases h),hids]
    have hx1:=vA.mono (nO.refl ρ) k2 _ _ hx;have hs1:tJ (vD h (kl.map fun i=>(i,rA.dead))) 1 (.sw ids 1)=some ([el],[ids]):=by simp[tJ,ou,hids1,k4]
    obtain⟨m,us,m1,m2,m3,m4,m5⟩:=tP (P:=P) k1 (by omega) hx1 hs1;have hul:=m3.length;simp at m2 hul;subst m2;obtain⟨u,rfl⟩:∃u,us=[u]:=by
     cases us with
     |nil=>simp at hul
     |cons u r=>cases r with
      |nil=>exact⟨u,rfl⟩
      |cons _ _=>simp at hul
    obtain⟨m',us',n1,n2,n3,n4,n5⟩:=tP (P:=P) hh (by omega) hx (s:=1) (l:=[el]) (tc:=[ids]) (by simp[tJ,ou,hids,k4]);have hn5:=n5 w rfl;have hm5:=m5 w rfl;have hm':m'=1:=by simp at n2;exact n2.symm
    subst hm';rw[hm5]at hn5;have hue:us'=[u]:=by simpa using hn5.symm
    subst hue;simp only[lA]at n3;have hil:=k5 u n3.1;have hsrc:Hp P w te.size 1 vx [u]:=⟨m1,by rw[hsz];rfl,m4,by rw[hsz];exact m5⟩
    split at ha
    ·simp only[Option.some.injEq,Prod.mk.injEq]at ha;obtain⟨g1,g2⟩:=ha;have:=hd.c;subst this;subst g2;obtain⟨v,w',ρ',r1,r2,r3,r4,r5,r6⟩:=iN hat t' k1 (hn1 rfl) hsrc g1 (x:=.nl k s0 [l]) (fun e=>by cases e) (fun c a1 a2=>by
      refine⟨rfl,a1,?_⟩;have:c.toList.take 1=[u]:=by
       have h0:=a2 0 (by simp);cases c with|mk cl=>cases cl with
        |nil=>simp at h0
        |cons y r=>simpa using h0
      simp only[l3,this,hN,u3,lA];exact⟨hil,trivial⟩)
     rw[hsz]at r5;exact⟨v,w',ρ',.inl (run_eq r1),r2,fun id hid=>r3 id (by simp at hid;omega),r4,r5,k2.trans r6⟩
    ·rename_i id w2;split at ha
     ·rename_i k' w' jD hid;obtain⟨hq,ha2⟩:=gA ha;clear ha;have ha:=ha2;obtain⟨hq,hq3⟩:=wB hq;obtain⟨hq1,hq2⟩:=wB hq;have hq1:=dH hq1;have hq2:=vB hq2;have hq3:=vB hq3;subst hq1;subst hq2;subst hq3;simp only[Option.some.injEq,Prod.mk.injEq]at ha;obtain⟨g1,g2⟩:=ha;subst g2;have hd1:=vA.mono (nO.refl ρ) k2 _ _ hd;have hid1:vD h (kl.map fun i=>(i,rA.dead)) id= .nl k s0 jD:=by
       rw[k3 id (by rw[hid];rintro⟨_,_,h⟩;cases h),hid]
      have eo:∀x:rA,zL h nid {val:=.sw nid 1,wr:=(kl.map fun i=>(i,rA.dead))++[(id,.dead)],new:=[x],touch:=id::ids::kl}=mB (mB (vD h (kl.map fun i=>(i,rA.dead))) id .dead) nid x:=by intro x;unfold zL;rw[qf];rfl
      unfold cE;rw[eo];obtain⟨_,⟨b,n,C,cap,c,h1,h2,h3,h4,h5,ho,hszc,hold⟩|⟨h1,h2,hk⟩⟩:=zF k1 hd1 (by rw[hid1];trivial) (by rw[hid1];trivial)
      ·subst h5;rw[hid1]at hold;obtain⟨a1,a2,a3⟩:=hold;obtain⟨v,w',ρ',r1,r2,r3,r4,r5,r6⟩:=tX hat t' k1 (hn1 rfl) hsrc (by rw[hid1];trivial) h1 (by rw[hsz];exact h2) (by rw[hsz];exact h3) (by rw[hsz];exact h4) ho hszc (by omega) (by rw[hsz,y6];rw[←a1];exact g1) (x:=.nl k s0 (jD++[l])) (fun c' b1 b2 b3=>by
        refine⟨by simp;omega,b1,?_⟩;have e:c'.toList.take (n+ [u].length)=c.toList.take n++[u]:=by
         apply hT;intro j;by_cases hj:j<n+1
         ·rw[cD (by simpa using hj),yK];by_cases h:j<n
          ·rw[b2 j h,zB (by simp;omega),cD h,yK]
          ·have e:j=n:=by omega
           subst e;have h0:=b3 0 (by simp);rw[c4]at h0;have hlen:(c.toList.take j).length=j:=by simp;omega
           rw[h0,hD (by omega),hlen,y1]
         ·rw[hG (by simp;omega),hG (by simp;omega)]
        rw[e,y5];exact a3.append (by simp only[hN,u3,lA];exact⟨hil,trivial⟩))
       rw[hsz]at r5 r1;exact⟨v,w',ρ',.inl (run_eq r1),r2,fun id hid=>r3 id (by simp at hid;omega),r4,r5,k2.trans r6⟩
      ·rw[hid1]at hk;have hl:jD=[]:=by rcases hk with⟨_,hk⟩|hk|⟨_,_,hk⟩<;>cases hk;rfl
       subst hl;subst h2;obtain⟨z1,z2⟩:=k1.kill id;obtain⟨v,w',ρ',r1,r2,r3,r4,r5,r6⟩:=iN hat t' z1 (hn1 rfl) hsrc g1 (x:=.nl k s0 ([]++[l])) (fun e=>by cases e) (fun c a1 a2=>by
        refine⟨rfl,a1,?_⟩;have:c.toList.take 1=[u]:=by
         have h0:=a2 0 (by simp);cases c with|mk cl=>cases cl with
          |nil=>simp at h0
          |cons y r=>simpa using h0
        simp only[l3,this,List.nil_append,hN,u3,lA];exact⟨vA.mono (nO.refl ρ) z2 _ _ hil,trivial⟩)
       rw[hsz]at r5;exact⟨v,w',ρ',.inl (run_eq r1),r2,fun id hid=>r3 id (by simp at hid;omega),r4,r5,(k2.trans z2).trans r6⟩
     ·cases ha
    ·cases ha
   ·cases ha
  ·cases ha
 ·cases ha
theorem qu {ts:Array TypeId}{e:Nat}{te:TI}(hat:0<te.bytes→0<te.size→Bn P ts e te)(hh:mA F ρ h w){d s:V}{vd vx:Value}(hd:vA ρ (av F (kA ρ h)) w d vd)(hx:vA ρ (av F (kA ρ h)) w s vx)
  (ha:gN te h nid d s=some (true,out))(hn1:out.new.length=1→ρ nid=none)(t':TypeId)(cs:Array Bool):
  cE F ρ h w nid out ((builtin .append ts t' cs [vd,vx].toArray).run P w):=by
 have run_eq:∀{v:Value} {w':World},(w0 ts t' #[vd,vx]).run P w= .ok v w'→(builtin .append ts t' cs [vd,vx].toArray).run P w= .ok (.value v) w':=by intro v w' h1;simp[builtin,h1]
 unfold gN at ha;cases hbs:(Nat.blt 0 te.bytes&&Nat.blt 0 te.size)with
 |false=>simp[hbs]at ha
 |true=>
 simp only[hbs,Bool.not_true,cond_false]at ha;obtain⟨hb,hsz⟩:=wB hbs;have hb:=dD hb;have hsz:=dD hsz;have hat:=hat hb hsz;have fin0:∀{x:rA} {us:List Value} {m:Nat} {tc:List Nat},vd= .slice none 0 0→out={val:=.sw nid te.size,new:=[x],touch:=tc}→Hp P w te.size m vx us→jB m te.bytes=true→(us=[]→(∃k,x= .ints k [])∨x= .vals []∨(∃k s,x= .nl k s []))→
   (∀c:Array Value,us.length≤c.size→(∀j,j<us.length→c[j]?=us[j]?)→lD ρ (av F (kA ρ h)) w us.length c x)→cE F ρ h w nid out ((builtin .append ts t' cs [vd,vx].toArray).run P w):=by
  intro x us m tc hv hout hs hroom hx0 hxx;subst hout;obtain⟨v,w',ρ',r1,r2,r3,r4,r5,r6⟩:=iN hat t' hh (hn1 rfl) hs hroom hx0 hxx;subst hv;exact⟨v,w',ρ',.inl (run_eq r1),r2,fun id hid=>r3 id (by simp at hid;omega),r4,r5,r6⟩
 have fin1:∀{x:rA} {us:List Value} {m:Nat} {tc:List Nat} {id:Nat},vA ρ (av F (kA ρ h)) w (.sw id te.size) vd→(h id).live→(h id).flat→out={val:=.sw nid te.size,wr:=[(id,.dead)],new:=[x],touch:=tc}→Hp P w te.size m vx us→
   (∀n:Nat,(∀{c},lD ρ (av F (kA ρ h)) w n c (h id)→jB (n/te.size+m) te.bytes=true∧
    ∀c c':Array Value,lD ρ (av F (kA ρ h)) w n c (h id)→n+us.length≤c'.size→(∀j,j<n→c'[j]?=c[j]?)→(∀j,j<us.length→c'[n+j]?=us[j]?)→lD ρ (av F (kA ρ h)) w (n+us.length) c' x))→
   ((∃k,h id= .ints k [])∨h id= .vals []∨(∃k s,h id= .nl k s [])→jB m te.bytes=true∧(us=[]→(∃k,x= .ints k [])∨x= .vals []∨(∃k s,x= .nl k s []))∧(∀c:Array Value,us.length≤c.size→(∀j,j<us.length→c[j]?=us[j]?)→lD ρ (av F (kA ρ h)) w us.length c x))→
   cE F ρ h w nid out ((builtin .append ts t' cs [vd,vx].toArray).run P w):=by
  intro x us m tc id hrel hl hfl hout hs hrow hemp;subst hout;obtain⟨_,⟨b,n,C,cap,c,h1,h2,h3,h4,h5,ho,hszc,hold⟩|⟨h1,h2,hk⟩⟩:=zF hh hrel hl hfl
  ·obtain⟨q1,q2⟩:=hrow n hold;subst h5;obtain⟨v,w',ρ',r1,r2,r3,r4,r5,r6⟩:=tX hat t' hh (hn1 rfl) hs hl h1 h2 h3 h4 ho hszc (by have:=hold.le;omega) q1 (x:=x) (fun c' a1 a2 a3=>q2 c c' hold a1 a2 a3);exact⟨v,w',ρ',.inl (run_eq r1),r2,fun id hid=>r3 id (by simp at hid;omega),r4,r5,r6⟩
  ·obtain⟨q1,q2,q3⟩:=hemp hk;subst h2;obtain⟨k1,k2⟩:=hh.kill id;obtain⟨v,w',ρ',r1,r2,r3,r4,r5,r6⟩:=iN hat t' k1 (hn1 rfl) hs q1 q2 (fun c a1 a2=>(q3 c a1 a2).mono (nO.refl _) k2);exact⟨v,w',ρ',.inl (run_eq r1),r2,fun id hid=>r3 id (by simp at hid;omega),r4,r5,k2.trans r6⟩
 split at ha
 ·rename_i k hk;split at ha
  ·cases ha
  ·rename_i src tc hs;obtain⟨m,m1,m2,m3⟩:=pe (P:=P) hh hsz hx hs;have hsrc:Hp P w te.size m vx (src.map (Value.int k)):=⟨m1,by simpa using m2,s8 _,m3⟩
   have hcells:∀c:Array Value,(src.map (Value.int k)).length≤c.size→(∀j,j<(src.map (Value.int k)).length→c[j]?=(src.map (Value.int k))[j]?)→lD ρ (av F (kA ρ h)) w (src.map (Value.int k)).length c (.ints k src):=by intro c a1 a2;refine⟨by simp,a1,fun i hi=>?_⟩;rw[a2 i (by simpa using hi),vY k src hi]
   split at ha
   ·simp only[Option.some.injEq,Prod.mk.injEq]at ha;obtain⟨g1,g2⟩:=ha;rw[pE,m2,mD hsz]at g1;exact fin0 hd.c g2.symm hsrc g1 (fun e=>.inl ⟨k,by simp at e;rw[e]⟩) hcells
   ·rename_i id s1;split at ha
    ·rename_i k' l hid;obtain⟨h1,h2⟩:=gA ha;obtain⟨h3,h4⟩:=wB h1;have h3:=dH h3;have h4:=vB h4;subst h3;subst h4;simp only[Option.some.injEq,Prod.mk.injEq]at h2;obtain⟨g1,g2⟩:=h2;rw[pE]at g1;refine fin1 hd (by rw[hid];trivial) (by rw[hid];trivial) g2.symm hsrc (fun n {c} hc=>?_) (fun hk2=>?_)
     ·rw[hid]at hc;have e1:=hc.len;refine⟨by rw[e1,m2,c6 _ _ hsz]at g1;exact g1,fun c c' a0 a1 a2 a3=>?_⟩;rw[hid]at a0;exact a0.grow_ints (by simp) a1 a2 (fun j hj=>by rw[a3 j hj,vY k src (by simpa using hj)])
     ·rw[hid]at hk2;have hl:l=[]:=by rcases hk2 with⟨k2,hk2⟩|hk2|⟨_,_,hk2⟩<;>cases hk2;rfl
      subst hl;refine⟨by simpa[m2,mD hsz]using g1,fun e=>.inl ⟨k,by simp at e;rw[e];rfl⟩,by simpa using hcells⟩
    ·cases ha
   ·cases ha
 ·cases hsl:te.isSl<;>rw[hsl]at ha<;>simp only[cond_true,cond_false]at ha
  rotate_left
  ·exact qt hat hh hd hx ha hn1 t' cs
  split at ha
  ·cases ha
  ·rename_i src tc hs;obtain⟨m,us,m1,m2,m3,m4,m5⟩:=tP (P:=P) hh hsz hx hs;have hul:=m3.length;have hsrc:Hp P w te.size m vx us:=⟨m1,by omega,m4,m5⟩
   have hcells:∀c:Array Value,us.length≤c.size→(∀j,j<us.length→c[j]?=us[j]?)→lD ρ (av F (kA ρ h)) w us.length c (.vals src):=by
    intro c a1 a2;refine⟨hul,a1,?_⟩;have:c.toList.take us.length=us:=by
     apply hT;intro j;by_cases hj:j<us.length
     ·rw[cD hj,yK,a2 j hj]
     ·rw[hG (by simp;omega),hG (by omega)]
    rw[this];exact m3
   have hemp:us=[]→(∃k,rA.vals src= .ints k [])∨rA.vals src= .vals []∨(∃k s,rA.vals src= .nl k s []):=fun e=>.inr (.inl (by subst e;simp at hul;rw[hul]));split at ha
   ·simp only[Option.some.injEq,Prod.mk.injEq]at ha;obtain⟨g1,g2⟩:=ha;rw[pE,m2,mD hsz]at g1;exact fin0 hd.c g2.symm hsrc g1 hemp hcells
   ·rename_i id s1;split at ha
    ·rename_i l hid;obtain⟨h1,h2⟩:=gA ha;have h4:=vB h1;subst h4;simp only[Option.some.injEq,Prod.mk.injEq]at h2;obtain⟨g1,g2⟩:=h2;rw[pE]at g1;refine fin1 hd (by rw[hid];trivial) (by rw[hid];trivial) g2.symm hsrc (fun n {c} hc=>?_) (fun hk2=>?_)
     ·rw[hid]at hc;have e1:=hc.lenV;refine⟨by rw[e1,m2,c6 _ _ hsz]at g1;exact g1,fun c c' a0 a1 a2 a3=>?_⟩;rw[hid]at a0;exact a0.grow_vals m3 rfl a1 a2 a3
     ·rw[hid]at hk2;have hl:l=[]:=by rcases hk2 with⟨k2,hk2⟩|hk2|⟨_,_,hk2⟩<;>cases hk2;rfl
      subst hl;refine⟨by simpa[m2,mD hsz]using g1,by simpa using hemp,by simpa using hcells⟩
    ·cases ha
   ·cases ha
theorem D6 (k:IntKind)(a b:Int):Builtin.max2 (.int k a) (.int k b)=pure (.int k (tv a b)):=rfl
theorem D8 (k:IntKind)(a b:Int):Builtin.min2 (.int k a) (.int k b)=pure (.int k (H5 a b)):=rfl
theorem rb (hty:bF P ty)(hh:mA F ρ h w){b:Builtin}{ts:Array TypeId}{xs:List V}{vs:List Value}(hr:lA ρ (av F (kA ρ h)) w xs vs)(ha:mM ty nid b ts.toList xs h=some (true,out))(hn1:out.new.length=1→ρ nid=none)(t':TypeId)(cs:Array Bool):
  cE F ρ h w nid out ((builtin b ts t' cs vs.toArray).run P w):=by
 unfold mM at ha;split at ha
 ·
  rename_i x;split at ha
  ·rename_i t r hts;split at ha
   ·rename_i ti n tc ht hl;obtain⟨h1,h2⟩:=gA ha;simp only[Option.some.injEq,Prod.mk.injEq,true_and]at h2;subst h2;cases vs with
    |nil=>simp[lA]at hr
    |cons v vs=>
     cases vs with
     |cons _ _=>simp[lA]at hr
     |nil=>
      simp only[lA]at hr;have hts0:ts[0]?=some t:=by
       have:ts.toList[0]?=some t:=by rw[hts];rfl
       simpa using this
      have:=Hz (P:=P) hty hh ht hr.1 hl h1 ts hts0 t';exact cE.pure hh (v:=.int .i64 n) (by simp[builtin,this]) (vA.of_c _)
   ·cases ha
  ·cases ha
 ·obtain⟨x,r,v,h1,h2,h3⟩:=dd (P:=P) D6 ha hr;subst h1;subst h2;exact cE.pure hh (v:=v) (by simp[builtin,Builtin.max_,h3]) (vA.of_c _)
 ·obtain⟨x,r,v,h1,h2,h3⟩:=dd (P:=P) D8 ha hr;subst h1;subst h2;exact cE.pure hh (v:=v) (by simp[builtin,Builtin.min_,h3]) (vA.of_c _)
 ·
  rename_i d s;cases vs with
  |nil=>simp[lA]at hr
  |cons vd vs=>
   cases vs with
   |nil=>simp[lA]at hr
   |cons vx vs=>
    cases vs with
    |cons _ _=>simp[lA]at hr
    |nil=>
     simp only[lA]at hr;obtain⟨hd,hx,_⟩:=hr;split at ha
     ·rename_i t t2 r hts;have hts0:ts[0]?=some t:=by
       have:ts.toList[0]?=some t:=by rw[hts];rfl
       simpa using this
      have hts1:ts[1]?=some t2:=by
       have:ts.toList[1]?=some t2:=by rw[hts];rfl
       simpa using this
      split at ha
      ·rename_i e s0 b0 z0 tt2 ht ht2;have hu:=(hty _ _ ht).tk;simp only[xE]at hu;have key:((∃x,tt2.tk= .slice x)∨tt2.tk= .str)→(match ty e with|some ti=>gN ti h nid d s|none=>none)=some (true,out)→cE F ρ h w nid out ((builtin .append ts t' cs [vd,vx].toArray).run P w):=by
        intro htk2 ha;split at ha
        ·rename_i te hte;have hat:0<te.bytes→0<te.size→Bn P ts e te:=fun hb hs=>by
          refine⟨⟨t,hts0,hu⟩,?_,hty _ _ hte,hb,hs⟩;have hk2:=(hty _ _ ht2).tk;rcases htk2 with⟨x,htk2⟩|htk2<;>rw[htk2]at hk2<;>simp only[xE]at hk2
          ·exact⟨t2,_,hts1,hk2,.inl ⟨x,rfl⟩⟩
          ·exact⟨t2,_,hts1,hk2,.inr rfl⟩
         exact qu hat hh hd hx ha hn1 t' cs
        ·cases ha
       split at ha
       ·rename_i y hy;exact key (.inl ⟨y,hy⟩) ha
       ·rename_i hy;exact key (.inr hy) ha
       ·cases ha
      ·cases ha
     ·cases ha
 ·
  rename_i d s;cases vs with
  |nil=>simp[lA]at hr
  |cons vd vs=>
   cases vs with
   |nil=>simp[lA]at hr
   |cons vx vs=>
    cases vs with
    |cons _ _=>simp[lA]at hr
    |nil=>
     simp only[lA]at hr;obtain⟨hd,hx,_⟩:=hr;split at ha
     ·rename_i t r hts;have hts0:ts[0]?=some t:=by
       have:ts.toList[0]?=some t:=by rw[hts];rfl
       simpa using this
      split at ha
      ·rename_i e s0 b0 z0 ht;have hu:=(hty _ _ ht).tk;simp only[xE]at hu;split at ha
       ·rename_i te hte;unfold ll at ha;split at ha
        ·cases ha
        ·rename_i k hk;split at ha
         ·cases ha
         ·rename_i src tc hs;split at ha
          ·rename_i id s1;split at ha
           ·rename_i k' l hid;obtain⟨h1,h2⟩:=gA ha;obtain⟨h3,h4⟩:=wB h1;have h3:=dH h3;have h4:=vB h4;subst h3;subst h4;simp only[Option.some.injEq,Prod.mk.injEq,true_and]at h2;subst h2;exact Ff hty hh hts0 hu hte t' hk hs hx hd hid
           ·cases ha
          ·cases ha
       ·cases ha
      ·cases ha
     ·cases ha
 ·cases ha
theorem Hr (hty:bF P ty)(hh:mA F ρ h w)(he:∀x,vA ρ (av F (kA ρ h)) w (ev x) (ae x))(hn:∀id,nid≤id→id<nid+out.new.length→ρ id=none)(op:Op)(o:Oper)(hop:o.op=op)(ha:tO ty nid op ev h=some (true,out)):
  cE F ρ h w nid out ((execOp ae o).run P w):=by
 have hn1:out.new.length=1→ρ nid=none:=fun h=>hn nid (iB _) (by omega);unfold execOp;rw[hop];cases op
 case move x=>have:=kC ha;subst this;exact cE.pure hh rfl (he x)
 case assign x=>have:=kC ha;subst this;exact cE.pure hh rfl (he x)
 case pick c a b=>
  simp only[tO]at ha;split at ha
  ·rename_i b' hc;have:=kC ha;subst this;have h1:=he c;rw[hc]at h1;have:=h1.bool;exact cE.pure hh (v:=if b' then ae a else ae b) (by simp[this,asBool]) (G6 (he a) (he b))
  ·cases ha
 case alloc t=>
  simp only[tO]at ha;split at ha
  ·rename_i ti ht;simp only[Option.some.injEq,Prod.mk.injEq,true_and]at ha;subst ha;exact Bu (hty _ _ ht) hh (hn1 rfl)
  ·cases ha
 case box t x=>
  simp only[tO]at ha;split at ha
  ·rename_i ti ht;split at ha
   ·rename_i vs hvs;obtain⟨h1,h2⟩:=gA ha;simp only[Option.some.injEq,Prod.mk.injEq,true_and]at h2;subst h2;exact Hu hh (hn1 rfl) (he x) hvs (vB h1)
   ·cases ha
  ·cases ha
 case build t ps=>
  simp only[tO]at ha;split at ha
  ·rename_i ti ht;have key:∀cs,((∃fs,ti.tk= .struct fs∧fs.all (fun p=>(ty p.1).isSome)=true∧gK (wI ty fs) (tL ti) (ps.toList.map fun p=>(p.1,ev p.2))=some cs)∨
     (∃n e te,ti.tk= .arr n e∧ty e=some te∧gK (fun i=>some (i*te.size,te.size)) (tL ti) (ps.toList.map fun p=>(p.1,ev p.2))=some cs))→out={val:=.agg cs}→cE F ρ h w nid out ((do pure (.value (←Instr.build t (ps.map fun(i,x)=>(i,ae x)))):Sem Next).run P w):=by
    intro cs hb hout;subst hout;obtain⟨v,h1,h2⟩:=C0 (P:=P) hty ht he hb;exact yI (nid:=nid) (tc:=[]) hh h1 h2
   split at ha
   ·rename_i fs htk;obtain⟨h1,h2⟩:=gA ha;split at h2
    ·rename_i cs hf;exact key cs (.inl ⟨fs,htk,h1,hf⟩) (kC h2)
    ·cases h2
   ·rename_i n e htk;split at ha
    ·rename_i te hte;split at ha
     ·rename_i cs hf;exact key cs (.inr ⟨n,e,te,htk,hte,hf⟩) (kC ha)
     ·cases ha
    ·cases ha
   ·cases ha
  ·cases ha
 case buildSlice t len ps=>
  simp only[tO]at ha;split at ha
  ·rename_i e s0 b0 z0 ht;split at ha
   ·rename_i te hte;obtain⟨h1,h2⟩:=gA ha;split at h2
    ·rename_i cs hf;split at h2
     ·rename_i b hm;simp only[Option.some.injEq,Prod.mk.injEq,true_and]at h2;subst h2;exact q9 hty hh (hn1 rfl) he ht rfl hte h1 hf hm
     ·cases h2
    ·cases h2
   ·cases ha
  ·cases ha
 case load t a=>
  simp only[tO]at ha;cases ht:ty t with
  |none=>rw[ht]at ha;simp at ha
  |some ti=>rw[ht]at ha;obtain⟨y,tc,v,h1,h2,h3⟩:=Fs (P:=P) (y:=.poison) hty hh (he a) ht ha;subst h1;exact yI hh h2 h3
 case store t a x=>
  simp only[tO]at ha;split at ha
  ·rename_i ti id off ext ht hp;split at ha
   ·rename_i vs hvs;obtain⟨h1,h2⟩:=gA ha;obtain⟨h3,h4⟩:=wB h1;split at h2
    ·rename_i b hb;simp only[Option.some.injEq,Prod.mk.injEq,true_and]at h2;subst h2;have hx:=he a;rw[hp]at hx;exact Eg hty hh hx (he x) ht hvs (gG h3) (vB h4) hb
    ·cases h2
   ·cases ha
  ·cases ha
 case nilCheck x=>
  simp only[tO]at ha;have hx:=he x;split at ha
  ·rename_i id off ext hp;have:=kC ha;subst this;rw[hp]at hx;have hx':=hx;simp only[vA]at hx;obtain⟨b,n,C,_,_,hv⟩:=hx;exact cE.pure hh (v:=ae x) (by simp[hv]) hx'
  ·rename_i k l off ext hp;have:=kC ha;subst this;rw[hp]at hx;have hx':=hx;simp only[vA]at hx;obtain⟨b,o,hv,_⟩:=hx;exact cE.pure hh (v:=ae x) (by simp[hv]) hx'
  ·rename_i l off ext hp;have:=kC ha;subst this;rw[hp]at hx;have hx':=hx;simp only[vA]at hx;obtain⟨b,o,hv,_⟩:=hx;exact cE.pure hh (v:=ae x) (by simp[hv]) hx'
  ·cases ha
 case binOp op t x y t2=>simp only[tO]at ha;obtain⟨v,h1,h2⟩:=F7 (P:=P) hty x y ha (he x) (he y);subst h1;exact yI (tc:=[]) hh h2 (vA.of_c _)
 case unOp op t x=>simp only[tO]at ha;obtain⟨v,h1,h2⟩:=Ih (P:=P) ha (he x);subst h1;exact yI (tc:=[]) hh h2 (vA.of_c _)
 case convert s d x=>simp only[tO]at ha;exact Fc hty hh (he x) ha hn1
 case makeFunc fn first cap=>
  cases fn with
  |func f=>simp only[tO]at ha;have:=kC ha;subst this;refine cE.pure hh (v:=.func (.func f) (first.map ae) (cap.map ae)) (by simp[Instr.makeFunc]) ?_;simp only[vA];exact⟨_,_,rfl,by simpa using lA.map_ev he first.toList,by simpa using lA.map_ev he cap.toList⟩
  |_=>cases ha
 case makeSlice t l c=>
  simp only[tO]at ha;split at ha
  ·rename_i e s0 b0 z0 n m ht hl hc;split at ha
   ·rename_i te hte;split at ha
    ·rename_i k hk;obtain⟨h1,h2⟩:=gA ha;simp only[Option.some.injEq,Prod.mk.injEq]at h2;obtain⟨h3,h4⟩:=h2;subst h4;have e1:=he l;have e2:=he c;rw[hl]at e1;rw[hc]at e2;have:=e1.int;have:=e2.int;simp only[*];exact ik hty hh (hn1 rfl) ht rfl hte hk h1 h3
    ·cases ha
   ·cases ha
  ·cases ha
 case slice t x lo hi mx=>simp only[tO]at ha;obtain⟨y,tc,v,h1,h2,h3⟩:=B4 (P:=P) hty hh (he x) (fJ.of he) (fJ.of he) (fJ.of he) ha;subst h1;exact yI hh h2 h3
 case fieldAddr t x f=>
  simp only[tO]at ha;split at ha
  ·rename_i fs s0 b0 z0 ht;obtain⟨y,v,h1,h2,h3⟩:=gj (P:=P) hty ht rfl (he x) ha;subst h1;exact yI (tc:=[]) hh h2 h3
  ·cases ha
 case field t x f=>
  simp only[tO]at ha;split at ha
  ·rename_i fs s0 b0 z0 cs ht hp;split at ha
   ·rename_i t' fo hf;split at ha
    ·rename_i te hte;split at ha
     ·rename_i r hr;obtain⟨h1,h2⟩:=gA ha;have:=kC h2;subst this;have hx:=he x;rw[hp]at hx;obtain⟨v,h3,h4⟩:=Ci (P:=P) hty ht rfl hx hf hte (dD h1) hr;exact yI (tc:=[]) hh h3 h4
     ·cases ha
    ·cases ha
   ·cases ha
  ·cases ha
 case indexAddr t x i=>simp only[tO]at ha;obtain⟨y,tc,v,h1,h2,h3⟩:=sz (P:=P) hty hh (he x) (he i) ha;subst h1;exact yI hh h2 h3
 case index t x i=>simp only[tO]at ha;obtain⟨y,v,h1,h2,h3⟩:=tb (P:=P) hty (he x) (he i) ha;subst h1;exact yI (tc:=[]) hh h2 h3
 case extract t i=>
  simp only[tO]at ha;split at ha
  ·rename_i vs hp;split at ha
   ·rename_i v hv;have:=kC ha;subst this;have hx:=he t;rw[hp]at hx;obtain⟨u,h1,h2⟩:=sj (P:=P) hx hv;exact yI (tc:=[]) hh h1 h2
   ·cases ha
  ·cases ha
 case call c=>
  obtain⟨callee,args,ts⟩:=c;cases callee with
  |value f=>simp[tO]at ha
  |invoke r m=>simp[tO]at ha
  |builtin b=>
   simp only[tO]at ha;have hr:=rb (P:=P) hty hh (lA.map_ev he args.toList) ha hn1 o.type (args.map fun| .const _=>true|_=>false);have e1:(args.map ae)=(args.toList.map ae).toArray:=by apply Array.ext';simp
   simp only[resolve,zA,hB,hA,invoke,e1];exact hr
 case makeMap t r=>
  cases r with
  |some r=>cases ha
  |none=>exact nf hh ha hn1
 case range t x=>exact As hty hh (he x) ha hn1
 case entry x=>exact zl hh (he x) ha
 case lookup t m i ok=>exact tr hty hh (he m) (he i) ha
 case mapUpdate t m i x=>exact vQ hty hh (he m) (he i) (he x) ha
 case insert t m i x=>exact vQ hty hh (he m) (he i) (he x) ha
 case mapEntry t m i=>exact iq hty hh (he m) (he i) ha
 case entryStore t m s x=>exact fY hh (he m) (he s) (he x) ha
 all_goals cases ha
end
end Go.Proofs.YtjpdjdhdchjcgaaGreat.Ev
