import Derived.Test.YteaakcmkpacpaaaA2
import Derived.Test.YteaakcmkpacpaaaProg
import Derived.KernelRfl
import Derived.Shelf.SlSortCmp.NoneTotal
import Derived.Shelf.SlGeneric
open Array renaming getElem?_append_left→hA,eq_empty_of_size_eq_zero→hB,getElem?_modify→hI
open Bool renaming not_eq_false'→hC
open List renaming pairwise_cons→hD,length_cons→hE,getElem?_cons_succ→hG
set_option linter.unusedVariables false
set_option linter.unusedSimpArgs false
namespace Go.Proofs.Yteaakcmkpacpaaa
open Go.Proofs.Yteaakcmkpacpaaa.Ev
open Go
set_option maxRecDepth 100000
def zT:ByteArray:=⟨#[0,1,2,2,3,3,3,3,4,4,4,4,4,4,4,4,5,5,5,5,5,5,5,5,5,5,5,5,5,5,5,5,6,6,6,6,6,6,6,6,6,6,6,6,6,6,6,6,6,6,6,6,6,6,6,6,6,6,6,6,6,6,6,6,7,7,7,7,7,7,7,7,7,7,7,7,7,7,7,7,7,7,7,7,7,7,7,7,7,7,7,7,7,7,7,7,7,7,7,7,7,7,7,7,7,7,7,7,7,7,7,7,7,7,7,7,7,7,7,7,7,7,7,7,7,7,7,7,8,8,8,8,8,8,8,8,8,8,8,8,8,8,8,8,8,8,8,8,8,8,8,8,8,8,8,8,8,8,8,8,8,8,8,8,8,8,8,8,8,8,8,8,8,8,8,8,8,8,8,8,8,8,8,8,8,8,8,8,8,8,8,8,8,8,8,8,8,8,8,8,8,8,8,8,8,8,8,8,8,8,8,8,8,8,8,8,8,8,8,8,8,8,8,8,8,8,8,8,8,8,8,8,8,8,8,8,8,8,8,8,8,8,8,8,8,8,8,8,8,8,8,8,8,8,8,8]⟩
noncomputable def tn:TI:=⟨.int .i64,1,8,[.int .i64 0]⟩
noncomputable def Ey:TI:=⟨.int .u8,1,1,[.int .u8 0]⟩
noncomputable def Ez:TI:=⟨.str,1,16,[.string ByteArray.empty]⟩
noncomputable def dM:TI:=⟨.slice 129,1,24,[.slice none 0 0]⟩
noncomputable def qH:TI:=⟨.struct [(86,0)],1,24,[.slice none 0 0]⟩
noncomputable def cK:TI:=⟨.int .u64,1,8,[.int .u64 0]⟩
noncomputable def cI:TI:=⟨.int .u32,1,4,[.int .u32 0]⟩
theorem dA:Try.prog.follows .mixedOrders=true:=by kernel_rfl
theorem fI:fC Try.prog 3 tn:=lC (by kernel_rfl) (by kernel_rfl) (by kernel_rfl) (by kernel_rfl) (by kernel_rfl) (by kernel_rfl) (by kernel_rfl) (Try.underlying3) (by kernel_rfl)
theorem D4:fC Try.prog 5 Ey:=lC (by kernel_rfl) (by kernel_rfl) (by kernel_rfl) (by kernel_rfl) (by kernel_rfl) (by kernel_rfl) (by kernel_rfl) (Try.underlying5) (by kernel_rfl)
theorem D9:fC Try.prog 9 Ez:=lC (by kernel_rfl) (by kernel_rfl) (by kernel_rfl) (by kernel_rfl) (by kernel_rfl) (by kernel_rfl) (by kernel_rfl) (Try.underlying9) (by kernel_rfl)
theorem fE:fC Try.prog 86 dM:=lC (by kernel_rfl) (by kernel_rfl) (by kernel_rfl) (by kernel_rfl) (by kernel_rfl) (by kernel_rfl) (by kernel_rfl) (Try.underlying86) (by kernel_rfl)
theorem jC:fC Try.prog 88 qH:=lC (by kernel_rfl) (by kernel_rfl) (by kernel_rfl) (by kernel_rfl) (by kernel_rfl) (by kernel_rfl) (by kernel_rfl) (dL Try.underlying88 (by kernel_rfl) (by kernel_rfl)) (by kernel_rfl)
theorem tE:fC Try.prog 115 cK:=lC (by kernel_rfl) (by kernel_rfl) (by kernel_rfl) (by kernel_rfl) (by kernel_rfl) (by kernel_rfl) (by kernel_rfl) (Try.underlying115) (by kernel_rfl)
theorem vD:fC Try.prog 129 cI:=lC (by kernel_rfl) (by kernel_rfl) (by kernel_rfl) (by kernel_rfl) (by kernel_rfl) (by kernel_rfl) (by kernel_rfl) (Try.underlying129) (by kernel_rfl)
noncomputable def Q0.f (N:Nat)(a:Int):Option (Int):=
 bif decide (a≥65536)then
  bif decide ((Int.fdiv a (2^16))≥256)then
   bif (decide (0≤(iy (Int.fdiv (Int.fdiv a (2^16)) (2^8)))))&&(decide ((iy (Int.fdiv (Int.fdiv a (2^16)) (2^8)))<(zT.size:Int)))then
    some (aA (24+(aA (lL zT ((iy (Int.fdiv (Int.fdiv a (2^16)) (2^8))).toNat)))))
   else none
  else
  bif (decide (0≤(iy (Int.fdiv a (2^16)))))&&(decide ((iy (Int.fdiv a (2^16)))<(zT.size:Int)))then
   some (aA (16+(aA (lL zT ((iy (Int.fdiv a (2^16))).toNat)))))
  else none
 else
 bif decide (a≥256)then
  bif (decide (0≤(iy (Int.fdiv a (2^8)))))&&(decide ((iy (Int.fdiv a (2^8)))<(zT.size:Int)))then
   some (aA (8+(aA (lL zT ((iy (Int.fdiv a (2^8))).toNat)))))
  else none
 else
 bif (decide (0≤(iy a)))&&(decide ((iy a)<(zT.size:Int)))then
  some (aA (0+(aA (lL zT ((iy a).toNat)))))
 else none
noncomputable def Q0.E (N:Nat):rC:=yE [(3,tn),(5,Ey),(9,Ez),(129,cI)] [] [] [] N [.tmp 2] [.any] 0 19
noncomputable def Q0.dec (v:V)(bs:List mA):Option (Int):=match v,bs with
 | .c (.int .i64 a),[]=>some a
 |_,_=>none
theorem Q0.f_eq (N:Nat)(a:Int):
  bB (Q0.E N) (bo Try.f93) [.c (.int .u32 a)] [] Q0.dec=Q0.f N a:=by kernel_rfl
noncomputable def Q0.ent (N:Nat):wA:=eF (Int) 0 [true] [.any] fun
 | [.c (.int .u32 a)]=>some (Q0.f N a,fun r=>.one (.c (.int .i64 r)) [])
 |_=>none
theorem Q0.env (N:Nat):aB Try.prog (Q0.E N):=⟨(.cons fI (.cons D4 (.cons D9 (.cons vD .nil)))),.nil⟩
theorem Q0.spec (N:Nat)(a r:Int)(h:Q0.f N a=some r):iA Try.prog 93 [.c (.int .u32 a)] [] (.c (.int .i64 r)) ([]):=sA (Q0.env N) dA Try.func93 cA.n ((Q0.f_eq ..).trans h) fun v b e=>by unfold Q0.dec at e;split at e<;>cases e;exact⟨rfl,rfl⟩
theorem Q0.ent_ok (N:Nat):oA Try.prog 93 (Q0.ent N):=xA fun v a e h=>by split at h;exact eC (Q:=fun e=>iA _ _ _ _ (e a).pick.1 (e a).pick.2) h fun k=>Q0.spec N _ a k;cases h
noncomputable def Q1.f (N:Nat)(a b c:Int):Option (Int×Int):=
 some (uE ((uE (a-b))-c),Int.fdiv (mE .u32 (qD .u32 (gU .u32 4294967295 a) b) (qD .u32 (gU .u32 4294967295 (gU .u32 a b)) (uE ((uE (a-b))-c)))) (2^31))
noncomputable def Q1.E (N:Nat):rC:=yE [] [] [] [] N [.tmp 6,.tmp 7] [.any,.any] 0 25
noncomputable def Q1.dec (v:V)(bs:List mA):Option (Int×Int):=match v,bs with
 | .tup [.c (.int .u32 a),.c (.int .u32 b)],[]=>some (a,b)
 |_,_=>none
theorem Q1.f_eq (N:Nat)(a b c:Int):
  bB (Q1.E N) (bo Try.f125) [.c (.int .u32 a),.c (.int .u32 b),.c (.int .u32 c)] [] Q1.dec=Q1.f N a b c:=by kernel_rfl
noncomputable def Q1.ent (N:Nat):wA:=eF (Int×Int) 0 [true,true,true] [.any,.any,.any] fun
 | [.c (.int .u32 a),.c (.int .u32 b),.c (.int .u32 c)]=>some (Q1.f N a b c,fun r=>.one (.tup [.c (.int .u32 r.1),.c (.int .u32 r.2)]) [])
 |_=>none
theorem Q1.env (N:Nat):aB Try.prog (Q1.E N):=⟨.nil,.nil⟩
theorem Q1.spec (N:Nat)(a c d:Int)(r:Int×Int)(h:Q1.f N a c d=some r):iA Try.prog 125 [.c (.int .u32 a),.c (.int .u32 c),.c (.int .u32 d)] [] (.tup [.c (.int .u32 r.1),.c (.int .u32 r.2)]) ([]):=sA (Q1.env N) dA Try.func125 cA.n ((Q1.f_eq ..).trans h) fun v b e=>by unfold Q1.dec at e;split at e<;>cases e;exact⟨rfl,rfl⟩
theorem Q1.ent_ok (N:Nat):oA Try.prog 125 (Q1.ent N):=xA fun v a e h=>by split at h;exact eC (Q:=fun e=>iA _ _ _ _ (e a).pick.1 (e a).pick.2) h fun k=>Q1.spec N _ _ _ a k;cases h
noncomputable def Q2.l2 {R:Type}(N:Nat):Nat→Nat→Nat→Int→List Int→(Nat→Nat→Int→List Int→Option R)→Option R
 |0,_,_,_,_,_=>none
 |n+1,b,c,a,d,e=>
  bif decide (a>0)then
   bif (decide (0≤(aA (a-1))))&&(decide ((aA (a-1))<(c:Int)))then
    bif (d.getD (b+((aA (a-1)).toNat)) 0)==0 then
     Q2.l2 N n b c (aA (a-1)) d e
    else
    e b c a d
   else none
  else
  e b c a d
noncomputable def Q2.f (N f e:Nat)(g:List Int):Option (Nat×Nat×List Int):=
 Q2.l2 N N f e (e:Int) g
  (fun b c a d=>
   bif ((decide (0≤a))&&(decide (a≤a)))&&(decide (a≤(c:Int)))then
    some (b,a.toNat,d)
   else none)
noncomputable def Q2.h2:bD:=⟨[(0,.any),(2,.box [.any]),(3,.any)],[(0,.any),(2,.box [.any]),(3,.any)]⟩
noncomputable def Q2.c2 (N:Nat):iI:=⟨fun vs H k=>match vs,H with
 | [.sl 0 1 c d,.ptr 1 0 1,.c (.int .i64 e)],[.ints .u32 f,.vals [.c (.slice none 0 0)]]=>Q2.l2 N N c d e f (fun g h a b=>k (.exit 0) ⟨yC Q2.h2.out [.sl 0 1 g h,.ptr 1 0 1,.c (.int .i64 a)],[.ints .u32 b,.vals [.c (.slice none 0 0)]]⟩)
 |_,_=>none⟩
noncomputable def Q2.E (N:Nat):rC:=yE [(86,dM),(88,qH),(129,cI)] [] [(2,Q2.h2)] [(2,Q2.c2 N)] N [.cell 2 88] [.recd [.any]] 1 23
noncomputable def Q2.b2:Code:=qA ((fA (bo Try.f92)).getD 0 .skip)
theorem Q2.l2_eq {R:Type}(N n c d:Nat)(e:Int)(f:List Int)(k:Ex→St→Option R):
  iB 1 Q2.h2 (fun s k=>eB (Q2.E N) 395 Q2.b2 s k) n [.sl 0 1 c d,.ptr 1 0 1,.c (.int .i64 e)] [.ints .u32 f,.vals [.c (.slice none 0 0)]] k=Q2.l2 N n c d e f (fun g h a b=>k (.exit 0) ⟨yC Q2.h2.out [.sl 0 1 g h,.ptr 1 0 1,.c (.int .i64 a)],[.ints .u32 b,.vals [.c (.slice none 0 0)]]⟩):=by
 induction n generalizing c d e f with
 |zero=>kernel_rfl
 |succ n ih=>
  simp only[Q2.l2,←ih]
  kernel_rfl
noncomputable def Q2.dec (v:V)(bs:List mA):Option (Nat×Nat×List Int):=match v,bs with
 | .agg [.sl 0 1 a b],[.ints .u32 c]=>some (a,b,c)
 |_,_=>none
theorem Q2.f_eq (N a b:Nat)(c:List Int):
  bB (Q2.E N) (bo Try.f92) [.sl 0 1 a b] [.ints .u32 c] Q2.dec=Q2.f N a b c:=by kernel_rfl
noncomputable def Q2.ent (N:Nat):wA:={A:=Nat×Nat×List Int,fresh:=0,imm:=[false],dec:=fun args bs=>match mJ (nA bs) [true] args,bs with
 | [.sl 0 1 a b],[.ints .u32 c]=>some (Q2.f N a b c,fun r=>.one (.agg [.sl 0 1 r.1 r.2.1]) [.ints .u32 r.2.2])
 |_,_=>none}
theorem Q2.env (N:Nat):aB Try.prog (Q2.E N):=⟨(.cons fE (.cons jC (.cons vD .nil))),.nil⟩
theorem Q2.k2 (N:Nat):xB Try.prog Try.f92 (Q2.E N) (.loop Q2.b2):=tC (Q2.env N) dA 395 (c:=Q2.c2 N) cA.n fun R vs H k r h=>by unfold Q2.c2 at h;dsimp only at h;split at h;exact⟨_,Q2.l2_eq .. ▸h⟩;cases h
theorem Q2.spec (N a c:Nat)(d:List Int)(r:Nat×Nat×List Int)(h:Q2.f N a c d=some r):iA Try.prog 92 [.sl 0 1 a c] [.ints .u32 d] (.agg [.sl 0 1 r.1 r.2.1]) ([.ints .u32 r.2.2]):=sA (Q2.env N) dA Try.func92 (cA.of (l:=[(.loop (qA ((fA (bo Try.f92)).getD 0 .skip)))]) (by kernel_rfl) (cA.cons (Q2.k2 N) cA.nil)) ((Q2.f_eq ..).trans h) fun v b e=>by unfold Q2.dec at e;split at e<;>cases e;exact⟨rfl,rfl⟩
theorem Q2.ent_ok (N:Nat):oA Try.prog 92 (Q2.ent N):=by
 intro args bs a enc h;simp only[Q2.ent]at h;split at h
 ·rename_i hz;have h0:=Option.some.inj h;have h1:=congrArg Prod.fst h0;have h2:=congrArg Prod.snd h0;dsimp only at h1 h2;subst h2;exact iA.of_asSl (fl:=[true]) (by rw[hz];exact Q2.spec N _ _ _ a h1)
 ·cases h
noncomputable def Q3.f (N:Nat)(a:List Int):Option (Int):=
 bif (a.length:Int)==0 then
  some 0
 else
 bif (decide (0≤(aA ((a.length:Int)-1))))&&(decide ((aA ((a.length:Int)-1))<(a.length:Int)))then
  (Q0.f N (a.getD ((aA ((a.length:Int)-1)).toNat) 0)).bind fun b=>
  some (aA ((aA (32*(aA ((a.length:Int)-1))))+b))
 else none
noncomputable def Q3.E (N:Nat):rC:=yE [(86,dM),(88,qH),(129,cI)] [(93,Q0.ent N)] [] [] N [.tmp 2] [.any] 0 22
noncomputable def Q3.dec (v:V)(bs:List mA):Option (Int):=match v,bs with
 | .c (.int .i64 a),[]=>some a
 |_,_=>none
theorem Q3.f_eq (N:Nat)(a:List Int):
  bB (Q3.E N) (bo Try.f77) [.agg [.il .u32 1 a]] [] Q3.dec=Q3.f N a:=by kernel_rfl
noncomputable def Q3.ent (N:Nat):wA:=eF (Int) 0 [true] [.recd [.il .u32 1]] fun
 | [.agg [.il .u32 1 a]]=>some (Q3.f N a,fun r=>.one (.c (.int .i64 r)) [])
 |_=>none
theorem Q3.env (N:Nat):aB Try.prog (Q3.E N):=⟨(.cons fE (.cons jC (.cons vD .nil))),(.cons (Q0.ent_ok N) .nil)⟩
theorem Q3.spec (N:Nat)(a:List Int)(r:Int)(h:Q3.f N a=some r):iA Try.prog 77 [.agg [.il .u32 1 a]] [] (.c (.int .i64 r)) ([]):=sA (Q3.env N) dA Try.func77 cA.n ((Q3.f_eq ..).trans h) fun v b e=>by unfold Q3.dec at e;split at e<;>cases e;exact⟨rfl,rfl⟩
theorem Q3.ent_ok (N:Nat):oA Try.prog 77 (Q3.ent N):=xA fun v a e h=>by split at h;exact eC (Q:=fun e=>iA _ _ _ _ (e a).pick.1 (e a).pick.2) h fun k=>Q3.spec N _ a k;cases h
noncomputable def Q4.f (N:Nat)(a:List Int):Option (List Int×Int):=
 (Q3.f N a).bind fun b=>
 bif decide (b>4096)then
  some ([],3)
 else
 some (a,0)
noncomputable def Q4.E (N:Nat):rC:=yE [(86,dM),(88,qH)] [(77,Q3.ent N)] [] [] N [.cell 2 88,.tmp 3] [.recd [.il .u32 1],.any] 0 9
noncomputable def Q4.dec (v:V)(bs:List mA):Option (List Int×Int):=match v,bs with
 | .tup [.agg [.il .u32 1 a],.c (.int .i64 b)],[]=>some (a,b)
 |_,_=>none
theorem Q4.f_eq (N:Nat)(a:List Int):
  bB (Q4.E N) (bo Try.f122) [.agg [.il .u32 1 a]] [] Q4.dec=Q4.f N a:=by kernel_rfl
noncomputable def Q4.ent (N:Nat):wA:=eF (List Int×Int) 0 [true] [.recd [.il .u32 1]] fun
 | [.agg [.il .u32 1 a]]=>some (Q4.f N a,fun r=>.one (.tup [.agg [.il .u32 1 r.1],.c (.int .i64 r.2)]) [])
 |_=>none
theorem Q4.env (N:Nat):aB Try.prog (Q4.E N):=⟨(.cons fE (.cons jC .nil)),(.cons (Q3.ent_ok N) .nil)⟩
theorem Q4.spec (N:Nat)(a:List Int)(r:List Int×Int)(h:Q4.f N a=some r):iA Try.prog 122 [.agg [.il .u32 1 a]] [] (.tup [.agg [.il .u32 1 r.1],.c (.int .i64 r.2)]) ([]):=sA (Q4.env N) dA Try.func122 cA.n ((Q4.f_eq ..).trans h) fun v b e=>by unfold Q4.dec at e;split at e<;>cases e;exact⟨rfl,rfl⟩
theorem Q4.ent_ok (N:Nat):oA Try.prog 122 (Q4.ent N):=xA fun v a e h=>by split at h;exact eC (Q:=fun e=>iA _ _ _ _ (e a).pick.1 (e a).pick.2) h fun k=>Q4.spec N _ a k;cases h
noncomputable def Q5.f (N:Nat)(b:Int):Option (List Int):=
 (Q2.f N 0 2 [uE b,uE (Int.fdiv b (2^32))]).bind fun a=>
 some ((a.2.2.drop a.1).take a.2.1)
noncomputable def Q5.E (N:Nat):rC:=yE [(86,dM),(88,qH),(115,cK),(129,cI)] [(92,Q2.ent N)] [] [] N [.cell 2 88] [.recd [.il .u32 1]] 0 10
noncomputable def Q5.dec (v:V)(bs:List mA):Option (List Int):=match v,bs with
 | .agg [.il .u32 1 a],[]=>some a
 |_,_=>none
theorem Q5.f_eq (N:Nat)(a:Int):
  bB (Q5.E N) (bo Try.f76) [.c (.int .u64 a)] [] Q5.dec=Q5.f N a:=by kernel_rfl
noncomputable def Q5.ent (N:Nat):wA:=eF (List Int) 0 [true] [.any] fun
 | [.c (.int .u64 a)]=>some (Q5.f N a,fun r=>.one (.agg [.il .u32 1 r]) [])
 |_=>none
theorem Q5.env (N:Nat):aB Try.prog (Q5.E N):=⟨(.cons fE (.cons jC (.cons tE (.cons vD .nil)))),(.cons (Q2.ent_ok N) .nil)⟩
theorem Q5.spec (N:Nat)(a:Int)(r:List Int)(h:Q5.f N a=some r):iA Try.prog 76 [.c (.int .u64 a)] [] (.agg [.il .u32 1 r]) ([]):=sA (Q5.env N) dA Try.func76 cA.n ((Q5.f_eq ..).trans h) fun v b e=>by unfold Q5.dec at e;split at e<;>cases e;exact⟨rfl,rfl⟩
theorem Q5.ent_ok (N:Nat):oA Try.prog 76 (Q5.ent N):=xA fun v a e h=>by split at h;exact eC (Q:=fun e=>iA _ _ _ _ (e a).pick.1 (e a).pick.2) h fun k=>Q5.spec N _ a k;cases h
noncomputable def Q6.f (N:Nat)(a:List Int):Option (Int×Bool):=
 bif (a.length:Int)==0 then
  some (0,true)
 else
 bif (a.length:Int)==1 then
  bif decide (0<(a.length:Int))then
   some (pA (a.getD 0 0),true)
  else none
 else
 bif (a.length:Int)==2 then
  bif decide (1<(a.length:Int))then
   bif decide (0<(a.length:Int))then
    some (mE .u64 (pA ((pA (a.getD 1 0))*2^32)) (pA (a.getD 0 0)),true)
   else none
  else none
 else
 some (0,false)
noncomputable def Q6.E (N:Nat):rC:=yE [(86,dM),(88,qH),(115,cK),(129,cI)] [] [] [] N [.tmp 2,.tmp 3] [.any,.any] 0 30
noncomputable def Q6.dec (v:V)(bs:List mA):Option (Int×Bool):=match v,bs with
 | .tup [.c (.int .u64 a),.c (.bool b)],[]=>some (a,b)
 |_,_=>none
theorem Q6.f_eq (N:Nat)(a:List Int):
  bB (Q6.E N) (bo Try.f78) [.agg [.il .u32 1 a]] [] Q6.dec=Q6.f N a:=by kernel_rfl
noncomputable def Q6.ent (N:Nat):wA:=eF (Int×Bool) 0 [true] [.recd [.il .u32 1]] fun
 | [.agg [.il .u32 1 a]]=>some (Q6.f N a,fun r=>.one (.tup [.c (.int .u64 r.1),.c (.bool r.2)]) [])
 |_=>none
theorem Q6.env (N:Nat):aB Try.prog (Q6.E N):=⟨(.cons fE (.cons jC (.cons tE (.cons vD .nil)))),.nil⟩
theorem Q6.spec (N:Nat)(a:List Int)(r:Int×Bool)(h:Q6.f N a=some r):iA Try.prog 78 [.agg [.il .u32 1 a]] [] (.tup [.c (.int .u64 r.1),.c (.bool r.2)]) ([]):=sA (Q6.env N) dA Try.func78 cA.n ((Q6.f_eq ..).trans h) fun v b e=>by unfold Q6.dec at e;split at e<;>cases e;exact⟨rfl,rfl⟩
theorem Q6.ent_ok (N:Nat):oA Try.prog 78 (Q6.ent N):=xA fun v a e h=>by split at h;exact eC (Q:=fun e=>iA _ _ _ _ (e a).pick.1 (e a).pick.2) h fun k=>Q6.spec N _ a k;cases h
noncomputable def Q7.l6 {R:Type}(N:Nat):Nat→Int→List Int→List Int→(Unit→Option R)→(Int→Option R)→Option R
 |0,_,_,_,_,_=>none
 |n+1,a,b,c,d,kr=>
  bif decide (a≥0)then
   bif (decide (0≤a))&&(decide (a<(b.length:Int)))then
    bif (decide (0≤a))&&(decide (a<(c.length:Int)))then
     bif decide ((b.getD a.toNat 0)<(c.getD a.toNat 0))then
      kr (-1)
     else
     bif (decide (0≤a))&&(decide (a<(b.length:Int)))then
      bif (decide (0≤a))&&(decide (a<(c.length:Int)))then
       bif decide ((b.getD a.toNat 0)>(c.getD a.toNat 0))then
        kr 1
       else
       Q7.l6 N n (aA (a-1)) b c d kr
      else none
     else none
    else none
   else none
  else
  d ()
noncomputable def Q7.f (N:Nat)(a b:List Int):Option (Int):=
 bif (a.length:Int) != (b.length:Int)then
  bif decide ((a.length:Int)<(b.length:Int))then
   some (-1)
  else
  some 1
 else
 Q7.l6 N N (aA ((a.length:Int)-1)) a b
  (fun(_:Unit)=>
   some 0)
  (fun c=>
   some c)
noncomputable def Q7.h6:bD:=⟨[(2,.box [.il .u32 1]),(3,.box [.il .u32 1]),(5,.any)],[]⟩
noncomputable def Q7.c6 (N:Nat):iI:=⟨fun vs H k=>match vs,H with
 | [.ptr 0 0 1,.ptr 1 0 1,.c (.int .i64 a)],[.vals [.il .u32 1 b],.vals [.il .u32 1 c]]=>Q7.l6 N N a b c (fun(_:Unit)=>k (.exit 0) ⟨yC Q7.h6.out [],[]⟩) (fun d=>k (.ret (.c (.int .i64 d)) []) .nil)
 |_,_=>none⟩
noncomputable def Q7.E (N:Nat):rC:=yE [(86,dM),(88,qH),(129,cI)] [] [(6,Q7.h6)] [(6,Q7.c6 N)] N [.tmp 4] [.any] 0 52
noncomputable def Q7.b6:Code:=qA ((fA (bo Try.f105)).getD 0 .skip)
theorem Q7.l6_eq {R:Type}(N n:Nat)(a:Int)(b c:List Int)(k:Ex→St→Option R):
  iB 0 Q7.h6 (fun s k=>eB (Q7.E N) 394 Q7.b6 s k) n [.ptr 0 0 1,.ptr 1 0 1,.c (.int .i64 a)] [.vals [.il .u32 1 b],.vals [.il .u32 1 c]] k=Q7.l6 N n a b c (fun(_:Unit)=>k (.exit 0) ⟨yC Q7.h6.out [],[]⟩) (fun d=>k (.ret (.c (.int .i64 d)) []) .nil):=by
 induction n generalizing a b c with
 |zero=>kernel_rfl
 |succ n ih=>
  simp only[Q7.l6,←ih]
  kernel_rfl
noncomputable def Q7.dec (v:V)(bs:List mA):Option (Int):=match v,bs with
 | .c (.int .i64 a),[]=>some a
 |_,_=>none
theorem Q7.f_eq (N:Nat)(a b:List Int):
  bB (Q7.E N) (bo Try.f105) [.agg [.il .u32 1 a],.agg [.il .u32 1 b]] [] Q7.dec=Q7.f N a b:=by kernel_rfl
noncomputable def Q7.ent (N:Nat):wA:=eF (Int) 0 [true,true] [.recd [.il .u32 1],.recd [.il .u32 1]] fun
 | [.agg [.il .u32 1 a],.agg [.il .u32 1 b]]=>some (Q7.f N a b,fun r=>.one (.c (.int .i64 r)) [])
 |_=>none
theorem Q7.env (N:Nat):aB Try.prog (Q7.E N):=⟨(.cons fE (.cons jC (.cons vD .nil))),.nil⟩
theorem Q7.k6 (N:Nat):xB Try.prog Try.f105 (Q7.E N) (.loop Q7.b6):=tC (Q7.env N) dA 394 (c:=Q7.c6 N) cA.n fun R vs H k r h=>by unfold Q7.c6 at h;dsimp only at h;split at h;exact⟨_,Q7.l6_eq .. ▸h⟩;cases h
theorem Q7.spec (N:Nat)(a c:List Int)(r:Int)(h:Q7.f N a c=some r):iA Try.prog 105 [.agg [.il .u32 1 a],.agg [.il .u32 1 c]] [] (.c (.int .i64 r)) ([]):=sA (Q7.env N) dA Try.func105 (cA.of (l:=[(.loop (qA ((fA (bo Try.f105)).getD 0 .skip)))]) (by kernel_rfl) (cA.cons (Q7.k6 N) cA.nil)) ((Q7.f_eq ..).trans h) fun v b e=>by unfold Q7.dec at e;split at e<;>cases e;exact⟨rfl,rfl⟩
theorem Q7.ent_ok (N:Nat):oA Try.prog 105 (Q7.ent N):=xA fun v a e h=>by split at h;exact eC (Q:=fun e=>iA _ _ _ _ (e a).pick.1 (e a).pick.2) h fun k=>Q7.spec N _ _ a k;cases h
noncomputable def Q8.l7 {R:Type}(N:Nat):Nat→Int→Int→Int→List Int→List Int→(List Int→Option R)→Option R
 |0,_,_,_,_,_,_=>none
 |n+1,d,f,a,c,b,e=>
  bif decide (a<f)then
   bif (decide (0≤a))&&(decide (a<(b.length:Int)))then
    bif decide (a<(c.length:Int))then
     bif (decide (0≤a))&&(decide (a<(c.length:Int)))then
      bif (decide (0≤a))&&(decide (a<(b.length:Int)))then
       Q8.l7 N n (Int.fdiv (pA ((pA (d+(pA (b.getD a.toNat 0))))+(pA (c.getD a.toNat 0)))) (2^32)) f (aA (a+1)) c (b.set a.toNat (uE (pA ((pA (d+(pA (b.getD a.toNat 0))))+(pA (c.getD a.toNat 0)))))) e
      else none
     else none
    else
    bif (decide (0≤a))&&(decide (a<(b.length:Int)))then
     Q8.l7 N n (Int.fdiv (pA (d+(pA (b.getD a.toNat 0)))) (2^32)) f (aA (a+1)) c (b.set a.toNat (uE (pA (d+(pA (b.getD a.toNat 0)))))) e
    else none
   else none
  else
  e b
noncomputable def Q8.f (N:Nat)(a b:List Int):Option (List Int×Int):=
 bif decide ((a.length:Int)<(b.length:Int))then
  bif decide (aA ((b.length:Int)+1)=aA ((b.length:Int)+1))&&decide (0≤aA ((b.length:Int)+1))&&decide (aA ((b.length:Int)+1)≤9223372036854775807)&&zA ((aA ((b.length:Int)+1)).toNat) 4 then
   Q8.l7 N N 0 ((aF (List.replicate ((aA ((b.length:Int)+1)).toNat) (0:Int)) 0 (b.take (min b.length ((List.replicate ((aA ((b.length:Int)+1)).toNat) (0:Int)).length)))).length:Int) 0 a (aF (List.replicate ((aA ((b.length:Int)+1)).toNat) (0:Int)) 0 (b.take (min b.length ((List.replicate ((aA ((b.length:Int)+1)).toNat) (0:Int)).length))))
    (fun h=>
     (Q2.f N 0 h.length h).bind fun c=>
     (Q4.f N ((c.2.2.drop c.1).take c.2.1)).bind fun e=>
     some (e.1,e.2))
  else none
 else
 bif decide (aA ((a.length:Int)+1)=aA ((a.length:Int)+1))&&decide (0≤aA ((a.length:Int)+1))&&decide (aA ((a.length:Int)+1)≤9223372036854775807)&&zA ((aA ((a.length:Int)+1)).toNat) 4 then
  Q8.l7 N N 0 ((aF (List.replicate ((aA ((a.length:Int)+1)).toNat) (0:Int)) 0 (a.take (min a.length ((List.replicate ((aA ((a.length:Int)+1)).toNat) (0:Int)).length)))).length:Int) 0 b (aF (List.replicate ((aA ((a.length:Int)+1)).toNat) (0:Int)) 0 (a.take (min a.length ((List.replicate ((aA ((a.length:Int)+1)).toNat) (0:Int)).length))))
   (fun g=>
    (Q2.f N 0 g.length g).bind fun d=>
    (Q4.f N ((d.2.2.drop d.1).take d.2.1)).bind fun f=>
    some (f.1,f.2))
 else none
noncomputable def Q8.h7:bD:=⟨[(3,.box [.il .u32 1]),(4,.box [.any]),(6,.row .u32 1),(7,.any),(28,.any),(29,.any)],[(4,.box [.any]),(6,.row .u32 1)]⟩
noncomputable def Q8.c7 (N:Nat):iI:=⟨fun vs H k=>match vs,H with
 | [.ptr 0 0 1,.ptr 1 0 1,.sw 2 1,.c (.int .u64 a),.c (.int .i64 b),.c (.int .i64 c)],[.vals [.il .u32 1 d],.vals [.c (.slice none 0 0)],.ints .u32 e]=>Q8.l7 N N a b c d e (fun f=>k (.exit 0) ⟨yC Q8.h7.out [.ptr 0 0 1,.sw 1 1],[.vals [.c (.slice none 0 0)],.ints .u32 f]⟩)
 |_,_=>none⟩
noncomputable def Q8.E (N:Nat):rC:=yE [(86,dM),(88,qH),(115,cK),(129,cI)] [(92,Q2.ent N),(122,Q4.ent N)] [(7,Q8.h7)] [(7,Q8.c7 N)] N [.cell 4 88,.tmp 5] [.recd [.il .u32 1],.any] 0 65
noncomputable def Q8.b7:Code:=qA ((fA (bo Try.f109)).getD 0 .skip)
theorem Q8.l7_eq {R:Type}(N n:Nat)(a b c:Int)(d e:List Int)(k:Ex→St→Option R):
  iB 0 Q8.h7 (fun s k=>eB (Q8.E N) 391 Q8.b7 s k) n [.ptr 0 0 1,.ptr 1 0 1,.sw 2 1,.c (.int .u64 a),.c (.int .i64 b),.c (.int .i64 c)] [.vals [.il .u32 1 d],.vals [.c (.slice none 0 0)],.ints .u32 e] k=Q8.l7 N n a b c d e (fun f=>k (.exit 0) ⟨yC Q8.h7.out [.ptr 0 0 1,.sw 1 1],[.vals [.c (.slice none 0 0)],.ints .u32 f]⟩):=by
 induction n generalizing a b c d e with
 |zero=>kernel_rfl
 |succ n ih=>
  simp only[Q8.l7,←ih]
  kernel_rfl
noncomputable def Q8.dec (v:V)(bs:List mA):Option (List Int×Int):=match v,bs with
 | .tup [.agg [.il .u32 1 a],.c (.int .i64 b)],[]=>some (a,b)
 |_,_=>none
theorem Q8.f_eq (N:Nat)(a b:List Int):
  bB (Q8.E N) (bo Try.f109) [.agg [.il .u32 1 a],.agg [.il .u32 1 b]] [] Q8.dec=Q8.f N a b:=by kernel_rfl
noncomputable def Q8.ent (N:Nat):wA:=eF (List Int×Int) 0 [true,true] [.recd [.il .u32 1],.recd [.il .u32 1]] fun
 | [.agg [.il .u32 1 a],.agg [.il .u32 1 b]]=>some (Q8.f N a b,fun r=>.one (.tup [.agg [.il .u32 1 r.1],.c (.int .i64 r.2)]) [])
 |_=>none
theorem Q8.env (N:Nat):aB Try.prog (Q8.E N):=⟨(.cons fE (.cons jC (.cons tE (.cons vD .nil)))),(.cons (Q2.ent_ok N) (.cons (Q4.ent_ok N) .nil))⟩
theorem Q8.k7 (N:Nat):xB Try.prog Try.f109 (Q8.E N) (.loop Q8.b7):=tC (Q8.env N) dA 391 (c:=Q8.c7 N) cA.n fun R vs H k r h=>by unfold Q8.c7 at h;dsimp only at h;split at h;exact⟨_,Q8.l7_eq .. ▸h⟩;cases h
theorem Q8.spec (N:Nat)(a c:List Int)(r:List Int×Int)(h:Q8.f N a c=some r):iA Try.prog 109 [.agg [.il .u32 1 a],.agg [.il .u32 1 c]] [] (.tup [.agg [.il .u32 1 r.1],.c (.int .i64 r.2)]) ([]):=sA (Q8.env N) dA Try.func109 (cA.of (l:=[(.loop (qA ((fA (bo Try.f109)).getD 0 .skip)))]) (by kernel_rfl) (cA.cons (Q8.k7 N) cA.nil)) ((Q8.f_eq ..).trans h) fun v b e=>by unfold Q8.dec at e;split at e<;>cases e;exact⟨rfl,rfl⟩
theorem Q8.ent_ok (N:Nat):oA Try.prog 109 (Q8.ent N):=xA fun v a e h=>by split at h;exact eC (Q:=fun e=>iA _ _ _ _ (e a).pick.1 (e a).pick.2) h fun k=>Q8.spec N _ _ a k;cases h
noncomputable def Q9.l2 {R:Type}(N:Nat):Nat→Nat→Nat→List Int→Int→Int→Int→List Int→(List Int→Option R)→Option R
 |0,_,_,_,_,_,_,_,_=>none
 |n+1,c,d,g,i,j,a,b,h=>
  bif decide (a<j)then
   bif decide (a<(g.length:Int))then
    bif (decide (0≤a))&&(decide (a<(g.length:Int)))then
     bif (decide (0≤a))&&(decide (a<(d:Int)))then
      (Q1.f N (b.getD (c+a.toNat) 0) (g.getD a.toNat 0) i).bind fun e=>
      bif (decide (0≤a))&&(decide (a<(d:Int)))then
       Q9.l2 N n c d g e.2 j (aA (a+1)) (b.set (c+a.toNat) e.1) h
      else none
     else none
    else none
   else
   bif i==0 then
    h b
   else
   bif (decide (0≤a))&&(decide (a<(d:Int)))then
    (Q1.f N (b.getD (c+a.toNat) 0) 0 i).bind fun f=>
    bif (decide (0≤a))&&(decide (a<(d:Int)))then
     Q9.l2 N n c d g f.2 j (aA (a+1)) (b.set (c+a.toNat) f.1) h
    else none
   else none
  else
  h b
noncomputable def Q9.f (N c b:Nat)(d e:List Int):Option (List Int):=
 Q9.l2 N N c b d 0 (b:Int) 0 e
  (fun a=>
   some a)
noncomputable def Q9.h2:bD:=⟨[(0,.any),(1,.il .u32 1),(4,.any),(8,.any),(9,.any)],[]⟩
noncomputable def Q9.c2 (N:Nat):iI:=⟨fun vs H k=>match vs,H with
 | [.sl 0 1 d e,.il .u32 1 f,.c (.int .u32 g),.c (.int .i64 h),.c (.int .i64 a)],[.ints .u32 b]=>Q9.l2 N N d e f g h a b (fun c=>k (.exit 0) ⟨yC Q9.h2.out [],[.ints .u32 c]⟩)
 |_,_=>none⟩
noncomputable def Q9.E (N:Nat):rC:=yE [(86,dM),(129,cI)] [(125,Q1.ent N)] [(2,Q9.h2)] [(2,Q9.c2 N)] N [] [] 1 36
noncomputable def Q9.b2:Code:=qA ((fA (bo Try.f123)).getD 1 .skip)
theorem Q9.l2_eq {R:Type}(N n d e:Nat)(f:List Int)(g h a:Int)(b:List Int)(k:Ex→St→Option R):
  iB 1 Q9.h2 (fun s k=>eB (Q9.E N) 394 Q9.b2 s k) n [.sl 0 1 d e,.il .u32 1 f,.c (.int .u32 g),.c (.int .i64 h),.c (.int .i64 a)] [.ints .u32 b] k=Q9.l2 N n d e f g h a b (fun c=>k (.exit 0) ⟨yC Q9.h2.out [],[.ints .u32 c]⟩):=by
 induction n generalizing d e f g h a b with
 |zero=>kernel_rfl
 |succ n ih=>
  simp only[Q9.l2,←ih]
  kernel_rfl
noncomputable def Q9.dec (v:V)(bs:List mA):Option (List Int):=match v,bs with
 | .tup [],[.ints .u32 a]=>some a
 |_,_=>none
theorem Q9.f_eq (N a b:Nat)(c d:List Int):
  bB (Q9.E N) (bo Try.f123) [.sl 0 1 a b,.il .u32 1 c] [.ints .u32 d] Q9.dec=Q9.f N a b c d:=by kernel_rfl
noncomputable def Q9.ent (N:Nat):wA:={A:=List Int,fresh:=0,imm:=[false,true],dec:=fun args bs=>match mJ (nA bs) [true,false] args,bs with
 | [.sl 0 1 a b,.il .u32 1 c],[.ints .u32 d]=>some (Q9.f N a b c d,fun r=>.one (.tup []) [.ints .u32 r])
 |_,_=>none}
theorem Q9.env (N:Nat):aB Try.prog (Q9.E N):=⟨(.cons fE (.cons vD .nil)),(.cons (Q1.ent_ok N) .nil)⟩
theorem Q9.k2 (N:Nat):xB Try.prog Try.f123 (Q9.E N) (.loop Q9.b2):=tC (Q9.env N) dA 394 (c:=Q9.c2 N) cA.n fun R vs H k r h=>by unfold Q9.c2 at h;dsimp only at h;split at h;exact⟨_,Q9.l2_eq .. ▸h⟩;cases h
theorem Q9.spec (N a c:Nat)(d f r:List Int)(h:Q9.f N a c d f=some r):iA Try.prog 123 [.sl 0 1 a c,.il .u32 1 d] [.ints .u32 f] (.tup []) ([.ints .u32 r]):=sA (Q9.env N) dA Try.func123 (cA.of (l:=[(.scope (qA ((fA (bo Try.f123)).getD 0 .skip))),(.loop (qA ((fA (bo Try.f123)).getD 1 .skip)))]) (by kernel_rfl) (cA.cons (lR (by kernel_rfl)) (cA.cons (Q9.k2 N) cA.nil))) ((Q9.f_eq ..).trans h) fun v b e=>by unfold Q9.dec at e;split at e<;>cases e;exact⟨rfl,rfl⟩
theorem Q9.ent_ok (N:Nat):oA Try.prog 123 (Q9.ent N):=by
 intro args bs a enc h;simp only[Q9.ent]at h;split at h
 ·rename_i hz;have h0:=Option.some.inj h;have h1:=congrArg Prod.fst h0;have h2:=congrArg Prod.snd h0;dsimp only at h1 h2;subst h2;exact iA.of_asSl (fl:=[true,false]) (by rw[hz];exact Q9.spec N _ _ _ _ a h1)
 ·cases h
noncomputable def Q10.f (N:Nat)(a c:List Int):Option (List Int×Int):=
 (Q7.f N a c).bind fun e=>
 bif decide (e<0)then
  some ([],10)
 else
 bif decide ((a.length:Int)=(a.length:Int))&&decide (0≤(a.length:Int))&&decide ((a.length:Int)≤9223372036854775807)&&zA ((a.length:Int).toNat) 4 then
  (Q9.f N 0 ((aF (List.replicate ((a.length:Int).toNat) (0:Int)) 0 (a.take (min a.length ((List.replicate ((a.length:Int).toNat) (0:Int)).length)))).length) c (aF (List.replicate ((a.length:Int).toNat) (0:Int)) 0 (a.take (min a.length ((List.replicate ((a.length:Int).toNat) (0:Int)).length))))).bind fun d=>
  (Q2.f N 0 d.length d).bind fun b=>
  some ((b.2.2.drop b.1).take b.2.1,0)
 else none
noncomputable def Q10.E (N:Nat):rC:=yE [(86,dM),(88,qH),(129,cI)] [(105,Q7.ent N),(123,Q9.ent N),(92,Q2.ent N)] [] [] N [.cell 4 88,.tmp 5] [.recd [.il .u32 1],.any] 0 26
noncomputable def Q10.dec (v:V)(bs:List mA):Option (List Int×Int):=match v,bs with
 | .tup [.agg [.il .u32 1 a],.c (.int .i64 b)],[]=>some (a,b)
 |_,_=>none
theorem Q10.f_eq (N:Nat)(a b:List Int):
  bB (Q10.E N) (bo Try.f110) [.agg [.il .u32 1 a],.agg [.il .u32 1 b]] [] Q10.dec=Q10.f N a b:=by kernel_rfl
noncomputable def Q10.ent (N:Nat):wA:=eF (List Int×Int) 0 [true,true] [.recd [.il .u32 1],.recd [.il .u32 1]] fun
 | [.agg [.il .u32 1 a],.agg [.il .u32 1 b]]=>some (Q10.f N a b,fun r=>.one (.tup [.agg [.il .u32 1 r.1],.c (.int .i64 r.2)]) [])
 |_=>none
theorem Q10.env (N:Nat):aB Try.prog (Q10.E N):=⟨(.cons fE (.cons jC (.cons vD .nil))),(.cons (Q7.ent_ok N) (.cons (Q9.ent_ok N) (.cons (Q2.ent_ok N) .nil)))⟩
theorem Q10.spec (N:Nat)(a c:List Int)(r:List Int×Int)(h:Q10.f N a c=some r):iA Try.prog 110 [.agg [.il .u32 1 a],.agg [.il .u32 1 c]] [] (.tup [.agg [.il .u32 1 r.1],.c (.int .i64 r.2)]) ([]):=sA (Q10.env N) dA Try.func110 cA.n ((Q10.f_eq ..).trans h) fun v b e=>by unfold Q10.dec at e;split at e<;>cases e;exact⟨rfl,rfl⟩
theorem Q10.ent_ok (N:Nat):oA Try.prog 110 (Q10.ent N):=xA fun v a e h=>by split at h;exact eC (Q:=fun e=>iA _ _ _ _ (e a).pick.1 (e a).pick.2) h fun k=>Q10.spec N _ _ a k;cases h
noncomputable def Q11.l7 {R:Type}(N:Nat):Nat→Int→Int→Int→List Int→Int→Int→List Int→Int→Int→List Int→List Int→(Int→Int→List Int→Int→Int→List Int→List Int→Option R)→Option R
 |0,_,_,_,_,_,_,_,_,_,_,_,_=>none
 |n+1,d,k,e,f,g,h,c,i,a,j,b,l=>
  bif decide (a<i)then
   bif (decide (0≤a))&&(decide (a<(c.length:Int)))then
    bif (decide (0≤(aA (d+a))))&&(decide ((aA (d+a))<(b.length:Int)))then
     bif (decide (0≤(aA (d+a))))&&(decide ((aA (d+a))<(b.length:Int)))then
      Q11.l7 N n d k (Int.fdiv (pA (e+(pA ((pA ((pA k)*(pA (c.getD a.toNat 0))))+(pA (b.getD ((aA (d+a)).toNat) 0)))))) (2^32)) f g h c i (aA (a+1)) j (b.set ((aA (d+a)).toNat) (uE (pA (e+(pA ((pA ((pA k)*(pA (c.getD a.toNat 0))))+(pA (b.getD ((aA (d+a)).toNat) 0)))))))) l
     else none
    else none
   else none
  else
  l d e f g h j b
noncomputable def Q11.l3 {R:Type}(N:Nat):Nat→List Int→Int→Int→List Int→List Int→(List Int→Option R)→Option R
 |0,_,_,_,_,_,_=>none
 |n+1,e,l,c,f,m,k=>
  bif decide (c<l)then
   bif (decide (0≤c))&&(decide (c<(e.length:Int)))then
    Q11.l7 N N c (e.getD c.toNat 0) 0 e l c f (f.length:Int) 0 f m
     (fun b g h i j a d=>
      bif (decide (0≤(aA (b+(a.length:Int)))))&&(decide ((aA (b+(a.length:Int)))<(d.length:Int)))then
       Q11.l3 N n h i (aA (j+1)) a (d.set ((aA (b+(a.length:Int))).toNat) (uE g)) k
      else none)
   else none
  else
  k m
noncomputable def Q11.f (N:Nat)(a b:List Int):Option (List Int):=
 bif decide (aA ((a.length:Int)+(b.length:Int))=aA ((a.length:Int)+(b.length:Int)))&&decide (0≤aA ((a.length:Int)+(b.length:Int)))&&decide (aA ((a.length:Int)+(b.length:Int))≤9223372036854775807)&&zA ((aA ((a.length:Int)+(b.length:Int))).toNat) 4 then
  Q11.l3 N N a (a.length:Int) 0 b (List.replicate ((aA ((a.length:Int)+(b.length:Int))).toNat) (0:Int))
   (fun d=>
    (Q2.f N 0 d.length d).bind fun c=>
    some ((c.2.2.drop c.1).take c.2.1))
 else none
noncomputable def Q11.h3:bD:=⟨[(3,.box [.il .u32 1]),(4,.box [.any]),(5,.row .u32 1),(20,.il .u32 1),(21,.any),(22,.any)],[(4,.box [.any]),(5,.row .u32 1)]⟩
noncomputable def Q11.h7:bD:=⟨[(3,.box [.il .u32 1]),(4,.box [.any]),(5,.row .u32 1),(6,.any),(7,.any),(8,.any),(20,.il .u32 1),(21,.any),(22,.any),(28,.il .u32 1),(29,.any),(30,.any)],[(3,.box [.il .u32 1]),(4,.box [.any]),(5,.row .u32 1),(6,.any),(8,.any),(20,.il .u32 1),(21,.any),(22,.any)]⟩
noncomputable def Q11.c7 (N:Nat):iI:=⟨fun vs H k=>match vs,H with
 | [.ptr 0 0 1,.ptr 1 0 1,.sw 2 1,.c (.int .i64 s),.c (.int .u32 t),.c (.int .u64 a),.il .u32 1 b,.c (.int .i64 c),.c (.int .i64 d),.il .u32 1 e,.c (.int .i64 f),.c (.int .i64 g)],[.vals [.il .u32 1 h],.vals [.c (.slice none 0 0)],.ints .u32 i]=>Q11.l7 N N s t a b c d e f g h i (fun j l m o p q r=>k (.exit 2) ⟨yC Q11.h7.out [.ptr 0 0 1,.ptr 1 0 1,.sw 2 1,.c (.int .i64 j),.c (.int .u64 l),.il .u32 1 m,.c (.int .i64 o),.c (.int .i64 p)],[.vals [.il .u32 1 q],.vals [.c (.slice none 0 0)],.ints .u32 r]⟩)
 |_,_=>none⟩
noncomputable def Q11.c3 (N:Nat):iI:=⟨fun vs H k=>match vs,H with
 | [.ptr 0 0 1,.ptr 1 0 1,.sw 2 1,.il .u32 1 b,.c (.int .i64 c),.c (.int .i64 d)],[.vals [.il .u32 1 e],.vals [.c (.slice none 0 0)],.ints .u32 f]=>Q11.l3 N N b c d e f (fun a=>k (.exit 0) ⟨yC Q11.h3.out [.ptr 0 0 1,.sw 1 1],[.vals [.c (.slice none 0 0)],.ints .u32 a]⟩)
 |_,_=>none⟩
noncomputable def Q11.E (N:Nat):rC:=yE [(86,dM),(88,qH),(115,cK),(129,cI)] [(92,Q2.ent N)] [(3,Q11.h3),(7,Q11.h7)] [(7,Q11.c7 N),(3,Q11.c3 N)] N [.cell 4 88] [.recd [.il .u32 1]] 0 72
noncomputable def Q11.b7:Code:=qA ((fA (bo Try.f121)).getD 1 .skip)
theorem Q11.l7_eq {R:Type}(N n:Nat)(t u a:Int)(b:List Int)(c d:Int)(e:List Int)(f g:Int)(h i:List Int)(k:Ex→St→Option R):
  iB 0 Q11.h7 (fun s k=>eB (Q11.E N) 384 Q11.b7 s k) n [.ptr 0 0 1,.ptr 1 0 1,.sw 2 1,.c (.int .i64 t),.c (.int .u32 u),.c (.int .u64 a),.il .u32 1 b,.c (.int .i64 c),.c (.int .i64 d),.il .u32 1 e,.c (.int .i64 f),.c (.int .i64 g)] [.vals [.il .u32 1 h],.vals [.c (.slice none 0 0)],.ints .u32 i] k=Q11.l7 N n t u a b c d e f g h i (fun j l m o p q r=>k (.exit 2) ⟨yC Q11.h7.out [.ptr 0 0 1,.ptr 1 0 1,.sw 2 1,.c (.int .i64 j),.c (.int .u64 l),.il .u32 1 m,.c (.int .i64 o),.c (.int .i64 p)],[.vals [.il .u32 1 q],.vals [.c (.slice none 0 0)],.ints .u32 r]⟩):=by
 induction n generalizing t u a b c d e f g h i with
 |zero=>kernel_rfl
 |succ n ih=>
  simp only[Q11.l7,←ih]
  kernel_rfl
noncomputable def Q11.b3:Code:=qA ((fA (bo Try.f121)).getD 0 .skip)
theorem Q11.l3_eq {R:Type}(N n:Nat)(a:List Int)(c d:Int)(e f:List Int)(k:Ex→St→Option R):
  iB 0 Q11.h3 (fun s k=>eB (Q11.E N) 394 Q11.b3 s k) n [.ptr 0 0 1,.ptr 1 0 1,.sw 2 1,.il .u32 1 a,.c (.int .i64 c),.c (.int .i64 d)] [.vals [.il .u32 1 e],.vals [.c (.slice none 0 0)],.ints .u32 f] k=Q11.l3 N n a c d e f (fun b=>k (.exit 0) ⟨yC Q11.h3.out [.ptr 0 0 1,.sw 1 1],[.vals [.c (.slice none 0 0)],.ints .u32 b]⟩):=by
 induction n generalizing a c d e f with
 |zero=>kernel_rfl
 |succ n ih=>
  simp only[Q11.l3,←ih]
  kernel_rfl
noncomputable def Q11.dec (v:V)(bs:List mA):Option (List Int):=match v,bs with
 | .agg [.il .u32 1 a],[]=>some a
 |_,_=>none
theorem Q11.f_eq (N:Nat)(a b:List Int):
  bB (Q11.E N) (bo Try.f121) [.agg [.il .u32 1 a],.agg [.il .u32 1 b]] [] Q11.dec=Q11.f N a b:=by kernel_rfl
noncomputable def Q11.ent (N:Nat):wA:=eF (List Int) 0 [true,true] [.recd [.il .u32 1],.recd [.il .u32 1]] fun
 | [.agg [.il .u32 1 a],.agg [.il .u32 1 b]]=>some (Q11.f N a b,fun r=>.one (.agg [.il .u32 1 r]) [])
 |_=>none
theorem Q11.env (N:Nat):aB Try.prog (Q11.E N):=⟨(.cons fE (.cons jC (.cons tE (.cons vD .nil)))),(.cons (Q2.ent_ok N) .nil)⟩
theorem Q11.k7 (N:Nat):xB Try.prog Try.f121 (Q11.E N) (.loop Q11.b7):=tC (Q11.env N) dA 384 (c:=Q11.c7 N) cA.n fun R vs H k r h=>by unfold Q11.c7 at h;dsimp only at h;split at h;exact⟨_,Q11.l7_eq .. ▸h⟩;cases h
theorem Q11.k3 (N:Nat):xB Try.prog Try.f121 (Q11.E N) (.loop Q11.b3):=tC (Q11.env N) dA 394 (c:=Q11.c3 N) (cA.of (l:=[(.loop (qA ((fA (bo Try.f121)).getD 1 .skip)))]) (by kernel_rfl) (cA.cons (Q11.k7 N) cA.nil)) fun R vs H k r h=>by unfold Q11.c3 at h;dsimp only at h;split at h;exact⟨_,Q11.l3_eq .. ▸h⟩;cases h
theorem Q11.spec (N:Nat)(a c r:List Int)(h:Q11.f N a c=some r):iA Try.prog 121 [.agg [.il .u32 1 a],.agg [.il .u32 1 c]] [] (.agg [.il .u32 1 r]) ([]):=sA (Q11.env N) dA Try.func121 (cA.of (l:=[(.loop (qA ((fA (bo Try.f121)).getD 0 .skip))),(.loop (qA ((fA (bo Try.f121)).getD 1 .skip)))]) (by kernel_rfl) (cA.cons (Q11.k3 N) (cA.cons (Q11.k7 N) cA.nil))) ((Q11.f_eq ..).trans h) fun v b e=>by unfold Q11.dec at e;split at e<;>cases e;exact⟨rfl,rfl⟩
theorem Q11.ent_ok (N:Nat):oA Try.prog 121 (Q11.ent N):=xA fun v a e h=>by split at h;exact eC (Q:=fun e=>iA _ _ _ _ (e a).pick.1 (e a).pick.2) h fun k=>Q11.spec N _ _ a k;cases h
noncomputable def Q12.f (N:Nat)(a b:List Int):Option (List Int×Int):=
 (Q3.f N a).bind fun d=>
 (Q3.f N b).bind fun e=>
 bif decide ((aA (d+e))>4097)then
  some ([],3)
 else
 (Q11.f N a b).bind fun f=>
 (Q4.f N f).bind fun c=>
 some (c.1,c.2)
noncomputable def Q12.E (N:Nat):rC:=yE [(86,dM),(88,qH)] [(77,Q3.ent N),(121,Q11.ent N),(122,Q4.ent N)] [] [] N [.cell 4 88,.tmp 5] [.recd [.il .u32 1],.any] 0 19
noncomputable def Q12.dec (v:V)(bs:List mA):Option (List Int×Int):=match v,bs with
 | .tup [.agg [.il .u32 1 a],.c (.int .i64 b)],[]=>some (a,b)
 |_,_=>none
theorem Q12.f_eq (N:Nat)(a b:List Int):
  bB (Q12.E N) (bo Try.f108) [.agg [.il .u32 1 a],.agg [.il .u32 1 b]] [] Q12.dec=Q12.f N a b:=by kernel_rfl
noncomputable def Q12.ent (N:Nat):wA:=eF (List Int×Int) 0 [true,true] [.recd [.il .u32 1],.recd [.il .u32 1]] fun
 | [.agg [.il .u32 1 a],.agg [.il .u32 1 b]]=>some (Q12.f N a b,fun r=>.one (.tup [.agg [.il .u32 1 r.1],.c (.int .i64 r.2)]) [])
 |_=>none
theorem Q12.env (N:Nat):aB Try.prog (Q12.E N):=⟨(.cons fE (.cons jC .nil)),(.cons (Q3.ent_ok N) (.cons (Q11.ent_ok N) (.cons (Q4.ent_ok N) .nil)))⟩
theorem Q12.spec (N:Nat)(a c:List Int)(r:List Int×Int)(h:Q12.f N a c=some r):iA Try.prog 108 [.agg [.il .u32 1 a],.agg [.il .u32 1 c]] [] (.tup [.agg [.il .u32 1 r.1],.c (.int .i64 r.2)]) ([]):=sA (Q12.env N) dA Try.func108 cA.n ((Q12.f_eq ..).trans h) fun v b e=>by unfold Q12.dec at e;split at e<;>cases e;exact⟨rfl,rfl⟩
theorem Q12.ent_ok (N:Nat):oA Try.prog 108 (Q12.ent N):=xA fun v a e h=>by split at h;exact eC (Q:=fun e=>iA _ _ _ _ (e a).pick.1 (e a).pick.2) h fun k=>Q12.spec N _ _ a k;cases h
noncomputable def Q13.f (N:Nat)(a:Int):Option (Int):=
 (Q0.f N a).bind fun b=>
 some (aA (32-b))
noncomputable def Q13.E (N:Nat):rC:=yE [] [(93,Q0.ent N)] [] [] N [.tmp 2] [.any] 0 6
noncomputable def Q13.dec (v:V)(bs:List mA):Option (Int):=match v,bs with
 | .c (.int .i64 a),[]=>some a
 |_,_=>none
theorem Q13.f_eq (N:Nat)(a:Int):
  bB (Q13.E N) (bo Try.f117) [.c (.int .u32 a)] [] Q13.dec=Q13.f N a:=by kernel_rfl
noncomputable def Q13.ent (N:Nat):wA:=eF (Int) 0 [true] [.any] fun
 | [.c (.int .u32 a)]=>some (Q13.f N a,fun r=>.one (.c (.int .i64 r)) [])
 |_=>none
theorem Q13.env (N:Nat):aB Try.prog (Q13.E N):=⟨.nil,(.cons (Q0.ent_ok N) .nil)⟩
theorem Q13.spec (N:Nat)(a r:Int)(h:Q13.f N a=some r):iA Try.prog 117 [.c (.int .u32 a)] [] (.c (.int .i64 r)) ([]):=sA (Q13.env N) dA Try.func117 cA.n ((Q13.f_eq ..).trans h) fun v b e=>by unfold Q13.dec at e;split at e<;>cases e;exact⟨rfl,rfl⟩
theorem Q13.ent_ok (N:Nat):oA Try.prog 117 (Q13.ent N):=xA fun v a e h=>by split at h;exact eC (Q:=fun e=>iA _ _ _ _ (e a).pick.1 (e a).pick.2) h fun k=>Q13.spec N _ a k;cases h
noncomputable def Q14.l3 {R:Type}(N:Nat):Nat→Nat→Nat→Int→Int→Int→List Int→(Int→List Int→Option R)→Option R
 |0,_,_,_,_,_,_,_=>none
 |n+1,d,e,c,f,b,a,g=>
  bif decide (b≥0)then
   bif (decide (0≤b))&&(decide (b<(e:Int)))then
    bif !((pA c)==0)then
     bif !((pA c)==0)then
      bif (decide (0≤b))&&(decide (b<(e:Int)))then
       Q14.l3 N n d e c (Int.tmod (mE .u64 (pA (f*2^32)) (pA (a.getD (d+b.toNat) 0))) (pA c)) (aA (b-1)) (a.set (d+b.toNat) (uE (pA (Int.tdiv (mE .u64 (pA (f*2^32)) (pA (a.getD (d+b.toNat) 0))) (pA c))))) g
      else none
     else none
    else none
   else none
  else
  g f a
noncomputable def Q14.f (N d c:Nat)(e:Int)(f:List Int):Option (Int×List Int):=
 Q14.l3 N N d c e 0 (aA ((c:Int)-1)) f
  (fun a b=>
   some (uE a,b))
noncomputable def Q14.h3:bD:=⟨[(0,.any),(1,.any),(5,.any),(6,.any)],[(5,.any)]⟩
noncomputable def Q14.c3 (N:Nat):iI:=⟨fun vs H k=>match vs,H with
 | [.sl 0 1 d e,.c (.int .u32 f),.c (.int .u64 g),.c (.int .i64 h)],[.ints .u32 a]=>Q14.l3 N N d e f g h a (fun b c=>k (.exit 0) ⟨yC Q14.h3.out [.c (.int .u64 b)],[.ints .u32 c]⟩)
 |_,_=>none⟩
noncomputable def Q14.E (N:Nat):rC:=yE [(86,dM),(115,cK),(129,cI)] [] [(3,Q14.h3)] [(3,Q14.c3 N)] N [.tmp 4] [.any] 1 37
noncomputable def Q14.b3:Code:=qA ((fA (bo Try.f106)).getD 0 .skip)
theorem Q14.l3_eq {R:Type}(N n d e:Nat)(f g h:Int)(a:List Int)(k:Ex→St→Option R):
  iB 1 Q14.h3 (fun s k=>eB (Q14.E N) 394 Q14.b3 s k) n [.sl 0 1 d e,.c (.int .u32 f),.c (.int .u64 g),.c (.int .i64 h)] [.ints .u32 a] k=Q14.l3 N n d e f g h a (fun b c=>k (.exit 0) ⟨yC Q14.h3.out [.c (.int .u64 b)],[.ints .u32 c]⟩):=by
 induction n generalizing d e f g h a with
 |zero=>kernel_rfl
 |succ n ih=>
  simp only[Q14.l3,←ih]
  kernel_rfl
noncomputable def Q14.dec (v:V)(bs:List mA):Option (Int×List Int):=match v,bs with
 | .c (.int .u32 a),[.ints .u32 b]=>some (a,b)
 |_,_=>none
theorem Q14.f_eq (N a b:Nat)(c:Int)(d:List Int):
  bB (Q14.E N) (bo Try.f106) [.sl 0 1 a b,.c (.int .u32 c)] [.ints .u32 d] Q14.dec=Q14.f N a b c d:=by kernel_rfl
noncomputable def Q14.ent (N:Nat):wA:={A:=Int×List Int,fresh:=0,imm:=[false,true],dec:=fun args bs=>match mJ (nA bs) [true,false] args,bs with
 | [.sl 0 1 a b,.c (.int .u32 c)],[.ints .u32 d]=>some (Q14.f N a b c d,fun r=>.one (.c (.int .u32 r.1)) [.ints .u32 r.2])
 |_,_=>none}
theorem Q14.env (N:Nat):aB Try.prog (Q14.E N):=⟨(.cons fE (.cons tE (.cons vD .nil))),.nil⟩
theorem Q14.k3 (N:Nat):xB Try.prog Try.f106 (Q14.E N) (.loop Q14.b3):=tC (Q14.env N) dA 394 (c:=Q14.c3 N) cA.n fun R vs H k r h=>by unfold Q14.c3 at h;dsimp only at h;split at h;exact⟨_,Q14.l3_eq .. ▸h⟩;cases h
theorem Q14.spec (N a c:Nat)(d:Int)(f:List Int)(r:Int×List Int)(h:Q14.f N a c d f=some r):iA Try.prog 106 [.sl 0 1 a c,.c (.int .u32 d)] [.ints .u32 f] (.c (.int .u32 r.1)) ([.ints .u32 r.2]):=sA (Q14.env N) dA Try.func106 (cA.of (l:=[(.loop (qA ((fA (bo Try.f106)).getD 0 .skip)))]) (by kernel_rfl) (cA.cons (Q14.k3 N) cA.nil)) ((Q14.f_eq ..).trans h) fun v b e=>by unfold Q14.dec at e;split at e<;>cases e;exact⟨rfl,rfl⟩
theorem Q14.ent_ok (N:Nat):oA Try.prog 106 (Q14.ent N):=by
 intro args bs a enc h;simp only[Q14.ent]at h;split at h
 ·rename_i hz;have h0:=Option.some.inj h;have h1:=congrArg Prod.fst h0;have h2:=congrArg Prod.snd h0;dsimp only at h1 h2;subst h2;exact iA.of_asSl (fl:=[true,false]) (by rw[hz];exact Q14.spec N _ _ _ _ a h1)
 ·cases h
noncomputable def Q15.l4 {R:Type}(N:Nat):Nat→List Int→Int→Int→Int→Int→List Int→(List Int→Option R)→Option R
 |0,_,_,_,_,_,_,_=>none
 |n+1,b,c,e,g,a,d,f=>
  bif decide (a<g)then
   bif decide (a<(b.length:Int))then
    bif (decide (0≤a))&&(decide (a<(b.length:Int)))then
     bif decide (0≤c)then
      bif (decide (0≤a))&&(decide (a<(d.length:Int)))then
       Q15.l4 N n b c (Int.fdiv (mE .u64 e (pA ((pA (b.getD a.toNat 0))*2^(min c.toNat 64)))) (2^32)) g (aA (a+1)) (d.set a.toNat (uE (mE .u64 e (pA ((pA (b.getD a.toNat 0))*2^(min c.toNat 64)))))) f
      else none
     else none
    else none
   else
   bif (decide (0≤a))&&(decide (a<(d.length:Int)))then
    Q15.l4 N n b c (Int.fdiv e (2^32)) g (aA (a+1)) (d.set a.toNat (uE e)) f
   else none
  else
  f d
noncomputable def Q15.f (N:Nat)(c:List Int)(d a:Int):Option (List Int):=
 bif decide (a=a)&&decide (0≤a)&&decide (a≤9223372036854775807)&&zA a.toNat 4 then
  Q15.l4 N N c d 0 ((List.replicate a.toNat (0:Int)).length:Int) 0 (List.replicate a.toNat (0:Int))
   (fun b=>
    some b)
 else none
noncomputable def Q15.h4:bD:=⟨[(0,.il .u32 1),(1,.any),(7,.row .u32 1),(8,.any),(13,.any),(14,.any)],[(7,.row .u32 1)]⟩
noncomputable def Q15.c4 (N:Nat):iI:=⟨fun vs H k=>match vs,H with
 | [.il .u32 1 b,.c (.int .i64 c),.sw 0 1,.c (.int .u64 d),.c (.int .i64 e),.c (.int .i64 f)],[.ints .u32 g]=>Q15.l4 N N b c d e f g (fun a=>k (.exit 0) ⟨yC Q15.h4.out [.sw 0 1],[.ints .u32 a]⟩)
 |_,_=>none⟩
noncomputable def Q15.E (N:Nat):rC:=yE [(86,dM),(115,cK),(129,cI)] [] [(4,Q15.h4)] [(4,Q15.c4 N)] N [.tmp 6] [.row .u32 1] 0 39 true
noncomputable def Q15.b4:Code:=qA ((fA (bo Try.f118)).getD 0 .skip)
theorem Q15.l4_eq {R:Type}(N n:Nat)(b:List Int)(c d e f:Int)(g:List Int)(k:Ex→St→Option R):
  iB 0 Q15.h4 (fun s k=>eB (Q15.E N) 393 Q15.b4 s k) n [.il .u32 1 b,.c (.int .i64 c),.sw 0 1,.c (.int .u64 d),.c (.int .i64 e),.c (.int .i64 f)] [.ints .u32 g] k=Q15.l4 N n b c d e f g (fun a=>k (.exit 0) ⟨yC Q15.h4.out [.sw 0 1],[.ints .u32 a]⟩):=by
 induction n generalizing b c d e f g with
 |zero=>kernel_rfl
 |succ n ih=>
  simp only[Q15.l4,←ih]
  kernel_rfl
noncomputable def Q15.dec (v:V)(bs:List mA):Option (List Int):=match v,bs with
 | .sw 0 1,[.ints .u32 a]=>some a
 |_,_=>none
theorem Q15.f_eq (N:Nat)(a:List Int)(b c:Int):
  bB (Q15.E N) (bo Try.f118) [.il .u32 1 a,.c (.int .i64 b),.c (.int .i64 c)] [] Q15.dec=Q15.f N a b c:=by kernel_rfl
noncomputable def Q15.ent (N:Nat):wA:=eF (List Int) 1 [true,true,true] [.il .u32 1,.any,.any] fun
 | [.il .u32 1 a,.c (.int .i64 b),.c (.int .i64 c)]=>some (Q15.f N a b c,fun r=>.one (.sw 0 1) [.ints .u32 r])
 |_=>none
theorem Q15.env (N:Nat):aB Try.prog (Q15.E N):=⟨(.cons fE (.cons tE (.cons vD .nil))),.nil⟩
theorem Q15.k4 (N:Nat):xB Try.prog Try.f118 (Q15.E N) (.loop Q15.b4):=tC (Q15.env N) dA 393 (c:=Q15.c4 N) cA.n fun R vs H k r h=>by unfold Q15.c4 at h;dsimp only at h;split at h;exact⟨_,Q15.l4_eq .. ▸h⟩;cases h
theorem Q15.spec (N:Nat)(a:List Int)(c d:Int)(r:List Int)(h:Q15.f N a c d=some r):iA Try.prog 118 [.il .u32 1 a,.c (.int .i64 c),.c (.int .i64 d)] [] (.sw 0 1) ([.ints .u32 r]):=sA (Q15.env N) dA Try.func118 (cA.of (l:=[(.loop (qA ((fA (bo Try.f118)).getD 0 .skip)))]) (by kernel_rfl) (cA.cons (Q15.k4 N) cA.nil)) ((Q15.f_eq ..).trans h) fun v b e=>by unfold Q15.dec at e;split at e<;>cases e;exact⟨rfl,rfl⟩
theorem Q15.ent_ok (N:Nat):oA Try.prog 118 (Q15.ent N):=xA fun v a e h=>by split at h;exact eC (Q:=fun e=>iA _ _ _ _ (e a).pick.1 (e a).pick.2) h fun k=>Q15.spec N _ _ _ a k;cases h
noncomputable def Q16.l3 {R:Type}(N:Nat):Nat→List Int→Int→Int→Int→List Int→(List Int→Option R)→Option R
 |0,_,_,_,_,_,_=>none
 |n+1,b,c,f,a,d,e=>
  bif decide (a<f)then
   bif (decide (0≤a))&&(decide (a<(b.length:Int)))then
    bif decide ((aA (a+1))<(b.length:Int))then
     bif (decide (0≤(aA (a+1))))&&(decide ((aA (a+1))<(b.length:Int)))then
      bif decide (0≤c)then
       bif (decide (0≤a))&&(decide (a<(d.length:Int)))then
        Q16.l3 N n b c f (aA (a+1)) (d.set a.toNat (uE (Int.fdiv (mE .u64 (pA (b.getD a.toNat 0)) (pA ((pA (b.getD ((aA (a+1)).toNat) 0))*2^32))) (2^(min c.toNat 64))))) e
       else none
      else none
     else none
    else
    bif decide (0≤c)then
     bif (decide (0≤a))&&(decide (a<(d.length:Int)))then
      Q16.l3 N n b c f (aA (a+1)) (d.set a.toNat (uE (Int.fdiv (pA (b.getD a.toNat 0)) (2^(min c.toNat 64))))) e
     else none
    else none
   else none
  else
  e d
noncomputable def Q16.f (N:Nat)(a:List Int)(d:Int):Option (List Int):=
 bif decide ((a.length:Int)=(a.length:Int))&&decide (0≤(a.length:Int))&&decide ((a.length:Int)≤9223372036854775807)&&zA ((a.length:Int).toNat) 4 then
  Q16.l3 N N a d (a.length:Int) 0 (List.replicate ((a.length:Int).toNat) (0:Int))
   (fun c=>
    (Q2.f N 0 c.length c).bind fun b=>
    some ((b.2.2.drop b.1).take b.2.1))
 else none
noncomputable def Q16.h3:bD:=⟨[(0,.il .u32 1),(1,.any),(4,.box [.any]),(5,.row .u32 1),(12,.any),(13,.any)],[(4,.box [.any]),(5,.row .u32 1)]⟩
noncomputable def Q16.c3 (N:Nat):iI:=⟨fun vs H k=>match vs,H with
 | [.il .u32 1 a,.c (.int .i64 b),.ptr 0 0 1,.sw 1 1,.c (.int .i64 c),.c (.int .i64 d)],[.vals [.c (.slice none 0 0)],.ints .u32 e]=>Q16.l3 N N a b c d e (fun f=>k (.exit 0) ⟨yC Q16.h3.out [.ptr 0 0 1,.sw 1 1],[.vals [.c (.slice none 0 0)],.ints .u32 f]⟩)
 |_,_=>none⟩
noncomputable def Q16.E (N:Nat):rC:=yE [(86,dM),(88,qH),(115,cK),(129,cI)] [(92,Q2.ent N)] [(3,Q16.h3)] [(3,Q16.c3 N)] N [.cell 4 88] [.recd [.il .u32 1]] 0 45
noncomputable def Q16.b3:Code:=qA ((fA (bo Try.f120)).getD 0 .skip)
theorem Q16.l3_eq {R:Type}(N n:Nat)(a:List Int)(b c d:Int)(e:List Int)(k:Ex→St→Option R):
  iB 0 Q16.h3 (fun s k=>eB (Q16.E N) 394 Q16.b3 s k) n [.il .u32 1 a,.c (.int .i64 b),.ptr 0 0 1,.sw 1 1,.c (.int .i64 c),.c (.int .i64 d)] [.vals [.c (.slice none 0 0)],.ints .u32 e] k=Q16.l3 N n a b c d e (fun f=>k (.exit 0) ⟨yC Q16.h3.out [.ptr 0 0 1,.sw 1 1],[.vals [.c (.slice none 0 0)],.ints .u32 f]⟩):=by
 induction n generalizing a b c d e with
 |zero=>kernel_rfl
 |succ n ih=>
  simp only[Q16.l3,←ih]
  kernel_rfl
noncomputable def Q16.dec (v:V)(bs:List mA):Option (List Int):=match v,bs with
 | .agg [.il .u32 1 a],[]=>some a
 |_,_=>none
theorem Q16.f_eq (N:Nat)(a:List Int)(b:Int):
  bB (Q16.E N) (bo Try.f120) [.il .u32 1 a,.c (.int .i64 b)] [] Q16.dec=Q16.f N a b:=by kernel_rfl
noncomputable def Q16.ent (N:Nat):wA:=eF (List Int) 0 [true,true] [.il .u32 1,.any] fun
 | [.il .u32 1 a,.c (.int .i64 b)]=>some (Q16.f N a b,fun r=>.one (.agg [.il .u32 1 r]) [])
 |_=>none
theorem Q16.env (N:Nat):aB Try.prog (Q16.E N):=⟨(.cons fE (.cons jC (.cons tE (.cons vD .nil)))),(.cons (Q2.ent_ok N) .nil)⟩
theorem Q16.k3 (N:Nat):xB Try.prog Try.f120 (Q16.E N) (.loop Q16.b3):=tC (Q16.env N) dA 394 (c:=Q16.c3 N) cA.n fun R vs H k r h=>by unfold Q16.c3 at h;dsimp only at h;split at h;exact⟨_,Q16.l3_eq .. ▸h⟩;cases h
theorem Q16.spec (N:Nat)(a:List Int)(c:Int)(r:List Int)(h:Q16.f N a c=some r):iA Try.prog 120 [.il .u32 1 a,.c (.int .i64 c)] [] (.agg [.il .u32 1 r]) ([]):=sA (Q16.env N) dA Try.func120 (cA.of (l:=[(.loop (qA ((fA (bo Try.f120)).getD 0 .skip)))]) (by kernel_rfl) (cA.cons (Q16.k3 N) cA.nil)) ((Q16.f_eq ..).trans h) fun v b e=>by unfold Q16.dec at e;split at e<;>cases e;exact⟨rfl,rfl⟩
theorem Q16.ent_ok (N:Nat):oA Try.prog 120 (Q16.ent N):=xA fun v a e h=>by split at h;exact eC (Q:=fun e=>iA _ _ _ _ (e a).pick.1 (e a).pick.2) h fun k=>Q16.spec N _ _ a k;cases h
noncomputable def Q17.l3 {R:Type}(N:Nat):Nat→Nat→Nat→List Int→Int→Int→Int→Int→Int→List Int→(Int→List Int→Option R)→Option R
 |0,_,_,_,_,_,_,_,_,_,_=>none
 |n+1,f,g,h,k,c,d,e,a,b,l=>
  bif decide (a<e)then
   bif decide (a<(h.length:Int))then
    bif (decide (0≤a))&&(decide (a<(h.length:Int)))then
     bif (decide (0≤a))&&(decide (a<(g:Int)))then
      (Q1.f N (b.getD (f+a.toNat) 0) (uE (pA (c+(pA ((pA (h.getD a.toNat 0))*(pA k)))))) d).bind fun i=>
      bif (decide (0≤a))&&(decide (a<(g:Int)))then
       Q17.l3 N n f g h k (Int.fdiv (pA (c+(pA ((pA (h.getD a.toNat 0))*(pA k))))) (2^32)) i.2 e (aA (a+1)) (b.set (f+a.toNat) i.1) l
      else none
     else none
    else none
   else
   bif (decide (0≤a))&&(decide (a<(g:Int)))then
    (Q1.f N (b.getD (f+a.toNat) 0) (uE c) d).bind fun j=>
    bif (decide (0≤a))&&(decide (a<(g:Int)))then
     Q17.l3 N n f g h k (Int.fdiv c (2^32)) j.2 e (aA (a+1)) (b.set (f+a.toNat) j.1) l
    else none
   else none
  else
  l d b
noncomputable def Q17.f (N d c:Nat)(e:List Int)(f:Int)(g:List Int):Option (Bool×List Int):=
 Q17.l3 N N d c e f 0 0 (c:Int) 0 g
  (fun a b=>
   some (a != 0,b))
noncomputable def Q17.h3:bD:=⟨[(0,.any),(1,.il .u32 1),(2,.any),(7,.any),(8,.any),(11,.any),(12,.any)],[(8,.any)]⟩
noncomputable def Q17.c3 (N:Nat):iI:=⟨fun vs H k=>match vs,H with
 | [.sl 0 1 h i,.il .u32 1 j,.c (.int .u32 l),.c (.int .u64 a),.c (.int .u32 b),.c (.int .i64 c),.c (.int .i64 d)],[.ints .u32 e]=>Q17.l3 N N h i j l a b c d e (fun f g=>k (.exit 0) ⟨yC Q17.h3.out [.c (.int .u32 f)],[.ints .u32 g]⟩)
 |_,_=>none⟩
noncomputable def Q17.E (N:Nat):rC:=yE [(86,dM),(115,cK),(129,cI)] [(125,Q1.ent N)] [(3,Q17.h3)] [(3,Q17.c3 N)] N [.tmp 6] [.any] 1 48
noncomputable def Q17.b3:Code:=qA ((fA (bo Try.f119)).getD 0 .skip)
theorem Q17.l3_eq {R:Type}(N n h i:Nat)(j:List Int)(l a b c d:Int)(e:List Int)(k:Ex→St→Option R):
  iB 1 Q17.h3 (fun s k=>eB (Q17.E N) 394 Q17.b3 s k) n [.sl 0 1 h i,.il .u32 1 j,.c (.int .u32 l),.c (.int .u64 a),.c (.int .u32 b),.c (.int .i64 c),.c (.int .i64 d)] [.ints .u32 e] k=Q17.l3 N n h i j l a b c d e (fun f g=>k (.exit 0) ⟨yC Q17.h3.out [.c (.int .u32 f)],[.ints .u32 g]⟩):=by
 induction n generalizing h i j l a b c d e with
 |zero=>kernel_rfl
 |succ n ih=>
  simp only[Q17.l3,←ih]
  kernel_rfl
noncomputable def Q17.dec (v:V)(bs:List mA):Option (Bool×List Int):=match v,bs with
 | .c (.bool a),[.ints .u32 b]=>some (a,b)
 |_,_=>none
theorem Q17.f_eq (N a b:Nat)(c:List Int)(d:Int)(e:List Int):
  bB (Q17.E N) (bo Try.f119) [.sl 0 1 a b,.il .u32 1 c,.c (.int .u32 d)] [.ints .u32 e] Q17.dec=Q17.f N a b c d e:=by kernel_rfl
noncomputable def Q17.ent (N:Nat):wA:={A:=Bool×List Int,fresh:=0,imm:=[false,true,true],dec:=fun args bs=>match mJ (nA bs) [true,false,false] args,bs with
 | [.sl 0 1 a b,.il .u32 1 c,.c (.int .u32 d)],[.ints .u32 e]=>some (Q17.f N a b c d e,fun r=>.one (.c (.bool r.1)) [.ints .u32 r.2])
 |_,_=>none}
theorem Q17.env (N:Nat):aB Try.prog (Q17.E N):=⟨(.cons fE (.cons tE (.cons vD .nil))),(.cons (Q1.ent_ok N) .nil)⟩
theorem Q17.k3 (N:Nat):xB Try.prog Try.f119 (Q17.E N) (.loop Q17.b3):=tC (Q17.env N) dA 394 (c:=Q17.c3 N) cA.n fun R vs H k r h=>by unfold Q17.c3 at h;dsimp only at h;split at h;exact⟨_,Q17.l3_eq .. ▸h⟩;cases h
theorem Q17.spec (N a c:Nat)(d:List Int)(f:Int)(g:List Int)(r:Bool×List Int)(h:Q17.f N a c d f g=some r):iA Try.prog 119 [.sl 0 1 a c,.il .u32 1 d,.c (.int .u32 f)] [.ints .u32 g] (.c (.bool r.1)) ([.ints .u32 r.2]):=sA (Q17.env N) dA Try.func119 (cA.of (l:=[(.loop (qA ((fA (bo Try.f119)).getD 0 .skip)))]) (by kernel_rfl) (cA.cons (Q17.k3 N) cA.nil)) ((Q17.f_eq ..).trans h) fun v b e=>by unfold Q17.dec at e;split at e<;>cases e;exact⟨rfl,rfl⟩
theorem Q17.ent_ok (N:Nat):oA Try.prog 119 (Q17.ent N):=by
 intro args bs a enc h;simp only[Q17.ent]at h;split at h
 ·rename_i hz;have h0:=Option.some.inj h;have h1:=congrArg Prod.fst h0;have h2:=congrArg Prod.snd h0;dsimp only at h1 h2;subst h2;exact iA.of_asSl (fl:=[true,false,false]) (by rw[hz];exact Q17.spec N _ _ _ _ _ a h1)
 ·cases h
noncomputable def Q18.l11 {R:Type}(N:Nat):Nat→Int→Int→Int→Int→Int→List Int→List Int→List Int→(Int→Int→Int→Int→List Int→List Int→List Int→Option R)→Option R
 |0,_,_,_,_,_,_,_,_,_=>none
 |n+1,a,f,c,d,g,b,e,h,i=>
  bif (Int.fdiv d (2^32)) != 0 then
   bif (decide (0≤(aA (a-1))))&&(decide ((aA (a-1))<(b.length:Int)))then
    bif (Int.fdiv (pA (g+(pA (b.getD ((aA (a-1)).toNat) 0)))) (2^32)) != 0 then
     i a f c (pA (d-1)) b e h
    else
    Q18.l11 N n a f c (pA (d-1)) (pA (g+(pA (b.getD ((aA (a-1)).toNat) 0)))) b e h i
   else none
  else
  bif (decide (0≤(aA (a-2))))&&(decide ((aA (a-2))<(b.length:Int)))then
   bif (decide (0≤(aA ((aA (c+a))-2))))&&(decide ((aA ((aA (c+a))-2))<(e.length:Int)))then
    bif decide ((pA (d*(pA (b.getD ((aA (a-2)).toNat) 0))))>(mE .u64 (pA (g*2^32)) (pA (e.getD ((aA ((aA (c+a))-2)).toNat) 0))))then
     bif (decide (0≤(aA (a-1))))&&(decide ((aA (a-1))<(b.length:Int)))then
      bif (Int.fdiv (pA (g+(pA (b.getD ((aA (a-1)).toNat) 0)))) (2^32)) != 0 then
       i a f c (pA (d-1)) b e h
      else
      Q18.l11 N n a f c (pA (d-1)) (pA (g+(pA (b.getD ((aA (a-1)).toNat) 0)))) b e h i
     else none
    else
    i a f c d b e h
   else none
  else none
noncomputable def Q18.l21 {R:Type}(N:Nat):Nat→Int→Int→Int→Nat→Nat→Int→Int→Int→List Int→List Int→List Int→(Int→Int→Int→List Int→List Int→List Int→Option R)→Option R
 |0,_,_,_,_,_,_,_,_,_,_,_,_=>none
 |n+1,f,h,i,b,e,g,j,a,d,c,k,l=>
  bif decide (a<j)then
   bif (decide (0≤a))&&(decide (a<(e:Int)))then
    bif decide (a<f)then
     bif (decide (0≤a))&&(decide (a<(d.length:Int)))then
      bif (decide (0≤a))&&(decide (a<(e:Int)))then
       Q18.l21 N n f h i b e (Int.fdiv (pA ((pA (g+(pA (c.getD (b+a.toNat) 0))))+(pA (d.getD a.toNat 0)))) (2^32)) j (aA (a+1)) d (c.set (b+a.toNat) (uE (pA ((pA (g+(pA (c.getD (b+a.toNat) 0))))+(pA (d.getD a.toNat 0)))))) k l
      else none
     else none
    else
    bif (decide (0≤a))&&(decide (a<(e:Int)))then
     Q18.l21 N n f h i b e (Int.fdiv (pA (g+(pA (c.getD (b+a.toNat) 0)))) (2^32)) j (aA (a+1)) d (c.set (b+a.toNat) (uE (pA (g+(pA (c.getD (b+a.toNat) 0)))))) k l
    else none
   else none
  else
  l f h i d c k
noncomputable def Q18.l7 {R:Type}(N:Nat):Nat→Int→Int→Int→List Int→List Int→List Int→(Int→List Int→List Int→Option R)→Option R
 |0,_,_,_,_,_,_,_=>none
 |n+1,d,v,e,h,c,k,o=>
  bif decide (e≥0)then
   bif (decide (0≤(aA (e+d))))&&(decide ((aA (e+d))<(c.length:Int)))then
    bif (decide (0≤(aA ((aA (e+d))-1))))&&(decide ((aA ((aA (e+d))-1))<(c.length:Int)))then
     bif (decide (0≤(aA (d-1))))&&(decide ((aA (d-1))<(h.length:Int)))then
      bif !((pA (h.getD ((aA (d-1)).toNat) 0))==0)then
       bif (decide (0≤(aA (d-1))))&&(decide ((aA (d-1))<(h.length:Int)))then
        bif !((pA (h.getD ((aA (d-1)).toNat) 0))==0)then
         Q18.l11 N N d v e (pA (Int.tdiv (mE .u64 (pA ((pA (c.getD ((aA (e+d)).toNat) 0))*2^32)) (pA (c.getD ((aA ((aA (e+d))-1)).toNat) 0))) (pA (h.getD ((aA (d-1)).toNat) 0)))) (Int.tmod (mE .u64 (pA ((pA (c.getD ((aA (e+d)).toNat) 0))*2^32)) (pA (c.getD ((aA ((aA (e+d))-1)).toNat) 0))) (pA (h.getD ((aA (d-1)).toNat) 0))) h c k
          (fun b l a i j m f=>
           bif (((decide (0≤a))&&(decide (a≤(aA ((aA (a+b))+1)))))&&(decide ((aA ((aA (a+b))+1))≤(aA ((aA (a+b))+1)))))&&(decide ((aA ((aA (a+b))+1))≤(m.length:Int)))then
            (Q17.f N a.toNat (((aA ((aA (a+b))+1)).toNat)-a.toNat) j (uE i) m).bind fun g=>
            bif !g.1 then
             bif (decide (0≤a))&&(decide (a<(f.length:Int)))then
              Q18.l7 N n b l (aA (a-1)) j g.2 (f.set a.toNat (uE i)) o
             else none
            else
            bif (decide (0≤a))&&(decide (a<(f.length:Int)))then
             Q18.l21 N N b l a a.toNat (((aA ((aA (a+b))+1)).toNat)-a.toNat) 0 ((((aA ((aA (a+b))+1)).toNat)-a.toNat:Nat):Int) 0 j g.2 (f.set a.toNat (uE ((uE i)-1)))
              (fun p q r s t u=>
               Q18.l7 N n p q (aA (r-1)) s t u o)
            else none
           else none)
        else none
       else none
      else none
     else none
    else none
   else none
  else
  o v c k
noncomputable def Q18.f (N:Nat)(i a:List Int):Option (List Int×List Int):=
 bif (decide (0≤(aA ((a.length:Int)-1))))&&(decide ((aA ((a.length:Int)-1))<(a.length:Int)))then
  (Q13.f N (a.getD ((aA ((a.length:Int)-1)).toNat) 0)).bind fun e=>
  (Q15.f N a e (a.length:Int)).bind fun j=>
  (Q15.f N i e (aA ((i.length:Int)+1))).bind fun b=>
  bif decide (aA ((b.length:Int)- (a.length:Int))=aA ((b.length:Int)- (a.length:Int)))&&decide (0≤aA ((b.length:Int)- (a.length:Int)))&&decide (aA ((b.length:Int)- (a.length:Int))≤9223372036854775807)&&zA ((aA ((b.length:Int)- (a.length:Int))).toNat) 4 then
   Q18.l7 N N (a.length:Int) e (aA ((aA ((b.length:Int)- (a.length:Int)))-1)) j b (List.replicate ((aA ((b.length:Int)- (a.length:Int))).toNat) (0:Int))
    (fun g h d=>
     (Q2.f N 0 d.length d).bind fun c=>
     (Q16.f N h g).bind fun f=>
     some ((c.2.2.drop c.1).take c.2.1,f))
  else none
 else none
noncomputable def Q18.h7:bD:=⟨[(4,.box [.any]),(5,.box [.any]),(6,.any),(7,.any),(8,.row .u32 1),(9,.row .u32 1),(11,.row .u32 1),(12,.any)],[(4,.box [.any]),(5,.box [.any]),(7,.any),(9,.row .u32 1),(11,.row .u32 1)]⟩
noncomputable def Q18.h11:bD:=⟨[(4,.box [.any]),(5,.box [.any]),(6,.any),(7,.any),(8,.row .u32 1),(9,.row .u32 1),(11,.row .u32 1),(12,.any),(14,.any),(15,.any)],[(4,.box [.any]),(5,.box [.any]),(6,.any),(7,.any),(8,.row .u32 1),(9,.row .u32 1),(11,.row .u32 1),(12,.any),(14,.any)]⟩
noncomputable def Q18.h21:bD:=⟨[(4,.box [.any]),(5,.box [.any]),(6,.any),(7,.any),(8,.row .u32 1),(9,.row .u32 1),(11,.row .u32 1),(12,.any),(16,.part .u32 1),(17,.any),(156,.any),(157,.any)],[(4,.box [.any]),(5,.box [.any]),(6,.any),(7,.any),(8,.row .u32 1),(9,.row .u32 1),(11,.row .u32 1),(12,.any)]⟩
noncomputable def Q18.c11 (N:Nat):iI:=⟨fun vs H k=>match vs,H with
 | [.ptr 0 0 1,.ptr 1 0 1,.c (.int .i64 a),.c (.int .i64 b),.sw 2 1,.sw 3 1,.sw 4 1,.c (.int .i64 c),.c (.int .u64 d),.c (.int .u64 e)],[.vals [.c (.slice none 0 0)],.vals [.c (.slice none 0 0)],.ints .u32 f,.ints .u32 g,.ints .u32 h]=>Q18.l11 N N a b c d e f g h (fun i j l m o p q=>k (.exit 2) ⟨yC Q18.h11.out [.ptr 0 0 1,.ptr 1 0 1,.c (.int .i64 i),.c (.int .i64 j),.sw 2 1,.sw 3 1,.sw 4 1,.c (.int .i64 l),.c (.int .u64 m)],[.vals [.c (.slice none 0 0)],.vals [.c (.slice none 0 0)],.ints .u32 o,.ints .u32 p,.ints .u32 q]⟩)
 |_,_=>none⟩
noncomputable def Q18.c21 (N:Nat):iI:=⟨fun vs H k=>match vs,H with
 | [.ptr 0 0 1,.ptr 1 0 1,.c (.int .i64 a),.c (.int .i64 b),.sw 2 1,.sw 3 1,.sw 4 1,.c (.int .i64 c),.sl 3 1 d e,.c (.int .u64 f),.c (.int .i64 g),.c (.int .i64 h)],[.vals [.c (.slice none 0 0)],.vals [.c (.slice none 0 0)],.ints .u32 i,.ints .u32 j,.ints .u32 l]=>Q18.l21 N N a b c d e f g h i j l (fun m o p q r s=>k (.exit 4) ⟨yC Q18.h21.out [.ptr 0 0 1,.ptr 1 0 1,.c (.int .i64 m),.c (.int .i64 o),.sw 2 1,.sw 3 1,.sw 4 1,.c (.int .i64 p)],[.vals [.c (.slice none 0 0)],.vals [.c (.slice none 0 0)],.ints .u32 q,.ints .u32 r,.ints .u32 s]⟩)
 |_,_=>none⟩
noncomputable def Q18.c7 (N:Nat):iI:=⟨fun vs H k=>match vs,H with
 | [.ptr 0 0 1,.ptr 1 0 1,.c (.int .i64 f),.c (.int .i64 g),.sw 2 1,.sw 3 1,.sw 4 1,.c (.int .i64 h)],[.vals [.c (.slice none 0 0)],.vals [.c (.slice none 0 0)],.ints .u32 i,.ints .u32 a,.ints .u32 b]=>Q18.l7 N N f g h i a b (fun c d e=>k (.exit 0) ⟨yC Q18.h7.out [.ptr 0 0 1,.ptr 1 0 1,.c (.int .i64 c),.sw 2 1,.sw 3 1],[.vals [.c (.slice none 0 0)],.vals [.c (.slice none 0 0)],.ints .u32 d,.ints .u32 e]⟩)
 |_,_=>none⟩
noncomputable def Q18.E (N:Nat):rC:=yE [(86,dM),(88,qH),(115,cK),(129,cI)] [(117,Q13.ent N),(118,Q15.ent N),(119,Q17.ent N),(92,Q2.ent N),(120,Q16.ent N)] [(7,Q18.h7),(11,Q18.h11),(21,Q18.h21)] [(11,Q18.c11 N),(21,Q18.c21 N),(7,Q18.c7 N)] N [.cell 4 88,.cell 5 88] [.recd [.il .u32 1],.recd [.il .u32 1]] 0 190
noncomputable def Q18.b11:Code:=qA ((fA (bo Try.f107)).getD 2 .skip)
theorem Q18.l11_eq {R:Type}(N n:Nat)(a b c d e:Int)(f g h:List Int)(k:Ex→St→Option R):
  iB 0 Q18.h11 (fun s k=>eB (Q18.E N) 380 Q18.b11 s k) n [.ptr 0 0 1,.ptr 1 0 1,.c (.int .i64 a),.c (.int .i64 b),.sw 2 1,.sw 3 1,.sw 4 1,.c (.int .i64 c),.c (.int .u64 d),.c (.int .u64 e)] [.vals [.c (.slice none 0 0)],.vals [.c (.slice none 0 0)],.ints .u32 f,.ints .u32 g,.ints .u32 h] k=Q18.l11 N n a b c d e f g h (fun i j l m o p q=>k (.exit 2) ⟨yC Q18.h11.out [.ptr 0 0 1,.ptr 1 0 1,.c (.int .i64 i),.c (.int .i64 j),.sw 2 1,.sw 3 1,.sw 4 1,.c (.int .i64 l),.c (.int .u64 m)],[.vals [.c (.slice none 0 0)],.vals [.c (.slice none 0 0)],.ints .u32 o,.ints .u32 p,.ints .u32 q]⟩):=by
 induction n generalizing a b c d e f g h with
 |zero=>kernel_rfl
 |succ n ih=>
  simp only[Q18.l11,←ih]
  kernel_rfl
noncomputable def Q18.b21:Code:=qA ((fA (bo Try.f107)).getD 3 .skip)
theorem Q18.l21_eq {R:Type}(N n:Nat)(a b c:Int)(d e:Nat)(f g h:Int)(i j l:List Int)(k:Ex→St→Option R):
  iB 0 Q18.h21 (fun s k=>eB (Q18.E N) 375 Q18.b21 s k) n [.ptr 0 0 1,.ptr 1 0 1,.c (.int .i64 a),.c (.int .i64 b),.sw 2 1,.sw 3 1,.sw 4 1,.c (.int .i64 c),.sl 3 1 d e,.c (.int .u64 f),.c (.int .i64 g),.c (.int .i64 h)] [.vals [.c (.slice none 0 0)],.vals [.c (.slice none 0 0)],.ints .u32 i,.ints .u32 j,.ints .u32 l] k=Q18.l21 N n a b c d e f g h i j l (fun m o p q r t=>k (.exit 4) ⟨yC Q18.h21.out [.ptr 0 0 1,.ptr 1 0 1,.c (.int .i64 m),.c (.int .i64 o),.sw 2 1,.sw 3 1,.sw 4 1,.c (.int .i64 p)],[.vals [.c (.slice none 0 0)],.vals [.c (.slice none 0 0)],.ints .u32 q,.ints .u32 r,.ints .u32 t]⟩):=by
 induction n generalizing a b c d e f g h i j l with
 |zero=>kernel_rfl
 |succ n ih=>
  simp only[Q18.l21,←ih]
  kernel_rfl
noncomputable def Q18.b7:Code:=qA ((fA (bo Try.f107)).getD 1 .skip)
theorem Q18.l7_eq {R:Type}(N n:Nat)(e g h:Int)(i a b:List Int)(k:Ex→St→Option R):
  iB 0 Q18.h7 (fun s k=>eB (Q18.E N) 388 Q18.b7 s k) n [.ptr 0 0 1,.ptr 1 0 1,.c (.int .i64 e),.c (.int .i64 g),.sw 2 1,.sw 3 1,.sw 4 1,.c (.int .i64 h)] [.vals [.c (.slice none 0 0)],.vals [.c (.slice none 0 0)],.ints .u32 i,.ints .u32 a,.ints .u32 b] k=Q18.l7 N n e g h i a b (fun c d f=>k (.exit 0) ⟨yC Q18.h7.out [.ptr 0 0 1,.ptr 1 0 1,.c (.int .i64 c),.sw 2 1,.sw 3 1],[.vals [.c (.slice none 0 0)],.vals [.c (.slice none 0 0)],.ints .u32 d,.ints .u32 f]⟩):=by
 induction n generalizing e g h i a b with
 |zero=>kernel_rfl
 |succ n ih=>
  simp only[Q18.l7,←ih]
  kernel_rfl
noncomputable def Q18.dec (v:V)(bs:List mA):Option (List Int×List Int):=match v,bs with
 | .tup [.agg [.il .u32 1 a],.agg [.il .u32 1 b]],[]=>some (a,b)
 |_,_=>none
theorem Q18.f_eq (N:Nat)(a b:List Int):
  bB (Q18.E N) (bo Try.f107) [.agg [.il .u32 1 a],.agg [.il .u32 1 b]] [] Q18.dec=Q18.f N a b:=by kernel_rfl
noncomputable def Q18.ent (N:Nat):wA:=eF (List Int×List Int) 0 [true,true] [.recd [.il .u32 1],.recd [.il .u32 1]] fun
 | [.agg [.il .u32 1 a],.agg [.il .u32 1 b]]=>some (Q18.f N a b,fun r=>.one (.tup [.agg [.il .u32 1 r.1],.agg [.il .u32 1 r.2]]) [])
 |_=>none
theorem Q18.env (N:Nat):aB Try.prog (Q18.E N):=⟨(.cons fE (.cons jC (.cons tE (.cons vD .nil)))),(.cons (Q13.ent_ok N) (.cons (Q15.ent_ok N) (.cons (Q17.ent_ok N) (.cons (Q2.ent_ok N) (.cons (Q16.ent_ok N) .nil)))))⟩
theorem Q18.k21 (N:Nat):xB Try.prog Try.f107 (Q18.E N) (.loop Q18.b21):=tC (Q18.env N) dA 375 (c:=Q18.c21 N) cA.n fun R vs H k r h=>by unfold Q18.c21 at h;dsimp only at h;split at h;exact⟨_,Q18.l21_eq .. ▸h⟩;cases h
theorem Q18.k11 (N:Nat):xB Try.prog Try.f107 (Q18.E N) (.loop Q18.b11):=tC (Q18.env N) dA 380 (c:=Q18.c11 N) cA.n fun R vs H k r h=>by unfold Q18.c11 at h;dsimp only at h;split at h;exact⟨_,Q18.l11_eq .. ▸h⟩;cases h
theorem Q18.k7 (N:Nat):xB Try.prog Try.f107 (Q18.E N) (.loop Q18.b7):=tC (Q18.env N) dA 388 (c:=Q18.c7 N) (cA.of (l:=[(.loop (qA ((fA (bo Try.f107)).getD 2 .skip))),(.loop (qA ((fA (bo Try.f107)).getD 3 .skip)))]) (by kernel_rfl) (cA.cons (Q18.k11 N) (cA.cons (Q18.k21 N) cA.nil))) fun R vs H k r h=>by unfold Q18.c7 at h;dsimp only at h;split at h;exact⟨_,Q18.l7_eq .. ▸h⟩;cases h
theorem Q18.spec (N:Nat)(a c:List Int)(r:List Int×List Int)(h:Q18.f N a c=some r):iA Try.prog 107 [.agg [.il .u32 1 a],.agg [.il .u32 1 c]] [] (.tup [.agg [.il .u32 1 r.1],.agg [.il .u32 1 r.2]]) ([]):=sA (Q18.env N) dA Try.func107 (cA.of (l:=[(.scope (qA ((fA (bo Try.f107)).getD 0 .skip))),(.loop (qA ((fA (bo Try.f107)).getD 1 .skip))),(.loop (qA ((fA (bo Try.f107)).getD 2 .skip))),(.loop (qA ((fA (bo Try.f107)).getD 3 .skip)))]) (by kernel_rfl) (cA.cons (lR (by kernel_rfl)) (cA.cons (Q18.k7 N) (cA.cons (Q18.k11 N) (cA.cons (Q18.k21 N) cA.nil))))) ((Q18.f_eq ..).trans h) fun v b e=>by unfold Q18.dec at e;split at e<;>cases e;exact⟨rfl,rfl⟩
theorem Q18.ent_ok (N:Nat):oA Try.prog 107 (Q18.ent N):=xA fun v a e h=>by split at h;exact eC (Q:=fun e=>iA _ _ _ _ (e a).pick.1 (e a).pick.2) h fun k=>Q18.spec N _ _ a k;cases h
noncomputable def Q19.f (N:Nat)(a b:List Int):Option (List Int×List Int×Int):=
 bif (b.length:Int)==0 then
  some ([],[],11)
 else
 (Q7.f N a b).bind fun f=>
 bif decide (f<0)then
  some ([],a,0)
 else
 bif (b.length:Int)==1 then
  bif zA a.length 4 then
   bif decide (0<(b.length:Int))then
    (Q14.f N 0 a.length (b.getD 0 0) a).bind fun c=>
    (Q2.f N 0 c.2.length c.2).bind fun d=>
    (Q5.f N (pA c.1)).bind fun g=>
    some ((d.2.2.drop d.1).take d.2.1,g,0)
   else none
  else none
 else
 (Q18.f N a b).bind fun e=>
 some (e.1,e.2,0)
noncomputable def Q19.E (N:Nat):rC:=yE [(86,dM),(88,qH),(115,cK),(129,cI)] [(105,Q7.ent N),(106,Q14.ent N),(92,Q2.ent N),(76,Q5.ent N),(107,Q18.ent N)] [] [] N [.cell 4 88,.cell 5 88,.tmp 6] [.recd [.il .u32 1],.recd [.il .u32 1],.any] 0 47
noncomputable def Q19.dec (v:V)(bs:List mA):Option (List Int×List Int×Int):=match v,bs with
 | .tup [.agg [.il .u32 1 a],.agg [.il .u32 1 b],.c (.int .i64 c)],[]=>some (a,b,c)
 |_,_=>none
theorem Q19.f_eq (N:Nat)(a b:List Int):
  bB (Q19.E N) (bo Try.f85) [.agg [.il .u32 1 a],.agg [.il .u32 1 b]] [] Q19.dec=Q19.f N a b:=by kernel_rfl
noncomputable def Q19.ent (N:Nat):wA:=eF (List Int×List Int×Int) 0 [true,true] [.recd [.il .u32 1],.recd [.il .u32 1]] fun
 | [.agg [.il .u32 1 a],.agg [.il .u32 1 b]]=>some (Q19.f N a b,fun r=>.one (.tup [.agg [.il .u32 1 r.1],.agg [.il .u32 1 r.2.1],.c (.int .i64 r.2.2)]) [])
 |_=>none
theorem Q19.env (N:Nat):aB Try.prog (Q19.E N):=⟨(.cons fE (.cons jC (.cons tE (.cons vD .nil)))),(.cons (Q7.ent_ok N) (.cons (Q14.ent_ok N) (.cons (Q2.ent_ok N) (.cons (Q5.ent_ok N) (.cons (Q18.ent_ok N) .nil)))))⟩
theorem Q19.spec (N:Nat)(a c:List Int)(r:List Int×List Int×Int)(h:Q19.f N a c=some r):iA Try.prog 85 [.agg [.il .u32 1 a],.agg [.il .u32 1 c]] [] (.tup [.agg [.il .u32 1 r.1],.agg [.il .u32 1 r.2.1],.c (.int .i64 r.2.2)]) ([]):=sA (Q19.env N) dA Try.func85 cA.n ((Q19.f_eq ..).trans h) fun v b e=>by unfold Q19.dec at e;split at e<;>cases e;exact⟨rfl,rfl⟩
theorem Q19.ent_ok (N:Nat):oA Try.prog 85 (Q19.ent N):=xA fun v a e h=>by split at h;exact eC (Q:=fun e=>iA _ _ _ _ (e a).pick.1 (e a).pick.2) h fun k=>Q19.spec N _ _ a k;cases h
noncomputable def Q20.l1 {R:Type}(N:Nat):Nat→List Int→List Int→(List Int→Option R)→Option R
 |0,_,_,_=>none
 |n+1,c,a,b=>
  bif decide ((a.length:Int)>0)then
   (Q19.f N c a).bind fun d=>
   Q20.l1 N n a d.2.1 b
  else
  b c
noncomputable def Q20.f (N:Nat)(a b:List Int):Option (List Int):=
 Q20.l1 N N a b
  (fun c=>
   some c)
noncomputable def Q20.h1:bD:=⟨[(2,.box [.il .u32 1]),(3,.box [.il .u32 1]),(4,.box [.any])],[(2,.box [.il .u32 1]),(4,.box [.any])]⟩
noncomputable def Q20.c1 (N:Nat):iI:=⟨fun vs H k=>match vs,H with
 | [.ptr 0 0 1,.ptr 1 0 1,.ptr 2 0 1],[.vals [.il .u32 1 a],.vals [.il .u32 1 b],.vals [.c (.slice none 0 0)]]=>Q20.l1 N N a b (fun c=>k (.exit 0) ⟨yC Q20.h1.out [.ptr 0 0 1,.ptr 1 0 1],[.vals [.il .u32 1 c],.vals [.c (.slice none 0 0)]]⟩)
 |_,_=>none⟩
noncomputable def Q20.E (N:Nat):rC:=yE [(86,dM),(88,qH)] [(85,Q19.ent N)] [(1,Q20.h1)] [(1,Q20.c1 N)] N [.cell 4 88] [.recd [.il .u32 1]] 0 22
noncomputable def Q20.b1:Code:=qA ((fA (bo Try.f72)).getD 0 .skip)
theorem Q20.l1_eq {R:Type}(N n:Nat)(a b:List Int)(k:Ex→St→Option R):
  iB 0 Q20.h1 (fun s k=>eB (Q20.E N) 396 Q20.b1 s k) n [.ptr 0 0 1,.ptr 1 0 1,.ptr 2 0 1] [.vals [.il .u32 1 a],.vals [.il .u32 1 b],.vals [.c (.slice none 0 0)]] k=Q20.l1 N n a b (fun c=>k (.exit 0) ⟨yC Q20.h1.out [.ptr 0 0 1,.ptr 1 0 1],[.vals [.il .u32 1 c],.vals [.c (.slice none 0 0)]]⟩):=by
 induction n generalizing a b with
 |zero=>kernel_rfl
 |succ n ih=>
  simp only[Q20.l1,←ih]
  kernel_rfl
noncomputable def Q20.dec (v:V)(bs:List mA):Option (List Int):=match v,bs with
 | .agg [.il .u32 1 a],[]=>some a
 |_,_=>none
theorem Q20.f_eq (N:Nat)(a b:List Int):
  bB (Q20.E N) (bo Try.f72) [.agg [.il .u32 1 a],.agg [.il .u32 1 b]] [] Q20.dec=Q20.f N a b:=by kernel_rfl
noncomputable def Q20.ent (N:Nat):wA:=eF (List Int) 0 [true,true] [.recd [.il .u32 1],.recd [.il .u32 1]] fun
 | [.agg [.il .u32 1 a],.agg [.il .u32 1 b]]=>some (Q20.f N a b,fun r=>.one (.agg [.il .u32 1 r]) [])
 |_=>none
theorem Q20.env (N:Nat):aB Try.prog (Q20.E N):=⟨(.cons fE (.cons jC .nil)),(.cons (Q19.ent_ok N) .nil)⟩
theorem Q20.k1 (N:Nat):xB Try.prog Try.f72 (Q20.E N) (.loop Q20.b1):=tC (Q20.env N) dA 396 (c:=Q20.c1 N) cA.n fun R vs H k r h=>by unfold Q20.c1 at h;dsimp only at h;split at h;exact⟨_,Q20.l1_eq .. ▸h⟩;cases h
theorem Q20.spec (N:Nat)(a c r:List Int)(h:Q20.f N a c=some r):iA Try.prog 72 [.agg [.il .u32 1 a],.agg [.il .u32 1 c]] [] (.agg [.il .u32 1 r]) ([]):=sA (Q20.env N) dA Try.func72 (cA.of (l:=[(.loop (qA ((fA (bo Try.f72)).getD 0 .skip)))]) (by kernel_rfl) (cA.cons (Q20.k1 N) cA.nil)) ((Q20.f_eq ..).trans h) fun v b e=>by unfold Q20.dec at e;split at e<;>cases e;exact⟨rfl,rfl⟩
theorem Q20.ent_ok (N:Nat):oA Try.prog 72 (Q20.ent N):=xA fun v a e h=>by split at h;exact eC (Q:=fun e=>iA _ _ _ _ (e a).pick.1 (e a).pick.2) h fun k=>Q20.spec N _ _ a k;cases h
noncomputable def nS:TI:=⟨.int .i64,1,8,[.int .i64 0]⟩
noncomputable def tq:TI:=⟨.bool,1,1,[.bool false]⟩
noncomputable def kK:TI:=⟨.struct [(2,0),(2,1),(2,2)],3,24,[.int .i64 0,.int .i64 0,.int .i64 0]⟩
noncomputable def mO:TI:=⟨.struct [(4,0),(88,1)],2,32,[.bool false,.slice none 0 0]⟩
theorem lD:fC Try.prog 2 nS:=lC (by kernel_rfl) (by kernel_rfl) (by kernel_rfl) (by kernel_rfl) (by kernel_rfl) (by kernel_rfl) (by kernel_rfl) (Try.underlying2) (by kernel_rfl)
theorem gI:fC Try.prog 4 tq:=lC (by kernel_rfl) (by kernel_rfl) (by kernel_rfl) (by kernel_rfl) (by kernel_rfl) (by kernel_rfl) (by kernel_rfl) (Try.underlying4) (by kernel_rfl)
theorem rD:fC Try.prog 23 kK:=lC (by kernel_rfl) (by kernel_rfl) (by kernel_rfl) (by kernel_rfl) (by kernel_rfl) (by kernel_rfl) (by kernel_rfl) (dL Try.underlying23 (by kernel_rfl) (by kernel_rfl)) (by kernel_rfl)
theorem bF:fC Try.prog 90 mO:=lC (by kernel_rfl) (by kernel_rfl) (by kernel_rfl) (by kernel_rfl) (by kernel_rfl) (by kernel_rfl) (by kernel_rfl) (dL Try.underlying90 (by kernel_rfl) (by kernel_rfl)) (by kernel_rfl)
noncomputable def Q21.f (N:Nat)(b:Bool)(a:List Int):Option (Bool×List Int):=
 bif b then
  (Q3.f N a).bind fun c=>
  some (decide (c>0),a)
 else
 some (false,a)
noncomputable def Q21.E (N:Nat):rC:=yE [(4,tq),(88,qH),(90,mO)] [(77,Q3.ent N)] [] [] N [.cell 4 90] [.recd [.any,.il .u32 1]] 0 13
noncomputable def Q21.dec (v:V)(bs:List mA):Option (Bool×List Int):=match v,bs with
 | .agg [.c (.bool a),.il .u32 1 b],[]=>some (a,b)
 |_,_=>none
theorem Q21.f_eq (N:Nat)(a:Bool)(b:List Int):
  bB (Q21.E N) (bo Try.f59) [.c (.bool a),.agg [.il .u32 1 b]] [] Q21.dec=Q21.f N a b:=by kernel_rfl
noncomputable def Q21.ent (N:Nat):wA:=eF (Bool×List Int) 0 [true,true] [.any,.recd [.il .u32 1]] fun
 | [.c (.bool a),.agg [.il .u32 1 b]]=>some (Q21.f N a b,fun r=>.one (.agg [.c (.bool r.1),.il .u32 1 r.2]) [])
 |_=>none
theorem Q21.env (N:Nat):aB Try.prog (Q21.E N):=⟨(.cons gI (.cons jC (.cons bF .nil))),(.cons (Q3.ent_ok N) .nil)⟩
theorem Q21.spec (N:Nat)(a:Bool)(c:List Int)(r:Bool×List Int)(h:Q21.f N a c=some r):iA Try.prog 59 [.c (.bool a),.agg [.il .u32 1 c]] [] (.agg [.c (.bool r.1),.il .u32 1 r.2]) ([]):=sA (Q21.env N) dA Try.func59 cA.n ((Q21.f_eq ..).trans h) fun v b e=>by unfold Q21.dec at e;split at e<;>cases e;exact⟨rfl,rfl⟩
theorem Q21.ent_ok (N:Nat):oA Try.prog 59 (Q21.ent N):=xA fun v a e h=>by split at h;exact eC (Q:=fun e=>iA _ _ _ _ (e a).pick.1 (e a).pick.2) h fun k=>Q21.spec N _ _ a k;cases h
noncomputable def Q22.f (N:Nat)(a:Int):Option (Bool×List Int):=
 bif decide (a<0)then
  (Q5.f N (pA (0- (pA a)))).bind fun b=>
  some (true,b)
 else
 (Q5.f N (pA a)).bind fun c=>
 some (false,c)
noncomputable def Q22.E (N:Nat):rC:=yE [(2,nS),(4,tq),(88,qH),(90,mO),(115,cK)] [(76,Q5.ent N)] [] [] N [.cell 2 90] [.recd [.any,.il .u32 1]] 0 14
noncomputable def Q22.dec (v:V)(bs:List mA):Option (Bool×List Int):=match v,bs with
 | .agg [.c (.bool a),.il .u32 1 b],[]=>some (a,b)
 |_,_=>none
theorem Q22.f_eq (N:Nat)(a:Int):
  bB (Q22.E N) (bo Try.f58) [.c (.int .i64 a)] [] Q22.dec=Q22.f N a:=by kernel_rfl
noncomputable def Q22.ent (N:Nat):wA:=eF (Bool×List Int) 0 [true] [.any] fun
 | [.c (.int .i64 a)]=>some (Q22.f N a,fun r=>.one (.agg [.c (.bool r.1),.il .u32 1 r.2]) [])
 |_=>none
theorem Q22.env (N:Nat):aB Try.prog (Q22.E N):=⟨(.cons lD (.cons gI (.cons jC (.cons bF (.cons tE .nil))))),(.cons (Q5.ent_ok N) .nil)⟩
theorem Q22.spec (N:Nat)(a:Int)(r:Bool×List Int)(h:Q22.f N a=some r):iA Try.prog 58 [.c (.int .i64 a)] [] (.agg [.c (.bool r.1),.il .u32 1 r.2]) ([]):=sA (Q22.env N) dA Try.func58 cA.n ((Q22.f_eq ..).trans h) fun v b e=>by unfold Q22.dec at e;split at e<;>cases e;exact⟨rfl,rfl⟩
theorem Q22.ent_ok (N:Nat):oA Try.prog 58 (Q22.ent N):=xA fun v a e h=>by split at h;exact eC (Q:=fun e=>iA _ _ _ _ (e a).pick.1 (e a).pick.2) h fun k=>Q22.spec N _ a k;cases h
noncomputable def Q23.f (N:Nat)(b:Bool)(c:List Int):Option (Int×Bool):=
 (Q6.f N c).bind fun a=>
 bif !a.2 then
  some (0,false)
 else
 bif decide (a.1>9223372036854775808)then
  some (0,false)
 else
 bif a.1==9223372036854775808 then
  bif !b then
   some (0,false)
  else
  bif b then
   some (aA (pA (0-a.1)),true)
  else
  some (aA a.1,true)
 else
 bif b then
  some (aA (pA (0-a.1)),true)
 else
 some (aA a.1,true)
noncomputable def Q23.E (N:Nat):rC:=yE [(2,nS),(4,tq),(88,qH),(90,mO),(115,cK)] [(78,Q6.ent N)] [] [] N [.tmp 2,.tmp 3] [.any,.any] 0 36
noncomputable def Q23.dec (v:V)(bs:List mA):Option (Int×Bool):=match v,bs with
 | .tup [.c (.int .i64 a),.c (.bool b)],[]=>some (a,b)
 |_,_=>none
theorem Q23.f_eq (N:Nat)(a:Bool)(b:List Int):
  bB (Q23.E N) (bo Try.f60) [.agg [.c (.bool a),.il .u32 1 b]] [] Q23.dec=Q23.f N a b:=by kernel_rfl
noncomputable def Q23.ent (N:Nat):wA:=eF (Int×Bool) 0 [true] [.recd [.any,.il .u32 1]] fun
 | [.agg [.c (.bool a),.il .u32 1 b]]=>some (Q23.f N a b,fun r=>.one (.tup [.c (.int .i64 r.1),.c (.bool r.2)]) [])
 |_=>none
theorem Q23.env (N:Nat):aB Try.prog (Q23.E N):=⟨(.cons lD (.cons gI (.cons jC (.cons bF (.cons tE .nil))))),(.cons (Q6.ent_ok N) .nil)⟩
theorem Q23.spec (N:Nat)(a:Bool)(c:List Int)(r:Int×Bool)(h:Q23.f N a c=some r):iA Try.prog 60 [.agg [.c (.bool a),.il .u32 1 c]] [] (.tup [.c (.int .i64 r.1),.c (.bool r.2)]) ([]):=sA (Q23.env N) dA Try.func60 cA.n ((Q23.f_eq ..).trans h) fun v b e=>by unfold Q23.dec at e;split at e<;>cases e;exact⟨rfl,rfl⟩
theorem Q23.ent_ok (N:Nat):oA Try.prog 60 (Q23.ent N):=xA fun v a e h=>by split at h;exact eC (Q:=fun e=>iA _ _ _ _ (e a).pick.1 (e a).pick.2) h fun k=>Q23.spec N _ _ a k;cases h
noncomputable def Q24.f (N:Nat)(e:Bool)(c:List Int)(f:Bool)(d:List Int):Option (Bool×List Int×Int):=
 bif e==f then
  (Q8.f N c d).bind fun g=>
  (Q21.f N e g.1).bind fun h=>
  some (h.1,h.2,g.2)
 else
 (Q7.f N c d).bind fun k=>
 bif decide (k<0)then
  (Q10.f N d c).bind fun i=>
  (Q21.f N f i.1).bind fun j=>
  some (j.1,j.2,i.2)
 else
 (Q10.f N c d).bind fun a=>
 (Q21.f N e a.1).bind fun b=>
 some (b.1,b.2,a.2)
noncomputable def Q24.E (N:Nat):rC:=yE [(4,tq),(88,qH),(90,mO)] [(109,Q8.ent N),(59,Q21.ent N),(105,Q7.ent N),(110,Q10.ent N)] [] [] N [.cell 4 90,.tmp 5] [.recd [.any,.il .u32 1],.any] 0 49
noncomputable def Q24.dec (v:V)(bs:List mA):Option (Bool×List Int×Int):=match v,bs with
 | .tup [.agg [.c (.bool a),.il .u32 1 b],.c (.int .i64 c)],[]=>some (a,b,c)
 |_,_=>none
theorem Q24.f_eq (N:Nat)(a:Bool)(b:List Int)(c:Bool)(d:List Int):
  bB (Q24.E N) (bo Try.f91) [.agg [.c (.bool a),.il .u32 1 b],.agg [.c (.bool c),.il .u32 1 d]] [] Q24.dec=Q24.f N a b c d:=by kernel_rfl
noncomputable def Q24.ent (N:Nat):wA:=eF (Bool×List Int×Int) 0 [true,true] [.recd [.any,.il .u32 1],.recd [.any,.il .u32 1]] fun
 | [.agg [.c (.bool a),.il .u32 1 b],.agg [.c (.bool c),.il .u32 1 d]]=>some (Q24.f N a b c d,fun r=>.one (.tup [.agg [.c (.bool r.1),.il .u32 1 r.2.1],.c (.int .i64 r.2.2)]) [])
 |_=>none
theorem Q24.env (N:Nat):aB Try.prog (Q24.E N):=⟨(.cons gI (.cons jC (.cons bF .nil))),(.cons (Q8.ent_ok N) (.cons (Q21.ent_ok N) (.cons (Q7.ent_ok N) (.cons (Q10.ent_ok N) .nil))))⟩
theorem Q24.spec (N:Nat)(a:Bool)(c:List Int)(d:Bool)(f:List Int)(r:Bool×List Int×Int)(h:Q24.f N a c d f=some r):iA Try.prog 91 [.agg [.c (.bool a),.il .u32 1 c],.agg [.c (.bool d),.il .u32 1 f]] [] (.tup [.agg [.c (.bool r.1),.il .u32 1 r.2.1],.c (.int .i64 r.2.2)]) ([]):=sA (Q24.env N) dA Try.func91 cA.n ((Q24.f_eq ..).trans h) fun v b e=>by unfold Q24.dec at e;split at e<;>cases e;exact⟨rfl,rfl⟩
theorem Q24.ent_ok (N:Nat):oA Try.prog 91 (Q24.ent N):=xA fun v a e h=>by split at h;exact eC (Q:=fun e=>iA _ _ _ _ (e a).pick.1 (e a).pick.2) h fun k=>Q24.spec N _ _ _ _ a k;cases h
noncomputable def Q25.f (N:Nat)(c:Bool)(d:List Int)(e:Bool)(f:List Int):Option (Bool×List Int×Int):=
 (Q12.f N d f).bind fun a=>
 (Q21.f N (!(c==e)) a.1).bind fun b=>
 some (b.1,b.2,a.2)
noncomputable def Q25.E (N:Nat):rC:=yE [(4,tq),(88,qH),(90,mO)] [(108,Q12.ent N),(59,Q21.ent N)] [] [] N [.cell 4 90,.tmp 5] [.recd [.any,.il .u32 1],.any] 0 24
noncomputable def Q25.dec (v:V)(bs:List mA):Option (Bool×List Int×Int):=match v,bs with
 | .tup [.agg [.c (.bool a),.il .u32 1 b],.c (.int .i64 c)],[]=>some (a,b,c)
 |_,_=>none
theorem Q25.f_eq (N:Nat)(a:Bool)(b:List Int)(c:Bool)(d:List Int):
  bB (Q25.E N) (bo Try.f88) [.agg [.c (.bool a),.il .u32 1 b],.agg [.c (.bool c),.il .u32 1 d]] [] Q25.dec=Q25.f N a b c d:=by kernel_rfl
noncomputable def Q25.ent (N:Nat):wA:=eF (Bool×List Int×Int) 0 [true,true] [.recd [.any,.il .u32 1],.recd [.any,.il .u32 1]] fun
 | [.agg [.c (.bool a),.il .u32 1 b],.agg [.c (.bool c),.il .u32 1 d]]=>some (Q25.f N a b c d,fun r=>.one (.tup [.agg [.c (.bool r.1),.il .u32 1 r.2.1],.c (.int .i64 r.2.2)]) [])
 |_=>none
theorem Q25.env (N:Nat):aB Try.prog (Q25.E N):=⟨(.cons gI (.cons jC (.cons bF .nil))),(.cons (Q12.ent_ok N) (.cons (Q21.ent_ok N) .nil))⟩
theorem Q25.spec (N:Nat)(a:Bool)(c:List Int)(d:Bool)(f:List Int)(r:Bool×List Int×Int)(h:Q25.f N a c d f=some r):iA Try.prog 88 [.agg [.c (.bool a),.il .u32 1 c],.agg [.c (.bool d),.il .u32 1 f]] [] (.tup [.agg [.c (.bool r.1),.il .u32 1 r.2.1],.c (.int .i64 r.2.2)]) ([]):=sA (Q25.env N) dA Try.func88 cA.n ((Q25.f_eq ..).trans h) fun v b e=>by unfold Q25.dec at e;split at e<;>cases e;exact⟨rfl,rfl⟩
theorem Q25.ent_ok (N:Nat):oA Try.prog 88 (Q25.ent N):=xA fun v a e h=>by split at h;exact eC (Q:=fun e=>iA _ _ _ _ (e a).pick.1 (e a).pick.2) h fun k=>Q25.spec N _ _ _ _ a k;cases h
noncomputable def Q26.f (N:Nat)(a:Bool)(b:List Int):Option (Int):=
 (Q3.f N b).bind fun c=>
 bif c==0 then
  some 0
 else
 bif a then
  some (-1)
 else
 some 1
noncomputable def Q26.E (N:Nat):rC:=yE [(4,tq),(88,qH),(90,mO)] [(77,Q3.ent N)] [] [] N [.tmp 2] [.any] 0 11
noncomputable def Q26.dec (v:V)(bs:List mA):Option (Int):=match v,bs with
 | .c (.int .i64 a),[]=>some a
 |_,_=>none
theorem Q26.f_eq (N:Nat)(a:Bool)(b:List Int):
  bB (Q26.E N) (bo Try.f71) [.agg [.c (.bool a),.il .u32 1 b]] [] Q26.dec=Q26.f N a b:=by kernel_rfl
noncomputable def Q26.ent (N:Nat):wA:=eF (Int) 0 [true] [.recd [.any,.il .u32 1]] fun
 | [.agg [.c (.bool a),.il .u32 1 b]]=>some (Q26.f N a b,fun r=>.one (.c (.int .i64 r)) [])
 |_=>none
theorem Q26.env (N:Nat):aB Try.prog (Q26.E N):=⟨(.cons gI (.cons jC (.cons bF .nil))),(.cons (Q3.ent_ok N) .nil)⟩
theorem Q26.spec (N:Nat)(a:Bool)(c:List Int)(r:Int)(h:Q26.f N a c=some r):iA Try.prog 71 [.agg [.c (.bool a),.il .u32 1 c]] [] (.c (.int .i64 r)) ([]):=sA (Q26.env N) dA Try.func71 cA.n ((Q26.f_eq ..).trans h) fun v b e=>by unfold Q26.dec at e;split at e<;>cases e;exact⟨rfl,rfl⟩
theorem Q26.ent_ok (N:Nat):oA Try.prog 71 (Q26.ent N):=xA fun v a e h=>by split at h;exact eC (Q:=fun e=>iA _ _ _ _ (e a).pick.1 (e a).pick.2) h fun k=>Q26.spec N _ _ a k;cases h
noncomputable def Q27.f (N:Nat)(b:Bool)(c:List Int):Option (Bool×List Int):=
 (Q21.f N (!b) c).bind fun a=>
 some (a.1,a.2)
noncomputable def Q27.E (N:Nat):rC:=yE [(4,tq),(88,qH),(90,mO)] [(59,Q21.ent N)] [] [] N [.cell 2 90] [.recd [.any,.il .u32 1]] 0 9
noncomputable def Q27.dec (v:V)(bs:List mA):Option (Bool×List Int):=match v,bs with
 | .agg [.c (.bool a),.il .u32 1 b],[]=>some (a,b)
 |_,_=>none
theorem Q27.f_eq (N:Nat)(a:Bool)(b:List Int):
  bB (Q27.E N) (bo Try.f90) [.agg [.c (.bool a),.il .u32 1 b]] [] Q27.dec=Q27.f N a b:=by kernel_rfl
noncomputable def Q27.ent (N:Nat):wA:=eF (Bool×List Int) 0 [true] [.recd [.any,.il .u32 1]] fun
 | [.agg [.c (.bool a),.il .u32 1 b]]=>some (Q27.f N a b,fun r=>.one (.agg [.c (.bool r.1),.il .u32 1 r.2]) [])
 |_=>none
theorem Q27.env (N:Nat):aB Try.prog (Q27.E N):=⟨(.cons gI (.cons jC (.cons bF .nil))),(.cons (Q21.ent_ok N) .nil)⟩
theorem Q27.spec (N:Nat)(a:Bool)(c:List Int)(r:Bool×List Int)(h:Q27.f N a c=some r):iA Try.prog 90 [.agg [.c (.bool a),.il .u32 1 c]] [] (.agg [.c (.bool r.1),.il .u32 1 r.2]) ([]):=sA (Q27.env N) dA Try.func90 cA.n ((Q27.f_eq ..).trans h) fun v b e=>by unfold Q27.dec at e;split at e<;>cases e;exact⟨rfl,rfl⟩
theorem Q27.ent_ok (N:Nat):oA Try.prog 90 (Q27.ent N):=xA fun v a e h=>by split at h;exact eC (Q:=fun e=>iA _ _ _ _ (e a).pick.1 (e a).pick.2) h fun k=>Q27.spec N _ _ a k;cases h
noncomputable def Q28.f (N:Nat)(c:Bool)(d:List Int)(e:Bool)(f:List Int):Option (Bool×List Int×Int):=
 (Q27.f N e f).bind fun b=>
 (Q24.f N c d b.1 b.2).bind fun a=>
 some (a.1,a.2.1,a.2.2)
noncomputable def Q28.E (N:Nat):rC:=yE [(90,mO)] [(90,Q27.ent N),(91,Q24.ent N)] [] [] N [.cell 4 90,.tmp 5] [.recd [.any,.il .u32 1],.any] 0 12
noncomputable def Q28.dec (v:V)(bs:List mA):Option (Bool×List Int×Int):=match v,bs with
 | .tup [.agg [.c (.bool a),.il .u32 1 b],.c (.int .i64 c)],[]=>some (a,b,c)
 |_,_=>none
theorem Q28.f_eq (N:Nat)(a:Bool)(b:List Int)(c:Bool)(d:List Int):
  bB (Q28.E N) (bo Try.f87) [.agg [.c (.bool a),.il .u32 1 b],.agg [.c (.bool c),.il .u32 1 d]] [] Q28.dec=Q28.f N a b c d:=by kernel_rfl
noncomputable def Q28.ent (N:Nat):wA:=eF (Bool×List Int×Int) 0 [true,true] [.recd [.any,.il .u32 1],.recd [.any,.il .u32 1]] fun
 | [.agg [.c (.bool a),.il .u32 1 b],.agg [.c (.bool c),.il .u32 1 d]]=>some (Q28.f N a b c d,fun r=>.one (.tup [.agg [.c (.bool r.1),.il .u32 1 r.2.1],.c (.int .i64 r.2.2)]) [])
 |_=>none
theorem Q28.env (N:Nat):aB Try.prog (Q28.E N):=⟨(.cons bF .nil),(.cons (Q27.ent_ok N) (.cons (Q24.ent_ok N) .nil))⟩
theorem Q28.spec (N:Nat)(a:Bool)(c:List Int)(d:Bool)(f:List Int)(r:Bool×List Int×Int)(h:Q28.f N a c d f=some r):iA Try.prog 87 [.agg [.c (.bool a),.il .u32 1 c],.agg [.c (.bool d),.il .u32 1 f]] [] (.tup [.agg [.c (.bool r.1),.il .u32 1 r.2.1],.c (.int .i64 r.2.2)]) ([]):=sA (Q28.env N) dA Try.func87 cA.n ((Q28.f_eq ..).trans h) fun v b e=>by unfold Q28.dec at e;split at e<;>cases e;exact⟨rfl,rfl⟩
theorem Q28.ent_ok (N:Nat):oA Try.prog 87 (Q28.ent N):=xA fun v a e h=>by split at h;exact eC (Q:=fun e=>iA _ _ _ _ (e a).pick.1 (e a).pick.2) h fun k=>Q28.spec N _ _ _ _ a k;cases h
noncomputable def Q29.f (N:Nat)(h:Bool)(k:List Int)(i:Bool)(j:List Int):Option (Bool×List Int×Bool×List Int×Int):=
 (Q19.f N k j).bind fun a=>
 bif a.2.2 != 0 then
  some (false,[],false,[],a.2.2)
 else
 bif h then
  (Q3.f N a.2.1).bind fun l=>
  bif decide (l>0)then
   (Q5.f N 1).bind fun m=>
   (Q8.f N a.1 m).bind fun o=>
   (Q10.f N j a.2.1).bind fun p=>
   (Q21.f N (!(h==i)) o.1).bind fun b=>
   (Q21.f N false p.1).bind fun c=>
   some (b.1,b.2,c.1,c.2,0)
  else
  (Q21.f N (!(h==i)) a.1).bind fun d=>
  (Q21.f N false a.2.1).bind fun e=>
  some (d.1,d.2,e.1,e.2,0)
 else
 (Q21.f N (!(h==i)) a.1).bind fun f=>
 (Q21.f N false a.2.1).bind fun g=>
 some (f.1,f.2,g.1,g.2,0)
noncomputable def Q29.E (N:Nat):rC:=yE [(4,tq),(88,qH),(90,mO)] [(85,Q19.ent N),(77,Q3.ent N),(76,Q5.ent N),(109,Q8.ent N),(110,Q10.ent N),(59,Q21.ent N)] [] [] N [.cell 4 90,.cell 5 90,.tmp 6] [.recd [.any,.il .u32 1],.recd [.any,.il .u32 1],.any] 0 52
noncomputable def Q29.dec (v:V)(bs:List mA):Option (Bool×List Int×Bool×List Int×Int):=match v,bs with
 | .tup [.agg [.c (.bool a),.il .u32 1 b],.agg [.c (.bool c),.il .u32 1 d],.c (.int .i64 e)],[]=>some (a,b,c,d,e)
 |_,_=>none
theorem Q29.f_eq (N:Nat)(a:Bool)(b:List Int)(c:Bool)(d:List Int):
  bB (Q29.E N) (bo Try.f89) [.agg [.c (.bool a),.il .u32 1 b],.agg [.c (.bool c),.il .u32 1 d]] [] Q29.dec=Q29.f N a b c d:=by kernel_rfl
noncomputable def Q29.ent (N:Nat):wA:=eF (Bool×List Int×Bool×List Int×Int) 0 [true,true] [.recd [.any,.il .u32 1],.recd [.any,.il .u32 1]] fun
 | [.agg [.c (.bool a),.il .u32 1 b],.agg [.c (.bool c),.il .u32 1 d]]=>some (Q29.f N a b c d,fun r=>.one (.tup [.agg [.c (.bool r.1),.il .u32 1 r.2.1],.agg [.c (.bool r.2.2.1),.il .u32 1 r.2.2.2.1],.c (.int .i64 r.2.2.2.2)]) [])
 |_=>none
theorem Q29.env (N:Nat):aB Try.prog (Q29.E N):=⟨(.cons gI (.cons jC (.cons bF .nil))),(.cons (Q19.ent_ok N) (.cons (Q3.ent_ok N) (.cons (Q5.ent_ok N) (.cons (Q8.ent_ok N) (.cons (Q10.ent_ok N) (.cons (Q21.ent_ok N) .nil))))))⟩
theorem Q29.spec (N:Nat)(a:Bool)(c:List Int)(d:Bool)(f:List Int)(r:Bool×List Int×Bool×List Int×Int)(h:Q29.f N a c d f=some r):iA Try.prog 89 [.agg [.c (.bool a),.il .u32 1 c],.agg [.c (.bool d),.il .u32 1 f]] [] (.tup [.agg [.c (.bool r.1),.il .u32 1 r.2.1],.agg [.c (.bool r.2.2.1),.il .u32 1 r.2.2.2.1],.c (.int .i64 r.2.2.2.2)]) ([]):=sA (Q29.env N) dA Try.func89 cA.n ((Q29.f_eq ..).trans h) fun v b e=>by unfold Q29.dec at e;split at e<;>cases e;exact⟨rfl,rfl⟩
theorem Q29.ent_ok (N:Nat):oA Try.prog 89 (Q29.ent N):=xA fun v a e h=>by split at h;exact eC (Q:=fun e=>iA _ _ _ _ (e a).pick.1 (e a).pick.2) h fun k=>Q29.spec N _ _ _ _ a k;cases h
noncomputable def Q30.f (N:Nat)(b:Bool)(c:List Int)(d:Bool)(e:List Int):Option (Bool×List Int×Int):=
 (Q29.f N b c d e).bind fun a=>
 bif a.2.2.2.2 != 0 then
  some (false,[],a.2.2.2.2)
 else
 (Q26.f N a.2.2.1 a.2.2.2.1).bind fun f=>
 bif f != 0 then
  some (false,[],2)
 else
 some (a.1,a.2.1,0)
noncomputable def Q30.E (N:Nat):rC:=yE [(4,tq),(88,qH),(90,mO)] [(89,Q29.ent N),(71,Q26.ent N)] [] [] N [.cell 4 90,.tmp 5] [.recd [.any,.il .u32 1],.any] 0 27
noncomputable def Q30.dec (v:V)(bs:List mA):Option (Bool×List Int×Int):=match v,bs with
 | .tup [.agg [.c (.bool a),.il .u32 1 b],.c (.int .i64 c)],[]=>some (a,b,c)
 |_,_=>none
theorem Q30.f_eq (N:Nat)(a:Bool)(b:List Int)(c:Bool)(d:List Int):
  bB (Q30.E N) (bo Try.f75) [.agg [.c (.bool a),.il .u32 1 b],.agg [.c (.bool c),.il .u32 1 d]] [] Q30.dec=Q30.f N a b c d:=by kernel_rfl
noncomputable def Q30.ent (N:Nat):wA:=eF (Bool×List Int×Int) 0 [true,true] [.recd [.any,.il .u32 1],.recd [.any,.il .u32 1]] fun
 | [.agg [.c (.bool a),.il .u32 1 b],.agg [.c (.bool c),.il .u32 1 d]]=>some (Q30.f N a b c d,fun r=>.one (.tup [.agg [.c (.bool r.1),.il .u32 1 r.2.1],.c (.int .i64 r.2.2)]) [])
 |_=>none
theorem Q30.env (N:Nat):aB Try.prog (Q30.E N):=⟨(.cons gI (.cons jC (.cons bF .nil))),(.cons (Q29.ent_ok N) (.cons (Q26.ent_ok N) .nil))⟩
theorem Q30.spec (N:Nat)(a:Bool)(c:List Int)(d:Bool)(f:List Int)(r:Bool×List Int×Int)(h:Q30.f N a c d f=some r):iA Try.prog 75 [.agg [.c (.bool a),.il .u32 1 c],.agg [.c (.bool d),.il .u32 1 f]] [] (.tup [.agg [.c (.bool r.1),.il .u32 1 r.2.1],.c (.int .i64 r.2.2)]) ([]):=sA (Q30.env N) dA Try.func75 cA.n ((Q30.f_eq ..).trans h) fun v b e=>by unfold Q30.dec at e;split at e<;>cases e;exact⟨rfl,rfl⟩
theorem Q30.ent_ok (N:Nat):oA Try.prog 75 (Q30.ent N):=xA fun v a e h=>by split at h;exact eC (Q:=fun e=>iA _ _ _ _ (e a).pick.1 (e a).pick.2) h fun k=>Q30.spec N _ _ _ _ a k;cases h
noncomputable def Q31.f (N:Nat)(a:Bool)(b:List Int)(c:Int):Option (Bool×List Int):=
 some (a,b)
noncomputable def Q31.E (N:Nat):rC:=yE [(90,mO)] [] [] [] N [.cell 4 90] [.recd [.any,.il .u32 1]] 0 6
noncomputable def Q31.dec (v:V)(bs:List mA):Option (Bool×List Int):=match v,bs with
 | .agg [.c (.bool a),.il .u32 1 b],[]=>some (a,b)
 |_,_=>none
theorem Q31.f_eq (N:Nat)(a:Bool)(b:List Int)(c:Int):
  bB (Q31.E N) (bo Try.f74) [.agg [.c (.bool a),.il .u32 1 b],.c (.int .i64 c)] [] Q31.dec=Q31.f N a b c:=by kernel_rfl
noncomputable def Q31.ent (N:Nat):wA:=eF (Bool×List Int) 0 [true,true] [.recd [.any,.il .u32 1],.any] fun
 | [.agg [.c (.bool a),.il .u32 1 b],.c (.int .i64 c)]=>some (Q31.f N a b c,fun r=>.one (.agg [.c (.bool r.1),.il .u32 1 r.2]) [])
 |_=>none
theorem Q31.env (N:Nat):aB Try.prog (Q31.E N):=⟨(.cons bF .nil),.nil⟩
theorem Q31.spec (N:Nat)(a:Bool)(c:List Int)(d:Int)(r:Bool×List Int)(h:Q31.f N a c d=some r):iA Try.prog 74 [.agg [.c (.bool a),.il .u32 1 c],.c (.int .i64 d)] [] (.agg [.c (.bool r.1),.il .u32 1 r.2]) ([]):=sA (Q31.env N) dA Try.func74 cA.n ((Q31.f_eq ..).trans h) fun v b e=>by unfold Q31.dec at e;split at e<;>cases e;exact⟨rfl,rfl⟩
theorem Q31.ent_ok (N:Nat):oA Try.prog 74 (Q31.ent N):=xA fun v a e h=>by split at h;exact eC (Q:=fun e=>iA _ _ _ _ (e a).pick.1 (e a).pick.2) h fun k=>Q31.spec N _ _ _ a k;cases h
noncomputable def Q32.f (N:Nat)(e:Bool)(f:List Int)(g:Bool)(h:List Int)(i:Bool)(j:List Int):Option (Bool×List Int):=
 (Q25.f N g h i j).bind fun b=>
 (Q31.f N b.1 b.2.1 b.2.2).bind fun d=>
 (Q28.f N e f d.1 d.2).bind fun c=>
 (Q31.f N c.1 c.2.1 c.2.2).bind fun a=>
 some (a.1,a.2)
noncomputable def Q32.E (N:Nat):rC:=yE [(90,mO)] [(88,Q25.ent N),(74,Q31.ent N),(87,Q28.ent N)] [] [] N [.cell 6 90] [.recd [.any,.il .u32 1]] 0 18
noncomputable def Q32.dec (v:V)(bs:List mA):Option (Bool×List Int):=match v,bs with
 | .agg [.c (.bool a),.il .u32 1 b],[]=>some (a,b)
 |_,_=>none
theorem Q32.f_eq (N:Nat)(a:Bool)(b:List Int)(c:Bool)(d:List Int)(e:Bool)(f:List Int):
  bB (Q32.E N) (bo Try.f86) [.agg [.c (.bool a),.il .u32 1 b],.agg [.c (.bool c),.il .u32 1 d],.agg [.c (.bool e),.il .u32 1 f]] [] Q32.dec=Q32.f N a b c d e f:=by kernel_rfl
noncomputable def Q32.ent (N:Nat):wA:=eF (Bool×List Int) 0 [true,true,true] [.recd [.any,.il .u32 1],.recd [.any,.il .u32 1],.recd [.any,.il .u32 1]] fun
 | [.agg [.c (.bool a),.il .u32 1 b],.agg [.c (.bool c),.il .u32 1 d],.agg [.c (.bool e),.il .u32 1 f]]=>some (Q32.f N a b c d e f,fun r=>.one (.agg [.c (.bool r.1),.il .u32 1 r.2]) [])
 |_=>none
theorem Q32.env (N:Nat):aB Try.prog (Q32.E N):=⟨(.cons bF .nil),(.cons (Q25.ent_ok N) (.cons (Q31.ent_ok N) (.cons (Q28.ent_ok N) .nil)))⟩
theorem Q32.spec (N:Nat)(a:Bool)(c:List Int)(d:Bool)(f:List Int)(g:Bool)(i:List Int)(r:Bool×List Int)(h:Q32.f N a c d f g i=some r):iA Try.prog 86 [.agg [.c (.bool a),.il .u32 1 c],.agg [.c (.bool d),.il .u32 1 f],.agg [.c (.bool g),.il .u32 1 i]] [] (.agg [.c (.bool r.1),.il .u32 1 r.2]) ([]):=sA (Q32.env N) dA Try.func86 cA.n ((Q32.f_eq ..).trans h) fun v b e=>by unfold Q32.dec at e;split at e<;>cases e;exact⟨rfl,rfl⟩
theorem Q32.ent_ok (N:Nat):oA Try.prog 86 (Q32.ent N):=xA fun v a e h=>by split at h;exact eC (Q:=fun e=>iA _ _ _ _ (e a).pick.1 (e a).pick.2) h fun k=>Q32.spec N _ _ _ _ _ _ a k;cases h
noncomputable def Q33.l5 {R:Type}(N:Nat):Nat→Bool→List Int→Bool→List Int→Bool→Bool→Bool→List Int→Bool→List Int→Bool→List Int→Bool→List Int→Bool→List Int→Bool→List Int→(Bool→List Int→Bool→List Int→Bool→Bool→Bool→List Int→Bool→List Int→Option R)→Option R
 |0,_,_,_,_,_,_,_,_,_,_,_,_,_,_,_,_,_,_,_=>none
 |n+1,x,f,g,h,i,j,b,c,u,v,k,l,m,o,p,q,r,s,w=>
  (Q26.f N b c).bind fun t=>
  bif t==0 then
   w x f g h i j k l p q
  else
  (Q29.f N u v b c).bind fun a=>
  (Q32.f N k l a.1 a.2.1 m o).bind fun d=>
  (Q32.f N p q a.1 a.2.1 r s).bind fun e=>
  Q33.l5 N n x f g h i j a.2.2.1 a.2.2.2.1 b c m o d.1 d.2 r s e.1 e.2 w
noncomputable def Q33.f (N:Nat)(r:Bool)(s:List Int)(j:Bool)(k:List Int):Option (Bool×List Int×Bool×List Int):=
 (Q29.f N r s j k).bind fun i=>
 (Q22.f N 1).bind fun t=>
 (Q22.f N 1).bind fun u=>
 (Q27.f N i.1 i.2.1).bind fun v=>
 Q33.l5 N N r s j k false false i.2.2.1 i.2.2.2.1 j k false [] t.1 t.2 u.1 u.2 v.1 v.2
  (fun m o p q w x c d g h=>
   (Q26.f N c d).bind fun l=>
   bif decide (l<0)then
    (Q24.f N c d p q).bind fun a=>
    (Q31.f N a.1 a.2.1 a.2.2).bind fun e=>
    (Q28.f N g h m o).bind fun b=>
    (Q31.f N b.1 b.2.1 b.2.2).bind fun f=>
    some (e.1,e.2,f.1,f.2)
   else
   some (c,d,g,h))
noncomputable def Q33.h5:bD:=⟨[(2,.box [.any,.il .u32 1]),(3,.box [.any,.il .u32 1]),(4,.box [.any,.any]),(5,.box [.any,.any]),(6,.any),(8,.box [.any,.il .u32 1]),(10,.box [.any,.il .u32 1]),(11,.box [.any,.il .u32 1]),(12,.box [.any,.il .u32 1]),(13,.box [.any,.il .u32 1]),(14,.box [.any,.il .u32 1])],[(2,.box [.any,.il .u32 1]),(3,.box [.any,.il .u32 1]),(4,.box [.any,.any]),(5,.box [.any,.any]),(11,.box [.any,.il .u32 1]),(13,.box [.any,.il .u32 1])]⟩
noncomputable def Q33.c5 (N:Nat):iI:=⟨fun vs H k=>match vs,H with
 | [.ptr 0 0 2,.ptr 1 0 2,.ptr 2 0 2,.ptr 3 0 2,.fn 86 [] [],.ptr 4 0 2,.ptr 5 0 2,.ptr 6 0 2,.ptr 7 0 2,.ptr 8 0 2,.ptr 9 0 2],[.vals [.c (.bool x9),.il .u32 1 a],.vals [.c (.bool b),.il .u32 1 c],.vals [.c (.bool d),.c (.slice none 0 0)],.vals [.c (.bool e),.c (.slice none 0 0)],.vals [.c (.bool f),.il .u32 1 g],.vals [.c (.bool h),.il .u32 1 i],.vals [.c (.bool j),.il .u32 1 l],.vals [.c (.bool m),.il .u32 1 o],.vals [.c (.bool p),.il .u32 1 q],.vals [.c (.bool r),.il .u32 1 s]]=>Q33.l5 N N x9 a b c d e f g h i j l m o p q r s (fun t u v w x y z x35 x36 x37=>k (.exit 0) ⟨yC Q33.h5.out [.ptr 0 0 2,.ptr 1 0 2,.ptr 2 0 2,.ptr 3 0 2,.ptr 4 0 2,.ptr 5 0 2],[.vals [.c (.bool t),.il .u32 1 u],.vals [.c (.bool v),.il .u32 1 w],.vals [.c (.bool x),.c (.slice none 0 0)],.vals [.c (.bool y),.c (.slice none 0 0)],.vals [.c (.bool z),.il .u32 1 x35],.vals [.c (.bool x36),.il .u32 1 x37]]⟩)
 |_,_=>none⟩
noncomputable def Q33.E (N:Nat):rC:=yE [(4,tq),(88,qH),(90,mO)] [(89,Q29.ent N),(58,Q22.ent N),(90,Q27.ent N),(71,Q26.ent N),(86,Q32.ent N),(91,Q24.ent N),(74,Q31.ent N),(87,Q28.ent N)] [(5,Q33.h5)] [(5,Q33.c5 N)] N [.cell 4 90,.cell 5 90] [.recd [.any,.il .u32 1],.recd [.any,.il .u32 1]] 0 72
noncomputable def Q33.b5:Code:=qA ((fA (bo Try.f73)).getD 1 .skip)
theorem Q33.l5_eq {R:Type}(N n:Nat)(x9:Bool)(a:List Int)(b:Bool)(c:List Int)(d e f:Bool)(g:List Int)(h:Bool)(i:List Int)(j:Bool)(l:List Int)(m:Bool)(o:List Int)(p:Bool)(q:List Int)(r:Bool)(t:List Int)(k:Ex→St→Option R):
  iB 0 Q33.h5 (fun s k=>eB (Q33.E N) 390 Q33.b5 s k) n [.ptr 0 0 2,.ptr 1 0 2,.ptr 2 0 2,.ptr 3 0 2,.fn 86 [] [],.ptr 4 0 2,.ptr 5 0 2,.ptr 6 0 2,.ptr 7 0 2,.ptr 8 0 2,.ptr 9 0 2] [.vals [.c (.bool x9),.il .u32 1 a],.vals [.c (.bool b),.il .u32 1 c],.vals [.c (.bool d),.c (.slice none 0 0)],.vals [.c (.bool e),.c (.slice none 0 0)],.vals [.c (.bool f),.il .u32 1 g],.vals [.c (.bool h),.il .u32 1 i],.vals [.c (.bool j),.il .u32 1 l],.vals [.c (.bool m),.il .u32 1 o],.vals [.c (.bool p),.il .u32 1 q],.vals [.c (.bool r),.il .u32 1 t]] k=Q33.l5 N n x9 a b c d e f g h i j l m o p q r t (fun u v w x y z x34 x35 x36 x37=>k (.exit 0) ⟨yC Q33.h5.out [.ptr 0 0 2,.ptr 1 0 2,.ptr 2 0 2,.ptr 3 0 2,.ptr 4 0 2,.ptr 5 0 2],[.vals [.c (.bool u),.il .u32 1 v],.vals [.c (.bool w),.il .u32 1 x],.vals [.c (.bool y),.c (.slice none 0 0)],.vals [.c (.bool z),.c (.slice none 0 0)],.vals [.c (.bool x34),.il .u32 1 x35],.vals [.c (.bool x36),.il .u32 1 x37]]⟩):=by
 induction n generalizing x9 a b c d e f g h i j l m o p q r t with
 |zero=>kernel_rfl
 |succ n ih=>
  simp only[Q33.l5,←ih]
  kernel_rfl
noncomputable def Q33.dec (v:V)(bs:List mA):Option (Bool×List Int×Bool×List Int):=match v,bs with
 | .tup [.agg [.c (.bool a),.il .u32 1 b],.agg [.c (.bool c),.il .u32 1 d]],[]=>some (a,b,c,d)
 |_,_=>none
theorem Q33.f_eq (N:Nat)(a:Bool)(b:List Int)(c:Bool)(d:List Int):
  bB (Q33.E N) (bo Try.f73) [.agg [.c (.bool a),.il .u32 1 b],.agg [.c (.bool c),.il .u32 1 d]] [] Q33.dec=Q33.f N a b c d:=by kernel_rfl
noncomputable def Q33.ent (N:Nat):wA:=eF (Bool×List Int×Bool×List Int) 0 [true,true] [.recd [.any,.il .u32 1],.recd [.any,.il .u32 1]] fun
 | [.agg [.c (.bool a),.il .u32 1 b],.agg [.c (.bool c),.il .u32 1 d]]=>some (Q33.f N a b c d,fun r=>.one (.tup [.agg [.c (.bool r.1),.il .u32 1 r.2.1],.agg [.c (.bool r.2.2.1),.il .u32 1 r.2.2.2]]) [])
 |_=>none
theorem Q33.env (N:Nat):aB Try.prog (Q33.E N):=⟨(.cons gI (.cons jC (.cons bF .nil))),(.cons (Q29.ent_ok N) (.cons (Q22.ent_ok N) (.cons (Q27.ent_ok N) (.cons (Q26.ent_ok N) (.cons (Q32.ent_ok N) (.cons (Q24.ent_ok N) (.cons (Q31.ent_ok N) (.cons (Q28.ent_ok N) .nil))))))))⟩
theorem Q33.k5 (N:Nat):xB Try.prog Try.f73 (Q33.E N) (.loop Q33.b5):=tC (Q33.env N) dA 390 (c:=Q33.c5 N) cA.n fun R vs H k r h=>by unfold Q33.c5 at h;dsimp only at h;split at h;exact⟨_,Q33.l5_eq .. ▸h⟩;cases h
theorem Q33.spec (N:Nat)(a:Bool)(c:List Int)(d:Bool)(f:List Int)(r:Bool×List Int×Bool×List Int)(h:Q33.f N a c d f=some r):iA Try.prog 73 [.agg [.c (.bool a),.il .u32 1 c],.agg [.c (.bool d),.il .u32 1 f]] [] (.tup [.agg [.c (.bool r.1),.il .u32 1 r.2.1],.agg [.c (.bool r.2.2.1),.il .u32 1 r.2.2.2]]) ([]):=sA (Q33.env N) dA Try.func73 (cA.of (l:=[(.scope (qA ((fA (bo Try.f73)).getD 0 .skip))),(.loop (qA ((fA (bo Try.f73)).getD 1 .skip)))]) (by kernel_rfl) (cA.cons (lR (by kernel_rfl)) (cA.cons (Q33.k5 N) cA.nil))) ((Q33.f_eq ..).trans h) fun v b e=>by unfold Q33.dec at e;split at e<;>cases e;exact⟨rfl,rfl⟩
theorem Q33.ent_ok (N:Nat):oA Try.prog 73 (Q33.ent N):=xA fun v a e h=>by split at h;exact eC (Q:=fun e=>iA _ _ _ _ (e a).pick.1 (e a).pick.2) h fun k=>Q33.spec N _ _ _ _ a k;cases h
noncomputable def Q34.f (N:Nat)(k:Bool)(h:List Int)(l:Bool)(j:List Int):Option (List Int×Bool×List Int×Bool×List Int):=
 (Q26.f N l j).bind fun p=>
 bif p==0 then
  (Q26.f N k h).bind fun q=>
  (Q22.f N q).bind fun m=>
  some (h,m.1,m.2,false,[])
 else
 (Q20.f N h j).bind fun o=>
 (Q21.f N false o).bind fun i=>
 (Q30.f N k h i.1 i.2).bind fun b=>
 (Q31.f N b.1 b.2.1 b.2.2).bind fun d=>
 (Q21.f N false j).bind fun e=>
 (Q30.f N e.1 e.2 i.1 i.2).bind fun c=>
 (Q31.f N c.1 c.2.1 c.2.2).bind fun f=>
 (Q33.f N d.1 d.2 f.1 f.2).bind fun a=>
 (Q21.f N (!(a.2.2.1==l)) a.2.2.2).bind fun g=>
 some (o,a.1,a.2.1,g.1,g.2)
noncomputable def Q34.E (N:Nat):rC:=yE [(4,tq),(88,qH),(90,mO)] [(71,Q26.ent N),(58,Q22.ent N),(72,Q20.ent N),(59,Q21.ent N),(75,Q30.ent N),(74,Q31.ent N),(73,Q33.ent N)] [] [] N [.cell 4 88,.cell 5 90,.cell 6 90] [.recd [.il .u32 1],.recd [.any,.il .u32 1],.recd [.any,.il .u32 1]] 0 52
noncomputable def Q34.dec (v:V)(bs:List mA):Option (List Int×Bool×List Int×Bool×List Int):=match v,bs with
 | .tup [.agg [.il .u32 1 a],.agg [.c (.bool b),.il .u32 1 c],.agg [.c (.bool d),.il .u32 1 e]],[]=>some (a,b,c,d,e)
 |_,_=>none
theorem Q34.f_eq (N:Nat)(a:Bool)(b:List Int)(c:Bool)(d:List Int):
  bB (Q34.E N) (bo Try.f57) [.agg [.c (.bool a),.il .u32 1 b],.agg [.c (.bool c),.il .u32 1 d]] [] Q34.dec=Q34.f N a b c d:=by kernel_rfl
noncomputable def Q34.ent (N:Nat):wA:=eF (List Int×Bool×List Int×Bool×List Int) 0 [true,true] [.recd [.any,.il .u32 1],.recd [.any,.il .u32 1]] fun
 | [.agg [.c (.bool a),.il .u32 1 b],.agg [.c (.bool c),.il .u32 1 d]]=>some (Q34.f N a b c d,fun r=>.one (.tup [.agg [.il .u32 1 r.1],.agg [.c (.bool r.2.1),.il .u32 1 r.2.2.1],.agg [.c (.bool r.2.2.2.1),.il .u32 1 r.2.2.2.2]]) [])
 |_=>none
theorem Q34.env (N:Nat):aB Try.prog (Q34.E N):=⟨(.cons gI (.cons jC (.cons bF .nil))),(.cons (Q26.ent_ok N) (.cons (Q22.ent_ok N) (.cons (Q20.ent_ok N) (.cons (Q21.ent_ok N) (.cons (Q30.ent_ok N) (.cons (Q31.ent_ok N) (.cons (Q33.ent_ok N) .nil)))))))⟩
theorem Q34.spec (N:Nat)(a:Bool)(c:List Int)(d:Bool)(f:List Int)(r:List Int×Bool×List Int×Bool×List Int)(h:Q34.f N a c d f=some r):iA Try.prog 57 [.agg [.c (.bool a),.il .u32 1 c],.agg [.c (.bool d),.il .u32 1 f]] [] (.tup [.agg [.il .u32 1 r.1],.agg [.c (.bool r.2.1),.il .u32 1 r.2.2.1],.agg [.c (.bool r.2.2.2.1),.il .u32 1 r.2.2.2.2]]) ([]):=sA (Q34.env N) dA Try.func57 cA.n ((Q34.f_eq ..).trans h) fun v b e=>by unfold Q34.dec at e;split at e<;>cases e;exact⟨rfl,rfl⟩
theorem Q34.ent_ok (N:Nat):oA Try.prog 57 (Q34.ent N):=xA fun v a e h=>by split at h;exact eC (Q:=fun e=>iA _ _ _ _ (e a).pick.1 (e a).pick.2) h fun k=>Q34.spec N _ _ _ _ a k;cases h
noncomputable def Q35.f (N:Nat)(b c:Int):Option (Int×Int×Int):=
 bif decide ((xg b c)>4611686018427387904)then
  some (0,0,0)
 else
 bif decide ((By b c)<(-4611686018427387904))then
  some (0,0,0)
 else
 (Q22.f N b).bind fun d=>
 (Q22.f N c).bind fun e=>
 (Q34.f N d.1 d.2 e.1 e.2).bind fun a=>
 (Q21.f N false a.1).bind fun f=>
 (Q23.f N f.1 f.2).bind fun g=>
 (Q23.f N a.2.1 a.2.2.1).bind fun h=>
 (Q23.f N a.2.2.2.1 a.2.2.2.2).bind fun i=>
 some (g.1,h.1,i.1)
noncomputable def Q35.E (N:Nat):rC:=yE [(88,qH),(90,mO)] [(58,Q22.ent N),(57,Q34.ent N),(59,Q21.ent N),(60,Q23.ent N)] [] [] N [.tmp 4,.tmp 5,.tmp 6] [.any,.any,.any] 0 48
noncomputable def Q35.dec (v:V)(bs:List mA):Option (Int×Int×Int):=match v,bs with
 | .tup [.c (.int .i64 a),.c (.int .i64 b),.c (.int .i64 c)],[]=>some (a,b,c)
 |_,_=>none
theorem Q35.f_eq (N:Nat)(a b:Int):
  bB (Q35.E N) (bo Try.f48) [.c (.int .i64 a),.c (.int .i64 b)] [] Q35.dec=Q35.f N a b:=by kernel_rfl
noncomputable def Q35.ent (N:Nat):wA:=eF (Int×Int×Int) 0 [true,true] [.any,.any] fun
 | [.c (.int .i64 a),.c (.int .i64 b)]=>some (Q35.f N a b,fun r=>.one (.tup [.c (.int .i64 r.1),.c (.int .i64 r.2.1),.c (.int .i64 r.2.2)]) [])
 |_=>none
theorem Q35.env (N:Nat):aB Try.prog (Q35.E N):=⟨(.cons jC (.cons bF .nil)),(.cons (Q22.ent_ok N) (.cons (Q34.ent_ok N) (.cons (Q21.ent_ok N) (.cons (Q23.ent_ok N) .nil))))⟩
theorem Q35.spec (N:Nat)(a c:Int)(r:Int×Int×Int)(h:Q35.f N a c=some r):iA Try.prog 48 [.c (.int .i64 a),.c (.int .i64 c)] [] (.tup [.c (.int .i64 r.1),.c (.int .i64 r.2.1),.c (.int .i64 r.2.2)]) ([]):=sA (Q35.env N) dA Try.func48 cA.n ((Q35.f_eq ..).trans h) fun v b e=>by unfold Q35.dec at e;split at e<;>cases e;exact⟨rfl,rfl⟩
theorem Q35.ent_ok (N:Nat):oA Try.prog 48 (Q35.ent N):=xA fun v a e h=>by split at h;exact eC (Q:=fun e=>iA _ _ _ _ (e a).pick.1 (e a).pick.2) h fun k=>Q35.spec N _ _ a k;cases h
noncomputable def Q36.f (N:Nat)(a b c:Int):Option (Bool):=
 bif decide ((xg (xg a b) c)≤1073741824)then
  some (decide ((By (By a b) c)≥(-1073741824)))
 else
 some false
noncomputable def Q36.E (N:Nat):rC:=yE [(2,nS),(23,kK)] [] [] [] N [.tmp 2] [.any] 0 21
noncomputable def Q36.dec (v:V)(bs:List mA):Option (Bool):=match v,bs with
 | .c (.bool a),[]=>some a
 |_,_=>none
theorem Q36.f_eq (N:Nat)(a b c:Int):
  bB (Q36.E N) (bo Try.f44) [.agg [.c (.int .i64 a),.c (.int .i64 b),.c (.int .i64 c)]] [] Q36.dec=Q36.f N a b c:=by kernel_rfl
noncomputable def Q36.ent (N:Nat):wA:=eF (Bool) 0 [true] [.recd [.any,.any,.any]] fun
 | [.agg [.c (.int .i64 a),.c (.int .i64 b),.c (.int .i64 c)]]=>some (Q36.f N a b c,fun r=>.one (.c (.bool r)) [])
 |_=>none
theorem Q36.env (N:Nat):aB Try.prog (Q36.E N):=⟨(.cons lD (.cons rD .nil)),.nil⟩
theorem Q36.spec (N:Nat)(a c d:Int)(r:Bool)(h:Q36.f N a c d=some r):iA Try.prog 44 [.agg [.c (.int .i64 a),.c (.int .i64 c),.c (.int .i64 d)]] [] (.c (.bool r)) ([]):=sA (Q36.env N) dA Try.func44 cA.n ((Q36.f_eq ..).trans h) fun v b e=>by unfold Q36.dec at e;split at e<;>cases e;exact⟨rfl,rfl⟩
theorem Q36.ent_ok (N:Nat):oA Try.prog 44 (Q36.ent N):=xA fun v a e h=>by split at h;exact eC (Q:=fun e=>iA _ _ _ _ (e a).pick.1 (e a).pick.2) h fun k=>Q36.spec N _ _ _ a k;cases h
noncomputable def Q37.f (N:Nat)(b a c:Int):Option (Int):=
 (Q36.f N b a c).bind fun d=>
 bif !d then
  some 0
 else
 some (aA ((aA (a*a))- (aA ((aA (4*b))*c))))
noncomputable def Q37.E (N:Nat):rC:=yE [(2,nS),(23,kK)] [(44,Q36.ent N)] [] [] N [.tmp 2] [.any] 0 18
noncomputable def Q37.dec (v:V)(bs:List mA):Option (Int):=match v,bs with
 | .c (.int .i64 a),[]=>some a
 |_,_=>none
theorem Q37.f_eq (N:Nat)(a b c:Int):
  bB (Q37.E N) (bo Try.f24) [.agg [.c (.int .i64 a),.c (.int .i64 b),.c (.int .i64 c)]] [] Q37.dec=Q37.f N a b c:=by kernel_rfl
noncomputable def Q37.ent (N:Nat):wA:=eF (Int) 0 [true] [.recd [.any,.any,.any]] fun
 | [.agg [.c (.int .i64 a),.c (.int .i64 b),.c (.int .i64 c)]]=>some (Q37.f N a b c,fun r=>.one (.c (.int .i64 r)) [])
 |_=>none
theorem Q37.env (N:Nat):aB Try.prog (Q37.E N):=⟨(.cons lD (.cons rD .nil)),(.cons (Q36.ent_ok N) .nil)⟩
theorem Q37.spec (N:Nat)(a c d r:Int)(h:Q37.f N a c d=some r):iA Try.prog 24 [.agg [.c (.int .i64 a),.c (.int .i64 c),.c (.int .i64 d)]] [] (.c (.int .i64 r)) ([]):=sA (Q37.env N) dA Try.func24 cA.n ((Q37.f_eq ..).trans h) fun v b e=>by unfold Q37.dec at e;split at e<;>cases e;exact⟨rfl,rfl⟩
theorem Q37.ent_ok (N:Nat):oA Try.prog 24 (Q37.ent N):=xA fun v a e h=>by split at h;exact eC (Q:=fun e=>iA _ _ _ _ (e a).pick.1 (e a).pick.2) h fun k=>Q37.spec N _ _ _ a k;cases h
noncomputable def Q38.f (N:Nat)(a b c:Int):Option (Int):=
 (Q37.f N a b c).bind fun d=>
 (Q36.f N a b c).bind fun e=>
 bif !e then
  some 3
 else
 bif decide (a≤0)then
  some 81
 else
 bif decide (d≥0)then
  some 81
 else
 bif decide (d<(-4294967296))then
  some 80
 else
 some 0
noncomputable def Q38.E (N:Nat):rC:=yE [(2,nS),(23,kK)] [(24,Q37.ent N),(44,Q36.ent N)] [] [] N [.tmp 2] [.any] 0 21
noncomputable def Q38.dec (v:V)(bs:List mA):Option (Int):=match v,bs with
 | .c (.int .i64 a),[]=>some a
 |_,_=>none
theorem Q38.f_eq (N:Nat)(a b c:Int):
  bB (Q38.E N) (bo Try.f29) [.agg [.c (.int .i64 a),.c (.int .i64 b),.c (.int .i64 c)]] [] Q38.dec=Q38.f N a b c:=by kernel_rfl
noncomputable def Q38.ent (N:Nat):wA:=eF (Int) 0 [true] [.recd [.any,.any,.any]] fun
 | [.agg [.c (.int .i64 a),.c (.int .i64 b),.c (.int .i64 c)]]=>some (Q38.f N a b c,fun r=>.one (.c (.int .i64 r)) [])
 |_=>none
theorem Q38.env (N:Nat):aB Try.prog (Q38.E N):=⟨(.cons lD (.cons rD .nil)),(.cons (Q37.ent_ok N) (.cons (Q36.ent_ok N) .nil))⟩
theorem Q38.spec (N:Nat)(a c d r:Int)(h:Q38.f N a c d=some r):iA Try.prog 29 [.agg [.c (.int .i64 a),.c (.int .i64 c),.c (.int .i64 d)]] [] (.c (.int .i64 r)) ([]):=sA (Q38.env N) dA Try.func29 cA.n ((Q38.f_eq ..).trans h) fun v b e=>by unfold Q38.dec at e;split at e<;>cases e;exact⟨rfl,rfl⟩
theorem Q38.ent_ok (N:Nat):oA Try.prog 29 (Q38.ent N):=xA fun v a e h=>by split at h;exact eC (Q:=fun e=>iA _ _ _ _ (e a).pick.1 (e a).pick.2) h fun k=>Q38.spec N _ _ _ a k;cases h
noncomputable def Q39.f (N:Nat)(a b e c f d g:Int):Option (Bool×Int×Int×Int×Int×Int×Int×Int):=
 bif decide (b≤(aA (0-a)))then
  bif !((aA (2*a))==0)then
   bif !((aA (2*a))==0)then
    bif decide ((Int.tmod (aA (a-b)) (aA (2*a)))<0)then
     some (true,a,aA (b+(aA ((aA (2*(aA ((aA (Int.tdiv (aA (a-b)) (aA (2*a))))-1))))*a))),aA ((aA ((aA ((aA (a*(aA ((aA (Int.tdiv (aA (a-b)) (aA (2*a))))-1))))+b))*(aA ((aA (Int.tdiv (aA (a-b)) (aA (2*a))))-1))))+e),c,aA ((aA ((aA ((aA (Int.tdiv (aA (a-b)) (aA (2*a))))-1))*c))+f),d,aA ((aA ((aA ((aA (Int.tdiv (aA (a-b)) (aA (2*a))))-1))*d))+g))
    else
    some (true,a,aA (b+(aA ((aA (2*(aA (Int.tdiv (aA (a-b)) (aA (2*a))))))*a))),aA ((aA ((aA ((aA (a*(aA (Int.tdiv (aA (a-b)) (aA (2*a))))))+b))*(aA (Int.tdiv (aA (a-b)) (aA (2*a))))))+e),c,aA ((aA ((aA (Int.tdiv (aA (a-b)) (aA (2*a))))*c))+f),d,aA ((aA ((aA (Int.tdiv (aA (a-b)) (aA (2*a))))*d))+g))
   else none
  else none
 else
 bif decide (b>a)then
  bif !((aA (2*a))==0)then
   bif !((aA (2*a))==0)then
    bif decide ((Int.tmod (aA (a-b)) (aA (2*a)))<0)then
     some (true,a,aA (b+(aA ((aA (2*(aA ((aA (Int.tdiv (aA (a-b)) (aA (2*a))))-1))))*a))),aA ((aA ((aA ((aA (a*(aA ((aA (Int.tdiv (aA (a-b)) (aA (2*a))))-1))))+b))*(aA ((aA (Int.tdiv (aA (a-b)) (aA (2*a))))-1))))+e),c,aA ((aA ((aA ((aA (Int.tdiv (aA (a-b)) (aA (2*a))))-1))*c))+f),d,aA ((aA ((aA ((aA (Int.tdiv (aA (a-b)) (aA (2*a))))-1))*d))+g))
    else
    some (true,a,aA (b+(aA ((aA (2*(aA (Int.tdiv (aA (a-b)) (aA (2*a))))))*a))),aA ((aA ((aA ((aA (a*(aA (Int.tdiv (aA (a-b)) (aA (2*a))))))+b))*(aA (Int.tdiv (aA (a-b)) (aA (2*a))))))+e),c,aA ((aA ((aA (Int.tdiv (aA (a-b)) (aA (2*a))))*c))+f),d,aA ((aA ((aA (Int.tdiv (aA (a-b)) (aA (2*a))))*d))+g))
   else none
  else none
 else
 bif decide (a>e)then
  some (true,e,aA (0-b),a,f,aA (0-c),g,aA (0-d))
 else
 bif a==e then
  bif decide (b<0)then
   some (true,e,aA (0-b),a,f,aA (0-c),g,aA (0-d))
  else
  some (false,a,b,e,c,f,d,g)
 else
 some (false,a,b,e,c,f,d,g)
noncomputable def Q40.l6 {R:Type}(N:Nat):Nat→Int→Int→Int→Int→Int→Int→Int→Int→Int→Int→Int→Int→Int→Int→(Int→Int→Int→Int→Int→Int→Int→Int→Int→Int→Int→Int→Int→Int→Option R)→Option R
 |0,_,_,_,_,_,_,_,_,_,_,_,_,_,_,_=>none
 |n+1,l,m,o,p,q,b,c,d,e,f,g,h,i,j,k=>
  (Q39.f N d e f g h i j).bind fun a=>
  bif a.1 then
   Q40.l6 N n l m o p q b c a.2.1 a.2.2.1 a.2.2.2.1 a.2.2.2.2.1 a.2.2.2.2.2.1 a.2.2.2.2.2.2.1 a.2.2.2.2.2.2.2 k
  else
  k l m o p q b c a.2.1 a.2.2.1 a.2.2.2.1 a.2.2.2.2.1 a.2.2.2.2.2.1 a.2.2.2.2.2.2.1 a.2.2.2.2.2.2.2
noncomputable def Q40.f (N:Nat)(h i j:Int):Option (Int×Int×Int×Int×Int×Int×Int×Int):=
 (Q38.f N h i j).bind fun k=>
 bif k != 0 then
  some (0,0,0,0,0,0,0,k)
 else
 Q40.l6 N N 0 0 0 0 0 0 0 h i j 1 0 0 1
  (fun l m o p q r s a b c d e f g=>
   some (a,b,c,d,e,f,g,0))
noncomputable def Q41.f (N:Nat)(a b c:Int):Option (Int):=
 (Q36.f N a b c).bind fun d=>
 bif !d then
  some 0
 else
 (Q35.f N a b).bind fun e=>
 (Q35.f N e.1 c).bind fun f=>
 some f.1
noncomputable def Q41.E (N:Nat):rC:=yE [(2,nS),(23,kK)] [(44,Q36.ent N),(48,Q35.ent N)] [] [] N [.tmp 2] [.any] 0 27
noncomputable def Q41.dec (v:V)(bs:List mA):Option (Int):=match v,bs with
 | .c (.int .i64 a),[]=>some a
 |_,_=>none
theorem Q41.f_eq (N:Nat)(a b c:Int):
  bB (Q41.E N) (bo Try.f30) [.agg [.c (.int .i64 a),.c (.int .i64 b),.c (.int .i64 c)]] [] Q41.dec=Q41.f N a b c:=by kernel_rfl
noncomputable def Q41.ent (N:Nat):wA:=eF (Int) 0 [true] [.recd [.any,.any,.any]] fun
 | [.agg [.c (.int .i64 a),.c (.int .i64 b),.c (.int .i64 c)]]=>some (Q41.f N a b c,fun r=>.one (.c (.int .i64 r)) [])
 |_=>none
theorem Q41.env (N:Nat):aB Try.prog (Q41.E N):=⟨(.cons lD (.cons rD .nil)),(.cons (Q36.ent_ok N) (.cons (Q35.ent_ok N) .nil))⟩
theorem Q41.spec (N:Nat)(a c d r:Int)(h:Q41.f N a c d=some r):iA Try.prog 30 [.agg [.c (.int .i64 a),.c (.int .i64 c),.c (.int .i64 d)]] [] (.c (.int .i64 r)) ([]):=sA (Q41.env N) dA Try.func30 cA.n ((Q41.f_eq ..).trans h) fun v b e=>by unfold Q41.dec at e;split at e<;>cases e;exact⟨rfl,rfl⟩
theorem Q41.ent_ok (N:Nat):oA Try.prog 30 (Q41.ent N):=xA fun v a e h=>by split at h;exact eC (Q:=fun e=>iA _ _ _ _ (e a).pick.1 (e a).pick.2) h fun k=>Q41.spec N _ _ _ a k;cases h
noncomputable def Q42.f (N:Nat)(b a:Int):Option (Int):=
 bif !(a==0)then
  bif decide ((Int.tmod b a)<0)then
   some (aA ((Int.tmod b a)+a))
  else
  some (Int.tmod b a)
 else none
noncomputable def Q43.f (N:Nat)(a:Int):Option (Bool):=
 bif decide (a≥(-1073741824))then
  some (decide (a≤1073741824))
 else
 some false
noncomputable def Q44.f (N:Nat)(a b c:Int):Option (Bool):=
 (Q43.f N a).bind fun d=>
 bif d then
  (Q43.f N b).bind fun e=>
  bif e then
   (Q43.f N c).bind fun f=>
   some f
  else
  some false
 else
 some false
noncomputable def Q45.f (N:Nat)(b a c:Int):Option (Int):=
 (Q44.f N b a c).bind fun d=>
 bif !d then
  some 0
 else
 some (aA ((aA (a*a))- (aA ((aA (4*b))*c))))
noncomputable def Q46.f (N:Nat)(a b c:Int):Option (Int):=
 (Q44.f N a b c).bind fun d=>
 bif !d then
  some 3
 else
 bif decide (a≤0)then
  some 81
 else
 (Q45.f N a b c).bind fun e=>
 bif decide (e≥0)then
  some 81
 else
 (Q45.f N a b c).bind fun f=>
 bif decide (f<(-4294967296))then
  some 80
 else
 some 0
noncomputable def Q47.f (N:Nat)(a b c:Int):Option (Bool):=
 bif decide ((aA (0-a))<b)then
  bif decide (b≤a)then
   bif decide (a≤c)then
    bif decide (b≥0)then
     some true
    else
    some (a != c)
   else
   some false
  else
  some false
 else
 some false
noncomputable def Q48.f (N:Nat)(b a:Int):Option (Int):=
 (Q42.f N b a).bind fun c=>
 bif !(a==0)then
  some (aA (Int.tdiv (aA (b-c)) a))
 else none
noncomputable def Q49.l5 {R:Type}(N:Nat):Nat→Int→Int→Int→Int→Int→Int→Int→Int→Int→Int→Int→Int→Int→Int→(Int→Int→Int→Int→Int→Int→Int→Int→Int→Int→Int→Int→Int→Int→Option R)→Option R
 |0,_,_,_,_,_,_,_,_,_,_,_,_,_,_,_=>none
 |n+1,a,f,o,q,r,g,h,i,j,k,b,l,c,m,p=>
  (Q47.f N a f o).bind fun s=>
  bif !s then
   bif decide ((aA (0-a))≥f)then
    (Q48.f N (aA (a-f)) (aA (2*a))).bind fun d=>
    Q49.l5 N n a (aA (f+(aA ((aA (2*d))*a)))) (aA ((aA ((aA ((aA (a*d))+f))*d))+o)) q r g h i j k b (aA ((aA (d*b))+l)) c (aA ((aA (d*c))+m)) p
   else
   bif decide (f>a)then
    (Q48.f N (aA (a-f)) (aA (2*a))).bind fun e=>
    Q49.l5 N n a (aA (f+(aA ((aA (2*e))*a)))) (aA ((aA ((aA ((aA (a*e))+f))*e))+o)) q r g h i j k b (aA ((aA (e*b))+l)) c (aA ((aA (e*c))+m)) p
   else
   Q49.l5 N n o (aA (0-f)) a q r g h i j k l (aA (0-b)) m (aA (0-c)) p
  else
  p a f o q r g h i j k b l c m
noncomputable def Q49.f (N:Nat)(h i j:Int):Option (Int×Int×Int×Int×Int×Int×Int×Int):=
 (Q46.f N h i j).bind fun k=>
 bif k != 0 then
  some (0,0,0,0,0,0,0,k)
 else
 Q49.l5 N N h i j 0 0 0 0 0 0 0 1 0 0 1
  (fun a b c l m o p q r s d e f g=>
   some (a,b,c,d,e,f,g,0))
noncomputable def me:TI:=⟨.slice 3,1,24,[.slice none 0 0]⟩
noncomputable def cU:TI:=⟨.slice 23,1,24,[.slice none 0 0]⟩
noncomputable def zn:TI:=⟨.map 23 2,1,8,[.map none]⟩
theorem iO:fC Try.prog 24 me:=lC (by kernel_rfl) (by kernel_rfl) (by kernel_rfl) (by kernel_rfl) (by kernel_rfl) (by kernel_rfl) (by kernel_rfl) (Try.underlying24) (by kernel_rfl)
theorem fH:fC Try.prog 43 cU:=lC (by kernel_rfl) (by kernel_rfl) (by kernel_rfl) (by kernel_rfl) (by kernel_rfl) (by kernel_rfl) (by kernel_rfl) (Try.underlying43) (by kernel_rfl)
theorem iq:fC Try.prog 100 zn:=lC (by kernel_rfl) (by kernel_rfl) (by kernel_rfl) (by kernel_rfl) (by kernel_rfl) (by kernel_rfl) (by kernel_rfl) (zj Try.underlying100 (by kernel_rfl)) (by kernel_rfl)
noncomputable def Q62.f (N:Nat)(a:Int):Option (Bool):=
 some (a != a)
noncomputable def Q62.E (N:Nat):rC:=yE [] [] [] [] N [.tmp 2] [.any] 0 6
noncomputable def Q62.dec (v:V)(bs:List mA):Option (Bool):=match v,bs with
 | .c (.bool a),[]=>some a
 |_,_=>none
theorem Q62.f_eq (N:Nat)(a:Int):
  bB (Q62.E N) (bo Try.f82) [.c (.int .i64 a)] [] Q62.dec=Q62.f N a:=by kernel_rfl
noncomputable def Q62.ent (N:Nat):wA:=eF (Bool) 0 [true] [.any] fun
 | [.c (.int .i64 a)]=>some (Q62.f N a,fun r=>.one (.c (.bool r)) [])
 |_=>none
theorem Q62.env (N:Nat):aB Try.prog (Q62.E N):=⟨.nil,.nil⟩
theorem Q62.spec (N:Nat)(a:Int)(r:Bool)(h:Q62.f N a=some r):iA Try.prog 82 [.c (.int .i64 a)] [] (.c (.bool r)) ([]):=sA (Q62.env N) dA Try.func82 cA.n ((Q62.f_eq ..).trans h) fun v b e=>by unfold Q62.dec at e;split at e<;>cases e;exact⟨rfl,rfl⟩
theorem Q62.ent_ok (N:Nat):oA Try.prog 82 (Q62.ent N):=xA fun v a e h=>by split at h;exact eC (Q:=fun e=>iA _ _ _ _ (e a).pick.1 (e a).pick.2) h fun k=>Q62.spec N _ a k;cases h
noncomputable def Q63.f (N:Nat)(a b:Int):Option (Int):=
 (Q62.f N a).bind fun d=>
 (Q62.f N b).bind fun c=>
 bif d then
  bif c then
   some 0
  else
  some (-1)
 else
 bif c then
  some 1
 else
 bif decide (a<b)then
  some (-1)
 else
 bif decide (a>b)then
  some 1
 else
 some 0
noncomputable def Q63.E (N:Nat):rC:=yE [] [(82,Q62.ent N)] [] [] N [.tmp 4] [.any] 0 20
noncomputable def Q63.dec (v:V)(bs:List mA):Option (Int):=match v,bs with
 | .c (.int .i64 a),[]=>some a
 |_,_=>none
theorem Q63.f_eq (N:Nat)(a b:Int):
  bB (Q63.E N) (bo Try.f69) [.c (.int .i64 a),.c (.int .i64 b)] [] Q63.dec=Q63.f N a b:=by kernel_rfl
noncomputable def Q63.ent (N:Nat):wA:=eF (Int) 0 [true,true] [.any,.any] fun
 | [.c (.int .i64 a),.c (.int .i64 b)]=>some (Q63.f N a b,fun r=>.one (.c (.int .i64 r)) [])
 |_=>none
theorem Q63.env (N:Nat):aB Try.prog (Q63.E N):=⟨.nil,(.cons (Q62.ent_ok N) .nil)⟩
theorem Q63.spec (N:Nat)(a c r:Int)(h:Q63.f N a c=some r):iA Try.prog 69 [.c (.int .i64 a),.c (.int .i64 c)] [] (.c (.int .i64 r)) ([]):=sA (Q63.env N) dA Try.func69 cA.n ((Q63.f_eq ..).trans h) fun v b e=>by unfold Q63.dec at e;split at e<;>cases e;exact⟨rfl,rfl⟩
theorem Q63.ent_ok (N:Nat):oA Try.prog 69 (Q63.ent N):=xA fun v a e h=>by split at h;exact eC (Q:=fun e=>iA _ _ _ _ (e a).pick.1 (e a).pick.2) h fun k=>Q63.spec N _ _ a k;cases h
noncomputable def Q64.l3 {R:Type}(N:Nat):Nat→Int→List Int→Int→Int→(Int→Option R)→(Int→Option R)→Option R
 |0,_,_,_,_,_,_=>none
 |n+1,c,b,e,a,d,kr=>
  bif decide (a<e)then
   bif (decide (0≤a))&&(decide (a<(b.length:Int)))then
    bif (b.getD a.toNat 0) != c then
     kr (b.getD a.toNat 0)
    else
    Q64.l3 N n c b e (aA (a+1)) d kr
   else none
  else
  d c
noncomputable def Q64.f (N:Nat)(a:List Int):Option (Int):=
 Q64.l3 N N 0 a (a.length:Int) 0
  (fun b=>
   some b)
  (fun c=>
   some c)
noncomputable def Q64.h3:bD:=⟨[(3,.any),(6,.il .i64 1),(7,.any),(8,.any)],[(3,.any)]⟩
noncomputable def Q64.c3 (N:Nat):iI:=⟨fun vs H k=>match vs,H with
 | [.c (.int .i64 a),.il .i64 1 b,.c (.int .i64 c),.c (.int .i64 d)],[]=>Q64.l3 N N a b c d (fun f=>k (.exit 0) ⟨yC Q64.h3.out [.c (.int .i64 f)],[]⟩) (fun e=>k (.ret (.c (.int .i64 e)) []) .nil)
 |_,_=>none⟩
noncomputable def Q64.E (N:Nat):rC:=yE [(3,tn),(24,me)] [] [(3,Q64.h3)] [(3,Q64.c3 N)] N [.tmp 2] [.any] 0 18
noncomputable def Q64.b3:Code:=qA ((fA (bo Try.f68)).getD 0 .skip)
theorem Q64.l3_eq {R:Type}(N n:Nat)(a:Int)(b:List Int)(c d:Int)(k:Ex→St→Option R):
  iB 0 Q64.h3 (fun s k=>eB (Q64.E N) 394 Q64.b3 s k) n [.c (.int .i64 a),.il .i64 1 b,.c (.int .i64 c),.c (.int .i64 d)] [] k=Q64.l3 N n a b c d (fun f=>k (.exit 0) ⟨yC Q64.h3.out [.c (.int .i64 f)],[]⟩) (fun e=>k (.ret (.c (.int .i64 e)) []) .nil):=by
 induction n generalizing a b c d with
 |zero=>kernel_rfl
 |succ n ih=>
  simp only[Q64.l3,←ih]
  kernel_rfl
noncomputable def Q64.dec (v:V)(bs:List mA):Option (Int):=match v,bs with
 | .c (.int .i64 a),[]=>some a
 |_,_=>none
theorem Q64.f_eq (N:Nat)(a:List Int):
  bB (Q64.E N) (bo Try.f68) [.il .i64 1 a] [] Q64.dec=Q64.f N a:=by kernel_rfl
noncomputable def Q64.ent (N:Nat):wA:=eF (Int) 0 [true] [.il .i64 1] fun
 | [.il .i64 1 a]=>some (Q64.f N a,fun r=>.one (.c (.int .i64 r)) [])
 |_=>none
theorem Q64.env (N:Nat):aB Try.prog (Q64.E N):=⟨(.cons fI (.cons iO .nil)),.nil⟩
theorem Q64.k3 (N:Nat):xB Try.prog Try.f68 (Q64.E N) (.loop Q64.b3):=tC (Q64.env N) dA 394 (c:=Q64.c3 N) cA.n fun R vs H k r h=>by unfold Q64.c3 at h;dsimp only at h;split at h;exact⟨_,Q64.l3_eq .. ▸h⟩;cases h
theorem Q64.spec (N:Nat)(a:List Int)(r:Int)(h:Q64.f N a=some r):iA Try.prog 68 [.il .i64 1 a] [] (.c (.int .i64 r)) ([]):=sA (Q64.env N) dA Try.func68 (cA.of (l:=[(.loop (qA ((fA (bo Try.f68)).getD 0 .skip)))]) (by kernel_rfl) (cA.cons (Q64.k3 N) cA.nil)) ((Q64.f_eq ..).trans h) fun v b e=>by unfold Q64.dec at e;split at e<;>cases e;exact⟨rfl,rfl⟩
theorem Q64.ent_ok (N:Nat):oA Try.prog 68 (Q64.ent N):=xA fun v a e h=>by split at h;exact eC (Q:=fun e=>iA _ _ _ _ (e a).pick.1 (e a).pick.2) h fun k=>Q64.spec N _ a k;cases h
noncomputable def Q65.f (N:Nat)(b c d e f g:Int):Option (Int):=
 (Q63.f N b e).bind fun h=>
 (Q63.f N c f).bind fun i=>
 (Q63.f N d g).bind fun j=>
 (Q64.f N [h,i,j]).bind fun a=>
 some a
noncomputable def Q65.E (N:Nat):rC:=yE [(2,nS),(3,tn),(23,kK),(24,me)] [(69,Q63.ent N),(68,Q64.ent N)] [] [] N [.tmp 4] [.any] 0 22
noncomputable def Q65.dec (v:V)(bs:List mA):Option (Int):=match v,bs with
 | .c (.int .i64 a),[]=>some a
 |_,_=>none
theorem Q65.f_eq (N:Nat)(a b c d e f:Int):
  bB (Q65.E N) (bo Try.f67) [.agg [.c (.int .i64 a),.c (.int .i64 b),.c (.int .i64 c)],.agg [.c (.int .i64 d),.c (.int .i64 e),.c (.int .i64 f)]] [] Q65.dec=Q65.f N a b c d e f:=by kernel_rfl
theorem Q65.env (N:Nat):aB Try.prog (Q65.E N):=⟨(.cons lD (.cons fI (.cons rD (.cons iO .nil)))),(.cons (Q63.ent_ok N) (.cons (Q64.ent_ok N) .nil))⟩
theorem Q65.spec (N:Nat)(a c d f g i r:Int)(h:Q65.f N a c d f g i=some r):iA Try.prog 67 [.agg [.c (.int .i64 a),.c (.int .i64 c),.c (.int .i64 d)],.agg [.c (.int .i64 f),.c (.int .i64 g),.c (.int .i64 i)]] [] (.c (.int .i64 r)) ([]):=sA (Q65.env N) dA Try.func67 cA.n ((Q65.f_eq ..).trans h) fun v b e=>by unfold Q65.dec at e;split at e<;>cases e;exact⟨rfl,rfl⟩
noncomputable def Q66.f (N:Nat)(a:Int):Option (Int):=
 bif decide (a<(-65536))then
  some 80
 else
 bif decide (a>(-3))then
  some 80
 else
 bif (Int.tmod (aA (0-a)) 4)==1 then
  some 80
 else
 bif (Int.tmod (aA (0-a)) 4)==2 then
  some 80
 else
 some 0
noncomputable def Q66.E (N:Nat):rC:=yE [] [] [] [] N [.tmp 2] [.any] 0 21
noncomputable def Q66.dec (v:V)(bs:List mA):Option (Int):=match v,bs with
 | .c (.int .i64 a),[]=>some a
 |_,_=>none
theorem Q66.f_eq (N:Nat)(a:Int):
  bB (Q66.E N) (bo Try.f40) [.c (.int .i64 a)] [] Q66.dec=Q66.f N a:=by kernel_rfl
noncomputable def Q66.ent (N:Nat):wA:=eF (Int) 0 [true] [.any] fun
 | [.c (.int .i64 a)]=>some (Q66.f N a,fun r=>.one (.c (.int .i64 r)) [])
 |_=>none
theorem Q66.env (N:Nat):aB Try.prog (Q66.E N):=⟨.nil,.nil⟩
theorem Q66.spec (N:Nat)(a r:Int)(h:Q66.f N a=some r):iA Try.prog 40 [.c (.int .i64 a)] [] (.c (.int .i64 r)) ([]):=sA (Q66.env N) dA Try.func40 cA.n ((Q66.f_eq ..).trans h) fun v b e=>by unfold Q66.dec at e;split at e<;>cases e;exact⟨rfl,rfl⟩
theorem Q66.ent_ok (N:Nat):oA Try.prog 40 (Q66.ent N):=xA fun v a e h=>by split at h;exact eC (Q:=fun e=>iA _ _ _ _ (e a).pick.1 (e a).pick.2) h fun k=>Q66.spec N _ a k;cases h
noncomputable def Q67.l7 {R:Type}(N:Nat):Nat→Int→Int→Int→Int→List (List Int)→List Int→(Int→Int→List (List Int)→List Int→Option R)→Option R
 |0,_,_,_,_,_,_,_=>none
 |n+1,h,c,d,a,b,e,g=>
  bif decide ((aA (a*a))≤d)then
   bif !(a==0)then
    bif (Int.tmod d a) != 0 then
     Q67.l7 N n h c d (aA (a+1)) b e g
    else
    bif !(a==0)then
     (Q41.f N a c (aA (Int.tdiv d a))).bind fun f=>
     bif decide (c>0)then
      bif decide (c<a)then
       bif decide (a<(aA (Int.tdiv d a)))then
        Q67.l7 N n h c d (aA (a+1)) (qB [a,aA (0-c),aA (Int.tdiv d a)] (qB [a,c,aA (Int.tdiv d a)] b)) (oI [a,aA (0-c),aA (Int.tdiv d a)] (vE [a,c,aA (Int.tdiv d a)] (qB [a,c,aA (Int.tdiv d a)] b) (oI [a,c,aA (Int.tdiv d a)] f b e)) (qB [a,c,aA (Int.tdiv d a)] b) (oI [a,c,aA (Int.tdiv d a)] f b e)) g
       else
       Q67.l7 N n h c d (aA (a+1)) (qB [a,c,aA (Int.tdiv d a)] b) (oI [a,c,aA (Int.tdiv d a)] f b e) g
      else
      Q67.l7 N n h c d (aA (a+1)) (qB [a,c,aA (Int.tdiv d a)] b) (oI [a,c,aA (Int.tdiv d a)] f b e) g
     else
     Q67.l7 N n h c d (aA (a+1)) (qB [a,c,aA (Int.tdiv d a)] b) (oI [a,c,aA (Int.tdiv d a)] f b e) g
    else none
   else none
  else
  g h c b e
noncomputable def Q67.l3 {R:Type}(N:Nat):Nat→Int→Int→List (List Int)→List Int→(List (List Int)→List Int→Option R)→Option R
 |0,_,_,_,_,_=>none
 |n+1,b,a,h,i,g=>
  bif decide ((aA ((aA (3*a))*a))≤(aA (0-b)))then
   Q67.l7 N N b a (aA (Int.tdiv (aA ((aA (a*a))-b)) 4)) (xg a 1) h i
    (fun c d e f=>
     Q67.l3 N n c (aA (d+2)) e f g)
  else
  g h i
noncomputable def Q67.f (N:Nat)(c:Int):Option (List (List Int)×List Int):=
 Q67.l3 N N c (Int.tmod (aA (0-c)) 2) [] []
  (fun a b=>
   some (a,b))
noncomputable def Q67.h3:bD:=⟨[(0,.any),(3,.any),(4,.any)],[(3,.any)]⟩
noncomputable def Q67.h7:bD:=⟨[(0,.any),(3,.any),(4,.any),(5,.any),(6,.any)],[(0,.any),(3,.any),(4,.any)]⟩
noncomputable def Q67.c7 (N:Nat):iI:=⟨fun vs H k=>match vs,H with
 | [.c (.int .i64 g),.mref 0,.c (.int .i64 h),.c (.int .i64 i),.c (.int .i64 j)],[.mp .i64 3 a (.ints .i64 b)]=>Q67.l7 N N g h i j a b (fun c d e f=>k (.exit 2) ⟨yC Q67.h7.out [.c (.int .i64 c),.mref 0,.c (.int .i64 d)],[.mp .i64 3 e (.ints .i64 f)]⟩)
 |_,_=>none⟩
noncomputable def Q67.c3 (N:Nat):iI:=⟨fun vs H k=>match vs,H with
 | [.c (.int .i64 c),.mref 0,.c (.int .i64 d)],[.mp .i64 3 e (.ints .i64 f)]=>Q67.l3 N N c d e f (fun a b=>k (.exit 0) ⟨yC Q67.h3.out [.mref 0],[.mp .i64 3 a (.ints .i64 b)]⟩)
 |_,_=>none⟩
noncomputable def Q67.E (N:Nat):rC:=yE [(2,nS),(23,kK),(100,zn)] [(30,Q41.ent N)] [(3,Q67.h3),(7,Q67.h7)] [(7,Q67.c7 N),(3,Q67.c3 N)] N [.tmp 2] [.any] 0 74 true
noncomputable def Q67.b7:Code:=qA ((fA (bo Try.f65)).getD 1 .skip)
theorem Q67.l7_eq {R:Type}(N n:Nat)(g h i j:Int)(a:List (List Int))(b:List Int)(k:Ex→St→Option R):
  iB 0 Q67.h7 (fun s k=>eB (Q67.E N) 387 Q67.b7 s k) n [.c (.int .i64 g),.mref 0,.c (.int .i64 h),.c (.int .i64 i),.c (.int .i64 j)] [.mp .i64 3 a (.ints .i64 b)] k=Q67.l7 N n g h i j a b (fun c d e f=>k (.exit 2) ⟨yC Q67.h7.out [.c (.int .i64 c),.mref 0,.c (.int .i64 d)],[.mp .i64 3 e (.ints .i64 f)]⟩):=by
 induction n generalizing g h i j a b with
 |zero=>kernel_rfl
 |succ n ih=>
  simp only[Q67.l7,←ih]
  kernel_rfl
noncomputable def Q67.b3:Code:=qA ((fA (bo Try.f65)).getD 0 .skip)
theorem Q67.l3_eq {R:Type}(N n:Nat)(a d:Int)(e:List (List Int))(f:List Int)(k:Ex→St→Option R):
  iB 0 Q67.h3 (fun s k=>eB (Q67.E N) 394 Q67.b3 s k) n [.c (.int .i64 a),.mref 0,.c (.int .i64 d)] [.mp .i64 3 e (.ints .i64 f)] k=Q67.l3 N n a d e f (fun b c=>k (.exit 0) ⟨yC Q67.h3.out [.mref 0],[.mp .i64 3 b (.ints .i64 c)]⟩):=by
 induction n generalizing a d e f with
 |zero=>kernel_rfl
 |succ n ih=>
  simp only[Q67.l3,←ih]
  kernel_rfl
noncomputable def Q67.dec (v:V)(bs:List mA):Option (List (List Int)×List Int):=match v,bs with
 | .mref 0,[.mp .i64 3 a (.ints .i64 b)]=>some (a,b)
 |_,_=>none
theorem Q67.f_eq (N:Nat)(a:Int):
  bB (Q67.E N) (bo Try.f65) [.c (.int .i64 a)] [] Q67.dec=Q67.f N a:=by kernel_rfl
noncomputable def Q67.ent (N:Nat):wA:=eF (List (List Int)×List Int) 1 [true] [.any] fun
 | [.c (.int .i64 a)]=>some (Q67.f N a,fun r=>.one (.mref 0) [.mp .i64 3 r.1 (.ints .i64 r.2)])
 |_=>none
theorem Q67.env (N:Nat):aB Try.prog (Q67.E N):=⟨(.cons lD (.cons rD (.cons iq .nil))),(.cons (Q41.ent_ok N) .nil)⟩
theorem Q67.k7 (N:Nat):xB Try.prog Try.f65 (Q67.E N) (.loop Q67.b7):=tC (Q67.env N) dA 387 (c:=Q67.c7 N) cA.n fun R vs H k r h=>by unfold Q67.c7 at h;dsimp only at h;split at h;exact⟨_,Q67.l7_eq .. ▸h⟩;cases h
theorem Q67.k3 (N:Nat):xB Try.prog Try.f65 (Q67.E N) (.loop Q67.b3):=tC (Q67.env N) dA 394 (c:=Q67.c3 N) (cA.of (l:=[(.loop (qA ((fA (bo Try.f65)).getD 1 .skip)))]) (by kernel_rfl) (cA.cons (Q67.k7 N) cA.nil)) fun R vs H k r h=>by unfold Q67.c3 at h;dsimp only at h;split at h;exact⟨_,Q67.l3_eq .. ▸h⟩;cases h
theorem Q67.spec (N:Nat)(a:Int)(r:List (List Int)×List Int)(h:Q67.f N a=some r):iA Try.prog 65 [.c (.int .i64 a)] [] (.mref 0) ([.mp .i64 3 r.1 (.ints .i64 r.2)]):=sA (Q67.env N) dA Try.func65 (cA.of (l:=[(.loop (qA ((fA (bo Try.f65)).getD 0 .skip))),(.loop (qA ((fA (bo Try.f65)).getD 1 .skip)))]) (by kernel_rfl) (cA.cons (Q67.k3 N) (cA.cons (Q67.k7 N) cA.nil))) ((Q67.f_eq ..).trans h) fun v b e=>by unfold Q67.dec at e;split at e<;>cases e;exact⟨rfl,rfl⟩
theorem Q67.ent_ok (N:Nat):oA Try.prog 65 (Q67.ent N):=xA fun v a e h=>by split at h;exact eC (Q:=fun e=>iA _ _ _ _ (e a).pick.1 (e a).pick.2) h fun k=>Q67.spec N _ a k;cases h
noncomputable def Q68.f (N:Nat)(a:Int):Option (Int):=
 bif decide (a>(-3))then
  some 80
 else
 bif decide (a<(-65536))then
  some 80
 else
 bif (Int.tmod (aA (0-a)) 4) != 0 then
  bif (Int.tmod (aA (0-a)) 4) != 3 then
   some 80
  else
  some 0
 else
 some 0
noncomputable def Q68.E (N:Nat):rC:=yE [] [] [] [] N [.tmp 2] [.any] 0 21
noncomputable def Q68.dec (v:V)(bs:List mA):Option (Int):=match v,bs with
 | .c (.int .i64 a),[]=>some a
 |_,_=>none
theorem Q68.f_eq (N:Nat)(a:Int):
  bB (Q68.E N) (bo Try.f18) [.c (.int .i64 a)] [] Q68.dec=Q68.f N a:=by kernel_rfl
noncomputable def Q68.ent (N:Nat):wA:=eF (Int) 0 [true] [.any] fun
 | [.c (.int .i64 a)]=>some (Q68.f N a,fun r=>.one (.c (.int .i64 r)) [])
 |_=>none
theorem Q68.env (N:Nat):aB Try.prog (Q68.E N):=⟨.nil,.nil⟩
theorem Q68.spec (N:Nat)(a r:Int)(h:Q68.f N a=some r):iA Try.prog 18 [.c (.int .i64 a)] [] (.c (.int .i64 r)) ([]):=sA (Q68.env N) dA Try.func18 cA.n ((Q68.f_eq ..).trans h) fun v b e=>by unfold Q68.dec at e;split at e<;>cases e;exact⟨rfl,rfl⟩
theorem Q68.ent_ok (N:Nat):oA Try.prog 18 (Q68.ent N):=xA fun v a e h=>by split at h;exact eC (Q:=fun e=>iA _ _ _ _ (e a).pick.1 (e a).pick.2) h fun k=>Q68.spec N _ a k;cases h
noncomputable def Q69.l1 {R:Type}(N:Nat):Nat→Int→Int→(Int→Option R)→Option R
 |0,_,_,_=>none
 |n+1,c,a,b=>
  bif decide (a>0)then
   bif !(a==0)then
    Q69.l1 N n a (Int.tmod c a) b
   else none
  else
  b c
noncomputable def Q69.f (N:Nat)(a b:Int):Option (Int):=
 Q69.l1 N N a b
  (fun c=>
   some c)
noncomputable def Q69.h1:bD:=⟨[(0,.any),(1,.any)],[(0,.any)]⟩
noncomputable def Q69.c1 (N:Nat):iI:=⟨fun vs H k=>match vs,H with
 | [.c (.int .i64 a),.c (.int .i64 b)],[]=>Q69.l1 N N a b (fun c=>k (.exit 0) ⟨yC Q69.h1.out [.c (.int .i64 c)],[]⟩)
 |_,_=>none⟩
noncomputable def Q69.E (N:Nat):rC:=yE [] [] [(1,Q69.h1)] [(1,Q69.c1 N)] N [.tmp 4] [.any] 0 14
noncomputable def Q69.b1:Code:=qA ((fA (bo Try.f37)).getD 0 .skip)
theorem Q69.l1_eq {R:Type}(N n:Nat)(a b:Int)(k:Ex→St→Option R):
  iB 0 Q69.h1 (fun s k=>eB (Q69.E N) 396 Q69.b1 s k) n [.c (.int .i64 a),.c (.int .i64 b)] [] k=Q69.l1 N n a b (fun c=>k (.exit 0) ⟨yC Q69.h1.out [.c (.int .i64 c)],[]⟩):=by
 induction n generalizing a b with
 |zero=>kernel_rfl
 |succ n ih=>
  simp only[Q69.l1,←ih]
  kernel_rfl
noncomputable def Q69.dec (v:V)(bs:List mA):Option (Int):=match v,bs with
 | .c (.int .i64 a),[]=>some a
 |_,_=>none
theorem Q69.f_eq (N:Nat)(a b:Int):
  bB (Q69.E N) (bo Try.f37) [.c (.int .i64 a),.c (.int .i64 b)] [] Q69.dec=Q69.f N a b:=by kernel_rfl
noncomputable def Q69.ent (N:Nat):wA:=eF (Int) 0 [true,true] [.any,.any] fun
 | [.c (.int .i64 a),.c (.int .i64 b)]=>some (Q69.f N a b,fun r=>.one (.c (.int .i64 r)) [])
 |_=>none
theorem Q69.env (N:Nat):aB Try.prog (Q69.E N):=⟨.nil,.nil⟩
theorem Q69.k1 (N:Nat):xB Try.prog Try.f37 (Q69.E N) (.loop Q69.b1):=tC (Q69.env N) dA 396 (c:=Q69.c1 N) cA.n fun R vs H k r h=>by unfold Q69.c1 at h;dsimp only at h;split at h;exact⟨_,Q69.l1_eq .. ▸h⟩;cases h
theorem Q69.spec (N:Nat)(a c r:Int)(h:Q69.f N a c=some r):iA Try.prog 37 [.c (.int .i64 a),.c (.int .i64 c)] [] (.c (.int .i64 r)) ([]):=sA (Q69.env N) dA Try.func37 (cA.of (l:=[(.loop (qA ((fA (bo Try.f37)).getD 0 .skip)))]) (by kernel_rfl) (cA.cons (Q69.k1 N) cA.nil)) ((Q69.f_eq ..).trans h) fun v b e=>by unfold Q69.dec at e;split at e<;>cases e;exact⟨rfl,rfl⟩
theorem Q69.ent_ok (N:Nat):oA Try.prog 37 (Q69.ent N):=xA fun v a e h=>by split at h;exact eC (Q:=fun e=>iA _ _ _ _ (e a).pick.1 (e a).pick.2) h fun k=>Q69.spec N _ _ a k;cases h
noncomputable def Q70.f (N:Nat)(b a c:Int):Option (Int):=
 bif decide (a<0)then
  (Q69.f N b (aA (0-a))).bind fun d=>
  (Q69.f N d c).bind fun e=>
  some e
 else
 (Q69.f N b a).bind fun f=>
 (Q69.f N f c).bind fun g=>
 some g
noncomputable def Q70.E (N:Nat):rC:=yE [(2,nS),(23,kK)] [(37,Q69.ent N)] [] [] N [.tmp 2] [.any] 0 17
noncomputable def Q70.dec (v:V)(bs:List mA):Option (Int):=match v,bs with
 | .c (.int .i64 a),[]=>some a
 |_,_=>none
theorem Q70.f_eq (N:Nat)(a b c:Int):
  bB (Q70.E N) (bo Try.f11) [.agg [.c (.int .i64 a),.c (.int .i64 b),.c (.int .i64 c)]] [] Q70.dec=Q70.f N a b c:=by kernel_rfl
noncomputable def Q70.ent (N:Nat):wA:=eF (Int) 0 [true] [.recd [.any,.any,.any]] fun
 | [.agg [.c (.int .i64 a),.c (.int .i64 b),.c (.int .i64 c)]]=>some (Q70.f N a b c,fun r=>.one (.c (.int .i64 r)) [])
 |_=>none
theorem Q70.env (N:Nat):aB Try.prog (Q70.E N):=⟨(.cons lD (.cons rD .nil)),(.cons (Q69.ent_ok N) .nil)⟩
theorem Q70.spec (N:Nat)(a c d r:Int)(h:Q70.f N a c d=some r):iA Try.prog 11 [.agg [.c (.int .i64 a),.c (.int .i64 c),.c (.int .i64 d)]] [] (.c (.int .i64 r)) ([]):=sA (Q70.env N) dA Try.func11 cA.n ((Q70.f_eq ..).trans h) fun v b e=>by unfold Q70.dec at e;split at e<;>cases e;exact⟨rfl,rfl⟩
theorem Q70.ent_ok (N:Nat):oA Try.prog 11 (Q70.ent N):=xA fun v a e h=>by split at h;exact eC (Q:=fun e=>iA _ _ _ _ (e a).pick.1 (e a).pick.2) h fun k=>Q70.spec N _ _ _ a k;cases h
noncomputable def Q71.l6 {R:Type}(N:Nat):Nat→Int→Int→Int→List Int→(Int→Int→List Int→Option R)→Option R
 |0,_,_,_,_,_=>none
 |n+1,c,b,a,d,e=>
  bif decide (a≤b)then
   bif !((aA (4*b))==0)then
    bif (Int.tmod (aA ((aA (a*a))-c)) (aA (4*b))) != 0 then
     Q71.l6 N n c b (aA (a+1)) d e
    else
    bif !((aA (4*b))==0)then
     bif decide ((aA (Int.tdiv (aA ((aA (a*a))-c)) (aA (4*b))))>b)then
      bif zA ((d.length+3)/3) 24 then
       Q71.l6 N n c b (aA (a+1)) (d++[b,a,aA (Int.tdiv (aA ((aA (a*a))-c)) (aA (4*b)))]) e
      else none
     else
     bif (aA (Int.tdiv (aA ((aA (a*a))-c)) (aA (4*b))))==b then
      bif decide (a≥0)then
       bif zA ((d.length+3)/3) 24 then
        Q71.l6 N n c b (aA (a+1)) (d++[b,a,aA (Int.tdiv (aA ((aA (a*a))-c)) (aA (4*b)))]) e
       else none
      else
      Q71.l6 N n c b (aA (a+1)) d e
     else
     Q71.l6 N n c b (aA (a+1)) d e
    else none
   else none
  else
  e c b d
noncomputable def Q71.l3 {R:Type}(N:Nat):Nat→Int→Int→List Int→(List Int→Option R)→Option R
 |0,_,_,_,_=>none
 |n+1,f,a,g,e=>
  bif decide ((aA ((aA (3*a))*a))≤(aA (0-f)))then
   Q71.l6 N N f a (aA (1-a)) g
    (fun b c d=>
     Q71.l3 N n b (aA (c+1)) d e)
  else
  e g
noncomputable def Q71.f (N:Nat)(b:Int):Option (List Int):=
 Q71.l3 N N b 1 []
  (fun a=>
   some a)
noncomputable def Q71.h3:bD:=⟨[(0,.any),(3,.row .i64 3),(4,.any)],[(3,.row .i64 3)]⟩
noncomputable def Q71.h6:bD:=⟨[(0,.any),(3,.row .i64 3),(4,.any),(5,.any)],[(0,.any),(3,.row .i64 3),(4,.any)]⟩
noncomputable def Q71.c6 (N:Nat):iI:=⟨fun vs H k=>match vs,H with
 | [.c (.int .i64 c),.sw 0 3,.c (.int .i64 d),.c (.int .i64 e)],[.ints .i64 f]=>Q71.l6 N N c d e f (fun g a b=>k (.exit 2) ⟨yC Q71.h6.out [.c (.int .i64 g),.sw 0 3,.c (.int .i64 a)],[.ints .i64 b]⟩)
 |_,_=>none⟩
noncomputable def Q71.c3 (N:Nat):iI:=⟨fun vs H k=>match vs,H with
 | [.c (.int .i64 b),.sw 0 3,.c (.int .i64 c)],[.ints .i64 d]=>Q71.l3 N N b c d (fun a=>k (.exit 0) ⟨yC Q71.h3.out [.sw 0 3],[.ints .i64 a]⟩)
 |_,_=>none⟩
noncomputable def Q71.E (N:Nat):rC:=yE [(2,nS),(23,kK),(43,cU)] [] [(3,Q71.h3),(6,Q71.h6)] [(6,Q71.c6 N),(3,Q71.c3 N)] N [.tmp 2] [.il .i64 3] 0 60
noncomputable def Q71.b6:Code:=qA ((fA (bo Try.f55)).getD 1 .skip)
theorem Q71.l6_eq {R:Type}(N n:Nat)(c d e:Int)(f:List Int)(k:Ex→St→Option R):
  iB 0 Q71.h6 (fun s k=>eB (Q71.E N) 388 Q71.b6 s k) n [.c (.int .i64 c),.sw 0 3,.c (.int .i64 d),.c (.int .i64 e)] [.ints .i64 f] k=Q71.l6 N n c d e f (fun g a b=>k (.exit 2) ⟨yC Q71.h6.out [.c (.int .i64 g),.sw 0 3,.c (.int .i64 a)],[.ints .i64 b]⟩):=by
 induction n generalizing c d e f with
 |zero=>kernel_rfl
 |succ n ih=>
  simp only[Q71.l6,←ih]
  kernel_rfl
noncomputable def Q71.b3:Code:=qA ((fA (bo Try.f55)).getD 0 .skip)
theorem Q71.l3_eq {R:Type}(N n:Nat)(b c:Int)(d:List Int)(k:Ex→St→Option R):
  iB 0 Q71.h3 (fun s k=>eB (Q71.E N) 394 Q71.b3 s k) n [.c (.int .i64 b),.sw 0 3,.c (.int .i64 c)] [.ints .i64 d] k=Q71.l3 N n b c d (fun a=>k (.exit 0) ⟨yC Q71.h3.out [.sw 0 3],[.ints .i64 a]⟩):=by
 induction n generalizing b c d with
 |zero=>kernel_rfl
 |succ n ih=>
  simp only[Q71.l3,←ih]
  kernel_rfl
noncomputable def Q71.dec (v:V)(bs:List mA):Option (List Int):=match v,bs with
 | .il .i64 3 a,[]=>some a
 |_,_=>none
theorem Q71.f_eq (N:Nat)(a:Int):
  bB (Q71.E N) (bo Try.f55) [.c (.int .i64 a)] [] Q71.dec=Q71.f N a:=by kernel_rfl
noncomputable def Q71.ent (N:Nat):wA:=eF (List Int) 0 [true] [.any] fun
 | [.c (.int .i64 a)]=>some (Q71.f N a,fun r=>.one (.il .i64 3 r) [])
 |_=>none
theorem Q71.env (N:Nat):aB Try.prog (Q71.E N):=⟨(.cons lD (.cons rD (.cons fH .nil))),.nil⟩
theorem Q71.k6 (N:Nat):xB Try.prog Try.f55 (Q71.E N) (.loop Q71.b6):=tC (Q71.env N) dA 388 (c:=Q71.c6 N) cA.n fun R vs H k r h=>by unfold Q71.c6 at h;dsimp only at h;split at h;exact⟨_,Q71.l6_eq .. ▸h⟩;cases h
theorem Q71.k3 (N:Nat):xB Try.prog Try.f55 (Q71.E N) (.loop Q71.b3):=tC (Q71.env N) dA 394 (c:=Q71.c3 N) (cA.of (l:=[(.loop (qA ((fA (bo Try.f55)).getD 1 .skip)))]) (by kernel_rfl) (cA.cons (Q71.k6 N) cA.nil)) fun R vs H k r h=>by unfold Q71.c3 at h;dsimp only at h;split at h;exact⟨_,Q71.l3_eq .. ▸h⟩;cases h
theorem Q71.spec (N:Nat)(a:Int)(r:List Int)(h:Q71.f N a=some r):iA Try.prog 55 [.c (.int .i64 a)] [] (.il .i64 3 r) ([]):=sA (Q71.env N) dA Try.func55 (cA.of (l:=[(.loop (qA ((fA (bo Try.f55)).getD 0 .skip))),(.loop (qA ((fA (bo Try.f55)).getD 1 .skip)))]) (by kernel_rfl) (cA.cons (Q71.k3 N) (cA.cons (Q71.k6 N) cA.nil))) ((Q71.f_eq ..).trans h) fun v b e=>by unfold Q71.dec at e;split at e<;>cases e;exact⟨rfl,rfl⟩
theorem Q71.ent_ok (N:Nat):oA Try.prog 55 (Q71.ent N):=xA fun v a e h=>by split at h;exact eC (Q:=fun e=>iA _ _ _ _ (e a).pick.1 (e a).pick.2) h fun k=>Q71.spec N _ a k;cases h
noncomputable def Q72.l4 {R:Type}(N:Nat):Nat→List Int→Int→List Int→(List Int→Option R)→Option R
 |0,_,_,_,_=>none
 |n+1,b,a,c,d=>
  bif decide (a<(b.length/3:Int))then
   bif (decide (0≤a))&&(decide (a<(b.length/3:Int)))then
    (Q70.f N (b.getD (a.toNat*3) 0) (b.getD ((a.toNat*3)+1) 0) (b.getD ((a.toNat*3)+2) 0)).bind fun e=>
    bif e==1 then
     bif (decide (0≤a))&&(decide (a<(b.length/3:Int)))then
      bif zA ((c.length+3)/3) 24 then
       Q72.l4 N n b (aA (a+1)) (c++[b.getD (a.toNat*3) 0,b.getD ((a.toNat*3)+1) 0,b.getD ((a.toNat*3)+2) 0]) d
      else none
     else none
    else
    Q72.l4 N n b (aA (a+1)) c d
   else none
  else
  d c
noncomputable def Q72.f (N:Nat)(a:Int):Option (List Int):=
 (Q71.f N a).bind fun b=>
 Q72.l4 N N b 0 []
  (fun c=>
   some c)
noncomputable def Q72.h4:bD:=⟨[(3,.row .i64 3),(4,.il .i64 3),(5,.any)],[(3,.row .i64 3)]⟩
noncomputable def Q72.c4 (N:Nat):iI:=⟨fun vs H k=>match vs,H with
 | [.sw 0 3,.il .i64 3 a,.c (.int .i64 b)],[.ints .i64 c]=>Q72.l4 N N a b c (fun d=>k (.exit 0) ⟨yC Q72.h4.out [.sw 0 3],[.ints .i64 d]⟩)
 |_,_=>none⟩
noncomputable def Q72.E (N:Nat):rC:=yE [(23,kK),(43,cU)] [(55,Q71.ent N),(11,Q70.ent N)] [(4,Q72.h4)] [(4,Q72.c4 N)] N [.tmp 2] [.il .i64 3] 0 30
noncomputable def Q72.b4:Code:=qA ((fA (bo Try.f42)).getD 0 .skip)
theorem Q72.l4_eq {R:Type}(N n:Nat)(a:List Int)(b:Int)(c:List Int)(k:Ex→St→Option R):
  iB 0 Q72.h4 (fun s k=>eB (Q72.E N) 393 Q72.b4 s k) n [.sw 0 3,.il .i64 3 a,.c (.int .i64 b)] [.ints .i64 c] k=Q72.l4 N n a b c (fun d=>k (.exit 0) ⟨yC Q72.h4.out [.sw 0 3],[.ints .i64 d]⟩):=by
 induction n generalizing a b c with
 |zero=>kernel_rfl
 |succ n ih=>
  simp only[Q72.l4,←ih]
  kernel_rfl
noncomputable def Q72.dec (v:V)(bs:List mA):Option (List Int):=match v,bs with
 | .il .i64 3 a,[]=>some a
 |_,_=>none
theorem Q72.f_eq (N:Nat)(a:Int):
  bB (Q72.E N) (bo Try.f42) [.c (.int .i64 a)] [] Q72.dec=Q72.f N a:=by kernel_rfl
noncomputable def Q72.ent (N:Nat):wA:=eF (List Int) 0 [true] [.any] fun
 | [.c (.int .i64 a)]=>some (Q72.f N a,fun r=>.one (.il .i64 3 r) [])
 |_=>none
theorem Q72.env (N:Nat):aB Try.prog (Q72.E N):=⟨(.cons rD (.cons fH .nil)),(.cons (Q71.ent_ok N) (.cons (Q70.ent_ok N) .nil))⟩
theorem Q72.k4 (N:Nat):xB Try.prog Try.f42 (Q72.E N) (.loop Q72.b4):=tC (Q72.env N) dA 393 (c:=Q72.c4 N) cA.n fun R vs H k r h=>by unfold Q72.c4 at h;dsimp only at h;split at h;exact⟨_,Q72.l4_eq .. ▸h⟩;cases h
theorem Q72.spec (N:Nat)(a:Int)(r:List Int)(h:Q72.f N a=some r):iA Try.prog 42 [.c (.int .i64 a)] [] (.il .i64 3 r) ([]):=sA (Q72.env N) dA Try.func42 (cA.of (l:=[(.loop (qA ((fA (bo Try.f42)).getD 0 .skip)))]) (by kernel_rfl) (cA.cons (Q72.k4 N) cA.nil)) ((Q72.f_eq ..).trans h) fun v b e=>by unfold Q72.dec at e;split at e<;>cases e;exact⟨rfl,rfl⟩
theorem Q72.ent_ok (N:Nat):oA Try.prog 42 (Q72.ent N):=xA fun v a e h=>by split at h;exact eC (Q:=fun e=>iA _ _ _ _ (e a).pick.1 (e a).pick.2) h fun k=>Q72.spec N _ a k;cases h
end Go.Proofs.Yteaakcmkpacpaaa
namespace Go.Proofs.Yteaakcmkpacpaaa.Ev
open Go.Shelf Go.RowKit Go.Lib Go.Sort
abbrev R3:=Int×Int×Int
def lU (x y:R3):Bool:=decide (x.1<y.1)||(x.1==y.1&&(decide (x.2.1<y.2.1)||(x.2.1==y.2.1&&decide (x.2.2≤y.2.2))))
def kR (x y:R3):Int:=
 if x.1<y.1 then-1 else if y.1<x.1 then 1 else
 if x.2.1<y.2.1 then-1 else if y.2.1<x.2.1 then 1 else
 if x.2.2<y.2.2 then-1 else if y.2.2<x.2.2 then 1 else 0
def kc (x:R3):List R3→List R3
 | []=>[x]
 |y::r=>bif lU x y then x::y::r else y::kc x r
def sN:List R3→List R3
 | []=>[]
 |x::r=>kc x (sN r)
def cF:List Int→List R3
 |a::b::c::r=>(a,b,c)::cF r
 |_=>[]
def oB:List R3→List Int
 | []=>[]
 |x::r=>x.1::x.2.1::x.2.2::oB r
def oT (l:List Int):List Int:=oB (sN (cF l))
theorem mI (x y:R3):lU x y=true↔(x.1<y.1∨x.1=y.1∧(x.2.1<y.2.1∨x.2.1=y.2.1∧x.2.2≤y.2.2)):=by
 simp[lU]
theorem lZ (x y:R3):lU x y=true∨lU y x=true:=by
 rw[mI,mI];omega
theorem mZ {x y z:R3}(h:lU x y=true)(k:lU y z=true):lU x z=true:=by
 rw[mI]at*;omega
theorem fh {x y:R3}(h:lU x y=true)(k:lU y x=true):x=y:=by
 rw[mI]at*;exact Prod.ext (by omega) (Prod.ext (by omega) (by omega))
theorem oP (x y:R3):ltOf kR x y= !(lU y x):=by
 unfold ltOf kR;rw[Bool.eq_iff_iff];simp only[decide_eq_true_eq,Bool.not_eq_true',←Bool.not_eq_true,mI]
 repeat' split
 all_goals omega
theorem rR (x:R3):∀l,(kc x l).Perm (x::l)
 | []=>.refl _
 |y::r=>by
  unfold kc;cases lU x y
  ·exact((rR x r).cons y).trans (.swap _ _ _)
  ·exact .refl _
theorem kS:∀l,(sN l).Perm l
 | []=>.refl _
 |x::r=>(rR x _).trans ((kS r).cons x)
theorem yS (x:R3):∀l,l.Pairwise (fun a b=>lU a b=true)→(kc x l).Pairwise (fun a b=>lU a b=true)
 | [],_=>by simp[kc]
 |y::r,h=>by
  obtain⟨h1,h2⟩:=hD.mp h;unfold kc;cases hxy:lU x y
  ·refine hD.mpr ⟨fun z hz=>?_,yS x r h2⟩;rcases List.mem_cons.mp ((rR x r).mem_iff.mp hz)with rfl|hz
   ·exact(lZ z y).resolve_left (by rw[hxy];simp)
   ·exact h1 z hz
  ·refine hD.mpr ⟨fun z hz=>?_,h⟩;rcases List.mem_cons.mp hz with rfl|hz
   ·exact hxy
   ·exact mZ hxy (h1 z hz)
theorem rT:∀l,(sN l).Pairwise (fun a b=>lU a b=true)
 | []=>.nil
 |x::r=>yS x _ (rT r)
theorem zJ {l m:List R3}(h:l.Perm m)(hs:l.Pairwise (fun a b=>lU a b=true)):l=sN m:=
 List.Perm.eq_of_pairwise (le:=fun a b=>lU a b=true) (fun a b _ _ h1 h2=>fh h1 h2) hs (rT m) (h.trans (kS m).symm)
theorem tf (d:List R3):(d.mergeSort fun x y=>!(ltOf kR) y x)=sN d:=by
 have e:(fun x y=>!(ltOf kR) y x)=lU:=by funext x y;rw[oP];simp
 rw[e];exact zJ (List.mergeSort_perm d lU) (List.pairwise_mergeSort (le:=lU) (fun a b c h k=>mZ h k) (fun a b=>by simpa using lZ a b) d)
theorem Eo:SWO (ltOf kR) where
 irrefl x:=by rw[oP,hC,mI];omega
 trans x y z h1 h2:=by rw[oP,Bool.not_eq_true',←Bool.not_eq_true,mI]at*;omega
 ntrans x y z h1 h2:=by rw[oP,hC,mI]at*;omega
theorem Ep (x y:R3)(h:(ltOf kR) x y=false)(k:(ltOf kR) y x=false):x=y:=by
 rw[oP,hC]at*;exact fh k h
theorem vV:∀l:List Int,l.length%3=0→oB (cF l)=l
 | [],_=>rfl
 | [_],h=>by simp at h
 | [_,_],h=>by simp at h
 |a::b::c::r,h=>by
  have h':r.length%3=0:=by simp only[hE]at h;omega
  simp only[cF,oB];rw[vV r h']
theorem mX:∀l:List R3,cF (oB l)=l
 | []=>rfl
 |x::r=>by simp only[cF,oB,mX r]
theorem iE:∀l:List R3,(oB l).length=l.length*3
 | []=>rfl
 |x::r=>by simp only[oB,hE,iE r];omega
theorem qT (l:List R3):(sN l).length=l.length:=(kS l).length_eq
theorem aM:∀l:List Int,(cF l).length=l.length/3
 | []=>rfl
 | [_]=>by simp[cF]
 | [_,_]=>by simp[cF]
 |a::b::c::r=>by simp only[cF,hE,aM r];omega
theorem uQ {l:List Int}(h:l.length%3=0):(oT l).length=l.length:=by
 unfold oT;rw[iE,qT,aM];omega
theorem lI:∀a b:List R3,oB (a++b)=oB a++oB b
 | [],_=>rfl
 |x::r,b=>by simp only[List.cons_append,oB,lI r b]
def rK (x:R3):List Value:=[.int .i64 x.1,.int .i64 x.2.1,.int .i64 x.2.2]
theorem tK:∀(d:List R3) (t:Nat),t<d.length*3→(oB d)[t]?=match t%3 with|0=>d[t/3]?.map (·.1)|1=>d[t/3]?.map (·.2.1)|_=>d[t/3]?.map (·.2.2)
 | [],t,h=>by simp at h
 |x::r,0,_=>rfl
 |x::r,1,_=>rfl
 |x::r,2,_=>rfl
 |x::r,t+3,h=>by
  have h3:(t+3)%3=t%3:=by omega
  have h4:(t+3)/3=t/3+1:=by omega
  have ih:=tK r t (by simp at h;omega);simp only[oB,hG];rw[ih,h3,h4];simp only[hG]
theorem wi (d:List R3)(t:Nat)(h:t<d.length*3):(flatK rK 3 d.toArray)[t]! = .int .i64 ((oB d).getD t 0):=by
 rw[get_flatK _ _ _ _ (by simpa using h),List.getD_eq_getElem?_getD,tK d t h];have hlt:t/3<d.length:=by omega
 have hm:t%3=0∨t%3=1∨t%3=2:=by omega
 simp only[List.getElem?_eq_getElem hlt,Option.map_some];have hd:d.toArray[t/3]! =d[t/3]:=by rw[getElem!_pos d.toArray (t/3) (by simpa using hlt)];simp
 rw[hd];rcases hm with h0|h0|h0<;>rw[h0]<;>simp[rK]
section
variable {P:Program}{F:Nat→Prop}{ρ:kC}{h:Nat→mA}{w:World}
theorem gA.grow (hh:gA F ρ h w)(os:Array Obj):gA F ρ h (Go.Sort.grow w os)∧yF (eA ρ h) w (eA ρ h) (Go.Sort.grow w os):=by
 have hext:yF (eA ρ h) w (eA ρ h) (Go.Sort.grow w os):=by refine⟨by simp[Go.Sort.grow],fun b hb _=>?_,fun b hb=>.inl hb,⟨rfl,rfl,rfl,Nat.le_refl _⟩⟩;simp only[Go.Sort.grow];rw[hA hb]
 refine⟨⟨hh.wf,fun id hl=>?_,hh.inj,hh.low' hext,hh.out⟩,hext⟩;obtain⟨p,hp,hb⟩:=hh.rel id hl;refine⟨p,hp,fB.mono (mK.refl _) hext hb ?_⟩;intro b hb';obtain⟨pb,pn,pC⟩:=p;dsimp only at hb';subst hb';have hlt:=eA.lt hh ⟨id,pn,pC,hp,hl⟩;simp only[Go.Sort.grow];rw[hA hlt]
theorem jl {g:Nat}(hs:∀x y:R3,iA P g [.agg [.c (.int .i64 x.1),.c (.int .i64 x.2.1),.c (.int .i64 x.2.2)],.agg [.c (.int .i64 y.1),.c (.int .i64 y.2.1),.c (.int .i64 y.2.2)]] [] (.c (.int .i64 (kR x y))) [])(blk off size:Nat)(w:World):
  CmpLays P g #[] rK 3 kR blk off size w:=by
 intro m os dk hsz x y;generalize sortWorldK rK 3 w blk off m dk os=W;have h0:gA (fun _=>False) (fun _=>none) (nA []) W:=⟨fun _ _ hx=>(by cases hx),fun id hl=>(by simp[nA,mA.live]at hl),fun i j b n C n' C' hi=>(by simp[nA,mA.live]at hi),fun _ hb=>hb.elim,fun _ _ hb=>hb.elim⟩
 have hc:=(hs x y).calls (fun _=>False) (fun _=>none) W [.agg (rK x).toArray,.agg (rK y).toArray] h0 (fun _ _ _=>rfl) ⟨0,fun _ _=>rfl⟩ (Nat.zero_le _) (by simp only[jA,and_true];refine⟨?_,?_⟩<;>(simp only[lA];refine⟨_,rfl,?_⟩;simp[rK,jA,lA]));refine Calls.mono (by simpa using hc) ?_;rintro e w' ⟨v',rfl,ρ',_,_,_,_,_,_,_,_,hH,hv,hext⟩;have:=hv.c;subst this;refine⟨rfl,w'.drawn-W.drawn,w'.heap.extract W.heap.size w'.heap.size,?_⟩;have hk:=hext.keeps;have hheap:w'.heap=W.heap++w'.heap.extract W.heap.size w'.heap.size:=by
  apply Array.ext_getElem?;intro i;by_cases hi:i<W.heap.size
  ·rw[hA hi];exact hext.same i hi (fun⟨id,n,C,h1,_⟩=>by cases h1)
  ·rw[Array.getElem?_append_right (by omega)];have hsz:=hext.size;simp only[Array.getElem?_extract];by_cases h2:i<w'.heap.size
   ·rw[if_pos (by omega)];congr 1;omega
   ·rw[if_neg (by omega),Array.getElem?_eq_none (by omega)]
 have hd:=hk.drawn;obtain⟨hp',t',d',o',u'⟩:=w';obtain⟨hp,t,d0,o,u⟩:=W;obtain⟨k1,k2,k3,k4⟩:=hk;simp only at k1 k2 k3 k4 hheap hd⊢;subst k1 k2 k3;simp only[Go.Sort.grow,World.drewN,World.mk.injEq,true_and,and_true];exact⟨hheap,by omega⟩
theorem ao (d:List R3)(c:Array Value)(i:Nat):(putCells id 0 (flatK rK 3 d.toArray) c)[i]?=if i<d.length*3 then c[i]?.map (fun _=>.int .i64 ((oB d).getD i 0))else c[i]?:=by
 simp only[putCells,Array.getElem?_mapIdx,size_flatK,List.size_toArray,Nat.zero_le,true_and,Nat.zero_add,Nat.sub_zero,id_eq];by_cases hi:i<d.length*3
 ·simp only[hi,if_true];rw[wi d i hi]
 ·simp only[hi,if_false];cases c[i]?<;>rfl
theorem tb {R:Ren}(L:SlLaysF0.n6 P R)(aE:∀w,(isAgg (R.t 24)).run P w= .ok true w)(zE:∀w,(Go.sizeOf (R.t 24)).run P w= .ok 3 w)(hcall:oM P (R.f 6)){g:Nat}(eg:∀args w,(callFunc g args).run P w= .ok (.enter g args) w)
  (hs:∀x y:R3,iA P g [.agg [.c (.int .i64 x.1),.c (.int .i64 x.2.1),.c (.int .i64 x.2.2)],.agg [.c (.int .i64 y.1),.c (.int .i64 y.2.1),.c (.int .i64 y.2.2)]] [] (.c (.int .i64 (kR x y))) [])(l:List Int)(hsz:l.length<4611686018427387904):
  iA P (R.f 6) [.sw 0 3,.fn g [] []] [.ints .i64 l] (.c (.tuple #[])) [.ints .i64 (oT l)]:=by
 refine⟨hcall,?_⟩;intro F ρ w args' hH hn hbd hbl hr;have hflat:∀l':List Int,Dh (nA [mA.ints .i64 l']) (nA [mA.ints .i64 l']):=fun l'=>⟨_,yB.flat (fun j=>by cases j<;>rfl) (fun j hj=>by
  have:1≤j:=by unfold top at hj;omega
  obtain⟨k,rfl⟩:∃k,j=k+1:=⟨j-1,by omega⟩
  rfl)⟩
 have hgh:∀(l':List Int) g,top≤g→(nA [mA.ints .i64 l'] g).live→ρ g=none:=fun l' g hg hl=>by
  have:1≤g:=by unfold top at hg;omega
  obtain⟨k,rfl⟩:∃k,g=k+1:=⟨g-1,by omega⟩
  exact hl.elim
 obtain⟨v0,v1,rfl⟩:∃a b,args'=[a,b]:=by
  have:=hr.length;simp at this
  match args',this with
  | [a,b],_=>exact⟨a,b,rfl⟩
 simp only[jA,and_true]at hr;obtain⟨hr0,hr1⟩:=hr;have hf:v1= .func (.func g) #[] #[]:=by simp only[lA]at hr1;obtain⟨va,vc,rfl,ha,hc⟩:=hr1;have ha:=ha.length;have hc:=hc.length;simp at ha hc;rw[show va= #[]from hB (by simpa using ha.symm),show vc= #[]from hB (by simpa using hc.symm)]
 subst hf;have hl0:(nA [mA.ints .i64 l] 0).live:=trivial;have hb0:nA [mA.ints .i64 l] 0= .ints .i64 l:=rfl;have hset:∀x,gB (nA [mA.ints .i64 l]) 0 x=nA [x]:=by intro x;funext j;cases j<;>simp[gB,nA]
 obtain⟨_,⟨b,n,C,cap,c,h1,h2,h3,h4,h5,ho,hszc,hold⟩|⟨h1,h2,hk⟩⟩:=pF hH hr0 hl0 trivial
 ·subst h5;rw[hb0]at hold;obtain⟨k1,k2,k3⟩:=hold;have hmod:l.length%3=0:=by rw[k1];exact h2
  obtain⟨e,fr,g1,g2,g3⟩:=ho;have hblt:b<w.heap.size:=(Array.getElem?_eq_some_iff.mp g1).1;have hfl:=vV l hmod;have hdl:(cF l).length*3=n:=by rw[aM,←k1];omega
  have hH3:HoldsK rK 3 w b 0 (cF l).toArray:=by
   intro j hj;rw[size_flatK]at hj;have hj':j<(cF l).length*3:=by simpa using hj
   have hjl:j<l.length:=by omega
   rw[wi _ _ hj',hfl];have hc:=k3 j hjl;refine⟨by simp[World.cell?,g1,hc],?_⟩;simp only[World.frozen?,g1,Nat.zero_add];have:=g3 j (by omega);simp only[Bool.and_eq_false_iff,decide_eq_false_iff_not];omega
  have hsize:(cF l).toArray.size=n/3:=by simp;omega
  have hcon:=AnyQ.slices_SortFunc_total L 3 aE zE rK (fun _=>rfl) (fun x v hv=>by simp[rK]at hv;rcases hv with rfl|rfl|rfl<;>rfl) kR Eo g #[] b 0 cap (cF l).toArray w eg (jl hs b 0 _ w) hH3 hblt (by simp only[hsize];omega) Ep;rw[hsize]at hcon;refine Calls.mono hcon ?_;rintro e' w' ⟨rfl,m,os,rfl⟩;rw[List.toList_toArray,tf];refine⟨_,rfl,ρ,nA [mA.ints .i64 (oT l)],fun _ _=>rfl,fun _ _ _ h=>h,hn,hbd,hbl,hgh _,hflat _,?_⟩;have hlen3:(sN (cF l)).length*3=n:=by rw[qT,hdl]
  have hheap:(putRowK rK 3 (Sort.ahead w m) b 0 (sN (cF l)).toArray).heap=w.heap.modify b (onCells (putCells id 0 (flatK rK 3 (sN (cF l)).toArray))):=rfl;have hown:cf (putRowK rK 3 (Sort.ahead w m) b 0 (sN (cF l)).toArray) b (putCells id 0 (flatK rK 3 (sN (cF l)).toArray) c).size (putCells id 0 (flatK rK 3 (sN (cF l)).toArray) c):=by refine⟨e,fr,?_,rfl,fun i hi=>g3 i (by simp[putCells]at hi;omega)⟩;rw[hheap,hI,if_pos rfl,g1];rfl
  have hcs:(putCells id 0 (flatK rK 3 (sN (cF l)).toArray) c).size=c.size:=by simp[putCells]
  have hp:ρ 0=some ⟨some b,n,(putCells id 0 (flatK rK 3 (sN (cF l)).toArray) c).size⟩:=by rw[hcs,hszc];exact h1
  have hholds:iC ρ (av F (eA ρ (nA [mA.ints .i64 l]))) w n (putCells id 0 (flatK rK 3 (sN (cF l)).toArray) c) (.ints .i64 (oT l)):=by
   refine⟨by rw[uQ hmod,k1],by rw[hcs];exact k2,fun i hi=>?_⟩;rw[uQ hmod]at hi;rw[ao,if_pos (by omega)];have:i<c.size:=by omega
   rw[Array.getElem?_eq_getElem this,Option.map_some];rfl
  obtain⟨q1,q2⟩:=gA.write (w':=putRowK rK 3 (Sort.ahead w m) b 0 (sN (cF l)).toArray) hH hl0 hp ⟨by rw[hheap];simp,⟨rfl,rfl,rfl,Nat.le_add_right _ _⟩⟩ (fun b' hb'=>by rw[hheap,hI,if_neg (Ne.symm hb')]) hown hholds;rw[hset]at q1 q2;obtain⟨q3,q4⟩:=q1.grow os;exact⟨q3,lA.of_c _,q2.trans q4⟩
 ·subst h2;rw[hb0]at hk;have hl:l=[]:=by rcases hk with⟨k2,hk2⟩|hk2|⟨_,_,hk2⟩<;>cases hk2;rfl
  subst hl;have hcon:=AnyF.slices_SortFunc_none L none 0 (.func (.func g) #[] #[]) w;refine Calls.mono hcon ?_;rintro e' w' ⟨rfl,rfl⟩;exact⟨_,rfl,ρ,nA [mA.ints .i64 (oT [])],fun _ _=>rfl,fun _ _ _ h=>h,hn,hbd,hbl,hgh _,hflat _,hH,lA.of_c _,yF.refl _ _⟩
end
end Go.Proofs.Yteaakcmkpacpaaa.Ev
namespace Go.Proofs.Yteaakcmkpacpaaa
open Go.Proofs.Yteaakcmkpacpaaa.Ev Go.Shelf
open Go
set_option maxRecDepth 100000
def su:Go.Shelf.Ren:=⟨fun|6=>66|15=>81|14=>80|28=>93|29=>102|20=>94|21=>95|22=>96|23=>97|24=>98|25=>99|26=>100|27=>101|46=>111|47=>112|48=>113|49=>114|50=>115|57=>124|n=>n,fun|22=>43|24=>23|25=>104|3=>3|39=>118|0=>0|53=>129|55=>115|4=>4|46=>133|45=>132|50=>65|5=>5|9=>9|66=>147|70=>151|76=>160|77=>161|n=>n,fun|n=>n⟩
theorem Dx:Go.Proofs.SlLaysF0.n6 Try.prog su:={
 mixed:=by kernel_rfl
 f6:=⟨Try.f66.name,by decide,Try.func66.trans (congrArg some (by kernel_rfl))⟩
 f14:=⟨Try.f80.name,by decide,Try.func80.trans (congrArg some (by kernel_rfl))⟩
 f15:=Try.func81.trans (congrArg some (by kernel_rfl))
 f20:=⟨Try.f94.name,by decide,Try.func94.trans (congrArg some (by kernel_rfl))⟩
 f21:=⟨Try.f95.name,by decide,Try.func95.trans (congrArg some (by kernel_rfl))⟩
 f22:=⟨Try.f96.name,by decide,Try.func96.trans (congrArg some (by kernel_rfl))⟩
 f23:=⟨Try.f97.name,by decide,Try.func97.trans (congrArg some (by kernel_rfl))⟩
 f24:=⟨Try.f98.name,by decide,Try.func98.trans (congrArg some (by kernel_rfl))⟩
 f25:=⟨Try.f99.name,by decide,Try.func99.trans (congrArg some (by kernel_rfl))⟩
 f26:=⟨Try.f100.name,by decide,Try.func100.trans (congrArg some (by kernel_rfl))⟩
 f27:=⟨Try.f101.name,by decide,Try.func101.trans (congrArg some (by kernel_rfl))⟩
 f28:=Try.func93.trans (congrArg some (by kernel_rfl))
 f29:=Try.func102.trans (congrArg some (by kernel_rfl))
 f46:=⟨Try.f111.name,by decide,Try.func111.trans (congrArg some (by kernel_rfl))⟩
 f47:=Try.func112.trans (congrArg some (by kernel_rfl))
 f48:=Try.func113.trans (congrArg some (by kernel_rfl))
 f49:=⟨Try.f114.name,by decide,Try.func114.trans (congrArg some (by kernel_rfl))⟩
 f50:=⟨Try.f115.name,by decide,Try.func115.trans (congrArg some (by kernel_rfl))⟩
 f57:=⟨Try.f124.name,by decide,Try.func124.trans (congrArg some (by kernel_rfl))⟩
 t0:=Try.underlying0
 a0:=Try.isAgg0
 z0:=Try.sizeOf0
 v0:=Try.zeroValue0
 t3:=Try.underlying3
 a3:=Try.isAgg3
 z3:=Try.sizeOf3
 v3:=Try.zeroValue3
 t4:=Try.underlying4
 a4:=Try.isAgg4
 z4:=Try.sizeOf4
 v4:=Try.zeroValue4
 t5:=Try.underlying5
 a5:=Try.isAgg5
 z5:=Try.sizeOf5
 v5:=Try.zeroValue5
 t9:=Try.underlying9
 a9:=Try.isAgg9
 z9:=Try.sizeOf9
 v9:=Try.zeroValue9
 t22:=Try.underlying43
 a22:=Try.isAgg43
 z22:=Try.sizeOf43
 v22:=Try.zeroValue43
 t25:=Try.underlying104
 a25:=Try.isAgg104
 z25:=Try.sizeOf104
 v25:=Try.zeroValue104
 t39:=Try.underlying118
 a39:=Try.isAgg118
 z39:=Try.sizeOf118
 v39:=Try.zeroValue118
 t45:=Try.underlying132
 a45:=Try.isAgg132
 z45:=Try.sizeOf132
 v45:=Try.zeroValue132
 t46:=Try.underlying133
 a46:=Try.isAgg133
 z46:=Try.sizeOf133
 v46:=Try.zeroValue133
 t50:=Try.underlying65
 a50:=Try.isAgg65
 z50:=Try.sizeOf65
 v50:=Try.zeroValue65
 t53:=Try.underlying129
 a53:=Try.isAgg129
 z53:=Try.sizeOf129
 v53:=Try.zeroValue129
 t55:=Try.underlying115
 a55:=Try.isAgg115
 z55:=Try.sizeOf115
 v55:=Try.zeroValue115
 t66:=Try.underlying147
 a66:=Try.isAgg147
 z66:=Try.sizeOf147
 v66:=Try.zeroValue147
 t70:=Try.underlying151
 a70:=Try.isAgg151
 z70:=Try.sizeOf151
 v70:=Try.zeroValue151
 t76:=Try.underlying160
 a76:=Try.isAgg160
 z76:=Try.sizeOf160
 v76:=Try.zeroValue160
 t77:=Try.underlying161
 a77:=Try.isAgg161
 z77:=Try.sizeOf161
 v77:=Try.zeroValue161}
theorem Ax (a b c:Int):Q64.f 10 [a,b,c]=some (if a≠0 then a else if b≠0 then b else c):=by
 unfold Q64.f;have w1:aA (0+1)=1:=by decide
 have w2:aA (1+1)=2:=by decide
 have w3:aA (2+1)=3:=by decide
 simp only[Q64.l3,w1,w2,w3];have e:∀x:Int,¬x=0→(x != 0)=true:=fun x hx=>by simpa using hx
 by_cases h1:a=0<;>by_cases h2:b=0<;>by_cases h3:c=0<;>simp[h1,h2,h3,e]
theorem oL (N:Nat)(a b:Int):Q63.f N a b=some (if a<b then-1 else if b<a then 1 else 0):=by
 unfold Q63.f Q62.f;by_cases h1:a<b<;>by_cases h2:b<a<;>simp[h1,h2]
theorem vk (x y:R3):Q65.f 10 x.1 x.2.1 x.2.2 y.1 y.2.1 y.2.2=some (kR x y):=by
 unfold Q65.f kR;rw[oL,oL,oL];simp only[Option.bind_some,Ax];congr 1
 repeat' split
 all_goals omega
noncomputable def Q73.f (N:Nat)(l:List Int):Option (List Int):=bif Nat.blt l.length 4611686018427387904 then some (oT l)else none
noncomputable def Q73.ent (N:Nat):wA:={A:=List Int,fresh:=0,imm:=[false,false],dec:=fun args bs=>match args,bs with
 | [.sw 0 3,.fn g [] []],[.ints .i64 l]=>bif Nat.beq g 67 then some (Q73.f N l,fun r=>.one (.c (.tuple #[])) [.ints .i64 r])else none
 |_,_=>none}
theorem Q73.ent_ok (N:Nat):oA Try.prog 66 (Q73.ent N):=by
 intro args bs a enc h;simp only[Q73.ent]at h;split at h
 ·rename_i g l;obtain⟨hg,h⟩:=bA h;have hg:=yA hg;subst hg;have h0:=Option.some.inj h;have h1:=congrArg Prod.fst h0;have h2:=congrArg Prod.snd h0;dsimp only at h1 h2;subst h2;unfold Q73.f at h1;obtain⟨hl,h1⟩:=bA h1;obtain rfl:=Option.some.inj h1;exact tb Dx Try.isAgg23 Try.sizeOf23 ⟨_,Try.func66,by kernel_rfl,by kernel_rfl⟩ (enters_of Try.func67 (by kernel_rfl) rfl) (fun x y=>Q65.spec 10 _ _ _ _ _ _ _ (vk x y)) l (uB hl)
 ·cases h
open Go.Proofs.Yteaakcmkpacpaaa.Ev
noncomputable def Bf:TI:=⟨.slice 79,1,24,[.slice none 0 0]⟩
noncomputable def D6:TI:=⟨.struct [(2,0),(3,1)],2,16,[.int .i64 0,.int .i64 0]⟩
theorem bq:fC Try.prog 75 Bf:=lC (by kernel_rfl) (by kernel_rfl) (by kernel_rfl) (by kernel_rfl) (by kernel_rfl) (by kernel_rfl) (by kernel_rfl) (Try.underlying75) (by kernel_rfl)
theorem pw:fC Try.prog 79 D6:=lC (by kernel_rfl) (by kernel_rfl) (by kernel_rfl) (by kernel_rfl) (by kernel_rfl) (by kernel_rfl) (by kernel_rfl) (dL Try.underlying79 (by kernel_rfl) (by kernel_rfl)) (by kernel_rfl)
noncomputable def Q74.l3 {R:Type}(N:Nat):Nat→List Int→List (List Int)→List Int→Nat→List Nat→Nat→(List Int→Option R)→Option R
 |0,_,_,_,_,_,_,_=>none
 |n+1,d,c,g,e,b,h,f=>
  bif Nat.beq c.length e then
   bif b.isEmpty then
    f d
   else
   wY b.length fun a=>
   bif Nat.beq c.length e&&Nat.blt (b.getD a 0) c.length then
    bif (g.getD (b.getD a 0) 0)==1 then
     bif zA ((d.length+3)/3) 24 then
      Q74.l3 N n (d++[(c.getD (b.getD a 0) []).getD 0 0,(c.getD (b.getD a 0) []).getD 1 0,(c.getD (b.getD a 0) []).getD 2 0]) c g e (b.eraseIdx a) (b.getD a 0) f
     else none
    else
    Q74.l3 N n d c g e (b.eraseIdx a) (b.getD a 0) f
   else none
  else none
noncomputable def Q74.f (N:Nat)(d:Int):Option (List Int):=
 (Q67.f N d).bind fun a=>
 Q74.l3 N N [] a.1 a.2 a.1.length (List.range a.1.length) a.1.length
  (fun c=>
   (Q73.f N c).bind fun b=>
   some b)
noncomputable def Q74.h3:bD:=⟨[(3,.row .i64 3),(8,.any)],[(3,.row .i64 3)]⟩
noncomputable def Q74.c3 (N:Nat):iI:=⟨fun vs H k=>match vs,H with
 | [.sw 0 3,.ptr 2 0 0],[.ints .i64 a,.mp .i64 3 b (.ints .i64 c),.it (some 1) d e f]=>Q74.l3 N N a b c d e f (fun g=>k (.exit 0) ⟨yC Q74.h3.out [.sw 0 3],[.ints .i64 g]⟩)
 |_,_=>none⟩
noncomputable def Q74.E (N:Nat):rC:=yE [(2,nS),(23,kK),(43,cU),(100,zn)] [(65,Q67.ent N),(66,Q73.ent N)] [(3,Q74.h3)] [(3,Q74.c3 N)] N [.tmp 2] [.row .i64 3] 0 23 true
noncomputable def Q74.b3:Code:=qA ((fA (bo Try.f54)).getD 0 .skip)
theorem Q74.l3_eq {R:Type}(N n:Nat)(a:List Int)(b:List (List Int))(c:List Int)(d:Nat)(e:List Nat)(f:Nat)(k:Ex→St→Option R):
  iB 0 Q74.h3 (fun s k=>eB (Q74.E N) 394 Q74.b3 s k) n [.sw 0 3,.ptr 2 0 0] [.ints .i64 a,.mp .i64 3 b (.ints .i64 c),.it (some 1) d e f] k=Q74.l3 N n a b c d e f (fun g=>k (.exit 0) ⟨yC Q74.h3.out [.sw 0 3],[.ints .i64 g]⟩):=by
 induction n generalizing a b c d e f with
 |zero=>kernel_rfl
 |succ n ih=>
  simp only[Q74.l3,←ih]
  kernel_rfl
noncomputable def Q74.dec (v:V)(bs:List mA):Option (List Int):=match v,bs with
 | .sw 0 3,[.ints .i64 a]=>some a
 |_,_=>none
theorem Q74.f_eq (N:Nat)(a:Int):
  bB (Q74.E N) (bo Try.f54) [.c (.int .i64 a)] [] Q74.dec=Q74.f N a:=by kernel_rfl
noncomputable def Q74.ent (N:Nat):wA:=eF (List Int) 1 [true] [.any] fun
 | [.c (.int .i64 a)]=>some (Q74.f N a,fun r=>.one (.sw 0 3) [.ints .i64 r])
 |_=>none
theorem Q74.env (N:Nat):aB Try.prog (Q74.E N):=⟨(.cons lD (.cons rD (.cons fH (.cons iq .nil)))),(.cons (Q67.ent_ok N) (.cons (Q73.ent_ok N) .nil))⟩
theorem Q74.k3 (N:Nat):xB Try.prog Try.f54 (Q74.E N) (.loop Q74.b3):=tC (Q74.env N) dA 394 (c:=Q74.c3 N) cA.n fun R vs H k r h=>by unfold Q74.c3 at h;dsimp only at h;split at h;exact⟨_,Q74.l3_eq .. ▸h⟩;cases h
theorem Q74.spec (N:Nat)(a:Int)(r:List Int)(h:Q74.f N a=some r):iA Try.prog 54 [.c (.int .i64 a)] [] (.sw 0 3) ([.ints .i64 r]):=sA (Q74.env N) dA Try.func54 (cA.of (l:=[(.loop (qA ((fA (bo Try.f54)).getD 0 .skip)))]) (by kernel_rfl) (cA.cons (Q74.k3 N) cA.nil)) ((Q74.f_eq ..).trans h) fun v b e=>by unfold Q74.dec at e;split at e<;>cases e;exact⟨rfl,rfl⟩
theorem Q74.ent_ok (N:Nat):oA Try.prog 54 (Q74.ent N):=xA fun v a e h=>by split at h;exact eC (Q:=fun e=>iA _ _ _ _ (e a).pick.1 (e a).pick.2) h fun k=>Q74.spec N _ a k;cases h
noncomputable def Q75.f (N:Nat)(a:Int):Option (List Int×Int):=
 (Q66.f N a).bind fun b=>
 bif b != 0 then
  some ([],b)
 else
 (Q74.f N a).bind fun c=>
 some (c,0)
noncomputable def Q75.E (N:Nat):rC:=yE [] [(40,Q66.ent N),(54,Q74.ent N)] [] [] N [.tmp 2,.tmp 3] [.row .i64 3,.any] 0 12 true
noncomputable def Q75.dec (v:V)(bs:List mA):Option (List Int×Int):=match v,bs with
 | .tup [.sw 0 3,.c (.int .i64 b)],[.ints .i64 a]=>some (a,b)
 |_,_=>none
theorem Q75.f_eq (N:Nat)(a:Int):
  bB (Q75.E N) (bo Try.f41) [.c (.int .i64 a)] [] Q75.dec=Q75.f N a:=by kernel_rfl
noncomputable def Q75.ent (N:Nat):wA:=eF (List Int×Int) 1 [true] [.any] fun
 | [.c (.int .i64 a)]=>some (Q75.f N a,fun r=>.one (.tup [.sw 0 3,.c (.int .i64 r.2)]) [.ints .i64 r.1])
 |_=>none
theorem Q75.env (N:Nat):aB Try.prog (Q75.E N):=⟨.nil,(.cons (Q66.ent_ok N) (.cons (Q74.ent_ok N) .nil))⟩
theorem Q75.spec (N:Nat)(a:Int)(r:List Int×Int)(h:Q75.f N a=some r):iA Try.prog 41 [.c (.int .i64 a)] [] (.tup [.sw 0 3,.c (.int .i64 r.2)]) ([.ints .i64 r.1]):=sA (Q75.env N) dA Try.func41 cA.n ((Q75.f_eq ..).trans h) fun v b e=>by unfold Q75.dec at e;split at e<;>cases e;exact⟨rfl,rfl⟩
theorem Q75.ent_ok (N:Nat):oA Try.prog 41 (Q75.ent N):=xA fun v a e h=>by split at h;exact eC (Q:=fun e=>iA _ _ _ _ (e a).pick.1 (e a).pick.2) h fun k=>Q75.spec N _ a k;cases h
noncomputable def Q76.l1 {R:Type}(N:Nat):Nat→Int→Int→Int→List Int→(Int→Int→Int→List Int→Option R)→Option R
 |0,_,_,_,_,_=>none
 |n+1,a,d,b,e,c=>
  bif !(a==0)then
   bif (Int.tmod b a)==0 then
    bif !(a==0)then
     Q76.l1 N n a (aA (d+1)) (aA (Int.tdiv b a)) e c
    else none
   else
   c a d b e
  else none
noncomputable def Q76.f (N:Nat)(e f:Int)(g:List Int):Option (Bool×Int×List Int):=
 Q76.l1 N N e 0 f g
  (fun d b c a=>
   bif decide (b>0)then
    bif zA ((a.length+2)/2) 16 then
     some (true,c,a++[d,b])
    else none
   else
   some (false,c,a))
noncomputable def Q76.h1:bD:=⟨[(0,.any),(1,.any),(2,.any),(4,.any)],[(0,.any),(2,.any),(4,.any)]⟩
noncomputable def Q76.c1 (N:Nat):iI:=⟨fun vs H k=>match vs,H with
 | [.c (.int .i64 c),.ptr 0 0 1,.ptr 1 0 1,.c (.int .i64 d)],[.vals [.c (.int .i64 e)],.vals [.sw 2 2],.ints .i64 f]=>Q76.l1 N N c d e f (fun g h a b=>k (.exit 0) ⟨yC Q76.h1.out [.c (.int .i64 g),.ptr 1 0 1,.c (.int .i64 h)],[.vals [.c (.int .i64 a)],.vals [.sw 2 2],.ints .i64 b]⟩)
 |_,_=>none⟩
noncomputable def Q76.E (N:Nat):rC:=yE [(2,nS),(3,tn),(75,Bf),(79,D6)] [] [(1,Q76.h1)] [(1,Q76.c1 N)] N [] [] 3 22 true [(1,[.row .i64 2])]
noncomputable def Q76.b1:Code:=qA ((fA (bo Try.f61)).getD 0 .skip)
theorem Q76.l1_eq {R:Type}(N n:Nat)(c d e:Int)(f:List Int)(k:Ex→St→Option R):
  iB 3 Q76.h1 (fun s k=>eB (Q76.E N) 396 Q76.b1 s k) n [.c (.int .i64 c),.ptr 0 0 1,.ptr 1 0 1,.c (.int .i64 d)] [.vals [.c (.int .i64 e)],.vals [.sw 2 2],.ints .i64 f] k=Q76.l1 N n c d e f (fun g h a b=>k (.exit 0) ⟨yC Q76.h1.out [.c (.int .i64 g),.ptr 1 0 1,.c (.int .i64 h)],[.vals [.c (.int .i64 a)],.vals [.sw 2 2],.ints .i64 b]⟩):=by
 induction n generalizing c d e f with
 |zero=>kernel_rfl
 |succ n ih=>
  simp only[Q76.l1,←ih]
  kernel_rfl
noncomputable def Q76.dec (v:V)(bs:List mA):Option (Bool×Int×List Int):=match v,bs with
 | .tup [],[.vals [.c (.int .i64 a)],.vals [.sw 3 2],.dead,.ints .i64 b]=>some (true,a,b)
 | .tup [],[.vals [.c (.int .i64 a)],.vals [.sw 2 2],.ints .i64 b]=>some (false,a,b)
 |_,_=>none
theorem Q76.f_eq (N:Nat)(a b:Int)(c:List Int):
  bB (Q76.E N) (bo Try.f61) [.c (.int .i64 a),.ptr 0 0 1,.ptr 1 0 1] [.vals [.c (.int .i64 b)],.vals [.sw 2 2],.ints .i64 c] Q76.dec=Q76.f N a b c:=by kernel_rfl
noncomputable def Q76.ent (N:Nat):wA:={A:=Bool×Int×List Int,fresh:=1,imm:=[true,false,false],dec:=fun args bs=>match mJ (nA bs) [false,false,false] args,bs with
 | [.c (.int .i64 a),.ptr 0 0 1,.ptr 1 0 1],[.vals [.c (.int .i64 b)],.vals [.sw 2 2],.ints .i64 c]=>some (Q76.f N a b c,fun r=>.two r.1 (.tup []) [.vals [.c (.int .i64 r.2.1)],.vals [.sw 3 2],.dead,.ints .i64 r.2.2] (.tup []) [.vals [.c (.int .i64 r.2.1)],.vals [.sw 2 2],.ints .i64 r.2.2])
 |_,_=>none}
theorem Q76.env (N:Nat):aB Try.prog (Q76.E N):=⟨(.cons lD (.cons fI (.cons bq (.cons pw .nil)))),.nil⟩
theorem Q76.res_eq (N:Nat):(Q76.E N).res=Try.f61.results.toList:=by kernel_rfl
theorem Q76.k1 (N:Nat):xB Try.prog Try.f61 (Q76.E N) (.loop Q76.b1):=tC (Q76.env N) dA 396 (c:=Q76.c1 N) cA.n fun R vs H k r h=>by unfold Q76.c1 at h;dsimp only at h;split at h;exact⟨_,Q76.l1_eq .. ▸h⟩;cases h
theorem Q76.spec (N:Nat)(a b:Int)(c:List Int)(r:Bool×Int×List Int)(h:Q76.f N a b c=some r):iA Try.prog 61 [.c (.int .i64 a),.ptr 0 0 1,.ptr 1 0 1] [.vals [.c (.int .i64 b)],.vals [.sw 2 2],.ints .i64 c] ((mh.two r.1 (.tup []) [.vals [.c (.int .i64 r.2.1)],.vals [.sw 3 2],.dead,.ints .i64 r.2.2] (.tup []) [.vals [.c (.int .i64 r.2.1)],.vals [.sw 2 2],.ints .i64 r.2.2]).pick.1) ((mh.two r.1 (.tup []) [.vals [.c (.int .i64 r.2.1)],.vals [.sw 3 2],.dead,.ints .i64 r.2.2] (.tup []) [.vals [.c (.int .i64 r.2.1)],.vals [.sw 2 2],.ints .i64 r.2.2]).pick.2):=by
 rw[←Q76.f_eq]at h;refine(du (Q76.env N) dA Try.func61 (by kernel_rfl:Try.f61.body=some (bo Try.f61)) (by kernel_rfl) (Q76.res_eq N) (by kernel_rfl) (by kernel_rfl) (Nat.le_of_ble_eq_true (by kernel_rfl)) (cA.of (l:=[(.loop (qA ((fA (bo Try.f61)).getD 0 .skip)))]) (by kernel_rfl) (cA.cons (Q76.k1 N) cA.nil)) h).of fun v bs' h1=>?_;unfold Q76.dec at h1;split at h1
 ·cases h1;exact⟨rfl,rfl⟩
 ·cases h1;exact⟨rfl,rfl⟩
 ·cases h1
theorem Q76.ent_ok (N:Nat):oA Try.prog 61 (Q76.ent N):=by
 intro args bs a enc h;simp only[Q76.ent]at h;split at h
 ·rename_i hz;have h0:=Option.some.inj h;have h1:=congrArg Prod.fst h0;have h2:=congrArg Prod.snd h0;dsimp only at h1 h2;subst h2;exact iA.of_asSl (fl:=[false,false,false]) (by rw[hz];exact Q76.spec N _ _ _ a h1)
 ·cases h
noncomputable def Q77.l8 {R:Type}(N:Nat):Nat→Int→Int→List Int→(Int→List Int→Option R)→Option R
 |0,_,_,_,_=>none
 |n+1,a,d,e,c=>
  bif decide ((aA (a*a))≤d)then
   (Q76.f N a d e).bind fun b=>
   bif b.1 then
    Q77.l8 N n (aA (a+(aA (1+(qD .i64 a 1))))) b.2.1 b.2.2 c
   else
   Q77.l8 N n (aA (a+(aA (1+(qD .i64 a 1))))) b.2.1 b.2.2 c
  else
  c d e
noncomputable def Q77.f (N:Nat)(b:Int):Option (List Int×Int):=
 bif decide (b<1)then
  some ([],2)
 else
 bif decide (b>1099511627776)then
  some ([],3)
 else
 Q77.l8 N N 2 b []
  (fun c d=>
   bif decide (c>1)then
    (Q76.f N c c d).bind fun a=>
    bif a.1 then
     some (a.2.2,0)
    else
    some (a.2.2,0)
   else
   some (d,0))
noncomputable def Q77.h8:bD:=⟨[(1,.box [.any]),(4,.box [.row .i64 2]),(5,.fnc [.box [.any],.box [.row .i64 2]]),(6,.any)],[(1,.box [.any]),(4,.box [.row .i64 2]),(5,.fnc [.box [.any],.box [.row .i64 2]])]⟩
noncomputable def Q77.c8 (N:Nat):iI:=⟨fun vs H k=>match vs,H with
 | [.ptr 0 0 1,.ptr 1 0 1,.fn 61 [] [.ptr 0 0 1,.ptr 1 0 1],.c (.int .i64 a)],[.vals [.c (.int .i64 b)],.vals [.sw 2 2],.ints .i64 c]=>Q77.l8 N N a b c (fun d e=>k (.exit 1) ⟨yC Q77.h8.out [.ptr 0 0 1,.ptr 1 0 1,.fn 61 [] [.ptr 0 0 1,.ptr 1 0 1]],[.vals [.c (.int .i64 d)],.vals [.sw 2 2],.ints .i64 e]⟩)
 |_,_=>none⟩
noncomputable def Q77.E (N:Nat):rC:=yE [(2,nS),(75,Bf)] [(61,Q76.ent N)] [(8,Q77.h8)] [(8,Q77.c8 N)] N [.tmp 2,.tmp 3] [.il .i64 2,.any] 0 33
noncomputable def Q77.b8:Code:=qA ((fA (bo Try.f49)).getD 0 .skip)
theorem Q77.l8_eq {R:Type}(N n:Nat)(a b:Int)(c:List Int)(k:Ex→St→Option R):
  iB 0 Q77.h8 (fun s k=>eB (Q77.E N) 392 Q77.b8 s k) n [.ptr 0 0 1,.ptr 1 0 1,.fn 61 [] [.ptr 0 0 1,.ptr 1 0 1],.c (.int .i64 a)] [.vals [.c (.int .i64 b)],.vals [.sw 2 2],.ints .i64 c] k=Q77.l8 N n a b c (fun d e=>k (.exit 1) ⟨yC Q77.h8.out [.ptr 0 0 1,.ptr 1 0 1,.fn 61 [] [.ptr 0 0 1,.ptr 1 0 1]],[.vals [.c (.int .i64 d)],.vals [.sw 2 2],.ints .i64 e]⟩):=by
 induction n generalizing a b c with
 |zero=>kernel_rfl
 |succ n ih=>
  simp only[Q77.l8,←ih]
  kernel_rfl
noncomputable def Q77.dec (v:V)(bs:List mA):Option (List Int×Int):=match v,bs with
 | .tup [.il .i64 2 a,.c (.int .i64 b)],[]=>some (a,b)
 |_,_=>none
theorem Q77.f_eq (N:Nat)(a:Int):
  bB (Q77.E N) (bo Try.f49) [.c (.int .i64 a)] [] Q77.dec=Q77.f N a:=by kernel_rfl
noncomputable def Q77.ent (N:Nat):wA:=eF (List Int×Int) 0 [true] [.any] fun
 | [.c (.int .i64 a)]=>some (Q77.f N a,fun r=>.one (.tup [.il .i64 2 r.1,.c (.int .i64 r.2)]) [])
 |_=>none
theorem Q77.env (N:Nat):aB Try.prog (Q77.E N):=⟨(.cons lD (.cons bq .nil)),(.cons (Q76.ent_ok N) .nil)⟩
theorem Q77.k8 (N:Nat):xB Try.prog Try.f49 (Q77.E N) (.loop Q77.b8):=tC (Q77.env N) dA 392 (c:=Q77.c8 N) cA.n fun R vs H k r h=>by unfold Q77.c8 at h;dsimp only at h;split at h;exact⟨_,Q77.l8_eq .. ▸h⟩;cases h
theorem Q77.spec (N:Nat)(a:Int)(r:List Int×Int)(h:Q77.f N a=some r):iA Try.prog 49 [.c (.int .i64 a)] [] (.tup [.il .i64 2 r.1,.c (.int .i64 r.2)]) ([]):=sA (Q77.env N) dA Try.func49 (cA.of (l:=[(.loop (qA ((fA (bo Try.f49)).getD 0 .skip)))]) (by kernel_rfl) (cA.cons (Q77.k8 N) cA.nil)) ((Q77.f_eq ..).trans h) fun v b e=>by unfold Q77.dec at e;split at e<;>cases e;exact⟨rfl,rfl⟩
theorem Q77.ent_ok (N:Nat):oA Try.prog 49 (Q77.ent N):=xA fun v a e h=>by split at h;exact eC (Q:=fun e=>iA _ _ _ _ (e a).pick.1 (e a).pick.2) h fun k=>Q77.spec N _ a k;cases h
noncomputable def bU:TI:=⟨.slice 2,1,24,[.slice none 0 0]⟩
noncomputable def D3:TI:=⟨.func,1,8,[.nilFunc]⟩
noncomputable def zq:TI:=⟨.arr 8 3,8,64,[.int .i64 0,.int .i64 0,.int .i64 0,.int .i64 0,.int .i64 0,.int .i64 0,.int .i64 0,.int .i64 0]⟩
noncomputable def D7:TI:=⟨.slice 83,1,24,[.slice none 0 0]⟩
noncomputable def D8:TI:=⟨.struct [(52,0),(37,1)],2,32,[.nilFunc,.slice none 0 0]⟩
noncomputable def E1:TI:=⟨.arr 3 2,3,24,[.int .i64 0,.int .i64 0,.int .i64 0]⟩
theorem eH:fC Try.prog 37 bU:=lC (by kernel_rfl) (by kernel_rfl) (by kernel_rfl) (by kernel_rfl) (by kernel_rfl) (by kernel_rfl) (by kernel_rfl) (Try.underlying37) (by kernel_rfl)
theorem pt:fC Try.prog 52 D3:=lC (by kernel_rfl) (by kernel_rfl) (by kernel_rfl) (by kernel_rfl) (by kernel_rfl) (by kernel_rfl) (by kernel_rfl) (⟨_,_,_,Try.underlying52⟩) (by kernel_rfl)
theorem qU:fC Try.prog 59 zq:=lC (by kernel_rfl) (by kernel_rfl) (by kernel_rfl) (by kernel_rfl) (by kernel_rfl) (by kernel_rfl) (by kernel_rfl) (Try.underlying59) (by kernel_rfl)
theorem pz:fC Try.prog 80 D7:=lC (by kernel_rfl) (by kernel_rfl) (by kernel_rfl) (by kernel_rfl) (by kernel_rfl) (by kernel_rfl) (by kernel_rfl) (Try.underlying80) (by kernel_rfl)
theorem qa:fC Try.prog 83 D8:=lC (by kernel_rfl) (by kernel_rfl) (by kernel_rfl) (by kernel_rfl) (by kernel_rfl) (by kernel_rfl) (by kernel_rfl) (dL Try.underlying83 (by kernel_rfl) (by kernel_rfl)) (by kernel_rfl)
theorem Bg:fC Try.prog 99 E1:=lC (by kernel_rfl) (by kernel_rfl) (by kernel_rfl) (by kernel_rfl) (by kernel_rfl) (by kernel_rfl) (by kernel_rfl) (Try.underlying99) (by kernel_rfl)
noncomputable def Q78.f (N:Nat)(a:Int):Option (Int):=
 bif (qD .u64 a 7)==1 then
  some 1
 else
 bif (qD .u64 a 7)==7 then
  some 1
 else
 bif (qD .u64 a 7)==3 then
  some (-1)
 else
 bif (qD .u64 a 7)==5 then
  some (-1)
 else
 some 0
noncomputable def Q78.E (N:Nat):rC:=yE [] [] [] [] N [.tmp 2] [.any] 0 13
noncomputable def Q78.dec (v:V)(bs:List mA):Option (Int):=match v,bs with
 | .c (.int .i64 a),[]=>some a
 |_,_=>none
theorem Q78.f_eq (N:Nat)(a:Int):
  bB (Q78.E N) (bo Try.f79) [.c (.int .u64 a)] [] Q78.dec=Q78.f N a:=by kernel_rfl
noncomputable def Q78.ent (N:Nat):wA:=eF (Int) 0 [true] [.any] fun
 | [.c (.int .u64 a)]=>some (Q78.f N a,fun r=>.one (.c (.int .i64 r)) [])
 |_=>none
theorem Q78.env (N:Nat):aB Try.prog (Q78.E N):=⟨.nil,.nil⟩
theorem Q78.spec (N:Nat)(a r:Int)(h:Q78.f N a=some r):iA Try.prog 79 [.c (.int .u64 a)] [] (.c (.int .i64 r)) ([]):=sA (Q78.env N) dA Try.func79 cA.n ((Q78.f_eq ..).trans h) fun v b e=>by unfold Q78.dec at e;split at e<;>cases e;exact⟨rfl,rfl⟩
theorem Q78.ent_ok (N:Nat):oA Try.prog 79 (Q78.ent N):=xA fun v a e h=>by split at h;exact eC (Q:=fun e=>iA _ _ _ _ (e a).pick.1 (e a).pick.2) h fun k=>Q78.spec N _ a k;cases h
noncomputable def Q79.l10 {R:Type}(N:Nat):Nat→Int→Int→Int→(Int→Int→Int→Option R)→Option R
 |0,_,_,_,_=>none
 |n+1,a,d,b,c=>
  bif (qD .u64 b 1)==0 then
   (Q78.f N (pA a)).bind fun e=>
   Q79.l10 N n a (aA (d*e)) (Int.fdiv b (2^1)) c
  else
  c a d b
noncomputable def Q79.l19 {R:Type}(N:Nat):Nat→Int→Int→Int→(Int→Int→Int→Option R)→Option R
 |0,_,_,_,_=>none
 |n+1,c,a,b,e=>
  bif (qD .u64 b 1)==0 then
   (Q78.f N a).bind fun d=>
   Q79.l19 N n (aA (c*d)) a (Int.fdiv b (2^1)) e
  else
  e c a b
noncomputable def Q79.l18 {R:Type}(N:Nat):Nat→Int→Int→Int→(Int→Int→Option R)→Option R
 |0,_,_,_,_=>none
 |n+1,d,e,f,g=>
  bif f != 0 then
   Q79.l19 N N d e f
    (fun c b a=>
     bif (qD .u64 a 3)==3 then
      bif (qD .u64 b 3)==3 then
       bif !(a==0)then
        Q79.l18 N n (aA (0-c)) a (Int.tmod b a) g
       else none
      else
      bif !(a==0)then
       Q79.l18 N n c a (Int.tmod b a) g
      else none
     else
     bif !(a==0)then
      Q79.l18 N n c a (Int.tmod b a) g
     else none)
  else
  g d e
noncomputable def Q79.f (N:Nat)(j k:Int):Option (Int):=
 bif k==0 then
  bif j==1 then
   some 1
  else
  bif j==(-1)then
   some 1
  else
  some 0
 else
 bif decide (k<0)then
  bif decide (j<0)then
   Q79.l10 N N j (-1) (pA (0- (pA k)))
    (fun d e a=>
     bif e==0 then
      some 0
     else
     bif !(a==0)then
      bif decide (d<0)then
       bif !(a==0)then
        bif !(a==0)then
         Q79.l18 N N e a (Int.tmod (pA (a- (Int.tmod (pA (0- (pA d))) a))) a)
          (fun l m=>
           bif m != 1 then
            some 0
           else
           some l)
        else none
       else none
      else
      Q79.l18 N N e a (Int.tmod (pA d) a)
       (fun o p=>
        bif p != 1 then
         some 0
        else
        some o)
     else none)
  else
  Q79.l10 N N j 1 (pA (0- (pA k)))
   (fun f g b=>
    bif g==0 then
     some 0
    else
    bif !(b==0)then
     bif decide (f<0)then
      bif !(b==0)then
       bif !(b==0)then
        Q79.l18 N N g b (Int.tmod (pA (b- (Int.tmod (pA (0- (pA f))) b))) b)
         (fun q r=>
          bif r != 1 then
           some 0
          else
          some q)
       else none
      else none
     else
     Q79.l18 N N g b (Int.tmod (pA f) b)
      (fun s t=>
       bif t != 1 then
        some 0
       else
       some s)
    else none)
 else
 Q79.l10 N N j 1 (pA k)
  (fun h i c=>
   bif i==0 then
    some 0
   else
   bif !(c==0)then
    bif decide (h<0)then
     bif !(c==0)then
      bif !(c==0)then
       Q79.l18 N N i c (Int.tmod (pA (c- (Int.tmod (pA (0- (pA h))) c))) c)
        (fun u v=>
         bif v != 1 then
          some 0
         else
         some u)
      else none
     else none
    else
    Q79.l18 N N i c (Int.tmod (pA h) c)
     (fun w x=>
      bif x != 1 then
       some 0
      else
      some w)
   else none)
noncomputable def Q79.h10:bD:=⟨[(0,.any),(5,.any),(6,.any)],[(0,.any),(5,.any),(6,.any)]⟩
noncomputable def Q79.h18:bD:=⟨[(5,.any),(6,.any),(7,.any)],[(5,.any),(6,.any)]⟩
noncomputable def Q79.h19:bD:=⟨[(5,.any),(6,.any),(7,.any)],[(5,.any),(6,.any),(7,.any)]⟩
noncomputable def Q79.c10 (N:Nat):iI:=⟨fun vs H k=>match vs,H with
 | [.c (.int .i64 a),.c (.int .i64 b),.c (.int .u64 c)],[]=>Q79.l10 N N a b c (fun d e f=>k (.exit 0) ⟨yC Q79.h10.out [.c (.int .i64 d),.c (.int .i64 e),.c (.int .u64 f)],[]⟩)
 |_,_=>none⟩
noncomputable def Q79.c19 (N:Nat):iI:=⟨fun vs H k=>match vs,H with
 | [.c (.int .i64 a),.c (.int .u64 b),.c (.int .u64 c)],[]=>Q79.l19 N N a b c (fun d e f=>k (.exit 4) ⟨yC Q79.h19.out [.c (.int .i64 d),.c (.int .u64 e),.c (.int .u64 f)],[]⟩)
 |_,_=>none⟩
noncomputable def Q79.c18 (N:Nat):iI:=⟨fun vs H k=>match vs,H with
 | [.c (.int .i64 a),.c (.int .u64 b),.c (.int .u64 c)],[]=>Q79.l18 N N a b c (fun d e=>k (.exit 2) ⟨yC Q79.h18.out [.c (.int .i64 d),.c (.int .u64 e)],[]⟩)
 |_,_=>none⟩
noncomputable def Q79.E (N:Nat):rC:=yE [(2,nS),(115,cK)] [(79,Q78.ent N)] [(10,Q79.h10),(18,Q79.h18),(19,Q79.h19)] [(10,Q79.c10 N),(19,Q79.c19 N),(18,Q79.c18 N)] N [.tmp 4] [.any] 0 81
noncomputable def Q79.b10:Code:=qA ((fA (bo Try.f64)).getD 0 .skip)
theorem Q79.l10_eq {R:Type}(N n:Nat)(a b c:Int)(k:Ex→St→Option R):
  iB 0 Q79.h10 (fun s k=>eB (Q79.E N) 393 Q79.b10 s k) n [.c (.int .i64 a),.c (.int .i64 b),.c (.int .u64 c)] [] k=Q79.l10 N n a b c (fun d e f=>k (.exit 0) ⟨yC Q79.h10.out [.c (.int .i64 d),.c (.int .i64 e),.c (.int .u64 f)],[]⟩):=by
 induction n generalizing a b c with
 |zero=>kernel_rfl
 |succ n ih=>
  simp only[Q79.l10,←ih]
  kernel_rfl
noncomputable def Q79.b19:Code:=qA ((fA (bo Try.f64)).getD 2 .skip)
theorem Q79.l19_eq {R:Type}(N n:Nat)(a b c:Int)(k:Ex→St→Option R):
  iB 0 Q79.h19 (fun s k=>eB (Q79.E N) 384 Q79.b19 s k) n [.c (.int .i64 a),.c (.int .u64 b),.c (.int .u64 c)] [] k=Q79.l19 N n a b c (fun d e f=>k (.exit 4) ⟨yC Q79.h19.out [.c (.int .i64 d),.c (.int .u64 e),.c (.int .u64 f)],[]⟩):=by
 induction n generalizing a b c with
 |zero=>kernel_rfl
 |succ n ih=>
  simp only[Q79.l19,←ih]
  kernel_rfl
noncomputable def Q79.b18:Code:=qA ((fA (bo Try.f64)).getD 1 .skip)
theorem Q79.l18_eq {R:Type}(N n:Nat)(a b c:Int)(k:Ex→St→Option R):
  iB 0 Q79.h18 (fun s k=>eB (Q79.E N) 389 Q79.b18 s k) n [.c (.int .i64 a),.c (.int .u64 b),.c (.int .u64 c)] [] k=Q79.l18 N n a b c (fun d e=>k (.exit 2) ⟨yC Q79.h18.out [.c (.int .i64 d),.c (.int .u64 e)],[]⟩):=by
 induction n generalizing a b c with
 |zero=>kernel_rfl
 |succ n ih=>
  simp only[Q79.l18,←ih]
  kernel_rfl
noncomputable def Q79.dec (v:V)(bs:List mA):Option (Int):=match v,bs with
 | .c (.int .i64 a),[]=>some a
 |_,_=>none
theorem Q79.f_eq (N:Nat)(a b:Int):
  bB (Q79.E N) (bo Try.f64) [.c (.int .i64 a),.c (.int .i64 b)] [] Q79.dec=Q79.f N a b:=by kernel_rfl
noncomputable def Q79.ent (N:Nat):wA:=eF (Int) 0 [true,true] [.any,.any] fun
 | [.c (.int .i64 a),.c (.int .i64 b)]=>some (Q79.f N a b,fun r=>.one (.c (.int .i64 r)) [])
 |_=>none
theorem Q79.env (N:Nat):aB Try.prog (Q79.E N):=⟨(.cons lD (.cons tE .nil)),(.cons (Q78.ent_ok N) .nil)⟩
theorem Q79.k19 (N:Nat):xB Try.prog Try.f64 (Q79.E N) (.loop Q79.b19):=tC (Q79.env N) dA 384 (c:=Q79.c19 N) cA.n fun R vs H k r h=>by unfold Q79.c19 at h;dsimp only at h;split at h;exact⟨_,Q79.l19_eq .. ▸h⟩;cases h
theorem Q79.k18 (N:Nat):xB Try.prog Try.f64 (Q79.E N) (.loop Q79.b18):=tC (Q79.env N) dA 389 (c:=Q79.c18 N) (cA.of (l:=[(.loop (qA ((fA (bo Try.f64)).getD 2 .skip)))]) (by kernel_rfl) (cA.cons (Q79.k19 N) cA.nil)) fun R vs H k r h=>by unfold Q79.c18 at h;dsimp only at h;split at h;exact⟨_,Q79.l18_eq .. ▸h⟩;cases h
theorem Q79.k10 (N:Nat):xB Try.prog Try.f64 (Q79.E N) (.loop Q79.b10):=tC (Q79.env N) dA 393 (c:=Q79.c10 N) cA.n fun R vs H k r h=>by unfold Q79.c10 at h;dsimp only at h;split at h;exact⟨_,Q79.l10_eq .. ▸h⟩;cases h
theorem Q79.spec (N:Nat)(a c r:Int)(h:Q79.f N a c=some r):iA Try.prog 64 [.c (.int .i64 a),.c (.int .i64 c)] [] (.c (.int .i64 r)) ([]):=sA (Q79.env N) dA Try.func64 (cA.of (l:=[(.loop (qA ((fA (bo Try.f64)).getD 0 .skip))),(.loop (qA ((fA (bo Try.f64)).getD 1 .skip))),(.loop (qA ((fA (bo Try.f64)).getD 2 .skip)))]) (by kernel_rfl) (cA.cons (Q79.k10 N) (cA.cons (Q79.k18 N) (cA.cons (Q79.k19 N) cA.nil)))) ((Q79.f_eq ..).trans h) fun v b e=>by unfold Q79.dec at e;split at e<;>cases e;exact⟨rfl,rfl⟩
theorem Q79.ent_ok (N:Nat):oA Try.prog 64 (Q79.ent N):=xA fun v a e h=>by split at h;exact eC (Q:=fun e=>iA _ _ _ _ (e a).pick.1 (e a).pick.2) h fun k=>Q79.spec N _ _ a k;cases h
noncomputable def Q80.f (N:Nat)(a:Int)(b:List Int):Option (List Int×Int):=
 some (b,a)
noncomputable def Q80.E (N:Nat):rC:=yE [(2,nS),(37,bU)] [] [] [] N [.tmp 4] [.fnc [.box [.il .i64 1],.box [.any]]] 0 6 true
noncomputable def Q80.dec (v:V)(bs:List mA):Option (List Int×Int):=match v,bs with
 | .fn 63 [] [.ptr 0 0 1,.ptr 1 0 1],[.vals [.il .i64 1 a],.vals [.c (.int .i64 b)]]=>some (a,b)
 |_,_=>none
theorem Q80.f_eq (N:Nat)(a:Int)(b:List Int):
  bB (Q80.E N) (bo Try.f62) [.c (.int .i64 a),.il .i64 1 b] [] Q80.dec=Q80.f N a b:=by kernel_rfl
noncomputable def Q80.ent (N:Nat):wA:=eF (List Int×Int) 2 [true,true] [.any,.il .i64 1] fun
 | [.c (.int .i64 a),.il .i64 1 b]=>some (Q80.f N a b,fun r=>.one (.fn 63 [] [.ptr 0 0 1,.ptr 1 0 1]) [.vals [.il .i64 1 r.1],.vals [.c (.int .i64 r.2)]])
 |_=>none
theorem Q80.env (N:Nat):aB Try.prog (Q80.E N):=⟨(.cons lD (.cons eH .nil)),.nil⟩
theorem Q80.spec (N:Nat)(a:Int)(c:List Int)(r:List Int×Int)(h:Q80.f N a c=some r):iA Try.prog 62 [.c (.int .i64 a),.il .i64 1 c] [] (.fn 63 [] [.ptr 0 0 1,.ptr 1 0 1]) ([.vals [.il .i64 1 r.1],.vals [.c (.int .i64 r.2)]]):=sA (Q80.env N) dA Try.func62 cA.n ((Q80.f_eq ..).trans h) fun v b e=>by unfold Q80.dec at e;split at e<;>cases e;exact⟨rfl,rfl⟩
theorem Q80.ent_ok (N:Nat):oA Try.prog 62 (Q80.ent N):=xA fun v a e h=>by split at h;exact eC (Q:=fun e=>iA _ _ _ _ (e a).pick.1 (e a).pick.2) h fun k=>Q80.spec N _ _ a k;cases h
noncomputable def Q81.l2 {R:Type}(N:Nat):Nat→Int→List Int→Int→Int→List Int→Int→(List Int→Int→Option R)→(Bool→List Int→Int→Option R)→Option R
 |0,_,_,_,_,_,_,_,_=>none
 |n+1,f,c,g,a,d,b,e,kr=>
  bif decide (a<g)then
   bif (decide (0≤a))&&(decide (a<(c.length:Int)))then
    bif !(b==0)then
     bif (Int.tmod f b)==(c.getD a.toNat 0)then
      kr true d b
     else
     Q81.l2 N n f c g (aA (a+1)) d b e kr
    else none
   else none
  else
  e d b
noncomputable def Q81.f (N:Nat)(g:Int)(a:List Int)(h:Int):Option (Bool×List Int×Int):=
 Q81.l2 N N g a (a.length:Int) 0 a h
  (fun b c=>
   some (false,b,c))
  (fun d e f=>
   some (d,e,f))
noncomputable def Q81.h2:bD:=⟨[(0,.any),(2,.any),(7,.il .i64 1),(8,.any),(9,.any)],[]⟩
noncomputable def Q81.c2 (N:Nat):iI:=⟨fun vs H k=>match vs,H with
 | [.c (.int .i64 f),.ptr 1 0 1,.il .i64 1 g,.c (.int .i64 h),.c (.int .i64 i)],[.vals [.il .i64 1 j],.vals [.c (.int .i64 l)]]=>Q81.l2 N N f g h i j l (fun d e=>k (.exit 0) ⟨yC Q81.h2.out [],[.vals [.il .i64 1 d],.vals [.c (.int .i64 e)]]⟩) (fun a b c=>k (.ret (.c (.bool a)) [.vals [.il .i64 1 b],.vals [.c (.int .i64 c)]]) .nil)
 |_,_=>none⟩
noncomputable def Q81.E (N:Nat):rC:=yE [(2,nS),(37,bU)] [] [(2,Q81.h2)] [(2,Q81.c2 N)] N [.tmp 4] [.any] 2 19
noncomputable def Q81.b2:Code:=qA ((fA (bo Try.f63)).getD 0 .skip)
theorem Q81.l2_eq {R:Type}(N n:Nat)(f:Int)(g:List Int)(h i:Int)(j:List Int)(l:Int)(k:Ex→St→Option R):
  iB 2 Q81.h2 (fun s k=>eB (Q81.E N) 395 Q81.b2 s k) n [.c (.int .i64 f),.ptr 1 0 1,.il .i64 1 g,.c (.int .i64 h),.c (.int .i64 i)] [.vals [.il .i64 1 j],.vals [.c (.int .i64 l)]] k=Q81.l2 N n f g h i j l (fun d e=>k (.exit 0) ⟨yC Q81.h2.out [],[.vals [.il .i64 1 d],.vals [.c (.int .i64 e)]]⟩) (fun a b c=>k (.ret (.c (.bool a)) [.vals [.il .i64 1 b],.vals [.c (.int .i64 c)]]) .nil):=by
 induction n generalizing f g h i j l with
 |zero=>kernel_rfl
 |succ n ih=>
  simp only[Q81.l2,←ih]
  kernel_rfl
noncomputable def Q81.dec (v:V)(bs:List mA):Option (Bool×List Int×Int):=match v,bs with
 | .c (.bool a),[.vals [.il .i64 1 b],.vals [.c (.int .i64 c)]]=>some (a,b,c)
 |_,_=>none
theorem Q81.f_eq (N:Nat)(a:Int)(b:List Int)(c:Int):
  bB (Q81.E N) (bo Try.f63) [.c (.int .i64 a),.ptr 0 0 1,.ptr 1 0 1] [.vals [.il .i64 1 b],.vals [.c (.int .i64 c)]] Q81.dec=Q81.f N a b c:=by kernel_rfl
noncomputable def Q81.ent (N:Nat):wA:={A:=Bool×List Int×Int,fresh:=0,imm:=[true,false,false],dec:=fun args bs=>match mJ (nA bs) [false,false,false] args,bs with
 | [.c (.int .i64 a),.ptr 0 0 1,.ptr 1 0 1],[.vals [.il .i64 1 b],.vals [.c (.int .i64 c)]]=>some (Q81.f N a b c,fun r=>.one (.c (.bool r.1)) [.vals [.il .i64 1 r.2.1],.vals [.c (.int .i64 r.2.2)]])
 |_,_=>none}
theorem Q81.env (N:Nat):aB Try.prog (Q81.E N):=⟨(.cons lD (.cons eH .nil)),.nil⟩
theorem Q81.k2 (N:Nat):xB Try.prog Try.f63 (Q81.E N) (.loop Q81.b2):=tC (Q81.env N) dA 395 (c:=Q81.c2 N) cA.n fun R vs H k r h=>by unfold Q81.c2 at h;dsimp only at h;split at h;exact⟨_,Q81.l2_eq .. ▸h⟩;cases h
theorem Q81.spec (N:Nat)(a:Int)(c:List Int)(d:Int)(r:Bool×List Int×Int)(h:Q81.f N a c d=some r):iA Try.prog 63 [.c (.int .i64 a),.ptr 0 0 1,.ptr 1 0 1] [.vals [.il .i64 1 c],.vals [.c (.int .i64 d)]] (.c (.bool r.1)) ([.vals [.il .i64 1 r.2.1],.vals [.c (.int .i64 r.2.2)]]):=sA (Q81.env N) dA Try.func63 (cA.of (l:=[(.loop (qA ((fA (bo Try.f63)).getD 0 .skip)))]) (by kernel_rfl) (cA.cons (Q81.k2 N) cA.nil)) ((Q81.f_eq ..).trans h) fun v b e=>by unfold Q81.dec at e;split at e<;>cases e;exact⟨rfl,rfl⟩
theorem Q81.ent_ok (N:Nat):oA Try.prog 63 (Q81.ent N):=by
 intro args bs a enc h;simp only[Q81.ent]at h;split at h
 ·rename_i hz;have h0:=Option.some.inj h;have h1:=congrArg Prod.fst h0;have h2:=congrArg Prod.snd h0;dsimp only at h1 h2;subst h2;exact iA.of_asSl (fl:=[false,false,false]) (by rw[hz];exact Q81.spec N _ _ _ a h1)
 ·cases h
noncomputable def Q82.f (N:Nat):Option (List Int×Int×List Int×Int×List Int×List Int×Int×List Int×List Int×Int×List Int×List Int×Int×List Int):=
 (Q80.f N 4 [3]).bind fun a=>
 (Q80.f N 8 [1,5,4]).bind fun b=>
 (Q80.f N 8 [2]).bind fun c=>
 (Q80.f N 8 [6]).bind fun d=>
 (Q80.f N 8 [0]).bind fun e=>
 some (a.1,a.2,b.1,b.2,[(-4)],c.1,c.2,[(-8)],d.1,d.2,[8],e.1,e.2,[(-4),8])
noncomputable def Q82.E (N:Nat):rC:=yE [(2,nS),(37,bU),(52,D3),(80,D7),(83,D8)] [(62,Q80.ent N)] [] [] N [.tmp 0] [.vrow [.fnc [.box [.il .i64 1],.box [.any]],.any,.fnc [.box [.il .i64 1],.box [.any]],.row .i64 1,.fnc [.box [.il .i64 1],.box [.any]],.row .i64 1,.fnc [.box [.il .i64 1],.box [.any]],.row .i64 1,.fnc [.box [.il .i64 1],.box [.any]],.row .i64 1]] 0 27 true
noncomputable def Q82.dec (v:V)(bs:List mA):Option (List Int×Int×List Int×Int×List Int×List Int×Int×List Int×List Int×Int×List Int×List Int×Int×List Int):=match v,bs with
 | .sw 0 2,[.vals [.fn 63 [] [.ptr 1 0 1,.ptr 2 0 1],.c (.slice none 0 0),.fn 63 [] [.ptr 3 0 1,.ptr 4 0 1],.sw 5 1,.fn 63 [] [.ptr 6 0 1,.ptr 7 0 1],.sw 8 1,.fn 63 [] [.ptr 9 0 1,.ptr 10 0 1],.sw 11 1,.fn 63 [] [.ptr 12 0 1,.ptr 13 0 1],.sw 14 1],.vals [.il .i64 1 e],.vals [.c (.int .i64 f)],.vals [.il .i64 1 g],.vals [.c (.int .i64 h)],.ints .i64 i,.vals [.il .i64 1 j],.vals [.c (.int .i64 k)],.ints .i64 l,.vals [.il .i64 1 m],.vals [.c (.int .i64 o)],.ints .i64 a,.vals [.il .i64 1 b],.vals [.c (.int .i64 c)],.ints .i64 d]=>some (e,f,g,h,i,j,k,l,m,o,a,b,c,d)
 |_,_=>none
theorem Q82.f_eq (N:Nat):
  bB (Q82.E N) (bo Try.f50) [] [] Q82.dec=Q82.f N:=by kernel_rfl
noncomputable def Q82.ent (N:Nat):wA:=eF (List Int×Int×List Int×Int×List Int×List Int×Int×List Int×List Int×Int×List Int×List Int×Int×List Int) 15 [] [] fun
 | []=>some (Q82.f N,fun r=>.one (.sw 0 2) [.vals [.fn 63 [] [.ptr 1 0 1,.ptr 2 0 1],.c (.slice none 0 0),.fn 63 [] [.ptr 3 0 1,.ptr 4 0 1],.sw 5 1,.fn 63 [] [.ptr 6 0 1,.ptr 7 0 1],.sw 8 1,.fn 63 [] [.ptr 9 0 1,.ptr 10 0 1],.sw 11 1,.fn 63 [] [.ptr 12 0 1,.ptr 13 0 1],.sw 14 1],.vals [.il .i64 1 r.1],.vals [.c (.int .i64 r.2.1)],.vals [.il .i64 1 r.2.2.1],.vals [.c (.int .i64 r.2.2.2.1)],.ints .i64 r.2.2.2.2.1,.vals [.il .i64 1 r.2.2.2.2.2.1],.vals [.c (.int .i64 r.2.2.2.2.2.2.1)],.ints .i64 r.2.2.2.2.2.2.2.1,.vals [.il .i64 1 r.2.2.2.2.2.2.2.2.1],.vals [.c (.int .i64 r.2.2.2.2.2.2.2.2.2.1)],.ints .i64 r.2.2.2.2.2.2.2.2.2.2.1,.vals [.il .i64 1 r.2.2.2.2.2.2.2.2.2.2.2.1],.vals [.c (.int .i64 r.2.2.2.2.2.2.2.2.2.2.2.2.1)],.ints .i64 r.2.2.2.2.2.2.2.2.2.2.2.2.2])
 |_=>none
theorem Q82.env (N:Nat):aB Try.prog (Q82.E N):=⟨(.cons lD (.cons eH (.cons pt (.cons pz (.cons qa .nil))))),(.cons (Q80.ent_ok N) .nil)⟩
theorem Q82.spec (N:Nat)(r:List Int×Int×List Int×Int×List Int×List Int×Int×List Int×List Int×Int×List Int×List Int×Int×List Int)(h:Q82.f N=some r):iA Try.prog 50 [] [] (.sw 0 2) ([.vals [.fn 63 [] [.ptr 1 0 1,.ptr 2 0 1],.c (.slice none 0 0),.fn 63 [] [.ptr 3 0 1,.ptr 4 0 1],.sw 5 1,.fn 63 [] [.ptr 6 0 1,.ptr 7 0 1],.sw 8 1,.fn 63 [] [.ptr 9 0 1,.ptr 10 0 1],.sw 11 1,.fn 63 [] [.ptr 12 0 1,.ptr 13 0 1],.sw 14 1],.vals [.il .i64 1 r.1],.vals [.c (.int .i64 r.2.1)],.vals [.il .i64 1 r.2.2.1],.vals [.c (.int .i64 r.2.2.2.1)],.ints .i64 r.2.2.2.2.1,.vals [.il .i64 1 r.2.2.2.2.2.1],.vals [.c (.int .i64 r.2.2.2.2.2.2.1)],.ints .i64 r.2.2.2.2.2.2.2.1,.vals [.il .i64 1 r.2.2.2.2.2.2.2.2.1],.vals [.c (.int .i64 r.2.2.2.2.2.2.2.2.2.1)],.ints .i64 r.2.2.2.2.2.2.2.2.2.2.1,.vals [.il .i64 1 r.2.2.2.2.2.2.2.2.2.2.2.1],.vals [.c (.int .i64 r.2.2.2.2.2.2.2.2.2.2.2.2.1)],.ints .i64 r.2.2.2.2.2.2.2.2.2.2.2.2.2]):=sA (Q82.env N) dA Try.func50 cA.n ((Q82.f_eq ..).trans h) fun v b e=>by unfold Q82.dec at e;split at e<;>cases e;exact⟨rfl,rfl⟩
theorem Q82.ent_ok (N:Nat):oA Try.prog 50 (Q82.ent N):=xA fun v a e h=>by split at h;exact eC (Q:=fun e=>iA _ _ _ _ (e a).pick.1 (e a).pick.2) h fun k=>Q82.spec N a k;cases h
noncomputable def Q83.l4 {R:Type}(N:Nat):Nat→Int→List Int→Int→Int→List Int→(Int→List Int→Option R)→Option R
 |0,_,_,_,_,_,_=>none
 |n+1,e,b,f,a,c,d=>
  bif decide (a<f)then
   bif (decide (0≤a))&&(decide (a<(b.length/2:Int)))then
    bif decide ((b.getD (a.toNat*2) 0)>2)then
     bif zA (c.length+1) 8 then
      Q83.l4 N n e b f (aA (a+1)) (c++[b.getD (a.toNat*2) 0]) d
     else none
    else
    Q83.l4 N n e b f (aA (a+1)) c d
   else none
  else
  d e c
noncomputable def Q83.f (N:Nat)(i:Int):Option (List Int):=
 (Q77.f N (aA (0-i))).bind fun j=>
 Q83.l4 N N i j.1 (j.1.length/2:Int) 0 []
  (fun c b=>
   bif (Int.tmod c 2) != 0 then
    some b
   else
   (Q82.f N).bind fun a=>
   (Q81.f N (aA (Int.tdiv (aA (0-c)) 4)) a.1 a.2.1).bind fun d=>
   bif d.1 then
    bif zA (b.length+0) 8 then
     some (b++[])
    else none
   else
   (Q81.f N (aA (Int.tdiv (aA (0-c)) 4)) a.2.2.1 a.2.2.2.1).bind fun e=>
   bif e.1 then
    bif zA (b.length+a.2.2.2.2.1.length) 8 then
     some (b++a.2.2.2.2.1)
    else none
   else
   (Q81.f N (aA (Int.tdiv (aA (0-c)) 4)) a.2.2.2.2.2.1 a.2.2.2.2.2.2.1).bind fun f=>
   bif f.1 then
    bif zA (b.length+a.2.2.2.2.2.2.2.1.length) 8 then
     some (b++a.2.2.2.2.2.2.2.1)
    else none
   else
   (Q81.f N (aA (Int.tdiv (aA (0-c)) 4)) a.2.2.2.2.2.2.2.2.1 a.2.2.2.2.2.2.2.2.2.1).bind fun g=>
   bif g.1 then
    bif zA (b.length+a.2.2.2.2.2.2.2.2.2.2.1.length) 8 then
     some (b++a.2.2.2.2.2.2.2.2.2.2.1)
    else none
   else
   (Q81.f N (aA (Int.tdiv (aA (0-c)) 4)) a.2.2.2.2.2.2.2.2.2.2.2.1 a.2.2.2.2.2.2.2.2.2.2.2.2.1).bind fun h=>
   bif h.1 then
    bif zA (b.length+a.2.2.2.2.2.2.2.2.2.2.2.2.2.length) 8 then
     some (b++a.2.2.2.2.2.2.2.2.2.2.2.2.2)
    else none
   else
   some b)
noncomputable def Q83.h4:bD:=⟨[(0,.any),(3,.row .i64 1),(16,.il .i64 2),(17,.any),(18,.any)],[(0,.any),(3,.row .i64 1)]⟩
noncomputable def Q83.h12:bD:=⟨[(0,.any),(3,.row .i64 1),(35,.vrow [.fnc [.box [.il .i64 1],.box [.any]],.any,.fnc [.box [.il .i64 1],.box [.any]],.row .i64 1,.fnc [.box [.il .i64 1],.box [.any]],.row .i64 1,.fnc [.box [.il .i64 1],.box [.any]],.row .i64 1,.fnc [.box [.il .i64 1],.box [.any]],.row .i64 1]),(36,.any),(37,.any)],[(3,.any)]⟩
noncomputable def Q83.c4 (N:Nat):iI:=⟨fun vs H k=>match vs,H with
 | [.c (.int .i64 a),.sw 0 1,.il .i64 2 b,.c (.int .i64 c),.c (.int .i64 d)],[.ints .i64 e]=>Q83.l4 N N a b c d e (fun f g=>k (.exit 0) ⟨yC Q83.h4.out [.c (.int .i64 f),.sw 0 1],[.ints .i64 g]⟩)
 |_,_=>none⟩
noncomputable def Q83.E (N:Nat):rC:=yE [(2,nS),(37,bU),(52,D3),(75,Bf),(79,D6),(80,D7),(83,D8)] [(49,Q77.ent N),(50,Q82.ent N),(63,Q81.ent N)] [(4,Q83.h4),(12,Q83.h12)] [(4,Q83.c4 N)] 40 [.tmp 2] [.il .i64 1] 0 53
noncomputable def Q83.b4:Code:=qA ((fA (bo Try.f31)).getD 0 .skip)
theorem Q83.l4_eq {R:Type}(N n:Nat)(a:Int)(b:List Int)(c d:Int)(e:List Int)(k:Ex→St→Option R):
  iB 0 Q83.h4 (fun s k=>eB (Q83.E N) 393 Q83.b4 s k) n [.c (.int .i64 a),.sw 0 1,.il .i64 2 b,.c (.int .i64 c),.c (.int .i64 d)] [.ints .i64 e] k=Q83.l4 N n a b c d e (fun f g=>k (.exit 0) ⟨yC Q83.h4.out [.c (.int .i64 f),.sw 0 1],[.ints .i64 g]⟩):=by
 induction n generalizing a b c d e with
 |zero=>kernel_rfl
 |succ n ih=>
  simp only[Q83.l4,←ih]
  kernel_rfl
noncomputable def Q83.dec (v:V)(bs:List mA):Option (List Int):=match v,bs with
 | .il .i64 1 a,[]=>some a
 |_,_=>none
theorem Q83.f_eq (N:Nat)(a:Int):
  bB (Q83.E N) (bo Try.f31) [.c (.int .i64 a)] [] Q83.dec=Q83.f N a:=by kernel_rfl
noncomputable def Q83.ent (N:Nat):wA:=eF (List Int) 0 [true] [.any] fun
 | [.c (.int .i64 a)]=>some (Q83.f N a,fun r=>.one (.il .i64 1 r) [])
 |_=>none
theorem Q83.env (N:Nat):aB Try.prog (Q83.E N):=⟨(.cons lD (.cons eH (.cons pt (.cons bq (.cons pw (.cons pz (.cons qa .nil))))))),(.cons (Q77.ent_ok N) (.cons (Q82.ent_ok N) (.cons (Q81.ent_ok N) .nil)))⟩
theorem Q83.k4 (N:Nat):xB Try.prog Try.f31 (Q83.E N) (.loop Q83.b4):=tC (Q83.env N) dA 393 (c:=Q83.c4 N) cA.n fun R vs H k r h=>by unfold Q83.c4 at h;dsimp only at h;split at h;exact⟨_,Q83.l4_eq .. ▸h⟩;cases h
theorem Q83.spec (N:Nat)(a:Int)(r:List Int)(h:Q83.f N a=some r):iA Try.prog 31 [.c (.int .i64 a)] [] (.il .i64 1 r) ([]):=sA (Q83.env N) dA Try.func31 (cA.of (l:=[(.loop (qA ((fA (bo Try.f31)).getD 0 .skip))),(.loop (qA ((fA (bo Try.f31)).getD 1 .skip)))]) (by kernel_rfl) (cA.cons (Q83.k4 N) (cA.cons (vq (by kernel_rfl)) cA.nil))) ((Q83.f_eq ..).trans h) fun v b e=>by unfold Q83.dec at e;split at e<;>cases e;exact⟨rfl,rfl⟩
theorem Q83.ent_ok (N:Nat):oA Try.prog 31 (Q83.ent N):=xA fun v a e h=>by split at h;exact eC (Q:=fun e=>iA _ _ _ _ (e a).pick.1 (e a).pick.2) h fun k=>Q83.spec N _ a k;cases h
noncomputable def Q84.l2 {R:Type}(N:Nat):Nat→Int→Int→Int→Int→Int→(Unit→Option R)→(Int→Option R)→Option R
 |0,_,_,_,_,_,_,_=>none
 |n+1,a,c,d,e,b,m,kr=>
  bif decide (b<3)then
   bif (decide (0≤b))&&(decide (b<3))then
    (Q35.f N ([c,d,e].getD b.toNat 0) a).bind fun f=>
    bif f.1 != 1 then
     Q84.l2 N n a c d e (aA (b+1)) m kr
    else
    bif a==(-4)then
     bif a==(-4)then
      (Q79.f N a ([c,d,e].getD b.toNat 0)).bind fun g=>
      kr g
     else
     (Q79.f N ([c,d,e].getD b.toNat 0) a).bind fun h=>
     kr h
    else
    bif a==8 then
     bif a==8 then
      (Q79.f N a ([c,d,e].getD b.toNat 0)).bind fun i=>
      kr i
     else
     (Q79.f N ([c,d,e].getD b.toNat 0) a).bind fun j=>
     kr j
    else
    bif a==(-8)then
     (Q79.f N a ([c,d,e].getD b.toNat 0)).bind fun k=>
     kr k
    else
    (Q79.f N ([c,d,e].getD b.toNat 0) a).bind fun l=>
    kr l
   else none
  else
  m ()
noncomputable def Q84.f (N:Nat)(b d c e:Int):Option (Int):=
 Q84.l2 N N e b c (aA ((aA (b+d))+c)) 0
  (fun(_:Unit)=>
   some 0)
  (fun a=>
   some a)
noncomputable def Q84.h2:bD:=⟨[(1,.any),(22,.recd [.any,.any,.any]),(23,.any)],[]⟩
noncomputable def Q84.c2 (N:Nat):iI:=⟨fun vs H k=>match vs,H with
 | [.c (.int .i64 b),.agg [.c (.int .i64 c),.c (.int .i64 d),.c (.int .i64 e)],.c (.int .i64 f)],[]=>Q84.l2 N N b c d e f (fun(_:Unit)=>k (.exit 0) ⟨yC Q84.h2.out [],[]⟩) (fun a=>k (.ret (.c (.int .i64 a)) []) .nil)
 |_,_=>none⟩
noncomputable def Q84.E (N:Nat):rC:=yE [(2,nS),(23,kK),(99,E1)] [(48,Q35.ent N),(64,Q79.ent N)] [(2,Q84.h2)] [(2,Q84.c2 N)] N [.tmp 4] [.any] 0 47
noncomputable def Q84.b2:Code:=qA ((fA (bo Try.f51)).getD 0 .skip)
theorem Q84.l2_eq {R:Type}(N n:Nat)(b c d e f:Int)(k:Ex→St→Option R):
  iB 0 Q84.h2 (fun s k=>eB (Q84.E N) 395 Q84.b2 s k) n [.c (.int .i64 b),.agg [.c (.int .i64 c),.c (.int .i64 d),.c (.int .i64 e)],.c (.int .i64 f)] [] k=Q84.l2 N n b c d e f (fun(_:Unit)=>k (.exit 0) ⟨yC Q84.h2.out [],[]⟩) (fun a=>k (.ret (.c (.int .i64 a)) []) .nil):=by
 induction n generalizing b c d e f with
 |zero=>kernel_rfl
 |succ n ih=>
  simp only[Q84.l2,←ih]
  kernel_rfl
noncomputable def Q84.dec (v:V)(bs:List mA):Option (Int):=match v,bs with
 | .c (.int .i64 a),[]=>some a
 |_,_=>none
theorem Q84.f_eq (N:Nat)(a b c d:Int):
  bB (Q84.E N) (bo Try.f51) [.agg [.c (.int .i64 a),.c (.int .i64 b),.c (.int .i64 c)],.c (.int .i64 d)] [] Q84.dec=Q84.f N a b c d:=by kernel_rfl
noncomputable def Q84.ent (N:Nat):wA:=eF (Int) 0 [true,true] [.recd [.any,.any,.any],.any] fun
 | [.agg [.c (.int .i64 a),.c (.int .i64 b),.c (.int .i64 c)],.c (.int .i64 d)]=>some (Q84.f N a b c d,fun r=>.one (.c (.int .i64 r)) [])
 |_=>none
theorem Q84.env (N:Nat):aB Try.prog (Q84.E N):=⟨(.cons lD (.cons rD (.cons Bg .nil))),(.cons (Q35.ent_ok N) (.cons (Q79.ent_ok N) .nil))⟩
theorem Q84.k2 (N:Nat):xB Try.prog Try.f51 (Q84.E N) (.loop Q84.b2):=tC (Q84.env N) dA 395 (c:=Q84.c2 N) cA.n fun R vs H k r h=>by unfold Q84.c2 at h;dsimp only at h;split at h;exact⟨_,Q84.l2_eq .. ▸h⟩;cases h
theorem Q84.spec (N:Nat)(a c d f r:Int)(h:Q84.f N a c d f=some r):iA Try.prog 51 [.agg [.c (.int .i64 a),.c (.int .i64 c),.c (.int .i64 d)],.c (.int .i64 f)] [] (.c (.int .i64 r)) ([]):=sA (Q84.env N) dA Try.func51 (cA.of (l:=[(.loop (qA ((fA (bo Try.f51)).getD 0 .skip)))]) (by kernel_rfl) (cA.cons (Q84.k2 N) cA.nil)) ((Q84.f_eq ..).trans h) fun v b e=>by unfold Q84.dec at e;split at e<;>cases e;exact⟨rfl,rfl⟩
theorem Q84.ent_ok (N:Nat):oA Try.prog 51 (Q84.ent N):=xA fun v a e h=>by split at h;exact eC (Q:=fun e=>iA _ _ _ _ (e a).pick.1 (e a).pick.2) h fun k=>Q84.spec N _ _ _ _ a k;cases h
noncomputable def Q85.l3 {R:Type}(N:Nat):Nat→List Int→Int→Int→Int→Int→Int→List Int→List Int→(List Int→List Int→Option R)→Option R
 |0,_,_,_,_,_,_,_,_,_=>none
 |n+1,f,h,a,i,j,b,c,d,g=>
  bif decide (a<h)then
   bif (decide (0≤a))&&(decide (a<(f.length:Int)))then
    (Q84.f N i j b (f.getD a.toNat 0)).bind fun e=>
    bif (decide (0≤a))&&(decide (a<8))then
     Q85.l3 N n f h (aA (a+1)) i j b c (d.set (0+a.toNat) e) g
    else none
   else none
  else
  g c d
noncomputable def Q85.f (N:Nat)(d e f:Int)(c:List Int):Option (Int×Int×Int×Int×Int×Int×Int×Int):=
 Q85.l3 N N c (c.length:Int) 0 d e f [0,0,0,0,0,0,0,0] [0,0,0,0,0,0,0,0]
  (fun b a=>
   some (((((((((b.set 0 (a.getD 0 0)).set 1 (a.getD 1 0)).set 2 (a.getD 2 0)).set 3 (a.getD 3 0)).set 4 (a.getD 4 0)).set 5 (a.getD 5 0)).set 6 (a.getD 6 0)).set 7 (a.getD 7 0)).getD 0 0,((((((((b.set 0 (a.getD 0 0)).set 1 (a.getD 1 0)).set 2 (a.getD 2 0)).set 3 (a.getD 3 0)).set 4 (a.getD 4 0)).set 5 (a.getD 5 0)).set 6 (a.getD 6 0)).set 7 (a.getD 7 0)).getD 1 0,((((((((b.set 0 (a.getD 0 0)).set 1 (a.getD 1 0)).set 2 (a.getD 2 0)).set 3 (a.getD 3 0)).set 4 (a.getD 4 0)).set 5 (a.getD 5 0)).set 6 (a.getD 6 0)).set 7 (a.getD 7 0)).getD 2 0,((((((((b.set 0 (a.getD 0 0)).set 1 (a.getD 1 0)).set 2 (a.getD 2 0)).set 3 (a.getD 3 0)).set 4 (a.getD 4 0)).set 5 (a.getD 5 0)).set 6 (a.getD 6 0)).set 7 (a.getD 7 0)).getD 3 0,((((((((b.set 0 (a.getD 0 0)).set 1 (a.getD 1 0)).set 2 (a.getD 2 0)).set 3 (a.getD 3 0)).set 4 (a.getD 4 0)).set 5 (a.getD 5 0)).set 6 (a.getD 6 0)).set 7 (a.getD 7 0)).getD 4 0,((((((((b.set 0 (a.getD 0 0)).set 1 (a.getD 1 0)).set 2 (a.getD 2 0)).set 3 (a.getD 3 0)).set 4 (a.getD 4 0)).set 5 (a.getD 5 0)).set 6 (a.getD 6 0)).set 7 (a.getD 7 0)).getD 5 0,((((((((b.set 0 (a.getD 0 0)).set 1 (a.getD 1 0)).set 2 (a.getD 2 0)).set 3 (a.getD 3 0)).set 4 (a.getD 4 0)).set 5 (a.getD 5 0)).set 6 (a.getD 6 0)).set 7 (a.getD 7 0)).getD 6 0,((((((((b.set 0 (a.getD 0 0)).set 1 (a.getD 1 0)).set 2 (a.getD 2 0)).set 3 (a.getD 3 0)).set 4 (a.getD 4 0)).set 5 (a.getD 5 0)).set 6 (a.getD 6 0)).set 7 (a.getD 7 0)).getD 7 0))
noncomputable def Q85.h3:bD:=⟨[(2,.box [.any,.any,.any]),(4,.any),(5,.any),(8,.il .i64 1),(9,.any),(10,.any)],[(4,.any),(5,.any)]⟩
noncomputable def Q85.c3 (N:Nat):iI:=⟨fun vs H k=>match vs,H with
 | [.ptr 0 0 3,.ptr 1 0 8,.ptr 2 0 8,.il .i64 1 f,.c (.int .i64 g),.c (.int .i64 h)],[.vals [.c (.int .i64 i),.c (.int .i64 j),.c (.int .i64 a)],.ints .i64 b,.ints .i64 c]=>Q85.l3 N N f g h i j a b c (fun d e=>k (.exit 0) ⟨yC Q85.h3.out [.ptr 0 0 8,.ptr 1 0 8],[.ints .i64 d,.ints .i64 e]⟩)
 |_,_=>none⟩
noncomputable def Q85.E (N:Nat):rC:=yE [(2,nS),(3,tn),(23,kK),(37,bU),(59,zq)] [(51,Q84.ent N)] [(3,Q85.h3)] [(3,Q85.c3 N)] N [.cell 4 59] [.recd [.any,.any,.any,.any,.any,.any,.any,.any]] 0 22
noncomputable def Q85.b3:Code:=qA ((fA (bo Try.f32)).getD 0 .skip)
theorem Q85.l3_eq {R:Type}(N n:Nat)(f:List Int)(g h i j a:Int)(b c:List Int)(k:Ex→St→Option R):
  iB 0 Q85.h3 (fun s k=>eB (Q85.E N) 394 Q85.b3 s k) n [.ptr 0 0 3,.ptr 1 0 8,.ptr 2 0 8,.il .i64 1 f,.c (.int .i64 g),.c (.int .i64 h)] [.vals [.c (.int .i64 i),.c (.int .i64 j),.c (.int .i64 a)],.ints .i64 b,.ints .i64 c] k=Q85.l3 N n f g h i j a b c (fun d e=>k (.exit 0) ⟨yC Q85.h3.out [.ptr 0 0 8,.ptr 1 0 8],[.ints .i64 d,.ints .i64 e]⟩):=by
 induction n generalizing f g h i j a b c with
 |zero=>kernel_rfl
 |succ n ih=>
  simp only[Q85.l3,←ih]
  kernel_rfl
noncomputable def Q85.dec (v:V)(bs:List mA):Option (Int×Int×Int×Int×Int×Int×Int×Int):=match v,bs with
 | .agg [.c (.int .i64 a),.c (.int .i64 b),.c (.int .i64 c),.c (.int .i64 d),.c (.int .i64 e),.c (.int .i64 f),.c (.int .i64 g),.c (.int .i64 h)],[]=>some (a,b,c,d,e,f,g,h)
 |_,_=>none
theorem Q85.f_eq (N:Nat)(a b c:Int)(d:List Int):
  bB (Q85.E N) (bo Try.f32) [.agg [.c (.int .i64 a),.c (.int .i64 b),.c (.int .i64 c)],.il .i64 1 d] [] Q85.dec=Q85.f N a b c d:=by kernel_rfl
noncomputable def Q85.ent (N:Nat):wA:=eF (Int×Int×Int×Int×Int×Int×Int×Int) 0 [true,true] [.recd [.any,.any,.any],.il .i64 1] fun
 | [.agg [.c (.int .i64 a),.c (.int .i64 b),.c (.int .i64 c)],.il .i64 1 d]=>some (Q85.f N a b c d,fun r=>.one (.agg [.c (.int .i64 r.1),.c (.int .i64 r.2.1),.c (.int .i64 r.2.2.1),.c (.int .i64 r.2.2.2.1),.c (.int .i64 r.2.2.2.2.1),.c (.int .i64 r.2.2.2.2.2.1),.c (.int .i64 r.2.2.2.2.2.2.1),.c (.int .i64 r.2.2.2.2.2.2.2)]) [])
 |_=>none
theorem Q85.env (N:Nat):aB Try.prog (Q85.E N):=⟨(.cons lD (.cons fI (.cons rD (.cons eH (.cons qU .nil))))),(.cons (Q84.ent_ok N) .nil)⟩
theorem Q85.k3 (N:Nat):xB Try.prog Try.f32 (Q85.E N) (.loop Q85.b3):=tC (Q85.env N) dA 394 (c:=Q85.c3 N) cA.n fun R vs H k r h=>by unfold Q85.c3 at h;dsimp only at h;split at h;exact⟨_,Q85.l3_eq .. ▸h⟩;cases h
theorem Q85.spec (N:Nat)(a c d:Int)(f:List Int)(r:Int×Int×Int×Int×Int×Int×Int×Int)(h:Q85.f N a c d f=some r):iA Try.prog 32 [.agg [.c (.int .i64 a),.c (.int .i64 c),.c (.int .i64 d)],.il .i64 1 f] [] (.agg [.c (.int .i64 r.1),.c (.int .i64 r.2.1),.c (.int .i64 r.2.2.1),.c (.int .i64 r.2.2.2.1),.c (.int .i64 r.2.2.2.2.1),.c (.int .i64 r.2.2.2.2.2.1),.c (.int .i64 r.2.2.2.2.2.2.1),.c (.int .i64 r.2.2.2.2.2.2.2)]) ([]):=sA (Q85.env N) dA Try.func32 (cA.of (l:=[(.loop (qA ((fA (bo Try.f32)).getD 0 .skip)))]) (by kernel_rfl) (cA.cons (Q85.k3 N) cA.nil)) ((Q85.f_eq ..).trans h) fun v b e=>by unfold Q85.dec at e;split at e<;>cases e;exact⟨rfl,rfl⟩
theorem Q85.ent_ok (N:Nat):oA Try.prog 32 (Q85.ent N):=xA fun v a e h=>by split at h;exact eC (Q:=fun e=>iA _ _ _ _ (e a).pick.1 (e a).pick.2) h fun k=>Q85.spec N _ _ _ _ a k;cases h
noncomputable def Q86.f (N:Nat)(c d e:Int):Option (List Int×Int):=
 (Q38.f N c d e).bind fun f=>
 bif f != 0 then
  some ([],f)
 else
 (Q37.f N c d e).bind fun g=>
 bif decide (g<(-65536))then
  some ([],80)
 else
 (Q41.f N c d e).bind fun h=>
 bif h != 1 then
  some ([],81)
 else
 (Q37.f N c d e).bind fun i=>
 (Q83.f N i).bind fun b=>
 (Q85.f N c d e b).bind fun a=>
 bif ((decide (0≤(b.length:Int)))&&(decide ((b.length:Int)≤(b.length:Int))))&&(decide ((b.length:Int)≤8))then
  some ([a.1,a.2.1,a.2.2.1,a.2.2.2.1,a.2.2.2.2.1,a.2.2.2.2.2.1,a.2.2.2.2.2.2.1,a.2.2.2.2.2.2.2].take ((b.length:Int).toNat),0)
 else none
noncomputable def Q86.E (N:Nat):rC:=yE [(3,tn),(23,kK),(37,bU),(59,zq)] [(29,Q38.ent N),(24,Q37.ent N),(30,Q41.ent N),(31,Q83.ent N),(32,Q85.ent N)] [] [] N [.tmp 2,.tmp 3] [.il .i64 1,.any] 0 32
noncomputable def Q86.dec (v:V)(bs:List mA):Option (List Int×Int):=match v,bs with
 | .tup [.il .i64 1 a,.c (.int .i64 b)],[]=>some (a,b)
 |_,_=>none
theorem Q86.f_eq (N:Nat)(a b c:Int):
  bB (Q86.E N) (bo Try.f8) [.agg [.c (.int .i64 a),.c (.int .i64 b),.c (.int .i64 c)]] [] Q86.dec=Q86.f N a b c:=by kernel_rfl
noncomputable def Q86.ent (N:Nat):wA:=eF (List Int×Int) 0 [true] [.recd [.any,.any,.any]] fun
 | [.agg [.c (.int .i64 a),.c (.int .i64 b),.c (.int .i64 c)]]=>some (Q86.f N a b c,fun r=>.one (.tup [.il .i64 1 r.1,.c (.int .i64 r.2)]) [])
 |_=>none
theorem Q86.env (N:Nat):aB Try.prog (Q86.E N):=⟨(.cons fI (.cons rD (.cons eH (.cons qU .nil)))),(.cons (Q38.ent_ok N) (.cons (Q37.ent_ok N) (.cons (Q41.ent_ok N) (.cons (Q83.ent_ok N) (.cons (Q85.ent_ok N) .nil)))))⟩
theorem Q86.spec (N:Nat)(a c d:Int)(r:List Int×Int)(h:Q86.f N a c d=some r):iA Try.prog 8 [.agg [.c (.int .i64 a),.c (.int .i64 c),.c (.int .i64 d)]] [] (.tup [.il .i64 1 r.1,.c (.int .i64 r.2)]) ([]):=sA (Q86.env N) dA Try.func8 cA.n ((Q86.f_eq ..).trans h) fun v b e=>by unfold Q86.dec at e;split at e<;>cases e;exact⟨rfl,rfl⟩
theorem Q86.ent_ok (N:Nat):oA Try.prog 8 (Q86.ent N):=xA fun v a e h=>by split at h;exact eC (Q:=fun e=>iA _ _ _ _ (e a).pick.1 (e a).pick.2) h fun k=>Q86.spec N _ _ _ a k;cases h
noncomputable def Q87.f (N:Nat)(a:Int):Option (List Int×Int):=
 (Q66.f N a).bind fun b=>
 bif b != 0 then
  some ([],b)
 else
 (Q83.f N a).bind fun c=>
 some (c,0)
noncomputable def Q87.E (N:Nat):rC:=yE [] [(40,Q66.ent N),(31,Q83.ent N)] [] [] N [.tmp 2,.tmp 3] [.il .i64 1,.any] 0 12
noncomputable def Q87.dec (v:V)(bs:List mA):Option (List Int×Int):=match v,bs with
 | .tup [.il .i64 1 a,.c (.int .i64 b)],[]=>some (a,b)
 |_,_=>none
theorem Q87.f_eq (N:Nat)(a:Int):
  bB (Q87.E N) (bo Try.f15) [.c (.int .i64 a)] [] Q87.dec=Q87.f N a:=by kernel_rfl
noncomputable def Q87.ent (N:Nat):wA:=eF (List Int×Int) 0 [true] [.any] fun
 | [.c (.int .i64 a)]=>some (Q87.f N a,fun r=>.one (.tup [.il .i64 1 r.1,.c (.int .i64 r.2)]) [])
 |_=>none
theorem Q87.env (N:Nat):aB Try.prog (Q87.E N):=⟨.nil,(.cons (Q66.ent_ok N) (.cons (Q83.ent_ok N) .nil))⟩
theorem Q87.spec (N:Nat)(a:Int)(r:List Int×Int)(h:Q87.f N a=some r):iA Try.prog 15 [.c (.int .i64 a)] [] (.tup [.il .i64 1 r.1,.c (.int .i64 r.2)]) ([]):=sA (Q87.env N) dA Try.func15 cA.n ((Q87.f_eq ..).trans h) fun v b e=>by unfold Q87.dec at e;split at e<;>cases e;exact⟨rfl,rfl⟩
theorem Q87.ent_ok (N:Nat):oA Try.prog 15 (Q87.ent N):=xA fun v a e h=>by split at h;exact eC (Q:=fun e=>iA _ _ _ _ (e a).pick.1 (e a).pick.2) h fun k=>Q87.spec N _ a k;cases h
noncomputable def Q88.l8 {R:Type}(N:Nat):Nat→Int→Int→Int→List Int→(Int→Int→Int→List Int→Option R)→Option R
 |0,_,_,_,_,_=>none
 |n+1,d,b,a,e,c=>
  bif !(a==0)then
   bif (Int.tmod b a)==0 then
    bif !(a==0)then
     Q88.l8 N n d (aA (Int.tdiv b a)) a e c
    else none
   else
   c d b a e
  else none
noncomputable def Q88.l4 {R:Type}(N:Nat):Nat→Int→Int→Int→List Int→(Int→List Int→Option R)→Option R
 |0,_,_,_,_,_=>none
 |n+1,e,b,a,c,d=>
  bif decide (a≤b)then
   bif !(a==0)then
    bif (Int.tmod b a) != 0 then
     Q88.l4 N n e b (aA (a+2)) c d
    else
    bif zA (c.length+1) 8 then
     Q88.l8 N N e b a (c++[a])
      (fun f g h i=>
       Q88.l4 N n f g (aA (h+2)) i d)
    else none
   else none
  else
  d e c
noncomputable def Q88.f (N:Nat)(c:Int):Option (List Int):=
 Q88.l4 N N c (aA (0-c)) 3 []
  (fun b a=>
   bif (Int.tmod b 2) != 0 then
    some a
   else
   bif (Int.tmod (aA (Int.tdiv (aA (0-b)) 4)) 4)==3 then
    some a
   else
   bif (Int.tmod (aA (Int.tdiv (aA (0-b)) 4)) 4)==1 then
    bif zA (a.length+1) 8 then
     some (a++[(-4)])
    else none
   else
   bif (Int.tmod (aA (Int.tdiv (aA (0-b)) 4)) 8)==4 then
    bif zA (a.length+1) 8 then
     some (a++[(-4)])
    else none
   else
   bif (Int.tmod (aA (Int.tdiv (aA (0-b)) 4)) 8)==2 then
    bif zA (a.length+1) 8 then
     some (a++[(-8)])
    else none
   else
   bif (Int.tmod (aA (Int.tdiv (aA (0-b)) 4)) 8)==6 then
    bif zA (a.length+1) 8 then
     some (a++[8])
    else none
   else
   bif zA (a.length+2) 8 then
    some (a++[(-4),8])
   else none)
noncomputable def Q88.h4:bD:=⟨[(0,.any),(3,.row .i64 1),(4,.any),(5,.any)],[(0,.any),(3,.row .i64 1)]⟩
noncomputable def Q88.h8:bD:=⟨[(0,.any),(3,.row .i64 1),(4,.any),(5,.any)],[(0,.any),(3,.row .i64 1),(4,.any),(5,.any)]⟩
noncomputable def Q88.c8 (N:Nat):iI:=⟨fun vs H k=>match vs,H with
 | [.c (.int .i64 e),.sw 0 1,.c (.int .i64 f),.c (.int .i64 g)],[.ints .i64 h]=>Q88.l8 N N e f g h (fun a b c d=>k (.exit 2) ⟨yC Q88.h8.out [.c (.int .i64 a),.sw 0 1,.c (.int .i64 b),.c (.int .i64 c)],[.ints .i64 d]⟩)
 |_,_=>none⟩
noncomputable def Q88.c4 (N:Nat):iI:=⟨fun vs H k=>match vs,H with
 | [.c (.int .i64 c),.sw 0 1,.c (.int .i64 d),.c (.int .i64 e)],[.ints .i64 f]=>Q88.l4 N N c d e f (fun a b=>k (.exit 0) ⟨yC Q88.h4.out [.c (.int .i64 a),.sw 0 1],[.ints .i64 b]⟩)
 |_,_=>none⟩
noncomputable def Q88.E (N:Nat):rC:=yE [(2,nS),(37,bU)] [] [(4,Q88.h4),(8,Q88.h8)] [(8,Q88.c8 N),(4,Q88.c4 N)] N [.tmp 2] [.il .i64 1] 0 69
noncomputable def Q88.b8:Code:=qA ((fA (bo Try.f21)).getD 1 .skip)
theorem Q88.l8_eq {R:Type}(N n:Nat)(e f g:Int)(h:List Int)(k:Ex→St→Option R):
  iB 0 Q88.h8 (fun s k=>eB (Q88.E N) 386 Q88.b8 s k) n [.c (.int .i64 e),.sw 0 1,.c (.int .i64 f),.c (.int .i64 g)] [.ints .i64 h] k=Q88.l8 N n e f g h (fun a b c d=>k (.exit 2) ⟨yC Q88.h8.out [.c (.int .i64 a),.sw 0 1,.c (.int .i64 b),.c (.int .i64 c)],[.ints .i64 d]⟩):=by
 induction n generalizing e f g h with
 |zero=>kernel_rfl
 |succ n ih=>
  simp only[Q88.l8,←ih]
  kernel_rfl
noncomputable def Q88.b4:Code:=qA ((fA (bo Try.f21)).getD 0 .skip)
theorem Q88.l4_eq {R:Type}(N n:Nat)(c d e:Int)(f:List Int)(k:Ex→St→Option R):
  iB 0 Q88.h4 (fun s k=>eB (Q88.E N) 393 Q88.b4 s k) n [.c (.int .i64 c),.sw 0 1,.c (.int .i64 d),.c (.int .i64 e)] [.ints .i64 f] k=Q88.l4 N n c d e f (fun a b=>k (.exit 0) ⟨yC Q88.h4.out [.c (.int .i64 a),.sw 0 1],[.ints .i64 b]⟩):=by
 induction n generalizing c d e f with
 |zero=>kernel_rfl
 |succ n ih=>
  simp only[Q88.l4,←ih]
  kernel_rfl
noncomputable def Q88.dec (v:V)(bs:List mA):Option (List Int):=match v,bs with
 | .il .i64 1 a,[]=>some a
 |_,_=>none
theorem Q88.f_eq (N:Nat)(a:Int):
  bB (Q88.E N) (bo Try.f21) [.c (.int .i64 a)] [] Q88.dec=Q88.f N a:=by kernel_rfl
noncomputable def Q88.ent (N:Nat):wA:=eF (List Int) 0 [true] [.any] fun
 | [.c (.int .i64 a)]=>some (Q88.f N a,fun r=>.one (.il .i64 1 r) [])
 |_=>none
theorem Q88.env (N:Nat):aB Try.prog (Q88.E N):=⟨(.cons lD (.cons eH .nil)),.nil⟩
theorem Q88.k8 (N:Nat):xB Try.prog Try.f21 (Q88.E N) (.loop Q88.b8):=tC (Q88.env N) dA 386 (c:=Q88.c8 N) cA.n fun R vs H k r h=>by unfold Q88.c8 at h;dsimp only at h;split at h;exact⟨_,Q88.l8_eq .. ▸h⟩;cases h
theorem Q88.k4 (N:Nat):xB Try.prog Try.f21 (Q88.E N) (.loop Q88.b4):=tC (Q88.env N) dA 393 (c:=Q88.c4 N) (cA.of (l:=[(.loop (qA ((fA (bo Try.f21)).getD 1 .skip)))]) (by kernel_rfl) (cA.cons (Q88.k8 N) cA.nil)) fun R vs H k r h=>by unfold Q88.c4 at h;dsimp only at h;split at h;exact⟨_,Q88.l4_eq .. ▸h⟩;cases h
theorem Q88.spec (N:Nat)(a:Int)(r:List Int)(h:Q88.f N a=some r):iA Try.prog 21 [.c (.int .i64 a)] [] (.il .i64 1 r) ([]):=sA (Q88.env N) dA Try.func21 (cA.of (l:=[(.loop (qA ((fA (bo Try.f21)).getD 0 .skip))),(.loop (qA ((fA (bo Try.f21)).getD 1 .skip)))]) (by kernel_rfl) (cA.cons (Q88.k4 N) (cA.cons (Q88.k8 N) cA.nil))) ((Q88.f_eq ..).trans h) fun v b e=>by unfold Q88.dec at e;split at e<;>cases e;exact⟨rfl,rfl⟩
theorem Q88.ent_ok (N:Nat):oA Try.prog 21 (Q88.ent N):=xA fun v a e h=>by split at h;exact eC (Q:=fun e=>iA _ _ _ _ (e a).pick.1 (e a).pick.2) h fun k=>Q88.spec N _ a k;cases h
noncomputable def Q89.l15 {R:Type}(N:Nat):Nat→Int→Int→Int→(Unit→Option R)→(Int→Option R)→Option R
 |0,_,_,_,_,_=>none
 |n+1,d,a,b,c,kr=>
  bif decide (b<a)then
   bif !(a==0)then
    bif (Int.tmod (aA ((aA (b*b))-d)) a)==0 then
     kr 1
    else
    Q89.l15 N n d a (aA (b+1)) c kr
   else none
  else
  c ()
noncomputable def Q89.f (N:Nat)(a b:Int):Option (Int):=
 bif b==(-4)then
  bif (Int.tmod a 4)==1 then
   some 1
  else
  some (-1)
 else
 bif b==8 then
  bif (Int.tmod a 8)==1 then
   some 1
  else
  bif (Int.tmod a 8)==7 then
   some 1
  else
  some (-1)
 else
 bif b==(-8)then
  bif (Int.tmod a 8)==1 then
   some 1
  else
  bif (Int.tmod a 8)==3 then
   some 1
  else
  some (-1)
 else
 Q89.l15 N N a b 1
  (fun(_:Unit)=>
   some (-1))
  (fun c=>
   some c)
noncomputable def Q89.h15:bD:=⟨[(0,.any),(1,.any),(5,.any)],[]⟩
noncomputable def Q89.c15 (N:Nat):iI:=⟨fun vs H k=>match vs,H with
 | [.c (.int .i64 a),.c (.int .i64 b),.c (.int .i64 c)],[]=>Q89.l15 N N a b c (fun(_:Unit)=>k (.exit 1) ⟨yC Q89.h15.out [],[]⟩) (fun d=>k (.ret (.c (.int .i64 d)) []) .nil)
 |_,_=>none⟩
noncomputable def Q89.E (N:Nat):rC:=yE [] [] [(15,Q89.h15)] [(15,Q89.c15 N)] N [.tmp 4] [.any] 0 45
noncomputable def Q89.b15:Code:=qA ((fA (bo Try.f39)).getD 0 .skip)
theorem Q89.l15_eq {R:Type}(N n:Nat)(a b c:Int)(k:Ex→St→Option R):
  iB 0 Q89.h15 (fun s k=>eB (Q89.E N) 394 Q89.b15 s k) n [.c (.int .i64 a),.c (.int .i64 b),.c (.int .i64 c)] [] k=Q89.l15 N n a b c (fun(_:Unit)=>k (.exit 1) ⟨yC Q89.h15.out [],[]⟩) (fun d=>k (.ret (.c (.int .i64 d)) []) .nil):=by
 induction n generalizing a b c with
 |zero=>kernel_rfl
 |succ n ih=>
  simp only[Q89.l15,←ih]
  kernel_rfl
noncomputable def Q89.dec (v:V)(bs:List mA):Option (Int):=match v,bs with
 | .c (.int .i64 a),[]=>some a
 |_,_=>none
theorem Q89.f_eq (N:Nat)(a b:Int):
  bB (Q89.E N) (bo Try.f39) [.c (.int .i64 a),.c (.int .i64 b)] [] Q89.dec=Q89.f N a b:=by kernel_rfl
noncomputable def Q89.ent (N:Nat):wA:=eF (Int) 0 [true,true] [.any,.any] fun
 | [.c (.int .i64 a),.c (.int .i64 b)]=>some (Q89.f N a b,fun r=>.one (.c (.int .i64 r)) [])
 |_=>none
theorem Q89.env (N:Nat):aB Try.prog (Q89.E N):=⟨.nil,.nil⟩
theorem Q89.k15 (N:Nat):xB Try.prog Try.f39 (Q89.E N) (.loop Q89.b15):=tC (Q89.env N) dA 394 (c:=Q89.c15 N) cA.n fun R vs H k r h=>by unfold Q89.c15 at h;dsimp only at h;split at h;exact⟨_,Q89.l15_eq .. ▸h⟩;cases h
theorem Q89.spec (N:Nat)(a c r:Int)(h:Q89.f N a c=some r):iA Try.prog 39 [.c (.int .i64 a),.c (.int .i64 c)] [] (.c (.int .i64 r)) ([]):=sA (Q89.env N) dA Try.func39 (cA.of (l:=[(.loop (qA ((fA (bo Try.f39)).getD 0 .skip)))]) (by kernel_rfl) (cA.cons (Q89.k15 N) cA.nil)) ((Q89.f_eq ..).trans h) fun v b e=>by unfold Q89.dec at e;split at e<;>cases e;exact⟨rfl,rfl⟩
theorem Q89.ent_ok (N:Nat):oA Try.prog 39 (Q89.ent N):=xA fun v a e h=>by split at h;exact eC (Q:=fun e=>iA _ _ _ _ (e a).pick.1 (e a).pick.2) h fun k=>Q89.spec N _ _ a k;cases h
noncomputable def Q90.f (N:Nat)(b a:Int):Option (Bool):=
 bif decide (a<0)then
  (Q69.f N b (aA (0-a))).bind fun c=>
  some (c==1)
 else
 (Q69.f N b a).bind fun d=>
 some (d==1)
noncomputable def Q90.E (N:Nat):rC:=yE [] [(37,Q69.ent N)] [] [] N [.tmp 4] [.any] 0 13
noncomputable def Q90.dec (v:V)(bs:List mA):Option (Bool):=match v,bs with
 | .c (.bool a),[]=>some a
 |_,_=>none
theorem Q90.f_eq (N:Nat)(a b:Int):
  bB (Q90.E N) (bo Try.f38) [.c (.int .i64 a),.c (.int .i64 b)] [] Q90.dec=Q90.f N a b:=by kernel_rfl
noncomputable def Q90.ent (N:Nat):wA:=eF (Bool) 0 [true,true] [.any,.any] fun
 | [.c (.int .i64 a),.c (.int .i64 b)]=>some (Q90.f N a b,fun r=>.one (.c (.bool r)) [])
 |_=>none
theorem Q90.env (N:Nat):aB Try.prog (Q90.E N):=⟨.nil,(.cons (Q69.ent_ok N) .nil)⟩
theorem Q90.spec (N:Nat)(a c:Int)(r:Bool)(h:Q90.f N a c=some r):iA Try.prog 38 [.c (.int .i64 a),.c (.int .i64 c)] [] (.c (.bool r)) ([]):=sA (Q90.env N) dA Try.func38 cA.n ((Q90.f_eq ..).trans h) fun v b e=>by unfold Q90.dec at e;split at e<;>cases e;exact⟨rfl,rfl⟩
theorem Q90.ent_ok (N:Nat):oA Try.prog 38 (Q90.ent N):=xA fun v a e h=>by split at h;exact eC (Q:=fun e=>iA _ _ _ _ (e a).pick.1 (e a).pick.2) h fun k=>Q90.spec N _ _ a k;cases h
noncomputable def Q91.l4 {R:Type}(N:Nat):Nat→List Int→Int→Int→Int→Int→List Int→(List Int→Option R)→Option R
 |0,_,_,_,_,_,_,_=>none
 |n+1,c,a,d,g,e,b,f=>
  bif decide (a<(c.length:Int))then
   bif (decide (0≤a))&&(decide (a<(c.length:Int)))then
    (Q90.f N d (c.getD a.toNat 0)).bind fun h=>
    bif (decide (0≤a))&&(decide (a<(c.length:Int)))then
     (Q90.f N e (c.getD a.toNat 0)).bind fun i=>
     bif !h then
      bif !i then
       bif (decide (0≤a))&&(decide (a<(c.length:Int)))then
        (Q89.f N (aA ((aA (d+g))+e)) (c.getD a.toNat 0)).bind fun j=>
        bif zA (b.length+1) 8 then
         Q91.l4 N n c (aA (a+1)) d g e (b++[j]) f
        else none
       else none
      else
      bif (decide (0≤a))&&(decide (a<(c.length:Int)))then
       (Q89.f N e (c.getD a.toNat 0)).bind fun k=>
       bif zA (b.length+1) 8 then
        Q91.l4 N n c (aA (a+1)) d g e (b++[k]) f
       else none
      else none
     else
     bif (decide (0≤a))&&(decide (a<(c.length:Int)))then
      (Q89.f N d (c.getD a.toNat 0)).bind fun l=>
      bif zA (b.length+1) 8 then
       Q91.l4 N n c (aA (a+1)) d g e (b++[l]) f
      else none
     else none
    else none
   else none
  else
  f b
noncomputable def Q91.f (N:Nat)(c a d:Int):Option (List Int):=
 (Q88.f N (aA ((aA (a*a))- (aA ((aA (4*c))*d))))).bind fun e=>
 Q91.l4 N N e 0 c a d []
  (fun b=>
   some b)
noncomputable def Q91.h4:bD:=⟨[(1,.box [.any,.any,.any]),(3,.row .i64 1),(4,.il .i64 1),(5,.any)],[(3,.row .i64 1)]⟩
noncomputable def Q91.c4 (N:Nat):iI:=⟨fun vs H k=>match vs,H with
 | [.ptr 0 0 3,.sw 1 1,.il .i64 1 c,.c (.int .i64 d)],[.vals [.c (.int .i64 e),.c (.int .i64 f),.c (.int .i64 g)],.ints .i64 a]=>Q91.l4 N N c d e f g a (fun b=>k (.exit 0) ⟨yC Q91.h4.out [.sw 0 1],[.ints .i64 b]⟩)
 |_,_=>none⟩
noncomputable def Q91.E (N:Nat):rC:=yE [(2,nS),(3,tn),(23,kK),(24,me),(37,bU)] [(21,Q88.ent N),(38,Q90.ent N),(39,Q89.ent N)] [(4,Q91.h4)] [(4,Q91.c4 N)] N [.tmp 2] [.il .i64 1] 0 70
noncomputable def Q91.b4:Code:=qA ((fA (bo Try.f13)).getD 0 .skip)
theorem Q91.l4_eq {R:Type}(N n:Nat)(c:List Int)(d e f g:Int)(a:List Int)(k:Ex→St→Option R):
  iB 0 Q91.h4 (fun s k=>eB (Q91.E N) 393 Q91.b4 s k) n [.ptr 0 0 3,.sw 1 1,.il .i64 1 c,.c (.int .i64 d)] [.vals [.c (.int .i64 e),.c (.int .i64 f),.c (.int .i64 g)],.ints .i64 a] k=Q91.l4 N n c d e f g a (fun b=>k (.exit 0) ⟨yC Q91.h4.out [.sw 0 1],[.ints .i64 b]⟩):=by
 induction n generalizing c d e f g a with
 |zero=>kernel_rfl
 |succ n ih=>
  simp only[Q91.l4,←ih]
  kernel_rfl
noncomputable def Q91.dec (v:V)(bs:List mA):Option (List Int):=match v,bs with
 | .il .i64 1 a,[]=>some a
 |_,_=>none
theorem Q91.f_eq (N:Nat)(a b c:Int):
  bB (Q91.E N) (bo Try.f13) [.agg [.c (.int .i64 a),.c (.int .i64 b),.c (.int .i64 c)]] [] Q91.dec=Q91.f N a b c:=by kernel_rfl
noncomputable def Q91.ent (N:Nat):wA:=eF (List Int) 0 [true] [.recd [.any,.any,.any]] fun
 | [.agg [.c (.int .i64 a),.c (.int .i64 b),.c (.int .i64 c)]]=>some (Q91.f N a b c,fun r=>.one (.il .i64 1 r) [])
 |_=>none
theorem Q91.env (N:Nat):aB Try.prog (Q91.E N):=⟨(.cons lD (.cons fI (.cons rD (.cons iO (.cons eH .nil))))),(.cons (Q88.ent_ok N) (.cons (Q90.ent_ok N) (.cons (Q89.ent_ok N) .nil)))⟩
theorem Q91.k4 (N:Nat):xB Try.prog Try.f13 (Q91.E N) (.loop Q91.b4):=tC (Q91.env N) dA 393 (c:=Q91.c4 N) cA.n fun R vs H k r h=>by unfold Q91.c4 at h;dsimp only at h;split at h;exact⟨_,Q91.l4_eq .. ▸h⟩;cases h
theorem Q91.spec (N:Nat)(a c d:Int)(r:List Int)(h:Q91.f N a c d=some r):iA Try.prog 13 [.agg [.c (.int .i64 a),.c (.int .i64 c),.c (.int .i64 d)]] [] (.il .i64 1 r) ([]):=sA (Q91.env N) dA Try.func13 (cA.of (l:=[(.loop (qA ((fA (bo Try.f13)).getD 0 .skip)))]) (by kernel_rfl) (cA.cons (Q91.k4 N) cA.nil)) ((Q91.f_eq ..).trans h) fun v b e=>by unfold Q91.dec at e;split at e<;>cases e;exact⟨rfl,rfl⟩
theorem Q91.ent_ok (N:Nat):oA Try.prog 13 (Q91.ent N):=xA fun v a e h=>by split at h;exact eC (Q:=fun e=>iA _ _ _ _ (e a).pick.1 (e a).pick.2) h fun k=>Q91.spec N _ _ _ a k;cases h
noncomputable def Q92.l2 {R:Type}(N:Nat):Nat→List Int→List Int→Int→(List Int→List Int→Option R)→(Bool→Option R)→Option R
 |0,_,_,_,_,_=>none
 |n+1,b,c,a,d,kr=>
  bif decide (a<(b.length:Int))then
   bif (decide (0≤a))&&(decide (a<(b.length:Int)))then
    bif (decide (0≤a))&&(decide (a<(c.length:Int)))then
     bif (b.getD a.toNat 0) != (c.getD a.toNat 0)then
      kr false
     else
     Q92.l2 N n b c (aA (a+1)) d kr
    else none
   else none
  else
  d b c
noncomputable def Q92.f (N:Nat)(c d:List Int):Option (Bool):=
 Q92.l2 N N c d 0
  (fun e a=>
   some ((e.length:Int)==(a.length:Int)))
  (fun b=>
   some b)
noncomputable def Q92.h2:bD:=⟨[(0,.il .i64 1),(1,.il .i64 1),(5,.any)],[(0,.il .i64 1),(1,.il .i64 1)]⟩
noncomputable def Q92.c2 (N:Nat):iI:=⟨fun vs H k=>match vs,H with
 | [.il .i64 1 a,.il .i64 1 b,.c (.int .i64 c)],[]=>Q92.l2 N N a b c (fun e f=>k (.exit 0) ⟨yC Q92.h2.out [.il .i64 1 e,.il .i64 1 f],[]⟩) (fun d=>k (.ret (.c (.bool d)) []) .nil)
 |_,_=>none⟩
noncomputable def Q92.E (N:Nat):rC:=yE [(3,tn),(24,me)] [] [(2,Q92.h2)] [(2,Q92.c2 N)] N [.tmp 4] [.any] 0 26
noncomputable def Q92.b2:Code:=qA ((fA (bo Try.f43)).getD 0 .skip)
theorem Q92.l2_eq {R:Type}(N n:Nat)(a b:List Int)(c:Int)(k:Ex→St→Option R):
  iB 0 Q92.h2 (fun s k=>eB (Q92.E N) 395 Q92.b2 s k) n [.il .i64 1 a,.il .i64 1 b,.c (.int .i64 c)] [] k=Q92.l2 N n a b c (fun e f=>k (.exit 0) ⟨yC Q92.h2.out [.il .i64 1 e,.il .i64 1 f],[]⟩) (fun d=>k (.ret (.c (.bool d)) []) .nil):=by
 induction n generalizing a b c with
 |zero=>kernel_rfl
 |succ n ih=>
  simp only[Q92.l2,←ih]
  kernel_rfl
noncomputable def Q92.dec (v:V)(bs:List mA):Option (Bool):=match v,bs with
 | .c (.bool a),[]=>some a
 |_,_=>none
theorem Q92.f_eq (N:Nat)(a b:List Int):
  bB (Q92.E N) (bo Try.f43) [.il .i64 1 a,.il .i64 1 b] [] Q92.dec=Q92.f N a b:=by kernel_rfl
noncomputable def Q92.ent (N:Nat):wA:=eF (Bool) 0 [true,true] [.il .i64 1,.il .i64 1] fun
 | [.il .i64 1 a,.il .i64 1 b]=>some (Q92.f N a b,fun r=>.one (.c (.bool r)) [])
 |_=>none
theorem Q92.env (N:Nat):aB Try.prog (Q92.E N):=⟨(.cons fI (.cons iO .nil)),.nil⟩
theorem Q92.k2 (N:Nat):xB Try.prog Try.f43 (Q92.E N) (.loop Q92.b2):=tC (Q92.env N) dA 395 (c:=Q92.c2 N) cA.n fun R vs H k r h=>by unfold Q92.c2 at h;dsimp only at h;split at h;exact⟨_,Q92.l2_eq .. ▸h⟩;cases h
theorem Q92.spec (N:Nat)(a c:List Int)(r:Bool)(h:Q92.f N a c=some r):iA Try.prog 43 [.il .i64 1 a,.il .i64 1 c] [] (.c (.bool r)) ([]):=sA (Q92.env N) dA Try.func43 (cA.of (l:=[(.loop (qA ((fA (bo Try.f43)).getD 0 .skip)))]) (by kernel_rfl) (cA.cons (Q92.k2 N) cA.nil)) ((Q92.f_eq ..).trans h) fun v b e=>by unfold Q92.dec at e;split at e<;>cases e;exact⟨rfl,rfl⟩
theorem Q92.ent_ok (N:Nat):oA Try.prog 43 (Q92.ent N):=xA fun v a e h=>by split at h;exact eC (Q:=fun e=>iA _ _ _ _ (e a).pick.1 (e a).pick.2) h fun k=>Q92.spec N _ _ a k;cases h
noncomputable def bp:TI:=⟨.slice 43,1,24,[.slice none 0 0]⟩
noncomputable def D5:TI:=⟨.map 59 3,1,8,[.map none]⟩
noncomputable def E0:TI:=⟨.slice 4,1,24,[.slice none 0 0]⟩
theorem dK:fC Try.prog 40 bp:=lC (by kernel_rfl) (by kernel_rfl) (by kernel_rfl) (by kernel_rfl) (by kernel_rfl) (by kernel_rfl) (by kernel_rfl) (Try.underlying40) (by kernel_rfl)
theorem pv:fC Try.prog 64 D5:=lC (by kernel_rfl) (by kernel_rfl) (by kernel_rfl) (by kernel_rfl) (by kernel_rfl) (by kernel_rfl) (by kernel_rfl) (zj Try.underlying64 (by kernel_rfl)) (by kernel_rfl)
theorem Be:fC Try.prog 67 E0:=lC (by kernel_rfl) (by kernel_rfl) (by kernel_rfl) (by kernel_rfl) (by kernel_rfl) (by kernel_rfl) (by kernel_rfl) (Try.underlying67) (by kernel_rfl)
noncomputable def Q93.l8 {R:Type}(N:Nat):Nat→List Int→Int→Int→List (List Int)→List Int→List (List Int)→List Int→(List (List Int)→Option R)→Option R
 |0,_,_,_,_,_,_,_,_=>none
 |n+1,h,i,d,e,f,c,b,g=>
  bif decide (d<i)then
   bif (decide (0≤d))&&(decide (d<(b.length/3:Int)))then
    (Q85.f N (b.getD (d.toNat*3) 0) (b.getD ((d.toNat*3)+1) 0) (b.getD ((d.toNat*3)+2) 0) h).bind fun a=>
    bif !(eJ [a.1,a.2.1,a.2.2.1,a.2.2.2.1,a.2.2.2.2.1,a.2.2.2.2.2.1,a.2.2.2.2.2.2.1,a.2.2.2.2.2.2.2] e)then
     bif zA (c.length+1) 24 then
      bif (decide (0≤(c.length:Int)))&&(decide ((c.length:Int)<((c++[[]]).length:Int)))then
       bif zA (((((c++[[]]).getD ((c.length:Int).toNat) []).length)+3)/3) 24 then
        bif (decide (0≤(c.length:Int)))&&(decide ((c.length:Int)<((c++[[]]).length:Int)))then
         bif Nat.beq ((c.length:Int).toNat) ((c.length:Int).toNat)then
          Q93.l8 N n h i (aA (d+1)) (qB [a.1,a.2.1,a.2.2.1,a.2.2.2.1,a.2.2.2.2.1,a.2.2.2.2.2.1,a.2.2.2.2.2.2.1,a.2.2.2.2.2.2.2] e) (oI [a.1,a.2.1,a.2.2.1,a.2.2.2.1,a.2.2.2.2.1,a.2.2.2.2.2.1,a.2.2.2.2.2.2.1,a.2.2.2.2.2.2.2] (c.length:Int) e f) ((c++[[]]).set ((c.length:Int).toNat) (((c++[[]]).getD ((c.length:Int).toNat) [])++[b.getD (d.toNat*3) 0,b.getD ((d.toNat*3)+1) 0,b.getD ((d.toNat*3)+2) 0])) b g
         else none
        else none
       else none
      else none
     else none
    else
    bif (decide (0≤(vE [a.1,a.2.1,a.2.2.1,a.2.2.2.1,a.2.2.2.2.1,a.2.2.2.2.2.1,a.2.2.2.2.2.2.1,a.2.2.2.2.2.2.2] e f)))&&(decide ((vE [a.1,a.2.1,a.2.2.1,a.2.2.2.1,a.2.2.2.2.1,a.2.2.2.2.2.1,a.2.2.2.2.2.2.1,a.2.2.2.2.2.2.2] e f)<(c.length:Int)))then
     bif zA ((((c.getD ((vE [a.1,a.2.1,a.2.2.1,a.2.2.2.1,a.2.2.2.2.1,a.2.2.2.2.2.1,a.2.2.2.2.2.2.1,a.2.2.2.2.2.2.2] e f).toNat) []).length)+3)/3) 24 then
      bif (decide (0≤(vE [a.1,a.2.1,a.2.2.1,a.2.2.2.1,a.2.2.2.2.1,a.2.2.2.2.2.1,a.2.2.2.2.2.2.1,a.2.2.2.2.2.2.2] e f)))&&(decide ((vE [a.1,a.2.1,a.2.2.1,a.2.2.2.1,a.2.2.2.2.1,a.2.2.2.2.2.1,a.2.2.2.2.2.2.1,a.2.2.2.2.2.2.2] e f)<(c.length:Int)))then
       bif Nat.beq ((vE [a.1,a.2.1,a.2.2.1,a.2.2.2.1,a.2.2.2.2.1,a.2.2.2.2.2.1,a.2.2.2.2.2.2.1,a.2.2.2.2.2.2.2] e f).toNat) ((vE [a.1,a.2.1,a.2.2.1,a.2.2.2.1,a.2.2.2.2.1,a.2.2.2.2.2.1,a.2.2.2.2.2.2.1,a.2.2.2.2.2.2.2] e f).toNat)then
        Q93.l8 N n h i (aA (d+1)) e f (c.set ((vE [a.1,a.2.1,a.2.2.1,a.2.2.2.1,a.2.2.2.2.1,a.2.2.2.2.2.1,a.2.2.2.2.2.2.1,a.2.2.2.2.2.2.2] e f).toNat) ((c.getD ((vE [a.1,a.2.1,a.2.2.1,a.2.2.2.1,a.2.2.2.2.1,a.2.2.2.2.2.1,a.2.2.2.2.2.2.1,a.2.2.2.2.2.2.2] e f).toNat) [])++[b.getD (d.toNat*3) 0,b.getD ((d.toNat*3)+1) 0,b.getD ((d.toNat*3)+2) 0])) b g
       else none
      else none
     else none
    else none
   else none
  else
  g c
noncomputable def Q93.f (N:Nat)(c:Int):Option (List (List Int)×Int):=
 (Q75.f N c).bind fun a=>
 bif a.2 != 0 then
  some ([],a.2)
 else
 (Q83.f N c).bind fun d=>
 Q93.l8 N N d (a.1.length/3:Int) 0 [] [] [] a.1
  (fun b=>
   some (b,0))
noncomputable def Q93.h8:bD:=⟨[(6,.il .i64 1),(7,.any),(8,.nrow .i64 3),(25,.row .i64 3),(26,.any),(27,.any)],[(8,.nrow .i64 3)]⟩
noncomputable def Q93.c8 (N:Nat):iI:=⟨fun vs H k=>match vs,H with
 | [.il .i64 1 c,.mref 0,.sw 1 1,.sw 2 3,.c (.int .i64 d),.c (.int .i64 e)],[.mp .i64 8 f (.ints .i64 g),.nw .i64 3 h none,.ints .i64 a]=>Q93.l8 N N c d e f g h a (fun b=>k (.exit 0) ⟨yC Q93.h8.out [.sw 0 1],[.nw .i64 3 b none]⟩)
 |_,_=>none⟩
noncomputable def Q93.E (N:Nat):rC:=yE [(3,tn),(23,kK),(40,bp),(43,cU),(59,zq),(64,D5)] [(41,Q75.ent N),(31,Q83.ent N),(32,Q85.ent N),(3000043,nu)] [(8,Q93.h8)] [(8,Q93.c8 N)] N [.tmp 2,.tmp 3] [.inl .i64 3,.any] 0 62
noncomputable def Q93.b8:Code:=qA ((fA (bo Try.f16)).getD 0 .skip)
theorem Q93.l8_eq {R:Type}(N n:Nat)(c:List Int)(d e:Int)(f:List (List Int))(g:List Int)(h:List (List Int))(a:List Int)(k:Ex→St→Option R):
  iB 0 Q93.h8 (fun s k=>eB (Q93.E N) 390 Q93.b8 s k) n [.il .i64 1 c,.mref 0,.sw 1 1,.sw 2 3,.c (.int .i64 d),.c (.int .i64 e)] [.mp .i64 8 f (.ints .i64 g),.nw .i64 3 h none,.ints .i64 a] k=Q93.l8 N n c d e f g h a (fun b=>k (.exit 0) ⟨yC Q93.h8.out [.sw 0 1],[.nw .i64 3 b none]⟩):=by
 induction n generalizing c d e f g h a with
 |zero=>kernel_rfl
 |succ n ih=>
  simp only[Q93.l8,←ih]
  kernel_rfl
noncomputable def Q93.dec (v:V)(bs:List mA):Option (List (List Int)×Int):=match v,bs with
 | .tup [.inl .i64 3 a,.c (.int .i64 b)],[]=>some (a,b)
 |_,_=>none
theorem Q93.f_eq (N:Nat)(a:Int):
  bB (Q93.E N) (bo Try.f16) [.c (.int .i64 a)] [] Q93.dec=Q93.f N a:=by kernel_rfl
noncomputable def Q93.ent (N:Nat):wA:=eF (List (List Int)×Int) 0 [true] [.any] fun
 | [.c (.int .i64 a)]=>some (Q93.f N a,fun r=>.one (.tup [.inl .i64 3 r.1,.c (.int .i64 r.2)]) [])
 |_=>none
theorem Q93.env (N:Nat):aB Try.prog (Q93.E N):=⟨(.cons fI (.cons rD (.cons dK (.cons fH (.cons qU (.cons pv .nil)))))),(.cons (Q75.ent_ok N) (.cons (Q83.ent_ok N) (.cons (Q85.ent_ok N) (.cons (mW (f:=3000043)) .nil))))⟩
theorem Q93.k8 (N:Nat):xB Try.prog Try.f16 (Q93.E N) (.loop Q93.b8):=tC (Q93.env N) dA 390 (c:=Q93.c8 N) cA.n fun R vs H k r h=>by unfold Q93.c8 at h;dsimp only at h;split at h;exact⟨_,Q93.l8_eq .. ▸h⟩;cases h
theorem Q93.spec (N:Nat)(a:Int)(r:List (List Int)×Int)(h:Q93.f N a=some r):iA Try.prog 16 [.c (.int .i64 a)] [] (.tup [.inl .i64 3 r.1,.c (.int .i64 r.2)]) ([]):=sA (Q93.env N) dA Try.func16 (cA.of (l:=[(.loop (qA ((fA (bo Try.f16)).getD 0 .skip)))]) (by kernel_rfl) (cA.cons (Q93.k8 N) cA.nil)) ((Q93.f_eq ..).trans h) fun v b e=>by unfold Q93.dec at e;split at e<;>cases e;exact⟨rfl,rfl⟩
theorem Q93.ent_ok (N:Nat):oA Try.prog 16 (Q93.ent N):=xA fun v a e h=>by split at h;exact eC (Q:=fun e=>iA _ _ _ _ (e a).pick.1 (e a).pick.2) h fun k=>Q93.spec N _ a k;cases h
noncomputable def Q94.f (N:Nat)(b:Int):Option (List Int×Int):=
 (Q93.f N b).bind fun a=>
 bif a.2 != 0 then
  some ([],a.2)
 else
 bif decide (0<(a.1.length:Int))then
  some (a.1.getD 0 [],0)
 else none
noncomputable def Q94.E (N:Nat):rC:=yE [(40,bp),(43,cU)] [(16,Q93.ent N)] [] [] N [.tmp 2,.tmp 3] [.il .i64 3,.any] 0 17
noncomputable def Q94.dec (v:V)(bs:List mA):Option (List Int×Int):=match v,bs with
 | .tup [.il .i64 3 a,.c (.int .i64 b)],[]=>some (a,b)
 |_,_=>none
theorem Q94.f_eq (N:Nat)(a:Int):
  bB (Q94.E N) (bo Try.f17) [.c (.int .i64 a)] [] Q94.dec=Q94.f N a:=by kernel_rfl
noncomputable def Q94.ent (N:Nat):wA:=eF (List Int×Int) 0 [true] [.any] fun
 | [.c (.int .i64 a)]=>some (Q94.f N a,fun r=>.one (.tup [.il .i64 3 r.1,.c (.int .i64 r.2)]) [])
 |_=>none
theorem Q94.env (N:Nat):aB Try.prog (Q94.E N):=⟨(.cons dK (.cons fH .nil)),(.cons (Q93.ent_ok N) .nil)⟩
theorem Q94.spec (N:Nat)(a:Int)(r:List Int×Int)(h:Q94.f N a=some r):iA Try.prog 17 [.c (.int .i64 a)] [] (.tup [.il .i64 3 r.1,.c (.int .i64 r.2)]) ([]):=sA (Q94.env N) dA Try.func17 cA.n ((Q94.f_eq ..).trans h) fun v b e=>by unfold Q94.dec at e;split at e<;>cases e;exact⟨rfl,rfl⟩
theorem Q94.ent_ok (N:Nat):oA Try.prog 17 (Q94.ent N):=xA fun v a e h=>by split at h;exact eC (Q:=fun e=>iA _ _ _ _ (e a).pick.1 (e a).pick.2) h fun k=>Q94.spec N _ a k;cases h
noncomputable def Q95.l11 {R:Type}(N:Nat):Nat→List Int→Int→List Int→Int→List (List Int)→List Bool→List Int→(List Int→Int→List (List Int)→List Bool→List Int→Option R)→Option R
 |0,_,_,_,_,_,_,_,_=>none
 |n+1,b,j,e,a,f,c,d,g=>
  bif decide (a<(b.length/3:Int))then
   bif (decide (0≤a))&&(decide (a<(b.length/3:Int)))then
    (Q91.f N (b.getD (a.toNat*3) 0) (b.getD ((a.toNat*3)+1) 0) (b.getD ((a.toNat*3)+2) 0)).bind fun h=>
    (Q92.f N h e).bind fun i=>
    bif i then
     bif (decide (0≤a))&&(decide (a<(b.length/3:Int)))then
      bif zA ((d.length+3)/3) 24 then
       bif (decide (0≤a))&&(decide (a<(c.length:Int)))then
        Q95.l11 N n b j e (aA (a+1)) f (c.set a.toNat true) (d++[b.getD (a.toNat*3) 0,b.getD ((a.toNat*3)+1) 0,b.getD ((a.toNat*3)+2) 0]) g
       else none
      else none
     else none
    else
    Q95.l11 N n b j e (aA (a+1)) f c d g
   else none
  else
  g b j f c d
noncomputable def Q95.l5 {R:Type}(N:Nat):Nat→List Int→Int→List (List Int)→List Bool→(List (List Int)→Option R)→Option R
 |0,_,_,_,_,_=>none
 |n+1,b,a,f,d,e=>
  bif decide (a<(b.length/3:Int))then
   bif (decide (0≤a))&&(decide (a<(d.length:Int)))then
    bif d.getD a.toNat false then
     Q95.l5 N n b (aA (a+1)) f d e
    else
    bif (decide (0≤a))&&(decide (a<(b.length/3:Int)))then
     (Q91.f N (b.getD (a.toNat*3) 0) (b.getD ((a.toNat*3)+1) 0) (b.getD ((a.toNat*3)+2) 0)).bind fun k=>
     Q95.l11 N N b a k a f d []
      (fun g h c i j=>
       bif zA (c.length+1) 24 then
        Q95.l5 N n g (aA (h+1)) (c++[j]) i e
       else none)
    else none
   else none
  else
  e f
noncomputable def Q95.f (N:Nat)(c:Int):Option (List (List Int)):=
 (Q72.f N c).bind fun a=>
 bif decide ((a.length/3:Int)=(a.length/3:Int))&&decide (0≤(a.length/3:Int))&&decide ((a.length/3:Int)≤9223372036854775807)&&zA ((a.length/3:Int).toNat) 1 then
  Q95.l5 N N a 0 [] (List.replicate ((a.length/3:Int).toNat) false)
   (fun b=>
    some b)
 else none
noncomputable def Q95.h5:bD:=⟨[(3,.nrow .i64 3),(4,.il .i64 3),(5,.any),(6,.any)],[(3,.nrow .i64 3)]⟩
noncomputable def Q95.h11:bD:=⟨[(3,.nrow .i64 3),(4,.il .i64 3),(5,.any),(6,.any),(7,.row .i64 3),(8,.il .i64 1),(9,.any)],[(3,.nrow .i64 3),(4,.il .i64 3),(5,.any),(6,.any),(7,.row .i64 3)]⟩
noncomputable def Q95.c11 (N:Nat):iI:=⟨fun vs H k=>match vs,H with
 | [.sw 0 1,.il .i64 3 l,.sw 1 1,.c (.int .i64 m),.sw 2 3,.il .i64 1 a,.c (.int .i64 b)],[.nw .i64 3 c none,.bls d,.ints .i64 e]=>Q95.l11 N N l m a b c d e (fun f g h i j=>k (.exit 2) ⟨yC Q95.h11.out [.sw 0 1,.il .i64 3 f,.sw 1 1,.c (.int .i64 g),.sw 2 3],[.nw .i64 3 h none,.bls i,.ints .i64 j]⟩)
 |_,_=>none⟩
noncomputable def Q95.c5 (N:Nat):iI:=⟨fun vs H k=>match vs,H with
 | [.sw 0 1,.il .i64 3 b,.sw 1 1,.c (.int .i64 c)],[.nw .i64 3 d none,.bls e]=>Q95.l5 N N b c d e (fun a=>k (.exit 0) ⟨yC Q95.h5.out [.sw 0 1],[.nw .i64 3 a none]⟩)
 |_,_=>none⟩
noncomputable def Q95.E (N:Nat):rC:=yE [(4,tq),(23,kK),(40,bp),(43,cU),(67,E0)] [(42,Q72.ent N),(13,Q91.ent N),(43,Q92.ent N)] [(5,Q95.h5),(11,Q95.h11)] [(11,Q95.c11 N),(5,Q95.c5 N)] N [.tmp 2] [.inl .i64 3] 0 63
noncomputable def Q95.b11:Code:=qA ((fA (bo Try.f19)).getD 1 .skip)
theorem Q95.l11_eq {R:Type}(N n:Nat)(l:List Int)(m:Int)(a:List Int)(b:Int)(c:List (List Int))(d:List Bool)(e:List Int)(k:Ex→St→Option R):
  iB 0 Q95.h11 (fun s k=>eB (Q95.E N) 382 Q95.b11 s k) n [.sw 0 1,.il .i64 3 l,.sw 1 1,.c (.int .i64 m),.sw 2 3,.il .i64 1 a,.c (.int .i64 b)] [.nw .i64 3 c none,.bls d,.ints .i64 e] k=Q95.l11 N n l m a b c d e (fun f g h i j=>k (.exit 2) ⟨yC Q95.h11.out [.sw 0 1,.il .i64 3 f,.sw 1 1,.c (.int .i64 g),.sw 2 3],[.nw .i64 3 h none,.bls i,.ints .i64 j]⟩):=by
 induction n generalizing l m a b c d e with
 |zero=>kernel_rfl
 |succ n ih=>
  simp only[Q95.l11,←ih]
  kernel_rfl
noncomputable def Q95.b5:Code:=qA ((fA (bo Try.f19)).getD 0 .skip)
theorem Q95.l5_eq {R:Type}(N n:Nat)(b:List Int)(c:Int)(d:List (List Int))(e:List Bool)(k:Ex→St→Option R):
  iB 0 Q95.h5 (fun s k=>eB (Q95.E N) 392 Q95.b5 s k) n [.sw 0 1,.il .i64 3 b,.sw 1 1,.c (.int .i64 c)] [.nw .i64 3 d none,.bls e] k=Q95.l5 N n b c d e (fun a=>k (.exit 0) ⟨yC Q95.h5.out [.sw 0 1],[.nw .i64 3 a none]⟩):=by
 induction n generalizing b c d e with
 |zero=>kernel_rfl
 |succ n ih=>
  simp only[Q95.l5,←ih]
  kernel_rfl
noncomputable def Q95.dec (v:V)(bs:List mA):Option (List (List Int)):=match v,bs with
 | .inl .i64 3 a,[]=>some a
 |_,_=>none
theorem Q95.f_eq (N:Nat)(a:Int):
  bB (Q95.E N) (bo Try.f19) [.c (.int .i64 a)] [] Q95.dec=Q95.f N a:=by kernel_rfl
noncomputable def Q95.ent (N:Nat):wA:=eF (List (List Int)) 0 [true] [.any] fun
 | [.c (.int .i64 a)]=>some (Q95.f N a,fun r=>.one (.inl .i64 3 r) [])
 |_=>none
theorem Q95.env (N:Nat):aB Try.prog (Q95.E N):=⟨(.cons gI (.cons rD (.cons dK (.cons fH (.cons Be .nil))))),(.cons (Q72.ent_ok N) (.cons (Q91.ent_ok N) (.cons (Q92.ent_ok N) .nil)))⟩
theorem Q95.k11 (N:Nat):xB Try.prog Try.f19 (Q95.E N) (.loop Q95.b11):=tC (Q95.env N) dA 382 (c:=Q95.c11 N) cA.n fun R vs H k r h=>by unfold Q95.c11 at h;dsimp only at h;split at h;exact⟨_,Q95.l11_eq .. ▸h⟩;cases h
theorem Q95.k5 (N:Nat):xB Try.prog Try.f19 (Q95.E N) (.loop Q95.b5):=tC (Q95.env N) dA 392 (c:=Q95.c5 N) (cA.of (l:=[(.loop (qA ((fA (bo Try.f19)).getD 1 .skip)))]) (by kernel_rfl) (cA.cons (Q95.k11 N) cA.nil)) fun R vs H k r h=>by unfold Q95.c5 at h;dsimp only at h;split at h;exact⟨_,Q95.l5_eq .. ▸h⟩;cases h
theorem Q95.spec (N:Nat)(a:Int)(r:List (List Int))(h:Q95.f N a=some r):iA Try.prog 19 [.c (.int .i64 a)] [] (.inl .i64 3 r) ([]):=sA (Q95.env N) dA Try.func19 (cA.of (l:=[(.loop (qA ((fA (bo Try.f19)).getD 0 .skip))),(.loop (qA ((fA (bo Try.f19)).getD 1 .skip)))]) (by kernel_rfl) (cA.cons (Q95.k5 N) (cA.cons (Q95.k11 N) cA.nil))) ((Q95.f_eq ..).trans h) fun v b e=>by unfold Q95.dec at e;split at e<;>cases e;exact⟨rfl,rfl⟩
theorem Q95.ent_ok (N:Nat):oA Try.prog 19 (Q95.ent N):=xA fun v a e h=>by split at h;exact eC (Q:=fun e=>iA _ _ _ _ (e a).pick.1 (e a).pick.2) h fun k=>Q95.spec N _ a k;cases h
noncomputable def Q96.l9 {R:Type}(N:Nat):Nat→List (List Int)→List (List Int)→Int→Int→(List (List Int)→List (List Int)→Int→Option R)→(Bool→Option R)→Option R
 |0,_,_,_,_,_,_=>none
 |n+1,c,d,b,a,e,kr=>
  bif (decide (0≤b))&&(decide (b<(c.length:Int)))then
   bif decide (a<(((c.getD b.toNat []).length)/3:Int))then
    bif (decide (0≤b))&&(decide (b<(c.length:Int)))then
     bif (decide (0≤a))&&(decide (a<(((c.getD b.toNat []).length)/3:Int)))then
      bif (decide (0≤b))&&(decide (b<(d.length:Int)))then
       bif (decide (0≤a))&&(decide (a<(((d.getD b.toNat []).length)/3:Int)))then
        bif !((((c.getD b.toNat []).getD (a.toNat*3) 0)==((d.getD b.toNat []).getD (a.toNat*3) 0))&&((((c.getD b.toNat []).getD ((a.toNat*3)+1) 0)==((d.getD b.toNat []).getD ((a.toNat*3)+1) 0))&&(((c.getD b.toNat []).getD ((a.toNat*3)+2) 0)==((d.getD b.toNat []).getD ((a.toNat*3)+2) 0))))then
         kr false
        else
        Q96.l9 N n c d b (aA (a+1)) e kr
       else none
      else none
     else none
    else none
   else
   e c d b
  else none
noncomputable def Q96.l4 {R:Type}(N:Nat):Nat→List (List Int)→List (List Int)→Int→(Unit→Option R)→(Bool→Option R)→Option R
 |0,_,_,_,_,_=>none
 |n+1,b,c,a,h,kr=>
  bif decide (a<(b.length:Int))then
   bif (decide (0≤a))&&(decide (a<(b.length:Int)))then
    bif (decide (0≤a))&&(decide (a<(c.length:Int)))then
     bif (((b.getD a.toNat []).length)/3:Int) != (((c.getD a.toNat []).length)/3:Int)then
      kr false
     else
     Q96.l9 N N b c a 0
      (fun d e f=>
       Q96.l4 N n d e (aA (f+1)) h kr)
      (fun g=>
       kr g)
    else none
   else none
  else
  h ()
noncomputable def Q96.f (N:Nat)(b c:List (List Int)):Option (Bool):=
 bif (b.length:Int) != (c.length:Int)then
  some false
 else
 Q96.l4 N N b c 0
  (fun(_:Unit)=>
   some true)
  (fun a=>
   some a)
noncomputable def Q96.h4:bD:=⟨[(0,.inl .i64 3),(1,.inl .i64 3),(5,.any)],[]⟩
noncomputable def Q96.h9:bD:=⟨[(0,.inl .i64 3),(1,.inl .i64 3),(5,.any),(6,.any)],[(0,.inl .i64 3),(1,.inl .i64 3),(5,.any)]⟩
noncomputable def Q96.c9 (N:Nat):iI:=⟨fun vs H k=>match vs,H with
 | [.inl .i64 3 f,.inl .i64 3 g,.c (.int .i64 h),.c (.int .i64 a)],[]=>Q96.l9 N N f g h a (fun c d e=>k (.exit 2) ⟨yC Q96.h9.out [.inl .i64 3 c,.inl .i64 3 d,.c (.int .i64 e)],[]⟩) (fun b=>k (.ret (.c (.bool b)) []) .nil)
 |_,_=>none⟩
noncomputable def Q96.c4 (N:Nat):iI:=⟨fun vs H k=>match vs,H with
 | [.inl .i64 3 a,.inl .i64 3 b,.c (.int .i64 c)],[]=>Q96.l4 N N a b c (fun(_:Unit)=>k (.exit 0) ⟨yC Q96.h4.out [],[]⟩) (fun d=>k (.ret (.c (.bool d)) []) .nil)
 |_,_=>none⟩
noncomputable def Q96.E (N:Nat):rC:=yE [(2,nS),(23,kK),(40,bp),(43,cU)] [] [(4,Q96.h4),(9,Q96.h9)] [(9,Q96.c9 N),(4,Q96.c4 N)] N [.tmp 4] [.any] 0 53
noncomputable def Q96.b9:Code:=qA ((fA (bo Try.f22)).getD 1 .skip)
theorem Q96.l9_eq {R:Type}(N n:Nat)(f g:List (List Int))(h a:Int)(k:Ex→St→Option R):
  iB 0 Q96.h9 (fun s k=>eB (Q96.E N) 387 Q96.b9 s k) n [.inl .i64 3 f,.inl .i64 3 g,.c (.int .i64 h),.c (.int .i64 a)] [] k=Q96.l9 N n f g h a (fun c d e=>k (.exit 2) ⟨yC Q96.h9.out [.inl .i64 3 c,.inl .i64 3 d,.c (.int .i64 e)],[]⟩) (fun b=>k (.ret (.c (.bool b)) []) .nil):=by
 induction n generalizing f g h a with
 |zero=>kernel_rfl
 |succ n ih=>
  simp only[Q96.l9,←ih]
  kernel_rfl
noncomputable def Q96.b4:Code:=qA ((fA (bo Try.f22)).getD 0 .skip)
theorem Q96.l4_eq {R:Type}(N n:Nat)(a b:List (List Int))(c:Int)(k:Ex→St→Option R):
  iB 0 Q96.h4 (fun s k=>eB (Q96.E N) 394 Q96.b4 s k) n [.inl .i64 3 a,.inl .i64 3 b,.c (.int .i64 c)] [] k=Q96.l4 N n a b c (fun(_:Unit)=>k (.exit 0) ⟨yC Q96.h4.out [],[]⟩) (fun d=>k (.ret (.c (.bool d)) []) .nil):=by
 induction n generalizing a b c with
 |zero=>kernel_rfl
 |succ n ih=>
  simp only[Q96.l4,←ih]
  kernel_rfl
noncomputable def Q96.dec (v:V)(bs:List mA):Option (Bool):=match v,bs with
 | .c (.bool a),[]=>some a
 |_,_=>none
theorem Q96.f_eq (N:Nat)(a b:List (List Int)):
  bB (Q96.E N) (bo Try.f22) [.inl .i64 3 a,.inl .i64 3 b] [] Q96.dec=Q96.f N a b:=by kernel_rfl
noncomputable def Q96.ent (N:Nat):wA:=eF (Bool) 0 [true,true] [.inl .i64 3,.inl .i64 3] fun
 | [.inl .i64 3 a,.inl .i64 3 b]=>some (Q96.f N a b,fun r=>.one (.c (.bool r)) [])
 |_=>none
theorem Q96.env (N:Nat):aB Try.prog (Q96.E N):=⟨(.cons lD (.cons rD (.cons dK (.cons fH .nil)))),.nil⟩
theorem Q96.k9 (N:Nat):xB Try.prog Try.f22 (Q96.E N) (.loop Q96.b9):=tC (Q96.env N) dA 387 (c:=Q96.c9 N) cA.n fun R vs H k r h=>by unfold Q96.c9 at h;dsimp only at h;split at h;exact⟨_,Q96.l9_eq .. ▸h⟩;cases h
theorem Q96.k4 (N:Nat):xB Try.prog Try.f22 (Q96.E N) (.loop Q96.b4):=tC (Q96.env N) dA 394 (c:=Q96.c4 N) (cA.of (l:=[(.loop (qA ((fA (bo Try.f22)).getD 1 .skip)))]) (by kernel_rfl) (cA.cons (Q96.k9 N) cA.nil)) fun R vs H k r h=>by unfold Q96.c4 at h;dsimp only at h;split at h;exact⟨_,Q96.l4_eq .. ▸h⟩;cases h
theorem Q96.spec (N:Nat)(a c:List (List Int))(r:Bool)(h:Q96.f N a c=some r):iA Try.prog 22 [.inl .i64 3 a,.inl .i64 3 c] [] (.c (.bool r)) ([]):=sA (Q96.env N) dA Try.func22 (cA.of (l:=[(.loop (qA ((fA (bo Try.f22)).getD 0 .skip))),(.loop (qA ((fA (bo Try.f22)).getD 1 .skip)))]) (by kernel_rfl) (cA.cons (Q96.k4 N) (cA.cons (Q96.k9 N) cA.nil))) ((Q96.f_eq ..).trans h) fun v b e=>by unfold Q96.dec at e;split at e<;>cases e;exact⟨rfl,rfl⟩
theorem Q96.ent_ok (N:Nat):oA Try.prog 22 (Q96.ent N):=xA fun v a e h=>by split at h;exact eC (Q:=fun e=>iA _ _ _ _ (e a).pick.1 (e a).pick.2) h fun k=>Q96.spec N _ _ a k;cases h
noncomputable def Q97.f (N:Nat)(a b:List Int):Option (Bool):=
 (Q96.f N [a] [b]).bind fun c=>
 some c
noncomputable def Q97.E (N:Nat):rC:=yE [(40,bp),(43,cU)] [(22,Q96.ent N)] [] [] N [.tmp 4] [.any] 0 10
noncomputable def Q97.dec (v:V)(bs:List mA):Option (Bool):=match v,bs with
 | .c (.bool a),[]=>some a
 |_,_=>none
theorem Q97.f_eq (N:Nat)(a b:List Int):
  bB (Q97.E N) (bo Try.f23) [.il .i64 3 a,.il .i64 3 b] [] Q97.dec=Q97.f N a b:=by kernel_rfl
noncomputable def Q97.ent (N:Nat):wA:=eF (Bool) 0 [true,true] [.il .i64 3,.il .i64 3] fun
 | [.il .i64 3 a,.il .i64 3 b]=>some (Q97.f N a b,fun r=>.one (.c (.bool r)) [])
 |_=>none
theorem Q97.env (N:Nat):aB Try.prog (Q97.E N):=⟨(.cons dK (.cons fH .nil)),(.cons (Q96.ent_ok N) .nil)⟩
theorem Q97.spec (N:Nat)(a c:List Int)(r:Bool)(h:Q97.f N a c=some r):iA Try.prog 23 [.il .i64 3 a,.il .i64 3 c] [] (.c (.bool r)) ([]):=sA (Q97.env N) dA Try.func23 cA.n ((Q97.f_eq ..).trans h) fun v b e=>by unfold Q97.dec at e;split at e<;>cases e;exact⟨rfl,rfl⟩
theorem Q97.ent_ok (N:Nat):oA Try.prog 23 (Q97.ent N):=xA fun v a e h=>by split at h;exact eC (Q:=fun e=>iA _ _ _ _ (e a).pick.1 (e a).pick.2) h fun k=>Q97.spec N _ _ a k;cases h
noncomputable def Q98.l4 {R:Type}(N:Nat):Nat→List Int→List Int→Int→Int→(Unit→Option R)→(Bool→Option R)→Option R
 |0,_,_,_,_,_,_=>none
 |n+1,b,c,e,a,d,kr=>
  bif decide (a<e)then
   bif (decide (0≤a))&&(decide (a<(b.length:Int)))then
    bif (decide (0≤a))&&(decide (a<(c.length:Int)))then
     bif (b.getD a.toNat 0) != (c.getD a.toNat 0)then
      kr false
     else
     Q98.l4 N n b c e (aA (a+1)) d kr
    else none
   else none
  else
  d ()
noncomputable def Q98.f (N:Nat)(a b:List Int):Option (Bool):=
 bif (a.length:Int) != (b.length:Int)then
  some false
 else
 Q98.l4 N N a b (a.length:Int) 0
  (fun(_:Unit)=>
   some true)
  (fun c=>
   some c)
noncomputable def Q98.h4:bD:=⟨[(0,.il .i64 1),(1,.il .i64 1),(12,.any),(13,.any)],[]⟩
noncomputable def Q98.c4 (N:Nat):iI:=⟨fun vs H k=>match vs,H with
 | [.il .i64 1 a,.il .i64 1 b,.c (.int .i64 c),.c (.int .i64 d)],[]=>Q98.l4 N N a b c d (fun(_:Unit)=>k (.exit 0) ⟨yC Q98.h4.out [],[]⟩) (fun e=>k (.ret (.c (.bool e)) []) .nil)
 |_,_=>none⟩
noncomputable def Q98.E (N:Nat):rC:=yE [(3,tn),(24,me)] [] [(4,Q98.h4)] [(4,Q98.c4 N)] N [.tmp 4] [.any] 0 26
noncomputable def Q98.b4:Code:=qA ((fA (bo Try.f14)).getD 0 .skip)
theorem Q98.l4_eq {R:Type}(N n:Nat)(a b:List Int)(c d:Int)(k:Ex→St→Option R):
  iB 0 Q98.h4 (fun s k=>eB (Q98.E N) 394 Q98.b4 s k) n [.il .i64 1 a,.il .i64 1 b,.c (.int .i64 c),.c (.int .i64 d)] [] k=Q98.l4 N n a b c d (fun(_:Unit)=>k (.exit 0) ⟨yC Q98.h4.out [],[]⟩) (fun e=>k (.ret (.c (.bool e)) []) .nil):=by
 induction n generalizing a b c d with
 |zero=>kernel_rfl
 |succ n ih=>
  simp only[Q98.l4,←ih]
  kernel_rfl
noncomputable def Q98.dec (v:V)(bs:List mA):Option (Bool):=match v,bs with
 | .c (.bool a),[]=>some a
 |_,_=>none
theorem Q98.f_eq (N:Nat)(a b:List Int):
  bB (Q98.E N) (bo Try.f14) [.il .i64 1 a,.il .i64 1 b] [] Q98.dec=Q98.f N a b:=by kernel_rfl
noncomputable def Q98.ent (N:Nat):wA:=eF (Bool) 0 [true,true] [.il .i64 1,.il .i64 1] fun
 | [.il .i64 1 a,.il .i64 1 b]=>some (Q98.f N a b,fun r=>.one (.c (.bool r)) [])
 |_=>none
theorem Q98.env (N:Nat):aB Try.prog (Q98.E N):=⟨(.cons fI (.cons iO .nil)),.nil⟩
theorem Q98.k4 (N:Nat):xB Try.prog Try.f14 (Q98.E N) (.loop Q98.b4):=tC (Q98.env N) dA 394 (c:=Q98.c4 N) cA.n fun R vs H k r h=>by unfold Q98.c4 at h;dsimp only at h;split at h;exact⟨_,Q98.l4_eq .. ▸h⟩;cases h
theorem Q98.spec (N:Nat)(a c:List Int)(r:Bool)(h:Q98.f N a c=some r):iA Try.prog 14 [.il .i64 1 a,.il .i64 1 c] [] (.c (.bool r)) ([]):=sA (Q98.env N) dA Try.func14 (cA.of (l:=[(.loop (qA ((fA (bo Try.f14)).getD 0 .skip)))]) (by kernel_rfl) (cA.cons (Q98.k4 N) cA.nil)) ((Q98.f_eq ..).trans h) fun v b e=>by unfold Q98.dec at e;split at e<;>cases e;exact⟨rfl,rfl⟩
theorem Q98.ent_ok (N:Nat):oA Try.prog 14 (Q98.ent N):=xA fun v a e h=>by split at h;exact eC (Q:=fun e=>iA _ _ _ _ (e a).pick.1 (e a).pick.2) h fun k=>Q98.spec N _ _ a k;cases h
noncomputable def Q99.l4 {R:Type}(N:Nat):Nat→List Int→List Int→Int→Int→(Unit→Option R)→(Bool→Option R)→Option R
 |0,_,_,_,_,_,_=>none
 |n+1,b,c,e,a,d,kr=>
  bif decide (a<e)then
   bif (decide (0≤a))&&(decide (a<(b.length:Int)))then
    bif (decide (0≤a))&&(decide (a<(c.length:Int)))then
     bif (b.getD a.toNat 0) != (c.getD a.toNat 0)then
      kr false
     else
     Q99.l4 N n b c e (aA (a+1)) d kr
    else none
   else none
  else
  d ()
noncomputable def Q99.f (N:Nat)(a b:List Int):Option (Bool):=
 bif (a.length:Int) != (b.length:Int)then
  some false
 else
 Q99.l4 N N a b (a.length:Int) 0
  (fun(_:Unit)=>
   some true)
  (fun c=>
   some c)
noncomputable def Q99.h4:bD:=⟨[(0,.il .i64 1),(1,.il .i64 1),(12,.any),(13,.any)],[]⟩
noncomputable def Q99.c4 (N:Nat):iI:=⟨fun vs H k=>match vs,H with
 | [.il .i64 1 a,.il .i64 1 b,.c (.int .i64 c),.c (.int .i64 d)],[]=>Q99.l4 N N a b c d (fun(_:Unit)=>k (.exit 0) ⟨yC Q99.h4.out [],[]⟩) (fun e=>k (.ret (.c (.bool e)) []) .nil)
 |_,_=>none⟩
noncomputable def Q99.E (N:Nat):rC:=yE [(2,nS),(37,bU)] [] [(4,Q99.h4)] [(4,Q99.c4 N)] N [.tmp 4] [.any] 0 26
noncomputable def Q99.b4:Code:=qA ((fA (bo Try.f20)).getD 0 .skip)
theorem Q99.l4_eq {R:Type}(N n:Nat)(a b:List Int)(c d:Int)(k:Ex→St→Option R):
  iB 0 Q99.h4 (fun s k=>eB (Q99.E N) 394 Q99.b4 s k) n [.il .i64 1 a,.il .i64 1 b,.c (.int .i64 c),.c (.int .i64 d)] [] k=Q99.l4 N n a b c d (fun(_:Unit)=>k (.exit 0) ⟨yC Q99.h4.out [],[]⟩) (fun e=>k (.ret (.c (.bool e)) []) .nil):=by
 induction n generalizing a b c d with
 |zero=>kernel_rfl
 |succ n ih=>
  simp only[Q99.l4,←ih]
  kernel_rfl
noncomputable def Q99.dec (v:V)(bs:List mA):Option (Bool):=match v,bs with
 | .c (.bool a),[]=>some a
 |_,_=>none
theorem Q99.f_eq (N:Nat)(a b:List Int):
  bB (Q99.E N) (bo Try.f20) [.il .i64 1 a,.il .i64 1 b] [] Q99.dec=Q99.f N a b:=by kernel_rfl
noncomputable def Q99.ent (N:Nat):wA:=eF (Bool) 0 [true,true] [.il .i64 1,.il .i64 1] fun
 | [.il .i64 1 a,.il .i64 1 b]=>some (Q99.f N a b,fun r=>.one (.c (.bool r)) [])
 |_=>none
theorem Q99.env (N:Nat):aB Try.prog (Q99.E N):=⟨(.cons lD (.cons eH .nil)),.nil⟩
theorem Q99.k4 (N:Nat):xB Try.prog Try.f20 (Q99.E N) (.loop Q99.b4):=tC (Q99.env N) dA 394 (c:=Q99.c4 N) cA.n fun R vs H k r h=>by unfold Q99.c4 at h;dsimp only at h;split at h;exact⟨_,Q99.l4_eq .. ▸h⟩;cases h
theorem Q99.spec (N:Nat)(a c:List Int)(r:Bool)(h:Q99.f N a c=some r):iA Try.prog 20 [.il .i64 1 a,.il .i64 1 c] [] (.c (.bool r)) ([]):=sA (Q99.env N) dA Try.func20 (cA.of (l:=[(.loop (qA ((fA (bo Try.f20)).getD 0 .skip)))]) (by kernel_rfl) (cA.cons (Q99.k4 N) cA.nil)) ((Q99.f_eq ..).trans h) fun v b e=>by unfold Q99.dec at e;split at e<;>cases e;exact⟨rfl,rfl⟩
theorem Q99.ent_ok (N:Nat):oA Try.prog 20 (Q99.ent N):=xA fun v a e h=>by split at h;exact eC (Q:=fun e=>iA _ _ _ _ (e a).pick.1 (e a).pick.2) h fun k=>Q99.spec N _ _ a k;cases h
noncomputable def Q100.f (N:Nat):Option (Bool):=
 (Q93.f N (-20)).bind fun a=>
 (Q86.f N 2 2 3).bind fun b=>
 (Q87.f N (-96)).bind fun c=>
 bif a.2==0 then
  bif b.2==0 then
   bif c.2==0 then
    bif (a.1.length:Int)==2 then
     bif decide (0<(a.1.length:Int))then
      bif (((a.1.getD 0 []).length)/3:Int)==1 then
       bif decide (0<(a.1.length:Int))then
        bif decide (0<(((a.1.getD 0 []).length)/3:Int))then
         bif (((a.1.getD 0 []).getD 0 0)==1)&&((((a.1.getD 0 []).getD 1 0)==0)&&(((a.1.getD 0 []).getD 2 0)==5))then
          (Q98.f N b.1 [(-1),(-1)]).bind fun d=>
          bif d then
           (Q99.f N c.1 [3,(-4),8]).bind fun e=>
           some e
          else
          some false
         else
         some false
        else none
       else none
      else
      some false
     else none
    else
    some false
   else
   some false
  else
  some false
 else
 some false
noncomputable def Q100.E (N:Nat):rC:=yE [(2,nS),(3,tn),(23,kK),(24,me),(37,bU),(40,bp),(43,cU)] [(16,Q93.ent N),(8,Q86.ent N),(15,Q87.ent N),(14,Q98.ent N),(20,Q99.ent N)] [] [] N [.tmp 0] [.any] 0 61
noncomputable def Q100.dec (v:V)(bs:List mA):Option (Bool):=match v,bs with
 | .c (.bool a),[]=>some a
 |_,_=>none
theorem Q100.f_eq (N:Nat):
  bB (Q100.E N) (bo Try.f12) [] [] Q100.dec=Q100.f N:=by kernel_rfl
noncomputable def Q100.ent (N:Nat):wA:=eF (Bool) 0 [] [] fun
 | []=>some (Q100.f N,fun r=>.one (.c (.bool r)) [])
 |_=>none
theorem Q100.env (N:Nat):aB Try.prog (Q100.E N):=⟨(.cons lD (.cons fI (.cons rD (.cons iO (.cons eH (.cons dK (.cons fH .nil))))))),(.cons (Q93.ent_ok N) (.cons (Q86.ent_ok N) (.cons (Q87.ent_ok N) (.cons (Q98.ent_ok N) (.cons (Q99.ent_ok N) .nil)))))⟩
theorem Q100.spec (N:Nat)(r:Bool)(h:Q100.f N=some r):iA Try.prog 12 [] [] (.c (.bool r)) ([]):=sA (Q100.env N) dA Try.func12 cA.n ((Q100.f_eq ..).trans h) fun v b e=>by unfold Q100.dec at e;split at e<;>cases e;exact⟨rfl,rfl⟩
theorem Q100.ent_ok (N:Nat):oA Try.prog 12 (Q100.ent N):=xA fun v a e h=>by split at h;exact eC (Q:=fun e=>iA _ _ _ _ (e a).pick.1 (e a).pick.2) h fun k=>Q100.spec N a k;cases h
noncomputable def Q105.f (N:Nat)(c d e:Int):Option (Nat×Nat×List Int×Int):=
 (Q38.f N c d e).bind fun f=>
 bif f != 0 then
  some (0,0,[],f)
 else
 (Q37.f N c d e).bind fun g=>
 bif decide (g<(-65536))then
  some (0,0,[],80)
 else
 (Q41.f N c d e).bind fun h=>
 bif h != 1 then
  some (0,0,[],81)
 else
 (Q37.f N c d e).bind fun i=>
 (Q83.f N i).bind fun b=>
 (Q85.f N c d e b).bind fun a=>
 bif ((decide (0≤(b.length:Int)))&&(decide ((b.length:Int)≤(b.length:Int))))&&(decide ((b.length:Int)≤8))then
  some (0,(b.length:Int).toNat,[a.1,a.2.1,a.2.2.1,a.2.2.2.1,a.2.2.2.2.1,a.2.2.2.2.2.1,a.2.2.2.2.2.2.1,a.2.2.2.2.2.2.2],0)
 else none
noncomputable def Q106.l8 {R:Type}(N:Nat):Nat→List Int→Int→Int→List (List Int)→List Int→List (List Int)→List Int→(List (List Int)→Option R)→Option R
 |0,_,_,_,_,_,_,_,_=>none
 |n+1,h,i,d,e,f,c,b,g=>
  bif decide (d<i)then
   bif (decide (0≤d))&&(decide (d<(b.length/3:Int)))then
    (Q85.f N (b.getD (d.toNat*3) 0) (b.getD ((d.toNat*3)+1) 0) (b.getD ((d.toNat*3)+2) 0) h).bind fun a=>
    bif !(eJ [a.1,a.2.1,a.2.2.1,a.2.2.2.1,a.2.2.2.2.1,a.2.2.2.2.2.1,a.2.2.2.2.2.2.1,a.2.2.2.2.2.2.2] e)then
     bif zA (c.length+1) 24 then
      bif (decide (0≤(c.length:Int)))&&(decide ((c.length:Int)<((c++[[]]).length:Int)))then
       bif zA (((((c++[[]]).getD ((c.length:Int).toNat) []).length)+3)/3) 24 then
        bif (decide (0≤(c.length:Int)))&&(decide ((c.length:Int)<((c++[[]]).length:Int)))then
         bif Nat.beq ((c.length:Int).toNat) ((c.length:Int).toNat)then
          Q106.l8 N n h i (aA (d+1)) (qB [a.1,a.2.1,a.2.2.1,a.2.2.2.1,a.2.2.2.2.1,a.2.2.2.2.2.1,a.2.2.2.2.2.2.1,a.2.2.2.2.2.2.2] e) (oI [a.1,a.2.1,a.2.2.1,a.2.2.2.1,a.2.2.2.2.1,a.2.2.2.2.2.1,a.2.2.2.2.2.2.1,a.2.2.2.2.2.2.2] (c.length:Int) e f) ((c++[[]]).set ((c.length:Int).toNat) (((c++[[]]).getD ((c.length:Int).toNat) [])++[b.getD (d.toNat*3) 0,b.getD ((d.toNat*3)+1) 0,b.getD ((d.toNat*3)+2) 0])) b g
         else none
        else none
       else none
      else none
     else none
    else
    bif (decide (0≤(vE [a.1,a.2.1,a.2.2.1,a.2.2.2.1,a.2.2.2.2.1,a.2.2.2.2.2.1,a.2.2.2.2.2.2.1,a.2.2.2.2.2.2.2] e f)))&&(decide ((vE [a.1,a.2.1,a.2.2.1,a.2.2.2.1,a.2.2.2.2.1,a.2.2.2.2.2.1,a.2.2.2.2.2.2.1,a.2.2.2.2.2.2.2] e f)<(c.length:Int)))then
     bif zA ((((c.getD ((vE [a.1,a.2.1,a.2.2.1,a.2.2.2.1,a.2.2.2.2.1,a.2.2.2.2.2.1,a.2.2.2.2.2.2.1,a.2.2.2.2.2.2.2] e f).toNat) []).length)+3)/3) 24 then
      bif (decide (0≤(vE [a.1,a.2.1,a.2.2.1,a.2.2.2.1,a.2.2.2.2.1,a.2.2.2.2.2.1,a.2.2.2.2.2.2.1,a.2.2.2.2.2.2.2] e f)))&&(decide ((vE [a.1,a.2.1,a.2.2.1,a.2.2.2.1,a.2.2.2.2.1,a.2.2.2.2.2.1,a.2.2.2.2.2.2.1,a.2.2.2.2.2.2.2] e f)<(c.length:Int)))then
       bif Nat.beq ((vE [a.1,a.2.1,a.2.2.1,a.2.2.2.1,a.2.2.2.2.1,a.2.2.2.2.2.1,a.2.2.2.2.2.2.1,a.2.2.2.2.2.2.2] e f).toNat) ((vE [a.1,a.2.1,a.2.2.1,a.2.2.2.1,a.2.2.2.2.1,a.2.2.2.2.2.1,a.2.2.2.2.2.2.1,a.2.2.2.2.2.2.2] e f).toNat)then
        Q106.l8 N n h i (aA (d+1)) e f (c.set ((vE [a.1,a.2.1,a.2.2.1,a.2.2.2.1,a.2.2.2.2.1,a.2.2.2.2.2.1,a.2.2.2.2.2.2.1,a.2.2.2.2.2.2.2] e f).toNat) ((c.getD ((vE [a.1,a.2.1,a.2.2.1,a.2.2.2.1,a.2.2.2.2.1,a.2.2.2.2.2.1,a.2.2.2.2.2.2.1,a.2.2.2.2.2.2.2] e f).toNat) [])++[b.getD (d.toNat*3) 0,b.getD ((d.toNat*3)+1) 0,b.getD ((d.toNat*3)+2) 0])) b g
       else none
      else none
     else none
    else none
   else none
  else
  g c
noncomputable def Q106.f (N:Nat)(c:Int):Option (List (List Int)×Int):=
 (Q75.f N c).bind fun a=>
 bif a.2 != 0 then
  some ([],a.2)
 else
 (Q83.f N c).bind fun d=>
 Q106.l8 N N d (a.1.length/3:Int) 0 [] [] [] a.1
  (fun b=>
   some (b,0))
noncomputable def Q106.h8:bD:=⟨[(6,.il .i64 1),(7,.any),(8,.nrow .i64 3),(25,.row .i64 3),(26,.any),(27,.any)],[(8,.nrow .i64 3)]⟩
noncomputable def Q106.c8 (N:Nat):iI:=⟨fun vs H k=>match vs,H with
 | [.il .i64 1 c,.mref 0,.sw 1 1,.sw 2 3,.c (.int .i64 d),.c (.int .i64 e)],[.mp .i64 8 f (.ints .i64 g),.nw .i64 3 h none,.ints .i64 a]=>Q106.l8 N N c d e f g h a (fun b=>k (.exit 0) ⟨yC Q106.h8.out [.sw 0 1],[.nw .i64 3 b none]⟩)
 |_,_=>none⟩
noncomputable def Q106.E (N:Nat):rC:=yE [(3,tn),(23,kK),(40,bp),(43,cU),(59,zq),(64,D5)] [(41,Q75.ent N),(31,Q83.ent N),(32,Q85.ent N),(3000043,nu)] [(8,Q106.h8)] [(8,Q106.c8 N)] N [.tmp 2,.tmp 3] [.nrow .i64 3,.any] 0 62 true
noncomputable def Q106.b8:Code:=qA ((fA (bo Try.f16)).getD 0 .skip)
theorem Q106.l8_eq {R:Type}(N n:Nat)(c:List Int)(d e:Int)(f:List (List Int))(g:List Int)(h:List (List Int))(a:List Int)(k:Ex→St→Option R):
  iB 0 Q106.h8 (fun s k=>eB (Q106.E N) 390 Q106.b8 s k) n [.il .i64 1 c,.mref 0,.sw 1 1,.sw 2 3,.c (.int .i64 d),.c (.int .i64 e)] [.mp .i64 8 f (.ints .i64 g),.nw .i64 3 h none,.ints .i64 a] k=Q106.l8 N n c d e f g h a (fun b=>k (.exit 0) ⟨yC Q106.h8.out [.sw 0 1],[.nw .i64 3 b none]⟩):=by
 induction n generalizing c d e f g h a with
 |zero=>kernel_rfl
 |succ n ih=>
  simp only[Q106.l8,←ih]
  kernel_rfl
noncomputable def Q106.dec (v:V)(bs:List mA):Option (List (List Int)×Int):=match v,bs with
 | .tup [.sw 0 1,.c (.int .i64 b)],[.nw .i64 3 a none]=>some (a,b)
 |_,_=>none
theorem Q106.f_eq (N:Nat)(a:Int):
  bB (Q106.E N) (bo Try.f16) [.c (.int .i64 a)] [] Q106.dec=Q106.f N a:=by kernel_rfl
noncomputable def Q106.ent (N:Nat):wA:=eF (List (List Int)×Int) 1 [true] [.any] fun
 | [.c (.int .i64 a)]=>some (Q106.f N a,fun r=>.one (.tup [.sw 0 1,.c (.int .i64 r.2)]) [.nw .i64 3 r.1 none])
 |_=>none
theorem Q106.env (N:Nat):aB Try.prog (Q106.E N):=⟨(.cons fI (.cons rD (.cons dK (.cons fH (.cons qU (.cons pv .nil)))))),(.cons (Q75.ent_ok N) (.cons (Q83.ent_ok N) (.cons (Q85.ent_ok N) (.cons (mW (f:=3000043)) .nil))))⟩
theorem Q106.k8 (N:Nat):xB Try.prog Try.f16 (Q106.E N) (.loop Q106.b8):=tC (Q106.env N) dA 390 (c:=Q106.c8 N) cA.n fun R vs H k r h=>by unfold Q106.c8 at h;dsimp only at h;split at h;exact⟨_,Q106.l8_eq .. ▸h⟩;cases h
theorem Q106.spec (N:Nat)(a:Int)(r:List (List Int)×Int)(h:Q106.f N a=some r):iA Try.prog 16 [.c (.int .i64 a)] [] (.tup [.sw 0 1,.c (.int .i64 r.2)]) ([.nw .i64 3 r.1 none]):=sA (Q106.env N) dA Try.func16 (cA.of (l:=[(.loop (qA ((fA (bo Try.f16)).getD 0 .skip)))]) (by kernel_rfl) (cA.cons (Q106.k8 N) cA.nil)) ((Q106.f_eq ..).trans h) fun v b e=>by unfold Q106.dec at e;split at e<;>cases e;exact⟨rfl,rfl⟩
theorem Q106.ent_ok (N:Nat):oA Try.prog 16 (Q106.ent N):=xA fun v a e h=>by split at h;exact eC (Q:=fun e=>iA _ _ _ _ (e a).pick.1 (e a).pick.2) h fun k=>Q106.spec N _ a k;cases h
noncomputable def Q108.l20 {R:Type}(N:Nat):Nat→List (List Int)→Int→Int→Int→Int→Int→List (List Int)→List (List Int)→(List (List Int)→Int→Int→List (List Int)→List (List Int)→Option R)→Option R
 |0,_,_,_,_,_,_,_,_,_=>none
 |n+1,d,b,e,f,g,a,c,h,i=>
  bif decide (a<g)then
   bif (decide (0≤b))&&(decide (b<(c.length:Int)))then
    bif (decide (0≤a))&&(decide (a<(((c.getD b.toNat []).length)/3:Int)))then
     Q108.l20 N n d b e f g (aA (a+1)) (c.set b.toNat ((((c.getD b.toNat []).set (a.toNat*3) 77).set ((a.toNat*3)+1) 0).set ((a.toNat*3)+2) 0)) h i
    else none
   else none
  else
  i d e f c h
noncomputable def Q108.l14 {R:Type}(N:Nat):Nat→List (List Int)→Int→Int→List (List Int)→List (List Int)→(List (List Int)→List (List Int)→Option R)→(Bool→Option R)→Option R
 |0,_,_,_,_,_,_,_=>none
 |n+1,c,d,a,b,e,k,kr=>
  bif decide (a<d)then
   bif (decide (0≤a))&&(decide (a<(b.length:Int)))then
    bif zA ((((b.getD a.toNat []).length)+3)/3) 24 then
     bif (decide (0≤a))&&(decide (a<(c.length:Int)))then
      bif ((((b.getD a.toNat []).length)+3)/3:Int) != (aA ((((c.getD a.toNat []).length)/3:Int)+1))then
       kr false
      else
      bif (decide (0≤a))&&(decide (a<(b.length:Int)))then
       Q108.l20 N N c a d a ((((b.set a.toNat (b.getD a.toNat [])).getD a.toNat []).length)/3:Int) 0 ((b.set a.toNat (b.getD a.toNat [])).set a.toNat ((b.set a.toNat (b.getD a.toNat [])).getD a.toNat [])) e
        (fun f g h i j=>
         Q108.l14 N n f g (aA (h+1)) i j k kr)
      else none
     else none
    else none
   else none
  else
  k c e
noncomputable def Q108.f (N:Nat)(a:Int):Option (Bool):=
 (Q87.f N a).bind fun h=>
 (Q106.f N a).bind fun b=>
 (Q106.f N a).bind fun o=>
 (Q94.f N a).bind fun j=>
 (Q68.f N a).bind fun c=>
 bif h.2 != c then
  some false
 else
 bif b.2 != c then
  some false
 else
 bif o.2 != c then
  some false
 else
 bif j.2 != c then
  some false
 else
 (Q100.f N).bind fun p=>
 bif !p then
  some false
 else
 bif c != 0 then
  bif (h.1.length:Int)==0 then
   bif (b.1.length:Int)==0 then
    some ((j.1.length/3:Int)==0)
   else
   some false
  else
  some false
 else
 (Q95.f N a).bind fun d=>
 (Q88.f N a).bind fun q=>
 (Q99.f N h.1 q).bind fun e=>
 bif !e then
  some false
 else
 (Q96.f N b.1 d).bind fun f=>
 bif !f then
  some false
 else
 bif decide (0<(d.length:Int))then
  (Q97.f N j.1 (d.getD 0 [])).bind fun g=>
  bif !g then
   some false
  else
  Q108.l14 N N d (b.1.length:Int) 0 b.1 o.1
   (fun k l=>
    (Q96.f N l k).bind fun i=>
    some i)
   (fun m=>
    some m)
 else none
noncomputable def Q108.ty:List (Nat×TI):=[(2,nS),(23,kK),(37,bU),(40,bp),(43,cU)]
noncomputable def Q108.h14:bD:=⟨[(5,.nrow .i64 3),(7,.nrow .i64 3),(12,.inl .i64 3),(97,.any),(98,.any)],[(7,.nrow .i64 3),(12,.inl .i64 3)]⟩
noncomputable def Q108.h20:bD:=⟨[(5,.nrow .i64 3),(7,.nrow .i64 3),(12,.inl .i64 3),(13,.any),(97,.any),(98,.any),(121,.any),(122,.any)],[(5,.nrow .i64 3),(7,.nrow .i64 3),(12,.inl .i64 3),(97,.any),(98,.any)]⟩
noncomputable def Q108.c20 (N:Nat):iI:=⟨fun vs H k=>match vs,H with
 | [.sw 0 1,.sw 1 1,.inl .i64 3 a,.c (.int .i64 b),.c (.int .i64 c),.c (.int .i64 d),.c (.int .i64 e),.c (.int .i64 f)],[.nw .i64 3 g none,.nw .i64 3 h none]=>Q108.l20 N N a b c d e f g h (fun i j l m o=>k (.exit 2) ⟨yC Q108.h20.out [.sw 0 1,.sw 1 1,.inl .i64 3 i,.c (.int .i64 j),.c (.int .i64 l)],[.nw .i64 3 m none,.nw .i64 3 o none]⟩)
 |_,_=>none⟩
noncomputable def Q108.c14 (N:Nat):iI:=⟨fun vs H k=>match vs,H with
 | [.sw 0 1,.sw 1 1,.inl .i64 3 a,.c (.int .i64 b),.c (.int .i64 c)],[.nw .i64 3 d none,.nw .i64 3 e none]=>Q108.l14 N N a b c d e (fun g h=>k (.exit 0) ⟨yC Q108.h14.out [.sw 0 1,.inl .i64 3 g],[.nw .i64 3 h none]⟩) (fun f=>k (.ret (.c (.bool f)) []) .nil)
 |_,_=>none⟩
noncomputable def Q108.E (N:Nat):rC:={ty:=zH Q108.ty,tab:=zH [(15,Q87.ent N),(16,Q106.ent N),(17,Q94.ent N),(18,Q68.ent N),(12,Q100.ent N),(19,Q95.ent N),(21,Q88.ent N),(20,Q99.ent N),(22,Q96.ent N),(23,Q97.ent N),(3000043,nu)],hint:=zH [(14,Q108.h14),(20,Q108.h20)],cut:=zH [(20,Q108.c20 N),(14,Q108.c14 N)],N:=N,res:=[.tmp 2],rsh:=[.any],nb:=0,ntmps:=137,own:=false,keep:=true}
noncomputable def Q108.b20:Code:=qA ((fA (bo Try.f4)).getD 1 .skip)
theorem Q108.l20_eq {R:Type}(N n:Nat)(a:List (List Int))(b c d e f:Int)(g h:List (List Int))(k:Ex→St→Option R):
  iB 0 Q108.h20 (fun s k=>eB (Q108.E N) 377 Q108.b20 s k) n [.sw 0 1,.sw 1 1,.inl .i64 3 a,.c (.int .i64 b),.c (.int .i64 c),.c (.int .i64 d),.c (.int .i64 e),.c (.int .i64 f)] [.nw .i64 3 g none,.nw .i64 3 h none] k=Q108.l20 N n a b c d e f g h (fun i j l m o=>k (.exit 2) ⟨yC Q108.h20.out [.sw 0 1,.sw 1 1,.inl .i64 3 i,.c (.int .i64 j),.c (.int .i64 l)],[.nw .i64 3 m none,.nw .i64 3 o none]⟩):=by
 induction n generalizing a b c d e f g h with
 |zero=>kernel_rfl
 |succ n ih=>
  simp only[Q108.l20,←ih]
  kernel_rfl
noncomputable def Q108.b14:Code:=qA ((fA (bo Try.f4)).getD 0 .skip)
theorem Q108.l14_eq {R:Type}(N n:Nat)(a:List (List Int))(b c:Int)(d e:List (List Int))(k:Ex→St→Option R):
  iB 0 Q108.h14 (fun s k=>eB (Q108.E N) 386 Q108.b14 s k) n [.sw 0 1,.sw 1 1,.inl .i64 3 a,.c (.int .i64 b),.c (.int .i64 c)] [.nw .i64 3 d none,.nw .i64 3 e none] k=Q108.l14 N n a b c d e (fun g h=>k (.exit 0) ⟨yC Q108.h14.out [.sw 0 1,.inl .i64 3 g],[.nw .i64 3 h none]⟩) (fun f=>k (.ret (.c (.bool f)) []) .nil):=by
 induction n generalizing a b c d e with
 |zero=>kernel_rfl
 |succ n ih=>
  simp only[Q108.l14,←ih]
  kernel_rfl
noncomputable def Q108.dec (v:V)(bs:List mA):Option (Bool):=match v,bs with
 | .c (.bool a),[]=>some a
 |_,_=>none
theorem Q108.f_eq (N:Nat)(a:Int):
  bB (Q108.E N) (bo Try.f4) [.c (.int .i64 a)] [] Q108.dec=Q108.f N a:=by kernel_rfl
theorem Q108.env (N:Nat):aB Try.prog (Q108.E N):=⟨(.cons lD (.cons rD (.cons eH (.cons dK (.cons fH .nil))))),(.cons (Q87.ent_ok N) (.cons (Q106.ent_ok N) (.cons (Q94.ent_ok N) (.cons (Q68.ent_ok N) (.cons (Q100.ent_ok N) (.cons (Q95.ent_ok N) (.cons (Q88.ent_ok N) (.cons (Q99.ent_ok N) (.cons (Q96.ent_ok N) (.cons (Q97.ent_ok N) (.cons (mW (f:=3000043)) .nil)))))))))))⟩
theorem Q108.k20 (N:Nat):xB Try.prog Try.f4 (Q108.E N) (.loop Q108.b20):=tC (Q108.env N) dA 377 (c:=Q108.c20 N) cA.n fun R vs H k r h=>by unfold Q108.c20 at h;dsimp only at h;split at h;exact⟨_,Q108.l20_eq .. ▸h⟩;cases h
theorem Q108.k14 (N:Nat):xB Try.prog Try.f4 (Q108.E N) (.loop Q108.b14):=tC (Q108.env N) dA 386 (c:=Q108.c14 N) (cA.of (l:=[(.loop (qA ((fA (bo Try.f4)).getD 1 .skip)))]) (by kernel_rfl) (cA.cons (Q108.k20 N) cA.nil)) fun R vs H k r h=>by unfold Q108.c14 at h;dsimp only at h;split at h;exact⟨_,Q108.l14_eq .. ▸h⟩;cases h
theorem Q108.spec (N:Nat)(a:Int)(r:Bool)(h:Q108.f N a=some r):iA Try.prog 4 [.c (.int .i64 a)] [] (.c (.bool r)) ([]):=sA (Q108.env N) dA Try.func4 (cA.of (l:=[(.loop (qA ((fA (bo Try.f4)).getD 0 .skip))),(.loop (qA ((fA (bo Try.f4)).getD 1 .skip)))]) (by kernel_rfl) (cA.cons (Q108.k14 N) (cA.cons (Q108.k20 N) cA.nil))) ((Q108.f_eq ..).trans h) fun v b e=>by unfold Q108.dec at e;split at e<;>cases e;exact⟨rfl,rfl⟩
end Go.Proofs.Yteaakcmkpacpaaa
