import Derived.Test.YteaakcmkpacpaaaA2
import Derived.Test.YteaakcmkpacpaaaProg
import Derived.KernelRfl
import Derived.Shelf.SlSortCmp.NoneTotal
import Derived.Shelf.SlGeneric
open Array renaming getElem?_append_left→hA,eq_empty_of_size_eq_zero→hB,getElem?_modify→hI
open Bool renaming not_eq_false'→hC
open List renaming pairwise_cons→hD,length_cons→hE,getElem?_cons_succ→hG
set_option linter.unusedVariables false
set_option linter.unusedSimpArgs false
namespace Go.Proofs.Yteaakcmkpacpaaa
open Go.Proofs.Yteaakcmkpacpaaa.Ev
open Go
set_option maxRecDepth 100000
def kH:ByteArray:=⟨#[0,1,2,2,3,3,3,3,4,4,4,4,4,4,4,4,5,5,5,5,5,5,5,5,5,5,5,5,5,5,5,5,6,6,6,6,6,6,6,6,6,6,6,6,6,6,6,6,6,6,6,6,6,6,6,6,6,6,6,6,6,6,6,6,7,7,7,7,7,7,7,7,7,7,7,7,7,7,7,7,7,7,7,7,7,7,7,7,7,7,7,7,7,7,7,7,7,7,7,7,7,7,7,7,7,7,7,7,7,7,7,7,7,7,7,7,7,7,7,7,7,7,7,7,7,7,7,7,8,8,8,8,8,8,8,8,8,8,8,8,8,8,8,8,8,8,8,8,8,8,8,8,8,8,8,8,8,8,8,8,8,8,8,8,8,8,8,8,8,8,8,8,8,8,8,8,8,8,8,8,8,8,8,8,8,8,8,8,8,8,8,8,8,8,8,8,8,8,8,8,8,8,8,8,8,8,8,8,8,8,8,8,8,8,8,8,8,8,8,8,8,8,8,8,8,8,8,8,8,8,8,8,8,8,8,8,8,8,8,8,8,8,8,8,8,8,8,8,8,8,8,8,8,8,8,8]⟩
noncomputable def Ah:TI:=⟨.int .i64,1,8,[.int .i64 0]⟩
noncomputable def G7:TI:=⟨.int .u8,1,1,[.int .u8 0]⟩
noncomputable def G8:TI:=⟨.str,1,16,[.string ByteArray.empty]⟩
noncomputable def cM:TI:=⟨.slice 129,1,24,[.slice none 0 0]⟩
noncomputable def qH:TI:=⟨.struct [(86,0)],1,24,[.slice none 0 0]⟩
noncomputable def zJ:TI:=⟨.int .u64,1,8,[.int .u64 0]⟩
noncomputable def eI:TI:=⟨.int .u32,1,4,[.int .u32 0]⟩
theorem gA:Try.prog.follows .mixedOrders=true:=by kernel_rfl
theorem kK:iC Try.prog 3 Ah:=nC (by kernel_rfl) (by kernel_rfl) (by kernel_rfl) (by kernel_rfl) (by kernel_rfl) (by kernel_rfl) (by kernel_rfl) (Try.underlying3) (by kernel_rfl)
theorem Dx:iC Try.prog 5 G7:=nC (by kernel_rfl) (by kernel_rfl) (by kernel_rfl) (by kernel_rfl) (by kernel_rfl) (by kernel_rfl) (by kernel_rfl) (Try.underlying5) (by kernel_rfl)
theorem E3:iC Try.prog 9 G8:=nC (by kernel_rfl) (by kernel_rfl) (by kernel_rfl) (by kernel_rfl) (by kernel_rfl) (by kernel_rfl) (by kernel_rfl) (Try.underlying9) (by kernel_rfl)
theorem cE:iC Try.prog 86 cM:=nC (by kernel_rfl) (by kernel_rfl) (by kernel_rfl) (by kernel_rfl) (by kernel_rfl) (by kernel_rfl) (by kernel_rfl) (Try.underlying86) (by kernel_rfl)
theorem jC:iC Try.prog 88 qH:=nC (by kernel_rfl) (by kernel_rfl) (by kernel_rfl) (by kernel_rfl) (by kernel_rfl) (by kernel_rfl) (by kernel_rfl) (eL Try.underlying88 (by kernel_rfl) (by kernel_rfl)) (by kernel_rfl)
theorem pE:iC Try.prog 115 zJ:=nC (by kernel_rfl) (by kernel_rfl) (by kernel_rfl) (by kernel_rfl) (by kernel_rfl) (by kernel_rfl) (by kernel_rfl) (Try.underlying115) (by kernel_rfl)
theorem sD:iC Try.prog 129 eI:=nC (by kernel_rfl) (by kernel_rfl) (by kernel_rfl) (by kernel_rfl) (by kernel_rfl) (by kernel_rfl) (by kernel_rfl) (Try.underlying129) (by kernel_rfl)
noncomputable def Q0.f (N:Nat)(a:Int):Option (Int):=
 bif decide (a≥65536)then
  bif decide ((Int.fdiv a (2^16))≥256)then
   bif (decide (0≤(gL (Int.fdiv (Int.fdiv a (2^16)) (2^8)))))&&(decide ((gL (Int.fdiv (Int.fdiv a (2^16)) (2^8)))<(kH.size:Int)))then
    some (aA (24+(aA (gF kH ((gL (Int.fdiv (Int.fdiv a (2^16)) (2^8))).toNat)))))
   else none
  else
  bif (decide (0≤(gL (Int.fdiv a (2^16)))))&&(decide ((gL (Int.fdiv a (2^16)))<(kH.size:Int)))then
   some (aA (16+(aA (gF kH ((gL (Int.fdiv a (2^16))).toNat)))))
  else none
 else
 bif decide (a≥256)then
  bif (decide (0≤(gL (Int.fdiv a (2^8)))))&&(decide ((gL (Int.fdiv a (2^8)))<(kH.size:Int)))then
   some (aA (8+(aA (gF kH ((gL (Int.fdiv a (2^8))).toNat)))))
  else none
 else
 bif (decide (0≤(gL a)))&&(decide ((gL a)<(kH.size:Int)))then
  some (aA (0+(aA (gF kH ((gL a).toNat)))))
 else none
noncomputable def Q0.E (N:Nat):gD:=uF [(3,Ah),(5,G7),(9,G8),(129,eI)] [] [] [] N [.tmp 2] [.any] 0 19
noncomputable def Q0.dec (v:V)(bs:List nA):Option (Int):=match v,bs with
 | .c (.int .i64 a),[]=>some a
 |_,_=>none
theorem Q0.f_eq (N:Nat)(a:Int):
  gB (Q0.E N) (bo Try.f93) [.c (.int .u32 a)] [] Q0.dec=Q0.f N a:=by kernel_rfl
noncomputable def Q0.ent (N:Nat):wA:=sG (Int) 0 [true] [.any] fun
 | [.c (.int .u32 a)]=>some (Q0.f N a,fun r=>.one (.c (.int .i64 r)) [])
 |_=>none
theorem Q0.env (N:Nat):eB Try.prog (Q0.E N):=⟨(.cons kK (.cons Dx (.cons E3 (.cons sD .nil)))),.nil⟩
theorem Q0.spec (N:Nat)(a r:Int)(h:Q0.f N a=some r):kA Try.prog 93 [.c (.int .u32 a)] [] (.c (.int .i64 r)) ([]):=vA (Q0.env N) gA Try.func93 eA.n ((Q0.f_eq ..).trans h) fun v b e=>by unfold Q0.dec at e;split at e<;>cases e;exact⟨rfl,rfl⟩
theorem Q0.ent_ok (N:Nat):uA Try.prog 93 (Q0.ent N):=bB fun v a e h=>by split at h;exact wC (Q:=fun e=>kA _ _ _ _ (e a).pick.1 (e a).pick.2) h fun k=>Q0.spec N _ a k;cases h
noncomputable def Q1.f (N:Nat)(a b c:Int):Option (Int×Int):=
 some (rE ((rE (a-b))-c),Int.fdiv (oD .u32 (iB .u32 (fU .u32 4294967295 a) b) (iB .u32 (fU .u32 4294967295 (fU .u32 a b)) (rE ((rE (a-b))-c)))) (2^31))
noncomputable def Q1.E (N:Nat):gD:=uF [] [] [] [] N [.tmp 6,.tmp 7] [.any,.any] 0 25
noncomputable def Q1.dec (v:V)(bs:List nA):Option (Int×Int):=match v,bs with
 | .tup [.c (.int .u32 a),.c (.int .u32 b)],[]=>some (a,b)
 |_,_=>none
theorem Q1.f_eq (N:Nat)(a b c:Int):
  gB (Q1.E N) (bo Try.f125) [.c (.int .u32 a),.c (.int .u32 b),.c (.int .u32 c)] [] Q1.dec=Q1.f N a b c:=by kernel_rfl
noncomputable def Q1.ent (N:Nat):wA:=sG (Int×Int) 0 [true,true,true] [.any,.any,.any] fun
 | [.c (.int .u32 a),.c (.int .u32 b),.c (.int .u32 c)]=>some (Q1.f N a b c,fun r=>.one (.tup [.c (.int .u32 r.1),.c (.int .u32 r.2)]) [])
 |_=>none
theorem Q1.env (N:Nat):eB Try.prog (Q1.E N):=⟨.nil,.nil⟩
theorem Q1.spec (N:Nat)(a c d:Int)(r:Int×Int)(h:Q1.f N a c d=some r):kA Try.prog 125 [.c (.int .u32 a),.c (.int .u32 c),.c (.int .u32 d)] [] (.tup [.c (.int .u32 r.1),.c (.int .u32 r.2)]) ([]):=vA (Q1.env N) gA Try.func125 eA.n ((Q1.f_eq ..).trans h) fun v b e=>by unfold Q1.dec at e;split at e<;>cases e;exact⟨rfl,rfl⟩
theorem Q1.ent_ok (N:Nat):uA Try.prog 125 (Q1.ent N):=bB fun v a e h=>by split at h;exact wC (Q:=fun e=>kA _ _ _ _ (e a).pick.1 (e a).pick.2) h fun k=>Q1.spec N _ _ _ a k;cases h
noncomputable def Q2.l2 {R:Type}(N:Nat):Nat→Nat→Nat→Int→List Int→(Nat→Nat→Int→List Int→Option R)→Option R
 |0,_,_,_,_,_=>none
 |n+1,b,c,a,d,e=>
  bif decide (a>0)then
   bif (decide (0≤(aA (a-1))))&&(decide ((aA (a-1))<(c:Int)))then
    bif (d.getD (b+((aA (a-1)).toNat)) 0)==0 then
     Q2.l2 N n b c (aA (a-1)) d e
    else
    e b c a d
   else none
  else
  e b c a d
noncomputable def Q2.f (N f e:Nat)(g:List Int):Option (Nat×Nat×List Int):=
 Q2.l2 N N f e (e:Int) g
  (fun b c a d=>
   bif ((decide (0≤a))&&(decide (a≤a)))&&(decide (a≤(c:Int)))then
    some (b,a.toNat,d)
   else none)
noncomputable def Q2.h2:mE:=⟨[(0,.any),(2,.box [.any]),(3,.any)],[(0,.any),(2,.box [.any]),(3,.any)]⟩
noncomputable def Q2.c2 (N:Nat):mM:=⟨fun vs H k=>match vs,H with
 | [.sl 0 1 c d,.ptr 1 0 1,.c (.int .i64 e)],[.ints .u32 f,.vals [.c (.slice none 0 0)]]=>Q2.l2 N N c d e f (fun g h a b=>k (.exit 0) ⟨iE Q2.h2.out [.sl 0 1 g h,.ptr 1 0 1,.c (.int .i64 a)],[.ints .u32 b,.vals [.c (.slice none 0 0)]]⟩)
 |_,_=>none⟩
noncomputable def Q2.E (N:Nat):gD:=uF [(86,cM),(88,qH),(129,eI)] [] [(2,Q2.h2)] [(2,Q2.c2 N)] N [.cell 2 88] [.recd [.any]] 1 23
noncomputable def Q2.b2:Code:=cB ((jA (bo Try.f92)).getD 0 .skip)
theorem Q2.l2_eq {R:Type}(N n c d:Nat)(e:Int)(f:List Int)(k:Ex→St→Option R):
  xB 1 Q2.h2 (fun s k=>kB (Q2.E N) 395 Q2.b2 s k) n [.sl 0 1 c d,.ptr 1 0 1,.c (.int .i64 e)] [.ints .u32 f,.vals [.c (.slice none 0 0)]] k=Q2.l2 N n c d e f (fun g h a b=>k (.exit 0) ⟨iE Q2.h2.out [.sl 0 1 g h,.ptr 1 0 1,.c (.int .i64 a)],[.ints .u32 b,.vals [.c (.slice none 0 0)]]⟩):=by
 induction n generalizing c d e f with
 |zero=>kernel_rfl
 |succ n ih=>
  simp only[Q2.l2,←ih]
  kernel_rfl
noncomputable def Q2.dec (v:V)(bs:List nA):Option (Nat×Nat×List Int):=match v,bs with
 | .agg [.sl 0 1 a b],[.ints .u32 c]=>some (a,b,c)
 |_,_=>none
theorem Q2.f_eq (N a b:Nat)(c:List Int):
  gB (Q2.E N) (bo Try.f92) [.sl 0 1 a b] [.ints .u32 c] Q2.dec=Q2.f N a b c:=by kernel_rfl
noncomputable def Q2.ent (N:Nat):wA:={A:=Nat×Nat×List Int,fresh:=0,imm:=[false],dec:=fun args bs=>match iJ (oA bs) [true] args,bs with
 | [.sl 0 1 a b],[.ints .u32 c]=>some (Q2.f N a b c,fun r=>.one (.agg [.sl 0 1 r.1 r.2.1]) [.ints .u32 r.2.2])
 |_,_=>none}
theorem Q2.env (N:Nat):eB Try.prog (Q2.E N):=⟨(.cons cE (.cons jC (.cons sD .nil))),.nil⟩
theorem Q2.k2 (N:Nat):qC Try.prog Try.f92 (Q2.E N) (.loop Q2.b2):=dE (Q2.env N) gA 395 (c:=Q2.c2 N) eA.n fun R vs H k r h=>by unfold Q2.c2 at h;dsimp only at h;split at h;exact⟨_,Q2.l2_eq .. ▸h⟩;cases h
theorem Q2.spec (N a c:Nat)(d:List Int)(r:Nat×Nat×List Int)(h:Q2.f N a c d=some r):kA Try.prog 92 [.sl 0 1 a c] [.ints .u32 d] (.agg [.sl 0 1 r.1 r.2.1]) ([.ints .u32 r.2.2]):=vA (Q2.env N) gA Try.func92 (eA.of (l:=[(.loop (cB ((jA (bo Try.f92)).getD 0 .skip)))]) (by kernel_rfl) (eA.cons (Q2.k2 N) eA.nil)) ((Q2.f_eq ..).trans h) fun v b e=>by unfold Q2.dec at e;split at e<;>cases e;exact⟨rfl,rfl⟩
theorem Q2.ent_ok (N:Nat):uA Try.prog 92 (Q2.ent N):=by
 intro args bs a enc h;simp only[Q2.ent]at h;split at h
 ·rename_i hz;have h0:=Option.some.inj h;have h1:=congrArg Prod.fst h0;have h2:=congrArg Prod.snd h0;dsimp only at h1 h2;subst h2;exact kA.of_asSl (fl:=[true]) (by rw[hz];exact Q2.spec N _ _ _ a h1)
 ·cases h
noncomputable def Q3.f (N:Nat)(a:List Int):Option (Int):=
 bif (a.length:Int)==0 then
  some 0
 else
 bif (decide (0≤(aA ((a.length:Int)-1))))&&(decide ((aA ((a.length:Int)-1))<(a.length:Int)))then
  (Q0.f N (a.getD ((aA ((a.length:Int)-1)).toNat) 0)).bind fun b=>
  some (aA ((aA (32*(aA ((a.length:Int)-1))))+b))
 else none
noncomputable def Q3.E (N:Nat):gD:=uF [(86,cM),(88,qH),(129,eI)] [(93,Q0.ent N)] [] [] N [.tmp 2] [.any] 0 22
noncomputable def Q3.dec (v:V)(bs:List nA):Option (Int):=match v,bs with
 | .c (.int .i64 a),[]=>some a
 |_,_=>none
theorem Q3.f_eq (N:Nat)(a:List Int):
  gB (Q3.E N) (bo Try.f77) [.agg [.il .u32 1 a]] [] Q3.dec=Q3.f N a:=by kernel_rfl
noncomputable def Q3.ent (N:Nat):wA:=sG (Int) 0 [true] [.recd [.il .u32 1]] fun
 | [.agg [.il .u32 1 a]]=>some (Q3.f N a,fun r=>.one (.c (.int .i64 r)) [])
 |_=>none
theorem Q3.env (N:Nat):eB Try.prog (Q3.E N):=⟨(.cons cE (.cons jC (.cons sD .nil))),(.cons (Q0.ent_ok N) .nil)⟩
theorem Q3.spec (N:Nat)(a:List Int)(r:Int)(h:Q3.f N a=some r):kA Try.prog 77 [.agg [.il .u32 1 a]] [] (.c (.int .i64 r)) ([]):=vA (Q3.env N) gA Try.func77 eA.n ((Q3.f_eq ..).trans h) fun v b e=>by unfold Q3.dec at e;split at e<;>cases e;exact⟨rfl,rfl⟩
theorem Q3.ent_ok (N:Nat):uA Try.prog 77 (Q3.ent N):=bB fun v a e h=>by split at h;exact wC (Q:=fun e=>kA _ _ _ _ (e a).pick.1 (e a).pick.2) h fun k=>Q3.spec N _ a k;cases h
noncomputable def Q4.f (N:Nat)(a:List Int):Option (List Int×Int):=
 (Q3.f N a).bind fun b=>
 bif decide (b>4096)then
  some ([],3)
 else
 some (a,0)
noncomputable def Q4.E (N:Nat):gD:=uF [(86,cM),(88,qH)] [(77,Q3.ent N)] [] [] N [.cell 2 88,.tmp 3] [.recd [.il .u32 1],.any] 0 9
noncomputable def Q4.dec (v:V)(bs:List nA):Option (List Int×Int):=match v,bs with
 | .tup [.agg [.il .u32 1 a],.c (.int .i64 b)],[]=>some (a,b)
 |_,_=>none
theorem Q4.f_eq (N:Nat)(a:List Int):
  gB (Q4.E N) (bo Try.f122) [.agg [.il .u32 1 a]] [] Q4.dec=Q4.f N a:=by kernel_rfl
noncomputable def Q4.ent (N:Nat):wA:=sG (List Int×Int) 0 [true] [.recd [.il .u32 1]] fun
 | [.agg [.il .u32 1 a]]=>some (Q4.f N a,fun r=>.one (.tup [.agg [.il .u32 1 r.1],.c (.int .i64 r.2)]) [])
 |_=>none
theorem Q4.env (N:Nat):eB Try.prog (Q4.E N):=⟨(.cons cE (.cons jC .nil)),(.cons (Q3.ent_ok N) .nil)⟩
theorem Q4.spec (N:Nat)(a:List Int)(r:List Int×Int)(h:Q4.f N a=some r):kA Try.prog 122 [.agg [.il .u32 1 a]] [] (.tup [.agg [.il .u32 1 r.1],.c (.int .i64 r.2)]) ([]):=vA (Q4.env N) gA Try.func122 eA.n ((Q4.f_eq ..).trans h) fun v b e=>by unfold Q4.dec at e;split at e<;>cases e;exact⟨rfl,rfl⟩
theorem Q4.ent_ok (N:Nat):uA Try.prog 122 (Q4.ent N):=bB fun v a e h=>by split at h;exact wC (Q:=fun e=>kA _ _ _ _ (e a).pick.1 (e a).pick.2) h fun k=>Q4.spec N _ a k;cases h
noncomputable def Q5.f (N:Nat)(b:Int):Option (List Int):=
 (Q2.f N 0 2 [rE b,rE (Int.fdiv b (2^32))]).bind fun a=>
 some ((a.2.2.drop a.1).take a.2.1)
noncomputable def Q5.E (N:Nat):gD:=uF [(86,cM),(88,qH),(115,zJ),(129,eI)] [(92,Q2.ent N)] [] [] N [.cell 2 88] [.recd [.il .u32 1]] 0 10
noncomputable def Q5.dec (v:V)(bs:List nA):Option (List Int):=match v,bs with
 | .agg [.il .u32 1 a],[]=>some a
 |_,_=>none
theorem Q5.f_eq (N:Nat)(a:Int):
  gB (Q5.E N) (bo Try.f76) [.c (.int .u64 a)] [] Q5.dec=Q5.f N a:=by kernel_rfl
noncomputable def Q5.ent (N:Nat):wA:=sG (List Int) 0 [true] [.any] fun
 | [.c (.int .u64 a)]=>some (Q5.f N a,fun r=>.one (.agg [.il .u32 1 r]) [])
 |_=>none
theorem Q5.env (N:Nat):eB Try.prog (Q5.E N):=⟨(.cons cE (.cons jC (.cons pE (.cons sD .nil)))),(.cons (Q2.ent_ok N) .nil)⟩
theorem Q5.spec (N:Nat)(a:Int)(r:List Int)(h:Q5.f N a=some r):kA Try.prog 76 [.c (.int .u64 a)] [] (.agg [.il .u32 1 r]) ([]):=vA (Q5.env N) gA Try.func76 eA.n ((Q5.f_eq ..).trans h) fun v b e=>by unfold Q5.dec at e;split at e<;>cases e;exact⟨rfl,rfl⟩
theorem Q5.ent_ok (N:Nat):uA Try.prog 76 (Q5.ent N):=bB fun v a e h=>by split at h;exact wC (Q:=fun e=>kA _ _ _ _ (e a).pick.1 (e a).pick.2) h fun k=>Q5.spec N _ a k;cases h
noncomputable def Q6.f (N:Nat)(a:List Int):Option (Int×Bool):=
 bif (a.length:Int)==0 then
  some (0,true)
 else
 bif (a.length:Int)==1 then
  bif decide (0<(a.length:Int))then
   some (lA (a.getD 0 0),true)
  else none
 else
 bif (a.length:Int)==2 then
  bif decide (1<(a.length:Int))then
   bif decide (0<(a.length:Int))then
    some (oD .u64 (lA ((lA (a.getD 1 0))*2^32)) (lA (a.getD 0 0)),true)
   else none
  else none
 else
 some (0,false)
noncomputable def Q6.E (N:Nat):gD:=uF [(86,cM),(88,qH),(115,zJ),(129,eI)] [] [] [] N [.tmp 2,.tmp 3] [.any,.any] 0 30
noncomputable def Q6.dec (v:V)(bs:List nA):Option (Int×Bool):=match v,bs with
 | .tup [.c (.int .u64 a),.c (.bool b)],[]=>some (a,b)
 |_,_=>none
theorem Q6.f_eq (N:Nat)(a:List Int):
  gB (Q6.E N) (bo Try.f78) [.agg [.il .u32 1 a]] [] Q6.dec=Q6.f N a:=by kernel_rfl
noncomputable def Q6.ent (N:Nat):wA:=sG (Int×Bool) 0 [true] [.recd [.il .u32 1]] fun
 | [.agg [.il .u32 1 a]]=>some (Q6.f N a,fun r=>.one (.tup [.c (.int .u64 r.1),.c (.bool r.2)]) [])
 |_=>none
theorem Q6.env (N:Nat):eB Try.prog (Q6.E N):=⟨(.cons cE (.cons jC (.cons pE (.cons sD .nil)))),.nil⟩
theorem Q6.spec (N:Nat)(a:List Int)(r:Int×Bool)(h:Q6.f N a=some r):kA Try.prog 78 [.agg [.il .u32 1 a]] [] (.tup [.c (.int .u64 r.1),.c (.bool r.2)]) ([]):=vA (Q6.env N) gA Try.func78 eA.n ((Q6.f_eq ..).trans h) fun v b e=>by unfold Q6.dec at e;split at e<;>cases e;exact⟨rfl,rfl⟩
theorem Q6.ent_ok (N:Nat):uA Try.prog 78 (Q6.ent N):=bB fun v a e h=>by split at h;exact wC (Q:=fun e=>kA _ _ _ _ (e a).pick.1 (e a).pick.2) h fun k=>Q6.spec N _ a k;cases h
noncomputable def Q7.l6 {R:Type}(N:Nat):Nat→Int→List Int→List Int→(Unit→Option R)→(Int→Option R)→Option R
 |0,_,_,_,_,_=>none
 |n+1,a,b,c,d,kr=>
  bif decide (a≥0)then
   bif (decide (0≤a))&&(decide (a<(b.length:Int)))then
    bif (decide (0≤a))&&(decide (a<(c.length:Int)))then
     bif decide ((b.getD a.toNat 0)<(c.getD a.toNat 0))then
      kr (-1)
     else
     bif (decide (0≤a))&&(decide (a<(b.length:Int)))then
      bif (decide (0≤a))&&(decide (a<(c.length:Int)))then
       bif decide ((b.getD a.toNat 0)>(c.getD a.toNat 0))then
        kr 1
       else
       Q7.l6 N n (aA (a-1)) b c d kr
      else none
     else none
    else none
   else none
  else
  d ()
noncomputable def Q7.f (N:Nat)(a b:List Int):Option (Int):=
 bif (a.length:Int) != (b.length:Int)then
  bif decide ((a.length:Int)<(b.length:Int))then
   some (-1)
  else
  some 1
 else
 Q7.l6 N N (aA ((a.length:Int)-1)) a b
  (fun(_:Unit)=>
   some 0)
  (fun c=>
   some c)
noncomputable def Q7.h6:mE:=⟨[(2,.box [.il .u32 1]),(3,.box [.il .u32 1]),(5,.any)],[]⟩
noncomputable def Q7.c6 (N:Nat):mM:=⟨fun vs H k=>match vs,H with
 | [.ptr 0 0 1,.ptr 1 0 1,.c (.int .i64 a)],[.vals [.il .u32 1 b],.vals [.il .u32 1 c]]=>Q7.l6 N N a b c (fun(_:Unit)=>k (.exit 0) ⟨iE Q7.h6.out [],[]⟩) (fun d=>k (.ret (.c (.int .i64 d)) []) .nil)
 |_,_=>none⟩
noncomputable def Q7.E (N:Nat):gD:=uF [(86,cM),(88,qH),(129,eI)] [] [(6,Q7.h6)] [(6,Q7.c6 N)] N [.tmp 4] [.any] 0 52
noncomputable def Q7.b6:Code:=cB ((jA (bo Try.f105)).getD 0 .skip)
theorem Q7.l6_eq {R:Type}(N n:Nat)(a:Int)(b c:List Int)(k:Ex→St→Option R):
  xB 0 Q7.h6 (fun s k=>kB (Q7.E N) 394 Q7.b6 s k) n [.ptr 0 0 1,.ptr 1 0 1,.c (.int .i64 a)] [.vals [.il .u32 1 b],.vals [.il .u32 1 c]] k=Q7.l6 N n a b c (fun(_:Unit)=>k (.exit 0) ⟨iE Q7.h6.out [],[]⟩) (fun d=>k (.ret (.c (.int .i64 d)) []) .nil):=by
 induction n generalizing a b c with
 |zero=>kernel_rfl
 |succ n ih=>
  simp only[Q7.l6,←ih]
  kernel_rfl
noncomputable def Q7.dec (v:V)(bs:List nA):Option (Int):=match v,bs with
 | .c (.int .i64 a),[]=>some a
 |_,_=>none
theorem Q7.f_eq (N:Nat)(a b:List Int):
  gB (Q7.E N) (bo Try.f105) [.agg [.il .u32 1 a],.agg [.il .u32 1 b]] [] Q7.dec=Q7.f N a b:=by kernel_rfl
noncomputable def Q7.ent (N:Nat):wA:=sG (Int) 0 [true,true] [.recd [.il .u32 1],.recd [.il .u32 1]] fun
 | [.agg [.il .u32 1 a],.agg [.il .u32 1 b]]=>some (Q7.f N a b,fun r=>.one (.c (.int .i64 r)) [])
 |_=>none
theorem Q7.env (N:Nat):eB Try.prog (Q7.E N):=⟨(.cons cE (.cons jC (.cons sD .nil))),.nil⟩
theorem Q7.k6 (N:Nat):qC Try.prog Try.f105 (Q7.E N) (.loop Q7.b6):=dE (Q7.env N) gA 394 (c:=Q7.c6 N) eA.n fun R vs H k r h=>by unfold Q7.c6 at h;dsimp only at h;split at h;exact⟨_,Q7.l6_eq .. ▸h⟩;cases h
theorem Q7.spec (N:Nat)(a c:List Int)(r:Int)(h:Q7.f N a c=some r):kA Try.prog 105 [.agg [.il .u32 1 a],.agg [.il .u32 1 c]] [] (.c (.int .i64 r)) ([]):=vA (Q7.env N) gA Try.func105 (eA.of (l:=[(.loop (cB ((jA (bo Try.f105)).getD 0 .skip)))]) (by kernel_rfl) (eA.cons (Q7.k6 N) eA.nil)) ((Q7.f_eq ..).trans h) fun v b e=>by unfold Q7.dec at e;split at e<;>cases e;exact⟨rfl,rfl⟩
theorem Q7.ent_ok (N:Nat):uA Try.prog 105 (Q7.ent N):=bB fun v a e h=>by split at h;exact wC (Q:=fun e=>kA _ _ _ _ (e a).pick.1 (e a).pick.2) h fun k=>Q7.spec N _ _ a k;cases h
noncomputable def Q8.l7 {R:Type}(N:Nat):Nat→Int→Int→Int→List Int→List Int→(List Int→Option R)→Option R
 |0,_,_,_,_,_,_=>none
 |n+1,d,f,a,c,b,e=>
  bif decide (a<f)then
   bif (decide (0≤a))&&(decide (a<(b.length:Int)))then
    bif decide (a<(c.length:Int))then
     bif (decide (0≤a))&&(decide (a<(c.length:Int)))then
      bif (decide (0≤a))&&(decide (a<(b.length:Int)))then
       Q8.l7 N n (Int.fdiv (lA ((lA (d+(lA (b.getD a.toNat 0))))+(lA (c.getD a.toNat 0)))) (2^32)) f (aA (a+1)) c (b.set a.toNat (rE (lA ((lA (d+(lA (b.getD a.toNat 0))))+(lA (c.getD a.toNat 0)))))) e
      else none
     else none
    else
    bif (decide (0≤a))&&(decide (a<(b.length:Int)))then
     Q8.l7 N n (Int.fdiv (lA (d+(lA (b.getD a.toNat 0)))) (2^32)) f (aA (a+1)) c (b.set a.toNat (rE (lA (d+(lA (b.getD a.toNat 0)))))) e
    else none
   else none
  else
  e b
noncomputable def Q8.f (N:Nat)(a b:List Int):Option (List Int×Int):=
 bif decide ((a.length:Int)<(b.length:Int))then
  bif decide (aA ((b.length:Int)+1)=aA ((b.length:Int)+1))&&decide (0≤aA ((b.length:Int)+1))&&decide (aA ((b.length:Int)+1)≤9223372036854775807)&&zA ((aA ((b.length:Int)+1)).toNat) 4 then
   Q8.l7 N N 0 ((uE (List.replicate ((aA ((b.length:Int)+1)).toNat) (0:Int)) 0 (b.take (min b.length ((List.replicate ((aA ((b.length:Int)+1)).toNat) (0:Int)).length)))).length:Int) 0 a (uE (List.replicate ((aA ((b.length:Int)+1)).toNat) (0:Int)) 0 (b.take (min b.length ((List.replicate ((aA ((b.length:Int)+1)).toNat) (0:Int)).length))))
    (fun h=>
     (Q2.f N 0 h.length h).bind fun c=>
     (Q4.f N ((c.2.2.drop c.1).take c.2.1)).bind fun e=>
     some (e.1,e.2))
  else none
 else
 bif decide (aA ((a.length:Int)+1)=aA ((a.length:Int)+1))&&decide (0≤aA ((a.length:Int)+1))&&decide (aA ((a.length:Int)+1)≤9223372036854775807)&&zA ((aA ((a.length:Int)+1)).toNat) 4 then
  Q8.l7 N N 0 ((uE (List.replicate ((aA ((a.length:Int)+1)).toNat) (0:Int)) 0 (a.take (min a.length ((List.replicate ((aA ((a.length:Int)+1)).toNat) (0:Int)).length)))).length:Int) 0 b (uE (List.replicate ((aA ((a.length:Int)+1)).toNat) (0:Int)) 0 (a.take (min a.length ((List.replicate ((aA ((a.length:Int)+1)).toNat) (0:Int)).length))))
   (fun g=>
    (Q2.f N 0 g.length g).bind fun d=>
    (Q4.f N ((d.2.2.drop d.1).take d.2.1)).bind fun f=>
    some (f.1,f.2))
 else none
noncomputable def Q8.h7:mE:=⟨[(3,.box [.il .u32 1]),(4,.box [.any]),(6,.row .u32 1),(7,.any),(28,.any),(29,.any)],[(4,.box [.any]),(6,.row .u32 1)]⟩
noncomputable def Q8.c7 (N:Nat):mM:=⟨fun vs H k=>match vs,H with
 | [.ptr 0 0 1,.ptr 1 0 1,.sw 2 1,.c (.int .u64 a),.c (.int .i64 b),.c (.int .i64 c)],[.vals [.il .u32 1 d],.vals [.c (.slice none 0 0)],.ints .u32 e]=>Q8.l7 N N a b c d e (fun f=>k (.exit 0) ⟨iE Q8.h7.out [.ptr 0 0 1,.sw 1 1],[.vals [.c (.slice none 0 0)],.ints .u32 f]⟩)
 |_,_=>none⟩
noncomputable def Q8.E (N:Nat):gD:=uF [(86,cM),(88,qH),(115,zJ),(129,eI)] [(92,Q2.ent N),(122,Q4.ent N)] [(7,Q8.h7)] [(7,Q8.c7 N)] N [.cell 4 88,.tmp 5] [.recd [.il .u32 1],.any] 0 65
noncomputable def Q8.b7:Code:=cB ((jA (bo Try.f109)).getD 0 .skip)
theorem Q8.l7_eq {R:Type}(N n:Nat)(a b c:Int)(d e:List Int)(k:Ex→St→Option R):
  xB 0 Q8.h7 (fun s k=>kB (Q8.E N) 391 Q8.b7 s k) n [.ptr 0 0 1,.ptr 1 0 1,.sw 2 1,.c (.int .u64 a),.c (.int .i64 b),.c (.int .i64 c)] [.vals [.il .u32 1 d],.vals [.c (.slice none 0 0)],.ints .u32 e] k=Q8.l7 N n a b c d e (fun f=>k (.exit 0) ⟨iE Q8.h7.out [.ptr 0 0 1,.sw 1 1],[.vals [.c (.slice none 0 0)],.ints .u32 f]⟩):=by
 induction n generalizing a b c d e with
 |zero=>kernel_rfl
 |succ n ih=>
  simp only[Q8.l7,←ih]
  kernel_rfl
noncomputable def Q8.dec (v:V)(bs:List nA):Option (List Int×Int):=match v,bs with
 | .tup [.agg [.il .u32 1 a],.c (.int .i64 b)],[]=>some (a,b)
 |_,_=>none
theorem Q8.f_eq (N:Nat)(a b:List Int):
  gB (Q8.E N) (bo Try.f109) [.agg [.il .u32 1 a],.agg [.il .u32 1 b]] [] Q8.dec=Q8.f N a b:=by kernel_rfl
noncomputable def Q8.ent (N:Nat):wA:=sG (List Int×Int) 0 [true,true] [.recd [.il .u32 1],.recd [.il .u32 1]] fun
 | [.agg [.il .u32 1 a],.agg [.il .u32 1 b]]=>some (Q8.f N a b,fun r=>.one (.tup [.agg [.il .u32 1 r.1],.c (.int .i64 r.2)]) [])
 |_=>none
theorem Q8.env (N:Nat):eB Try.prog (Q8.E N):=⟨(.cons cE (.cons jC (.cons pE (.cons sD .nil)))),(.cons (Q2.ent_ok N) (.cons (Q4.ent_ok N) .nil))⟩
theorem Q8.k7 (N:Nat):qC Try.prog Try.f109 (Q8.E N) (.loop Q8.b7):=dE (Q8.env N) gA 391 (c:=Q8.c7 N) eA.n fun R vs H k r h=>by unfold Q8.c7 at h;dsimp only at h;split at h;exact⟨_,Q8.l7_eq .. ▸h⟩;cases h
theorem Q8.spec (N:Nat)(a c:List Int)(r:List Int×Int)(h:Q8.f N a c=some r):kA Try.prog 109 [.agg [.il .u32 1 a],.agg [.il .u32 1 c]] [] (.tup [.agg [.il .u32 1 r.1],.c (.int .i64 r.2)]) ([]):=vA (Q8.env N) gA Try.func109 (eA.of (l:=[(.loop (cB ((jA (bo Try.f109)).getD 0 .skip)))]) (by kernel_rfl) (eA.cons (Q8.k7 N) eA.nil)) ((Q8.f_eq ..).trans h) fun v b e=>by unfold Q8.dec at e;split at e<;>cases e;exact⟨rfl,rfl⟩
theorem Q8.ent_ok (N:Nat):uA Try.prog 109 (Q8.ent N):=bB fun v a e h=>by split at h;exact wC (Q:=fun e=>kA _ _ _ _ (e a).pick.1 (e a).pick.2) h fun k=>Q8.spec N _ _ a k;cases h
noncomputable def Q9.l2 {R:Type}(N:Nat):Nat→Nat→Nat→List Int→Int→Int→Int→List Int→(List Int→Option R)→Option R
 |0,_,_,_,_,_,_,_,_=>none
 |n+1,c,d,g,i,j,a,b,h=>
  bif decide (a<j)then
   bif decide (a<(g.length:Int))then
    bif (decide (0≤a))&&(decide (a<(g.length:Int)))then
     bif (decide (0≤a))&&(decide (a<(d:Int)))then
      (Q1.f N (b.getD (c+a.toNat) 0) (g.getD a.toNat 0) i).bind fun e=>
      bif (decide (0≤a))&&(decide (a<(d:Int)))then
       Q9.l2 N n c d g e.2 j (aA (a+1)) (b.set (c+a.toNat) e.1) h
      else none
     else none
    else none
   else
   bif i==0 then
    h b
   else
   bif (decide (0≤a))&&(decide (a<(d:Int)))then
    (Q1.f N (b.getD (c+a.toNat) 0) 0 i).bind fun f=>
    bif (decide (0≤a))&&(decide (a<(d:Int)))then
     Q9.l2 N n c d g f.2 j (aA (a+1)) (b.set (c+a.toNat) f.1) h
    else none
   else none
  else
  h b
noncomputable def Q9.f (N c b:Nat)(d e:List Int):Option (List Int):=
 Q9.l2 N N c b d 0 (b:Int) 0 e
  (fun a=>
   some a)
noncomputable def Q9.h2:mE:=⟨[(0,.any),(1,.il .u32 1),(4,.any),(8,.any),(9,.any)],[]⟩
noncomputable def Q9.c2 (N:Nat):mM:=⟨fun vs H k=>match vs,H with
 | [.sl 0 1 d e,.il .u32 1 f,.c (.int .u32 g),.c (.int .i64 h),.c (.int .i64 a)],[.ints .u32 b]=>Q9.l2 N N d e f g h a b (fun c=>k (.exit 0) ⟨iE Q9.h2.out [],[.ints .u32 c]⟩)
 |_,_=>none⟩
noncomputable def Q9.E (N:Nat):gD:=uF [(86,cM),(129,eI)] [(125,Q1.ent N)] [(2,Q9.h2)] [(2,Q9.c2 N)] N [] [] 1 36
noncomputable def Q9.b2:Code:=cB ((jA (bo Try.f123)).getD 1 .skip)
theorem Q9.l2_eq {R:Type}(N n d e:Nat)(f:List Int)(g h a:Int)(b:List Int)(k:Ex→St→Option R):
  xB 1 Q9.h2 (fun s k=>kB (Q9.E N) 394 Q9.b2 s k) n [.sl 0 1 d e,.il .u32 1 f,.c (.int .u32 g),.c (.int .i64 h),.c (.int .i64 a)] [.ints .u32 b] k=Q9.l2 N n d e f g h a b (fun c=>k (.exit 0) ⟨iE Q9.h2.out [],[.ints .u32 c]⟩):=by
 induction n generalizing d e f g h a b with
 |zero=>kernel_rfl
 |succ n ih=>
  simp only[Q9.l2,←ih]
  kernel_rfl
noncomputable def Q9.dec (v:V)(bs:List nA):Option (List Int):=match v,bs with
 | .tup [],[.ints .u32 a]=>some a
 |_,_=>none
theorem Q9.f_eq (N a b:Nat)(c d:List Int):
  gB (Q9.E N) (bo Try.f123) [.sl 0 1 a b,.il .u32 1 c] [.ints .u32 d] Q9.dec=Q9.f N a b c d:=by kernel_rfl
noncomputable def Q9.ent (N:Nat):wA:={A:=List Int,fresh:=0,imm:=[false,true],dec:=fun args bs=>match iJ (oA bs) [true,false] args,bs with
 | [.sl 0 1 a b,.il .u32 1 c],[.ints .u32 d]=>some (Q9.f N a b c d,fun r=>.one (.tup []) [.ints .u32 r])
 |_,_=>none}
theorem Q9.env (N:Nat):eB Try.prog (Q9.E N):=⟨(.cons cE (.cons sD .nil)),(.cons (Q1.ent_ok N) .nil)⟩
theorem Q9.k2 (N:Nat):qC Try.prog Try.f123 (Q9.E N) (.loop Q9.b2):=dE (Q9.env N) gA 394 (c:=Q9.c2 N) eA.n fun R vs H k r h=>by unfold Q9.c2 at h;dsimp only at h;split at h;exact⟨_,Q9.l2_eq .. ▸h⟩;cases h
theorem Q9.spec (N a c:Nat)(d f r:List Int)(h:Q9.f N a c d f=some r):kA Try.prog 123 [.sl 0 1 a c,.il .u32 1 d] [.ints .u32 f] (.tup []) ([.ints .u32 r]):=vA (Q9.env N) gA Try.func123 (eA.of (l:=[(.scope (cB ((jA (bo Try.f123)).getD 0 .skip))),(.loop (cB ((jA (bo Try.f123)).getD 1 .skip)))]) (by kernel_rfl) (eA.cons (tR (by kernel_rfl)) (eA.cons (Q9.k2 N) eA.nil))) ((Q9.f_eq ..).trans h) fun v b e=>by unfold Q9.dec at e;split at e<;>cases e;exact⟨rfl,rfl⟩
theorem Q9.ent_ok (N:Nat):uA Try.prog 123 (Q9.ent N):=by
 intro args bs a enc h;simp only[Q9.ent]at h;split at h
 ·rename_i hz;have h0:=Option.some.inj h;have h1:=congrArg Prod.fst h0;have h2:=congrArg Prod.snd h0;dsimp only at h1 h2;subst h2;exact kA.of_asSl (fl:=[true,false]) (by rw[hz];exact Q9.spec N _ _ _ _ a h1)
 ·cases h
noncomputable def Q10.f (N:Nat)(a c:List Int):Option (List Int×Int):=
 (Q7.f N a c).bind fun e=>
 bif decide (e<0)then
  some ([],10)
 else
 bif decide ((a.length:Int)=(a.length:Int))&&decide (0≤(a.length:Int))&&decide ((a.length:Int)≤9223372036854775807)&&zA ((a.length:Int).toNat) 4 then
  (Q9.f N 0 ((uE (List.replicate ((a.length:Int).toNat) (0:Int)) 0 (a.take (min a.length ((List.replicate ((a.length:Int).toNat) (0:Int)).length)))).length) c (uE (List.replicate ((a.length:Int).toNat) (0:Int)) 0 (a.take (min a.length ((List.replicate ((a.length:Int).toNat) (0:Int)).length))))).bind fun d=>
  (Q2.f N 0 d.length d).bind fun b=>
  some ((b.2.2.drop b.1).take b.2.1,0)
 else none
noncomputable def Q10.E (N:Nat):gD:=uF [(86,cM),(88,qH),(129,eI)] [(105,Q7.ent N),(123,Q9.ent N),(92,Q2.ent N)] [] [] N [.cell 4 88,.tmp 5] [.recd [.il .u32 1],.any] 0 26
noncomputable def Q10.dec (v:V)(bs:List nA):Option (List Int×Int):=match v,bs with
 | .tup [.agg [.il .u32 1 a],.c (.int .i64 b)],[]=>some (a,b)
 |_,_=>none
theorem Q10.f_eq (N:Nat)(a b:List Int):
  gB (Q10.E N) (bo Try.f110) [.agg [.il .u32 1 a],.agg [.il .u32 1 b]] [] Q10.dec=Q10.f N a b:=by kernel_rfl
noncomputable def Q10.ent (N:Nat):wA:=sG (List Int×Int) 0 [true,true] [.recd [.il .u32 1],.recd [.il .u32 1]] fun
 | [.agg [.il .u32 1 a],.agg [.il .u32 1 b]]=>some (Q10.f N a b,fun r=>.one (.tup [.agg [.il .u32 1 r.1],.c (.int .i64 r.2)]) [])
 |_=>none
theorem Q10.env (N:Nat):eB Try.prog (Q10.E N):=⟨(.cons cE (.cons jC (.cons sD .nil))),(.cons (Q7.ent_ok N) (.cons (Q9.ent_ok N) (.cons (Q2.ent_ok N) .nil)))⟩
theorem Q10.spec (N:Nat)(a c:List Int)(r:List Int×Int)(h:Q10.f N a c=some r):kA Try.prog 110 [.agg [.il .u32 1 a],.agg [.il .u32 1 c]] [] (.tup [.agg [.il .u32 1 r.1],.c (.int .i64 r.2)]) ([]):=vA (Q10.env N) gA Try.func110 eA.n ((Q10.f_eq ..).trans h) fun v b e=>by unfold Q10.dec at e;split at e<;>cases e;exact⟨rfl,rfl⟩
theorem Q10.ent_ok (N:Nat):uA Try.prog 110 (Q10.ent N):=bB fun v a e h=>by split at h;exact wC (Q:=fun e=>kA _ _ _ _ (e a).pick.1 (e a).pick.2) h fun k=>Q10.spec N _ _ a k;cases h
noncomputable def Q11.l7 {R:Type}(N:Nat):Nat→Int→Int→Int→List Int→Int→Int→List Int→Int→Int→List Int→List Int→(Int→Int→List Int→Int→Int→List Int→List Int→Option R)→Option R
 |0,_,_,_,_,_,_,_,_,_,_,_,_=>none
 |n+1,d,k,e,f,g,h,c,i,a,j,b,l=>
  bif decide (a<i)then
   bif (decide (0≤a))&&(decide (a<(c.length:Int)))then
    bif (decide (0≤(aA (d+a))))&&(decide ((aA (d+a))<(b.length:Int)))then
     bif (decide (0≤(aA (d+a))))&&(decide ((aA (d+a))<(b.length:Int)))then
      Q11.l7 N n d k (Int.fdiv (lA (e+(lA ((lA ((lA k)*(lA (c.getD a.toNat 0))))+(lA (b.getD ((aA (d+a)).toNat) 0)))))) (2^32)) f g h c i (aA (a+1)) j (b.set ((aA (d+a)).toNat) (rE (lA (e+(lA ((lA ((lA k)*(lA (c.getD a.toNat 0))))+(lA (b.getD ((aA (d+a)).toNat) 0)))))))) l
     else none
    else none
   else none
  else
  l d e f g h j b
noncomputable def Q11.l3 {R:Type}(N:Nat):Nat→List Int→Int→Int→List Int→List Int→(List Int→Option R)→Option R
 |0,_,_,_,_,_,_=>none
 |n+1,e,l,c,f,m,k=>
  bif decide (c<l)then
   bif (decide (0≤c))&&(decide (c<(e.length:Int)))then
    Q11.l7 N N c (e.getD c.toNat 0) 0 e l c f (f.length:Int) 0 f m
     (fun b g h i j a d=>
      bif (decide (0≤(aA (b+(a.length:Int)))))&&(decide ((aA (b+(a.length:Int)))<(d.length:Int)))then
       Q11.l3 N n h i (aA (j+1)) a (d.set ((aA (b+(a.length:Int))).toNat) (rE g)) k
      else none)
   else none
  else
  k m
noncomputable def Q11.f (N:Nat)(a b:List Int):Option (List Int):=
 bif decide (aA ((a.length:Int)+(b.length:Int))=aA ((a.length:Int)+(b.length:Int)))&&decide (0≤aA ((a.length:Int)+(b.length:Int)))&&decide (aA ((a.length:Int)+(b.length:Int))≤9223372036854775807)&&zA ((aA ((a.length:Int)+(b.length:Int))).toNat) 4 then
  Q11.l3 N N a (a.length:Int) 0 b (List.replicate ((aA ((a.length:Int)+(b.length:Int))).toNat) (0:Int))
   (fun d=>
    (Q2.f N 0 d.length d).bind fun c=>
    some ((c.2.2.drop c.1).take c.2.1))
 else none
noncomputable def Q11.h3:mE:=⟨[(3,.box [.il .u32 1]),(4,.box [.any]),(5,.row .u32 1),(20,.il .u32 1),(21,.any),(22,.any)],[(4,.box [.any]),(5,.row .u32 1)]⟩
noncomputable def Q11.h7:mE:=⟨[(3,.box [.il .u32 1]),(4,.box [.any]),(5,.row .u32 1),(6,.any),(7,.any),(8,.any),(20,.il .u32 1),(21,.any),(22,.any),(28,.il .u32 1),(29,.any),(30,.any)],[(3,.box [.il .u32 1]),(4,.box [.any]),(5,.row .u32 1),(6,.any),(8,.any),(20,.il .u32 1),(21,.any),(22,.any)]⟩
noncomputable def Q11.c7 (N:Nat):mM:=⟨fun vs H k=>match vs,H with
 | [.ptr 0 0 1,.ptr 1 0 1,.sw 2 1,.c (.int .i64 s),.c (.int .u32 t),.c (.int .u64 a),.il .u32 1 b,.c (.int .i64 c),.c (.int .i64 d),.il .u32 1 e,.c (.int .i64 f),.c (.int .i64 g)],[.vals [.il .u32 1 h],.vals [.c (.slice none 0 0)],.ints .u32 i]=>Q11.l7 N N s t a b c d e f g h i (fun j l m o p q r=>k (.exit 2) ⟨iE Q11.h7.out [.ptr 0 0 1,.ptr 1 0 1,.sw 2 1,.c (.int .i64 j),.c (.int .u64 l),.il .u32 1 m,.c (.int .i64 o),.c (.int .i64 p)],[.vals [.il .u32 1 q],.vals [.c (.slice none 0 0)],.ints .u32 r]⟩)
 |_,_=>none⟩
noncomputable def Q11.c3 (N:Nat):mM:=⟨fun vs H k=>match vs,H with
 | [.ptr 0 0 1,.ptr 1 0 1,.sw 2 1,.il .u32 1 b,.c (.int .i64 c),.c (.int .i64 d)],[.vals [.il .u32 1 e],.vals [.c (.slice none 0 0)],.ints .u32 f]=>Q11.l3 N N b c d e f (fun a=>k (.exit 0) ⟨iE Q11.h3.out [.ptr 0 0 1,.sw 1 1],[.vals [.c (.slice none 0 0)],.ints .u32 a]⟩)
 |_,_=>none⟩
noncomputable def Q11.E (N:Nat):gD:=uF [(86,cM),(88,qH),(115,zJ),(129,eI)] [(92,Q2.ent N)] [(3,Q11.h3),(7,Q11.h7)] [(7,Q11.c7 N),(3,Q11.c3 N)] N [.cell 4 88] [.recd [.il .u32 1]] 0 72
noncomputable def Q11.b7:Code:=cB ((jA (bo Try.f121)).getD 1 .skip)
theorem Q11.l7_eq {R:Type}(N n:Nat)(t u a:Int)(b:List Int)(c d:Int)(e:List Int)(f g:Int)(h i:List Int)(k:Ex→St→Option R):
  xB 0 Q11.h7 (fun s k=>kB (Q11.E N) 384 Q11.b7 s k) n [.ptr 0 0 1,.ptr 1 0 1,.sw 2 1,.c (.int .i64 t),.c (.int .u32 u),.c (.int .u64 a),.il .u32 1 b,.c (.int .i64 c),.c (.int .i64 d),.il .u32 1 e,.c (.int .i64 f),.c (.int .i64 g)] [.vals [.il .u32 1 h],.vals [.c (.slice none 0 0)],.ints .u32 i] k=Q11.l7 N n t u a b c d e f g h i (fun j l m o p q r=>k (.exit 2) ⟨iE Q11.h7.out [.ptr 0 0 1,.ptr 1 0 1,.sw 2 1,.c (.int .i64 j),.c (.int .u64 l),.il .u32 1 m,.c (.int .i64 o),.c (.int .i64 p)],[.vals [.il .u32 1 q],.vals [.c (.slice none 0 0)],.ints .u32 r]⟩):=by
 induction n generalizing t u a b c d e f g h i with
 |zero=>kernel_rfl
 |succ n ih=>
  simp only[Q11.l7,←ih]
  kernel_rfl
noncomputable def Q11.b3:Code:=cB ((jA (bo Try.f121)).getD 0 .skip)
theorem Q11.l3_eq {R:Type}(N n:Nat)(a:List Int)(c d:Int)(e f:List Int)(k:Ex→St→Option R):
  xB 0 Q11.h3 (fun s k=>kB (Q11.E N) 394 Q11.b3 s k) n [.ptr 0 0 1,.ptr 1 0 1,.sw 2 1,.il .u32 1 a,.c (.int .i64 c),.c (.int .i64 d)] [.vals [.il .u32 1 e],.vals [.c (.slice none 0 0)],.ints .u32 f] k=Q11.l3 N n a c d e f (fun b=>k (.exit 0) ⟨iE Q11.h3.out [.ptr 0 0 1,.sw 1 1],[.vals [.c (.slice none 0 0)],.ints .u32 b]⟩):=by
 induction n generalizing a c d e f with
 |zero=>kernel_rfl
 |succ n ih=>
  simp only[Q11.l3,←ih]
  kernel_rfl
noncomputable def Q11.dec (v:V)(bs:List nA):Option (List Int):=match v,bs with
 | .agg [.il .u32 1 a],[]=>some a
 |_,_=>none
theorem Q11.f_eq (N:Nat)(a b:List Int):
  gB (Q11.E N) (bo Try.f121) [.agg [.il .u32 1 a],.agg [.il .u32 1 b]] [] Q11.dec=Q11.f N a b:=by kernel_rfl
noncomputable def Q11.ent (N:Nat):wA:=sG (List Int) 0 [true,true] [.recd [.il .u32 1],.recd [.il .u32 1]] fun
 | [.agg [.il .u32 1 a],.agg [.il .u32 1 b]]=>some (Q11.f N a b,fun r=>.one (.agg [.il .u32 1 r]) [])
 |_=>none
theorem Q11.env (N:Nat):eB Try.prog (Q11.E N):=⟨(.cons cE (.cons jC (.cons pE (.cons sD .nil)))),(.cons (Q2.ent_ok N) .nil)⟩
theorem Q11.k7 (N:Nat):qC Try.prog Try.f121 (Q11.E N) (.loop Q11.b7):=dE (Q11.env N) gA 384 (c:=Q11.c7 N) eA.n fun R vs H k r h=>by unfold Q11.c7 at h;dsimp only at h;split at h;exact⟨_,Q11.l7_eq .. ▸h⟩;cases h
theorem Q11.k3 (N:Nat):qC Try.prog Try.f121 (Q11.E N) (.loop Q11.b3):=dE (Q11.env N) gA 394 (c:=Q11.c3 N) (eA.of (l:=[(.loop (cB ((jA (bo Try.f121)).getD 1 .skip)))]) (by kernel_rfl) (eA.cons (Q11.k7 N) eA.nil)) fun R vs H k r h=>by unfold Q11.c3 at h;dsimp only at h;split at h;exact⟨_,Q11.l3_eq .. ▸h⟩;cases h
theorem Q11.spec (N:Nat)(a c r:List Int)(h:Q11.f N a c=some r):kA Try.prog 121 [.agg [.il .u32 1 a],.agg [.il .u32 1 c]] [] (.agg [.il .u32 1 r]) ([]):=vA (Q11.env N) gA Try.func121 (eA.of (l:=[(.loop (cB ((jA (bo Try.f121)).getD 0 .skip))),(.loop (cB ((jA (bo Try.f121)).getD 1 .skip)))]) (by kernel_rfl) (eA.cons (Q11.k3 N) (eA.cons (Q11.k7 N) eA.nil))) ((Q11.f_eq ..).trans h) fun v b e=>by unfold Q11.dec at e;split at e<;>cases e;exact⟨rfl,rfl⟩
theorem Q11.ent_ok (N:Nat):uA Try.prog 121 (Q11.ent N):=bB fun v a e h=>by split at h;exact wC (Q:=fun e=>kA _ _ _ _ (e a).pick.1 (e a).pick.2) h fun k=>Q11.spec N _ _ a k;cases h
noncomputable def Q12.f (N:Nat)(a b:List Int):Option (List Int×Int):=
 (Q3.f N a).bind fun d=>
 (Q3.f N b).bind fun e=>
 bif decide ((aA (d+e))>4097)then
  some ([],3)
 else
 (Q11.f N a b).bind fun f=>
 (Q4.f N f).bind fun c=>
 some (c.1,c.2)
noncomputable def Q12.E (N:Nat):gD:=uF [(86,cM),(88,qH)] [(77,Q3.ent N),(121,Q11.ent N),(122,Q4.ent N)] [] [] N [.cell 4 88,.tmp 5] [.recd [.il .u32 1],.any] 0 19
noncomputable def Q12.dec (v:V)(bs:List nA):Option (List Int×Int):=match v,bs with
 | .tup [.agg [.il .u32 1 a],.c (.int .i64 b)],[]=>some (a,b)
 |_,_=>none
theorem Q12.f_eq (N:Nat)(a b:List Int):
  gB (Q12.E N) (bo Try.f108) [.agg [.il .u32 1 a],.agg [.il .u32 1 b]] [] Q12.dec=Q12.f N a b:=by kernel_rfl
noncomputable def Q12.ent (N:Nat):wA:=sG (List Int×Int) 0 [true,true] [.recd [.il .u32 1],.recd [.il .u32 1]] fun
 | [.agg [.il .u32 1 a],.agg [.il .u32 1 b]]=>some (Q12.f N a b,fun r=>.one (.tup [.agg [.il .u32 1 r.1],.c (.int .i64 r.2)]) [])
 |_=>none
theorem Q12.env (N:Nat):eB Try.prog (Q12.E N):=⟨(.cons cE (.cons jC .nil)),(.cons (Q3.ent_ok N) (.cons (Q11.ent_ok N) (.cons (Q4.ent_ok N) .nil)))⟩
theorem Q12.spec (N:Nat)(a c:List Int)(r:List Int×Int)(h:Q12.f N a c=some r):kA Try.prog 108 [.agg [.il .u32 1 a],.agg [.il .u32 1 c]] [] (.tup [.agg [.il .u32 1 r.1],.c (.int .i64 r.2)]) ([]):=vA (Q12.env N) gA Try.func108 eA.n ((Q12.f_eq ..).trans h) fun v b e=>by unfold Q12.dec at e;split at e<;>cases e;exact⟨rfl,rfl⟩
theorem Q12.ent_ok (N:Nat):uA Try.prog 108 (Q12.ent N):=bB fun v a e h=>by split at h;exact wC (Q:=fun e=>kA _ _ _ _ (e a).pick.1 (e a).pick.2) h fun k=>Q12.spec N _ _ a k;cases h
noncomputable def Q13.f (N:Nat)(a:Int):Option (Int):=
 (Q0.f N a).bind fun b=>
 some (aA (32-b))
noncomputable def Q13.E (N:Nat):gD:=uF [] [(93,Q0.ent N)] [] [] N [.tmp 2] [.any] 0 6
noncomputable def Q13.dec (v:V)(bs:List nA):Option (Int):=match v,bs with
 | .c (.int .i64 a),[]=>some a
 |_,_=>none
theorem Q13.f_eq (N:Nat)(a:Int):
  gB (Q13.E N) (bo Try.f117) [.c (.int .u32 a)] [] Q13.dec=Q13.f N a:=by kernel_rfl
noncomputable def Q13.ent (N:Nat):wA:=sG (Int) 0 [true] [.any] fun
 | [.c (.int .u32 a)]=>some (Q13.f N a,fun r=>.one (.c (.int .i64 r)) [])
 |_=>none
theorem Q13.env (N:Nat):eB Try.prog (Q13.E N):=⟨.nil,(.cons (Q0.ent_ok N) .nil)⟩
theorem Q13.spec (N:Nat)(a r:Int)(h:Q13.f N a=some r):kA Try.prog 117 [.c (.int .u32 a)] [] (.c (.int .i64 r)) ([]):=vA (Q13.env N) gA Try.func117 eA.n ((Q13.f_eq ..).trans h) fun v b e=>by unfold Q13.dec at e;split at e<;>cases e;exact⟨rfl,rfl⟩
theorem Q13.ent_ok (N:Nat):uA Try.prog 117 (Q13.ent N):=bB fun v a e h=>by split at h;exact wC (Q:=fun e=>kA _ _ _ _ (e a).pick.1 (e a).pick.2) h fun k=>Q13.spec N _ a k;cases h
noncomputable def Q14.l3 {R:Type}(N:Nat):Nat→Nat→Nat→Int→Int→Int→List Int→(Int→List Int→Option R)→Option R
 |0,_,_,_,_,_,_,_=>none
 |n+1,d,e,c,f,b,a,g=>
  bif decide (b≥0)then
   bif (decide (0≤b))&&(decide (b<(e:Int)))then
    bif !((lA c)==0)then
     bif !((lA c)==0)then
      bif (decide (0≤b))&&(decide (b<(e:Int)))then
       Q14.l3 N n d e c (Int.tmod (oD .u64 (lA (f*2^32)) (lA (a.getD (d+b.toNat) 0))) (lA c)) (aA (b-1)) (a.set (d+b.toNat) (rE (lA (Int.tdiv (oD .u64 (lA (f*2^32)) (lA (a.getD (d+b.toNat) 0))) (lA c))))) g
      else none
     else none
    else none
   else none
  else
  g f a
noncomputable def Q14.f (N d c:Nat)(e:Int)(f:List Int):Option (Int×List Int):=
 Q14.l3 N N d c e 0 (aA ((c:Int)-1)) f
  (fun a b=>
   some (rE a,b))
noncomputable def Q14.h3:mE:=⟨[(0,.any),(1,.any),(5,.any),(6,.any)],[(5,.any)]⟩
noncomputable def Q14.c3 (N:Nat):mM:=⟨fun vs H k=>match vs,H with
 | [.sl 0 1 d e,.c (.int .u32 f),.c (.int .u64 g),.c (.int .i64 h)],[.ints .u32 a]=>Q14.l3 N N d e f g h a (fun b c=>k (.exit 0) ⟨iE Q14.h3.out [.c (.int .u64 b)],[.ints .u32 c]⟩)
 |_,_=>none⟩
noncomputable def Q14.E (N:Nat):gD:=uF [(86,cM),(115,zJ),(129,eI)] [] [(3,Q14.h3)] [(3,Q14.c3 N)] N [.tmp 4] [.any] 1 37
noncomputable def Q14.b3:Code:=cB ((jA (bo Try.f106)).getD 0 .skip)
theorem Q14.l3_eq {R:Type}(N n d e:Nat)(f g h:Int)(a:List Int)(k:Ex→St→Option R):
  xB 1 Q14.h3 (fun s k=>kB (Q14.E N) 394 Q14.b3 s k) n [.sl 0 1 d e,.c (.int .u32 f),.c (.int .u64 g),.c (.int .i64 h)] [.ints .u32 a] k=Q14.l3 N n d e f g h a (fun b c=>k (.exit 0) ⟨iE Q14.h3.out [.c (.int .u64 b)],[.ints .u32 c]⟩):=by
 induction n generalizing d e f g h a with
 |zero=>kernel_rfl
 |succ n ih=>
  simp only[Q14.l3,←ih]
  kernel_rfl
noncomputable def Q14.dec (v:V)(bs:List nA):Option (Int×List Int):=match v,bs with
 | .c (.int .u32 a),[.ints .u32 b]=>some (a,b)
 |_,_=>none
theorem Q14.f_eq (N a b:Nat)(c:Int)(d:List Int):
  gB (Q14.E N) (bo Try.f106) [.sl 0 1 a b,.c (.int .u32 c)] [.ints .u32 d] Q14.dec=Q14.f N a b c d:=by kernel_rfl
noncomputable def Q14.ent (N:Nat):wA:={A:=Int×List Int,fresh:=0,imm:=[false,true],dec:=fun args bs=>match iJ (oA bs) [true,false] args,bs with
 | [.sl 0 1 a b,.c (.int .u32 c)],[.ints .u32 d]=>some (Q14.f N a b c d,fun r=>.one (.c (.int .u32 r.1)) [.ints .u32 r.2])
 |_,_=>none}
theorem Q14.env (N:Nat):eB Try.prog (Q14.E N):=⟨(.cons cE (.cons pE (.cons sD .nil))),.nil⟩
theorem Q14.k3 (N:Nat):qC Try.prog Try.f106 (Q14.E N) (.loop Q14.b3):=dE (Q14.env N) gA 394 (c:=Q14.c3 N) eA.n fun R vs H k r h=>by unfold Q14.c3 at h;dsimp only at h;split at h;exact⟨_,Q14.l3_eq .. ▸h⟩;cases h
theorem Q14.spec (N a c:Nat)(d:Int)(f:List Int)(r:Int×List Int)(h:Q14.f N a c d f=some r):kA Try.prog 106 [.sl 0 1 a c,.c (.int .u32 d)] [.ints .u32 f] (.c (.int .u32 r.1)) ([.ints .u32 r.2]):=vA (Q14.env N) gA Try.func106 (eA.of (l:=[(.loop (cB ((jA (bo Try.f106)).getD 0 .skip)))]) (by kernel_rfl) (eA.cons (Q14.k3 N) eA.nil)) ((Q14.f_eq ..).trans h) fun v b e=>by unfold Q14.dec at e;split at e<;>cases e;exact⟨rfl,rfl⟩
theorem Q14.ent_ok (N:Nat):uA Try.prog 106 (Q14.ent N):=by
 intro args bs a enc h;simp only[Q14.ent]at h;split at h
 ·rename_i hz;have h0:=Option.some.inj h;have h1:=congrArg Prod.fst h0;have h2:=congrArg Prod.snd h0;dsimp only at h1 h2;subst h2;exact kA.of_asSl (fl:=[true,false]) (by rw[hz];exact Q14.spec N _ _ _ _ a h1)
 ·cases h
noncomputable def Q15.l4 {R:Type}(N:Nat):Nat→List Int→Int→Int→Int→Int→List Int→(List Int→Option R)→Option R
 |0,_,_,_,_,_,_,_=>none
 |n+1,b,c,e,g,a,d,f=>
  bif decide (a<g)then
   bif decide (a<(b.length:Int))then
    bif (decide (0≤a))&&(decide (a<(b.length:Int)))then
     bif decide (0≤c)then
      bif (decide (0≤a))&&(decide (a<(d.length:Int)))then
       Q15.l4 N n b c (Int.fdiv (oD .u64 e (lA ((lA (b.getD a.toNat 0))*2^(min c.toNat 64)))) (2^32)) g (aA (a+1)) (d.set a.toNat (rE (oD .u64 e (lA ((lA (b.getD a.toNat 0))*2^(min c.toNat 64)))))) f
      else none
     else none
    else none
   else
   bif (decide (0≤a))&&(decide (a<(d.length:Int)))then
    Q15.l4 N n b c (Int.fdiv e (2^32)) g (aA (a+1)) (d.set a.toNat (rE e)) f
   else none
  else
  f d
noncomputable def Q15.f (N:Nat)(c:List Int)(d a:Int):Option (List Int):=
 bif decide (a=a)&&decide (0≤a)&&decide (a≤9223372036854775807)&&zA a.toNat 4 then
  Q15.l4 N N c d 0 ((List.replicate a.toNat (0:Int)).length:Int) 0 (List.replicate a.toNat (0:Int))
   (fun b=>
    some b)
 else none
noncomputable def Q15.h4:mE:=⟨[(0,.il .u32 1),(1,.any),(7,.row .u32 1),(8,.any),(13,.any),(14,.any)],[(7,.row .u32 1)]⟩
noncomputable def Q15.c4 (N:Nat):mM:=⟨fun vs H k=>match vs,H with
 | [.il .u32 1 b,.c (.int .i64 c),.sw 0 1,.c (.int .u64 d),.c (.int .i64 e),.c (.int .i64 f)],[.ints .u32 g]=>Q15.l4 N N b c d e f g (fun a=>k (.exit 0) ⟨iE Q15.h4.out [.sw 0 1],[.ints .u32 a]⟩)
 |_,_=>none⟩
noncomputable def Q15.E (N:Nat):gD:=uF [(86,cM),(115,zJ),(129,eI)] [] [(4,Q15.h4)] [(4,Q15.c4 N)] N [.tmp 6] [.row .u32 1] 0 39 true
noncomputable def Q15.b4:Code:=cB ((jA (bo Try.f118)).getD 0 .skip)
theorem Q15.l4_eq {R:Type}(N n:Nat)(b:List Int)(c d e f:Int)(g:List Int)(k:Ex→St→Option R):
  xB 0 Q15.h4 (fun s k=>kB (Q15.E N) 393 Q15.b4 s k) n [.il .u32 1 b,.c (.int .i64 c),.sw 0 1,.c (.int .u64 d),.c (.int .i64 e),.c (.int .i64 f)] [.ints .u32 g] k=Q15.l4 N n b c d e f g (fun a=>k (.exit 0) ⟨iE Q15.h4.out [.sw 0 1],[.ints .u32 a]⟩):=by
 induction n generalizing b c d e f g with
 |zero=>kernel_rfl
 |succ n ih=>
  simp only[Q15.l4,←ih]
  kernel_rfl
noncomputable def Q15.dec (v:V)(bs:List nA):Option (List Int):=match v,bs with
 | .sw 0 1,[.ints .u32 a]=>some a
 |_,_=>none
theorem Q15.f_eq (N:Nat)(a:List Int)(b c:Int):
  gB (Q15.E N) (bo Try.f118) [.il .u32 1 a,.c (.int .i64 b),.c (.int .i64 c)] [] Q15.dec=Q15.f N a b c:=by kernel_rfl
noncomputable def Q15.ent (N:Nat):wA:=sG (List Int) 1 [true,true,true] [.il .u32 1,.any,.any] fun
 | [.il .u32 1 a,.c (.int .i64 b),.c (.int .i64 c)]=>some (Q15.f N a b c,fun r=>.one (.sw 0 1) [.ints .u32 r])
 |_=>none
theorem Q15.env (N:Nat):eB Try.prog (Q15.E N):=⟨(.cons cE (.cons pE (.cons sD .nil))),.nil⟩
theorem Q15.k4 (N:Nat):qC Try.prog Try.f118 (Q15.E N) (.loop Q15.b4):=dE (Q15.env N) gA 393 (c:=Q15.c4 N) eA.n fun R vs H k r h=>by unfold Q15.c4 at h;dsimp only at h;split at h;exact⟨_,Q15.l4_eq .. ▸h⟩;cases h
theorem Q15.spec (N:Nat)(a:List Int)(c d:Int)(r:List Int)(h:Q15.f N a c d=some r):kA Try.prog 118 [.il .u32 1 a,.c (.int .i64 c),.c (.int .i64 d)] [] (.sw 0 1) ([.ints .u32 r]):=vA (Q15.env N) gA Try.func118 (eA.of (l:=[(.loop (cB ((jA (bo Try.f118)).getD 0 .skip)))]) (by kernel_rfl) (eA.cons (Q15.k4 N) eA.nil)) ((Q15.f_eq ..).trans h) fun v b e=>by unfold Q15.dec at e;split at e<;>cases e;exact⟨rfl,rfl⟩
theorem Q15.ent_ok (N:Nat):uA Try.prog 118 (Q15.ent N):=bB fun v a e h=>by split at h;exact wC (Q:=fun e=>kA _ _ _ _ (e a).pick.1 (e a).pick.2) h fun k=>Q15.spec N _ _ _ a k;cases h
noncomputable def Q16.l3 {R:Type}(N:Nat):Nat→List Int→Int→Int→Int→List Int→(List Int→Option R)→Option R
 |0,_,_,_,_,_,_=>none
 |n+1,b,c,f,a,d,e=>
  bif decide (a<f)then
   bif (decide (0≤a))&&(decide (a<(b.length:Int)))then
    bif decide ((aA (a+1))<(b.length:Int))then
     bif (decide (0≤(aA (a+1))))&&(decide ((aA (a+1))<(b.length:Int)))then
      bif decide (0≤c)then
       bif (decide (0≤a))&&(decide (a<(d.length:Int)))then
        Q16.l3 N n b c f (aA (a+1)) (d.set a.toNat (rE (Int.fdiv (oD .u64 (lA (b.getD a.toNat 0)) (lA ((lA (b.getD ((aA (a+1)).toNat) 0))*2^32))) (2^(min c.toNat 64))))) e
       else none
      else none
     else none
    else
    bif decide (0≤c)then
     bif (decide (0≤a))&&(decide (a<(d.length:Int)))then
      Q16.l3 N n b c f (aA (a+1)) (d.set a.toNat (rE (Int.fdiv (lA (b.getD a.toNat 0)) (2^(min c.toNat 64))))) e
     else none
    else none
   else none
  else
  e d
noncomputable def Q16.f (N:Nat)(a:List Int)(d:Int):Option (List Int):=
 bif decide ((a.length:Int)=(a.length:Int))&&decide (0≤(a.length:Int))&&decide ((a.length:Int)≤9223372036854775807)&&zA ((a.length:Int).toNat) 4 then
  Q16.l3 N N a d (a.length:Int) 0 (List.replicate ((a.length:Int).toNat) (0:Int))
   (fun c=>
    (Q2.f N 0 c.length c).bind fun b=>
    some ((b.2.2.drop b.1).take b.2.1))
 else none
noncomputable def Q16.h3:mE:=⟨[(0,.il .u32 1),(1,.any),(4,.box [.any]),(5,.row .u32 1),(12,.any),(13,.any)],[(4,.box [.any]),(5,.row .u32 1)]⟩
noncomputable def Q16.c3 (N:Nat):mM:=⟨fun vs H k=>match vs,H with
 | [.il .u32 1 a,.c (.int .i64 b),.ptr 0 0 1,.sw 1 1,.c (.int .i64 c),.c (.int .i64 d)],[.vals [.c (.slice none 0 0)],.ints .u32 e]=>Q16.l3 N N a b c d e (fun f=>k (.exit 0) ⟨iE Q16.h3.out [.ptr 0 0 1,.sw 1 1],[.vals [.c (.slice none 0 0)],.ints .u32 f]⟩)
 |_,_=>none⟩
noncomputable def Q16.E (N:Nat):gD:=uF [(86,cM),(88,qH),(115,zJ),(129,eI)] [(92,Q2.ent N)] [(3,Q16.h3)] [(3,Q16.c3 N)] N [.cell 4 88] [.recd [.il .u32 1]] 0 45
noncomputable def Q16.b3:Code:=cB ((jA (bo Try.f120)).getD 0 .skip)
theorem Q16.l3_eq {R:Type}(N n:Nat)(a:List Int)(b c d:Int)(e:List Int)(k:Ex→St→Option R):
  xB 0 Q16.h3 (fun s k=>kB (Q16.E N) 394 Q16.b3 s k) n [.il .u32 1 a,.c (.int .i64 b),.ptr 0 0 1,.sw 1 1,.c (.int .i64 c),.c (.int .i64 d)] [.vals [.c (.slice none 0 0)],.ints .u32 e] k=Q16.l3 N n a b c d e (fun f=>k (.exit 0) ⟨iE Q16.h3.out [.ptr 0 0 1,.sw 1 1],[.vals [.c (.slice none 0 0)],.ints .u32 f]⟩):=by
 induction n generalizing a b c d e with
 |zero=>kernel_rfl
 |succ n ih=>
  simp only[Q16.l3,←ih]
  kernel_rfl
noncomputable def Q16.dec (v:V)(bs:List nA):Option (List Int):=match v,bs with
 | .agg [.il .u32 1 a],[]=>some a
 |_,_=>none
theorem Q16.f_eq (N:Nat)(a:List Int)(b:Int):
  gB (Q16.E N) (bo Try.f120) [.il .u32 1 a,.c (.int .i64 b)] [] Q16.dec=Q16.f N a b:=by kernel_rfl
noncomputable def Q16.ent (N:Nat):wA:=sG (List Int) 0 [true,true] [.il .u32 1,.any] fun
 | [.il .u32 1 a,.c (.int .i64 b)]=>some (Q16.f N a b,fun r=>.one (.agg [.il .u32 1 r]) [])
 |_=>none
theorem Q16.env (N:Nat):eB Try.prog (Q16.E N):=⟨(.cons cE (.cons jC (.cons pE (.cons sD .nil)))),(.cons (Q2.ent_ok N) .nil)⟩
theorem Q16.k3 (N:Nat):qC Try.prog Try.f120 (Q16.E N) (.loop Q16.b3):=dE (Q16.env N) gA 394 (c:=Q16.c3 N) eA.n fun R vs H k r h=>by unfold Q16.c3 at h;dsimp only at h;split at h;exact⟨_,Q16.l3_eq .. ▸h⟩;cases h
theorem Q16.spec (N:Nat)(a:List Int)(c:Int)(r:List Int)(h:Q16.f N a c=some r):kA Try.prog 120 [.il .u32 1 a,.c (.int .i64 c)] [] (.agg [.il .u32 1 r]) ([]):=vA (Q16.env N) gA Try.func120 (eA.of (l:=[(.loop (cB ((jA (bo Try.f120)).getD 0 .skip)))]) (by kernel_rfl) (eA.cons (Q16.k3 N) eA.nil)) ((Q16.f_eq ..).trans h) fun v b e=>by unfold Q16.dec at e;split at e<;>cases e;exact⟨rfl,rfl⟩
theorem Q16.ent_ok (N:Nat):uA Try.prog 120 (Q16.ent N):=bB fun v a e h=>by split at h;exact wC (Q:=fun e=>kA _ _ _ _ (e a).pick.1 (e a).pick.2) h fun k=>Q16.spec N _ _ a k;cases h
noncomputable def Q17.l3 {R:Type}(N:Nat):Nat→Nat→Nat→List Int→Int→Int→Int→Int→Int→List Int→(Int→List Int→Option R)→Option R
 |0,_,_,_,_,_,_,_,_,_,_=>none
 |n+1,f,g,h,k,c,d,e,a,b,l=>
  bif decide (a<e)then
   bif decide (a<(h.length:Int))then
    bif (decide (0≤a))&&(decide (a<(h.length:Int)))then
     bif (decide (0≤a))&&(decide (a<(g:Int)))then
      (Q1.f N (b.getD (f+a.toNat) 0) (rE (lA (c+(lA ((lA (h.getD a.toNat 0))*(lA k)))))) d).bind fun i=>
      bif (decide (0≤a))&&(decide (a<(g:Int)))then
       Q17.l3 N n f g h k (Int.fdiv (lA (c+(lA ((lA (h.getD a.toNat 0))*(lA k))))) (2^32)) i.2 e (aA (a+1)) (b.set (f+a.toNat) i.1) l
      else none
     else none
    else none
   else
   bif (decide (0≤a))&&(decide (a<(g:Int)))then
    (Q1.f N (b.getD (f+a.toNat) 0) (rE c) d).bind fun j=>
    bif (decide (0≤a))&&(decide (a<(g:Int)))then
     Q17.l3 N n f g h k (Int.fdiv c (2^32)) j.2 e (aA (a+1)) (b.set (f+a.toNat) j.1) l
    else none
   else none
  else
  l d b
noncomputable def Q17.f (N d c:Nat)(e:List Int)(f:Int)(g:List Int):Option (Bool×List Int):=
 Q17.l3 N N d c e f 0 0 (c:Int) 0 g
  (fun a b=>
   some (a != 0,b))
noncomputable def Q17.h3:mE:=⟨[(0,.any),(1,.il .u32 1),(2,.any),(7,.any),(8,.any),(11,.any),(12,.any)],[(8,.any)]⟩
noncomputable def Q17.c3 (N:Nat):mM:=⟨fun vs H k=>match vs,H with
 | [.sl 0 1 h i,.il .u32 1 j,.c (.int .u32 l),.c (.int .u64 a),.c (.int .u32 b),.c (.int .i64 c),.c (.int .i64 d)],[.ints .u32 e]=>Q17.l3 N N h i j l a b c d e (fun f g=>k (.exit 0) ⟨iE Q17.h3.out [.c (.int .u32 f)],[.ints .u32 g]⟩)
 |_,_=>none⟩
noncomputable def Q17.E (N:Nat):gD:=uF [(86,cM),(115,zJ),(129,eI)] [(125,Q1.ent N)] [(3,Q17.h3)] [(3,Q17.c3 N)] N [.tmp 6] [.any] 1 48
noncomputable def Q17.b3:Code:=cB ((jA (bo Try.f119)).getD 0 .skip)
theorem Q17.l3_eq {R:Type}(N n h i:Nat)(j:List Int)(l a b c d:Int)(e:List Int)(k:Ex→St→Option R):
  xB 1 Q17.h3 (fun s k=>kB (Q17.E N) 394 Q17.b3 s k) n [.sl 0 1 h i,.il .u32 1 j,.c (.int .u32 l),.c (.int .u64 a),.c (.int .u32 b),.c (.int .i64 c),.c (.int .i64 d)] [.ints .u32 e] k=Q17.l3 N n h i j l a b c d e (fun f g=>k (.exit 0) ⟨iE Q17.h3.out [.c (.int .u32 f)],[.ints .u32 g]⟩):=by
 induction n generalizing h i j l a b c d e with
 |zero=>kernel_rfl
 |succ n ih=>
  simp only[Q17.l3,←ih]
  kernel_rfl
noncomputable def Q17.dec (v:V)(bs:List nA):Option (Bool×List Int):=match v,bs with
 | .c (.bool a),[.ints .u32 b]=>some (a,b)
 |_,_=>none
theorem Q17.f_eq (N a b:Nat)(c:List Int)(d:Int)(e:List Int):
  gB (Q17.E N) (bo Try.f119) [.sl 0 1 a b,.il .u32 1 c,.c (.int .u32 d)] [.ints .u32 e] Q17.dec=Q17.f N a b c d e:=by kernel_rfl
noncomputable def Q17.ent (N:Nat):wA:={A:=Bool×List Int,fresh:=0,imm:=[false,true,true],dec:=fun args bs=>match iJ (oA bs) [true,false,false] args,bs with
 | [.sl 0 1 a b,.il .u32 1 c,.c (.int .u32 d)],[.ints .u32 e]=>some (Q17.f N a b c d e,fun r=>.one (.c (.bool r.1)) [.ints .u32 r.2])
 |_,_=>none}
theorem Q17.env (N:Nat):eB Try.prog (Q17.E N):=⟨(.cons cE (.cons pE (.cons sD .nil))),(.cons (Q1.ent_ok N) .nil)⟩
theorem Q17.k3 (N:Nat):qC Try.prog Try.f119 (Q17.E N) (.loop Q17.b3):=dE (Q17.env N) gA 394 (c:=Q17.c3 N) eA.n fun R vs H k r h=>by unfold Q17.c3 at h;dsimp only at h;split at h;exact⟨_,Q17.l3_eq .. ▸h⟩;cases h
theorem Q17.spec (N a c:Nat)(d:List Int)(f:Int)(g:List Int)(r:Bool×List Int)(h:Q17.f N a c d f g=some r):kA Try.prog 119 [.sl 0 1 a c,.il .u32 1 d,.c (.int .u32 f)] [.ints .u32 g] (.c (.bool r.1)) ([.ints .u32 r.2]):=vA (Q17.env N) gA Try.func119 (eA.of (l:=[(.loop (cB ((jA (bo Try.f119)).getD 0 .skip)))]) (by kernel_rfl) (eA.cons (Q17.k3 N) eA.nil)) ((Q17.f_eq ..).trans h) fun v b e=>by unfold Q17.dec at e;split at e<;>cases e;exact⟨rfl,rfl⟩
theorem Q17.ent_ok (N:Nat):uA Try.prog 119 (Q17.ent N):=by
 intro args bs a enc h;simp only[Q17.ent]at h;split at h
 ·rename_i hz;have h0:=Option.some.inj h;have h1:=congrArg Prod.fst h0;have h2:=congrArg Prod.snd h0;dsimp only at h1 h2;subst h2;exact kA.of_asSl (fl:=[true,false,false]) (by rw[hz];exact Q17.spec N _ _ _ _ _ a h1)
 ·cases h
noncomputable def Q18.l11 {R:Type}(N:Nat):Nat→Int→Int→Int→Int→Int→List Int→List Int→List Int→(Int→Int→Int→Int→List Int→List Int→List Int→Option R)→Option R
 |0,_,_,_,_,_,_,_,_,_=>none
 |n+1,a,f,c,d,g,b,e,h,i=>
  bif (Int.fdiv d (2^32)) != 0 then
   bif (decide (0≤(aA (a-1))))&&(decide ((aA (a-1))<(b.length:Int)))then
    bif (Int.fdiv (lA (g+(lA (b.getD ((aA (a-1)).toNat) 0)))) (2^32)) != 0 then
     i a f c (lA (d-1)) b e h
    else
    Q18.l11 N n a f c (lA (d-1)) (lA (g+(lA (b.getD ((aA (a-1)).toNat) 0)))) b e h i
   else none
  else
  bif (decide (0≤(aA (a-2))))&&(decide ((aA (a-2))<(b.length:Int)))then
   bif (decide (0≤(aA ((aA (c+a))-2))))&&(decide ((aA ((aA (c+a))-2))<(e.length:Int)))then
    bif decide ((lA (d*(lA (b.getD ((aA (a-2)).toNat) 0))))>(oD .u64 (lA (g*2^32)) (lA (e.getD ((aA ((aA (c+a))-2)).toNat) 0))))then
     bif (decide (0≤(aA (a-1))))&&(decide ((aA (a-1))<(b.length:Int)))then
      bif (Int.fdiv (lA (g+(lA (b.getD ((aA (a-1)).toNat) 0)))) (2^32)) != 0 then
       i a f c (lA (d-1)) b e h
      else
      Q18.l11 N n a f c (lA (d-1)) (lA (g+(lA (b.getD ((aA (a-1)).toNat) 0)))) b e h i
     else none
    else
    i a f c d b e h
   else none
  else none
noncomputable def Q18.l21 {R:Type}(N:Nat):Nat→Int→Int→Int→Nat→Nat→Int→Int→Int→List Int→List Int→List Int→(Int→Int→Int→List Int→List Int→List Int→Option R)→Option R
 |0,_,_,_,_,_,_,_,_,_,_,_,_=>none
 |n+1,f,h,i,b,e,g,j,a,d,c,k,l=>
  bif decide (a<j)then
   bif (decide (0≤a))&&(decide (a<(e:Int)))then
    bif decide (a<f)then
     bif (decide (0≤a))&&(decide (a<(d.length:Int)))then
      bif (decide (0≤a))&&(decide (a<(e:Int)))then
       Q18.l21 N n f h i b e (Int.fdiv (lA ((lA (g+(lA (c.getD (b+a.toNat) 0))))+(lA (d.getD a.toNat 0)))) (2^32)) j (aA (a+1)) d (c.set (b+a.toNat) (rE (lA ((lA (g+(lA (c.getD (b+a.toNat) 0))))+(lA (d.getD a.toNat 0)))))) k l
      else none
     else none
    else
    bif (decide (0≤a))&&(decide (a<(e:Int)))then
     Q18.l21 N n f h i b e (Int.fdiv (lA (g+(lA (c.getD (b+a.toNat) 0)))) (2^32)) j (aA (a+1)) d (c.set (b+a.toNat) (rE (lA (g+(lA (c.getD (b+a.toNat) 0)))))) k l
    else none
   else none
  else
  l f h i d c k
noncomputable def Q18.l7 {R:Type}(N:Nat):Nat→Int→Int→Int→List Int→List Int→List Int→(Int→List Int→List Int→Option R)→Option R
 |0,_,_,_,_,_,_,_=>none
 |n+1,d,v,e,h,c,k,o=>
  bif decide (e≥0)then
   bif (decide (0≤(aA (e+d))))&&(decide ((aA (e+d))<(c.length:Int)))then
    bif (decide (0≤(aA ((aA (e+d))-1))))&&(decide ((aA ((aA (e+d))-1))<(c.length:Int)))then
     bif (decide (0≤(aA (d-1))))&&(decide ((aA (d-1))<(h.length:Int)))then
      bif !((lA (h.getD ((aA (d-1)).toNat) 0))==0)then
       bif (decide (0≤(aA (d-1))))&&(decide ((aA (d-1))<(h.length:Int)))then
        bif !((lA (h.getD ((aA (d-1)).toNat) 0))==0)then
         Q18.l11 N N d v e (lA (Int.tdiv (oD .u64 (lA ((lA (c.getD ((aA (e+d)).toNat) 0))*2^32)) (lA (c.getD ((aA ((aA (e+d))-1)).toNat) 0))) (lA (h.getD ((aA (d-1)).toNat) 0)))) (Int.tmod (oD .u64 (lA ((lA (c.getD ((aA (e+d)).toNat) 0))*2^32)) (lA (c.getD ((aA ((aA (e+d))-1)).toNat) 0))) (lA (h.getD ((aA (d-1)).toNat) 0))) h c k
          (fun b l a i j m f=>
           bif (((decide (0≤a))&&(decide (a≤(aA ((aA (a+b))+1)))))&&(decide ((aA ((aA (a+b))+1))≤(aA ((aA (a+b))+1)))))&&(decide ((aA ((aA (a+b))+1))≤(m.length:Int)))then
            (Q17.f N a.toNat (((aA ((aA (a+b))+1)).toNat)-a.toNat) j (rE i) m).bind fun g=>
            bif !g.1 then
             bif (decide (0≤a))&&(decide (a<(f.length:Int)))then
              Q18.l7 N n b l (aA (a-1)) j g.2 (f.set a.toNat (rE i)) o
             else none
            else
            bif (decide (0≤a))&&(decide (a<(f.length:Int)))then
             Q18.l21 N N b l a a.toNat (((aA ((aA (a+b))+1)).toNat)-a.toNat) 0 ((((aA ((aA (a+b))+1)).toNat)-a.toNat:Nat):Int) 0 j g.2 (f.set a.toNat (rE ((rE i)-1)))
              (fun p q r s t u=>
               Q18.l7 N n p q (aA (r-1)) s t u o)
            else none
           else none)
        else none
       else none
      else none
     else none
    else none
   else none
  else
  o v c k
noncomputable def Q18.f (N:Nat)(i a:List Int):Option (List Int×List Int):=
 bif (decide (0≤(aA ((a.length:Int)-1))))&&(decide ((aA ((a.length:Int)-1))<(a.length:Int)))then
  (Q13.f N (a.getD ((aA ((a.length:Int)-1)).toNat) 0)).bind fun e=>
  (Q15.f N a e (a.length:Int)).bind fun j=>
  (Q15.f N i e (aA ((i.length:Int)+1))).bind fun b=>
  bif decide (aA ((b.length:Int)- (a.length:Int))=aA ((b.length:Int)- (a.length:Int)))&&decide (0≤aA ((b.length:Int)- (a.length:Int)))&&decide (aA ((b.length:Int)- (a.length:Int))≤9223372036854775807)&&zA ((aA ((b.length:Int)- (a.length:Int))).toNat) 4 then
   Q18.l7 N N (a.length:Int) e (aA ((aA ((b.length:Int)- (a.length:Int)))-1)) j b (List.replicate ((aA ((b.length:Int)- (a.length:Int))).toNat) (0:Int))
    (fun g h d=>
     (Q2.f N 0 d.length d).bind fun c=>
     (Q16.f N h g).bind fun f=>
     some ((c.2.2.drop c.1).take c.2.1,f))
  else none
 else none
noncomputable def Q18.h7:mE:=⟨[(4,.box [.any]),(5,.box [.any]),(6,.any),(7,.any),(8,.row .u32 1),(9,.row .u32 1),(11,.row .u32 1),(12,.any)],[(4,.box [.any]),(5,.box [.any]),(7,.any),(9,.row .u32 1),(11,.row .u32 1)]⟩
noncomputable def Q18.h11:mE:=⟨[(4,.box [.any]),(5,.box [.any]),(6,.any),(7,.any),(8,.row .u32 1),(9,.row .u32 1),(11,.row .u32 1),(12,.any),(14,.any),(15,.any)],[(4,.box [.any]),(5,.box [.any]),(6,.any),(7,.any),(8,.row .u32 1),(9,.row .u32 1),(11,.row .u32 1),(12,.any),(14,.any)]⟩
noncomputable def Q18.h21:mE:=⟨[(4,.box [.any]),(5,.box [.any]),(6,.any),(7,.any),(8,.row .u32 1),(9,.row .u32 1),(11,.row .u32 1),(12,.any),(16,.part .u32 1),(17,.any),(156,.any),(157,.any)],[(4,.box [.any]),(5,.box [.any]),(6,.any),(7,.any),(8,.row .u32 1),(9,.row .u32 1),(11,.row .u32 1),(12,.any)]⟩
noncomputable def Q18.c11 (N:Nat):mM:=⟨fun vs H k=>match vs,H with
 | [.ptr 0 0 1,.ptr 1 0 1,.c (.int .i64 a),.c (.int .i64 b),.sw 2 1,.sw 3 1,.sw 4 1,.c (.int .i64 c),.c (.int .u64 d),.c (.int .u64 e)],[.vals [.c (.slice none 0 0)],.vals [.c (.slice none 0 0)],.ints .u32 f,.ints .u32 g,.ints .u32 h]=>Q18.l11 N N a b c d e f g h (fun i j l m o p q=>k (.exit 2) ⟨iE Q18.h11.out [.ptr 0 0 1,.ptr 1 0 1,.c (.int .i64 i),.c (.int .i64 j),.sw 2 1,.sw 3 1,.sw 4 1,.c (.int .i64 l),.c (.int .u64 m)],[.vals [.c (.slice none 0 0)],.vals [.c (.slice none 0 0)],.ints .u32 o,.ints .u32 p,.ints .u32 q]⟩)
 |_,_=>none⟩
noncomputable def Q18.c21 (N:Nat):mM:=⟨fun vs H k=>match vs,H with
 | [.ptr 0 0 1,.ptr 1 0 1,.c (.int .i64 a),.c (.int .i64 b),.sw 2 1,.sw 3 1,.sw 4 1,.c (.int .i64 c),.sl 3 1 d e,.c (.int .u64 f),.c (.int .i64 g),.c (.int .i64 h)],[.vals [.c (.slice none 0 0)],.vals [.c (.slice none 0 0)],.ints .u32 i,.ints .u32 j,.ints .u32 l]=>Q18.l21 N N a b c d e f g h i j l (fun m o p q r s=>k (.exit 4) ⟨iE Q18.h21.out [.ptr 0 0 1,.ptr 1 0 1,.c (.int .i64 m),.c (.int .i64 o),.sw 2 1,.sw 3 1,.sw 4 1,.c (.int .i64 p)],[.vals [.c (.slice none 0 0)],.vals [.c (.slice none 0 0)],.ints .u32 q,.ints .u32 r,.ints .u32 s]⟩)
 |_,_=>none⟩
noncomputable def Q18.c7 (N:Nat):mM:=⟨fun vs H k=>match vs,H with
 | [.ptr 0 0 1,.ptr 1 0 1,.c (.int .i64 f),.c (.int .i64 g),.sw 2 1,.sw 3 1,.sw 4 1,.c (.int .i64 h)],[.vals [.c (.slice none 0 0)],.vals [.c (.slice none 0 0)],.ints .u32 i,.ints .u32 a,.ints .u32 b]=>Q18.l7 N N f g h i a b (fun c d e=>k (.exit 0) ⟨iE Q18.h7.out [.ptr 0 0 1,.ptr 1 0 1,.c (.int .i64 c),.sw 2 1,.sw 3 1],[.vals [.c (.slice none 0 0)],.vals [.c (.slice none 0 0)],.ints .u32 d,.ints .u32 e]⟩)
 |_,_=>none⟩
noncomputable def Q18.E (N:Nat):gD:=uF [(86,cM),(88,qH),(115,zJ),(129,eI)] [(117,Q13.ent N),(118,Q15.ent N),(119,Q17.ent N),(92,Q2.ent N),(120,Q16.ent N)] [(7,Q18.h7),(11,Q18.h11),(21,Q18.h21)] [(11,Q18.c11 N),(21,Q18.c21 N),(7,Q18.c7 N)] N [.cell 4 88,.cell 5 88] [.recd [.il .u32 1],.recd [.il .u32 1]] 0 190
noncomputable def Q18.b11:Code:=cB ((jA (bo Try.f107)).getD 2 .skip)
theorem Q18.l11_eq {R:Type}(N n:Nat)(a b c d e:Int)(f g h:List Int)(k:Ex→St→Option R):
  xB 0 Q18.h11 (fun s k=>kB (Q18.E N) 380 Q18.b11 s k) n [.ptr 0 0 1,.ptr 1 0 1,.c (.int .i64 a),.c (.int .i64 b),.sw 2 1,.sw 3 1,.sw 4 1,.c (.int .i64 c),.c (.int .u64 d),.c (.int .u64 e)] [.vals [.c (.slice none 0 0)],.vals [.c (.slice none 0 0)],.ints .u32 f,.ints .u32 g,.ints .u32 h] k=Q18.l11 N n a b c d e f g h (fun i j l m o p q=>k (.exit 2) ⟨iE Q18.h11.out [.ptr 0 0 1,.ptr 1 0 1,.c (.int .i64 i),.c (.int .i64 j),.sw 2 1,.sw 3 1,.sw 4 1,.c (.int .i64 l),.c (.int .u64 m)],[.vals [.c (.slice none 0 0)],.vals [.c (.slice none 0 0)],.ints .u32 o,.ints .u32 p,.ints .u32 q]⟩):=by
 induction n generalizing a b c d e f g h with
 |zero=>kernel_rfl
 |succ n ih=>
  simp only[Q18.l11,←ih]
  kernel_rfl
noncomputable def Q18.b21:Code:=cB ((jA (bo Try.f107)).getD 3 .skip)
theorem Q18.l21_eq {R:Type}(N n:Nat)(a b c:Int)(d e:Nat)(f g h:Int)(i j l:List Int)(k:Ex→St→Option R):
  xB 0 Q18.h21 (fun s k=>kB (Q18.E N) 375 Q18.b21 s k) n [.ptr 0 0 1,.ptr 1 0 1,.c (.int .i64 a),.c (.int .i64 b),.sw 2 1,.sw 3 1,.sw 4 1,.c (.int .i64 c),.sl 3 1 d e,.c (.int .u64 f),.c (.int .i64 g),.c (.int .i64 h)] [.vals [.c (.slice none 0 0)],.vals [.c (.slice none 0 0)],.ints .u32 i,.ints .u32 j,.ints .u32 l] k=Q18.l21 N n a b c d e f g h i j l (fun m o p q r t=>k (.exit 4) ⟨iE Q18.h21.out [.ptr 0 0 1,.ptr 1 0 1,.c (.int .i64 m),.c (.int .i64 o),.sw 2 1,.sw 3 1,.sw 4 1,.c (.int .i64 p)],[.vals [.c (.slice none 0 0)],.vals [.c (.slice none 0 0)],.ints .u32 q,.ints .u32 r,.ints .u32 t]⟩):=by
 induction n generalizing a b c d e f g h i j l with
 |zero=>kernel_rfl
 |succ n ih=>
  simp only[Q18.l21,←ih]
  kernel_rfl
noncomputable def Q18.b7:Code:=cB ((jA (bo Try.f107)).getD 1 .skip)
theorem Q18.l7_eq {R:Type}(N n:Nat)(e g h:Int)(i a b:List Int)(k:Ex→St→Option R):
  xB 0 Q18.h7 (fun s k=>kB (Q18.E N) 388 Q18.b7 s k) n [.ptr 0 0 1,.ptr 1 0 1,.c (.int .i64 e),.c (.int .i64 g),.sw 2 1,.sw 3 1,.sw 4 1,.c (.int .i64 h)] [.vals [.c (.slice none 0 0)],.vals [.c (.slice none 0 0)],.ints .u32 i,.ints .u32 a,.ints .u32 b] k=Q18.l7 N n e g h i a b (fun c d f=>k (.exit 0) ⟨iE Q18.h7.out [.ptr 0 0 1,.ptr 1 0 1,.c (.int .i64 c),.sw 2 1,.sw 3 1],[.vals [.c (.slice none 0 0)],.vals [.c (.slice none 0 0)],.ints .u32 d,.ints .u32 f]⟩):=by
 induction n generalizing e g h i a b with
 |zero=>kernel_rfl
 |succ n ih=>
  simp only[Q18.l7,←ih]
  kernel_rfl
noncomputable def Q18.dec (v:V)(bs:List nA):Option (List Int×List Int):=match v,bs with
 | .tup [.agg [.il .u32 1 a],.agg [.il .u32 1 b]],[]=>some (a,b)
 |_,_=>none
theorem Q18.f_eq (N:Nat)(a b:List Int):
  gB (Q18.E N) (bo Try.f107) [.agg [.il .u32 1 a],.agg [.il .u32 1 b]] [] Q18.dec=Q18.f N a b:=by kernel_rfl
noncomputable def Q18.ent (N:Nat):wA:=sG (List Int×List Int) 0 [true,true] [.recd [.il .u32 1],.recd [.il .u32 1]] fun
 | [.agg [.il .u32 1 a],.agg [.il .u32 1 b]]=>some (Q18.f N a b,fun r=>.one (.tup [.agg [.il .u32 1 r.1],.agg [.il .u32 1 r.2]]) [])
 |_=>none
theorem Q18.env (N:Nat):eB Try.prog (Q18.E N):=⟨(.cons cE (.cons jC (.cons pE (.cons sD .nil)))),(.cons (Q13.ent_ok N) (.cons (Q15.ent_ok N) (.cons (Q17.ent_ok N) (.cons (Q2.ent_ok N) (.cons (Q16.ent_ok N) .nil)))))⟩
theorem Q18.k21 (N:Nat):qC Try.prog Try.f107 (Q18.E N) (.loop Q18.b21):=dE (Q18.env N) gA 375 (c:=Q18.c21 N) eA.n fun R vs H k r h=>by unfold Q18.c21 at h;dsimp only at h;split at h;exact⟨_,Q18.l21_eq .. ▸h⟩;cases h
theorem Q18.k11 (N:Nat):qC Try.prog Try.f107 (Q18.E N) (.loop Q18.b11):=dE (Q18.env N) gA 380 (c:=Q18.c11 N) eA.n fun R vs H k r h=>by unfold Q18.c11 at h;dsimp only at h;split at h;exact⟨_,Q18.l11_eq .. ▸h⟩;cases h
theorem Q18.k7 (N:Nat):qC Try.prog Try.f107 (Q18.E N) (.loop Q18.b7):=dE (Q18.env N) gA 388 (c:=Q18.c7 N) (eA.of (l:=[(.loop (cB ((jA (bo Try.f107)).getD 2 .skip))),(.loop (cB ((jA (bo Try.f107)).getD 3 .skip)))]) (by kernel_rfl) (eA.cons (Q18.k11 N) (eA.cons (Q18.k21 N) eA.nil))) fun R vs H k r h=>by unfold Q18.c7 at h;dsimp only at h;split at h;exact⟨_,Q18.l7_eq .. ▸h⟩;cases h
theorem Q18.spec (N:Nat)(a c:List Int)(r:List Int×List Int)(h:Q18.f N a c=some r):kA Try.prog 107 [.agg [.il .u32 1 a],.agg [.il .u32 1 c]] [] (.tup [.agg [.il .u32 1 r.1],.agg [.il .u32 1 r.2]]) ([]):=vA (Q18.env N) gA Try.func107 (eA.of (l:=[(.scope (cB ((jA (bo Try.f107)).getD 0 .skip))),(.loop (cB ((jA (bo Try.f107)).getD 1 .skip))),(.loop (cB ((jA (bo Try.f107)).getD 2 .skip))),(.loop (cB ((jA (bo Try.f107)).getD 3 .skip)))]) (by kernel_rfl) (eA.cons (tR (by kernel_rfl)) (eA.cons (Q18.k7 N) (eA.cons (Q18.k11 N) (eA.cons (Q18.k21 N) eA.nil))))) ((Q18.f_eq ..).trans h) fun v b e=>by unfold Q18.dec at e;split at e<;>cases e;exact⟨rfl,rfl⟩
theorem Q18.ent_ok (N:Nat):uA Try.prog 107 (Q18.ent N):=bB fun v a e h=>by split at h;exact wC (Q:=fun e=>kA _ _ _ _ (e a).pick.1 (e a).pick.2) h fun k=>Q18.spec N _ _ a k;cases h
noncomputable def Q19.f (N:Nat)(a b:List Int):Option (List Int×List Int×Int):=
 bif (b.length:Int)==0 then
  some ([],[],11)
 else
 (Q7.f N a b).bind fun f=>
 bif decide (f<0)then
  some ([],a,0)
 else
 bif (b.length:Int)==1 then
  bif zA a.length 4 then
   bif decide (0<(b.length:Int))then
    (Q14.f N 0 a.length (b.getD 0 0) a).bind fun c=>
    (Q2.f N 0 c.2.length c.2).bind fun d=>
    (Q5.f N (lA c.1)).bind fun g=>
    some ((d.2.2.drop d.1).take d.2.1,g,0)
   else none
  else none
 else
 (Q18.f N a b).bind fun e=>
 some (e.1,e.2,0)
noncomputable def Q19.E (N:Nat):gD:=uF [(86,cM),(88,qH),(115,zJ),(129,eI)] [(105,Q7.ent N),(106,Q14.ent N),(92,Q2.ent N),(76,Q5.ent N),(107,Q18.ent N)] [] [] N [.cell 4 88,.cell 5 88,.tmp 6] [.recd [.il .u32 1],.recd [.il .u32 1],.any] 0 47
noncomputable def Q19.dec (v:V)(bs:List nA):Option (List Int×List Int×Int):=match v,bs with
 | .tup [.agg [.il .u32 1 a],.agg [.il .u32 1 b],.c (.int .i64 c)],[]=>some (a,b,c)
 |_,_=>none
theorem Q19.f_eq (N:Nat)(a b:List Int):
  gB (Q19.E N) (bo Try.f85) [.agg [.il .u32 1 a],.agg [.il .u32 1 b]] [] Q19.dec=Q19.f N a b:=by kernel_rfl
noncomputable def Q19.ent (N:Nat):wA:=sG (List Int×List Int×Int) 0 [true,true] [.recd [.il .u32 1],.recd [.il .u32 1]] fun
 | [.agg [.il .u32 1 a],.agg [.il .u32 1 b]]=>some (Q19.f N a b,fun r=>.one (.tup [.agg [.il .u32 1 r.1],.agg [.il .u32 1 r.2.1],.c (.int .i64 r.2.2)]) [])
 |_=>none
theorem Q19.env (N:Nat):eB Try.prog (Q19.E N):=⟨(.cons cE (.cons jC (.cons pE (.cons sD .nil)))),(.cons (Q7.ent_ok N) (.cons (Q14.ent_ok N) (.cons (Q2.ent_ok N) (.cons (Q5.ent_ok N) (.cons (Q18.ent_ok N) .nil)))))⟩
theorem Q19.spec (N:Nat)(a c:List Int)(r:List Int×List Int×Int)(h:Q19.f N a c=some r):kA Try.prog 85 [.agg [.il .u32 1 a],.agg [.il .u32 1 c]] [] (.tup [.agg [.il .u32 1 r.1],.agg [.il .u32 1 r.2.1],.c (.int .i64 r.2.2)]) ([]):=vA (Q19.env N) gA Try.func85 eA.n ((Q19.f_eq ..).trans h) fun v b e=>by unfold Q19.dec at e;split at e<;>cases e;exact⟨rfl,rfl⟩
theorem Q19.ent_ok (N:Nat):uA Try.prog 85 (Q19.ent N):=bB fun v a e h=>by split at h;exact wC (Q:=fun e=>kA _ _ _ _ (e a).pick.1 (e a).pick.2) h fun k=>Q19.spec N _ _ a k;cases h
noncomputable def Q20.l1 {R:Type}(N:Nat):Nat→List Int→List Int→(List Int→Option R)→Option R
 |0,_,_,_=>none
 |n+1,c,a,b=>
  bif decide ((a.length:Int)>0)then
   (Q19.f N c a).bind fun d=>
   Q20.l1 N n a d.2.1 b
  else
  b c
noncomputable def Q20.f (N:Nat)(a b:List Int):Option (List Int):=
 Q20.l1 N N a b
  (fun c=>
   some c)
noncomputable def Q20.h1:mE:=⟨[(2,.box [.il .u32 1]),(3,.box [.il .u32 1]),(4,.box [.any])],[(2,.box [.il .u32 1]),(4,.box [.any])]⟩
noncomputable def Q20.c1 (N:Nat):mM:=⟨fun vs H k=>match vs,H with
 | [.ptr 0 0 1,.ptr 1 0 1,.ptr 2 0 1],[.vals [.il .u32 1 a],.vals [.il .u32 1 b],.vals [.c (.slice none 0 0)]]=>Q20.l1 N N a b (fun c=>k (.exit 0) ⟨iE Q20.h1.out [.ptr 0 0 1,.ptr 1 0 1],[.vals [.il .u32 1 c],.vals [.c (.slice none 0 0)]]⟩)
 |_,_=>none⟩
noncomputable def Q20.E (N:Nat):gD:=uF [(86,cM),(88,qH)] [(85,Q19.ent N)] [(1,Q20.h1)] [(1,Q20.c1 N)] N [.cell 4 88] [.recd [.il .u32 1]] 0 22
noncomputable def Q20.b1:Code:=cB ((jA (bo Try.f72)).getD 0 .skip)
theorem Q20.l1_eq {R:Type}(N n:Nat)(a b:List Int)(k:Ex→St→Option R):
  xB 0 Q20.h1 (fun s k=>kB (Q20.E N) 396 Q20.b1 s k) n [.ptr 0 0 1,.ptr 1 0 1,.ptr 2 0 1] [.vals [.il .u32 1 a],.vals [.il .u32 1 b],.vals [.c (.slice none 0 0)]] k=Q20.l1 N n a b (fun c=>k (.exit 0) ⟨iE Q20.h1.out [.ptr 0 0 1,.ptr 1 0 1],[.vals [.il .u32 1 c],.vals [.c (.slice none 0 0)]]⟩):=by
 induction n generalizing a b with
 |zero=>kernel_rfl
 |succ n ih=>
  simp only[Q20.l1,←ih]
  kernel_rfl
noncomputable def Q20.dec (v:V)(bs:List nA):Option (List Int):=match v,bs with
 | .agg [.il .u32 1 a],[]=>some a
 |_,_=>none
theorem Q20.f_eq (N:Nat)(a b:List Int):
  gB (Q20.E N) (bo Try.f72) [.agg [.il .u32 1 a],.agg [.il .u32 1 b]] [] Q20.dec=Q20.f N a b:=by kernel_rfl
noncomputable def Q20.ent (N:Nat):wA:=sG (List Int) 0 [true,true] [.recd [.il .u32 1],.recd [.il .u32 1]] fun
 | [.agg [.il .u32 1 a],.agg [.il .u32 1 b]]=>some (Q20.f N a b,fun r=>.one (.agg [.il .u32 1 r]) [])
 |_=>none
theorem Q20.env (N:Nat):eB Try.prog (Q20.E N):=⟨(.cons cE (.cons jC .nil)),(.cons (Q19.ent_ok N) .nil)⟩
theorem Q20.k1 (N:Nat):qC Try.prog Try.f72 (Q20.E N) (.loop Q20.b1):=dE (Q20.env N) gA 396 (c:=Q20.c1 N) eA.n fun R vs H k r h=>by unfold Q20.c1 at h;dsimp only at h;split at h;exact⟨_,Q20.l1_eq .. ▸h⟩;cases h
theorem Q20.spec (N:Nat)(a c r:List Int)(h:Q20.f N a c=some r):kA Try.prog 72 [.agg [.il .u32 1 a],.agg [.il .u32 1 c]] [] (.agg [.il .u32 1 r]) ([]):=vA (Q20.env N) gA Try.func72 (eA.of (l:=[(.loop (cB ((jA (bo Try.f72)).getD 0 .skip)))]) (by kernel_rfl) (eA.cons (Q20.k1 N) eA.nil)) ((Q20.f_eq ..).trans h) fun v b e=>by unfold Q20.dec at e;split at e<;>cases e;exact⟨rfl,rfl⟩
theorem Q20.ent_ok (N:Nat):uA Try.prog 72 (Q20.ent N):=bB fun v a e h=>by split at h;exact wC (Q:=fun e=>kA _ _ _ _ (e a).pick.1 (e a).pick.2) h fun k=>Q20.spec N _ _ a k;cases h
noncomputable def yX:TI:=⟨.int .i64,1,8,[.int .i64 0]⟩
noncomputable def uv:TI:=⟨.bool,1,1,[.bool false]⟩
noncomputable def kP:TI:=⟨.struct [(2,0),(2,1),(2,2)],3,24,[.int .i64 0,.int .i64 0,.int .i64 0]⟩
noncomputable def jO:TI:=⟨.struct [(4,0),(88,1)],2,32,[.bool false,.slice none 0 0]⟩
theorem kE:iC Try.prog 2 yX:=nC (by kernel_rfl) (by kernel_rfl) (by kernel_rfl) (by kernel_rfl) (by kernel_rfl) (by kernel_rfl) (by kernel_rfl) (Try.underlying2) (by kernel_rfl)
theorem fJ:iC Try.prog 4 uv:=nC (by kernel_rfl) (by kernel_rfl) (by kernel_rfl) (by kernel_rfl) (by kernel_rfl) (by kernel_rfl) (by kernel_rfl) (Try.underlying4) (by kernel_rfl)
theorem bF:iC Try.prog 23 kP:=nC (by kernel_rfl) (by kernel_rfl) (by kernel_rfl) (by kernel_rfl) (by kernel_rfl) (by kernel_rfl) (by kernel_rfl) (eL Try.underlying23 (by kernel_rfl) (by kernel_rfl)) (by kernel_rfl)
theorem vE:iC Try.prog 90 jO:=nC (by kernel_rfl) (by kernel_rfl) (by kernel_rfl) (by kernel_rfl) (by kernel_rfl) (by kernel_rfl) (by kernel_rfl) (eL Try.underlying90 (by kernel_rfl) (by kernel_rfl)) (by kernel_rfl)
noncomputable def Q21.f (N:Nat)(b:Bool)(a:List Int):Option (Bool×List Int):=
 bif b then
  (Q3.f N a).bind fun c=>
  some (decide (c>0),a)
 else
 some (false,a)
noncomputable def Q21.E (N:Nat):gD:=uF [(4,uv),(88,qH),(90,jO)] [(77,Q3.ent N)] [] [] N [.cell 4 90] [.recd [.any,.il .u32 1]] 0 13
noncomputable def Q21.dec (v:V)(bs:List nA):Option (Bool×List Int):=match v,bs with
 | .agg [.c (.bool a),.il .u32 1 b],[]=>some (a,b)
 |_,_=>none
theorem Q21.f_eq (N:Nat)(a:Bool)(b:List Int):
  gB (Q21.E N) (bo Try.f59) [.c (.bool a),.agg [.il .u32 1 b]] [] Q21.dec=Q21.f N a b:=by kernel_rfl
noncomputable def Q21.ent (N:Nat):wA:=sG (Bool×List Int) 0 [true,true] [.any,.recd [.il .u32 1]] fun
 | [.c (.bool a),.agg [.il .u32 1 b]]=>some (Q21.f N a b,fun r=>.one (.agg [.c (.bool r.1),.il .u32 1 r.2]) [])
 |_=>none
theorem Q21.env (N:Nat):eB Try.prog (Q21.E N):=⟨(.cons fJ (.cons jC (.cons vE .nil))),(.cons (Q3.ent_ok N) .nil)⟩
theorem Q21.spec (N:Nat)(a:Bool)(c:List Int)(r:Bool×List Int)(h:Q21.f N a c=some r):kA Try.prog 59 [.c (.bool a),.agg [.il .u32 1 c]] [] (.agg [.c (.bool r.1),.il .u32 1 r.2]) ([]):=vA (Q21.env N) gA Try.func59 eA.n ((Q21.f_eq ..).trans h) fun v b e=>by unfold Q21.dec at e;split at e<;>cases e;exact⟨rfl,rfl⟩
theorem Q21.ent_ok (N:Nat):uA Try.prog 59 (Q21.ent N):=bB fun v a e h=>by split at h;exact wC (Q:=fun e=>kA _ _ _ _ (e a).pick.1 (e a).pick.2) h fun k=>Q21.spec N _ _ a k;cases h
noncomputable def Q22.f (N:Nat)(a:Int):Option (Bool×List Int):=
 bif decide (a<0)then
  (Q5.f N (lA (0- (lA a)))).bind fun b=>
  some (true,b)
 else
 (Q5.f N (lA a)).bind fun c=>
 some (false,c)
noncomputable def Q22.E (N:Nat):gD:=uF [(2,yX),(4,uv),(88,qH),(90,jO),(115,zJ)] [(76,Q5.ent N)] [] [] N [.cell 2 90] [.recd [.any,.il .u32 1]] 0 14
noncomputable def Q22.dec (v:V)(bs:List nA):Option (Bool×List Int):=match v,bs with
 | .agg [.c (.bool a),.il .u32 1 b],[]=>some (a,b)
 |_,_=>none
theorem Q22.f_eq (N:Nat)(a:Int):
  gB (Q22.E N) (bo Try.f58) [.c (.int .i64 a)] [] Q22.dec=Q22.f N a:=by kernel_rfl
noncomputable def Q22.ent (N:Nat):wA:=sG (Bool×List Int) 0 [true] [.any] fun
 | [.c (.int .i64 a)]=>some (Q22.f N a,fun r=>.one (.agg [.c (.bool r.1),.il .u32 1 r.2]) [])
 |_=>none
theorem Q22.env (N:Nat):eB Try.prog (Q22.E N):=⟨(.cons kE (.cons fJ (.cons jC (.cons vE (.cons pE .nil))))),(.cons (Q5.ent_ok N) .nil)⟩
theorem Q22.spec (N:Nat)(a:Int)(r:Bool×List Int)(h:Q22.f N a=some r):kA Try.prog 58 [.c (.int .i64 a)] [] (.agg [.c (.bool r.1),.il .u32 1 r.2]) ([]):=vA (Q22.env N) gA Try.func58 eA.n ((Q22.f_eq ..).trans h) fun v b e=>by unfold Q22.dec at e;split at e<;>cases e;exact⟨rfl,rfl⟩
theorem Q22.ent_ok (N:Nat):uA Try.prog 58 (Q22.ent N):=bB fun v a e h=>by split at h;exact wC (Q:=fun e=>kA _ _ _ _ (e a).pick.1 (e a).pick.2) h fun k=>Q22.spec N _ a k;cases h
noncomputable def Q23.f (N:Nat)(b:Bool)(c:List Int):Option (Int×Bool):=
 (Q6.f N c).bind fun a=>
 bif !a.2 then
  some (0,false)
 else
 bif decide (a.1>9223372036854775808)then
  some (0,false)
 else
 bif a.1==9223372036854775808 then
  bif !b then
   some (0,false)
  else
  bif b then
   some (aA (lA (0-a.1)),true)
  else
  some (aA a.1,true)
 else
 bif b then
  some (aA (lA (0-a.1)),true)
 else
 some (aA a.1,true)
noncomputable def Q23.E (N:Nat):gD:=uF [(2,yX),(4,uv),(88,qH),(90,jO),(115,zJ)] [(78,Q6.ent N)] [] [] N [.tmp 2,.tmp 3] [.any,.any] 0 36
noncomputable def Q23.dec (v:V)(bs:List nA):Option (Int×Bool):=match v,bs with
 | .tup [.c (.int .i64 a),.c (.bool b)],[]=>some (a,b)
 |_,_=>none
theorem Q23.f_eq (N:Nat)(a:Bool)(b:List Int):
  gB (Q23.E N) (bo Try.f60) [.agg [.c (.bool a),.il .u32 1 b]] [] Q23.dec=Q23.f N a b:=by kernel_rfl
noncomputable def Q23.ent (N:Nat):wA:=sG (Int×Bool) 0 [true] [.recd [.any,.il .u32 1]] fun
 | [.agg [.c (.bool a),.il .u32 1 b]]=>some (Q23.f N a b,fun r=>.one (.tup [.c (.int .i64 r.1),.c (.bool r.2)]) [])
 |_=>none
theorem Q23.env (N:Nat):eB Try.prog (Q23.E N):=⟨(.cons kE (.cons fJ (.cons jC (.cons vE (.cons pE .nil))))),(.cons (Q6.ent_ok N) .nil)⟩
theorem Q23.spec (N:Nat)(a:Bool)(c:List Int)(r:Int×Bool)(h:Q23.f N a c=some r):kA Try.prog 60 [.agg [.c (.bool a),.il .u32 1 c]] [] (.tup [.c (.int .i64 r.1),.c (.bool r.2)]) ([]):=vA (Q23.env N) gA Try.func60 eA.n ((Q23.f_eq ..).trans h) fun v b e=>by unfold Q23.dec at e;split at e<;>cases e;exact⟨rfl,rfl⟩
theorem Q23.ent_ok (N:Nat):uA Try.prog 60 (Q23.ent N):=bB fun v a e h=>by split at h;exact wC (Q:=fun e=>kA _ _ _ _ (e a).pick.1 (e a).pick.2) h fun k=>Q23.spec N _ _ a k;cases h
noncomputable def Q24.f (N:Nat)(e:Bool)(c:List Int)(f:Bool)(d:List Int):Option (Bool×List Int×Int):=
 bif e==f then
  (Q8.f N c d).bind fun g=>
  (Q21.f N e g.1).bind fun h=>
  some (h.1,h.2,g.2)
 else
 (Q7.f N c d).bind fun k=>
 bif decide (k<0)then
  (Q10.f N d c).bind fun i=>
  (Q21.f N f i.1).bind fun j=>
  some (j.1,j.2,i.2)
 else
 (Q10.f N c d).bind fun a=>
 (Q21.f N e a.1).bind fun b=>
 some (b.1,b.2,a.2)
noncomputable def Q24.E (N:Nat):gD:=uF [(4,uv),(88,qH),(90,jO)] [(109,Q8.ent N),(59,Q21.ent N),(105,Q7.ent N),(110,Q10.ent N)] [] [] N [.cell 4 90,.tmp 5] [.recd [.any,.il .u32 1],.any] 0 49
noncomputable def Q24.dec (v:V)(bs:List nA):Option (Bool×List Int×Int):=match v,bs with
 | .tup [.agg [.c (.bool a),.il .u32 1 b],.c (.int .i64 c)],[]=>some (a,b,c)
 |_,_=>none
theorem Q24.f_eq (N:Nat)(a:Bool)(b:List Int)(c:Bool)(d:List Int):
  gB (Q24.E N) (bo Try.f91) [.agg [.c (.bool a),.il .u32 1 b],.agg [.c (.bool c),.il .u32 1 d]] [] Q24.dec=Q24.f N a b c d:=by kernel_rfl
noncomputable def Q24.ent (N:Nat):wA:=sG (Bool×List Int×Int) 0 [true,true] [.recd [.any,.il .u32 1],.recd [.any,.il .u32 1]] fun
 | [.agg [.c (.bool a),.il .u32 1 b],.agg [.c (.bool c),.il .u32 1 d]]=>some (Q24.f N a b c d,fun r=>.one (.tup [.agg [.c (.bool r.1),.il .u32 1 r.2.1],.c (.int .i64 r.2.2)]) [])
 |_=>none
theorem Q24.env (N:Nat):eB Try.prog (Q24.E N):=⟨(.cons fJ (.cons jC (.cons vE .nil))),(.cons (Q8.ent_ok N) (.cons (Q21.ent_ok N) (.cons (Q7.ent_ok N) (.cons (Q10.ent_ok N) .nil))))⟩
theorem Q24.spec (N:Nat)(a:Bool)(c:List Int)(d:Bool)(f:List Int)(r:Bool×List Int×Int)(h:Q24.f N a c d f=some r):kA Try.prog 91 [.agg [.c (.bool a),.il .u32 1 c],.agg [.c (.bool d),.il .u32 1 f]] [] (.tup [.agg [.c (.bool r.1),.il .u32 1 r.2.1],.c (.int .i64 r.2.2)]) ([]):=vA (Q24.env N) gA Try.func91 eA.n ((Q24.f_eq ..).trans h) fun v b e=>by unfold Q24.dec at e;split at e<;>cases e;exact⟨rfl,rfl⟩
theorem Q24.ent_ok (N:Nat):uA Try.prog 91 (Q24.ent N):=bB fun v a e h=>by split at h;exact wC (Q:=fun e=>kA _ _ _ _ (e a).pick.1 (e a).pick.2) h fun k=>Q24.spec N _ _ _ _ a k;cases h
noncomputable def Q25.f (N:Nat)(c:Bool)(d:List Int)(e:Bool)(f:List Int):Option (Bool×List Int×Int):=
 (Q12.f N d f).bind fun a=>
 (Q21.f N (!(c==e)) a.1).bind fun b=>
 some (b.1,b.2,a.2)
noncomputable def Q25.E (N:Nat):gD:=uF [(4,uv),(88,qH),(90,jO)] [(108,Q12.ent N),(59,Q21.ent N)] [] [] N [.cell 4 90,.tmp 5] [.recd [.any,.il .u32 1],.any] 0 24
noncomputable def Q25.dec (v:V)(bs:List nA):Option (Bool×List Int×Int):=match v,bs with
 | .tup [.agg [.c (.bool a),.il .u32 1 b],.c (.int .i64 c)],[]=>some (a,b,c)
 |_,_=>none
theorem Q25.f_eq (N:Nat)(a:Bool)(b:List Int)(c:Bool)(d:List Int):
  gB (Q25.E N) (bo Try.f88) [.agg [.c (.bool a),.il .u32 1 b],.agg [.c (.bool c),.il .u32 1 d]] [] Q25.dec=Q25.f N a b c d:=by kernel_rfl
noncomputable def Q25.ent (N:Nat):wA:=sG (Bool×List Int×Int) 0 [true,true] [.recd [.any,.il .u32 1],.recd [.any,.il .u32 1]] fun
 | [.agg [.c (.bool a),.il .u32 1 b],.agg [.c (.bool c),.il .u32 1 d]]=>some (Q25.f N a b c d,fun r=>.one (.tup [.agg [.c (.bool r.1),.il .u32 1 r.2.1],.c (.int .i64 r.2.2)]) [])
 |_=>none
theorem Q25.env (N:Nat):eB Try.prog (Q25.E N):=⟨(.cons fJ (.cons jC (.cons vE .nil))),(.cons (Q12.ent_ok N) (.cons (Q21.ent_ok N) .nil))⟩
theorem Q25.spec (N:Nat)(a:Bool)(c:List Int)(d:Bool)(f:List Int)(r:Bool×List Int×Int)(h:Q25.f N a c d f=some r):kA Try.prog 88 [.agg [.c (.bool a),.il .u32 1 c],.agg [.c (.bool d),.il .u32 1 f]] [] (.tup [.agg [.c (.bool r.1),.il .u32 1 r.2.1],.c (.int .i64 r.2.2)]) ([]):=vA (Q25.env N) gA Try.func88 eA.n ((Q25.f_eq ..).trans h) fun v b e=>by unfold Q25.dec at e;split at e<;>cases e;exact⟨rfl,rfl⟩
theorem Q25.ent_ok (N:Nat):uA Try.prog 88 (Q25.ent N):=bB fun v a e h=>by split at h;exact wC (Q:=fun e=>kA _ _ _ _ (e a).pick.1 (e a).pick.2) h fun k=>Q25.spec N _ _ _ _ a k;cases h
noncomputable def Q26.f (N:Nat)(a:Bool)(b:List Int):Option (Int):=
 (Q3.f N b).bind fun c=>
 bif c==0 then
  some 0
 else
 bif a then
  some (-1)
 else
 some 1
noncomputable def Q26.E (N:Nat):gD:=uF [(4,uv),(88,qH),(90,jO)] [(77,Q3.ent N)] [] [] N [.tmp 2] [.any] 0 11
noncomputable def Q26.dec (v:V)(bs:List nA):Option (Int):=match v,bs with
 | .c (.int .i64 a),[]=>some a
 |_,_=>none
theorem Q26.f_eq (N:Nat)(a:Bool)(b:List Int):
  gB (Q26.E N) (bo Try.f71) [.agg [.c (.bool a),.il .u32 1 b]] [] Q26.dec=Q26.f N a b:=by kernel_rfl
noncomputable def Q26.ent (N:Nat):wA:=sG (Int) 0 [true] [.recd [.any,.il .u32 1]] fun
 | [.agg [.c (.bool a),.il .u32 1 b]]=>some (Q26.f N a b,fun r=>.one (.c (.int .i64 r)) [])
 |_=>none
theorem Q26.env (N:Nat):eB Try.prog (Q26.E N):=⟨(.cons fJ (.cons jC (.cons vE .nil))),(.cons (Q3.ent_ok N) .nil)⟩
theorem Q26.spec (N:Nat)(a:Bool)(c:List Int)(r:Int)(h:Q26.f N a c=some r):kA Try.prog 71 [.agg [.c (.bool a),.il .u32 1 c]] [] (.c (.int .i64 r)) ([]):=vA (Q26.env N) gA Try.func71 eA.n ((Q26.f_eq ..).trans h) fun v b e=>by unfold Q26.dec at e;split at e<;>cases e;exact⟨rfl,rfl⟩
theorem Q26.ent_ok (N:Nat):uA Try.prog 71 (Q26.ent N):=bB fun v a e h=>by split at h;exact wC (Q:=fun e=>kA _ _ _ _ (e a).pick.1 (e a).pick.2) h fun k=>Q26.spec N _ _ a k;cases h
noncomputable def Q27.f (N:Nat)(b:Bool)(c:List Int):Option (Bool×List Int):=
 (Q21.f N (!b) c).bind fun a=>
 some (a.1,a.2)
noncomputable def Q27.E (N:Nat):gD:=uF [(4,uv),(88,qH),(90,jO)] [(59,Q21.ent N)] [] [] N [.cell 2 90] [.recd [.any,.il .u32 1]] 0 9
noncomputable def Q27.dec (v:V)(bs:List nA):Option (Bool×List Int):=match v,bs with
 | .agg [.c (.bool a),.il .u32 1 b],[]=>some (a,b)
 |_,_=>none
theorem Q27.f_eq (N:Nat)(a:Bool)(b:List Int):
  gB (Q27.E N) (bo Try.f90) [.agg [.c (.bool a),.il .u32 1 b]] [] Q27.dec=Q27.f N a b:=by kernel_rfl
noncomputable def Q27.ent (N:Nat):wA:=sG (Bool×List Int) 0 [true] [.recd [.any,.il .u32 1]] fun
 | [.agg [.c (.bool a),.il .u32 1 b]]=>some (Q27.f N a b,fun r=>.one (.agg [.c (.bool r.1),.il .u32 1 r.2]) [])
 |_=>none
theorem Q27.env (N:Nat):eB Try.prog (Q27.E N):=⟨(.cons fJ (.cons jC (.cons vE .nil))),(.cons (Q21.ent_ok N) .nil)⟩
theorem Q27.spec (N:Nat)(a:Bool)(c:List Int)(r:Bool×List Int)(h:Q27.f N a c=some r):kA Try.prog 90 [.agg [.c (.bool a),.il .u32 1 c]] [] (.agg [.c (.bool r.1),.il .u32 1 r.2]) ([]):=vA (Q27.env N) gA Try.func90 eA.n ((Q27.f_eq ..).trans h) fun v b e=>by unfold Q27.dec at e;split at e<;>cases e;exact⟨rfl,rfl⟩
theorem Q27.ent_ok (N:Nat):uA Try.prog 90 (Q27.ent N):=bB fun v a e h=>by split at h;exact wC (Q:=fun e=>kA _ _ _ _ (e a).pick.1 (e a).pick.2) h fun k=>Q27.spec N _ _ a k;cases h
noncomputable def Q28.f (N:Nat)(c:Bool)(d:List Int)(e:Bool)(f:List Int):Option (Bool×List Int×Int):=
 (Q27.f N e f).bind fun b=>
 (Q24.f N c d b.1 b.2).bind fun a=>
 some (a.1,a.2.1,a.2.2)
noncomputable def Q28.E (N:Nat):gD:=uF [(90,jO)] [(90,Q27.ent N),(91,Q24.ent N)] [] [] N [.cell 4 90,.tmp 5] [.recd [.any,.il .u32 1],.any] 0 12
noncomputable def Q28.dec (v:V)(bs:List nA):Option (Bool×List Int×Int):=match v,bs with
 | .tup [.agg [.c (.bool a),.il .u32 1 b],.c (.int .i64 c)],[]=>some (a,b,c)
 |_,_=>none
theorem Q28.f_eq (N:Nat)(a:Bool)(b:List Int)(c:Bool)(d:List Int):
  gB (Q28.E N) (bo Try.f87) [.agg [.c (.bool a),.il .u32 1 b],.agg [.c (.bool c),.il .u32 1 d]] [] Q28.dec=Q28.f N a b c d:=by kernel_rfl
noncomputable def Q28.ent (N:Nat):wA:=sG (Bool×List Int×Int) 0 [true,true] [.recd [.any,.il .u32 1],.recd [.any,.il .u32 1]] fun
 | [.agg [.c (.bool a),.il .u32 1 b],.agg [.c (.bool c),.il .u32 1 d]]=>some (Q28.f N a b c d,fun r=>.one (.tup [.agg [.c (.bool r.1),.il .u32 1 r.2.1],.c (.int .i64 r.2.2)]) [])
 |_=>none
theorem Q28.env (N:Nat):eB Try.prog (Q28.E N):=⟨(.cons vE .nil),(.cons (Q27.ent_ok N) (.cons (Q24.ent_ok N) .nil))⟩
theorem Q28.spec (N:Nat)(a:Bool)(c:List Int)(d:Bool)(f:List Int)(r:Bool×List Int×Int)(h:Q28.f N a c d f=some r):kA Try.prog 87 [.agg [.c (.bool a),.il .u32 1 c],.agg [.c (.bool d),.il .u32 1 f]] [] (.tup [.agg [.c (.bool r.1),.il .u32 1 r.2.1],.c (.int .i64 r.2.2)]) ([]):=vA (Q28.env N) gA Try.func87 eA.n ((Q28.f_eq ..).trans h) fun v b e=>by unfold Q28.dec at e;split at e<;>cases e;exact⟨rfl,rfl⟩
theorem Q28.ent_ok (N:Nat):uA Try.prog 87 (Q28.ent N):=bB fun v a e h=>by split at h;exact wC (Q:=fun e=>kA _ _ _ _ (e a).pick.1 (e a).pick.2) h fun k=>Q28.spec N _ _ _ _ a k;cases h
noncomputable def Q29.f (N:Nat)(h:Bool)(k:List Int)(i:Bool)(j:List Int):Option (Bool×List Int×Bool×List Int×Int):=
 (Q19.f N k j).bind fun a=>
 bif a.2.2 != 0 then
  some (false,[],false,[],a.2.2)
 else
 bif h then
  (Q3.f N a.2.1).bind fun l=>
  bif decide (l>0)then
   (Q5.f N 1).bind fun m=>
   (Q8.f N a.1 m).bind fun o=>
   (Q10.f N j a.2.1).bind fun p=>
   (Q21.f N (!(h==i)) o.1).bind fun b=>
   (Q21.f N false p.1).bind fun c=>
   some (b.1,b.2,c.1,c.2,0)
  else
  (Q21.f N (!(h==i)) a.1).bind fun d=>
  (Q21.f N false a.2.1).bind fun e=>
  some (d.1,d.2,e.1,e.2,0)
 else
 (Q21.f N (!(h==i)) a.1).bind fun f=>
 (Q21.f N false a.2.1).bind fun g=>
 some (f.1,f.2,g.1,g.2,0)
noncomputable def Q29.E (N:Nat):gD:=uF [(4,uv),(88,qH),(90,jO)] [(85,Q19.ent N),(77,Q3.ent N),(76,Q5.ent N),(109,Q8.ent N),(110,Q10.ent N),(59,Q21.ent N)] [] [] N [.cell 4 90,.cell 5 90,.tmp 6] [.recd [.any,.il .u32 1],.recd [.any,.il .u32 1],.any] 0 52
noncomputable def Q29.dec (v:V)(bs:List nA):Option (Bool×List Int×Bool×List Int×Int):=match v,bs with
 | .tup [.agg [.c (.bool a),.il .u32 1 b],.agg [.c (.bool c),.il .u32 1 d],.c (.int .i64 e)],[]=>some (a,b,c,d,e)
 |_,_=>none
theorem Q29.f_eq (N:Nat)(a:Bool)(b:List Int)(c:Bool)(d:List Int):
  gB (Q29.E N) (bo Try.f89) [.agg [.c (.bool a),.il .u32 1 b],.agg [.c (.bool c),.il .u32 1 d]] [] Q29.dec=Q29.f N a b c d:=by kernel_rfl
noncomputable def Q29.ent (N:Nat):wA:=sG (Bool×List Int×Bool×List Int×Int) 0 [true,true] [.recd [.any,.il .u32 1],.recd [.any,.il .u32 1]] fun
 | [.agg [.c (.bool a),.il .u32 1 b],.agg [.c (.bool c),.il .u32 1 d]]=>some (Q29.f N a b c d,fun r=>.one (.tup [.agg [.c (.bool r.1),.il .u32 1 r.2.1],.agg [.c (.bool r.2.2.1),.il .u32 1 r.2.2.2.1],.c (.int .i64 r.2.2.2.2)]) [])
 |_=>none
theorem Q29.env (N:Nat):eB Try.prog (Q29.E N):=⟨(.cons fJ (.cons jC (.cons vE .nil))),(.cons (Q19.ent_ok N) (.cons (Q3.ent_ok N) (.cons (Q5.ent_ok N) (.cons (Q8.ent_ok N) (.cons (Q10.ent_ok N) (.cons (Q21.ent_ok N) .nil))))))⟩
theorem Q29.spec (N:Nat)(a:Bool)(c:List Int)(d:Bool)(f:List Int)(r:Bool×List Int×Bool×List Int×Int)(h:Q29.f N a c d f=some r):kA Try.prog 89 [.agg [.c (.bool a),.il .u32 1 c],.agg [.c (.bool d),.il .u32 1 f]] [] (.tup [.agg [.c (.bool r.1),.il .u32 1 r.2.1],.agg [.c (.bool r.2.2.1),.il .u32 1 r.2.2.2.1],.c (.int .i64 r.2.2.2.2)]) ([]):=vA (Q29.env N) gA Try.func89 eA.n ((Q29.f_eq ..).trans h) fun v b e=>by unfold Q29.dec at e;split at e<;>cases e;exact⟨rfl,rfl⟩
theorem Q29.ent_ok (N:Nat):uA Try.prog 89 (Q29.ent N):=bB fun v a e h=>by split at h;exact wC (Q:=fun e=>kA _ _ _ _ (e a).pick.1 (e a).pick.2) h fun k=>Q29.spec N _ _ _ _ a k;cases h
noncomputable def Q30.f (N:Nat)(b:Bool)(c:List Int)(d:Bool)(e:List Int):Option (Bool×List Int×Int):=
 (Q29.f N b c d e).bind fun a=>
 bif a.2.2.2.2 != 0 then
  some (false,[],a.2.2.2.2)
 else
 (Q26.f N a.2.2.1 a.2.2.2.1).bind fun f=>
 bif f != 0 then
  some (false,[],2)
 else
 some (a.1,a.2.1,0)
noncomputable def Q30.E (N:Nat):gD:=uF [(4,uv),(88,qH),(90,jO)] [(89,Q29.ent N),(71,Q26.ent N)] [] [] N [.cell 4 90,.tmp 5] [.recd [.any,.il .u32 1],.any] 0 27
noncomputable def Q30.dec (v:V)(bs:List nA):Option (Bool×List Int×Int):=match v,bs with
 | .tup [.agg [.c (.bool a),.il .u32 1 b],.c (.int .i64 c)],[]=>some (a,b,c)
 |_,_=>none
theorem Q30.f_eq (N:Nat)(a:Bool)(b:List Int)(c:Bool)(d:List Int):
  gB (Q30.E N) (bo Try.f75) [.agg [.c (.bool a),.il .u32 1 b],.agg [.c (.bool c),.il .u32 1 d]] [] Q30.dec=Q30.f N a b c d:=by kernel_rfl
noncomputable def Q30.ent (N:Nat):wA:=sG (Bool×List Int×Int) 0 [true,true] [.recd [.any,.il .u32 1],.recd [.any,.il .u32 1]] fun
 | [.agg [.c (.bool a),.il .u32 1 b],.agg [.c (.bool c),.il .u32 1 d]]=>some (Q30.f N a b c d,fun r=>.one (.tup [.agg [.c (.bool r.1),.il .u32 1 r.2.1],.c (.int .i64 r.2.2)]) [])
 |_=>none
theorem Q30.env (N:Nat):eB Try.prog (Q30.E N):=⟨(.cons fJ (.cons jC (.cons vE .nil))),(.cons (Q29.ent_ok N) (.cons (Q26.ent_ok N) .nil))⟩
theorem Q30.spec (N:Nat)(a:Bool)(c:List Int)(d:Bool)(f:List Int)(r:Bool×List Int×Int)(h:Q30.f N a c d f=some r):kA Try.prog 75 [.agg [.c (.bool a),.il .u32 1 c],.agg [.c (.bool d),.il .u32 1 f]] [] (.tup [.agg [.c (.bool r.1),.il .u32 1 r.2.1],.c (.int .i64 r.2.2)]) ([]):=vA (Q30.env N) gA Try.func75 eA.n ((Q30.f_eq ..).trans h) fun v b e=>by unfold Q30.dec at e;split at e<;>cases e;exact⟨rfl,rfl⟩
theorem Q30.ent_ok (N:Nat):uA Try.prog 75 (Q30.ent N):=bB fun v a e h=>by split at h;exact wC (Q:=fun e=>kA _ _ _ _ (e a).pick.1 (e a).pick.2) h fun k=>Q30.spec N _ _ _ _ a k;cases h
noncomputable def Q31.f (N:Nat)(a:Bool)(b:List Int)(c:Int):Option (Bool×List Int):=
 some (a,b)
noncomputable def Q31.E (N:Nat):gD:=uF [(90,jO)] [] [] [] N [.cell 4 90] [.recd [.any,.il .u32 1]] 0 6
noncomputable def Q31.dec (v:V)(bs:List nA):Option (Bool×List Int):=match v,bs with
 | .agg [.c (.bool a),.il .u32 1 b],[]=>some (a,b)
 |_,_=>none
theorem Q31.f_eq (N:Nat)(a:Bool)(b:List Int)(c:Int):
  gB (Q31.E N) (bo Try.f74) [.agg [.c (.bool a),.il .u32 1 b],.c (.int .i64 c)] [] Q31.dec=Q31.f N a b c:=by kernel_rfl
noncomputable def Q31.ent (N:Nat):wA:=sG (Bool×List Int) 0 [true,true] [.recd [.any,.il .u32 1],.any] fun
 | [.agg [.c (.bool a),.il .u32 1 b],.c (.int .i64 c)]=>some (Q31.f N a b c,fun r=>.one (.agg [.c (.bool r.1),.il .u32 1 r.2]) [])
 |_=>none
theorem Q31.env (N:Nat):eB Try.prog (Q31.E N):=⟨(.cons vE .nil),.nil⟩
theorem Q31.spec (N:Nat)(a:Bool)(c:List Int)(d:Int)(r:Bool×List Int)(h:Q31.f N a c d=some r):kA Try.prog 74 [.agg [.c (.bool a),.il .u32 1 c],.c (.int .i64 d)] [] (.agg [.c (.bool r.1),.il .u32 1 r.2]) ([]):=vA (Q31.env N) gA Try.func74 eA.n ((Q31.f_eq ..).trans h) fun v b e=>by unfold Q31.dec at e;split at e<;>cases e;exact⟨rfl,rfl⟩
theorem Q31.ent_ok (N:Nat):uA Try.prog 74 (Q31.ent N):=bB fun v a e h=>by split at h;exact wC (Q:=fun e=>kA _ _ _ _ (e a).pick.1 (e a).pick.2) h fun k=>Q31.spec N _ _ _ a k;cases h
noncomputable def Q32.f (N:Nat)(e:Bool)(f:List Int)(g:Bool)(h:List Int)(i:Bool)(j:List Int):Option (Bool×List Int):=
 (Q25.f N g h i j).bind fun b=>
 (Q31.f N b.1 b.2.1 b.2.2).bind fun d=>
 (Q28.f N e f d.1 d.2).bind fun c=>
 (Q31.f N c.1 c.2.1 c.2.2).bind fun a=>
 some (a.1,a.2)
noncomputable def Q32.E (N:Nat):gD:=uF [(90,jO)] [(88,Q25.ent N),(74,Q31.ent N),(87,Q28.ent N)] [] [] N [.cell 6 90] [.recd [.any,.il .u32 1]] 0 18
noncomputable def Q32.dec (v:V)(bs:List nA):Option (Bool×List Int):=match v,bs with
 | .agg [.c (.bool a),.il .u32 1 b],[]=>some (a,b)
 |_,_=>none
theorem Q32.f_eq (N:Nat)(a:Bool)(b:List Int)(c:Bool)(d:List Int)(e:Bool)(f:List Int):
  gB (Q32.E N) (bo Try.f86) [.agg [.c (.bool a),.il .u32 1 b],.agg [.c (.bool c),.il .u32 1 d],.agg [.c (.bool e),.il .u32 1 f]] [] Q32.dec=Q32.f N a b c d e f:=by kernel_rfl
noncomputable def Q32.ent (N:Nat):wA:=sG (Bool×List Int) 0 [true,true,true] [.recd [.any,.il .u32 1],.recd [.any,.il .u32 1],.recd [.any,.il .u32 1]] fun
 | [.agg [.c (.bool a),.il .u32 1 b],.agg [.c (.bool c),.il .u32 1 d],.agg [.c (.bool e),.il .u32 1 f]]=>some (Q32.f N a b c d e f,fun r=>.one (.agg [.c (.bool r.1),.il .u32 1 r.2]) [])
 |_=>none
theorem Q32.env (N:Nat):eB Try.prog (Q32.E N):=⟨(.cons vE .nil),(.cons (Q25.ent_ok N) (.cons (Q31.ent_ok N) (.cons (Q28.ent_ok N) .nil)))⟩
theorem Q32.spec (N:Nat)(a:Bool)(c:List Int)(d:Bool)(f:List Int)(g:Bool)(i:List Int)(r:Bool×List Int)(h:Q32.f N a c d f g i=some r):kA Try.prog 86 [.agg [.c (.bool a),.il .u32 1 c],.agg [.c (.bool d),.il .u32 1 f],.agg [.c (.bool g),.il .u32 1 i]] [] (.agg [.c (.bool r.1),.il .u32 1 r.2]) ([]):=vA (Q32.env N) gA Try.func86 eA.n ((Q32.f_eq ..).trans h) fun v b e=>by unfold Q32.dec at e;split at e<;>cases e;exact⟨rfl,rfl⟩
theorem Q32.ent_ok (N:Nat):uA Try.prog 86 (Q32.ent N):=bB fun v a e h=>by split at h;exact wC (Q:=fun e=>kA _ _ _ _ (e a).pick.1 (e a).pick.2) h fun k=>Q32.spec N _ _ _ _ _ _ a k;cases h
noncomputable def Q33.l5 {R:Type}(N:Nat):Nat→Bool→List Int→Bool→List Int→Bool→Bool→Bool→List Int→Bool→List Int→Bool→List Int→Bool→List Int→Bool→List Int→Bool→List Int→(Bool→List Int→Bool→List Int→Bool→Bool→Bool→List Int→Bool→List Int→Option R)→Option R
 |0,_,_,_,_,_,_,_,_,_,_,_,_,_,_,_,_,_,_,_=>none
 |n+1,x,f,g,h,i,j,b,c,u,v,k,l,m,o,p,q,r,s,w=>
  (Q26.f N b c).bind fun t=>
  bif t==0 then
   w x f g h i j k l p q
  else
  (Q29.f N u v b c).bind fun a=>
  (Q32.f N k l a.1 a.2.1 m o).bind fun d=>
  (Q32.f N p q a.1 a.2.1 r s).bind fun e=>
  Q33.l5 N n x f g h i j a.2.2.1 a.2.2.2.1 b c m o d.1 d.2 r s e.1 e.2 w
noncomputable def Q33.f (N:Nat)(r:Bool)(s:List Int)(j:Bool)(k:List Int):Option (Bool×List Int×Bool×List Int):=
 (Q29.f N r s j k).bind fun i=>
 (Q22.f N 1).bind fun t=>
 (Q22.f N 1).bind fun u=>
 (Q27.f N i.1 i.2.1).bind fun v=>
 Q33.l5 N N r s j k false false i.2.2.1 i.2.2.2.1 j k false [] t.1 t.2 u.1 u.2 v.1 v.2
  (fun m o p q w x c d g h=>
   (Q26.f N c d).bind fun l=>
   bif decide (l<0)then
    (Q24.f N c d p q).bind fun a=>
    (Q31.f N a.1 a.2.1 a.2.2).bind fun e=>
    (Q28.f N g h m o).bind fun b=>
    (Q31.f N b.1 b.2.1 b.2.2).bind fun f=>
    some (e.1,e.2,f.1,f.2)
   else
   some (c,d,g,h))
noncomputable def Q33.h5:mE:=⟨[(2,.box [.any,.il .u32 1]),(3,.box [.any,.il .u32 1]),(4,.box [.any,.any]),(5,.box [.any,.any]),(6,.any),(8,.box [.any,.il .u32 1]),(10,.box [.any,.il .u32 1]),(11,.box [.any,.il .u32 1]),(12,.box [.any,.il .u32 1]),(13,.box [.any,.il .u32 1]),(14,.box [.any,.il .u32 1])],[(2,.box [.any,.il .u32 1]),(3,.box [.any,.il .u32 1]),(4,.box [.any,.any]),(5,.box [.any,.any]),(11,.box [.any,.il .u32 1]),(13,.box [.any,.il .u32 1])]⟩
noncomputable def Q33.c5 (N:Nat):mM:=⟨fun vs H k=>match vs,H with
 | [.ptr 0 0 2,.ptr 1 0 2,.ptr 2 0 2,.ptr 3 0 2,.fn 86 [] [],.ptr 4 0 2,.ptr 5 0 2,.ptr 6 0 2,.ptr 7 0 2,.ptr 8 0 2,.ptr 9 0 2],[.vals [.c (.bool x9),.il .u32 1 a],.vals [.c (.bool b),.il .u32 1 c],.vals [.c (.bool d),.c (.slice none 0 0)],.vals [.c (.bool e),.c (.slice none 0 0)],.vals [.c (.bool f),.il .u32 1 g],.vals [.c (.bool h),.il .u32 1 i],.vals [.c (.bool j),.il .u32 1 l],.vals [.c (.bool m),.il .u32 1 o],.vals [.c (.bool p),.il .u32 1 q],.vals [.c (.bool r),.il .u32 1 s]]=>Q33.l5 N N x9 a b c d e f g h i j l m o p q r s (fun t u v w x y z x35 x36 x37=>k (.exit 0) ⟨iE Q33.h5.out [.ptr 0 0 2,.ptr 1 0 2,.ptr 2 0 2,.ptr 3 0 2,.ptr 4 0 2,.ptr 5 0 2],[.vals [.c (.bool t),.il .u32 1 u],.vals [.c (.bool v),.il .u32 1 w],.vals [.c (.bool x),.c (.slice none 0 0)],.vals [.c (.bool y),.c (.slice none 0 0)],.vals [.c (.bool z),.il .u32 1 x35],.vals [.c (.bool x36),.il .u32 1 x37]]⟩)
 |_,_=>none⟩
noncomputable def Q33.E (N:Nat):gD:=uF [(4,uv),(88,qH),(90,jO)] [(89,Q29.ent N),(58,Q22.ent N),(90,Q27.ent N),(71,Q26.ent N),(86,Q32.ent N),(91,Q24.ent N),(74,Q31.ent N),(87,Q28.ent N)] [(5,Q33.h5)] [(5,Q33.c5 N)] N [.cell 4 90,.cell 5 90] [.recd [.any,.il .u32 1],.recd [.any,.il .u32 1]] 0 72
noncomputable def Q33.b5:Code:=cB ((jA (bo Try.f73)).getD 1 .skip)
theorem Q33.l5_eq {R:Type}(N n:Nat)(x9:Bool)(a:List Int)(b:Bool)(c:List Int)(d e f:Bool)(g:List Int)(h:Bool)(i:List Int)(j:Bool)(l:List Int)(m:Bool)(o:List Int)(p:Bool)(q:List Int)(r:Bool)(t:List Int)(k:Ex→St→Option R):
  xB 0 Q33.h5 (fun s k=>kB (Q33.E N) 390 Q33.b5 s k) n [.ptr 0 0 2,.ptr 1 0 2,.ptr 2 0 2,.ptr 3 0 2,.fn 86 [] [],.ptr 4 0 2,.ptr 5 0 2,.ptr 6 0 2,.ptr 7 0 2,.ptr 8 0 2,.ptr 9 0 2] [.vals [.c (.bool x9),.il .u32 1 a],.vals [.c (.bool b),.il .u32 1 c],.vals [.c (.bool d),.c (.slice none 0 0)],.vals [.c (.bool e),.c (.slice none 0 0)],.vals [.c (.bool f),.il .u32 1 g],.vals [.c (.bool h),.il .u32 1 i],.vals [.c (.bool j),.il .u32 1 l],.vals [.c (.bool m),.il .u32 1 o],.vals [.c (.bool p),.il .u32 1 q],.vals [.c (.bool r),.il .u32 1 t]] k=Q33.l5 N n x9 a b c d e f g h i j l m o p q r t (fun u v w x y z x34 x35 x36 x37=>k (.exit 0) ⟨iE Q33.h5.out [.ptr 0 0 2,.ptr 1 0 2,.ptr 2 0 2,.ptr 3 0 2,.ptr 4 0 2,.ptr 5 0 2],[.vals [.c (.bool u),.il .u32 1 v],.vals [.c (.bool w),.il .u32 1 x],.vals [.c (.bool y),.c (.slice none 0 0)],.vals [.c (.bool z),.c (.slice none 0 0)],.vals [.c (.bool x34),.il .u32 1 x35],.vals [.c (.bool x36),.il .u32 1 x37]]⟩):=by
 induction n generalizing x9 a b c d e f g h i j l m o p q r t with
 |zero=>kernel_rfl
 |succ n ih=>
  simp only[Q33.l5,←ih]
  kernel_rfl
noncomputable def Q33.dec (v:V)(bs:List nA):Option (Bool×List Int×Bool×List Int):=match v,bs with
 | .tup [.agg [.c (.bool a),.il .u32 1 b],.agg [.c (.bool c),.il .u32 1 d]],[]=>some (a,b,c,d)
 |_,_=>none
theorem Q33.f_eq (N:Nat)(a:Bool)(b:List Int)(c:Bool)(d:List Int):
  gB (Q33.E N) (bo Try.f73) [.agg [.c (.bool a),.il .u32 1 b],.agg [.c (.bool c),.il .u32 1 d]] [] Q33.dec=Q33.f N a b c d:=by kernel_rfl
noncomputable def Q33.ent (N:Nat):wA:=sG (Bool×List Int×Bool×List Int) 0 [true,true] [.recd [.any,.il .u32 1],.recd [.any,.il .u32 1]] fun
 | [.agg [.c (.bool a),.il .u32 1 b],.agg [.c (.bool c),.il .u32 1 d]]=>some (Q33.f N a b c d,fun r=>.one (.tup [.agg [.c (.bool r.1),.il .u32 1 r.2.1],.agg [.c (.bool r.2.2.1),.il .u32 1 r.2.2.2]]) [])
 |_=>none
theorem Q33.env (N:Nat):eB Try.prog (Q33.E N):=⟨(.cons fJ (.cons jC (.cons vE .nil))),(.cons (Q29.ent_ok N) (.cons (Q22.ent_ok N) (.cons (Q27.ent_ok N) (.cons (Q26.ent_ok N) (.cons (Q32.ent_ok N) (.cons (Q24.ent_ok N) (.cons (Q31.ent_ok N) (.cons (Q28.ent_ok N) .nil))))))))⟩
theorem Q33.k5 (N:Nat):qC Try.prog Try.f73 (Q33.E N) (.loop Q33.b5):=dE (Q33.env N) gA 390 (c:=Q33.c5 N) eA.n fun R vs H k r h=>by unfold Q33.c5 at h;dsimp only at h;split at h;exact⟨_,Q33.l5_eq .. ▸h⟩;cases h
theorem Q33.spec (N:Nat)(a:Bool)(c:List Int)(d:Bool)(f:List Int)(r:Bool×List Int×Bool×List Int)(h:Q33.f N a c d f=some r):kA Try.prog 73 [.agg [.c (.bool a),.il .u32 1 c],.agg [.c (.bool d),.il .u32 1 f]] [] (.tup [.agg [.c (.bool r.1),.il .u32 1 r.2.1],.agg [.c (.bool r.2.2.1),.il .u32 1 r.2.2.2]]) ([]):=vA (Q33.env N) gA Try.func73 (eA.of (l:=[(.scope (cB ((jA (bo Try.f73)).getD 0 .skip))),(.loop (cB ((jA (bo Try.f73)).getD 1 .skip)))]) (by kernel_rfl) (eA.cons (tR (by kernel_rfl)) (eA.cons (Q33.k5 N) eA.nil))) ((Q33.f_eq ..).trans h) fun v b e=>by unfold Q33.dec at e;split at e<;>cases e;exact⟨rfl,rfl⟩
theorem Q33.ent_ok (N:Nat):uA Try.prog 73 (Q33.ent N):=bB fun v a e h=>by split at h;exact wC (Q:=fun e=>kA _ _ _ _ (e a).pick.1 (e a).pick.2) h fun k=>Q33.spec N _ _ _ _ a k;cases h
noncomputable def Q34.f (N:Nat)(k:Bool)(h:List Int)(l:Bool)(j:List Int):Option (List Int×Bool×List Int×Bool×List Int):=
 (Q26.f N l j).bind fun p=>
 bif p==0 then
  (Q26.f N k h).bind fun q=>
  (Q22.f N q).bind fun m=>
  some (h,m.1,m.2,false,[])
 else
 (Q20.f N h j).bind fun o=>
 (Q21.f N false o).bind fun i=>
 (Q30.f N k h i.1 i.2).bind fun b=>
 (Q31.f N b.1 b.2.1 b.2.2).bind fun d=>
 (Q21.f N false j).bind fun e=>
 (Q30.f N e.1 e.2 i.1 i.2).bind fun c=>
 (Q31.f N c.1 c.2.1 c.2.2).bind fun f=>
 (Q33.f N d.1 d.2 f.1 f.2).bind fun a=>
 (Q21.f N (!(a.2.2.1==l)) a.2.2.2).bind fun g=>
 some (o,a.1,a.2.1,g.1,g.2)
noncomputable def Q34.E (N:Nat):gD:=uF [(4,uv),(88,qH),(90,jO)] [(71,Q26.ent N),(58,Q22.ent N),(72,Q20.ent N),(59,Q21.ent N),(75,Q30.ent N),(74,Q31.ent N),(73,Q33.ent N)] [] [] N [.cell 4 88,.cell 5 90,.cell 6 90] [.recd [.il .u32 1],.recd [.any,.il .u32 1],.recd [.any,.il .u32 1]] 0 52
noncomputable def Q34.dec (v:V)(bs:List nA):Option (List Int×Bool×List Int×Bool×List Int):=match v,bs with
 | .tup [.agg [.il .u32 1 a],.agg [.c (.bool b),.il .u32 1 c],.agg [.c (.bool d),.il .u32 1 e]],[]=>some (a,b,c,d,e)
 |_,_=>none
theorem Q34.f_eq (N:Nat)(a:Bool)(b:List Int)(c:Bool)(d:List Int):
  gB (Q34.E N) (bo Try.f57) [.agg [.c (.bool a),.il .u32 1 b],.agg [.c (.bool c),.il .u32 1 d]] [] Q34.dec=Q34.f N a b c d:=by kernel_rfl
noncomputable def Q34.ent (N:Nat):wA:=sG (List Int×Bool×List Int×Bool×List Int) 0 [true,true] [.recd [.any,.il .u32 1],.recd [.any,.il .u32 1]] fun
 | [.agg [.c (.bool a),.il .u32 1 b],.agg [.c (.bool c),.il .u32 1 d]]=>some (Q34.f N a b c d,fun r=>.one (.tup [.agg [.il .u32 1 r.1],.agg [.c (.bool r.2.1),.il .u32 1 r.2.2.1],.agg [.c (.bool r.2.2.2.1),.il .u32 1 r.2.2.2.2]]) [])
 |_=>none
theorem Q34.env (N:Nat):eB Try.prog (Q34.E N):=⟨(.cons fJ (.cons jC (.cons vE .nil))),(.cons (Q26.ent_ok N) (.cons (Q22.ent_ok N) (.cons (Q20.ent_ok N) (.cons (Q21.ent_ok N) (.cons (Q30.ent_ok N) (.cons (Q31.ent_ok N) (.cons (Q33.ent_ok N) .nil)))))))⟩
theorem Q34.spec (N:Nat)(a:Bool)(c:List Int)(d:Bool)(f:List Int)(r:List Int×Bool×List Int×Bool×List Int)(h:Q34.f N a c d f=some r):kA Try.prog 57 [.agg [.c (.bool a),.il .u32 1 c],.agg [.c (.bool d),.il .u32 1 f]] [] (.tup [.agg [.il .u32 1 r.1],.agg [.c (.bool r.2.1),.il .u32 1 r.2.2.1],.agg [.c (.bool r.2.2.2.1),.il .u32 1 r.2.2.2.2]]) ([]):=vA (Q34.env N) gA Try.func57 eA.n ((Q34.f_eq ..).trans h) fun v b e=>by unfold Q34.dec at e;split at e<;>cases e;exact⟨rfl,rfl⟩
theorem Q34.ent_ok (N:Nat):uA Try.prog 57 (Q34.ent N):=bB fun v a e h=>by split at h;exact wC (Q:=fun e=>kA _ _ _ _ (e a).pick.1 (e a).pick.2) h fun k=>Q34.spec N _ _ _ _ a k;cases h
noncomputable def Q35.f (N:Nat)(b c:Int):Option (Int×Int×Int):=
 bif decide ((ya b c)>4611686018427387904)then
  some (0,0,0)
 else
 bif decide ((Cq b c)<(-4611686018427387904))then
  some (0,0,0)
 else
 (Q22.f N b).bind fun d=>
 (Q22.f N c).bind fun e=>
 (Q34.f N d.1 d.2 e.1 e.2).bind fun a=>
 (Q21.f N false a.1).bind fun f=>
 (Q23.f N f.1 f.2).bind fun g=>
 (Q23.f N a.2.1 a.2.2.1).bind fun h=>
 (Q23.f N a.2.2.2.1 a.2.2.2.2).bind fun i=>
 some (g.1,h.1,i.1)
noncomputable def Q35.E (N:Nat):gD:=uF [(88,qH),(90,jO)] [(58,Q22.ent N),(57,Q34.ent N),(59,Q21.ent N),(60,Q23.ent N)] [] [] N [.tmp 4,.tmp 5,.tmp 6] [.any,.any,.any] 0 48
noncomputable def Q35.dec (v:V)(bs:List nA):Option (Int×Int×Int):=match v,bs with
 | .tup [.c (.int .i64 a),.c (.int .i64 b),.c (.int .i64 c)],[]=>some (a,b,c)
 |_,_=>none
theorem Q35.f_eq (N:Nat)(a b:Int):
  gB (Q35.E N) (bo Try.f48) [.c (.int .i64 a),.c (.int .i64 b)] [] Q35.dec=Q35.f N a b:=by kernel_rfl
noncomputable def Q35.ent (N:Nat):wA:=sG (Int×Int×Int) 0 [true,true] [.any,.any] fun
 | [.c (.int .i64 a),.c (.int .i64 b)]=>some (Q35.f N a b,fun r=>.one (.tup [.c (.int .i64 r.1),.c (.int .i64 r.2.1),.c (.int .i64 r.2.2)]) [])
 |_=>none
theorem Q35.env (N:Nat):eB Try.prog (Q35.E N):=⟨(.cons jC (.cons vE .nil)),(.cons (Q22.ent_ok N) (.cons (Q34.ent_ok N) (.cons (Q21.ent_ok N) (.cons (Q23.ent_ok N) .nil))))⟩
theorem Q35.spec (N:Nat)(a c:Int)(r:Int×Int×Int)(h:Q35.f N a c=some r):kA Try.prog 48 [.c (.int .i64 a),.c (.int .i64 c)] [] (.tup [.c (.int .i64 r.1),.c (.int .i64 r.2.1),.c (.int .i64 r.2.2)]) ([]):=vA (Q35.env N) gA Try.func48 eA.n ((Q35.f_eq ..).trans h) fun v b e=>by unfold Q35.dec at e;split at e<;>cases e;exact⟨rfl,rfl⟩
theorem Q35.ent_ok (N:Nat):uA Try.prog 48 (Q35.ent N):=bB fun v a e h=>by split at h;exact wC (Q:=fun e=>kA _ _ _ _ (e a).pick.1 (e a).pick.2) h fun k=>Q35.spec N _ _ a k;cases h
noncomputable def Q36.f (N:Nat)(a b c:Int):Option (Bool):=
 bif decide ((ya (ya a b) c)≤1073741824)then
  some (decide ((Cq (Cq a b) c)≥(-1073741824)))
 else
 some false
noncomputable def Q36.E (N:Nat):gD:=uF [(2,yX),(23,kP)] [] [] [] N [.tmp 2] [.any] 0 21
noncomputable def Q36.dec (v:V)(bs:List nA):Option (Bool):=match v,bs with
 | .c (.bool a),[]=>some a
 |_,_=>none
theorem Q36.f_eq (N:Nat)(a b c:Int):
  gB (Q36.E N) (bo Try.f44) [.agg [.c (.int .i64 a),.c (.int .i64 b),.c (.int .i64 c)]] [] Q36.dec=Q36.f N a b c:=by kernel_rfl
noncomputable def Q36.ent (N:Nat):wA:=sG (Bool) 0 [true] [.recd [.any,.any,.any]] fun
 | [.agg [.c (.int .i64 a),.c (.int .i64 b),.c (.int .i64 c)]]=>some (Q36.f N a b c,fun r=>.one (.c (.bool r)) [])
 |_=>none
theorem Q36.env (N:Nat):eB Try.prog (Q36.E N):=⟨(.cons kE (.cons bF .nil)),.nil⟩
theorem Q36.spec (N:Nat)(a c d:Int)(r:Bool)(h:Q36.f N a c d=some r):kA Try.prog 44 [.agg [.c (.int .i64 a),.c (.int .i64 c),.c (.int .i64 d)]] [] (.c (.bool r)) ([]):=vA (Q36.env N) gA Try.func44 eA.n ((Q36.f_eq ..).trans h) fun v b e=>by unfold Q36.dec at e;split at e<;>cases e;exact⟨rfl,rfl⟩
theorem Q36.ent_ok (N:Nat):uA Try.prog 44 (Q36.ent N):=bB fun v a e h=>by split at h;exact wC (Q:=fun e=>kA _ _ _ _ (e a).pick.1 (e a).pick.2) h fun k=>Q36.spec N _ _ _ a k;cases h
noncomputable def Q37.f (N:Nat)(b a c:Int):Option (Int):=
 (Q36.f N b a c).bind fun d=>
 bif !d then
  some 0
 else
 some (aA ((aA (a*a))- (aA ((aA (4*b))*c))))
noncomputable def Q37.E (N:Nat):gD:=uF [(2,yX),(23,kP)] [(44,Q36.ent N)] [] [] N [.tmp 2] [.any] 0 18
noncomputable def Q37.dec (v:V)(bs:List nA):Option (Int):=match v,bs with
 | .c (.int .i64 a),[]=>some a
 |_,_=>none
theorem Q37.f_eq (N:Nat)(a b c:Int):
  gB (Q37.E N) (bo Try.f24) [.agg [.c (.int .i64 a),.c (.int .i64 b),.c (.int .i64 c)]] [] Q37.dec=Q37.f N a b c:=by kernel_rfl
noncomputable def Q37.ent (N:Nat):wA:=sG (Int) 0 [true] [.recd [.any,.any,.any]] fun
 | [.agg [.c (.int .i64 a),.c (.int .i64 b),.c (.int .i64 c)]]=>some (Q37.f N a b c,fun r=>.one (.c (.int .i64 r)) [])
 |_=>none
theorem Q37.env (N:Nat):eB Try.prog (Q37.E N):=⟨(.cons kE (.cons bF .nil)),(.cons (Q36.ent_ok N) .nil)⟩
theorem Q37.spec (N:Nat)(a c d r:Int)(h:Q37.f N a c d=some r):kA Try.prog 24 [.agg [.c (.int .i64 a),.c (.int .i64 c),.c (.int .i64 d)]] [] (.c (.int .i64 r)) ([]):=vA (Q37.env N) gA Try.func24 eA.n ((Q37.f_eq ..).trans h) fun v b e=>by unfold Q37.dec at e;split at e<;>cases e;exact⟨rfl,rfl⟩
theorem Q37.ent_ok (N:Nat):uA Try.prog 24 (Q37.ent N):=bB fun v a e h=>by split at h;exact wC (Q:=fun e=>kA _ _ _ _ (e a).pick.1 (e a).pick.2) h fun k=>Q37.spec N _ _ _ a k;cases h
noncomputable def Q38.f (N:Nat)(a b c:Int):Option (Int):=
 (Q37.f N a b c).bind fun d=>
 (Q36.f N a b c).bind fun e=>
 bif !e then
  some 3
 else
 bif decide (a≤0)then
  some 81
 else
 bif decide (d≥0)then
  some 81
 else
 bif decide (d<(-4294967296))then
  some 80
 else
 some 0
noncomputable def Q38.E (N:Nat):gD:=uF [(2,yX),(23,kP)] [(24,Q37.ent N),(44,Q36.ent N)] [] [] N [.tmp 2] [.any] 0 21
noncomputable def Q38.dec (v:V)(bs:List nA):Option (Int):=match v,bs with
 | .c (.int .i64 a),[]=>some a
 |_,_=>none
theorem Q38.f_eq (N:Nat)(a b c:Int):
  gB (Q38.E N) (bo Try.f29) [.agg [.c (.int .i64 a),.c (.int .i64 b),.c (.int .i64 c)]] [] Q38.dec=Q38.f N a b c:=by kernel_rfl
noncomputable def Q38.ent (N:Nat):wA:=sG (Int) 0 [true] [.recd [.any,.any,.any]] fun
 | [.agg [.c (.int .i64 a),.c (.int .i64 b),.c (.int .i64 c)]]=>some (Q38.f N a b c,fun r=>.one (.c (.int .i64 r)) [])
 |_=>none
theorem Q38.env (N:Nat):eB Try.prog (Q38.E N):=⟨(.cons kE (.cons bF .nil)),(.cons (Q37.ent_ok N) (.cons (Q36.ent_ok N) .nil))⟩
theorem Q38.spec (N:Nat)(a c d r:Int)(h:Q38.f N a c d=some r):kA Try.prog 29 [.agg [.c (.int .i64 a),.c (.int .i64 c),.c (.int .i64 d)]] [] (.c (.int .i64 r)) ([]):=vA (Q38.env N) gA Try.func29 eA.n ((Q38.f_eq ..).trans h) fun v b e=>by unfold Q38.dec at e;split at e<;>cases e;exact⟨rfl,rfl⟩
theorem Q38.ent_ok (N:Nat):uA Try.prog 29 (Q38.ent N):=bB fun v a e h=>by split at h;exact wC (Q:=fun e=>kA _ _ _ _ (e a).pick.1 (e a).pick.2) h fun k=>Q38.spec N _ _ _ a k;cases h
noncomputable def Q39.f (N:Nat)(a b e c f d g:Int):Option (Bool×Int×Int×Int×Int×Int×Int×Int):=
 bif decide (b≤(aA (0-a)))then
  bif !((aA (2*a))==0)then
   bif !((aA (2*a))==0)then
    bif decide ((Int.tmod (aA (a-b)) (aA (2*a)))<0)then
     some (true,a,aA (b+(aA ((aA (2*(aA ((aA (Int.tdiv (aA (a-b)) (aA (2*a))))-1))))*a))),aA ((aA ((aA ((aA (a*(aA ((aA (Int.tdiv (aA (a-b)) (aA (2*a))))-1))))+b))*(aA ((aA (Int.tdiv (aA (a-b)) (aA (2*a))))-1))))+e),c,aA ((aA ((aA ((aA (Int.tdiv (aA (a-b)) (aA (2*a))))-1))*c))+f),d,aA ((aA ((aA ((aA (Int.tdiv (aA (a-b)) (aA (2*a))))-1))*d))+g))
    else
    some (true,a,aA (b+(aA ((aA (2*(aA (Int.tdiv (aA (a-b)) (aA (2*a))))))*a))),aA ((aA ((aA ((aA (a*(aA (Int.tdiv (aA (a-b)) (aA (2*a))))))+b))*(aA (Int.tdiv (aA (a-b)) (aA (2*a))))))+e),c,aA ((aA ((aA (Int.tdiv (aA (a-b)) (aA (2*a))))*c))+f),d,aA ((aA ((aA (Int.tdiv (aA (a-b)) (aA (2*a))))*d))+g))
   else none
  else none
 else
 bif decide (b>a)then
  bif !((aA (2*a))==0)then
   bif !((aA (2*a))==0)then
    bif decide ((Int.tmod (aA (a-b)) (aA (2*a)))<0)then
     some (true,a,aA (b+(aA ((aA (2*(aA ((aA (Int.tdiv (aA (a-b)) (aA (2*a))))-1))))*a))),aA ((aA ((aA ((aA (a*(aA ((aA (Int.tdiv (aA (a-b)) (aA (2*a))))-1))))+b))*(aA ((aA (Int.tdiv (aA (a-b)) (aA (2*a))))-1))))+e),c,aA ((aA ((aA ((aA (Int.tdiv (aA (a-b)) (aA (2*a))))-1))*c))+f),d,aA ((aA ((aA ((aA (Int.tdiv (aA (a-b)) (aA (2*a))))-1))*d))+g))
    else
    some (true,a,aA (b+(aA ((aA (2*(aA (Int.tdiv (aA (a-b)) (aA (2*a))))))*a))),aA ((aA ((aA ((aA (a*(aA (Int.tdiv (aA (a-b)) (aA (2*a))))))+b))*(aA (Int.tdiv (aA (a-b)) (aA (2*a))))))+e),c,aA ((aA ((aA (Int.tdiv (aA (a-b)) (aA (2*a))))*c))+f),d,aA ((aA ((aA (Int.tdiv (aA (a-b)) (aA (2*a))))*d))+g))
   else none
  else none
 else
 bif decide (a>e)then
  some (true,e,aA (0-b),a,f,aA (0-c),g,aA (0-d))
 else
 bif a==e then
  bif decide (b<0)then
   some (true,e,aA (0-b),a,f,aA (0-c),g,aA (0-d))
  else
  some (false,a,b,e,c,f,d,g)
 else
 some (false,a,b,e,c,f,d,g)
noncomputable def Q40.l6 {R:Type}(N:Nat):Nat→Int→Int→Int→Int→Int→Int→Int→Int→Int→Int→Int→Int→Int→Int→(Int→Int→Int→Int→Int→Int→Int→Int→Int→Int→Int→Int→Int→Int→Option R)→Option R
 |0,_,_,_,_,_,_,_,_,_,_,_,_,_,_,_=>none
 |n+1,l,m,o,p,q,b,c,d,e,f,g,h,i,j,k=>
  (Q39.f N d e f g h i j).bind fun a=>
  bif a.1 then
   Q40.l6 N n l m o p q b c a.2.1 a.2.2.1 a.2.2.2.1 a.2.2.2.2.1 a.2.2.2.2.2.1 a.2.2.2.2.2.2.1 a.2.2.2.2.2.2.2 k
  else
  k l m o p q b c a.2.1 a.2.2.1 a.2.2.2.1 a.2.2.2.2.1 a.2.2.2.2.2.1 a.2.2.2.2.2.2.1 a.2.2.2.2.2.2.2
noncomputable def Q40.f (N:Nat)(h i j:Int):Option (Int×Int×Int×Int×Int×Int×Int×Int):=
 (Q38.f N h i j).bind fun k=>
 bif k != 0 then
  some (0,0,0,0,0,0,0,k)
 else
 Q40.l6 N N 0 0 0 0 0 0 0 h i j 1 0 0 1
  (fun l m o p q r s a b c d e f g=>
   some (a,b,c,d,e,f,g,0))
noncomputable def Q41.f (N:Nat)(a b c:Int):Option (Int):=
 (Q36.f N a b c).bind fun d=>
 bif !d then
  some 0
 else
 (Q35.f N a b).bind fun e=>
 (Q35.f N e.1 c).bind fun f=>
 some f.1
noncomputable def Q41.E (N:Nat):gD:=uF [(2,yX),(23,kP)] [(44,Q36.ent N),(48,Q35.ent N)] [] [] N [.tmp 2] [.any] 0 27
noncomputable def Q41.dec (v:V)(bs:List nA):Option (Int):=match v,bs with
 | .c (.int .i64 a),[]=>some a
 |_,_=>none
theorem Q41.f_eq (N:Nat)(a b c:Int):
  gB (Q41.E N) (bo Try.f30) [.agg [.c (.int .i64 a),.c (.int .i64 b),.c (.int .i64 c)]] [] Q41.dec=Q41.f N a b c:=by kernel_rfl
noncomputable def Q41.ent (N:Nat):wA:=sG (Int) 0 [true] [.recd [.any,.any,.any]] fun
 | [.agg [.c (.int .i64 a),.c (.int .i64 b),.c (.int .i64 c)]]=>some (Q41.f N a b c,fun r=>.one (.c (.int .i64 r)) [])
 |_=>none
theorem Q41.env (N:Nat):eB Try.prog (Q41.E N):=⟨(.cons kE (.cons bF .nil)),(.cons (Q36.ent_ok N) (.cons (Q35.ent_ok N) .nil))⟩
theorem Q41.spec (N:Nat)(a c d r:Int)(h:Q41.f N a c d=some r):kA Try.prog 30 [.agg [.c (.int .i64 a),.c (.int .i64 c),.c (.int .i64 d)]] [] (.c (.int .i64 r)) ([]):=vA (Q41.env N) gA Try.func30 eA.n ((Q41.f_eq ..).trans h) fun v b e=>by unfold Q41.dec at e;split at e<;>cases e;exact⟨rfl,rfl⟩
theorem Q41.ent_ok (N:Nat):uA Try.prog 30 (Q41.ent N):=bB fun v a e h=>by split at h;exact wC (Q:=fun e=>kA _ _ _ _ (e a).pick.1 (e a).pick.2) h fun k=>Q41.spec N _ _ _ a k;cases h
noncomputable def Q42.f (N:Nat)(b a:Int):Option (Int):=
 bif !(a==0)then
  bif decide ((Int.tmod b a)<0)then
   some (aA ((Int.tmod b a)+a))
  else
  some (Int.tmod b a)
 else none
noncomputable def Q43.f (N:Nat)(a:Int):Option (Bool):=
 bif decide (a≥(-1073741824))then
  some (decide (a≤1073741824))
 else
 some false
noncomputable def Q44.f (N:Nat)(a b c:Int):Option (Bool):=
 (Q43.f N a).bind fun d=>
 bif d then
  (Q43.f N b).bind fun e=>
  bif e then
   (Q43.f N c).bind fun f=>
   some f
  else
  some false
 else
 some false
noncomputable def Q45.f (N:Nat)(b a c:Int):Option (Int):=
 (Q44.f N b a c).bind fun d=>
 bif !d then
  some 0
 else
 some (aA ((aA (a*a))- (aA ((aA (4*b))*c))))
noncomputable def Q46.f (N:Nat)(a b c:Int):Option (Int):=
 (Q44.f N a b c).bind fun d=>
 bif !d then
  some 3
 else
 bif decide (a≤0)then
  some 81
 else
 (Q45.f N a b c).bind fun e=>
 bif decide (e≥0)then
  some 81
 else
 (Q45.f N a b c).bind fun f=>
 bif decide (f<(-4294967296))then
  some 80
 else
 some 0
noncomputable def Q47.f (N:Nat)(a b c:Int):Option (Bool):=
 bif decide ((aA (0-a))<b)then
  bif decide (b≤a)then
   bif decide (a≤c)then
    bif decide (b≥0)then
     some true
    else
    some (a != c)
   else
   some false
  else
  some false
 else
 some false
noncomputable def Q48.f (N:Nat)(b a:Int):Option (Int):=
 (Q42.f N b a).bind fun c=>
 bif !(a==0)then
  some (aA (Int.tdiv (aA (b-c)) a))
 else none
noncomputable def Q49.l5 {R:Type}(N:Nat):Nat→Int→Int→Int→Int→Int→Int→Int→Int→Int→Int→Int→Int→Int→Int→(Int→Int→Int→Int→Int→Int→Int→Int→Int→Int→Int→Int→Int→Int→Option R)→Option R
 |0,_,_,_,_,_,_,_,_,_,_,_,_,_,_,_=>none
 |n+1,a,f,o,q,r,g,h,i,j,k,b,l,c,m,p=>
  (Q47.f N a f o).bind fun s=>
  bif !s then
   bif decide ((aA (0-a))≥f)then
    (Q48.f N (aA (a-f)) (aA (2*a))).bind fun d=>
    Q49.l5 N n a (aA (f+(aA ((aA (2*d))*a)))) (aA ((aA ((aA ((aA (a*d))+f))*d))+o)) q r g h i j k b (aA ((aA (d*b))+l)) c (aA ((aA (d*c))+m)) p
   else
   bif decide (f>a)then
    (Q48.f N (aA (a-f)) (aA (2*a))).bind fun e=>
    Q49.l5 N n a (aA (f+(aA ((aA (2*e))*a)))) (aA ((aA ((aA ((aA (a*e))+f))*e))+o)) q r g h i j k b (aA ((aA (e*b))+l)) c (aA ((aA (e*c))+m)) p
   else
   Q49.l5 N n o (aA (0-f)) a q r g h i j k l (aA (0-b)) m (aA (0-c)) p
  else
  p a f o q r g h i j k b l c m
noncomputable def Q49.f (N:Nat)(h i j:Int):Option (Int×Int×Int×Int×Int×Int×Int×Int):=
 (Q46.f N h i j).bind fun k=>
 bif k != 0 then
  some (0,0,0,0,0,0,0,k)
 else
 Q49.l5 N N h i j 0 0 0 0 0 0 0 1 0 0 1
  (fun a b c l m o p q r s d e f g=>
   some (a,b,c,d,e,f,g,0))
noncomputable def Q50.f (N:Nat)(a:Int):Option (Int):=
 bif decide (a≥4294967296)then
  bif decide ((Int.fdiv a (2^32))≥65536)then
   bif decide ((Int.fdiv (Int.fdiv a (2^32)) (2^16))≥256)then
    bif (decide (0≤(gL (Int.fdiv (Int.fdiv (Int.fdiv a (2^32)) (2^16)) (2^8)))))&&(decide ((gL (Int.fdiv (Int.fdiv (Int.fdiv a (2^32)) (2^16)) (2^8)))<(kH.size:Int)))then
     some (aA (56+(aA (gF kH ((gL (Int.fdiv (Int.fdiv (Int.fdiv a (2^32)) (2^16)) (2^8))).toNat)))))
    else none
   else
   bif (decide (0≤(gL (Int.fdiv (Int.fdiv a (2^32)) (2^16)))))&&(decide ((gL (Int.fdiv (Int.fdiv a (2^32)) (2^16)))<(kH.size:Int)))then
    some (aA (48+(aA (gF kH ((gL (Int.fdiv (Int.fdiv a (2^32)) (2^16))).toNat)))))
   else none
  else
  bif decide ((Int.fdiv a (2^32))≥256)then
   bif (decide (0≤(gL (Int.fdiv (Int.fdiv a (2^32)) (2^8)))))&&(decide ((gL (Int.fdiv (Int.fdiv a (2^32)) (2^8)))<(kH.size:Int)))then
    some (aA (40+(aA (gF kH ((gL (Int.fdiv (Int.fdiv a (2^32)) (2^8))).toNat)))))
   else none
  else
  bif (decide (0≤(gL (Int.fdiv a (2^32)))))&&(decide ((gL (Int.fdiv a (2^32)))<(kH.size:Int)))then
   some (aA (32+(aA (gF kH ((gL (Int.fdiv a (2^32))).toNat)))))
  else none
 else
 bif decide (a≥65536)then
  bif decide ((Int.fdiv a (2^16))≥256)then
   bif (decide (0≤(gL (Int.fdiv (Int.fdiv a (2^16)) (2^8)))))&&(decide ((gL (Int.fdiv (Int.fdiv a (2^16)) (2^8)))<(kH.size:Int)))then
    some (aA (24+(aA (gF kH ((gL (Int.fdiv (Int.fdiv a (2^16)) (2^8))).toNat)))))
   else none
  else
  bif (decide (0≤(gL (Int.fdiv a (2^16)))))&&(decide ((gL (Int.fdiv a (2^16)))<(kH.size:Int)))then
   some (aA (16+(aA (gF kH ((gL (Int.fdiv a (2^16))).toNat)))))
  else none
 else
 bif decide (a≥256)then
  bif (decide (0≤(gL (Int.fdiv a (2^8)))))&&(decide ((gL (Int.fdiv a (2^8)))<(kH.size:Int)))then
   some (aA (8+(aA (gF kH ((gL (Int.fdiv a (2^8))).toNat)))))
  else none
 else
 bif (decide (0≤(gL a)))&&(decide ((gL a)<(kH.size:Int)))then
  some (aA (0+(aA (gF kH ((gL a).toNat)))))
 else none
noncomputable def Q51.f (N:Nat)(a:Int):Option (Int):=
 (Q50.f N a).bind fun b=>
 some (aA (64-b))
noncomputable def Q52.f (N:Nat)(a b:Int):Option (Int×Int):=
 some (lA ((lA ((lA ((Int.fdiv a (2^32))*(Int.fdiv b (2^32))))+(Int.fdiv (lA ((lA ((Int.fdiv a (2^32))*(iB .u64 b 4294967295)))+(Int.fdiv (lA ((iB .u64 a 4294967295)*(iB .u64 b 4294967295))) (2^32)))) (2^32))))+(Int.fdiv (lA ((iB .u64 (lA ((lA ((Int.fdiv a (2^32))*(iB .u64 b 4294967295)))+(Int.fdiv (lA ((iB .u64 a 4294967295)*(iB .u64 b 4294967295))) (2^32)))) 4294967295)+(lA ((iB .u64 a 4294967295)*(Int.fdiv b (2^32)))))) (2^32))),lA (a*b))
noncomputable def Q53.l17 {R:Type}(N:Nat):Nat→Int→Int→Int→Int→Int→Int→Int→Int→Int→(Int→Int→Int→Int→Int→Int→Int→Int→Option R)→Option R
 |0,_,_,_,_,_,_,_,_,_,_=>none
 |n+1,h,i,e,f,j,b,c,a,d,g=>
  bif decide (a≥4294967296)then
   bif decide ((lA (d+e))≥4294967296)then
    g h i e f j b c (lA (a-1))
   else
   Q53.l17 N n h i e f j b c (lA (a-1)) (lA (d+e)) g
  else
  bif decide ((lA (a*f))>(lA ((lA (4294967296*d))+b)))then
   bif decide ((lA (d+e))≥4294967296)then
    g h i e f j b c (lA (a-1))
   else
   Q53.l17 N n h i e f j b c (lA (a-1)) (lA (d+e)) g
  else
  g h i e f j b c a
noncomputable def Q53.l24 {R:Type}(N:Nat):Nat→Int→Int→Int→Int→Int→Int→Int→Int→Int→(Int→Int→Int→Int→Int→Int→Option R)→Option R
 |0,_,_,_,_,_,_,_,_,_,_=>none
 |n+1,d,e,b,i,c,f,g,h,a,j=>
  bif decide (a≥4294967296)then
   bif decide ((lA (g+b))≥4294967296)then
    j d e c f h (lA (a-1))
   else
   Q53.l24 N n d e b i c f (lA (g+b)) h (lA (a-1)) j
  else
  bif decide ((lA (a*i))>(lA ((lA (4294967296*g))+c)))then
   bif decide ((lA (g+b))≥4294967296)then
    j d e c f h (lA (a-1))
   else
   Q53.l24 N n d e b i c f (lA (g+b)) h (lA (a-1)) j
  else
  j d e c f h a
noncomputable def Q53.f (N:Nat)(i h b:Int):Option (Int×Int):=
 bif b==0 then none else
 bif decide (b≤i)then none else
 bif i==0 then
  bif !(b==0)then
   bif !(b==0)then
    some (lA (Int.tdiv h b),Int.tmod h b)
   else none
  else none
 else
 (Q51.f N b).bind fun a=>
 bif decide (0≤(lA a))then
  bif decide (0≤(lA a))then
   bif decide (0≤(lA (64- (lA a))))then
    bif decide (0≤(lA a))then
     bif !((Int.fdiv (lA (b*2^(min (lA a).toNat 64))) (2^32))==0)then
      Q53.l17 N N (lA (b*2^(min (lA a).toNat 64))) (lA a) (Int.fdiv (lA (b*2^(min (lA a).toNat 64))) (2^32)) (iB .u64 (lA (b*2^(min (lA a).toNat 64))) 4294967295) (oD .u64 (lA (i*2^(min (lA a).toNat 64))) (Int.fdiv h (2^(min (lA (64- (lA a))).toNat 64)))) (Int.fdiv (lA (h*2^(min (lA a).toNat 64))) (2^32)) (iB .u64 (lA (h*2^(min (lA a).toNat 64))) 4294967295) (lA (Int.tdiv (oD .u64 (lA (i*2^(min (lA a).toNat 64))) (Int.fdiv h (2^(min (lA (64- (lA a))).toNat 64)))) (Int.fdiv (lA (b*2^(min (lA a).toNat 64))) (2^32)))) (lA ((oD .u64 (lA (i*2^(min (lA a).toNat 64))) (Int.fdiv h (2^(min (lA (64- (lA a))).toNat 64))))- (lA ((lA (Int.tdiv (oD .u64 (lA (i*2^(min (lA a).toNat 64))) (Int.fdiv h (2^(min (lA (64- (lA a))).toNat 64)))) (Int.fdiv (lA (b*2^(min (lA a).toNat 64))) (2^32))))*(Int.fdiv (lA (b*2^(min (lA a).toNat 64))) (2^32))))))
       (fun c l d m f g o e=>
        bif !(d==0)then
         Q53.l24 N N c l d m o e (lA ((lA ((lA ((lA (f*4294967296))+g))- (lA (e*c))))- (lA ((lA (Int.tdiv (lA ((lA ((lA (f*4294967296))+g))- (lA (e*c)))) d))*d)))) (lA ((lA ((lA (f*4294967296))+g))- (lA (e*c)))) (lA (Int.tdiv (lA ((lA ((lA (f*4294967296))+g))- (lA (e*c)))) d))
          (fun p j q r s k=>
           bif decide (0≤j)then
            some (lA ((lA (r*4294967296))+k),Int.fdiv (lA ((lA ((lA (s*4294967296))+q))- (lA (k*p)))) (2^(min j.toNat 64)))
           else none)
        else none)
     else none
    else none
   else none
  else none
 else none
noncomputable def Q54.f (N:Nat)(b a:Int):Option (Int):=
 bif !(a==0)then
  bif decide ((Int.tmod b a)<0)then
   some (aA ((Int.tmod b a)+a))
  else
  some (Int.tmod b a)
 else none
noncomputable def Q55.f (N:Nat)(b c d:Int):Option (Int):=
 (Q52.f N (lA b) (lA c)).bind fun a=>
 (Q53.f N a.1 a.2 (lA d)).bind fun e=>
 some (aA e.2)
noncomputable def Q56.f (N:Nat)(b c a:Int):Option (Int×Int):=
 bif decide (a<1)then
  some (0,2)
 else
 bif decide (a>4611686018427387904)then
  some (0,2)
 else
 (Q54.f N b a).bind fun d=>
 (Q54.f N c a).bind fun e=>
 (Q55.f N d e a).bind fun f=>
 some (f,0)
noncomputable def Q57.f (N:Nat)(a b c:Int):Option (Int):=
 (Q56.f N a b c).bind fun d=>
 some d.1
noncomputable def Q58.f (N:Nat)(a:Int):Option (Int×Int×Int×Int):=
 bif decide (a>(-3))then
  some (0,0,0,80)
 else
 bif decide (a<(-4294967296))then
  some (0,0,0,80)
 else
 bif (iB .i64 (aA (0-a)) 3)==1 then
  some (0,0,0,80)
 else
 bif (iB .i64 (aA (0-a)) 3)==2 then
  some (0,0,0,80)
 else
 some (1,iB .i64 (aA (0-a)) 1,aA (Int.tdiv (aA ((iB .i64 (aA (0-a)) 1)-a)) 4),0)
noncomputable def Q58.E (N:Nat):gD:=uF [(2,yX),(23,kP)] [] [] [] N [.cell 2 23,.tmp 3] [.recd [.any,.any,.any],.any] 0 33
noncomputable def Q58.dec (v:V)(bs:List nA):Option (Int×Int×Int×Int):=match v,bs with
 | .tup [.agg [.c (.int .i64 a),.c (.int .i64 b),.c (.int .i64 c)],.c (.int .i64 d)],[]=>some (a,b,c,d)
 |_,_=>none
theorem Q58.f_eq (N:Nat)(a:Int):
  gB (Q58.E N) (bo Try.f25) [.c (.int .i64 a)] [] Q58.dec=Q58.f N a:=by kernel_rfl
noncomputable def Q58.ent (N:Nat):wA:=sG (Int×Int×Int×Int) 0 [true] [.any] fun
 | [.c (.int .i64 a)]=>some (Q58.f N a,fun r=>.one (.tup [.agg [.c (.int .i64 r.1),.c (.int .i64 r.2.1),.c (.int .i64 r.2.2.1)],.c (.int .i64 r.2.2.2)]) [])
 |_=>none
theorem Q58.env (N:Nat):eB Try.prog (Q58.E N):=⟨(.cons kE (.cons bF .nil)),.nil⟩
theorem Q58.spec (N:Nat)(a:Int)(r:Int×Int×Int×Int)(h:Q58.f N a=some r):kA Try.prog 25 [.c (.int .i64 a)] [] (.tup [.agg [.c (.int .i64 r.1),.c (.int .i64 r.2.1),.c (.int .i64 r.2.2.1)],.c (.int .i64 r.2.2.2)]) ([]):=vA (Q58.env N) gA Try.func25 eA.n ((Q58.f_eq ..).trans h) fun v b e=>by unfold Q58.dec at e;split at e<;>cases e;exact⟨rfl,rfl⟩
theorem Q58.ent_ok (N:Nat):uA Try.prog 25 (Q58.ent N):=bB fun v a e h=>by split at h;exact wC (Q:=fun e=>kA _ _ _ _ (e a).pick.1 (e a).pick.2) h fun k=>Q58.spec N _ a k;cases h
noncomputable def Q59.f (N:Nat)(b c d:Int):Option (Int×Int×Int×Int):=
 (Q40.f N b c d).bind fun a=>
 bif a.2.2.2.2.2.2.2 != 0 then
  some (a.1,a.2.1,a.2.2.1,a.2.2.2.2.2.2.2)
 else
 (Q41.f N b c d).bind fun e=>
 bif e != 1 then
  some (0,0,0,81)
 else
 some (a.1,a.2.1,a.2.2.1,0)
noncomputable def Q60.l12 {R:Type}(N:Nat):Nat→Int→Int→Int→Int→Int→Int→(Int→Int→Int→Option R)→Option R
 |0,_,_,_,_,_,_,_=>none
 |n+1,c,a,b,d,e,f,kr=>
  bif !((aA (2*a))==0)then
   bif !((aA (2*a))==0)then
    bif decide ((Int.tmod (aA ((Int.tmod b (aA (2*a)))+(aA (2*a)))) (aA (2*a)))>a)then
     bif !((aA (4*a))==0)then
      bif decide (a<(aA (Int.tdiv (aA ((aA ((aA ((Int.tmod (aA ((Int.tmod b (aA (2*a)))+(aA (2*a)))) (aA (2*a)))- (aA (2*a))))*(aA ((Int.tmod (aA ((Int.tmod b (aA (2*a)))+(aA (2*a)))) (aA (2*a)))- (aA (2*a))))))-c)) (aA (4*a)))))then
       kr a (aA ((Int.tmod (aA ((Int.tmod b (aA (2*a)))+(aA (2*a)))) (aA (2*a)))- (aA (2*a)))) (aA (Int.tdiv (aA ((aA ((aA ((Int.tmod (aA ((Int.tmod b (aA (2*a)))+(aA (2*a)))) (aA (2*a)))- (aA (2*a))))*(aA ((Int.tmod (aA ((Int.tmod b (aA (2*a)))+(aA (2*a)))) (aA (2*a)))- (aA (2*a))))))-c)) (aA (4*a))))
      else
      bif a==(aA (Int.tdiv (aA ((aA ((aA ((Int.tmod (aA ((Int.tmod b (aA (2*a)))+(aA (2*a)))) (aA (2*a)))- (aA (2*a))))*(aA ((Int.tmod (aA ((Int.tmod b (aA (2*a)))+(aA (2*a)))) (aA (2*a)))- (aA (2*a))))))-c)) (aA (4*a))))then
       bif decide ((aA ((Int.tmod (aA ((Int.tmod b (aA (2*a)))+(aA (2*a)))) (aA (2*a)))- (aA (2*a))))≥0)then
        kr a (aA ((Int.tmod (aA ((Int.tmod b (aA (2*a)))+(aA (2*a)))) (aA (2*a)))- (aA (2*a)))) (aA (Int.tdiv (aA ((aA ((aA ((Int.tmod (aA ((Int.tmod b (aA (2*a)))+(aA (2*a)))) (aA (2*a)))- (aA (2*a))))*(aA ((Int.tmod (aA ((Int.tmod b (aA (2*a)))+(aA (2*a)))) (aA (2*a)))- (aA (2*a))))))-c)) (aA (4*a))))
       else
       Q60.l12 N n c (aA (Int.tdiv (aA ((aA ((aA ((Int.tmod (aA ((Int.tmod b (aA (2*a)))+(aA (2*a)))) (aA (2*a)))- (aA (2*a))))*(aA ((Int.tmod (aA ((Int.tmod b (aA (2*a)))+(aA (2*a)))) (aA (2*a)))- (aA (2*a))))))-c)) (aA (4*a)))) (aA (0- (aA ((Int.tmod (aA ((Int.tmod b (aA (2*a)))+(aA (2*a)))) (aA (2*a)))- (aA (2*a)))))) d e f kr
      else
      Q60.l12 N n c (aA (Int.tdiv (aA ((aA ((aA ((Int.tmod (aA ((Int.tmod b (aA (2*a)))+(aA (2*a)))) (aA (2*a)))- (aA (2*a))))*(aA ((Int.tmod (aA ((Int.tmod b (aA (2*a)))+(aA (2*a)))) (aA (2*a)))- (aA (2*a))))))-c)) (aA (4*a)))) (aA (0- (aA ((Int.tmod (aA ((Int.tmod b (aA (2*a)))+(aA (2*a)))) (aA (2*a)))- (aA (2*a)))))) d e f kr
     else none
    else
    bif !((aA (4*a))==0)then
     bif decide (a<(aA (Int.tdiv (aA ((aA ((Int.tmod (aA ((Int.tmod b (aA (2*a)))+(aA (2*a)))) (aA (2*a)))*(Int.tmod (aA ((Int.tmod b (aA (2*a)))+(aA (2*a)))) (aA (2*a)))))-c)) (aA (4*a)))))then
      kr a (Int.tmod (aA ((Int.tmod b (aA (2*a)))+(aA (2*a)))) (aA (2*a))) (aA (Int.tdiv (aA ((aA ((Int.tmod (aA ((Int.tmod b (aA (2*a)))+(aA (2*a)))) (aA (2*a)))*(Int.tmod (aA ((Int.tmod b (aA (2*a)))+(aA (2*a)))) (aA (2*a)))))-c)) (aA (4*a))))
     else
     bif a==(aA (Int.tdiv (aA ((aA ((Int.tmod (aA ((Int.tmod b (aA (2*a)))+(aA (2*a)))) (aA (2*a)))*(Int.tmod (aA ((Int.tmod b (aA (2*a)))+(aA (2*a)))) (aA (2*a)))))-c)) (aA (4*a))))then
      bif decide ((Int.tmod (aA ((Int.tmod b (aA (2*a)))+(aA (2*a)))) (aA (2*a)))≥0)then
       kr a (Int.tmod (aA ((Int.tmod b (aA (2*a)))+(aA (2*a)))) (aA (2*a))) (aA (Int.tdiv (aA ((aA ((Int.tmod (aA ((Int.tmod b (aA (2*a)))+(aA (2*a)))) (aA (2*a)))*(Int.tmod (aA ((Int.tmod b (aA (2*a)))+(aA (2*a)))) (aA (2*a)))))-c)) (aA (4*a))))
      else
      Q60.l12 N n c (aA (Int.tdiv (aA ((aA ((Int.tmod (aA ((Int.tmod b (aA (2*a)))+(aA (2*a)))) (aA (2*a)))*(Int.tmod (aA ((Int.tmod b (aA (2*a)))+(aA (2*a)))) (aA (2*a)))))-c)) (aA (4*a)))) (aA (0- (Int.tmod (aA ((Int.tmod b (aA (2*a)))+(aA (2*a)))) (aA (2*a))))) d e f kr
     else
     Q60.l12 N n c (aA (Int.tdiv (aA ((aA ((Int.tmod (aA ((Int.tmod b (aA (2*a)))+(aA (2*a)))) (aA (2*a)))*(Int.tmod (aA ((Int.tmod b (aA (2*a)))+(aA (2*a)))) (aA (2*a)))))-c)) (aA (4*a)))) (aA (0- (Int.tmod (aA ((Int.tmod b (aA (2*a)))+(aA (2*a)))) (aA (2*a))))) d e f kr
    else none
   else none
  else none
noncomputable def Q60.f (N:Nat)(c e w d f x u:Int):Option (Int×Int×Int):=
 bif decide (c>d)then
  (Q35.f N c d).bind fun v=>
  (Q35.f N (aA (Int.tdiv (aA (f+e)) 2)) v.1).bind fun b=>
  bif !(b.1==0)then
   bif !(b.1==0)then
    (Q57.f N (aA (0-b.2.2)) (aA (e- (aA (Int.tdiv (aA (f+e)) 2)))) (aA (Int.tdiv d b.1))).bind fun h=>
    (Q57.f N v.2.1 h (aA (Int.tdiv d b.1))).bind fun i=>
    (Q57.f N b.2.1 w (aA (Int.tdiv d b.1))).bind fun j=>
    bif !((aA (Int.tdiv d b.1))==0)then
     bif !((aA (Int.tdiv d b.1))==0)then
      Q60.l12 N N u (aA ((aA (Int.tdiv d b.1))*(aA (Int.tdiv c b.1)))) (aA (e+(aA ((aA (2*(aA (Int.tdiv c b.1))))*(Int.tmod (aA ((Int.tmod (aA (i-j)) (aA (Int.tdiv d b.1)))+(aA (Int.tdiv d b.1)))) (aA (Int.tdiv d b.1))))))) 0 0 0
       (fun o p q=>
        some (o,p,q))
     else none
    else none
   else none
  else none
 else
 (Q35.f N d c).bind fun g=>
 (Q35.f N (aA (Int.tdiv (aA (e+f)) 2)) g.1).bind fun a=>
 bif !(a.1==0)then
  bif !(a.1==0)then
   (Q57.f N (aA (0-a.2.2)) (aA (f- (aA (Int.tdiv (aA (e+f)) 2)))) (aA (Int.tdiv c a.1))).bind fun k=>
   (Q57.f N g.2.1 k (aA (Int.tdiv c a.1))).bind fun l=>
   (Q57.f N a.2.1 x (aA (Int.tdiv c a.1))).bind fun m=>
   bif !((aA (Int.tdiv c a.1))==0)then
    bif !((aA (Int.tdiv c a.1))==0)then
     Q60.l12 N N u (aA ((aA (Int.tdiv c a.1))*(aA (Int.tdiv d a.1)))) (aA (f+(aA ((aA (2*(aA (Int.tdiv d a.1))))*(Int.tmod (aA ((Int.tmod (aA (l-m)) (aA (Int.tdiv c a.1)))+(aA (Int.tdiv c a.1)))) (aA (Int.tdiv c a.1))))))) 0 0 0
      (fun r s t=>
       some (r,s,t))
    else none
   else none
  else none
 else none
noncomputable def Q61.f (N:Nat)(e f g h i j:Int):Option (Int×Int×Int×Int):=
 (Q38.f N e f g).bind fun l=>
 bif l != 0 then
  some (0,0,0,l)
 else
 (Q38.f N h i j).bind fun m=>
 bif m != 0 then
  some (0,0,0,m)
 else
 (Q59.f N e f g).bind fun d=>
 bif d.2.2.2 != 0 then
  some (0,0,0,d.2.2.2)
 else
 (Q59.f N h i j).bind fun a=>
 bif a.2.2.2 != 0 then
  some (0,0,0,a.2.2.2)
 else
 (Q37.f N e f g).bind fun c=>
 (Q37.f N h i j).bind fun k=>
 bif c != k then
  some (0,0,0,100)
 else
 (Q60.f N d.1 d.2.1 d.2.2.1 a.1 a.2.1 a.2.2.1 c).bind fun b=>
 some (b.1,b.2.1,b.2.2,0)
noncomputable def uh:TI:=⟨.slice 3,1,24,[.slice none 0 0]⟩
noncomputable def Bz:TI:=⟨.slice 23,1,24,[.slice none 0 0]⟩
noncomputable def Ag:TI:=⟨.map 23 2,1,8,[.map none]⟩
theorem bR:iC Try.prog 24 uh:=nC (by kernel_rfl) (by kernel_rfl) (by kernel_rfl) (by kernel_rfl) (by kernel_rfl) (by kernel_rfl) (by kernel_rfl) (Try.underlying24) (by kernel_rfl)
theorem br:iC Try.prog 43 Bz:=nC (by kernel_rfl) (by kernel_rfl) (by kernel_rfl) (by kernel_rfl) (by kernel_rfl) (by kernel_rfl) (by kernel_rfl) (Try.underlying43) (by kernel_rfl)
theorem jb:iC Try.prog 100 Ag:=nC (by kernel_rfl) (by kernel_rfl) (by kernel_rfl) (by kernel_rfl) (by kernel_rfl) (by kernel_rfl) (by kernel_rfl) (Ac Try.underlying100 (by kernel_rfl)) (by kernel_rfl)
noncomputable def Q62.f (N:Nat)(a:Int):Option (Bool):=
 some (a != a)
noncomputable def Q62.E (N:Nat):gD:=uF [] [] [] [] N [.tmp 2] [.any] 0 6
noncomputable def Q62.dec (v:V)(bs:List nA):Option (Bool):=match v,bs with
 | .c (.bool a),[]=>some a
 |_,_=>none
theorem Q62.f_eq (N:Nat)(a:Int):
  gB (Q62.E N) (bo Try.f82) [.c (.int .i64 a)] [] Q62.dec=Q62.f N a:=by kernel_rfl
noncomputable def Q62.ent (N:Nat):wA:=sG (Bool) 0 [true] [.any] fun
 | [.c (.int .i64 a)]=>some (Q62.f N a,fun r=>.one (.c (.bool r)) [])
 |_=>none
theorem Q62.env (N:Nat):eB Try.prog (Q62.E N):=⟨.nil,.nil⟩
theorem Q62.spec (N:Nat)(a:Int)(r:Bool)(h:Q62.f N a=some r):kA Try.prog 82 [.c (.int .i64 a)] [] (.c (.bool r)) ([]):=vA (Q62.env N) gA Try.func82 eA.n ((Q62.f_eq ..).trans h) fun v b e=>by unfold Q62.dec at e;split at e<;>cases e;exact⟨rfl,rfl⟩
theorem Q62.ent_ok (N:Nat):uA Try.prog 82 (Q62.ent N):=bB fun v a e h=>by split at h;exact wC (Q:=fun e=>kA _ _ _ _ (e a).pick.1 (e a).pick.2) h fun k=>Q62.spec N _ a k;cases h
noncomputable def Q63.f (N:Nat)(a b:Int):Option (Int):=
 (Q62.f N a).bind fun d=>
 (Q62.f N b).bind fun c=>
 bif d then
  bif c then
   some 0
  else
  some (-1)
 else
 bif c then
  some 1
 else
 bif decide (a<b)then
  some (-1)
 else
 bif decide (a>b)then
  some 1
 else
 some 0
noncomputable def Q63.E (N:Nat):gD:=uF [] [(82,Q62.ent N)] [] [] N [.tmp 4] [.any] 0 20
noncomputable def Q63.dec (v:V)(bs:List nA):Option (Int):=match v,bs with
 | .c (.int .i64 a),[]=>some a
 |_,_=>none
theorem Q63.f_eq (N:Nat)(a b:Int):
  gB (Q63.E N) (bo Try.f69) [.c (.int .i64 a),.c (.int .i64 b)] [] Q63.dec=Q63.f N a b:=by kernel_rfl
noncomputable def Q63.ent (N:Nat):wA:=sG (Int) 0 [true,true] [.any,.any] fun
 | [.c (.int .i64 a),.c (.int .i64 b)]=>some (Q63.f N a b,fun r=>.one (.c (.int .i64 r)) [])
 |_=>none
theorem Q63.env (N:Nat):eB Try.prog (Q63.E N):=⟨.nil,(.cons (Q62.ent_ok N) .nil)⟩
theorem Q63.spec (N:Nat)(a c r:Int)(h:Q63.f N a c=some r):kA Try.prog 69 [.c (.int .i64 a),.c (.int .i64 c)] [] (.c (.int .i64 r)) ([]):=vA (Q63.env N) gA Try.func69 eA.n ((Q63.f_eq ..).trans h) fun v b e=>by unfold Q63.dec at e;split at e<;>cases e;exact⟨rfl,rfl⟩
theorem Q63.ent_ok (N:Nat):uA Try.prog 69 (Q63.ent N):=bB fun v a e h=>by split at h;exact wC (Q:=fun e=>kA _ _ _ _ (e a).pick.1 (e a).pick.2) h fun k=>Q63.spec N _ _ a k;cases h
noncomputable def Q64.l3 {R:Type}(N:Nat):Nat→Int→List Int→Int→Int→(Int→Option R)→(Int→Option R)→Option R
 |0,_,_,_,_,_,_=>none
 |n+1,c,b,e,a,d,kr=>
  bif decide (a<e)then
   bif (decide (0≤a))&&(decide (a<(b.length:Int)))then
    bif (b.getD a.toNat 0) != c then
     kr (b.getD a.toNat 0)
    else
    Q64.l3 N n c b e (aA (a+1)) d kr
   else none
  else
  d c
noncomputable def Q64.f (N:Nat)(a:List Int):Option (Int):=
 Q64.l3 N N 0 a (a.length:Int) 0
  (fun b=>
   some b)
  (fun c=>
   some c)
noncomputable def Q64.h3:mE:=⟨[(3,.any),(6,.il .i64 1),(7,.any),(8,.any)],[(3,.any)]⟩
noncomputable def Q64.c3 (N:Nat):mM:=⟨fun vs H k=>match vs,H with
 | [.c (.int .i64 a),.il .i64 1 b,.c (.int .i64 c),.c (.int .i64 d)],[]=>Q64.l3 N N a b c d (fun f=>k (.exit 0) ⟨iE Q64.h3.out [.c (.int .i64 f)],[]⟩) (fun e=>k (.ret (.c (.int .i64 e)) []) .nil)
 |_,_=>none⟩
noncomputable def Q64.E (N:Nat):gD:=uF [(3,Ah),(24,uh)] [] [(3,Q64.h3)] [(3,Q64.c3 N)] N [.tmp 2] [.any] 0 18
noncomputable def Q64.b3:Code:=cB ((jA (bo Try.f68)).getD 0 .skip)
theorem Q64.l3_eq {R:Type}(N n:Nat)(a:Int)(b:List Int)(c d:Int)(k:Ex→St→Option R):
  xB 0 Q64.h3 (fun s k=>kB (Q64.E N) 394 Q64.b3 s k) n [.c (.int .i64 a),.il .i64 1 b,.c (.int .i64 c),.c (.int .i64 d)] [] k=Q64.l3 N n a b c d (fun f=>k (.exit 0) ⟨iE Q64.h3.out [.c (.int .i64 f)],[]⟩) (fun e=>k (.ret (.c (.int .i64 e)) []) .nil):=by
 induction n generalizing a b c d with
 |zero=>kernel_rfl
 |succ n ih=>
  simp only[Q64.l3,←ih]
  kernel_rfl
noncomputable def Q64.dec (v:V)(bs:List nA):Option (Int):=match v,bs with
 | .c (.int .i64 a),[]=>some a
 |_,_=>none
theorem Q64.f_eq (N:Nat)(a:List Int):
  gB (Q64.E N) (bo Try.f68) [.il .i64 1 a] [] Q64.dec=Q64.f N a:=by kernel_rfl
noncomputable def Q64.ent (N:Nat):wA:=sG (Int) 0 [true] [.il .i64 1] fun
 | [.il .i64 1 a]=>some (Q64.f N a,fun r=>.one (.c (.int .i64 r)) [])
 |_=>none
theorem Q64.env (N:Nat):eB Try.prog (Q64.E N):=⟨(.cons kK (.cons bR .nil)),.nil⟩
theorem Q64.k3 (N:Nat):qC Try.prog Try.f68 (Q64.E N) (.loop Q64.b3):=dE (Q64.env N) gA 394 (c:=Q64.c3 N) eA.n fun R vs H k r h=>by unfold Q64.c3 at h;dsimp only at h;split at h;exact⟨_,Q64.l3_eq .. ▸h⟩;cases h
theorem Q64.spec (N:Nat)(a:List Int)(r:Int)(h:Q64.f N a=some r):kA Try.prog 68 [.il .i64 1 a] [] (.c (.int .i64 r)) ([]):=vA (Q64.env N) gA Try.func68 (eA.of (l:=[(.loop (cB ((jA (bo Try.f68)).getD 0 .skip)))]) (by kernel_rfl) (eA.cons (Q64.k3 N) eA.nil)) ((Q64.f_eq ..).trans h) fun v b e=>by unfold Q64.dec at e;split at e<;>cases e;exact⟨rfl,rfl⟩
theorem Q64.ent_ok (N:Nat):uA Try.prog 68 (Q64.ent N):=bB fun v a e h=>by split at h;exact wC (Q:=fun e=>kA _ _ _ _ (e a).pick.1 (e a).pick.2) h fun k=>Q64.spec N _ a k;cases h
noncomputable def Q65.f (N:Nat)(b c d e f g:Int):Option (Int):=
 (Q63.f N b e).bind fun h=>
 (Q63.f N c f).bind fun i=>
 (Q63.f N d g).bind fun j=>
 (Q64.f N [h,i,j]).bind fun a=>
 some a
noncomputable def Q65.E (N:Nat):gD:=uF [(2,yX),(3,Ah),(23,kP),(24,uh)] [(69,Q63.ent N),(68,Q64.ent N)] [] [] N [.tmp 4] [.any] 0 22
noncomputable def Q65.dec (v:V)(bs:List nA):Option (Int):=match v,bs with
 | .c (.int .i64 a),[]=>some a
 |_,_=>none
theorem Q65.f_eq (N:Nat)(a b c d e f:Int):
  gB (Q65.E N) (bo Try.f67) [.agg [.c (.int .i64 a),.c (.int .i64 b),.c (.int .i64 c)],.agg [.c (.int .i64 d),.c (.int .i64 e),.c (.int .i64 f)]] [] Q65.dec=Q65.f N a b c d e f:=by kernel_rfl
theorem Q65.env (N:Nat):eB Try.prog (Q65.E N):=⟨(.cons kE (.cons kK (.cons bF (.cons bR .nil)))),(.cons (Q63.ent_ok N) (.cons (Q64.ent_ok N) .nil))⟩
theorem Q65.spec (N:Nat)(a c d f g i r:Int)(h:Q65.f N a c d f g i=some r):kA Try.prog 67 [.agg [.c (.int .i64 a),.c (.int .i64 c),.c (.int .i64 d)],.agg [.c (.int .i64 f),.c (.int .i64 g),.c (.int .i64 i)]] [] (.c (.int .i64 r)) ([]):=vA (Q65.env N) gA Try.func67 eA.n ((Q65.f_eq ..).trans h) fun v b e=>by unfold Q65.dec at e;split at e<;>cases e;exact⟨rfl,rfl⟩
noncomputable def Q66.f (N:Nat)(a:Int):Option (Int):=
 bif decide (a<(-65536))then
  some 80
 else
 bif decide (a>(-3))then
  some 80
 else
 bif (Int.tmod (aA (0-a)) 4)==1 then
  some 80
 else
 bif (Int.tmod (aA (0-a)) 4)==2 then
  some 80
 else
 some 0
noncomputable def Q66.E (N:Nat):gD:=uF [] [] [] [] N [.tmp 2] [.any] 0 21
noncomputable def Q66.dec (v:V)(bs:List nA):Option (Int):=match v,bs with
 | .c (.int .i64 a),[]=>some a
 |_,_=>none
theorem Q66.f_eq (N:Nat)(a:Int):
  gB (Q66.E N) (bo Try.f40) [.c (.int .i64 a)] [] Q66.dec=Q66.f N a:=by kernel_rfl
noncomputable def Q66.ent (N:Nat):wA:=sG (Int) 0 [true] [.any] fun
 | [.c (.int .i64 a)]=>some (Q66.f N a,fun r=>.one (.c (.int .i64 r)) [])
 |_=>none
theorem Q66.env (N:Nat):eB Try.prog (Q66.E N):=⟨.nil,.nil⟩
theorem Q66.spec (N:Nat)(a r:Int)(h:Q66.f N a=some r):kA Try.prog 40 [.c (.int .i64 a)] [] (.c (.int .i64 r)) ([]):=vA (Q66.env N) gA Try.func40 eA.n ((Q66.f_eq ..).trans h) fun v b e=>by unfold Q66.dec at e;split at e<;>cases e;exact⟨rfl,rfl⟩
theorem Q66.ent_ok (N:Nat):uA Try.prog 40 (Q66.ent N):=bB fun v a e h=>by split at h;exact wC (Q:=fun e=>kA _ _ _ _ (e a).pick.1 (e a).pick.2) h fun k=>Q66.spec N _ a k;cases h
noncomputable def Q67.l7 {R:Type}(N:Nat):Nat→Int→Int→Int→Int→List (List Int)→List Int→(Int→Int→List (List Int)→List Int→Option R)→Option R
 |0,_,_,_,_,_,_,_=>none
 |n+1,h,c,d,a,b,e,g=>
  bif decide ((aA (a*a))≤d)then
   bif !(a==0)then
    bif (Int.tmod d a) != 0 then
     Q67.l7 N n h c d (aA (a+1)) b e g
    else
    bif !(a==0)then
     (Q41.f N a c (aA (Int.tdiv d a))).bind fun f=>
     bif decide (c>0)then
      bif decide (c<a)then
       bif decide (a<(aA (Int.tdiv d a)))then
        Q67.l7 N n h c d (aA (a+1)) (fC [a,aA (0-c),aA (Int.tdiv d a)] (fC [a,c,aA (Int.tdiv d a)] b)) (iK [a,aA (0-c),aA (Int.tdiv d a)] (yI [a,c,aA (Int.tdiv d a)] (fC [a,c,aA (Int.tdiv d a)] b) (iK [a,c,aA (Int.tdiv d a)] f b e)) (fC [a,c,aA (Int.tdiv d a)] b) (iK [a,c,aA (Int.tdiv d a)] f b e)) g
       else
       Q67.l7 N n h c d (aA (a+1)) (fC [a,c,aA (Int.tdiv d a)] b) (iK [a,c,aA (Int.tdiv d a)] f b e) g
      else
      Q67.l7 N n h c d (aA (a+1)) (fC [a,c,aA (Int.tdiv d a)] b) (iK [a,c,aA (Int.tdiv d a)] f b e) g
     else
     Q67.l7 N n h c d (aA (a+1)) (fC [a,c,aA (Int.tdiv d a)] b) (iK [a,c,aA (Int.tdiv d a)] f b e) g
    else none
   else none
  else
  g h c b e
noncomputable def Q67.l3 {R:Type}(N:Nat):Nat→Int→Int→List (List Int)→List Int→(List (List Int)→List Int→Option R)→Option R
 |0,_,_,_,_,_=>none
 |n+1,b,a,h,i,g=>
  bif decide ((aA ((aA (3*a))*a))≤(aA (0-b)))then
   Q67.l7 N N b a (aA (Int.tdiv (aA ((aA (a*a))-b)) 4)) (ya a 1) h i
    (fun c d e f=>
     Q67.l3 N n c (aA (d+2)) e f g)
  else
  g h i
noncomputable def Q67.f (N:Nat)(c:Int):Option (List (List Int)×List Int):=
 Q67.l3 N N c (Int.tmod (aA (0-c)) 2) [] []
  (fun a b=>
   some (a,b))
noncomputable def Q67.h3:mE:=⟨[(0,.any),(3,.any),(4,.any)],[(3,.any)]⟩
noncomputable def Q67.h7:mE:=⟨[(0,.any),(3,.any),(4,.any),(5,.any),(6,.any)],[(0,.any),(3,.any),(4,.any)]⟩
noncomputable def Q67.c7 (N:Nat):mM:=⟨fun vs H k=>match vs,H with
 | [.c (.int .i64 g),.mref 0,.c (.int .i64 h),.c (.int .i64 i),.c (.int .i64 j)],[.mp .i64 3 a (.ints .i64 b)]=>Q67.l7 N N g h i j a b (fun c d e f=>k (.exit 2) ⟨iE Q67.h7.out [.c (.int .i64 c),.mref 0,.c (.int .i64 d)],[.mp .i64 3 e (.ints .i64 f)]⟩)
 |_,_=>none⟩
noncomputable def Q67.c3 (N:Nat):mM:=⟨fun vs H k=>match vs,H with
 | [.c (.int .i64 c),.mref 0,.c (.int .i64 d)],[.mp .i64 3 e (.ints .i64 f)]=>Q67.l3 N N c d e f (fun a b=>k (.exit 0) ⟨iE Q67.h3.out [.mref 0],[.mp .i64 3 a (.ints .i64 b)]⟩)
 |_,_=>none⟩
noncomputable def Q67.E (N:Nat):gD:=uF [(2,yX),(23,kP),(100,Ag)] [(30,Q41.ent N)] [(3,Q67.h3),(7,Q67.h7)] [(7,Q67.c7 N),(3,Q67.c3 N)] N [.tmp 2] [.any] 0 74 true
noncomputable def Q67.b7:Code:=cB ((jA (bo Try.f65)).getD 1 .skip)
theorem Q67.l7_eq {R:Type}(N n:Nat)(g h i j:Int)(a:List (List Int))(b:List Int)(k:Ex→St→Option R):
  xB 0 Q67.h7 (fun s k=>kB (Q67.E N) 387 Q67.b7 s k) n [.c (.int .i64 g),.mref 0,.c (.int .i64 h),.c (.int .i64 i),.c (.int .i64 j)] [.mp .i64 3 a (.ints .i64 b)] k=Q67.l7 N n g h i j a b (fun c d e f=>k (.exit 2) ⟨iE Q67.h7.out [.c (.int .i64 c),.mref 0,.c (.int .i64 d)],[.mp .i64 3 e (.ints .i64 f)]⟩):=by
 induction n generalizing g h i j a b with
 |zero=>kernel_rfl
 |succ n ih=>
  simp only[Q67.l7,←ih]
  kernel_rfl
noncomputable def Q67.b3:Code:=cB ((jA (bo Try.f65)).getD 0 .skip)
theorem Q67.l3_eq {R:Type}(N n:Nat)(a d:Int)(e:List (List Int))(f:List Int)(k:Ex→St→Option R):
  xB 0 Q67.h3 (fun s k=>kB (Q67.E N) 394 Q67.b3 s k) n [.c (.int .i64 a),.mref 0,.c (.int .i64 d)] [.mp .i64 3 e (.ints .i64 f)] k=Q67.l3 N n a d e f (fun b c=>k (.exit 0) ⟨iE Q67.h3.out [.mref 0],[.mp .i64 3 b (.ints .i64 c)]⟩):=by
 induction n generalizing a d e f with
 |zero=>kernel_rfl
 |succ n ih=>
  simp only[Q67.l3,←ih]
  kernel_rfl
noncomputable def Q67.dec (v:V)(bs:List nA):Option (List (List Int)×List Int):=match v,bs with
 | .mref 0,[.mp .i64 3 a (.ints .i64 b)]=>some (a,b)
 |_,_=>none
theorem Q67.f_eq (N:Nat)(a:Int):
  gB (Q67.E N) (bo Try.f65) [.c (.int .i64 a)] [] Q67.dec=Q67.f N a:=by kernel_rfl
noncomputable def Q67.ent (N:Nat):wA:=sG (List (List Int)×List Int) 1 [true] [.any] fun
 | [.c (.int .i64 a)]=>some (Q67.f N a,fun r=>.one (.mref 0) [.mp .i64 3 r.1 (.ints .i64 r.2)])
 |_=>none
theorem Q67.env (N:Nat):eB Try.prog (Q67.E N):=⟨(.cons kE (.cons bF (.cons jb .nil))),(.cons (Q41.ent_ok N) .nil)⟩
theorem Q67.k7 (N:Nat):qC Try.prog Try.f65 (Q67.E N) (.loop Q67.b7):=dE (Q67.env N) gA 387 (c:=Q67.c7 N) eA.n fun R vs H k r h=>by unfold Q67.c7 at h;dsimp only at h;split at h;exact⟨_,Q67.l7_eq .. ▸h⟩;cases h
theorem Q67.k3 (N:Nat):qC Try.prog Try.f65 (Q67.E N) (.loop Q67.b3):=dE (Q67.env N) gA 394 (c:=Q67.c3 N) (eA.of (l:=[(.loop (cB ((jA (bo Try.f65)).getD 1 .skip)))]) (by kernel_rfl) (eA.cons (Q67.k7 N) eA.nil)) fun R vs H k r h=>by unfold Q67.c3 at h;dsimp only at h;split at h;exact⟨_,Q67.l3_eq .. ▸h⟩;cases h
theorem Q67.spec (N:Nat)(a:Int)(r:List (List Int)×List Int)(h:Q67.f N a=some r):kA Try.prog 65 [.c (.int .i64 a)] [] (.mref 0) ([.mp .i64 3 r.1 (.ints .i64 r.2)]):=vA (Q67.env N) gA Try.func65 (eA.of (l:=[(.loop (cB ((jA (bo Try.f65)).getD 0 .skip))),(.loop (cB ((jA (bo Try.f65)).getD 1 .skip)))]) (by kernel_rfl) (eA.cons (Q67.k3 N) (eA.cons (Q67.k7 N) eA.nil))) ((Q67.f_eq ..).trans h) fun v b e=>by unfold Q67.dec at e;split at e<;>cases e;exact⟨rfl,rfl⟩
theorem Q67.ent_ok (N:Nat):uA Try.prog 65 (Q67.ent N):=bB fun v a e h=>by split at h;exact wC (Q:=fun e=>kA _ _ _ _ (e a).pick.1 (e a).pick.2) h fun k=>Q67.spec N _ a k;cases h
noncomputable def Q68.f (N:Nat)(a:Int):Option (Int):=
 bif decide (a>(-3))then
  some 80
 else
 bif decide (a<(-65536))then
  some 80
 else
 bif (Int.tmod (aA (0-a)) 4) != 0 then
  bif (Int.tmod (aA (0-a)) 4) != 3 then
   some 80
  else
  some 0
 else
 some 0
noncomputable def Q69.l1 {R:Type}(N:Nat):Nat→Int→Int→(Int→Option R)→Option R
 |0,_,_,_=>none
 |n+1,c,a,b=>
  bif decide (a>0)then
   bif !(a==0)then
    Q69.l1 N n a (Int.tmod c a) b
   else none
  else
  b c
noncomputable def Q69.f (N:Nat)(a b:Int):Option (Int):=
 Q69.l1 N N a b
  (fun c=>
   some c)
noncomputable def Q70.f (N:Nat)(b a c:Int):Option (Int):=
 bif decide (a<0)then
  (Q69.f N b (aA (0-a))).bind fun d=>
  (Q69.f N d c).bind fun e=>
  some e
 else
 (Q69.f N b a).bind fun f=>
 (Q69.f N f c).bind fun g=>
 some g
noncomputable def Q71.l6 {R:Type}(N:Nat):Nat→Int→Int→Int→List Int→(Int→Int→List Int→Option R)→Option R
 |0,_,_,_,_,_=>none
 |n+1,c,b,a,d,e=>
  bif decide (a≤b)then
   bif !((aA (4*b))==0)then
    bif (Int.tmod (aA ((aA (a*a))-c)) (aA (4*b))) != 0 then
     Q71.l6 N n c b (aA (a+1)) d e
    else
    bif !((aA (4*b))==0)then
     bif decide ((aA (Int.tdiv (aA ((aA (a*a))-c)) (aA (4*b))))>b)then
      bif zA ((d.length+3)/3) 24 then
       Q71.l6 N n c b (aA (a+1)) (d++[b,a,aA (Int.tdiv (aA ((aA (a*a))-c)) (aA (4*b)))]) e
      else none
     else
     bif (aA (Int.tdiv (aA ((aA (a*a))-c)) (aA (4*b))))==b then
      bif decide (a≥0)then
       bif zA ((d.length+3)/3) 24 then
        Q71.l6 N n c b (aA (a+1)) (d++[b,a,aA (Int.tdiv (aA ((aA (a*a))-c)) (aA (4*b)))]) e
       else none
      else
      Q71.l6 N n c b (aA (a+1)) d e
     else
     Q71.l6 N n c b (aA (a+1)) d e
    else none
   else none
  else
  e c b d
noncomputable def Q71.l3 {R:Type}(N:Nat):Nat→Int→Int→List Int→(List Int→Option R)→Option R
 |0,_,_,_,_=>none
 |n+1,f,a,g,e=>
  bif decide ((aA ((aA (3*a))*a))≤(aA (0-f)))then
   Q71.l6 N N f a (aA (1-a)) g
    (fun b c d=>
     Q71.l3 N n b (aA (c+1)) d e)
  else
  e g
noncomputable def Q71.f (N:Nat)(b:Int):Option (List Int):=
 Q71.l3 N N b 1 []
  (fun a=>
   some a)
noncomputable def Q72.l4 {R:Type}(N:Nat):Nat→List Int→Int→List Int→(List Int→Option R)→Option R
 |0,_,_,_,_=>none
 |n+1,b,a,c,d=>
  bif decide (a<(b.length/3:Int))then
   bif (decide (0≤a))&&(decide (a<(b.length/3:Int)))then
    (Q70.f N (b.getD (a.toNat*3) 0) (b.getD ((a.toNat*3)+1) 0) (b.getD ((a.toNat*3)+2) 0)).bind fun e=>
    bif e==1 then
     bif (decide (0≤a))&&(decide (a<(b.length/3:Int)))then
      bif zA ((c.length+3)/3) 24 then
       Q72.l4 N n b (aA (a+1)) (c++[b.getD (a.toNat*3) 0,b.getD ((a.toNat*3)+1) 0,b.getD ((a.toNat*3)+2) 0]) d
      else none
     else none
    else
    Q72.l4 N n b (aA (a+1)) c d
   else none
  else
  d c
noncomputable def Q72.f (N:Nat)(a:Int):Option (List Int):=
 (Q71.f N a).bind fun b=>
 Q72.l4 N N b 0 []
  (fun c=>
   some c)
end Go.Proofs.Yteaakcmkpacpaaa
namespace Go.Proofs.Yteaakcmkpacpaaa.Ev
open Go.Shelf Go.RowKit Go.Lib Go.Sort
abbrev R3:=Int×Int×Int
def jU (x y:R3):Bool:=decide (x.1<y.1)||(x.1==y.1&&(decide (x.2.1<y.2.1)||(x.2.1==y.2.1&&decide (x.2.2≤y.2.2))))
def sR (x y:R3):Int:=
 if x.1<y.1 then-1 else if y.1<x.1 then 1 else
 if x.2.1<y.2.1 then-1 else if y.2.1<x.2.1 then 1 else
 if x.2.2<y.2.2 then-1 else if y.2.2<x.2.2 then 1 else 0
def km (x:R3):List R3→List R3
 | []=>[x]
 |y::r=>bif jU x y then x::y::r else y::km x r
def rN:List R3→List R3
 | []=>[]
 |x::r=>km x (rN r)
def wE:List Int→List R3
 |a::b::c::r=>(a,b,c)::wE r
 |_=>[]
def dC:List R3→List Int
 | []=>[]
 |x::r=>x.1::x.2.1::x.2.2::dC r
def qT (l:List Int):List Int:=dC (rN (wE l))
theorem iI (x y:R3):jU x y=true↔(x.1<y.1∨x.1=y.1∧(x.2.1<y.2.1∨x.2.1=y.2.1∧x.2.2≤y.2.2)):=by
 simp[jU]
theorem gZ (x y:R3):jU x y=true∨jU y x=true:=by
 rw[iI,iI];omega
theorem hZ {x y z:R3}(h:jU x y=true)(k:jU y z=true):jU x z=true:=by
 rw[iI]at*;omega
theorem fw {x y:R3}(h:jU x y=true)(k:jU y x=true):x=y:=by
 rw[iI]at*;exact Prod.ext (by omega) (Prod.ext (by omega) (by omega))
theorem qP (x y:R3):ltOf sR x y= !(jU y x):=by
 unfold ltOf sR;rw[Bool.eq_iff_iff];simp only[decide_eq_true_eq,Bool.not_eq_true',←Bool.not_eq_true,iI]
 repeat' split
 all_goals omega
theorem zR (x:R3):∀l,(km x l).Perm (x::l)
 | []=>.refl _
 |y::r=>by
  unfold km;cases jU x y
  ·exact((zR x r).cons y).trans (.swap _ _ _)
  ·exact .refl _
theorem sS:∀l,(rN l).Perm l
 | []=>.refl _
 |x::r=>(zR x _).trans ((sS r).cons x)
theorem cT (x:R3):∀l,l.Pairwise (fun a b=>jU a b=true)→(km x l).Pairwise (fun a b=>jU a b=true)
 | [],_=>by simp[km]
 |y::r,h=>by
  obtain⟨h1,h2⟩:=hD.mp h;unfold km;cases hxy:jU x y
  ·refine hD.mpr ⟨fun z hz=>?_,cT x r h2⟩;rcases List.mem_cons.mp ((zR x r).mem_iff.mp hz)with rfl|hz
   ·exact(gZ z y).resolve_left (by rw[hxy];simp)
   ·exact h1 z hz
  ·refine hD.mpr ⟨fun z hz=>?_,h⟩;rcases List.mem_cons.mp hz with rfl|hz
   ·exact hxy
   ·exact hZ hxy (h1 z hz)
theorem uT:∀l,(rN l).Pairwise (fun a b=>jU a b=true)
 | []=>.nil
 |x::r=>cT x _ (uT r)
theorem wJ {l m:List R3}(h:l.Perm m)(hs:l.Pairwise (fun a b=>jU a b=true)):l=rN m:=
 List.Perm.eq_of_pairwise (le:=fun a b=>jU a b=true) (fun a b _ _ h1 h2=>fw h1 h2) hs (uT m) (h.trans (sS m).symm)
theorem tz (d:List R3):(d.mergeSort fun x y=>!(ltOf sR) y x)=rN d:=by
 have e:(fun x y=>!(ltOf sR) y x)=jU:=by funext x y;rw[qP];simp
 rw[e];exact wJ (List.mergeSort_perm d jU) (List.pairwise_mergeSort (le:=jU) (fun a b c h k=>hZ h k) (fun a b=>by simpa using gZ a b) d)
theorem Fx:SWO (ltOf sR) where
 irrefl x:=by rw[qP,hC,iI];omega
 trans x y z h1 h2:=by rw[qP,Bool.not_eq_true',←Bool.not_eq_true,iI]at*;omega
 ntrans x y z h1 h2:=by rw[qP,hC,iI]at*;omega
theorem Fy (x y:R3)(h:(ltOf sR) x y=false)(k:(ltOf sR) y x=false):x=y:=by
 rw[qP,hC]at*;exact fw k h
theorem qV:∀l:List Int,l.length%3=0→dC (wE l)=l
 | [],_=>rfl
 | [_],h=>by simp at h
 | [_,_],h=>by simp at h
 |a::b::c::r,h=>by
  have h':r.length%3=0:=by simp only[hE]at h;omega
  simp only[wE,dC];rw[qV r h']
theorem dX:∀l:List R3,wE (dC l)=l
 | []=>rfl
 |x::r=>by simp only[wE,dC,dX r]
theorem vG:∀l:List R3,(dC l).length=l.length*3
 | []=>rfl
 |x::r=>by simp only[dC,hE,vG r];omega
theorem tT (l:List R3):(rN l).length=l.length:=(sS l).length_eq
theorem zL:∀l:List Int,(wE l).length=l.length/3
 | []=>rfl
 | [_]=>by simp[wE]
 | [_,_]=>by simp[wE]
 |a::b::c::r=>by simp only[wE,hE,zL r];omega
theorem zQ {l:List Int}(h:l.length%3=0):(qT l).length=l.length:=by
 unfold qT;rw[vG,tT,zL];omega
theorem wP:∀a b:List R3,dC (a++b)=dC a++dC b
 | [],_=>rfl
 |x::r,b=>by simp only[List.cons_append,dC,wP r b]
def rK (x:R3):List Value:=[.int .i64 x.1,.int .i64 x.2.1,.int .i64 x.2.2]
theorem tK:∀(d:List R3) (t:Nat),t<d.length*3→(dC d)[t]?=match t%3 with|0=>d[t/3]?.map (·.1)|1=>d[t/3]?.map (·.2.1)|_=>d[t/3]?.map (·.2.2)
 | [],t,h=>by simp at h
 |x::r,0,_=>rfl
 |x::r,1,_=>rfl
 |x::r,2,_=>rfl
 |x::r,t+3,h=>by
  have h3:(t+3)%3=t%3:=by omega
  have h4:(t+3)/3=t/3+1:=by omega
  have ih:=tK r t (by simp at h;omega);simp only[dC,hG];rw[ih,h3,h4];simp only[hG]
theorem xd (d:List R3)(t:Nat)(h:t<d.length*3):(flatK rK 3 d.toArray)[t]! = .int .i64 ((dC d).getD t 0):=by
 rw[get_flatK _ _ _ _ (by simpa using h),List.getD_eq_getElem?_getD,tK d t h];have hlt:t/3<d.length:=by omega
 have hm:t%3=0∨t%3=1∨t%3=2:=by omega
 simp only[List.getElem?_eq_getElem hlt,Option.map_some];have hd:d.toArray[t/3]! =d[t/3]:=by rw[getElem!_pos d.toArray (t/3) (by simpa using hlt)];simp
 rw[hd];rcases hm with h0|h0|h0<;>rw[h0]<;>simp[rK]
section
variable {P:Program}{F:Nat→Prop}{ρ:lC}{h:Nat→nA}{w:World}
theorem fA.grow (hh:fA F ρ h w)(os:Array Obj):fA F ρ h (Go.Sort.grow w os)∧tF (cA ρ h) w (cA ρ h) (Go.Sort.grow w os):=by
 have hext:tF (cA ρ h) w (cA ρ h) (Go.Sort.grow w os):=by refine⟨by simp[Go.Sort.grow],fun b hb _=>?_,fun b hb=>.inl hb,⟨rfl,rfl,rfl,Nat.le_refl _⟩⟩;simp only[Go.Sort.grow];rw[hA hb]
 refine⟨⟨hh.wf,fun id hl=>?_,hh.inj,hh.low' hext,hh.out⟩,hext⟩;obtain⟨p,hp,hb⟩:=hh.rel id hl;refine⟨p,hp,aB.mono (mK.refl _) hext hb ?_⟩;intro b hb';obtain⟨pb,pn,pC⟩:=p;dsimp only at hb';subst hb';have hlt:=cA.lt hh ⟨id,pn,pC,hp,hl⟩;simp only[Go.Sort.grow];rw[hA hlt]
theorem jr {g:Nat}(hs:∀x y:R3,kA P g [.agg [.c (.int .i64 x.1),.c (.int .i64 x.2.1),.c (.int .i64 x.2.2)],.agg [.c (.int .i64 y.1),.c (.int .i64 y.2.1),.c (.int .i64 y.2.2)]] [] (.c (.int .i64 (sR x y))) [])(blk off size:Nat)(w:World):
  CmpLays P g #[] rK 3 sR blk off size w:=by
 intro m os dk hsz x y;generalize sortWorldK rK 3 w blk off m dk os=W;have h0:fA (fun _=>False) (fun _=>none) (oA []) W:=⟨fun _ _ hx=>(by cases hx),fun id hl=>(by simp[oA,nA.live]at hl),fun i j b n C n' C' hi=>(by simp[oA,nA.live]at hi),fun _ hb=>hb.elim,fun _ _ hb=>hb.elim⟩
 have hc:=(hs x y).calls (fun _=>False) (fun _=>none) W [.agg (rK x).toArray,.agg (rK y).toArray] h0 (fun _ _ _=>rfl) ⟨0,fun _ _=>rfl⟩ (Nat.zero_le _) (by simp only[iA,and_true];refine⟨?_,?_⟩<;>(simp only[mA];refine⟨_,rfl,?_⟩;simp[rK,iA,mA]));refine Calls.mono (by simpa using hc) ?_;rintro e w' ⟨v',rfl,ρ',_,_,_,_,_,_,_,_,hH,hv,hext⟩;have:=hv.c;subst this;refine⟨rfl,w'.drawn-W.drawn,w'.heap.extract W.heap.size w'.heap.size,?_⟩;have hk:=hext.keeps;have hheap:w'.heap=W.heap++w'.heap.extract W.heap.size w'.heap.size:=by
  apply Array.ext_getElem?;intro i;by_cases hi:i<W.heap.size
  ·rw[hA hi];exact hext.same i hi (fun⟨id,n,C,h1,_⟩=>by cases h1)
  ·rw[Array.getElem?_append_right (by omega)];have hsz:=hext.size;simp only[Array.getElem?_extract];by_cases h2:i<w'.heap.size
   ·rw[if_pos (by omega)];congr 1;omega
   ·rw[if_neg (by omega),Array.getElem?_eq_none (by omega)]
 have hd:=hk.drawn;obtain⟨hp',t',d',o',u'⟩:=w';obtain⟨hp,t,d0,o,u⟩:=W;obtain⟨k1,k2,k3,k4⟩:=hk;simp only at k1 k2 k3 k4 hheap hd⊢;subst k1 k2 k3;simp only[Go.Sort.grow,World.drewN,World.mk.injEq,true_and,and_true];exact⟨hheap,by omega⟩
theorem ao (d:List R3)(c:Array Value)(i:Nat):(putCells id 0 (flatK rK 3 d.toArray) c)[i]?=if i<d.length*3 then c[i]?.map (fun _=>.int .i64 ((dC d).getD i 0))else c[i]?:=by
 simp only[putCells,Array.getElem?_mapIdx,size_flatK,List.size_toArray,Nat.zero_le,true_and,Nat.zero_add,Nat.sub_zero,id_eq];by_cases hi:i<d.length*3
 ·simp only[hi,if_true];rw[xd d i hi]
 ·simp only[hi,if_false];cases c[i]?<;>rfl
theorem tw {R:Ren}(L:SlLaysF0.n6 P R)(aE:∀w,(isAgg (R.t 24)).run P w= .ok true w)(zE:∀w,(Go.sizeOf (R.t 24)).run P w= .ok 3 w)(hcall:nM P (R.f 6)){g:Nat}(eg:∀args w,(callFunc g args).run P w= .ok (.enter g args) w)
  (hs:∀x y:R3,kA P g [.agg [.c (.int .i64 x.1),.c (.int .i64 x.2.1),.c (.int .i64 x.2.2)],.agg [.c (.int .i64 y.1),.c (.int .i64 y.2.1),.c (.int .i64 y.2.2)]] [] (.c (.int .i64 (sR x y))) [])(l:List Int)(hsz:l.length<4611686018427387904):
  kA P (R.f 6) [.sw 0 3,.fn g [] []] [.ints .i64 l] (.c (.tuple #[])) [.ints .i64 (qT l)]:=by
 refine⟨hcall,?_⟩;intro F ρ w args' hH hn hbd hbl hr;have hflat:∀l':List Int,Ec (oA [nA.ints .i64 l']) (oA [nA.ints .i64 l']):=fun l'=>⟨_,wB.flat (fun j=>by cases j<;>rfl) (fun j hj=>by
  have:1≤j:=by unfold top at hj;omega
  obtain⟨k,rfl⟩:∃k,j=k+1:=⟨j-1,by omega⟩
  rfl)⟩
 have hgh:∀(l':List Int) g,top≤g→(oA [nA.ints .i64 l'] g).live→ρ g=none:=fun l' g hg hl=>by
  have:1≤g:=by unfold top at hg;omega
  obtain⟨k,rfl⟩:∃k,g=k+1:=⟨g-1,by omega⟩
  exact hl.elim
 obtain⟨v0,v1,rfl⟩:∃a b,args'=[a,b]:=by
  have:=hr.length;simp at this
  match args',this with
  | [a,b],_=>exact⟨a,b,rfl⟩
 simp only[iA,and_true]at hr;obtain⟨hr0,hr1⟩:=hr;have hf:v1= .func (.func g) #[] #[]:=by simp only[mA]at hr1;obtain⟨va,vc,rfl,ha,hc⟩:=hr1;have ha:=ha.length;have hc:=hc.length;simp at ha hc;rw[show va= #[]from hB (by simpa using ha.symm),show vc= #[]from hB (by simpa using hc.symm)]
 subst hf;have hl0:(oA [nA.ints .i64 l] 0).live:=trivial;have hb0:oA [nA.ints .i64 l] 0= .ints .i64 l:=rfl;have hset:∀x,dB (oA [nA.ints .i64 l]) 0 x=oA [x]:=by intro x;funext j;cases j<;>simp[dB,oA]
 obtain⟨_,⟨b,n,C,cap,c,h1,h2,h3,h4,h5,ho,hszc,hold⟩|⟨h1,h2,hk⟩⟩:=lF hH hr0 hl0 trivial
 ·subst h5;rw[hb0]at hold;obtain⟨k1,k2,k3⟩:=hold;have hmod:l.length%3=0:=by rw[k1];exact h2
  obtain⟨e,fr,g1,g2,g3⟩:=ho;have hblt:b<w.heap.size:=(Array.getElem?_eq_some_iff.mp g1).1;have hfl:=qV l hmod;have hdl:(wE l).length*3=n:=by rw[zL,←k1];omega
  have hH3:HoldsK rK 3 w b 0 (wE l).toArray:=by
   intro j hj;rw[size_flatK]at hj;have hj':j<(wE l).length*3:=by simpa using hj
   have hjl:j<l.length:=by omega
   rw[xd _ _ hj',hfl];have hc:=k3 j hjl;refine⟨by simp[World.cell?,g1,hc],?_⟩;simp only[World.frozen?,g1,Nat.zero_add];have:=g3 j (by omega);simp only[Bool.and_eq_false_iff,decide_eq_false_iff_not];omega
  have hsize:(wE l).toArray.size=n/3:=by simp;omega
  have hcon:=AnyQ.slices_SortFunc_total L 3 aE zE rK (fun _=>rfl) (fun x v hv=>by simp[rK]at hv;rcases hv with rfl|rfl|rfl<;>rfl) sR Fx g #[] b 0 cap (wE l).toArray w eg (jr hs b 0 _ w) hH3 hblt (by simp only[hsize];omega) Fy;rw[hsize]at hcon;refine Calls.mono hcon ?_;rintro e' w' ⟨rfl,m,os,rfl⟩;rw[List.toList_toArray,tz];refine⟨_,rfl,ρ,oA [nA.ints .i64 (qT l)],fun _ _=>rfl,fun _ _ _ h=>h,hn,hbd,hbl,hgh _,hflat _,?_⟩;have hlen3:(rN (wE l)).length*3=n:=by rw[tT,hdl]
  have hheap:(putRowK rK 3 (Sort.ahead w m) b 0 (rN (wE l)).toArray).heap=w.heap.modify b (onCells (putCells id 0 (flatK rK 3 (rN (wE l)).toArray))):=rfl;have hown:cr (putRowK rK 3 (Sort.ahead w m) b 0 (rN (wE l)).toArray) b (putCells id 0 (flatK rK 3 (rN (wE l)).toArray) c).size (putCells id 0 (flatK rK 3 (rN (wE l)).toArray) c):=by refine⟨e,fr,?_,rfl,fun i hi=>g3 i (by simp[putCells]at hi;omega)⟩;rw[hheap,hI,if_pos rfl,g1];rfl
  have hcs:(putCells id 0 (flatK rK 3 (rN (wE l)).toArray) c).size=c.size:=by simp[putCells]
  have hp:ρ 0=some ⟨some b,n,(putCells id 0 (flatK rK 3 (rN (wE l)).toArray) c).size⟩:=by rw[hcs,hszc];exact h1
  have hholds:gC ρ (av F (cA ρ (oA [nA.ints .i64 l]))) w n (putCells id 0 (flatK rK 3 (rN (wE l)).toArray) c) (.ints .i64 (qT l)):=by
   refine⟨by rw[zQ hmod,k1],by rw[hcs];exact k2,fun i hi=>?_⟩;rw[zQ hmod]at hi;rw[ao,if_pos (by omega)];have:i<c.size:=by omega
   rw[Array.getElem?_eq_getElem this,Option.map_some];rfl
  obtain⟨q1,q2⟩:=fA.write (w':=putRowK rK 3 (Sort.ahead w m) b 0 (rN (wE l)).toArray) hH hl0 hp ⟨by rw[hheap];simp,⟨rfl,rfl,rfl,Nat.le_add_right _ _⟩⟩ (fun b' hb'=>by rw[hheap,hI,if_neg (Ne.symm hb')]) hown hholds;rw[hset]at q1 q2;obtain⟨q3,q4⟩:=q1.grow os;exact⟨q3,mA.of_c _,q2.trans q4⟩
 ·subst h2;rw[hb0]at hk;have hl:l=[]:=by rcases hk with⟨k2,hk2⟩|hk2|⟨_,_,hk2⟩<;>cases hk2;rfl
  subst hl;have hcon:=AnyF.slices_SortFunc_none L none 0 (.func (.func g) #[] #[]) w;refine Calls.mono hcon ?_;rintro e' w' ⟨rfl,rfl⟩;exact⟨_,rfl,ρ,oA [nA.ints .i64 (qT [])],fun _ _=>rfl,fun _ _ _ h=>h,hn,hbd,hbl,hgh _,hflat _,hH,mA.of_c _,tF.refl _ _⟩
end
end Go.Proofs.Yteaakcmkpacpaaa.Ev
namespace Go.Proofs.Yteaakcmkpacpaaa
open Go.Proofs.Yteaakcmkpacpaaa.Ev Go.Shelf
open Go
set_option maxRecDepth 100000
def tu:Go.Shelf.Ren:=⟨fun|6=>66|15=>81|14=>80|28=>93|29=>102|20=>94|21=>95|22=>96|23=>97|24=>98|25=>99|26=>100|27=>101|46=>111|47=>112|48=>113|49=>114|50=>115|57=>124|n=>n,fun|22=>43|24=>23|25=>104|3=>3|39=>118|0=>0|53=>129|55=>115|4=>4|46=>133|45=>132|50=>65|5=>5|9=>9|66=>147|70=>151|76=>160|77=>161|n=>n,fun|n=>n⟩
theorem Eu:Go.Proofs.SlLaysF0.n6 Try.prog tu:={
 mixed:=by kernel_rfl
 f6:=⟨Try.f66.name,by decide,Try.func66.trans (congrArg some (by kernel_rfl))⟩
 f14:=⟨Try.f80.name,by decide,Try.func80.trans (congrArg some (by kernel_rfl))⟩
 f15:=Try.func81.trans (congrArg some (by kernel_rfl))
 f20:=⟨Try.f94.name,by decide,Try.func94.trans (congrArg some (by kernel_rfl))⟩
 f21:=⟨Try.f95.name,by decide,Try.func95.trans (congrArg some (by kernel_rfl))⟩
 f22:=⟨Try.f96.name,by decide,Try.func96.trans (congrArg some (by kernel_rfl))⟩
 f23:=⟨Try.f97.name,by decide,Try.func97.trans (congrArg some (by kernel_rfl))⟩
 f24:=⟨Try.f98.name,by decide,Try.func98.trans (congrArg some (by kernel_rfl))⟩
 f25:=⟨Try.f99.name,by decide,Try.func99.trans (congrArg some (by kernel_rfl))⟩
 f26:=⟨Try.f100.name,by decide,Try.func100.trans (congrArg some (by kernel_rfl))⟩
 f27:=⟨Try.f101.name,by decide,Try.func101.trans (congrArg some (by kernel_rfl))⟩
 f28:=Try.func93.trans (congrArg some (by kernel_rfl))
 f29:=Try.func102.trans (congrArg some (by kernel_rfl))
 f46:=⟨Try.f111.name,by decide,Try.func111.trans (congrArg some (by kernel_rfl))⟩
 f47:=Try.func112.trans (congrArg some (by kernel_rfl))
 f48:=Try.func113.trans (congrArg some (by kernel_rfl))
 f49:=⟨Try.f114.name,by decide,Try.func114.trans (congrArg some (by kernel_rfl))⟩
 f50:=⟨Try.f115.name,by decide,Try.func115.trans (congrArg some (by kernel_rfl))⟩
 f57:=⟨Try.f124.name,by decide,Try.func124.trans (congrArg some (by kernel_rfl))⟩
 t0:=Try.underlying0
 a0:=Try.isAgg0
 z0:=Try.sizeOf0
 v0:=Try.zeroValue0
 t3:=Try.underlying3
 a3:=Try.isAgg3
 z3:=Try.sizeOf3
 v3:=Try.zeroValue3
 t4:=Try.underlying4
 a4:=Try.isAgg4
 z4:=Try.sizeOf4
 v4:=Try.zeroValue4
 t5:=Try.underlying5
 a5:=Try.isAgg5
 z5:=Try.sizeOf5
 v5:=Try.zeroValue5
 t9:=Try.underlying9
 a9:=Try.isAgg9
 z9:=Try.sizeOf9
 v9:=Try.zeroValue9
 t22:=Try.underlying43
 a22:=Try.isAgg43
 z22:=Try.sizeOf43
 v22:=Try.zeroValue43
 t25:=Try.underlying104
 a25:=Try.isAgg104
 z25:=Try.sizeOf104
 v25:=Try.zeroValue104
 t39:=Try.underlying118
 a39:=Try.isAgg118
 z39:=Try.sizeOf118
 v39:=Try.zeroValue118
 t45:=Try.underlying132
 a45:=Try.isAgg132
 z45:=Try.sizeOf132
 v45:=Try.zeroValue132
 t46:=Try.underlying133
 a46:=Try.isAgg133
 z46:=Try.sizeOf133
 v46:=Try.zeroValue133
 t50:=Try.underlying65
 a50:=Try.isAgg65
 z50:=Try.sizeOf65
 v50:=Try.zeroValue65
 t53:=Try.underlying129
 a53:=Try.isAgg129
 z53:=Try.sizeOf129
 v53:=Try.zeroValue129
 t55:=Try.underlying115
 a55:=Try.isAgg115
 z55:=Try.sizeOf115
 v55:=Try.zeroValue115
 t66:=Try.underlying147
 a66:=Try.isAgg147
 z66:=Try.sizeOf147
 v66:=Try.zeroValue147
 t70:=Try.underlying151
 a70:=Try.isAgg151
 z70:=Try.sizeOf151
 v70:=Try.zeroValue151
 t76:=Try.underlying160
 a76:=Try.isAgg160
 z76:=Try.sizeOf160
 v76:=Try.zeroValue160
 t77:=Try.underlying161
 a77:=Try.isAgg161
 z77:=Try.sizeOf161
 v77:=Try.zeroValue161}
theorem Bl (a b c:Int):Q64.f 10 [a,b,c]=some (if a≠0 then a else if b≠0 then b else c):=by
 unfold Q64.f;have w1:aA (0+1)=1:=by decide
 have w2:aA (1+1)=2:=by decide
 have w3:aA (2+1)=3:=by decide
 simp only[Q64.l3,w1,w2,w3];have e:∀x:Int,¬x=0→(x != 0)=true:=fun x hx=>by simpa using hx
 by_cases h1:a=0<;>by_cases h2:b=0<;>by_cases h3:c=0<;>simp[h1,h2,h3,e]
theorem nL (N:Nat)(a b:Int):Q63.f N a b=some (if a<b then-1 else if b<a then 1 else 0):=by
 unfold Q63.f Q62.f;by_cases h1:a<b<;>by_cases h2:b<a<;>simp[h1,h2]
theorem wh (x y:R3):Q65.f 10 x.1 x.2.1 x.2.2 y.1 y.2.1 y.2.2=some (sR x y):=by
 unfold Q65.f sR;rw[nL,nL,nL];simp only[Option.bind_some,Bl];congr 1
 repeat' split
 all_goals omega
noncomputable def Q73.f (N:Nat)(l:List Int):Option (List Int):=bif Nat.blt l.length 4611686018427387904 then some (qT l)else none
noncomputable def Q73.ent (N:Nat):wA:={A:=List Int,fresh:=0,imm:=[false,false],dec:=fun args bs=>match args,bs with
 | [.sw 0 3,.fn g [] []],[.ints .i64 l]=>bif Nat.beq g 67 then some (Q73.f N l,fun r=>.one (.c (.tuple #[])) [.ints .i64 r])else none
 |_,_=>none}
theorem Q73.ent_ok (N:Nat):uA Try.prog 66 (Q73.ent N):=by
 intro args bs a enc h;simp only[Q73.ent]at h;split at h
 ·rename_i g l;obtain⟨hg,h⟩:=bA h;have hg:=sA hg;subst hg;have h0:=Option.some.inj h;have h1:=congrArg Prod.fst h0;have h2:=congrArg Prod.snd h0;dsimp only at h1 h2;subst h2;unfold Q73.f at h1;obtain⟨hl,h1⟩:=bA h1;obtain rfl:=Option.some.inj h1;exact tw Eu Try.isAgg23 Try.sizeOf23 ⟨_,Try.func66,by kernel_rfl,by kernel_rfl⟩ (enters_of Try.func67 (by kernel_rfl) rfl) (fun x y=>Q65.spec 10 _ _ _ _ _ _ _ (wh x y)) l (oB hl)
 ·cases h
open Go.Proofs.Yteaakcmkpacpaaa.Ev
noncomputable def C4:TI:=⟨.slice 79,1,24,[.slice none 0 0]⟩
noncomputable def Dy:TI:=⟨.struct [(2,0),(3,1)],2,16,[.int .i64 0,.int .i64 0]⟩
theorem cc:iC Try.prog 75 C4:=nC (by kernel_rfl) (by kernel_rfl) (by kernel_rfl) (by kernel_rfl) (by kernel_rfl) (by kernel_rfl) (by kernel_rfl) (Try.underlying75) (by kernel_rfl)
theorem qj:iC Try.prog 79 Dy:=nC (by kernel_rfl) (by kernel_rfl) (by kernel_rfl) (by kernel_rfl) (by kernel_rfl) (by kernel_rfl) (by kernel_rfl) (eL Try.underlying79 (by kernel_rfl) (by kernel_rfl)) (by kernel_rfl)
noncomputable def Q74.l3 {R:Type}(N:Nat):Nat→List Int→List (List Int)→List Int→Nat→List Nat→Nat→(List Int→Option R)→Option R
 |0,_,_,_,_,_,_,_=>none
 |n+1,d,c,g,e,b,h,f=>
  bif Nat.beq c.length e then
   bif b.isEmpty then
    f d
   else
   sY b.length fun a=>
   bif Nat.beq c.length e&&Nat.blt (b.getD a 0) c.length then
    bif (g.getD (b.getD a 0) 0)==1 then
     bif zA ((d.length+3)/3) 24 then
      Q74.l3 N n (d++[(c.getD (b.getD a 0) []).getD 0 0,(c.getD (b.getD a 0) []).getD 1 0,(c.getD (b.getD a 0) []).getD 2 0]) c g e (b.eraseIdx a) (b.getD a 0) f
     else none
    else
    Q74.l3 N n d c g e (b.eraseIdx a) (b.getD a 0) f
   else none
  else none
noncomputable def Q74.f (N:Nat)(d:Int):Option (List Int):=
 (Q67.f N d).bind fun a=>
 Q74.l3 N N [] a.1 a.2 a.1.length (List.range a.1.length) a.1.length
  (fun c=>
   (Q73.f N c).bind fun b=>
   some b)
noncomputable def Q74.h3:mE:=⟨[(3,.row .i64 3),(8,.any)],[(3,.row .i64 3)]⟩
noncomputable def Q74.c3 (N:Nat):mM:=⟨fun vs H k=>match vs,H with
 | [.sw 0 3,.ptr 2 0 0],[.ints .i64 a,.mp .i64 3 b (.ints .i64 c),.it (some 1) d e f]=>Q74.l3 N N a b c d e f (fun g=>k (.exit 0) ⟨iE Q74.h3.out [.sw 0 3],[.ints .i64 g]⟩)
 |_,_=>none⟩
noncomputable def Q74.E (N:Nat):gD:=uF [(2,yX),(23,kP),(43,Bz),(100,Ag)] [(65,Q67.ent N),(66,Q73.ent N)] [(3,Q74.h3)] [(3,Q74.c3 N)] N [.tmp 2] [.row .i64 3] 0 23 true
noncomputable def Q74.b3:Code:=cB ((jA (bo Try.f54)).getD 0 .skip)
theorem Q74.l3_eq {R:Type}(N n:Nat)(a:List Int)(b:List (List Int))(c:List Int)(d:Nat)(e:List Nat)(f:Nat)(k:Ex→St→Option R):
  xB 0 Q74.h3 (fun s k=>kB (Q74.E N) 394 Q74.b3 s k) n [.sw 0 3,.ptr 2 0 0] [.ints .i64 a,.mp .i64 3 b (.ints .i64 c),.it (some 1) d e f] k=Q74.l3 N n a b c d e f (fun g=>k (.exit 0) ⟨iE Q74.h3.out [.sw 0 3],[.ints .i64 g]⟩):=by
 induction n generalizing a b c d e f with
 |zero=>kernel_rfl
 |succ n ih=>
  simp only[Q74.l3,←ih]
  kernel_rfl
noncomputable def Q74.dec (v:V)(bs:List nA):Option (List Int):=match v,bs with
 | .sw 0 3,[.ints .i64 a]=>some a
 |_,_=>none
theorem Q74.f_eq (N:Nat)(a:Int):
  gB (Q74.E N) (bo Try.f54) [.c (.int .i64 a)] [] Q74.dec=Q74.f N a:=by kernel_rfl
noncomputable def Q74.ent (N:Nat):wA:=sG (List Int) 1 [true] [.any] fun
 | [.c (.int .i64 a)]=>some (Q74.f N a,fun r=>.one (.sw 0 3) [.ints .i64 r])
 |_=>none
theorem Q74.env (N:Nat):eB Try.prog (Q74.E N):=⟨(.cons kE (.cons bF (.cons br (.cons jb .nil)))),(.cons (Q67.ent_ok N) (.cons (Q73.ent_ok N) .nil))⟩
theorem Q74.k3 (N:Nat):qC Try.prog Try.f54 (Q74.E N) (.loop Q74.b3):=dE (Q74.env N) gA 394 (c:=Q74.c3 N) eA.n fun R vs H k r h=>by unfold Q74.c3 at h;dsimp only at h;split at h;exact⟨_,Q74.l3_eq .. ▸h⟩;cases h
theorem Q74.spec (N:Nat)(a:Int)(r:List Int)(h:Q74.f N a=some r):kA Try.prog 54 [.c (.int .i64 a)] [] (.sw 0 3) ([.ints .i64 r]):=vA (Q74.env N) gA Try.func54 (eA.of (l:=[(.loop (cB ((jA (bo Try.f54)).getD 0 .skip)))]) (by kernel_rfl) (eA.cons (Q74.k3 N) eA.nil)) ((Q74.f_eq ..).trans h) fun v b e=>by unfold Q74.dec at e;split at e<;>cases e;exact⟨rfl,rfl⟩
theorem Q74.ent_ok (N:Nat):uA Try.prog 54 (Q74.ent N):=bB fun v a e h=>by split at h;exact wC (Q:=fun e=>kA _ _ _ _ (e a).pick.1 (e a).pick.2) h fun k=>Q74.spec N _ a k;cases h
noncomputable def Q75.f (N:Nat)(a:Int):Option (List Int×Int):=
 (Q66.f N a).bind fun b=>
 bif b != 0 then
  some ([],b)
 else
 (Q74.f N a).bind fun c=>
 some (c,0)
noncomputable def Q75.E (N:Nat):gD:=uF [] [(40,Q66.ent N),(54,Q74.ent N)] [] [] N [.tmp 2,.tmp 3] [.row .i64 3,.any] 0 12 true
noncomputable def Q75.dec (v:V)(bs:List nA):Option (List Int×Int):=match v,bs with
 | .tup [.sw 0 3,.c (.int .i64 b)],[.ints .i64 a]=>some (a,b)
 |_,_=>none
theorem Q75.f_eq (N:Nat)(a:Int):
  gB (Q75.E N) (bo Try.f41) [.c (.int .i64 a)] [] Q75.dec=Q75.f N a:=by kernel_rfl
noncomputable def Q75.ent (N:Nat):wA:=sG (List Int×Int) 1 [true] [.any] fun
 | [.c (.int .i64 a)]=>some (Q75.f N a,fun r=>.one (.tup [.sw 0 3,.c (.int .i64 r.2)]) [.ints .i64 r.1])
 |_=>none
theorem Q75.env (N:Nat):eB Try.prog (Q75.E N):=⟨.nil,(.cons (Q66.ent_ok N) (.cons (Q74.ent_ok N) .nil))⟩
theorem Q75.spec (N:Nat)(a:Int)(r:List Int×Int)(h:Q75.f N a=some r):kA Try.prog 41 [.c (.int .i64 a)] [] (.tup [.sw 0 3,.c (.int .i64 r.2)]) ([.ints .i64 r.1]):=vA (Q75.env N) gA Try.func41 eA.n ((Q75.f_eq ..).trans h) fun v b e=>by unfold Q75.dec at e;split at e<;>cases e;exact⟨rfl,rfl⟩
theorem Q75.ent_ok (N:Nat):uA Try.prog 41 (Q75.ent N):=bB fun v a e h=>by split at h;exact wC (Q:=fun e=>kA _ _ _ _ (e a).pick.1 (e a).pick.2) h fun k=>Q75.spec N _ a k;cases h
noncomputable def Q76.l1 {R:Type}(N:Nat):Nat→Int→Int→Int→List Int→(Int→Int→Int→List Int→Option R)→Option R
 |0,_,_,_,_,_=>none
 |n+1,a,d,b,e,c=>
  bif !(a==0)then
   bif (Int.tmod b a)==0 then
    bif !(a==0)then
     Q76.l1 N n a (aA (d+1)) (aA (Int.tdiv b a)) e c
    else none
   else
   c a d b e
  else none
noncomputable def Q76.f (N:Nat)(e f:Int)(g:List Int):Option (Bool×Int×List Int):=
 Q76.l1 N N e 0 f g
  (fun d b c a=>
   bif decide (b>0)then
    bif zA ((a.length+2)/2) 16 then
     some (true,c,a++[d,b])
    else none
   else
   some (false,c,a))
noncomputable def Q76.h1:mE:=⟨[(0,.any),(1,.any),(2,.any),(4,.any)],[(0,.any),(2,.any),(4,.any)]⟩
noncomputable def Q76.c1 (N:Nat):mM:=⟨fun vs H k=>match vs,H with
 | [.c (.int .i64 c),.ptr 0 0 1,.ptr 1 0 1,.c (.int .i64 d)],[.vals [.c (.int .i64 e)],.vals [.sw 2 2],.ints .i64 f]=>Q76.l1 N N c d e f (fun g h a b=>k (.exit 0) ⟨iE Q76.h1.out [.c (.int .i64 g),.ptr 1 0 1,.c (.int .i64 h)],[.vals [.c (.int .i64 a)],.vals [.sw 2 2],.ints .i64 b]⟩)
 |_,_=>none⟩
noncomputable def Q76.E (N:Nat):gD:=uF [(2,yX),(3,Ah),(75,C4),(79,Dy)] [] [(1,Q76.h1)] [(1,Q76.c1 N)] N [] [] 3 22 true [(1,[.row .i64 2])]
noncomputable def Q76.b1:Code:=cB ((jA (bo Try.f61)).getD 0 .skip)
theorem Q76.l1_eq {R:Type}(N n:Nat)(c d e:Int)(f:List Int)(k:Ex→St→Option R):
  xB 3 Q76.h1 (fun s k=>kB (Q76.E N) 396 Q76.b1 s k) n [.c (.int .i64 c),.ptr 0 0 1,.ptr 1 0 1,.c (.int .i64 d)] [.vals [.c (.int .i64 e)],.vals [.sw 2 2],.ints .i64 f] k=Q76.l1 N n c d e f (fun g h a b=>k (.exit 0) ⟨iE Q76.h1.out [.c (.int .i64 g),.ptr 1 0 1,.c (.int .i64 h)],[.vals [.c (.int .i64 a)],.vals [.sw 2 2],.ints .i64 b]⟩):=by
 induction n generalizing c d e f with
 |zero=>kernel_rfl
 |succ n ih=>
  simp only[Q76.l1,←ih]
  kernel_rfl
noncomputable def Q76.dec (v:V)(bs:List nA):Option (Bool×Int×List Int):=match v,bs with
 | .tup [],[.vals [.c (.int .i64 a)],.vals [.sw 3 2],.dead,.ints .i64 b]=>some (true,a,b)
 | .tup [],[.vals [.c (.int .i64 a)],.vals [.sw 2 2],.ints .i64 b]=>some (false,a,b)
 |_,_=>none
theorem Q76.f_eq (N:Nat)(a b:Int)(c:List Int):
  gB (Q76.E N) (bo Try.f61) [.c (.int .i64 a),.ptr 0 0 1,.ptr 1 0 1] [.vals [.c (.int .i64 b)],.vals [.sw 2 2],.ints .i64 c] Q76.dec=Q76.f N a b c:=by kernel_rfl
noncomputable def Q76.ent (N:Nat):wA:={A:=Bool×Int×List Int,fresh:=1,imm:=[true,false,false],dec:=fun args bs=>match iJ (oA bs) [false,false,false] args,bs with
 | [.c (.int .i64 a),.ptr 0 0 1,.ptr 1 0 1],[.vals [.c (.int .i64 b)],.vals [.sw 2 2],.ints .i64 c]=>some (Q76.f N a b c,fun r=>.two r.1 (.tup []) [.vals [.c (.int .i64 r.2.1)],.vals [.sw 3 2],.dead,.ints .i64 r.2.2] (.tup []) [.vals [.c (.int .i64 r.2.1)],.vals [.sw 2 2],.ints .i64 r.2.2])
 |_,_=>none}
theorem Q76.env (N:Nat):eB Try.prog (Q76.E N):=⟨(.cons kE (.cons kK (.cons cc (.cons qj .nil)))),.nil⟩
theorem Q76.res_eq (N:Nat):(Q76.E N).res=Try.f61.results.toList:=by kernel_rfl
theorem Q76.k1 (N:Nat):qC Try.prog Try.f61 (Q76.E N) (.loop Q76.b1):=dE (Q76.env N) gA 396 (c:=Q76.c1 N) eA.n fun R vs H k r h=>by unfold Q76.c1 at h;dsimp only at h;split at h;exact⟨_,Q76.l1_eq .. ▸h⟩;cases h
theorem Q76.spec (N:Nat)(a b:Int)(c:List Int)(r:Bool×Int×List Int)(h:Q76.f N a b c=some r):kA Try.prog 61 [.c (.int .i64 a),.ptr 0 0 1,.ptr 1 0 1] [.vals [.c (.int .i64 b)],.vals [.sw 2 2],.ints .i64 c] ((nf.two r.1 (.tup []) [.vals [.c (.int .i64 r.2.1)],.vals [.sw 3 2],.dead,.ints .i64 r.2.2] (.tup []) [.vals [.c (.int .i64 r.2.1)],.vals [.sw 2 2],.ints .i64 r.2.2]).pick.1) ((nf.two r.1 (.tup []) [.vals [.c (.int .i64 r.2.1)],.vals [.sw 3 2],.dead,.ints .i64 r.2.2] (.tup []) [.vals [.c (.int .i64 r.2.1)],.vals [.sw 2 2],.ints .i64 r.2.2]).pick.2):=by
 rw[←Q76.f_eq]at h;refine(fa (Q76.env N) gA Try.func61 (by kernel_rfl:Try.f61.body=some (bo Try.f61)) (by kernel_rfl) (Q76.res_eq N) (by kernel_rfl) (by kernel_rfl) (Nat.le_of_ble_eq_true (by kernel_rfl)) (eA.of (l:=[(.loop (cB ((jA (bo Try.f61)).getD 0 .skip)))]) (by kernel_rfl) (eA.cons (Q76.k1 N) eA.nil)) h).of fun v bs' h1=>?_;unfold Q76.dec at h1;split at h1
 ·cases h1;exact⟨rfl,rfl⟩
 ·cases h1;exact⟨rfl,rfl⟩
 ·cases h1
theorem Q76.ent_ok (N:Nat):uA Try.prog 61 (Q76.ent N):=by
 intro args bs a enc h;simp only[Q76.ent]at h;split at h
 ·rename_i hz;have h0:=Option.some.inj h;have h1:=congrArg Prod.fst h0;have h2:=congrArg Prod.snd h0;dsimp only at h1 h2;subst h2;exact kA.of_asSl (fl:=[false,false,false]) (by rw[hz];exact Q76.spec N _ _ _ a h1)
 ·cases h
noncomputable def Q77.l8 {R:Type}(N:Nat):Nat→Int→Int→List Int→(Int→List Int→Option R)→Option R
 |0,_,_,_,_=>none
 |n+1,a,d,e,c=>
  bif decide ((aA (a*a))≤d)then
   (Q76.f N a d e).bind fun b=>
   bif b.1 then
    Q77.l8 N n (aA (a+(aA (1+(iB .i64 a 1))))) b.2.1 b.2.2 c
   else
   Q77.l8 N n (aA (a+(aA (1+(iB .i64 a 1))))) b.2.1 b.2.2 c
  else
  c d e
noncomputable def Q77.f (N:Nat)(b:Int):Option (List Int×Int):=
 bif decide (b<1)then
  some ([],2)
 else
 bif decide (b>1099511627776)then
  some ([],3)
 else
 Q77.l8 N N 2 b []
  (fun c d=>
   bif decide (c>1)then
    (Q76.f N c c d).bind fun a=>
    bif a.1 then
     some (a.2.2,0)
    else
    some (a.2.2,0)
   else
   some (d,0))
noncomputable def Q77.h8:mE:=⟨[(1,.box [.any]),(4,.box [.row .i64 2]),(5,.fnc [.box [.any],.box [.row .i64 2]]),(6,.any)],[(1,.box [.any]),(4,.box [.row .i64 2]),(5,.fnc [.box [.any],.box [.row .i64 2]])]⟩
noncomputable def Q77.c8 (N:Nat):mM:=⟨fun vs H k=>match vs,H with
 | [.ptr 0 0 1,.ptr 1 0 1,.fn 61 [] [.ptr 0 0 1,.ptr 1 0 1],.c (.int .i64 a)],[.vals [.c (.int .i64 b)],.vals [.sw 2 2],.ints .i64 c]=>Q77.l8 N N a b c (fun d e=>k (.exit 1) ⟨iE Q77.h8.out [.ptr 0 0 1,.ptr 1 0 1,.fn 61 [] [.ptr 0 0 1,.ptr 1 0 1]],[.vals [.c (.int .i64 d)],.vals [.sw 2 2],.ints .i64 e]⟩)
 |_,_=>none⟩
noncomputable def Q77.E (N:Nat):gD:=uF [(2,yX),(75,C4)] [(61,Q76.ent N)] [(8,Q77.h8)] [(8,Q77.c8 N)] N [.tmp 2,.tmp 3] [.il .i64 2,.any] 0 33
noncomputable def Q77.b8:Code:=cB ((jA (bo Try.f49)).getD 0 .skip)
theorem Q77.l8_eq {R:Type}(N n:Nat)(a b:Int)(c:List Int)(k:Ex→St→Option R):
  xB 0 Q77.h8 (fun s k=>kB (Q77.E N) 392 Q77.b8 s k) n [.ptr 0 0 1,.ptr 1 0 1,.fn 61 [] [.ptr 0 0 1,.ptr 1 0 1],.c (.int .i64 a)] [.vals [.c (.int .i64 b)],.vals [.sw 2 2],.ints .i64 c] k=Q77.l8 N n a b c (fun d e=>k (.exit 1) ⟨iE Q77.h8.out [.ptr 0 0 1,.ptr 1 0 1,.fn 61 [] [.ptr 0 0 1,.ptr 1 0 1]],[.vals [.c (.int .i64 d)],.vals [.sw 2 2],.ints .i64 e]⟩):=by
 induction n generalizing a b c with
 |zero=>kernel_rfl
 |succ n ih=>
  simp only[Q77.l8,←ih]
  kernel_rfl
noncomputable def Q77.dec (v:V)(bs:List nA):Option (List Int×Int):=match v,bs with
 | .tup [.il .i64 2 a,.c (.int .i64 b)],[]=>some (a,b)
 |_,_=>none
theorem Q77.f_eq (N:Nat)(a:Int):
  gB (Q77.E N) (bo Try.f49) [.c (.int .i64 a)] [] Q77.dec=Q77.f N a:=by kernel_rfl
noncomputable def Q77.ent (N:Nat):wA:=sG (List Int×Int) 0 [true] [.any] fun
 | [.c (.int .i64 a)]=>some (Q77.f N a,fun r=>.one (.tup [.il .i64 2 r.1,.c (.int .i64 r.2)]) [])
 |_=>none
theorem Q77.env (N:Nat):eB Try.prog (Q77.E N):=⟨(.cons kE (.cons cc .nil)),(.cons (Q76.ent_ok N) .nil)⟩
theorem Q77.k8 (N:Nat):qC Try.prog Try.f49 (Q77.E N) (.loop Q77.b8):=dE (Q77.env N) gA 392 (c:=Q77.c8 N) eA.n fun R vs H k r h=>by unfold Q77.c8 at h;dsimp only at h;split at h;exact⟨_,Q77.l8_eq .. ▸h⟩;cases h
theorem Q77.spec (N:Nat)(a:Int)(r:List Int×Int)(h:Q77.f N a=some r):kA Try.prog 49 [.c (.int .i64 a)] [] (.tup [.il .i64 2 r.1,.c (.int .i64 r.2)]) ([]):=vA (Q77.env N) gA Try.func49 (eA.of (l:=[(.loop (cB ((jA (bo Try.f49)).getD 0 .skip)))]) (by kernel_rfl) (eA.cons (Q77.k8 N) eA.nil)) ((Q77.f_eq ..).trans h) fun v b e=>by unfold Q77.dec at e;split at e<;>cases e;exact⟨rfl,rfl⟩
theorem Q77.ent_ok (N:Nat):uA Try.prog 49 (Q77.ent N):=bB fun v a e h=>by split at h;exact wC (Q:=fun e=>kA _ _ _ _ (e a).pick.1 (e a).pick.2) h fun k=>Q77.spec N _ a k;cases h
noncomputable def bq:TI:=⟨.slice 2,1,24,[.slice none 0 0]⟩
noncomputable def Dw:TI:=⟨.func,1,8,[.nilFunc]⟩
noncomputable def C0:TI:=⟨.arr 8 3,8,64,[.int .i64 0,.int .i64 0,.int .i64 0,.int .i64 0,.int .i64 0,.int .i64 0,.int .i64 0,.int .i64 0]⟩
noncomputable def Dz:TI:=⟨.slice 83,1,24,[.slice none 0 0]⟩
noncomputable def E0:TI:=⟨.struct [(52,0),(37,1)],2,32,[.nilFunc,.slice none 0 0]⟩
noncomputable def F1:TI:=⟨.arr 3 2,3,24,[.int .i64 0,.int .i64 0,.int .i64 0]⟩
theorem aK:iC Try.prog 37 bq:=nC (by kernel_rfl) (by kernel_rfl) (by kernel_rfl) (by kernel_rfl) (by kernel_rfl) (by kernel_rfl) (by kernel_rfl) (Try.underlying37) (by kernel_rfl)
theorem qi:iC Try.prog 52 Dw:=nC (by kernel_rfl) (by kernel_rfl) (by kernel_rfl) (by kernel_rfl) (by kernel_rfl) (by kernel_rfl) (by kernel_rfl) (⟨_,_,_,Try.underlying52⟩) (by kernel_rfl)
theorem ca:iC Try.prog 59 C0:=nC (by kernel_rfl) (by kernel_rfl) (by kernel_rfl) (by kernel_rfl) (by kernel_rfl) (by kernel_rfl) (by kernel_rfl) (Try.underlying59) (by kernel_rfl)
theorem qk:iC Try.prog 80 Dz:=nC (by kernel_rfl) (by kernel_rfl) (by kernel_rfl) (by kernel_rfl) (by kernel_rfl) (by kernel_rfl) (by kernel_rfl) (Try.underlying80) (by kernel_rfl)
theorem ql:iC Try.prog 83 E0:=nC (by kernel_rfl) (by kernel_rfl) (by kernel_rfl) (by kernel_rfl) (by kernel_rfl) (by kernel_rfl) (by kernel_rfl) (eL Try.underlying83 (by kernel_rfl) (by kernel_rfl)) (by kernel_rfl)
theorem C5:iC Try.prog 99 F1:=nC (by kernel_rfl) (by kernel_rfl) (by kernel_rfl) (by kernel_rfl) (by kernel_rfl) (by kernel_rfl) (by kernel_rfl) (Try.underlying99) (by kernel_rfl)
noncomputable def Q78.f (N:Nat)(a:Int):Option (Int):=
 bif (iB .u64 a 7)==1 then
  some 1
 else
 bif (iB .u64 a 7)==7 then
  some 1
 else
 bif (iB .u64 a 7)==3 then
  some (-1)
 else
 bif (iB .u64 a 7)==5 then
  some (-1)
 else
 some 0
noncomputable def Q78.E (N:Nat):gD:=uF [] [] [] [] N [.tmp 2] [.any] 0 13
noncomputable def Q78.dec (v:V)(bs:List nA):Option (Int):=match v,bs with
 | .c (.int .i64 a),[]=>some a
 |_,_=>none
theorem Q78.f_eq (N:Nat)(a:Int):
  gB (Q78.E N) (bo Try.f79) [.c (.int .u64 a)] [] Q78.dec=Q78.f N a:=by kernel_rfl
noncomputable def Q78.ent (N:Nat):wA:=sG (Int) 0 [true] [.any] fun
 | [.c (.int .u64 a)]=>some (Q78.f N a,fun r=>.one (.c (.int .i64 r)) [])
 |_=>none
theorem Q78.env (N:Nat):eB Try.prog (Q78.E N):=⟨.nil,.nil⟩
theorem Q78.spec (N:Nat)(a r:Int)(h:Q78.f N a=some r):kA Try.prog 79 [.c (.int .u64 a)] [] (.c (.int .i64 r)) ([]):=vA (Q78.env N) gA Try.func79 eA.n ((Q78.f_eq ..).trans h) fun v b e=>by unfold Q78.dec at e;split at e<;>cases e;exact⟨rfl,rfl⟩
theorem Q78.ent_ok (N:Nat):uA Try.prog 79 (Q78.ent N):=bB fun v a e h=>by split at h;exact wC (Q:=fun e=>kA _ _ _ _ (e a).pick.1 (e a).pick.2) h fun k=>Q78.spec N _ a k;cases h
noncomputable def Q79.l10 {R:Type}(N:Nat):Nat→Int→Int→Int→(Int→Int→Int→Option R)→Option R
 |0,_,_,_,_=>none
 |n+1,a,d,b,c=>
  bif (iB .u64 b 1)==0 then
   (Q78.f N (lA a)).bind fun e=>
   Q79.l10 N n a (aA (d*e)) (Int.fdiv b (2^1)) c
  else
  c a d b
noncomputable def Q79.l19 {R:Type}(N:Nat):Nat→Int→Int→Int→(Int→Int→Int→Option R)→Option R
 |0,_,_,_,_=>none
 |n+1,c,a,b,e=>
  bif (iB .u64 b 1)==0 then
   (Q78.f N a).bind fun d=>
   Q79.l19 N n (aA (c*d)) a (Int.fdiv b (2^1)) e
  else
  e c a b
noncomputable def Q79.l18 {R:Type}(N:Nat):Nat→Int→Int→Int→(Int→Int→Option R)→Option R
 |0,_,_,_,_=>none
 |n+1,d,e,f,g=>
  bif f != 0 then
   Q79.l19 N N d e f
    (fun c b a=>
     bif (iB .u64 a 3)==3 then
      bif (iB .u64 b 3)==3 then
       bif !(a==0)then
        Q79.l18 N n (aA (0-c)) a (Int.tmod b a) g
       else none
      else
      bif !(a==0)then
       Q79.l18 N n c a (Int.tmod b a) g
      else none
     else
     bif !(a==0)then
      Q79.l18 N n c a (Int.tmod b a) g
     else none)
  else
  g d e
noncomputable def Q79.f (N:Nat)(j k:Int):Option (Int):=
 bif k==0 then
  bif j==1 then
   some 1
  else
  bif j==(-1)then
   some 1
  else
  some 0
 else
 bif decide (k<0)then
  bif decide (j<0)then
   Q79.l10 N N j (-1) (lA (0- (lA k)))
    (fun d e a=>
     bif e==0 then
      some 0
     else
     bif !(a==0)then
      bif decide (d<0)then
       bif !(a==0)then
        bif !(a==0)then
         Q79.l18 N N e a (Int.tmod (lA (a- (Int.tmod (lA (0- (lA d))) a))) a)
          (fun l m=>
           bif m != 1 then
            some 0
           else
           some l)
        else none
       else none
      else
      Q79.l18 N N e a (Int.tmod (lA d) a)
       (fun o p=>
        bif p != 1 then
         some 0
        else
        some o)
     else none)
  else
  Q79.l10 N N j 1 (lA (0- (lA k)))
   (fun f g b=>
    bif g==0 then
     some 0
    else
    bif !(b==0)then
     bif decide (f<0)then
      bif !(b==0)then
       bif !(b==0)then
        Q79.l18 N N g b (Int.tmod (lA (b- (Int.tmod (lA (0- (lA f))) b))) b)
         (fun q r=>
          bif r != 1 then
           some 0
          else
          some q)
       else none
      else none
     else
     Q79.l18 N N g b (Int.tmod (lA f) b)
      (fun s t=>
       bif t != 1 then
        some 0
       else
       some s)
    else none)
 else
 Q79.l10 N N j 1 (lA k)
  (fun h i c=>
   bif i==0 then
    some 0
   else
   bif !(c==0)then
    bif decide (h<0)then
     bif !(c==0)then
      bif !(c==0)then
       Q79.l18 N N i c (Int.tmod (lA (c- (Int.tmod (lA (0- (lA h))) c))) c)
        (fun u v=>
         bif v != 1 then
          some 0
         else
         some u)
      else none
     else none
    else
    Q79.l18 N N i c (Int.tmod (lA h) c)
     (fun w x=>
      bif x != 1 then
       some 0
      else
      some w)
   else none)
noncomputable def Q79.h10:mE:=⟨[(0,.any),(5,.any),(6,.any)],[(0,.any),(5,.any),(6,.any)]⟩
noncomputable def Q79.h18:mE:=⟨[(5,.any),(6,.any),(7,.any)],[(5,.any),(6,.any)]⟩
noncomputable def Q79.h19:mE:=⟨[(5,.any),(6,.any),(7,.any)],[(5,.any),(6,.any),(7,.any)]⟩
noncomputable def Q79.c10 (N:Nat):mM:=⟨fun vs H k=>match vs,H with
 | [.c (.int .i64 a),.c (.int .i64 b),.c (.int .u64 c)],[]=>Q79.l10 N N a b c (fun d e f=>k (.exit 0) ⟨iE Q79.h10.out [.c (.int .i64 d),.c (.int .i64 e),.c (.int .u64 f)],[]⟩)
 |_,_=>none⟩
noncomputable def Q79.c19 (N:Nat):mM:=⟨fun vs H k=>match vs,H with
 | [.c (.int .i64 a),.c (.int .u64 b),.c (.int .u64 c)],[]=>Q79.l19 N N a b c (fun d e f=>k (.exit 4) ⟨iE Q79.h19.out [.c (.int .i64 d),.c (.int .u64 e),.c (.int .u64 f)],[]⟩)
 |_,_=>none⟩
noncomputable def Q79.c18 (N:Nat):mM:=⟨fun vs H k=>match vs,H with
 | [.c (.int .i64 a),.c (.int .u64 b),.c (.int .u64 c)],[]=>Q79.l18 N N a b c (fun d e=>k (.exit 2) ⟨iE Q79.h18.out [.c (.int .i64 d),.c (.int .u64 e)],[]⟩)
 |_,_=>none⟩
noncomputable def Q79.E (N:Nat):gD:=uF [(2,yX),(115,zJ)] [(79,Q78.ent N)] [(10,Q79.h10),(18,Q79.h18),(19,Q79.h19)] [(10,Q79.c10 N),(19,Q79.c19 N),(18,Q79.c18 N)] N [.tmp 4] [.any] 0 81
noncomputable def Q79.b10:Code:=cB ((jA (bo Try.f64)).getD 0 .skip)
theorem Q79.l10_eq {R:Type}(N n:Nat)(a b c:Int)(k:Ex→St→Option R):
  xB 0 Q79.h10 (fun s k=>kB (Q79.E N) 393 Q79.b10 s k) n [.c (.int .i64 a),.c (.int .i64 b),.c (.int .u64 c)] [] k=Q79.l10 N n a b c (fun d e f=>k (.exit 0) ⟨iE Q79.h10.out [.c (.int .i64 d),.c (.int .i64 e),.c (.int .u64 f)],[]⟩):=by
 induction n generalizing a b c with
 |zero=>kernel_rfl
 |succ n ih=>
  simp only[Q79.l10,←ih]
  kernel_rfl
noncomputable def Q79.b19:Code:=cB ((jA (bo Try.f64)).getD 2 .skip)
theorem Q79.l19_eq {R:Type}(N n:Nat)(a b c:Int)(k:Ex→St→Option R):
  xB 0 Q79.h19 (fun s k=>kB (Q79.E N) 384 Q79.b19 s k) n [.c (.int .i64 a),.c (.int .u64 b),.c (.int .u64 c)] [] k=Q79.l19 N n a b c (fun d e f=>k (.exit 4) ⟨iE Q79.h19.out [.c (.int .i64 d),.c (.int .u64 e),.c (.int .u64 f)],[]⟩):=by
 induction n generalizing a b c with
 |zero=>kernel_rfl
 |succ n ih=>
  simp only[Q79.l19,←ih]
  kernel_rfl
noncomputable def Q79.b18:Code:=cB ((jA (bo Try.f64)).getD 1 .skip)
theorem Q79.l18_eq {R:Type}(N n:Nat)(a b c:Int)(k:Ex→St→Option R):
  xB 0 Q79.h18 (fun s k=>kB (Q79.E N) 389 Q79.b18 s k) n [.c (.int .i64 a),.c (.int .u64 b),.c (.int .u64 c)] [] k=Q79.l18 N n a b c (fun d e=>k (.exit 2) ⟨iE Q79.h18.out [.c (.int .i64 d),.c (.int .u64 e)],[]⟩):=by
 induction n generalizing a b c with
 |zero=>kernel_rfl
 |succ n ih=>
  simp only[Q79.l18,←ih]
  kernel_rfl
noncomputable def Q79.dec (v:V)(bs:List nA):Option (Int):=match v,bs with
 | .c (.int .i64 a),[]=>some a
 |_,_=>none
theorem Q79.f_eq (N:Nat)(a b:Int):
  gB (Q79.E N) (bo Try.f64) [.c (.int .i64 a),.c (.int .i64 b)] [] Q79.dec=Q79.f N a b:=by kernel_rfl
noncomputable def Q79.ent (N:Nat):wA:=sG (Int) 0 [true,true] [.any,.any] fun
 | [.c (.int .i64 a),.c (.int .i64 b)]=>some (Q79.f N a b,fun r=>.one (.c (.int .i64 r)) [])
 |_=>none
theorem Q79.env (N:Nat):eB Try.prog (Q79.E N):=⟨(.cons kE (.cons pE .nil)),(.cons (Q78.ent_ok N) .nil)⟩
theorem Q79.k19 (N:Nat):qC Try.prog Try.f64 (Q79.E N) (.loop Q79.b19):=dE (Q79.env N) gA 384 (c:=Q79.c19 N) eA.n fun R vs H k r h=>by unfold Q79.c19 at h;dsimp only at h;split at h;exact⟨_,Q79.l19_eq .. ▸h⟩;cases h
theorem Q79.k18 (N:Nat):qC Try.prog Try.f64 (Q79.E N) (.loop Q79.b18):=dE (Q79.env N) gA 389 (c:=Q79.c18 N) (eA.of (l:=[(.loop (cB ((jA (bo Try.f64)).getD 2 .skip)))]) (by kernel_rfl) (eA.cons (Q79.k19 N) eA.nil)) fun R vs H k r h=>by unfold Q79.c18 at h;dsimp only at h;split at h;exact⟨_,Q79.l18_eq .. ▸h⟩;cases h
theorem Q79.k10 (N:Nat):qC Try.prog Try.f64 (Q79.E N) (.loop Q79.b10):=dE (Q79.env N) gA 393 (c:=Q79.c10 N) eA.n fun R vs H k r h=>by unfold Q79.c10 at h;dsimp only at h;split at h;exact⟨_,Q79.l10_eq .. ▸h⟩;cases h
theorem Q79.spec (N:Nat)(a c r:Int)(h:Q79.f N a c=some r):kA Try.prog 64 [.c (.int .i64 a),.c (.int .i64 c)] [] (.c (.int .i64 r)) ([]):=vA (Q79.env N) gA Try.func64 (eA.of (l:=[(.loop (cB ((jA (bo Try.f64)).getD 0 .skip))),(.loop (cB ((jA (bo Try.f64)).getD 1 .skip))),(.loop (cB ((jA (bo Try.f64)).getD 2 .skip)))]) (by kernel_rfl) (eA.cons (Q79.k10 N) (eA.cons (Q79.k18 N) (eA.cons (Q79.k19 N) eA.nil)))) ((Q79.f_eq ..).trans h) fun v b e=>by unfold Q79.dec at e;split at e<;>cases e;exact⟨rfl,rfl⟩
theorem Q79.ent_ok (N:Nat):uA Try.prog 64 (Q79.ent N):=bB fun v a e h=>by split at h;exact wC (Q:=fun e=>kA _ _ _ _ (e a).pick.1 (e a).pick.2) h fun k=>Q79.spec N _ _ a k;cases h
noncomputable def Q80.f (N:Nat)(a:Int)(b:List Int):Option (List Int×Int):=
 some (b,a)
noncomputable def Q80.E (N:Nat):gD:=uF [(2,yX),(37,bq)] [] [] [] N [.tmp 4] [.fnc [.box [.il .i64 1],.box [.any]]] 0 6 true
noncomputable def Q80.dec (v:V)(bs:List nA):Option (List Int×Int):=match v,bs with
 | .fn 63 [] [.ptr 0 0 1,.ptr 1 0 1],[.vals [.il .i64 1 a],.vals [.c (.int .i64 b)]]=>some (a,b)
 |_,_=>none
theorem Q80.f_eq (N:Nat)(a:Int)(b:List Int):
  gB (Q80.E N) (bo Try.f62) [.c (.int .i64 a),.il .i64 1 b] [] Q80.dec=Q80.f N a b:=by kernel_rfl
noncomputable def Q80.ent (N:Nat):wA:=sG (List Int×Int) 2 [true,true] [.any,.il .i64 1] fun
 | [.c (.int .i64 a),.il .i64 1 b]=>some (Q80.f N a b,fun r=>.one (.fn 63 [] [.ptr 0 0 1,.ptr 1 0 1]) [.vals [.il .i64 1 r.1],.vals [.c (.int .i64 r.2)]])
 |_=>none
theorem Q80.env (N:Nat):eB Try.prog (Q80.E N):=⟨(.cons kE (.cons aK .nil)),.nil⟩
theorem Q80.spec (N:Nat)(a:Int)(c:List Int)(r:List Int×Int)(h:Q80.f N a c=some r):kA Try.prog 62 [.c (.int .i64 a),.il .i64 1 c] [] (.fn 63 [] [.ptr 0 0 1,.ptr 1 0 1]) ([.vals [.il .i64 1 r.1],.vals [.c (.int .i64 r.2)]]):=vA (Q80.env N) gA Try.func62 eA.n ((Q80.f_eq ..).trans h) fun v b e=>by unfold Q80.dec at e;split at e<;>cases e;exact⟨rfl,rfl⟩
theorem Q80.ent_ok (N:Nat):uA Try.prog 62 (Q80.ent N):=bB fun v a e h=>by split at h;exact wC (Q:=fun e=>kA _ _ _ _ (e a).pick.1 (e a).pick.2) h fun k=>Q80.spec N _ _ a k;cases h
noncomputable def Q81.l2 {R:Type}(N:Nat):Nat→Int→List Int→Int→Int→List Int→Int→(List Int→Int→Option R)→(Bool→List Int→Int→Option R)→Option R
 |0,_,_,_,_,_,_,_,_=>none
 |n+1,f,c,g,a,d,b,e,kr=>
  bif decide (a<g)then
   bif (decide (0≤a))&&(decide (a<(c.length:Int)))then
    bif !(b==0)then
     bif (Int.tmod f b)==(c.getD a.toNat 0)then
      kr true d b
     else
     Q81.l2 N n f c g (aA (a+1)) d b e kr
    else none
   else none
  else
  e d b
noncomputable def Q81.f (N:Nat)(g:Int)(a:List Int)(h:Int):Option (Bool×List Int×Int):=
 Q81.l2 N N g a (a.length:Int) 0 a h
  (fun b c=>
   some (false,b,c))
  (fun d e f=>
   some (d,e,f))
noncomputable def Q81.h2:mE:=⟨[(0,.any),(2,.any),(7,.il .i64 1),(8,.any),(9,.any)],[]⟩
noncomputable def Q81.c2 (N:Nat):mM:=⟨fun vs H k=>match vs,H with
 | [.c (.int .i64 f),.ptr 1 0 1,.il .i64 1 g,.c (.int .i64 h),.c (.int .i64 i)],[.vals [.il .i64 1 j],.vals [.c (.int .i64 l)]]=>Q81.l2 N N f g h i j l (fun d e=>k (.exit 0) ⟨iE Q81.h2.out [],[.vals [.il .i64 1 d],.vals [.c (.int .i64 e)]]⟩) (fun a b c=>k (.ret (.c (.bool a)) [.vals [.il .i64 1 b],.vals [.c (.int .i64 c)]]) .nil)
 |_,_=>none⟩
noncomputable def Q81.E (N:Nat):gD:=uF [(2,yX),(37,bq)] [] [(2,Q81.h2)] [(2,Q81.c2 N)] N [.tmp 4] [.any] 2 19
noncomputable def Q81.b2:Code:=cB ((jA (bo Try.f63)).getD 0 .skip)
theorem Q81.l2_eq {R:Type}(N n:Nat)(f:Int)(g:List Int)(h i:Int)(j:List Int)(l:Int)(k:Ex→St→Option R):
  xB 2 Q81.h2 (fun s k=>kB (Q81.E N) 395 Q81.b2 s k) n [.c (.int .i64 f),.ptr 1 0 1,.il .i64 1 g,.c (.int .i64 h),.c (.int .i64 i)] [.vals [.il .i64 1 j],.vals [.c (.int .i64 l)]] k=Q81.l2 N n f g h i j l (fun d e=>k (.exit 0) ⟨iE Q81.h2.out [],[.vals [.il .i64 1 d],.vals [.c (.int .i64 e)]]⟩) (fun a b c=>k (.ret (.c (.bool a)) [.vals [.il .i64 1 b],.vals [.c (.int .i64 c)]]) .nil):=by
 induction n generalizing f g h i j l with
 |zero=>kernel_rfl
 |succ n ih=>
  simp only[Q81.l2,←ih]
  kernel_rfl
noncomputable def Q81.dec (v:V)(bs:List nA):Option (Bool×List Int×Int):=match v,bs with
 | .c (.bool a),[.vals [.il .i64 1 b],.vals [.c (.int .i64 c)]]=>some (a,b,c)
 |_,_=>none
theorem Q81.f_eq (N:Nat)(a:Int)(b:List Int)(c:Int):
  gB (Q81.E N) (bo Try.f63) [.c (.int .i64 a),.ptr 0 0 1,.ptr 1 0 1] [.vals [.il .i64 1 b],.vals [.c (.int .i64 c)]] Q81.dec=Q81.f N a b c:=by kernel_rfl
noncomputable def Q81.ent (N:Nat):wA:={A:=Bool×List Int×Int,fresh:=0,imm:=[true,false,false],dec:=fun args bs=>match iJ (oA bs) [false,false,false] args,bs with
 | [.c (.int .i64 a),.ptr 0 0 1,.ptr 1 0 1],[.vals [.il .i64 1 b],.vals [.c (.int .i64 c)]]=>some (Q81.f N a b c,fun r=>.one (.c (.bool r.1)) [.vals [.il .i64 1 r.2.1],.vals [.c (.int .i64 r.2.2)]])
 |_,_=>none}
theorem Q81.env (N:Nat):eB Try.prog (Q81.E N):=⟨(.cons kE (.cons aK .nil)),.nil⟩
theorem Q81.k2 (N:Nat):qC Try.prog Try.f63 (Q81.E N) (.loop Q81.b2):=dE (Q81.env N) gA 395 (c:=Q81.c2 N) eA.n fun R vs H k r h=>by unfold Q81.c2 at h;dsimp only at h;split at h;exact⟨_,Q81.l2_eq .. ▸h⟩;cases h
theorem Q81.spec (N:Nat)(a:Int)(c:List Int)(d:Int)(r:Bool×List Int×Int)(h:Q81.f N a c d=some r):kA Try.prog 63 [.c (.int .i64 a),.ptr 0 0 1,.ptr 1 0 1] [.vals [.il .i64 1 c],.vals [.c (.int .i64 d)]] (.c (.bool r.1)) ([.vals [.il .i64 1 r.2.1],.vals [.c (.int .i64 r.2.2)]]):=vA (Q81.env N) gA Try.func63 (eA.of (l:=[(.loop (cB ((jA (bo Try.f63)).getD 0 .skip)))]) (by kernel_rfl) (eA.cons (Q81.k2 N) eA.nil)) ((Q81.f_eq ..).trans h) fun v b e=>by unfold Q81.dec at e;split at e<;>cases e;exact⟨rfl,rfl⟩
theorem Q81.ent_ok (N:Nat):uA Try.prog 63 (Q81.ent N):=by
 intro args bs a enc h;simp only[Q81.ent]at h;split at h
 ·rename_i hz;have h0:=Option.some.inj h;have h1:=congrArg Prod.fst h0;have h2:=congrArg Prod.snd h0;dsimp only at h1 h2;subst h2;exact kA.of_asSl (fl:=[false,false,false]) (by rw[hz];exact Q81.spec N _ _ _ a h1)
 ·cases h
noncomputable def Q82.f (N:Nat):Option (List Int×Int×List Int×Int×List Int×List Int×Int×List Int×List Int×Int×List Int×List Int×Int×List Int):=
 (Q80.f N 4 [3]).bind fun a=>
 (Q80.f N 8 [1,5,4]).bind fun b=>
 (Q80.f N 8 [2]).bind fun c=>
 (Q80.f N 8 [6]).bind fun d=>
 (Q80.f N 8 [0]).bind fun e=>
 some (a.1,a.2,b.1,b.2,[(-4)],c.1,c.2,[(-8)],d.1,d.2,[8],e.1,e.2,[(-4),8])
noncomputable def Q82.E (N:Nat):gD:=uF [(2,yX),(37,bq),(52,Dw),(80,Dz),(83,E0)] [(62,Q80.ent N)] [] [] N [.tmp 0] [.vrow [.fnc [.box [.il .i64 1],.box [.any]],.any,.fnc [.box [.il .i64 1],.box [.any]],.row .i64 1,.fnc [.box [.il .i64 1],.box [.any]],.row .i64 1,.fnc [.box [.il .i64 1],.box [.any]],.row .i64 1,.fnc [.box [.il .i64 1],.box [.any]],.row .i64 1]] 0 27 true
noncomputable def Q82.dec (v:V)(bs:List nA):Option (List Int×Int×List Int×Int×List Int×List Int×Int×List Int×List Int×Int×List Int×List Int×Int×List Int):=match v,bs with
 | .sw 0 2,[.vals [.fn 63 [] [.ptr 1 0 1,.ptr 2 0 1],.c (.slice none 0 0),.fn 63 [] [.ptr 3 0 1,.ptr 4 0 1],.sw 5 1,.fn 63 [] [.ptr 6 0 1,.ptr 7 0 1],.sw 8 1,.fn 63 [] [.ptr 9 0 1,.ptr 10 0 1],.sw 11 1,.fn 63 [] [.ptr 12 0 1,.ptr 13 0 1],.sw 14 1],.vals [.il .i64 1 e],.vals [.c (.int .i64 f)],.vals [.il .i64 1 g],.vals [.c (.int .i64 h)],.ints .i64 i,.vals [.il .i64 1 j],.vals [.c (.int .i64 k)],.ints .i64 l,.vals [.il .i64 1 m],.vals [.c (.int .i64 o)],.ints .i64 a,.vals [.il .i64 1 b],.vals [.c (.int .i64 c)],.ints .i64 d]=>some (e,f,g,h,i,j,k,l,m,o,a,b,c,d)
 |_,_=>none
theorem Q82.f_eq (N:Nat):
  gB (Q82.E N) (bo Try.f50) [] [] Q82.dec=Q82.f N:=by kernel_rfl
noncomputable def Q82.ent (N:Nat):wA:=sG (List Int×Int×List Int×Int×List Int×List Int×Int×List Int×List Int×Int×List Int×List Int×Int×List Int) 15 [] [] fun
 | []=>some (Q82.f N,fun r=>.one (.sw 0 2) [.vals [.fn 63 [] [.ptr 1 0 1,.ptr 2 0 1],.c (.slice none 0 0),.fn 63 [] [.ptr 3 0 1,.ptr 4 0 1],.sw 5 1,.fn 63 [] [.ptr 6 0 1,.ptr 7 0 1],.sw 8 1,.fn 63 [] [.ptr 9 0 1,.ptr 10 0 1],.sw 11 1,.fn 63 [] [.ptr 12 0 1,.ptr 13 0 1],.sw 14 1],.vals [.il .i64 1 r.1],.vals [.c (.int .i64 r.2.1)],.vals [.il .i64 1 r.2.2.1],.vals [.c (.int .i64 r.2.2.2.1)],.ints .i64 r.2.2.2.2.1,.vals [.il .i64 1 r.2.2.2.2.2.1],.vals [.c (.int .i64 r.2.2.2.2.2.2.1)],.ints .i64 r.2.2.2.2.2.2.2.1,.vals [.il .i64 1 r.2.2.2.2.2.2.2.2.1],.vals [.c (.int .i64 r.2.2.2.2.2.2.2.2.2.1)],.ints .i64 r.2.2.2.2.2.2.2.2.2.2.1,.vals [.il .i64 1 r.2.2.2.2.2.2.2.2.2.2.2.1],.vals [.c (.int .i64 r.2.2.2.2.2.2.2.2.2.2.2.2.1)],.ints .i64 r.2.2.2.2.2.2.2.2.2.2.2.2.2])
 |_=>none
theorem Q82.env (N:Nat):eB Try.prog (Q82.E N):=⟨(.cons kE (.cons aK (.cons qi (.cons qk (.cons ql .nil))))),(.cons (Q80.ent_ok N) .nil)⟩
theorem Q82.spec (N:Nat)(r:List Int×Int×List Int×Int×List Int×List Int×Int×List Int×List Int×Int×List Int×List Int×Int×List Int)(h:Q82.f N=some r):kA Try.prog 50 [] [] (.sw 0 2) ([.vals [.fn 63 [] [.ptr 1 0 1,.ptr 2 0 1],.c (.slice none 0 0),.fn 63 [] [.ptr 3 0 1,.ptr 4 0 1],.sw 5 1,.fn 63 [] [.ptr 6 0 1,.ptr 7 0 1],.sw 8 1,.fn 63 [] [.ptr 9 0 1,.ptr 10 0 1],.sw 11 1,.fn 63 [] [.ptr 12 0 1,.ptr 13 0 1],.sw 14 1],.vals [.il .i64 1 r.1],.vals [.c (.int .i64 r.2.1)],.vals [.il .i64 1 r.2.2.1],.vals [.c (.int .i64 r.2.2.2.1)],.ints .i64 r.2.2.2.2.1,.vals [.il .i64 1 r.2.2.2.2.2.1],.vals [.c (.int .i64 r.2.2.2.2.2.2.1)],.ints .i64 r.2.2.2.2.2.2.2.1,.vals [.il .i64 1 r.2.2.2.2.2.2.2.2.1],.vals [.c (.int .i64 r.2.2.2.2.2.2.2.2.2.1)],.ints .i64 r.2.2.2.2.2.2.2.2.2.2.1,.vals [.il .i64 1 r.2.2.2.2.2.2.2.2.2.2.2.1],.vals [.c (.int .i64 r.2.2.2.2.2.2.2.2.2.2.2.2.1)],.ints .i64 r.2.2.2.2.2.2.2.2.2.2.2.2.2]):=vA (Q82.env N) gA Try.func50 eA.n ((Q82.f_eq ..).trans h) fun v b e=>by unfold Q82.dec at e;split at e<;>cases e;exact⟨rfl,rfl⟩
theorem Q82.ent_ok (N:Nat):uA Try.prog 50 (Q82.ent N):=bB fun v a e h=>by split at h;exact wC (Q:=fun e=>kA _ _ _ _ (e a).pick.1 (e a).pick.2) h fun k=>Q82.spec N a k;cases h
noncomputable def Q83.l4 {R:Type}(N:Nat):Nat→Int→List Int→Int→Int→List Int→(Int→List Int→Option R)→Option R
 |0,_,_,_,_,_,_=>none
 |n+1,e,b,f,a,c,d=>
  bif decide (a<f)then
   bif (decide (0≤a))&&(decide (a<(b.length/2:Int)))then
    bif decide ((b.getD (a.toNat*2) 0)>2)then
     bif zA (c.length+1) 8 then
      Q83.l4 N n e b f (aA (a+1)) (c++[b.getD (a.toNat*2) 0]) d
     else none
    else
    Q83.l4 N n e b f (aA (a+1)) c d
   else none
  else
  d e c
noncomputable def Q83.f (N:Nat)(i:Int):Option (List Int):=
 (Q77.f N (aA (0-i))).bind fun j=>
 Q83.l4 N N i j.1 (j.1.length/2:Int) 0 []
  (fun c b=>
   bif (Int.tmod c 2) != 0 then
    some b
   else
   (Q82.f N).bind fun a=>
   (Q81.f N (aA (Int.tdiv (aA (0-c)) 4)) a.1 a.2.1).bind fun d=>
   bif d.1 then
    bif zA (b.length+0) 8 then
     some (b++[])
    else none
   else
   (Q81.f N (aA (Int.tdiv (aA (0-c)) 4)) a.2.2.1 a.2.2.2.1).bind fun e=>
   bif e.1 then
    bif zA (b.length+a.2.2.2.2.1.length) 8 then
     some (b++a.2.2.2.2.1)
    else none
   else
   (Q81.f N (aA (Int.tdiv (aA (0-c)) 4)) a.2.2.2.2.2.1 a.2.2.2.2.2.2.1).bind fun f=>
   bif f.1 then
    bif zA (b.length+a.2.2.2.2.2.2.2.1.length) 8 then
     some (b++a.2.2.2.2.2.2.2.1)
    else none
   else
   (Q81.f N (aA (Int.tdiv (aA (0-c)) 4)) a.2.2.2.2.2.2.2.2.1 a.2.2.2.2.2.2.2.2.2.1).bind fun g=>
   bif g.1 then
    bif zA (b.length+a.2.2.2.2.2.2.2.2.2.2.1.length) 8 then
     some (b++a.2.2.2.2.2.2.2.2.2.2.1)
    else none
   else
   (Q81.f N (aA (Int.tdiv (aA (0-c)) 4)) a.2.2.2.2.2.2.2.2.2.2.2.1 a.2.2.2.2.2.2.2.2.2.2.2.2.1).bind fun h=>
   bif h.1 then
    bif zA (b.length+a.2.2.2.2.2.2.2.2.2.2.2.2.2.length) 8 then
     some (b++a.2.2.2.2.2.2.2.2.2.2.2.2.2)
    else none
   else
   some b)
noncomputable def Q83.h4:mE:=⟨[(0,.any),(3,.row .i64 1),(16,.il .i64 2),(17,.any),(18,.any)],[(0,.any),(3,.row .i64 1)]⟩
noncomputable def Q83.h12:mE:=⟨[(0,.any),(3,.row .i64 1),(35,.vrow [.fnc [.box [.il .i64 1],.box [.any]],.any,.fnc [.box [.il .i64 1],.box [.any]],.row .i64 1,.fnc [.box [.il .i64 1],.box [.any]],.row .i64 1,.fnc [.box [.il .i64 1],.box [.any]],.row .i64 1,.fnc [.box [.il .i64 1],.box [.any]],.row .i64 1]),(36,.any),(37,.any)],[(3,.any)]⟩
noncomputable def Q83.c4 (N:Nat):mM:=⟨fun vs H k=>match vs,H with
 | [.c (.int .i64 a),.sw 0 1,.il .i64 2 b,.c (.int .i64 c),.c (.int .i64 d)],[.ints .i64 e]=>Q83.l4 N N a b c d e (fun f g=>k (.exit 0) ⟨iE Q83.h4.out [.c (.int .i64 f),.sw 0 1],[.ints .i64 g]⟩)
 |_,_=>none⟩
noncomputable def Q83.E (N:Nat):gD:=uF [(2,yX),(37,bq),(52,Dw),(75,C4),(79,Dy),(80,Dz),(83,E0)] [(49,Q77.ent N),(50,Q82.ent N),(63,Q81.ent N)] [(4,Q83.h4),(12,Q83.h12)] [(4,Q83.c4 N)] 40 [.tmp 2] [.il .i64 1] 0 53
noncomputable def Q83.b4:Code:=cB ((jA (bo Try.f31)).getD 0 .skip)
theorem Q83.l4_eq {R:Type}(N n:Nat)(a:Int)(b:List Int)(c d:Int)(e:List Int)(k:Ex→St→Option R):
  xB 0 Q83.h4 (fun s k=>kB (Q83.E N) 393 Q83.b4 s k) n [.c (.int .i64 a),.sw 0 1,.il .i64 2 b,.c (.int .i64 c),.c (.int .i64 d)] [.ints .i64 e] k=Q83.l4 N n a b c d e (fun f g=>k (.exit 0) ⟨iE Q83.h4.out [.c (.int .i64 f),.sw 0 1],[.ints .i64 g]⟩):=by
 induction n generalizing a b c d e with
 |zero=>kernel_rfl
 |succ n ih=>
  simp only[Q83.l4,←ih]
  kernel_rfl
noncomputable def Q83.dec (v:V)(bs:List nA):Option (List Int):=match v,bs with
 | .il .i64 1 a,[]=>some a
 |_,_=>none
theorem Q83.f_eq (N:Nat)(a:Int):
  gB (Q83.E N) (bo Try.f31) [.c (.int .i64 a)] [] Q83.dec=Q83.f N a:=by kernel_rfl
noncomputable def Q83.ent (N:Nat):wA:=sG (List Int) 0 [true] [.any] fun
 | [.c (.int .i64 a)]=>some (Q83.f N a,fun r=>.one (.il .i64 1 r) [])
 |_=>none
theorem Q83.env (N:Nat):eB Try.prog (Q83.E N):=⟨(.cons kE (.cons aK (.cons qi (.cons cc (.cons qj (.cons qk (.cons ql .nil))))))),(.cons (Q77.ent_ok N) (.cons (Q82.ent_ok N) (.cons (Q81.ent_ok N) .nil)))⟩
theorem Q83.k4 (N:Nat):qC Try.prog Try.f31 (Q83.E N) (.loop Q83.b4):=dE (Q83.env N) gA 393 (c:=Q83.c4 N) eA.n fun R vs H k r h=>by unfold Q83.c4 at h;dsimp only at h;split at h;exact⟨_,Q83.l4_eq .. ▸h⟩;cases h
theorem Q83.spec (N:Nat)(a:Int)(r:List Int)(h:Q83.f N a=some r):kA Try.prog 31 [.c (.int .i64 a)] [] (.il .i64 1 r) ([]):=vA (Q83.env N) gA Try.func31 (eA.of (l:=[(.loop (cB ((jA (bo Try.f31)).getD 0 .skip))),(.loop (cB ((jA (bo Try.f31)).getD 1 .skip)))]) (by kernel_rfl) (eA.cons (Q83.k4 N) (eA.cons (wo (by kernel_rfl)) eA.nil))) ((Q83.f_eq ..).trans h) fun v b e=>by unfold Q83.dec at e;split at e<;>cases e;exact⟨rfl,rfl⟩
theorem Q83.ent_ok (N:Nat):uA Try.prog 31 (Q83.ent N):=bB fun v a e h=>by split at h;exact wC (Q:=fun e=>kA _ _ _ _ (e a).pick.1 (e a).pick.2) h fun k=>Q83.spec N _ a k;cases h
noncomputable def Q84.l2 {R:Type}(N:Nat):Nat→Int→Int→Int→Int→Int→(Unit→Option R)→(Int→Option R)→Option R
 |0,_,_,_,_,_,_,_=>none
 |n+1,a,c,d,e,b,m,kr=>
  bif decide (b<3)then
   bif (decide (0≤b))&&(decide (b<3))then
    (Q35.f N ([c,d,e].getD b.toNat 0) a).bind fun f=>
    bif f.1 != 1 then
     Q84.l2 N n a c d e (aA (b+1)) m kr
    else
    bif a==(-4)then
     bif a==(-4)then
      (Q79.f N a ([c,d,e].getD b.toNat 0)).bind fun g=>
      kr g
     else
     (Q79.f N ([c,d,e].getD b.toNat 0) a).bind fun h=>
     kr h
    else
    bif a==8 then
     bif a==8 then
      (Q79.f N a ([c,d,e].getD b.toNat 0)).bind fun i=>
      kr i
     else
     (Q79.f N ([c,d,e].getD b.toNat 0) a).bind fun j=>
     kr j
    else
    bif a==(-8)then
     (Q79.f N a ([c,d,e].getD b.toNat 0)).bind fun k=>
     kr k
    else
    (Q79.f N ([c,d,e].getD b.toNat 0) a).bind fun l=>
    kr l
   else none
  else
  m ()
noncomputable def Q84.f (N:Nat)(b d c e:Int):Option (Int):=
 Q84.l2 N N e b c (aA ((aA (b+d))+c)) 0
  (fun(_:Unit)=>
   some 0)
  (fun a=>
   some a)
noncomputable def Q84.h2:mE:=⟨[(1,.any),(22,.recd [.any,.any,.any]),(23,.any)],[]⟩
noncomputable def Q84.c2 (N:Nat):mM:=⟨fun vs H k=>match vs,H with
 | [.c (.int .i64 b),.agg [.c (.int .i64 c),.c (.int .i64 d),.c (.int .i64 e)],.c (.int .i64 f)],[]=>Q84.l2 N N b c d e f (fun(_:Unit)=>k (.exit 0) ⟨iE Q84.h2.out [],[]⟩) (fun a=>k (.ret (.c (.int .i64 a)) []) .nil)
 |_,_=>none⟩
noncomputable def Q84.E (N:Nat):gD:=uF [(2,yX),(23,kP),(99,F1)] [(48,Q35.ent N),(64,Q79.ent N)] [(2,Q84.h2)] [(2,Q84.c2 N)] N [.tmp 4] [.any] 0 47
noncomputable def Q84.b2:Code:=cB ((jA (bo Try.f51)).getD 0 .skip)
theorem Q84.l2_eq {R:Type}(N n:Nat)(b c d e f:Int)(k:Ex→St→Option R):
  xB 0 Q84.h2 (fun s k=>kB (Q84.E N) 395 Q84.b2 s k) n [.c (.int .i64 b),.agg [.c (.int .i64 c),.c (.int .i64 d),.c (.int .i64 e)],.c (.int .i64 f)] [] k=Q84.l2 N n b c d e f (fun(_:Unit)=>k (.exit 0) ⟨iE Q84.h2.out [],[]⟩) (fun a=>k (.ret (.c (.int .i64 a)) []) .nil):=by
 induction n generalizing b c d e f with
 |zero=>kernel_rfl
 |succ n ih=>
  simp only[Q84.l2,←ih]
  kernel_rfl
noncomputable def Q84.dec (v:V)(bs:List nA):Option (Int):=match v,bs with
 | .c (.int .i64 a),[]=>some a
 |_,_=>none
theorem Q84.f_eq (N:Nat)(a b c d:Int):
  gB (Q84.E N) (bo Try.f51) [.agg [.c (.int .i64 a),.c (.int .i64 b),.c (.int .i64 c)],.c (.int .i64 d)] [] Q84.dec=Q84.f N a b c d:=by kernel_rfl
noncomputable def Q84.ent (N:Nat):wA:=sG (Int) 0 [true,true] [.recd [.any,.any,.any],.any] fun
 | [.agg [.c (.int .i64 a),.c (.int .i64 b),.c (.int .i64 c)],.c (.int .i64 d)]=>some (Q84.f N a b c d,fun r=>.one (.c (.int .i64 r)) [])
 |_=>none
theorem Q84.env (N:Nat):eB Try.prog (Q84.E N):=⟨(.cons kE (.cons bF (.cons C5 .nil))),(.cons (Q35.ent_ok N) (.cons (Q79.ent_ok N) .nil))⟩
theorem Q84.k2 (N:Nat):qC Try.prog Try.f51 (Q84.E N) (.loop Q84.b2):=dE (Q84.env N) gA 395 (c:=Q84.c2 N) eA.n fun R vs H k r h=>by unfold Q84.c2 at h;dsimp only at h;split at h;exact⟨_,Q84.l2_eq .. ▸h⟩;cases h
theorem Q84.spec (N:Nat)(a c d f r:Int)(h:Q84.f N a c d f=some r):kA Try.prog 51 [.agg [.c (.int .i64 a),.c (.int .i64 c),.c (.int .i64 d)],.c (.int .i64 f)] [] (.c (.int .i64 r)) ([]):=vA (Q84.env N) gA Try.func51 (eA.of (l:=[(.loop (cB ((jA (bo Try.f51)).getD 0 .skip)))]) (by kernel_rfl) (eA.cons (Q84.k2 N) eA.nil)) ((Q84.f_eq ..).trans h) fun v b e=>by unfold Q84.dec at e;split at e<;>cases e;exact⟨rfl,rfl⟩
theorem Q84.ent_ok (N:Nat):uA Try.prog 51 (Q84.ent N):=bB fun v a e h=>by split at h;exact wC (Q:=fun e=>kA _ _ _ _ (e a).pick.1 (e a).pick.2) h fun k=>Q84.spec N _ _ _ _ a k;cases h
noncomputable def Q85.l3 {R:Type}(N:Nat):Nat→List Int→Int→Int→Int→Int→Int→List Int→List Int→(List Int→List Int→Option R)→Option R
 |0,_,_,_,_,_,_,_,_,_=>none
 |n+1,f,h,a,i,j,b,c,d,g=>
  bif decide (a<h)then
   bif (decide (0≤a))&&(decide (a<(f.length:Int)))then
    (Q84.f N i j b (f.getD a.toNat 0)).bind fun e=>
    bif (decide (0≤a))&&(decide (a<8))then
     Q85.l3 N n f h (aA (a+1)) i j b c (d.set (0+a.toNat) e) g
    else none
   else none
  else
  g c d
noncomputable def Q85.f (N:Nat)(d e f:Int)(c:List Int):Option (Int×Int×Int×Int×Int×Int×Int×Int):=
 Q85.l3 N N c (c.length:Int) 0 d e f [0,0,0,0,0,0,0,0] [0,0,0,0,0,0,0,0]
  (fun b a=>
   some (((((((((b.set 0 (a.getD 0 0)).set 1 (a.getD 1 0)).set 2 (a.getD 2 0)).set 3 (a.getD 3 0)).set 4 (a.getD 4 0)).set 5 (a.getD 5 0)).set 6 (a.getD 6 0)).set 7 (a.getD 7 0)).getD 0 0,((((((((b.set 0 (a.getD 0 0)).set 1 (a.getD 1 0)).set 2 (a.getD 2 0)).set 3 (a.getD 3 0)).set 4 (a.getD 4 0)).set 5 (a.getD 5 0)).set 6 (a.getD 6 0)).set 7 (a.getD 7 0)).getD 1 0,((((((((b.set 0 (a.getD 0 0)).set 1 (a.getD 1 0)).set 2 (a.getD 2 0)).set 3 (a.getD 3 0)).set 4 (a.getD 4 0)).set 5 (a.getD 5 0)).set 6 (a.getD 6 0)).set 7 (a.getD 7 0)).getD 2 0,((((((((b.set 0 (a.getD 0 0)).set 1 (a.getD 1 0)).set 2 (a.getD 2 0)).set 3 (a.getD 3 0)).set 4 (a.getD 4 0)).set 5 (a.getD 5 0)).set 6 (a.getD 6 0)).set 7 (a.getD 7 0)).getD 3 0,((((((((b.set 0 (a.getD 0 0)).set 1 (a.getD 1 0)).set 2 (a.getD 2 0)).set 3 (a.getD 3 0)).set 4 (a.getD 4 0)).set 5 (a.getD 5 0)).set 6 (a.getD 6 0)).set 7 (a.getD 7 0)).getD 4 0,((((((((b.set 0 (a.getD 0 0)).set 1 (a.getD 1 0)).set 2 (a.getD 2 0)).set 3 (a.getD 3 0)).set 4 (a.getD 4 0)).set 5 (a.getD 5 0)).set 6 (a.getD 6 0)).set 7 (a.getD 7 0)).getD 5 0,((((((((b.set 0 (a.getD 0 0)).set 1 (a.getD 1 0)).set 2 (a.getD 2 0)).set 3 (a.getD 3 0)).set 4 (a.getD 4 0)).set 5 (a.getD 5 0)).set 6 (a.getD 6 0)).set 7 (a.getD 7 0)).getD 6 0,((((((((b.set 0 (a.getD 0 0)).set 1 (a.getD 1 0)).set 2 (a.getD 2 0)).set 3 (a.getD 3 0)).set 4 (a.getD 4 0)).set 5 (a.getD 5 0)).set 6 (a.getD 6 0)).set 7 (a.getD 7 0)).getD 7 0))
noncomputable def Q85.h3:mE:=⟨[(2,.box [.any,.any,.any]),(4,.any),(5,.any),(8,.il .i64 1),(9,.any),(10,.any)],[(4,.any),(5,.any)]⟩
noncomputable def Q85.c3 (N:Nat):mM:=⟨fun vs H k=>match vs,H with
 | [.ptr 0 0 3,.ptr 1 0 8,.ptr 2 0 8,.il .i64 1 f,.c (.int .i64 g),.c (.int .i64 h)],[.vals [.c (.int .i64 i),.c (.int .i64 j),.c (.int .i64 a)],.ints .i64 b,.ints .i64 c]=>Q85.l3 N N f g h i j a b c (fun d e=>k (.exit 0) ⟨iE Q85.h3.out [.ptr 0 0 8,.ptr 1 0 8],[.ints .i64 d,.ints .i64 e]⟩)
 |_,_=>none⟩
noncomputable def Q85.E (N:Nat):gD:=uF [(2,yX),(3,Ah),(23,kP),(37,bq),(59,C0)] [(51,Q84.ent N)] [(3,Q85.h3)] [(3,Q85.c3 N)] N [.cell 4 59] [.recd [.any,.any,.any,.any,.any,.any,.any,.any]] 0 22
noncomputable def Q85.b3:Code:=cB ((jA (bo Try.f32)).getD 0 .skip)
theorem Q85.l3_eq {R:Type}(N n:Nat)(f:List Int)(g h i j a:Int)(b c:List Int)(k:Ex→St→Option R):
  xB 0 Q85.h3 (fun s k=>kB (Q85.E N) 394 Q85.b3 s k) n [.ptr 0 0 3,.ptr 1 0 8,.ptr 2 0 8,.il .i64 1 f,.c (.int .i64 g),.c (.int .i64 h)] [.vals [.c (.int .i64 i),.c (.int .i64 j),.c (.int .i64 a)],.ints .i64 b,.ints .i64 c] k=Q85.l3 N n f g h i j a b c (fun d e=>k (.exit 0) ⟨iE Q85.h3.out [.ptr 0 0 8,.ptr 1 0 8],[.ints .i64 d,.ints .i64 e]⟩):=by
 induction n generalizing f g h i j a b c with
 |zero=>kernel_rfl
 |succ n ih=>
  simp only[Q85.l3,←ih]
  kernel_rfl
noncomputable def Q85.dec (v:V)(bs:List nA):Option (Int×Int×Int×Int×Int×Int×Int×Int):=match v,bs with
 | .agg [.c (.int .i64 a),.c (.int .i64 b),.c (.int .i64 c),.c (.int .i64 d),.c (.int .i64 e),.c (.int .i64 f),.c (.int .i64 g),.c (.int .i64 h)],[]=>some (a,b,c,d,e,f,g,h)
 |_,_=>none
theorem Q85.f_eq (N:Nat)(a b c:Int)(d:List Int):
  gB (Q85.E N) (bo Try.f32) [.agg [.c (.int .i64 a),.c (.int .i64 b),.c (.int .i64 c)],.il .i64 1 d] [] Q85.dec=Q85.f N a b c d:=by kernel_rfl
noncomputable def Q85.ent (N:Nat):wA:=sG (Int×Int×Int×Int×Int×Int×Int×Int) 0 [true,true] [.recd [.any,.any,.any],.il .i64 1] fun
 | [.agg [.c (.int .i64 a),.c (.int .i64 b),.c (.int .i64 c)],.il .i64 1 d]=>some (Q85.f N a b c d,fun r=>.one (.agg [.c (.int .i64 r.1),.c (.int .i64 r.2.1),.c (.int .i64 r.2.2.1),.c (.int .i64 r.2.2.2.1),.c (.int .i64 r.2.2.2.2.1),.c (.int .i64 r.2.2.2.2.2.1),.c (.int .i64 r.2.2.2.2.2.2.1),.c (.int .i64 r.2.2.2.2.2.2.2)]) [])
 |_=>none
theorem Q85.env (N:Nat):eB Try.prog (Q85.E N):=⟨(.cons kE (.cons kK (.cons bF (.cons aK (.cons ca .nil))))),(.cons (Q84.ent_ok N) .nil)⟩
theorem Q85.k3 (N:Nat):qC Try.prog Try.f32 (Q85.E N) (.loop Q85.b3):=dE (Q85.env N) gA 394 (c:=Q85.c3 N) eA.n fun R vs H k r h=>by unfold Q85.c3 at h;dsimp only at h;split at h;exact⟨_,Q85.l3_eq .. ▸h⟩;cases h
theorem Q85.spec (N:Nat)(a c d:Int)(f:List Int)(r:Int×Int×Int×Int×Int×Int×Int×Int)(h:Q85.f N a c d f=some r):kA Try.prog 32 [.agg [.c (.int .i64 a),.c (.int .i64 c),.c (.int .i64 d)],.il .i64 1 f] [] (.agg [.c (.int .i64 r.1),.c (.int .i64 r.2.1),.c (.int .i64 r.2.2.1),.c (.int .i64 r.2.2.2.1),.c (.int .i64 r.2.2.2.2.1),.c (.int .i64 r.2.2.2.2.2.1),.c (.int .i64 r.2.2.2.2.2.2.1),.c (.int .i64 r.2.2.2.2.2.2.2)]) ([]):=vA (Q85.env N) gA Try.func32 (eA.of (l:=[(.loop (cB ((jA (bo Try.f32)).getD 0 .skip)))]) (by kernel_rfl) (eA.cons (Q85.k3 N) eA.nil)) ((Q85.f_eq ..).trans h) fun v b e=>by unfold Q85.dec at e;split at e<;>cases e;exact⟨rfl,rfl⟩
theorem Q85.ent_ok (N:Nat):uA Try.prog 32 (Q85.ent N):=bB fun v a e h=>by split at h;exact wC (Q:=fun e=>kA _ _ _ _ (e a).pick.1 (e a).pick.2) h fun k=>Q85.spec N _ _ _ _ a k;cases h
noncomputable def Q86.f (N:Nat)(c d e:Int):Option (List Int×Int):=
 (Q38.f N c d e).bind fun f=>
 bif f != 0 then
  some ([],f)
 else
 (Q37.f N c d e).bind fun g=>
 bif decide (g<(-65536))then
  some ([],80)
 else
 (Q41.f N c d e).bind fun h=>
 bif h != 1 then
  some ([],81)
 else
 (Q37.f N c d e).bind fun i=>
 (Q83.f N i).bind fun b=>
 (Q85.f N c d e b).bind fun a=>
 bif ((decide (0≤(b.length:Int)))&&(decide ((b.length:Int)≤(b.length:Int))))&&(decide ((b.length:Int)≤8))then
  some ([a.1,a.2.1,a.2.2.1,a.2.2.2.1,a.2.2.2.2.1,a.2.2.2.2.2.1,a.2.2.2.2.2.2.1,a.2.2.2.2.2.2.2].take ((b.length:Int).toNat),0)
 else none
noncomputable def Q86.E (N:Nat):gD:=uF [(3,Ah),(23,kP),(37,bq),(59,C0)] [(29,Q38.ent N),(24,Q37.ent N),(30,Q41.ent N),(31,Q83.ent N),(32,Q85.ent N)] [] [] N [.tmp 2,.tmp 3] [.il .i64 1,.any] 0 32
noncomputable def Q86.dec (v:V)(bs:List nA):Option (List Int×Int):=match v,bs with
 | .tup [.il .i64 1 a,.c (.int .i64 b)],[]=>some (a,b)
 |_,_=>none
theorem Q86.f_eq (N:Nat)(a b c:Int):
  gB (Q86.E N) (bo Try.f8) [.agg [.c (.int .i64 a),.c (.int .i64 b),.c (.int .i64 c)]] [] Q86.dec=Q86.f N a b c:=by kernel_rfl
noncomputable def Q86.ent (N:Nat):wA:=sG (List Int×Int) 0 [true] [.recd [.any,.any,.any]] fun
 | [.agg [.c (.int .i64 a),.c (.int .i64 b),.c (.int .i64 c)]]=>some (Q86.f N a b c,fun r=>.one (.tup [.il .i64 1 r.1,.c (.int .i64 r.2)]) [])
 |_=>none
theorem Q86.env (N:Nat):eB Try.prog (Q86.E N):=⟨(.cons kK (.cons bF (.cons aK (.cons ca .nil)))),(.cons (Q38.ent_ok N) (.cons (Q37.ent_ok N) (.cons (Q41.ent_ok N) (.cons (Q83.ent_ok N) (.cons (Q85.ent_ok N) .nil)))))⟩
theorem Q86.spec (N:Nat)(a c d:Int)(r:List Int×Int)(h:Q86.f N a c d=some r):kA Try.prog 8 [.agg [.c (.int .i64 a),.c (.int .i64 c),.c (.int .i64 d)]] [] (.tup [.il .i64 1 r.1,.c (.int .i64 r.2)]) ([]):=vA (Q86.env N) gA Try.func8 eA.n ((Q86.f_eq ..).trans h) fun v b e=>by unfold Q86.dec at e;split at e<;>cases e;exact⟨rfl,rfl⟩
theorem Q86.ent_ok (N:Nat):uA Try.prog 8 (Q86.ent N):=bB fun v a e h=>by split at h;exact wC (Q:=fun e=>kA _ _ _ _ (e a).pick.1 (e a).pick.2) h fun k=>Q86.spec N _ _ _ a k;cases h
noncomputable def Q87.f (N:Nat)(a:Int):Option (List Int×Int):=
 (Q66.f N a).bind fun b=>
 bif b != 0 then
  some ([],b)
 else
 (Q83.f N a).bind fun c=>
 some (c,0)
noncomputable def Q87.E (N:Nat):gD:=uF [] [(40,Q66.ent N),(31,Q83.ent N)] [] [] N [.tmp 2,.tmp 3] [.il .i64 1,.any] 0 12
noncomputable def Q87.dec (v:V)(bs:List nA):Option (List Int×Int):=match v,bs with
 | .tup [.il .i64 1 a,.c (.int .i64 b)],[]=>some (a,b)
 |_,_=>none
theorem Q87.f_eq (N:Nat)(a:Int):
  gB (Q87.E N) (bo Try.f15) [.c (.int .i64 a)] [] Q87.dec=Q87.f N a:=by kernel_rfl
noncomputable def Q87.ent (N:Nat):wA:=sG (List Int×Int) 0 [true] [.any] fun
 | [.c (.int .i64 a)]=>some (Q87.f N a,fun r=>.one (.tup [.il .i64 1 r.1,.c (.int .i64 r.2)]) [])
 |_=>none
theorem Q87.env (N:Nat):eB Try.prog (Q87.E N):=⟨.nil,(.cons (Q66.ent_ok N) (.cons (Q83.ent_ok N) .nil))⟩
theorem Q87.spec (N:Nat)(a:Int)(r:List Int×Int)(h:Q87.f N a=some r):kA Try.prog 15 [.c (.int .i64 a)] [] (.tup [.il .i64 1 r.1,.c (.int .i64 r.2)]) ([]):=vA (Q87.env N) gA Try.func15 eA.n ((Q87.f_eq ..).trans h) fun v b e=>by unfold Q87.dec at e;split at e<;>cases e;exact⟨rfl,rfl⟩
theorem Q87.ent_ok (N:Nat):uA Try.prog 15 (Q87.ent N):=bB fun v a e h=>by split at h;exact wC (Q:=fun e=>kA _ _ _ _ (e a).pick.1 (e a).pick.2) h fun k=>Q87.spec N _ a k;cases h
noncomputable def Q88.l8 {R:Type}(N:Nat):Nat→Int→Int→Int→List Int→(Int→Int→Int→List Int→Option R)→Option R
 |0,_,_,_,_,_=>none
 |n+1,d,b,a,e,c=>
  bif !(a==0)then
   bif (Int.tmod b a)==0 then
    bif !(a==0)then
     Q88.l8 N n d (aA (Int.tdiv b a)) a e c
    else none
   else
   c d b a e
  else none
noncomputable def Q88.l4 {R:Type}(N:Nat):Nat→Int→Int→Int→List Int→(Int→List Int→Option R)→Option R
 |0,_,_,_,_,_=>none
 |n+1,e,b,a,c,d=>
  bif decide (a≤b)then
   bif !(a==0)then
    bif (Int.tmod b a) != 0 then
     Q88.l4 N n e b (aA (a+2)) c d
    else
    bif zA (c.length+1) 8 then
     Q88.l8 N N e b a (c++[a])
      (fun f g h i=>
       Q88.l4 N n f g (aA (h+2)) i d)
    else none
   else none
  else
  d e c
noncomputable def Q88.f (N:Nat)(c:Int):Option (List Int):=
 Q88.l4 N N c (aA (0-c)) 3 []
  (fun b a=>
   bif (Int.tmod b 2) != 0 then
    some a
   else
   bif (Int.tmod (aA (Int.tdiv (aA (0-b)) 4)) 4)==3 then
    some a
   else
   bif (Int.tmod (aA (Int.tdiv (aA (0-b)) 4)) 4)==1 then
    bif zA (a.length+1) 8 then
     some (a++[(-4)])
    else none
   else
   bif (Int.tmod (aA (Int.tdiv (aA (0-b)) 4)) 8)==4 then
    bif zA (a.length+1) 8 then
     some (a++[(-4)])
    else none
   else
   bif (Int.tmod (aA (Int.tdiv (aA (0-b)) 4)) 8)==2 then
    bif zA (a.length+1) 8 then
     some (a++[(-8)])
    else none
   else
   bif (Int.tmod (aA (Int.tdiv (aA (0-b)) 4)) 8)==6 then
    bif zA (a.length+1) 8 then
     some (a++[8])
    else none
   else
   bif zA (a.length+2) 8 then
    some (a++[(-4),8])
   else none)
noncomputable def Q89.l15 {R:Type}(N:Nat):Nat→Int→Int→Int→(Unit→Option R)→(Int→Option R)→Option R
 |0,_,_,_,_,_=>none
 |n+1,d,a,b,c,kr=>
  bif decide (b<a)then
   bif !(a==0)then
    bif (Int.tmod (aA ((aA (b*b))-d)) a)==0 then
     kr 1
    else
    Q89.l15 N n d a (aA (b+1)) c kr
   else none
  else
  c ()
noncomputable def Q89.f (N:Nat)(a b:Int):Option (Int):=
 bif b==(-4)then
  bif (Int.tmod a 4)==1 then
   some 1
  else
  some (-1)
 else
 bif b==8 then
  bif (Int.tmod a 8)==1 then
   some 1
  else
  bif (Int.tmod a 8)==7 then
   some 1
  else
  some (-1)
 else
 bif b==(-8)then
  bif (Int.tmod a 8)==1 then
   some 1
  else
  bif (Int.tmod a 8)==3 then
   some 1
  else
  some (-1)
 else
 Q89.l15 N N a b 1
  (fun(_:Unit)=>
   some (-1))
  (fun c=>
   some c)
noncomputable def Q90.f (N:Nat)(b a:Int):Option (Bool):=
 bif decide (a<0)then
  (Q69.f N b (aA (0-a))).bind fun c=>
  some (c==1)
 else
 (Q69.f N b a).bind fun d=>
 some (d==1)
noncomputable def Q91.l4 {R:Type}(N:Nat):Nat→List Int→Int→Int→Int→Int→List Int→(List Int→Option R)→Option R
 |0,_,_,_,_,_,_,_=>none
 |n+1,c,a,d,g,e,b,f=>
  bif decide (a<(c.length:Int))then
   bif (decide (0≤a))&&(decide (a<(c.length:Int)))then
    (Q90.f N d (c.getD a.toNat 0)).bind fun h=>
    bif (decide (0≤a))&&(decide (a<(c.length:Int)))then
     (Q90.f N e (c.getD a.toNat 0)).bind fun i=>
     bif !h then
      bif !i then
       bif (decide (0≤a))&&(decide (a<(c.length:Int)))then
        (Q89.f N (aA ((aA (d+g))+e)) (c.getD a.toNat 0)).bind fun j=>
        bif zA (b.length+1) 8 then
         Q91.l4 N n c (aA (a+1)) d g e (b++[j]) f
        else none
       else none
      else
      bif (decide (0≤a))&&(decide (a<(c.length:Int)))then
       (Q89.f N e (c.getD a.toNat 0)).bind fun k=>
       bif zA (b.length+1) 8 then
        Q91.l4 N n c (aA (a+1)) d g e (b++[k]) f
       else none
      else none
     else
     bif (decide (0≤a))&&(decide (a<(c.length:Int)))then
      (Q89.f N d (c.getD a.toNat 0)).bind fun l=>
      bif zA (b.length+1) 8 then
       Q91.l4 N n c (aA (a+1)) d g e (b++[l]) f
      else none
     else none
    else none
   else none
  else
  f b
noncomputable def Q91.f (N:Nat)(c a d:Int):Option (List Int):=
 (Q88.f N (aA ((aA (a*a))- (aA ((aA (4*c))*d))))).bind fun e=>
 Q91.l4 N N e 0 c a d []
  (fun b=>
   some b)
noncomputable def Dv:TI:=⟨.slice 43,1,24,[.slice none 0 0]⟩
noncomputable def F0:TI:=⟨.map 59 3,1,8,[.map none]⟩
theorem qh:iC Try.prog 40 Dv:=nC (by kernel_rfl) (by kernel_rfl) (by kernel_rfl) (by kernel_rfl) (by kernel_rfl) (by kernel_rfl) (by kernel_rfl) (Try.underlying40) (by kernel_rfl)
theorem C3:iC Try.prog 64 F0:=nC (by kernel_rfl) (by kernel_rfl) (by kernel_rfl) (by kernel_rfl) (by kernel_rfl) (by kernel_rfl) (by kernel_rfl) (Ac Try.underlying64 (by kernel_rfl)) (by kernel_rfl)
noncomputable def Q93.l8 {R:Type}(N:Nat):Nat→List Int→Int→Int→List (List Int)→List Int→List (List Int)→List Int→(List (List Int)→Option R)→Option R
 |0,_,_,_,_,_,_,_,_=>none
 |n+1,h,i,d,e,f,c,b,g=>
  bif decide (d<i)then
   bif (decide (0≤d))&&(decide (d<(b.length/3:Int)))then
    (Q85.f N (b.getD (d.toNat*3) 0) (b.getD ((d.toNat*3)+1) 0) (b.getD ((d.toNat*3)+2) 0) h).bind fun a=>
    bif !(yO [a.1,a.2.1,a.2.2.1,a.2.2.2.1,a.2.2.2.2.1,a.2.2.2.2.2.1,a.2.2.2.2.2.2.1,a.2.2.2.2.2.2.2] e)then
     bif zA (c.length+1) 24 then
      bif (decide (0≤(c.length:Int)))&&(decide ((c.length:Int)<((c++[[]]).length:Int)))then
       bif zA (((((c++[[]]).getD ((c.length:Int).toNat) []).length)+3)/3) 24 then
        bif (decide (0≤(c.length:Int)))&&(decide ((c.length:Int)<((c++[[]]).length:Int)))then
         bif Nat.beq ((c.length:Int).toNat) ((c.length:Int).toNat)then
          Q93.l8 N n h i (aA (d+1)) (fC [a.1,a.2.1,a.2.2.1,a.2.2.2.1,a.2.2.2.2.1,a.2.2.2.2.2.1,a.2.2.2.2.2.2.1,a.2.2.2.2.2.2.2] e) (iK [a.1,a.2.1,a.2.2.1,a.2.2.2.1,a.2.2.2.2.1,a.2.2.2.2.2.1,a.2.2.2.2.2.2.1,a.2.2.2.2.2.2.2] (c.length:Int) e f) ((c++[[]]).set ((c.length:Int).toNat) (((c++[[]]).getD ((c.length:Int).toNat) [])++[b.getD (d.toNat*3) 0,b.getD ((d.toNat*3)+1) 0,b.getD ((d.toNat*3)+2) 0])) b g
         else none
        else none
       else none
      else none
     else none
    else
    bif (decide (0≤(yI [a.1,a.2.1,a.2.2.1,a.2.2.2.1,a.2.2.2.2.1,a.2.2.2.2.2.1,a.2.2.2.2.2.2.1,a.2.2.2.2.2.2.2] e f)))&&(decide ((yI [a.1,a.2.1,a.2.2.1,a.2.2.2.1,a.2.2.2.2.1,a.2.2.2.2.2.1,a.2.2.2.2.2.2.1,a.2.2.2.2.2.2.2] e f)<(c.length:Int)))then
     bif zA ((((c.getD ((yI [a.1,a.2.1,a.2.2.1,a.2.2.2.1,a.2.2.2.2.1,a.2.2.2.2.2.1,a.2.2.2.2.2.2.1,a.2.2.2.2.2.2.2] e f).toNat) []).length)+3)/3) 24 then
      bif (decide (0≤(yI [a.1,a.2.1,a.2.2.1,a.2.2.2.1,a.2.2.2.2.1,a.2.2.2.2.2.1,a.2.2.2.2.2.2.1,a.2.2.2.2.2.2.2] e f)))&&(decide ((yI [a.1,a.2.1,a.2.2.1,a.2.2.2.1,a.2.2.2.2.1,a.2.2.2.2.2.1,a.2.2.2.2.2.2.1,a.2.2.2.2.2.2.2] e f)<(c.length:Int)))then
       bif Nat.beq ((yI [a.1,a.2.1,a.2.2.1,a.2.2.2.1,a.2.2.2.2.1,a.2.2.2.2.2.1,a.2.2.2.2.2.2.1,a.2.2.2.2.2.2.2] e f).toNat) ((yI [a.1,a.2.1,a.2.2.1,a.2.2.2.1,a.2.2.2.2.1,a.2.2.2.2.2.1,a.2.2.2.2.2.2.1,a.2.2.2.2.2.2.2] e f).toNat)then
        Q93.l8 N n h i (aA (d+1)) e f (c.set ((yI [a.1,a.2.1,a.2.2.1,a.2.2.2.1,a.2.2.2.2.1,a.2.2.2.2.2.1,a.2.2.2.2.2.2.1,a.2.2.2.2.2.2.2] e f).toNat) ((c.getD ((yI [a.1,a.2.1,a.2.2.1,a.2.2.2.1,a.2.2.2.2.1,a.2.2.2.2.2.1,a.2.2.2.2.2.2.1,a.2.2.2.2.2.2.2] e f).toNat) [])++[b.getD (d.toNat*3) 0,b.getD ((d.toNat*3)+1) 0,b.getD ((d.toNat*3)+2) 0])) b g
       else none
      else none
     else none
    else none
   else none
  else
  g c
noncomputable def Q93.f (N:Nat)(c:Int):Option (List (List Int)×Int):=
 (Q75.f N c).bind fun a=>
 bif a.2 != 0 then
  some ([],a.2)
 else
 (Q83.f N c).bind fun d=>
 Q93.l8 N N d (a.1.length/3:Int) 0 [] [] [] a.1
  (fun b=>
   some (b,0))
noncomputable def Q93.h8:mE:=⟨[(6,.il .i64 1),(7,.any),(8,.nrow .i64 3),(25,.row .i64 3),(26,.any),(27,.any)],[(8,.nrow .i64 3)]⟩
noncomputable def Q93.c8 (N:Nat):mM:=⟨fun vs H k=>match vs,H with
 | [.il .i64 1 c,.mref 0,.sw 1 1,.sw 2 3,.c (.int .i64 d),.c (.int .i64 e)],[.mp .i64 8 f (.ints .i64 g),.nw .i64 3 h none,.ints .i64 a]=>Q93.l8 N N c d e f g h a (fun b=>k (.exit 0) ⟨iE Q93.h8.out [.sw 0 1],[.nw .i64 3 b none]⟩)
 |_,_=>none⟩
noncomputable def Q93.E (N:Nat):gD:=uF [(3,Ah),(23,kP),(40,Dv),(43,Bz),(59,C0),(64,F0)] [(41,Q75.ent N),(31,Q83.ent N),(32,Q85.ent N),(3000043,Cn)] [(8,Q93.h8)] [(8,Q93.c8 N)] N [.tmp 2,.tmp 3] [.inl .i64 3,.any] 0 62
noncomputable def Q93.b8:Code:=cB ((jA (bo Try.f16)).getD 0 .skip)
theorem Q93.l8_eq {R:Type}(N n:Nat)(c:List Int)(d e:Int)(f:List (List Int))(g:List Int)(h:List (List Int))(a:List Int)(k:Ex→St→Option R):
  xB 0 Q93.h8 (fun s k=>kB (Q93.E N) 390 Q93.b8 s k) n [.il .i64 1 c,.mref 0,.sw 1 1,.sw 2 3,.c (.int .i64 d),.c (.int .i64 e)] [.mp .i64 8 f (.ints .i64 g),.nw .i64 3 h none,.ints .i64 a] k=Q93.l8 N n c d e f g h a (fun b=>k (.exit 0) ⟨iE Q93.h8.out [.sw 0 1],[.nw .i64 3 b none]⟩):=by
 induction n generalizing c d e f g h a with
 |zero=>kernel_rfl
 |succ n ih=>
  simp only[Q93.l8,←ih]
  kernel_rfl
noncomputable def Q93.dec (v:V)(bs:List nA):Option (List (List Int)×Int):=match v,bs with
 | .tup [.inl .i64 3 a,.c (.int .i64 b)],[]=>some (a,b)
 |_,_=>none
theorem Q93.f_eq (N:Nat)(a:Int):
  gB (Q93.E N) (bo Try.f16) [.c (.int .i64 a)] [] Q93.dec=Q93.f N a:=by kernel_rfl
noncomputable def Q93.ent (N:Nat):wA:=sG (List (List Int)×Int) 0 [true] [.any] fun
 | [.c (.int .i64 a)]=>some (Q93.f N a,fun r=>.one (.tup [.inl .i64 3 r.1,.c (.int .i64 r.2)]) [])
 |_=>none
theorem Q93.env (N:Nat):eB Try.prog (Q93.E N):=⟨(.cons kK (.cons bF (.cons qh (.cons br (.cons ca (.cons C3 .nil)))))),(.cons (Q75.ent_ok N) (.cons (Q83.ent_ok N) (.cons (Q85.ent_ok N) (.cons (xl (f:=3000043)) .nil))))⟩
theorem Q93.k8 (N:Nat):qC Try.prog Try.f16 (Q93.E N) (.loop Q93.b8):=dE (Q93.env N) gA 390 (c:=Q93.c8 N) eA.n fun R vs H k r h=>by unfold Q93.c8 at h;dsimp only at h;split at h;exact⟨_,Q93.l8_eq .. ▸h⟩;cases h
theorem Q93.spec (N:Nat)(a:Int)(r:List (List Int)×Int)(h:Q93.f N a=some r):kA Try.prog 16 [.c (.int .i64 a)] [] (.tup [.inl .i64 3 r.1,.c (.int .i64 r.2)]) ([]):=vA (Q93.env N) gA Try.func16 (eA.of (l:=[(.loop (cB ((jA (bo Try.f16)).getD 0 .skip)))]) (by kernel_rfl) (eA.cons (Q93.k8 N) eA.nil)) ((Q93.f_eq ..).trans h) fun v b e=>by unfold Q93.dec at e;split at e<;>cases e;exact⟨rfl,rfl⟩
theorem Q93.ent_ok (N:Nat):uA Try.prog 16 (Q93.ent N):=bB fun v a e h=>by split at h;exact wC (Q:=fun e=>kA _ _ _ _ (e a).pick.1 (e a).pick.2) h fun k=>Q93.spec N _ a k;cases h
noncomputable def Q98.l4 {R:Type}(N:Nat):Nat→List Int→List Int→Int→Int→(Unit→Option R)→(Bool→Option R)→Option R
 |0,_,_,_,_,_,_=>none
 |n+1,b,c,e,a,d,kr=>
  bif decide (a<e)then
   bif (decide (0≤a))&&(decide (a<(b.length:Int)))then
    bif (decide (0≤a))&&(decide (a<(c.length:Int)))then
     bif (b.getD a.toNat 0) != (c.getD a.toNat 0)then
      kr false
     else
     Q98.l4 N n b c e (aA (a+1)) d kr
    else none
   else none
  else
  d ()
noncomputable def Q98.f (N:Nat)(a b:List Int):Option (Bool):=
 bif (a.length:Int) != (b.length:Int)then
  some false
 else
 Q98.l4 N N a b (a.length:Int) 0
  (fun(_:Unit)=>
   some true)
  (fun c=>
   some c)
noncomputable def Q98.h4:mE:=⟨[(0,.il .i64 1),(1,.il .i64 1),(12,.any),(13,.any)],[]⟩
noncomputable def Q98.c4 (N:Nat):mM:=⟨fun vs H k=>match vs,H with
 | [.il .i64 1 a,.il .i64 1 b,.c (.int .i64 c),.c (.int .i64 d)],[]=>Q98.l4 N N a b c d (fun(_:Unit)=>k (.exit 0) ⟨iE Q98.h4.out [],[]⟩) (fun e=>k (.ret (.c (.bool e)) []) .nil)
 |_,_=>none⟩
noncomputable def Q98.E (N:Nat):gD:=uF [(3,Ah),(24,uh)] [] [(4,Q98.h4)] [(4,Q98.c4 N)] N [.tmp 4] [.any] 0 26
noncomputable def Q98.b4:Code:=cB ((jA (bo Try.f14)).getD 0 .skip)
theorem Q98.l4_eq {R:Type}(N n:Nat)(a b:List Int)(c d:Int)(k:Ex→St→Option R):
  xB 0 Q98.h4 (fun s k=>kB (Q98.E N) 394 Q98.b4 s k) n [.il .i64 1 a,.il .i64 1 b,.c (.int .i64 c),.c (.int .i64 d)] [] k=Q98.l4 N n a b c d (fun(_:Unit)=>k (.exit 0) ⟨iE Q98.h4.out [],[]⟩) (fun e=>k (.ret (.c (.bool e)) []) .nil):=by
 induction n generalizing a b c d with
 |zero=>kernel_rfl
 |succ n ih=>
  simp only[Q98.l4,←ih]
  kernel_rfl
noncomputable def Q98.dec (v:V)(bs:List nA):Option (Bool):=match v,bs with
 | .c (.bool a),[]=>some a
 |_,_=>none
theorem Q98.f_eq (N:Nat)(a b:List Int):
  gB (Q98.E N) (bo Try.f14) [.il .i64 1 a,.il .i64 1 b] [] Q98.dec=Q98.f N a b:=by kernel_rfl
noncomputable def Q98.ent (N:Nat):wA:=sG (Bool) 0 [true,true] [.il .i64 1,.il .i64 1] fun
 | [.il .i64 1 a,.il .i64 1 b]=>some (Q98.f N a b,fun r=>.one (.c (.bool r)) [])
 |_=>none
theorem Q98.env (N:Nat):eB Try.prog (Q98.E N):=⟨(.cons kK (.cons bR .nil)),.nil⟩
theorem Q98.k4 (N:Nat):qC Try.prog Try.f14 (Q98.E N) (.loop Q98.b4):=dE (Q98.env N) gA 394 (c:=Q98.c4 N) eA.n fun R vs H k r h=>by unfold Q98.c4 at h;dsimp only at h;split at h;exact⟨_,Q98.l4_eq .. ▸h⟩;cases h
theorem Q98.spec (N:Nat)(a c:List Int)(r:Bool)(h:Q98.f N a c=some r):kA Try.prog 14 [.il .i64 1 a,.il .i64 1 c] [] (.c (.bool r)) ([]):=vA (Q98.env N) gA Try.func14 (eA.of (l:=[(.loop (cB ((jA (bo Try.f14)).getD 0 .skip)))]) (by kernel_rfl) (eA.cons (Q98.k4 N) eA.nil)) ((Q98.f_eq ..).trans h) fun v b e=>by unfold Q98.dec at e;split at e<;>cases e;exact⟨rfl,rfl⟩
theorem Q98.ent_ok (N:Nat):uA Try.prog 14 (Q98.ent N):=bB fun v a e h=>by split at h;exact wC (Q:=fun e=>kA _ _ _ _ (e a).pick.1 (e a).pick.2) h fun k=>Q98.spec N _ _ a k;cases h
noncomputable def Q99.l4 {R:Type}(N:Nat):Nat→List Int→List Int→Int→Int→(Unit→Option R)→(Bool→Option R)→Option R
 |0,_,_,_,_,_,_=>none
 |n+1,b,c,e,a,d,kr=>
  bif decide (a<e)then
   bif (decide (0≤a))&&(decide (a<(b.length:Int)))then
    bif (decide (0≤a))&&(decide (a<(c.length:Int)))then
     bif (b.getD a.toNat 0) != (c.getD a.toNat 0)then
      kr false
     else
     Q99.l4 N n b c e (aA (a+1)) d kr
    else none
   else none
  else
  d ()
noncomputable def Q99.f (N:Nat)(a b:List Int):Option (Bool):=
 bif (a.length:Int) != (b.length:Int)then
  some false
 else
 Q99.l4 N N a b (a.length:Int) 0
  (fun(_:Unit)=>
   some true)
  (fun c=>
   some c)
noncomputable def Q99.h4:mE:=⟨[(0,.il .i64 1),(1,.il .i64 1),(12,.any),(13,.any)],[]⟩
noncomputable def Q99.c4 (N:Nat):mM:=⟨fun vs H k=>match vs,H with
 | [.il .i64 1 a,.il .i64 1 b,.c (.int .i64 c),.c (.int .i64 d)],[]=>Q99.l4 N N a b c d (fun(_:Unit)=>k (.exit 0) ⟨iE Q99.h4.out [],[]⟩) (fun e=>k (.ret (.c (.bool e)) []) .nil)
 |_,_=>none⟩
noncomputable def Q99.E (N:Nat):gD:=uF [(2,yX),(37,bq)] [] [(4,Q99.h4)] [(4,Q99.c4 N)] N [.tmp 4] [.any] 0 26
noncomputable def Q99.b4:Code:=cB ((jA (bo Try.f20)).getD 0 .skip)
theorem Q99.l4_eq {R:Type}(N n:Nat)(a b:List Int)(c d:Int)(k:Ex→St→Option R):
  xB 0 Q99.h4 (fun s k=>kB (Q99.E N) 394 Q99.b4 s k) n [.il .i64 1 a,.il .i64 1 b,.c (.int .i64 c),.c (.int .i64 d)] [] k=Q99.l4 N n a b c d (fun(_:Unit)=>k (.exit 0) ⟨iE Q99.h4.out [],[]⟩) (fun e=>k (.ret (.c (.bool e)) []) .nil):=by
 induction n generalizing a b c d with
 |zero=>kernel_rfl
 |succ n ih=>
  simp only[Q99.l4,←ih]
  kernel_rfl
noncomputable def Q99.dec (v:V)(bs:List nA):Option (Bool):=match v,bs with
 | .c (.bool a),[]=>some a
 |_,_=>none
theorem Q99.f_eq (N:Nat)(a b:List Int):
  gB (Q99.E N) (bo Try.f20) [.il .i64 1 a,.il .i64 1 b] [] Q99.dec=Q99.f N a b:=by kernel_rfl
noncomputable def Q99.ent (N:Nat):wA:=sG (Bool) 0 [true,true] [.il .i64 1,.il .i64 1] fun
 | [.il .i64 1 a,.il .i64 1 b]=>some (Q99.f N a b,fun r=>.one (.c (.bool r)) [])
 |_=>none
theorem Q99.env (N:Nat):eB Try.prog (Q99.E N):=⟨(.cons kE (.cons aK .nil)),.nil⟩
theorem Q99.k4 (N:Nat):qC Try.prog Try.f20 (Q99.E N) (.loop Q99.b4):=dE (Q99.env N) gA 394 (c:=Q99.c4 N) eA.n fun R vs H k r h=>by unfold Q99.c4 at h;dsimp only at h;split at h;exact⟨_,Q99.l4_eq .. ▸h⟩;cases h
theorem Q99.spec (N:Nat)(a c:List Int)(r:Bool)(h:Q99.f N a c=some r):kA Try.prog 20 [.il .i64 1 a,.il .i64 1 c] [] (.c (.bool r)) ([]):=vA (Q99.env N) gA Try.func20 (eA.of (l:=[(.loop (cB ((jA (bo Try.f20)).getD 0 .skip)))]) (by kernel_rfl) (eA.cons (Q99.k4 N) eA.nil)) ((Q99.f_eq ..).trans h) fun v b e=>by unfold Q99.dec at e;split at e<;>cases e;exact⟨rfl,rfl⟩
theorem Q99.ent_ok (N:Nat):uA Try.prog 20 (Q99.ent N):=bB fun v a e h=>by split at h;exact wC (Q:=fun e=>kA _ _ _ _ (e a).pick.1 (e a).pick.2) h fun k=>Q99.spec N _ _ a k;cases h
noncomputable def Q100.f (N:Nat):Option (Bool):=
 (Q93.f N (-20)).bind fun a=>
 (Q86.f N 2 2 3).bind fun b=>
 (Q87.f N (-96)).bind fun c=>
 bif a.2==0 then
  bif b.2==0 then
   bif c.2==0 then
    bif (a.1.length:Int)==2 then
     bif decide (0<(a.1.length:Int))then
      bif (((a.1.getD 0 []).length)/3:Int)==1 then
       bif decide (0<(a.1.length:Int))then
        bif decide (0<(((a.1.getD 0 []).length)/3:Int))then
         bif (((a.1.getD 0 []).getD 0 0)==1)&&((((a.1.getD 0 []).getD 1 0)==0)&&(((a.1.getD 0 []).getD 2 0)==5))then
          (Q98.f N b.1 [(-1),(-1)]).bind fun d=>
          bif d then
           (Q99.f N c.1 [3,(-4),8]).bind fun e=>
           some e
          else
          some false
         else
         some false
        else none
       else none
      else
      some false
     else none
    else
    some false
   else
   some false
  else
  some false
 else
 some false
noncomputable def Q100.E (N:Nat):gD:=uF [(2,yX),(3,Ah),(23,kP),(24,uh),(37,bq),(40,Dv),(43,Bz)] [(16,Q93.ent N),(8,Q86.ent N),(15,Q87.ent N),(14,Q98.ent N),(20,Q99.ent N)] [] [] N [.tmp 0] [.any] 0 61
noncomputable def Q100.dec (v:V)(bs:List nA):Option (Bool):=match v,bs with
 | .c (.bool a),[]=>some a
 |_,_=>none
theorem Q100.f_eq (N:Nat):
  gB (Q100.E N) (bo Try.f12) [] [] Q100.dec=Q100.f N:=by kernel_rfl
noncomputable def Q100.ent (N:Nat):wA:=sG (Bool) 0 [] [] fun
 | []=>some (Q100.f N,fun r=>.one (.c (.bool r)) [])
 |_=>none
theorem Q100.env (N:Nat):eB Try.prog (Q100.E N):=⟨(.cons kE (.cons kK (.cons bF (.cons bR (.cons aK (.cons qh (.cons br .nil))))))),(.cons (Q93.ent_ok N) (.cons (Q86.ent_ok N) (.cons (Q87.ent_ok N) (.cons (Q98.ent_ok N) (.cons (Q99.ent_ok N) .nil)))))⟩
theorem Q100.spec (N:Nat)(r:Bool)(h:Q100.f N=some r):kA Try.prog 12 [] [] (.c (.bool r)) ([]):=vA (Q100.env N) gA Try.func12 eA.n ((Q100.f_eq ..).trans h) fun v b e=>by unfold Q100.dec at e;split at e<;>cases e;exact⟨rfl,rfl⟩
theorem Q100.ent_ok (N:Nat):uA Try.prog 12 (Q100.ent N):=bB fun v a e h=>by split at h;exact wC (Q:=fun e=>kA _ _ _ _ (e a).pick.1 (e a).pick.2) h fun k=>Q100.spec N a k;cases h
noncomputable def Q103.l13 {R:Type}(N:Nat):Nat→List Int→Int→List Int→Int→Int→Int→(Int→Int→Option R)→(Bool→Option R)→Option R
 |0,_,_,_,_,_,_,_,_=>none
 |n+1,f,c,b,d,e,a,g,kr=>
  bif decide (a<e)then
   bif (decide (0≤a))&&(decide (a<(b.length:Int)))then
    bif (b.getD a.toNat 0) != 1 then
     kr false
    else
    bif (decide (0≤a))&&(decide (a<(f.length:Int)))then
     Q103.l13 N n f c b (aA (d*(f.getD a.toNat 0))) e (aA (a+1)) g kr
    else none
   else none
  else
  g c d
noncomputable def Q103.l22 {R:Type}(N:Nat):Nat→Int→Int→Int→(Int→Option R)→(Bool→Option R)→Option R
 |0,_,_,_,_,_=>none
 |n+1,b,c,a,d,kr=>
  bif decide ((aA (a*a))≤(aA (0-b)))then
   bif !((aA (a*a))==0)then
    bif (Int.tmod b (aA (a*a)))==0 then
     kr true
    else
    Q103.l22 N n b c (aA (a+1)) d kr
   else none
  else
  d c
noncomputable def Q103.f (N:Nat)(i j k:Int):Option (Bool):=
 (Q100.f N).bind fun m=>
 bif !m then
  some false
 else
 (Q86.f N i j k).bind fun b=>
 bif b.2 != 0 then
  some ((b.1.length:Int)==0)
 else
 (Q37.f N i j k).bind fun l=>
 (Q58.f N l).bind fun c=>
 (Q86.f N c.1 c.2.1 c.2.2.1).bind fun d=>
 bif c.2.2.2 != 0 then
  some false
 else
 bif d.2 != 0 then
  some false
 else
 bif (d.1.length:Int) != (b.1.length:Int)then
  some false
 else
 Q103.l13 N N b.1 l d.1 1 (d.1.length:Int) 0
  (fun a e=>
   bif (Int.tmod a 2)==0 then
    some true
   else
   Q103.l22 N N a e 2
    (fun f=>
     some (f==1))
    (fun g=>
     some g))
  (fun h=>
   some h)
noncomputable def Q103.h13:mE:=⟨[(3,.il .i64 1),(5,.any),(7,.il .i64 1),(9,.any),(50,.any),(51,.any)],[(5,.any),(9,.any)]⟩
noncomputable def Q103.h22:mE:=⟨[(5,.any),(9,.any),(11,.any)],[(9,.any)]⟩
noncomputable def Q103.c13 (N:Nat):mM:=⟨fun vs H k=>match vs,H with
 | [.il .i64 1 i,.c (.int .i64 a),.il .i64 1 b,.c (.int .i64 c),.c (.int .i64 d),.c (.int .i64 e)],[]=>Q103.l13 N N i a b c d e (fun g h=>k (.exit 0) ⟨iE Q103.h13.out [.c (.int .i64 g),.c (.int .i64 h)],[]⟩) (fun f=>k (.ret (.c (.bool f)) []) .nil)
 |_,_=>none⟩
noncomputable def Q103.c22 (N:Nat):mM:=⟨fun vs H k=>match vs,H with
 | [.c (.int .i64 a),.c (.int .i64 b),.c (.int .i64 c)],[]=>Q103.l22 N N a b c (fun e=>k (.exit 2) ⟨iE Q103.h22.out [.c (.int .i64 e)],[]⟩) (fun d=>k (.ret (.c (.bool d)) []) .nil)
 |_,_=>none⟩
noncomputable def Q103.E (N:Nat):gD:=uF [(3,Ah),(23,kP),(24,uh)] [(12,Q100.ent N),(8,Q86.ent N),(24,Q37.ent N),(25,Q58.ent N)] [(13,Q103.h13),(22,Q103.h22)] [(13,Q103.c13 N),(22,Q103.c22 N)] N [.tmp 2] [.any] 0 85
noncomputable def Q103.b13:Code:=cB ((jA (bo Try.f5)).getD 0 .skip)
theorem Q103.l13_eq {R:Type}(N n:Nat)(i:List Int)(a:Int)(b:List Int)(c d e:Int)(k:Ex→St→Option R):
  xB 0 Q103.h13 (fun s k=>kB (Q103.E N) 387 Q103.b13 s k) n [.il .i64 1 i,.c (.int .i64 a),.il .i64 1 b,.c (.int .i64 c),.c (.int .i64 d),.c (.int .i64 e)] [] k=Q103.l13 N n i a b c d e (fun g h=>k (.exit 0) ⟨iE Q103.h13.out [.c (.int .i64 g),.c (.int .i64 h)],[]⟩) (fun f=>k (.ret (.c (.bool f)) []) .nil):=by
 induction n generalizing i a b c d e with
 |zero=>kernel_rfl
 |succ n ih=>
  simp only[Q103.l13,←ih]
  kernel_rfl
noncomputable def Q103.b22:Code:=cB ((jA (bo Try.f5)).getD 1 .skip)
theorem Q103.l22_eq {R:Type}(N n:Nat)(a b c:Int)(k:Ex→St→Option R):
  xB 0 Q103.h22 (fun s k=>kB (Q103.E N) 385 Q103.b22 s k) n [.c (.int .i64 a),.c (.int .i64 b),.c (.int .i64 c)] [] k=Q103.l22 N n a b c (fun e=>k (.exit 2) ⟨iE Q103.h22.out [.c (.int .i64 e)],[]⟩) (fun d=>k (.ret (.c (.bool d)) []) .nil):=by
 induction n generalizing a b c with
 |zero=>kernel_rfl
 |succ n ih=>
  simp only[Q103.l22,←ih]
  kernel_rfl
noncomputable def Q103.dec (v:V)(bs:List nA):Option (Bool):=match v,bs with
 | .c (.bool a),[]=>some a
 |_,_=>none
theorem Q103.f_eq (N:Nat)(a b c:Int):
  gB (Q103.E N) (bo Try.f5) [.agg [.c (.int .i64 a),.c (.int .i64 b),.c (.int .i64 c)]] [] Q103.dec=Q103.f N a b c:=by kernel_rfl
theorem Q103.env (N:Nat):eB Try.prog (Q103.E N):=⟨(.cons kK (.cons bF (.cons bR .nil))),(.cons (Q100.ent_ok N) (.cons (Q86.ent_ok N) (.cons (Q37.ent_ok N) (.cons (Q58.ent_ok N) .nil))))⟩
theorem Q103.k22 (N:Nat):qC Try.prog Try.f5 (Q103.E N) (.loop Q103.b22):=dE (Q103.env N) gA 385 (c:=Q103.c22 N) eA.n fun R vs H k r h=>by unfold Q103.c22 at h;dsimp only at h;split at h;exact⟨_,Q103.l22_eq .. ▸h⟩;cases h
theorem Q103.k13 (N:Nat):qC Try.prog Try.f5 (Q103.E N) (.loop Q103.b13):=dE (Q103.env N) gA 387 (c:=Q103.c13 N) eA.n fun R vs H k r h=>by unfold Q103.c13 at h;dsimp only at h;split at h;exact⟨_,Q103.l13_eq .. ▸h⟩;cases h
theorem Q103.spec (N:Nat)(a c d:Int)(r:Bool)(h:Q103.f N a c d=some r):kA Try.prog 5 [.agg [.c (.int .i64 a),.c (.int .i64 c),.c (.int .i64 d)]] [] (.c (.bool r)) ([]):=vA (Q103.env N) gA Try.func5 (eA.of (l:=[(.loop (cB ((jA (bo Try.f5)).getD 0 .skip))),(.loop (cB ((jA (bo Try.f5)).getD 1 .skip)))]) (by kernel_rfl) (eA.cons (Q103.k13 N) (eA.cons (Q103.k22 N) eA.nil))) ((Q103.f_eq ..).trans h) fun v b e=>by unfold Q103.dec at e;split at e<;>cases e;exact⟨rfl,rfl⟩
noncomputable def Q105.f (N:Nat)(c d e:Int):Option (Nat×Nat×List Int×Int):=
 (Q38.f N c d e).bind fun f=>
 bif f != 0 then
  some (0,0,[],f)
 else
 (Q37.f N c d e).bind fun g=>
 bif decide (g<(-65536))then
  some (0,0,[],80)
 else
 (Q41.f N c d e).bind fun h=>
 bif h != 1 then
  some (0,0,[],81)
 else
 (Q37.f N c d e).bind fun i=>
 (Q83.f N i).bind fun b=>
 (Q85.f N c d e b).bind fun a=>
 bif ((decide (0≤(b.length:Int)))&&(decide ((b.length:Int)≤(b.length:Int))))&&(decide ((b.length:Int)≤8))then
  some (0,(b.length:Int).toNat,[a.1,a.2.1,a.2.2.1,a.2.2.2.1,a.2.2.2.2.1,a.2.2.2.2.2.1,a.2.2.2.2.2.2.1,a.2.2.2.2.2.2.2],0)
 else none
end Go.Proofs.Yteaakcmkpacpaaa
