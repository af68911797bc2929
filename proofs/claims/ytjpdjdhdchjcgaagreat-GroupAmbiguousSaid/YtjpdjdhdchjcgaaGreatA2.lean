import Derived.Test.YtjpdjdhdchjcgaaGreatA1
import Derived.Test.YtjpdjdhdchjcgaaGreatProg
import Derived.KernelRfl
set_option linter.unusedVariables false
set_option linter.unusedSimpArgs false
namespace Go.Proofs.YtjpdjdhdchjcgaaGreat
open Go.Proofs.YtjpdjdhdchjcgaaGreat.Ev
open Go
set_option maxRecDepth 100000
def kI:ByteArray:=⟨#[0,1,2,2,3,3,3,3,4,4,4,4,4,4,4,4,5,5,5,5,5,5,5,5,5,5,5,5,5,5,5,5,6,6,6,6,6,6,6,6,6,6,6,6,6,6,6,6,6,6,6,6,6,6,6,6,6,6,6,6,6,6,6,6,7,7,7,7,7,7,7,7,7,7,7,7,7,7,7,7,7,7,7,7,7,7,7,7,7,7,7,7,7,7,7,7,7,7,7,7,7,7,7,7,7,7,7,7,7,7,7,7,7,7,7,7,7,7,7,7,7,7,7,7,7,7,7,7,8,8,8,8,8,8,8,8,8,8,8,8,8,8,8,8,8,8,8,8,8,8,8,8,8,8,8,8,8,8,8,8,8,8,8,8,8,8,8,8,8,8,8,8,8,8,8,8,8,8,8,8,8,8,8,8,8,8,8,8,8,8,8,8,8,8,8,8,8,8,8,8,8,8,8,8,8,8,8,8,8,8,8,8,8,8,8,8,8,8,8,8,8,8,8,8,8,8,8,8,8,8,8,8,8,8,8,8,8,8,8,8,8,8,8,8,8,8,8,8,8,8,8,8,8,8,8,8]⟩
noncomputable def F1:TI:=⟨.int .i64,1,8,[.int .i64 0]⟩
noncomputable def Jr:TI:=⟨.int .u8,1,1,[.int .u8 0]⟩
noncomputable def Js:TI:=⟨.str,1,16,[.string ByteArray.empty]⟩
noncomputable def aL:TI:=⟨.int .u64,1,8,[.int .u64 0]⟩
noncomputable def kO:TI:=⟨.slice 143,1,24,[.slice none 0 0]⟩
noncomputable def lF:TI:=⟨.struct [(98,0)],1,24,[.slice none 0 0]⟩
noncomputable def pF:TI:=⟨.int .u32,1,4,[.int .u32 0]⟩
theorem bA:Tryz.prog.follows .mixedOrders=true:=by kernel_rfl
theorem jO:zC Tryz.prog 3 F1:=gD (by kernel_rfl) (by kernel_rfl) (by kernel_rfl) (by kernel_rfl) (by kernel_rfl) (by kernel_rfl) (by kernel_rfl) (Tryz.underlying3) (by kernel_rfl)
theorem Es:zC Tryz.prog 5 Jr:=gD (by kernel_rfl) (by kernel_rfl) (by kernel_rfl) (by kernel_rfl) (by kernel_rfl) (by kernel_rfl) (by kernel_rfl) (Tryz.underlying5) (by kernel_rfl)
theorem Ew:zC Tryz.prog 9 Js:=gD (by kernel_rfl) (by kernel_rfl) (by kernel_rfl) (by kernel_rfl) (by kernel_rfl) (by kernel_rfl) (by kernel_rfl) (Tryz.underlying9) (by kernel_rfl)
theorem zD:zC Tryz.prog 78 aL:=gD (by kernel_rfl) (by kernel_rfl) (by kernel_rfl) (by kernel_rfl) (by kernel_rfl) (by kernel_rfl) (by kernel_rfl) (Tryz.underlying78) (by kernel_rfl)
theorem vE:zC Tryz.prog 98 kO:=gD (by kernel_rfl) (by kernel_rfl) (by kernel_rfl) (by kernel_rfl) (by kernel_rfl) (by kernel_rfl) (by kernel_rfl) (Tryz.underlying98) (by kernel_rfl)
theorem oC:zC Tryz.prog 110 lF:=gD (by kernel_rfl) (by kernel_rfl) (by kernel_rfl) (by kernel_rfl) (by kernel_rfl) (by kernel_rfl) (by kernel_rfl) (qH Tryz.underlying110 (by kernel_rfl) (by kernel_rfl)) (by kernel_rfl)
theorem tC:zC Tryz.prog 143 pF:=gD (by kernel_rfl) (by kernel_rfl) (by kernel_rfl) (by kernel_rfl) (by kernel_rfl) (by kernel_rfl) (by kernel_rfl) (Tryz.underlying143) (by kernel_rfl)
noncomputable def Q0.f (N:Nat)(a:Int):Option (Int):=
 bif decide (a≥65536)then
  bif decide ((Int.fdiv a (2^16))≥256)then
   bif (decide (0≤(cN (Int.fdiv (Int.fdiv a (2^16)) (2^8)))))&&(decide ((cN (Int.fdiv (Int.fdiv a (2^16)) (2^8)))<(kI.size:Int)))then
    some (aA (24+(aA (iG kI ((cN (Int.fdiv (Int.fdiv a (2^16)) (2^8))).toNat)))))
   else none
  else
  bif (decide (0≤(cN (Int.fdiv a (2^16)))))&&(decide ((cN (Int.fdiv a (2^16)))<(kI.size:Int)))then
   some (aA (16+(aA (iG kI ((cN (Int.fdiv a (2^16))).toNat)))))
  else none
 else
 bif decide (a≥256)then
  bif (decide (0≤(cN (Int.fdiv a (2^8)))))&&(decide ((cN (Int.fdiv a (2^8)))<(kI.size:Int)))then
   some (aA (8+(aA (iG kI ((cN (Int.fdiv a (2^8))).toNat)))))
  else none
 else
 bif (decide (0≤(cN a)))&&(decide ((cN a)<(kI.size:Int)))then
  some (aA (0+(aA (iG kI ((cN a).toNat)))))
 else none
noncomputable def Q0.E (N:Nat):jC:=iD [(3,F1),(5,Jr),(9,Js),(143,pF)] [] [] [] N [.tmp 2] [.any] 0 19
noncomputable def Q0.dec (v:V)(bs:List rA):Option (Int):=match v,bs with
 | .c (.int .i64 a),[]=>some a
 |_,_=>none
theorem Q0.f_eq (N:Nat)(a:Int):
  aB (Q0.E N) (bo Tryz.f115) [.c (.int .u32 a)] [] Q0.dec=Q0.f N a:=by kernel_rfl
noncomputable def Q0.ent (N:Nat):uA:=tD (Int) 0 [true] [.any] fun
 | [.c (.int .u32 a)]=>some (Q0.f N a,fun r=>.one (.c (.int .i64 r)) [])
 |_=>none
theorem Q0.env (N:Nat):yA Tryz.prog (Q0.E N):=⟨(.cons jO (.cons Es (.cons Ew (.cons tC .nil)))),.nil⟩
theorem Q0.spec (N:Nat)(a r:Int)(h:Q0.f N a=some r):eA Tryz.prog 115 [.c (.int .u32 a)] [] (.c (.int .i64 r)) ([]):=pA (Q0.env N) bA Tryz.func115 cA.n ((Q0.f_eq ..).trans h) fun v b e=>by unfold Q0.dec at e;split at e<;>cases e;exact⟨rfl,rfl⟩
theorem Q0.ent_ok (N:Nat):oA Tryz.prog 115 (Q0.ent N):=sA fun v a e h=>by split at h;exact nB (Q:=fun e=>eA _ _ _ _ (e a).pick.1 (e a).pick.2) h fun k=>Q0.spec N _ a k;cases h
noncomputable def Q1.f (N:Nat)(a b c:Int):Option (Int×Int):=
 some (rB ((rB (a-b))-c),Int.fdiv (fE .u32 (mC .u32 (nW .u32 4294967295 a) b) (mC .u32 (nW .u32 4294967295 (nW .u32 a b)) (rB ((rB (a-b))-c)))) (2^31))
noncomputable def Q1.E (N:Nat):jC:=iD [] [] [] [] N [.tmp 6,.tmp 7] [.any,.any] 0 25
noncomputable def Q1.dec (v:V)(bs:List rA):Option (Int×Int):=match v,bs with
 | .tup [.c (.int .u32 a),.c (.int .u32 b)],[]=>some (a,b)
 |_,_=>none
theorem Q1.f_eq (N:Nat)(a b c:Int):
  aB (Q1.E N) (bo Tryz.f172) [.c (.int .u32 a),.c (.int .u32 b),.c (.int .u32 c)] [] Q1.dec=Q1.f N a b c:=by kernel_rfl
noncomputable def Q1.ent (N:Nat):uA:=tD (Int×Int) 0 [true,true,true] [.any,.any,.any] fun
 | [.c (.int .u32 a),.c (.int .u32 b),.c (.int .u32 c)]=>some (Q1.f N a b c,fun r=>.one (.tup [.c (.int .u32 r.1),.c (.int .u32 r.2)]) [])
 |_=>none
theorem Q1.env (N:Nat):yA Tryz.prog (Q1.E N):=⟨.nil,.nil⟩
theorem Q1.spec (N:Nat)(a c d:Int)(r:Int×Int)(h:Q1.f N a c d=some r):eA Tryz.prog 172 [.c (.int .u32 a),.c (.int .u32 c),.c (.int .u32 d)] [] (.tup [.c (.int .u32 r.1),.c (.int .u32 r.2)]) ([]):=pA (Q1.env N) bA Tryz.func172 cA.n ((Q1.f_eq ..).trans h) fun v b e=>by unfold Q1.dec at e;split at e<;>cases e;exact⟨rfl,rfl⟩
theorem Q1.ent_ok (N:Nat):oA Tryz.prog 172 (Q1.ent N):=sA fun v a e h=>by split at h;exact nB (Q:=fun e=>eA _ _ _ _ (e a).pick.1 (e a).pick.2) h fun k=>Q1.spec N _ _ _ a k;cases h
noncomputable def Q2.l2 {R:Type}(N:Nat):Nat→Nat→Nat→Int→List Int→(Nat→Nat→Int→List Int→Option R)→Option R
 |0,_,_,_,_,_=>none
 |n+1,b,c,a,d,e=>
  bif decide (a>0)then
   bif (decide (0≤(aA (a-1))))&&(decide ((aA (a-1))<(c:Int)))then
    bif (d.getD (b+((aA (a-1)).toNat)) 0)==0 then
     Q2.l2 N n b c (aA (a-1)) d e
    else
    e b c a d
   else none
  else
  e b c a d
noncomputable def Q2.f (N f e:Nat)(g:List Int):Option (Nat×Nat×List Int):=
 Q2.l2 N N f e (e:Int) g
  (fun b c a d=>
   bif ((decide (0≤a))&&(decide (a≤a)))&&(decide (a≤(c:Int)))then
    some (b,a.toNat,d)
   else none)
noncomputable def Q2.h2:cC:=⟨[(0,.any),(2,.box [.any]),(3,.any)],[(0,.any),(2,.box [.any]),(3,.any)]⟩
noncomputable def Q2.c2 (N:Nat):nF:=⟨fun vs H k=>match vs,H with
 | [.sl 0 1 c d,.ptr 1 0 1,.c (.int .i64 e)],[.ints .u32 f,.vals [.c (.slice none 0 0)]]=>Q2.l2 N N c d e f (fun g h a b=>k (.exit 0) ⟨fC Q2.h2.out [.sl 0 1 g h,.ptr 1 0 1,.c (.int .i64 a)],[.ints .u32 b,.vals [.c (.slice none 0 0)]]⟩)
 |_,_=>none⟩
noncomputable def Q2.E (N:Nat):jC:=iD [(98,kO),(110,lF),(143,pF)] [] [(2,Q2.h2)] [(2,Q2.c2 N)] N [.cell 2 110] [.recd [.any]] 1 23
noncomputable def Q2.b2:Code:=nA ((dA (bo Tryz.f152)).getD 0 .skip)
theorem Q2.l2_eq {R:Type}(N n c d:Nat)(e:Int)(f:List Int)(k:Ex→St→Option R):
  dB 1 Q2.h2 (fun s k=>bB (Q2.E N) 395 Q2.b2 s k) n [.sl 0 1 c d,.ptr 1 0 1,.c (.int .i64 e)] [.ints .u32 f,.vals [.c (.slice none 0 0)]] k=Q2.l2 N n c d e f (fun g h a b=>k (.exit 0) ⟨fC Q2.h2.out [.sl 0 1 g h,.ptr 1 0 1,.c (.int .i64 a)],[.ints .u32 b,.vals [.c (.slice none 0 0)]]⟩):=by
 induction n generalizing c d e f with
 |zero=>kernel_rfl
 |succ n ih=>
  simp only[Q2.l2,←ih]
  kernel_rfl
noncomputable def Q2.dec (v:V)(bs:List rA):Option (Nat×Nat×List Int):=match v,bs with
 | .agg [.sl 0 1 a b],[.ints .u32 c]=>some (a,b,c)
 |_,_=>none
theorem Q2.f_eq (N a b:Nat)(c:List Int):
  aB (Q2.E N) (bo Tryz.f152) [.sl 0 1 a b] [.ints .u32 c] Q2.dec=Q2.f N a b c:=by kernel_rfl
noncomputable def Q2.ent (N:Nat):uA:={A:=Nat×Nat×List Int,fresh:=0,imm:=[false],dec:=fun args bs=>match fG (qA bs) [true] args,bs with
 | [.sl 0 1 a b],[.ints .u32 c]=>some (Q2.f N a b c,fun r=>.one (.agg [.sl 0 1 r.1 r.2.1]) [.ints .u32 r.2.2])
 |_,_=>none}
theorem Q2.env (N:Nat):yA Tryz.prog (Q2.E N):=⟨(.cons vE (.cons oC (.cons tC .nil))),.nil⟩
theorem Q2.k2 (N:Nat):gB Tryz.prog Tryz.f152 (Q2.E N) (.loop Q2.b2):=dC (Q2.env N) bA 395 (c:=Q2.c2 N) cA.n fun R vs H k r h=>by unfold Q2.c2 at h;dsimp only at h;split at h;exact⟨_,Q2.l2_eq .. ▸h⟩;cases h
theorem Q2.spec (N a c:Nat)(d:List Int)(r:Nat×Nat×List Int)(h:Q2.f N a c d=some r):eA Tryz.prog 152 [.sl 0 1 a c] [.ints .u32 d] (.agg [.sl 0 1 r.1 r.2.1]) ([.ints .u32 r.2.2]):=pA (Q2.env N) bA Tryz.func152 (cA.of (l:=[(.loop (nA ((dA (bo Tryz.f152)).getD 0 .skip)))]) (by kernel_rfl) (cA.cons (Q2.k2 N) cA.nil)) ((Q2.f_eq ..).trans h) fun v b e=>by unfold Q2.dec at e;split at e<;>cases e;exact⟨rfl,rfl⟩
theorem Q2.ent_ok (N:Nat):oA Tryz.prog 152 (Q2.ent N):=by
 intro args bs a enc h;simp only[Q2.ent]at h;split at h
 ·rename_i hz;have h0:=Option.some.inj h;have h1:=congrArg Prod.fst h0;have h2:=congrArg Prod.snd h0;dsimp only at h1 h2;subst h2;exact eA.of_asSl (fl:=[true]) (by rw[hz];exact Q2.spec N _ _ _ a h1)
 ·cases h
noncomputable def Q3.f (N:Nat)(a:List Int):Option (Int):=
 bif (a.length:Int)==0 then
  some 0
 else
 bif (decide (0≤(aA ((a.length:Int)-1))))&&(decide ((aA ((a.length:Int)-1))<(a.length:Int)))then
  (Q0.f N (a.getD ((aA ((a.length:Int)-1)).toNat) 0)).bind fun b=>
  some (aA ((aA (32*(aA ((a.length:Int)-1))))+b))
 else none
noncomputable def Q3.E (N:Nat):jC:=iD [(98,kO),(110,lF),(143,pF)] [(115,Q0.ent N)] [] [] N [.tmp 2] [.any] 0 22
noncomputable def Q3.dec (v:V)(bs:List rA):Option (Int):=match v,bs with
 | .c (.int .i64 a),[]=>some a
 |_,_=>none
theorem Q3.f_eq (N:Nat)(a:List Int):
  aB (Q3.E N) (bo Tryz.f123) [.agg [.il .u32 1 a]] [] Q3.dec=Q3.f N a:=by kernel_rfl
noncomputable def Q3.ent (N:Nat):uA:=tD (Int) 0 [true] [.recd [.il .u32 1]] fun
 | [.agg [.il .u32 1 a]]=>some (Q3.f N a,fun r=>.one (.c (.int .i64 r)) [])
 |_=>none
theorem Q3.env (N:Nat):yA Tryz.prog (Q3.E N):=⟨(.cons vE (.cons oC (.cons tC .nil))),(.cons (Q0.ent_ok N) .nil)⟩
theorem Q3.spec (N:Nat)(a:List Int)(r:Int)(h:Q3.f N a=some r):eA Tryz.prog 123 [.agg [.il .u32 1 a]] [] (.c (.int .i64 r)) ([]):=pA (Q3.env N) bA Tryz.func123 cA.n ((Q3.f_eq ..).trans h) fun v b e=>by unfold Q3.dec at e;split at e<;>cases e;exact⟨rfl,rfl⟩
theorem Q3.ent_ok (N:Nat):oA Tryz.prog 123 (Q3.ent N):=sA fun v a e h=>by split at h;exact nB (Q:=fun e=>eA _ _ _ _ (e a).pick.1 (e a).pick.2) h fun k=>Q3.spec N _ a k;cases h
noncomputable def Q4.f (N:Nat)(a:List Int):Option (List Int×Int):=
 (Q3.f N a).bind fun b=>
 bif decide (b>4096)then
  some ([],3)
 else
 some (a,0)
noncomputable def Q4.E (N:Nat):jC:=iD [(98,kO),(110,lF)] [(123,Q3.ent N)] [] [] N [.cell 2 110,.tmp 3] [.recd [.il .u32 1],.any] 0 9
noncomputable def Q4.dec (v:V)(bs:List rA):Option (List Int×Int):=match v,bs with
 | .tup [.agg [.il .u32 1 a],.c (.int .i64 b)],[]=>some (a,b)
 |_,_=>none
theorem Q4.f_eq (N:Nat)(a:List Int):
  aB (Q4.E N) (bo Tryz.f170) [.agg [.il .u32 1 a]] [] Q4.dec=Q4.f N a:=by kernel_rfl
noncomputable def Q4.ent (N:Nat):uA:=tD (List Int×Int) 0 [true] [.recd [.il .u32 1]] fun
 | [.agg [.il .u32 1 a]]=>some (Q4.f N a,fun r=>.one (.tup [.agg [.il .u32 1 r.1],.c (.int .i64 r.2)]) [])
 |_=>none
theorem Q4.env (N:Nat):yA Tryz.prog (Q4.E N):=⟨(.cons vE (.cons oC .nil)),(.cons (Q3.ent_ok N) .nil)⟩
theorem Q4.spec (N:Nat)(a:List Int)(r:List Int×Int)(h:Q4.f N a=some r):eA Tryz.prog 170 [.agg [.il .u32 1 a]] [] (.tup [.agg [.il .u32 1 r.1],.c (.int .i64 r.2)]) ([]):=pA (Q4.env N) bA Tryz.func170 cA.n ((Q4.f_eq ..).trans h) fun v b e=>by unfold Q4.dec at e;split at e<;>cases e;exact⟨rfl,rfl⟩
theorem Q4.ent_ok (N:Nat):oA Tryz.prog 170 (Q4.ent N):=sA fun v a e h=>by split at h;exact nB (Q:=fun e=>eA _ _ _ _ (e a).pick.1 (e a).pick.2) h fun k=>Q4.spec N _ a k;cases h
noncomputable def Q5.f (N:Nat)(b:Int):Option (List Int):=
 (Q2.f N 0 2 [rB b,rB (Int.fdiv b (2^32))]).bind fun a=>
 some ((a.2.2.drop a.1).take a.2.1)
noncomputable def Q5.E (N:Nat):jC:=iD [(78,aL),(98,kO),(110,lF),(143,pF)] [(152,Q2.ent N)] [] [] N [.cell 2 110] [.recd [.il .u32 1]] 0 10
noncomputable def Q5.dec (v:V)(bs:List rA):Option (List Int):=match v,bs with
 | .agg [.il .u32 1 a],[]=>some a
 |_,_=>none
theorem Q5.f_eq (N:Nat)(a:Int):
  aB (Q5.E N) (bo Tryz.f122) [.c (.int .u64 a)] [] Q5.dec=Q5.f N a:=by kernel_rfl
noncomputable def Q5.ent (N:Nat):uA:=tD (List Int) 0 [true] [.any] fun
 | [.c (.int .u64 a)]=>some (Q5.f N a,fun r=>.one (.agg [.il .u32 1 r]) [])
 |_=>none
theorem Q5.env (N:Nat):yA Tryz.prog (Q5.E N):=⟨(.cons zD (.cons vE (.cons oC (.cons tC .nil)))),(.cons (Q2.ent_ok N) .nil)⟩
theorem Q5.spec (N:Nat)(a:Int)(r:List Int)(h:Q5.f N a=some r):eA Tryz.prog 122 [.c (.int .u64 a)] [] (.agg [.il .u32 1 r]) ([]):=pA (Q5.env N) bA Tryz.func122 cA.n ((Q5.f_eq ..).trans h) fun v b e=>by unfold Q5.dec at e;split at e<;>cases e;exact⟨rfl,rfl⟩
theorem Q5.ent_ok (N:Nat):oA Tryz.prog 122 (Q5.ent N):=sA fun v a e h=>by split at h;exact nB (Q:=fun e=>eA _ _ _ _ (e a).pick.1 (e a).pick.2) h fun k=>Q5.spec N _ a k;cases h
noncomputable def Q6.f (N:Nat)(a:List Int):Option (Int×Bool):=
 bif (a.length:Int)==0 then
  some (0,true)
 else
 bif (a.length:Int)==1 then
  bif decide (0<(a.length:Int))then
   some (jA (a.getD 0 0),true)
  else none
 else
 bif (a.length:Int)==2 then
  bif decide (1<(a.length:Int))then
   bif decide (0<(a.length:Int))then
    some (fE .u64 (jA ((jA (a.getD 1 0))*2^32)) (jA (a.getD 0 0)),true)
   else none
  else none
 else
 some (0,false)
noncomputable def Q6.E (N:Nat):jC:=iD [(78,aL),(98,kO),(110,lF),(143,pF)] [] [] [] N [.tmp 2,.tmp 3] [.any,.any] 0 30
noncomputable def Q6.dec (v:V)(bs:List rA):Option (Int×Bool):=match v,bs with
 | .tup [.c (.int .u64 a),.c (.bool b)],[]=>some (a,b)
 |_,_=>none
theorem Q6.f_eq (N:Nat)(a:List Int):
  aB (Q6.E N) (bo Tryz.f124) [.agg [.il .u32 1 a]] [] Q6.dec=Q6.f N a:=by kernel_rfl
noncomputable def Q6.ent (N:Nat):uA:=tD (Int×Bool) 0 [true] [.recd [.il .u32 1]] fun
 | [.agg [.il .u32 1 a]]=>some (Q6.f N a,fun r=>.one (.tup [.c (.int .u64 r.1),.c (.bool r.2)]) [])
 |_=>none
theorem Q6.env (N:Nat):yA Tryz.prog (Q6.E N):=⟨(.cons zD (.cons vE (.cons oC (.cons tC .nil)))),.nil⟩
theorem Q6.spec (N:Nat)(a:List Int)(r:Int×Bool)(h:Q6.f N a=some r):eA Tryz.prog 124 [.agg [.il .u32 1 a]] [] (.tup [.c (.int .u64 r.1),.c (.bool r.2)]) ([]):=pA (Q6.env N) bA Tryz.func124 cA.n ((Q6.f_eq ..).trans h) fun v b e=>by unfold Q6.dec at e;split at e<;>cases e;exact⟨rfl,rfl⟩
theorem Q6.ent_ok (N:Nat):oA Tryz.prog 124 (Q6.ent N):=sA fun v a e h=>by split at h;exact nB (Q:=fun e=>eA _ _ _ _ (e a).pick.1 (e a).pick.2) h fun k=>Q6.spec N _ a k;cases h
noncomputable def Q7.l6 {R:Type}(N:Nat):Nat→Int→List Int→List Int→(Unit→Option R)→(Int→Option R)→Option R
 |0,_,_,_,_,_=>none
 |n+1,a,b,c,d,kr=>
  bif decide (a≥0)then
   bif (decide (0≤a))&&(decide (a<(b.length:Int)))then
    bif (decide (0≤a))&&(decide (a<(c.length:Int)))then
     bif decide ((b.getD a.toNat 0)<(c.getD a.toNat 0))then
      kr (-1)
     else
     bif (decide (0≤a))&&(decide (a<(b.length:Int)))then
      bif (decide (0≤a))&&(decide (a<(c.length:Int)))then
       bif decide ((b.getD a.toNat 0)>(c.getD a.toNat 0))then
        kr 1
       else
       Q7.l6 N n (aA (a-1)) b c d kr
      else none
     else none
    else none
   else none
  else
  d ()
noncomputable def Q7.f (N:Nat)(a b:List Int):Option (Int):=
 bif (a.length:Int) != (b.length:Int)then
  bif decide ((a.length:Int)<(b.length:Int))then
   some (-1)
  else
  some 1
 else
 Q7.l6 N N (aA ((a.length:Int)-1)) a b
  (fun(_:Unit)=>
   some 0)
  (fun c=>
   some c)
noncomputable def Q7.h6:cC:=⟨[(2,.box [.il .u32 1]),(3,.box [.il .u32 1]),(5,.any)],[]⟩
noncomputable def Q7.c6 (N:Nat):nF:=⟨fun vs H k=>match vs,H with
 | [.ptr 0 0 1,.ptr 1 0 1,.c (.int .i64 a)],[.vals [.il .u32 1 b],.vals [.il .u32 1 c]]=>Q7.l6 N N a b c (fun(_:Unit)=>k (.exit 0) ⟨fC Q7.h6.out [],[]⟩) (fun d=>k (.ret (.c (.int .i64 d)) []) .nil)
 |_,_=>none⟩
noncomputable def Q7.E (N:Nat):jC:=iD [(98,kO),(110,lF),(143,pF)] [] [(6,Q7.h6)] [(6,Q7.c6 N)] N [.tmp 4] [.any] 0 52
noncomputable def Q7.b6:Code:=nA ((dA (bo Tryz.f157)).getD 0 .skip)
theorem Q7.l6_eq {R:Type}(N n:Nat)(a:Int)(b c:List Int)(k:Ex→St→Option R):
  dB 0 Q7.h6 (fun s k=>bB (Q7.E N) 394 Q7.b6 s k) n [.ptr 0 0 1,.ptr 1 0 1,.c (.int .i64 a)] [.vals [.il .u32 1 b],.vals [.il .u32 1 c]] k=Q7.l6 N n a b c (fun(_:Unit)=>k (.exit 0) ⟨fC Q7.h6.out [],[]⟩) (fun d=>k (.ret (.c (.int .i64 d)) []) .nil):=by
 induction n generalizing a b c with
 |zero=>kernel_rfl
 |succ n ih=>
  simp only[Q7.l6,←ih]
  kernel_rfl
noncomputable def Q7.dec (v:V)(bs:List rA):Option (Int):=match v,bs with
 | .c (.int .i64 a),[]=>some a
 |_,_=>none
theorem Q7.f_eq (N:Nat)(a b:List Int):
  aB (Q7.E N) (bo Tryz.f157) [.agg [.il .u32 1 a],.agg [.il .u32 1 b]] [] Q7.dec=Q7.f N a b:=by kernel_rfl
noncomputable def Q7.ent (N:Nat):uA:=tD (Int) 0 [true,true] [.recd [.il .u32 1],.recd [.il .u32 1]] fun
 | [.agg [.il .u32 1 a],.agg [.il .u32 1 b]]=>some (Q7.f N a b,fun r=>.one (.c (.int .i64 r)) [])
 |_=>none
theorem Q7.env (N:Nat):yA Tryz.prog (Q7.E N):=⟨(.cons vE (.cons oC (.cons tC .nil))),.nil⟩
theorem Q7.k6 (N:Nat):gB Tryz.prog Tryz.f157 (Q7.E N) (.loop Q7.b6):=dC (Q7.env N) bA 394 (c:=Q7.c6 N) cA.n fun R vs H k r h=>by unfold Q7.c6 at h;dsimp only at h;split at h;exact⟨_,Q7.l6_eq .. ▸h⟩;cases h
theorem Q7.spec (N:Nat)(a c:List Int)(r:Int)(h:Q7.f N a c=some r):eA Tryz.prog 157 [.agg [.il .u32 1 a],.agg [.il .u32 1 c]] [] (.c (.int .i64 r)) ([]):=pA (Q7.env N) bA Tryz.func157 (cA.of (l:=[(.loop (nA ((dA (bo Tryz.f157)).getD 0 .skip)))]) (by kernel_rfl) (cA.cons (Q7.k6 N) cA.nil)) ((Q7.f_eq ..).trans h) fun v b e=>by unfold Q7.dec at e;split at e<;>cases e;exact⟨rfl,rfl⟩
theorem Q7.ent_ok (N:Nat):oA Tryz.prog 157 (Q7.ent N):=sA fun v a e h=>by split at h;exact nB (Q:=fun e=>eA _ _ _ _ (e a).pick.1 (e a).pick.2) h fun k=>Q7.spec N _ _ a k;cases h
noncomputable def Q8.l7 {R:Type}(N:Nat):Nat→Int→Int→Int→List Int→List Int→(List Int→Option R)→Option R
 |0,_,_,_,_,_,_=>none
 |n+1,d,f,a,c,b,e=>
  bif decide (a<f)then
   bif (decide (0≤a))&&(decide (a<(b.length:Int)))then
    bif decide (a<(c.length:Int))then
     bif (decide (0≤a))&&(decide (a<(c.length:Int)))then
      bif (decide (0≤a))&&(decide (a<(b.length:Int)))then
       Q8.l7 N n (Int.fdiv (jA ((jA (d+(jA (b.getD a.toNat 0))))+(jA (c.getD a.toNat 0)))) (2^32)) f (aA (a+1)) c (b.set a.toNat (rB (jA ((jA (d+(jA (b.getD a.toNat 0))))+(jA (c.getD a.toNat 0)))))) e
      else none
     else none
    else
    bif (decide (0≤a))&&(decide (a<(b.length:Int)))then
     Q8.l7 N n (Int.fdiv (jA (d+(jA (b.getD a.toNat 0)))) (2^32)) f (aA (a+1)) c (b.set a.toNat (rB (jA (d+(jA (b.getD a.toNat 0)))))) e
    else none
   else none
  else
  e b
noncomputable def Q8.f (N:Nat)(a b:List Int):Option (List Int×Int):=
 bif decide ((a.length:Int)<(b.length:Int))then
  bif decide (aA ((b.length:Int)+1)=aA ((b.length:Int)+1))&&decide (0≤aA ((b.length:Int)+1))&&decide (aA ((b.length:Int)+1)≤9223372036854775807)&&jB ((aA ((b.length:Int)+1)).toNat) 4 then
   Q8.l7 N N 0 ((vF (List.replicate ((aA ((b.length:Int)+1)).toNat) (0:Int)) 0 (b.take (min b.length ((List.replicate ((aA ((b.length:Int)+1)).toNat) (0:Int)).length)))).length:Int) 0 a (vF (List.replicate ((aA ((b.length:Int)+1)).toNat) (0:Int)) 0 (b.take (min b.length ((List.replicate ((aA ((b.length:Int)+1)).toNat) (0:Int)).length))))
    (fun h=>
     (Q2.f N 0 h.length h).bind fun c=>
     (Q4.f N ((c.2.2.drop c.1).take c.2.1)).bind fun e=>
     some (e.1,e.2))
  else none
 else
 bif decide (aA ((a.length:Int)+1)=aA ((a.length:Int)+1))&&decide (0≤aA ((a.length:Int)+1))&&decide (aA ((a.length:Int)+1)≤9223372036854775807)&&jB ((aA ((a.length:Int)+1)).toNat) 4 then
  Q8.l7 N N 0 ((vF (List.replicate ((aA ((a.length:Int)+1)).toNat) (0:Int)) 0 (a.take (min a.length ((List.replicate ((aA ((a.length:Int)+1)).toNat) (0:Int)).length)))).length:Int) 0 b (vF (List.replicate ((aA ((a.length:Int)+1)).toNat) (0:Int)) 0 (a.take (min a.length ((List.replicate ((aA ((a.length:Int)+1)).toNat) (0:Int)).length))))
   (fun g=>
    (Q2.f N 0 g.length g).bind fun d=>
    (Q4.f N ((d.2.2.drop d.1).take d.2.1)).bind fun f=>
    some (f.1,f.2))
 else none
noncomputable def Q8.h7:cC:=⟨[(3,.box [.il .u32 1]),(4,.box [.any]),(6,.row .u32 1),(7,.any),(28,.any),(29,.any)],[(4,.box [.any]),(6,.row .u32 1)]⟩
noncomputable def Q8.c7 (N:Nat):nF:=⟨fun vs H k=>match vs,H with
 | [.ptr 0 0 1,.ptr 1 0 1,.sw 2 1,.c (.int .u64 a),.c (.int .i64 b),.c (.int .i64 c)],[.vals [.il .u32 1 d],.vals [.c (.slice none 0 0)],.ints .u32 e]=>Q8.l7 N N a b c d e (fun f=>k (.exit 0) ⟨fC Q8.h7.out [.ptr 0 0 1,.sw 1 1],[.vals [.c (.slice none 0 0)],.ints .u32 f]⟩)
 |_,_=>none⟩
noncomputable def Q8.E (N:Nat):jC:=iD [(78,aL),(98,kO),(110,lF),(143,pF)] [(152,Q2.ent N),(170,Q4.ent N)] [(7,Q8.h7)] [(7,Q8.c7 N)] N [.cell 4 110,.tmp 5] [.recd [.il .u32 1],.any] 0 65
noncomputable def Q8.b7:Code:=nA ((dA (bo Tryz.f161)).getD 0 .skip)
theorem Q8.l7_eq {R:Type}(N n:Nat)(a b c:Int)(d e:List Int)(k:Ex→St→Option R):
  dB 0 Q8.h7 (fun s k=>bB (Q8.E N) 391 Q8.b7 s k) n [.ptr 0 0 1,.ptr 1 0 1,.sw 2 1,.c (.int .u64 a),.c (.int .i64 b),.c (.int .i64 c)] [.vals [.il .u32 1 d],.vals [.c (.slice none 0 0)],.ints .u32 e] k=Q8.l7 N n a b c d e (fun f=>k (.exit 0) ⟨fC Q8.h7.out [.ptr 0 0 1,.sw 1 1],[.vals [.c (.slice none 0 0)],.ints .u32 f]⟩):=by
 induction n generalizing a b c d e with
 |zero=>kernel_rfl
 |succ n ih=>
  simp only[Q8.l7,←ih]
  kernel_rfl
noncomputable def Q8.dec (v:V)(bs:List rA):Option (List Int×Int):=match v,bs with
 | .tup [.agg [.il .u32 1 a],.c (.int .i64 b)],[]=>some (a,b)
 |_,_=>none
theorem Q8.f_eq (N:Nat)(a b:List Int):
  aB (Q8.E N) (bo Tryz.f161) [.agg [.il .u32 1 a],.agg [.il .u32 1 b]] [] Q8.dec=Q8.f N a b:=by kernel_rfl
noncomputable def Q8.ent (N:Nat):uA:=tD (List Int×Int) 0 [true,true] [.recd [.il .u32 1],.recd [.il .u32 1]] fun
 | [.agg [.il .u32 1 a],.agg [.il .u32 1 b]]=>some (Q8.f N a b,fun r=>.one (.tup [.agg [.il .u32 1 r.1],.c (.int .i64 r.2)]) [])
 |_=>none
theorem Q8.env (N:Nat):yA Tryz.prog (Q8.E N):=⟨(.cons zD (.cons vE (.cons oC (.cons tC .nil)))),(.cons (Q2.ent_ok N) (.cons (Q4.ent_ok N) .nil))⟩
theorem Q8.k7 (N:Nat):gB Tryz.prog Tryz.f161 (Q8.E N) (.loop Q8.b7):=dC (Q8.env N) bA 391 (c:=Q8.c7 N) cA.n fun R vs H k r h=>by unfold Q8.c7 at h;dsimp only at h;split at h;exact⟨_,Q8.l7_eq .. ▸h⟩;cases h
theorem Q8.spec (N:Nat)(a c:List Int)(r:List Int×Int)(h:Q8.f N a c=some r):eA Tryz.prog 161 [.agg [.il .u32 1 a],.agg [.il .u32 1 c]] [] (.tup [.agg [.il .u32 1 r.1],.c (.int .i64 r.2)]) ([]):=pA (Q8.env N) bA Tryz.func161 (cA.of (l:=[(.loop (nA ((dA (bo Tryz.f161)).getD 0 .skip)))]) (by kernel_rfl) (cA.cons (Q8.k7 N) cA.nil)) ((Q8.f_eq ..).trans h) fun v b e=>by unfold Q8.dec at e;split at e<;>cases e;exact⟨rfl,rfl⟩
theorem Q8.ent_ok (N:Nat):oA Tryz.prog 161 (Q8.ent N):=sA fun v a e h=>by split at h;exact nB (Q:=fun e=>eA _ _ _ _ (e a).pick.1 (e a).pick.2) h fun k=>Q8.spec N _ _ a k;cases h
noncomputable def Q9.l2 {R:Type}(N:Nat):Nat→Nat→Nat→List Int→Int→Int→Int→List Int→(List Int→Option R)→Option R
 |0,_,_,_,_,_,_,_,_=>none
 |n+1,c,d,g,i,j,a,b,h=>
  bif decide (a<j)then
   bif decide (a<(g.length:Int))then
    bif (decide (0≤a))&&(decide (a<(g.length:Int)))then
     bif (decide (0≤a))&&(decide (a<(d:Int)))then
      (Q1.f N (b.getD (c+a.toNat) 0) (g.getD a.toNat 0) i).bind fun e=>
      bif (decide (0≤a))&&(decide (a<(d:Int)))then
       Q9.l2 N n c d g e.2 j (aA (a+1)) (b.set (c+a.toNat) e.1) h
      else none
     else none
    else none
   else
   bif i==0 then
    h b
   else
   bif (decide (0≤a))&&(decide (a<(d:Int)))then
    (Q1.f N (b.getD (c+a.toNat) 0) 0 i).bind fun f=>
    bif (decide (0≤a))&&(decide (a<(d:Int)))then
     Q9.l2 N n c d g f.2 j (aA (a+1)) (b.set (c+a.toNat) f.1) h
    else none
   else none
  else
  h b
noncomputable def Q9.f (N c b:Nat)(d e:List Int):Option (List Int):=
 Q9.l2 N N c b d 0 (b:Int) 0 e
  (fun a=>
   some a)
noncomputable def Q9.h2:cC:=⟨[(0,.any),(1,.il .u32 1),(4,.any),(8,.any),(9,.any)],[]⟩
noncomputable def Q9.c2 (N:Nat):nF:=⟨fun vs H k=>match vs,H with
 | [.sl 0 1 d e,.il .u32 1 f,.c (.int .u32 g),.c (.int .i64 h),.c (.int .i64 a)],[.ints .u32 b]=>Q9.l2 N N d e f g h a b (fun c=>k (.exit 0) ⟨fC Q9.h2.out [],[.ints .u32 c]⟩)
 |_,_=>none⟩
noncomputable def Q9.E (N:Nat):jC:=iD [(98,kO),(143,pF)] [(172,Q1.ent N)] [(2,Q9.h2)] [(2,Q9.c2 N)] N [] [] 1 36
noncomputable def Q9.b2:Code:=nA ((dA (bo Tryz.f171)).getD 1 .skip)
theorem Q9.l2_eq {R:Type}(N n d e:Nat)(f:List Int)(g h a:Int)(b:List Int)(k:Ex→St→Option R):
  dB 1 Q9.h2 (fun s k=>bB (Q9.E N) 394 Q9.b2 s k) n [.sl 0 1 d e,.il .u32 1 f,.c (.int .u32 g),.c (.int .i64 h),.c (.int .i64 a)] [.ints .u32 b] k=Q9.l2 N n d e f g h a b (fun c=>k (.exit 0) ⟨fC Q9.h2.out [],[.ints .u32 c]⟩):=by
 induction n generalizing d e f g h a b with
 |zero=>kernel_rfl
 |succ n ih=>
  simp only[Q9.l2,←ih]
  kernel_rfl
noncomputable def Q9.dec (v:V)(bs:List rA):Option (List Int):=match v,bs with
 | .tup [],[.ints .u32 a]=>some a
 |_,_=>none
theorem Q9.f_eq (N a b:Nat)(c d:List Int):
  aB (Q9.E N) (bo Tryz.f171) [.sl 0 1 a b,.il .u32 1 c] [.ints .u32 d] Q9.dec=Q9.f N a b c d:=by kernel_rfl
noncomputable def Q9.ent (N:Nat):uA:={A:=List Int,fresh:=0,imm:=[false,true],dec:=fun args bs=>match fG (qA bs) [true,false] args,bs with
 | [.sl 0 1 a b,.il .u32 1 c],[.ints .u32 d]=>some (Q9.f N a b c d,fun r=>.one (.tup []) [.ints .u32 r])
 |_,_=>none}
theorem Q9.env (N:Nat):yA Tryz.prog (Q9.E N):=⟨(.cons vE (.cons tC .nil)),(.cons (Q1.ent_ok N) .nil)⟩
theorem Q9.k2 (N:Nat):gB Tryz.prog Tryz.f171 (Q9.E N) (.loop Q9.b2):=dC (Q9.env N) bA 394 (c:=Q9.c2 N) cA.n fun R vs H k r h=>by unfold Q9.c2 at h;dsimp only at h;split at h;exact⟨_,Q9.l2_eq .. ▸h⟩;cases h
theorem Q9.spec (N a c:Nat)(d f r:List Int)(h:Q9.f N a c d f=some r):eA Tryz.prog 171 [.sl 0 1 a c,.il .u32 1 d] [.ints .u32 f] (.tup []) ([.ints .u32 r]):=pA (Q9.env N) bA Tryz.func171 (cA.of (l:=[(.scope (nA ((dA (bo Tryz.f171)).getD 0 .skip))),(.loop (nA ((dA (bo Tryz.f171)).getD 1 .skip)))]) (by kernel_rfl) (cA.cons (cQ (by kernel_rfl)) (cA.cons (Q9.k2 N) cA.nil))) ((Q9.f_eq ..).trans h) fun v b e=>by unfold Q9.dec at e;split at e<;>cases e;exact⟨rfl,rfl⟩
theorem Q9.ent_ok (N:Nat):oA Tryz.prog 171 (Q9.ent N):=by
 intro args bs a enc h;simp only[Q9.ent]at h;split at h
 ·rename_i hz;have h0:=Option.some.inj h;have h1:=congrArg Prod.fst h0;have h2:=congrArg Prod.snd h0;dsimp only at h1 h2;subst h2;exact eA.of_asSl (fl:=[true,false]) (by rw[hz];exact Q9.spec N _ _ _ _ a h1)
 ·cases h
noncomputable def Q10.f (N:Nat)(a c:List Int):Option (List Int×Int):=
 (Q7.f N a c).bind fun e=>
 bif decide (e<0)then
  some ([],10)
 else
 bif decide ((a.length:Int)=(a.length:Int))&&decide (0≤(a.length:Int))&&decide ((a.length:Int)≤9223372036854775807)&&jB ((a.length:Int).toNat) 4 then
  (Q9.f N 0 ((vF (List.replicate ((a.length:Int).toNat) (0:Int)) 0 (a.take (min a.length ((List.replicate ((a.length:Int).toNat) (0:Int)).length)))).length) c (vF (List.replicate ((a.length:Int).toNat) (0:Int)) 0 (a.take (min a.length ((List.replicate ((a.length:Int).toNat) (0:Int)).length))))).bind fun d=>
  (Q2.f N 0 d.length d).bind fun b=>
  some ((b.2.2.drop b.1).take b.2.1,0)
 else none
noncomputable def Q10.E (N:Nat):jC:=iD [(98,kO),(110,lF),(143,pF)] [(157,Q7.ent N),(171,Q9.ent N),(152,Q2.ent N)] [] [] N [.cell 4 110,.tmp 5] [.recd [.il .u32 1],.any] 0 26
noncomputable def Q10.dec (v:V)(bs:List rA):Option (List Int×Int):=match v,bs with
 | .tup [.agg [.il .u32 1 a],.c (.int .i64 b)],[]=>some (a,b)
 |_,_=>none
theorem Q10.f_eq (N:Nat)(a b:List Int):
  aB (Q10.E N) (bo Tryz.f162) [.agg [.il .u32 1 a],.agg [.il .u32 1 b]] [] Q10.dec=Q10.f N a b:=by kernel_rfl
noncomputable def Q10.ent (N:Nat):uA:=tD (List Int×Int) 0 [true,true] [.recd [.il .u32 1],.recd [.il .u32 1]] fun
 | [.agg [.il .u32 1 a],.agg [.il .u32 1 b]]=>some (Q10.f N a b,fun r=>.one (.tup [.agg [.il .u32 1 r.1],.c (.int .i64 r.2)]) [])
 |_=>none
theorem Q10.env (N:Nat):yA Tryz.prog (Q10.E N):=⟨(.cons vE (.cons oC (.cons tC .nil))),(.cons (Q7.ent_ok N) (.cons (Q9.ent_ok N) (.cons (Q2.ent_ok N) .nil)))⟩
theorem Q10.spec (N:Nat)(a c:List Int)(r:List Int×Int)(h:Q10.f N a c=some r):eA Tryz.prog 162 [.agg [.il .u32 1 a],.agg [.il .u32 1 c]] [] (.tup [.agg [.il .u32 1 r.1],.c (.int .i64 r.2)]) ([]):=pA (Q10.env N) bA Tryz.func162 cA.n ((Q10.f_eq ..).trans h) fun v b e=>by unfold Q10.dec at e;split at e<;>cases e;exact⟨rfl,rfl⟩
theorem Q10.ent_ok (N:Nat):oA Tryz.prog 162 (Q10.ent N):=sA fun v a e h=>by split at h;exact nB (Q:=fun e=>eA _ _ _ _ (e a).pick.1 (e a).pick.2) h fun k=>Q10.spec N _ _ a k;cases h
noncomputable def Q11.l7 {R:Type}(N:Nat):Nat→Int→Int→Int→List Int→Int→Int→List Int→Int→Int→List Int→List Int→(Int→Int→List Int→Int→Int→List Int→List Int→Option R)→Option R
 |0,_,_,_,_,_,_,_,_,_,_,_,_=>none
 |n+1,d,k,e,f,g,h,c,i,a,j,b,l=>
  bif decide (a<i)then
   bif (decide (0≤a))&&(decide (a<(c.length:Int)))then
    bif (decide (0≤(aA (d+a))))&&(decide ((aA (d+a))<(b.length:Int)))then
     bif (decide (0≤(aA (d+a))))&&(decide ((aA (d+a))<(b.length:Int)))then
      Q11.l7 N n d k (Int.fdiv (jA (e+(jA ((jA ((jA k)*(jA (c.getD a.toNat 0))))+(jA (b.getD ((aA (d+a)).toNat) 0)))))) (2^32)) f g h c i (aA (a+1)) j (b.set ((aA (d+a)).toNat) (rB (jA (e+(jA ((jA ((jA k)*(jA (c.getD a.toNat 0))))+(jA (b.getD ((aA (d+a)).toNat) 0)))))))) l
     else none
    else none
   else none
  else
  l d e f g h j b
noncomputable def Q11.l3 {R:Type}(N:Nat):Nat→List Int→Int→Int→List Int→List Int→(List Int→Option R)→Option R
 |0,_,_,_,_,_,_=>none
 |n+1,e,l,c,f,m,k=>
  bif decide (c<l)then
   bif (decide (0≤c))&&(decide (c<(e.length:Int)))then
    Q11.l7 N N c (e.getD c.toNat 0) 0 e l c f (f.length:Int) 0 f m
     (fun b g h i j a d=>
      bif (decide (0≤(aA (b+(a.length:Int)))))&&(decide ((aA (b+(a.length:Int)))<(d.length:Int)))then
       Q11.l3 N n h i (aA (j+1)) a (d.set ((aA (b+(a.length:Int))).toNat) (rB g)) k
      else none)
   else none
  else
  k m
noncomputable def Q11.f (N:Nat)(a b:List Int):Option (List Int):=
 bif decide (aA ((a.length:Int)+(b.length:Int))=aA ((a.length:Int)+(b.length:Int)))&&decide (0≤aA ((a.length:Int)+(b.length:Int)))&&decide (aA ((a.length:Int)+(b.length:Int))≤9223372036854775807)&&jB ((aA ((a.length:Int)+(b.length:Int))).toNat) 4 then
  Q11.l3 N N a (a.length:Int) 0 b (List.replicate ((aA ((a.length:Int)+(b.length:Int))).toNat) (0:Int))
   (fun d=>
    (Q2.f N 0 d.length d).bind fun c=>
    some ((c.2.2.drop c.1).take c.2.1))
 else none
noncomputable def Q11.h3:cC:=⟨[(3,.box [.il .u32 1]),(4,.box [.any]),(5,.row .u32 1),(20,.il .u32 1),(21,.any),(22,.any)],[(4,.box [.any]),(5,.row .u32 1)]⟩
noncomputable def Q11.h7:cC:=⟨[(3,.box [.il .u32 1]),(4,.box [.any]),(5,.row .u32 1),(6,.any),(7,.any),(8,.any),(20,.il .u32 1),(21,.any),(22,.any),(28,.il .u32 1),(29,.any),(30,.any)],[(3,.box [.il .u32 1]),(4,.box [.any]),(5,.row .u32 1),(6,.any),(8,.any),(20,.il .u32 1),(21,.any),(22,.any)]⟩
noncomputable def Q11.c7 (N:Nat):nF:=⟨fun vs H k=>match vs,H with
 | [.ptr 0 0 1,.ptr 1 0 1,.sw 2 1,.c (.int .i64 s),.c (.int .u32 t),.c (.int .u64 a),.il .u32 1 b,.c (.int .i64 c),.c (.int .i64 d),.il .u32 1 e,.c (.int .i64 f),.c (.int .i64 g)],[.vals [.il .u32 1 h],.vals [.c (.slice none 0 0)],.ints .u32 i]=>Q11.l7 N N s t a b c d e f g h i (fun j l m o p q r=>k (.exit 2) ⟨fC Q11.h7.out [.ptr 0 0 1,.ptr 1 0 1,.sw 2 1,.c (.int .i64 j),.c (.int .u64 l),.il .u32 1 m,.c (.int .i64 o),.c (.int .i64 p)],[.vals [.il .u32 1 q],.vals [.c (.slice none 0 0)],.ints .u32 r]⟩)
 |_,_=>none⟩
noncomputable def Q11.c3 (N:Nat):nF:=⟨fun vs H k=>match vs,H with
 | [.ptr 0 0 1,.ptr 1 0 1,.sw 2 1,.il .u32 1 b,.c (.int .i64 c),.c (.int .i64 d)],[.vals [.il .u32 1 e],.vals [.c (.slice none 0 0)],.ints .u32 f]=>Q11.l3 N N b c d e f (fun a=>k (.exit 0) ⟨fC Q11.h3.out [.ptr 0 0 1,.sw 1 1],[.vals [.c (.slice none 0 0)],.ints .u32 a]⟩)
 |_,_=>none⟩
noncomputable def Q11.E (N:Nat):jC:=iD [(78,aL),(98,kO),(110,lF),(143,pF)] [(152,Q2.ent N)] [(3,Q11.h3),(7,Q11.h7)] [(7,Q11.c7 N),(3,Q11.c3 N)] N [.cell 4 110] [.recd [.il .u32 1]] 0 72
noncomputable def Q11.b7:Code:=nA ((dA (bo Tryz.f169)).getD 1 .skip)
theorem Q11.l7_eq {R:Type}(N n:Nat)(t u a:Int)(b:List Int)(c d:Int)(e:List Int)(f g:Int)(h i:List Int)(k:Ex→St→Option R):
  dB 0 Q11.h7 (fun s k=>bB (Q11.E N) 384 Q11.b7 s k) n [.ptr 0 0 1,.ptr 1 0 1,.sw 2 1,.c (.int .i64 t),.c (.int .u32 u),.c (.int .u64 a),.il .u32 1 b,.c (.int .i64 c),.c (.int .i64 d),.il .u32 1 e,.c (.int .i64 f),.c (.int .i64 g)] [.vals [.il .u32 1 h],.vals [.c (.slice none 0 0)],.ints .u32 i] k=Q11.l7 N n t u a b c d e f g h i (fun j l m o p q r=>k (.exit 2) ⟨fC Q11.h7.out [.ptr 0 0 1,.ptr 1 0 1,.sw 2 1,.c (.int .i64 j),.c (.int .u64 l),.il .u32 1 m,.c (.int .i64 o),.c (.int .i64 p)],[.vals [.il .u32 1 q],.vals [.c (.slice none 0 0)],.ints .u32 r]⟩):=by
 induction n generalizing t u a b c d e f g h i with
 |zero=>kernel_rfl
 |succ n ih=>
  simp only[Q11.l7,←ih]
  kernel_rfl
noncomputable def Q11.b3:Code:=nA ((dA (bo Tryz.f169)).getD 0 .skip)
theorem Q11.l3_eq {R:Type}(N n:Nat)(a:List Int)(c d:Int)(e f:List Int)(k:Ex→St→Option R):
  dB 0 Q11.h3 (fun s k=>bB (Q11.E N) 394 Q11.b3 s k) n [.ptr 0 0 1,.ptr 1 0 1,.sw 2 1,.il .u32 1 a,.c (.int .i64 c),.c (.int .i64 d)] [.vals [.il .u32 1 e],.vals [.c (.slice none 0 0)],.ints .u32 f] k=Q11.l3 N n a c d e f (fun b=>k (.exit 0) ⟨fC Q11.h3.out [.ptr 0 0 1,.sw 1 1],[.vals [.c (.slice none 0 0)],.ints .u32 b]⟩):=by
 induction n generalizing a c d e f with
 |zero=>kernel_rfl
 |succ n ih=>
  simp only[Q11.l3,←ih]
  kernel_rfl
noncomputable def Q11.dec (v:V)(bs:List rA):Option (List Int):=match v,bs with
 | .agg [.il .u32 1 a],[]=>some a
 |_,_=>none
theorem Q11.f_eq (N:Nat)(a b:List Int):
  aB (Q11.E N) (bo Tryz.f169) [.agg [.il .u32 1 a],.agg [.il .u32 1 b]] [] Q11.dec=Q11.f N a b:=by kernel_rfl
noncomputable def Q11.ent (N:Nat):uA:=tD (List Int) 0 [true,true] [.recd [.il .u32 1],.recd [.il .u32 1]] fun
 | [.agg [.il .u32 1 a],.agg [.il .u32 1 b]]=>some (Q11.f N a b,fun r=>.one (.agg [.il .u32 1 r]) [])
 |_=>none
theorem Q11.env (N:Nat):yA Tryz.prog (Q11.E N):=⟨(.cons zD (.cons vE (.cons oC (.cons tC .nil)))),(.cons (Q2.ent_ok N) .nil)⟩
theorem Q11.k7 (N:Nat):gB Tryz.prog Tryz.f169 (Q11.E N) (.loop Q11.b7):=dC (Q11.env N) bA 384 (c:=Q11.c7 N) cA.n fun R vs H k r h=>by unfold Q11.c7 at h;dsimp only at h;split at h;exact⟨_,Q11.l7_eq .. ▸h⟩;cases h
theorem Q11.k3 (N:Nat):gB Tryz.prog Tryz.f169 (Q11.E N) (.loop Q11.b3):=dC (Q11.env N) bA 394 (c:=Q11.c3 N) (cA.of (l:=[(.loop (nA ((dA (bo Tryz.f169)).getD 1 .skip)))]) (by kernel_rfl) (cA.cons (Q11.k7 N) cA.nil)) fun R vs H k r h=>by unfold Q11.c3 at h;dsimp only at h;split at h;exact⟨_,Q11.l3_eq .. ▸h⟩;cases h
theorem Q11.spec (N:Nat)(a c r:List Int)(h:Q11.f N a c=some r):eA Tryz.prog 169 [.agg [.il .u32 1 a],.agg [.il .u32 1 c]] [] (.agg [.il .u32 1 r]) ([]):=pA (Q11.env N) bA Tryz.func169 (cA.of (l:=[(.loop (nA ((dA (bo Tryz.f169)).getD 0 .skip))),(.loop (nA ((dA (bo Tryz.f169)).getD 1 .skip)))]) (by kernel_rfl) (cA.cons (Q11.k3 N) (cA.cons (Q11.k7 N) cA.nil))) ((Q11.f_eq ..).trans h) fun v b e=>by unfold Q11.dec at e;split at e<;>cases e;exact⟨rfl,rfl⟩
theorem Q11.ent_ok (N:Nat):oA Tryz.prog 169 (Q11.ent N):=sA fun v a e h=>by split at h;exact nB (Q:=fun e=>eA _ _ _ _ (e a).pick.1 (e a).pick.2) h fun k=>Q11.spec N _ _ a k;cases h
noncomputable def Q12.f (N:Nat)(a b:List Int):Option (List Int×Int):=
 (Q3.f N a).bind fun d=>
 (Q3.f N b).bind fun e=>
 bif decide ((aA (d+e))>4097)then
  some ([],3)
 else
 (Q11.f N a b).bind fun f=>
 (Q4.f N f).bind fun c=>
 some (c.1,c.2)
noncomputable def Q12.E (N:Nat):jC:=iD [(98,kO),(110,lF)] [(123,Q3.ent N),(169,Q11.ent N),(170,Q4.ent N)] [] [] N [.cell 4 110,.tmp 5] [.recd [.il .u32 1],.any] 0 19
noncomputable def Q12.dec (v:V)(bs:List rA):Option (List Int×Int):=match v,bs with
 | .tup [.agg [.il .u32 1 a],.c (.int .i64 b)],[]=>some (a,b)
 |_,_=>none
theorem Q12.f_eq (N:Nat)(a b:List Int):
  aB (Q12.E N) (bo Tryz.f160) [.agg [.il .u32 1 a],.agg [.il .u32 1 b]] [] Q12.dec=Q12.f N a b:=by kernel_rfl
noncomputable def Q12.ent (N:Nat):uA:=tD (List Int×Int) 0 [true,true] [.recd [.il .u32 1],.recd [.il .u32 1]] fun
 | [.agg [.il .u32 1 a],.agg [.il .u32 1 b]]=>some (Q12.f N a b,fun r=>.one (.tup [.agg [.il .u32 1 r.1],.c (.int .i64 r.2)]) [])
 |_=>none
theorem Q12.env (N:Nat):yA Tryz.prog (Q12.E N):=⟨(.cons vE (.cons oC .nil)),(.cons (Q3.ent_ok N) (.cons (Q11.ent_ok N) (.cons (Q4.ent_ok N) .nil)))⟩
theorem Q12.spec (N:Nat)(a c:List Int)(r:List Int×Int)(h:Q12.f N a c=some r):eA Tryz.prog 160 [.agg [.il .u32 1 a],.agg [.il .u32 1 c]] [] (.tup [.agg [.il .u32 1 r.1],.c (.int .i64 r.2)]) ([]):=pA (Q12.env N) bA Tryz.func160 cA.n ((Q12.f_eq ..).trans h) fun v b e=>by unfold Q12.dec at e;split at e<;>cases e;exact⟨rfl,rfl⟩
theorem Q12.ent_ok (N:Nat):oA Tryz.prog 160 (Q12.ent N):=sA fun v a e h=>by split at h;exact nB (Q:=fun e=>eA _ _ _ _ (e a).pick.1 (e a).pick.2) h fun k=>Q12.spec N _ _ a k;cases h
noncomputable def Q13.f (N:Nat)(a:Int):Option (Int):=
 (Q0.f N a).bind fun b=>
 some (aA (32-b))
noncomputable def Q13.E (N:Nat):jC:=iD [] [(115,Q0.ent N)] [] [] N [.tmp 2] [.any] 0 6
noncomputable def Q13.dec (v:V)(bs:List rA):Option (Int):=match v,bs with
 | .c (.int .i64 a),[]=>some a
 |_,_=>none
theorem Q13.f_eq (N:Nat)(a:Int):
  aB (Q13.E N) (bo Tryz.f165) [.c (.int .u32 a)] [] Q13.dec=Q13.f N a:=by kernel_rfl
noncomputable def Q13.ent (N:Nat):uA:=tD (Int) 0 [true] [.any] fun
 | [.c (.int .u32 a)]=>some (Q13.f N a,fun r=>.one (.c (.int .i64 r)) [])
 |_=>none
theorem Q13.env (N:Nat):yA Tryz.prog (Q13.E N):=⟨.nil,(.cons (Q0.ent_ok N) .nil)⟩
theorem Q13.spec (N:Nat)(a r:Int)(h:Q13.f N a=some r):eA Tryz.prog 165 [.c (.int .u32 a)] [] (.c (.int .i64 r)) ([]):=pA (Q13.env N) bA Tryz.func165 cA.n ((Q13.f_eq ..).trans h) fun v b e=>by unfold Q13.dec at e;split at e<;>cases e;exact⟨rfl,rfl⟩
theorem Q13.ent_ok (N:Nat):oA Tryz.prog 165 (Q13.ent N):=sA fun v a e h=>by split at h;exact nB (Q:=fun e=>eA _ _ _ _ (e a).pick.1 (e a).pick.2) h fun k=>Q13.spec N _ a k;cases h
noncomputable def Q14.l3 {R:Type}(N:Nat):Nat→Nat→Nat→Int→Int→Int→List Int→(Int→List Int→Option R)→Option R
 |0,_,_,_,_,_,_,_=>none
 |n+1,d,e,c,f,b,a,g=>
  bif decide (b≥0)then
   bif (decide (0≤b))&&(decide (b<(e:Int)))then
    bif !((jA c)==0)then
     bif !((jA c)==0)then
      bif (decide (0≤b))&&(decide (b<(e:Int)))then
       Q14.l3 N n d e c (Int.tmod (fE .u64 (jA (f*2^32)) (jA (a.getD (d+b.toNat) 0))) (jA c)) (aA (b-1)) (a.set (d+b.toNat) (rB (jA (Int.tdiv (fE .u64 (jA (f*2^32)) (jA (a.getD (d+b.toNat) 0))) (jA c))))) g
      else none
     else none
    else none
   else none
  else
  g f a
noncomputable def Q14.f (N d c:Nat)(e:Int)(f:List Int):Option (Int×List Int):=
 Q14.l3 N N d c e 0 (aA ((c:Int)-1)) f
  (fun a b=>
   some (rB a,b))
noncomputable def Q14.h3:cC:=⟨[(0,.any),(1,.any),(5,.any),(6,.any)],[(5,.any)]⟩
noncomputable def Q14.c3 (N:Nat):nF:=⟨fun vs H k=>match vs,H with
 | [.sl 0 1 d e,.c (.int .u32 f),.c (.int .u64 g),.c (.int .i64 h)],[.ints .u32 a]=>Q14.l3 N N d e f g h a (fun b c=>k (.exit 0) ⟨fC Q14.h3.out [.c (.int .u64 b)],[.ints .u32 c]⟩)
 |_,_=>none⟩
noncomputable def Q14.E (N:Nat):jC:=iD [(78,aL),(98,kO),(143,pF)] [] [(3,Q14.h3)] [(3,Q14.c3 N)] N [.tmp 4] [.any] 1 37
noncomputable def Q14.b3:Code:=nA ((dA (bo Tryz.f158)).getD 0 .skip)
theorem Q14.l3_eq {R:Type}(N n d e:Nat)(f g h:Int)(a:List Int)(k:Ex→St→Option R):
  dB 1 Q14.h3 (fun s k=>bB (Q14.E N) 394 Q14.b3 s k) n [.sl 0 1 d e,.c (.int .u32 f),.c (.int .u64 g),.c (.int .i64 h)] [.ints .u32 a] k=Q14.l3 N n d e f g h a (fun b c=>k (.exit 0) ⟨fC Q14.h3.out [.c (.int .u64 b)],[.ints .u32 c]⟩):=by
 induction n generalizing d e f g h a with
 |zero=>kernel_rfl
 |succ n ih=>
  simp only[Q14.l3,←ih]
  kernel_rfl
noncomputable def Q14.dec (v:V)(bs:List rA):Option (Int×List Int):=match v,bs with
 | .c (.int .u32 a),[.ints .u32 b]=>some (a,b)
 |_,_=>none
theorem Q14.f_eq (N a b:Nat)(c:Int)(d:List Int):
  aB (Q14.E N) (bo Tryz.f158) [.sl 0 1 a b,.c (.int .u32 c)] [.ints .u32 d] Q14.dec=Q14.f N a b c d:=by kernel_rfl
noncomputable def Q14.ent (N:Nat):uA:={A:=Int×List Int,fresh:=0,imm:=[false,true],dec:=fun args bs=>match fG (qA bs) [true,false] args,bs with
 | [.sl 0 1 a b,.c (.int .u32 c)],[.ints .u32 d]=>some (Q14.f N a b c d,fun r=>.one (.c (.int .u32 r.1)) [.ints .u32 r.2])
 |_,_=>none}
theorem Q14.env (N:Nat):yA Tryz.prog (Q14.E N):=⟨(.cons zD (.cons vE (.cons tC .nil))),.nil⟩
theorem Q14.k3 (N:Nat):gB Tryz.prog Tryz.f158 (Q14.E N) (.loop Q14.b3):=dC (Q14.env N) bA 394 (c:=Q14.c3 N) cA.n fun R vs H k r h=>by unfold Q14.c3 at h;dsimp only at h;split at h;exact⟨_,Q14.l3_eq .. ▸h⟩;cases h
theorem Q14.spec (N a c:Nat)(d:Int)(f:List Int)(r:Int×List Int)(h:Q14.f N a c d f=some r):eA Tryz.prog 158 [.sl 0 1 a c,.c (.int .u32 d)] [.ints .u32 f] (.c (.int .u32 r.1)) ([.ints .u32 r.2]):=pA (Q14.env N) bA Tryz.func158 (cA.of (l:=[(.loop (nA ((dA (bo Tryz.f158)).getD 0 .skip)))]) (by kernel_rfl) (cA.cons (Q14.k3 N) cA.nil)) ((Q14.f_eq ..).trans h) fun v b e=>by unfold Q14.dec at e;split at e<;>cases e;exact⟨rfl,rfl⟩
theorem Q14.ent_ok (N:Nat):oA Tryz.prog 158 (Q14.ent N):=by
 intro args bs a enc h;simp only[Q14.ent]at h;split at h
 ·rename_i hz;have h0:=Option.some.inj h;have h1:=congrArg Prod.fst h0;have h2:=congrArg Prod.snd h0;dsimp only at h1 h2;subst h2;exact eA.of_asSl (fl:=[true,false]) (by rw[hz];exact Q14.spec N _ _ _ _ a h1)
 ·cases h
noncomputable def Q15.l4 {R:Type}(N:Nat):Nat→List Int→Int→Int→Int→Int→List Int→(List Int→Option R)→Option R
 |0,_,_,_,_,_,_,_=>none
 |n+1,b,c,e,g,a,d,f=>
  bif decide (a<g)then
   bif decide (a<(b.length:Int))then
    bif (decide (0≤a))&&(decide (a<(b.length:Int)))then
     bif decide (0≤c)then
      bif (decide (0≤a))&&(decide (a<(d.length:Int)))then
       Q15.l4 N n b c (Int.fdiv (fE .u64 e (jA ((jA (b.getD a.toNat 0))*2^(min c.toNat 64)))) (2^32)) g (aA (a+1)) (d.set a.toNat (rB (fE .u64 e (jA ((jA (b.getD a.toNat 0))*2^(min c.toNat 64)))))) f
      else none
     else none
    else none
   else
   bif (decide (0≤a))&&(decide (a<(d.length:Int)))then
    Q15.l4 N n b c (Int.fdiv e (2^32)) g (aA (a+1)) (d.set a.toNat (rB e)) f
   else none
  else
  f d
noncomputable def Q15.f (N:Nat)(c:List Int)(d a:Int):Option (List Int):=
 bif decide (a=a)&&decide (0≤a)&&decide (a≤9223372036854775807)&&jB a.toNat 4 then
  Q15.l4 N N c d 0 ((List.replicate a.toNat (0:Int)).length:Int) 0 (List.replicate a.toNat (0:Int))
   (fun b=>
    some b)
 else none
noncomputable def Q15.h4:cC:=⟨[(0,.il .u32 1),(1,.any),(7,.row .u32 1),(8,.any),(13,.any),(14,.any)],[(7,.row .u32 1)]⟩
noncomputable def Q15.c4 (N:Nat):nF:=⟨fun vs H k=>match vs,H with
 | [.il .u32 1 b,.c (.int .i64 c),.sw 0 1,.c (.int .u64 d),.c (.int .i64 e),.c (.int .i64 f)],[.ints .u32 g]=>Q15.l4 N N b c d e f g (fun a=>k (.exit 0) ⟨fC Q15.h4.out [.sw 0 1],[.ints .u32 a]⟩)
 |_,_=>none⟩
noncomputable def Q15.E (N:Nat):jC:=iD [(78,aL),(98,kO),(143,pF)] [] [(4,Q15.h4)] [(4,Q15.c4 N)] N [.tmp 6] [.row .u32 1] 0 39 true
noncomputable def Q15.b4:Code:=nA ((dA (bo Tryz.f166)).getD 0 .skip)
theorem Q15.l4_eq {R:Type}(N n:Nat)(b:List Int)(c d e f:Int)(g:List Int)(k:Ex→St→Option R):
  dB 0 Q15.h4 (fun s k=>bB (Q15.E N) 393 Q15.b4 s k) n [.il .u32 1 b,.c (.int .i64 c),.sw 0 1,.c (.int .u64 d),.c (.int .i64 e),.c (.int .i64 f)] [.ints .u32 g] k=Q15.l4 N n b c d e f g (fun a=>k (.exit 0) ⟨fC Q15.h4.out [.sw 0 1],[.ints .u32 a]⟩):=by
 induction n generalizing b c d e f g with
 |zero=>kernel_rfl
 |succ n ih=>
  simp only[Q15.l4,←ih]
  kernel_rfl
noncomputable def Q15.dec (v:V)(bs:List rA):Option (List Int):=match v,bs with
 | .sw 0 1,[.ints .u32 a]=>some a
 |_,_=>none
theorem Q15.f_eq (N:Nat)(a:List Int)(b c:Int):
  aB (Q15.E N) (bo Tryz.f166) [.il .u32 1 a,.c (.int .i64 b),.c (.int .i64 c)] [] Q15.dec=Q15.f N a b c:=by kernel_rfl
noncomputable def Q15.ent (N:Nat):uA:=tD (List Int) 1 [true,true,true] [.il .u32 1,.any,.any] fun
 | [.il .u32 1 a,.c (.int .i64 b),.c (.int .i64 c)]=>some (Q15.f N a b c,fun r=>.one (.sw 0 1) [.ints .u32 r])
 |_=>none
theorem Q15.env (N:Nat):yA Tryz.prog (Q15.E N):=⟨(.cons zD (.cons vE (.cons tC .nil))),.nil⟩
theorem Q15.k4 (N:Nat):gB Tryz.prog Tryz.f166 (Q15.E N) (.loop Q15.b4):=dC (Q15.env N) bA 393 (c:=Q15.c4 N) cA.n fun R vs H k r h=>by unfold Q15.c4 at h;dsimp only at h;split at h;exact⟨_,Q15.l4_eq .. ▸h⟩;cases h
theorem Q15.spec (N:Nat)(a:List Int)(c d:Int)(r:List Int)(h:Q15.f N a c d=some r):eA Tryz.prog 166 [.il .u32 1 a,.c (.int .i64 c),.c (.int .i64 d)] [] (.sw 0 1) ([.ints .u32 r]):=pA (Q15.env N) bA Tryz.func166 (cA.of (l:=[(.loop (nA ((dA (bo Tryz.f166)).getD 0 .skip)))]) (by kernel_rfl) (cA.cons (Q15.k4 N) cA.nil)) ((Q15.f_eq ..).trans h) fun v b e=>by unfold Q15.dec at e;split at e<;>cases e;exact⟨rfl,rfl⟩
theorem Q15.ent_ok (N:Nat):oA Tryz.prog 166 (Q15.ent N):=sA fun v a e h=>by split at h;exact nB (Q:=fun e=>eA _ _ _ _ (e a).pick.1 (e a).pick.2) h fun k=>Q15.spec N _ _ _ a k;cases h
noncomputable def Q16.l3 {R:Type}(N:Nat):Nat→List Int→Int→Int→Int→List Int→(List Int→Option R)→Option R
 |0,_,_,_,_,_,_=>none
 |n+1,b,c,f,a,d,e=>
  bif decide (a<f)then
   bif (decide (0≤a))&&(decide (a<(b.length:Int)))then
    bif decide ((aA (a+1))<(b.length:Int))then
     bif (decide (0≤(aA (a+1))))&&(decide ((aA (a+1))<(b.length:Int)))then
      bif decide (0≤c)then
       bif (decide (0≤a))&&(decide (a<(d.length:Int)))then
        Q16.l3 N n b c f (aA (a+1)) (d.set a.toNat (rB (Int.fdiv (fE .u64 (jA (b.getD a.toNat 0)) (jA ((jA (b.getD ((aA (a+1)).toNat) 0))*2^32))) (2^(min c.toNat 64))))) e
       else none
      else none
     else none
    else
    bif decide (0≤c)then
     bif (decide (0≤a))&&(decide (a<(d.length:Int)))then
      Q16.l3 N n b c f (aA (a+1)) (d.set a.toNat (rB (Int.fdiv (jA (b.getD a.toNat 0)) (2^(min c.toNat 64))))) e
     else none
    else none
   else none
  else
  e d
noncomputable def Q16.f (N:Nat)(a:List Int)(d:Int):Option (List Int):=
 bif decide ((a.length:Int)=(a.length:Int))&&decide (0≤(a.length:Int))&&decide ((a.length:Int)≤9223372036854775807)&&jB ((a.length:Int).toNat) 4 then
  Q16.l3 N N a d (a.length:Int) 0 (List.replicate ((a.length:Int).toNat) (0:Int))
   (fun c=>
    (Q2.f N 0 c.length c).bind fun b=>
    some ((b.2.2.drop b.1).take b.2.1))
 else none
noncomputable def Q16.h3:cC:=⟨[(0,.il .u32 1),(1,.any),(4,.box [.any]),(5,.row .u32 1),(12,.any),(13,.any)],[(4,.box [.any]),(5,.row .u32 1)]⟩
noncomputable def Q16.c3 (N:Nat):nF:=⟨fun vs H k=>match vs,H with
 | [.il .u32 1 a,.c (.int .i64 b),.ptr 0 0 1,.sw 1 1,.c (.int .i64 c),.c (.int .i64 d)],[.vals [.c (.slice none 0 0)],.ints .u32 e]=>Q16.l3 N N a b c d e (fun f=>k (.exit 0) ⟨fC Q16.h3.out [.ptr 0 0 1,.sw 1 1],[.vals [.c (.slice none 0 0)],.ints .u32 f]⟩)
 |_,_=>none⟩
noncomputable def Q16.E (N:Nat):jC:=iD [(78,aL),(98,kO),(110,lF),(143,pF)] [(152,Q2.ent N)] [(3,Q16.h3)] [(3,Q16.c3 N)] N [.cell 4 110] [.recd [.il .u32 1]] 0 45
noncomputable def Q16.b3:Code:=nA ((dA (bo Tryz.f168)).getD 0 .skip)
theorem Q16.l3_eq {R:Type}(N n:Nat)(a:List Int)(b c d:Int)(e:List Int)(k:Ex→St→Option R):
  dB 0 Q16.h3 (fun s k=>bB (Q16.E N) 394 Q16.b3 s k) n [.il .u32 1 a,.c (.int .i64 b),.ptr 0 0 1,.sw 1 1,.c (.int .i64 c),.c (.int .i64 d)] [.vals [.c (.slice none 0 0)],.ints .u32 e] k=Q16.l3 N n a b c d e (fun f=>k (.exit 0) ⟨fC Q16.h3.out [.ptr 0 0 1,.sw 1 1],[.vals [.c (.slice none 0 0)],.ints .u32 f]⟩):=by
 induction n generalizing a b c d e with
 |zero=>kernel_rfl
 |succ n ih=>
  simp only[Q16.l3,←ih]
  kernel_rfl
noncomputable def Q16.dec (v:V)(bs:List rA):Option (List Int):=match v,bs with
 | .agg [.il .u32 1 a],[]=>some a
 |_,_=>none
theorem Q16.f_eq (N:Nat)(a:List Int)(b:Int):
  aB (Q16.E N) (bo Tryz.f168) [.il .u32 1 a,.c (.int .i64 b)] [] Q16.dec=Q16.f N a b:=by kernel_rfl
noncomputable def Q16.ent (N:Nat):uA:=tD (List Int) 0 [true,true] [.il .u32 1,.any] fun
 | [.il .u32 1 a,.c (.int .i64 b)]=>some (Q16.f N a b,fun r=>.one (.agg [.il .u32 1 r]) [])
 |_=>none
theorem Q16.env (N:Nat):yA Tryz.prog (Q16.E N):=⟨(.cons zD (.cons vE (.cons oC (.cons tC .nil)))),(.cons (Q2.ent_ok N) .nil)⟩
theorem Q16.k3 (N:Nat):gB Tryz.prog Tryz.f168 (Q16.E N) (.loop Q16.b3):=dC (Q16.env N) bA 394 (c:=Q16.c3 N) cA.n fun R vs H k r h=>by unfold Q16.c3 at h;dsimp only at h;split at h;exact⟨_,Q16.l3_eq .. ▸h⟩;cases h
theorem Q16.spec (N:Nat)(a:List Int)(c:Int)(r:List Int)(h:Q16.f N a c=some r):eA Tryz.prog 168 [.il .u32 1 a,.c (.int .i64 c)] [] (.agg [.il .u32 1 r]) ([]):=pA (Q16.env N) bA Tryz.func168 (cA.of (l:=[(.loop (nA ((dA (bo Tryz.f168)).getD 0 .skip)))]) (by kernel_rfl) (cA.cons (Q16.k3 N) cA.nil)) ((Q16.f_eq ..).trans h) fun v b e=>by unfold Q16.dec at e;split at e<;>cases e;exact⟨rfl,rfl⟩
theorem Q16.ent_ok (N:Nat):oA Tryz.prog 168 (Q16.ent N):=sA fun v a e h=>by split at h;exact nB (Q:=fun e=>eA _ _ _ _ (e a).pick.1 (e a).pick.2) h fun k=>Q16.spec N _ _ a k;cases h
noncomputable def Q17.l3 {R:Type}(N:Nat):Nat→Nat→Nat→List Int→Int→Int→Int→Int→Int→List Int→(Int→List Int→Option R)→Option R
 |0,_,_,_,_,_,_,_,_,_,_=>none
 |n+1,f,g,h,k,c,d,e,a,b,l=>
  bif decide (a<e)then
   bif decide (a<(h.length:Int))then
    bif (decide (0≤a))&&(decide (a<(h.length:Int)))then
     bif (decide (0≤a))&&(decide (a<(g:Int)))then
      (Q1.f N (b.getD (f+a.toNat) 0) (rB (jA (c+(jA ((jA (h.getD a.toNat 0))*(jA k)))))) d).bind fun i=>
      bif (decide (0≤a))&&(decide (a<(g:Int)))then
       Q17.l3 N n f g h k (Int.fdiv (jA (c+(jA ((jA (h.getD a.toNat 0))*(jA k))))) (2^32)) i.2 e (aA (a+1)) (b.set (f+a.toNat) i.1) l
      else none
     else none
    else none
   else
   bif (decide (0≤a))&&(decide (a<(g:Int)))then
    (Q1.f N (b.getD (f+a.toNat) 0) (rB c) d).bind fun j=>
    bif (decide (0≤a))&&(decide (a<(g:Int)))then
     Q17.l3 N n f g h k (Int.fdiv c (2^32)) j.2 e (aA (a+1)) (b.set (f+a.toNat) j.1) l
    else none
   else none
  else
  l d b
noncomputable def Q17.f (N d c:Nat)(e:List Int)(f:Int)(g:List Int):Option (Bool×List Int):=
 Q17.l3 N N d c e f 0 0 (c:Int) 0 g
  (fun a b=>
   some (a != 0,b))
noncomputable def Q17.h3:cC:=⟨[(0,.any),(1,.il .u32 1),(2,.any),(7,.any),(8,.any),(11,.any),(12,.any)],[(8,.any)]⟩
noncomputable def Q17.c3 (N:Nat):nF:=⟨fun vs H k=>match vs,H with
 | [.sl 0 1 h i,.il .u32 1 j,.c (.int .u32 l),.c (.int .u64 a),.c (.int .u32 b),.c (.int .i64 c),.c (.int .i64 d)],[.ints .u32 e]=>Q17.l3 N N h i j l a b c d e (fun f g=>k (.exit 0) ⟨fC Q17.h3.out [.c (.int .u32 f)],[.ints .u32 g]⟩)
 |_,_=>none⟩
noncomputable def Q17.E (N:Nat):jC:=iD [(78,aL),(98,kO),(143,pF)] [(172,Q1.ent N)] [(3,Q17.h3)] [(3,Q17.c3 N)] N [.tmp 6] [.any] 1 48
noncomputable def Q17.b3:Code:=nA ((dA (bo Tryz.f167)).getD 0 .skip)
theorem Q17.l3_eq {R:Type}(N n h i:Nat)(j:List Int)(l a b c d:Int)(e:List Int)(k:Ex→St→Option R):
  dB 1 Q17.h3 (fun s k=>bB (Q17.E N) 394 Q17.b3 s k) n [.sl 0 1 h i,.il .u32 1 j,.c (.int .u32 l),.c (.int .u64 a),.c (.int .u32 b),.c (.int .i64 c),.c (.int .i64 d)] [.ints .u32 e] k=Q17.l3 N n h i j l a b c d e (fun f g=>k (.exit 0) ⟨fC Q17.h3.out [.c (.int .u32 f)],[.ints .u32 g]⟩):=by
 induction n generalizing h i j l a b c d e with
 |zero=>kernel_rfl
 |succ n ih=>
  simp only[Q17.l3,←ih]
  kernel_rfl
noncomputable def Q17.dec (v:V)(bs:List rA):Option (Bool×List Int):=match v,bs with
 | .c (.bool a),[.ints .u32 b]=>some (a,b)
 |_,_=>none
theorem Q17.f_eq (N a b:Nat)(c:List Int)(d:Int)(e:List Int):
  aB (Q17.E N) (bo Tryz.f167) [.sl 0 1 a b,.il .u32 1 c,.c (.int .u32 d)] [.ints .u32 e] Q17.dec=Q17.f N a b c d e:=by kernel_rfl
noncomputable def Q17.ent (N:Nat):uA:={A:=Bool×List Int,fresh:=0,imm:=[false,true,true],dec:=fun args bs=>match fG (qA bs) [true,false,false] args,bs with
 | [.sl 0 1 a b,.il .u32 1 c,.c (.int .u32 d)],[.ints .u32 e]=>some (Q17.f N a b c d e,fun r=>.one (.c (.bool r.1)) [.ints .u32 r.2])
 |_,_=>none}
theorem Q17.env (N:Nat):yA Tryz.prog (Q17.E N):=⟨(.cons zD (.cons vE (.cons tC .nil))),(.cons (Q1.ent_ok N) .nil)⟩
theorem Q17.k3 (N:Nat):gB Tryz.prog Tryz.f167 (Q17.E N) (.loop Q17.b3):=dC (Q17.env N) bA 394 (c:=Q17.c3 N) cA.n fun R vs H k r h=>by unfold Q17.c3 at h;dsimp only at h;split at h;exact⟨_,Q17.l3_eq .. ▸h⟩;cases h
theorem Q17.spec (N a c:Nat)(d:List Int)(f:Int)(g:List Int)(r:Bool×List Int)(h:Q17.f N a c d f g=some r):eA Tryz.prog 167 [.sl 0 1 a c,.il .u32 1 d,.c (.int .u32 f)] [.ints .u32 g] (.c (.bool r.1)) ([.ints .u32 r.2]):=pA (Q17.env N) bA Tryz.func167 (cA.of (l:=[(.loop (nA ((dA (bo Tryz.f167)).getD 0 .skip)))]) (by kernel_rfl) (cA.cons (Q17.k3 N) cA.nil)) ((Q17.f_eq ..).trans h) fun v b e=>by unfold Q17.dec at e;split at e<;>cases e;exact⟨rfl,rfl⟩
theorem Q17.ent_ok (N:Nat):oA Tryz.prog 167 (Q17.ent N):=by
 intro args bs a enc h;simp only[Q17.ent]at h;split at h
 ·rename_i hz;have h0:=Option.some.inj h;have h1:=congrArg Prod.fst h0;have h2:=congrArg Prod.snd h0;dsimp only at h1 h2;subst h2;exact eA.of_asSl (fl:=[true,false,false]) (by rw[hz];exact Q17.spec N _ _ _ _ _ a h1)
 ·cases h
noncomputable def Q18.l11 {R:Type}(N:Nat):Nat→Int→Int→Int→Int→Int→List Int→List Int→List Int→(Int→Int→Int→Int→List Int→List Int→List Int→Option R)→Option R
 |0,_,_,_,_,_,_,_,_,_=>none
 |n+1,a,f,c,d,g,b,e,h,i=>
  bif (Int.fdiv d (2^32)) != 0 then
   bif (decide (0≤(aA (a-1))))&&(decide ((aA (a-1))<(b.length:Int)))then
    bif (Int.fdiv (jA (g+(jA (b.getD ((aA (a-1)).toNat) 0)))) (2^32)) != 0 then
     i a f c (jA (d-1)) b e h
    else
    Q18.l11 N n a f c (jA (d-1)) (jA (g+(jA (b.getD ((aA (a-1)).toNat) 0)))) b e h i
   else none
  else
  bif (decide (0≤(aA (a-2))))&&(decide ((aA (a-2))<(b.length:Int)))then
   bif (decide (0≤(aA ((aA (c+a))-2))))&&(decide ((aA ((aA (c+a))-2))<(e.length:Int)))then
    bif decide ((jA (d*(jA (b.getD ((aA (a-2)).toNat) 0))))>(fE .u64 (jA (g*2^32)) (jA (e.getD ((aA ((aA (c+a))-2)).toNat) 0))))then
     bif (decide (0≤(aA (a-1))))&&(decide ((aA (a-1))<(b.length:Int)))then
      bif (Int.fdiv (jA (g+(jA (b.getD ((aA (a-1)).toNat) 0)))) (2^32)) != 0 then
       i a f c (jA (d-1)) b e h
      else
      Q18.l11 N n a f c (jA (d-1)) (jA (g+(jA (b.getD ((aA (a-1)).toNat) 0)))) b e h i
     else none
    else
    i a f c d b e h
   else none
  else none
noncomputable def Q18.l21 {R:Type}(N:Nat):Nat→Int→Int→Int→Nat→Nat→Int→Int→Int→List Int→List Int→List Int→(Int→Int→Int→List Int→List Int→List Int→Option R)→Option R
 |0,_,_,_,_,_,_,_,_,_,_,_,_=>none
 |n+1,f,h,i,b,e,g,j,a,d,c,k,l=>
  bif decide (a<j)then
   bif (decide (0≤a))&&(decide (a<(e:Int)))then
    bif decide (a<f)then
     bif (decide (0≤a))&&(decide (a<(d.length:Int)))then
      bif (decide (0≤a))&&(decide (a<(e:Int)))then
       Q18.l21 N n f h i b e (Int.fdiv (jA ((jA (g+(jA (c.getD (b+a.toNat) 0))))+(jA (d.getD a.toNat 0)))) (2^32)) j (aA (a+1)) d (c.set (b+a.toNat) (rB (jA ((jA (g+(jA (c.getD (b+a.toNat) 0))))+(jA (d.getD a.toNat 0)))))) k l
      else none
     else none
    else
    bif (decide (0≤a))&&(decide (a<(e:Int)))then
     Q18.l21 N n f h i b e (Int.fdiv (jA (g+(jA (c.getD (b+a.toNat) 0)))) (2^32)) j (aA (a+1)) d (c.set (b+a.toNat) (rB (jA (g+(jA (c.getD (b+a.toNat) 0)))))) k l
    else none
   else none
  else
  l f h i d c k
noncomputable def Q18.l7 {R:Type}(N:Nat):Nat→Int→Int→Int→List Int→List Int→List Int→(Int→List Int→List Int→Option R)→Option R
 |0,_,_,_,_,_,_,_=>none
 |n+1,d,v,e,h,c,k,o=>
  bif decide (e≥0)then
   bif (decide (0≤(aA (e+d))))&&(decide ((aA (e+d))<(c.length:Int)))then
    bif (decide (0≤(aA ((aA (e+d))-1))))&&(decide ((aA ((aA (e+d))-1))<(c.length:Int)))then
     bif (decide (0≤(aA (d-1))))&&(decide ((aA (d-1))<(h.length:Int)))then
      bif !((jA (h.getD ((aA (d-1)).toNat) 0))==0)then
       bif (decide (0≤(aA (d-1))))&&(decide ((aA (d-1))<(h.length:Int)))then
        bif !((jA (h.getD ((aA (d-1)).toNat) 0))==0)then
         Q18.l11 N N d v e (jA (Int.tdiv (fE .u64 (jA ((jA (c.getD ((aA (e+d)).toNat) 0))*2^32)) (jA (c.getD ((aA ((aA (e+d))-1)).toNat) 0))) (jA (h.getD ((aA (d-1)).toNat) 0)))) (Int.tmod (fE .u64 (jA ((jA (c.getD ((aA (e+d)).toNat) 0))*2^32)) (jA (c.getD ((aA ((aA (e+d))-1)).toNat) 0))) (jA (h.getD ((aA (d-1)).toNat) 0))) h c k
          (fun b l a i j m f=>
           bif (((decide (0≤a))&&(decide (a≤(aA ((aA (a+b))+1)))))&&(decide ((aA ((aA (a+b))+1))≤(aA ((aA (a+b))+1)))))&&(decide ((aA ((aA (a+b))+1))≤(m.length:Int)))then
            (Q17.f N a.toNat (((aA ((aA (a+b))+1)).toNat)-a.toNat) j (rB i) m).bind fun g=>
            bif !g.1 then
             bif (decide (0≤a))&&(decide (a<(f.length:Int)))then
              Q18.l7 N n b l (aA (a-1)) j g.2 (f.set a.toNat (rB i)) o
             else none
            else
            bif (decide (0≤a))&&(decide (a<(f.length:Int)))then
             Q18.l21 N N b l a a.toNat (((aA ((aA (a+b))+1)).toNat)-a.toNat) 0 ((((aA ((aA (a+b))+1)).toNat)-a.toNat:Nat):Int) 0 j g.2 (f.set a.toNat (rB ((rB i)-1)))
              (fun p q r s t u=>
               Q18.l7 N n p q (aA (r-1)) s t u o)
            else none
           else none)
        else none
       else none
      else none
     else none
    else none
   else none
  else
  o v c k
noncomputable def Q18.f (N:Nat)(i a:List Int):Option (List Int×List Int):=
 bif (decide (0≤(aA ((a.length:Int)-1))))&&(decide ((aA ((a.length:Int)-1))<(a.length:Int)))then
  (Q13.f N (a.getD ((aA ((a.length:Int)-1)).toNat) 0)).bind fun e=>
  (Q15.f N a e (a.length:Int)).bind fun j=>
  (Q15.f N i e (aA ((i.length:Int)+1))).bind fun b=>
  bif decide (aA ((b.length:Int)- (a.length:Int))=aA ((b.length:Int)- (a.length:Int)))&&decide (0≤aA ((b.length:Int)- (a.length:Int)))&&decide (aA ((b.length:Int)- (a.length:Int))≤9223372036854775807)&&jB ((aA ((b.length:Int)- (a.length:Int))).toNat) 4 then
   Q18.l7 N N (a.length:Int) e (aA ((aA ((b.length:Int)- (a.length:Int)))-1)) j b (List.replicate ((aA ((b.length:Int)- (a.length:Int))).toNat) (0:Int))
    (fun g h d=>
     (Q2.f N 0 d.length d).bind fun c=>
     (Q16.f N h g).bind fun f=>
     some ((c.2.2.drop c.1).take c.2.1,f))
  else none
 else none
noncomputable def Q18.h7:cC:=⟨[(4,.box [.any]),(5,.box [.any]),(6,.any),(7,.any),(8,.row .u32 1),(9,.row .u32 1),(11,.row .u32 1),(12,.any)],[(4,.box [.any]),(5,.box [.any]),(7,.any),(9,.row .u32 1),(11,.row .u32 1)]⟩
noncomputable def Q18.h11:cC:=⟨[(4,.box [.any]),(5,.box [.any]),(6,.any),(7,.any),(8,.row .u32 1),(9,.row .u32 1),(11,.row .u32 1),(12,.any),(14,.any),(15,.any)],[(4,.box [.any]),(5,.box [.any]),(6,.any),(7,.any),(8,.row .u32 1),(9,.row .u32 1),(11,.row .u32 1),(12,.any),(14,.any)]⟩
noncomputable def Q18.h21:cC:=⟨[(4,.box [.any]),(5,.box [.any]),(6,.any),(7,.any),(8,.row .u32 1),(9,.row .u32 1),(11,.row .u32 1),(12,.any),(16,.part .u32 1),(17,.any),(156,.any),(157,.any)],[(4,.box [.any]),(5,.box [.any]),(6,.any),(7,.any),(8,.row .u32 1),(9,.row .u32 1),(11,.row .u32 1),(12,.any)]⟩
noncomputable def Q18.c11 (N:Nat):nF:=⟨fun vs H k=>match vs,H with
 | [.ptr 0 0 1,.ptr 1 0 1,.c (.int .i64 a),.c (.int .i64 b),.sw 2 1,.sw 3 1,.sw 4 1,.c (.int .i64 c),.c (.int .u64 d),.c (.int .u64 e)],[.vals [.c (.slice none 0 0)],.vals [.c (.slice none 0 0)],.ints .u32 f,.ints .u32 g,.ints .u32 h]=>Q18.l11 N N a b c d e f g h (fun i j l m o p q=>k (.exit 2) ⟨fC Q18.h11.out [.ptr 0 0 1,.ptr 1 0 1,.c (.int .i64 i),.c (.int .i64 j),.sw 2 1,.sw 3 1,.sw 4 1,.c (.int .i64 l),.c (.int .u64 m)],[.vals [.c (.slice none 0 0)],.vals [.c (.slice none 0 0)],.ints .u32 o,.ints .u32 p,.ints .u32 q]⟩)
 |_,_=>none⟩
noncomputable def Q18.c21 (N:Nat):nF:=⟨fun vs H k=>match vs,H with
 | [.ptr 0 0 1,.ptr 1 0 1,.c (.int .i64 a),.c (.int .i64 b),.sw 2 1,.sw 3 1,.sw 4 1,.c (.int .i64 c),.sl 3 1 d e,.c (.int .u64 f),.c (.int .i64 g),.c (.int .i64 h)],[.vals [.c (.slice none 0 0)],.vals [.c (.slice none 0 0)],.ints .u32 i,.ints .u32 j,.ints .u32 l]=>Q18.l21 N N a b c d e f g h i j l (fun m o p q r s=>k (.exit 4) ⟨fC Q18.h21.out [.ptr 0 0 1,.ptr 1 0 1,.c (.int .i64 m),.c (.int .i64 o),.sw 2 1,.sw 3 1,.sw 4 1,.c (.int .i64 p)],[.vals [.c (.slice none 0 0)],.vals [.c (.slice none 0 0)],.ints .u32 q,.ints .u32 r,.ints .u32 s]⟩)
 |_,_=>none⟩
noncomputable def Q18.c7 (N:Nat):nF:=⟨fun vs H k=>match vs,H with
 | [.ptr 0 0 1,.ptr 1 0 1,.c (.int .i64 f),.c (.int .i64 g),.sw 2 1,.sw 3 1,.sw 4 1,.c (.int .i64 h)],[.vals [.c (.slice none 0 0)],.vals [.c (.slice none 0 0)],.ints .u32 i,.ints .u32 a,.ints .u32 b]=>Q18.l7 N N f g h i a b (fun c d e=>k (.exit 0) ⟨fC Q18.h7.out [.ptr 0 0 1,.ptr 1 0 1,.c (.int .i64 c),.sw 2 1,.sw 3 1],[.vals [.c (.slice none 0 0)],.vals [.c (.slice none 0 0)],.ints .u32 d,.ints .u32 e]⟩)
 |_,_=>none⟩
noncomputable def Q18.E (N:Nat):jC:=iD [(78,aL),(98,kO),(110,lF),(143,pF)] [(165,Q13.ent N),(166,Q15.ent N),(167,Q17.ent N),(152,Q2.ent N),(168,Q16.ent N)] [(7,Q18.h7),(11,Q18.h11),(21,Q18.h21)] [(11,Q18.c11 N),(21,Q18.c21 N),(7,Q18.c7 N)] N [.cell 4 110,.cell 5 110] [.recd [.il .u32 1],.recd [.il .u32 1]] 0 190
noncomputable def Q18.b11:Code:=nA ((dA (bo Tryz.f159)).getD 2 .skip)
theorem Q18.l11_eq {R:Type}(N n:Nat)(a b c d e:Int)(f g h:List Int)(k:Ex→St→Option R):
  dB 0 Q18.h11 (fun s k=>bB (Q18.E N) 380 Q18.b11 s k) n [.ptr 0 0 1,.ptr 1 0 1,.c (.int .i64 a),.c (.int .i64 b),.sw 2 1,.sw 3 1,.sw 4 1,.c (.int .i64 c),.c (.int .u64 d),.c (.int .u64 e)] [.vals [.c (.slice none 0 0)],.vals [.c (.slice none 0 0)],.ints .u32 f,.ints .u32 g,.ints .u32 h] k=Q18.l11 N n a b c d e f g h (fun i j l m o p q=>k (.exit 2) ⟨fC Q18.h11.out [.ptr 0 0 1,.ptr 1 0 1,.c (.int .i64 i),.c (.int .i64 j),.sw 2 1,.sw 3 1,.sw 4 1,.c (.int .i64 l),.c (.int .u64 m)],[.vals [.c (.slice none 0 0)],.vals [.c (.slice none 0 0)],.ints .u32 o,.ints .u32 p,.ints .u32 q]⟩):=by
 induction n generalizing a b c d e f g h with
 |zero=>kernel_rfl
 |succ n ih=>
  simp only[Q18.l11,←ih]
  kernel_rfl
noncomputable def Q18.b21:Code:=nA ((dA (bo Tryz.f159)).getD 3 .skip)
theorem Q18.l21_eq {R:Type}(N n:Nat)(a b c:Int)(d e:Nat)(f g h:Int)(i j l:List Int)(k:Ex→St→Option R):
  dB 0 Q18.h21 (fun s k=>bB (Q18.E N) 375 Q18.b21 s k) n [.ptr 0 0 1,.ptr 1 0 1,.c (.int .i64 a),.c (.int .i64 b),.sw 2 1,.sw 3 1,.sw 4 1,.c (.int .i64 c),.sl 3 1 d e,.c (.int .u64 f),.c (.int .i64 g),.c (.int .i64 h)] [.vals [.c (.slice none 0 0)],.vals [.c (.slice none 0 0)],.ints .u32 i,.ints .u32 j,.ints .u32 l] k=Q18.l21 N n a b c d e f g h i j l (fun m o p q r t=>k (.exit 4) ⟨fC Q18.h21.out [.ptr 0 0 1,.ptr 1 0 1,.c (.int .i64 m),.c (.int .i64 o),.sw 2 1,.sw 3 1,.sw 4 1,.c (.int .i64 p)],[.vals [.c (.slice none 0 0)],.vals [.c (.slice none 0 0)],.ints .u32 q,.ints .u32 r,.ints .u32 t]⟩):=by
 induction n generalizing a b c d e f g h i j l with
 |zero=>kernel_rfl
 |succ n ih=>
  simp only[Q18.l21,←ih]
  kernel_rfl
noncomputable def Q18.b7:Code:=nA ((dA (bo Tryz.f159)).getD 1 .skip)
theorem Q18.l7_eq {R:Type}(N n:Nat)(e g h:Int)(i a b:List Int)(k:Ex→St→Option R):
  dB 0 Q18.h7 (fun s k=>bB (Q18.E N) 388 Q18.b7 s k) n [.ptr 0 0 1,.ptr 1 0 1,.c (.int .i64 e),.c (.int .i64 g),.sw 2 1,.sw 3 1,.sw 4 1,.c (.int .i64 h)] [.vals [.c (.slice none 0 0)],.vals [.c (.slice none 0 0)],.ints .u32 i,.ints .u32 a,.ints .u32 b] k=Q18.l7 N n e g h i a b (fun c d f=>k (.exit 0) ⟨fC Q18.h7.out [.ptr 0 0 1,.ptr 1 0 1,.c (.int .i64 c),.sw 2 1,.sw 3 1],[.vals [.c (.slice none 0 0)],.vals [.c (.slice none 0 0)],.ints .u32 d,.ints .u32 f]⟩):=by
 induction n generalizing e g h i a b with
 |zero=>kernel_rfl
 |succ n ih=>
  simp only[Q18.l7,←ih]
  kernel_rfl
noncomputable def Q18.dec (v:V)(bs:List rA):Option (List Int×List Int):=match v,bs with
 | .tup [.agg [.il .u32 1 a],.agg [.il .u32 1 b]],[]=>some (a,b)
 |_,_=>none
theorem Q18.f_eq (N:Nat)(a b:List Int):
  aB (Q18.E N) (bo Tryz.f159) [.agg [.il .u32 1 a],.agg [.il .u32 1 b]] [] Q18.dec=Q18.f N a b:=by kernel_rfl
noncomputable def Q18.ent (N:Nat):uA:=tD (List Int×List Int) 0 [true,true] [.recd [.il .u32 1],.recd [.il .u32 1]] fun
 | [.agg [.il .u32 1 a],.agg [.il .u32 1 b]]=>some (Q18.f N a b,fun r=>.one (.tup [.agg [.il .u32 1 r.1],.agg [.il .u32 1 r.2]]) [])
 |_=>none
theorem Q18.env (N:Nat):yA Tryz.prog (Q18.E N):=⟨(.cons zD (.cons vE (.cons oC (.cons tC .nil)))),(.cons (Q13.ent_ok N) (.cons (Q15.ent_ok N) (.cons (Q17.ent_ok N) (.cons (Q2.ent_ok N) (.cons (Q16.ent_ok N) .nil)))))⟩
theorem Q18.k21 (N:Nat):gB Tryz.prog Tryz.f159 (Q18.E N) (.loop Q18.b21):=dC (Q18.env N) bA 375 (c:=Q18.c21 N) cA.n fun R vs H k r h=>by unfold Q18.c21 at h;dsimp only at h;split at h;exact⟨_,Q18.l21_eq .. ▸h⟩;cases h
theorem Q18.k11 (N:Nat):gB Tryz.prog Tryz.f159 (Q18.E N) (.loop Q18.b11):=dC (Q18.env N) bA 380 (c:=Q18.c11 N) cA.n fun R vs H k r h=>by unfold Q18.c11 at h;dsimp only at h;split at h;exact⟨_,Q18.l11_eq .. ▸h⟩;cases h
theorem Q18.k7 (N:Nat):gB Tryz.prog Tryz.f159 (Q18.E N) (.loop Q18.b7):=dC (Q18.env N) bA 388 (c:=Q18.c7 N) (cA.of (l:=[(.loop (nA ((dA (bo Tryz.f159)).getD 2 .skip))),(.loop (nA ((dA (bo Tryz.f159)).getD 3 .skip)))]) (by kernel_rfl) (cA.cons (Q18.k11 N) (cA.cons (Q18.k21 N) cA.nil))) fun R vs H k r h=>by unfold Q18.c7 at h;dsimp only at h;split at h;exact⟨_,Q18.l7_eq .. ▸h⟩;cases h
theorem Q18.spec (N:Nat)(a c:List Int)(r:List Int×List Int)(h:Q18.f N a c=some r):eA Tryz.prog 159 [.agg [.il .u32 1 a],.agg [.il .u32 1 c]] [] (.tup [.agg [.il .u32 1 r.1],.agg [.il .u32 1 r.2]]) ([]):=pA (Q18.env N) bA Tryz.func159 (cA.of (l:=[(.scope (nA ((dA (bo Tryz.f159)).getD 0 .skip))),(.loop (nA ((dA (bo Tryz.f159)).getD 1 .skip))),(.loop (nA ((dA (bo Tryz.f159)).getD 2 .skip))),(.loop (nA ((dA (bo Tryz.f159)).getD 3 .skip)))]) (by kernel_rfl) (cA.cons (cQ (by kernel_rfl)) (cA.cons (Q18.k7 N) (cA.cons (Q18.k11 N) (cA.cons (Q18.k21 N) cA.nil))))) ((Q18.f_eq ..).trans h) fun v b e=>by unfold Q18.dec at e;split at e<;>cases e;exact⟨rfl,rfl⟩
theorem Q18.ent_ok (N:Nat):oA Tryz.prog 159 (Q18.ent N):=sA fun v a e h=>by split at h;exact nB (Q:=fun e=>eA _ _ _ _ (e a).pick.1 (e a).pick.2) h fun k=>Q18.spec N _ _ a k;cases h
noncomputable def Q19.f (N:Nat)(a b:List Int):Option (List Int×List Int×Int):=
 bif (b.length:Int)==0 then
  some ([],[],11)
 else
 (Q7.f N a b).bind fun f=>
 bif decide (f<0)then
  some ([],a,0)
 else
 bif (b.length:Int)==1 then
  bif jB a.length 4 then
   bif decide (0<(b.length:Int))then
    (Q14.f N 0 a.length (b.getD 0 0) a).bind fun c=>
    (Q2.f N 0 c.2.length c.2).bind fun d=>
    (Q5.f N (jA c.1)).bind fun g=>
    some ((d.2.2.drop d.1).take d.2.1,g,0)
   else none
  else none
 else
 (Q18.f N a b).bind fun e=>
 some (e.1,e.2,0)
noncomputable def Q19.E (N:Nat):jC:=iD [(78,aL),(98,kO),(110,lF),(143,pF)] [(157,Q7.ent N),(158,Q14.ent N),(152,Q2.ent N),(122,Q5.ent N),(159,Q18.ent N)] [] [] N [.cell 4 110,.cell 5 110,.tmp 6] [.recd [.il .u32 1],.recd [.il .u32 1],.any] 0 47
noncomputable def Q19.dec (v:V)(bs:List rA):Option (List Int×List Int×Int):=match v,bs with
 | .tup [.agg [.il .u32 1 a],.agg [.il .u32 1 b],.c (.int .i64 c)],[]=>some (a,b,c)
 |_,_=>none
theorem Q19.f_eq (N:Nat)(a b:List Int):
  aB (Q19.E N) (bo Tryz.f145) [.agg [.il .u32 1 a],.agg [.il .u32 1 b]] [] Q19.dec=Q19.f N a b:=by kernel_rfl
noncomputable def Q19.ent (N:Nat):uA:=tD (List Int×List Int×Int) 0 [true,true] [.recd [.il .u32 1],.recd [.il .u32 1]] fun
 | [.agg [.il .u32 1 a],.agg [.il .u32 1 b]]=>some (Q19.f N a b,fun r=>.one (.tup [.agg [.il .u32 1 r.1],.agg [.il .u32 1 r.2.1],.c (.int .i64 r.2.2)]) [])
 |_=>none
theorem Q19.env (N:Nat):yA Tryz.prog (Q19.E N):=⟨(.cons zD (.cons vE (.cons oC (.cons tC .nil)))),(.cons (Q7.ent_ok N) (.cons (Q14.ent_ok N) (.cons (Q2.ent_ok N) (.cons (Q5.ent_ok N) (.cons (Q18.ent_ok N) .nil)))))⟩
theorem Q19.spec (N:Nat)(a c:List Int)(r:List Int×List Int×Int)(h:Q19.f N a c=some r):eA Tryz.prog 145 [.agg [.il .u32 1 a],.agg [.il .u32 1 c]] [] (.tup [.agg [.il .u32 1 r.1],.agg [.il .u32 1 r.2.1],.c (.int .i64 r.2.2)]) ([]):=pA (Q19.env N) bA Tryz.func145 cA.n ((Q19.f_eq ..).trans h) fun v b e=>by unfold Q19.dec at e;split at e<;>cases e;exact⟨rfl,rfl⟩
theorem Q19.ent_ok (N:Nat):oA Tryz.prog 145 (Q19.ent N):=sA fun v a e h=>by split at h;exact nB (Q:=fun e=>eA _ _ _ _ (e a).pick.1 (e a).pick.2) h fun k=>Q19.spec N _ _ a k;cases h
noncomputable def Q20.l1 {R:Type}(N:Nat):Nat→List Int→List Int→(List Int→Option R)→Option R
 |0,_,_,_=>none
 |n+1,c,a,b=>
  bif decide ((a.length:Int)>0)then
   (Q19.f N c a).bind fun d=>
   Q20.l1 N n a d.2.1 b
  else
  b c
noncomputable def Q20.f (N:Nat)(a b:List Int):Option (List Int):=
 Q20.l1 N N a b
  (fun c=>
   some c)
noncomputable def Q20.h1:cC:=⟨[(2,.box [.il .u32 1]),(3,.box [.il .u32 1]),(4,.box [.any])],[(2,.box [.il .u32 1]),(4,.box [.any])]⟩
noncomputable def Q20.c1 (N:Nat):nF:=⟨fun vs H k=>match vs,H with
 | [.ptr 0 0 1,.ptr 1 0 1,.ptr 2 0 1],[.vals [.il .u32 1 a],.vals [.il .u32 1 b],.vals [.c (.slice none 0 0)]]=>Q20.l1 N N a b (fun c=>k (.exit 0) ⟨fC Q20.h1.out [.ptr 0 0 1,.ptr 1 0 1],[.vals [.il .u32 1 c],.vals [.c (.slice none 0 0)]]⟩)
 |_,_=>none⟩
noncomputable def Q20.E (N:Nat):jC:=iD [(98,kO),(110,lF)] [(145,Q19.ent N)] [(1,Q20.h1)] [(1,Q20.c1 N)] N [.cell 4 110] [.recd [.il .u32 1]] 0 22
noncomputable def Q20.b1:Code:=nA ((dA (bo Tryz.f118)).getD 0 .skip)
theorem Q20.l1_eq {R:Type}(N n:Nat)(a b:List Int)(k:Ex→St→Option R):
  dB 0 Q20.h1 (fun s k=>bB (Q20.E N) 396 Q20.b1 s k) n [.ptr 0 0 1,.ptr 1 0 1,.ptr 2 0 1] [.vals [.il .u32 1 a],.vals [.il .u32 1 b],.vals [.c (.slice none 0 0)]] k=Q20.l1 N n a b (fun c=>k (.exit 0) ⟨fC Q20.h1.out [.ptr 0 0 1,.ptr 1 0 1],[.vals [.il .u32 1 c],.vals [.c (.slice none 0 0)]]⟩):=by
 induction n generalizing a b with
 |zero=>kernel_rfl
 |succ n ih=>
  simp only[Q20.l1,←ih]
  kernel_rfl
noncomputable def Q20.dec (v:V)(bs:List rA):Option (List Int):=match v,bs with
 | .agg [.il .u32 1 a],[]=>some a
 |_,_=>none
theorem Q20.f_eq (N:Nat)(a b:List Int):
  aB (Q20.E N) (bo Tryz.f118) [.agg [.il .u32 1 a],.agg [.il .u32 1 b]] [] Q20.dec=Q20.f N a b:=by kernel_rfl
noncomputable def Q20.ent (N:Nat):uA:=tD (List Int) 0 [true,true] [.recd [.il .u32 1],.recd [.il .u32 1]] fun
 | [.agg [.il .u32 1 a],.agg [.il .u32 1 b]]=>some (Q20.f N a b,fun r=>.one (.agg [.il .u32 1 r]) [])
 |_=>none
theorem Q20.env (N:Nat):yA Tryz.prog (Q20.E N):=⟨(.cons vE (.cons oC .nil)),(.cons (Q19.ent_ok N) .nil)⟩
theorem Q20.k1 (N:Nat):gB Tryz.prog Tryz.f118 (Q20.E N) (.loop Q20.b1):=dC (Q20.env N) bA 396 (c:=Q20.c1 N) cA.n fun R vs H k r h=>by unfold Q20.c1 at h;dsimp only at h;split at h;exact⟨_,Q20.l1_eq .. ▸h⟩;cases h
theorem Q20.spec (N:Nat)(a c r:List Int)(h:Q20.f N a c=some r):eA Tryz.prog 118 [.agg [.il .u32 1 a],.agg [.il .u32 1 c]] [] (.agg [.il .u32 1 r]) ([]):=pA (Q20.env N) bA Tryz.func118 (cA.of (l:=[(.loop (nA ((dA (bo Tryz.f118)).getD 0 .skip)))]) (by kernel_rfl) (cA.cons (Q20.k1 N) cA.nil)) ((Q20.f_eq ..).trans h) fun v b e=>by unfold Q20.dec at e;split at e<;>cases e;exact⟨rfl,rfl⟩
theorem Q20.ent_ok (N:Nat):oA Tryz.prog 118 (Q20.ent N):=sA fun v a e h=>by split at h;exact nB (Q:=fun e=>eA _ _ _ _ (e a).pick.1 (e a).pick.2) h fun k=>Q20.spec N _ _ a k;cases h
noncomputable def dM:TI:=⟨.slice 143,1,24,[.slice none 0 0]⟩
theorem dE:zC Tryz.prog 99 dM:=gD (by kernel_rfl) (by kernel_rfl) (by kernel_rfl) (by kernel_rfl) (by kernel_rfl) (by kernel_rfl) (by kernel_rfl) (Tryz.underlying99) (by kernel_rfl)
noncomputable def Q21.l2 {R:Type}(N:Nat):Nat→Nat→Nat→Int→List Int→(Nat→Nat→Int→List Int→Option R)→Option R
 |0,_,_,_,_,_=>none
 |n+1,b,c,a,d,e=>
  bif decide (a>0)then
   bif (decide (0≤(aA (a-1))))&&(decide ((aA (a-1))<(c:Int)))then
    bif (d.getD (b+((aA (a-1)).toNat)) 0)==0 then
     Q21.l2 N n b c (aA (a-1)) d e
    else
    e b c a d
   else none
  else
  e b c a d
noncomputable def Q21.f (N f e:Nat)(g:List Int):Option (Nat×Nat×List Int):=
 Q21.l2 N N f e (e:Int) g
  (fun c a b d=>
   bif ((decide (0≤b))&&(decide (b≤(a:Int))))&&(decide ((a:Int)≤(a:Int)))then
    some (c,b.toNat,d)
   else none)
noncomputable def Q21.h2:cC:=⟨[(0,.any),(3,.any)],[(0,.any),(3,.any)]⟩
noncomputable def Q21.c2 (N:Nat):nF:=⟨fun vs H k=>match vs,H with
 | [.sl 0 1 c d,.c (.int .i64 e)],[.ints .u32 f]=>Q21.l2 N N c d e f (fun g h a b=>k (.exit 0) ⟨fC Q21.h2.out [.sl 0 1 g h,.c (.int .i64 a)],[.ints .u32 b]⟩)
 |_,_=>none⟩
noncomputable def Q21.E (N:Nat):jC:=iD [(99,dM),(143,pF)] [] [(2,Q21.h2)] [(2,Q21.c2 N)] N [.tmp 2] [.any] 1 21
noncomputable def Q21.b2:Code:=nA ((dA (bo Tryz.f135)).getD 0 .skip)
theorem Q21.l2_eq {R:Type}(N n c d:Nat)(e:Int)(f:List Int)(k:Ex→St→Option R):
  dB 1 Q21.h2 (fun s k=>bB (Q21.E N) 395 Q21.b2 s k) n [.sl 0 1 c d,.c (.int .i64 e)] [.ints .u32 f] k=Q21.l2 N n c d e f (fun g h a b=>k (.exit 0) ⟨fC Q21.h2.out [.sl 0 1 g h,.c (.int .i64 a)],[.ints .u32 b]⟩):=by
 induction n generalizing c d e f with
 |zero=>kernel_rfl
 |succ n ih=>
  simp only[Q21.l2,←ih]
  kernel_rfl
noncomputable def Q21.dec (v:V)(bs:List rA):Option (Nat×Nat×List Int):=match v,bs with
 | .sl 0 1 a b,[.ints .u32 c]=>some (a,b,c)
 |_,_=>none
theorem Q21.f_eq (N a b:Nat)(c:List Int):
  aB (Q21.E N) (bo Tryz.f135) [.sl 0 1 a b] [.ints .u32 c] Q21.dec=Q21.f N a b c:=by kernel_rfl
noncomputable def Q21.ent (N:Nat):uA:={A:=Nat×Nat×List Int,fresh:=0,imm:=[false],dec:=fun args bs=>match fG (qA bs) [true] args,bs with
 | [.sl 0 1 a b],[.ints .u32 c]=>some (Q21.f N a b c,fun r=>.one (.sl 0 1 r.1 r.2.1) [.ints .u32 r.2.2])
 |_,_=>none}
theorem Q21.env (N:Nat):yA Tryz.prog (Q21.E N):=⟨(.cons dE (.cons tC .nil)),.nil⟩
theorem Q21.k2 (N:Nat):gB Tryz.prog Tryz.f135 (Q21.E N) (.loop Q21.b2):=dC (Q21.env N) bA 395 (c:=Q21.c2 N) cA.n fun R vs H k r h=>by unfold Q21.c2 at h;dsimp only at h;split at h;exact⟨_,Q21.l2_eq .. ▸h⟩;cases h
theorem Q21.spec (N a c:Nat)(d:List Int)(r:Nat×Nat×List Int)(h:Q21.f N a c d=some r):eA Tryz.prog 135 [.sl 0 1 a c] [.ints .u32 d] (.sl 0 1 r.1 r.2.1) ([.ints .u32 r.2.2]):=pA (Q21.env N) bA Tryz.func135 (cA.of (l:=[(.loop (nA ((dA (bo Tryz.f135)).getD 0 .skip)))]) (by kernel_rfl) (cA.cons (Q21.k2 N) cA.nil)) ((Q21.f_eq ..).trans h) fun v b e=>by unfold Q21.dec at e;split at e<;>cases e;exact⟨rfl,rfl⟩
theorem Q21.ent_ok (N:Nat):oA Tryz.prog 135 (Q21.ent N):=by
 intro args bs a enc h;simp only[Q21.ent]at h;split at h
 ·rename_i hz;have h0:=Option.some.inj h;have h1:=congrArg Prod.fst h0;have h2:=congrArg Prod.snd h0;dsimp only at h1 h2;subst h2;exact eA.of_asSl (fl:=[true]) (by rw[hz];exact Q21.spec N _ _ _ a h1)
 ·cases h
noncomputable def Q22.l2 {R:Type}(N:Nat):Nat→Int→List Int→(List Int→Option R)→Option R
 |0,_,_,_=>none
 |n+1,a,b,c=>
  bif decide (a>0)then
   bif jB (b.length+1) 4 then
    Q22.l2 N n (jA (Int.tdiv a 65536)) (b++[rB (Int.tmod a 65536)]) c
   else none
  else
  c b
noncomputable def Q22.f (N:Nat)(a:Int):Option (List Int):=
 Q22.l2 N N a []
  (fun b=>
   some b)
noncomputable def Q22.h2:cC:=⟨[(0,.any),(3,.row .u32 1)],[(3,.row .u32 1)]⟩
noncomputable def Q22.c2 (N:Nat):nF:=⟨fun vs H k=>match vs,H with
 | [.c (.int .u64 a),.sw 0 1],[.ints .u32 b]=>Q22.l2 N N a b (fun c=>k (.exit 0) ⟨fC Q22.h2.out [.sw 0 1],[.ints .u32 c]⟩)
 |_,_=>none⟩
noncomputable def Q22.E (N:Nat):jC:=iD [(78,aL),(99,dM),(143,pF)] [] [(2,Q22.h2)] [(2,Q22.c2 N)] N [.tmp 2] [.il .u32 1] 0 15
noncomputable def Q22.b2:Code:=nA ((dA (bo Tryz.f99)).getD 0 .skip)
theorem Q22.l2_eq {R:Type}(N n:Nat)(a:Int)(b:List Int)(k:Ex→St→Option R):
  dB 0 Q22.h2 (fun s k=>bB (Q22.E N) 395 Q22.b2 s k) n [.c (.int .u64 a),.sw 0 1] [.ints .u32 b] k=Q22.l2 N n a b (fun c=>k (.exit 0) ⟨fC Q22.h2.out [.sw 0 1],[.ints .u32 c]⟩):=by
 induction n generalizing a b with
 |zero=>kernel_rfl
 |succ n ih=>
  simp only[Q22.l2,←ih]
  kernel_rfl
noncomputable def Q22.dec (v:V)(bs:List rA):Option (List Int):=match v,bs with
 | .il .u32 1 a,[]=>some a
 |_,_=>none
theorem Q22.f_eq (N:Nat)(a:Int):
  aB (Q22.E N) (bo Tryz.f99) [.c (.int .u64 a)] [] Q22.dec=Q22.f N a:=by kernel_rfl
noncomputable def Q22.ent (N:Nat):uA:=tD (List Int) 0 [true] [.any] fun
 | [.c (.int .u64 a)]=>some (Q22.f N a,fun r=>.one (.il .u32 1 r) [])
 |_=>none
theorem Q22.env (N:Nat):yA Tryz.prog (Q22.E N):=⟨(.cons zD (.cons dE (.cons tC .nil))),.nil⟩
theorem Q22.k2 (N:Nat):gB Tryz.prog Tryz.f99 (Q22.E N) (.loop Q22.b2):=dC (Q22.env N) bA 395 (c:=Q22.c2 N) cA.n fun R vs H k r h=>by unfold Q22.c2 at h;dsimp only at h;split at h;exact⟨_,Q22.l2_eq .. ▸h⟩;cases h
theorem Q22.spec (N:Nat)(a:Int)(r:List Int)(h:Q22.f N a=some r):eA Tryz.prog 99 [.c (.int .u64 a)] [] (.il .u32 1 r) ([]):=pA (Q22.env N) bA Tryz.func99 (cA.of (l:=[(.loop (nA ((dA (bo Tryz.f99)).getD 0 .skip)))]) (by kernel_rfl) (cA.cons (Q22.k2 N) cA.nil)) ((Q22.f_eq ..).trans h) fun v b e=>by unfold Q22.dec at e;split at e<;>cases e;exact⟨rfl,rfl⟩
theorem Q22.ent_ok (N:Nat):oA Tryz.prog 99 (Q22.ent N):=sA fun v a e h=>by split at h;exact nB (Q:=fun e=>eA _ _ _ _ (e a).pick.1 (e a).pick.2) h fun k=>Q22.spec N _ a k;cases h
noncomputable def Q23.l5 {R:Type}(N:Nat):Nat→List Int→Int→Int→(Int→Option R)→Option R
 |0,_,_,_,_=>none
 |n+1,b,d,a,c=>
  bif decide (a≥0)then
   bif (decide (0≤a))&&(decide (a<(b.length:Int)))then
    Q23.l5 N n b (jA ((jA (d*65536))+(jA (b.getD a.toNat 0)))) (aA (a-1)) c
   else none
  else
  c d
noncomputable def Q23.f (N:Nat)(a:List Int):Option (Int×Bool):=
 bif decide ((a.length:Int)>4)then
  some (0,false)
 else
 Q23.l5 N N a 0 (aA ((a.length:Int)-1))
  (fun b=>
   some (b,true))
noncomputable def Q23.h5:cC:=⟨[(0,.il .u32 1),(4,.any),(5,.any)],[(4,.any)]⟩
noncomputable def Q23.c5 (N:Nat):nF:=⟨fun vs H k=>match vs,H with
 | [.il .u32 1 a,.c (.int .u64 b),.c (.int .i64 c)],[]=>Q23.l5 N N a b c (fun d=>k (.exit 0) ⟨fC Q23.h5.out [.c (.int .u64 d)],[]⟩)
 |_,_=>none⟩
noncomputable def Q23.E (N:Nat):jC:=iD [(78,aL),(99,dM),(143,pF)] [] [(5,Q23.h5)] [(5,Q23.c5 N)] N [.tmp 2,.tmp 3] [.any,.any] 0 25
noncomputable def Q23.b5:Code:=nA ((dA (bo Tryz.f132)).getD 0 .skip)
theorem Q23.l5_eq {R:Type}(N n:Nat)(a:List Int)(b c:Int)(k:Ex→St→Option R):
  dB 0 Q23.h5 (fun s k=>bB (Q23.E N) 393 Q23.b5 s k) n [.il .u32 1 a,.c (.int .u64 b),.c (.int .i64 c)] [] k=Q23.l5 N n a b c (fun d=>k (.exit 0) ⟨fC Q23.h5.out [.c (.int .u64 d)],[]⟩):=by
 induction n generalizing a b c with
 |zero=>kernel_rfl
 |succ n ih=>
  simp only[Q23.l5,←ih]
  kernel_rfl
noncomputable def Q23.dec (v:V)(bs:List rA):Option (Int×Bool):=match v,bs with
 | .tup [.c (.int .u64 a),.c (.bool b)],[]=>some (a,b)
 |_,_=>none
theorem Q23.f_eq (N:Nat)(a:List Int):
  aB (Q23.E N) (bo Tryz.f132) [.il .u32 1 a] [] Q23.dec=Q23.f N a:=by kernel_rfl
noncomputable def Q23.ent (N:Nat):uA:=tD (Int×Bool) 0 [true] [.il .u32 1] fun
 | [.il .u32 1 a]=>some (Q23.f N a,fun r=>.one (.tup [.c (.int .u64 r.1),.c (.bool r.2)]) [])
 |_=>none
theorem Q23.env (N:Nat):yA Tryz.prog (Q23.E N):=⟨(.cons zD (.cons dE (.cons tC .nil))),.nil⟩
theorem Q23.k5 (N:Nat):gB Tryz.prog Tryz.f132 (Q23.E N) (.loop Q23.b5):=dC (Q23.env N) bA 393 (c:=Q23.c5 N) cA.n fun R vs H k r h=>by unfold Q23.c5 at h;dsimp only at h;split at h;exact⟨_,Q23.l5_eq .. ▸h⟩;cases h
theorem Q23.spec (N:Nat)(a:List Int)(r:Int×Bool)(h:Q23.f N a=some r):eA Tryz.prog 132 [.il .u32 1 a] [] (.tup [.c (.int .u64 r.1),.c (.bool r.2)]) ([]):=pA (Q23.env N) bA Tryz.func132 (cA.of (l:=[(.loop (nA ((dA (bo Tryz.f132)).getD 0 .skip)))]) (by kernel_rfl) (cA.cons (Q23.k5 N) cA.nil)) ((Q23.f_eq ..).trans h) fun v b e=>by unfold Q23.dec at e;split at e<;>cases e;exact⟨rfl,rfl⟩
theorem Q23.ent_ok (N:Nat):oA Tryz.prog 132 (Q23.ent N):=sA fun v a e h=>by split at h;exact nB (Q:=fun e=>eA _ _ _ _ (e a).pick.1 (e a).pick.2) h fun k=>Q23.spec N _ a k;cases h
noncomputable def Q24.l5 {R:Type}(N:Nat):Nat→Int→Int→(Int→Option R)→Option R
 |0,_,_,_=>none
 |n+1,b,c,a=>
  bif decide (c>0)then
   Q24.l5 N n (aA (b+1)) (rB (Int.tdiv c 2)) a
  else
  a b
noncomputable def Q24.f (N:Nat)(a:List Int):Option (Int):=
 bif (a.length:Int)==0 then
  some 0
 else
 bif (decide (0≤(aA ((a.length:Int)-1))))&&(decide ((aA ((a.length:Int)-1))<(a.length:Int)))then
  Q24.l5 N N (aA (16*(aA ((a.length:Int)-1)))) (a.getD ((aA ((a.length:Int)-1)).toNat) 0)
   (fun b=>
    some b)
 else none
noncomputable def Q24.h5:cC:=⟨[(3,.any),(4,.any)],[(3,.any)]⟩
noncomputable def Q24.c5 (N:Nat):nF:=⟨fun vs H k=>match vs,H with
 | [.c (.int .i64 a),.c (.int .u32 b)],[]=>Q24.l5 N N a b (fun c=>k (.exit 0) ⟨fC Q24.h5.out [.c (.int .i64 c)],[]⟩)
 |_,_=>none⟩
noncomputable def Q24.E (N:Nat):jC:=iD [(99,dM),(143,pF)] [] [(5,Q24.h5)] [(5,Q24.c5 N)] N [.tmp 2] [.any] 0 25
noncomputable def Q24.b5:Code:=nA ((dA (bo Tryz.f134)).getD 0 .skip)
theorem Q24.l5_eq {R:Type}(N n:Nat)(a b:Int)(k:Ex→St→Option R):
  dB 0 Q24.h5 (fun s k=>bB (Q24.E N) 393 Q24.b5 s k) n [.c (.int .i64 a),.c (.int .u32 b)] [] k=Q24.l5 N n a b (fun c=>k (.exit 0) ⟨fC Q24.h5.out [.c (.int .i64 c)],[]⟩):=by
 induction n generalizing a b with
 |zero=>kernel_rfl
 |succ n ih=>
  simp only[Q24.l5,←ih]
  kernel_rfl
noncomputable def Q24.dec (v:V)(bs:List rA):Option (Int):=match v,bs with
 | .c (.int .i64 a),[]=>some a
 |_,_=>none
theorem Q24.f_eq (N:Nat)(a:List Int):
  aB (Q24.E N) (bo Tryz.f134) [.il .u32 1 a] [] Q24.dec=Q24.f N a:=by kernel_rfl
noncomputable def Q24.ent (N:Nat):uA:=tD (Int) 0 [true] [.il .u32 1] fun
 | [.il .u32 1 a]=>some (Q24.f N a,fun r=>.one (.c (.int .i64 r)) [])
 |_=>none
theorem Q24.env (N:Nat):yA Tryz.prog (Q24.E N):=⟨(.cons dE (.cons tC .nil)),.nil⟩
theorem Q24.k5 (N:Nat):gB Tryz.prog Tryz.f134 (Q24.E N) (.loop Q24.b5):=dC (Q24.env N) bA 393 (c:=Q24.c5 N) cA.n fun R vs H k r h=>by unfold Q24.c5 at h;dsimp only at h;split at h;exact⟨_,Q24.l5_eq .. ▸h⟩;cases h
theorem Q24.spec (N:Nat)(a:List Int)(r:Int)(h:Q24.f N a=some r):eA Tryz.prog 134 [.il .u32 1 a] [] (.c (.int .i64 r)) ([]):=pA (Q24.env N) bA Tryz.func134 (cA.of (l:=[(.loop (nA ((dA (bo Tryz.f134)).getD 0 .skip)))]) (by kernel_rfl) (cA.cons (Q24.k5 N) cA.nil)) ((Q24.f_eq ..).trans h) fun v b e=>by unfold Q24.dec at e;split at e<;>cases e;exact⟨rfl,rfl⟩
theorem Q24.ent_ok (N:Nat):oA Tryz.prog 134 (Q24.ent N):=sA fun v a e h=>by split at h;exact nB (Q:=fun e=>eA _ _ _ _ (e a).pick.1 (e a).pick.2) h fun k=>Q24.spec N _ a k;cases h
noncomputable def Q25.l6 {R:Type}(N:Nat):Nat→List Int→List Int→Int→(Unit→Option R)→(Int→Option R)→Option R
 |0,_,_,_,_,_=>none
 |n+1,b,c,a,d,kr=>
  bif decide (a≥0)then
   bif (decide (0≤a))&&(decide (a<(b.length:Int)))then
    bif (decide (0≤a))&&(decide (a<(c.length:Int)))then
     bif decide ((b.getD a.toNat 0)<(c.getD a.toNat 0))then
      kr (-1)
     else
     bif (decide (0≤a))&&(decide (a<(b.length:Int)))then
      bif (decide (0≤a))&&(decide (a<(c.length:Int)))then
       bif decide ((b.getD a.toNat 0)>(c.getD a.toNat 0))then
        kr 1
       else
       Q25.l6 N n b c (aA (a-1)) d kr
      else none
     else none
    else none
   else none
  else
  d ()
noncomputable def Q25.f (N:Nat)(a b:List Int):Option (Int):=
 bif (a.length:Int) != (b.length:Int)then
  bif decide ((a.length:Int)<(b.length:Int))then
   some (-1)
  else
  some 1
 else
 Q25.l6 N N a b (aA ((a.length:Int)-1))
  (fun(_:Unit)=>
   some 0)
  (fun c=>
   some c)
noncomputable def Q25.h6:cC:=⟨[(0,.il .u32 1),(1,.il .u32 1),(5,.any)],[]⟩
noncomputable def Q25.c6 (N:Nat):nF:=⟨fun vs H k=>match vs,H with
 | [.il .u32 1 a,.il .u32 1 b,.c (.int .i64 c)],[]=>Q25.l6 N N a b c (fun(_:Unit)=>k (.exit 0) ⟨fC Q25.h6.out [],[]⟩) (fun d=>k (.ret (.c (.int .i64 d)) []) .nil)
 |_,_=>none⟩
noncomputable def Q25.E (N:Nat):jC:=iD [(99,dM),(143,pF)] [] [(6,Q25.h6)] [(6,Q25.c6 N)] N [.tmp 4] [.any] 0 41
noncomputable def Q25.b6:Code:=nA ((dA (bo Tryz.f97)).getD 0 .skip)
theorem Q25.l6_eq {R:Type}(N n:Nat)(a b:List Int)(c:Int)(k:Ex→St→Option R):
  dB 0 Q25.h6 (fun s k=>bB (Q25.E N) 394 Q25.b6 s k) n [.il .u32 1 a,.il .u32 1 b,.c (.int .i64 c)] [] k=Q25.l6 N n a b c (fun(_:Unit)=>k (.exit 0) ⟨fC Q25.h6.out [],[]⟩) (fun d=>k (.ret (.c (.int .i64 d)) []) .nil):=by
 induction n generalizing a b c with
 |zero=>kernel_rfl
 |succ n ih=>
  simp only[Q25.l6,←ih]
  kernel_rfl
noncomputable def Q25.dec (v:V)(bs:List rA):Option (Int):=match v,bs with
 | .c (.int .i64 a),[]=>some a
 |_,_=>none
theorem Q25.f_eq (N:Nat)(a b:List Int):
  aB (Q25.E N) (bo Tryz.f97) [.il .u32 1 a,.il .u32 1 b] [] Q25.dec=Q25.f N a b:=by kernel_rfl
noncomputable def Q25.ent (N:Nat):uA:=tD (Int) 0 [true,true] [.il .u32 1,.il .u32 1] fun
 | [.il .u32 1 a,.il .u32 1 b]=>some (Q25.f N a b,fun r=>.one (.c (.int .i64 r)) [])
 |_=>none
theorem Q25.env (N:Nat):yA Tryz.prog (Q25.E N):=⟨(.cons dE (.cons tC .nil)),.nil⟩
theorem Q25.k6 (N:Nat):gB Tryz.prog Tryz.f97 (Q25.E N) (.loop Q25.b6):=dC (Q25.env N) bA 394 (c:=Q25.c6 N) cA.n fun R vs H k r h=>by unfold Q25.c6 at h;dsimp only at h;split at h;exact⟨_,Q25.l6_eq .. ▸h⟩;cases h
theorem Q25.spec (N:Nat)(a c:List Int)(r:Int)(h:Q25.f N a c=some r):eA Tryz.prog 97 [.il .u32 1 a,.il .u32 1 c] [] (.c (.int .i64 r)) ([]):=pA (Q25.env N) bA Tryz.func97 (cA.of (l:=[(.loop (nA ((dA (bo Tryz.f97)).getD 0 .skip)))]) (by kernel_rfl) (cA.cons (Q25.k6 N) cA.nil)) ((Q25.f_eq ..).trans h) fun v b e=>by unfold Q25.dec at e;split at e<;>cases e;exact⟨rfl,rfl⟩
theorem Q25.ent_ok (N:Nat):oA Tryz.prog 97 (Q25.ent N):=sA fun v a e h=>by split at h;exact nB (Q:=fun e=>eA _ _ _ _ (e a).pick.1 (e a).pick.2) h fun k=>Q25.spec N _ _ a k;cases h
noncomputable def Q26.l4 {R:Type}(N:Nat):Nat→List Int→List Int→Int→Int→List Int→(List Int→Option R)→Option R
 |0,_,_,_,_,_,_=>none
 |n+1,c,b,d,a,e,f=>
  bif decide (a<(c.length:Int))then
   bif decide (a<(c.length:Int))then
    bif (decide (0≤a))&&(decide (a<(c.length:Int)))then
     bif decide (a<(b.length:Int))then
      bif (decide (0≤a))&&(decide (a<(b.length:Int)))then
       bif jB (e.length+1) 4 then
        Q26.l4 N n c b (rB (Int.tdiv (rB ((rB (d+(c.getD a.toNat 0)))+(b.getD a.toNat 0))) 65536)) (aA (a+1)) (e++[Int.tmod (rB ((rB (d+(c.getD a.toNat 0)))+(b.getD a.toNat 0))) 65536]) f
       else none
      else none
     else
     bif jB (e.length+1) 4 then
      Q26.l4 N n c b (rB (Int.tdiv (rB (d+(c.getD a.toNat 0))) 65536)) (aA (a+1)) (e++[Int.tmod (rB (d+(c.getD a.toNat 0))) 65536]) f
     else none
    else none
   else
   bif decide (a<(b.length:Int))then
    bif (decide (0≤a))&&(decide (a<(b.length:Int)))then
     bif jB (e.length+1) 4 then
      Q26.l4 N n c b (rB (Int.tdiv (rB (d+(b.getD a.toNat 0))) 65536)) (aA (a+1)) (e++[Int.tmod (rB (d+(b.getD a.toNat 0))) 65536]) f
     else none
    else none
   else
   bif jB (e.length+1) 4 then
    Q26.l4 N n c b (rB (Int.tdiv d 65536)) (aA (a+1)) (e++[Int.tmod d 65536]) f
   else none
  else
  bif decide (a<(b.length:Int))then
   bif decide (a<(c.length:Int))then
    bif (decide (0≤a))&&(decide (a<(c.length:Int)))then
     bif decide (a<(b.length:Int))then
      bif (decide (0≤a))&&(decide (a<(b.length:Int)))then
       bif jB (e.length+1) 4 then
        Q26.l4 N n c b (rB (Int.tdiv (rB ((rB (d+(c.getD a.toNat 0)))+(b.getD a.toNat 0))) 65536)) (aA (a+1)) (e++[Int.tmod (rB ((rB (d+(c.getD a.toNat 0)))+(b.getD a.toNat 0))) 65536]) f
       else none
      else none
     else
     bif jB (e.length+1) 4 then
      Q26.l4 N n c b (rB (Int.tdiv (rB (d+(c.getD a.toNat 0))) 65536)) (aA (a+1)) (e++[Int.tmod (rB (d+(c.getD a.toNat 0))) 65536]) f
     else none
    else none
   else
   bif decide (a<(b.length:Int))then
    bif (decide (0≤a))&&(decide (a<(b.length:Int)))then
     bif jB (e.length+1) 4 then
      Q26.l4 N n c b (rB (Int.tdiv (rB (d+(b.getD a.toNat 0))) 65536)) (aA (a+1)) (e++[Int.tmod (rB (d+(b.getD a.toNat 0))) 65536]) f
     else none
    else none
   else
   bif jB (e.length+1) 4 then
    Q26.l4 N n c b (rB (Int.tdiv d 65536)) (aA (a+1)) (e++[Int.tmod d 65536]) f
   else none
  else
  bif decide (d>0)then
   bif decide (a<(c.length:Int))then
    bif (decide (0≤a))&&(decide (a<(c.length:Int)))then
     bif decide (a<(b.length:Int))then
      bif (decide (0≤a))&&(decide (a<(b.length:Int)))then
       bif jB (e.length+1) 4 then
        Q26.l4 N n c b (rB (Int.tdiv (rB ((rB (d+(c.getD a.toNat 0)))+(b.getD a.toNat 0))) 65536)) (aA (a+1)) (e++[Int.tmod (rB ((rB (d+(c.getD a.toNat 0)))+(b.getD a.toNat 0))) 65536]) f
       else none
      else none
     else
     bif jB (e.length+1) 4 then
      Q26.l4 N n c b (rB (Int.tdiv (rB (d+(c.getD a.toNat 0))) 65536)) (aA (a+1)) (e++[Int.tmod (rB (d+(c.getD a.toNat 0))) 65536]) f
     else none
    else none
   else
   bif decide (a<(b.length:Int))then
    bif (decide (0≤a))&&(decide (a<(b.length:Int)))then
     bif jB (e.length+1) 4 then
      Q26.l4 N n c b (rB (Int.tdiv (rB (d+(b.getD a.toNat 0))) 65536)) (aA (a+1)) (e++[Int.tmod (rB (d+(b.getD a.toNat 0))) 65536]) f
     else none
    else none
   else
   bif jB (e.length+1) 4 then
    Q26.l4 N n c b (rB (Int.tdiv d 65536)) (aA (a+1)) (e++[Int.tmod d 65536]) f
   else none
  else
  f e
noncomputable def Q26.f (N:Nat)(c d:List Int):Option (List Int):=
 Q26.l4 N N c d 0 0 []
  (fun b=>
   (Q21.f N 0 b.length b).bind fun a=>
   some ((a.2.2.drop a.1).take a.2.1))
noncomputable def Q26.h4:cC:=⟨[(0,.il .u32 1),(1,.il .u32 1),(5,.row .u32 1),(6,.any),(7,.any)],[(5,.row .u32 1)]⟩
noncomputable def Q26.c4 (N:Nat):nF:=⟨fun vs H k=>match vs,H with
 | [.il .u32 1 a,.il .u32 1 b,.sw 0 1,.c (.int .u32 c),.c (.int .i64 d)],[.ints .u32 e]=>Q26.l4 N N a b c d e (fun f=>k (.exit 0) ⟨fC Q26.h4.out [.sw 0 1],[.ints .u32 f]⟩)
 |_,_=>none⟩
noncomputable def Q26.E (N:Nat):jC:=iD [(99,dM),(143,pF)] [(135,Q21.ent N)] [(4,Q26.h4)] [(4,Q26.c4 N)] N [.tmp 4] [.il .u32 1] 0 55
noncomputable def Q26.b4:Code:=nA ((dA (bo Tryz.f96)).getD 0 .skip)
theorem Q26.l4_eq {R:Type}(N n:Nat)(a b:List Int)(c d:Int)(e:List Int)(k:Ex→St→Option R):
  dB 0 Q26.h4 (fun s k=>bB (Q26.E N) 393 Q26.b4 s k) n [.il .u32 1 a,.il .u32 1 b,.sw 0 1,.c (.int .u32 c),.c (.int .i64 d)] [.ints .u32 e] k=Q26.l4 N n a b c d e (fun f=>k (.exit 0) ⟨fC Q26.h4.out [.sw 0 1],[.ints .u32 f]⟩):=by
 induction n generalizing a b c d e with
 |zero=>kernel_rfl
 |succ n ih=>
  simp only[Q26.l4,←ih]
  kernel_rfl
noncomputable def Q26.dec (v:V)(bs:List rA):Option (List Int):=match v,bs with
 | .il .u32 1 a,[]=>some a
 |_,_=>none
theorem Q26.f_eq (N:Nat)(a b:List Int):
  aB (Q26.E N) (bo Tryz.f96) [.il .u32 1 a,.il .u32 1 b] [] Q26.dec=Q26.f N a b:=by kernel_rfl
noncomputable def Q26.ent (N:Nat):uA:=tD (List Int) 0 [true,true] [.il .u32 1,.il .u32 1] fun
 | [.il .u32 1 a,.il .u32 1 b]=>some (Q26.f N a b,fun r=>.one (.il .u32 1 r) [])
 |_=>none
theorem Q26.env (N:Nat):yA Tryz.prog (Q26.E N):=⟨(.cons dE (.cons tC .nil)),(.cons (Q21.ent_ok N) .nil)⟩
theorem Q26.k4 (N:Nat):gB Tryz.prog Tryz.f96 (Q26.E N) (.loop Q26.b4):=dC (Q26.env N) bA 393 (c:=Q26.c4 N) cA.n fun R vs H k r h=>by unfold Q26.c4 at h;dsimp only at h;split at h;exact⟨_,Q26.l4_eq .. ▸h⟩;cases h
theorem Q26.spec (N:Nat)(a c r:List Int)(h:Q26.f N a c=some r):eA Tryz.prog 96 [.il .u32 1 a,.il .u32 1 c] [] (.il .u32 1 r) ([]):=pA (Q26.env N) bA Tryz.func96 (cA.of (l:=[(.loop (nA ((dA (bo Tryz.f96)).getD 0 .skip)))]) (by kernel_rfl) (cA.cons (Q26.k4 N) cA.nil)) ((Q26.f_eq ..).trans h) fun v b e=>by unfold Q26.dec at e;split at e<;>cases e;exact⟨rfl,rfl⟩
theorem Q26.ent_ok (N:Nat):oA Tryz.prog 96 (Q26.ent N):=sA fun v a e h=>by split at h;exact nB (Q:=fun e=>eA _ _ _ _ (e a).pick.1 (e a).pick.2) h fun k=>Q26.spec N _ _ a k;cases h
noncomputable def Q27.l4 {R:Type}(N:Nat):Nat→List Int→List Int→Int→Int→List Int→(List Int→Option R)→Option R
 |0,_,_,_,_,_,_=>none
 |n+1,b,c,e,a,d,f=>
  bif decide (a<(b.length:Int))then
   bif (decide (0≤a))&&(decide (a<(b.length:Int)))then
    bif decide (a<(c.length:Int))then
     bif (decide (0≤a))&&(decide (a<(c.length:Int)))then
      bif jB (d.length+1) 4 then
       Q27.l4 N n b c (rB (1- (rB (Int.tdiv (rB ((rB ((rB ((b.getD a.toNat 0)+65536))-e))- (c.getD a.toNat 0))) 65536)))) (aA (a+1)) (d++[Int.tmod (rB ((rB ((rB ((b.getD a.toNat 0)+65536))-e))- (c.getD a.toNat 0))) 65536]) f
      else none
     else none
    else
    bif jB (d.length+1) 4 then
     Q27.l4 N n b c (rB (1- (rB (Int.tdiv (rB ((rB ((b.getD a.toNat 0)+65536))-e)) 65536)))) (aA (a+1)) (d++[Int.tmod (rB ((rB ((b.getD a.toNat 0)+65536))-e)) 65536]) f
    else none
   else none
  else
  f d
noncomputable def Q27.f (N:Nat)(c d:List Int):Option (List Int):=
 Q27.l4 N N c d 0 0 []
  (fun b=>
   (Q21.f N 0 b.length b).bind fun a=>
   some ((a.2.2.drop a.1).take a.2.1))
noncomputable def Q27.h4:cC:=⟨[(0,.il .u32 1),(1,.il .u32 1),(5,.row .u32 1),(6,.any),(7,.any)],[(5,.row .u32 1)]⟩
noncomputable def Q27.c4 (N:Nat):nF:=⟨fun vs H k=>match vs,H with
 | [.il .u32 1 a,.il .u32 1 b,.sw 0 1,.c (.int .u32 c),.c (.int .i64 d)],[.ints .u32 e]=>Q27.l4 N N a b c d e (fun f=>k (.exit 0) ⟨fC Q27.h4.out [.sw 0 1],[.ints .u32 f]⟩)
 |_,_=>none⟩
noncomputable def Q27.E (N:Nat):jC:=iD [(99,dM),(143,pF)] [(135,Q21.ent N)] [(4,Q27.h4)] [(4,Q27.c4 N)] N [.tmp 4] [.il .u32 1] 0 42
noncomputable def Q27.b4:Code:=nA ((dA (bo Tryz.f98)).getD 0 .skip)
theorem Q27.l4_eq {R:Type}(N n:Nat)(a b:List Int)(c d:Int)(e:List Int)(k:Ex→St→Option R):
  dB 0 Q27.h4 (fun s k=>bB (Q27.E N) 393 Q27.b4 s k) n [.il .u32 1 a,.il .u32 1 b,.sw 0 1,.c (.int .u32 c),.c (.int .i64 d)] [.ints .u32 e] k=Q27.l4 N n a b c d e (fun f=>k (.exit 0) ⟨fC Q27.h4.out [.sw 0 1],[.ints .u32 f]⟩):=by
 induction n generalizing a b c d e with
 |zero=>kernel_rfl
 |succ n ih=>
  simp only[Q27.l4,←ih]
  kernel_rfl
noncomputable def Q27.dec (v:V)(bs:List rA):Option (List Int):=match v,bs with
 | .il .u32 1 a,[]=>some a
 |_,_=>none
theorem Q27.f_eq (N:Nat)(a b:List Int):
  aB (Q27.E N) (bo Tryz.f98) [.il .u32 1 a,.il .u32 1 b] [] Q27.dec=Q27.f N a b:=by kernel_rfl
noncomputable def Q27.ent (N:Nat):uA:=tD (List Int) 0 [true,true] [.il .u32 1,.il .u32 1] fun
 | [.il .u32 1 a,.il .u32 1 b]=>some (Q27.f N a b,fun r=>.one (.il .u32 1 r) [])
 |_=>none
theorem Q27.env (N:Nat):yA Tryz.prog (Q27.E N):=⟨(.cons dE (.cons tC .nil)),(.cons (Q21.ent_ok N) .nil)⟩
theorem Q27.k4 (N:Nat):gB Tryz.prog Tryz.f98 (Q27.E N) (.loop Q27.b4):=dC (Q27.env N) bA 393 (c:=Q27.c4 N) cA.n fun R vs H k r h=>by unfold Q27.c4 at h;dsimp only at h;split at h;exact⟨_,Q27.l4_eq .. ▸h⟩;cases h
theorem Q27.spec (N:Nat)(a c r:List Int)(h:Q27.f N a c=some r):eA Tryz.prog 98 [.il .u32 1 a,.il .u32 1 c] [] (.il .u32 1 r) ([]):=pA (Q27.env N) bA Tryz.func98 (cA.of (l:=[(.loop (nA ((dA (bo Tryz.f98)).getD 0 .skip)))]) (by kernel_rfl) (cA.cons (Q27.k4 N) cA.nil)) ((Q27.f_eq ..).trans h) fun v b e=>by unfold Q27.dec at e;split at e<;>cases e;exact⟨rfl,rfl⟩
theorem Q27.ent_ok (N:Nat):oA Tryz.prog 98 (Q27.ent N):=sA fun v a e h=>by split at h;exact nB (Q:=fun e=>eA _ _ _ _ (e a).pick.1 (e a).pick.2) h fun k=>Q27.spec N _ _ a k;cases h
noncomputable def Q28.l7 {R:Type}(N:Nat):Nat→List Int→List Int→Int→Int→Int→List Int→(List Int→List Int→Int→List Int→Option R)→Option R
 |0,_,_,_,_,_,_,_=>none
 |n+1,f,e,c,d,a,b,g=>
  bif decide (a<(e.length:Int))then
   bif (decide (0≤(aA (c+a))))&&(decide ((aA (c+a))<(b.length:Int)))then
    bif decide (a<(e.length:Int))then
     bif (decide (0≤c))&&(decide (c<(f.length:Int)))then
      bif (decide (0≤a))&&(decide (a<(e.length:Int)))then
       bif (decide (0≤(aA (c+a))))&&(decide ((aA (c+a))<(b.length:Int)))then
        Q28.l7 N n f e c (jA (Int.tdiv (jA ((jA ((jA (b.getD ((aA (c+a)).toNat) 0))+d))+(jA ((jA (f.getD c.toNat 0))*(jA (e.getD a.toNat 0)))))) 65536)) (aA (a+1)) (b.set ((aA (c+a)).toNat) (rB (Int.tmod (jA ((jA ((jA (b.getD ((aA (c+a)).toNat) 0))+d))+(jA ((jA (f.getD c.toNat 0))*(jA (e.getD a.toNat 0)))))) 65536))) g
       else none
      else none
     else none
    else
    bif (decide (0≤(aA (c+a))))&&(decide ((aA (c+a))<(b.length:Int)))then
     Q28.l7 N n f e c (jA (Int.tdiv (jA ((jA (b.getD ((aA (c+a)).toNat) 0))+d)) 65536)) (aA (a+1)) (b.set ((aA (c+a)).toNat) (rB (Int.tmod (jA ((jA (b.getD ((aA (c+a)).toNat) 0))+d)) 65536))) g
    else none
   else none
  else
  bif decide (d>0)then
   bif (decide (0≤(aA (c+a))))&&(decide ((aA (c+a))<(b.length:Int)))then
    bif decide (a<(e.length:Int))then
     bif (decide (0≤c))&&(decide (c<(f.length:Int)))then
      bif (decide (0≤a))&&(decide (a<(e.length:Int)))then
       bif (decide (0≤(aA (c+a))))&&(decide ((aA (c+a))<(b.length:Int)))then
        Q28.l7 N n f e c (jA (Int.tdiv (jA ((jA ((jA (b.getD ((aA (c+a)).toNat) 0))+d))+(jA ((jA (f.getD c.toNat 0))*(jA (e.getD a.toNat 0)))))) 65536)) (aA (a+1)) (b.set ((aA (c+a)).toNat) (rB (Int.tmod (jA ((jA ((jA (b.getD ((aA (c+a)).toNat) 0))+d))+(jA ((jA (f.getD c.toNat 0))*(jA (e.getD a.toNat 0)))))) 65536))) g
       else none
      else none
     else none
    else
    bif (decide (0≤(aA (c+a))))&&(decide ((aA (c+a))<(b.length:Int)))then
     Q28.l7 N n f e c (jA (Int.tdiv (jA ((jA (b.getD ((aA (c+a)).toNat) 0))+d)) 65536)) (aA (a+1)) (b.set ((aA (c+a)).toNat) (rB (Int.tmod (jA ((jA (b.getD ((aA (c+a)).toNat) 0))+d)) 65536))) g
    else none
   else none
  else
  g f e c b
noncomputable def Q28.l3 {R:Type}(N:Nat):Nat→List Int→List Int→Int→List Int→(List Int→Option R)→Option R
 |0,_,_,_,_,_=>none
 |n+1,f,i,g,h,e=>
  bif decide (g<(f.length:Int))then
   Q28.l7 N N f i g 0 0 h
    (fun a b c d=>
     Q28.l3 N n a b (aA (c+1)) d e)
  else
  e h
noncomputable def Q28.f (N:Nat)(a b:List Int):Option (List Int):=
 bif decide (aA ((a.length:Int)+(b.length:Int))=aA ((a.length:Int)+(b.length:Int)))&&decide (0≤aA ((a.length:Int)+(b.length:Int)))&&decide (aA ((a.length:Int)+(b.length:Int))≤9223372036854775807)&&jB ((aA ((a.length:Int)+(b.length:Int))).toNat) 4 then
  Q28.l3 N N a b 0 (List.replicate ((aA ((a.length:Int)+(b.length:Int))).toNat) (0:Int))
   (fun d=>
    (Q21.f N 0 d.length d).bind fun c=>
    some ((c.2.2.drop c.1).take c.2.1))
 else none
noncomputable def Q28.h3:cC:=⟨[(0,.il .u32 1),(1,.il .u32 1),(5,.row .u32 1),(6,.any)],[(5,.row .u32 1)]⟩
noncomputable def Q28.h7:cC:=⟨[(0,.il .u32 1),(1,.il .u32 1),(5,.row .u32 1),(6,.any),(7,.any),(8,.any)],[(0,.il .u32 1),(1,.il .u32 1),(5,.row .u32 1),(6,.any)]⟩
noncomputable def Q28.c7 (N:Nat):nF:=⟨fun vs H k=>match vs,H with
 | [.il .u32 1 h,.il .u32 1 i,.sw 0 1,.c (.int .i64 j),.c (.int .u64 a),.c (.int .i64 b)],[.ints .u32 c]=>Q28.l7 N N h i j a b c (fun d e f g=>k (.exit 2) ⟨fC Q28.h7.out [.il .u32 1 d,.il .u32 1 e,.sw 0 1,.c (.int .i64 f)],[.ints .u32 g]⟩)
 |_,_=>none⟩
noncomputable def Q28.c3 (N:Nat):nF:=⟨fun vs H k=>match vs,H with
 | [.il .u32 1 b,.il .u32 1 c,.sw 0 1,.c (.int .i64 d)],[.ints .u32 e]=>Q28.l3 N N b c d e (fun a=>k (.exit 0) ⟨fC Q28.h3.out [.sw 0 1],[.ints .u32 a]⟩)
 |_,_=>none⟩
noncomputable def Q28.E (N:Nat):jC:=iD [(78,aL),(99,dM),(143,pF)] [(135,Q21.ent N)] [(3,Q28.h3),(7,Q28.h7)] [(7,Q28.c7 N),(3,Q28.c3 N)] N [.tmp 4] [.il .u32 1] 0 70
noncomputable def Q28.b7:Code:=nA ((dA (bo Tryz.f100)).getD 1 .skip)
theorem Q28.l7_eq {R:Type}(N n:Nat)(h i:List Int)(j a b:Int)(c:List Int)(k:Ex→St→Option R):
  dB 0 Q28.h7 (fun s k=>bB (Q28.E N) 387 Q28.b7 s k) n [.il .u32 1 h,.il .u32 1 i,.sw 0 1,.c (.int .i64 j),.c (.int .u64 a),.c (.int .i64 b)] [.ints .u32 c] k=Q28.l7 N n h i j a b c (fun d e f g=>k (.exit 2) ⟨fC Q28.h7.out [.il .u32 1 d,.il .u32 1 e,.sw 0 1,.c (.int .i64 f)],[.ints .u32 g]⟩):=by
 induction n generalizing h i j a b c with
 |zero=>kernel_rfl
 |succ n ih=>
  simp only[Q28.l7,←ih]
  kernel_rfl
noncomputable def Q28.b3:Code:=nA ((dA (bo Tryz.f100)).getD 0 .skip)
theorem Q28.l3_eq {R:Type}(N n:Nat)(b c:List Int)(d:Int)(e:List Int)(k:Ex→St→Option R):
  dB 0 Q28.h3 (fun s k=>bB (Q28.E N) 394 Q28.b3 s k) n [.il .u32 1 b,.il .u32 1 c,.sw 0 1,.c (.int .i64 d)] [.ints .u32 e] k=Q28.l3 N n b c d e (fun a=>k (.exit 0) ⟨fC Q28.h3.out [.sw 0 1],[.ints .u32 a]⟩):=by
 induction n generalizing b c d e with
 |zero=>kernel_rfl
 |succ n ih=>
  simp only[Q28.l3,←ih]
  kernel_rfl
noncomputable def Q28.dec (v:V)(bs:List rA):Option (List Int):=match v,bs with
 | .il .u32 1 a,[]=>some a
 |_,_=>none
theorem Q28.f_eq (N:Nat)(a b:List Int):
  aB (Q28.E N) (bo Tryz.f100) [.il .u32 1 a,.il .u32 1 b] [] Q28.dec=Q28.f N a b:=by kernel_rfl
noncomputable def Q28.ent (N:Nat):uA:=tD (List Int) 0 [true,true] [.il .u32 1,.il .u32 1] fun
 | [.il .u32 1 a,.il .u32 1 b]=>some (Q28.f N a b,fun r=>.one (.il .u32 1 r) [])
 |_=>none
theorem Q28.env (N:Nat):yA Tryz.prog (Q28.E N):=⟨(.cons zD (.cons dE (.cons tC .nil))),(.cons (Q21.ent_ok N) .nil)⟩
theorem Q28.k7 (N:Nat):gB Tryz.prog Tryz.f100 (Q28.E N) (.loop Q28.b7):=dC (Q28.env N) bA 387 (c:=Q28.c7 N) cA.n fun R vs H k r h=>by unfold Q28.c7 at h;dsimp only at h;split at h;exact⟨_,Q28.l7_eq .. ▸h⟩;cases h
theorem Q28.k3 (N:Nat):gB Tryz.prog Tryz.f100 (Q28.E N) (.loop Q28.b3):=dC (Q28.env N) bA 394 (c:=Q28.c3 N) (cA.of (l:=[(.loop (nA ((dA (bo Tryz.f100)).getD 1 .skip)))]) (by kernel_rfl) (cA.cons (Q28.k7 N) cA.nil)) fun R vs H k r h=>by unfold Q28.c3 at h;dsimp only at h;split at h;exact⟨_,Q28.l3_eq .. ▸h⟩;cases h
theorem Q28.spec (N:Nat)(a c r:List Int)(h:Q28.f N a c=some r):eA Tryz.prog 100 [.il .u32 1 a,.il .u32 1 c] [] (.il .u32 1 r) ([]):=pA (Q28.env N) bA Tryz.func100 (cA.of (l:=[(.loop (nA ((dA (bo Tryz.f100)).getD 0 .skip))),(.loop (nA ((dA (bo Tryz.f100)).getD 1 .skip)))]) (by kernel_rfl) (cA.cons (Q28.k3 N) (cA.cons (Q28.k7 N) cA.nil))) ((Q28.f_eq ..).trans h) fun v b e=>by unfold Q28.dec at e;split at e<;>cases e;exact⟨rfl,rfl⟩
theorem Q28.ent_ok (N:Nat):oA Tryz.prog 100 (Q28.ent N):=sA fun v a e h=>by split at h;exact nB (Q:=fun e=>eA _ _ _ _ (e a).pick.1 (e a).pick.2) h fun k=>Q28.spec N _ _ a k;cases h
noncomputable def Q29.l9 {R:Type}(N:Nat):Nat→List Int→List Int→Nat→Nat→Int→Int→Int→List Int→List Int→(List Int→List Int→Nat→Nat→Int→Int→List Int→List Int→Option R)→Option R
 |0,_,_,_,_,_,_,_,_,_,_=>none
 |n+1,m,c,d,e,g,a,b,h,f,i=>
  bif decide ((jA (b-a))>1)then
   (Q22.f N (jA (Int.tdiv (jA (a+b)) 2))).bind fun j=>
   (Q28.f N j c).bind fun k=>
   (Q25.f N k ((f.drop d).take e)).bind fun l=>
   bif decide (l≤0)then
    Q29.l9 N n m c d e g (jA (Int.tdiv (jA (a+b)) 2)) b h f i
   else
   Q29.l9 N n m c d e g a (jA (Int.tdiv (jA (a+b)) 2)) h f i
  else
  i m c d e g a h f
noncomputable def Q29.l4 {R:Type}(N:Nat):Nat→List Int→List Int→List Int→Int→List Int→(List Int→List Int→Option R)→Option R
 |0,_,_,_,_,_,_=>none
 |n+1,f,s,g,b,r,q=>
  bif decide (b≥0)then
   bif (decide (0≤b))&&(decide (b<(f.length:Int)))then
    bif jB (1+g.length) 4 then
     (Q21.f N 0 (([f.getD b.toNat 0]++g).length) ([f.getD b.toNat 0]++g)).bind fun k=>
     Q29.l9 N N f s k.1 k.2.1 b 0 65536 r k.2.2
      (fun l c m o a d e p=>
       bif (decide (0≤a))&&(decide (a<(e.length:Int)))then
        (Q22.f N d).bind fun h=>
        (Q28.f N h c).bind fun i=>
        (Q27.f N ((p.drop m).take o) i).bind fun j=>
        Q29.l4 N n l c j (aA (a-1)) (e.set a.toNat (rB d)) q
       else none)
    else none
   else none
  else
  q g r
noncomputable def Q29.f (N:Nat)(a e:List Int):Option (List Int×List Int):=
 bif decide ((a.length:Int)=(a.length:Int))&&decide (0≤(a.length:Int))&&decide ((a.length:Int)≤9223372036854775807)&&jB ((a.length:Int).toNat) 4 then
  Q29.l4 N N a e [] (aA ((a.length:Int)-1)) (List.replicate ((a.length:Int).toNat) (0:Int))
   (fun d c=>
    (Q21.f N 0 c.length c).bind fun b=>
    some ((b.2.2.drop b.1).take b.2.1,d))
 else none
noncomputable def Q29.h4:cC:=⟨[(0,.il .u32 1),(1,.il .u32 1),(6,.row .u32 1),(7,.il .u32 1),(8,.any)],[(6,.row .u32 1),(7,.il .u32 1)]⟩
noncomputable def Q29.h9:cC:=⟨[(0,.il .u32 1),(1,.il .u32 1),(6,.row .u32 1),(7,.part .u32 1),(8,.any),(9,.any),(10,.any)],[(0,.il .u32 1),(1,.il .u32 1),(6,.row .u32 1),(7,.part .u32 1),(8,.any),(9,.any)]⟩
noncomputable def Q29.c9 (N:Nat):nF:=⟨fun vs H k=>match vs,H with
 | [.il .u32 1 s,.il .u32 1 a,.sw 0 1,.sl 1 1 b c,.c (.int .i64 d),.c (.int .u64 e),.c (.int .u64 f)],[.ints .u32 g,.ints .u32 h]=>Q29.l9 N N s a b c d e f g h (fun i j l m o p q r=>k (.exit 2) ⟨fC Q29.h9.out [.il .u32 1 i,.il .u32 1 j,.sw 0 1,.sl 1 1 l m,.c (.int .i64 o),.c (.int .u64 p)],[.ints .u32 q,.ints .u32 r]⟩)
 |_,_=>none⟩
noncomputable def Q29.c4 (N:Nat):nF:=⟨fun vs H k=>match vs,H with
 | [.il .u32 1 c,.il .u32 1 d,.sw 0 1,.il .u32 1 e,.c (.int .i64 f)],[.ints .u32 g]=>Q29.l4 N N c d e f g (fun a b=>k (.exit 0) ⟨fC Q29.h4.out [.sw 0 1,.il .u32 1 a],[.ints .u32 b]⟩)
 |_,_=>none⟩
noncomputable def Q29.E (N:Nat):jC:=iD [(78,aL),(99,dM),(143,pF)] [(135,Q21.ent N),(99,Q22.ent N),(100,Q28.ent N),(97,Q25.ent N),(98,Q27.ent N)] [(4,Q29.h4),(9,Q29.h9)] [(9,Q29.c9 N),(4,Q29.c4 N)] N [.tmp 4,.tmp 5] [.il .u32 1,.il .u32 1] 0 63
noncomputable def Q29.b9:Code:=nA ((dA (bo Tryz.f136)).getD 1 .skip)
theorem Q29.l9_eq {R:Type}(N n:Nat)(t a:List Int)(b c:Nat)(d e f:Int)(g h:List Int)(k:Ex→St→Option R):
  dB 0 Q29.h9 (fun s k=>bB (Q29.E N) 384 Q29.b9 s k) n [.il .u32 1 t,.il .u32 1 a,.sw 0 1,.sl 1 1 b c,.c (.int .i64 d),.c (.int .u64 e),.c (.int .u64 f)] [.ints .u32 g,.ints .u32 h] k=Q29.l9 N n t a b c d e f g h (fun i j l m o p q r=>k (.exit 2) ⟨fC Q29.h9.out [.il .u32 1 i,.il .u32 1 j,.sw 0 1,.sl 1 1 l m,.c (.int .i64 o),.c (.int .u64 p)],[.ints .u32 q,.ints .u32 r]⟩):=by
 induction n generalizing t a b c d e f g h with
 |zero=>kernel_rfl
 |succ n ih=>
  simp only[Q29.l9,←ih]
  kernel_rfl
noncomputable def Q29.b4:Code:=nA ((dA (bo Tryz.f136)).getD 0 .skip)
theorem Q29.l4_eq {R:Type}(N n:Nat)(a b e:List Int)(f:Int)(g:List Int)(k:Ex→St→Option R):
  dB 0 Q29.h4 (fun s k=>bB (Q29.E N) 393 Q29.b4 s k) n [.il .u32 1 a,.il .u32 1 b,.sw 0 1,.il .u32 1 e,.c (.int .i64 f)] [.ints .u32 g] k=Q29.l4 N n a b e f g (fun c d=>k (.exit 0) ⟨fC Q29.h4.out [.sw 0 1,.il .u32 1 c],[.ints .u32 d]⟩):=by
 induction n generalizing a b e f g with
 |zero=>kernel_rfl
 |succ n ih=>
  simp only[Q29.l4,←ih]
  kernel_rfl
noncomputable def Q29.dec (v:V)(bs:List rA):Option (List Int×List Int):=match v,bs with
 | .tup [.il .u32 1 a,.il .u32 1 b],[]=>some (a,b)
 |_,_=>none
theorem Q29.f_eq (N:Nat)(a b:List Int):
  aB (Q29.E N) (bo Tryz.f136) [.il .u32 1 a,.il .u32 1 b] [] Q29.dec=Q29.f N a b:=by kernel_rfl
noncomputable def Q29.ent (N:Nat):uA:=tD (List Int×List Int) 0 [true,true] [.il .u32 1,.il .u32 1] fun
 | [.il .u32 1 a,.il .u32 1 b]=>some (Q29.f N a b,fun r=>.one (.tup [.il .u32 1 r.1,.il .u32 1 r.2]) [])
 |_=>none
theorem Q29.env (N:Nat):yA Tryz.prog (Q29.E N):=⟨(.cons zD (.cons dE (.cons tC .nil))),(.cons (Q21.ent_ok N) (.cons (Q22.ent_ok N) (.cons (Q28.ent_ok N) (.cons (Q25.ent_ok N) (.cons (Q27.ent_ok N) .nil)))))⟩
theorem Q29.k9 (N:Nat):gB Tryz.prog Tryz.f136 (Q29.E N) (.loop Q29.b9):=dC (Q29.env N) bA 384 (c:=Q29.c9 N) cA.n fun R vs H k r h=>by unfold Q29.c9 at h;dsimp only at h;split at h;exact⟨_,Q29.l9_eq .. ▸h⟩;cases h
theorem Q29.k4 (N:Nat):gB Tryz.prog Tryz.f136 (Q29.E N) (.loop Q29.b4):=dC (Q29.env N) bA 393 (c:=Q29.c4 N) (cA.of (l:=[(.loop (nA ((dA (bo Tryz.f136)).getD 1 .skip)))]) (by kernel_rfl) (cA.cons (Q29.k9 N) cA.nil)) fun R vs H k r h=>by unfold Q29.c4 at h;dsimp only at h;split at h;exact⟨_,Q29.l4_eq .. ▸h⟩;cases h
theorem Q29.spec (N:Nat)(a c:List Int)(r:List Int×List Int)(h:Q29.f N a c=some r):eA Tryz.prog 136 [.il .u32 1 a,.il .u32 1 c] [] (.tup [.il .u32 1 r.1,.il .u32 1 r.2]) ([]):=pA (Q29.env N) bA Tryz.func136 (cA.of (l:=[(.loop (nA ((dA (bo Tryz.f136)).getD 0 .skip))),(.loop (nA ((dA (bo Tryz.f136)).getD 1 .skip)))]) (by kernel_rfl) (cA.cons (Q29.k4 N) (cA.cons (Q29.k9 N) cA.nil))) ((Q29.f_eq ..).trans h) fun v b e=>by unfold Q29.dec at e;split at e<;>cases e;exact⟨rfl,rfl⟩
theorem Q29.ent_ok (N:Nat):oA Tryz.prog 136 (Q29.ent N):=sA fun v a e h=>by split at h;exact nB (Q:=fun e=>eA _ _ _ _ (e a).pick.1 (e a).pick.2) h fun k=>Q29.spec N _ _ a k;cases h
noncomputable def Q30.l1 {R:Type}(N:Nat):Nat→List Int→List Int→(List Int→Option R)→Option R
 |0,_,_,_=>none
 |n+1,c,a,b=>
  bif decide ((a.length:Int)>0)then
   (Q29.f N c a).bind fun d=>
   Q30.l1 N n a d.2 b
  else
  b c
noncomputable def Q30.f (N:Nat)(a b:List Int):Option (List Int):=
 Q30.l1 N N a b
  (fun c=>
   some c)
noncomputable def Q30.h1:cC:=⟨[(0,.il .u32 1),(1,.il .u32 1)],[(0,.il .u32 1)]⟩
noncomputable def Q30.c1 (N:Nat):nF:=⟨fun vs H k=>match vs,H with
 | [.il .u32 1 a,.il .u32 1 b],[]=>Q30.l1 N N a b (fun c=>k (.exit 0) ⟨fC Q30.h1.out [.il .u32 1 c],[]⟩)
 |_,_=>none⟩
noncomputable def Q30.E (N:Nat):jC:=iD [(99,dM)] [(136,Q29.ent N)] [(1,Q30.h1)] [(1,Q30.c1 N)] N [.tmp 4] [.il .u32 1] 0 19
noncomputable def Q30.b1:Code:=nA ((dA (bo Tryz.f130)).getD 0 .skip)
theorem Q30.l1_eq {R:Type}(N n:Nat)(a b:List Int)(k:Ex→St→Option R):
  dB 0 Q30.h1 (fun s k=>bB (Q30.E N) 396 Q30.b1 s k) n [.il .u32 1 a,.il .u32 1 b] [] k=Q30.l1 N n a b (fun c=>k (.exit 0) ⟨fC Q30.h1.out [.il .u32 1 c],[]⟩):=by
 induction n generalizing a b with
 |zero=>kernel_rfl
 |succ n ih=>
  simp only[Q30.l1,←ih]
  kernel_rfl
noncomputable def Q30.dec (v:V)(bs:List rA):Option (List Int):=match v,bs with
 | .il .u32 1 a,[]=>some a
 |_,_=>none
theorem Q30.f_eq (N:Nat)(a b:List Int):
  aB (Q30.E N) (bo Tryz.f130) [.il .u32 1 a,.il .u32 1 b] [] Q30.dec=Q30.f N a b:=by kernel_rfl
noncomputable def Q30.ent (N:Nat):uA:=tD (List Int) 0 [true,true] [.il .u32 1,.il .u32 1] fun
 | [.il .u32 1 a,.il .u32 1 b]=>some (Q30.f N a b,fun r=>.one (.il .u32 1 r) [])
 |_=>none
theorem Q30.env (N:Nat):yA Tryz.prog (Q30.E N):=⟨(.cons dE .nil),(.cons (Q29.ent_ok N) .nil)⟩
theorem Q30.k1 (N:Nat):gB Tryz.prog Tryz.f130 (Q30.E N) (.loop Q30.b1):=dC (Q30.env N) bA 396 (c:=Q30.c1 N) cA.n fun R vs H k r h=>by unfold Q30.c1 at h;dsimp only at h;split at h;exact⟨_,Q30.l1_eq .. ▸h⟩;cases h
theorem Q30.spec (N:Nat)(a c r:List Int)(h:Q30.f N a c=some r):eA Tryz.prog 130 [.il .u32 1 a,.il .u32 1 c] [] (.il .u32 1 r) ([]):=pA (Q30.env N) bA Tryz.func130 (cA.of (l:=[(.loop (nA ((dA (bo Tryz.f130)).getD 0 .skip)))]) (by kernel_rfl) (cA.cons (Q30.k1 N) cA.nil)) ((Q30.f_eq ..).trans h) fun v b e=>by unfold Q30.dec at e;split at e<;>cases e;exact⟨rfl,rfl⟩
theorem Q30.ent_ok (N:Nat):oA Tryz.prog 130 (Q30.ent N):=sA fun v a e h=>by split at h;exact nB (Q:=fun e=>eA _ _ _ _ (e a).pick.1 (e a).pick.2) h fun k=>Q30.spec N _ _ a k;cases h
noncomputable def aN:TI:=⟨.int .i64,1,8,[.int .i64 0]⟩
noncomputable def al:TI:=⟨.bool,1,1,[.bool false]⟩
noncomputable def aG:TI:=⟨.struct [(2,0),(2,1),(2,2)],3,24,[.int .i64 0,.int .i64 0,.int .i64 0]⟩
noncomputable def Eu:TI:=⟨.struct [(2,0),(2,1),(2,2),(2,3)],4,32,[.int .i64 0,.int .i64 0,.int .i64 0,.int .i64 0]⟩
noncomputable def If:TI:=⟨.struct [(33,0),(72,3)],7,56,[.int .i64 0,.int .i64 0,.int .i64 0,.int .i64 0,.int .i64 0,.int .i64 0,.int .i64 0]⟩
noncomputable def lJ:TI:=⟨.struct [(4,0),(110,1)],2,32,[.bool false,.slice none 0 0]⟩
theorem nC:zC Tryz.prog 2 aN:=gD (by kernel_rfl) (by kernel_rfl) (by kernel_rfl) (by kernel_rfl) (by kernel_rfl) (by kernel_rfl) (by kernel_rfl) (Tryz.underlying2) (by kernel_rfl)
theorem mF:zC Tryz.prog 4 al:=gD (by kernel_rfl) (by kernel_rfl) (by kernel_rfl) (by kernel_rfl) (by kernel_rfl) (by kernel_rfl) (by kernel_rfl) (Tryz.underlying4) (by kernel_rfl)
theorem xB:zC Tryz.prog 33 aG:=gD (by kernel_rfl) (by kernel_rfl) (by kernel_rfl) (by kernel_rfl) (by kernel_rfl) (by kernel_rfl) (by kernel_rfl) (qH Tryz.underlying33 (by kernel_rfl) (by kernel_rfl)) (by kernel_rfl)
theorem dX:zC Tryz.prog 72 Eu:=gD (by kernel_rfl) (by kernel_rfl) (by kernel_rfl) (by kernel_rfl) (by kernel_rfl) (by kernel_rfl) (by kernel_rfl) (qH Tryz.underlying72 (by kernel_rfl) (by kernel_rfl)) (by kernel_rfl)
theorem ye:zC Tryz.prog 74 If:=gD (by kernel_rfl) (by kernel_rfl) (by kernel_rfl) (by kernel_rfl) (by kernel_rfl) (by kernel_rfl) (by kernel_rfl) (qH Tryz.underlying74 (by kernel_rfl) (by kernel_rfl)) (by kernel_rfl)
theorem rE:zC Tryz.prog 112 lJ:=gD (by kernel_rfl) (by kernel_rfl) (by kernel_rfl) (by kernel_rfl) (by kernel_rfl) (by kernel_rfl) (by kernel_rfl) (qH Tryz.underlying112 (by kernel_rfl) (by kernel_rfl)) (by kernel_rfl)
noncomputable def Q31.f (N:Nat)(b:Bool)(a:List Int):Option (Bool×List Int):=
 bif b then
  (Q3.f N a).bind fun c=>
  some (decide (c>0),a)
 else
 some (false,a)
noncomputable def Q31.E (N:Nat):jC:=iD [(4,al),(110,lF),(112,lJ)] [(123,Q3.ent N)] [] [] N [.cell 4 112] [.recd [.any,.il .u32 1]] 0 13
noncomputable def Q31.dec (v:V)(bs:List rA):Option (Bool×List Int):=match v,bs with
 | .agg [.c (.bool a),.il .u32 1 b],[]=>some (a,b)
 |_,_=>none
theorem Q31.f_eq (N:Nat)(a:Bool)(b:List Int):
  aB (Q31.E N) (bo Tryz.f85) [.c (.bool a),.agg [.il .u32 1 b]] [] Q31.dec=Q31.f N a b:=by kernel_rfl
noncomputable def Q31.ent (N:Nat):uA:=tD (Bool×List Int) 0 [true,true] [.any,.recd [.il .u32 1]] fun
 | [.c (.bool a),.agg [.il .u32 1 b]]=>some (Q31.f N a b,fun r=>.one (.agg [.c (.bool r.1),.il .u32 1 r.2]) [])
 |_=>none
theorem Q31.env (N:Nat):yA Tryz.prog (Q31.E N):=⟨(.cons mF (.cons oC (.cons rE .nil))),(.cons (Q3.ent_ok N) .nil)⟩
theorem Q31.spec (N:Nat)(a:Bool)(c:List Int)(r:Bool×List Int)(h:Q31.f N a c=some r):eA Tryz.prog 85 [.c (.bool a),.agg [.il .u32 1 c]] [] (.agg [.c (.bool r.1),.il .u32 1 r.2]) ([]):=pA (Q31.env N) bA Tryz.func85 cA.n ((Q31.f_eq ..).trans h) fun v b e=>by unfold Q31.dec at e;split at e<;>cases e;exact⟨rfl,rfl⟩
theorem Q31.ent_ok (N:Nat):oA Tryz.prog 85 (Q31.ent N):=sA fun v a e h=>by split at h;exact nB (Q:=fun e=>eA _ _ _ _ (e a).pick.1 (e a).pick.2) h fun k=>Q31.spec N _ _ a k;cases h
noncomputable def Q32.f (N:Nat)(a:Int):Option (Bool×List Int):=
 bif decide (a<0)then
  (Q5.f N (jA (0- (jA a)))).bind fun b=>
  some (true,b)
 else
 (Q5.f N (jA a)).bind fun c=>
 some (false,c)
noncomputable def Q32.E (N:Nat):jC:=iD [(2,aN),(4,al),(78,aL),(110,lF),(112,lJ)] [(122,Q5.ent N)] [] [] N [.cell 2 112] [.recd [.any,.il .u32 1]] 0 14
noncomputable def Q32.dec (v:V)(bs:List rA):Option (Bool×List Int):=match v,bs with
 | .agg [.c (.bool a),.il .u32 1 b],[]=>some (a,b)
 |_,_=>none
theorem Q32.f_eq (N:Nat)(a:Int):
  aB (Q32.E N) (bo Tryz.f84) [.c (.int .i64 a)] [] Q32.dec=Q32.f N a:=by kernel_rfl
noncomputable def Q32.ent (N:Nat):uA:=tD (Bool×List Int) 0 [true] [.any] fun
 | [.c (.int .i64 a)]=>some (Q32.f N a,fun r=>.one (.agg [.c (.bool r.1),.il .u32 1 r.2]) [])
 |_=>none
theorem Q32.env (N:Nat):yA Tryz.prog (Q32.E N):=⟨(.cons nC (.cons mF (.cons zD (.cons oC (.cons rE .nil))))),(.cons (Q5.ent_ok N) .nil)⟩
theorem Q32.spec (N:Nat)(a:Int)(r:Bool×List Int)(h:Q32.f N a=some r):eA Tryz.prog 84 [.c (.int .i64 a)] [] (.agg [.c (.bool r.1),.il .u32 1 r.2]) ([]):=pA (Q32.env N) bA Tryz.func84 cA.n ((Q32.f_eq ..).trans h) fun v b e=>by unfold Q32.dec at e;split at e<;>cases e;exact⟨rfl,rfl⟩
theorem Q32.ent_ok (N:Nat):oA Tryz.prog 84 (Q32.ent N):=sA fun v a e h=>by split at h;exact nB (Q:=fun e=>eA _ _ _ _ (e a).pick.1 (e a).pick.2) h fun k=>Q32.spec N _ a k;cases h
noncomputable def Q33.f (N:Nat)(b:Bool)(c:List Int):Option (Int×Bool):=
 (Q6.f N c).bind fun a=>
 bif !a.2 then
  some (0,false)
 else
 bif decide (a.1>9223372036854775808)then
  some (0,false)
 else
 bif a.1==9223372036854775808 then
  bif !b then
   some (0,false)
  else
  bif b then
   some (aA (jA (0-a.1)),true)
  else
  some (aA a.1,true)
 else
 bif b then
  some (aA (jA (0-a.1)),true)
 else
 some (aA a.1,true)
noncomputable def Q33.E (N:Nat):jC:=iD [(2,aN),(4,al),(78,aL),(110,lF),(112,lJ)] [(124,Q6.ent N)] [] [] N [.tmp 2,.tmp 3] [.any,.any] 0 36
noncomputable def Q33.dec (v:V)(bs:List rA):Option (Int×Bool):=match v,bs with
 | .tup [.c (.int .i64 a),.c (.bool b)],[]=>some (a,b)
 |_,_=>none
theorem Q33.f_eq (N:Nat)(a:Bool)(b:List Int):
  aB (Q33.E N) (bo Tryz.f86) [.agg [.c (.bool a),.il .u32 1 b]] [] Q33.dec=Q33.f N a b:=by kernel_rfl
noncomputable def Q33.ent (N:Nat):uA:=tD (Int×Bool) 0 [true] [.recd [.any,.il .u32 1]] fun
 | [.agg [.c (.bool a),.il .u32 1 b]]=>some (Q33.f N a b,fun r=>.one (.tup [.c (.int .i64 r.1),.c (.bool r.2)]) [])
 |_=>none
theorem Q33.env (N:Nat):yA Tryz.prog (Q33.E N):=⟨(.cons nC (.cons mF (.cons zD (.cons oC (.cons rE .nil))))),(.cons (Q6.ent_ok N) .nil)⟩
theorem Q33.spec (N:Nat)(a:Bool)(c:List Int)(r:Int×Bool)(h:Q33.f N a c=some r):eA Tryz.prog 86 [.agg [.c (.bool a),.il .u32 1 c]] [] (.tup [.c (.int .i64 r.1),.c (.bool r.2)]) ([]):=pA (Q33.env N) bA Tryz.func86 cA.n ((Q33.f_eq ..).trans h) fun v b e=>by unfold Q33.dec at e;split at e<;>cases e;exact⟨rfl,rfl⟩
theorem Q33.ent_ok (N:Nat):oA Tryz.prog 86 (Q33.ent N):=sA fun v a e h=>by split at h;exact nB (Q:=fun e=>eA _ _ _ _ (e a).pick.1 (e a).pick.2) h fun k=>Q33.spec N _ _ a k;cases h
noncomputable def Q34.f (N:Nat)(e:Bool)(c:List Int)(f:Bool)(d:List Int):Option (Bool×List Int×Int):=
 bif e==f then
  (Q8.f N c d).bind fun g=>
  (Q31.f N e g.1).bind fun h=>
  some (h.1,h.2,g.2)
 else
 (Q7.f N c d).bind fun k=>
 bif decide (k<0)then
  (Q10.f N d c).bind fun i=>
  (Q31.f N f i.1).bind fun j=>
  some (j.1,j.2,i.2)
 else
 (Q10.f N c d).bind fun a=>
 (Q31.f N e a.1).bind fun b=>
 some (b.1,b.2,a.2)
noncomputable def Q34.E (N:Nat):jC:=iD [(4,al),(110,lF),(112,lJ)] [(161,Q8.ent N),(85,Q31.ent N),(157,Q7.ent N),(162,Q10.ent N)] [] [] N [.cell 4 112,.tmp 5] [.recd [.any,.il .u32 1],.any] 0 49
noncomputable def Q34.dec (v:V)(bs:List rA):Option (Bool×List Int×Int):=match v,bs with
 | .tup [.agg [.c (.bool a),.il .u32 1 b],.c (.int .i64 c)],[]=>some (a,b,c)
 |_,_=>none
theorem Q34.f_eq (N:Nat)(a:Bool)(b:List Int)(c:Bool)(d:List Int):
  aB (Q34.E N) (bo Tryz.f151) [.agg [.c (.bool a),.il .u32 1 b],.agg [.c (.bool c),.il .u32 1 d]] [] Q34.dec=Q34.f N a b c d:=by kernel_rfl
noncomputable def Q34.ent (N:Nat):uA:=tD (Bool×List Int×Int) 0 [true,true] [.recd [.any,.il .u32 1],.recd [.any,.il .u32 1]] fun
 | [.agg [.c (.bool a),.il .u32 1 b],.agg [.c (.bool c),.il .u32 1 d]]=>some (Q34.f N a b c d,fun r=>.one (.tup [.agg [.c (.bool r.1),.il .u32 1 r.2.1],.c (.int .i64 r.2.2)]) [])
 |_=>none
theorem Q34.env (N:Nat):yA Tryz.prog (Q34.E N):=⟨(.cons mF (.cons oC (.cons rE .nil))),(.cons (Q8.ent_ok N) (.cons (Q31.ent_ok N) (.cons (Q7.ent_ok N) (.cons (Q10.ent_ok N) .nil))))⟩
theorem Q34.spec (N:Nat)(a:Bool)(c:List Int)(d:Bool)(f:List Int)(r:Bool×List Int×Int)(h:Q34.f N a c d f=some r):eA Tryz.prog 151 [.agg [.c (.bool a),.il .u32 1 c],.agg [.c (.bool d),.il .u32 1 f]] [] (.tup [.agg [.c (.bool r.1),.il .u32 1 r.2.1],.c (.int .i64 r.2.2)]) ([]):=pA (Q34.env N) bA Tryz.func151 cA.n ((Q34.f_eq ..).trans h) fun v b e=>by unfold Q34.dec at e;split at e<;>cases e;exact⟨rfl,rfl⟩
theorem Q34.ent_ok (N:Nat):oA Tryz.prog 151 (Q34.ent N):=sA fun v a e h=>by split at h;exact nB (Q:=fun e=>eA _ _ _ _ (e a).pick.1 (e a).pick.2) h fun k=>Q34.spec N _ _ _ _ a k;cases h
noncomputable def Q35.f (N:Nat)(c:Bool)(d:List Int)(e:Bool)(f:List Int):Option (Bool×List Int×Int):=
 (Q12.f N d f).bind fun a=>
 (Q31.f N (!(c==e)) a.1).bind fun b=>
 some (b.1,b.2,a.2)
noncomputable def Q35.E (N:Nat):jC:=iD [(4,al),(110,lF),(112,lJ)] [(160,Q12.ent N),(85,Q31.ent N)] [] [] N [.cell 4 112,.tmp 5] [.recd [.any,.il .u32 1],.any] 0 24
noncomputable def Q35.dec (v:V)(bs:List rA):Option (Bool×List Int×Int):=match v,bs with
 | .tup [.agg [.c (.bool a),.il .u32 1 b],.c (.int .i64 c)],[]=>some (a,b,c)
 |_,_=>none
theorem Q35.f_eq (N:Nat)(a:Bool)(b:List Int)(c:Bool)(d:List Int):
  aB (Q35.E N) (bo Tryz.f148) [.agg [.c (.bool a),.il .u32 1 b],.agg [.c (.bool c),.il .u32 1 d]] [] Q35.dec=Q35.f N a b c d:=by kernel_rfl
noncomputable def Q35.ent (N:Nat):uA:=tD (Bool×List Int×Int) 0 [true,true] [.recd [.any,.il .u32 1],.recd [.any,.il .u32 1]] fun
 | [.agg [.c (.bool a),.il .u32 1 b],.agg [.c (.bool c),.il .u32 1 d]]=>some (Q35.f N a b c d,fun r=>.one (.tup [.agg [.c (.bool r.1),.il .u32 1 r.2.1],.c (.int .i64 r.2.2)]) [])
 |_=>none
theorem Q35.env (N:Nat):yA Tryz.prog (Q35.E N):=⟨(.cons mF (.cons oC (.cons rE .nil))),(.cons (Q12.ent_ok N) (.cons (Q31.ent_ok N) .nil))⟩
theorem Q35.spec (N:Nat)(a:Bool)(c:List Int)(d:Bool)(f:List Int)(r:Bool×List Int×Int)(h:Q35.f N a c d f=some r):eA Tryz.prog 148 [.agg [.c (.bool a),.il .u32 1 c],.agg [.c (.bool d),.il .u32 1 f]] [] (.tup [.agg [.c (.bool r.1),.il .u32 1 r.2.1],.c (.int .i64 r.2.2)]) ([]):=pA (Q35.env N) bA Tryz.func148 cA.n ((Q35.f_eq ..).trans h) fun v b e=>by unfold Q35.dec at e;split at e<;>cases e;exact⟨rfl,rfl⟩
theorem Q35.ent_ok (N:Nat):oA Tryz.prog 148 (Q35.ent N):=sA fun v a e h=>by split at h;exact nB (Q:=fun e=>eA _ _ _ _ (e a).pick.1 (e a).pick.2) h fun k=>Q35.spec N _ _ _ _ a k;cases h
noncomputable def Q36.f (N:Nat)(a:Bool)(b:List Int):Option (Int):=
 (Q3.f N b).bind fun c=>
 bif c==0 then
  some 0
 else
 bif a then
  some (-1)
 else
 some 1
noncomputable def Q36.E (N:Nat):jC:=iD [(4,al),(110,lF),(112,lJ)] [(123,Q3.ent N)] [] [] N [.tmp 2] [.any] 0 11
noncomputable def Q36.dec (v:V)(bs:List rA):Option (Int):=match v,bs with
 | .c (.int .i64 a),[]=>some a
 |_,_=>none
theorem Q36.f_eq (N:Nat)(a:Bool)(b:List Int):
  aB (Q36.E N) (bo Tryz.f117) [.agg [.c (.bool a),.il .u32 1 b]] [] Q36.dec=Q36.f N a b:=by kernel_rfl
noncomputable def Q36.ent (N:Nat):uA:=tD (Int) 0 [true] [.recd [.any,.il .u32 1]] fun
 | [.agg [.c (.bool a),.il .u32 1 b]]=>some (Q36.f N a b,fun r=>.one (.c (.int .i64 r)) [])
 |_=>none
theorem Q36.env (N:Nat):yA Tryz.prog (Q36.E N):=⟨(.cons mF (.cons oC (.cons rE .nil))),(.cons (Q3.ent_ok N) .nil)⟩
theorem Q36.spec (N:Nat)(a:Bool)(c:List Int)(r:Int)(h:Q36.f N a c=some r):eA Tryz.prog 117 [.agg [.c (.bool a),.il .u32 1 c]] [] (.c (.int .i64 r)) ([]):=pA (Q36.env N) bA Tryz.func117 cA.n ((Q36.f_eq ..).trans h) fun v b e=>by unfold Q36.dec at e;split at e<;>cases e;exact⟨rfl,rfl⟩
theorem Q36.ent_ok (N:Nat):oA Tryz.prog 117 (Q36.ent N):=sA fun v a e h=>by split at h;exact nB (Q:=fun e=>eA _ _ _ _ (e a).pick.1 (e a).pick.2) h fun k=>Q36.spec N _ _ a k;cases h
noncomputable def Q37.f (N:Nat)(b:Bool)(c:List Int):Option (Bool×List Int):=
 (Q31.f N (!b) c).bind fun a=>
 some (a.1,a.2)
noncomputable def Q37.E (N:Nat):jC:=iD [(4,al),(110,lF),(112,lJ)] [(85,Q31.ent N)] [] [] N [.cell 2 112] [.recd [.any,.il .u32 1]] 0 9
noncomputable def Q37.dec (v:V)(bs:List rA):Option (Bool×List Int):=match v,bs with
 | .agg [.c (.bool a),.il .u32 1 b],[]=>some (a,b)
 |_,_=>none
theorem Q37.f_eq (N:Nat)(a:Bool)(b:List Int):
  aB (Q37.E N) (bo Tryz.f150) [.agg [.c (.bool a),.il .u32 1 b]] [] Q37.dec=Q37.f N a b:=by kernel_rfl
noncomputable def Q37.ent (N:Nat):uA:=tD (Bool×List Int) 0 [true] [.recd [.any,.il .u32 1]] fun
 | [.agg [.c (.bool a),.il .u32 1 b]]=>some (Q37.f N a b,fun r=>.one (.agg [.c (.bool r.1),.il .u32 1 r.2]) [])
 |_=>none
theorem Q37.env (N:Nat):yA Tryz.prog (Q37.E N):=⟨(.cons mF (.cons oC (.cons rE .nil))),(.cons (Q31.ent_ok N) .nil)⟩
theorem Q37.spec (N:Nat)(a:Bool)(c:List Int)(r:Bool×List Int)(h:Q37.f N a c=some r):eA Tryz.prog 150 [.agg [.c (.bool a),.il .u32 1 c]] [] (.agg [.c (.bool r.1),.il .u32 1 r.2]) ([]):=pA (Q37.env N) bA Tryz.func150 cA.n ((Q37.f_eq ..).trans h) fun v b e=>by unfold Q37.dec at e;split at e<;>cases e;exact⟨rfl,rfl⟩
theorem Q37.ent_ok (N:Nat):oA Tryz.prog 150 (Q37.ent N):=sA fun v a e h=>by split at h;exact nB (Q:=fun e=>eA _ _ _ _ (e a).pick.1 (e a).pick.2) h fun k=>Q37.spec N _ _ a k;cases h
noncomputable def Q38.f (N:Nat)(c:Bool)(d:List Int)(e:Bool)(f:List Int):Option (Bool×List Int×Int):=
 (Q37.f N e f).bind fun b=>
 (Q34.f N c d b.1 b.2).bind fun a=>
 some (a.1,a.2.1,a.2.2)
noncomputable def Q38.E (N:Nat):jC:=iD [(112,lJ)] [(150,Q37.ent N),(151,Q34.ent N)] [] [] N [.cell 4 112,.tmp 5] [.recd [.any,.il .u32 1],.any] 0 12
noncomputable def Q38.dec (v:V)(bs:List rA):Option (Bool×List Int×Int):=match v,bs with
 | .tup [.agg [.c (.bool a),.il .u32 1 b],.c (.int .i64 c)],[]=>some (a,b,c)
 |_,_=>none
theorem Q38.f_eq (N:Nat)(a:Bool)(b:List Int)(c:Bool)(d:List Int):
  aB (Q38.E N) (bo Tryz.f147) [.agg [.c (.bool a),.il .u32 1 b],.agg [.c (.bool c),.il .u32 1 d]] [] Q38.dec=Q38.f N a b c d:=by kernel_rfl
noncomputable def Q38.ent (N:Nat):uA:=tD (Bool×List Int×Int) 0 [true,true] [.recd [.any,.il .u32 1],.recd [.any,.il .u32 1]] fun
 | [.agg [.c (.bool a),.il .u32 1 b],.agg [.c (.bool c),.il .u32 1 d]]=>some (Q38.f N a b c d,fun r=>.one (.tup [.agg [.c (.bool r.1),.il .u32 1 r.2.1],.c (.int .i64 r.2.2)]) [])
 |_=>none
theorem Q38.env (N:Nat):yA Tryz.prog (Q38.E N):=⟨(.cons rE .nil),(.cons (Q37.ent_ok N) (.cons (Q34.ent_ok N) .nil))⟩
theorem Q38.spec (N:Nat)(a:Bool)(c:List Int)(d:Bool)(f:List Int)(r:Bool×List Int×Int)(h:Q38.f N a c d f=some r):eA Tryz.prog 147 [.agg [.c (.bool a),.il .u32 1 c],.agg [.c (.bool d),.il .u32 1 f]] [] (.tup [.agg [.c (.bool r.1),.il .u32 1 r.2.1],.c (.int .i64 r.2.2)]) ([]):=pA (Q38.env N) bA Tryz.func147 cA.n ((Q38.f_eq ..).trans h) fun v b e=>by unfold Q38.dec at e;split at e<;>cases e;exact⟨rfl,rfl⟩
theorem Q38.ent_ok (N:Nat):oA Tryz.prog 147 (Q38.ent N):=sA fun v a e h=>by split at h;exact nB (Q:=fun e=>eA _ _ _ _ (e a).pick.1 (e a).pick.2) h fun k=>Q38.spec N _ _ _ _ a k;cases h
noncomputable def Q39.f (N:Nat)(h:Bool)(k:List Int)(i:Bool)(j:List Int):Option (Bool×List Int×Bool×List Int×Int):=
 (Q19.f N k j).bind fun a=>
 bif a.2.2 != 0 then
  some (false,[],false,[],a.2.2)
 else
 bif h then
  (Q3.f N a.2.1).bind fun l=>
  bif decide (l>0)then
   (Q5.f N 1).bind fun m=>
   (Q8.f N a.1 m).bind fun o=>
   (Q10.f N j a.2.1).bind fun p=>
   (Q31.f N (!(h==i)) o.1).bind fun b=>
   (Q31.f N false p.1).bind fun c=>
   some (b.1,b.2,c.1,c.2,0)
  else
  (Q31.f N (!(h==i)) a.1).bind fun d=>
  (Q31.f N false a.2.1).bind fun e=>
  some (d.1,d.2,e.1,e.2,0)
 else
 (Q31.f N (!(h==i)) a.1).bind fun f=>
 (Q31.f N false a.2.1).bind fun g=>
 some (f.1,f.2,g.1,g.2,0)
noncomputable def Q39.E (N:Nat):jC:=iD [(4,al),(110,lF),(112,lJ)] [(145,Q19.ent N),(123,Q3.ent N),(122,Q5.ent N),(161,Q8.ent N),(162,Q10.ent N),(85,Q31.ent N)] [] [] N [.cell 4 112,.cell 5 112,.tmp 6] [.recd [.any,.il .u32 1],.recd [.any,.il .u32 1],.any] 0 52
noncomputable def Q39.dec (v:V)(bs:List rA):Option (Bool×List Int×Bool×List Int×Int):=match v,bs with
 | .tup [.agg [.c (.bool a),.il .u32 1 b],.agg [.c (.bool c),.il .u32 1 d],.c (.int .i64 e)],[]=>some (a,b,c,d,e)
 |_,_=>none
theorem Q39.f_eq (N:Nat)(a:Bool)(b:List Int)(c:Bool)(d:List Int):
  aB (Q39.E N) (bo Tryz.f149) [.agg [.c (.bool a),.il .u32 1 b],.agg [.c (.bool c),.il .u32 1 d]] [] Q39.dec=Q39.f N a b c d:=by kernel_rfl
noncomputable def Q39.ent (N:Nat):uA:=tD (Bool×List Int×Bool×List Int×Int) 0 [true,true] [.recd [.any,.il .u32 1],.recd [.any,.il .u32 1]] fun
 | [.agg [.c (.bool a),.il .u32 1 b],.agg [.c (.bool c),.il .u32 1 d]]=>some (Q39.f N a b c d,fun r=>.one (.tup [.agg [.c (.bool r.1),.il .u32 1 r.2.1],.agg [.c (.bool r.2.2.1),.il .u32 1 r.2.2.2.1],.c (.int .i64 r.2.2.2.2)]) [])
 |_=>none
theorem Q39.env (N:Nat):yA Tryz.prog (Q39.E N):=⟨(.cons mF (.cons oC (.cons rE .nil))),(.cons (Q19.ent_ok N) (.cons (Q3.ent_ok N) (.cons (Q5.ent_ok N) (.cons (Q8.ent_ok N) (.cons (Q10.ent_ok N) (.cons (Q31.ent_ok N) .nil))))))⟩
theorem Q39.spec (N:Nat)(a:Bool)(c:List Int)(d:Bool)(f:List Int)(r:Bool×List Int×Bool×List Int×Int)(h:Q39.f N a c d f=some r):eA Tryz.prog 149 [.agg [.c (.bool a),.il .u32 1 c],.agg [.c (.bool d),.il .u32 1 f]] [] (.tup [.agg [.c (.bool r.1),.il .u32 1 r.2.1],.agg [.c (.bool r.2.2.1),.il .u32 1 r.2.2.2.1],.c (.int .i64 r.2.2.2.2)]) ([]):=pA (Q39.env N) bA Tryz.func149 cA.n ((Q39.f_eq ..).trans h) fun v b e=>by unfold Q39.dec at e;split at e<;>cases e;exact⟨rfl,rfl⟩
theorem Q39.ent_ok (N:Nat):oA Tryz.prog 149 (Q39.ent N):=sA fun v a e h=>by split at h;exact nB (Q:=fun e=>eA _ _ _ _ (e a).pick.1 (e a).pick.2) h fun k=>Q39.spec N _ _ _ _ a k;cases h
noncomputable def Q40.f (N:Nat)(b:Bool)(c:List Int)(d:Bool)(e:List Int):Option (Bool×List Int×Int):=
 (Q39.f N b c d e).bind fun a=>
 bif a.2.2.2.2 != 0 then
  some (false,[],a.2.2.2.2)
 else
 (Q36.f N a.2.2.1 a.2.2.2.1).bind fun f=>
 bif f != 0 then
  some (false,[],2)
 else
 some (a.1,a.2.1,0)
noncomputable def Q40.E (N:Nat):jC:=iD [(4,al),(110,lF),(112,lJ)] [(149,Q39.ent N),(117,Q36.ent N)] [] [] N [.cell 4 112,.tmp 5] [.recd [.any,.il .u32 1],.any] 0 27
noncomputable def Q40.dec (v:V)(bs:List rA):Option (Bool×List Int×Int):=match v,bs with
 | .tup [.agg [.c (.bool a),.il .u32 1 b],.c (.int .i64 c)],[]=>some (a,b,c)
 |_,_=>none
theorem Q40.f_eq (N:Nat)(a:Bool)(b:List Int)(c:Bool)(d:List Int):
  aB (Q40.E N) (bo Tryz.f121) [.agg [.c (.bool a),.il .u32 1 b],.agg [.c (.bool c),.il .u32 1 d]] [] Q40.dec=Q40.f N a b c d:=by kernel_rfl
noncomputable def Q40.ent (N:Nat):uA:=tD (Bool×List Int×Int) 0 [true,true] [.recd [.any,.il .u32 1],.recd [.any,.il .u32 1]] fun
 | [.agg [.c (.bool a),.il .u32 1 b],.agg [.c (.bool c),.il .u32 1 d]]=>some (Q40.f N a b c d,fun r=>.one (.tup [.agg [.c (.bool r.1),.il .u32 1 r.2.1],.c (.int .i64 r.2.2)]) [])
 |_=>none
theorem Q40.env (N:Nat):yA Tryz.prog (Q40.E N):=⟨(.cons mF (.cons oC (.cons rE .nil))),(.cons (Q39.ent_ok N) (.cons (Q36.ent_ok N) .nil))⟩
theorem Q40.spec (N:Nat)(a:Bool)(c:List Int)(d:Bool)(f:List Int)(r:Bool×List Int×Int)(h:Q40.f N a c d f=some r):eA Tryz.prog 121 [.agg [.c (.bool a),.il .u32 1 c],.agg [.c (.bool d),.il .u32 1 f]] [] (.tup [.agg [.c (.bool r.1),.il .u32 1 r.2.1],.c (.int .i64 r.2.2)]) ([]):=pA (Q40.env N) bA Tryz.func121 cA.n ((Q40.f_eq ..).trans h) fun v b e=>by unfold Q40.dec at e;split at e<;>cases e;exact⟨rfl,rfl⟩
theorem Q40.ent_ok (N:Nat):oA Tryz.prog 121 (Q40.ent N):=sA fun v a e h=>by split at h;exact nB (Q:=fun e=>eA _ _ _ _ (e a).pick.1 (e a).pick.2) h fun k=>Q40.spec N _ _ _ _ a k;cases h
noncomputable def Q41.f (N:Nat)(a:Bool)(b:List Int)(c:Int):Option (Bool×List Int):=
 some (a,b)
noncomputable def Q41.E (N:Nat):jC:=iD [(112,lJ)] [] [] [] N [.cell 4 112] [.recd [.any,.il .u32 1]] 0 6
noncomputable def Q41.dec (v:V)(bs:List rA):Option (Bool×List Int):=match v,bs with
 | .agg [.c (.bool a),.il .u32 1 b],[]=>some (a,b)
 |_,_=>none
theorem Q41.f_eq (N:Nat)(a:Bool)(b:List Int)(c:Int):
  aB (Q41.E N) (bo Tryz.f120) [.agg [.c (.bool a),.il .u32 1 b],.c (.int .i64 c)] [] Q41.dec=Q41.f N a b c:=by kernel_rfl
noncomputable def Q41.ent (N:Nat):uA:=tD (Bool×List Int) 0 [true,true] [.recd [.any,.il .u32 1],.any] fun
 | [.agg [.c (.bool a),.il .u32 1 b],.c (.int .i64 c)]=>some (Q41.f N a b c,fun r=>.one (.agg [.c (.bool r.1),.il .u32 1 r.2]) [])
 |_=>none
theorem Q41.env (N:Nat):yA Tryz.prog (Q41.E N):=⟨(.cons rE .nil),.nil⟩
theorem Q41.spec (N:Nat)(a:Bool)(c:List Int)(d:Int)(r:Bool×List Int)(h:Q41.f N a c d=some r):eA Tryz.prog 120 [.agg [.c (.bool a),.il .u32 1 c],.c (.int .i64 d)] [] (.agg [.c (.bool r.1),.il .u32 1 r.2]) ([]):=pA (Q41.env N) bA Tryz.func120 cA.n ((Q41.f_eq ..).trans h) fun v b e=>by unfold Q41.dec at e;split at e<;>cases e;exact⟨rfl,rfl⟩
theorem Q41.ent_ok (N:Nat):oA Tryz.prog 120 (Q41.ent N):=sA fun v a e h=>by split at h;exact nB (Q:=fun e=>eA _ _ _ _ (e a).pick.1 (e a).pick.2) h fun k=>Q41.spec N _ _ _ a k;cases h
noncomputable def Q42.f (N:Nat)(e:Bool)(f:List Int)(g:Bool)(h:List Int)(i:Bool)(j:List Int):Option (Bool×List Int):=
 (Q35.f N g h i j).bind fun b=>
 (Q41.f N b.1 b.2.1 b.2.2).bind fun d=>
 (Q38.f N e f d.1 d.2).bind fun c=>
 (Q41.f N c.1 c.2.1 c.2.2).bind fun a=>
 some (a.1,a.2)
noncomputable def Q42.E (N:Nat):jC:=iD [(112,lJ)] [(148,Q35.ent N),(120,Q41.ent N),(147,Q38.ent N)] [] [] N [.cell 6 112] [.recd [.any,.il .u32 1]] 0 18
noncomputable def Q42.dec (v:V)(bs:List rA):Option (Bool×List Int):=match v,bs with
 | .agg [.c (.bool a),.il .u32 1 b],[]=>some (a,b)
 |_,_=>none
theorem Q42.f_eq (N:Nat)(a:Bool)(b:List Int)(c:Bool)(d:List Int)(e:Bool)(f:List Int):
  aB (Q42.E N) (bo Tryz.f146) [.agg [.c (.bool a),.il .u32 1 b],.agg [.c (.bool c),.il .u32 1 d],.agg [.c (.bool e),.il .u32 1 f]] [] Q42.dec=Q42.f N a b c d e f:=by kernel_rfl
noncomputable def Q42.ent (N:Nat):uA:=tD (Bool×List Int) 0 [true,true,true] [.recd [.any,.il .u32 1],.recd [.any,.il .u32 1],.recd [.any,.il .u32 1]] fun
 | [.agg [.c (.bool a),.il .u32 1 b],.agg [.c (.bool c),.il .u32 1 d],.agg [.c (.bool e),.il .u32 1 f]]=>some (Q42.f N a b c d e f,fun r=>.one (.agg [.c (.bool r.1),.il .u32 1 r.2]) [])
 |_=>none
theorem Q42.env (N:Nat):yA Tryz.prog (Q42.E N):=⟨(.cons rE .nil),(.cons (Q35.ent_ok N) (.cons (Q41.ent_ok N) (.cons (Q38.ent_ok N) .nil)))⟩
theorem Q42.spec (N:Nat)(a:Bool)(c:List Int)(d:Bool)(f:List Int)(g:Bool)(i:List Int)(r:Bool×List Int)(h:Q42.f N a c d f g i=some r):eA Tryz.prog 146 [.agg [.c (.bool a),.il .u32 1 c],.agg [.c (.bool d),.il .u32 1 f],.agg [.c (.bool g),.il .u32 1 i]] [] (.agg [.c (.bool r.1),.il .u32 1 r.2]) ([]):=pA (Q42.env N) bA Tryz.func146 cA.n ((Q42.f_eq ..).trans h) fun v b e=>by unfold Q42.dec at e;split at e<;>cases e;exact⟨rfl,rfl⟩
theorem Q42.ent_ok (N:Nat):oA Tryz.prog 146 (Q42.ent N):=sA fun v a e h=>by split at h;exact nB (Q:=fun e=>eA _ _ _ _ (e a).pick.1 (e a).pick.2) h fun k=>Q42.spec N _ _ _ _ _ _ a k;cases h
noncomputable def Q43.l5 {R:Type}(N:Nat):Nat→Bool→List Int→Bool→List Int→Bool→Bool→Bool→List Int→Bool→List Int→Bool→List Int→Bool→List Int→Bool→List Int→Bool→List Int→(Bool→List Int→Bool→List Int→Bool→Bool→Bool→List Int→Bool→List Int→Option R)→Option R
 |0,_,_,_,_,_,_,_,_,_,_,_,_,_,_,_,_,_,_,_=>none
 |n+1,x,f,g,h,i,j,b,c,u,v,k,l,m,o,p,q,r,s,w=>
  (Q36.f N b c).bind fun t=>
  bif t==0 then
   w x f g h i j k l p q
  else
  (Q39.f N u v b c).bind fun a=>
  (Q42.f N k l a.1 a.2.1 m o).bind fun d=>
  (Q42.f N p q a.1 a.2.1 r s).bind fun e=>
  Q43.l5 N n x f g h i j a.2.2.1 a.2.2.2.1 b c m o d.1 d.2 r s e.1 e.2 w
noncomputable def Q43.f (N:Nat)(r:Bool)(s:List Int)(j:Bool)(k:List Int):Option (Bool×List Int×Bool×List Int):=
 (Q39.f N r s j k).bind fun i=>
 (Q32.f N 1).bind fun t=>
 (Q32.f N 1).bind fun u=>
 (Q37.f N i.1 i.2.1).bind fun v=>
 Q43.l5 N N r s j k false false i.2.2.1 i.2.2.2.1 j k false [] t.1 t.2 u.1 u.2 v.1 v.2
  (fun m o p q w x c d g h=>
   (Q36.f N c d).bind fun l=>
   bif decide (l<0)then
    (Q34.f N c d p q).bind fun a=>
    (Q41.f N a.1 a.2.1 a.2.2).bind fun e=>
    (Q38.f N g h m o).bind fun b=>
    (Q41.f N b.1 b.2.1 b.2.2).bind fun f=>
    some (e.1,e.2,f.1,f.2)
   else
   some (c,d,g,h))
noncomputable def Q43.h5:cC:=⟨[(2,.box [.any,.il .u32 1]),(3,.box [.any,.il .u32 1]),(4,.box [.any,.any]),(5,.box [.any,.any]),(6,.any),(8,.box [.any,.il .u32 1]),(10,.box [.any,.il .u32 1]),(11,.box [.any,.il .u32 1]),(12,.box [.any,.il .u32 1]),(13,.box [.any,.il .u32 1]),(14,.box [.any,.il .u32 1])],[(2,.box [.any,.il .u32 1]),(3,.box [.any,.il .u32 1]),(4,.box [.any,.any]),(5,.box [.any,.any]),(11,.box [.any,.il .u32 1]),(13,.box [.any,.il .u32 1])]⟩
noncomputable def Q43.c5 (N:Nat):nF:=⟨fun vs H k=>match vs,H with
 | [.ptr 0 0 2,.ptr 1 0 2,.ptr 2 0 2,.ptr 3 0 2,.fn 146 [] [],.ptr 4 0 2,.ptr 5 0 2,.ptr 6 0 2,.ptr 7 0 2,.ptr 8 0 2,.ptr 9 0 2],[.vals [.c (.bool x9),.il .u32 1 a],.vals [.c (.bool b),.il .u32 1 c],.vals [.c (.bool d),.c (.slice none 0 0)],.vals [.c (.bool e),.c (.slice none 0 0)],.vals [.c (.bool f),.il .u32 1 g],.vals [.c (.bool h),.il .u32 1 i],.vals [.c (.bool j),.il .u32 1 l],.vals [.c (.bool m),.il .u32 1 o],.vals [.c (.bool p),.il .u32 1 q],.vals [.c (.bool r),.il .u32 1 s]]=>Q43.l5 N N x9 a b c d e f g h i j l m o p q r s (fun t u v w x y z x35 x36 x37=>k (.exit 0) ⟨fC Q43.h5.out [.ptr 0 0 2,.ptr 1 0 2,.ptr 2 0 2,.ptr 3 0 2,.ptr 4 0 2,.ptr 5 0 2],[.vals [.c (.bool t),.il .u32 1 u],.vals [.c (.bool v),.il .u32 1 w],.vals [.c (.bool x),.c (.slice none 0 0)],.vals [.c (.bool y),.c (.slice none 0 0)],.vals [.c (.bool z),.il .u32 1 x35],.vals [.c (.bool x36),.il .u32 1 x37]]⟩)
 |_,_=>none⟩
noncomputable def Q43.E (N:Nat):jC:=iD [(4,al),(110,lF),(112,lJ)] [(149,Q39.ent N),(84,Q32.ent N),(150,Q37.ent N),(117,Q36.ent N),(146,Q42.ent N),(151,Q34.ent N),(120,Q41.ent N),(147,Q38.ent N)] [(5,Q43.h5)] [(5,Q43.c5 N)] N [.cell 4 112,.cell 5 112] [.recd [.any,.il .u32 1],.recd [.any,.il .u32 1]] 0 72
noncomputable def Q43.b5:Code:=nA ((dA (bo Tryz.f119)).getD 1 .skip)
theorem Q43.l5_eq {R:Type}(N n:Nat)(x9:Bool)(a:List Int)(b:Bool)(c:List Int)(d e f:Bool)(g:List Int)(h:Bool)(i:List Int)(j:Bool)(l:List Int)(m:Bool)(o:List Int)(p:Bool)(q:List Int)(r:Bool)(t:List Int)(k:Ex→St→Option R):
  dB 0 Q43.h5 (fun s k=>bB (Q43.E N) 390 Q43.b5 s k) n [.ptr 0 0 2,.ptr 1 0 2,.ptr 2 0 2,.ptr 3 0 2,.fn 146 [] [],.ptr 4 0 2,.ptr 5 0 2,.ptr 6 0 2,.ptr 7 0 2,.ptr 8 0 2,.ptr 9 0 2] [.vals [.c (.bool x9),.il .u32 1 a],.vals [.c (.bool b),.il .u32 1 c],.vals [.c (.bool d),.c (.slice none 0 0)],.vals [.c (.bool e),.c (.slice none 0 0)],.vals [.c (.bool f),.il .u32 1 g],.vals [.c (.bool h),.il .u32 1 i],.vals [.c (.bool j),.il .u32 1 l],.vals [.c (.bool m),.il .u32 1 o],.vals [.c (.bool p),.il .u32 1 q],.vals [.c (.bool r),.il .u32 1 t]] k=Q43.l5 N n x9 a b c d e f g h i j l m o p q r t (fun u v w x y z x34 x35 x36 x37=>k (.exit 0) ⟨fC Q43.h5.out [.ptr 0 0 2,.ptr 1 0 2,.ptr 2 0 2,.ptr 3 0 2,.ptr 4 0 2,.ptr 5 0 2],[.vals [.c (.bool u),.il .u32 1 v],.vals [.c (.bool w),.il .u32 1 x],.vals [.c (.bool y),.c (.slice none 0 0)],.vals [.c (.bool z),.c (.slice none 0 0)],.vals [.c (.bool x34),.il .u32 1 x35],.vals [.c (.bool x36),.il .u32 1 x37]]⟩):=by
 induction n generalizing x9 a b c d e f g h i j l m o p q r t with
 |zero=>kernel_rfl
 |succ n ih=>
  simp only[Q43.l5,←ih]
  kernel_rfl
noncomputable def Q43.dec (v:V)(bs:List rA):Option (Bool×List Int×Bool×List Int):=match v,bs with
 | .tup [.agg [.c (.bool a),.il .u32 1 b],.agg [.c (.bool c),.il .u32 1 d]],[]=>some (a,b,c,d)
 |_,_=>none
theorem Q43.f_eq (N:Nat)(a:Bool)(b:List Int)(c:Bool)(d:List Int):
  aB (Q43.E N) (bo Tryz.f119) [.agg [.c (.bool a),.il .u32 1 b],.agg [.c (.bool c),.il .u32 1 d]] [] Q43.dec=Q43.f N a b c d:=by kernel_rfl
noncomputable def Q43.ent (N:Nat):uA:=tD (Bool×List Int×Bool×List Int) 0 [true,true] [.recd [.any,.il .u32 1],.recd [.any,.il .u32 1]] fun
 | [.agg [.c (.bool a),.il .u32 1 b],.agg [.c (.bool c),.il .u32 1 d]]=>some (Q43.f N a b c d,fun r=>.one (.tup [.agg [.c (.bool r.1),.il .u32 1 r.2.1],.agg [.c (.bool r.2.2.1),.il .u32 1 r.2.2.2]]) [])
 |_=>none
theorem Q43.env (N:Nat):yA Tryz.prog (Q43.E N):=⟨(.cons mF (.cons oC (.cons rE .nil))),(.cons (Q39.ent_ok N) (.cons (Q32.ent_ok N) (.cons (Q37.ent_ok N) (.cons (Q36.ent_ok N) (.cons (Q42.ent_ok N) (.cons (Q34.ent_ok N) (.cons (Q41.ent_ok N) (.cons (Q38.ent_ok N) .nil))))))))⟩
theorem Q43.k5 (N:Nat):gB Tryz.prog Tryz.f119 (Q43.E N) (.loop Q43.b5):=dC (Q43.env N) bA 390 (c:=Q43.c5 N) cA.n fun R vs H k r h=>by unfold Q43.c5 at h;dsimp only at h;split at h;exact⟨_,Q43.l5_eq .. ▸h⟩;cases h
theorem Q43.spec (N:Nat)(a:Bool)(c:List Int)(d:Bool)(f:List Int)(r:Bool×List Int×Bool×List Int)(h:Q43.f N a c d f=some r):eA Tryz.prog 119 [.agg [.c (.bool a),.il .u32 1 c],.agg [.c (.bool d),.il .u32 1 f]] [] (.tup [.agg [.c (.bool r.1),.il .u32 1 r.2.1],.agg [.c (.bool r.2.2.1),.il .u32 1 r.2.2.2]]) ([]):=pA (Q43.env N) bA Tryz.func119 (cA.of (l:=[(.scope (nA ((dA (bo Tryz.f119)).getD 0 .skip))),(.loop (nA ((dA (bo Tryz.f119)).getD 1 .skip)))]) (by kernel_rfl) (cA.cons (cQ (by kernel_rfl)) (cA.cons (Q43.k5 N) cA.nil))) ((Q43.f_eq ..).trans h) fun v b e=>by unfold Q43.dec at e;split at e<;>cases e;exact⟨rfl,rfl⟩
theorem Q43.ent_ok (N:Nat):oA Tryz.prog 119 (Q43.ent N):=sA fun v a e h=>by split at h;exact nB (Q:=fun e=>eA _ _ _ _ (e a).pick.1 (e a).pick.2) h fun k=>Q43.spec N _ _ _ _ a k;cases h
noncomputable def Q44.f (N:Nat)(k:Bool)(h:List Int)(l:Bool)(j:List Int):Option (List Int×Bool×List Int×Bool×List Int):=
 (Q36.f N l j).bind fun p=>
 bif p==0 then
  (Q36.f N k h).bind fun q=>
  (Q32.f N q).bind fun m=>
  some (h,m.1,m.2,false,[])
 else
 (Q20.f N h j).bind fun o=>
 (Q31.f N false o).bind fun i=>
 (Q40.f N k h i.1 i.2).bind fun b=>
 (Q41.f N b.1 b.2.1 b.2.2).bind fun d=>
 (Q31.f N false j).bind fun e=>
 (Q40.f N e.1 e.2 i.1 i.2).bind fun c=>
 (Q41.f N c.1 c.2.1 c.2.2).bind fun f=>
 (Q43.f N d.1 d.2 f.1 f.2).bind fun a=>
 (Q31.f N (!(a.2.2.1==l)) a.2.2.2).bind fun g=>
 some (o,a.1,a.2.1,g.1,g.2)
noncomputable def Q44.E (N:Nat):jC:=iD [(4,al),(110,lF),(112,lJ)] [(117,Q36.ent N),(84,Q32.ent N),(118,Q20.ent N),(85,Q31.ent N),(121,Q40.ent N),(120,Q41.ent N),(119,Q43.ent N)] [] [] N [.cell 4 110,.cell 5 112,.cell 6 112] [.recd [.il .u32 1],.recd [.any,.il .u32 1],.recd [.any,.il .u32 1]] 0 52
noncomputable def Q44.dec (v:V)(bs:List rA):Option (List Int×Bool×List Int×Bool×List Int):=match v,bs with
 | .tup [.agg [.il .u32 1 a],.agg [.c (.bool b),.il .u32 1 c],.agg [.c (.bool d),.il .u32 1 e]],[]=>some (a,b,c,d,e)
 |_,_=>none
theorem Q44.f_eq (N:Nat)(a:Bool)(b:List Int)(c:Bool)(d:List Int):
  aB (Q44.E N) (bo Tryz.f83) [.agg [.c (.bool a),.il .u32 1 b],.agg [.c (.bool c),.il .u32 1 d]] [] Q44.dec=Q44.f N a b c d:=by kernel_rfl
noncomputable def Q44.ent (N:Nat):uA:=tD (List Int×Bool×List Int×Bool×List Int) 0 [true,true] [.recd [.any,.il .u32 1],.recd [.any,.il .u32 1]] fun
 | [.agg [.c (.bool a),.il .u32 1 b],.agg [.c (.bool c),.il .u32 1 d]]=>some (Q44.f N a b c d,fun r=>.one (.tup [.agg [.il .u32 1 r.1],.agg [.c (.bool r.2.1),.il .u32 1 r.2.2.1],.agg [.c (.bool r.2.2.2.1),.il .u32 1 r.2.2.2.2]]) [])
 |_=>none
theorem Q44.env (N:Nat):yA Tryz.prog (Q44.E N):=⟨(.cons mF (.cons oC (.cons rE .nil))),(.cons (Q36.ent_ok N) (.cons (Q32.ent_ok N) (.cons (Q20.ent_ok N) (.cons (Q31.ent_ok N) (.cons (Q40.ent_ok N) (.cons (Q41.ent_ok N) (.cons (Q43.ent_ok N) .nil)))))))⟩
theorem Q44.spec (N:Nat)(a:Bool)(c:List Int)(d:Bool)(f:List Int)(r:List Int×Bool×List Int×Bool×List Int)(h:Q44.f N a c d f=some r):eA Tryz.prog 83 [.agg [.c (.bool a),.il .u32 1 c],.agg [.c (.bool d),.il .u32 1 f]] [] (.tup [.agg [.il .u32 1 r.1],.agg [.c (.bool r.2.1),.il .u32 1 r.2.2.1],.agg [.c (.bool r.2.2.2.1),.il .u32 1 r.2.2.2.2]]) ([]):=pA (Q44.env N) bA Tryz.func83 cA.n ((Q44.f_eq ..).trans h) fun v b e=>by unfold Q44.dec at e;split at e<;>cases e;exact⟨rfl,rfl⟩
theorem Q44.ent_ok (N:Nat):oA Tryz.prog 83 (Q44.ent N):=sA fun v a e h=>by split at h;exact nB (Q:=fun e=>eA _ _ _ _ (e a).pick.1 (e a).pick.2) h fun k=>Q44.spec N _ _ _ _ a k;cases h
noncomputable def Q45.f (N:Nat)(b c:Int):Option (Int×Int×Int):=
 bif decide ((tv b c)>4611686018427387904)then
  some (0,0,0)
 else
 bif decide ((H5 b c)<(-4611686018427387904))then
  some (0,0,0)
 else
 (Q32.f N b).bind fun d=>
 (Q32.f N c).bind fun e=>
 (Q44.f N d.1 d.2 e.1 e.2).bind fun a=>
 (Q31.f N false a.1).bind fun f=>
 (Q33.f N f.1 f.2).bind fun g=>
 (Q33.f N a.2.1 a.2.2.1).bind fun h=>
 (Q33.f N a.2.2.2.1 a.2.2.2.2).bind fun i=>
 some (g.1,h.1,i.1)
noncomputable def Q45.E (N:Nat):jC:=iD [(110,lF),(112,lJ)] [(84,Q32.ent N),(83,Q44.ent N),(85,Q31.ent N),(86,Q33.ent N)] [] [] N [.tmp 4,.tmp 5,.tmp 6] [.any,.any,.any] 0 48
noncomputable def Q45.dec (v:V)(bs:List rA):Option (Int×Int×Int):=match v,bs with
 | .tup [.c (.int .i64 a),.c (.int .i64 b),.c (.int .i64 c)],[]=>some (a,b,c)
 |_,_=>none
theorem Q45.f_eq (N:Nat)(a b:Int):
  aB (Q45.E N) (bo Tryz.f63) [.c (.int .i64 a),.c (.int .i64 b)] [] Q45.dec=Q45.f N a b:=by kernel_rfl
noncomputable def Q45.ent (N:Nat):uA:=tD (Int×Int×Int) 0 [true,true] [.any,.any] fun
 | [.c (.int .i64 a),.c (.int .i64 b)]=>some (Q45.f N a b,fun r=>.one (.tup [.c (.int .i64 r.1),.c (.int .i64 r.2.1),.c (.int .i64 r.2.2)]) [])
 |_=>none
theorem Q45.env (N:Nat):yA Tryz.prog (Q45.E N):=⟨(.cons oC (.cons rE .nil)),(.cons (Q32.ent_ok N) (.cons (Q44.ent_ok N) (.cons (Q31.ent_ok N) (.cons (Q33.ent_ok N) .nil))))⟩
theorem Q45.spec (N:Nat)(a c:Int)(r:Int×Int×Int)(h:Q45.f N a c=some r):eA Tryz.prog 63 [.c (.int .i64 a),.c (.int .i64 c)] [] (.tup [.c (.int .i64 r.1),.c (.int .i64 r.2.1),.c (.int .i64 r.2.2)]) ([]):=pA (Q45.env N) bA Tryz.func63 cA.n ((Q45.f_eq ..).trans h) fun v b e=>by unfold Q45.dec at e;split at e<;>cases e;exact⟨rfl,rfl⟩
theorem Q45.ent_ok (N:Nat):oA Tryz.prog 63 (Q45.ent N):=sA fun v a e h=>by split at h;exact nB (Q:=fun e=>eA _ _ _ _ (e a).pick.1 (e a).pick.2) h fun k=>Q45.spec N _ _ a k;cases h
noncomputable def Q46.f (N:Nat)(a b c:Int):Option (Bool):=
 bif decide ((tv (tv a b) c)≤1073741824)then
  some (decide ((H5 (H5 a b) c)≥(-1073741824)))
 else
 some false
noncomputable def Q46.E (N:Nat):jC:=iD [(2,aN),(33,aG)] [] [] [] N [.tmp 2] [.any] 0 21
noncomputable def Q46.dec (v:V)(bs:List rA):Option (Bool):=match v,bs with
 | .c (.bool a),[]=>some a
 |_,_=>none
theorem Q46.f_eq (N:Nat)(a b c:Int):
  aB (Q46.E N) (bo Tryz.f38) [.agg [.c (.int .i64 a),.c (.int .i64 b),.c (.int .i64 c)]] [] Q46.dec=Q46.f N a b c:=by kernel_rfl
noncomputable def Q46.ent (N:Nat):uA:=tD (Bool) 0 [true] [.recd [.any,.any,.any]] fun
 | [.agg [.c (.int .i64 a),.c (.int .i64 b),.c (.int .i64 c)]]=>some (Q46.f N a b c,fun r=>.one (.c (.bool r)) [])
 |_=>none
theorem Q46.env (N:Nat):yA Tryz.prog (Q46.E N):=⟨(.cons nC (.cons xB .nil)),.nil⟩
theorem Q46.spec (N:Nat)(a c d:Int)(r:Bool)(h:Q46.f N a c d=some r):eA Tryz.prog 38 [.agg [.c (.int .i64 a),.c (.int .i64 c),.c (.int .i64 d)]] [] (.c (.bool r)) ([]):=pA (Q46.env N) bA Tryz.func38 cA.n ((Q46.f_eq ..).trans h) fun v b e=>by unfold Q46.dec at e;split at e<;>cases e;exact⟨rfl,rfl⟩
theorem Q46.ent_ok (N:Nat):oA Tryz.prog 38 (Q46.ent N):=sA fun v a e h=>by split at h;exact nB (Q:=fun e=>eA _ _ _ _ (e a).pick.1 (e a).pick.2) h fun k=>Q46.spec N _ _ _ a k;cases h
noncomputable def Q47.f (N:Nat)(b a c:Int):Option (Int):=
 (Q46.f N b a c).bind fun d=>
 bif !d then
  some 0
 else
 some (aA ((aA (a*a))- (aA ((aA (4*b))*c))))
noncomputable def Q47.E (N:Nat):jC:=iD [(2,aN),(33,aG)] [(38,Q46.ent N)] [] [] N [.tmp 2] [.any] 0 18
noncomputable def Q47.dec (v:V)(bs:List rA):Option (Int):=match v,bs with
 | .c (.int .i64 a),[]=>some a
 |_,_=>none
theorem Q47.f_eq (N:Nat)(a b c:Int):
  aB (Q47.E N) (bo Tryz.f19) [.agg [.c (.int .i64 a),.c (.int .i64 b),.c (.int .i64 c)]] [] Q47.dec=Q47.f N a b c:=by kernel_rfl
noncomputable def Q47.ent (N:Nat):uA:=tD (Int) 0 [true] [.recd [.any,.any,.any]] fun
 | [.agg [.c (.int .i64 a),.c (.int .i64 b),.c (.int .i64 c)]]=>some (Q47.f N a b c,fun r=>.one (.c (.int .i64 r)) [])
 |_=>none
theorem Q47.env (N:Nat):yA Tryz.prog (Q47.E N):=⟨(.cons nC (.cons xB .nil)),(.cons (Q46.ent_ok N) .nil)⟩
theorem Q47.spec (N:Nat)(a c d r:Int)(h:Q47.f N a c d=some r):eA Tryz.prog 19 [.agg [.c (.int .i64 a),.c (.int .i64 c),.c (.int .i64 d)]] [] (.c (.int .i64 r)) ([]):=pA (Q47.env N) bA Tryz.func19 cA.n ((Q47.f_eq ..).trans h) fun v b e=>by unfold Q47.dec at e;split at e<;>cases e;exact⟨rfl,rfl⟩
theorem Q47.ent_ok (N:Nat):oA Tryz.prog 19 (Q47.ent N):=sA fun v a e h=>by split at h;exact nB (Q:=fun e=>eA _ _ _ _ (e a).pick.1 (e a).pick.2) h fun k=>Q47.spec N _ _ _ a k;cases h
noncomputable def Q48.f (N:Nat)(a b c:Int):Option (Int):=
 (Q47.f N a b c).bind fun d=>
 (Q46.f N a b c).bind fun e=>
 bif !e then
  some 3
 else
 bif decide (a≤0)then
  some 81
 else
 bif decide (d≥0)then
  some 81
 else
 bif decide (d<(-4294967296))then
  some 80
 else
 some 0
noncomputable def Q48.E (N:Nat):jC:=iD [(2,aN),(33,aG)] [(19,Q47.ent N),(38,Q46.ent N)] [] [] N [.tmp 2] [.any] 0 21
noncomputable def Q48.dec (v:V)(bs:List rA):Option (Int):=match v,bs with
 | .c (.int .i64 a),[]=>some a
 |_,_=>none
theorem Q48.f_eq (N:Nat)(a b c:Int):
  aB (Q48.E N) (bo Tryz.f36) [.agg [.c (.int .i64 a),.c (.int .i64 b),.c (.int .i64 c)]] [] Q48.dec=Q48.f N a b c:=by kernel_rfl
noncomputable def Q48.ent (N:Nat):uA:=tD (Int) 0 [true] [.recd [.any,.any,.any]] fun
 | [.agg [.c (.int .i64 a),.c (.int .i64 b),.c (.int .i64 c)]]=>some (Q48.f N a b c,fun r=>.one (.c (.int .i64 r)) [])
 |_=>none
theorem Q48.env (N:Nat):yA Tryz.prog (Q48.E N):=⟨(.cons nC (.cons xB .nil)),(.cons (Q47.ent_ok N) (.cons (Q46.ent_ok N) .nil))⟩
theorem Q48.spec (N:Nat)(a c d r:Int)(h:Q48.f N a c d=some r):eA Tryz.prog 36 [.agg [.c (.int .i64 a),.c (.int .i64 c),.c (.int .i64 d)]] [] (.c (.int .i64 r)) ([]):=pA (Q48.env N) bA Tryz.func36 cA.n ((Q48.f_eq ..).trans h) fun v b e=>by unfold Q48.dec at e;split at e<;>cases e;exact⟨rfl,rfl⟩
theorem Q48.ent_ok (N:Nat):oA Tryz.prog 36 (Q48.ent N):=sA fun v a e h=>by split at h;exact nB (Q:=fun e=>eA _ _ _ _ (e a).pick.1 (e a).pick.2) h fun k=>Q48.spec N _ _ _ a k;cases h
noncomputable def Q49.f (N:Nat)(a b e c f d g:Int):Option (Bool×Int×Int×Int×Int×Int×Int×Int):=
 bif decide (b≤(aA (0-a)))then
  bif !((aA (2*a))==0)then
   bif !((aA (2*a))==0)then
    bif decide ((Int.tmod (aA (a-b)) (aA (2*a)))<0)then
     some (true,a,aA (b+(aA ((aA (2*(aA ((aA (Int.tdiv (aA (a-b)) (aA (2*a))))-1))))*a))),aA ((aA ((aA ((aA (a*(aA ((aA (Int.tdiv (aA (a-b)) (aA (2*a))))-1))))+b))*(aA ((aA (Int.tdiv (aA (a-b)) (aA (2*a))))-1))))+e),c,aA ((aA ((aA ((aA (Int.tdiv (aA (a-b)) (aA (2*a))))-1))*c))+f),d,aA ((aA ((aA ((aA (Int.tdiv (aA (a-b)) (aA (2*a))))-1))*d))+g))
    else
    some (true,a,aA (b+(aA ((aA (2*(aA (Int.tdiv (aA (a-b)) (aA (2*a))))))*a))),aA ((aA ((aA ((aA (a*(aA (Int.tdiv (aA (a-b)) (aA (2*a))))))+b))*(aA (Int.tdiv (aA (a-b)) (aA (2*a))))))+e),c,aA ((aA ((aA (Int.tdiv (aA (a-b)) (aA (2*a))))*c))+f),d,aA ((aA ((aA (Int.tdiv (aA (a-b)) (aA (2*a))))*d))+g))
   else none
  else none
 else
 bif decide (b>a)then
  bif !((aA (2*a))==0)then
   bif !((aA (2*a))==0)then
    bif decide ((Int.tmod (aA (a-b)) (aA (2*a)))<0)then
     some (true,a,aA (b+(aA ((aA (2*(aA ((aA (Int.tdiv (aA (a-b)) (aA (2*a))))-1))))*a))),aA ((aA ((aA ((aA (a*(aA ((aA (Int.tdiv (aA (a-b)) (aA (2*a))))-1))))+b))*(aA ((aA (Int.tdiv (aA (a-b)) (aA (2*a))))-1))))+e),c,aA ((aA ((aA ((aA (Int.tdiv (aA (a-b)) (aA (2*a))))-1))*c))+f),d,aA ((aA ((aA ((aA (Int.tdiv (aA (a-b)) (aA (2*a))))-1))*d))+g))
    else
    some (true,a,aA (b+(aA ((aA (2*(aA (Int.tdiv (aA (a-b)) (aA (2*a))))))*a))),aA ((aA ((aA ((aA (a*(aA (Int.tdiv (aA (a-b)) (aA (2*a))))))+b))*(aA (Int.tdiv (aA (a-b)) (aA (2*a))))))+e),c,aA ((aA ((aA (Int.tdiv (aA (a-b)) (aA (2*a))))*c))+f),d,aA ((aA ((aA (Int.tdiv (aA (a-b)) (aA (2*a))))*d))+g))
   else none
  else none
 else
 bif decide (a>e)then
  some (true,e,aA (0-b),a,f,aA (0-c),g,aA (0-d))
 else
 bif a==e then
  bif decide (b<0)then
   some (true,e,aA (0-b),a,f,aA (0-c),g,aA (0-d))
  else
  some (false,a,b,e,c,f,d,g)
 else
 some (false,a,b,e,c,f,d,g)
noncomputable def Q49.E (N:Nat):jC:=iD [(2,aN),(33,aG),(72,Eu),(74,If)] [] [] [] N [.tmp 2] [.any] 1 164
noncomputable def Q49.dec (v:V)(bs:List rA):Option (Bool×Int×Int×Int×Int×Int×Int×Int):=match v,bs with
 | .c (.bool a),[.vals [.c (.int .i64 b),.c (.int .i64 c),.c (.int .i64 d),.c (.int .i64 e),.c (.int .i64 f),.c (.int .i64 g),.c (.int .i64 h)]]=>some (a,b,c,d,e,f,g,h)
 |_,_=>none
theorem Q49.f_eq (N:Nat)(a b c d e f g:Int):
  aB (Q49.E N) (bo Tryz.f37) [.ptr 0 0 7] [.vals [.c (.int .i64 a),.c (.int .i64 b),.c (.int .i64 c),.c (.int .i64 d),.c (.int .i64 e),.c (.int .i64 f),.c (.int .i64 g)]] Q49.dec=Q49.f N a b c d e f g:=by kernel_rfl
noncomputable def Q49.ent (N:Nat):uA:={A:=Bool×Int×Int×Int×Int×Int×Int×Int,fresh:=0,imm:=[false],dec:=fun args bs=>match fG (qA bs) [false] args,bs with
 | [.ptr 0 0 7],[.vals [.c (.int .i64 a),.c (.int .i64 b),.c (.int .i64 c),.c (.int .i64 d),.c (.int .i64 e),.c (.int .i64 f),.c (.int .i64 g)]]=>some (Q49.f N a b c d e f g,fun r=>.one (.c (.bool r.1)) [.vals [.c (.int .i64 r.2.1),.c (.int .i64 r.2.2.1),.c (.int .i64 r.2.2.2.1),.c (.int .i64 r.2.2.2.2.1),.c (.int .i64 r.2.2.2.2.2.1),.c (.int .i64 r.2.2.2.2.2.2.1),.c (.int .i64 r.2.2.2.2.2.2.2)]])
 |_,_=>none}
theorem Q49.env (N:Nat):yA Tryz.prog (Q49.E N):=⟨(.cons nC (.cons xB (.cons dX (.cons ye .nil)))),.nil⟩
theorem Q49.spec (N:Nat)(a c d f g i j:Int)(r:Bool×Int×Int×Int×Int×Int×Int×Int)(h:Q49.f N a c d f g i j=some r):eA Tryz.prog 37 [.ptr 0 0 7] [.vals [.c (.int .i64 a),.c (.int .i64 c),.c (.int .i64 d),.c (.int .i64 f),.c (.int .i64 g),.c (.int .i64 i),.c (.int .i64 j)]] (.c (.bool r.1)) ([.vals [.c (.int .i64 r.2.1),.c (.int .i64 r.2.2.1),.c (.int .i64 r.2.2.2.1),.c (.int .i64 r.2.2.2.2.1),.c (.int .i64 r.2.2.2.2.2.1),.c (.int .i64 r.2.2.2.2.2.2.1),.c (.int .i64 r.2.2.2.2.2.2.2)]]):=pA (Q49.env N) bA Tryz.func37 cA.n ((Q49.f_eq ..).trans h) fun v b e=>by unfold Q49.dec at e;split at e<;>cases e;exact⟨rfl,rfl⟩
theorem Q49.ent_ok (N:Nat):oA Tryz.prog 37 (Q49.ent N):=by
 intro args bs a enc h;simp only[Q49.ent]at h;split at h
 ·rename_i hz;have h0:=Option.some.inj h;have h1:=congrArg Prod.fst h0;have h2:=congrArg Prod.snd h0;dsimp only at h1 h2;subst h2;exact eA.of_asSl (fl:=[false]) (by rw[hz];exact Q49.spec N _ _ _ _ _ _ _ a h1)
 ·cases h
noncomputable def Q50.l6 {R:Type}(N:Nat):Nat→Int→Int→Int→Int→Int→Int→Int→Int→Int→Int→Int→Int→Int→Int→(Int→Int→Int→Int→Int→Int→Int→Int→Int→Int→Int→Int→Int→Int→Option R)→Option R
 |0,_,_,_,_,_,_,_,_,_,_,_,_,_,_,_=>none
 |n+1,l,m,o,p,q,b,c,d,e,f,g,h,i,j,k=>
  (Q49.f N d e f g h i j).bind fun a=>
  bif a.1 then
   Q50.l6 N n l m o p q b c a.2.1 a.2.2.1 a.2.2.2.1 a.2.2.2.2.1 a.2.2.2.2.2.1 a.2.2.2.2.2.2.1 a.2.2.2.2.2.2.2 k
  else
  k l m o p q b c a.2.1 a.2.2.1 a.2.2.2.1 a.2.2.2.2.1 a.2.2.2.2.2.1 a.2.2.2.2.2.2.1 a.2.2.2.2.2.2.2
noncomputable def Q50.f (N:Nat)(h i j:Int):Option (Int×Int×Int×Int×Int×Int×Int×Int):=
 (Q48.f N h i j).bind fun k=>
 bif k != 0 then
  some (0,0,0,0,0,0,0,k)
 else
 Q50.l6 N N 0 0 0 0 0 0 0 h i j 1 0 0 1
  (fun l m o p q r s a b c d e f g=>
   some (a,b,c,d,e,f,g,0))
noncomputable def Q50.h6:cC:=⟨[(2,.box [.any,.any,.any]),(3,.box [.any,.any,.any,.any]),(6,.box [.any,.any,.any,.any,.any,.any,.any]),(7,.any)],[(2,.box [.any,.any,.any]),(3,.box [.any,.any,.any,.any]),(6,.box [.any,.any,.any,.any,.any,.any,.any])]⟩
noncomputable def Q50.c6 (N:Nat):nF:=⟨fun vs H k=>match vs,H with
 | [.ptr 0 0 3,.ptr 1 0 4,.ptr 2 0 7,.fn 37 [.ptr 2 0 7] []],[.vals [.c (.int .i64 z),.c (.int .i64 x6),.c (.int .i64 x7)],.vals [.c (.int .i64 x8),.c (.int .i64 x9),.c (.int .i64 a),.c (.int .i64 b)],.vals [.c (.int .i64 c),.c (.int .i64 d),.c (.int .i64 e),.c (.int .i64 f),.c (.int .i64 g),.c (.int .i64 h),.c (.int .i64 i)]]=>Q50.l6 N N z x6 x7 x8 x9 a b c d e f g h i (fun j l m o p q r s t u v w x y=>k (.exit 0) ⟨fC Q50.h6.out [.ptr 0 0 3,.ptr 1 0 4,.ptr 2 0 7],[.vals [.c (.int .i64 j),.c (.int .i64 l),.c (.int .i64 m)],.vals [.c (.int .i64 o),.c (.int .i64 p),.c (.int .i64 q),.c (.int .i64 r)],.vals [.c (.int .i64 s),.c (.int .i64 t),.c (.int .i64 u),.c (.int .i64 v),.c (.int .i64 w),.c (.int .i64 x),.c (.int .i64 y)]]⟩)
 |_,_=>none⟩
noncomputable def Q50.E (N:Nat):jC:=iD [(2,aN),(33,aG),(72,Eu),(74,If)] [(36,Q48.ent N),(37,Q49.ent N)] [(6,Q50.h6)] [(6,Q50.c6 N)] N [.cell 2 33,.cell 3 72,.tmp 4] [.recd [.any,.any,.any],.recd [.any,.any,.any,.any],.any] 0 31
noncomputable def Q50.b6:Code:=nA ((dA (bo Tryz.f54)).getD 0 .skip)
theorem Q50.l6_eq {R:Type}(N n:Nat)(x5 x6 x7 x8 x9 a b c d e f g h i:Int)(k:Ex→St→Option R):
  dB 0 Q50.h6 (fun s k=>bB (Q50.E N) 393 Q50.b6 s k) n [.ptr 0 0 3,.ptr 1 0 4,.ptr 2 0 7,.fn 37 [.ptr 2 0 7] []] [.vals [.c (.int .i64 x5),.c (.int .i64 x6),.c (.int .i64 x7)],.vals [.c (.int .i64 x8),.c (.int .i64 x9),.c (.int .i64 a),.c (.int .i64 b)],.vals [.c (.int .i64 c),.c (.int .i64 d),.c (.int .i64 e),.c (.int .i64 f),.c (.int .i64 g),.c (.int .i64 h),.c (.int .i64 i)]] k=Q50.l6 N n x5 x6 x7 x8 x9 a b c d e f g h i (fun j l m o p q r t u v w x y z=>k (.exit 0) ⟨fC Q50.h6.out [.ptr 0 0 3,.ptr 1 0 4,.ptr 2 0 7],[.vals [.c (.int .i64 j),.c (.int .i64 l),.c (.int .i64 m)],.vals [.c (.int .i64 o),.c (.int .i64 p),.c (.int .i64 q),.c (.int .i64 r)],.vals [.c (.int .i64 t),.c (.int .i64 u),.c (.int .i64 v),.c (.int .i64 w),.c (.int .i64 x),.c (.int .i64 y),.c (.int .i64 z)]]⟩):=by
 induction n generalizing x5 x6 x7 x8 x9 a b c d e f g h i with
 |zero=>kernel_rfl
 |succ n ih=>
  simp only[Q50.l6,←ih]
  kernel_rfl
noncomputable def Q50.dec (v:V)(bs:List rA):Option (Int×Int×Int×Int×Int×Int×Int×Int):=match v,bs with
 | .tup [.agg [.c (.int .i64 a),.c (.int .i64 b),.c (.int .i64 c)],.agg [.c (.int .i64 d),.c (.int .i64 e),.c (.int .i64 f),.c (.int .i64 g)],.c (.int .i64 h)],[]=>some (a,b,c,d,e,f,g,h)
 |_,_=>none
theorem Q50.f_eq (N:Nat)(a b c:Int):
  aB (Q50.E N) (bo Tryz.f54) [.agg [.c (.int .i64 a),.c (.int .i64 b),.c (.int .i64 c)]] [] Q50.dec=Q50.f N a b c:=by kernel_rfl
noncomputable def Q50.ent (N:Nat):uA:=tD (Int×Int×Int×Int×Int×Int×Int×Int) 0 [true] [.recd [.any,.any,.any]] fun
 | [.agg [.c (.int .i64 a),.c (.int .i64 b),.c (.int .i64 c)]]=>some (Q50.f N a b c,fun r=>.one (.tup [.agg [.c (.int .i64 r.1),.c (.int .i64 r.2.1),.c (.int .i64 r.2.2.1)],.agg [.c (.int .i64 r.2.2.2.1),.c (.int .i64 r.2.2.2.2.1),.c (.int .i64 r.2.2.2.2.2.1),.c (.int .i64 r.2.2.2.2.2.2.1)],.c (.int .i64 r.2.2.2.2.2.2.2)]) [])
 |_=>none
theorem Q50.env (N:Nat):yA Tryz.prog (Q50.E N):=⟨(.cons nC (.cons xB (.cons dX (.cons ye .nil)))),(.cons (Q48.ent_ok N) (.cons (Q49.ent_ok N) .nil))⟩
theorem Q50.k6 (N:Nat):gB Tryz.prog Tryz.f54 (Q50.E N) (.loop Q50.b6):=dC (Q50.env N) bA 393 (c:=Q50.c6 N) cA.n fun R vs H k r h=>by unfold Q50.c6 at h;dsimp only at h;split at h;exact⟨_,Q50.l6_eq .. ▸h⟩;cases h
theorem Q50.spec (N:Nat)(a c d:Int)(r:Int×Int×Int×Int×Int×Int×Int×Int)(h:Q50.f N a c d=some r):eA Tryz.prog 54 [.agg [.c (.int .i64 a),.c (.int .i64 c),.c (.int .i64 d)]] [] (.tup [.agg [.c (.int .i64 r.1),.c (.int .i64 r.2.1),.c (.int .i64 r.2.2.1)],.agg [.c (.int .i64 r.2.2.2.1),.c (.int .i64 r.2.2.2.2.1),.c (.int .i64 r.2.2.2.2.2.1),.c (.int .i64 r.2.2.2.2.2.2.1)],.c (.int .i64 r.2.2.2.2.2.2.2)]) ([]):=pA (Q50.env N) bA Tryz.func54 (cA.of (l:=[(.loop (nA ((dA (bo Tryz.f54)).getD 0 .skip)))]) (by kernel_rfl) (cA.cons (Q50.k6 N) cA.nil)) ((Q50.f_eq ..).trans h) fun v b e=>by unfold Q50.dec at e;split at e<;>cases e;exact⟨rfl,rfl⟩
theorem Q50.ent_ok (N:Nat):oA Tryz.prog 54 (Q50.ent N):=sA fun v a e h=>by split at h;exact nB (Q:=fun e=>eA _ _ _ _ (e a).pick.1 (e a).pick.2) h fun k=>Q50.spec N _ _ _ a k;cases h
noncomputable def Q51.f (N:Nat)(a b c:Int):Option (Int):=
 (Q46.f N a b c).bind fun d=>
 bif !d then
  some 0
 else
 (Q45.f N a b).bind fun e=>
 (Q45.f N e.1 c).bind fun f=>
 some f.1
noncomputable def Q51.E (N:Nat):jC:=iD [(2,aN),(33,aG)] [(38,Q46.ent N),(63,Q45.ent N)] [] [] N [.tmp 2] [.any] 0 27
noncomputable def Q51.dec (v:V)(bs:List rA):Option (Int):=match v,bs with
 | .c (.int .i64 a),[]=>some a
 |_,_=>none
theorem Q51.f_eq (N:Nat)(a b c:Int):
  aB (Q51.E N) (bo Tryz.f62) [.agg [.c (.int .i64 a),.c (.int .i64 b),.c (.int .i64 c)]] [] Q51.dec=Q51.f N a b c:=by kernel_rfl
noncomputable def Q51.ent (N:Nat):uA:=tD (Int) 0 [true] [.recd [.any,.any,.any]] fun
 | [.agg [.c (.int .i64 a),.c (.int .i64 b),.c (.int .i64 c)]]=>some (Q51.f N a b c,fun r=>.one (.c (.int .i64 r)) [])
 |_=>none
theorem Q51.env (N:Nat):yA Tryz.prog (Q51.E N):=⟨(.cons nC (.cons xB .nil)),(.cons (Q46.ent_ok N) (.cons (Q45.ent_ok N) .nil))⟩
theorem Q51.spec (N:Nat)(a c d r:Int)(h:Q51.f N a c d=some r):eA Tryz.prog 62 [.agg [.c (.int .i64 a),.c (.int .i64 c),.c (.int .i64 d)]] [] (.c (.int .i64 r)) ([]):=pA (Q51.env N) bA Tryz.func62 cA.n ((Q51.f_eq ..).trans h) fun v b e=>by unfold Q51.dec at e;split at e<;>cases e;exact⟨rfl,rfl⟩
theorem Q51.ent_ok (N:Nat):oA Tryz.prog 62 (Q51.ent N):=sA fun v a e h=>by split at h;exact nB (Q:=fun e=>eA _ _ _ _ (e a).pick.1 (e a).pick.2) h fun k=>Q51.spec N _ _ _ a k;cases h
noncomputable def dJ:TI:=⟨.struct [(4,0),(99,1)],2,32,[.bool false,.slice none 0 0]⟩
theorem jE:zC Tryz.prog 101 dJ:=gD (by kernel_rfl) (by kernel_rfl) (by kernel_rfl) (by kernel_rfl) (by kernel_rfl) (by kernel_rfl) (by kernel_rfl) (qH Tryz.underlying101 (by kernel_rfl) (by kernel_rfl)) (by kernel_rfl)
noncomputable def Q52.f (N:Nat)(b:Bool)(a:List Int):Option (Bool×List Int):=
 (Q24.f N a).bind fun c=>
 bif c==0 then
  some (false,[])
 else
 some (b,a)
noncomputable def Q52.E (N:Nat):jC:=iD [(4,al),(99,dM),(101,dJ)] [(134,Q24.ent N)] [] [] N [.cell 4 101] [.recd [.any,.il .u32 1]] 0 12
noncomputable def Q52.dec (v:V)(bs:List rA):Option (Bool×List Int):=match v,bs with
 | .agg [.c (.bool a),.il .u32 1 b],[]=>some (a,b)
 |_,_=>none
theorem Q52.f_eq (N:Nat)(a:Bool)(b:List Int):
  aB (Q52.E N) (bo Tryz.f95) [.c (.bool a),.il .u32 1 b] [] Q52.dec=Q52.f N a b:=by kernel_rfl
noncomputable def Q52.ent (N:Nat):uA:=tD (Bool×List Int) 0 [true,true] [.any,.il .u32 1] fun
 | [.c (.bool a),.il .u32 1 b]=>some (Q52.f N a b,fun r=>.one (.agg [.c (.bool r.1),.il .u32 1 r.2]) [])
 |_=>none
theorem Q52.env (N:Nat):yA Tryz.prog (Q52.E N):=⟨(.cons mF (.cons dE (.cons jE .nil))),(.cons (Q24.ent_ok N) .nil)⟩
theorem Q52.spec (N:Nat)(a:Bool)(c:List Int)(r:Bool×List Int)(h:Q52.f N a c=some r):eA Tryz.prog 95 [.c (.bool a),.il .u32 1 c] [] (.agg [.c (.bool r.1),.il .u32 1 r.2]) ([]):=pA (Q52.env N) bA Tryz.func95 cA.n ((Q52.f_eq ..).trans h) fun v b e=>by unfold Q52.dec at e;split at e<;>cases e;exact⟨rfl,rfl⟩
theorem Q52.ent_ok (N:Nat):oA Tryz.prog 95 (Q52.ent N):=sA fun v a e h=>by split at h;exact nB (Q:=fun e=>eA _ _ _ _ (e a).pick.1 (e a).pick.2) h fun k=>Q52.spec N _ _ a k;cases h
noncomputable def Q53.f (N:Nat)(a:Int):Option (Bool×List Int):=
 bif decide (a<0)then
  (Q22.f N (jA (0- (jA a)))).bind fun d=>
  (Q52.f N true d).bind fun b=>
  some (b.1,b.2)
 else
 (Q22.f N (jA a)).bind fun e=>
 (Q52.f N false e).bind fun c=>
 some (c.1,c.2)
noncomputable def Q53.E (N:Nat):jC:=iD [(2,aN),(78,aL),(101,dJ)] [(99,Q22.ent N),(95,Q52.ent N)] [] [] N [.cell 2 101] [.recd [.any,.il .u32 1]] 0 14
noncomputable def Q53.dec (v:V)(bs:List rA):Option (Bool×List Int):=match v,bs with
 | .agg [.c (.bool a),.il .u32 1 b],[]=>some (a,b)
 |_,_=>none
theorem Q53.f_eq (N:Nat)(a:Int):
  aB (Q53.E N) (bo Tryz.f75) [.c (.int .i64 a)] [] Q53.dec=Q53.f N a:=by kernel_rfl
noncomputable def Q53.ent (N:Nat):uA:=tD (Bool×List Int) 0 [true] [.any] fun
 | [.c (.int .i64 a)]=>some (Q53.f N a,fun r=>.one (.agg [.c (.bool r.1),.il .u32 1 r.2]) [])
 |_=>none
theorem Q53.env (N:Nat):yA Tryz.prog (Q53.E N):=⟨(.cons nC (.cons zD (.cons jE .nil))),(.cons (Q22.ent_ok N) (.cons (Q52.ent_ok N) .nil))⟩
theorem Q53.spec (N:Nat)(a:Int)(r:Bool×List Int)(h:Q53.f N a=some r):eA Tryz.prog 75 [.c (.int .i64 a)] [] (.agg [.c (.bool r.1),.il .u32 1 r.2]) ([]):=pA (Q53.env N) bA Tryz.func75 cA.n ((Q53.f_eq ..).trans h) fun v b e=>by unfold Q53.dec at e;split at e<;>cases e;exact⟨rfl,rfl⟩
theorem Q53.ent_ok (N:Nat):oA Tryz.prog 75 (Q53.ent N):=sA fun v a e h=>by split at h;exact nB (Q:=fun e=>eA _ _ _ _ (e a).pick.1 (e a).pick.2) h fun k=>Q53.spec N _ a k;cases h
noncomputable def Q54.f (N:Nat)(a:Bool)(b:List Int):Option (Int):=
 (Q24.f N b).bind fun c=>
 bif c==0 then
  some 0
 else
 bif a then
  some (-1)
 else
 some 1
noncomputable def Q54.E (N:Nat):jC:=iD [(4,al),(99,dM),(101,dJ)] [(134,Q24.ent N)] [] [] N [.tmp 2] [.any] 0 9
noncomputable def Q54.dec (v:V)(bs:List rA):Option (Int):=match v,bs with
 | .c (.int .i64 a),[]=>some a
 |_,_=>none
theorem Q54.f_eq (N:Nat)(a:Bool)(b:List Int):
  aB (Q54.E N) (bo Tryz.f104) [.agg [.c (.bool a),.il .u32 1 b]] [] Q54.dec=Q54.f N a b:=by kernel_rfl
noncomputable def Q54.ent (N:Nat):uA:=tD (Int) 0 [true] [.recd [.any,.il .u32 1]] fun
 | [.agg [.c (.bool a),.il .u32 1 b]]=>some (Q54.f N a b,fun r=>.one (.c (.int .i64 r)) [])
 |_=>none
theorem Q54.env (N:Nat):yA Tryz.prog (Q54.E N):=⟨(.cons mF (.cons dE (.cons jE .nil))),(.cons (Q24.ent_ok N) .nil)⟩
theorem Q54.spec (N:Nat)(a:Bool)(c:List Int)(r:Int)(h:Q54.f N a c=some r):eA Tryz.prog 104 [.agg [.c (.bool a),.il .u32 1 c]] [] (.c (.int .i64 r)) ([]):=pA (Q54.env N) bA Tryz.func104 cA.n ((Q54.f_eq ..).trans h) fun v b e=>by unfold Q54.dec at e;split at e<;>cases e;exact⟨rfl,rfl⟩
theorem Q54.ent_ok (N:Nat):oA Tryz.prog 104 (Q54.ent N):=sA fun v a e h=>by split at h;exact nB (Q:=fun e=>eA _ _ _ _ (e a).pick.1 (e a).pick.2) h fun k=>Q54.spec N _ _ a k;cases h
noncomputable def Q55.f (N:Nat)(a:Bool)(b:List Int):Option (Bool):=
 (Q54.f N a b).bind fun c=>
 some (c==0)
noncomputable def Q55.E (N:Nat):jC:=iD [(101,dJ)] [(104,Q54.ent N)] [] [] N [.tmp 2] [.any] 0 6
noncomputable def Q55.dec (v:V)(bs:List rA):Option (Bool):=match v,bs with
 | .c (.bool a),[]=>some a
 |_,_=>none
theorem Q55.f_eq (N:Nat)(a:Bool)(b:List Int):
  aB (Q55.E N) (bo Tryz.f129) [.agg [.c (.bool a),.il .u32 1 b]] [] Q55.dec=Q55.f N a b:=by kernel_rfl
noncomputable def Q55.ent (N:Nat):uA:=tD (Bool) 0 [true] [.recd [.any,.il .u32 1]] fun
 | [.agg [.c (.bool a),.il .u32 1 b]]=>some (Q55.f N a b,fun r=>.one (.c (.bool r)) [])
 |_=>none
theorem Q55.env (N:Nat):yA Tryz.prog (Q55.E N):=⟨(.cons jE .nil),(.cons (Q54.ent_ok N) .nil)⟩
theorem Q55.spec (N:Nat)(a:Bool)(c:List Int)(r:Bool)(h:Q55.f N a c=some r):eA Tryz.prog 129 [.agg [.c (.bool a),.il .u32 1 c]] [] (.c (.bool r)) ([]):=pA (Q55.env N) bA Tryz.func129 cA.n ((Q55.f_eq ..).trans h) fun v b e=>by unfold Q55.dec at e;split at e<;>cases e;exact⟨rfl,rfl⟩
theorem Q55.ent_ok (N:Nat):oA Tryz.prog 129 (Q55.ent N):=sA fun v a e h=>by split at h;exact nB (Q:=fun e=>eA _ _ _ _ (e a).pick.1 (e a).pick.2) h fun k=>Q55.spec N _ _ a k;cases h
noncomputable def Q56.f (N:Nat)(b:Bool)(c:List Int):Option (Int×Bool):=
 (Q23.f N c).bind fun a=>
 bif !a.2 then
  some (0,false)
 else
 bif decide (a.1>9223372036854775808)then
  some (0,false)
 else
 bif a.1==9223372036854775808 then
  bif !b then
   some (0,false)
  else
  (Q54.f N b c).bind fun d=>
  bif decide (d<0)then
   some (aA (jA (0-a.1)),true)
  else
  some (aA a.1,true)
 else
 (Q54.f N b c).bind fun e=>
 bif decide (e<0)then
  some (aA (jA (0-a.1)),true)
 else
 some (aA a.1,true)
noncomputable def Q56.E (N:Nat):jC:=iD [(2,aN),(4,al),(78,aL),(99,dM),(101,dJ)] [(132,Q23.ent N),(104,Q54.ent N)] [] [] N [.tmp 2,.tmp 3] [.any,.any] 0 35
noncomputable def Q56.dec (v:V)(bs:List rA):Option (Int×Bool):=match v,bs with
 | .tup [.c (.int .i64 a),.c (.bool b)],[]=>some (a,b)
 |_,_=>none
theorem Q56.f_eq (N:Nat)(a:Bool)(b:List Int):
  aB (Q56.E N) (bo Tryz.f92) [.agg [.c (.bool a),.il .u32 1 b]] [] Q56.dec=Q56.f N a b:=by kernel_rfl
noncomputable def Q56.ent (N:Nat):uA:=tD (Int×Bool) 0 [true] [.recd [.any,.il .u32 1]] fun
 | [.agg [.c (.bool a),.il .u32 1 b]]=>some (Q56.f N a b,fun r=>.one (.tup [.c (.int .i64 r.1),.c (.bool r.2)]) [])
 |_=>none
theorem Q56.env (N:Nat):yA Tryz.prog (Q56.E N):=⟨(.cons nC (.cons mF (.cons zD (.cons dE (.cons jE .nil))))),(.cons (Q23.ent_ok N) (.cons (Q54.ent_ok N) .nil))⟩
theorem Q56.spec (N:Nat)(a:Bool)(c:List Int)(r:Int×Bool)(h:Q56.f N a c=some r):eA Tryz.prog 92 [.agg [.c (.bool a),.il .u32 1 c]] [] (.tup [.c (.int .i64 r.1),.c (.bool r.2)]) ([]):=pA (Q56.env N) bA Tryz.func92 cA.n ((Q56.f_eq ..).trans h) fun v b e=>by unfold Q56.dec at e;split at e<;>cases e;exact⟨rfl,rfl⟩
theorem Q56.ent_ok (N:Nat):oA Tryz.prog 92 (Q56.ent N):=sA fun v a e h=>by split at h;exact nB (Q:=fun e=>eA _ _ _ _ (e a).pick.1 (e a).pick.2) h fun k=>Q56.spec N _ _ a k;cases h
noncomputable def Q57.f (N:Nat)(e:Bool)(a:List Int)(f:Bool)(b:List Int):Option (Int):=
 (Q54.f N e a).bind fun c=>
 (Q54.f N f b).bind fun d=>
 bif decide (c<d)then
  some (-1)
 else
 bif decide (c>d)then
  some 1
 else
 bif decide (c<0)then
  (Q25.f N b a).bind fun g=>
  some g
 else
 (Q25.f N a b).bind fun h=>
 some h
noncomputable def Q57.E (N:Nat):jC:=iD [(99,dM),(101,dJ)] [(104,Q54.ent N),(97,Q25.ent N)] [] [] N [.tmp 4] [.any] 0 32
noncomputable def Q57.dec (v:V)(bs:List rA):Option (Int):=match v,bs with
 | .c (.int .i64 a),[]=>some a
 |_,_=>none
theorem Q57.f_eq (N:Nat)(a:Bool)(b:List Int)(c:Bool)(d:List Int):
  aB (Q57.E N) (bo Tryz.f102) [.agg [.c (.bool a),.il .u32 1 b],.agg [.c (.bool c),.il .u32 1 d]] [] Q57.dec=Q57.f N a b c d:=by kernel_rfl
noncomputable def Q57.ent (N:Nat):uA:=tD (Int) 0 [true,true] [.recd [.any,.il .u32 1],.recd [.any,.il .u32 1]] fun
 | [.agg [.c (.bool a),.il .u32 1 b],.agg [.c (.bool c),.il .u32 1 d]]=>some (Q57.f N a b c d,fun r=>.one (.c (.int .i64 r)) [])
 |_=>none
theorem Q57.env (N:Nat):yA Tryz.prog (Q57.E N):=⟨(.cons dE (.cons jE .nil)),(.cons (Q54.ent_ok N) (.cons (Q25.ent_ok N) .nil))⟩
theorem Q57.spec (N:Nat)(a:Bool)(c:List Int)(d:Bool)(f:List Int)(r:Int)(h:Q57.f N a c d f=some r):eA Tryz.prog 102 [.agg [.c (.bool a),.il .u32 1 c],.agg [.c (.bool d),.il .u32 1 f]] [] (.c (.int .i64 r)) ([]):=pA (Q57.env N) bA Tryz.func102 cA.n ((Q57.f_eq ..).trans h) fun v b e=>by unfold Q57.dec at e;split at e<;>cases e;exact⟨rfl,rfl⟩
theorem Q57.ent_ok (N:Nat):oA Tryz.prog 102 (Q57.ent N):=sA fun v a e h=>by split at h;exact nB (Q:=fun e=>eA _ _ _ _ (e a).pick.1 (e a).pick.2) h fun k=>Q57.spec N _ _ _ _ a k;cases h
noncomputable def Q58.f (N:Nat)(b:Bool)(c:List Int):Option (Bool×List Int):=
 (Q52.f N (!b) c).bind fun a=>
 some (a.1,a.2)
noncomputable def Q58.E (N:Nat):jC:=iD [(4,al),(99,dM),(101,dJ)] [(95,Q52.ent N)] [] [] N [.cell 2 101] [.recd [.any,.il .u32 1]] 0 9
noncomputable def Q58.dec (v:V)(bs:List rA):Option (Bool×List Int):=match v,bs with
 | .agg [.c (.bool a),.il .u32 1 b],[]=>some (a,b)
 |_,_=>none
theorem Q58.f_eq (N:Nat)(a:Bool)(b:List Int):
  aB (Q58.E N) (bo Tryz.f93) [.agg [.c (.bool a),.il .u32 1 b]] [] Q58.dec=Q58.f N a b:=by kernel_rfl
noncomputable def Q58.ent (N:Nat):uA:=tD (Bool×List Int) 0 [true] [.recd [.any,.il .u32 1]] fun
 | [.agg [.c (.bool a),.il .u32 1 b]]=>some (Q58.f N a b,fun r=>.one (.agg [.c (.bool r.1),.il .u32 1 r.2]) [])
 |_=>none
theorem Q58.env (N:Nat):yA Tryz.prog (Q58.E N):=⟨(.cons mF (.cons dE (.cons jE .nil))),(.cons (Q52.ent_ok N) .nil)⟩
theorem Q58.spec (N:Nat)(a:Bool)(c:List Int)(r:Bool×List Int)(h:Q58.f N a c=some r):eA Tryz.prog 93 [.agg [.c (.bool a),.il .u32 1 c]] [] (.agg [.c (.bool r.1),.il .u32 1 r.2]) ([]):=pA (Q58.env N) bA Tryz.func93 cA.n ((Q58.f_eq ..).trans h) fun v b e=>by unfold Q58.dec at e;split at e<;>cases e;exact⟨rfl,rfl⟩
theorem Q58.ent_ok (N:Nat):oA Tryz.prog 93 (Q58.ent N):=sA fun v a e h=>by split at h;exact nB (Q:=fun e=>eA _ _ _ _ (e a).pick.1 (e a).pick.2) h fun k=>Q58.spec N _ _ a k;cases h
noncomputable def Q59.f (N:Nat)(d:Bool)(b:List Int)(f:Bool)(c:List Int):Option (Bool×List Int):=
 bif d==f then
  (Q26.f N b c).bind fun i=>
  (Q52.f N d i).bind fun g=>
  some (g.1,g.2)
 else
 (Q25.f N b c).bind fun j=>
 bif decide (j≥0)then
  (Q27.f N b c).bind fun k=>
  (Q52.f N d k).bind fun h=>
  some (h.1,h.2)
 else
 (Q27.f N c b).bind fun e=>
 (Q52.f N f e).bind fun a=>
 some (a.1,a.2)
noncomputable def Q59.E (N:Nat):jC:=iD [(4,al),(99,dM),(101,dJ)] [(96,Q26.ent N),(95,Q52.ent N),(97,Q25.ent N),(98,Q27.ent N)] [] [] N [.cell 4 101] [.recd [.any,.il .u32 1]] 0 40
noncomputable def Q59.dec (v:V)(bs:List rA):Option (Bool×List Int):=match v,bs with
 | .agg [.c (.bool a),.il .u32 1 b],[]=>some (a,b)
 |_,_=>none
theorem Q59.f_eq (N:Nat)(a:Bool)(b:List Int)(c:Bool)(d:List Int):
  aB (Q59.E N) (bo Tryz.f74) [.agg [.c (.bool a),.il .u32 1 b],.agg [.c (.bool c),.il .u32 1 d]] [] Q59.dec=Q59.f N a b c d:=by kernel_rfl
noncomputable def Q59.ent (N:Nat):uA:=tD (Bool×List Int) 0 [true,true] [.recd [.any,.il .u32 1],.recd [.any,.il .u32 1]] fun
 | [.agg [.c (.bool a),.il .u32 1 b],.agg [.c (.bool c),.il .u32 1 d]]=>some (Q59.f N a b c d,fun r=>.one (.agg [.c (.bool r.1),.il .u32 1 r.2]) [])
 |_=>none
theorem Q59.env (N:Nat):yA Tryz.prog (Q59.E N):=⟨(.cons mF (.cons dE (.cons jE .nil))),(.cons (Q26.ent_ok N) (.cons (Q52.ent_ok N) (.cons (Q25.ent_ok N) (.cons (Q27.ent_ok N) .nil))))⟩
theorem Q59.spec (N:Nat)(a:Bool)(c:List Int)(d:Bool)(f:List Int)(r:Bool×List Int)(h:Q59.f N a c d f=some r):eA Tryz.prog 74 [.agg [.c (.bool a),.il .u32 1 c],.agg [.c (.bool d),.il .u32 1 f]] [] (.agg [.c (.bool r.1),.il .u32 1 r.2]) ([]):=pA (Q59.env N) bA Tryz.func74 cA.n ((Q59.f_eq ..).trans h) fun v b e=>by unfold Q59.dec at e;split at e<;>cases e;exact⟨rfl,rfl⟩
theorem Q59.ent_ok (N:Nat):oA Tryz.prog 74 (Q59.ent N):=sA fun v a e h=>by split at h;exact nB (Q:=fun e=>eA _ _ _ _ (e a).pick.1 (e a).pick.2) h fun k=>Q59.spec N _ _ _ _ a k;cases h
noncomputable def Q60.f (N:Nat)(c:Bool)(d:List Int)(e:Bool)(f:List Int):Option (Bool×List Int):=
 (Q58.f N e f).bind fun a=>
 (Q59.f N c d a.1 a.2).bind fun b=>
 some (b.1,b.2)
noncomputable def Q60.E (N:Nat):jC:=iD [(101,dJ)] [(93,Q58.ent N),(74,Q59.ent N)] [] [] N [.cell 4 101] [.recd [.any,.il .u32 1]] 0 9
noncomputable def Q60.dec (v:V)(bs:List rA):Option (Bool×List Int):=match v,bs with
 | .agg [.c (.bool a),.il .u32 1 b],[]=>some (a,b)
 |_,_=>none
theorem Q60.f_eq (N:Nat)(a:Bool)(b:List Int)(c:Bool)(d:List Int):
  aB (Q60.E N) (bo Tryz.f103) [.agg [.c (.bool a),.il .u32 1 b],.agg [.c (.bool c),.il .u32 1 d]] [] Q60.dec=Q60.f N a b c d:=by kernel_rfl
noncomputable def Q60.ent (N:Nat):uA:=tD (Bool×List Int) 0 [true,true] [.recd [.any,.il .u32 1],.recd [.any,.il .u32 1]] fun
 | [.agg [.c (.bool a),.il .u32 1 b],.agg [.c (.bool c),.il .u32 1 d]]=>some (Q60.f N a b c d,fun r=>.one (.agg [.c (.bool r.1),.il .u32 1 r.2]) [])
 |_=>none
theorem Q60.env (N:Nat):yA Tryz.prog (Q60.E N):=⟨(.cons jE .nil),(.cons (Q58.ent_ok N) (.cons (Q59.ent_ok N) .nil))⟩
theorem Q60.spec (N:Nat)(a:Bool)(c:List Int)(d:Bool)(f:List Int)(r:Bool×List Int)(h:Q60.f N a c d f=some r):eA Tryz.prog 103 [.agg [.c (.bool a),.il .u32 1 c],.agg [.c (.bool d),.il .u32 1 f]] [] (.agg [.c (.bool r.1),.il .u32 1 r.2]) ([]):=pA (Q60.env N) bA Tryz.func103 cA.n ((Q60.f_eq ..).trans h) fun v b e=>by unfold Q60.dec at e;split at e<;>cases e;exact⟨rfl,rfl⟩
theorem Q60.ent_ok (N:Nat):oA Tryz.prog 103 (Q60.ent N):=sA fun v a e h=>by split at h;exact nB (Q:=fun e=>eA _ _ _ _ (e a).pick.1 (e a).pick.2) h fun k=>Q60.spec N _ _ _ _ a k;cases h
noncomputable def Q61.f (N:Nat)(b:Bool)(c:List Int)(d:Bool)(e:List Int):Option (Bool×List Int):=
 (Q28.f N c e).bind fun f=>
 (Q52.f N (!(b==d)) f).bind fun a=>
 some (a.1,a.2)
noncomputable def Q61.E (N:Nat):jC:=iD [(4,al),(99,dM),(101,dJ)] [(100,Q28.ent N),(95,Q52.ent N)] [] [] N [.cell 4 101] [.recd [.any,.il .u32 1]] 0 16
noncomputable def Q61.dec (v:V)(bs:List rA):Option (Bool×List Int):=match v,bs with
 | .agg [.c (.bool a),.il .u32 1 b],[]=>some (a,b)
 |_,_=>none
theorem Q61.f_eq (N:Nat)(a:Bool)(b:List Int)(c:Bool)(d:List Int):
  aB (Q61.E N) (bo Tryz.f76) [.agg [.c (.bool a),.il .u32 1 b],.agg [.c (.bool c),.il .u32 1 d]] [] Q61.dec=Q61.f N a b c d:=by kernel_rfl
noncomputable def Q61.ent (N:Nat):uA:=tD (Bool×List Int) 0 [true,true] [.recd [.any,.il .u32 1],.recd [.any,.il .u32 1]] fun
 | [.agg [.c (.bool a),.il .u32 1 b],.agg [.c (.bool c),.il .u32 1 d]]=>some (Q61.f N a b c d,fun r=>.one (.agg [.c (.bool r.1),.il .u32 1 r.2]) [])
 |_=>none
theorem Q61.env (N:Nat):yA Tryz.prog (Q61.E N):=⟨(.cons mF (.cons dE (.cons jE .nil))),(.cons (Q28.ent_ok N) (.cons (Q52.ent_ok N) .nil))⟩
theorem Q61.spec (N:Nat)(a:Bool)(c:List Int)(d:Bool)(f:List Int)(r:Bool×List Int)(h:Q61.f N a c d f=some r):eA Tryz.prog 76 [.agg [.c (.bool a),.il .u32 1 c],.agg [.c (.bool d),.il .u32 1 f]] [] (.agg [.c (.bool r.1),.il .u32 1 r.2]) ([]):=pA (Q61.env N) bA Tryz.func76 cA.n ((Q61.f_eq ..).trans h) fun v b e=>by unfold Q61.dec at e;split at e<;>cases e;exact⟨rfl,rfl⟩
theorem Q61.ent_ok (N:Nat):oA Tryz.prog 76 (Q61.ent N):=sA fun v a e h=>by split at h;exact nB (Q:=fun e=>eA _ _ _ _ (e a).pick.1 (e a).pick.2) h fun k=>Q61.spec N _ _ _ _ a k;cases h
noncomputable def Q62.f (N:Nat)(h:Bool)(m:List Int)(i:Bool)(j:List Int):Option (Bool×List Int×Bool×List Int):=
 (Q29.f N m j).bind fun k=>
 (Q52.f N (!(h==i)) k.1).bind fun b=>
 (Q52.f N h k.2).bind fun c=>
 (Q54.f N c.1 c.2).bind fun o=>
 bif decide (o<0)then
  (Q52.f N false j).bind fun l=>
  (Q59.f N c.1 c.2 l.1 l.2).bind fun a=>
  bif i then
   (Q53.f N 1).bind fun d=>
   (Q59.f N b.1 b.2 d.1 d.2).bind fun e=>
   some (e.1,e.2,a.1,a.2)
  else
  (Q53.f N 1).bind fun f=>
  (Q60.f N b.1 b.2 f.1 f.2).bind fun g=>
  some (g.1,g.2,a.1,a.2)
 else
 some (b.1,b.2,c.1,c.2)
noncomputable def Q62.E (N:Nat):jC:=iD [(4,al),(99,dM),(101,dJ)] [(136,Q29.ent N),(95,Q52.ent N),(104,Q54.ent N),(74,Q59.ent N),(75,Q53.ent N),(103,Q60.ent N)] [] [] N [.cell 4 101,.cell 5 101] [.recd [.any,.il .u32 1],.recd [.any,.il .u32 1]] 0 47
noncomputable def Q62.dec (v:V)(bs:List rA):Option (Bool×List Int×Bool×List Int):=match v,bs with
 | .tup [.agg [.c (.bool a),.il .u32 1 b],.agg [.c (.bool c),.il .u32 1 d]],[]=>some (a,b,c,d)
 |_,_=>none
theorem Q62.f_eq (N:Nat)(a:Bool)(b:List Int)(c:Bool)(d:List Int):
  aB (Q62.E N) (bo Tryz.f101) [.agg [.c (.bool a),.il .u32 1 b],.agg [.c (.bool c),.il .u32 1 d]] [] Q62.dec=Q62.f N a b c d:=by kernel_rfl
noncomputable def Q62.ent (N:Nat):uA:=tD (Bool×List Int×Bool×List Int) 0 [true,true] [.recd [.any,.il .u32 1],.recd [.any,.il .u32 1]] fun
 | [.agg [.c (.bool a),.il .u32 1 b],.agg [.c (.bool c),.il .u32 1 d]]=>some (Q62.f N a b c d,fun r=>.one (.tup [.agg [.c (.bool r.1),.il .u32 1 r.2.1],.agg [.c (.bool r.2.2.1),.il .u32 1 r.2.2.2]]) [])
 |_=>none
theorem Q62.env (N:Nat):yA Tryz.prog (Q62.E N):=⟨(.cons mF (.cons dE (.cons jE .nil))),(.cons (Q29.ent_ok N) (.cons (Q52.ent_ok N) (.cons (Q54.ent_ok N) (.cons (Q59.ent_ok N) (.cons (Q53.ent_ok N) (.cons (Q60.ent_ok N) .nil))))))⟩
theorem Q62.spec (N:Nat)(a:Bool)(c:List Int)(d:Bool)(f:List Int)(r:Bool×List Int×Bool×List Int)(h:Q62.f N a c d f=some r):eA Tryz.prog 101 [.agg [.c (.bool a),.il .u32 1 c],.agg [.c (.bool d),.il .u32 1 f]] [] (.tup [.agg [.c (.bool r.1),.il .u32 1 r.2.1],.agg [.c (.bool r.2.2.1),.il .u32 1 r.2.2.2]]) ([]):=pA (Q62.env N) bA Tryz.func101 cA.n ((Q62.f_eq ..).trans h) fun v b e=>by unfold Q62.dec at e;split at e<;>cases e;exact⟨rfl,rfl⟩
theorem Q62.ent_ok (N:Nat):oA Tryz.prog 101 (Q62.ent N):=sA fun v a e h=>by split at h;exact nB (Q:=fun e=>eA _ _ _ _ (e a).pick.1 (e a).pick.2) h fun k=>Q62.spec N _ _ _ _ a k;cases h
noncomputable def Q63.l5 {R:Type}(N:Nat):Nat→Bool→List Int→Bool→Bool→List Int→Bool→List Int→Bool→List Int→Bool→List Int→(Bool→List Int→Bool→Bool→List Int→Option R)→Option R
 |0,_,_,_,_,_,_,_,_,_,_,_,_=>none
 |n+1,o,p,q,k,l,b,c,f,g,h,i,m=>
  (Q55.f N b c).bind fun j=>
  bif !j then
   (Q62.f N k l b c).bind fun a=>
   (Q61.f N a.1 a.2.1 h i).bind fun d=>
   (Q60.f N f g d.1 d.2).bind fun e=>
   Q63.l5 N n o p q b c a.2.2.1 a.2.2.2 h i e.1 e.2 m
  else
  m o p q f g
noncomputable def Q63.f (N:Nat)(j:Bool)(k:List Int)(b:Bool)(c:List Int):Option (Bool×List Int):=
 (Q62.f N j k b c).bind fun h=>
 (Q53.f N 1).bind fun i=>
 Q63.l5 N N b c false b c h.2.2.1 h.2.2.2 false [] i.1 i.2
  (fun d e l f g=>
   (Q62.f N f g d e).bind fun a=>
   some (a.2.2.1,a.2.2.2))
noncomputable def Q63.h5:cC:=⟨[(3,.box [.any,.il .u32 1]),(4,.box [.any,.any]),(5,.box [.any,.il .u32 1]),(7,.box [.any,.il .u32 1]),(8,.box [.any,.il .u32 1]),(9,.box [.any,.il .u32 1])],[(3,.box [.any,.il .u32 1]),(4,.box [.any,.any]),(8,.box [.any,.il .u32 1])]⟩
noncomputable def Q63.c5 (N:Nat):nF:=⟨fun vs H k=>match vs,H with
 | [.ptr 0 0 2,.ptr 1 0 2,.ptr 2 0 2,.ptr 3 0 2,.ptr 4 0 2,.ptr 5 0 2],[.vals [.c (.bool p),.il .u32 1 q],.vals [.c (.bool r),.c (.slice none 0 0)],.vals [.c (.bool a),.il .u32 1 b],.vals [.c (.bool c),.il .u32 1 d],.vals [.c (.bool e),.il .u32 1 f],.vals [.c (.bool g),.il .u32 1 h]]=>Q63.l5 N N p q r a b c d e f g h (fun i j l m o=>k (.exit 0) ⟨fC Q63.h5.out [.ptr 0 0 2,.ptr 1 0 2,.ptr 2 0 2],[.vals [.c (.bool i),.il .u32 1 j],.vals [.c (.bool l),.c (.slice none 0 0)],.vals [.c (.bool m),.il .u32 1 o]]⟩)
 |_,_=>none⟩
noncomputable def Q63.E (N:Nat):jC:=iD [(4,al),(99,dM),(101,dJ)] [(101,Q62.ent N),(75,Q53.ent N),(129,Q55.ent N),(76,Q61.ent N),(103,Q60.ent N)] [(5,Q63.h5)] [(5,Q63.c5 N)] N [.cell 4 101] [.recd [.any,.il .u32 1]] 0 49
noncomputable def Q63.b5:Code:=nA ((dA (bo Tryz.f131)).getD 0 .skip)
theorem Q63.l5_eq {R:Type}(N n:Nat)(p:Bool)(q:List Int)(r a:Bool)(b:List Int)(c:Bool)(d:List Int)(e:Bool)(f:List Int)(g:Bool)(h:List Int)(k:Ex→St→Option R):
  dB 0 Q63.h5 (fun s k=>bB (Q63.E N) 392 Q63.b5 s k) n [.ptr 0 0 2,.ptr 1 0 2,.ptr 2 0 2,.ptr 3 0 2,.ptr 4 0 2,.ptr 5 0 2] [.vals [.c (.bool p),.il .u32 1 q],.vals [.c (.bool r),.c (.slice none 0 0)],.vals [.c (.bool a),.il .u32 1 b],.vals [.c (.bool c),.il .u32 1 d],.vals [.c (.bool e),.il .u32 1 f],.vals [.c (.bool g),.il .u32 1 h]] k=Q63.l5 N n p q r a b c d e f g h (fun i j l m o=>k (.exit 0) ⟨fC Q63.h5.out [.ptr 0 0 2,.ptr 1 0 2,.ptr 2 0 2],[.vals [.c (.bool i),.il .u32 1 j],.vals [.c (.bool l),.c (.slice none 0 0)],.vals [.c (.bool m),.il .u32 1 o]]⟩):=by
 induction n generalizing p q r a b c d e f g h with
 |zero=>kernel_rfl
 |succ n ih=>
  simp only[Q63.l5,←ih]
  kernel_rfl
noncomputable def Q63.dec (v:V)(bs:List rA):Option (Bool×List Int):=match v,bs with
 | .agg [.c (.bool a),.il .u32 1 b],[]=>some (a,b)
 |_,_=>none
theorem Q63.f_eq (N:Nat)(a:Bool)(b:List Int)(c:Bool)(d:List Int):
  aB (Q63.E N) (bo Tryz.f131) [.agg [.c (.bool a),.il .u32 1 b],.agg [.c (.bool c),.il .u32 1 d]] [] Q63.dec=Q63.f N a b c d:=by kernel_rfl
noncomputable def Q63.ent (N:Nat):uA:=tD (Bool×List Int) 0 [true,true] [.recd [.any,.il .u32 1],.recd [.any,.il .u32 1]] fun
 | [.agg [.c (.bool a),.il .u32 1 b],.agg [.c (.bool c),.il .u32 1 d]]=>some (Q63.f N a b c d,fun r=>.one (.agg [.c (.bool r.1),.il .u32 1 r.2]) [])
 |_=>none
theorem Q63.env (N:Nat):yA Tryz.prog (Q63.E N):=⟨(.cons mF (.cons dE (.cons jE .nil))),(.cons (Q62.ent_ok N) (.cons (Q53.ent_ok N) (.cons (Q55.ent_ok N) (.cons (Q61.ent_ok N) (.cons (Q60.ent_ok N) .nil)))))⟩
theorem Q63.k5 (N:Nat):gB Tryz.prog Tryz.f131 (Q63.E N) (.loop Q63.b5):=dC (Q63.env N) bA 392 (c:=Q63.c5 N) cA.n fun R vs H k r h=>by unfold Q63.c5 at h;dsimp only at h;split at h;exact⟨_,Q63.l5_eq .. ▸h⟩;cases h
theorem Q63.spec (N:Nat)(a:Bool)(c:List Int)(d:Bool)(f:List Int)(r:Bool×List Int)(h:Q63.f N a c d f=some r):eA Tryz.prog 131 [.agg [.c (.bool a),.il .u32 1 c],.agg [.c (.bool d),.il .u32 1 f]] [] (.agg [.c (.bool r.1),.il .u32 1 r.2]) ([]):=pA (Q63.env N) bA Tryz.func131 (cA.of (l:=[(.loop (nA ((dA (bo Tryz.f131)).getD 0 .skip)))]) (by kernel_rfl) (cA.cons (Q63.k5 N) cA.nil)) ((Q63.f_eq ..).trans h) fun v b e=>by unfold Q63.dec at e;split at e<;>cases e;exact⟨rfl,rfl⟩
theorem Q63.ent_ok (N:Nat):oA Tryz.prog 131 (Q63.ent N):=sA fun v a e h=>by split at h;exact nB (Q:=fun e=>eA _ _ _ _ (e a).pick.1 (e a).pick.2) h fun k=>Q63.spec N _ _ _ _ a k;cases h
noncomputable def Q64.f (N:Nat)(k:Bool)(c:List Int)(l:Bool)(j:List Int):Option (List Int×Bool×List Int×Bool×List Int):=
 (Q55.f N l j).bind fun p=>
 bif p then
  (Q54.f N k c).bind fun q=>
  (Q53.f N q).bind fun m=>
  some (c,m.1,m.2,false,[])
 else
 (Q30.f N c j).bind fun o=>
 (Q52.f N false o).bind fun b=>
 (Q52.f N false j).bind fun d=>
 (Q62.f N d.1 d.2 b.1 b.2).bind fun e=>
 (Q62.f N k c b.1 b.2).bind fun f=>
 (Q63.f N f.1 f.2.1 e.1 e.2.1).bind fun a=>
 (Q61.f N k c a.1 a.2).bind fun g=>
 (Q60.f N b.1 b.2 g.1 g.2).bind fun h=>
 (Q62.f N h.1 h.2 l j).bind fun i=>
 some (o,a.1,a.2,i.1,i.2.1)
noncomputable def Q64.E (N:Nat):jC:=iD [(4,al),(99,dM),(101,dJ)] [(129,Q55.ent N),(104,Q54.ent N),(75,Q53.ent N),(130,Q30.ent N),(95,Q52.ent N),(101,Q62.ent N),(131,Q63.ent N),(76,Q61.ent N),(103,Q60.ent N)] [] [] N [.tmp 4,.cell 5 101,.cell 6 101] [.il .u32 1,.recd [.any,.il .u32 1],.recd [.any,.il .u32 1]] 0 61
noncomputable def Q64.dec (v:V)(bs:List rA):Option (List Int×Bool×List Int×Bool×List Int):=match v,bs with
 | .tup [.il .u32 1 a,.agg [.c (.bool b),.il .u32 1 c],.agg [.c (.bool d),.il .u32 1 e]],[]=>some (a,b,c,d,e)
 |_,_=>none
theorem Q64.f_eq (N:Nat)(a:Bool)(b:List Int)(c:Bool)(d:List Int):
  aB (Q64.E N) (bo Tryz.f91) [.agg [.c (.bool a),.il .u32 1 b],.agg [.c (.bool c),.il .u32 1 d]] [] Q64.dec=Q64.f N a b c d:=by kernel_rfl
noncomputable def Q64.ent (N:Nat):uA:=tD (List Int×Bool×List Int×Bool×List Int) 0 [true,true] [.recd [.any,.il .u32 1],.recd [.any,.il .u32 1]] fun
 | [.agg [.c (.bool a),.il .u32 1 b],.agg [.c (.bool c),.il .u32 1 d]]=>some (Q64.f N a b c d,fun r=>.one (.tup [.il .u32 1 r.1,.agg [.c (.bool r.2.1),.il .u32 1 r.2.2.1],.agg [.c (.bool r.2.2.2.1),.il .u32 1 r.2.2.2.2]]) [])
 |_=>none
theorem Q64.env (N:Nat):yA Tryz.prog (Q64.E N):=⟨(.cons mF (.cons dE (.cons jE .nil))),(.cons (Q55.ent_ok N) (.cons (Q54.ent_ok N) (.cons (Q53.ent_ok N) (.cons (Q30.ent_ok N) (.cons (Q52.ent_ok N) (.cons (Q62.ent_ok N) (.cons (Q63.ent_ok N) (.cons (Q61.ent_ok N) (.cons (Q60.ent_ok N) .nil)))))))))⟩
theorem Q64.spec (N:Nat)(a:Bool)(c:List Int)(d:Bool)(f:List Int)(r:List Int×Bool×List Int×Bool×List Int)(h:Q64.f N a c d f=some r):eA Tryz.prog 91 [.agg [.c (.bool a),.il .u32 1 c],.agg [.c (.bool d),.il .u32 1 f]] [] (.tup [.il .u32 1 r.1,.agg [.c (.bool r.2.1),.il .u32 1 r.2.2.1],.agg [.c (.bool r.2.2.2.1),.il .u32 1 r.2.2.2.2]]) ([]):=pA (Q64.env N) bA Tryz.func91 cA.n ((Q64.f_eq ..).trans h) fun v b e=>by unfold Q64.dec at e;split at e<;>cases e;exact⟨rfl,rfl⟩
theorem Q64.ent_ok (N:Nat):oA Tryz.prog 91 (Q64.ent N):=sA fun v a e h=>by split at h;exact nB (Q:=fun e=>eA _ _ _ _ (e a).pick.1 (e a).pick.2) h fun k=>Q64.spec N _ _ _ _ a k;cases h
noncomputable def Q65.f (N:Nat)(b a:Int):Option (Int):=
 bif !(a==0)then
  bif decide ((Int.tmod b a)<0)then
   some (aA ((Int.tmod b a)+a))
  else
  some (Int.tmod b a)
 else none
noncomputable def Q65.E (N:Nat):jC:=iD [] [] [] [] N [.tmp 4] [.any] 0 14
noncomputable def Q65.dec (v:V)(bs:List rA):Option (Int):=match v,bs with
 | .c (.int .i64 a),[]=>some a
 |_,_=>none
theorem Q65.f_eq (N:Nat)(a b:Int):
  aB (Q65.E N) (bo Tryz.f69) [.c (.int .i64 a),.c (.int .i64 b)] [] Q65.dec=Q65.f N a b:=by kernel_rfl
noncomputable def Q65.ent (N:Nat):uA:=tD (Int) 0 [true,true] [.any,.any] fun
 | [.c (.int .i64 a),.c (.int .i64 b)]=>some (Q65.f N a b,fun r=>.one (.c (.int .i64 r)) [])
 |_=>none
theorem Q65.env (N:Nat):yA Tryz.prog (Q65.E N):=⟨.nil,.nil⟩
theorem Q65.spec (N:Nat)(a c r:Int)(h:Q65.f N a c=some r):eA Tryz.prog 69 [.c (.int .i64 a),.c (.int .i64 c)] [] (.c (.int .i64 r)) ([]):=pA (Q65.env N) bA Tryz.func69 cA.n ((Q65.f_eq ..).trans h) fun v b e=>by unfold Q65.dec at e;split at e<;>cases e;exact⟨rfl,rfl⟩
theorem Q65.ent_ok (N:Nat):oA Tryz.prog 69 (Q65.ent N):=sA fun v a e h=>by split at h;exact nB (Q:=fun e=>eA _ _ _ _ (e a).pick.1 (e a).pick.2) h fun k=>Q65.spec N _ _ a k;cases h
noncomputable def Q66.l3 {R:Type}(N:Nat):Nat→Int→Int→(Int→Option R)→Option R
 |0,_,_,_=>none
 |n+1,c,a,b=>
  bif decide (a>0)then
   bif !(a==0)then
    Q66.l3 N n a (Int.tmod c a) b
   else none
  else
  b c
noncomputable def Q66.f (N:Nat)(a b:Int):Option (Int):=
 Q66.l3 N N (tv a (aA (0-a))) (tv b (aA (0-b)))
  (fun c=>
   some c)
noncomputable def Q66.h3:cC:=⟨[(0,.any),(1,.any)],[(0,.any)]⟩
noncomputable def Q66.c3 (N:Nat):nF:=⟨fun vs H k=>match vs,H with
 | [.c (.int .i64 a),.c (.int .i64 b)],[]=>Q66.l3 N N a b (fun c=>k (.exit 0) ⟨fC Q66.h3.out [.c (.int .i64 c)],[]⟩)
 |_,_=>none⟩
noncomputable def Q66.E (N:Nat):jC:=iD [] [] [(3,Q66.h3)] [(3,Q66.c3 N)] N [.tmp 4] [.any] 0 22
noncomputable def Q66.b3:Code:=nA ((dA (bo Tryz.f90)).getD 0 .skip)
theorem Q66.l3_eq {R:Type}(N n:Nat)(a b:Int)(k:Ex→St→Option R):
  dB 0 Q66.h3 (fun s k=>bB (Q66.E N) 394 Q66.b3 s k) n [.c (.int .i64 a),.c (.int .i64 b)] [] k=Q66.l3 N n a b (fun c=>k (.exit 0) ⟨fC Q66.h3.out [.c (.int .i64 c)],[]⟩):=by
 induction n generalizing a b with
 |zero=>kernel_rfl
 |succ n ih=>
  simp only[Q66.l3,←ih]
  kernel_rfl
noncomputable def Q66.dec (v:V)(bs:List rA):Option (Int):=match v,bs with
 | .c (.int .i64 a),[]=>some a
 |_,_=>none
theorem Q66.f_eq (N:Nat)(a b:Int):
  aB (Q66.E N) (bo Tryz.f90) [.c (.int .i64 a),.c (.int .i64 b)] [] Q66.dec=Q66.f N a b:=by kernel_rfl
noncomputable def Q66.ent (N:Nat):uA:=tD (Int) 0 [true,true] [.any,.any] fun
 | [.c (.int .i64 a),.c (.int .i64 b)]=>some (Q66.f N a b,fun r=>.one (.c (.int .i64 r)) [])
 |_=>none
theorem Q66.env (N:Nat):yA Tryz.prog (Q66.E N):=⟨.nil,.nil⟩
theorem Q66.k3 (N:Nat):gB Tryz.prog Tryz.f90 (Q66.E N) (.loop Q66.b3):=dC (Q66.env N) bA 394 (c:=Q66.c3 N) cA.n fun R vs H k r h=>by unfold Q66.c3 at h;dsimp only at h;split at h;exact⟨_,Q66.l3_eq .. ▸h⟩;cases h
theorem Q66.spec (N:Nat)(a c r:Int)(h:Q66.f N a c=some r):eA Tryz.prog 90 [.c (.int .i64 a),.c (.int .i64 c)] [] (.c (.int .i64 r)) ([]):=pA (Q66.env N) bA Tryz.func90 (cA.of (l:=[(.loop (nA ((dA (bo Tryz.f90)).getD 0 .skip)))]) (by kernel_rfl) (cA.cons (Q66.k3 N) cA.nil)) ((Q66.f_eq ..).trans h) fun v b e=>by unfold Q66.dec at e;split at e<;>cases e;exact⟨rfl,rfl⟩
theorem Q66.ent_ok (N:Nat):oA Tryz.prog 90 (Q66.ent N):=sA fun v a e h=>by split at h;exact nB (Q:=fun e=>eA _ _ _ _ (e a).pick.1 (e a).pick.2) h fun k=>Q66.spec N _ _ a k;cases h
noncomputable def Q67.f (N:Nat)(a:Int):Option (Bool):=
 bif decide (a≥(-1073741824))then
  some (decide (a≤1073741824))
 else
 some false
noncomputable def Q67.E (N:Nat):jC:=iD [] [] [] [] N [.tmp 2] [.any] 0 9
noncomputable def Q67.dec (v:V)(bs:List rA):Option (Bool):=match v,bs with
 | .c (.bool a),[]=>some a
 |_,_=>none
theorem Q67.f_eq (N:Nat)(a:Int):
  aB (Q67.E N) (bo Tryz.f89) [.c (.int .i64 a)] [] Q67.dec=Q67.f N a:=by kernel_rfl
noncomputable def Q67.ent (N:Nat):uA:=tD (Bool) 0 [true] [.any] fun
 | [.c (.int .i64 a)]=>some (Q67.f N a,fun r=>.one (.c (.bool r)) [])
 |_=>none
theorem Q67.env (N:Nat):yA Tryz.prog (Q67.E N):=⟨.nil,.nil⟩
theorem Q67.spec (N:Nat)(a:Int)(r:Bool)(h:Q67.f N a=some r):eA Tryz.prog 89 [.c (.int .i64 a)] [] (.c (.bool r)) ([]):=pA (Q67.env N) bA Tryz.func89 cA.n ((Q67.f_eq ..).trans h) fun v b e=>by unfold Q67.dec at e;split at e<;>cases e;exact⟨rfl,rfl⟩
theorem Q67.ent_ok (N:Nat):oA Tryz.prog 89 (Q67.ent N):=sA fun v a e h=>by split at h;exact nB (Q:=fun e=>eA _ _ _ _ (e a).pick.1 (e a).pick.2) h fun k=>Q67.spec N _ a k;cases h
noncomputable def Q68.f (N:Nat)(a b c:Int):Option (Bool):=
 (Q67.f N a).bind fun d=>
 bif d then
  (Q67.f N b).bind fun e=>
  bif e then
   (Q67.f N c).bind fun f=>
   some f
  else
  some false
 else
 some false
noncomputable def Q68.E (N:Nat):jC:=iD [(2,aN),(33,aG)] [(89,Q67.ent N)] [] [] N [.tmp 2] [.any] 0 16
noncomputable def Q68.dec (v:V)(bs:List rA):Option (Bool):=match v,bs with
 | .c (.bool a),[]=>some a
 |_,_=>none
theorem Q68.f_eq (N:Nat)(a b c:Int):
  aB (Q68.E N) (bo Tryz.f70) [.agg [.c (.int .i64 a),.c (.int .i64 b),.c (.int .i64 c)]] [] Q68.dec=Q68.f N a b c:=by kernel_rfl
noncomputable def Q68.ent (N:Nat):uA:=tD (Bool) 0 [true] [.recd [.any,.any,.any]] fun
 | [.agg [.c (.int .i64 a),.c (.int .i64 b),.c (.int .i64 c)]]=>some (Q68.f N a b c,fun r=>.one (.c (.bool r)) [])
 |_=>none
theorem Q68.env (N:Nat):yA Tryz.prog (Q68.E N):=⟨(.cons nC (.cons xB .nil)),(.cons (Q67.ent_ok N) .nil)⟩
theorem Q68.spec (N:Nat)(a c d:Int)(r:Bool)(h:Q68.f N a c d=some r):eA Tryz.prog 70 [.agg [.c (.int .i64 a),.c (.int .i64 c),.c (.int .i64 d)]] [] (.c (.bool r)) ([]):=pA (Q68.env N) bA Tryz.func70 cA.n ((Q68.f_eq ..).trans h) fun v b e=>by unfold Q68.dec at e;split at e<;>cases e;exact⟨rfl,rfl⟩
theorem Q68.ent_ok (N:Nat):oA Tryz.prog 70 (Q68.ent N):=sA fun v a e h=>by split at h;exact nB (Q:=fun e=>eA _ _ _ _ (e a).pick.1 (e a).pick.2) h fun k=>Q68.spec N _ _ _ a k;cases h
noncomputable def Q69.f (N:Nat)(b a c:Int):Option (Int):=
 (Q68.f N b a c).bind fun d=>
 bif !d then
  some 0
 else
 some (aA ((aA (a*a))- (aA ((aA (4*b))*c))))
noncomputable def Q69.E (N:Nat):jC:=iD [(2,aN),(33,aG)] [(70,Q68.ent N)] [] [] N [.tmp 2] [.any] 0 18
noncomputable def Q69.dec (v:V)(bs:List rA):Option (Int):=match v,bs with
 | .c (.int .i64 a),[]=>some a
 |_,_=>none
theorem Q69.f_eq (N:Nat)(a b c:Int):
  aB (Q69.E N) (bo Tryz.f52) [.agg [.c (.int .i64 a),.c (.int .i64 b),.c (.int .i64 c)]] [] Q69.dec=Q69.f N a b c:=by kernel_rfl
noncomputable def Q69.ent (N:Nat):uA:=tD (Int) 0 [true] [.recd [.any,.any,.any]] fun
 | [.agg [.c (.int .i64 a),.c (.int .i64 b),.c (.int .i64 c)]]=>some (Q69.f N a b c,fun r=>.one (.c (.int .i64 r)) [])
 |_=>none
theorem Q69.env (N:Nat):yA Tryz.prog (Q69.E N):=⟨(.cons nC (.cons xB .nil)),(.cons (Q68.ent_ok N) .nil)⟩
theorem Q69.spec (N:Nat)(a c d r:Int)(h:Q69.f N a c d=some r):eA Tryz.prog 52 [.agg [.c (.int .i64 a),.c (.int .i64 c),.c (.int .i64 d)]] [] (.c (.int .i64 r)) ([]):=pA (Q69.env N) bA Tryz.func52 cA.n ((Q69.f_eq ..).trans h) fun v b e=>by unfold Q69.dec at e;split at e<;>cases e;exact⟨rfl,rfl⟩
theorem Q69.ent_ok (N:Nat):oA Tryz.prog 52 (Q69.ent N):=sA fun v a e h=>by split at h;exact nB (Q:=fun e=>eA _ _ _ _ (e a).pick.1 (e a).pick.2) h fun k=>Q69.spec N _ _ _ a k;cases h
noncomputable def Q70.f (N:Nat)(a b c:Int):Option (Int):=
 (Q68.f N a b c).bind fun d=>
 bif !d then
  some 3
 else
 bif decide (a≤0)then
  some 81
 else
 (Q69.f N a b c).bind fun e=>
 bif decide (e≥0)then
  some 81
 else
 (Q69.f N a b c).bind fun f=>
 bif decide (f<(-4294967296))then
  some 80
 else
 some 0
noncomputable def Q71.f (N:Nat)(a b c:Int):Option (Bool):=
 bif decide ((aA (0-a))<b)then
  bif decide (b≤a)then
   bif decide (a≤c)then
    bif decide (b≥0)then
     some true
    else
    some (a != c)
   else
   some false
  else
  some false
 else
 some false
noncomputable def Q72.f (N:Nat)(b a:Int):Option (Int):=
 (Q65.f N b a).bind fun c=>
 bif !(a==0)then
  some (aA (Int.tdiv (aA (b-c)) a))
 else none
noncomputable def Q73.l5 {R:Type}(N:Nat):Nat→Int→Int→Int→Int→Int→Int→Int→Int→Int→Int→Int→Int→Int→Int→(Int→Int→Int→Int→Int→Int→Int→Int→Int→Int→Int→Int→Int→Int→Option R)→Option R
 |0,_,_,_,_,_,_,_,_,_,_,_,_,_,_,_=>none
 |n+1,a,f,o,q,r,g,h,i,j,k,b,l,c,m,p=>
  (Q71.f N a f o).bind fun s=>
  bif !s then
   bif decide ((aA (0-a))≥f)then
    (Q72.f N (aA (a-f)) (aA (2*a))).bind fun d=>
    Q73.l5 N n a (aA (f+(aA ((aA (2*d))*a)))) (aA ((aA ((aA ((aA (a*d))+f))*d))+o)) q r g h i j k b (aA ((aA (d*b))+l)) c (aA ((aA (d*c))+m)) p
   else
   bif decide (f>a)then
    (Q72.f N (aA (a-f)) (aA (2*a))).bind fun e=>
    Q73.l5 N n a (aA (f+(aA ((aA (2*e))*a)))) (aA ((aA ((aA ((aA (a*e))+f))*e))+o)) q r g h i j k b (aA ((aA (e*b))+l)) c (aA ((aA (e*c))+m)) p
   else
   Q73.l5 N n o (aA (0-f)) a q r g h i j k l (aA (0-b)) m (aA (0-c)) p
  else
  p a f o q r g h i j k b l c m
noncomputable def Q73.f (N:Nat)(h i j:Int):Option (Int×Int×Int×Int×Int×Int×Int×Int):=
 (Q70.f N h i j).bind fun k=>
 bif k != 0 then
  some (0,0,0,0,0,0,0,k)
 else
 Q73.l5 N N h i j 0 0 0 0 0 0 0 1 0 0 1
  (fun a b c l m o p q r s d e f g=>
   some (a,b,c,d,e,f,g,0))
noncomputable def Q74.f (N:Nat)(a b c:Int):Option (Int):=
 (Q68.f N a b c).bind fun d=>
 bif !d then
  some 0
 else
 (Q66.f N a b).bind fun e=>
 (Q66.f N e c).bind fun f=>
 some f
noncomputable def Ig:TI:=⟨.int .u64,1,8,[.int .u64 0]⟩
theorem yf:zC Tryz.prog 79 Ig:=gD (by kernel_rfl) (by kernel_rfl) (by kernel_rfl) (by kernel_rfl) (by kernel_rfl) (by kernel_rfl) (by kernel_rfl) (Tryz.underlying79) (by kernel_rfl)
noncomputable def Q75.f (N:Nat)(a:Int):Option (Int):=
 bif decide (a≥4294967296)then
  bif decide ((Int.fdiv a (2^32))≥65536)then
   bif decide ((Int.fdiv (Int.fdiv a (2^32)) (2^16))≥256)then
    bif (decide (0≤(cN (Int.fdiv (Int.fdiv (Int.fdiv a (2^32)) (2^16)) (2^8)))))&&(decide ((cN (Int.fdiv (Int.fdiv (Int.fdiv a (2^32)) (2^16)) (2^8)))<(kI.size:Int)))then
     some (aA (56+(aA (iG kI ((cN (Int.fdiv (Int.fdiv (Int.fdiv a (2^32)) (2^16)) (2^8))).toNat)))))
    else none
   else
   bif (decide (0≤(cN (Int.fdiv (Int.fdiv a (2^32)) (2^16)))))&&(decide ((cN (Int.fdiv (Int.fdiv a (2^32)) (2^16)))<(kI.size:Int)))then
    some (aA (48+(aA (iG kI ((cN (Int.fdiv (Int.fdiv a (2^32)) (2^16))).toNat)))))
   else none
  else
  bif decide ((Int.fdiv a (2^32))≥256)then
   bif (decide (0≤(cN (Int.fdiv (Int.fdiv a (2^32)) (2^8)))))&&(decide ((cN (Int.fdiv (Int.fdiv a (2^32)) (2^8)))<(kI.size:Int)))then
    some (aA (40+(aA (iG kI ((cN (Int.fdiv (Int.fdiv a (2^32)) (2^8))).toNat)))))
   else none
  else
  bif (decide (0≤(cN (Int.fdiv a (2^32)))))&&(decide ((cN (Int.fdiv a (2^32)))<(kI.size:Int)))then
   some (aA (32+(aA (iG kI ((cN (Int.fdiv a (2^32))).toNat)))))
  else none
 else
 bif decide (a≥65536)then
  bif decide ((Int.fdiv a (2^16))≥256)then
   bif (decide (0≤(cN (Int.fdiv (Int.fdiv a (2^16)) (2^8)))))&&(decide ((cN (Int.fdiv (Int.fdiv a (2^16)) (2^8)))<(kI.size:Int)))then
    some (aA (24+(aA (iG kI ((cN (Int.fdiv (Int.fdiv a (2^16)) (2^8))).toNat)))))
   else none
  else
  bif (decide (0≤(cN (Int.fdiv a (2^16)))))&&(decide ((cN (Int.fdiv a (2^16)))<(kI.size:Int)))then
   some (aA (16+(aA (iG kI ((cN (Int.fdiv a (2^16))).toNat)))))
  else none
 else
 bif decide (a≥256)then
  bif (decide (0≤(cN (Int.fdiv a (2^8)))))&&(decide ((cN (Int.fdiv a (2^8)))<(kI.size:Int)))then
   some (aA (8+(aA (iG kI ((cN (Int.fdiv a (2^8))).toNat)))))
  else none
 else
 bif (decide (0≤(cN a)))&&(decide ((cN a)<(kI.size:Int)))then
  some (aA (0+(aA (iG kI ((cN a).toNat)))))
 else none
noncomputable def Q75.E (N:Nat):jC:=iD [(3,F1),(5,Jr),(9,Js),(78,aL)] [] [] [] N [.tmp 2] [.any] 0 25
noncomputable def Q75.dec (v:V)(bs:List rA):Option (Int):=match v,bs with
 | .c (.int .i64 a),[]=>some a
 |_,_=>none
theorem Q75.f_eq (N:Nat)(a:Int):
  aB (Q75.E N) (bo Tryz.f116) [.c (.int .u64 a)] [] Q75.dec=Q75.f N a:=by kernel_rfl
noncomputable def Q75.ent (N:Nat):uA:=tD (Int) 0 [true] [.any] fun
 | [.c (.int .u64 a)]=>some (Q75.f N a,fun r=>.one (.c (.int .i64 r)) [])
 |_=>none
theorem Q75.env (N:Nat):yA Tryz.prog (Q75.E N):=⟨(.cons jO (.cons Es (.cons Ew (.cons zD .nil)))),.nil⟩
theorem Q75.spec (N:Nat)(a r:Int)(h:Q75.f N a=some r):eA Tryz.prog 116 [.c (.int .u64 a)] [] (.c (.int .i64 r)) ([]):=pA (Q75.env N) bA Tryz.func116 cA.n ((Q75.f_eq ..).trans h) fun v b e=>by unfold Q75.dec at e;split at e<;>cases e;exact⟨rfl,rfl⟩
theorem Q75.ent_ok (N:Nat):oA Tryz.prog 116 (Q75.ent N):=sA fun v a e h=>by split at h;exact nB (Q:=fun e=>eA _ _ _ _ (e a).pick.1 (e a).pick.2) h fun k=>Q75.spec N _ a k;cases h
noncomputable def Q76.f (N:Nat)(a:Int):Option (Int):=
 (Q75.f N a).bind fun b=>
 some (aA (64-b))
noncomputable def Q76.E (N:Nat):jC:=iD [] [(116,Q75.ent N)] [] [] N [.tmp 2] [.any] 0 6
noncomputable def Q76.dec (v:V)(bs:List rA):Option (Int):=match v,bs with
 | .c (.int .i64 a),[]=>some a
 |_,_=>none
theorem Q76.f_eq (N:Nat)(a:Int):
  aB (Q76.E N) (bo Tryz.f163) [.c (.int .u64 a)] [] Q76.dec=Q76.f N a:=by kernel_rfl
noncomputable def Q76.ent (N:Nat):uA:=tD (Int) 0 [true] [.any] fun
 | [.c (.int .u64 a)]=>some (Q76.f N a,fun r=>.one (.c (.int .i64 r)) [])
 |_=>none
theorem Q76.env (N:Nat):yA Tryz.prog (Q76.E N):=⟨.nil,(.cons (Q75.ent_ok N) .nil)⟩
theorem Q76.spec (N:Nat)(a r:Int)(h:Q76.f N a=some r):eA Tryz.prog 163 [.c (.int .u64 a)] [] (.c (.int .i64 r)) ([]):=pA (Q76.env N) bA Tryz.func163 cA.n ((Q76.f_eq ..).trans h) fun v b e=>by unfold Q76.dec at e;split at e<;>cases e;exact⟨rfl,rfl⟩
theorem Q76.ent_ok (N:Nat):oA Tryz.prog 163 (Q76.ent N):=sA fun v a e h=>by split at h;exact nB (Q:=fun e=>eA _ _ _ _ (e a).pick.1 (e a).pick.2) h fun k=>Q76.spec N _ a k;cases h
noncomputable def Q77.f (N:Nat)(a b:Int):Option (Int×Int):=
 some (jA ((jA ((jA ((Int.fdiv a (2^32))*(Int.fdiv b (2^32))))+(Int.fdiv (jA ((jA ((Int.fdiv a (2^32))*(mC .u64 b 4294967295)))+(Int.fdiv (jA ((mC .u64 a 4294967295)*(mC .u64 b 4294967295))) (2^32)))) (2^32))))+(Int.fdiv (jA ((mC .u64 (jA ((jA ((Int.fdiv a (2^32))*(mC .u64 b 4294967295)))+(Int.fdiv (jA ((mC .u64 a 4294967295)*(mC .u64 b 4294967295))) (2^32)))) 4294967295)+(jA ((mC .u64 a 4294967295)*(Int.fdiv b (2^32)))))) (2^32))),jA (a*b))
noncomputable def Q77.E (N:Nat):jC:=iD [] [] [] [] N [.tmp 4,.tmp 5] [.any,.any] 0 51
noncomputable def Q77.dec (v:V)(bs:List rA):Option (Int×Int):=match v,bs with
 | .tup [.c (.int .u64 a),.c (.int .u64 b)],[]=>some (a,b)
 |_,_=>none
theorem Q77.f_eq (N:Nat)(a b:Int):
  aB (Q77.E N) (bo Tryz.f153) [.c (.int .u64 a),.c (.int .u64 b)] [] Q77.dec=Q77.f N a b:=by kernel_rfl
noncomputable def Q77.ent (N:Nat):uA:=tD (Int×Int) 0 [true,true] [.any,.any] fun
 | [.c (.int .u64 a),.c (.int .u64 b)]=>some (Q77.f N a b,fun r=>.one (.tup [.c (.int .u64 r.1),.c (.int .u64 r.2)]) [])
 |_=>none
theorem Q77.env (N:Nat):yA Tryz.prog (Q77.E N):=⟨.nil,.nil⟩
theorem Q77.spec (N:Nat)(a c:Int)(r:Int×Int)(h:Q77.f N a c=some r):eA Tryz.prog 153 [.c (.int .u64 a),.c (.int .u64 c)] [] (.tup [.c (.int .u64 r.1),.c (.int .u64 r.2)]) ([]):=pA (Q77.env N) bA Tryz.func153 cA.n ((Q77.f_eq ..).trans h) fun v b e=>by unfold Q77.dec at e;split at e<;>cases e;exact⟨rfl,rfl⟩
theorem Q77.ent_ok (N:Nat):oA Tryz.prog 153 (Q77.ent N):=sA fun v a e h=>by split at h;exact nB (Q:=fun e=>eA _ _ _ _ (e a).pick.1 (e a).pick.2) h fun k=>Q77.spec N _ _ a k;cases h
noncomputable def Q78.l17 {R:Type}(N:Nat):Nat→Int→Int→Int→Int→Int→Int→Int→Int→Int→(Int→Int→Int→Int→Int→Int→Int→Int→Option R)→Option R
 |0,_,_,_,_,_,_,_,_,_,_=>none
 |n+1,h,i,e,f,j,b,c,a,d,g=>
  bif decide (a≥4294967296)then
   bif decide ((jA (d+e))≥4294967296)then
    g h i e f j b c (jA (a-1))
   else
   Q78.l17 N n h i e f j b c (jA (a-1)) (jA (d+e)) g
  else
  bif decide ((jA (a*f))>(jA ((jA (4294967296*d))+b)))then
   bif decide ((jA (d+e))≥4294967296)then
    g h i e f j b c (jA (a-1))
   else
   Q78.l17 N n h i e f j b c (jA (a-1)) (jA (d+e)) g
  else
  g h i e f j b c a
noncomputable def Q78.l24 {R:Type}(N:Nat):Nat→Int→Int→Int→Int→Int→Int→Int→Int→Int→(Int→Int→Int→Int→Int→Int→Option R)→Option R
 |0,_,_,_,_,_,_,_,_,_,_=>none
 |n+1,d,e,b,i,c,f,g,h,a,j=>
  bif decide (a≥4294967296)then
   bif decide ((jA (g+b))≥4294967296)then
    j d e c f h (jA (a-1))
   else
   Q78.l24 N n d e b i c f (jA (g+b)) h (jA (a-1)) j
  else
  bif decide ((jA (a*i))>(jA ((jA (4294967296*g))+c)))then
   bif decide ((jA (g+b))≥4294967296)then
    j d e c f h (jA (a-1))
   else
   Q78.l24 N n d e b i c f (jA (g+b)) h (jA (a-1)) j
  else
  j d e c f h a
noncomputable def Q78.f (N:Nat)(i h b:Int):Option (Int×Int):=
 bif b==0 then none else
 bif decide (b≤i)then none else
 bif i==0 then
  bif !(b==0)then
   bif !(b==0)then
    some (jA (Int.tdiv h b),Int.tmod h b)
   else none
  else none
 else
 (Q76.f N b).bind fun a=>
 bif decide (0≤(jA a))then
  bif decide (0≤(jA a))then
   bif decide (0≤(jA (64- (jA a))))then
    bif decide (0≤(jA a))then
     bif !((Int.fdiv (jA (b*2^(min (jA a).toNat 64))) (2^32))==0)then
      Q78.l17 N N (jA (b*2^(min (jA a).toNat 64))) (jA a) (Int.fdiv (jA (b*2^(min (jA a).toNat 64))) (2^32)) (mC .u64 (jA (b*2^(min (jA a).toNat 64))) 4294967295) (fE .u64 (jA (i*2^(min (jA a).toNat 64))) (Int.fdiv h (2^(min (jA (64- (jA a))).toNat 64)))) (Int.fdiv (jA (h*2^(min (jA a).toNat 64))) (2^32)) (mC .u64 (jA (h*2^(min (jA a).toNat 64))) 4294967295) (jA (Int.tdiv (fE .u64 (jA (i*2^(min (jA a).toNat 64))) (Int.fdiv h (2^(min (jA (64- (jA a))).toNat 64)))) (Int.fdiv (jA (b*2^(min (jA a).toNat 64))) (2^32)))) (jA ((fE .u64 (jA (i*2^(min (jA a).toNat 64))) (Int.fdiv h (2^(min (jA (64- (jA a))).toNat 64))))- (jA ((jA (Int.tdiv (fE .u64 (jA (i*2^(min (jA a).toNat 64))) (Int.fdiv h (2^(min (jA (64- (jA a))).toNat 64)))) (Int.fdiv (jA (b*2^(min (jA a).toNat 64))) (2^32))))*(Int.fdiv (jA (b*2^(min (jA a).toNat 64))) (2^32))))))
       (fun c l d m f g o e=>
        bif !(d==0)then
         Q78.l24 N N c l d m o e (jA ((jA ((jA ((jA (f*4294967296))+g))- (jA (e*c))))- (jA ((jA (Int.tdiv (jA ((jA ((jA (f*4294967296))+g))- (jA (e*c)))) d))*d)))) (jA ((jA ((jA (f*4294967296))+g))- (jA (e*c)))) (jA (Int.tdiv (jA ((jA ((jA (f*4294967296))+g))- (jA (e*c)))) d))
          (fun p j q r s k=>
           bif decide (0≤j)then
            some (jA ((jA (r*4294967296))+k),Int.fdiv (jA ((jA ((jA (s*4294967296))+q))- (jA (k*p)))) (2^(min j.toNat 64)))
           else none)
        else none)
     else none
    else none
   else none
  else none
 else none
noncomputable def Q78.h17:cC:=⟨[(2,.any),(8,.any),(9,.any),(10,.any),(11,.any),(13,.any),(14,.any),(15,.any),(16,.any)],[(2,.any),(8,.any),(9,.any),(10,.any),(11,.any),(13,.any),(14,.any),(15,.any)]⟩
noncomputable def Q78.h24:cC:=⟨[(2,.any),(8,.any),(9,.any),(10,.any),(14,.any),(15,.any),(16,.any),(17,.any),(18,.any)],[(2,.any),(8,.any),(14,.any),(15,.any),(17,.any),(18,.any)]⟩
noncomputable def Q78.c17 (N:Nat):nF:=⟨fun vs H k=>match vs,H with
 | [.c (.int .u64 o),.c (.int .u64 p),.c (.int .u64 q),.c (.int .u64 r),.c (.int .u64 s),.c (.int .u64 a),.c (.int .u64 b),.c (.int .u64 c),.c (.int .u64 d)],[]=>Q78.l17 N N o p q r s a b c d (fun e f g h i j l m=>k (.exit 0) ⟨fC Q78.h17.out [.c (.int .u64 e),.c (.int .u64 f),.c (.int .u64 g),.c (.int .u64 h),.c (.int .u64 i),.c (.int .u64 j),.c (.int .u64 l),.c (.int .u64 m)],[]⟩)
 |_,_=>none⟩
noncomputable def Q78.c24 (N:Nat):nF:=⟨fun vs H k=>match vs,H with
 | [.c (.int .u64 a),.c (.int .u64 b),.c (.int .u64 c),.c (.int .u64 d),.c (.int .u64 e),.c (.int .u64 f),.c (.int .u64 g),.c (.int .u64 h),.c (.int .u64 i)],[]=>Q78.l24 N N a b c d e f g h i (fun j l m o p q=>k (.exit 2) ⟨fC Q78.h24.out [.c (.int .u64 j),.c (.int .u64 l),.c (.int .u64 m),.c (.int .u64 o),.c (.int .u64 p),.c (.int .u64 q)],[]⟩)
 |_,_=>none⟩
noncomputable def Q78.E (N:Nat):jC:=iD [(3,F1),(79,Ig)] [(163,Q76.ent N)] [(17,Q78.h17),(24,Q78.h24)] [(17,Q78.c17 N),(24,Q78.c24 N)] N [.tmp 6,.tmp 7] [.any,.any] 0 135
noncomputable def Q78.b17:Code:=nA ((dA (bo Tryz.f154)).getD 0 .skip)
theorem Q78.l17_eq {R:Type}(N n:Nat)(o p q r t a b c d:Int)(k:Ex→St→Option R):
  dB 0 Q78.h17 (fun s k=>bB (Q78.E N) 383 Q78.b17 s k) n [.c (.int .u64 o),.c (.int .u64 p),.c (.int .u64 q),.c (.int .u64 r),.c (.int .u64 t),.c (.int .u64 a),.c (.int .u64 b),.c (.int .u64 c),.c (.int .u64 d)] [] k=Q78.l17 N n o p q r t a b c d (fun e f g h i j l m=>k (.exit 0) ⟨fC Q78.h17.out [.c (.int .u64 e),.c (.int .u64 f),.c (.int .u64 g),.c (.int .u64 h),.c (.int .u64 i),.c (.int .u64 j),.c (.int .u64 l),.c (.int .u64 m)],[]⟩):=by
 induction n generalizing o p q r t a b c d with
 |zero=>kernel_rfl
 |succ n ih=>
  simp only[Q78.l17,←ih]
  kernel_rfl
noncomputable def Q78.b24:Code:=nA ((dA (bo Tryz.f154)).getD 1 .skip)
theorem Q78.l24_eq {R:Type}(N n:Nat)(a b c d e f g h i:Int)(k:Ex→St→Option R):
  dB 0 Q78.h24 (fun s k=>bB (Q78.E N) 379 Q78.b24 s k) n [.c (.int .u64 a),.c (.int .u64 b),.c (.int .u64 c),.c (.int .u64 d),.c (.int .u64 e),.c (.int .u64 f),.c (.int .u64 g),.c (.int .u64 h),.c (.int .u64 i)] [] k=Q78.l24 N n a b c d e f g h i (fun j l m o p q=>k (.exit 2) ⟨fC Q78.h24.out [.c (.int .u64 j),.c (.int .u64 l),.c (.int .u64 m),.c (.int .u64 o),.c (.int .u64 p),.c (.int .u64 q)],[]⟩):=by
 induction n generalizing a b c d e f g h i with
 |zero=>kernel_rfl
 |succ n ih=>
  simp only[Q78.l24,←ih]
  kernel_rfl
noncomputable def Q78.dec (v:V)(bs:List rA):Option (Int×Int):=match v,bs with
 | .tup [.c (.int .u64 a),.c (.int .u64 b)],[]=>some (a,b)
 |_,_=>none
theorem Q78.f_eq (N:Nat)(a b c:Int):
  aB (Q78.E N) (bo Tryz.f154) [.c (.int .u64 a),.c (.int .u64 b),.c (.int .u64 c)] [] Q78.dec=Q78.f N a b c:=by kernel_rfl
noncomputable def Q78.ent (N:Nat):uA:=tD (Int×Int) 0 [true,true,true] [.any,.any,.any] fun
 | [.c (.int .u64 a),.c (.int .u64 b),.c (.int .u64 c)]=>some (Q78.f N a b c,fun r=>.one (.tup [.c (.int .u64 r.1),.c (.int .u64 r.2)]) [])
 |_=>none
theorem Q78.env (N:Nat):yA Tryz.prog (Q78.E N):=⟨(.cons jO (.cons yf .nil)),(.cons (Q76.ent_ok N) .nil)⟩
theorem Q78.k24 (N:Nat):gB Tryz.prog Tryz.f154 (Q78.E N) (.loop Q78.b24):=dC (Q78.env N) bA 379 (c:=Q78.c24 N) cA.n fun R vs H k r h=>by unfold Q78.c24 at h;dsimp only at h;split at h;exact⟨_,Q78.l24_eq .. ▸h⟩;cases h
theorem Q78.k17 (N:Nat):gB Tryz.prog Tryz.f154 (Q78.E N) (.loop Q78.b17):=dC (Q78.env N) bA 383 (c:=Q78.c17 N) cA.n fun R vs H k r h=>by unfold Q78.c17 at h;dsimp only at h;split at h;exact⟨_,Q78.l17_eq .. ▸h⟩;cases h
theorem Q78.spec (N:Nat)(a c d:Int)(r:Int×Int)(h:Q78.f N a c d=some r):eA Tryz.prog 154 [.c (.int .u64 a),.c (.int .u64 c),.c (.int .u64 d)] [] (.tup [.c (.int .u64 r.1),.c (.int .u64 r.2)]) ([]):=pA (Q78.env N) bA Tryz.func154 (cA.of (l:=[(.loop (nA ((dA (bo Tryz.f154)).getD 0 .skip))),(.loop (nA ((dA (bo Tryz.f154)).getD 1 .skip)))]) (by kernel_rfl) (cA.cons (Q78.k17 N) (cA.cons (Q78.k24 N) cA.nil))) ((Q78.f_eq ..).trans h) fun v b e=>by unfold Q78.dec at e;split at e<;>cases e;exact⟨rfl,rfl⟩
theorem Q78.ent_ok (N:Nat):oA Tryz.prog 154 (Q78.ent N):=sA fun v a e h=>by split at h;exact nB (Q:=fun e=>eA _ _ _ _ (e a).pick.1 (e a).pick.2) h fun k=>Q78.spec N _ _ _ a k;cases h
noncomputable def Q79.f (N:Nat)(b a:Int):Option (Int):=
 bif !(a==0)then
  bif decide ((Int.tmod b a)<0)then
   some (aA ((Int.tmod b a)+a))
  else
  some (Int.tmod b a)
 else none
noncomputable def Q79.E (N:Nat):jC:=iD [] [] [] [] N [.tmp 4] [.any] 0 14
noncomputable def Q79.dec (v:V)(bs:List rA):Option (Int):=match v,bs with
 | .c (.int .i64 a),[]=>some a
 |_,_=>none
theorem Q79.f_eq (N:Nat)(a b:Int):
  aB (Q79.E N) (bo Tryz.f126) [.c (.int .i64 a),.c (.int .i64 b)] [] Q79.dec=Q79.f N a b:=by kernel_rfl
noncomputable def Q79.ent (N:Nat):uA:=tD (Int) 0 [true,true] [.any,.any] fun
 | [.c (.int .i64 a),.c (.int .i64 b)]=>some (Q79.f N a b,fun r=>.one (.c (.int .i64 r)) [])
 |_=>none
theorem Q79.env (N:Nat):yA Tryz.prog (Q79.E N):=⟨.nil,.nil⟩
theorem Q79.spec (N:Nat)(a c r:Int)(h:Q79.f N a c=some r):eA Tryz.prog 126 [.c (.int .i64 a),.c (.int .i64 c)] [] (.c (.int .i64 r)) ([]):=pA (Q79.env N) bA Tryz.func126 cA.n ((Q79.f_eq ..).trans h) fun v b e=>by unfold Q79.dec at e;split at e<;>cases e;exact⟨rfl,rfl⟩
theorem Q79.ent_ok (N:Nat):oA Tryz.prog 126 (Q79.ent N):=sA fun v a e h=>by split at h;exact nB (Q:=fun e=>eA _ _ _ _ (e a).pick.1 (e a).pick.2) h fun k=>Q79.spec N _ _ a k;cases h
noncomputable def Q80.f (N:Nat)(b c d:Int):Option (Int):=
 (Q77.f N (jA b) (jA c)).bind fun a=>
 (Q78.f N a.1 a.2 (jA d)).bind fun e=>
 some (aA e.2)
noncomputable def Q80.E (N:Nat):jC:=iD [(2,aN),(78,aL)] [(153,Q77.ent N),(154,Q78.ent N)] [] [] N [.tmp 6] [.any] 0 29
noncomputable def Q80.dec (v:V)(bs:List rA):Option (Int):=match v,bs with
 | .c (.int .i64 a),[]=>some a
 |_,_=>none
theorem Q80.f_eq (N:Nat)(a b c:Int):
  aB (Q80.E N) (bo Tryz.f125) [.c (.int .i64 a),.c (.int .i64 b),.c (.int .i64 c)] [] Q80.dec=Q80.f N a b c:=by kernel_rfl
noncomputable def Q80.ent (N:Nat):uA:=tD (Int) 0 [true,true,true] [.any,.any,.any] fun
 | [.c (.int .i64 a),.c (.int .i64 b),.c (.int .i64 c)]=>some (Q80.f N a b c,fun r=>.one (.c (.int .i64 r)) [])
 |_=>none
theorem Q80.env (N:Nat):yA Tryz.prog (Q80.E N):=⟨(.cons nC (.cons zD .nil)),(.cons (Q77.ent_ok N) (.cons (Q78.ent_ok N) .nil))⟩
theorem Q80.spec (N:Nat)(a c d r:Int)(h:Q80.f N a c d=some r):eA Tryz.prog 125 [.c (.int .i64 a),.c (.int .i64 c),.c (.int .i64 d)] [] (.c (.int .i64 r)) ([]):=pA (Q80.env N) bA Tryz.func125 cA.n ((Q80.f_eq ..).trans h) fun v b e=>by unfold Q80.dec at e;split at e<;>cases e;exact⟨rfl,rfl⟩
theorem Q80.ent_ok (N:Nat):oA Tryz.prog 125 (Q80.ent N):=sA fun v a e h=>by split at h;exact nB (Q:=fun e=>eA _ _ _ _ (e a).pick.1 (e a).pick.2) h fun k=>Q80.spec N _ _ _ a k;cases h
noncomputable def Q81.f (N:Nat)(b c a:Int):Option (Int×Int):=
 bif decide (a<1)then
  some (0,2)
 else
 bif decide (a>4611686018427387904)then
  some (0,2)
 else
 (Q79.f N b a).bind fun d=>
 (Q79.f N c a).bind fun e=>
 (Q80.f N d e a).bind fun f=>
 some (f,0)
noncomputable def Q81.E (N:Nat):jC:=iD [] [(126,Q79.ent N),(125,Q80.ent N)] [] [] N [.tmp 6,.tmp 7] [.any,.any] 0 22
noncomputable def Q81.dec (v:V)(bs:List rA):Option (Int×Int):=match v,bs with
 | .tup [.c (.int .i64 a),.c (.int .i64 b)],[]=>some (a,b)
 |_,_=>none
theorem Q81.f_eq (N:Nat)(a b c:Int):
  aB (Q81.E N) (bo Tryz.f87) [.c (.int .i64 a),.c (.int .i64 b),.c (.int .i64 c)] [] Q81.dec=Q81.f N a b c:=by kernel_rfl
noncomputable def Q81.ent (N:Nat):uA:=tD (Int×Int) 0 [true,true,true] [.any,.any,.any] fun
 | [.c (.int .i64 a),.c (.int .i64 b),.c (.int .i64 c)]=>some (Q81.f N a b c,fun r=>.one (.tup [.c (.int .i64 r.1),.c (.int .i64 r.2)]) [])
 |_=>none
theorem Q81.env (N:Nat):yA Tryz.prog (Q81.E N):=⟨.nil,(.cons (Q79.ent_ok N) (.cons (Q80.ent_ok N) .nil))⟩
theorem Q81.spec (N:Nat)(a c d:Int)(r:Int×Int)(h:Q81.f N a c d=some r):eA Tryz.prog 87 [.c (.int .i64 a),.c (.int .i64 c),.c (.int .i64 d)] [] (.tup [.c (.int .i64 r.1),.c (.int .i64 r.2)]) ([]):=pA (Q81.env N) bA Tryz.func87 cA.n ((Q81.f_eq ..).trans h) fun v b e=>by unfold Q81.dec at e;split at e<;>cases e;exact⟨rfl,rfl⟩
theorem Q81.ent_ok (N:Nat):oA Tryz.prog 87 (Q81.ent N):=sA fun v a e h=>by split at h;exact nB (Q:=fun e=>eA _ _ _ _ (e a).pick.1 (e a).pick.2) h fun k=>Q81.spec N _ _ _ a k;cases h
noncomputable def Q82.f (N:Nat)(a b c:Int):Option (Int):=
 (Q81.f N a b c).bind fun d=>
 some d.1
noncomputable def Q82.E (N:Nat):jC:=iD [] [(87,Q81.ent N)] [] [] N [.tmp 6] [.any] 0 17
noncomputable def Q82.dec (v:V)(bs:List rA):Option (Int):=match v,bs with
 | .c (.int .i64 a),[]=>some a
 |_,_=>none
theorem Q82.f_eq (N:Nat)(a b c:Int):
  aB (Q82.E N) (bo Tryz.f64) [.c (.int .i64 a),.c (.int .i64 b),.c (.int .i64 c)] [] Q82.dec=Q82.f N a b c:=by kernel_rfl
noncomputable def Q82.ent (N:Nat):uA:=tD (Int) 0 [true,true,true] [.any,.any,.any] fun
 | [.c (.int .i64 a),.c (.int .i64 b),.c (.int .i64 c)]=>some (Q82.f N a b c,fun r=>.one (.c (.int .i64 r)) [])
 |_=>none
theorem Q82.env (N:Nat):yA Tryz.prog (Q82.E N):=⟨.nil,(.cons (Q81.ent_ok N) .nil)⟩
theorem Q82.spec (N:Nat)(a c d r:Int)(h:Q82.f N a c d=some r):eA Tryz.prog 64 [.c (.int .i64 a),.c (.int .i64 c),.c (.int .i64 d)] [] (.c (.int .i64 r)) ([]):=pA (Q82.env N) bA Tryz.func64 cA.n ((Q82.f_eq ..).trans h) fun v b e=>by unfold Q82.dec at e;split at e<;>cases e;exact⟨rfl,rfl⟩
theorem Q82.ent_ok (N:Nat):oA Tryz.prog 64 (Q82.ent N):=sA fun v a e h=>by split at h;exact nB (Q:=fun e=>eA _ _ _ _ (e a).pick.1 (e a).pick.2) h fun k=>Q82.spec N _ _ _ a k;cases h
noncomputable def Q83.f (N:Nat)(a:Int):Option (Int×Int×Int×Int):=
 bif decide (a>(-3))then
  some (0,0,0,80)
 else
 bif decide (a<(-4294967296))then
  some (0,0,0,80)
 else
 bif (mC .i64 (aA (0-a)) 3)==1 then
  some (0,0,0,80)
 else
 bif (mC .i64 (aA (0-a)) 3)==2 then
  some (0,0,0,80)
 else
 some (1,mC .i64 (aA (0-a)) 1,aA (Int.tdiv (aA ((mC .i64 (aA (0-a)) 1)-a)) 4),0)
noncomputable def Q83.E (N:Nat):jC:=iD [(2,aN),(33,aG)] [] [] [] N [.cell 2 33,.tmp 3] [.recd [.any,.any,.any],.any] 0 33
noncomputable def Q83.dec (v:V)(bs:List rA):Option (Int×Int×Int×Int):=match v,bs with
 | .tup [.agg [.c (.int .i64 a),.c (.int .i64 b),.c (.int .i64 c)],.c (.int .i64 d)],[]=>some (a,b,c,d)
 |_,_=>none
theorem Q83.f_eq (N:Nat)(a:Int):
  aB (Q83.E N) (bo Tryz.f27) [.c (.int .i64 a)] [] Q83.dec=Q83.f N a:=by kernel_rfl
noncomputable def Q83.ent (N:Nat):uA:=tD (Int×Int×Int×Int) 0 [true] [.any] fun
 | [.c (.int .i64 a)]=>some (Q83.f N a,fun r=>.one (.tup [.agg [.c (.int .i64 r.1),.c (.int .i64 r.2.1),.c (.int .i64 r.2.2.1)],.c (.int .i64 r.2.2.2)]) [])
 |_=>none
theorem Q83.env (N:Nat):yA Tryz.prog (Q83.E N):=⟨(.cons nC (.cons xB .nil)),.nil⟩
theorem Q83.spec (N:Nat)(a:Int)(r:Int×Int×Int×Int)(h:Q83.f N a=some r):eA Tryz.prog 27 [.c (.int .i64 a)] [] (.tup [.agg [.c (.int .i64 r.1),.c (.int .i64 r.2.1),.c (.int .i64 r.2.2.1)],.c (.int .i64 r.2.2.2)]) ([]):=pA (Q83.env N) bA Tryz.func27 cA.n ((Q83.f_eq ..).trans h) fun v b e=>by unfold Q83.dec at e;split at e<;>cases e;exact⟨rfl,rfl⟩
theorem Q83.ent_ok (N:Nat):oA Tryz.prog 27 (Q83.ent N):=sA fun v a e h=>by split at h;exact nB (Q:=fun e=>eA _ _ _ _ (e a).pick.1 (e a).pick.2) h fun k=>Q83.spec N _ a k;cases h
noncomputable def Q84.f (N:Nat)(b c d:Int):Option (Int×Int×Int×Int):=
 (Q50.f N b c d).bind fun a=>
 bif a.2.2.2.2.2.2.2 != 0 then
  some (a.1,a.2.1,a.2.2.1,a.2.2.2.2.2.2.2)
 else
 (Q51.f N b c d).bind fun e=>
 bif e != 1 then
  some (0,0,0,81)
 else
 some (a.1,a.2.1,a.2.2.1,0)
noncomputable def Q84.E (N:Nat):jC:=iD [(2,aN),(33,aG),(72,Eu)] [(54,Q50.ent N),(62,Q51.ent N)] [] [] N [.cell 2 33,.tmp 3] [.recd [.any,.any,.any],.any] 0 24
noncomputable def Q84.dec (v:V)(bs:List rA):Option (Int×Int×Int×Int):=match v,bs with
 | .tup [.agg [.c (.int .i64 a),.c (.int .i64 b),.c (.int .i64 c)],.c (.int .i64 d)],[]=>some (a,b,c,d)
 |_,_=>none
theorem Q84.f_eq (N:Nat)(a b c:Int):
  aB (Q84.E N) (bo Tryz.f42) [.agg [.c (.int .i64 a),.c (.int .i64 b),.c (.int .i64 c)]] [] Q84.dec=Q84.f N a b c:=by kernel_rfl
noncomputable def Q84.ent (N:Nat):uA:=tD (Int×Int×Int×Int) 0 [true] [.recd [.any,.any,.any]] fun
 | [.agg [.c (.int .i64 a),.c (.int .i64 b),.c (.int .i64 c)]]=>some (Q84.f N a b c,fun r=>.one (.tup [.agg [.c (.int .i64 r.1),.c (.int .i64 r.2.1),.c (.int .i64 r.2.2.1)],.c (.int .i64 r.2.2.2)]) [])
 |_=>none
theorem Q84.env (N:Nat):yA Tryz.prog (Q84.E N):=⟨(.cons nC (.cons xB (.cons dX .nil))),(.cons (Q50.ent_ok N) (.cons (Q51.ent_ok N) .nil))⟩
theorem Q84.spec (N:Nat)(a c d:Int)(r:Int×Int×Int×Int)(h:Q84.f N a c d=some r):eA Tryz.prog 42 [.agg [.c (.int .i64 a),.c (.int .i64 c),.c (.int .i64 d)]] [] (.tup [.agg [.c (.int .i64 r.1),.c (.int .i64 r.2.1),.c (.int .i64 r.2.2.1)],.c (.int .i64 r.2.2.2)]) ([]):=pA (Q84.env N) bA Tryz.func42 cA.n ((Q84.f_eq ..).trans h) fun v b e=>by unfold Q84.dec at e;split at e<;>cases e;exact⟨rfl,rfl⟩
theorem Q84.ent_ok (N:Nat):oA Tryz.prog 42 (Q84.ent N):=sA fun v a e h=>by split at h;exact nB (Q:=fun e=>eA _ _ _ _ (e a).pick.1 (e a).pick.2) h fun k=>Q84.spec N _ _ _ a k;cases h
noncomputable def Q85.l12 {R:Type}(N:Nat):Nat→Int→Int→Int→Int→Int→Int→(Int→Int→Int→Option R)→Option R
 |0,_,_,_,_,_,_,_=>none
 |n+1,c,a,b,d,e,f,kr=>
  bif !((aA (2*a))==0)then
   bif !((aA (2*a))==0)then
    bif decide ((Int.tmod (aA ((Int.tmod b (aA (2*a)))+(aA (2*a)))) (aA (2*a)))>a)then
     bif !((aA (4*a))==0)then
      bif decide (a<(aA (Int.tdiv (aA ((aA ((aA ((Int.tmod (aA ((Int.tmod b (aA (2*a)))+(aA (2*a)))) (aA (2*a)))- (aA (2*a))))*(aA ((Int.tmod (aA ((Int.tmod b (aA (2*a)))+(aA (2*a)))) (aA (2*a)))- (aA (2*a))))))-c)) (aA (4*a)))))then
       kr a (aA ((Int.tmod (aA ((Int.tmod b (aA (2*a)))+(aA (2*a)))) (aA (2*a)))- (aA (2*a)))) (aA (Int.tdiv (aA ((aA ((aA ((Int.tmod (aA ((Int.tmod b (aA (2*a)))+(aA (2*a)))) (aA (2*a)))- (aA (2*a))))*(aA ((Int.tmod (aA ((Int.tmod b (aA (2*a)))+(aA (2*a)))) (aA (2*a)))- (aA (2*a))))))-c)) (aA (4*a))))
      else
      bif a==(aA (Int.tdiv (aA ((aA ((aA ((Int.tmod (aA ((Int.tmod b (aA (2*a)))+(aA (2*a)))) (aA (2*a)))- (aA (2*a))))*(aA ((Int.tmod (aA ((Int.tmod b (aA (2*a)))+(aA (2*a)))) (aA (2*a)))- (aA (2*a))))))-c)) (aA (4*a))))then
       bif decide ((aA ((Int.tmod (aA ((Int.tmod b (aA (2*a)))+(aA (2*a)))) (aA (2*a)))- (aA (2*a))))≥0)then
        kr a (aA ((Int.tmod (aA ((Int.tmod b (aA (2*a)))+(aA (2*a)))) (aA (2*a)))- (aA (2*a)))) (aA (Int.tdiv (aA ((aA ((aA ((Int.tmod (aA ((Int.tmod b (aA (2*a)))+(aA (2*a)))) (aA (2*a)))- (aA (2*a))))*(aA ((Int.tmod (aA ((Int.tmod b (aA (2*a)))+(aA (2*a)))) (aA (2*a)))- (aA (2*a))))))-c)) (aA (4*a))))
       else
       Q85.l12 N n c (aA (Int.tdiv (aA ((aA ((aA ((Int.tmod (aA ((Int.tmod b (aA (2*a)))+(aA (2*a)))) (aA (2*a)))- (aA (2*a))))*(aA ((Int.tmod (aA ((Int.tmod b (aA (2*a)))+(aA (2*a)))) (aA (2*a)))- (aA (2*a))))))-c)) (aA (4*a)))) (aA (0- (aA ((Int.tmod (aA ((Int.tmod b (aA (2*a)))+(aA (2*a)))) (aA (2*a)))- (aA (2*a)))))) d e f kr
      else
      Q85.l12 N n c (aA (Int.tdiv (aA ((aA ((aA ((Int.tmod (aA ((Int.tmod b (aA (2*a)))+(aA (2*a)))) (aA (2*a)))- (aA (2*a))))*(aA ((Int.tmod (aA ((Int.tmod b (aA (2*a)))+(aA (2*a)))) (aA (2*a)))- (aA (2*a))))))-c)) (aA (4*a)))) (aA (0- (aA ((Int.tmod (aA ((Int.tmod b (aA (2*a)))+(aA (2*a)))) (aA (2*a)))- (aA (2*a)))))) d e f kr
     else none
    else
    bif !((aA (4*a))==0)then
     bif decide (a<(aA (Int.tdiv (aA ((aA ((Int.tmod (aA ((Int.tmod b (aA (2*a)))+(aA (2*a)))) (aA (2*a)))*(Int.tmod (aA ((Int.tmod b (aA (2*a)))+(aA (2*a)))) (aA (2*a)))))-c)) (aA (4*a)))))then
      kr a (Int.tmod (aA ((Int.tmod b (aA (2*a)))+(aA (2*a)))) (aA (2*a))) (aA (Int.tdiv (aA ((aA ((Int.tmod (aA ((Int.tmod b (aA (2*a)))+(aA (2*a)))) (aA (2*a)))*(Int.tmod (aA ((Int.tmod b (aA (2*a)))+(aA (2*a)))) (aA (2*a)))))-c)) (aA (4*a))))
     else
     bif a==(aA (Int.tdiv (aA ((aA ((Int.tmod (aA ((Int.tmod b (aA (2*a)))+(aA (2*a)))) (aA (2*a)))*(Int.tmod (aA ((Int.tmod b (aA (2*a)))+(aA (2*a)))) (aA (2*a)))))-c)) (aA (4*a))))then
      bif decide ((Int.tmod (aA ((Int.tmod b (aA (2*a)))+(aA (2*a)))) (aA (2*a)))≥0)then
       kr a (Int.tmod (aA ((Int.tmod b (aA (2*a)))+(aA (2*a)))) (aA (2*a))) (aA (Int.tdiv (aA ((aA ((Int.tmod (aA ((Int.tmod b (aA (2*a)))+(aA (2*a)))) (aA (2*a)))*(Int.tmod (aA ((Int.tmod b (aA (2*a)))+(aA (2*a)))) (aA (2*a)))))-c)) (aA (4*a))))
      else
      Q85.l12 N n c (aA (Int.tdiv (aA ((aA ((Int.tmod (aA ((Int.tmod b (aA (2*a)))+(aA (2*a)))) (aA (2*a)))*(Int.tmod (aA ((Int.tmod b (aA (2*a)))+(aA (2*a)))) (aA (2*a)))))-c)) (aA (4*a)))) (aA (0- (Int.tmod (aA ((Int.tmod b (aA (2*a)))+(aA (2*a)))) (aA (2*a))))) d e f kr
     else
     Q85.l12 N n c (aA (Int.tdiv (aA ((aA ((Int.tmod (aA ((Int.tmod b (aA (2*a)))+(aA (2*a)))) (aA (2*a)))*(Int.tmod (aA ((Int.tmod b (aA (2*a)))+(aA (2*a)))) (aA (2*a)))))-c)) (aA (4*a)))) (aA (0- (Int.tmod (aA ((Int.tmod b (aA (2*a)))+(aA (2*a)))) (aA (2*a))))) d e f kr
    else none
   else none
  else none
noncomputable def Q85.f (N:Nat)(c e w d f x u:Int):Option (Int×Int×Int):=
 bif decide (c>d)then
  (Q45.f N c d).bind fun v=>
  (Q45.f N (aA (Int.tdiv (aA (f+e)) 2)) v.1).bind fun b=>
  bif !(b.1==0)then
   bif !(b.1==0)then
    (Q82.f N (aA (0-b.2.2)) (aA (e- (aA (Int.tdiv (aA (f+e)) 2)))) (aA (Int.tdiv d b.1))).bind fun h=>
    (Q82.f N v.2.1 h (aA (Int.tdiv d b.1))).bind fun i=>
    (Q82.f N b.2.1 w (aA (Int.tdiv d b.1))).bind fun j=>
    bif !((aA (Int.tdiv d b.1))==0)then
     bif !((aA (Int.tdiv d b.1))==0)then
      Q85.l12 N N u (aA ((aA (Int.tdiv d b.1))*(aA (Int.tdiv c b.1)))) (aA (e+(aA ((aA (2*(aA (Int.tdiv c b.1))))*(Int.tmod (aA ((Int.tmod (aA (i-j)) (aA (Int.tdiv d b.1)))+(aA (Int.tdiv d b.1)))) (aA (Int.tdiv d b.1))))))) 0 0 0
       (fun o p q=>
        some (o,p,q))
     else none
    else none
   else none
  else none
 else
 (Q45.f N d c).bind fun g=>
 (Q45.f N (aA (Int.tdiv (aA (e+f)) 2)) g.1).bind fun a=>
 bif !(a.1==0)then
  bif !(a.1==0)then
   (Q82.f N (aA (0-a.2.2)) (aA (f- (aA (Int.tdiv (aA (e+f)) 2)))) (aA (Int.tdiv c a.1))).bind fun k=>
   (Q82.f N g.2.1 k (aA (Int.tdiv c a.1))).bind fun l=>
   (Q82.f N a.2.1 x (aA (Int.tdiv c a.1))).bind fun m=>
   bif !((aA (Int.tdiv c a.1))==0)then
    bif !((aA (Int.tdiv c a.1))==0)then
     Q85.l12 N N u (aA ((aA (Int.tdiv c a.1))*(aA (Int.tdiv d a.1)))) (aA (f+(aA ((aA (2*(aA (Int.tdiv d a.1))))*(Int.tmod (aA ((Int.tmod (aA (l-m)) (aA (Int.tdiv c a.1)))+(aA (Int.tdiv c a.1)))) (aA (Int.tdiv c a.1))))))) 0 0 0
      (fun r s t=>
       some (r,s,t))
    else none
   else none
  else none
 else none
noncomputable def Q85.h12:cC:=⟨[(2,.any),(6,.box [.any,.any,.any]),(18,.any),(19,.any)],[]⟩
noncomputable def Q85.c12 (N:Nat):nF:=⟨fun vs H k=>match vs,H with
 | [.c (.int .i64 a),.ptr 0 0 3,.c (.int .i64 b),.c (.int .i64 c)],[.vals [.c (.int .i64 d),.c (.int .i64 e),.c (.int .i64 f)]]=>Q85.l12 N N a b c d e f (fun g h i=>k (.ret (.agg [.c (.int .i64 g),.c (.int .i64 h),.c (.int .i64 i)]) []) .nil)
 |_,_=>none⟩
noncomputable def Q85.E (N:Nat):jC:=iD [(2,aN),(33,aG)] [(63,Q45.ent N),(64,Q82.ent N)] [(12,Q85.h12)] [(12,Q85.c12 N)] N [.cell 6 33] [.recd [.any,.any,.any]] 0 138
noncomputable def Q85.b12:Code:=nA ((dA (bo Tryz.f43)).getD 0 .skip)
theorem Q85.l12_eq {R:Type}(N n:Nat)(a b c d e f:Int)(k:Ex→St→Option R):
  dB 0 Q85.h12 (fun s k=>bB (Q85.E N) 387 Q85.b12 s k) n [.c (.int .i64 a),.ptr 0 0 3,.c (.int .i64 b),.c (.int .i64 c)] [.vals [.c (.int .i64 d),.c (.int .i64 e),.c (.int .i64 f)]] k=Q85.l12 N n a b c d e f (fun g h i=>k (.ret (.agg [.c (.int .i64 g),.c (.int .i64 h),.c (.int .i64 i)]) []) .nil):=by
 induction n generalizing a b c d e f with
 |zero=>kernel_rfl
 |succ n ih=>
  simp only[Q85.l12,←ih]
  kernel_rfl
noncomputable def Q85.dec (v:V)(bs:List rA):Option (Int×Int×Int):=match v,bs with
 | .agg [.c (.int .i64 a),.c (.int .i64 b),.c (.int .i64 c)],[]=>some (a,b,c)
 |_,_=>none
theorem Q85.f_eq (N:Nat)(a b c d e f g:Int):
  aB (Q85.E N) (bo Tryz.f43) [.agg [.c (.int .i64 a),.c (.int .i64 b),.c (.int .i64 c)],.agg [.c (.int .i64 d),.c (.int .i64 e),.c (.int .i64 f)],.c (.int .i64 g)] [] Q85.dec=Q85.f N a b c d e f g:=by kernel_rfl
noncomputable def Q85.ent (N:Nat):uA:=tD (Int×Int×Int) 0 [true,true,true] [.recd [.any,.any,.any],.recd [.any,.any,.any],.any] fun
 | [.agg [.c (.int .i64 a),.c (.int .i64 b),.c (.int .i64 c)],.agg [.c (.int .i64 d),.c (.int .i64 e),.c (.int .i64 f)],.c (.int .i64 g)]=>some (Q85.f N a b c d e f g,fun r=>.one (.agg [.c (.int .i64 r.1),.c (.int .i64 r.2.1),.c (.int .i64 r.2.2)]) [])
 |_=>none
theorem Q85.env (N:Nat):yA Tryz.prog (Q85.E N):=⟨(.cons nC (.cons xB .nil)),(.cons (Q45.ent_ok N) (.cons (Q82.ent_ok N) .nil))⟩
theorem Q85.k12 (N:Nat):gB Tryz.prog Tryz.f43 (Q85.E N) (.loop Q85.b12):=dC (Q85.env N) bA 387 (c:=Q85.c12 N) cA.n fun R vs H k r h=>by unfold Q85.c12 at h;dsimp only at h;split at h;exact⟨_,Q85.l12_eq .. ▸h⟩;cases h
theorem Q85.spec (N:Nat)(a c d f g i j:Int)(r:Int×Int×Int)(h:Q85.f N a c d f g i j=some r):eA Tryz.prog 43 [.agg [.c (.int .i64 a),.c (.int .i64 c),.c (.int .i64 d)],.agg [.c (.int .i64 f),.c (.int .i64 g),.c (.int .i64 i)],.c (.int .i64 j)] [] (.agg [.c (.int .i64 r.1),.c (.int .i64 r.2.1),.c (.int .i64 r.2.2)]) ([]):=pA (Q85.env N) bA Tryz.func43 (cA.of (l:=[(.loop (nA ((dA (bo Tryz.f43)).getD 0 .skip)))]) (by kernel_rfl) (cA.cons (Q85.k12 N) cA.nil)) ((Q85.f_eq ..).trans h) fun v b e=>by unfold Q85.dec at e;split at e<;>cases e;exact⟨rfl,rfl⟩
theorem Q85.ent_ok (N:Nat):oA Tryz.prog 43 (Q85.ent N):=sA fun v a e h=>by split at h;exact nB (Q:=fun e=>eA _ _ _ _ (e a).pick.1 (e a).pick.2) h fun k=>Q85.spec N _ _ _ _ _ _ _ a k;cases h
noncomputable def Q86.f (N:Nat)(e f g h i j:Int):Option (Int×Int×Int×Int):=
 (Q48.f N e f g).bind fun l=>
 bif l != 0 then
  some (0,0,0,l)
 else
 (Q48.f N h i j).bind fun m=>
 bif m != 0 then
  some (0,0,0,m)
 else
 (Q84.f N e f g).bind fun d=>
 bif d.2.2.2 != 0 then
  some (0,0,0,d.2.2.2)
 else
 (Q84.f N h i j).bind fun a=>
 bif a.2.2.2 != 0 then
  some (0,0,0,a.2.2.2)
 else
 (Q47.f N e f g).bind fun c=>
 (Q47.f N h i j).bind fun k=>
 bif c != k then
  some (0,0,0,100)
 else
 (Q85.f N d.1 d.2.1 d.2.2.1 a.1 a.2.1 a.2.2.1 c).bind fun b=>
 some (b.1,b.2.1,b.2.2,0)
noncomputable def Q86.E (N:Nat):jC:=iD [(2,aN),(33,aG)] [(36,Q48.ent N),(42,Q84.ent N),(19,Q47.ent N),(43,Q85.ent N)] [] [] N [.cell 4 33,.tmp 5] [.recd [.any,.any,.any],.any] 0 53
noncomputable def Q86.dec (v:V)(bs:List rA):Option (Int×Int×Int×Int):=match v,bs with
 | .tup [.agg [.c (.int .i64 a),.c (.int .i64 b),.c (.int .i64 c)],.c (.int .i64 d)],[]=>some (a,b,c,d)
 |_,_=>none
theorem Q86.f_eq (N:Nat)(a b c d e f:Int):
  aB (Q86.E N) (bo Tryz.f24) [.agg [.c (.int .i64 a),.c (.int .i64 b),.c (.int .i64 c)],.agg [.c (.int .i64 d),.c (.int .i64 e),.c (.int .i64 f)]] [] Q86.dec=Q86.f N a b c d e f:=by kernel_rfl
noncomputable def Q86.ent (N:Nat):uA:=tD (Int×Int×Int×Int) 0 [true,true] [.recd [.any,.any,.any],.recd [.any,.any,.any]] fun
 | [.agg [.c (.int .i64 a),.c (.int .i64 b),.c (.int .i64 c)],.agg [.c (.int .i64 d),.c (.int .i64 e),.c (.int .i64 f)]]=>some (Q86.f N a b c d e f,fun r=>.one (.tup [.agg [.c (.int .i64 r.1),.c (.int .i64 r.2.1),.c (.int .i64 r.2.2.1)],.c (.int .i64 r.2.2.2)]) [])
 |_=>none
theorem Q86.env (N:Nat):yA Tryz.prog (Q86.E N):=⟨(.cons nC (.cons xB .nil)),(.cons (Q48.ent_ok N) (.cons (Q84.ent_ok N) (.cons (Q47.ent_ok N) (.cons (Q85.ent_ok N) .nil))))⟩
theorem Q86.spec (N:Nat)(a c d f g i:Int)(r:Int×Int×Int×Int)(h:Q86.f N a c d f g i=some r):eA Tryz.prog 24 [.agg [.c (.int .i64 a),.c (.int .i64 c),.c (.int .i64 d)],.agg [.c (.int .i64 f),.c (.int .i64 g),.c (.int .i64 i)]] [] (.tup [.agg [.c (.int .i64 r.1),.c (.int .i64 r.2.1),.c (.int .i64 r.2.2.1)],.c (.int .i64 r.2.2.2)]) ([]):=pA (Q86.env N) bA Tryz.func24 cA.n ((Q86.f_eq ..).trans h) fun v b e=>by unfold Q86.dec at e;split at e<;>cases e;exact⟨rfl,rfl⟩
theorem Q86.ent_ok (N:Nat):oA Tryz.prog 24 (Q86.ent N):=sA fun v a e h=>by split at h;exact nB (Q:=fun e=>eA _ _ _ _ (e a).pick.1 (e a).pick.2) h fun k=>Q86.spec N _ _ _ _ _ _ a k;cases h
noncomputable def Q87.f (N:Nat)(c d e:Int):Option (Int×Int×Int×Int):=
 (Q84.f N c d e).bind fun a=>
 bif a.2.2.2 != 0 then
  some (0,0,0,a.2.2.2)
 else
 (Q50.f N a.1 (aA (0-a.2.1)) a.2.2.1).bind fun b=>
 some (b.1,b.2.1,b.2.2.1,b.2.2.2.2.2.2.2)
noncomputable def Q87.E (N:Nat):jC:=iD [(2,aN),(33,aG)] [(42,Q84.ent N),(54,Q50.ent N)] [] [] N [.cell 2 33,.tmp 3] [.recd [.any,.any,.any],.any] 0 27
noncomputable def Q87.dec (v:V)(bs:List rA):Option (Int×Int×Int×Int):=match v,bs with
 | .tup [.agg [.c (.int .i64 a),.c (.int .i64 b),.c (.int .i64 c)],.c (.int .i64 d)],[]=>some (a,b,c,d)
 |_,_=>none
theorem Q87.f_eq (N:Nat)(a b c:Int):
  aB (Q87.E N) (bo Tryz.f45) [.agg [.c (.int .i64 a),.c (.int .i64 b),.c (.int .i64 c)]] [] Q87.dec=Q87.f N a b c:=by kernel_rfl
noncomputable def Q87.ent (N:Nat):uA:=tD (Int×Int×Int×Int) 0 [true] [.recd [.any,.any,.any]] fun
 | [.agg [.c (.int .i64 a),.c (.int .i64 b),.c (.int .i64 c)]]=>some (Q87.f N a b c,fun r=>.one (.tup [.agg [.c (.int .i64 r.1),.c (.int .i64 r.2.1),.c (.int .i64 r.2.2.1)],.c (.int .i64 r.2.2.2)]) [])
 |_=>none
theorem Q87.env (N:Nat):yA Tryz.prog (Q87.E N):=⟨(.cons nC (.cons xB .nil)),(.cons (Q84.ent_ok N) (.cons (Q50.ent_ok N) .nil))⟩
theorem Q87.spec (N:Nat)(a c d:Int)(r:Int×Int×Int×Int)(h:Q87.f N a c d=some r):eA Tryz.prog 45 [.agg [.c (.int .i64 a),.c (.int .i64 c),.c (.int .i64 d)]] [] (.tup [.agg [.c (.int .i64 r.1),.c (.int .i64 r.2.1),.c (.int .i64 r.2.2.1)],.c (.int .i64 r.2.2.2)]) ([]):=pA (Q87.env N) bA Tryz.func45 cA.n ((Q87.f_eq ..).trans h) fun v b e=>by unfold Q87.dec at e;split at e<;>cases e;exact⟨rfl,rfl⟩
theorem Q87.ent_ok (N:Nat):oA Tryz.prog 45 (Q87.ent N):=sA fun v a e h=>by split at h;exact nB (Q:=fun e=>eA _ _ _ _ (e a).pick.1 (e a).pick.2) h fun k=>Q87.spec N _ _ _ a k;cases h
noncomputable def Q88.l1000001 {R:Type}(N:Nat):Nat→Int→Int→Int→Int→Int→Int→Int→Int→Int→Int→Int→Int→Int→Int→Int→(Int→Int→Int→Int→Option R)→Option R
 |0,_,_,_,_,_,_,_,_,_,_,_,_,_,_,_,_=>none
 |n+1,q,p,o,r,s,j,k,l,m,a,b,c,g,h,i,kr=>
  bif p==0 then
   kr g h i 0
  else
  bif (mC .u64 p 1)==1 then
   (Q85.f N g h i a b c o).bind fun d=>
   (Q85.f N a b c a b c o).bind fun e=>
   Q88.l1000001 N n q (Int.fdiv p (2^1)) o r s j k l m e.1 e.2.1 e.2.2 d.1 d.2.1 d.2.2 kr
  else
  (Q85.f N a b c a b c o).bind fun f=>
  Q88.l1000001 N n q (Int.fdiv p (2^1)) o r s j k l m f.1 f.2.1 f.2.2 g h i kr
noncomputable def Q88.s1000001 {R:Type}(N:Nat)(c h i j k l m:Int)(kr:(Int→Int→Int→Int→Option R)):Option R:=
 (Q84.f N h i j).bind fun a=>
 bif a.2.2.2 != 0 then
  kr 0 0 0 a.2.2.2
 else
 bif decide (c<0)then
  (Q87.f N a.1 a.2.1 a.2.2.1).bind fun b=>
  (Q47.f N b.1 b.2.1 b.2.2.1).bind fun f=>
  (Q83.f N f).bind fun d=>
  bif (jA (0- (jA c)))==0 then
   kr d.1 d.2.1 d.2.2.1 0
  else
  bif (mC .u64 (jA (0- (jA c))) 1)==1 then
   (Q85.f N d.1 d.2.1 d.2.2.1 b.1 b.2.1 b.2.2.1 f).bind fun o=>
   (Q85.f N b.1 b.2.1 b.2.2.1 b.1 b.2.1 b.2.2.1 f).bind fun p=>
   Q88.l1000001 N N c (Int.fdiv (jA (0- (jA c))) (2^1)) f h i j k l m p.1 p.2.1 p.2.2 o.1 o.2.1 o.2.2 kr
  else
  (Q85.f N b.1 b.2.1 b.2.2.1 b.1 b.2.1 b.2.2.1 f).bind fun q=>
  Q88.l1000001 N N c (Int.fdiv (jA (0- (jA c))) (2^1)) f h i j k l m q.1 q.2.1 q.2.2 d.1 d.2.1 d.2.2.1 kr
 else
 (Q47.f N a.1 a.2.1 a.2.2.1).bind fun g=>
 (Q83.f N g).bind fun e=>
 bif (jA c)==0 then
  kr e.1 e.2.1 e.2.2.1 0
 else
 bif (mC .u64 (jA c) 1)==1 then
  (Q85.f N e.1 e.2.1 e.2.2.1 a.1 a.2.1 a.2.2.1 g).bind fun r=>
  (Q85.f N a.1 a.2.1 a.2.2.1 a.1 a.2.1 a.2.2.1 g).bind fun s=>
  Q88.l1000001 N N c (Int.fdiv (jA c) (2^1)) g h i j k l m s.1 s.2.1 s.2.2 r.1 r.2.1 r.2.2 kr
 else
 (Q85.f N a.1 a.2.1 a.2.2.1 a.1 a.2.1 a.2.2.1 g).bind fun t=>
 Q88.l1000001 N N c (Int.fdiv (jA c) (2^1)) g h i j k l m t.1 t.2.1 t.2.2 e.1 e.2.1 e.2.2.1 kr
noncomputable def Q88.f (N:Nat)(e f g h:Int):Option (Int×Int×Int×Int):=
 Q88.s1000001 N h e f g 0 0 0
  (fun a b c d=>
   some (a,b,c,d))
noncomputable def Q88.h1000001:cC:=⟨[(1,.any),(2,.box [.any,.any,.any]),(4,.box [.any,.any,.any]),(6,.any),(8,.any),(9,.any),(10,.any)],[(4,.any),(5,.any)]⟩
noncomputable def Q88.c1000001 (N:Nat):nF:=⟨fun vs H k=>match vs,H with
 | [.c (.int .i64 e),.ptr 0 0 3,.ptr 1 0 3,.poison,.poison,.poison,.poison],[.vals [.c (.int .i64 f),.c (.int .i64 g),.c (.int .i64 h)],.vals [.c (.int .i64 i),.c (.int .i64 j),.c (.int .i64 l)]]=>Q88.s1000001 N e f g h i j l (fun a b c d=>k (.ret (.tup [.agg [.c (.int .i64 a),.c (.int .i64 b),.c (.int .i64 c)],.c (.int .i64 d)]) []) .nil)
 |_,_=>none⟩
noncomputable def Q88.E (N:Nat):jC:=iD [(2,aN),(33,aG),(78,aL)] [(42,Q84.ent N),(45,Q87.ent N),(19,Q47.ent N),(27,Q83.ent N),(43,Q85.ent N)] [(1000001,Q88.h1000001)] [(1000001,Q88.c1000001 N)] N [.cell 4 33,.tmp 5] [.recd [.any,.any,.any],.any] 0 55
noncomputable def Q88.b1000001:Code:=nA ((dA (bo Tryz.f26)).getD 0 .skip)
noncomputable def Q88.r1000001:Code:=(findLabel Q88.b1000001 0).getD .skip
theorem Q88.l1000001_eq {R:Type}(N n:Nat)(r t u v w a b d e f g h i j l:Int)(k:Ex→St→Option R):
  pN 0 Q88.h1000001 (fun c s k=>bB (Q88.E N) 398 c s k) Q88.b1000001 n Q88.r1000001 [.c (.int .i64 r),.ptr 0 0 3,.ptr 1 0 3,.ptr 2 0 3,.c (.int .u64 t),.c (.int .i64 u),.ptr 3 0 3] [.vals [.c (.int .i64 v),.c (.int .i64 w),.c (.int .i64 a)],.vals [.c (.int .i64 b),.c (.int .i64 d),.c (.int .i64 e)],.vals [.c (.int .i64 f),.c (.int .i64 g),.c (.int .i64 h)],.vals [.c (.int .i64 i),.c (.int .i64 j),.c (.int .i64 l)]] k=Q88.l1000001 N n r t u v w a b d e f g h i j l (fun m o p q=>k (.ret (.tup [.agg [.c (.int .i64 m),.c (.int .i64 o),.c (.int .i64 p)],.c (.int .i64 q)]) []) .nil):=by
 induction n generalizing r t u v w a b d e f g h i j l with
 |zero=>kernel_rfl
 |succ n ih=>
  simp only[Q88.l1000001,←ih]
  kernel_rfl
theorem Q88.s1000001_eq {R:Type}(N:Nat)(a b d e f g h:Int)(k:Ex→St→Option R):
  pN 0 Q88.h1000001 (fun c s k=>bB (Q88.E N) 398 c s k) Q88.b1000001 (N+1) Q88.b1000001 [.c (.int .i64 a),.ptr 0 0 3,.ptr 1 0 3,.poison,.poison,.poison,.poison] [.vals [.c (.int .i64 b),.c (.int .i64 d),.c (.int .i64 e)],.vals [.c (.int .i64 f),.c (.int .i64 g),.c (.int .i64 h)]] k=Q88.s1000001 N a b d e f g h (fun i j l m=>k (.ret (.tup [.agg [.c (.int .i64 i),.c (.int .i64 j),.c (.int .i64 l)],.c (.int .i64 m)]) []) .nil):=by
 simp only[Q88.s1000001,←Q88.l1000001_eq]
 kernel_rfl
noncomputable def Q88.dec (v:V)(bs:List rA):Option (Int×Int×Int×Int):=match v,bs with
 | .tup [.agg [.c (.int .i64 a),.c (.int .i64 b),.c (.int .i64 c)],.c (.int .i64 d)],[]=>some (a,b,c,d)
 |_,_=>none
theorem Q88.f_eq (N:Nat)(a b c d:Int):
  aB (Q88.E N) (bo Tryz.f26) [.agg [.c (.int .i64 a),.c (.int .i64 b),.c (.int .i64 c)],.c (.int .i64 d)] [] Q88.dec=Q88.f N a b c d:=by kernel_rfl
noncomputable def Q88.ent (N:Nat):uA:=tD (Int×Int×Int×Int) 0 [true,true] [.recd [.any,.any,.any],.any] fun
 | [.agg [.c (.int .i64 a),.c (.int .i64 b),.c (.int .i64 c)],.c (.int .i64 d)]=>some (Q88.f N a b c d,fun r=>.one (.tup [.agg [.c (.int .i64 r.1),.c (.int .i64 r.2.1),.c (.int .i64 r.2.2.1)],.c (.int .i64 r.2.2.2)]) [])
 |_=>none
theorem Q88.env (N:Nat):yA Tryz.prog (Q88.E N):=⟨(.cons nC (.cons xB (.cons zD .nil))),(.cons (Q84.ent_ok N) (.cons (Q87.ent_ok N) (.cons (Q47.ent_ok N) (.cons (Q83.ent_ok N) (.cons (Q85.ent_ok N) .nil)))))⟩
theorem Q88.res_eq (N:Nat):(Q88.E N).res=Tryz.f26.results.toList:=by kernel_rfl
theorem Q88.k1000001 (N:Nat):gB Tryz.prog Tryz.f26 (Q88.E N) (.scope Q88.b1000001):=by
 intro e hd he hh R vs H k r h;have e1:(Q88.E N).cut (1000000+nD Q88.b1000001)=some (Q88.c1000001 N):=by kernel_rfl
 have e2:(Q88.E N).hint (1000000+nD Q88.b1000001)=some Q88.h1000001:=by kernel_rfl
 rw[e1]at he;rw[e2]at hh;cases he;cases hh;unfold Q88.c1000001 at h;dsimp only at h;split at h
 ·rw[←Q88.s1000001_eq]at h;exact Ec (Q88.env N) bA (Q88.res_eq N) cA.n h
 ·cases h
theorem Q88.spec (N:Nat)(a c d f:Int)(r:Int×Int×Int×Int)(h:Q88.f N a c d f=some r):eA Tryz.prog 26 [.agg [.c (.int .i64 a),.c (.int .i64 c),.c (.int .i64 d)],.c (.int .i64 f)] [] (.tup [.agg [.c (.int .i64 r.1),.c (.int .i64 r.2.1),.c (.int .i64 r.2.2.1)],.c (.int .i64 r.2.2.2)]) ([]):=pA (Q88.env N) bA Tryz.func26 (cA.of (l:=[(.scope (nA ((dA (bo Tryz.f26)).getD 0 .skip)))]) (by kernel_rfl) (cA.cons (Q88.k1000001 N) cA.nil)) ((Q88.f_eq ..).trans h) fun v b e=>by unfold Q88.dec at e;split at e<;>cases e;exact⟨rfl,rfl⟩
theorem Q88.ent_ok (N:Nat):oA Tryz.prog 26 (Q88.ent N):=sA fun v a e h=>by split at h;exact nB (Q:=fun e=>eA _ _ _ _ (e a).pick.1 (e a).pick.2) h fun k=>Q88.spec N _ _ _ _ a k;cases h
noncomputable def Q89.f (N:Nat)(a:Int):Option (Int×Int×Int×Int):=
 bif decide (a>(-3))then
  some (0,0,0,80)
 else
 bif decide (a<(-4294967296))then
  some (0,0,0,80)
 else
 (Q65.f N a 4).bind fun b=>
 bif b==0 then
  some (1,0,aA (Int.tdiv (aA (0-a)) 4),0)
 else
 bif b==1 then
  some (1,1,aA (Int.tdiv (aA (1-a)) 4),0)
 else
 some (0,0,0,80)
noncomputable def Q89.E (N:Nat):jC:=iD [(2,aN),(33,aG)] [(69,Q65.ent N)] [] [] N [.cell 2 33,.tmp 3] [.recd [.any,.any,.any],.any] 0 26
noncomputable def Q89.dec (v:V)(bs:List rA):Option (Int×Int×Int×Int):=match v,bs with
 | .tup [.agg [.c (.int .i64 a),.c (.int .i64 b),.c (.int .i64 c)],.c (.int .i64 d)],[]=>some (a,b,c,d)
 |_,_=>none
theorem Q89.f_eq (N:Nat)(a:Int):
  aB (Q89.E N) (bo Tryz.f51) [.c (.int .i64 a)] [] Q89.dec=Q89.f N a:=by kernel_rfl
noncomputable def Q89.ent (N:Nat):uA:=tD (Int×Int×Int×Int) 0 [true] [.any] fun
 | [.c (.int .i64 a)]=>some (Q89.f N a,fun r=>.one (.tup [.agg [.c (.int .i64 r.1),.c (.int .i64 r.2.1),.c (.int .i64 r.2.2.1)],.c (.int .i64 r.2.2.2)]) [])
 |_=>none
theorem Q89.env (N:Nat):yA Tryz.prog (Q89.E N):=⟨(.cons nC (.cons xB .nil)),(.cons (Q65.ent_ok N) .nil)⟩
theorem Q89.spec (N:Nat)(a:Int)(r:Int×Int×Int×Int)(h:Q89.f N a=some r):eA Tryz.prog 51 [.c (.int .i64 a)] [] (.tup [.agg [.c (.int .i64 r.1),.c (.int .i64 r.2.1),.c (.int .i64 r.2.2.1)],.c (.int .i64 r.2.2.2)]) ([]):=pA (Q89.env N) bA Tryz.func51 cA.n ((Q89.f_eq ..).trans h) fun v b e=>by unfold Q89.dec at e;split at e<;>cases e;exact⟨rfl,rfl⟩
theorem Q89.ent_ok (N:Nat):oA Tryz.prog 51 (Q89.ent N):=sA fun v a e h=>by split at h;exact nB (Q:=fun e=>eA _ _ _ _ (e a).pick.1 (e a).pick.2) h fun k=>Q89.spec N _ a k;cases h
noncomputable def Q90.l2 {R:Type}(N:Nat):Nat→Int→Int→Int→Int→(Int→Option R)→Option R
 |0,_,_,_,_,_=>none
 |n+1,b,c,a,e,d=>
  bif decide (c>0)then
   bif (Int.tmod c 2)==1 then
    bif !(a==0)then
     bif !(a==0)then
      Q90.l2 N n (Int.tmod (aA (b+b)) a) (aA (Int.tdiv c 2)) a (Int.tmod (aA (e+b)) a) d
     else none
    else none
   else
   bif !(a==0)then
    Q90.l2 N n (Int.tmod (aA (b+b)) a) (aA (Int.tdiv c 2)) a e d
   else none
  else
  d e
noncomputable def Q90.f (N:Nat)(a b c:Int):Option (Int):=
 Q90.l2 N N a b c 0
  (fun d=>
   some d)
noncomputable def Q90.h2:cC:=⟨[(0,.any),(1,.any),(2,.any),(7,.any)],[(7,.any)]⟩
noncomputable def Q90.c2 (N:Nat):nF:=⟨fun vs H k=>match vs,H with
 | [.c (.int .i64 a),.c (.int .i64 b),.c (.int .i64 c),.c (.int .i64 d)],[]=>Q90.l2 N N a b c d (fun e=>k (.exit 0) ⟨fC Q90.h2.out [.c (.int .i64 e)],[]⟩)
 |_,_=>none⟩
noncomputable def Q90.E (N:Nat):jC:=iD [] [] [(2,Q90.h2)] [(2,Q90.c2 N)] N [.tmp 6] [.any] 0 26
noncomputable def Q90.b2:Code:=nA ((dA (bo Tryz.f72)).getD 0 .skip)
theorem Q90.l2_eq {R:Type}(N n:Nat)(a b c d:Int)(k:Ex→St→Option R):
  dB 0 Q90.h2 (fun s k=>bB (Q90.E N) 395 Q90.b2 s k) n [.c (.int .i64 a),.c (.int .i64 b),.c (.int .i64 c),.c (.int .i64 d)] [] k=Q90.l2 N n a b c d (fun e=>k (.exit 0) ⟨fC Q90.h2.out [.c (.int .i64 e)],[]⟩):=by
 induction n generalizing a b c d with
 |zero=>kernel_rfl
 |succ n ih=>
  simp only[Q90.l2,←ih]
  kernel_rfl
noncomputable def Q90.dec (v:V)(bs:List rA):Option (Int):=match v,bs with
 | .c (.int .i64 a),[]=>some a
 |_,_=>none
theorem Q90.f_eq (N:Nat)(a b c:Int):
  aB (Q90.E N) (bo Tryz.f72) [.c (.int .i64 a),.c (.int .i64 b),.c (.int .i64 c)] [] Q90.dec=Q90.f N a b c:=by kernel_rfl
noncomputable def Q90.ent (N:Nat):uA:=tD (Int) 0 [true,true,true] [.any,.any,.any] fun
 | [.c (.int .i64 a),.c (.int .i64 b),.c (.int .i64 c)]=>some (Q90.f N a b c,fun r=>.one (.c (.int .i64 r)) [])
 |_=>none
theorem Q90.env (N:Nat):yA Tryz.prog (Q90.E N):=⟨.nil,.nil⟩
theorem Q90.k2 (N:Nat):gB Tryz.prog Tryz.f72 (Q90.E N) (.loop Q90.b2):=dC (Q90.env N) bA 395 (c:=Q90.c2 N) cA.n fun R vs H k r h=>by unfold Q90.c2 at h;dsimp only at h;split at h;exact⟨_,Q90.l2_eq .. ▸h⟩;cases h
theorem Q90.spec (N:Nat)(a c d r:Int)(h:Q90.f N a c d=some r):eA Tryz.prog 72 [.c (.int .i64 a),.c (.int .i64 c),.c (.int .i64 d)] [] (.c (.int .i64 r)) ([]):=pA (Q90.env N) bA Tryz.func72 (cA.of (l:=[(.loop (nA ((dA (bo Tryz.f72)).getD 0 .skip)))]) (by kernel_rfl) (cA.cons (Q90.k2 N) cA.nil)) ((Q90.f_eq ..).trans h) fun v b e=>by unfold Q90.dec at e;split at e<;>cases e;exact⟨rfl,rfl⟩
theorem Q90.ent_ok (N:Nat):oA Tryz.prog 72 (Q90.ent N):=sA fun v a e h=>by split at h;exact nB (Q:=fun e=>eA _ _ _ _ (e a).pick.1 (e a).pick.2) h fun k=>Q90.spec N _ _ _ a k;cases h
noncomputable def Q91.l5 {R:Type}(N:Nat):Nat→Int→Int→Int→Int→Int→(Int→Int→Option R)→Option R
 |0,_,_,_,_,_,_=>none
 |n+1,d,b,a,e,f,c=>
  bif decide (a>0)then
   bif !(a==0)then
    Q91.l5 N n d a (aA (b- (aA ((aA (Int.tdiv b a))*a)))) f (aA (e- (aA ((aA (Int.tdiv b a))*f)))) c
   else none
  else
  c d e
noncomputable def Q91.f (N:Nat)(e a:Int):Option (Int):=
 (Q65.f N e a).bind fun f=>
 Q91.l5 N N a a f 0 1
  (fun c d=>
   (Q65.f N d c).bind fun b=>
   some b)
noncomputable def Q91.h5:cC:=⟨[(1,.any),(5,.any),(6,.any),(7,.any),(8,.any)],[(1,.any),(7,.any)]⟩
noncomputable def Q91.c5 (N:Nat):nF:=⟨fun vs H k=>match vs,H with
 | [.c (.int .i64 b),.c (.int .i64 c),.c (.int .i64 d),.c (.int .i64 e),.c (.int .i64 f)],[]=>Q91.l5 N N b c d e f (fun g a=>k (.exit 0) ⟨fC Q91.h5.out [.c (.int .i64 g),.c (.int .i64 a)],[]⟩)
 |_,_=>none⟩
noncomputable def Q91.E (N:Nat):jC:=iD [] [(69,Q65.ent N)] [(5,Q91.h5)] [(5,Q91.c5 N)] N [.tmp 4] [.any] 0 38
noncomputable def Q91.b5:Code:=nA ((dA (bo Tryz.f133)).getD 0 .skip)
theorem Q91.l5_eq {R:Type}(N n:Nat)(b c d e f:Int)(k:Ex→St→Option R):
  dB 0 Q91.h5 (fun s k=>bB (Q91.E N) 392 Q91.b5 s k) n [.c (.int .i64 b),.c (.int .i64 c),.c (.int .i64 d),.c (.int .i64 e),.c (.int .i64 f)] [] k=Q91.l5 N n b c d e f (fun g a=>k (.exit 0) ⟨fC Q91.h5.out [.c (.int .i64 g),.c (.int .i64 a)],[]⟩):=by
 induction n generalizing b c d e f with
 |zero=>kernel_rfl
 |succ n ih=>
  simp only[Q91.l5,←ih]
  kernel_rfl
noncomputable def Q91.dec (v:V)(bs:List rA):Option (Int):=match v,bs with
 | .c (.int .i64 a),[]=>some a
 |_,_=>none
theorem Q91.f_eq (N:Nat)(a b:Int):
  aB (Q91.E N) (bo Tryz.f133) [.c (.int .i64 a),.c (.int .i64 b)] [] Q91.dec=Q91.f N a b:=by kernel_rfl
noncomputable def Q91.ent (N:Nat):uA:=tD (Int) 0 [true,true] [.any,.any] fun
 | [.c (.int .i64 a),.c (.int .i64 b)]=>some (Q91.f N a b,fun r=>.one (.c (.int .i64 r)) [])
 |_=>none
theorem Q91.env (N:Nat):yA Tryz.prog (Q91.E N):=⟨.nil,(.cons (Q65.ent_ok N) .nil)⟩
theorem Q91.k5 (N:Nat):gB Tryz.prog Tryz.f133 (Q91.E N) (.loop Q91.b5):=dC (Q91.env N) bA 392 (c:=Q91.c5 N) cA.n fun R vs H k r h=>by unfold Q91.c5 at h;dsimp only at h;split at h;exact⟨_,Q91.l5_eq .. ▸h⟩;cases h
theorem Q91.spec (N:Nat)(a c r:Int)(h:Q91.f N a c=some r):eA Tryz.prog 133 [.c (.int .i64 a),.c (.int .i64 c)] [] (.c (.int .i64 r)) ([]):=pA (Q91.env N) bA Tryz.func133 (cA.of (l:=[(.loop (nA ((dA (bo Tryz.f133)).getD 0 .skip)))]) (by kernel_rfl) (cA.cons (Q91.k5 N) cA.nil)) ((Q91.f_eq ..).trans h) fun v b e=>by unfold Q91.dec at e;split at e<;>cases e;exact⟨rfl,rfl⟩
theorem Q91.ent_ok (N:Nat):oA Tryz.prog 133 (Q91.ent N):=sA fun v a e h=>by split at h;exact nB (Q:=fun e=>eA _ _ _ _ (e a).pick.1 (e a).pick.2) h fun k=>Q91.spec N _ _ a k;cases h
noncomputable def Q92.f (N:Nat)(b a:Int):Option (Int×Int):=
 bif decide (a<1)then
  some (0,2)
 else
 bif decide (a>4611686018427387904)then
  some (0,2)
 else
 (Q65.f N b a).bind fun c=>
 (Q66.f N c a).bind fun d=>
 bif d != 1 then
  some (0,41)
 else
 (Q91.f N b a).bind fun e=>
 some (e,0)
noncomputable def Q92.E (N:Nat):jC:=iD [] [(69,Q65.ent N),(90,Q66.ent N),(133,Q91.ent N)] [] [] N [.tmp 4,.tmp 5] [.any,.any] 0 21
noncomputable def Q92.dec (v:V)(bs:List rA):Option (Int×Int):=match v,bs with
 | .tup [.c (.int .i64 a),.c (.int .i64 b)],[]=>some (a,b)
 |_,_=>none
theorem Q92.f_eq (N:Nat)(a b:Int):
  aB (Q92.E N) (bo Tryz.f94) [.c (.int .i64 a),.c (.int .i64 b)] [] Q92.dec=Q92.f N a b:=by kernel_rfl
noncomputable def Q92.ent (N:Nat):uA:=tD (Int×Int) 0 [true,true] [.any,.any] fun
 | [.c (.int .i64 a),.c (.int .i64 b)]=>some (Q92.f N a b,fun r=>.one (.tup [.c (.int .i64 r.1),.c (.int .i64 r.2)]) [])
 |_=>none
theorem Q92.env (N:Nat):yA Tryz.prog (Q92.E N):=⟨.nil,(.cons (Q65.ent_ok N) (.cons (Q66.ent_ok N) (.cons (Q91.ent_ok N) .nil)))⟩
theorem Q92.spec (N:Nat)(a c:Int)(r:Int×Int)(h:Q92.f N a c=some r):eA Tryz.prog 94 [.c (.int .i64 a),.c (.int .i64 c)] [] (.tup [.c (.int .i64 r.1),.c (.int .i64 r.2)]) ([]):=pA (Q92.env N) bA Tryz.func94 cA.n ((Q92.f_eq ..).trans h) fun v b e=>by unfold Q92.dec at e;split at e<;>cases e;exact⟨rfl,rfl⟩
theorem Q92.ent_ok (N:Nat):oA Tryz.prog 94 (Q92.ent N):=sA fun v a e h=>by split at h;exact nB (Q:=fun e=>eA _ _ _ _ (e a).pick.1 (e a).pick.2) h fun k=>Q92.spec N _ _ a k;cases h
noncomputable def Q93.f (N:Nat)(a b:Int):Option (Int):=
 (Q92.f N a b).bind fun c=>
 some c.1
noncomputable def Q93.E (N:Nat):jC:=iD [] [(94,Q92.ent N)] [] [] N [.tmp 4] [.any] 0 14
noncomputable def Q93.dec (v:V)(bs:List rA):Option (Int):=match v,bs with
 | .c (.int .i64 a),[]=>some a
 |_,_=>none
theorem Q93.f_eq (N:Nat)(a b:Int):
  aB (Q93.E N) (bo Tryz.f73) [.c (.int .i64 a),.c (.int .i64 b)] [] Q93.dec=Q93.f N a b:=by kernel_rfl
noncomputable def Q93.ent (N:Nat):uA:=tD (Int) 0 [true,true] [.any,.any] fun
 | [.c (.int .i64 a),.c (.int .i64 b)]=>some (Q93.f N a b,fun r=>.one (.c (.int .i64 r)) [])
 |_=>none
theorem Q93.env (N:Nat):yA Tryz.prog (Q93.E N):=⟨.nil,(.cons (Q92.ent_ok N) .nil)⟩
theorem Q93.spec (N:Nat)(a c r:Int)(h:Q93.f N a c=some r):eA Tryz.prog 73 [.c (.int .i64 a),.c (.int .i64 c)] [] (.c (.int .i64 r)) ([]):=pA (Q93.env N) bA Tryz.func73 cA.n ((Q93.f_eq ..).trans h) fun v b e=>by unfold Q93.dec at e;split at e<;>cases e;exact⟨rfl,rfl⟩
theorem Q93.ent_ok (N:Nat):oA Tryz.prog 73 (Q93.ent N):=sA fun v a e h=>by split at h;exact nB (Q:=fun e=>eA _ _ _ _ (e a).pick.1 (e a).pick.2) h fun k=>Q93.spec N _ _ a k;cases h
noncomputable def Q94.l4 {R:Type}(N:Nat):Nat→Int→Int→Int→Int→Int→Int→Int→Int→Int→(Int→Int→Int→Int→Int→Int→Int→Int→Option R)→(Int→Int→Int→Option R)→Option R
 |0,_,_,_,_,_,_,_,_,_,_,_=>none
 |n+1,i,b,a,c,d,e,j,k,l,q,kr=>
  bif decide (a≤b)then
   (Q66.f N a (aA (b-a))).bind fun r=>
   bif r != 1 then
    Q94.l4 N n i b (aA (a+1)) c d e j k l q kr
   else
   (Q66.f N (aA ((aA ((aA ((aA (c*a))*a))+(aA ((aA (d*a))*(aA (b-a))))))+(aA ((aA (e*(aA (b-a))))*(aA (b-a)))))) i).bind fun s=>
   bif s != 1 then
    Q94.l4 N n i b (aA (a+1)) c d e j k l q kr
   else
   (Q53.f N a).bind fun m=>
   (Q53.f N (aA (b-a))).bind fun o=>
   (Q64.f N m.1 m.2 o.1 o.2).bind fun h=>
   (Q56.f N h.2.1 h.2.2.1).bind fun f=>
   (Q58.f N h.2.2.2.1 h.2.2.2.2).bind fun p=>
   (Q56.f N p.1 p.2).bind fun g=>
   kr (aA ((aA ((aA ((aA (c*a))*a))+(aA ((aA (d*a))*(aA (b-a))))))+(aA ((aA (e*(aA (b-a))))*(aA (b-a)))))) (aA ((aA ((aA ((aA ((aA (2*c))*a))*g.1))+(aA (d*(aA ((aA (a*f.1))+(aA (g.1*(aA (b-a))))))))))+(aA ((aA ((aA (2*e))*(aA (b-a))))*f.1)))) (aA ((aA ((aA ((aA (c*g.1))*g.1))+(aA ((aA (d*g.1))*f.1))))+(aA ((aA (e*f.1))*f.1))))
  else
  q i b c d e j k l
noncomputable def Q94.l3 {R:Type}(N:Nat):Nat→Int→Int→Int→Int→Int→Int→Int→Int→(Int→Int→Int→Option R)→Option R
 |0,_,_,_,_,_,_,_,_,_=>none
 |n+1,p,q,r,s,t,a,b,c,kr=>
  Q94.l4 N N p q 0 r s t a b c
   (fun d e f g h i j k=>
    Q94.l3 N n d (aA (e+1)) f g h i j k kr)
   (fun l m o=>
    kr l m o)
noncomputable def Q94.f (N:Nat)(d e f g:Int):Option (Int×Int×Int):=
 Q94.l3 N N g 1 d e f 0 0 0
  (fun a b c=>
   some (a,b,c))
noncomputable def Q94.h3:cC:=⟨[(1,.any),(2,.box [.any,.any,.any]),(4,.box [.any,.any,.any]),(5,.any)],[]⟩
noncomputable def Q94.h4:cC:=⟨[(1,.any),(2,.box [.any,.any,.any]),(4,.box [.any,.any,.any]),(5,.any),(6,.any)],[(1,.any),(2,.box [.any,.any,.any]),(4,.box [.any,.any,.any]),(5,.any)]⟩
noncomputable def Q94.c4 (N:Nat):nF:=⟨fun vs H k=>match vs,H with
 | [.c (.int .i64 a),.ptr 0 0 3,.ptr 1 0 3,.c (.int .i64 b),.c (.int .i64 c)],[.vals [.c (.int .i64 d),.c (.int .i64 e),.c (.int .i64 f)],.vals [.c (.int .i64 g),.c (.int .i64 h),.c (.int .i64 i)]]=>Q94.l4 N N a b c d e f g h i (fun o p q r s t u v=>k (.exit 2) ⟨fC Q94.h4.out [.c (.int .i64 o),.ptr 0 0 3,.ptr 1 0 3,.c (.int .i64 p)],[.vals [.c (.int .i64 q),.c (.int .i64 r),.c (.int .i64 s)],.vals [.c (.int .i64 t),.c (.int .i64 u),.c (.int .i64 v)]]⟩) (fun j l m=>k (.ret (.agg [.c (.int .i64 j),.c (.int .i64 l),.c (.int .i64 m)]) []) .nil)
 |_,_=>none⟩
noncomputable def Q94.c3 (N:Nat):nF:=⟨fun vs H k=>match vs,H with
 | [.c (.int .i64 g),.ptr 0 0 3,.ptr 1 0 3,.c (.int .i64 h)],[.vals [.c (.int .i64 i),.c (.int .i64 j),.c (.int .i64 l)],.vals [.c (.int .i64 a),.c (.int .i64 b),.c (.int .i64 c)]]=>Q94.l3 N N g h i j l a b c (fun d e f=>k (.ret (.agg [.c (.int .i64 d),.c (.int .i64 e),.c (.int .i64 f)]) []) .nil)
 |_,_=>none⟩
noncomputable def Q94.E (N:Nat):jC:=iD [(2,aN),(33,aG),(101,dJ)] [(90,Q66.ent N),(75,Q53.ent N),(91,Q64.ent N),(92,Q56.ent N),(93,Q58.ent N)] [(3,Q94.h3),(4,Q94.h4)] [(4,Q94.c4 N),(3,Q94.c3 N)] N [.cell 4 33] [.recd [.any,.any,.any]] 0 122
noncomputable def Q94.b4:Code:=nA ((dA (bo Tryz.f71)).getD 1 .skip)
theorem Q94.l4_eq {R:Type}(N n:Nat)(a b c d e f g h i:Int)(k:Ex→St→Option R):
  dB 0 Q94.h4 (fun s k=>bB (Q94.E N) 391 Q94.b4 s k) n [.c (.int .i64 a),.ptr 0 0 3,.ptr 1 0 3,.c (.int .i64 b),.c (.int .i64 c)] [.vals [.c (.int .i64 d),.c (.int .i64 e),.c (.int .i64 f)],.vals [.c (.int .i64 g),.c (.int .i64 h),.c (.int .i64 i)]] k=Q94.l4 N n a b c d e f g h i (fun o p q r t u v w=>k (.exit 2) ⟨fC Q94.h4.out [.c (.int .i64 o),.ptr 0 0 3,.ptr 1 0 3,.c (.int .i64 p)],[.vals [.c (.int .i64 q),.c (.int .i64 r),.c (.int .i64 t)],.vals [.c (.int .i64 u),.c (.int .i64 v),.c (.int .i64 w)]]⟩) (fun j l m=>k (.ret (.agg [.c (.int .i64 j),.c (.int .i64 l),.c (.int .i64 m)]) []) .nil):=by
 induction n generalizing a b c d e f g h i with
 |zero=>kernel_rfl
 |succ n ih=>
  simp only[Q94.l4,←ih]
  kernel_rfl
noncomputable def Q94.b3:Code:=nA ((dA (bo Tryz.f71)).getD 0 .skip)
theorem Q94.l3_eq {R:Type}(N n:Nat)(d h i j l a b c:Int)(k:Ex→St→Option R):
  dB 0 Q94.h3 (fun s k=>bB (Q94.E N) 396 Q94.b3 s k) n [.c (.int .i64 d),.ptr 0 0 3,.ptr 1 0 3,.c (.int .i64 h)] [.vals [.c (.int .i64 i),.c (.int .i64 j),.c (.int .i64 l)],.vals [.c (.int .i64 a),.c (.int .i64 b),.c (.int .i64 c)]] k=Q94.l3 N n d h i j l a b c (fun e f g=>k (.ret (.agg [.c (.int .i64 e),.c (.int .i64 f),.c (.int .i64 g)]) []) .nil):=by
 induction n generalizing d h i j l a b c with
 |zero=>kernel_rfl
 |succ n ih=>
  simp only[Q94.l3,←ih]
  kernel_rfl
noncomputable def Q94.dec (v:V)(bs:List rA):Option (Int×Int×Int):=match v,bs with
 | .agg [.c (.int .i64 a),.c (.int .i64 b),.c (.int .i64 c)],[]=>some (a,b,c)
 |_,_=>none
theorem Q94.f_eq (N:Nat)(a b c d:Int):
  aB (Q94.E N) (bo Tryz.f71) [.agg [.c (.int .i64 a),.c (.int .i64 b),.c (.int .i64 c)],.c (.int .i64 d)] [] Q94.dec=Q94.f N a b c d:=by kernel_rfl
noncomputable def Q94.ent (N:Nat):uA:=tD (Int×Int×Int) 0 [true,true] [.recd [.any,.any,.any],.any] fun
 | [.agg [.c (.int .i64 a),.c (.int .i64 b),.c (.int .i64 c)],.c (.int .i64 d)]=>some (Q94.f N a b c d,fun r=>.one (.agg [.c (.int .i64 r.1),.c (.int .i64 r.2.1),.c (.int .i64 r.2.2)]) [])
 |_=>none
theorem Q94.env (N:Nat):yA Tryz.prog (Q94.E N):=⟨(.cons nC (.cons xB (.cons jE .nil))),(.cons (Q66.ent_ok N) (.cons (Q53.ent_ok N) (.cons (Q64.ent_ok N) (.cons (Q56.ent_ok N) (.cons (Q58.ent_ok N) .nil)))))⟩
theorem Q94.k4 (N:Nat):gB Tryz.prog Tryz.f71 (Q94.E N) (.loop Q94.b4):=dC (Q94.env N) bA 391 (c:=Q94.c4 N) cA.n fun R vs H k r h=>by unfold Q94.c4 at h;dsimp only at h;split at h;exact⟨_,Q94.l4_eq .. ▸h⟩;cases h
theorem Q94.k3 (N:Nat):gB Tryz.prog Tryz.f71 (Q94.E N) (.loop Q94.b3):=dC (Q94.env N) bA 396 (c:=Q94.c3 N) (cA.of (l:=[(.loop (nA ((dA (bo Tryz.f71)).getD 1 .skip)))]) (by kernel_rfl) (cA.cons (Q94.k4 N) cA.nil)) fun R vs H k r h=>by unfold Q94.c3 at h;dsimp only at h;split at h;exact⟨_,Q94.l3_eq .. ▸h⟩;cases h
theorem Q94.spec (N:Nat)(a c d f:Int)(r:Int×Int×Int)(h:Q94.f N a c d f=some r):eA Tryz.prog 71 [.agg [.c (.int .i64 a),.c (.int .i64 c),.c (.int .i64 d)],.c (.int .i64 f)] [] (.agg [.c (.int .i64 r.1),.c (.int .i64 r.2.1),.c (.int .i64 r.2.2)]) ([]):=pA (Q94.env N) bA Tryz.func71 (cA.of (l:=[(.loop (nA ((dA (bo Tryz.f71)).getD 0 .skip))),(.loop (nA ((dA (bo Tryz.f71)).getD 1 .skip)))]) (by kernel_rfl) (cA.cons (Q94.k3 N) (cA.cons (Q94.k4 N) cA.nil))) ((Q94.f_eq ..).trans h) fun v b e=>by unfold Q94.dec at e;split at e<;>cases e;exact⟨rfl,rfl⟩
theorem Q94.ent_ok (N:Nat):oA Tryz.prog 71 (Q94.ent N):=sA fun v a e h=>by split at h;exact nB (Q:=fun e=>eA _ _ _ _ (e a).pick.1 (e a).pick.2) h fun k=>Q94.spec N _ _ _ _ a k;cases h
noncomputable def Q95.l2 {R:Type}(N:Nat):Nat→Int→Bool→List Int→Bool→List Int→Int→Int→Int→Bool→List Int→(Int→Int→Int→Option R)→Option R
 |0,_,_,_,_,_,_,_,_,_,_,_=>none
 |n+1,m,g,h,x10,x11,j,k,l,e,f,kr=>
  (Q53.f N 2).bind fun o=>
  (Q61.f N g h o.1 o.2).bind fun i=>
  (Q62.f N x10 x11 i.1 i.2).bind fun a=>
  (Q57.f N a.2.2.1 a.2.2.2 g h).bind fun r20=>
  bif decide (r20>0)then
   (Q60.f N a.2.2.1 a.2.2.2 i.1 i.2).bind fun b=>
   (Q61.f N b.1 b.2 b.1 b.2).bind fun p=>
   (Q53.f N m).bind fun q=>
   (Q60.f N p.1 p.2 q.1 q.2).bind fun r=>
   (Q61.f N e f g h).bind fun s=>
   (Q62.f N r.1 r.2 s.1 s.2).bind fun c=>
   (Q57.f N g h c.1 c.2.1).bind fun t=>
   bif decide (t<0)then
    (Q56.f N g h).bind fun r28=>
    (Q56.f N b.1 b.2).bind fun r29=>
    (Q56.f N c.1 c.2.1).bind fun r30=>
    kr r28.1 r29.1 r30.1
   else
   bif t==0 then
    (Q54.f N b.1 b.2).bind fun r34=>
    bif decide (r34≥0)then
     (Q56.f N g h).bind fun r35=>
     (Q56.f N b.1 b.2).bind fun r36=>
     (Q56.f N c.1 c.2.1).bind fun r37=>
     kr r35.1 r36.1 r37.1
    else
    (Q58.f N b.1 b.2).bind fun u=>
    Q95.l2 N n m c.1 c.2.1 u.1 u.2 j k l e f kr
   else
   (Q58.f N b.1 b.2).bind fun v=>
   Q95.l2 N n m c.1 c.2.1 v.1 v.2 j k l e f kr
  else
  (Q61.f N a.2.2.1 a.2.2.2 a.2.2.1 a.2.2.2).bind fun w=>
  (Q53.f N m).bind fun x=>
  (Q60.f N w.1 w.2 x.1 x.2).bind fun y=>
  (Q61.f N e f g h).bind fun z=>
  (Q62.f N y.1 y.2 z.1 z.2).bind fun d=>
  (Q57.f N g h d.1 d.2.1).bind fun r45=>
  bif decide (r45<0)then
   (Q56.f N g h).bind fun r46=>
   (Q56.f N a.2.2.1 a.2.2.2).bind fun r47=>
   (Q56.f N d.1 d.2.1).bind fun r48=>
   kr r46.1 r47.1 r48.1
  else
  bif r45==0 then
   (Q54.f N a.2.2.1 a.2.2.2).bind fun r49=>
   bif decide (r49≥0)then
    (Q56.f N g h).bind fun r50=>
    (Q56.f N a.2.2.1 a.2.2.2).bind fun r51=>
    (Q56.f N d.1 d.2.1).bind fun r52=>
    kr r50.1 r51.1 r52.1
   else
   (Q58.f N a.2.2.1 a.2.2.2).bind fun r53=>
   Q95.l2 N n m d.1 d.2.1 r53.1 r53.2 j k l e f kr
  else
  (Q58.f N a.2.2.1 a.2.2.2).bind fun r54=>
  Q95.l2 N n m d.1 d.2.1 r54.1 r54.2 j k l e f kr
noncomputable def Q95.f (N:Nat)(e:Bool)(f:List Int)(g:Bool)(h:List Int)(i:Int):Option (Int×Int×Int):=
 (Q53.f N 4).bind fun d=>
 Q95.l2 N N i e f g h 0 0 0 d.1 d.2
  (fun a b c=>
   some (a,b,c))
noncomputable def Q95.h2:cC:=⟨[(2,.any),(3,.box [.any,.il .u32 1]),(4,.box [.any,.il .u32 1]),(6,.box [.any,.any,.any]),(7,.box [.any,.il .u32 1])],[]⟩
noncomputable def Q95.c2 (N:Nat):nF:=⟨fun vs H k=>match vs,H with
 | [.c (.int .i64 l),.ptr 0 0 2,.ptr 1 0 2,.ptr 2 0 3,.ptr 3 0 2],[.vals [.c (.bool m),.il .u32 1 o],.vals [.c (.bool a),.il .u32 1 b],.vals [.c (.int .i64 c),.c (.int .i64 d),.c (.int .i64 e)],.vals [.c (.bool f),.il .u32 1 g]]=>Q95.l2 N N l m o a b c d e f g (fun h i j=>k (.ret (.agg [.c (.int .i64 h),.c (.int .i64 i),.c (.int .i64 j)]) []) .nil)
 |_,_=>none⟩
noncomputable def Q95.E (N:Nat):jC:=iD [(2,aN),(33,aG),(101,dJ)] [(75,Q53.ent N),(76,Q61.ent N),(101,Q62.ent N),(102,Q57.ent N),(103,Q60.ent N),(92,Q56.ent N),(104,Q54.ent N),(93,Q58.ent N)] [(2,Q95.h2)] [(2,Q95.c2 N)] N [.cell 6 33] [.recd [.any,.any,.any]] 0 87
noncomputable def Q95.b2:Code:=nA ((dA (bo Tryz.f77)).getD 0 .skip)
theorem Q95.l2_eq {R:Type}(N n:Nat)(l:Int)(m:Bool)(o:List Int)(a:Bool)(b:List Int)(c d e:Int)(f:Bool)(g:List Int)(k:Ex→St→Option R):
  dB 0 Q95.h2 (fun s k=>bB (Q95.E N) 396 Q95.b2 s k) n [.c (.int .i64 l),.ptr 0 0 2,.ptr 1 0 2,.ptr 2 0 3,.ptr 3 0 2] [.vals [.c (.bool m),.il .u32 1 o],.vals [.c (.bool a),.il .u32 1 b],.vals [.c (.int .i64 c),.c (.int .i64 d),.c (.int .i64 e)],.vals [.c (.bool f),.il .u32 1 g]] k=Q95.l2 N n l m o a b c d e f g (fun h i j=>k (.ret (.agg [.c (.int .i64 h),.c (.int .i64 i),.c (.int .i64 j)]) []) .nil):=by
 induction n generalizing l m o a b c d e f g with
 |zero=>kernel_rfl
 |succ n ih=>
  simp only[Q95.l2,←ih]
  kernel_rfl
noncomputable def Q95.dec (v:V)(bs:List rA):Option (Int×Int×Int):=match v,bs with
 | .agg [.c (.int .i64 a),.c (.int .i64 b),.c (.int .i64 c)],[]=>some (a,b,c)
 |_,_=>none
theorem Q95.f_eq (N:Nat)(a:Bool)(b:List Int)(c:Bool)(d:List Int)(e:Int):
  aB (Q95.E N) (bo Tryz.f77) [.agg [.c (.bool a),.il .u32 1 b],.agg [.c (.bool c),.il .u32 1 d],.c (.int .i64 e)] [] Q95.dec=Q95.f N a b c d e:=by kernel_rfl
noncomputable def Q95.ent (N:Nat):uA:=tD (Int×Int×Int) 0 [true,true,true] [.recd [.any,.il .u32 1],.recd [.any,.il .u32 1],.any] fun
 | [.agg [.c (.bool a),.il .u32 1 b],.agg [.c (.bool c),.il .u32 1 d],.c (.int .i64 e)]=>some (Q95.f N a b c d e,fun r=>.one (.agg [.c (.int .i64 r.1),.c (.int .i64 r.2.1),.c (.int .i64 r.2.2)]) [])
 |_=>none
theorem Q95.env (N:Nat):yA Tryz.prog (Q95.E N):=⟨(.cons nC (.cons xB (.cons jE .nil))),(.cons (Q53.ent_ok N) (.cons (Q61.ent_ok N) (.cons (Q62.ent_ok N) (.cons (Q57.ent_ok N) (.cons (Q60.ent_ok N) (.cons (Q56.ent_ok N) (.cons (Q54.ent_ok N) (.cons (Q58.ent_ok N) .nil))))))))⟩
theorem Q95.k2 (N:Nat):gB Tryz.prog Tryz.f77 (Q95.E N) (.loop Q95.b2):=dC (Q95.env N) bA 396 (c:=Q95.c2 N) cA.n fun R vs H k r h=>by unfold Q95.c2 at h;dsimp only at h;split at h;exact⟨_,Q95.l2_eq .. ▸h⟩;cases h
theorem Q95.spec (N:Nat)(a:Bool)(c:List Int)(d:Bool)(f:List Int)(g:Int)(r:Int×Int×Int)(h:Q95.f N a c d f g=some r):eA Tryz.prog 77 [.agg [.c (.bool a),.il .u32 1 c],.agg [.c (.bool d),.il .u32 1 f],.c (.int .i64 g)] [] (.agg [.c (.int .i64 r.1),.c (.int .i64 r.2.1),.c (.int .i64 r.2.2)]) ([]):=pA (Q95.env N) bA Tryz.func77 (cA.of (l:=[(.loop (nA ((dA (bo Tryz.f77)).getD 0 .skip)))]) (by kernel_rfl) (cA.cons (Q95.k2 N) cA.nil)) ((Q95.f_eq ..).trans h) fun v b e=>by unfold Q95.dec at e;split at e<;>cases e;exact⟨rfl,rfl⟩
theorem Q95.ent_ok (N:Nat):oA Tryz.prog 77 (Q95.ent N):=sA fun v a e h=>by split at h;exact nB (Q:=fun e=>eA _ _ _ _ (e a).pick.1 (e a).pick.2) h fun k=>Q95.spec N _ _ _ _ _ a k;cases h
noncomputable def Q96.f (N:Nat)(b l p q r s:Int):Option (Int×Int×Int):=
 (Q94.f N q r s b).bind fun k=>
 (Q69.f N b l p).bind fun t=>
 (Q65.f N (aA (Int.tdiv (aA (k.2.1-l)) 2)) k.1).bind fun u=>
 (Q93.f N b k.1).bind fun m=>
 (Q90.f N u m k.1).bind fun o=>
 (Q53.f N l).bind fun c=>
 (Q53.f N (aA (2*b))).bind fun d=>
 (Q53.f N o).bind fun e=>
 (Q61.f N d.1 d.2 e.1 e.2).bind fun f=>
 (Q59.f N c.1 c.2 f.1 f.2).bind fun g=>
 (Q53.f N b).bind fun h=>
 (Q53.f N k.1).bind fun i=>
 (Q61.f N h.1 h.2 i.1 i.2).bind fun j=>
 (Q95.f N j.1 j.2 g.1 g.2 t).bind fun a=>
 some (a.1,a.2.1,a.2.2)
noncomputable def Q96.E (N:Nat):jC:=iD [(2,aN),(33,aG),(101,dJ)] [(71,Q94.ent N),(52,Q69.ent N),(69,Q65.ent N),(73,Q93.ent N),(72,Q90.ent N),(75,Q53.ent N),(76,Q61.ent N),(74,Q59.ent N),(77,Q95.ent N)] [] [] N [.cell 4 33] [.recd [.any,.any,.any]] 0 55
noncomputable def Q96.dec (v:V)(bs:List rA):Option (Int×Int×Int):=match v,bs with
 | .agg [.c (.int .i64 a),.c (.int .i64 b),.c (.int .i64 c)],[]=>some (a,b,c)
 |_,_=>none
theorem Q96.f_eq (N:Nat)(a b c d e f:Int):
  aB (Q96.E N) (bo Tryz.f53) [.agg [.c (.int .i64 a),.c (.int .i64 b),.c (.int .i64 c)],.agg [.c (.int .i64 d),.c (.int .i64 e),.c (.int .i64 f)]] [] Q96.dec=Q96.f N a b c d e f:=by kernel_rfl
noncomputable def Q96.ent (N:Nat):uA:=tD (Int×Int×Int) 0 [true,true] [.recd [.any,.any,.any],.recd [.any,.any,.any]] fun
 | [.agg [.c (.int .i64 a),.c (.int .i64 b),.c (.int .i64 c)],.agg [.c (.int .i64 d),.c (.int .i64 e),.c (.int .i64 f)]]=>some (Q96.f N a b c d e f,fun r=>.one (.agg [.c (.int .i64 r.1),.c (.int .i64 r.2.1),.c (.int .i64 r.2.2)]) [])
 |_=>none
theorem Q96.env (N:Nat):yA Tryz.prog (Q96.E N):=⟨(.cons nC (.cons xB (.cons jE .nil))),(.cons (Q94.ent_ok N) (.cons (Q69.ent_ok N) (.cons (Q65.ent_ok N) (.cons (Q93.ent_ok N) (.cons (Q90.ent_ok N) (.cons (Q53.ent_ok N) (.cons (Q61.ent_ok N) (.cons (Q59.ent_ok N) (.cons (Q95.ent_ok N) .nil)))))))))⟩
theorem Q96.spec (N:Nat)(a c d f g i:Int)(r:Int×Int×Int)(h:Q96.f N a c d f g i=some r):eA Tryz.prog 53 [.agg [.c (.int .i64 a),.c (.int .i64 c),.c (.int .i64 d)],.agg [.c (.int .i64 f),.c (.int .i64 g),.c (.int .i64 i)]] [] (.agg [.c (.int .i64 r.1),.c (.int .i64 r.2.1),.c (.int .i64 r.2.2)]) ([]):=pA (Q96.env N) bA Tryz.func53 cA.n ((Q96.f_eq ..).trans h) fun v b e=>by unfold Q96.dec at e;split at e<;>cases e;exact⟨rfl,rfl⟩
theorem Q96.ent_ok (N:Nat):oA Tryz.prog 53 (Q96.ent N):=sA fun v a e h=>by split at h;exact nB (Q:=fun e=>eA _ _ _ _ (e a).pick.1 (e a).pick.2) h fun k=>Q96.spec N _ _ _ _ _ _ a k;cases h
noncomputable def Q97.f (N:Nat)(b c d:Int):Option (Int×Int×Int×Int):=
 (Q73.f N b c d).bind fun a=>
 bif a.2.2.2.2.2.2.2 != 0 then
  some (a.1,a.2.1,a.2.2.1,a.2.2.2.2.2.2.2)
 else
 (Q74.f N b c d).bind fun e=>
 bif e != 1 then
  some (0,0,0,81)
 else
 some (a.1,a.2.1,a.2.2.1,0)
noncomputable def Q98.f (N:Nat)(b c d:Int):Option (Int×Int×Int):=
 (Q73.f N b (aA (0-c)) d).bind fun a=>
 some (a.1,a.2.1,a.2.2.1)
noncomputable def Q99.f (N:Nat)(c d e:Int):Option (Int×Int×Int×Int):=
 (Q97.f N c d e).bind fun a=>
 bif a.2.2.2 != 0 then
  some (0,0,0,a.2.2.2)
 else
 (Q98.f N a.1 a.2.1 a.2.2.1).bind fun b=>
 some (b.1,b.2.1,b.2.2,0)
end Go.Proofs.YtjpdjdhdchjcgaaGreat
