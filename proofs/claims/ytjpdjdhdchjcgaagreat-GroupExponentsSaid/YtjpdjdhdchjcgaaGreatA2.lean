import Derived.Test.YtjpdjdhdchjcgaaGreatA1
import Derived.Test.YtjpdjdhdchjcgaaGreatProg
import Derived.KernelRfl
import Derived.Shelf.SlSortCmp.NoneTotal
import Derived.Shelf.SlGeneric
open Array renaming getElem?_append_left→hA,eq_empty_of_size_eq_zero→iA,getElem?_modify→hC
open Bool renaming not_eq_false'→zA
open List renaming pairwise_cons→hB,length_cons→iB,getElem?_cons_succ→zB
set_option linter.unusedVariables false
set_option linter.unusedSimpArgs false
namespace Go.Proofs.YtjpdjdhdchjcgaaGreat
open Go.Proofs.YtjpdjdhdchjcgaaGreat.Ev
open Go
set_option maxRecDepth 100000
def cI:ByteArray:=⟨#[0,1,2,2,3,3,3,3,4,4,4,4,4,4,4,4,5,5,5,5,5,5,5,5,5,5,5,5,5,5,5,5,6,6,6,6,6,6,6,6,6,6,6,6,6,6,6,6,6,6,6,6,6,6,6,6,6,6,6,6,6,6,6,6,7,7,7,7,7,7,7,7,7,7,7,7,7,7,7,7,7,7,7,7,7,7,7,7,7,7,7,7,7,7,7,7,7,7,7,7,7,7,7,7,7,7,7,7,7,7,7,7,7,7,7,7,7,7,7,7,7,7,7,7,7,7,7,7,8,8,8,8,8,8,8,8,8,8,8,8,8,8,8,8,8,8,8,8,8,8,8,8,8,8,8,8,8,8,8,8,8,8,8,8,8,8,8,8,8,8,8,8,8,8,8,8,8,8,8,8,8,8,8,8,8,8,8,8,8,8,8,8,8,8,8,8,8,8,8,8,8,8,8,8,8,8,8,8,8,8,8,8,8,8,8,8,8,8,8,8,8,8,8,8,8,8,8,8,8,8,8,8,8,8,8,8,8,8,8,8,8,8,8,8,8,8,8,8,8,8,8,8,8,8,8,8]⟩
noncomputable def Cn:TI:=⟨.int .i64,1,8,[.int .i64 0]⟩
noncomputable def Hs:TI:=⟨.int .u8,1,1,[.int .u8 0]⟩
noncomputable def Ht:TI:=⟨.str,1,16,[.string ByteArray.empty]⟩
noncomputable def fQ:TI:=⟨.int .u64,1,8,[.int .u64 0]⟩
noncomputable def aO:TI:=⟨.slice 143,1,24,[.slice none 0 0]⟩
noncomputable def hF:TI:=⟨.struct [(98,0)],1,24,[.slice none 0 0]⟩
noncomputable def zI:TI:=⟨.int .u32,1,4,[.int .u32 0]⟩
theorem bA:Tryz.prog.follows .mixedOrders=true:=by kernel_rfl
theorem yL:tC Tryz.prog 3 Cn:=aD (by kernel_rfl) (by kernel_rfl) (by kernel_rfl) (by kernel_rfl) (by kernel_rfl) (by kernel_rfl) (by kernel_rfl) (Tryz.underlying3) (by kernel_rfl)
theorem Co:tC Tryz.prog 5 Hs:=aD (by kernel_rfl) (by kernel_rfl) (by kernel_rfl) (by kernel_rfl) (by kernel_rfl) (by kernel_rfl) (by kernel_rfl) (Tryz.underlying5) (by kernel_rfl)
theorem Cr:tC Tryz.prog 9 Ht:=aD (by kernel_rfl) (by kernel_rfl) (by kernel_rfl) (by kernel_rfl) (by kernel_rfl) (by kernel_rfl) (by kernel_rfl) (Tryz.underlying9) (by kernel_rfl)
theorem qF:tC Tryz.prog 78 fQ:=aD (by kernel_rfl) (by kernel_rfl) (by kernel_rfl) (by kernel_rfl) (by kernel_rfl) (by kernel_rfl) (by kernel_rfl) (Tryz.underlying78) (by kernel_rfl)
theorem oE:tC Tryz.prog 98 aO:=aD (by kernel_rfl) (by kernel_rfl) (by kernel_rfl) (by kernel_rfl) (by kernel_rfl) (by kernel_rfl) (by kernel_rfl) (Tryz.underlying98) (by kernel_rfl)
theorem iC:tC Tryz.prog 110 hF:=aD (by kernel_rfl) (by kernel_rfl) (by kernel_rfl) (by kernel_rfl) (by kernel_rfl) (by kernel_rfl) (by kernel_rfl) (oI Tryz.underlying110 (by kernel_rfl) (by kernel_rfl)) (by kernel_rfl)
theorem bE:tC Tryz.prog 143 zI:=aD (by kernel_rfl) (by kernel_rfl) (by kernel_rfl) (by kernel_rfl) (by kernel_rfl) (by kernel_rfl) (by kernel_rfl) (Tryz.underlying143) (by kernel_rfl)
noncomputable def Q0.f (N:Nat)(a:Int):Option (Int):=
 bif decide (a≥65536)then
  bif decide ((Int.fdiv a (2^16))≥256)then
   bif (decide (0≤(wM (Int.fdiv (Int.fdiv a (2^16)) (2^8)))))&&(decide ((wM (Int.fdiv (Int.fdiv a (2^16)) (2^8)))<(cI.size:Int)))then
    some (aA (24+(aA (aG cI ((wM (Int.fdiv (Int.fdiv a (2^16)) (2^8))).toNat)))))
   else none
  else
  bif (decide (0≤(wM (Int.fdiv a (2^16)))))&&(decide ((wM (Int.fdiv a (2^16)))<(cI.size:Int)))then
   some (aA (16+(aA (aG cI ((wM (Int.fdiv a (2^16))).toNat)))))
  else none
 else
 bif decide (a≥256)then
  bif (decide (0≤(wM (Int.fdiv a (2^8)))))&&(decide ((wM (Int.fdiv a (2^8)))<(cI.size:Int)))then
   some (aA (8+(aA (aG cI ((wM (Int.fdiv a (2^8))).toNat)))))
  else none
 else
 bif (decide (0≤(wM a)))&&(decide ((wM a)<(cI.size:Int)))then
  some (aA (0+(aA (aG cI ((wM a).toNat)))))
 else none
noncomputable def Q0.E (N:Nat):bD:=bF [(3,Cn),(5,Hs),(9,Ht),(143,zI)] [] [] [] N [.tmp 2] [.any] 0 19
noncomputable def Q0.dec (v:V)(bs:List rA):Option (Int):=match v,bs with
 | .c (.int .i64 a),[]=>some a
 |_,_=>none
theorem Q0.f_eq (N:Nat)(a:Int):
  cB (Q0.E N) (bo Tryz.f115) [.c (.int .u32 a)] [] Q0.dec=Q0.f N a:=by kernel_rfl
noncomputable def Q0.ent (N:Nat):xA:=wF (Int) 0 [true] [.any] fun
 | [.c (.int .u32 a)]=>some (Q0.f N a,fun r=>.one (.c (.int .i64 r)) [])
 |_=>none
theorem Q0.env (N:Nat):aB Tryz.prog (Q0.E N):=⟨(.cons yL (.cons Co (.cons Cr (.cons bE .nil)))),.nil⟩
theorem Q0.spec (N:Nat)(a r:Int)(h:Q0.f N a=some r):fA Tryz.prog 115 [.c (.int .u32 a)] [] (.c (.int .i64 r)) ([]):=vA (Q0.env N) bA Tryz.func115 dA.n ((Q0.f_eq ..).trans h) fun v b e=>by unfold Q0.dec at e;split at e<;>cases e;exact⟨rfl,rfl⟩
theorem Q0.ent_ok (N:Nat):uA Tryz.prog 115 (Q0.ent N):=yA fun v a e h=>by split at h;exact nC (Q:=fun e=>fA _ _ _ _ (e a).pick.1 (e a).pick.2) h fun k=>Q0.spec N _ a k;cases h
noncomputable def Q1.f (N:Nat)(a b c:Int):Option (Int×Int):=
 some (nB ((nB (a-b))-c),Int.fdiv (wD .u32 (gC .u32 (jW .u32 4294967295 a) b) (gC .u32 (jW .u32 4294967295 (jW .u32 a b)) (nB ((nB (a-b))-c)))) (2^31))
noncomputable def Q1.E (N:Nat):bD:=bF [] [] [] [] N [.tmp 6,.tmp 7] [.any,.any] 0 25
noncomputable def Q1.dec (v:V)(bs:List rA):Option (Int×Int):=match v,bs with
 | .tup [.c (.int .u32 a),.c (.int .u32 b)],[]=>some (a,b)
 |_,_=>none
theorem Q1.f_eq (N:Nat)(a b c:Int):
  cB (Q1.E N) (bo Tryz.f172) [.c (.int .u32 a),.c (.int .u32 b),.c (.int .u32 c)] [] Q1.dec=Q1.f N a b c:=by kernel_rfl
noncomputable def Q1.ent (N:Nat):xA:=wF (Int×Int) 0 [true,true,true] [.any,.any,.any] fun
 | [.c (.int .u32 a),.c (.int .u32 b),.c (.int .u32 c)]=>some (Q1.f N a b c,fun r=>.one (.tup [.c (.int .u32 r.1),.c (.int .u32 r.2)]) [])
 |_=>none
theorem Q1.env (N:Nat):aB Tryz.prog (Q1.E N):=⟨.nil,.nil⟩
theorem Q1.spec (N:Nat)(a c d:Int)(r:Int×Int)(h:Q1.f N a c d=some r):fA Tryz.prog 172 [.c (.int .u32 a),.c (.int .u32 c),.c (.int .u32 d)] [] (.tup [.c (.int .u32 r.1),.c (.int .u32 r.2)]) ([]):=vA (Q1.env N) bA Tryz.func172 dA.n ((Q1.f_eq ..).trans h) fun v b e=>by unfold Q1.dec at e;split at e<;>cases e;exact⟨rfl,rfl⟩
theorem Q1.ent_ok (N:Nat):uA Tryz.prog 172 (Q1.ent N):=yA fun v a e h=>by split at h;exact nC (Q:=fun e=>fA _ _ _ _ (e a).pick.1 (e a).pick.2) h fun k=>Q1.spec N _ _ _ a k;cases h
noncomputable def Q2.l2 {R:Type}(N:Nat):Nat→Nat→Nat→Int→List Int→(Nat→Nat→Int→List Int→Option R)→Option R
 |0,_,_,_,_,_=>none
 |n+1,b,c,a,d,e=>
  bif decide (a>0)then
   bif (decide (0≤(aA (a-1))))&&(decide ((aA (a-1))<(c:Int)))then
    bif (d.getD (b+((aA (a-1)).toNat)) 0)==0 then
     Q2.l2 N n b c (aA (a-1)) d e
    else
    e b c a d
   else none
  else
  e b c a d
noncomputable def Q2.f (N f e:Nat)(g:List Int):Option (Nat×Nat×List Int):=
 Q2.l2 N N f e (e:Int) g
  (fun b c a d=>
   bif ((decide (0≤a))&&(decide (a≤a)))&&(decide (a≤(c:Int)))then
    some (b,a.toNat,d)
   else none)
noncomputable def Q2.h2:eD:=⟨[(0,.any),(2,.box [.any]),(3,.any)],[(0,.any),(2,.box [.any]),(3,.any)]⟩
noncomputable def Q2.c2 (N:Nat):xH:=⟨fun vs H k=>match vs,H with
 | [.sl 0 1 c d,.ptr 1 0 1,.c (.int .i64 e)],[.ints .u32 f,.vals [.c (.slice none 0 0)]]=>Q2.l2 N N c d e f (fun g h a b=>k (.exit 0) ⟨dD Q2.h2.out [.sl 0 1 g h,.ptr 1 0 1,.c (.int .i64 a)],[.ints .u32 b,.vals [.c (.slice none 0 0)]]⟩)
 |_,_=>none⟩
noncomputable def Q2.E (N:Nat):bD:=bF [(98,aO),(110,hF),(143,zI)] [] [(2,Q2.h2)] [(2,Q2.c2 N)] N [.cell 2 110] [.recd [.any]] 1 23
noncomputable def Q2.b2:Code:=sA ((eA (bo Tryz.f152)).getD 0 .skip)
theorem Q2.l2_eq {R:Type}(N n c d:Nat)(e:Int)(f:List Int)(k:Ex→St→Option R):
  jB 1 Q2.h2 (fun s k=>bB (Q2.E N) 395 Q2.b2 s k) n [.sl 0 1 c d,.ptr 1 0 1,.c (.int .i64 e)] [.ints .u32 f,.vals [.c (.slice none 0 0)]] k=Q2.l2 N n c d e f (fun g h a b=>k (.exit 0) ⟨dD Q2.h2.out [.sl 0 1 g h,.ptr 1 0 1,.c (.int .i64 a)],[.ints .u32 b,.vals [.c (.slice none 0 0)]]⟩):=by
 induction n generalizing c d e f with
 |zero=>kernel_rfl
 |succ n ih=>
  simp only[Q2.l2,←ih]
  kernel_rfl
noncomputable def Q2.dec (v:V)(bs:List rA):Option (Nat×Nat×List Int):=match v,bs with
 | .agg [.sl 0 1 a b],[.ints .u32 c]=>some (a,b,c)
 |_,_=>none
theorem Q2.f_eq (N a b:Nat)(c:List Int):
  cB (Q2.E N) (bo Tryz.f152) [.sl 0 1 a b] [.ints .u32 c] Q2.dec=Q2.f N a b c:=by kernel_rfl
noncomputable def Q2.ent (N:Nat):xA:={A:=Nat×Nat×List Int,fresh:=0,imm:=[false],dec:=fun args bs=>match xF (nA bs) [true] args,bs with
 | [.sl 0 1 a b],[.ints .u32 c]=>some (Q2.f N a b c,fun r=>.one (.agg [.sl 0 1 r.1 r.2.1]) [.ints .u32 r.2.2])
 |_,_=>none}
theorem Q2.env (N:Nat):aB Tryz.prog (Q2.E N):=⟨(.cons oE (.cons iC (.cons bE .nil))),.nil⟩
theorem Q2.k2 (N:Nat):xB Tryz.prog Tryz.f152 (Q2.E N) (.loop Q2.b2):=gD (Q2.env N) bA 395 (c:=Q2.c2 N) dA.n fun R vs H k r h=>by unfold Q2.c2 at h;dsimp only at h;split at h;exact⟨_,Q2.l2_eq .. ▸h⟩;cases h
theorem Q2.spec (N a c:Nat)(d:List Int)(r:Nat×Nat×List Int)(h:Q2.f N a c d=some r):fA Tryz.prog 152 [.sl 0 1 a c] [.ints .u32 d] (.agg [.sl 0 1 r.1 r.2.1]) ([.ints .u32 r.2.2]):=vA (Q2.env N) bA Tryz.func152 (dA.of (l:=[(.loop (sA ((eA (bo Tryz.f152)).getD 0 .skip)))]) (by kernel_rfl) (dA.cons (Q2.k2 N) dA.nil)) ((Q2.f_eq ..).trans h) fun v b e=>by unfold Q2.dec at e;split at e<;>cases e;exact⟨rfl,rfl⟩
theorem Q2.ent_ok (N:Nat):uA Tryz.prog 152 (Q2.ent N):=by
 intro args bs a enc h;simp only[Q2.ent]at h;split at h
 ·rename_i hz;have h0:=Option.some.inj h;have h1:=congrArg Prod.fst h0;have h2:=congrArg Prod.snd h0;dsimp only at h1 h2;subst h2;exact fA.of_asSl (fl:=[true]) (by rw[hz];exact Q2.spec N _ _ _ a h1)
 ·cases h
noncomputable def Q3.f (N:Nat)(a:List Int):Option (Int):=
 bif (a.length:Int)==0 then
  some 0
 else
 bif (decide (0≤(aA ((a.length:Int)-1))))&&(decide ((aA ((a.length:Int)-1))<(a.length:Int)))then
  (Q0.f N (a.getD ((aA ((a.length:Int)-1)).toNat) 0)).bind fun b=>
  some (aA ((aA (32*(aA ((a.length:Int)-1))))+b))
 else none
noncomputable def Q3.E (N:Nat):bD:=bF [(98,aO),(110,hF),(143,zI)] [(115,Q0.ent N)] [] [] N [.tmp 2] [.any] 0 22
noncomputable def Q3.dec (v:V)(bs:List rA):Option (Int):=match v,bs with
 | .c (.int .i64 a),[]=>some a
 |_,_=>none
theorem Q3.f_eq (N:Nat)(a:List Int):
  cB (Q3.E N) (bo Tryz.f123) [.agg [.il .u32 1 a]] [] Q3.dec=Q3.f N a:=by kernel_rfl
noncomputable def Q3.ent (N:Nat):xA:=wF (Int) 0 [true] [.recd [.il .u32 1]] fun
 | [.agg [.il .u32 1 a]]=>some (Q3.f N a,fun r=>.one (.c (.int .i64 r)) [])
 |_=>none
theorem Q3.env (N:Nat):aB Tryz.prog (Q3.E N):=⟨(.cons oE (.cons iC (.cons bE .nil))),(.cons (Q0.ent_ok N) .nil)⟩
theorem Q3.spec (N:Nat)(a:List Int)(r:Int)(h:Q3.f N a=some r):fA Tryz.prog 123 [.agg [.il .u32 1 a]] [] (.c (.int .i64 r)) ([]):=vA (Q3.env N) bA Tryz.func123 dA.n ((Q3.f_eq ..).trans h) fun v b e=>by unfold Q3.dec at e;split at e<;>cases e;exact⟨rfl,rfl⟩
theorem Q3.ent_ok (N:Nat):uA Tryz.prog 123 (Q3.ent N):=yA fun v a e h=>by split at h;exact nC (Q:=fun e=>fA _ _ _ _ (e a).pick.1 (e a).pick.2) h fun k=>Q3.spec N _ a k;cases h
noncomputable def Q4.f (N:Nat)(a:List Int):Option (List Int×Int):=
 (Q3.f N a).bind fun b=>
 bif decide (b>4096)then
  some ([],3)
 else
 some (a,0)
noncomputable def Q4.E (N:Nat):bD:=bF [(98,aO),(110,hF)] [(123,Q3.ent N)] [] [] N [.cell 2 110,.tmp 3] [.recd [.il .u32 1],.any] 0 9
noncomputable def Q4.dec (v:V)(bs:List rA):Option (List Int×Int):=match v,bs with
 | .tup [.agg [.il .u32 1 a],.c (.int .i64 b)],[]=>some (a,b)
 |_,_=>none
theorem Q4.f_eq (N:Nat)(a:List Int):
  cB (Q4.E N) (bo Tryz.f170) [.agg [.il .u32 1 a]] [] Q4.dec=Q4.f N a:=by kernel_rfl
noncomputable def Q4.ent (N:Nat):xA:=wF (List Int×Int) 0 [true] [.recd [.il .u32 1]] fun
 | [.agg [.il .u32 1 a]]=>some (Q4.f N a,fun r=>.one (.tup [.agg [.il .u32 1 r.1],.c (.int .i64 r.2)]) [])
 |_=>none
theorem Q4.env (N:Nat):aB Tryz.prog (Q4.E N):=⟨(.cons oE (.cons iC .nil)),(.cons (Q3.ent_ok N) .nil)⟩
theorem Q4.spec (N:Nat)(a:List Int)(r:List Int×Int)(h:Q4.f N a=some r):fA Tryz.prog 170 [.agg [.il .u32 1 a]] [] (.tup [.agg [.il .u32 1 r.1],.c (.int .i64 r.2)]) ([]):=vA (Q4.env N) bA Tryz.func170 dA.n ((Q4.f_eq ..).trans h) fun v b e=>by unfold Q4.dec at e;split at e<;>cases e;exact⟨rfl,rfl⟩
theorem Q4.ent_ok (N:Nat):uA Tryz.prog 170 (Q4.ent N):=yA fun v a e h=>by split at h;exact nC (Q:=fun e=>fA _ _ _ _ (e a).pick.1 (e a).pick.2) h fun k=>Q4.spec N _ a k;cases h
noncomputable def Q5.f (N:Nat)(b:Int):Option (List Int):=
 (Q2.f N 0 2 [nB b,nB (Int.fdiv b (2^32))]).bind fun a=>
 some ((a.2.2.drop a.1).take a.2.1)
noncomputable def Q5.E (N:Nat):bD:=bF [(78,fQ),(98,aO),(110,hF),(143,zI)] [(152,Q2.ent N)] [] [] N [.cell 2 110] [.recd [.il .u32 1]] 0 10
noncomputable def Q5.dec (v:V)(bs:List rA):Option (List Int):=match v,bs with
 | .agg [.il .u32 1 a],[]=>some a
 |_,_=>none
theorem Q5.f_eq (N:Nat)(a:Int):
  cB (Q5.E N) (bo Tryz.f122) [.c (.int .u64 a)] [] Q5.dec=Q5.f N a:=by kernel_rfl
noncomputable def Q5.ent (N:Nat):xA:=wF (List Int) 0 [true] [.any] fun
 | [.c (.int .u64 a)]=>some (Q5.f N a,fun r=>.one (.agg [.il .u32 1 r]) [])
 |_=>none
theorem Q5.env (N:Nat):aB Tryz.prog (Q5.E N):=⟨(.cons qF (.cons oE (.cons iC (.cons bE .nil)))),(.cons (Q2.ent_ok N) .nil)⟩
theorem Q5.spec (N:Nat)(a:Int)(r:List Int)(h:Q5.f N a=some r):fA Tryz.prog 122 [.c (.int .u64 a)] [] (.agg [.il .u32 1 r]) ([]):=vA (Q5.env N) bA Tryz.func122 dA.n ((Q5.f_eq ..).trans h) fun v b e=>by unfold Q5.dec at e;split at e<;>cases e;exact⟨rfl,rfl⟩
theorem Q5.ent_ok (N:Nat):uA Tryz.prog 122 (Q5.ent N):=yA fun v a e h=>by split at h;exact nC (Q:=fun e=>fA _ _ _ _ (e a).pick.1 (e a).pick.2) h fun k=>Q5.spec N _ a k;cases h
noncomputable def Q6.f (N:Nat)(a:List Int):Option (Int×Bool):=
 bif (a.length:Int)==0 then
  some (0,true)
 else
 bif (a.length:Int)==1 then
  bif decide (0<(a.length:Int))then
   some (gA (a.getD 0 0),true)
  else none
 else
 bif (a.length:Int)==2 then
  bif decide (1<(a.length:Int))then
   bif decide (0<(a.length:Int))then
    some (wD .u64 (gA ((gA (a.getD 1 0))*2^32)) (gA (a.getD 0 0)),true)
   else none
  else none
 else
 some (0,false)
noncomputable def Q6.E (N:Nat):bD:=bF [(78,fQ),(98,aO),(110,hF),(143,zI)] [] [] [] N [.tmp 2,.tmp 3] [.any,.any] 0 30
noncomputable def Q6.dec (v:V)(bs:List rA):Option (Int×Bool):=match v,bs with
 | .tup [.c (.int .u64 a),.c (.bool b)],[]=>some (a,b)
 |_,_=>none
theorem Q6.f_eq (N:Nat)(a:List Int):
  cB (Q6.E N) (bo Tryz.f124) [.agg [.il .u32 1 a]] [] Q6.dec=Q6.f N a:=by kernel_rfl
noncomputable def Q6.ent (N:Nat):xA:=wF (Int×Bool) 0 [true] [.recd [.il .u32 1]] fun
 | [.agg [.il .u32 1 a]]=>some (Q6.f N a,fun r=>.one (.tup [.c (.int .u64 r.1),.c (.bool r.2)]) [])
 |_=>none
theorem Q6.env (N:Nat):aB Tryz.prog (Q6.E N):=⟨(.cons qF (.cons oE (.cons iC (.cons bE .nil)))),.nil⟩
theorem Q6.spec (N:Nat)(a:List Int)(r:Int×Bool)(h:Q6.f N a=some r):fA Tryz.prog 124 [.agg [.il .u32 1 a]] [] (.tup [.c (.int .u64 r.1),.c (.bool r.2)]) ([]):=vA (Q6.env N) bA Tryz.func124 dA.n ((Q6.f_eq ..).trans h) fun v b e=>by unfold Q6.dec at e;split at e<;>cases e;exact⟨rfl,rfl⟩
theorem Q6.ent_ok (N:Nat):uA Tryz.prog 124 (Q6.ent N):=yA fun v a e h=>by split at h;exact nC (Q:=fun e=>fA _ _ _ _ (e a).pick.1 (e a).pick.2) h fun k=>Q6.spec N _ a k;cases h
noncomputable def Q7.l6 {R:Type}(N:Nat):Nat→Int→List Int→List Int→(Unit→Option R)→(Int→Option R)→Option R
 |0,_,_,_,_,_=>none
 |n+1,a,b,c,d,kr=>
  bif decide (a≥0)then
   bif (decide (0≤a))&&(decide (a<(b.length:Int)))then
    bif (decide (0≤a))&&(decide (a<(c.length:Int)))then
     bif decide ((b.getD a.toNat 0)<(c.getD a.toNat 0))then
      kr (-1)
     else
     bif (decide (0≤a))&&(decide (a<(b.length:Int)))then
      bif (decide (0≤a))&&(decide (a<(c.length:Int)))then
       bif decide ((b.getD a.toNat 0)>(c.getD a.toNat 0))then
        kr 1
       else
       Q7.l6 N n (aA (a-1)) b c d kr
      else none
     else none
    else none
   else none
  else
  d ()
noncomputable def Q7.f (N:Nat)(a b:List Int):Option (Int):=
 bif (a.length:Int) != (b.length:Int)then
  bif decide ((a.length:Int)<(b.length:Int))then
   some (-1)
  else
  some 1
 else
 Q7.l6 N N (aA ((a.length:Int)-1)) a b
  (fun(_:Unit)=>
   some 0)
  (fun c=>
   some c)
noncomputable def Q7.h6:eD:=⟨[(2,.box [.il .u32 1]),(3,.box [.il .u32 1]),(5,.any)],[]⟩
noncomputable def Q7.c6 (N:Nat):xH:=⟨fun vs H k=>match vs,H with
 | [.ptr 0 0 1,.ptr 1 0 1,.c (.int .i64 a)],[.vals [.il .u32 1 b],.vals [.il .u32 1 c]]=>Q7.l6 N N a b c (fun(_:Unit)=>k (.exit 0) ⟨dD Q7.h6.out [],[]⟩) (fun d=>k (.ret (.c (.int .i64 d)) []) .nil)
 |_,_=>none⟩
noncomputable def Q7.E (N:Nat):bD:=bF [(98,aO),(110,hF),(143,zI)] [] [(6,Q7.h6)] [(6,Q7.c6 N)] N [.tmp 4] [.any] 0 52
noncomputable def Q7.b6:Code:=sA ((eA (bo Tryz.f157)).getD 0 .skip)
theorem Q7.l6_eq {R:Type}(N n:Nat)(a:Int)(b c:List Int)(k:Ex→St→Option R):
  jB 0 Q7.h6 (fun s k=>bB (Q7.E N) 394 Q7.b6 s k) n [.ptr 0 0 1,.ptr 1 0 1,.c (.int .i64 a)] [.vals [.il .u32 1 b],.vals [.il .u32 1 c]] k=Q7.l6 N n a b c (fun(_:Unit)=>k (.exit 0) ⟨dD Q7.h6.out [],[]⟩) (fun d=>k (.ret (.c (.int .i64 d)) []) .nil):=by
 induction n generalizing a b c with
 |zero=>kernel_rfl
 |succ n ih=>
  simp only[Q7.l6,←ih]
  kernel_rfl
noncomputable def Q7.dec (v:V)(bs:List rA):Option (Int):=match v,bs with
 | .c (.int .i64 a),[]=>some a
 |_,_=>none
theorem Q7.f_eq (N:Nat)(a b:List Int):
  cB (Q7.E N) (bo Tryz.f157) [.agg [.il .u32 1 a],.agg [.il .u32 1 b]] [] Q7.dec=Q7.f N a b:=by kernel_rfl
noncomputable def Q7.ent (N:Nat):xA:=wF (Int) 0 [true,true] [.recd [.il .u32 1],.recd [.il .u32 1]] fun
 | [.agg [.il .u32 1 a],.agg [.il .u32 1 b]]=>some (Q7.f N a b,fun r=>.one (.c (.int .i64 r)) [])
 |_=>none
theorem Q7.env (N:Nat):aB Tryz.prog (Q7.E N):=⟨(.cons oE (.cons iC (.cons bE .nil))),.nil⟩
theorem Q7.k6 (N:Nat):xB Tryz.prog Tryz.f157 (Q7.E N) (.loop Q7.b6):=gD (Q7.env N) bA 394 (c:=Q7.c6 N) dA.n fun R vs H k r h=>by unfold Q7.c6 at h;dsimp only at h;split at h;exact⟨_,Q7.l6_eq .. ▸h⟩;cases h
theorem Q7.spec (N:Nat)(a c:List Int)(r:Int)(h:Q7.f N a c=some r):fA Tryz.prog 157 [.agg [.il .u32 1 a],.agg [.il .u32 1 c]] [] (.c (.int .i64 r)) ([]):=vA (Q7.env N) bA Tryz.func157 (dA.of (l:=[(.loop (sA ((eA (bo Tryz.f157)).getD 0 .skip)))]) (by kernel_rfl) (dA.cons (Q7.k6 N) dA.nil)) ((Q7.f_eq ..).trans h) fun v b e=>by unfold Q7.dec at e;split at e<;>cases e;exact⟨rfl,rfl⟩
theorem Q7.ent_ok (N:Nat):uA Tryz.prog 157 (Q7.ent N):=yA fun v a e h=>by split at h;exact nC (Q:=fun e=>fA _ _ _ _ (e a).pick.1 (e a).pick.2) h fun k=>Q7.spec N _ _ a k;cases h
noncomputable def Q8.l7 {R:Type}(N:Nat):Nat→Int→Int→Int→List Int→List Int→(List Int→Option R)→Option R
 |0,_,_,_,_,_,_=>none
 |n+1,d,f,a,c,b,e=>
  bif decide (a<f)then
   bif (decide (0≤a))&&(decide (a<(b.length:Int)))then
    bif decide (a<(c.length:Int))then
     bif (decide (0≤a))&&(decide (a<(c.length:Int)))then
      bif (decide (0≤a))&&(decide (a<(b.length:Int)))then
       Q8.l7 N n (Int.fdiv (gA ((gA (d+(gA (b.getD a.toNat 0))))+(gA (c.getD a.toNat 0)))) (2^32)) f (aA (a+1)) c (b.set a.toNat (nB (gA ((gA (d+(gA (b.getD a.toNat 0))))+(gA (c.getD a.toNat 0)))))) e
      else none
     else none
    else
    bif (decide (0≤a))&&(decide (a<(b.length:Int)))then
     Q8.l7 N n (Int.fdiv (gA (d+(gA (b.getD a.toNat 0)))) (2^32)) f (aA (a+1)) c (b.set a.toNat (nB (gA (d+(gA (b.getD a.toNat 0)))))) e
    else none
   else none
  else
  e b
noncomputable def Q8.f (N:Nat)(a b:List Int):Option (List Int×Int):=
 bif decide ((a.length:Int)<(b.length:Int))then
  bif decide (aA ((b.length:Int)+1)=aA ((b.length:Int)+1))&&decide (0≤aA ((b.length:Int)+1))&&decide (aA ((b.length:Int)+1)≤9223372036854775807)&&fB ((aA ((b.length:Int)+1)).toNat) 4 then
   Q8.l7 N N 0 ((oF (List.replicate ((aA ((b.length:Int)+1)).toNat) (0:Int)) 0 (b.take (min b.length ((List.replicate ((aA ((b.length:Int)+1)).toNat) (0:Int)).length)))).length:Int) 0 a (oF (List.replicate ((aA ((b.length:Int)+1)).toNat) (0:Int)) 0 (b.take (min b.length ((List.replicate ((aA ((b.length:Int)+1)).toNat) (0:Int)).length))))
    (fun h=>
     (Q2.f N 0 h.length h).bind fun c=>
     (Q4.f N ((c.2.2.drop c.1).take c.2.1)).bind fun e=>
     some (e.1,e.2))
  else none
 else
 bif decide (aA ((a.length:Int)+1)=aA ((a.length:Int)+1))&&decide (0≤aA ((a.length:Int)+1))&&decide (aA ((a.length:Int)+1)≤9223372036854775807)&&fB ((aA ((a.length:Int)+1)).toNat) 4 then
  Q8.l7 N N 0 ((oF (List.replicate ((aA ((a.length:Int)+1)).toNat) (0:Int)) 0 (a.take (min a.length ((List.replicate ((aA ((a.length:Int)+1)).toNat) (0:Int)).length)))).length:Int) 0 b (oF (List.replicate ((aA ((a.length:Int)+1)).toNat) (0:Int)) 0 (a.take (min a.length ((List.replicate ((aA ((a.length:Int)+1)).toNat) (0:Int)).length))))
   (fun g=>
    (Q2.f N 0 g.length g).bind fun d=>
    (Q4.f N ((d.2.2.drop d.1).take d.2.1)).bind fun f=>
    some (f.1,f.2))
 else none
noncomputable def Q8.h7:eD:=⟨[(3,.box [.il .u32 1]),(4,.box [.any]),(6,.row .u32 1),(7,.any),(28,.any),(29,.any)],[(4,.box [.any]),(6,.row .u32 1)]⟩
noncomputable def Q8.c7 (N:Nat):xH:=⟨fun vs H k=>match vs,H with
 | [.ptr 0 0 1,.ptr 1 0 1,.sw 2 1,.c (.int .u64 a),.c (.int .i64 b),.c (.int .i64 c)],[.vals [.il .u32 1 d],.vals [.c (.slice none 0 0)],.ints .u32 e]=>Q8.l7 N N a b c d e (fun f=>k (.exit 0) ⟨dD Q8.h7.out [.ptr 0 0 1,.sw 1 1],[.vals [.c (.slice none 0 0)],.ints .u32 f]⟩)
 |_,_=>none⟩
noncomputable def Q8.E (N:Nat):bD:=bF [(78,fQ),(98,aO),(110,hF),(143,zI)] [(152,Q2.ent N),(170,Q4.ent N)] [(7,Q8.h7)] [(7,Q8.c7 N)] N [.cell 4 110,.tmp 5] [.recd [.il .u32 1],.any] 0 65
noncomputable def Q8.b7:Code:=sA ((eA (bo Tryz.f161)).getD 0 .skip)
theorem Q8.l7_eq {R:Type}(N n:Nat)(a b c:Int)(d e:List Int)(k:Ex→St→Option R):
  jB 0 Q8.h7 (fun s k=>bB (Q8.E N) 391 Q8.b7 s k) n [.ptr 0 0 1,.ptr 1 0 1,.sw 2 1,.c (.int .u64 a),.c (.int .i64 b),.c (.int .i64 c)] [.vals [.il .u32 1 d],.vals [.c (.slice none 0 0)],.ints .u32 e] k=Q8.l7 N n a b c d e (fun f=>k (.exit 0) ⟨dD Q8.h7.out [.ptr 0 0 1,.sw 1 1],[.vals [.c (.slice none 0 0)],.ints .u32 f]⟩):=by
 induction n generalizing a b c d e with
 |zero=>kernel_rfl
 |succ n ih=>
  simp only[Q8.l7,←ih]
  kernel_rfl
noncomputable def Q8.dec (v:V)(bs:List rA):Option (List Int×Int):=match v,bs with
 | .tup [.agg [.il .u32 1 a],.c (.int .i64 b)],[]=>some (a,b)
 |_,_=>none
theorem Q8.f_eq (N:Nat)(a b:List Int):
  cB (Q8.E N) (bo Tryz.f161) [.agg [.il .u32 1 a],.agg [.il .u32 1 b]] [] Q8.dec=Q8.f N a b:=by kernel_rfl
noncomputable def Q8.ent (N:Nat):xA:=wF (List Int×Int) 0 [true,true] [.recd [.il .u32 1],.recd [.il .u32 1]] fun
 | [.agg [.il .u32 1 a],.agg [.il .u32 1 b]]=>some (Q8.f N a b,fun r=>.one (.tup [.agg [.il .u32 1 r.1],.c (.int .i64 r.2)]) [])
 |_=>none
theorem Q8.env (N:Nat):aB Tryz.prog (Q8.E N):=⟨(.cons qF (.cons oE (.cons iC (.cons bE .nil)))),(.cons (Q2.ent_ok N) (.cons (Q4.ent_ok N) .nil))⟩
theorem Q8.k7 (N:Nat):xB Tryz.prog Tryz.f161 (Q8.E N) (.loop Q8.b7):=gD (Q8.env N) bA 391 (c:=Q8.c7 N) dA.n fun R vs H k r h=>by unfold Q8.c7 at h;dsimp only at h;split at h;exact⟨_,Q8.l7_eq .. ▸h⟩;cases h
theorem Q8.spec (N:Nat)(a c:List Int)(r:List Int×Int)(h:Q8.f N a c=some r):fA Tryz.prog 161 [.agg [.il .u32 1 a],.agg [.il .u32 1 c]] [] (.tup [.agg [.il .u32 1 r.1],.c (.int .i64 r.2)]) ([]):=vA (Q8.env N) bA Tryz.func161 (dA.of (l:=[(.loop (sA ((eA (bo Tryz.f161)).getD 0 .skip)))]) (by kernel_rfl) (dA.cons (Q8.k7 N) dA.nil)) ((Q8.f_eq ..).trans h) fun v b e=>by unfold Q8.dec at e;split at e<;>cases e;exact⟨rfl,rfl⟩
theorem Q8.ent_ok (N:Nat):uA Tryz.prog 161 (Q8.ent N):=yA fun v a e h=>by split at h;exact nC (Q:=fun e=>fA _ _ _ _ (e a).pick.1 (e a).pick.2) h fun k=>Q8.spec N _ _ a k;cases h
noncomputable def Q9.l2 {R:Type}(N:Nat):Nat→Nat→Nat→List Int→Int→Int→Int→List Int→(List Int→Option R)→Option R
 |0,_,_,_,_,_,_,_,_=>none
 |n+1,c,d,g,i,j,a,b,h=>
  bif decide (a<j)then
   bif decide (a<(g.length:Int))then
    bif (decide (0≤a))&&(decide (a<(g.length:Int)))then
     bif (decide (0≤a))&&(decide (a<(d:Int)))then
      (Q1.f N (b.getD (c+a.toNat) 0) (g.getD a.toNat 0) i).bind fun e=>
      bif (decide (0≤a))&&(decide (a<(d:Int)))then
       Q9.l2 N n c d g e.2 j (aA (a+1)) (b.set (c+a.toNat) e.1) h
      else none
     else none
    else none
   else
   bif i==0 then
    h b
   else
   bif (decide (0≤a))&&(decide (a<(d:Int)))then
    (Q1.f N (b.getD (c+a.toNat) 0) 0 i).bind fun f=>
    bif (decide (0≤a))&&(decide (a<(d:Int)))then
     Q9.l2 N n c d g f.2 j (aA (a+1)) (b.set (c+a.toNat) f.1) h
    else none
   else none
  else
  h b
noncomputable def Q9.f (N c b:Nat)(d e:List Int):Option (List Int):=
 Q9.l2 N N c b d 0 (b:Int) 0 e
  (fun a=>
   some a)
noncomputable def Q9.h2:eD:=⟨[(0,.any),(1,.il .u32 1),(4,.any),(8,.any),(9,.any)],[]⟩
noncomputable def Q9.c2 (N:Nat):xH:=⟨fun vs H k=>match vs,H with
 | [.sl 0 1 d e,.il .u32 1 f,.c (.int .u32 g),.c (.int .i64 h),.c (.int .i64 a)],[.ints .u32 b]=>Q9.l2 N N d e f g h a b (fun c=>k (.exit 0) ⟨dD Q9.h2.out [],[.ints .u32 c]⟩)
 |_,_=>none⟩
noncomputable def Q9.E (N:Nat):bD:=bF [(98,aO),(143,zI)] [(172,Q1.ent N)] [(2,Q9.h2)] [(2,Q9.c2 N)] N [] [] 1 36
noncomputable def Q9.b2:Code:=sA ((eA (bo Tryz.f171)).getD 1 .skip)
theorem Q9.l2_eq {R:Type}(N n d e:Nat)(f:List Int)(g h a:Int)(b:List Int)(k:Ex→St→Option R):
  jB 1 Q9.h2 (fun s k=>bB (Q9.E N) 394 Q9.b2 s k) n [.sl 0 1 d e,.il .u32 1 f,.c (.int .u32 g),.c (.int .i64 h),.c (.int .i64 a)] [.ints .u32 b] k=Q9.l2 N n d e f g h a b (fun c=>k (.exit 0) ⟨dD Q9.h2.out [],[.ints .u32 c]⟩):=by
 induction n generalizing d e f g h a b with
 |zero=>kernel_rfl
 |succ n ih=>
  simp only[Q9.l2,←ih]
  kernel_rfl
noncomputable def Q9.dec (v:V)(bs:List rA):Option (List Int):=match v,bs with
 | .tup [],[.ints .u32 a]=>some a
 |_,_=>none
theorem Q9.f_eq (N a b:Nat)(c d:List Int):
  cB (Q9.E N) (bo Tryz.f171) [.sl 0 1 a b,.il .u32 1 c] [.ints .u32 d] Q9.dec=Q9.f N a b c d:=by kernel_rfl
noncomputable def Q9.ent (N:Nat):xA:={A:=List Int,fresh:=0,imm:=[false,true],dec:=fun args bs=>match xF (nA bs) [true,false] args,bs with
 | [.sl 0 1 a b,.il .u32 1 c],[.ints .u32 d]=>some (Q9.f N a b c d,fun r=>.one (.tup []) [.ints .u32 r])
 |_,_=>none}
theorem Q9.env (N:Nat):aB Tryz.prog (Q9.E N):=⟨(.cons oE (.cons bE .nil)),(.cons (Q1.ent_ok N) .nil)⟩
theorem Q9.k2 (N:Nat):xB Tryz.prog Tryz.f171 (Q9.E N) (.loop Q9.b2):=gD (Q9.env N) bA 394 (c:=Q9.c2 N) dA.n fun R vs H k r h=>by unfold Q9.c2 at h;dsimp only at h;split at h;exact⟨_,Q9.l2_eq .. ▸h⟩;cases h
theorem Q9.spec (N a c:Nat)(d f r:List Int)(h:Q9.f N a c d f=some r):fA Tryz.prog 171 [.sl 0 1 a c,.il .u32 1 d] [.ints .u32 f] (.tup []) ([.ints .u32 r]):=vA (Q9.env N) bA Tryz.func171 (dA.of (l:=[(.scope (sA ((eA (bo Tryz.f171)).getD 0 .skip))),(.loop (sA ((eA (bo Tryz.f171)).getD 1 .skip)))]) (by kernel_rfl) (dA.cons (qP (by kernel_rfl)) (dA.cons (Q9.k2 N) dA.nil))) ((Q9.f_eq ..).trans h) fun v b e=>by unfold Q9.dec at e;split at e<;>cases e;exact⟨rfl,rfl⟩
theorem Q9.ent_ok (N:Nat):uA Tryz.prog 171 (Q9.ent N):=by
 intro args bs a enc h;simp only[Q9.ent]at h;split at h
 ·rename_i hz;have h0:=Option.some.inj h;have h1:=congrArg Prod.fst h0;have h2:=congrArg Prod.snd h0;dsimp only at h1 h2;subst h2;exact fA.of_asSl (fl:=[true,false]) (by rw[hz];exact Q9.spec N _ _ _ _ a h1)
 ·cases h
noncomputable def Q10.f (N:Nat)(a c:List Int):Option (List Int×Int):=
 (Q7.f N a c).bind fun e=>
 bif decide (e<0)then
  some ([],10)
 else
 bif decide ((a.length:Int)=(a.length:Int))&&decide (0≤(a.length:Int))&&decide ((a.length:Int)≤9223372036854775807)&&fB ((a.length:Int).toNat) 4 then
  (Q9.f N 0 ((oF (List.replicate ((a.length:Int).toNat) (0:Int)) 0 (a.take (min a.length ((List.replicate ((a.length:Int).toNat) (0:Int)).length)))).length) c (oF (List.replicate ((a.length:Int).toNat) (0:Int)) 0 (a.take (min a.length ((List.replicate ((a.length:Int).toNat) (0:Int)).length))))).bind fun d=>
  (Q2.f N 0 d.length d).bind fun b=>
  some ((b.2.2.drop b.1).take b.2.1,0)
 else none
noncomputable def Q10.E (N:Nat):bD:=bF [(98,aO),(110,hF),(143,zI)] [(157,Q7.ent N),(171,Q9.ent N),(152,Q2.ent N)] [] [] N [.cell 4 110,.tmp 5] [.recd [.il .u32 1],.any] 0 26
noncomputable def Q10.dec (v:V)(bs:List rA):Option (List Int×Int):=match v,bs with
 | .tup [.agg [.il .u32 1 a],.c (.int .i64 b)],[]=>some (a,b)
 |_,_=>none
theorem Q10.f_eq (N:Nat)(a b:List Int):
  cB (Q10.E N) (bo Tryz.f162) [.agg [.il .u32 1 a],.agg [.il .u32 1 b]] [] Q10.dec=Q10.f N a b:=by kernel_rfl
noncomputable def Q10.ent (N:Nat):xA:=wF (List Int×Int) 0 [true,true] [.recd [.il .u32 1],.recd [.il .u32 1]] fun
 | [.agg [.il .u32 1 a],.agg [.il .u32 1 b]]=>some (Q10.f N a b,fun r=>.one (.tup [.agg [.il .u32 1 r.1],.c (.int .i64 r.2)]) [])
 |_=>none
theorem Q10.env (N:Nat):aB Tryz.prog (Q10.E N):=⟨(.cons oE (.cons iC (.cons bE .nil))),(.cons (Q7.ent_ok N) (.cons (Q9.ent_ok N) (.cons (Q2.ent_ok N) .nil)))⟩
theorem Q10.spec (N:Nat)(a c:List Int)(r:List Int×Int)(h:Q10.f N a c=some r):fA Tryz.prog 162 [.agg [.il .u32 1 a],.agg [.il .u32 1 c]] [] (.tup [.agg [.il .u32 1 r.1],.c (.int .i64 r.2)]) ([]):=vA (Q10.env N) bA Tryz.func162 dA.n ((Q10.f_eq ..).trans h) fun v b e=>by unfold Q10.dec at e;split at e<;>cases e;exact⟨rfl,rfl⟩
theorem Q10.ent_ok (N:Nat):uA Tryz.prog 162 (Q10.ent N):=yA fun v a e h=>by split at h;exact nC (Q:=fun e=>fA _ _ _ _ (e a).pick.1 (e a).pick.2) h fun k=>Q10.spec N _ _ a k;cases h
noncomputable def Q11.l7 {R:Type}(N:Nat):Nat→Int→Int→Int→List Int→Int→Int→List Int→Int→Int→List Int→List Int→(Int→Int→List Int→Int→Int→List Int→List Int→Option R)→Option R
 |0,_,_,_,_,_,_,_,_,_,_,_,_=>none
 |n+1,d,k,e,f,g,h,c,i,a,j,b,l=>
  bif decide (a<i)then
   bif (decide (0≤a))&&(decide (a<(c.length:Int)))then
    bif (decide (0≤(aA (d+a))))&&(decide ((aA (d+a))<(b.length:Int)))then
     bif (decide (0≤(aA (d+a))))&&(decide ((aA (d+a))<(b.length:Int)))then
      Q11.l7 N n d k (Int.fdiv (gA (e+(gA ((gA ((gA k)*(gA (c.getD a.toNat 0))))+(gA (b.getD ((aA (d+a)).toNat) 0)))))) (2^32)) f g h c i (aA (a+1)) j (b.set ((aA (d+a)).toNat) (nB (gA (e+(gA ((gA ((gA k)*(gA (c.getD a.toNat 0))))+(gA (b.getD ((aA (d+a)).toNat) 0)))))))) l
     else none
    else none
   else none
  else
  l d e f g h j b
noncomputable def Q11.l3 {R:Type}(N:Nat):Nat→List Int→Int→Int→List Int→List Int→(List Int→Option R)→Option R
 |0,_,_,_,_,_,_=>none
 |n+1,e,l,c,f,m,k=>
  bif decide (c<l)then
   bif (decide (0≤c))&&(decide (c<(e.length:Int)))then
    Q11.l7 N N c (e.getD c.toNat 0) 0 e l c f (f.length:Int) 0 f m
     (fun b g h i j a d=>
      bif (decide (0≤(aA (b+(a.length:Int)))))&&(decide ((aA (b+(a.length:Int)))<(d.length:Int)))then
       Q11.l3 N n h i (aA (j+1)) a (d.set ((aA (b+(a.length:Int))).toNat) (nB g)) k
      else none)
   else none
  else
  k m
noncomputable def Q11.f (N:Nat)(a b:List Int):Option (List Int):=
 bif decide (aA ((a.length:Int)+(b.length:Int))=aA ((a.length:Int)+(b.length:Int)))&&decide (0≤aA ((a.length:Int)+(b.length:Int)))&&decide (aA ((a.length:Int)+(b.length:Int))≤9223372036854775807)&&fB ((aA ((a.length:Int)+(b.length:Int))).toNat) 4 then
  Q11.l3 N N a (a.length:Int) 0 b (List.replicate ((aA ((a.length:Int)+(b.length:Int))).toNat) (0:Int))
   (fun d=>
    (Q2.f N 0 d.length d).bind fun c=>
    some ((c.2.2.drop c.1).take c.2.1))
 else none
noncomputable def Q11.h3:eD:=⟨[(3,.box [.il .u32 1]),(4,.box [.any]),(5,.row .u32 1),(20,.il .u32 1),(21,.any),(22,.any)],[(4,.box [.any]),(5,.row .u32 1)]⟩
noncomputable def Q11.h7:eD:=⟨[(3,.box [.il .u32 1]),(4,.box [.any]),(5,.row .u32 1),(6,.any),(7,.any),(8,.any),(20,.il .u32 1),(21,.any),(22,.any),(28,.il .u32 1),(29,.any),(30,.any)],[(3,.box [.il .u32 1]),(4,.box [.any]),(5,.row .u32 1),(6,.any),(8,.any),(20,.il .u32 1),(21,.any),(22,.any)]⟩
noncomputable def Q11.c7 (N:Nat):xH:=⟨fun vs H k=>match vs,H with
 | [.ptr 0 0 1,.ptr 1 0 1,.sw 2 1,.c (.int .i64 s),.c (.int .u32 t),.c (.int .u64 a),.il .u32 1 b,.c (.int .i64 c),.c (.int .i64 d),.il .u32 1 e,.c (.int .i64 f),.c (.int .i64 g)],[.vals [.il .u32 1 h],.vals [.c (.slice none 0 0)],.ints .u32 i]=>Q11.l7 N N s t a b c d e f g h i (fun j l m o p q r=>k (.exit 2) ⟨dD Q11.h7.out [.ptr 0 0 1,.ptr 1 0 1,.sw 2 1,.c (.int .i64 j),.c (.int .u64 l),.il .u32 1 m,.c (.int .i64 o),.c (.int .i64 p)],[.vals [.il .u32 1 q],.vals [.c (.slice none 0 0)],.ints .u32 r]⟩)
 |_,_=>none⟩
noncomputable def Q11.c3 (N:Nat):xH:=⟨fun vs H k=>match vs,H with
 | [.ptr 0 0 1,.ptr 1 0 1,.sw 2 1,.il .u32 1 b,.c (.int .i64 c),.c (.int .i64 d)],[.vals [.il .u32 1 e],.vals [.c (.slice none 0 0)],.ints .u32 f]=>Q11.l3 N N b c d e f (fun a=>k (.exit 0) ⟨dD Q11.h3.out [.ptr 0 0 1,.sw 1 1],[.vals [.c (.slice none 0 0)],.ints .u32 a]⟩)
 |_,_=>none⟩
noncomputable def Q11.E (N:Nat):bD:=bF [(78,fQ),(98,aO),(110,hF),(143,zI)] [(152,Q2.ent N)] [(3,Q11.h3),(7,Q11.h7)] [(7,Q11.c7 N),(3,Q11.c3 N)] N [.cell 4 110] [.recd [.il .u32 1]] 0 72
noncomputable def Q11.b7:Code:=sA ((eA (bo Tryz.f169)).getD 1 .skip)
theorem Q11.l7_eq {R:Type}(N n:Nat)(t u a:Int)(b:List Int)(c d:Int)(e:List Int)(f g:Int)(h i:List Int)(k:Ex→St→Option R):
  jB 0 Q11.h7 (fun s k=>bB (Q11.E N) 384 Q11.b7 s k) n [.ptr 0 0 1,.ptr 1 0 1,.sw 2 1,.c (.int .i64 t),.c (.int .u32 u),.c (.int .u64 a),.il .u32 1 b,.c (.int .i64 c),.c (.int .i64 d),.il .u32 1 e,.c (.int .i64 f),.c (.int .i64 g)] [.vals [.il .u32 1 h],.vals [.c (.slice none 0 0)],.ints .u32 i] k=Q11.l7 N n t u a b c d e f g h i (fun j l m o p q r=>k (.exit 2) ⟨dD Q11.h7.out [.ptr 0 0 1,.ptr 1 0 1,.sw 2 1,.c (.int .i64 j),.c (.int .u64 l),.il .u32 1 m,.c (.int .i64 o),.c (.int .i64 p)],[.vals [.il .u32 1 q],.vals [.c (.slice none 0 0)],.ints .u32 r]⟩):=by
 induction n generalizing t u a b c d e f g h i with
 |zero=>kernel_rfl
 |succ n ih=>
  simp only[Q11.l7,←ih]
  kernel_rfl
noncomputable def Q11.b3:Code:=sA ((eA (bo Tryz.f169)).getD 0 .skip)
theorem Q11.l3_eq {R:Type}(N n:Nat)(a:List Int)(c d:Int)(e f:List Int)(k:Ex→St→Option R):
  jB 0 Q11.h3 (fun s k=>bB (Q11.E N) 394 Q11.b3 s k) n [.ptr 0 0 1,.ptr 1 0 1,.sw 2 1,.il .u32 1 a,.c (.int .i64 c),.c (.int .i64 d)] [.vals [.il .u32 1 e],.vals [.c (.slice none 0 0)],.ints .u32 f] k=Q11.l3 N n a c d e f (fun b=>k (.exit 0) ⟨dD Q11.h3.out [.ptr 0 0 1,.sw 1 1],[.vals [.c (.slice none 0 0)],.ints .u32 b]⟩):=by
 induction n generalizing a c d e f with
 |zero=>kernel_rfl
 |succ n ih=>
  simp only[Q11.l3,←ih]
  kernel_rfl
noncomputable def Q11.dec (v:V)(bs:List rA):Option (List Int):=match v,bs with
 | .agg [.il .u32 1 a],[]=>some a
 |_,_=>none
theorem Q11.f_eq (N:Nat)(a b:List Int):
  cB (Q11.E N) (bo Tryz.f169) [.agg [.il .u32 1 a],.agg [.il .u32 1 b]] [] Q11.dec=Q11.f N a b:=by kernel_rfl
noncomputable def Q11.ent (N:Nat):xA:=wF (List Int) 0 [true,true] [.recd [.il .u32 1],.recd [.il .u32 1]] fun
 | [.agg [.il .u32 1 a],.agg [.il .u32 1 b]]=>some (Q11.f N a b,fun r=>.one (.agg [.il .u32 1 r]) [])
 |_=>none
theorem Q11.env (N:Nat):aB Tryz.prog (Q11.E N):=⟨(.cons qF (.cons oE (.cons iC (.cons bE .nil)))),(.cons (Q2.ent_ok N) .nil)⟩
theorem Q11.k7 (N:Nat):xB Tryz.prog Tryz.f169 (Q11.E N) (.loop Q11.b7):=gD (Q11.env N) bA 384 (c:=Q11.c7 N) dA.n fun R vs H k r h=>by unfold Q11.c7 at h;dsimp only at h;split at h;exact⟨_,Q11.l7_eq .. ▸h⟩;cases h
theorem Q11.k3 (N:Nat):xB Tryz.prog Tryz.f169 (Q11.E N) (.loop Q11.b3):=gD (Q11.env N) bA 394 (c:=Q11.c3 N) (dA.of (l:=[(.loop (sA ((eA (bo Tryz.f169)).getD 1 .skip)))]) (by kernel_rfl) (dA.cons (Q11.k7 N) dA.nil)) fun R vs H k r h=>by unfold Q11.c3 at h;dsimp only at h;split at h;exact⟨_,Q11.l3_eq .. ▸h⟩;cases h
theorem Q11.spec (N:Nat)(a c r:List Int)(h:Q11.f N a c=some r):fA Tryz.prog 169 [.agg [.il .u32 1 a],.agg [.il .u32 1 c]] [] (.agg [.il .u32 1 r]) ([]):=vA (Q11.env N) bA Tryz.func169 (dA.of (l:=[(.loop (sA ((eA (bo Tryz.f169)).getD 0 .skip))),(.loop (sA ((eA (bo Tryz.f169)).getD 1 .skip)))]) (by kernel_rfl) (dA.cons (Q11.k3 N) (dA.cons (Q11.k7 N) dA.nil))) ((Q11.f_eq ..).trans h) fun v b e=>by unfold Q11.dec at e;split at e<;>cases e;exact⟨rfl,rfl⟩
theorem Q11.ent_ok (N:Nat):uA Tryz.prog 169 (Q11.ent N):=yA fun v a e h=>by split at h;exact nC (Q:=fun e=>fA _ _ _ _ (e a).pick.1 (e a).pick.2) h fun k=>Q11.spec N _ _ a k;cases h
noncomputable def Q12.f (N:Nat)(a b:List Int):Option (List Int×Int):=
 (Q3.f N a).bind fun d=>
 (Q3.f N b).bind fun e=>
 bif decide ((aA (d+e))>4097)then
  some ([],3)
 else
 (Q11.f N a b).bind fun f=>
 (Q4.f N f).bind fun c=>
 some (c.1,c.2)
noncomputable def Q12.E (N:Nat):bD:=bF [(98,aO),(110,hF)] [(123,Q3.ent N),(169,Q11.ent N),(170,Q4.ent N)] [] [] N [.cell 4 110,.tmp 5] [.recd [.il .u32 1],.any] 0 19
noncomputable def Q12.dec (v:V)(bs:List rA):Option (List Int×Int):=match v,bs with
 | .tup [.agg [.il .u32 1 a],.c (.int .i64 b)],[]=>some (a,b)
 |_,_=>none
theorem Q12.f_eq (N:Nat)(a b:List Int):
  cB (Q12.E N) (bo Tryz.f160) [.agg [.il .u32 1 a],.agg [.il .u32 1 b]] [] Q12.dec=Q12.f N a b:=by kernel_rfl
noncomputable def Q12.ent (N:Nat):xA:=wF (List Int×Int) 0 [true,true] [.recd [.il .u32 1],.recd [.il .u32 1]] fun
 | [.agg [.il .u32 1 a],.agg [.il .u32 1 b]]=>some (Q12.f N a b,fun r=>.one (.tup [.agg [.il .u32 1 r.1],.c (.int .i64 r.2)]) [])
 |_=>none
theorem Q12.env (N:Nat):aB Tryz.prog (Q12.E N):=⟨(.cons oE (.cons iC .nil)),(.cons (Q3.ent_ok N) (.cons (Q11.ent_ok N) (.cons (Q4.ent_ok N) .nil)))⟩
theorem Q12.spec (N:Nat)(a c:List Int)(r:List Int×Int)(h:Q12.f N a c=some r):fA Tryz.prog 160 [.agg [.il .u32 1 a],.agg [.il .u32 1 c]] [] (.tup [.agg [.il .u32 1 r.1],.c (.int .i64 r.2)]) ([]):=vA (Q12.env N) bA Tryz.func160 dA.n ((Q12.f_eq ..).trans h) fun v b e=>by unfold Q12.dec at e;split at e<;>cases e;exact⟨rfl,rfl⟩
theorem Q12.ent_ok (N:Nat):uA Tryz.prog 160 (Q12.ent N):=yA fun v a e h=>by split at h;exact nC (Q:=fun e=>fA _ _ _ _ (e a).pick.1 (e a).pick.2) h fun k=>Q12.spec N _ _ a k;cases h
noncomputable def Q13.f (N:Nat)(a:Int):Option (Int):=
 (Q0.f N a).bind fun b=>
 some (aA (32-b))
noncomputable def Q13.E (N:Nat):bD:=bF [] [(115,Q0.ent N)] [] [] N [.tmp 2] [.any] 0 6
noncomputable def Q13.dec (v:V)(bs:List rA):Option (Int):=match v,bs with
 | .c (.int .i64 a),[]=>some a
 |_,_=>none
theorem Q13.f_eq (N:Nat)(a:Int):
  cB (Q13.E N) (bo Tryz.f165) [.c (.int .u32 a)] [] Q13.dec=Q13.f N a:=by kernel_rfl
noncomputable def Q13.ent (N:Nat):xA:=wF (Int) 0 [true] [.any] fun
 | [.c (.int .u32 a)]=>some (Q13.f N a,fun r=>.one (.c (.int .i64 r)) [])
 |_=>none
theorem Q13.env (N:Nat):aB Tryz.prog (Q13.E N):=⟨.nil,(.cons (Q0.ent_ok N) .nil)⟩
theorem Q13.spec (N:Nat)(a r:Int)(h:Q13.f N a=some r):fA Tryz.prog 165 [.c (.int .u32 a)] [] (.c (.int .i64 r)) ([]):=vA (Q13.env N) bA Tryz.func165 dA.n ((Q13.f_eq ..).trans h) fun v b e=>by unfold Q13.dec at e;split at e<;>cases e;exact⟨rfl,rfl⟩
theorem Q13.ent_ok (N:Nat):uA Tryz.prog 165 (Q13.ent N):=yA fun v a e h=>by split at h;exact nC (Q:=fun e=>fA _ _ _ _ (e a).pick.1 (e a).pick.2) h fun k=>Q13.spec N _ a k;cases h
noncomputable def Q14.l3 {R:Type}(N:Nat):Nat→Nat→Nat→Int→Int→Int→List Int→(Int→List Int→Option R)→Option R
 |0,_,_,_,_,_,_,_=>none
 |n+1,d,e,c,f,b,a,g=>
  bif decide (b≥0)then
   bif (decide (0≤b))&&(decide (b<(e:Int)))then
    bif !((gA c)==0)then
     bif !((gA c)==0)then
      bif (decide (0≤b))&&(decide (b<(e:Int)))then
       Q14.l3 N n d e c (Int.tmod (wD .u64 (gA (f*2^32)) (gA (a.getD (d+b.toNat) 0))) (gA c)) (aA (b-1)) (a.set (d+b.toNat) (nB (gA (Int.tdiv (wD .u64 (gA (f*2^32)) (gA (a.getD (d+b.toNat) 0))) (gA c))))) g
      else none
     else none
    else none
   else none
  else
  g f a
noncomputable def Q14.f (N d c:Nat)(e:Int)(f:List Int):Option (Int×List Int):=
 Q14.l3 N N d c e 0 (aA ((c:Int)-1)) f
  (fun a b=>
   some (nB a,b))
noncomputable def Q14.h3:eD:=⟨[(0,.any),(1,.any),(5,.any),(6,.any)],[(5,.any)]⟩
noncomputable def Q14.c3 (N:Nat):xH:=⟨fun vs H k=>match vs,H with
 | [.sl 0 1 d e,.c (.int .u32 f),.c (.int .u64 g),.c (.int .i64 h)],[.ints .u32 a]=>Q14.l3 N N d e f g h a (fun b c=>k (.exit 0) ⟨dD Q14.h3.out [.c (.int .u64 b)],[.ints .u32 c]⟩)
 |_,_=>none⟩
noncomputable def Q14.E (N:Nat):bD:=bF [(78,fQ),(98,aO),(143,zI)] [] [(3,Q14.h3)] [(3,Q14.c3 N)] N [.tmp 4] [.any] 1 37
noncomputable def Q14.b3:Code:=sA ((eA (bo Tryz.f158)).getD 0 .skip)
theorem Q14.l3_eq {R:Type}(N n d e:Nat)(f g h:Int)(a:List Int)(k:Ex→St→Option R):
  jB 1 Q14.h3 (fun s k=>bB (Q14.E N) 394 Q14.b3 s k) n [.sl 0 1 d e,.c (.int .u32 f),.c (.int .u64 g),.c (.int .i64 h)] [.ints .u32 a] k=Q14.l3 N n d e f g h a (fun b c=>k (.exit 0) ⟨dD Q14.h3.out [.c (.int .u64 b)],[.ints .u32 c]⟩):=by
 induction n generalizing d e f g h a with
 |zero=>kernel_rfl
 |succ n ih=>
  simp only[Q14.l3,←ih]
  kernel_rfl
noncomputable def Q14.dec (v:V)(bs:List rA):Option (Int×List Int):=match v,bs with
 | .c (.int .u32 a),[.ints .u32 b]=>some (a,b)
 |_,_=>none
theorem Q14.f_eq (N a b:Nat)(c:Int)(d:List Int):
  cB (Q14.E N) (bo Tryz.f158) [.sl 0 1 a b,.c (.int .u32 c)] [.ints .u32 d] Q14.dec=Q14.f N a b c d:=by kernel_rfl
noncomputable def Q14.ent (N:Nat):xA:={A:=Int×List Int,fresh:=0,imm:=[false,true],dec:=fun args bs=>match xF (nA bs) [true,false] args,bs with
 | [.sl 0 1 a b,.c (.int .u32 c)],[.ints .u32 d]=>some (Q14.f N a b c d,fun r=>.one (.c (.int .u32 r.1)) [.ints .u32 r.2])
 |_,_=>none}
theorem Q14.env (N:Nat):aB Tryz.prog (Q14.E N):=⟨(.cons qF (.cons oE (.cons bE .nil))),.nil⟩
theorem Q14.k3 (N:Nat):xB Tryz.prog Tryz.f158 (Q14.E N) (.loop Q14.b3):=gD (Q14.env N) bA 394 (c:=Q14.c3 N) dA.n fun R vs H k r h=>by unfold Q14.c3 at h;dsimp only at h;split at h;exact⟨_,Q14.l3_eq .. ▸h⟩;cases h
theorem Q14.spec (N a c:Nat)(d:Int)(f:List Int)(r:Int×List Int)(h:Q14.f N a c d f=some r):fA Tryz.prog 158 [.sl 0 1 a c,.c (.int .u32 d)] [.ints .u32 f] (.c (.int .u32 r.1)) ([.ints .u32 r.2]):=vA (Q14.env N) bA Tryz.func158 (dA.of (l:=[(.loop (sA ((eA (bo Tryz.f158)).getD 0 .skip)))]) (by kernel_rfl) (dA.cons (Q14.k3 N) dA.nil)) ((Q14.f_eq ..).trans h) fun v b e=>by unfold Q14.dec at e;split at e<;>cases e;exact⟨rfl,rfl⟩
theorem Q14.ent_ok (N:Nat):uA Tryz.prog 158 (Q14.ent N):=by
 intro args bs a enc h;simp only[Q14.ent]at h;split at h
 ·rename_i hz;have h0:=Option.some.inj h;have h1:=congrArg Prod.fst h0;have h2:=congrArg Prod.snd h0;dsimp only at h1 h2;subst h2;exact fA.of_asSl (fl:=[true,false]) (by rw[hz];exact Q14.spec N _ _ _ _ a h1)
 ·cases h
noncomputable def Q15.l4 {R:Type}(N:Nat):Nat→List Int→Int→Int→Int→Int→List Int→(List Int→Option R)→Option R
 |0,_,_,_,_,_,_,_=>none
 |n+1,b,c,e,g,a,d,f=>
  bif decide (a<g)then
   bif decide (a<(b.length:Int))then
    bif (decide (0≤a))&&(decide (a<(b.length:Int)))then
     bif decide (0≤c)then
      bif (decide (0≤a))&&(decide (a<(d.length:Int)))then
       Q15.l4 N n b c (Int.fdiv (wD .u64 e (gA ((gA (b.getD a.toNat 0))*2^(min c.toNat 64)))) (2^32)) g (aA (a+1)) (d.set a.toNat (nB (wD .u64 e (gA ((gA (b.getD a.toNat 0))*2^(min c.toNat 64)))))) f
      else none
     else none
    else none
   else
   bif (decide (0≤a))&&(decide (a<(d.length:Int)))then
    Q15.l4 N n b c (Int.fdiv e (2^32)) g (aA (a+1)) (d.set a.toNat (nB e)) f
   else none
  else
  f d
noncomputable def Q15.f (N:Nat)(c:List Int)(d a:Int):Option (List Int):=
 bif decide (a=a)&&decide (0≤a)&&decide (a≤9223372036854775807)&&fB a.toNat 4 then
  Q15.l4 N N c d 0 ((List.replicate a.toNat (0:Int)).length:Int) 0 (List.replicate a.toNat (0:Int))
   (fun b=>
    some b)
 else none
noncomputable def Q15.h4:eD:=⟨[(0,.il .u32 1),(1,.any),(7,.row .u32 1),(8,.any),(13,.any),(14,.any)],[(7,.row .u32 1)]⟩
noncomputable def Q15.c4 (N:Nat):xH:=⟨fun vs H k=>match vs,H with
 | [.il .u32 1 b,.c (.int .i64 c),.sw 0 1,.c (.int .u64 d),.c (.int .i64 e),.c (.int .i64 f)],[.ints .u32 g]=>Q15.l4 N N b c d e f g (fun a=>k (.exit 0) ⟨dD Q15.h4.out [.sw 0 1],[.ints .u32 a]⟩)
 |_,_=>none⟩
noncomputable def Q15.E (N:Nat):bD:=bF [(78,fQ),(98,aO),(143,zI)] [] [(4,Q15.h4)] [(4,Q15.c4 N)] N [.tmp 6] [.row .u32 1] 0 39 true
noncomputable def Q15.b4:Code:=sA ((eA (bo Tryz.f166)).getD 0 .skip)
theorem Q15.l4_eq {R:Type}(N n:Nat)(b:List Int)(c d e f:Int)(g:List Int)(k:Ex→St→Option R):
  jB 0 Q15.h4 (fun s k=>bB (Q15.E N) 393 Q15.b4 s k) n [.il .u32 1 b,.c (.int .i64 c),.sw 0 1,.c (.int .u64 d),.c (.int .i64 e),.c (.int .i64 f)] [.ints .u32 g] k=Q15.l4 N n b c d e f g (fun a=>k (.exit 0) ⟨dD Q15.h4.out [.sw 0 1],[.ints .u32 a]⟩):=by
 induction n generalizing b c d e f g with
 |zero=>kernel_rfl
 |succ n ih=>
  simp only[Q15.l4,←ih]
  kernel_rfl
noncomputable def Q15.dec (v:V)(bs:List rA):Option (List Int):=match v,bs with
 | .sw 0 1,[.ints .u32 a]=>some a
 |_,_=>none
theorem Q15.f_eq (N:Nat)(a:List Int)(b c:Int):
  cB (Q15.E N) (bo Tryz.f166) [.il .u32 1 a,.c (.int .i64 b),.c (.int .i64 c)] [] Q15.dec=Q15.f N a b c:=by kernel_rfl
noncomputable def Q15.ent (N:Nat):xA:=wF (List Int) 1 [true,true,true] [.il .u32 1,.any,.any] fun
 | [.il .u32 1 a,.c (.int .i64 b),.c (.int .i64 c)]=>some (Q15.f N a b c,fun r=>.one (.sw 0 1) [.ints .u32 r])
 |_=>none
theorem Q15.env (N:Nat):aB Tryz.prog (Q15.E N):=⟨(.cons qF (.cons oE (.cons bE .nil))),.nil⟩
theorem Q15.k4 (N:Nat):xB Tryz.prog Tryz.f166 (Q15.E N) (.loop Q15.b4):=gD (Q15.env N) bA 393 (c:=Q15.c4 N) dA.n fun R vs H k r h=>by unfold Q15.c4 at h;dsimp only at h;split at h;exact⟨_,Q15.l4_eq .. ▸h⟩;cases h
theorem Q15.spec (N:Nat)(a:List Int)(c d:Int)(r:List Int)(h:Q15.f N a c d=some r):fA Tryz.prog 166 [.il .u32 1 a,.c (.int .i64 c),.c (.int .i64 d)] [] (.sw 0 1) ([.ints .u32 r]):=vA (Q15.env N) bA Tryz.func166 (dA.of (l:=[(.loop (sA ((eA (bo Tryz.f166)).getD 0 .skip)))]) (by kernel_rfl) (dA.cons (Q15.k4 N) dA.nil)) ((Q15.f_eq ..).trans h) fun v b e=>by unfold Q15.dec at e;split at e<;>cases e;exact⟨rfl,rfl⟩
theorem Q15.ent_ok (N:Nat):uA Tryz.prog 166 (Q15.ent N):=yA fun v a e h=>by split at h;exact nC (Q:=fun e=>fA _ _ _ _ (e a).pick.1 (e a).pick.2) h fun k=>Q15.spec N _ _ _ a k;cases h
noncomputable def Q16.l3 {R:Type}(N:Nat):Nat→List Int→Int→Int→Int→List Int→(List Int→Option R)→Option R
 |0,_,_,_,_,_,_=>none
 |n+1,b,c,f,a,d,e=>
  bif decide (a<f)then
   bif (decide (0≤a))&&(decide (a<(b.length:Int)))then
    bif decide ((aA (a+1))<(b.length:Int))then
     bif (decide (0≤(aA (a+1))))&&(decide ((aA (a+1))<(b.length:Int)))then
      bif decide (0≤c)then
       bif (decide (0≤a))&&(decide (a<(d.length:Int)))then
        Q16.l3 N n b c f (aA (a+1)) (d.set a.toNat (nB (Int.fdiv (wD .u64 (gA (b.getD a.toNat 0)) (gA ((gA (b.getD ((aA (a+1)).toNat) 0))*2^32))) (2^(min c.toNat 64))))) e
       else none
      else none
     else none
    else
    bif decide (0≤c)then
     bif (decide (0≤a))&&(decide (a<(d.length:Int)))then
      Q16.l3 N n b c f (aA (a+1)) (d.set a.toNat (nB (Int.fdiv (gA (b.getD a.toNat 0)) (2^(min c.toNat 64))))) e
     else none
    else none
   else none
  else
  e d
noncomputable def Q16.f (N:Nat)(a:List Int)(d:Int):Option (List Int):=
 bif decide ((a.length:Int)=(a.length:Int))&&decide (0≤(a.length:Int))&&decide ((a.length:Int)≤9223372036854775807)&&fB ((a.length:Int).toNat) 4 then
  Q16.l3 N N a d (a.length:Int) 0 (List.replicate ((a.length:Int).toNat) (0:Int))
   (fun c=>
    (Q2.f N 0 c.length c).bind fun b=>
    some ((b.2.2.drop b.1).take b.2.1))
 else none
noncomputable def Q16.h3:eD:=⟨[(0,.il .u32 1),(1,.any),(4,.box [.any]),(5,.row .u32 1),(12,.any),(13,.any)],[(4,.box [.any]),(5,.row .u32 1)]⟩
noncomputable def Q16.c3 (N:Nat):xH:=⟨fun vs H k=>match vs,H with
 | [.il .u32 1 a,.c (.int .i64 b),.ptr 0 0 1,.sw 1 1,.c (.int .i64 c),.c (.int .i64 d)],[.vals [.c (.slice none 0 0)],.ints .u32 e]=>Q16.l3 N N a b c d e (fun f=>k (.exit 0) ⟨dD Q16.h3.out [.ptr 0 0 1,.sw 1 1],[.vals [.c (.slice none 0 0)],.ints .u32 f]⟩)
 |_,_=>none⟩
noncomputable def Q16.E (N:Nat):bD:=bF [(78,fQ),(98,aO),(110,hF),(143,zI)] [(152,Q2.ent N)] [(3,Q16.h3)] [(3,Q16.c3 N)] N [.cell 4 110] [.recd [.il .u32 1]] 0 45
noncomputable def Q16.b3:Code:=sA ((eA (bo Tryz.f168)).getD 0 .skip)
theorem Q16.l3_eq {R:Type}(N n:Nat)(a:List Int)(b c d:Int)(e:List Int)(k:Ex→St→Option R):
  jB 0 Q16.h3 (fun s k=>bB (Q16.E N) 394 Q16.b3 s k) n [.il .u32 1 a,.c (.int .i64 b),.ptr 0 0 1,.sw 1 1,.c (.int .i64 c),.c (.int .i64 d)] [.vals [.c (.slice none 0 0)],.ints .u32 e] k=Q16.l3 N n a b c d e (fun f=>k (.exit 0) ⟨dD Q16.h3.out [.ptr 0 0 1,.sw 1 1],[.vals [.c (.slice none 0 0)],.ints .u32 f]⟩):=by
 induction n generalizing a b c d e with
 |zero=>kernel_rfl
 |succ n ih=>
  simp only[Q16.l3,←ih]
  kernel_rfl
noncomputable def Q16.dec (v:V)(bs:List rA):Option (List Int):=match v,bs with
 | .agg [.il .u32 1 a],[]=>some a
 |_,_=>none
theorem Q16.f_eq (N:Nat)(a:List Int)(b:Int):
  cB (Q16.E N) (bo Tryz.f168) [.il .u32 1 a,.c (.int .i64 b)] [] Q16.dec=Q16.f N a b:=by kernel_rfl
noncomputable def Q16.ent (N:Nat):xA:=wF (List Int) 0 [true,true] [.il .u32 1,.any] fun
 | [.il .u32 1 a,.c (.int .i64 b)]=>some (Q16.f N a b,fun r=>.one (.agg [.il .u32 1 r]) [])
 |_=>none
theorem Q16.env (N:Nat):aB Tryz.prog (Q16.E N):=⟨(.cons qF (.cons oE (.cons iC (.cons bE .nil)))),(.cons (Q2.ent_ok N) .nil)⟩
theorem Q16.k3 (N:Nat):xB Tryz.prog Tryz.f168 (Q16.E N) (.loop Q16.b3):=gD (Q16.env N) bA 394 (c:=Q16.c3 N) dA.n fun R vs H k r h=>by unfold Q16.c3 at h;dsimp only at h;split at h;exact⟨_,Q16.l3_eq .. ▸h⟩;cases h
theorem Q16.spec (N:Nat)(a:List Int)(c:Int)(r:List Int)(h:Q16.f N a c=some r):fA Tryz.prog 168 [.il .u32 1 a,.c (.int .i64 c)] [] (.agg [.il .u32 1 r]) ([]):=vA (Q16.env N) bA Tryz.func168 (dA.of (l:=[(.loop (sA ((eA (bo Tryz.f168)).getD 0 .skip)))]) (by kernel_rfl) (dA.cons (Q16.k3 N) dA.nil)) ((Q16.f_eq ..).trans h) fun v b e=>by unfold Q16.dec at e;split at e<;>cases e;exact⟨rfl,rfl⟩
theorem Q16.ent_ok (N:Nat):uA Tryz.prog 168 (Q16.ent N):=yA fun v a e h=>by split at h;exact nC (Q:=fun e=>fA _ _ _ _ (e a).pick.1 (e a).pick.2) h fun k=>Q16.spec N _ _ a k;cases h
noncomputable def Q17.l3 {R:Type}(N:Nat):Nat→Nat→Nat→List Int→Int→Int→Int→Int→Int→List Int→(Int→List Int→Option R)→Option R
 |0,_,_,_,_,_,_,_,_,_,_=>none
 |n+1,f,g,h,k,c,d,e,a,b,l=>
  bif decide (a<e)then
   bif decide (a<(h.length:Int))then
    bif (decide (0≤a))&&(decide (a<(h.length:Int)))then
     bif (decide (0≤a))&&(decide (a<(g:Int)))then
      (Q1.f N (b.getD (f+a.toNat) 0) (nB (gA (c+(gA ((gA (h.getD a.toNat 0))*(gA k)))))) d).bind fun i=>
      bif (decide (0≤a))&&(decide (a<(g:Int)))then
       Q17.l3 N n f g h k (Int.fdiv (gA (c+(gA ((gA (h.getD a.toNat 0))*(gA k))))) (2^32)) i.2 e (aA (a+1)) (b.set (f+a.toNat) i.1) l
      else none
     else none
    else none
   else
   bif (decide (0≤a))&&(decide (a<(g:Int)))then
    (Q1.f N (b.getD (f+a.toNat) 0) (nB c) d).bind fun j=>
    bif (decide (0≤a))&&(decide (a<(g:Int)))then
     Q17.l3 N n f g h k (Int.fdiv c (2^32)) j.2 e (aA (a+1)) (b.set (f+a.toNat) j.1) l
    else none
   else none
  else
  l d b
noncomputable def Q17.f (N d c:Nat)(e:List Int)(f:Int)(g:List Int):Option (Bool×List Int):=
 Q17.l3 N N d c e f 0 0 (c:Int) 0 g
  (fun a b=>
   some (a != 0,b))
noncomputable def Q17.h3:eD:=⟨[(0,.any),(1,.il .u32 1),(2,.any),(7,.any),(8,.any),(11,.any),(12,.any)],[(8,.any)]⟩
noncomputable def Q17.c3 (N:Nat):xH:=⟨fun vs H k=>match vs,H with
 | [.sl 0 1 h i,.il .u32 1 j,.c (.int .u32 l),.c (.int .u64 a),.c (.int .u32 b),.c (.int .i64 c),.c (.int .i64 d)],[.ints .u32 e]=>Q17.l3 N N h i j l a b c d e (fun f g=>k (.exit 0) ⟨dD Q17.h3.out [.c (.int .u32 f)],[.ints .u32 g]⟩)
 |_,_=>none⟩
noncomputable def Q17.E (N:Nat):bD:=bF [(78,fQ),(98,aO),(143,zI)] [(172,Q1.ent N)] [(3,Q17.h3)] [(3,Q17.c3 N)] N [.tmp 6] [.any] 1 48
noncomputable def Q17.b3:Code:=sA ((eA (bo Tryz.f167)).getD 0 .skip)
theorem Q17.l3_eq {R:Type}(N n h i:Nat)(j:List Int)(l a b c d:Int)(e:List Int)(k:Ex→St→Option R):
  jB 1 Q17.h3 (fun s k=>bB (Q17.E N) 394 Q17.b3 s k) n [.sl 0 1 h i,.il .u32 1 j,.c (.int .u32 l),.c (.int .u64 a),.c (.int .u32 b),.c (.int .i64 c),.c (.int .i64 d)] [.ints .u32 e] k=Q17.l3 N n h i j l a b c d e (fun f g=>k (.exit 0) ⟨dD Q17.h3.out [.c (.int .u32 f)],[.ints .u32 g]⟩):=by
 induction n generalizing h i j l a b c d e with
 |zero=>kernel_rfl
 |succ n ih=>
  simp only[Q17.l3,←ih]
  kernel_rfl
noncomputable def Q17.dec (v:V)(bs:List rA):Option (Bool×List Int):=match v,bs with
 | .c (.bool a),[.ints .u32 b]=>some (a,b)
 |_,_=>none
theorem Q17.f_eq (N a b:Nat)(c:List Int)(d:Int)(e:List Int):
  cB (Q17.E N) (bo Tryz.f167) [.sl 0 1 a b,.il .u32 1 c,.c (.int .u32 d)] [.ints .u32 e] Q17.dec=Q17.f N a b c d e:=by kernel_rfl
noncomputable def Q17.ent (N:Nat):xA:={A:=Bool×List Int,fresh:=0,imm:=[false,true,true],dec:=fun args bs=>match xF (nA bs) [true,false,false] args,bs with
 | [.sl 0 1 a b,.il .u32 1 c,.c (.int .u32 d)],[.ints .u32 e]=>some (Q17.f N a b c d e,fun r=>.one (.c (.bool r.1)) [.ints .u32 r.2])
 |_,_=>none}
theorem Q17.env (N:Nat):aB Tryz.prog (Q17.E N):=⟨(.cons qF (.cons oE (.cons bE .nil))),(.cons (Q1.ent_ok N) .nil)⟩
theorem Q17.k3 (N:Nat):xB Tryz.prog Tryz.f167 (Q17.E N) (.loop Q17.b3):=gD (Q17.env N) bA 394 (c:=Q17.c3 N) dA.n fun R vs H k r h=>by unfold Q17.c3 at h;dsimp only at h;split at h;exact⟨_,Q17.l3_eq .. ▸h⟩;cases h
theorem Q17.spec (N a c:Nat)(d:List Int)(f:Int)(g:List Int)(r:Bool×List Int)(h:Q17.f N a c d f g=some r):fA Tryz.prog 167 [.sl 0 1 a c,.il .u32 1 d,.c (.int .u32 f)] [.ints .u32 g] (.c (.bool r.1)) ([.ints .u32 r.2]):=vA (Q17.env N) bA Tryz.func167 (dA.of (l:=[(.loop (sA ((eA (bo Tryz.f167)).getD 0 .skip)))]) (by kernel_rfl) (dA.cons (Q17.k3 N) dA.nil)) ((Q17.f_eq ..).trans h) fun v b e=>by unfold Q17.dec at e;split at e<;>cases e;exact⟨rfl,rfl⟩
theorem Q17.ent_ok (N:Nat):uA Tryz.prog 167 (Q17.ent N):=by
 intro args bs a enc h;simp only[Q17.ent]at h;split at h
 ·rename_i hz;have h0:=Option.some.inj h;have h1:=congrArg Prod.fst h0;have h2:=congrArg Prod.snd h0;dsimp only at h1 h2;subst h2;exact fA.of_asSl (fl:=[true,false,false]) (by rw[hz];exact Q17.spec N _ _ _ _ _ a h1)
 ·cases h
noncomputable def Q18.l11 {R:Type}(N:Nat):Nat→Int→Int→Int→Int→Int→List Int→List Int→List Int→(Int→Int→Int→Int→List Int→List Int→List Int→Option R)→Option R
 |0,_,_,_,_,_,_,_,_,_=>none
 |n+1,a,f,c,d,g,b,e,h,i=>
  bif (Int.fdiv d (2^32)) != 0 then
   bif (decide (0≤(aA (a-1))))&&(decide ((aA (a-1))<(b.length:Int)))then
    bif (Int.fdiv (gA (g+(gA (b.getD ((aA (a-1)).toNat) 0)))) (2^32)) != 0 then
     i a f c (gA (d-1)) b e h
    else
    Q18.l11 N n a f c (gA (d-1)) (gA (g+(gA (b.getD ((aA (a-1)).toNat) 0)))) b e h i
   else none
  else
  bif (decide (0≤(aA (a-2))))&&(decide ((aA (a-2))<(b.length:Int)))then
   bif (decide (0≤(aA ((aA (c+a))-2))))&&(decide ((aA ((aA (c+a))-2))<(e.length:Int)))then
    bif decide ((gA (d*(gA (b.getD ((aA (a-2)).toNat) 0))))>(wD .u64 (gA (g*2^32)) (gA (e.getD ((aA ((aA (c+a))-2)).toNat) 0))))then
     bif (decide (0≤(aA (a-1))))&&(decide ((aA (a-1))<(b.length:Int)))then
      bif (Int.fdiv (gA (g+(gA (b.getD ((aA (a-1)).toNat) 0)))) (2^32)) != 0 then
       i a f c (gA (d-1)) b e h
      else
      Q18.l11 N n a f c (gA (d-1)) (gA (g+(gA (b.getD ((aA (a-1)).toNat) 0)))) b e h i
     else none
    else
    i a f c d b e h
   else none
  else none
noncomputable def Q18.l21 {R:Type}(N:Nat):Nat→Int→Int→Int→Nat→Nat→Int→Int→Int→List Int→List Int→List Int→(Int→Int→Int→List Int→List Int→List Int→Option R)→Option R
 |0,_,_,_,_,_,_,_,_,_,_,_,_=>none
 |n+1,f,h,i,b,e,g,j,a,d,c,k,l=>
  bif decide (a<j)then
   bif (decide (0≤a))&&(decide (a<(e:Int)))then
    bif decide (a<f)then
     bif (decide (0≤a))&&(decide (a<(d.length:Int)))then
      bif (decide (0≤a))&&(decide (a<(e:Int)))then
       Q18.l21 N n f h i b e (Int.fdiv (gA ((gA (g+(gA (c.getD (b+a.toNat) 0))))+(gA (d.getD a.toNat 0)))) (2^32)) j (aA (a+1)) d (c.set (b+a.toNat) (nB (gA ((gA (g+(gA (c.getD (b+a.toNat) 0))))+(gA (d.getD a.toNat 0)))))) k l
      else none
     else none
    else
    bif (decide (0≤a))&&(decide (a<(e:Int)))then
     Q18.l21 N n f h i b e (Int.fdiv (gA (g+(gA (c.getD (b+a.toNat) 0)))) (2^32)) j (aA (a+1)) d (c.set (b+a.toNat) (nB (gA (g+(gA (c.getD (b+a.toNat) 0)))))) k l
    else none
   else none
  else
  l f h i d c k
noncomputable def Q18.l7 {R:Type}(N:Nat):Nat→Int→Int→Int→List Int→List Int→List Int→(Int→List Int→List Int→Option R)→Option R
 |0,_,_,_,_,_,_,_=>none
 |n+1,d,v,e,h,c,k,o=>
  bif decide (e≥0)then
   bif (decide (0≤(aA (e+d))))&&(decide ((aA (e+d))<(c.length:Int)))then
    bif (decide (0≤(aA ((aA (e+d))-1))))&&(decide ((aA ((aA (e+d))-1))<(c.length:Int)))then
     bif (decide (0≤(aA (d-1))))&&(decide ((aA (d-1))<(h.length:Int)))then
      bif !((gA (h.getD ((aA (d-1)).toNat) 0))==0)then
       bif (decide (0≤(aA (d-1))))&&(decide ((aA (d-1))<(h.length:Int)))then
        bif !((gA (h.getD ((aA (d-1)).toNat) 0))==0)then
         Q18.l11 N N d v e (gA (Int.tdiv (wD .u64 (gA ((gA (c.getD ((aA (e+d)).toNat) 0))*2^32)) (gA (c.getD ((aA ((aA (e+d))-1)).toNat) 0))) (gA (h.getD ((aA (d-1)).toNat) 0)))) (Int.tmod (wD .u64 (gA ((gA (c.getD ((aA (e+d)).toNat) 0))*2^32)) (gA (c.getD ((aA ((aA (e+d))-1)).toNat) 0))) (gA (h.getD ((aA (d-1)).toNat) 0))) h c k
          (fun b l a i j m f=>
           bif (((decide (0≤a))&&(decide (a≤(aA ((aA (a+b))+1)))))&&(decide ((aA ((aA (a+b))+1))≤(aA ((aA (a+b))+1)))))&&(decide ((aA ((aA (a+b))+1))≤(m.length:Int)))then
            (Q17.f N a.toNat (((aA ((aA (a+b))+1)).toNat)-a.toNat) j (nB i) m).bind fun g=>
            bif !g.1 then
             bif (decide (0≤a))&&(decide (a<(f.length:Int)))then
              Q18.l7 N n b l (aA (a-1)) j g.2 (f.set a.toNat (nB i)) o
             else none
            else
            bif (decide (0≤a))&&(decide (a<(f.length:Int)))then
             Q18.l21 N N b l a a.toNat (((aA ((aA (a+b))+1)).toNat)-a.toNat) 0 ((((aA ((aA (a+b))+1)).toNat)-a.toNat:Nat):Int) 0 j g.2 (f.set a.toNat (nB ((nB i)-1)))
              (fun p q r s t u=>
               Q18.l7 N n p q (aA (r-1)) s t u o)
            else none
           else none)
        else none
       else none
      else none
     else none
    else none
   else none
  else
  o v c k
noncomputable def Q18.f (N:Nat)(i a:List Int):Option (List Int×List Int):=
 bif (decide (0≤(aA ((a.length:Int)-1))))&&(decide ((aA ((a.length:Int)-1))<(a.length:Int)))then
  (Q13.f N (a.getD ((aA ((a.length:Int)-1)).toNat) 0)).bind fun e=>
  (Q15.f N a e (a.length:Int)).bind fun j=>
  (Q15.f N i e (aA ((i.length:Int)+1))).bind fun b=>
  bif decide (aA ((b.length:Int)- (a.length:Int))=aA ((b.length:Int)- (a.length:Int)))&&decide (0≤aA ((b.length:Int)- (a.length:Int)))&&decide (aA ((b.length:Int)- (a.length:Int))≤9223372036854775807)&&fB ((aA ((b.length:Int)- (a.length:Int))).toNat) 4 then
   Q18.l7 N N (a.length:Int) e (aA ((aA ((b.length:Int)- (a.length:Int)))-1)) j b (List.replicate ((aA ((b.length:Int)- (a.length:Int))).toNat) (0:Int))
    (fun g h d=>
     (Q2.f N 0 d.length d).bind fun c=>
     (Q16.f N h g).bind fun f=>
     some ((c.2.2.drop c.1).take c.2.1,f))
  else none
 else none
noncomputable def Q18.h7:eD:=⟨[(4,.box [.any]),(5,.box [.any]),(6,.any),(7,.any),(8,.row .u32 1),(9,.row .u32 1),(11,.row .u32 1),(12,.any)],[(4,.box [.any]),(5,.box [.any]),(7,.any),(9,.row .u32 1),(11,.row .u32 1)]⟩
noncomputable def Q18.h11:eD:=⟨[(4,.box [.any]),(5,.box [.any]),(6,.any),(7,.any),(8,.row .u32 1),(9,.row .u32 1),(11,.row .u32 1),(12,.any),(14,.any),(15,.any)],[(4,.box [.any]),(5,.box [.any]),(6,.any),(7,.any),(8,.row .u32 1),(9,.row .u32 1),(11,.row .u32 1),(12,.any),(14,.any)]⟩
noncomputable def Q18.h21:eD:=⟨[(4,.box [.any]),(5,.box [.any]),(6,.any),(7,.any),(8,.row .u32 1),(9,.row .u32 1),(11,.row .u32 1),(12,.any),(16,.part .u32 1),(17,.any),(156,.any),(157,.any)],[(4,.box [.any]),(5,.box [.any]),(6,.any),(7,.any),(8,.row .u32 1),(9,.row .u32 1),(11,.row .u32 1),(12,.any)]⟩
noncomputable def Q18.c11 (N:Nat):xH:=⟨fun vs H k=>match vs,H with
 | [.ptr 0 0 1,.ptr 1 0 1,.c (.int .i64 a),.c (.int .i64 b),.sw 2 1,.sw 3 1,.sw 4 1,.c (.int .i64 c),.c (.int .u64 d),.c (.int .u64 e)],[.vals [.c (.slice none 0 0)],.vals [.c (.slice none 0 0)],.ints .u32 f,.ints .u32 g,.ints .u32 h]=>Q18.l11 N N a b c d e f g h (fun i j l m o p q=>k (.exit 2) ⟨dD Q18.h11.out [.ptr 0 0 1,.ptr 1 0 1,.c (.int .i64 i),.c (.int .i64 j),.sw 2 1,.sw 3 1,.sw 4 1,.c (.int .i64 l),.c (.int .u64 m)],[.vals [.c (.slice none 0 0)],.vals [.c (.slice none 0 0)],.ints .u32 o,.ints .u32 p,.ints .u32 q]⟩)
 |_,_=>none⟩
noncomputable def Q18.c21 (N:Nat):xH:=⟨fun vs H k=>match vs,H with
 | [.ptr 0 0 1,.ptr 1 0 1,.c (.int .i64 a),.c (.int .i64 b),.sw 2 1,.sw 3 1,.sw 4 1,.c (.int .i64 c),.sl 3 1 d e,.c (.int .u64 f),.c (.int .i64 g),.c (.int .i64 h)],[.vals [.c (.slice none 0 0)],.vals [.c (.slice none 0 0)],.ints .u32 i,.ints .u32 j,.ints .u32 l]=>Q18.l21 N N a b c d e f g h i j l (fun m o p q r s=>k (.exit 4) ⟨dD Q18.h21.out [.ptr 0 0 1,.ptr 1 0 1,.c (.int .i64 m),.c (.int .i64 o),.sw 2 1,.sw 3 1,.sw 4 1,.c (.int .i64 p)],[.vals [.c (.slice none 0 0)],.vals [.c (.slice none 0 0)],.ints .u32 q,.ints .u32 r,.ints .u32 s]⟩)
 |_,_=>none⟩
noncomputable def Q18.c7 (N:Nat):xH:=⟨fun vs H k=>match vs,H with
 | [.ptr 0 0 1,.ptr 1 0 1,.c (.int .i64 f),.c (.int .i64 g),.sw 2 1,.sw 3 1,.sw 4 1,.c (.int .i64 h)],[.vals [.c (.slice none 0 0)],.vals [.c (.slice none 0 0)],.ints .u32 i,.ints .u32 a,.ints .u32 b]=>Q18.l7 N N f g h i a b (fun c d e=>k (.exit 0) ⟨dD Q18.h7.out [.ptr 0 0 1,.ptr 1 0 1,.c (.int .i64 c),.sw 2 1,.sw 3 1],[.vals [.c (.slice none 0 0)],.vals [.c (.slice none 0 0)],.ints .u32 d,.ints .u32 e]⟩)
 |_,_=>none⟩
noncomputable def Q18.E (N:Nat):bD:=bF [(78,fQ),(98,aO),(110,hF),(143,zI)] [(165,Q13.ent N),(166,Q15.ent N),(167,Q17.ent N),(152,Q2.ent N),(168,Q16.ent N)] [(7,Q18.h7),(11,Q18.h11),(21,Q18.h21)] [(11,Q18.c11 N),(21,Q18.c21 N),(7,Q18.c7 N)] N [.cell 4 110,.cell 5 110] [.recd [.il .u32 1],.recd [.il .u32 1]] 0 190
noncomputable def Q18.b11:Code:=sA ((eA (bo Tryz.f159)).getD 2 .skip)
theorem Q18.l11_eq {R:Type}(N n:Nat)(a b c d e:Int)(f g h:List Int)(k:Ex→St→Option R):
  jB 0 Q18.h11 (fun s k=>bB (Q18.E N) 380 Q18.b11 s k) n [.ptr 0 0 1,.ptr 1 0 1,.c (.int .i64 a),.c (.int .i64 b),.sw 2 1,.sw 3 1,.sw 4 1,.c (.int .i64 c),.c (.int .u64 d),.c (.int .u64 e)] [.vals [.c (.slice none 0 0)],.vals [.c (.slice none 0 0)],.ints .u32 f,.ints .u32 g,.ints .u32 h] k=Q18.l11 N n a b c d e f g h (fun i j l m o p q=>k (.exit 2) ⟨dD Q18.h11.out [.ptr 0 0 1,.ptr 1 0 1,.c (.int .i64 i),.c (.int .i64 j),.sw 2 1,.sw 3 1,.sw 4 1,.c (.int .i64 l),.c (.int .u64 m)],[.vals [.c (.slice none 0 0)],.vals [.c (.slice none 0 0)],.ints .u32 o,.ints .u32 p,.ints .u32 q]⟩):=by
 induction n generalizing a b c d e f g h with
 |zero=>kernel_rfl
 |succ n ih=>
  simp only[Q18.l11,←ih]
  kernel_rfl
noncomputable def Q18.b21:Code:=sA ((eA (bo Tryz.f159)).getD 3 .skip)
theorem Q18.l21_eq {R:Type}(N n:Nat)(a b c:Int)(d e:Nat)(f g h:Int)(i j l:List Int)(k:Ex→St→Option R):
  jB 0 Q18.h21 (fun s k=>bB (Q18.E N) 375 Q18.b21 s k) n [.ptr 0 0 1,.ptr 1 0 1,.c (.int .i64 a),.c (.int .i64 b),.sw 2 1,.sw 3 1,.sw 4 1,.c (.int .i64 c),.sl 3 1 d e,.c (.int .u64 f),.c (.int .i64 g),.c (.int .i64 h)] [.vals [.c (.slice none 0 0)],.vals [.c (.slice none 0 0)],.ints .u32 i,.ints .u32 j,.ints .u32 l] k=Q18.l21 N n a b c d e f g h i j l (fun m o p q r t=>k (.exit 4) ⟨dD Q18.h21.out [.ptr 0 0 1,.ptr 1 0 1,.c (.int .i64 m),.c (.int .i64 o),.sw 2 1,.sw 3 1,.sw 4 1,.c (.int .i64 p)],[.vals [.c (.slice none 0 0)],.vals [.c (.slice none 0 0)],.ints .u32 q,.ints .u32 r,.ints .u32 t]⟩):=by
 induction n generalizing a b c d e f g h i j l with
 |zero=>kernel_rfl
 |succ n ih=>
  simp only[Q18.l21,←ih]
  kernel_rfl
noncomputable def Q18.b7:Code:=sA ((eA (bo Tryz.f159)).getD 1 .skip)
theorem Q18.l7_eq {R:Type}(N n:Nat)(e g h:Int)(i a b:List Int)(k:Ex→St→Option R):
  jB 0 Q18.h7 (fun s k=>bB (Q18.E N) 388 Q18.b7 s k) n [.ptr 0 0 1,.ptr 1 0 1,.c (.int .i64 e),.c (.int .i64 g),.sw 2 1,.sw 3 1,.sw 4 1,.c (.int .i64 h)] [.vals [.c (.slice none 0 0)],.vals [.c (.slice none 0 0)],.ints .u32 i,.ints .u32 a,.ints .u32 b] k=Q18.l7 N n e g h i a b (fun c d f=>k (.exit 0) ⟨dD Q18.h7.out [.ptr 0 0 1,.ptr 1 0 1,.c (.int .i64 c),.sw 2 1,.sw 3 1],[.vals [.c (.slice none 0 0)],.vals [.c (.slice none 0 0)],.ints .u32 d,.ints .u32 f]⟩):=by
 induction n generalizing e g h i a b with
 |zero=>kernel_rfl
 |succ n ih=>
  simp only[Q18.l7,←ih]
  kernel_rfl
noncomputable def Q18.dec (v:V)(bs:List rA):Option (List Int×List Int):=match v,bs with
 | .tup [.agg [.il .u32 1 a],.agg [.il .u32 1 b]],[]=>some (a,b)
 |_,_=>none
theorem Q18.f_eq (N:Nat)(a b:List Int):
  cB (Q18.E N) (bo Tryz.f159) [.agg [.il .u32 1 a],.agg [.il .u32 1 b]] [] Q18.dec=Q18.f N a b:=by kernel_rfl
noncomputable def Q18.ent (N:Nat):xA:=wF (List Int×List Int) 0 [true,true] [.recd [.il .u32 1],.recd [.il .u32 1]] fun
 | [.agg [.il .u32 1 a],.agg [.il .u32 1 b]]=>some (Q18.f N a b,fun r=>.one (.tup [.agg [.il .u32 1 r.1],.agg [.il .u32 1 r.2]]) [])
 |_=>none
theorem Q18.env (N:Nat):aB Tryz.prog (Q18.E N):=⟨(.cons qF (.cons oE (.cons iC (.cons bE .nil)))),(.cons (Q13.ent_ok N) (.cons (Q15.ent_ok N) (.cons (Q17.ent_ok N) (.cons (Q2.ent_ok N) (.cons (Q16.ent_ok N) .nil)))))⟩
theorem Q18.k21 (N:Nat):xB Tryz.prog Tryz.f159 (Q18.E N) (.loop Q18.b21):=gD (Q18.env N) bA 375 (c:=Q18.c21 N) dA.n fun R vs H k r h=>by unfold Q18.c21 at h;dsimp only at h;split at h;exact⟨_,Q18.l21_eq .. ▸h⟩;cases h
theorem Q18.k11 (N:Nat):xB Tryz.prog Tryz.f159 (Q18.E N) (.loop Q18.b11):=gD (Q18.env N) bA 380 (c:=Q18.c11 N) dA.n fun R vs H k r h=>by unfold Q18.c11 at h;dsimp only at h;split at h;exact⟨_,Q18.l11_eq .. ▸h⟩;cases h
theorem Q18.k7 (N:Nat):xB Tryz.prog Tryz.f159 (Q18.E N) (.loop Q18.b7):=gD (Q18.env N) bA 388 (c:=Q18.c7 N) (dA.of (l:=[(.loop (sA ((eA (bo Tryz.f159)).getD 2 .skip))),(.loop (sA ((eA (bo Tryz.f159)).getD 3 .skip)))]) (by kernel_rfl) (dA.cons (Q18.k11 N) (dA.cons (Q18.k21 N) dA.nil))) fun R vs H k r h=>by unfold Q18.c7 at h;dsimp only at h;split at h;exact⟨_,Q18.l7_eq .. ▸h⟩;cases h
theorem Q18.spec (N:Nat)(a c:List Int)(r:List Int×List Int)(h:Q18.f N a c=some r):fA Tryz.prog 159 [.agg [.il .u32 1 a],.agg [.il .u32 1 c]] [] (.tup [.agg [.il .u32 1 r.1],.agg [.il .u32 1 r.2]]) ([]):=vA (Q18.env N) bA Tryz.func159 (dA.of (l:=[(.scope (sA ((eA (bo Tryz.f159)).getD 0 .skip))),(.loop (sA ((eA (bo Tryz.f159)).getD 1 .skip))),(.loop (sA ((eA (bo Tryz.f159)).getD 2 .skip))),(.loop (sA ((eA (bo Tryz.f159)).getD 3 .skip)))]) (by kernel_rfl) (dA.cons (qP (by kernel_rfl)) (dA.cons (Q18.k7 N) (dA.cons (Q18.k11 N) (dA.cons (Q18.k21 N) dA.nil))))) ((Q18.f_eq ..).trans h) fun v b e=>by unfold Q18.dec at e;split at e<;>cases e;exact⟨rfl,rfl⟩
theorem Q18.ent_ok (N:Nat):uA Tryz.prog 159 (Q18.ent N):=yA fun v a e h=>by split at h;exact nC (Q:=fun e=>fA _ _ _ _ (e a).pick.1 (e a).pick.2) h fun k=>Q18.spec N _ _ a k;cases h
noncomputable def Q19.f (N:Nat)(a b:List Int):Option (List Int×List Int×Int):=
 bif (b.length:Int)==0 then
  some ([],[],11)
 else
 (Q7.f N a b).bind fun f=>
 bif decide (f<0)then
  some ([],a,0)
 else
 bif (b.length:Int)==1 then
  bif fB a.length 4 then
   bif decide (0<(b.length:Int))then
    (Q14.f N 0 a.length (b.getD 0 0) a).bind fun c=>
    (Q2.f N 0 c.2.length c.2).bind fun d=>
    (Q5.f N (gA c.1)).bind fun g=>
    some ((d.2.2.drop d.1).take d.2.1,g,0)
   else none
  else none
 else
 (Q18.f N a b).bind fun e=>
 some (e.1,e.2,0)
noncomputable def Q19.E (N:Nat):bD:=bF [(78,fQ),(98,aO),(110,hF),(143,zI)] [(157,Q7.ent N),(158,Q14.ent N),(152,Q2.ent N),(122,Q5.ent N),(159,Q18.ent N)] [] [] N [.cell 4 110,.cell 5 110,.tmp 6] [.recd [.il .u32 1],.recd [.il .u32 1],.any] 0 47
noncomputable def Q19.dec (v:V)(bs:List rA):Option (List Int×List Int×Int):=match v,bs with
 | .tup [.agg [.il .u32 1 a],.agg [.il .u32 1 b],.c (.int .i64 c)],[]=>some (a,b,c)
 |_,_=>none
theorem Q19.f_eq (N:Nat)(a b:List Int):
  cB (Q19.E N) (bo Tryz.f145) [.agg [.il .u32 1 a],.agg [.il .u32 1 b]] [] Q19.dec=Q19.f N a b:=by kernel_rfl
noncomputable def Q19.ent (N:Nat):xA:=wF (List Int×List Int×Int) 0 [true,true] [.recd [.il .u32 1],.recd [.il .u32 1]] fun
 | [.agg [.il .u32 1 a],.agg [.il .u32 1 b]]=>some (Q19.f N a b,fun r=>.one (.tup [.agg [.il .u32 1 r.1],.agg [.il .u32 1 r.2.1],.c (.int .i64 r.2.2)]) [])
 |_=>none
theorem Q19.env (N:Nat):aB Tryz.prog (Q19.E N):=⟨(.cons qF (.cons oE (.cons iC (.cons bE .nil)))),(.cons (Q7.ent_ok N) (.cons (Q14.ent_ok N) (.cons (Q2.ent_ok N) (.cons (Q5.ent_ok N) (.cons (Q18.ent_ok N) .nil)))))⟩
theorem Q19.spec (N:Nat)(a c:List Int)(r:List Int×List Int×Int)(h:Q19.f N a c=some r):fA Tryz.prog 145 [.agg [.il .u32 1 a],.agg [.il .u32 1 c]] [] (.tup [.agg [.il .u32 1 r.1],.agg [.il .u32 1 r.2.1],.c (.int .i64 r.2.2)]) ([]):=vA (Q19.env N) bA Tryz.func145 dA.n ((Q19.f_eq ..).trans h) fun v b e=>by unfold Q19.dec at e;split at e<;>cases e;exact⟨rfl,rfl⟩
theorem Q19.ent_ok (N:Nat):uA Tryz.prog 145 (Q19.ent N):=yA fun v a e h=>by split at h;exact nC (Q:=fun e=>fA _ _ _ _ (e a).pick.1 (e a).pick.2) h fun k=>Q19.spec N _ _ a k;cases h
noncomputable def Q20.l1 {R:Type}(N:Nat):Nat→List Int→List Int→(List Int→Option R)→Option R
 |0,_,_,_=>none
 |n+1,c,a,b=>
  bif decide ((a.length:Int)>0)then
   (Q19.f N c a).bind fun d=>
   Q20.l1 N n a d.2.1 b
  else
  b c
noncomputable def Q20.f (N:Nat)(a b:List Int):Option (List Int):=
 Q20.l1 N N a b
  (fun c=>
   some c)
noncomputable def Q20.h1:eD:=⟨[(2,.box [.il .u32 1]),(3,.box [.il .u32 1]),(4,.box [.any])],[(2,.box [.il .u32 1]),(4,.box [.any])]⟩
noncomputable def Q20.c1 (N:Nat):xH:=⟨fun vs H k=>match vs,H with
 | [.ptr 0 0 1,.ptr 1 0 1,.ptr 2 0 1],[.vals [.il .u32 1 a],.vals [.il .u32 1 b],.vals [.c (.slice none 0 0)]]=>Q20.l1 N N a b (fun c=>k (.exit 0) ⟨dD Q20.h1.out [.ptr 0 0 1,.ptr 1 0 1],[.vals [.il .u32 1 c],.vals [.c (.slice none 0 0)]]⟩)
 |_,_=>none⟩
noncomputable def Q20.E (N:Nat):bD:=bF [(98,aO),(110,hF)] [(145,Q19.ent N)] [(1,Q20.h1)] [(1,Q20.c1 N)] N [.cell 4 110] [.recd [.il .u32 1]] 0 22
noncomputable def Q20.b1:Code:=sA ((eA (bo Tryz.f118)).getD 0 .skip)
theorem Q20.l1_eq {R:Type}(N n:Nat)(a b:List Int)(k:Ex→St→Option R):
  jB 0 Q20.h1 (fun s k=>bB (Q20.E N) 396 Q20.b1 s k) n [.ptr 0 0 1,.ptr 1 0 1,.ptr 2 0 1] [.vals [.il .u32 1 a],.vals [.il .u32 1 b],.vals [.c (.slice none 0 0)]] k=Q20.l1 N n a b (fun c=>k (.exit 0) ⟨dD Q20.h1.out [.ptr 0 0 1,.ptr 1 0 1],[.vals [.il .u32 1 c],.vals [.c (.slice none 0 0)]]⟩):=by
 induction n generalizing a b with
 |zero=>kernel_rfl
 |succ n ih=>
  simp only[Q20.l1,←ih]
  kernel_rfl
noncomputable def Q20.dec (v:V)(bs:List rA):Option (List Int):=match v,bs with
 | .agg [.il .u32 1 a],[]=>some a
 |_,_=>none
theorem Q20.f_eq (N:Nat)(a b:List Int):
  cB (Q20.E N) (bo Tryz.f118) [.agg [.il .u32 1 a],.agg [.il .u32 1 b]] [] Q20.dec=Q20.f N a b:=by kernel_rfl
noncomputable def Q20.ent (N:Nat):xA:=wF (List Int) 0 [true,true] [.recd [.il .u32 1],.recd [.il .u32 1]] fun
 | [.agg [.il .u32 1 a],.agg [.il .u32 1 b]]=>some (Q20.f N a b,fun r=>.one (.agg [.il .u32 1 r]) [])
 |_=>none
theorem Q20.env (N:Nat):aB Tryz.prog (Q20.E N):=⟨(.cons oE (.cons iC .nil)),(.cons (Q19.ent_ok N) .nil)⟩
theorem Q20.k1 (N:Nat):xB Tryz.prog Tryz.f118 (Q20.E N) (.loop Q20.b1):=gD (Q20.env N) bA 396 (c:=Q20.c1 N) dA.n fun R vs H k r h=>by unfold Q20.c1 at h;dsimp only at h;split at h;exact⟨_,Q20.l1_eq .. ▸h⟩;cases h
theorem Q20.spec (N:Nat)(a c r:List Int)(h:Q20.f N a c=some r):fA Tryz.prog 118 [.agg [.il .u32 1 a],.agg [.il .u32 1 c]] [] (.agg [.il .u32 1 r]) ([]):=vA (Q20.env N) bA Tryz.func118 (dA.of (l:=[(.loop (sA ((eA (bo Tryz.f118)).getD 0 .skip)))]) (by kernel_rfl) (dA.cons (Q20.k1 N) dA.nil)) ((Q20.f_eq ..).trans h) fun v b e=>by unfold Q20.dec at e;split at e<;>cases e;exact⟨rfl,rfl⟩
theorem Q20.ent_ok (N:Nat):uA Tryz.prog 118 (Q20.ent N):=yA fun v a e h=>by split at h;exact nC (Q:=fun e=>fA _ _ _ _ (e a).pick.1 (e a).pick.2) h fun k=>Q20.spec N _ _ a k;cases h
noncomputable def Q21.l2 {R:Type}(N:Nat):Nat→Nat→Nat→Int→List Int→(Nat→Nat→Int→List Int→Option R)→Option R
 |0,_,_,_,_,_=>none
 |n+1,b,c,a,d,e=>
  bif decide (a>0)then
   bif (decide (0≤(aA (a-1))))&&(decide ((aA (a-1))<(c:Int)))then
    bif (d.getD (b+((aA (a-1)).toNat)) 0)==0 then
     Q21.l2 N n b c (aA (a-1)) d e
    else
    e b c a d
   else none
  else
  e b c a d
noncomputable def Q21.f (N f e:Nat)(g:List Int):Option (Nat×Nat×List Int):=
 Q21.l2 N N f e (e:Int) g
  (fun c a b d=>
   bif ((decide (0≤b))&&(decide (b≤(a:Int))))&&(decide ((a:Int)≤(a:Int)))then
    some (c,b.toNat,d)
   else none)
noncomputable def Q22.l2 {R:Type}(N:Nat):Nat→Int→List Int→(List Int→Option R)→Option R
 |0,_,_,_=>none
 |n+1,a,b,c=>
  bif decide (a>0)then
   bif fB (b.length+1) 4 then
    Q22.l2 N n (gA (Int.tdiv a 65536)) (b++[nB (Int.tmod a 65536)]) c
   else none
  else
  c b
noncomputable def Q22.f (N:Nat)(a:Int):Option (List Int):=
 Q22.l2 N N a []
  (fun b=>
   some b)
noncomputable def Q23.l5 {R:Type}(N:Nat):Nat→List Int→Int→Int→(Int→Option R)→Option R
 |0,_,_,_,_=>none
 |n+1,b,d,a,c=>
  bif decide (a≥0)then
   bif (decide (0≤a))&&(decide (a<(b.length:Int)))then
    Q23.l5 N n b (gA ((gA (d*65536))+(gA (b.getD a.toNat 0)))) (aA (a-1)) c
   else none
  else
  c d
noncomputable def Q23.f (N:Nat)(a:List Int):Option (Int×Bool):=
 bif decide ((a.length:Int)>4)then
  some (0,false)
 else
 Q23.l5 N N a 0 (aA ((a.length:Int)-1))
  (fun b=>
   some (b,true))
noncomputable def Q24.l5 {R:Type}(N:Nat):Nat→Int→Int→(Int→Option R)→Option R
 |0,_,_,_=>none
 |n+1,b,c,a=>
  bif decide (c>0)then
   Q24.l5 N n (aA (b+1)) (nB (Int.tdiv c 2)) a
  else
  a b
noncomputable def Q24.f (N:Nat)(a:List Int):Option (Int):=
 bif (a.length:Int)==0 then
  some 0
 else
 bif (decide (0≤(aA ((a.length:Int)-1))))&&(decide ((aA ((a.length:Int)-1))<(a.length:Int)))then
  Q24.l5 N N (aA (16*(aA ((a.length:Int)-1)))) (a.getD ((aA ((a.length:Int)-1)).toNat) 0)
   (fun b=>
    some b)
 else none
noncomputable def Q25.l6 {R:Type}(N:Nat):Nat→List Int→List Int→Int→(Unit→Option R)→(Int→Option R)→Option R
 |0,_,_,_,_,_=>none
 |n+1,b,c,a,d,kr=>
  bif decide (a≥0)then
   bif (decide (0≤a))&&(decide (a<(b.length:Int)))then
    bif (decide (0≤a))&&(decide (a<(c.length:Int)))then
     bif decide ((b.getD a.toNat 0)<(c.getD a.toNat 0))then
      kr (-1)
     else
     bif (decide (0≤a))&&(decide (a<(b.length:Int)))then
      bif (decide (0≤a))&&(decide (a<(c.length:Int)))then
       bif decide ((b.getD a.toNat 0)>(c.getD a.toNat 0))then
        kr 1
       else
       Q25.l6 N n b c (aA (a-1)) d kr
      else none
     else none
    else none
   else none
  else
  d ()
noncomputable def Q25.f (N:Nat)(a b:List Int):Option (Int):=
 bif (a.length:Int) != (b.length:Int)then
  bif decide ((a.length:Int)<(b.length:Int))then
   some (-1)
  else
  some 1
 else
 Q25.l6 N N a b (aA ((a.length:Int)-1))
  (fun(_:Unit)=>
   some 0)
  (fun c=>
   some c)
noncomputable def Q26.l4 {R:Type}(N:Nat):Nat→List Int→List Int→Int→Int→List Int→(List Int→Option R)→Option R
 |0,_,_,_,_,_,_=>none
 |n+1,c,b,d,a,e,f=>
  bif decide (a<(c.length:Int))then
   bif decide (a<(c.length:Int))then
    bif (decide (0≤a))&&(decide (a<(c.length:Int)))then
     bif decide (a<(b.length:Int))then
      bif (decide (0≤a))&&(decide (a<(b.length:Int)))then
       bif fB (e.length+1) 4 then
        Q26.l4 N n c b (nB (Int.tdiv (nB ((nB (d+(c.getD a.toNat 0)))+(b.getD a.toNat 0))) 65536)) (aA (a+1)) (e++[Int.tmod (nB ((nB (d+(c.getD a.toNat 0)))+(b.getD a.toNat 0))) 65536]) f
       else none
      else none
     else
     bif fB (e.length+1) 4 then
      Q26.l4 N n c b (nB (Int.tdiv (nB (d+(c.getD a.toNat 0))) 65536)) (aA (a+1)) (e++[Int.tmod (nB (d+(c.getD a.toNat 0))) 65536]) f
     else none
    else none
   else
   bif decide (a<(b.length:Int))then
    bif (decide (0≤a))&&(decide (a<(b.length:Int)))then
     bif fB (e.length+1) 4 then
      Q26.l4 N n c b (nB (Int.tdiv (nB (d+(b.getD a.toNat 0))) 65536)) (aA (a+1)) (e++[Int.tmod (nB (d+(b.getD a.toNat 0))) 65536]) f
     else none
    else none
   else
   bif fB (e.length+1) 4 then
    Q26.l4 N n c b (nB (Int.tdiv d 65536)) (aA (a+1)) (e++[Int.tmod d 65536]) f
   else none
  else
  bif decide (a<(b.length:Int))then
   bif decide (a<(c.length:Int))then
    bif (decide (0≤a))&&(decide (a<(c.length:Int)))then
     bif decide (a<(b.length:Int))then
      bif (decide (0≤a))&&(decide (a<(b.length:Int)))then
       bif fB (e.length+1) 4 then
        Q26.l4 N n c b (nB (Int.tdiv (nB ((nB (d+(c.getD a.toNat 0)))+(b.getD a.toNat 0))) 65536)) (aA (a+1)) (e++[Int.tmod (nB ((nB (d+(c.getD a.toNat 0)))+(b.getD a.toNat 0))) 65536]) f
       else none
      else none
     else
     bif fB (e.length+1) 4 then
      Q26.l4 N n c b (nB (Int.tdiv (nB (d+(c.getD a.toNat 0))) 65536)) (aA (a+1)) (e++[Int.tmod (nB (d+(c.getD a.toNat 0))) 65536]) f
     else none
    else none
   else
   bif decide (a<(b.length:Int))then
    bif (decide (0≤a))&&(decide (a<(b.length:Int)))then
     bif fB (e.length+1) 4 then
      Q26.l4 N n c b (nB (Int.tdiv (nB (d+(b.getD a.toNat 0))) 65536)) (aA (a+1)) (e++[Int.tmod (nB (d+(b.getD a.toNat 0))) 65536]) f
     else none
    else none
   else
   bif fB (e.length+1) 4 then
    Q26.l4 N n c b (nB (Int.tdiv d 65536)) (aA (a+1)) (e++[Int.tmod d 65536]) f
   else none
  else
  bif decide (d>0)then
   bif decide (a<(c.length:Int))then
    bif (decide (0≤a))&&(decide (a<(c.length:Int)))then
     bif decide (a<(b.length:Int))then
      bif (decide (0≤a))&&(decide (a<(b.length:Int)))then
       bif fB (e.length+1) 4 then
        Q26.l4 N n c b (nB (Int.tdiv (nB ((nB (d+(c.getD a.toNat 0)))+(b.getD a.toNat 0))) 65536)) (aA (a+1)) (e++[Int.tmod (nB ((nB (d+(c.getD a.toNat 0)))+(b.getD a.toNat 0))) 65536]) f
       else none
      else none
     else
     bif fB (e.length+1) 4 then
      Q26.l4 N n c b (nB (Int.tdiv (nB (d+(c.getD a.toNat 0))) 65536)) (aA (a+1)) (e++[Int.tmod (nB (d+(c.getD a.toNat 0))) 65536]) f
     else none
    else none
   else
   bif decide (a<(b.length:Int))then
    bif (decide (0≤a))&&(decide (a<(b.length:Int)))then
     bif fB (e.length+1) 4 then
      Q26.l4 N n c b (nB (Int.tdiv (nB (d+(b.getD a.toNat 0))) 65536)) (aA (a+1)) (e++[Int.tmod (nB (d+(b.getD a.toNat 0))) 65536]) f
     else none
    else none
   else
   bif fB (e.length+1) 4 then
    Q26.l4 N n c b (nB (Int.tdiv d 65536)) (aA (a+1)) (e++[Int.tmod d 65536]) f
   else none
  else
  f e
noncomputable def Q26.f (N:Nat)(c d:List Int):Option (List Int):=
 Q26.l4 N N c d 0 0 []
  (fun b=>
   (Q21.f N 0 b.length b).bind fun a=>
   some ((a.2.2.drop a.1).take a.2.1))
noncomputable def Q27.l4 {R:Type}(N:Nat):Nat→List Int→List Int→Int→Int→List Int→(List Int→Option R)→Option R
 |0,_,_,_,_,_,_=>none
 |n+1,b,c,e,a,d,f=>
  bif decide (a<(b.length:Int))then
   bif (decide (0≤a))&&(decide (a<(b.length:Int)))then
    bif decide (a<(c.length:Int))then
     bif (decide (0≤a))&&(decide (a<(c.length:Int)))then
      bif fB (d.length+1) 4 then
       Q27.l4 N n b c (nB (1- (nB (Int.tdiv (nB ((nB ((nB ((b.getD a.toNat 0)+65536))-e))- (c.getD a.toNat 0))) 65536)))) (aA (a+1)) (d++[Int.tmod (nB ((nB ((nB ((b.getD a.toNat 0)+65536))-e))- (c.getD a.toNat 0))) 65536]) f
      else none
     else none
    else
    bif fB (d.length+1) 4 then
     Q27.l4 N n b c (nB (1- (nB (Int.tdiv (nB ((nB ((b.getD a.toNat 0)+65536))-e)) 65536)))) (aA (a+1)) (d++[Int.tmod (nB ((nB ((b.getD a.toNat 0)+65536))-e)) 65536]) f
    else none
   else none
  else
  f d
noncomputable def Q27.f (N:Nat)(c d:List Int):Option (List Int):=
 Q27.l4 N N c d 0 0 []
  (fun b=>
   (Q21.f N 0 b.length b).bind fun a=>
   some ((a.2.2.drop a.1).take a.2.1))
noncomputable def Q28.l7 {R:Type}(N:Nat):Nat→List Int→List Int→Int→Int→Int→List Int→(List Int→List Int→Int→List Int→Option R)→Option R
 |0,_,_,_,_,_,_,_=>none
 |n+1,f,e,c,d,a,b,g=>
  bif decide (a<(e.length:Int))then
   bif (decide (0≤(aA (c+a))))&&(decide ((aA (c+a))<(b.length:Int)))then
    bif decide (a<(e.length:Int))then
     bif (decide (0≤c))&&(decide (c<(f.length:Int)))then
      bif (decide (0≤a))&&(decide (a<(e.length:Int)))then
       bif (decide (0≤(aA (c+a))))&&(decide ((aA (c+a))<(b.length:Int)))then
        Q28.l7 N n f e c (gA (Int.tdiv (gA ((gA ((gA (b.getD ((aA (c+a)).toNat) 0))+d))+(gA ((gA (f.getD c.toNat 0))*(gA (e.getD a.toNat 0)))))) 65536)) (aA (a+1)) (b.set ((aA (c+a)).toNat) (nB (Int.tmod (gA ((gA ((gA (b.getD ((aA (c+a)).toNat) 0))+d))+(gA ((gA (f.getD c.toNat 0))*(gA (e.getD a.toNat 0)))))) 65536))) g
       else none
      else none
     else none
    else
    bif (decide (0≤(aA (c+a))))&&(decide ((aA (c+a))<(b.length:Int)))then
     Q28.l7 N n f e c (gA (Int.tdiv (gA ((gA (b.getD ((aA (c+a)).toNat) 0))+d)) 65536)) (aA (a+1)) (b.set ((aA (c+a)).toNat) (nB (Int.tmod (gA ((gA (b.getD ((aA (c+a)).toNat) 0))+d)) 65536))) g
    else none
   else none
  else
  bif decide (d>0)then
   bif (decide (0≤(aA (c+a))))&&(decide ((aA (c+a))<(b.length:Int)))then
    bif decide (a<(e.length:Int))then
     bif (decide (0≤c))&&(decide (c<(f.length:Int)))then
      bif (decide (0≤a))&&(decide (a<(e.length:Int)))then
       bif (decide (0≤(aA (c+a))))&&(decide ((aA (c+a))<(b.length:Int)))then
        Q28.l7 N n f e c (gA (Int.tdiv (gA ((gA ((gA (b.getD ((aA (c+a)).toNat) 0))+d))+(gA ((gA (f.getD c.toNat 0))*(gA (e.getD a.toNat 0)))))) 65536)) (aA (a+1)) (b.set ((aA (c+a)).toNat) (nB (Int.tmod (gA ((gA ((gA (b.getD ((aA (c+a)).toNat) 0))+d))+(gA ((gA (f.getD c.toNat 0))*(gA (e.getD a.toNat 0)))))) 65536))) g
       else none
      else none
     else none
    else
    bif (decide (0≤(aA (c+a))))&&(decide ((aA (c+a))<(b.length:Int)))then
     Q28.l7 N n f e c (gA (Int.tdiv (gA ((gA (b.getD ((aA (c+a)).toNat) 0))+d)) 65536)) (aA (a+1)) (b.set ((aA (c+a)).toNat) (nB (Int.tmod (gA ((gA (b.getD ((aA (c+a)).toNat) 0))+d)) 65536))) g
    else none
   else none
  else
  g f e c b
noncomputable def Q28.l3 {R:Type}(N:Nat):Nat→List Int→List Int→Int→List Int→(List Int→Option R)→Option R
 |0,_,_,_,_,_=>none
 |n+1,f,i,g,h,e=>
  bif decide (g<(f.length:Int))then
   Q28.l7 N N f i g 0 0 h
    (fun a b c d=>
     Q28.l3 N n a b (aA (c+1)) d e)
  else
  e h
noncomputable def Q28.f (N:Nat)(a b:List Int):Option (List Int):=
 bif decide (aA ((a.length:Int)+(b.length:Int))=aA ((a.length:Int)+(b.length:Int)))&&decide (0≤aA ((a.length:Int)+(b.length:Int)))&&decide (aA ((a.length:Int)+(b.length:Int))≤9223372036854775807)&&fB ((aA ((a.length:Int)+(b.length:Int))).toNat) 4 then
  Q28.l3 N N a b 0 (List.replicate ((aA ((a.length:Int)+(b.length:Int))).toNat) (0:Int))
   (fun d=>
    (Q21.f N 0 d.length d).bind fun c=>
    some ((c.2.2.drop c.1).take c.2.1))
 else none
noncomputable def Q29.l9 {R:Type}(N:Nat):Nat→List Int→List Int→Nat→Nat→Int→Int→Int→List Int→List Int→(List Int→List Int→Nat→Nat→Int→Int→List Int→List Int→Option R)→Option R
 |0,_,_,_,_,_,_,_,_,_,_=>none
 |n+1,m,c,d,e,g,a,b,h,f,i=>
  bif decide ((gA (b-a))>1)then
   (Q22.f N (gA (Int.tdiv (gA (a+b)) 2))).bind fun j=>
   (Q28.f N j c).bind fun k=>
   (Q25.f N k ((f.drop d).take e)).bind fun l=>
   bif decide (l≤0)then
    Q29.l9 N n m c d e g (gA (Int.tdiv (gA (a+b)) 2)) b h f i
   else
   Q29.l9 N n m c d e g a (gA (Int.tdiv (gA (a+b)) 2)) h f i
  else
  i m c d e g a h f
noncomputable def Q29.l4 {R:Type}(N:Nat):Nat→List Int→List Int→List Int→Int→List Int→(List Int→List Int→Option R)→Option R
 |0,_,_,_,_,_,_=>none
 |n+1,f,s,g,b,r,q=>
  bif decide (b≥0)then
   bif (decide (0≤b))&&(decide (b<(f.length:Int)))then
    bif fB (1+g.length) 4 then
     (Q21.f N 0 (([f.getD b.toNat 0]++g).length) ([f.getD b.toNat 0]++g)).bind fun k=>
     Q29.l9 N N f s k.1 k.2.1 b 0 65536 r k.2.2
      (fun l c m o a d e p=>
       bif (decide (0≤a))&&(decide (a<(e.length:Int)))then
        (Q22.f N d).bind fun h=>
        (Q28.f N h c).bind fun i=>
        (Q27.f N ((p.drop m).take o) i).bind fun j=>
        Q29.l4 N n l c j (aA (a-1)) (e.set a.toNat (nB d)) q
       else none)
    else none
   else none
  else
  q g r
noncomputable def Q29.f (N:Nat)(a e:List Int):Option (List Int×List Int):=
 bif decide ((a.length:Int)=(a.length:Int))&&decide (0≤(a.length:Int))&&decide ((a.length:Int)≤9223372036854775807)&&fB ((a.length:Int).toNat) 4 then
  Q29.l4 N N a e [] (aA ((a.length:Int)-1)) (List.replicate ((a.length:Int).toNat) (0:Int))
   (fun d c=>
    (Q21.f N 0 c.length c).bind fun b=>
    some ((b.2.2.drop b.1).take b.2.1,d))
 else none
noncomputable def Q30.l1 {R:Type}(N:Nat):Nat→List Int→List Int→(List Int→Option R)→Option R
 |0,_,_,_=>none
 |n+1,c,a,b=>
  bif decide ((a.length:Int)>0)then
   (Q29.f N c a).bind fun d=>
   Q30.l1 N n a d.2 b
  else
  b c
noncomputable def Q30.f (N:Nat)(a b:List Int):Option (List Int):=
 Q30.l1 N N a b
  (fun c=>
   some c)
noncomputable def eQ:TI:=⟨.int .i64,1,8,[.int .i64 0]⟩
noncomputable def yj:TI:=⟨.bool,1,1,[.bool false]⟩
noncomputable def wH:TI:=⟨.struct [(2,0),(2,1),(2,2)],3,24,[.int .i64 0,.int .i64 0,.int .i64 0]⟩
noncomputable def Cq:TI:=⟨.struct [(2,0),(2,1),(2,2),(2,3)],4,32,[.int .i64 0,.int .i64 0,.int .i64 0,.int .i64 0]⟩
noncomputable def Gb:TI:=⟨.struct [(33,0),(72,3)],7,56,[.int .i64 0,.int .i64 0,.int .i64 0,.int .i64 0,.int .i64 0,.int .i64 0,.int .i64 0]⟩
noncomputable def hJ:TI:=⟨.struct [(4,0),(110,1)],2,32,[.bool false,.slice none 0 0]⟩
theorem xC:tC Tryz.prog 2 eQ:=aD (by kernel_rfl) (by kernel_rfl) (by kernel_rfl) (by kernel_rfl) (by kernel_rfl) (by kernel_rfl) (by kernel_rfl) (Tryz.underlying2) (by kernel_rfl)
theorem uK:tC Tryz.prog 4 yj:=aD (by kernel_rfl) (by kernel_rfl) (by kernel_rfl) (by kernel_rfl) (by kernel_rfl) (by kernel_rfl) (by kernel_rfl) (Tryz.underlying4) (by kernel_rfl)
theorem oC:tC Tryz.prog 33 wH:=aD (by kernel_rfl) (by kernel_rfl) (by kernel_rfl) (by kernel_rfl) (by kernel_rfl) (by kernel_rfl) (by kernel_rfl) (oI Tryz.underlying33 (by kernel_rfl) (by kernel_rfl)) (by kernel_rfl)
theorem yW:tC Tryz.prog 72 Cq:=aD (by kernel_rfl) (by kernel_rfl) (by kernel_rfl) (by kernel_rfl) (by kernel_rfl) (by kernel_rfl) (by kernel_rfl) (oI Tryz.underlying72 (by kernel_rfl) (by kernel_rfl)) (by kernel_rfl)
theorem uw:tC Tryz.prog 74 Gb:=aD (by kernel_rfl) (by kernel_rfl) (by kernel_rfl) (by kernel_rfl) (by kernel_rfl) (by kernel_rfl) (by kernel_rfl) (oI Tryz.underlying74 (by kernel_rfl) (by kernel_rfl)) (by kernel_rfl)
theorem kE:tC Tryz.prog 112 hJ:=aD (by kernel_rfl) (by kernel_rfl) (by kernel_rfl) (by kernel_rfl) (by kernel_rfl) (by kernel_rfl) (by kernel_rfl) (oI Tryz.underlying112 (by kernel_rfl) (by kernel_rfl)) (by kernel_rfl)
noncomputable def Q31.f (N:Nat)(b:Bool)(a:List Int):Option (Bool×List Int):=
 bif b then
  (Q3.f N a).bind fun c=>
  some (decide (c>0),a)
 else
 some (false,a)
noncomputable def Q31.E (N:Nat):bD:=bF [(4,yj),(110,hF),(112,hJ)] [(123,Q3.ent N)] [] [] N [.cell 4 112] [.recd [.any,.il .u32 1]] 0 13
noncomputable def Q31.dec (v:V)(bs:List rA):Option (Bool×List Int):=match v,bs with
 | .agg [.c (.bool a),.il .u32 1 b],[]=>some (a,b)
 |_,_=>none
theorem Q31.f_eq (N:Nat)(a:Bool)(b:List Int):
  cB (Q31.E N) (bo Tryz.f85) [.c (.bool a),.agg [.il .u32 1 b]] [] Q31.dec=Q31.f N a b:=by kernel_rfl
noncomputable def Q31.ent (N:Nat):xA:=wF (Bool×List Int) 0 [true,true] [.any,.recd [.il .u32 1]] fun
 | [.c (.bool a),.agg [.il .u32 1 b]]=>some (Q31.f N a b,fun r=>.one (.agg [.c (.bool r.1),.il .u32 1 r.2]) [])
 |_=>none
theorem Q31.env (N:Nat):aB Tryz.prog (Q31.E N):=⟨(.cons uK (.cons iC (.cons kE .nil))),(.cons (Q3.ent_ok N) .nil)⟩
theorem Q31.spec (N:Nat)(a:Bool)(c:List Int)(r:Bool×List Int)(h:Q31.f N a c=some r):fA Tryz.prog 85 [.c (.bool a),.agg [.il .u32 1 c]] [] (.agg [.c (.bool r.1),.il .u32 1 r.2]) ([]):=vA (Q31.env N) bA Tryz.func85 dA.n ((Q31.f_eq ..).trans h) fun v b e=>by unfold Q31.dec at e;split at e<;>cases e;exact⟨rfl,rfl⟩
theorem Q31.ent_ok (N:Nat):uA Tryz.prog 85 (Q31.ent N):=yA fun v a e h=>by split at h;exact nC (Q:=fun e=>fA _ _ _ _ (e a).pick.1 (e a).pick.2) h fun k=>Q31.spec N _ _ a k;cases h
noncomputable def Q32.f (N:Nat)(a:Int):Option (Bool×List Int):=
 bif decide (a<0)then
  (Q5.f N (gA (0- (gA a)))).bind fun b=>
  some (true,b)
 else
 (Q5.f N (gA a)).bind fun c=>
 some (false,c)
noncomputable def Q32.E (N:Nat):bD:=bF [(2,eQ),(4,yj),(78,fQ),(110,hF),(112,hJ)] [(122,Q5.ent N)] [] [] N [.cell 2 112] [.recd [.any,.il .u32 1]] 0 14
noncomputable def Q32.dec (v:V)(bs:List rA):Option (Bool×List Int):=match v,bs with
 | .agg [.c (.bool a),.il .u32 1 b],[]=>some (a,b)
 |_,_=>none
theorem Q32.f_eq (N:Nat)(a:Int):
  cB (Q32.E N) (bo Tryz.f84) [.c (.int .i64 a)] [] Q32.dec=Q32.f N a:=by kernel_rfl
noncomputable def Q32.ent (N:Nat):xA:=wF (Bool×List Int) 0 [true] [.any] fun
 | [.c (.int .i64 a)]=>some (Q32.f N a,fun r=>.one (.agg [.c (.bool r.1),.il .u32 1 r.2]) [])
 |_=>none
theorem Q32.env (N:Nat):aB Tryz.prog (Q32.E N):=⟨(.cons xC (.cons uK (.cons qF (.cons iC (.cons kE .nil))))),(.cons (Q5.ent_ok N) .nil)⟩
theorem Q32.spec (N:Nat)(a:Int)(r:Bool×List Int)(h:Q32.f N a=some r):fA Tryz.prog 84 [.c (.int .i64 a)] [] (.agg [.c (.bool r.1),.il .u32 1 r.2]) ([]):=vA (Q32.env N) bA Tryz.func84 dA.n ((Q32.f_eq ..).trans h) fun v b e=>by unfold Q32.dec at e;split at e<;>cases e;exact⟨rfl,rfl⟩
theorem Q32.ent_ok (N:Nat):uA Tryz.prog 84 (Q32.ent N):=yA fun v a e h=>by split at h;exact nC (Q:=fun e=>fA _ _ _ _ (e a).pick.1 (e a).pick.2) h fun k=>Q32.spec N _ a k;cases h
noncomputable def Q33.f (N:Nat)(b:Bool)(c:List Int):Option (Int×Bool):=
 (Q6.f N c).bind fun a=>
 bif !a.2 then
  some (0,false)
 else
 bif decide (a.1>9223372036854775808)then
  some (0,false)
 else
 bif a.1==9223372036854775808 then
  bif !b then
   some (0,false)
  else
  bif b then
   some (aA (gA (0-a.1)),true)
  else
  some (aA a.1,true)
 else
 bif b then
  some (aA (gA (0-a.1)),true)
 else
 some (aA a.1,true)
noncomputable def Q33.E (N:Nat):bD:=bF [(2,eQ),(4,yj),(78,fQ),(110,hF),(112,hJ)] [(124,Q6.ent N)] [] [] N [.tmp 2,.tmp 3] [.any,.any] 0 36
noncomputable def Q33.dec (v:V)(bs:List rA):Option (Int×Bool):=match v,bs with
 | .tup [.c (.int .i64 a),.c (.bool b)],[]=>some (a,b)
 |_,_=>none
theorem Q33.f_eq (N:Nat)(a:Bool)(b:List Int):
  cB (Q33.E N) (bo Tryz.f86) [.agg [.c (.bool a),.il .u32 1 b]] [] Q33.dec=Q33.f N a b:=by kernel_rfl
noncomputable def Q33.ent (N:Nat):xA:=wF (Int×Bool) 0 [true] [.recd [.any,.il .u32 1]] fun
 | [.agg [.c (.bool a),.il .u32 1 b]]=>some (Q33.f N a b,fun r=>.one (.tup [.c (.int .i64 r.1),.c (.bool r.2)]) [])
 |_=>none
theorem Q33.env (N:Nat):aB Tryz.prog (Q33.E N):=⟨(.cons xC (.cons uK (.cons qF (.cons iC (.cons kE .nil))))),(.cons (Q6.ent_ok N) .nil)⟩
theorem Q33.spec (N:Nat)(a:Bool)(c:List Int)(r:Int×Bool)(h:Q33.f N a c=some r):fA Tryz.prog 86 [.agg [.c (.bool a),.il .u32 1 c]] [] (.tup [.c (.int .i64 r.1),.c (.bool r.2)]) ([]):=vA (Q33.env N) bA Tryz.func86 dA.n ((Q33.f_eq ..).trans h) fun v b e=>by unfold Q33.dec at e;split at e<;>cases e;exact⟨rfl,rfl⟩
theorem Q33.ent_ok (N:Nat):uA Tryz.prog 86 (Q33.ent N):=yA fun v a e h=>by split at h;exact nC (Q:=fun e=>fA _ _ _ _ (e a).pick.1 (e a).pick.2) h fun k=>Q33.spec N _ _ a k;cases h
noncomputable def Q34.f (N:Nat)(e:Bool)(c:List Int)(f:Bool)(d:List Int):Option (Bool×List Int×Int):=
 bif e==f then
  (Q8.f N c d).bind fun g=>
  (Q31.f N e g.1).bind fun h=>
  some (h.1,h.2,g.2)
 else
 (Q7.f N c d).bind fun k=>
 bif decide (k<0)then
  (Q10.f N d c).bind fun i=>
  (Q31.f N f i.1).bind fun j=>
  some (j.1,j.2,i.2)
 else
 (Q10.f N c d).bind fun a=>
 (Q31.f N e a.1).bind fun b=>
 some (b.1,b.2,a.2)
noncomputable def Q34.E (N:Nat):bD:=bF [(4,yj),(110,hF),(112,hJ)] [(161,Q8.ent N),(85,Q31.ent N),(157,Q7.ent N),(162,Q10.ent N)] [] [] N [.cell 4 112,.tmp 5] [.recd [.any,.il .u32 1],.any] 0 49
noncomputable def Q34.dec (v:V)(bs:List rA):Option (Bool×List Int×Int):=match v,bs with
 | .tup [.agg [.c (.bool a),.il .u32 1 b],.c (.int .i64 c)],[]=>some (a,b,c)
 |_,_=>none
theorem Q34.f_eq (N:Nat)(a:Bool)(b:List Int)(c:Bool)(d:List Int):
  cB (Q34.E N) (bo Tryz.f151) [.agg [.c (.bool a),.il .u32 1 b],.agg [.c (.bool c),.il .u32 1 d]] [] Q34.dec=Q34.f N a b c d:=by kernel_rfl
noncomputable def Q34.ent (N:Nat):xA:=wF (Bool×List Int×Int) 0 [true,true] [.recd [.any,.il .u32 1],.recd [.any,.il .u32 1]] fun
 | [.agg [.c (.bool a),.il .u32 1 b],.agg [.c (.bool c),.il .u32 1 d]]=>some (Q34.f N a b c d,fun r=>.one (.tup [.agg [.c (.bool r.1),.il .u32 1 r.2.1],.c (.int .i64 r.2.2)]) [])
 |_=>none
theorem Q34.env (N:Nat):aB Tryz.prog (Q34.E N):=⟨(.cons uK (.cons iC (.cons kE .nil))),(.cons (Q8.ent_ok N) (.cons (Q31.ent_ok N) (.cons (Q7.ent_ok N) (.cons (Q10.ent_ok N) .nil))))⟩
theorem Q34.spec (N:Nat)(a:Bool)(c:List Int)(d:Bool)(f:List Int)(r:Bool×List Int×Int)(h:Q34.f N a c d f=some r):fA Tryz.prog 151 [.agg [.c (.bool a),.il .u32 1 c],.agg [.c (.bool d),.il .u32 1 f]] [] (.tup [.agg [.c (.bool r.1),.il .u32 1 r.2.1],.c (.int .i64 r.2.2)]) ([]):=vA (Q34.env N) bA Tryz.func151 dA.n ((Q34.f_eq ..).trans h) fun v b e=>by unfold Q34.dec at e;split at e<;>cases e;exact⟨rfl,rfl⟩
theorem Q34.ent_ok (N:Nat):uA Tryz.prog 151 (Q34.ent N):=yA fun v a e h=>by split at h;exact nC (Q:=fun e=>fA _ _ _ _ (e a).pick.1 (e a).pick.2) h fun k=>Q34.spec N _ _ _ _ a k;cases h
noncomputable def Q35.f (N:Nat)(c:Bool)(d:List Int)(e:Bool)(f:List Int):Option (Bool×List Int×Int):=
 (Q12.f N d f).bind fun a=>
 (Q31.f N (!(c==e)) a.1).bind fun b=>
 some (b.1,b.2,a.2)
noncomputable def Q35.E (N:Nat):bD:=bF [(4,yj),(110,hF),(112,hJ)] [(160,Q12.ent N),(85,Q31.ent N)] [] [] N [.cell 4 112,.tmp 5] [.recd [.any,.il .u32 1],.any] 0 24
noncomputable def Q35.dec (v:V)(bs:List rA):Option (Bool×List Int×Int):=match v,bs with
 | .tup [.agg [.c (.bool a),.il .u32 1 b],.c (.int .i64 c)],[]=>some (a,b,c)
 |_,_=>none
theorem Q35.f_eq (N:Nat)(a:Bool)(b:List Int)(c:Bool)(d:List Int):
  cB (Q35.E N) (bo Tryz.f148) [.agg [.c (.bool a),.il .u32 1 b],.agg [.c (.bool c),.il .u32 1 d]] [] Q35.dec=Q35.f N a b c d:=by kernel_rfl
noncomputable def Q35.ent (N:Nat):xA:=wF (Bool×List Int×Int) 0 [true,true] [.recd [.any,.il .u32 1],.recd [.any,.il .u32 1]] fun
 | [.agg [.c (.bool a),.il .u32 1 b],.agg [.c (.bool c),.il .u32 1 d]]=>some (Q35.f N a b c d,fun r=>.one (.tup [.agg [.c (.bool r.1),.il .u32 1 r.2.1],.c (.int .i64 r.2.2)]) [])
 |_=>none
theorem Q35.env (N:Nat):aB Tryz.prog (Q35.E N):=⟨(.cons uK (.cons iC (.cons kE .nil))),(.cons (Q12.ent_ok N) (.cons (Q31.ent_ok N) .nil))⟩
theorem Q35.spec (N:Nat)(a:Bool)(c:List Int)(d:Bool)(f:List Int)(r:Bool×List Int×Int)(h:Q35.f N a c d f=some r):fA Tryz.prog 148 [.agg [.c (.bool a),.il .u32 1 c],.agg [.c (.bool d),.il .u32 1 f]] [] (.tup [.agg [.c (.bool r.1),.il .u32 1 r.2.1],.c (.int .i64 r.2.2)]) ([]):=vA (Q35.env N) bA Tryz.func148 dA.n ((Q35.f_eq ..).trans h) fun v b e=>by unfold Q35.dec at e;split at e<;>cases e;exact⟨rfl,rfl⟩
theorem Q35.ent_ok (N:Nat):uA Tryz.prog 148 (Q35.ent N):=yA fun v a e h=>by split at h;exact nC (Q:=fun e=>fA _ _ _ _ (e a).pick.1 (e a).pick.2) h fun k=>Q35.spec N _ _ _ _ a k;cases h
noncomputable def Q36.f (N:Nat)(a:Bool)(b:List Int):Option (Int):=
 (Q3.f N b).bind fun c=>
 bif c==0 then
  some 0
 else
 bif a then
  some (-1)
 else
 some 1
noncomputable def Q36.E (N:Nat):bD:=bF [(4,yj),(110,hF),(112,hJ)] [(123,Q3.ent N)] [] [] N [.tmp 2] [.any] 0 11
noncomputable def Q36.dec (v:V)(bs:List rA):Option (Int):=match v,bs with
 | .c (.int .i64 a),[]=>some a
 |_,_=>none
theorem Q36.f_eq (N:Nat)(a:Bool)(b:List Int):
  cB (Q36.E N) (bo Tryz.f117) [.agg [.c (.bool a),.il .u32 1 b]] [] Q36.dec=Q36.f N a b:=by kernel_rfl
noncomputable def Q36.ent (N:Nat):xA:=wF (Int) 0 [true] [.recd [.any,.il .u32 1]] fun
 | [.agg [.c (.bool a),.il .u32 1 b]]=>some (Q36.f N a b,fun r=>.one (.c (.int .i64 r)) [])
 |_=>none
theorem Q36.env (N:Nat):aB Tryz.prog (Q36.E N):=⟨(.cons uK (.cons iC (.cons kE .nil))),(.cons (Q3.ent_ok N) .nil)⟩
theorem Q36.spec (N:Nat)(a:Bool)(c:List Int)(r:Int)(h:Q36.f N a c=some r):fA Tryz.prog 117 [.agg [.c (.bool a),.il .u32 1 c]] [] (.c (.int .i64 r)) ([]):=vA (Q36.env N) bA Tryz.func117 dA.n ((Q36.f_eq ..).trans h) fun v b e=>by unfold Q36.dec at e;split at e<;>cases e;exact⟨rfl,rfl⟩
theorem Q36.ent_ok (N:Nat):uA Tryz.prog 117 (Q36.ent N):=yA fun v a e h=>by split at h;exact nC (Q:=fun e=>fA _ _ _ _ (e a).pick.1 (e a).pick.2) h fun k=>Q36.spec N _ _ a k;cases h
noncomputable def Q37.f (N:Nat)(b:Bool)(c:List Int):Option (Bool×List Int):=
 (Q31.f N (!b) c).bind fun a=>
 some (a.1,a.2)
noncomputable def Q37.E (N:Nat):bD:=bF [(4,yj),(110,hF),(112,hJ)] [(85,Q31.ent N)] [] [] N [.cell 2 112] [.recd [.any,.il .u32 1]] 0 9
noncomputable def Q37.dec (v:V)(bs:List rA):Option (Bool×List Int):=match v,bs with
 | .agg [.c (.bool a),.il .u32 1 b],[]=>some (a,b)
 |_,_=>none
theorem Q37.f_eq (N:Nat)(a:Bool)(b:List Int):
  cB (Q37.E N) (bo Tryz.f150) [.agg [.c (.bool a),.il .u32 1 b]] [] Q37.dec=Q37.f N a b:=by kernel_rfl
noncomputable def Q37.ent (N:Nat):xA:=wF (Bool×List Int) 0 [true] [.recd [.any,.il .u32 1]] fun
 | [.agg [.c (.bool a),.il .u32 1 b]]=>some (Q37.f N a b,fun r=>.one (.agg [.c (.bool r.1),.il .u32 1 r.2]) [])
 |_=>none
theorem Q37.env (N:Nat):aB Tryz.prog (Q37.E N):=⟨(.cons uK (.cons iC (.cons kE .nil))),(.cons (Q31.ent_ok N) .nil)⟩
theorem Q37.spec (N:Nat)(a:Bool)(c:List Int)(r:Bool×List Int)(h:Q37.f N a c=some r):fA Tryz.prog 150 [.agg [.c (.bool a),.il .u32 1 c]] [] (.agg [.c (.bool r.1),.il .u32 1 r.2]) ([]):=vA (Q37.env N) bA Tryz.func150 dA.n ((Q37.f_eq ..).trans h) fun v b e=>by unfold Q37.dec at e;split at e<;>cases e;exact⟨rfl,rfl⟩
theorem Q37.ent_ok (N:Nat):uA Tryz.prog 150 (Q37.ent N):=yA fun v a e h=>by split at h;exact nC (Q:=fun e=>fA _ _ _ _ (e a).pick.1 (e a).pick.2) h fun k=>Q37.spec N _ _ a k;cases h
noncomputable def Q38.f (N:Nat)(c:Bool)(d:List Int)(e:Bool)(f:List Int):Option (Bool×List Int×Int):=
 (Q37.f N e f).bind fun b=>
 (Q34.f N c d b.1 b.2).bind fun a=>
 some (a.1,a.2.1,a.2.2)
noncomputable def Q38.E (N:Nat):bD:=bF [(112,hJ)] [(150,Q37.ent N),(151,Q34.ent N)] [] [] N [.cell 4 112,.tmp 5] [.recd [.any,.il .u32 1],.any] 0 12
noncomputable def Q38.dec (v:V)(bs:List rA):Option (Bool×List Int×Int):=match v,bs with
 | .tup [.agg [.c (.bool a),.il .u32 1 b],.c (.int .i64 c)],[]=>some (a,b,c)
 |_,_=>none
theorem Q38.f_eq (N:Nat)(a:Bool)(b:List Int)(c:Bool)(d:List Int):
  cB (Q38.E N) (bo Tryz.f147) [.agg [.c (.bool a),.il .u32 1 b],.agg [.c (.bool c),.il .u32 1 d]] [] Q38.dec=Q38.f N a b c d:=by kernel_rfl
noncomputable def Q38.ent (N:Nat):xA:=wF (Bool×List Int×Int) 0 [true,true] [.recd [.any,.il .u32 1],.recd [.any,.il .u32 1]] fun
 | [.agg [.c (.bool a),.il .u32 1 b],.agg [.c (.bool c),.il .u32 1 d]]=>some (Q38.f N a b c d,fun r=>.one (.tup [.agg [.c (.bool r.1),.il .u32 1 r.2.1],.c (.int .i64 r.2.2)]) [])
 |_=>none
theorem Q38.env (N:Nat):aB Tryz.prog (Q38.E N):=⟨(.cons kE .nil),(.cons (Q37.ent_ok N) (.cons (Q34.ent_ok N) .nil))⟩
theorem Q38.spec (N:Nat)(a:Bool)(c:List Int)(d:Bool)(f:List Int)(r:Bool×List Int×Int)(h:Q38.f N a c d f=some r):fA Tryz.prog 147 [.agg [.c (.bool a),.il .u32 1 c],.agg [.c (.bool d),.il .u32 1 f]] [] (.tup [.agg [.c (.bool r.1),.il .u32 1 r.2.1],.c (.int .i64 r.2.2)]) ([]):=vA (Q38.env N) bA Tryz.func147 dA.n ((Q38.f_eq ..).trans h) fun v b e=>by unfold Q38.dec at e;split at e<;>cases e;exact⟨rfl,rfl⟩
theorem Q38.ent_ok (N:Nat):uA Tryz.prog 147 (Q38.ent N):=yA fun v a e h=>by split at h;exact nC (Q:=fun e=>fA _ _ _ _ (e a).pick.1 (e a).pick.2) h fun k=>Q38.spec N _ _ _ _ a k;cases h
noncomputable def Q39.f (N:Nat)(h:Bool)(k:List Int)(i:Bool)(j:List Int):Option (Bool×List Int×Bool×List Int×Int):=
 (Q19.f N k j).bind fun a=>
 bif a.2.2 != 0 then
  some (false,[],false,[],a.2.2)
 else
 bif h then
  (Q3.f N a.2.1).bind fun l=>
  bif decide (l>0)then
   (Q5.f N 1).bind fun m=>
   (Q8.f N a.1 m).bind fun o=>
   (Q10.f N j a.2.1).bind fun p=>
   (Q31.f N (!(h==i)) o.1).bind fun b=>
   (Q31.f N false p.1).bind fun c=>
   some (b.1,b.2,c.1,c.2,0)
  else
  (Q31.f N (!(h==i)) a.1).bind fun d=>
  (Q31.f N false a.2.1).bind fun e=>
  some (d.1,d.2,e.1,e.2,0)
 else
 (Q31.f N (!(h==i)) a.1).bind fun f=>
 (Q31.f N false a.2.1).bind fun g=>
 some (f.1,f.2,g.1,g.2,0)
noncomputable def Q39.E (N:Nat):bD:=bF [(4,yj),(110,hF),(112,hJ)] [(145,Q19.ent N),(123,Q3.ent N),(122,Q5.ent N),(161,Q8.ent N),(162,Q10.ent N),(85,Q31.ent N)] [] [] N [.cell 4 112,.cell 5 112,.tmp 6] [.recd [.any,.il .u32 1],.recd [.any,.il .u32 1],.any] 0 52
noncomputable def Q39.dec (v:V)(bs:List rA):Option (Bool×List Int×Bool×List Int×Int):=match v,bs with
 | .tup [.agg [.c (.bool a),.il .u32 1 b],.agg [.c (.bool c),.il .u32 1 d],.c (.int .i64 e)],[]=>some (a,b,c,d,e)
 |_,_=>none
theorem Q39.f_eq (N:Nat)(a:Bool)(b:List Int)(c:Bool)(d:List Int):
  cB (Q39.E N) (bo Tryz.f149) [.agg [.c (.bool a),.il .u32 1 b],.agg [.c (.bool c),.il .u32 1 d]] [] Q39.dec=Q39.f N a b c d:=by kernel_rfl
noncomputable def Q39.ent (N:Nat):xA:=wF (Bool×List Int×Bool×List Int×Int) 0 [true,true] [.recd [.any,.il .u32 1],.recd [.any,.il .u32 1]] fun
 | [.agg [.c (.bool a),.il .u32 1 b],.agg [.c (.bool c),.il .u32 1 d]]=>some (Q39.f N a b c d,fun r=>.one (.tup [.agg [.c (.bool r.1),.il .u32 1 r.2.1],.agg [.c (.bool r.2.2.1),.il .u32 1 r.2.2.2.1],.c (.int .i64 r.2.2.2.2)]) [])
 |_=>none
theorem Q39.env (N:Nat):aB Tryz.prog (Q39.E N):=⟨(.cons uK (.cons iC (.cons kE .nil))),(.cons (Q19.ent_ok N) (.cons (Q3.ent_ok N) (.cons (Q5.ent_ok N) (.cons (Q8.ent_ok N) (.cons (Q10.ent_ok N) (.cons (Q31.ent_ok N) .nil))))))⟩
theorem Q39.spec (N:Nat)(a:Bool)(c:List Int)(d:Bool)(f:List Int)(r:Bool×List Int×Bool×List Int×Int)(h:Q39.f N a c d f=some r):fA Tryz.prog 149 [.agg [.c (.bool a),.il .u32 1 c],.agg [.c (.bool d),.il .u32 1 f]] [] (.tup [.agg [.c (.bool r.1),.il .u32 1 r.2.1],.agg [.c (.bool r.2.2.1),.il .u32 1 r.2.2.2.1],.c (.int .i64 r.2.2.2.2)]) ([]):=vA (Q39.env N) bA Tryz.func149 dA.n ((Q39.f_eq ..).trans h) fun v b e=>by unfold Q39.dec at e;split at e<;>cases e;exact⟨rfl,rfl⟩
theorem Q39.ent_ok (N:Nat):uA Tryz.prog 149 (Q39.ent N):=yA fun v a e h=>by split at h;exact nC (Q:=fun e=>fA _ _ _ _ (e a).pick.1 (e a).pick.2) h fun k=>Q39.spec N _ _ _ _ a k;cases h
noncomputable def Q40.f (N:Nat)(b:Bool)(c:List Int)(d:Bool)(e:List Int):Option (Bool×List Int×Int):=
 (Q39.f N b c d e).bind fun a=>
 bif a.2.2.2.2 != 0 then
  some (false,[],a.2.2.2.2)
 else
 (Q36.f N a.2.2.1 a.2.2.2.1).bind fun f=>
 bif f != 0 then
  some (false,[],2)
 else
 some (a.1,a.2.1,0)
noncomputable def Q40.E (N:Nat):bD:=bF [(4,yj),(110,hF),(112,hJ)] [(149,Q39.ent N),(117,Q36.ent N)] [] [] N [.cell 4 112,.tmp 5] [.recd [.any,.il .u32 1],.any] 0 27
noncomputable def Q40.dec (v:V)(bs:List rA):Option (Bool×List Int×Int):=match v,bs with
 | .tup [.agg [.c (.bool a),.il .u32 1 b],.c (.int .i64 c)],[]=>some (a,b,c)
 |_,_=>none
theorem Q40.f_eq (N:Nat)(a:Bool)(b:List Int)(c:Bool)(d:List Int):
  cB (Q40.E N) (bo Tryz.f121) [.agg [.c (.bool a),.il .u32 1 b],.agg [.c (.bool c),.il .u32 1 d]] [] Q40.dec=Q40.f N a b c d:=by kernel_rfl
noncomputable def Q40.ent (N:Nat):xA:=wF (Bool×List Int×Int) 0 [true,true] [.recd [.any,.il .u32 1],.recd [.any,.il .u32 1]] fun
 | [.agg [.c (.bool a),.il .u32 1 b],.agg [.c (.bool c),.il .u32 1 d]]=>some (Q40.f N a b c d,fun r=>.one (.tup [.agg [.c (.bool r.1),.il .u32 1 r.2.1],.c (.int .i64 r.2.2)]) [])
 |_=>none
theorem Q40.env (N:Nat):aB Tryz.prog (Q40.E N):=⟨(.cons uK (.cons iC (.cons kE .nil))),(.cons (Q39.ent_ok N) (.cons (Q36.ent_ok N) .nil))⟩
theorem Q40.spec (N:Nat)(a:Bool)(c:List Int)(d:Bool)(f:List Int)(r:Bool×List Int×Int)(h:Q40.f N a c d f=some r):fA Tryz.prog 121 [.agg [.c (.bool a),.il .u32 1 c],.agg [.c (.bool d),.il .u32 1 f]] [] (.tup [.agg [.c (.bool r.1),.il .u32 1 r.2.1],.c (.int .i64 r.2.2)]) ([]):=vA (Q40.env N) bA Tryz.func121 dA.n ((Q40.f_eq ..).trans h) fun v b e=>by unfold Q40.dec at e;split at e<;>cases e;exact⟨rfl,rfl⟩
theorem Q40.ent_ok (N:Nat):uA Tryz.prog 121 (Q40.ent N):=yA fun v a e h=>by split at h;exact nC (Q:=fun e=>fA _ _ _ _ (e a).pick.1 (e a).pick.2) h fun k=>Q40.spec N _ _ _ _ a k;cases h
noncomputable def Q41.f (N:Nat)(a:Bool)(b:List Int)(c:Int):Option (Bool×List Int):=
 some (a,b)
noncomputable def Q41.E (N:Nat):bD:=bF [(112,hJ)] [] [] [] N [.cell 4 112] [.recd [.any,.il .u32 1]] 0 6
noncomputable def Q41.dec (v:V)(bs:List rA):Option (Bool×List Int):=match v,bs with
 | .agg [.c (.bool a),.il .u32 1 b],[]=>some (a,b)
 |_,_=>none
theorem Q41.f_eq (N:Nat)(a:Bool)(b:List Int)(c:Int):
  cB (Q41.E N) (bo Tryz.f120) [.agg [.c (.bool a),.il .u32 1 b],.c (.int .i64 c)] [] Q41.dec=Q41.f N a b c:=by kernel_rfl
noncomputable def Q41.ent (N:Nat):xA:=wF (Bool×List Int) 0 [true,true] [.recd [.any,.il .u32 1],.any] fun
 | [.agg [.c (.bool a),.il .u32 1 b],.c (.int .i64 c)]=>some (Q41.f N a b c,fun r=>.one (.agg [.c (.bool r.1),.il .u32 1 r.2]) [])
 |_=>none
theorem Q41.env (N:Nat):aB Tryz.prog (Q41.E N):=⟨(.cons kE .nil),.nil⟩
theorem Q41.spec (N:Nat)(a:Bool)(c:List Int)(d:Int)(r:Bool×List Int)(h:Q41.f N a c d=some r):fA Tryz.prog 120 [.agg [.c (.bool a),.il .u32 1 c],.c (.int .i64 d)] [] (.agg [.c (.bool r.1),.il .u32 1 r.2]) ([]):=vA (Q41.env N) bA Tryz.func120 dA.n ((Q41.f_eq ..).trans h) fun v b e=>by unfold Q41.dec at e;split at e<;>cases e;exact⟨rfl,rfl⟩
theorem Q41.ent_ok (N:Nat):uA Tryz.prog 120 (Q41.ent N):=yA fun v a e h=>by split at h;exact nC (Q:=fun e=>fA _ _ _ _ (e a).pick.1 (e a).pick.2) h fun k=>Q41.spec N _ _ _ a k;cases h
noncomputable def Q42.f (N:Nat)(e:Bool)(f:List Int)(g:Bool)(h:List Int)(i:Bool)(j:List Int):Option (Bool×List Int):=
 (Q35.f N g h i j).bind fun b=>
 (Q41.f N b.1 b.2.1 b.2.2).bind fun d=>
 (Q38.f N e f d.1 d.2).bind fun c=>
 (Q41.f N c.1 c.2.1 c.2.2).bind fun a=>
 some (a.1,a.2)
noncomputable def Q42.E (N:Nat):bD:=bF [(112,hJ)] [(148,Q35.ent N),(120,Q41.ent N),(147,Q38.ent N)] [] [] N [.cell 6 112] [.recd [.any,.il .u32 1]] 0 18
noncomputable def Q42.dec (v:V)(bs:List rA):Option (Bool×List Int):=match v,bs with
 | .agg [.c (.bool a),.il .u32 1 b],[]=>some (a,b)
 |_,_=>none
theorem Q42.f_eq (N:Nat)(a:Bool)(b:List Int)(c:Bool)(d:List Int)(e:Bool)(f:List Int):
  cB (Q42.E N) (bo Tryz.f146) [.agg [.c (.bool a),.il .u32 1 b],.agg [.c (.bool c),.il .u32 1 d],.agg [.c (.bool e),.il .u32 1 f]] [] Q42.dec=Q42.f N a b c d e f:=by kernel_rfl
noncomputable def Q42.ent (N:Nat):xA:=wF (Bool×List Int) 0 [true,true,true] [.recd [.any,.il .u32 1],.recd [.any,.il .u32 1],.recd [.any,.il .u32 1]] fun
 | [.agg [.c (.bool a),.il .u32 1 b],.agg [.c (.bool c),.il .u32 1 d],.agg [.c (.bool e),.il .u32 1 f]]=>some (Q42.f N a b c d e f,fun r=>.one (.agg [.c (.bool r.1),.il .u32 1 r.2]) [])
 |_=>none
theorem Q42.env (N:Nat):aB Tryz.prog (Q42.E N):=⟨(.cons kE .nil),(.cons (Q35.ent_ok N) (.cons (Q41.ent_ok N) (.cons (Q38.ent_ok N) .nil)))⟩
theorem Q42.spec (N:Nat)(a:Bool)(c:List Int)(d:Bool)(f:List Int)(g:Bool)(i:List Int)(r:Bool×List Int)(h:Q42.f N a c d f g i=some r):fA Tryz.prog 146 [.agg [.c (.bool a),.il .u32 1 c],.agg [.c (.bool d),.il .u32 1 f],.agg [.c (.bool g),.il .u32 1 i]] [] (.agg [.c (.bool r.1),.il .u32 1 r.2]) ([]):=vA (Q42.env N) bA Tryz.func146 dA.n ((Q42.f_eq ..).trans h) fun v b e=>by unfold Q42.dec at e;split at e<;>cases e;exact⟨rfl,rfl⟩
theorem Q42.ent_ok (N:Nat):uA Tryz.prog 146 (Q42.ent N):=yA fun v a e h=>by split at h;exact nC (Q:=fun e=>fA _ _ _ _ (e a).pick.1 (e a).pick.2) h fun k=>Q42.spec N _ _ _ _ _ _ a k;cases h
noncomputable def Q43.l5 {R:Type}(N:Nat):Nat→Bool→List Int→Bool→List Int→Bool→Bool→Bool→List Int→Bool→List Int→Bool→List Int→Bool→List Int→Bool→List Int→Bool→List Int→(Bool→List Int→Bool→List Int→Bool→Bool→Bool→List Int→Bool→List Int→Option R)→Option R
 |0,_,_,_,_,_,_,_,_,_,_,_,_,_,_,_,_,_,_,_=>none
 |n+1,x,f,g,h,i,j,b,c,u,v,k,l,m,o,p,q,r,s,w=>
  (Q36.f N b c).bind fun t=>
  bif t==0 then
   w x f g h i j k l p q
  else
  (Q39.f N u v b c).bind fun a=>
  (Q42.f N k l a.1 a.2.1 m o).bind fun d=>
  (Q42.f N p q a.1 a.2.1 r s).bind fun e=>
  Q43.l5 N n x f g h i j a.2.2.1 a.2.2.2.1 b c m o d.1 d.2 r s e.1 e.2 w
noncomputable def Q43.f (N:Nat)(r:Bool)(s:List Int)(j:Bool)(k:List Int):Option (Bool×List Int×Bool×List Int):=
 (Q39.f N r s j k).bind fun i=>
 (Q32.f N 1).bind fun t=>
 (Q32.f N 1).bind fun u=>
 (Q37.f N i.1 i.2.1).bind fun v=>
 Q43.l5 N N r s j k false false i.2.2.1 i.2.2.2.1 j k false [] t.1 t.2 u.1 u.2 v.1 v.2
  (fun m o p q w x c d g h=>
   (Q36.f N c d).bind fun l=>
   bif decide (l<0)then
    (Q34.f N c d p q).bind fun a=>
    (Q41.f N a.1 a.2.1 a.2.2).bind fun e=>
    (Q38.f N g h m o).bind fun b=>
    (Q41.f N b.1 b.2.1 b.2.2).bind fun f=>
    some (e.1,e.2,f.1,f.2)
   else
   some (c,d,g,h))
noncomputable def Q43.h5:eD:=⟨[(2,.box [.any,.il .u32 1]),(3,.box [.any,.il .u32 1]),(4,.box [.any,.any]),(5,.box [.any,.any]),(6,.any),(8,.box [.any,.il .u32 1]),(10,.box [.any,.il .u32 1]),(11,.box [.any,.il .u32 1]),(12,.box [.any,.il .u32 1]),(13,.box [.any,.il .u32 1]),(14,.box [.any,.il .u32 1])],[(2,.box [.any,.il .u32 1]),(3,.box [.any,.il .u32 1]),(4,.box [.any,.any]),(5,.box [.any,.any]),(11,.box [.any,.il .u32 1]),(13,.box [.any,.il .u32 1])]⟩
noncomputable def Q43.c5 (N:Nat):xH:=⟨fun vs H k=>match vs,H with
 | [.ptr 0 0 2,.ptr 1 0 2,.ptr 2 0 2,.ptr 3 0 2,.fn 146 [] [],.ptr 4 0 2,.ptr 5 0 2,.ptr 6 0 2,.ptr 7 0 2,.ptr 8 0 2,.ptr 9 0 2],[.vals [.c (.bool x9),.il .u32 1 a],.vals [.c (.bool b),.il .u32 1 c],.vals [.c (.bool d),.c (.slice none 0 0)],.vals [.c (.bool e),.c (.slice none 0 0)],.vals [.c (.bool f),.il .u32 1 g],.vals [.c (.bool h),.il .u32 1 i],.vals [.c (.bool j),.il .u32 1 l],.vals [.c (.bool m),.il .u32 1 o],.vals [.c (.bool p),.il .u32 1 q],.vals [.c (.bool r),.il .u32 1 s]]=>Q43.l5 N N x9 a b c d e f g h i j l m o p q r s (fun t u v w x y z x35 x36 x37=>k (.exit 0) ⟨dD Q43.h5.out [.ptr 0 0 2,.ptr 1 0 2,.ptr 2 0 2,.ptr 3 0 2,.ptr 4 0 2,.ptr 5 0 2],[.vals [.c (.bool t),.il .u32 1 u],.vals [.c (.bool v),.il .u32 1 w],.vals [.c (.bool x),.c (.slice none 0 0)],.vals [.c (.bool y),.c (.slice none 0 0)],.vals [.c (.bool z),.il .u32 1 x35],.vals [.c (.bool x36),.il .u32 1 x37]]⟩)
 |_,_=>none⟩
noncomputable def Q43.E (N:Nat):bD:=bF [(4,yj),(110,hF),(112,hJ)] [(149,Q39.ent N),(84,Q32.ent N),(150,Q37.ent N),(117,Q36.ent N),(146,Q42.ent N),(151,Q34.ent N),(120,Q41.ent N),(147,Q38.ent N)] [(5,Q43.h5)] [(5,Q43.c5 N)] N [.cell 4 112,.cell 5 112] [.recd [.any,.il .u32 1],.recd [.any,.il .u32 1]] 0 72
noncomputable def Q43.b5:Code:=sA ((eA (bo Tryz.f119)).getD 1 .skip)
theorem Q43.l5_eq {R:Type}(N n:Nat)(x9:Bool)(a:List Int)(b:Bool)(c:List Int)(d e f:Bool)(g:List Int)(h:Bool)(i:List Int)(j:Bool)(l:List Int)(m:Bool)(o:List Int)(p:Bool)(q:List Int)(r:Bool)(t:List Int)(k:Ex→St→Option R):
  jB 0 Q43.h5 (fun s k=>bB (Q43.E N) 390 Q43.b5 s k) n [.ptr 0 0 2,.ptr 1 0 2,.ptr 2 0 2,.ptr 3 0 2,.fn 146 [] [],.ptr 4 0 2,.ptr 5 0 2,.ptr 6 0 2,.ptr 7 0 2,.ptr 8 0 2,.ptr 9 0 2] [.vals [.c (.bool x9),.il .u32 1 a],.vals [.c (.bool b),.il .u32 1 c],.vals [.c (.bool d),.c (.slice none 0 0)],.vals [.c (.bool e),.c (.slice none 0 0)],.vals [.c (.bool f),.il .u32 1 g],.vals [.c (.bool h),.il .u32 1 i],.vals [.c (.bool j),.il .u32 1 l],.vals [.c (.bool m),.il .u32 1 o],.vals [.c (.bool p),.il .u32 1 q],.vals [.c (.bool r),.il .u32 1 t]] k=Q43.l5 N n x9 a b c d e f g h i j l m o p q r t (fun u v w x y z x34 x35 x36 x37=>k (.exit 0) ⟨dD Q43.h5.out [.ptr 0 0 2,.ptr 1 0 2,.ptr 2 0 2,.ptr 3 0 2,.ptr 4 0 2,.ptr 5 0 2],[.vals [.c (.bool u),.il .u32 1 v],.vals [.c (.bool w),.il .u32 1 x],.vals [.c (.bool y),.c (.slice none 0 0)],.vals [.c (.bool z),.c (.slice none 0 0)],.vals [.c (.bool x34),.il .u32 1 x35],.vals [.c (.bool x36),.il .u32 1 x37]]⟩):=by
 induction n generalizing x9 a b c d e f g h i j l m o p q r t with
 |zero=>kernel_rfl
 |succ n ih=>
  simp only[Q43.l5,←ih]
  kernel_rfl
noncomputable def Q43.dec (v:V)(bs:List rA):Option (Bool×List Int×Bool×List Int):=match v,bs with
 | .tup [.agg [.c (.bool a),.il .u32 1 b],.agg [.c (.bool c),.il .u32 1 d]],[]=>some (a,b,c,d)
 |_,_=>none
theorem Q43.f_eq (N:Nat)(a:Bool)(b:List Int)(c:Bool)(d:List Int):
  cB (Q43.E N) (bo Tryz.f119) [.agg [.c (.bool a),.il .u32 1 b],.agg [.c (.bool c),.il .u32 1 d]] [] Q43.dec=Q43.f N a b c d:=by kernel_rfl
noncomputable def Q43.ent (N:Nat):xA:=wF (Bool×List Int×Bool×List Int) 0 [true,true] [.recd [.any,.il .u32 1],.recd [.any,.il .u32 1]] fun
 | [.agg [.c (.bool a),.il .u32 1 b],.agg [.c (.bool c),.il .u32 1 d]]=>some (Q43.f N a b c d,fun r=>.one (.tup [.agg [.c (.bool r.1),.il .u32 1 r.2.1],.agg [.c (.bool r.2.2.1),.il .u32 1 r.2.2.2]]) [])
 |_=>none
theorem Q43.env (N:Nat):aB Tryz.prog (Q43.E N):=⟨(.cons uK (.cons iC (.cons kE .nil))),(.cons (Q39.ent_ok N) (.cons (Q32.ent_ok N) (.cons (Q37.ent_ok N) (.cons (Q36.ent_ok N) (.cons (Q42.ent_ok N) (.cons (Q34.ent_ok N) (.cons (Q41.ent_ok N) (.cons (Q38.ent_ok N) .nil))))))))⟩
theorem Q43.k5 (N:Nat):xB Tryz.prog Tryz.f119 (Q43.E N) (.loop Q43.b5):=gD (Q43.env N) bA 390 (c:=Q43.c5 N) dA.n fun R vs H k r h=>by unfold Q43.c5 at h;dsimp only at h;split at h;exact⟨_,Q43.l5_eq .. ▸h⟩;cases h
theorem Q43.spec (N:Nat)(a:Bool)(c:List Int)(d:Bool)(f:List Int)(r:Bool×List Int×Bool×List Int)(h:Q43.f N a c d f=some r):fA Tryz.prog 119 [.agg [.c (.bool a),.il .u32 1 c],.agg [.c (.bool d),.il .u32 1 f]] [] (.tup [.agg [.c (.bool r.1),.il .u32 1 r.2.1],.agg [.c (.bool r.2.2.1),.il .u32 1 r.2.2.2]]) ([]):=vA (Q43.env N) bA Tryz.func119 (dA.of (l:=[(.scope (sA ((eA (bo Tryz.f119)).getD 0 .skip))),(.loop (sA ((eA (bo Tryz.f119)).getD 1 .skip)))]) (by kernel_rfl) (dA.cons (qP (by kernel_rfl)) (dA.cons (Q43.k5 N) dA.nil))) ((Q43.f_eq ..).trans h) fun v b e=>by unfold Q43.dec at e;split at e<;>cases e;exact⟨rfl,rfl⟩
theorem Q43.ent_ok (N:Nat):uA Tryz.prog 119 (Q43.ent N):=yA fun v a e h=>by split at h;exact nC (Q:=fun e=>fA _ _ _ _ (e a).pick.1 (e a).pick.2) h fun k=>Q43.spec N _ _ _ _ a k;cases h
noncomputable def Q44.f (N:Nat)(k:Bool)(h:List Int)(l:Bool)(j:List Int):Option (List Int×Bool×List Int×Bool×List Int):=
 (Q36.f N l j).bind fun p=>
 bif p==0 then
  (Q36.f N k h).bind fun q=>
  (Q32.f N q).bind fun m=>
  some (h,m.1,m.2,false,[])
 else
 (Q20.f N h j).bind fun o=>
 (Q31.f N false o).bind fun i=>
 (Q40.f N k h i.1 i.2).bind fun b=>
 (Q41.f N b.1 b.2.1 b.2.2).bind fun d=>
 (Q31.f N false j).bind fun e=>
 (Q40.f N e.1 e.2 i.1 i.2).bind fun c=>
 (Q41.f N c.1 c.2.1 c.2.2).bind fun f=>
 (Q43.f N d.1 d.2 f.1 f.2).bind fun a=>
 (Q31.f N (!(a.2.2.1==l)) a.2.2.2).bind fun g=>
 some (o,a.1,a.2.1,g.1,g.2)
noncomputable def Q44.E (N:Nat):bD:=bF [(4,yj),(110,hF),(112,hJ)] [(117,Q36.ent N),(84,Q32.ent N),(118,Q20.ent N),(85,Q31.ent N),(121,Q40.ent N),(120,Q41.ent N),(119,Q43.ent N)] [] [] N [.cell 4 110,.cell 5 112,.cell 6 112] [.recd [.il .u32 1],.recd [.any,.il .u32 1],.recd [.any,.il .u32 1]] 0 52
noncomputable def Q44.dec (v:V)(bs:List rA):Option (List Int×Bool×List Int×Bool×List Int):=match v,bs with
 | .tup [.agg [.il .u32 1 a],.agg [.c (.bool b),.il .u32 1 c],.agg [.c (.bool d),.il .u32 1 e]],[]=>some (a,b,c,d,e)
 |_,_=>none
theorem Q44.f_eq (N:Nat)(a:Bool)(b:List Int)(c:Bool)(d:List Int):
  cB (Q44.E N) (bo Tryz.f83) [.agg [.c (.bool a),.il .u32 1 b],.agg [.c (.bool c),.il .u32 1 d]] [] Q44.dec=Q44.f N a b c d:=by kernel_rfl
noncomputable def Q44.ent (N:Nat):xA:=wF (List Int×Bool×List Int×Bool×List Int) 0 [true,true] [.recd [.any,.il .u32 1],.recd [.any,.il .u32 1]] fun
 | [.agg [.c (.bool a),.il .u32 1 b],.agg [.c (.bool c),.il .u32 1 d]]=>some (Q44.f N a b c d,fun r=>.one (.tup [.agg [.il .u32 1 r.1],.agg [.c (.bool r.2.1),.il .u32 1 r.2.2.1],.agg [.c (.bool r.2.2.2.1),.il .u32 1 r.2.2.2.2]]) [])
 |_=>none
theorem Q44.env (N:Nat):aB Tryz.prog (Q44.E N):=⟨(.cons uK (.cons iC (.cons kE .nil))),(.cons (Q36.ent_ok N) (.cons (Q32.ent_ok N) (.cons (Q20.ent_ok N) (.cons (Q31.ent_ok N) (.cons (Q40.ent_ok N) (.cons (Q41.ent_ok N) (.cons (Q43.ent_ok N) .nil)))))))⟩
theorem Q44.spec (N:Nat)(a:Bool)(c:List Int)(d:Bool)(f:List Int)(r:List Int×Bool×List Int×Bool×List Int)(h:Q44.f N a c d f=some r):fA Tryz.prog 83 [.agg [.c (.bool a),.il .u32 1 c],.agg [.c (.bool d),.il .u32 1 f]] [] (.tup [.agg [.il .u32 1 r.1],.agg [.c (.bool r.2.1),.il .u32 1 r.2.2.1],.agg [.c (.bool r.2.2.2.1),.il .u32 1 r.2.2.2.2]]) ([]):=vA (Q44.env N) bA Tryz.func83 dA.n ((Q44.f_eq ..).trans h) fun v b e=>by unfold Q44.dec at e;split at e<;>cases e;exact⟨rfl,rfl⟩
theorem Q44.ent_ok (N:Nat):uA Tryz.prog 83 (Q44.ent N):=yA fun v a e h=>by split at h;exact nC (Q:=fun e=>fA _ _ _ _ (e a).pick.1 (e a).pick.2) h fun k=>Q44.spec N _ _ _ _ a k;cases h
noncomputable def Q45.f (N:Nat)(b c:Int):Option (Int×Int×Int):=
 bif decide ((ph b c)>4611686018427387904)then
  some (0,0,0)
 else
 bif decide ((Eu b c)<(-4611686018427387904))then
  some (0,0,0)
 else
 (Q32.f N b).bind fun d=>
 (Q32.f N c).bind fun e=>
 (Q44.f N d.1 d.2 e.1 e.2).bind fun a=>
 (Q31.f N false a.1).bind fun f=>
 (Q33.f N f.1 f.2).bind fun g=>
 (Q33.f N a.2.1 a.2.2.1).bind fun h=>
 (Q33.f N a.2.2.2.1 a.2.2.2.2).bind fun i=>
 some (g.1,h.1,i.1)
noncomputable def Q45.E (N:Nat):bD:=bF [(110,hF),(112,hJ)] [(84,Q32.ent N),(83,Q44.ent N),(85,Q31.ent N),(86,Q33.ent N)] [] [] N [.tmp 4,.tmp 5,.tmp 6] [.any,.any,.any] 0 48
noncomputable def Q45.dec (v:V)(bs:List rA):Option (Int×Int×Int):=match v,bs with
 | .tup [.c (.int .i64 a),.c (.int .i64 b),.c (.int .i64 c)],[]=>some (a,b,c)
 |_,_=>none
theorem Q45.f_eq (N:Nat)(a b:Int):
  cB (Q45.E N) (bo Tryz.f63) [.c (.int .i64 a),.c (.int .i64 b)] [] Q45.dec=Q45.f N a b:=by kernel_rfl
noncomputable def Q45.ent (N:Nat):xA:=wF (Int×Int×Int) 0 [true,true] [.any,.any] fun
 | [.c (.int .i64 a),.c (.int .i64 b)]=>some (Q45.f N a b,fun r=>.one (.tup [.c (.int .i64 r.1),.c (.int .i64 r.2.1),.c (.int .i64 r.2.2)]) [])
 |_=>none
theorem Q45.env (N:Nat):aB Tryz.prog (Q45.E N):=⟨(.cons iC (.cons kE .nil)),(.cons (Q32.ent_ok N) (.cons (Q44.ent_ok N) (.cons (Q31.ent_ok N) (.cons (Q33.ent_ok N) .nil))))⟩
theorem Q45.spec (N:Nat)(a c:Int)(r:Int×Int×Int)(h:Q45.f N a c=some r):fA Tryz.prog 63 [.c (.int .i64 a),.c (.int .i64 c)] [] (.tup [.c (.int .i64 r.1),.c (.int .i64 r.2.1),.c (.int .i64 r.2.2)]) ([]):=vA (Q45.env N) bA Tryz.func63 dA.n ((Q45.f_eq ..).trans h) fun v b e=>by unfold Q45.dec at e;split at e<;>cases e;exact⟨rfl,rfl⟩
theorem Q45.ent_ok (N:Nat):uA Tryz.prog 63 (Q45.ent N):=yA fun v a e h=>by split at h;exact nC (Q:=fun e=>fA _ _ _ _ (e a).pick.1 (e a).pick.2) h fun k=>Q45.spec N _ _ a k;cases h
noncomputable def Q46.f (N:Nat)(a b c:Int):Option (Bool):=
 bif decide ((ph (ph a b) c)≤1073741824)then
  some (decide ((Eu (Eu a b) c)≥(-1073741824)))
 else
 some false
noncomputable def Q46.E (N:Nat):bD:=bF [(2,eQ),(33,wH)] [] [] [] N [.tmp 2] [.any] 0 21
noncomputable def Q46.dec (v:V)(bs:List rA):Option (Bool):=match v,bs with
 | .c (.bool a),[]=>some a
 |_,_=>none
theorem Q46.f_eq (N:Nat)(a b c:Int):
  cB (Q46.E N) (bo Tryz.f38) [.agg [.c (.int .i64 a),.c (.int .i64 b),.c (.int .i64 c)]] [] Q46.dec=Q46.f N a b c:=by kernel_rfl
noncomputable def Q46.ent (N:Nat):xA:=wF (Bool) 0 [true] [.recd [.any,.any,.any]] fun
 | [.agg [.c (.int .i64 a),.c (.int .i64 b),.c (.int .i64 c)]]=>some (Q46.f N a b c,fun r=>.one (.c (.bool r)) [])
 |_=>none
theorem Q46.env (N:Nat):aB Tryz.prog (Q46.E N):=⟨(.cons xC (.cons oC .nil)),.nil⟩
theorem Q46.spec (N:Nat)(a c d:Int)(r:Bool)(h:Q46.f N a c d=some r):fA Tryz.prog 38 [.agg [.c (.int .i64 a),.c (.int .i64 c),.c (.int .i64 d)]] [] (.c (.bool r)) ([]):=vA (Q46.env N) bA Tryz.func38 dA.n ((Q46.f_eq ..).trans h) fun v b e=>by unfold Q46.dec at e;split at e<;>cases e;exact⟨rfl,rfl⟩
theorem Q46.ent_ok (N:Nat):uA Tryz.prog 38 (Q46.ent N):=yA fun v a e h=>by split at h;exact nC (Q:=fun e=>fA _ _ _ _ (e a).pick.1 (e a).pick.2) h fun k=>Q46.spec N _ _ _ a k;cases h
noncomputable def Q47.f (N:Nat)(b a c:Int):Option (Int):=
 (Q46.f N b a c).bind fun d=>
 bif !d then
  some 0
 else
 some (aA ((aA (a*a))- (aA ((aA (4*b))*c))))
noncomputable def Q47.E (N:Nat):bD:=bF [(2,eQ),(33,wH)] [(38,Q46.ent N)] [] [] N [.tmp 2] [.any] 0 18
noncomputable def Q47.dec (v:V)(bs:List rA):Option (Int):=match v,bs with
 | .c (.int .i64 a),[]=>some a
 |_,_=>none
theorem Q47.f_eq (N:Nat)(a b c:Int):
  cB (Q47.E N) (bo Tryz.f19) [.agg [.c (.int .i64 a),.c (.int .i64 b),.c (.int .i64 c)]] [] Q47.dec=Q47.f N a b c:=by kernel_rfl
noncomputable def Q47.ent (N:Nat):xA:=wF (Int) 0 [true] [.recd [.any,.any,.any]] fun
 | [.agg [.c (.int .i64 a),.c (.int .i64 b),.c (.int .i64 c)]]=>some (Q47.f N a b c,fun r=>.one (.c (.int .i64 r)) [])
 |_=>none
theorem Q47.env (N:Nat):aB Tryz.prog (Q47.E N):=⟨(.cons xC (.cons oC .nil)),(.cons (Q46.ent_ok N) .nil)⟩
theorem Q47.spec (N:Nat)(a c d r:Int)(h:Q47.f N a c d=some r):fA Tryz.prog 19 [.agg [.c (.int .i64 a),.c (.int .i64 c),.c (.int .i64 d)]] [] (.c (.int .i64 r)) ([]):=vA (Q47.env N) bA Tryz.func19 dA.n ((Q47.f_eq ..).trans h) fun v b e=>by unfold Q47.dec at e;split at e<;>cases e;exact⟨rfl,rfl⟩
theorem Q47.ent_ok (N:Nat):uA Tryz.prog 19 (Q47.ent N):=yA fun v a e h=>by split at h;exact nC (Q:=fun e=>fA _ _ _ _ (e a).pick.1 (e a).pick.2) h fun k=>Q47.spec N _ _ _ a k;cases h
noncomputable def Q48.f (N:Nat)(a b c:Int):Option (Int):=
 (Q47.f N a b c).bind fun d=>
 (Q46.f N a b c).bind fun e=>
 bif !e then
  some 3
 else
 bif decide (a≤0)then
  some 81
 else
 bif decide (d≥0)then
  some 81
 else
 bif decide (d<(-4294967296))then
  some 80
 else
 some 0
noncomputable def Q48.E (N:Nat):bD:=bF [(2,eQ),(33,wH)] [(19,Q47.ent N),(38,Q46.ent N)] [] [] N [.tmp 2] [.any] 0 21
noncomputable def Q48.dec (v:V)(bs:List rA):Option (Int):=match v,bs with
 | .c (.int .i64 a),[]=>some a
 |_,_=>none
theorem Q48.f_eq (N:Nat)(a b c:Int):
  cB (Q48.E N) (bo Tryz.f36) [.agg [.c (.int .i64 a),.c (.int .i64 b),.c (.int .i64 c)]] [] Q48.dec=Q48.f N a b c:=by kernel_rfl
noncomputable def Q48.ent (N:Nat):xA:=wF (Int) 0 [true] [.recd [.any,.any,.any]] fun
 | [.agg [.c (.int .i64 a),.c (.int .i64 b),.c (.int .i64 c)]]=>some (Q48.f N a b c,fun r=>.one (.c (.int .i64 r)) [])
 |_=>none
theorem Q48.env (N:Nat):aB Tryz.prog (Q48.E N):=⟨(.cons xC (.cons oC .nil)),(.cons (Q47.ent_ok N) (.cons (Q46.ent_ok N) .nil))⟩
theorem Q48.spec (N:Nat)(a c d r:Int)(h:Q48.f N a c d=some r):fA Tryz.prog 36 [.agg [.c (.int .i64 a),.c (.int .i64 c),.c (.int .i64 d)]] [] (.c (.int .i64 r)) ([]):=vA (Q48.env N) bA Tryz.func36 dA.n ((Q48.f_eq ..).trans h) fun v b e=>by unfold Q48.dec at e;split at e<;>cases e;exact⟨rfl,rfl⟩
theorem Q48.ent_ok (N:Nat):uA Tryz.prog 36 (Q48.ent N):=yA fun v a e h=>by split at h;exact nC (Q:=fun e=>fA _ _ _ _ (e a).pick.1 (e a).pick.2) h fun k=>Q48.spec N _ _ _ a k;cases h
noncomputable def Q49.f (N:Nat)(a b e c f d g:Int):Option (Bool×Int×Int×Int×Int×Int×Int×Int):=
 bif decide (b≤(aA (0-a)))then
  bif !((aA (2*a))==0)then
   bif !((aA (2*a))==0)then
    bif decide ((Int.tmod (aA (a-b)) (aA (2*a)))<0)then
     some (true,a,aA (b+(aA ((aA (2*(aA ((aA (Int.tdiv (aA (a-b)) (aA (2*a))))-1))))*a))),aA ((aA ((aA ((aA (a*(aA ((aA (Int.tdiv (aA (a-b)) (aA (2*a))))-1))))+b))*(aA ((aA (Int.tdiv (aA (a-b)) (aA (2*a))))-1))))+e),c,aA ((aA ((aA ((aA (Int.tdiv (aA (a-b)) (aA (2*a))))-1))*c))+f),d,aA ((aA ((aA ((aA (Int.tdiv (aA (a-b)) (aA (2*a))))-1))*d))+g))
    else
    some (true,a,aA (b+(aA ((aA (2*(aA (Int.tdiv (aA (a-b)) (aA (2*a))))))*a))),aA ((aA ((aA ((aA (a*(aA (Int.tdiv (aA (a-b)) (aA (2*a))))))+b))*(aA (Int.tdiv (aA (a-b)) (aA (2*a))))))+e),c,aA ((aA ((aA (Int.tdiv (aA (a-b)) (aA (2*a))))*c))+f),d,aA ((aA ((aA (Int.tdiv (aA (a-b)) (aA (2*a))))*d))+g))
   else none
  else none
 else
 bif decide (b>a)then
  bif !((aA (2*a))==0)then
   bif !((aA (2*a))==0)then
    bif decide ((Int.tmod (aA (a-b)) (aA (2*a)))<0)then
     some (true,a,aA (b+(aA ((aA (2*(aA ((aA (Int.tdiv (aA (a-b)) (aA (2*a))))-1))))*a))),aA ((aA ((aA ((aA (a*(aA ((aA (Int.tdiv (aA (a-b)) (aA (2*a))))-1))))+b))*(aA ((aA (Int.tdiv (aA (a-b)) (aA (2*a))))-1))))+e),c,aA ((aA ((aA ((aA (Int.tdiv (aA (a-b)) (aA (2*a))))-1))*c))+f),d,aA ((aA ((aA ((aA (Int.tdiv (aA (a-b)) (aA (2*a))))-1))*d))+g))
    else
    some (true,a,aA (b+(aA ((aA (2*(aA (Int.tdiv (aA (a-b)) (aA (2*a))))))*a))),aA ((aA ((aA ((aA (a*(aA (Int.tdiv (aA (a-b)) (aA (2*a))))))+b))*(aA (Int.tdiv (aA (a-b)) (aA (2*a))))))+e),c,aA ((aA ((aA (Int.tdiv (aA (a-b)) (aA (2*a))))*c))+f),d,aA ((aA ((aA (Int.tdiv (aA (a-b)) (aA (2*a))))*d))+g))
   else none
  else none
 else
 bif decide (a>e)then
  some (true,e,aA (0-b),a,f,aA (0-c),g,aA (0-d))
 else
 bif a==e then
  bif decide (b<0)then
   some (true,e,aA (0-b),a,f,aA (0-c),g,aA (0-d))
  else
  some (false,a,b,e,c,f,d,g)
 else
 some (false,a,b,e,c,f,d,g)
noncomputable def Q49.E (N:Nat):bD:=bF [(2,eQ),(33,wH),(72,Cq),(74,Gb)] [] [] [] N [.tmp 2] [.any] 1 164
noncomputable def Q49.dec (v:V)(bs:List rA):Option (Bool×Int×Int×Int×Int×Int×Int×Int):=match v,bs with
 | .c (.bool a),[.vals [.c (.int .i64 b),.c (.int .i64 c),.c (.int .i64 d),.c (.int .i64 e),.c (.int .i64 f),.c (.int .i64 g),.c (.int .i64 h)]]=>some (a,b,c,d,e,f,g,h)
 |_,_=>none
theorem Q49.f_eq (N:Nat)(a b c d e f g:Int):
  cB (Q49.E N) (bo Tryz.f37) [.ptr 0 0 7] [.vals [.c (.int .i64 a),.c (.int .i64 b),.c (.int .i64 c),.c (.int .i64 d),.c (.int .i64 e),.c (.int .i64 f),.c (.int .i64 g)]] Q49.dec=Q49.f N a b c d e f g:=by kernel_rfl
noncomputable def Q49.ent (N:Nat):xA:={A:=Bool×Int×Int×Int×Int×Int×Int×Int,fresh:=0,imm:=[false],dec:=fun args bs=>match xF (nA bs) [false] args,bs with
 | [.ptr 0 0 7],[.vals [.c (.int .i64 a),.c (.int .i64 b),.c (.int .i64 c),.c (.int .i64 d),.c (.int .i64 e),.c (.int .i64 f),.c (.int .i64 g)]]=>some (Q49.f N a b c d e f g,fun r=>.one (.c (.bool r.1)) [.vals [.c (.int .i64 r.2.1),.c (.int .i64 r.2.2.1),.c (.int .i64 r.2.2.2.1),.c (.int .i64 r.2.2.2.2.1),.c (.int .i64 r.2.2.2.2.2.1),.c (.int .i64 r.2.2.2.2.2.2.1),.c (.int .i64 r.2.2.2.2.2.2.2)]])
 |_,_=>none}
theorem Q49.env (N:Nat):aB Tryz.prog (Q49.E N):=⟨(.cons xC (.cons oC (.cons yW (.cons uw .nil)))),.nil⟩
theorem Q49.spec (N:Nat)(a c d f g i j:Int)(r:Bool×Int×Int×Int×Int×Int×Int×Int)(h:Q49.f N a c d f g i j=some r):fA Tryz.prog 37 [.ptr 0 0 7] [.vals [.c (.int .i64 a),.c (.int .i64 c),.c (.int .i64 d),.c (.int .i64 f),.c (.int .i64 g),.c (.int .i64 i),.c (.int .i64 j)]] (.c (.bool r.1)) ([.vals [.c (.int .i64 r.2.1),.c (.int .i64 r.2.2.1),.c (.int .i64 r.2.2.2.1),.c (.int .i64 r.2.2.2.2.1),.c (.int .i64 r.2.2.2.2.2.1),.c (.int .i64 r.2.2.2.2.2.2.1),.c (.int .i64 r.2.2.2.2.2.2.2)]]):=vA (Q49.env N) bA Tryz.func37 dA.n ((Q49.f_eq ..).trans h) fun v b e=>by unfold Q49.dec at e;split at e<;>cases e;exact⟨rfl,rfl⟩
theorem Q49.ent_ok (N:Nat):uA Tryz.prog 37 (Q49.ent N):=by
 intro args bs a enc h;simp only[Q49.ent]at h;split at h
 ·rename_i hz;have h0:=Option.some.inj h;have h1:=congrArg Prod.fst h0;have h2:=congrArg Prod.snd h0;dsimp only at h1 h2;subst h2;exact fA.of_asSl (fl:=[false]) (by rw[hz];exact Q49.spec N _ _ _ _ _ _ _ a h1)
 ·cases h
noncomputable def Q50.l6 {R:Type}(N:Nat):Nat→Int→Int→Int→Int→Int→Int→Int→Int→Int→Int→Int→Int→Int→Int→(Int→Int→Int→Int→Int→Int→Int→Int→Int→Int→Int→Int→Int→Int→Option R)→Option R
 |0,_,_,_,_,_,_,_,_,_,_,_,_,_,_,_=>none
 |n+1,l,m,o,p,q,b,c,d,e,f,g,h,i,j,k=>
  (Q49.f N d e f g h i j).bind fun a=>
  bif a.1 then
   Q50.l6 N n l m o p q b c a.2.1 a.2.2.1 a.2.2.2.1 a.2.2.2.2.1 a.2.2.2.2.2.1 a.2.2.2.2.2.2.1 a.2.2.2.2.2.2.2 k
  else
  k l m o p q b c a.2.1 a.2.2.1 a.2.2.2.1 a.2.2.2.2.1 a.2.2.2.2.2.1 a.2.2.2.2.2.2.1 a.2.2.2.2.2.2.2
noncomputable def Q50.f (N:Nat)(h i j:Int):Option (Int×Int×Int×Int×Int×Int×Int×Int):=
 (Q48.f N h i j).bind fun k=>
 bif k != 0 then
  some (0,0,0,0,0,0,0,k)
 else
 Q50.l6 N N 0 0 0 0 0 0 0 h i j 1 0 0 1
  (fun l m o p q r s a b c d e f g=>
   some (a,b,c,d,e,f,g,0))
noncomputable def Q50.h6:eD:=⟨[(2,.box [.any,.any,.any]),(3,.box [.any,.any,.any,.any]),(6,.box [.any,.any,.any,.any,.any,.any,.any]),(7,.any)],[(2,.box [.any,.any,.any]),(3,.box [.any,.any,.any,.any]),(6,.box [.any,.any,.any,.any,.any,.any,.any])]⟩
noncomputable def Q50.c6 (N:Nat):xH:=⟨fun vs H k=>match vs,H with
 | [.ptr 0 0 3,.ptr 1 0 4,.ptr 2 0 7,.fn 37 [.ptr 2 0 7] []],[.vals [.c (.int .i64 z),.c (.int .i64 x6),.c (.int .i64 x7)],.vals [.c (.int .i64 x8),.c (.int .i64 x9),.c (.int .i64 a),.c (.int .i64 b)],.vals [.c (.int .i64 c),.c (.int .i64 d),.c (.int .i64 e),.c (.int .i64 f),.c (.int .i64 g),.c (.int .i64 h),.c (.int .i64 i)]]=>Q50.l6 N N z x6 x7 x8 x9 a b c d e f g h i (fun j l m o p q r s t u v w x y=>k (.exit 0) ⟨dD Q50.h6.out [.ptr 0 0 3,.ptr 1 0 4,.ptr 2 0 7],[.vals [.c (.int .i64 j),.c (.int .i64 l),.c (.int .i64 m)],.vals [.c (.int .i64 o),.c (.int .i64 p),.c (.int .i64 q),.c (.int .i64 r)],.vals [.c (.int .i64 s),.c (.int .i64 t),.c (.int .i64 u),.c (.int .i64 v),.c (.int .i64 w),.c (.int .i64 x),.c (.int .i64 y)]]⟩)
 |_,_=>none⟩
noncomputable def Q50.E (N:Nat):bD:=bF [(2,eQ),(33,wH),(72,Cq),(74,Gb)] [(36,Q48.ent N),(37,Q49.ent N)] [(6,Q50.h6)] [(6,Q50.c6 N)] N [.cell 2 33,.cell 3 72,.tmp 4] [.recd [.any,.any,.any],.recd [.any,.any,.any,.any],.any] 0 31
noncomputable def Q50.b6:Code:=sA ((eA (bo Tryz.f54)).getD 0 .skip)
theorem Q50.l6_eq {R:Type}(N n:Nat)(x5 x6 x7 x8 x9 a b c d e f g h i:Int)(k:Ex→St→Option R):
  jB 0 Q50.h6 (fun s k=>bB (Q50.E N) 393 Q50.b6 s k) n [.ptr 0 0 3,.ptr 1 0 4,.ptr 2 0 7,.fn 37 [.ptr 2 0 7] []] [.vals [.c (.int .i64 x5),.c (.int .i64 x6),.c (.int .i64 x7)],.vals [.c (.int .i64 x8),.c (.int .i64 x9),.c (.int .i64 a),.c (.int .i64 b)],.vals [.c (.int .i64 c),.c (.int .i64 d),.c (.int .i64 e),.c (.int .i64 f),.c (.int .i64 g),.c (.int .i64 h),.c (.int .i64 i)]] k=Q50.l6 N n x5 x6 x7 x8 x9 a b c d e f g h i (fun j l m o p q r t u v w x y z=>k (.exit 0) ⟨dD Q50.h6.out [.ptr 0 0 3,.ptr 1 0 4,.ptr 2 0 7],[.vals [.c (.int .i64 j),.c (.int .i64 l),.c (.int .i64 m)],.vals [.c (.int .i64 o),.c (.int .i64 p),.c (.int .i64 q),.c (.int .i64 r)],.vals [.c (.int .i64 t),.c (.int .i64 u),.c (.int .i64 v),.c (.int .i64 w),.c (.int .i64 x),.c (.int .i64 y),.c (.int .i64 z)]]⟩):=by
 induction n generalizing x5 x6 x7 x8 x9 a b c d e f g h i with
 |zero=>kernel_rfl
 |succ n ih=>
  simp only[Q50.l6,←ih]
  kernel_rfl
noncomputable def Q50.dec (v:V)(bs:List rA):Option (Int×Int×Int×Int×Int×Int×Int×Int):=match v,bs with
 | .tup [.agg [.c (.int .i64 a),.c (.int .i64 b),.c (.int .i64 c)],.agg [.c (.int .i64 d),.c (.int .i64 e),.c (.int .i64 f),.c (.int .i64 g)],.c (.int .i64 h)],[]=>some (a,b,c,d,e,f,g,h)
 |_,_=>none
theorem Q50.f_eq (N:Nat)(a b c:Int):
  cB (Q50.E N) (bo Tryz.f54) [.agg [.c (.int .i64 a),.c (.int .i64 b),.c (.int .i64 c)]] [] Q50.dec=Q50.f N a b c:=by kernel_rfl
noncomputable def Q50.ent (N:Nat):xA:=wF (Int×Int×Int×Int×Int×Int×Int×Int) 0 [true] [.recd [.any,.any,.any]] fun
 | [.agg [.c (.int .i64 a),.c (.int .i64 b),.c (.int .i64 c)]]=>some (Q50.f N a b c,fun r=>.one (.tup [.agg [.c (.int .i64 r.1),.c (.int .i64 r.2.1),.c (.int .i64 r.2.2.1)],.agg [.c (.int .i64 r.2.2.2.1),.c (.int .i64 r.2.2.2.2.1),.c (.int .i64 r.2.2.2.2.2.1),.c (.int .i64 r.2.2.2.2.2.2.1)],.c (.int .i64 r.2.2.2.2.2.2.2)]) [])
 |_=>none
theorem Q50.env (N:Nat):aB Tryz.prog (Q50.E N):=⟨(.cons xC (.cons oC (.cons yW (.cons uw .nil)))),(.cons (Q48.ent_ok N) (.cons (Q49.ent_ok N) .nil))⟩
theorem Q50.k6 (N:Nat):xB Tryz.prog Tryz.f54 (Q50.E N) (.loop Q50.b6):=gD (Q50.env N) bA 393 (c:=Q50.c6 N) dA.n fun R vs H k r h=>by unfold Q50.c6 at h;dsimp only at h;split at h;exact⟨_,Q50.l6_eq .. ▸h⟩;cases h
theorem Q50.spec (N:Nat)(a c d:Int)(r:Int×Int×Int×Int×Int×Int×Int×Int)(h:Q50.f N a c d=some r):fA Tryz.prog 54 [.agg [.c (.int .i64 a),.c (.int .i64 c),.c (.int .i64 d)]] [] (.tup [.agg [.c (.int .i64 r.1),.c (.int .i64 r.2.1),.c (.int .i64 r.2.2.1)],.agg [.c (.int .i64 r.2.2.2.1),.c (.int .i64 r.2.2.2.2.1),.c (.int .i64 r.2.2.2.2.2.1),.c (.int .i64 r.2.2.2.2.2.2.1)],.c (.int .i64 r.2.2.2.2.2.2.2)]) ([]):=vA (Q50.env N) bA Tryz.func54 (dA.of (l:=[(.loop (sA ((eA (bo Tryz.f54)).getD 0 .skip)))]) (by kernel_rfl) (dA.cons (Q50.k6 N) dA.nil)) ((Q50.f_eq ..).trans h) fun v b e=>by unfold Q50.dec at e;split at e<;>cases e;exact⟨rfl,rfl⟩
theorem Q50.ent_ok (N:Nat):uA Tryz.prog 54 (Q50.ent N):=yA fun v a e h=>by split at h;exact nC (Q:=fun e=>fA _ _ _ _ (e a).pick.1 (e a).pick.2) h fun k=>Q50.spec N _ _ _ a k;cases h
noncomputable def Q51.f (N:Nat)(a b c:Int):Option (Int):=
 (Q46.f N a b c).bind fun d=>
 bif !d then
  some 0
 else
 (Q45.f N a b).bind fun e=>
 (Q45.f N e.1 c).bind fun f=>
 some f.1
noncomputable def Q51.E (N:Nat):bD:=bF [(2,eQ),(33,wH)] [(38,Q46.ent N),(63,Q45.ent N)] [] [] N [.tmp 2] [.any] 0 27
noncomputable def Q51.dec (v:V)(bs:List rA):Option (Int):=match v,bs with
 | .c (.int .i64 a),[]=>some a
 |_,_=>none
theorem Q51.f_eq (N:Nat)(a b c:Int):
  cB (Q51.E N) (bo Tryz.f62) [.agg [.c (.int .i64 a),.c (.int .i64 b),.c (.int .i64 c)]] [] Q51.dec=Q51.f N a b c:=by kernel_rfl
noncomputable def Q51.ent (N:Nat):xA:=wF (Int) 0 [true] [.recd [.any,.any,.any]] fun
 | [.agg [.c (.int .i64 a),.c (.int .i64 b),.c (.int .i64 c)]]=>some (Q51.f N a b c,fun r=>.one (.c (.int .i64 r)) [])
 |_=>none
theorem Q51.env (N:Nat):aB Tryz.prog (Q51.E N):=⟨(.cons xC (.cons oC .nil)),(.cons (Q46.ent_ok N) (.cons (Q45.ent_ok N) .nil))⟩
theorem Q51.spec (N:Nat)(a c d r:Int)(h:Q51.f N a c d=some r):fA Tryz.prog 62 [.agg [.c (.int .i64 a),.c (.int .i64 c),.c (.int .i64 d)]] [] (.c (.int .i64 r)) ([]):=vA (Q51.env N) bA Tryz.func62 dA.n ((Q51.f_eq ..).trans h) fun v b e=>by unfold Q51.dec at e;split at e<;>cases e;exact⟨rfl,rfl⟩
theorem Q51.ent_ok (N:Nat):uA Tryz.prog 62 (Q51.ent N):=yA fun v a e h=>by split at h;exact nC (Q:=fun e=>fA _ _ _ _ (e a).pick.1 (e a).pick.2) h fun k=>Q51.spec N _ _ _ a k;cases h
noncomputable def Q52.f (N:Nat)(b:Bool)(a:List Int):Option (Bool×List Int):=
 (Q24.f N a).bind fun c=>
 bif c==0 then
  some (false,[])
 else
 some (b,a)
noncomputable def Q53.f (N:Nat)(a:Int):Option (Bool×List Int):=
 bif decide (a<0)then
  (Q22.f N (gA (0- (gA a)))).bind fun d=>
  (Q52.f N true d).bind fun b=>
  some (b.1,b.2)
 else
 (Q22.f N (gA a)).bind fun e=>
 (Q52.f N false e).bind fun c=>
 some (c.1,c.2)
noncomputable def Q54.f (N:Nat)(a:Bool)(b:List Int):Option (Int):=
 (Q24.f N b).bind fun c=>
 bif c==0 then
  some 0
 else
 bif a then
  some (-1)
 else
 some 1
noncomputable def Q55.f (N:Nat)(a:Bool)(b:List Int):Option (Bool):=
 (Q54.f N a b).bind fun c=>
 some (c==0)
noncomputable def Q56.f (N:Nat)(b:Bool)(c:List Int):Option (Int×Bool):=
 (Q23.f N c).bind fun a=>
 bif !a.2 then
  some (0,false)
 else
 bif decide (a.1>9223372036854775808)then
  some (0,false)
 else
 bif a.1==9223372036854775808 then
  bif !b then
   some (0,false)
  else
  (Q54.f N b c).bind fun d=>
  bif decide (d<0)then
   some (aA (gA (0-a.1)),true)
  else
  some (aA a.1,true)
 else
 (Q54.f N b c).bind fun e=>
 bif decide (e<0)then
  some (aA (gA (0-a.1)),true)
 else
 some (aA a.1,true)
noncomputable def Q57.f (N:Nat)(e:Bool)(a:List Int)(f:Bool)(b:List Int):Option (Int):=
 (Q54.f N e a).bind fun c=>
 (Q54.f N f b).bind fun d=>
 bif decide (c<d)then
  some (-1)
 else
 bif decide (c>d)then
  some 1
 else
 bif decide (c<0)then
  (Q25.f N b a).bind fun g=>
  some g
 else
 (Q25.f N a b).bind fun h=>
 some h
noncomputable def Q58.f (N:Nat)(b:Bool)(c:List Int):Option (Bool×List Int):=
 (Q52.f N (!b) c).bind fun a=>
 some (a.1,a.2)
noncomputable def Q59.f (N:Nat)(d:Bool)(b:List Int)(f:Bool)(c:List Int):Option (Bool×List Int):=
 bif d==f then
  (Q26.f N b c).bind fun i=>
  (Q52.f N d i).bind fun g=>
  some (g.1,g.2)
 else
 (Q25.f N b c).bind fun j=>
 bif decide (j≥0)then
  (Q27.f N b c).bind fun k=>
  (Q52.f N d k).bind fun h=>
  some (h.1,h.2)
 else
 (Q27.f N c b).bind fun e=>
 (Q52.f N f e).bind fun a=>
 some (a.1,a.2)
noncomputable def Q60.f (N:Nat)(c:Bool)(d:List Int)(e:Bool)(f:List Int):Option (Bool×List Int):=
 (Q58.f N e f).bind fun a=>
 (Q59.f N c d a.1 a.2).bind fun b=>
 some (b.1,b.2)
noncomputable def Q61.f (N:Nat)(b:Bool)(c:List Int)(d:Bool)(e:List Int):Option (Bool×List Int):=
 (Q28.f N c e).bind fun f=>
 (Q52.f N (!(b==d)) f).bind fun a=>
 some (a.1,a.2)
noncomputable def Q62.f (N:Nat)(h:Bool)(m:List Int)(i:Bool)(j:List Int):Option (Bool×List Int×Bool×List Int):=
 (Q29.f N m j).bind fun k=>
 (Q52.f N (!(h==i)) k.1).bind fun b=>
 (Q52.f N h k.2).bind fun c=>
 (Q54.f N c.1 c.2).bind fun o=>
 bif decide (o<0)then
  (Q52.f N false j).bind fun l=>
  (Q59.f N c.1 c.2 l.1 l.2).bind fun a=>
  bif i then
   (Q53.f N 1).bind fun d=>
   (Q59.f N b.1 b.2 d.1 d.2).bind fun e=>
   some (e.1,e.2,a.1,a.2)
  else
  (Q53.f N 1).bind fun f=>
  (Q60.f N b.1 b.2 f.1 f.2).bind fun g=>
  some (g.1,g.2,a.1,a.2)
 else
 some (b.1,b.2,c.1,c.2)
noncomputable def Q63.l5 {R:Type}(N:Nat):Nat→Bool→List Int→Bool→Bool→List Int→Bool→List Int→Bool→List Int→Bool→List Int→(Bool→List Int→Bool→Bool→List Int→Option R)→Option R
 |0,_,_,_,_,_,_,_,_,_,_,_,_=>none
 |n+1,o,p,q,k,l,b,c,f,g,h,i,m=>
  (Q55.f N b c).bind fun j=>
  bif !j then
   (Q62.f N k l b c).bind fun a=>
   (Q61.f N a.1 a.2.1 h i).bind fun d=>
   (Q60.f N f g d.1 d.2).bind fun e=>
   Q63.l5 N n o p q b c a.2.2.1 a.2.2.2 h i e.1 e.2 m
  else
  m o p q f g
noncomputable def Q63.f (N:Nat)(j:Bool)(k:List Int)(b:Bool)(c:List Int):Option (Bool×List Int):=
 (Q62.f N j k b c).bind fun h=>
 (Q53.f N 1).bind fun i=>
 Q63.l5 N N b c false b c h.2.2.1 h.2.2.2 false [] i.1 i.2
  (fun d e l f g=>
   (Q62.f N f g d e).bind fun a=>
   some (a.2.2.1,a.2.2.2))
noncomputable def Q64.f (N:Nat)(k:Bool)(c:List Int)(l:Bool)(j:List Int):Option (List Int×Bool×List Int×Bool×List Int):=
 (Q55.f N l j).bind fun p=>
 bif p then
  (Q54.f N k c).bind fun q=>
  (Q53.f N q).bind fun m=>
  some (c,m.1,m.2,false,[])
 else
 (Q30.f N c j).bind fun o=>
 (Q52.f N false o).bind fun b=>
 (Q52.f N false j).bind fun d=>
 (Q62.f N d.1 d.2 b.1 b.2).bind fun e=>
 (Q62.f N k c b.1 b.2).bind fun f=>
 (Q63.f N f.1 f.2.1 e.1 e.2.1).bind fun a=>
 (Q61.f N k c a.1 a.2).bind fun g=>
 (Q60.f N b.1 b.2 g.1 g.2).bind fun h=>
 (Q62.f N h.1 h.2 l j).bind fun i=>
 some (o,a.1,a.2,i.1,i.2.1)
noncomputable def Q65.f (N:Nat)(b a:Int):Option (Int):=
 bif !(a==0)then
  bif decide ((Int.tmod b a)<0)then
   some (aA ((Int.tmod b a)+a))
  else
  some (Int.tmod b a)
 else none
noncomputable def Q66.l3 {R:Type}(N:Nat):Nat→Int→Int→(Int→Option R)→Option R
 |0,_,_,_=>none
 |n+1,c,a,b=>
  bif decide (a>0)then
   bif !(a==0)then
    Q66.l3 N n a (Int.tmod c a) b
   else none
  else
  b c
noncomputable def Q66.f (N:Nat)(a b:Int):Option (Int):=
 Q66.l3 N N (ph a (aA (0-a))) (ph b (aA (0-b)))
  (fun c=>
   some c)
noncomputable def Q67.f (N:Nat)(a:Int):Option (Bool):=
 bif decide (a≥(-1073741824))then
  some (decide (a≤1073741824))
 else
 some false
noncomputable def Q68.f (N:Nat)(a b c:Int):Option (Bool):=
 (Q67.f N a).bind fun d=>
 bif d then
  (Q67.f N b).bind fun e=>
  bif e then
   (Q67.f N c).bind fun f=>
   some f
  else
  some false
 else
 some false
noncomputable def Q69.f (N:Nat)(b a c:Int):Option (Int):=
 (Q68.f N b a c).bind fun d=>
 bif !d then
  some 0
 else
 some (aA ((aA (a*a))- (aA ((aA (4*b))*c))))
noncomputable def Q70.f (N:Nat)(a b c:Int):Option (Int):=
 (Q68.f N a b c).bind fun d=>
 bif !d then
  some 3
 else
 bif decide (a≤0)then
  some 81
 else
 (Q69.f N a b c).bind fun e=>
 bif decide (e≥0)then
  some 81
 else
 (Q69.f N a b c).bind fun f=>
 bif decide (f<(-4294967296))then
  some 80
 else
 some 0
noncomputable def Q71.f (N:Nat)(a b c:Int):Option (Bool):=
 bif decide ((aA (0-a))<b)then
  bif decide (b≤a)then
   bif decide (a≤c)then
    bif decide (b≥0)then
     some true
    else
    some (a != c)
   else
   some false
  else
  some false
 else
 some false
noncomputable def Q72.f (N:Nat)(b a:Int):Option (Int):=
 (Q65.f N b a).bind fun c=>
 bif !(a==0)then
  some (aA (Int.tdiv (aA (b-c)) a))
 else none
noncomputable def Q73.l5 {R:Type}(N:Nat):Nat→Int→Int→Int→Int→Int→Int→Int→Int→Int→Int→Int→Int→Int→Int→(Int→Int→Int→Int→Int→Int→Int→Int→Int→Int→Int→Int→Int→Int→Option R)→Option R
 |0,_,_,_,_,_,_,_,_,_,_,_,_,_,_,_=>none
 |n+1,a,f,o,q,r,g,h,i,j,k,b,l,c,m,p=>
  (Q71.f N a f o).bind fun s=>
  bif !s then
   bif decide ((aA (0-a))≥f)then
    (Q72.f N (aA (a-f)) (aA (2*a))).bind fun d=>
    Q73.l5 N n a (aA (f+(aA ((aA (2*d))*a)))) (aA ((aA ((aA ((aA (a*d))+f))*d))+o)) q r g h i j k b (aA ((aA (d*b))+l)) c (aA ((aA (d*c))+m)) p
   else
   bif decide (f>a)then
    (Q72.f N (aA (a-f)) (aA (2*a))).bind fun e=>
    Q73.l5 N n a (aA (f+(aA ((aA (2*e))*a)))) (aA ((aA ((aA ((aA (a*e))+f))*e))+o)) q r g h i j k b (aA ((aA (e*b))+l)) c (aA ((aA (e*c))+m)) p
   else
   Q73.l5 N n o (aA (0-f)) a q r g h i j k l (aA (0-b)) m (aA (0-c)) p
  else
  p a f o q r g h i j k b l c m
noncomputable def Q73.f (N:Nat)(h i j:Int):Option (Int×Int×Int×Int×Int×Int×Int×Int):=
 (Q70.f N h i j).bind fun k=>
 bif k != 0 then
  some (0,0,0,0,0,0,0,k)
 else
 Q73.l5 N N h i j 0 0 0 0 0 0 0 1 0 0 1
  (fun a b c l m o p q r s d e f g=>
   some (a,b,c,d,e,f,g,0))
noncomputable def Q74.f (N:Nat)(a b c:Int):Option (Int):=
 (Q68.f N a b c).bind fun d=>
 bif !d then
  some 0
 else
 (Q66.f N a b).bind fun e=>
 (Q66.f N e c).bind fun f=>
 some f
noncomputable def Gd:TI:=⟨.int .u64,1,8,[.int .u64 0]⟩
theorem uy:tC Tryz.prog 79 Gd:=aD (by kernel_rfl) (by kernel_rfl) (by kernel_rfl) (by kernel_rfl) (by kernel_rfl) (by kernel_rfl) (by kernel_rfl) (Tryz.underlying79) (by kernel_rfl)
noncomputable def Q75.f (N:Nat)(a:Int):Option (Int):=
 bif decide (a≥4294967296)then
  bif decide ((Int.fdiv a (2^32))≥65536)then
   bif decide ((Int.fdiv (Int.fdiv a (2^32)) (2^16))≥256)then
    bif (decide (0≤(wM (Int.fdiv (Int.fdiv (Int.fdiv a (2^32)) (2^16)) (2^8)))))&&(decide ((wM (Int.fdiv (Int.fdiv (Int.fdiv a (2^32)) (2^16)) (2^8)))<(cI.size:Int)))then
     some (aA (56+(aA (aG cI ((wM (Int.fdiv (Int.fdiv (Int.fdiv a (2^32)) (2^16)) (2^8))).toNat)))))
    else none
   else
   bif (decide (0≤(wM (Int.fdiv (Int.fdiv a (2^32)) (2^16)))))&&(decide ((wM (Int.fdiv (Int.fdiv a (2^32)) (2^16)))<(cI.size:Int)))then
    some (aA (48+(aA (aG cI ((wM (Int.fdiv (Int.fdiv a (2^32)) (2^16))).toNat)))))
   else none
  else
  bif decide ((Int.fdiv a (2^32))≥256)then
   bif (decide (0≤(wM (Int.fdiv (Int.fdiv a (2^32)) (2^8)))))&&(decide ((wM (Int.fdiv (Int.fdiv a (2^32)) (2^8)))<(cI.size:Int)))then
    some (aA (40+(aA (aG cI ((wM (Int.fdiv (Int.fdiv a (2^32)) (2^8))).toNat)))))
   else none
  else
  bif (decide (0≤(wM (Int.fdiv a (2^32)))))&&(decide ((wM (Int.fdiv a (2^32)))<(cI.size:Int)))then
   some (aA (32+(aA (aG cI ((wM (Int.fdiv a (2^32))).toNat)))))
  else none
 else
 bif decide (a≥65536)then
  bif decide ((Int.fdiv a (2^16))≥256)then
   bif (decide (0≤(wM (Int.fdiv (Int.fdiv a (2^16)) (2^8)))))&&(decide ((wM (Int.fdiv (Int.fdiv a (2^16)) (2^8)))<(cI.size:Int)))then
    some (aA (24+(aA (aG cI ((wM (Int.fdiv (Int.fdiv a (2^16)) (2^8))).toNat)))))
   else none
  else
  bif (decide (0≤(wM (Int.fdiv a (2^16)))))&&(decide ((wM (Int.fdiv a (2^16)))<(cI.size:Int)))then
   some (aA (16+(aA (aG cI ((wM (Int.fdiv a (2^16))).toNat)))))
  else none
 else
 bif decide (a≥256)then
  bif (decide (0≤(wM (Int.fdiv a (2^8)))))&&(decide ((wM (Int.fdiv a (2^8)))<(cI.size:Int)))then
   some (aA (8+(aA (aG cI ((wM (Int.fdiv a (2^8))).toNat)))))
  else none
 else
 bif (decide (0≤(wM a)))&&(decide ((wM a)<(cI.size:Int)))then
  some (aA (0+(aA (aG cI ((wM a).toNat)))))
 else none
noncomputable def Q75.E (N:Nat):bD:=bF [(3,Cn),(5,Hs),(9,Ht),(78,fQ)] [] [] [] N [.tmp 2] [.any] 0 25
noncomputable def Q75.dec (v:V)(bs:List rA):Option (Int):=match v,bs with
 | .c (.int .i64 a),[]=>some a
 |_,_=>none
theorem Q75.f_eq (N:Nat)(a:Int):
  cB (Q75.E N) (bo Tryz.f116) [.c (.int .u64 a)] [] Q75.dec=Q75.f N a:=by kernel_rfl
noncomputable def Q75.ent (N:Nat):xA:=wF (Int) 0 [true] [.any] fun
 | [.c (.int .u64 a)]=>some (Q75.f N a,fun r=>.one (.c (.int .i64 r)) [])
 |_=>none
theorem Q75.env (N:Nat):aB Tryz.prog (Q75.E N):=⟨(.cons yL (.cons Co (.cons Cr (.cons qF .nil)))),.nil⟩
theorem Q75.spec (N:Nat)(a r:Int)(h:Q75.f N a=some r):fA Tryz.prog 116 [.c (.int .u64 a)] [] (.c (.int .i64 r)) ([]):=vA (Q75.env N) bA Tryz.func116 dA.n ((Q75.f_eq ..).trans h) fun v b e=>by unfold Q75.dec at e;split at e<;>cases e;exact⟨rfl,rfl⟩
theorem Q75.ent_ok (N:Nat):uA Tryz.prog 116 (Q75.ent N):=yA fun v a e h=>by split at h;exact nC (Q:=fun e=>fA _ _ _ _ (e a).pick.1 (e a).pick.2) h fun k=>Q75.spec N _ a k;cases h
noncomputable def Q76.f (N:Nat)(a:Int):Option (Int):=
 (Q75.f N a).bind fun b=>
 some (aA (64-b))
noncomputable def Q76.E (N:Nat):bD:=bF [] [(116,Q75.ent N)] [] [] N [.tmp 2] [.any] 0 6
noncomputable def Q76.dec (v:V)(bs:List rA):Option (Int):=match v,bs with
 | .c (.int .i64 a),[]=>some a
 |_,_=>none
theorem Q76.f_eq (N:Nat)(a:Int):
  cB (Q76.E N) (bo Tryz.f163) [.c (.int .u64 a)] [] Q76.dec=Q76.f N a:=by kernel_rfl
noncomputable def Q76.ent (N:Nat):xA:=wF (Int) 0 [true] [.any] fun
 | [.c (.int .u64 a)]=>some (Q76.f N a,fun r=>.one (.c (.int .i64 r)) [])
 |_=>none
theorem Q76.env (N:Nat):aB Tryz.prog (Q76.E N):=⟨.nil,(.cons (Q75.ent_ok N) .nil)⟩
theorem Q76.spec (N:Nat)(a r:Int)(h:Q76.f N a=some r):fA Tryz.prog 163 [.c (.int .u64 a)] [] (.c (.int .i64 r)) ([]):=vA (Q76.env N) bA Tryz.func163 dA.n ((Q76.f_eq ..).trans h) fun v b e=>by unfold Q76.dec at e;split at e<;>cases e;exact⟨rfl,rfl⟩
theorem Q76.ent_ok (N:Nat):uA Tryz.prog 163 (Q76.ent N):=yA fun v a e h=>by split at h;exact nC (Q:=fun e=>fA _ _ _ _ (e a).pick.1 (e a).pick.2) h fun k=>Q76.spec N _ a k;cases h
noncomputable def Q77.f (N:Nat)(a b:Int):Option (Int×Int):=
 some (gA ((gA ((gA ((Int.fdiv a (2^32))*(Int.fdiv b (2^32))))+(Int.fdiv (gA ((gA ((Int.fdiv a (2^32))*(gC .u64 b 4294967295)))+(Int.fdiv (gA ((gC .u64 a 4294967295)*(gC .u64 b 4294967295))) (2^32)))) (2^32))))+(Int.fdiv (gA ((gC .u64 (gA ((gA ((Int.fdiv a (2^32))*(gC .u64 b 4294967295)))+(Int.fdiv (gA ((gC .u64 a 4294967295)*(gC .u64 b 4294967295))) (2^32)))) 4294967295)+(gA ((gC .u64 a 4294967295)*(Int.fdiv b (2^32)))))) (2^32))),gA (a*b))
noncomputable def Q77.E (N:Nat):bD:=bF [] [] [] [] N [.tmp 4,.tmp 5] [.any,.any] 0 51
noncomputable def Q77.dec (v:V)(bs:List rA):Option (Int×Int):=match v,bs with
 | .tup [.c (.int .u64 a),.c (.int .u64 b)],[]=>some (a,b)
 |_,_=>none
theorem Q77.f_eq (N:Nat)(a b:Int):
  cB (Q77.E N) (bo Tryz.f153) [.c (.int .u64 a),.c (.int .u64 b)] [] Q77.dec=Q77.f N a b:=by kernel_rfl
noncomputable def Q77.ent (N:Nat):xA:=wF (Int×Int) 0 [true,true] [.any,.any] fun
 | [.c (.int .u64 a),.c (.int .u64 b)]=>some (Q77.f N a b,fun r=>.one (.tup [.c (.int .u64 r.1),.c (.int .u64 r.2)]) [])
 |_=>none
theorem Q77.env (N:Nat):aB Tryz.prog (Q77.E N):=⟨.nil,.nil⟩
theorem Q77.spec (N:Nat)(a c:Int)(r:Int×Int)(h:Q77.f N a c=some r):fA Tryz.prog 153 [.c (.int .u64 a),.c (.int .u64 c)] [] (.tup [.c (.int .u64 r.1),.c (.int .u64 r.2)]) ([]):=vA (Q77.env N) bA Tryz.func153 dA.n ((Q77.f_eq ..).trans h) fun v b e=>by unfold Q77.dec at e;split at e<;>cases e;exact⟨rfl,rfl⟩
theorem Q77.ent_ok (N:Nat):uA Tryz.prog 153 (Q77.ent N):=yA fun v a e h=>by split at h;exact nC (Q:=fun e=>fA _ _ _ _ (e a).pick.1 (e a).pick.2) h fun k=>Q77.spec N _ _ a k;cases h
noncomputable def Q78.l17 {R:Type}(N:Nat):Nat→Int→Int→Int→Int→Int→Int→Int→Int→Int→(Int→Int→Int→Int→Int→Int→Int→Int→Option R)→Option R
 |0,_,_,_,_,_,_,_,_,_,_=>none
 |n+1,h,i,e,f,j,b,c,a,d,g=>
  bif decide (a≥4294967296)then
   bif decide ((gA (d+e))≥4294967296)then
    g h i e f j b c (gA (a-1))
   else
   Q78.l17 N n h i e f j b c (gA (a-1)) (gA (d+e)) g
  else
  bif decide ((gA (a*f))>(gA ((gA (4294967296*d))+b)))then
   bif decide ((gA (d+e))≥4294967296)then
    g h i e f j b c (gA (a-1))
   else
   Q78.l17 N n h i e f j b c (gA (a-1)) (gA (d+e)) g
  else
  g h i e f j b c a
noncomputable def Q78.l24 {R:Type}(N:Nat):Nat→Int→Int→Int→Int→Int→Int→Int→Int→Int→(Int→Int→Int→Int→Int→Int→Option R)→Option R
 |0,_,_,_,_,_,_,_,_,_,_=>none
 |n+1,d,e,b,i,c,f,g,h,a,j=>
  bif decide (a≥4294967296)then
   bif decide ((gA (g+b))≥4294967296)then
    j d e c f h (gA (a-1))
   else
   Q78.l24 N n d e b i c f (gA (g+b)) h (gA (a-1)) j
  else
  bif decide ((gA (a*i))>(gA ((gA (4294967296*g))+c)))then
   bif decide ((gA (g+b))≥4294967296)then
    j d e c f h (gA (a-1))
   else
   Q78.l24 N n d e b i c f (gA (g+b)) h (gA (a-1)) j
  else
  j d e c f h a
noncomputable def Q78.f (N:Nat)(i h b:Int):Option (Int×Int):=
 bif b==0 then none else
 bif decide (b≤i)then none else
 bif i==0 then
  bif !(b==0)then
   bif !(b==0)then
    some (gA (Int.tdiv h b),Int.tmod h b)
   else none
  else none
 else
 (Q76.f N b).bind fun a=>
 bif decide (0≤(gA a))then
  bif decide (0≤(gA a))then
   bif decide (0≤(gA (64- (gA a))))then
    bif decide (0≤(gA a))then
     bif !((Int.fdiv (gA (b*2^(min (gA a).toNat 64))) (2^32))==0)then
      Q78.l17 N N (gA (b*2^(min (gA a).toNat 64))) (gA a) (Int.fdiv (gA (b*2^(min (gA a).toNat 64))) (2^32)) (gC .u64 (gA (b*2^(min (gA a).toNat 64))) 4294967295) (wD .u64 (gA (i*2^(min (gA a).toNat 64))) (Int.fdiv h (2^(min (gA (64- (gA a))).toNat 64)))) (Int.fdiv (gA (h*2^(min (gA a).toNat 64))) (2^32)) (gC .u64 (gA (h*2^(min (gA a).toNat 64))) 4294967295) (gA (Int.tdiv (wD .u64 (gA (i*2^(min (gA a).toNat 64))) (Int.fdiv h (2^(min (gA (64- (gA a))).toNat 64)))) (Int.fdiv (gA (b*2^(min (gA a).toNat 64))) (2^32)))) (gA ((wD .u64 (gA (i*2^(min (gA a).toNat 64))) (Int.fdiv h (2^(min (gA (64- (gA a))).toNat 64))))- (gA ((gA (Int.tdiv (wD .u64 (gA (i*2^(min (gA a).toNat 64))) (Int.fdiv h (2^(min (gA (64- (gA a))).toNat 64)))) (Int.fdiv (gA (b*2^(min (gA a).toNat 64))) (2^32))))*(Int.fdiv (gA (b*2^(min (gA a).toNat 64))) (2^32))))))
       (fun c l d m f g o e=>
        bif !(d==0)then
         Q78.l24 N N c l d m o e (gA ((gA ((gA ((gA (f*4294967296))+g))- (gA (e*c))))- (gA ((gA (Int.tdiv (gA ((gA ((gA (f*4294967296))+g))- (gA (e*c)))) d))*d)))) (gA ((gA ((gA (f*4294967296))+g))- (gA (e*c)))) (gA (Int.tdiv (gA ((gA ((gA (f*4294967296))+g))- (gA (e*c)))) d))
          (fun p j q r s k=>
           bif decide (0≤j)then
            some (gA ((gA (r*4294967296))+k),Int.fdiv (gA ((gA ((gA (s*4294967296))+q))- (gA (k*p)))) (2^(min j.toNat 64)))
           else none)
        else none)
     else none
    else none
   else none
  else none
 else none
noncomputable def Q78.h17:eD:=⟨[(2,.any),(8,.any),(9,.any),(10,.any),(11,.any),(13,.any),(14,.any),(15,.any),(16,.any)],[(2,.any),(8,.any),(9,.any),(10,.any),(11,.any),(13,.any),(14,.any),(15,.any)]⟩
noncomputable def Q78.h24:eD:=⟨[(2,.any),(8,.any),(9,.any),(10,.any),(14,.any),(15,.any),(16,.any),(17,.any),(18,.any)],[(2,.any),(8,.any),(14,.any),(15,.any),(17,.any),(18,.any)]⟩
noncomputable def Q78.c17 (N:Nat):xH:=⟨fun vs H k=>match vs,H with
 | [.c (.int .u64 o),.c (.int .u64 p),.c (.int .u64 q),.c (.int .u64 r),.c (.int .u64 s),.c (.int .u64 a),.c (.int .u64 b),.c (.int .u64 c),.c (.int .u64 d)],[]=>Q78.l17 N N o p q r s a b c d (fun e f g h i j l m=>k (.exit 0) ⟨dD Q78.h17.out [.c (.int .u64 e),.c (.int .u64 f),.c (.int .u64 g),.c (.int .u64 h),.c (.int .u64 i),.c (.int .u64 j),.c (.int .u64 l),.c (.int .u64 m)],[]⟩)
 |_,_=>none⟩
noncomputable def Q78.c24 (N:Nat):xH:=⟨fun vs H k=>match vs,H with
 | [.c (.int .u64 a),.c (.int .u64 b),.c (.int .u64 c),.c (.int .u64 d),.c (.int .u64 e),.c (.int .u64 f),.c (.int .u64 g),.c (.int .u64 h),.c (.int .u64 i)],[]=>Q78.l24 N N a b c d e f g h i (fun j l m o p q=>k (.exit 2) ⟨dD Q78.h24.out [.c (.int .u64 j),.c (.int .u64 l),.c (.int .u64 m),.c (.int .u64 o),.c (.int .u64 p),.c (.int .u64 q)],[]⟩)
 |_,_=>none⟩
noncomputable def Q78.E (N:Nat):bD:=bF [(3,Cn),(79,Gd)] [(163,Q76.ent N)] [(17,Q78.h17),(24,Q78.h24)] [(17,Q78.c17 N),(24,Q78.c24 N)] N [.tmp 6,.tmp 7] [.any,.any] 0 135
noncomputable def Q78.b17:Code:=sA ((eA (bo Tryz.f154)).getD 0 .skip)
theorem Q78.l17_eq {R:Type}(N n:Nat)(o p q r t a b c d:Int)(k:Ex→St→Option R):
  jB 0 Q78.h17 (fun s k=>bB (Q78.E N) 383 Q78.b17 s k) n [.c (.int .u64 o),.c (.int .u64 p),.c (.int .u64 q),.c (.int .u64 r),.c (.int .u64 t),.c (.int .u64 a),.c (.int .u64 b),.c (.int .u64 c),.c (.int .u64 d)] [] k=Q78.l17 N n o p q r t a b c d (fun e f g h i j l m=>k (.exit 0) ⟨dD Q78.h17.out [.c (.int .u64 e),.c (.int .u64 f),.c (.int .u64 g),.c (.int .u64 h),.c (.int .u64 i),.c (.int .u64 j),.c (.int .u64 l),.c (.int .u64 m)],[]⟩):=by
 induction n generalizing o p q r t a b c d with
 |zero=>kernel_rfl
 |succ n ih=>
  simp only[Q78.l17,←ih]
  kernel_rfl
noncomputable def Q78.b24:Code:=sA ((eA (bo Tryz.f154)).getD 1 .skip)
theorem Q78.l24_eq {R:Type}(N n:Nat)(a b c d e f g h i:Int)(k:Ex→St→Option R):
  jB 0 Q78.h24 (fun s k=>bB (Q78.E N) 379 Q78.b24 s k) n [.c (.int .u64 a),.c (.int .u64 b),.c (.int .u64 c),.c (.int .u64 d),.c (.int .u64 e),.c (.int .u64 f),.c (.int .u64 g),.c (.int .u64 h),.c (.int .u64 i)] [] k=Q78.l24 N n a b c d e f g h i (fun j l m o p q=>k (.exit 2) ⟨dD Q78.h24.out [.c (.int .u64 j),.c (.int .u64 l),.c (.int .u64 m),.c (.int .u64 o),.c (.int .u64 p),.c (.int .u64 q)],[]⟩):=by
 induction n generalizing a b c d e f g h i with
 |zero=>kernel_rfl
 |succ n ih=>
  simp only[Q78.l24,←ih]
  kernel_rfl
noncomputable def Q78.dec (v:V)(bs:List rA):Option (Int×Int):=match v,bs with
 | .tup [.c (.int .u64 a),.c (.int .u64 b)],[]=>some (a,b)
 |_,_=>none
theorem Q78.f_eq (N:Nat)(a b c:Int):
  cB (Q78.E N) (bo Tryz.f154) [.c (.int .u64 a),.c (.int .u64 b),.c (.int .u64 c)] [] Q78.dec=Q78.f N a b c:=by kernel_rfl
noncomputable def Q78.ent (N:Nat):xA:=wF (Int×Int) 0 [true,true,true] [.any,.any,.any] fun
 | [.c (.int .u64 a),.c (.int .u64 b),.c (.int .u64 c)]=>some (Q78.f N a b c,fun r=>.one (.tup [.c (.int .u64 r.1),.c (.int .u64 r.2)]) [])
 |_=>none
theorem Q78.env (N:Nat):aB Tryz.prog (Q78.E N):=⟨(.cons yL (.cons uy .nil)),(.cons (Q76.ent_ok N) .nil)⟩
theorem Q78.k24 (N:Nat):xB Tryz.prog Tryz.f154 (Q78.E N) (.loop Q78.b24):=gD (Q78.env N) bA 379 (c:=Q78.c24 N) dA.n fun R vs H k r h=>by unfold Q78.c24 at h;dsimp only at h;split at h;exact⟨_,Q78.l24_eq .. ▸h⟩;cases h
theorem Q78.k17 (N:Nat):xB Tryz.prog Tryz.f154 (Q78.E N) (.loop Q78.b17):=gD (Q78.env N) bA 383 (c:=Q78.c17 N) dA.n fun R vs H k r h=>by unfold Q78.c17 at h;dsimp only at h;split at h;exact⟨_,Q78.l17_eq .. ▸h⟩;cases h
theorem Q78.spec (N:Nat)(a c d:Int)(r:Int×Int)(h:Q78.f N a c d=some r):fA Tryz.prog 154 [.c (.int .u64 a),.c (.int .u64 c),.c (.int .u64 d)] [] (.tup [.c (.int .u64 r.1),.c (.int .u64 r.2)]) ([]):=vA (Q78.env N) bA Tryz.func154 (dA.of (l:=[(.loop (sA ((eA (bo Tryz.f154)).getD 0 .skip))),(.loop (sA ((eA (bo Tryz.f154)).getD 1 .skip)))]) (by kernel_rfl) (dA.cons (Q78.k17 N) (dA.cons (Q78.k24 N) dA.nil))) ((Q78.f_eq ..).trans h) fun v b e=>by unfold Q78.dec at e;split at e<;>cases e;exact⟨rfl,rfl⟩
theorem Q78.ent_ok (N:Nat):uA Tryz.prog 154 (Q78.ent N):=yA fun v a e h=>by split at h;exact nC (Q:=fun e=>fA _ _ _ _ (e a).pick.1 (e a).pick.2) h fun k=>Q78.spec N _ _ _ a k;cases h
noncomputable def Q79.f (N:Nat)(b a:Int):Option (Int):=
 bif !(a==0)then
  bif decide ((Int.tmod b a)<0)then
   some (aA ((Int.tmod b a)+a))
  else
  some (Int.tmod b a)
 else none
noncomputable def Q79.E (N:Nat):bD:=bF [] [] [] [] N [.tmp 4] [.any] 0 14
noncomputable def Q79.dec (v:V)(bs:List rA):Option (Int):=match v,bs with
 | .c (.int .i64 a),[]=>some a
 |_,_=>none
theorem Q79.f_eq (N:Nat)(a b:Int):
  cB (Q79.E N) (bo Tryz.f126) [.c (.int .i64 a),.c (.int .i64 b)] [] Q79.dec=Q79.f N a b:=by kernel_rfl
noncomputable def Q79.ent (N:Nat):xA:=wF (Int) 0 [true,true] [.any,.any] fun
 | [.c (.int .i64 a),.c (.int .i64 b)]=>some (Q79.f N a b,fun r=>.one (.c (.int .i64 r)) [])
 |_=>none
theorem Q79.env (N:Nat):aB Tryz.prog (Q79.E N):=⟨.nil,.nil⟩
theorem Q79.spec (N:Nat)(a c r:Int)(h:Q79.f N a c=some r):fA Tryz.prog 126 [.c (.int .i64 a),.c (.int .i64 c)] [] (.c (.int .i64 r)) ([]):=vA (Q79.env N) bA Tryz.func126 dA.n ((Q79.f_eq ..).trans h) fun v b e=>by unfold Q79.dec at e;split at e<;>cases e;exact⟨rfl,rfl⟩
theorem Q79.ent_ok (N:Nat):uA Tryz.prog 126 (Q79.ent N):=yA fun v a e h=>by split at h;exact nC (Q:=fun e=>fA _ _ _ _ (e a).pick.1 (e a).pick.2) h fun k=>Q79.spec N _ _ a k;cases h
noncomputable def Q80.f (N:Nat)(b c d:Int):Option (Int):=
 (Q77.f N (gA b) (gA c)).bind fun a=>
 (Q78.f N a.1 a.2 (gA d)).bind fun e=>
 some (aA e.2)
noncomputable def Q80.E (N:Nat):bD:=bF [(2,eQ),(78,fQ)] [(153,Q77.ent N),(154,Q78.ent N)] [] [] N [.tmp 6] [.any] 0 29
noncomputable def Q80.dec (v:V)(bs:List rA):Option (Int):=match v,bs with
 | .c (.int .i64 a),[]=>some a
 |_,_=>none
theorem Q80.f_eq (N:Nat)(a b c:Int):
  cB (Q80.E N) (bo Tryz.f125) [.c (.int .i64 a),.c (.int .i64 b),.c (.int .i64 c)] [] Q80.dec=Q80.f N a b c:=by kernel_rfl
noncomputable def Q80.ent (N:Nat):xA:=wF (Int) 0 [true,true,true] [.any,.any,.any] fun
 | [.c (.int .i64 a),.c (.int .i64 b),.c (.int .i64 c)]=>some (Q80.f N a b c,fun r=>.one (.c (.int .i64 r)) [])
 |_=>none
theorem Q80.env (N:Nat):aB Tryz.prog (Q80.E N):=⟨(.cons xC (.cons qF .nil)),(.cons (Q77.ent_ok N) (.cons (Q78.ent_ok N) .nil))⟩
theorem Q80.spec (N:Nat)(a c d r:Int)(h:Q80.f N a c d=some r):fA Tryz.prog 125 [.c (.int .i64 a),.c (.int .i64 c),.c (.int .i64 d)] [] (.c (.int .i64 r)) ([]):=vA (Q80.env N) bA Tryz.func125 dA.n ((Q80.f_eq ..).trans h) fun v b e=>by unfold Q80.dec at e;split at e<;>cases e;exact⟨rfl,rfl⟩
theorem Q80.ent_ok (N:Nat):uA Tryz.prog 125 (Q80.ent N):=yA fun v a e h=>by split at h;exact nC (Q:=fun e=>fA _ _ _ _ (e a).pick.1 (e a).pick.2) h fun k=>Q80.spec N _ _ _ a k;cases h
noncomputable def Q81.f (N:Nat)(b c a:Int):Option (Int×Int):=
 bif decide (a<1)then
  some (0,2)
 else
 bif decide (a>4611686018427387904)then
  some (0,2)
 else
 (Q79.f N b a).bind fun d=>
 (Q79.f N c a).bind fun e=>
 (Q80.f N d e a).bind fun f=>
 some (f,0)
noncomputable def Q81.E (N:Nat):bD:=bF [] [(126,Q79.ent N),(125,Q80.ent N)] [] [] N [.tmp 6,.tmp 7] [.any,.any] 0 22
noncomputable def Q81.dec (v:V)(bs:List rA):Option (Int×Int):=match v,bs with
 | .tup [.c (.int .i64 a),.c (.int .i64 b)],[]=>some (a,b)
 |_,_=>none
theorem Q81.f_eq (N:Nat)(a b c:Int):
  cB (Q81.E N) (bo Tryz.f87) [.c (.int .i64 a),.c (.int .i64 b),.c (.int .i64 c)] [] Q81.dec=Q81.f N a b c:=by kernel_rfl
noncomputable def Q81.ent (N:Nat):xA:=wF (Int×Int) 0 [true,true,true] [.any,.any,.any] fun
 | [.c (.int .i64 a),.c (.int .i64 b),.c (.int .i64 c)]=>some (Q81.f N a b c,fun r=>.one (.tup [.c (.int .i64 r.1),.c (.int .i64 r.2)]) [])
 |_=>none
theorem Q81.env (N:Nat):aB Tryz.prog (Q81.E N):=⟨.nil,(.cons (Q79.ent_ok N) (.cons (Q80.ent_ok N) .nil))⟩
theorem Q81.spec (N:Nat)(a c d:Int)(r:Int×Int)(h:Q81.f N a c d=some r):fA Tryz.prog 87 [.c (.int .i64 a),.c (.int .i64 c),.c (.int .i64 d)] [] (.tup [.c (.int .i64 r.1),.c (.int .i64 r.2)]) ([]):=vA (Q81.env N) bA Tryz.func87 dA.n ((Q81.f_eq ..).trans h) fun v b e=>by unfold Q81.dec at e;split at e<;>cases e;exact⟨rfl,rfl⟩
theorem Q81.ent_ok (N:Nat):uA Tryz.prog 87 (Q81.ent N):=yA fun v a e h=>by split at h;exact nC (Q:=fun e=>fA _ _ _ _ (e a).pick.1 (e a).pick.2) h fun k=>Q81.spec N _ _ _ a k;cases h
noncomputable def Q82.f (N:Nat)(a b c:Int):Option (Int):=
 (Q81.f N a b c).bind fun d=>
 some d.1
noncomputable def Q82.E (N:Nat):bD:=bF [] [(87,Q81.ent N)] [] [] N [.tmp 6] [.any] 0 17
noncomputable def Q82.dec (v:V)(bs:List rA):Option (Int):=match v,bs with
 | .c (.int .i64 a),[]=>some a
 |_,_=>none
theorem Q82.f_eq (N:Nat)(a b c:Int):
  cB (Q82.E N) (bo Tryz.f64) [.c (.int .i64 a),.c (.int .i64 b),.c (.int .i64 c)] [] Q82.dec=Q82.f N a b c:=by kernel_rfl
noncomputable def Q82.ent (N:Nat):xA:=wF (Int) 0 [true,true,true] [.any,.any,.any] fun
 | [.c (.int .i64 a),.c (.int .i64 b),.c (.int .i64 c)]=>some (Q82.f N a b c,fun r=>.one (.c (.int .i64 r)) [])
 |_=>none
theorem Q82.env (N:Nat):aB Tryz.prog (Q82.E N):=⟨.nil,(.cons (Q81.ent_ok N) .nil)⟩
theorem Q82.spec (N:Nat)(a c d r:Int)(h:Q82.f N a c d=some r):fA Tryz.prog 64 [.c (.int .i64 a),.c (.int .i64 c),.c (.int .i64 d)] [] (.c (.int .i64 r)) ([]):=vA (Q82.env N) bA Tryz.func64 dA.n ((Q82.f_eq ..).trans h) fun v b e=>by unfold Q82.dec at e;split at e<;>cases e;exact⟨rfl,rfl⟩
theorem Q82.ent_ok (N:Nat):uA Tryz.prog 64 (Q82.ent N):=yA fun v a e h=>by split at h;exact nC (Q:=fun e=>fA _ _ _ _ (e a).pick.1 (e a).pick.2) h fun k=>Q82.spec N _ _ _ a k;cases h
noncomputable def Q83.f (N:Nat)(a:Int):Option (Int×Int×Int×Int):=
 bif decide (a>(-3))then
  some (0,0,0,80)
 else
 bif decide (a<(-4294967296))then
  some (0,0,0,80)
 else
 bif (gC .i64 (aA (0-a)) 3)==1 then
  some (0,0,0,80)
 else
 bif (gC .i64 (aA (0-a)) 3)==2 then
  some (0,0,0,80)
 else
 some (1,gC .i64 (aA (0-a)) 1,aA (Int.tdiv (aA ((gC .i64 (aA (0-a)) 1)-a)) 4),0)
noncomputable def Q83.E (N:Nat):bD:=bF [(2,eQ),(33,wH)] [] [] [] N [.cell 2 33,.tmp 3] [.recd [.any,.any,.any],.any] 0 33
noncomputable def Q83.dec (v:V)(bs:List rA):Option (Int×Int×Int×Int):=match v,bs with
 | .tup [.agg [.c (.int .i64 a),.c (.int .i64 b),.c (.int .i64 c)],.c (.int .i64 d)],[]=>some (a,b,c,d)
 |_,_=>none
theorem Q83.f_eq (N:Nat)(a:Int):
  cB (Q83.E N) (bo Tryz.f27) [.c (.int .i64 a)] [] Q83.dec=Q83.f N a:=by kernel_rfl
noncomputable def Q83.ent (N:Nat):xA:=wF (Int×Int×Int×Int) 0 [true] [.any] fun
 | [.c (.int .i64 a)]=>some (Q83.f N a,fun r=>.one (.tup [.agg [.c (.int .i64 r.1),.c (.int .i64 r.2.1),.c (.int .i64 r.2.2.1)],.c (.int .i64 r.2.2.2)]) [])
 |_=>none
theorem Q83.env (N:Nat):aB Tryz.prog (Q83.E N):=⟨(.cons xC (.cons oC .nil)),.nil⟩
theorem Q83.spec (N:Nat)(a:Int)(r:Int×Int×Int×Int)(h:Q83.f N a=some r):fA Tryz.prog 27 [.c (.int .i64 a)] [] (.tup [.agg [.c (.int .i64 r.1),.c (.int .i64 r.2.1),.c (.int .i64 r.2.2.1)],.c (.int .i64 r.2.2.2)]) ([]):=vA (Q83.env N) bA Tryz.func27 dA.n ((Q83.f_eq ..).trans h) fun v b e=>by unfold Q83.dec at e;split at e<;>cases e;exact⟨rfl,rfl⟩
theorem Q83.ent_ok (N:Nat):uA Tryz.prog 27 (Q83.ent N):=yA fun v a e h=>by split at h;exact nC (Q:=fun e=>fA _ _ _ _ (e a).pick.1 (e a).pick.2) h fun k=>Q83.spec N _ a k;cases h
noncomputable def Q84.f (N:Nat)(b c d:Int):Option (Int×Int×Int×Int):=
 (Q50.f N b c d).bind fun a=>
 bif a.2.2.2.2.2.2.2 != 0 then
  some (a.1,a.2.1,a.2.2.1,a.2.2.2.2.2.2.2)
 else
 (Q51.f N b c d).bind fun e=>
 bif e != 1 then
  some (0,0,0,81)
 else
 some (a.1,a.2.1,a.2.2.1,0)
noncomputable def Q84.E (N:Nat):bD:=bF [(2,eQ),(33,wH),(72,Cq)] [(54,Q50.ent N),(62,Q51.ent N)] [] [] N [.cell 2 33,.tmp 3] [.recd [.any,.any,.any],.any] 0 24
noncomputable def Q84.dec (v:V)(bs:List rA):Option (Int×Int×Int×Int):=match v,bs with
 | .tup [.agg [.c (.int .i64 a),.c (.int .i64 b),.c (.int .i64 c)],.c (.int .i64 d)],[]=>some (a,b,c,d)
 |_,_=>none
theorem Q84.f_eq (N:Nat)(a b c:Int):
  cB (Q84.E N) (bo Tryz.f42) [.agg [.c (.int .i64 a),.c (.int .i64 b),.c (.int .i64 c)]] [] Q84.dec=Q84.f N a b c:=by kernel_rfl
noncomputable def Q84.ent (N:Nat):xA:=wF (Int×Int×Int×Int) 0 [true] [.recd [.any,.any,.any]] fun
 | [.agg [.c (.int .i64 a),.c (.int .i64 b),.c (.int .i64 c)]]=>some (Q84.f N a b c,fun r=>.one (.tup [.agg [.c (.int .i64 r.1),.c (.int .i64 r.2.1),.c (.int .i64 r.2.2.1)],.c (.int .i64 r.2.2.2)]) [])
 |_=>none
theorem Q84.env (N:Nat):aB Tryz.prog (Q84.E N):=⟨(.cons xC (.cons oC (.cons yW .nil))),(.cons (Q50.ent_ok N) (.cons (Q51.ent_ok N) .nil))⟩
theorem Q84.spec (N:Nat)(a c d:Int)(r:Int×Int×Int×Int)(h:Q84.f N a c d=some r):fA Tryz.prog 42 [.agg [.c (.int .i64 a),.c (.int .i64 c),.c (.int .i64 d)]] [] (.tup [.agg [.c (.int .i64 r.1),.c (.int .i64 r.2.1),.c (.int .i64 r.2.2.1)],.c (.int .i64 r.2.2.2)]) ([]):=vA (Q84.env N) bA Tryz.func42 dA.n ((Q84.f_eq ..).trans h) fun v b e=>by unfold Q84.dec at e;split at e<;>cases e;exact⟨rfl,rfl⟩
theorem Q84.ent_ok (N:Nat):uA Tryz.prog 42 (Q84.ent N):=yA fun v a e h=>by split at h;exact nC (Q:=fun e=>fA _ _ _ _ (e a).pick.1 (e a).pick.2) h fun k=>Q84.spec N _ _ _ a k;cases h
noncomputable def Q85.l12 {R:Type}(N:Nat):Nat→Int→Int→Int→Int→Int→Int→(Int→Int→Int→Option R)→Option R
 |0,_,_,_,_,_,_,_=>none
 |n+1,c,a,b,d,e,f,kr=>
  bif !((aA (2*a))==0)then
   bif !((aA (2*a))==0)then
    bif decide ((Int.tmod (aA ((Int.tmod b (aA (2*a)))+(aA (2*a)))) (aA (2*a)))>a)then
     bif !((aA (4*a))==0)then
      bif decide (a<(aA (Int.tdiv (aA ((aA ((aA ((Int.tmod (aA ((Int.tmod b (aA (2*a)))+(aA (2*a)))) (aA (2*a)))- (aA (2*a))))*(aA ((Int.tmod (aA ((Int.tmod b (aA (2*a)))+(aA (2*a)))) (aA (2*a)))- (aA (2*a))))))-c)) (aA (4*a)))))then
       kr a (aA ((Int.tmod (aA ((Int.tmod b (aA (2*a)))+(aA (2*a)))) (aA (2*a)))- (aA (2*a)))) (aA (Int.tdiv (aA ((aA ((aA ((Int.tmod (aA ((Int.tmod b (aA (2*a)))+(aA (2*a)))) (aA (2*a)))- (aA (2*a))))*(aA ((Int.tmod (aA ((Int.tmod b (aA (2*a)))+(aA (2*a)))) (aA (2*a)))- (aA (2*a))))))-c)) (aA (4*a))))
      else
      bif a==(aA (Int.tdiv (aA ((aA ((aA ((Int.tmod (aA ((Int.tmod b (aA (2*a)))+(aA (2*a)))) (aA (2*a)))- (aA (2*a))))*(aA ((Int.tmod (aA ((Int.tmod b (aA (2*a)))+(aA (2*a)))) (aA (2*a)))- (aA (2*a))))))-c)) (aA (4*a))))then
       bif decide ((aA ((Int.tmod (aA ((Int.tmod b (aA (2*a)))+(aA (2*a)))) (aA (2*a)))- (aA (2*a))))≥0)then
        kr a (aA ((Int.tmod (aA ((Int.tmod b (aA (2*a)))+(aA (2*a)))) (aA (2*a)))- (aA (2*a)))) (aA (Int.tdiv (aA ((aA ((aA ((Int.tmod (aA ((Int.tmod b (aA (2*a)))+(aA (2*a)))) (aA (2*a)))- (aA (2*a))))*(aA ((Int.tmod (aA ((Int.tmod b (aA (2*a)))+(aA (2*a)))) (aA (2*a)))- (aA (2*a))))))-c)) (aA (4*a))))
       else
       Q85.l12 N n c (aA (Int.tdiv (aA ((aA ((aA ((Int.tmod (aA ((Int.tmod b (aA (2*a)))+(aA (2*a)))) (aA (2*a)))- (aA (2*a))))*(aA ((Int.tmod (aA ((Int.tmod b (aA (2*a)))+(aA (2*a)))) (aA (2*a)))- (aA (2*a))))))-c)) (aA (4*a)))) (aA (0- (aA ((Int.tmod (aA ((Int.tmod b (aA (2*a)))+(aA (2*a)))) (aA (2*a)))- (aA (2*a)))))) d e f kr
      else
      Q85.l12 N n c (aA (Int.tdiv (aA ((aA ((aA ((Int.tmod (aA ((Int.tmod b (aA (2*a)))+(aA (2*a)))) (aA (2*a)))- (aA (2*a))))*(aA ((Int.tmod (aA ((Int.tmod b (aA (2*a)))+(aA (2*a)))) (aA (2*a)))- (aA (2*a))))))-c)) (aA (4*a)))) (aA (0- (aA ((Int.tmod (aA ((Int.tmod b (aA (2*a)))+(aA (2*a)))) (aA (2*a)))- (aA (2*a)))))) d e f kr
     else none
    else
    bif !((aA (4*a))==0)then
     bif decide (a<(aA (Int.tdiv (aA ((aA ((Int.tmod (aA ((Int.tmod b (aA (2*a)))+(aA (2*a)))) (aA (2*a)))*(Int.tmod (aA ((Int.tmod b (aA (2*a)))+(aA (2*a)))) (aA (2*a)))))-c)) (aA (4*a)))))then
      kr a (Int.tmod (aA ((Int.tmod b (aA (2*a)))+(aA (2*a)))) (aA (2*a))) (aA (Int.tdiv (aA ((aA ((Int.tmod (aA ((Int.tmod b (aA (2*a)))+(aA (2*a)))) (aA (2*a)))*(Int.tmod (aA ((Int.tmod b (aA (2*a)))+(aA (2*a)))) (aA (2*a)))))-c)) (aA (4*a))))
     else
     bif a==(aA (Int.tdiv (aA ((aA ((Int.tmod (aA ((Int.tmod b (aA (2*a)))+(aA (2*a)))) (aA (2*a)))*(Int.tmod (aA ((Int.tmod b (aA (2*a)))+(aA (2*a)))) (aA (2*a)))))-c)) (aA (4*a))))then
      bif decide ((Int.tmod (aA ((Int.tmod b (aA (2*a)))+(aA (2*a)))) (aA (2*a)))≥0)then
       kr a (Int.tmod (aA ((Int.tmod b (aA (2*a)))+(aA (2*a)))) (aA (2*a))) (aA (Int.tdiv (aA ((aA ((Int.tmod (aA ((Int.tmod b (aA (2*a)))+(aA (2*a)))) (aA (2*a)))*(Int.tmod (aA ((Int.tmod b (aA (2*a)))+(aA (2*a)))) (aA (2*a)))))-c)) (aA (4*a))))
      else
      Q85.l12 N n c (aA (Int.tdiv (aA ((aA ((Int.tmod (aA ((Int.tmod b (aA (2*a)))+(aA (2*a)))) (aA (2*a)))*(Int.tmod (aA ((Int.tmod b (aA (2*a)))+(aA (2*a)))) (aA (2*a)))))-c)) (aA (4*a)))) (aA (0- (Int.tmod (aA ((Int.tmod b (aA (2*a)))+(aA (2*a)))) (aA (2*a))))) d e f kr
     else
     Q85.l12 N n c (aA (Int.tdiv (aA ((aA ((Int.tmod (aA ((Int.tmod b (aA (2*a)))+(aA (2*a)))) (aA (2*a)))*(Int.tmod (aA ((Int.tmod b (aA (2*a)))+(aA (2*a)))) (aA (2*a)))))-c)) (aA (4*a)))) (aA (0- (Int.tmod (aA ((Int.tmod b (aA (2*a)))+(aA (2*a)))) (aA (2*a))))) d e f kr
    else none
   else none
  else none
noncomputable def Q85.f (N:Nat)(c e w d f x u:Int):Option (Int×Int×Int):=
 bif decide (c>d)then
  (Q45.f N c d).bind fun v=>
  (Q45.f N (aA (Int.tdiv (aA (f+e)) 2)) v.1).bind fun b=>
  bif !(b.1==0)then
   bif !(b.1==0)then
    (Q82.f N (aA (0-b.2.2)) (aA (e- (aA (Int.tdiv (aA (f+e)) 2)))) (aA (Int.tdiv d b.1))).bind fun h=>
    (Q82.f N v.2.1 h (aA (Int.tdiv d b.1))).bind fun i=>
    (Q82.f N b.2.1 w (aA (Int.tdiv d b.1))).bind fun j=>
    bif !((aA (Int.tdiv d b.1))==0)then
     bif !((aA (Int.tdiv d b.1))==0)then
      Q85.l12 N N u (aA ((aA (Int.tdiv d b.1))*(aA (Int.tdiv c b.1)))) (aA (e+(aA ((aA (2*(aA (Int.tdiv c b.1))))*(Int.tmod (aA ((Int.tmod (aA (i-j)) (aA (Int.tdiv d b.1)))+(aA (Int.tdiv d b.1)))) (aA (Int.tdiv d b.1))))))) 0 0 0
       (fun o p q=>
        some (o,p,q))
     else none
    else none
   else none
  else none
 else
 (Q45.f N d c).bind fun g=>
 (Q45.f N (aA (Int.tdiv (aA (e+f)) 2)) g.1).bind fun a=>
 bif !(a.1==0)then
  bif !(a.1==0)then
   (Q82.f N (aA (0-a.2.2)) (aA (f- (aA (Int.tdiv (aA (e+f)) 2)))) (aA (Int.tdiv c a.1))).bind fun k=>
   (Q82.f N g.2.1 k (aA (Int.tdiv c a.1))).bind fun l=>
   (Q82.f N a.2.1 x (aA (Int.tdiv c a.1))).bind fun m=>
   bif !((aA (Int.tdiv c a.1))==0)then
    bif !((aA (Int.tdiv c a.1))==0)then
     Q85.l12 N N u (aA ((aA (Int.tdiv c a.1))*(aA (Int.tdiv d a.1)))) (aA (f+(aA ((aA (2*(aA (Int.tdiv d a.1))))*(Int.tmod (aA ((Int.tmod (aA (l-m)) (aA (Int.tdiv c a.1)))+(aA (Int.tdiv c a.1)))) (aA (Int.tdiv c a.1))))))) 0 0 0
      (fun r s t=>
       some (r,s,t))
    else none
   else none
  else none
 else none
noncomputable def Q85.h12:eD:=⟨[(2,.any),(6,.box [.any,.any,.any]),(18,.any),(19,.any)],[]⟩
noncomputable def Q85.c12 (N:Nat):xH:=⟨fun vs H k=>match vs,H with
 | [.c (.int .i64 a),.ptr 0 0 3,.c (.int .i64 b),.c (.int .i64 c)],[.vals [.c (.int .i64 d),.c (.int .i64 e),.c (.int .i64 f)]]=>Q85.l12 N N a b c d e f (fun g h i=>k (.ret (.agg [.c (.int .i64 g),.c (.int .i64 h),.c (.int .i64 i)]) []) .nil)
 |_,_=>none⟩
noncomputable def Q85.E (N:Nat):bD:=bF [(2,eQ),(33,wH)] [(63,Q45.ent N),(64,Q82.ent N)] [(12,Q85.h12)] [(12,Q85.c12 N)] N [.cell 6 33] [.recd [.any,.any,.any]] 0 138
noncomputable def Q85.b12:Code:=sA ((eA (bo Tryz.f43)).getD 0 .skip)
theorem Q85.l12_eq {R:Type}(N n:Nat)(a b c d e f:Int)(k:Ex→St→Option R):
  jB 0 Q85.h12 (fun s k=>bB (Q85.E N) 387 Q85.b12 s k) n [.c (.int .i64 a),.ptr 0 0 3,.c (.int .i64 b),.c (.int .i64 c)] [.vals [.c (.int .i64 d),.c (.int .i64 e),.c (.int .i64 f)]] k=Q85.l12 N n a b c d e f (fun g h i=>k (.ret (.agg [.c (.int .i64 g),.c (.int .i64 h),.c (.int .i64 i)]) []) .nil):=by
 induction n generalizing a b c d e f with
 |zero=>kernel_rfl
 |succ n ih=>
  simp only[Q85.l12,←ih]
  kernel_rfl
noncomputable def Q85.dec (v:V)(bs:List rA):Option (Int×Int×Int):=match v,bs with
 | .agg [.c (.int .i64 a),.c (.int .i64 b),.c (.int .i64 c)],[]=>some (a,b,c)
 |_,_=>none
theorem Q85.f_eq (N:Nat)(a b c d e f g:Int):
  cB (Q85.E N) (bo Tryz.f43) [.agg [.c (.int .i64 a),.c (.int .i64 b),.c (.int .i64 c)],.agg [.c (.int .i64 d),.c (.int .i64 e),.c (.int .i64 f)],.c (.int .i64 g)] [] Q85.dec=Q85.f N a b c d e f g:=by kernel_rfl
noncomputable def Q85.ent (N:Nat):xA:=wF (Int×Int×Int) 0 [true,true,true] [.recd [.any,.any,.any],.recd [.any,.any,.any],.any] fun
 | [.agg [.c (.int .i64 a),.c (.int .i64 b),.c (.int .i64 c)],.agg [.c (.int .i64 d),.c (.int .i64 e),.c (.int .i64 f)],.c (.int .i64 g)]=>some (Q85.f N a b c d e f g,fun r=>.one (.agg [.c (.int .i64 r.1),.c (.int .i64 r.2.1),.c (.int .i64 r.2.2)]) [])
 |_=>none
theorem Q85.env (N:Nat):aB Tryz.prog (Q85.E N):=⟨(.cons xC (.cons oC .nil)),(.cons (Q45.ent_ok N) (.cons (Q82.ent_ok N) .nil))⟩
theorem Q85.k12 (N:Nat):xB Tryz.prog Tryz.f43 (Q85.E N) (.loop Q85.b12):=gD (Q85.env N) bA 387 (c:=Q85.c12 N) dA.n fun R vs H k r h=>by unfold Q85.c12 at h;dsimp only at h;split at h;exact⟨_,Q85.l12_eq .. ▸h⟩;cases h
theorem Q85.spec (N:Nat)(a c d f g i j:Int)(r:Int×Int×Int)(h:Q85.f N a c d f g i j=some r):fA Tryz.prog 43 [.agg [.c (.int .i64 a),.c (.int .i64 c),.c (.int .i64 d)],.agg [.c (.int .i64 f),.c (.int .i64 g),.c (.int .i64 i)],.c (.int .i64 j)] [] (.agg [.c (.int .i64 r.1),.c (.int .i64 r.2.1),.c (.int .i64 r.2.2)]) ([]):=vA (Q85.env N) bA Tryz.func43 (dA.of (l:=[(.loop (sA ((eA (bo Tryz.f43)).getD 0 .skip)))]) (by kernel_rfl) (dA.cons (Q85.k12 N) dA.nil)) ((Q85.f_eq ..).trans h) fun v b e=>by unfold Q85.dec at e;split at e<;>cases e;exact⟨rfl,rfl⟩
theorem Q85.ent_ok (N:Nat):uA Tryz.prog 43 (Q85.ent N):=yA fun v a e h=>by split at h;exact nC (Q:=fun e=>fA _ _ _ _ (e a).pick.1 (e a).pick.2) h fun k=>Q85.spec N _ _ _ _ _ _ _ a k;cases h
noncomputable def Q86.f (N:Nat)(e f g h i j:Int):Option (Int×Int×Int×Int):=
 (Q48.f N e f g).bind fun l=>
 bif l != 0 then
  some (0,0,0,l)
 else
 (Q48.f N h i j).bind fun m=>
 bif m != 0 then
  some (0,0,0,m)
 else
 (Q84.f N e f g).bind fun d=>
 bif d.2.2.2 != 0 then
  some (0,0,0,d.2.2.2)
 else
 (Q84.f N h i j).bind fun a=>
 bif a.2.2.2 != 0 then
  some (0,0,0,a.2.2.2)
 else
 (Q47.f N e f g).bind fun c=>
 (Q47.f N h i j).bind fun k=>
 bif c != k then
  some (0,0,0,100)
 else
 (Q85.f N d.1 d.2.1 d.2.2.1 a.1 a.2.1 a.2.2.1 c).bind fun b=>
 some (b.1,b.2.1,b.2.2,0)
noncomputable def Q86.E (N:Nat):bD:=bF [(2,eQ),(33,wH)] [(36,Q48.ent N),(42,Q84.ent N),(19,Q47.ent N),(43,Q85.ent N)] [] [] N [.cell 4 33,.tmp 5] [.recd [.any,.any,.any],.any] 0 53
noncomputable def Q86.dec (v:V)(bs:List rA):Option (Int×Int×Int×Int):=match v,bs with
 | .tup [.agg [.c (.int .i64 a),.c (.int .i64 b),.c (.int .i64 c)],.c (.int .i64 d)],[]=>some (a,b,c,d)
 |_,_=>none
theorem Q86.f_eq (N:Nat)(a b c d e f:Int):
  cB (Q86.E N) (bo Tryz.f24) [.agg [.c (.int .i64 a),.c (.int .i64 b),.c (.int .i64 c)],.agg [.c (.int .i64 d),.c (.int .i64 e),.c (.int .i64 f)]] [] Q86.dec=Q86.f N a b c d e f:=by kernel_rfl
noncomputable def Q86.ent (N:Nat):xA:=wF (Int×Int×Int×Int) 0 [true,true] [.recd [.any,.any,.any],.recd [.any,.any,.any]] fun
 | [.agg [.c (.int .i64 a),.c (.int .i64 b),.c (.int .i64 c)],.agg [.c (.int .i64 d),.c (.int .i64 e),.c (.int .i64 f)]]=>some (Q86.f N a b c d e f,fun r=>.one (.tup [.agg [.c (.int .i64 r.1),.c (.int .i64 r.2.1),.c (.int .i64 r.2.2.1)],.c (.int .i64 r.2.2.2)]) [])
 |_=>none
theorem Q86.env (N:Nat):aB Tryz.prog (Q86.E N):=⟨(.cons xC (.cons oC .nil)),(.cons (Q48.ent_ok N) (.cons (Q84.ent_ok N) (.cons (Q47.ent_ok N) (.cons (Q85.ent_ok N) .nil))))⟩
theorem Q86.spec (N:Nat)(a c d f g i:Int)(r:Int×Int×Int×Int)(h:Q86.f N a c d f g i=some r):fA Tryz.prog 24 [.agg [.c (.int .i64 a),.c (.int .i64 c),.c (.int .i64 d)],.agg [.c (.int .i64 f),.c (.int .i64 g),.c (.int .i64 i)]] [] (.tup [.agg [.c (.int .i64 r.1),.c (.int .i64 r.2.1),.c (.int .i64 r.2.2.1)],.c (.int .i64 r.2.2.2)]) ([]):=vA (Q86.env N) bA Tryz.func24 dA.n ((Q86.f_eq ..).trans h) fun v b e=>by unfold Q86.dec at e;split at e<;>cases e;exact⟨rfl,rfl⟩
theorem Q86.ent_ok (N:Nat):uA Tryz.prog 24 (Q86.ent N):=yA fun v a e h=>by split at h;exact nC (Q:=fun e=>fA _ _ _ _ (e a).pick.1 (e a).pick.2) h fun k=>Q86.spec N _ _ _ _ _ _ a k;cases h
noncomputable def Q87.f (N:Nat)(c d e:Int):Option (Int×Int×Int×Int):=
 (Q84.f N c d e).bind fun a=>
 bif a.2.2.2 != 0 then
  some (0,0,0,a.2.2.2)
 else
 (Q50.f N a.1 (aA (0-a.2.1)) a.2.2.1).bind fun b=>
 some (b.1,b.2.1,b.2.2.1,b.2.2.2.2.2.2.2)
noncomputable def Q87.E (N:Nat):bD:=bF [(2,eQ),(33,wH)] [(42,Q84.ent N),(54,Q50.ent N)] [] [] N [.cell 2 33,.tmp 3] [.recd [.any,.any,.any],.any] 0 27
noncomputable def Q87.dec (v:V)(bs:List rA):Option (Int×Int×Int×Int):=match v,bs with
 | .tup [.agg [.c (.int .i64 a),.c (.int .i64 b),.c (.int .i64 c)],.c (.int .i64 d)],[]=>some (a,b,c,d)
 |_,_=>none
theorem Q87.f_eq (N:Nat)(a b c:Int):
  cB (Q87.E N) (bo Tryz.f45) [.agg [.c (.int .i64 a),.c (.int .i64 b),.c (.int .i64 c)]] [] Q87.dec=Q87.f N a b c:=by kernel_rfl
noncomputable def Q87.ent (N:Nat):xA:=wF (Int×Int×Int×Int) 0 [true] [.recd [.any,.any,.any]] fun
 | [.agg [.c (.int .i64 a),.c (.int .i64 b),.c (.int .i64 c)]]=>some (Q87.f N a b c,fun r=>.one (.tup [.agg [.c (.int .i64 r.1),.c (.int .i64 r.2.1),.c (.int .i64 r.2.2.1)],.c (.int .i64 r.2.2.2)]) [])
 |_=>none
theorem Q87.env (N:Nat):aB Tryz.prog (Q87.E N):=⟨(.cons xC (.cons oC .nil)),(.cons (Q84.ent_ok N) (.cons (Q50.ent_ok N) .nil))⟩
theorem Q87.spec (N:Nat)(a c d:Int)(r:Int×Int×Int×Int)(h:Q87.f N a c d=some r):fA Tryz.prog 45 [.agg [.c (.int .i64 a),.c (.int .i64 c),.c (.int .i64 d)]] [] (.tup [.agg [.c (.int .i64 r.1),.c (.int .i64 r.2.1),.c (.int .i64 r.2.2.1)],.c (.int .i64 r.2.2.2)]) ([]):=vA (Q87.env N) bA Tryz.func45 dA.n ((Q87.f_eq ..).trans h) fun v b e=>by unfold Q87.dec at e;split at e<;>cases e;exact⟨rfl,rfl⟩
theorem Q87.ent_ok (N:Nat):uA Tryz.prog 45 (Q87.ent N):=yA fun v a e h=>by split at h;exact nC (Q:=fun e=>fA _ _ _ _ (e a).pick.1 (e a).pick.2) h fun k=>Q87.spec N _ _ _ a k;cases h
noncomputable def Q88.l1000001 {R:Type}(N:Nat):Nat→Int→Int→Int→Int→Int→Int→Int→Int→Int→Int→Int→Int→Int→Int→Int→(Int→Int→Int→Int→Option R)→Option R
 |0,_,_,_,_,_,_,_,_,_,_,_,_,_,_,_,_=>none
 |n+1,q,p,o,r,s,j,k,l,m,a,b,c,g,h,i,kr=>
  bif p==0 then
   kr g h i 0
  else
  bif (gC .u64 p 1)==1 then
   (Q85.f N g h i a b c o).bind fun d=>
   (Q85.f N a b c a b c o).bind fun e=>
   Q88.l1000001 N n q (Int.fdiv p (2^1)) o r s j k l m e.1 e.2.1 e.2.2 d.1 d.2.1 d.2.2 kr
  else
  (Q85.f N a b c a b c o).bind fun f=>
  Q88.l1000001 N n q (Int.fdiv p (2^1)) o r s j k l m f.1 f.2.1 f.2.2 g h i kr
noncomputable def Q88.s1000001 {R:Type}(N:Nat)(c h i j k l m:Int)(kr:(Int→Int→Int→Int→Option R)):Option R:=
 (Q84.f N h i j).bind fun a=>
 bif a.2.2.2 != 0 then
  kr 0 0 0 a.2.2.2
 else
 bif decide (c<0)then
  (Q87.f N a.1 a.2.1 a.2.2.1).bind fun b=>
  (Q47.f N b.1 b.2.1 b.2.2.1).bind fun f=>
  (Q83.f N f).bind fun d=>
  bif (gA (0- (gA c)))==0 then
   kr d.1 d.2.1 d.2.2.1 0
  else
  bif (gC .u64 (gA (0- (gA c))) 1)==1 then
   (Q85.f N d.1 d.2.1 d.2.2.1 b.1 b.2.1 b.2.2.1 f).bind fun o=>
   (Q85.f N b.1 b.2.1 b.2.2.1 b.1 b.2.1 b.2.2.1 f).bind fun p=>
   Q88.l1000001 N N c (Int.fdiv (gA (0- (gA c))) (2^1)) f h i j k l m p.1 p.2.1 p.2.2 o.1 o.2.1 o.2.2 kr
  else
  (Q85.f N b.1 b.2.1 b.2.2.1 b.1 b.2.1 b.2.2.1 f).bind fun q=>
  Q88.l1000001 N N c (Int.fdiv (gA (0- (gA c))) (2^1)) f h i j k l m q.1 q.2.1 q.2.2 d.1 d.2.1 d.2.2.1 kr
 else
 (Q47.f N a.1 a.2.1 a.2.2.1).bind fun g=>
 (Q83.f N g).bind fun e=>
 bif (gA c)==0 then
  kr e.1 e.2.1 e.2.2.1 0
 else
 bif (gC .u64 (gA c) 1)==1 then
  (Q85.f N e.1 e.2.1 e.2.2.1 a.1 a.2.1 a.2.2.1 g).bind fun r=>
  (Q85.f N a.1 a.2.1 a.2.2.1 a.1 a.2.1 a.2.2.1 g).bind fun s=>
  Q88.l1000001 N N c (Int.fdiv (gA c) (2^1)) g h i j k l m s.1 s.2.1 s.2.2 r.1 r.2.1 r.2.2 kr
 else
 (Q85.f N a.1 a.2.1 a.2.2.1 a.1 a.2.1 a.2.2.1 g).bind fun t=>
 Q88.l1000001 N N c (Int.fdiv (gA c) (2^1)) g h i j k l m t.1 t.2.1 t.2.2 e.1 e.2.1 e.2.2.1 kr
noncomputable def Q88.f (N:Nat)(e f g h:Int):Option (Int×Int×Int×Int):=
 Q88.s1000001 N h e f g 0 0 0
  (fun a b c d=>
   some (a,b,c,d))
noncomputable def Q88.h1000001:eD:=⟨[(1,.any),(2,.box [.any,.any,.any]),(4,.box [.any,.any,.any]),(6,.any),(8,.any),(9,.any),(10,.any)],[(4,.any),(5,.any)]⟩
noncomputable def Q88.c1000001 (N:Nat):xH:=⟨fun vs H k=>match vs,H with
 | [.c (.int .i64 e),.ptr 0 0 3,.ptr 1 0 3,.poison,.poison,.poison,.poison],[.vals [.c (.int .i64 f),.c (.int .i64 g),.c (.int .i64 h)],.vals [.c (.int .i64 i),.c (.int .i64 j),.c (.int .i64 l)]]=>Q88.s1000001 N e f g h i j l (fun a b c d=>k (.ret (.tup [.agg [.c (.int .i64 a),.c (.int .i64 b),.c (.int .i64 c)],.c (.int .i64 d)]) []) .nil)
 |_,_=>none⟩
noncomputable def Q88.E (N:Nat):bD:=bF [(2,eQ),(33,wH),(78,fQ)] [(42,Q84.ent N),(45,Q87.ent N),(19,Q47.ent N),(27,Q83.ent N),(43,Q85.ent N)] [(1000001,Q88.h1000001)] [(1000001,Q88.c1000001 N)] N [.cell 4 33,.tmp 5] [.recd [.any,.any,.any],.any] 0 55
noncomputable def Q88.b1000001:Code:=sA ((eA (bo Tryz.f26)).getD 0 .skip)
noncomputable def Q88.r1000001:Code:=(findLabel Q88.b1000001 0).getD .skip
theorem Q88.l1000001_eq {R:Type}(N n:Nat)(r t u v w a b d e f g h i j l:Int)(k:Ex→St→Option R):
  gN 0 Q88.h1000001 (fun c s k=>bB (Q88.E N) 398 c s k) Q88.b1000001 n Q88.r1000001 [.c (.int .i64 r),.ptr 0 0 3,.ptr 1 0 3,.ptr 2 0 3,.c (.int .u64 t),.c (.int .i64 u),.ptr 3 0 3] [.vals [.c (.int .i64 v),.c (.int .i64 w),.c (.int .i64 a)],.vals [.c (.int .i64 b),.c (.int .i64 d),.c (.int .i64 e)],.vals [.c (.int .i64 f),.c (.int .i64 g),.c (.int .i64 h)],.vals [.c (.int .i64 i),.c (.int .i64 j),.c (.int .i64 l)]] k=Q88.l1000001 N n r t u v w a b d e f g h i j l (fun m o p q=>k (.ret (.tup [.agg [.c (.int .i64 m),.c (.int .i64 o),.c (.int .i64 p)],.c (.int .i64 q)]) []) .nil):=by
 induction n generalizing r t u v w a b d e f g h i j l with
 |zero=>kernel_rfl
 |succ n ih=>
  simp only[Q88.l1000001,←ih]
  kernel_rfl
theorem Q88.s1000001_eq {R:Type}(N:Nat)(a b d e f g h:Int)(k:Ex→St→Option R):
  gN 0 Q88.h1000001 (fun c s k=>bB (Q88.E N) 398 c s k) Q88.b1000001 (N+1) Q88.b1000001 [.c (.int .i64 a),.ptr 0 0 3,.ptr 1 0 3,.poison,.poison,.poison,.poison] [.vals [.c (.int .i64 b),.c (.int .i64 d),.c (.int .i64 e)],.vals [.c (.int .i64 f),.c (.int .i64 g),.c (.int .i64 h)]] k=Q88.s1000001 N a b d e f g h (fun i j l m=>k (.ret (.tup [.agg [.c (.int .i64 i),.c (.int .i64 j),.c (.int .i64 l)],.c (.int .i64 m)]) []) .nil):=by
 simp only[Q88.s1000001,←Q88.l1000001_eq]
 kernel_rfl
noncomputable def Q88.dec (v:V)(bs:List rA):Option (Int×Int×Int×Int):=match v,bs with
 | .tup [.agg [.c (.int .i64 a),.c (.int .i64 b),.c (.int .i64 c)],.c (.int .i64 d)],[]=>some (a,b,c,d)
 |_,_=>none
theorem Q88.f_eq (N:Nat)(a b c d:Int):
  cB (Q88.E N) (bo Tryz.f26) [.agg [.c (.int .i64 a),.c (.int .i64 b),.c (.int .i64 c)],.c (.int .i64 d)] [] Q88.dec=Q88.f N a b c d:=by kernel_rfl
noncomputable def Q88.ent (N:Nat):xA:=wF (Int×Int×Int×Int) 0 [true,true] [.recd [.any,.any,.any],.any] fun
 | [.agg [.c (.int .i64 a),.c (.int .i64 b),.c (.int .i64 c)],.c (.int .i64 d)]=>some (Q88.f N a b c d,fun r=>.one (.tup [.agg [.c (.int .i64 r.1),.c (.int .i64 r.2.1),.c (.int .i64 r.2.2.1)],.c (.int .i64 r.2.2.2)]) [])
 |_=>none
theorem Q88.env (N:Nat):aB Tryz.prog (Q88.E N):=⟨(.cons xC (.cons oC (.cons qF .nil))),(.cons (Q84.ent_ok N) (.cons (Q87.ent_ok N) (.cons (Q47.ent_ok N) (.cons (Q83.ent_ok N) (.cons (Q85.ent_ok N) .nil)))))⟩
theorem Q88.res_eq (N:Nat):(Q88.E N).res=Tryz.f26.results.toList:=by kernel_rfl
theorem Q88.k1000001 (N:Nat):xB Tryz.prog Tryz.f26 (Q88.E N) (.scope Q88.b1000001):=by
 intro e hd he hh R vs H k r h;have e1:(Q88.E N).cut (1000000+yC Q88.b1000001)=some (Q88.c1000001 N):=by kernel_rfl
 have e2:(Q88.E N).hint (1000000+yC Q88.b1000001)=some Q88.h1000001:=by kernel_rfl
 rw[e1]at he;rw[e2]at hh;cases he;cases hh;unfold Q88.c1000001 at h;dsimp only at h;split at h
 ·rw[←Q88.s1000001_eq]at h;exact C6 (Q88.env N) bA (Q88.res_eq N) dA.n h
 ·cases h
theorem Q88.spec (N:Nat)(a c d f:Int)(r:Int×Int×Int×Int)(h:Q88.f N a c d f=some r):fA Tryz.prog 26 [.agg [.c (.int .i64 a),.c (.int .i64 c),.c (.int .i64 d)],.c (.int .i64 f)] [] (.tup [.agg [.c (.int .i64 r.1),.c (.int .i64 r.2.1),.c (.int .i64 r.2.2.1)],.c (.int .i64 r.2.2.2)]) ([]):=vA (Q88.env N) bA Tryz.func26 (dA.of (l:=[(.scope (sA ((eA (bo Tryz.f26)).getD 0 .skip)))]) (by kernel_rfl) (dA.cons (Q88.k1000001 N) dA.nil)) ((Q88.f_eq ..).trans h) fun v b e=>by unfold Q88.dec at e;split at e<;>cases e;exact⟨rfl,rfl⟩
theorem Q88.ent_ok (N:Nat):uA Tryz.prog 26 (Q88.ent N):=yA fun v a e h=>by split at h;exact nC (Q:=fun e=>fA _ _ _ _ (e a).pick.1 (e a).pick.2) h fun k=>Q88.spec N _ _ _ _ a k;cases h
noncomputable def Q89.f (N:Nat)(a:Int):Option (Int×Int×Int×Int):=
 bif decide (a>(-3))then
  some (0,0,0,80)
 else
 bif decide (a<(-4294967296))then
  some (0,0,0,80)
 else
 (Q65.f N a 4).bind fun b=>
 bif b==0 then
  some (1,0,aA (Int.tdiv (aA (0-a)) 4),0)
 else
 bif b==1 then
  some (1,1,aA (Int.tdiv (aA (1-a)) 4),0)
 else
 some (0,0,0,80)
noncomputable def Q90.l2 {R:Type}(N:Nat):Nat→Int→Int→Int→Int→(Int→Option R)→Option R
 |0,_,_,_,_,_=>none
 |n+1,b,c,a,e,d=>
  bif decide (c>0)then
   bif (Int.tmod c 2)==1 then
    bif !(a==0)then
     bif !(a==0)then
      Q90.l2 N n (Int.tmod (aA (b+b)) a) (aA (Int.tdiv c 2)) a (Int.tmod (aA (e+b)) a) d
     else none
    else none
   else
   bif !(a==0)then
    Q90.l2 N n (Int.tmod (aA (b+b)) a) (aA (Int.tdiv c 2)) a e d
   else none
  else
  d e
noncomputable def Q90.f (N:Nat)(a b c:Int):Option (Int):=
 Q90.l2 N N a b c 0
  (fun d=>
   some d)
noncomputable def Q91.l5 {R:Type}(N:Nat):Nat→Int→Int→Int→Int→Int→(Int→Int→Option R)→Option R
 |0,_,_,_,_,_,_=>none
 |n+1,d,b,a,e,f,c=>
  bif decide (a>0)then
   bif !(a==0)then
    Q91.l5 N n d a (aA (b- (aA ((aA (Int.tdiv b a))*a)))) f (aA (e- (aA ((aA (Int.tdiv b a))*f)))) c
   else none
  else
  c d e
noncomputable def Q91.f (N:Nat)(e a:Int):Option (Int):=
 (Q65.f N e a).bind fun f=>
 Q91.l5 N N a a f 0 1
  (fun c d=>
   (Q65.f N d c).bind fun b=>
   some b)
noncomputable def Q92.f (N:Nat)(b a:Int):Option (Int×Int):=
 bif decide (a<1)then
  some (0,2)
 else
 bif decide (a>4611686018427387904)then
  some (0,2)
 else
 (Q65.f N b a).bind fun c=>
 (Q66.f N c a).bind fun d=>
 bif d != 1 then
  some (0,41)
 else
 (Q91.f N b a).bind fun e=>
 some (e,0)
noncomputable def Q93.f (N:Nat)(a b:Int):Option (Int):=
 (Q92.f N a b).bind fun c=>
 some c.1
noncomputable def Q94.l4 {R:Type}(N:Nat):Nat→Int→Int→Int→Int→Int→Int→Int→Int→Int→(Int→Int→Int→Int→Int→Int→Int→Int→Option R)→(Int→Int→Int→Option R)→Option R
 |0,_,_,_,_,_,_,_,_,_,_,_=>none
 |n+1,i,b,a,c,d,e,j,k,l,q,kr=>
  bif decide (a≤b)then
   (Q66.f N a (aA (b-a))).bind fun r=>
   bif r != 1 then
    Q94.l4 N n i b (aA (a+1)) c d e j k l q kr
   else
   (Q66.f N (aA ((aA ((aA ((aA (c*a))*a))+(aA ((aA (d*a))*(aA (b-a))))))+(aA ((aA (e*(aA (b-a))))*(aA (b-a)))))) i).bind fun s=>
   bif s != 1 then
    Q94.l4 N n i b (aA (a+1)) c d e j k l q kr
   else
   (Q53.f N a).bind fun m=>
   (Q53.f N (aA (b-a))).bind fun o=>
   (Q64.f N m.1 m.2 o.1 o.2).bind fun h=>
   (Q56.f N h.2.1 h.2.2.1).bind fun f=>
   (Q58.f N h.2.2.2.1 h.2.2.2.2).bind fun p=>
   (Q56.f N p.1 p.2).bind fun g=>
   kr (aA ((aA ((aA ((aA (c*a))*a))+(aA ((aA (d*a))*(aA (b-a))))))+(aA ((aA (e*(aA (b-a))))*(aA (b-a)))))) (aA ((aA ((aA ((aA ((aA (2*c))*a))*g.1))+(aA (d*(aA ((aA (a*f.1))+(aA (g.1*(aA (b-a))))))))))+(aA ((aA ((aA (2*e))*(aA (b-a))))*f.1)))) (aA ((aA ((aA ((aA (c*g.1))*g.1))+(aA ((aA (d*g.1))*f.1))))+(aA ((aA (e*f.1))*f.1))))
  else
  q i b c d e j k l
noncomputable def Q94.l3 {R:Type}(N:Nat):Nat→Int→Int→Int→Int→Int→Int→Int→Int→(Int→Int→Int→Option R)→Option R
 |0,_,_,_,_,_,_,_,_,_=>none
 |n+1,p,q,r,s,t,a,b,c,kr=>
  Q94.l4 N N p q 0 r s t a b c
   (fun d e f g h i j k=>
    Q94.l3 N n d (aA (e+1)) f g h i j k kr)
   (fun l m o=>
    kr l m o)
noncomputable def Q94.f (N:Nat)(d e f g:Int):Option (Int×Int×Int):=
 Q94.l3 N N g 1 d e f 0 0 0
  (fun a b c=>
   some (a,b,c))
noncomputable def Q95.l2 {R:Type}(N:Nat):Nat→Int→Bool→List Int→Bool→List Int→Int→Int→Int→Bool→List Int→(Int→Int→Int→Option R)→Option R
 |0,_,_,_,_,_,_,_,_,_,_,_=>none
 |n+1,m,g,h,x10,x11,j,k,l,e,f,kr=>
  (Q53.f N 2).bind fun o=>
  (Q61.f N g h o.1 o.2).bind fun i=>
  (Q62.f N x10 x11 i.1 i.2).bind fun a=>
  (Q57.f N a.2.2.1 a.2.2.2 g h).bind fun r20=>
  bif decide (r20>0)then
   (Q60.f N a.2.2.1 a.2.2.2 i.1 i.2).bind fun b=>
   (Q61.f N b.1 b.2 b.1 b.2).bind fun p=>
   (Q53.f N m).bind fun q=>
   (Q60.f N p.1 p.2 q.1 q.2).bind fun r=>
   (Q61.f N e f g h).bind fun s=>
   (Q62.f N r.1 r.2 s.1 s.2).bind fun c=>
   (Q57.f N g h c.1 c.2.1).bind fun t=>
   bif decide (t<0)then
    (Q56.f N g h).bind fun r28=>
    (Q56.f N b.1 b.2).bind fun r29=>
    (Q56.f N c.1 c.2.1).bind fun r30=>
    kr r28.1 r29.1 r30.1
   else
   bif t==0 then
    (Q54.f N b.1 b.2).bind fun r34=>
    bif decide (r34≥0)then
     (Q56.f N g h).bind fun r35=>
     (Q56.f N b.1 b.2).bind fun r36=>
     (Q56.f N c.1 c.2.1).bind fun r37=>
     kr r35.1 r36.1 r37.1
    else
    (Q58.f N b.1 b.2).bind fun u=>
    Q95.l2 N n m c.1 c.2.1 u.1 u.2 j k l e f kr
   else
   (Q58.f N b.1 b.2).bind fun v=>
   Q95.l2 N n m c.1 c.2.1 v.1 v.2 j k l e f kr
  else
  (Q61.f N a.2.2.1 a.2.2.2 a.2.2.1 a.2.2.2).bind fun w=>
  (Q53.f N m).bind fun x=>
  (Q60.f N w.1 w.2 x.1 x.2).bind fun y=>
  (Q61.f N e f g h).bind fun z=>
  (Q62.f N y.1 y.2 z.1 z.2).bind fun d=>
  (Q57.f N g h d.1 d.2.1).bind fun r45=>
  bif decide (r45<0)then
   (Q56.f N g h).bind fun r46=>
   (Q56.f N a.2.2.1 a.2.2.2).bind fun r47=>
   (Q56.f N d.1 d.2.1).bind fun r48=>
   kr r46.1 r47.1 r48.1
  else
  bif r45==0 then
   (Q54.f N a.2.2.1 a.2.2.2).bind fun r49=>
   bif decide (r49≥0)then
    (Q56.f N g h).bind fun r50=>
    (Q56.f N a.2.2.1 a.2.2.2).bind fun r51=>
    (Q56.f N d.1 d.2.1).bind fun r52=>
    kr r50.1 r51.1 r52.1
   else
   (Q58.f N a.2.2.1 a.2.2.2).bind fun r53=>
   Q95.l2 N n m d.1 d.2.1 r53.1 r53.2 j k l e f kr
  else
  (Q58.f N a.2.2.1 a.2.2.2).bind fun r54=>
  Q95.l2 N n m d.1 d.2.1 r54.1 r54.2 j k l e f kr
noncomputable def Q95.f (N:Nat)(e:Bool)(f:List Int)(g:Bool)(h:List Int)(i:Int):Option (Int×Int×Int):=
 (Q53.f N 4).bind fun d=>
 Q95.l2 N N i e f g h 0 0 0 d.1 d.2
  (fun a b c=>
   some (a,b,c))
noncomputable def Q96.f (N:Nat)(b l p q r s:Int):Option (Int×Int×Int):=
 (Q94.f N q r s b).bind fun k=>
 (Q69.f N b l p).bind fun t=>
 (Q65.f N (aA (Int.tdiv (aA (k.2.1-l)) 2)) k.1).bind fun u=>
 (Q93.f N b k.1).bind fun m=>
 (Q90.f N u m k.1).bind fun o=>
 (Q53.f N l).bind fun c=>
 (Q53.f N (aA (2*b))).bind fun d=>
 (Q53.f N o).bind fun e=>
 (Q61.f N d.1 d.2 e.1 e.2).bind fun f=>
 (Q59.f N c.1 c.2 f.1 f.2).bind fun g=>
 (Q53.f N b).bind fun h=>
 (Q53.f N k.1).bind fun i=>
 (Q61.f N h.1 h.2 i.1 i.2).bind fun j=>
 (Q95.f N j.1 j.2 g.1 g.2 t).bind fun a=>
 some (a.1,a.2.1,a.2.2)
noncomputable def Q97.f (N:Nat)(b c d:Int):Option (Int×Int×Int×Int):=
 (Q73.f N b c d).bind fun a=>
 bif a.2.2.2.2.2.2.2 != 0 then
  some (a.1,a.2.1,a.2.2.1,a.2.2.2.2.2.2.2)
 else
 (Q74.f N b c d).bind fun e=>
 bif e != 1 then
  some (0,0,0,81)
 else
 some (a.1,a.2.1,a.2.2.1,0)
noncomputable def Q98.f (N:Nat)(b c d:Int):Option (Int×Int×Int):=
 (Q73.f N b (aA (0-c)) d).bind fun a=>
 some (a.1,a.2.1,a.2.2.1)
noncomputable def Q99.f (N:Nat)(c d e:Int):Option (Int×Int×Int×Int):=
 (Q97.f N c d e).bind fun a=>
 bif a.2.2.2 != 0 then
  some (0,0,0,a.2.2.2)
 else
 (Q98.f N a.1 a.2.1 a.2.2.1).bind fun b=>
 some (b.1,b.2.1,b.2.2,0)
noncomputable def gj:TI:=⟨.slice 33,1,24,[.slice none 0 0]⟩
noncomputable def E8:TI:=⟨.map 33 2,1,8,[.map none]⟩
noncomputable def Cm:TI:=⟨.slice 3,1,24,[.slice none 0 0]⟩
theorem oL:tC Tryz.prog 23 gj:=aD (by kernel_rfl) (by kernel_rfl) (by kernel_rfl) (by kernel_rfl) (by kernel_rfl) (by kernel_rfl) (by kernel_rfl) (Tryz.underlying23) (by kernel_rfl)
theorem gm:tC Tryz.prog 85 E8:=aD (by kernel_rfl) (by kernel_rfl) (by kernel_rfl) (by kernel_rfl) (by kernel_rfl) (by kernel_rfl) (by kernel_rfl) (Cj Tryz.underlying85 (by kernel_rfl)) (by kernel_rfl)
theorem mo:tC Tryz.prog 108 Cm:=aD (by kernel_rfl) (by kernel_rfl) (by kernel_rfl) (by kernel_rfl) (by kernel_rfl) (by kernel_rfl) (by kernel_rfl) (Tryz.underlying108) (by kernel_rfl)
noncomputable def Q100.f (N:Nat)(a b c:Int):Option (Bool):=
 (Q48.f N a b c).bind fun d=>
 bif d==0 then
  (Q49.f N a b c 0 0 0 0).bind fun e=>
  some (!e.1)
 else
 some false
noncomputable def Q101.f (N:Nat)(a:Int):Option (Bool):=
 some (a != a)
noncomputable def Q101.E (N:Nat):bD:=bF [] [] [] [] N [.tmp 2] [.any] 0 6
noncomputable def Q101.dec (v:V)(bs:List rA):Option (Bool):=match v,bs with
 | .c (.bool a),[]=>some a
 |_,_=>none
theorem Q101.f_eq (N:Nat)(a:Int):
  cB (Q101.E N) (bo Tryz.f82) [.c (.int .i64 a)] [] Q101.dec=Q101.f N a:=by kernel_rfl
noncomputable def Q101.ent (N:Nat):xA:=wF (Bool) 0 [true] [.any] fun
 | [.c (.int .i64 a)]=>some (Q101.f N a,fun r=>.one (.c (.bool r)) [])
 |_=>none
theorem Q101.env (N:Nat):aB Tryz.prog (Q101.E N):=⟨.nil,.nil⟩
theorem Q101.spec (N:Nat)(a:Int)(r:Bool)(h:Q101.f N a=some r):fA Tryz.prog 82 [.c (.int .i64 a)] [] (.c (.bool r)) ([]):=vA (Q101.env N) bA Tryz.func82 dA.n ((Q101.f_eq ..).trans h) fun v b e=>by unfold Q101.dec at e;split at e<;>cases e;exact⟨rfl,rfl⟩
theorem Q101.ent_ok (N:Nat):uA Tryz.prog 82 (Q101.ent N):=yA fun v a e h=>by split at h;exact nC (Q:=fun e=>fA _ _ _ _ (e a).pick.1 (e a).pick.2) h fun k=>Q101.spec N _ a k;cases h
noncomputable def Q102.f (N:Nat)(a b:Int):Option (Int):=
 (Q101.f N a).bind fun d=>
 (Q101.f N b).bind fun c=>
 bif d then
  bif c then
   some 0
  else
  some (-1)
 else
 bif c then
  some 1
 else
 bif decide (a<b)then
  some (-1)
 else
 bif decide (a>b)then
  some 1
 else
 some 0
noncomputable def Q102.E (N:Nat):bD:=bF [] [(82,Q101.ent N)] [] [] N [.tmp 4] [.any] 0 20
noncomputable def Q102.dec (v:V)(bs:List rA):Option (Int):=match v,bs with
 | .c (.int .i64 a),[]=>some a
 |_,_=>none
theorem Q102.f_eq (N:Nat)(a b:Int):
  cB (Q102.E N) (bo Tryz.f61) [.c (.int .i64 a),.c (.int .i64 b)] [] Q102.dec=Q102.f N a b:=by kernel_rfl
noncomputable def Q102.ent (N:Nat):xA:=wF (Int) 0 [true,true] [.any,.any] fun
 | [.c (.int .i64 a),.c (.int .i64 b)]=>some (Q102.f N a b,fun r=>.one (.c (.int .i64 r)) [])
 |_=>none
theorem Q102.env (N:Nat):aB Tryz.prog (Q102.E N):=⟨.nil,(.cons (Q101.ent_ok N) .nil)⟩
theorem Q102.spec (N:Nat)(a c r:Int)(h:Q102.f N a c=some r):fA Tryz.prog 61 [.c (.int .i64 a),.c (.int .i64 c)] [] (.c (.int .i64 r)) ([]):=vA (Q102.env N) bA Tryz.func61 dA.n ((Q102.f_eq ..).trans h) fun v b e=>by unfold Q102.dec at e;split at e<;>cases e;exact⟨rfl,rfl⟩
theorem Q102.ent_ok (N:Nat):uA Tryz.prog 61 (Q102.ent N):=yA fun v a e h=>by split at h;exact nC (Q:=fun e=>fA _ _ _ _ (e a).pick.1 (e a).pick.2) h fun k=>Q102.spec N _ _ a k;cases h
noncomputable def Q103.l3 {R:Type}(N:Nat):Nat→Int→List Int→Int→Int→(Int→Option R)→(Int→Option R)→Option R
 |0,_,_,_,_,_,_=>none
 |n+1,c,b,e,a,d,kr=>
  bif decide (a<e)then
   bif (decide (0≤a))&&(decide (a<(b.length:Int)))then
    bif (b.getD a.toNat 0) != c then
     kr (b.getD a.toNat 0)
    else
    Q103.l3 N n c b e (aA (a+1)) d kr
   else none
  else
  d c
noncomputable def Q103.f (N:Nat)(a:List Int):Option (Int):=
 Q103.l3 N N 0 a (a.length:Int) 0
  (fun b=>
   some b)
  (fun c=>
   some c)
noncomputable def Q103.h3:eD:=⟨[(3,.any),(6,.il .i64 1),(7,.any),(8,.any)],[(3,.any)]⟩
noncomputable def Q103.c3 (N:Nat):xH:=⟨fun vs H k=>match vs,H with
 | [.c (.int .i64 a),.il .i64 1 b,.c (.int .i64 c),.c (.int .i64 d)],[]=>Q103.l3 N N a b c d (fun f=>k (.exit 0) ⟨dD Q103.h3.out [.c (.int .i64 f)],[]⟩) (fun e=>k (.ret (.c (.int .i64 e)) []) .nil)
 |_,_=>none⟩
noncomputable def Q103.E (N:Nat):bD:=bF [(3,Cn),(108,Cm)] [] [(3,Q103.h3)] [(3,Q103.c3 N)] N [.tmp 2] [.any] 0 18
noncomputable def Q103.b3:Code:=sA ((eA (bo Tryz.f60)).getD 0 .skip)
theorem Q103.l3_eq {R:Type}(N n:Nat)(a:Int)(b:List Int)(c d:Int)(k:Ex→St→Option R):
  jB 0 Q103.h3 (fun s k=>bB (Q103.E N) 394 Q103.b3 s k) n [.c (.int .i64 a),.il .i64 1 b,.c (.int .i64 c),.c (.int .i64 d)] [] k=Q103.l3 N n a b c d (fun f=>k (.exit 0) ⟨dD Q103.h3.out [.c (.int .i64 f)],[]⟩) (fun e=>k (.ret (.c (.int .i64 e)) []) .nil):=by
 induction n generalizing a b c d with
 |zero=>kernel_rfl
 |succ n ih=>
  simp only[Q103.l3,←ih]
  kernel_rfl
noncomputable def Q103.dec (v:V)(bs:List rA):Option (Int):=match v,bs with
 | .c (.int .i64 a),[]=>some a
 |_,_=>none
theorem Q103.f_eq (N:Nat)(a:List Int):
  cB (Q103.E N) (bo Tryz.f60) [.il .i64 1 a] [] Q103.dec=Q103.f N a:=by kernel_rfl
noncomputable def Q103.ent (N:Nat):xA:=wF (Int) 0 [true] [.il .i64 1] fun
 | [.il .i64 1 a]=>some (Q103.f N a,fun r=>.one (.c (.int .i64 r)) [])
 |_=>none
theorem Q103.env (N:Nat):aB Tryz.prog (Q103.E N):=⟨(.cons yL (.cons mo .nil)),.nil⟩
theorem Q103.k3 (N:Nat):xB Tryz.prog Tryz.f60 (Q103.E N) (.loop Q103.b3):=gD (Q103.env N) bA 394 (c:=Q103.c3 N) dA.n fun R vs H k r h=>by unfold Q103.c3 at h;dsimp only at h;split at h;exact⟨_,Q103.l3_eq .. ▸h⟩;cases h
theorem Q103.spec (N:Nat)(a:List Int)(r:Int)(h:Q103.f N a=some r):fA Tryz.prog 60 [.il .i64 1 a] [] (.c (.int .i64 r)) ([]):=vA (Q103.env N) bA Tryz.func60 (dA.of (l:=[(.loop (sA ((eA (bo Tryz.f60)).getD 0 .skip)))]) (by kernel_rfl) (dA.cons (Q103.k3 N) dA.nil)) ((Q103.f_eq ..).trans h) fun v b e=>by unfold Q103.dec at e;split at e<;>cases e;exact⟨rfl,rfl⟩
theorem Q103.ent_ok (N:Nat):uA Tryz.prog 60 (Q103.ent N):=yA fun v a e h=>by split at h;exact nC (Q:=fun e=>fA _ _ _ _ (e a).pick.1 (e a).pick.2) h fun k=>Q103.spec N _ a k;cases h
noncomputable def Q104.f (N:Nat)(b c d e f g:Int):Option (Int):=
 (Q102.f N b e).bind fun h=>
 (Q102.f N c f).bind fun i=>
 (Q102.f N d g).bind fun j=>
 (Q103.f N [h,i,j]).bind fun a=>
 some a
noncomputable def Q104.E (N:Nat):bD:=bF [(2,eQ),(3,Cn),(33,wH),(108,Cm)] [(61,Q102.ent N),(60,Q103.ent N)] [] [] N [.tmp 4] [.any] 0 22
noncomputable def Q104.dec (v:V)(bs:List rA):Option (Int):=match v,bs with
 | .c (.int .i64 a),[]=>some a
 |_,_=>none
theorem Q104.f_eq (N:Nat)(a b c d e f:Int):
  cB (Q104.E N) (bo Tryz.f59) [.agg [.c (.int .i64 a),.c (.int .i64 b),.c (.int .i64 c)],.agg [.c (.int .i64 d),.c (.int .i64 e),.c (.int .i64 f)]] [] Q104.dec=Q104.f N a b c d e f:=by kernel_rfl
theorem Q104.env (N:Nat):aB Tryz.prog (Q104.E N):=⟨(.cons xC (.cons yL (.cons oC (.cons mo .nil)))),(.cons (Q102.ent_ok N) (.cons (Q103.ent_ok N) .nil))⟩
theorem Q104.spec (N:Nat)(a c d f g i r:Int)(h:Q104.f N a c d f g i=some r):fA Tryz.prog 59 [.agg [.c (.int .i64 a),.c (.int .i64 c),.c (.int .i64 d)],.agg [.c (.int .i64 f),.c (.int .i64 g),.c (.int .i64 i)]] [] (.c (.int .i64 r)) ([]):=vA (Q104.env N) bA Tryz.func59 dA.n ((Q104.f_eq ..).trans h) fun v b e=>by unfold Q104.dec at e;split at e<;>cases e;exact⟨rfl,rfl⟩
noncomputable def Q105.f (N:Nat)(a:Int):Option (Int):=
 bif decide (a<(-65536))then
  some 80
 else
 bif decide (a>(-3))then
  some 80
 else
 bif (Int.tmod (aA (0-a)) 4)==1 then
  some 80
 else
 bif (Int.tmod (aA (0-a)) 4)==2 then
  some 80
 else
 some 0
noncomputable def Q105.E (N:Nat):bD:=bF [] [] [] [] N [.tmp 2] [.any] 0 21
noncomputable def Q105.dec (v:V)(bs:List rA):Option (Int):=match v,bs with
 | .c (.int .i64 a),[]=>some a
 |_,_=>none
theorem Q105.f_eq (N:Nat)(a:Int):
  cB (Q105.E N) (bo Tryz.f40) [.c (.int .i64 a)] [] Q105.dec=Q105.f N a:=by kernel_rfl
noncomputable def Q105.ent (N:Nat):xA:=wF (Int) 0 [true] [.any] fun
 | [.c (.int .i64 a)]=>some (Q105.f N a,fun r=>.one (.c (.int .i64 r)) [])
 |_=>none
theorem Q105.env (N:Nat):aB Tryz.prog (Q105.E N):=⟨.nil,.nil⟩
theorem Q105.spec (N:Nat)(a r:Int)(h:Q105.f N a=some r):fA Tryz.prog 40 [.c (.int .i64 a)] [] (.c (.int .i64 r)) ([]):=vA (Q105.env N) bA Tryz.func40 dA.n ((Q105.f_eq ..).trans h) fun v b e=>by unfold Q105.dec at e;split at e<;>cases e;exact⟨rfl,rfl⟩
theorem Q105.ent_ok (N:Nat):uA Tryz.prog 40 (Q105.ent N):=yA fun v a e h=>by split at h;exact nC (Q:=fun e=>fA _ _ _ _ (e a).pick.1 (e a).pick.2) h fun k=>Q105.spec N _ a k;cases h
noncomputable def Q106.l7 {R:Type}(N:Nat):Nat→Int→Int→Int→Int→List (List Int)→List Int→(Int→Int→List (List Int)→List Int→Option R)→Option R
 |0,_,_,_,_,_,_,_=>none
 |n+1,h,c,d,a,b,e,g=>
  bif decide ((aA (a*a))≤d)then
   bif !(a==0)then
    bif (Int.tmod d a) != 0 then
     Q106.l7 N n h c d (aA (a+1)) b e g
    else
    bif !(a==0)then
     (Q51.f N a c (aA (Int.tdiv d a))).bind fun f=>
     bif decide (c>0)then
      bif decide (c<a)then
       bif decide (a<(aA (Int.tdiv d a)))then
        Q106.l7 N n h c d (aA (a+1)) (vB [a,aA (0-c),aA (Int.tdiv d a)] (vB [a,c,aA (Int.tdiv d a)] b)) (eG [a,aA (0-c),aA (Int.tdiv d a)] (rE [a,c,aA (Int.tdiv d a)] (vB [a,c,aA (Int.tdiv d a)] b) (eG [a,c,aA (Int.tdiv d a)] f b e)) (vB [a,c,aA (Int.tdiv d a)] b) (eG [a,c,aA (Int.tdiv d a)] f b e)) g
       else
       Q106.l7 N n h c d (aA (a+1)) (vB [a,c,aA (Int.tdiv d a)] b) (eG [a,c,aA (Int.tdiv d a)] f b e) g
      else
      Q106.l7 N n h c d (aA (a+1)) (vB [a,c,aA (Int.tdiv d a)] b) (eG [a,c,aA (Int.tdiv d a)] f b e) g
     else
     Q106.l7 N n h c d (aA (a+1)) (vB [a,c,aA (Int.tdiv d a)] b) (eG [a,c,aA (Int.tdiv d a)] f b e) g
    else none
   else none
  else
  g h c b e
noncomputable def Q106.l3 {R:Type}(N:Nat):Nat→Int→Int→List (List Int)→List Int→(List (List Int)→List Int→Option R)→Option R
 |0,_,_,_,_,_=>none
 |n+1,b,a,h,i,g=>
  bif decide ((aA ((aA (3*a))*a))≤(aA (0-b)))then
   Q106.l7 N N b a (aA (Int.tdiv (aA ((aA (a*a))-b)) 4)) (ph a 1) h i
    (fun c d e f=>
     Q106.l3 N n c (aA (d+2)) e f g)
  else
  g h i
noncomputable def Q106.f (N:Nat)(c:Int):Option (List (List Int)×List Int):=
 Q106.l3 N N c (Int.tmod (aA (0-c)) 2) [] []
  (fun a b=>
   some (a,b))
noncomputable def Q106.h3:eD:=⟨[(0,.any),(3,.any),(4,.any)],[(3,.any)]⟩
noncomputable def Q106.h7:eD:=⟨[(0,.any),(3,.any),(4,.any),(5,.any),(6,.any)],[(0,.any),(3,.any),(4,.any)]⟩
noncomputable def Q106.c7 (N:Nat):xH:=⟨fun vs H k=>match vs,H with
 | [.c (.int .i64 g),.mref 0,.c (.int .i64 h),.c (.int .i64 i),.c (.int .i64 j)],[.mp .i64 3 a (.ints .i64 b)]=>Q106.l7 N N g h i j a b (fun c d e f=>k (.exit 2) ⟨dD Q106.h7.out [.c (.int .i64 c),.mref 0,.c (.int .i64 d)],[.mp .i64 3 e (.ints .i64 f)]⟩)
 |_,_=>none⟩
noncomputable def Q106.c3 (N:Nat):xH:=⟨fun vs H k=>match vs,H with
 | [.c (.int .i64 c),.mref 0,.c (.int .i64 d)],[.mp .i64 3 e (.ints .i64 f)]=>Q106.l3 N N c d e f (fun a b=>k (.exit 0) ⟨dD Q106.h3.out [.mref 0],[.mp .i64 3 a (.ints .i64 b)]⟩)
 |_,_=>none⟩
noncomputable def Q106.E (N:Nat):bD:=bF [(2,eQ),(33,wH),(85,E8)] [(62,Q51.ent N)] [(3,Q106.h3),(7,Q106.h7)] [(7,Q106.c7 N),(3,Q106.c3 N)] N [.tmp 2] [.any] 0 74 true
noncomputable def Q106.b7:Code:=sA ((eA (bo Tryz.f57)).getD 1 .skip)
theorem Q106.l7_eq {R:Type}(N n:Nat)(g h i j:Int)(a:List (List Int))(b:List Int)(k:Ex→St→Option R):
  jB 0 Q106.h7 (fun s k=>bB (Q106.E N) 387 Q106.b7 s k) n [.c (.int .i64 g),.mref 0,.c (.int .i64 h),.c (.int .i64 i),.c (.int .i64 j)] [.mp .i64 3 a (.ints .i64 b)] k=Q106.l7 N n g h i j a b (fun c d e f=>k (.exit 2) ⟨dD Q106.h7.out [.c (.int .i64 c),.mref 0,.c (.int .i64 d)],[.mp .i64 3 e (.ints .i64 f)]⟩):=by
 induction n generalizing g h i j a b with
 |zero=>kernel_rfl
 |succ n ih=>
  simp only[Q106.l7,←ih]
  kernel_rfl
noncomputable def Q106.b3:Code:=sA ((eA (bo Tryz.f57)).getD 0 .skip)
theorem Q106.l3_eq {R:Type}(N n:Nat)(a d:Int)(e:List (List Int))(f:List Int)(k:Ex→St→Option R):
  jB 0 Q106.h3 (fun s k=>bB (Q106.E N) 394 Q106.b3 s k) n [.c (.int .i64 a),.mref 0,.c (.int .i64 d)] [.mp .i64 3 e (.ints .i64 f)] k=Q106.l3 N n a d e f (fun b c=>k (.exit 0) ⟨dD Q106.h3.out [.mref 0],[.mp .i64 3 b (.ints .i64 c)]⟩):=by
 induction n generalizing a d e f with
 |zero=>kernel_rfl
 |succ n ih=>
  simp only[Q106.l3,←ih]
  kernel_rfl
noncomputable def Q106.dec (v:V)(bs:List rA):Option (List (List Int)×List Int):=match v,bs with
 | .mref 0,[.mp .i64 3 a (.ints .i64 b)]=>some (a,b)
 |_,_=>none
theorem Q106.f_eq (N:Nat)(a:Int):
  cB (Q106.E N) (bo Tryz.f57) [.c (.int .i64 a)] [] Q106.dec=Q106.f N a:=by kernel_rfl
noncomputable def Q106.ent (N:Nat):xA:=wF (List (List Int)×List Int) 1 [true] [.any] fun
 | [.c (.int .i64 a)]=>some (Q106.f N a,fun r=>.one (.mref 0) [.mp .i64 3 r.1 (.ints .i64 r.2)])
 |_=>none
theorem Q106.env (N:Nat):aB Tryz.prog (Q106.E N):=⟨(.cons xC (.cons oC (.cons gm .nil))),(.cons (Q51.ent_ok N) .nil)⟩
theorem Q106.k7 (N:Nat):xB Tryz.prog Tryz.f57 (Q106.E N) (.loop Q106.b7):=gD (Q106.env N) bA 387 (c:=Q106.c7 N) dA.n fun R vs H k r h=>by unfold Q106.c7 at h;dsimp only at h;split at h;exact⟨_,Q106.l7_eq .. ▸h⟩;cases h
theorem Q106.k3 (N:Nat):xB Tryz.prog Tryz.f57 (Q106.E N) (.loop Q106.b3):=gD (Q106.env N) bA 394 (c:=Q106.c3 N) (dA.of (l:=[(.loop (sA ((eA (bo Tryz.f57)).getD 1 .skip)))]) (by kernel_rfl) (dA.cons (Q106.k7 N) dA.nil)) fun R vs H k r h=>by unfold Q106.c3 at h;dsimp only at h;split at h;exact⟨_,Q106.l3_eq .. ▸h⟩;cases h
theorem Q106.spec (N:Nat)(a:Int)(r:List (List Int)×List Int)(h:Q106.f N a=some r):fA Tryz.prog 57 [.c (.int .i64 a)] [] (.mref 0) ([.mp .i64 3 r.1 (.ints .i64 r.2)]):=vA (Q106.env N) bA Tryz.func57 (dA.of (l:=[(.loop (sA ((eA (bo Tryz.f57)).getD 0 .skip))),(.loop (sA ((eA (bo Tryz.f57)).getD 1 .skip)))]) (by kernel_rfl) (dA.cons (Q106.k3 N) (dA.cons (Q106.k7 N) dA.nil))) ((Q106.f_eq ..).trans h) fun v b e=>by unfold Q106.dec at e;split at e<;>cases e;exact⟨rfl,rfl⟩
theorem Q106.ent_ok (N:Nat):uA Tryz.prog 57 (Q106.ent N):=yA fun v a e h=>by split at h;exact nC (Q:=fun e=>fA _ _ _ _ (e a).pick.1 (e a).pick.2) h fun k=>Q106.spec N _ a k;cases h
noncomputable def Q107.f (N:Nat)(a:Int):Option (Int):=
 bif decide (a>(-3))then
  some 80
 else
 bif decide (a<(-65536))then
  some 80
 else
 bif (Int.tmod (aA (0-a)) 4) != 0 then
  bif (Int.tmod (aA (0-a)) 4) != 3 then
   some 80
  else
  some 0
 else
 some 0
noncomputable def Q108.l1 {R:Type}(N:Nat):Nat→Int→Int→(Int→Option R)→Option R
 |0,_,_,_=>none
 |n+1,c,a,b=>
  bif decide (a>0)then
   bif !(a==0)then
    Q108.l1 N n a (Int.tmod c a) b
   else none
  else
  b c
noncomputable def Q108.f (N:Nat)(a b:Int):Option (Int):=
 Q108.l1 N N a b
  (fun c=>
   some c)
noncomputable def Q109.f (N:Nat)(b a c:Int):Option (Int):=
 bif decide (a<0)then
  (Q108.f N b (aA (0-a))).bind fun d=>
  (Q108.f N d c).bind fun e=>
  some e
 else
 (Q108.f N b a).bind fun f=>
 (Q108.f N f c).bind fun g=>
 some g
noncomputable def Q110.l6 {R:Type}(N:Nat):Nat→Int→Int→Int→List Int→(Int→Int→List Int→Option R)→Option R
 |0,_,_,_,_,_=>none
 |n+1,c,b,a,d,e=>
  bif decide (a≤b)then
   bif !((aA (4*b))==0)then
    bif (Int.tmod (aA ((aA (a*a))-c)) (aA (4*b))) != 0 then
     Q110.l6 N n c b (aA (a+1)) d e
    else
    bif !((aA (4*b))==0)then
     bif decide ((aA (Int.tdiv (aA ((aA (a*a))-c)) (aA (4*b))))>b)then
      bif fB ((d.length+3)/3) 24 then
       Q110.l6 N n c b (aA (a+1)) (d++[b,a,aA (Int.tdiv (aA ((aA (a*a))-c)) (aA (4*b)))]) e
      else none
     else
     bif (aA (Int.tdiv (aA ((aA (a*a))-c)) (aA (4*b))))==b then
      bif decide (a≥0)then
       bif fB ((d.length+3)/3) 24 then
        Q110.l6 N n c b (aA (a+1)) (d++[b,a,aA (Int.tdiv (aA ((aA (a*a))-c)) (aA (4*b)))]) e
       else none
      else
      Q110.l6 N n c b (aA (a+1)) d e
     else
     Q110.l6 N n c b (aA (a+1)) d e
    else none
   else none
  else
  e c b d
noncomputable def Q110.l3 {R:Type}(N:Nat):Nat→Int→Int→List Int→(List Int→Option R)→Option R
 |0,_,_,_,_=>none
 |n+1,f,a,g,e=>
  bif decide ((aA ((aA (3*a))*a))≤(aA (0-f)))then
   Q110.l6 N N f a (aA (1-a)) g
    (fun b c d=>
     Q110.l3 N n b (aA (c+1)) d e)
  else
  e g
noncomputable def Q110.f (N:Nat)(b:Int):Option (List Int):=
 Q110.l3 N N b 1 []
  (fun a=>
   some a)
noncomputable def Q111.l4 {R:Type}(N:Nat):Nat→List Int→Int→List Int→(List Int→Option R)→Option R
 |0,_,_,_,_=>none
 |n+1,b,a,c,d=>
  bif decide (a<(b.length/3:Int))then
   bif (decide (0≤a))&&(decide (a<(b.length/3:Int)))then
    (Q109.f N (b.getD (a.toNat*3) 0) (b.getD ((a.toNat*3)+1) 0) (b.getD ((a.toNat*3)+2) 0)).bind fun e=>
    bif e==1 then
     bif (decide (0≤a))&&(decide (a<(b.length/3:Int)))then
      bif fB ((c.length+3)/3) 24 then
       Q111.l4 N n b (aA (a+1)) (c++[b.getD (a.toNat*3) 0,b.getD ((a.toNat*3)+1) 0,b.getD ((a.toNat*3)+2) 0]) d
      else none
     else none
    else
    Q111.l4 N n b (aA (a+1)) c d
   else none
  else
  d c
noncomputable def Q111.f (N:Nat)(a:Int):Option (List Int):=
 (Q110.f N a).bind fun b=>
 Q111.l4 N N b 0 []
  (fun c=>
   some c)
end Go.Proofs.YtjpdjdhdchjcgaaGreat
namespace Go.Proofs.YtjpdjdhdchjcgaaGreat.Ev
open Go.Shelf Go.RowKit Go.Lib Go.Sort
abbrev R3:=Int×Int×Int
def oW (x y:R3):Bool:=decide (x.1<y.1)||(x.1==y.1&&(decide (x.2.1<y.2.1)||(x.2.1==y.2.1&&decide (x.2.2≤y.2.2))))
def sT (x y:R3):Int:=
 if x.1<y.1 then-1 else if y.1<x.1 then 1 else
 if x.2.1<y.2.1 then-1 else if y.2.1<x.2.1 then 1 else
 if x.2.2<y.2.2 then-1 else if y.2.2<x.2.2 then 1 else 0
def ox (x:R3):List R3→List R3
 | []=>[x]
 |y::r=>bif oW x y then x::y::r else y::ox x r
def jP:List R3→List R3
 | []=>[]
 |x::r=>ox x (jP r)
def iF:List Int→List R3
 |a::b::c::r=>(a,b,c)::iF r
 |_=>[]
def dB:List R3→List Int
 | []=>[]
 |x::r=>x.1::x.2.1::x.2.2::dB r
def bk (l:List Int):List Int:=dB (jP (iF l))
theorem kJ (x y:R3):oW x y=true↔(x.1<y.1∨x.1=y.1∧(x.2.1<y.2.1∨x.2.1=y.2.1∧x.2.2≤y.2.2)):=by
 simp[oW]
theorem ag (x y:R3):oW x y=true∨oW y x=true:=by
 rw[kJ,kJ];omega
theorem ah {x y z:R3}(h:oW x y=true)(k:oW y z=true):oW x z=true:=by
 rw[kJ]at*;omega
theorem jv {x y:R3}(h:oW x y=true)(k:oW y x=true):x=y:=by
 rw[kJ]at*;exact Prod.ext (by omega) (Prod.ext (by omega) (by omega))
theorem rR (x y:R3):ltOf sT x y= !(oW y x):=by
 unfold ltOf sT;rw[Bool.eq_iff_iff];simp only[decide_eq_true_eq,Bool.not_eq_true',←Bool.not_eq_true,kJ]
 repeat' split
 all_goals omega
theorem cU (x:R3):∀l,(ox x l).Perm (x::l)
 | []=>.refl _
 |y::r=>by
  unfold ox;cases oW x y
  ·exact((cU x r).cons y).trans (.swap _ _ _)
  ·exact .refl _
theorem tU:∀l,(jP l).Perm l
 | []=>.refl _
 |x::r=>(cU x _).trans ((tU r).cons x)
theorem dV (x:R3):∀l,l.Pairwise (fun a b=>oW a b=true)→(ox x l).Pairwise (fun a b=>oW a b=true)
 | [],_=>by simp[ox]
 |y::r,h=>by
  obtain⟨h1,h2⟩:=hB.mp h;unfold ox;cases hxy:oW x y
  ·refine hB.mpr ⟨fun z hz=>?_,dV x r h2⟩;rcases List.mem_cons.mp ((cU x r).mem_iff.mp hz)with rfl|hz
   ·exact(ag z y).resolve_left (by rw[hxy];simp)
   ·exact h1 z hz
  ·refine hB.mpr ⟨fun z hz=>?_,h⟩;rcases List.mem_cons.mp hz with rfl|hz
   ·exact hxy
   ·exact ah hxy (h1 z hz)
theorem tV:∀l,(jP l).Pairwise (fun a b=>oW a b=true)
 | []=>.nil
 |x::r=>dV x _ (tV r)
theorem mL {l m:List R3}(h:l.Perm m)(hs:l.Pairwise (fun a b=>oW a b=true)):l=jP m:=
 List.Perm.eq_of_pairwise (le:=fun a b=>oW a b=true) (fun a b _ _ h1 h2=>jv h1 h2) hs (tV m) (h.trans (tU m).symm)
theorem xx (d:List R3):(d.mergeSort fun x y=>!(ltOf sT) y x)=jP d:=by
 have e:(fun x y=>!(ltOf sT) y x)=oW:=by funext x y;rw[rR];simp
 rw[e];exact mL (List.mergeSort_perm d oW) (List.pairwise_mergeSort (le:=oW) (fun a b c h k=>ah h k) (fun a b=>by simpa using ag a b) d)
theorem Hp:SWO (ltOf sT) where
 irrefl x:=by rw[rR,zA,kJ];omega
 trans x y z h1 h2:=by rw[rR,Bool.not_eq_true',←Bool.not_eq_true,kJ]at*;omega
 ntrans x y z h1 h2:=by rw[rR,zA,kJ]at*;omega
theorem Hq (x y:R3)(h:(ltOf sT) x y=false)(k:(ltOf sT) y x=false):x=y:=by
 rw[rR,zA]at*;exact jv k h
theorem iY:∀l:List Int,l.length%3=0→dB (iF l)=l
 | [],_=>rfl
 | [_],h=>by simp at h
 | [_,_],h=>by simp at h
 |a::b::c::r,h=>by
  have h':r.length%3=0:=by simp only[iB]at h;omega
  simp only[iF,dB];rw[iY r h']
theorem xN:∀l:List R3,iF (dB l)=l
 | []=>rfl
 |x::r=>by simp only[iF,dB,xN r]
theorem lF:∀l:List R3,(dB l).length=l.length*3
 | []=>rfl
 |x::r=>by simp only[dB,iB,lF r];omega
theorem sV (l:List R3):(jP l).length=l.length:=(tU l).length_eq
theorem wN:∀l:List Int,(iF l).length=l.length/3
 | []=>rfl
 | [_]=>by simp[iF]
 | [_,_]=>by simp[iF]
 |a::b::c::r=>by simp only[iF,iB,wN r];omega
theorem bT {l:List Int}(h:l.length%3=0):(bk l).length=l.length:=by
 unfold bk;rw[lF,sV,wN];omega
theorem iJ:∀a b:List R3,dB (a++b)=dB a++dB b
 | [],_=>rfl
 |x::r,b=>by simp only[List.cons_append,dB,iJ r b]
def iM (x:R3):List Value:=[.int .i64 x.1,.int .i64 x.2.1,.int .i64 x.2.2]
theorem kM:∀(d:List R3) (t:Nat),t<d.length*3→(dB d)[t]?=match t%3 with|0=>d[t/3]?.map (·.1)|1=>d[t/3]?.map (·.2.1)|_=>d[t/3]?.map (·.2.2)
 | [],t,h=>by simp at h
 |x::r,0,_=>rfl
 |x::r,1,_=>rfl
 |x::r,2,_=>rfl
 |x::r,t+3,h=>by
  have h3:(t+3)%3=t%3:=by omega
  have h4:(t+3)/3=t/3+1:=by omega
  have ih:=kM r t (by simp at h;omega);simp only[dB,zB];rw[ih,h3,h4];simp only[zB]
theorem Aj (d:List R3)(t:Nat)(h:t<d.length*3):(flatK iM 3 d.toArray)[t]! = .int .i64 ((dB d).getD t 0):=by
 rw[get_flatK _ _ _ _ (by simpa using h),List.getD_eq_getElem?_getD,kM d t h];have hlt:t/3<d.length:=by omega
 have hm:t%3=0∨t%3=1∨t%3=2:=by omega
 simp only[List.getElem?_eq_getElem hlt,Option.map_some];have hd:d.toArray[t/3]! =d[t/3]:=by rw[getElem!_pos d.toArray (t/3) (by simpa using hlt)];simp
 rw[hd];rcases hm with h0|h0|h0<;>rw[h0]<;>simp[iM]
section
variable {P:Program}{F:Nat→Prop}{ρ:pD}{h:Nat→rA}{w:World}
theorem mA.grow (hh:mA F ρ h w)(os:Array Obj):mA F ρ h (Go.Sort.grow w os)∧yH (jA ρ h) w (jA ρ h) (Go.Sort.grow w os):=by
 have hext:yH (jA ρ h) w (jA ρ h) (Go.Sort.grow w os):=by refine⟨by simp[Go.Sort.grow],fun b hb _=>?_,fun b hb=>.inl hb,⟨rfl,rfl,rfl,Nat.le_refl _⟩⟩;simp only[Go.Sort.grow];rw[hA hb]
 refine⟨⟨hh.wf,fun id hl=>?_,hh.inj,hh.low' hext,hh.out⟩,hext⟩;obtain⟨p,hp,hb⟩:=hh.rel id hl;refine⟨p,hp,oB.mono (oO.refl _) hext hb ?_⟩;intro b hb';obtain⟨pb,pn,pC⟩:=p;dsimp only at hb';subst hb';have hlt:=jA.lt hh ⟨id,pn,pC,hp,hl⟩;simp only[Go.Sort.grow];rw[hA hlt]
theorem nu {g:Nat}(hs:∀x y:R3,fA P g [.agg [.c (.int .i64 x.1),.c (.int .i64 x.2.1),.c (.int .i64 x.2.2)],.agg [.c (.int .i64 y.1),.c (.int .i64 y.2.1),.c (.int .i64 y.2.2)]] [] (.c (.int .i64 (sT x y))) [])(blk off size:Nat)(w:World):
  CmpLays P g #[] iM 3 sT blk off size w:=by
 intro m os dk hsz x y;generalize sortWorldK iM 3 w blk off m dk os=W;have h0:mA (fun _=>False) (fun _=>none) (nA []) W:=⟨fun _ _ hx=>(by cases hx),fun id hl=>(by simp[nA,rA.live]at hl),fun i j b n C n' C' hi=>(by simp[nA,rA.live]at hi),fun _ hb=>hb.elim,fun _ _ hb=>hb.elim⟩
 have hc:=(hs x y).calls (fun _=>False) (fun _=>none) W [.agg (iM x).toArray,.agg (iM y).toArray] h0 (fun _ _=>rfl) (by simp only[lA,and_true];refine⟨?_,?_⟩<;>(simp only[pA];refine⟨_,rfl,?_⟩;simp[iM,lA,pA]));refine Calls.mono (by simpa using hc) ?_;rintro e w' ⟨v',rfl,ρ',_,_,hH,hv,hext⟩;have:=hv.c;subst this;refine⟨rfl,w'.drawn-W.drawn,w'.heap.extract W.heap.size w'.heap.size,?_⟩;have hk:=hext.keeps;have hheap:w'.heap=W.heap++w'.heap.extract W.heap.size w'.heap.size:=by
  apply Array.ext_getElem?;intro i;by_cases hi:i<W.heap.size
  ·rw[hA hi];exact hext.same i hi (fun⟨id,n,C,h1,_⟩=>by cases h1)
  ·rw[Array.getElem?_append_right (by omega)];have hsz:=hext.size;simp only[Array.getElem?_extract];by_cases h2:i<w'.heap.size
   ·rw[if_pos (by omega)];congr 1;omega
   ·rw[if_neg (by omega),Array.getElem?_eq_none (by omega)]
 have hd:=hk.drawn;obtain⟨hp',t',d',o',u'⟩:=w';obtain⟨hp,t,d0,o,u⟩:=W;obtain⟨k1,k2,k3,k4⟩:=hk;simp only at k1 k2 k3 k4 hheap hd⊢;subst k1 k2 k3;simp only[Go.Sort.grow,World.drewN,World.mk.injEq,true_and,and_true];exact⟨hheap,by omega⟩
theorem fw (d:List R3)(c:Array Value)(i:Nat):(putCells id 0 (flatK iM 3 d.toArray) c)[i]?=if i<d.length*3 then c[i]?.map (fun _=>.int .i64 ((dB d).getD i 0))else c[i]?:=by
 simp only[putCells,Array.getElem?_mapIdx,size_flatK,List.size_toArray,Nat.zero_le,true_and,Nat.zero_add,Nat.sub_zero,id_eq];by_cases hi:i<d.length*3
 ·simp only[hi,if_true];rw[Aj d i hi]
 ·simp only[hi,if_false];cases c[i]?<;>rfl
theorem xw {R:Ren}(L:SlLaysF0.n6 P R)(aE:∀w,(isAgg (R.t 24)).run P w= .ok true w)(zE:∀w,(Go.sizeOf (R.t 24)).run P w= .ok 3 w)(hcall:nO P (R.f 6)){g:Nat}(eg:∀args w,(callFunc g args).run P w= .ok (.enter g args) w)
  (hs:∀x y:R3,fA P g [.agg [.c (.int .i64 x.1),.c (.int .i64 x.2.1),.c (.int .i64 x.2.2)],.agg [.c (.int .i64 y.1),.c (.int .i64 y.2.1),.c (.int .i64 y.2.2)]] [] (.c (.int .i64 (sT x y))) [])(l:List Int)(hsz:l.length<4611686018427387904):
  fA P (R.f 6) [.sw 0 3,.fn g [] []] [.ints .i64 l] (.c (.tuple #[])) [.ints .i64 (bk l)]:=by
 refine⟨hcall,?_⟩;intro F ρ w args' hH hn hr;obtain⟨v0,v1,rfl⟩:∃a b,args'=[a,b]:=by
  have:=hr.length;simp at this
  match args',this with
  | [a,b],_=>exact⟨a,b,rfl⟩
 simp only[lA,and_true]at hr;obtain⟨hr0,hr1⟩:=hr;have hf:v1= .func (.func g) #[] #[]:=by simp only[pA]at hr1;obtain⟨va,vc,rfl,ha,hc⟩:=hr1;have ha:=ha.length;have hc:=hc.length;simp at ha hc;rw[show va= #[]from iA (by simpa using ha.symm),show vc= #[]from iA (by simpa using hc.symm)]
 subst hf;have hl0:(nA [rA.ints .i64 l] 0).live:=trivial;have hb0:nA [rA.ints .i64 l] 0= .ints .i64 l:=rfl;have hset:∀x,mB (nA [rA.ints .i64 l]) 0 x=nA [x]:=by intro x;funext j;cases j<;>simp[mB,nA]
 obtain⟨_,⟨b,n,C,cap,c,h1,h2,h3,h4,h5,ho,hszc,hold⟩|⟨h1,h2,hk⟩⟩:=uG hH hr0 hl0 trivial
 ·subst h5;rw[hb0]at hold;obtain⟨k1,k2,k3⟩:=hold;have hmod:l.length%3=0:=by rw[k1];exact h2
  obtain⟨e,fr,g1,g2,g3⟩:=ho;have hblt:b<w.heap.size:=(Array.getElem?_eq_some_iff.mp g1).1;have hfl:=iY l hmod;have hdl:(iF l).length*3=n:=by rw[wN,←k1];omega
  have hH3:HoldsK iM 3 w b 0 (iF l).toArray:=by
   intro j hj;rw[size_flatK]at hj;have hj':j<(iF l).length*3:=by simpa using hj
   have hjl:j<l.length:=by omega
   rw[Aj _ _ hj',hfl];have hc:=k3 j hjl;refine⟨by simp[World.cell?,g1,hc],?_⟩;simp only[World.frozen?,g1,Nat.zero_add];have:=g3 j (by omega);simp only[Bool.and_eq_false_iff,decide_eq_false_iff_not];omega
  have hsize:(iF l).toArray.size=n/3:=by simp;omega
  have hcon:=AnyQ.slices_SortFunc_total L 3 aE zE iM (fun _=>rfl) (fun x v hv=>by simp[iM]at hv;rcases hv with rfl|rfl|rfl<;>rfl) sT Hp g #[] b 0 cap (iF l).toArray w eg (nu hs b 0 _ w) hH3 hblt (by simp only[hsize];omega) Hq;rw[hsize]at hcon;refine Calls.mono hcon ?_;rintro e' w' ⟨rfl,m,os,rfl⟩;rw[List.toList_toArray,xx];refine⟨_,rfl,ρ,fun _ _=>rfl,hn,?_⟩;have hlen3:(jP (iF l)).length*3=n:=by rw[sV,hdl]
  have hheap:(putRowK iM 3 (Sort.ahead w m) b 0 (jP (iF l)).toArray).heap=w.heap.modify b (onCells (putCells id 0 (flatK iM 3 (jP (iF l)).toArray))):=rfl;have hown:iq (putRowK iM 3 (Sort.ahead w m) b 0 (jP (iF l)).toArray) b (putCells id 0 (flatK iM 3 (jP (iF l)).toArray) c).size (putCells id 0 (flatK iM 3 (jP (iF l)).toArray) c):=by refine⟨e,fr,?_,rfl,fun i hi=>g3 i (by simp[putCells]at hi;omega)⟩;rw[hheap,hC,if_pos rfl,g1];rfl
  have hcs:(putCells id 0 (flatK iM 3 (jP (iF l)).toArray) c).size=c.size:=by simp[putCells]
  have hp:ρ 0=some ⟨some b,n,(putCells id 0 (flatK iM 3 (jP (iF l)).toArray) c).size⟩:=by rw[hcs,hszc];exact h1
  have hholds:jD ρ (av F (jA ρ (nA [rA.ints .i64 l]))) w n (putCells id 0 (flatK iM 3 (jP (iF l)).toArray) c) (.ints .i64 (bk l)):=by
   refine⟨by rw[bT hmod,k1],by rw[hcs];exact k2,fun i hi=>?_⟩;rw[bT hmod]at hi;rw[fw,if_pos (by omega)];have:i<c.size:=by omega
   rw[Array.getElem?_eq_getElem this,Option.map_some];rfl
  obtain⟨q1,q2⟩:=mA.write (w':=putRowK iM 3 (Sort.ahead w m) b 0 (jP (iF l)).toArray) hH hl0 hp ⟨by rw[hheap];simp,⟨rfl,rfl,rfl,Nat.le_add_right _ _⟩⟩ (fun b' hb'=>by rw[hheap,hC,if_neg (Ne.symm hb')]) hown hholds;rw[hset]at q1 q2;obtain⟨q3,q4⟩:=q1.grow os;exact⟨q3,pA.of_c _,q2.trans q4⟩
 ·subst h2;rw[hb0]at hk;have hl:l=[]:=by rcases hk with⟨k2,hk2⟩|hk2<;>cases hk2;rfl
  subst hl;have hcon:=AnyF.slices_SortFunc_none L none 0 (.func (.func g) #[] #[]) w;refine Calls.mono hcon ?_;rintro e' w' ⟨rfl,rfl⟩;exact⟨_,rfl,ρ,fun _ _=>rfl,hn,hH,pA.of_c _,yH.refl _ _⟩
end
end Go.Proofs.YtjpdjdhdchjcgaaGreat.Ev
namespace Go.Proofs.YtjpdjdhdchjcgaaGreat
open Go.Proofs.YtjpdjdhdchjcgaaGreat.Ev Go.Shelf
open Go
set_option maxRecDepth 100000
def xu:Go.Shelf.Ren:=⟨fun|6=>58|15=>81|14=>80|28=>115|29=>116|20=>107|21=>108|22=>109|23=>110|24=>111|25=>112|26=>113|27=>114|46=>140|47=>141|48=>142|49=>143|50=>144|57=>156|n=>n,fun|22=>23|24=>33|25=>90|3=>3|39=>79|0=>0|53=>143|55=>78|4=>4|46=>136|45=>135|50=>140|5=>5|9=>9|66=>163|70=>167|76=>179|77=>180|n=>n,fun|n=>n⟩
theorem Gw:Go.Proofs.SlLaysF0.n6 Tryz.prog xu:={
 mixed:=by kernel_rfl
 f6:=⟨Tryz.f58.name,by decide,Tryz.func58.trans (congrArg some (by kernel_rfl))⟩
 f14:=⟨Tryz.f80.name,by decide,Tryz.func80.trans (congrArg some (by kernel_rfl))⟩
 f15:=Tryz.func81.trans (congrArg some (by kernel_rfl))
 f20:=⟨Tryz.f107.name,by decide,Tryz.func107.trans (congrArg some (by kernel_rfl))⟩
 f21:=⟨Tryz.f108.name,by decide,Tryz.func108.trans (congrArg some (by kernel_rfl))⟩
 f22:=⟨Tryz.f109.name,by decide,Tryz.func109.trans (congrArg some (by kernel_rfl))⟩
 f23:=⟨Tryz.f110.name,by decide,Tryz.func110.trans (congrArg some (by kernel_rfl))⟩
 f24:=⟨Tryz.f111.name,by decide,Tryz.func111.trans (congrArg some (by kernel_rfl))⟩
 f25:=⟨Tryz.f112.name,by decide,Tryz.func112.trans (congrArg some (by kernel_rfl))⟩
 f26:=⟨Tryz.f113.name,by decide,Tryz.func113.trans (congrArg some (by kernel_rfl))⟩
 f27:=⟨Tryz.f114.name,by decide,Tryz.func114.trans (congrArg some (by kernel_rfl))⟩
 f28:=Tryz.func115.trans (congrArg some (by kernel_rfl))
 f29:=Tryz.func116.trans (congrArg some (by kernel_rfl))
 f46:=⟨Tryz.f140.name,by decide,Tryz.func140.trans (congrArg some (by kernel_rfl))⟩
 f47:=Tryz.func141.trans (congrArg some (by kernel_rfl))
 f48:=Tryz.func142.trans (congrArg some (by kernel_rfl))
 f49:=⟨Tryz.f143.name,by decide,Tryz.func143.trans (congrArg some (by kernel_rfl))⟩
 f50:=⟨Tryz.f144.name,by decide,Tryz.func144.trans (congrArg some (by kernel_rfl))⟩
 f57:=⟨Tryz.f156.name,by decide,Tryz.func156.trans (congrArg some (by kernel_rfl))⟩
 t0:=Tryz.underlying0
 a0:=Tryz.isAgg0
 z0:=Tryz.sizeOf0
 v0:=Tryz.zeroValue0
 t3:=Tryz.underlying3
 a3:=Tryz.isAgg3
 z3:=Tryz.sizeOf3
 v3:=Tryz.zeroValue3
 t4:=Tryz.underlying4
 a4:=Tryz.isAgg4
 z4:=Tryz.sizeOf4
 v4:=Tryz.zeroValue4
 t5:=Tryz.underlying5
 a5:=Tryz.isAgg5
 z5:=Tryz.sizeOf5
 v5:=Tryz.zeroValue5
 t9:=Tryz.underlying9
 a9:=Tryz.isAgg9
 z9:=Tryz.sizeOf9
 v9:=Tryz.zeroValue9
 t22:=Tryz.underlying23
 a22:=Tryz.isAgg23
 z22:=Tryz.sizeOf23
 v22:=Tryz.zeroValue23
 t25:=Tryz.underlying90
 a25:=Tryz.isAgg90
 z25:=Tryz.sizeOf90
 v25:=Tryz.zeroValue90
 t39:=Tryz.underlying79
 a39:=Tryz.isAgg79
 z39:=Tryz.sizeOf79
 v39:=Tryz.zeroValue79
 t45:=Tryz.underlying135
 a45:=Tryz.isAgg135
 z45:=Tryz.sizeOf135
 v45:=Tryz.zeroValue135
 t46:=Tryz.underlying136
 a46:=Tryz.isAgg136
 z46:=Tryz.sizeOf136
 v46:=Tryz.zeroValue136
 t50:=Tryz.underlying140
 a50:=Tryz.isAgg140
 z50:=Tryz.sizeOf140
 v50:=Tryz.zeroValue140
 t53:=Tryz.underlying143
 a53:=Tryz.isAgg143
 z53:=Tryz.sizeOf143
 v53:=Tryz.zeroValue143
 t55:=Tryz.underlying78
 a55:=Tryz.isAgg78
 z55:=Tryz.sizeOf78
 v55:=Tryz.zeroValue78
 t66:=Tryz.underlying163
 a66:=Tryz.isAgg163
 z66:=Tryz.sizeOf163
 v66:=Tryz.zeroValue163
 t70:=Tryz.underlying167
 a70:=Tryz.isAgg167
 z70:=Tryz.sizeOf167
 v70:=Tryz.zeroValue167
 t76:=Tryz.underlying179
 a76:=Tryz.isAgg179
 z76:=Tryz.sizeOf179
 v76:=Tryz.zeroValue179
 t77:=Tryz.underlying180
 a77:=Tryz.isAgg180
 z77:=Tryz.sizeOf180
 v77:=Tryz.zeroValue180}
theorem Du (a b c:Int):Q103.f 10 [a,b,c]=some (if a≠0 then a else if b≠0 then b else c):=by
 unfold Q103.f;have w1:aA (0+1)=1:=by decide
 have w2:aA (1+1)=2:=by decide
 have w3:aA (2+1)=3:=by decide
 simp only[Q103.l3,w1,w2,w3];have e:∀x:Int,¬x=0→(x != 0)=true:=fun x hx=>by simpa using hx
 by_cases h1:a=0<;>by_cases h2:b=0<;>by_cases h3:c=0<;>simp[h1,h2,h3,e]
theorem cN (N:Nat)(a b:Int):Q102.f N a b=some (if a<b then-1 else if b<a then 1 else 0):=by
 unfold Q102.f Q101.f;by_cases h1:a<b<;>by_cases h2:b<a<;>simp[h1,h2]
theorem A9 (x y:R3):Q104.f 10 x.1 x.2.1 x.2.2 y.1 y.2.1 y.2.2=some (sT x y):=by
 unfold Q104.f sT;rw[cN,cN,cN];simp only[Option.bind_some,Du];congr 1
 repeat' split
 all_goals omega
noncomputable def Q112.f (N:Nat)(l:List Int):Option (List Int):=bif Nat.blt l.length 4611686018427387904 then some (bk l)else none
noncomputable def Q112.ent (N:Nat):xA:={A:=List Int,fresh:=0,imm:=[false,false],dec:=fun args bs=>match args,bs with
 | [.sw 0 3,.fn g [] []],[.ints .i64 l]=>bif Nat.beq g 59 then some (Q112.f N l,fun r=>.one (.c (.tuple #[])) [.ints .i64 r])else none
 |_,_=>none}
theorem Q112.ent_ok (N:Nat):uA Tryz.prog 58 (Q112.ent N):=by
 intro args bs a enc h;simp only[Q112.ent]at h;split at h
 ·rename_i g l;obtain⟨hg,h⟩:=kA h;have hg:=rB hg;subst hg;have h0:=Option.some.inj h;have h1:=congrArg Prod.fst h0;have h2:=congrArg Prod.snd h0;dsimp only at h1 h2;subst h2;unfold Q112.f at h1;obtain⟨hl,h1⟩:=kA h1;obtain rfl:=Option.some.inj h1;exact xw Gw Tryz.isAgg33 Tryz.sizeOf33 ⟨_,Tryz.func58,by kernel_rfl,by kernel_rfl⟩ (enters_of Tryz.func59 (by kernel_rfl) rfl) (fun x y=>Q104.spec 10 _ _ _ _ _ _ _ (A9 x y)) l (fD hl)
 ·cases h
end Go.Proofs.YtjpdjdhdchjcgaaGreat
