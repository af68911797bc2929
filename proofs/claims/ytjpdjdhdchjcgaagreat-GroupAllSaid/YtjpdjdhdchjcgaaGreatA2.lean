import Derived.Test.YtjpdjdhdchjcgaaGreatA1
import Derived.Test.YtjpdjdhdchjcgaaGreatProg
import Derived.KernelRfl
import Derived.Shelf.SlSortCmp.NoneTotal
import Derived.Shelf.SlGeneric
open Array renaming getElem?_append_left→hA,eq_empty_of_size_eq_zero→iA,getElem?_modify→hC
open Bool renaming not_eq_false'→zA
open List renaming pairwise_cons→hB,length_cons→iB,getElem?_cons_succ→zB
set_option linter.unusedVariables false
set_option linter.unusedSimpArgs false
namespace Go.Proofs.YtjpdjdhdchjcgaaGreat
open Go.Proofs.YtjpdjdhdchjcgaaGreat.Ev
open Go
set_option maxRecDepth 100000
def zH:ByteArray:=⟨#[0,1,2,2,3,3,3,3,4,4,4,4,4,4,4,4,5,5,5,5,5,5,5,5,5,5,5,5,5,5,5,5,6,6,6,6,6,6,6,6,6,6,6,6,6,6,6,6,6,6,6,6,6,6,6,6,6,6,6,6,6,6,6,6,7,7,7,7,7,7,7,7,7,7,7,7,7,7,7,7,7,7,7,7,7,7,7,7,7,7,7,7,7,7,7,7,7,7,7,7,7,7,7,7,7,7,7,7,7,7,7,7,7,7,7,7,7,7,7,7,7,7,7,7,7,7,7,7,8,8,8,8,8,8,8,8,8,8,8,8,8,8,8,8,8,8,8,8,8,8,8,8,8,8,8,8,8,8,8,8,8,8,8,8,8,8,8,8,8,8,8,8,8,8,8,8,8,8,8,8,8,8,8,8,8,8,8,8,8,8,8,8,8,8,8,8,8,8,8,8,8,8,8,8,8,8,8,8,8,8,8,8,8,8,8,8,8,8,8,8,8,8,8,8,8,8,8,8,8,8,8,8,8,8,8,8,8,8,8,8,8,8,8,8,8,8,8,8,8,8,8,8,8,8,8,8]⟩
noncomputable def Ci:TI:=⟨.int .i64,1,8,[.int .i64 0]⟩
noncomputable def Hl:TI:=⟨.int .u8,1,1,[.int .u8 0]⟩
noncomputable def Hn:TI:=⟨.str,1,16,[.string ByteArray.empty]⟩
noncomputable def bQ:TI:=⟨.int .u64,1,8,[.int .u64 0]⟩
noncomputable def yN:TI:=⟨.slice 143,1,24,[.slice none 0 0]⟩
noncomputable def eF:TI:=⟨.struct [(98,0)],1,24,[.slice none 0 0]⟩
noncomputable def wI:TI:=⟨.int .u32,1,4,[.int .u32 0]⟩
theorem bA:Tryz.prog.follows .mixedOrders=true:=by kernel_rfl
theorem sL:uC Tryz.prog 3 Ci:=fD (by kernel_rfl) (by kernel_rfl) (by kernel_rfl) (by kernel_rfl) (by kernel_rfl) (by kernel_rfl) (by kernel_rfl) (Tryz.underlying3) (by kernel_rfl)
theorem Cj:uC Tryz.prog 5 Hl:=fD (by kernel_rfl) (by kernel_rfl) (by kernel_rfl) (by kernel_rfl) (by kernel_rfl) (by kernel_rfl) (by kernel_rfl) (Tryz.underlying5) (by kernel_rfl)
theorem Cm:uC Tryz.prog 9 Hn:=fD (by kernel_rfl) (by kernel_rfl) (by kernel_rfl) (by kernel_rfl) (by kernel_rfl) (by kernel_rfl) (by kernel_rfl) (Tryz.underlying9) (by kernel_rfl)
theorem nF:uC Tryz.prog 78 bQ:=fD (by kernel_rfl) (by kernel_rfl) (by kernel_rfl) (by kernel_rfl) (by kernel_rfl) (by kernel_rfl) (by kernel_rfl) (Tryz.underlying78) (by kernel_rfl)
theorem nE:uC Tryz.prog 98 yN:=fD (by kernel_rfl) (by kernel_rfl) (by kernel_rfl) (by kernel_rfl) (by kernel_rfl) (by kernel_rfl) (by kernel_rfl) (Tryz.underlying98) (by kernel_rfl)
theorem gC:uC Tryz.prog 110 eF:=fD (by kernel_rfl) (by kernel_rfl) (by kernel_rfl) (by kernel_rfl) (by kernel_rfl) (by kernel_rfl) (by kernel_rfl) (mI Tryz.underlying110 (by kernel_rfl) (by kernel_rfl)) (by kernel_rfl)
theorem zD:uC Tryz.prog 143 wI:=fD (by kernel_rfl) (by kernel_rfl) (by kernel_rfl) (by kernel_rfl) (by kernel_rfl) (by kernel_rfl) (by kernel_rfl) (Tryz.underlying143) (by kernel_rfl)
noncomputable def Q0.f (N:Nat)(a1:Int):Option (Int):=
 bif decide (a1≥65536)then
  bif decide ((Int.fdiv a1 (2^16))≥256)then
   bif (decide (0≤(rM (Int.fdiv (Int.fdiv a1 (2^16)) (2^8)))))&&(decide ((rM (Int.fdiv (Int.fdiv a1 (2^16)) (2^8)))<(zH.size:Int)))then
    some (aA (24+(aA (wF zH ((rM (Int.fdiv (Int.fdiv a1 (2^16)) (2^8))).toNat)))))
   else none
  else
  bif (decide (0≤(rM (Int.fdiv a1 (2^16)))))&&(decide ((rM (Int.fdiv a1 (2^16)))<(zH.size:Int)))then
   some (aA (16+(aA (wF zH ((rM (Int.fdiv a1 (2^16))).toNat)))))
  else none
 else
 bif decide (a1≥256)then
  bif (decide (0≤(rM (Int.fdiv a1 (2^8)))))&&(decide ((rM (Int.fdiv a1 (2^8)))<(zH.size:Int)))then
   some (aA (8+(aA (wF zH ((rM (Int.fdiv a1 (2^8))).toNat)))))
  else none
 else
 bif (decide (0≤(rM a1)))&&(decide ((rM a1)<(zH.size:Int)))then
  some (aA (0+(aA (wF zH ((rM a1).toNat)))))
 else none
noncomputable def Q0.E (N:Nat):bD:=xE [(3,Ci),(5,Hl),(9,Hn),(143,wI)] [] [] [] N [.tmp 2] [.any] 0 19
noncomputable def Q0.dec (v:V)(bs:List rA):Option (Int):=match v,bs with
 | .c (.int .i64 z0),[]=>some z0
 |_,_=>none
theorem Q0.f_eq (N:Nat)(a1:Int):
  cB (Q0.E N) (bo Tryz.f115) [.c (.int .u32 a1)] [] Q0.dec=Q0.f N a1:=by kernel_rfl
noncomputable def Q0.ent (N:Nat):xA:=tF (Int) 0 [true] [.any] fun
 | [.c (.int .u32 a1)]=>some (Q0.f N a1,fun r=>.one (.c (.int .i64 r)) [])
 |_=>none
theorem Q0.env (N:Nat):aB Tryz.prog (Q0.E N):=⟨(.cons sL (.cons Cj (.cons Cm (.cons zD .nil)))),.nil⟩
theorem Q0.spec (N:Nat)(a1 r:Int)(h:Q0.f N a1=some r):fA Tryz.prog 115 [.c (.int .u32 a1)] [] (.c (.int .i64 r)) ([]):=vA (Q0.env N) bA Tryz.func115 cA.n ((Q0.f_eq ..).trans h) fun v b e=>by unfold Q0.dec at e;split at e<;>cases e;exact⟨rfl,rfl⟩
theorem Q0.ent_ok (N:Nat):uA Tryz.prog 115 (Q0.ent N):=yA fun v a e h=>by split at h;exact mC (Q:=fun e=>fA _ _ _ _ (e a).pick.1 (e a).pick.2) h fun k=>Q0.spec N _ a k;cases h
noncomputable def Q1.f (N:Nat)(a1 a2 a3:Int):Option (Int×Int):=
 some (nB ((nB (a1-a2))-a3),Int.fdiv (vD .u32 (fC .u32 (xV .u32 4294967295 a1) a2) (fC .u32 (xV .u32 4294967295 (xV .u32 a1 a2)) (nB ((nB (a1-a2))-a3)))) (2^31))
noncomputable def Q1.E (N:Nat):bD:=xE [] [] [] [] N [.tmp 6,.tmp 7] [.any,.any] 0 25
noncomputable def Q1.dec (v:V)(bs:List rA):Option (Int×Int):=match v,bs with
 | .tup [.c (.int .u32 z0),.c (.int .u32 z1)],[]=>some (z0,z1)
 |_,_=>none
theorem Q1.f_eq (N:Nat)(a1 a2 a3:Int):
  cB (Q1.E N) (bo Tryz.f172) [.c (.int .u32 a1),.c (.int .u32 a2),.c (.int .u32 a3)] [] Q1.dec=Q1.f N a1 a2 a3:=by kernel_rfl
noncomputable def Q1.ent (N:Nat):xA:=tF (Int×Int) 0 [true,true,true] [.any,.any,.any] fun
 | [.c (.int .u32 a1),.c (.int .u32 a2),.c (.int .u32 a3)]=>some (Q1.f N a1 a2 a3,fun r=>.one (.tup [.c (.int .u32 r.1),.c (.int .u32 r.2)]) [])
 |_=>none
theorem Q1.env (N:Nat):aB Tryz.prog (Q1.E N):=⟨.nil,.nil⟩
theorem Q1.spec (N:Nat)(a1 a2 a3:Int)(r:Int×Int)(h:Q1.f N a1 a2 a3=some r):fA Tryz.prog 172 [.c (.int .u32 a1),.c (.int .u32 a2),.c (.int .u32 a3)] [] (.tup [.c (.int .u32 r.1),.c (.int .u32 r.2)]) ([]):=vA (Q1.env N) bA Tryz.func172 cA.n ((Q1.f_eq ..).trans h) fun v b e=>by unfold Q1.dec at e;split at e<;>cases e;exact⟨rfl,rfl⟩
theorem Q1.ent_ok (N:Nat):uA Tryz.prog 172 (Q1.ent N):=yA fun v a e h=>by split at h;exact mC (Q:=fun e=>fA _ _ _ _ (e a).pick.1 (e a).pick.2) h fun k=>Q1.spec N _ _ _ a k;cases h
noncomputable def Q2.l2 {R:Type}(N:Nat):Nat→Nat→Nat→Int→List Int→(Nat→Nat→Int→List Int→Option R)→Option R
 |0,_,_,_,_,_=>none
 |n+1,x4,x5,x6,x7,k0=>
  bif decide (x6>0)then
   bif (decide (0≤(aA (x6-1))))&&(decide ((aA (x6-1))<(x5:Int)))then
    bif (x7.getD (x4+((aA (x6-1)).toNat)) 0)==0 then
     Q2.l2 N n x4 x5 (aA (x6-1)) x7 k0
    else
    k0 x4 x5 x6 x7
   else none
  else
  k0 x4 x5 x6 x7
noncomputable def Q2.f (N a1 a2:Nat)(a3:List Int):Option (Nat×Nat×List Int):=
 Q2.l2 N N a1 a2 (a2:Int) a3
  (fun y12 y13 y14 y15=>
   bif ((decide (0≤y14))&&(decide (y14≤y14)))&&(decide (y14≤(y13:Int)))then
    some (y12,y14.toNat,y15)
   else none)
noncomputable def Q2.h2:yC:=⟨[(0,.any),(2,.box [.any]),(3,.any)],[(0,.any),(2,.box [.any]),(3,.any)]⟩
noncomputable def Q2.c2 (N:Nat):uH:=⟨fun vs H k=>match vs,H with
 | [.sl 0 1 x4 x5,.ptr 1 0 1,.c (.int .i64 x6)],[.ints .u32 x7,.vals [.c (.slice none 0 0)]]=>Q2.l2 N N x4 x5 x6 x7 (fun x8 x9 x10 x11=>k (.exit 0) ⟨xC Q2.h2.out [.sl 0 1 x8 x9,.ptr 1 0 1,.c (.int .i64 x10)],[.ints .u32 x11,.vals [.c (.slice none 0 0)]]⟩)
 |_,_=>none⟩
noncomputable def Q2.E (N:Nat):bD:=xE [(98,yN),(110,eF),(143,wI)] [] [(2,Q2.h2)] [(2,Q2.c2 N)] N [.cell 2 110] [.recd [.any]] 1 23
noncomputable def Q2.b2:Code:=sA ((eA (bo Tryz.f152)).getD 0 .skip)
theorem Q2.l2_eq {R:Type}(N n x4 x5:Nat)(x6:Int)(x7:List Int)(k:Ex→St→Option R):
  gB 1 Q2.h2 (fun s k=>bB (Q2.E N) 395 Q2.b2 s k) n [.sl 0 1 x4 x5,.ptr 1 0 1,.c (.int .i64 x6)] [.ints .u32 x7,.vals [.c (.slice none 0 0)]] k=Q2.l2 N n x4 x5 x6 x7 (fun x8 x9 x10 x11=>k (.exit 0) ⟨xC Q2.h2.out [.sl 0 1 x8 x9,.ptr 1 0 1,.c (.int .i64 x10)],[.ints .u32 x11,.vals [.c (.slice none 0 0)]]⟩):=by
 induction n generalizing x4 x5 x6 x7 with
 |zero=>kernel_rfl
 |succ n ih=>
  simp only[Q2.l2,←ih]
  kernel_rfl
noncomputable def Q2.dec (v:V)(bs:List rA):Option (Nat×Nat×List Int):=match v,bs with
 | .agg [.sl 0 1 z0 z1],[.ints .u32 z2]=>some (z0,z1,z2)
 |_,_=>none
theorem Q2.f_eq (N a1 a2:Nat)(a3:List Int):
  cB (Q2.E N) (bo Tryz.f152) [.sl 0 1 a1 a2] [.ints .u32 a3] Q2.dec=Q2.f N a1 a2 a3:=by kernel_rfl
noncomputable def Q2.ent (N:Nat):xA:={A:=Nat×Nat×List Int,fresh:=0,imm:=[false],dec:=fun args bs=>match eG (nA bs) [true] args,bs with
 | [.sl 0 1 a1 a2],[.ints .u32 a3]=>some (Q2.f N a1 a2 a3,fun r=>.one (.agg [.sl 0 1 r.1 r.2.1]) [.ints .u32 r.2.2])
 |_,_=>none}
theorem Q2.env (N:Nat):aB Tryz.prog (Q2.E N):=⟨(.cons nE (.cons gC (.cons zD .nil))),.nil⟩
theorem Q2.k2 (N:Nat):uB Tryz.prog Tryz.f152 (Q2.E N) (.loop Q2.b2):=zC (Q2.env N) bA 395 (c:=Q2.c2 N) cA.n fun R vs H k r h=>by unfold Q2.c2 at h;dsimp only at h;split at h;exact⟨_,Q2.l2_eq .. ▸h⟩;cases h
theorem Q2.spec (N a1 a2:Nat)(a3:List Int)(r:Nat×Nat×List Int)(h:Q2.f N a1 a2 a3=some r):fA Tryz.prog 152 [.sl 0 1 a1 a2] [.ints .u32 a3] (.agg [.sl 0 1 r.1 r.2.1]) ([.ints .u32 r.2.2]):=vA (Q2.env N) bA Tryz.func152 (cA.of (l:=[(.loop (sA ((eA (bo Tryz.f152)).getD 0 .skip)))]) (by kernel_rfl) (cA.cons (Q2.k2 N) cA.nil)) ((Q2.f_eq ..).trans h) fun v b e=>by unfold Q2.dec at e;split at e<;>cases e;exact⟨rfl,rfl⟩
theorem Q2.ent_ok (N:Nat):uA Tryz.prog 152 (Q2.ent N):=by
 intro args bs a enc h;simp only[Q2.ent]at h;split at h
 ·rename_i hz;have h0:=Option.some.inj h;have h1:=congrArg Prod.fst h0;have h2:=congrArg Prod.snd h0;dsimp only at h1 h2;subst h2;exact fA.of_asSl (fl:=[true]) (by rw[hz];exact Q2.spec N _ _ _ a h1)
 ·cases h
noncomputable def Q3.f (N:Nat)(a1:List Int):Option (Int):=
 bif (a1.length:Int)==0 then
  some 0
 else
 bif (decide (0≤(aA ((a1.length:Int)-1))))&&(decide ((aA ((a1.length:Int)-1))<(a1.length:Int)))then
  (Q0.f N (a1.getD ((aA ((a1.length:Int)-1)).toNat) 0)).bind fun r2=>
  some (aA ((aA (32*(aA ((a1.length:Int)-1))))+r2))
 else none
noncomputable def Q3.E (N:Nat):bD:=xE [(98,yN),(110,eF),(143,wI)] [(115,Q0.ent N)] [] [] N [.tmp 2] [.any] 0 22
noncomputable def Q3.dec (v:V)(bs:List rA):Option (Int):=match v,bs with
 | .c (.int .i64 z0),[]=>some z0
 |_,_=>none
theorem Q3.f_eq (N:Nat)(a1:List Int):
  cB (Q3.E N) (bo Tryz.f123) [.agg [.il .u32 1 a1]] [] Q3.dec=Q3.f N a1:=by kernel_rfl
noncomputable def Q3.ent (N:Nat):xA:=tF (Int) 0 [true] [.recd [.il .u32 1]] fun
 | [.agg [.il .u32 1 a1]]=>some (Q3.f N a1,fun r=>.one (.c (.int .i64 r)) [])
 |_=>none
theorem Q3.env (N:Nat):aB Tryz.prog (Q3.E N):=⟨(.cons nE (.cons gC (.cons zD .nil))),(.cons (Q0.ent_ok N) .nil)⟩
theorem Q3.spec (N:Nat)(a1:List Int)(r:Int)(h:Q3.f N a1=some r):fA Tryz.prog 123 [.agg [.il .u32 1 a1]] [] (.c (.int .i64 r)) ([]):=vA (Q3.env N) bA Tryz.func123 cA.n ((Q3.f_eq ..).trans h) fun v b e=>by unfold Q3.dec at e;split at e<;>cases e;exact⟨rfl,rfl⟩
theorem Q3.ent_ok (N:Nat):uA Tryz.prog 123 (Q3.ent N):=yA fun v a e h=>by split at h;exact mC (Q:=fun e=>fA _ _ _ _ (e a).pick.1 (e a).pick.2) h fun k=>Q3.spec N _ a k;cases h
noncomputable def Q4.f (N:Nat)(a1:List Int):Option (List Int×Int):=
 (Q3.f N a1).bind fun r2=>
 bif decide (r2>4096)then
  some ([],3)
 else
 some (a1,0)
noncomputable def Q4.E (N:Nat):bD:=xE [(98,yN),(110,eF)] [(123,Q3.ent N)] [] [] N [.cell 2 110,.tmp 3] [.recd [.il .u32 1],.any] 0 9
noncomputable def Q4.dec (v:V)(bs:List rA):Option (List Int×Int):=match v,bs with
 | .tup [.agg [.il .u32 1 z0],.c (.int .i64 z1)],[]=>some (z0,z1)
 |_,_=>none
theorem Q4.f_eq (N:Nat)(a1:List Int):
  cB (Q4.E N) (bo Tryz.f170) [.agg [.il .u32 1 a1]] [] Q4.dec=Q4.f N a1:=by kernel_rfl
noncomputable def Q4.ent (N:Nat):xA:=tF (List Int×Int) 0 [true] [.recd [.il .u32 1]] fun
 | [.agg [.il .u32 1 a1]]=>some (Q4.f N a1,fun r=>.one (.tup [.agg [.il .u32 1 r.1],.c (.int .i64 r.2)]) [])
 |_=>none
theorem Q4.env (N:Nat):aB Tryz.prog (Q4.E N):=⟨(.cons nE (.cons gC .nil)),(.cons (Q3.ent_ok N) .nil)⟩
theorem Q4.spec (N:Nat)(a1:List Int)(r:List Int×Int)(h:Q4.f N a1=some r):fA Tryz.prog 170 [.agg [.il .u32 1 a1]] [] (.tup [.agg [.il .u32 1 r.1],.c (.int .i64 r.2)]) ([]):=vA (Q4.env N) bA Tryz.func170 cA.n ((Q4.f_eq ..).trans h) fun v b e=>by unfold Q4.dec at e;split at e<;>cases e;exact⟨rfl,rfl⟩
theorem Q4.ent_ok (N:Nat):uA Tryz.prog 170 (Q4.ent N):=yA fun v a e h=>by split at h;exact mC (Q:=fun e=>fA _ _ _ _ (e a).pick.1 (e a).pick.2) h fun k=>Q4.spec N _ a k;cases h
noncomputable def Q5.f (N:Nat)(a1:Int):Option (List Int):=
 (Q2.f N 0 2 [nB a1,nB (Int.fdiv a1 (2^32))]).bind fun r2=>
 some ((r2.2.2.drop r2.1).take r2.2.1)
noncomputable def Q5.E (N:Nat):bD:=xE [(78,bQ),(98,yN),(110,eF),(143,wI)] [(152,Q2.ent N)] [] [] N [.cell 2 110] [.recd [.il .u32 1]] 0 10
noncomputable def Q5.dec (v:V)(bs:List rA):Option (List Int):=match v,bs with
 | .agg [.il .u32 1 z0],[]=>some z0
 |_,_=>none
theorem Q5.f_eq (N:Nat)(a1:Int):
  cB (Q5.E N) (bo Tryz.f122) [.c (.int .u64 a1)] [] Q5.dec=Q5.f N a1:=by kernel_rfl
noncomputable def Q5.ent (N:Nat):xA:=tF (List Int) 0 [true] [.any] fun
 | [.c (.int .u64 a1)]=>some (Q5.f N a1,fun r=>.one (.agg [.il .u32 1 r]) [])
 |_=>none
theorem Q5.env (N:Nat):aB Tryz.prog (Q5.E N):=⟨(.cons nF (.cons nE (.cons gC (.cons zD .nil)))),(.cons (Q2.ent_ok N) .nil)⟩
theorem Q5.spec (N:Nat)(a1:Int)(r:List Int)(h:Q5.f N a1=some r):fA Tryz.prog 122 [.c (.int .u64 a1)] [] (.agg [.il .u32 1 r]) ([]):=vA (Q5.env N) bA Tryz.func122 cA.n ((Q5.f_eq ..).trans h) fun v b e=>by unfold Q5.dec at e;split at e<;>cases e;exact⟨rfl,rfl⟩
theorem Q5.ent_ok (N:Nat):uA Tryz.prog 122 (Q5.ent N):=yA fun v a e h=>by split at h;exact mC (Q:=fun e=>fA _ _ _ _ (e a).pick.1 (e a).pick.2) h fun k=>Q5.spec N _ a k;cases h
noncomputable def Q6.f (N:Nat)(a1:List Int):Option (Int×Bool):=
 bif (a1.length:Int)==0 then
  some (0,true)
 else
 bif (a1.length:Int)==1 then
  bif decide (0<(a1.length:Int))then
   some (gA (a1.getD 0 0),true)
  else none
 else
 bif (a1.length:Int)==2 then
  bif decide (1<(a1.length:Int))then
   bif decide (0<(a1.length:Int))then
    some (vD .u64 (gA ((gA (a1.getD 1 0))*2^32)) (gA (a1.getD 0 0)),true)
   else none
  else none
 else
 some (0,false)
noncomputable def Q6.E (N:Nat):bD:=xE [(78,bQ),(98,yN),(110,eF),(143,wI)] [] [] [] N [.tmp 2,.tmp 3] [.any,.any] 0 30
noncomputable def Q6.dec (v:V)(bs:List rA):Option (Int×Bool):=match v,bs with
 | .tup [.c (.int .u64 z0),.c (.bool z1)],[]=>some (z0,z1)
 |_,_=>none
theorem Q6.f_eq (N:Nat)(a1:List Int):
  cB (Q6.E N) (bo Tryz.f124) [.agg [.il .u32 1 a1]] [] Q6.dec=Q6.f N a1:=by kernel_rfl
noncomputable def Q6.ent (N:Nat):xA:=tF (Int×Bool) 0 [true] [.recd [.il .u32 1]] fun
 | [.agg [.il .u32 1 a1]]=>some (Q6.f N a1,fun r=>.one (.tup [.c (.int .u64 r.1),.c (.bool r.2)]) [])
 |_=>none
theorem Q6.env (N:Nat):aB Tryz.prog (Q6.E N):=⟨(.cons nF (.cons nE (.cons gC (.cons zD .nil)))),.nil⟩
theorem Q6.spec (N:Nat)(a1:List Int)(r:Int×Bool)(h:Q6.f N a1=some r):fA Tryz.prog 124 [.agg [.il .u32 1 a1]] [] (.tup [.c (.int .u64 r.1),.c (.bool r.2)]) ([]):=vA (Q6.env N) bA Tryz.func124 cA.n ((Q6.f_eq ..).trans h) fun v b e=>by unfold Q6.dec at e;split at e<;>cases e;exact⟨rfl,rfl⟩
theorem Q6.ent_ok (N:Nat):uA Tryz.prog 124 (Q6.ent N):=yA fun v a e h=>by split at h;exact mC (Q:=fun e=>fA _ _ _ _ (e a).pick.1 (e a).pick.2) h fun k=>Q6.spec N _ a k;cases h
noncomputable def Q7.l6 {R:Type}(N:Nat):Nat→Int→List Int→List Int→(Unit→Option R)→(Int→Option R)→Option R
 |0,_,_,_,_,_=>none
 |n+1,x3,x4,x5,k0,kr=>
  bif decide (x3≥0)then
   bif (decide (0≤x3))&&(decide (x3<(x4.length:Int)))then
    bif (decide (0≤x3))&&(decide (x3<(x5.length:Int)))then
     bif decide ((x4.getD x3.toNat 0)<(x5.getD x3.toNat 0))then
      kr (-1)
     else
     bif (decide (0≤x3))&&(decide (x3<(x4.length:Int)))then
      bif (decide (0≤x3))&&(decide (x3<(x5.length:Int)))then
       bif decide ((x4.getD x3.toNat 0)>(x5.getD x3.toNat 0))then
        kr 1
       else
       Q7.l6 N n (aA (x3-1)) x4 x5 k0 kr
      else none
     else none
    else none
   else none
  else
  k0 ()
noncomputable def Q7.f (N:Nat)(a1 a2:List Int):Option (Int):=
 bif (a1.length:Int) != (a2.length:Int)then
  bif decide ((a1.length:Int)<(a2.length:Int))then
   some (-1)
  else
  some 1
 else
 Q7.l6 N N (aA ((a1.length:Int)-1)) a1 a2
  (fun(_:Unit)=>
   some 0)
  (fun y7=>
   some y7)
noncomputable def Q7.h6:yC:=⟨[(2,.box [.il .u32 1]),(3,.box [.il .u32 1]),(5,.any)],[]⟩
noncomputable def Q7.c6 (N:Nat):uH:=⟨fun vs H k=>match vs,H with
 | [.ptr 0 0 1,.ptr 1 0 1,.c (.int .i64 x3)],[.vals [.il .u32 1 x4],.vals [.il .u32 1 x5]]=>Q7.l6 N N x3 x4 x5 (fun(_:Unit)=>k (.exit 0) ⟨xC Q7.h6.out [],[]⟩) (fun x6=>k (.ret (.c (.int .i64 x6)) []) .nil)
 |_,_=>none⟩
noncomputable def Q7.E (N:Nat):bD:=xE [(98,yN),(110,eF),(143,wI)] [] [(6,Q7.h6)] [(6,Q7.c6 N)] N [.tmp 4] [.any] 0 52
noncomputable def Q7.b6:Code:=sA ((eA (bo Tryz.f157)).getD 0 .skip)
theorem Q7.l6_eq {R:Type}(N n:Nat)(x3:Int)(x4 x5:List Int)(k:Ex→St→Option R):
  gB 0 Q7.h6 (fun s k=>bB (Q7.E N) 394 Q7.b6 s k) n [.ptr 0 0 1,.ptr 1 0 1,.c (.int .i64 x3)] [.vals [.il .u32 1 x4],.vals [.il .u32 1 x5]] k=Q7.l6 N n x3 x4 x5 (fun(_:Unit)=>k (.exit 0) ⟨xC Q7.h6.out [],[]⟩) (fun x6=>k (.ret (.c (.int .i64 x6)) []) .nil):=by
 induction n generalizing x3 x4 x5 with
 |zero=>kernel_rfl
 |succ n ih=>
  simp only[Q7.l6,←ih]
  kernel_rfl
noncomputable def Q7.dec (v:V)(bs:List rA):Option (Int):=match v,bs with
 | .c (.int .i64 z0),[]=>some z0
 |_,_=>none
theorem Q7.f_eq (N:Nat)(a1 a2:List Int):
  cB (Q7.E N) (bo Tryz.f157) [.agg [.il .u32 1 a1],.agg [.il .u32 1 a2]] [] Q7.dec=Q7.f N a1 a2:=by kernel_rfl
noncomputable def Q7.ent (N:Nat):xA:=tF (Int) 0 [true,true] [.recd [.il .u32 1],.recd [.il .u32 1]] fun
 | [.agg [.il .u32 1 a1],.agg [.il .u32 1 a2]]=>some (Q7.f N a1 a2,fun r=>.one (.c (.int .i64 r)) [])
 |_=>none
theorem Q7.env (N:Nat):aB Tryz.prog (Q7.E N):=⟨(.cons nE (.cons gC (.cons zD .nil))),.nil⟩
theorem Q7.k6 (N:Nat):uB Tryz.prog Tryz.f157 (Q7.E N) (.loop Q7.b6):=zC (Q7.env N) bA 394 (c:=Q7.c6 N) cA.n fun R vs H k r h=>by unfold Q7.c6 at h;dsimp only at h;split at h;exact⟨_,Q7.l6_eq .. ▸h⟩;cases h
theorem Q7.spec (N:Nat)(a1 a2:List Int)(r:Int)(h:Q7.f N a1 a2=some r):fA Tryz.prog 157 [.agg [.il .u32 1 a1],.agg [.il .u32 1 a2]] [] (.c (.int .i64 r)) ([]):=vA (Q7.env N) bA Tryz.func157 (cA.of (l:=[(.loop (sA ((eA (bo Tryz.f157)).getD 0 .skip)))]) (by kernel_rfl) (cA.cons (Q7.k6 N) cA.nil)) ((Q7.f_eq ..).trans h) fun v b e=>by unfold Q7.dec at e;split at e<;>cases e;exact⟨rfl,rfl⟩
theorem Q7.ent_ok (N:Nat):uA Tryz.prog 157 (Q7.ent N):=yA fun v a e h=>by split at h;exact mC (Q:=fun e=>fA _ _ _ _ (e a).pick.1 (e a).pick.2) h fun k=>Q7.spec N _ _ a k;cases h
noncomputable def Q8.l7 {R:Type}(N:Nat):Nat→Int→Int→Int→List Int→List Int→(List Int→Option R)→Option R
 |0,_,_,_,_,_,_=>none
 |n+1,x3,x4,x5,x6,x7,k0=>
  bif decide (x5<x4)then
   bif (decide (0≤x5))&&(decide (x5<(x7.length:Int)))then
    bif decide (x5<(x6.length:Int))then
     bif (decide (0≤x5))&&(decide (x5<(x6.length:Int)))then
      bif (decide (0≤x5))&&(decide (x5<(x7.length:Int)))then
       Q8.l7 N n (Int.fdiv (gA ((gA (x3+(gA (x7.getD x5.toNat 0))))+(gA (x6.getD x5.toNat 0)))) (2^32)) x4 (aA (x5+1)) x6 (x7.set x5.toNat (nB (gA ((gA (x3+(gA (x7.getD x5.toNat 0))))+(gA (x6.getD x5.toNat 0)))))) k0
      else none
     else none
    else
    bif (decide (0≤x5))&&(decide (x5<(x7.length:Int)))then
     Q8.l7 N n (Int.fdiv (gA (x3+(gA (x7.getD x5.toNat 0)))) (2^32)) x4 (aA (x5+1)) x6 (x7.set x5.toNat (nB (gA (x3+(gA (x7.getD x5.toNat 0)))))) k0
    else none
   else none
  else
  k0 x7
noncomputable def Q8.f (N:Nat)(a1 a2:List Int):Option (List Int×Int):=
 bif decide ((a1.length:Int)<(a2.length:Int))then
  bif decide (aA ((a2.length:Int)+1)=aA ((a2.length:Int)+1))&&decide (0≤aA ((a2.length:Int)+1))&&decide (aA ((a2.length:Int)+1)≤9223372036854775807)&&jB ((aA ((a2.length:Int)+1)).toNat) 4 then
   Q8.l7 N N 0 ((lF (List.replicate ((aA ((a2.length:Int)+1)).toNat) (0:Int)) 0 (a2.take (min a2.length ((List.replicate ((aA ((a2.length:Int)+1)).toNat) (0:Int)).length)))).length:Int) 0 a1 (lF (List.replicate ((aA ((a2.length:Int)+1)).toNat) (0:Int)) 0 (a2.take (min a2.length ((List.replicate ((aA ((a2.length:Int)+1)).toNat) (0:Int)).length))))
    (fun y9=>
     (Q2.f N 0 y9.length y9).bind fun r10=>
     (Q4.f N ((r10.2.2.drop r10.1).take r10.2.1)).bind fun r11=>
     some (r11.1,r11.2))
  else none
 else
 bif decide (aA ((a1.length:Int)+1)=aA ((a1.length:Int)+1))&&decide (0≤aA ((a1.length:Int)+1))&&decide (aA ((a1.length:Int)+1)≤9223372036854775807)&&jB ((aA ((a1.length:Int)+1)).toNat) 4 then
  Q8.l7 N N 0 ((lF (List.replicate ((aA ((a1.length:Int)+1)).toNat) (0:Int)) 0 (a1.take (min a1.length ((List.replicate ((aA ((a1.length:Int)+1)).toNat) (0:Int)).length)))).length:Int) 0 a2 (lF (List.replicate ((aA ((a1.length:Int)+1)).toNat) (0:Int)) 0 (a1.take (min a1.length ((List.replicate ((aA ((a1.length:Int)+1)).toNat) (0:Int)).length))))
   (fun y12=>
    (Q2.f N 0 y12.length y12).bind fun r13=>
    (Q4.f N ((r13.2.2.drop r13.1).take r13.2.1)).bind fun r14=>
    some (r14.1,r14.2))
 else none
noncomputable def Q8.h7:yC:=⟨[(3,.box [.il .u32 1]),(4,.box [.any]),(6,.row .u32 1),(7,.any),(28,.any),(29,.any)],[(4,.box [.any]),(6,.row .u32 1)]⟩
noncomputable def Q8.c7 (N:Nat):uH:=⟨fun vs H k=>match vs,H with
 | [.ptr 0 0 1,.ptr 1 0 1,.sw 2 1,.c (.int .u64 x3),.c (.int .i64 x4),.c (.int .i64 x5)],[.vals [.il .u32 1 x6],.vals [.c (.slice none 0 0)],.ints .u32 x7]=>Q8.l7 N N x3 x4 x5 x6 x7 (fun x8=>k (.exit 0) ⟨xC Q8.h7.out [.ptr 0 0 1,.sw 1 1],[.vals [.c (.slice none 0 0)],.ints .u32 x8]⟩)
 |_,_=>none⟩
noncomputable def Q8.E (N:Nat):bD:=xE [(78,bQ),(98,yN),(110,eF),(143,wI)] [(152,Q2.ent N),(170,Q4.ent N)] [(7,Q8.h7)] [(7,Q8.c7 N)] N [.cell 4 110,.tmp 5] [.recd [.il .u32 1],.any] 0 65
noncomputable def Q8.b7:Code:=sA ((eA (bo Tryz.f161)).getD 0 .skip)
theorem Q8.l7_eq {R:Type}(N n:Nat)(x3 x4 x5:Int)(x6 x7:List Int)(k:Ex→St→Option R):
  gB 0 Q8.h7 (fun s k=>bB (Q8.E N) 391 Q8.b7 s k) n [.ptr 0 0 1,.ptr 1 0 1,.sw 2 1,.c (.int .u64 x3),.c (.int .i64 x4),.c (.int .i64 x5)] [.vals [.il .u32 1 x6],.vals [.c (.slice none 0 0)],.ints .u32 x7] k=Q8.l7 N n x3 x4 x5 x6 x7 (fun x8=>k (.exit 0) ⟨xC Q8.h7.out [.ptr 0 0 1,.sw 1 1],[.vals [.c (.slice none 0 0)],.ints .u32 x8]⟩):=by
 induction n generalizing x3 x4 x5 x6 x7 with
 |zero=>kernel_rfl
 |succ n ih=>
  simp only[Q8.l7,←ih]
  kernel_rfl
noncomputable def Q8.dec (v:V)(bs:List rA):Option (List Int×Int):=match v,bs with
 | .tup [.agg [.il .u32 1 z0],.c (.int .i64 z1)],[]=>some (z0,z1)
 |_,_=>none
theorem Q8.f_eq (N:Nat)(a1 a2:List Int):
  cB (Q8.E N) (bo Tryz.f161) [.agg [.il .u32 1 a1],.agg [.il .u32 1 a2]] [] Q8.dec=Q8.f N a1 a2:=by kernel_rfl
noncomputable def Q8.ent (N:Nat):xA:=tF (List Int×Int) 0 [true,true] [.recd [.il .u32 1],.recd [.il .u32 1]] fun
 | [.agg [.il .u32 1 a1],.agg [.il .u32 1 a2]]=>some (Q8.f N a1 a2,fun r=>.one (.tup [.agg [.il .u32 1 r.1],.c (.int .i64 r.2)]) [])
 |_=>none
theorem Q8.env (N:Nat):aB Tryz.prog (Q8.E N):=⟨(.cons nF (.cons nE (.cons gC (.cons zD .nil)))),(.cons (Q2.ent_ok N) (.cons (Q4.ent_ok N) .nil))⟩
theorem Q8.k7 (N:Nat):uB Tryz.prog Tryz.f161 (Q8.E N) (.loop Q8.b7):=zC (Q8.env N) bA 391 (c:=Q8.c7 N) cA.n fun R vs H k r h=>by unfold Q8.c7 at h;dsimp only at h;split at h;exact⟨_,Q8.l7_eq .. ▸h⟩;cases h
theorem Q8.spec (N:Nat)(a1 a2:List Int)(r:List Int×Int)(h:Q8.f N a1 a2=some r):fA Tryz.prog 161 [.agg [.il .u32 1 a1],.agg [.il .u32 1 a2]] [] (.tup [.agg [.il .u32 1 r.1],.c (.int .i64 r.2)]) ([]):=vA (Q8.env N) bA Tryz.func161 (cA.of (l:=[(.loop (sA ((eA (bo Tryz.f161)).getD 0 .skip)))]) (by kernel_rfl) (cA.cons (Q8.k7 N) cA.nil)) ((Q8.f_eq ..).trans h) fun v b e=>by unfold Q8.dec at e;split at e<;>cases e;exact⟨rfl,rfl⟩
theorem Q8.ent_ok (N:Nat):uA Tryz.prog 161 (Q8.ent N):=yA fun v a e h=>by split at h;exact mC (Q:=fun e=>fA _ _ _ _ (e a).pick.1 (e a).pick.2) h fun k=>Q8.spec N _ _ a k;cases h
noncomputable def Q9.l2 {R:Type}(N:Nat):Nat→Nat→Nat→List Int→Int→Int→Int→List Int→(List Int→Option R)→Option R
 |0,_,_,_,_,_,_,_,_=>none
 |n+1,x5,x6,x7,x8,x9,x10,x11,k0=>
  bif decide (x10<x9)then
   bif decide (x10<(x7.length:Int))then
    bif (decide (0≤x10))&&(decide (x10<(x7.length:Int)))then
     bif (decide (0≤x10))&&(decide (x10<(x6:Int)))then
      (Q1.f N (x11.getD (x5+x10.toNat) 0) (x7.getD x10.toNat 0) x8).bind fun r12=>
      bif (decide (0≤x10))&&(decide (x10<(x6:Int)))then
       Q9.l2 N n x5 x6 x7 r12.2 x9 (aA (x10+1)) (x11.set (x5+x10.toNat) r12.1) k0
      else none
     else none
    else none
   else
   bif x8==0 then
    k0 x11
   else
   bif (decide (0≤x10))&&(decide (x10<(x6:Int)))then
    (Q1.f N (x11.getD (x5+x10.toNat) 0) 0 x8).bind fun r14=>
    bif (decide (0≤x10))&&(decide (x10<(x6:Int)))then
     Q9.l2 N n x5 x6 x7 r14.2 x9 (aA (x10+1)) (x11.set (x5+x10.toNat) r14.1) k0
    else none
   else none
  else
  k0 x11
noncomputable def Q9.f (N a1 a2:Nat)(a3 a4:List Int):Option (List Int):=
 Q9.l2 N N a1 a2 a3 0 (a2:Int) 0 a4
  (fun y15=>
   some y15)
noncomputable def Q9.h2:yC:=⟨[(0,.any),(1,.il .u32 1),(4,.any),(8,.any),(9,.any)],[]⟩
noncomputable def Q9.c2 (N:Nat):uH:=⟨fun vs H k=>match vs,H with
 | [.sl 0 1 x5 x6,.il .u32 1 x7,.c (.int .u32 x8),.c (.int .i64 x9),.c (.int .i64 x10)],[.ints .u32 x11]=>Q9.l2 N N x5 x6 x7 x8 x9 x10 x11 (fun x13=>k (.exit 0) ⟨xC Q9.h2.out [],[.ints .u32 x13]⟩)
 |_,_=>none⟩
noncomputable def Q9.E (N:Nat):bD:=xE [(98,yN),(143,wI)] [(172,Q1.ent N)] [(2,Q9.h2)] [(2,Q9.c2 N)] N [] [] 1 36
noncomputable def Q9.b2:Code:=sA ((eA (bo Tryz.f171)).getD 1 .skip)
theorem Q9.l2_eq {R:Type}(N n x5 x6:Nat)(x7:List Int)(x8 x9 x10:Int)(x11:List Int)(k:Ex→St→Option R):
  gB 1 Q9.h2 (fun s k=>bB (Q9.E N) 394 Q9.b2 s k) n [.sl 0 1 x5 x6,.il .u32 1 x7,.c (.int .u32 x8),.c (.int .i64 x9),.c (.int .i64 x10)] [.ints .u32 x11] k=Q9.l2 N n x5 x6 x7 x8 x9 x10 x11 (fun x13=>k (.exit 0) ⟨xC Q9.h2.out [],[.ints .u32 x13]⟩):=by
 induction n generalizing x5 x6 x7 x8 x9 x10 x11 with
 |zero=>kernel_rfl
 |succ n ih=>
  simp only[Q9.l2,←ih]
  kernel_rfl
noncomputable def Q9.dec (v:V)(bs:List rA):Option (List Int):=match v,bs with
 | .tup [],[.ints .u32 z0]=>some z0
 |_,_=>none
theorem Q9.f_eq (N a1 a2:Nat)(a3 a4:List Int):
  cB (Q9.E N) (bo Tryz.f171) [.sl 0 1 a1 a2,.il .u32 1 a3] [.ints .u32 a4] Q9.dec=Q9.f N a1 a2 a3 a4:=by kernel_rfl
noncomputable def Q9.ent (N:Nat):xA:={A:=List Int,fresh:=0,imm:=[false,true],dec:=fun args bs=>match eG (nA bs) [true,false] args,bs with
 | [.sl 0 1 a1 a2,.il .u32 1 a3],[.ints .u32 a4]=>some (Q9.f N a1 a2 a3 a4,fun r=>.one (.tup []) [.ints .u32 r])
 |_,_=>none}
theorem Q9.env (N:Nat):aB Tryz.prog (Q9.E N):=⟨(.cons nE (.cons zD .nil)),(.cons (Q1.ent_ok N) .nil)⟩
theorem Q9.k2 (N:Nat):uB Tryz.prog Tryz.f171 (Q9.E N) (.loop Q9.b2):=zC (Q9.env N) bA 394 (c:=Q9.c2 N) cA.n fun R vs H k r h=>by unfold Q9.c2 at h;dsimp only at h;split at h;exact⟨_,Q9.l2_eq .. ▸h⟩;cases h
theorem Q9.spec (N a1 a2:Nat)(a3 a4 r:List Int)(h:Q9.f N a1 a2 a3 a4=some r):fA Tryz.prog 171 [.sl 0 1 a1 a2,.il .u32 1 a3] [.ints .u32 a4] (.tup []) ([.ints .u32 r]):=vA (Q9.env N) bA Tryz.func171 (cA.of (l:=[(.scope (sA ((eA (bo Tryz.f171)).getD 0 .skip))),(.loop (sA ((eA (bo Tryz.f171)).getD 1 .skip)))]) (by kernel_rfl) (cA.cons (pP (by kernel_rfl)) (cA.cons (Q9.k2 N) cA.nil))) ((Q9.f_eq ..).trans h) fun v b e=>by unfold Q9.dec at e;split at e<;>cases e;exact⟨rfl,rfl⟩
theorem Q9.ent_ok (N:Nat):uA Tryz.prog 171 (Q9.ent N):=by
 intro args bs a enc h;simp only[Q9.ent]at h;split at h
 ·rename_i hz;have h0:=Option.some.inj h;have h1:=congrArg Prod.fst h0;have h2:=congrArg Prod.snd h0;dsimp only at h1 h2;subst h2;exact fA.of_asSl (fl:=[true,false]) (by rw[hz];exact Q9.spec N _ _ _ _ a h1)
 ·cases h
noncomputable def Q10.f (N:Nat)(a1 a2:List Int):Option (List Int×Int):=
 (Q7.f N a1 a2).bind fun r3=>
 bif decide (r3<0)then
  some ([],10)
 else
 bif decide ((a1.length:Int)=(a1.length:Int))&&decide (0≤(a1.length:Int))&&decide ((a1.length:Int)≤9223372036854775807)&&jB ((a1.length:Int).toNat) 4 then
  (Q9.f N 0 ((lF (List.replicate ((a1.length:Int).toNat) (0:Int)) 0 (a1.take (min a1.length ((List.replicate ((a1.length:Int).toNat) (0:Int)).length)))).length) a2 (lF (List.replicate ((a1.length:Int).toNat) (0:Int)) 0 (a1.take (min a1.length ((List.replicate ((a1.length:Int).toNat) (0:Int)).length))))).bind fun r4=>
  (Q2.f N 0 r4.length r4).bind fun r5=>
  some ((r5.2.2.drop r5.1).take r5.2.1,0)
 else none
noncomputable def Q10.E (N:Nat):bD:=xE [(98,yN),(110,eF),(143,wI)] [(157,Q7.ent N),(171,Q9.ent N),(152,Q2.ent N)] [] [] N [.cell 4 110,.tmp 5] [.recd [.il .u32 1],.any] 0 26
noncomputable def Q10.dec (v:V)(bs:List rA):Option (List Int×Int):=match v,bs with
 | .tup [.agg [.il .u32 1 z0],.c (.int .i64 z1)],[]=>some (z0,z1)
 |_,_=>none
theorem Q10.f_eq (N:Nat)(a1 a2:List Int):
  cB (Q10.E N) (bo Tryz.f162) [.agg [.il .u32 1 a1],.agg [.il .u32 1 a2]] [] Q10.dec=Q10.f N a1 a2:=by kernel_rfl
noncomputable def Q10.ent (N:Nat):xA:=tF (List Int×Int) 0 [true,true] [.recd [.il .u32 1],.recd [.il .u32 1]] fun
 | [.agg [.il .u32 1 a1],.agg [.il .u32 1 a2]]=>some (Q10.f N a1 a2,fun r=>.one (.tup [.agg [.il .u32 1 r.1],.c (.int .i64 r.2)]) [])
 |_=>none
theorem Q10.env (N:Nat):aB Tryz.prog (Q10.E N):=⟨(.cons nE (.cons gC (.cons zD .nil))),(.cons (Q7.ent_ok N) (.cons (Q9.ent_ok N) (.cons (Q2.ent_ok N) .nil)))⟩
theorem Q10.spec (N:Nat)(a1 a2:List Int)(r:List Int×Int)(h:Q10.f N a1 a2=some r):fA Tryz.prog 162 [.agg [.il .u32 1 a1],.agg [.il .u32 1 a2]] [] (.tup [.agg [.il .u32 1 r.1],.c (.int .i64 r.2)]) ([]):=vA (Q10.env N) bA Tryz.func162 cA.n ((Q10.f_eq ..).trans h) fun v b e=>by unfold Q10.dec at e;split at e<;>cases e;exact⟨rfl,rfl⟩
theorem Q10.ent_ok (N:Nat):uA Tryz.prog 162 (Q10.ent N):=yA fun v a e h=>by split at h;exact mC (Q:=fun e=>fA _ _ _ _ (e a).pick.1 (e a).pick.2) h fun k=>Q10.spec N _ _ a k;cases h
noncomputable def Q11.l7 {R:Type}(N:Nat):Nat→Int→Int→Int→List Int→Int→Int→List Int→Int→Int→List Int→List Int→(Int→Int→List Int→Int→Int→List Int→List Int→Option R)→Option R
 |0,_,_,_,_,_,_,_,_,_,_,_,_=>none
 |n+1,x8,x9,x10,x11,x12,x13,x14,x15,x16,x17,x18,k2=>
  bif decide (x16<x15)then
   bif (decide (0≤x16))&&(decide (x16<(x14.length:Int)))then
    bif (decide (0≤(aA (x8+x16))))&&(decide ((aA (x8+x16))<(x18.length:Int)))then
     bif (decide (0≤(aA (x8+x16))))&&(decide ((aA (x8+x16))<(x18.length:Int)))then
      Q11.l7 N n x8 x9 (Int.fdiv (gA (x10+(gA ((gA ((gA x9)*(gA (x14.getD x16.toNat 0))))+(gA (x18.getD ((aA (x8+x16)).toNat) 0)))))) (2^32)) x11 x12 x13 x14 x15 (aA (x16+1)) x17 (x18.set ((aA (x8+x16)).toNat) (nB (gA (x10+(gA ((gA ((gA x9)*(gA (x14.getD x16.toNat 0))))+(gA (x18.getD ((aA (x8+x16)).toNat) 0)))))))) k2
     else none
    else none
   else none
  else
  k2 x8 x10 x11 x12 x13 x17 x18
noncomputable def Q11.l3 {R:Type}(N:Nat):Nat→List Int→Int→Int→List Int→List Int→(List Int→Option R)→Option R
 |0,_,_,_,_,_,_=>none
 |n+1,x3,x4,x5,x6,x7,k0=>
  bif decide (x5<x4)then
   bif (decide (0≤x5))&&(decide (x5<(x3.length:Int)))then
    Q11.l7 N N x5 (x3.getD x5.toNat 0) 0 x3 x4 x5 x6 (x6.length:Int) 0 x6 x7
     (fun y26 y27 y28 y29 y30 y31 y32=>
      bif (decide (0≤(aA (y26+(y31.length:Int)))))&&(decide ((aA (y26+(y31.length:Int)))<(y32.length:Int)))then
       Q11.l3 N n y28 y29 (aA (y30+1)) y31 (y32.set ((aA (y26+(y31.length:Int))).toNat) (nB y27)) k0
      else none)
   else none
  else
  k0 x7
noncomputable def Q11.f (N:Nat)(a1 a2:List Int):Option (List Int):=
 bif decide (aA ((a1.length:Int)+(a2.length:Int))=aA ((a1.length:Int)+(a2.length:Int)))&&decide (0≤aA ((a1.length:Int)+(a2.length:Int)))&&decide (aA ((a1.length:Int)+(a2.length:Int))≤9223372036854775807)&&jB ((aA ((a1.length:Int)+(a2.length:Int))).toNat) 4 then
  Q11.l3 N N a1 (a1.length:Int) 0 a2 (List.replicate ((aA ((a1.length:Int)+(a2.length:Int))).toNat) (0:Int))
   (fun y34=>
    (Q2.f N 0 y34.length y34).bind fun r35=>
    some ((r35.2.2.drop r35.1).take r35.2.1))
 else none
noncomputable def Q11.h3:yC:=⟨[(3,.box [.il .u32 1]),(4,.box [.any]),(5,.row .u32 1),(20,.il .u32 1),(21,.any),(22,.any)],[(4,.box [.any]),(5,.row .u32 1)]⟩
noncomputable def Q11.h7:yC:=⟨[(3,.box [.il .u32 1]),(4,.box [.any]),(5,.row .u32 1),(6,.any),(7,.any),(8,.any),(20,.il .u32 1),(21,.any),(22,.any),(28,.il .u32 1),(29,.any),(30,.any)],[(3,.box [.il .u32 1]),(4,.box [.any]),(5,.row .u32 1),(6,.any),(8,.any),(20,.il .u32 1),(21,.any),(22,.any)]⟩
noncomputable def Q11.c7 (N:Nat):uH:=⟨fun vs H k=>match vs,H with
 | [.ptr 0 0 1,.ptr 1 0 1,.sw 2 1,.c (.int .i64 x8),.c (.int .u32 x9),.c (.int .u64 x10),.il .u32 1 x11,.c (.int .i64 x12),.c (.int .i64 x13),.il .u32 1 x14,.c (.int .i64 x15),.c (.int .i64 x16)],[.vals [.il .u32 1 x17],.vals [.c (.slice none 0 0)],.ints .u32 x18]=>Q11.l7 N N x8 x9 x10 x11 x12 x13 x14 x15 x16 x17 x18 (fun x19 x20 x21 x22 x23 x24 x25=>k (.exit 2) ⟨xC Q11.h7.out [.ptr 0 0 1,.ptr 1 0 1,.sw 2 1,.c (.int .i64 x19),.c (.int .u64 x20),.il .u32 1 x21,.c (.int .i64 x22),.c (.int .i64 x23)],[.vals [.il .u32 1 x24],.vals [.c (.slice none 0 0)],.ints .u32 x25]⟩)
 |_,_=>none⟩
noncomputable def Q11.c3 (N:Nat):uH:=⟨fun vs H k=>match vs,H with
 | [.ptr 0 0 1,.ptr 1 0 1,.sw 2 1,.il .u32 1 x3,.c (.int .i64 x4),.c (.int .i64 x5)],[.vals [.il .u32 1 x6],.vals [.c (.slice none 0 0)],.ints .u32 x7]=>Q11.l3 N N x3 x4 x5 x6 x7 (fun x33=>k (.exit 0) ⟨xC Q11.h3.out [.ptr 0 0 1,.sw 1 1],[.vals [.c (.slice none 0 0)],.ints .u32 x33]⟩)
 |_,_=>none⟩
noncomputable def Q11.E (N:Nat):bD:=xE [(78,bQ),(98,yN),(110,eF),(143,wI)] [(152,Q2.ent N)] [(3,Q11.h3),(7,Q11.h7)] [(7,Q11.c7 N),(3,Q11.c3 N)] N [.cell 4 110] [.recd [.il .u32 1]] 0 72
noncomputable def Q11.b7:Code:=sA ((eA (bo Tryz.f169)).getD 1 .skip)
theorem Q11.l7_eq {R:Type}(N n:Nat)(x8 x9 x10:Int)(x11:List Int)(x12 x13:Int)(x14:List Int)(x15 x16:Int)(x17 x18:List Int)(k:Ex→St→Option R):
  gB 0 Q11.h7 (fun s k=>bB (Q11.E N) 384 Q11.b7 s k) n [.ptr 0 0 1,.ptr 1 0 1,.sw 2 1,.c (.int .i64 x8),.c (.int .u32 x9),.c (.int .u64 x10),.il .u32 1 x11,.c (.int .i64 x12),.c (.int .i64 x13),.il .u32 1 x14,.c (.int .i64 x15),.c (.int .i64 x16)] [.vals [.il .u32 1 x17],.vals [.c (.slice none 0 0)],.ints .u32 x18] k=Q11.l7 N n x8 x9 x10 x11 x12 x13 x14 x15 x16 x17 x18 (fun x19 x20 x21 x22 x23 x24 x25=>k (.exit 2) ⟨xC Q11.h7.out [.ptr 0 0 1,.ptr 1 0 1,.sw 2 1,.c (.int .i64 x19),.c (.int .u64 x20),.il .u32 1 x21,.c (.int .i64 x22),.c (.int .i64 x23)],[.vals [.il .u32 1 x24],.vals [.c (.slice none 0 0)],.ints .u32 x25]⟩):=by
 induction n generalizing x8 x9 x10 x11 x12 x13 x14 x15 x16 x17 x18 with
 |zero=>kernel_rfl
 |succ n ih=>
  simp only[Q11.l7,←ih]
  kernel_rfl
noncomputable def Q11.b3:Code:=sA ((eA (bo Tryz.f169)).getD 0 .skip)
theorem Q11.l3_eq {R:Type}(N n:Nat)(x3:List Int)(x4 x5:Int)(x6 x7:List Int)(k:Ex→St→Option R):
  gB 0 Q11.h3 (fun s k=>bB (Q11.E N) 394 Q11.b3 s k) n [.ptr 0 0 1,.ptr 1 0 1,.sw 2 1,.il .u32 1 x3,.c (.int .i64 x4),.c (.int .i64 x5)] [.vals [.il .u32 1 x6],.vals [.c (.slice none 0 0)],.ints .u32 x7] k=Q11.l3 N n x3 x4 x5 x6 x7 (fun x33=>k (.exit 0) ⟨xC Q11.h3.out [.ptr 0 0 1,.sw 1 1],[.vals [.c (.slice none 0 0)],.ints .u32 x33]⟩):=by
 induction n generalizing x3 x4 x5 x6 x7 with
 |zero=>kernel_rfl
 |succ n ih=>
  simp only[Q11.l3,←ih]
  kernel_rfl
noncomputable def Q11.dec (v:V)(bs:List rA):Option (List Int):=match v,bs with
 | .agg [.il .u32 1 z0],[]=>some z0
 |_,_=>none
theorem Q11.f_eq (N:Nat)(a1 a2:List Int):
  cB (Q11.E N) (bo Tryz.f169) [.agg [.il .u32 1 a1],.agg [.il .u32 1 a2]] [] Q11.dec=Q11.f N a1 a2:=by kernel_rfl
noncomputable def Q11.ent (N:Nat):xA:=tF (List Int) 0 [true,true] [.recd [.il .u32 1],.recd [.il .u32 1]] fun
 | [.agg [.il .u32 1 a1],.agg [.il .u32 1 a2]]=>some (Q11.f N a1 a2,fun r=>.one (.agg [.il .u32 1 r]) [])
 |_=>none
theorem Q11.env (N:Nat):aB Tryz.prog (Q11.E N):=⟨(.cons nF (.cons nE (.cons gC (.cons zD .nil)))),(.cons (Q2.ent_ok N) .nil)⟩
theorem Q11.k7 (N:Nat):uB Tryz.prog Tryz.f169 (Q11.E N) (.loop Q11.b7):=zC (Q11.env N) bA 384 (c:=Q11.c7 N) cA.n fun R vs H k r h=>by unfold Q11.c7 at h;dsimp only at h;split at h;exact⟨_,Q11.l7_eq .. ▸h⟩;cases h
theorem Q11.k3 (N:Nat):uB Tryz.prog Tryz.f169 (Q11.E N) (.loop Q11.b3):=zC (Q11.env N) bA 394 (c:=Q11.c3 N) (cA.of (l:=[(.loop (sA ((eA (bo Tryz.f169)).getD 1 .skip)))]) (by kernel_rfl) (cA.cons (Q11.k7 N) cA.nil)) fun R vs H k r h=>by unfold Q11.c3 at h;dsimp only at h;split at h;exact⟨_,Q11.l3_eq .. ▸h⟩;cases h
theorem Q11.spec (N:Nat)(a1 a2 r:List Int)(h:Q11.f N a1 a2=some r):fA Tryz.prog 169 [.agg [.il .u32 1 a1],.agg [.il .u32 1 a2]] [] (.agg [.il .u32 1 r]) ([]):=vA (Q11.env N) bA Tryz.func169 (cA.of (l:=[(.loop (sA ((eA (bo Tryz.f169)).getD 0 .skip))),(.loop (sA ((eA (bo Tryz.f169)).getD 1 .skip)))]) (by kernel_rfl) (cA.cons (Q11.k3 N) (cA.cons (Q11.k7 N) cA.nil))) ((Q11.f_eq ..).trans h) fun v b e=>by unfold Q11.dec at e;split at e<;>cases e;exact⟨rfl,rfl⟩
theorem Q11.ent_ok (N:Nat):uA Tryz.prog 169 (Q11.ent N):=yA fun v a e h=>by split at h;exact mC (Q:=fun e=>fA _ _ _ _ (e a).pick.1 (e a).pick.2) h fun k=>Q11.spec N _ _ a k;cases h
noncomputable def Q12.f (N:Nat)(a1 a2:List Int):Option (List Int×Int):=
 (Q3.f N a1).bind fun r3=>
 (Q3.f N a2).bind fun r4=>
 bif decide ((aA (r3+r4))>4097)then
  some ([],3)
 else
 (Q11.f N a1 a2).bind fun r5=>
 (Q4.f N r5).bind fun r6=>
 some (r6.1,r6.2)
noncomputable def Q12.E (N:Nat):bD:=xE [(98,yN),(110,eF)] [(123,Q3.ent N),(169,Q11.ent N),(170,Q4.ent N)] [] [] N [.cell 4 110,.tmp 5] [.recd [.il .u32 1],.any] 0 19
noncomputable def Q12.dec (v:V)(bs:List rA):Option (List Int×Int):=match v,bs with
 | .tup [.agg [.il .u32 1 z0],.c (.int .i64 z1)],[]=>some (z0,z1)
 |_,_=>none
theorem Q12.f_eq (N:Nat)(a1 a2:List Int):
  cB (Q12.E N) (bo Tryz.f160) [.agg [.il .u32 1 a1],.agg [.il .u32 1 a2]] [] Q12.dec=Q12.f N a1 a2:=by kernel_rfl
noncomputable def Q12.ent (N:Nat):xA:=tF (List Int×Int) 0 [true,true] [.recd [.il .u32 1],.recd [.il .u32 1]] fun
 | [.agg [.il .u32 1 a1],.agg [.il .u32 1 a2]]=>some (Q12.f N a1 a2,fun r=>.one (.tup [.agg [.il .u32 1 r.1],.c (.int .i64 r.2)]) [])
 |_=>none
theorem Q12.env (N:Nat):aB Tryz.prog (Q12.E N):=⟨(.cons nE (.cons gC .nil)),(.cons (Q3.ent_ok N) (.cons (Q11.ent_ok N) (.cons (Q4.ent_ok N) .nil)))⟩
theorem Q12.spec (N:Nat)(a1 a2:List Int)(r:List Int×Int)(h:Q12.f N a1 a2=some r):fA Tryz.prog 160 [.agg [.il .u32 1 a1],.agg [.il .u32 1 a2]] [] (.tup [.agg [.il .u32 1 r.1],.c (.int .i64 r.2)]) ([]):=vA (Q12.env N) bA Tryz.func160 cA.n ((Q12.f_eq ..).trans h) fun v b e=>by unfold Q12.dec at e;split at e<;>cases e;exact⟨rfl,rfl⟩
theorem Q12.ent_ok (N:Nat):uA Tryz.prog 160 (Q12.ent N):=yA fun v a e h=>by split at h;exact mC (Q:=fun e=>fA _ _ _ _ (e a).pick.1 (e a).pick.2) h fun k=>Q12.spec N _ _ a k;cases h
noncomputable def Q13.f (N:Nat)(a1:Int):Option (Int):=
 (Q0.f N a1).bind fun r2=>
 some (aA (32-r2))
noncomputable def Q13.E (N:Nat):bD:=xE [] [(115,Q0.ent N)] [] [] N [.tmp 2] [.any] 0 6
noncomputable def Q13.dec (v:V)(bs:List rA):Option (Int):=match v,bs with
 | .c (.int .i64 z0),[]=>some z0
 |_,_=>none
theorem Q13.f_eq (N:Nat)(a1:Int):
  cB (Q13.E N) (bo Tryz.f165) [.c (.int .u32 a1)] [] Q13.dec=Q13.f N a1:=by kernel_rfl
noncomputable def Q13.ent (N:Nat):xA:=tF (Int) 0 [true] [.any] fun
 | [.c (.int .u32 a1)]=>some (Q13.f N a1,fun r=>.one (.c (.int .i64 r)) [])
 |_=>none
theorem Q13.env (N:Nat):aB Tryz.prog (Q13.E N):=⟨.nil,(.cons (Q0.ent_ok N) .nil)⟩
theorem Q13.spec (N:Nat)(a1 r:Int)(h:Q13.f N a1=some r):fA Tryz.prog 165 [.c (.int .u32 a1)] [] (.c (.int .i64 r)) ([]):=vA (Q13.env N) bA Tryz.func165 cA.n ((Q13.f_eq ..).trans h) fun v b e=>by unfold Q13.dec at e;split at e<;>cases e;exact⟨rfl,rfl⟩
theorem Q13.ent_ok (N:Nat):uA Tryz.prog 165 (Q13.ent N):=yA fun v a e h=>by split at h;exact mC (Q:=fun e=>fA _ _ _ _ (e a).pick.1 (e a).pick.2) h fun k=>Q13.spec N _ a k;cases h
noncomputable def Q14.l3 {R:Type}(N:Nat):Nat→Nat→Nat→Int→Int→Int→List Int→(Int→List Int→Option R)→Option R
 |0,_,_,_,_,_,_,_=>none
 |n+1,x5,x6,x7,x8,x9,x10,k0=>
  bif decide (x9≥0)then
   bif (decide (0≤x9))&&(decide (x9<(x6:Int)))then
    bif !((gA x7)==0)then
     bif !((gA x7)==0)then
      bif (decide (0≤x9))&&(decide (x9<(x6:Int)))then
       Q14.l3 N n x5 x6 x7 (Int.tmod (vD .u64 (gA (x8*2^32)) (gA (x10.getD (x5+x9.toNat) 0))) (gA x7)) (aA (x9-1)) (x10.set (x5+x9.toNat) (nB (gA (Int.tdiv (vD .u64 (gA (x8*2^32)) (gA (x10.getD (x5+x9.toNat) 0))) (gA x7))))) k0
      else none
     else none
    else none
   else none
  else
  k0 x8 x10
noncomputable def Q14.f (N a1 a2:Nat)(a3:Int)(a4:List Int):Option (Int×List Int):=
 Q14.l3 N N a1 a2 a3 0 (aA ((a2:Int)-1)) a4
  (fun y13 y14=>
   some (nB y13,y14))
noncomputable def Q14.h3:yC:=⟨[(0,.any),(1,.any),(5,.any),(6,.any)],[(5,.any)]⟩
noncomputable def Q14.c3 (N:Nat):uH:=⟨fun vs H k=>match vs,H with
 | [.sl 0 1 x5 x6,.c (.int .u32 x7),.c (.int .u64 x8),.c (.int .i64 x9)],[.ints .u32 x10]=>Q14.l3 N N x5 x6 x7 x8 x9 x10 (fun x11 x12=>k (.exit 0) ⟨xC Q14.h3.out [.c (.int .u64 x11)],[.ints .u32 x12]⟩)
 |_,_=>none⟩
noncomputable def Q14.E (N:Nat):bD:=xE [(78,bQ),(98,yN),(143,wI)] [] [(3,Q14.h3)] [(3,Q14.c3 N)] N [.tmp 4] [.any] 1 37
noncomputable def Q14.b3:Code:=sA ((eA (bo Tryz.f158)).getD 0 .skip)
theorem Q14.l3_eq {R:Type}(N n x5 x6:Nat)(x7 x8 x9:Int)(x10:List Int)(k:Ex→St→Option R):
  gB 1 Q14.h3 (fun s k=>bB (Q14.E N) 394 Q14.b3 s k) n [.sl 0 1 x5 x6,.c (.int .u32 x7),.c (.int .u64 x8),.c (.int .i64 x9)] [.ints .u32 x10] k=Q14.l3 N n x5 x6 x7 x8 x9 x10 (fun x11 x12=>k (.exit 0) ⟨xC Q14.h3.out [.c (.int .u64 x11)],[.ints .u32 x12]⟩):=by
 induction n generalizing x5 x6 x7 x8 x9 x10 with
 |zero=>kernel_rfl
 |succ n ih=>
  simp only[Q14.l3,←ih]
  kernel_rfl
noncomputable def Q14.dec (v:V)(bs:List rA):Option (Int×List Int):=match v,bs with
 | .c (.int .u32 z0),[.ints .u32 z1]=>some (z0,z1)
 |_,_=>none
theorem Q14.f_eq (N a1 a2:Nat)(a3:Int)(a4:List Int):
  cB (Q14.E N) (bo Tryz.f158) [.sl 0 1 a1 a2,.c (.int .u32 a3)] [.ints .u32 a4] Q14.dec=Q14.f N a1 a2 a3 a4:=by kernel_rfl
noncomputable def Q14.ent (N:Nat):xA:={A:=Int×List Int,fresh:=0,imm:=[false,true],dec:=fun args bs=>match eG (nA bs) [true,false] args,bs with
 | [.sl 0 1 a1 a2,.c (.int .u32 a3)],[.ints .u32 a4]=>some (Q14.f N a1 a2 a3 a4,fun r=>.one (.c (.int .u32 r.1)) [.ints .u32 r.2])
 |_,_=>none}
theorem Q14.env (N:Nat):aB Tryz.prog (Q14.E N):=⟨(.cons nF (.cons nE (.cons zD .nil))),.nil⟩
theorem Q14.k3 (N:Nat):uB Tryz.prog Tryz.f158 (Q14.E N) (.loop Q14.b3):=zC (Q14.env N) bA 394 (c:=Q14.c3 N) cA.n fun R vs H k r h=>by unfold Q14.c3 at h;dsimp only at h;split at h;exact⟨_,Q14.l3_eq .. ▸h⟩;cases h
theorem Q14.spec (N a1 a2:Nat)(a3:Int)(a4:List Int)(r:Int×List Int)(h:Q14.f N a1 a2 a3 a4=some r):fA Tryz.prog 158 [.sl 0 1 a1 a2,.c (.int .u32 a3)] [.ints .u32 a4] (.c (.int .u32 r.1)) ([.ints .u32 r.2]):=vA (Q14.env N) bA Tryz.func158 (cA.of (l:=[(.loop (sA ((eA (bo Tryz.f158)).getD 0 .skip)))]) (by kernel_rfl) (cA.cons (Q14.k3 N) cA.nil)) ((Q14.f_eq ..).trans h) fun v b e=>by unfold Q14.dec at e;split at e<;>cases e;exact⟨rfl,rfl⟩
theorem Q14.ent_ok (N:Nat):uA Tryz.prog 158 (Q14.ent N):=by
 intro args bs a enc h;simp only[Q14.ent]at h;split at h
 ·rename_i hz;have h0:=Option.some.inj h;have h1:=congrArg Prod.fst h0;have h2:=congrArg Prod.snd h0;dsimp only at h1 h2;subst h2;exact fA.of_asSl (fl:=[true,false]) (by rw[hz];exact Q14.spec N _ _ _ _ a h1)
 ·cases h
noncomputable def Q15.l4 {R:Type}(N:Nat):Nat→List Int→Int→Int→Int→Int→List Int→(List Int→Option R)→Option R
 |0,_,_,_,_,_,_,_=>none
 |n+1,x4,x5,x6,x7,x8,x9,k0=>
  bif decide (x8<x7)then
   bif decide (x8<(x4.length:Int))then
    bif (decide (0≤x8))&&(decide (x8<(x4.length:Int)))then
     bif decide (0≤x5)then
      bif (decide (0≤x8))&&(decide (x8<(x9.length:Int)))then
       Q15.l4 N n x4 x5 (Int.fdiv (vD .u64 x6 (gA ((gA (x4.getD x8.toNat 0))*2^(min x5.toNat 64)))) (2^32)) x7 (aA (x8+1)) (x9.set x8.toNat (nB (vD .u64 x6 (gA ((gA (x4.getD x8.toNat 0))*2^(min x5.toNat 64)))))) k0
      else none
     else none
    else none
   else
   bif (decide (0≤x8))&&(decide (x8<(x9.length:Int)))then
    Q15.l4 N n x4 x5 (Int.fdiv x6 (2^32)) x7 (aA (x8+1)) (x9.set x8.toNat (nB x6)) k0
   else none
  else
  k0 x9
noncomputable def Q15.f (N:Nat)(a1:List Int)(a2 a3:Int):Option (List Int):=
 bif decide (a3=a3)&&decide (0≤a3)&&decide (a3≤9223372036854775807)&&jB a3.toNat 4 then
  Q15.l4 N N a1 a2 0 ((List.replicate a3.toNat (0:Int)).length:Int) 0 (List.replicate a3.toNat (0:Int))
   (fun y11=>
    some y11)
 else none
noncomputable def Q15.h4:yC:=⟨[(0,.il .u32 1),(1,.any),(7,.row .u32 1),(8,.any),(13,.any),(14,.any)],[(7,.row .u32 1)]⟩
noncomputable def Q15.c4 (N:Nat):uH:=⟨fun vs H k=>match vs,H with
 | [.il .u32 1 x4,.c (.int .i64 x5),.sw 0 1,.c (.int .u64 x6),.c (.int .i64 x7),.c (.int .i64 x8)],[.ints .u32 x9]=>Q15.l4 N N x4 x5 x6 x7 x8 x9 (fun x10=>k (.exit 0) ⟨xC Q15.h4.out [.sw 0 1],[.ints .u32 x10]⟩)
 |_,_=>none⟩
noncomputable def Q15.E (N:Nat):bD:=xE [(78,bQ),(98,yN),(143,wI)] [] [(4,Q15.h4)] [(4,Q15.c4 N)] N [.tmp 6] [.row .u32 1] 0 39 true
noncomputable def Q15.b4:Code:=sA ((eA (bo Tryz.f166)).getD 0 .skip)
theorem Q15.l4_eq {R:Type}(N n:Nat)(x4:List Int)(x5 x6:Int)(x7 x8:Int)(x9:List Int)(k:Ex→St→Option R):
  gB 0 Q15.h4 (fun s k=>bB (Q15.E N) 393 Q15.b4 s k) n [.il .u32 1 x4,.c (.int .i64 x5),.sw 0 1,.c (.int .u64 x6),.c (.int .i64 x7),.c (.int .i64 x8)] [.ints .u32 x9] k=Q15.l4 N n x4 x5 x6 x7 x8 x9 (fun x10=>k (.exit 0) ⟨xC Q15.h4.out [.sw 0 1],[.ints .u32 x10]⟩):=by
 induction n generalizing x4 x5 x6 x7 x8 x9 with
 |zero=>kernel_rfl
 |succ n ih=>
  simp only[Q15.l4,←ih]
  kernel_rfl
noncomputable def Q15.dec (v:V)(bs:List rA):Option (List Int):=match v,bs with
 | .sw 0 1,[.ints .u32 z0]=>some z0
 |_,_=>none
theorem Q15.f_eq (N:Nat)(a1:List Int)(a2 a3:Int):
  cB (Q15.E N) (bo Tryz.f166) [.il .u32 1 a1,.c (.int .i64 a2),.c (.int .i64 a3)] [] Q15.dec=Q15.f N a1 a2 a3:=by kernel_rfl
noncomputable def Q15.ent (N:Nat):xA:=tF (List Int) 1 [true,true,true] [.il .u32 1,.any,.any] fun
 | [.il .u32 1 a1,.c (.int .i64 a2),.c (.int .i64 a3)]=>some (Q15.f N a1 a2 a3,fun r=>.one (.sw 0 1) [.ints .u32 r])
 |_=>none
theorem Q15.env (N:Nat):aB Tryz.prog (Q15.E N):=⟨(.cons nF (.cons nE (.cons zD .nil))),.nil⟩
theorem Q15.k4 (N:Nat):uB Tryz.prog Tryz.f166 (Q15.E N) (.loop Q15.b4):=zC (Q15.env N) bA 393 (c:=Q15.c4 N) cA.n fun R vs H k r h=>by unfold Q15.c4 at h;dsimp only at h;split at h;exact⟨_,Q15.l4_eq .. ▸h⟩;cases h
theorem Q15.spec (N:Nat)(a1:List Int)(a2 a3:Int)(r:List Int)(h:Q15.f N a1 a2 a3=some r):fA Tryz.prog 166 [.il .u32 1 a1,.c (.int .i64 a2),.c (.int .i64 a3)] [] (.sw 0 1) ([.ints .u32 r]):=vA (Q15.env N) bA Tryz.func166 (cA.of (l:=[(.loop (sA ((eA (bo Tryz.f166)).getD 0 .skip)))]) (by kernel_rfl) (cA.cons (Q15.k4 N) cA.nil)) ((Q15.f_eq ..).trans h) fun v b e=>by unfold Q15.dec at e;split at e<;>cases e;exact⟨rfl,rfl⟩
theorem Q15.ent_ok (N:Nat):uA Tryz.prog 166 (Q15.ent N):=yA fun v a e h=>by split at h;exact mC (Q:=fun e=>fA _ _ _ _ (e a).pick.1 (e a).pick.2) h fun k=>Q15.spec N _ _ _ a k;cases h
noncomputable def Q16.l3 {R:Type}(N:Nat):Nat→List Int→Int→Int→Int→List Int→(List Int→Option R)→Option R
 |0,_,_,_,_,_,_=>none
 |n+1,x3,x4,x5,x6,x7,k0=>
  bif decide (x6<x5)then
   bif (decide (0≤x6))&&(decide (x6<(x3.length:Int)))then
    bif decide ((aA (x6+1))<(x3.length:Int))then
     bif (decide (0≤(aA (x6+1))))&&(decide ((aA (x6+1))<(x3.length:Int)))then
      bif decide (0≤x4)then
       bif (decide (0≤x6))&&(decide (x6<(x7.length:Int)))then
        Q16.l3 N n x3 x4 x5 (aA (x6+1)) (x7.set x6.toNat (nB (Int.fdiv (vD .u64 (gA (x3.getD x6.toNat 0)) (gA ((gA (x3.getD ((aA (x6+1)).toNat) 0))*2^32))) (2^(min x4.toNat 64))))) k0
       else none
      else none
     else none
    else
    bif decide (0≤x4)then
     bif (decide (0≤x6))&&(decide (x6<(x7.length:Int)))then
      Q16.l3 N n x3 x4 x5 (aA (x6+1)) (x7.set x6.toNat (nB (Int.fdiv (gA (x3.getD x6.toNat 0)) (2^(min x4.toNat 64))))) k0
     else none
    else none
   else none
  else
  k0 x7
noncomputable def Q16.f (N:Nat)(a1:List Int)(a2:Int):Option (List Int):=
 bif decide ((a1.length:Int)=(a1.length:Int))&&decide (0≤(a1.length:Int))&&decide ((a1.length:Int)≤9223372036854775807)&&jB ((a1.length:Int).toNat) 4 then
  Q16.l3 N N a1 a2 (a1.length:Int) 0 (List.replicate ((a1.length:Int).toNat) (0:Int))
   (fun y9=>
    (Q2.f N 0 y9.length y9).bind fun r10=>
    some ((r10.2.2.drop r10.1).take r10.2.1))
 else none
noncomputable def Q16.h3:yC:=⟨[(0,.il .u32 1),(1,.any),(4,.box [.any]),(5,.row .u32 1),(12,.any),(13,.any)],[(4,.box [.any]),(5,.row .u32 1)]⟩
noncomputable def Q16.c3 (N:Nat):uH:=⟨fun vs H k=>match vs,H with
 | [.il .u32 1 x3,.c (.int .i64 x4),.ptr 0 0 1,.sw 1 1,.c (.int .i64 x5),.c (.int .i64 x6)],[.vals [.c (.slice none 0 0)],.ints .u32 x7]=>Q16.l3 N N x3 x4 x5 x6 x7 (fun x8=>k (.exit 0) ⟨xC Q16.h3.out [.ptr 0 0 1,.sw 1 1],[.vals [.c (.slice none 0 0)],.ints .u32 x8]⟩)
 |_,_=>none⟩
noncomputable def Q16.E (N:Nat):bD:=xE [(78,bQ),(98,yN),(110,eF),(143,wI)] [(152,Q2.ent N)] [(3,Q16.h3)] [(3,Q16.c3 N)] N [.cell 4 110] [.recd [.il .u32 1]] 0 45
noncomputable def Q16.b3:Code:=sA ((eA (bo Tryz.f168)).getD 0 .skip)
theorem Q16.l3_eq {R:Type}(N n:Nat)(x3:List Int)(x4 x5 x6:Int)(x7:List Int)(k:Ex→St→Option R):
  gB 0 Q16.h3 (fun s k=>bB (Q16.E N) 394 Q16.b3 s k) n [.il .u32 1 x3,.c (.int .i64 x4),.ptr 0 0 1,.sw 1 1,.c (.int .i64 x5),.c (.int .i64 x6)] [.vals [.c (.slice none 0 0)],.ints .u32 x7] k=Q16.l3 N n x3 x4 x5 x6 x7 (fun x8=>k (.exit 0) ⟨xC Q16.h3.out [.ptr 0 0 1,.sw 1 1],[.vals [.c (.slice none 0 0)],.ints .u32 x8]⟩):=by
 induction n generalizing x3 x4 x5 x6 x7 with
 |zero=>kernel_rfl
 |succ n ih=>
  simp only[Q16.l3,←ih]
  kernel_rfl
noncomputable def Q16.dec (v:V)(bs:List rA):Option (List Int):=match v,bs with
 | .agg [.il .u32 1 z0],[]=>some z0
 |_,_=>none
theorem Q16.f_eq (N:Nat)(a1:List Int)(a2:Int):
  cB (Q16.E N) (bo Tryz.f168) [.il .u32 1 a1,.c (.int .i64 a2)] [] Q16.dec=Q16.f N a1 a2:=by kernel_rfl
noncomputable def Q16.ent (N:Nat):xA:=tF (List Int) 0 [true,true] [.il .u32 1,.any] fun
 | [.il .u32 1 a1,.c (.int .i64 a2)]=>some (Q16.f N a1 a2,fun r=>.one (.agg [.il .u32 1 r]) [])
 |_=>none
theorem Q16.env (N:Nat):aB Tryz.prog (Q16.E N):=⟨(.cons nF (.cons nE (.cons gC (.cons zD .nil)))),(.cons (Q2.ent_ok N) .nil)⟩
theorem Q16.k3 (N:Nat):uB Tryz.prog Tryz.f168 (Q16.E N) (.loop Q16.b3):=zC (Q16.env N) bA 394 (c:=Q16.c3 N) cA.n fun R vs H k r h=>by unfold Q16.c3 at h;dsimp only at h;split at h;exact⟨_,Q16.l3_eq .. ▸h⟩;cases h
theorem Q16.spec (N:Nat)(a1:List Int)(a2:Int)(r:List Int)(h:Q16.f N a1 a2=some r):fA Tryz.prog 168 [.il .u32 1 a1,.c (.int .i64 a2)] [] (.agg [.il .u32 1 r]) ([]):=vA (Q16.env N) bA Tryz.func168 (cA.of (l:=[(.loop (sA ((eA (bo Tryz.f168)).getD 0 .skip)))]) (by kernel_rfl) (cA.cons (Q16.k3 N) cA.nil)) ((Q16.f_eq ..).trans h) fun v b e=>by unfold Q16.dec at e;split at e<;>cases e;exact⟨rfl,rfl⟩
theorem Q16.ent_ok (N:Nat):uA Tryz.prog 168 (Q16.ent N):=yA fun v a e h=>by split at h;exact mC (Q:=fun e=>fA _ _ _ _ (e a).pick.1 (e a).pick.2) h fun k=>Q16.spec N _ _ a k;cases h
noncomputable def Q17.l3 {R:Type}(N:Nat):Nat→Nat→Nat→List Int→Int→Int→Int→Int→Int→List Int→(Int→List Int→Option R)→Option R
 |0,_,_,_,_,_,_,_,_,_,_=>none
 |n+1,x6,x7,x8,x9,x10,x11,x12,x13,x14,k0=>
  bif decide (x13<x12)then
   bif decide (x13<(x8.length:Int))then
    bif (decide (0≤x13))&&(decide (x13<(x8.length:Int)))then
     bif (decide (0≤x13))&&(decide (x13<(x7:Int)))then
      (Q1.f N (x14.getD (x6+x13.toNat) 0) (nB (gA (x10+(gA ((gA (x8.getD x13.toNat 0))*(gA x9)))))) x11).bind fun r15=>
      bif (decide (0≤x13))&&(decide (x13<(x7:Int)))then
       Q17.l3 N n x6 x7 x8 x9 (Int.fdiv (gA (x10+(gA ((gA (x8.getD x13.toNat 0))*(gA x9))))) (2^32)) r15.2 x12 (aA (x13+1)) (x14.set (x6+x13.toNat) r15.1) k0
      else none
     else none
    else none
   else
   bif (decide (0≤x13))&&(decide (x13<(x7:Int)))then
    (Q1.f N (x14.getD (x6+x13.toNat) 0) (nB x10) x11).bind fun r16=>
    bif (decide (0≤x13))&&(decide (x13<(x7:Int)))then
     Q17.l3 N n x6 x7 x8 x9 (Int.fdiv x10 (2^32)) r16.2 x12 (aA (x13+1)) (x14.set (x6+x13.toNat) r16.1) k0
    else none
   else none
  else
  k0 x11 x14
noncomputable def Q17.f (N a1 a2:Nat)(a3:List Int)(a4:Int)(a5:List Int):Option (Bool×List Int):=
 Q17.l3 N N a1 a2 a3 a4 0 0 (a2:Int) 0 a5
  (fun y19 y20=>
   some (y19 != 0,y20))
noncomputable def Q17.h3:yC:=⟨[(0,.any),(1,.il .u32 1),(2,.any),(7,.any),(8,.any),(11,.any),(12,.any)],[(8,.any)]⟩
noncomputable def Q17.c3 (N:Nat):uH:=⟨fun vs H k=>match vs,H with
 | [.sl 0 1 x6 x7,.il .u32 1 x8,.c (.int .u32 x9),.c (.int .u64 x10),.c (.int .u32 x11),.c (.int .i64 x12),.c (.int .i64 x13)],[.ints .u32 x14]=>Q17.l3 N N x6 x7 x8 x9 x10 x11 x12 x13 x14 (fun x17 x18=>k (.exit 0) ⟨xC Q17.h3.out [.c (.int .u32 x17)],[.ints .u32 x18]⟩)
 |_,_=>none⟩
noncomputable def Q17.E (N:Nat):bD:=xE [(78,bQ),(98,yN),(143,wI)] [(172,Q1.ent N)] [(3,Q17.h3)] [(3,Q17.c3 N)] N [.tmp 6] [.any] 1 48
noncomputable def Q17.b3:Code:=sA ((eA (bo Tryz.f167)).getD 0 .skip)
theorem Q17.l3_eq {R:Type}(N n x6 x7:Nat)(x8:List Int)(x9 x10:Int)(x11 x12 x13:Int)(x14:List Int)(k:Ex→St→Option R):
  gB 1 Q17.h3 (fun s k=>bB (Q17.E N) 394 Q17.b3 s k) n [.sl 0 1 x6 x7,.il .u32 1 x8,.c (.int .u32 x9),.c (.int .u64 x10),.c (.int .u32 x11),.c (.int .i64 x12),.c (.int .i64 x13)] [.ints .u32 x14] k=Q17.l3 N n x6 x7 x8 x9 x10 x11 x12 x13 x14 (fun x17 x18=>k (.exit 0) ⟨xC Q17.h3.out [.c (.int .u32 x17)],[.ints .u32 x18]⟩):=by
 induction n generalizing x6 x7 x8 x9 x10 x11 x12 x13 x14 with
 |zero=>kernel_rfl
 |succ n ih=>
  simp only[Q17.l3,←ih]
  kernel_rfl
noncomputable def Q17.dec (v:V)(bs:List rA):Option (Bool×List Int):=match v,bs with
 | .c (.bool z0),[.ints .u32 z1]=>some (z0,z1)
 |_,_=>none
theorem Q17.f_eq (N a1 a2:Nat)(a3:List Int)(a4:Int)(a5:List Int):
  cB (Q17.E N) (bo Tryz.f167) [.sl 0 1 a1 a2,.il .u32 1 a3,.c (.int .u32 a4)] [.ints .u32 a5] Q17.dec=Q17.f N a1 a2 a3 a4 a5:=by kernel_rfl
noncomputable def Q17.ent (N:Nat):xA:={A:=Bool×List Int,fresh:=0,imm:=[false,true,true],dec:=fun args bs=>match eG (nA bs) [true,false,false] args,bs with
 | [.sl 0 1 a1 a2,.il .u32 1 a3,.c (.int .u32 a4)],[.ints .u32 a5]=>some (Q17.f N a1 a2 a3 a4 a5,fun r=>.one (.c (.bool r.1)) [.ints .u32 r.2])
 |_,_=>none}
theorem Q17.env (N:Nat):aB Tryz.prog (Q17.E N):=⟨(.cons nF (.cons nE (.cons zD .nil))),(.cons (Q1.ent_ok N) .nil)⟩
theorem Q17.k3 (N:Nat):uB Tryz.prog Tryz.f167 (Q17.E N) (.loop Q17.b3):=zC (Q17.env N) bA 394 (c:=Q17.c3 N) cA.n fun R vs H k r h=>by unfold Q17.c3 at h;dsimp only at h;split at h;exact⟨_,Q17.l3_eq .. ▸h⟩;cases h
theorem Q17.spec (N a1 a2:Nat)(a3:List Int)(a4:Int)(a5:List Int)(r:Bool×List Int)(h:Q17.f N a1 a2 a3 a4 a5=some r):fA Tryz.prog 167 [.sl 0 1 a1 a2,.il .u32 1 a3,.c (.int .u32 a4)] [.ints .u32 a5] (.c (.bool r.1)) ([.ints .u32 r.2]):=vA (Q17.env N) bA Tryz.func167 (cA.of (l:=[(.loop (sA ((eA (bo Tryz.f167)).getD 0 .skip)))]) (by kernel_rfl) (cA.cons (Q17.k3 N) cA.nil)) ((Q17.f_eq ..).trans h) fun v b e=>by unfold Q17.dec at e;split at e<;>cases e;exact⟨rfl,rfl⟩
theorem Q17.ent_ok (N:Nat):uA Tryz.prog 167 (Q17.ent N):=by
 intro args bs a enc h;simp only[Q17.ent]at h;split at h
 ·rename_i hz;have h0:=Option.some.inj h;have h1:=congrArg Prod.fst h0;have h2:=congrArg Prod.snd h0;dsimp only at h1 h2;subst h2;exact fA.of_asSl (fl:=[true,false,false]) (by rw[hz];exact Q17.spec N _ _ _ _ _ a h1)
 ·cases h
noncomputable def Q18.l11 {R:Type}(N:Nat):Nat→Int→Int→Int→Int→Int→List Int→List Int→List Int→(Int→Int→Int→Int→List Int→List Int→List Int→Option R)→Option R
 |0,_,_,_,_,_,_,_,_,_=>none
 |n+1,x12,x13,x14,x15,x16,x17,x18,x19,k2=>
  bif (Int.fdiv x15 (2^32)) != 0 then
   bif (decide (0≤(aA (x12-1))))&&(decide ((aA (x12-1))<(x17.length:Int)))then
    bif (Int.fdiv (gA (x16+(gA (x17.getD ((aA (x12-1)).toNat) 0)))) (2^32)) != 0 then
     k2 x12 x13 x14 (gA (x15-1)) x17 x18 x19
    else
    Q18.l11 N n x12 x13 x14 (gA (x15-1)) (gA (x16+(gA (x17.getD ((aA (x12-1)).toNat) 0)))) x17 x18 x19 k2
   else none
  else
  bif (decide (0≤(aA (x12-2))))&&(decide ((aA (x12-2))<(x17.length:Int)))then
   bif (decide (0≤(aA ((aA (x14+x12))-2))))&&(decide ((aA ((aA (x14+x12))-2))<(x18.length:Int)))then
    bif decide ((gA (x15*(gA (x17.getD ((aA (x12-2)).toNat) 0))))>(vD .u64 (gA (x16*2^32)) (gA (x18.getD ((aA ((aA (x14+x12))-2)).toNat) 0))))then
     bif (decide (0≤(aA (x12-1))))&&(decide ((aA (x12-1))<(x17.length:Int)))then
      bif (Int.fdiv (gA (x16+(gA (x17.getD ((aA (x12-1)).toNat) 0)))) (2^32)) != 0 then
       k2 x12 x13 x14 (gA (x15-1)) x17 x18 x19
      else
      Q18.l11 N n x12 x13 x14 (gA (x15-1)) (gA (x16+(gA (x17.getD ((aA (x12-1)).toNat) 0)))) x17 x18 x19 k2
     else none
    else
    k2 x12 x13 x14 x15 x17 x18 x19
   else none
  else none
noncomputable def Q18.l21 {R:Type}(N:Nat):Nat→Int→Int→Int→Nat→Nat→Int→Int→Int→List Int→List Int→List Int→(Int→Int→Int→List Int→List Int→List Int→Option R)→Option R
 |0,_,_,_,_,_,_,_,_,_,_,_,_=>none
 |n+1,x35,x36,x37,x38,x39,x40,x41,x42,x43,x44,x45,k4=>
  bif decide (x42<x41)then
   bif (decide (0≤x42))&&(decide (x42<(x39:Int)))then
    bif decide (x42<x35)then
     bif (decide (0≤x42))&&(decide (x42<(x43.length:Int)))then
      bif (decide (0≤x42))&&(decide (x42<(x39:Int)))then
       Q18.l21 N n x35 x36 x37 x38 x39 (Int.fdiv (gA ((gA (x40+(gA (x44.getD (x38+x42.toNat) 0))))+(gA (x43.getD x42.toNat 0)))) (2^32)) x41 (aA (x42+1)) x43 (x44.set (x38+x42.toNat) (nB (gA ((gA (x40+(gA (x44.getD (x38+x42.toNat) 0))))+(gA (x43.getD x42.toNat 0)))))) x45 k4
      else none
     else none
    else
    bif (decide (0≤x42))&&(decide (x42<(x39:Int)))then
     Q18.l21 N n x35 x36 x37 x38 x39 (Int.fdiv (gA (x40+(gA (x44.getD (x38+x42.toNat) 0)))) (2^32)) x41 (aA (x42+1)) x43 (x44.set (x38+x42.toNat) (nB (gA (x40+(gA (x44.getD (x38+x42.toNat) 0)))))) x45 k4
    else none
   else none
  else
  k4 x35 x36 x37 x43 x44 x45
noncomputable def Q18.l7 {R:Type}(N:Nat):Nat→Int→Int→Int→List Int→List Int→List Int→(Int→List Int→List Int→Option R)→Option R
 |0,_,_,_,_,_,_,_=>none
 |n+1,x6,x7,x8,x9,x10,x11,k0=>
  bif decide (x8≥0)then
   bif (decide (0≤(aA (x8+x6))))&&(decide ((aA (x8+x6))<(x10.length:Int)))then
    bif (decide (0≤(aA ((aA (x8+x6))-1))))&&(decide ((aA ((aA (x8+x6))-1))<(x10.length:Int)))then
     bif (decide (0≤(aA (x6-1))))&&(decide ((aA (x6-1))<(x9.length:Int)))then
      bif !((gA (x9.getD ((aA (x6-1)).toNat) 0))==0)then
       bif (decide (0≤(aA (x6-1))))&&(decide ((aA (x6-1))<(x9.length:Int)))then
        bif !((gA (x9.getD ((aA (x6-1)).toNat) 0))==0)then
         Q18.l11 N N x6 x7 x8 (gA (Int.tdiv (vD .u64 (gA ((gA (x10.getD ((aA (x8+x6)).toNat) 0))*2^32)) (gA (x10.getD ((aA ((aA (x8+x6))-1)).toNat) 0))) (gA (x9.getD ((aA (x6-1)).toNat) 0)))) (Int.tmod (vD .u64 (gA ((gA (x10.getD ((aA (x8+x6)).toNat) 0))*2^32)) (gA (x10.getD ((aA ((aA (x8+x6))-1)).toNat) 0))) (gA (x9.getD ((aA (x6-1)).toNat) 0))) x9 x10 x11
          (fun y27 y28 y29 y30 y31 y32 y33=>
           bif (((decide (0≤y29))&&(decide (y29≤(aA ((aA (y29+y27))+1)))))&&(decide ((aA ((aA (y29+y27))+1))≤(aA ((aA (y29+y27))+1)))))&&(decide ((aA ((aA (y29+y27))+1))≤(y32.length:Int)))then
            (Q17.f N y29.toNat (((aA ((aA (y29+y27))+1)).toNat)-y29.toNat) y31 (nB y30) y32).bind fun r34=>
            bif !r34.1 then
             bif (decide (0≤y29))&&(decide (y29<(y33.length:Int)))then
              Q18.l7 N n y27 y28 (aA (y29-1)) y31 r34.2 (y33.set y29.toNat (nB y30)) k0
             else none
            else
            bif (decide (0≤y29))&&(decide (y29<(y33.length:Int)))then
             Q18.l21 N N y27 y28 y29 y29.toNat (((aA ((aA (y29+y27))+1)).toNat)-y29.toNat) 0 ((((aA ((aA (y29+y27))+1)).toNat)-y29.toNat:Nat):Int) 0 y31 r34.2 (y33.set y29.toNat (nB ((nB y30)-1)))
              (fun y52 y53 y54 y55 y56 y57=>
               Q18.l7 N n y52 y53 (aA (y54-1)) y55 y56 y57 k0)
            else none
           else none)
        else none
       else none
      else none
     else none
    else none
   else none
  else
  k0 x7 x10 x11
noncomputable def Q18.f (N:Nat)(a1 a2:List Int):Option (List Int×List Int):=
 bif (decide (0≤(aA ((a2.length:Int)-1))))&&(decide ((aA ((a2.length:Int)-1))<(a2.length:Int)))then
  (Q13.f N (a2.getD ((aA ((a2.length:Int)-1)).toNat) 0)).bind fun r3=>
  (Q15.f N a2 r3 (a2.length:Int)).bind fun r4=>
  (Q15.f N a1 r3 (aA ((a1.length:Int)+1))).bind fun r5=>
  bif decide (aA ((r5.length:Int)- (a2.length:Int))=aA ((r5.length:Int)- (a2.length:Int)))&&decide (0≤aA ((r5.length:Int)- (a2.length:Int)))&&decide (aA ((r5.length:Int)- (a2.length:Int))≤9223372036854775807)&&jB ((aA ((r5.length:Int)- (a2.length:Int))).toNat) 4 then
   Q18.l7 N N (a2.length:Int) r3 (aA ((aA ((r5.length:Int)- (a2.length:Int)))-1)) r4 r5 (List.replicate ((aA ((r5.length:Int)- (a2.length:Int))).toNat) (0:Int))
    (fun y61 y62 y63=>
     (Q2.f N 0 y63.length y63).bind fun r64=>
     (Q16.f N y62 y61).bind fun r65=>
     some ((r64.2.2.drop r64.1).take r64.2.1,r65))
  else none
 else none
noncomputable def Q18.h7:yC:=⟨[(4,.box [.any]),(5,.box [.any]),(6,.any),(7,.any),(8,.row .u32 1),(9,.row .u32 1),(11,.row .u32 1),(12,.any)],[(4,.box [.any]),(5,.box [.any]),(7,.any),(9,.row .u32 1),(11,.row .u32 1)]⟩
noncomputable def Q18.h11:yC:=⟨[(4,.box [.any]),(5,.box [.any]),(6,.any),(7,.any),(8,.row .u32 1),(9,.row .u32 1),(11,.row .u32 1),(12,.any),(14,.any),(15,.any)],[(4,.box [.any]),(5,.box [.any]),(6,.any),(7,.any),(8,.row .u32 1),(9,.row .u32 1),(11,.row .u32 1),(12,.any),(14,.any)]⟩
noncomputable def Q18.h21:yC:=⟨[(4,.box [.any]),(5,.box [.any]),(6,.any),(7,.any),(8,.row .u32 1),(9,.row .u32 1),(11,.row .u32 1),(12,.any),(16,.part .u32 1),(17,.any),(156,.any),(157,.any)],[(4,.box [.any]),(5,.box [.any]),(6,.any),(7,.any),(8,.row .u32 1),(9,.row .u32 1),(11,.row .u32 1),(12,.any)]⟩
noncomputable def Q18.c11 (N:Nat):uH:=⟨fun vs H k=>match vs,H with
 | [.ptr 0 0 1,.ptr 1 0 1,.c (.int .i64 x12),.c (.int .i64 x13),.sw 2 1,.sw 3 1,.sw 4 1,.c (.int .i64 x14),.c (.int .u64 x15),.c (.int .u64 x16)],[.vals [.c (.slice none 0 0)],.vals [.c (.slice none 0 0)],.ints .u32 x17,.ints .u32 x18,.ints .u32 x19]=>Q18.l11 N N x12 x13 x14 x15 x16 x17 x18 x19 (fun x20 x21 x22 x23 x24 x25 x26=>k (.exit 2) ⟨xC Q18.h11.out [.ptr 0 0 1,.ptr 1 0 1,.c (.int .i64 x20),.c (.int .i64 x21),.sw 2 1,.sw 3 1,.sw 4 1,.c (.int .i64 x22),.c (.int .u64 x23)],[.vals [.c (.slice none 0 0)],.vals [.c (.slice none 0 0)],.ints .u32 x24,.ints .u32 x25,.ints .u32 x26]⟩)
 |_,_=>none⟩
noncomputable def Q18.c21 (N:Nat):uH:=⟨fun vs H k=>match vs,H with
 | [.ptr 0 0 1,.ptr 1 0 1,.c (.int .i64 x35),.c (.int .i64 x36),.sw 2 1,.sw 3 1,.sw 4 1,.c (.int .i64 x37),.sl 3 1 x38 x39,.c (.int .u64 x40),.c (.int .i64 x41),.c (.int .i64 x42)],[.vals [.c (.slice none 0 0)],.vals [.c (.slice none 0 0)],.ints .u32 x43,.ints .u32 x44,.ints .u32 x45]=>Q18.l21 N N x35 x36 x37 x38 x39 x40 x41 x42 x43 x44 x45 (fun x46 x47 x48 x49 x50 x51=>k (.exit 4) ⟨xC Q18.h21.out [.ptr 0 0 1,.ptr 1 0 1,.c (.int .i64 x46),.c (.int .i64 x47),.sw 2 1,.sw 3 1,.sw 4 1,.c (.int .i64 x48)],[.vals [.c (.slice none 0 0)],.vals [.c (.slice none 0 0)],.ints .u32 x49,.ints .u32 x50,.ints .u32 x51]⟩)
 |_,_=>none⟩
noncomputable def Q18.c7 (N:Nat):uH:=⟨fun vs H k=>match vs,H with
 | [.ptr 0 0 1,.ptr 1 0 1,.c (.int .i64 x6),.c (.int .i64 x7),.sw 2 1,.sw 3 1,.sw 4 1,.c (.int .i64 x8)],[.vals [.c (.slice none 0 0)],.vals [.c (.slice none 0 0)],.ints .u32 x9,.ints .u32 x10,.ints .u32 x11]=>Q18.l7 N N x6 x7 x8 x9 x10 x11 (fun x58 x59 x60=>k (.exit 0) ⟨xC Q18.h7.out [.ptr 0 0 1,.ptr 1 0 1,.c (.int .i64 x58),.sw 2 1,.sw 3 1],[.vals [.c (.slice none 0 0)],.vals [.c (.slice none 0 0)],.ints .u32 x59,.ints .u32 x60]⟩)
 |_,_=>none⟩
noncomputable def Q18.E (N:Nat):bD:=xE [(78,bQ),(98,yN),(110,eF),(143,wI)] [(165,Q13.ent N),(166,Q15.ent N),(167,Q17.ent N),(152,Q2.ent N),(168,Q16.ent N)] [(7,Q18.h7),(11,Q18.h11),(21,Q18.h21)] [(11,Q18.c11 N),(21,Q18.c21 N),(7,Q18.c7 N)] N [.cell 4 110,.cell 5 110] [.recd [.il .u32 1],.recd [.il .u32 1]] 0 190
noncomputable def Q18.b11:Code:=sA ((eA (bo Tryz.f159)).getD 2 .skip)
theorem Q18.l11_eq {R:Type}(N n:Nat)(x12 x13:Int)(x14 x15 x16:Int)(x17 x18 x19:List Int)(k:Ex→St→Option R):
  gB 0 Q18.h11 (fun s k=>bB (Q18.E N) 380 Q18.b11 s k) n [.ptr 0 0 1,.ptr 1 0 1,.c (.int .i64 x12),.c (.int .i64 x13),.sw 2 1,.sw 3 1,.sw 4 1,.c (.int .i64 x14),.c (.int .u64 x15),.c (.int .u64 x16)] [.vals [.c (.slice none 0 0)],.vals [.c (.slice none 0 0)],.ints .u32 x17,.ints .u32 x18,.ints .u32 x19] k=Q18.l11 N n x12 x13 x14 x15 x16 x17 x18 x19 (fun x20 x21 x22 x23 x24 x25 x26=>k (.exit 2) ⟨xC Q18.h11.out [.ptr 0 0 1,.ptr 1 0 1,.c (.int .i64 x20),.c (.int .i64 x21),.sw 2 1,.sw 3 1,.sw 4 1,.c (.int .i64 x22),.c (.int .u64 x23)],[.vals [.c (.slice none 0 0)],.vals [.c (.slice none 0 0)],.ints .u32 x24,.ints .u32 x25,.ints .u32 x26]⟩):=by
 induction n generalizing x12 x13 x14 x15 x16 x17 x18 x19 with
 |zero=>kernel_rfl
 |succ n ih=>
  simp only[Q18.l11,←ih]
  kernel_rfl
noncomputable def Q18.b21:Code:=sA ((eA (bo Tryz.f159)).getD 3 .skip)
theorem Q18.l21_eq {R:Type}(N n:Nat)(x35 x36 x37:Int)(x38 x39:Nat)(x40 x41 x42:Int)(x43 x44 x45:List Int)(k:Ex→St→Option R):
  gB 0 Q18.h21 (fun s k=>bB (Q18.E N) 375 Q18.b21 s k) n [.ptr 0 0 1,.ptr 1 0 1,.c (.int .i64 x35),.c (.int .i64 x36),.sw 2 1,.sw 3 1,.sw 4 1,.c (.int .i64 x37),.sl 3 1 x38 x39,.c (.int .u64 x40),.c (.int .i64 x41),.c (.int .i64 x42)] [.vals [.c (.slice none 0 0)],.vals [.c (.slice none 0 0)],.ints .u32 x43,.ints .u32 x44,.ints .u32 x45] k=Q18.l21 N n x35 x36 x37 x38 x39 x40 x41 x42 x43 x44 x45 (fun x46 x47 x48 x49 x50 x51=>k (.exit 4) ⟨xC Q18.h21.out [.ptr 0 0 1,.ptr 1 0 1,.c (.int .i64 x46),.c (.int .i64 x47),.sw 2 1,.sw 3 1,.sw 4 1,.c (.int .i64 x48)],[.vals [.c (.slice none 0 0)],.vals [.c (.slice none 0 0)],.ints .u32 x49,.ints .u32 x50,.ints .u32 x51]⟩):=by
 induction n generalizing x35 x36 x37 x38 x39 x40 x41 x42 x43 x44 x45 with
 |zero=>kernel_rfl
 |succ n ih=>
  simp only[Q18.l21,←ih]
  kernel_rfl
noncomputable def Q18.b7:Code:=sA ((eA (bo Tryz.f159)).getD 1 .skip)
theorem Q18.l7_eq {R:Type}(N n:Nat)(x6 x7 x8:Int)(x9 x10 x11:List Int)(k:Ex→St→Option R):
  gB 0 Q18.h7 (fun s k=>bB (Q18.E N) 388 Q18.b7 s k) n [.ptr 0 0 1,.ptr 1 0 1,.c (.int .i64 x6),.c (.int .i64 x7),.sw 2 1,.sw 3 1,.sw 4 1,.c (.int .i64 x8)] [.vals [.c (.slice none 0 0)],.vals [.c (.slice none 0 0)],.ints .u32 x9,.ints .u32 x10,.ints .u32 x11] k=Q18.l7 N n x6 x7 x8 x9 x10 x11 (fun x58 x59 x60=>k (.exit 0) ⟨xC Q18.h7.out [.ptr 0 0 1,.ptr 1 0 1,.c (.int .i64 x58),.sw 2 1,.sw 3 1],[.vals [.c (.slice none 0 0)],.vals [.c (.slice none 0 0)],.ints .u32 x59,.ints .u32 x60]⟩):=by
 induction n generalizing x6 x7 x8 x9 x10 x11 with
 |zero=>kernel_rfl
 |succ n ih=>
  simp only[Q18.l7,←ih]
  kernel_rfl
noncomputable def Q18.dec (v:V)(bs:List rA):Option (List Int×List Int):=match v,bs with
 | .tup [.agg [.il .u32 1 z0],.agg [.il .u32 1 z1]],[]=>some (z0,z1)
 |_,_=>none
theorem Q18.f_eq (N:Nat)(a1 a2:List Int):
  cB (Q18.E N) (bo Tryz.f159) [.agg [.il .u32 1 a1],.agg [.il .u32 1 a2]] [] Q18.dec=Q18.f N a1 a2:=by kernel_rfl
noncomputable def Q18.ent (N:Nat):xA:=tF (List Int×List Int) 0 [true,true] [.recd [.il .u32 1],.recd [.il .u32 1]] fun
 | [.agg [.il .u32 1 a1],.agg [.il .u32 1 a2]]=>some (Q18.f N a1 a2,fun r=>.one (.tup [.agg [.il .u32 1 r.1],.agg [.il .u32 1 r.2]]) [])
 |_=>none
theorem Q18.env (N:Nat):aB Tryz.prog (Q18.E N):=⟨(.cons nF (.cons nE (.cons gC (.cons zD .nil)))),(.cons (Q13.ent_ok N) (.cons (Q15.ent_ok N) (.cons (Q17.ent_ok N) (.cons (Q2.ent_ok N) (.cons (Q16.ent_ok N) .nil)))))⟩
theorem Q18.k21 (N:Nat):uB Tryz.prog Tryz.f159 (Q18.E N) (.loop Q18.b21):=zC (Q18.env N) bA 375 (c:=Q18.c21 N) cA.n fun R vs H k r h=>by unfold Q18.c21 at h;dsimp only at h;split at h;exact⟨_,Q18.l21_eq .. ▸h⟩;cases h
theorem Q18.k11 (N:Nat):uB Tryz.prog Tryz.f159 (Q18.E N) (.loop Q18.b11):=zC (Q18.env N) bA 380 (c:=Q18.c11 N) cA.n fun R vs H k r h=>by unfold Q18.c11 at h;dsimp only at h;split at h;exact⟨_,Q18.l11_eq .. ▸h⟩;cases h
theorem Q18.k7 (N:Nat):uB Tryz.prog Tryz.f159 (Q18.E N) (.loop Q18.b7):=zC (Q18.env N) bA 388 (c:=Q18.c7 N) (cA.of (l:=[(.loop (sA ((eA (bo Tryz.f159)).getD 2 .skip))),(.loop (sA ((eA (bo Tryz.f159)).getD 3 .skip)))]) (by kernel_rfl) (cA.cons (Q18.k11 N) (cA.cons (Q18.k21 N) cA.nil))) fun R vs H k r h=>by unfold Q18.c7 at h;dsimp only at h;split at h;exact⟨_,Q18.l7_eq .. ▸h⟩;cases h
theorem Q18.spec (N:Nat)(a1 a2:List Int)(r:List Int×List Int)(h:Q18.f N a1 a2=some r):fA Tryz.prog 159 [.agg [.il .u32 1 a1],.agg [.il .u32 1 a2]] [] (.tup [.agg [.il .u32 1 r.1],.agg [.il .u32 1 r.2]]) ([]):=vA (Q18.env N) bA Tryz.func159 (cA.of (l:=[(.scope (sA ((eA (bo Tryz.f159)).getD 0 .skip))),(.loop (sA ((eA (bo Tryz.f159)).getD 1 .skip))),(.loop (sA ((eA (bo Tryz.f159)).getD 2 .skip))),(.loop (sA ((eA (bo Tryz.f159)).getD 3 .skip)))]) (by kernel_rfl) (cA.cons (pP (by kernel_rfl)) (cA.cons (Q18.k7 N) (cA.cons (Q18.k11 N) (cA.cons (Q18.k21 N) cA.nil))))) ((Q18.f_eq ..).trans h) fun v b e=>by unfold Q18.dec at e;split at e<;>cases e;exact⟨rfl,rfl⟩
theorem Q18.ent_ok (N:Nat):uA Tryz.prog 159 (Q18.ent N):=yA fun v a e h=>by split at h;exact mC (Q:=fun e=>fA _ _ _ _ (e a).pick.1 (e a).pick.2) h fun k=>Q18.spec N _ _ a k;cases h
noncomputable def Q19.f (N:Nat)(a1 a2:List Int):Option (List Int×List Int×Int):=
 bif (a2.length:Int)==0 then
  some ([],[],11)
 else
 (Q7.f N a1 a2).bind fun r3=>
 bif decide (r3<0)then
  some ([],a1,0)
 else
 bif (a2.length:Int)==1 then
  bif jB a1.length 4 then
   bif decide (0<(a2.length:Int))then
    (Q14.f N 0 a1.length (a2.getD 0 0) a1).bind fun r4=>
    (Q2.f N 0 r4.2.length r4.2).bind fun r5=>
    (Q5.f N (gA r4.1)).bind fun r6=>
    some ((r5.2.2.drop r5.1).take r5.2.1,r6,0)
   else none
  else none
 else
 (Q18.f N a1 a2).bind fun r7=>
 some (r7.1,r7.2,0)
noncomputable def Q19.E (N:Nat):bD:=xE [(78,bQ),(98,yN),(110,eF),(143,wI)] [(157,Q7.ent N),(158,Q14.ent N),(152,Q2.ent N),(122,Q5.ent N),(159,Q18.ent N)] [] [] N [.cell 4 110,.cell 5 110,.tmp 6] [.recd [.il .u32 1],.recd [.il .u32 1],.any] 0 47
noncomputable def Q19.dec (v:V)(bs:List rA):Option (List Int×List Int×Int):=match v,bs with
 | .tup [.agg [.il .u32 1 z0],.agg [.il .u32 1 z1],.c (.int .i64 z2)],[]=>some (z0,z1,z2)
 |_,_=>none
theorem Q19.f_eq (N:Nat)(a1 a2:List Int):
  cB (Q19.E N) (bo Tryz.f145) [.agg [.il .u32 1 a1],.agg [.il .u32 1 a2]] [] Q19.dec=Q19.f N a1 a2:=by kernel_rfl
noncomputable def Q19.ent (N:Nat):xA:=tF (List Int×List Int×Int) 0 [true,true] [.recd [.il .u32 1],.recd [.il .u32 1]] fun
 | [.agg [.il .u32 1 a1],.agg [.il .u32 1 a2]]=>some (Q19.f N a1 a2,fun r=>.one (.tup [.agg [.il .u32 1 r.1],.agg [.il .u32 1 r.2.1],.c (.int .i64 r.2.2)]) [])
 |_=>none
theorem Q19.env (N:Nat):aB Tryz.prog (Q19.E N):=⟨(.cons nF (.cons nE (.cons gC (.cons zD .nil)))),(.cons (Q7.ent_ok N) (.cons (Q14.ent_ok N) (.cons (Q2.ent_ok N) (.cons (Q5.ent_ok N) (.cons (Q18.ent_ok N) .nil)))))⟩
theorem Q19.spec (N:Nat)(a1 a2:List Int)(r:List Int×List Int×Int)(h:Q19.f N a1 a2=some r):fA Tryz.prog 145 [.agg [.il .u32 1 a1],.agg [.il .u32 1 a2]] [] (.tup [.agg [.il .u32 1 r.1],.agg [.il .u32 1 r.2.1],.c (.int .i64 r.2.2)]) ([]):=vA (Q19.env N) bA Tryz.func145 cA.n ((Q19.f_eq ..).trans h) fun v b e=>by unfold Q19.dec at e;split at e<;>cases e;exact⟨rfl,rfl⟩
theorem Q19.ent_ok (N:Nat):uA Tryz.prog 145 (Q19.ent N):=yA fun v a e h=>by split at h;exact mC (Q:=fun e=>fA _ _ _ _ (e a).pick.1 (e a).pick.2) h fun k=>Q19.spec N _ _ a k;cases h
noncomputable def Q20.l1 {R:Type}(N:Nat):Nat→List Int→List Int→(List Int→Option R)→Option R
 |0,_,_,_=>none
 |n+1,x3,x4,k0=>
  bif decide ((x4.length:Int)>0)then
   (Q19.f N x3 x4).bind fun r5=>
   Q20.l1 N n x4 r5.2.1 k0
  else
  k0 x3
noncomputable def Q20.f (N:Nat)(a1 a2:List Int):Option (List Int):=
 Q20.l1 N N a1 a2
  (fun y7=>
   some y7)
noncomputable def Q20.h1:yC:=⟨[(2,.box [.il .u32 1]),(3,.box [.il .u32 1]),(4,.box [.any])],[(2,.box [.il .u32 1]),(4,.box [.any])]⟩
noncomputable def Q20.c1 (N:Nat):uH:=⟨fun vs H k=>match vs,H with
 | [.ptr 0 0 1,.ptr 1 0 1,.ptr 2 0 1],[.vals [.il .u32 1 x3],.vals [.il .u32 1 x4],.vals [.c (.slice none 0 0)]]=>Q20.l1 N N x3 x4 (fun x6=>k (.exit 0) ⟨xC Q20.h1.out [.ptr 0 0 1,.ptr 1 0 1],[.vals [.il .u32 1 x6],.vals [.c (.slice none 0 0)]]⟩)
 |_,_=>none⟩
noncomputable def Q20.E (N:Nat):bD:=xE [(98,yN),(110,eF)] [(145,Q19.ent N)] [(1,Q20.h1)] [(1,Q20.c1 N)] N [.cell 4 110] [.recd [.il .u32 1]] 0 22
noncomputable def Q20.b1:Code:=sA ((eA (bo Tryz.f118)).getD 0 .skip)
theorem Q20.l1_eq {R:Type}(N n:Nat)(x3 x4:List Int)(k:Ex→St→Option R):
  gB 0 Q20.h1 (fun s k=>bB (Q20.E N) 396 Q20.b1 s k) n [.ptr 0 0 1,.ptr 1 0 1,.ptr 2 0 1] [.vals [.il .u32 1 x3],.vals [.il .u32 1 x4],.vals [.c (.slice none 0 0)]] k=Q20.l1 N n x3 x4 (fun x6=>k (.exit 0) ⟨xC Q20.h1.out [.ptr 0 0 1,.ptr 1 0 1],[.vals [.il .u32 1 x6],.vals [.c (.slice none 0 0)]]⟩):=by
 induction n generalizing x3 x4 with
 |zero=>kernel_rfl
 |succ n ih=>
  simp only[Q20.l1,←ih]
  kernel_rfl
noncomputable def Q20.dec (v:V)(bs:List rA):Option (List Int):=match v,bs with
 | .agg [.il .u32 1 z0],[]=>some z0
 |_,_=>none
theorem Q20.f_eq (N:Nat)(a1 a2:List Int):
  cB (Q20.E N) (bo Tryz.f118) [.agg [.il .u32 1 a1],.agg [.il .u32 1 a2]] [] Q20.dec=Q20.f N a1 a2:=by kernel_rfl
noncomputable def Q20.ent (N:Nat):xA:=tF (List Int) 0 [true,true] [.recd [.il .u32 1],.recd [.il .u32 1]] fun
 | [.agg [.il .u32 1 a1],.agg [.il .u32 1 a2]]=>some (Q20.f N a1 a2,fun r=>.one (.agg [.il .u32 1 r]) [])
 |_=>none
theorem Q20.env (N:Nat):aB Tryz.prog (Q20.E N):=⟨(.cons nE (.cons gC .nil)),(.cons (Q19.ent_ok N) .nil)⟩
theorem Q20.k1 (N:Nat):uB Tryz.prog Tryz.f118 (Q20.E N) (.loop Q20.b1):=zC (Q20.env N) bA 396 (c:=Q20.c1 N) cA.n fun R vs H k r h=>by unfold Q20.c1 at h;dsimp only at h;split at h;exact⟨_,Q20.l1_eq .. ▸h⟩;cases h
theorem Q20.spec (N:Nat)(a1 a2 r:List Int)(h:Q20.f N a1 a2=some r):fA Tryz.prog 118 [.agg [.il .u32 1 a1],.agg [.il .u32 1 a2]] [] (.agg [.il .u32 1 r]) ([]):=vA (Q20.env N) bA Tryz.func118 (cA.of (l:=[(.loop (sA ((eA (bo Tryz.f118)).getD 0 .skip)))]) (by kernel_rfl) (cA.cons (Q20.k1 N) cA.nil)) ((Q20.f_eq ..).trans h) fun v b e=>by unfold Q20.dec at e;split at e<;>cases e;exact⟨rfl,rfl⟩
theorem Q20.ent_ok (N:Nat):uA Tryz.prog 118 (Q20.ent N):=yA fun v a e h=>by split at h;exact mC (Q:=fun e=>fA _ _ _ _ (e a).pick.1 (e a).pick.2) h fun k=>Q20.spec N _ _ a k;cases h
noncomputable def Q21.l2 {R:Type}(N:Nat):Nat→Nat→Nat→Int→List Int→(Nat→Nat→Int→List Int→Option R)→Option R
 |0,_,_,_,_,_=>none
 |n+1,x4,x5,x6,x7,k0=>
  bif decide (x6>0)then
   bif (decide (0≤(aA (x6-1))))&&(decide ((aA (x6-1))<(x5:Int)))then
    bif (x7.getD (x4+((aA (x6-1)).toNat)) 0)==0 then
     Q21.l2 N n x4 x5 (aA (x6-1)) x7 k0
    else
    k0 x4 x5 x6 x7
   else none
  else
  k0 x4 x5 x6 x7
noncomputable def Q21.f (N a1 a2:Nat)(a3:List Int):Option (Nat×Nat×List Int):=
 Q21.l2 N N a1 a2 (a2:Int) a3
  (fun y12 y13 y14 y15=>
   bif ((decide (0≤y14))&&(decide (y14≤(y13:Int))))&&(decide ((y13:Int)≤(y13:Int)))then
    some (y12,y14.toNat,y15)
   else none)
noncomputable def Q22.l2 {R:Type}(N:Nat):Nat→Int→List Int→(List Int→Option R)→Option R
 |0,_,_,_=>none
 |n+1,x2,x3,k0=>
  bif decide (x2>0)then
   bif jB (x3.length+1) 4 then
    Q22.l2 N n (gA (Int.tdiv x2 65536)) (x3++[nB (Int.tmod x2 65536)]) k0
   else none
  else
  k0 x3
noncomputable def Q22.f (N:Nat)(a1:Int):Option (List Int):=
 Q22.l2 N N a1 []
  (fun y5=>
   some y5)
noncomputable def Q23.l5 {R:Type}(N:Nat):Nat→List Int→Int→Int→(Int→Option R)→Option R
 |0,_,_,_,_=>none
 |n+1,x2,x3,x4,k0=>
  bif decide (x4≥0)then
   bif (decide (0≤x4))&&(decide (x4<(x2.length:Int)))then
    Q23.l5 N n x2 (gA ((gA (x3*65536))+(gA (x2.getD x4.toNat 0)))) (aA (x4-1)) k0
   else none
  else
  k0 x3
noncomputable def Q23.f (N:Nat)(a1:List Int):Option (Int×Bool):=
 bif decide ((a1.length:Int)>4)then
  some (0,false)
 else
 Q23.l5 N N a1 0 (aA ((a1.length:Int)-1))
  (fun y6=>
   some (y6,true))
noncomputable def Q24.l5 {R:Type}(N:Nat):Nat→Int→Int→(Int→Option R)→Option R
 |0,_,_,_=>none
 |n+1,x2,x3,k0=>
  bif decide (x3>0)then
   Q24.l5 N n (aA (x2+1)) (nB (Int.tdiv x3 2)) k0
  else
  k0 x2
noncomputable def Q24.f (N:Nat)(a1:List Int):Option (Int):=
 bif (a1.length:Int)==0 then
  some 0
 else
 bif (decide (0≤(aA ((a1.length:Int)-1))))&&(decide ((aA ((a1.length:Int)-1))<(a1.length:Int)))then
  Q24.l5 N N (aA (16*(aA ((a1.length:Int)-1)))) (a1.getD ((aA ((a1.length:Int)-1)).toNat) 0)
   (fun y5=>
    some y5)
 else none
noncomputable def Q25.l6 {R:Type}(N:Nat):Nat→List Int→List Int→Int→(Unit→Option R)→(Int→Option R)→Option R
 |0,_,_,_,_,_=>none
 |n+1,x3,x4,x5,k0,kr=>
  bif decide (x5≥0)then
   bif (decide (0≤x5))&&(decide (x5<(x3.length:Int)))then
    bif (decide (0≤x5))&&(decide (x5<(x4.length:Int)))then
     bif decide ((x3.getD x5.toNat 0)<(x4.getD x5.toNat 0))then
      kr (-1)
     else
     bif (decide (0≤x5))&&(decide (x5<(x3.length:Int)))then
      bif (decide (0≤x5))&&(decide (x5<(x4.length:Int)))then
       bif decide ((x3.getD x5.toNat 0)>(x4.getD x5.toNat 0))then
        kr 1
       else
       Q25.l6 N n x3 x4 (aA (x5-1)) k0 kr
      else none
     else none
    else none
   else none
  else
  k0 ()
noncomputable def Q25.f (N:Nat)(a1 a2:List Int):Option (Int):=
 bif (a1.length:Int) != (a2.length:Int)then
  bif decide ((a1.length:Int)<(a2.length:Int))then
   some (-1)
  else
  some 1
 else
 Q25.l6 N N a1 a2 (aA ((a1.length:Int)-1))
  (fun(_:Unit)=>
   some 0)
  (fun y7=>
   some y7)
noncomputable def Q26.l4 {R:Type}(N:Nat):Nat→List Int→List Int→Int→Int→List Int→(List Int→Option R)→Option R
 |0,_,_,_,_,_,_=>none
 |n+1,x3,x4,x5,x6,x7,k0=>
  bif decide (x6<(x3.length:Int))then
   bif decide (x6<(x3.length:Int))then
    bif (decide (0≤x6))&&(decide (x6<(x3.length:Int)))then
     bif decide (x6<(x4.length:Int))then
      bif (decide (0≤x6))&&(decide (x6<(x4.length:Int)))then
       bif jB (x7.length+1) 4 then
        Q26.l4 N n x3 x4 (nB (Int.tdiv (nB ((nB (x5+(x3.getD x6.toNat 0)))+(x4.getD x6.toNat 0))) 65536)) (aA (x6+1)) (x7++[Int.tmod (nB ((nB (x5+(x3.getD x6.toNat 0)))+(x4.getD x6.toNat 0))) 65536]) k0
       else none
      else none
     else
     bif jB (x7.length+1) 4 then
      Q26.l4 N n x3 x4 (nB (Int.tdiv (nB (x5+(x3.getD x6.toNat 0))) 65536)) (aA (x6+1)) (x7++[Int.tmod (nB (x5+(x3.getD x6.toNat 0))) 65536]) k0
     else none
    else none
   else
   bif decide (x6<(x4.length:Int))then
    bif (decide (0≤x6))&&(decide (x6<(x4.length:Int)))then
     bif jB (x7.length+1) 4 then
      Q26.l4 N n x3 x4 (nB (Int.tdiv (nB (x5+(x4.getD x6.toNat 0))) 65536)) (aA (x6+1)) (x7++[Int.tmod (nB (x5+(x4.getD x6.toNat 0))) 65536]) k0
     else none
    else none
   else
   bif jB (x7.length+1) 4 then
    Q26.l4 N n x3 x4 (nB (Int.tdiv x5 65536)) (aA (x6+1)) (x7++[Int.tmod x5 65536]) k0
   else none
  else
  bif decide (x6<(x4.length:Int))then
   bif decide (x6<(x3.length:Int))then
    bif (decide (0≤x6))&&(decide (x6<(x3.length:Int)))then
     bif decide (x6<(x4.length:Int))then
      bif (decide (0≤x6))&&(decide (x6<(x4.length:Int)))then
       bif jB (x7.length+1) 4 then
        Q26.l4 N n x3 x4 (nB (Int.tdiv (nB ((nB (x5+(x3.getD x6.toNat 0)))+(x4.getD x6.toNat 0))) 65536)) (aA (x6+1)) (x7++[Int.tmod (nB ((nB (x5+(x3.getD x6.toNat 0)))+(x4.getD x6.toNat 0))) 65536]) k0
       else none
      else none
     else
     bif jB (x7.length+1) 4 then
      Q26.l4 N n x3 x4 (nB (Int.tdiv (nB (x5+(x3.getD x6.toNat 0))) 65536)) (aA (x6+1)) (x7++[Int.tmod (nB (x5+(x3.getD x6.toNat 0))) 65536]) k0
     else none
    else none
   else
   bif decide (x6<(x4.length:Int))then
    bif (decide (0≤x6))&&(decide (x6<(x4.length:Int)))then
     bif jB (x7.length+1) 4 then
      Q26.l4 N n x3 x4 (nB (Int.tdiv (nB (x5+(x4.getD x6.toNat 0))) 65536)) (aA (x6+1)) (x7++[Int.tmod (nB (x5+(x4.getD x6.toNat 0))) 65536]) k0
     else none
    else none
   else
   bif jB (x7.length+1) 4 then
    Q26.l4 N n x3 x4 (nB (Int.tdiv x5 65536)) (aA (x6+1)) (x7++[Int.tmod x5 65536]) k0
   else none
  else
  bif decide (x5>0)then
   bif decide (x6<(x3.length:Int))then
    bif (decide (0≤x6))&&(decide (x6<(x3.length:Int)))then
     bif decide (x6<(x4.length:Int))then
      bif (decide (0≤x6))&&(decide (x6<(x4.length:Int)))then
       bif jB (x7.length+1) 4 then
        Q26.l4 N n x3 x4 (nB (Int.tdiv (nB ((nB (x5+(x3.getD x6.toNat 0)))+(x4.getD x6.toNat 0))) 65536)) (aA (x6+1)) (x7++[Int.tmod (nB ((nB (x5+(x3.getD x6.toNat 0)))+(x4.getD x6.toNat 0))) 65536]) k0
       else none
      else none
     else
     bif jB (x7.length+1) 4 then
      Q26.l4 N n x3 x4 (nB (Int.tdiv (nB (x5+(x3.getD x6.toNat 0))) 65536)) (aA (x6+1)) (x7++[Int.tmod (nB (x5+(x3.getD x6.toNat 0))) 65536]) k0
     else none
    else none
   else
   bif decide (x6<(x4.length:Int))then
    bif (decide (0≤x6))&&(decide (x6<(x4.length:Int)))then
     bif jB (x7.length+1) 4 then
      Q26.l4 N n x3 x4 (nB (Int.tdiv (nB (x5+(x4.getD x6.toNat 0))) 65536)) (aA (x6+1)) (x7++[Int.tmod (nB (x5+(x4.getD x6.toNat 0))) 65536]) k0
     else none
    else none
   else
   bif jB (x7.length+1) 4 then
    Q26.l4 N n x3 x4 (nB (Int.tdiv x5 65536)) (aA (x6+1)) (x7++[Int.tmod x5 65536]) k0
   else none
  else
  k0 x7
noncomputable def Q26.f (N:Nat)(a1 a2:List Int):Option (List Int):=
 Q26.l4 N N a1 a2 0 0 []
  (fun y9=>
   (Q21.f N 0 y9.length y9).bind fun r10=>
   some ((r10.2.2.drop r10.1).take r10.2.1))
noncomputable def Q27.l4 {R:Type}(N:Nat):Nat→List Int→List Int→Int→Int→List Int→(List Int→Option R)→Option R
 |0,_,_,_,_,_,_=>none
 |n+1,x3,x4,x5,x6,x7,k0=>
  bif decide (x6<(x3.length:Int))then
   bif (decide (0≤x6))&&(decide (x6<(x3.length:Int)))then
    bif decide (x6<(x4.length:Int))then
     bif (decide (0≤x6))&&(decide (x6<(x4.length:Int)))then
      bif jB (x7.length+1) 4 then
       Q27.l4 N n x3 x4 (nB (1- (nB (Int.tdiv (nB ((nB ((nB ((x3.getD x6.toNat 0)+65536))-x5))- (x4.getD x6.toNat 0))) 65536)))) (aA (x6+1)) (x7++[Int.tmod (nB ((nB ((nB ((x3.getD x6.toNat 0)+65536))-x5))- (x4.getD x6.toNat 0))) 65536]) k0
      else none
     else none
    else
    bif jB (x7.length+1) 4 then
     Q27.l4 N n x3 x4 (nB (1- (nB (Int.tdiv (nB ((nB ((x3.getD x6.toNat 0)+65536))-x5)) 65536)))) (aA (x6+1)) (x7++[Int.tmod (nB ((nB ((x3.getD x6.toNat 0)+65536))-x5)) 65536]) k0
    else none
   else none
  else
  k0 x7
noncomputable def Q27.f (N:Nat)(a1 a2:List Int):Option (List Int):=
 Q27.l4 N N a1 a2 0 0 []
  (fun y9=>
   (Q21.f N 0 y9.length y9).bind fun r10=>
   some ((r10.2.2.drop r10.1).take r10.2.1))
noncomputable def Q28.l7 {R:Type}(N:Nat):Nat→List Int→List Int→Int→Int→Int→List Int→(List Int→List Int→Int→List Int→Option R)→Option R
 |0,_,_,_,_,_,_,_=>none
 |n+1,x7,x8,x9,x10,x11,x12,k2=>
  bif decide (x11<(x8.length:Int))then
   bif (decide (0≤(aA (x9+x11))))&&(decide ((aA (x9+x11))<(x12.length:Int)))then
    bif decide (x11<(x8.length:Int))then
     bif (decide (0≤x9))&&(decide (x9<(x7.length:Int)))then
      bif (decide (0≤x11))&&(decide (x11<(x8.length:Int)))then
       bif (decide (0≤(aA (x9+x11))))&&(decide ((aA (x9+x11))<(x12.length:Int)))then
        Q28.l7 N n x7 x8 x9 (gA (Int.tdiv (gA ((gA ((gA (x12.getD ((aA (x9+x11)).toNat) 0))+x10))+(gA ((gA (x7.getD x9.toNat 0))*(gA (x8.getD x11.toNat 0)))))) 65536)) (aA (x11+1)) (x12.set ((aA (x9+x11)).toNat) (nB (Int.tmod (gA ((gA ((gA (x12.getD ((aA (x9+x11)).toNat) 0))+x10))+(gA ((gA (x7.getD x9.toNat 0))*(gA (x8.getD x11.toNat 0)))))) 65536))) k2
       else none
      else none
     else none
    else
    bif (decide (0≤(aA (x9+x11))))&&(decide ((aA (x9+x11))<(x12.length:Int)))then
     Q28.l7 N n x7 x8 x9 (gA (Int.tdiv (gA ((gA (x12.getD ((aA (x9+x11)).toNat) 0))+x10)) 65536)) (aA (x11+1)) (x12.set ((aA (x9+x11)).toNat) (nB (Int.tmod (gA ((gA (x12.getD ((aA (x9+x11)).toNat) 0))+x10)) 65536))) k2
    else none
   else none
  else
  bif decide (x10>0)then
   bif (decide (0≤(aA (x9+x11))))&&(decide ((aA (x9+x11))<(x12.length:Int)))then
    bif decide (x11<(x8.length:Int))then
     bif (decide (0≤x9))&&(decide (x9<(x7.length:Int)))then
      bif (decide (0≤x11))&&(decide (x11<(x8.length:Int)))then
       bif (decide (0≤(aA (x9+x11))))&&(decide ((aA (x9+x11))<(x12.length:Int)))then
        Q28.l7 N n x7 x8 x9 (gA (Int.tdiv (gA ((gA ((gA (x12.getD ((aA (x9+x11)).toNat) 0))+x10))+(gA ((gA (x7.getD x9.toNat 0))*(gA (x8.getD x11.toNat 0)))))) 65536)) (aA (x11+1)) (x12.set ((aA (x9+x11)).toNat) (nB (Int.tmod (gA ((gA ((gA (x12.getD ((aA (x9+x11)).toNat) 0))+x10))+(gA ((gA (x7.getD x9.toNat 0))*(gA (x8.getD x11.toNat 0)))))) 65536))) k2
       else none
      else none
     else none
    else
    bif (decide (0≤(aA (x9+x11))))&&(decide ((aA (x9+x11))<(x12.length:Int)))then
     Q28.l7 N n x7 x8 x9 (gA (Int.tdiv (gA ((gA (x12.getD ((aA (x9+x11)).toNat) 0))+x10)) 65536)) (aA (x11+1)) (x12.set ((aA (x9+x11)).toNat) (nB (Int.tmod (gA ((gA (x12.getD ((aA (x9+x11)).toNat) 0))+x10)) 65536))) k2
    else none
   else none
  else
  k2 x7 x8 x9 x12
noncomputable def Q28.l3 {R:Type}(N:Nat):Nat→List Int→List Int→Int→List Int→(List Int→Option R)→Option R
 |0,_,_,_,_,_=>none
 |n+1,x3,x4,x5,x6,k0=>
  bif decide (x5<(x3.length:Int))then
   Q28.l7 N N x3 x4 x5 0 0 x6
    (fun y17 y18 y19 y20=>
     Q28.l3 N n y17 y18 (aA (y19+1)) y20 k0)
  else
  k0 x6
noncomputable def Q28.f (N:Nat)(a1 a2:List Int):Option (List Int):=
 bif decide (aA ((a1.length:Int)+(a2.length:Int))=aA ((a1.length:Int)+(a2.length:Int)))&&decide (0≤aA ((a1.length:Int)+(a2.length:Int)))&&decide (aA ((a1.length:Int)+(a2.length:Int))≤9223372036854775807)&&jB ((aA ((a1.length:Int)+(a2.length:Int))).toNat) 4 then
  Q28.l3 N N a1 a2 0 (List.replicate ((aA ((a1.length:Int)+(a2.length:Int))).toNat) (0:Int))
   (fun y22=>
    (Q21.f N 0 y22.length y22).bind fun r23=>
    some ((r23.2.2.drop r23.1).take r23.2.1))
 else none
noncomputable def Q29.l9 {R:Type}(N:Nat):Nat→List Int→List Int→Nat→Nat→Int→Int→Int→List Int→List Int→(List Int→List Int→Nat→Nat→Int→Int→List Int→List Int→Option R)→Option R
 |0,_,_,_,_,_,_,_,_,_,_=>none
 |n+1,x9,x10,x11,x12,x13,x14,x15,x16,x17,k2=>
  bif decide ((gA (x15-x14))>1)then
   (Q22.f N (gA (Int.tdiv (gA (x14+x15)) 2))).bind fun r18=>
   (Q28.f N r18 x10).bind fun r19=>
   (Q25.f N r19 ((x17.drop x11).take x12)).bind fun r20=>
   bif decide (r20≤0)then
    Q29.l9 N n x9 x10 x11 x12 x13 (gA (Int.tdiv (gA (x14+x15)) 2)) x15 x16 x17 k2
   else
   Q29.l9 N n x9 x10 x11 x12 x13 x14 (gA (Int.tdiv (gA (x14+x15)) 2)) x16 x17 k2
  else
  k2 x9 x10 x11 x12 x13 x14 x16 x17
noncomputable def Q29.l4 {R:Type}(N:Nat):Nat→List Int→List Int→List Int→Int→List Int→(List Int→List Int→Option R)→Option R
 |0,_,_,_,_,_,_=>none
 |n+1,x3,x4,x5,x6,x7,k0=>
  bif decide (x6≥0)then
   bif (decide (0≤x6))&&(decide (x6<(x3.length:Int)))then
    bif jB (1+x5.length) 4 then
     (Q21.f N 0 (([x3.getD x6.toNat 0]++x5).length) ([x3.getD x6.toNat 0]++x5)).bind fun r8=>
     Q29.l9 N N x3 x4 r8.1 r8.2.1 x6 0 65536 x7 r8.2.2
      (fun y29 y30 y31 y32 y33 y34 y35 y36=>
       bif (decide (0≤y33))&&(decide (y33<(y35.length:Int)))then
        (Q22.f N y34).bind fun r37=>
        (Q28.f N r37 y30).bind fun r38=>
        (Q27.f N ((y36.drop y31).take y32) r38).bind fun r39=>
        Q29.l4 N n y29 y30 r39 (aA (y33-1)) (y35.set y33.toNat (nB y34)) k0
       else none)
    else none
   else none
  else
  k0 x5 x7
noncomputable def Q29.f (N:Nat)(a1 a2:List Int):Option (List Int×List Int):=
 bif decide ((a1.length:Int)=(a1.length:Int))&&decide (0≤(a1.length:Int))&&decide ((a1.length:Int)≤9223372036854775807)&&jB ((a1.length:Int).toNat) 4 then
  Q29.l4 N N a1 a2 [] (aA ((a1.length:Int)-1)) (List.replicate ((a1.length:Int).toNat) (0:Int))
   (fun y42 y43=>
    (Q21.f N 0 y43.length y43).bind fun r44=>
    some ((r44.2.2.drop r44.1).take r44.2.1,y42))
 else none
noncomputable def Q30.l1 {R:Type}(N:Nat):Nat→List Int→List Int→(List Int→Option R)→Option R
 |0,_,_,_=>none
 |n+1,x3,x4,k0=>
  bif decide ((x4.length:Int)>0)then
   (Q29.f N x3 x4).bind fun r5=>
   Q30.l1 N n x4 r5.2 k0
  else
  k0 x3
noncomputable def Q30.f (N:Nat)(a1 a2:List Int):Option (List Int):=
 Q30.l1 N N a1 a2
  (fun y7=>
   some y7)
noncomputable def fR:TI:=⟨.int .i64,1,8,[.int .i64 0]⟩
noncomputable def ye:TI:=⟨.bool,1,1,[.bool false]⟩
noncomputable def aI:TI:=⟨.struct [(2,0),(2,1),(2,2)],3,24,[.int .i64 0,.int .i64 0,.int .i64 0]⟩
noncomputable def xu:TI:=⟨.struct [(2,0),(2,1),(2,2),(2,3)],4,32,[.int .i64 0,.int .i64 0,.int .i64 0,.int .i64 0]⟩
noncomputable def E3:TI:=⟨.struct [(33,0),(72,3)],7,56,[.int .i64 0,.int .i64 0,.int .i64 0,.int .i64 0,.int .i64 0,.int .i64 0,.int .i64 0]⟩
noncomputable def dJ:TI:=⟨.struct [(4,0),(110,1)],2,32,[.bool false,.slice none 0 0]⟩
theorem gD:uC Tryz.prog 2 fR:=fD (by kernel_rfl) (by kernel_rfl) (by kernel_rfl) (by kernel_rfl) (by kernel_rfl) (by kernel_rfl) (by kernel_rfl) (Tryz.underlying2) (by kernel_rfl)
theorem mK:uC Tryz.prog 4 ye:=fD (by kernel_rfl) (by kernel_rfl) (by kernel_rfl) (by kernel_rfl) (by kernel_rfl) (by kernel_rfl) (by kernel_rfl) (Tryz.underlying4) (by kernel_rfl)
theorem rC:uC Tryz.prog 33 aI:=fD (by kernel_rfl) (by kernel_rfl) (by kernel_rfl) (by kernel_rfl) (by kernel_rfl) (by kernel_rfl) (by kernel_rfl) (mI Tryz.underlying33 (by kernel_rfl) (by kernel_rfl)) (by kernel_rfl)
theorem vS:uC Tryz.prog 72 xu:=fD (by kernel_rfl) (by kernel_rfl) (by kernel_rfl) (by kernel_rfl) (by kernel_rfl) (by kernel_rfl) (by kernel_rfl) (mI Tryz.underlying72 (by kernel_rfl) (by kernel_rfl)) (by kernel_rfl)
theorem gh:uC Tryz.prog 74 E3:=fD (by kernel_rfl) (by kernel_rfl) (by kernel_rfl) (by kernel_rfl) (by kernel_rfl) (by kernel_rfl) (by kernel_rfl) (mI Tryz.underlying74 (by kernel_rfl) (by kernel_rfl)) (by kernel_rfl)
theorem iE:uC Tryz.prog 112 dJ:=fD (by kernel_rfl) (by kernel_rfl) (by kernel_rfl) (by kernel_rfl) (by kernel_rfl) (by kernel_rfl) (by kernel_rfl) (mI Tryz.underlying112 (by kernel_rfl) (by kernel_rfl)) (by kernel_rfl)
noncomputable def Q31.f (N:Nat)(a1:Bool)(a2:List Int):Option (Bool×List Int):=
 bif a1 then
  (Q3.f N a2).bind fun r3=>
  some (decide (r3>0),a2)
 else
 some (false,a2)
noncomputable def Q31.E (N:Nat):bD:=xE [(4,ye),(110,eF),(112,dJ)] [(123,Q3.ent N)] [] [] N [.cell 4 112] [.recd [.any,.il .u32 1]] 0 13
noncomputable def Q31.dec (v:V)(bs:List rA):Option (Bool×List Int):=match v,bs with
 | .agg [.c (.bool z0),.il .u32 1 z1],[]=>some (z0,z1)
 |_,_=>none
theorem Q31.f_eq (N:Nat)(a1:Bool)(a2:List Int):
  cB (Q31.E N) (bo Tryz.f85) [.c (.bool a1),.agg [.il .u32 1 a2]] [] Q31.dec=Q31.f N a1 a2:=by kernel_rfl
noncomputable def Q31.ent (N:Nat):xA:=tF (Bool×List Int) 0 [true,true] [.any,.recd [.il .u32 1]] fun
 | [.c (.bool a1),.agg [.il .u32 1 a2]]=>some (Q31.f N a1 a2,fun r=>.one (.agg [.c (.bool r.1),.il .u32 1 r.2]) [])
 |_=>none
theorem Q31.env (N:Nat):aB Tryz.prog (Q31.E N):=⟨(.cons mK (.cons gC (.cons iE .nil))),(.cons (Q3.ent_ok N) .nil)⟩
theorem Q31.spec (N:Nat)(a1:Bool)(a2:List Int)(r:Bool×List Int)(h:Q31.f N a1 a2=some r):fA Tryz.prog 85 [.c (.bool a1),.agg [.il .u32 1 a2]] [] (.agg [.c (.bool r.1),.il .u32 1 r.2]) ([]):=vA (Q31.env N) bA Tryz.func85 cA.n ((Q31.f_eq ..).trans h) fun v b e=>by unfold Q31.dec at e;split at e<;>cases e;exact⟨rfl,rfl⟩
theorem Q31.ent_ok (N:Nat):uA Tryz.prog 85 (Q31.ent N):=yA fun v a e h=>by split at h;exact mC (Q:=fun e=>fA _ _ _ _ (e a).pick.1 (e a).pick.2) h fun k=>Q31.spec N _ _ a k;cases h
noncomputable def Q32.f (N:Nat)(a1:Int):Option (Bool×List Int):=
 bif decide (a1<0)then
  (Q5.f N (gA (0- (gA a1)))).bind fun r2=>
  some (true,r2)
 else
 (Q5.f N (gA a1)).bind fun r3=>
 some (false,r3)
noncomputable def Q32.E (N:Nat):bD:=xE [(2,fR),(4,ye),(78,bQ),(110,eF),(112,dJ)] [(122,Q5.ent N)] [] [] N [.cell 2 112] [.recd [.any,.il .u32 1]] 0 14
noncomputable def Q32.dec (v:V)(bs:List rA):Option (Bool×List Int):=match v,bs with
 | .agg [.c (.bool z0),.il .u32 1 z1],[]=>some (z0,z1)
 |_,_=>none
theorem Q32.f_eq (N:Nat)(a1:Int):
  cB (Q32.E N) (bo Tryz.f84) [.c (.int .i64 a1)] [] Q32.dec=Q32.f N a1:=by kernel_rfl
noncomputable def Q32.ent (N:Nat):xA:=tF (Bool×List Int) 0 [true] [.any] fun
 | [.c (.int .i64 a1)]=>some (Q32.f N a1,fun r=>.one (.agg [.c (.bool r.1),.il .u32 1 r.2]) [])
 |_=>none
theorem Q32.env (N:Nat):aB Tryz.prog (Q32.E N):=⟨(.cons gD (.cons mK (.cons nF (.cons gC (.cons iE .nil))))),(.cons (Q5.ent_ok N) .nil)⟩
theorem Q32.spec (N:Nat)(a1:Int)(r:Bool×List Int)(h:Q32.f N a1=some r):fA Tryz.prog 84 [.c (.int .i64 a1)] [] (.agg [.c (.bool r.1),.il .u32 1 r.2]) ([]):=vA (Q32.env N) bA Tryz.func84 cA.n ((Q32.f_eq ..).trans h) fun v b e=>by unfold Q32.dec at e;split at e<;>cases e;exact⟨rfl,rfl⟩
theorem Q32.ent_ok (N:Nat):uA Tryz.prog 84 (Q32.ent N):=yA fun v a e h=>by split at h;exact mC (Q:=fun e=>fA _ _ _ _ (e a).pick.1 (e a).pick.2) h fun k=>Q32.spec N _ a k;cases h
noncomputable def Q33.f (N:Nat)(a1:Bool)(a2:List Int):Option (Int×Bool):=
 (Q6.f N a2).bind fun r3=>
 bif !r3.2 then
  some (0,false)
 else
 bif decide (r3.1>9223372036854775808)then
  some (0,false)
 else
 bif r3.1==9223372036854775808 then
  bif !a1 then
   some (0,false)
  else
  bif a1 then
   some (aA (gA (0-r3.1)),true)
  else
  some (aA r3.1,true)
 else
 bif a1 then
  some (aA (gA (0-r3.1)),true)
 else
 some (aA r3.1,true)
noncomputable def Q33.E (N:Nat):bD:=xE [(2,fR),(4,ye),(78,bQ),(110,eF),(112,dJ)] [(124,Q6.ent N)] [] [] N [.tmp 2,.tmp 3] [.any,.any] 0 36
noncomputable def Q33.dec (v:V)(bs:List rA):Option (Int×Bool):=match v,bs with
 | .tup [.c (.int .i64 z0),.c (.bool z1)],[]=>some (z0,z1)
 |_,_=>none
theorem Q33.f_eq (N:Nat)(a1:Bool)(a2:List Int):
  cB (Q33.E N) (bo Tryz.f86) [.agg [.c (.bool a1),.il .u32 1 a2]] [] Q33.dec=Q33.f N a1 a2:=by kernel_rfl
noncomputable def Q33.ent (N:Nat):xA:=tF (Int×Bool) 0 [true] [.recd [.any,.il .u32 1]] fun
 | [.agg [.c (.bool a1),.il .u32 1 a2]]=>some (Q33.f N a1 a2,fun r=>.one (.tup [.c (.int .i64 r.1),.c (.bool r.2)]) [])
 |_=>none
theorem Q33.env (N:Nat):aB Tryz.prog (Q33.E N):=⟨(.cons gD (.cons mK (.cons nF (.cons gC (.cons iE .nil))))),(.cons (Q6.ent_ok N) .nil)⟩
theorem Q33.spec (N:Nat)(a1:Bool)(a2:List Int)(r:Int×Bool)(h:Q33.f N a1 a2=some r):fA Tryz.prog 86 [.agg [.c (.bool a1),.il .u32 1 a2]] [] (.tup [.c (.int .i64 r.1),.c (.bool r.2)]) ([]):=vA (Q33.env N) bA Tryz.func86 cA.n ((Q33.f_eq ..).trans h) fun v b e=>by unfold Q33.dec at e;split at e<;>cases e;exact⟨rfl,rfl⟩
theorem Q33.ent_ok (N:Nat):uA Tryz.prog 86 (Q33.ent N):=yA fun v a e h=>by split at h;exact mC (Q:=fun e=>fA _ _ _ _ (e a).pick.1 (e a).pick.2) h fun k=>Q33.spec N _ _ a k;cases h
noncomputable def Q34.f (N:Nat)(a1:Bool)(a2:List Int)(a3:Bool)(a4:List Int):Option (Bool×List Int×Int):=
 bif a1==a3 then
  (Q8.f N a2 a4).bind fun r5=>
  (Q31.f N a1 r5.1).bind fun r6=>
  some (r6.1,r6.2,r5.2)
 else
 (Q7.f N a2 a4).bind fun r7=>
 bif decide (r7<0)then
  (Q10.f N a4 a2).bind fun r8=>
  (Q31.f N a3 r8.1).bind fun r9=>
  some (r9.1,r9.2,r8.2)
 else
 (Q10.f N a2 a4).bind fun r10=>
 (Q31.f N a1 r10.1).bind fun r11=>
 some (r11.1,r11.2,r10.2)
noncomputable def Q34.E (N:Nat):bD:=xE [(4,ye),(110,eF),(112,dJ)] [(161,Q8.ent N),(85,Q31.ent N),(157,Q7.ent N),(162,Q10.ent N)] [] [] N [.cell 4 112,.tmp 5] [.recd [.any,.il .u32 1],.any] 0 49
noncomputable def Q34.dec (v:V)(bs:List rA):Option (Bool×List Int×Int):=match v,bs with
 | .tup [.agg [.c (.bool z0),.il .u32 1 z1],.c (.int .i64 z2)],[]=>some (z0,z1,z2)
 |_,_=>none
theorem Q34.f_eq (N:Nat)(a1:Bool)(a2:List Int)(a3:Bool)(a4:List Int):
  cB (Q34.E N) (bo Tryz.f151) [.agg [.c (.bool a1),.il .u32 1 a2],.agg [.c (.bool a3),.il .u32 1 a4]] [] Q34.dec=Q34.f N a1 a2 a3 a4:=by kernel_rfl
noncomputable def Q34.ent (N:Nat):xA:=tF (Bool×List Int×Int) 0 [true,true] [.recd [.any,.il .u32 1],.recd [.any,.il .u32 1]] fun
 | [.agg [.c (.bool a1),.il .u32 1 a2],.agg [.c (.bool a3),.il .u32 1 a4]]=>some (Q34.f N a1 a2 a3 a4,fun r=>.one (.tup [.agg [.c (.bool r.1),.il .u32 1 r.2.1],.c (.int .i64 r.2.2)]) [])
 |_=>none
theorem Q34.env (N:Nat):aB Tryz.prog (Q34.E N):=⟨(.cons mK (.cons gC (.cons iE .nil))),(.cons (Q8.ent_ok N) (.cons (Q31.ent_ok N) (.cons (Q7.ent_ok N) (.cons (Q10.ent_ok N) .nil))))⟩
theorem Q34.spec (N:Nat)(a1:Bool)(a2:List Int)(a3:Bool)(a4:List Int)(r:Bool×List Int×Int)(h:Q34.f N a1 a2 a3 a4=some r):fA Tryz.prog 151 [.agg [.c (.bool a1),.il .u32 1 a2],.agg [.c (.bool a3),.il .u32 1 a4]] [] (.tup [.agg [.c (.bool r.1),.il .u32 1 r.2.1],.c (.int .i64 r.2.2)]) ([]):=vA (Q34.env N) bA Tryz.func151 cA.n ((Q34.f_eq ..).trans h) fun v b e=>by unfold Q34.dec at e;split at e<;>cases e;exact⟨rfl,rfl⟩
theorem Q34.ent_ok (N:Nat):uA Tryz.prog 151 (Q34.ent N):=yA fun v a e h=>by split at h;exact mC (Q:=fun e=>fA _ _ _ _ (e a).pick.1 (e a).pick.2) h fun k=>Q34.spec N _ _ _ _ a k;cases h
noncomputable def Q35.f (N:Nat)(a1:Bool)(a2:List Int)(a3:Bool)(a4:List Int):Option (Bool×List Int×Int):=
 (Q12.f N a2 a4).bind fun r5=>
 (Q31.f N (!(a1==a3)) r5.1).bind fun r6=>
 some (r6.1,r6.2,r5.2)
noncomputable def Q35.E (N:Nat):bD:=xE [(4,ye),(110,eF),(112,dJ)] [(160,Q12.ent N),(85,Q31.ent N)] [] [] N [.cell 4 112,.tmp 5] [.recd [.any,.il .u32 1],.any] 0 24
noncomputable def Q35.dec (v:V)(bs:List rA):Option (Bool×List Int×Int):=match v,bs with
 | .tup [.agg [.c (.bool z0),.il .u32 1 z1],.c (.int .i64 z2)],[]=>some (z0,z1,z2)
 |_,_=>none
theorem Q35.f_eq (N:Nat)(a1:Bool)(a2:List Int)(a3:Bool)(a4:List Int):
  cB (Q35.E N) (bo Tryz.f148) [.agg [.c (.bool a1),.il .u32 1 a2],.agg [.c (.bool a3),.il .u32 1 a4]] [] Q35.dec=Q35.f N a1 a2 a3 a4:=by kernel_rfl
noncomputable def Q35.ent (N:Nat):xA:=tF (Bool×List Int×Int) 0 [true,true] [.recd [.any,.il .u32 1],.recd [.any,.il .u32 1]] fun
 | [.agg [.c (.bool a1),.il .u32 1 a2],.agg [.c (.bool a3),.il .u32 1 a4]]=>some (Q35.f N a1 a2 a3 a4,fun r=>.one (.tup [.agg [.c (.bool r.1),.il .u32 1 r.2.1],.c (.int .i64 r.2.2)]) [])
 |_=>none
theorem Q35.env (N:Nat):aB Tryz.prog (Q35.E N):=⟨(.cons mK (.cons gC (.cons iE .nil))),(.cons (Q12.ent_ok N) (.cons (Q31.ent_ok N) .nil))⟩
theorem Q35.spec (N:Nat)(a1:Bool)(a2:List Int)(a3:Bool)(a4:List Int)(r:Bool×List Int×Int)(h:Q35.f N a1 a2 a3 a4=some r):fA Tryz.prog 148 [.agg [.c (.bool a1),.il .u32 1 a2],.agg [.c (.bool a3),.il .u32 1 a4]] [] (.tup [.agg [.c (.bool r.1),.il .u32 1 r.2.1],.c (.int .i64 r.2.2)]) ([]):=vA (Q35.env N) bA Tryz.func148 cA.n ((Q35.f_eq ..).trans h) fun v b e=>by unfold Q35.dec at e;split at e<;>cases e;exact⟨rfl,rfl⟩
theorem Q35.ent_ok (N:Nat):uA Tryz.prog 148 (Q35.ent N):=yA fun v a e h=>by split at h;exact mC (Q:=fun e=>fA _ _ _ _ (e a).pick.1 (e a).pick.2) h fun k=>Q35.spec N _ _ _ _ a k;cases h
noncomputable def Q36.f (N:Nat)(a1:Bool)(a2:List Int):Option (Int):=
 (Q3.f N a2).bind fun r3=>
 bif r3==0 then
  some 0
 else
 bif a1 then
  some (-1)
 else
 some 1
noncomputable def Q36.E (N:Nat):bD:=xE [(4,ye),(110,eF),(112,dJ)] [(123,Q3.ent N)] [] [] N [.tmp 2] [.any] 0 11
noncomputable def Q36.dec (v:V)(bs:List rA):Option (Int):=match v,bs with
 | .c (.int .i64 z0),[]=>some z0
 |_,_=>none
theorem Q36.f_eq (N:Nat)(a1:Bool)(a2:List Int):
  cB (Q36.E N) (bo Tryz.f117) [.agg [.c (.bool a1),.il .u32 1 a2]] [] Q36.dec=Q36.f N a1 a2:=by kernel_rfl
noncomputable def Q36.ent (N:Nat):xA:=tF (Int) 0 [true] [.recd [.any,.il .u32 1]] fun
 | [.agg [.c (.bool a1),.il .u32 1 a2]]=>some (Q36.f N a1 a2,fun r=>.one (.c (.int .i64 r)) [])
 |_=>none
theorem Q36.env (N:Nat):aB Tryz.prog (Q36.E N):=⟨(.cons mK (.cons gC (.cons iE .nil))),(.cons (Q3.ent_ok N) .nil)⟩
theorem Q36.spec (N:Nat)(a1:Bool)(a2:List Int)(r:Int)(h:Q36.f N a1 a2=some r):fA Tryz.prog 117 [.agg [.c (.bool a1),.il .u32 1 a2]] [] (.c (.int .i64 r)) ([]):=vA (Q36.env N) bA Tryz.func117 cA.n ((Q36.f_eq ..).trans h) fun v b e=>by unfold Q36.dec at e;split at e<;>cases e;exact⟨rfl,rfl⟩
theorem Q36.ent_ok (N:Nat):uA Tryz.prog 117 (Q36.ent N):=yA fun v a e h=>by split at h;exact mC (Q:=fun e=>fA _ _ _ _ (e a).pick.1 (e a).pick.2) h fun k=>Q36.spec N _ _ a k;cases h
noncomputable def Q37.f (N:Nat)(a1:Bool)(a2:List Int):Option (Bool×List Int):=
 (Q31.f N (!a1) a2).bind fun r3=>
 some (r3.1,r3.2)
noncomputable def Q37.E (N:Nat):bD:=xE [(4,ye),(110,eF),(112,dJ)] [(85,Q31.ent N)] [] [] N [.cell 2 112] [.recd [.any,.il .u32 1]] 0 9
noncomputable def Q37.dec (v:V)(bs:List rA):Option (Bool×List Int):=match v,bs with
 | .agg [.c (.bool z0),.il .u32 1 z1],[]=>some (z0,z1)
 |_,_=>none
theorem Q37.f_eq (N:Nat)(a1:Bool)(a2:List Int):
  cB (Q37.E N) (bo Tryz.f150) [.agg [.c (.bool a1),.il .u32 1 a2]] [] Q37.dec=Q37.f N a1 a2:=by kernel_rfl
noncomputable def Q37.ent (N:Nat):xA:=tF (Bool×List Int) 0 [true] [.recd [.any,.il .u32 1]] fun
 | [.agg [.c (.bool a1),.il .u32 1 a2]]=>some (Q37.f N a1 a2,fun r=>.one (.agg [.c (.bool r.1),.il .u32 1 r.2]) [])
 |_=>none
theorem Q37.env (N:Nat):aB Tryz.prog (Q37.E N):=⟨(.cons mK (.cons gC (.cons iE .nil))),(.cons (Q31.ent_ok N) .nil)⟩
theorem Q37.spec (N:Nat)(a1:Bool)(a2:List Int)(r:Bool×List Int)(h:Q37.f N a1 a2=some r):fA Tryz.prog 150 [.agg [.c (.bool a1),.il .u32 1 a2]] [] (.agg [.c (.bool r.1),.il .u32 1 r.2]) ([]):=vA (Q37.env N) bA Tryz.func150 cA.n ((Q37.f_eq ..).trans h) fun v b e=>by unfold Q37.dec at e;split at e<;>cases e;exact⟨rfl,rfl⟩
theorem Q37.ent_ok (N:Nat):uA Tryz.prog 150 (Q37.ent N):=yA fun v a e h=>by split at h;exact mC (Q:=fun e=>fA _ _ _ _ (e a).pick.1 (e a).pick.2) h fun k=>Q37.spec N _ _ a k;cases h
noncomputable def Q38.f (N:Nat)(a1:Bool)(a2:List Int)(a3:Bool)(a4:List Int):Option (Bool×List Int×Int):=
 (Q37.f N a3 a4).bind fun r5=>
 (Q34.f N a1 a2 r5.1 r5.2).bind fun r6=>
 some (r6.1,r6.2.1,r6.2.2)
noncomputable def Q38.E (N:Nat):bD:=xE [(112,dJ)] [(150,Q37.ent N),(151,Q34.ent N)] [] [] N [.cell 4 112,.tmp 5] [.recd [.any,.il .u32 1],.any] 0 12
noncomputable def Q38.dec (v:V)(bs:List rA):Option (Bool×List Int×Int):=match v,bs with
 | .tup [.agg [.c (.bool z0),.il .u32 1 z1],.c (.int .i64 z2)],[]=>some (z0,z1,z2)
 |_,_=>none
theorem Q38.f_eq (N:Nat)(a1:Bool)(a2:List Int)(a3:Bool)(a4:List Int):
  cB (Q38.E N) (bo Tryz.f147) [.agg [.c (.bool a1),.il .u32 1 a2],.agg [.c (.bool a3),.il .u32 1 a4]] [] Q38.dec=Q38.f N a1 a2 a3 a4:=by kernel_rfl
noncomputable def Q38.ent (N:Nat):xA:=tF (Bool×List Int×Int) 0 [true,true] [.recd [.any,.il .u32 1],.recd [.any,.il .u32 1]] fun
 | [.agg [.c (.bool a1),.il .u32 1 a2],.agg [.c (.bool a3),.il .u32 1 a4]]=>some (Q38.f N a1 a2 a3 a4,fun r=>.one (.tup [.agg [.c (.bool r.1),.il .u32 1 r.2.1],.c (.int .i64 r.2.2)]) [])
 |_=>none
theorem Q38.env (N:Nat):aB Tryz.prog (Q38.E N):=⟨(.cons iE .nil),(.cons (Q37.ent_ok N) (.cons (Q34.ent_ok N) .nil))⟩
theorem Q38.spec (N:Nat)(a1:Bool)(a2:List Int)(a3:Bool)(a4:List Int)(r:Bool×List Int×Int)(h:Q38.f N a1 a2 a3 a4=some r):fA Tryz.prog 147 [.agg [.c (.bool a1),.il .u32 1 a2],.agg [.c (.bool a3),.il .u32 1 a4]] [] (.tup [.agg [.c (.bool r.1),.il .u32 1 r.2.1],.c (.int .i64 r.2.2)]) ([]):=vA (Q38.env N) bA Tryz.func147 cA.n ((Q38.f_eq ..).trans h) fun v b e=>by unfold Q38.dec at e;split at e<;>cases e;exact⟨rfl,rfl⟩
theorem Q38.ent_ok (N:Nat):uA Tryz.prog 147 (Q38.ent N):=yA fun v a e h=>by split at h;exact mC (Q:=fun e=>fA _ _ _ _ (e a).pick.1 (e a).pick.2) h fun k=>Q38.spec N _ _ _ _ a k;cases h
noncomputable def Q39.f (N:Nat)(a1:Bool)(a2:List Int)(a3:Bool)(a4:List Int):Option (Bool×List Int×Bool×List Int×Int):=
 (Q19.f N a2 a4).bind fun r5=>
 bif r5.2.2 != 0 then
  some (false,[],false,[],r5.2.2)
 else
 bif a1 then
  (Q3.f N r5.2.1).bind fun r6=>
  bif decide (r6>0)then
   (Q5.f N 1).bind fun r7=>
   (Q8.f N r5.1 r7).bind fun r8=>
   (Q10.f N a4 r5.2.1).bind fun r9=>
   (Q31.f N (!(a1==a3)) r8.1).bind fun r10=>
   (Q31.f N false r9.1).bind fun r11=>
   some (r10.1,r10.2,r11.1,r11.2,0)
  else
  (Q31.f N (!(a1==a3)) r5.1).bind fun r12=>
  (Q31.f N false r5.2.1).bind fun r13=>
  some (r12.1,r12.2,r13.1,r13.2,0)
 else
 (Q31.f N (!(a1==a3)) r5.1).bind fun r14=>
 (Q31.f N false r5.2.1).bind fun r15=>
 some (r14.1,r14.2,r15.1,r15.2,0)
noncomputable def Q39.E (N:Nat):bD:=xE [(4,ye),(110,eF),(112,dJ)] [(145,Q19.ent N),(123,Q3.ent N),(122,Q5.ent N),(161,Q8.ent N),(162,Q10.ent N),(85,Q31.ent N)] [] [] N [.cell 4 112,.cell 5 112,.tmp 6] [.recd [.any,.il .u32 1],.recd [.any,.il .u32 1],.any] 0 52
noncomputable def Q39.dec (v:V)(bs:List rA):Option (Bool×List Int×Bool×List Int×Int):=match v,bs with
 | .tup [.agg [.c (.bool z0),.il .u32 1 z1],.agg [.c (.bool z2),.il .u32 1 z3],.c (.int .i64 z4)],[]=>some (z0,z1,z2,z3,z4)
 |_,_=>none
theorem Q39.f_eq (N:Nat)(a1:Bool)(a2:List Int)(a3:Bool)(a4:List Int):
  cB (Q39.E N) (bo Tryz.f149) [.agg [.c (.bool a1),.il .u32 1 a2],.agg [.c (.bool a3),.il .u32 1 a4]] [] Q39.dec=Q39.f N a1 a2 a3 a4:=by kernel_rfl
noncomputable def Q39.ent (N:Nat):xA:=tF (Bool×List Int×Bool×List Int×Int) 0 [true,true] [.recd [.any,.il .u32 1],.recd [.any,.il .u32 1]] fun
 | [.agg [.c (.bool a1),.il .u32 1 a2],.agg [.c (.bool a3),.il .u32 1 a4]]=>some (Q39.f N a1 a2 a3 a4,fun r=>.one (.tup [.agg [.c (.bool r.1),.il .u32 1 r.2.1],.agg [.c (.bool r.2.2.1),.il .u32 1 r.2.2.2.1],.c (.int .i64 r.2.2.2.2)]) [])
 |_=>none
theorem Q39.env (N:Nat):aB Tryz.prog (Q39.E N):=⟨(.cons mK (.cons gC (.cons iE .nil))),(.cons (Q19.ent_ok N) (.cons (Q3.ent_ok N) (.cons (Q5.ent_ok N) (.cons (Q8.ent_ok N) (.cons (Q10.ent_ok N) (.cons (Q31.ent_ok N) .nil))))))⟩
theorem Q39.spec (N:Nat)(a1:Bool)(a2:List Int)(a3:Bool)(a4:List Int)(r:Bool×List Int×Bool×List Int×Int)(h:Q39.f N a1 a2 a3 a4=some r):fA Tryz.prog 149 [.agg [.c (.bool a1),.il .u32 1 a2],.agg [.c (.bool a3),.il .u32 1 a4]] [] (.tup [.agg [.c (.bool r.1),.il .u32 1 r.2.1],.agg [.c (.bool r.2.2.1),.il .u32 1 r.2.2.2.1],.c (.int .i64 r.2.2.2.2)]) ([]):=vA (Q39.env N) bA Tryz.func149 cA.n ((Q39.f_eq ..).trans h) fun v b e=>by unfold Q39.dec at e;split at e<;>cases e;exact⟨rfl,rfl⟩
theorem Q39.ent_ok (N:Nat):uA Tryz.prog 149 (Q39.ent N):=yA fun v a e h=>by split at h;exact mC (Q:=fun e=>fA _ _ _ _ (e a).pick.1 (e a).pick.2) h fun k=>Q39.spec N _ _ _ _ a k;cases h
noncomputable def Q40.f (N:Nat)(a1:Bool)(a2:List Int)(a3:Bool)(a4:List Int):Option (Bool×List Int×Int):=
 (Q39.f N a1 a2 a3 a4).bind fun r5=>
 bif r5.2.2.2.2 != 0 then
  some (false,[],r5.2.2.2.2)
 else
 (Q36.f N r5.2.2.1 r5.2.2.2.1).bind fun r6=>
 bif r6 != 0 then
  some (false,[],2)
 else
 some (r5.1,r5.2.1,0)
noncomputable def Q40.E (N:Nat):bD:=xE [(4,ye),(110,eF),(112,dJ)] [(149,Q39.ent N),(117,Q36.ent N)] [] [] N [.cell 4 112,.tmp 5] [.recd [.any,.il .u32 1],.any] 0 27
noncomputable def Q40.dec (v:V)(bs:List rA):Option (Bool×List Int×Int):=match v,bs with
 | .tup [.agg [.c (.bool z0),.il .u32 1 z1],.c (.int .i64 z2)],[]=>some (z0,z1,z2)
 |_,_=>none
theorem Q40.f_eq (N:Nat)(a1:Bool)(a2:List Int)(a3:Bool)(a4:List Int):
  cB (Q40.E N) (bo Tryz.f121) [.agg [.c (.bool a1),.il .u32 1 a2],.agg [.c (.bool a3),.il .u32 1 a4]] [] Q40.dec=Q40.f N a1 a2 a3 a4:=by kernel_rfl
noncomputable def Q40.ent (N:Nat):xA:=tF (Bool×List Int×Int) 0 [true,true] [.recd [.any,.il .u32 1],.recd [.any,.il .u32 1]] fun
 | [.agg [.c (.bool a1),.il .u32 1 a2],.agg [.c (.bool a3),.il .u32 1 a4]]=>some (Q40.f N a1 a2 a3 a4,fun r=>.one (.tup [.agg [.c (.bool r.1),.il .u32 1 r.2.1],.c (.int .i64 r.2.2)]) [])
 |_=>none
theorem Q40.env (N:Nat):aB Tryz.prog (Q40.E N):=⟨(.cons mK (.cons gC (.cons iE .nil))),(.cons (Q39.ent_ok N) (.cons (Q36.ent_ok N) .nil))⟩
theorem Q40.spec (N:Nat)(a1:Bool)(a2:List Int)(a3:Bool)(a4:List Int)(r:Bool×List Int×Int)(h:Q40.f N a1 a2 a3 a4=some r):fA Tryz.prog 121 [.agg [.c (.bool a1),.il .u32 1 a2],.agg [.c (.bool a3),.il .u32 1 a4]] [] (.tup [.agg [.c (.bool r.1),.il .u32 1 r.2.1],.c (.int .i64 r.2.2)]) ([]):=vA (Q40.env N) bA Tryz.func121 cA.n ((Q40.f_eq ..).trans h) fun v b e=>by unfold Q40.dec at e;split at e<;>cases e;exact⟨rfl,rfl⟩
theorem Q40.ent_ok (N:Nat):uA Tryz.prog 121 (Q40.ent N):=yA fun v a e h=>by split at h;exact mC (Q:=fun e=>fA _ _ _ _ (e a).pick.1 (e a).pick.2) h fun k=>Q40.spec N _ _ _ _ a k;cases h
noncomputable def Q41.f (N:Nat)(a1:Bool)(a2:List Int)(a3:Int):Option (Bool×List Int):=
 some (a1,a2)
noncomputable def Q41.E (N:Nat):bD:=xE [(112,dJ)] [] [] [] N [.cell 4 112] [.recd [.any,.il .u32 1]] 0 6
noncomputable def Q41.dec (v:V)(bs:List rA):Option (Bool×List Int):=match v,bs with
 | .agg [.c (.bool z0),.il .u32 1 z1],[]=>some (z0,z1)
 |_,_=>none
theorem Q41.f_eq (N:Nat)(a1:Bool)(a2:List Int)(a3:Int):
  cB (Q41.E N) (bo Tryz.f120) [.agg [.c (.bool a1),.il .u32 1 a2],.c (.int .i64 a3)] [] Q41.dec=Q41.f N a1 a2 a3:=by kernel_rfl
noncomputable def Q41.ent (N:Nat):xA:=tF (Bool×List Int) 0 [true,true] [.recd [.any,.il .u32 1],.any] fun
 | [.agg [.c (.bool a1),.il .u32 1 a2],.c (.int .i64 a3)]=>some (Q41.f N a1 a2 a3,fun r=>.one (.agg [.c (.bool r.1),.il .u32 1 r.2]) [])
 |_=>none
theorem Q41.env (N:Nat):aB Tryz.prog (Q41.E N):=⟨(.cons iE .nil),.nil⟩
theorem Q41.spec (N:Nat)(a1:Bool)(a2:List Int)(a3:Int)(r:Bool×List Int)(h:Q41.f N a1 a2 a3=some r):fA Tryz.prog 120 [.agg [.c (.bool a1),.il .u32 1 a2],.c (.int .i64 a3)] [] (.agg [.c (.bool r.1),.il .u32 1 r.2]) ([]):=vA (Q41.env N) bA Tryz.func120 cA.n ((Q41.f_eq ..).trans h) fun v b e=>by unfold Q41.dec at e;split at e<;>cases e;exact⟨rfl,rfl⟩
theorem Q41.ent_ok (N:Nat):uA Tryz.prog 120 (Q41.ent N):=yA fun v a e h=>by split at h;exact mC (Q:=fun e=>fA _ _ _ _ (e a).pick.1 (e a).pick.2) h fun k=>Q41.spec N _ _ _ a k;cases h
noncomputable def Q42.f (N:Nat)(a1:Bool)(a2:List Int)(a3:Bool)(a4:List Int)(a5:Bool)(a6:List Int):Option (Bool×List Int):=
 (Q35.f N a3 a4 a5 a6).bind fun r7=>
 (Q41.f N r7.1 r7.2.1 r7.2.2).bind fun r8=>
 (Q38.f N a1 a2 r8.1 r8.2).bind fun r9=>
 (Q41.f N r9.1 r9.2.1 r9.2.2).bind fun r10=>
 some (r10.1,r10.2)
noncomputable def Q42.E (N:Nat):bD:=xE [(112,dJ)] [(148,Q35.ent N),(120,Q41.ent N),(147,Q38.ent N)] [] [] N [.cell 6 112] [.recd [.any,.il .u32 1]] 0 18
noncomputable def Q42.dec (v:V)(bs:List rA):Option (Bool×List Int):=match v,bs with
 | .agg [.c (.bool z0),.il .u32 1 z1],[]=>some (z0,z1)
 |_,_=>none
theorem Q42.f_eq (N:Nat)(a1:Bool)(a2:List Int)(a3:Bool)(a4:List Int)(a5:Bool)(a6:List Int):
  cB (Q42.E N) (bo Tryz.f146) [.agg [.c (.bool a1),.il .u32 1 a2],.agg [.c (.bool a3),.il .u32 1 a4],.agg [.c (.bool a5),.il .u32 1 a6]] [] Q42.dec=Q42.f N a1 a2 a3 a4 a5 a6:=by kernel_rfl
noncomputable def Q42.ent (N:Nat):xA:=tF (Bool×List Int) 0 [true,true,true] [.recd [.any,.il .u32 1],.recd [.any,.il .u32 1],.recd [.any,.il .u32 1]] fun
 | [.agg [.c (.bool a1),.il .u32 1 a2],.agg [.c (.bool a3),.il .u32 1 a4],.agg [.c (.bool a5),.il .u32 1 a6]]=>some (Q42.f N a1 a2 a3 a4 a5 a6,fun r=>.one (.agg [.c (.bool r.1),.il .u32 1 r.2]) [])
 |_=>none
theorem Q42.env (N:Nat):aB Tryz.prog (Q42.E N):=⟨(.cons iE .nil),(.cons (Q35.ent_ok N) (.cons (Q41.ent_ok N) (.cons (Q38.ent_ok N) .nil)))⟩
theorem Q42.spec (N:Nat)(a1:Bool)(a2:List Int)(a3:Bool)(a4:List Int)(a5:Bool)(a6:List Int)(r:Bool×List Int)(h:Q42.f N a1 a2 a3 a4 a5 a6=some r):fA Tryz.prog 146 [.agg [.c (.bool a1),.il .u32 1 a2],.agg [.c (.bool a3),.il .u32 1 a4],.agg [.c (.bool a5),.il .u32 1 a6]] [] (.agg [.c (.bool r.1),.il .u32 1 r.2]) ([]):=vA (Q42.env N) bA Tryz.func146 cA.n ((Q42.f_eq ..).trans h) fun v b e=>by unfold Q42.dec at e;split at e<;>cases e;exact⟨rfl,rfl⟩
theorem Q42.ent_ok (N:Nat):uA Tryz.prog 146 (Q42.ent N):=yA fun v a e h=>by split at h;exact mC (Q:=fun e=>fA _ _ _ _ (e a).pick.1 (e a).pick.2) h fun k=>Q42.spec N _ _ _ _ _ _ a k;cases h
noncomputable def Q43.l5 {R:Type}(N:Nat):Nat→Bool→List Int→Bool→List Int→Bool→Bool→Bool→List Int→Bool→List Int→Bool→List Int→Bool→List Int→Bool→List Int→Bool→List Int→(Bool→List Int→Bool→List Int→Bool→Bool→Bool→List Int→Bool→List Int→Option R)→Option R
 |0,_,_,_,_,_,_,_,_,_,_,_,_,_,_,_,_,_,_,_=>none
 |n+1,x9,x10,x11,x12,x13,x14,x15,x16,x17,x18,x19,x20,x21,x22,x23,x24,x25,x26,k0=>
  (Q36.f N x15 x16).bind fun r27=>
  bif r27==0 then
   k0 x9 x10 x11 x12 x13 x14 x19 x20 x23 x24
  else
  (Q39.f N x17 x18 x15 x16).bind fun r38=>
  (Q42.f N x19 x20 r38.1 r38.2.1 x21 x22).bind fun r39=>
  (Q42.f N x23 x24 r38.1 r38.2.1 x25 x26).bind fun r40=>
  Q43.l5 N n x9 x10 x11 x12 x13 x14 r38.2.2.1 r38.2.2.2.1 x15 x16 x21 x22 r39.1 r39.2 x25 x26 r40.1 r40.2 k0
noncomputable def Q43.f (N:Nat)(a1:Bool)(a2:List Int)(a3:Bool)(a4:List Int):Option (Bool×List Int×Bool×List Int):=
 (Q39.f N a1 a2 a3 a4).bind fun r5=>
 (Q32.f N 1).bind fun r6=>
 (Q32.f N 1).bind fun r7=>
 (Q37.f N r5.1 r5.2.1).bind fun r8=>
 Q43.l5 N N a1 a2 a3 a4 false false r5.2.2.1 r5.2.2.2.1 a3 a4 false [] r6.1 r6.2 r7.1 r7.2 r8.1 r8.2
  (fun y41 y42 y43 y44 y45 y46 y47 y48 y49 y50=>
   (Q36.f N y47 y48).bind fun r51=>
   bif decide (r51<0)then
    (Q34.f N y47 y48 y43 y44).bind fun r52=>
    (Q41.f N r52.1 r52.2.1 r52.2.2).bind fun r53=>
    (Q38.f N y49 y50 y41 y42).bind fun r54=>
    (Q41.f N r54.1 r54.2.1 r54.2.2).bind fun r55=>
    some (r53.1,r53.2,r55.1,r55.2)
   else
   some (y47,y48,y49,y50))
noncomputable def Q43.h5:yC:=⟨[(2,.box [.any,.il .u32 1]),(3,.box [.any,.il .u32 1]),(4,.box [.any,.any]),(5,.box [.any,.any]),(6,.any),(8,.box [.any,.il .u32 1]),(10,.box [.any,.il .u32 1]),(11,.box [.any,.il .u32 1]),(12,.box [.any,.il .u32 1]),(13,.box [.any,.il .u32 1]),(14,.box [.any,.il .u32 1])],[(2,.box [.any,.il .u32 1]),(3,.box [.any,.il .u32 1]),(4,.box [.any,.any]),(5,.box [.any,.any]),(11,.box [.any,.il .u32 1]),(13,.box [.any,.il .u32 1])]⟩
noncomputable def Q43.c5 (N:Nat):uH:=⟨fun vs H k=>match vs,H with
 | [.ptr 0 0 2,.ptr 1 0 2,.ptr 2 0 2,.ptr 3 0 2,.fn 146 [] [],.ptr 4 0 2,.ptr 5 0 2,.ptr 6 0 2,.ptr 7 0 2,.ptr 8 0 2,.ptr 9 0 2],[.vals [.c (.bool x9),.il .u32 1 x10],.vals [.c (.bool x11),.il .u32 1 x12],.vals [.c (.bool x13),.c (.slice none 0 0)],.vals [.c (.bool x14),.c (.slice none 0 0)],.vals [.c (.bool x15),.il .u32 1 x16],.vals [.c (.bool x17),.il .u32 1 x18],.vals [.c (.bool x19),.il .u32 1 x20],.vals [.c (.bool x21),.il .u32 1 x22],.vals [.c (.bool x23),.il .u32 1 x24],.vals [.c (.bool x25),.il .u32 1 x26]]=>Q43.l5 N N x9 x10 x11 x12 x13 x14 x15 x16 x17 x18 x19 x20 x21 x22 x23 x24 x25 x26 (fun x28 x29 x30 x31 x32 x33 x34 x35 x36 x37=>k (.exit 0) ⟨xC Q43.h5.out [.ptr 0 0 2,.ptr 1 0 2,.ptr 2 0 2,.ptr 3 0 2,.ptr 4 0 2,.ptr 5 0 2],[.vals [.c (.bool x28),.il .u32 1 x29],.vals [.c (.bool x30),.il .u32 1 x31],.vals [.c (.bool x32),.c (.slice none 0 0)],.vals [.c (.bool x33),.c (.slice none 0 0)],.vals [.c (.bool x34),.il .u32 1 x35],.vals [.c (.bool x36),.il .u32 1 x37]]⟩)
 |_,_=>none⟩
noncomputable def Q43.E (N:Nat):bD:=xE [(4,ye),(110,eF),(112,dJ)] [(149,Q39.ent N),(84,Q32.ent N),(150,Q37.ent N),(117,Q36.ent N),(146,Q42.ent N),(151,Q34.ent N),(120,Q41.ent N),(147,Q38.ent N)] [(5,Q43.h5)] [(5,Q43.c5 N)] N [.cell 4 112,.cell 5 112] [.recd [.any,.il .u32 1],.recd [.any,.il .u32 1]] 0 72
noncomputable def Q43.b5:Code:=sA ((eA (bo Tryz.f119)).getD 1 .skip)
theorem Q43.l5_eq {R:Type}(N n:Nat)(x9:Bool)(x10:List Int)(x11:Bool)(x12:List Int)(x13 x14 x15:Bool)(x16:List Int)(x17:Bool)(x18:List Int)(x19:Bool)(x20:List Int)(x21:Bool)(x22:List Int)(x23:Bool)(x24:List Int)(x25:Bool)(x26:List Int)(k:Ex→St→Option R):
  gB 0 Q43.h5 (fun s k=>bB (Q43.E N) 390 Q43.b5 s k) n [.ptr 0 0 2,.ptr 1 0 2,.ptr 2 0 2,.ptr 3 0 2,.fn 146 [] [],.ptr 4 0 2,.ptr 5 0 2,.ptr 6 0 2,.ptr 7 0 2,.ptr 8 0 2,.ptr 9 0 2] [.vals [.c (.bool x9),.il .u32 1 x10],.vals [.c (.bool x11),.il .u32 1 x12],.vals [.c (.bool x13),.c (.slice none 0 0)],.vals [.c (.bool x14),.c (.slice none 0 0)],.vals [.c (.bool x15),.il .u32 1 x16],.vals [.c (.bool x17),.il .u32 1 x18],.vals [.c (.bool x19),.il .u32 1 x20],.vals [.c (.bool x21),.il .u32 1 x22],.vals [.c (.bool x23),.il .u32 1 x24],.vals [.c (.bool x25),.il .u32 1 x26]] k=Q43.l5 N n x9 x10 x11 x12 x13 x14 x15 x16 x17 x18 x19 x20 x21 x22 x23 x24 x25 x26 (fun x28 x29 x30 x31 x32 x33 x34 x35 x36 x37=>k (.exit 0) ⟨xC Q43.h5.out [.ptr 0 0 2,.ptr 1 0 2,.ptr 2 0 2,.ptr 3 0 2,.ptr 4 0 2,.ptr 5 0 2],[.vals [.c (.bool x28),.il .u32 1 x29],.vals [.c (.bool x30),.il .u32 1 x31],.vals [.c (.bool x32),.c (.slice none 0 0)],.vals [.c (.bool x33),.c (.slice none 0 0)],.vals [.c (.bool x34),.il .u32 1 x35],.vals [.c (.bool x36),.il .u32 1 x37]]⟩):=by
 induction n generalizing x9 x10 x11 x12 x13 x14 x15 x16 x17 x18 x19 x20 x21 x22 x23 x24 x25 x26 with
 |zero=>kernel_rfl
 |succ n ih=>
  simp only[Q43.l5,←ih]
  kernel_rfl
noncomputable def Q43.dec (v:V)(bs:List rA):Option (Bool×List Int×Bool×List Int):=match v,bs with
 | .tup [.agg [.c (.bool z0),.il .u32 1 z1],.agg [.c (.bool z2),.il .u32 1 z3]],[]=>some (z0,z1,z2,z3)
 |_,_=>none
theorem Q43.f_eq (N:Nat)(a1:Bool)(a2:List Int)(a3:Bool)(a4:List Int):
  cB (Q43.E N) (bo Tryz.f119) [.agg [.c (.bool a1),.il .u32 1 a2],.agg [.c (.bool a3),.il .u32 1 a4]] [] Q43.dec=Q43.f N a1 a2 a3 a4:=by kernel_rfl
noncomputable def Q43.ent (N:Nat):xA:=tF (Bool×List Int×Bool×List Int) 0 [true,true] [.recd [.any,.il .u32 1],.recd [.any,.il .u32 1]] fun
 | [.agg [.c (.bool a1),.il .u32 1 a2],.agg [.c (.bool a3),.il .u32 1 a4]]=>some (Q43.f N a1 a2 a3 a4,fun r=>.one (.tup [.agg [.c (.bool r.1),.il .u32 1 r.2.1],.agg [.c (.bool r.2.2.1),.il .u32 1 r.2.2.2]]) [])
 |_=>none
theorem Q43.env (N:Nat):aB Tryz.prog (Q43.E N):=⟨(.cons mK (.cons gC (.cons iE .nil))),(.cons (Q39.ent_ok N) (.cons (Q32.ent_ok N) (.cons (Q37.ent_ok N) (.cons (Q36.ent_ok N) (.cons (Q42.ent_ok N) (.cons (Q34.ent_ok N) (.cons (Q41.ent_ok N) (.cons (Q38.ent_ok N) .nil))))))))⟩
theorem Q43.k5 (N:Nat):uB Tryz.prog Tryz.f119 (Q43.E N) (.loop Q43.b5):=zC (Q43.env N) bA 390 (c:=Q43.c5 N) cA.n fun R vs H k r h=>by unfold Q43.c5 at h;dsimp only at h;split at h;exact⟨_,Q43.l5_eq .. ▸h⟩;cases h
theorem Q43.spec (N:Nat)(a1:Bool)(a2:List Int)(a3:Bool)(a4:List Int)(r:Bool×List Int×Bool×List Int)(h:Q43.f N a1 a2 a3 a4=some r):fA Tryz.prog 119 [.agg [.c (.bool a1),.il .u32 1 a2],.agg [.c (.bool a3),.il .u32 1 a4]] [] (.tup [.agg [.c (.bool r.1),.il .u32 1 r.2.1],.agg [.c (.bool r.2.2.1),.il .u32 1 r.2.2.2]]) ([]):=vA (Q43.env N) bA Tryz.func119 (cA.of (l:=[(.scope (sA ((eA (bo Tryz.f119)).getD 0 .skip))),(.loop (sA ((eA (bo Tryz.f119)).getD 1 .skip)))]) (by kernel_rfl) (cA.cons (pP (by kernel_rfl)) (cA.cons (Q43.k5 N) cA.nil))) ((Q43.f_eq ..).trans h) fun v b e=>by unfold Q43.dec at e;split at e<;>cases e;exact⟨rfl,rfl⟩
theorem Q43.ent_ok (N:Nat):uA Tryz.prog 119 (Q43.ent N):=yA fun v a e h=>by split at h;exact mC (Q:=fun e=>fA _ _ _ _ (e a).pick.1 (e a).pick.2) h fun k=>Q43.spec N _ _ _ _ a k;cases h
noncomputable def Q44.f (N:Nat)(a1:Bool)(a2:List Int)(a3:Bool)(a4:List Int):Option (List Int×Bool×List Int×Bool×List Int):=
 (Q36.f N a3 a4).bind fun r5=>
 bif r5==0 then
  (Q36.f N a1 a2).bind fun r6=>
  (Q32.f N r6).bind fun r7=>
  some (a2,r7.1,r7.2,false,[])
 else
 (Q20.f N a2 a4).bind fun r8=>
 (Q31.f N false r8).bind fun r9=>
 (Q40.f N a1 a2 r9.1 r9.2).bind fun r10=>
 (Q41.f N r10.1 r10.2.1 r10.2.2).bind fun r11=>
 (Q31.f N false a4).bind fun r12=>
 (Q40.f N r12.1 r12.2 r9.1 r9.2).bind fun r13=>
 (Q41.f N r13.1 r13.2.1 r13.2.2).bind fun r14=>
 (Q43.f N r11.1 r11.2 r14.1 r14.2).bind fun r15=>
 (Q31.f N (!(r15.2.2.1==a3)) r15.2.2.2).bind fun r16=>
 some (r8,r15.1,r15.2.1,r16.1,r16.2)
noncomputable def Q44.E (N:Nat):bD:=xE [(4,ye),(110,eF),(112,dJ)] [(117,Q36.ent N),(84,Q32.ent N),(118,Q20.ent N),(85,Q31.ent N),(121,Q40.ent N),(120,Q41.ent N),(119,Q43.ent N)] [] [] N [.cell 4 110,.cell 5 112,.cell 6 112] [.recd [.il .u32 1],.recd [.any,.il .u32 1],.recd [.any,.il .u32 1]] 0 52
noncomputable def Q44.dec (v:V)(bs:List rA):Option (List Int×Bool×List Int×Bool×List Int):=match v,bs with
 | .tup [.agg [.il .u32 1 z0],.agg [.c (.bool z1),.il .u32 1 z2],.agg [.c (.bool z3),.il .u32 1 z4]],[]=>some (z0,z1,z2,z3,z4)
 |_,_=>none
theorem Q44.f_eq (N:Nat)(a1:Bool)(a2:List Int)(a3:Bool)(a4:List Int):
  cB (Q44.E N) (bo Tryz.f83) [.agg [.c (.bool a1),.il .u32 1 a2],.agg [.c (.bool a3),.il .u32 1 a4]] [] Q44.dec=Q44.f N a1 a2 a3 a4:=by kernel_rfl
noncomputable def Q44.ent (N:Nat):xA:=tF (List Int×Bool×List Int×Bool×List Int) 0 [true,true] [.recd [.any,.il .u32 1],.recd [.any,.il .u32 1]] fun
 | [.agg [.c (.bool a1),.il .u32 1 a2],.agg [.c (.bool a3),.il .u32 1 a4]]=>some (Q44.f N a1 a2 a3 a4,fun r=>.one (.tup [.agg [.il .u32 1 r.1],.agg [.c (.bool r.2.1),.il .u32 1 r.2.2.1],.agg [.c (.bool r.2.2.2.1),.il .u32 1 r.2.2.2.2]]) [])
 |_=>none
theorem Q44.env (N:Nat):aB Tryz.prog (Q44.E N):=⟨(.cons mK (.cons gC (.cons iE .nil))),(.cons (Q36.ent_ok N) (.cons (Q32.ent_ok N) (.cons (Q20.ent_ok N) (.cons (Q31.ent_ok N) (.cons (Q40.ent_ok N) (.cons (Q41.ent_ok N) (.cons (Q43.ent_ok N) .nil)))))))⟩
theorem Q44.spec (N:Nat)(a1:Bool)(a2:List Int)(a3:Bool)(a4:List Int)(r:List Int×Bool×List Int×Bool×List Int)(h:Q44.f N a1 a2 a3 a4=some r):fA Tryz.prog 83 [.agg [.c (.bool a1),.il .u32 1 a2],.agg [.c (.bool a3),.il .u32 1 a4]] [] (.tup [.agg [.il .u32 1 r.1],.agg [.c (.bool r.2.1),.il .u32 1 r.2.2.1],.agg [.c (.bool r.2.2.2.1),.il .u32 1 r.2.2.2.2]]) ([]):=vA (Q44.env N) bA Tryz.func83 cA.n ((Q44.f_eq ..).trans h) fun v b e=>by unfold Q44.dec at e;split at e<;>cases e;exact⟨rfl,rfl⟩
theorem Q44.ent_ok (N:Nat):uA Tryz.prog 83 (Q44.ent N):=yA fun v a e h=>by split at h;exact mC (Q:=fun e=>fA _ _ _ _ (e a).pick.1 (e a).pick.2) h fun k=>Q44.spec N _ _ _ _ a k;cases h
noncomputable def Q45.f (N:Nat)(a1 a2:Int):Option (Int×Int×Int):=
 bif decide ((ph a1 a2)>4611686018427387904)then
  some (0,0,0)
 else
 bif decide ((Ep a1 a2)<(-4611686018427387904))then
  some (0,0,0)
 else
 (Q32.f N a1).bind fun r3=>
 (Q32.f N a2).bind fun r4=>
 (Q44.f N r3.1 r3.2 r4.1 r4.2).bind fun r5=>
 (Q31.f N false r5.1).bind fun r6=>
 (Q33.f N r6.1 r6.2).bind fun r7=>
 (Q33.f N r5.2.1 r5.2.2.1).bind fun r8=>
 (Q33.f N r5.2.2.2.1 r5.2.2.2.2).bind fun r9=>
 some (r7.1,r8.1,r9.1)
noncomputable def Q45.E (N:Nat):bD:=xE [(110,eF),(112,dJ)] [(84,Q32.ent N),(83,Q44.ent N),(85,Q31.ent N),(86,Q33.ent N)] [] [] N [.tmp 4,.tmp 5,.tmp 6] [.any,.any,.any] 0 48
noncomputable def Q45.dec (v:V)(bs:List rA):Option (Int×Int×Int):=match v,bs with
 | .tup [.c (.int .i64 z0),.c (.int .i64 z1),.c (.int .i64 z2)],[]=>some (z0,z1,z2)
 |_,_=>none
theorem Q45.f_eq (N:Nat)(a1 a2:Int):
  cB (Q45.E N) (bo Tryz.f63) [.c (.int .i64 a1),.c (.int .i64 a2)] [] Q45.dec=Q45.f N a1 a2:=by kernel_rfl
noncomputable def Q45.ent (N:Nat):xA:=tF (Int×Int×Int) 0 [true,true] [.any,.any] fun
 | [.c (.int .i64 a1),.c (.int .i64 a2)]=>some (Q45.f N a1 a2,fun r=>.one (.tup [.c (.int .i64 r.1),.c (.int .i64 r.2.1),.c (.int .i64 r.2.2)]) [])
 |_=>none
theorem Q45.env (N:Nat):aB Tryz.prog (Q45.E N):=⟨(.cons gC (.cons iE .nil)),(.cons (Q32.ent_ok N) (.cons (Q44.ent_ok N) (.cons (Q31.ent_ok N) (.cons (Q33.ent_ok N) .nil))))⟩
theorem Q45.spec (N:Nat)(a1 a2:Int)(r:Int×Int×Int)(h:Q45.f N a1 a2=some r):fA Tryz.prog 63 [.c (.int .i64 a1),.c (.int .i64 a2)] [] (.tup [.c (.int .i64 r.1),.c (.int .i64 r.2.1),.c (.int .i64 r.2.2)]) ([]):=vA (Q45.env N) bA Tryz.func63 cA.n ((Q45.f_eq ..).trans h) fun v b e=>by unfold Q45.dec at e;split at e<;>cases e;exact⟨rfl,rfl⟩
theorem Q45.ent_ok (N:Nat):uA Tryz.prog 63 (Q45.ent N):=yA fun v a e h=>by split at h;exact mC (Q:=fun e=>fA _ _ _ _ (e a).pick.1 (e a).pick.2) h fun k=>Q45.spec N _ _ a k;cases h
noncomputable def Q46.f (N:Nat)(a1 a2 a3:Int):Option (Bool):=
 bif decide ((ph (ph a1 a2) a3)≤1073741824)then
  some (decide ((Ep (Ep a1 a2) a3)≥(-1073741824)))
 else
 some false
noncomputable def Q46.E (N:Nat):bD:=xE [(2,fR),(33,aI)] [] [] [] N [.tmp 2] [.any] 0 21
noncomputable def Q46.dec (v:V)(bs:List rA):Option (Bool):=match v,bs with
 | .c (.bool z0),[]=>some z0
 |_,_=>none
theorem Q46.f_eq (N:Nat)(a1 a2 a3:Int):
  cB (Q46.E N) (bo Tryz.f38) [.agg [.c (.int .i64 a1),.c (.int .i64 a2),.c (.int .i64 a3)]] [] Q46.dec=Q46.f N a1 a2 a3:=by kernel_rfl
noncomputable def Q46.ent (N:Nat):xA:=tF (Bool) 0 [true] [.recd [.any,.any,.any]] fun
 | [.agg [.c (.int .i64 a1),.c (.int .i64 a2),.c (.int .i64 a3)]]=>some (Q46.f N a1 a2 a3,fun r=>.one (.c (.bool r)) [])
 |_=>none
theorem Q46.env (N:Nat):aB Tryz.prog (Q46.E N):=⟨(.cons gD (.cons rC .nil)),.nil⟩
theorem Q46.spec (N:Nat)(a1 a2 a3:Int)(r:Bool)(h:Q46.f N a1 a2 a3=some r):fA Tryz.prog 38 [.agg [.c (.int .i64 a1),.c (.int .i64 a2),.c (.int .i64 a3)]] [] (.c (.bool r)) ([]):=vA (Q46.env N) bA Tryz.func38 cA.n ((Q46.f_eq ..).trans h) fun v b e=>by unfold Q46.dec at e;split at e<;>cases e;exact⟨rfl,rfl⟩
theorem Q46.ent_ok (N:Nat):uA Tryz.prog 38 (Q46.ent N):=yA fun v a e h=>by split at h;exact mC (Q:=fun e=>fA _ _ _ _ (e a).pick.1 (e a).pick.2) h fun k=>Q46.spec N _ _ _ a k;cases h
noncomputable def Q47.f (N:Nat)(a1 a2 a3:Int):Option (Int):=
 (Q46.f N a1 a2 a3).bind fun r4=>
 bif !r4 then
  some 0
 else
 some (aA ((aA (a2*a2))- (aA ((aA (4*a1))*a3))))
noncomputable def Q47.E (N:Nat):bD:=xE [(2,fR),(33,aI)] [(38,Q46.ent N)] [] [] N [.tmp 2] [.any] 0 18
noncomputable def Q47.dec (v:V)(bs:List rA):Option (Int):=match v,bs with
 | .c (.int .i64 z0),[]=>some z0
 |_,_=>none
theorem Q47.f_eq (N:Nat)(a1 a2 a3:Int):
  cB (Q47.E N) (bo Tryz.f19) [.agg [.c (.int .i64 a1),.c (.int .i64 a2),.c (.int .i64 a3)]] [] Q47.dec=Q47.f N a1 a2 a3:=by kernel_rfl
noncomputable def Q47.ent (N:Nat):xA:=tF (Int) 0 [true] [.recd [.any,.any,.any]] fun
 | [.agg [.c (.int .i64 a1),.c (.int .i64 a2),.c (.int .i64 a3)]]=>some (Q47.f N a1 a2 a3,fun r=>.one (.c (.int .i64 r)) [])
 |_=>none
theorem Q47.env (N:Nat):aB Tryz.prog (Q47.E N):=⟨(.cons gD (.cons rC .nil)),(.cons (Q46.ent_ok N) .nil)⟩
theorem Q47.spec (N:Nat)(a1 a2:Int)(a3 r:Int)(h:Q47.f N a1 a2 a3=some r):fA Tryz.prog 19 [.agg [.c (.int .i64 a1),.c (.int .i64 a2),.c (.int .i64 a3)]] [] (.c (.int .i64 r)) ([]):=vA (Q47.env N) bA Tryz.func19 cA.n ((Q47.f_eq ..).trans h) fun v b e=>by unfold Q47.dec at e;split at e<;>cases e;exact⟨rfl,rfl⟩
theorem Q47.ent_ok (N:Nat):uA Tryz.prog 19 (Q47.ent N):=yA fun v a e h=>by split at h;exact mC (Q:=fun e=>fA _ _ _ _ (e a).pick.1 (e a).pick.2) h fun k=>Q47.spec N _ _ _ a k;cases h
noncomputable def Q48.f (N:Nat)(a1 a2 a3:Int):Option (Int):=
 (Q47.f N a1 a2 a3).bind fun r4=>
 (Q46.f N a1 a2 a3).bind fun r5=>
 bif !r5 then
  some 3
 else
 bif decide (a1≤0)then
  some 81
 else
 bif decide (r4≥0)then
  some 81
 else
 bif decide (r4<(-4294967296))then
  some 80
 else
 some 0
noncomputable def Q48.E (N:Nat):bD:=xE [(2,fR),(33,aI)] [(19,Q47.ent N),(38,Q46.ent N)] [] [] N [.tmp 2] [.any] 0 21
noncomputable def Q48.dec (v:V)(bs:List rA):Option (Int):=match v,bs with
 | .c (.int .i64 z0),[]=>some z0
 |_,_=>none
theorem Q48.f_eq (N:Nat)(a1 a2 a3:Int):
  cB (Q48.E N) (bo Tryz.f36) [.agg [.c (.int .i64 a1),.c (.int .i64 a2),.c (.int .i64 a3)]] [] Q48.dec=Q48.f N a1 a2 a3:=by kernel_rfl
noncomputable def Q48.ent (N:Nat):xA:=tF (Int) 0 [true] [.recd [.any,.any,.any]] fun
 | [.agg [.c (.int .i64 a1),.c (.int .i64 a2),.c (.int .i64 a3)]]=>some (Q48.f N a1 a2 a3,fun r=>.one (.c (.int .i64 r)) [])
 |_=>none
theorem Q48.env (N:Nat):aB Tryz.prog (Q48.E N):=⟨(.cons gD (.cons rC .nil)),(.cons (Q47.ent_ok N) (.cons (Q46.ent_ok N) .nil))⟩
theorem Q48.spec (N:Nat)(a1 a2:Int)(a3 r:Int)(h:Q48.f N a1 a2 a3=some r):fA Tryz.prog 36 [.agg [.c (.int .i64 a1),.c (.int .i64 a2),.c (.int .i64 a3)]] [] (.c (.int .i64 r)) ([]):=vA (Q48.env N) bA Tryz.func36 cA.n ((Q48.f_eq ..).trans h) fun v b e=>by unfold Q48.dec at e;split at e<;>cases e;exact⟨rfl,rfl⟩
theorem Q48.ent_ok (N:Nat):uA Tryz.prog 36 (Q48.ent N):=yA fun v a e h=>by split at h;exact mC (Q:=fun e=>fA _ _ _ _ (e a).pick.1 (e a).pick.2) h fun k=>Q48.spec N _ _ _ a k;cases h
noncomputable def Q49.f (N:Nat)(a1 a2:Int)(a3 a4:Int)(a5 a6 a7:Int):Option (Bool×Int×Int×Int×Int×Int×Int×Int):=
 bif decide (a2≤(aA (0-a1)))then
  bif !((aA (2*a1))==0)then
   bif !((aA (2*a1))==0)then
    bif decide ((Int.tmod (aA (a1-a2)) (aA (2*a1)))<0)then
     some (true,a1,aA (a2+(aA ((aA (2*(aA ((aA (Int.tdiv (aA (a1-a2)) (aA (2*a1))))-1))))*a1))),aA ((aA ((aA ((aA (a1*(aA ((aA (Int.tdiv (aA (a1-a2)) (aA (2*a1))))-1))))+a2))*(aA ((aA (Int.tdiv (aA (a1-a2)) (aA (2*a1))))-1))))+a3),a4,aA ((aA ((aA ((aA (Int.tdiv (aA (a1-a2)) (aA (2*a1))))-1))*a4))+a5),a6,aA ((aA ((aA ((aA (Int.tdiv (aA (a1-a2)) (aA (2*a1))))-1))*a6))+a7))
    else
    some (true,a1,aA (a2+(aA ((aA (2*(aA (Int.tdiv (aA (a1-a2)) (aA (2*a1))))))*a1))),aA ((aA ((aA ((aA (a1*(aA (Int.tdiv (aA (a1-a2)) (aA (2*a1))))))+a2))*(aA (Int.tdiv (aA (a1-a2)) (aA (2*a1))))))+a3),a4,aA ((aA ((aA (Int.tdiv (aA (a1-a2)) (aA (2*a1))))*a4))+a5),a6,aA ((aA ((aA (Int.tdiv (aA (a1-a2)) (aA (2*a1))))*a6))+a7))
   else none
  else none
 else
 bif decide (a2>a1)then
  bif !((aA (2*a1))==0)then
   bif !((aA (2*a1))==0)then
    bif decide ((Int.tmod (aA (a1-a2)) (aA (2*a1)))<0)then
     some (true,a1,aA (a2+(aA ((aA (2*(aA ((aA (Int.tdiv (aA (a1-a2)) (aA (2*a1))))-1))))*a1))),aA ((aA ((aA ((aA (a1*(aA ((aA (Int.tdiv (aA (a1-a2)) (aA (2*a1))))-1))))+a2))*(aA ((aA (Int.tdiv (aA (a1-a2)) (aA (2*a1))))-1))))+a3),a4,aA ((aA ((aA ((aA (Int.tdiv (aA (a1-a2)) (aA (2*a1))))-1))*a4))+a5),a6,aA ((aA ((aA ((aA (Int.tdiv (aA (a1-a2)) (aA (2*a1))))-1))*a6))+a7))
    else
    some (true,a1,aA (a2+(aA ((aA (2*(aA (Int.tdiv (aA (a1-a2)) (aA (2*a1))))))*a1))),aA ((aA ((aA ((aA (a1*(aA (Int.tdiv (aA (a1-a2)) (aA (2*a1))))))+a2))*(aA (Int.tdiv (aA (a1-a2)) (aA (2*a1))))))+a3),a4,aA ((aA ((aA (Int.tdiv (aA (a1-a2)) (aA (2*a1))))*a4))+a5),a6,aA ((aA ((aA (Int.tdiv (aA (a1-a2)) (aA (2*a1))))*a6))+a7))
   else none
  else none
 else
 bif decide (a1>a3)then
  some (true,a3,aA (0-a2),a1,a5,aA (0-a4),a7,aA (0-a6))
 else
 bif a1==a3 then
  bif decide (a2<0)then
   some (true,a3,aA (0-a2),a1,a5,aA (0-a4),a7,aA (0-a6))
  else
  some (false,a1,a2,a3,a4,a5,a6,a7)
 else
 some (false,a1,a2,a3,a4,a5,a6,a7)
noncomputable def Q49.E (N:Nat):bD:=xE [(2,fR),(33,aI),(72,xu),(74,E3)] [] [] [] N [.tmp 2] [.any] 1 164
noncomputable def Q49.dec (v:V)(bs:List rA):Option (Bool×Int×Int×Int×Int×Int×Int×Int):=match v,bs with
 | .c (.bool z0),[.vals [.c (.int .i64 z1),.c (.int .i64 z2),.c (.int .i64 z3),.c (.int .i64 z4),.c (.int .i64 z5),.c (.int .i64 z6),.c (.int .i64 z7)]]=>some (z0,z1,z2,z3,z4,z5,z6,z7)
 |_,_=>none
theorem Q49.f_eq (N:Nat)(a1 a2:Int)(a3 a4:Int)(a5 a6 a7:Int):
  cB (Q49.E N) (bo Tryz.f37) [.ptr 0 0 7] [.vals [.c (.int .i64 a1),.c (.int .i64 a2),.c (.int .i64 a3),.c (.int .i64 a4),.c (.int .i64 a5),.c (.int .i64 a6),.c (.int .i64 a7)]] Q49.dec=Q49.f N a1 a2 a3 a4 a5 a6 a7:=by kernel_rfl
noncomputable def Q49.ent (N:Nat):xA:={A:=Bool×Int×Int×Int×Int×Int×Int×Int,fresh:=0,imm:=[false],dec:=fun args bs=>match eG (nA bs) [false] args,bs with
 | [.ptr 0 0 7],[.vals [.c (.int .i64 a1),.c (.int .i64 a2),.c (.int .i64 a3),.c (.int .i64 a4),.c (.int .i64 a5),.c (.int .i64 a6),.c (.int .i64 a7)]]=>some (Q49.f N a1 a2 a3 a4 a5 a6 a7,fun r=>.one (.c (.bool r.1)) [.vals [.c (.int .i64 r.2.1),.c (.int .i64 r.2.2.1),.c (.int .i64 r.2.2.2.1),.c (.int .i64 r.2.2.2.2.1),.c (.int .i64 r.2.2.2.2.2.1),.c (.int .i64 r.2.2.2.2.2.2.1),.c (.int .i64 r.2.2.2.2.2.2.2)]])
 |_,_=>none}
theorem Q49.env (N:Nat):aB Tryz.prog (Q49.E N):=⟨(.cons gD (.cons rC (.cons vS (.cons gh .nil)))),.nil⟩
theorem Q49.spec (N:Nat)(a1 a2:Int)(a3 a4:Int)(a5 a6 a7:Int)(r:Bool×Int×Int×Int×Int×Int×Int×Int)(h:Q49.f N a1 a2 a3 a4 a5 a6 a7=some r):fA Tryz.prog 37 [.ptr 0 0 7] [.vals [.c (.int .i64 a1),.c (.int .i64 a2),.c (.int .i64 a3),.c (.int .i64 a4),.c (.int .i64 a5),.c (.int .i64 a6),.c (.int .i64 a7)]] (.c (.bool r.1)) ([.vals [.c (.int .i64 r.2.1),.c (.int .i64 r.2.2.1),.c (.int .i64 r.2.2.2.1),.c (.int .i64 r.2.2.2.2.1),.c (.int .i64 r.2.2.2.2.2.1),.c (.int .i64 r.2.2.2.2.2.2.1),.c (.int .i64 r.2.2.2.2.2.2.2)]]):=vA (Q49.env N) bA Tryz.func37 cA.n ((Q49.f_eq ..).trans h) fun v b e=>by unfold Q49.dec at e;split at e<;>cases e;exact⟨rfl,rfl⟩
theorem Q49.ent_ok (N:Nat):uA Tryz.prog 37 (Q49.ent N):=by
 intro args bs a enc h;simp only[Q49.ent]at h;split at h
 ·rename_i hz;have h0:=Option.some.inj h;have h1:=congrArg Prod.fst h0;have h2:=congrArg Prod.snd h0;dsimp only at h1 h2;subst h2;exact fA.of_asSl (fl:=[false]) (by rw[hz];exact Q49.spec N _ _ _ _ _ _ _ a h1)
 ·cases h
noncomputable def Q50.l6 {R:Type}(N:Nat):Nat→Int→Int→Int→Int→Int→Int→Int→Int→Int→Int→Int→Int→Int→Int→(Int→Int→Int→Int→Int→Int→Int→Int→Int→Int→Int→Int→Int→Int→Option R)→Option R
 |0,_,_,_,_,_,_,_,_,_,_,_,_,_,_,_=>none
 |n+1,x5,x6,x7,x8,x9,x10,x11,x12,x13,x14,x15,x16,x17,x18,k0=>
  (Q49.f N x12 x13 x14 x15 x16 x17 x18).bind fun r19=>
  bif r19.1 then
   Q50.l6 N n x5 x6 x7 x8 x9 x10 x11 r19.2.1 r19.2.2.1 r19.2.2.2.1 r19.2.2.2.2.1 r19.2.2.2.2.2.1 r19.2.2.2.2.2.2.1 r19.2.2.2.2.2.2.2 k0
  else
  k0 x5 x6 x7 x8 x9 x10 x11 r19.2.1 r19.2.2.1 r19.2.2.2.1 r19.2.2.2.2.1 r19.2.2.2.2.2.1 r19.2.2.2.2.2.2.1 r19.2.2.2.2.2.2.2
noncomputable def Q50.f (N:Nat)(a1 a2 a3:Int):Option (Int×Int×Int×Int×Int×Int×Int×Int):=
 (Q48.f N a1 a2 a3).bind fun r4=>
 bif r4 != 0 then
  some (0,0,0,0,0,0,0,r4)
 else
 Q50.l6 N N 0 0 0 0 0 0 0 a1 a2 a3 1 0 0 1
  (fun y34 y35 y36 y37 y38 y39 y40 y41 y42 y43 y44 y45 y46 y47=>
   some (y41,y42,y43,y44,y45,y46,y47,0))
noncomputable def Q50.h6:yC:=⟨[(2,.box [.any,.any,.any]),(3,.box [.any,.any,.any,.any]),(6,.box [.any,.any,.any,.any,.any,.any,.any]),(7,.any)],[(2,.box [.any,.any,.any]),(3,.box [.any,.any,.any,.any]),(6,.box [.any,.any,.any,.any,.any,.any,.any])]⟩
noncomputable def Q50.c6 (N:Nat):uH:=⟨fun vs H k=>match vs,H with
 | [.ptr 0 0 3,.ptr 1 0 4,.ptr 2 0 7,.fn 37 [.ptr 2 0 7] []],[.vals [.c (.int .i64 x5),.c (.int .i64 x6),.c (.int .i64 x7)],.vals [.c (.int .i64 x8),.c (.int .i64 x9),.c (.int .i64 x10),.c (.int .i64 x11)],.vals [.c (.int .i64 x12),.c (.int .i64 x13),.c (.int .i64 x14),.c (.int .i64 x15),.c (.int .i64 x16),.c (.int .i64 x17),.c (.int .i64 x18)]]=>Q50.l6 N N x5 x6 x7 x8 x9 x10 x11 x12 x13 x14 x15 x16 x17 x18 (fun x20 x21 x22 x23 x24 x25 x26 x27 x28 x29 x30 x31 x32 x33=>k (.exit 0) ⟨xC Q50.h6.out [.ptr 0 0 3,.ptr 1 0 4,.ptr 2 0 7],[.vals [.c (.int .i64 x20),.c (.int .i64 x21),.c (.int .i64 x22)],.vals [.c (.int .i64 x23),.c (.int .i64 x24),.c (.int .i64 x25),.c (.int .i64 x26)],.vals [.c (.int .i64 x27),.c (.int .i64 x28),.c (.int .i64 x29),.c (.int .i64 x30),.c (.int .i64 x31),.c (.int .i64 x32),.c (.int .i64 x33)]]⟩)
 |_,_=>none⟩
noncomputable def Q50.E (N:Nat):bD:=xE [(2,fR),(33,aI),(72,xu),(74,E3)] [(36,Q48.ent N),(37,Q49.ent N)] [(6,Q50.h6)] [(6,Q50.c6 N)] N [.cell 2 33,.cell 3 72,.tmp 4] [.recd [.any,.any,.any],.recd [.any,.any,.any,.any],.any] 0 31
noncomputable def Q50.b6:Code:=sA ((eA (bo Tryz.f54)).getD 0 .skip)
theorem Q50.l6_eq {R:Type}(N n:Nat)(x5 x6:Int)(x7 x8:Int)(x9 x10:Int)(x11 x12:Int)(x13 x14:Int)(x15 x16:Int)(x17 x18:Int)(k:Ex→St→Option R):
  gB 0 Q50.h6 (fun s k=>bB (Q50.E N) 393 Q50.b6 s k) n [.ptr 0 0 3,.ptr 1 0 4,.ptr 2 0 7,.fn 37 [.ptr 2 0 7] []] [.vals [.c (.int .i64 x5),.c (.int .i64 x6),.c (.int .i64 x7)],.vals [.c (.int .i64 x8),.c (.int .i64 x9),.c (.int .i64 x10),.c (.int .i64 x11)],.vals [.c (.int .i64 x12),.c (.int .i64 x13),.c (.int .i64 x14),.c (.int .i64 x15),.c (.int .i64 x16),.c (.int .i64 x17),.c (.int .i64 x18)]] k=Q50.l6 N n x5 x6 x7 x8 x9 x10 x11 x12 x13 x14 x15 x16 x17 x18 (fun x20 x21 x22 x23 x24 x25 x26 x27 x28 x29 x30 x31 x32 x33=>k (.exit 0) ⟨xC Q50.h6.out [.ptr 0 0 3,.ptr 1 0 4,.ptr 2 0 7],[.vals [.c (.int .i64 x20),.c (.int .i64 x21),.c (.int .i64 x22)],.vals [.c (.int .i64 x23),.c (.int .i64 x24),.c (.int .i64 x25),.c (.int .i64 x26)],.vals [.c (.int .i64 x27),.c (.int .i64 x28),.c (.int .i64 x29),.c (.int .i64 x30),.c (.int .i64 x31),.c (.int .i64 x32),.c (.int .i64 x33)]]⟩):=by
 induction n generalizing x5 x6 x7 x8 x9 x10 x11 x12 x13 x14 x15 x16 x17 x18 with
 |zero=>kernel_rfl
 |succ n ih=>
  simp only[Q50.l6,←ih]
  kernel_rfl
noncomputable def Q50.dec (v:V)(bs:List rA):Option (Int×Int×Int×Int×Int×Int×Int×Int):=match v,bs with
 | .tup [.agg [.c (.int .i64 z0),.c (.int .i64 z1),.c (.int .i64 z2)],.agg [.c (.int .i64 z3),.c (.int .i64 z4),.c (.int .i64 z5),.c (.int .i64 z6)],.c (.int .i64 z7)],[]=>some (z0,z1,z2,z3,z4,z5,z6,z7)
 |_,_=>none
theorem Q50.f_eq (N:Nat)(a1 a2 a3:Int):
  cB (Q50.E N) (bo Tryz.f54) [.agg [.c (.int .i64 a1),.c (.int .i64 a2),.c (.int .i64 a3)]] [] Q50.dec=Q50.f N a1 a2 a3:=by kernel_rfl
noncomputable def Q50.ent (N:Nat):xA:=tF (Int×Int×Int×Int×Int×Int×Int×Int) 0 [true] [.recd [.any,.any,.any]] fun
 | [.agg [.c (.int .i64 a1),.c (.int .i64 a2),.c (.int .i64 a3)]]=>some (Q50.f N a1 a2 a3,fun r=>.one (.tup [.agg [.c (.int .i64 r.1),.c (.int .i64 r.2.1),.c (.int .i64 r.2.2.1)],.agg [.c (.int .i64 r.2.2.2.1),.c (.int .i64 r.2.2.2.2.1),.c (.int .i64 r.2.2.2.2.2.1),.c (.int .i64 r.2.2.2.2.2.2.1)],.c (.int .i64 r.2.2.2.2.2.2.2)]) [])
 |_=>none
theorem Q50.env (N:Nat):aB Tryz.prog (Q50.E N):=⟨(.cons gD (.cons rC (.cons vS (.cons gh .nil)))),(.cons (Q48.ent_ok N) (.cons (Q49.ent_ok N) .nil))⟩
theorem Q50.k6 (N:Nat):uB Tryz.prog Tryz.f54 (Q50.E N) (.loop Q50.b6):=zC (Q50.env N) bA 393 (c:=Q50.c6 N) cA.n fun R vs H k r h=>by unfold Q50.c6 at h;dsimp only at h;split at h;exact⟨_,Q50.l6_eq .. ▸h⟩;cases h
theorem Q50.spec (N:Nat)(a1 a2 a3:Int)(r:Int×Int×Int×Int×Int×Int×Int×Int)(h:Q50.f N a1 a2 a3=some r):fA Tryz.prog 54 [.agg [.c (.int .i64 a1),.c (.int .i64 a2),.c (.int .i64 a3)]] [] (.tup [.agg [.c (.int .i64 r.1),.c (.int .i64 r.2.1),.c (.int .i64 r.2.2.1)],.agg [.c (.int .i64 r.2.2.2.1),.c (.int .i64 r.2.2.2.2.1),.c (.int .i64 r.2.2.2.2.2.1),.c (.int .i64 r.2.2.2.2.2.2.1)],.c (.int .i64 r.2.2.2.2.2.2.2)]) ([]):=vA (Q50.env N) bA Tryz.func54 (cA.of (l:=[(.loop (sA ((eA (bo Tryz.f54)).getD 0 .skip)))]) (by kernel_rfl) (cA.cons (Q50.k6 N) cA.nil)) ((Q50.f_eq ..).trans h) fun v b e=>by unfold Q50.dec at e;split at e<;>cases e;exact⟨rfl,rfl⟩
theorem Q50.ent_ok (N:Nat):uA Tryz.prog 54 (Q50.ent N):=yA fun v a e h=>by split at h;exact mC (Q:=fun e=>fA _ _ _ _ (e a).pick.1 (e a).pick.2) h fun k=>Q50.spec N _ _ _ a k;cases h
noncomputable def Q51.f (N:Nat)(a1 a2 a3:Int):Option (Int):=
 (Q46.f N a1 a2 a3).bind fun r4=>
 bif !r4 then
  some 0
 else
 (Q45.f N a1 a2).bind fun r5=>
 (Q45.f N r5.1 a3).bind fun r6=>
 some r6.1
noncomputable def Q51.E (N:Nat):bD:=xE [(2,fR),(33,aI)] [(38,Q46.ent N),(63,Q45.ent N)] [] [] N [.tmp 2] [.any] 0 27
noncomputable def Q51.dec (v:V)(bs:List rA):Option (Int):=match v,bs with
 | .c (.int .i64 z0),[]=>some z0
 |_,_=>none
theorem Q51.f_eq (N:Nat)(a1 a2 a3:Int):
  cB (Q51.E N) (bo Tryz.f62) [.agg [.c (.int .i64 a1),.c (.int .i64 a2),.c (.int .i64 a3)]] [] Q51.dec=Q51.f N a1 a2 a3:=by kernel_rfl
noncomputable def Q51.ent (N:Nat):xA:=tF (Int) 0 [true] [.recd [.any,.any,.any]] fun
 | [.agg [.c (.int .i64 a1),.c (.int .i64 a2),.c (.int .i64 a3)]]=>some (Q51.f N a1 a2 a3,fun r=>.one (.c (.int .i64 r)) [])
 |_=>none
theorem Q51.env (N:Nat):aB Tryz.prog (Q51.E N):=⟨(.cons gD (.cons rC .nil)),(.cons (Q46.ent_ok N) (.cons (Q45.ent_ok N) .nil))⟩
theorem Q51.spec (N:Nat)(a1 a2:Int)(a3 r:Int)(h:Q51.f N a1 a2 a3=some r):fA Tryz.prog 62 [.agg [.c (.int .i64 a1),.c (.int .i64 a2),.c (.int .i64 a3)]] [] (.c (.int .i64 r)) ([]):=vA (Q51.env N) bA Tryz.func62 cA.n ((Q51.f_eq ..).trans h) fun v b e=>by unfold Q51.dec at e;split at e<;>cases e;exact⟨rfl,rfl⟩
theorem Q51.ent_ok (N:Nat):uA Tryz.prog 62 (Q51.ent N):=yA fun v a e h=>by split at h;exact mC (Q:=fun e=>fA _ _ _ _ (e a).pick.1 (e a).pick.2) h fun k=>Q51.spec N _ _ _ a k;cases h
noncomputable def Q52.f (N:Nat)(a1:Bool)(a2:List Int):Option (Bool×List Int):=
 (Q24.f N a2).bind fun r3=>
 bif r3==0 then
  some (false,[])
 else
 some (a1,a2)
noncomputable def Q53.f (N:Nat)(a1:Int):Option (Bool×List Int):=
 bif decide (a1<0)then
  (Q22.f N (gA (0- (gA a1)))).bind fun r2=>
  (Q52.f N true r2).bind fun r3=>
  some (r3.1,r3.2)
 else
 (Q22.f N (gA a1)).bind fun r4=>
 (Q52.f N false r4).bind fun r5=>
 some (r5.1,r5.2)
noncomputable def Q54.f (N:Nat)(a1:Bool)(a2:List Int):Option (Int):=
 (Q24.f N a2).bind fun r3=>
 bif r3==0 then
  some 0
 else
 bif a1 then
  some (-1)
 else
 some 1
noncomputable def Q55.f (N:Nat)(a1:Bool)(a2:List Int):Option (Bool):=
 (Q54.f N a1 a2).bind fun r3=>
 some (r3==0)
noncomputable def Q56.f (N:Nat)(a1:Bool)(a2:List Int):Option (Int×Bool):=
 (Q23.f N a2).bind fun r3=>
 bif !r3.2 then
  some (0,false)
 else
 bif decide (r3.1>9223372036854775808)then
  some (0,false)
 else
 bif r3.1==9223372036854775808 then
  bif !a1 then
   some (0,false)
  else
  (Q54.f N a1 a2).bind fun r4=>
  bif decide (r4<0)then
   some (aA (gA (0-r3.1)),true)
  else
  some (aA r3.1,true)
 else
 (Q54.f N a1 a2).bind fun r5=>
 bif decide (r5<0)then
  some (aA (gA (0-r3.1)),true)
 else
 some (aA r3.1,true)
noncomputable def Q57.f (N:Nat)(a1:Bool)(a2:List Int)(a3:Bool)(a4:List Int):Option (Int):=
 (Q54.f N a1 a2).bind fun r5=>
 (Q54.f N a3 a4).bind fun r6=>
 bif decide (r5<r6)then
  some (-1)
 else
 bif decide (r5>r6)then
  some 1
 else
 bif decide (r5<0)then
  (Q25.f N a4 a2).bind fun r7=>
  some r7
 else
 (Q25.f N a2 a4).bind fun r8=>
 some r8
noncomputable def Q58.f (N:Nat)(a1:Bool)(a2:List Int):Option (Bool×List Int):=
 (Q52.f N (!a1) a2).bind fun r3=>
 some (r3.1,r3.2)
noncomputable def Q59.f (N:Nat)(a1:Bool)(a2:List Int)(a3:Bool)(a4:List Int):Option (Bool×List Int):=
 bif a1==a3 then
  (Q26.f N a2 a4).bind fun r5=>
  (Q52.f N a1 r5).bind fun r6=>
  some (r6.1,r6.2)
 else
 (Q25.f N a2 a4).bind fun r7=>
 bif decide (r7≥0)then
  (Q27.f N a2 a4).bind fun r8=>
  (Q52.f N a1 r8).bind fun r9=>
  some (r9.1,r9.2)
 else
 (Q27.f N a4 a2).bind fun r10=>
 (Q52.f N a3 r10).bind fun r11=>
 some (r11.1,r11.2)
noncomputable def Q60.f (N:Nat)(a1:Bool)(a2:List Int)(a3:Bool)(a4:List Int):Option (Bool×List Int):=
 (Q58.f N a3 a4).bind fun r5=>
 (Q59.f N a1 a2 r5.1 r5.2).bind fun r6=>
 some (r6.1,r6.2)
noncomputable def Q61.f (N:Nat)(a1:Bool)(a2:List Int)(a3:Bool)(a4:List Int):Option (Bool×List Int):=
 (Q28.f N a2 a4).bind fun r5=>
 (Q52.f N (!(a1==a3)) r5).bind fun r6=>
 some (r6.1,r6.2)
noncomputable def Q62.f (N:Nat)(a1:Bool)(a2:List Int)(a3:Bool)(a4:List Int):Option (Bool×List Int×Bool×List Int):=
 (Q29.f N a2 a4).bind fun r5=>
 (Q52.f N (!(a1==a3)) r5.1).bind fun r6=>
 (Q52.f N a1 r5.2).bind fun r7=>
 (Q54.f N r7.1 r7.2).bind fun r8=>
 bif decide (r8<0)then
  (Q52.f N false a4).bind fun r9=>
  (Q59.f N r7.1 r7.2 r9.1 r9.2).bind fun r10=>
  bif a3 then
   (Q53.f N 1).bind fun r11=>
   (Q59.f N r6.1 r6.2 r11.1 r11.2).bind fun r12=>
   some (r12.1,r12.2,r10.1,r10.2)
  else
  (Q53.f N 1).bind fun r13=>
  (Q60.f N r6.1 r6.2 r13.1 r13.2).bind fun r14=>
  some (r14.1,r14.2,r10.1,r10.2)
 else
 some (r6.1,r6.2,r7.1,r7.2)
noncomputable def Q63.l5 {R:Type}(N:Nat):Nat→Bool→List Int→Bool→Bool→List Int→Bool→List Int→Bool→List Int→Bool→List Int→(Bool→List Int→Bool→Bool→List Int→Option R)→Option R
 |0,_,_,_,_,_,_,_,_,_,_,_,_=>none
 |n+1,x7,x8,x9,x10,x11,x12,x13,x14,x15,x16,x17,k0=>
  (Q55.f N x12 x13).bind fun r18=>
  bif !r18 then
   (Q62.f N x10 x11 x12 x13).bind fun r19=>
   (Q61.f N r19.1 r19.2.1 x16 x17).bind fun r20=>
   (Q60.f N x14 x15 r20.1 r20.2).bind fun r21=>
   Q63.l5 N n x7 x8 x9 x12 x13 r19.2.2.1 r19.2.2.2 x16 x17 r21.1 r21.2 k0
  else
  k0 x7 x8 x9 x14 x15
noncomputable def Q63.f (N:Nat)(a1:Bool)(a2:List Int)(a3:Bool)(a4:List Int):Option (Bool×List Int):=
 (Q62.f N a1 a2 a3 a4).bind fun r5=>
 (Q53.f N 1).bind fun r6=>
 Q63.l5 N N a3 a4 false a3 a4 r5.2.2.1 r5.2.2.2 false [] r6.1 r6.2
  (fun y27 y28 y29 y30 y31=>
   (Q62.f N y30 y31 y27 y28).bind fun r32=>
   some (r32.2.2.1,r32.2.2.2))
noncomputable def Q64.f (N:Nat)(a1:Bool)(a2:List Int)(a3:Bool)(a4:List Int):Option (List Int×Bool×List Int×Bool×List Int):=
 (Q55.f N a3 a4).bind fun r5=>
 bif r5 then
  (Q54.f N a1 a2).bind fun r6=>
  (Q53.f N r6).bind fun r7=>
  some (a2,r7.1,r7.2,false,[])
 else
 (Q30.f N a2 a4).bind fun r8=>
 (Q52.f N false r8).bind fun r9=>
 (Q52.f N false a4).bind fun r10=>
 (Q62.f N r10.1 r10.2 r9.1 r9.2).bind fun r11=>
 (Q62.f N a1 a2 r9.1 r9.2).bind fun r12=>
 (Q63.f N r12.1 r12.2.1 r11.1 r11.2.1).bind fun r13=>
 (Q61.f N a1 a2 r13.1 r13.2).bind fun r14=>
 (Q60.f N r9.1 r9.2 r14.1 r14.2).bind fun r15=>
 (Q62.f N r15.1 r15.2 a3 a4).bind fun r16=>
 some (r8,r13.1,r13.2,r16.1,r16.2.1)
noncomputable def Q65.f (N:Nat)(a1 a2:Int):Option (Int):=
 bif !(a2==0)then
  bif decide ((Int.tmod a1 a2)<0)then
   some (aA ((Int.tmod a1 a2)+a2))
  else
  some (Int.tmod a1 a2)
 else none
noncomputable def Q66.l3 {R:Type}(N:Nat):Nat→Int→Int→(Int→Option R)→Option R
 |0,_,_,_=>none
 |n+1,x3,x4,k0=>
  bif decide (x4>0)then
   bif !(x4==0)then
    Q66.l3 N n x4 (Int.tmod x3 x4) k0
   else none
  else
  k0 x3
noncomputable def Q66.f (N:Nat)(a1 a2:Int):Option (Int):=
 Q66.l3 N N (ph a1 (aA (0-a1))) (ph a2 (aA (0-a2)))
  (fun y6=>
   some y6)
noncomputable def Q67.f (N:Nat)(a1:Int):Option (Bool):=
 bif decide (a1≥(-1073741824))then
  some (decide (a1≤1073741824))
 else
 some false
noncomputable def Q68.f (N:Nat)(a1 a2 a3:Int):Option (Bool):=
 (Q67.f N a1).bind fun r4=>
 bif r4 then
  (Q67.f N a2).bind fun r5=>
  bif r5 then
   (Q67.f N a3).bind fun r6=>
   some r6
  else
  some false
 else
 some false
noncomputable def Q69.f (N:Nat)(a1 a2 a3:Int):Option (Int):=
 (Q68.f N a1 a2 a3).bind fun r4=>
 bif !r4 then
  some 0
 else
 some (aA ((aA (a2*a2))- (aA ((aA (4*a1))*a3))))
noncomputable def Q70.f (N:Nat)(a1 a2 a3:Int):Option (Int):=
 (Q68.f N a1 a2 a3).bind fun r4=>
 bif !r4 then
  some 3
 else
 bif decide (a1≤0)then
  some 81
 else
 (Q69.f N a1 a2 a3).bind fun r5=>
 bif decide (r5≥0)then
  some 81
 else
 (Q69.f N a1 a2 a3).bind fun r6=>
 bif decide (r6<(-4294967296))then
  some 80
 else
 some 0
noncomputable def Q71.f (N:Nat)(a1 a2 a3:Int):Option (Bool):=
 bif decide ((aA (0-a1))<a2)then
  bif decide (a2≤a1)then
   bif decide (a1≤a3)then
    bif decide (a2≥0)then
     some true
    else
    some (a1 != a3)
   else
   some false
  else
  some false
 else
 some false
noncomputable def Q72.f (N:Nat)(a1 a2:Int):Option (Int):=
 (Q65.f N a1 a2).bind fun r3=>
 bif !(a2==0)then
  some (aA (Int.tdiv (aA (a1-r3)) a2))
 else none
noncomputable def Q73.l5 {R:Type}(N:Nat):Nat→Int→Int→Int→Int→Int→Int→Int→Int→Int→Int→Int→Int→Int→Int→(Int→Int→Int→Int→Int→Int→Int→Int→Int→Int→Int→Int→Int→Int→Option R)→Option R
 |0,_,_,_,_,_,_,_,_,_,_,_,_,_,_,_=>none
 |n+1,x5,x6,x7,x8,x9,x10,x11,x12,x13,x14,x15,x16,x17,x18,k0=>
  (Q71.f N x5 x6 x7).bind fun r19=>
  bif !r19 then
   bif decide ((aA (0-x5))≥x6)then
    (Q72.f N (aA (x5-x6)) (aA (2*x5))).bind fun r20=>
    Q73.l5 N n x5 (aA (x6+(aA ((aA (2*r20))*x5)))) (aA ((aA ((aA ((aA (x5*r20))+x6))*r20))+x7)) x8 x9 x10 x11 x12 x13 x14 x15 (aA ((aA (r20*x15))+x16)) x17 (aA ((aA (r20*x17))+x18)) k0
   else
   bif decide (x6>x5)then
    (Q72.f N (aA (x5-x6)) (aA (2*x5))).bind fun r21=>
    Q73.l5 N n x5 (aA (x6+(aA ((aA (2*r21))*x5)))) (aA ((aA ((aA ((aA (x5*r21))+x6))*r21))+x7)) x8 x9 x10 x11 x12 x13 x14 x15 (aA ((aA (r21*x15))+x16)) x17 (aA ((aA (r21*x17))+x18)) k0
   else
   Q73.l5 N n x7 (aA (0-x6)) x5 x8 x9 x10 x11 x12 x13 x14 x16 (aA (0-x15)) x18 (aA (0-x17)) k0
  else
  k0 x5 x6 x7 x8 x9 x10 x11 x12 x13 x14 x15 x16 x17 x18
noncomputable def Q73.f (N:Nat)(a1 a2 a3:Int):Option (Int×Int×Int×Int×Int×Int×Int×Int):=
 (Q70.f N a1 a2 a3).bind fun r4=>
 bif r4 != 0 then
  some (0,0,0,0,0,0,0,r4)
 else
 Q73.l5 N N a1 a2 a3 0 0 0 0 0 0 0 1 0 0 1
  (fun y36 y37 y38 y39 y40 y41 y42 y43 y44 y45 y46 y47 y48 y49=>
   some (y36,y37,y38,y46,y47,y48,y49,0))
noncomputable def Q74.f (N:Nat)(a1 a2 a3:Int):Option (Int):=
 (Q68.f N a1 a2 a3).bind fun r4=>
 bif !r4 then
  some 0
 else
 (Q66.f N a1 a2).bind fun r5=>
 (Q66.f N r5 a3).bind fun r6=>
 some r6
noncomputable def G5:TI:=⟨.int .u64,1,8,[.int .u64 0]⟩
theorem ur:uC Tryz.prog 79 G5:=fD (by kernel_rfl) (by kernel_rfl) (by kernel_rfl) (by kernel_rfl) (by kernel_rfl) (by kernel_rfl) (by kernel_rfl) (Tryz.underlying79) (by kernel_rfl)
noncomputable def Q75.f (N:Nat)(a1:Int):Option (Int):=
 bif decide (a1≥4294967296)then
  bif decide ((Int.fdiv a1 (2^32))≥65536)then
   bif decide ((Int.fdiv (Int.fdiv a1 (2^32)) (2^16))≥256)then
    bif (decide (0≤(rM (Int.fdiv (Int.fdiv (Int.fdiv a1 (2^32)) (2^16)) (2^8)))))&&(decide ((rM (Int.fdiv (Int.fdiv (Int.fdiv a1 (2^32)) (2^16)) (2^8)))<(zH.size:Int)))then
     some (aA (56+(aA (wF zH ((rM (Int.fdiv (Int.fdiv (Int.fdiv a1 (2^32)) (2^16)) (2^8))).toNat)))))
    else none
   else
   bif (decide (0≤(rM (Int.fdiv (Int.fdiv a1 (2^32)) (2^16)))))&&(decide ((rM (Int.fdiv (Int.fdiv a1 (2^32)) (2^16)))<(zH.size:Int)))then
    some (aA (48+(aA (wF zH ((rM (Int.fdiv (Int.fdiv a1 (2^32)) (2^16))).toNat)))))
   else none
  else
  bif decide ((Int.fdiv a1 (2^32))≥256)then
   bif (decide (0≤(rM (Int.fdiv (Int.fdiv a1 (2^32)) (2^8)))))&&(decide ((rM (Int.fdiv (Int.fdiv a1 (2^32)) (2^8)))<(zH.size:Int)))then
    some (aA (40+(aA (wF zH ((rM (Int.fdiv (Int.fdiv a1 (2^32)) (2^8))).toNat)))))
   else none
  else
  bif (decide (0≤(rM (Int.fdiv a1 (2^32)))))&&(decide ((rM (Int.fdiv a1 (2^32)))<(zH.size:Int)))then
   some (aA (32+(aA (wF zH ((rM (Int.fdiv a1 (2^32))).toNat)))))
  else none
 else
 bif decide (a1≥65536)then
  bif decide ((Int.fdiv a1 (2^16))≥256)then
   bif (decide (0≤(rM (Int.fdiv (Int.fdiv a1 (2^16)) (2^8)))))&&(decide ((rM (Int.fdiv (Int.fdiv a1 (2^16)) (2^8)))<(zH.size:Int)))then
    some (aA (24+(aA (wF zH ((rM (Int.fdiv (Int.fdiv a1 (2^16)) (2^8))).toNat)))))
   else none
  else
  bif (decide (0≤(rM (Int.fdiv a1 (2^16)))))&&(decide ((rM (Int.fdiv a1 (2^16)))<(zH.size:Int)))then
   some (aA (16+(aA (wF zH ((rM (Int.fdiv a1 (2^16))).toNat)))))
  else none
 else
 bif decide (a1≥256)then
  bif (decide (0≤(rM (Int.fdiv a1 (2^8)))))&&(decide ((rM (Int.fdiv a1 (2^8)))<(zH.size:Int)))then
   some (aA (8+(aA (wF zH ((rM (Int.fdiv a1 (2^8))).toNat)))))
  else none
 else
 bif (decide (0≤(rM a1)))&&(decide ((rM a1)<(zH.size:Int)))then
  some (aA (0+(aA (wF zH ((rM a1).toNat)))))
 else none
noncomputable def Q75.E (N:Nat):bD:=xE [(3,Ci),(5,Hl),(9,Hn),(78,bQ)] [] [] [] N [.tmp 2] [.any] 0 25
noncomputable def Q75.dec (v:V)(bs:List rA):Option (Int):=match v,bs with
 | .c (.int .i64 z0),[]=>some z0
 |_,_=>none
theorem Q75.f_eq (N:Nat)(a1:Int):
  cB (Q75.E N) (bo Tryz.f116) [.c (.int .u64 a1)] [] Q75.dec=Q75.f N a1:=by kernel_rfl
noncomputable def Q75.ent (N:Nat):xA:=tF (Int) 0 [true] [.any] fun
 | [.c (.int .u64 a1)]=>some (Q75.f N a1,fun r=>.one (.c (.int .i64 r)) [])
 |_=>none
theorem Q75.env (N:Nat):aB Tryz.prog (Q75.E N):=⟨(.cons sL (.cons Cj (.cons Cm (.cons nF .nil)))),.nil⟩
theorem Q75.spec (N:Nat)(a1 r:Int)(h:Q75.f N a1=some r):fA Tryz.prog 116 [.c (.int .u64 a1)] [] (.c (.int .i64 r)) ([]):=vA (Q75.env N) bA Tryz.func116 cA.n ((Q75.f_eq ..).trans h) fun v b e=>by unfold Q75.dec at e;split at e<;>cases e;exact⟨rfl,rfl⟩
theorem Q75.ent_ok (N:Nat):uA Tryz.prog 116 (Q75.ent N):=yA fun v a e h=>by split at h;exact mC (Q:=fun e=>fA _ _ _ _ (e a).pick.1 (e a).pick.2) h fun k=>Q75.spec N _ a k;cases h
noncomputable def Q76.f (N:Nat)(a1:Int):Option (Int):=
 (Q75.f N a1).bind fun r2=>
 some (aA (64-r2))
noncomputable def Q76.E (N:Nat):bD:=xE [] [(116,Q75.ent N)] [] [] N [.tmp 2] [.any] 0 6
noncomputable def Q76.dec (v:V)(bs:List rA):Option (Int):=match v,bs with
 | .c (.int .i64 z0),[]=>some z0
 |_,_=>none
theorem Q76.f_eq (N:Nat)(a1:Int):
  cB (Q76.E N) (bo Tryz.f163) [.c (.int .u64 a1)] [] Q76.dec=Q76.f N a1:=by kernel_rfl
noncomputable def Q76.ent (N:Nat):xA:=tF (Int) 0 [true] [.any] fun
 | [.c (.int .u64 a1)]=>some (Q76.f N a1,fun r=>.one (.c (.int .i64 r)) [])
 |_=>none
theorem Q76.env (N:Nat):aB Tryz.prog (Q76.E N):=⟨.nil,(.cons (Q75.ent_ok N) .nil)⟩
theorem Q76.spec (N:Nat)(a1 r:Int)(h:Q76.f N a1=some r):fA Tryz.prog 163 [.c (.int .u64 a1)] [] (.c (.int .i64 r)) ([]):=vA (Q76.env N) bA Tryz.func163 cA.n ((Q76.f_eq ..).trans h) fun v b e=>by unfold Q76.dec at e;split at e<;>cases e;exact⟨rfl,rfl⟩
theorem Q76.ent_ok (N:Nat):uA Tryz.prog 163 (Q76.ent N):=yA fun v a e h=>by split at h;exact mC (Q:=fun e=>fA _ _ _ _ (e a).pick.1 (e a).pick.2) h fun k=>Q76.spec N _ a k;cases h
noncomputable def Q77.f (N:Nat)(a1 a2:Int):Option (Int×Int):=
 some (gA ((gA ((gA ((Int.fdiv a1 (2^32))*(Int.fdiv a2 (2^32))))+(Int.fdiv (gA ((gA ((Int.fdiv a1 (2^32))*(fC .u64 a2 4294967295)))+(Int.fdiv (gA ((fC .u64 a1 4294967295)*(fC .u64 a2 4294967295))) (2^32)))) (2^32))))+(Int.fdiv (gA ((fC .u64 (gA ((gA ((Int.fdiv a1 (2^32))*(fC .u64 a2 4294967295)))+(Int.fdiv (gA ((fC .u64 a1 4294967295)*(fC .u64 a2 4294967295))) (2^32)))) 4294967295)+(gA ((fC .u64 a1 4294967295)*(Int.fdiv a2 (2^32)))))) (2^32))),gA (a1*a2))
noncomputable def Q77.E (N:Nat):bD:=xE [] [] [] [] N [.tmp 4,.tmp 5] [.any,.any] 0 51
noncomputable def Q77.dec (v:V)(bs:List rA):Option (Int×Int):=match v,bs with
 | .tup [.c (.int .u64 z0),.c (.int .u64 z1)],[]=>some (z0,z1)
 |_,_=>none
theorem Q77.f_eq (N:Nat)(a1 a2:Int):
  cB (Q77.E N) (bo Tryz.f153) [.c (.int .u64 a1),.c (.int .u64 a2)] [] Q77.dec=Q77.f N a1 a2:=by kernel_rfl
noncomputable def Q77.ent (N:Nat):xA:=tF (Int×Int) 0 [true,true] [.any,.any] fun
 | [.c (.int .u64 a1),.c (.int .u64 a2)]=>some (Q77.f N a1 a2,fun r=>.one (.tup [.c (.int .u64 r.1),.c (.int .u64 r.2)]) [])
 |_=>none
theorem Q77.env (N:Nat):aB Tryz.prog (Q77.E N):=⟨.nil,.nil⟩
theorem Q77.spec (N:Nat)(a1 a2:Int)(r:Int×Int)(h:Q77.f N a1 a2=some r):fA Tryz.prog 153 [.c (.int .u64 a1),.c (.int .u64 a2)] [] (.tup [.c (.int .u64 r.1),.c (.int .u64 r.2)]) ([]):=vA (Q77.env N) bA Tryz.func153 cA.n ((Q77.f_eq ..).trans h) fun v b e=>by unfold Q77.dec at e;split at e<;>cases e;exact⟨rfl,rfl⟩
theorem Q77.ent_ok (N:Nat):uA Tryz.prog 153 (Q77.ent N):=yA fun v a e h=>by split at h;exact mC (Q:=fun e=>fA _ _ _ _ (e a).pick.1 (e a).pick.2) h fun k=>Q77.spec N _ _ a k;cases h
noncomputable def Q78.l17 {R:Type}(N:Nat):Nat→Int→Int→Int→Int→Int→Int→Int→Int→Int→(Int→Int→Int→Int→Int→Int→Int→Int→Option R)→Option R
 |0,_,_,_,_,_,_,_,_,_,_=>none
 |n+1,x5,x6,x7,x8,x9,x10,x11,x12,x13,k0=>
  bif decide (x12≥4294967296)then
   bif decide ((gA (x13+x7))≥4294967296)then
    k0 x5 x6 x7 x8 x9 x10 x11 (gA (x12-1))
   else
   Q78.l17 N n x5 x6 x7 x8 x9 x10 x11 (gA (x12-1)) (gA (x13+x7)) k0
  else
  bif decide ((gA (x12*x8))>(gA ((gA (4294967296*x13))+x10)))then
   bif decide ((gA (x13+x7))≥4294967296)then
    k0 x5 x6 x7 x8 x9 x10 x11 (gA (x12-1))
   else
   Q78.l17 N n x5 x6 x7 x8 x9 x10 x11 (gA (x12-1)) (gA (x13+x7)) k0
  else
  k0 x5 x6 x7 x8 x9 x10 x11 x12
noncomputable def Q78.l24 {R:Type}(N:Nat):Nat→Int→Int→Int→Int→Int→Int→Int→Int→Int→(Int→Int→Int→Int→Int→Int→Option R)→Option R
 |0,_,_,_,_,_,_,_,_,_,_=>none
 |n+1,x30,x31,x32,x33,x34,x35,x36,x37,x38,k2=>
  bif decide (x38≥4294967296)then
   bif decide ((gA (x36+x32))≥4294967296)then
    k2 x30 x31 x34 x35 x37 (gA (x38-1))
   else
   Q78.l24 N n x30 x31 x32 x33 x34 x35 (gA (x36+x32)) x37 (gA (x38-1)) k2
  else
  bif decide ((gA (x38*x33))>(gA ((gA (4294967296*x36))+x34)))then
   bif decide ((gA (x36+x32))≥4294967296)then
    k2 x30 x31 x34 x35 x37 (gA (x38-1))
   else
   Q78.l24 N n x30 x31 x32 x33 x34 x35 (gA (x36+x32)) x37 (gA (x38-1)) k2
  else
  k2 x30 x31 x34 x35 x37 x38
noncomputable def Q78.f (N:Nat)(a1 a2 a3:Int):Option (Int×Int):=
 bif a3==0 then none else
 bif decide (a3≤a1)then none else
 bif a1==0 then
  bif !(a3==0)then
   bif !(a3==0)then
    some (gA (Int.tdiv a2 a3),Int.tmod a2 a3)
   else none
  else none
 else
 (Q76.f N a3).bind fun r4=>
 bif decide (0≤(gA r4))then
  bif decide (0≤(gA r4))then
   bif decide (0≤(gA (64- (gA r4))))then
    bif decide (0≤(gA r4))then
     bif !((Int.fdiv (gA (a3*2^(min (gA r4).toNat 64))) (2^32))==0)then
      Q78.l17 N N (gA (a3*2^(min (gA r4).toNat 64))) (gA r4) (Int.fdiv (gA (a3*2^(min (gA r4).toNat 64))) (2^32)) (fC .u64 (gA (a3*2^(min (gA r4).toNat 64))) 4294967295) (vD .u64 (gA (a1*2^(min (gA r4).toNat 64))) (Int.fdiv a2 (2^(min (gA (64- (gA r4))).toNat 64)))) (Int.fdiv (gA (a2*2^(min (gA r4).toNat 64))) (2^32)) (fC .u64 (gA (a2*2^(min (gA r4).toNat 64))) 4294967295) (gA (Int.tdiv (vD .u64 (gA (a1*2^(min (gA r4).toNat 64))) (Int.fdiv a2 (2^(min (gA (64- (gA r4))).toNat 64)))) (Int.fdiv (gA (a3*2^(min (gA r4).toNat 64))) (2^32)))) (gA ((vD .u64 (gA (a1*2^(min (gA r4).toNat 64))) (Int.fdiv a2 (2^(min (gA (64- (gA r4))).toNat 64))))- (gA ((gA (Int.tdiv (vD .u64 (gA (a1*2^(min (gA r4).toNat 64))) (Int.fdiv a2 (2^(min (gA (64- (gA r4))).toNat 64)))) (Int.fdiv (gA (a3*2^(min (gA r4).toNat 64))) (2^32))))*(Int.fdiv (gA (a3*2^(min (gA r4).toNat 64))) (2^32))))))
       (fun y22 y23 y24 y25 y26 y27 y28 y29=>
        bif !(y24==0)then
         Q78.l24 N N y22 y23 y24 y25 y28 y29 (gA ((gA ((gA ((gA (y26*4294967296))+y27))- (gA (y29*y22))))- (gA ((gA (Int.tdiv (gA ((gA ((gA (y26*4294967296))+y27))- (gA (y29*y22)))) y24))*y24)))) (gA ((gA ((gA (y26*4294967296))+y27))- (gA (y29*y22)))) (gA (Int.tdiv (gA ((gA ((gA (y26*4294967296))+y27))- (gA (y29*y22)))) y24))
          (fun y45 y46 y47 y48 y49 y50=>
           bif decide (0≤y46)then
            some (gA ((gA (y48*4294967296))+y50),Int.fdiv (gA ((gA ((gA (y49*4294967296))+y47))- (gA (y50*y45)))) (2^(min y46.toNat 64)))
           else none)
        else none)
     else none
    else none
   else none
  else none
 else none
noncomputable def Q78.h17:yC:=⟨[(2,.any),(8,.any),(9,.any),(10,.any),(11,.any),(13,.any),(14,.any),(15,.any),(16,.any)],[(2,.any),(8,.any),(9,.any),(10,.any),(11,.any),(13,.any),(14,.any),(15,.any)]⟩
noncomputable def Q78.h24:yC:=⟨[(2,.any),(8,.any),(9,.any),(10,.any),(14,.any),(15,.any),(16,.any),(17,.any),(18,.any)],[(2,.any),(8,.any),(14,.any),(15,.any),(17,.any),(18,.any)]⟩
noncomputable def Q78.c17 (N:Nat):uH:=⟨fun vs H k=>match vs,H with
 | [.c (.int .u64 x5),.c (.int .u64 x6),.c (.int .u64 x7),.c (.int .u64 x8),.c (.int .u64 x9),.c (.int .u64 x10),.c (.int .u64 x11),.c (.int .u64 x12),.c (.int .u64 x13)],[]=>Q78.l17 N N x5 x6 x7 x8 x9 x10 x11 x12 x13 (fun x14 x15 x16 x17 x18 x19 x20 x21=>k (.exit 0) ⟨xC Q78.h17.out [.c (.int .u64 x14),.c (.int .u64 x15),.c (.int .u64 x16),.c (.int .u64 x17),.c (.int .u64 x18),.c (.int .u64 x19),.c (.int .u64 x20),.c (.int .u64 x21)],[]⟩)
 |_,_=>none⟩
noncomputable def Q78.c24 (N:Nat):uH:=⟨fun vs H k=>match vs,H with
 | [.c (.int .u64 x30),.c (.int .u64 x31),.c (.int .u64 x32),.c (.int .u64 x33),.c (.int .u64 x34),.c (.int .u64 x35),.c (.int .u64 x36),.c (.int .u64 x37),.c (.int .u64 x38)],[]=>Q78.l24 N N x30 x31 x32 x33 x34 x35 x36 x37 x38 (fun x39 x40 x41 x42 x43 x44=>k (.exit 2) ⟨xC Q78.h24.out [.c (.int .u64 x39),.c (.int .u64 x40),.c (.int .u64 x41),.c (.int .u64 x42),.c (.int .u64 x43),.c (.int .u64 x44)],[]⟩)
 |_,_=>none⟩
noncomputable def Q78.E (N:Nat):bD:=xE [(3,Ci),(79,G5)] [(163,Q76.ent N)] [(17,Q78.h17),(24,Q78.h24)] [(17,Q78.c17 N),(24,Q78.c24 N)] N [.tmp 6,.tmp 7] [.any,.any] 0 135
noncomputable def Q78.b17:Code:=sA ((eA (bo Tryz.f154)).getD 0 .skip)
theorem Q78.l17_eq {R:Type}(N n:Nat)(x5 x6:Int)(x7 x8:Int)(x9 x10:Int)(x11 x12 x13:Int)(k:Ex→St→Option R):
  gB 0 Q78.h17 (fun s k=>bB (Q78.E N) 383 Q78.b17 s k) n [.c (.int .u64 x5),.c (.int .u64 x6),.c (.int .u64 x7),.c (.int .u64 x8),.c (.int .u64 x9),.c (.int .u64 x10),.c (.int .u64 x11),.c (.int .u64 x12),.c (.int .u64 x13)] [] k=Q78.l17 N n x5 x6 x7 x8 x9 x10 x11 x12 x13 (fun x14 x15 x16 x17 x18 x19 x20 x21=>k (.exit 0) ⟨xC Q78.h17.out [.c (.int .u64 x14),.c (.int .u64 x15),.c (.int .u64 x16),.c (.int .u64 x17),.c (.int .u64 x18),.c (.int .u64 x19),.c (.int .u64 x20),.c (.int .u64 x21)],[]⟩):=by
 induction n generalizing x5 x6 x7 x8 x9 x10 x11 x12 x13 with
 |zero=>kernel_rfl
 |succ n ih=>
  simp only[Q78.l17,←ih]
  kernel_rfl
noncomputable def Q78.b24:Code:=sA ((eA (bo Tryz.f154)).getD 1 .skip)
theorem Q78.l24_eq {R:Type}(N n:Nat)(x30 x31:Int)(x32 x33:Int)(x34 x35:Int)(x36 x37 x38:Int)(k:Ex→St→Option R):
  gB 0 Q78.h24 (fun s k=>bB (Q78.E N) 379 Q78.b24 s k) n [.c (.int .u64 x30),.c (.int .u64 x31),.c (.int .u64 x32),.c (.int .u64 x33),.c (.int .u64 x34),.c (.int .u64 x35),.c (.int .u64 x36),.c (.int .u64 x37),.c (.int .u64 x38)] [] k=Q78.l24 N n x30 x31 x32 x33 x34 x35 x36 x37 x38 (fun x39 x40 x41 x42 x43 x44=>k (.exit 2) ⟨xC Q78.h24.out [.c (.int .u64 x39),.c (.int .u64 x40),.c (.int .u64 x41),.c (.int .u64 x42),.c (.int .u64 x43),.c (.int .u64 x44)],[]⟩):=by
 induction n generalizing x30 x31 x32 x33 x34 x35 x36 x37 x38 with
 |zero=>kernel_rfl
 |succ n ih=>
  simp only[Q78.l24,←ih]
  kernel_rfl
noncomputable def Q78.dec (v:V)(bs:List rA):Option (Int×Int):=match v,bs with
 | .tup [.c (.int .u64 z0),.c (.int .u64 z1)],[]=>some (z0,z1)
 |_,_=>none
theorem Q78.f_eq (N:Nat)(a1 a2 a3:Int):
  cB (Q78.E N) (bo Tryz.f154) [.c (.int .u64 a1),.c (.int .u64 a2),.c (.int .u64 a3)] [] Q78.dec=Q78.f N a1 a2 a3:=by kernel_rfl
noncomputable def Q78.ent (N:Nat):xA:=tF (Int×Int) 0 [true,true,true] [.any,.any,.any] fun
 | [.c (.int .u64 a1),.c (.int .u64 a2),.c (.int .u64 a3)]=>some (Q78.f N a1 a2 a3,fun r=>.one (.tup [.c (.int .u64 r.1),.c (.int .u64 r.2)]) [])
 |_=>none
theorem Q78.env (N:Nat):aB Tryz.prog (Q78.E N):=⟨(.cons sL (.cons ur .nil)),(.cons (Q76.ent_ok N) .nil)⟩
theorem Q78.k24 (N:Nat):uB Tryz.prog Tryz.f154 (Q78.E N) (.loop Q78.b24):=zC (Q78.env N) bA 379 (c:=Q78.c24 N) cA.n fun R vs H k r h=>by unfold Q78.c24 at h;dsimp only at h;split at h;exact⟨_,Q78.l24_eq .. ▸h⟩;cases h
theorem Q78.k17 (N:Nat):uB Tryz.prog Tryz.f154 (Q78.E N) (.loop Q78.b17):=zC (Q78.env N) bA 383 (c:=Q78.c17 N) cA.n fun R vs H k r h=>by unfold Q78.c17 at h;dsimp only at h;split at h;exact⟨_,Q78.l17_eq .. ▸h⟩;cases h
theorem Q78.spec (N:Nat)(a1 a2 a3:Int)(r:Int×Int)(h:Q78.f N a1 a2 a3=some r):fA Tryz.prog 154 [.c (.int .u64 a1),.c (.int .u64 a2),.c (.int .u64 a3)] [] (.tup [.c (.int .u64 r.1),.c (.int .u64 r.2)]) ([]):=vA (Q78.env N) bA Tryz.func154 (cA.of (l:=[(.loop (sA ((eA (bo Tryz.f154)).getD 0 .skip))),(.loop (sA ((eA (bo Tryz.f154)).getD 1 .skip)))]) (by kernel_rfl) (cA.cons (Q78.k17 N) (cA.cons (Q78.k24 N) cA.nil))) ((Q78.f_eq ..).trans h) fun v b e=>by unfold Q78.dec at e;split at e<;>cases e;exact⟨rfl,rfl⟩
theorem Q78.ent_ok (N:Nat):uA Tryz.prog 154 (Q78.ent N):=yA fun v a e h=>by split at h;exact mC (Q:=fun e=>fA _ _ _ _ (e a).pick.1 (e a).pick.2) h fun k=>Q78.spec N _ _ _ a k;cases h
noncomputable def Q79.f (N:Nat)(a1 a2:Int):Option (Int):=
 bif !(a2==0)then
  bif decide ((Int.tmod a1 a2)<0)then
   some (aA ((Int.tmod a1 a2)+a2))
  else
  some (Int.tmod a1 a2)
 else none
noncomputable def Q79.E (N:Nat):bD:=xE [] [] [] [] N [.tmp 4] [.any] 0 14
noncomputable def Q79.dec (v:V)(bs:List rA):Option (Int):=match v,bs with
 | .c (.int .i64 z0),[]=>some z0
 |_,_=>none
theorem Q79.f_eq (N:Nat)(a1 a2:Int):
  cB (Q79.E N) (bo Tryz.f126) [.c (.int .i64 a1),.c (.int .i64 a2)] [] Q79.dec=Q79.f N a1 a2:=by kernel_rfl
noncomputable def Q79.ent (N:Nat):xA:=tF (Int) 0 [true,true] [.any,.any] fun
 | [.c (.int .i64 a1),.c (.int .i64 a2)]=>some (Q79.f N a1 a2,fun r=>.one (.c (.int .i64 r)) [])
 |_=>none
theorem Q79.env (N:Nat):aB Tryz.prog (Q79.E N):=⟨.nil,.nil⟩
theorem Q79.spec (N:Nat)(a1 a2 r:Int)(h:Q79.f N a1 a2=some r):fA Tryz.prog 126 [.c (.int .i64 a1),.c (.int .i64 a2)] [] (.c (.int .i64 r)) ([]):=vA (Q79.env N) bA Tryz.func126 cA.n ((Q79.f_eq ..).trans h) fun v b e=>by unfold Q79.dec at e;split at e<;>cases e;exact⟨rfl,rfl⟩
theorem Q79.ent_ok (N:Nat):uA Tryz.prog 126 (Q79.ent N):=yA fun v a e h=>by split at h;exact mC (Q:=fun e=>fA _ _ _ _ (e a).pick.1 (e a).pick.2) h fun k=>Q79.spec N _ _ a k;cases h
noncomputable def Q80.f (N:Nat)(a1 a2 a3:Int):Option (Int):=
 (Q77.f N (gA a1) (gA a2)).bind fun r4=>
 (Q78.f N r4.1 r4.2 (gA a3)).bind fun r5=>
 some (aA r5.2)
noncomputable def Q80.E (N:Nat):bD:=xE [(2,fR),(78,bQ)] [(153,Q77.ent N),(154,Q78.ent N)] [] [] N [.tmp 6] [.any] 0 29
noncomputable def Q80.dec (v:V)(bs:List rA):Option (Int):=match v,bs with
 | .c (.int .i64 z0),[]=>some z0
 |_,_=>none
theorem Q80.f_eq (N:Nat)(a1 a2 a3:Int):
  cB (Q80.E N) (bo Tryz.f125) [.c (.int .i64 a1),.c (.int .i64 a2),.c (.int .i64 a3)] [] Q80.dec=Q80.f N a1 a2 a3:=by kernel_rfl
noncomputable def Q80.ent (N:Nat):xA:=tF (Int) 0 [true,true,true] [.any,.any,.any] fun
 | [.c (.int .i64 a1),.c (.int .i64 a2),.c (.int .i64 a3)]=>some (Q80.f N a1 a2 a3,fun r=>.one (.c (.int .i64 r)) [])
 |_=>none
theorem Q80.env (N:Nat):aB Tryz.prog (Q80.E N):=⟨(.cons gD (.cons nF .nil)),(.cons (Q77.ent_ok N) (.cons (Q78.ent_ok N) .nil))⟩
theorem Q80.spec (N:Nat)(a1 a2:Int)(a3 r:Int)(h:Q80.f N a1 a2 a3=some r):fA Tryz.prog 125 [.c (.int .i64 a1),.c (.int .i64 a2),.c (.int .i64 a3)] [] (.c (.int .i64 r)) ([]):=vA (Q80.env N) bA Tryz.func125 cA.n ((Q80.f_eq ..).trans h) fun v b e=>by unfold Q80.dec at e;split at e<;>cases e;exact⟨rfl,rfl⟩
theorem Q80.ent_ok (N:Nat):uA Tryz.prog 125 (Q80.ent N):=yA fun v a e h=>by split at h;exact mC (Q:=fun e=>fA _ _ _ _ (e a).pick.1 (e a).pick.2) h fun k=>Q80.spec N _ _ _ a k;cases h
noncomputable def Q81.f (N:Nat)(a1 a2 a3:Int):Option (Int×Int):=
 bif decide (a3<1)then
  some (0,2)
 else
 bif decide (a3>4611686018427387904)then
  some (0,2)
 else
 (Q79.f N a1 a3).bind fun r4=>
 (Q79.f N a2 a3).bind fun r5=>
 (Q80.f N r4 r5 a3).bind fun r6=>
 some (r6,0)
noncomputable def Q81.E (N:Nat):bD:=xE [] [(126,Q79.ent N),(125,Q80.ent N)] [] [] N [.tmp 6,.tmp 7] [.any,.any] 0 22
noncomputable def Q81.dec (v:V)(bs:List rA):Option (Int×Int):=match v,bs with
 | .tup [.c (.int .i64 z0),.c (.int .i64 z1)],[]=>some (z0,z1)
 |_,_=>none
theorem Q81.f_eq (N:Nat)(a1 a2 a3:Int):
  cB (Q81.E N) (bo Tryz.f87) [.c (.int .i64 a1),.c (.int .i64 a2),.c (.int .i64 a3)] [] Q81.dec=Q81.f N a1 a2 a3:=by kernel_rfl
noncomputable def Q81.ent (N:Nat):xA:=tF (Int×Int) 0 [true,true,true] [.any,.any,.any] fun
 | [.c (.int .i64 a1),.c (.int .i64 a2),.c (.int .i64 a3)]=>some (Q81.f N a1 a2 a3,fun r=>.one (.tup [.c (.int .i64 r.1),.c (.int .i64 r.2)]) [])
 |_=>none
theorem Q81.env (N:Nat):aB Tryz.prog (Q81.E N):=⟨.nil,(.cons (Q79.ent_ok N) (.cons (Q80.ent_ok N) .nil))⟩
theorem Q81.spec (N:Nat)(a1 a2 a3:Int)(r:Int×Int)(h:Q81.f N a1 a2 a3=some r):fA Tryz.prog 87 [.c (.int .i64 a1),.c (.int .i64 a2),.c (.int .i64 a3)] [] (.tup [.c (.int .i64 r.1),.c (.int .i64 r.2)]) ([]):=vA (Q81.env N) bA Tryz.func87 cA.n ((Q81.f_eq ..).trans h) fun v b e=>by unfold Q81.dec at e;split at e<;>cases e;exact⟨rfl,rfl⟩
theorem Q81.ent_ok (N:Nat):uA Tryz.prog 87 (Q81.ent N):=yA fun v a e h=>by split at h;exact mC (Q:=fun e=>fA _ _ _ _ (e a).pick.1 (e a).pick.2) h fun k=>Q81.spec N _ _ _ a k;cases h
noncomputable def Q82.f (N:Nat)(a1 a2 a3:Int):Option (Int):=
 (Q81.f N a1 a2 a3).bind fun r4=>
 some r4.1
noncomputable def Q82.E (N:Nat):bD:=xE [] [(87,Q81.ent N)] [] [] N [.tmp 6] [.any] 0 17
noncomputable def Q82.dec (v:V)(bs:List rA):Option (Int):=match v,bs with
 | .c (.int .i64 z0),[]=>some z0
 |_,_=>none
theorem Q82.f_eq (N:Nat)(a1 a2 a3:Int):
  cB (Q82.E N) (bo Tryz.f64) [.c (.int .i64 a1),.c (.int .i64 a2),.c (.int .i64 a3)] [] Q82.dec=Q82.f N a1 a2 a3:=by kernel_rfl
noncomputable def Q82.ent (N:Nat):xA:=tF (Int) 0 [true,true,true] [.any,.any,.any] fun
 | [.c (.int .i64 a1),.c (.int .i64 a2),.c (.int .i64 a3)]=>some (Q82.f N a1 a2 a3,fun r=>.one (.c (.int .i64 r)) [])
 |_=>none
theorem Q82.env (N:Nat):aB Tryz.prog (Q82.E N):=⟨.nil,(.cons (Q81.ent_ok N) .nil)⟩
theorem Q82.spec (N:Nat)(a1 a2:Int)(a3 r:Int)(h:Q82.f N a1 a2 a3=some r):fA Tryz.prog 64 [.c (.int .i64 a1),.c (.int .i64 a2),.c (.int .i64 a3)] [] (.c (.int .i64 r)) ([]):=vA (Q82.env N) bA Tryz.func64 cA.n ((Q82.f_eq ..).trans h) fun v b e=>by unfold Q82.dec at e;split at e<;>cases e;exact⟨rfl,rfl⟩
theorem Q82.ent_ok (N:Nat):uA Tryz.prog 64 (Q82.ent N):=yA fun v a e h=>by split at h;exact mC (Q:=fun e=>fA _ _ _ _ (e a).pick.1 (e a).pick.2) h fun k=>Q82.spec N _ _ _ a k;cases h
noncomputable def Q83.f (N:Nat)(a1:Int):Option (Int×Int×Int×Int):=
 bif decide (a1>(-3))then
  some (0,0,0,80)
 else
 bif decide (a1<(-4294967296))then
  some (0,0,0,80)
 else
 bif (fC .i64 (aA (0-a1)) 3)==1 then
  some (0,0,0,80)
 else
 bif (fC .i64 (aA (0-a1)) 3)==2 then
  some (0,0,0,80)
 else
 some (1,fC .i64 (aA (0-a1)) 1,aA (Int.tdiv (aA ((fC .i64 (aA (0-a1)) 1)-a1)) 4),0)
noncomputable def Q83.E (N:Nat):bD:=xE [(2,fR),(33,aI)] [] [] [] N [.cell 2 33,.tmp 3] [.recd [.any,.any,.any],.any] 0 33
noncomputable def Q83.dec (v:V)(bs:List rA):Option (Int×Int×Int×Int):=match v,bs with
 | .tup [.agg [.c (.int .i64 z0),.c (.int .i64 z1),.c (.int .i64 z2)],.c (.int .i64 z3)],[]=>some (z0,z1,z2,z3)
 |_,_=>none
theorem Q83.f_eq (N:Nat)(a1:Int):
  cB (Q83.E N) (bo Tryz.f27) [.c (.int .i64 a1)] [] Q83.dec=Q83.f N a1:=by kernel_rfl
noncomputable def Q83.ent (N:Nat):xA:=tF (Int×Int×Int×Int) 0 [true] [.any] fun
 | [.c (.int .i64 a1)]=>some (Q83.f N a1,fun r=>.one (.tup [.agg [.c (.int .i64 r.1),.c (.int .i64 r.2.1),.c (.int .i64 r.2.2.1)],.c (.int .i64 r.2.2.2)]) [])
 |_=>none
theorem Q83.env (N:Nat):aB Tryz.prog (Q83.E N):=⟨(.cons gD (.cons rC .nil)),.nil⟩
theorem Q83.spec (N:Nat)(a1:Int)(r:Int×Int×Int×Int)(h:Q83.f N a1=some r):fA Tryz.prog 27 [.c (.int .i64 a1)] [] (.tup [.agg [.c (.int .i64 r.1),.c (.int .i64 r.2.1),.c (.int .i64 r.2.2.1)],.c (.int .i64 r.2.2.2)]) ([]):=vA (Q83.env N) bA Tryz.func27 cA.n ((Q83.f_eq ..).trans h) fun v b e=>by unfold Q83.dec at e;split at e<;>cases e;exact⟨rfl,rfl⟩
theorem Q83.ent_ok (N:Nat):uA Tryz.prog 27 (Q83.ent N):=yA fun v a e h=>by split at h;exact mC (Q:=fun e=>fA _ _ _ _ (e a).pick.1 (e a).pick.2) h fun k=>Q83.spec N _ a k;cases h
noncomputable def Q84.f (N:Nat)(a1 a2 a3:Int):Option (Int×Int×Int×Int):=
 (Q50.f N a1 a2 a3).bind fun r4=>
 bif r4.2.2.2.2.2.2.2 != 0 then
  some (r4.1,r4.2.1,r4.2.2.1,r4.2.2.2.2.2.2.2)
 else
 (Q51.f N a1 a2 a3).bind fun r5=>
 bif r5 != 1 then
  some (0,0,0,81)
 else
 some (r4.1,r4.2.1,r4.2.2.1,0)
noncomputable def Q84.E (N:Nat):bD:=xE [(2,fR),(33,aI),(72,xu)] [(54,Q50.ent N),(62,Q51.ent N)] [] [] N [.cell 2 33,.tmp 3] [.recd [.any,.any,.any],.any] 0 24
noncomputable def Q84.dec (v:V)(bs:List rA):Option (Int×Int×Int×Int):=match v,bs with
 | .tup [.agg [.c (.int .i64 z0),.c (.int .i64 z1),.c (.int .i64 z2)],.c (.int .i64 z3)],[]=>some (z0,z1,z2,z3)
 |_,_=>none
theorem Q84.f_eq (N:Nat)(a1 a2 a3:Int):
  cB (Q84.E N) (bo Tryz.f42) [.agg [.c (.int .i64 a1),.c (.int .i64 a2),.c (.int .i64 a3)]] [] Q84.dec=Q84.f N a1 a2 a3:=by kernel_rfl
noncomputable def Q84.ent (N:Nat):xA:=tF (Int×Int×Int×Int) 0 [true] [.recd [.any,.any,.any]] fun
 | [.agg [.c (.int .i64 a1),.c (.int .i64 a2),.c (.int .i64 a3)]]=>some (Q84.f N a1 a2 a3,fun r=>.one (.tup [.agg [.c (.int .i64 r.1),.c (.int .i64 r.2.1),.c (.int .i64 r.2.2.1)],.c (.int .i64 r.2.2.2)]) [])
 |_=>none
theorem Q84.env (N:Nat):aB Tryz.prog (Q84.E N):=⟨(.cons gD (.cons rC (.cons vS .nil))),(.cons (Q50.ent_ok N) (.cons (Q51.ent_ok N) .nil))⟩
theorem Q84.spec (N:Nat)(a1 a2 a3:Int)(r:Int×Int×Int×Int)(h:Q84.f N a1 a2 a3=some r):fA Tryz.prog 42 [.agg [.c (.int .i64 a1),.c (.int .i64 a2),.c (.int .i64 a3)]] [] (.tup [.agg [.c (.int .i64 r.1),.c (.int .i64 r.2.1),.c (.int .i64 r.2.2.1)],.c (.int .i64 r.2.2.2)]) ([]):=vA (Q84.env N) bA Tryz.func42 cA.n ((Q84.f_eq ..).trans h) fun v b e=>by unfold Q84.dec at e;split at e<;>cases e;exact⟨rfl,rfl⟩
theorem Q84.ent_ok (N:Nat):uA Tryz.prog 42 (Q84.ent N):=yA fun v a e h=>by split at h;exact mC (Q:=fun e=>fA _ _ _ _ (e a).pick.1 (e a).pick.2) h fun k=>Q84.spec N _ _ _ a k;cases h
noncomputable def Q85.l12 {R:Type}(N:Nat):Nat→Int→Int→Int→Int→Int→Int→(Int→Int→Int→Option R)→Option R
 |0,_,_,_,_,_,_,_=>none
 |n+1,x13,x14,x15,x16,x17,x18,kr=>
  bif !((aA (2*x14))==0)then
   bif !((aA (2*x14))==0)then
    bif decide ((Int.tmod (aA ((Int.tmod x15 (aA (2*x14)))+(aA (2*x14)))) (aA (2*x14)))>x14)then
     bif !((aA (4*x14))==0)then
      bif decide (x14<(aA (Int.tdiv (aA ((aA ((aA ((Int.tmod (aA ((Int.tmod x15 (aA (2*x14)))+(aA (2*x14)))) (aA (2*x14)))- (aA (2*x14))))*(aA ((Int.tmod (aA ((Int.tmod x15 (aA (2*x14)))+(aA (2*x14)))) (aA (2*x14)))- (aA (2*x14))))))-x13)) (aA (4*x14)))))then
       kr x14 (aA ((Int.tmod (aA ((Int.tmod x15 (aA (2*x14)))+(aA (2*x14)))) (aA (2*x14)))- (aA (2*x14)))) (aA (Int.tdiv (aA ((aA ((aA ((Int.tmod (aA ((Int.tmod x15 (aA (2*x14)))+(aA (2*x14)))) (aA (2*x14)))- (aA (2*x14))))*(aA ((Int.tmod (aA ((Int.tmod x15 (aA (2*x14)))+(aA (2*x14)))) (aA (2*x14)))- (aA (2*x14))))))-x13)) (aA (4*x14))))
      else
      bif x14==(aA (Int.tdiv (aA ((aA ((aA ((Int.tmod (aA ((Int.tmod x15 (aA (2*x14)))+(aA (2*x14)))) (aA (2*x14)))- (aA (2*x14))))*(aA ((Int.tmod (aA ((Int.tmod x15 (aA (2*x14)))+(aA (2*x14)))) (aA (2*x14)))- (aA (2*x14))))))-x13)) (aA (4*x14))))then
       bif decide ((aA ((Int.tmod (aA ((Int.tmod x15 (aA (2*x14)))+(aA (2*x14)))) (aA (2*x14)))- (aA (2*x14))))≥0)then
        kr x14 (aA ((Int.tmod (aA ((Int.tmod x15 (aA (2*x14)))+(aA (2*x14)))) (aA (2*x14)))- (aA (2*x14)))) (aA (Int.tdiv (aA ((aA ((aA ((Int.tmod (aA ((Int.tmod x15 (aA (2*x14)))+(aA (2*x14)))) (aA (2*x14)))- (aA (2*x14))))*(aA ((Int.tmod (aA ((Int.tmod x15 (aA (2*x14)))+(aA (2*x14)))) (aA (2*x14)))- (aA (2*x14))))))-x13)) (aA (4*x14))))
       else
       Q85.l12 N n x13 (aA (Int.tdiv (aA ((aA ((aA ((Int.tmod (aA ((Int.tmod x15 (aA (2*x14)))+(aA (2*x14)))) (aA (2*x14)))- (aA (2*x14))))*(aA ((Int.tmod (aA ((Int.tmod x15 (aA (2*x14)))+(aA (2*x14)))) (aA (2*x14)))- (aA (2*x14))))))-x13)) (aA (4*x14)))) (aA (0- (aA ((Int.tmod (aA ((Int.tmod x15 (aA (2*x14)))+(aA (2*x14)))) (aA (2*x14)))- (aA (2*x14)))))) x16 x17 x18 kr
      else
      Q85.l12 N n x13 (aA (Int.tdiv (aA ((aA ((aA ((Int.tmod (aA ((Int.tmod x15 (aA (2*x14)))+(aA (2*x14)))) (aA (2*x14)))- (aA (2*x14))))*(aA ((Int.tmod (aA ((Int.tmod x15 (aA (2*x14)))+(aA (2*x14)))) (aA (2*x14)))- (aA (2*x14))))))-x13)) (aA (4*x14)))) (aA (0- (aA ((Int.tmod (aA ((Int.tmod x15 (aA (2*x14)))+(aA (2*x14)))) (aA (2*x14)))- (aA (2*x14)))))) x16 x17 x18 kr
     else none
    else
    bif !((aA (4*x14))==0)then
     bif decide (x14<(aA (Int.tdiv (aA ((aA ((Int.tmod (aA ((Int.tmod x15 (aA (2*x14)))+(aA (2*x14)))) (aA (2*x14)))*(Int.tmod (aA ((Int.tmod x15 (aA (2*x14)))+(aA (2*x14)))) (aA (2*x14)))))-x13)) (aA (4*x14)))))then
      kr x14 (Int.tmod (aA ((Int.tmod x15 (aA (2*x14)))+(aA (2*x14)))) (aA (2*x14))) (aA (Int.tdiv (aA ((aA ((Int.tmod (aA ((Int.tmod x15 (aA (2*x14)))+(aA (2*x14)))) (aA (2*x14)))*(Int.tmod (aA ((Int.tmod x15 (aA (2*x14)))+(aA (2*x14)))) (aA (2*x14)))))-x13)) (aA (4*x14))))
     else
     bif x14==(aA (Int.tdiv (aA ((aA ((Int.tmod (aA ((Int.tmod x15 (aA (2*x14)))+(aA (2*x14)))) (aA (2*x14)))*(Int.tmod (aA ((Int.tmod x15 (aA (2*x14)))+(aA (2*x14)))) (aA (2*x14)))))-x13)) (aA (4*x14))))then
      bif decide ((Int.tmod (aA ((Int.tmod x15 (aA (2*x14)))+(aA (2*x14)))) (aA (2*x14)))≥0)then
       kr x14 (Int.tmod (aA ((Int.tmod x15 (aA (2*x14)))+(aA (2*x14)))) (aA (2*x14))) (aA (Int.tdiv (aA ((aA ((Int.tmod (aA ((Int.tmod x15 (aA (2*x14)))+(aA (2*x14)))) (aA (2*x14)))*(Int.tmod (aA ((Int.tmod x15 (aA (2*x14)))+(aA (2*x14)))) (aA (2*x14)))))-x13)) (aA (4*x14))))
      else
      Q85.l12 N n x13 (aA (Int.tdiv (aA ((aA ((Int.tmod (aA ((Int.tmod x15 (aA (2*x14)))+(aA (2*x14)))) (aA (2*x14)))*(Int.tmod (aA ((Int.tmod x15 (aA (2*x14)))+(aA (2*x14)))) (aA (2*x14)))))-x13)) (aA (4*x14)))) (aA (0- (Int.tmod (aA ((Int.tmod x15 (aA (2*x14)))+(aA (2*x14)))) (aA (2*x14))))) x16 x17 x18 kr
     else
     Q85.l12 N n x13 (aA (Int.tdiv (aA ((aA ((Int.tmod (aA ((Int.tmod x15 (aA (2*x14)))+(aA (2*x14)))) (aA (2*x14)))*(Int.tmod (aA ((Int.tmod x15 (aA (2*x14)))+(aA (2*x14)))) (aA (2*x14)))))-x13)) (aA (4*x14)))) (aA (0- (Int.tmod (aA ((Int.tmod x15 (aA (2*x14)))+(aA (2*x14)))) (aA (2*x14))))) x16 x17 x18 kr
    else none
   else none
  else none
noncomputable def Q85.f (N:Nat)(a1 a2:Int)(a3 a4:Int)(a5 a6 a7:Int):Option (Int×Int×Int):=
 bif decide (a1>a4)then
  (Q45.f N a1 a4).bind fun r8=>
  (Q45.f N (aA (Int.tdiv (aA (a5+a2)) 2)) r8.1).bind fun r9=>
  bif !(r9.1==0)then
   bif !(r9.1==0)then
    (Q82.f N (aA (0-r9.2.2)) (aA (a2- (aA (Int.tdiv (aA (a5+a2)) 2)))) (aA (Int.tdiv a4 r9.1))).bind fun r10=>
    (Q82.f N r8.2.1 r10 (aA (Int.tdiv a4 r9.1))).bind fun r11=>
    (Q82.f N r9.2.1 a3 (aA (Int.tdiv a4 r9.1))).bind fun r12=>
    bif !((aA (Int.tdiv a4 r9.1))==0)then
     bif !((aA (Int.tdiv a4 r9.1))==0)then
      Q85.l12 N N a7 (aA ((aA (Int.tdiv a4 r9.1))*(aA (Int.tdiv a1 r9.1)))) (aA (a2+(aA ((aA (2*(aA (Int.tdiv a1 r9.1))))*(Int.tmod (aA ((Int.tmod (aA (r11-r12)) (aA (Int.tdiv a4 r9.1)))+(aA (Int.tdiv a4 r9.1)))) (aA (Int.tdiv a4 r9.1))))))) 0 0 0
       (fun y22 y23 y24=>
        some (y22,y23,y24))
     else none
    else none
   else none
  else none
 else
 (Q45.f N a4 a1).bind fun r25=>
 (Q45.f N (aA (Int.tdiv (aA (a2+a5)) 2)) r25.1).bind fun r26=>
 bif !(r26.1==0)then
  bif !(r26.1==0)then
   (Q82.f N (aA (0-r26.2.2)) (aA (a5- (aA (Int.tdiv (aA (a2+a5)) 2)))) (aA (Int.tdiv a1 r26.1))).bind fun r27=>
   (Q82.f N r25.2.1 r27 (aA (Int.tdiv a1 r26.1))).bind fun r28=>
   (Q82.f N r26.2.1 a6 (aA (Int.tdiv a1 r26.1))).bind fun r29=>
   bif !((aA (Int.tdiv a1 r26.1))==0)then
    bif !((aA (Int.tdiv a1 r26.1))==0)then
     Q85.l12 N N a7 (aA ((aA (Int.tdiv a1 r26.1))*(aA (Int.tdiv a4 r26.1)))) (aA (a5+(aA ((aA (2*(aA (Int.tdiv a4 r26.1))))*(Int.tmod (aA ((Int.tmod (aA (r28-r29)) (aA (Int.tdiv a1 r26.1)))+(aA (Int.tdiv a1 r26.1)))) (aA (Int.tdiv a1 r26.1))))))) 0 0 0
      (fun y30 y31 y32=>
       some (y30,y31,y32))
    else none
   else none
  else none
 else none
noncomputable def Q85.h12:yC:=⟨[(2,.any),(6,.box [.any,.any,.any]),(18,.any),(19,.any)],[]⟩
noncomputable def Q85.c12 (N:Nat):uH:=⟨fun vs H k=>match vs,H with
 | [.c (.int .i64 x13),.ptr 0 0 3,.c (.int .i64 x14),.c (.int .i64 x15)],[.vals [.c (.int .i64 x16),.c (.int .i64 x17),.c (.int .i64 x18)]]=>Q85.l12 N N x13 x14 x15 x16 x17 x18 (fun x19 x20 x21=>k (.ret (.agg [.c (.int .i64 x19),.c (.int .i64 x20),.c (.int .i64 x21)]) []) .nil)
 |_,_=>none⟩
noncomputable def Q85.E (N:Nat):bD:=xE [(2,fR),(33,aI)] [(63,Q45.ent N),(64,Q82.ent N)] [(12,Q85.h12)] [(12,Q85.c12 N)] N [.cell 6 33] [.recd [.any,.any,.any]] 0 138
noncomputable def Q85.b12:Code:=sA ((eA (bo Tryz.f43)).getD 0 .skip)
theorem Q85.l12_eq {R:Type}(N n:Nat)(x13 x14:Int)(x15 x16:Int)(x17 x18:Int)(k:Ex→St→Option R):
  gB 0 Q85.h12 (fun s k=>bB (Q85.E N) 387 Q85.b12 s k) n [.c (.int .i64 x13),.ptr 0 0 3,.c (.int .i64 x14),.c (.int .i64 x15)] [.vals [.c (.int .i64 x16),.c (.int .i64 x17),.c (.int .i64 x18)]] k=Q85.l12 N n x13 x14 x15 x16 x17 x18 (fun x19 x20 x21=>k (.ret (.agg [.c (.int .i64 x19),.c (.int .i64 x20),.c (.int .i64 x21)]) []) .nil):=by
 induction n generalizing x13 x14 x15 x16 x17 x18 with
 |zero=>kernel_rfl
 |succ n ih=>
  simp only[Q85.l12,←ih]
  kernel_rfl
noncomputable def Q85.dec (v:V)(bs:List rA):Option (Int×Int×Int):=match v,bs with
 | .agg [.c (.int .i64 z0),.c (.int .i64 z1),.c (.int .i64 z2)],[]=>some (z0,z1,z2)
 |_,_=>none
theorem Q85.f_eq (N:Nat)(a1 a2:Int)(a3 a4:Int)(a5 a6 a7:Int):
  cB (Q85.E N) (bo Tryz.f43) [.agg [.c (.int .i64 a1),.c (.int .i64 a2),.c (.int .i64 a3)],.agg [.c (.int .i64 a4),.c (.int .i64 a5),.c (.int .i64 a6)],.c (.int .i64 a7)] [] Q85.dec=Q85.f N a1 a2 a3 a4 a5 a6 a7:=by kernel_rfl
noncomputable def Q85.ent (N:Nat):xA:=tF (Int×Int×Int) 0 [true,true,true] [.recd [.any,.any,.any],.recd [.any,.any,.any],.any] fun
 | [.agg [.c (.int .i64 a1),.c (.int .i64 a2),.c (.int .i64 a3)],.agg [.c (.int .i64 a4),.c (.int .i64 a5),.c (.int .i64 a6)],.c (.int .i64 a7)]=>some (Q85.f N a1 a2 a3 a4 a5 a6 a7,fun r=>.one (.agg [.c (.int .i64 r.1),.c (.int .i64 r.2.1),.c (.int .i64 r.2.2)]) [])
 |_=>none
theorem Q85.env (N:Nat):aB Tryz.prog (Q85.E N):=⟨(.cons gD (.cons rC .nil)),(.cons (Q45.ent_ok N) (.cons (Q82.ent_ok N) .nil))⟩
theorem Q85.k12 (N:Nat):uB Tryz.prog Tryz.f43 (Q85.E N) (.loop Q85.b12):=zC (Q85.env N) bA 387 (c:=Q85.c12 N) cA.n fun R vs H k r h=>by unfold Q85.c12 at h;dsimp only at h;split at h;exact⟨_,Q85.l12_eq .. ▸h⟩;cases h
theorem Q85.spec (N:Nat)(a1 a2:Int)(a3 a4:Int)(a5 a6 a7:Int)(r:Int×Int×Int)(h:Q85.f N a1 a2 a3 a4 a5 a6 a7=some r):fA Tryz.prog 43 [.agg [.c (.int .i64 a1),.c (.int .i64 a2),.c (.int .i64 a3)],.agg [.c (.int .i64 a4),.c (.int .i64 a5),.c (.int .i64 a6)],.c (.int .i64 a7)] [] (.agg [.c (.int .i64 r.1),.c (.int .i64 r.2.1),.c (.int .i64 r.2.2)]) ([]):=vA (Q85.env N) bA Tryz.func43 (cA.of (l:=[(.loop (sA ((eA (bo Tryz.f43)).getD 0 .skip)))]) (by kernel_rfl) (cA.cons (Q85.k12 N) cA.nil)) ((Q85.f_eq ..).trans h) fun v b e=>by unfold Q85.dec at e;split at e<;>cases e;exact⟨rfl,rfl⟩
theorem Q85.ent_ok (N:Nat):uA Tryz.prog 43 (Q85.ent N):=yA fun v a e h=>by split at h;exact mC (Q:=fun e=>fA _ _ _ _ (e a).pick.1 (e a).pick.2) h fun k=>Q85.spec N _ _ _ _ _ _ _ a k;cases h
noncomputable def Q86.f (N:Nat)(a1 a2:Int)(a3 a4:Int)(a5 a6:Int):Option (Int×Int×Int×Int):=
 (Q48.f N a1 a2 a3).bind fun r7=>
 bif r7 != 0 then
  some (0,0,0,r7)
 else
 (Q48.f N a4 a5 a6).bind fun r8=>
 bif r8 != 0 then
  some (0,0,0,r8)
 else
 (Q84.f N a1 a2 a3).bind fun r9=>
 bif r9.2.2.2 != 0 then
  some (0,0,0,r9.2.2.2)
 else
 (Q84.f N a4 a5 a6).bind fun r10=>
 bif r10.2.2.2 != 0 then
  some (0,0,0,r10.2.2.2)
 else
 (Q47.f N a1 a2 a3).bind fun r11=>
 (Q47.f N a4 a5 a6).bind fun r12=>
 bif r11 != r12 then
  some (0,0,0,100)
 else
 (Q85.f N r9.1 r9.2.1 r9.2.2.1 r10.1 r10.2.1 r10.2.2.1 r11).bind fun r13=>
 some (r13.1,r13.2.1,r13.2.2,0)
noncomputable def Q86.E (N:Nat):bD:=xE [(2,fR),(33,aI)] [(36,Q48.ent N),(42,Q84.ent N),(19,Q47.ent N),(43,Q85.ent N)] [] [] N [.cell 4 33,.tmp 5] [.recd [.any,.any,.any],.any] 0 53
noncomputable def Q86.dec (v:V)(bs:List rA):Option (Int×Int×Int×Int):=match v,bs with
 | .tup [.agg [.c (.int .i64 z0),.c (.int .i64 z1),.c (.int .i64 z2)],.c (.int .i64 z3)],[]=>some (z0,z1,z2,z3)
 |_,_=>none
theorem Q86.f_eq (N:Nat)(a1 a2:Int)(a3 a4:Int)(a5 a6:Int):
  cB (Q86.E N) (bo Tryz.f24) [.agg [.c (.int .i64 a1),.c (.int .i64 a2),.c (.int .i64 a3)],.agg [.c (.int .i64 a4),.c (.int .i64 a5),.c (.int .i64 a6)]] [] Q86.dec=Q86.f N a1 a2 a3 a4 a5 a6:=by kernel_rfl
noncomputable def Q86.ent (N:Nat):xA:=tF (Int×Int×Int×Int) 0 [true,true] [.recd [.any,.any,.any],.recd [.any,.any,.any]] fun
 | [.agg [.c (.int .i64 a1),.c (.int .i64 a2),.c (.int .i64 a3)],.agg [.c (.int .i64 a4),.c (.int .i64 a5),.c (.int .i64 a6)]]=>some (Q86.f N a1 a2 a3 a4 a5 a6,fun r=>.one (.tup [.agg [.c (.int .i64 r.1),.c (.int .i64 r.2.1),.c (.int .i64 r.2.2.1)],.c (.int .i64 r.2.2.2)]) [])
 |_=>none
theorem Q86.env (N:Nat):aB Tryz.prog (Q86.E N):=⟨(.cons gD (.cons rC .nil)),(.cons (Q48.ent_ok N) (.cons (Q84.ent_ok N) (.cons (Q47.ent_ok N) (.cons (Q85.ent_ok N) .nil))))⟩
theorem Q86.spec (N:Nat)(a1 a2:Int)(a3 a4:Int)(a5 a6:Int)(r:Int×Int×Int×Int)(h:Q86.f N a1 a2 a3 a4 a5 a6=some r):fA Tryz.prog 24 [.agg [.c (.int .i64 a1),.c (.int .i64 a2),.c (.int .i64 a3)],.agg [.c (.int .i64 a4),.c (.int .i64 a5),.c (.int .i64 a6)]] [] (.tup [.agg [.c (.int .i64 r.1),.c (.int .i64 r.2.1),.c (.int .i64 r.2.2.1)],.c (.int .i64 r.2.2.2)]) ([]):=vA (Q86.env N) bA Tryz.func24 cA.n ((Q86.f_eq ..).trans h) fun v b e=>by unfold Q86.dec at e;split at e<;>cases e;exact⟨rfl,rfl⟩
theorem Q86.ent_ok (N:Nat):uA Tryz.prog 24 (Q86.ent N):=yA fun v a e h=>by split at h;exact mC (Q:=fun e=>fA _ _ _ _ (e a).pick.1 (e a).pick.2) h fun k=>Q86.spec N _ _ _ _ _ _ a k;cases h
noncomputable def Q87.f (N:Nat)(a1 a2 a3:Int):Option (Int×Int×Int×Int):=
 (Q84.f N a1 a2 a3).bind fun r4=>
 bif r4.2.2.2 != 0 then
  some (0,0,0,r4.2.2.2)
 else
 (Q50.f N r4.1 (aA (0-r4.2.1)) r4.2.2.1).bind fun r5=>
 some (r5.1,r5.2.1,r5.2.2.1,r5.2.2.2.2.2.2.2)
noncomputable def Q87.E (N:Nat):bD:=xE [(2,fR),(33,aI)] [(42,Q84.ent N),(54,Q50.ent N)] [] [] N [.cell 2 33,.tmp 3] [.recd [.any,.any,.any],.any] 0 27
noncomputable def Q87.dec (v:V)(bs:List rA):Option (Int×Int×Int×Int):=match v,bs with
 | .tup [.agg [.c (.int .i64 z0),.c (.int .i64 z1),.c (.int .i64 z2)],.c (.int .i64 z3)],[]=>some (z0,z1,z2,z3)
 |_,_=>none
theorem Q87.f_eq (N:Nat)(a1 a2 a3:Int):
  cB (Q87.E N) (bo Tryz.f45) [.agg [.c (.int .i64 a1),.c (.int .i64 a2),.c (.int .i64 a3)]] [] Q87.dec=Q87.f N a1 a2 a3:=by kernel_rfl
noncomputable def Q87.ent (N:Nat):xA:=tF (Int×Int×Int×Int) 0 [true] [.recd [.any,.any,.any]] fun
 | [.agg [.c (.int .i64 a1),.c (.int .i64 a2),.c (.int .i64 a3)]]=>some (Q87.f N a1 a2 a3,fun r=>.one (.tup [.agg [.c (.int .i64 r.1),.c (.int .i64 r.2.1),.c (.int .i64 r.2.2.1)],.c (.int .i64 r.2.2.2)]) [])
 |_=>none
theorem Q87.env (N:Nat):aB Tryz.prog (Q87.E N):=⟨(.cons gD (.cons rC .nil)),(.cons (Q84.ent_ok N) (.cons (Q50.ent_ok N) .nil))⟩
theorem Q87.spec (N:Nat)(a1 a2 a3:Int)(r:Int×Int×Int×Int)(h:Q87.f N a1 a2 a3=some r):fA Tryz.prog 45 [.agg [.c (.int .i64 a1),.c (.int .i64 a2),.c (.int .i64 a3)]] [] (.tup [.agg [.c (.int .i64 r.1),.c (.int .i64 r.2.1),.c (.int .i64 r.2.2.1)],.c (.int .i64 r.2.2.2)]) ([]):=vA (Q87.env N) bA Tryz.func45 cA.n ((Q87.f_eq ..).trans h) fun v b e=>by unfold Q87.dec at e;split at e<;>cases e;exact⟨rfl,rfl⟩
theorem Q87.ent_ok (N:Nat):uA Tryz.prog 45 (Q87.ent N):=yA fun v a e h=>by split at h;exact mC (Q:=fun e=>fA _ _ _ _ (e a).pick.1 (e a).pick.2) h fun k=>Q87.spec N _ _ _ a k;cases h
noncomputable def Q88.l1000001 {R:Type}(N:Nat):Nat→Int→Int→Int→Int→Int→Int→Int→Int→Int→Int→Int→Int→Int→Int→Int→(Int→Int→Int→Int→Option R)→Option R
 |0,_,_,_,_,_,_,_,_,_,_,_,_,_,_,_,_=>none
 |n+1,x5,x6,x7,x8,x9,x10,x11,x12,x13,x14,x15,x16,x17,x18,x19,kr=>
  bif x6==0 then
   kr x17 x18 x19 0
  else
  bif (fC .u64 x6 1)==1 then
   (Q85.f N x17 x18 x19 x14 x15 x16 x7).bind fun r24=>
   (Q85.f N x14 x15 x16 x14 x15 x16 x7).bind fun r25=>
   Q88.l1000001 N n x5 (Int.fdiv x6 (2^1)) x7 x8 x9 x10 x11 x12 x13 r25.1 r25.2.1 r25.2.2 r24.1 r24.2.1 r24.2.2 kr
  else
  (Q85.f N x14 x15 x16 x14 x15 x16 x7).bind fun r26=>
  Q88.l1000001 N n x5 (Int.fdiv x6 (2^1)) x7 x8 x9 x10 x11 x12 x13 r26.1 r26.2.1 r26.2.2 x17 x18 x19 kr
noncomputable def Q88.s1000001 {R:Type}(N:Nat)(x27 x28:Int)(x29 x30:Int)(x31 x32 x33:Int)(kr:(Int→Int→Int→Int→Option R)):Option R:=
 (Q84.f N x28 x29 x30).bind fun r34=>
 bif r34.2.2.2 != 0 then
  kr 0 0 0 r34.2.2.2
 else
 bif decide (x27<0)then
  (Q87.f N r34.1 r34.2.1 r34.2.2.1).bind fun r35=>
  (Q47.f N r35.1 r35.2.1 r35.2.2.1).bind fun r36=>
  (Q83.f N r36).bind fun r37=>
  bif (gA (0- (gA x27)))==0 then
   kr r37.1 r37.2.1 r37.2.2.1 0
  else
  bif (fC .u64 (gA (0- (gA x27))) 1)==1 then
   (Q85.f N r37.1 r37.2.1 r37.2.2.1 r35.1 r35.2.1 r35.2.2.1 r36).bind fun r38=>
   (Q85.f N r35.1 r35.2.1 r35.2.2.1 r35.1 r35.2.1 r35.2.2.1 r36).bind fun r39=>
   Q88.l1000001 N N x27 (Int.fdiv (gA (0- (gA x27))) (2^1)) r36 x28 x29 x30 x31 x32 x33 r39.1 r39.2.1 r39.2.2 r38.1 r38.2.1 r38.2.2 kr
  else
  (Q85.f N r35.1 r35.2.1 r35.2.2.1 r35.1 r35.2.1 r35.2.2.1 r36).bind fun r40=>
  Q88.l1000001 N N x27 (Int.fdiv (gA (0- (gA x27))) (2^1)) r36 x28 x29 x30 x31 x32 x33 r40.1 r40.2.1 r40.2.2 r37.1 r37.2.1 r37.2.2.1 kr
 else
 (Q47.f N r34.1 r34.2.1 r34.2.2.1).bind fun r41=>
 (Q83.f N r41).bind fun r42=>
 bif (gA x27)==0 then
  kr r42.1 r42.2.1 r42.2.2.1 0
 else
 bif (fC .u64 (gA x27) 1)==1 then
  (Q85.f N r42.1 r42.2.1 r42.2.2.1 r34.1 r34.2.1 r34.2.2.1 r41).bind fun r43=>
  (Q85.f N r34.1 r34.2.1 r34.2.2.1 r34.1 r34.2.1 r34.2.2.1 r41).bind fun r44=>
  Q88.l1000001 N N x27 (Int.fdiv (gA x27) (2^1)) r41 x28 x29 x30 x31 x32 x33 r44.1 r44.2.1 r44.2.2 r43.1 r43.2.1 r43.2.2 kr
 else
 (Q85.f N r34.1 r34.2.1 r34.2.2.1 r34.1 r34.2.1 r34.2.2.1 r41).bind fun r45=>
 Q88.l1000001 N N x27 (Int.fdiv (gA x27) (2^1)) r41 x28 x29 x30 x31 x32 x33 r45.1 r45.2.1 r45.2.2 r42.1 r42.2.1 r42.2.2.1 kr
noncomputable def Q88.f (N:Nat)(a1 a2:Int)(a3 a4:Int):Option (Int×Int×Int×Int):=
 Q88.s1000001 N a4 a1 a2 a3 0 0 0
  (fun y46 y47 y48 y49=>
   some (y46,y47,y48,y49))
noncomputable def Q88.h1000001:yC:=⟨[(1,.any),(2,.box [.any,.any,.any]),(4,.box [.any,.any,.any]),(6,.any),(8,.any),(9,.any),(10,.any)],[(4,.any),(5,.any)]⟩
noncomputable def Q88.c1000001 (N:Nat):uH:=⟨fun vs H k=>match vs,H with
 | [.c (.int .i64 x27),.ptr 0 0 3,.ptr 1 0 3,.poison,.poison,.poison,.poison],[.vals [.c (.int .i64 x28),.c (.int .i64 x29),.c (.int .i64 x30)],.vals [.c (.int .i64 x31),.c (.int .i64 x32),.c (.int .i64 x33)]]=>Q88.s1000001 N x27 x28 x29 x30 x31 x32 x33 (fun x20 x21 x22 x23=>k (.ret (.tup [.agg [.c (.int .i64 x20),.c (.int .i64 x21),.c (.int .i64 x22)],.c (.int .i64 x23)]) []) .nil)
 |_,_=>none⟩
noncomputable def Q88.E (N:Nat):bD:=xE [(2,fR),(33,aI),(78,bQ)] [(42,Q84.ent N),(45,Q87.ent N),(19,Q47.ent N),(27,Q83.ent N),(43,Q85.ent N)] [(1000001,Q88.h1000001)] [(1000001,Q88.c1000001 N)] N [.cell 4 33,.tmp 5] [.recd [.any,.any,.any],.any] 0 55
noncomputable def Q88.b1000001:Code:=sA ((eA (bo Tryz.f26)).getD 0 .skip)
noncomputable def Q88.r1000001:Code:=(findLabel Q88.b1000001 0).getD .skip
theorem Q88.l1000001_eq {R:Type}(N n:Nat)(x5 x6:Int)(x7 x8:Int)(x9 x10:Int)(x11 x12:Int)(x13 x14:Int)(x15 x16:Int)(x17 x18 x19:Int)(k:Ex→St→Option R):
  bN 0 Q88.h1000001 (fun c s k=>bB (Q88.E N) 398 c s k) Q88.b1000001 n Q88.r1000001 [.c (.int .i64 x5),.ptr 0 0 3,.ptr 1 0 3,.ptr 2 0 3,.c (.int .u64 x6),.c (.int .i64 x7),.ptr 3 0 3] [.vals [.c (.int .i64 x8),.c (.int .i64 x9),.c (.int .i64 x10)],.vals [.c (.int .i64 x11),.c (.int .i64 x12),.c (.int .i64 x13)],.vals [.c (.int .i64 x14),.c (.int .i64 x15),.c (.int .i64 x16)],.vals [.c (.int .i64 x17),.c (.int .i64 x18),.c (.int .i64 x19)]] k=Q88.l1000001 N n x5 x6 x7 x8 x9 x10 x11 x12 x13 x14 x15 x16 x17 x18 x19 (fun x20 x21 x22 x23=>k (.ret (.tup [.agg [.c (.int .i64 x20),.c (.int .i64 x21),.c (.int .i64 x22)],.c (.int .i64 x23)]) []) .nil):=by
 induction n generalizing x5 x6 x7 x8 x9 x10 x11 x12 x13 x14 x15 x16 x17 x18 x19 with
 |zero=>kernel_rfl
 |succ n ih=>
  simp only[Q88.l1000001,←ih]
  kernel_rfl
theorem Q88.s1000001_eq {R:Type}(N:Nat)(x27 x28:Int)(x29 x30:Int)(x31 x32 x33:Int)(k:Ex→St→Option R):
  bN 0 Q88.h1000001 (fun c s k=>bB (Q88.E N) 398 c s k) Q88.b1000001 (N+1) Q88.b1000001 [.c (.int .i64 x27),.ptr 0 0 3,.ptr 1 0 3,.poison,.poison,.poison,.poison] [.vals [.c (.int .i64 x28),.c (.int .i64 x29),.c (.int .i64 x30)],.vals [.c (.int .i64 x31),.c (.int .i64 x32),.c (.int .i64 x33)]] k=Q88.s1000001 N x27 x28 x29 x30 x31 x32 x33 (fun x20 x21 x22 x23=>k (.ret (.tup [.agg [.c (.int .i64 x20),.c (.int .i64 x21),.c (.int .i64 x22)],.c (.int .i64 x23)]) []) .nil):=by
 simp only[Q88.s1000001,←Q88.l1000001_eq]
 kernel_rfl
noncomputable def Q88.dec (v:V)(bs:List rA):Option (Int×Int×Int×Int):=match v,bs with
 | .tup [.agg [.c (.int .i64 z0),.c (.int .i64 z1),.c (.int .i64 z2)],.c (.int .i64 z3)],[]=>some (z0,z1,z2,z3)
 |_,_=>none
theorem Q88.f_eq (N:Nat)(a1 a2:Int)(a3 a4:Int):
  cB (Q88.E N) (bo Tryz.f26) [.agg [.c (.int .i64 a1),.c (.int .i64 a2),.c (.int .i64 a3)],.c (.int .i64 a4)] [] Q88.dec=Q88.f N a1 a2 a3 a4:=by kernel_rfl
noncomputable def Q88.ent (N:Nat):xA:=tF (Int×Int×Int×Int) 0 [true,true] [.recd [.any,.any,.any],.any] fun
 | [.agg [.c (.int .i64 a1),.c (.int .i64 a2),.c (.int .i64 a3)],.c (.int .i64 a4)]=>some (Q88.f N a1 a2 a3 a4,fun r=>.one (.tup [.agg [.c (.int .i64 r.1),.c (.int .i64 r.2.1),.c (.int .i64 r.2.2.1)],.c (.int .i64 r.2.2.2)]) [])
 |_=>none
theorem Q88.env (N:Nat):aB Tryz.prog (Q88.E N):=⟨(.cons gD (.cons rC (.cons nF .nil))),(.cons (Q84.ent_ok N) (.cons (Q87.ent_ok N) (.cons (Q47.ent_ok N) (.cons (Q83.ent_ok N) (.cons (Q85.ent_ok N) .nil)))))⟩
theorem Q88.res_eq (N:Nat):(Q88.E N).res=Tryz.f26.results.toList:=by kernel_rfl
theorem Q88.k1000001 (N:Nat):uB Tryz.prog Tryz.f26 (Q88.E N) (.scope Q88.b1000001):=by
 intro e hd he hh R vs H k r h;have e1:(Q88.E N).cut (1000000+kD Q88.b1000001)=some (Q88.c1000001 N):=by kernel_rfl
 have e2:(Q88.E N).hint (1000000+kD Q88.b1000001)=some Q88.h1000001:=by kernel_rfl
 rw[e1]at he;rw[e2]at hh;cases he;cases hh;unfold Q88.c1000001 at h;dsimp only at h;split at h
 ·rw[←Q88.s1000001_eq]at h;exact Bz (Q88.env N) bA (Q88.res_eq N) cA.n h
 ·cases h
theorem Q88.spec (N:Nat)(a1 a2:Int)(a3 a4:Int)(r:Int×Int×Int×Int)(h:Q88.f N a1 a2 a3 a4=some r):fA Tryz.prog 26 [.agg [.c (.int .i64 a1),.c (.int .i64 a2),.c (.int .i64 a3)],.c (.int .i64 a4)] [] (.tup [.agg [.c (.int .i64 r.1),.c (.int .i64 r.2.1),.c (.int .i64 r.2.2.1)],.c (.int .i64 r.2.2.2)]) ([]):=vA (Q88.env N) bA Tryz.func26 (cA.of (l:=[(.scope (sA ((eA (bo Tryz.f26)).getD 0 .skip)))]) (by kernel_rfl) (cA.cons (Q88.k1000001 N) cA.nil)) ((Q88.f_eq ..).trans h) fun v b e=>by unfold Q88.dec at e;split at e<;>cases e;exact⟨rfl,rfl⟩
theorem Q88.ent_ok (N:Nat):uA Tryz.prog 26 (Q88.ent N):=yA fun v a e h=>by split at h;exact mC (Q:=fun e=>fA _ _ _ _ (e a).pick.1 (e a).pick.2) h fun k=>Q88.spec N _ _ _ _ a k;cases h
noncomputable def Q89.f (N:Nat)(a1:Int):Option (Int×Int×Int×Int):=
 bif decide (a1>(-3))then
  some (0,0,0,80)
 else
 bif decide (a1<(-4294967296))then
  some (0,0,0,80)
 else
 (Q65.f N a1 4).bind fun r2=>
 bif r2==0 then
  some (1,0,aA (Int.tdiv (aA (0-a1)) 4),0)
 else
 bif r2==1 then
  some (1,1,aA (Int.tdiv (aA (1-a1)) 4),0)
 else
 some (0,0,0,80)
noncomputable def Q90.l2 {R:Type}(N:Nat):Nat→Int→Int→Int→Int→(Int→Option R)→Option R
 |0,_,_,_,_,_=>none
 |n+1,x4,x5,x6,x7,k0=>
  bif decide (x5>0)then
   bif (Int.tmod x5 2)==1 then
    bif !(x6==0)then
     bif !(x6==0)then
      Q90.l2 N n (Int.tmod (aA (x4+x4)) x6) (aA (Int.tdiv x5 2)) x6 (Int.tmod (aA (x7+x4)) x6) k0
     else none
    else none
   else
   bif !(x6==0)then
    Q90.l2 N n (Int.tmod (aA (x4+x4)) x6) (aA (Int.tdiv x5 2)) x6 x7 k0
   else none
  else
  k0 x7
noncomputable def Q90.f (N:Nat)(a1 a2 a3:Int):Option (Int):=
 Q90.l2 N N a1 a2 a3 0
  (fun y9=>
   some y9)
noncomputable def Q91.l5 {R:Type}(N:Nat):Nat→Int→Int→Int→Int→Int→(Int→Int→Option R)→Option R
 |0,_,_,_,_,_,_=>none
 |n+1,x4,x5,x6,x7,x8,k0=>
  bif decide (x6>0)then
   bif !(x6==0)then
    Q91.l5 N n x4 x6 (aA (x5- (aA ((aA (Int.tdiv x5 x6))*x6)))) x8 (aA (x7- (aA ((aA (Int.tdiv x5 x6))*x8)))) k0
   else none
  else
  k0 x4 x7
noncomputable def Q91.f (N:Nat)(a1 a2:Int):Option (Int):=
 (Q65.f N a1 a2).bind fun r3=>
 Q91.l5 N N a2 a2 r3 0 1
  (fun y11 y12=>
   (Q65.f N y12 y11).bind fun r13=>
   some r13)
noncomputable def Q92.f (N:Nat)(a1 a2:Int):Option (Int×Int):=
 bif decide (a2<1)then
  some (0,2)
 else
 bif decide (a2>4611686018427387904)then
  some (0,2)
 else
 (Q65.f N a1 a2).bind fun r3=>
 (Q66.f N r3 a2).bind fun r4=>
 bif r4 != 1 then
  some (0,41)
 else
 (Q91.f N a1 a2).bind fun r5=>
 some (r5,0)
noncomputable def Q93.f (N:Nat)(a1 a2:Int):Option (Int):=
 (Q92.f N a1 a2).bind fun r3=>
 some r3.1
noncomputable def Q94.l4 {R:Type}(N:Nat):Nat→Int→Int→Int→Int→Int→Int→Int→Int→Int→(Int→Int→Int→Int→Int→Int→Int→Int→Option R)→(Int→Int→Int→Option R)→Option R
 |0,_,_,_,_,_,_,_,_,_,_,_=>none
 |n+1,x13,x14,x15,x16,x17,x18,x19,x20,x21,k2,kr=>
  bif decide (x15≤x14)then
   (Q66.f N x15 (aA (x14-x15))).bind fun r22=>
   bif r22 != 1 then
    Q94.l4 N n x13 x14 (aA (x15+1)) x16 x17 x18 x19 x20 x21 k2 kr
   else
   (Q66.f N (aA ((aA ((aA ((aA (x16*x15))*x15))+(aA ((aA (x17*x15))*(aA (x14-x15))))))+(aA ((aA (x18*(aA (x14-x15))))*(aA (x14-x15)))))) x13).bind fun r23=>
   bif r23 != 1 then
    Q94.l4 N n x13 x14 (aA (x15+1)) x16 x17 x18 x19 x20 x21 k2 kr
   else
   (Q53.f N x15).bind fun r24=>
   (Q53.f N (aA (x14-x15))).bind fun r25=>
   (Q64.f N r24.1 r24.2 r25.1 r25.2).bind fun r26=>
   (Q56.f N r26.2.1 r26.2.2.1).bind fun r27=>
   (Q58.f N r26.2.2.2.1 r26.2.2.2.2).bind fun r28=>
   (Q56.f N r28.1 r28.2).bind fun r29=>
   kr (aA ((aA ((aA ((aA (x16*x15))*x15))+(aA ((aA (x17*x15))*(aA (x14-x15))))))+(aA ((aA (x18*(aA (x14-x15))))*(aA (x14-x15)))))) (aA ((aA ((aA ((aA ((aA (2*x16))*x15))*r29.1))+(aA (x17*(aA ((aA (x15*r27.1))+(aA (r29.1*(aA (x14-x15))))))))))+(aA ((aA ((aA (2*x18))*(aA (x14-x15))))*r27.1)))) (aA ((aA ((aA ((aA (x16*r29.1))*r29.1))+(aA ((aA (x17*r29.1))*r27.1))))+(aA ((aA (x18*r27.1))*r27.1))))
  else
  k2 x13 x14 x16 x17 x18 x19 x20 x21
noncomputable def Q94.l3 {R:Type}(N:Nat):Nat→Int→Int→Int→Int→Int→Int→Int→Int→(Int→Int→Int→Option R)→Option R
 |0,_,_,_,_,_,_,_,_,_=>none
 |n+1,x5,x6,x7,x8,x9,x10,x11,x12,kr=>
  Q94.l4 N N x5 x6 0 x7 x8 x9 x10 x11 x12
   (fun y41 y42 y43 y44 y45 y46 y47 y48=>
    Q94.l3 N n y41 (aA (y42+1)) y43 y44 y45 y46 y47 y48 kr)
   (fun y49 y50 y51=>
    kr y49 y50 y51)
noncomputable def Q94.f (N:Nat)(a1 a2:Int)(a3 a4:Int):Option (Int×Int×Int):=
 Q94.l3 N N a4 1 a1 a2 a3 0 0 0
  (fun y55 y56 y57=>
   some (y55,y56,y57))
noncomputable def Q95.l2 {R:Type}(N:Nat):Nat→Int→Bool→List Int→Bool→List Int→Int→Int→Int→Bool→List Int→(Int→Int→Int→Option R)→Option R
 |0,_,_,_,_,_,_,_,_,_,_,_=>none
 |n+1,x7,x8,x9,x10,x11,x12,x13,x14,x15,x16,kr=>
  (Q53.f N 2).bind fun r17=>
  (Q61.f N x8 x9 r17.1 r17.2).bind fun r18=>
  (Q62.f N x10 x11 r18.1 r18.2).bind fun r19=>
  (Q57.f N r19.2.2.1 r19.2.2.2 x8 x9).bind fun r20=>
  bif decide (r20>0)then
   (Q60.f N r19.2.2.1 r19.2.2.2 r18.1 r18.2).bind fun r21=>
   (Q61.f N r21.1 r21.2 r21.1 r21.2).bind fun r22=>
   (Q53.f N x7).bind fun r23=>
   (Q60.f N r22.1 r22.2 r23.1 r23.2).bind fun r24=>
   (Q61.f N x15 x16 x8 x9).bind fun r25=>
   (Q62.f N r24.1 r24.2 r25.1 r25.2).bind fun r26=>
   (Q57.f N x8 x9 r26.1 r26.2.1).bind fun r27=>
   bif decide (r27<0)then
    (Q56.f N x8 x9).bind fun r28=>
    (Q56.f N r21.1 r21.2).bind fun r29=>
    (Q56.f N r26.1 r26.2.1).bind fun r30=>
    kr r28.1 r29.1 r30.1
   else
   bif r27==0 then
    (Q54.f N r21.1 r21.2).bind fun r34=>
    bif decide (r34≥0)then
     (Q56.f N x8 x9).bind fun r35=>
     (Q56.f N r21.1 r21.2).bind fun r36=>
     (Q56.f N r26.1 r26.2.1).bind fun r37=>
     kr r35.1 r36.1 r37.1
    else
    (Q58.f N r21.1 r21.2).bind fun r38=>
    Q95.l2 N n x7 r26.1 r26.2.1 r38.1 r38.2 x12 x13 x14 x15 x16 kr
   else
   (Q58.f N r21.1 r21.2).bind fun r39=>
   Q95.l2 N n x7 r26.1 r26.2.1 r39.1 r39.2 x12 x13 x14 x15 x16 kr
  else
  (Q61.f N r19.2.2.1 r19.2.2.2 r19.2.2.1 r19.2.2.2).bind fun r40=>
  (Q53.f N x7).bind fun r41=>
  (Q60.f N r40.1 r40.2 r41.1 r41.2).bind fun r42=>
  (Q61.f N x15 x16 x8 x9).bind fun r43=>
  (Q62.f N r42.1 r42.2 r43.1 r43.2).bind fun r44=>
  (Q57.f N x8 x9 r44.1 r44.2.1).bind fun r45=>
  bif decide (r45<0)then
   (Q56.f N x8 x9).bind fun r46=>
   (Q56.f N r19.2.2.1 r19.2.2.2).bind fun r47=>
   (Q56.f N r44.1 r44.2.1).bind fun r48=>
   kr r46.1 r47.1 r48.1
  else
  bif r45==0 then
   (Q54.f N r19.2.2.1 r19.2.2.2).bind fun r49=>
   bif decide (r49≥0)then
    (Q56.f N x8 x9).bind fun r50=>
    (Q56.f N r19.2.2.1 r19.2.2.2).bind fun r51=>
    (Q56.f N r44.1 r44.2.1).bind fun r52=>
    kr r50.1 r51.1 r52.1
   else
   (Q58.f N r19.2.2.1 r19.2.2.2).bind fun r53=>
   Q95.l2 N n x7 r44.1 r44.2.1 r53.1 r53.2 x12 x13 x14 x15 x16 kr
  else
  (Q58.f N r19.2.2.1 r19.2.2.2).bind fun r54=>
  Q95.l2 N n x7 r44.1 r44.2.1 r54.1 r54.2 x12 x13 x14 x15 x16 kr
noncomputable def Q95.f (N:Nat)(a1:Bool)(a2:List Int)(a3:Bool)(a4:List Int)(a5:Int):Option (Int×Int×Int):=
 (Q53.f N 4).bind fun r6=>
 Q95.l2 N N a5 a1 a2 a3 a4 0 0 0 r6.1 r6.2
  (fun y55 y56 y57=>
   some (y55,y56,y57))
noncomputable def Q96.f (N:Nat)(a1 a2:Int)(a3 a4:Int)(a5 a6:Int):Option (Int×Int×Int):=
 (Q94.f N a4 a5 a6 a1).bind fun r7=>
 (Q69.f N a1 a2 a3).bind fun r8=>
 (Q65.f N (aA (Int.tdiv (aA (r7.2.1-a2)) 2)) r7.1).bind fun r9=>
 (Q93.f N a1 r7.1).bind fun r10=>
 (Q90.f N r9 r10 r7.1).bind fun r11=>
 (Q53.f N a2).bind fun r12=>
 (Q53.f N (aA (2*a1))).bind fun r13=>
 (Q53.f N r11).bind fun r14=>
 (Q61.f N r13.1 r13.2 r14.1 r14.2).bind fun r15=>
 (Q59.f N r12.1 r12.2 r15.1 r15.2).bind fun r16=>
 (Q53.f N a1).bind fun r17=>
 (Q53.f N r7.1).bind fun r18=>
 (Q61.f N r17.1 r17.2 r18.1 r18.2).bind fun r19=>
 (Q95.f N r19.1 r19.2 r16.1 r16.2 r8).bind fun r20=>
 some (r20.1,r20.2.1,r20.2.2)
noncomputable def Q97.f (N:Nat)(a1 a2 a3:Int):Option (Int×Int×Int×Int):=
 (Q73.f N a1 a2 a3).bind fun r4=>
 bif r4.2.2.2.2.2.2.2 != 0 then
  some (r4.1,r4.2.1,r4.2.2.1,r4.2.2.2.2.2.2.2)
 else
 (Q74.f N a1 a2 a3).bind fun r5=>
 bif r5 != 1 then
  some (0,0,0,81)
 else
 some (r4.1,r4.2.1,r4.2.2.1,0)
noncomputable def Q98.f (N:Nat)(a1 a2 a3:Int):Option (Int×Int×Int):=
 (Q73.f N a1 (aA (0-a2)) a3).bind fun r4=>
 some (r4.1,r4.2.1,r4.2.2.1)
noncomputable def Q99.f (N:Nat)(a1 a2 a3:Int):Option (Int×Int×Int×Int):=
 (Q97.f N a1 a2 a3).bind fun r4=>
 bif r4.2.2.2 != 0 then
  some (0,0,0,r4.2.2.2)
 else
 (Q98.f N r4.1 r4.2.1 r4.2.2.1).bind fun r5=>
 some (r5.1,r5.2.1,r5.2.2,0)
noncomputable def gd:TI:=⟨.slice 33,1,24,[.slice none 0 0]⟩
noncomputable def E4:TI:=⟨.map 33 2,1,8,[.map none]⟩
noncomputable def Cf:TI:=⟨.slice 3,1,24,[.slice none 0 0]⟩
theorem fL:uC Tryz.prog 23 gd:=fD (by kernel_rfl) (by kernel_rfl) (by kernel_rfl) (by kernel_rfl) (by kernel_rfl) (by kernel_rfl) (by kernel_rfl) (Tryz.underlying23) (by kernel_rfl)
theorem gi:uC Tryz.prog 85 E4:=fD (by kernel_rfl) (by kernel_rfl) (by kernel_rfl) (by kernel_rfl) (by kernel_rfl) (by kernel_rfl) (by kernel_rfl) (Cd Tryz.underlying85 (by kernel_rfl)) (by kernel_rfl)
theorem mn:uC Tryz.prog 108 Cf:=fD (by kernel_rfl) (by kernel_rfl) (by kernel_rfl) (by kernel_rfl) (by kernel_rfl) (by kernel_rfl) (by kernel_rfl) (Tryz.underlying108) (by kernel_rfl)
noncomputable def Q100.f (N:Nat)(a1 a2 a3:Int):Option (Bool):=
 (Q48.f N a1 a2 a3).bind fun r4=>
 bif r4==0 then
  (Q49.f N a1 a2 a3 0 0 0 0).bind fun r5=>
  some (!r5.1)
 else
 some false
noncomputable def Q100.E (N:Nat):bD:=xE [(33,aI),(72,xu),(74,E3)] [(36,Q48.ent N),(37,Q49.ent N)] [] [] N [.tmp 2] [.any] 0 13
noncomputable def Q100.dec (v:V)(bs:List rA):Option (Bool):=match v,bs with
 | .c (.bool z0),[]=>some z0
 |_,_=>none
theorem Q100.f_eq (N:Nat)(a1 a2 a3:Int):
  cB (Q100.E N) (bo Tryz.f18) [.agg [.c (.int .i64 a1),.c (.int .i64 a2),.c (.int .i64 a3)]] [] Q100.dec=Q100.f N a1 a2 a3:=by kernel_rfl
noncomputable def Q100.ent (N:Nat):xA:=tF (Bool) 0 [true] [.recd [.any,.any,.any]] fun
 | [.agg [.c (.int .i64 a1),.c (.int .i64 a2),.c (.int .i64 a3)]]=>some (Q100.f N a1 a2 a3,fun r=>.one (.c (.bool r)) [])
 |_=>none
theorem Q100.env (N:Nat):aB Tryz.prog (Q100.E N):=⟨(.cons rC (.cons vS (.cons gh .nil))),(.cons (Q48.ent_ok N) (.cons (Q49.ent_ok N) .nil))⟩
theorem Q100.spec (N:Nat)(a1 a2 a3:Int)(r:Bool)(h:Q100.f N a1 a2 a3=some r):fA Tryz.prog 18 [.agg [.c (.int .i64 a1),.c (.int .i64 a2),.c (.int .i64 a3)]] [] (.c (.bool r)) ([]):=vA (Q100.env N) bA Tryz.func18 cA.n ((Q100.f_eq ..).trans h) fun v b e=>by unfold Q100.dec at e;split at e<;>cases e;exact⟨rfl,rfl⟩
theorem Q100.ent_ok (N:Nat):uA Tryz.prog 18 (Q100.ent N):=yA fun v a e h=>by split at h;exact mC (Q:=fun e=>fA _ _ _ _ (e a).pick.1 (e a).pick.2) h fun k=>Q100.spec N _ _ _ a k;cases h
noncomputable def Q101.f (N:Nat)(a1:Int):Option (Bool):=
 some (a1 != a1)
noncomputable def Q101.E (N:Nat):bD:=xE [] [] [] [] N [.tmp 2] [.any] 0 6
noncomputable def Q101.dec (v:V)(bs:List rA):Option (Bool):=match v,bs with
 | .c (.bool z0),[]=>some z0
 |_,_=>none
theorem Q101.f_eq (N:Nat)(a1:Int):
  cB (Q101.E N) (bo Tryz.f82) [.c (.int .i64 a1)] [] Q101.dec=Q101.f N a1:=by kernel_rfl
noncomputable def Q101.ent (N:Nat):xA:=tF (Bool) 0 [true] [.any] fun
 | [.c (.int .i64 a1)]=>some (Q101.f N a1,fun r=>.one (.c (.bool r)) [])
 |_=>none
theorem Q101.env (N:Nat):aB Tryz.prog (Q101.E N):=⟨.nil,.nil⟩
theorem Q101.spec (N:Nat)(a1:Int)(r:Bool)(h:Q101.f N a1=some r):fA Tryz.prog 82 [.c (.int .i64 a1)] [] (.c (.bool r)) ([]):=vA (Q101.env N) bA Tryz.func82 cA.n ((Q101.f_eq ..).trans h) fun v b e=>by unfold Q101.dec at e;split at e<;>cases e;exact⟨rfl,rfl⟩
theorem Q101.ent_ok (N:Nat):uA Tryz.prog 82 (Q101.ent N):=yA fun v a e h=>by split at h;exact mC (Q:=fun e=>fA _ _ _ _ (e a).pick.1 (e a).pick.2) h fun k=>Q101.spec N _ a k;cases h
noncomputable def Q102.f (N:Nat)(a1 a2:Int):Option (Int):=
 (Q101.f N a1).bind fun r3=>
 (Q101.f N a2).bind fun r4=>
 bif r3 then
  bif r4 then
   some 0
  else
  some (-1)
 else
 bif r4 then
  some 1
 else
 bif decide (a1<a2)then
  some (-1)
 else
 bif decide (a1>a2)then
  some 1
 else
 some 0
noncomputable def Q102.E (N:Nat):bD:=xE [] [(82,Q101.ent N)] [] [] N [.tmp 4] [.any] 0 20
noncomputable def Q102.dec (v:V)(bs:List rA):Option (Int):=match v,bs with
 | .c (.int .i64 z0),[]=>some z0
 |_,_=>none
theorem Q102.f_eq (N:Nat)(a1 a2:Int):
  cB (Q102.E N) (bo Tryz.f61) [.c (.int .i64 a1),.c (.int .i64 a2)] [] Q102.dec=Q102.f N a1 a2:=by kernel_rfl
noncomputable def Q102.ent (N:Nat):xA:=tF (Int) 0 [true,true] [.any,.any] fun
 | [.c (.int .i64 a1),.c (.int .i64 a2)]=>some (Q102.f N a1 a2,fun r=>.one (.c (.int .i64 r)) [])
 |_=>none
theorem Q102.env (N:Nat):aB Tryz.prog (Q102.E N):=⟨.nil,(.cons (Q101.ent_ok N) .nil)⟩
theorem Q102.spec (N:Nat)(a1 a2 r:Int)(h:Q102.f N a1 a2=some r):fA Tryz.prog 61 [.c (.int .i64 a1),.c (.int .i64 a2)] [] (.c (.int .i64 r)) ([]):=vA (Q102.env N) bA Tryz.func61 cA.n ((Q102.f_eq ..).trans h) fun v b e=>by unfold Q102.dec at e;split at e<;>cases e;exact⟨rfl,rfl⟩
theorem Q102.ent_ok (N:Nat):uA Tryz.prog 61 (Q102.ent N):=yA fun v a e h=>by split at h;exact mC (Q:=fun e=>fA _ _ _ _ (e a).pick.1 (e a).pick.2) h fun k=>Q102.spec N _ _ a k;cases h
noncomputable def Q103.l3 {R:Type}(N:Nat):Nat→Int→List Int→Int→Int→(Int→Option R)→(Int→Option R)→Option R
 |0,_,_,_,_,_,_=>none
 |n+1,x2,x3,x4,x5,k0,kr=>
  bif decide (x5<x4)then
   bif (decide (0≤x5))&&(decide (x5<(x3.length:Int)))then
    bif (x3.getD x5.toNat 0) != x2 then
     kr (x3.getD x5.toNat 0)
    else
    Q103.l3 N n x2 x3 x4 (aA (x5+1)) k0 kr
   else none
  else
  k0 x2
noncomputable def Q103.f (N:Nat)(a1:List Int):Option (Int):=
 Q103.l3 N N 0 a1 (a1.length:Int) 0
  (fun y8=>
   some y8)
  (fun y9=>
   some y9)
noncomputable def Q103.h3:yC:=⟨[(3,.any),(6,.il .i64 1),(7,.any),(8,.any)],[(3,.any)]⟩
noncomputable def Q103.c3 (N:Nat):uH:=⟨fun vs H k=>match vs,H with
 | [.c (.int .i64 x2),.il .i64 1 x3,.c (.int .i64 x4),.c (.int .i64 x5)],[]=>Q103.l3 N N x2 x3 x4 x5 (fun x7=>k (.exit 0) ⟨xC Q103.h3.out [.c (.int .i64 x7)],[]⟩) (fun x6=>k (.ret (.c (.int .i64 x6)) []) .nil)
 |_,_=>none⟩
noncomputable def Q103.E (N:Nat):bD:=xE [(3,Ci),(108,Cf)] [] [(3,Q103.h3)] [(3,Q103.c3 N)] N [.tmp 2] [.any] 0 18
noncomputable def Q103.b3:Code:=sA ((eA (bo Tryz.f60)).getD 0 .skip)
theorem Q103.l3_eq {R:Type}(N n:Nat)(x2:Int)(x3:List Int)(x4 x5:Int)(k:Ex→St→Option R):
  gB 0 Q103.h3 (fun s k=>bB (Q103.E N) 394 Q103.b3 s k) n [.c (.int .i64 x2),.il .i64 1 x3,.c (.int .i64 x4),.c (.int .i64 x5)] [] k=Q103.l3 N n x2 x3 x4 x5 (fun x7=>k (.exit 0) ⟨xC Q103.h3.out [.c (.int .i64 x7)],[]⟩) (fun x6=>k (.ret (.c (.int .i64 x6)) []) .nil):=by
 induction n generalizing x2 x3 x4 x5 with
 |zero=>kernel_rfl
 |succ n ih=>
  simp only[Q103.l3,←ih]
  kernel_rfl
noncomputable def Q103.dec (v:V)(bs:List rA):Option (Int):=match v,bs with
 | .c (.int .i64 z0),[]=>some z0
 |_,_=>none
theorem Q103.f_eq (N:Nat)(a1:List Int):
  cB (Q103.E N) (bo Tryz.f60) [.il .i64 1 a1] [] Q103.dec=Q103.f N a1:=by kernel_rfl
noncomputable def Q103.ent (N:Nat):xA:=tF (Int) 0 [true] [.il .i64 1] fun
 | [.il .i64 1 a1]=>some (Q103.f N a1,fun r=>.one (.c (.int .i64 r)) [])
 |_=>none
theorem Q103.env (N:Nat):aB Tryz.prog (Q103.E N):=⟨(.cons sL (.cons mn .nil)),.nil⟩
theorem Q103.k3 (N:Nat):uB Tryz.prog Tryz.f60 (Q103.E N) (.loop Q103.b3):=zC (Q103.env N) bA 394 (c:=Q103.c3 N) cA.n fun R vs H k r h=>by unfold Q103.c3 at h;dsimp only at h;split at h;exact⟨_,Q103.l3_eq .. ▸h⟩;cases h
theorem Q103.spec (N:Nat)(a1:List Int)(r:Int)(h:Q103.f N a1=some r):fA Tryz.prog 60 [.il .i64 1 a1] [] (.c (.int .i64 r)) ([]):=vA (Q103.env N) bA Tryz.func60 (cA.of (l:=[(.loop (sA ((eA (bo Tryz.f60)).getD 0 .skip)))]) (by kernel_rfl) (cA.cons (Q103.k3 N) cA.nil)) ((Q103.f_eq ..).trans h) fun v b e=>by unfold Q103.dec at e;split at e<;>cases e;exact⟨rfl,rfl⟩
theorem Q103.ent_ok (N:Nat):uA Tryz.prog 60 (Q103.ent N):=yA fun v a e h=>by split at h;exact mC (Q:=fun e=>fA _ _ _ _ (e a).pick.1 (e a).pick.2) h fun k=>Q103.spec N _ a k;cases h
noncomputable def Q104.f (N:Nat)(a1 a2:Int)(a3 a4:Int)(a5 a6:Int):Option (Int):=
 (Q102.f N a1 a4).bind fun r7=>
 (Q102.f N a2 a5).bind fun r8=>
 (Q102.f N a3 a6).bind fun r9=>
 (Q103.f N [r7,r8,r9]).bind fun r10=>
 some r10
noncomputable def Q104.E (N:Nat):bD:=xE [(2,fR),(3,Ci),(33,aI),(108,Cf)] [(61,Q102.ent N),(60,Q103.ent N)] [] [] N [.tmp 4] [.any] 0 22
noncomputable def Q104.dec (v:V)(bs:List rA):Option (Int):=match v,bs with
 | .c (.int .i64 z0),[]=>some z0
 |_,_=>none
theorem Q104.f_eq (N:Nat)(a1 a2:Int)(a3 a4:Int)(a5 a6:Int):
  cB (Q104.E N) (bo Tryz.f59) [.agg [.c (.int .i64 a1),.c (.int .i64 a2),.c (.int .i64 a3)],.agg [.c (.int .i64 a4),.c (.int .i64 a5),.c (.int .i64 a6)]] [] Q104.dec=Q104.f N a1 a2 a3 a4 a5 a6:=by kernel_rfl
theorem Q104.env (N:Nat):aB Tryz.prog (Q104.E N):=⟨(.cons gD (.cons sL (.cons rC (.cons mn .nil)))),(.cons (Q102.ent_ok N) (.cons (Q103.ent_ok N) .nil))⟩
theorem Q104.spec (N:Nat)(a1 a2:Int)(a3 a4:Int)(a5 a6 r:Int)(h:Q104.f N a1 a2 a3 a4 a5 a6=some r):fA Tryz.prog 59 [.agg [.c (.int .i64 a1),.c (.int .i64 a2),.c (.int .i64 a3)],.agg [.c (.int .i64 a4),.c (.int .i64 a5),.c (.int .i64 a6)]] [] (.c (.int .i64 r)) ([]):=vA (Q104.env N) bA Tryz.func59 cA.n ((Q104.f_eq ..).trans h) fun v b e=>by unfold Q104.dec at e;split at e<;>cases e;exact⟨rfl,rfl⟩
noncomputable def Q105.f (N:Nat)(a1:Int):Option (Int):=
 bif decide (a1<(-65536))then
  some 80
 else
 bif decide (a1>(-3))then
  some 80
 else
 bif (Int.tmod (aA (0-a1)) 4)==1 then
  some 80
 else
 bif (Int.tmod (aA (0-a1)) 4)==2 then
  some 80
 else
 some 0
noncomputable def Q105.E (N:Nat):bD:=xE [] [] [] [] N [.tmp 2] [.any] 0 21
noncomputable def Q105.dec (v:V)(bs:List rA):Option (Int):=match v,bs with
 | .c (.int .i64 z0),[]=>some z0
 |_,_=>none
theorem Q105.f_eq (N:Nat)(a1:Int):
  cB (Q105.E N) (bo Tryz.f40) [.c (.int .i64 a1)] [] Q105.dec=Q105.f N a1:=by kernel_rfl
noncomputable def Q105.ent (N:Nat):xA:=tF (Int) 0 [true] [.any] fun
 | [.c (.int .i64 a1)]=>some (Q105.f N a1,fun r=>.one (.c (.int .i64 r)) [])
 |_=>none
theorem Q105.env (N:Nat):aB Tryz.prog (Q105.E N):=⟨.nil,.nil⟩
theorem Q105.spec (N:Nat)(a1 r:Int)(h:Q105.f N a1=some r):fA Tryz.prog 40 [.c (.int .i64 a1)] [] (.c (.int .i64 r)) ([]):=vA (Q105.env N) bA Tryz.func40 cA.n ((Q105.f_eq ..).trans h) fun v b e=>by unfold Q105.dec at e;split at e<;>cases e;exact⟨rfl,rfl⟩
theorem Q105.ent_ok (N:Nat):uA Tryz.prog 40 (Q105.ent N):=yA fun v a e h=>by split at h;exact mC (Q:=fun e=>fA _ _ _ _ (e a).pick.1 (e a).pick.2) h fun k=>Q105.spec N _ a k;cases h
noncomputable def Q106.l7 {R:Type}(N:Nat):Nat→Int→Int→Int→Int→List (List Int)→List Int→(Int→Int→List (List Int)→List Int→Option R)→Option R
 |0,_,_,_,_,_,_,_=>none
 |n+1,x6,x7,x8,x9,x10,x11,k2=>
  bif decide ((aA (x9*x9))≤x8)then
   bif !(x9==0)then
    bif (Int.tmod x8 x9) != 0 then
     Q106.l7 N n x6 x7 x8 (aA (x9+1)) x10 x11 k2
    else
    bif !(x9==0)then
     (Q51.f N x9 x7 (aA (Int.tdiv x8 x9))).bind fun r12=>
     bif decide (x7>0)then
      bif decide (x7<x9)then
       bif decide (x9<(aA (Int.tdiv x8 x9)))then
        Q106.l7 N n x6 x7 x8 (aA (x9+1)) (vB [x9,aA (0-x7),aA (Int.tdiv x8 x9)] (vB [x9,x7,aA (Int.tdiv x8 x9)] x10)) (aG [x9,aA (0-x7),aA (Int.tdiv x8 x9)] (pE [x9,x7,aA (Int.tdiv x8 x9)] (vB [x9,x7,aA (Int.tdiv x8 x9)] x10) (aG [x9,x7,aA (Int.tdiv x8 x9)] r12 x10 x11)) (vB [x9,x7,aA (Int.tdiv x8 x9)] x10) (aG [x9,x7,aA (Int.tdiv x8 x9)] r12 x10 x11)) k2
       else
       Q106.l7 N n x6 x7 x8 (aA (x9+1)) (vB [x9,x7,aA (Int.tdiv x8 x9)] x10) (aG [x9,x7,aA (Int.tdiv x8 x9)] r12 x10 x11) k2
      else
      Q106.l7 N n x6 x7 x8 (aA (x9+1)) (vB [x9,x7,aA (Int.tdiv x8 x9)] x10) (aG [x9,x7,aA (Int.tdiv x8 x9)] r12 x10 x11) k2
     else
     Q106.l7 N n x6 x7 x8 (aA (x9+1)) (vB [x9,x7,aA (Int.tdiv x8 x9)] x10) (aG [x9,x7,aA (Int.tdiv x8 x9)] r12 x10 x11) k2
    else none
   else none
  else
  k2 x6 x7 x10 x11
noncomputable def Q106.l3 {R:Type}(N:Nat):Nat→Int→Int→List (List Int)→List Int→(List (List Int)→List Int→Option R)→Option R
 |0,_,_,_,_,_=>none
 |n+1,x2,x3,x4,x5,k0=>
  bif decide ((aA ((aA (3*x3))*x3))≤(aA (0-x2)))then
   Q106.l7 N N x2 x3 (aA (Int.tdiv (aA ((aA (x3*x3))-x2)) 4)) (ph x3 1) x4 x5
    (fun y17 y18 y19 y20=>
     Q106.l3 N n y17 (aA (y18+2)) y19 y20 k0)
  else
  k0 x4 x5
noncomputable def Q106.f (N:Nat)(a1:Int):Option (List (List Int)×List Int):=
 Q106.l3 N N a1 (Int.tmod (aA (0-a1)) 2) [] []
  (fun y23 y24=>
   some (y23,y24))
noncomputable def Q106.h3:yC:=⟨[(0,.any),(3,.any),(4,.any)],[(3,.any)]⟩
noncomputable def Q106.h7:yC:=⟨[(0,.any),(3,.any),(4,.any),(5,.any),(6,.any)],[(0,.any),(3,.any),(4,.any)]⟩
noncomputable def Q106.c7 (N:Nat):uH:=⟨fun vs H k=>match vs,H with
 | [.c (.int .i64 x6),.mref 0,.c (.int .i64 x7),.c (.int .i64 x8),.c (.int .i64 x9)],[.mp .i64 3 x10 (.ints .i64 x11)]=>Q106.l7 N N x6 x7 x8 x9 x10 x11 (fun x13 x14 x15 x16=>k (.exit 2) ⟨xC Q106.h7.out [.c (.int .i64 x13),.mref 0,.c (.int .i64 x14)],[.mp .i64 3 x15 (.ints .i64 x16)]⟩)
 |_,_=>none⟩
noncomputable def Q106.c3 (N:Nat):uH:=⟨fun vs H k=>match vs,H with
 | [.c (.int .i64 x2),.mref 0,.c (.int .i64 x3)],[.mp .i64 3 x4 (.ints .i64 x5)]=>Q106.l3 N N x2 x3 x4 x5 (fun x21 x22=>k (.exit 0) ⟨xC Q106.h3.out [.mref 0],[.mp .i64 3 x21 (.ints .i64 x22)]⟩)
 |_,_=>none⟩
noncomputable def Q106.E (N:Nat):bD:=xE [(2,fR),(33,aI),(85,E4)] [(62,Q51.ent N)] [(3,Q106.h3),(7,Q106.h7)] [(7,Q106.c7 N),(3,Q106.c3 N)] N [.tmp 2] [.any] 0 74 true
noncomputable def Q106.b7:Code:=sA ((eA (bo Tryz.f57)).getD 1 .skip)
theorem Q106.l7_eq {R:Type}(N n:Nat)(x6 x7:Int)(x8 x9:Int)(x10:List (List Int))(x11:List Int)(k:Ex→St→Option R):
  gB 0 Q106.h7 (fun s k=>bB (Q106.E N) 387 Q106.b7 s k) n [.c (.int .i64 x6),.mref 0,.c (.int .i64 x7),.c (.int .i64 x8),.c (.int .i64 x9)] [.mp .i64 3 x10 (.ints .i64 x11)] k=Q106.l7 N n x6 x7 x8 x9 x10 x11 (fun x13 x14 x15 x16=>k (.exit 2) ⟨xC Q106.h7.out [.c (.int .i64 x13),.mref 0,.c (.int .i64 x14)],[.mp .i64 3 x15 (.ints .i64 x16)]⟩):=by
 induction n generalizing x6 x7 x8 x9 x10 x11 with
 |zero=>kernel_rfl
 |succ n ih=>
  simp only[Q106.l7,←ih]
  kernel_rfl
noncomputable def Q106.b3:Code:=sA ((eA (bo Tryz.f57)).getD 0 .skip)
theorem Q106.l3_eq {R:Type}(N n:Nat)(x2 x3:Int)(x4:List (List Int))(x5:List Int)(k:Ex→St→Option R):
  gB 0 Q106.h3 (fun s k=>bB (Q106.E N) 394 Q106.b3 s k) n [.c (.int .i64 x2),.mref 0,.c (.int .i64 x3)] [.mp .i64 3 x4 (.ints .i64 x5)] k=Q106.l3 N n x2 x3 x4 x5 (fun x21 x22=>k (.exit 0) ⟨xC Q106.h3.out [.mref 0],[.mp .i64 3 x21 (.ints .i64 x22)]⟩):=by
 induction n generalizing x2 x3 x4 x5 with
 |zero=>kernel_rfl
 |succ n ih=>
  simp only[Q106.l3,←ih]
  kernel_rfl
noncomputable def Q106.dec (v:V)(bs:List rA):Option (List (List Int)×List Int):=match v,bs with
 | .mref 0,[.mp .i64 3 z0 (.ints .i64 z1)]=>some (z0,z1)
 |_,_=>none
theorem Q106.f_eq (N:Nat)(a1:Int):
  cB (Q106.E N) (bo Tryz.f57) [.c (.int .i64 a1)] [] Q106.dec=Q106.f N a1:=by kernel_rfl
noncomputable def Q106.ent (N:Nat):xA:=tF (List (List Int)×List Int) 1 [true] [.any] fun
 | [.c (.int .i64 a1)]=>some (Q106.f N a1,fun r=>.one (.mref 0) [.mp .i64 3 r.1 (.ints .i64 r.2)])
 |_=>none
theorem Q106.env (N:Nat):aB Tryz.prog (Q106.E N):=⟨(.cons gD (.cons rC (.cons gi .nil))),(.cons (Q51.ent_ok N) .nil)⟩
theorem Q106.k7 (N:Nat):uB Tryz.prog Tryz.f57 (Q106.E N) (.loop Q106.b7):=zC (Q106.env N) bA 387 (c:=Q106.c7 N) cA.n fun R vs H k r h=>by unfold Q106.c7 at h;dsimp only at h;split at h;exact⟨_,Q106.l7_eq .. ▸h⟩;cases h
theorem Q106.k3 (N:Nat):uB Tryz.prog Tryz.f57 (Q106.E N) (.loop Q106.b3):=zC (Q106.env N) bA 394 (c:=Q106.c3 N) (cA.of (l:=[(.loop (sA ((eA (bo Tryz.f57)).getD 1 .skip)))]) (by kernel_rfl) (cA.cons (Q106.k7 N) cA.nil)) fun R vs H k r h=>by unfold Q106.c3 at h;dsimp only at h;split at h;exact⟨_,Q106.l3_eq .. ▸h⟩;cases h
theorem Q106.spec (N:Nat)(a1:Int)(r:List (List Int)×List Int)(h:Q106.f N a1=some r):fA Tryz.prog 57 [.c (.int .i64 a1)] [] (.mref 0) ([.mp .i64 3 r.1 (.ints .i64 r.2)]):=vA (Q106.env N) bA Tryz.func57 (cA.of (l:=[(.loop (sA ((eA (bo Tryz.f57)).getD 0 .skip))),(.loop (sA ((eA (bo Tryz.f57)).getD 1 .skip)))]) (by kernel_rfl) (cA.cons (Q106.k3 N) (cA.cons (Q106.k7 N) cA.nil))) ((Q106.f_eq ..).trans h) fun v b e=>by unfold Q106.dec at e;split at e<;>cases e;exact⟨rfl,rfl⟩
theorem Q106.ent_ok (N:Nat):uA Tryz.prog 57 (Q106.ent N):=yA fun v a e h=>by split at h;exact mC (Q:=fun e=>fA _ _ _ _ (e a).pick.1 (e a).pick.2) h fun k=>Q106.spec N _ a k;cases h
noncomputable def Q107.f (N:Nat)(a1:Int):Option (Int):=
 bif decide (a1>(-3))then
  some 80
 else
 bif decide (a1<(-65536))then
  some 80
 else
 bif (Int.tmod (aA (0-a1)) 4) != 0 then
  bif (Int.tmod (aA (0-a1)) 4) != 3 then
   some 80
  else
  some 0
 else
 some 0
noncomputable def Q108.l1 {R:Type}(N:Nat):Nat→Int→Int→(Int→Option R)→Option R
 |0,_,_,_=>none
 |n+1,x3,x4,k0=>
  bif decide (x4>0)then
   bif !(x4==0)then
    Q108.l1 N n x4 (Int.tmod x3 x4) k0
   else none
  else
  k0 x3
noncomputable def Q108.f (N:Nat)(a1 a2:Int):Option (Int):=
 Q108.l1 N N a1 a2
  (fun y6=>
   some y6)
noncomputable def Q109.f (N:Nat)(a1 a2 a3:Int):Option (Int):=
 bif decide (a2<0)then
  (Q108.f N a1 (aA (0-a2))).bind fun r4=>
  (Q108.f N r4 a3).bind fun r5=>
  some r5
 else
 (Q108.f N a1 a2).bind fun r6=>
 (Q108.f N r6 a3).bind fun r7=>
 some r7
noncomputable def Q110.l6 {R:Type}(N:Nat):Nat→Int→Int→Int→List Int→(Int→Int→List Int→Option R)→Option R
 |0,_,_,_,_,_=>none
 |n+1,x5,x6,x7,x8,k2=>
  bif decide (x7≤x6)then
   bif !((aA (4*x6))==0)then
    bif (Int.tmod (aA ((aA (x7*x7))-x5)) (aA (4*x6))) != 0 then
     Q110.l6 N n x5 x6 (aA (x7+1)) x8 k2
    else
    bif !((aA (4*x6))==0)then
     bif decide ((aA (Int.tdiv (aA ((aA (x7*x7))-x5)) (aA (4*x6))))>x6)then
      bif jB ((x8.length+3)/3) 24 then
       Q110.l6 N n x5 x6 (aA (x7+1)) (x8++[x6,x7,aA (Int.tdiv (aA ((aA (x7*x7))-x5)) (aA (4*x6)))]) k2
      else none
     else
     bif (aA (Int.tdiv (aA ((aA (x7*x7))-x5)) (aA (4*x6))))==x6 then
      bif decide (x7≥0)then
       bif jB ((x8.length+3)/3) 24 then
        Q110.l6 N n x5 x6 (aA (x7+1)) (x8++[x6,x7,aA (Int.tdiv (aA ((aA (x7*x7))-x5)) (aA (4*x6)))]) k2
       else none
      else
      Q110.l6 N n x5 x6 (aA (x7+1)) x8 k2
     else
     Q110.l6 N n x5 x6 (aA (x7+1)) x8 k2
    else none
   else none
  else
  k2 x5 x6 x8
noncomputable def Q110.l3 {R:Type}(N:Nat):Nat→Int→Int→List Int→(List Int→Option R)→Option R
 |0,_,_,_,_=>none
 |n+1,x2,x3,x4,k0=>
  bif decide ((aA ((aA (3*x3))*x3))≤(aA (0-x2)))then
   Q110.l6 N N x2 x3 (aA (1-x3)) x4
    (fun y12 y13 y14=>
     Q110.l3 N n y12 (aA (y13+1)) y14 k0)
  else
  k0 x4
noncomputable def Q110.f (N:Nat)(a1:Int):Option (List Int):=
 Q110.l3 N N a1 1 []
  (fun y16=>
   some y16)
noncomputable def Q111.l4 {R:Type}(N:Nat):Nat→List Int→Int→List Int→(List Int→Option R)→Option R
 |0,_,_,_,_=>none
 |n+1,x3,x4,x5,k0=>
  bif decide (x4<(x3.length/3:Int))then
   bif (decide (0≤x4))&&(decide (x4<(x3.length/3:Int)))then
    (Q109.f N (x3.getD (x4.toNat*3) 0) (x3.getD ((x4.toNat*3)+1) 0) (x3.getD ((x4.toNat*3)+2) 0)).bind fun r6=>
    bif r6==1 then
     bif (decide (0≤x4))&&(decide (x4<(x3.length/3:Int)))then
      bif jB ((x5.length+3)/3) 24 then
       Q111.l4 N n x3 (aA (x4+1)) (x5++[x3.getD (x4.toNat*3) 0,x3.getD ((x4.toNat*3)+1) 0,x3.getD ((x4.toNat*3)+2) 0]) k0
      else none
     else none
    else
    Q111.l4 N n x3 (aA (x4+1)) x5 k0
   else none
  else
  k0 x5
noncomputable def Q111.f (N:Nat)(a1:Int):Option (List Int):=
 (Q110.f N a1).bind fun r2=>
 Q111.l4 N N r2 0 []
  (fun y8=>
   some y8)
end Go.Proofs.YtjpdjdhdchjcgaaGreat
namespace Go.Proofs.YtjpdjdhdchjcgaaGreat.Ev
open Go.Shelf Go.RowKit Go.Lib Go.Sort
abbrev R3:=Int×Int×Int
def cW (x y:R3):Bool:=decide (x.1<y.1)||(x.1==y.1&&(decide (x.2.1<y.2.1)||(x.2.1==y.2.1&&decide (x.2.2≤y.2.2))))
def lT (x y:R3):Int:=
 if x.1<y.1 then-1 else if y.1<x.1 then 1 else
 if x.2.1<y.2.1 then-1 else if y.2.1<x.2.1 then 1 else
 if x.2.2<y.2.2 then-1 else if y.2.2<x.2.2 then 1 else 0
def ox (x:R3):List R3→List R3
 | []=>[x]
 |y::r=>bif cW x y then x::y::r else y::ox x r
def gP:List R3→List R3
 | []=>[]
 |x::r=>ox x (gP r)
def fF:List Int→List R3
 |a::b::c::r=>(a,b,c)::fF r
 |_=>[]
def dB:List R3→List Int
 | []=>[]
 |x::r=>x.1::x.2.1::x.2.2::dB r
def bg (l:List Int):List Int:=dB (gP (fF l))
theorem gJ (x y:R3):cW x y=true↔(x.1<y.1∨x.1=y.1∧(x.2.1<y.2.1∨x.2.1=y.2.1∧x.2.2≤y.2.2)):=by
 simp[cW]
theorem s9 (x y:R3):cW x y=true∨cW y x=true:=by
 rw[gJ,gJ];omega
theorem u9 {x y z:R3}(h:cW x y=true)(k:cW y z=true):cW x z=true:=by
 rw[gJ]at*;omega
theorem jt {x y:R3}(h:cW x y=true)(k:cW y x=true):x=y:=by
 rw[gJ]at*;exact Prod.ext (by omega) (Prod.ext (by omega) (by omega))
theorem nR (x y:R3):ltOf lT x y= !(cW y x):=by
 unfold ltOf lT;rw[Bool.eq_iff_iff];simp only[decide_eq_true_eq,Bool.not_eq_true',←Bool.not_eq_true,gJ]
 repeat' split
 all_goals omega
theorem rT (x:R3):∀l,(ox x l).Perm (x::l)
 | []=>.refl _
 |y::r=>by
  unfold ox;cases cW x y
  ·exact((rT x r).cons y).trans (.swap _ _ _)
  ·exact .refl _
theorem jU:∀l,(gP l).Perm l
 | []=>.refl _
 |x::r=>(rT x _).trans ((jU r).cons x)
theorem sU (x:R3):∀l,l.Pairwise (fun a b=>cW a b=true)→(ox x l).Pairwise (fun a b=>cW a b=true)
 | [],_=>by simp[ox]
 |y::r,h=>by
  obtain⟨h1,h2⟩:=hB.mp h;unfold ox;cases hxy:cW x y
  ·refine hB.mpr ⟨fun z hz=>?_,sU x r h2⟩;rcases List.mem_cons.mp ((rT x r).mem_iff.mp hz)with rfl|hz
   ·exact(s9 z y).resolve_left (by rw[hxy];simp)
   ·exact h1 z hz
  ·refine hB.mpr ⟨fun z hz=>?_,h⟩;rcases List.mem_cons.mp hz with rfl|hz
   ·exact hxy
   ·exact u9 hxy (h1 z hz)
theorem iV:∀l,(gP l).Pairwise (fun a b=>cW a b=true)
 | []=>.nil
 |x::r=>sU x _ (iV r)
theorem dL {l m:List R3}(h:l.Perm m)(hs:l.Pairwise (fun a b=>cW a b=true)):l=gP m:=
 List.Perm.eq_of_pairwise (le:=fun a b=>cW a b=true) (fun a b _ _ h1 h2=>jt h1 h2) hs (iV m) (h.trans (jU m).symm)
theorem xq (d:List R3):(d.mergeSort fun x y=>!(ltOf lT) y x)=gP d:=by
 have e:(fun x y=>!(ltOf lT) y x)=cW:=by funext x y;rw[nR];simp
 rw[e];exact dL (List.mergeSort_perm d cW) (List.pairwise_mergeSort (le:=cW) (fun a b c h k=>u9 h k) (fun a b=>by simpa using s9 a b) d)
theorem Hi:SWO (ltOf lT) where
 irrefl x:=by rw[nR,zA,gJ];omega
 trans x y z h1 h2:=by rw[nR,Bool.not_eq_true',←Bool.not_eq_true,gJ]at*;omega
 ntrans x y z h1 h2:=by rw[nR,zA,gJ]at*;omega
theorem Hj (x y:R3)(h:(ltOf lT) x y=false)(k:(ltOf lT) y x=false):x=y:=by
 rw[nR,zA]at*;exact jt k h
theorem aY:∀l:List Int,l.length%3=0→dB (fF l)=l
 | [],_=>rfl
 | [_],h=>by simp at h
 | [_,_],h=>by simp at h
 |a::b::c::r,h=>by
  have h':r.length%3=0:=by simp only[iB]at h;omega
  simp only[fF,dB];rw[aY r h']
theorem uN:∀l:List R3,fF (dB l)=l
 | []=>rfl
 |x::r=>by simp only[fF,dB,uN r]
theorem iF:∀l:List R3,(dB l).length=l.length*3
 | []=>rfl
 |x::r=>by simp only[dB,iB,iF r];omega
theorem gV (l:List R3):(gP l).length=l.length:=(jU l).length_eq
theorem tN:∀l:List Int,(fF l).length=l.length/3
 | []=>rfl
 | [_]=>by simp[fF]
 | [_,_]=>by simp[fF]
 |a::b::c::r=>by simp only[fF,iB,tN r];omega
theorem tS {l:List Int}(h:l.length%3=0):(bg l).length=l.length:=by
 unfold bg;rw[iF,gV,tN];omega
theorem eJ:∀a b:List R3,dB (a++b)=dB a++dB b
 | [],_=>rfl
 |x::r,b=>by simp only[List.cons_append,dB,eJ r b]
def cM (x:R3):List Value:=[.int .i64 x.1,.int .i64 x.2.1,.int .i64 x.2.2]
theorem eM:∀(d:List R3) (t:Nat),t<d.length*3→(dB d)[t]?=match t%3 with|0=>d[t/3]?.map (·.1)|1=>d[t/3]?.map (·.2.1)|_=>d[t/3]?.map (·.2.2)
 | [],t,h=>by simp at h
 |x::r,0,_=>rfl
 |x::r,1,_=>rfl
 |x::r,2,_=>rfl
 |x::r,t+3,h=>by
  have h3:(t+3)%3=t%3:=by omega
  have h4:(t+3)/3=t/3+1:=by omega
  have ih:=eM r t (by simp at h;omega);simp only[dB,zB];rw[ih,h3,h4];simp only[zB]
theorem Af (d:List R3)(t:Nat)(h:t<d.length*3):(flatK cM 3 d.toArray)[t]! = .int .i64 ((dB d).getD t 0):=by
 rw[get_flatK _ _ _ _ (by simpa using h),List.getD_eq_getElem?_getD,eM d t h];have hlt:t/3<d.length:=by omega
 have hm:t%3=0∨t%3=1∨t%3=2:=by omega
 simp only[List.getElem?_eq_getElem hlt,Option.map_some];have hd:d.toArray[t/3]! =d[t/3]:=by rw[getElem!_pos d.toArray (t/3) (by simpa using hlt)];simp
 rw[hd];rcases hm with h0|h0|h0<;>rw[h0]<;>simp[cM]
section
variable {P:Program}{F:Nat→Prop}{ρ:pD}{h:Nat→rA}{w:World}
theorem mA.grow (hh:mA F ρ h w)(os:Array Obj):mA F ρ h (Go.Sort.grow w os)∧vH (jA ρ h) w (jA ρ h) (Go.Sort.grow w os):=by
 have hext:vH (jA ρ h) w (jA ρ h) (Go.Sort.grow w os):=by refine⟨by simp[Go.Sort.grow],fun b hb _=>?_,fun b hb=>.inl hb,⟨rfl,rfl,rfl,Nat.le_refl _⟩⟩;simp only[Go.Sort.grow];rw[hA hb]
 refine⟨⟨hh.wf,fun id hl=>?_,hh.inj,hh.low' hext,hh.out⟩,hext⟩;obtain⟨p,hp,hb⟩:=hh.rel id hl;refine⟨p,hp,oB.mono (mO.refl _) hext hb ?_⟩;intro b hb';obtain⟨pb,pn,pC⟩:=p;dsimp only at hb';subst hb';have hlt:=jA.lt hh ⟨id,pn,pC,hp,hl⟩;simp only[Go.Sort.grow];rw[hA hlt]
theorem nt {g:Nat}(hs:∀x y:R3,fA P g [.agg [.c (.int .i64 x.1),.c (.int .i64 x.2.1),.c (.int .i64 x.2.2)],.agg [.c (.int .i64 y.1),.c (.int .i64 y.2.1),.c (.int .i64 y.2.2)]] [] (.c (.int .i64 (lT x y))) [])(blk off size:Nat)(w:World):
  CmpLays P g #[] cM 3 lT blk off size w:=by
 intro m os dk hsz x y;generalize sortWorldK cM 3 w blk off m dk os=W;have h0:mA (fun _=>False) (fun _=>none) (nA []) W:=⟨fun _ _ hx=>(by cases hx),fun id hl=>(by simp[nA,rA.live]at hl),fun i j b n C n' C' hi=>(by simp[nA,rA.live]at hi),fun _ hb=>hb.elim,fun _ _ hb=>hb.elim⟩
 have hc:=(hs x y).calls (fun _=>False) (fun _=>none) W [.agg (cM x).toArray,.agg (cM y).toArray] h0 (fun _ _=>rfl) (by simp only[lA,and_true];refine⟨?_,?_⟩<;>(simp only[pA];refine⟨_,rfl,?_⟩;simp[cM,lA,pA]));refine Calls.mono (by simpa using hc) ?_;rintro e w' ⟨v',rfl,ρ',_,_,hH,hv,hext⟩;have:=hv.c;subst this;refine⟨rfl,w'.drawn-W.drawn,w'.heap.extract W.heap.size w'.heap.size,?_⟩;have hk:=hext.keeps;have hheap:w'.heap=W.heap++w'.heap.extract W.heap.size w'.heap.size:=by
  apply Array.ext_getElem?;intro i;by_cases hi:i<W.heap.size
  ·rw[hA hi];exact hext.same i hi (fun⟨id,n,C,h1,_⟩=>by cases h1)
  ·rw[Array.getElem?_append_right (by omega)];have hsz:=hext.size;simp only[Array.getElem?_extract];by_cases h2:i<w'.heap.size
   ·rw[if_pos (by omega)];congr 1;omega
   ·rw[if_neg (by omega),Array.getElem?_eq_none (by omega)]
 have hd:=hk.drawn;obtain⟨hp',t',d',o',u'⟩:=w';obtain⟨hp,t,d0,o,u⟩:=W;obtain⟨k1,k2,k3,k4⟩:=hk;simp only at k1 k2 k3 k4 hheap hd⊢;subst k1 k2 k3;simp only[Go.Sort.grow,World.drewN,World.mk.injEq,true_and,and_true];exact⟨hheap,by omega⟩
theorem fk (d:List R3)(c:Array Value)(i:Nat):(putCells id 0 (flatK cM 3 d.toArray) c)[i]?=if i<d.length*3 then c[i]?.map (fun _=>.int .i64 ((dB d).getD i 0))else c[i]?:=by
 simp only[putCells,Array.getElem?_mapIdx,size_flatK,List.size_toArray,Nat.zero_le,true_and,Nat.zero_add,Nat.sub_zero,id_eq];by_cases hi:i<d.length*3
 ·simp only[hi,if_true];rw[Af d i hi]
 ·simp only[hi,if_false];cases c[i]?<;>rfl
theorem xp {R:Ren}(L:SlLaysF0.n6 P R)(aE:∀w,(isAgg (R.t 24)).run P w= .ok true w)(zE:∀w,(Go.sizeOf (R.t 24)).run P w= .ok 3 w)(hcall:lO P (R.f 6)){g:Nat}(eg:∀args w,(callFunc g args).run P w= .ok (.enter g args) w)
  (hs:∀x y:R3,fA P g [.agg [.c (.int .i64 x.1),.c (.int .i64 x.2.1),.c (.int .i64 x.2.2)],.agg [.c (.int .i64 y.1),.c (.int .i64 y.2.1),.c (.int .i64 y.2.2)]] [] (.c (.int .i64 (lT x y))) [])(l:List Int)(hsz:l.length<4611686018427387904):
  fA P (R.f 6) [.sw 0 3,.fn g [] []] [.ints .i64 l] (.c (.tuple #[])) [.ints .i64 (bg l)]:=by
 refine⟨hcall,?_⟩;intro F ρ w args' hH hn hr;obtain⟨v0,v1,rfl⟩:∃a b,args'=[a,b]:=by
  have:=hr.length;simp at this
  match args',this with
  | [a,b],_=>exact⟨a,b,rfl⟩
 simp only[lA,and_true]at hr;obtain⟨hr0,hr1⟩:=hr;have hf:v1= .func (.func g) #[] #[]:=by simp only[pA]at hr1;obtain⟨va,vc,rfl,ha,hc⟩:=hr1;have ha:=ha.length;have hc:=hc.length;simp at ha hc;rw[show va= #[]from iA (by simpa using ha.symm),show vc= #[]from iA (by simpa using hc.symm)]
 subst hf;have hl0:(nA [rA.ints .i64 l] 0).live:=trivial;have hb0:nA [rA.ints .i64 l] 0= .ints .i64 l:=rfl;have hset:∀x,mB (nA [rA.ints .i64 l]) 0 x=nA [x]:=by intro x;funext j;cases j<;>simp[mB,nA]
 obtain⟨_,⟨b,n,C,cap,c,h1,h2,h3,h4,h5,ho,hszc,hold⟩|⟨h1,h2,hk⟩⟩:=oG hH hr0 hl0 trivial
 ·subst h5;rw[hb0]at hold;obtain⟨k1,k2,k3⟩:=hold;have hmod:l.length%3=0:=by rw[k1];exact h2
  obtain⟨e,fr,g1,g2,g3⟩:=ho;have hblt:b<w.heap.size:=(Array.getElem?_eq_some_iff.mp g1).1;have hfl:=aY l hmod;have hdl:(fF l).length*3=n:=by rw[tN,←k1];omega
  have hH3:HoldsK cM 3 w b 0 (fF l).toArray:=by
   intro j hj;rw[size_flatK]at hj;have hj':j<(fF l).length*3:=by simpa using hj
   have hjl:j<l.length:=by omega
   rw[Af _ _ hj',hfl];have hc:=k3 j hjl;refine⟨by simp[World.cell?,g1,hc],?_⟩;simp only[World.frozen?,g1,Nat.zero_add];have:=g3 j (by omega);simp only[Bool.and_eq_false_iff,decide_eq_false_iff_not];omega
  have hsize:(fF l).toArray.size=n/3:=by simp;omega
  have hcon:=AnyQ.slices_SortFunc_total L 3 aE zE cM (fun _=>rfl) (fun x v hv=>by simp[cM]at hv;rcases hv with rfl|rfl|rfl<;>rfl) lT Hi g #[] b 0 cap (fF l).toArray w eg (nt hs b 0 _ w) hH3 hblt (by simp only[hsize];omega) Hj;rw[hsize]at hcon;refine Calls.mono hcon ?_;rintro e' w' ⟨rfl,m,os,rfl⟩;rw[List.toList_toArray,xq];refine⟨_,rfl,ρ,fun _ _=>rfl,hn,?_⟩;have hlen3:(gP (fF l)).length*3=n:=by rw[gV,hdl]
  have hheap:(putRowK cM 3 (Sort.ahead w m) b 0 (gP (fF l)).toArray).heap=w.heap.modify b (onCells (putCells id 0 (flatK cM 3 (gP (fF l)).toArray))):=rfl;have hown:ik (putRowK cM 3 (Sort.ahead w m) b 0 (gP (fF l)).toArray) b (putCells id 0 (flatK cM 3 (gP (fF l)).toArray) c).size (putCells id 0 (flatK cM 3 (gP (fF l)).toArray) c):=by refine⟨e,fr,?_,rfl,fun i hi=>g3 i (by simp[putCells]at hi;omega)⟩;rw[hheap,hC,if_pos rfl,g1];rfl
  have hcs:(putCells id 0 (flatK cM 3 (gP (fF l)).toArray) c).size=c.size:=by simp[putCells]
  have hp:ρ 0=some ⟨some b,n,(putCells id 0 (flatK cM 3 (gP (fF l)).toArray) c).size⟩:=by rw[hcs,hszc];exact h1
  have hholds:iD ρ (av F (jA ρ (nA [rA.ints .i64 l]))) w n (putCells id 0 (flatK cM 3 (gP (fF l)).toArray) c) (.ints .i64 (bg l)):=by
   refine⟨by rw[tS hmod,k1],by rw[hcs];exact k2,fun i hi=>?_⟩;rw[tS hmod]at hi;rw[fk,if_pos (by omega)];have:i<c.size:=by omega
   rw[Array.getElem?_eq_getElem this,Option.map_some];rfl
  obtain⟨q1,q2⟩:=mA.write (w':=putRowK cM 3 (Sort.ahead w m) b 0 (gP (fF l)).toArray) hH hl0 hp ⟨by rw[hheap];simp,⟨rfl,rfl,rfl,Nat.le_add_right _ _⟩⟩ (fun b' hb'=>by rw[hheap,hC,if_neg (Ne.symm hb')]) hown hholds;rw[hset]at q1 q2;obtain⟨q3,q4⟩:=q1.grow os;exact⟨q3,pA.of_c _,q2.trans q4⟩
 ·subst h2;rw[hb0]at hk;have hl:l=[]:=by rcases hk with⟨k2,hk2⟩|hk2<;>cases hk2;rfl
  subst hl;have hcon:=AnyF.slices_SortFunc_none L none 0 (.func (.func g) #[] #[]) w;refine Calls.mono hcon ?_;rintro e' w' ⟨rfl,rfl⟩;exact⟨_,rfl,ρ,fun _ _=>rfl,hn,hH,pA.of_c _,vH.refl _ _⟩
end
end Go.Proofs.YtjpdjdhdchjcgaaGreat.Ev
namespace Go.Proofs.YtjpdjdhdchjcgaaGreat
open Go.Proofs.YtjpdjdhdchjcgaaGreat.Ev Go.Shelf
open Go
set_option maxRecDepth 100000
def xm:Go.Shelf.Ren:=⟨fun|6=>58|15=>81|14=>80|28=>115|29=>116|20=>107|21=>108|22=>109|23=>110|24=>111|25=>112|26=>113|27=>114|46=>140|47=>141|48=>142|49=>143|50=>144|57=>156|n=>n,fun|22=>23|24=>33|25=>90|3=>3|39=>79|0=>0|53=>143|55=>78|4=>4|46=>136|45=>135|50=>140|5=>5|9=>9|66=>163|70=>167|76=>179|77=>180|n=>n,fun|n=>n⟩
theorem Gq:Go.Proofs.SlLaysF0.n6 Tryz.prog xm:={
 mixed:=by kernel_rfl
 f6:=⟨Tryz.f58.name,by decide,Tryz.func58.trans (congrArg some (by kernel_rfl))⟩
 f14:=⟨Tryz.f80.name,by decide,Tryz.func80.trans (congrArg some (by kernel_rfl))⟩
 f15:=Tryz.func81.trans (congrArg some (by kernel_rfl))
 f20:=⟨Tryz.f107.name,by decide,Tryz.func107.trans (congrArg some (by kernel_rfl))⟩
 f21:=⟨Tryz.f108.name,by decide,Tryz.func108.trans (congrArg some (by kernel_rfl))⟩
 f22:=⟨Tryz.f109.name,by decide,Tryz.func109.trans (congrArg some (by kernel_rfl))⟩
 f23:=⟨Tryz.f110.name,by decide,Tryz.func110.trans (congrArg some (by kernel_rfl))⟩
 f24:=⟨Tryz.f111.name,by decide,Tryz.func111.trans (congrArg some (by kernel_rfl))⟩
 f25:=⟨Tryz.f112.name,by decide,Tryz.func112.trans (congrArg some (by kernel_rfl))⟩
 f26:=⟨Tryz.f113.name,by decide,Tryz.func113.trans (congrArg some (by kernel_rfl))⟩
 f27:=⟨Tryz.f114.name,by decide,Tryz.func114.trans (congrArg some (by kernel_rfl))⟩
 f28:=Tryz.func115.trans (congrArg some (by kernel_rfl))
 f29:=Tryz.func116.trans (congrArg some (by kernel_rfl))
 f46:=⟨Tryz.f140.name,by decide,Tryz.func140.trans (congrArg some (by kernel_rfl))⟩
 f47:=Tryz.func141.trans (congrArg some (by kernel_rfl))
 f48:=Tryz.func142.trans (congrArg some (by kernel_rfl))
 f49:=⟨Tryz.f143.name,by decide,Tryz.func143.trans (congrArg some (by kernel_rfl))⟩
 f50:=⟨Tryz.f144.name,by decide,Tryz.func144.trans (congrArg some (by kernel_rfl))⟩
 f57:=⟨Tryz.f156.name,by decide,Tryz.func156.trans (congrArg some (by kernel_rfl))⟩
 t0:=Tryz.underlying0
 a0:=Tryz.isAgg0
 z0:=Tryz.sizeOf0
 v0:=Tryz.zeroValue0
 t3:=Tryz.underlying3
 a3:=Tryz.isAgg3
 z3:=Tryz.sizeOf3
 v3:=Tryz.zeroValue3
 t4:=Tryz.underlying4
 a4:=Tryz.isAgg4
 z4:=Tryz.sizeOf4
 v4:=Tryz.zeroValue4
 t5:=Tryz.underlying5
 a5:=Tryz.isAgg5
 z5:=Tryz.sizeOf5
 v5:=Tryz.zeroValue5
 t9:=Tryz.underlying9
 a9:=Tryz.isAgg9
 z9:=Tryz.sizeOf9
 v9:=Tryz.zeroValue9
 t22:=Tryz.underlying23
 a22:=Tryz.isAgg23
 z22:=Tryz.sizeOf23
 v22:=Tryz.zeroValue23
 t25:=Tryz.underlying90
 a25:=Tryz.isAgg90
 z25:=Tryz.sizeOf90
 v25:=Tryz.zeroValue90
 t39:=Tryz.underlying79
 a39:=Tryz.isAgg79
 z39:=Tryz.sizeOf79
 v39:=Tryz.zeroValue79
 t45:=Tryz.underlying135
 a45:=Tryz.isAgg135
 z45:=Tryz.sizeOf135
 v45:=Tryz.zeroValue135
 t46:=Tryz.underlying136
 a46:=Tryz.isAgg136
 z46:=Tryz.sizeOf136
 v46:=Tryz.zeroValue136
 t50:=Tryz.underlying140
 a50:=Tryz.isAgg140
 z50:=Tryz.sizeOf140
 v50:=Tryz.zeroValue140
 t53:=Tryz.underlying143
 a53:=Tryz.isAgg143
 z53:=Tryz.sizeOf143
 v53:=Tryz.zeroValue143
 t55:=Tryz.underlying78
 a55:=Tryz.isAgg78
 z55:=Tryz.sizeOf78
 v55:=Tryz.zeroValue78
 t66:=Tryz.underlying163
 a66:=Tryz.isAgg163
 z66:=Tryz.sizeOf163
 v66:=Tryz.zeroValue163
 t70:=Tryz.underlying167
 a70:=Tryz.isAgg167
 z70:=Tryz.sizeOf167
 v70:=Tryz.zeroValue167
 t76:=Tryz.underlying179
 a76:=Tryz.isAgg179
 z76:=Tryz.sizeOf179
 v76:=Tryz.zeroValue179
 t77:=Tryz.underlying180
 a77:=Tryz.isAgg180
 z77:=Tryz.sizeOf180
 v77:=Tryz.zeroValue180}
theorem Do (a b c:Int):Q103.f 10 [a,b,c]=some (if a≠0 then a else if b≠0 then b else c):=by
 unfold Q103.f;have w1:aA (0+1)=1:=by decide
 have w2:aA (1+1)=2:=by decide
 have w3:aA (2+1)=3:=by decide
 simp only[Q103.l3,w1,w2,w3];have e:∀x:Int,¬x=0→(x != 0)=true:=fun x hx=>by simpa using hx
 by_cases h1:a=0<;>by_cases h2:b=0<;>by_cases h3:c=0<;>simp[h1,h2,h3,e]
theorem xM (N:Nat)(a b:Int):Q102.f N a b=some (if a<b then-1 else if b<a then 1 else 0):=by
 unfold Q102.f Q101.f;by_cases h1:a<b<;>by_cases h2:b<a<;>simp[h1,h2]
theorem zj (x y:R3):Q104.f 10 x.1 x.2.1 x.2.2 y.1 y.2.1 y.2.2=some (lT x y):=by
 unfold Q104.f lT;rw[xM,xM,xM];simp only[Option.bind_some,Do];congr 1
 repeat' split
 all_goals omega
noncomputable def Q112.f (N:Nat)(l:List Int):Option (List Int):=bif Nat.blt l.length 4611686018427387904 then some (bg l)else none
noncomputable def Q112.ent (N:Nat):xA:={A:=List Int,fresh:=0,imm:=[false,false],dec:=fun args bs=>match args,bs with
 | [.sw 0 3,.fn g [] []],[.ints .i64 l]=>bif Nat.beq g 59 then some (Q112.f N l,fun r=>.one (.c (.tuple #[])) [.ints .i64 r])else none
 |_,_=>none}
theorem Q112.ent_ok (N:Nat):uA Tryz.prog 58 (Q112.ent N):=by
 intro args bs a enc h;simp only[Q112.ent]at h;split at h
 ·rename_i g l;obtain⟨hg,h⟩:=kA h;have hg:=rB hg;subst hg;have h0:=Option.some.inj h;have h1:=congrArg Prod.fst h0;have h2:=congrArg Prod.snd h0;dsimp only at h1 h2;subst h2;unfold Q112.f at h1;obtain⟨hl,h1⟩:=kA h1;obtain rfl:=Option.some.inj h1;exact xp Gq Tryz.isAgg33 Tryz.sizeOf33 ⟨_,Tryz.func58,by kernel_rfl,by kernel_rfl⟩ (enters_of Tryz.func59 (by kernel_rfl) rfl) (fun x y=>Q104.spec 10 _ _ _ _ _ _ _ (zj x y)) l (dD hl)
 ·cases h
end Go.Proofs.YtjpdjdhdchjcgaaGreat
