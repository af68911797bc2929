import Derived.Test.YteaakcmkpacpaaaGreatA2
import Derived.Test.YteaakcmkpacpaaaGreatProg
import Derived.KernelRfl
import Derived.Shelf.SlSortCmp.NoneTotal
import Derived.Shelf.SlGeneric
open Array renaming getElem?_append_left→hA,eq_empty_of_size_eq_zero→iA,getElem?_modify→hE
open Bool renaming not_eq_false'→hB
open List renaming pairwise_cons→iB,length_cons→hC,getElem?_cons_succ→hD
set_option linter.unusedVariables false
set_option linter.unusedSimpArgs false
namespace Go.Proofs.YteaakcmkpacpaaaGreat
open Go.Proofs.YteaakcmkpacpaaaGreat.Ev
open Go
set_option maxRecDepth 100000
def eI:ByteArray:=⟨#[0,1,2,2,3,3,3,3,4,4,4,4,4,4,4,4,5,5,5,5,5,5,5,5,5,5,5,5,5,5,5,5,6,6,6,6,6,6,6,6,6,6,6,6,6,6,6,6,6,6,6,6,6,6,6,6,6,6,6,6,6,6,6,6,7,7,7,7,7,7,7,7,7,7,7,7,7,7,7,7,7,7,7,7,7,7,7,7,7,7,7,7,7,7,7,7,7,7,7,7,7,7,7,7,7,7,7,7,7,7,7,7,7,7,7,7,7,7,7,7,7,7,7,7,7,7,7,7,8,8,8,8,8,8,8,8,8,8,8,8,8,8,8,8,8,8,8,8,8,8,8,8,8,8,8,8,8,8,8,8,8,8,8,8,8,8,8,8,8,8,8,8,8,8,8,8,8,8,8,8,8,8,8,8,8,8,8,8,8,8,8,8,8,8,8,8,8,8,8,8,8,8,8,8,8,8,8,8,8,8,8,8,8,8,8,8,8,8,8,8,8,8,8,8,8,8,8,8,8,8,8,8,8,8,8,8,8,8,8,8,8,8,8,8,8,8,8,8,8,8,8,8,8,8,8,8]⟩
noncomputable def Bo:TI:=⟨.int .i64,1,8,[.int .i64 0]⟩
noncomputable def Uo:TI:=⟨.int .u8,1,1,[.int .u8 0]⟩
noncomputable def Uq:TI:=⟨.str,1,16,[.string ByteArray.empty]⟩
noncomputable def mP:TI:=⟨.int .u64,1,8,[.int .u64 0]⟩
noncomputable def pN:TI:=⟨.slice 115,1,24,[.slice none 0 0]⟩
noncomputable def oI:TI:=⟨.struct [(93,0)],1,24,[.slice none 0 0]⟩
noncomputable def eJ:TI:=⟨.int .u32,1,4,[.int .u32 0]⟩
theorem dA:Tryz.prog.follows .mixedOrders=true:=by kernel_rfl
theorem jJ:kC Tryz.prog 3 Bo:=nC (by kernel_rfl) (by kernel_rfl) (by kernel_rfl) (by kernel_rfl) (by kernel_rfl) (by kernel_rfl) (by kernel_rfl) (Tryz.underlying3) (by kernel_rfl)
theorem Mh:kC Tryz.prog 5 Uo:=nC (by kernel_rfl) (by kernel_rfl) (by kernel_rfl) (by kernel_rfl) (by kernel_rfl) (by kernel_rfl) (by kernel_rfl) (Tryz.underlying5) (by kernel_rfl)
theorem Mi:kC Tryz.prog 9 Uq:=nC (by kernel_rfl) (by kernel_rfl) (by kernel_rfl) (by kernel_rfl) (by kernel_rfl) (by kernel_rfl) (by kernel_rfl) (Tryz.underlying9) (by kernel_rfl)
theorem bF:kC Tryz.prog 54 mP:=nC (by kernel_rfl) (by kernel_rfl) (by kernel_rfl) (by kernel_rfl) (by kernel_rfl) (by kernel_rfl) (by kernel_rfl) (Tryz.underlying54) (by kernel_rfl)
theorem sE:kC Tryz.prog 93 pN:=nC (by kernel_rfl) (by kernel_rfl) (by kernel_rfl) (by kernel_rfl) (by kernel_rfl) (by kernel_rfl) (by kernel_rfl) (Tryz.underlying93) (by kernel_rfl)
theorem vC:kC Tryz.prog 95 oI:=nC (by kernel_rfl) (by kernel_rfl) (by kernel_rfl) (by kernel_rfl) (by kernel_rfl) (by kernel_rfl) (by kernel_rfl) (nI Tryz.underlying95 (by kernel_rfl) (by kernel_rfl)) (by kernel_rfl)
theorem kE:kC Tryz.prog 115 eJ:=nC (by kernel_rfl) (by kernel_rfl) (by kernel_rfl) (by kernel_rfl) (by kernel_rfl) (by kernel_rfl) (by kernel_rfl) (Tryz.underlying115) (by kernel_rfl)
noncomputable def Q0.f (N:Nat)(a:Int):Option (Int):=
 bif decide (a≥65536)then
  bif decide ((Int.fdiv a (2^16))≥256)then
   bif (decide (0≤(pM (Int.fdiv (Int.fdiv a (2^16)) (2^8)))))&&(decide ((pM (Int.fdiv (Int.fdiv a (2^16)) (2^8)))<(eI.size:Int)))then
    some (aA (24+(aA (xF eI ((pM (Int.fdiv (Int.fdiv a (2^16)) (2^8))).toNat)))))
   else none
  else
  bif (decide (0≤(pM (Int.fdiv a (2^16)))))&&(decide ((pM (Int.fdiv a (2^16)))<(eI.size:Int)))then
   some (aA (16+(aA (xF eI ((pM (Int.fdiv a (2^16))).toNat)))))
  else none
 else
 bif decide (a≥256)then
  bif (decide (0≤(pM (Int.fdiv a (2^8)))))&&(decide ((pM (Int.fdiv a (2^8)))<(eI.size:Int)))then
   some (aA (8+(aA (xF eI ((pM (Int.fdiv a (2^8))).toNat)))))
  else none
 else
 bif (decide (0≤(pM a)))&&(decide ((pM a)<(eI.size:Int)))then
  some (aA (0+(aA (xF eI ((pM a).toNat)))))
 else none
noncomputable def Q0.E (N:Nat):yC:=dF [(3,Bo),(5,Uo),(9,Uq),(115,eJ)] [] [] [] N [.tmp 2] [.any] 0 19
noncomputable def Q0.dec (v:V)(bs:List qA):Option (Int):=match v,bs with
 | .c (.int .i64 a),[]=>some a
 |_,_=>none
theorem Q0.f_eq (N:Nat)(a:Int):
  eB (Q0.E N) (bo Tryz.f60) [.c (.int .u32 a)] [] Q0.dec=Q0.f N a:=by kernel_rfl
noncomputable def Q0.ent (N:Nat):yA:=pF (Int) 0 [true] [.any] fun
 | [.c (.int .u32 a)]=>some (Q0.f N a,fun r=>.one (.c (.int .i64 r)) [])
 |_=>none
theorem Q0.env (N:Nat):dB Tryz.prog (Q0.E N):=⟨(.cons jJ (.cons Mh (.cons Mi (.cons kE .nil)))),.nil⟩
theorem Q0.spec (N:Nat)(a r:Int)(h:Q0.f N a=some r):lA Tryz.prog 60 [.c (.int .u32 a)] [] (.c (.int .i64 r)) ([]):=vA (Q0.env N) dA Tryz.func60 eA.n ((Q0.f_eq ..).trans h) fun v b e=>by unfold Q0.dec at e;split at e<;>cases e;exact⟨rfl,rfl⟩
theorem Q0.ent_ok (N:Nat):uA Tryz.prog 60 (Q0.ent N):=zA fun v a e h=>by split at h;exact lC (Q:=fun e=>lA _ _ _ _ (e a).pick.1 (e a).pick.2) h fun k=>Q0.spec N _ a k;cases h
noncomputable def Q1.f (N:Nat)(a b c:Int):Option (Int×Int):=
 some (gF ((gF (a-b))-c),Int.fdiv (dE .u32 (mB .u32 (rW .u32 4294967295 a) b) (mB .u32 (rW .u32 4294967295 (rW .u32 a b)) (gF ((gF (a-b))-c)))) (2^31))
noncomputable def Q1.E (N:Nat):yC:=dF [] [] [] [] N [.tmp 6,.tmp 7] [.any,.any] 0 25
noncomputable def Q1.dec (v:V)(bs:List qA):Option (Int×Int):=match v,bs with
 | .tup [.c (.int .u32 a),.c (.int .u32 b)],[]=>some (a,b)
 |_,_=>none
theorem Q1.f_eq (N:Nat)(a b c:Int):
  eB (Q1.E N) (bo Tryz.f102) [.c (.int .u32 a),.c (.int .u32 b),.c (.int .u32 c)] [] Q1.dec=Q1.f N a b c:=by kernel_rfl
noncomputable def Q1.ent (N:Nat):yA:=pF (Int×Int) 0 [true,true,true] [.any,.any,.any] fun
 | [.c (.int .u32 a),.c (.int .u32 b),.c (.int .u32 c)]=>some (Q1.f N a b c,fun r=>.one (.tup [.c (.int .u32 r.1),.c (.int .u32 r.2)]) [])
 |_=>none
theorem Q1.env (N:Nat):dB Tryz.prog (Q1.E N):=⟨.nil,.nil⟩
theorem Q1.spec (N:Nat)(a c d:Int)(r:Int×Int)(h:Q1.f N a c d=some r):lA Tryz.prog 102 [.c (.int .u32 a),.c (.int .u32 c),.c (.int .u32 d)] [] (.tup [.c (.int .u32 r.1),.c (.int .u32 r.2)]) ([]):=vA (Q1.env N) dA Tryz.func102 eA.n ((Q1.f_eq ..).trans h) fun v b e=>by unfold Q1.dec at e;split at e<;>cases e;exact⟨rfl,rfl⟩
theorem Q1.ent_ok (N:Nat):uA Tryz.prog 102 (Q1.ent N):=zA fun v a e h=>by split at h;exact lC (Q:=fun e=>lA _ _ _ _ (e a).pick.1 (e a).pick.2) h fun k=>Q1.spec N _ _ _ a k;cases h
noncomputable def Q2.l2 {R:Type}(N:Nat):Nat→Nat→Nat→Int→List Int→(Nat→Nat→Int→List Int→Option R)→Option R
 |0,_,_,_,_,_=>none
 |n+1,b,c,a,d,e=>
  bif decide (a>0)then
   bif (decide (0≤(aA (a-1))))&&(decide ((aA (a-1))<(c:Int)))then
    bif (d.getD (b+((aA (a-1)).toNat)) 0)==0 then
     Q2.l2 N n b c (aA (a-1)) d e
    else
    e b c a d
   else none
  else
  e b c a d
noncomputable def Q2.f (N f e:Nat)(g:List Int):Option (Nat×Nat×List Int):=
 Q2.l2 N N f e (e:Int) g
  (fun b c a d=>
   bif ((decide (0≤a))&&(decide (a≤a)))&&(decide (a≤(c:Int)))then
    some (b,a.toNat,d)
   else none)
noncomputable def Q2.h2:cE:=⟨[(0,.any),(2,.box [.any]),(3,.any)],[(0,.any),(2,.box [.any]),(3,.any)]⟩
noncomputable def Q2.c2 (N:Nat):tK:=⟨fun vs H k=>match vs,H with
 | [.sl 0 1 c d,.ptr 1 0 1,.c (.int .i64 e)],[.ints .u32 f,.vals [.c (.slice none 0 0)]]=>Q2.l2 N N c d e f (fun g h a b=>k (.exit 0) ⟨iE Q2.h2.out [.sl 0 1 g h,.ptr 1 0 1,.c (.int .i64 a)],[.ints .u32 b,.vals [.c (.slice none 0 0)]]⟩)
 |_,_=>none⟩
noncomputable def Q2.E (N:Nat):yC:=dF [(93,pN),(95,oI),(115,eJ)] [] [(2,Q2.h2)] [(2,Q2.c2 N)] N [.cell 2 95] [.recd [.any]] 1 23
noncomputable def Q2.b2:Code:=bB ((jA (bo Tryz.f84)).getD 0 .skip)
theorem Q2.l2_eq {R:Type}(N n c d:Nat)(e:Int)(f:List Int)(k:Ex→St→Option R):
  vB 1 Q2.h2 (fun s k=>kB (Q2.E N) 395 Q2.b2 s k) n [.sl 0 1 c d,.ptr 1 0 1,.c (.int .i64 e)] [.ints .u32 f,.vals [.c (.slice none 0 0)]] k=Q2.l2 N n c d e f (fun g h a b=>k (.exit 0) ⟨iE Q2.h2.out [.sl 0 1 g h,.ptr 1 0 1,.c (.int .i64 a)],[.ints .u32 b,.vals [.c (.slice none 0 0)]]⟩):=by
 induction n generalizing c d e f with
 |zero=>kernel_rfl
 |succ n ih=>
  simp only[Q2.l2,←ih]
  kernel_rfl
noncomputable def Q2.dec (v:V)(bs:List qA):Option (Nat×Nat×List Int):=match v,bs with
 | .agg [.sl 0 1 a b],[.ints .u32 c]=>some (a,b,c)
 |_,_=>none
theorem Q2.f_eq (N a b:Nat)(c:List Int):
  eB (Q2.E N) (bo Tryz.f84) [.sl 0 1 a b] [.ints .u32 c] Q2.dec=Q2.f N a b c:=by kernel_rfl
noncomputable def Q2.ent (N:Nat):yA:={A:=Nat×Nat×List Int,fresh:=0,imm:=[false],dec:=fun args bs=>match yJ (rA bs) [true] args,bs with
 | [.sl 0 1 a b],[.ints .u32 c]=>some (Q2.f N a b c,fun r=>.one (.agg [.sl 0 1 r.1 r.2.1]) [.ints .u32 r.2.2])
 |_,_=>none}
theorem Q2.env (N:Nat):dB Tryz.prog (Q2.E N):=⟨(.cons sE (.cons vC (.cons kE .nil))),.nil⟩
theorem Q2.k2 (N:Nat):qC Tryz.prog Tryz.f84 (Q2.E N) (.loop Q2.b2):=vD (Q2.env N) dA 395 (c:=Q2.c2 N) eA.n fun R vs H k r h=>by unfold Q2.c2 at h;dsimp only at h;split at h;exact⟨_,Q2.l2_eq .. ▸h⟩;cases h
theorem Q2.spec (N a c:Nat)(d:List Int)(r:Nat×Nat×List Int)(h:Q2.f N a c d=some r):lA Tryz.prog 84 [.sl 0 1 a c] [.ints .u32 d] (.agg [.sl 0 1 r.1 r.2.1]) ([.ints .u32 r.2.2]):=vA (Q2.env N) dA Tryz.func84 (eA.of (l:=[(.loop (bB ((jA (bo Tryz.f84)).getD 0 .skip)))]) (by kernel_rfl) (eA.cons (Q2.k2 N) eA.nil)) ((Q2.f_eq ..).trans h) fun v b e=>by unfold Q2.dec at e;split at e<;>cases e;exact⟨rfl,rfl⟩
theorem Q2.ent_ok (N:Nat):uA Tryz.prog 84 (Q2.ent N):=by
 intro args bs a enc h;simp only[Q2.ent]at h;split at h
 ·rename_i hz;have h0:=Option.some.inj h;have h1:=congrArg Prod.fst h0;have h2:=congrArg Prod.snd h0;dsimp only at h1 h2;subst h2;exact lA.of_asSl (fl:=[true]) (by rw[hz];exact Q2.spec N _ _ _ a h1)
 ·cases h
noncomputable def Q3.f (N:Nat)(a:List Int):Option (Int):=
 bif (a.length:Int)==0 then
  some 0
 else
 bif (decide (0≤(aA ((a.length:Int)-1))))&&(decide ((aA ((a.length:Int)-1))<(a.length:Int)))then
  (Q0.f N (a.getD ((aA ((a.length:Int)-1)).toNat) 0)).bind fun b=>
  some (aA ((aA (32*(aA ((a.length:Int)-1))))+b))
 else none
noncomputable def Q3.E (N:Nat):yC:=dF [(93,pN),(95,oI),(115,eJ)] [(60,Q0.ent N)] [] [] N [.tmp 2] [.any] 0 22
noncomputable def Q3.dec (v:V)(bs:List qA):Option (Int):=match v,bs with
 | .c (.int .i64 a),[]=>some a
 |_,_=>none
theorem Q3.f_eq (N:Nat)(a:List Int):
  eB (Q3.E N) (bo Tryz.f68) [.agg [.il .u32 1 a]] [] Q3.dec=Q3.f N a:=by kernel_rfl
noncomputable def Q3.ent (N:Nat):yA:=pF (Int) 0 [true] [.recd [.il .u32 1]] fun
 | [.agg [.il .u32 1 a]]=>some (Q3.f N a,fun r=>.one (.c (.int .i64 r)) [])
 |_=>none
theorem Q3.env (N:Nat):dB Tryz.prog (Q3.E N):=⟨(.cons sE (.cons vC (.cons kE .nil))),(.cons (Q0.ent_ok N) .nil)⟩
theorem Q3.spec (N:Nat)(a:List Int)(r:Int)(h:Q3.f N a=some r):lA Tryz.prog 68 [.agg [.il .u32 1 a]] [] (.c (.int .i64 r)) ([]):=vA (Q3.env N) dA Tryz.func68 eA.n ((Q3.f_eq ..).trans h) fun v b e=>by unfold Q3.dec at e;split at e<;>cases e;exact⟨rfl,rfl⟩
theorem Q3.ent_ok (N:Nat):uA Tryz.prog 68 (Q3.ent N):=zA fun v a e h=>by split at h;exact lC (Q:=fun e=>lA _ _ _ _ (e a).pick.1 (e a).pick.2) h fun k=>Q3.spec N _ a k;cases h
noncomputable def Q4.f (N:Nat)(a:List Int):Option (List Int×Int):=
 (Q3.f N a).bind fun b=>
 bif decide (b>4096)then
  some ([],3)
 else
 some (a,0)
noncomputable def Q4.E (N:Nat):yC:=dF [(93,pN),(95,oI)] [(68,Q3.ent N)] [] [] N [.cell 2 95,.tmp 3] [.recd [.il .u32 1],.any] 0 9
noncomputable def Q4.dec (v:V)(bs:List qA):Option (List Int×Int):=match v,bs with
 | .tup [.agg [.il .u32 1 a],.c (.int .i64 b)],[]=>some (a,b)
 |_,_=>none
theorem Q4.f_eq (N:Nat)(a:List Int):
  eB (Q4.E N) (bo Tryz.f100) [.agg [.il .u32 1 a]] [] Q4.dec=Q4.f N a:=by kernel_rfl
noncomputable def Q4.ent (N:Nat):yA:=pF (List Int×Int) 0 [true] [.recd [.il .u32 1]] fun
 | [.agg [.il .u32 1 a]]=>some (Q4.f N a,fun r=>.one (.tup [.agg [.il .u32 1 r.1],.c (.int .i64 r.2)]) [])
 |_=>none
theorem Q4.env (N:Nat):dB Tryz.prog (Q4.E N):=⟨(.cons sE (.cons vC .nil)),(.cons (Q3.ent_ok N) .nil)⟩
theorem Q4.spec (N:Nat)(a:List Int)(r:List Int×Int)(h:Q4.f N a=some r):lA Tryz.prog 100 [.agg [.il .u32 1 a]] [] (.tup [.agg [.il .u32 1 r.1],.c (.int .i64 r.2)]) ([]):=vA (Q4.env N) dA Tryz.func100 eA.n ((Q4.f_eq ..).trans h) fun v b e=>by unfold Q4.dec at e;split at e<;>cases e;exact⟨rfl,rfl⟩
theorem Q4.ent_ok (N:Nat):uA Tryz.prog 100 (Q4.ent N):=zA fun v a e h=>by split at h;exact lC (Q:=fun e=>lA _ _ _ _ (e a).pick.1 (e a).pick.2) h fun k=>Q4.spec N _ a k;cases h
noncomputable def Q5.f (N:Nat)(b:Int):Option (List Int):=
 (Q2.f N 0 2 [gF b,gF (Int.fdiv b (2^32))]).bind fun a=>
 some ((a.2.2.drop a.1).take a.2.1)
noncomputable def Q5.E (N:Nat):yC:=dF [(54,mP),(93,pN),(95,oI),(115,eJ)] [(84,Q2.ent N)] [] [] N [.cell 2 95] [.recd [.il .u32 1]] 0 10
noncomputable def Q5.dec (v:V)(bs:List qA):Option (List Int):=match v,bs with
 | .agg [.il .u32 1 a],[]=>some a
 |_,_=>none
theorem Q5.f_eq (N:Nat)(a:Int):
  eB (Q5.E N) (bo Tryz.f67) [.c (.int .u64 a)] [] Q5.dec=Q5.f N a:=by kernel_rfl
noncomputable def Q5.ent (N:Nat):yA:=pF (List Int) 0 [true] [.any] fun
 | [.c (.int .u64 a)]=>some (Q5.f N a,fun r=>.one (.agg [.il .u32 1 r]) [])
 |_=>none
theorem Q5.env (N:Nat):dB Tryz.prog (Q5.E N):=⟨(.cons bF (.cons sE (.cons vC (.cons kE .nil)))),(.cons (Q2.ent_ok N) .nil)⟩
theorem Q5.spec (N:Nat)(a:Int)(r:List Int)(h:Q5.f N a=some r):lA Tryz.prog 67 [.c (.int .u64 a)] [] (.agg [.il .u32 1 r]) ([]):=vA (Q5.env N) dA Tryz.func67 eA.n ((Q5.f_eq ..).trans h) fun v b e=>by unfold Q5.dec at e;split at e<;>cases e;exact⟨rfl,rfl⟩
theorem Q5.ent_ok (N:Nat):uA Tryz.prog 67 (Q5.ent N):=zA fun v a e h=>by split at h;exact lC (Q:=fun e=>lA _ _ _ _ (e a).pick.1 (e a).pick.2) h fun k=>Q5.spec N _ a k;cases h
noncomputable def Q6.f (N:Nat)(a:List Int):Option (Int×Bool):=
 bif (a.length:Int)==0 then
  some (0,true)
 else
 bif (a.length:Int)==1 then
  bif decide (0<(a.length:Int))then
   some (nA (a.getD 0 0),true)
  else none
 else
 bif (a.length:Int)==2 then
  bif decide (1<(a.length:Int))then
   bif decide (0<(a.length:Int))then
    some (dE .u64 (nA ((nA (a.getD 1 0))*2^32)) (nA (a.getD 0 0)),true)
   else none
  else none
 else
 some (0,false)
noncomputable def Q6.E (N:Nat):yC:=dF [(54,mP),(93,pN),(95,oI),(115,eJ)] [] [] [] N [.tmp 2,.tmp 3] [.any,.any] 0 30
noncomputable def Q6.dec (v:V)(bs:List qA):Option (Int×Bool):=match v,bs with
 | .tup [.c (.int .u64 a),.c (.bool b)],[]=>some (a,b)
 |_,_=>none
theorem Q6.f_eq (N:Nat)(a:List Int):
  eB (Q6.E N) (bo Tryz.f69) [.agg [.il .u32 1 a]] [] Q6.dec=Q6.f N a:=by kernel_rfl
noncomputable def Q6.ent (N:Nat):yA:=pF (Int×Bool) 0 [true] [.recd [.il .u32 1]] fun
 | [.agg [.il .u32 1 a]]=>some (Q6.f N a,fun r=>.one (.tup [.c (.int .u64 r.1),.c (.bool r.2)]) [])
 |_=>none
theorem Q6.env (N:Nat):dB Tryz.prog (Q6.E N):=⟨(.cons bF (.cons sE (.cons vC (.cons kE .nil)))),.nil⟩
theorem Q6.spec (N:Nat)(a:List Int)(r:Int×Bool)(h:Q6.f N a=some r):lA Tryz.prog 69 [.agg [.il .u32 1 a]] [] (.tup [.c (.int .u64 r.1),.c (.bool r.2)]) ([]):=vA (Q6.env N) dA Tryz.func69 eA.n ((Q6.f_eq ..).trans h) fun v b e=>by unfold Q6.dec at e;split at e<;>cases e;exact⟨rfl,rfl⟩
theorem Q6.ent_ok (N:Nat):uA Tryz.prog 69 (Q6.ent N):=zA fun v a e h=>by split at h;exact lC (Q:=fun e=>lA _ _ _ _ (e a).pick.1 (e a).pick.2) h fun k=>Q6.spec N _ a k;cases h
noncomputable def Q7.l6 {R:Type}(N:Nat):Nat→Int→List Int→List Int→(Unit→Option R)→(Int→Option R)→Option R
 |0,_,_,_,_,_=>none
 |n+1,a,b,c,d,kr=>
  bif decide (a≥0)then
   bif (decide (0≤a))&&(decide (a<(b.length:Int)))then
    bif (decide (0≤a))&&(decide (a<(c.length:Int)))then
     bif decide ((b.getD a.toNat 0)<(c.getD a.toNat 0))then
      kr (-1)
     else
     bif (decide (0≤a))&&(decide (a<(b.length:Int)))then
      bif (decide (0≤a))&&(decide (a<(c.length:Int)))then
       bif decide ((b.getD a.toNat 0)>(c.getD a.toNat 0))then
        kr 1
       else
       Q7.l6 N n (aA (a-1)) b c d kr
      else none
     else none
    else none
   else none
  else
  d ()
noncomputable def Q7.f (N:Nat)(a b:List Int):Option (Int):=
 bif (a.length:Int) != (b.length:Int)then
  bif decide ((a.length:Int)<(b.length:Int))then
   some (-1)
  else
  some 1
 else
 Q7.l6 N N (aA ((a.length:Int)-1)) a b
  (fun(_:Unit)=>
   some 0)
  (fun c=>
   some c)
noncomputable def Q7.h6:cE:=⟨[(2,.box [.il .u32 1]),(3,.box [.il .u32 1]),(5,.any)],[]⟩
noncomputable def Q7.c6 (N:Nat):tK:=⟨fun vs H k=>match vs,H with
 | [.ptr 0 0 1,.ptr 1 0 1,.c (.int .i64 a)],[.vals [.il .u32 1 b],.vals [.il .u32 1 c]]=>Q7.l6 N N a b c (fun(_:Unit)=>k (.exit 0) ⟨iE Q7.h6.out [],[]⟩) (fun d=>k (.ret (.c (.int .i64 d)) []) .nil)
 |_,_=>none⟩
noncomputable def Q7.E (N:Nat):yC:=dF [(93,pN),(95,oI),(115,eJ)] [] [(6,Q7.h6)] [(6,Q7.c6 N)] N [.tmp 4] [.any] 0 52
noncomputable def Q7.b6:Code:=bB ((jA (bo Tryz.f88)).getD 0 .skip)
theorem Q7.l6_eq {R:Type}(N n:Nat)(a:Int)(b c:List Int)(k:Ex→St→Option R):
  vB 0 Q7.h6 (fun s k=>kB (Q7.E N) 394 Q7.b6 s k) n [.ptr 0 0 1,.ptr 1 0 1,.c (.int .i64 a)] [.vals [.il .u32 1 b],.vals [.il .u32 1 c]] k=Q7.l6 N n a b c (fun(_:Unit)=>k (.exit 0) ⟨iE Q7.h6.out [],[]⟩) (fun d=>k (.ret (.c (.int .i64 d)) []) .nil):=by
 induction n generalizing a b c with
 |zero=>kernel_rfl
 |succ n ih=>
  simp only[Q7.l6,←ih]
  kernel_rfl
noncomputable def Q7.dec (v:V)(bs:List qA):Option (Int):=match v,bs with
 | .c (.int .i64 a),[]=>some a
 |_,_=>none
theorem Q7.f_eq (N:Nat)(a b:List Int):
  eB (Q7.E N) (bo Tryz.f88) [.agg [.il .u32 1 a],.agg [.il .u32 1 b]] [] Q7.dec=Q7.f N a b:=by kernel_rfl
noncomputable def Q7.ent (N:Nat):yA:=pF (Int) 0 [true,true] [.recd [.il .u32 1],.recd [.il .u32 1]] fun
 | [.agg [.il .u32 1 a],.agg [.il .u32 1 b]]=>some (Q7.f N a b,fun r=>.one (.c (.int .i64 r)) [])
 |_=>none
theorem Q7.env (N:Nat):dB Tryz.prog (Q7.E N):=⟨(.cons sE (.cons vC (.cons kE .nil))),.nil⟩
theorem Q7.k6 (N:Nat):qC Tryz.prog Tryz.f88 (Q7.E N) (.loop Q7.b6):=vD (Q7.env N) dA 394 (c:=Q7.c6 N) eA.n fun R vs H k r h=>by unfold Q7.c6 at h;dsimp only at h;split at h;exact⟨_,Q7.l6_eq .. ▸h⟩;cases h
theorem Q7.spec (N:Nat)(a c:List Int)(r:Int)(h:Q7.f N a c=some r):lA Tryz.prog 88 [.agg [.il .u32 1 a],.agg [.il .u32 1 c]] [] (.c (.int .i64 r)) ([]):=vA (Q7.env N) dA Tryz.func88 (eA.of (l:=[(.loop (bB ((jA (bo Tryz.f88)).getD 0 .skip)))]) (by kernel_rfl) (eA.cons (Q7.k6 N) eA.nil)) ((Q7.f_eq ..).trans h) fun v b e=>by unfold Q7.dec at e;split at e<;>cases e;exact⟨rfl,rfl⟩
theorem Q7.ent_ok (N:Nat):uA Tryz.prog 88 (Q7.ent N):=zA fun v a e h=>by split at h;exact lC (Q:=fun e=>lA _ _ _ _ (e a).pick.1 (e a).pick.2) h fun k=>Q7.spec N _ _ a k;cases h
noncomputable def Q8.l7 {R:Type}(N:Nat):Nat→Int→Int→Int→List Int→List Int→(List Int→Option R)→Option R
 |0,_,_,_,_,_,_=>none
 |n+1,d,f,a,c,b,e=>
  bif decide (a<f)then
   bif (decide (0≤a))&&(decide (a<(b.length:Int)))then
    bif decide (a<(c.length:Int))then
     bif (decide (0≤a))&&(decide (a<(c.length:Int)))then
      bif (decide (0≤a))&&(decide (a<(b.length:Int)))then
       Q8.l7 N n (Int.fdiv (nA ((nA (d+(nA (b.getD a.toNat 0))))+(nA (c.getD a.toNat 0)))) (2^32)) f (aA (a+1)) c (b.set a.toNat (gF (nA ((nA (d+(nA (b.getD a.toNat 0))))+(nA (c.getD a.toNat 0)))))) e
      else none
     else none
    else
    bif (decide (0≤a))&&(decide (a<(b.length:Int)))then
     Q8.l7 N n (Int.fdiv (nA (d+(nA (b.getD a.toNat 0)))) (2^32)) f (aA (a+1)) c (b.set a.toNat (gF (nA (d+(nA (b.getD a.toNat 0)))))) e
    else none
   else none
  else
  e b
noncomputable def Q8.f (N:Nat)(a b:List Int):Option (List Int×Int):=
 bif decide ((a.length:Int)<(b.length:Int))then
  bif decide (aA ((b.length:Int)+1)=aA ((b.length:Int)+1))&&decide (0≤aA ((b.length:Int)+1))&&decide (aA ((b.length:Int)+1)≤9223372036854775807)&&cB ((aA ((b.length:Int)+1)).toNat) 4 then
   Q8.l7 N N 0 ((lF (List.replicate ((aA ((b.length:Int)+1)).toNat) (0:Int)) 0 (b.take (min b.length ((List.replicate ((aA ((b.length:Int)+1)).toNat) (0:Int)).length)))).length:Int) 0 a (lF (List.replicate ((aA ((b.length:Int)+1)).toNat) (0:Int)) 0 (b.take (min b.length ((List.replicate ((aA ((b.length:Int)+1)).toNat) (0:Int)).length))))
    (fun h=>
     (Q2.f N 0 h.length h).bind fun c=>
     (Q4.f N ((c.2.2.drop c.1).take c.2.1)).bind fun e=>
     some (e.1,e.2))
  else none
 else
 bif decide (aA ((a.length:Int)+1)=aA ((a.length:Int)+1))&&decide (0≤aA ((a.length:Int)+1))&&decide (aA ((a.length:Int)+1)≤9223372036854775807)&&cB ((aA ((a.length:Int)+1)).toNat) 4 then
  Q8.l7 N N 0 ((lF (List.replicate ((aA ((a.length:Int)+1)).toNat) (0:Int)) 0 (a.take (min a.length ((List.replicate ((aA ((a.length:Int)+1)).toNat) (0:Int)).length)))).length:Int) 0 b (lF (List.replicate ((aA ((a.length:Int)+1)).toNat) (0:Int)) 0 (a.take (min a.length ((List.replicate ((aA ((a.length:Int)+1)).toNat) (0:Int)).length))))
   (fun g=>
    (Q2.f N 0 g.length g).bind fun d=>
    (Q4.f N ((d.2.2.drop d.1).take d.2.1)).bind fun f=>
    some (f.1,f.2))
 else none
noncomputable def Q8.h7:cE:=⟨[(3,.box [.il .u32 1]),(4,.box [.any]),(6,.row .u32 1),(7,.any),(28,.any),(29,.any)],[(4,.box [.any]),(6,.row .u32 1)]⟩
noncomputable def Q8.c7 (N:Nat):tK:=⟨fun vs H k=>match vs,H with
 | [.ptr 0 0 1,.ptr 1 0 1,.sw 2 1,.c (.int .u64 a),.c (.int .i64 b),.c (.int .i64 c)],[.vals [.il .u32 1 d],.vals [.c (.slice none 0 0)],.ints .u32 e]=>Q8.l7 N N a b c d e (fun f=>k (.exit 0) ⟨iE Q8.h7.out [.ptr 0 0 1,.sw 1 1],[.vals [.c (.slice none 0 0)],.ints .u32 f]⟩)
 |_,_=>none⟩
noncomputable def Q8.E (N:Nat):yC:=dF [(54,mP),(93,pN),(95,oI),(115,eJ)] [(84,Q2.ent N),(100,Q4.ent N)] [(7,Q8.h7)] [(7,Q8.c7 N)] N [.cell 4 95,.tmp 5] [.recd [.il .u32 1],.any] 0 65
noncomputable def Q8.b7:Code:=bB ((jA (bo Tryz.f92)).getD 0 .skip)
theorem Q8.l7_eq {R:Type}(N n:Nat)(a b c:Int)(d e:List Int)(k:Ex→St→Option R):
  vB 0 Q8.h7 (fun s k=>kB (Q8.E N) 391 Q8.b7 s k) n [.ptr 0 0 1,.ptr 1 0 1,.sw 2 1,.c (.int .u64 a),.c (.int .i64 b),.c (.int .i64 c)] [.vals [.il .u32 1 d],.vals [.c (.slice none 0 0)],.ints .u32 e] k=Q8.l7 N n a b c d e (fun f=>k (.exit 0) ⟨iE Q8.h7.out [.ptr 0 0 1,.sw 1 1],[.vals [.c (.slice none 0 0)],.ints .u32 f]⟩):=by
 induction n generalizing a b c d e with
 |zero=>kernel_rfl
 |succ n ih=>
  simp only[Q8.l7,←ih]
  kernel_rfl
noncomputable def Q8.dec (v:V)(bs:List qA):Option (List Int×Int):=match v,bs with
 | .tup [.agg [.il .u32 1 a],.c (.int .i64 b)],[]=>some (a,b)
 |_,_=>none
theorem Q8.f_eq (N:Nat)(a b:List Int):
  eB (Q8.E N) (bo Tryz.f92) [.agg [.il .u32 1 a],.agg [.il .u32 1 b]] [] Q8.dec=Q8.f N a b:=by kernel_rfl
noncomputable def Q8.ent (N:Nat):yA:=pF (List Int×Int) 0 [true,true] [.recd [.il .u32 1],.recd [.il .u32 1]] fun
 | [.agg [.il .u32 1 a],.agg [.il .u32 1 b]]=>some (Q8.f N a b,fun r=>.one (.tup [.agg [.il .u32 1 r.1],.c (.int .i64 r.2)]) [])
 |_=>none
theorem Q8.env (N:Nat):dB Tryz.prog (Q8.E N):=⟨(.cons bF (.cons sE (.cons vC (.cons kE .nil)))),(.cons (Q2.ent_ok N) (.cons (Q4.ent_ok N) .nil))⟩
theorem Q8.k7 (N:Nat):qC Tryz.prog Tryz.f92 (Q8.E N) (.loop Q8.b7):=vD (Q8.env N) dA 391 (c:=Q8.c7 N) eA.n fun R vs H k r h=>by unfold Q8.c7 at h;dsimp only at h;split at h;exact⟨_,Q8.l7_eq .. ▸h⟩;cases h
theorem Q8.spec (N:Nat)(a c:List Int)(r:List Int×Int)(h:Q8.f N a c=some r):lA Tryz.prog 92 [.agg [.il .u32 1 a],.agg [.il .u32 1 c]] [] (.tup [.agg [.il .u32 1 r.1],.c (.int .i64 r.2)]) ([]):=vA (Q8.env N) dA Tryz.func92 (eA.of (l:=[(.loop (bB ((jA (bo Tryz.f92)).getD 0 .skip)))]) (by kernel_rfl) (eA.cons (Q8.k7 N) eA.nil)) ((Q8.f_eq ..).trans h) fun v b e=>by unfold Q8.dec at e;split at e<;>cases e;exact⟨rfl,rfl⟩
theorem Q8.ent_ok (N:Nat):uA Tryz.prog 92 (Q8.ent N):=zA fun v a e h=>by split at h;exact lC (Q:=fun e=>lA _ _ _ _ (e a).pick.1 (e a).pick.2) h fun k=>Q8.spec N _ _ a k;cases h
noncomputable def Q9.l2 {R:Type}(N:Nat):Nat→Nat→Nat→List Int→Int→Int→Int→List Int→(List Int→Option R)→Option R
 |0,_,_,_,_,_,_,_,_=>none
 |n+1,c,d,g,i,j,a,b,h=>
  bif decide (a<j)then
   bif decide (a<(g.length:Int))then
    bif (decide (0≤a))&&(decide (a<(g.length:Int)))then
     bif (decide (0≤a))&&(decide (a<(d:Int)))then
      (Q1.f N (b.getD (c+a.toNat) 0) (g.getD a.toNat 0) i).bind fun e=>
      bif (decide (0≤a))&&(decide (a<(d:Int)))then
       Q9.l2 N n c d g e.2 j (aA (a+1)) (b.set (c+a.toNat) e.1) h
      else none
     else none
    else none
   else
   bif i==0 then
    h b
   else
   bif (decide (0≤a))&&(decide (a<(d:Int)))then
    (Q1.f N (b.getD (c+a.toNat) 0) 0 i).bind fun f=>
    bif (decide (0≤a))&&(decide (a<(d:Int)))then
     Q9.l2 N n c d g f.2 j (aA (a+1)) (b.set (c+a.toNat) f.1) h
    else none
   else none
  else
  h b
noncomputable def Q9.f (N c b:Nat)(d e:List Int):Option (List Int):=
 Q9.l2 N N c b d 0 (b:Int) 0 e
  (fun a=>
   some a)
noncomputable def Q9.h2:cE:=⟨[(0,.any),(1,.il .u32 1),(4,.any),(8,.any),(9,.any)],[]⟩
noncomputable def Q9.c2 (N:Nat):tK:=⟨fun vs H k=>match vs,H with
 | [.sl 0 1 d e,.il .u32 1 f,.c (.int .u32 g),.c (.int .i64 h),.c (.int .i64 a)],[.ints .u32 b]=>Q9.l2 N N d e f g h a b (fun c=>k (.exit 0) ⟨iE Q9.h2.out [],[.ints .u32 c]⟩)
 |_,_=>none⟩
noncomputable def Q9.E (N:Nat):yC:=dF [(93,pN),(115,eJ)] [(102,Q1.ent N)] [(2,Q9.h2)] [(2,Q9.c2 N)] N [] [] 1 36
noncomputable def Q9.b2:Code:=bB ((jA (bo Tryz.f101)).getD 1 .skip)
theorem Q9.l2_eq {R:Type}(N n d e:Nat)(f:List Int)(g h a:Int)(b:List Int)(k:Ex→St→Option R):
  vB 1 Q9.h2 (fun s k=>kB (Q9.E N) 394 Q9.b2 s k) n [.sl 0 1 d e,.il .u32 1 f,.c (.int .u32 g),.c (.int .i64 h),.c (.int .i64 a)] [.ints .u32 b] k=Q9.l2 N n d e f g h a b (fun c=>k (.exit 0) ⟨iE Q9.h2.out [],[.ints .u32 c]⟩):=by
 induction n generalizing d e f g h a b with
 |zero=>kernel_rfl
 |succ n ih=>
  simp only[Q9.l2,←ih]
  kernel_rfl
noncomputable def Q9.dec (v:V)(bs:List qA):Option (List Int):=match v,bs with
 | .tup [],[.ints .u32 a]=>some a
 |_,_=>none
theorem Q9.f_eq (N a b:Nat)(c d:List Int):
  eB (Q9.E N) (bo Tryz.f101) [.sl 0 1 a b,.il .u32 1 c] [.ints .u32 d] Q9.dec=Q9.f N a b c d:=by kernel_rfl
noncomputable def Q9.ent (N:Nat):yA:={A:=List Int,fresh:=0,imm:=[false,true],dec:=fun args bs=>match yJ (rA bs) [true,false] args,bs with
 | [.sl 0 1 a b,.il .u32 1 c],[.ints .u32 d]=>some (Q9.f N a b c d,fun r=>.one (.tup []) [.ints .u32 r])
 |_,_=>none}
theorem Q9.env (N:Nat):dB Tryz.prog (Q9.E N):=⟨(.cons sE (.cons kE .nil)),(.cons (Q1.ent_ok N) .nil)⟩
theorem Q9.k2 (N:Nat):qC Tryz.prog Tryz.f101 (Q9.E N) (.loop Q9.b2):=vD (Q9.env N) dA 394 (c:=Q9.c2 N) eA.n fun R vs H k r h=>by unfold Q9.c2 at h;dsimp only at h;split at h;exact⟨_,Q9.l2_eq .. ▸h⟩;cases h
theorem Q9.spec (N a c:Nat)(d f r:List Int)(h:Q9.f N a c d f=some r):lA Tryz.prog 101 [.sl 0 1 a c,.il .u32 1 d] [.ints .u32 f] (.tup []) ([.ints .u32 r]):=vA (Q9.env N) dA Tryz.func101 (eA.of (l:=[(.scope (bB ((jA (bo Tryz.f101)).getD 0 .skip))),(.loop (bB ((jA (bo Tryz.f101)).getD 1 .skip)))]) (by kernel_rfl) (eA.cons (xT (by kernel_rfl)) (eA.cons (Q9.k2 N) eA.nil))) ((Q9.f_eq ..).trans h) fun v b e=>by unfold Q9.dec at e;split at e<;>cases e;exact⟨rfl,rfl⟩
theorem Q9.ent_ok (N:Nat):uA Tryz.prog 101 (Q9.ent N):=by
 intro args bs a enc h;simp only[Q9.ent]at h;split at h
 ·rename_i hz;have h0:=Option.some.inj h;have h1:=congrArg Prod.fst h0;have h2:=congrArg Prod.snd h0;dsimp only at h1 h2;subst h2;exact lA.of_asSl (fl:=[true,false]) (by rw[hz];exact Q9.spec N _ _ _ _ a h1)
 ·cases h
noncomputable def Q10.f (N:Nat)(a c:List Int):Option (List Int×Int):=
 (Q7.f N a c).bind fun e=>
 bif decide (e<0)then
  some ([],10)
 else
 bif decide ((a.length:Int)=(a.length:Int))&&decide (0≤(a.length:Int))&&decide ((a.length:Int)≤9223372036854775807)&&cB ((a.length:Int).toNat) 4 then
  (Q9.f N 0 ((lF (List.replicate ((a.length:Int).toNat) (0:Int)) 0 (a.take (min a.length ((List.replicate ((a.length:Int).toNat) (0:Int)).length)))).length) c (lF (List.replicate ((a.length:Int).toNat) (0:Int)) 0 (a.take (min a.length ((List.replicate ((a.length:Int).toNat) (0:Int)).length))))).bind fun d=>
  (Q2.f N 0 d.length d).bind fun b=>
  some ((b.2.2.drop b.1).take b.2.1,0)
 else none
noncomputable def Q10.E (N:Nat):yC:=dF [(93,pN),(95,oI),(115,eJ)] [(88,Q7.ent N),(101,Q9.ent N),(84,Q2.ent N)] [] [] N [.cell 4 95,.tmp 5] [.recd [.il .u32 1],.any] 0 26
noncomputable def Q10.dec (v:V)(bs:List qA):Option (List Int×Int):=match v,bs with
 | .tup [.agg [.il .u32 1 a],.c (.int .i64 b)],[]=>some (a,b)
 |_,_=>none
theorem Q10.f_eq (N:Nat)(a b:List Int):
  eB (Q10.E N) (bo Tryz.f93) [.agg [.il .u32 1 a],.agg [.il .u32 1 b]] [] Q10.dec=Q10.f N a b:=by kernel_rfl
noncomputable def Q10.ent (N:Nat):yA:=pF (List Int×Int) 0 [true,true] [.recd [.il .u32 1],.recd [.il .u32 1]] fun
 | [.agg [.il .u32 1 a],.agg [.il .u32 1 b]]=>some (Q10.f N a b,fun r=>.one (.tup [.agg [.il .u32 1 r.1],.c (.int .i64 r.2)]) [])
 |_=>none
theorem Q10.env (N:Nat):dB Tryz.prog (Q10.E N):=⟨(.cons sE (.cons vC (.cons kE .nil))),(.cons (Q7.ent_ok N) (.cons (Q9.ent_ok N) (.cons (Q2.ent_ok N) .nil)))⟩
theorem Q10.spec (N:Nat)(a c:List Int)(r:List Int×Int)(h:Q10.f N a c=some r):lA Tryz.prog 93 [.agg [.il .u32 1 a],.agg [.il .u32 1 c]] [] (.tup [.agg [.il .u32 1 r.1],.c (.int .i64 r.2)]) ([]):=vA (Q10.env N) dA Tryz.func93 eA.n ((Q10.f_eq ..).trans h) fun v b e=>by unfold Q10.dec at e;split at e<;>cases e;exact⟨rfl,rfl⟩
theorem Q10.ent_ok (N:Nat):uA Tryz.prog 93 (Q10.ent N):=zA fun v a e h=>by split at h;exact lC (Q:=fun e=>lA _ _ _ _ (e a).pick.1 (e a).pick.2) h fun k=>Q10.spec N _ _ a k;cases h
noncomputable def Q11.l7 {R:Type}(N:Nat):Nat→Int→Int→Int→List Int→Int→Int→List Int→Int→Int→List Int→List Int→(Int→Int→List Int→Int→Int→List Int→List Int→Option R)→Option R
 |0,_,_,_,_,_,_,_,_,_,_,_,_=>none
 |n+1,d,k,e,f,g,h,c,i,a,j,b,l=>
  bif decide (a<i)then
   bif (decide (0≤a))&&(decide (a<(c.length:Int)))then
    bif (decide (0≤(aA (d+a))))&&(decide ((aA (d+a))<(b.length:Int)))then
     bif (decide (0≤(aA (d+a))))&&(decide ((aA (d+a))<(b.length:Int)))then
      Q11.l7 N n d k (Int.fdiv (nA (e+(nA ((nA ((nA k)*(nA (c.getD a.toNat 0))))+(nA (b.getD ((aA (d+a)).toNat) 0)))))) (2^32)) f g h c i (aA (a+1)) j (b.set ((aA (d+a)).toNat) (gF (nA (e+(nA ((nA ((nA k)*(nA (c.getD a.toNat 0))))+(nA (b.getD ((aA (d+a)).toNat) 0)))))))) l
     else none
    else none
   else none
  else
  l d e f g h j b
noncomputable def Q11.l3 {R:Type}(N:Nat):Nat→List Int→Int→Int→List Int→List Int→(List Int→Option R)→Option R
 |0,_,_,_,_,_,_=>none
 |n+1,e,l,c,f,m,k=>
  bif decide (c<l)then
   bif (decide (0≤c))&&(decide (c<(e.length:Int)))then
    Q11.l7 N N c (e.getD c.toNat 0) 0 e l c f (f.length:Int) 0 f m
     (fun b g h i j a d=>
      bif (decide (0≤(aA (b+(a.length:Int)))))&&(decide ((aA (b+(a.length:Int)))<(d.length:Int)))then
       Q11.l3 N n h i (aA (j+1)) a (d.set ((aA (b+(a.length:Int))).toNat) (gF g)) k
      else none)
   else none
  else
  k m
noncomputable def Q11.f (N:Nat)(a b:List Int):Option (List Int):=
 bif decide (aA ((a.length:Int)+(b.length:Int))=aA ((a.length:Int)+(b.length:Int)))&&decide (0≤aA ((a.length:Int)+(b.length:Int)))&&decide (aA ((a.length:Int)+(b.length:Int))≤9223372036854775807)&&cB ((aA ((a.length:Int)+(b.length:Int))).toNat) 4 then
  Q11.l3 N N a (a.length:Int) 0 b (List.replicate ((aA ((a.length:Int)+(b.length:Int))).toNat) (0:Int))
   (fun d=>
    (Q2.f N 0 d.length d).bind fun c=>
    some ((c.2.2.drop c.1).take c.2.1))
 else none
noncomputable def Q11.h3:cE:=⟨[(3,.box [.il .u32 1]),(4,.box [.any]),(5,.row .u32 1),(20,.il .u32 1),(21,.any),(22,.any)],[(4,.box [.any]),(5,.row .u32 1)]⟩
noncomputable def Q11.h7:cE:=⟨[(3,.box [.il .u32 1]),(4,.box [.any]),(5,.row .u32 1),(6,.any),(7,.any),(8,.any),(20,.il .u32 1),(21,.any),(22,.any),(28,.il .u32 1),(29,.any),(30,.any)],[(3,.box [.il .u32 1]),(4,.box [.any]),(5,.row .u32 1),(6,.any),(8,.any),(20,.il .u32 1),(21,.any),(22,.any)]⟩
noncomputable def Q11.c7 (N:Nat):tK:=⟨fun vs H k=>match vs,H with
 | [.ptr 0 0 1,.ptr 1 0 1,.sw 2 1,.c (.int .i64 s),.c (.int .u32 t),.c (.int .u64 a),.il .u32 1 b,.c (.int .i64 c),.c (.int .i64 d),.il .u32 1 e,.c (.int .i64 f),.c (.int .i64 g)],[.vals [.il .u32 1 h],.vals [.c (.slice none 0 0)],.ints .u32 i]=>Q11.l7 N N s t a b c d e f g h i (fun j l m o p q r=>k (.exit 2) ⟨iE Q11.h7.out [.ptr 0 0 1,.ptr 1 0 1,.sw 2 1,.c (.int .i64 j),.c (.int .u64 l),.il .u32 1 m,.c (.int .i64 o),.c (.int .i64 p)],[.vals [.il .u32 1 q],.vals [.c (.slice none 0 0)],.ints .u32 r]⟩)
 |_,_=>none⟩
noncomputable def Q11.c3 (N:Nat):tK:=⟨fun vs H k=>match vs,H with
 | [.ptr 0 0 1,.ptr 1 0 1,.sw 2 1,.il .u32 1 b,.c (.int .i64 c),.c (.int .i64 d)],[.vals [.il .u32 1 e],.vals [.c (.slice none 0 0)],.ints .u32 f]=>Q11.l3 N N b c d e f (fun a=>k (.exit 0) ⟨iE Q11.h3.out [.ptr 0 0 1,.sw 1 1],[.vals [.c (.slice none 0 0)],.ints .u32 a]⟩)
 |_,_=>none⟩
noncomputable def Q11.E (N:Nat):yC:=dF [(54,mP),(93,pN),(95,oI),(115,eJ)] [(84,Q2.ent N)] [(3,Q11.h3),(7,Q11.h7)] [(7,Q11.c7 N),(3,Q11.c3 N)] N [.cell 4 95] [.recd [.il .u32 1]] 0 72
noncomputable def Q11.b7:Code:=bB ((jA (bo Tryz.f99)).getD 1 .skip)
theorem Q11.l7_eq {R:Type}(N n:Nat)(t u a:Int)(b:List Int)(c d:Int)(e:List Int)(f g:Int)(h i:List Int)(k:Ex→St→Option R):
  vB 0 Q11.h7 (fun s k=>kB (Q11.E N) 384 Q11.b7 s k) n [.ptr 0 0 1,.ptr 1 0 1,.sw 2 1,.c (.int .i64 t),.c (.int .u32 u),.c (.int .u64 a),.il .u32 1 b,.c (.int .i64 c),.c (.int .i64 d),.il .u32 1 e,.c (.int .i64 f),.c (.int .i64 g)] [.vals [.il .u32 1 h],.vals [.c (.slice none 0 0)],.ints .u32 i] k=Q11.l7 N n t u a b c d e f g h i (fun j l m o p q r=>k (.exit 2) ⟨iE Q11.h7.out [.ptr 0 0 1,.ptr 1 0 1,.sw 2 1,.c (.int .i64 j),.c (.int .u64 l),.il .u32 1 m,.c (.int .i64 o),.c (.int .i64 p)],[.vals [.il .u32 1 q],.vals [.c (.slice none 0 0)],.ints .u32 r]⟩):=by
 induction n generalizing t u a b c d e f g h i with
 |zero=>kernel_rfl
 |succ n ih=>
  simp only[Q11.l7,←ih]
  kernel_rfl
noncomputable def Q11.b3:Code:=bB ((jA (bo Tryz.f99)).getD 0 .skip)
theorem Q11.l3_eq {R:Type}(N n:Nat)(a:List Int)(c d:Int)(e f:List Int)(k:Ex→St→Option R):
  vB 0 Q11.h3 (fun s k=>kB (Q11.E N) 394 Q11.b3 s k) n [.ptr 0 0 1,.ptr 1 0 1,.sw 2 1,.il .u32 1 a,.c (.int .i64 c),.c (.int .i64 d)] [.vals [.il .u32 1 e],.vals [.c (.slice none 0 0)],.ints .u32 f] k=Q11.l3 N n a c d e f (fun b=>k (.exit 0) ⟨iE Q11.h3.out [.ptr 0 0 1,.sw 1 1],[.vals [.c (.slice none 0 0)],.ints .u32 b]⟩):=by
 induction n generalizing a c d e f with
 |zero=>kernel_rfl
 |succ n ih=>
  simp only[Q11.l3,←ih]
  kernel_rfl
noncomputable def Q11.dec (v:V)(bs:List qA):Option (List Int):=match v,bs with
 | .agg [.il .u32 1 a],[]=>some a
 |_,_=>none
theorem Q11.f_eq (N:Nat)(a b:List Int):
  eB (Q11.E N) (bo Tryz.f99) [.agg [.il .u32 1 a],.agg [.il .u32 1 b]] [] Q11.dec=Q11.f N a b:=by kernel_rfl
noncomputable def Q11.ent (N:Nat):yA:=pF (List Int) 0 [true,true] [.recd [.il .u32 1],.recd [.il .u32 1]] fun
 | [.agg [.il .u32 1 a],.agg [.il .u32 1 b]]=>some (Q11.f N a b,fun r=>.one (.agg [.il .u32 1 r]) [])
 |_=>none
theorem Q11.env (N:Nat):dB Tryz.prog (Q11.E N):=⟨(.cons bF (.cons sE (.cons vC (.cons kE .nil)))),(.cons (Q2.ent_ok N) .nil)⟩
theorem Q11.k7 (N:Nat):qC Tryz.prog Tryz.f99 (Q11.E N) (.loop Q11.b7):=vD (Q11.env N) dA 384 (c:=Q11.c7 N) eA.n fun R vs H k r h=>by unfold Q11.c7 at h;dsimp only at h;split at h;exact⟨_,Q11.l7_eq .. ▸h⟩;cases h
theorem Q11.k3 (N:Nat):qC Tryz.prog Tryz.f99 (Q11.E N) (.loop Q11.b3):=vD (Q11.env N) dA 394 (c:=Q11.c3 N) (eA.of (l:=[(.loop (bB ((jA (bo Tryz.f99)).getD 1 .skip)))]) (by kernel_rfl) (eA.cons (Q11.k7 N) eA.nil)) fun R vs H k r h=>by unfold Q11.c3 at h;dsimp only at h;split at h;exact⟨_,Q11.l3_eq .. ▸h⟩;cases h
theorem Q11.spec (N:Nat)(a c r:List Int)(h:Q11.f N a c=some r):lA Tryz.prog 99 [.agg [.il .u32 1 a],.agg [.il .u32 1 c]] [] (.agg [.il .u32 1 r]) ([]):=vA (Q11.env N) dA Tryz.func99 (eA.of (l:=[(.loop (bB ((jA (bo Tryz.f99)).getD 0 .skip))),(.loop (bB ((jA (bo Tryz.f99)).getD 1 .skip)))]) (by kernel_rfl) (eA.cons (Q11.k3 N) (eA.cons (Q11.k7 N) eA.nil))) ((Q11.f_eq ..).trans h) fun v b e=>by unfold Q11.dec at e;split at e<;>cases e;exact⟨rfl,rfl⟩
theorem Q11.ent_ok (N:Nat):uA Tryz.prog 99 (Q11.ent N):=zA fun v a e h=>by split at h;exact lC (Q:=fun e=>lA _ _ _ _ (e a).pick.1 (e a).pick.2) h fun k=>Q11.spec N _ _ a k;cases h
noncomputable def Q12.f (N:Nat)(a b:List Int):Option (List Int×Int):=
 (Q3.f N a).bind fun d=>
 (Q3.f N b).bind fun e=>
 bif decide ((aA (d+e))>4097)then
  some ([],3)
 else
 (Q11.f N a b).bind fun f=>
 (Q4.f N f).bind fun c=>
 some (c.1,c.2)
noncomputable def Q12.E (N:Nat):yC:=dF [(93,pN),(95,oI)] [(68,Q3.ent N),(99,Q11.ent N),(100,Q4.ent N)] [] [] N [.cell 4 95,.tmp 5] [.recd [.il .u32 1],.any] 0 19
noncomputable def Q12.dec (v:V)(bs:List qA):Option (List Int×Int):=match v,bs with
 | .tup [.agg [.il .u32 1 a],.c (.int .i64 b)],[]=>some (a,b)
 |_,_=>none
theorem Q12.f_eq (N:Nat)(a b:List Int):
  eB (Q12.E N) (bo Tryz.f91) [.agg [.il .u32 1 a],.agg [.il .u32 1 b]] [] Q12.dec=Q12.f N a b:=by kernel_rfl
noncomputable def Q12.ent (N:Nat):yA:=pF (List Int×Int) 0 [true,true] [.recd [.il .u32 1],.recd [.il .u32 1]] fun
 | [.agg [.il .u32 1 a],.agg [.il .u32 1 b]]=>some (Q12.f N a b,fun r=>.one (.tup [.agg [.il .u32 1 r.1],.c (.int .i64 r.2)]) [])
 |_=>none
theorem Q12.env (N:Nat):dB Tryz.prog (Q12.E N):=⟨(.cons sE (.cons vC .nil)),(.cons (Q3.ent_ok N) (.cons (Q11.ent_ok N) (.cons (Q4.ent_ok N) .nil)))⟩
theorem Q12.spec (N:Nat)(a c:List Int)(r:List Int×Int)(h:Q12.f N a c=some r):lA Tryz.prog 91 [.agg [.il .u32 1 a],.agg [.il .u32 1 c]] [] (.tup [.agg [.il .u32 1 r.1],.c (.int .i64 r.2)]) ([]):=vA (Q12.env N) dA Tryz.func91 eA.n ((Q12.f_eq ..).trans h) fun v b e=>by unfold Q12.dec at e;split at e<;>cases e;exact⟨rfl,rfl⟩
theorem Q12.ent_ok (N:Nat):uA Tryz.prog 91 (Q12.ent N):=zA fun v a e h=>by split at h;exact lC (Q:=fun e=>lA _ _ _ _ (e a).pick.1 (e a).pick.2) h fun k=>Q12.spec N _ _ a k;cases h
noncomputable def Q13.f (N:Nat)(a:Int):Option (Int):=
 (Q0.f N a).bind fun b=>
 some (aA (32-b))
noncomputable def Q13.E (N:Nat):yC:=dF [] [(60,Q0.ent N)] [] [] N [.tmp 2] [.any] 0 6
noncomputable def Q13.dec (v:V)(bs:List qA):Option (Int):=match v,bs with
 | .c (.int .i64 a),[]=>some a
 |_,_=>none
theorem Q13.f_eq (N:Nat)(a:Int):
  eB (Q13.E N) (bo Tryz.f95) [.c (.int .u32 a)] [] Q13.dec=Q13.f N a:=by kernel_rfl
noncomputable def Q13.ent (N:Nat):yA:=pF (Int) 0 [true] [.any] fun
 | [.c (.int .u32 a)]=>some (Q13.f N a,fun r=>.one (.c (.int .i64 r)) [])
 |_=>none
theorem Q13.env (N:Nat):dB Tryz.prog (Q13.E N):=⟨.nil,(.cons (Q0.ent_ok N) .nil)⟩
theorem Q13.spec (N:Nat)(a r:Int)(h:Q13.f N a=some r):lA Tryz.prog 95 [.c (.int .u32 a)] [] (.c (.int .i64 r)) ([]):=vA (Q13.env N) dA Tryz.func95 eA.n ((Q13.f_eq ..).trans h) fun v b e=>by unfold Q13.dec at e;split at e<;>cases e;exact⟨rfl,rfl⟩
theorem Q13.ent_ok (N:Nat):uA Tryz.prog 95 (Q13.ent N):=zA fun v a e h=>by split at h;exact lC (Q:=fun e=>lA _ _ _ _ (e a).pick.1 (e a).pick.2) h fun k=>Q13.spec N _ a k;cases h
noncomputable def Q14.l3 {R:Type}(N:Nat):Nat→Nat→Nat→Int→Int→Int→List Int→(Int→List Int→Option R)→Option R
 |0,_,_,_,_,_,_,_=>none
 |n+1,d,e,c,f,b,a,g=>
  bif decide (b≥0)then
   bif (decide (0≤b))&&(decide (b<(e:Int)))then
    bif !((nA c)==0)then
     bif !((nA c)==0)then
      bif (decide (0≤b))&&(decide (b<(e:Int)))then
       Q14.l3 N n d e c (Int.tmod (dE .u64 (nA (f*2^32)) (nA (a.getD (d+b.toNat) 0))) (nA c)) (aA (b-1)) (a.set (d+b.toNat) (gF (nA (Int.tdiv (dE .u64 (nA (f*2^32)) (nA (a.getD (d+b.toNat) 0))) (nA c))))) g
      else none
     else none
    else none
   else none
  else
  g f a
noncomputable def Q14.f (N d c:Nat)(e:Int)(f:List Int):Option (Int×List Int):=
 Q14.l3 N N d c e 0 (aA ((c:Int)-1)) f
  (fun a b=>
   some (gF a,b))
noncomputable def Q14.h3:cE:=⟨[(0,.any),(1,.any),(5,.any),(6,.any)],[(5,.any)]⟩
noncomputable def Q14.c3 (N:Nat):tK:=⟨fun vs H k=>match vs,H with
 | [.sl 0 1 d e,.c (.int .u32 f),.c (.int .u64 g),.c (.int .i64 h)],[.ints .u32 a]=>Q14.l3 N N d e f g h a (fun b c=>k (.exit 0) ⟨iE Q14.h3.out [.c (.int .u64 b)],[.ints .u32 c]⟩)
 |_,_=>none⟩
noncomputable def Q14.E (N:Nat):yC:=dF [(54,mP),(93,pN),(115,eJ)] [] [(3,Q14.h3)] [(3,Q14.c3 N)] N [.tmp 4] [.any] 1 37
noncomputable def Q14.b3:Code:=bB ((jA (bo Tryz.f89)).getD 0 .skip)
theorem Q14.l3_eq {R:Type}(N n d e:Nat)(f g h:Int)(a:List Int)(k:Ex→St→Option R):
  vB 1 Q14.h3 (fun s k=>kB (Q14.E N) 394 Q14.b3 s k) n [.sl 0 1 d e,.c (.int .u32 f),.c (.int .u64 g),.c (.int .i64 h)] [.ints .u32 a] k=Q14.l3 N n d e f g h a (fun b c=>k (.exit 0) ⟨iE Q14.h3.out [.c (.int .u64 b)],[.ints .u32 c]⟩):=by
 induction n generalizing d e f g h a with
 |zero=>kernel_rfl
 |succ n ih=>
  simp only[Q14.l3,←ih]
  kernel_rfl
noncomputable def Q14.dec (v:V)(bs:List qA):Option (Int×List Int):=match v,bs with
 | .c (.int .u32 a),[.ints .u32 b]=>some (a,b)
 |_,_=>none
theorem Q14.f_eq (N a b:Nat)(c:Int)(d:List Int):
  eB (Q14.E N) (bo Tryz.f89) [.sl 0 1 a b,.c (.int .u32 c)] [.ints .u32 d] Q14.dec=Q14.f N a b c d:=by kernel_rfl
noncomputable def Q14.ent (N:Nat):yA:={A:=Int×List Int,fresh:=0,imm:=[false,true],dec:=fun args bs=>match yJ (rA bs) [true,false] args,bs with
 | [.sl 0 1 a b,.c (.int .u32 c)],[.ints .u32 d]=>some (Q14.f N a b c d,fun r=>.one (.c (.int .u32 r.1)) [.ints .u32 r.2])
 |_,_=>none}
theorem Q14.env (N:Nat):dB Tryz.prog (Q14.E N):=⟨(.cons bF (.cons sE (.cons kE .nil))),.nil⟩
theorem Q14.k3 (N:Nat):qC Tryz.prog Tryz.f89 (Q14.E N) (.loop Q14.b3):=vD (Q14.env N) dA 394 (c:=Q14.c3 N) eA.n fun R vs H k r h=>by unfold Q14.c3 at h;dsimp only at h;split at h;exact⟨_,Q14.l3_eq .. ▸h⟩;cases h
theorem Q14.spec (N a c:Nat)(d:Int)(f:List Int)(r:Int×List Int)(h:Q14.f N a c d f=some r):lA Tryz.prog 89 [.sl 0 1 a c,.c (.int .u32 d)] [.ints .u32 f] (.c (.int .u32 r.1)) ([.ints .u32 r.2]):=vA (Q14.env N) dA Tryz.func89 (eA.of (l:=[(.loop (bB ((jA (bo Tryz.f89)).getD 0 .skip)))]) (by kernel_rfl) (eA.cons (Q14.k3 N) eA.nil)) ((Q14.f_eq ..).trans h) fun v b e=>by unfold Q14.dec at e;split at e<;>cases e;exact⟨rfl,rfl⟩
theorem Q14.ent_ok (N:Nat):uA Tryz.prog 89 (Q14.ent N):=by
 intro args bs a enc h;simp only[Q14.ent]at h;split at h
 ·rename_i hz;have h0:=Option.some.inj h;have h1:=congrArg Prod.fst h0;have h2:=congrArg Prod.snd h0;dsimp only at h1 h2;subst h2;exact lA.of_asSl (fl:=[true,false]) (by rw[hz];exact Q14.spec N _ _ _ _ a h1)
 ·cases h
noncomputable def Q15.l4 {R:Type}(N:Nat):Nat→List Int→Int→Int→Int→Int→List Int→(List Int→Option R)→Option R
 |0,_,_,_,_,_,_,_=>none
 |n+1,b,c,e,g,a,d,f=>
  bif decide (a<g)then
   bif decide (a<(b.length:Int))then
    bif (decide (0≤a))&&(decide (a<(b.length:Int)))then
     bif decide (0≤c)then
      bif (decide (0≤a))&&(decide (a<(d.length:Int)))then
       Q15.l4 N n b c (Int.fdiv (dE .u64 e (nA ((nA (b.getD a.toNat 0))*2^(min c.toNat 64)))) (2^32)) g (aA (a+1)) (d.set a.toNat (gF (dE .u64 e (nA ((nA (b.getD a.toNat 0))*2^(min c.toNat 64)))))) f
      else none
     else none
    else none
   else
   bif (decide (0≤a))&&(decide (a<(d.length:Int)))then
    Q15.l4 N n b c (Int.fdiv e (2^32)) g (aA (a+1)) (d.set a.toNat (gF e)) f
   else none
  else
  f d
noncomputable def Q15.f (N:Nat)(c:List Int)(d a:Int):Option (List Int):=
 bif decide (a=a)&&decide (0≤a)&&decide (a≤9223372036854775807)&&cB a.toNat 4 then
  Q15.l4 N N c d 0 ((List.replicate a.toNat (0:Int)).length:Int) 0 (List.replicate a.toNat (0:Int))
   (fun b=>
    some b)
 else none
noncomputable def Q15.h4:cE:=⟨[(0,.il .u32 1),(1,.any),(7,.row .u32 1),(8,.any),(13,.any),(14,.any)],[(7,.row .u32 1)]⟩
noncomputable def Q15.c4 (N:Nat):tK:=⟨fun vs H k=>match vs,H with
 | [.il .u32 1 b,.c (.int .i64 c),.sw 0 1,.c (.int .u64 d),.c (.int .i64 e),.c (.int .i64 f)],[.ints .u32 g]=>Q15.l4 N N b c d e f g (fun a=>k (.exit 0) ⟨iE Q15.h4.out [.sw 0 1],[.ints .u32 a]⟩)
 |_,_=>none⟩
noncomputable def Q15.E (N:Nat):yC:=dF [(54,mP),(93,pN),(115,eJ)] [] [(4,Q15.h4)] [(4,Q15.c4 N)] N [.tmp 6] [.row .u32 1] 0 39 true
noncomputable def Q15.b4:Code:=bB ((jA (bo Tryz.f96)).getD 0 .skip)
theorem Q15.l4_eq {R:Type}(N n:Nat)(b:List Int)(c d e f:Int)(g:List Int)(k:Ex→St→Option R):
  vB 0 Q15.h4 (fun s k=>kB (Q15.E N) 393 Q15.b4 s k) n [.il .u32 1 b,.c (.int .i64 c),.sw 0 1,.c (.int .u64 d),.c (.int .i64 e),.c (.int .i64 f)] [.ints .u32 g] k=Q15.l4 N n b c d e f g (fun a=>k (.exit 0) ⟨iE Q15.h4.out [.sw 0 1],[.ints .u32 a]⟩):=by
 induction n generalizing b c d e f g with
 |zero=>kernel_rfl
 |succ n ih=>
  simp only[Q15.l4,←ih]
  kernel_rfl
noncomputable def Q15.dec (v:V)(bs:List qA):Option (List Int):=match v,bs with
 | .sw 0 1,[.ints .u32 a]=>some a
 |_,_=>none
theorem Q15.f_eq (N:Nat)(a:List Int)(b c:Int):
  eB (Q15.E N) (bo Tryz.f96) [.il .u32 1 a,.c (.int .i64 b),.c (.int .i64 c)] [] Q15.dec=Q15.f N a b c:=by kernel_rfl
noncomputable def Q15.ent (N:Nat):yA:=pF (List Int) 1 [true,true,true] [.il .u32 1,.any,.any] fun
 | [.il .u32 1 a,.c (.int .i64 b),.c (.int .i64 c)]=>some (Q15.f N a b c,fun r=>.one (.sw 0 1) [.ints .u32 r])
 |_=>none
theorem Q15.env (N:Nat):dB Tryz.prog (Q15.E N):=⟨(.cons bF (.cons sE (.cons kE .nil))),.nil⟩
theorem Q15.k4 (N:Nat):qC Tryz.prog Tryz.f96 (Q15.E N) (.loop Q15.b4):=vD (Q15.env N) dA 393 (c:=Q15.c4 N) eA.n fun R vs H k r h=>by unfold Q15.c4 at h;dsimp only at h;split at h;exact⟨_,Q15.l4_eq .. ▸h⟩;cases h
theorem Q15.spec (N:Nat)(a:List Int)(c d:Int)(r:List Int)(h:Q15.f N a c d=some r):lA Tryz.prog 96 [.il .u32 1 a,.c (.int .i64 c),.c (.int .i64 d)] [] (.sw 0 1) ([.ints .u32 r]):=vA (Q15.env N) dA Tryz.func96 (eA.of (l:=[(.loop (bB ((jA (bo Tryz.f96)).getD 0 .skip)))]) (by kernel_rfl) (eA.cons (Q15.k4 N) eA.nil)) ((Q15.f_eq ..).trans h) fun v b e=>by unfold Q15.dec at e;split at e<;>cases e;exact⟨rfl,rfl⟩
theorem Q15.ent_ok (N:Nat):uA Tryz.prog 96 (Q15.ent N):=zA fun v a e h=>by split at h;exact lC (Q:=fun e=>lA _ _ _ _ (e a).pick.1 (e a).pick.2) h fun k=>Q15.spec N _ _ _ a k;cases h
noncomputable def Q16.l3 {R:Type}(N:Nat):Nat→List Int→Int→Int→Int→List Int→(List Int→Option R)→Option R
 |0,_,_,_,_,_,_=>none
 |n+1,b,c,f,a,d,e=>
  bif decide (a<f)then
   bif (decide (0≤a))&&(decide (a<(b.length:Int)))then
    bif decide ((aA (a+1))<(b.length:Int))then
     bif (decide (0≤(aA (a+1))))&&(decide ((aA (a+1))<(b.length:Int)))then
      bif decide (0≤c)then
       bif (decide (0≤a))&&(decide (a<(d.length:Int)))then
        Q16.l3 N n b c f (aA (a+1)) (d.set a.toNat (gF (Int.fdiv (dE .u64 (nA (b.getD a.toNat 0)) (nA ((nA (b.getD ((aA (a+1)).toNat) 0))*2^32))) (2^(min c.toNat 64))))) e
       else none
      else none
     else none
    else
    bif decide (0≤c)then
     bif (decide (0≤a))&&(decide (a<(d.length:Int)))then
      Q16.l3 N n b c f (aA (a+1)) (d.set a.toNat (gF (Int.fdiv (nA (b.getD a.toNat 0)) (2^(min c.toNat 64))))) e
     else none
    else none
   else none
  else
  e d
noncomputable def Q16.f (N:Nat)(a:List Int)(d:Int):Option (List Int):=
 bif decide ((a.length:Int)=(a.length:Int))&&decide (0≤(a.length:Int))&&decide ((a.length:Int)≤9223372036854775807)&&cB ((a.length:Int).toNat) 4 then
  Q16.l3 N N a d (a.length:Int) 0 (List.replicate ((a.length:Int).toNat) (0:Int))
   (fun c=>
    (Q2.f N 0 c.length c).bind fun b=>
    some ((b.2.2.drop b.1).take b.2.1))
 else none
noncomputable def Q16.h3:cE:=⟨[(0,.il .u32 1),(1,.any),(4,.box [.any]),(5,.row .u32 1),(12,.any),(13,.any)],[(4,.box [.any]),(5,.row .u32 1)]⟩
noncomputable def Q16.c3 (N:Nat):tK:=⟨fun vs H k=>match vs,H with
 | [.il .u32 1 a,.c (.int .i64 b),.ptr 0 0 1,.sw 1 1,.c (.int .i64 c),.c (.int .i64 d)],[.vals [.c (.slice none 0 0)],.ints .u32 e]=>Q16.l3 N N a b c d e (fun f=>k (.exit 0) ⟨iE Q16.h3.out [.ptr 0 0 1,.sw 1 1],[.vals [.c (.slice none 0 0)],.ints .u32 f]⟩)
 |_,_=>none⟩
noncomputable def Q16.E (N:Nat):yC:=dF [(54,mP),(93,pN),(95,oI),(115,eJ)] [(84,Q2.ent N)] [(3,Q16.h3)] [(3,Q16.c3 N)] N [.cell 4 95] [.recd [.il .u32 1]] 0 45
noncomputable def Q16.b3:Code:=bB ((jA (bo Tryz.f98)).getD 0 .skip)
theorem Q16.l3_eq {R:Type}(N n:Nat)(a:List Int)(b c d:Int)(e:List Int)(k:Ex→St→Option R):
  vB 0 Q16.h3 (fun s k=>kB (Q16.E N) 394 Q16.b3 s k) n [.il .u32 1 a,.c (.int .i64 b),.ptr 0 0 1,.sw 1 1,.c (.int .i64 c),.c (.int .i64 d)] [.vals [.c (.slice none 0 0)],.ints .u32 e] k=Q16.l3 N n a b c d e (fun f=>k (.exit 0) ⟨iE Q16.h3.out [.ptr 0 0 1,.sw 1 1],[.vals [.c (.slice none 0 0)],.ints .u32 f]⟩):=by
 induction n generalizing a b c d e with
 |zero=>kernel_rfl
 |succ n ih=>
  simp only[Q16.l3,←ih]
  kernel_rfl
noncomputable def Q16.dec (v:V)(bs:List qA):Option (List Int):=match v,bs with
 | .agg [.il .u32 1 a],[]=>some a
 |_,_=>none
theorem Q16.f_eq (N:Nat)(a:List Int)(b:Int):
  eB (Q16.E N) (bo Tryz.f98) [.il .u32 1 a,.c (.int .i64 b)] [] Q16.dec=Q16.f N a b:=by kernel_rfl
noncomputable def Q16.ent (N:Nat):yA:=pF (List Int) 0 [true,true] [.il .u32 1,.any] fun
 | [.il .u32 1 a,.c (.int .i64 b)]=>some (Q16.f N a b,fun r=>.one (.agg [.il .u32 1 r]) [])
 |_=>none
theorem Q16.env (N:Nat):dB Tryz.prog (Q16.E N):=⟨(.cons bF (.cons sE (.cons vC (.cons kE .nil)))),(.cons (Q2.ent_ok N) .nil)⟩
theorem Q16.k3 (N:Nat):qC Tryz.prog Tryz.f98 (Q16.E N) (.loop Q16.b3):=vD (Q16.env N) dA 394 (c:=Q16.c3 N) eA.n fun R vs H k r h=>by unfold Q16.c3 at h;dsimp only at h;split at h;exact⟨_,Q16.l3_eq .. ▸h⟩;cases h
theorem Q16.spec (N:Nat)(a:List Int)(c:Int)(r:List Int)(h:Q16.f N a c=some r):lA Tryz.prog 98 [.il .u32 1 a,.c (.int .i64 c)] [] (.agg [.il .u32 1 r]) ([]):=vA (Q16.env N) dA Tryz.func98 (eA.of (l:=[(.loop (bB ((jA (bo Tryz.f98)).getD 0 .skip)))]) (by kernel_rfl) (eA.cons (Q16.k3 N) eA.nil)) ((Q16.f_eq ..).trans h) fun v b e=>by unfold Q16.dec at e;split at e<;>cases e;exact⟨rfl,rfl⟩
theorem Q16.ent_ok (N:Nat):uA Tryz.prog 98 (Q16.ent N):=zA fun v a e h=>by split at h;exact lC (Q:=fun e=>lA _ _ _ _ (e a).pick.1 (e a).pick.2) h fun k=>Q16.spec N _ _ a k;cases h
noncomputable def Q17.l3 {R:Type}(N:Nat):Nat→Nat→Nat→List Int→Int→Int→Int→Int→Int→List Int→(Int→List Int→Option R)→Option R
 |0,_,_,_,_,_,_,_,_,_,_=>none
 |n+1,f,g,h,k,c,d,e,a,b,l=>
  bif decide (a<e)then
   bif decide (a<(h.length:Int))then
    bif (decide (0≤a))&&(decide (a<(h.length:Int)))then
     bif (decide (0≤a))&&(decide (a<(g:Int)))then
      (Q1.f N (b.getD (f+a.toNat) 0) (gF (nA (c+(nA ((nA (h.getD a.toNat 0))*(nA k)))))) d).bind fun i=>
      bif (decide (0≤a))&&(decide (a<(g:Int)))then
       Q17.l3 N n f g h k (Int.fdiv (nA (c+(nA ((nA (h.getD a.toNat 0))*(nA k))))) (2^32)) i.2 e (aA (a+1)) (b.set (f+a.toNat) i.1) l
      else none
     else none
    else none
   else
   bif (decide (0≤a))&&(decide (a<(g:Int)))then
    (Q1.f N (b.getD (f+a.toNat) 0) (gF c) d).bind fun j=>
    bif (decide (0≤a))&&(decide (a<(g:Int)))then
     Q17.l3 N n f g h k (Int.fdiv c (2^32)) j.2 e (aA (a+1)) (b.set (f+a.toNat) j.1) l
    else none
   else none
  else
  l d b
noncomputable def Q17.f (N d c:Nat)(e:List Int)(f:Int)(g:List Int):Option (Bool×List Int):=
 Q17.l3 N N d c e f 0 0 (c:Int) 0 g
  (fun a b=>
   some (a != 0,b))
noncomputable def Q17.h3:cE:=⟨[(0,.any),(1,.il .u32 1),(2,.any),(7,.any),(8,.any),(11,.any),(12,.any)],[(8,.any)]⟩
noncomputable def Q17.c3 (N:Nat):tK:=⟨fun vs H k=>match vs,H with
 | [.sl 0 1 h i,.il .u32 1 j,.c (.int .u32 l),.c (.int .u64 a),.c (.int .u32 b),.c (.int .i64 c),.c (.int .i64 d)],[.ints .u32 e]=>Q17.l3 N N h i j l a b c d e (fun f g=>k (.exit 0) ⟨iE Q17.h3.out [.c (.int .u32 f)],[.ints .u32 g]⟩)
 |_,_=>none⟩
noncomputable def Q17.E (N:Nat):yC:=dF [(54,mP),(93,pN),(115,eJ)] [(102,Q1.ent N)] [(3,Q17.h3)] [(3,Q17.c3 N)] N [.tmp 6] [.any] 1 48
noncomputable def Q17.b3:Code:=bB ((jA (bo Tryz.f97)).getD 0 .skip)
theorem Q17.l3_eq {R:Type}(N n h i:Nat)(j:List Int)(l a b c d:Int)(e:List Int)(k:Ex→St→Option R):
  vB 1 Q17.h3 (fun s k=>kB (Q17.E N) 394 Q17.b3 s k) n [.sl 0 1 h i,.il .u32 1 j,.c (.int .u32 l),.c (.int .u64 a),.c (.int .u32 b),.c (.int .i64 c),.c (.int .i64 d)] [.ints .u32 e] k=Q17.l3 N n h i j l a b c d e (fun f g=>k (.exit 0) ⟨iE Q17.h3.out [.c (.int .u32 f)],[.ints .u32 g]⟩):=by
 induction n generalizing h i j l a b c d e with
 |zero=>kernel_rfl
 |succ n ih=>
  simp only[Q17.l3,←ih]
  kernel_rfl
noncomputable def Q17.dec (v:V)(bs:List qA):Option (Bool×List Int):=match v,bs with
 | .c (.bool a),[.ints .u32 b]=>some (a,b)
 |_,_=>none
theorem Q17.f_eq (N a b:Nat)(c:List Int)(d:Int)(e:List Int):
  eB (Q17.E N) (bo Tryz.f97) [.sl 0 1 a b,.il .u32 1 c,.c (.int .u32 d)] [.ints .u32 e] Q17.dec=Q17.f N a b c d e:=by kernel_rfl
noncomputable def Q17.ent (N:Nat):yA:={A:=Bool×List Int,fresh:=0,imm:=[false,true,true],dec:=fun args bs=>match yJ (rA bs) [true,false,false] args,bs with
 | [.sl 0 1 a b,.il .u32 1 c,.c (.int .u32 d)],[.ints .u32 e]=>some (Q17.f N a b c d e,fun r=>.one (.c (.bool r.1)) [.ints .u32 r.2])
 |_,_=>none}
theorem Q17.env (N:Nat):dB Tryz.prog (Q17.E N):=⟨(.cons bF (.cons sE (.cons kE .nil))),(.cons (Q1.ent_ok N) .nil)⟩
theorem Q17.k3 (N:Nat):qC Tryz.prog Tryz.f97 (Q17.E N) (.loop Q17.b3):=vD (Q17.env N) dA 394 (c:=Q17.c3 N) eA.n fun R vs H k r h=>by unfold Q17.c3 at h;dsimp only at h;split at h;exact⟨_,Q17.l3_eq .. ▸h⟩;cases h
theorem Q17.spec (N a c:Nat)(d:List Int)(f:Int)(g:List Int)(r:Bool×List Int)(h:Q17.f N a c d f g=some r):lA Tryz.prog 97 [.sl 0 1 a c,.il .u32 1 d,.c (.int .u32 f)] [.ints .u32 g] (.c (.bool r.1)) ([.ints .u32 r.2]):=vA (Q17.env N) dA Tryz.func97 (eA.of (l:=[(.loop (bB ((jA (bo Tryz.f97)).getD 0 .skip)))]) (by kernel_rfl) (eA.cons (Q17.k3 N) eA.nil)) ((Q17.f_eq ..).trans h) fun v b e=>by unfold Q17.dec at e;split at e<;>cases e;exact⟨rfl,rfl⟩
theorem Q17.ent_ok (N:Nat):uA Tryz.prog 97 (Q17.ent N):=by
 intro args bs a enc h;simp only[Q17.ent]at h;split at h
 ·rename_i hz;have h0:=Option.some.inj h;have h1:=congrArg Prod.fst h0;have h2:=congrArg Prod.snd h0;dsimp only at h1 h2;subst h2;exact lA.of_asSl (fl:=[true,false,false]) (by rw[hz];exact Q17.spec N _ _ _ _ _ a h1)
 ·cases h
noncomputable def Q18.l11 {R:Type}(N:Nat):Nat→Int→Int→Int→Int→Int→List Int→List Int→List Int→(Int→Int→Int→Int→List Int→List Int→List Int→Option R)→Option R
 |0,_,_,_,_,_,_,_,_,_=>none
 |n+1,a,f,c,d,g,b,e,h,i=>
  bif (Int.fdiv d (2^32)) != 0 then
   bif (decide (0≤(aA (a-1))))&&(decide ((aA (a-1))<(b.length:Int)))then
    bif (Int.fdiv (nA (g+(nA (b.getD ((aA (a-1)).toNat) 0)))) (2^32)) != 0 then
     i a f c (nA (d-1)) b e h
    else
    Q18.l11 N n a f c (nA (d-1)) (nA (g+(nA (b.getD ((aA (a-1)).toNat) 0)))) b e h i
   else none
  else
  bif (decide (0≤(aA (a-2))))&&(decide ((aA (a-2))<(b.length:Int)))then
   bif (decide (0≤(aA ((aA (c+a))-2))))&&(decide ((aA ((aA (c+a))-2))<(e.length:Int)))then
    bif decide ((nA (d*(nA (b.getD ((aA (a-2)).toNat) 0))))>(dE .u64 (nA (g*2^32)) (nA (e.getD ((aA ((aA (c+a))-2)).toNat) 0))))then
     bif (decide (0≤(aA (a-1))))&&(decide ((aA (a-1))<(b.length:Int)))then
      bif (Int.fdiv (nA (g+(nA (b.getD ((aA (a-1)).toNat) 0)))) (2^32)) != 0 then
       i a f c (nA (d-1)) b e h
      else
      Q18.l11 N n a f c (nA (d-1)) (nA (g+(nA (b.getD ((aA (a-1)).toNat) 0)))) b e h i
     else none
    else
    i a f c d b e h
   else none
  else none
noncomputable def Q18.l21 {R:Type}(N:Nat):Nat→Int→Int→Int→Nat→Nat→Int→Int→Int→List Int→List Int→List Int→(Int→Int→Int→List Int→List Int→List Int→Option R)→Option R
 |0,_,_,_,_,_,_,_,_,_,_,_,_=>none
 |n+1,f,h,i,b,e,g,j,a,d,c,k,l=>
  bif decide (a<j)then
   bif (decide (0≤a))&&(decide (a<(e:Int)))then
    bif decide (a<f)then
     bif (decide (0≤a))&&(decide (a<(d.length:Int)))then
      bif (decide (0≤a))&&(decide (a<(e:Int)))then
       Q18.l21 N n f h i b e (Int.fdiv (nA ((nA (g+(nA (c.getD (b+a.toNat) 0))))+(nA (d.getD a.toNat 0)))) (2^32)) j (aA (a+1)) d (c.set (b+a.toNat) (gF (nA ((nA (g+(nA (c.getD (b+a.toNat) 0))))+(nA (d.getD a.toNat 0)))))) k l
      else none
     else none
    else
    bif (decide (0≤a))&&(decide (a<(e:Int)))then
     Q18.l21 N n f h i b e (Int.fdiv (nA (g+(nA (c.getD (b+a.toNat) 0)))) (2^32)) j (aA (a+1)) d (c.set (b+a.toNat) (gF (nA (g+(nA (c.getD (b+a.toNat) 0)))))) k l
    else none
   else none
  else
  l f h i d c k
noncomputable def Q18.l7 {R:Type}(N:Nat):Nat→Int→Int→Int→List Int→List Int→List Int→(Int→List Int→List Int→Option R)→Option R
 |0,_,_,_,_,_,_,_=>none
 |n+1,d,v,e,h,c,k,o=>
  bif decide (e≥0)then
   bif (decide (0≤(aA (e+d))))&&(decide ((aA (e+d))<(c.length:Int)))then
    bif (decide (0≤(aA ((aA (e+d))-1))))&&(decide ((aA ((aA (e+d))-1))<(c.length:Int)))then
     bif (decide (0≤(aA (d-1))))&&(decide ((aA (d-1))<(h.length:Int)))then
      bif !((nA (h.getD ((aA (d-1)).toNat) 0))==0)then
       bif (decide (0≤(aA (d-1))))&&(decide ((aA (d-1))<(h.length:Int)))then
        bif !((nA (h.getD ((aA (d-1)).toNat) 0))==0)then
         Q18.l11 N N d v e (nA (Int.tdiv (dE .u64 (nA ((nA (c.getD ((aA (e+d)).toNat) 0))*2^32)) (nA (c.getD ((aA ((aA (e+d))-1)).toNat) 0))) (nA (h.getD ((aA (d-1)).toNat) 0)))) (Int.tmod (dE .u64 (nA ((nA (c.getD ((aA (e+d)).toNat) 0))*2^32)) (nA (c.getD ((aA ((aA (e+d))-1)).toNat) 0))) (nA (h.getD ((aA (d-1)).toNat) 0))) h c k
          (fun b l a i j m f=>
           bif (((decide (0≤a))&&(decide (a≤(aA ((aA (a+b))+1)))))&&(decide ((aA ((aA (a+b))+1))≤(aA ((aA (a+b))+1)))))&&(decide ((aA ((aA (a+b))+1))≤(m.length:Int)))then
            (Q17.f N a.toNat (((aA ((aA (a+b))+1)).toNat)-a.toNat) j (gF i) m).bind fun g=>
            bif !g.1 then
             bif (decide (0≤a))&&(decide (a<(f.length:Int)))then
              Q18.l7 N n b l (aA (a-1)) j g.2 (f.set a.toNat (gF i)) o
             else none
            else
            bif (decide (0≤a))&&(decide (a<(f.length:Int)))then
             Q18.l21 N N b l a a.toNat (((aA ((aA (a+b))+1)).toNat)-a.toNat) 0 ((((aA ((aA (a+b))+1)).toNat)-a.toNat:Nat):Int) 0 j g.2 (f.set a.toNat (gF ((gF i)-1)))
              (fun p q r s t u=>
               Q18.l7 N n p q (aA (r-1)) s t u o)
            else none
           else none)
        else none
       else none
      else none
     else none
    else none
   else none
  else
  o v c k
noncomputable def Q18.f (N:Nat)(i a:List Int):Option (List Int×List Int):=
 bif (decide (0≤(aA ((a.length:Int)-1))))&&(decide ((aA ((a.length:Int)-1))<(a.length:Int)))then
  (Q13.f N (a.getD ((aA ((a.length:Int)-1)).toNat) 0)).bind fun e=>
  (Q15.f N a e (a.length:Int)).bind fun j=>
  (Q15.f N i e (aA ((i.length:Int)+1))).bind fun b=>
  bif decide (aA ((b.length:Int)- (a.length:Int))=aA ((b.length:Int)- (a.length:Int)))&&decide (0≤aA ((b.length:Int)- (a.length:Int)))&&decide (aA ((b.length:Int)- (a.length:Int))≤9223372036854775807)&&cB ((aA ((b.length:Int)- (a.length:Int))).toNat) 4 then
   Q18.l7 N N (a.length:Int) e (aA ((aA ((b.length:Int)- (a.length:Int)))-1)) j b (List.replicate ((aA ((b.length:Int)- (a.length:Int))).toNat) (0:Int))
    (fun g h d=>
     (Q2.f N 0 d.length d).bind fun c=>
     (Q16.f N h g).bind fun f=>
     some ((c.2.2.drop c.1).take c.2.1,f))
  else none
 else none
noncomputable def Q18.h7:cE:=⟨[(4,.box [.any]),(5,.box [.any]),(6,.any),(7,.any),(8,.row .u32 1),(9,.row .u32 1),(11,.row .u32 1),(12,.any)],[(4,.box [.any]),(5,.box [.any]),(7,.any),(9,.row .u32 1),(11,.row .u32 1)]⟩
noncomputable def Q18.h11:cE:=⟨[(4,.box [.any]),(5,.box [.any]),(6,.any),(7,.any),(8,.row .u32 1),(9,.row .u32 1),(11,.row .u32 1),(12,.any),(14,.any),(15,.any)],[(4,.box [.any]),(5,.box [.any]),(6,.any),(7,.any),(8,.row .u32 1),(9,.row .u32 1),(11,.row .u32 1),(12,.any),(14,.any)]⟩
noncomputable def Q18.h21:cE:=⟨[(4,.box [.any]),(5,.box [.any]),(6,.any),(7,.any),(8,.row .u32 1),(9,.row .u32 1),(11,.row .u32 1),(12,.any),(16,.part .u32 1),(17,.any),(156,.any),(157,.any)],[(4,.box [.any]),(5,.box [.any]),(6,.any),(7,.any),(8,.row .u32 1),(9,.row .u32 1),(11,.row .u32 1),(12,.any)]⟩
noncomputable def Q18.c11 (N:Nat):tK:=⟨fun vs H k=>match vs,H with
 | [.ptr 0 0 1,.ptr 1 0 1,.c (.int .i64 a),.c (.int .i64 b),.sw 2 1,.sw 3 1,.sw 4 1,.c (.int .i64 c),.c (.int .u64 d),.c (.int .u64 e)],[.vals [.c (.slice none 0 0)],.vals [.c (.slice none 0 0)],.ints .u32 f,.ints .u32 g,.ints .u32 h]=>Q18.l11 N N a b c d e f g h (fun i j l m o p q=>k (.exit 2) ⟨iE Q18.h11.out [.ptr 0 0 1,.ptr 1 0 1,.c (.int .i64 i),.c (.int .i64 j),.sw 2 1,.sw 3 1,.sw 4 1,.c (.int .i64 l),.c (.int .u64 m)],[.vals [.c (.slice none 0 0)],.vals [.c (.slice none 0 0)],.ints .u32 o,.ints .u32 p,.ints .u32 q]⟩)
 |_,_=>none⟩
noncomputable def Q18.c21 (N:Nat):tK:=⟨fun vs H k=>match vs,H with
 | [.ptr 0 0 1,.ptr 1 0 1,.c (.int .i64 a),.c (.int .i64 b),.sw 2 1,.sw 3 1,.sw 4 1,.c (.int .i64 c),.sl 3 1 d e,.c (.int .u64 f),.c (.int .i64 g),.c (.int .i64 h)],[.vals [.c (.slice none 0 0)],.vals [.c (.slice none 0 0)],.ints .u32 i,.ints .u32 j,.ints .u32 l]=>Q18.l21 N N a b c d e f g h i j l (fun m o p q r s=>k (.exit 4) ⟨iE Q18.h21.out [.ptr 0 0 1,.ptr 1 0 1,.c (.int .i64 m),.c (.int .i64 o),.sw 2 1,.sw 3 1,.sw 4 1,.c (.int .i64 p)],[.vals [.c (.slice none 0 0)],.vals [.c (.slice none 0 0)],.ints .u32 q,.ints .u32 r,.ints .u32 s]⟩)
 |_,_=>none⟩
noncomputable def Q18.c7 (N:Nat):tK:=⟨fun vs H k=>match vs,H with
 | [.ptr 0 0 1,.ptr 1 0 1,.c (.int .i64 f),.c (.int .i64 g),.sw 2 1,.sw 3 1,.sw 4 1,.c (.int .i64 h)],[.vals [.c (.slice none 0 0)],.vals [.c (.slice none 0 0)],.ints .u32 i,.ints .u32 a,.ints .u32 b]=>Q18.l7 N N f g h i a b (fun c d e=>k (.exit 0) ⟨iE Q18.h7.out [.ptr 0 0 1,.ptr 1 0 1,.c (.int .i64 c),.sw 2 1,.sw 3 1],[.vals [.c (.slice none 0 0)],.vals [.c (.slice none 0 0)],.ints .u32 d,.ints .u32 e]⟩)
 |_,_=>none⟩
noncomputable def Q18.E (N:Nat):yC:=dF [(54,mP),(93,pN),(95,oI),(115,eJ)] [(95,Q13.ent N),(96,Q15.ent N),(97,Q17.ent N),(84,Q2.ent N),(98,Q16.ent N)] [(7,Q18.h7),(11,Q18.h11),(21,Q18.h21)] [(11,Q18.c11 N),(21,Q18.c21 N),(7,Q18.c7 N)] N [.cell 4 95,.cell 5 95] [.recd [.il .u32 1],.recd [.il .u32 1]] 0 190
noncomputable def Q18.b11:Code:=bB ((jA (bo Tryz.f90)).getD 2 .skip)
theorem Q18.l11_eq {R:Type}(N n:Nat)(a b c d e:Int)(f g h:List Int)(k:Ex→St→Option R):
  vB 0 Q18.h11 (fun s k=>kB (Q18.E N) 380 Q18.b11 s k) n [.ptr 0 0 1,.ptr 1 0 1,.c (.int .i64 a),.c (.int .i64 b),.sw 2 1,.sw 3 1,.sw 4 1,.c (.int .i64 c),.c (.int .u64 d),.c (.int .u64 e)] [.vals [.c (.slice none 0 0)],.vals [.c (.slice none 0 0)],.ints .u32 f,.ints .u32 g,.ints .u32 h] k=Q18.l11 N n a b c d e f g h (fun i j l m o p q=>k (.exit 2) ⟨iE Q18.h11.out [.ptr 0 0 1,.ptr 1 0 1,.c (.int .i64 i),.c (.int .i64 j),.sw 2 1,.sw 3 1,.sw 4 1,.c (.int .i64 l),.c (.int .u64 m)],[.vals [.c (.slice none 0 0)],.vals [.c (.slice none 0 0)],.ints .u32 o,.ints .u32 p,.ints .u32 q]⟩):=by
 induction n generalizing a b c d e f g h with
 |zero=>kernel_rfl
 |succ n ih=>
  simp only[Q18.l11,←ih]
  kernel_rfl
noncomputable def Q18.b21:Code:=bB ((jA (bo Tryz.f90)).getD 3 .skip)
theorem Q18.l21_eq {R:Type}(N n:Nat)(a b c:Int)(d e:Nat)(f g h:Int)(i j l:List Int)(k:Ex→St→Option R):
  vB 0 Q18.h21 (fun s k=>kB (Q18.E N) 375 Q18.b21 s k) n [.ptr 0 0 1,.ptr 1 0 1,.c (.int .i64 a),.c (.int .i64 b),.sw 2 1,.sw 3 1,.sw 4 1,.c (.int .i64 c),.sl 3 1 d e,.c (.int .u64 f),.c (.int .i64 g),.c (.int .i64 h)] [.vals [.c (.slice none 0 0)],.vals [.c (.slice none 0 0)],.ints .u32 i,.ints .u32 j,.ints .u32 l] k=Q18.l21 N n a b c d e f g h i j l (fun m o p q r t=>k (.exit 4) ⟨iE Q18.h21.out [.ptr 0 0 1,.ptr 1 0 1,.c (.int .i64 m),.c (.int .i64 o),.sw 2 1,.sw 3 1,.sw 4 1,.c (.int .i64 p)],[.vals [.c (.slice none 0 0)],.vals [.c (.slice none 0 0)],.ints .u32 q,.ints .u32 r,.ints .u32 t]⟩):=by
 induction n generalizing a b c d e f g h i j l with
 |zero=>kernel_rfl
 |succ n ih=>
  simp only[Q18.l21,←ih]
  kernel_rfl
noncomputable def Q18.b7:Code:=bB ((jA (bo Tryz.f90)).getD 1 .skip)
theorem Q18.l7_eq {R:Type}(N n:Nat)(e g h:Int)(i a b:List Int)(k:Ex→St→Option R):
  vB 0 Q18.h7 (fun s k=>kB (Q18.E N) 388 Q18.b7 s k) n [.ptr 0 0 1,.ptr 1 0 1,.c (.int .i64 e),.c (.int .i64 g),.sw 2 1,.sw 3 1,.sw 4 1,.c (.int .i64 h)] [.vals [.c (.slice none 0 0)],.vals [.c (.slice none 0 0)],.ints .u32 i,.ints .u32 a,.ints .u32 b] k=Q18.l7 N n e g h i a b (fun c d f=>k (.exit 0) ⟨iE Q18.h7.out [.ptr 0 0 1,.ptr 1 0 1,.c (.int .i64 c),.sw 2 1,.sw 3 1],[.vals [.c (.slice none 0 0)],.vals [.c (.slice none 0 0)],.ints .u32 d,.ints .u32 f]⟩):=by
 induction n generalizing e g h i a b with
 |zero=>kernel_rfl
 |succ n ih=>
  simp only[Q18.l7,←ih]
  kernel_rfl
noncomputable def Q18.dec (v:V)(bs:List qA):Option (List Int×List Int):=match v,bs with
 | .tup [.agg [.il .u32 1 a],.agg [.il .u32 1 b]],[]=>some (a,b)
 |_,_=>none
theorem Q18.f_eq (N:Nat)(a b:List Int):
  eB (Q18.E N) (bo Tryz.f90) [.agg [.il .u32 1 a],.agg [.il .u32 1 b]] [] Q18.dec=Q18.f N a b:=by kernel_rfl
noncomputable def Q18.ent (N:Nat):yA:=pF (List Int×List Int) 0 [true,true] [.recd [.il .u32 1],.recd [.il .u32 1]] fun
 | [.agg [.il .u32 1 a],.agg [.il .u32 1 b]]=>some (Q18.f N a b,fun r=>.one (.tup [.agg [.il .u32 1 r.1],.agg [.il .u32 1 r.2]]) [])
 |_=>none
theorem Q18.env (N:Nat):dB Tryz.prog (Q18.E N):=⟨(.cons bF (.cons sE (.cons vC (.cons kE .nil)))),(.cons (Q13.ent_ok N) (.cons (Q15.ent_ok N) (.cons (Q17.ent_ok N) (.cons (Q2.ent_ok N) (.cons (Q16.ent_ok N) .nil)))))⟩
theorem Q18.k21 (N:Nat):qC Tryz.prog Tryz.f90 (Q18.E N) (.loop Q18.b21):=vD (Q18.env N) dA 375 (c:=Q18.c21 N) eA.n fun R vs H k r h=>by unfold Q18.c21 at h;dsimp only at h;split at h;exact⟨_,Q18.l21_eq .. ▸h⟩;cases h
theorem Q18.k11 (N:Nat):qC Tryz.prog Tryz.f90 (Q18.E N) (.loop Q18.b11):=vD (Q18.env N) dA 380 (c:=Q18.c11 N) eA.n fun R vs H k r h=>by unfold Q18.c11 at h;dsimp only at h;split at h;exact⟨_,Q18.l11_eq .. ▸h⟩;cases h
theorem Q18.k7 (N:Nat):qC Tryz.prog Tryz.f90 (Q18.E N) (.loop Q18.b7):=vD (Q18.env N) dA 388 (c:=Q18.c7 N) (eA.of (l:=[(.loop (bB ((jA (bo Tryz.f90)).getD 2 .skip))),(.loop (bB ((jA (bo Tryz.f90)).getD 3 .skip)))]) (by kernel_rfl) (eA.cons (Q18.k11 N) (eA.cons (Q18.k21 N) eA.nil))) fun R vs H k r h=>by unfold Q18.c7 at h;dsimp only at h;split at h;exact⟨_,Q18.l7_eq .. ▸h⟩;cases h
theorem Q18.spec (N:Nat)(a c:List Int)(r:List Int×List Int)(h:Q18.f N a c=some r):lA Tryz.prog 90 [.agg [.il .u32 1 a],.agg [.il .u32 1 c]] [] (.tup [.agg [.il .u32 1 r.1],.agg [.il .u32 1 r.2]]) ([]):=vA (Q18.env N) dA Tryz.func90 (eA.of (l:=[(.scope (bB ((jA (bo Tryz.f90)).getD 0 .skip))),(.loop (bB ((jA (bo Tryz.f90)).getD 1 .skip))),(.loop (bB ((jA (bo Tryz.f90)).getD 2 .skip))),(.loop (bB ((jA (bo Tryz.f90)).getD 3 .skip)))]) (by kernel_rfl) (eA.cons (xT (by kernel_rfl)) (eA.cons (Q18.k7 N) (eA.cons (Q18.k11 N) (eA.cons (Q18.k21 N) eA.nil))))) ((Q18.f_eq ..).trans h) fun v b e=>by unfold Q18.dec at e;split at e<;>cases e;exact⟨rfl,rfl⟩
theorem Q18.ent_ok (N:Nat):uA Tryz.prog 90 (Q18.ent N):=zA fun v a e h=>by split at h;exact lC (Q:=fun e=>lA _ _ _ _ (e a).pick.1 (e a).pick.2) h fun k=>Q18.spec N _ _ a k;cases h
noncomputable def Q19.f (N:Nat)(a b:List Int):Option (List Int×List Int×Int):=
 bif (b.length:Int)==0 then
  some ([],[],11)
 else
 (Q7.f N a b).bind fun f=>
 bif decide (f<0)then
  some ([],a,0)
 else
 bif (b.length:Int)==1 then
  bif cB a.length 4 then
   bif decide (0<(b.length:Int))then
    (Q14.f N 0 a.length (b.getD 0 0) a).bind fun c=>
    (Q2.f N 0 c.2.length c.2).bind fun d=>
    (Q5.f N (nA c.1)).bind fun g=>
    some ((d.2.2.drop d.1).take d.2.1,g,0)
   else none
  else none
 else
 (Q18.f N a b).bind fun e=>
 some (e.1,e.2,0)
noncomputable def Q19.E (N:Nat):yC:=dF [(54,mP),(93,pN),(95,oI),(115,eJ)] [(88,Q7.ent N),(89,Q14.ent N),(84,Q2.ent N),(67,Q5.ent N),(90,Q18.ent N)] [] [] N [.cell 4 95,.cell 5 95,.tmp 6] [.recd [.il .u32 1],.recd [.il .u32 1],.any] 0 47
noncomputable def Q19.dec (v:V)(bs:List qA):Option (List Int×List Int×Int):=match v,bs with
 | .tup [.agg [.il .u32 1 a],.agg [.il .u32 1 b],.c (.int .i64 c)],[]=>some (a,b,c)
 |_,_=>none
theorem Q19.f_eq (N:Nat)(a b:List Int):
  eB (Q19.E N) (bo Tryz.f77) [.agg [.il .u32 1 a],.agg [.il .u32 1 b]] [] Q19.dec=Q19.f N a b:=by kernel_rfl
noncomputable def Q19.ent (N:Nat):yA:=pF (List Int×List Int×Int) 0 [true,true] [.recd [.il .u32 1],.recd [.il .u32 1]] fun
 | [.agg [.il .u32 1 a],.agg [.il .u32 1 b]]=>some (Q19.f N a b,fun r=>.one (.tup [.agg [.il .u32 1 r.1],.agg [.il .u32 1 r.2.1],.c (.int .i64 r.2.2)]) [])
 |_=>none
theorem Q19.env (N:Nat):dB Tryz.prog (Q19.E N):=⟨(.cons bF (.cons sE (.cons vC (.cons kE .nil)))),(.cons (Q7.ent_ok N) (.cons (Q14.ent_ok N) (.cons (Q2.ent_ok N) (.cons (Q5.ent_ok N) (.cons (Q18.ent_ok N) .nil)))))⟩
theorem Q19.spec (N:Nat)(a c:List Int)(r:List Int×List Int×Int)(h:Q19.f N a c=some r):lA Tryz.prog 77 [.agg [.il .u32 1 a],.agg [.il .u32 1 c]] [] (.tup [.agg [.il .u32 1 r.1],.agg [.il .u32 1 r.2.1],.c (.int .i64 r.2.2)]) ([]):=vA (Q19.env N) dA Tryz.func77 eA.n ((Q19.f_eq ..).trans h) fun v b e=>by unfold Q19.dec at e;split at e<;>cases e;exact⟨rfl,rfl⟩
theorem Q19.ent_ok (N:Nat):uA Tryz.prog 77 (Q19.ent N):=zA fun v a e h=>by split at h;exact lC (Q:=fun e=>lA _ _ _ _ (e a).pick.1 (e a).pick.2) h fun k=>Q19.spec N _ _ a k;cases h
noncomputable def Q20.l1 {R:Type}(N:Nat):Nat→List Int→List Int→(List Int→Option R)→Option R
 |0,_,_,_=>none
 |n+1,c,a,b=>
  bif decide ((a.length:Int)>0)then
   (Q19.f N c a).bind fun d=>
   Q20.l1 N n a d.2.1 b
  else
  b c
noncomputable def Q20.f (N:Nat)(a b:List Int):Option (List Int):=
 Q20.l1 N N a b
  (fun c=>
   some c)
noncomputable def Q20.h1:cE:=⟨[(2,.box [.il .u32 1]),(3,.box [.il .u32 1]),(4,.box [.any])],[(2,.box [.il .u32 1]),(4,.box [.any])]⟩
noncomputable def Q20.c1 (N:Nat):tK:=⟨fun vs H k=>match vs,H with
 | [.ptr 0 0 1,.ptr 1 0 1,.ptr 2 0 1],[.vals [.il .u32 1 a],.vals [.il .u32 1 b],.vals [.c (.slice none 0 0)]]=>Q20.l1 N N a b (fun c=>k (.exit 0) ⟨iE Q20.h1.out [.ptr 0 0 1,.ptr 1 0 1],[.vals [.il .u32 1 c],.vals [.c (.slice none 0 0)]]⟩)
 |_,_=>none⟩
noncomputable def Q20.E (N:Nat):yC:=dF [(93,pN),(95,oI)] [(77,Q19.ent N)] [(1,Q20.h1)] [(1,Q20.c1 N)] N [.cell 4 95] [.recd [.il .u32 1]] 0 22
noncomputable def Q20.b1:Code:=bB ((jA (bo Tryz.f63)).getD 0 .skip)
theorem Q20.l1_eq {R:Type}(N n:Nat)(a b:List Int)(k:Ex→St→Option R):
  vB 0 Q20.h1 (fun s k=>kB (Q20.E N) 396 Q20.b1 s k) n [.ptr 0 0 1,.ptr 1 0 1,.ptr 2 0 1] [.vals [.il .u32 1 a],.vals [.il .u32 1 b],.vals [.c (.slice none 0 0)]] k=Q20.l1 N n a b (fun c=>k (.exit 0) ⟨iE Q20.h1.out [.ptr 0 0 1,.ptr 1 0 1],[.vals [.il .u32 1 c],.vals [.c (.slice none 0 0)]]⟩):=by
 induction n generalizing a b with
 |zero=>kernel_rfl
 |succ n ih=>
  simp only[Q20.l1,←ih]
  kernel_rfl
noncomputable def Q20.dec (v:V)(bs:List qA):Option (List Int):=match v,bs with
 | .agg [.il .u32 1 a],[]=>some a
 |_,_=>none
theorem Q20.f_eq (N:Nat)(a b:List Int):
  eB (Q20.E N) (bo Tryz.f63) [.agg [.il .u32 1 a],.agg [.il .u32 1 b]] [] Q20.dec=Q20.f N a b:=by kernel_rfl
noncomputable def Q20.ent (N:Nat):yA:=pF (List Int) 0 [true,true] [.recd [.il .u32 1],.recd [.il .u32 1]] fun
 | [.agg [.il .u32 1 a],.agg [.il .u32 1 b]]=>some (Q20.f N a b,fun r=>.one (.agg [.il .u32 1 r]) [])
 |_=>none
theorem Q20.env (N:Nat):dB Tryz.prog (Q20.E N):=⟨(.cons sE (.cons vC .nil)),(.cons (Q19.ent_ok N) .nil)⟩
theorem Q20.k1 (N:Nat):qC Tryz.prog Tryz.f63 (Q20.E N) (.loop Q20.b1):=vD (Q20.env N) dA 396 (c:=Q20.c1 N) eA.n fun R vs H k r h=>by unfold Q20.c1 at h;dsimp only at h;split at h;exact⟨_,Q20.l1_eq .. ▸h⟩;cases h
theorem Q20.spec (N:Nat)(a c r:List Int)(h:Q20.f N a c=some r):lA Tryz.prog 63 [.agg [.il .u32 1 a],.agg [.il .u32 1 c]] [] (.agg [.il .u32 1 r]) ([]):=vA (Q20.env N) dA Tryz.func63 (eA.of (l:=[(.loop (bB ((jA (bo Tryz.f63)).getD 0 .skip)))]) (by kernel_rfl) (eA.cons (Q20.k1 N) eA.nil)) ((Q20.f_eq ..).trans h) fun v b e=>by unfold Q20.dec at e;split at e<;>cases e;exact⟨rfl,rfl⟩
theorem Q20.ent_ok (N:Nat):uA Tryz.prog 63 (Q20.ent N):=zA fun v a e h=>by split at h;exact lC (Q:=fun e=>lA _ _ _ _ (e a).pick.1 (e a).pick.2) h fun k=>Q20.spec N _ _ a k;cases h
noncomputable def iR:TI:=⟨.int .i64,1,8,[.int .i64 0]⟩
noncomputable def Bp:TI:=⟨.bool,1,1,[.bool false]⟩
noncomputable def sK:TI:=⟨.struct [(2,0),(2,1),(2,2)],3,24,[.int .i64 0,.int .i64 0,.int .i64 0]⟩
noncomputable def Pp:TI:=⟨.struct [(2,0),(2,1),(2,2),(2,3)],4,32,[.int .i64 0,.int .i64 0,.int .i64 0,.int .i64 0]⟩
noncomputable def Su:TI:=⟨.struct [(36,0),(78,3)],7,56,[.int .i64 0,.int .i64 0,.int .i64 0,.int .i64 0,.int .i64 0,.int .i64 0,.int .i64 0]⟩
noncomputable def eQ:TI:=⟨.struct [(4,0),(95,1)],2,32,[.bool false,.slice none 0 0]⟩
theorem aD:kC Tryz.prog 2 iR:=nC (by kernel_rfl) (by kernel_rfl) (by kernel_rfl) (by kernel_rfl) (by kernel_rfl) (by kernel_rfl) (by kernel_rfl) (Tryz.underlying2) (by kernel_rfl)
theorem kJ:kC Tryz.prog 4 Bp:=nC (by kernel_rfl) (by kernel_rfl) (by kernel_rfl) (by kernel_rfl) (by kernel_rfl) (by kernel_rfl) (by kernel_rfl) (Tryz.underlying4) (by kernel_rfl)
theorem tD:kC Tryz.prog 36 sK:=nC (by kernel_rfl) (by kernel_rfl) (by kernel_rfl) (by kernel_rfl) (by kernel_rfl) (by kernel_rfl) (by kernel_rfl) (nI Tryz.underlying36 (by kernel_rfl) (by kernel_rfl)) (by kernel_rfl)
theorem kq:kC Tryz.prog 78 Pp:=nC (by kernel_rfl) (by kernel_rfl) (by kernel_rfl) (by kernel_rfl) (by kernel_rfl) (by kernel_rfl) (by kernel_rfl) (nI Tryz.underlying78 (by kernel_rfl) (by kernel_rfl)) (by kernel_rfl)
theorem zk:kC Tryz.prog 92 Su:=nC (by kernel_rfl) (by kernel_rfl) (by kernel_rfl) (by kernel_rfl) (by kernel_rfl) (by kernel_rfl) (by kernel_rfl) (nI Tryz.underlying92 (by kernel_rfl) (by kernel_rfl)) (by kernel_rfl)
theorem mF:kC Tryz.prog 97 eQ:=nC (by kernel_rfl) (by kernel_rfl) (by kernel_rfl) (by kernel_rfl) (by kernel_rfl) (by kernel_rfl) (by kernel_rfl) (nI Tryz.underlying97 (by kernel_rfl) (by kernel_rfl)) (by kernel_rfl)
noncomputable def Q21.f (N:Nat)(b:Bool)(a:List Int):Option (Bool×List Int):=
 bif b then
  (Q3.f N a).bind fun c=>
  some (decide (c>0),a)
 else
 some (false,a)
noncomputable def Q21.E (N:Nat):yC:=dF [(4,Bp),(95,oI),(97,eQ)] [(68,Q3.ent N)] [] [] N [.cell 4 97] [.recd [.any,.il .u32 1]] 0 13
noncomputable def Q21.dec (v:V)(bs:List qA):Option (Bool×List Int):=match v,bs with
 | .agg [.c (.bool a),.il .u32 1 b],[]=>some (a,b)
 |_,_=>none
theorem Q21.f_eq (N:Nat)(a:Bool)(b:List Int):
  eB (Q21.E N) (bo Tryz.f48) [.c (.bool a),.agg [.il .u32 1 b]] [] Q21.dec=Q21.f N a b:=by kernel_rfl
noncomputable def Q21.ent (N:Nat):yA:=pF (Bool×List Int) 0 [true,true] [.any,.recd [.il .u32 1]] fun
 | [.c (.bool a),.agg [.il .u32 1 b]]=>some (Q21.f N a b,fun r=>.one (.agg [.c (.bool r.1),.il .u32 1 r.2]) [])
 |_=>none
theorem Q21.env (N:Nat):dB Tryz.prog (Q21.E N):=⟨(.cons kJ (.cons vC (.cons mF .nil))),(.cons (Q3.ent_ok N) .nil)⟩
theorem Q21.spec (N:Nat)(a:Bool)(c:List Int)(r:Bool×List Int)(h:Q21.f N a c=some r):lA Tryz.prog 48 [.c (.bool a),.agg [.il .u32 1 c]] [] (.agg [.c (.bool r.1),.il .u32 1 r.2]) ([]):=vA (Q21.env N) dA Tryz.func48 eA.n ((Q21.f_eq ..).trans h) fun v b e=>by unfold Q21.dec at e;split at e<;>cases e;exact⟨rfl,rfl⟩
theorem Q21.ent_ok (N:Nat):uA Tryz.prog 48 (Q21.ent N):=zA fun v a e h=>by split at h;exact lC (Q:=fun e=>lA _ _ _ _ (e a).pick.1 (e a).pick.2) h fun k=>Q21.spec N _ _ a k;cases h
noncomputable def Q22.f (N:Nat)(a:Int):Option (Bool×List Int):=
 bif decide (a<0)then
  (Q5.f N (nA (0- (nA a)))).bind fun b=>
  some (true,b)
 else
 (Q5.f N (nA a)).bind fun c=>
 some (false,c)
noncomputable def Q22.E (N:Nat):yC:=dF [(2,iR),(4,Bp),(54,mP),(95,oI),(97,eQ)] [(67,Q5.ent N)] [] [] N [.cell 2 97] [.recd [.any,.il .u32 1]] 0 14
noncomputable def Q22.dec (v:V)(bs:List qA):Option (Bool×List Int):=match v,bs with
 | .agg [.c (.bool a),.il .u32 1 b],[]=>some (a,b)
 |_,_=>none
theorem Q22.f_eq (N:Nat)(a:Int):
  eB (Q22.E N) (bo Tryz.f47) [.c (.int .i64 a)] [] Q22.dec=Q22.f N a:=by kernel_rfl
noncomputable def Q22.ent (N:Nat):yA:=pF (Bool×List Int) 0 [true] [.any] fun
 | [.c (.int .i64 a)]=>some (Q22.f N a,fun r=>.one (.agg [.c (.bool r.1),.il .u32 1 r.2]) [])
 |_=>none
theorem Q22.env (N:Nat):dB Tryz.prog (Q22.E N):=⟨(.cons aD (.cons kJ (.cons bF (.cons vC (.cons mF .nil))))),(.cons (Q5.ent_ok N) .nil)⟩
theorem Q22.spec (N:Nat)(a:Int)(r:Bool×List Int)(h:Q22.f N a=some r):lA Tryz.prog 47 [.c (.int .i64 a)] [] (.agg [.c (.bool r.1),.il .u32 1 r.2]) ([]):=vA (Q22.env N) dA Tryz.func47 eA.n ((Q22.f_eq ..).trans h) fun v b e=>by unfold Q22.dec at e;split at e<;>cases e;exact⟨rfl,rfl⟩
theorem Q22.ent_ok (N:Nat):uA Tryz.prog 47 (Q22.ent N):=zA fun v a e h=>by split at h;exact lC (Q:=fun e=>lA _ _ _ _ (e a).pick.1 (e a).pick.2) h fun k=>Q22.spec N _ a k;cases h
noncomputable def Q23.f (N:Nat)(b:Bool)(c:List Int):Option (Int×Bool):=
 (Q6.f N c).bind fun a=>
 bif !a.2 then
  some (0,false)
 else
 bif decide (a.1>9223372036854775808)then
  some (0,false)
 else
 bif a.1==9223372036854775808 then
  bif !b then
   some (0,false)
  else
  bif b then
   some (aA (nA (0-a.1)),true)
  else
  some (aA a.1,true)
 else
 bif b then
  some (aA (nA (0-a.1)),true)
 else
 some (aA a.1,true)
noncomputable def Q23.E (N:Nat):yC:=dF [(2,iR),(4,Bp),(54,mP),(95,oI),(97,eQ)] [(69,Q6.ent N)] [] [] N [.tmp 2,.tmp 3] [.any,.any] 0 36
noncomputable def Q23.dec (v:V)(bs:List qA):Option (Int×Bool):=match v,bs with
 | .tup [.c (.int .i64 a),.c (.bool b)],[]=>some (a,b)
 |_,_=>none
theorem Q23.f_eq (N:Nat)(a:Bool)(b:List Int):
  eB (Q23.E N) (bo Tryz.f49) [.agg [.c (.bool a),.il .u32 1 b]] [] Q23.dec=Q23.f N a b:=by kernel_rfl
noncomputable def Q23.ent (N:Nat):yA:=pF (Int×Bool) 0 [true] [.recd [.any,.il .u32 1]] fun
 | [.agg [.c (.bool a),.il .u32 1 b]]=>some (Q23.f N a b,fun r=>.one (.tup [.c (.int .i64 r.1),.c (.bool r.2)]) [])
 |_=>none
theorem Q23.env (N:Nat):dB Tryz.prog (Q23.E N):=⟨(.cons aD (.cons kJ (.cons bF (.cons vC (.cons mF .nil))))),(.cons (Q6.ent_ok N) .nil)⟩
theorem Q23.spec (N:Nat)(a:Bool)(c:List Int)(r:Int×Bool)(h:Q23.f N a c=some r):lA Tryz.prog 49 [.agg [.c (.bool a),.il .u32 1 c]] [] (.tup [.c (.int .i64 r.1),.c (.bool r.2)]) ([]):=vA (Q23.env N) dA Tryz.func49 eA.n ((Q23.f_eq ..).trans h) fun v b e=>by unfold Q23.dec at e;split at e<;>cases e;exact⟨rfl,rfl⟩
theorem Q23.ent_ok (N:Nat):uA Tryz.prog 49 (Q23.ent N):=zA fun v a e h=>by split at h;exact lC (Q:=fun e=>lA _ _ _ _ (e a).pick.1 (e a).pick.2) h fun k=>Q23.spec N _ _ a k;cases h
noncomputable def Q24.f (N:Nat)(e:Bool)(c:List Int)(f:Bool)(d:List Int):Option (Bool×List Int×Int):=
 bif e==f then
  (Q8.f N c d).bind fun g=>
  (Q21.f N e g.1).bind fun h=>
  some (h.1,h.2,g.2)
 else
 (Q7.f N c d).bind fun k=>
 bif decide (k<0)then
  (Q10.f N d c).bind fun i=>
  (Q21.f N f i.1).bind fun j=>
  some (j.1,j.2,i.2)
 else
 (Q10.f N c d).bind fun a=>
 (Q21.f N e a.1).bind fun b=>
 some (b.1,b.2,a.2)
noncomputable def Q24.E (N:Nat):yC:=dF [(4,Bp),(95,oI),(97,eQ)] [(92,Q8.ent N),(48,Q21.ent N),(88,Q7.ent N),(93,Q10.ent N)] [] [] N [.cell 4 97,.tmp 5] [.recd [.any,.il .u32 1],.any] 0 49
noncomputable def Q24.dec (v:V)(bs:List qA):Option (Bool×List Int×Int):=match v,bs with
 | .tup [.agg [.c (.bool a),.il .u32 1 b],.c (.int .i64 c)],[]=>some (a,b,c)
 |_,_=>none
theorem Q24.f_eq (N:Nat)(a:Bool)(b:List Int)(c:Bool)(d:List Int):
  eB (Q24.E N) (bo Tryz.f83) [.agg [.c (.bool a),.il .u32 1 b],.agg [.c (.bool c),.il .u32 1 d]] [] Q24.dec=Q24.f N a b c d:=by kernel_rfl
noncomputable def Q24.ent (N:Nat):yA:=pF (Bool×List Int×Int) 0 [true,true] [.recd [.any,.il .u32 1],.recd [.any,.il .u32 1]] fun
 | [.agg [.c (.bool a),.il .u32 1 b],.agg [.c (.bool c),.il .u32 1 d]]=>some (Q24.f N a b c d,fun r=>.one (.tup [.agg [.c (.bool r.1),.il .u32 1 r.2.1],.c (.int .i64 r.2.2)]) [])
 |_=>none
theorem Q24.env (N:Nat):dB Tryz.prog (Q24.E N):=⟨(.cons kJ (.cons vC (.cons mF .nil))),(.cons (Q8.ent_ok N) (.cons (Q21.ent_ok N) (.cons (Q7.ent_ok N) (.cons (Q10.ent_ok N) .nil))))⟩
theorem Q24.spec (N:Nat)(a:Bool)(c:List Int)(d:Bool)(f:List Int)(r:Bool×List Int×Int)(h:Q24.f N a c d f=some r):lA Tryz.prog 83 [.agg [.c (.bool a),.il .u32 1 c],.agg [.c (.bool d),.il .u32 1 f]] [] (.tup [.agg [.c (.bool r.1),.il .u32 1 r.2.1],.c (.int .i64 r.2.2)]) ([]):=vA (Q24.env N) dA Tryz.func83 eA.n ((Q24.f_eq ..).trans h) fun v b e=>by unfold Q24.dec at e;split at e<;>cases e;exact⟨rfl,rfl⟩
theorem Q24.ent_ok (N:Nat):uA Tryz.prog 83 (Q24.ent N):=zA fun v a e h=>by split at h;exact lC (Q:=fun e=>lA _ _ _ _ (e a).pick.1 (e a).pick.2) h fun k=>Q24.spec N _ _ _ _ a k;cases h
noncomputable def Q25.f (N:Nat)(c:Bool)(d:List Int)(e:Bool)(f:List Int):Option (Bool×List Int×Int):=
 (Q12.f N d f).bind fun a=>
 (Q21.f N (!(c==e)) a.1).bind fun b=>
 some (b.1,b.2,a.2)
noncomputable def Q25.E (N:Nat):yC:=dF [(4,Bp),(95,oI),(97,eQ)] [(91,Q12.ent N),(48,Q21.ent N)] [] [] N [.cell 4 97,.tmp 5] [.recd [.any,.il .u32 1],.any] 0 24
noncomputable def Q25.dec (v:V)(bs:List qA):Option (Bool×List Int×Int):=match v,bs with
 | .tup [.agg [.c (.bool a),.il .u32 1 b],.c (.int .i64 c)],[]=>some (a,b,c)
 |_,_=>none
theorem Q25.f_eq (N:Nat)(a:Bool)(b:List Int)(c:Bool)(d:List Int):
  eB (Q25.E N) (bo Tryz.f80) [.agg [.c (.bool a),.il .u32 1 b],.agg [.c (.bool c),.il .u32 1 d]] [] Q25.dec=Q25.f N a b c d:=by kernel_rfl
noncomputable def Q25.ent (N:Nat):yA:=pF (Bool×List Int×Int) 0 [true,true] [.recd [.any,.il .u32 1],.recd [.any,.il .u32 1]] fun
 | [.agg [.c (.bool a),.il .u32 1 b],.agg [.c (.bool c),.il .u32 1 d]]=>some (Q25.f N a b c d,fun r=>.one (.tup [.agg [.c (.bool r.1),.il .u32 1 r.2.1],.c (.int .i64 r.2.2)]) [])
 |_=>none
theorem Q25.env (N:Nat):dB Tryz.prog (Q25.E N):=⟨(.cons kJ (.cons vC (.cons mF .nil))),(.cons (Q12.ent_ok N) (.cons (Q21.ent_ok N) .nil))⟩
theorem Q25.spec (N:Nat)(a:Bool)(c:List Int)(d:Bool)(f:List Int)(r:Bool×List Int×Int)(h:Q25.f N a c d f=some r):lA Tryz.prog 80 [.agg [.c (.bool a),.il .u32 1 c],.agg [.c (.bool d),.il .u32 1 f]] [] (.tup [.agg [.c (.bool r.1),.il .u32 1 r.2.1],.c (.int .i64 r.2.2)]) ([]):=vA (Q25.env N) dA Tryz.func80 eA.n ((Q25.f_eq ..).trans h) fun v b e=>by unfold Q25.dec at e;split at e<;>cases e;exact⟨rfl,rfl⟩
theorem Q25.ent_ok (N:Nat):uA Tryz.prog 80 (Q25.ent N):=zA fun v a e h=>by split at h;exact lC (Q:=fun e=>lA _ _ _ _ (e a).pick.1 (e a).pick.2) h fun k=>Q25.spec N _ _ _ _ a k;cases h
noncomputable def Q26.f (N:Nat)(a:Bool)(b:List Int):Option (Int):=
 (Q3.f N b).bind fun c=>
 bif c==0 then
  some 0
 else
 bif a then
  some (-1)
 else
 some 1
noncomputable def Q26.E (N:Nat):yC:=dF [(4,Bp),(95,oI),(97,eQ)] [(68,Q3.ent N)] [] [] N [.tmp 2] [.any] 0 11
noncomputable def Q26.dec (v:V)(bs:List qA):Option (Int):=match v,bs with
 | .c (.int .i64 a),[]=>some a
 |_,_=>none
theorem Q26.f_eq (N:Nat)(a:Bool)(b:List Int):
  eB (Q26.E N) (bo Tryz.f62) [.agg [.c (.bool a),.il .u32 1 b]] [] Q26.dec=Q26.f N a b:=by kernel_rfl
noncomputable def Q26.ent (N:Nat):yA:=pF (Int) 0 [true] [.recd [.any,.il .u32 1]] fun
 | [.agg [.c (.bool a),.il .u32 1 b]]=>some (Q26.f N a b,fun r=>.one (.c (.int .i64 r)) [])
 |_=>none
theorem Q26.env (N:Nat):dB Tryz.prog (Q26.E N):=⟨(.cons kJ (.cons vC (.cons mF .nil))),(.cons (Q3.ent_ok N) .nil)⟩
theorem Q26.spec (N:Nat)(a:Bool)(c:List Int)(r:Int)(h:Q26.f N a c=some r):lA Tryz.prog 62 [.agg [.c (.bool a),.il .u32 1 c]] [] (.c (.int .i64 r)) ([]):=vA (Q26.env N) dA Tryz.func62 eA.n ((Q26.f_eq ..).trans h) fun v b e=>by unfold Q26.dec at e;split at e<;>cases e;exact⟨rfl,rfl⟩
theorem Q26.ent_ok (N:Nat):uA Tryz.prog 62 (Q26.ent N):=zA fun v a e h=>by split at h;exact lC (Q:=fun e=>lA _ _ _ _ (e a).pick.1 (e a).pick.2) h fun k=>Q26.spec N _ _ a k;cases h
noncomputable def Q27.f (N:Nat)(b:Bool)(c:List Int):Option (Bool×List Int):=
 (Q21.f N (!b) c).bind fun a=>
 some (a.1,a.2)
noncomputable def Q27.E (N:Nat):yC:=dF [(4,Bp),(95,oI),(97,eQ)] [(48,Q21.ent N)] [] [] N [.cell 2 97] [.recd [.any,.il .u32 1]] 0 9
noncomputable def Q27.dec (v:V)(bs:List qA):Option (Bool×List Int):=match v,bs with
 | .agg [.c (.bool a),.il .u32 1 b],[]=>some (a,b)
 |_,_=>none
theorem Q27.f_eq (N:Nat)(a:Bool)(b:List Int):
  eB (Q27.E N) (bo Tryz.f82) [.agg [.c (.bool a),.il .u32 1 b]] [] Q27.dec=Q27.f N a b:=by kernel_rfl
noncomputable def Q27.ent (N:Nat):yA:=pF (Bool×List Int) 0 [true] [.recd [.any,.il .u32 1]] fun
 | [.agg [.c (.bool a),.il .u32 1 b]]=>some (Q27.f N a b,fun r=>.one (.agg [.c (.bool r.1),.il .u32 1 r.2]) [])
 |_=>none
theorem Q27.env (N:Nat):dB Tryz.prog (Q27.E N):=⟨(.cons kJ (.cons vC (.cons mF .nil))),(.cons (Q21.ent_ok N) .nil)⟩
theorem Q27.spec (N:Nat)(a:Bool)(c:List Int)(r:Bool×List Int)(h:Q27.f N a c=some r):lA Tryz.prog 82 [.agg [.c (.bool a),.il .u32 1 c]] [] (.agg [.c (.bool r.1),.il .u32 1 r.2]) ([]):=vA (Q27.env N) dA Tryz.func82 eA.n ((Q27.f_eq ..).trans h) fun v b e=>by unfold Q27.dec at e;split at e<;>cases e;exact⟨rfl,rfl⟩
theorem Q27.ent_ok (N:Nat):uA Tryz.prog 82 (Q27.ent N):=zA fun v a e h=>by split at h;exact lC (Q:=fun e=>lA _ _ _ _ (e a).pick.1 (e a).pick.2) h fun k=>Q27.spec N _ _ a k;cases h
noncomputable def Q28.f (N:Nat)(c:Bool)(d:List Int)(e:Bool)(f:List Int):Option (Bool×List Int×Int):=
 (Q27.f N e f).bind fun b=>
 (Q24.f N c d b.1 b.2).bind fun a=>
 some (a.1,a.2.1,a.2.2)
noncomputable def Q28.E (N:Nat):yC:=dF [(97,eQ)] [(82,Q27.ent N),(83,Q24.ent N)] [] [] N [.cell 4 97,.tmp 5] [.recd [.any,.il .u32 1],.any] 0 12
noncomputable def Q28.dec (v:V)(bs:List qA):Option (Bool×List Int×Int):=match v,bs with
 | .tup [.agg [.c (.bool a),.il .u32 1 b],.c (.int .i64 c)],[]=>some (a,b,c)
 |_,_=>none
theorem Q28.f_eq (N:Nat)(a:Bool)(b:List Int)(c:Bool)(d:List Int):
  eB (Q28.E N) (bo Tryz.f79) [.agg [.c (.bool a),.il .u32 1 b],.agg [.c (.bool c),.il .u32 1 d]] [] Q28.dec=Q28.f N a b c d:=by kernel_rfl
noncomputable def Q28.ent (N:Nat):yA:=pF (Bool×List Int×Int) 0 [true,true] [.recd [.any,.il .u32 1],.recd [.any,.il .u32 1]] fun
 | [.agg [.c (.bool a),.il .u32 1 b],.agg [.c (.bool c),.il .u32 1 d]]=>some (Q28.f N a b c d,fun r=>.one (.tup [.agg [.c (.bool r.1),.il .u32 1 r.2.1],.c (.int .i64 r.2.2)]) [])
 |_=>none
theorem Q28.env (N:Nat):dB Tryz.prog (Q28.E N):=⟨(.cons mF .nil),(.cons (Q27.ent_ok N) (.cons (Q24.ent_ok N) .nil))⟩
theorem Q28.spec (N:Nat)(a:Bool)(c:List Int)(d:Bool)(f:List Int)(r:Bool×List Int×Int)(h:Q28.f N a c d f=some r):lA Tryz.prog 79 [.agg [.c (.bool a),.il .u32 1 c],.agg [.c (.bool d),.il .u32 1 f]] [] (.tup [.agg [.c (.bool r.1),.il .u32 1 r.2.1],.c (.int .i64 r.2.2)]) ([]):=vA (Q28.env N) dA Tryz.func79 eA.n ((Q28.f_eq ..).trans h) fun v b e=>by unfold Q28.dec at e;split at e<;>cases e;exact⟨rfl,rfl⟩
theorem Q28.ent_ok (N:Nat):uA Tryz.prog 79 (Q28.ent N):=zA fun v a e h=>by split at h;exact lC (Q:=fun e=>lA _ _ _ _ (e a).pick.1 (e a).pick.2) h fun k=>Q28.spec N _ _ _ _ a k;cases h
noncomputable def Q29.f (N:Nat)(h:Bool)(k:List Int)(i:Bool)(j:List Int):Option (Bool×List Int×Bool×List Int×Int):=
 (Q19.f N k j).bind fun a=>
 bif a.2.2 != 0 then
  some (false,[],false,[],a.2.2)
 else
 bif h then
  (Q3.f N a.2.1).bind fun l=>
  bif decide (l>0)then
   (Q5.f N 1).bind fun m=>
   (Q8.f N a.1 m).bind fun o=>
   (Q10.f N j a.2.1).bind fun p=>
   (Q21.f N (!(h==i)) o.1).bind fun b=>
   (Q21.f N false p.1).bind fun c=>
   some (b.1,b.2,c.1,c.2,0)
  else
  (Q21.f N (!(h==i)) a.1).bind fun d=>
  (Q21.f N false a.2.1).bind fun e=>
  some (d.1,d.2,e.1,e.2,0)
 else
 (Q21.f N (!(h==i)) a.1).bind fun f=>
 (Q21.f N false a.2.1).bind fun g=>
 some (f.1,f.2,g.1,g.2,0)
noncomputable def Q29.E (N:Nat):yC:=dF [(4,Bp),(95,oI),(97,eQ)] [(77,Q19.ent N),(68,Q3.ent N),(67,Q5.ent N),(92,Q8.ent N),(93,Q10.ent N),(48,Q21.ent N)] [] [] N [.cell 4 97,.cell 5 97,.tmp 6] [.recd [.any,.il .u32 1],.recd [.any,.il .u32 1],.any] 0 52
noncomputable def Q29.dec (v:V)(bs:List qA):Option (Bool×List Int×Bool×List Int×Int):=match v,bs with
 | .tup [.agg [.c (.bool a),.il .u32 1 b],.agg [.c (.bool c),.il .u32 1 d],.c (.int .i64 e)],[]=>some (a,b,c,d,e)
 |_,_=>none
theorem Q29.f_eq (N:Nat)(a:Bool)(b:List Int)(c:Bool)(d:List Int):
  eB (Q29.E N) (bo Tryz.f81) [.agg [.c (.bool a),.il .u32 1 b],.agg [.c (.bool c),.il .u32 1 d]] [] Q29.dec=Q29.f N a b c d:=by kernel_rfl
noncomputable def Q29.ent (N:Nat):yA:=pF (Bool×List Int×Bool×List Int×Int) 0 [true,true] [.recd [.any,.il .u32 1],.recd [.any,.il .u32 1]] fun
 | [.agg [.c (.bool a),.il .u32 1 b],.agg [.c (.bool c),.il .u32 1 d]]=>some (Q29.f N a b c d,fun r=>.one (.tup [.agg [.c (.bool r.1),.il .u32 1 r.2.1],.agg [.c (.bool r.2.2.1),.il .u32 1 r.2.2.2.1],.c (.int .i64 r.2.2.2.2)]) [])
 |_=>none
theorem Q29.env (N:Nat):dB Tryz.prog (Q29.E N):=⟨(.cons kJ (.cons vC (.cons mF .nil))),(.cons (Q19.ent_ok N) (.cons (Q3.ent_ok N) (.cons (Q5.ent_ok N) (.cons (Q8.ent_ok N) (.cons (Q10.ent_ok N) (.cons (Q21.ent_ok N) .nil))))))⟩
theorem Q29.spec (N:Nat)(a:Bool)(c:List Int)(d:Bool)(f:List Int)(r:Bool×List Int×Bool×List Int×Int)(h:Q29.f N a c d f=some r):lA Tryz.prog 81 [.agg [.c (.bool a),.il .u32 1 c],.agg [.c (.bool d),.il .u32 1 f]] [] (.tup [.agg [.c (.bool r.1),.il .u32 1 r.2.1],.agg [.c (.bool r.2.2.1),.il .u32 1 r.2.2.2.1],.c (.int .i64 r.2.2.2.2)]) ([]):=vA (Q29.env N) dA Tryz.func81 eA.n ((Q29.f_eq ..).trans h) fun v b e=>by unfold Q29.dec at e;split at e<;>cases e;exact⟨rfl,rfl⟩
theorem Q29.ent_ok (N:Nat):uA Tryz.prog 81 (Q29.ent N):=zA fun v a e h=>by split at h;exact lC (Q:=fun e=>lA _ _ _ _ (e a).pick.1 (e a).pick.2) h fun k=>Q29.spec N _ _ _ _ a k;cases h
noncomputable def Q30.f (N:Nat)(b:Bool)(c:List Int)(d:Bool)(e:List Int):Option (Bool×List Int×Int):=
 (Q29.f N b c d e).bind fun a=>
 bif a.2.2.2.2 != 0 then
  some (false,[],a.2.2.2.2)
 else
 (Q26.f N a.2.2.1 a.2.2.2.1).bind fun f=>
 bif f != 0 then
  some (false,[],2)
 else
 some (a.1,a.2.1,0)
noncomputable def Q30.E (N:Nat):yC:=dF [(4,Bp),(95,oI),(97,eQ)] [(81,Q29.ent N),(62,Q26.ent N)] [] [] N [.cell 4 97,.tmp 5] [.recd [.any,.il .u32 1],.any] 0 27
noncomputable def Q30.dec (v:V)(bs:List qA):Option (Bool×List Int×Int):=match v,bs with
 | .tup [.agg [.c (.bool a),.il .u32 1 b],.c (.int .i64 c)],[]=>some (a,b,c)
 |_,_=>none
theorem Q30.f_eq (N:Nat)(a:Bool)(b:List Int)(c:Bool)(d:List Int):
  eB (Q30.E N) (bo Tryz.f66) [.agg [.c (.bool a),.il .u32 1 b],.agg [.c (.bool c),.il .u32 1 d]] [] Q30.dec=Q30.f N a b c d:=by kernel_rfl
noncomputable def Q30.ent (N:Nat):yA:=pF (Bool×List Int×Int) 0 [true,true] [.recd [.any,.il .u32 1],.recd [.any,.il .u32 1]] fun
 | [.agg [.c (.bool a),.il .u32 1 b],.agg [.c (.bool c),.il .u32 1 d]]=>some (Q30.f N a b c d,fun r=>.one (.tup [.agg [.c (.bool r.1),.il .u32 1 r.2.1],.c (.int .i64 r.2.2)]) [])
 |_=>none
theorem Q30.env (N:Nat):dB Tryz.prog (Q30.E N):=⟨(.cons kJ (.cons vC (.cons mF .nil))),(.cons (Q29.ent_ok N) (.cons (Q26.ent_ok N) .nil))⟩
theorem Q30.spec (N:Nat)(a:Bool)(c:List Int)(d:Bool)(f:List Int)(r:Bool×List Int×Int)(h:Q30.f N a c d f=some r):lA Tryz.prog 66 [.agg [.c (.bool a),.il .u32 1 c],.agg [.c (.bool d),.il .u32 1 f]] [] (.tup [.agg [.c (.bool r.1),.il .u32 1 r.2.1],.c (.int .i64 r.2.2)]) ([]):=vA (Q30.env N) dA Tryz.func66 eA.n ((Q30.f_eq ..).trans h) fun v b e=>by unfold Q30.dec at e;split at e<;>cases e;exact⟨rfl,rfl⟩
theorem Q30.ent_ok (N:Nat):uA Tryz.prog 66 (Q30.ent N):=zA fun v a e h=>by split at h;exact lC (Q:=fun e=>lA _ _ _ _ (e a).pick.1 (e a).pick.2) h fun k=>Q30.spec N _ _ _ _ a k;cases h
noncomputable def Q31.f (N:Nat)(a:Bool)(b:List Int)(c:Int):Option (Bool×List Int):=
 some (a,b)
noncomputable def Q31.E (N:Nat):yC:=dF [(97,eQ)] [] [] [] N [.cell 4 97] [.recd [.any,.il .u32 1]] 0 6
noncomputable def Q31.dec (v:V)(bs:List qA):Option (Bool×List Int):=match v,bs with
 | .agg [.c (.bool a),.il .u32 1 b],[]=>some (a,b)
 |_,_=>none
theorem Q31.f_eq (N:Nat)(a:Bool)(b:List Int)(c:Int):
  eB (Q31.E N) (bo Tryz.f65) [.agg [.c (.bool a),.il .u32 1 b],.c (.int .i64 c)] [] Q31.dec=Q31.f N a b c:=by kernel_rfl
noncomputable def Q31.ent (N:Nat):yA:=pF (Bool×List Int) 0 [true,true] [.recd [.any,.il .u32 1],.any] fun
 | [.agg [.c (.bool a),.il .u32 1 b],.c (.int .i64 c)]=>some (Q31.f N a b c,fun r=>.one (.agg [.c (.bool r.1),.il .u32 1 r.2]) [])
 |_=>none
theorem Q31.env (N:Nat):dB Tryz.prog (Q31.E N):=⟨(.cons mF .nil),.nil⟩
theorem Q31.spec (N:Nat)(a:Bool)(c:List Int)(d:Int)(r:Bool×List Int)(h:Q31.f N a c d=some r):lA Tryz.prog 65 [.agg [.c (.bool a),.il .u32 1 c],.c (.int .i64 d)] [] (.agg [.c (.bool r.1),.il .u32 1 r.2]) ([]):=vA (Q31.env N) dA Tryz.func65 eA.n ((Q31.f_eq ..).trans h) fun v b e=>by unfold Q31.dec at e;split at e<;>cases e;exact⟨rfl,rfl⟩
theorem Q31.ent_ok (N:Nat):uA Tryz.prog 65 (Q31.ent N):=zA fun v a e h=>by split at h;exact lC (Q:=fun e=>lA _ _ _ _ (e a).pick.1 (e a).pick.2) h fun k=>Q31.spec N _ _ _ a k;cases h
noncomputable def Q32.f (N:Nat)(e:Bool)(f:List Int)(g:Bool)(h:List Int)(i:Bool)(j:List Int):Option (Bool×List Int):=
 (Q25.f N g h i j).bind fun b=>
 (Q31.f N b.1 b.2.1 b.2.2).bind fun d=>
 (Q28.f N e f d.1 d.2).bind fun c=>
 (Q31.f N c.1 c.2.1 c.2.2).bind fun a=>
 some (a.1,a.2)
noncomputable def Q32.E (N:Nat):yC:=dF [(97,eQ)] [(80,Q25.ent N),(65,Q31.ent N),(79,Q28.ent N)] [] [] N [.cell 6 97] [.recd [.any,.il .u32 1]] 0 18
noncomputable def Q32.dec (v:V)(bs:List qA):Option (Bool×List Int):=match v,bs with
 | .agg [.c (.bool a),.il .u32 1 b],[]=>some (a,b)
 |_,_=>none
theorem Q32.f_eq (N:Nat)(a:Bool)(b:List Int)(c:Bool)(d:List Int)(e:Bool)(f:List Int):
  eB (Q32.E N) (bo Tryz.f78) [.agg [.c (.bool a),.il .u32 1 b],.agg [.c (.bool c),.il .u32 1 d],.agg [.c (.bool e),.il .u32 1 f]] [] Q32.dec=Q32.f N a b c d e f:=by kernel_rfl
noncomputable def Q32.ent (N:Nat):yA:=pF (Bool×List Int) 0 [true,true,true] [.recd [.any,.il .u32 1],.recd [.any,.il .u32 1],.recd [.any,.il .u32 1]] fun
 | [.agg [.c (.bool a),.il .u32 1 b],.agg [.c (.bool c),.il .u32 1 d],.agg [.c (.bool e),.il .u32 1 f]]=>some (Q32.f N a b c d e f,fun r=>.one (.agg [.c (.bool r.1),.il .u32 1 r.2]) [])
 |_=>none
theorem Q32.env (N:Nat):dB Tryz.prog (Q32.E N):=⟨(.cons mF .nil),(.cons (Q25.ent_ok N) (.cons (Q31.ent_ok N) (.cons (Q28.ent_ok N) .nil)))⟩
theorem Q32.spec (N:Nat)(a:Bool)(c:List Int)(d:Bool)(f:List Int)(g:Bool)(i:List Int)(r:Bool×List Int)(h:Q32.f N a c d f g i=some r):lA Tryz.prog 78 [.agg [.c (.bool a),.il .u32 1 c],.agg [.c (.bool d),.il .u32 1 f],.agg [.c (.bool g),.il .u32 1 i]] [] (.agg [.c (.bool r.1),.il .u32 1 r.2]) ([]):=vA (Q32.env N) dA Tryz.func78 eA.n ((Q32.f_eq ..).trans h) fun v b e=>by unfold Q32.dec at e;split at e<;>cases e;exact⟨rfl,rfl⟩
theorem Q32.ent_ok (N:Nat):uA Tryz.prog 78 (Q32.ent N):=zA fun v a e h=>by split at h;exact lC (Q:=fun e=>lA _ _ _ _ (e a).pick.1 (e a).pick.2) h fun k=>Q32.spec N _ _ _ _ _ _ a k;cases h
noncomputable def Q33.l5 {R:Type}(N:Nat):Nat→Bool→List Int→Bool→List Int→Bool→Bool→Bool→List Int→Bool→List Int→Bool→List Int→Bool→List Int→Bool→List Int→Bool→List Int→(Bool→List Int→Bool→List Int→Bool→Bool→Bool→List Int→Bool→List Int→Option R)→Option R
 |0,_,_,_,_,_,_,_,_,_,_,_,_,_,_,_,_,_,_,_=>none
 |n+1,x,f,g,h,i,j,b,c,u,v,k,l,m,o,p,q,r,s,w=>
  (Q26.f N b c).bind fun t=>
  bif t==0 then
   w x f g h i j k l p q
  else
  (Q29.f N u v b c).bind fun a=>
  (Q32.f N k l a.1 a.2.1 m o).bind fun d=>
  (Q32.f N p q a.1 a.2.1 r s).bind fun e=>
  Q33.l5 N n x f g h i j a.2.2.1 a.2.2.2.1 b c m o d.1 d.2 r s e.1 e.2 w
noncomputable def Q33.f (N:Nat)(r:Bool)(s:List Int)(j:Bool)(k:List Int):Option (Bool×List Int×Bool×List Int):=
 (Q29.f N r s j k).bind fun i=>
 (Q22.f N 1).bind fun t=>
 (Q22.f N 1).bind fun u=>
 (Q27.f N i.1 i.2.1).bind fun v=>
 Q33.l5 N N r s j k false false i.2.2.1 i.2.2.2.1 j k false [] t.1 t.2 u.1 u.2 v.1 v.2
  (fun m o p q w x c d g h=>
   (Q26.f N c d).bind fun l=>
   bif decide (l<0)then
    (Q24.f N c d p q).bind fun a=>
    (Q31.f N a.1 a.2.1 a.2.2).bind fun e=>
    (Q28.f N g h m o).bind fun b=>
    (Q31.f N b.1 b.2.1 b.2.2).bind fun f=>
    some (e.1,e.2,f.1,f.2)
   else
   some (c,d,g,h))
noncomputable def Q33.h5:cE:=⟨[(2,.box [.any,.il .u32 1]),(3,.box [.any,.il .u32 1]),(4,.box [.any,.any]),(5,.box [.any,.any]),(6,.any),(8,.box [.any,.il .u32 1]),(10,.box [.any,.il .u32 1]),(11,.box [.any,.il .u32 1]),(12,.box [.any,.il .u32 1]),(13,.box [.any,.il .u32 1]),(14,.box [.any,.il .u32 1])],[(2,.box [.any,.il .u32 1]),(3,.box [.any,.il .u32 1]),(4,.box [.any,.any]),(5,.box [.any,.any]),(11,.box [.any,.il .u32 1]),(13,.box [.any,.il .u32 1])]⟩
noncomputable def Q33.c5 (N:Nat):tK:=⟨fun vs H k=>match vs,H with
 | [.ptr 0 0 2,.ptr 1 0 2,.ptr 2 0 2,.ptr 3 0 2,.fn 78 [] [],.ptr 4 0 2,.ptr 5 0 2,.ptr 6 0 2,.ptr 7 0 2,.ptr 8 0 2,.ptr 9 0 2],[.vals [.c (.bool x9),.il .u32 1 a],.vals [.c (.bool b),.il .u32 1 c],.vals [.c (.bool d),.c (.slice none 0 0)],.vals [.c (.bool e),.c (.slice none 0 0)],.vals [.c (.bool f),.il .u32 1 g],.vals [.c (.bool h),.il .u32 1 i],.vals [.c (.bool j),.il .u32 1 l],.vals [.c (.bool m),.il .u32 1 o],.vals [.c (.bool p),.il .u32 1 q],.vals [.c (.bool r),.il .u32 1 s]]=>Q33.l5 N N x9 a b c d e f g h i j l m o p q r s (fun t u v w x y z x35 x36 x37=>k (.exit 0) ⟨iE Q33.h5.out [.ptr 0 0 2,.ptr 1 0 2,.ptr 2 0 2,.ptr 3 0 2,.ptr 4 0 2,.ptr 5 0 2],[.vals [.c (.bool t),.il .u32 1 u],.vals [.c (.bool v),.il .u32 1 w],.vals [.c (.bool x),.c (.slice none 0 0)],.vals [.c (.bool y),.c (.slice none 0 0)],.vals [.c (.bool z),.il .u32 1 x35],.vals [.c (.bool x36),.il .u32 1 x37]]⟩)
 |_,_=>none⟩
noncomputable def Q33.E (N:Nat):yC:=dF [(4,Bp),(95,oI),(97,eQ)] [(81,Q29.ent N),(47,Q22.ent N),(82,Q27.ent N),(62,Q26.ent N),(78,Q32.ent N),(83,Q24.ent N),(65,Q31.ent N),(79,Q28.ent N)] [(5,Q33.h5)] [(5,Q33.c5 N)] N [.cell 4 97,.cell 5 97] [.recd [.any,.il .u32 1],.recd [.any,.il .u32 1]] 0 72
noncomputable def Q33.b5:Code:=bB ((jA (bo Tryz.f64)).getD 1 .skip)
theorem Q33.l5_eq {R:Type}(N n:Nat)(x9:Bool)(a:List Int)(b:Bool)(c:List Int)(d e f:Bool)(g:List Int)(h:Bool)(i:List Int)(j:Bool)(l:List Int)(m:Bool)(o:List Int)(p:Bool)(q:List Int)(r:Bool)(t:List Int)(k:Ex→St→Option R):
  vB 0 Q33.h5 (fun s k=>kB (Q33.E N) 390 Q33.b5 s k) n [.ptr 0 0 2,.ptr 1 0 2,.ptr 2 0 2,.ptr 3 0 2,.fn 78 [] [],.ptr 4 0 2,.ptr 5 0 2,.ptr 6 0 2,.ptr 7 0 2,.ptr 8 0 2,.ptr 9 0 2] [.vals [.c (.bool x9),.il .u32 1 a],.vals [.c (.bool b),.il .u32 1 c],.vals [.c (.bool d),.c (.slice none 0 0)],.vals [.c (.bool e),.c (.slice none 0 0)],.vals [.c (.bool f),.il .u32 1 g],.vals [.c (.bool h),.il .u32 1 i],.vals [.c (.bool j),.il .u32 1 l],.vals [.c (.bool m),.il .u32 1 o],.vals [.c (.bool p),.il .u32 1 q],.vals [.c (.bool r),.il .u32 1 t]] k=Q33.l5 N n x9 a b c d e f g h i j l m o p q r t (fun u v w x y z x34 x35 x36 x37=>k (.exit 0) ⟨iE Q33.h5.out [.ptr 0 0 2,.ptr 1 0 2,.ptr 2 0 2,.ptr 3 0 2,.ptr 4 0 2,.ptr 5 0 2],[.vals [.c (.bool u),.il .u32 1 v],.vals [.c (.bool w),.il .u32 1 x],.vals [.c (.bool y),.c (.slice none 0 0)],.vals [.c (.bool z),.c (.slice none 0 0)],.vals [.c (.bool x34),.il .u32 1 x35],.vals [.c (.bool x36),.il .u32 1 x37]]⟩):=by
 induction n generalizing x9 a b c d e f g h i j l m o p q r t with
 |zero=>kernel_rfl
 |succ n ih=>
  simp only[Q33.l5,←ih]
  kernel_rfl
noncomputable def Q33.dec (v:V)(bs:List qA):Option (Bool×List Int×Bool×List Int):=match v,bs with
 | .tup [.agg [.c (.bool a),.il .u32 1 b],.agg [.c (.bool c),.il .u32 1 d]],[]=>some (a,b,c,d)
 |_,_=>none
theorem Q33.f_eq (N:Nat)(a:Bool)(b:List Int)(c:Bool)(d:List Int):
  eB (Q33.E N) (bo Tryz.f64) [.agg [.c (.bool a),.il .u32 1 b],.agg [.c (.bool c),.il .u32 1 d]] [] Q33.dec=Q33.f N a b c d:=by kernel_rfl
noncomputable def Q33.ent (N:Nat):yA:=pF (Bool×List Int×Bool×List Int) 0 [true,true] [.recd [.any,.il .u32 1],.recd [.any,.il .u32 1]] fun
 | [.agg [.c (.bool a),.il .u32 1 b],.agg [.c (.bool c),.il .u32 1 d]]=>some (Q33.f N a b c d,fun r=>.one (.tup [.agg [.c (.bool r.1),.il .u32 1 r.2.1],.agg [.c (.bool r.2.2.1),.il .u32 1 r.2.2.2]]) [])
 |_=>none
theorem Q33.env (N:Nat):dB Tryz.prog (Q33.E N):=⟨(.cons kJ (.cons vC (.cons mF .nil))),(.cons (Q29.ent_ok N) (.cons (Q22.ent_ok N) (.cons (Q27.ent_ok N) (.cons (Q26.ent_ok N) (.cons (Q32.ent_ok N) (.cons (Q24.ent_ok N) (.cons (Q31.ent_ok N) (.cons (Q28.ent_ok N) .nil))))))))⟩
theorem Q33.k5 (N:Nat):qC Tryz.prog Tryz.f64 (Q33.E N) (.loop Q33.b5):=vD (Q33.env N) dA 390 (c:=Q33.c5 N) eA.n fun R vs H k r h=>by unfold Q33.c5 at h;dsimp only at h;split at h;exact⟨_,Q33.l5_eq .. ▸h⟩;cases h
theorem Q33.spec (N:Nat)(a:Bool)(c:List Int)(d:Bool)(f:List Int)(r:Bool×List Int×Bool×List Int)(h:Q33.f N a c d f=some r):lA Tryz.prog 64 [.agg [.c (.bool a),.il .u32 1 c],.agg [.c (.bool d),.il .u32 1 f]] [] (.tup [.agg [.c (.bool r.1),.il .u32 1 r.2.1],.agg [.c (.bool r.2.2.1),.il .u32 1 r.2.2.2]]) ([]):=vA (Q33.env N) dA Tryz.func64 (eA.of (l:=[(.scope (bB ((jA (bo Tryz.f64)).getD 0 .skip))),(.loop (bB ((jA (bo Tryz.f64)).getD 1 .skip)))]) (by kernel_rfl) (eA.cons (xT (by kernel_rfl)) (eA.cons (Q33.k5 N) eA.nil))) ((Q33.f_eq ..).trans h) fun v b e=>by unfold Q33.dec at e;split at e<;>cases e;exact⟨rfl,rfl⟩
theorem Q33.ent_ok (N:Nat):uA Tryz.prog 64 (Q33.ent N):=zA fun v a e h=>by split at h;exact lC (Q:=fun e=>lA _ _ _ _ (e a).pick.1 (e a).pick.2) h fun k=>Q33.spec N _ _ _ _ a k;cases h
noncomputable def Q34.f (N:Nat)(k:Bool)(h:List Int)(l:Bool)(j:List Int):Option (List Int×Bool×List Int×Bool×List Int):=
 (Q26.f N l j).bind fun p=>
 bif p==0 then
  (Q26.f N k h).bind fun q=>
  (Q22.f N q).bind fun m=>
  some (h,m.1,m.2,false,[])
 else
 (Q20.f N h j).bind fun o=>
 (Q21.f N false o).bind fun i=>
 (Q30.f N k h i.1 i.2).bind fun b=>
 (Q31.f N b.1 b.2.1 b.2.2).bind fun d=>
 (Q21.f N false j).bind fun e=>
 (Q30.f N e.1 e.2 i.1 i.2).bind fun c=>
 (Q31.f N c.1 c.2.1 c.2.2).bind fun f=>
 (Q33.f N d.1 d.2 f.1 f.2).bind fun a=>
 (Q21.f N (!(a.2.2.1==l)) a.2.2.2).bind fun g=>
 some (o,a.1,a.2.1,g.1,g.2)
noncomputable def Q34.E (N:Nat):yC:=dF [(4,Bp),(95,oI),(97,eQ)] [(62,Q26.ent N),(47,Q22.ent N),(63,Q20.ent N),(48,Q21.ent N),(66,Q30.ent N),(65,Q31.ent N),(64,Q33.ent N)] [] [] N [.cell 4 95,.cell 5 97,.cell 6 97] [.recd [.il .u32 1],.recd [.any,.il .u32 1],.recd [.any,.il .u32 1]] 0 52
noncomputable def Q34.dec (v:V)(bs:List qA):Option (List Int×Bool×List Int×Bool×List Int):=match v,bs with
 | .tup [.agg [.il .u32 1 a],.agg [.c (.bool b),.il .u32 1 c],.agg [.c (.bool d),.il .u32 1 e]],[]=>some (a,b,c,d,e)
 |_,_=>none
theorem Q34.f_eq (N:Nat)(a:Bool)(b:List Int)(c:Bool)(d:List Int):
  eB (Q34.E N) (bo Tryz.f46) [.agg [.c (.bool a),.il .u32 1 b],.agg [.c (.bool c),.il .u32 1 d]] [] Q34.dec=Q34.f N a b c d:=by kernel_rfl
noncomputable def Q34.ent (N:Nat):yA:=pF (List Int×Bool×List Int×Bool×List Int) 0 [true,true] [.recd [.any,.il .u32 1],.recd [.any,.il .u32 1]] fun
 | [.agg [.c (.bool a),.il .u32 1 b],.agg [.c (.bool c),.il .u32 1 d]]=>some (Q34.f N a b c d,fun r=>.one (.tup [.agg [.il .u32 1 r.1],.agg [.c (.bool r.2.1),.il .u32 1 r.2.2.1],.agg [.c (.bool r.2.2.2.1),.il .u32 1 r.2.2.2.2]]) [])
 |_=>none
theorem Q34.env (N:Nat):dB Tryz.prog (Q34.E N):=⟨(.cons kJ (.cons vC (.cons mF .nil))),(.cons (Q26.ent_ok N) (.cons (Q22.ent_ok N) (.cons (Q20.ent_ok N) (.cons (Q21.ent_ok N) (.cons (Q30.ent_ok N) (.cons (Q31.ent_ok N) (.cons (Q33.ent_ok N) .nil)))))))⟩
theorem Q34.spec (N:Nat)(a:Bool)(c:List Int)(d:Bool)(f:List Int)(r:List Int×Bool×List Int×Bool×List Int)(h:Q34.f N a c d f=some r):lA Tryz.prog 46 [.agg [.c (.bool a),.il .u32 1 c],.agg [.c (.bool d),.il .u32 1 f]] [] (.tup [.agg [.il .u32 1 r.1],.agg [.c (.bool r.2.1),.il .u32 1 r.2.2.1],.agg [.c (.bool r.2.2.2.1),.il .u32 1 r.2.2.2.2]]) ([]):=vA (Q34.env N) dA Tryz.func46 eA.n ((Q34.f_eq ..).trans h) fun v b e=>by unfold Q34.dec at e;split at e<;>cases e;exact⟨rfl,rfl⟩
theorem Q34.ent_ok (N:Nat):uA Tryz.prog 46 (Q34.ent N):=zA fun v a e h=>by split at h;exact lC (Q:=fun e=>lA _ _ _ _ (e a).pick.1 (e a).pick.2) h fun k=>Q34.spec N _ _ _ _ a k;cases h
noncomputable def Q35.f (N:Nat)(b c:Int):Option (Int×Int×Int):=
 bif decide ((E6 b c)>4611686018427387904)then
  some (0,0,0)
 else
 bif decide ((Qr b c)<(-4611686018427387904))then
  some (0,0,0)
 else
 (Q22.f N b).bind fun d=>
 (Q22.f N c).bind fun e=>
 (Q34.f N d.1 d.2 e.1 e.2).bind fun a=>
 (Q21.f N false a.1).bind fun f=>
 (Q23.f N f.1 f.2).bind fun g=>
 (Q23.f N a.2.1 a.2.2.1).bind fun h=>
 (Q23.f N a.2.2.2.1 a.2.2.2.2).bind fun i=>
 some (g.1,h.1,i.1)
noncomputable def Q35.E (N:Nat):yC:=dF [(95,oI),(97,eQ)] [(47,Q22.ent N),(46,Q34.ent N),(48,Q21.ent N),(49,Q23.ent N)] [] [] N [.tmp 4,.tmp 5,.tmp 6] [.any,.any,.any] 0 48
noncomputable def Q35.dec (v:V)(bs:List qA):Option (Int×Int×Int):=match v,bs with
 | .tup [.c (.int .i64 a),.c (.int .i64 b),.c (.int .i64 c)],[]=>some (a,b,c)
 |_,_=>none
theorem Q35.f_eq (N:Nat)(a b:Int):
  eB (Q35.E N) (bo Tryz.f36) [.c (.int .i64 a),.c (.int .i64 b)] [] Q35.dec=Q35.f N a b:=by kernel_rfl
noncomputable def Q35.ent (N:Nat):yA:=pF (Int×Int×Int) 0 [true,true] [.any,.any] fun
 | [.c (.int .i64 a),.c (.int .i64 b)]=>some (Q35.f N a b,fun r=>.one (.tup [.c (.int .i64 r.1),.c (.int .i64 r.2.1),.c (.int .i64 r.2.2)]) [])
 |_=>none
theorem Q35.env (N:Nat):dB Tryz.prog (Q35.E N):=⟨(.cons vC (.cons mF .nil)),(.cons (Q22.ent_ok N) (.cons (Q34.ent_ok N) (.cons (Q21.ent_ok N) (.cons (Q23.ent_ok N) .nil))))⟩
theorem Q35.spec (N:Nat)(a c:Int)(r:Int×Int×Int)(h:Q35.f N a c=some r):lA Tryz.prog 36 [.c (.int .i64 a),.c (.int .i64 c)] [] (.tup [.c (.int .i64 r.1),.c (.int .i64 r.2.1),.c (.int .i64 r.2.2)]) ([]):=vA (Q35.env N) dA Tryz.func36 eA.n ((Q35.f_eq ..).trans h) fun v b e=>by unfold Q35.dec at e;split at e<;>cases e;exact⟨rfl,rfl⟩
theorem Q35.ent_ok (N:Nat):uA Tryz.prog 36 (Q35.ent N):=zA fun v a e h=>by split at h;exact lC (Q:=fun e=>lA _ _ _ _ (e a).pick.1 (e a).pick.2) h fun k=>Q35.spec N _ _ a k;cases h
noncomputable def Q36.f (N:Nat)(a b c:Int):Option (Bool):=
 bif decide ((E6 (E6 a b) c)≤1073741824)then
  some (decide ((Qr (Qr a b) c)≥(-1073741824)))
 else
 some false
noncomputable def Q36.E (N:Nat):yC:=dF [(2,iR),(36,sK)] [] [] [] N [.tmp 2] [.any] 0 21
noncomputable def Q36.dec (v:V)(bs:List qA):Option (Bool):=match v,bs with
 | .c (.bool a),[]=>some a
 |_,_=>none
theorem Q36.f_eq (N:Nat)(a b c:Int):
  eB (Q36.E N) (bo Tryz.f35) [.agg [.c (.int .i64 a),.c (.int .i64 b),.c (.int .i64 c)]] [] Q36.dec=Q36.f N a b c:=by kernel_rfl
noncomputable def Q36.ent (N:Nat):yA:=pF (Bool) 0 [true] [.recd [.any,.any,.any]] fun
 | [.agg [.c (.int .i64 a),.c (.int .i64 b),.c (.int .i64 c)]]=>some (Q36.f N a b c,fun r=>.one (.c (.bool r)) [])
 |_=>none
theorem Q36.env (N:Nat):dB Tryz.prog (Q36.E N):=⟨(.cons aD (.cons tD .nil)),.nil⟩
theorem Q36.spec (N:Nat)(a c d:Int)(r:Bool)(h:Q36.f N a c d=some r):lA Tryz.prog 35 [.agg [.c (.int .i64 a),.c (.int .i64 c),.c (.int .i64 d)]] [] (.c (.bool r)) ([]):=vA (Q36.env N) dA Tryz.func35 eA.n ((Q36.f_eq ..).trans h) fun v b e=>by unfold Q36.dec at e;split at e<;>cases e;exact⟨rfl,rfl⟩
theorem Q36.ent_ok (N:Nat):uA Tryz.prog 35 (Q36.ent N):=zA fun v a e h=>by split at h;exact lC (Q:=fun e=>lA _ _ _ _ (e a).pick.1 (e a).pick.2) h fun k=>Q36.spec N _ _ _ a k;cases h
noncomputable def Q37.f (N:Nat)(b a c:Int):Option (Int):=
 (Q36.f N b a c).bind fun d=>
 bif !d then
  some 0
 else
 some (aA ((aA (a*a))- (aA ((aA (4*b))*c))))
noncomputable def Q37.E (N:Nat):yC:=dF [(2,iR),(36,sK)] [(35,Q36.ent N)] [] [] N [.tmp 2] [.any] 0 18
noncomputable def Q37.dec (v:V)(bs:List qA):Option (Int):=match v,bs with
 | .c (.int .i64 a),[]=>some a
 |_,_=>none
theorem Q37.f_eq (N:Nat)(a b c:Int):
  eB (Q37.E N) (bo Tryz.f20) [.agg [.c (.int .i64 a),.c (.int .i64 b),.c (.int .i64 c)]] [] Q37.dec=Q37.f N a b c:=by kernel_rfl
noncomputable def Q37.ent (N:Nat):yA:=pF (Int) 0 [true] [.recd [.any,.any,.any]] fun
 | [.agg [.c (.int .i64 a),.c (.int .i64 b),.c (.int .i64 c)]]=>some (Q37.f N a b c,fun r=>.one (.c (.int .i64 r)) [])
 |_=>none
theorem Q37.env (N:Nat):dB Tryz.prog (Q37.E N):=⟨(.cons aD (.cons tD .nil)),(.cons (Q36.ent_ok N) .nil)⟩
theorem Q37.spec (N:Nat)(a c d r:Int)(h:Q37.f N a c d=some r):lA Tryz.prog 20 [.agg [.c (.int .i64 a),.c (.int .i64 c),.c (.int .i64 d)]] [] (.c (.int .i64 r)) ([]):=vA (Q37.env N) dA Tryz.func20 eA.n ((Q37.f_eq ..).trans h) fun v b e=>by unfold Q37.dec at e;split at e<;>cases e;exact⟨rfl,rfl⟩
theorem Q37.ent_ok (N:Nat):uA Tryz.prog 20 (Q37.ent N):=zA fun v a e h=>by split at h;exact lC (Q:=fun e=>lA _ _ _ _ (e a).pick.1 (e a).pick.2) h fun k=>Q37.spec N _ _ _ a k;cases h
noncomputable def Q38.f (N:Nat)(a b c:Int):Option (Int):=
 (Q37.f N a b c).bind fun d=>
 (Q36.f N a b c).bind fun e=>
 bif !e then
  some 3
 else
 bif decide (a≤0)then
  some 81
 else
 bif decide (d≥0)then
  some 81
 else
 bif decide (d<(-4294967296))then
  some 80
 else
 some 0
noncomputable def Q38.E (N:Nat):yC:=dF [(2,iR),(36,sK)] [(20,Q37.ent N),(35,Q36.ent N)] [] [] N [.tmp 2] [.any] 0 21
noncomputable def Q38.dec (v:V)(bs:List qA):Option (Int):=match v,bs with
 | .c (.int .i64 a),[]=>some a
 |_,_=>none
theorem Q38.f_eq (N:Nat)(a b c:Int):
  eB (Q38.E N) (bo Tryz.f24) [.agg [.c (.int .i64 a),.c (.int .i64 b),.c (.int .i64 c)]] [] Q38.dec=Q38.f N a b c:=by kernel_rfl
noncomputable def Q38.ent (N:Nat):yA:=pF (Int) 0 [true] [.recd [.any,.any,.any]] fun
 | [.agg [.c (.int .i64 a),.c (.int .i64 b),.c (.int .i64 c)]]=>some (Q38.f N a b c,fun r=>.one (.c (.int .i64 r)) [])
 |_=>none
theorem Q38.env (N:Nat):dB Tryz.prog (Q38.E N):=⟨(.cons aD (.cons tD .nil)),(.cons (Q37.ent_ok N) (.cons (Q36.ent_ok N) .nil))⟩
theorem Q38.spec (N:Nat)(a c d r:Int)(h:Q38.f N a c d=some r):lA Tryz.prog 24 [.agg [.c (.int .i64 a),.c (.int .i64 c),.c (.int .i64 d)]] [] (.c (.int .i64 r)) ([]):=vA (Q38.env N) dA Tryz.func24 eA.n ((Q38.f_eq ..).trans h) fun v b e=>by unfold Q38.dec at e;split at e<;>cases e;exact⟨rfl,rfl⟩
theorem Q38.ent_ok (N:Nat):uA Tryz.prog 24 (Q38.ent N):=zA fun v a e h=>by split at h;exact lC (Q:=fun e=>lA _ _ _ _ (e a).pick.1 (e a).pick.2) h fun k=>Q38.spec N _ _ _ a k;cases h
noncomputable def Q39.f (N:Nat)(a b e c f d g:Int):Option (Bool×Int×Int×Int×Int×Int×Int×Int):=
 bif decide (b≤(aA (0-a)))then
  bif !((aA (2*a))==0)then
   bif !((aA (2*a))==0)then
    bif decide ((Int.tmod (aA (a-b)) (aA (2*a)))<0)then
     some (true,a,aA (b+(aA ((aA (2*(aA ((aA (Int.tdiv (aA (a-b)) (aA (2*a))))-1))))*a))),aA ((aA ((aA ((aA (a*(aA ((aA (Int.tdiv (aA (a-b)) (aA (2*a))))-1))))+b))*(aA ((aA (Int.tdiv (aA (a-b)) (aA (2*a))))-1))))+e),c,aA ((aA ((aA ((aA (Int.tdiv (aA (a-b)) (aA (2*a))))-1))*c))+f),d,aA ((aA ((aA ((aA (Int.tdiv (aA (a-b)) (aA (2*a))))-1))*d))+g))
    else
    some (true,a,aA (b+(aA ((aA (2*(aA (Int.tdiv (aA (a-b)) (aA (2*a))))))*a))),aA ((aA ((aA ((aA (a*(aA (Int.tdiv (aA (a-b)) (aA (2*a))))))+b))*(aA (Int.tdiv (aA (a-b)) (aA (2*a))))))+e),c,aA ((aA ((aA (Int.tdiv (aA (a-b)) (aA (2*a))))*c))+f),d,aA ((aA ((aA (Int.tdiv (aA (a-b)) (aA (2*a))))*d))+g))
   else none
  else none
 else
 bif decide (b>a)then
  bif !((aA (2*a))==0)then
   bif !((aA (2*a))==0)then
    bif decide ((Int.tmod (aA (a-b)) (aA (2*a)))<0)then
     some (true,a,aA (b+(aA ((aA (2*(aA ((aA (Int.tdiv (aA (a-b)) (aA (2*a))))-1))))*a))),aA ((aA ((aA ((aA (a*(aA ((aA (Int.tdiv (aA (a-b)) (aA (2*a))))-1))))+b))*(aA ((aA (Int.tdiv (aA (a-b)) (aA (2*a))))-1))))+e),c,aA ((aA ((aA ((aA (Int.tdiv (aA (a-b)) (aA (2*a))))-1))*c))+f),d,aA ((aA ((aA ((aA (Int.tdiv (aA (a-b)) (aA (2*a))))-1))*d))+g))
    else
    some (true,a,aA (b+(aA ((aA (2*(aA (Int.tdiv (aA (a-b)) (aA (2*a))))))*a))),aA ((aA ((aA ((aA (a*(aA (Int.tdiv (aA (a-b)) (aA (2*a))))))+b))*(aA (Int.tdiv (aA (a-b)) (aA (2*a))))))+e),c,aA ((aA ((aA (Int.tdiv (aA (a-b)) (aA (2*a))))*c))+f),d,aA ((aA ((aA (Int.tdiv (aA (a-b)) (aA (2*a))))*d))+g))
   else none
  else none
 else
 bif decide (a>e)then
  some (true,e,aA (0-b),a,f,aA (0-c),g,aA (0-d))
 else
 bif a==e then
  bif decide (b<0)then
   some (true,e,aA (0-b),a,f,aA (0-c),g,aA (0-d))
  else
  some (false,a,b,e,c,f,d,g)
 else
 some (false,a,b,e,c,f,d,g)
noncomputable def Q39.E (N:Nat):yC:=dF [(2,iR),(36,sK),(78,Pp),(92,Su)] [] [] [] N [.tmp 2] [.any] 1 164
noncomputable def Q39.dec (v:V)(bs:List qA):Option (Bool×Int×Int×Int×Int×Int×Int×Int):=match v,bs with
 | .c (.bool a),[.vals [.c (.int .i64 b),.c (.int .i64 c),.c (.int .i64 d),.c (.int .i64 e),.c (.int .i64 f),.c (.int .i64 g),.c (.int .i64 h)]]=>some (a,b,c,d,e,f,g,h)
 |_,_=>none
theorem Q39.f_eq (N:Nat)(a b c d e f g:Int):
  eB (Q39.E N) (bo Tryz.f45) [.ptr 0 0 7] [.vals [.c (.int .i64 a),.c (.int .i64 b),.c (.int .i64 c),.c (.int .i64 d),.c (.int .i64 e),.c (.int .i64 f),.c (.int .i64 g)]] Q39.dec=Q39.f N a b c d e f g:=by kernel_rfl
noncomputable def Q39.ent (N:Nat):yA:={A:=Bool×Int×Int×Int×Int×Int×Int×Int,fresh:=0,imm:=[false],dec:=fun args bs=>match yJ (rA bs) [false] args,bs with
 | [.ptr 0 0 7],[.vals [.c (.int .i64 a),.c (.int .i64 b),.c (.int .i64 c),.c (.int .i64 d),.c (.int .i64 e),.c (.int .i64 f),.c (.int .i64 g)]]=>some (Q39.f N a b c d e f g,fun r=>.one (.c (.bool r.1)) [.vals [.c (.int .i64 r.2.1),.c (.int .i64 r.2.2.1),.c (.int .i64 r.2.2.2.1),.c (.int .i64 r.2.2.2.2.1),.c (.int .i64 r.2.2.2.2.2.1),.c (.int .i64 r.2.2.2.2.2.2.1),.c (.int .i64 r.2.2.2.2.2.2.2)]])
 |_,_=>none}
theorem Q39.env (N:Nat):dB Tryz.prog (Q39.E N):=⟨(.cons aD (.cons tD (.cons kq (.cons zk .nil)))),.nil⟩
theorem Q39.spec (N:Nat)(a c d f g i j:Int)(r:Bool×Int×Int×Int×Int×Int×Int×Int)(h:Q39.f N a c d f g i j=some r):lA Tryz.prog 45 [.ptr 0 0 7] [.vals [.c (.int .i64 a),.c (.int .i64 c),.c (.int .i64 d),.c (.int .i64 f),.c (.int .i64 g),.c (.int .i64 i),.c (.int .i64 j)]] (.c (.bool r.1)) ([.vals [.c (.int .i64 r.2.1),.c (.int .i64 r.2.2.1),.c (.int .i64 r.2.2.2.1),.c (.int .i64 r.2.2.2.2.1),.c (.int .i64 r.2.2.2.2.2.1),.c (.int .i64 r.2.2.2.2.2.2.1),.c (.int .i64 r.2.2.2.2.2.2.2)]]):=vA (Q39.env N) dA Tryz.func45 eA.n ((Q39.f_eq ..).trans h) fun v b e=>by unfold Q39.dec at e;split at e<;>cases e;exact⟨rfl,rfl⟩
theorem Q39.ent_ok (N:Nat):uA Tryz.prog 45 (Q39.ent N):=by
 intro args bs a enc h;simp only[Q39.ent]at h;split at h
 ·rename_i hz;have h0:=Option.some.inj h;have h1:=congrArg Prod.fst h0;have h2:=congrArg Prod.snd h0;dsimp only at h1 h2;subst h2;exact lA.of_asSl (fl:=[false]) (by rw[hz];exact Q39.spec N _ _ _ _ _ _ _ a h1)
 ·cases h
noncomputable def Q40.l6 {R:Type}(N:Nat):Nat→Int→Int→Int→Int→Int→Int→Int→Int→Int→Int→Int→Int→Int→Int→(Int→Int→Int→Int→Int→Int→Int→Int→Int→Int→Int→Int→Int→Int→Option R)→Option R
 |0,_,_,_,_,_,_,_,_,_,_,_,_,_,_,_=>none
 |n+1,l,m,o,p,q,b,c,d,e,f,g,h,i,j,k=>
  (Q39.f N d e f g h i j).bind fun a=>
  bif a.1 then
   Q40.l6 N n l m o p q b c a.2.1 a.2.2.1 a.2.2.2.1 a.2.2.2.2.1 a.2.2.2.2.2.1 a.2.2.2.2.2.2.1 a.2.2.2.2.2.2.2 k
  else
  k l m o p q b c a.2.1 a.2.2.1 a.2.2.2.1 a.2.2.2.2.1 a.2.2.2.2.2.1 a.2.2.2.2.2.2.1 a.2.2.2.2.2.2.2
noncomputable def Q40.f (N:Nat)(h i j:Int):Option (Int×Int×Int×Int×Int×Int×Int×Int):=
 (Q38.f N h i j).bind fun k=>
 bif k != 0 then
  some (0,0,0,0,0,0,0,k)
 else
 Q40.l6 N N 0 0 0 0 0 0 0 h i j 1 0 0 1
  (fun l m o p q r s a b c d e f g=>
   some (a,b,c,d,e,f,g,0))
noncomputable def Q40.h6:cE:=⟨[(2,.box [.any,.any,.any]),(3,.box [.any,.any,.any,.any]),(6,.box [.any,.any,.any,.any,.any,.any,.any]),(7,.any)],[(2,.box [.any,.any,.any]),(3,.box [.any,.any,.any,.any]),(6,.box [.any,.any,.any,.any,.any,.any,.any])]⟩
noncomputable def Q40.c6 (N:Nat):tK:=⟨fun vs H k=>match vs,H with
 | [.ptr 0 0 3,.ptr 1 0 4,.ptr 2 0 7,.fn 45 [.ptr 2 0 7] []],[.vals [.c (.int .i64 z),.c (.int .i64 x6),.c (.int .i64 x7)],.vals [.c (.int .i64 x8),.c (.int .i64 x9),.c (.int .i64 a),.c (.int .i64 b)],.vals [.c (.int .i64 c),.c (.int .i64 d),.c (.int .i64 e),.c (.int .i64 f),.c (.int .i64 g),.c (.int .i64 h),.c (.int .i64 i)]]=>Q40.l6 N N z x6 x7 x8 x9 a b c d e f g h i (fun j l m o p q r s t u v w x y=>k (.exit 0) ⟨iE Q40.h6.out [.ptr 0 0 3,.ptr 1 0 4,.ptr 2 0 7],[.vals [.c (.int .i64 j),.c (.int .i64 l),.c (.int .i64 m)],.vals [.c (.int .i64 o),.c (.int .i64 p),.c (.int .i64 q),.c (.int .i64 r)],.vals [.c (.int .i64 s),.c (.int .i64 t),.c (.int .i64 u),.c (.int .i64 v),.c (.int .i64 w),.c (.int .i64 x),.c (.int .i64 y)]]⟩)
 |_,_=>none⟩
noncomputable def Q40.E (N:Nat):yC:=dF [(2,iR),(36,sK),(78,Pp),(92,Su)] [(24,Q38.ent N),(45,Q39.ent N)] [(6,Q40.h6)] [(6,Q40.c6 N)] N [.cell 2 36,.cell 3 78,.tmp 4] [.recd [.any,.any,.any],.recd [.any,.any,.any,.any],.any] 0 31
noncomputable def Q40.b6:Code:=bB ((jA (bo Tryz.f34)).getD 0 .skip)
theorem Q40.l6_eq {R:Type}(N n:Nat)(x5 x6 x7 x8 x9 a b c d e f g h i:Int)(k:Ex→St→Option R):
  vB 0 Q40.h6 (fun s k=>kB (Q40.E N) 393 Q40.b6 s k) n [.ptr 0 0 3,.ptr 1 0 4,.ptr 2 0 7,.fn 45 [.ptr 2 0 7] []] [.vals [.c (.int .i64 x5),.c (.int .i64 x6),.c (.int .i64 x7)],.vals [.c (.int .i64 x8),.c (.int .i64 x9),.c (.int .i64 a),.c (.int .i64 b)],.vals [.c (.int .i64 c),.c (.int .i64 d),.c (.int .i64 e),.c (.int .i64 f),.c (.int .i64 g),.c (.int .i64 h),.c (.int .i64 i)]] k=Q40.l6 N n x5 x6 x7 x8 x9 a b c d e f g h i (fun j l m o p q r t u v w x y z=>k (.exit 0) ⟨iE Q40.h6.out [.ptr 0 0 3,.ptr 1 0 4,.ptr 2 0 7],[.vals [.c (.int .i64 j),.c (.int .i64 l),.c (.int .i64 m)],.vals [.c (.int .i64 o),.c (.int .i64 p),.c (.int .i64 q),.c (.int .i64 r)],.vals [.c (.int .i64 t),.c (.int .i64 u),.c (.int .i64 v),.c (.int .i64 w),.c (.int .i64 x),.c (.int .i64 y),.c (.int .i64 z)]]⟩):=by
 induction n generalizing x5 x6 x7 x8 x9 a b c d e f g h i with
 |zero=>kernel_rfl
 |succ n ih=>
  simp only[Q40.l6,←ih]
  kernel_rfl
noncomputable def Q40.dec (v:V)(bs:List qA):Option (Int×Int×Int×Int×Int×Int×Int×Int):=match v,bs with
 | .tup [.agg [.c (.int .i64 a),.c (.int .i64 b),.c (.int .i64 c)],.agg [.c (.int .i64 d),.c (.int .i64 e),.c (.int .i64 f),.c (.int .i64 g)],.c (.int .i64 h)],[]=>some (a,b,c,d,e,f,g,h)
 |_,_=>none
theorem Q40.f_eq (N:Nat)(a b c:Int):
  eB (Q40.E N) (bo Tryz.f34) [.agg [.c (.int .i64 a),.c (.int .i64 b),.c (.int .i64 c)]] [] Q40.dec=Q40.f N a b c:=by kernel_rfl
noncomputable def Q40.ent (N:Nat):yA:=pF (Int×Int×Int×Int×Int×Int×Int×Int) 0 [true] [.recd [.any,.any,.any]] fun
 | [.agg [.c (.int .i64 a),.c (.int .i64 b),.c (.int .i64 c)]]=>some (Q40.f N a b c,fun r=>.one (.tup [.agg [.c (.int .i64 r.1),.c (.int .i64 r.2.1),.c (.int .i64 r.2.2.1)],.agg [.c (.int .i64 r.2.2.2.1),.c (.int .i64 r.2.2.2.2.1),.c (.int .i64 r.2.2.2.2.2.1),.c (.int .i64 r.2.2.2.2.2.2.1)],.c (.int .i64 r.2.2.2.2.2.2.2)]) [])
 |_=>none
theorem Q40.env (N:Nat):dB Tryz.prog (Q40.E N):=⟨(.cons aD (.cons tD (.cons kq (.cons zk .nil)))),(.cons (Q38.ent_ok N) (.cons (Q39.ent_ok N) .nil))⟩
theorem Q40.k6 (N:Nat):qC Tryz.prog Tryz.f34 (Q40.E N) (.loop Q40.b6):=vD (Q40.env N) dA 393 (c:=Q40.c6 N) eA.n fun R vs H k r h=>by unfold Q40.c6 at h;dsimp only at h;split at h;exact⟨_,Q40.l6_eq .. ▸h⟩;cases h
theorem Q40.spec (N:Nat)(a c d:Int)(r:Int×Int×Int×Int×Int×Int×Int×Int)(h:Q40.f N a c d=some r):lA Tryz.prog 34 [.agg [.c (.int .i64 a),.c (.int .i64 c),.c (.int .i64 d)]] [] (.tup [.agg [.c (.int .i64 r.1),.c (.int .i64 r.2.1),.c (.int .i64 r.2.2.1)],.agg [.c (.int .i64 r.2.2.2.1),.c (.int .i64 r.2.2.2.2.1),.c (.int .i64 r.2.2.2.2.2.1),.c (.int .i64 r.2.2.2.2.2.2.1)],.c (.int .i64 r.2.2.2.2.2.2.2)]) ([]):=vA (Q40.env N) dA Tryz.func34 (eA.of (l:=[(.loop (bB ((jA (bo Tryz.f34)).getD 0 .skip)))]) (by kernel_rfl) (eA.cons (Q40.k6 N) eA.nil)) ((Q40.f_eq ..).trans h) fun v b e=>by unfold Q40.dec at e;split at e<;>cases e;exact⟨rfl,rfl⟩
theorem Q40.ent_ok (N:Nat):uA Tryz.prog 34 (Q40.ent N):=zA fun v a e h=>by split at h;exact lC (Q:=fun e=>lA _ _ _ _ (e a).pick.1 (e a).pick.2) h fun k=>Q40.spec N _ _ _ a k;cases h
noncomputable def Q41.f (N:Nat)(a b c:Int):Option (Int):=
 (Q36.f N a b c).bind fun d=>
 bif !d then
  some 0
 else
 (Q35.f N a b).bind fun e=>
 (Q35.f N e.1 c).bind fun f=>
 some f.1
noncomputable def Q41.E (N:Nat):yC:=dF [(2,iR),(36,sK)] [(35,Q36.ent N),(36,Q35.ent N)] [] [] N [.tmp 2] [.any] 0 27
noncomputable def Q41.dec (v:V)(bs:List qA):Option (Int):=match v,bs with
 | .c (.int .i64 a),[]=>some a
 |_,_=>none
theorem Q41.f_eq (N:Nat)(a b c:Int):
  eB (Q41.E N) (bo Tryz.f25) [.agg [.c (.int .i64 a),.c (.int .i64 b),.c (.int .i64 c)]] [] Q41.dec=Q41.f N a b c:=by kernel_rfl
noncomputable def Q41.ent (N:Nat):yA:=pF (Int) 0 [true] [.recd [.any,.any,.any]] fun
 | [.agg [.c (.int .i64 a),.c (.int .i64 b),.c (.int .i64 c)]]=>some (Q41.f N a b c,fun r=>.one (.c (.int .i64 r)) [])
 |_=>none
theorem Q41.env (N:Nat):dB Tryz.prog (Q41.E N):=⟨(.cons aD (.cons tD .nil)),(.cons (Q36.ent_ok N) (.cons (Q35.ent_ok N) .nil))⟩
theorem Q41.spec (N:Nat)(a c d r:Int)(h:Q41.f N a c d=some r):lA Tryz.prog 25 [.agg [.c (.int .i64 a),.c (.int .i64 c),.c (.int .i64 d)]] [] (.c (.int .i64 r)) ([]):=vA (Q41.env N) dA Tryz.func25 eA.n ((Q41.f_eq ..).trans h) fun v b e=>by unfold Q41.dec at e;split at e<;>cases e;exact⟨rfl,rfl⟩
theorem Q41.ent_ok (N:Nat):uA Tryz.prog 25 (Q41.ent N):=zA fun v a e h=>by split at h;exact lC (Q:=fun e=>lA _ _ _ _ (e a).pick.1 (e a).pick.2) h fun k=>Q41.spec N _ _ _ a k;cases h
noncomputable def Tp:TI:=⟨.int .u64,1,8,[.int .u64 0]⟩
theorem Pn:kC Tryz.prog 58 Tp:=nC (by kernel_rfl) (by kernel_rfl) (by kernel_rfl) (by kernel_rfl) (by kernel_rfl) (by kernel_rfl) (by kernel_rfl) (Tryz.underlying58) (by kernel_rfl)
noncomputable def Q42.f (N:Nat)(a:Int):Option (Int):=
 bif decide (a≥4294967296)then
  bif decide ((Int.fdiv a (2^32))≥65536)then
   bif decide ((Int.fdiv (Int.fdiv a (2^32)) (2^16))≥256)then
    bif (decide (0≤(pM (Int.fdiv (Int.fdiv (Int.fdiv a (2^32)) (2^16)) (2^8)))))&&(decide ((pM (Int.fdiv (Int.fdiv (Int.fdiv a (2^32)) (2^16)) (2^8)))<(eI.size:Int)))then
     some (aA (56+(aA (xF eI ((pM (Int.fdiv (Int.fdiv (Int.fdiv a (2^32)) (2^16)) (2^8))).toNat)))))
    else none
   else
   bif (decide (0≤(pM (Int.fdiv (Int.fdiv a (2^32)) (2^16)))))&&(decide ((pM (Int.fdiv (Int.fdiv a (2^32)) (2^16)))<(eI.size:Int)))then
    some (aA (48+(aA (xF eI ((pM (Int.fdiv (Int.fdiv a (2^32)) (2^16))).toNat)))))
   else none
  else
  bif decide ((Int.fdiv a (2^32))≥256)then
   bif (decide (0≤(pM (Int.fdiv (Int.fdiv a (2^32)) (2^8)))))&&(decide ((pM (Int.fdiv (Int.fdiv a (2^32)) (2^8)))<(eI.size:Int)))then
    some (aA (40+(aA (xF eI ((pM (Int.fdiv (Int.fdiv a (2^32)) (2^8))).toNat)))))
   else none
  else
  bif (decide (0≤(pM (Int.fdiv a (2^32)))))&&(decide ((pM (Int.fdiv a (2^32)))<(eI.size:Int)))then
   some (aA (32+(aA (xF eI ((pM (Int.fdiv a (2^32))).toNat)))))
  else none
 else
 bif decide (a≥65536)then
  bif decide ((Int.fdiv a (2^16))≥256)then
   bif (decide (0≤(pM (Int.fdiv (Int.fdiv a (2^16)) (2^8)))))&&(decide ((pM (Int.fdiv (Int.fdiv a (2^16)) (2^8)))<(eI.size:Int)))then
    some (aA (24+(aA (xF eI ((pM (Int.fdiv (Int.fdiv a (2^16)) (2^8))).toNat)))))
   else none
  else
  bif (decide (0≤(pM (Int.fdiv a (2^16)))))&&(decide ((pM (Int.fdiv a (2^16)))<(eI.size:Int)))then
   some (aA (16+(aA (xF eI ((pM (Int.fdiv a (2^16))).toNat)))))
  else none
 else
 bif decide (a≥256)then
  bif (decide (0≤(pM (Int.fdiv a (2^8)))))&&(decide ((pM (Int.fdiv a (2^8)))<(eI.size:Int)))then
   some (aA (8+(aA (xF eI ((pM (Int.fdiv a (2^8))).toNat)))))
  else none
 else
 bif (decide (0≤(pM a)))&&(decide ((pM a)<(eI.size:Int)))then
  some (aA (0+(aA (xF eI ((pM a).toNat)))))
 else none
noncomputable def Q42.E (N:Nat):yC:=dF [(3,Bo),(5,Uo),(9,Uq),(54,mP)] [] [] [] N [.tmp 2] [.any] 0 25
noncomputable def Q42.dec (v:V)(bs:List qA):Option (Int):=match v,bs with
 | .c (.int .i64 a),[]=>some a
 |_,_=>none
theorem Q42.f_eq (N:Nat)(a:Int):
  eB (Q42.E N) (bo Tryz.f61) [.c (.int .u64 a)] [] Q42.dec=Q42.f N a:=by kernel_rfl
noncomputable def Q42.ent (N:Nat):yA:=pF (Int) 0 [true] [.any] fun
 | [.c (.int .u64 a)]=>some (Q42.f N a,fun r=>.one (.c (.int .i64 r)) [])
 |_=>none
theorem Q42.env (N:Nat):dB Tryz.prog (Q42.E N):=⟨(.cons jJ (.cons Mh (.cons Mi (.cons bF .nil)))),.nil⟩
theorem Q42.spec (N:Nat)(a r:Int)(h:Q42.f N a=some r):lA Tryz.prog 61 [.c (.int .u64 a)] [] (.c (.int .i64 r)) ([]):=vA (Q42.env N) dA Tryz.func61 eA.n ((Q42.f_eq ..).trans h) fun v b e=>by unfold Q42.dec at e;split at e<;>cases e;exact⟨rfl,rfl⟩
theorem Q42.ent_ok (N:Nat):uA Tryz.prog 61 (Q42.ent N):=zA fun v a e h=>by split at h;exact lC (Q:=fun e=>lA _ _ _ _ (e a).pick.1 (e a).pick.2) h fun k=>Q42.spec N _ a k;cases h
noncomputable def Q43.f (N:Nat)(a:Int):Option (Int):=
 (Q42.f N a).bind fun b=>
 some (aA (64-b))
noncomputable def Q43.E (N:Nat):yC:=dF [] [(61,Q42.ent N)] [] [] N [.tmp 2] [.any] 0 6
noncomputable def Q43.dec (v:V)(bs:List qA):Option (Int):=match v,bs with
 | .c (.int .i64 a),[]=>some a
 |_,_=>none
theorem Q43.f_eq (N:Nat)(a:Int):
  eB (Q43.E N) (bo Tryz.f94) [.c (.int .u64 a)] [] Q43.dec=Q43.f N a:=by kernel_rfl
noncomputable def Q43.ent (N:Nat):yA:=pF (Int) 0 [true] [.any] fun
 | [.c (.int .u64 a)]=>some (Q43.f N a,fun r=>.one (.c (.int .i64 r)) [])
 |_=>none
theorem Q43.env (N:Nat):dB Tryz.prog (Q43.E N):=⟨.nil,(.cons (Q42.ent_ok N) .nil)⟩
theorem Q43.spec (N:Nat)(a r:Int)(h:Q43.f N a=some r):lA Tryz.prog 94 [.c (.int .u64 a)] [] (.c (.int .i64 r)) ([]):=vA (Q43.env N) dA Tryz.func94 eA.n ((Q43.f_eq ..).trans h) fun v b e=>by unfold Q43.dec at e;split at e<;>cases e;exact⟨rfl,rfl⟩
theorem Q43.ent_ok (N:Nat):uA Tryz.prog 94 (Q43.ent N):=zA fun v a e h=>by split at h;exact lC (Q:=fun e=>lA _ _ _ _ (e a).pick.1 (e a).pick.2) h fun k=>Q43.spec N _ a k;cases h
noncomputable def Q44.f (N:Nat)(a b:Int):Option (Int×Int):=
 some (nA ((nA ((nA ((Int.fdiv a (2^32))*(Int.fdiv b (2^32))))+(Int.fdiv (nA ((nA ((Int.fdiv a (2^32))*(mB .u64 b 4294967295)))+(Int.fdiv (nA ((mB .u64 a 4294967295)*(mB .u64 b 4294967295))) (2^32)))) (2^32))))+(Int.fdiv (nA ((mB .u64 (nA ((nA ((Int.fdiv a (2^32))*(mB .u64 b 4294967295)))+(Int.fdiv (nA ((mB .u64 a 4294967295)*(mB .u64 b 4294967295))) (2^32)))) 4294967295)+(nA ((mB .u64 a 4294967295)*(Int.fdiv b (2^32)))))) (2^32))),nA (a*b))
noncomputable def Q44.E (N:Nat):yC:=dF [] [] [] [] N [.tmp 4,.tmp 5] [.any,.any] 0 51
noncomputable def Q44.dec (v:V)(bs:List qA):Option (Int×Int):=match v,bs with
 | .tup [.c (.int .u64 a),.c (.int .u64 b)],[]=>some (a,b)
 |_,_=>none
theorem Q44.f_eq (N:Nat)(a b:Int):
  eB (Q44.E N) (bo Tryz.f85) [.c (.int .u64 a),.c (.int .u64 b)] [] Q44.dec=Q44.f N a b:=by kernel_rfl
noncomputable def Q44.ent (N:Nat):yA:=pF (Int×Int) 0 [true,true] [.any,.any] fun
 | [.c (.int .u64 a),.c (.int .u64 b)]=>some (Q44.f N a b,fun r=>.one (.tup [.c (.int .u64 r.1),.c (.int .u64 r.2)]) [])
 |_=>none
theorem Q44.env (N:Nat):dB Tryz.prog (Q44.E N):=⟨.nil,.nil⟩
theorem Q44.spec (N:Nat)(a c:Int)(r:Int×Int)(h:Q44.f N a c=some r):lA Tryz.prog 85 [.c (.int .u64 a),.c (.int .u64 c)] [] (.tup [.c (.int .u64 r.1),.c (.int .u64 r.2)]) ([]):=vA (Q44.env N) dA Tryz.func85 eA.n ((Q44.f_eq ..).trans h) fun v b e=>by unfold Q44.dec at e;split at e<;>cases e;exact⟨rfl,rfl⟩
theorem Q44.ent_ok (N:Nat):uA Tryz.prog 85 (Q44.ent N):=zA fun v a e h=>by split at h;exact lC (Q:=fun e=>lA _ _ _ _ (e a).pick.1 (e a).pick.2) h fun k=>Q44.spec N _ _ a k;cases h
noncomputable def Q45.l17 {R:Type}(N:Nat):Nat→Int→Int→Int→Int→Int→Int→Int→Int→Int→(Int→Int→Int→Int→Int→Int→Int→Int→Option R)→Option R
 |0,_,_,_,_,_,_,_,_,_,_=>none
 |n+1,h,i,e,f,j,b,c,a,d,g=>
  bif decide (a≥4294967296)then
   bif decide ((nA (d+e))≥4294967296)then
    g h i e f j b c (nA (a-1))
   else
   Q45.l17 N n h i e f j b c (nA (a-1)) (nA (d+e)) g
  else
  bif decide ((nA (a*f))>(nA ((nA (4294967296*d))+b)))then
   bif decide ((nA (d+e))≥4294967296)then
    g h i e f j b c (nA (a-1))
   else
   Q45.l17 N n h i e f j b c (nA (a-1)) (nA (d+e)) g
  else
  g h i e f j b c a
noncomputable def Q45.l24 {R:Type}(N:Nat):Nat→Int→Int→Int→Int→Int→Int→Int→Int→Int→(Int→Int→Int→Int→Int→Int→Option R)→Option R
 |0,_,_,_,_,_,_,_,_,_,_=>none
 |n+1,d,e,b,i,c,f,g,h,a,j=>
  bif decide (a≥4294967296)then
   bif decide ((nA (g+b))≥4294967296)then
    j d e c f h (nA (a-1))
   else
   Q45.l24 N n d e b i c f (nA (g+b)) h (nA (a-1)) j
  else
  bif decide ((nA (a*i))>(nA ((nA (4294967296*g))+c)))then
   bif decide ((nA (g+b))≥4294967296)then
    j d e c f h (nA (a-1))
   else
   Q45.l24 N n d e b i c f (nA (g+b)) h (nA (a-1)) j
  else
  j d e c f h a
noncomputable def Q45.f (N:Nat)(i h b:Int):Option (Int×Int):=
 bif b==0 then none else
 bif decide (b≤i)then none else
 bif i==0 then
  bif !(b==0)then
   bif !(b==0)then
    some (nA (Int.tdiv h b),Int.tmod h b)
   else none
  else none
 else
 (Q43.f N b).bind fun a=>
 bif decide (0≤(nA a))then
  bif decide (0≤(nA a))then
   bif decide (0≤(nA (64- (nA a))))then
    bif decide (0≤(nA a))then
     bif !((Int.fdiv (nA (b*2^(min (nA a).toNat 64))) (2^32))==0)then
      Q45.l17 N N (nA (b*2^(min (nA a).toNat 64))) (nA a) (Int.fdiv (nA (b*2^(min (nA a).toNat 64))) (2^32)) (mB .u64 (nA (b*2^(min (nA a).toNat 64))) 4294967295) (dE .u64 (nA (i*2^(min (nA a).toNat 64))) (Int.fdiv h (2^(min (nA (64- (nA a))).toNat 64)))) (Int.fdiv (nA (h*2^(min (nA a).toNat 64))) (2^32)) (mB .u64 (nA (h*2^(min (nA a).toNat 64))) 4294967295) (nA (Int.tdiv (dE .u64 (nA (i*2^(min (nA a).toNat 64))) (Int.fdiv h (2^(min (nA (64- (nA a))).toNat 64)))) (Int.fdiv (nA (b*2^(min (nA a).toNat 64))) (2^32)))) (nA ((dE .u64 (nA (i*2^(min (nA a).toNat 64))) (Int.fdiv h (2^(min (nA (64- (nA a))).toNat 64))))- (nA ((nA (Int.tdiv (dE .u64 (nA (i*2^(min (nA a).toNat 64))) (Int.fdiv h (2^(min (nA (64- (nA a))).toNat 64)))) (Int.fdiv (nA (b*2^(min (nA a).toNat 64))) (2^32))))*(Int.fdiv (nA (b*2^(min (nA a).toNat 64))) (2^32))))))
       (fun c l d m f g o e=>
        bif !(d==0)then
         Q45.l24 N N c l d m o e (nA ((nA ((nA ((nA (f*4294967296))+g))- (nA (e*c))))- (nA ((nA (Int.tdiv (nA ((nA ((nA (f*4294967296))+g))- (nA (e*c)))) d))*d)))) (nA ((nA ((nA (f*4294967296))+g))- (nA (e*c)))) (nA (Int.tdiv (nA ((nA ((nA (f*4294967296))+g))- (nA (e*c)))) d))
          (fun p j q r s k=>
           bif decide (0≤j)then
            some (nA ((nA (r*4294967296))+k),Int.fdiv (nA ((nA ((nA (s*4294967296))+q))- (nA (k*p)))) (2^(min j.toNat 64)))
           else none)
        else none)
     else none
    else none
   else none
  else none
 else none
noncomputable def Q45.h17:cE:=⟨[(2,.any),(8,.any),(9,.any),(10,.any),(11,.any),(13,.any),(14,.any),(15,.any),(16,.any)],[(2,.any),(8,.any),(9,.any),(10,.any),(11,.any),(13,.any),(14,.any),(15,.any)]⟩
noncomputable def Q45.h24:cE:=⟨[(2,.any),(8,.any),(9,.any),(10,.any),(14,.any),(15,.any),(16,.any),(17,.any),(18,.any)],[(2,.any),(8,.any),(14,.any),(15,.any),(17,.any),(18,.any)]⟩
noncomputable def Q45.c17 (N:Nat):tK:=⟨fun vs H k=>match vs,H with
 | [.c (.int .u64 o),.c (.int .u64 p),.c (.int .u64 q),.c (.int .u64 r),.c (.int .u64 s),.c (.int .u64 a),.c (.int .u64 b),.c (.int .u64 c),.c (.int .u64 d)],[]=>Q45.l17 N N o p q r s a b c d (fun e f g h i j l m=>k (.exit 0) ⟨iE Q45.h17.out [.c (.int .u64 e),.c (.int .u64 f),.c (.int .u64 g),.c (.int .u64 h),.c (.int .u64 i),.c (.int .u64 j),.c (.int .u64 l),.c (.int .u64 m)],[]⟩)
 |_,_=>none⟩
noncomputable def Q45.c24 (N:Nat):tK:=⟨fun vs H k=>match vs,H with
 | [.c (.int .u64 a),.c (.int .u64 b),.c (.int .u64 c),.c (.int .u64 d),.c (.int .u64 e),.c (.int .u64 f),.c (.int .u64 g),.c (.int .u64 h),.c (.int .u64 i)],[]=>Q45.l24 N N a b c d e f g h i (fun j l m o p q=>k (.exit 2) ⟨iE Q45.h24.out [.c (.int .u64 j),.c (.int .u64 l),.c (.int .u64 m),.c (.int .u64 o),.c (.int .u64 p),.c (.int .u64 q)],[]⟩)
 |_,_=>none⟩
noncomputable def Q45.E (N:Nat):yC:=dF [(3,Bo),(58,Tp)] [(94,Q43.ent N)] [(17,Q45.h17),(24,Q45.h24)] [(17,Q45.c17 N),(24,Q45.c24 N)] N [.tmp 6,.tmp 7] [.any,.any] 0 135
noncomputable def Q45.b17:Code:=bB ((jA (bo Tryz.f86)).getD 0 .skip)
theorem Q45.l17_eq {R:Type}(N n:Nat)(o p q r t a b c d:Int)(k:Ex→St→Option R):
  vB 0 Q45.h17 (fun s k=>kB (Q45.E N) 383 Q45.b17 s k) n [.c (.int .u64 o),.c (.int .u64 p),.c (.int .u64 q),.c (.int .u64 r),.c (.int .u64 t),.c (.int .u64 a),.c (.int .u64 b),.c (.int .u64 c),.c (.int .u64 d)] [] k=Q45.l17 N n o p q r t a b c d (fun e f g h i j l m=>k (.exit 0) ⟨iE Q45.h17.out [.c (.int .u64 e),.c (.int .u64 f),.c (.int .u64 g),.c (.int .u64 h),.c (.int .u64 i),.c (.int .u64 j),.c (.int .u64 l),.c (.int .u64 m)],[]⟩):=by
 induction n generalizing o p q r t a b c d with
 |zero=>kernel_rfl
 |succ n ih=>
  simp only[Q45.l17,←ih]
  kernel_rfl
noncomputable def Q45.b24:Code:=bB ((jA (bo Tryz.f86)).getD 1 .skip)
theorem Q45.l24_eq {R:Type}(N n:Nat)(a b c d e f g h i:Int)(k:Ex→St→Option R):
  vB 0 Q45.h24 (fun s k=>kB (Q45.E N) 379 Q45.b24 s k) n [.c (.int .u64 a),.c (.int .u64 b),.c (.int .u64 c),.c (.int .u64 d),.c (.int .u64 e),.c (.int .u64 f),.c (.int .u64 g),.c (.int .u64 h),.c (.int .u64 i)] [] k=Q45.l24 N n a b c d e f g h i (fun j l m o p q=>k (.exit 2) ⟨iE Q45.h24.out [.c (.int .u64 j),.c (.int .u64 l),.c (.int .u64 m),.c (.int .u64 o),.c (.int .u64 p),.c (.int .u64 q)],[]⟩):=by
 induction n generalizing a b c d e f g h i with
 |zero=>kernel_rfl
 |succ n ih=>
  simp only[Q45.l24,←ih]
  kernel_rfl
noncomputable def Q45.dec (v:V)(bs:List qA):Option (Int×Int):=match v,bs with
 | .tup [.c (.int .u64 a),.c (.int .u64 b)],[]=>some (a,b)
 |_,_=>none
theorem Q45.f_eq (N:Nat)(a b c:Int):
  eB (Q45.E N) (bo Tryz.f86) [.c (.int .u64 a),.c (.int .u64 b),.c (.int .u64 c)] [] Q45.dec=Q45.f N a b c:=by kernel_rfl
noncomputable def Q45.ent (N:Nat):yA:=pF (Int×Int) 0 [true,true,true] [.any,.any,.any] fun
 | [.c (.int .u64 a),.c (.int .u64 b),.c (.int .u64 c)]=>some (Q45.f N a b c,fun r=>.one (.tup [.c (.int .u64 r.1),.c (.int .u64 r.2)]) [])
 |_=>none
theorem Q45.env (N:Nat):dB Tryz.prog (Q45.E N):=⟨(.cons jJ (.cons Pn .nil)),(.cons (Q43.ent_ok N) .nil)⟩
theorem Q45.k24 (N:Nat):qC Tryz.prog Tryz.f86 (Q45.E N) (.loop Q45.b24):=vD (Q45.env N) dA 379 (c:=Q45.c24 N) eA.n fun R vs H k r h=>by unfold Q45.c24 at h;dsimp only at h;split at h;exact⟨_,Q45.l24_eq .. ▸h⟩;cases h
theorem Q45.k17 (N:Nat):qC Tryz.prog Tryz.f86 (Q45.E N) (.loop Q45.b17):=vD (Q45.env N) dA 383 (c:=Q45.c17 N) eA.n fun R vs H k r h=>by unfold Q45.c17 at h;dsimp only at h;split at h;exact⟨_,Q45.l17_eq .. ▸h⟩;cases h
theorem Q45.spec (N:Nat)(a c d:Int)(r:Int×Int)(h:Q45.f N a c d=some r):lA Tryz.prog 86 [.c (.int .u64 a),.c (.int .u64 c),.c (.int .u64 d)] [] (.tup [.c (.int .u64 r.1),.c (.int .u64 r.2)]) ([]):=vA (Q45.env N) dA Tryz.func86 (eA.of (l:=[(.loop (bB ((jA (bo Tryz.f86)).getD 0 .skip))),(.loop (bB ((jA (bo Tryz.f86)).getD 1 .skip)))]) (by kernel_rfl) (eA.cons (Q45.k17 N) (eA.cons (Q45.k24 N) eA.nil))) ((Q45.f_eq ..).trans h) fun v b e=>by unfold Q45.dec at e;split at e<;>cases e;exact⟨rfl,rfl⟩
theorem Q45.ent_ok (N:Nat):uA Tryz.prog 86 (Q45.ent N):=zA fun v a e h=>by split at h;exact lC (Q:=fun e=>lA _ _ _ _ (e a).pick.1 (e a).pick.2) h fun k=>Q45.spec N _ _ _ a k;cases h
noncomputable def Q46.f (N:Nat)(b a:Int):Option (Int):=
 bif !(a==0)then
  bif decide ((Int.tmod b a)<0)then
   some (aA ((Int.tmod b a)+a))
  else
  some (Int.tmod b a)
 else none
noncomputable def Q46.E (N:Nat):yC:=dF [] [] [] [] N [.tmp 4] [.any] 0 14
noncomputable def Q46.dec (v:V)(bs:List qA):Option (Int):=match v,bs with
 | .c (.int .i64 a),[]=>some a
 |_,_=>none
theorem Q46.f_eq (N:Nat)(a b:Int):
  eB (Q46.E N) (bo Tryz.f71) [.c (.int .i64 a),.c (.int .i64 b)] [] Q46.dec=Q46.f N a b:=by kernel_rfl
noncomputable def Q46.ent (N:Nat):yA:=pF (Int) 0 [true,true] [.any,.any] fun
 | [.c (.int .i64 a),.c (.int .i64 b)]=>some (Q46.f N a b,fun r=>.one (.c (.int .i64 r)) [])
 |_=>none
theorem Q46.env (N:Nat):dB Tryz.prog (Q46.E N):=⟨.nil,.nil⟩
theorem Q46.spec (N:Nat)(a c r:Int)(h:Q46.f N a c=some r):lA Tryz.prog 71 [.c (.int .i64 a),.c (.int .i64 c)] [] (.c (.int .i64 r)) ([]):=vA (Q46.env N) dA Tryz.func71 eA.n ((Q46.f_eq ..).trans h) fun v b e=>by unfold Q46.dec at e;split at e<;>cases e;exact⟨rfl,rfl⟩
theorem Q46.ent_ok (N:Nat):uA Tryz.prog 71 (Q46.ent N):=zA fun v a e h=>by split at h;exact lC (Q:=fun e=>lA _ _ _ _ (e a).pick.1 (e a).pick.2) h fun k=>Q46.spec N _ _ a k;cases h
noncomputable def Q47.f (N:Nat)(b c d:Int):Option (Int):=
 (Q44.f N (nA b) (nA c)).bind fun a=>
 (Q45.f N a.1 a.2 (nA d)).bind fun e=>
 some (aA e.2)
noncomputable def Q47.E (N:Nat):yC:=dF [(2,iR),(54,mP)] [(85,Q44.ent N),(86,Q45.ent N)] [] [] N [.tmp 6] [.any] 0 29
noncomputable def Q47.dec (v:V)(bs:List qA):Option (Int):=match v,bs with
 | .c (.int .i64 a),[]=>some a
 |_,_=>none
theorem Q47.f_eq (N:Nat)(a b c:Int):
  eB (Q47.E N) (bo Tryz.f70) [.c (.int .i64 a),.c (.int .i64 b),.c (.int .i64 c)] [] Q47.dec=Q47.f N a b c:=by kernel_rfl
noncomputable def Q47.ent (N:Nat):yA:=pF (Int) 0 [true,true,true] [.any,.any,.any] fun
 | [.c (.int .i64 a),.c (.int .i64 b),.c (.int .i64 c)]=>some (Q47.f N a b c,fun r=>.one (.c (.int .i64 r)) [])
 |_=>none
theorem Q47.env (N:Nat):dB Tryz.prog (Q47.E N):=⟨(.cons aD (.cons bF .nil)),(.cons (Q44.ent_ok N) (.cons (Q45.ent_ok N) .nil))⟩
theorem Q47.spec (N:Nat)(a c d r:Int)(h:Q47.f N a c d=some r):lA Tryz.prog 70 [.c (.int .i64 a),.c (.int .i64 c),.c (.int .i64 d)] [] (.c (.int .i64 r)) ([]):=vA (Q47.env N) dA Tryz.func70 eA.n ((Q47.f_eq ..).trans h) fun v b e=>by unfold Q47.dec at e;split at e<;>cases e;exact⟨rfl,rfl⟩
theorem Q47.ent_ok (N:Nat):uA Tryz.prog 70 (Q47.ent N):=zA fun v a e h=>by split at h;exact lC (Q:=fun e=>lA _ _ _ _ (e a).pick.1 (e a).pick.2) h fun k=>Q47.spec N _ _ _ a k;cases h
noncomputable def Q48.f (N:Nat)(b c a:Int):Option (Int×Int):=
 bif decide (a<1)then
  some (0,2)
 else
 bif decide (a>4611686018427387904)then
  some (0,2)
 else
 (Q46.f N b a).bind fun d=>
 (Q46.f N c a).bind fun e=>
 (Q47.f N d e a).bind fun f=>
 some (f,0)
noncomputable def Q48.E (N:Nat):yC:=dF [] [(71,Q46.ent N),(70,Q47.ent N)] [] [] N [.tmp 6,.tmp 7] [.any,.any] 0 22
noncomputable def Q48.dec (v:V)(bs:List qA):Option (Int×Int):=match v,bs with
 | .tup [.c (.int .i64 a),.c (.int .i64 b)],[]=>some (a,b)
 |_,_=>none
theorem Q48.f_eq (N:Nat)(a b c:Int):
  eB (Q48.E N) (bo Tryz.f50) [.c (.int .i64 a),.c (.int .i64 b),.c (.int .i64 c)] [] Q48.dec=Q48.f N a b c:=by kernel_rfl
noncomputable def Q48.ent (N:Nat):yA:=pF (Int×Int) 0 [true,true,true] [.any,.any,.any] fun
 | [.c (.int .i64 a),.c (.int .i64 b),.c (.int .i64 c)]=>some (Q48.f N a b c,fun r=>.one (.tup [.c (.int .i64 r.1),.c (.int .i64 r.2)]) [])
 |_=>none
theorem Q48.env (N:Nat):dB Tryz.prog (Q48.E N):=⟨.nil,(.cons (Q46.ent_ok N) (.cons (Q47.ent_ok N) .nil))⟩
theorem Q48.spec (N:Nat)(a c d:Int)(r:Int×Int)(h:Q48.f N a c d=some r):lA Tryz.prog 50 [.c (.int .i64 a),.c (.int .i64 c),.c (.int .i64 d)] [] (.tup [.c (.int .i64 r.1),.c (.int .i64 r.2)]) ([]):=vA (Q48.env N) dA Tryz.func50 eA.n ((Q48.f_eq ..).trans h) fun v b e=>by unfold Q48.dec at e;split at e<;>cases e;exact⟨rfl,rfl⟩
theorem Q48.ent_ok (N:Nat):uA Tryz.prog 50 (Q48.ent N):=zA fun v a e h=>by split at h;exact lC (Q:=fun e=>lA _ _ _ _ (e a).pick.1 (e a).pick.2) h fun k=>Q48.spec N _ _ _ a k;cases h
noncomputable def Q49.f (N:Nat)(a b c:Int):Option (Int):=
 (Q48.f N a b c).bind fun d=>
 some d.1
noncomputable def Q49.E (N:Nat):yC:=dF [] [(50,Q48.ent N)] [] [] N [.tmp 6] [.any] 0 17
noncomputable def Q49.dec (v:V)(bs:List qA):Option (Int):=match v,bs with
 | .c (.int .i64 a),[]=>some a
 |_,_=>none
theorem Q49.f_eq (N:Nat)(a b c:Int):
  eB (Q49.E N) (bo Tryz.f37) [.c (.int .i64 a),.c (.int .i64 b),.c (.int .i64 c)] [] Q49.dec=Q49.f N a b c:=by kernel_rfl
noncomputable def Q49.ent (N:Nat):yA:=pF (Int) 0 [true,true,true] [.any,.any,.any] fun
 | [.c (.int .i64 a),.c (.int .i64 b),.c (.int .i64 c)]=>some (Q49.f N a b c,fun r=>.one (.c (.int .i64 r)) [])
 |_=>none
theorem Q49.env (N:Nat):dB Tryz.prog (Q49.E N):=⟨.nil,(.cons (Q48.ent_ok N) .nil)⟩
theorem Q49.spec (N:Nat)(a c d r:Int)(h:Q49.f N a c d=some r):lA Tryz.prog 37 [.c (.int .i64 a),.c (.int .i64 c),.c (.int .i64 d)] [] (.c (.int .i64 r)) ([]):=vA (Q49.env N) dA Tryz.func37 eA.n ((Q49.f_eq ..).trans h) fun v b e=>by unfold Q49.dec at e;split at e<;>cases e;exact⟨rfl,rfl⟩
theorem Q49.ent_ok (N:Nat):uA Tryz.prog 37 (Q49.ent N):=zA fun v a e h=>by split at h;exact lC (Q:=fun e=>lA _ _ _ _ (e a).pick.1 (e a).pick.2) h fun k=>Q49.spec N _ _ _ a k;cases h
noncomputable def Q50.f (N:Nat)(a:Int):Option (Int×Int×Int×Int):=
 bif decide (a>(-3))then
  some (0,0,0,80)
 else
 bif decide (a<(-4294967296))then
  some (0,0,0,80)
 else
 bif (mB .i64 (aA (0-a)) 3)==1 then
  some (0,0,0,80)
 else
 bif (mB .i64 (aA (0-a)) 3)==2 then
  some (0,0,0,80)
 else
 some (1,mB .i64 (aA (0-a)) 1,aA (Int.tdiv (aA ((mB .i64 (aA (0-a)) 1)-a)) 4),0)
noncomputable def Q50.E (N:Nat):yC:=dF [(2,iR),(36,sK)] [] [] [] N [.cell 2 36,.tmp 3] [.recd [.any,.any,.any],.any] 0 33
noncomputable def Q50.dec (v:V)(bs:List qA):Option (Int×Int×Int×Int):=match v,bs with
 | .tup [.agg [.c (.int .i64 a),.c (.int .i64 b),.c (.int .i64 c)],.c (.int .i64 d)],[]=>some (a,b,c,d)
 |_,_=>none
theorem Q50.f_eq (N:Nat)(a:Int):
  eB (Q50.E N) (bo Tryz.f21) [.c (.int .i64 a)] [] Q50.dec=Q50.f N a:=by kernel_rfl
noncomputable def Q50.ent (N:Nat):yA:=pF (Int×Int×Int×Int) 0 [true] [.any] fun
 | [.c (.int .i64 a)]=>some (Q50.f N a,fun r=>.one (.tup [.agg [.c (.int .i64 r.1),.c (.int .i64 r.2.1),.c (.int .i64 r.2.2.1)],.c (.int .i64 r.2.2.2)]) [])
 |_=>none
theorem Q50.env (N:Nat):dB Tryz.prog (Q50.E N):=⟨(.cons aD (.cons tD .nil)),.nil⟩
theorem Q50.spec (N:Nat)(a:Int)(r:Int×Int×Int×Int)(h:Q50.f N a=some r):lA Tryz.prog 21 [.c (.int .i64 a)] [] (.tup [.agg [.c (.int .i64 r.1),.c (.int .i64 r.2.1),.c (.int .i64 r.2.2.1)],.c (.int .i64 r.2.2.2)]) ([]):=vA (Q50.env N) dA Tryz.func21 eA.n ((Q50.f_eq ..).trans h) fun v b e=>by unfold Q50.dec at e;split at e<;>cases e;exact⟨rfl,rfl⟩
theorem Q50.ent_ok (N:Nat):uA Tryz.prog 21 (Q50.ent N):=zA fun v a e h=>by split at h;exact lC (Q:=fun e=>lA _ _ _ _ (e a).pick.1 (e a).pick.2) h fun k=>Q50.spec N _ a k;cases h
noncomputable def Q51.f (N:Nat)(b c d:Int):Option (Int×Int×Int×Int):=
 (Q40.f N b c d).bind fun a=>
 bif a.2.2.2.2.2.2.2 != 0 then
  some (a.1,a.2.1,a.2.2.1,a.2.2.2.2.2.2.2)
 else
 (Q41.f N b c d).bind fun e=>
 bif e != 1 then
  some (0,0,0,81)
 else
 some (a.1,a.2.1,a.2.2.1,0)
noncomputable def Q51.E (N:Nat):yC:=dF [(2,iR),(36,sK),(78,Pp)] [(34,Q40.ent N),(25,Q41.ent N)] [] [] N [.cell 2 36,.tmp 3] [.recd [.any,.any,.any],.any] 0 24
noncomputable def Q51.dec (v:V)(bs:List qA):Option (Int×Int×Int×Int):=match v,bs with
 | .tup [.agg [.c (.int .i64 a),.c (.int .i64 b),.c (.int .i64 c)],.c (.int .i64 d)],[]=>some (a,b,c,d)
 |_,_=>none
theorem Q51.f_eq (N:Nat)(a b c:Int):
  eB (Q51.E N) (bo Tryz.f18) [.agg [.c (.int .i64 a),.c (.int .i64 b),.c (.int .i64 c)]] [] Q51.dec=Q51.f N a b c:=by kernel_rfl
noncomputable def Q51.ent (N:Nat):yA:=pF (Int×Int×Int×Int) 0 [true] [.recd [.any,.any,.any]] fun
 | [.agg [.c (.int .i64 a),.c (.int .i64 b),.c (.int .i64 c)]]=>some (Q51.f N a b c,fun r=>.one (.tup [.agg [.c (.int .i64 r.1),.c (.int .i64 r.2.1),.c (.int .i64 r.2.2.1)],.c (.int .i64 r.2.2.2)]) [])
 |_=>none
theorem Q51.env (N:Nat):dB Tryz.prog (Q51.E N):=⟨(.cons aD (.cons tD (.cons kq .nil))),(.cons (Q40.ent_ok N) (.cons (Q41.ent_ok N) .nil))⟩
theorem Q51.spec (N:Nat)(a c d:Int)(r:Int×Int×Int×Int)(h:Q51.f N a c d=some r):lA Tryz.prog 18 [.agg [.c (.int .i64 a),.c (.int .i64 c),.c (.int .i64 d)]] [] (.tup [.agg [.c (.int .i64 r.1),.c (.int .i64 r.2.1),.c (.int .i64 r.2.2.1)],.c (.int .i64 r.2.2.2)]) ([]):=vA (Q51.env N) dA Tryz.func18 eA.n ((Q51.f_eq ..).trans h) fun v b e=>by unfold Q51.dec at e;split at e<;>cases e;exact⟨rfl,rfl⟩
theorem Q51.ent_ok (N:Nat):uA Tryz.prog 18 (Q51.ent N):=zA fun v a e h=>by split at h;exact lC (Q:=fun e=>lA _ _ _ _ (e a).pick.1 (e a).pick.2) h fun k=>Q51.spec N _ _ _ a k;cases h
noncomputable def Q52.l12 {R:Type}(N:Nat):Nat→Int→Int→Int→Int→Int→Int→(Int→Int→Int→Option R)→Option R
 |0,_,_,_,_,_,_,_=>none
 |n+1,c,a,b,d,e,f,kr=>
  bif !((aA (2*a))==0)then
   bif !((aA (2*a))==0)then
    bif decide ((Int.tmod (aA ((Int.tmod b (aA (2*a)))+(aA (2*a)))) (aA (2*a)))>a)then
     bif !((aA (4*a))==0)then
      bif decide (a<(aA (Int.tdiv (aA ((aA ((aA ((Int.tmod (aA ((Int.tmod b (aA (2*a)))+(aA (2*a)))) (aA (2*a)))- (aA (2*a))))*(aA ((Int.tmod (aA ((Int.tmod b (aA (2*a)))+(aA (2*a)))) (aA (2*a)))- (aA (2*a))))))-c)) (aA (4*a)))))then
       kr a (aA ((Int.tmod (aA ((Int.tmod b (aA (2*a)))+(aA (2*a)))) (aA (2*a)))- (aA (2*a)))) (aA (Int.tdiv (aA ((aA ((aA ((Int.tmod (aA ((Int.tmod b (aA (2*a)))+(aA (2*a)))) (aA (2*a)))- (aA (2*a))))*(aA ((Int.tmod (aA ((Int.tmod b (aA (2*a)))+(aA (2*a)))) (aA (2*a)))- (aA (2*a))))))-c)) (aA (4*a))))
      else
      bif a==(aA (Int.tdiv (aA ((aA ((aA ((Int.tmod (aA ((Int.tmod b (aA (2*a)))+(aA (2*a)))) (aA (2*a)))- (aA (2*a))))*(aA ((Int.tmod (aA ((Int.tmod b (aA (2*a)))+(aA (2*a)))) (aA (2*a)))- (aA (2*a))))))-c)) (aA (4*a))))then
       bif decide ((aA ((Int.tmod (aA ((Int.tmod b (aA (2*a)))+(aA (2*a)))) (aA (2*a)))- (aA (2*a))))≥0)then
        kr a (aA ((Int.tmod (aA ((Int.tmod b (aA (2*a)))+(aA (2*a)))) (aA (2*a)))- (aA (2*a)))) (aA (Int.tdiv (aA ((aA ((aA ((Int.tmod (aA ((Int.tmod b (aA (2*a)))+(aA (2*a)))) (aA (2*a)))- (aA (2*a))))*(aA ((Int.tmod (aA ((Int.tmod b (aA (2*a)))+(aA (2*a)))) (aA (2*a)))- (aA (2*a))))))-c)) (aA (4*a))))
       else
       Q52.l12 N n c (aA (Int.tdiv (aA ((aA ((aA ((Int.tmod (aA ((Int.tmod b (aA (2*a)))+(aA (2*a)))) (aA (2*a)))- (aA (2*a))))*(aA ((Int.tmod (aA ((Int.tmod b (aA (2*a)))+(aA (2*a)))) (aA (2*a)))- (aA (2*a))))))-c)) (aA (4*a)))) (aA (0- (aA ((Int.tmod (aA ((Int.tmod b (aA (2*a)))+(aA (2*a)))) (aA (2*a)))- (aA (2*a)))))) d e f kr
      else
      Q52.l12 N n c (aA (Int.tdiv (aA ((aA ((aA ((Int.tmod (aA ((Int.tmod b (aA (2*a)))+(aA (2*a)))) (aA (2*a)))- (aA (2*a))))*(aA ((Int.tmod (aA ((Int.tmod b (aA (2*a)))+(aA (2*a)))) (aA (2*a)))- (aA (2*a))))))-c)) (aA (4*a)))) (aA (0- (aA ((Int.tmod (aA ((Int.tmod b (aA (2*a)))+(aA (2*a)))) (aA (2*a)))- (aA (2*a)))))) d e f kr
     else none
    else
    bif !((aA (4*a))==0)then
     bif decide (a<(aA (Int.tdiv (aA ((aA ((Int.tmod (aA ((Int.tmod b (aA (2*a)))+(aA (2*a)))) (aA (2*a)))*(Int.tmod (aA ((Int.tmod b (aA (2*a)))+(aA (2*a)))) (aA (2*a)))))-c)) (aA (4*a)))))then
      kr a (Int.tmod (aA ((Int.tmod b (aA (2*a)))+(aA (2*a)))) (aA (2*a))) (aA (Int.tdiv (aA ((aA ((Int.tmod (aA ((Int.tmod b (aA (2*a)))+(aA (2*a)))) (aA (2*a)))*(Int.tmod (aA ((Int.tmod b (aA (2*a)))+(aA (2*a)))) (aA (2*a)))))-c)) (aA (4*a))))
     else
     bif a==(aA (Int.tdiv (aA ((aA ((Int.tmod (aA ((Int.tmod b (aA (2*a)))+(aA (2*a)))) (aA (2*a)))*(Int.tmod (aA ((Int.tmod b (aA (2*a)))+(aA (2*a)))) (aA (2*a)))))-c)) (aA (4*a))))then
      bif decide ((Int.tmod (aA ((Int.tmod b (aA (2*a)))+(aA (2*a)))) (aA (2*a)))≥0)then
       kr a (Int.tmod (aA ((Int.tmod b (aA (2*a)))+(aA (2*a)))) (aA (2*a))) (aA (Int.tdiv (aA ((aA ((Int.tmod (aA ((Int.tmod b (aA (2*a)))+(aA (2*a)))) (aA (2*a)))*(Int.tmod (aA ((Int.tmod b (aA (2*a)))+(aA (2*a)))) (aA (2*a)))))-c)) (aA (4*a))))
      else
      Q52.l12 N n c (aA (Int.tdiv (aA ((aA ((Int.tmod (aA ((Int.tmod b (aA (2*a)))+(aA (2*a)))) (aA (2*a)))*(Int.tmod (aA ((Int.tmod b (aA (2*a)))+(aA (2*a)))) (aA (2*a)))))-c)) (aA (4*a)))) (aA (0- (Int.tmod (aA ((Int.tmod b (aA (2*a)))+(aA (2*a)))) (aA (2*a))))) d e f kr
     else
     Q52.l12 N n c (aA (Int.tdiv (aA ((aA ((Int.tmod (aA ((Int.tmod b (aA (2*a)))+(aA (2*a)))) (aA (2*a)))*(Int.tmod (aA ((Int.tmod b (aA (2*a)))+(aA (2*a)))) (aA (2*a)))))-c)) (aA (4*a)))) (aA (0- (Int.tmod (aA ((Int.tmod b (aA (2*a)))+(aA (2*a)))) (aA (2*a))))) d e f kr
    else none
   else none
  else none
noncomputable def Q52.f (N:Nat)(c e w d f x u:Int):Option (Int×Int×Int):=
 bif decide (c>d)then
  (Q35.f N c d).bind fun v=>
  (Q35.f N (aA (Int.tdiv (aA (f+e)) 2)) v.1).bind fun b=>
  bif !(b.1==0)then
   bif !(b.1==0)then
    (Q49.f N (aA (0-b.2.2)) (aA (e- (aA (Int.tdiv (aA (f+e)) 2)))) (aA (Int.tdiv d b.1))).bind fun h=>
    (Q49.f N v.2.1 h (aA (Int.tdiv d b.1))).bind fun i=>
    (Q49.f N b.2.1 w (aA (Int.tdiv d b.1))).bind fun j=>
    bif !((aA (Int.tdiv d b.1))==0)then
     bif !((aA (Int.tdiv d b.1))==0)then
      Q52.l12 N N u (aA ((aA (Int.tdiv d b.1))*(aA (Int.tdiv c b.1)))) (aA (e+(aA ((aA (2*(aA (Int.tdiv c b.1))))*(Int.tmod (aA ((Int.tmod (aA (i-j)) (aA (Int.tdiv d b.1)))+(aA (Int.tdiv d b.1)))) (aA (Int.tdiv d b.1))))))) 0 0 0
       (fun o p q=>
        some (o,p,q))
     else none
    else none
   else none
  else none
 else
 (Q35.f N d c).bind fun g=>
 (Q35.f N (aA (Int.tdiv (aA (e+f)) 2)) g.1).bind fun a=>
 bif !(a.1==0)then
  bif !(a.1==0)then
   (Q49.f N (aA (0-a.2.2)) (aA (f- (aA (Int.tdiv (aA (e+f)) 2)))) (aA (Int.tdiv c a.1))).bind fun k=>
   (Q49.f N g.2.1 k (aA (Int.tdiv c a.1))).bind fun l=>
   (Q49.f N a.2.1 x (aA (Int.tdiv c a.1))).bind fun m=>
   bif !((aA (Int.tdiv c a.1))==0)then
    bif !((aA (Int.tdiv c a.1))==0)then
     Q52.l12 N N u (aA ((aA (Int.tdiv c a.1))*(aA (Int.tdiv d a.1)))) (aA (f+(aA ((aA (2*(aA (Int.tdiv d a.1))))*(Int.tmod (aA ((Int.tmod (aA (l-m)) (aA (Int.tdiv c a.1)))+(aA (Int.tdiv c a.1)))) (aA (Int.tdiv c a.1))))))) 0 0 0
      (fun r s t=>
       some (r,s,t))
    else none
   else none
  else none
 else none
noncomputable def Q52.h12:cE:=⟨[(2,.any),(6,.box [.any,.any,.any]),(18,.any),(19,.any)],[]⟩
noncomputable def Q52.c12 (N:Nat):tK:=⟨fun vs H k=>match vs,H with
 | [.c (.int .i64 a),.ptr 0 0 3,.c (.int .i64 b),.c (.int .i64 c)],[.vals [.c (.int .i64 d),.c (.int .i64 e),.c (.int .i64 f)]]=>Q52.l12 N N a b c d e f (fun g h i=>k (.ret (.agg [.c (.int .i64 g),.c (.int .i64 h),.c (.int .i64 i)]) []) .nil)
 |_,_=>none⟩
noncomputable def Q52.E (N:Nat):yC:=dF [(2,iR),(36,sK)] [(36,Q35.ent N),(37,Q49.ent N)] [(12,Q52.h12)] [(12,Q52.c12 N)] N [.cell 6 36] [.recd [.any,.any,.any]] 0 138
noncomputable def Q52.b12:Code:=bB ((jA (bo Tryz.f22)).getD 0 .skip)
theorem Q52.l12_eq {R:Type}(N n:Nat)(a b c d e f:Int)(k:Ex→St→Option R):
  vB 0 Q52.h12 (fun s k=>kB (Q52.E N) 387 Q52.b12 s k) n [.c (.int .i64 a),.ptr 0 0 3,.c (.int .i64 b),.c (.int .i64 c)] [.vals [.c (.int .i64 d),.c (.int .i64 e),.c (.int .i64 f)]] k=Q52.l12 N n a b c d e f (fun g h i=>k (.ret (.agg [.c (.int .i64 g),.c (.int .i64 h),.c (.int .i64 i)]) []) .nil):=by
 induction n generalizing a b c d e f with
 |zero=>kernel_rfl
 |succ n ih=>
  simp only[Q52.l12,←ih]
  kernel_rfl
noncomputable def Q52.dec (v:V)(bs:List qA):Option (Int×Int×Int):=match v,bs with
 | .agg [.c (.int .i64 a),.c (.int .i64 b),.c (.int .i64 c)],[]=>some (a,b,c)
 |_,_=>none
theorem Q52.f_eq (N:Nat)(a b c d e f g:Int):
  eB (Q52.E N) (bo Tryz.f22) [.agg [.c (.int .i64 a),.c (.int .i64 b),.c (.int .i64 c)],.agg [.c (.int .i64 d),.c (.int .i64 e),.c (.int .i64 f)],.c (.int .i64 g)] [] Q52.dec=Q52.f N a b c d e f g:=by kernel_rfl
noncomputable def Q52.ent (N:Nat):yA:=pF (Int×Int×Int) 0 [true,true,true] [.recd [.any,.any,.any],.recd [.any,.any,.any],.any] fun
 | [.agg [.c (.int .i64 a),.c (.int .i64 b),.c (.int .i64 c)],.agg [.c (.int .i64 d),.c (.int .i64 e),.c (.int .i64 f)],.c (.int .i64 g)]=>some (Q52.f N a b c d e f g,fun r=>.one (.agg [.c (.int .i64 r.1),.c (.int .i64 r.2.1),.c (.int .i64 r.2.2)]) [])
 |_=>none
theorem Q52.env (N:Nat):dB Tryz.prog (Q52.E N):=⟨(.cons aD (.cons tD .nil)),(.cons (Q35.ent_ok N) (.cons (Q49.ent_ok N) .nil))⟩
theorem Q52.k12 (N:Nat):qC Tryz.prog Tryz.f22 (Q52.E N) (.loop Q52.b12):=vD (Q52.env N) dA 387 (c:=Q52.c12 N) eA.n fun R vs H k r h=>by unfold Q52.c12 at h;dsimp only at h;split at h;exact⟨_,Q52.l12_eq .. ▸h⟩;cases h
theorem Q52.spec (N:Nat)(a c d f g i j:Int)(r:Int×Int×Int)(h:Q52.f N a c d f g i j=some r):lA Tryz.prog 22 [.agg [.c (.int .i64 a),.c (.int .i64 c),.c (.int .i64 d)],.agg [.c (.int .i64 f),.c (.int .i64 g),.c (.int .i64 i)],.c (.int .i64 j)] [] (.agg [.c (.int .i64 r.1),.c (.int .i64 r.2.1),.c (.int .i64 r.2.2)]) ([]):=vA (Q52.env N) dA Tryz.func22 (eA.of (l:=[(.loop (bB ((jA (bo Tryz.f22)).getD 0 .skip)))]) (by kernel_rfl) (eA.cons (Q52.k12 N) eA.nil)) ((Q52.f_eq ..).trans h) fun v b e=>by unfold Q52.dec at e;split at e<;>cases e;exact⟨rfl,rfl⟩
theorem Q52.ent_ok (N:Nat):uA Tryz.prog 22 (Q52.ent N):=zA fun v a e h=>by split at h;exact lC (Q:=fun e=>lA _ _ _ _ (e a).pick.1 (e a).pick.2) h fun k=>Q52.spec N _ _ _ _ _ _ _ a k;cases h
noncomputable def Q53.f (N:Nat)(c d e:Int):Option (Int×Int×Int×Int):=
 (Q51.f N c d e).bind fun a=>
 bif a.2.2.2 != 0 then
  some (0,0,0,a.2.2.2)
 else
 (Q40.f N a.1 (aA (0-a.2.1)) a.2.2.1).bind fun b=>
 some (b.1,b.2.1,b.2.2.1,b.2.2.2.2.2.2.2)
noncomputable def Q53.E (N:Nat):yC:=dF [(2,iR),(36,sK)] [(18,Q51.ent N),(34,Q40.ent N)] [] [] N [.cell 2 36,.tmp 3] [.recd [.any,.any,.any],.any] 0 27
noncomputable def Q53.dec (v:V)(bs:List qA):Option (Int×Int×Int×Int):=match v,bs with
 | .tup [.agg [.c (.int .i64 a),.c (.int .i64 b),.c (.int .i64 c)],.c (.int .i64 d)],[]=>some (a,b,c,d)
 |_,_=>none
theorem Q53.f_eq (N:Nat)(a b c:Int):
  eB (Q53.E N) (bo Tryz.f19) [.agg [.c (.int .i64 a),.c (.int .i64 b),.c (.int .i64 c)]] [] Q53.dec=Q53.f N a b c:=by kernel_rfl
noncomputable def Q53.ent (N:Nat):yA:=pF (Int×Int×Int×Int) 0 [true] [.recd [.any,.any,.any]] fun
 | [.agg [.c (.int .i64 a),.c (.int .i64 b),.c (.int .i64 c)]]=>some (Q53.f N a b c,fun r=>.one (.tup [.agg [.c (.int .i64 r.1),.c (.int .i64 r.2.1),.c (.int .i64 r.2.2.1)],.c (.int .i64 r.2.2.2)]) [])
 |_=>none
theorem Q53.env (N:Nat):dB Tryz.prog (Q53.E N):=⟨(.cons aD (.cons tD .nil)),(.cons (Q51.ent_ok N) (.cons (Q40.ent_ok N) .nil))⟩
theorem Q53.spec (N:Nat)(a c d:Int)(r:Int×Int×Int×Int)(h:Q53.f N a c d=some r):lA Tryz.prog 19 [.agg [.c (.int .i64 a),.c (.int .i64 c),.c (.int .i64 d)]] [] (.tup [.agg [.c (.int .i64 r.1),.c (.int .i64 r.2.1),.c (.int .i64 r.2.2.1)],.c (.int .i64 r.2.2.2)]) ([]):=vA (Q53.env N) dA Tryz.func19 eA.n ((Q53.f_eq ..).trans h) fun v b e=>by unfold Q53.dec at e;split at e<;>cases e;exact⟨rfl,rfl⟩
theorem Q53.ent_ok (N:Nat):uA Tryz.prog 19 (Q53.ent N):=zA fun v a e h=>by split at h;exact lC (Q:=fun e=>lA _ _ _ _ (e a).pick.1 (e a).pick.2) h fun k=>Q53.spec N _ _ _ a k;cases h
noncomputable def Q54.l1000001 {R:Type}(N:Nat):Nat→Int→Int→Int→Int→Int→Int→Int→Int→Int→Int→Int→Int→Int→Int→Int→(Int→Int→Int→Int→Option R)→Option R
 |0,_,_,_,_,_,_,_,_,_,_,_,_,_,_,_,_=>none
 |n+1,q,p,o,r,s,j,k,l,m,a,b,c,g,h,i,kr=>
  bif p==0 then
   kr g h i 0
  else
  bif (mB .u64 p 1)==1 then
   (Q52.f N g h i a b c o).bind fun d=>
   (Q52.f N a b c a b c o).bind fun e=>
   Q54.l1000001 N n q (Int.fdiv p (2^1)) o r s j k l m e.1 e.2.1 e.2.2 d.1 d.2.1 d.2.2 kr
  else
  (Q52.f N a b c a b c o).bind fun f=>
  Q54.l1000001 N n q (Int.fdiv p (2^1)) o r s j k l m f.1 f.2.1 f.2.2 g h i kr
noncomputable def Q54.s1000001 {R:Type}(N:Nat)(c h i j k l m:Int)(kr:(Int→Int→Int→Int→Option R)):Option R:=
 (Q51.f N h i j).bind fun a=>
 bif a.2.2.2 != 0 then
  kr 0 0 0 a.2.2.2
 else
 bif decide (c<0)then
  (Q53.f N a.1 a.2.1 a.2.2.1).bind fun b=>
  (Q37.f N b.1 b.2.1 b.2.2.1).bind fun f=>
  (Q50.f N f).bind fun d=>
  bif (nA (0- (nA c)))==0 then
   kr d.1 d.2.1 d.2.2.1 0
  else
  bif (mB .u64 (nA (0- (nA c))) 1)==1 then
   (Q52.f N d.1 d.2.1 d.2.2.1 b.1 b.2.1 b.2.2.1 f).bind fun o=>
   (Q52.f N b.1 b.2.1 b.2.2.1 b.1 b.2.1 b.2.2.1 f).bind fun p=>
   Q54.l1000001 N N c (Int.fdiv (nA (0- (nA c))) (2^1)) f h i j k l m p.1 p.2.1 p.2.2 o.1 o.2.1 o.2.2 kr
  else
  (Q52.f N b.1 b.2.1 b.2.2.1 b.1 b.2.1 b.2.2.1 f).bind fun q=>
  Q54.l1000001 N N c (Int.fdiv (nA (0- (nA c))) (2^1)) f h i j k l m q.1 q.2.1 q.2.2 d.1 d.2.1 d.2.2.1 kr
 else
 (Q37.f N a.1 a.2.1 a.2.2.1).bind fun g=>
 (Q50.f N g).bind fun e=>
 bif (nA c)==0 then
  kr e.1 e.2.1 e.2.2.1 0
 else
 bif (mB .u64 (nA c) 1)==1 then
  (Q52.f N e.1 e.2.1 e.2.2.1 a.1 a.2.1 a.2.2.1 g).bind fun r=>
  (Q52.f N a.1 a.2.1 a.2.2.1 a.1 a.2.1 a.2.2.1 g).bind fun s=>
  Q54.l1000001 N N c (Int.fdiv (nA c) (2^1)) g h i j k l m s.1 s.2.1 s.2.2 r.1 r.2.1 r.2.2 kr
 else
 (Q52.f N a.1 a.2.1 a.2.2.1 a.1 a.2.1 a.2.2.1 g).bind fun t=>
 Q54.l1000001 N N c (Int.fdiv (nA c) (2^1)) g h i j k l m t.1 t.2.1 t.2.2 e.1 e.2.1 e.2.2.1 kr
noncomputable def Q54.f (N:Nat)(e f g h:Int):Option (Int×Int×Int×Int):=
 Q54.s1000001 N h e f g 0 0 0
  (fun a b c d=>
   some (a,b,c,d))
noncomputable def Q54.h1000001:cE:=⟨[(1,.any),(2,.box [.any,.any,.any]),(4,.box [.any,.any,.any]),(6,.any),(8,.any),(9,.any),(10,.any)],[(4,.any),(5,.any)]⟩
noncomputable def Q54.c1000001 (N:Nat):tK:=⟨fun vs H k=>match vs,H with
 | [.c (.int .i64 e),.ptr 0 0 3,.ptr 1 0 3,.poison,.poison,.poison,.poison],[.vals [.c (.int .i64 f),.c (.int .i64 g),.c (.int .i64 h)],.vals [.c (.int .i64 i),.c (.int .i64 j),.c (.int .i64 l)]]=>Q54.s1000001 N e f g h i j l (fun a b c d=>k (.ret (.tup [.agg [.c (.int .i64 a),.c (.int .i64 b),.c (.int .i64 c)],.c (.int .i64 d)]) []) .nil)
 |_,_=>none⟩
noncomputable def Q54.E (N:Nat):yC:=dF [(2,iR),(36,sK),(54,mP)] [(18,Q51.ent N),(19,Q53.ent N),(20,Q37.ent N),(21,Q50.ent N),(22,Q52.ent N)] [(1000001,Q54.h1000001)] [(1000001,Q54.c1000001 N)] N [.cell 4 36,.tmp 5] [.recd [.any,.any,.any],.any] 0 55
noncomputable def Q54.b1000001:Code:=bB ((jA (bo Tryz.f10)).getD 0 .skip)
noncomputable def Q54.r1000001:Code:=(findLabel Q54.b1000001 0).getD .skip
theorem Q54.l1000001_eq {R:Type}(N n:Nat)(r t u v w a b d e f g h i j l:Int)(k:Ex→St→Option R):
  aN 0 Q54.h1000001 (fun c s k=>kB (Q54.E N) 398 c s k) Q54.b1000001 n Q54.r1000001 [.c (.int .i64 r),.ptr 0 0 3,.ptr 1 0 3,.ptr 2 0 3,.c (.int .u64 t),.c (.int .i64 u),.ptr 3 0 3] [.vals [.c (.int .i64 v),.c (.int .i64 w),.c (.int .i64 a)],.vals [.c (.int .i64 b),.c (.int .i64 d),.c (.int .i64 e)],.vals [.c (.int .i64 f),.c (.int .i64 g),.c (.int .i64 h)],.vals [.c (.int .i64 i),.c (.int .i64 j),.c (.int .i64 l)]] k=Q54.l1000001 N n r t u v w a b d e f g h i j l (fun m o p q=>k (.ret (.tup [.agg [.c (.int .i64 m),.c (.int .i64 o),.c (.int .i64 p)],.c (.int .i64 q)]) []) .nil):=by
 induction n generalizing r t u v w a b d e f g h i j l with
 |zero=>kernel_rfl
 |succ n ih=>
  simp only[Q54.l1000001,←ih]
  kernel_rfl
theorem Q54.s1000001_eq {R:Type}(N:Nat)(a b d e f g h:Int)(k:Ex→St→Option R):
  aN 0 Q54.h1000001 (fun c s k=>kB (Q54.E N) 398 c s k) Q54.b1000001 (N+1) Q54.b1000001 [.c (.int .i64 a),.ptr 0 0 3,.ptr 1 0 3,.poison,.poison,.poison,.poison] [.vals [.c (.int .i64 b),.c (.int .i64 d),.c (.int .i64 e)],.vals [.c (.int .i64 f),.c (.int .i64 g),.c (.int .i64 h)]] k=Q54.s1000001 N a b d e f g h (fun i j l m=>k (.ret (.tup [.agg [.c (.int .i64 i),.c (.int .i64 j),.c (.int .i64 l)],.c (.int .i64 m)]) []) .nil):=by
 simp only[Q54.s1000001,←Q54.l1000001_eq]
 kernel_rfl
noncomputable def Q54.dec (v:V)(bs:List qA):Option (Int×Int×Int×Int):=match v,bs with
 | .tup [.agg [.c (.int .i64 a),.c (.int .i64 b),.c (.int .i64 c)],.c (.int .i64 d)],[]=>some (a,b,c,d)
 |_,_=>none
theorem Q54.f_eq (N:Nat)(a b c d:Int):
  eB (Q54.E N) (bo Tryz.f10) [.agg [.c (.int .i64 a),.c (.int .i64 b),.c (.int .i64 c)],.c (.int .i64 d)] [] Q54.dec=Q54.f N a b c d:=by kernel_rfl
noncomputable def Q54.ent (N:Nat):yA:=pF (Int×Int×Int×Int) 0 [true,true] [.recd [.any,.any,.any],.any] fun
 | [.agg [.c (.int .i64 a),.c (.int .i64 b),.c (.int .i64 c)],.c (.int .i64 d)]=>some (Q54.f N a b c d,fun r=>.one (.tup [.agg [.c (.int .i64 r.1),.c (.int .i64 r.2.1),.c (.int .i64 r.2.2.1)],.c (.int .i64 r.2.2.2)]) [])
 |_=>none
theorem Q54.env (N:Nat):dB Tryz.prog (Q54.E N):=⟨(.cons aD (.cons tD (.cons bF .nil))),(.cons (Q51.ent_ok N) (.cons (Q53.ent_ok N) (.cons (Q37.ent_ok N) (.cons (Q50.ent_ok N) (.cons (Q52.ent_ok N) .nil)))))⟩
theorem Q54.res_eq (N:Nat):(Q54.E N).res=Tryz.f10.results.toList:=by kernel_rfl
theorem Q54.k1000001 (N:Nat):qC Tryz.prog Tryz.f10 (Q54.E N) (.scope Q54.b1000001):=by
 intro e hd he hh R vs H k r h;have e1:(Q54.E N).cut (1000000+qF Q54.b1000001)=some (Q54.c1000001 N):=by kernel_rfl
 have e2:(Q54.E N).hint (1000000+qF Q54.b1000001)=some Q54.h1000001:=by kernel_rfl
 rw[e1]at he;rw[e2]at hh;cases he;cases hh;unfold Q54.c1000001 at h;dsimp only at h;split at h
 ·rw[←Q54.s1000001_eq]at h;exact Lw (Q54.env N) dA (Q54.res_eq N) eA.n h
 ·cases h
theorem Q54.spec (N:Nat)(a c d f:Int)(r:Int×Int×Int×Int)(h:Q54.f N a c d f=some r):lA Tryz.prog 10 [.agg [.c (.int .i64 a),.c (.int .i64 c),.c (.int .i64 d)],.c (.int .i64 f)] [] (.tup [.agg [.c (.int .i64 r.1),.c (.int .i64 r.2.1),.c (.int .i64 r.2.2.1)],.c (.int .i64 r.2.2.2)]) ([]):=vA (Q54.env N) dA Tryz.func10 (eA.of (l:=[(.scope (bB ((jA (bo Tryz.f10)).getD 0 .skip)))]) (by kernel_rfl) (eA.cons (Q54.k1000001 N) eA.nil)) ((Q54.f_eq ..).trans h) fun v b e=>by unfold Q54.dec at e;split at e<;>cases e;exact⟨rfl,rfl⟩
theorem Q54.ent_ok (N:Nat):uA Tryz.prog 10 (Q54.ent N):=zA fun v a e h=>by split at h;exact lC (Q:=fun e=>lA _ _ _ _ (e a).pick.1 (e a).pick.2) h fun k=>Q54.spec N _ _ _ _ a k;cases h
noncomputable def Mg:TI:=⟨.slice 3,1,24,[.slice none 0 0]⟩
noncomputable def Ss:TI:=⟨.map 36 2,1,8,[.map none]⟩
theorem dX:kC Tryz.prog 42 Mg:=nC (by kernel_rfl) (by kernel_rfl) (by kernel_rfl) (by kernel_rfl) (by kernel_rfl) (by kernel_rfl) (by kernel_rfl) (Tryz.underlying42) (by kernel_rfl)
theorem zj:kC Tryz.prog 71 Ss:=nC (by kernel_rfl) (by kernel_rfl) (by kernel_rfl) (by kernel_rfl) (by kernel_rfl) (by kernel_rfl) (by kernel_rfl) (kl Tryz.underlying71 (by kernel_rfl)) (by kernel_rfl)
noncomputable def Q55.f (N:Nat)(a:Int):Option (Bool):=
 some (a != a)
noncomputable def Q55.E (N:Nat):yC:=dF [] [] [] [] N [.tmp 2] [.any] 0 6
noncomputable def Q55.dec (v:V)(bs:List qA):Option (Bool):=match v,bs with
 | .c (.bool a),[]=>some a
 |_,_=>none
theorem Q55.f_eq (N:Nat)(a:Int):
  eB (Q55.E N) (bo Tryz.f44) [.c (.int .i64 a)] [] Q55.dec=Q55.f N a:=by kernel_rfl
noncomputable def Q55.ent (N:Nat):yA:=pF (Bool) 0 [true] [.any] fun
 | [.c (.int .i64 a)]=>some (Q55.f N a,fun r=>.one (.c (.bool r)) [])
 |_=>none
theorem Q55.env (N:Nat):dB Tryz.prog (Q55.E N):=⟨.nil,.nil⟩
theorem Q55.spec (N:Nat)(a:Int)(r:Bool)(h:Q55.f N a=some r):lA Tryz.prog 44 [.c (.int .i64 a)] [] (.c (.bool r)) ([]):=vA (Q55.env N) dA Tryz.func44 eA.n ((Q55.f_eq ..).trans h) fun v b e=>by unfold Q55.dec at e;split at e<;>cases e;exact⟨rfl,rfl⟩
theorem Q55.ent_ok (N:Nat):uA Tryz.prog 44 (Q55.ent N):=zA fun v a e h=>by split at h;exact lC (Q:=fun e=>lA _ _ _ _ (e a).pick.1 (e a).pick.2) h fun k=>Q55.spec N _ a k;cases h
noncomputable def Q56.f (N:Nat)(a b:Int):Option (Int):=
 (Q55.f N a).bind fun d=>
 (Q55.f N b).bind fun c=>
 bif d then
  bif c then
   some 0
  else
  some (-1)
 else
 bif c then
  some 1
 else
 bif decide (a<b)then
  some (-1)
 else
 bif decide (a>b)then
  some 1
 else
 some 0
noncomputable def Q56.E (N:Nat):yC:=dF [] [(44,Q55.ent N)] [] [] N [.tmp 4] [.any] 0 20
noncomputable def Q56.dec (v:V)(bs:List qA):Option (Int):=match v,bs with
 | .c (.int .i64 a),[]=>some a
 |_,_=>none
theorem Q56.f_eq (N:Nat)(a b:Int):
  eB (Q56.E N) (bo Tryz.f33) [.c (.int .i64 a),.c (.int .i64 b)] [] Q56.dec=Q56.f N a b:=by kernel_rfl
noncomputable def Q56.ent (N:Nat):yA:=pF (Int) 0 [true,true] [.any,.any] fun
 | [.c (.int .i64 a),.c (.int .i64 b)]=>some (Q56.f N a b,fun r=>.one (.c (.int .i64 r)) [])
 |_=>none
theorem Q56.env (N:Nat):dB Tryz.prog (Q56.E N):=⟨.nil,(.cons (Q55.ent_ok N) .nil)⟩
theorem Q56.spec (N:Nat)(a c r:Int)(h:Q56.f N a c=some r):lA Tryz.prog 33 [.c (.int .i64 a),.c (.int .i64 c)] [] (.c (.int .i64 r)) ([]):=vA (Q56.env N) dA Tryz.func33 eA.n ((Q56.f_eq ..).trans h) fun v b e=>by unfold Q56.dec at e;split at e<;>cases e;exact⟨rfl,rfl⟩
theorem Q56.ent_ok (N:Nat):uA Tryz.prog 33 (Q56.ent N):=zA fun v a e h=>by split at h;exact lC (Q:=fun e=>lA _ _ _ _ (e a).pick.1 (e a).pick.2) h fun k=>Q56.spec N _ _ a k;cases h
noncomputable def Q57.l3 {R:Type}(N:Nat):Nat→Int→List Int→Int→Int→(Int→Option R)→(Int→Option R)→Option R
 |0,_,_,_,_,_,_=>none
 |n+1,c,b,e,a,d,kr=>
  bif decide (a<e)then
   bif (decide (0≤a))&&(decide (a<(b.length:Int)))then
    bif (b.getD a.toNat 0) != c then
     kr (b.getD a.toNat 0)
    else
    Q57.l3 N n c b e (aA (a+1)) d kr
   else none
  else
  d c
noncomputable def Q57.f (N:Nat)(a:List Int):Option (Int):=
 Q57.l3 N N 0 a (a.length:Int) 0
  (fun b=>
   some b)
  (fun c=>
   some c)
noncomputable def Q57.h3:cE:=⟨[(3,.any),(6,.il .i64 1),(7,.any),(8,.any)],[(3,.any)]⟩
noncomputable def Q57.c3 (N:Nat):tK:=⟨fun vs H k=>match vs,H with
 | [.c (.int .i64 a),.il .i64 1 b,.c (.int .i64 c),.c (.int .i64 d)],[]=>Q57.l3 N N a b c d (fun f=>k (.exit 0) ⟨iE Q57.h3.out [.c (.int .i64 f)],[]⟩) (fun e=>k (.ret (.c (.int .i64 e)) []) .nil)
 |_,_=>none⟩
noncomputable def Q57.E (N:Nat):yC:=dF [(3,Bo),(42,Mg)] [] [(3,Q57.h3)] [(3,Q57.c3 N)] N [.tmp 2] [.any] 0 18
noncomputable def Q57.b3:Code:=bB ((jA (bo Tryz.f32)).getD 0 .skip)
theorem Q57.l3_eq {R:Type}(N n:Nat)(a:Int)(b:List Int)(c d:Int)(k:Ex→St→Option R):
  vB 0 Q57.h3 (fun s k=>kB (Q57.E N) 394 Q57.b3 s k) n [.c (.int .i64 a),.il .i64 1 b,.c (.int .i64 c),.c (.int .i64 d)] [] k=Q57.l3 N n a b c d (fun f=>k (.exit 0) ⟨iE Q57.h3.out [.c (.int .i64 f)],[]⟩) (fun e=>k (.ret (.c (.int .i64 e)) []) .nil):=by
 induction n generalizing a b c d with
 |zero=>kernel_rfl
 |succ n ih=>
  simp only[Q57.l3,←ih]
  kernel_rfl
noncomputable def Q57.dec (v:V)(bs:List qA):Option (Int):=match v,bs with
 | .c (.int .i64 a),[]=>some a
 |_,_=>none
theorem Q57.f_eq (N:Nat)(a:List Int):
  eB (Q57.E N) (bo Tryz.f32) [.il .i64 1 a] [] Q57.dec=Q57.f N a:=by kernel_rfl
noncomputable def Q57.ent (N:Nat):yA:=pF (Int) 0 [true] [.il .i64 1] fun
 | [.il .i64 1 a]=>some (Q57.f N a,fun r=>.one (.c (.int .i64 r)) [])
 |_=>none
theorem Q57.env (N:Nat):dB Tryz.prog (Q57.E N):=⟨(.cons jJ (.cons dX .nil)),.nil⟩
theorem Q57.k3 (N:Nat):qC Tryz.prog Tryz.f32 (Q57.E N) (.loop Q57.b3):=vD (Q57.env N) dA 394 (c:=Q57.c3 N) eA.n fun R vs H k r h=>by unfold Q57.c3 at h;dsimp only at h;split at h;exact⟨_,Q57.l3_eq .. ▸h⟩;cases h
theorem Q57.spec (N:Nat)(a:List Int)(r:Int)(h:Q57.f N a=some r):lA Tryz.prog 32 [.il .i64 1 a] [] (.c (.int .i64 r)) ([]):=vA (Q57.env N) dA Tryz.func32 (eA.of (l:=[(.loop (bB ((jA (bo Tryz.f32)).getD 0 .skip)))]) (by kernel_rfl) (eA.cons (Q57.k3 N) eA.nil)) ((Q57.f_eq ..).trans h) fun v b e=>by unfold Q57.dec at e;split at e<;>cases e;exact⟨rfl,rfl⟩
theorem Q57.ent_ok (N:Nat):uA Tryz.prog 32 (Q57.ent N):=zA fun v a e h=>by split at h;exact lC (Q:=fun e=>lA _ _ _ _ (e a).pick.1 (e a).pick.2) h fun k=>Q57.spec N _ a k;cases h
noncomputable def Q58.f (N:Nat)(b c d e f g:Int):Option (Int):=
 (Q56.f N b e).bind fun h=>
 (Q56.f N c f).bind fun i=>
 (Q56.f N d g).bind fun j=>
 (Q57.f N [h,i,j]).bind fun a=>
 some a
noncomputable def Q58.E (N:Nat):yC:=dF [(2,iR),(3,Bo),(36,sK),(42,Mg)] [(33,Q56.ent N),(32,Q57.ent N)] [] [] N [.tmp 4] [.any] 0 22
noncomputable def Q58.dec (v:V)(bs:List qA):Option (Int):=match v,bs with
 | .c (.int .i64 a),[]=>some a
 |_,_=>none
theorem Q58.f_eq (N:Nat)(a b c d e f:Int):
  eB (Q58.E N) (bo Tryz.f31) [.agg [.c (.int .i64 a),.c (.int .i64 b),.c (.int .i64 c)],.agg [.c (.int .i64 d),.c (.int .i64 e),.c (.int .i64 f)]] [] Q58.dec=Q58.f N a b c d e f:=by kernel_rfl
theorem Q58.env (N:Nat):dB Tryz.prog (Q58.E N):=⟨(.cons aD (.cons jJ (.cons tD (.cons dX .nil)))),(.cons (Q56.ent_ok N) (.cons (Q57.ent_ok N) .nil))⟩
theorem Q58.spec (N:Nat)(a c d f g i r:Int)(h:Q58.f N a c d f g i=some r):lA Tryz.prog 31 [.agg [.c (.int .i64 a),.c (.int .i64 c),.c (.int .i64 d)],.agg [.c (.int .i64 f),.c (.int .i64 g),.c (.int .i64 i)]] [] (.c (.int .i64 r)) ([]):=vA (Q58.env N) dA Tryz.func31 eA.n ((Q58.f_eq ..).trans h) fun v b e=>by unfold Q58.dec at e;split at e<;>cases e;exact⟨rfl,rfl⟩
noncomputable def Q59.f (N:Nat)(a:Int):Option (Int):=
 bif decide (a<(-65536))then
  some 80
 else
 bif decide (a>(-3))then
  some 80
 else
 bif (Int.tmod (aA (0-a)) 4)==1 then
  some 80
 else
 bif (Int.tmod (aA (0-a)) 4)==2 then
  some 80
 else
 some 0
noncomputable def Q59.E (N:Nat):yC:=dF [] [] [] [] N [.tmp 2] [.any] 0 21
noncomputable def Q59.dec (v:V)(bs:List qA):Option (Int):=match v,bs with
 | .c (.int .i64 a),[]=>some a
 |_,_=>none
theorem Q59.f_eq (N:Nat)(a:Int):
  eB (Q59.E N) (bo Tryz.f6) [.c (.int .i64 a)] [] Q59.dec=Q59.f N a:=by kernel_rfl
noncomputable def Q59.ent (N:Nat):yA:=pF (Int) 0 [true] [.any] fun
 | [.c (.int .i64 a)]=>some (Q59.f N a,fun r=>.one (.c (.int .i64 r)) [])
 |_=>none
theorem Q59.env (N:Nat):dB Tryz.prog (Q59.E N):=⟨.nil,.nil⟩
theorem Q59.spec (N:Nat)(a r:Int)(h:Q59.f N a=some r):lA Tryz.prog 6 [.c (.int .i64 a)] [] (.c (.int .i64 r)) ([]):=vA (Q59.env N) dA Tryz.func6 eA.n ((Q59.f_eq ..).trans h) fun v b e=>by unfold Q59.dec at e;split at e<;>cases e;exact⟨rfl,rfl⟩
theorem Q59.ent_ok (N:Nat):uA Tryz.prog 6 (Q59.ent N):=zA fun v a e h=>by split at h;exact lC (Q:=fun e=>lA _ _ _ _ (e a).pick.1 (e a).pick.2) h fun k=>Q59.spec N _ a k;cases h
noncomputable def Q60.l7 {R:Type}(N:Nat):Nat→Int→Int→Int→Int→List (List Int)→List Int→(Int→Int→List (List Int)→List Int→Option R)→Option R
 |0,_,_,_,_,_,_,_=>none
 |n+1,h,c,d,a,b,e,g=>
  bif decide ((aA (a*a))≤d)then
   bif !(a==0)then
    bif (Int.tmod d a) != 0 then
     Q60.l7 N n h c d (aA (a+1)) b e g
    else
    bif !(a==0)then
     (Q41.f N a c (aA (Int.tdiv d a))).bind fun f=>
     bif decide (c>0)then
      bif decide (c<a)then
       bif decide (a<(aA (Int.tdiv d a)))then
        Q60.l7 N n h c d (aA (a+1)) (oB [a,aA (0-c),aA (Int.tdiv d a)] (oB [a,c,aA (Int.tdiv d a)] b)) (iH [a,aA (0-c),aA (Int.tdiv d a)] (mD [a,c,aA (Int.tdiv d a)] (oB [a,c,aA (Int.tdiv d a)] b) (iH [a,c,aA (Int.tdiv d a)] f b e)) (oB [a,c,aA (Int.tdiv d a)] b) (iH [a,c,aA (Int.tdiv d a)] f b e)) g
       else
       Q60.l7 N n h c d (aA (a+1)) (oB [a,c,aA (Int.tdiv d a)] b) (iH [a,c,aA (Int.tdiv d a)] f b e) g
      else
      Q60.l7 N n h c d (aA (a+1)) (oB [a,c,aA (Int.tdiv d a)] b) (iH [a,c,aA (Int.tdiv d a)] f b e) g
     else
     Q60.l7 N n h c d (aA (a+1)) (oB [a,c,aA (Int.tdiv d a)] b) (iH [a,c,aA (Int.tdiv d a)] f b e) g
    else none
   else none
  else
  g h c b e
noncomputable def Q60.l3 {R:Type}(N:Nat):Nat→Int→Int→List (List Int)→List Int→(List (List Int)→List Int→Option R)→Option R
 |0,_,_,_,_,_=>none
 |n+1,b,a,h,i,g=>
  bif decide ((aA ((aA (3*a))*a))≤(aA (0-b)))then
   Q60.l7 N N b a (aA (Int.tdiv (aA ((aA (a*a))-b)) 4)) (E6 a 1) h i
    (fun c d e f=>
     Q60.l3 N n c (aA (d+2)) e f g)
  else
  g h i
noncomputable def Q60.f (N:Nat)(c:Int):Option (List (List Int)×List Int):=
 Q60.l3 N N c (Int.tmod (aA (0-c)) 2) [] []
  (fun a b=>
   some (a,b))
noncomputable def Q60.h3:cE:=⟨[(0,.any),(3,.any),(4,.any)],[(3,.any)]⟩
noncomputable def Q60.h7:cE:=⟨[(0,.any),(3,.any),(4,.any),(5,.any),(6,.any)],[(0,.any),(3,.any),(4,.any)]⟩
noncomputable def Q60.c7 (N:Nat):tK:=⟨fun vs H k=>match vs,H with
 | [.c (.int .i64 g),.mref 0,.c (.int .i64 h),.c (.int .i64 i),.c (.int .i64 j)],[.mp .i64 3 a (.ints .i64 b)]=>Q60.l7 N N g h i j a b (fun c d e f=>k (.exit 2) ⟨iE Q60.h7.out [.c (.int .i64 c),.mref 0,.c (.int .i64 d)],[.mp .i64 3 e (.ints .i64 f)]⟩)
 |_,_=>none⟩
noncomputable def Q60.c3 (N:Nat):tK:=⟨fun vs H k=>match vs,H with
 | [.c (.int .i64 c),.mref 0,.c (.int .i64 d)],[.mp .i64 3 e (.ints .i64 f)]=>Q60.l3 N N c d e f (fun a b=>k (.exit 0) ⟨iE Q60.h3.out [.mref 0],[.mp .i64 3 a (.ints .i64 b)]⟩)
 |_,_=>none⟩
noncomputable def Q60.E (N:Nat):yC:=dF [(2,iR),(36,sK),(71,Ss)] [(25,Q41.ent N)] [(3,Q60.h3),(7,Q60.h7)] [(7,Q60.c7 N),(3,Q60.c3 N)] N [.tmp 2] [.any] 0 74 true
noncomputable def Q60.b7:Code:=bB ((jA (bo Tryz.f29)).getD 1 .skip)
theorem Q60.l7_eq {R:Type}(N n:Nat)(g h i j:Int)(a:List (List Int))(b:List Int)(k:Ex→St→Option R):
  vB 0 Q60.h7 (fun s k=>kB (Q60.E N) 387 Q60.b7 s k) n [.c (.int .i64 g),.mref 0,.c (.int .i64 h),.c (.int .i64 i),.c (.int .i64 j)] [.mp .i64 3 a (.ints .i64 b)] k=Q60.l7 N n g h i j a b (fun c d e f=>k (.exit 2) ⟨iE Q60.h7.out [.c (.int .i64 c),.mref 0,.c (.int .i64 d)],[.mp .i64 3 e (.ints .i64 f)]⟩):=by
 induction n generalizing g h i j a b with
 |zero=>kernel_rfl
 |succ n ih=>
  simp only[Q60.l7,←ih]
  kernel_rfl
noncomputable def Q60.b3:Code:=bB ((jA (bo Tryz.f29)).getD 0 .skip)
theorem Q60.l3_eq {R:Type}(N n:Nat)(a d:Int)(e:List (List Int))(f:List Int)(k:Ex→St→Option R):
  vB 0 Q60.h3 (fun s k=>kB (Q60.E N) 394 Q60.b3 s k) n [.c (.int .i64 a),.mref 0,.c (.int .i64 d)] [.mp .i64 3 e (.ints .i64 f)] k=Q60.l3 N n a d e f (fun b c=>k (.exit 0) ⟨iE Q60.h3.out [.mref 0],[.mp .i64 3 b (.ints .i64 c)]⟩):=by
 induction n generalizing a d e f with
 |zero=>kernel_rfl
 |succ n ih=>
  simp only[Q60.l3,←ih]
  kernel_rfl
noncomputable def Q60.dec (v:V)(bs:List qA):Option (List (List Int)×List Int):=match v,bs with
 | .mref 0,[.mp .i64 3 a (.ints .i64 b)]=>some (a,b)
 |_,_=>none
theorem Q60.f_eq (N:Nat)(a:Int):
  eB (Q60.E N) (bo Tryz.f29) [.c (.int .i64 a)] [] Q60.dec=Q60.f N a:=by kernel_rfl
noncomputable def Q60.ent (N:Nat):yA:=pF (List (List Int)×List Int) 1 [true] [.any] fun
 | [.c (.int .i64 a)]=>some (Q60.f N a,fun r=>.one (.mref 0) [.mp .i64 3 r.1 (.ints .i64 r.2)])
 |_=>none
theorem Q60.env (N:Nat):dB Tryz.prog (Q60.E N):=⟨(.cons aD (.cons tD (.cons zj .nil))),(.cons (Q41.ent_ok N) .nil)⟩
theorem Q60.k7 (N:Nat):qC Tryz.prog Tryz.f29 (Q60.E N) (.loop Q60.b7):=vD (Q60.env N) dA 387 (c:=Q60.c7 N) eA.n fun R vs H k r h=>by unfold Q60.c7 at h;dsimp only at h;split at h;exact⟨_,Q60.l7_eq .. ▸h⟩;cases h
theorem Q60.k3 (N:Nat):qC Tryz.prog Tryz.f29 (Q60.E N) (.loop Q60.b3):=vD (Q60.env N) dA 394 (c:=Q60.c3 N) (eA.of (l:=[(.loop (bB ((jA (bo Tryz.f29)).getD 1 .skip)))]) (by kernel_rfl) (eA.cons (Q60.k7 N) eA.nil)) fun R vs H k r h=>by unfold Q60.c3 at h;dsimp only at h;split at h;exact⟨_,Q60.l3_eq .. ▸h⟩;cases h
theorem Q60.spec (N:Nat)(a:Int)(r:List (List Int)×List Int)(h:Q60.f N a=some r):lA Tryz.prog 29 [.c (.int .i64 a)] [] (.mref 0) ([.mp .i64 3 r.1 (.ints .i64 r.2)]):=vA (Q60.env N) dA Tryz.func29 (eA.of (l:=[(.loop (bB ((jA (bo Tryz.f29)).getD 0 .skip))),(.loop (bB ((jA (bo Tryz.f29)).getD 1 .skip)))]) (by kernel_rfl) (eA.cons (Q60.k3 N) (eA.cons (Q60.k7 N) eA.nil))) ((Q60.f_eq ..).trans h) fun v b e=>by unfold Q60.dec at e;split at e<;>cases e;exact⟨rfl,rfl⟩
theorem Q60.ent_ok (N:Nat):uA Tryz.prog 29 (Q60.ent N):=zA fun v a e h=>by split at h;exact lC (Q:=fun e=>lA _ _ _ _ (e a).pick.1 (e a).pick.2) h fun k=>Q60.spec N _ a k;cases h
end Go.Proofs.YteaakcmkpacpaaaGreat
namespace Go.Proofs.YteaakcmkpacpaaaGreat.Ev
open Go.Shelf Go.RowKit Go.Lib Go.Sort
abbrev R3:=Int×Int×Int
def uW (x y:R3):Bool:=decide (x.1<y.1)||(x.1==y.1&&(decide (x.2.1<y.2.1)||(x.2.1==y.2.1&&decide (x.2.2≤y.2.2))))
def wT (x y:R3):Int:=
 if x.1<y.1 then-1 else if y.1<x.1 then 1 else
 if x.2.1<y.2.1 then-1 else if y.2.1<x.2.1 then 1 else
 if x.2.2<y.2.2 then-1 else if y.2.2<x.2.2 then 1 else 0
def th (x:R3):List R3→List R3
 | []=>[x]
 |y::r=>bif uW x y then x::y::r else y::th x r
def iP:List R3→List R3
 | []=>[]
 |x::r=>th x (iP r)
def nF:List Int→List R3
 |a::b::c::r=>(a,b,c)::nF r
 |_=>[]
def rB:List R3→List Int
 | []=>[]
 |x::r=>x.1::x.2.1::x.2.2::rB r
def cW (l:List Int):List Int:=rB (iP (nF l))
theorem nJ (x y:R3):uW x y=true↔(x.1<y.1∨x.1=y.1∧(x.2.1<y.2.1∨x.2.1=y.2.1∧x.2.2≤y.2.2)):=by
 simp[uW]
theorem df (x y:R3):uW x y=true∨uW y x=true:=by
 rw[nJ,nJ];omega
theorem dg {x y z:R3}(h:uW x y=true)(k:uW y z=true):uW x z=true:=by
 rw[nJ]at*;omega
theorem nz {x y:R3}(h:uW x y=true)(k:uW y x=true):x=y:=by
 rw[nJ]at*;exact Prod.ext (by omega) (Prod.ext (by omega) (by omega))
theorem nR (x y:R3):ltOf wT x y= !(uW y x):=by
 unfold ltOf wT;rw[Bool.eq_iff_iff];simp only[decide_eq_true_eq,Bool.not_eq_true',←Bool.not_eq_true,nJ]
 repeat' split
 all_goals omega
theorem eU (x:R3):∀l,(th x l).Perm (x::l)
 | []=>.refl _
 |y::r=>by
  unfold th;cases uW x y
  ·exact((eU x r).cons y).trans (.swap _ _ _)
  ·exact .refl _
theorem yU:∀l,(iP l).Perm l
 | []=>.refl _
 |x::r=>(eU x _).trans ((yU r).cons x)
theorem pV (x:R3):∀l,l.Pairwise (fun a b=>uW a b=true)→(th x l).Pairwise (fun a b=>uW a b=true)
 | [],_=>by simp[th]
 |y::r,h=>by
  obtain⟨h1,h2⟩:=iB.mp h;unfold th;cases hxy:uW x y
  ·refine iB.mpr ⟨fun z hz=>?_,pV x r h2⟩;rcases List.mem_cons.mp ((eU x r).mem_iff.mp hz)with rfl|hz
   ·exact(df z y).resolve_left (by rw[hxy];simp)
   ·exact h1 z hz
  ·refine iB.mpr ⟨fun z hz=>?_,h⟩;rcases List.mem_cons.mp hz with rfl|hz
   ·exact hxy
   ·exact dg hxy (h1 z hz)
theorem fW:∀l,(iP l).Pairwise (fun a b=>uW a b=true)
 | []=>.nil
 |x::r=>pV x _ (fW r)
theorem lL {l m:List R3}(h:l.Perm m)(hs:l.Pairwise (fun a b=>uW a b=true)):l=iP m:=
 List.Perm.eq_of_pairwise (le:=fun a b=>uW a b=true) (fun a b _ _ h1 h2=>nz h1 h2) hs (fW m) (h.trans (yU m).symm)
theorem Bh (d:List R3):(d.mergeSort fun x y=>!(ltOf wT) y x)=iP d:=by
 have e:(fun x y=>!(ltOf wT) y x)=uW:=by funext x y;rw[nR];simp
 rw[e];exact lL (List.mergeSort_perm d uW) (List.pairwise_mergeSort (le:=uW) (fun a b c h k=>dg h k) (fun a b=>by simpa using df a b) d)
theorem Uk:SWO (ltOf wT) where
 irrefl x:=by rw[nR,hB,nJ];omega
 trans x y z h1 h2:=by rw[nR,Bool.not_eq_true',←Bool.not_eq_true,nJ]at*;omega
 ntrans x y z h1 h2:=by rw[nR,hB,nJ]at*;omega
theorem Ul (x y:R3)(h:(ltOf wT) x y=false)(k:(ltOf wT) y x=false):x=y:=by
 rw[nR,hB]at*;exact nz k h
theorem pY:∀l:List Int,l.length%3=0→rB (nF l)=l
 | [],_=>rfl
 | [_],h=>by simp at h
 | [_,_],h=>by simp at h
 |a::b::c::r,h=>by
  have h':r.length%3=0:=by simp only[hC]at h;omega
  simp only[nF,rB];rw[pY r h']
theorem u5:∀l:List R3,nF (rB l)=l
 | []=>rfl
 |x::r=>by simp only[nF,rB,u5 r]
theorem wE:∀l:List R3,(rB l).length=l.length*3
 | []=>rfl
 |x::r=>by simp only[rB,hC,wE r];omega
theorem eW (l:List R3):(iP l).length=l.length:=(yU l).length_eq
theorem kN:∀l:List Int,(nF l).length=l.length/3
 | []=>rfl
 | [_]=>by simp[nF]
 | [_,_]=>by simp[nF]
 |a::b::c::r=>by simp only[nF,hC,kN r];omega
theorem dT {l:List Int}(h:l.length%3=0):(cW l).length=l.length:=by
 unfold cW;rw[wE,eW,kN];omega
theorem mJ:∀a b:List R3,rB (a++b)=rB a++rB b
 | [],_=>rfl
 |x::r,b=>by simp only[List.cons_append,rB,mJ r b]
def bM (x:R3):List Value:=[.int .i64 x.1,.int .i64 x.2.1,.int .i64 x.2.2]
theorem dM:∀(d:List R3) (t:Nat),t<d.length*3→(rB d)[t]?=match t%3 with|0=>d[t/3]?.map (·.1)|1=>d[t/3]?.map (·.2.1)|_=>d[t/3]?.map (·.2.2)
 | [],t,h=>by simp at h
 |x::r,0,_=>rfl
 |x::r,1,_=>rfl
 |x::r,2,_=>rfl
 |x::r,t+3,h=>by
  have h3:(t+3)%3=t%3:=by omega
  have h4:(t+3)/3=t/3+1:=by omega
  have ih:=dM r t (by simp at h;omega);simp only[rB,hD];rw[ih,h3,h4];simp only[hD]
theorem Da (d:List R3)(t:Nat)(h:t<d.length*3):(flatK bM 3 d.toArray)[t]! = .int .i64 ((rB d).getD t 0):=by
 rw[get_flatK _ _ _ _ (by simpa using h),List.getD_eq_getElem?_getD,dM d t h];have hlt:t/3<d.length:=by omega
 have hm:t%3=0∨t%3=1∨t%3=2:=by omega
 simp only[List.getElem?_eq_getElem hlt,Option.map_some];have hd:d.toArray[t/3]! =d[t/3]:=by rw[getElem!_pos d.toArray (t/3) (by simpa using hlt)];simp
 rw[hd];rcases hm with h0|h0|h0<;>rw[h0]<;>simp[bM]
section
variable {P:Program}{F:Nat→Prop}{ρ:xC}{h:Nat→qA}{w:World}
theorem kA.grow (hh:kA F ρ h w)(os:Array Obj):kA F ρ h (Go.Sort.grow w os)∧qG (fA ρ h) w (fA ρ h) (Go.Sort.grow w os):=by
 have hext:qG (fA ρ h) w (fA ρ h) (Go.Sort.grow w os):=by refine⟨by simp[Go.Sort.grow],fun b hb _=>?_,fun b hb=>.inl hb,⟨rfl,rfl,rfl,Nat.le_refl _⟩⟩;simp only[Go.Sort.grow];rw[hA hb]
 refine⟨⟨hh.wf,fun id hl=>?_,hh.inj,hh.low' hext,hh.out⟩,hext⟩;obtain⟨p,hp,hb⟩:=hh.rel id hl;refine⟨p,hp,jB.mono (vL.refl _) hext hb ?_⟩;intro b hb';obtain⟨pb,pn,pC⟩:=p;dsimp only at hb';subst hb';have hlt:=fA.lt hh ⟨id,pn,pC,hp,hl⟩;simp only[Go.Sort.grow];rw[hA hlt]
theorem rl {g:Nat}(hs:∀x y:R3,lA P g [.agg [.c (.int .i64 x.1),.c (.int .i64 x.2.1),.c (.int .i64 x.2.2)],.agg [.c (.int .i64 y.1),.c (.int .i64 y.2.1),.c (.int .i64 y.2.2)]] [] (.c (.int .i64 (wT x y))) [])(blk off size:Nat)(w:World):
  CmpLays P g #[] bM 3 wT blk off size w:=by
 intro m os dk hsz x y;generalize sortWorldK bM 3 w blk off m dk os=W;have h0:kA (fun _=>False) (fun _=>none) (rA []) W:=⟨fun _ _ hx=>(by cases hx),fun id hl=>(by simp[rA,qA.live]at hl),fun i j b n C n' C' hi=>(by simp[rA,qA.live]at hi),fun _ hb=>hb.elim,fun _ _ hb=>hb.elim⟩
 have hc:=(hs x y).calls (fun _=>False) (fun _=>none) W [.agg (bM x).toArray,.agg (bM y).toArray] h0 (fun _ _ _=>rfl) ⟨0,fun _ _=>rfl⟩ (Nat.zero_le _) (by simp only[mA,and_true];refine⟨?_,?_⟩<;>(simp only[oA];refine⟨_,rfl,?_⟩;simp[bM,mA,oA]));refine Calls.mono (by simpa using hc) ?_;rintro e w' ⟨v',rfl,ρ',_,_,_,_,_,_,_,_,hH,hv,hext⟩;have:=hv.c;subst this;refine⟨rfl,w'.drawn-W.drawn,w'.heap.extract W.heap.size w'.heap.size,?_⟩;have hk:=hext.keeps;have hheap:w'.heap=W.heap++w'.heap.extract W.heap.size w'.heap.size:=by
  apply Array.ext_getElem?;intro i;by_cases hi:i<W.heap.size
  ·rw[hA hi];exact hext.same i hi (fun⟨id,n,C,h1,_⟩=>by cases h1)
  ·rw[Array.getElem?_append_right (by omega)];have hsz:=hext.size;simp only[Array.getElem?_extract];by_cases h2:i<w'.heap.size
   ·rw[if_pos (by omega)];congr 1;omega
   ·rw[if_neg (by omega),Array.getElem?_eq_none (by omega)]
 have hd:=hk.drawn;obtain⟨hp',t',d',o',u'⟩:=w';obtain⟨hp,t,d0,o,u⟩:=W;obtain⟨k1,k2,k3,k4⟩:=hk;simp only at k1 k2 k3 k4 hheap hd⊢;subst k1 k2 k3;simp only[Go.Sort.grow,World.drewN,World.mk.injEq,true_and,and_true];exact⟨hheap,by omega⟩
theorem jr (d:List R3)(c:Array Value)(i:Nat):(putCells id 0 (flatK bM 3 d.toArray) c)[i]?=if i<d.length*3 then c[i]?.map (fun _=>.int .i64 ((rB d).getD i 0))else c[i]?:=by
 simp only[putCells,Array.getElem?_mapIdx,size_flatK,List.size_toArray,Nat.zero_le,true_and,Nat.zero_add,Nat.sub_zero,id_eq];by_cases hi:i<d.length*3
 ·simp only[hi,if_true];rw[Da d i hi]
 ·simp only[hi,if_false];cases c[i]?<;>rfl
theorem Bg {R:Ren}(L:SlLaysF0.n6 P R)(aE:∀w,(isAgg (R.t 24)).run P w= .ok true w)(zE:∀w,(Go.sizeOf (R.t 24)).run P w= .ok 3 w)(hcall:aO P (R.f 6)){g:Nat}(eg:∀args w,(callFunc g args).run P w= .ok (.enter g args) w)
  (hs:∀x y:R3,lA P g [.agg [.c (.int .i64 x.1),.c (.int .i64 x.2.1),.c (.int .i64 x.2.2)],.agg [.c (.int .i64 y.1),.c (.int .i64 y.2.1),.c (.int .i64 y.2.2)]] [] (.c (.int .i64 (wT x y))) [])(l:List Int)(hsz:l.length<4611686018427387904):
  lA P (R.f 6) [.sw 0 3,.fn g [] []] [.ints .i64 l] (.c (.tuple #[])) [.ints .i64 (cW l)]:=by
 refine⟨hcall,?_⟩;intro F ρ w args' hH hn hbd hbl hr;have hflat:∀l':List Int,T4 (rA [qA.ints .i64 l']) (rA [qA.ints .i64 l']):=fun l'=>⟨_,fC.flat (fun j=>by cases j<;>rfl) (fun j hj=>by
  have:1≤j:=by unfold top at hj;omega
  obtain⟨k,rfl⟩:∃k,j=k+1:=⟨j-1,by omega⟩
  rfl)⟩
 have hgh:∀(l':List Int) g,top≤g→(rA [qA.ints .i64 l'] g).live→ρ g=none:=fun l' g hg hl=>by
  have:1≤g:=by unfold top at hg;omega
  obtain⟨k,rfl⟩:∃k,g=k+1:=⟨g-1,by omega⟩
  exact hl.elim
 obtain⟨v0,v1,rfl⟩:∃a b,args'=[a,b]:=by
  have:=hr.length;simp at this
  match args',this with
  | [a,b],_=>exact⟨a,b,rfl⟩
 simp only[mA,and_true]at hr;obtain⟨hr0,hr1⟩:=hr;have hf:v1= .func (.func g) #[] #[]:=by simp only[oA]at hr1;obtain⟨va,vc,rfl,ha,hc⟩:=hr1;have ha:=ha.length;have hc:=hc.length;simp at ha hc;rw[show va= #[]from iA (by simpa using ha.symm),show vc= #[]from iA (by simpa using hc.symm)]
 subst hf;have hl0:(rA [qA.ints .i64 l] 0).live:=trivial;have hb0:rA [qA.ints .i64 l] 0= .ints .i64 l:=rfl;have hset:∀x,nB (rA [qA.ints .i64 l]) 0 x=rA [x]:=by intro x;funext j;cases j<;>simp[nB,rA]
 obtain⟨_,⟨b,n,C,cap,c,h1,h2,h3,h4,h5,ho,hszc,hold⟩|⟨h1,h2,hk⟩⟩:=fG hH hr0 hl0 trivial
 ·subst h5;rw[hb0]at hold;obtain⟨k1,k2,k3⟩:=hold;have hmod:l.length%3=0:=by rw[k1];exact h2
  obtain⟨e,fr,g1,g2,g3⟩:=ho;have hblt:b<w.heap.size:=(Array.getElem?_eq_some_iff.mp g1).1;have hfl:=pY l hmod;have hdl:(nF l).length*3=n:=by rw[kN,←k1];omega
  have hH3:HoldsK bM 3 w b 0 (nF l).toArray:=by
   intro j hj;rw[size_flatK]at hj;have hj':j<(nF l).length*3:=by simpa using hj
   have hjl:j<l.length:=by omega
   rw[Da _ _ hj',hfl];have hc:=k3 j hjl;refine⟨by simp[World.cell?,g1,hc],?_⟩;simp only[World.frozen?,g1,Nat.zero_add];have:=g3 j (by omega);simp only[Bool.and_eq_false_iff,decide_eq_false_iff_not];omega
  have hsize:(nF l).toArray.size=n/3:=by simp;omega
  have hcon:=AnyQ.slices_SortFunc_total L 3 aE zE bM (fun _=>rfl) (fun x v hv=>by simp[bM]at hv;rcases hv with rfl|rfl|rfl<;>rfl) wT Uk g #[] b 0 cap (nF l).toArray w eg (rl hs b 0 _ w) hH3 hblt (by simp only[hsize];omega) Ul;rw[hsize]at hcon;refine Calls.mono hcon ?_;rintro e' w' ⟨rfl,m,os,rfl⟩;rw[List.toList_toArray,Bh];refine⟨_,rfl,ρ,rA [qA.ints .i64 (cW l)],fun _ _=>rfl,fun _ _ _ h=>h,hn,hbd,hbl,hgh _,hflat _,?_⟩;have hlen3:(iP (nF l)).length*3=n:=by rw[eW,hdl]
  have hheap:(putRowK bM 3 (Sort.ahead w m) b 0 (iP (nF l)).toArray).heap=w.heap.modify b (onCells (putCells id 0 (flatK bM 3 (iP (nF l)).toArray))):=rfl;have hown:lb (putRowK bM 3 (Sort.ahead w m) b 0 (iP (nF l)).toArray) b (putCells id 0 (flatK bM 3 (iP (nF l)).toArray) c).size (putCells id 0 (flatK bM 3 (iP (nF l)).toArray) c):=by refine⟨e,fr,?_,rfl,fun i hi=>g3 i (by simp[putCells]at hi;omega)⟩;rw[hheap,hE,if_pos rfl,g1];rfl
  have hcs:(putCells id 0 (flatK bM 3 (iP (nF l)).toArray) c).size=c.size:=by simp[putCells]
  have hp:ρ 0=some ⟨some b,n,(putCells id 0 (flatK bM 3 (iP (nF l)).toArray) c).size⟩:=by rw[hcs,hszc];exact h1
  have hholds:uC ρ (av F (fA ρ (rA [qA.ints .i64 l]))) w n (putCells id 0 (flatK bM 3 (iP (nF l)).toArray) c) (.ints .i64 (cW l)):=by
   refine⟨by rw[dT hmod,k1],by rw[hcs];exact k2,fun i hi=>?_⟩;rw[dT hmod]at hi;rw[jr,if_pos (by omega)];have:i<c.size:=by omega
   rw[Array.getElem?_eq_getElem this,Option.map_some];rfl
  obtain⟨q1,q2⟩:=kA.write (w':=putRowK bM 3 (Sort.ahead w m) b 0 (iP (nF l)).toArray) hH hl0 hp ⟨by rw[hheap];simp,⟨rfl,rfl,rfl,Nat.le_add_right _ _⟩⟩ (fun b' hb'=>by rw[hheap,hE,if_neg (Ne.symm hb')]) hown hholds;rw[hset]at q1 q2;obtain⟨q3,q4⟩:=q1.grow os;exact⟨q3,oA.of_c _,q2.trans q4⟩
 ·subst h2;rw[hb0]at hk;have hl:l=[]:=by rcases hk with⟨k2,hk2⟩|hk2|⟨_,_,hk2⟩<;>cases hk2;rfl
  subst hl;have hcon:=AnyF.slices_SortFunc_none L none 0 (.func (.func g) #[] #[]) w;refine Calls.mono hcon ?_;rintro e' w' ⟨rfl,rfl⟩;exact⟨_,rfl,ρ,rA [qA.ints .i64 (cW [])],fun _ _=>rfl,fun _ _ _ h=>h,hn,hbd,hbl,hgh _,hflat _,hH,oA.of_c _,qG.refl _ _⟩
end
end Go.Proofs.YteaakcmkpacpaaaGreat.Ev
namespace Go.Proofs.YteaakcmkpacpaaaGreat
open Go.Proofs.YteaakcmkpacpaaaGreat.Ev Go.Shelf
open Go
set_option maxRecDepth 100000
def Be:Go.Shelf.Ren:=⟨fun|6=>30|15=>43|14=>42|28=>60|29=>61|20=>52|21=>53|22=>54|23=>55|24=>56|25=>57|26=>58|27=>59|46=>72|47=>73|48=>74|49=>75|50=>76|57=>87|n=>n,fun|22=>28|24=>36|25=>76|3=>3|39=>58|0=>0|53=>115|55=>54|4=>4|46=>109|45=>108|50=>51|5=>5|9=>9|66=>127|70=>131|76=>143|77=>144|n=>n,fun|n=>n⟩
theorem Tj:Go.Proofs.SlLaysF0.n6 Tryz.prog Be:={
 mixed:=by kernel_rfl
 f6:=⟨Tryz.f30.name,by decide,Tryz.func30.trans (congrArg some (by kernel_rfl))⟩
 f14:=⟨Tryz.f42.name,by decide,Tryz.func42.trans (congrArg some (by kernel_rfl))⟩
 f15:=Tryz.func43.trans (congrArg some (by kernel_rfl))
 f20:=⟨Tryz.f52.name,by decide,Tryz.func52.trans (congrArg some (by kernel_rfl))⟩
 f21:=⟨Tryz.f53.name,by decide,Tryz.func53.trans (congrArg some (by kernel_rfl))⟩
 f22:=⟨Tryz.f54.name,by decide,Tryz.func54.trans (congrArg some (by kernel_rfl))⟩
 f23:=⟨Tryz.f55.name,by decide,Tryz.func55.trans (congrArg some (by kernel_rfl))⟩
 f24:=⟨Tryz.f56.name,by decide,Tryz.func56.trans (congrArg some (by kernel_rfl))⟩
 f25:=⟨Tryz.f57.name,by decide,Tryz.func57.trans (congrArg some (by kernel_rfl))⟩
 f26:=⟨Tryz.f58.name,by decide,Tryz.func58.trans (congrArg some (by kernel_rfl))⟩
 f27:=⟨Tryz.f59.name,by decide,Tryz.func59.trans (congrArg some (by kernel_rfl))⟩
 f28:=Tryz.func60.trans (congrArg some (by kernel_rfl))
 f29:=Tryz.func61.trans (congrArg some (by kernel_rfl))
 f46:=⟨Tryz.f72.name,by decide,Tryz.func72.trans (congrArg some (by kernel_rfl))⟩
 f47:=Tryz.func73.trans (congrArg some (by kernel_rfl))
 f48:=Tryz.func74.trans (congrArg some (by kernel_rfl))
 f49:=⟨Tryz.f75.name,by decide,Tryz.func75.trans (congrArg some (by kernel_rfl))⟩
 f50:=⟨Tryz.f76.name,by decide,Tryz.func76.trans (congrArg some (by kernel_rfl))⟩
 f57:=⟨Tryz.f87.name,by decide,Tryz.func87.trans (congrArg some (by kernel_rfl))⟩
 t0:=Tryz.underlying0
 a0:=Tryz.isAgg0
 z0:=Tryz.sizeOf0
 v0:=Tryz.zeroValue0
 t3:=Tryz.underlying3
 a3:=Tryz.isAgg3
 z3:=Tryz.sizeOf3
 v3:=Tryz.zeroValue3
 t4:=Tryz.underlying4
 a4:=Tryz.isAgg4
 z4:=Tryz.sizeOf4
 v4:=Tryz.zeroValue4
 t5:=Tryz.underlying5
 a5:=Tryz.isAgg5
 z5:=Tryz.sizeOf5
 v5:=Tryz.zeroValue5
 t9:=Tryz.underlying9
 a9:=Tryz.isAgg9
 z9:=Tryz.sizeOf9
 v9:=Tryz.zeroValue9
 t22:=Tryz.underlying28
 a22:=Tryz.isAgg28
 z22:=Tryz.sizeOf28
 v22:=Tryz.zeroValue28
 t25:=Tryz.underlying76
 a25:=Tryz.isAgg76
 z25:=Tryz.sizeOf76
 v25:=Tryz.zeroValue76
 t39:=Tryz.underlying58
 a39:=Tryz.isAgg58
 z39:=Tryz.sizeOf58
 v39:=Tryz.zeroValue58
 t45:=Tryz.underlying108
 a45:=Tryz.isAgg108
 z45:=Tryz.sizeOf108
 v45:=Tryz.zeroValue108
 t46:=Tryz.underlying109
 a46:=Tryz.isAgg109
 z46:=Tryz.sizeOf109
 v46:=Tryz.zeroValue109
 t50:=Tryz.underlying51
 a50:=Tryz.isAgg51
 z50:=Tryz.sizeOf51
 v50:=Tryz.zeroValue51
 t53:=Tryz.underlying115
 a53:=Tryz.isAgg115
 z53:=Tryz.sizeOf115
 v53:=Tryz.zeroValue115
 t55:=Tryz.underlying54
 a55:=Tryz.isAgg54
 z55:=Tryz.sizeOf54
 v55:=Tryz.zeroValue54
 t66:=Tryz.underlying127
 a66:=Tryz.isAgg127
 z66:=Tryz.sizeOf127
 v66:=Tryz.zeroValue127
 t70:=Tryz.underlying131
 a70:=Tryz.isAgg131
 z70:=Tryz.sizeOf131
 v70:=Tryz.zeroValue131
 t76:=Tryz.underlying143
 a76:=Tryz.isAgg143
 z76:=Tryz.sizeOf143
 v76:=Tryz.zeroValue143
 t77:=Tryz.underlying144
 a77:=Tryz.isAgg144
 z77:=Tryz.sizeOf144
 v77:=Tryz.zeroValue144}
theorem Ny (a b c:Int):Q57.f 10 [a,b,c]=some (if a≠0 then a else if b≠0 then b else c):=by
 unfold Q57.f;have w1:aA (0+1)=1:=by decide
 have w2:aA (1+1)=2:=by decide
 have w3:aA (2+1)=3:=by decide
 simp only[Q57.l3,w1,w2,w3];have e:∀x:Int,¬x=0→(x != 0)=true:=fun x hx=>by simpa using hx
 by_cases h1:a=0<;>by_cases h2:b=0<;>by_cases h3:c=0<;>simp[h1,h2,h3,e]
theorem wM (N:Nat)(a b:Int):Q56.f N a b=some (if a<b then-1 else if b<a then 1 else 0):=by
 unfold Q56.f Q55.f;by_cases h1:a<b<;>by_cases h2:b<a<;>simp[h1,h2]
theorem Cr (x y:R3):Q58.f 10 x.1 x.2.1 x.2.2 y.1 y.2.1 y.2.2=some (wT x y):=by
 unfold Q58.f wT;rw[wM,wM,wM];simp only[Option.bind_some,Ny];congr 1
 repeat' split
 all_goals omega
noncomputable def Q61.f (N:Nat)(l:List Int):Option (List Int):=bif Nat.blt l.length 4611686018427387904 then some (cW l)else none
noncomputable def Q61.ent (N:Nat):yA:={A:=List Int,fresh:=0,imm:=[false,false],dec:=fun args bs=>match args,bs with
 | [.sw 0 3,.fn g [] []],[.ints .i64 l]=>bif Nat.beq g 31 then some (Q61.f N l,fun r=>.one (.c (.tuple #[])) [.ints .i64 r])else none
 |_,_=>none}
theorem Q61.ent_ok (N:Nat):uA Tryz.prog 30 (Q61.ent N):=by
 intro args bs a enc h;simp only[Q61.ent]at h;split at h
 ·rename_i g l;obtain⟨hg,h⟩:=cA h;have hg:=aB hg;subst hg;have h0:=Option.some.inj h;have h1:=congrArg Prod.fst h0;have h2:=congrArg Prod.snd h0;dsimp only at h1 h2;subst h2;unfold Q61.f at h1;obtain⟨hl,h1⟩:=cA h1;obtain rfl:=Option.some.inj h1;exact Bg Tj Tryz.isAgg36 Tryz.sizeOf36 ⟨_,Tryz.func30,by kernel_rfl,by kernel_rfl⟩ (enters_of Tryz.func31 (by kernel_rfl) rfl) (fun x y=>Q58.spec 10 _ _ _ _ _ _ _ (Cr x y)) l (aC hl)
 ·cases h
open Go.Proofs.YteaakcmkpacpaaaGreat.Ev
noncomputable def qh:TI:=⟨.slice 36,1,24,[.slice none 0 0]⟩
noncomputable def Po:TI:=⟨.slice 65,1,24,[.slice none 0 0]⟩
noncomputable def So:TI:=⟨.struct [(2,0),(3,1)],2,16,[.int .i64 0,.int .i64 0]⟩
theorem oN:kC Tryz.prog 28 qh:=nC (by kernel_rfl) (by kernel_rfl) (by kernel_rfl) (by kernel_rfl) (by kernel_rfl) (by kernel_rfl) (by kernel_rfl) (Tryz.underlying28) (by kernel_rfl)
theorem kn:kC Tryz.prog 61 Po:=nC (by kernel_rfl) (by kernel_rfl) (by kernel_rfl) (by kernel_rfl) (by kernel_rfl) (by kernel_rfl) (by kernel_rfl) (Tryz.underlying61) (by kernel_rfl)
theorem zf:kC Tryz.prog 65 So:=nC (by kernel_rfl) (by kernel_rfl) (by kernel_rfl) (by kernel_rfl) (by kernel_rfl) (by kernel_rfl) (by kernel_rfl) (nI Tryz.underlying65 (by kernel_rfl) (by kernel_rfl)) (by kernel_rfl)
noncomputable def Q62.l3 {R:Type}(N:Nat):Nat→List Int→List (List Int)→List Int→Nat→List Nat→Nat→(List Int→Option R)→Option R
 |0,_,_,_,_,_,_,_=>none
 |n+1,d,c,g,e,b,h,f=>
  bif Nat.beq c.length e then
   bif b.isEmpty then
    f d
   else
   bp b.length fun a=>
   bif Nat.beq c.length e&&Nat.blt (b.getD a 0) c.length then
    bif (g.getD (b.getD a 0) 0)==1 then
     bif cB ((d.length+3)/3) 24 then
      Q62.l3 N n (d++[(c.getD (b.getD a 0) []).getD 0 0,(c.getD (b.getD a 0) []).getD 1 0,(c.getD (b.getD a 0) []).getD 2 0]) c g e (b.eraseIdx a) (b.getD a 0) f
     else none
    else
    Q62.l3 N n d c g e (b.eraseIdx a) (b.getD a 0) f
   else none
  else none
noncomputable def Q62.f (N:Nat)(d:Int):Option (List Int):=
 (Q60.f N d).bind fun a=>
 Q62.l3 N N [] a.1 a.2 a.1.length (List.range a.1.length) a.1.length
  (fun c=>
   (Q61.f N c).bind fun b=>
   some b)
noncomputable def Q62.h3:cE:=⟨[(3,.row .i64 3),(8,.any)],[(3,.row .i64 3)]⟩
noncomputable def Q62.c3 (N:Nat):tK:=⟨fun vs H k=>match vs,H with
 | [.sw 0 3,.ptr 2 0 0],[.ints .i64 a,.mp .i64 3 b (.ints .i64 c),.it (some 1) d e f]=>Q62.l3 N N a b c d e f (fun g=>k (.exit 0) ⟨iE Q62.h3.out [.sw 0 3],[.ints .i64 g]⟩)
 |_,_=>none⟩
noncomputable def Q62.E (N:Nat):yC:=dF [(2,iR),(28,qh),(36,sK),(71,Ss)] [(29,Q60.ent N),(30,Q61.ent N)] [(3,Q62.h3)] [(3,Q62.c3 N)] N [.tmp 2] [.row .i64 3] 0 23 true
noncomputable def Q62.b3:Code:=bB ((jA (bo Tryz.f17)).getD 0 .skip)
theorem Q62.l3_eq {R:Type}(N n:Nat)(a:List Int)(b:List (List Int))(c:List Int)(d:Nat)(e:List Nat)(f:Nat)(k:Ex→St→Option R):
  vB 0 Q62.h3 (fun s k=>kB (Q62.E N) 394 Q62.b3 s k) n [.sw 0 3,.ptr 2 0 0] [.ints .i64 a,.mp .i64 3 b (.ints .i64 c),.it (some 1) d e f] k=Q62.l3 N n a b c d e f (fun g=>k (.exit 0) ⟨iE Q62.h3.out [.sw 0 3],[.ints .i64 g]⟩):=by
 induction n generalizing a b c d e f with
 |zero=>kernel_rfl
 |succ n ih=>
  simp only[Q62.l3,←ih]
  kernel_rfl
noncomputable def Q62.dec (v:V)(bs:List qA):Option (List Int):=match v,bs with
 | .sw 0 3,[.ints .i64 a]=>some a
 |_,_=>none
theorem Q62.f_eq (N:Nat)(a:Int):
  eB (Q62.E N) (bo Tryz.f17) [.c (.int .i64 a)] [] Q62.dec=Q62.f N a:=by kernel_rfl
noncomputable def Q62.ent (N:Nat):yA:=pF (List Int) 1 [true] [.any] fun
 | [.c (.int .i64 a)]=>some (Q62.f N a,fun r=>.one (.sw 0 3) [.ints .i64 r])
 |_=>none
theorem Q62.env (N:Nat):dB Tryz.prog (Q62.E N):=⟨(.cons aD (.cons oN (.cons tD (.cons zj .nil)))),(.cons (Q60.ent_ok N) (.cons (Q61.ent_ok N) .nil))⟩
theorem Q62.k3 (N:Nat):qC Tryz.prog Tryz.f17 (Q62.E N) (.loop Q62.b3):=vD (Q62.env N) dA 394 (c:=Q62.c3 N) eA.n fun R vs H k r h=>by unfold Q62.c3 at h;dsimp only at h;split at h;exact⟨_,Q62.l3_eq .. ▸h⟩;cases h
theorem Q62.spec (N:Nat)(a:Int)(r:List Int)(h:Q62.f N a=some r):lA Tryz.prog 17 [.c (.int .i64 a)] [] (.sw 0 3) ([.ints .i64 r]):=vA (Q62.env N) dA Tryz.func17 (eA.of (l:=[(.loop (bB ((jA (bo Tryz.f17)).getD 0 .skip)))]) (by kernel_rfl) (eA.cons (Q62.k3 N) eA.nil)) ((Q62.f_eq ..).trans h) fun v b e=>by unfold Q62.dec at e;split at e<;>cases e;exact⟨rfl,rfl⟩
theorem Q62.ent_ok (N:Nat):uA Tryz.prog 17 (Q62.ent N):=zA fun v a e h=>by split at h;exact lC (Q:=fun e=>lA _ _ _ _ (e a).pick.1 (e a).pick.2) h fun k=>Q62.spec N _ a k;cases h
noncomputable def Q63.f (N:Nat)(a:Int):Option (List Int×Int):=
 (Q59.f N a).bind fun b=>
 bif b != 0 then
  some ([],b)
 else
 (Q62.f N a).bind fun c=>
 some (c,0)
noncomputable def Q63.E (N:Nat):yC:=dF [] [(6,Q59.ent N),(17,Q62.ent N)] [] [] N [.tmp 2,.tmp 3] [.row .i64 3,.any] 0 12 true
noncomputable def Q63.dec (v:V)(bs:List qA):Option (List Int×Int):=match v,bs with
 | .tup [.sw 0 3,.c (.int .i64 b)],[.ints .i64 a]=>some (a,b)
 |_,_=>none
theorem Q63.f_eq (N:Nat)(a:Int):
  eB (Q63.E N) (bo Tryz.f7) [.c (.int .i64 a)] [] Q63.dec=Q63.f N a:=by kernel_rfl
noncomputable def Q63.ent (N:Nat):yA:=pF (List Int×Int) 1 [true] [.any] fun
 | [.c (.int .i64 a)]=>some (Q63.f N a,fun r=>.one (.tup [.sw 0 3,.c (.int .i64 r.2)]) [.ints .i64 r.1])
 |_=>none
theorem Q63.env (N:Nat):dB Tryz.prog (Q63.E N):=⟨.nil,(.cons (Q59.ent_ok N) (.cons (Q62.ent_ok N) .nil))⟩
theorem Q63.spec (N:Nat)(a:Int)(r:List Int×Int)(h:Q63.f N a=some r):lA Tryz.prog 7 [.c (.int .i64 a)] [] (.tup [.sw 0 3,.c (.int .i64 r.2)]) ([.ints .i64 r.1]):=vA (Q63.env N) dA Tryz.func7 eA.n ((Q63.f_eq ..).trans h) fun v b e=>by unfold Q63.dec at e;split at e<;>cases e;exact⟨rfl,rfl⟩
theorem Q63.ent_ok (N:Nat):uA Tryz.prog 7 (Q63.ent N):=zA fun v a e h=>by split at h;exact lC (Q:=fun e=>lA _ _ _ _ (e a).pick.1 (e a).pick.2) h fun k=>Q63.spec N _ a k;cases h
noncomputable def Q64.l1 {R:Type}(N:Nat):Nat→Int→Int→Int→List Int→(Int→Int→Int→List Int→Option R)→Option R
 |0,_,_,_,_,_=>none
 |n+1,a,d,b,e,c=>
  bif !(a==0)then
   bif (Int.tmod b a)==0 then
    bif !(a==0)then
     Q64.l1 N n a (aA (d+1)) (aA (Int.tdiv b a)) e c
    else none
   else
   c a d b e
  else none
noncomputable def Q64.f (N:Nat)(e f:Int)(g:List Int):Option (Bool×Int×List Int):=
 Q64.l1 N N e 0 f g
  (fun d b c a=>
   bif decide (b>0)then
    bif cB ((a.length+2)/2) 16 then
     some (true,c,a++[d,b])
    else none
   else
   some (false,c,a))
noncomputable def Q64.h1:cE:=⟨[(0,.any),(1,.any),(2,.any),(4,.any)],[(0,.any),(2,.any),(4,.any)]⟩
noncomputable def Q64.c1 (N:Nat):tK:=⟨fun vs H k=>match vs,H with
 | [.c (.int .i64 c),.ptr 0 0 1,.ptr 1 0 1,.c (.int .i64 d)],[.vals [.c (.int .i64 e)],.vals [.sw 2 2],.ints .i64 f]=>Q64.l1 N N c d e f (fun g h a b=>k (.exit 0) ⟨iE Q64.h1.out [.c (.int .i64 g),.ptr 1 0 1,.c (.int .i64 h)],[.vals [.c (.int .i64 a)],.vals [.sw 2 2],.ints .i64 b]⟩)
 |_,_=>none⟩
noncomputable def Q64.E (N:Nat):yC:=dF [(2,iR),(3,Bo),(61,Po),(65,So)] [] [(1,Q64.h1)] [(1,Q64.c1 N)] N [] [] 3 22 true [(1,[.row .i64 2])]
noncomputable def Q64.b1:Code:=bB ((jA (bo Tryz.f38)).getD 0 .skip)
theorem Q64.l1_eq {R:Type}(N n:Nat)(c d e:Int)(f:List Int)(k:Ex→St→Option R):
  vB 3 Q64.h1 (fun s k=>kB (Q64.E N) 396 Q64.b1 s k) n [.c (.int .i64 c),.ptr 0 0 1,.ptr 1 0 1,.c (.int .i64 d)] [.vals [.c (.int .i64 e)],.vals [.sw 2 2],.ints .i64 f] k=Q64.l1 N n c d e f (fun g h a b=>k (.exit 0) ⟨iE Q64.h1.out [.c (.int .i64 g),.ptr 1 0 1,.c (.int .i64 h)],[.vals [.c (.int .i64 a)],.vals [.sw 2 2],.ints .i64 b]⟩):=by
 induction n generalizing c d e f with
 |zero=>kernel_rfl
 |succ n ih=>
  simp only[Q64.l1,←ih]
  kernel_rfl
noncomputable def Q64.dec (v:V)(bs:List qA):Option (Bool×Int×List Int):=match v,bs with
 | .tup [],[.vals [.c (.int .i64 a)],.vals [.sw 3 2],.dead,.ints .i64 b]=>some (true,a,b)
 | .tup [],[.vals [.c (.int .i64 a)],.vals [.sw 2 2],.ints .i64 b]=>some (false,a,b)
 |_,_=>none
theorem Q64.f_eq (N:Nat)(a b:Int)(c:List Int):
  eB (Q64.E N) (bo Tryz.f38) [.c (.int .i64 a),.ptr 0 0 1,.ptr 1 0 1] [.vals [.c (.int .i64 b)],.vals [.sw 2 2],.ints .i64 c] Q64.dec=Q64.f N a b c:=by kernel_rfl
noncomputable def Q64.ent (N:Nat):yA:={A:=Bool×Int×List Int,fresh:=1,imm:=[true,false,false],dec:=fun args bs=>match yJ (rA bs) [false,false,false] args,bs with
 | [.c (.int .i64 a),.ptr 0 0 1,.ptr 1 0 1],[.vals [.c (.int .i64 b)],.vals [.sw 2 2],.ints .i64 c]=>some (Q64.f N a b c,fun r=>.two r.1 (.tup []) [.vals [.c (.int .i64 r.2.1)],.vals [.sw 3 2],.dead,.ints .i64 r.2.2] (.tup []) [.vals [.c (.int .i64 r.2.1)],.vals [.sw 2 2],.ints .i64 r.2.2])
 |_,_=>none}
theorem Q64.env (N:Nat):dB Tryz.prog (Q64.E N):=⟨(.cons aD (.cons jJ (.cons kn (.cons zf .nil)))),.nil⟩
theorem Q64.res_eq (N:Nat):(Q64.E N).res=Tryz.f38.results.toList:=by kernel_rfl
theorem Q64.k1 (N:Nat):qC Tryz.prog Tryz.f38 (Q64.E N) (.loop Q64.b1):=vD (Q64.env N) dA 396 (c:=Q64.c1 N) eA.n fun R vs H k r h=>by unfold Q64.c1 at h;dsimp only at h;split at h;exact⟨_,Q64.l1_eq .. ▸h⟩;cases h
theorem Q64.spec (N:Nat)(a b:Int)(c:List Int)(r:Bool×Int×List Int)(h:Q64.f N a b c=some r):lA Tryz.prog 38 [.c (.int .i64 a),.ptr 0 0 1,.ptr 1 0 1] [.vals [.c (.int .i64 b)],.vals [.sw 2 2],.ints .i64 c] ((vu.two r.1 (.tup []) [.vals [.c (.int .i64 r.2.1)],.vals [.sw 3 2],.dead,.ints .i64 r.2.2] (.tup []) [.vals [.c (.int .i64 r.2.1)],.vals [.sw 2 2],.ints .i64 r.2.2]).pick.1) ((vu.two r.1 (.tup []) [.vals [.c (.int .i64 r.2.1)],.vals [.sw 3 2],.dead,.ints .i64 r.2.2] (.tup []) [.vals [.c (.int .i64 r.2.1)],.vals [.sw 2 2],.ints .i64 r.2.2]).pick.2):=by
 rw[←Q64.f_eq]at h;refine(mw (Q64.env N) dA Tryz.func38 (by kernel_rfl:Tryz.f38.body=some (bo Tryz.f38)) (by kernel_rfl) (Q64.res_eq N) (by kernel_rfl) (by kernel_rfl) (Nat.le_of_ble_eq_true (by kernel_rfl)) (eA.of (l:=[(.loop (bB ((jA (bo Tryz.f38)).getD 0 .skip)))]) (by kernel_rfl) (eA.cons (Q64.k1 N) eA.nil)) h).of fun v bs' h1=>?_;unfold Q64.dec at h1;split at h1
 ·cases h1;exact⟨rfl,rfl⟩
 ·cases h1;exact⟨rfl,rfl⟩
 ·cases h1
theorem Q64.ent_ok (N:Nat):uA Tryz.prog 38 (Q64.ent N):=by
 intro args bs a enc h;simp only[Q64.ent]at h;split at h
 ·rename_i hz;have h0:=Option.some.inj h;have h1:=congrArg Prod.fst h0;have h2:=congrArg Prod.snd h0;dsimp only at h1 h2;subst h2;exact lA.of_asSl (fl:=[false,false,false]) (by rw[hz];exact Q64.spec N _ _ _ a h1)
 ·cases h
noncomputable def Q65.l8 {R:Type}(N:Nat):Nat→Int→Int→List Int→(Int→List Int→Option R)→Option R
 |0,_,_,_,_=>none
 |n+1,a,d,e,c=>
  bif decide ((aA (a*a))≤d)then
   (Q64.f N a d e).bind fun b=>
   bif b.1 then
    Q65.l8 N n (aA (a+(aA (1+(mB .i64 a 1))))) b.2.1 b.2.2 c
   else
   Q65.l8 N n (aA (a+(aA (1+(mB .i64 a 1))))) b.2.1 b.2.2 c
  else
  c d e
noncomputable def Q65.f (N:Nat)(b:Int):Option (List Int×Int):=
 bif decide (b<1)then
  some ([],2)
 else
 bif decide (b>1099511627776)then
  some ([],3)
 else
 Q65.l8 N N 2 b []
  (fun c d=>
   bif decide (c>1)then
    (Q64.f N c c d).bind fun a=>
    bif a.1 then
     some (a.2.2,0)
    else
    some (a.2.2,0)
   else
   some (d,0))
noncomputable def Q65.h8:cE:=⟨[(1,.box [.any]),(4,.box [.row .i64 2]),(5,.fnc [.box [.any],.box [.row .i64 2]]),(6,.any)],[(1,.box [.any]),(4,.box [.row .i64 2]),(5,.fnc [.box [.any],.box [.row .i64 2]])]⟩
noncomputable def Q65.c8 (N:Nat):tK:=⟨fun vs H k=>match vs,H with
 | [.ptr 0 0 1,.ptr 1 0 1,.fn 38 [] [.ptr 0 0 1,.ptr 1 0 1],.c (.int .i64 a)],[.vals [.c (.int .i64 b)],.vals [.sw 2 2],.ints .i64 c]=>Q65.l8 N N a b c (fun d e=>k (.exit 1) ⟨iE Q65.h8.out [.ptr 0 0 1,.ptr 1 0 1,.fn 38 [] [.ptr 0 0 1,.ptr 1 0 1]],[.vals [.c (.int .i64 d)],.vals [.sw 2 2],.ints .i64 e]⟩)
 |_,_=>none⟩
noncomputable def Q65.E (N:Nat):yC:=dF [(2,iR),(61,Po)] [(38,Q64.ent N)] [(8,Q65.h8)] [(8,Q65.c8 N)] N [.tmp 2,.tmp 3] [.il .i64 2,.any] 0 33
noncomputable def Q65.b8:Code:=bB ((jA (bo Tryz.f26)).getD 0 .skip)
theorem Q65.l8_eq {R:Type}(N n:Nat)(a b:Int)(c:List Int)(k:Ex→St→Option R):
  vB 0 Q65.h8 (fun s k=>kB (Q65.E N) 392 Q65.b8 s k) n [.ptr 0 0 1,.ptr 1 0 1,.fn 38 [] [.ptr 0 0 1,.ptr 1 0 1],.c (.int .i64 a)] [.vals [.c (.int .i64 b)],.vals [.sw 2 2],.ints .i64 c] k=Q65.l8 N n a b c (fun d e=>k (.exit 1) ⟨iE Q65.h8.out [.ptr 0 0 1,.ptr 1 0 1,.fn 38 [] [.ptr 0 0 1,.ptr 1 0 1]],[.vals [.c (.int .i64 d)],.vals [.sw 2 2],.ints .i64 e]⟩):=by
 induction n generalizing a b c with
 |zero=>kernel_rfl
 |succ n ih=>
  simp only[Q65.l8,←ih]
  kernel_rfl
noncomputable def Q65.dec (v:V)(bs:List qA):Option (List Int×Int):=match v,bs with
 | .tup [.il .i64 2 a,.c (.int .i64 b)],[]=>some (a,b)
 |_,_=>none
theorem Q65.f_eq (N:Nat)(a:Int):
  eB (Q65.E N) (bo Tryz.f26) [.c (.int .i64 a)] [] Q65.dec=Q65.f N a:=by kernel_rfl
noncomputable def Q65.ent (N:Nat):yA:=pF (List Int×Int) 0 [true] [.any] fun
 | [.c (.int .i64 a)]=>some (Q65.f N a,fun r=>.one (.tup [.il .i64 2 r.1,.c (.int .i64 r.2)]) [])
 |_=>none
theorem Q65.env (N:Nat):dB Tryz.prog (Q65.E N):=⟨(.cons aD (.cons kn .nil)),(.cons (Q64.ent_ok N) .nil)⟩
theorem Q65.k8 (N:Nat):qC Tryz.prog Tryz.f26 (Q65.E N) (.loop Q65.b8):=vD (Q65.env N) dA 392 (c:=Q65.c8 N) eA.n fun R vs H k r h=>by unfold Q65.c8 at h;dsimp only at h;split at h;exact⟨_,Q65.l8_eq .. ▸h⟩;cases h
theorem Q65.spec (N:Nat)(a:Int)(r:List Int×Int)(h:Q65.f N a=some r):lA Tryz.prog 26 [.c (.int .i64 a)] [] (.tup [.il .i64 2 r.1,.c (.int .i64 r.2)]) ([]):=vA (Q65.env N) dA Tryz.func26 (eA.of (l:=[(.loop (bB ((jA (bo Tryz.f26)).getD 0 .skip)))]) (by kernel_rfl) (eA.cons (Q65.k8 N) eA.nil)) ((Q65.f_eq ..).trans h) fun v b e=>by unfold Q65.dec at e;split at e<;>cases e;exact⟨rfl,rfl⟩
theorem Q65.ent_ok (N:Nat):uA Tryz.prog 26 (Q65.ent N):=zA fun v a e h=>by split at h;exact lC (Q:=fun e=>lA _ _ _ _ (e a).pick.1 (e a).pick.2) h fun k=>Q65.spec N _ a k;cases h
noncomputable def al:TI:=⟨.slice 2,1,24,[.slice none 0 0]⟩
noncomputable def Sn:TI:=⟨.func,1,8,[.nilFunc]⟩
noncomputable def Pm:TI:=⟨.arr 8 3,8,64,[.int .i64 0,.int .i64 0,.int .i64 0,.int .i64 0,.int .i64 0,.int .i64 0,.int .i64 0,.int .i64 0]⟩
noncomputable def Sq:TI:=⟨.slice 69,1,24,[.slice none 0 0]⟩
noncomputable def Sr:TI:=⟨.struct [(41,0),(31,1)],2,32,[.nilFunc,.slice none 0 0]⟩
noncomputable def Tq:TI:=⟨.arr 3 2,3,24,[.int .i64 0,.int .i64 0,.int .i64 0]⟩
theorem pJ:kC Tryz.prog 31 al:=nC (by kernel_rfl) (by kernel_rfl) (by kernel_rfl) (by kernel_rfl) (by kernel_rfl) (by kernel_rfl) (by kernel_rfl) (Tryz.underlying31) (by kernel_rfl)
theorem yz:kC Tryz.prog 41 Sn:=nC (by kernel_rfl) (by kernel_rfl) (by kernel_rfl) (by kernel_rfl) (by kernel_rfl) (by kernel_rfl) (by kernel_rfl) (⟨_,_,_,Tryz.underlying41⟩) (by kernel_rfl)
theorem km:kC Tryz.prog 49 Pm:=nC (by kernel_rfl) (by kernel_rfl) (by kernel_rfl) (by kernel_rfl) (by kernel_rfl) (by kernel_rfl) (by kernel_rfl) (Tryz.underlying49) (by kernel_rfl)
theorem zh:kC Tryz.prog 66 Sq:=nC (by kernel_rfl) (by kernel_rfl) (by kernel_rfl) (by kernel_rfl) (by kernel_rfl) (by kernel_rfl) (by kernel_rfl) (Tryz.underlying66) (by kernel_rfl)
theorem zi:kC Tryz.prog 69 Sr:=nC (by kernel_rfl) (by kernel_rfl) (by kernel_rfl) (by kernel_rfl) (by kernel_rfl) (by kernel_rfl) (by kernel_rfl) (nI Tryz.underlying69 (by kernel_rfl) (by kernel_rfl)) (by kernel_rfl)
theorem Pq:kC Tryz.prog 87 Tq:=nC (by kernel_rfl) (by kernel_rfl) (by kernel_rfl) (by kernel_rfl) (by kernel_rfl) (by kernel_rfl) (by kernel_rfl) (Tryz.underlying87) (by kernel_rfl)
noncomputable def Q66.f (N:Nat)(a:Int):Option (Int):=
 bif (mB .u64 a 7)==1 then
  some 1
 else
 bif (mB .u64 a 7)==7 then
  some 1
 else
 bif (mB .u64 a 7)==3 then
  some (-1)
 else
 bif (mB .u64 a 7)==5 then
  some (-1)
 else
 some 0
noncomputable def Q66.E (N:Nat):yC:=dF [] [] [] [] N [.tmp 2] [.any] 0 13
noncomputable def Q66.dec (v:V)(bs:List qA):Option (Int):=match v,bs with
 | .c (.int .i64 a),[]=>some a
 |_,_=>none
theorem Q66.f_eq (N:Nat)(a:Int):
  eB (Q66.E N) (bo Tryz.f51) [.c (.int .u64 a)] [] Q66.dec=Q66.f N a:=by kernel_rfl
noncomputable def Q66.ent (N:Nat):yA:=pF (Int) 0 [true] [.any] fun
 | [.c (.int .u64 a)]=>some (Q66.f N a,fun r=>.one (.c (.int .i64 r)) [])
 |_=>none
theorem Q66.env (N:Nat):dB Tryz.prog (Q66.E N):=⟨.nil,.nil⟩
theorem Q66.spec (N:Nat)(a r:Int)(h:Q66.f N a=some r):lA Tryz.prog 51 [.c (.int .u64 a)] [] (.c (.int .i64 r)) ([]):=vA (Q66.env N) dA Tryz.func51 eA.n ((Q66.f_eq ..).trans h) fun v b e=>by unfold Q66.dec at e;split at e<;>cases e;exact⟨rfl,rfl⟩
theorem Q66.ent_ok (N:Nat):uA Tryz.prog 51 (Q66.ent N):=zA fun v a e h=>by split at h;exact lC (Q:=fun e=>lA _ _ _ _ (e a).pick.1 (e a).pick.2) h fun k=>Q66.spec N _ a k;cases h
noncomputable def Q67.l10 {R:Type}(N:Nat):Nat→Int→Int→Int→(Int→Int→Int→Option R)→Option R
 |0,_,_,_,_=>none
 |n+1,a,d,b,c=>
  bif (mB .u64 b 1)==0 then
   (Q66.f N (nA a)).bind fun e=>
   Q67.l10 N n a (aA (d*e)) (Int.fdiv b (2^1)) c
  else
  c a d b
noncomputable def Q67.l19 {R:Type}(N:Nat):Nat→Int→Int→Int→(Int→Int→Int→Option R)→Option R
 |0,_,_,_,_=>none
 |n+1,c,a,b,e=>
  bif (mB .u64 b 1)==0 then
   (Q66.f N a).bind fun d=>
   Q67.l19 N n (aA (c*d)) a (Int.fdiv b (2^1)) e
  else
  e c a b
noncomputable def Q67.l18 {R:Type}(N:Nat):Nat→Int→Int→Int→(Int→Int→Option R)→Option R
 |0,_,_,_,_=>none
 |n+1,d,e,f,g=>
  bif f != 0 then
   Q67.l19 N N d e f
    (fun c b a=>
     bif (mB .u64 a 3)==3 then
      bif (mB .u64 b 3)==3 then
       bif !(a==0)then
        Q67.l18 N n (aA (0-c)) a (Int.tmod b a) g
       else none
      else
      bif !(a==0)then
       Q67.l18 N n c a (Int.tmod b a) g
      else none
     else
     bif !(a==0)then
      Q67.l18 N n c a (Int.tmod b a) g
     else none)
  else
  g d e
noncomputable def Q67.f (N:Nat)(j k:Int):Option (Int):=
 bif k==0 then
  bif j==1 then
   some 1
  else
  bif j==(-1)then
   some 1
  else
  some 0
 else
 bif decide (k<0)then
  bif decide (j<0)then
   Q67.l10 N N j (-1) (nA (0- (nA k)))
    (fun d e a=>
     bif e==0 then
      some 0
     else
     bif !(a==0)then
      bif decide (d<0)then
       bif !(a==0)then
        bif !(a==0)then
         Q67.l18 N N e a (Int.tmod (nA (a- (Int.tmod (nA (0- (nA d))) a))) a)
          (fun l m=>
           bif m != 1 then
            some 0
           else
           some l)
        else none
       else none
      else
      Q67.l18 N N e a (Int.tmod (nA d) a)
       (fun o p=>
        bif p != 1 then
         some 0
        else
        some o)
     else none)
  else
  Q67.l10 N N j 1 (nA (0- (nA k)))
   (fun f g b=>
    bif g==0 then
     some 0
    else
    bif !(b==0)then
     bif decide (f<0)then
      bif !(b==0)then
       bif !(b==0)then
        Q67.l18 N N g b (Int.tmod (nA (b- (Int.tmod (nA (0- (nA f))) b))) b)
         (fun q r=>
          bif r != 1 then
           some 0
          else
          some q)
       else none
      else none
     else
     Q67.l18 N N g b (Int.tmod (nA f) b)
      (fun s t=>
       bif t != 1 then
        some 0
       else
       some s)
    else none)
 else
 Q67.l10 N N j 1 (nA k)
  (fun h i c=>
   bif i==0 then
    some 0
   else
   bif !(c==0)then
    bif decide (h<0)then
     bif !(c==0)then
      bif !(c==0)then
       Q67.l18 N N i c (Int.tmod (nA (c- (Int.tmod (nA (0- (nA h))) c))) c)
        (fun u v=>
         bif v != 1 then
          some 0
         else
         some u)
      else none
     else none
    else
    Q67.l18 N N i c (Int.tmod (nA h) c)
     (fun w x=>
      bif x != 1 then
       some 0
      else
      some w)
   else none)
noncomputable def Q67.h10:cE:=⟨[(0,.any),(5,.any),(6,.any)],[(0,.any),(5,.any),(6,.any)]⟩
noncomputable def Q67.h18:cE:=⟨[(5,.any),(6,.any),(7,.any)],[(5,.any),(6,.any)]⟩
noncomputable def Q67.h19:cE:=⟨[(5,.any),(6,.any),(7,.any)],[(5,.any),(6,.any),(7,.any)]⟩
noncomputable def Q67.c10 (N:Nat):tK:=⟨fun vs H k=>match vs,H with
 | [.c (.int .i64 a),.c (.int .i64 b),.c (.int .u64 c)],[]=>Q67.l10 N N a b c (fun d e f=>k (.exit 0) ⟨iE Q67.h10.out [.c (.int .i64 d),.c (.int .i64 e),.c (.int .u64 f)],[]⟩)
 |_,_=>none⟩
noncomputable def Q67.c19 (N:Nat):tK:=⟨fun vs H k=>match vs,H with
 | [.c (.int .i64 a),.c (.int .u64 b),.c (.int .u64 c)],[]=>Q67.l19 N N a b c (fun d e f=>k (.exit 4) ⟨iE Q67.h19.out [.c (.int .i64 d),.c (.int .u64 e),.c (.int .u64 f)],[]⟩)
 |_,_=>none⟩
noncomputable def Q67.c18 (N:Nat):tK:=⟨fun vs H k=>match vs,H with
 | [.c (.int .i64 a),.c (.int .u64 b),.c (.int .u64 c)],[]=>Q67.l18 N N a b c (fun d e=>k (.exit 2) ⟨iE Q67.h18.out [.c (.int .i64 d),.c (.int .u64 e)],[]⟩)
 |_,_=>none⟩
noncomputable def Q67.E (N:Nat):yC:=dF [(2,iR),(54,mP)] [(51,Q66.ent N)] [(10,Q67.h10),(18,Q67.h18),(19,Q67.h19)] [(10,Q67.c10 N),(19,Q67.c19 N),(18,Q67.c18 N)] N [.tmp 4] [.any] 0 81
noncomputable def Q67.b10:Code:=bB ((jA (bo Tryz.f41)).getD 0 .skip)
theorem Q67.l10_eq {R:Type}(N n:Nat)(a b c:Int)(k:Ex→St→Option R):
  vB 0 Q67.h10 (fun s k=>kB (Q67.E N) 393 Q67.b10 s k) n [.c (.int .i64 a),.c (.int .i64 b),.c (.int .u64 c)] [] k=Q67.l10 N n a b c (fun d e f=>k (.exit 0) ⟨iE Q67.h10.out [.c (.int .i64 d),.c (.int .i64 e),.c (.int .u64 f)],[]⟩):=by
 induction n generalizing a b c with
 |zero=>kernel_rfl
 |succ n ih=>
  simp only[Q67.l10,←ih]
  kernel_rfl
noncomputable def Q67.b19:Code:=bB ((jA (bo Tryz.f41)).getD 2 .skip)
theorem Q67.l19_eq {R:Type}(N n:Nat)(a b c:Int)(k:Ex→St→Option R):
  vB 0 Q67.h19 (fun s k=>kB (Q67.E N) 384 Q67.b19 s k) n [.c (.int .i64 a),.c (.int .u64 b),.c (.int .u64 c)] [] k=Q67.l19 N n a b c (fun d e f=>k (.exit 4) ⟨iE Q67.h19.out [.c (.int .i64 d),.c (.int .u64 e),.c (.int .u64 f)],[]⟩):=by
 induction n generalizing a b c with
 |zero=>kernel_rfl
 |succ n ih=>
  simp only[Q67.l19,←ih]
  kernel_rfl
noncomputable def Q67.b18:Code:=bB ((jA (bo Tryz.f41)).getD 1 .skip)
theorem Q67.l18_eq {R:Type}(N n:Nat)(a b c:Int)(k:Ex→St→Option R):
  vB 0 Q67.h18 (fun s k=>kB (Q67.E N) 389 Q67.b18 s k) n [.c (.int .i64 a),.c (.int .u64 b),.c (.int .u64 c)] [] k=Q67.l18 N n a b c (fun d e=>k (.exit 2) ⟨iE Q67.h18.out [.c (.int .i64 d),.c (.int .u64 e)],[]⟩):=by
 induction n generalizing a b c with
 |zero=>kernel_rfl
 |succ n ih=>
  simp only[Q67.l18,←ih]
  kernel_rfl
noncomputable def Q67.dec (v:V)(bs:List qA):Option (Int):=match v,bs with
 | .c (.int .i64 a),[]=>some a
 |_,_=>none
theorem Q67.f_eq (N:Nat)(a b:Int):
  eB (Q67.E N) (bo Tryz.f41) [.c (.int .i64 a),.c (.int .i64 b)] [] Q67.dec=Q67.f N a b:=by kernel_rfl
noncomputable def Q67.ent (N:Nat):yA:=pF (Int) 0 [true,true] [.any,.any] fun
 | [.c (.int .i64 a),.c (.int .i64 b)]=>some (Q67.f N a b,fun r=>.one (.c (.int .i64 r)) [])
 |_=>none
theorem Q67.env (N:Nat):dB Tryz.prog (Q67.E N):=⟨(.cons aD (.cons bF .nil)),(.cons (Q66.ent_ok N) .nil)⟩
theorem Q67.k19 (N:Nat):qC Tryz.prog Tryz.f41 (Q67.E N) (.loop Q67.b19):=vD (Q67.env N) dA 384 (c:=Q67.c19 N) eA.n fun R vs H k r h=>by unfold Q67.c19 at h;dsimp only at h;split at h;exact⟨_,Q67.l19_eq .. ▸h⟩;cases h
theorem Q67.k18 (N:Nat):qC Tryz.prog Tryz.f41 (Q67.E N) (.loop Q67.b18):=vD (Q67.env N) dA 389 (c:=Q67.c18 N) (eA.of (l:=[(.loop (bB ((jA (bo Tryz.f41)).getD 2 .skip)))]) (by kernel_rfl) (eA.cons (Q67.k19 N) eA.nil)) fun R vs H k r h=>by unfold Q67.c18 at h;dsimp only at h;split at h;exact⟨_,Q67.l18_eq .. ▸h⟩;cases h
theorem Q67.k10 (N:Nat):qC Tryz.prog Tryz.f41 (Q67.E N) (.loop Q67.b10):=vD (Q67.env N) dA 393 (c:=Q67.c10 N) eA.n fun R vs H k r h=>by unfold Q67.c10 at h;dsimp only at h;split at h;exact⟨_,Q67.l10_eq .. ▸h⟩;cases h
theorem Q67.spec (N:Nat)(a c r:Int)(h:Q67.f N a c=some r):lA Tryz.prog 41 [.c (.int .i64 a),.c (.int .i64 c)] [] (.c (.int .i64 r)) ([]):=vA (Q67.env N) dA Tryz.func41 (eA.of (l:=[(.loop (bB ((jA (bo Tryz.f41)).getD 0 .skip))),(.loop (bB ((jA (bo Tryz.f41)).getD 1 .skip))),(.loop (bB ((jA (bo Tryz.f41)).getD 2 .skip)))]) (by kernel_rfl) (eA.cons (Q67.k10 N) (eA.cons (Q67.k18 N) (eA.cons (Q67.k19 N) eA.nil)))) ((Q67.f_eq ..).trans h) fun v b e=>by unfold Q67.dec at e;split at e<;>cases e;exact⟨rfl,rfl⟩
theorem Q67.ent_ok (N:Nat):uA Tryz.prog 41 (Q67.ent N):=zA fun v a e h=>by split at h;exact lC (Q:=fun e=>lA _ _ _ _ (e a).pick.1 (e a).pick.2) h fun k=>Q67.spec N _ _ a k;cases h
noncomputable def Q68.f (N:Nat)(a:Int)(b:List Int):Option (List Int×Int):=
 some (b,a)
noncomputable def Q68.E (N:Nat):yC:=dF [(2,iR),(31,al)] [] [] [] N [.tmp 4] [.fnc [.box [.il .i64 1],.box [.any]]] 0 6 true
noncomputable def Q68.dec (v:V)(bs:List qA):Option (List Int×Int):=match v,bs with
 | .fn 40 [] [.ptr 0 0 1,.ptr 1 0 1],[.vals [.il .i64 1 a],.vals [.c (.int .i64 b)]]=>some (a,b)
 |_,_=>none
theorem Q68.f_eq (N:Nat)(a:Int)(b:List Int):
  eB (Q68.E N) (bo Tryz.f39) [.c (.int .i64 a),.il .i64 1 b] [] Q68.dec=Q68.f N a b:=by kernel_rfl
noncomputable def Q68.ent (N:Nat):yA:=pF (List Int×Int) 2 [true,true] [.any,.il .i64 1] fun
 | [.c (.int .i64 a),.il .i64 1 b]=>some (Q68.f N a b,fun r=>.one (.fn 40 [] [.ptr 0 0 1,.ptr 1 0 1]) [.vals [.il .i64 1 r.1],.vals [.c (.int .i64 r.2)]])
 |_=>none
theorem Q68.env (N:Nat):dB Tryz.prog (Q68.E N):=⟨(.cons aD (.cons pJ .nil)),.nil⟩
theorem Q68.spec (N:Nat)(a:Int)(c:List Int)(r:List Int×Int)(h:Q68.f N a c=some r):lA Tryz.prog 39 [.c (.int .i64 a),.il .i64 1 c] [] (.fn 40 [] [.ptr 0 0 1,.ptr 1 0 1]) ([.vals [.il .i64 1 r.1],.vals [.c (.int .i64 r.2)]]):=vA (Q68.env N) dA Tryz.func39 eA.n ((Q68.f_eq ..).trans h) fun v b e=>by unfold Q68.dec at e;split at e<;>cases e;exact⟨rfl,rfl⟩
theorem Q68.ent_ok (N:Nat):uA Tryz.prog 39 (Q68.ent N):=zA fun v a e h=>by split at h;exact lC (Q:=fun e=>lA _ _ _ _ (e a).pick.1 (e a).pick.2) h fun k=>Q68.spec N _ _ a k;cases h
noncomputable def Q69.l2 {R:Type}(N:Nat):Nat→Int→List Int→Int→Int→List Int→Int→(List Int→Int→Option R)→(Bool→List Int→Int→Option R)→Option R
 |0,_,_,_,_,_,_,_,_=>none
 |n+1,f,c,g,a,d,b,e,kr=>
  bif decide (a<g)then
   bif (decide (0≤a))&&(decide (a<(c.length:Int)))then
    bif !(b==0)then
     bif (Int.tmod f b)==(c.getD a.toNat 0)then
      kr true d b
     else
     Q69.l2 N n f c g (aA (a+1)) d b e kr
    else none
   else none
  else
  e d b
noncomputable def Q69.f (N:Nat)(g:Int)(a:List Int)(h:Int):Option (Bool×List Int×Int):=
 Q69.l2 N N g a (a.length:Int) 0 a h
  (fun b c=>
   some (false,b,c))
  (fun d e f=>
   some (d,e,f))
noncomputable def Q69.h2:cE:=⟨[(0,.any),(2,.any),(7,.il .i64 1),(8,.any),(9,.any)],[]⟩
noncomputable def Q69.c2 (N:Nat):tK:=⟨fun vs H k=>match vs,H with
 | [.c (.int .i64 f),.ptr 1 0 1,.il .i64 1 g,.c (.int .i64 h),.c (.int .i64 i)],[.vals [.il .i64 1 j],.vals [.c (.int .i64 l)]]=>Q69.l2 N N f g h i j l (fun d e=>k (.exit 0) ⟨iE Q69.h2.out [],[.vals [.il .i64 1 d],.vals [.c (.int .i64 e)]]⟩) (fun a b c=>k (.ret (.c (.bool a)) [.vals [.il .i64 1 b],.vals [.c (.int .i64 c)]]) .nil)
 |_,_=>none⟩
noncomputable def Q69.E (N:Nat):yC:=dF [(2,iR),(31,al)] [] [(2,Q69.h2)] [(2,Q69.c2 N)] N [.tmp 4] [.any] 2 19
noncomputable def Q69.b2:Code:=bB ((jA (bo Tryz.f40)).getD 0 .skip)
theorem Q69.l2_eq {R:Type}(N n:Nat)(f:Int)(g:List Int)(h i:Int)(j:List Int)(l:Int)(k:Ex→St→Option R):
  vB 2 Q69.h2 (fun s k=>kB (Q69.E N) 395 Q69.b2 s k) n [.c (.int .i64 f),.ptr 1 0 1,.il .i64 1 g,.c (.int .i64 h),.c (.int .i64 i)] [.vals [.il .i64 1 j],.vals [.c (.int .i64 l)]] k=Q69.l2 N n f g h i j l (fun d e=>k (.exit 0) ⟨iE Q69.h2.out [],[.vals [.il .i64 1 d],.vals [.c (.int .i64 e)]]⟩) (fun a b c=>k (.ret (.c (.bool a)) [.vals [.il .i64 1 b],.vals [.c (.int .i64 c)]]) .nil):=by
 induction n generalizing f g h i j l with
 |zero=>kernel_rfl
 |succ n ih=>
  simp only[Q69.l2,←ih]
  kernel_rfl
noncomputable def Q69.dec (v:V)(bs:List qA):Option (Bool×List Int×Int):=match v,bs with
 | .c (.bool a),[.vals [.il .i64 1 b],.vals [.c (.int .i64 c)]]=>some (a,b,c)
 |_,_=>none
theorem Q69.f_eq (N:Nat)(a:Int)(b:List Int)(c:Int):
  eB (Q69.E N) (bo Tryz.f40) [.c (.int .i64 a),.ptr 0 0 1,.ptr 1 0 1] [.vals [.il .i64 1 b],.vals [.c (.int .i64 c)]] Q69.dec=Q69.f N a b c:=by kernel_rfl
noncomputable def Q69.ent (N:Nat):yA:={A:=Bool×List Int×Int,fresh:=0,imm:=[true,false,false],dec:=fun args bs=>match yJ (rA bs) [false,false,false] args,bs with
 | [.c (.int .i64 a),.ptr 0 0 1,.ptr 1 0 1],[.vals [.il .i64 1 b],.vals [.c (.int .i64 c)]]=>some (Q69.f N a b c,fun r=>.one (.c (.bool r.1)) [.vals [.il .i64 1 r.2.1],.vals [.c (.int .i64 r.2.2)]])
 |_,_=>none}
theorem Q69.env (N:Nat):dB Tryz.prog (Q69.E N):=⟨(.cons aD (.cons pJ .nil)),.nil⟩
theorem Q69.k2 (N:Nat):qC Tryz.prog Tryz.f40 (Q69.E N) (.loop Q69.b2):=vD (Q69.env N) dA 395 (c:=Q69.c2 N) eA.n fun R vs H k r h=>by unfold Q69.c2 at h;dsimp only at h;split at h;exact⟨_,Q69.l2_eq .. ▸h⟩;cases h
theorem Q69.spec (N:Nat)(a:Int)(c:List Int)(d:Int)(r:Bool×List Int×Int)(h:Q69.f N a c d=some r):lA Tryz.prog 40 [.c (.int .i64 a),.ptr 0 0 1,.ptr 1 0 1] [.vals [.il .i64 1 c],.vals [.c (.int .i64 d)]] (.c (.bool r.1)) ([.vals [.il .i64 1 r.2.1],.vals [.c (.int .i64 r.2.2)]]):=vA (Q69.env N) dA Tryz.func40 (eA.of (l:=[(.loop (bB ((jA (bo Tryz.f40)).getD 0 .skip)))]) (by kernel_rfl) (eA.cons (Q69.k2 N) eA.nil)) ((Q69.f_eq ..).trans h) fun v b e=>by unfold Q69.dec at e;split at e<;>cases e;exact⟨rfl,rfl⟩
theorem Q69.ent_ok (N:Nat):uA Tryz.prog 40 (Q69.ent N):=by
 intro args bs a enc h;simp only[Q69.ent]at h;split at h
 ·rename_i hz;have h0:=Option.some.inj h;have h1:=congrArg Prod.fst h0;have h2:=congrArg Prod.snd h0;dsimp only at h1 h2;subst h2;exact lA.of_asSl (fl:=[false,false,false]) (by rw[hz];exact Q69.spec N _ _ _ a h1)
 ·cases h
noncomputable def Q70.f (N:Nat):Option (List Int×Int×List Int×Int×List Int×List Int×Int×List Int×List Int×Int×List Int×List Int×Int×List Int):=
 (Q68.f N 4 [3]).bind fun a=>
 (Q68.f N 8 [1,5,4]).bind fun b=>
 (Q68.f N 8 [2]).bind fun c=>
 (Q68.f N 8 [6]).bind fun d=>
 (Q68.f N 8 [0]).bind fun e=>
 some (a.1,a.2,b.1,b.2,[(-4)],c.1,c.2,[(-8)],d.1,d.2,[8],e.1,e.2,[(-4),8])
noncomputable def Q70.E (N:Nat):yC:=dF [(2,iR),(31,al),(41,Sn),(66,Sq),(69,Sr)] [(39,Q68.ent N)] [] [] N [.tmp 0] [.vrow [.fnc [.box [.il .i64 1],.box [.any]],.any,.fnc [.box [.il .i64 1],.box [.any]],.row .i64 1,.fnc [.box [.il .i64 1],.box [.any]],.row .i64 1,.fnc [.box [.il .i64 1],.box [.any]],.row .i64 1,.fnc [.box [.il .i64 1],.box [.any]],.row .i64 1]] 0 27 true
noncomputable def Q70.dec (v:V)(bs:List qA):Option (List Int×Int×List Int×Int×List Int×List Int×Int×List Int×List Int×Int×List Int×List Int×Int×List Int):=match v,bs with
 | .sw 0 2,[.vals [.fn 40 [] [.ptr 1 0 1,.ptr 2 0 1],.c (.slice none 0 0),.fn 40 [] [.ptr 3 0 1,.ptr 4 0 1],.sw 5 1,.fn 40 [] [.ptr 6 0 1,.ptr 7 0 1],.sw 8 1,.fn 40 [] [.ptr 9 0 1,.ptr 10 0 1],.sw 11 1,.fn 40 [] [.ptr 12 0 1,.ptr 13 0 1],.sw 14 1],.vals [.il .i64 1 e],.vals [.c (.int .i64 f)],.vals [.il .i64 1 g],.vals [.c (.int .i64 h)],.ints .i64 i,.vals [.il .i64 1 j],.vals [.c (.int .i64 k)],.ints .i64 l,.vals [.il .i64 1 m],.vals [.c (.int .i64 o)],.ints .i64 a,.vals [.il .i64 1 b],.vals [.c (.int .i64 c)],.ints .i64 d]=>some (e,f,g,h,i,j,k,l,m,o,a,b,c,d)
 |_,_=>none
theorem Q70.f_eq (N:Nat):
  eB (Q70.E N) (bo Tryz.f27) [] [] Q70.dec=Q70.f N:=by kernel_rfl
noncomputable def Q70.ent (N:Nat):yA:=pF (List Int×Int×List Int×Int×List Int×List Int×Int×List Int×List Int×Int×List Int×List Int×Int×List Int) 15 [] [] fun
 | []=>some (Q70.f N,fun r=>.one (.sw 0 2) [.vals [.fn 40 [] [.ptr 1 0 1,.ptr 2 0 1],.c (.slice none 0 0),.fn 40 [] [.ptr 3 0 1,.ptr 4 0 1],.sw 5 1,.fn 40 [] [.ptr 6 0 1,.ptr 7 0 1],.sw 8 1,.fn 40 [] [.ptr 9 0 1,.ptr 10 0 1],.sw 11 1,.fn 40 [] [.ptr 12 0 1,.ptr 13 0 1],.sw 14 1],.vals [.il .i64 1 r.1],.vals [.c (.int .i64 r.2.1)],.vals [.il .i64 1 r.2.2.1],.vals [.c (.int .i64 r.2.2.2.1)],.ints .i64 r.2.2.2.2.1,.vals [.il .i64 1 r.2.2.2.2.2.1],.vals [.c (.int .i64 r.2.2.2.2.2.2.1)],.ints .i64 r.2.2.2.2.2.2.2.1,.vals [.il .i64 1 r.2.2.2.2.2.2.2.2.1],.vals [.c (.int .i64 r.2.2.2.2.2.2.2.2.2.1)],.ints .i64 r.2.2.2.2.2.2.2.2.2.2.1,.vals [.il .i64 1 r.2.2.2.2.2.2.2.2.2.2.2.1],.vals [.c (.int .i64 r.2.2.2.2.2.2.2.2.2.2.2.2.1)],.ints .i64 r.2.2.2.2.2.2.2.2.2.2.2.2.2])
 |_=>none
theorem Q70.env (N:Nat):dB Tryz.prog (Q70.E N):=⟨(.cons aD (.cons pJ (.cons yz (.cons zh (.cons zi .nil))))),(.cons (Q68.ent_ok N) .nil)⟩
theorem Q70.spec (N:Nat)(r:List Int×Int×List Int×Int×List Int×List Int×Int×List Int×List Int×Int×List Int×List Int×Int×List Int)(h:Q70.f N=some r):lA Tryz.prog 27 [] [] (.sw 0 2) ([.vals [.fn 40 [] [.ptr 1 0 1,.ptr 2 0 1],.c (.slice none 0 0),.fn 40 [] [.ptr 3 0 1,.ptr 4 0 1],.sw 5 1,.fn 40 [] [.ptr 6 0 1,.ptr 7 0 1],.sw 8 1,.fn 40 [] [.ptr 9 0 1,.ptr 10 0 1],.sw 11 1,.fn 40 [] [.ptr 12 0 1,.ptr 13 0 1],.sw 14 1],.vals [.il .i64 1 r.1],.vals [.c (.int .i64 r.2.1)],.vals [.il .i64 1 r.2.2.1],.vals [.c (.int .i64 r.2.2.2.1)],.ints .i64 r.2.2.2.2.1,.vals [.il .i64 1 r.2.2.2.2.2.1],.vals [.c (.int .i64 r.2.2.2.2.2.2.1)],.ints .i64 r.2.2.2.2.2.2.2.1,.vals [.il .i64 1 r.2.2.2.2.2.2.2.2.1],.vals [.c (.int .i64 r.2.2.2.2.2.2.2.2.2.1)],.ints .i64 r.2.2.2.2.2.2.2.2.2.2.1,.vals [.il .i64 1 r.2.2.2.2.2.2.2.2.2.2.2.1],.vals [.c (.int .i64 r.2.2.2.2.2.2.2.2.2.2.2.2.1)],.ints .i64 r.2.2.2.2.2.2.2.2.2.2.2.2.2]):=vA (Q70.env N) dA Tryz.func27 eA.n ((Q70.f_eq ..).trans h) fun v b e=>by unfold Q70.dec at e;split at e<;>cases e;exact⟨rfl,rfl⟩
theorem Q70.ent_ok (N:Nat):uA Tryz.prog 27 (Q70.ent N):=zA fun v a e h=>by split at h;exact lC (Q:=fun e=>lA _ _ _ _ (e a).pick.1 (e a).pick.2) h fun k=>Q70.spec N a k;cases h
noncomputable def Q71.l4 {R:Type}(N:Nat):Nat→Int→List Int→Int→Int→List Int→(Int→List Int→Option R)→Option R
 |0,_,_,_,_,_,_=>none
 |n+1,e,b,f,a,c,d=>
  bif decide (a<f)then
   bif (decide (0≤a))&&(decide (a<(b.length/2:Int)))then
    bif decide ((b.getD (a.toNat*2) 0)>2)then
     bif cB (c.length+1) 8 then
      Q71.l4 N n e b f (aA (a+1)) (c++[b.getD (a.toNat*2) 0]) d
     else none
    else
    Q71.l4 N n e b f (aA (a+1)) c d
   else none
  else
  d e c
noncomputable def Q71.f (N:Nat)(i:Int):Option (List Int):=
 (Q65.f N (aA (0-i))).bind fun j=>
 Q71.l4 N N i j.1 (j.1.length/2:Int) 0 []
  (fun c b=>
   bif (Int.tmod c 2) != 0 then
    some b
   else
   (Q70.f N).bind fun a=>
   (Q69.f N (aA (Int.tdiv (aA (0-c)) 4)) a.1 a.2.1).bind fun d=>
   bif d.1 then
    bif cB (b.length+0) 8 then
     some (b++[])
    else none
   else
   (Q69.f N (aA (Int.tdiv (aA (0-c)) 4)) a.2.2.1 a.2.2.2.1).bind fun e=>
   bif e.1 then
    bif cB (b.length+a.2.2.2.2.1.length) 8 then
     some (b++a.2.2.2.2.1)
    else none
   else
   (Q69.f N (aA (Int.tdiv (aA (0-c)) 4)) a.2.2.2.2.2.1 a.2.2.2.2.2.2.1).bind fun f=>
   bif f.1 then
    bif cB (b.length+a.2.2.2.2.2.2.2.1.length) 8 then
     some (b++a.2.2.2.2.2.2.2.1)
    else none
   else
   (Q69.f N (aA (Int.tdiv (aA (0-c)) 4)) a.2.2.2.2.2.2.2.2.1 a.2.2.2.2.2.2.2.2.2.1).bind fun g=>
   bif g.1 then
    bif cB (b.length+a.2.2.2.2.2.2.2.2.2.2.1.length) 8 then
     some (b++a.2.2.2.2.2.2.2.2.2.2.1)
    else none
   else
   (Q69.f N (aA (Int.tdiv (aA (0-c)) 4)) a.2.2.2.2.2.2.2.2.2.2.2.1 a.2.2.2.2.2.2.2.2.2.2.2.2.1).bind fun h=>
   bif h.1 then
    bif cB (b.length+a.2.2.2.2.2.2.2.2.2.2.2.2.2.length) 8 then
     some (b++a.2.2.2.2.2.2.2.2.2.2.2.2.2)
    else none
   else
   some b)
noncomputable def Q71.h4:cE:=⟨[(0,.any),(3,.row .i64 1),(16,.il .i64 2),(17,.any),(18,.any)],[(0,.any),(3,.row .i64 1)]⟩
noncomputable def Q71.h12:cE:=⟨[(0,.any),(3,.row .i64 1),(35,.vrow [.fnc [.box [.il .i64 1],.box [.any]],.any,.fnc [.box [.il .i64 1],.box [.any]],.row .i64 1,.fnc [.box [.il .i64 1],.box [.any]],.row .i64 1,.fnc [.box [.il .i64 1],.box [.any]],.row .i64 1,.fnc [.box [.il .i64 1],.box [.any]],.row .i64 1]),(36,.any),(37,.any)],[(3,.any)]⟩
noncomputable def Q71.c4 (N:Nat):tK:=⟨fun vs H k=>match vs,H with
 | [.c (.int .i64 a),.sw 0 1,.il .i64 2 b,.c (.int .i64 c),.c (.int .i64 d)],[.ints .i64 e]=>Q71.l4 N N a b c d e (fun f g=>k (.exit 0) ⟨iE Q71.h4.out [.c (.int .i64 f),.sw 0 1],[.ints .i64 g]⟩)
 |_,_=>none⟩
noncomputable def Q71.E (N:Nat):yC:=dF [(2,iR),(31,al),(41,Sn),(61,Po),(65,So),(66,Sq),(69,Sr)] [(26,Q65.ent N),(27,Q70.ent N),(40,Q69.ent N)] [(4,Q71.h4),(12,Q71.h12)] [(4,Q71.c4 N)] 40 [.tmp 2] [.il .i64 1] 0 53
noncomputable def Q71.b4:Code:=bB ((jA (bo Tryz.f15)).getD 0 .skip)
theorem Q71.l4_eq {R:Type}(N n:Nat)(a:Int)(b:List Int)(c d:Int)(e:List Int)(k:Ex→St→Option R):
  vB 0 Q71.h4 (fun s k=>kB (Q71.E N) 393 Q71.b4 s k) n [.c (.int .i64 a),.sw 0 1,.il .i64 2 b,.c (.int .i64 c),.c (.int .i64 d)] [.ints .i64 e] k=Q71.l4 N n a b c d e (fun f g=>k (.exit 0) ⟨iE Q71.h4.out [.c (.int .i64 f),.sw 0 1],[.ints .i64 g]⟩):=by
 induction n generalizing a b c d e with
 |zero=>kernel_rfl
 |succ n ih=>
  simp only[Q71.l4,←ih]
  kernel_rfl
noncomputable def Q71.dec (v:V)(bs:List qA):Option (List Int):=match v,bs with
 | .il .i64 1 a,[]=>some a
 |_,_=>none
theorem Q71.f_eq (N:Nat)(a:Int):
  eB (Q71.E N) (bo Tryz.f15) [.c (.int .i64 a)] [] Q71.dec=Q71.f N a:=by kernel_rfl
noncomputable def Q71.ent (N:Nat):yA:=pF (List Int) 0 [true] [.any] fun
 | [.c (.int .i64 a)]=>some (Q71.f N a,fun r=>.one (.il .i64 1 r) [])
 |_=>none
theorem Q71.env (N:Nat):dB Tryz.prog (Q71.E N):=⟨(.cons aD (.cons pJ (.cons yz (.cons kn (.cons zf (.cons zh (.cons zi .nil))))))),(.cons (Q65.ent_ok N) (.cons (Q70.ent_ok N) (.cons (Q69.ent_ok N) .nil)))⟩
theorem Q71.k4 (N:Nat):qC Tryz.prog Tryz.f15 (Q71.E N) (.loop Q71.b4):=vD (Q71.env N) dA 393 (c:=Q71.c4 N) eA.n fun R vs H k r h=>by unfold Q71.c4 at h;dsimp only at h;split at h;exact⟨_,Q71.l4_eq .. ▸h⟩;cases h
theorem Q71.spec (N:Nat)(a:Int)(r:List Int)(h:Q71.f N a=some r):lA Tryz.prog 15 [.c (.int .i64 a)] [] (.il .i64 1 r) ([]):=vA (Q71.env N) dA Tryz.func15 (eA.of (l:=[(.loop (bB ((jA (bo Tryz.f15)).getD 0 .skip))),(.loop (bB ((jA (bo Tryz.f15)).getD 1 .skip)))]) (by kernel_rfl) (eA.cons (Q71.k4 N) (eA.cons (Cv (by kernel_rfl)) eA.nil))) ((Q71.f_eq ..).trans h) fun v b e=>by unfold Q71.dec at e;split at e<;>cases e;exact⟨rfl,rfl⟩
theorem Q71.ent_ok (N:Nat):uA Tryz.prog 15 (Q71.ent N):=zA fun v a e h=>by split at h;exact lC (Q:=fun e=>lA _ _ _ _ (e a).pick.1 (e a).pick.2) h fun k=>Q71.spec N _ a k;cases h
noncomputable def Q72.l2 {R:Type}(N:Nat):Nat→Int→Int→Int→Int→Int→(Unit→Option R)→(Int→Option R)→Option R
 |0,_,_,_,_,_,_,_=>none
 |n+1,a,c,d,e,b,m,kr=>
  bif decide (b<3)then
   bif (decide (0≤b))&&(decide (b<3))then
    (Q35.f N ([c,d,e].getD b.toNat 0) a).bind fun f=>
    bif f.1 != 1 then
     Q72.l2 N n a c d e (aA (b+1)) m kr
    else
    bif a==(-4)then
     bif a==(-4)then
      (Q67.f N a ([c,d,e].getD b.toNat 0)).bind fun g=>
      kr g
     else
     (Q67.f N ([c,d,e].getD b.toNat 0) a).bind fun h=>
     kr h
    else
    bif a==8 then
     bif a==8 then
      (Q67.f N a ([c,d,e].getD b.toNat 0)).bind fun i=>
      kr i
     else
     (Q67.f N ([c,d,e].getD b.toNat 0) a).bind fun j=>
     kr j
    else
    bif a==(-8)then
     (Q67.f N a ([c,d,e].getD b.toNat 0)).bind fun k=>
     kr k
    else
    (Q67.f N ([c,d,e].getD b.toNat 0) a).bind fun l=>
    kr l
   else none
  else
  m ()
noncomputable def Q72.f (N:Nat)(b d c e:Int):Option (Int):=
 Q72.l2 N N e b c (aA ((aA (b+d))+c)) 0
  (fun(_:Unit)=>
   some 0)
  (fun a=>
   some a)
noncomputable def Q72.h2:cE:=⟨[(1,.any),(22,.recd [.any,.any,.any]),(23,.any)],[]⟩
noncomputable def Q72.c2 (N:Nat):tK:=⟨fun vs H k=>match vs,H with
 | [.c (.int .i64 b),.agg [.c (.int .i64 c),.c (.int .i64 d),.c (.int .i64 e)],.c (.int .i64 f)],[]=>Q72.l2 N N b c d e f (fun(_:Unit)=>k (.exit 0) ⟨iE Q72.h2.out [],[]⟩) (fun a=>k (.ret (.c (.int .i64 a)) []) .nil)
 |_,_=>none⟩
noncomputable def Q72.E (N:Nat):yC:=dF [(2,iR),(36,sK),(87,Tq)] [(36,Q35.ent N),(41,Q67.ent N)] [(2,Q72.h2)] [(2,Q72.c2 N)] N [.tmp 4] [.any] 0 47
noncomputable def Q72.b2:Code:=bB ((jA (bo Tryz.f28)).getD 0 .skip)
theorem Q72.l2_eq {R:Type}(N n:Nat)(b c d e f:Int)(k:Ex→St→Option R):
  vB 0 Q72.h2 (fun s k=>kB (Q72.E N) 395 Q72.b2 s k) n [.c (.int .i64 b),.agg [.c (.int .i64 c),.c (.int .i64 d),.c (.int .i64 e)],.c (.int .i64 f)] [] k=Q72.l2 N n b c d e f (fun(_:Unit)=>k (.exit 0) ⟨iE Q72.h2.out [],[]⟩) (fun a=>k (.ret (.c (.int .i64 a)) []) .nil):=by
 induction n generalizing b c d e f with
 |zero=>kernel_rfl
 |succ n ih=>
  simp only[Q72.l2,←ih]
  kernel_rfl
noncomputable def Q72.dec (v:V)(bs:List qA):Option (Int):=match v,bs with
 | .c (.int .i64 a),[]=>some a
 |_,_=>none
theorem Q72.f_eq (N:Nat)(a b c d:Int):
  eB (Q72.E N) (bo Tryz.f28) [.agg [.c (.int .i64 a),.c (.int .i64 b),.c (.int .i64 c)],.c (.int .i64 d)] [] Q72.dec=Q72.f N a b c d:=by kernel_rfl
noncomputable def Q72.ent (N:Nat):yA:=pF (Int) 0 [true,true] [.recd [.any,.any,.any],.any] fun
 | [.agg [.c (.int .i64 a),.c (.int .i64 b),.c (.int .i64 c)],.c (.int .i64 d)]=>some (Q72.f N a b c d,fun r=>.one (.c (.int .i64 r)) [])
 |_=>none
theorem Q72.env (N:Nat):dB Tryz.prog (Q72.E N):=⟨(.cons aD (.cons tD (.cons Pq .nil))),(.cons (Q35.ent_ok N) (.cons (Q67.ent_ok N) .nil))⟩
theorem Q72.k2 (N:Nat):qC Tryz.prog Tryz.f28 (Q72.E N) (.loop Q72.b2):=vD (Q72.env N) dA 395 (c:=Q72.c2 N) eA.n fun R vs H k r h=>by unfold Q72.c2 at h;dsimp only at h;split at h;exact⟨_,Q72.l2_eq .. ▸h⟩;cases h
theorem Q72.spec (N:Nat)(a c d f r:Int)(h:Q72.f N a c d f=some r):lA Tryz.prog 28 [.agg [.c (.int .i64 a),.c (.int .i64 c),.c (.int .i64 d)],.c (.int .i64 f)] [] (.c (.int .i64 r)) ([]):=vA (Q72.env N) dA Tryz.func28 (eA.of (l:=[(.loop (bB ((jA (bo Tryz.f28)).getD 0 .skip)))]) (by kernel_rfl) (eA.cons (Q72.k2 N) eA.nil)) ((Q72.f_eq ..).trans h) fun v b e=>by unfold Q72.dec at e;split at e<;>cases e;exact⟨rfl,rfl⟩
theorem Q72.ent_ok (N:Nat):uA Tryz.prog 28 (Q72.ent N):=zA fun v a e h=>by split at h;exact lC (Q:=fun e=>lA _ _ _ _ (e a).pick.1 (e a).pick.2) h fun k=>Q72.spec N _ _ _ _ a k;cases h
noncomputable def Q73.l3 {R:Type}(N:Nat):Nat→List Int→Int→Int→Int→Int→Int→List Int→List Int→(List Int→List Int→Option R)→Option R
 |0,_,_,_,_,_,_,_,_,_=>none
 |n+1,f,h,a,i,j,b,c,d,g=>
  bif decide (a<h)then
   bif (decide (0≤a))&&(decide (a<(f.length:Int)))then
    (Q72.f N i j b (f.getD a.toNat 0)).bind fun e=>
    bif (decide (0≤a))&&(decide (a<8))then
     Q73.l3 N n f h (aA (a+1)) i j b c (d.set (0+a.toNat) e) g
    else none
   else none
  else
  g c d
noncomputable def Q73.f (N:Nat)(d e f:Int)(c:List Int):Option (Int×Int×Int×Int×Int×Int×Int×Int):=
 Q73.l3 N N c (c.length:Int) 0 d e f [0,0,0,0,0,0,0,0] [0,0,0,0,0,0,0,0]
  (fun b a=>
   some (((((((((b.set 0 (a.getD 0 0)).set 1 (a.getD 1 0)).set 2 (a.getD 2 0)).set 3 (a.getD 3 0)).set 4 (a.getD 4 0)).set 5 (a.getD 5 0)).set 6 (a.getD 6 0)).set 7 (a.getD 7 0)).getD 0 0,((((((((b.set 0 (a.getD 0 0)).set 1 (a.getD 1 0)).set 2 (a.getD 2 0)).set 3 (a.getD 3 0)).set 4 (a.getD 4 0)).set 5 (a.getD 5 0)).set 6 (a.getD 6 0)).set 7 (a.getD 7 0)).getD 1 0,((((((((b.set 0 (a.getD 0 0)).set 1 (a.getD 1 0)).set 2 (a.getD 2 0)).set 3 (a.getD 3 0)).set 4 (a.getD 4 0)).set 5 (a.getD 5 0)).set 6 (a.getD 6 0)).set 7 (a.getD 7 0)).getD 2 0,((((((((b.set 0 (a.getD 0 0)).set 1 (a.getD 1 0)).set 2 (a.getD 2 0)).set 3 (a.getD 3 0)).set 4 (a.getD 4 0)).set 5 (a.getD 5 0)).set 6 (a.getD 6 0)).set 7 (a.getD 7 0)).getD 3 0,((((((((b.set 0 (a.getD 0 0)).set 1 (a.getD 1 0)).set 2 (a.getD 2 0)).set 3 (a.getD 3 0)).set 4 (a.getD 4 0)).set 5 (a.getD 5 0)).set 6 (a.getD 6 0)).set 7 (a.getD 7 0)).getD 4 0,((((((((b.set 0 (a.getD 0 0)).set 1 (a.getD 1 0)).set 2 (a.getD 2 0)).set 3 (a.getD 3 0)).set 4 (a.getD 4 0)).set 5 (a.getD 5 0)).set 6 (a.getD 6 0)).set 7 (a.getD 7 0)).getD 5 0,((((((((b.set 0 (a.getD 0 0)).set 1 (a.getD 1 0)).set 2 (a.getD 2 0)).set 3 (a.getD 3 0)).set 4 (a.getD 4 0)).set 5 (a.getD 5 0)).set 6 (a.getD 6 0)).set 7 (a.getD 7 0)).getD 6 0,((((((((b.set 0 (a.getD 0 0)).set 1 (a.getD 1 0)).set 2 (a.getD 2 0)).set 3 (a.getD 3 0)).set 4 (a.getD 4 0)).set 5 (a.getD 5 0)).set 6 (a.getD 6 0)).set 7 (a.getD 7 0)).getD 7 0))
noncomputable def Q73.h3:cE:=⟨[(2,.box [.any,.any,.any]),(4,.any),(5,.any),(8,.il .i64 1),(9,.any),(10,.any)],[(4,.any),(5,.any)]⟩
noncomputable def Q73.c3 (N:Nat):tK:=⟨fun vs H k=>match vs,H with
 | [.ptr 0 0 3,.ptr 1 0 8,.ptr 2 0 8,.il .i64 1 f,.c (.int .i64 g),.c (.int .i64 h)],[.vals [.c (.int .i64 i),.c (.int .i64 j),.c (.int .i64 a)],.ints .i64 b,.ints .i64 c]=>Q73.l3 N N f g h i j a b c (fun d e=>k (.exit 0) ⟨iE Q73.h3.out [.ptr 0 0 8,.ptr 1 0 8],[.ints .i64 d,.ints .i64 e]⟩)
 |_,_=>none⟩
noncomputable def Q73.E (N:Nat):yC:=dF [(2,iR),(3,Bo),(31,al),(36,sK),(49,Pm)] [(28,Q72.ent N)] [(3,Q73.h3)] [(3,Q73.c3 N)] N [.cell 4 49] [.recd [.any,.any,.any,.any,.any,.any,.any,.any]] 0 22
noncomputable def Q73.b3:Code:=bB ((jA (bo Tryz.f16)).getD 0 .skip)
theorem Q73.l3_eq {R:Type}(N n:Nat)(f:List Int)(g h i j a:Int)(b c:List Int)(k:Ex→St→Option R):
  vB 0 Q73.h3 (fun s k=>kB (Q73.E N) 394 Q73.b3 s k) n [.ptr 0 0 3,.ptr 1 0 8,.ptr 2 0 8,.il .i64 1 f,.c (.int .i64 g),.c (.int .i64 h)] [.vals [.c (.int .i64 i),.c (.int .i64 j),.c (.int .i64 a)],.ints .i64 b,.ints .i64 c] k=Q73.l3 N n f g h i j a b c (fun d e=>k (.exit 0) ⟨iE Q73.h3.out [.ptr 0 0 8,.ptr 1 0 8],[.ints .i64 d,.ints .i64 e]⟩):=by
 induction n generalizing f g h i j a b c with
 |zero=>kernel_rfl
 |succ n ih=>
  simp only[Q73.l3,←ih]
  kernel_rfl
noncomputable def Q73.dec (v:V)(bs:List qA):Option (Int×Int×Int×Int×Int×Int×Int×Int):=match v,bs with
 | .agg [.c (.int .i64 a),.c (.int .i64 b),.c (.int .i64 c),.c (.int .i64 d),.c (.int .i64 e),.c (.int .i64 f),.c (.int .i64 g),.c (.int .i64 h)],[]=>some (a,b,c,d,e,f,g,h)
 |_,_=>none
theorem Q73.f_eq (N:Nat)(a b c:Int)(d:List Int):
  eB (Q73.E N) (bo Tryz.f16) [.agg [.c (.int .i64 a),.c (.int .i64 b),.c (.int .i64 c)],.il .i64 1 d] [] Q73.dec=Q73.f N a b c d:=by kernel_rfl
noncomputable def Q73.ent (N:Nat):yA:=pF (Int×Int×Int×Int×Int×Int×Int×Int) 0 [true,true] [.recd [.any,.any,.any],.il .i64 1] fun
 | [.agg [.c (.int .i64 a),.c (.int .i64 b),.c (.int .i64 c)],.il .i64 1 d]=>some (Q73.f N a b c d,fun r=>.one (.agg [.c (.int .i64 r.1),.c (.int .i64 r.2.1),.c (.int .i64 r.2.2.1),.c (.int .i64 r.2.2.2.1),.c (.int .i64 r.2.2.2.2.1),.c (.int .i64 r.2.2.2.2.2.1),.c (.int .i64 r.2.2.2.2.2.2.1),.c (.int .i64 r.2.2.2.2.2.2.2)]) [])
 |_=>none
theorem Q73.env (N:Nat):dB Tryz.prog (Q73.E N):=⟨(.cons aD (.cons jJ (.cons pJ (.cons tD (.cons km .nil))))),(.cons (Q72.ent_ok N) .nil)⟩
theorem Q73.k3 (N:Nat):qC Tryz.prog Tryz.f16 (Q73.E N) (.loop Q73.b3):=vD (Q73.env N) dA 394 (c:=Q73.c3 N) eA.n fun R vs H k r h=>by unfold Q73.c3 at h;dsimp only at h;split at h;exact⟨_,Q73.l3_eq .. ▸h⟩;cases h
theorem Q73.spec (N:Nat)(a c d:Int)(f:List Int)(r:Int×Int×Int×Int×Int×Int×Int×Int)(h:Q73.f N a c d f=some r):lA Tryz.prog 16 [.agg [.c (.int .i64 a),.c (.int .i64 c),.c (.int .i64 d)],.il .i64 1 f] [] (.agg [.c (.int .i64 r.1),.c (.int .i64 r.2.1),.c (.int .i64 r.2.2.1),.c (.int .i64 r.2.2.2.1),.c (.int .i64 r.2.2.2.2.1),.c (.int .i64 r.2.2.2.2.2.1),.c (.int .i64 r.2.2.2.2.2.2.1),.c (.int .i64 r.2.2.2.2.2.2.2)]) ([]):=vA (Q73.env N) dA Tryz.func16 (eA.of (l:=[(.loop (bB ((jA (bo Tryz.f16)).getD 0 .skip)))]) (by kernel_rfl) (eA.cons (Q73.k3 N) eA.nil)) ((Q73.f_eq ..).trans h) fun v b e=>by unfold Q73.dec at e;split at e<;>cases e;exact⟨rfl,rfl⟩
theorem Q73.ent_ok (N:Nat):uA Tryz.prog 16 (Q73.ent N):=zA fun v a e h=>by split at h;exact lC (Q:=fun e=>lA _ _ _ _ (e a).pick.1 (e a).pick.2) h fun k=>Q73.spec N _ _ _ _ a k;cases h
noncomputable def Q74.f (N:Nat)(c d e:Int):Option (List Int×Int):=
 (Q38.f N c d e).bind fun f=>
 bif f != 0 then
  some ([],f)
 else
 (Q37.f N c d e).bind fun g=>
 bif decide (g<(-65536))then
  some ([],80)
 else
 (Q41.f N c d e).bind fun h=>
 bif h != 1 then
  some ([],81)
 else
 (Q37.f N c d e).bind fun i=>
 (Q71.f N i).bind fun b=>
 (Q73.f N c d e b).bind fun a=>
 bif ((decide (0≤(b.length:Int)))&&(decide ((b.length:Int)≤(b.length:Int))))&&(decide ((b.length:Int)≤8))then
  some ([a.1,a.2.1,a.2.2.1,a.2.2.2.1,a.2.2.2.2.1,a.2.2.2.2.2.1,a.2.2.2.2.2.2.1,a.2.2.2.2.2.2.2].take ((b.length:Int).toNat),0)
 else none
noncomputable def Q74.E (N:Nat):yC:=dF [(3,Bo),(31,al),(36,sK),(49,Pm)] [(24,Q38.ent N),(20,Q37.ent N),(25,Q41.ent N),(15,Q71.ent N),(16,Q73.ent N)] [] [] N [.tmp 2,.tmp 3] [.il .i64 1,.any] 0 32
noncomputable def Q74.dec (v:V)(bs:List qA):Option (List Int×Int):=match v,bs with
 | .tup [.il .i64 1 a,.c (.int .i64 b)],[]=>some (a,b)
 |_,_=>none
theorem Q74.f_eq (N:Nat)(a b c:Int):
  eB (Q74.E N) (bo Tryz.f12) [.agg [.c (.int .i64 a),.c (.int .i64 b),.c (.int .i64 c)]] [] Q74.dec=Q74.f N a b c:=by kernel_rfl
noncomputable def Q74.ent (N:Nat):yA:=pF (List Int×Int) 0 [true] [.recd [.any,.any,.any]] fun
 | [.agg [.c (.int .i64 a),.c (.int .i64 b),.c (.int .i64 c)]]=>some (Q74.f N a b c,fun r=>.one (.tup [.il .i64 1 r.1,.c (.int .i64 r.2)]) [])
 |_=>none
theorem Q74.env (N:Nat):dB Tryz.prog (Q74.E N):=⟨(.cons jJ (.cons pJ (.cons tD (.cons km .nil)))),(.cons (Q38.ent_ok N) (.cons (Q37.ent_ok N) (.cons (Q41.ent_ok N) (.cons (Q71.ent_ok N) (.cons (Q73.ent_ok N) .nil)))))⟩
theorem Q74.spec (N:Nat)(a c d:Int)(r:List Int×Int)(h:Q74.f N a c d=some r):lA Tryz.prog 12 [.agg [.c (.int .i64 a),.c (.int .i64 c),.c (.int .i64 d)]] [] (.tup [.il .i64 1 r.1,.c (.int .i64 r.2)]) ([]):=vA (Q74.env N) dA Tryz.func12 eA.n ((Q74.f_eq ..).trans h) fun v b e=>by unfold Q74.dec at e;split at e<;>cases e;exact⟨rfl,rfl⟩
theorem Q74.ent_ok (N:Nat):uA Tryz.prog 12 (Q74.ent N):=zA fun v a e h=>by split at h;exact lC (Q:=fun e=>lA _ _ _ _ (e a).pick.1 (e a).pick.2) h fun k=>Q74.spec N _ _ _ a k;cases h
noncomputable def Q75.f (N:Nat)(a:Int):Option (List Int×Int):=
 (Q59.f N a).bind fun b=>
 bif b != 0 then
  some ([],b)
 else
 (Q71.f N a).bind fun c=>
 some (c,0)
noncomputable def Q75.E (N:Nat):yC:=dF [] [(6,Q59.ent N),(15,Q71.ent N)] [] [] N [.tmp 2,.tmp 3] [.il .i64 1,.any] 0 12
noncomputable def Q75.dec (v:V)(bs:List qA):Option (List Int×Int):=match v,bs with
 | .tup [.il .i64 1 a,.c (.int .i64 b)],[]=>some (a,b)
 |_,_=>none
theorem Q75.f_eq (N:Nat)(a:Int):
  eB (Q75.E N) (bo Tryz.f8) [.c (.int .i64 a)] [] Q75.dec=Q75.f N a:=by kernel_rfl
noncomputable def Q75.ent (N:Nat):yA:=pF (List Int×Int) 0 [true] [.any] fun
 | [.c (.int .i64 a)]=>some (Q75.f N a,fun r=>.one (.tup [.il .i64 1 r.1,.c (.int .i64 r.2)]) [])
 |_=>none
theorem Q75.env (N:Nat):dB Tryz.prog (Q75.E N):=⟨.nil,(.cons (Q59.ent_ok N) (.cons (Q71.ent_ok N) .nil))⟩
theorem Q75.spec (N:Nat)(a:Int)(r:List Int×Int)(h:Q75.f N a=some r):lA Tryz.prog 8 [.c (.int .i64 a)] [] (.tup [.il .i64 1 r.1,.c (.int .i64 r.2)]) ([]):=vA (Q75.env N) dA Tryz.func8 eA.n ((Q75.f_eq ..).trans h) fun v b e=>by unfold Q75.dec at e;split at e<;>cases e;exact⟨rfl,rfl⟩
theorem Q75.ent_ok (N:Nat):uA Tryz.prog 8 (Q75.ent N):=zA fun v a e h=>by split at h;exact lC (Q:=fun e=>lA _ _ _ _ (e a).pick.1 (e a).pick.2) h fun k=>Q75.spec N _ a k;cases h
noncomputable def vo:TI:=⟨.slice 28,1,24,[.slice none 0 0]⟩
noncomputable def To:TI:=⟨.map 49 3,1,8,[.map none]⟩
theorem zP:kC Tryz.prog 23 vo:=nC (by kernel_rfl) (by kernel_rfl) (by kernel_rfl) (by kernel_rfl) (by kernel_rfl) (by kernel_rfl) (by kernel_rfl) (Tryz.underlying23) (by kernel_rfl)
theorem Pk:kC Tryz.prog 48 To:=nC (by kernel_rfl) (by kernel_rfl) (by kernel_rfl) (by kernel_rfl) (by kernel_rfl) (by kernel_rfl) (by kernel_rfl) (kl Tryz.underlying48 (by kernel_rfl)) (by kernel_rfl)
noncomputable def Q76.l8 {R:Type}(N:Nat):Nat→List Int→Int→Int→List (List Int)→List Int→List (List Int)→List Int→(List (List Int)→Option R)→Option R
 |0,_,_,_,_,_,_,_,_=>none
 |n+1,h,i,d,e,f,c,b,g=>
  bif decide (d<i)then
   bif (decide (0≤d))&&(decide (d<(b.length/3:Int)))then
    (Q73.f N (b.getD (d.toNat*3) 0) (b.getD ((d.toNat*3)+1) 0) (b.getD ((d.toNat*3)+2) 0) h).bind fun a=>
    bif !(hJ [a.1,a.2.1,a.2.2.1,a.2.2.2.1,a.2.2.2.2.1,a.2.2.2.2.2.1,a.2.2.2.2.2.2.1,a.2.2.2.2.2.2.2] e)then
     bif cB (c.length+1) 24 then
      bif (decide (0≤(c.length:Int)))&&(decide ((c.length:Int)<((c++[[]]).length:Int)))then
       bif cB (((((c++[[]]).getD ((c.length:Int).toNat) []).length)+3)/3) 24 then
        bif (decide (0≤(c.length:Int)))&&(decide ((c.length:Int)<((c++[[]]).length:Int)))then
         bif Nat.beq ((c.length:Int).toNat) ((c.length:Int).toNat)then
          Q76.l8 N n h i (aA (d+1)) (oB [a.1,a.2.1,a.2.2.1,a.2.2.2.1,a.2.2.2.2.1,a.2.2.2.2.2.1,a.2.2.2.2.2.2.1,a.2.2.2.2.2.2.2] e) (iH [a.1,a.2.1,a.2.2.1,a.2.2.2.1,a.2.2.2.2.1,a.2.2.2.2.2.1,a.2.2.2.2.2.2.1,a.2.2.2.2.2.2.2] (c.length:Int) e f) ((c++[[]]).set ((c.length:Int).toNat) (((c++[[]]).getD ((c.length:Int).toNat) [])++[b.getD (d.toNat*3) 0,b.getD ((d.toNat*3)+1) 0,b.getD ((d.toNat*3)+2) 0])) b g
         else none
        else none
       else none
      else none
     else none
    else
    bif (decide (0≤(mD [a.1,a.2.1,a.2.2.1,a.2.2.2.1,a.2.2.2.2.1,a.2.2.2.2.2.1,a.2.2.2.2.2.2.1,a.2.2.2.2.2.2.2] e f)))&&(decide ((mD [a.1,a.2.1,a.2.2.1,a.2.2.2.1,a.2.2.2.2.1,a.2.2.2.2.2.1,a.2.2.2.2.2.2.1,a.2.2.2.2.2.2.2] e f)<(c.length:Int)))then
     bif cB ((((c.getD ((mD [a.1,a.2.1,a.2.2.1,a.2.2.2.1,a.2.2.2.2.1,a.2.2.2.2.2.1,a.2.2.2.2.2.2.1,a.2.2.2.2.2.2.2] e f).toNat) []).length)+3)/3) 24 then
      bif (decide (0≤(mD [a.1,a.2.1,a.2.2.1,a.2.2.2.1,a.2.2.2.2.1,a.2.2.2.2.2.1,a.2.2.2.2.2.2.1,a.2.2.2.2.2.2.2] e f)))&&(decide ((mD [a.1,a.2.1,a.2.2.1,a.2.2.2.1,a.2.2.2.2.1,a.2.2.2.2.2.1,a.2.2.2.2.2.2.1,a.2.2.2.2.2.2.2] e f)<(c.length:Int)))then
       bif Nat.beq ((mD [a.1,a.2.1,a.2.2.1,a.2.2.2.1,a.2.2.2.2.1,a.2.2.2.2.2.1,a.2.2.2.2.2.2.1,a.2.2.2.2.2.2.2] e f).toNat) ((mD [a.1,a.2.1,a.2.2.1,a.2.2.2.1,a.2.2.2.2.1,a.2.2.2.2.2.1,a.2.2.2.2.2.2.1,a.2.2.2.2.2.2.2] e f).toNat)then
        Q76.l8 N n h i (aA (d+1)) e f (c.set ((mD [a.1,a.2.1,a.2.2.1,a.2.2.2.1,a.2.2.2.2.1,a.2.2.2.2.2.1,a.2.2.2.2.2.2.1,a.2.2.2.2.2.2.2] e f).toNat) ((c.getD ((mD [a.1,a.2.1,a.2.2.1,a.2.2.2.1,a.2.2.2.2.1,a.2.2.2.2.2.1,a.2.2.2.2.2.2.1,a.2.2.2.2.2.2.2] e f).toNat) [])++[b.getD (d.toNat*3) 0,b.getD ((d.toNat*3)+1) 0,b.getD ((d.toNat*3)+2) 0])) b g
       else none
      else none
     else none
    else none
   else none
  else
  g c
noncomputable def Q76.f (N:Nat)(c:Int):Option (List (List Int)×Int):=
 (Q63.f N c).bind fun a=>
 bif a.2 != 0 then
  some ([],a.2)
 else
 (Q71.f N c).bind fun d=>
 Q76.l8 N N d (a.1.length/3:Int) 0 [] [] [] a.1
  (fun b=>
   some (b,0))
noncomputable def Q76.h8:cE:=⟨[(6,.il .i64 1),(7,.any),(8,.nrow .i64 3),(25,.row .i64 3),(26,.any),(27,.any)],[(8,.nrow .i64 3)]⟩
noncomputable def Q76.c8 (N:Nat):tK:=⟨fun vs H k=>match vs,H with
 | [.il .i64 1 c,.mref 0,.sw 1 1,.sw 2 3,.c (.int .i64 d),.c (.int .i64 e)],[.mp .i64 8 f (.ints .i64 g),.nw .i64 3 h none,.ints .i64 a]=>Q76.l8 N N c d e f g h a (fun b=>k (.exit 0) ⟨iE Q76.h8.out [.sw 0 1],[.nw .i64 3 b none]⟩)
 |_,_=>none⟩
noncomputable def Q76.E (N:Nat):yC:=dF [(3,Bo),(23,vo),(28,qh),(36,sK),(48,To),(49,Pm)] [(7,Q63.ent N),(15,Q71.ent N),(16,Q73.ent N),(3000028,Qo)] [(8,Q76.h8)] [(8,Q76.c8 N)] N [.tmp 2,.tmp 3] [.inl .i64 3,.any] 0 62
noncomputable def Q76.b8:Code:=bB ((jA (bo Tryz.f5)).getD 0 .skip)
theorem Q76.l8_eq {R:Type}(N n:Nat)(c:List Int)(d e:Int)(f:List (List Int))(g:List Int)(h:List (List Int))(a:List Int)(k:Ex→St→Option R):
  vB 0 Q76.h8 (fun s k=>kB (Q76.E N) 390 Q76.b8 s k) n [.il .i64 1 c,.mref 0,.sw 1 1,.sw 2 3,.c (.int .i64 d),.c (.int .i64 e)] [.mp .i64 8 f (.ints .i64 g),.nw .i64 3 h none,.ints .i64 a] k=Q76.l8 N n c d e f g h a (fun b=>k (.exit 0) ⟨iE Q76.h8.out [.sw 0 1],[.nw .i64 3 b none]⟩):=by
 induction n generalizing c d e f g h a with
 |zero=>kernel_rfl
 |succ n ih=>
  simp only[Q76.l8,←ih]
  kernel_rfl
noncomputable def Q76.dec (v:V)(bs:List qA):Option (List (List Int)×Int):=match v,bs with
 | .tup [.inl .i64 3 a,.c (.int .i64 b)],[]=>some (a,b)
 |_,_=>none
theorem Q76.f_eq (N:Nat)(a:Int):
  eB (Q76.E N) (bo Tryz.f5) [.c (.int .i64 a)] [] Q76.dec=Q76.f N a:=by kernel_rfl
noncomputable def Q76.ent (N:Nat):yA:=pF (List (List Int)×Int) 0 [true] [.any] fun
 | [.c (.int .i64 a)]=>some (Q76.f N a,fun r=>.one (.tup [.inl .i64 3 r.1,.c (.int .i64 r.2)]) [])
 |_=>none
theorem Q76.env (N:Nat):dB Tryz.prog (Q76.E N):=⟨(.cons jJ (.cons zP (.cons oN (.cons tD (.cons Pk (.cons km .nil)))))),(.cons (Q63.ent_ok N) (.cons (Q71.ent_ok N) (.cons (Q73.ent_ok N) (.cons (Dp (f:=3000028)) .nil))))⟩
theorem Q76.k8 (N:Nat):qC Tryz.prog Tryz.f5 (Q76.E N) (.loop Q76.b8):=vD (Q76.env N) dA 390 (c:=Q76.c8 N) eA.n fun R vs H k r h=>by unfold Q76.c8 at h;dsimp only at h;split at h;exact⟨_,Q76.l8_eq .. ▸h⟩;cases h
theorem Q76.spec (N:Nat)(a:Int)(r:List (List Int)×Int)(h:Q76.f N a=some r):lA Tryz.prog 5 [.c (.int .i64 a)] [] (.tup [.inl .i64 3 r.1,.c (.int .i64 r.2)]) ([]):=vA (Q76.env N) dA Tryz.func5 (eA.of (l:=[(.loop (bB ((jA (bo Tryz.f5)).getD 0 .skip)))]) (by kernel_rfl) (eA.cons (Q76.k8 N) eA.nil)) ((Q76.f_eq ..).trans h) fun v b e=>by unfold Q76.dec at e;split at e<;>cases e;exact⟨rfl,rfl⟩
theorem Q76.ent_ok (N:Nat):uA Tryz.prog 5 (Q76.ent N):=zA fun v a e h=>by split at h;exact lC (Q:=fun e=>lA _ _ _ _ (e a).pick.1 (e a).pick.2) h fun k=>Q76.spec N _ a k;cases h
noncomputable def Q77.f (N:Nat)(b:Int):Option (List Int×Int):=
 (Q76.f N b).bind fun a=>
 bif a.2 != 0 then
  some ([],a.2)
 else
 bif decide (0<(a.1.length:Int))then
  some (a.1.getD 0 [],0)
 else none
noncomputable def Q77.E (N:Nat):yC:=dF [(23,vo),(28,qh)] [(5,Q76.ent N)] [] [] N [.tmp 2,.tmp 3] [.il .i64 3,.any] 0 17
noncomputable def Q77.dec (v:V)(bs:List qA):Option (List Int×Int):=match v,bs with
 | .tup [.il .i64 3 a,.c (.int .i64 b)],[]=>some (a,b)
 |_,_=>none
theorem Q77.f_eq (N:Nat)(a:Int):
  eB (Q77.E N) (bo Tryz.f9) [.c (.int .i64 a)] [] Q77.dec=Q77.f N a:=by kernel_rfl
noncomputable def Q77.ent (N:Nat):yA:=pF (List Int×Int) 0 [true] [.any] fun
 | [.c (.int .i64 a)]=>some (Q77.f N a,fun r=>.one (.tup [.il .i64 3 r.1,.c (.int .i64 r.2)]) [])
 |_=>none
theorem Q77.env (N:Nat):dB Tryz.prog (Q77.E N):=⟨(.cons zP (.cons oN .nil)),(.cons (Q76.ent_ok N) .nil)⟩
theorem Q77.spec (N:Nat)(a:Int)(r:List Int×Int)(h:Q77.f N a=some r):lA Tryz.prog 9 [.c (.int .i64 a)] [] (.tup [.il .i64 3 r.1,.c (.int .i64 r.2)]) ([]):=vA (Q77.env N) dA Tryz.func9 eA.n ((Q77.f_eq ..).trans h) fun v b e=>by unfold Q77.dec at e;split at e<;>cases e;exact⟨rfl,rfl⟩
theorem Q77.ent_ok (N:Nat):uA Tryz.prog 9 (Q77.ent N):=zA fun v a e h=>by split at h;exact lC (Q:=fun e=>lA _ _ _ _ (e a).pick.1 (e a).pick.2) h fun k=>Q77.spec N _ a k;cases h
noncomputable def Q78.l9 {R:Type}(N:Nat):Nat→List (List Int)→List (List Int)→Int→Int→(List (List Int)→List (List Int)→Int→Option R)→(Bool→Option R)→Option R
 |0,_,_,_,_,_,_=>none
 |n+1,c,d,b,a,e,kr=>
  bif (decide (0≤b))&&(decide (b<(c.length:Int)))then
   bif decide (a<(((c.getD b.toNat []).length)/3:Int))then
    bif (decide (0≤b))&&(decide (b<(c.length:Int)))then
     bif (decide (0≤a))&&(decide (a<(((c.getD b.toNat []).length)/3:Int)))then
      bif (decide (0≤b))&&(decide (b<(d.length:Int)))then
       bif (decide (0≤a))&&(decide (a<(((d.getD b.toNat []).length)/3:Int)))then
        bif !((((c.getD b.toNat []).getD (a.toNat*3) 0)==((d.getD b.toNat []).getD (a.toNat*3) 0))&&((((c.getD b.toNat []).getD ((a.toNat*3)+1) 0)==((d.getD b.toNat []).getD ((a.toNat*3)+1) 0))&&(((c.getD b.toNat []).getD ((a.toNat*3)+2) 0)==((d.getD b.toNat []).getD ((a.toNat*3)+2) 0))))then
         kr false
        else
        Q78.l9 N n c d b (aA (a+1)) e kr
       else none
      else none
     else none
    else none
   else
   e c d b
  else none
noncomputable def Q78.l4 {R:Type}(N:Nat):Nat→List (List Int)→List (List Int)→Int→(Unit→Option R)→(Bool→Option R)→Option R
 |0,_,_,_,_,_=>none
 |n+1,b,c,a,h,kr=>
  bif decide (a<(b.length:Int))then
   bif (decide (0≤a))&&(decide (a<(b.length:Int)))then
    bif (decide (0≤a))&&(decide (a<(c.length:Int)))then
     bif (((b.getD a.toNat []).length)/3:Int) != (((c.getD a.toNat []).length)/3:Int)then
      kr false
     else
     Q78.l9 N N b c a 0
      (fun d e f=>
       Q78.l4 N n d e (aA (f+1)) h kr)
      (fun g=>
       kr g)
    else none
   else none
  else
  h ()
noncomputable def Q78.f (N:Nat)(b c:List (List Int)):Option (Bool):=
 bif (b.length:Int) != (c.length:Int)then
  some false
 else
 Q78.l4 N N b c 0
  (fun(_:Unit)=>
   some true)
  (fun a=>
   some a)
noncomputable def Q78.h4:cE:=⟨[(0,.inl .i64 3),(1,.inl .i64 3),(5,.any)],[]⟩
noncomputable def Q78.h9:cE:=⟨[(0,.inl .i64 3),(1,.inl .i64 3),(5,.any),(6,.any)],[(0,.inl .i64 3),(1,.inl .i64 3),(5,.any)]⟩
noncomputable def Q78.c9 (N:Nat):tK:=⟨fun vs H k=>match vs,H with
 | [.inl .i64 3 f,.inl .i64 3 g,.c (.int .i64 h),.c (.int .i64 a)],[]=>Q78.l9 N N f g h a (fun c d e=>k (.exit 2) ⟨iE Q78.h9.out [.inl .i64 3 c,.inl .i64 3 d,.c (.int .i64 e)],[]⟩) (fun b=>k (.ret (.c (.bool b)) []) .nil)
 |_,_=>none⟩
noncomputable def Q78.c4 (N:Nat):tK:=⟨fun vs H k=>match vs,H with
 | [.inl .i64 3 a,.inl .i64 3 b,.c (.int .i64 c)],[]=>Q78.l4 N N a b c (fun(_:Unit)=>k (.exit 0) ⟨iE Q78.h4.out [],[]⟩) (fun d=>k (.ret (.c (.bool d)) []) .nil)
 |_,_=>none⟩
noncomputable def Q78.E (N:Nat):yC:=dF [(2,iR),(23,vo),(28,qh),(36,sK)] [] [(4,Q78.h4),(9,Q78.h9)] [(9,Q78.c9 N),(4,Q78.c4 N)] N [.tmp 4] [.any] 0 53
noncomputable def Q78.b9:Code:=bB ((jA (bo Tryz.f23)).getD 1 .skip)
theorem Q78.l9_eq {R:Type}(N n:Nat)(f g:List (List Int))(h a:Int)(k:Ex→St→Option R):
  vB 0 Q78.h9 (fun s k=>kB (Q78.E N) 387 Q78.b9 s k) n [.inl .i64 3 f,.inl .i64 3 g,.c (.int .i64 h),.c (.int .i64 a)] [] k=Q78.l9 N n f g h a (fun c d e=>k (.exit 2) ⟨iE Q78.h9.out [.inl .i64 3 c,.inl .i64 3 d,.c (.int .i64 e)],[]⟩) (fun b=>k (.ret (.c (.bool b)) []) .nil):=by
 induction n generalizing f g h a with
 |zero=>kernel_rfl
 |succ n ih=>
  simp only[Q78.l9,←ih]
  kernel_rfl
noncomputable def Q78.b4:Code:=bB ((jA (bo Tryz.f23)).getD 0 .skip)
theorem Q78.l4_eq {R:Type}(N n:Nat)(a b:List (List Int))(c:Int)(k:Ex→St→Option R):
  vB 0 Q78.h4 (fun s k=>kB (Q78.E N) 394 Q78.b4 s k) n [.inl .i64 3 a,.inl .i64 3 b,.c (.int .i64 c)] [] k=Q78.l4 N n a b c (fun(_:Unit)=>k (.exit 0) ⟨iE Q78.h4.out [],[]⟩) (fun d=>k (.ret (.c (.bool d)) []) .nil):=by
 induction n generalizing a b c with
 |zero=>kernel_rfl
 |succ n ih=>
  simp only[Q78.l4,←ih]
  kernel_rfl
noncomputable def Q78.dec (v:V)(bs:List qA):Option (Bool):=match v,bs with
 | .c (.bool a),[]=>some a
 |_,_=>none
theorem Q78.f_eq (N:Nat)(a b:List (List Int)):
  eB (Q78.E N) (bo Tryz.f23) [.inl .i64 3 a,.inl .i64 3 b] [] Q78.dec=Q78.f N a b:=by kernel_rfl
noncomputable def Q78.ent (N:Nat):yA:=pF (Bool) 0 [true,true] [.inl .i64 3,.inl .i64 3] fun
 | [.inl .i64 3 a,.inl .i64 3 b]=>some (Q78.f N a b,fun r=>.one (.c (.bool r)) [])
 |_=>none
theorem Q78.env (N:Nat):dB Tryz.prog (Q78.E N):=⟨(.cons aD (.cons zP (.cons oN (.cons tD .nil)))),.nil⟩
theorem Q78.k9 (N:Nat):qC Tryz.prog Tryz.f23 (Q78.E N) (.loop Q78.b9):=vD (Q78.env N) dA 387 (c:=Q78.c9 N) eA.n fun R vs H k r h=>by unfold Q78.c9 at h;dsimp only at h;split at h;exact⟨_,Q78.l9_eq .. ▸h⟩;cases h
theorem Q78.k4 (N:Nat):qC Tryz.prog Tryz.f23 (Q78.E N) (.loop Q78.b4):=vD (Q78.env N) dA 394 (c:=Q78.c4 N) (eA.of (l:=[(.loop (bB ((jA (bo Tryz.f23)).getD 1 .skip)))]) (by kernel_rfl) (eA.cons (Q78.k9 N) eA.nil)) fun R vs H k r h=>by unfold Q78.c4 at h;dsimp only at h;split at h;exact⟨_,Q78.l4_eq .. ▸h⟩;cases h
theorem Q78.spec (N:Nat)(a c:List (List Int))(r:Bool)(h:Q78.f N a c=some r):lA Tryz.prog 23 [.inl .i64 3 a,.inl .i64 3 c] [] (.c (.bool r)) ([]):=vA (Q78.env N) dA Tryz.func23 (eA.of (l:=[(.loop (bB ((jA (bo Tryz.f23)).getD 0 .skip))),(.loop (bB ((jA (bo Tryz.f23)).getD 1 .skip)))]) (by kernel_rfl) (eA.cons (Q78.k4 N) (eA.cons (Q78.k9 N) eA.nil))) ((Q78.f_eq ..).trans h) fun v b e=>by unfold Q78.dec at e;split at e<;>cases e;exact⟨rfl,rfl⟩
theorem Q78.ent_ok (N:Nat):uA Tryz.prog 23 (Q78.ent N):=zA fun v a e h=>by split at h;exact lC (Q:=fun e=>lA _ _ _ _ (e a).pick.1 (e a).pick.2) h fun k=>Q78.spec N _ _ a k;cases h
noncomputable def Q79.f (N:Nat)(a b:List Int):Option (Bool):=
 (Q78.f N [a] [b]).bind fun c=>
 some c
noncomputable def Q79.E (N:Nat):yC:=dF [(23,vo),(28,qh)] [(23,Q78.ent N)] [] [] N [.tmp 4] [.any] 0 10
noncomputable def Q79.dec (v:V)(bs:List qA):Option (Bool):=match v,bs with
 | .c (.bool a),[]=>some a
 |_,_=>none
theorem Q79.f_eq (N:Nat)(a b:List Int):
  eB (Q79.E N) (bo Tryz.f11) [.il .i64 3 a,.il .i64 3 b] [] Q79.dec=Q79.f N a b:=by kernel_rfl
noncomputable def Q79.ent (N:Nat):yA:=pF (Bool) 0 [true,true] [.il .i64 3,.il .i64 3] fun
 | [.il .i64 3 a,.il .i64 3 b]=>some (Q79.f N a b,fun r=>.one (.c (.bool r)) [])
 |_=>none
theorem Q79.env (N:Nat):dB Tryz.prog (Q79.E N):=⟨(.cons zP (.cons oN .nil)),(.cons (Q78.ent_ok N) .nil)⟩
theorem Q79.spec (N:Nat)(a c:List Int)(r:Bool)(h:Q79.f N a c=some r):lA Tryz.prog 11 [.il .i64 3 a,.il .i64 3 c] [] (.c (.bool r)) ([]):=vA (Q79.env N) dA Tryz.func11 eA.n ((Q79.f_eq ..).trans h) fun v b e=>by unfold Q79.dec at e;split at e<;>cases e;exact⟨rfl,rfl⟩
theorem Q79.ent_ok (N:Nat):uA Tryz.prog 11 (Q79.ent N):=zA fun v a e h=>by split at h;exact lC (Q:=fun e=>lA _ _ _ _ (e a).pick.1 (e a).pick.2) h fun k=>Q79.spec N _ _ a k;cases h
noncomputable def Q80.l4 {R:Type}(N:Nat):Nat→List Int→List Int→Int→Int→(Unit→Option R)→(Bool→Option R)→Option R
 |0,_,_,_,_,_,_=>none
 |n+1,b,c,e,a,d,kr=>
  bif decide (a<e)then
   bif (decide (0≤a))&&(decide (a<(b.length:Int)))then
    bif (decide (0≤a))&&(decide (a<(c.length:Int)))then
     bif (b.getD a.toNat 0) != (c.getD a.toNat 0)then
      kr false
     else
     Q80.l4 N n b c e (aA (a+1)) d kr
    else none
   else none
  else
  d ()
noncomputable def Q80.f (N:Nat)(a b:List Int):Option (Bool):=
 bif (a.length:Int) != (b.length:Int)then
  some false
 else
 Q80.l4 N N a b (a.length:Int) 0
  (fun(_:Unit)=>
   some true)
  (fun c=>
   some c)
noncomputable def Q80.h4:cE:=⟨[(0,.il .i64 1),(1,.il .i64 1),(12,.any),(13,.any)],[]⟩
noncomputable def Q80.c4 (N:Nat):tK:=⟨fun vs H k=>match vs,H with
 | [.il .i64 1 a,.il .i64 1 b,.c (.int .i64 c),.c (.int .i64 d)],[]=>Q80.l4 N N a b c d (fun(_:Unit)=>k (.exit 0) ⟨iE Q80.h4.out [],[]⟩) (fun e=>k (.ret (.c (.bool e)) []) .nil)
 |_,_=>none⟩
noncomputable def Q80.E (N:Nat):yC:=dF [(3,Bo),(42,Mg)] [] [(4,Q80.h4)] [(4,Q80.c4 N)] N [.tmp 4] [.any] 0 26
noncomputable def Q80.b4:Code:=bB ((jA (bo Tryz.f13)).getD 0 .skip)
theorem Q80.l4_eq {R:Type}(N n:Nat)(a b:List Int)(c d:Int)(k:Ex→St→Option R):
  vB 0 Q80.h4 (fun s k=>kB (Q80.E N) 394 Q80.b4 s k) n [.il .i64 1 a,.il .i64 1 b,.c (.int .i64 c),.c (.int .i64 d)] [] k=Q80.l4 N n a b c d (fun(_:Unit)=>k (.exit 0) ⟨iE Q80.h4.out [],[]⟩) (fun e=>k (.ret (.c (.bool e)) []) .nil):=by
 induction n generalizing a b c d with
 |zero=>kernel_rfl
 |succ n ih=>
  simp only[Q80.l4,←ih]
  kernel_rfl
noncomputable def Q80.dec (v:V)(bs:List qA):Option (Bool):=match v,bs with
 | .c (.bool a),[]=>some a
 |_,_=>none
theorem Q80.f_eq (N:Nat)(a b:List Int):
  eB (Q80.E N) (bo Tryz.f13) [.il .i64 1 a,.il .i64 1 b] [] Q80.dec=Q80.f N a b:=by kernel_rfl
noncomputable def Q80.ent (N:Nat):yA:=pF (Bool) 0 [true,true] [.il .i64 1,.il .i64 1] fun
 | [.il .i64 1 a,.il .i64 1 b]=>some (Q80.f N a b,fun r=>.one (.c (.bool r)) [])
 |_=>none
theorem Q80.env (N:Nat):dB Tryz.prog (Q80.E N):=⟨(.cons jJ (.cons dX .nil)),.nil⟩
theorem Q80.k4 (N:Nat):qC Tryz.prog Tryz.f13 (Q80.E N) (.loop Q80.b4):=vD (Q80.env N) dA 394 (c:=Q80.c4 N) eA.n fun R vs H k r h=>by unfold Q80.c4 at h;dsimp only at h;split at h;exact⟨_,Q80.l4_eq .. ▸h⟩;cases h
theorem Q80.spec (N:Nat)(a c:List Int)(r:Bool)(h:Q80.f N a c=some r):lA Tryz.prog 13 [.il .i64 1 a,.il .i64 1 c] [] (.c (.bool r)) ([]):=vA (Q80.env N) dA Tryz.func13 (eA.of (l:=[(.loop (bB ((jA (bo Tryz.f13)).getD 0 .skip)))]) (by kernel_rfl) (eA.cons (Q80.k4 N) eA.nil)) ((Q80.f_eq ..).trans h) fun v b e=>by unfold Q80.dec at e;split at e<;>cases e;exact⟨rfl,rfl⟩
theorem Q80.ent_ok (N:Nat):uA Tryz.prog 13 (Q80.ent N):=zA fun v a e h=>by split at h;exact lC (Q:=fun e=>lA _ _ _ _ (e a).pick.1 (e a).pick.2) h fun k=>Q80.spec N _ _ a k;cases h
noncomputable def Q81.l4 {R:Type}(N:Nat):Nat→List Int→List Int→Int→Int→(Unit→Option R)→(Bool→Option R)→Option R
 |0,_,_,_,_,_,_=>none
 |n+1,b,c,e,a,d,kr=>
  bif decide (a<e)then
   bif (decide (0≤a))&&(decide (a<(b.length:Int)))then
    bif (decide (0≤a))&&(decide (a<(c.length:Int)))then
     bif (b.getD a.toNat 0) != (c.getD a.toNat 0)then
      kr false
     else
     Q81.l4 N n b c e (aA (a+1)) d kr
    else none
   else none
  else
  d ()
noncomputable def Q81.f (N:Nat)(a b:List Int):Option (Bool):=
 bif (a.length:Int) != (b.length:Int)then
  some false
 else
 Q81.l4 N N a b (a.length:Int) 0
  (fun(_:Unit)=>
   some true)
  (fun c=>
   some c)
noncomputable def Q81.h4:cE:=⟨[(0,.il .i64 1),(1,.il .i64 1),(12,.any),(13,.any)],[]⟩
noncomputable def Q81.c4 (N:Nat):tK:=⟨fun vs H k=>match vs,H with
 | [.il .i64 1 a,.il .i64 1 b,.c (.int .i64 c),.c (.int .i64 d)],[]=>Q81.l4 N N a b c d (fun(_:Unit)=>k (.exit 0) ⟨iE Q81.h4.out [],[]⟩) (fun e=>k (.ret (.c (.bool e)) []) .nil)
 |_,_=>none⟩
noncomputable def Q81.E (N:Nat):yC:=dF [(2,iR),(31,al)] [] [(4,Q81.h4)] [(4,Q81.c4 N)] N [.tmp 4] [.any] 0 26
noncomputable def Q81.b4:Code:=bB ((jA (bo Tryz.f14)).getD 0 .skip)
theorem Q81.l4_eq {R:Type}(N n:Nat)(a b:List Int)(c d:Int)(k:Ex→St→Option R):
  vB 0 Q81.h4 (fun s k=>kB (Q81.E N) 394 Q81.b4 s k) n [.il .i64 1 a,.il .i64 1 b,.c (.int .i64 c),.c (.int .i64 d)] [] k=Q81.l4 N n a b c d (fun(_:Unit)=>k (.exit 0) ⟨iE Q81.h4.out [],[]⟩) (fun e=>k (.ret (.c (.bool e)) []) .nil):=by
 induction n generalizing a b c d with
 |zero=>kernel_rfl
 |succ n ih=>
  simp only[Q81.l4,←ih]
  kernel_rfl
noncomputable def Q81.dec (v:V)(bs:List qA):Option (Bool):=match v,bs with
 | .c (.bool a),[]=>some a
 |_,_=>none
theorem Q81.f_eq (N:Nat)(a b:List Int):
  eB (Q81.E N) (bo Tryz.f14) [.il .i64 1 a,.il .i64 1 b] [] Q81.dec=Q81.f N a b:=by kernel_rfl
noncomputable def Q81.ent (N:Nat):yA:=pF (Bool) 0 [true,true] [.il .i64 1,.il .i64 1] fun
 | [.il .i64 1 a,.il .i64 1 b]=>some (Q81.f N a b,fun r=>.one (.c (.bool r)) [])
 |_=>none
theorem Q81.env (N:Nat):dB Tryz.prog (Q81.E N):=⟨(.cons aD (.cons pJ .nil)),.nil⟩
theorem Q81.k4 (N:Nat):qC Tryz.prog Tryz.f14 (Q81.E N) (.loop Q81.b4):=vD (Q81.env N) dA 394 (c:=Q81.c4 N) eA.n fun R vs H k r h=>by unfold Q81.c4 at h;dsimp only at h;split at h;exact⟨_,Q81.l4_eq .. ▸h⟩;cases h
theorem Q81.spec (N:Nat)(a c:List Int)(r:Bool)(h:Q81.f N a c=some r):lA Tryz.prog 14 [.il .i64 1 a,.il .i64 1 c] [] (.c (.bool r)) ([]):=vA (Q81.env N) dA Tryz.func14 (eA.of (l:=[(.loop (bB ((jA (bo Tryz.f14)).getD 0 .skip)))]) (by kernel_rfl) (eA.cons (Q81.k4 N) eA.nil)) ((Q81.f_eq ..).trans h) fun v b e=>by unfold Q81.dec at e;split at e<;>cases e;exact⟨rfl,rfl⟩
theorem Q81.ent_ok (N:Nat):uA Tryz.prog 14 (Q81.ent N):=zA fun v a e h=>by split at h;exact lC (Q:=fun e=>lA _ _ _ _ (e a).pick.1 (e a).pick.2) h fun k=>Q81.spec N _ _ a k;cases h
noncomputable def Q82.f (N:Nat):Option (Bool):=
 (Q76.f N (-20)).bind fun a=>
 (Q74.f N 2 2 3).bind fun b=>
 (Q75.f N (-96)).bind fun c=>
 bif a.2==0 then
  bif b.2==0 then
   bif c.2==0 then
    bif (a.1.length:Int)==2 then
     bif decide (0<(a.1.length:Int))then
      bif (((a.1.getD 0 []).length)/3:Int)==1 then
       bif decide (0<(a.1.length:Int))then
        bif decide (0<(((a.1.getD 0 []).length)/3:Int))then
         bif (((a.1.getD 0 []).getD 0 0)==1)&&((((a.1.getD 0 []).getD 1 0)==0)&&(((a.1.getD 0 []).getD 2 0)==5))then
          (Q80.f N b.1 [(-1),(-1)]).bind fun d=>
          bif d then
           (Q81.f N c.1 [3,(-4),8]).bind fun e=>
           some e
          else
          some false
         else
         some false
        else none
       else none
      else
      some false
     else none
    else
    some false
   else
   some false
  else
  some false
 else
 some false
noncomputable def Q82.E (N:Nat):yC:=dF [(2,iR),(3,Bo),(23,vo),(28,qh),(31,al),(36,sK),(42,Mg)] [(5,Q76.ent N),(12,Q74.ent N),(8,Q75.ent N),(13,Q80.ent N),(14,Q81.ent N)] [] [] N [.tmp 0] [.any] 0 61
noncomputable def Q82.dec (v:V)(bs:List qA):Option (Bool):=match v,bs with
 | .c (.bool a),[]=>some a
 |_,_=>none
theorem Q82.f_eq (N:Nat):
  eB (Q82.E N) (bo Tryz.f4) [] [] Q82.dec=Q82.f N:=by kernel_rfl
noncomputable def Q82.ent (N:Nat):yA:=pF (Bool) 0 [] [] fun
 | []=>some (Q82.f N,fun r=>.one (.c (.bool r)) [])
 |_=>none
theorem Q82.env (N:Nat):dB Tryz.prog (Q82.E N):=⟨(.cons aD (.cons jJ (.cons zP (.cons oN (.cons pJ (.cons tD (.cons dX .nil))))))),(.cons (Q76.ent_ok N) (.cons (Q74.ent_ok N) (.cons (Q75.ent_ok N) (.cons (Q80.ent_ok N) (.cons (Q81.ent_ok N) .nil)))))⟩
theorem Q82.spec (N:Nat)(r:Bool)(h:Q82.f N=some r):lA Tryz.prog 4 [] [] (.c (.bool r)) ([]):=vA (Q82.env N) dA Tryz.func4 eA.n ((Q82.f_eq ..).trans h) fun v b e=>by unfold Q82.dec at e;split at e<;>cases e;exact⟨rfl,rfl⟩
theorem Q82.ent_ok (N:Nat):uA Tryz.prog 4 (Q82.ent N):=zA fun v a e h=>by split at h;exact lC (Q:=fun e=>lA _ _ _ _ (e a).pick.1 (e a).pick.2) h fun k=>Q82.spec N a k;cases h
noncomputable def Tm:TI:=⟨.map 36 3,1,8,[.map none]⟩
noncomputable def Tn:TI:=⟨.map 36 4,1,8,[.map none]⟩
theorem Pi:kC Tryz.prog 34 Tm:=nC (by kernel_rfl) (by kernel_rfl) (by kernel_rfl) (by kernel_rfl) (by kernel_rfl) (by kernel_rfl) (by kernel_rfl) (kl Tryz.underlying34 (by kernel_rfl)) (by kernel_rfl)
theorem Pj:kC Tryz.prog 37 Tn:=nC (by kernel_rfl) (by kernel_rfl) (by kernel_rfl) (by kernel_rfl) (by kernel_rfl) (by kernel_rfl) (by kernel_rfl) (kl Tryz.underlying37 (by kernel_rfl)) (by kernel_rfl)
noncomputable def Q83.l18 {R:Type}(N:Nat):Nat→List (List Int)→List Int→Int→Int→Int→List Int→Int→Int→List Int→List (List Int)→List Int→(List (List Int)→List Int→Int→Int→List Int→List (List Int)→List Int→Option R)→(Bool→Option R)→Option R
 |0,_,_,_,_,_,_,_,_,_,_,_,_,_=>none
 |n+1,e,f,g,h,i,b,j,a,k,c,d,l,kr=>
  bif decide (a<j)then
   bif (decide (0≤a))&&(decide (a<(b.length/3:Int)))then
    bif (mD [b.getD (a.toNat*3) 0,b.getD ((a.toNat*3)+1) 0,b.getD ((a.toNat*3)+2) 0] c d) != 0 then
     kr false
    else
    Q83.l18 N n e f g h i b j (aA (a+1)) k (oB [b.getD (a.toNat*3) 0,b.getD ((a.toNat*3)+1) 0,b.getD ((a.toNat*3)+2) 0] c) (iH [b.getD (a.toNat*3) 0,b.getD ((a.toNat*3)+1) 0,b.getD ((a.toNat*3)+2) 0] (aA (g+1)) c d) l kr
   else none
  else
  l e f h i k c d
noncomputable def Q83.l13 {R:Type}(N:Nat):Nat→List (List Int)→List Int→Int→Int→List Int→List (List Int)→List Int→(List (List Int)→List Int→List Int→List (List Int)→List Int→Option R)→(Bool→Option R)→Option R
 |0,_,_,_,_,_,_,_,_,_=>none
 |n+1,b,q,d,a,c,e,f,p,kr=>
  bif decide (a<d)then
   bif (decide (0≤a))&&(decide (a<(b.length:Int)))then
    bif (aA ((((b.getD a.toNat []).length)/3:Int)*(b.length:Int))) != (c.length/3:Int)then
     kr false
    else
    bif (decide (0≤a))&&(decide (a<(b.length:Int)))then
     Q83.l18 N N b q a d a (b.getD a.toNat []) (((b.getD a.toNat []).length)/3:Int) 0 c e f
      (fun g h i j k l m=>
       Q83.l13 N n g h i (aA (j+1)) k l m p kr)
      (fun o=>
       kr o)
    else none
   else none
  else
  p b q c e f
noncomputable def Q83.l27 {R:Type}(N:Nat):Nat→List (List Int)→List Int→Int→Int→List (List Int)→List Int→List (List Int)→List Bool→List Int→(List (List Int)→List Int→List (List Int)→List Bool→Option R)→(Bool→Option R)→Option R
 |0,_,_,_,_,_,_,_,_,_,_,_=>none
 |n+1,g,h,i,b,d,e,f,j,c,k,kr=>
  bif decide (b<i)then
   bif (decide (0≤b))&&(decide (b<(c.length/3:Int)))then
    bif (mD [c.getD (b.toNat*3) 0,c.getD ((b.toNat*3)+1) 0,c.getD ((b.toNat*3)+2) 0] d e)==0 then
     kr false
    else
    (Q54.f N (c.getD (b.toNat*3) 0) (c.getD ((b.toNat*3)+1) 0) (c.getD ((b.toNat*3)+2) 0) 2).bind fun a=>
    bif a.2.2.2 != 0 then
     kr false
    else
    bif (mD [a.1,a.2.1,a.2.2.1] d e) != 1 then
     kr false
    else
    Q83.l27 N n g h i (aA (b+1)) d e (oB [a.1,a.2.1,a.2.2.1] f) (iH [a.1,a.2.1,a.2.2.1] true f j) c k kr
   else none
  else
  k g h f j
noncomputable def Q83.f (N:Nat)(b:Int):Option (Bool):=
 (Q82.f N).bind fun r=>
 bif !r then
  some false
 else
 (Q76.f N b).bind fun c=>
 bif c.2 != 0 then
  (Q59.f N b).bind fun s=>
  some (c.2==s)
 else
 (Q63.f N b).bind fun p=>
 (Q75.f N b).bind fun e=>
 (Q77.f N b).bind fun q=>
 bif p.2 != 0 then
  some false
 else
 bif e.2 != 0 then
  some false
 else
 bif q.2 != 0 then
  some false
 else
 bif (e.1.length:Int)==0 then
  some false
 else
 bif decide (0≤(aA ((e.1.length:Int)-1)))then
  bif (c.1.length:Int) != (aA (1*2^(min (aA ((e.1.length:Int)-1)).toNat 64)))then
   some false
  else
  Q83.l13 N N c.1 q.1 (c.1.length:Int) 0 p.1 [] []
   (fun g h d i j=>
    Q83.l27 N N g h (d.length/3:Int) 0 i j [] [] d
     (fun a k l t=>
      bif decide (0<(a.length:Int))then
       bif (l.length:Int)==(((a.getD 0 []).length)/3:Int)then
        bif decide (0<(a.length:Int))then
         (Q79.f N k (a.getD 0 [])).bind fun f=>
         some f
        else none
       else
       some false
      else none)
     (fun m=>
      some m))
   (fun o=>
    some o)
 else none
noncomputable def Q83.h13:cE:=⟨[(3,.inl .i64 3),(5,.row .i64 3),(8,.il .i64 3),(10,.any),(73,.any),(74,.any)],[(3,.inl .i64 3),(5,.row .i64 3),(8,.il .i64 3),(10,.any)]⟩
noncomputable def Q83.h18:cE:=⟨[(3,.inl .i64 3),(5,.row .i64 3),(8,.il .i64 3),(10,.any),(11,.any),(73,.any),(74,.any),(91,.il .i64 3),(92,.any),(93,.any)],[(3,.inl .i64 3),(5,.row .i64 3),(8,.il .i64 3),(10,.any),(73,.any),(74,.any)]⟩
noncomputable def Q83.h27:cE:=⟨[(3,.inl .i64 3),(8,.il .i64 3),(10,.any),(14,.any),(108,.row .i64 3),(109,.any),(110,.any)],[(3,.inl .i64 3),(8,.il .i64 3),(14,.any)]⟩
noncomputable def Q83.c18 (N:Nat):tK:=⟨fun vs H k=>match vs,H with
 | [.inl .i64 3 a,.sw 0 3,.il .i64 3 b,.mref 1,.c (.int .i64 c),.c (.int .i64 d),.c (.int .i64 e),.il .i64 3 f,.c (.int .i64 g),.c (.int .i64 h)],[.ints .i64 i,.mp .i64 3 j (.ints .i64 l)]=>Q83.l18 N N a b c d e f g h i j l (fun o p q r s t u=>k (.exit 2) ⟨iE Q83.h18.out [.inl .i64 3 o,.sw 0 3,.il .i64 3 p,.mref 1,.c (.int .i64 q),.c (.int .i64 r)],[.ints .i64 s,.mp .i64 3 t (.ints .i64 u)]⟩) (fun m=>k (.ret (.c (.bool m)) []) .nil)
 |_,_=>none⟩
noncomputable def Q83.c13 (N:Nat):tK:=⟨fun vs H k=>match vs,H with
 | [.inl .i64 3 m,.sw 0 3,.il .i64 3 o,.mref 1,.c (.int .i64 a),.c (.int .i64 b)],[.ints .i64 c,.mp .i64 3 d (.ints .i64 e)]=>Q83.l13 N N m o a b c d e (fun g h i j l=>k (.exit 0) ⟨iE Q83.h13.out [.inl .i64 3 g,.sw 0 3,.il .i64 3 h,.mref 1],[.ints .i64 i,.mp .i64 3 j (.ints .i64 l)]⟩) (fun f=>k (.ret (.c (.bool f)) []) .nil)
 |_,_=>none⟩
noncomputable def Q83.c27 (N:Nat):tK:=⟨fun vs H k=>match vs,H with
 | [.inl .i64 3 a,.il .i64 3 b,.mref 0,.mref 1,.sw 2 3,.c (.int .i64 c),.c (.int .i64 d)],[.mp .i64 3 e (.ints .i64 f),.mp .i64 3 g (.bools h),.ints .i64 i]=>Q83.l27 N N a b c d e f g h i (fun l m o p=>k (.exit 4) ⟨iE Q83.h27.out [.inl .i64 3 l,.il .i64 3 m,.mref 0],[.mp .i64 3 o (.bools p)]⟩) (fun j=>k (.ret (.c (.bool j)) []) .nil)
 |_,_=>none⟩
noncomputable def Q83.E (N:Nat):yC:=dF [(2,iR),(3,Bo),(4,Bp),(23,vo),(28,qh),(31,al),(34,Tm),(36,sK),(37,Tn)] [(4,Q82.ent N),(5,Q76.ent N),(6,Q59.ent N),(7,Q63.ent N),(8,Q75.ent N),(9,Q77.ent N),(10,Q54.ent N),(11,Q79.ent N)] [(13,Q83.h13),(18,Q83.h18),(27,Q83.h27)] [(18,Q83.c18 N),(13,Q83.c13 N),(27,Q83.c27 N)] N [.tmp 2] [.any] 0 148
noncomputable def Q83.b18:Code:=bB ((jA (bo Tryz.f3)).getD 1 .skip)
theorem Q83.l18_eq {R:Type}(N n:Nat)(a:List (List Int))(b:List Int)(c d e:Int)(f:List Int)(g h:Int)(i:List Int)(j:List (List Int))(l:List Int)(k:Ex→St→Option R):
  vB 0 Q83.h18 (fun s k=>kB (Q83.E N) 378 Q83.b18 s k) n [.inl .i64 3 a,.sw 0 3,.il .i64 3 b,.mref 1,.c (.int .i64 c),.c (.int .i64 d),.c (.int .i64 e),.il .i64 3 f,.c (.int .i64 g),.c (.int .i64 h)] [.ints .i64 i,.mp .i64 3 j (.ints .i64 l)] k=Q83.l18 N n a b c d e f g h i j l (fun o p q r t u v=>k (.exit 2) ⟨iE Q83.h18.out [.inl .i64 3 o,.sw 0 3,.il .i64 3 p,.mref 1,.c (.int .i64 q),.c (.int .i64 r)],[.ints .i64 t,.mp .i64 3 u (.ints .i64 v)]⟩) (fun m=>k (.ret (.c (.bool m)) []) .nil):=by
 induction n generalizing a b c d e f g h i j l with
 |zero=>kernel_rfl
 |succ n ih=>
  simp only[Q83.l18,←ih]
  kernel_rfl
noncomputable def Q83.b13:Code:=bB ((jA (bo Tryz.f3)).getD 0 .skip)
theorem Q83.l13_eq {R:Type}(N n:Nat)(m:List (List Int))(o:List Int)(a b:Int)(c:List Int)(d:List (List Int))(e:List Int)(k:Ex→St→Option R):
  vB 0 Q83.h13 (fun s k=>kB (Q83.E N) 387 Q83.b13 s k) n [.inl .i64 3 m,.sw 0 3,.il .i64 3 o,.mref 1,.c (.int .i64 a),.c (.int .i64 b)] [.ints .i64 c,.mp .i64 3 d (.ints .i64 e)] k=Q83.l13 N n m o a b c d e (fun g h i j l=>k (.exit 0) ⟨iE Q83.h13.out [.inl .i64 3 g,.sw 0 3,.il .i64 3 h,.mref 1],[.ints .i64 i,.mp .i64 3 j (.ints .i64 l)]⟩) (fun f=>k (.ret (.c (.bool f)) []) .nil):=by
 induction n generalizing m o a b c d e with
 |zero=>kernel_rfl
 |succ n ih=>
  simp only[Q83.l13,←ih]
  kernel_rfl
noncomputable def Q83.b27:Code:=bB ((jA (bo Tryz.f3)).getD 2 .skip)
theorem Q83.l27_eq {R:Type}(N n:Nat)(a:List (List Int))(b:List Int)(c d:Int)(e:List (List Int))(f:List Int)(g:List (List Int))(h:List Bool)(i:List Int)(k:Ex→St→Option R):
  vB 0 Q83.h27 (fun s k=>kB (Q83.E N) 385 Q83.b27 s k) n [.inl .i64 3 a,.il .i64 3 b,.mref 0,.mref 1,.sw 2 3,.c (.int .i64 c),.c (.int .i64 d)] [.mp .i64 3 e (.ints .i64 f),.mp .i64 3 g (.bools h),.ints .i64 i] k=Q83.l27 N n a b c d e f g h i (fun l m o p=>k (.exit 4) ⟨iE Q83.h27.out [.inl .i64 3 l,.il .i64 3 m,.mref 0],[.mp .i64 3 o (.bools p)]⟩) (fun j=>k (.ret (.c (.bool j)) []) .nil):=by
 induction n generalizing a b c d e f g h i with
 |zero=>kernel_rfl
 |succ n ih=>
  simp only[Q83.l27,←ih]
  kernel_rfl
noncomputable def Q83.dec (v:V)(bs:List qA):Option (Bool):=match v,bs with
 | .c (.bool a),[]=>some a
 |_,_=>none
theorem Q83.f_eq (N:Nat)(a:Int):
  eB (Q83.E N) (bo Tryz.f3) [.c (.int .i64 a)] [] Q83.dec=Q83.f N a:=by kernel_rfl
theorem Q83.env (N:Nat):dB Tryz.prog (Q83.E N):=⟨(.cons aD (.cons jJ (.cons kJ (.cons zP (.cons oN (.cons pJ (.cons Pi (.cons tD (.cons Pj .nil))))))))),(.cons (Q82.ent_ok N) (.cons (Q76.ent_ok N) (.cons (Q59.ent_ok N) (.cons (Q63.ent_ok N) (.cons (Q75.ent_ok N) (.cons (Q77.ent_ok N) (.cons (Q54.ent_ok N) (.cons (Q79.ent_ok N) .nil))))))))⟩
theorem Q83.k27 (N:Nat):qC Tryz.prog Tryz.f3 (Q83.E N) (.loop Q83.b27):=vD (Q83.env N) dA 385 (c:=Q83.c27 N) eA.n fun R vs H k r h=>by unfold Q83.c27 at h;dsimp only at h;split at h;exact⟨_,Q83.l27_eq .. ▸h⟩;cases h
theorem Q83.k18 (N:Nat):qC Tryz.prog Tryz.f3 (Q83.E N) (.loop Q83.b18):=vD (Q83.env N) dA 378 (c:=Q83.c18 N) eA.n fun R vs H k r h=>by unfold Q83.c18 at h;dsimp only at h;split at h;exact⟨_,Q83.l18_eq .. ▸h⟩;cases h
theorem Q83.k13 (N:Nat):qC Tryz.prog Tryz.f3 (Q83.E N) (.loop Q83.b13):=vD (Q83.env N) dA 387 (c:=Q83.c13 N) (eA.of (l:=[(.loop (bB ((jA (bo Tryz.f3)).getD 1 .skip)))]) (by kernel_rfl) (eA.cons (Q83.k18 N) eA.nil)) fun R vs H k r h=>by unfold Q83.c13 at h;dsimp only at h;split at h;exact⟨_,Q83.l13_eq .. ▸h⟩;cases h
theorem Q83.spec (N:Nat)(a:Int)(r:Bool)(h:Q83.f N a=some r):lA Tryz.prog 3 [.c (.int .i64 a)] [] (.c (.bool r)) ([]):=vA (Q83.env N) dA Tryz.func3 (eA.of (l:=[(.loop (bB ((jA (bo Tryz.f3)).getD 0 .skip))),(.loop (bB ((jA (bo Tryz.f3)).getD 1 .skip))),(.loop (bB ((jA (bo Tryz.f3)).getD 2 .skip)))]) (by kernel_rfl) (eA.cons (Q83.k13 N) (eA.cons (Q83.k18 N) (eA.cons (Q83.k27 N) eA.nil)))) ((Q83.f_eq ..).trans h) fun v b e=>by unfold Q83.dec at e;split at e<;>cases e;exact⟨rfl,rfl⟩
end Go.Proofs.YteaakcmkpacpaaaGreat
