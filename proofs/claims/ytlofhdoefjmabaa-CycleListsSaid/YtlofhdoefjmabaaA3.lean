import Derived.Test.YtlofhdoefjmabaaA2
import Derived.Test.YtlofhdoefjmabaaProg
import Derived.KernelRfl
import Derived.Shelf.SlSortCmp.NoneTotal
import Derived.Shelf.SlGeneric
open Array renaming getElem?_append_left→hA,eq_empty_of_size_eq_zero→hB,getElem?_modify→hI
open Bool renaming not_eq_false'→hC
open List renaming pairwise_cons→hE,length_cons→hF,getElem?_cons_succ→hG
set_option linter.unusedVariables false
set_option linter.unusedSimpArgs false
namespace Go.Proofs.Ytlofhdoefjmabaa
open Go.Proofs.Ytlofhdoefjmabaa.Ev
open Go
set_option maxRecDepth 100000
def qE:ByteArray:=⟨#[0,1,2,2,3,3,3,3,4,4,4,4,4,4,4,4,5,5,5,5,5,5,5,5,5,5,5,5,5,5,5,5,6,6,6,6,6,6,6,6,6,6,6,6,6,6,6,6,6,6,6,6,6,6,6,6,6,6,6,6,6,6,6,6,7,7,7,7,7,7,7,7,7,7,7,7,7,7,7,7,7,7,7,7,7,7,7,7,7,7,7,7,7,7,7,7,7,7,7,7,7,7,7,7,7,7,7,7,7,7,7,7,7,7,7,7,7,7,7,7,7,7,7,7,7,7,7,7,8,8,8,8,8,8,8,8,8,8,8,8,8,8,8,8,8,8,8,8,8,8,8,8,8,8,8,8,8,8,8,8,8,8,8,8,8,8,8,8,8,8,8,8,8,8,8,8,8,8,8,8,8,8,8,8,8,8,8,8,8,8,8,8,8,8,8,8,8,8,8,8,8,8,8,8,8,8,8,8,8,8,8,8,8,8,8,8,8,8,8,8,8,8,8,8,8,8,8,8,8,8,8,8,8,8,8,8,8,8,8,8,8,8,8,8,8,8,8,8,8,8,8,8,8,8,8,8]⟩
noncomputable def bS:TI:=⟨.int .i64,1,8,[.int .i64 0]⟩
noncomputable def kh:TI:=⟨.int .i64,1,8,[.int .i64 0]⟩
noncomputable def lx:TI:=⟨.bool,1,1,[.bool false]⟩
noncomputable def mq:TI:=⟨.int .u8,1,1,[.int .u8 0]⟩
noncomputable def mr:TI:=⟨.str,1,16,[.string ByteArray.empty]⟩
noncomputable def lG:TI:=⟨.struct [(2,0),(2,1),(2,2)],3,24,[.int .i64 0,.int .i64 0,.int .i64 0]⟩
noncomputable def eV:TI:=⟨.slice 23,1,24,[.slice none 0 0]⟩
noncomputable def kX:TI:=⟨.struct [(2,0),(2,1),(2,2),(2,3)],4,32,[.int .i64 0,.int .i64 0,.int .i64 0,.int .i64 0]⟩
noncomputable def jy:TI:=⟨.map 23 4,1,8,[.map none]⟩
noncomputable def gv:TI:=⟨.arr 3 2,3,24,[.int .i64 0,.int .i64 0,.int .i64 0]⟩
noncomputable def ia:TI:=⟨.int .u64,1,8,[.int .u64 0]⟩
theorem lA:Try.prog.follows .mixedOrders=true:=by kernel_rfl
theorem cD:oC Try.prog 2 bS:=lD (by kernel_rfl) (by kernel_rfl) (by kernel_rfl) (by kernel_rfl) (by kernel_rfl) (by kernel_rfl) (by kernel_rfl) (Try.underlying2) (by kernel_rfl)
theorem xY:oC Try.prog 3 kh:=lD (by kernel_rfl) (by kernel_rfl) (by kernel_rfl) (by kernel_rfl) (by kernel_rfl) (by kernel_rfl) (by kernel_rfl) (Try.underlying3) (by kernel_rfl)
theorem db:oC Try.prog 4 lx:=lD (by kernel_rfl) (by kernel_rfl) (by kernel_rfl) (by kernel_rfl) (by kernel_rfl) (by kernel_rfl) (by kernel_rfl) (Try.underlying4) (by kernel_rfl)
theorem gz:oC Try.prog 5 mq:=lD (by kernel_rfl) (by kernel_rfl) (by kernel_rfl) (by kernel_rfl) (by kernel_rfl) (by kernel_rfl) (by kernel_rfl) (Try.underlying5) (by kernel_rfl)
theorem ic:oC Try.prog 9 mr:=lD (by kernel_rfl) (by kernel_rfl) (by kernel_rfl) (by kernel_rfl) (by kernel_rfl) (by kernel_rfl) (by kernel_rfl) (Try.underlying9) (by kernel_rfl)
theorem eC:oC Try.prog 23 lG:=lD (by kernel_rfl) (by kernel_rfl) (by kernel_rfl) (by kernel_rfl) (by kernel_rfl) (by kernel_rfl) (by kernel_rfl) (pT Try.underlying23 (by kernel_rfl) (by kernel_rfl)) (by kernel_rfl)
theorem tH:oC Try.prog 24 eV:=lD (by kernel_rfl) (by kernel_rfl) (by kernel_rfl) (by kernel_rfl) (by kernel_rfl) (by kernel_rfl) (by kernel_rfl) (Try.underlying24) (by kernel_rfl)
theorem dJ:oC Try.prog 35 kX:=lD (by kernel_rfl) (by kernel_rfl) (by kernel_rfl) (by kernel_rfl) (by kernel_rfl) (by kernel_rfl) (by kernel_rfl) (pT Try.underlying35 (by kernel_rfl) (by kernel_rfl)) (by kernel_rfl)
theorem eu:oC Try.prog 44 jy:=lD (by kernel_rfl) (by kernel_rfl) (by kernel_rfl) (by kernel_rfl) (by kernel_rfl) (by kernel_rfl) (by kernel_rfl) (gu Try.underlying44 (by kernel_rfl)) (by kernel_rfl)
theorem u4:oC Try.prog 57 gv:=lD (by kernel_rfl) (by kernel_rfl) (by kernel_rfl) (by kernel_rfl) (by kernel_rfl) (by kernel_rfl) (by kernel_rfl) (Try.underlying57) (by kernel_rfl)
theorem x4:oC Try.prog 70 ia:=lD (by kernel_rfl) (by kernel_rfl) (by kernel_rfl) (by kernel_rfl) (by kernel_rfl) (by kernel_rfl) (by kernel_rfl) (Try.underlying70) (by kernel_rfl)
noncomputable def Q0.f (N:Nat)(a:Int):Option (Int):=
 bif decide (a≥4294967296)then
  bif decide ((Int.fdiv a (2^32))≥65536)then
   bif decide ((Int.fdiv (Int.fdiv a (2^32)) (2^16))≥256)then
    bif (decide (0≤(eL (Int.fdiv (Int.fdiv (Int.fdiv a (2^32)) (2^16)) (2^8)))))&&(decide ((eL (Int.fdiv (Int.fdiv (Int.fdiv a (2^32)) (2^16)) (2^8)))<(qE.size:Int)))then
     some (aA (56+(aA (xC qE ((eL (Int.fdiv (Int.fdiv (Int.fdiv a (2^32)) (2^16)) (2^8))).toNat)))))
    else none
   else
   bif (decide (0≤(eL (Int.fdiv (Int.fdiv a (2^32)) (2^16)))))&&(decide ((eL (Int.fdiv (Int.fdiv a (2^32)) (2^16)))<(qE.size:Int)))then
    some (aA (48+(aA (xC qE ((eL (Int.fdiv (Int.fdiv a (2^32)) (2^16))).toNat)))))
   else none
  else
  bif decide ((Int.fdiv a (2^32))≥256)then
   bif (decide (0≤(eL (Int.fdiv (Int.fdiv a (2^32)) (2^8)))))&&(decide ((eL (Int.fdiv (Int.fdiv a (2^32)) (2^8)))<(qE.size:Int)))then
    some (aA (40+(aA (xC qE ((eL (Int.fdiv (Int.fdiv a (2^32)) (2^8))).toNat)))))
   else none
  else
  bif (decide (0≤(eL (Int.fdiv a (2^32)))))&&(decide ((eL (Int.fdiv a (2^32)))<(qE.size:Int)))then
   some (aA (32+(aA (xC qE ((eL (Int.fdiv a (2^32))).toNat)))))
  else none
 else
 bif decide (a≥65536)then
  bif decide ((Int.fdiv a (2^16))≥256)then
   bif (decide (0≤(eL (Int.fdiv (Int.fdiv a (2^16)) (2^8)))))&&(decide ((eL (Int.fdiv (Int.fdiv a (2^16)) (2^8)))<(qE.size:Int)))then
    some (aA (24+(aA (xC qE ((eL (Int.fdiv (Int.fdiv a (2^16)) (2^8))).toNat)))))
   else none
  else
  bif (decide (0≤(eL (Int.fdiv a (2^16)))))&&(decide ((eL (Int.fdiv a (2^16)))<(qE.size:Int)))then
   some (aA (16+(aA (xC qE ((eL (Int.fdiv a (2^16))).toNat)))))
  else none
 else
 bif decide (a≥256)then
  bif (decide (0≤(eL (Int.fdiv a (2^8)))))&&(decide ((eL (Int.fdiv a (2^8)))<(qE.size:Int)))then
   some (aA (8+(aA (xC qE ((eL (Int.fdiv a (2^8))).toNat)))))
  else none
 else
 bif (decide (0≤(eL a)))&&(decide ((eL a)<(qE.size:Int)))then
  some (aA (0+(aA (xC qE ((eL a).toNat)))))
 else none
noncomputable def Q0.E (N:Nat):nD:=xK [(3,kh),(5,mq),(9,mr),(70,ia)] [] [] [] N [.tmp 2] [.any] 0 25
noncomputable def Q0.dec (v:V)(bs:List jA):Option (Int):=match v,bs with
 | .c (.int .i64 a),[]=>some a
 |_,_=>none
theorem Q0.f_eq (N:Nat)(a:Int):
  iC (Q0.E N) (bo Try.f51) [.c (.int .u64 a)] [] Q0.dec=Q0.f N a:=by kernel_rfl
noncomputable def Q0.ent (N:Nat):jB:=oK (Int) 0 [true] [.any] fun
 | [.c (.int .u64 a)]=>some (Q0.f N a,fun r=>.one (.c (.int .i64 r)) [])
 |_=>none
theorem Q0.env (N:Nat):wB Try.prog (Q0.E N):=⟨(.cons xY (.cons gz (.cons ic (.cons x4 .nil)))),.nil⟩
theorem Q0.spec (N:Nat)(a r:Int)(h:Q0.f N a=some r):nA Try.prog 51 [.c (.int .u64 a)] [] (.c (.int .i64 r)) ([]):=sB (Q0.env N) lA Try.func51 iA.n ((Q0.f_eq ..).trans h) fun v b e=>by unfold Q0.dec at e;split at e<;>cases e;exact⟨rfl,rfl⟩
theorem Q0.ent_ok (N:Nat):pB Try.prog 51 (Q0.ent N):=uB fun v a e h=>by split at h;exact lE (Q:=fun e=>nA _ _ _ _ (e a).pick.1 (e a).pick.2) h fun k=>Q0.spec N _ a k;cases h
noncomputable def Q1.l4 {R:Type}(N:Nat):Nat→Int→Int→(Int→Option R)→Option R
 |0,_,_,_=>none
 |n+1,b,a,kr=>
  bif !(a==0)then
   bif decide ((aA (Int.tdiv (aA (a+(aA (Int.tdiv b a)))) 2))≥a)then
    kr a
   else
   Q1.l4 N n b (aA (Int.tdiv (aA (a+(aA (Int.tdiv b a)))) 2)) kr
  else none
noncomputable def Q1.f (N:Nat)(a:Int):Option (Int):=
 bif a==0 then
  some 0
 else
 (Q0.f N (ij a)).bind fun b=>
 bif decide (0≤(aA (Int.tdiv (aA (b+1)) 2)))then
  Q1.l4 N N a (aA (1*2^(min (aA (Int.tdiv (aA (b+1)) 2)).toNat 64)))
   (fun c=>
    some c)
 else none
noncomputable def Q1.h4:fE:=⟨[(0,.any),(3,.any)],[]⟩
noncomputable def Q1.c4 (N:Nat):uO:=⟨fun vs H k=>match vs,H with
 | [.c (.int .i64 a),.c (.int .i64 b)],[]=>Q1.l4 N N a b (fun c=>k (.ret (.c (.int .i64 c)) []) .nil)
 |_,_=>none⟩
noncomputable def Q1.E (N:Nat):nD:=xK [(2,bS),(70,ia)] [(51,Q0.ent N)] [(4,Q1.h4)] [(4,Q1.c4 N)] N [.tmp 2] [.any] 0 24
noncomputable def Q1.b4:Code:=cB ((fA (bo Try.f40)).getD 0 .skip)
theorem Q1.l4_eq {R:Type}(N n:Nat)(a b:Int)(k:Ex→St→Option R):
  jC 0 Q1.h4 (fun s k=>mB (Q1.E N) 395 Q1.b4 s k) n [.c (.int .i64 a),.c (.int .i64 b)] [] k=Q1.l4 N n a b (fun c=>k (.ret (.c (.int .i64 c)) []) .nil):=by
 induction n generalizing a b with
 |zero=>kernel_rfl
 |succ n ih=>
  simp only[Q1.l4,←ih]
  kernel_rfl
noncomputable def Q1.dec (v:V)(bs:List jA):Option (Int):=match v,bs with
 | .c (.int .i64 a),[]=>some a
 |_,_=>none
theorem Q1.f_eq (N:Nat)(a:Int):
  iC (Q1.E N) (bo Try.f40) [.c (.int .i64 a)] [] Q1.dec=Q1.f N a:=by kernel_rfl
noncomputable def Q1.ent (N:Nat):jB:=oK (Int) 0 [true] [.any] fun
 | [.c (.int .i64 a)]=>some (Q1.f N a,fun r=>.one (.c (.int .i64 r)) [])
 |_=>none
theorem Q1.env (N:Nat):wB Try.prog (Q1.E N):=⟨(.cons cD (.cons x4 .nil)),(.cons (Q0.ent_ok N) .nil)⟩
theorem Q1.k4 (N:Nat):dD Try.prog Try.f40 (Q1.E N) (.loop Q1.b4):=vH (Q1.env N) lA 395 (c:=Q1.c4 N) iA.n fun R vs H k r h=>by unfold Q1.c4 at h;dsimp only at h;split at h;exact⟨_,Q1.l4_eq .. ▸h⟩;cases h
theorem Q1.spec (N:Nat)(a r:Int)(h:Q1.f N a=some r):nA Try.prog 40 [.c (.int .i64 a)] [] (.c (.int .i64 r)) ([]):=sB (Q1.env N) lA Try.func40 (iA.of (l:=[(.loop (cB ((fA (bo Try.f40)).getD 0 .skip)))]) (by kernel_rfl) (iA.cons (Q1.k4 N) iA.nil)) ((Q1.f_eq ..).trans h) fun v b e=>by unfold Q1.dec at e;split at e<;>cases e;exact⟨rfl,rfl⟩
theorem Q1.ent_ok (N:Nat):pB Try.prog 40 (Q1.ent N):=uB fun v a e h=>by split at h;exact lE (Q:=fun e=>nA _ _ _ _ (e a).pick.1 (e a).pick.2) h fun k=>Q1.spec N _ a k;cases h
noncomputable def Q2.f (N:Nat)(a:Int):Option (Int):=
 some (kf a (aA (0-a)))
noncomputable def Q2.E (N:Nat):nD:=xK [] [] [] [] N [.tmp 2] [.any] 0 7
noncomputable def Q2.dec (v:V)(bs:List jA):Option (Int):=match v,bs with
 | .c (.int .i64 a),[]=>some a
 |_,_=>none
theorem Q2.f_eq (N:Nat)(a:Int):
  iC (Q2.E N) (bo Try.f50) [.c (.int .i64 a)] [] Q2.dec=Q2.f N a:=by kernel_rfl
noncomputable def Q2.ent (N:Nat):jB:=oK (Int) 0 [true] [.any] fun
 | [.c (.int .i64 a)]=>some (Q2.f N a,fun r=>.one (.c (.int .i64 r)) [])
 |_=>none
theorem Q2.env (N:Nat):wB Try.prog (Q2.E N):=⟨.nil,.nil⟩
theorem Q2.spec (N:Nat)(a r:Int)(h:Q2.f N a=some r):nA Try.prog 50 [.c (.int .i64 a)] [] (.c (.int .i64 r)) ([]):=sB (Q2.env N) lA Try.func50 iA.n ((Q2.f_eq ..).trans h) fun v b e=>by unfold Q2.dec at e;split at e<;>cases e;exact⟨rfl,rfl⟩
theorem Q2.ent_ok (N:Nat):pB Try.prog 50 (Q2.ent N):=uB fun v a e h=>by split at h;exact lE (Q:=fun e=>nA _ _ _ _ (e a).pick.1 (e a).pick.2) h fun k=>Q2.spec N _ a k;cases h
noncomputable def Q3.f (N:Nat)(b a c:Int):Option (Int):=
 some (aA ((aA (a*a))- (aA ((aA (4*b))*c))))
noncomputable def Q3.E (N:Nat):nD:=xK [(2,bS),(23,lG)] [] [] [] N [.tmp 2] [.any] 0 15
noncomputable def Q3.dec (v:V)(bs:List jA):Option (Int):=match v,bs with
 | .c (.int .i64 a),[]=>some a
 |_,_=>none
theorem Q3.f_eq (N:Nat)(a b c:Int):
  iC (Q3.E N) (bo Try.f34) [.agg [.c (.int .i64 a),.c (.int .i64 b),.c (.int .i64 c)]] [] Q3.dec=Q3.f N a b c:=by kernel_rfl
noncomputable def Q3.ent (N:Nat):jB:=oK (Int) 0 [true] [.recd [.any,.any,.any]] fun
 | [.agg [.c (.int .i64 a),.c (.int .i64 b),.c (.int .i64 c)]]=>some (Q3.f N a b c,fun r=>.one (.c (.int .i64 r)) [])
 |_=>none
theorem Q3.env (N:Nat):wB Try.prog (Q3.E N):=⟨(.cons cD (.cons eC .nil)),.nil⟩
theorem Q3.spec (N:Nat)(a c d r:Int)(h:Q3.f N a c d=some r):nA Try.prog 34 [.agg [.c (.int .i64 a),.c (.int .i64 c),.c (.int .i64 d)]] [] (.c (.int .i64 r)) ([]):=sB (Q3.env N) lA Try.func34 iA.n ((Q3.f_eq ..).trans h) fun v b e=>by unfold Q3.dec at e;split at e<;>cases e;exact⟨rfl,rfl⟩
theorem Q3.ent_ok (N:Nat):pB Try.prog 34 (Q3.ent N):=uB fun v a e h=>by split at h;exact lE (Q:=fun e=>nA _ _ _ _ (e a).pick.1 (e a).pick.2) h fun k=>Q3.spec N _ _ _ a k;cases h
noncomputable def Q4.f (N:Nat)(a:Int):Option (Bool):=
 bif decide (a<1)then
  some false
 else
 bif decide (a≥1152921504606846976)then
  some false
 else
 bif decide ((Int.tmod a 4)>1)then
  some false
 else
 (Q1.f N a).bind fun b=>
 some ((aA (b*b)) != a)
noncomputable def Q4.E (N:Nat):nD:=xK [] [(40,Q1.ent N)] [] [] N [.tmp 2] [.any] 0 22
noncomputable def Q4.dec (v:V)(bs:List jA):Option (Bool):=match v,bs with
 | .c (.bool a),[]=>some a
 |_,_=>none
theorem Q4.f_eq (N:Nat)(a:Int):
  iC (Q4.E N) (bo Try.f38) [.c (.int .i64 a)] [] Q4.dec=Q4.f N a:=by kernel_rfl
noncomputable def Q4.ent (N:Nat):jB:=oK (Bool) 0 [true] [.any] fun
 | [.c (.int .i64 a)]=>some (Q4.f N a,fun r=>.one (.c (.bool r)) [])
 |_=>none
theorem Q4.env (N:Nat):wB Try.prog (Q4.E N):=⟨.nil,(.cons (Q1.ent_ok N) .nil)⟩
theorem Q4.spec (N:Nat)(a:Int)(r:Bool)(h:Q4.f N a=some r):nA Try.prog 38 [.c (.int .i64 a)] [] (.c (.bool r)) ([]):=sB (Q4.env N) lA Try.func38 iA.n ((Q4.f_eq ..).trans h) fun v b e=>by unfold Q4.dec at e;split at e<;>cases e;exact⟨rfl,rfl⟩
theorem Q4.ent_ok (N:Nat):pB Try.prog 38 (Q4.ent N):=uB fun v a e h=>by split at h;exact lE (Q:=fun e=>nA _ _ _ _ (e a).pick.1 (e a).pick.2) h fun k=>Q4.spec N _ a k;cases h
noncomputable def Q5.f (N:Nat)(a b c:Int):Option (Int):=
 bif decide (a<(-1073741824))then
  some 3
 else
 bif decide (a>1073741824)then
  some 3
 else
 bif decide (b<(-1073741824))then
  some 3
 else
 bif decide (b>1073741824)then
  some 3
 else
 bif decide (c<(-1073741824))then
  some 3
 else
 bif decide (c>1073741824)then
  some 3
 else
 (Q3.f N a b c).bind fun d=>
 (Q4.f N d).bind fun e=>
 bif !e then
  some 80
 else
 some 0
noncomputable def Q5.h2:fE:=⟨[(1,.box [.any,.any,.any]),(11,.recd [.any,.any,.any]),(12,.any)],[(1,.any)]⟩
noncomputable def Q5.E (N:Nat):nD:=xK [(2,bS),(23,lG),(57,gv)] [(34,Q3.ent N),(38,Q4.ent N)] [(2,Q5.h2)] [] 40 [.tmp 2] [.any] 0 26
noncomputable def Q5.dec (v:V)(bs:List jA):Option (Int):=match v,bs with
 | .c (.int .i64 a),[]=>some a
 |_,_=>none
theorem Q5.f_eq (N:Nat)(a b c:Int):
  iC (Q5.E N) (bo Try.f17) [.agg [.c (.int .i64 a),.c (.int .i64 b),.c (.int .i64 c)]] [] Q5.dec=Q5.f N a b c:=by kernel_rfl
noncomputable def Q5.ent (N:Nat):jB:=oK (Int) 0 [true] [.recd [.any,.any,.any]] fun
 | [.agg [.c (.int .i64 a),.c (.int .i64 b),.c (.int .i64 c)]]=>some (Q5.f N a b c,fun r=>.one (.c (.int .i64 r)) [])
 |_=>none
theorem Q5.env (N:Nat):wB Try.prog (Q5.E N):=⟨(.cons cD (.cons eC (.cons u4 .nil))),(.cons (Q3.ent_ok N) (.cons (Q4.ent_ok N) .nil))⟩
theorem Q5.spec (N:Nat)(a c d r:Int)(h:Q5.f N a c d=some r):nA Try.prog 17 [.agg [.c (.int .i64 a),.c (.int .i64 c),.c (.int .i64 d)]] [] (.c (.int .i64 r)) ([]):=sB (Q5.env N) lA Try.func17 (iA.of (l:=[(.loop (cB ((fA (bo Try.f17)).getD 0 .skip)))]) (by kernel_rfl) (iA.cons (xL (by kernel_rfl)) iA.nil)) ((Q5.f_eq ..).trans h) fun v b e=>by unfold Q5.dec at e;split at e<;>cases e;exact⟨rfl,rfl⟩
theorem Q5.ent_ok (N:Nat):pB Try.prog 17 (Q5.ent N):=uB fun v a e h=>by split at h;exact lE (Q:=fun e=>nA _ _ _ _ (e a).pick.1 (e a).pick.2) h fun k=>Q5.spec N _ _ _ a k;cases h
noncomputable def Q6.f (N:Nat)(d a e b:Int):Option (Bool):=
 (Q2.f N d).bind fun c=>
 bif decide (a≥1)then
  bif decide (a≤b)then
   bif decide (b<(aA (a+(aA (2*c)))))then
    some (decide ((aA ((aA (2*c))-a))≤b))
   else
   some false
  else
  some false
 else
 some false
noncomputable def Q6.E (N:Nat):nD:=xK [(2,bS),(23,lG)] [(50,Q2.ent N)] [] [] N [.tmp 4] [.any] 0 35
noncomputable def Q6.dec (v:V)(bs:List jA):Option (Bool):=match v,bs with
 | .c (.bool a),[]=>some a
 |_,_=>none
theorem Q6.f_eq (N:Nat)(a b c d:Int):
  iC (Q6.E N) (bo Try.f41) [.agg [.c (.int .i64 a),.c (.int .i64 b),.c (.int .i64 c)],.c (.int .i64 d)] [] Q6.dec=Q6.f N a b c d:=by kernel_rfl
noncomputable def Q6.ent (N:Nat):jB:=oK (Bool) 0 [true,true] [.recd [.any,.any,.any],.any] fun
 | [.agg [.c (.int .i64 a),.c (.int .i64 b),.c (.int .i64 c)],.c (.int .i64 d)]=>some (Q6.f N a b c d,fun r=>.one (.c (.bool r)) [])
 |_=>none
theorem Q6.env (N:Nat):wB Try.prog (Q6.E N):=⟨(.cons cD (.cons eC .nil)),(.cons (Q2.ent_ok N) .nil)⟩
theorem Q6.spec (N:Nat)(a c d f:Int)(r:Bool)(h:Q6.f N a c d f=some r):nA Try.prog 41 [.agg [.c (.int .i64 a),.c (.int .i64 c),.c (.int .i64 d)],.c (.int .i64 f)] [] (.c (.bool r)) ([]):=sB (Q6.env N) lA Try.func41 iA.n ((Q6.f_eq ..).trans h) fun v b e=>by unfold Q6.dec at e;split at e<;>cases e;exact⟨rfl,rfl⟩
theorem Q6.ent_ok (N:Nat):pB Try.prog 41 (Q6.ent N):=uB fun v a e h=>by split at h;exact lE (Q:=fun e=>nA _ _ _ _ (e a).pick.1 (e a).pick.2) h fun k=>Q6.spec N _ _ _ _ a k;cases h
noncomputable def Q7.f (N:Nat)(a b c:Int):Option (Bool):=
 (Q5.f N a b c).bind fun d=>
 bif d==0 then
  (Q3.f N a b c).bind fun e=>
  (Q1.f N e).bind fun f=>
  (Q6.f N a b c f).bind fun g=>
  some g
 else
 some false
noncomputable def Q8.f (N:Nat)(f b c e d:Int):Option (Int×Int×Int×Int×Int×Int×Int):=
 (Q2.f N c).bind fun a=>
 bif decide ((aA (Int.tdiv (aA (2*a)) 2))>d)then
  bif !((aA (2*a))==0)then
   bif decide ((Int.tmod (aA ((aA (Int.tdiv (aA (2*a)) 2))+b)) (aA (2*a)))<0)then
    bif !((aA (4*c))==0)then
     bif !((aA (2*c))==0)then
      some (c,aA ((aA (Int.tdiv (aA (2*a)) 2))- (aA ((Int.tmod (aA ((aA (Int.tdiv (aA (2*a)) 2))+b)) (aA (2*a)))+(aA (2*a))))),aA (Int.tdiv (aA ((aA ((aA ((aA (Int.tdiv (aA (2*a)) 2))- (aA ((Int.tmod (aA ((aA (Int.tdiv (aA (2*a)) 2))+b)) (aA (2*a)))+(aA (2*a))))))*(aA ((aA (Int.tdiv (aA (2*a)) 2))- (aA ((Int.tmod (aA ((aA (Int.tdiv (aA (2*a)) 2))+b)) (aA (2*a)))+(aA (2*a))))))))-e)) (aA (4*c))),0,(-1),1,aA (Int.tdiv (aA (b+(aA ((aA (Int.tdiv (aA (2*a)) 2))- (aA ((Int.tmod (aA ((aA (Int.tdiv (aA (2*a)) 2))+b)) (aA (2*a)))+(aA (2*a)))))))) (aA (2*c))))
     else none
    else none
   else
   bif !((aA (4*c))==0)then
    bif !((aA (2*c))==0)then
     some (c,aA ((aA (Int.tdiv (aA (2*a)) 2))- (Int.tmod (aA ((aA (Int.tdiv (aA (2*a)) 2))+b)) (aA (2*a)))),aA (Int.tdiv (aA ((aA ((aA ((aA (Int.tdiv (aA (2*a)) 2))- (Int.tmod (aA ((aA (Int.tdiv (aA (2*a)) 2))+b)) (aA (2*a)))))*(aA ((aA (Int.tdiv (aA (2*a)) 2))- (Int.tmod (aA ((aA (Int.tdiv (aA (2*a)) 2))+b)) (aA (2*a)))))))-e)) (aA (4*c))),0,(-1),1,aA (Int.tdiv (aA (b+(aA ((aA (Int.tdiv (aA (2*a)) 2))- (Int.tmod (aA ((aA (Int.tdiv (aA (2*a)) 2))+b)) (aA (2*a))))))) (aA (2*c))))
    else none
   else none
  else none
 else
 bif !((aA (2*a))==0)then
  bif decide ((Int.tmod (aA (d+b)) (aA (2*a)))<0)then
   bif !((aA (4*c))==0)then
    bif !((aA (2*c))==0)then
     some (c,aA (d- (aA ((Int.tmod (aA (d+b)) (aA (2*a)))+(aA (2*a))))),aA (Int.tdiv (aA ((aA ((aA (d- (aA ((Int.tmod (aA (d+b)) (aA (2*a)))+(aA (2*a))))))*(aA (d- (aA ((Int.tmod (aA (d+b)) (aA (2*a)))+(aA (2*a))))))))-e)) (aA (4*c))),0,(-1),1,aA (Int.tdiv (aA (b+(aA (d- (aA ((Int.tmod (aA (d+b)) (aA (2*a)))+(aA (2*a)))))))) (aA (2*c))))
    else none
   else none
  else
  bif !((aA (4*c))==0)then
   bif !((aA (2*c))==0)then
    some (c,aA (d- (Int.tmod (aA (d+b)) (aA (2*a)))),aA (Int.tdiv (aA ((aA ((aA (d- (Int.tmod (aA (d+b)) (aA (2*a)))))*(aA (d- (Int.tmod (aA (d+b)) (aA (2*a)))))))-e)) (aA (4*c))),0,(-1),1,aA (Int.tdiv (aA (b+(aA (d- (Int.tmod (aA (d+b)) (aA (2*a))))))) (aA (2*c))))
   else none
  else none
 else none
noncomputable def Q8.E (N:Nat):nD:=xK [(2,bS),(23,lG),(35,kX)] [(50,Q2.ent N)] [] [] N [.cell 6 23,.cell 7 35] [.recd [.any,.any,.any],.recd [.any,.any,.any,.any]] 0 58
noncomputable def Q8.dec (v:V)(bs:List jA):Option (Int×Int×Int×Int×Int×Int×Int):=match v,bs with
 | .tup [.agg [.c (.int .i64 a),.c (.int .i64 b),.c (.int .i64 c)],.agg [.c (.int .i64 d),.c (.int .i64 e),.c (.int .i64 f),.c (.int .i64 g)]],[]=>some (a,b,c,d,e,f,g)
 |_,_=>none
theorem Q8.f_eq (N:Nat)(a b c d e:Int):
  iC (Q8.E N) (bo Try.f39) [.agg [.c (.int .i64 a),.c (.int .i64 b),.c (.int .i64 c)],.c (.int .i64 d),.c (.int .i64 e)] [] Q8.dec=Q8.f N a b c d e:=by kernel_rfl
noncomputable def Q8.ent (N:Nat):jB:=oK (Int×Int×Int×Int×Int×Int×Int) 0 [true,true,true] [.recd [.any,.any,.any],.any,.any] fun
 | [.agg [.c (.int .i64 a),.c (.int .i64 b),.c (.int .i64 c)],.c (.int .i64 d),.c (.int .i64 e)]=>some (Q8.f N a b c d e,fun r=>.one (.tup [.agg [.c (.int .i64 r.1),.c (.int .i64 r.2.1),.c (.int .i64 r.2.2.1)],.agg [.c (.int .i64 r.2.2.2.1),.c (.int .i64 r.2.2.2.2.1),.c (.int .i64 r.2.2.2.2.2.1),.c (.int .i64 r.2.2.2.2.2.2)]]) [])
 |_=>none
theorem Q8.env (N:Nat):wB Try.prog (Q8.E N):=⟨(.cons cD (.cons eC (.cons dJ .nil))),(.cons (Q2.ent_ok N) .nil)⟩
theorem Q8.spec (N:Nat)(a c d f g:Int)(r:Int×Int×Int×Int×Int×Int×Int)(h:Q8.f N a c d f g=some r):nA Try.prog 39 [.agg [.c (.int .i64 a),.c (.int .i64 c),.c (.int .i64 d)],.c (.int .i64 f),.c (.int .i64 g)] [] (.tup [.agg [.c (.int .i64 r.1),.c (.int .i64 r.2.1),.c (.int .i64 r.2.2.1)],.agg [.c (.int .i64 r.2.2.2.1),.c (.int .i64 r.2.2.2.2.1),.c (.int .i64 r.2.2.2.2.2.1),.c (.int .i64 r.2.2.2.2.2.2)]]) ([]):=sB (Q8.env N) lA Try.func39 iA.n ((Q8.f_eq ..).trans h) fun v b e=>by unfold Q8.dec at e;split at e<;>cases e;exact⟨rfl,rfl⟩
theorem Q8.ent_ok (N:Nat):pB Try.prog 39 (Q8.ent N):=uB fun v a e h=>by split at h;exact lE (Q:=fun e=>nA _ _ _ _ (e a).pick.1 (e a).pick.2) h fun k=>Q8.spec N _ _ _ _ _ a k;cases h
noncomputable def Q9.f (N:Nat)(b c d:Int):Option (Int×Int×Int×Int×Int×Int×Int×Int):=
 (Q5.f N b c d).bind fun e=>
 bif e != 0 then
  some (0,0,0,0,0,0,0,e)
 else
 (Q3.f N b c d).bind fun f=>
 (Q1.f N f).bind fun g=>
 (Q8.f N b c d f g).bind fun a=>
 some (a.1,a.2.1,a.2.2.1,a.2.2.2.1,a.2.2.2.2.1,a.2.2.2.2.2.1,a.2.2.2.2.2.2,0)
noncomputable def Q9.E (N:Nat):nD:=xK [(2,bS),(23,lG),(35,kX)] [(17,Q5.ent N),(34,Q3.ent N),(40,Q1.ent N),(39,Q8.ent N)] [] [] N [.cell 2 23,.cell 3 35,.tmp 4] [.recd [.any,.any,.any],.recd [.any,.any,.any,.any],.any] 0 28
noncomputable def Q9.dec (v:V)(bs:List jA):Option (Int×Int×Int×Int×Int×Int×Int×Int):=match v,bs with
 | .tup [.agg [.c (.int .i64 a),.c (.int .i64 b),.c (.int .i64 c)],.agg [.c (.int .i64 d),.c (.int .i64 e),.c (.int .i64 f),.c (.int .i64 g)],.c (.int .i64 h)],[]=>some (a,b,c,d,e,f,g,h)
 |_,_=>none
theorem Q9.f_eq (N:Nat)(a b c:Int):
  iC (Q9.E N) (bo Try.f18) [.agg [.c (.int .i64 a),.c (.int .i64 b),.c (.int .i64 c)]] [] Q9.dec=Q9.f N a b c:=by kernel_rfl
noncomputable def Q9.ent (N:Nat):jB:=oK (Int×Int×Int×Int×Int×Int×Int×Int) 0 [true] [.recd [.any,.any,.any]] fun
 | [.agg [.c (.int .i64 a),.c (.int .i64 b),.c (.int .i64 c)]]=>some (Q9.f N a b c,fun r=>.one (.tup [.agg [.c (.int .i64 r.1),.c (.int .i64 r.2.1),.c (.int .i64 r.2.2.1)],.agg [.c (.int .i64 r.2.2.2.1),.c (.int .i64 r.2.2.2.2.1),.c (.int .i64 r.2.2.2.2.2.1),.c (.int .i64 r.2.2.2.2.2.2.1)],.c (.int .i64 r.2.2.2.2.2.2.2)]) [])
 |_=>none
theorem Q9.env (N:Nat):wB Try.prog (Q9.E N):=⟨(.cons cD (.cons eC (.cons dJ .nil))),(.cons (Q5.ent_ok N) (.cons (Q3.ent_ok N) (.cons (Q1.ent_ok N) (.cons (Q8.ent_ok N) .nil))))⟩
theorem Q9.spec (N:Nat)(a c d:Int)(r:Int×Int×Int×Int×Int×Int×Int×Int)(h:Q9.f N a c d=some r):nA Try.prog 18 [.agg [.c (.int .i64 a),.c (.int .i64 c),.c (.int .i64 d)]] [] (.tup [.agg [.c (.int .i64 r.1),.c (.int .i64 r.2.1),.c (.int .i64 r.2.2.1)],.agg [.c (.int .i64 r.2.2.2.1),.c (.int .i64 r.2.2.2.2.1),.c (.int .i64 r.2.2.2.2.2.1),.c (.int .i64 r.2.2.2.2.2.2.1)],.c (.int .i64 r.2.2.2.2.2.2.2)]) ([]):=sB (Q9.env N) lA Try.func18 iA.n ((Q9.f_eq ..).trans h) fun v b e=>by unfold Q9.dec at e;split at e<;>cases e;exact⟨rfl,rfl⟩
theorem Q9.ent_ok (N:Nat):pB Try.prog 18 (Q9.ent N):=uB fun v a e h=>by split at h;exact lE (Q:=fun e=>nA _ _ _ _ (e a).pick.1 (e a).pick.2) h fun k=>Q9.spec N _ _ _ a k;cases h
noncomputable def Q10.l7 {R:Type}(N:Nat):Nat→Int→Int→Int→Int→Int→Int→Int→Int→Int→Int→Int→Int→Int→Int→Int→Int→(Int→Int→Int→Int→Int→Int→Int→Int→Int→Int→Int→Int→Int→Int→Option R)→Option R
 |0,_,_,_,_,_,_,_,_,_,_,_,_,_,_,_,_,_=>none
 |n+1,t,q,r,b,c,h,i,j,k,l,m,o,d,e,f,g,s=>
  (Q6.f N r b c q).bind fun p=>
  bif !p then
   (Q8.f N r b c t q).bind fun a=>
   Q10.l7 N n t q a.1 a.2.1 a.2.2.1 h i j k l m o (aA ((aA (d*a.2.2.2.1))+(aA (e*a.2.2.2.2.2.1)))) (aA ((aA (d*a.2.2.2.2.1))+(aA (e*a.2.2.2.2.2.2)))) (aA ((aA (f*a.2.2.2.1))+(aA (g*a.2.2.2.2.2.1)))) (aA ((aA (f*a.2.2.2.2.1))+(aA (g*a.2.2.2.2.2.2)))) s
  else
  s r b c h i j k l m o d e f g
noncomputable def Q10.f (N:Nat)(a b c:Int):Option (Int×Int×Int×Int×Int×Int×Int×Int):=
 (Q5.f N a b c).bind fun k=>
 bif k != 0 then
  some (0,0,0,0,0,0,0,k)
 else
 (Q3.f N a b c).bind fun l=>
 (Q1.f N l).bind fun m=>
 Q10.l7 N N l m a b c 0 0 0 0 0 0 0 1 0 0 1
  (fun d e f o p q r s t u g h i j=>
   some (d,e,f,g,h,i,j,0))
noncomputable def Q10.h7:fE:=⟨[(1,.box [.any,.any,.any]),(2,.box [.any,.any,.any]),(3,.box [.any,.any,.any,.any]),(6,.any),(7,.any),(8,.box [.any,.any,.any,.any])],[(1,.box [.any,.any,.any]),(2,.box [.any,.any,.any]),(3,.box [.any,.any,.any,.any]),(8,.box [.any,.any,.any,.any])]⟩
noncomputable def Q10.c7 (N:Nat):uO:=⟨fun vs H k=>match vs,H with
 | [.ptr 0 0 3,.ptr 1 0 3,.ptr 2 0 4,.c (.int .i64 x7),.c (.int .i64 x8),.ptr 3 0 4],[.vals [.c (.int .i64 x9),.c (.int .i64 a),.c (.int .i64 b)],.vals [.c (.int .i64 c),.c (.int .i64 d),.c (.int .i64 e)],.vals [.c (.int .i64 f),.c (.int .i64 g),.c (.int .i64 h),.c (.int .i64 i)],.vals [.c (.int .i64 j),.c (.int .i64 l),.c (.int .i64 m),.c (.int .i64 o)]]=>Q10.l7 N N x7 x8 x9 a b c d e f g h i j l m o (fun p q r s t u v w x y z x36 x37 x38=>k (.exit 0) ⟨yE Q10.h7.out [.ptr 0 0 3,.ptr 1 0 3,.ptr 2 0 4,.ptr 3 0 4],[.vals [.c (.int .i64 p),.c (.int .i64 q),.c (.int .i64 r)],.vals [.c (.int .i64 s),.c (.int .i64 t),.c (.int .i64 u)],.vals [.c (.int .i64 v),.c (.int .i64 w),.c (.int .i64 x),.c (.int .i64 y)],.vals [.c (.int .i64 z),.c (.int .i64 x36),.c (.int .i64 x37),.c (.int .i64 x38)]]⟩)
 |_,_=>none⟩
noncomputable def Q10.E (N:Nat):nD:=xK [(2,bS),(23,lG),(35,kX)] [(17,Q5.ent N),(34,Q3.ent N),(40,Q1.ent N),(41,Q6.ent N),(39,Q8.ent N)] [(7,Q10.h7)] [(7,Q10.c7 N)] N [.cell 2 23,.cell 3 35,.tmp 4] [.recd [.any,.any,.any],.recd [.any,.any,.any,.any],.any] 0 82
noncomputable def Q10.b7:Code:=cB ((fA (bo Try.f19)).getD 0 .skip)
theorem Q10.l7_eq {R:Type}(N n:Nat)(x7 x8 x9 a b c d e f g h i j l m o:Int)(k:Ex→St→Option R):
  jC 0 Q10.h7 (fun s k=>mB (Q10.E N) 392 Q10.b7 s k) n [.ptr 0 0 3,.ptr 1 0 3,.ptr 2 0 4,.c (.int .i64 x7),.c (.int .i64 x8),.ptr 3 0 4] [.vals [.c (.int .i64 x9),.c (.int .i64 a),.c (.int .i64 b)],.vals [.c (.int .i64 c),.c (.int .i64 d),.c (.int .i64 e)],.vals [.c (.int .i64 f),.c (.int .i64 g),.c (.int .i64 h),.c (.int .i64 i)],.vals [.c (.int .i64 j),.c (.int .i64 l),.c (.int .i64 m),.c (.int .i64 o)]] k=Q10.l7 N n x7 x8 x9 a b c d e f g h i j l m o (fun p q r t u v w x y z x35 x36 x37 x38=>k (.exit 0) ⟨yE Q10.h7.out [.ptr 0 0 3,.ptr 1 0 3,.ptr 2 0 4,.ptr 3 0 4],[.vals [.c (.int .i64 p),.c (.int .i64 q),.c (.int .i64 r)],.vals [.c (.int .i64 t),.c (.int .i64 u),.c (.int .i64 v)],.vals [.c (.int .i64 w),.c (.int .i64 x),.c (.int .i64 y),.c (.int .i64 z)],.vals [.c (.int .i64 x35),.c (.int .i64 x36),.c (.int .i64 x37),.c (.int .i64 x38)]]⟩):=by
 induction n generalizing x7 x8 x9 a b c d e f g h i j l m o with
 |zero=>kernel_rfl
 |succ n ih=>
  simp only[Q10.l7,←ih]
  kernel_rfl
noncomputable def Q10.dec (v:V)(bs:List jA):Option (Int×Int×Int×Int×Int×Int×Int×Int):=match v,bs with
 | .tup [.agg [.c (.int .i64 a),.c (.int .i64 b),.c (.int .i64 c)],.agg [.c (.int .i64 d),.c (.int .i64 e),.c (.int .i64 f),.c (.int .i64 g)],.c (.int .i64 h)],[]=>some (a,b,c,d,e,f,g,h)
 |_,_=>none
theorem Q10.f_eq (N:Nat)(a b c:Int):
  iC (Q10.E N) (bo Try.f19) [.agg [.c (.int .i64 a),.c (.int .i64 b),.c (.int .i64 c)]] [] Q10.dec=Q10.f N a b c:=by kernel_rfl
noncomputable def Q10.ent (N:Nat):jB:=oK (Int×Int×Int×Int×Int×Int×Int×Int) 0 [true] [.recd [.any,.any,.any]] fun
 | [.agg [.c (.int .i64 a),.c (.int .i64 b),.c (.int .i64 c)]]=>some (Q10.f N a b c,fun r=>.one (.tup [.agg [.c (.int .i64 r.1),.c (.int .i64 r.2.1),.c (.int .i64 r.2.2.1)],.agg [.c (.int .i64 r.2.2.2.1),.c (.int .i64 r.2.2.2.2.1),.c (.int .i64 r.2.2.2.2.2.1),.c (.int .i64 r.2.2.2.2.2.2.1)],.c (.int .i64 r.2.2.2.2.2.2.2)]) [])
 |_=>none
theorem Q10.env (N:Nat):wB Try.prog (Q10.E N):=⟨(.cons cD (.cons eC (.cons dJ .nil))),(.cons (Q5.ent_ok N) (.cons (Q3.ent_ok N) (.cons (Q1.ent_ok N) (.cons (Q6.ent_ok N) (.cons (Q8.ent_ok N) .nil)))))⟩
theorem Q10.k7 (N:Nat):dD Try.prog Try.f19 (Q10.E N) (.loop Q10.b7):=vH (Q10.env N) lA 392 (c:=Q10.c7 N) iA.n fun R vs H k r h=>by unfold Q10.c7 at h;dsimp only at h;split at h;exact⟨_,Q10.l7_eq .. ▸h⟩;cases h
theorem Q10.spec (N:Nat)(a c d:Int)(r:Int×Int×Int×Int×Int×Int×Int×Int)(h:Q10.f N a c d=some r):nA Try.prog 19 [.agg [.c (.int .i64 a),.c (.int .i64 c),.c (.int .i64 d)]] [] (.tup [.agg [.c (.int .i64 r.1),.c (.int .i64 r.2.1),.c (.int .i64 r.2.2.1)],.agg [.c (.int .i64 r.2.2.2.1),.c (.int .i64 r.2.2.2.2.1),.c (.int .i64 r.2.2.2.2.2.1),.c (.int .i64 r.2.2.2.2.2.2.1)],.c (.int .i64 r.2.2.2.2.2.2.2)]) ([]):=sB (Q10.env N) lA Try.func19 (iA.of (l:=[(.loop (cB ((fA (bo Try.f19)).getD 0 .skip)))]) (by kernel_rfl) (iA.cons (Q10.k7 N) iA.nil)) ((Q10.f_eq ..).trans h) fun v b e=>by unfold Q10.dec at e;split at e<;>cases e;exact⟨rfl,rfl⟩
theorem Q10.ent_ok (N:Nat):pB Try.prog 19 (Q10.ent N):=uB fun v a e h=>by split at h;exact lE (Q:=fun e=>nA _ _ _ _ (e a).pick.1 (e a).pick.2) h fun k=>Q10.spec N _ _ _ a k;cases h
noncomputable def Q11.l1000001 {R:Type}(N:Nat):Nat→Int→Int→Int→Int→Int→List Int→Int→Int→Int→(Bool→List Int→Option R)→Option R
 |0,_,_,_,_,_,_,_,_,_,_=>none
 |n+1,f,g,h,i,j,e,b,c,d,kr=>
  bif (e.length/3:Int)==4096 then
   kr true e
  else
  bif kB ((e.length+3)/3) 24 then
   (Q8.f N b c d f g).bind fun a=>
   bif !((a.1==h)&&((a.2.1==i)&&(a.2.2.1==j)))then
    Q11.l1000001 N n f g h i j (e++[b,c,d]) a.1 a.2.1 a.2.2.1 kr
   else
   kr false (e++[b,c,d])
  else none
noncomputable def Q11.s1000001 {R:Type}(N:Nat)(b c d:Int)(e:List Int)(kr:(Bool→List Int→Option R)):Option R:=
 (Q3.f N b c d).bind fun f=>
 (Q1.f N f).bind fun g=>
 bif (e.length/3:Int)==4096 then
  kr true e
 else
 bif kB ((e.length+3)/3) 24 then
  (Q8.f N b c d f g).bind fun a=>
  bif !((a.1==b)&&((a.2.1==c)&&(a.2.2.1==d)))then
   Q11.l1000001 N N f g b c d (e++[b,c,d]) a.1 a.2.1 a.2.2.1 kr
  else
  kr false (e++[b,c,d])
 else none
noncomputable def Q11.f (N:Nat)(c d e:Int):Option (List Int×Bool):=
 Q11.s1000001 N c d e []
  (fun a b=>
   some (b,a))
noncomputable def Q11.h1000001:fE:=⟨[(1,.box [.any,.any,.any]),(2,.row .i64 3),(4,.any),(5,.any),(6,.any)],[(2,.any),(3,.any)]⟩
noncomputable def Q11.c1000001 (N:Nat):uO:=⟨fun vs H k=>match vs,H with
 | [.ptr 0 0 3,.sw 1 3,.poison,.poison,.poison],[.vals [.c (.int .i64 c),.c (.int .i64 d),.c (.int .i64 e)],.ints .i64 f]=>Q11.s1000001 N c d e f (fun a b=>k (.ret (.tup [.sw 0 3,.c (.bool a)]) [.ints .i64 b]) .nil)
 |_,_=>none⟩
noncomputable def Q11.E (N:Nat):nD:=xK [(2,bS),(23,lG),(24,eV)] [(34,Q3.ent N),(40,Q1.ent N),(39,Q8.ent N)] [(1000001,Q11.h1000001)] [(1000001,Q11.c1000001 N)] N [.tmp 2,.tmp 3] [.row .i64 3,.any] 0 31 true
noncomputable def Q11.b1000001:Code:=cB ((fA (bo Try.f33)).getD 0 .skip)
noncomputable def Q11.r1000001:Code:=(findLabel Q11.b1000001 0).getD .skip
theorem Q11.l1000001_eq {R:Type}(N n:Nat)(g h i j l:Int)(m:List Int)(a b d:Int)(k:Ex→St→Option R):
  qI 0 Q11.h1000001 (fun c s k=>mB (Q11.E N) 398 c s k) Q11.b1000001 n Q11.r1000001 [.ptr 0 0 3,.sw 1 3,.c (.int .i64 g),.c (.int .i64 h),.ptr 2 0 3] [.vals [.c (.int .i64 i),.c (.int .i64 j),.c (.int .i64 l)],.ints .i64 m,.vals [.c (.int .i64 a),.c (.int .i64 b),.c (.int .i64 d)]] k=Q11.l1000001 N n g h i j l m a b d (fun e f=>k (.ret (.tup [.sw 0 3,.c (.bool e)]) [.ints .i64 f]) .nil):=by
 induction n generalizing g h i j l m a b d with
 |zero=>kernel_rfl
 |succ n ih=>
  simp only[Q11.l1000001,←ih]
  kernel_rfl
theorem Q11.s1000001_eq {R:Type}(N:Nat)(a b d:Int)(e:List Int)(k:Ex→St→Option R):
  qI 0 Q11.h1000001 (fun c s k=>mB (Q11.E N) 398 c s k) Q11.b1000001 (N+1) Q11.b1000001 [.ptr 0 0 3,.sw 1 3,.poison,.poison,.poison] [.vals [.c (.int .i64 a),.c (.int .i64 b),.c (.int .i64 d)],.ints .i64 e] k=Q11.s1000001 N a b d e (fun f g=>k (.ret (.tup [.sw 0 3,.c (.bool f)]) [.ints .i64 g]) .nil):=by
 simp only[Q11.s1000001,←Q11.l1000001_eq]
 kernel_rfl
noncomputable def Q11.dec (v:V)(bs:List jA):Option (List Int×Bool):=match v,bs with
 | .tup [.sw 0 3,.c (.bool b)],[.ints .i64 a]=>some (a,b)
 |_,_=>none
theorem Q11.f_eq (N:Nat)(a b c:Int):
  iC (Q11.E N) (bo Try.f33) [.agg [.c (.int .i64 a),.c (.int .i64 b),.c (.int .i64 c)]] [] Q11.dec=Q11.f N a b c:=by kernel_rfl
noncomputable def Q11.ent (N:Nat):jB:=oK (List Int×Bool) 1 [true] [.recd [.any,.any,.any]] fun
 | [.agg [.c (.int .i64 a),.c (.int .i64 b),.c (.int .i64 c)]]=>some (Q11.f N a b c,fun r=>.one (.tup [.sw 0 3,.c (.bool r.2)]) [.ints .i64 r.1])
 |_=>none
theorem Q11.env (N:Nat):wB Try.prog (Q11.E N):=⟨(.cons cD (.cons eC (.cons tH .nil))),(.cons (Q3.ent_ok N) (.cons (Q1.ent_ok N) (.cons (Q8.ent_ok N) .nil)))⟩
theorem Q11.res_eq (N:Nat):(Q11.E N).res=Try.f33.results.toList:=by kernel_rfl
theorem Q11.k1000001 (N:Nat):dD Try.prog Try.f33 (Q11.E N) (.scope Q11.b1000001):=by
 intro e hd he hh R vs H k r h;have e1:(Q11.E N).cut (1000000+zD Q11.b1000001)=some (Q11.c1000001 N):=by kernel_rfl
 have e2:(Q11.E N).hint (1000000+zD Q11.b1000001)=some Q11.h1000001:=by kernel_rfl
 rw[e1]at he;rw[e2]at hh;cases he;cases hh;unfold Q11.c1000001 at h;dsimp only at h;split at h
 ·rw[←Q11.s1000001_eq]at h;exact cq (Q11.env N) lA (Q11.res_eq N) iA.n h
 ·cases h
theorem Q11.spec (N:Nat)(a c d:Int)(r:List Int×Bool)(h:Q11.f N a c d=some r):nA Try.prog 33 [.agg [.c (.int .i64 a),.c (.int .i64 c),.c (.int .i64 d)]] [] (.tup [.sw 0 3,.c (.bool r.2)]) ([.ints .i64 r.1]):=sB (Q11.env N) lA Try.func33 (iA.of (l:=[(.scope (cB ((fA (bo Try.f33)).getD 0 .skip)))]) (by kernel_rfl) (iA.cons (Q11.k1000001 N) iA.nil)) ((Q11.f_eq ..).trans h) fun v b e=>by unfold Q11.dec at e;split at e<;>cases e;exact⟨rfl,rfl⟩
theorem Q11.ent_ok (N:Nat):pB Try.prog 33 (Q11.ent N):=uB fun v a e h=>by split at h;exact lE (Q:=fun e=>nA _ _ _ _ (e a).pick.1 (e a).pick.2) h fun k=>Q11.spec N _ _ _ a k;cases h
noncomputable def Q12.f (N:Nat)(c d e:Int):Option (List Int×Int):=
 (Q10.f N c d e).bind fun a=>
 bif a.2.2.2.2.2.2.2 != 0 then
  some ([],a.2.2.2.2.2.2.2)
 else
 (Q11.f N a.1 a.2.1 a.2.2.1).bind fun b=>
 bif b.2 then
  some ([],9)
 else
 some (b.1,0)
noncomputable def Q12.E (N:Nat):nD:=xK [(23,lG),(35,kX)] [(19,Q10.ent N),(33,Q11.ent N)] [] [] N [.tmp 2,.tmp 3] [.row .i64 3,.any] 0 25 true
noncomputable def Q12.dec (v:V)(bs:List jA):Option (List Int×Int):=match v,bs with
 | .tup [.sw 0 3,.c (.int .i64 b)],[.ints .i64 a]=>some (a,b)
 |_,_=>none
theorem Q12.f_eq (N:Nat)(a b c:Int):
  iC (Q12.E N) (bo Try.f10) [.agg [.c (.int .i64 a),.c (.int .i64 b),.c (.int .i64 c)]] [] Q12.dec=Q12.f N a b c:=by kernel_rfl
noncomputable def Q12.ent (N:Nat):jB:=oK (List Int×Int) 1 [true] [.recd [.any,.any,.any]] fun
 | [.agg [.c (.int .i64 a),.c (.int .i64 b),.c (.int .i64 c)]]=>some (Q12.f N a b c,fun r=>.one (.tup [.sw 0 3,.c (.int .i64 r.2)]) [.ints .i64 r.1])
 |_=>none
theorem Q12.env (N:Nat):wB Try.prog (Q12.E N):=⟨(.cons eC (.cons dJ .nil)),(.cons (Q10.ent_ok N) (.cons (Q11.ent_ok N) .nil))⟩
theorem Q12.spec (N:Nat)(a c d:Int)(r:List Int×Int)(h:Q12.f N a c d=some r):nA Try.prog 10 [.agg [.c (.int .i64 a),.c (.int .i64 c),.c (.int .i64 d)]] [] (.tup [.sw 0 3,.c (.int .i64 r.2)]) ([.ints .i64 r.1]):=sB (Q12.env N) lA Try.func10 iA.n ((Q12.f_eq ..).trans h) fun v b e=>by unfold Q12.dec at e;split at e<;>cases e;exact⟨rfl,rfl⟩
theorem Q12.ent_ok (N:Nat):pB Try.prog 10 (Q12.ent N):=uB fun v a e h=>by split at h;exact lE (Q:=fun e=>nA _ _ _ _ (e a).pick.1 (e a).pick.2) h fun k=>Q12.spec N _ _ _ a k;cases h
noncomputable def Q13.l2 {R:Type}(N:Nat):Nat→List Int→Int→Int→Int→Int→Int→(Unit→Option R)→(Int→Option R)→Option R
 |0,_,_,_,_,_,_,_,_=>none
 |n+1,c,e,a,f,g,b,d,kr=>
  bif decide (a<e)then
   bif (decide (0≤a))&&(decide (a<(c.length/3:Int)))then
    bif (f==(c.getD (a.toNat*3) 0))&&((g==(c.getD ((a.toNat*3)+1) 0))&&(b==(c.getD ((a.toNat*3)+2) 0)))then
     kr a
    else
    Q13.l2 N n c e (aA (a+1)) f g b d kr
   else none
  else
  d ()
noncomputable def Q13.f (N:Nat)(b:List Int)(c d e:Int):Option (Int):=
 Q13.l2 N N b (b.length/3:Int) 0 c d e
  (fun(_:Unit)=>
   some (-1))
  (fun a=>
   some a)
noncomputable def Q13.h2:fE:=⟨[(0,.il .i64 3),(3,.box [.any,.any,.any]),(7,.any),(8,.any)],[]⟩
noncomputable def Q13.c2 (N:Nat):uO:=⟨fun vs H k=>match vs,H with
 | [.il .i64 3 c,.ptr 0 0 3,.c (.int .i64 d),.c (.int .i64 e)],[.vals [.c (.int .i64 f),.c (.int .i64 g),.c (.int .i64 a)]]=>Q13.l2 N N c d e f g a (fun(_:Unit)=>k (.exit 0) ⟨yE Q13.h2.out [],[]⟩) (fun b=>k (.ret (.c (.int .i64 b)) []) .nil)
 |_,_=>none⟩
noncomputable def Q13.E (N:Nat):nD:=xK [(2,bS),(23,lG),(24,eV)] [] [(2,Q13.h2)] [(2,Q13.c2 N)] N [.tmp 4] [.any] 0 19
noncomputable def Q13.b2:Code:=cB ((fA (bo Try.f49)).getD 0 .skip)
theorem Q13.l2_eq {R:Type}(N n:Nat)(c:List Int)(d e f g a:Int)(k:Ex→St→Option R):
  jC 0 Q13.h2 (fun s k=>mB (Q13.E N) 395 Q13.b2 s k) n [.il .i64 3 c,.ptr 0 0 3,.c (.int .i64 d),.c (.int .i64 e)] [.vals [.c (.int .i64 f),.c (.int .i64 g),.c (.int .i64 a)]] k=Q13.l2 N n c d e f g a (fun(_:Unit)=>k (.exit 0) ⟨yE Q13.h2.out [],[]⟩) (fun b=>k (.ret (.c (.int .i64 b)) []) .nil):=by
 induction n generalizing c d e f g a with
 |zero=>kernel_rfl
 |succ n ih=>
  simp only[Q13.l2,←ih]
  kernel_rfl
noncomputable def Q13.dec (v:V)(bs:List jA):Option (Int):=match v,bs with
 | .c (.int .i64 a),[]=>some a
 |_,_=>none
theorem Q13.f_eq (N:Nat)(a:List Int)(b c d:Int):
  iC (Q13.E N) (bo Try.f49) [.il .i64 3 a,.agg [.c (.int .i64 b),.c (.int .i64 c),.c (.int .i64 d)]] [] Q13.dec=Q13.f N a b c d:=by kernel_rfl
noncomputable def Q13.ent (N:Nat):jB:=oK (Int) 0 [true,true] [.il .i64 3,.recd [.any,.any,.any]] fun
 | [.il .i64 3 a,.agg [.c (.int .i64 b),.c (.int .i64 c),.c (.int .i64 d)]]=>some (Q13.f N a b c d,fun r=>.one (.c (.int .i64 r)) [])
 |_=>none
theorem Q13.env (N:Nat):wB Try.prog (Q13.E N):=⟨(.cons cD (.cons eC (.cons tH .nil))),.nil⟩
theorem Q13.k2 (N:Nat):dD Try.prog Try.f49 (Q13.E N) (.loop Q13.b2):=vH (Q13.env N) lA 395 (c:=Q13.c2 N) iA.n fun R vs H k r h=>by unfold Q13.c2 at h;dsimp only at h;split at h;exact⟨_,Q13.l2_eq .. ▸h⟩;cases h
theorem Q13.spec (N:Nat)(a:List Int)(c d f r:Int)(h:Q13.f N a c d f=some r):nA Try.prog 49 [.il .i64 3 a,.agg [.c (.int .i64 c),.c (.int .i64 d),.c (.int .i64 f)]] [] (.c (.int .i64 r)) ([]):=sB (Q13.env N) lA Try.func49 (iA.of (l:=[(.loop (cB ((fA (bo Try.f49)).getD 0 .skip)))]) (by kernel_rfl) (iA.cons (Q13.k2 N) iA.nil)) ((Q13.f_eq ..).trans h) fun v b e=>by unfold Q13.dec at e;split at e<;>cases e;exact⟨rfl,rfl⟩
theorem Q13.ent_ok (N:Nat):pB Try.prog 49 (Q13.ent N):=uB fun v a e h=>by split at h;exact lE (Q:=fun e=>nA _ _ _ _ (e a).pick.1 (e a).pick.2) h fun k=>Q13.spec N _ _ _ _ a k;cases h
noncomputable def Q14.f (N:Nat)(a:List Int)(b c d:Int):Option (Bool):=
 (Q13.f N a b c d).bind fun e=>
 some (decide (e≥0))
noncomputable def Q14.E (N:Nat):nD:=xK [(23,lG)] [(49,Q13.ent N)] [] [] N [.tmp 4] [.any] 0 9
noncomputable def Q14.dec (v:V)(bs:List jA):Option (Bool):=match v,bs with
 | .c (.bool a),[]=>some a
 |_,_=>none
theorem Q14.f_eq (N:Nat)(a:List Int)(b c d:Int):
  iC (Q14.E N) (bo Try.f35) [.il .i64 3 a,.agg [.c (.int .i64 b),.c (.int .i64 c),.c (.int .i64 d)]] [] Q14.dec=Q14.f N a b c d:=by kernel_rfl
noncomputable def Q14.ent (N:Nat):jB:=oK (Bool) 0 [true,true] [.il .i64 3,.recd [.any,.any,.any]] fun
 | [.il .i64 3 a,.agg [.c (.int .i64 b),.c (.int .i64 c),.c (.int .i64 d)]]=>some (Q14.f N a b c d,fun r=>.one (.c (.bool r)) [])
 |_=>none
theorem Q14.env (N:Nat):wB Try.prog (Q14.E N):=⟨(.cons eC .nil),(.cons (Q13.ent_ok N) .nil)⟩
theorem Q14.spec (N:Nat)(a:List Int)(c d f:Int)(r:Bool)(h:Q14.f N a c d f=some r):nA Try.prog 35 [.il .i64 3 a,.agg [.c (.int .i64 c),.c (.int .i64 d),.c (.int .i64 f)]] [] (.c (.bool r)) ([]):=sB (Q14.env N) lA Try.func35 iA.n ((Q14.f_eq ..).trans h) fun v b e=>by unfold Q14.dec at e;split at e<;>cases e;exact⟨rfl,rfl⟩
theorem Q14.ent_ok (N:Nat):pB Try.prog 35 (Q14.ent N):=uB fun v a e h=>by split at h;exact lE (Q:=fun e=>nA _ _ _ _ (e a).pick.1 (e a).pick.2) h fun k=>Q14.spec N _ _ _ _ a k;cases h
noncomputable def Q15.f (N:Nat)(f g h i j k:Int):Option (Bool×Int):=
 (Q10.f N f g h).bind fun a=>
 bif a.2.2.2.2.2.2.2 != 0 then
  some (false,a.2.2.2.2.2.2.2)
 else
 (Q10.f N i j k).bind fun b=>
 bif b.2.2.2.2.2.2.2 != 0 then
  some (false,b.2.2.2.2.2.2.2)
 else
 (Q3.f N a.1 a.2.1 a.2.2.1).bind fun l=>
 (Q3.f N b.1 b.2.1 b.2.2.1).bind fun d=>
 bif l != d then
  some (false,0)
 else
 (Q11.f N a.1 a.2.1 a.2.2.1).bind fun c=>
 (Q14.f N c.1 b.1 b.2.1 b.2.2.1).bind fun e=>
 bif e then
  some (true,0)
 else
 bif c.2 then
  some (false,9)
 else
 some (false,0)
noncomputable def Q15.E (N:Nat):nD:=xK [(23,lG),(35,kX)] [(19,Q10.ent N),(34,Q3.ent N),(33,Q11.ent N),(35,Q14.ent N)] [] [] N [.tmp 4,.tmp 5] [.any,.any] 0 47
noncomputable def Q15.dec (v:V)(bs:List jA):Option (Bool×Int):=match v,bs with
 | .tup [.c (.bool a),.c (.int .i64 b)],[]=>some (a,b)
 |_,_=>none
theorem Q15.f_eq (N:Nat)(a b c d e f:Int):
  iC (Q15.E N) (bo Try.f11) [.agg [.c (.int .i64 a),.c (.int .i64 b),.c (.int .i64 c)],.agg [.c (.int .i64 d),.c (.int .i64 e),.c (.int .i64 f)]] [] Q15.dec=Q15.f N a b c d e f:=by kernel_rfl
noncomputable def Q15.ent (N:Nat):jB:=oK (Bool×Int) 0 [true,true] [.recd [.any,.any,.any],.recd [.any,.any,.any]] fun
 | [.agg [.c (.int .i64 a),.c (.int .i64 b),.c (.int .i64 c)],.agg [.c (.int .i64 d),.c (.int .i64 e),.c (.int .i64 f)]]=>some (Q15.f N a b c d e f,fun r=>.one (.tup [.c (.bool r.1),.c (.int .i64 r.2)]) [])
 |_=>none
theorem Q15.env (N:Nat):wB Try.prog (Q15.E N):=⟨(.cons eC (.cons dJ .nil)),(.cons (Q10.ent_ok N) (.cons (Q3.ent_ok N) (.cons (Q11.ent_ok N) (.cons (Q14.ent_ok N) .nil))))⟩
theorem Q15.spec (N:Nat)(a c d f g i:Int)(r:Bool×Int)(h:Q15.f N a c d f g i=some r):nA Try.prog 11 [.agg [.c (.int .i64 a),.c (.int .i64 c),.c (.int .i64 d)],.agg [.c (.int .i64 f),.c (.int .i64 g),.c (.int .i64 i)]] [] (.tup [.c (.bool r.1),.c (.int .i64 r.2)]) ([]):=sB (Q15.env N) lA Try.func11 iA.n ((Q15.f_eq ..).trans h) fun v b e=>by unfold Q15.dec at e;split at e<;>cases e;exact⟨rfl,rfl⟩
theorem Q15.ent_ok (N:Nat):pB Try.prog 11 (Q15.ent N):=uB fun v a e h=>by split at h;exact lE (Q:=fun e=>nA _ _ _ _ (e a).pick.1 (e a).pick.2) h fun k=>Q15.spec N _ _ _ _ _ _ a k;cases h
noncomputable def Q16.l3 {R:Type}(N:Nat):Nat→Int→Int→Int→(Int→Option R)→Option R
 |0,_,_,_,_=>none
 |n+1,d,b,a,c=>
  bif decide (a>0)then
   bif decide ((aA ((aA (b+a))*(aA (b+a))))≤d)then
    Q16.l3 N n d (aA (b+a)) (aA (Int.tdiv a 2)) c
   else
   Q16.l3 N n d b (aA (Int.tdiv a 2)) c
  else
  c b
noncomputable def Q16.f (N:Nat)(a:Int):Option (Int):=
 Q16.l3 N N a 0 2147483648
  (fun b=>
   some b)
noncomputable def Q16.h3:fE:=⟨[(0,.any),(3,.any),(4,.any)],[(3,.any)]⟩
noncomputable def Q16.c3 (N:Nat):uO:=⟨fun vs H k=>match vs,H with
 | [.c (.int .i64 a),.c (.int .i64 b),.c (.int .i64 c)],[]=>Q16.l3 N N a b c (fun d=>k (.exit 0) ⟨yE Q16.h3.out [.c (.int .i64 d)],[]⟩)
 |_,_=>none⟩
noncomputable def Q16.E (N:Nat):nD:=xK [] [] [(3,Q16.h3)] [(3,Q16.c3 N)] N [.tmp 2] [.any] 0 22
noncomputable def Q16.b3:Code:=cB ((fA (bo Try.f42)).getD 0 .skip)
theorem Q16.l3_eq {R:Type}(N n:Nat)(a b c:Int)(k:Ex→St→Option R):
  jC 0 Q16.h3 (fun s k=>mB (Q16.E N) 394 Q16.b3 s k) n [.c (.int .i64 a),.c (.int .i64 b),.c (.int .i64 c)] [] k=Q16.l3 N n a b c (fun d=>k (.exit 0) ⟨yE Q16.h3.out [.c (.int .i64 d)],[]⟩):=by
 induction n generalizing a b c with
 |zero=>kernel_rfl
 |succ n ih=>
  simp only[Q16.l3,←ih]
  kernel_rfl
noncomputable def Q16.dec (v:V)(bs:List jA):Option (Int):=match v,bs with
 | .c (.int .i64 a),[]=>some a
 |_,_=>none
theorem Q16.f_eq (N:Nat)(a:Int):
  iC (Q16.E N) (bo Try.f42) [.c (.int .i64 a)] [] Q16.dec=Q16.f N a:=by kernel_rfl
noncomputable def Q16.ent (N:Nat):jB:=oK (Int) 0 [true] [.any] fun
 | [.c (.int .i64 a)]=>some (Q16.f N a,fun r=>.one (.c (.int .i64 r)) [])
 |_=>none
theorem Q16.env (N:Nat):wB Try.prog (Q16.E N):=⟨.nil,.nil⟩
theorem Q16.k3 (N:Nat):dD Try.prog Try.f42 (Q16.E N) (.loop Q16.b3):=vH (Q16.env N) lA 394 (c:=Q16.c3 N) iA.n fun R vs H k r h=>by unfold Q16.c3 at h;dsimp only at h;split at h;exact⟨_,Q16.l3_eq .. ▸h⟩;cases h
theorem Q16.spec (N:Nat)(a r:Int)(h:Q16.f N a=some r):nA Try.prog 42 [.c (.int .i64 a)] [] (.c (.int .i64 r)) ([]):=sB (Q16.env N) lA Try.func42 (iA.of (l:=[(.loop (cB ((fA (bo Try.f42)).getD 0 .skip)))]) (by kernel_rfl) (iA.cons (Q16.k3 N) iA.nil)) ((Q16.f_eq ..).trans h) fun v b e=>by unfold Q16.dec at e;split at e<;>cases e;exact⟨rfl,rfl⟩
theorem Q16.ent_ok (N:Nat):pB Try.prog 42 (Q16.ent N):=uB fun v a e h=>by split at h;exact lE (Q:=fun e=>nA _ _ _ _ (e a).pick.1 (e a).pick.2) h fun k=>Q16.spec N _ a k;cases h
noncomputable def Q17.f (N:Nat)(a:Int):Option (Int):=
 bif decide (a<0)then
  some (aA (0-a))
 else
 some a
noncomputable def Q17.E (N:Nat):nD:=xK [] [] [] [] N [.tmp 2] [.any] 0 8
noncomputable def Q17.dec (v:V)(bs:List jA):Option (Int):=match v,bs with
 | .c (.int .i64 a),[]=>some a
 |_,_=>none
theorem Q17.f_eq (N:Nat)(a:Int):
  iC (Q17.E N) (bo Try.f43) [.c (.int .i64 a)] [] Q17.dec=Q17.f N a:=by kernel_rfl
noncomputable def Q17.ent (N:Nat):jB:=oK (Int) 0 [true] [.any] fun
 | [.c (.int .i64 a)]=>some (Q17.f N a,fun r=>.one (.c (.int .i64 r)) [])
 |_=>none
theorem Q17.env (N:Nat):wB Try.prog (Q17.E N):=⟨.nil,.nil⟩
theorem Q17.spec (N:Nat)(a r:Int)(h:Q17.f N a=some r):nA Try.prog 43 [.c (.int .i64 a)] [] (.c (.int .i64 r)) ([]):=sB (Q17.env N) lA Try.func43 iA.n ((Q17.f_eq ..).trans h) fun v b e=>by unfold Q17.dec at e;split at e<;>cases e;exact⟨rfl,rfl⟩
theorem Q17.ent_ok (N:Nat):pB Try.prog 43 (Q17.ent N):=uB fun v a e h=>by split at h;exact lE (Q:=fun e=>nA _ _ _ _ (e a).pick.1 (e a).pick.2) h fun k=>Q17.spec N _ a k;cases h
noncomputable def Q18.f (N:Nat)(a:Int):Option (Bool):=
 bif decide (a<1)then
  some false
 else
 bif decide (a≥1152921504606846976)then
  some false
 else
 bif decide ((Int.tmod a 4)>1)then
  some false
 else
 (Q16.f N a).bind fun b=>
 some ((aA (b*b)) != a)
noncomputable def Q18.E (N:Nat):nD:=xK [] [(42,Q16.ent N)] [] [] N [.tmp 2] [.any] 0 22
noncomputable def Q18.dec (v:V)(bs:List jA):Option (Bool):=match v,bs with
 | .c (.bool a),[]=>some a
 |_,_=>none
theorem Q18.f_eq (N:Nat)(a:Int):
  iC (Q18.E N) (bo Try.f36) [.c (.int .i64 a)] [] Q18.dec=Q18.f N a:=by kernel_rfl
noncomputable def Q18.ent (N:Nat):jB:=oK (Bool) 0 [true] [.any] fun
 | [.c (.int .i64 a)]=>some (Q18.f N a,fun r=>.one (.c (.bool r)) [])
 |_=>none
theorem Q18.env (N:Nat):wB Try.prog (Q18.E N):=⟨.nil,(.cons (Q16.ent_ok N) .nil)⟩
theorem Q18.spec (N:Nat)(a:Int)(r:Bool)(h:Q18.f N a=some r):nA Try.prog 36 [.c (.int .i64 a)] [] (.c (.bool r)) ([]):=sB (Q18.env N) lA Try.func36 iA.n ((Q18.f_eq ..).trans h) fun v b e=>by unfold Q18.dec at e;split at e<;>cases e;exact⟨rfl,rfl⟩
theorem Q18.ent_ok (N:Nat):pB Try.prog 36 (Q18.ent N):=uB fun v a e h=>by split at h;exact lE (Q:=fun e=>nA _ _ _ _ (e a).pick.1 (e a).pick.2) h fun k=>Q18.spec N _ a k;cases h
noncomputable def Q19.f (N:Nat)(b a c:Int):Option (Int):=
 bif decide (b>1073741824)then
  some 3
 else
 bif decide (b<(-1073741824))then
  some 3
 else
 bif decide (a>1073741824)then
  some 3
 else
 bif decide (a<(-1073741824))then
  some 3
 else
 bif decide (c>1073741824)then
  some 3
 else
 bif decide (c<(-1073741824))then
  some 3
 else
 (Q18.f N (aA ((aA (a*a))- (aA ((aA (4*b))*c))))).bind fun d=>
 bif !d then
  some 80
 else
 some 0
noncomputable def Q20.f (N:Nat)(c a e:Int):Option (Bool):=
 (Q16.f N (aA ((aA (a*a))- (aA ((aA (4*c))*e))))).bind fun b=>
 (Q17.f N c).bind fun d=>
 bif decide (a≥1)then
  bif decide (a≤b)then
   bif decide (b<(aA (a+(aA (2*d)))))then
    some (decide ((aA ((aA (2*d))-a))≤b))
   else
   some false
  else
  some false
 else
 some false
noncomputable def Q20.E (N:Nat):nD:=xK [(2,bS),(23,lG)] [(42,Q16.ent N),(43,Q17.ent N)] [] [] N [.tmp 2] [.any] 0 48
noncomputable def Q20.dec (v:V)(bs:List jA):Option (Bool):=match v,bs with
 | .c (.bool a),[]=>some a
 |_,_=>none
theorem Q20.f_eq (N:Nat)(a b c:Int):
  iC (Q20.E N) (bo Try.f23) [.agg [.c (.int .i64 a),.c (.int .i64 b),.c (.int .i64 c)]] [] Q20.dec=Q20.f N a b c:=by kernel_rfl
noncomputable def Q20.ent (N:Nat):jB:=oK (Bool) 0 [true] [.recd [.any,.any,.any]] fun
 | [.agg [.c (.int .i64 a),.c (.int .i64 b),.c (.int .i64 c)]]=>some (Q20.f N a b c,fun r=>.one (.c (.bool r)) [])
 |_=>none
theorem Q20.env (N:Nat):wB Try.prog (Q20.E N):=⟨(.cons cD (.cons eC .nil)),(.cons (Q16.ent_ok N) (.cons (Q17.ent_ok N) .nil))⟩
theorem Q20.spec (N:Nat)(a c d:Int)(r:Bool)(h:Q20.f N a c d=some r):nA Try.prog 23 [.agg [.c (.int .i64 a),.c (.int .i64 c),.c (.int .i64 d)]] [] (.c (.bool r)) ([]):=sB (Q20.env N) lA Try.func23 iA.n ((Q20.f_eq ..).trans h) fun v b e=>by unfold Q20.dec at e;split at e<;>cases e;exact⟨rfl,rfl⟩
theorem Q20.ent_ok (N:Nat):pB Try.prog 23 (Q20.ent N):=uB fun v a e h=>by split at h;exact lE (Q:=fun e=>nA _ _ _ _ (e a).pick.1 (e a).pick.2) h fun k=>Q20.spec N _ _ _ a k;cases h
noncomputable def Q21.f (N:Nat)(e b c:Int):Option (Int×Int×Int×Int×Int×Int×Int):=
 (Q16.f N (aA ((aA (b*b))- (aA ((aA (4*e))*c))))).bind fun d=>
 (Q17.f N c).bind fun a=>
 bif decide (a>d)then
  bif !((aA (2*a))==0)then
   bif decide ((Int.tmod (aA ((aA (0-b))- (aA (0-a)))) (aA (2*a)))≤0)then
    bif !((aA (4*c))==0)then
     bif !((aA (2*c))==0)then
      some (c,aA ((aA ((Int.tmod (aA ((aA (0-b))- (aA (0-a)))) (aA (2*a)))+(aA (2*a))))+(aA (0-a))),aA (Int.tdiv (aA ((aA ((aA ((aA ((Int.tmod (aA ((aA (0-b))- (aA (0-a)))) (aA (2*a)))+(aA (2*a))))+(aA (0-a))))*(aA ((aA ((Int.tmod (aA ((aA (0-b))- (aA (0-a)))) (aA (2*a)))+(aA (2*a))))+(aA (0-a))))))- (aA ((aA (b*b))- (aA ((aA (4*e))*c)))))) (aA (4*c))),0,(-1),1,aA (Int.tdiv (aA (b+(aA ((aA ((Int.tmod (aA ((aA (0-b))- (aA (0-a)))) (aA (2*a)))+(aA (2*a))))+(aA (0-a)))))) (aA (2*c))))
     else none
    else none
   else
   bif !((aA (4*c))==0)then
    bif !((aA (2*c))==0)then
     some (c,aA ((Int.tmod (aA ((aA (0-b))- (aA (0-a)))) (aA (2*a)))+(aA (0-a))),aA (Int.tdiv (aA ((aA ((aA ((Int.tmod (aA ((aA (0-b))- (aA (0-a)))) (aA (2*a)))+(aA (0-a))))*(aA ((Int.tmod (aA ((aA (0-b))- (aA (0-a)))) (aA (2*a)))+(aA (0-a))))))- (aA ((aA (b*b))- (aA ((aA (4*e))*c)))))) (aA (4*c))),0,(-1),1,aA (Int.tdiv (aA (b+(aA ((Int.tmod (aA ((aA (0-b))- (aA (0-a)))) (aA (2*a)))+(aA (0-a)))))) (aA (2*c))))
    else none
   else none
  else none
 else
 bif !((aA (2*a))==0)then
  bif decide ((Int.tmod (aA ((aA (0-b))- (aA (d- (aA (2*a)))))) (aA (2*a)))≤0)then
   bif !((aA (4*c))==0)then
    bif !((aA (2*c))==0)then
     some (c,aA ((aA ((Int.tmod (aA ((aA (0-b))- (aA (d- (aA (2*a)))))) (aA (2*a)))+(aA (2*a))))+(aA (d- (aA (2*a))))),aA (Int.tdiv (aA ((aA ((aA ((aA ((Int.tmod (aA ((aA (0-b))- (aA (d- (aA (2*a)))))) (aA (2*a)))+(aA (2*a))))+(aA (d- (aA (2*a))))))*(aA ((aA ((Int.tmod (aA ((aA (0-b))- (aA (d- (aA (2*a)))))) (aA (2*a)))+(aA (2*a))))+(aA (d- (aA (2*a))))))))- (aA ((aA (b*b))- (aA ((aA (4*e))*c)))))) (aA (4*c))),0,(-1),1,aA (Int.tdiv (aA (b+(aA ((aA ((Int.tmod (aA ((aA (0-b))- (aA (d- (aA (2*a)))))) (aA (2*a)))+(aA (2*a))))+(aA (d- (aA (2*a)))))))) (aA (2*c))))
    else none
   else none
  else
  bif !((aA (4*c))==0)then
   bif !((aA (2*c))==0)then
    some (c,aA ((Int.tmod (aA ((aA (0-b))- (aA (d- (aA (2*a)))))) (aA (2*a)))+(aA (d- (aA (2*a))))),aA (Int.tdiv (aA ((aA ((aA ((Int.tmod (aA ((aA (0-b))- (aA (d- (aA (2*a)))))) (aA (2*a)))+(aA (d- (aA (2*a))))))*(aA ((Int.tmod (aA ((aA (0-b))- (aA (d- (aA (2*a)))))) (aA (2*a)))+(aA (d- (aA (2*a))))))))- (aA ((aA (b*b))- (aA ((aA (4*e))*c)))))) (aA (4*c))),0,(-1),1,aA (Int.tdiv (aA (b+(aA ((Int.tmod (aA ((aA (0-b))- (aA (d- (aA (2*a)))))) (aA (2*a)))+(aA (d- (aA (2*a)))))))) (aA (2*c))))
   else none
  else none
 else none
noncomputable def Q21.E (N:Nat):nD:=xK [(2,bS),(23,lG),(35,kX)] [(42,Q16.ent N),(43,Q17.ent N)] [] [] N [.cell 2 23,.cell 3 35] [.recd [.any,.any,.any],.recd [.any,.any,.any,.any]] 0 74
noncomputable def Q21.dec (v:V)(bs:List jA):Option (Int×Int×Int×Int×Int×Int×Int):=match v,bs with
 | .tup [.agg [.c (.int .i64 a),.c (.int .i64 b),.c (.int .i64 c)],.agg [.c (.int .i64 d),.c (.int .i64 e),.c (.int .i64 f),.c (.int .i64 g)]],[]=>some (a,b,c,d,e,f,g)
 |_,_=>none
theorem Q21.f_eq (N:Nat)(a b c:Int):
  iC (Q21.E N) (bo Try.f21) [.agg [.c (.int .i64 a),.c (.int .i64 b),.c (.int .i64 c)]] [] Q21.dec=Q21.f N a b c:=by kernel_rfl
noncomputable def Q21.ent (N:Nat):jB:=oK (Int×Int×Int×Int×Int×Int×Int) 0 [true] [.recd [.any,.any,.any]] fun
 | [.agg [.c (.int .i64 a),.c (.int .i64 b),.c (.int .i64 c)]]=>some (Q21.f N a b c,fun r=>.one (.tup [.agg [.c (.int .i64 r.1),.c (.int .i64 r.2.1),.c (.int .i64 r.2.2.1)],.agg [.c (.int .i64 r.2.2.2.1),.c (.int .i64 r.2.2.2.2.1),.c (.int .i64 r.2.2.2.2.2.1),.c (.int .i64 r.2.2.2.2.2.2)]]) [])
 |_=>none
theorem Q21.env (N:Nat):wB Try.prog (Q21.E N):=⟨(.cons cD (.cons eC (.cons dJ .nil))),(.cons (Q16.ent_ok N) (.cons (Q17.ent_ok N) .nil))⟩
theorem Q21.spec (N:Nat)(a c d:Int)(r:Int×Int×Int×Int×Int×Int×Int)(h:Q21.f N a c d=some r):nA Try.prog 21 [.agg [.c (.int .i64 a),.c (.int .i64 c),.c (.int .i64 d)]] [] (.tup [.agg [.c (.int .i64 r.1),.c (.int .i64 r.2.1),.c (.int .i64 r.2.2.1)],.agg [.c (.int .i64 r.2.2.2.1),.c (.int .i64 r.2.2.2.2.1),.c (.int .i64 r.2.2.2.2.2.1),.c (.int .i64 r.2.2.2.2.2.2)]]) ([]):=sB (Q21.env N) lA Try.func21 iA.n ((Q21.f_eq ..).trans h) fun v b e=>by unfold Q21.dec at e;split at e<;>cases e;exact⟨rfl,rfl⟩
theorem Q21.ent_ok (N:Nat):pB Try.prog 21 (Q21.ent N):=uB fun v a e h=>by split at h;exact lE (Q:=fun e=>nA _ _ _ _ (e a).pick.1 (e a).pick.2) h fun k=>Q21.spec N _ _ _ a k;cases h
noncomputable def Q27.l4 {R:Type}(N:Nat):Nat→List Int→List Int→Int→Int→(Unit→Option R)→(Bool→Option R)→Option R
 |0,_,_,_,_,_,_=>none
 |n+1,b,c,e,a,d,kr=>
  bif decide (a<e)then
   bif (decide (0≤a))&&(decide (a<(b.length/3:Int)))then
    bif (decide (0≤a))&&(decide (a<(c.length/3:Int)))then
     bif !(((b.getD (a.toNat*3) 0)==(c.getD (a.toNat*3) 0))&&(((b.getD ((a.toNat*3)+1) 0)==(c.getD ((a.toNat*3)+1) 0))&&((b.getD ((a.toNat*3)+2) 0)==(c.getD ((a.toNat*3)+2) 0))))then
      kr false
     else
     Q27.l4 N n b c e (aA (a+1)) d kr
    else none
   else none
  else
  d ()
noncomputable def Q27.f (N:Nat)(a b:List Int):Option (Bool):=
 bif (a.length/3:Int) != (b.length/3:Int)then
  some false
 else
 Q27.l4 N N a b (a.length/3:Int) 0
  (fun(_:Unit)=>
   some true)
  (fun c=>
   some c)
noncomputable def Q27.h4:fE:=⟨[(0,.il .i64 3),(1,.il .i64 3),(12,.any),(13,.any)],[]⟩
noncomputable def Q27.c4 (N:Nat):uO:=⟨fun vs H k=>match vs,H with
 | [.il .i64 3 a,.il .i64 3 b,.c (.int .i64 c),.c (.int .i64 d)],[]=>Q27.l4 N N a b c d (fun(_:Unit)=>k (.exit 0) ⟨yE Q27.h4.out [],[]⟩) (fun e=>k (.ret (.c (.bool e)) []) .nil)
 |_,_=>none⟩
noncomputable def Q27.E (N:Nat):nD:=xK [(2,bS),(23,lG),(24,eV)] [] [(4,Q27.h4)] [(4,Q27.c4 N)] N [.tmp 4] [.any] 0 26
noncomputable def Q27.b4:Code:=cB ((fA (bo Try.f15)).getD 0 .skip)
theorem Q27.l4_eq {R:Type}(N n:Nat)(a b:List Int)(c d:Int)(k:Ex→St→Option R):
  jC 0 Q27.h4 (fun s k=>mB (Q27.E N) 394 Q27.b4 s k) n [.il .i64 3 a,.il .i64 3 b,.c (.int .i64 c),.c (.int .i64 d)] [] k=Q27.l4 N n a b c d (fun(_:Unit)=>k (.exit 0) ⟨yE Q27.h4.out [],[]⟩) (fun e=>k (.ret (.c (.bool e)) []) .nil):=by
 induction n generalizing a b c d with
 |zero=>kernel_rfl
 |succ n ih=>
  simp only[Q27.l4,←ih]
  kernel_rfl
noncomputable def Q27.dec (v:V)(bs:List jA):Option (Bool):=match v,bs with
 | .c (.bool a),[]=>some a
 |_,_=>none
theorem Q27.f_eq (N:Nat)(a b:List Int):
  iC (Q27.E N) (bo Try.f15) [.il .i64 3 a,.il .i64 3 b] [] Q27.dec=Q27.f N a b:=by kernel_rfl
noncomputable def Q27.ent (N:Nat):jB:=oK (Bool) 0 [true,true] [.il .i64 3,.il .i64 3] fun
 | [.il .i64 3 a,.il .i64 3 b]=>some (Q27.f N a b,fun r=>.one (.c (.bool r)) [])
 |_=>none
theorem Q27.env (N:Nat):wB Try.prog (Q27.E N):=⟨(.cons cD (.cons eC (.cons tH .nil))),.nil⟩
theorem Q27.k4 (N:Nat):dD Try.prog Try.f15 (Q27.E N) (.loop Q27.b4):=vH (Q27.env N) lA 394 (c:=Q27.c4 N) iA.n fun R vs H k r h=>by unfold Q27.c4 at h;dsimp only at h;split at h;exact⟨_,Q27.l4_eq .. ▸h⟩;cases h
theorem Q27.spec (N:Nat)(a c:List Int)(r:Bool)(h:Q27.f N a c=some r):nA Try.prog 15 [.il .i64 3 a,.il .i64 3 c] [] (.c (.bool r)) ([]):=sB (Q27.env N) lA Try.func15 (iA.of (l:=[(.loop (cB ((fA (bo Try.f15)).getD 0 .skip)))]) (by kernel_rfl) (iA.cons (Q27.k4 N) iA.nil)) ((Q27.f_eq ..).trans h) fun v b e=>by unfold Q27.dec at e;split at e<;>cases e;exact⟨rfl,rfl⟩
theorem Q27.ent_ok (N:Nat):pB Try.prog 15 (Q27.ent N):=uB fun v a e h=>by split at h;exact lE (Q:=fun e=>nA _ _ _ _ (e a).pick.1 (e a).pick.2) h fun k=>Q27.spec N _ _ a k;cases h
noncomputable def Q28.f (N:Nat):Option (Bool):=
 (Q12.f N 1 0 (-3)).bind fun a=>
 (Q15.f N 1 0 (-3) (-1) 0 3).bind fun c=>
 (Q9.f N 1 0 (-2)).bind fun b=>
 bif a.2==0 then
  bif c.2==0 then
   bif b.2.2.2.2.2.2.2==0 then
    bif !c.1 then
     bif (b.1==(-2))&&((b.2.1==0)&&(b.2.2.1==1))then
      bif (b.2.2.2.1==0)&&((b.2.2.2.2.1==(-1))&&((b.2.2.2.2.2.1==1)&&(b.2.2.2.2.2.2.1==0)))then
       bif (a.1.length/3:Int)==2 then
        bif decide (0<(a.1.length/3:Int))then
         bif ((a.1.getD 0 0)==1)&&(((a.1.getD 1 0)==2)&&((a.1.getD 2 0)==(-2)))then
          bif decide (1<(a.1.length/3:Int))then
           some (((a.1.getD 3 0)==(-2))&&(((a.1.getD 4 0)==2)&&((a.1.getD 5 0)==1)))
          else none
         else
         some false
        else none
       else
       some false
      else
      some false
     else
     some false
    else
    some false
   else
   some false
  else
  some false
 else
 some false
noncomputable def Q28.E (N:Nat):nD:=xK [(2,bS),(23,lG),(24,eV),(35,kX)] [(10,Q12.ent N),(11,Q15.ent N),(18,Q9.ent N)] [] [] N [.tmp 0] [.any] 0 68
noncomputable def Q28.dec (v:V)(bs:List jA):Option (Bool):=match v,bs with
 | .c (.bool a),[]=>some a
 |_,_=>none
theorem Q28.f_eq (N:Nat):
  iC (Q28.E N) (bo Try.f16) [] [] Q28.dec=Q28.f N:=by kernel_rfl
noncomputable def Q28.ent (N:Nat):jB:=oK (Bool) 0 [] [] fun
 | []=>some (Q28.f N,fun r=>.one (.c (.bool r)) [])
 |_=>none
theorem Q28.env (N:Nat):wB Try.prog (Q28.E N):=⟨(.cons cD (.cons eC (.cons tH (.cons dJ .nil)))),(.cons (Q12.ent_ok N) (.cons (Q15.ent_ok N) (.cons (Q9.ent_ok N) .nil)))⟩
theorem Q28.spec (N:Nat)(r:Bool)(h:Q28.f N=some r):nA Try.prog 16 [] [] (.c (.bool r)) ([]):=sB (Q28.env N) lA Try.func16 iA.n ((Q28.f_eq ..).trans h) fun v b e=>by unfold Q28.dec at e;split at e<;>cases e;exact⟨rfl,rfl⟩
theorem Q28.ent_ok (N:Nat):pB Try.prog 16 (Q28.ent N):=uB fun v a e h=>by split at h;exact lE (Q:=fun e=>nA _ _ _ _ (e a).pick.1 (e a).pick.2) h fun k=>Q28.spec N a k;cases h
noncomputable def ib:TI:=⟨.slice 3,1,24,[.slice none 0 0]⟩
theorem c5:oC Try.prog 87 ib:=lD (by kernel_rfl) (by kernel_rfl) (by kernel_rfl) (by kernel_rfl) (by kernel_rfl) (by kernel_rfl) (by kernel_rfl) (Try.underlying87) (by kernel_rfl)
noncomputable def Q37.f (N:Nat)(a:Int):Option (Bool):=
 some (a != a)
noncomputable def Q37.E (N:Nat):nD:=xK [] [] [] [] N [.tmp 2] [.any] 0 6
noncomputable def Q37.dec (v:V)(bs:List jA):Option (Bool):=match v,bs with
 | .c (.bool a),[]=>some a
 |_,_=>none
theorem Q37.f_eq (N:Nat)(a:Int):
  iC (Q37.E N) (bo Try.f66) [.c (.int .i64 a)] [] Q37.dec=Q37.f N a:=by kernel_rfl
noncomputable def Q37.ent (N:Nat):jB:=oK (Bool) 0 [true] [.any] fun
 | [.c (.int .i64 a)]=>some (Q37.f N a,fun r=>.one (.c (.bool r)) [])
 |_=>none
theorem Q37.env (N:Nat):wB Try.prog (Q37.E N):=⟨.nil,.nil⟩
theorem Q37.spec (N:Nat)(a:Int)(r:Bool)(h:Q37.f N a=some r):nA Try.prog 66 [.c (.int .i64 a)] [] (.c (.bool r)) ([]):=sB (Q37.env N) lA Try.func66 iA.n ((Q37.f_eq ..).trans h) fun v b e=>by unfold Q37.dec at e;split at e<;>cases e;exact⟨rfl,rfl⟩
theorem Q37.ent_ok (N:Nat):pB Try.prog 66 (Q37.ent N):=uB fun v a e h=>by split at h;exact lE (Q:=fun e=>nA _ _ _ _ (e a).pick.1 (e a).pick.2) h fun k=>Q37.spec N _ a k;cases h
noncomputable def Q38.f (N:Nat)(a b:Int):Option (Int):=
 (Q37.f N a).bind fun d=>
 (Q37.f N b).bind fun c=>
 bif d then
  bif c then
   some 0
  else
  some (-1)
 else
 bif c then
  some 1
 else
 bif decide (a<b)then
  some (-1)
 else
 bif decide (a>b)then
  some 1
 else
 some 0
noncomputable def Q38.E (N:Nat):nD:=xK [] [(66,Q37.ent N)] [] [] N [.tmp 4] [.any] 0 20
noncomputable def Q38.dec (v:V)(bs:List jA):Option (Int):=match v,bs with
 | .c (.int .i64 a),[]=>some a
 |_,_=>none
theorem Q38.f_eq (N:Nat)(a b:Int):
  iC (Q38.E N) (bo Try.f55) [.c (.int .i64 a),.c (.int .i64 b)] [] Q38.dec=Q38.f N a b:=by kernel_rfl
noncomputable def Q38.ent (N:Nat):jB:=oK (Int) 0 [true,true] [.any,.any] fun
 | [.c (.int .i64 a),.c (.int .i64 b)]=>some (Q38.f N a b,fun r=>.one (.c (.int .i64 r)) [])
 |_=>none
theorem Q38.env (N:Nat):wB Try.prog (Q38.E N):=⟨.nil,(.cons (Q37.ent_ok N) .nil)⟩
theorem Q38.spec (N:Nat)(a c r:Int)(h:Q38.f N a c=some r):nA Try.prog 55 [.c (.int .i64 a),.c (.int .i64 c)] [] (.c (.int .i64 r)) ([]):=sB (Q38.env N) lA Try.func55 iA.n ((Q38.f_eq ..).trans h) fun v b e=>by unfold Q38.dec at e;split at e<;>cases e;exact⟨rfl,rfl⟩
theorem Q38.ent_ok (N:Nat):pB Try.prog 55 (Q38.ent N):=uB fun v a e h=>by split at h;exact lE (Q:=fun e=>nA _ _ _ _ (e a).pick.1 (e a).pick.2) h fun k=>Q38.spec N _ _ a k;cases h
noncomputable def Q39.l3 {R:Type}(N:Nat):Nat→Int→List Int→Int→Int→(Int→Option R)→(Int→Option R)→Option R
 |0,_,_,_,_,_,_=>none
 |n+1,c,b,e,a,d,kr=>
  bif decide (a<e)then
   bif (decide (0≤a))&&(decide (a<(b.length:Int)))then
    bif (b.getD a.toNat 0) != c then
     kr (b.getD a.toNat 0)
    else
    Q39.l3 N n c b e (aA (a+1)) d kr
   else none
  else
  d c
noncomputable def Q39.f (N:Nat)(a:List Int):Option (Int):=
 Q39.l3 N N 0 a (a.length:Int) 0
  (fun b=>
   some b)
  (fun c=>
   some c)
noncomputable def Q39.h3:fE:=⟨[(3,.any),(6,.il .i64 1),(7,.any),(8,.any)],[(3,.any)]⟩
noncomputable def Q39.c3 (N:Nat):uO:=⟨fun vs H k=>match vs,H with
 | [.c (.int .i64 a),.il .i64 1 b,.c (.int .i64 c),.c (.int .i64 d)],[]=>Q39.l3 N N a b c d (fun f=>k (.exit 0) ⟨yE Q39.h3.out [.c (.int .i64 f)],[]⟩) (fun e=>k (.ret (.c (.int .i64 e)) []) .nil)
 |_,_=>none⟩
noncomputable def Q39.E (N:Nat):nD:=xK [(3,kh),(87,ib)] [] [(3,Q39.h3)] [(3,Q39.c3 N)] N [.tmp 2] [.any] 0 18
noncomputable def Q39.b3:Code:=cB ((fA (bo Try.f54)).getD 0 .skip)
theorem Q39.l3_eq {R:Type}(N n:Nat)(a:Int)(b:List Int)(c d:Int)(k:Ex→St→Option R):
  jC 0 Q39.h3 (fun s k=>mB (Q39.E N) 394 Q39.b3 s k) n [.c (.int .i64 a),.il .i64 1 b,.c (.int .i64 c),.c (.int .i64 d)] [] k=Q39.l3 N n a b c d (fun f=>k (.exit 0) ⟨yE Q39.h3.out [.c (.int .i64 f)],[]⟩) (fun e=>k (.ret (.c (.int .i64 e)) []) .nil):=by
 induction n generalizing a b c d with
 |zero=>kernel_rfl
 |succ n ih=>
  simp only[Q39.l3,←ih]
  kernel_rfl
noncomputable def Q39.dec (v:V)(bs:List jA):Option (Int):=match v,bs with
 | .c (.int .i64 a),[]=>some a
 |_,_=>none
theorem Q39.f_eq (N:Nat)(a:List Int):
  iC (Q39.E N) (bo Try.f54) [.il .i64 1 a] [] Q39.dec=Q39.f N a:=by kernel_rfl
noncomputable def Q39.ent (N:Nat):jB:=oK (Int) 0 [true] [.il .i64 1] fun
 | [.il .i64 1 a]=>some (Q39.f N a,fun r=>.one (.c (.int .i64 r)) [])
 |_=>none
theorem Q39.env (N:Nat):wB Try.prog (Q39.E N):=⟨(.cons xY (.cons c5 .nil)),.nil⟩
theorem Q39.k3 (N:Nat):dD Try.prog Try.f54 (Q39.E N) (.loop Q39.b3):=vH (Q39.env N) lA 394 (c:=Q39.c3 N) iA.n fun R vs H k r h=>by unfold Q39.c3 at h;dsimp only at h;split at h;exact⟨_,Q39.l3_eq .. ▸h⟩;cases h
theorem Q39.spec (N:Nat)(a:List Int)(r:Int)(h:Q39.f N a=some r):nA Try.prog 54 [.il .i64 1 a] [] (.c (.int .i64 r)) ([]):=sB (Q39.env N) lA Try.func54 (iA.of (l:=[(.loop (cB ((fA (bo Try.f54)).getD 0 .skip)))]) (by kernel_rfl) (iA.cons (Q39.k3 N) iA.nil)) ((Q39.f_eq ..).trans h) fun v b e=>by unfold Q39.dec at e;split at e<;>cases e;exact⟨rfl,rfl⟩
theorem Q39.ent_ok (N:Nat):pB Try.prog 54 (Q39.ent N):=uB fun v a e h=>by split at h;exact lE (Q:=fun e=>nA _ _ _ _ (e a).pick.1 (e a).pick.2) h fun k=>Q39.spec N _ a k;cases h
noncomputable def Q40.f (N:Nat)(b c d e f g:Int):Option (Int):=
 (Q38.f N b e).bind fun h=>
 (Q38.f N c f).bind fun i=>
 (Q38.f N d g).bind fun j=>
 (Q39.f N [h,i,j]).bind fun a=>
 some a
noncomputable def Q40.E (N:Nat):nD:=xK [(2,bS),(3,kh),(23,lG),(87,ib)] [(55,Q38.ent N),(54,Q39.ent N)] [] [] N [.tmp 4] [.any] 0 22
noncomputable def Q40.dec (v:V)(bs:List jA):Option (Int):=match v,bs with
 | .c (.int .i64 a),[]=>some a
 |_,_=>none
theorem Q40.f_eq (N:Nat)(a b c d e f:Int):
  iC (Q40.E N) (bo Try.f47) [.agg [.c (.int .i64 a),.c (.int .i64 b),.c (.int .i64 c)],.agg [.c (.int .i64 d),.c (.int .i64 e),.c (.int .i64 f)]] [] Q40.dec=Q40.f N a b c d e f:=by kernel_rfl
theorem Q40.env (N:Nat):wB Try.prog (Q40.E N):=⟨(.cons cD (.cons xY (.cons eC (.cons c5 .nil)))),(.cons (Q38.ent_ok N) (.cons (Q39.ent_ok N) .nil))⟩
theorem Q40.spec (N:Nat)(a c d f g i r:Int)(h:Q40.f N a c d f g i=some r):nA Try.prog 47 [.agg [.c (.int .i64 a),.c (.int .i64 c),.c (.int .i64 d)],.agg [.c (.int .i64 f),.c (.int .i64 g),.c (.int .i64 i)]] [] (.c (.int .i64 r)) ([]):=sB (Q40.env N) lA Try.func47 iA.n ((Q40.f_eq ..).trans h) fun v b e=>by unfold Q40.dec at e;split at e<;>cases e;exact⟨rfl,rfl⟩
end Go.Proofs.Ytlofhdoefjmabaa
namespace Go.Proofs.Ytlofhdoefjmabaa.Ev
open Go.Shelf Go.RowKit Go.Lib Go.Sort
abbrev R3:=Int×Int×Int
def gP (x y:R3):Bool:=decide (x.1<y.1)||(x.1==y.1&&(decide (x.2.1<y.2.1)||(x.2.1==y.2.1&&decide (x.2.2≤y.2.2))))
def cN (x y:R3):Int:=
 if x.1<y.1 then-1 else if y.1<x.1 then 1 else
 if x.2.1<y.2.1 then-1 else if y.2.1<x.2.1 then 1 else
 if x.2.2<y.2.2 then-1 else if y.2.2<x.2.2 then 1 else 0
def fY (x:R3):List R3→List R3
 | []=>[x]
 |y::r=>bif gP x y then x::y::r else y::fY x r
def kG:List R3→List R3
 | []=>[]
 |x::r=>fY x (kG r)
def mD:List Int→List R3
 |a::b::c::r=>(a,b,c)::mD r
 |_=>[]
def iB:List R3→List Int
 | []=>[]
 |x::r=>x.1::x.2.1::x.2.2::iB r
def qO (l:List Int):List Int:=iB (kG (mD l))
theorem wF (x y:R3):gP x y=true↔(x.1<y.1∨x.1=y.1∧(x.2.1<y.2.1∨x.2.1=y.2.1∧x.2.2≤y.2.2)):=by
 simp[gP]
theorem yS (x y:R3):gP x y=true∨gP y x=true:=by
 rw[wF,wF];omega
theorem zS {x y z:R3}(h:gP x y=true)(k:gP y z=true):gP x z=true:=by
 rw[wF]at*;omega
theorem rQ {x y:R3}(h:gP x y=true)(k:gP y x=true):x=y:=by
 rw[wF]at*;exact Prod.ext (by omega) (Prod.ext (by omega) (by omega))
theorem wL (x y:R3):ltOf cN x y= !(gP y x):=by
 unfold ltOf cN;rw[Bool.eq_iff_iff];simp only[decide_eq_true_eq,Bool.not_eq_true',←Bool.not_eq_true,wF]
 repeat' split
 all_goals omega
theorem jN (x:R3):∀l,(fY x l).Perm (x::l)
 | []=>.refl _
 |y::r=>by
  unfold fY;cases gP x y
  ·exact((jN x r).cons y).trans (.swap _ _ _)
  ·exact .refl _
theorem sK:∀l,(kG l).Perm l
 | []=>.refl _
 |x::r=>(jN x _).trans ((sK r).cons x)
theorem bO (x:R3):∀l,l.Pairwise (fun a b=>gP a b=true)→(fY x l).Pairwise (fun a b=>gP a b=true)
 | [],_=>by simp[fY]
 |y::r,h=>by
  obtain⟨h1,h2⟩:=hE.mp h;unfold fY;cases hxy:gP x y
  ·refine hE.mpr ⟨fun z hz=>?_,bO x r h2⟩;rcases List.mem_cons.mp ((jN x r).mem_iff.mp hz)with rfl|hz
   ·exact(yS z y).resolve_left (by rw[hxy];simp)
   ·exact h1 z hz
  ·refine hE.mpr ⟨fun z hz=>?_,h⟩;rcases List.mem_cons.mp hz with rfl|hz
   ·exact hxy
   ·exact zS hxy (h1 z hz)
theorem iK:∀l,(kG l).Pairwise (fun a b=>gP a b=true)
 | []=>.nil
 |x::r=>bO x _ (iK r)
theorem gX {l m:List R3}(h:l.Perm m)(hs:l.Pairwise (fun a b=>gP a b=true)):l=kG m:=
 List.Perm.eq_of_pairwise (le:=fun a b=>gP a b=true) (fun a b _ _ h1 h2=>rQ h1 h2) hs (iK m) (h.trans (sK m).symm)
theorem v7 (d:List R3):(d.mergeSort fun x y=>!(ltOf cN) y x)=kG d:=by
 have e:(fun x y=>!(ltOf cN) y x)=gP:=by funext x y;rw[wL];simp
 rw[e];exact gX (List.mergeSort_perm d gP) (List.pairwise_mergeSort (le:=gP) (fun a b c h k=>zS h k) (fun a b=>by simpa using yS a b) d)
theorem kl:SWO (ltOf cN) where
 irrefl x:=by rw[wL,hC,wF];omega
 trans x y z h1 h2:=by rw[wL,Bool.not_eq_true',←Bool.not_eq_true,wF]at*;omega
 ntrans x y z h1 h2:=by rw[wL,hC,wF]at*;omega
theorem lu (x y:R3)(h:(ltOf cN) x y=false)(k:(ltOf cN) y x=false):x=y:=by
 rw[wL,hC]at*;exact rQ k h
theorem kQ:∀l:List Int,l.length%3=0→iB (mD l)=l
 | [],_=>rfl
 | [_],h=>by simp at h
 | [_,_],h=>by simp at h
 |a::b::c::r,h=>by
  have h':r.length%3=0:=by simp only[hF]at h;omega
  simp only[mD,iB];rw[kQ r h']
theorem kR:∀l:List R3,mD (iB l)=l
 | []=>rfl
 |x::r=>by simp only[mD,iB,kR r]
theorem bC:∀l:List R3,(iB l).length=l.length*3
 | []=>rfl
 |x::r=>by simp only[iB,hF,bC r];omega
theorem gK (l:List R3):(kG l).length=l.length:=(sK l).length_eq
theorem aJ:∀l:List Int,(mD l).length=l.length/3
 | []=>rfl
 | [_]=>by simp[mD]
 | [_,_]=>by simp[mD]
 |a::b::c::r=>by simp only[mD,hF,aJ r];omega
theorem sM {l:List Int}(h:l.length%3=0):(qO l).length=l.length:=by
 unfold qO;rw[bC,gK,aJ];omega
theorem uI:∀a b:List R3,iB (a++b)=iB a++iB b
 | [],_=>rfl
 |x::r,b=>by simp only[List.cons_append,iB,uI r b]
def dI (x:R3):List Value:=[.int .i64 x.1,.int .i64 x.2.1,.int .i64 x.2.2]
theorem fI:∀(d:List R3) (t:Nat),t<d.length*3→(iB d)[t]?=match t%3 with|0=>d[t/3]?.map (·.1)|1=>d[t/3]?.map (·.2.1)|_=>d[t/3]?.map (·.2.2)
 | [],t,h=>by simp at h
 |x::r,0,_=>rfl
 |x::r,1,_=>rfl
 |x::r,2,_=>rfl
 |x::r,t+3,h=>by
  have h3:(t+3)%3=t%3:=by omega
  have h4:(t+3)/3=t/3+1:=by omega
  have ih:=fI r t (by simp at h;omega);simp only[iB,hG];rw[ih,h3,h4];simp only[hG]
theorem aj (d:List R3)(t:Nat)(h:t<d.length*3):(flatK dI 3 d.toArray)[t]! = .int .i64 ((iB d).getD t 0):=by
 rw[get_flatK _ _ _ _ (by simpa using h),List.getD_eq_getElem?_getD,fI d t h];have hlt:t/3<d.length:=by omega
 have hm:t%3=0∨t%3=1∨t%3=2:=by omega
 simp only[List.getElem?_eq_getElem hlt,Option.map_some];have hd:d.toArray[t/3]! =d[t/3]:=by rw[getElem!_pos d.toArray (t/3) (by simpa using hlt)];simp
 rw[hd];rcases hm with h0|h0|h0<;>rw[h0]<;>simp[dI]
section
variable {P:Program}{F:Nat→Prop}{ρ:vB}{h:Nat→jA}{w:World}
theorem dA.grow (hh:dA F ρ h w)(os:Array Obj):dA F ρ h (Go.Sort.grow w os)∧iE (cA ρ h) w (cA ρ h) (Go.Sort.grow w os):=by
 have hext:iE (cA ρ h) w (cA ρ h) (Go.Sort.grow w os):=by refine⟨by simp[Go.Sort.grow],fun b hb _=>?_,fun b hb=>.inl hb,⟨rfl,rfl,rfl,Nat.le_refl _⟩⟩;simp only[Go.Sort.grow];rw[hA hb]
 refine⟨⟨hh.wf,fun id hl=>?_,hh.inj,hh.low' hext,hh.out⟩,hext⟩;obtain⟨p,hp,hb⟩:=hh.rel id hl;refine⟨p,hp,tA.mono (yH.refl _) hext hb ?_⟩;intro b hb';obtain⟨pb,pn,pC⟩:=p;dsimp only at hb';subst hb';have hlt:=cA.lt hh ⟨id,pn,pC,hp,hl⟩;simp only[Go.Sort.grow];rw[hA hlt]
theorem wX {g:Nat}(hs:∀x y:R3,nA P g [.agg [.c (.int .i64 x.1),.c (.int .i64 x.2.1),.c (.int .i64 x.2.2)],.agg [.c (.int .i64 y.1),.c (.int .i64 y.2.1),.c (.int .i64 y.2.2)]] [] (.c (.int .i64 (cN x y))) [])(blk off size:Nat)(w:World):
  CmpLays P g #[] dI 3 cN blk off size w:=by
 intro m os dk hsz x y;generalize sortWorldK dI 3 w blk off m dk os=W;have h0:dA (fun _=>False) (fun _=>none) (kA []) W:=⟨fun _ _ hx=>(by cases hx),fun id hl=>(by simp[kA,jA.live]at hl),fun i j b n C n' C' hi=>(by simp[kA,jA.live]at hi),fun _ hb=>hb.elim,fun _ _ hb=>hb.elim⟩
 have hc:=(hs x y).calls (fun _=>False) (fun _=>none) W [.agg (dI x).toArray,.agg (dI y).toArray] h0 (fun _ _ _=>rfl) ⟨0,fun _ _=>rfl⟩ (Nat.zero_le _) (by simp only[eA,and_true];refine⟨?_,?_⟩<;>(simp only[gA];refine⟨_,rfl,?_⟩;simp[dI,eA,gA]));refine Calls.mono (by simpa using hc) ?_;rintro e w' ⟨v',rfl,ρ',_,_,_,_,_,_,_,_,hH,hv,hext⟩;have:=hv.c;subst this;refine⟨rfl,w'.drawn-W.drawn,w'.heap.extract W.heap.size w'.heap.size,?_⟩;have hk:=hext.keeps;have hheap:w'.heap=W.heap++w'.heap.extract W.heap.size w'.heap.size:=by
  apply Array.ext_getElem?;intro i;by_cases hi:i<W.heap.size
  ·rw[hA hi];exact hext.same i hi (fun⟨id,n,C,h1,_⟩=>by cases h1)
  ·rw[Array.getElem?_append_right (by omega)];have hsz:=hext.size;simp only[Array.getElem?_extract];by_cases h2:i<w'.heap.size
   ·rw[if_pos (by omega)];congr 1;omega
   ·rw[if_neg (by omega),Array.getElem?_eq_none (by omega)]
 have hd:=hk.drawn;obtain⟨hp',t',d',o',u'⟩:=w';obtain⟨hp,t,d0,o,u⟩:=W;obtain⟨k1,k2,k3,k4⟩:=hk;simp only at k1 k2 k3 k4 hheap hd⊢;subst k1 k2 k3;simp only[Go.Sort.grow,World.drewN,World.mk.injEq,true_and,and_true];exact⟨hheap,by omega⟩
theorem xU (d:List R3)(c:Array Value)(i:Nat):(putCells id 0 (flatK dI 3 d.toArray) c)[i]?=if i<d.length*3 then c[i]?.map (fun _=>.int .i64 ((iB d).getD i 0))else c[i]?:=by
 simp only[putCells,Array.getElem?_mapIdx,size_flatK,List.size_toArray,Nat.zero_le,true_and,Nat.zero_add,Nat.sub_zero,id_eq];by_cases hi:i<d.length*3
 ·simp only[hi,if_true];rw[aj d i hi]
 ·simp only[hi,if_false];cases c[i]?<;>rfl
theorem u7 {R:Ren}(L:SlLaysF0.n6 P R)(aE:∀w,(isAgg (R.t 24)).run P w= .ok true w)(zE:∀w,(Go.sizeOf (R.t 24)).run P w= .ok 3 w)(hcall:nJ P (R.f 6)){g:Nat}(eg:∀args w,(callFunc g args).run P w= .ok (.enter g args) w)
  (hs:∀x y:R3,nA P g [.agg [.c (.int .i64 x.1),.c (.int .i64 x.2.1),.c (.int .i64 x.2.2)],.agg [.c (.int .i64 y.1),.c (.int .i64 y.2.1),.c (.int .i64 y.2.2)]] [] (.c (.int .i64 (cN x y))) [])(l:List Int)(hsz:l.length<4611686018427387904):
  nA P (R.f 6) [.sw 0 3,.fn g [] []] [.ints .i64 l] (.c (.tuple #[])) [.ints .i64 (qO l)]:=by
 refine⟨hcall,?_⟩;intro F ρ w args' hH hn hbd hbl hr;have hflat:∀l':List Int,iq (kA [jA.ints .i64 l']) (kA [jA.ints .i64 l']):=fun l'=>⟨_,gB.flat (fun j=>by cases j<;>rfl) (fun j hj=>by
  have:1≤j:=by unfold vA at hj;omega
  obtain⟨k,rfl⟩:∃k,j=k+1:=⟨j-1,by omega⟩
  rfl)⟩
 have hgh:∀(l':List Int) g,vA≤g→(kA [jA.ints .i64 l'] g).live→ρ g=none:=fun l' g hg hl=>by
  have:1≤g:=by unfold vA at hg;omega
  obtain⟨k,rfl⟩:∃k,g=k+1:=⟨g-1,by omega⟩
  exact hl.elim
 obtain⟨v0,v1,rfl⟩:∃a b,args'=[a,b]:=by
  have:=hr.length;simp at this
  match args',this with
  | [a,b],_=>exact⟨a,b,rfl⟩
 simp only[eA,and_true]at hr;obtain⟨hr0,hr1⟩:=hr;have hf:v1= .func (.func g) #[] #[]:=by simp only[gA]at hr1;obtain⟨va,vc,rfl,ha,hc⟩:=hr1;have ha:=ha.length;have hc:=hc.length;simp at ha hc;rw[show va= #[]from hB (by simpa using ha.symm),show vc= #[]from hB (by simpa using hc.symm)]
 subst hf;have hl0:(kA [jA.ints .i64 l] 0).live:=trivial;have hb0:kA [jA.ints .i64 l] 0= .ints .i64 l:=rfl;have hset:∀x,uA (kA [jA.ints .i64 l]) 0 x=kA [x]:=by intro x;funext j;cases j<;>simp[uA,kA]
 obtain⟨_,⟨b,n,C,cap,c,h1,h2,h3,h4,h5,ho,hszc,hold⟩|⟨h1,h2,hk⟩⟩:=rE hH hr0 hl0 trivial
 ·subst h5;rw[hb0]at hold;obtain⟨k1,k2,k3⟩:=hold;have hmod:l.length%3=0:=by rw[k1];exact h2
  obtain⟨e,fr,g1,g2,g3⟩:=ho;have hblt:b<w.heap.size:=(Array.getElem?_eq_some_iff.mp g1).1;have hfl:=kQ l hmod;have hdl:(mD l).length*3=n:=by rw[aJ,←k1];omega
  have hH3:HoldsK dI 3 w b 0 (mD l).toArray:=by
   intro j hj;rw[size_flatK]at hj;have hj':j<(mD l).length*3:=by simpa using hj
   have hjl:j<l.length:=by omega
   rw[aj _ _ hj',hfl];have hc:=k3 j hjl;refine⟨by simp[World.cell?,g1,hc],?_⟩;simp only[World.frozen?,g1,Nat.zero_add];have:=g3 j (by omega);simp only[Bool.and_eq_false_iff,decide_eq_false_iff_not];omega
  have hsize:(mD l).toArray.size=n/3:=by simp;omega
  have hcon:=AnyQ.slices_SortFunc_total L 3 aE zE dI (fun _=>rfl) (fun x v hv=>by simp[dI]at hv;rcases hv with rfl|rfl|rfl<;>rfl) cN kl g #[] b 0 cap (mD l).toArray w eg (wX hs b 0 _ w) hH3 hblt (by simp only[hsize];omega) lu;rw[hsize]at hcon;refine Calls.mono hcon ?_;rintro e' w' ⟨rfl,m,os,rfl⟩;rw[List.toList_toArray,v7];refine⟨_,rfl,ρ,kA [jA.ints .i64 (qO l)],fun _ _=>rfl,fun _ _ _ h=>h,hn,hbd,hbl,hgh _,hflat _,?_⟩;have hlen3:(kG (mD l)).length*3=n:=by rw[gK,hdl]
  have hheap:(putRowK dI 3 (Sort.ahead w m) b 0 (kG (mD l)).toArray).heap=w.heap.modify b (onCells (putCells id 0 (flatK dI 3 (kG (mD l)).toArray))):=rfl;have hown:iV (putRowK dI 3 (Sort.ahead w m) b 0 (kG (mD l)).toArray) b (putCells id 0 (flatK dI 3 (kG (mD l)).toArray) c).size (putCells id 0 (flatK dI 3 (kG (mD l)).toArray) c):=by refine⟨e,fr,?_,rfl,fun i hi=>g3 i (by simp[putCells]at hi;omega)⟩;rw[hheap,hI,if_pos rfl,g1];rfl
  have hcs:(putCells id 0 (flatK dI 3 (kG (mD l)).toArray) c).size=c.size:=by simp[putCells]
  have hp:ρ 0=some ⟨some b,n,(putCells id 0 (flatK dI 3 (kG (mD l)).toArray) c).size⟩:=by rw[hcs,hszc];exact h1
  have hholds:tB ρ (av F (cA ρ (kA [jA.ints .i64 l]))) w n (putCells id 0 (flatK dI 3 (kG (mD l)).toArray) c) (.ints .i64 (qO l)):=by
   refine⟨by rw[sM hmod,k1],by rw[hcs];exact k2,fun i hi=>?_⟩;rw[sM hmod]at hi;rw[xU,if_pos (by omega)];have:i<c.size:=by omega
   rw[Array.getElem?_eq_getElem this,Option.map_some];rfl
  obtain⟨q1,q2⟩:=dA.write (w':=putRowK dI 3 (Sort.ahead w m) b 0 (kG (mD l)).toArray) hH hl0 hp ⟨by rw[hheap];simp,⟨rfl,rfl,rfl,Nat.le_add_right _ _⟩⟩ (fun b' hb'=>by rw[hheap,hI,if_neg (Ne.symm hb')]) hown hholds;rw[hset]at q1 q2;obtain⟨q3,q4⟩:=q1.grow os;exact⟨q3,gA.of_c _,q2.trans q4⟩
 ·subst h2;rw[hb0]at hk;have hl:l=[]:=by rcases hk with⟨k2,hk2⟩|hk2|⟨_,_,hk2⟩<;>cases hk2;rfl
  subst hl;have hcon:=AnyF.slices_SortFunc_none L none 0 (.func (.func g) #[] #[]) w;refine Calls.mono hcon ?_;rintro e' w' ⟨rfl,rfl⟩;exact⟨_,rfl,ρ,kA [jA.ints .i64 (qO [])],fun _ _=>rfl,fun _ _ _ h=>h,hn,hbd,hbl,hgh _,hflat _,hH,gA.of_c _,iE.refl _ _⟩
end
end Go.Proofs.Ytlofhdoefjmabaa.Ev
namespace Go.Proofs.Ytlofhdoefjmabaa
open Go.Proofs.Ytlofhdoefjmabaa.Ev Go.Shelf
open Go
set_option maxRecDepth 100000
def s7:Go.Shelf.Ren:=⟨fun|6=>46|15=>53|14=>52|28=>65|29=>51|20=>57|21=>58|22=>59|23=>60|24=>61|25=>62|26=>63|27=>64|46=>67|47=>68|48=>69|49=>70|50=>71|57=>72|n=>n,fun|22=>24|24=>23|25=>65|3=>3|39=>73|0=>0|53=>86|55=>70|4=>4|46=>79|45=>78|50=>83|5=>5|9=>9|66=>88|70=>92|76=>94|77=>95|n=>n,fun|n=>n⟩
theorem iz:Go.Proofs.SlLaysF0.n6 Try.prog s7:={
 mixed:=by kernel_rfl
 f6:=⟨Try.f46.name,by decide,Try.func46.trans (congrArg some (by kernel_rfl))⟩
 f14:=⟨Try.f52.name,by decide,Try.func52.trans (congrArg some (by kernel_rfl))⟩
 f15:=Try.func53.trans (congrArg some (by kernel_rfl))
 f20:=⟨Try.f57.name,by decide,Try.func57.trans (congrArg some (by kernel_rfl))⟩
 f21:=⟨Try.f58.name,by decide,Try.func58.trans (congrArg some (by kernel_rfl))⟩
 f22:=⟨Try.f59.name,by decide,Try.func59.trans (congrArg some (by kernel_rfl))⟩
 f23:=⟨Try.f60.name,by decide,Try.func60.trans (congrArg some (by kernel_rfl))⟩
 f24:=⟨Try.f61.name,by decide,Try.func61.trans (congrArg some (by kernel_rfl))⟩
 f25:=⟨Try.f62.name,by decide,Try.func62.trans (congrArg some (by kernel_rfl))⟩
 f26:=⟨Try.f63.name,by decide,Try.func63.trans (congrArg some (by kernel_rfl))⟩
 f27:=⟨Try.f64.name,by decide,Try.func64.trans (congrArg some (by kernel_rfl))⟩
 f28:=Try.func65.trans (congrArg some (by kernel_rfl))
 f29:=Try.func51.trans (congrArg some (by kernel_rfl))
 f46:=⟨Try.f67.name,by decide,Try.func67.trans (congrArg some (by kernel_rfl))⟩
 f47:=Try.func68.trans (congrArg some (by kernel_rfl))
 f48:=Try.func69.trans (congrArg some (by kernel_rfl))
 f49:=⟨Try.f70.name,by decide,Try.func70.trans (congrArg some (by kernel_rfl))⟩
 f50:=⟨Try.f71.name,by decide,Try.func71.trans (congrArg some (by kernel_rfl))⟩
 f57:=⟨Try.f72.name,by decide,Try.func72.trans (congrArg some (by kernel_rfl))⟩
 t0:=Try.underlying0
 a0:=Try.isAgg0
 z0:=Try.sizeOf0
 v0:=Try.zeroValue0
 t3:=Try.underlying3
 a3:=Try.isAgg3
 z3:=Try.sizeOf3
 v3:=Try.zeroValue3
 t4:=Try.underlying4
 a4:=Try.isAgg4
 z4:=Try.sizeOf4
 v4:=Try.zeroValue4
 t5:=Try.underlying5
 a5:=Try.isAgg5
 z5:=Try.sizeOf5
 v5:=Try.zeroValue5
 t9:=Try.underlying9
 a9:=Try.isAgg9
 z9:=Try.sizeOf9
 v9:=Try.zeroValue9
 t22:=Try.underlying24
 a22:=Try.isAgg24
 z22:=Try.sizeOf24
 v22:=Try.zeroValue24
 t25:=Try.underlying65
 a25:=Try.isAgg65
 z25:=Try.sizeOf65
 v25:=Try.zeroValue65
 t39:=Try.underlying73
 a39:=Try.isAgg73
 z39:=Try.sizeOf73
 v39:=Try.zeroValue73
 t45:=Try.underlying78
 a45:=Try.isAgg78
 z45:=Try.sizeOf78
 v45:=Try.zeroValue78
 t46:=Try.underlying79
 a46:=Try.isAgg79
 z46:=Try.sizeOf79
 v46:=Try.zeroValue79
 t50:=Try.underlying83
 a50:=Try.isAgg83
 z50:=Try.sizeOf83
 v50:=Try.zeroValue83
 t53:=Try.underlying86
 a53:=Try.isAgg86
 z53:=Try.sizeOf86
 v53:=Try.zeroValue86
 t55:=Try.underlying70
 a55:=Try.isAgg70
 z55:=Try.sizeOf70
 v55:=Try.zeroValue70
 t66:=Try.underlying88
 a66:=Try.isAgg88
 z66:=Try.sizeOf88
 v66:=Try.zeroValue88
 t70:=Try.underlying92
 a70:=Try.isAgg92
 z70:=Try.sizeOf92
 v70:=Try.zeroValue92
 t76:=Try.underlying94
 a76:=Try.isAgg94
 z76:=Try.sizeOf94
 v76:=Try.zeroValue94
 t77:=Try.underlying95
 a77:=Try.isAgg95
 z77:=Try.sizeOf95
 v77:=Try.zeroValue95}
theorem dz (a b c:Int):Q39.f 10 [a,b,c]=some (if a≠0 then a else if b≠0 then b else c):=by
 unfold Q39.f;have w1:aA (0+1)=1:=by decide
 have w2:aA (1+1)=2:=by decide
 have w3:aA (2+1)=3:=by decide
 simp only[Q39.l3,w1,w2,w3];have e:∀x:Int,¬x=0→(x != 0)=true:=fun x hx=>by simpa using hx
 by_cases h1:a=0<;>by_cases h2:b=0<;>by_cases h3:c=0<;>simp[h1,h2,h3,e]
theorem pI (N:Nat)(a b:Int):Q38.f N a b=some (if a<b then-1 else if b<a then 1 else 0):=by
 unfold Q38.f Q37.f;by_cases h1:a<b<;>by_cases h2:b<a<;>simp[h1,h2]
theorem s9 (x y:R3):Q40.f 10 x.1 x.2.1 x.2.2 y.1 y.2.1 y.2.2=some (cN x y):=by
 unfold Q40.f cN;rw[pI,pI,pI];simp only[Option.bind_some,dz];congr 1
 repeat' split
 all_goals omega
noncomputable def Q41.f (N:Nat)(l:List Int):Option (List Int):=bif Nat.blt l.length 4611686018427387904 then some (qO l)else none
noncomputable def Q41.ent (N:Nat):jB:={A:=List Int,fresh:=0,imm:=[false,false],dec:=fun args bs=>match args,bs with
 | [.sw 0 3,.fn g [] []],[.ints .i64 l]=>bif Nat.beq g 47 then some (Q41.f N l,fun r=>.one (.c (.tuple #[])) [.ints .i64 r])else none
 |_,_=>none}
theorem Q41.ent_ok (N:Nat):pB Try.prog 46 (Q41.ent N):=by
 intro args bs a enc h;simp only[Q41.ent]at h;split at h
 ·rename_i g l;obtain⟨hg,h⟩:=bA h;have hg:=qA hg;subst hg;have h0:=Option.some.inj h;have h1:=congrArg Prod.fst h0;have h2:=congrArg Prod.snd h0;dsimp only at h1 h2;subst h2;unfold Q41.f at h1;obtain⟨hl,h1⟩:=bA h1;obtain rfl:=Option.some.inj h1;exact u7 iz Try.isAgg23 Try.sizeOf23 ⟨_,Try.func46,by kernel_rfl,by kernel_rfl⟩ (enters_of Try.func47 (by kernel_rfl) rfl) (fun x y=>Q40.spec 10 _ _ _ _ _ _ _ (s9 x y)) l (bB hl)
 ·cases h
open Go.Proofs.Ytlofhdoefjmabaa.Ev
noncomputable def ew:TI:=⟨.slice 24,1,24,[.slice none 0 0]⟩
noncomputable def jz:TI:=⟨.arr 2 23,6,48,[.int .i64 0,.int .i64 0,.int .i64 0,.int .i64 0,.int .i64 0,.int .i64 0]⟩
theorem fV:oC Try.prog 49 ew:=lD (by kernel_rfl) (by kernel_rfl) (by kernel_rfl) (by kernel_rfl) (by kernel_rfl) (by kernel_rfl) (by kernel_rfl) (Try.underlying49) (by kernel_rfl)
theorem ey:oC Try.prog 63 jz:=lD (by kernel_rfl) (by kernel_rfl) (by kernel_rfl) (by kernel_rfl) (by kernel_rfl) (by kernel_rfl) (by kernel_rfl) (Try.underlying63) (by kernel_rfl)
noncomputable def Q42.l6 {R:Type}(N:Nat):Nat→Int→Int→Int→Int→Int→Int→(Int→Int→Int→Int→Int→Option R)→Option R
 |0,_,_,_,_,_,_,_=>none
 |n+1,b,a,c,d,e,f,g=>
  bif decide (a>0)then
   bif !(a==0)then
    Q42.l6 N n a (Int.tmod b a) c d e f g
   else none
  else
  g b c d e f
noncomputable def Q42.l3 {R:Type}(N:Nat):Nat→Int→Int→Int→Int→Int→(Int→Option R)→Option R
 |0,_,_,_,_,_,_=>none
 |n+1,h,i,j,k,a,g=>
  bif decide (a<3)then
   bif (decide (0≤a))&&(decide (a<3))then
    (Q2.f N ([i,j,k].getD a.toNat 0)).bind fun l=>
    Q42.l6 N N h l i j k a
     (fun b c d e f=>
      Q42.l3 N n b c d e (aA (f+1)) g)
   else none
  else
  g h
noncomputable def Q42.f (N:Nat)(b c d:Int):Option (Bool):=
 Q42.l3 N N 0 b c d 0
  (fun a=>
   some (a==1))
noncomputable def Q42.h3:fE:=⟨[(3,.any),(12,.recd [.any,.any,.any]),(13,.any)],[(3,.any)]⟩
noncomputable def Q42.h6:fE:=⟨[(3,.any),(5,.any),(12,.recd [.any,.any,.any]),(13,.any)],[(3,.any),(12,.recd [.any,.any,.any]),(13,.any)]⟩
noncomputable def Q42.c6 (N:Nat):uO:=⟨fun vs H k=>match vs,H with
 | [.c (.int .i64 a),.c (.int .i64 b),.agg [.c (.int .i64 c),.c (.int .i64 d),.c (.int .i64 e)],.c (.int .i64 f)],[]=>Q42.l6 N N a b c d e f (fun g h i j l=>k (.exit 2) ⟨yE Q42.h6.out [.c (.int .i64 g),.agg [.c (.int .i64 h),.c (.int .i64 i),.c (.int .i64 j)],.c (.int .i64 l)],[]⟩)
 |_,_=>none⟩
noncomputable def Q42.c3 (N:Nat):uO:=⟨fun vs H k=>match vs,H with
 | [.c (.int .i64 b),.agg [.c (.int .i64 c),.c (.int .i64 d),.c (.int .i64 e)],.c (.int .i64 f)],[]=>Q42.l3 N N b c d e f (fun a=>k (.exit 0) ⟨yE Q42.h3.out [.c (.int .i64 a)],[]⟩)
 |_,_=>none⟩
noncomputable def Q42.E (N:Nat):nD:=xK [(2,bS),(23,lG),(57,gv)] [(50,Q2.ent N)] [(3,Q42.h3),(6,Q42.h6)] [(6,Q42.c6 N),(3,Q42.c3 N)] N [.tmp 2] [.any] 0 27
noncomputable def Q42.b6:Code:=cB ((fA (bo Try.f45)).getD 1 .skip)
theorem Q42.l6_eq {R:Type}(N n:Nat)(a b c d e f:Int)(k:Ex→St→Option R):
  jC 0 Q42.h6 (fun s k=>mB (Q42.E N) 386 Q42.b6 s k) n [.c (.int .i64 a),.c (.int .i64 b),.agg [.c (.int .i64 c),.c (.int .i64 d),.c (.int .i64 e)],.c (.int .i64 f)] [] k=Q42.l6 N n a b c d e f (fun g h i j l=>k (.exit 2) ⟨yE Q42.h6.out [.c (.int .i64 g),.agg [.c (.int .i64 h),.c (.int .i64 i),.c (.int .i64 j)],.c (.int .i64 l)],[]⟩):=by
 induction n generalizing a b c d e f with
 |zero=>kernel_rfl
 |succ n ih=>
  simp only[Q42.l6,←ih]
  kernel_rfl
noncomputable def Q42.b3:Code:=cB ((fA (bo Try.f45)).getD 0 .skip)
theorem Q42.l3_eq {R:Type}(N n:Nat)(b c d e f:Int)(k:Ex→St→Option R):
  jC 0 Q42.h3 (fun s k=>mB (Q42.E N) 394 Q42.b3 s k) n [.c (.int .i64 b),.agg [.c (.int .i64 c),.c (.int .i64 d),.c (.int .i64 e)],.c (.int .i64 f)] [] k=Q42.l3 N n b c d e f (fun a=>k (.exit 0) ⟨yE Q42.h3.out [.c (.int .i64 a)],[]⟩):=by
 induction n generalizing b c d e f with
 |zero=>kernel_rfl
 |succ n ih=>
  simp only[Q42.l3,←ih]
  kernel_rfl
noncomputable def Q42.dec (v:V)(bs:List jA):Option (Bool):=match v,bs with
 | .c (.bool a),[]=>some a
 |_,_=>none
theorem Q42.f_eq (N:Nat)(a b c:Int):
  iC (Q42.E N) (bo Try.f45) [.agg [.c (.int .i64 a),.c (.int .i64 b),.c (.int .i64 c)]] [] Q42.dec=Q42.f N a b c:=by kernel_rfl
noncomputable def Q42.ent (N:Nat):jB:=oK (Bool) 0 [true] [.recd [.any,.any,.any]] fun
 | [.agg [.c (.int .i64 a),.c (.int .i64 b),.c (.int .i64 c)]]=>some (Q42.f N a b c,fun r=>.one (.c (.bool r)) [])
 |_=>none
theorem Q42.env (N:Nat):wB Try.prog (Q42.E N):=⟨(.cons cD (.cons eC (.cons u4 .nil))),(.cons (Q2.ent_ok N) .nil)⟩
theorem Q42.k6 (N:Nat):dD Try.prog Try.f45 (Q42.E N) (.loop Q42.b6):=vH (Q42.env N) lA 386 (c:=Q42.c6 N) iA.n fun R vs H k r h=>by unfold Q42.c6 at h;dsimp only at h;split at h;exact⟨_,Q42.l6_eq .. ▸h⟩;cases h
theorem Q42.k3 (N:Nat):dD Try.prog Try.f45 (Q42.E N) (.loop Q42.b3):=vH (Q42.env N) lA 394 (c:=Q42.c3 N) (iA.of (l:=[(.loop (cB ((fA (bo Try.f45)).getD 1 .skip)))]) (by kernel_rfl) (iA.cons (Q42.k6 N) iA.nil)) fun R vs H k r h=>by unfold Q42.c3 at h;dsimp only at h;split at h;exact⟨_,Q42.l3_eq .. ▸h⟩;cases h
theorem Q42.spec (N:Nat)(a c d:Int)(r:Bool)(h:Q42.f N a c d=some r):nA Try.prog 45 [.agg [.c (.int .i64 a),.c (.int .i64 c),.c (.int .i64 d)]] [] (.c (.bool r)) ([]):=sB (Q42.env N) lA Try.func45 (iA.of (l:=[(.loop (cB ((fA (bo Try.f45)).getD 0 .skip))),(.loop (cB ((fA (bo Try.f45)).getD 1 .skip)))]) (by kernel_rfl) (iA.cons (Q42.k3 N) (iA.cons (Q42.k6 N) iA.nil))) ((Q42.f_eq ..).trans h) fun v b e=>by unfold Q42.dec at e;split at e<;>cases e;exact⟨rfl,rfl⟩
theorem Q42.ent_ok (N:Nat):pB Try.prog 45 (Q42.ent N):=uB fun v a e h=>by split at h;exact lE (Q:=fun e=>nA _ _ _ _ (e a).pick.1 (e a).pick.2) h fun k=>Q42.spec N _ _ _ a k;cases h
noncomputable def Q43.l10 {R:Type}(N:Nat):Nat→Int→Int→Int→Int→Int→List Int→(Int→Int→Int→List Int→Option R)→Option R
 |0,_,_,_,_,_,_,_=>none
 |n+1,g,e,b,c,a,d,f=>
  bif decide (a≤e)then
   bif !(a==0)then
    bif (Int.tmod c a) != 0 then
     Q43.l10 N n g e b c (aA (a+1)) d f
    else
    bif !(a==0)then
     bif !(a==0)then
      (Q6.f N a b (aA (Int.tdiv (aA (0-c)) a)) e).bind fun h=>
      bif h then
       (Q42.f N a b (aA (Int.tdiv (aA (0-c)) a))).bind fun i=>
       bif i then
        bif kB ((d.length+3)/3) 24 then
         (Q6.f N (aA (0-a)) b (aA (Int.tdiv c a)) e).bind fun j=>
         bif j then
          (Q42.f N (aA (0-a)) b (aA (Int.tdiv c a))).bind fun k=>
          bif k then
           bif kB ((((d++[a,b,aA (Int.tdiv (aA (0-c)) a)]).length)+3)/3) 24 then
            Q43.l10 N n g e b c (aA (a+1)) ((d++[a,b,aA (Int.tdiv (aA (0-c)) a)])++[aA (0-a),b,aA (Int.tdiv c a)]) f
           else none
          else
          Q43.l10 N n g e b c (aA (a+1)) (d++[a,b,aA (Int.tdiv (aA (0-c)) a)]) f
         else
         Q43.l10 N n g e b c (aA (a+1)) (d++[a,b,aA (Int.tdiv (aA (0-c)) a)]) f
        else none
       else
       (Q6.f N (aA (0-a)) b (aA (Int.tdiv c a)) e).bind fun l=>
       bif l then
        (Q42.f N (aA (0-a)) b (aA (Int.tdiv c a))).bind fun m=>
        bif m then
         bif kB ((d.length+3)/3) 24 then
          Q43.l10 N n g e b c (aA (a+1)) (d++[aA (0-a),b,aA (Int.tdiv c a)]) f
         else none
        else
        Q43.l10 N n g e b c (aA (a+1)) d f
       else
       Q43.l10 N n g e b c (aA (a+1)) d f
      else
      (Q6.f N (aA (0-a)) b (aA (Int.tdiv c a)) e).bind fun o=>
      bif o then
       (Q42.f N (aA (0-a)) b (aA (Int.tdiv c a))).bind fun p=>
       bif p then
        bif kB ((d.length+3)/3) 24 then
         Q43.l10 N n g e b c (aA (a+1)) (d++[aA (0-a),b,aA (Int.tdiv c a)]) f
        else none
       else
       Q43.l10 N n g e b c (aA (a+1)) d f
      else
      Q43.l10 N n g e b c (aA (a+1)) d f
     else none
    else none
   else none
  else
  f g e b d
noncomputable def Q43.l6 {R:Type}(N:Nat):Nat→Int→Int→Int→List Int→(List Int→Option R)→Option R
 |0,_,_,_,_,_=>none
 |n+1,g,h,a,i,f=>
  bif decide (a≤h)then
   Q43.l10 N N g h a (aA (Int.tdiv (aA (g- (aA (a*a)))) 4)) 1 i
    (fun b c d e=>
     Q43.l6 N n b c (aA (d+2)) e f)
  else
  f i
noncomputable def Q43.l28 {R:Type}(N:Nat):Nat→Int→Int→Int→Int→List (List Int)→List Bool→List (List Int)→List Int→List Int→(Int→Int→List (List Int)→List Bool→List (List Int)→List Int→List Int→Option R)→Option R
 |0,_,_,_,_,_,_,_,_,_,_=>none
 |n+1,d,e,f,a,c,g,h,b,i,j=>
  bif decide (a<f)then
   bif (decide (0≤a))&&(decide (a<(b.length/3:Int)))then
    Q43.l28 N n d e f (aA (a+1)) (zB [b.getD (a.toNat*3) 0,b.getD ((a.toNat*3)+1) 0,b.getD ((a.toNat*3)+2) 0] c) (aK [b.getD (a.toNat*3) 0,b.getD ((a.toNat*3)+1) 0,b.getD ((a.toNat*3)+2) 0] true c g) h b i j
   else none
  else
  j d e c g h b i
noncomputable def Q43.l23 {R:Type}(N:Nat):Nat→Int→Int→List (List Int)→List Bool→List (List Int)→List Int→(List (List Int)→Option R)→Option R
 |0,_,_,_,_,_,_,_=>none
 |n+1,c,a,d,e,f,b,i=>
  bif decide (a<c)then
   bif (decide (0≤a))&&(decide (a<(b.length/3:Int)))then
    bif rW [b.getD (a.toNat*3) 0,b.getD ((a.toNat*3)+1) 0,b.getD ((a.toNat*3)+2) 0] d e then
     Q43.l23 N n c (aA (a+1)) d e f b i
    else
    (Q11.f N (b.getD (a.toNat*3) 0) (b.getD ((a.toNat*3)+1) 0) (b.getD ((a.toNat*3)+2) 0)).bind fun g=>
    Q43.l28 N N c a (g.1.length/3:Int) 0 d e f g.1 b
     (fun j k l m h o p=>
      bif kB (h.length+1) 24 then
       Q43.l23 N n j (aA (k+1)) l m (h++[o]) p i
      else none)
   else none
  else
  i f
noncomputable def Q43.f (N:Nat)(a:Int):Option (List (List Int)×Int):=
 bif decide (a>65536)then
  some ([],80)
 else
 (Q4.f N a).bind fun e=>
 bif !e then
  some ([],80)
 else
 (Q1.f N a).bind fun f=>
 Q43.l6 N N a f (aA (2- (Int.tmod a 2))) []
  (fun c=>
   (Q41.f N c).bind fun b=>
   Q43.l23 N N (b.length/3:Int) 0 [] [] [] b
    (fun d=>
     some (d,0)))
noncomputable def Q43.h6:fE:=⟨[(0,.any),(4,.any),(5,.row .i64 3),(6,.any)],[(5,.row .i64 3)]⟩
noncomputable def Q43.h10:fE:=⟨[(0,.any),(4,.any),(5,.row .i64 3),(6,.any),(7,.any),(8,.any)],[(0,.any),(4,.any),(5,.row .i64 3),(6,.any)]⟩
noncomputable def Q43.h14:fE:=⟨[(0,.any),(4,.any),(5,.row .i64 3),(6,.any),(7,.any),(8,.any),(65,.recd [.any,.any,.any,.any,.any,.any]),(66,.any)],[(0,.any),(4,.any),(5,.any),(6,.any),(7,.any),(8,.any)]⟩
noncomputable def Q43.h23:fE:=⟨[(11,.any),(12,.nrow .i64 3),(84,.row .i64 3),(85,.any),(86,.any)],[(12,.nrow .i64 3)]⟩
noncomputable def Q43.h28:fE:=⟨[(11,.any),(12,.nrow .i64 3),(15,.row .i64 3),(84,.row .i64 3),(85,.any),(86,.any),(98,.row .i64 3),(99,.any),(100,.any)],[(11,.any),(12,.nrow .i64 3),(15,.row .i64 3),(84,.row .i64 3),(85,.any),(86,.any)]⟩
noncomputable def Q43.c10 (N:Nat):uO:=⟨fun vs H k=>match vs,H with
 | [.c (.int .i64 i),.c (.int .i64 j),.sw 0 3,.c (.int .i64 a),.c (.int .i64 b),.c (.int .i64 c)],[.ints .i64 d]=>Q43.l10 N N i j a b c d (fun e f g h=>k (.exit 2) ⟨yE Q43.h10.out [.c (.int .i64 e),.c (.int .i64 f),.sw 0 3,.c (.int .i64 g)],[.ints .i64 h]⟩)
 |_,_=>none⟩
noncomputable def Q43.c6 (N:Nat):uO:=⟨fun vs H k=>match vs,H with
 | [.c (.int .i64 b),.c (.int .i64 c),.sw 0 3,.c (.int .i64 d)],[.ints .i64 e]=>Q43.l6 N N b c d e (fun a=>k (.exit 0) ⟨yE Q43.h6.out [.sw 0 3],[.ints .i64 a]⟩)
 |_,_=>none⟩
noncomputable def Q43.c28 (N:Nat):uO:=⟨fun vs H k=>match vs,H with
 | [.mref 0,.sw 1 1,.sw 2 3,.sw 3 3,.c (.int .i64 a),.c (.int .i64 b),.sw 2 3,.c (.int .i64 c),.c (.int .i64 d)],[.mp .i64 3 e (.bools f),.nw .i64 3 g none,.ints .i64 h,.ints .i64 i]=>Q43.l28 N N a b c d e f g h i (fun j l m o p q r=>k (.exit 8) ⟨yE Q43.h28.out [.mref 0,.sw 1 1,.sw 2 3,.sw 3 3,.c (.int .i64 j),.c (.int .i64 l)],[.mp .i64 3 m (.bools o),.nw .i64 3 p none,.ints .i64 q,.ints .i64 r]⟩)
 |_,_=>none⟩
noncomputable def Q43.c23 (N:Nat):uO:=⟨fun vs H k=>match vs,H with
 | [.mref 0,.sw 1 1,.sw 2 3,.c (.int .i64 a),.c (.int .i64 b)],[.mp .i64 3 c (.bools d),.nw .i64 3 e none,.ints .i64 f]=>Q43.l23 N N a b c d e f (fun g=>k (.exit 6) ⟨yE Q43.h23.out [.sw 0 1],[.nw .i64 3 g none]⟩)
 |_,_=>none⟩
noncomputable def Q43.E (N:Nat):nD:=xK [(2,bS),(4,lx),(23,lG),(24,eV),(44,jy),(49,ew),(63,jz)] [(38,Q4.ent N),(40,Q1.ent N),(41,Q6.ent N),(45,Q42.ent N),(46,Q41.ent N),(33,Q11.ent N)] [(6,Q43.h6),(10,Q43.h10),(14,Q43.h14),(23,Q43.h23),(28,Q43.h28)] [(10,Q43.c10 N),(6,Q43.c6 N),(28,Q43.c28 N),(23,Q43.c23 N)] 40 [.tmp 2,.tmp 3] [.nrow .i64 3,.any] 0 113 true
noncomputable def Q43.b10:Code:=cB ((fA (bo Try.f29)).getD 1 .skip)
theorem Q43.l10_eq {R:Type}(N n:Nat)(i j a b c:Int)(d:List Int)(k:Ex→St→Option R):
  jC 0 Q43.h10 (fun s k=>mB (Q43.E N) 385 Q43.b10 s k) n [.c (.int .i64 i),.c (.int .i64 j),.sw 0 3,.c (.int .i64 a),.c (.int .i64 b),.c (.int .i64 c)] [.ints .i64 d] k=Q43.l10 N n i j a b c d (fun e f g h=>k (.exit 2) ⟨yE Q43.h10.out [.c (.int .i64 e),.c (.int .i64 f),.sw 0 3,.c (.int .i64 g)],[.ints .i64 h]⟩):=by
 induction n generalizing i j a b c d with
 |zero=>kernel_rfl
 |succ n ih=>
  simp only[Q43.l10,←ih]
  kernel_rfl
noncomputable def Q43.b6:Code:=cB ((fA (bo Try.f29)).getD 0 .skip)
theorem Q43.l6_eq {R:Type}(N n:Nat)(b c d:Int)(e:List Int)(k:Ex→St→Option R):
  jC 0 Q43.h6 (fun s k=>mB (Q43.E N) 392 Q43.b6 s k) n [.c (.int .i64 b),.c (.int .i64 c),.sw 0 3,.c (.int .i64 d)] [.ints .i64 e] k=Q43.l6 N n b c d e (fun a=>k (.exit 0) ⟨yE Q43.h6.out [.sw 0 3],[.ints .i64 a]⟩):=by
 induction n generalizing b c d e with
 |zero=>kernel_rfl
 |succ n ih=>
  simp only[Q43.l6,←ih]
  kernel_rfl
noncomputable def Q43.b28:Code:=cB ((fA (bo Try.f29)).getD 4 .skip)
theorem Q43.l28_eq {R:Type}(N n:Nat)(a b c d:Int)(e:List (List Int))(f:List Bool)(g:List (List Int))(h i:List Int)(k:Ex→St→Option R):
  jC 0 Q43.h28 (fun s k=>mB (Q43.E N) 377 Q43.b28 s k) n [.mref 0,.sw 1 1,.sw 2 3,.sw 3 3,.c (.int .i64 a),.c (.int .i64 b),.sw 2 3,.c (.int .i64 c),.c (.int .i64 d)] [.mp .i64 3 e (.bools f),.nw .i64 3 g none,.ints .i64 h,.ints .i64 i] k=Q43.l28 N n a b c d e f g h i (fun j l m o p q r=>k (.exit 8) ⟨yE Q43.h28.out [.mref 0,.sw 1 1,.sw 2 3,.sw 3 3,.c (.int .i64 j),.c (.int .i64 l)],[.mp .i64 3 m (.bools o),.nw .i64 3 p none,.ints .i64 q,.ints .i64 r]⟩):=by
 induction n generalizing a b c d e f g h i with
 |zero=>kernel_rfl
 |succ n ih=>
  simp only[Q43.l28,←ih]
  kernel_rfl
noncomputable def Q43.b23:Code:=cB ((fA (bo Try.f29)).getD 3 .skip)
theorem Q43.l23_eq {R:Type}(N n:Nat)(a b:Int)(c:List (List Int))(d:List Bool)(e:List (List Int))(f:List Int)(k:Ex→St→Option R):
  jC 0 Q43.h23 (fun s k=>mB (Q43.E N) 388 Q43.b23 s k) n [.mref 0,.sw 1 1,.sw 2 3,.c (.int .i64 a),.c (.int .i64 b)] [.mp .i64 3 c (.bools d),.nw .i64 3 e none,.ints .i64 f] k=Q43.l23 N n a b c d e f (fun g=>k (.exit 6) ⟨yE Q43.h23.out [.sw 0 1],[.nw .i64 3 g none]⟩):=by
 induction n generalizing a b c d e f with
 |zero=>kernel_rfl
 |succ n ih=>
  simp only[Q43.l23,←ih]
  kernel_rfl
noncomputable def Q43.dec (v:V)(bs:List jA):Option (List (List Int)×Int):=match v,bs with
 | .tup [.sw 0 1,.c (.int .i64 b)],[.nw .i64 3 a none]=>some (a,b)
 |_,_=>none
theorem Q43.f_eq (N:Nat)(a:Int):
  iC (Q43.E N) (bo Try.f29) [.c (.int .i64 a)] [] Q43.dec=Q43.f N a:=by kernel_rfl
noncomputable def Q43.ent (N:Nat):jB:=oK (List (List Int)×Int) 1 [true] [.any] fun
 | [.c (.int .i64 a)]=>some (Q43.f N a,fun r=>.one (.tup [.sw 0 1,.c (.int .i64 r.2)]) [.nw .i64 3 r.1 none])
 |_=>none
theorem Q43.env (N:Nat):wB Try.prog (Q43.E N):=⟨(.cons cD (.cons db (.cons eC (.cons tH (.cons eu (.cons fV (.cons ey .nil))))))),(.cons (Q4.ent_ok N) (.cons (Q1.ent_ok N) (.cons (Q6.ent_ok N) (.cons (Q42.ent_ok N) (.cons (Q41.ent_ok N) (.cons (Q11.ent_ok N) .nil))))))⟩
theorem Q43.k28 (N:Nat):dD Try.prog Try.f29 (Q43.E N) (.loop Q43.b28):=vH (Q43.env N) lA 377 (c:=Q43.c28 N) iA.n fun R vs H k r h=>by unfold Q43.c28 at h;dsimp only at h;split at h;exact⟨_,Q43.l28_eq .. ▸h⟩;cases h
theorem Q43.k23 (N:Nat):dD Try.prog Try.f29 (Q43.E N) (.loop Q43.b23):=vH (Q43.env N) lA 388 (c:=Q43.c23 N) (iA.of (l:=[(.loop (cB ((fA (bo Try.f29)).getD 4 .skip)))]) (by kernel_rfl) (iA.cons (Q43.k28 N) iA.nil)) fun R vs H k r h=>by unfold Q43.c23 at h;dsimp only at h;split at h;exact⟨_,Q43.l23_eq .. ▸h⟩;cases h
theorem Q43.k10 (N:Nat):dD Try.prog Try.f29 (Q43.E N) (.loop Q43.b10):=vH (Q43.env N) lA 385 (c:=Q43.c10 N) (iA.of (l:=[(.loop (cB ((fA (bo Try.f29)).getD 2 .skip)))]) (by kernel_rfl) (iA.cons (xL (by kernel_rfl)) iA.nil)) fun R vs H k r h=>by unfold Q43.c10 at h;dsimp only at h;split at h;exact⟨_,Q43.l10_eq .. ▸h⟩;cases h
theorem Q43.k6 (N:Nat):dD Try.prog Try.f29 (Q43.E N) (.loop Q43.b6):=vH (Q43.env N) lA 392 (c:=Q43.c6 N) (iA.of (l:=[(.loop (cB ((fA (bo Try.f29)).getD 1 .skip))),(.loop (cB ((fA (bo Try.f29)).getD 2 .skip)))]) (by kernel_rfl) (iA.cons (Q43.k10 N) (iA.cons (xL (by kernel_rfl)) iA.nil))) fun R vs H k r h=>by unfold Q43.c6 at h;dsimp only at h;split at h;exact⟨_,Q43.l6_eq .. ▸h⟩;cases h
theorem Q43.spec (N:Nat)(a:Int)(r:List (List Int)×Int)(h:Q43.f N a=some r):nA Try.prog 29 [.c (.int .i64 a)] [] (.tup [.sw 0 1,.c (.int .i64 r.2)]) ([.nw .i64 3 r.1 none]):=sB (Q43.env N) lA Try.func29 (iA.of (l:=[(.loop (cB ((fA (bo Try.f29)).getD 0 .skip))),(.loop (cB ((fA (bo Try.f29)).getD 1 .skip))),(.loop (cB ((fA (bo Try.f29)).getD 2 .skip))),(.loop (cB ((fA (bo Try.f29)).getD 3 .skip))),(.loop (cB ((fA (bo Try.f29)).getD 4 .skip)))]) (by kernel_rfl) (iA.cons (Q43.k6 N) (iA.cons (Q43.k10 N) (iA.cons (xL (by kernel_rfl)) (iA.cons (Q43.k23 N) (iA.cons (Q43.k28 N) iA.nil)))))) ((Q43.f_eq ..).trans h) fun v b e=>by unfold Q43.dec at e;split at e<;>cases e;exact⟨rfl,rfl⟩
theorem Q43.ent_ok (N:Nat):pB Try.prog 29 (Q43.ent N):=uB fun v a e h=>by split at h;exact lE (Q:=fun e=>nA _ _ _ _ (e a).pick.1 (e a).pick.2) h fun k=>Q43.spec N _ a k;cases h
noncomputable def Q44.f (N:Nat)(a:Int):Option (Int×Int×Int×Int):=
 bif decide (a>65536)then
  some (0,0,0,80)
 else
 (Q4.f N a).bind fun c=>
 bif !c then
  some (0,0,0,80)
 else
 (Q1.f N a).bind fun b=>
 some (1,aA (b- (dP .i64 (vL .i64 b a) 1)),aA (Int.tdiv (aA ((aA ((aA (b- (dP .i64 (vL .i64 b a) 1)))*(aA (b- (dP .i64 (vL .i64 b a) 1)))))-a)) 4),0)
noncomputable def Q44.E (N:Nat):nD:=xK [(2,bS),(23,lG)] [(38,Q4.ent N),(40,Q1.ent N)] [] [] N [.cell 2 23,.tmp 3] [.recd [.any,.any,.any],.any] 0 29
noncomputable def Q44.dec (v:V)(bs:List jA):Option (Int×Int×Int×Int):=match v,bs with
 | .tup [.agg [.c (.int .i64 a),.c (.int .i64 b),.c (.int .i64 c)],.c (.int .i64 d)],[]=>some (a,b,c,d)
 |_,_=>none
theorem Q44.f_eq (N:Nat)(a:Int):
  iC (Q44.E N) (bo Try.f28) [.c (.int .i64 a)] [] Q44.dec=Q44.f N a:=by kernel_rfl
noncomputable def Q44.ent (N:Nat):jB:=oK (Int×Int×Int×Int) 0 [true] [.any] fun
 | [.c (.int .i64 a)]=>some (Q44.f N a,fun r=>.one (.tup [.agg [.c (.int .i64 r.1),.c (.int .i64 r.2.1),.c (.int .i64 r.2.2.1)],.c (.int .i64 r.2.2.2)]) [])
 |_=>none
theorem Q44.env (N:Nat):wB Try.prog (Q44.E N):=⟨(.cons cD (.cons eC .nil)),(.cons (Q4.ent_ok N) (.cons (Q1.ent_ok N) .nil))⟩
theorem Q44.spec (N:Nat)(a:Int)(r:Int×Int×Int×Int)(h:Q44.f N a=some r):nA Try.prog 28 [.c (.int .i64 a)] [] (.tup [.agg [.c (.int .i64 r.1),.c (.int .i64 r.2.1),.c (.int .i64 r.2.2.1)],.c (.int .i64 r.2.2.2)]) ([]):=sB (Q44.env N) lA Try.func28 iA.n ((Q44.f_eq ..).trans h) fun v b e=>by unfold Q44.dec at e;split at e<;>cases e;exact⟨rfl,rfl⟩
theorem Q44.ent_ok (N:Nat):pB Try.prog 28 (Q44.ent N):=uB fun v a e h=>by split at h;exact lE (Q:=fun e=>nA _ _ _ _ (e a).pick.1 (e a).pick.2) h fun k=>Q44.spec N _ a k;cases h
noncomputable def ka:TI:=⟨.slice 4,1,24,[.slice none 0 0]⟩
theorem ez:oC Try.prog 67 ka:=lD (by kernel_rfl) (by kernel_rfl) (by kernel_rfl) (by kernel_rfl) (by kernel_rfl) (by kernel_rfl) (by kernel_rfl) (Try.underlying67) (by kernel_rfl)
noncomputable def Q46.l3 {R:Type}(N:Nat):Nat→Int→Int→(Int→Option R)→Option R
 |0,_,_,_=>none
 |n+1,c,a,b=>
  bif decide (a>0)then
   bif !(a==0)then
    Q46.l3 N n a (Int.tmod c a) b
   else none
  else
  b c
noncomputable def Q46.f (N:Nat)(a b:Int):Option (Int):=
 (Q17.f N a).bind fun c=>
 (Q17.f N b).bind fun d=>
 Q46.l3 N N c d
  (fun e=>
   some e)
noncomputable def Q46.h3:fE:=⟨[(0,.any),(1,.any)],[(0,.any)]⟩
noncomputable def Q46.c3 (N:Nat):uO:=⟨fun vs H k=>match vs,H with
 | [.c (.int .i64 a),.c (.int .i64 b)],[]=>Q46.l3 N N a b (fun c=>k (.exit 0) ⟨yE Q46.h3.out [.c (.int .i64 c)],[]⟩)
 |_,_=>none⟩
noncomputable def Q46.E (N:Nat):nD:=xK [] [(43,Q17.ent N)] [(3,Q46.h3)] [(3,Q46.c3 N)] N [.tmp 4] [.any] 0 18
noncomputable def Q46.b3:Code:=cB ((fA (bo Try.f56)).getD 0 .skip)
theorem Q46.l3_eq {R:Type}(N n:Nat)(a b:Int)(k:Ex→St→Option R):
  jC 0 Q46.h3 (fun s k=>mB (Q46.E N) 394 Q46.b3 s k) n [.c (.int .i64 a),.c (.int .i64 b)] [] k=Q46.l3 N n a b (fun c=>k (.exit 0) ⟨yE Q46.h3.out [.c (.int .i64 c)],[]⟩):=by
 induction n generalizing a b with
 |zero=>kernel_rfl
 |succ n ih=>
  simp only[Q46.l3,←ih]
  kernel_rfl
noncomputable def Q46.dec (v:V)(bs:List jA):Option (Int):=match v,bs with
 | .c (.int .i64 a),[]=>some a
 |_,_=>none
theorem Q46.f_eq (N:Nat)(a b:Int):
  iC (Q46.E N) (bo Try.f56) [.c (.int .i64 a),.c (.int .i64 b)] [] Q46.dec=Q46.f N a b:=by kernel_rfl
noncomputable def Q46.ent (N:Nat):jB:=oK (Int) 0 [true,true] [.any,.any] fun
 | [.c (.int .i64 a),.c (.int .i64 b)]=>some (Q46.f N a b,fun r=>.one (.c (.int .i64 r)) [])
 |_=>none
theorem Q46.env (N:Nat):wB Try.prog (Q46.E N):=⟨.nil,(.cons (Q17.ent_ok N) .nil)⟩
theorem Q46.k3 (N:Nat):dD Try.prog Try.f56 (Q46.E N) (.loop Q46.b3):=vH (Q46.env N) lA 394 (c:=Q46.c3 N) iA.n fun R vs H k r h=>by unfold Q46.c3 at h;dsimp only at h;split at h;exact⟨_,Q46.l3_eq .. ▸h⟩;cases h
theorem Q46.spec (N:Nat)(a c r:Int)(h:Q46.f N a c=some r):nA Try.prog 56 [.c (.int .i64 a),.c (.int .i64 c)] [] (.c (.int .i64 r)) ([]):=sB (Q46.env N) lA Try.func56 (iA.of (l:=[(.loop (cB ((fA (bo Try.f56)).getD 0 .skip)))]) (by kernel_rfl) (iA.cons (Q46.k3 N) iA.nil)) ((Q46.f_eq ..).trans h) fun v b e=>by unfold Q46.dec at e;split at e<;>cases e;exact⟨rfl,rfl⟩
theorem Q46.ent_ok (N:Nat):pB Try.prog 56 (Q46.ent N):=uB fun v a e h=>by split at h;exact lE (Q:=fun e=>nA _ _ _ _ (e a).pick.1 (e a).pick.2) h fun k=>Q46.spec N _ _ a k;cases h
noncomputable def Q47.f (N:Nat)(b:Int):Option (Int×Int×Int×Int):=
 (Q18.f N b).bind fun c=>
 bif !c then
  some (0,0,0,80)
 else
 bif decide (b>65536)then
  some (0,0,0,80)
 else
 (Q16.f N b).bind fun a=>
 bif (Int.tmod (aA (a-b)) 2) != 0 then
  some (1,aA (a-1),aA (Int.tdiv (aA ((aA ((aA (a-1))*(aA (a-1))))-b)) 4),0)
 else
 some (1,a,aA (Int.tdiv (aA ((aA (a*a))-b)) 4),0)
noncomputable def Q47.E (N:Nat):nD:=xK [(2,bS),(23,lG)] [(36,Q18.ent N),(42,Q16.ent N)] [] [] N [.cell 2 23,.tmp 3] [.recd [.any,.any,.any],.any] 0 32
noncomputable def Q47.dec (v:V)(bs:List jA):Option (Int×Int×Int×Int):=match v,bs with
 | .tup [.agg [.c (.int .i64 a),.c (.int .i64 b),.c (.int .i64 c)],.c (.int .i64 d)],[]=>some (a,b,c,d)
 |_,_=>none
theorem Q47.f_eq (N:Nat)(a:Int):
  iC (Q47.E N) (bo Try.f30) [.c (.int .i64 a)] [] Q47.dec=Q47.f N a:=by kernel_rfl
noncomputable def Q47.ent (N:Nat):jB:=oK (Int×Int×Int×Int) 0 [true] [.any] fun
 | [.c (.int .i64 a)]=>some (Q47.f N a,fun r=>.one (.tup [.agg [.c (.int .i64 r.1),.c (.int .i64 r.2.1),.c (.int .i64 r.2.2.1)],.c (.int .i64 r.2.2.2)]) [])
 |_=>none
theorem Q47.env (N:Nat):wB Try.prog (Q47.E N):=⟨(.cons cD (.cons eC .nil)),(.cons (Q18.ent_ok N) (.cons (Q16.ent_ok N) .nil))⟩
theorem Q47.spec (N:Nat)(a:Int)(r:Int×Int×Int×Int)(h:Q47.f N a=some r):nA Try.prog 30 [.c (.int .i64 a)] [] (.tup [.agg [.c (.int .i64 r.1),.c (.int .i64 r.2.1),.c (.int .i64 r.2.2.1)],.c (.int .i64 r.2.2.2)]) ([]):=sB (Q47.env N) lA Try.func30 iA.n ((Q47.f_eq ..).trans h) fun v b e=>by unfold Q47.dec at e;split at e<;>cases e;exact⟨rfl,rfl⟩
theorem Q47.ent_ok (N:Nat):pB Try.prog 30 (Q47.ent N):=uB fun v a e h=>by split at h;exact lE (Q:=fun e=>nA _ _ _ _ (e a).pick.1 (e a).pick.2) h fun k=>Q47.spec N _ a k;cases h
noncomputable def Q48.l7 {R:Type}(N:Nat):Nat→Int→Int→Int→Int→List Int→(Int→Int→Int→List Int→Option R)→Option R
 |0,_,_,_,_,_,_=>none
 |n+1,d,e,b,a,c,f=>
  bif decide (a≤e)then
   bif b != 0 then
    bif !((aA (4*b))==0)then
     bif (Int.tmod (aA ((aA (a*a))-d)) (aA (4*b))) != 0 then
      Q48.l7 N n d e b (aA (a+1)) c f
     else
     bif !((aA (4*b))==0)then
      (Q20.f N b a (aA (Int.tdiv (aA ((aA (a*a))-d)) (aA (4*b))))).bind fun g=>
      bif g then
       (Q46.f N b a).bind fun h=>
       (Q46.f N h (aA (Int.tdiv (aA ((aA (a*a))-d)) (aA (4*b))))).bind fun i=>
       bif i==1 then
        bif kB ((c.length+3)/3) 24 then
         Q48.l7 N n d e b (aA (a+1)) (c++[b,a,aA (Int.tdiv (aA ((aA (a*a))-d)) (aA (4*b)))]) f
        else none
       else
       Q48.l7 N n d e b (aA (a+1)) c f
      else
      Q48.l7 N n d e b (aA (a+1)) c f
     else none
    else none
   else
   f d e b c
  else
  f d e b c
noncomputable def Q48.l4 {R:Type}(N:Nat):Nat→Int→Int→Int→List Int→(List Int→Option R)→Option R
 |0,_,_,_,_,_=>none
 |n+1,i,f,g,h,e=>
  bif decide (g≤f)then
   Q48.l7 N N i f g 1 h
    (fun a b c d=>
     Q48.l4 N n a b (aA (c+1)) d e)
  else
  e h
noncomputable def Q48.f (N:Nat)(b:Int):Option (List Int):=
 (Q16.f N b).bind fun c=>
 Q48.l4 N N b c (aA (0-c)) []
  (fun a=>
   some a)
noncomputable def Q48.h4:fE:=⟨[(0,.any),(3,.row .i64 3),(4,.any),(5,.any)],[(3,.row .i64 3)]⟩
noncomputable def Q48.h7:fE:=⟨[(0,.any),(3,.row .i64 3),(4,.any),(5,.any),(6,.any)],[(0,.any),(3,.row .i64 3),(4,.any),(5,.any)]⟩
noncomputable def Q48.c7 (N:Nat):uO:=⟨fun vs H k=>match vs,H with
 | [.c (.int .i64 g),.sw 0 3,.c (.int .i64 h),.c (.int .i64 i),.c (.int .i64 a)],[.ints .i64 b]=>Q48.l7 N N g h i a b (fun c d e f=>k (.exit 2) ⟨yE Q48.h7.out [.c (.int .i64 c),.sw 0 3,.c (.int .i64 d),.c (.int .i64 e)],[.ints .i64 f]⟩)
 |_,_=>none⟩
noncomputable def Q48.c4 (N:Nat):uO:=⟨fun vs H k=>match vs,H with
 | [.c (.int .i64 b),.sw 0 3,.c (.int .i64 c),.c (.int .i64 d)],[.ints .i64 e]=>Q48.l4 N N b c d e (fun a=>k (.exit 0) ⟨yE Q48.h4.out [.sw 0 3],[.ints .i64 a]⟩)
 |_,_=>none⟩
noncomputable def Q48.E (N:Nat):nD:=xK [(2,bS),(23,lG),(24,eV)] [(42,Q16.ent N),(23,Q20.ent N),(56,Q46.ent N)] [(4,Q48.h4),(7,Q48.h7)] [(7,Q48.c7 N),(4,Q48.c4 N)] N [.tmp 2] [.il .i64 3] 0 64
noncomputable def Q48.b7:Code:=cB ((fA (bo Try.f48)).getD 1 .skip)
theorem Q48.l7_eq {R:Type}(N n:Nat)(g h i a:Int)(b:List Int)(k:Ex→St→Option R):
  jC 0 Q48.h7 (fun s k=>mB (Q48.E N) 387 Q48.b7 s k) n [.c (.int .i64 g),.sw 0 3,.c (.int .i64 h),.c (.int .i64 i),.c (.int .i64 a)] [.ints .i64 b] k=Q48.l7 N n g h i a b (fun c d e f=>k (.exit 2) ⟨yE Q48.h7.out [.c (.int .i64 c),.sw 0 3,.c (.int .i64 d),.c (.int .i64 e)],[.ints .i64 f]⟩):=by
 induction n generalizing g h i a b with
 |zero=>kernel_rfl
 |succ n ih=>
  simp only[Q48.l7,←ih]
  kernel_rfl
noncomputable def Q48.b4:Code:=cB ((fA (bo Try.f48)).getD 0 .skip)
theorem Q48.l4_eq {R:Type}(N n:Nat)(b c d:Int)(e:List Int)(k:Ex→St→Option R):
  jC 0 Q48.h4 (fun s k=>mB (Q48.E N) 393 Q48.b4 s k) n [.c (.int .i64 b),.sw 0 3,.c (.int .i64 c),.c (.int .i64 d)] [.ints .i64 e] k=Q48.l4 N n b c d e (fun a=>k (.exit 0) ⟨yE Q48.h4.out [.sw 0 3],[.ints .i64 a]⟩):=by
 induction n generalizing b c d e with
 |zero=>kernel_rfl
 |succ n ih=>
  simp only[Q48.l4,←ih]
  kernel_rfl
noncomputable def Q48.dec (v:V)(bs:List jA):Option (List Int):=match v,bs with
 | .il .i64 3 a,[]=>some a
 |_,_=>none
theorem Q48.f_eq (N:Nat)(a:Int):
  iC (Q48.E N) (bo Try.f48) [.c (.int .i64 a)] [] Q48.dec=Q48.f N a:=by kernel_rfl
noncomputable def Q48.ent (N:Nat):jB:=oK (List Int) 0 [true] [.any] fun
 | [.c (.int .i64 a)]=>some (Q48.f N a,fun r=>.one (.il .i64 3 r) [])
 |_=>none
theorem Q48.env (N:Nat):wB Try.prog (Q48.E N):=⟨(.cons cD (.cons eC (.cons tH .nil))),(.cons (Q16.ent_ok N) (.cons (Q20.ent_ok N) (.cons (Q46.ent_ok N) .nil)))⟩
theorem Q48.k7 (N:Nat):dD Try.prog Try.f48 (Q48.E N) (.loop Q48.b7):=vH (Q48.env N) lA 387 (c:=Q48.c7 N) iA.n fun R vs H k r h=>by unfold Q48.c7 at h;dsimp only at h;split at h;exact⟨_,Q48.l7_eq .. ▸h⟩;cases h
theorem Q48.k4 (N:Nat):dD Try.prog Try.f48 (Q48.E N) (.loop Q48.b4):=vH (Q48.env N) lA 393 (c:=Q48.c4 N) (iA.of (l:=[(.loop (cB ((fA (bo Try.f48)).getD 1 .skip)))]) (by kernel_rfl) (iA.cons (Q48.k7 N) iA.nil)) fun R vs H k r h=>by unfold Q48.c4 at h;dsimp only at h;split at h;exact⟨_,Q48.l4_eq .. ▸h⟩;cases h
theorem Q48.spec (N:Nat)(a:Int)(r:List Int)(h:Q48.f N a=some r):nA Try.prog 48 [.c (.int .i64 a)] [] (.il .i64 3 r) ([]):=sB (Q48.env N) lA Try.func48 (iA.of (l:=[(.loop (cB ((fA (bo Try.f48)).getD 0 .skip))),(.loop (cB ((fA (bo Try.f48)).getD 1 .skip)))]) (by kernel_rfl) (iA.cons (Q48.k4 N) (iA.cons (Q48.k7 N) iA.nil))) ((Q48.f_eq ..).trans h) fun v b e=>by unfold Q48.dec at e;split at e<;>cases e;exact⟨rfl,rfl⟩
theorem Q48.ent_ok (N:Nat):pB Try.prog 48 (Q48.ent N):=uB fun v a e h=>by split at h;exact lE (Q:=fun e=>nA _ _ _ _ (e a).pick.1 (e a).pick.2) h fun k=>Q48.spec N _ a k;cases h
noncomputable def Q49.l16 {R:Type}(N:Nat):Nat→List Int→Int→Int→List (List Int)→List Bool→List Int→Int→Int→Int→(List Int→Int→List (List Int)→List Bool→List Int→Int→Int→Int→Option R)→Option R
 |0,_,_,_,_,_,_,_,_,_,_=>none
 |n+1,b,g,a,h,c,i,d,e,f,j=>
  bif decide (a<(b.length/3:Int))then
   bif (decide (0≤a))&&(decide (a<(b.length/3:Int)))then
    bif ((b.getD (a.toNat*3) 0)==d)&&(((b.getD ((a.toNat*3)+1) 0)==e)&&((b.getD ((a.toNat*3)+2) 0)==f))then
     bif (decide (0≤a))&&(decide (a<(c.length:Int)))then
      Q49.l16 N n b g (aA (a+1)) h (c.set a.toNat true) i d e f j
     else none
    else
    Q49.l16 N n b g (aA (a+1)) h c i d e f j
   else none
  else
  j b g h c i d e f
noncomputable def Q49.l13 {R:Type}(N:Nat):Nat→List Int→Int→List (List Int)→List Bool→List Int→Int→Int→Int→(List Int→Int→List (List Int)→List Bool→List Int→Option R)→Option R
 |0,_,_,_,_,_,_,_,_,_=>none
 |n+1,j,e,h,i,a,b,c,d,k=>
  bif (a.length/3:Int)==0 then
   bif kB ((a.length+3)/3) 24 then
    Q49.l16 N N j e 0 h i (a++[b,c,d]) b c d
     (fun l m o p q r s t=>
      (Q21.f N r s t).bind fun f=>
      Q49.l13 N n l m o p q f.1 f.2.1 f.2.2.1 k)
   else none
  else
  bif (decide (0≤e))&&(decide (e<(j.length/3:Int)))then
   bif !((b==(j.getD (e.toNat*3) 0))&&((c==(j.getD ((e.toNat*3)+1) 0))&&(d==(j.getD ((e.toNat*3)+2) 0))))then
    bif kB ((a.length+3)/3) 24 then
     Q49.l16 N N j e 0 h i (a++[b,c,d]) b c d
      (fun u v w x y z y48 y49=>
       (Q21.f N z y48 y49).bind fun g=>
       Q49.l13 N n u v w x y g.1 g.2.1 g.2.2.1 k)
    else none
   else
   k j e h i a
  else none
noncomputable def Q49.l8 {R:Type}(N:Nat):Nat→List Int→Int→List (List Int)→List Bool→(List (List Int)→Option R)→Option R
 |0,_,_,_,_,_=>none
 |n+1,b,a,f,d,e=>
  bif decide (a<(b.length/3:Int))then
   bif (decide (0≤a))&&(decide (a<(d.length:Int)))then
    bif d.getD a.toNat false then
     Q49.l8 N n b (aA (a+1)) f d e
    else
    bif (decide (0≤a))&&(decide (a<(b.length/3:Int)))then
     Q49.l13 N N b a f d [] (b.getD (a.toNat*3) 0) (b.getD ((a.toNat*3)+1) 0) (b.getD ((a.toNat*3)+2) 0)
      (fun g h c i j=>
       bif kB (c.length+1) 24 then
        Q49.l8 N n g (aA (h+1)) (c++[j]) i e
       else none)
    else none
   else none
  else
  e f
noncomputable def Q49.f (N:Nat)(b:Int):Option (List (List Int)×Int):=
 (Q18.f N b).bind fun d=>
 bif !d then
  some ([],80)
 else
 bif decide (b>65536)then
  some ([],80)
 else
 (Q48.f N b).bind fun a=>
 bif decide ((a.length/3:Int)=(a.length/3:Int))&&decide (0≤(a.length/3:Int))&&decide ((a.length/3:Int)≤9223372036854775807)&&kB ((a.length/3:Int).toNat) 1 then
  Q49.l8 N N a 0 [] (List.replicate ((a.length/3:Int).toNat) false)
   (fun c=>
    some (c,0))
 else none
noncomputable def Q49.h8:fE:=⟨[(5,.nrow .i64 3),(6,.il .i64 3),(7,.any),(8,.any)],[(5,.nrow .i64 3)]⟩
noncomputable def Q49.h13:fE:=⟨[(5,.nrow .i64 3),(6,.il .i64 3),(7,.any),(8,.any),(9,.row .i64 3),(10,.box [.any,.any,.any])],[(5,.nrow .i64 3),(6,.il .i64 3),(7,.any),(8,.any),(9,.row .i64 3)]⟩
noncomputable def Q49.h16:fE:=⟨[(5,.nrow .i64 3),(6,.il .i64 3),(7,.any),(8,.any),(9,.row .i64 3),(10,.box [.any,.any,.any]),(11,.any)],[(5,.nrow .i64 3),(6,.il .i64 3),(7,.any),(8,.any),(9,.row .i64 3),(10,.box [.any,.any,.any])]⟩
noncomputable def Q49.c16 (N:Nat):uO:=⟨fun vs H k=>match vs,H with
 | [.sw 0 1,.il .i64 3 a,.sw 1 1,.c (.int .i64 b),.sw 2 3,.ptr 3 0 3,.c (.int .i64 c)],[.nw .i64 3 d none,.bls e,.ints .i64 f,.vals [.c (.int .i64 g),.c (.int .i64 h),.c (.int .i64 i)]]=>Q49.l16 N N a b c d e f g h i (fun j l m o p q r s=>k (.exit 4) ⟨yE Q49.h16.out [.sw 0 1,.il .i64 3 j,.sw 1 1,.c (.int .i64 l),.sw 2 3,.ptr 3 0 3],[.nw .i64 3 m none,.bls o,.ints .i64 p,.vals [.c (.int .i64 q),.c (.int .i64 r),.c (.int .i64 s)]]⟩)
 |_,_=>none⟩
noncomputable def Q49.c13 (N:Nat):uO:=⟨fun vs H k=>match vs,H with
 | [.sw 0 1,.il .i64 3 m,.sw 1 1,.c (.int .i64 o),.sw 2 3,.ptr 3 0 3],[.nw .i64 3 a none,.bls b,.ints .i64 c,.vals [.c (.int .i64 d),.c (.int .i64 e),.c (.int .i64 f)]]=>Q49.l13 N N m o a b c d e f (fun g h i j l=>k (.exit 2) ⟨yE Q49.h13.out [.sw 0 1,.il .i64 3 g,.sw 1 1,.c (.int .i64 h),.sw 2 3],[.nw .i64 3 i none,.bls j,.ints .i64 l]⟩)
 |_,_=>none⟩
noncomputable def Q49.c8 (N:Nat):uO:=⟨fun vs H k=>match vs,H with
 | [.sw 0 1,.il .i64 3 b,.sw 1 1,.c (.int .i64 c)],[.nw .i64 3 d none,.bls e]=>Q49.l8 N N b c d e (fun a=>k (.exit 0) ⟨yE Q49.h8.out [.sw 0 1],[.nw .i64 3 a none]⟩)
 |_,_=>none⟩
noncomputable def Q49.E (N:Nat):nD:=xK [(2,bS),(4,lx),(23,lG),(24,eV),(49,ew),(67,ka)] [(36,Q18.ent N),(48,Q48.ent N),(21,Q21.ent N)] [(8,Q49.h8),(13,Q49.h13),(16,Q49.h16)] [(16,Q49.c16 N),(13,Q49.c13 N),(8,Q49.c8 N)] N [.tmp 2,.tmp 3] [.inl .i64 3,.any] 0 79
noncomputable def Q49.b16:Code:=cB ((fA (bo Try.f31)).getD 2 .skip)
theorem Q49.l16_eq {R:Type}(N n:Nat)(a:List Int)(b c:Int)(d:List (List Int))(e:List Bool)(f:List Int)(g h i:Int)(k:Ex→St→Option R):
  jC 0 Q49.h16 (fun s k=>mB (Q49.E N) 374 Q49.b16 s k) n [.sw 0 1,.il .i64 3 a,.sw 1 1,.c (.int .i64 b),.sw 2 3,.ptr 3 0 3,.c (.int .i64 c)] [.nw .i64 3 d none,.bls e,.ints .i64 f,.vals [.c (.int .i64 g),.c (.int .i64 h),.c (.int .i64 i)]] k=Q49.l16 N n a b c d e f g h i (fun j l m o p q r t=>k (.exit 4) ⟨yE Q49.h16.out [.sw 0 1,.il .i64 3 j,.sw 1 1,.c (.int .i64 l),.sw 2 3,.ptr 3 0 3],[.nw .i64 3 m none,.bls o,.ints .i64 p,.vals [.c (.int .i64 q),.c (.int .i64 r),.c (.int .i64 t)]]⟩):=by
 induction n generalizing a b c d e f g h i with
 |zero=>kernel_rfl
 |succ n ih=>
  simp only[Q49.l16,←ih]
  kernel_rfl
noncomputable def Q49.b13:Code:=cB ((fA (bo Try.f31)).getD 1 .skip)
theorem Q49.l13_eq {R:Type}(N n:Nat)(m:List Int)(o:Int)(a:List (List Int))(b:List Bool)(c:List Int)(d e f:Int)(k:Ex→St→Option R):
  jC 0 Q49.h13 (fun s k=>mB (Q49.E N) 381 Q49.b13 s k) n [.sw 0 1,.il .i64 3 m,.sw 1 1,.c (.int .i64 o),.sw 2 3,.ptr 3 0 3] [.nw .i64 3 a none,.bls b,.ints .i64 c,.vals [.c (.int .i64 d),.c (.int .i64 e),.c (.int .i64 f)]] k=Q49.l13 N n m o a b c d e f (fun g h i j l=>k (.exit 2) ⟨yE Q49.h13.out [.sw 0 1,.il .i64 3 g,.sw 1 1,.c (.int .i64 h),.sw 2 3],[.nw .i64 3 i none,.bls j,.ints .i64 l]⟩):=by
 induction n generalizing m o a b c d e f with
 |zero=>kernel_rfl
 |succ n ih=>
  simp only[Q49.l13,←ih]
  kernel_rfl
noncomputable def Q49.b8:Code:=cB ((fA (bo Try.f31)).getD 0 .skip)
theorem Q49.l8_eq {R:Type}(N n:Nat)(a:List Int)(b:Int)(c:List (List Int))(e:List Bool)(k:Ex→St→Option R):
  jC 0 Q49.h8 (fun s k=>mB (Q49.E N) 390 Q49.b8 s k) n [.sw 0 1,.il .i64 3 a,.sw 1 1,.c (.int .i64 b)] [.nw .i64 3 c none,.bls e] k=Q49.l8 N n a b c e (fun d=>k (.exit 0) ⟨yE Q49.h8.out [.sw 0 1],[.nw .i64 3 d none]⟩):=by
 induction n generalizing a b c e with
 |zero=>kernel_rfl
 |succ n ih=>
  simp only[Q49.l8,←ih]
  kernel_rfl
noncomputable def Q49.dec (v:V)(bs:List jA):Option (List (List Int)×Int):=match v,bs with
 | .tup [.inl .i64 3 a,.c (.int .i64 b)],[]=>some (a,b)
 |_,_=>none
theorem Q49.f_eq (N:Nat)(a:Int):
  iC (Q49.E N) (bo Try.f31) [.c (.int .i64 a)] [] Q49.dec=Q49.f N a:=by kernel_rfl
noncomputable def Q49.ent (N:Nat):jB:=oK (List (List Int)×Int) 0 [true] [.any] fun
 | [.c (.int .i64 a)]=>some (Q49.f N a,fun r=>.one (.tup [.inl .i64 3 r.1,.c (.int .i64 r.2)]) [])
 |_=>none
theorem Q49.env (N:Nat):wB Try.prog (Q49.E N):=⟨(.cons cD (.cons db (.cons eC (.cons tH (.cons fV (.cons ez .nil)))))),(.cons (Q18.ent_ok N) (.cons (Q48.ent_ok N) (.cons (Q21.ent_ok N) .nil)))⟩
theorem Q49.k16 (N:Nat):dD Try.prog Try.f31 (Q49.E N) (.loop Q49.b16):=vH (Q49.env N) lA 374 (c:=Q49.c16 N) iA.n fun R vs H k r h=>by unfold Q49.c16 at h;dsimp only at h;split at h;exact⟨_,Q49.l16_eq .. ▸h⟩;cases h
theorem Q49.k13 (N:Nat):dD Try.prog Try.f31 (Q49.E N) (.loop Q49.b13):=vH (Q49.env N) lA 381 (c:=Q49.c13 N) (iA.of (l:=[(.loop (cB ((fA (bo Try.f31)).getD 2 .skip)))]) (by kernel_rfl) (iA.cons (Q49.k16 N) iA.nil)) fun R vs H k r h=>by unfold Q49.c13 at h;dsimp only at h;split at h;exact⟨_,Q49.l13_eq .. ▸h⟩;cases h
theorem Q49.k8 (N:Nat):dD Try.prog Try.f31 (Q49.E N) (.loop Q49.b8):=vH (Q49.env N) lA 390 (c:=Q49.c8 N) (iA.of (l:=[(.loop (cB ((fA (bo Try.f31)).getD 1 .skip))),(.loop (cB ((fA (bo Try.f31)).getD 2 .skip)))]) (by kernel_rfl) (iA.cons (Q49.k13 N) (iA.cons (Q49.k16 N) iA.nil))) fun R vs H k r h=>by unfold Q49.c8 at h;dsimp only at h;split at h;exact⟨_,Q49.l8_eq .. ▸h⟩;cases h
theorem Q49.spec (N:Nat)(a:Int)(r:List (List Int)×Int)(h:Q49.f N a=some r):nA Try.prog 31 [.c (.int .i64 a)] [] (.tup [.inl .i64 3 r.1,.c (.int .i64 r.2)]) ([]):=sB (Q49.env N) lA Try.func31 (iA.of (l:=[(.loop (cB ((fA (bo Try.f31)).getD 0 .skip))),(.loop (cB ((fA (bo Try.f31)).getD 1 .skip))),(.loop (cB ((fA (bo Try.f31)).getD 2 .skip)))]) (by kernel_rfl) (iA.cons (Q49.k8 N) (iA.cons (Q49.k13 N) (iA.cons (Q49.k16 N) iA.nil)))) ((Q49.f_eq ..).trans h) fun v b e=>by unfold Q49.dec at e;split at e<;>cases e;exact⟨rfl,rfl⟩
theorem Q49.ent_ok (N:Nat):pB Try.prog 31 (Q49.ent N):=uB fun v a e h=>by split at h;exact lE (Q:=fun e=>nA _ _ _ _ (e a).pick.1 (e a).pick.2) h fun k=>Q49.spec N _ a k;cases h
noncomputable def Q50.l14 {R:Type}(N:Nat):Nat→List (List Int)→Int→Int→Int→Int→Int→List (List Int)→List (List Int)→(List (List Int)→Int→Int→Int→List (List Int)→List (List Int)→Option R)→Option R
 |0,_,_,_,_,_,_,_,_,_=>none
 |n+1,d,a,e,f,g,b,c,h,i=>
  bif decide (b<g)then
   bif (decide (0≤a))&&(decide (a<(c.length:Int)))then
    bif (decide (0≤b))&&(decide (b<(((c.getD a.toNat []).length)/3:Int)))then
     Q50.l14 N n d a e f g (aA (b+1)) (c.set a.toNat ((((c.getD a.toNat []).set (b.toNat*3) 0).set ((b.toNat*3)+1) 77).set ((b.toNat*3)+2) 0)) h i
    else none
   else none
  else
  i d a e f c h
noncomputable def Q50.l9 {R:Type}(N:Nat):Nat→List (List Int)→Int→Int→List (List Int)→List (List Int)→(List (List Int)→List (List Int)→List (List Int)→Option R)→(Bool→Option R)→Option R
 |0,_,_,_,_,_,_,_=>none
 |n+1,h,p,a,c,d,o,kr=>
  bif decide (a<p)then
   bif (decide (0≤a))&&(decide (a<(c.length:Int)))then
    bif (decide (0≤a))&&(decide (a<(h.length:Int)))then
     (Q27.f N (c.getD a.toNat []) (h.getD a.toNat [])).bind fun i=>
     bif !i then
      kr false
     else
     bif (decide (0≤a))&&(decide (a<(d.length:Int)))then
      bif (decide (0≤a))&&(decide (a<(h.length:Int)))then
       (Q27.f N (d.getD a.toNat []) (h.getD a.toNat [])).bind fun j=>
       bif !j then
        kr false
       else
       bif (decide (0≤a))&&(decide (a<(c.length:Int)))then
        Q50.l14 N N h a p a ((((c.set a.toNat (c.getD a.toNat [])).getD a.toNat []).length)/3:Int) 0 ((c.set a.toNat (c.getD a.toNat [])).set a.toNat ((c.set a.toNat (c.getD a.toNat [])).getD a.toNat [])) (d.set a.toNat (d.getD a.toNat []))
         (fun e b l m f g=>
          bif (decide (0≤b))&&(decide (b<(f.length:Int)))then
           bif kB ((((f.getD b.toNat []).length)+3)/3) 24 then
            bif (decide (0≤b))&&(decide (b<(e.length:Int)))then
             bif ((((f.getD b.toNat []).length)+3)/3:Int) != (aA ((((e.getD b.toNat []).length)/3:Int)+1))then
              kr false
             else
             bif (decide (0≤b))&&(decide (b<(g.length:Int)))then
              bif (decide (0≤b))&&(decide (b<(e.length:Int)))then
               (Q27.f N (g.getD b.toNat []) (e.getD b.toNat [])).bind fun k=>
               bif !k then
                kr false
               else
               Q50.l9 N n e l (aA (m+1)) (f.set b.toNat (f.getD b.toNat [])) (g.set b.toNat (g.getD b.toNat [])) o kr
              else none
             else none
            else none
           else none
          else none)
       else none
      else none
     else none
    else none
   else none
  else
  o h c d
noncomputable def Q50.l23 {R:Type}(N:Nat):Nat→List (List Int)→Int→Int→List (List Int)→(Unit→Option R)→(Bool→Option R)→Option R
 |0,_,_,_,_,_,_=>none
 |n+1,c,d,a,b,f,kr=>
  bif decide (a<d)then
   bif (decide (0≤a))&&(decide (a<(b.length:Int)))then
    bif (decide (0≤a))&&(decide (a<(c.length:Int)))then
     (Q27.f N (b.getD a.toNat []) (c.getD a.toNat [])).bind fun e=>
     bif !e then
      kr false
     else
     Q50.l23 N n c d (aA (a+1)) (b.set a.toNat (b.getD a.toNat [])) f kr
    else none
   else none
  else
  f ()
noncomputable def Q50.f (N:Nat)(a:Int):Option (Bool):=
 (Q44.f N a).bind fun c=>
 (Q43.f N a).bind fun d=>
 (Q43.f N a).bind fun f=>
 (Q47.f N a).bind fun e=>
 (Q49.f N a).bind fun b=>
 bif !((c.1==e.1)&&((c.2.1==e.2.1)&&(c.2.2.1==e.2.2.1)))then
  some false
 else
 bif c.2.2.2 != e.2.2.2 then
  some false
 else
 bif d.2 != b.2 then
  some false
 else
 bif f.2 != b.2 then
  some false
 else
 bif (d.1.length:Int) != (b.1.length:Int)then
  some false
 else
 bif (f.1.length:Int) != (b.1.length:Int)then
  some false
 else
 (Q28.f N).bind fun l=>
 bif !l then
  some false
 else
 Q50.l9 N N b.1 (d.1.length:Int) 0 d.1 f.1
  (fun g h i=>
   Q50.l23 N N g (h.length:Int) 0 i
    (fun(_:Unit)=>
     some true)
    (fun j=>
     some j))
  (fun k=>
   some k)
noncomputable def Q50.ty:List (Nat×TI):=[(2,bS),(23,lG),(24,eV),(49,ew)]
noncomputable def Q50.h9:fE:=⟨[(5,.nrow .i64 3),(7,.nrow .i64 3),(11,.inl .i64 3),(79,.any),(80,.any)],[(5,.nrow .i64 3),(7,.nrow .i64 3),(11,.inl .i64 3)]⟩
noncomputable def Q50.h14:fE:=⟨[(5,.nrow .i64 3),(7,.nrow .i64 3),(11,.inl .i64 3),(13,.any),(79,.any),(80,.any),(109,.any),(110,.any)],[(5,.nrow .i64 3),(7,.nrow .i64 3),(11,.inl .i64 3),(13,.any),(79,.any),(80,.any)]⟩
noncomputable def Q50.h23:fE:=⟨[(7,.nrow .i64 3),(11,.inl .i64 3),(151,.any),(152,.any)],[]⟩
noncomputable def Q50.c14 (N:Nat):uO:=⟨fun vs H k=>match vs,H with
 | [.sw 0 1,.sw 1 1,.inl .i64 3 a,.c (.int .i64 b),.c (.int .i64 c),.c (.int .i64 d),.c (.int .i64 e),.c (.int .i64 f)],[.nw .i64 3 g none,.nw .i64 3 h none]=>Q50.l14 N N a b c d e f g h (fun i j l m o p=>k (.exit 2) ⟨yE Q50.h14.out [.sw 0 1,.sw 1 1,.inl .i64 3 i,.c (.int .i64 j),.c (.int .i64 l),.c (.int .i64 m)],[.nw .i64 3 o none,.nw .i64 3 p none]⟩)
 |_,_=>none⟩
noncomputable def Q50.c9 (N:Nat):uO:=⟨fun vs H k=>match vs,H with
 | [.sw 0 1,.sw 1 1,.inl .i64 3 h,.c (.int .i64 i),.c (.int .i64 a)],[.nw .i64 3 b none,.nw .i64 3 c none]=>Q50.l9 N N h i a b c (fun e f g=>k (.exit 0) ⟨yE Q50.h9.out [.sw 0 1,.sw 1 1,.inl .i64 3 e],[.nw .i64 3 f none,.nw .i64 3 g none]⟩) (fun d=>k (.ret (.c (.bool d)) []) .nil)
 |_,_=>none⟩
noncomputable def Q50.c23 (N:Nat):uO:=⟨fun vs H k=>match vs,H with
 | [.sw 0 1,.inl .i64 3 a,.c (.int .i64 b),.c (.int .i64 c)],[.nw .i64 3 d none]=>Q50.l23 N N a b c d (fun(_:Unit)=>k (.exit 4) ⟨yE Q50.h23.out [],[]⟩) (fun e=>k (.ret (.c (.bool e)) []) .nil)
 |_,_=>none⟩
noncomputable def Q50.E (N:Nat):nD:={ty:=dG Q50.ty,tab:=dG [(28,Q44.ent N),(29,Q43.ent N),(30,Q47.ent N),(31,Q49.ent N),(16,Q28.ent N),(15,Q27.ent N),(3000024,ft)],hint:=dG [(9,Q50.h9),(14,Q50.h14),(23,Q50.h23)],cut:=dG [(14,Q50.c14 N),(9,Q50.c9 N),(23,Q50.c23 N)],N:=N,res:=[.tmp 2],rsh:=[.any],nb:=0,ntmps:=166,own:=false,keep:=true}
noncomputable def Q50.b14:Code:=cB ((fA (bo Try.f7)).getD 1 .skip)
theorem Q50.l14_eq {R:Type}(N n:Nat)(a:List (List Int))(b c d e f:Int)(g h:List (List Int))(k:Ex→St→Option R):
  jC 0 Q50.h14 (fun s k=>mB (Q50.E N) 379 Q50.b14 s k) n [.sw 0 1,.sw 1 1,.inl .i64 3 a,.c (.int .i64 b),.c (.int .i64 c),.c (.int .i64 d),.c (.int .i64 e),.c (.int .i64 f)] [.nw .i64 3 g none,.nw .i64 3 h none] k=Q50.l14 N n a b c d e f g h (fun i j l m o p=>k (.exit 2) ⟨yE Q50.h14.out [.sw 0 1,.sw 1 1,.inl .i64 3 i,.c (.int .i64 j),.c (.int .i64 l),.c (.int .i64 m)],[.nw .i64 3 o none,.nw .i64 3 p none]⟩):=by
 induction n generalizing a b c d e f g h with
 |zero=>kernel_rfl
 |succ n ih=>
  simp only[Q50.l14,←ih]
  kernel_rfl
noncomputable def Q50.b9:Code:=cB ((fA (bo Try.f7)).getD 0 .skip)
theorem Q50.l9_eq {R:Type}(N n:Nat)(h:List (List Int))(i a:Int)(b c:List (List Int))(k:Ex→St→Option R):
  jC 0 Q50.h9 (fun s k=>mB (Q50.E N) 389 Q50.b9 s k) n [.sw 0 1,.sw 1 1,.inl .i64 3 h,.c (.int .i64 i),.c (.int .i64 a)] [.nw .i64 3 b none,.nw .i64 3 c none] k=Q50.l9 N n h i a b c (fun e f g=>k (.exit 0) ⟨yE Q50.h9.out [.sw 0 1,.sw 1 1,.inl .i64 3 e],[.nw .i64 3 f none,.nw .i64 3 g none]⟩) (fun d=>k (.ret (.c (.bool d)) []) .nil):=by
 induction n generalizing h i a b c with
 |zero=>kernel_rfl
 |succ n ih=>
  simp only[Q50.l9,←ih]
  kernel_rfl
noncomputable def Q50.b23:Code:=cB ((fA (bo Try.f7)).getD 2 .skip)
theorem Q50.l23_eq {R:Type}(N n:Nat)(a:List (List Int))(b c:Int)(d:List (List Int))(k:Ex→St→Option R):
  jC 0 Q50.h23 (fun s k=>mB (Q50.E N) 388 Q50.b23 s k) n [.sw 0 1,.inl .i64 3 a,.c (.int .i64 b),.c (.int .i64 c)] [.nw .i64 3 d none] k=Q50.l23 N n a b c d (fun(_:Unit)=>k (.exit 4) ⟨yE Q50.h23.out [],[]⟩) (fun e=>k (.ret (.c (.bool e)) []) .nil):=by
 induction n generalizing a b c d with
 |zero=>kernel_rfl
 |succ n ih=>
  simp only[Q50.l23,←ih]
  kernel_rfl
noncomputable def Q50.dec (v:V)(bs:List jA):Option (Bool):=match v,bs with
 | .c (.bool a),[]=>some a
 |_,_=>none
theorem Q50.f_eq (N:Nat)(a:Int):
  iC (Q50.E N) (bo Try.f7) [.c (.int .i64 a)] [] Q50.dec=Q50.f N a:=by kernel_rfl
theorem Q50.env (N:Nat):wB Try.prog (Q50.E N):=⟨(.cons cD (.cons eC (.cons tH (.cons fV .nil)))),(.cons (Q44.ent_ok N) (.cons (Q43.ent_ok N) (.cons (Q47.ent_ok N) (.cons (Q49.ent_ok N) (.cons (Q28.ent_ok N) (.cons (Q27.ent_ok N) (.cons (au (f:=3000024)) .nil)))))))⟩
theorem Q50.k23 (N:Nat):dD Try.prog Try.f7 (Q50.E N) (.loop Q50.b23):=vH (Q50.env N) lA 388 (c:=Q50.c23 N) iA.n fun R vs H k r h=>by unfold Q50.c23 at h;dsimp only at h;split at h;exact⟨_,Q50.l23_eq .. ▸h⟩;cases h
theorem Q50.k14 (N:Nat):dD Try.prog Try.f7 (Q50.E N) (.loop Q50.b14):=vH (Q50.env N) lA 379 (c:=Q50.c14 N) iA.n fun R vs H k r h=>by unfold Q50.c14 at h;dsimp only at h;split at h;exact⟨_,Q50.l14_eq .. ▸h⟩;cases h
theorem Q50.k9 (N:Nat):dD Try.prog Try.f7 (Q50.E N) (.loop Q50.b9):=vH (Q50.env N) lA 389 (c:=Q50.c9 N) (iA.of (l:=[(.loop (cB ((fA (bo Try.f7)).getD 1 .skip)))]) (by kernel_rfl) (iA.cons (Q50.k14 N) iA.nil)) fun R vs H k r h=>by unfold Q50.c9 at h;dsimp only at h;split at h;exact⟨_,Q50.l9_eq .. ▸h⟩;cases h
theorem Q50.spec (N:Nat)(a:Int)(r:Bool)(h:Q50.f N a=some r):nA Try.prog 7 [.c (.int .i64 a)] [] (.c (.bool r)) ([]):=sB (Q50.env N) lA Try.func7 (iA.of (l:=[(.loop (cB ((fA (bo Try.f7)).getD 0 .skip))),(.loop (cB ((fA (bo Try.f7)).getD 1 .skip))),(.loop (cB ((fA (bo Try.f7)).getD 2 .skip)))]) (by kernel_rfl) (iA.cons (Q50.k9 N) (iA.cons (Q50.k14 N) (iA.cons (Q50.k23 N) iA.nil)))) ((Q50.f_eq ..).trans h) fun v b e=>by unfold Q50.dec at e;split at e<;>cases e;exact⟨rfl,rfl⟩
end Go.Proofs.Ytlofhdoefjmabaa
