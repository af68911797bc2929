import Derived.Test.YtijigofaaefldaaGreatA1
import Derived.Test.YtijigofaaefldaaGreatProg
import Derived.KernelRfl
open Bool renaming noConfusion→hA
open List renaming replicate→hB
open Option.some renaming inj→hC
set_option linter.unusedVariables false
set_option linter.unusedSimpArgs false
namespace Go.Proofs.YtijigofaaefldaaGreat
abbrev W0:=List (List (Bool×List Int×List Int))
abbrev W1:=List (Bool×List Int×List Int)
abbrev W2:=List (List (Bool×List Int))
abbrev W3:=List (Bool×List Int)
abbrev W4:=List (List Int×Int)
abbrev W5:=List (List Int)
abbrev W6:=List Int
abbrev W7:=List Nat
end Go.Proofs.YtijigofaaefldaaGreat
namespace Go.Proofs.YtijigofaaefldaaGreat
open Go.Proofs.YtijigofaaefldaaGreat.Ev
open Go
set_option maxRecDepth 100000
def kI:ByteArray:=⟨#[0,1,2,2,3,3,3,3,4,4,4,4,4,4,4,4,5,5,5,5,5,5,5,5,5,5,5,5,5,5,5,5,6,6,6,6,6,6,6,6,6,6,6,6,6,6,6,6,6,6,6,6,6,6,6,6,6,6,6,6,6,6,6,6,7,7,7,7,7,7,7,7,7,7,7,7,7,7,7,7,7,7,7,7,7,7,7,7,7,7,7,7,7,7,7,7,7,7,7,7,7,7,7,7,7,7,7,7,7,7,7,7,7,7,7,7,7,7,7,7,7,7,7,7,7,7,7,7,8,8,8,8,8,8,8,8,8,8,8,8,8,8,8,8,8,8,8,8,8,8,8,8,8,8,8,8,8,8,8,8,8,8,8,8,8,8,8,8,8,8,8,8,8,8,8,8,8,8,8,8,8,8,8,8,8,8,8,8,8,8,8,8,8,8,8,8,8,8,8,8,8,8,8,8,8,8,8,8,8,8,8,8,8,8,8,8,8,8,8,8,8,8,8,8,8,8,8,8,8,8,8,8,8,8,8,8,8,8,8,8,8,8,8,8,8,8,8,8,8,8,8,8,8,8,8,8]⟩
def Ib:ByteArray:=⟨#[48]⟩
noncomputable def Fm:TI:=⟨.int .i64,1,8,[.int .i64 0]⟩
noncomputable def Iv:TI:=⟨.int .u8,1,1,[.int .u8 0]⟩
noncomputable def Iw:TI:=⟨.str,1,16,[.string ByteArray.empty]⟩
noncomputable def zL:TI:=⟨.slice 56,1,24,[.slice none 0 0]⟩
noncomputable def kE:TI:=⟨.struct [(24,0)],1,24,[.slice none 0 0]⟩
noncomputable def Ii:TI:=⟨.slice 5,1,24,[.slice none 0 0]⟩
noncomputable def jO:TI:=⟨.int .u32,1,4,[.int .u32 0]⟩
noncomputable def aT:TI:=⟨.int .u64,1,8,[.int .u64 0]⟩
theorem bA:Tryz.prog.follows .mixedOrders=true:=by kernel_rfl
theorem iR:cC Tryz.prog 3 Fm:=eC (by kernel_rfl) (by kernel_rfl) (by kernel_rfl) (by kernel_rfl) (by kernel_rfl) (by kernel_rfl) (by kernel_rfl) (Tryz.underlying3) (by kernel_rfl)
theorem pa:cC Tryz.prog 5 Iv:=eC (by kernel_rfl) (by kernel_rfl) (by kernel_rfl) (by kernel_rfl) (by kernel_rfl) (by kernel_rfl) (by kernel_rfl) (Tryz.underlying5) (by kernel_rfl)
theorem pc:cC Tryz.prog 9 Iw:=eC (by kernel_rfl) (by kernel_rfl) (by kernel_rfl) (by kernel_rfl) (by kernel_rfl) (by kernel_rfl) (by kernel_rfl) (Tryz.underlying9) (by kernel_rfl)
theorem gE:cC Tryz.prog 24 zL:=eC (by kernel_rfl) (by kernel_rfl) (by kernel_rfl) (by kernel_rfl) (by kernel_rfl) (by kernel_rfl) (by kernel_rfl) (Tryz.underlying24) (by kernel_rfl)
theorem jB:cC Tryz.prog 26 kE:=eC (by kernel_rfl) (by kernel_rfl) (by kernel_rfl) (by kernel_rfl) (by kernel_rfl) (by kernel_rfl) (by kernel_rfl) (eK Tryz.underlying26 (by kernel_rfl) (by kernel_rfl)) (by kernel_rfl)
theorem Ec:cC Tryz.prog 55 Ii:=eC (by kernel_rfl) (by kernel_rfl) (by kernel_rfl) (by kernel_rfl) (by kernel_rfl) (by kernel_rfl) (by kernel_rfl) (Tryz.underlying55) (by kernel_rfl)
theorem fF:cC Tryz.prog 56 jO:=eC (by kernel_rfl) (by kernel_rfl) (by kernel_rfl) (by kernel_rfl) (by kernel_rfl) (by kernel_rfl) (by kernel_rfl) (Tryz.underlying56) (by kernel_rfl)
theorem zG:cC Tryz.prog 68 aT:=eC (by kernel_rfl) (by kernel_rfl) (by kernel_rfl) (by kernel_rfl) (by kernel_rfl) (by kernel_rfl) (by kernel_rfl) (Tryz.underlying68) (by kernel_rfl)
noncomputable def Q0.f (N:Nat)(a:Int):Option (Int):=
 bif decide (a≥65536)then
  bif decide ((Int.fdiv a (2^16))≥256)then
   bif (decide (0≤(fL (Int.fdiv (Int.fdiv a (2^16)) (2^8)))))&&(decide ((fL (Int.fdiv (Int.fdiv a (2^16)) (2^8)))<(kI.size:Int)))then
    some (fA (24+(fA (pG kI ((fL (Int.fdiv (Int.fdiv a (2^16)) (2^8))).toNat)))))
   else none
  else
  bif (decide (0≤(fL (Int.fdiv a (2^16)))))&&(decide ((fL (Int.fdiv a (2^16)))<(kI.size:Int)))then
   some (fA (16+(fA (pG kI ((fL (Int.fdiv a (2^16))).toNat)))))
  else none
 else
 bif decide (a≥256)then
  bif (decide (0≤(fL (Int.fdiv a (2^8)))))&&(decide ((fL (Int.fdiv a (2^8)))<(kI.size:Int)))then
   some (fA (8+(fA (pG kI ((fL (Int.fdiv a (2^8))).toNat)))))
  else none
 else
 bif (decide (0≤(fL a)))&&(decide ((fL a)<(kI.size:Int)))then
  some (fA (0+(fA (pG kI ((fL a).toNat)))))
 else none
noncomputable def Q0.E (N:Nat):aC:=mD [(3,Fm),(5,Iv),(9,Iw),(56,jO)] [] [] [] N [.tmp 2] [.any] 0 19
noncomputable def Q0.dec (v:V)(bs:List oA):Option (Int):=match v,bs with
 | .c (.int .i64 a),[]=>some a
 |_,_=>none
theorem Q0.f_eq (N:Nat)(a:Int):
  uA (Q0.E N) (bo Tryz.f96) [.c (.int .u32 a)] [] Q0.dec=Q0.f N a:=by kernel_rfl
noncomputable def Q0.ent (N:Nat):rA:=tF (Int) 0 [true] [.any] fun
 | [.c (.int .u32 a)]=>some (Q0.f N a,fun r=>.one (.c (.int .i64 r)) [])
 |_=>none
theorem Q0.env (N:Nat):sA Tryz.prog (Q0.E N):=⟨(.cons iR (.cons pa (.cons pc (.cons fF .nil)))),.nil,fun h=>hA (show false=true from h)⟩
theorem Q0.spec (N:Nat)(a r:Int)(h:Q0.f N a=some r):dA Tryz.prog 96 [.c (.int .u32 a)] [] (.c (.int .i64 r)) ([]):=qA (Q0.env N) bA Tryz.func96 aA.n ((Q0.f_eq ..).trans h) fun v b e=>by unfold Q0.dec at e;split at e<;>cases e;exact⟨rfl,rfl⟩
theorem Q0.ent_ok (N:Nat):pA Tryz.prog 96 (Q0.ent N):=xA fun v a e h=>by split at h;exact gC (Q:=fun e=>dA _ _ _ _ (e a).pick.1 (e a).pick.2) h fun k=>Q0.spec N _ a k;cases h
noncomputable def Q1.f (N:Nat)(a:Int):Option (Int):=
 bif decide (a≥4294967296)then
  bif decide ((Int.fdiv a (2^32))≥65536)then
   bif decide ((Int.fdiv (Int.fdiv a (2^32)) (2^16))≥256)then
    bif (decide (0≤(fL (Int.fdiv (Int.fdiv (Int.fdiv a (2^32)) (2^16)) (2^8)))))&&(decide ((fL (Int.fdiv (Int.fdiv (Int.fdiv a (2^32)) (2^16)) (2^8)))<(kI.size:Int)))then
     some (fA (56+(fA (pG kI ((fL (Int.fdiv (Int.fdiv (Int.fdiv a (2^32)) (2^16)) (2^8))).toNat)))))
    else none
   else
   bif (decide (0≤(fL (Int.fdiv (Int.fdiv a (2^32)) (2^16)))))&&(decide ((fL (Int.fdiv (Int.fdiv a (2^32)) (2^16)))<(kI.size:Int)))then
    some (fA (48+(fA (pG kI ((fL (Int.fdiv (Int.fdiv a (2^32)) (2^16))).toNat)))))
   else none
  else
  bif decide ((Int.fdiv a (2^32))≥256)then
   bif (decide (0≤(fL (Int.fdiv (Int.fdiv a (2^32)) (2^8)))))&&(decide ((fL (Int.fdiv (Int.fdiv a (2^32)) (2^8)))<(kI.size:Int)))then
    some (fA (40+(fA (pG kI ((fL (Int.fdiv (Int.fdiv a (2^32)) (2^8))).toNat)))))
   else none
  else
  bif (decide (0≤(fL (Int.fdiv a (2^32)))))&&(decide ((fL (Int.fdiv a (2^32)))<(kI.size:Int)))then
   some (fA (32+(fA (pG kI ((fL (Int.fdiv a (2^32))).toNat)))))
  else none
 else
 bif decide (a≥65536)then
  bif decide ((Int.fdiv a (2^16))≥256)then
   bif (decide (0≤(fL (Int.fdiv (Int.fdiv a (2^16)) (2^8)))))&&(decide ((fL (Int.fdiv (Int.fdiv a (2^16)) (2^8)))<(kI.size:Int)))then
    some (fA (24+(fA (pG kI ((fL (Int.fdiv (Int.fdiv a (2^16)) (2^8))).toNat)))))
   else none
  else
  bif (decide (0≤(fL (Int.fdiv a (2^16)))))&&(decide ((fL (Int.fdiv a (2^16)))<(kI.size:Int)))then
   some (fA (16+(fA (pG kI ((fL (Int.fdiv a (2^16))).toNat)))))
  else none
 else
 bif decide (a≥256)then
  bif (decide (0≤(fL (Int.fdiv a (2^8)))))&&(decide ((fL (Int.fdiv a (2^8)))<(kI.size:Int)))then
   some (fA (8+(fA (pG kI ((fL (Int.fdiv a (2^8))).toNat)))))
  else none
 else
 bif (decide (0≤(fL a)))&&(decide ((fL a)<(kI.size:Int)))then
  some (fA (0+(fA (pG kI ((fL a).toNat)))))
 else none
noncomputable def Q1.E (N:Nat):aC:=mD [(3,Fm),(5,Iv),(9,Iw),(68,aT)] [] [] [] N [.tmp 2] [.any] 0 25
noncomputable def Q1.dec (v:V)(bs:List oA):Option (Int):=match v,bs with
 | .c (.int .i64 a),[]=>some a
 |_,_=>none
theorem Q1.f_eq (N:Nat)(a:Int):
  uA (Q1.E N) (bo Tryz.f97) [.c (.int .u64 a)] [] Q1.dec=Q1.f N a:=by kernel_rfl
noncomputable def Q1.ent (N:Nat):rA:=tF (Int) 0 [true] [.any] fun
 | [.c (.int .u64 a)]=>some (Q1.f N a,fun r=>.one (.c (.int .i64 r)) [])
 |_=>none
theorem Q1.env (N:Nat):sA Tryz.prog (Q1.E N):=⟨(.cons iR (.cons pa (.cons pc (.cons zG .nil)))),.nil,fun h=>hA (show false=true from h)⟩
theorem Q1.spec (N:Nat)(a r:Int)(h:Q1.f N a=some r):dA Tryz.prog 97 [.c (.int .u64 a)] [] (.c (.int .i64 r)) ([]):=qA (Q1.env N) bA Tryz.func97 aA.n ((Q1.f_eq ..).trans h) fun v b e=>by unfold Q1.dec at e;split at e<;>cases e;exact⟨rfl,rfl⟩
theorem Q1.ent_ok (N:Nat):pA Tryz.prog 97 (Q1.ent N):=xA fun v a e h=>by split at h;exact gC (Q:=fun e=>dA _ _ _ _ (e a).pick.1 (e a).pick.2) h fun k=>Q1.spec N _ a k;cases h
noncomputable def Q2.f (N:Nat)(a:Int):Option (Int):=
 (Q1.f N a).bind fun b=>
 some b
noncomputable def Q2.E (N:Nat):aC:=mD [] [(97,Q1.ent N)] [] [] N [.tmp 2] [.any] 0 8
noncomputable def Q2.dec (v:V)(bs:List oA):Option (Int):=match v,bs with
 | .c (.int .i64 a),[]=>some a
 |_,_=>none
theorem Q2.f_eq (N:Nat)(a:Int):
  uA (Q2.E N) (bo Tryz.f65) [.c (.int .u64 a)] [] Q2.dec=Q2.f N a:=by kernel_rfl
noncomputable def Q2.ent (N:Nat):rA:=tF (Int) 0 [true] [.any] fun
 | [.c (.int .u64 a)]=>some (Q2.f N a,fun r=>.one (.c (.int .i64 r)) [])
 |_=>none
theorem Q2.env (N:Nat):sA Tryz.prog (Q2.E N):=⟨.nil,(.cons (Q1.ent_ok N) .nil),fun h=>hA (show false=true from h)⟩
theorem Q2.spec (N:Nat)(a r:Int)(h:Q2.f N a=some r):dA Tryz.prog 65 [.c (.int .u64 a)] [] (.c (.int .i64 r)) ([]):=qA (Q2.env N) bA Tryz.func65 aA.n ((Q2.f_eq ..).trans h) fun v b e=>by unfold Q2.dec at e;split at e<;>cases e;exact⟨rfl,rfl⟩
theorem Q2.ent_ok (N:Nat):pA Tryz.prog 65 (Q2.ent N):=xA fun v a e h=>by split at h;exact gC (Q:=fun e=>dA _ _ _ _ (e a).pick.1 (e a).pick.2) h fun k=>Q2.spec N _ a k;cases h
noncomputable def Q3.f (N:Nat)(a b c:Int):Option (Int×Int):=
 some (oE ((oE (a-b))-c),Int.fdiv (iF .u32 (bj .u32 (tV .u32 4294967295 a) b) (bj .u32 (tV .u32 4294967295 (tV .u32 a b)) (oE ((oE (a-b))-c)))) (2^31))
noncomputable def Q3.E (N:Nat):aC:=mD [] [] [] [] N [.tmp 6,.tmp 7] [.any,.any] 0 25
noncomputable def Q3.dec (v:V)(bs:List oA):Option (Int×Int):=match v,bs with
 | .tup [.c (.int .u32 a),.c (.int .u32 b)],[]=>some (a,b)
 |_,_=>none
theorem Q3.f_eq (N:Nat)(a b c:Int):
  uA (Q3.E N) (bo Tryz.f124) [.c (.int .u32 a),.c (.int .u32 b),.c (.int .u32 c)] [] Q3.dec=Q3.f N a b c:=by kernel_rfl
noncomputable def Q3.ent (N:Nat):rA:=tF (Int×Int) 0 [true,true,true] [.any,.any,.any] fun
 | [.c (.int .u32 a),.c (.int .u32 b),.c (.int .u32 c)]=>some (Q3.f N a b c,fun r=>.one (.tup [.c (.int .u32 r.1),.c (.int .u32 r.2)]) [])
 |_=>none
theorem Q3.env (N:Nat):sA Tryz.prog (Q3.E N):=⟨.nil,.nil,fun h=>hA (show false=true from h)⟩
theorem Q3.spec (N:Nat)(a c d:Int)(r:Int×Int)(h:Q3.f N a c d=some r):dA Tryz.prog 124 [.c (.int .u32 a),.c (.int .u32 c),.c (.int .u32 d)] [] (.tup [.c (.int .u32 r.1),.c (.int .u32 r.2)]) ([]):=qA (Q3.env N) bA Tryz.func124 aA.n ((Q3.f_eq ..).trans h) fun v b e=>by unfold Q3.dec at e;split at e<;>cases e;exact⟨rfl,rfl⟩
theorem Q3.ent_ok (N:Nat):pA Tryz.prog 124 (Q3.ent N):=xA fun v a e h=>by split at h;exact gC (Q:=fun e=>dA _ _ _ _ (e a).pick.1 (e a).pick.2) h fun k=>Q3.spec N _ _ _ a k;cases h
noncomputable def Q4.f (N:Nat)(a:Int):Option (Int):=
 (Q0.f N a).bind fun b=>
 some (fA (32-b))
noncomputable def Q4.E (N:Nat):aC:=mD [] [(96,Q0.ent N)] [] [] N [.tmp 2] [.any] 0 6
noncomputable def Q4.dec (v:V)(bs:List oA):Option (Int):=match v,bs with
 | .c (.int .i64 a),[]=>some a
 |_,_=>none
theorem Q4.f_eq (N:Nat)(a:Int):
  uA (Q4.E N) (bo Tryz.f120) [.c (.int .u32 a)] [] Q4.dec=Q4.f N a:=by kernel_rfl
noncomputable def Q4.ent (N:Nat):rA:=tF (Int) 0 [true] [.any] fun
 | [.c (.int .u32 a)]=>some (Q4.f N a,fun r=>.one (.c (.int .i64 r)) [])
 |_=>none
theorem Q4.env (N:Nat):sA Tryz.prog (Q4.E N):=⟨.nil,(.cons (Q0.ent_ok N) .nil),fun h=>hA (show false=true from h)⟩
theorem Q4.spec (N:Nat)(a r:Int)(h:Q4.f N a=some r):dA Tryz.prog 120 [.c (.int .u32 a)] [] (.c (.int .i64 r)) ([]):=qA (Q4.env N) bA Tryz.func120 aA.n ((Q4.f_eq ..).trans h) fun v b e=>by unfold Q4.dec at e;split at e<;>cases e;exact⟨rfl,rfl⟩
theorem Q4.ent_ok (N:Nat):pA Tryz.prog 120 (Q4.ent N):=xA fun v a e h=>by split at h;exact gC (Q:=fun e=>dA _ _ _ _ (e a).pick.1 (e a).pick.2) h fun k=>Q4.spec N _ a k;cases h
noncomputable def Q5.l2 {R:Type}(N:Nat):Nat→Nat→Nat→Int→W6→(Nat→Nat→Int→W6→Option R)→Option R
 |0,_,_,_,_,_=>none
 |n+1,b,c,a,d,e=>
  bif decide (a>0)then
   bif (decide (0≤(fA (a-1))))&&(decide ((fA (a-1))<(c:Int)))then
    bif (d.getD (b+((fA (a-1)).toNat)) 0)==0 then
     Q5.l2 N n b c (fA (a-1)) d e
    else
    e b c a d
   else none
  else
  e b c a d
noncomputable def Q5.f (N f e:Nat)(g:W6):Option (Nat×Nat×W6):=
 Q5.l2 N N f e (e:Int) g
  (fun b c a d=>
   bif ((decide (0≤a))&&(decide (a≤a)))&&(decide (a≤(c:Int)))then
    some (b,a.toNat,d)
   else none)
noncomputable def Q5.h2:uB:=⟨[(0,.any),(2,.box [.any]),(3,.any)],[(0,.any),(2,.box [.any]),(3,.any)]⟩
noncomputable def Q5.c2 (N:Nat):mF:=⟨fun vs H k=>match vs,H with
 | [.sl 0 1 c d,.ptr 1 0 1,.c (.int .i64 e)],[.ints .u32 f,.vals [.c (.slice none 0 0)]]=>Q5.l2 N N c d e f (fun g h a b=>k (.exit 0) ⟨tB Q5.h2.out [.sl 0 1 g h,.ptr 1 0 1,.c (.int .i64 a)],[.ints .u32 b,.vals [.c (.slice none 0 0)]]⟩)
 |_,_=>none⟩
noncomputable def Q5.E (N:Nat):aC:=mD [(24,zL),(26,kE),(56,jO)] [] [(2,Q5.h2)] [(2,Q5.c2 N)] N [.cell 2 26] [.recd [.any]] 1 23
noncomputable def Q5.b2:Code:=mA ((cA (bo Tryz.f18)).getD 0 .skip)
theorem Q5.l2_eq {R:Type}(N n c d:Nat)(e:Int)(f:W6)(k:Ex→St→Option R):
  vA 1 Q5.h2 (fun s k=>tA (Q5.E N) 395 Q5.b2 s k) n [.sl 0 1 c d,.ptr 1 0 1,.c (.int .i64 e)] [.ints .u32 f,.vals [.c (.slice none 0 0)]] k=Q5.l2 N n c d e f (fun g h a b=>k (.exit 0) ⟨tB Q5.h2.out [.sl 0 1 g h,.ptr 1 0 1,.c (.int .i64 a)],[.ints .u32 b,.vals [.c (.slice none 0 0)]]⟩):=by
 induction n generalizing c d e f with
 |zero=>kernel_rfl
 |succ n ih=>
  simp only[Q5.l2,←ih]
  kernel_rfl
noncomputable def Q5.dec (v:V)(bs:List oA):Option (Nat×Nat×W6):=match v,bs with
 | .agg [.sl 0 1 a b],[.ints .u32 c]=>some (a,b,c)
 |_,_=>none
theorem Q5.f_eq (N a b:Nat)(c:W6):
  uA (Q5.E N) (bo Tryz.f18) [.sl 0 1 a b] [.ints .u32 c] Q5.dec=Q5.f N a b c:=by kernel_rfl
noncomputable def Q5.ent (N:Nat):rA:={A:=Nat×Nat×W6,fresh:=0,imm:=[false],dec:=fun args bs=>match sC (jA bs) [true] args,bs with
 | [.sl 0 1 a b],[.ints .u32 c]=>some (Q5.f N a b c,fun r=>.one (.agg [.sl 0 1 r.1 r.2.1]) [.ints .u32 r.2.2])
 |_,_=>none}
theorem Q5.env (N:Nat):sA Tryz.prog (Q5.E N):=⟨(.cons gE (.cons jB (.cons fF .nil))),.nil,fun h=>hA (show false=true from h)⟩
theorem Q5.k2 (N:Nat):eB Tryz.prog Tryz.f18 (Q5.E N) (.loop Q5.b2):=xB (Q5.env N) bA 395 (c:=Q5.c2 N) aA.n fun R vs H k r h=>by unfold Q5.c2 at h;dsimp only at h;split at h;exact⟨_,Q5.l2_eq .. ▸h⟩;cases h
theorem Q5.spec (N a c:Nat)(d:W6)(r:Nat×Nat×W6)(h:Q5.f N a c d=some r):dA Tryz.prog 18 [.sl 0 1 a c] [.ints .u32 d] (.agg [.sl 0 1 r.1 r.2.1]) ([.ints .u32 r.2.2]):=qA (Q5.env N) bA Tryz.func18 (aA.of (l:=[(.loop (mA ((cA (bo Tryz.f18)).getD 0 .skip)))]) (by kernel_rfl) (aA.cons (Q5.k2 N) aA.nil)) ((Q5.f_eq ..).trans h) fun v b e=>by unfold Q5.dec at e;split at e<;>cases e;exact⟨rfl,rfl⟩
theorem Q5.ent_ok (N:Nat):pA Tryz.prog 18 (Q5.ent N):=by
 intro args bs a enc h;simp only[Q5.ent]at h;split at h
 ·rename_i hz;have h0:=hC h;have h1:=congrArg Prod.fst h0;have h2:=congrArg Prod.snd h0;dsimp only at h1 h2;subst h2;exact dA.of_asSl (fl:=[true]) (by rw[hz];exact Q5.spec N _ _ _ a h1)
 ·cases h
noncomputable def Q6.f (N:Nat)(a:W6):Option (Int):=
 bif (a.length:Int)==0 then
  some 0
 else
 bif (decide (0≤(fA ((a.length:Int)-1))))&&(decide ((fA ((a.length:Int)-1))<(a.length:Int)))then
  (Q0.f N (a.getD ((fA ((a.length:Int)-1)).toNat) 0)).bind fun b=>
  some (fA ((fA (32*(fA ((a.length:Int)-1))))+b))
 else none
noncomputable def Q6.E (N:Nat):aC:=mD [(24,zL),(26,kE),(56,jO)] [(96,Q0.ent N)] [] [] N [.tmp 2] [.any] 0 22
noncomputable def Q6.dec (v:V)(bs:List oA):Option (Int):=match v,bs with
 | .c (.int .i64 a),[]=>some a
 |_,_=>none
theorem Q6.f_eq (N:Nat)(a:W6):
  uA (Q6.E N) (bo Tryz.f67) [.agg [.il .u32 1 a]] [] Q6.dec=Q6.f N a:=by kernel_rfl
noncomputable def Q6.ent (N:Nat):rA:=tF (Int) 0 [true] [.recd [.il .u32 1]] fun
 | [.agg [.il .u32 1 a]]=>some (Q6.f N a,fun r=>.one (.c (.int .i64 r)) [])
 |_=>none
theorem Q6.env (N:Nat):sA Tryz.prog (Q6.E N):=⟨(.cons gE (.cons jB (.cons fF .nil))),(.cons (Q0.ent_ok N) .nil),fun h=>hA (show false=true from h)⟩
theorem Q6.spec (N:Nat)(a:W6)(r:Int)(h:Q6.f N a=some r):dA Tryz.prog 67 [.agg [.il .u32 1 a]] [] (.c (.int .i64 r)) ([]):=qA (Q6.env N) bA Tryz.func67 aA.n ((Q6.f_eq ..).trans h) fun v b e=>by unfold Q6.dec at e;split at e<;>cases e;exact⟨rfl,rfl⟩
theorem Q6.ent_ok (N:Nat):pA Tryz.prog 67 (Q6.ent N):=xA fun v a e h=>by split at h;exact gC (Q:=fun e=>dA _ _ _ _ (e a).pick.1 (e a).pick.2) h fun k=>Q6.spec N _ a k;cases h
noncomputable def Q7.f (N:Nat)(a:W6):Option (W6×Int):=
 (Q6.f N a).bind fun b=>
 bif decide (b>4096)then
  some ([],3)
 else
 some (a,0)
noncomputable def Q7.E (N:Nat):aC:=mD [(24,zL),(26,kE)] [(67,Q6.ent N)] [] [] N [.cell 2 26,.tmp 3] [.recd [.il .u32 1],.any] 0 9
noncomputable def Q7.dec (v:V)(bs:List oA):Option (W6×Int):=match v,bs with
 | .tup [.agg [.il .u32 1 a],.c (.int .i64 b)],[]=>some (a,b)
 |_,_=>none
theorem Q7.f_eq (N:Nat)(a:W6):
  uA (Q7.E N) (bo Tryz.f100) [.agg [.il .u32 1 a]] [] Q7.dec=Q7.f N a:=by kernel_rfl
noncomputable def Q7.ent (N:Nat):rA:=tF (W6×Int) 0 [true] [.recd [.il .u32 1]] fun
 | [.agg [.il .u32 1 a]]=>some (Q7.f N a,fun r=>.one (.tup [.agg [.il .u32 1 r.1],.c (.int .i64 r.2)]) [])
 |_=>none
theorem Q7.env (N:Nat):sA Tryz.prog (Q7.E N):=⟨(.cons gE (.cons jB .nil)),(.cons (Q6.ent_ok N) .nil),fun h=>hA (show false=true from h)⟩
theorem Q7.spec (N:Nat)(a:W6)(r:W6×Int)(h:Q7.f N a=some r):dA Tryz.prog 100 [.agg [.il .u32 1 a]] [] (.tup [.agg [.il .u32 1 r.1],.c (.int .i64 r.2)]) ([]):=qA (Q7.env N) bA Tryz.func100 aA.n ((Q7.f_eq ..).trans h) fun v b e=>by unfold Q7.dec at e;split at e<;>cases e;exact⟨rfl,rfl⟩
theorem Q7.ent_ok (N:Nat):pA Tryz.prog 100 (Q7.ent N):=xA fun v a e h=>by split at h;exact gC (Q:=fun e=>dA _ _ _ _ (e a).pick.1 (e a).pick.2) h fun k=>Q7.spec N _ a k;cases h
noncomputable def Q8.f (N:Nat)(b:Int):Option W6:=
 (Q5.f N 0 2 [oE b,oE (Int.fdiv b (2^32))]).bind fun a=>
 some ((a.2.2.drop a.1).take a.2.1)
noncomputable def Q8.E (N:Nat):aC:=mD [(24,zL),(26,kE),(56,jO),(68,aT)] [(18,Q5.ent N)] [] [] N [.cell 2 26] [.recd [.il .u32 1]] 0 10
noncomputable def Q8.dec (v:V)(bs:List oA):Option W6:=match v,bs with
 | .agg [.il .u32 1 a],[]=>some a
 |_,_=>none
theorem Q8.f_eq (N:Nat)(a:Int):
  uA (Q8.E N) (bo Tryz.f23) [.c (.int .u64 a)] [] Q8.dec=Q8.f N a:=by kernel_rfl
noncomputable def Q8.ent (N:Nat):rA:=tF W6 0 [true] [.any] fun
 | [.c (.int .u64 a)]=>some (Q8.f N a,fun r=>.one (.agg [.il .u32 1 r]) [])
 |_=>none
theorem Q8.env (N:Nat):sA Tryz.prog (Q8.E N):=⟨(.cons gE (.cons jB (.cons fF (.cons zG .nil)))),(.cons (Q5.ent_ok N) .nil),fun h=>hA (show false=true from h)⟩
theorem Q8.spec (N:Nat)(a:Int)(r:W6)(h:Q8.f N a=some r):dA Tryz.prog 23 [.c (.int .u64 a)] [] (.agg [.il .u32 1 r]) ([]):=qA (Q8.env N) bA Tryz.func23 aA.n ((Q8.f_eq ..).trans h) fun v b e=>by unfold Q8.dec at e;split at e<;>cases e;exact⟨rfl,rfl⟩
theorem Q8.ent_ok (N:Nat):pA Tryz.prog 23 (Q8.ent N):=xA fun v a e h=>by split at h;exact gC (Q:=fun e=>dA _ _ _ _ (e a).pick.1 (e a).pick.2) h fun k=>Q8.spec N _ a k;cases h
noncomputable def Q9.l3 {R:Type}(N:Nat):Nat→Nat→Nat→Int→Int→Int→W6→(Int→W6→Option R)→Option R
 |0,_,_,_,_,_,_,_=>none
 |n+1,d,e,c,f,b,a,g=>
  bif decide (b≥0)then
   bif (decide (0≤b))&&(decide (b<(e:Int)))then
    bif !((dB c)==0)then
     bif !((dB c)==0)then
      bif (decide (0≤b))&&(decide (b<(e:Int)))then
       Q9.l3 N n d e c (Int.tmod (iF .u64 (dB (f*2^32)) (dB (a.getD (d+b.toNat) 0))) (dB c)) (fA (b-1)) (a.set (d+b.toNat) (oE (dB (Int.tdiv (iF .u64 (dB (f*2^32)) (dB (a.getD (d+b.toNat) 0))) (dB c))))) g
      else none
     else none
    else none
   else none
  else
  g f a
noncomputable def Q9.f (N d c:Nat)(e:Int)(f:W6):Option (Int×W6):=
 Q9.l3 N N d c e 0 (fA ((c:Int)-1)) f
  (fun a b=>
   some (oE a,b))
noncomputable def Q9.h3:uB:=⟨[(0,.any),(1,.any),(5,.any),(6,.any)],[(5,.any)]⟩
noncomputable def Q9.c3 (N:Nat):mF:=⟨fun vs H k=>match vs,H with
 | [.sl 0 1 d e,.c (.int .u32 f),.c (.int .u64 g),.c (.int .i64 h)],[.ints .u32 a]=>Q9.l3 N N d e f g h a (fun b c=>k (.exit 0) ⟨tB Q9.h3.out [.c (.int .u64 b)],[.ints .u32 c]⟩)
 |_,_=>none⟩
noncomputable def Q9.E (N:Nat):aC:=mD [(24,zL),(56,jO),(68,aT)] [] [(3,Q9.h3)] [(3,Q9.c3 N)] N [.tmp 4] [.any] 1 37
noncomputable def Q9.b3:Code:=mA ((cA (bo Tryz.f17)).getD 0 .skip)
theorem Q9.l3_eq {R:Type}(N n d e:Nat)(f g h:Int)(a:W6)(k:Ex→St→Option R):
  vA 1 Q9.h3 (fun s k=>tA (Q9.E N) 394 Q9.b3 s k) n [.sl 0 1 d e,.c (.int .u32 f),.c (.int .u64 g),.c (.int .i64 h)] [.ints .u32 a] k=Q9.l3 N n d e f g h a (fun b c=>k (.exit 0) ⟨tB Q9.h3.out [.c (.int .u64 b)],[.ints .u32 c]⟩):=by
 induction n generalizing d e f g h a with
 |zero=>kernel_rfl
 |succ n ih=>
  simp only[Q9.l3,←ih]
  kernel_rfl
noncomputable def Q9.dec (v:V)(bs:List oA):Option (Int×W6):=match v,bs with
 | .c (.int .u32 a),[.ints .u32 b]=>some (a,b)
 |_,_=>none
theorem Q9.f_eq (N a b:Nat)(c:Int)(d:W6):
  uA (Q9.E N) (bo Tryz.f17) [.sl 0 1 a b,.c (.int .u32 c)] [.ints .u32 d] Q9.dec=Q9.f N a b c d:=by kernel_rfl
noncomputable def Q9.ent (N:Nat):rA:={A:=Int×W6,fresh:=0,imm:=[false,true],dec:=fun args bs=>match sC (jA bs) [true,false] args,bs with
 | [.sl 0 1 a b,.c (.int .u32 c)],[.ints .u32 d]=>some (Q9.f N a b c d,fun r=>.one (.c (.int .u32 r.1)) [.ints .u32 r.2])
 |_,_=>none}
theorem Q9.env (N:Nat):sA Tryz.prog (Q9.E N):=⟨(.cons gE (.cons fF (.cons zG .nil))),.nil,fun h=>hA (show false=true from h)⟩
theorem Q9.k3 (N:Nat):eB Tryz.prog Tryz.f17 (Q9.E N) (.loop Q9.b3):=xB (Q9.env N) bA 394 (c:=Q9.c3 N) aA.n fun R vs H k r h=>by unfold Q9.c3 at h;dsimp only at h;split at h;exact⟨_,Q9.l3_eq .. ▸h⟩;cases h
theorem Q9.spec (N a c:Nat)(d:Int)(f:W6)(r:Int×W6)(h:Q9.f N a c d f=some r):dA Tryz.prog 17 [.sl 0 1 a c,.c (.int .u32 d)] [.ints .u32 f] (.c (.int .u32 r.1)) ([.ints .u32 r.2]):=qA (Q9.env N) bA Tryz.func17 (aA.of (l:=[(.loop (mA ((cA (bo Tryz.f17)).getD 0 .skip)))]) (by kernel_rfl) (aA.cons (Q9.k3 N) aA.nil)) ((Q9.f_eq ..).trans h) fun v b e=>by unfold Q9.dec at e;split at e<;>cases e;exact⟨rfl,rfl⟩
theorem Q9.ent_ok (N:Nat):pA Tryz.prog 17 (Q9.ent N):=by
 intro args bs a enc h;simp only[Q9.ent]at h;split at h
 ·rename_i hz;have h0:=hC h;have h1:=congrArg Prod.fst h0;have h2:=congrArg Prod.snd h0;dsimp only at h1 h2;subst h2;exact dA.of_asSl (fl:=[true,false]) (by rw[hz];exact Q9.spec N _ _ _ _ a h1)
 ·cases h
noncomputable def Q10.l9 {R:Type}(N:Nat):Nat→Nat→Nat→Int→Int→W6→W6→(Nat→Nat→W6→W6→Option R)→Option R
 |0,_,_,_,_,_,_,_=>none
 |n+1,g,e,b,d,c,a,f=>
  bif decide (d<9)then
   bif decide ((e:Int)>0)then
    bif lB (a.length+1) 1 then
     Q10.l9 N n g e (oE (Int.tdiv b 10)) (fA (d+1)) c (a++[fL (oE (48+(Int.tmod b 10)))]) f
    else none
   else
   bif decide (b>0)then
    bif lB (a.length+1) 1 then
     Q10.l9 N n g e (oE (Int.tdiv b 10)) (fA (d+1)) c (a++[fL (oE (48+(Int.tmod b 10)))]) f
    else none
   else
   f g e c a
  else
  f g e c a
noncomputable def Q10.l5 {R:Type}(N:Nat):Nat→Nat→Nat→W6→W6→(W6→Option R)→Option R
 |0,_,_,_,_,_=>none
 |n+1,i,b,k,j,g=>
  bif decide ((b:Int)>0)then
   (Q9.f N i b 1000000000 k).bind fun h=>
   (Q5.f N i b h.2).bind fun a=>
   Q10.l9 N N a.1 a.2.1 h.1 0 a.2.2 j
    (fun c d e f=>
     Q10.l5 N n c d e f g)
  else
  g j
noncomputable def Q10.l14 {R:Type}(N:Nat):Nat→Int→Int→W6→(W6→Option R)→Option R
 |0,_,_,_,_=>none
 |n+1,a,b,c,d=>
  bif decide (a<b)then
   bif (decide (0≤b))&&(decide (b<(c.length:Int)))then
    bif (decide (0≤a))&&(decide (a<(c.length:Int)))then
     bif (decide (0≤a))&&(decide (a<(c.length:Int)))then
      bif (decide (0≤b))&&(decide (b<((c.set a.toNat (c.getD b.toNat 0)).length:Int)))then
       Q10.l14 N n (fA (a+1)) (fA (b-1)) ((c.set a.toNat (c.getD b.toNat 0)).set b.toNat (c.getD a.toNat 0)) d
      else none
     else none
    else none
   else none
  else
  d c
noncomputable def Q10.f (N:Nat)(b:W6):Option (ByteArray):=
 bif (b.length:Int)==0 then
  some Ib
 else
 bif lB b.length 4 then
  Q10.l5 N N 0 b.length b []
   (fun a=>
    Q10.l14 N N 0 (fA ((a.length:Int)-1)) a
     (fun c=>
      some (zD c)))
 else none
noncomputable def Q10.h5:uB:=⟨[(3,.part .u32 1),(4,.row .u8 1)],[(4,.row .u8 1)]⟩
noncomputable def Q10.h9:uB:=⟨[(3,.part .u32 1),(4,.row .u8 1),(5,.any),(6,.any)],[(3,.part .u32 1),(4,.row .u8 1)]⟩
noncomputable def Q10.h14:uB:=⟨[(4,.row .u8 1),(7,.any),(8,.any)],[(4,.row .u8 1)]⟩
noncomputable def Q10.c9 (N:Nat):mF:=⟨fun vs H k=>match vs,H with
 | [.sl 0 1 i j,.sw 1 1,.c (.int .u32 a),.c (.int .i64 b)],[.ints .u32 c,.ints .u8 d]=>Q10.l9 N N i j a b c d (fun e f g h=>k (.exit 2) ⟨tB Q10.h9.out [.sl 0 1 e f,.sw 1 1],[.ints .u32 g,.ints .u8 h]⟩)
 |_,_=>none⟩
noncomputable def Q10.c5 (N:Nat):mF:=⟨fun vs H k=>match vs,H with
 | [.sl 0 1 b c,.sw 1 1],[.ints .u32 d,.ints .u8 e]=>Q10.l5 N N b c d e (fun a=>k (.exit 0) ⟨tB Q10.h5.out [.sw 0 1],[.ints .u8 a]⟩)
 |_,_=>none⟩
noncomputable def Q10.c14 (N:Nat):mF:=⟨fun vs H k=>match vs,H with
 | [.sw 0 1,.c (.int .i64 a),.c (.int .i64 b)],[.ints .u8 c]=>Q10.l14 N N a b c (fun d=>k (.exit 4) ⟨tB Q10.h14.out [.sw 0 1],[.ints .u8 d]⟩)
 |_,_=>none⟩
noncomputable def Q10.E (N:Nat):aC:=mD [(5,Iv),(9,Iw),(24,zL),(26,kE),(55,Ii),(56,jO)] [(17,Q9.ent N),(18,Q5.ent N)] [(5,Q10.h5),(9,Q10.h9),(14,Q10.h14)] [(9,Q10.c9 N),(5,Q10.c5 N),(14,Q10.c14 N)] N [.tmp 2] [.any] 0 72
noncomputable def Q10.b9:Code:=mA ((cA (bo Tryz.f7)).getD 1 .skip)
theorem Q10.l9_eq {R:Type}(N n i j:Nat)(a b:Int)(c d:W6)(k:Ex→St→Option R):
  vA 0 Q10.h9 (fun s k=>tA (Q10.E N) 386 Q10.b9 s k) n [.sl 0 1 i j,.sw 1 1,.c (.int .u32 a),.c (.int .i64 b)] [.ints .u32 c,.ints .u8 d] k=Q10.l9 N n i j a b c d (fun e f g h=>k (.exit 2) ⟨tB Q10.h9.out [.sl 0 1 e f,.sw 1 1],[.ints .u32 g,.ints .u8 h]⟩):=by
 induction n generalizing i j a b c d with
 |zero=>kernel_rfl
 |succ n ih=>
  simp only[Q10.l9,←ih]
  kernel_rfl
noncomputable def Q10.b5:Code:=mA ((cA (bo Tryz.f7)).getD 0 .skip)
theorem Q10.l5_eq {R:Type}(N n a c:Nat)(d e:W6)(k:Ex→St→Option R):
  vA 0 Q10.h5 (fun s k=>tA (Q10.E N) 393 Q10.b5 s k) n [.sl 0 1 a c,.sw 1 1] [.ints .u32 d,.ints .u8 e] k=Q10.l5 N n a c d e (fun b=>k (.exit 0) ⟨tB Q10.h5.out [.sw 0 1],[.ints .u8 b]⟩):=by
 induction n generalizing a c d e with
 |zero=>kernel_rfl
 |succ n ih=>
  simp only[Q10.l5,←ih]
  kernel_rfl
noncomputable def Q10.b14:Code:=mA ((cA (bo Tryz.f7)).getD 2 .skip)
theorem Q10.l14_eq {R:Type}(N n:Nat)(a b:Int)(c:W6)(k:Ex→St→Option R):
  vA 0 Q10.h14 (fun s k=>tA (Q10.E N) 391 Q10.b14 s k) n [.sw 0 1,.c (.int .i64 a),.c (.int .i64 b)] [.ints .u8 c] k=Q10.l14 N n a b c (fun d=>k (.exit 4) ⟨tB Q10.h14.out [.sw 0 1],[.ints .u8 d]⟩):=by
 induction n generalizing a b c with
 |zero=>kernel_rfl
 |succ n ih=>
  simp only[Q10.l14,←ih]
  kernel_rfl
noncomputable def Q10.dec (v:V)(bs:List oA):Option (ByteArray):=match v,bs with
 | .c (.string a),[]=>some a
 |_,_=>none
theorem Q10.f_eq (N:Nat)(a:W6):
  uA (Q10.E N) (bo Tryz.f7) [.agg [.il .u32 1 a]] [] Q10.dec=Q10.f N a:=by kernel_rfl
noncomputable def Q10.ent (N:Nat):rA:=tF (ByteArray) 0 [true] [.recd [.il .u32 1]] fun
 | [.agg [.il .u32 1 a]]=>some (Q10.f N a,fun r=>.one (.c (.string r)) [])
 |_=>none
theorem Q10.env (N:Nat):sA Tryz.prog (Q10.E N):=⟨(.cons pa (.cons pc (.cons gE (.cons jB (.cons Ec (.cons fF .nil)))))),(.cons (Q9.ent_ok N) (.cons (Q5.ent_ok N) .nil)),fun h=>hA (show false=true from h)⟩
theorem Q10.k14 (N:Nat):eB Tryz.prog Tryz.f7 (Q10.E N) (.loop Q10.b14):=xB (Q10.env N) bA 391 (c:=Q10.c14 N) aA.n fun R vs H k r h=>by unfold Q10.c14 at h;dsimp only at h;split at h;exact⟨_,Q10.l14_eq .. ▸h⟩;cases h
theorem Q10.k9 (N:Nat):eB Tryz.prog Tryz.f7 (Q10.E N) (.loop Q10.b9):=xB (Q10.env N) bA 386 (c:=Q10.c9 N) aA.n fun R vs H k r h=>by unfold Q10.c9 at h;dsimp only at h;split at h;exact⟨_,Q10.l9_eq .. ▸h⟩;cases h
theorem Q10.k5 (N:Nat):eB Tryz.prog Tryz.f7 (Q10.E N) (.loop Q10.b5):=xB (Q10.env N) bA 393 (c:=Q10.c5 N) (aA.of (l:=[(.loop (mA ((cA (bo Tryz.f7)).getD 1 .skip)))]) (by kernel_rfl) (aA.cons (Q10.k9 N) aA.nil)) fun R vs H k r h=>by unfold Q10.c5 at h;dsimp only at h;split at h;exact⟨_,Q10.l5_eq .. ▸h⟩;cases h
theorem Q10.spec (N:Nat)(a:W6)(r:ByteArray)(h:Q10.f N a=some r):dA Tryz.prog 7 [.agg [.il .u32 1 a]] [] (.c (.string r)) ([]):=qA (Q10.env N) bA Tryz.func7 (aA.of (l:=[(.loop (mA ((cA (bo Tryz.f7)).getD 0 .skip))),(.loop (mA ((cA (bo Tryz.f7)).getD 1 .skip))),(.loop (mA ((cA (bo Tryz.f7)).getD 2 .skip)))]) (by kernel_rfl) (aA.cons (Q10.k5 N) (aA.cons (Q10.k9 N) (aA.cons (Q10.k14 N) aA.nil)))) ((Q10.f_eq ..).trans h) fun v b e=>by unfold Q10.dec at e;split at e<;>cases e;exact⟨rfl,rfl⟩
theorem Q10.ent_ok (N:Nat):pA Tryz.prog 7 (Q10.ent N):=xA fun v a e h=>by split at h;exact gC (Q:=fun e=>dA _ _ _ _ (e a).pick.1 (e a).pick.2) h fun k=>Q10.spec N _ a k;cases h
noncomputable def Q11.f (N:Nat)(a:W6):Option (Int×Bool):=
 bif (a.length:Int)==0 then
  some (0,true)
 else
 bif (a.length:Int)==1 then
  bif decide (0<(a.length:Int))then
   some (dB (a.getD 0 0),true)
  else none
 else
 bif (a.length:Int)==2 then
  bif decide (1<(a.length:Int))then
   bif decide (0<(a.length:Int))then
    some (iF .u64 (dB ((dB (a.getD 1 0))*2^32)) (dB (a.getD 0 0)),true)
   else none
  else none
 else
 some (0,false)
noncomputable def Q11.E (N:Nat):aC:=mD [(24,zL),(26,kE),(56,jO),(68,aT)] [] [] [] N [.tmp 2,.tmp 3] [.any,.any] 0 30
noncomputable def Q11.dec (v:V)(bs:List oA):Option (Int×Bool):=match v,bs with
 | .tup [.c (.int .u64 a),.c (.bool b)],[]=>some (a,b)
 |_,_=>none
theorem Q11.f_eq (N:Nat)(a:W6):
  uA (Q11.E N) (bo Tryz.f86) [.agg [.il .u32 1 a]] [] Q11.dec=Q11.f N a:=by kernel_rfl
noncomputable def Q11.ent (N:Nat):rA:=tF (Int×Bool) 0 [true] [.recd [.il .u32 1]] fun
 | [.agg [.il .u32 1 a]]=>some (Q11.f N a,fun r=>.one (.tup [.c (.int .u64 r.1),.c (.bool r.2)]) [])
 |_=>none
theorem Q11.env (N:Nat):sA Tryz.prog (Q11.E N):=⟨(.cons gE (.cons jB (.cons fF (.cons zG .nil)))),.nil,fun h=>hA (show false=true from h)⟩
theorem Q11.spec (N:Nat)(a:W6)(r:Int×Bool)(h:Q11.f N a=some r):dA Tryz.prog 86 [.agg [.il .u32 1 a]] [] (.tup [.c (.int .u64 r.1),.c (.bool r.2)]) ([]):=qA (Q11.env N) bA Tryz.func86 aA.n ((Q11.f_eq ..).trans h) fun v b e=>by unfold Q11.dec at e;split at e<;>cases e;exact⟨rfl,rfl⟩
theorem Q11.ent_ok (N:Nat):pA Tryz.prog 86 (Q11.ent N):=xA fun v a e h=>by split at h;exact gC (Q:=fun e=>dA _ _ _ _ (e a).pick.1 (e a).pick.2) h fun k=>Q11.spec N _ a k;cases h
noncomputable def Q12.l6 {R:Type}(N:Nat):Nat→Int→W6→W6→(Unit→Option R)→(Int→Option R)→Option R
 |0,_,_,_,_,_=>none
 |n+1,a,b,c,d,kr=>
  bif decide (a≥0)then
   bif (decide (0≤a))&&(decide (a<(b.length:Int)))then
    bif (decide (0≤a))&&(decide (a<(c.length:Int)))then
     bif decide ((b.getD a.toNat 0)<(c.getD a.toNat 0))then
      kr (-1)
     else
     bif (decide (0≤a))&&(decide (a<(b.length:Int)))then
      bif (decide (0≤a))&&(decide (a<(c.length:Int)))then
       bif decide ((b.getD a.toNat 0)>(c.getD a.toNat 0))then
        kr 1
       else
       Q12.l6 N n (fA (a-1)) b c d kr
      else none
     else none
    else none
   else none
  else
  d ()
noncomputable def Q12.f (N:Nat)(a b:W6):Option (Int):=
 bif (a.length:Int) != (b.length:Int)then
  bif decide ((a.length:Int)<(b.length:Int))then
   some (-1)
  else
  some 1
 else
 Q12.l6 N N (fA ((a.length:Int)-1)) a b
  (fun(_:Unit)=>
   some 0)
  (fun c=>
   some c)
noncomputable def Q12.h6:uB:=⟨[(2,.box [.il .u32 1]),(3,.box [.il .u32 1]),(5,.any)],[]⟩
noncomputable def Q12.c6 (N:Nat):mF:=⟨fun vs H k=>match vs,H with
 | [.ptr 0 0 1,.ptr 1 0 1,.c (.int .i64 a)],[.vals [.il .u32 1 b],.vals [.il .u32 1 c]]=>Q12.l6 N N a b c (fun(_:Unit)=>k (.exit 0) ⟨tB Q12.h6.out [],[]⟩) (fun d=>k (.ret (.c (.int .i64 d)) []) .nil)
 |_,_=>none⟩
noncomputable def Q12.E (N:Nat):aC:=mD [(24,zL),(26,kE),(56,jO)] [] [(6,Q12.h6)] [(6,Q12.c6 N)] N [.tmp 4] [.any] 0 52
noncomputable def Q12.b6:Code:=mA ((cA (bo Tryz.f22)).getD 0 .skip)
theorem Q12.l6_eq {R:Type}(N n:Nat)(a:Int)(b c:W6)(k:Ex→St→Option R):
  vA 0 Q12.h6 (fun s k=>tA (Q12.E N) 394 Q12.b6 s k) n [.ptr 0 0 1,.ptr 1 0 1,.c (.int .i64 a)] [.vals [.il .u32 1 b],.vals [.il .u32 1 c]] k=Q12.l6 N n a b c (fun(_:Unit)=>k (.exit 0) ⟨tB Q12.h6.out [],[]⟩) (fun d=>k (.ret (.c (.int .i64 d)) []) .nil):=by
 induction n generalizing a b c with
 |zero=>kernel_rfl
 |succ n ih=>
  simp only[Q12.l6,←ih]
  kernel_rfl
noncomputable def Q12.dec (v:V)(bs:List oA):Option (Int):=match v,bs with
 | .c (.int .i64 a),[]=>some a
 |_,_=>none
theorem Q12.f_eq (N:Nat)(a b:W6):
  uA (Q12.E N) (bo Tryz.f22) [.agg [.il .u32 1 a],.agg [.il .u32 1 b]] [] Q12.dec=Q12.f N a b:=by kernel_rfl
noncomputable def Q12.ent (N:Nat):rA:=tF (Int) 0 [true,true] [.recd [.il .u32 1],.recd [.il .u32 1]] fun
 | [.agg [.il .u32 1 a],.agg [.il .u32 1 b]]=>some (Q12.f N a b,fun r=>.one (.c (.int .i64 r)) [])
 |_=>none
theorem Q12.env (N:Nat):sA Tryz.prog (Q12.E N):=⟨(.cons gE (.cons jB (.cons fF .nil))),.nil,fun h=>hA (show false=true from h)⟩
theorem Q12.k6 (N:Nat):eB Tryz.prog Tryz.f22 (Q12.E N) (.loop Q12.b6):=xB (Q12.env N) bA 394 (c:=Q12.c6 N) aA.n fun R vs H k r h=>by unfold Q12.c6 at h;dsimp only at h;split at h;exact⟨_,Q12.l6_eq .. ▸h⟩;cases h
theorem Q12.spec (N:Nat)(a c:W6)(r:Int)(h:Q12.f N a c=some r):dA Tryz.prog 22 [.agg [.il .u32 1 a],.agg [.il .u32 1 c]] [] (.c (.int .i64 r)) ([]):=qA (Q12.env N) bA Tryz.func22 (aA.of (l:=[(.loop (mA ((cA (bo Tryz.f22)).getD 0 .skip)))]) (by kernel_rfl) (aA.cons (Q12.k6 N) aA.nil)) ((Q12.f_eq ..).trans h) fun v b e=>by unfold Q12.dec at e;split at e<;>cases e;exact⟨rfl,rfl⟩
theorem Q12.ent_ok (N:Nat):pA Tryz.prog 22 (Q12.ent N):=xA fun v a e h=>by split at h;exact gC (Q:=fun e=>dA _ _ _ _ (e a).pick.1 (e a).pick.2) h fun k=>Q12.spec N _ _ a k;cases h
noncomputable def Q13.l7 {R:Type}(N:Nat):Nat→Int→Int→Int→W6→W6→(W6→Option R)→Option R
 |0,_,_,_,_,_,_=>none
 |n+1,d,f,a,c,b,e=>
  bif decide (a<f)then
   bif (decide (0≤a))&&(decide (a<(b.length:Int)))then
    bif decide (a<(c.length:Int))then
     bif (decide (0≤a))&&(decide (a<(c.length:Int)))then
      bif (decide (0≤a))&&(decide (a<(b.length:Int)))then
       Q13.l7 N n (Int.fdiv (dB ((dB (d+(dB (b.getD a.toNat 0))))+(dB (c.getD a.toNat 0)))) (2^32)) f (fA (a+1)) c (b.set a.toNat (oE (dB ((dB (d+(dB (b.getD a.toNat 0))))+(dB (c.getD a.toNat 0)))))) e
      else none
     else none
    else
    bif (decide (0≤a))&&(decide (a<(b.length:Int)))then
     Q13.l7 N n (Int.fdiv (dB (d+(dB (b.getD a.toNat 0)))) (2^32)) f (fA (a+1)) c (b.set a.toNat (oE (dB (d+(dB (b.getD a.toNat 0)))))) e
    else none
   else none
  else
  e b
noncomputable def Q13.f (N:Nat)(a b:W6):Option (W6×Int):=
 bif decide ((a.length:Int)<(b.length:Int))then
  bif dG (fA ((b.length:Int)+1)) (fA ((b.length:Int)+1))&&decide (0≤fA ((b.length:Int)+1))&&decide (fA ((b.length:Int)+1)≤9223372036854775807)&&lB ((fA ((b.length:Int)+1)).toNat) 4 then
   Q13.l7 N N 0 ((zF (hB ((fA ((b.length:Int)+1)).toNat) (0:Int)) 0 (b.take (min b.length ((hB ((fA ((b.length:Int)+1)).toNat) (0:Int)).length)))).length:Int) 0 a (zF (hB ((fA ((b.length:Int)+1)).toNat) (0:Int)) 0 (b.take (min b.length ((hB ((fA ((b.length:Int)+1)).toNat) (0:Int)).length))))
    (fun h=>
     (Q5.f N 0 h.length h).bind fun c=>
     (Q7.f N ((c.2.2.drop c.1).take c.2.1)).bind fun e=>
     some (e.1,e.2))
  else none
 else
 bif dG (fA ((a.length:Int)+1)) (fA ((a.length:Int)+1))&&decide (0≤fA ((a.length:Int)+1))&&decide (fA ((a.length:Int)+1)≤9223372036854775807)&&lB ((fA ((a.length:Int)+1)).toNat) 4 then
  Q13.l7 N N 0 ((zF (hB ((fA ((a.length:Int)+1)).toNat) (0:Int)) 0 (a.take (min a.length ((hB ((fA ((a.length:Int)+1)).toNat) (0:Int)).length)))).length:Int) 0 b (zF (hB ((fA ((a.length:Int)+1)).toNat) (0:Int)) 0 (a.take (min a.length ((hB ((fA ((a.length:Int)+1)).toNat) (0:Int)).length))))
   (fun g=>
    (Q5.f N 0 g.length g).bind fun d=>
    (Q7.f N ((d.2.2.drop d.1).take d.2.1)).bind fun f=>
    some (f.1,f.2))
 else none
noncomputable def Q13.h7:uB:=⟨[(3,.box [.il .u32 1]),(4,.box [.any]),(6,.row .u32 1),(7,.any),(28,.any),(29,.any)],[(4,.box [.any]),(6,.row .u32 1)]⟩
noncomputable def Q13.c7 (N:Nat):mF:=⟨fun vs H k=>match vs,H with
 | [.ptr 0 0 1,.ptr 1 0 1,.sw 2 1,.c (.int .u64 a),.c (.int .i64 b),.c (.int .i64 c)],[.vals [.il .u32 1 d],.vals [.c (.slice none 0 0)],.ints .u32 e]=>Q13.l7 N N a b c d e (fun f=>k (.exit 0) ⟨tB Q13.h7.out [.ptr 0 0 1,.sw 1 1],[.vals [.c (.slice none 0 0)],.ints .u32 f]⟩)
 |_,_=>none⟩
noncomputable def Q13.E (N:Nat):aC:=mD [(24,zL),(26,kE),(56,jO),(68,aT)] [(18,Q5.ent N),(100,Q7.ent N)] [(7,Q13.h7)] [(7,Q13.c7 N)] N [.cell 4 26,.tmp 5] [.recd [.il .u32 1],.any] 0 65
noncomputable def Q13.b7:Code:=mA ((cA (bo Tryz.f84)).getD 0 .skip)
theorem Q13.l7_eq {R:Type}(N n:Nat)(a b c:Int)(d e:W6)(k:Ex→St→Option R):
  vA 0 Q13.h7 (fun s k=>tA (Q13.E N) 391 Q13.b7 s k) n [.ptr 0 0 1,.ptr 1 0 1,.sw 2 1,.c (.int .u64 a),.c (.int .i64 b),.c (.int .i64 c)] [.vals [.il .u32 1 d],.vals [.c (.slice none 0 0)],.ints .u32 e] k=Q13.l7 N n a b c d e (fun f=>k (.exit 0) ⟨tB Q13.h7.out [.ptr 0 0 1,.sw 1 1],[.vals [.c (.slice none 0 0)],.ints .u32 f]⟩):=by
 induction n generalizing a b c d e with
 |zero=>kernel_rfl
 |succ n ih=>
  simp only[Q13.l7,←ih]
  kernel_rfl
noncomputable def Q13.dec (v:V)(bs:List oA):Option (W6×Int):=match v,bs with
 | .tup [.agg [.il .u32 1 a],.c (.int .i64 b)],[]=>some (a,b)
 |_,_=>none
theorem Q13.f_eq (N:Nat)(a b:W6):
  uA (Q13.E N) (bo Tryz.f84) [.agg [.il .u32 1 a],.agg [.il .u32 1 b]] [] Q13.dec=Q13.f N a b:=by kernel_rfl
noncomputable def Q13.ent (N:Nat):rA:=tF (W6×Int) 0 [true,true] [.recd [.il .u32 1],.recd [.il .u32 1]] fun
 | [.agg [.il .u32 1 a],.agg [.il .u32 1 b]]=>some (Q13.f N a b,fun r=>.one (.tup [.agg [.il .u32 1 r.1],.c (.int .i64 r.2)]) [])
 |_=>none
theorem Q13.env (N:Nat):sA Tryz.prog (Q13.E N):=⟨(.cons gE (.cons jB (.cons fF (.cons zG .nil)))),(.cons (Q5.ent_ok N) (.cons (Q7.ent_ok N) .nil)),fun h=>hA (show false=true from h)⟩
theorem Q13.k7 (N:Nat):eB Tryz.prog Tryz.f84 (Q13.E N) (.loop Q13.b7):=xB (Q13.env N) bA 391 (c:=Q13.c7 N) aA.n fun R vs H k r h=>by unfold Q13.c7 at h;dsimp only at h;split at h;exact⟨_,Q13.l7_eq .. ▸h⟩;cases h
theorem Q13.spec (N:Nat)(a c:W6)(r:W6×Int)(h:Q13.f N a c=some r):dA Tryz.prog 84 [.agg [.il .u32 1 a],.agg [.il .u32 1 c]] [] (.tup [.agg [.il .u32 1 r.1],.c (.int .i64 r.2)]) ([]):=qA (Q13.env N) bA Tryz.func84 (aA.of (l:=[(.loop (mA ((cA (bo Tryz.f84)).getD 0 .skip)))]) (by kernel_rfl) (aA.cons (Q13.k7 N) aA.nil)) ((Q13.f_eq ..).trans h) fun v b e=>by unfold Q13.dec at e;split at e<;>cases e;exact⟨rfl,rfl⟩
theorem Q13.ent_ok (N:Nat):pA Tryz.prog 84 (Q13.ent N):=xA fun v a e h=>by split at h;exact gC (Q:=fun e=>dA _ _ _ _ (e a).pick.1 (e a).pick.2) h fun k=>Q13.spec N _ _ a k;cases h
noncomputable def Q14.l2 {R:Type}(N:Nat):Nat→Nat→Nat→W6→Int→Int→Int→W6→(W6→Option R)→Option R
 |0,_,_,_,_,_,_,_,_=>none
 |n+1,c,d,g,i,j,a,b,h=>
  bif decide (a<j)then
   bif decide (a<(g.length:Int))then
    bif (decide (0≤a))&&(decide (a<(g.length:Int)))then
     bif (decide (0≤a))&&(decide (a<(d:Int)))then
      (Q3.f N (b.getD (c+a.toNat) 0) (g.getD a.toNat 0) i).bind fun e=>
      bif (decide (0≤a))&&(decide (a<(d:Int)))then
       Q14.l2 N n c d g e.2 j (fA (a+1)) (b.set (c+a.toNat) e.1) h
      else none
     else none
    else none
   else
   bif i==0 then
    h b
   else
   bif (decide (0≤a))&&(decide (a<(d:Int)))then
    (Q3.f N (b.getD (c+a.toNat) 0) 0 i).bind fun f=>
    bif (decide (0≤a))&&(decide (a<(d:Int)))then
     Q14.l2 N n c d g f.2 j (fA (a+1)) (b.set (c+a.toNat) f.1) h
    else none
   else none
  else
  h b
noncomputable def Q14.f (N c b:Nat)(d e:W6):Option W6:=
 Q14.l2 N N c b d 0 (b:Int) 0 e
  (fun a=>
   some a)
noncomputable def Q14.h2:uB:=⟨[(0,.any),(1,.il .u32 1),(4,.any),(8,.any),(9,.any)],[]⟩
noncomputable def Q14.c2 (N:Nat):mF:=⟨fun vs H k=>match vs,H with
 | [.sl 0 1 d e,.il .u32 1 f,.c (.int .u32 g),.c (.int .i64 h),.c (.int .i64 a)],[.ints .u32 b]=>Q14.l2 N N d e f g h a b (fun c=>k (.exit 0) ⟨tB Q14.h2.out [],[.ints .u32 c]⟩)
 |_,_=>none⟩
noncomputable def Q14.E (N:Nat):aC:=mD [(24,zL),(56,jO)] [(124,Q3.ent N)] [(2,Q14.h2)] [(2,Q14.c2 N)] N [] [] 1 36
noncomputable def Q14.b2:Code:=mA ((cA (bo Tryz.f109)).getD 1 .skip)
theorem Q14.l2_eq {R:Type}(N n d e:Nat)(f:W6)(g h a:Int)(b:W6)(k:Ex→St→Option R):
  vA 1 Q14.h2 (fun s k=>tA (Q14.E N) 394 Q14.b2 s k) n [.sl 0 1 d e,.il .u32 1 f,.c (.int .u32 g),.c (.int .i64 h),.c (.int .i64 a)] [.ints .u32 b] k=Q14.l2 N n d e f g h a b (fun c=>k (.exit 0) ⟨tB Q14.h2.out [],[.ints .u32 c]⟩):=by
 induction n generalizing d e f g h a b with
 |zero=>kernel_rfl
 |succ n ih=>
  simp only[Q14.l2,←ih]
  kernel_rfl
noncomputable def Q14.dec (v:V)(bs:List oA):Option W6:=match v,bs with
 | .tup [],[.ints .u32 a]=>some a
 |_,_=>none
theorem Q14.f_eq (N a b:Nat)(c d:W6):
  uA (Q14.E N) (bo Tryz.f109) [.sl 0 1 a b,.il .u32 1 c] [.ints .u32 d] Q14.dec=Q14.f N a b c d:=by kernel_rfl
noncomputable def Q14.ent (N:Nat):rA:={A:=W6,fresh:=0,imm:=[false,true],dec:=fun args bs=>match sC (jA bs) [true,false] args,bs with
 | [.sl 0 1 a b,.il .u32 1 c],[.ints .u32 d]=>some (Q14.f N a b c d,fun r=>.one (.tup []) [.ints .u32 r])
 |_,_=>none}
theorem Q14.env (N:Nat):sA Tryz.prog (Q14.E N):=⟨(.cons gE (.cons fF .nil)),(.cons (Q3.ent_ok N) .nil),fun h=>hA (show false=true from h)⟩
theorem Q14.k2 (N:Nat):eB Tryz.prog Tryz.f109 (Q14.E N) (.loop Q14.b2):=xB (Q14.env N) bA 394 (c:=Q14.c2 N) aA.n fun R vs H k r h=>by unfold Q14.c2 at h;dsimp only at h;split at h;exact⟨_,Q14.l2_eq .. ▸h⟩;cases h
theorem Q14.spec (N a c:Nat)(d f r:W6)(h:Q14.f N a c d f=some r):dA Tryz.prog 109 [.sl 0 1 a c,.il .u32 1 d] [.ints .u32 f] (.tup []) ([.ints .u32 r]):=qA (Q14.env N) bA Tryz.func109 (aA.of (l:=[(.scope (mA ((cA (bo Tryz.f109)).getD 0 .skip))),(.loop (mA ((cA (bo Tryz.f109)).getD 1 .skip)))]) (by kernel_rfl) (aA.cons (pT (by kernel_rfl)) (aA.cons (Q14.k2 N) aA.nil))) ((Q14.f_eq ..).trans h) fun v b e=>by unfold Q14.dec at e;split at e<;>cases e;exact⟨rfl,rfl⟩
theorem Q14.ent_ok (N:Nat):pA Tryz.prog 109 (Q14.ent N):=by
 intro args bs a enc h;simp only[Q14.ent]at h;split at h
 ·rename_i hz;have h0:=hC h;have h1:=congrArg Prod.fst h0;have h2:=congrArg Prod.snd h0;dsimp only at h1 h2;subst h2;exact dA.of_asSl (fl:=[true,false]) (by rw[hz];exact Q14.spec N _ _ _ _ a h1)
 ·cases h
noncomputable def Q15.f (N:Nat)(a c:W6):Option (W6×Int):=
 (Q12.f N a c).bind fun e=>
 bif decide (e<0)then
  some ([],10)
 else
 bif dG (a.length:Int) (a.length:Int)&&decide (0≤(a.length:Int))&&decide ((a.length:Int)≤9223372036854775807)&&lB ((a.length:Int).toNat) 4 then
  (Q14.f N 0 ((zF (hB ((a.length:Int).toNat) (0:Int)) 0 (a.take (min a.length ((hB ((a.length:Int).toNat) (0:Int)).length)))).length) c (zF (hB ((a.length:Int).toNat) (0:Int)) 0 (a.take (min a.length ((hB ((a.length:Int).toNat) (0:Int)).length))))).bind fun d=>
  (Q5.f N 0 d.length d).bind fun b=>
  some ((b.2.2.drop b.1).take b.2.1,0)
 else none
noncomputable def Q15.E (N:Nat):aC:=mD [(24,zL),(26,kE),(56,jO)] [(22,Q12.ent N),(109,Q14.ent N),(18,Q5.ent N)] [] [] N [.cell 4 26,.tmp 5] [.recd [.il .u32 1],.any] 0 26
noncomputable def Q15.dec (v:V)(bs:List oA):Option (W6×Int):=match v,bs with
 | .tup [.agg [.il .u32 1 a],.c (.int .i64 b)],[]=>some (a,b)
 |_,_=>none
theorem Q15.f_eq (N:Nat)(a b:W6):
  uA (Q15.E N) (bo Tryz.f87) [.agg [.il .u32 1 a],.agg [.il .u32 1 b]] [] Q15.dec=Q15.f N a b:=by kernel_rfl
noncomputable def Q15.ent (N:Nat):rA:=tF (W6×Int) 0 [true,true] [.recd [.il .u32 1],.recd [.il .u32 1]] fun
 | [.agg [.il .u32 1 a],.agg [.il .u32 1 b]]=>some (Q15.f N a b,fun r=>.one (.tup [.agg [.il .u32 1 r.1],.c (.int .i64 r.2)]) [])
 |_=>none
theorem Q15.env (N:Nat):sA Tryz.prog (Q15.E N):=⟨(.cons gE (.cons jB (.cons fF .nil))),(.cons (Q12.ent_ok N) (.cons (Q14.ent_ok N) (.cons (Q5.ent_ok N) .nil))),fun h=>hA (show false=true from h)⟩
theorem Q15.spec (N:Nat)(a c:W6)(r:W6×Int)(h:Q15.f N a c=some r):dA Tryz.prog 87 [.agg [.il .u32 1 a],.agg [.il .u32 1 c]] [] (.tup [.agg [.il .u32 1 r.1],.c (.int .i64 r.2)]) ([]):=qA (Q15.env N) bA Tryz.func87 aA.n ((Q15.f_eq ..).trans h) fun v b e=>by unfold Q15.dec at e;split at e<;>cases e;exact⟨rfl,rfl⟩
theorem Q15.ent_ok (N:Nat):pA Tryz.prog 87 (Q15.ent N):=xA fun v a e h=>by split at h;exact gC (Q:=fun e=>dA _ _ _ _ (e a).pick.1 (e a).pick.2) h fun k=>Q15.spec N _ _ a k;cases h
noncomputable def Q16.l7 {R:Type}(N:Nat):Nat→Int→Int→Int→W6→Int→Int→W6→Int→Int→W6→W6→(Int→Int→W6→Int→Int→W6→W6→Option R)→Option R
 |0,_,_,_,_,_,_,_,_,_,_,_,_=>none
 |n+1,d,k,e,f,g,h,c,i,a,j,b,l=>
  bif decide (a<i)then
   bif (decide (0≤a))&&(decide (a<(c.length:Int)))then
    bif (decide (0≤(fA (d+a))))&&(decide ((fA (d+a))<(b.length:Int)))then
     bif (decide (0≤(fA (d+a))))&&(decide ((fA (d+a))<(b.length:Int)))then
      Q16.l7 N n d k (Int.fdiv (dB (e+(dB ((dB ((dB k)*(dB (c.getD a.toNat 0))))+(dB (b.getD ((fA (d+a)).toNat) 0)))))) (2^32)) f g h c i (fA (a+1)) j (b.set ((fA (d+a)).toNat) (oE (dB (e+(dB ((dB ((dB k)*(dB (c.getD a.toNat 0))))+(dB (b.getD ((fA (d+a)).toNat) 0)))))))) l
     else none
    else none
   else none
  else
  l d e f g h j b
noncomputable def Q16.l3 {R:Type}(N:Nat):Nat→W6→Int→Int→W6→W6→(W6→Option R)→Option R
 |0,_,_,_,_,_,_=>none
 |n+1,e,l,c,f,m,k=>
  bif decide (c<l)then
   bif (decide (0≤c))&&(decide (c<(e.length:Int)))then
    Q16.l7 N N c (e.getD c.toNat 0) 0 e l c f (f.length:Int) 0 f m
     (fun b g h i j a d=>
      bif (decide (0≤(fA (b+(a.length:Int)))))&&(decide ((fA (b+(a.length:Int)))<(d.length:Int)))then
       Q16.l3 N n h i (fA (j+1)) a (d.set ((fA (b+(a.length:Int))).toNat) (oE g)) k
      else none)
   else none
  else
  k m
noncomputable def Q16.f (N:Nat)(a b:W6):Option W6:=
 bif dG (fA ((a.length:Int)+(b.length:Int))) (fA ((a.length:Int)+(b.length:Int)))&&decide (0≤fA ((a.length:Int)+(b.length:Int)))&&decide (fA ((a.length:Int)+(b.length:Int))≤9223372036854775807)&&lB ((fA ((a.length:Int)+(b.length:Int))).toNat) 4 then
  Q16.l3 N N a (a.length:Int) 0 b (hB ((fA ((a.length:Int)+(b.length:Int))).toNat) (0:Int))
   (fun d=>
    (Q5.f N 0 d.length d).bind fun c=>
    some ((c.2.2.drop c.1).take c.2.1))
 else none
noncomputable def Q16.h3:uB:=⟨[(3,.box [.il .u32 1]),(4,.box [.any]),(5,.row .u32 1),(20,.il .u32 1),(21,.any),(22,.any)],[(4,.box [.any]),(5,.row .u32 1)]⟩
noncomputable def Q16.h7:uB:=⟨[(3,.box [.il .u32 1]),(4,.box [.any]),(5,.row .u32 1),(6,.any),(7,.any),(8,.any),(20,.il .u32 1),(21,.any),(22,.any),(28,.il .u32 1),(29,.any),(30,.any)],[(3,.box [.il .u32 1]),(4,.box [.any]),(5,.row .u32 1),(6,.any),(8,.any),(20,.il .u32 1),(21,.any),(22,.any)]⟩
noncomputable def Q16.c7 (N:Nat):mF:=⟨fun vs H k=>match vs,H with
 | [.ptr 0 0 1,.ptr 1 0 1,.sw 2 1,.c (.int .i64 s),.c (.int .u32 t),.c (.int .u64 a),.il .u32 1 b,.c (.int .i64 c),.c (.int .i64 d),.il .u32 1 e,.c (.int .i64 f),.c (.int .i64 g)],[.vals [.il .u32 1 h],.vals [.c (.slice none 0 0)],.ints .u32 i]=>Q16.l7 N N s t a b c d e f g h i (fun j l m o p q r=>k (.exit 2) ⟨tB Q16.h7.out [.ptr 0 0 1,.ptr 1 0 1,.sw 2 1,.c (.int .i64 j),.c (.int .u64 l),.il .u32 1 m,.c (.int .i64 o),.c (.int .i64 p)],[.vals [.il .u32 1 q],.vals [.c (.slice none 0 0)],.ints .u32 r]⟩)
 |_,_=>none⟩
noncomputable def Q16.c3 (N:Nat):mF:=⟨fun vs H k=>match vs,H with
 | [.ptr 0 0 1,.ptr 1 0 1,.sw 2 1,.il .u32 1 b,.c (.int .i64 c),.c (.int .i64 d)],[.vals [.il .u32 1 e],.vals [.c (.slice none 0 0)],.ints .u32 f]=>Q16.l3 N N b c d e f (fun a=>k (.exit 0) ⟨tB Q16.h3.out [.ptr 0 0 1,.sw 1 1],[.vals [.c (.slice none 0 0)],.ints .u32 a]⟩)
 |_,_=>none⟩
noncomputable def Q16.E (N:Nat):aC:=mD [(24,zL),(26,kE),(56,jO),(68,aT)] [(18,Q5.ent N)] [(3,Q16.h3),(7,Q16.h7)] [(7,Q16.c7 N),(3,Q16.c3 N)] N [.cell 4 26] [.recd [.il .u32 1]] 0 72
noncomputable def Q16.b7:Code:=mA ((cA (bo Tryz.f99)).getD 1 .skip)
theorem Q16.l7_eq {R:Type}(N n:Nat)(t u a:Int)(b:W6)(c d:Int)(e:W6)(f g:Int)(h i:W6)(k:Ex→St→Option R):
  vA 0 Q16.h7 (fun s k=>tA (Q16.E N) 384 Q16.b7 s k) n [.ptr 0 0 1,.ptr 1 0 1,.sw 2 1,.c (.int .i64 t),.c (.int .u32 u),.c (.int .u64 a),.il .u32 1 b,.c (.int .i64 c),.c (.int .i64 d),.il .u32 1 e,.c (.int .i64 f),.c (.int .i64 g)] [.vals [.il .u32 1 h],.vals [.c (.slice none 0 0)],.ints .u32 i] k=Q16.l7 N n t u a b c d e f g h i (fun j l m o p q r=>k (.exit 2) ⟨tB Q16.h7.out [.ptr 0 0 1,.ptr 1 0 1,.sw 2 1,.c (.int .i64 j),.c (.int .u64 l),.il .u32 1 m,.c (.int .i64 o),.c (.int .i64 p)],[.vals [.il .u32 1 q],.vals [.c (.slice none 0 0)],.ints .u32 r]⟩):=by
 induction n generalizing t u a b c d e f g h i with
 |zero=>kernel_rfl
 |succ n ih=>
  simp only[Q16.l7,←ih]
  kernel_rfl
noncomputable def Q16.b3:Code:=mA ((cA (bo Tryz.f99)).getD 0 .skip)
theorem Q16.l3_eq {R:Type}(N n:Nat)(a:W6)(c d:Int)(e f:W6)(k:Ex→St→Option R):
  vA 0 Q16.h3 (fun s k=>tA (Q16.E N) 394 Q16.b3 s k) n [.ptr 0 0 1,.ptr 1 0 1,.sw 2 1,.il .u32 1 a,.c (.int .i64 c),.c (.int .i64 d)] [.vals [.il .u32 1 e],.vals [.c (.slice none 0 0)],.ints .u32 f] k=Q16.l3 N n a c d e f (fun b=>k (.exit 0) ⟨tB Q16.h3.out [.ptr 0 0 1,.sw 1 1],[.vals [.c (.slice none 0 0)],.ints .u32 b]⟩):=by
 induction n generalizing a c d e f with
 |zero=>kernel_rfl
 |succ n ih=>
  simp only[Q16.l3,←ih]
  kernel_rfl
noncomputable def Q16.dec (v:V)(bs:List oA):Option W6:=match v,bs with
 | .agg [.il .u32 1 a],[]=>some a
 |_,_=>none
theorem Q16.f_eq (N:Nat)(a b:W6):
  uA (Q16.E N) (bo Tryz.f99) [.agg [.il .u32 1 a],.agg [.il .u32 1 b]] [] Q16.dec=Q16.f N a b:=by kernel_rfl
noncomputable def Q16.ent (N:Nat):rA:=tF W6 0 [true,true] [.recd [.il .u32 1],.recd [.il .u32 1]] fun
 | [.agg [.il .u32 1 a],.agg [.il .u32 1 b]]=>some (Q16.f N a b,fun r=>.one (.agg [.il .u32 1 r]) [])
 |_=>none
theorem Q16.env (N:Nat):sA Tryz.prog (Q16.E N):=⟨(.cons gE (.cons jB (.cons fF (.cons zG .nil)))),(.cons (Q5.ent_ok N) .nil),fun h=>hA (show false=true from h)⟩
theorem Q16.k7 (N:Nat):eB Tryz.prog Tryz.f99 (Q16.E N) (.loop Q16.b7):=xB (Q16.env N) bA 384 (c:=Q16.c7 N) aA.n fun R vs H k r h=>by unfold Q16.c7 at h;dsimp only at h;split at h;exact⟨_,Q16.l7_eq .. ▸h⟩;cases h
theorem Q16.k3 (N:Nat):eB Tryz.prog Tryz.f99 (Q16.E N) (.loop Q16.b3):=xB (Q16.env N) bA 394 (c:=Q16.c3 N) (aA.of (l:=[(.loop (mA ((cA (bo Tryz.f99)).getD 1 .skip)))]) (by kernel_rfl) (aA.cons (Q16.k7 N) aA.nil)) fun R vs H k r h=>by unfold Q16.c3 at h;dsimp only at h;split at h;exact⟨_,Q16.l3_eq .. ▸h⟩;cases h
theorem Q16.spec (N:Nat)(a c r:W6)(h:Q16.f N a c=some r):dA Tryz.prog 99 [.agg [.il .u32 1 a],.agg [.il .u32 1 c]] [] (.agg [.il .u32 1 r]) ([]):=qA (Q16.env N) bA Tryz.func99 (aA.of (l:=[(.loop (mA ((cA (bo Tryz.f99)).getD 0 .skip))),(.loop (mA ((cA (bo Tryz.f99)).getD 1 .skip)))]) (by kernel_rfl) (aA.cons (Q16.k3 N) (aA.cons (Q16.k7 N) aA.nil))) ((Q16.f_eq ..).trans h) fun v b e=>by unfold Q16.dec at e;split at e<;>cases e;exact⟨rfl,rfl⟩
theorem Q16.ent_ok (N:Nat):pA Tryz.prog 99 (Q16.ent N):=xA fun v a e h=>by split at h;exact gC (Q:=fun e=>dA _ _ _ _ (e a).pick.1 (e a).pick.2) h fun k=>Q16.spec N _ _ a k;cases h
noncomputable def Q17.f (N:Nat)(a b:W6):Option (W6×Int):=
 (Q6.f N a).bind fun d=>
 (Q6.f N b).bind fun e=>
 bif decide ((fA (d+e))>4097)then
  some ([],3)
 else
 (Q16.f N a b).bind fun f=>
 (Q7.f N f).bind fun c=>
 some (c.1,c.2)
noncomputable def Q17.E (N:Nat):aC:=mD [(24,zL),(26,kE)] [(67,Q6.ent N),(99,Q16.ent N),(100,Q7.ent N)] [] [] N [.cell 4 26,.tmp 5] [.recd [.il .u32 1],.any] 0 19
noncomputable def Q17.dec (v:V)(bs:List oA):Option (W6×Int):=match v,bs with
 | .tup [.agg [.il .u32 1 a],.c (.int .i64 b)],[]=>some (a,b)
 |_,_=>none
theorem Q17.f_eq (N:Nat)(a b:W6):
  uA (Q17.E N) (bo Tryz.f68) [.agg [.il .u32 1 a],.agg [.il .u32 1 b]] [] Q17.dec=Q17.f N a b:=by kernel_rfl
noncomputable def Q17.ent (N:Nat):rA:=tF (W6×Int) 0 [true,true] [.recd [.il .u32 1],.recd [.il .u32 1]] fun
 | [.agg [.il .u32 1 a],.agg [.il .u32 1 b]]=>some (Q17.f N a b,fun r=>.one (.tup [.agg [.il .u32 1 r.1],.c (.int .i64 r.2)]) [])
 |_=>none
theorem Q17.env (N:Nat):sA Tryz.prog (Q17.E N):=⟨(.cons gE (.cons jB .nil)),(.cons (Q6.ent_ok N) (.cons (Q16.ent_ok N) (.cons (Q7.ent_ok N) .nil))),fun h=>hA (show false=true from h)⟩
theorem Q17.spec (N:Nat)(a c:W6)(r:W6×Int)(h:Q17.f N a c=some r):dA Tryz.prog 68 [.agg [.il .u32 1 a],.agg [.il .u32 1 c]] [] (.tup [.agg [.il .u32 1 r.1],.c (.int .i64 r.2)]) ([]):=qA (Q17.env N) bA Tryz.func68 aA.n ((Q17.f_eq ..).trans h) fun v b e=>by unfold Q17.dec at e;split at e<;>cases e;exact⟨rfl,rfl⟩
theorem Q17.ent_ok (N:Nat):pA Tryz.prog 68 (Q17.ent N):=xA fun v a e h=>by split at h;exact gC (Q:=fun e=>dA _ _ _ _ (e a).pick.1 (e a).pick.2) h fun k=>Q17.spec N _ _ a k;cases h
noncomputable def Q18.l4 {R:Type}(N:Nat):Nat→W6→Int→Int→Int→Int→W6→(W6→Option R)→Option R
 |0,_,_,_,_,_,_,_=>none
 |n+1,b,c,e,g,a,d,f=>
  bif decide (a<g)then
   bif decide (a<(b.length:Int))then
    bif (decide (0≤a))&&(decide (a<(b.length:Int)))then
     bif decide (0≤c)then
      bif (decide (0≤a))&&(decide (a<(d.length:Int)))then
       Q18.l4 N n b c (Int.fdiv (iF .u64 e (dB ((dB (b.getD a.toNat 0))*2^(min c.toNat 64)))) (2^32)) g (fA (a+1)) (d.set a.toNat (oE (iF .u64 e (dB ((dB (b.getD a.toNat 0))*2^(min c.toNat 64)))))) f
      else none
     else none
    else none
   else
   bif (decide (0≤a))&&(decide (a<(d.length:Int)))then
    Q18.l4 N n b c (Int.fdiv e (2^32)) g (fA (a+1)) (d.set a.toNat (oE e)) f
   else none
  else
  f d
noncomputable def Q18.f (N:Nat)(c:W6)(d a:Int):Option W6:=
 bif dG a a&&decide (0≤a)&&decide (a≤9223372036854775807)&&lB a.toNat 4 then
  Q18.l4 N N c d 0 ((hB a.toNat (0:Int)).length:Int) 0 (hB a.toNat (0:Int))
   (fun b=>
    some b)
 else none
noncomputable def Q18.h4:uB:=⟨[(0,.il .u32 1),(1,.any),(7,.row .u32 1),(8,.any),(13,.any),(14,.any)],[(7,.row .u32 1)]⟩
noncomputable def Q18.c4 (N:Nat):mF:=⟨fun vs H k=>match vs,H with
 | [.il .u32 1 b,.c (.int .i64 c),.sw 0 1,.c (.int .u64 d),.c (.int .i64 e),.c (.int .i64 f)],[.ints .u32 g]=>Q18.l4 N N b c d e f g (fun a=>k (.exit 0) ⟨tB Q18.h4.out [.sw 0 1],[.ints .u32 a]⟩)
 |_,_=>none⟩
noncomputable def Q18.E (N:Nat):aC:=mD [(24,zL),(56,jO),(68,aT)] [] [(4,Q18.h4)] [(4,Q18.c4 N)] N [.tmp 6] [.row .u32 1] 0 39 true
noncomputable def Q18.b4:Code:=mA ((cA (bo Tryz.f121)).getD 0 .skip)
theorem Q18.l4_eq {R:Type}(N n:Nat)(b:W6)(c d e f:Int)(g:W6)(k:Ex→St→Option R):
  vA 0 Q18.h4 (fun s k=>tA (Q18.E N) 393 Q18.b4 s k) n [.il .u32 1 b,.c (.int .i64 c),.sw 0 1,.c (.int .u64 d),.c (.int .i64 e),.c (.int .i64 f)] [.ints .u32 g] k=Q18.l4 N n b c d e f g (fun a=>k (.exit 0) ⟨tB Q18.h4.out [.sw 0 1],[.ints .u32 a]⟩):=by
 induction n generalizing b c d e f g with
 |zero=>kernel_rfl
 |succ n ih=>
  simp only[Q18.l4,←ih]
  kernel_rfl
noncomputable def Q18.dec (v:V)(bs:List oA):Option W6:=match v,bs with
 | .sw 0 1,[.ints .u32 a]=>some a
 |_,_=>none
theorem Q18.f_eq (N:Nat)(a:W6)(b c:Int):
  uA (Q18.E N) (bo Tryz.f121) [.il .u32 1 a,.c (.int .i64 b),.c (.int .i64 c)] [] Q18.dec=Q18.f N a b c:=by kernel_rfl
noncomputable def Q18.ent (N:Nat):rA:=tF W6 1 [true,true,true] [.il .u32 1,.any,.any] fun
 | [.il .u32 1 a,.c (.int .i64 b),.c (.int .i64 c)]=>some (Q18.f N a b c,fun r=>.one (.sw 0 1) [.ints .u32 r])
 |_=>none
theorem Q18.env (N:Nat):sA Tryz.prog (Q18.E N):=⟨(.cons gE (.cons fF (.cons zG .nil))),.nil,fun h=>hA (show false=true from h)⟩
theorem Q18.k4 (N:Nat):eB Tryz.prog Tryz.f121 (Q18.E N) (.loop Q18.b4):=xB (Q18.env N) bA 393 (c:=Q18.c4 N) aA.n fun R vs H k r h=>by unfold Q18.c4 at h;dsimp only at h;split at h;exact⟨_,Q18.l4_eq .. ▸h⟩;cases h
theorem Q18.spec (N:Nat)(a:W6)(c d:Int)(r:W6)(h:Q18.f N a c d=some r):dA Tryz.prog 121 [.il .u32 1 a,.c (.int .i64 c),.c (.int .i64 d)] [] (.sw 0 1) ([.ints .u32 r]):=qA (Q18.env N) bA Tryz.func121 (aA.of (l:=[(.loop (mA ((cA (bo Tryz.f121)).getD 0 .skip)))]) (by kernel_rfl) (aA.cons (Q18.k4 N) aA.nil)) ((Q18.f_eq ..).trans h) fun v b e=>by unfold Q18.dec at e;split at e<;>cases e;exact⟨rfl,rfl⟩
theorem Q18.ent_ok (N:Nat):pA Tryz.prog 121 (Q18.ent N):=xA fun v a e h=>by split at h;exact gC (Q:=fun e=>dA _ _ _ _ (e a).pick.1 (e a).pick.2) h fun k=>Q18.spec N _ _ _ a k;cases h
noncomputable def Q19.l3 {R:Type}(N:Nat):Nat→W6→Int→Int→Int→W6→(W6→Option R)→Option R
 |0,_,_,_,_,_,_=>none
 |n+1,b,c,f,a,d,e=>
  bif decide (a<f)then
   bif (decide (0≤a))&&(decide (a<(b.length:Int)))then
    bif decide ((fA (a+1))<(b.length:Int))then
     bif (decide (0≤(fA (a+1))))&&(decide ((fA (a+1))<(b.length:Int)))then
      bif decide (0≤c)then
       bif (decide (0≤a))&&(decide (a<(d.length:Int)))then
        Q19.l3 N n b c f (fA (a+1)) (d.set a.toNat (oE (Int.fdiv (iF .u64 (dB (b.getD a.toNat 0)) (dB ((dB (b.getD ((fA (a+1)).toNat) 0))*2^32))) (2^(min c.toNat 64))))) e
       else none
      else none
     else none
    else
    bif decide (0≤c)then
     bif (decide (0≤a))&&(decide (a<(d.length:Int)))then
      Q19.l3 N n b c f (fA (a+1)) (d.set a.toNat (oE (Int.fdiv (dB (b.getD a.toNat 0)) (2^(min c.toNat 64))))) e
     else none
    else none
   else none
  else
  e d
noncomputable def Q19.f (N:Nat)(a:W6)(d:Int):Option W6:=
 bif dG (a.length:Int) (a.length:Int)&&decide (0≤(a.length:Int))&&decide ((a.length:Int)≤9223372036854775807)&&lB ((a.length:Int).toNat) 4 then
  Q19.l3 N N a d (a.length:Int) 0 (hB ((a.length:Int).toNat) (0:Int))
   (fun c=>
    (Q5.f N 0 c.length c).bind fun b=>
    some ((b.2.2.drop b.1).take b.2.1))
 else none
noncomputable def Q19.h3:uB:=⟨[(0,.il .u32 1),(1,.any),(4,.box [.any]),(5,.row .u32 1),(12,.any),(13,.any)],[(4,.box [.any]),(5,.row .u32 1)]⟩
noncomputable def Q19.c3 (N:Nat):mF:=⟨fun vs H k=>match vs,H with
 | [.il .u32 1 a,.c (.int .i64 b),.ptr 0 0 1,.sw 1 1,.c (.int .i64 c),.c (.int .i64 d)],[.vals [.c (.slice none 0 0)],.ints .u32 e]=>Q19.l3 N N a b c d e (fun f=>k (.exit 0) ⟨tB Q19.h3.out [.ptr 0 0 1,.sw 1 1],[.vals [.c (.slice none 0 0)],.ints .u32 f]⟩)
 |_,_=>none⟩
noncomputable def Q19.E (N:Nat):aC:=mD [(24,zL),(26,kE),(56,jO),(68,aT)] [(18,Q5.ent N)] [(3,Q19.h3)] [(3,Q19.c3 N)] N [.cell 4 26] [.recd [.il .u32 1]] 0 45
noncomputable def Q19.b3:Code:=mA ((cA (bo Tryz.f123)).getD 0 .skip)
theorem Q19.l3_eq {R:Type}(N n:Nat)(a:W6)(b c d:Int)(e:W6)(k:Ex→St→Option R):
  vA 0 Q19.h3 (fun s k=>tA (Q19.E N) 394 Q19.b3 s k) n [.il .u32 1 a,.c (.int .i64 b),.ptr 0 0 1,.sw 1 1,.c (.int .i64 c),.c (.int .i64 d)] [.vals [.c (.slice none 0 0)],.ints .u32 e] k=Q19.l3 N n a b c d e (fun f=>k (.exit 0) ⟨tB Q19.h3.out [.ptr 0 0 1,.sw 1 1],[.vals [.c (.slice none 0 0)],.ints .u32 f]⟩):=by
 induction n generalizing a b c d e with
 |zero=>kernel_rfl
 |succ n ih=>
  simp only[Q19.l3,←ih]
  kernel_rfl
noncomputable def Q19.dec (v:V)(bs:List oA):Option W6:=match v,bs with
 | .agg [.il .u32 1 a],[]=>some a
 |_,_=>none
theorem Q19.f_eq (N:Nat)(a:W6)(b:Int):
  uA (Q19.E N) (bo Tryz.f123) [.il .u32 1 a,.c (.int .i64 b)] [] Q19.dec=Q19.f N a b:=by kernel_rfl
noncomputable def Q19.ent (N:Nat):rA:=tF W6 0 [true,true] [.il .u32 1,.any] fun
 | [.il .u32 1 a,.c (.int .i64 b)]=>some (Q19.f N a b,fun r=>.one (.agg [.il .u32 1 r]) [])
 |_=>none
theorem Q19.env (N:Nat):sA Tryz.prog (Q19.E N):=⟨(.cons gE (.cons jB (.cons fF (.cons zG .nil)))),(.cons (Q5.ent_ok N) .nil),fun h=>hA (show false=true from h)⟩
theorem Q19.k3 (N:Nat):eB Tryz.prog Tryz.f123 (Q19.E N) (.loop Q19.b3):=xB (Q19.env N) bA 394 (c:=Q19.c3 N) aA.n fun R vs H k r h=>by unfold Q19.c3 at h;dsimp only at h;split at h;exact⟨_,Q19.l3_eq .. ▸h⟩;cases h
theorem Q19.spec (N:Nat)(a:W6)(c:Int)(r:W6)(h:Q19.f N a c=some r):dA Tryz.prog 123 [.il .u32 1 a,.c (.int .i64 c)] [] (.agg [.il .u32 1 r]) ([]):=qA (Q19.env N) bA Tryz.func123 (aA.of (l:=[(.loop (mA ((cA (bo Tryz.f123)).getD 0 .skip)))]) (by kernel_rfl) (aA.cons (Q19.k3 N) aA.nil)) ((Q19.f_eq ..).trans h) fun v b e=>by unfold Q19.dec at e;split at e<;>cases e;exact⟨rfl,rfl⟩
theorem Q19.ent_ok (N:Nat):pA Tryz.prog 123 (Q19.ent N):=xA fun v a e h=>by split at h;exact gC (Q:=fun e=>dA _ _ _ _ (e a).pick.1 (e a).pick.2) h fun k=>Q19.spec N _ _ a k;cases h
noncomputable def Q20.l3 {R:Type}(N:Nat):Nat→Nat→Nat→W6→Int→Int→Int→Int→Int→W6→(Int→W6→Option R)→Option R
 |0,_,_,_,_,_,_,_,_,_,_=>none
 |n+1,f,g,h,k,c,d,e,a,b,l=>
  bif decide (a<e)then
   bif decide (a<(h.length:Int))then
    bif (decide (0≤a))&&(decide (a<(h.length:Int)))then
     bif (decide (0≤a))&&(decide (a<(g:Int)))then
      (Q3.f N (b.getD (f+a.toNat) 0) (oE (dB (c+(dB ((dB (h.getD a.toNat 0))*(dB k)))))) d).bind fun i=>
      bif (decide (0≤a))&&(decide (a<(g:Int)))then
       Q20.l3 N n f g h k (Int.fdiv (dB (c+(dB ((dB (h.getD a.toNat 0))*(dB k))))) (2^32)) i.2 e (fA (a+1)) (b.set (f+a.toNat) i.1) l
      else none
     else none
    else none
   else
   bif (decide (0≤a))&&(decide (a<(g:Int)))then
    (Q3.f N (b.getD (f+a.toNat) 0) (oE c) d).bind fun j=>
    bif (decide (0≤a))&&(decide (a<(g:Int)))then
     Q20.l3 N n f g h k (Int.fdiv c (2^32)) j.2 e (fA (a+1)) (b.set (f+a.toNat) j.1) l
    else none
   else none
  else
  l d b
noncomputable def Q20.f (N d c:Nat)(e:W6)(f:Int)(g:W6):Option (Bool×W6):=
 Q20.l3 N N d c e f 0 0 (c:Int) 0 g
  (fun a b=>
   some (a != 0,b))
noncomputable def Q20.h3:uB:=⟨[(0,.any),(1,.il .u32 1),(2,.any),(7,.any),(8,.any),(11,.any),(12,.any)],[(8,.any)]⟩
noncomputable def Q20.c3 (N:Nat):mF:=⟨fun vs H k=>match vs,H with
 | [.sl 0 1 h i,.il .u32 1 j,.c (.int .u32 l),.c (.int .u64 a),.c (.int .u32 b),.c (.int .i64 c),.c (.int .i64 d)],[.ints .u32 e]=>Q20.l3 N N h i j l a b c d e (fun f g=>k (.exit 0) ⟨tB Q20.h3.out [.c (.int .u32 f)],[.ints .u32 g]⟩)
 |_,_=>none⟩
noncomputable def Q20.E (N:Nat):aC:=mD [(24,zL),(56,jO),(68,aT)] [(124,Q3.ent N)] [(3,Q20.h3)] [(3,Q20.c3 N)] N [.tmp 6] [.any] 1 48
noncomputable def Q20.b3:Code:=mA ((cA (bo Tryz.f122)).getD 0 .skip)
theorem Q20.l3_eq {R:Type}(N n h i:Nat)(j:W6)(l a b c d:Int)(e:W6)(k:Ex→St→Option R):
  vA 1 Q20.h3 (fun s k=>tA (Q20.E N) 394 Q20.b3 s k) n [.sl 0 1 h i,.il .u32 1 j,.c (.int .u32 l),.c (.int .u64 a),.c (.int .u32 b),.c (.int .i64 c),.c (.int .i64 d)] [.ints .u32 e] k=Q20.l3 N n h i j l a b c d e (fun f g=>k (.exit 0) ⟨tB Q20.h3.out [.c (.int .u32 f)],[.ints .u32 g]⟩):=by
 induction n generalizing h i j l a b c d e with
 |zero=>kernel_rfl
 |succ n ih=>
  simp only[Q20.l3,←ih]
  kernel_rfl
noncomputable def Q20.dec (v:V)(bs:List oA):Option (Bool×W6):=match v,bs with
 | .c (.bool a),[.ints .u32 b]=>some (a,b)
 |_,_=>none
theorem Q20.f_eq (N a b:Nat)(c:W6)(d:Int)(e:W6):
  uA (Q20.E N) (bo Tryz.f122) [.sl 0 1 a b,.il .u32 1 c,.c (.int .u32 d)] [.ints .u32 e] Q20.dec=Q20.f N a b c d e:=by kernel_rfl
noncomputable def Q20.ent (N:Nat):rA:={A:=Bool×W6,fresh:=0,imm:=[false,true,true],dec:=fun args bs=>match sC (jA bs) [true,false,false] args,bs with
 | [.sl 0 1 a b,.il .u32 1 c,.c (.int .u32 d)],[.ints .u32 e]=>some (Q20.f N a b c d e,fun r=>.one (.c (.bool r.1)) [.ints .u32 r.2])
 |_,_=>none}
theorem Q20.env (N:Nat):sA Tryz.prog (Q20.E N):=⟨(.cons gE (.cons fF (.cons zG .nil))),(.cons (Q3.ent_ok N) .nil),fun h=>hA (show false=true from h)⟩
theorem Q20.k3 (N:Nat):eB Tryz.prog Tryz.f122 (Q20.E N) (.loop Q20.b3):=xB (Q20.env N) bA 394 (c:=Q20.c3 N) aA.n fun R vs H k r h=>by unfold Q20.c3 at h;dsimp only at h;split at h;exact⟨_,Q20.l3_eq .. ▸h⟩;cases h
theorem Q20.spec (N a c:Nat)(d:W6)(f:Int)(g:W6)(r:Bool×W6)(h:Q20.f N a c d f g=some r):dA Tryz.prog 122 [.sl 0 1 a c,.il .u32 1 d,.c (.int .u32 f)] [.ints .u32 g] (.c (.bool r.1)) ([.ints .u32 r.2]):=qA (Q20.env N) bA Tryz.func122 (aA.of (l:=[(.loop (mA ((cA (bo Tryz.f122)).getD 0 .skip)))]) (by kernel_rfl) (aA.cons (Q20.k3 N) aA.nil)) ((Q20.f_eq ..).trans h) fun v b e=>by unfold Q20.dec at e;split at e<;>cases e;exact⟨rfl,rfl⟩
theorem Q20.ent_ok (N:Nat):pA Tryz.prog 122 (Q20.ent N):=by
 intro args bs a enc h;simp only[Q20.ent]at h;split at h
 ·rename_i hz;have h0:=hC h;have h1:=congrArg Prod.fst h0;have h2:=congrArg Prod.snd h0;dsimp only at h1 h2;subst h2;exact dA.of_asSl (fl:=[true,false,false]) (by rw[hz];exact Q20.spec N _ _ _ _ _ a h1)
 ·cases h
noncomputable def Q21.l11 {R:Type}(N:Nat):Nat→Int→Int→Int→Int→Int→W6→W6→W6→(Int→Int→Int→Int→W6→W6→W6→Option R)→Option R
 |0,_,_,_,_,_,_,_,_,_=>none
 |n+1,a,f,c,d,g,b,e,h,i=>
  bif (Int.fdiv d (2^32)) != 0 then
   bif (decide (0≤(fA (a-1))))&&(decide ((fA (a-1))<(b.length:Int)))then
    bif (Int.fdiv (dB (g+(dB (b.getD ((fA (a-1)).toNat) 0)))) (2^32)) != 0 then
     i a f c (dB (d-1)) b e h
    else
    Q21.l11 N n a f c (dB (d-1)) (dB (g+(dB (b.getD ((fA (a-1)).toNat) 0)))) b e h i
   else none
  else
  bif (decide (0≤(fA (a-2))))&&(decide ((fA (a-2))<(b.length:Int)))then
   bif (decide (0≤(fA ((fA (c+a))-2))))&&(decide ((fA ((fA (c+a))-2))<(e.length:Int)))then
    bif decide ((dB (d*(dB (b.getD ((fA (a-2)).toNat) 0))))>(iF .u64 (dB (g*2^32)) (dB (e.getD ((fA ((fA (c+a))-2)).toNat) 0))))then
     bif (decide (0≤(fA (a-1))))&&(decide ((fA (a-1))<(b.length:Int)))then
      bif (Int.fdiv (dB (g+(dB (b.getD ((fA (a-1)).toNat) 0)))) (2^32)) != 0 then
       i a f c (dB (d-1)) b e h
      else
      Q21.l11 N n a f c (dB (d-1)) (dB (g+(dB (b.getD ((fA (a-1)).toNat) 0)))) b e h i
     else none
    else
    i a f c d b e h
   else none
  else none
noncomputable def Q21.l21 {R:Type}(N:Nat):Nat→Int→Int→Int→Nat→Nat→Int→Int→Int→W6→W6→W6→(Int→Int→Int→W6→W6→W6→Option R)→Option R
 |0,_,_,_,_,_,_,_,_,_,_,_,_=>none
 |n+1,f,h,i,b,e,g,j,a,d,c,k,l=>
  bif decide (a<j)then
   bif (decide (0≤a))&&(decide (a<(e:Int)))then
    bif decide (a<f)then
     bif (decide (0≤a))&&(decide (a<(d.length:Int)))then
      bif (decide (0≤a))&&(decide (a<(e:Int)))then
       Q21.l21 N n f h i b e (Int.fdiv (dB ((dB (g+(dB (c.getD (b+a.toNat) 0))))+(dB (d.getD a.toNat 0)))) (2^32)) j (fA (a+1)) d (c.set (b+a.toNat) (oE (dB ((dB (g+(dB (c.getD (b+a.toNat) 0))))+(dB (d.getD a.toNat 0)))))) k l
      else none
     else none
    else
    bif (decide (0≤a))&&(decide (a<(e:Int)))then
     Q21.l21 N n f h i b e (Int.fdiv (dB (g+(dB (c.getD (b+a.toNat) 0)))) (2^32)) j (fA (a+1)) d (c.set (b+a.toNat) (oE (dB (g+(dB (c.getD (b+a.toNat) 0)))))) k l
    else none
   else none
  else
  l f h i d c k
noncomputable def Q21.l7 {R:Type}(N:Nat):Nat→Int→Int→Int→W6→W6→W6→(Int→W6→W6→Option R)→Option R
 |0,_,_,_,_,_,_,_=>none
 |n+1,d,v,e,h,c,k,o=>
  bif decide (e≥0)then
   bif (decide (0≤(fA (e+d))))&&(decide ((fA (e+d))<(c.length:Int)))then
    bif (decide (0≤(fA ((fA (e+d))-1))))&&(decide ((fA ((fA (e+d))-1))<(c.length:Int)))then
     bif (decide (0≤(fA (d-1))))&&(decide ((fA (d-1))<(h.length:Int)))then
      bif !((dB (h.getD ((fA (d-1)).toNat) 0))==0)then
       bif (decide (0≤(fA (d-1))))&&(decide ((fA (d-1))<(h.length:Int)))then
        bif !((dB (h.getD ((fA (d-1)).toNat) 0))==0)then
         Q21.l11 N N d v e (dB (Int.tdiv (iF .u64 (dB ((dB (c.getD ((fA (e+d)).toNat) 0))*2^32)) (dB (c.getD ((fA ((fA (e+d))-1)).toNat) 0))) (dB (h.getD ((fA (d-1)).toNat) 0)))) (Int.tmod (iF .u64 (dB ((dB (c.getD ((fA (e+d)).toNat) 0))*2^32)) (dB (c.getD ((fA ((fA (e+d))-1)).toNat) 0))) (dB (h.getD ((fA (d-1)).toNat) 0))) h c k
          (fun b l a i j m f=>
           bif (((decide (0≤a))&&(decide (a≤(fA ((fA (a+b))+1)))))&&(decide ((fA ((fA (a+b))+1))≤(fA ((fA (a+b))+1)))))&&(decide ((fA ((fA (a+b))+1))≤(m.length:Int)))then
            (Q20.f N a.toNat (((fA ((fA (a+b))+1)).toNat)-a.toNat) j (oE i) m).bind fun g=>
            bif !g.1 then
             bif (decide (0≤a))&&(decide (a<(f.length:Int)))then
              Q21.l7 N n b l (fA (a-1)) j g.2 (f.set a.toNat (oE i)) o
             else none
            else
            bif (decide (0≤a))&&(decide (a<(f.length:Int)))then
             Q21.l21 N N b l a a.toNat (((fA ((fA (a+b))+1)).toNat)-a.toNat) 0 ((((fA ((fA (a+b))+1)).toNat)-a.toNat:Nat):Int) 0 j g.2 (f.set a.toNat (oE ((oE i)-1)))
              (fun p q r s t u=>
               Q21.l7 N n p q (fA (r-1)) s t u o)
            else none
           else none)
        else none
       else none
      else none
     else none
    else none
   else none
  else
  o v c k
noncomputable def Q21.f (N:Nat)(i a:W6):Option (W6×W6):=
 bif (decide (0≤(fA ((a.length:Int)-1))))&&(decide ((fA ((a.length:Int)-1))<(a.length:Int)))then
  (Q4.f N (a.getD ((fA ((a.length:Int)-1)).toNat) 0)).bind fun e=>
  (Q18.f N a e (a.length:Int)).bind fun j=>
  (Q18.f N i e (fA ((i.length:Int)+1))).bind fun b=>
  bif dG (fA ((b.length:Int)- (a.length:Int))) (fA ((b.length:Int)- (a.length:Int)))&&decide (0≤fA ((b.length:Int)- (a.length:Int)))&&decide (fA ((b.length:Int)- (a.length:Int))≤9223372036854775807)&&lB ((fA ((b.length:Int)- (a.length:Int))).toNat) 4 then
   Q21.l7 N N (a.length:Int) e (fA ((fA ((b.length:Int)- (a.length:Int)))-1)) j b (hB ((fA ((b.length:Int)- (a.length:Int))).toNat) (0:Int))
    (fun g h d=>
     (Q5.f N 0 d.length d).bind fun c=>
     (Q19.f N h g).bind fun f=>
     some ((c.2.2.drop c.1).take c.2.1,f))
  else none
 else none
noncomputable def Q21.h7:uB:=⟨[(4,.box [.any]),(5,.box [.any]),(6,.any),(7,.any),(8,.row .u32 1),(9,.row .u32 1),(11,.row .u32 1),(12,.any)],[(4,.box [.any]),(5,.box [.any]),(7,.any),(9,.row .u32 1),(11,.row .u32 1)]⟩
noncomputable def Q21.h11:uB:=⟨[(4,.box [.any]),(5,.box [.any]),(6,.any),(7,.any),(8,.row .u32 1),(9,.row .u32 1),(11,.row .u32 1),(12,.any),(14,.any),(15,.any)],[(4,.box [.any]),(5,.box [.any]),(6,.any),(7,.any),(8,.row .u32 1),(9,.row .u32 1),(11,.row .u32 1),(12,.any),(14,.any)]⟩
noncomputable def Q21.h21:uB:=⟨[(4,.box [.any]),(5,.box [.any]),(6,.any),(7,.any),(8,.row .u32 1),(9,.row .u32 1),(11,.row .u32 1),(12,.any),(16,.part .u32 1),(17,.any),(156,.any),(157,.any)],[(4,.box [.any]),(5,.box [.any]),(6,.any),(7,.any),(8,.row .u32 1),(9,.row .u32 1),(11,.row .u32 1),(12,.any)]⟩
noncomputable def Q21.c11 (N:Nat):mF:=⟨fun vs H k=>match vs,H with
 | [.ptr 0 0 1,.ptr 1 0 1,.c (.int .i64 a),.c (.int .i64 b),.sw 2 1,.sw 3 1,.sw 4 1,.c (.int .i64 c),.c (.int .u64 d),.c (.int .u64 e)],[.vals [.c (.slice none 0 0)],.vals [.c (.slice none 0 0)],.ints .u32 f,.ints .u32 g,.ints .u32 h]=>Q21.l11 N N a b c d e f g h (fun i j l m o p q=>k (.exit 2) ⟨tB Q21.h11.out [.ptr 0 0 1,.ptr 1 0 1,.c (.int .i64 i),.c (.int .i64 j),.sw 2 1,.sw 3 1,.sw 4 1,.c (.int .i64 l),.c (.int .u64 m)],[.vals [.c (.slice none 0 0)],.vals [.c (.slice none 0 0)],.ints .u32 o,.ints .u32 p,.ints .u32 q]⟩)
 |_,_=>none⟩
noncomputable def Q21.c21 (N:Nat):mF:=⟨fun vs H k=>match vs,H with
 | [.ptr 0 0 1,.ptr 1 0 1,.c (.int .i64 a),.c (.int .i64 b),.sw 2 1,.sw 3 1,.sw 4 1,.c (.int .i64 c),.sl 3 1 d e,.c (.int .u64 f),.c (.int .i64 g),.c (.int .i64 h)],[.vals [.c (.slice none 0 0)],.vals [.c (.slice none 0 0)],.ints .u32 i,.ints .u32 j,.ints .u32 l]=>Q21.l21 N N a b c d e f g h i j l (fun m o p q r s=>k (.exit 4) ⟨tB Q21.h21.out [.ptr 0 0 1,.ptr 1 0 1,.c (.int .i64 m),.c (.int .i64 o),.sw 2 1,.sw 3 1,.sw 4 1,.c (.int .i64 p)],[.vals [.c (.slice none 0 0)],.vals [.c (.slice none 0 0)],.ints .u32 q,.ints .u32 r,.ints .u32 s]⟩)
 |_,_=>none⟩
noncomputable def Q21.c7 (N:Nat):mF:=⟨fun vs H k=>match vs,H with
 | [.ptr 0 0 1,.ptr 1 0 1,.c (.int .i64 f),.c (.int .i64 g),.sw 2 1,.sw 3 1,.sw 4 1,.c (.int .i64 h)],[.vals [.c (.slice none 0 0)],.vals [.c (.slice none 0 0)],.ints .u32 i,.ints .u32 a,.ints .u32 b]=>Q21.l7 N N f g h i a b (fun c d e=>k (.exit 0) ⟨tB Q21.h7.out [.ptr 0 0 1,.ptr 1 0 1,.c (.int .i64 c),.sw 2 1,.sw 3 1],[.vals [.c (.slice none 0 0)],.vals [.c (.slice none 0 0)],.ints .u32 d,.ints .u32 e]⟩)
 |_,_=>none⟩
noncomputable def Q21.E (N:Nat):aC:=mD [(24,zL),(26,kE),(56,jO),(68,aT)] [(120,Q4.ent N),(121,Q18.ent N),(122,Q20.ent N),(18,Q5.ent N),(123,Q19.ent N)] [(7,Q21.h7),(11,Q21.h11),(21,Q21.h21)] [(11,Q21.c11 N),(21,Q21.c21 N),(7,Q21.c7 N)] N [.cell 4 26,.cell 5 26] [.recd [.il .u32 1],.recd [.il .u32 1]] 0 190
noncomputable def Q21.b11:Code:=mA ((cA (bo Tryz.f108)).getD 2 .skip)
theorem Q21.l11_eq {R:Type}(N n:Nat)(a b c d e:Int)(f g h:W6)(k:Ex→St→Option R):
  vA 0 Q21.h11 (fun s k=>tA (Q21.E N) 380 Q21.b11 s k) n [.ptr 0 0 1,.ptr 1 0 1,.c (.int .i64 a),.c (.int .i64 b),.sw 2 1,.sw 3 1,.sw 4 1,.c (.int .i64 c),.c (.int .u64 d),.c (.int .u64 e)] [.vals [.c (.slice none 0 0)],.vals [.c (.slice none 0 0)],.ints .u32 f,.ints .u32 g,.ints .u32 h] k=Q21.l11 N n a b c d e f g h (fun i j l m o p q=>k (.exit 2) ⟨tB Q21.h11.out [.ptr 0 0 1,.ptr 1 0 1,.c (.int .i64 i),.c (.int .i64 j),.sw 2 1,.sw 3 1,.sw 4 1,.c (.int .i64 l),.c (.int .u64 m)],[.vals [.c (.slice none 0 0)],.vals [.c (.slice none 0 0)],.ints .u32 o,.ints .u32 p,.ints .u32 q]⟩):=by
 induction n generalizing a b c d e f g h with
 |zero=>kernel_rfl
 |succ n ih=>
  simp only[Q21.l11,←ih]
  kernel_rfl
noncomputable def Q21.b21:Code:=mA ((cA (bo Tryz.f108)).getD 3 .skip)
theorem Q21.l21_eq {R:Type}(N n:Nat)(a b c:Int)(d e:Nat)(f g h:Int)(i j l:W6)(k:Ex→St→Option R):
  vA 0 Q21.h21 (fun s k=>tA (Q21.E N) 375 Q21.b21 s k) n [.ptr 0 0 1,.ptr 1 0 1,.c (.int .i64 a),.c (.int .i64 b),.sw 2 1,.sw 3 1,.sw 4 1,.c (.int .i64 c),.sl 3 1 d e,.c (.int .u64 f),.c (.int .i64 g),.c (.int .i64 h)] [.vals [.c (.slice none 0 0)],.vals [.c (.slice none 0 0)],.ints .u32 i,.ints .u32 j,.ints .u32 l] k=Q21.l21 N n a b c d e f g h i j l (fun m o p q r t=>k (.exit 4) ⟨tB Q21.h21.out [.ptr 0 0 1,.ptr 1 0 1,.c (.int .i64 m),.c (.int .i64 o),.sw 2 1,.sw 3 1,.sw 4 1,.c (.int .i64 p)],[.vals [.c (.slice none 0 0)],.vals [.c (.slice none 0 0)],.ints .u32 q,.ints .u32 r,.ints .u32 t]⟩):=by
 induction n generalizing a b c d e f g h i j l with
 |zero=>kernel_rfl
 |succ n ih=>
  simp only[Q21.l21,←ih]
  kernel_rfl
noncomputable def Q21.b7:Code:=mA ((cA (bo Tryz.f108)).getD 1 .skip)
theorem Q21.l7_eq {R:Type}(N n:Nat)(e g h:Int)(i a b:W6)(k:Ex→St→Option R):
  vA 0 Q21.h7 (fun s k=>tA (Q21.E N) 388 Q21.b7 s k) n [.ptr 0 0 1,.ptr 1 0 1,.c (.int .i64 e),.c (.int .i64 g),.sw 2 1,.sw 3 1,.sw 4 1,.c (.int .i64 h)] [.vals [.c (.slice none 0 0)],.vals [.c (.slice none 0 0)],.ints .u32 i,.ints .u32 a,.ints .u32 b] k=Q21.l7 N n e g h i a b (fun c d f=>k (.exit 0) ⟨tB Q21.h7.out [.ptr 0 0 1,.ptr 1 0 1,.c (.int .i64 c),.sw 2 1,.sw 3 1],[.vals [.c (.slice none 0 0)],.vals [.c (.slice none 0 0)],.ints .u32 d,.ints .u32 f]⟩):=by
 induction n generalizing e g h i a b with
 |zero=>kernel_rfl
 |succ n ih=>
  simp only[Q21.l7,←ih]
  kernel_rfl
noncomputable def Q21.dec (v:V)(bs:List oA):Option (W6×W6):=match v,bs with
 | .tup [.agg [.il .u32 1 a],.agg [.il .u32 1 b]],[]=>some (a,b)
 |_,_=>none
theorem Q21.f_eq (N:Nat)(a b:W6):
  uA (Q21.E N) (bo Tryz.f108) [.agg [.il .u32 1 a],.agg [.il .u32 1 b]] [] Q21.dec=Q21.f N a b:=by kernel_rfl
noncomputable def Q21.ent (N:Nat):rA:=tF (W6×W6) 0 [true,true] [.recd [.il .u32 1],.recd [.il .u32 1]] fun
 | [.agg [.il .u32 1 a],.agg [.il .u32 1 b]]=>some (Q21.f N a b,fun r=>.one (.tup [.agg [.il .u32 1 r.1],.agg [.il .u32 1 r.2]]) [])
 |_=>none
theorem Q21.env (N:Nat):sA Tryz.prog (Q21.E N):=⟨(.cons gE (.cons jB (.cons fF (.cons zG .nil)))),(.cons (Q4.ent_ok N) (.cons (Q18.ent_ok N) (.cons (Q20.ent_ok N) (.cons (Q5.ent_ok N) (.cons (Q19.ent_ok N) .nil))))),fun h=>hA (show false=true from h)⟩
theorem Q21.k21 (N:Nat):eB Tryz.prog Tryz.f108 (Q21.E N) (.loop Q21.b21):=xB (Q21.env N) bA 375 (c:=Q21.c21 N) aA.n fun R vs H k r h=>by unfold Q21.c21 at h;dsimp only at h;split at h;exact⟨_,Q21.l21_eq .. ▸h⟩;cases h
theorem Q21.k11 (N:Nat):eB Tryz.prog Tryz.f108 (Q21.E N) (.loop Q21.b11):=xB (Q21.env N) bA 380 (c:=Q21.c11 N) aA.n fun R vs H k r h=>by unfold Q21.c11 at h;dsimp only at h;split at h;exact⟨_,Q21.l11_eq .. ▸h⟩;cases h
theorem Q21.k7 (N:Nat):eB Tryz.prog Tryz.f108 (Q21.E N) (.loop Q21.b7):=xB (Q21.env N) bA 388 (c:=Q21.c7 N) (aA.of (l:=[(.loop (mA ((cA (bo Tryz.f108)).getD 2 .skip))),(.loop (mA ((cA (bo Tryz.f108)).getD 3 .skip)))]) (by kernel_rfl) (aA.cons (Q21.k11 N) (aA.cons (Q21.k21 N) aA.nil))) fun R vs H k r h=>by unfold Q21.c7 at h;dsimp only at h;split at h;exact⟨_,Q21.l7_eq .. ▸h⟩;cases h
theorem Q21.spec (N:Nat)(a c:W6)(r:W6×W6)(h:Q21.f N a c=some r):dA Tryz.prog 108 [.agg [.il .u32 1 a],.agg [.il .u32 1 c]] [] (.tup [.agg [.il .u32 1 r.1],.agg [.il .u32 1 r.2]]) ([]):=qA (Q21.env N) bA Tryz.func108 (aA.of (l:=[(.scope (mA ((cA (bo Tryz.f108)).getD 0 .skip))),(.loop (mA ((cA (bo Tryz.f108)).getD 1 .skip))),(.loop (mA ((cA (bo Tryz.f108)).getD 2 .skip))),(.loop (mA ((cA (bo Tryz.f108)).getD 3 .skip)))]) (by kernel_rfl) (aA.cons (pT (by kernel_rfl)) (aA.cons (Q21.k7 N) (aA.cons (Q21.k11 N) (aA.cons (Q21.k21 N) aA.nil))))) ((Q21.f_eq ..).trans h) fun v b e=>by unfold Q21.dec at e;split at e<;>cases e;exact⟨rfl,rfl⟩
theorem Q21.ent_ok (N:Nat):pA Tryz.prog 108 (Q21.ent N):=xA fun v a e h=>by split at h;exact gC (Q:=fun e=>dA _ _ _ _ (e a).pick.1 (e a).pick.2) h fun k=>Q21.spec N _ _ a k;cases h
noncomputable def Q22.f (N:Nat)(a b:W6):Option (W6×W6×Int):=
 bif (b.length:Int)==0 then
  some ([],[],11)
 else
 (Q12.f N a b).bind fun f=>
 bif decide (f<0)then
  some ([],a,0)
 else
 bif (b.length:Int)==1 then
  bif lB a.length 4 then
   bif decide (0<(b.length:Int))then
    (Q9.f N 0 a.length (b.getD 0 0) a).bind fun c=>
    (Q5.f N 0 c.2.length c.2).bind fun d=>
    (Q8.f N (dB c.1)).bind fun g=>
    some ((d.2.2.drop d.1).take d.2.1,g,0)
   else none
  else none
 else
 (Q21.f N a b).bind fun e=>
 some (e.1,e.2,0)
noncomputable def Q22.E (N:Nat):aC:=mD [(24,zL),(26,kE),(56,jO),(68,aT)] [(22,Q12.ent N),(17,Q9.ent N),(18,Q5.ent N),(23,Q8.ent N),(108,Q21.ent N)] [] [] N [.cell 4 26,.cell 5 26,.tmp 6] [.recd [.il .u32 1],.recd [.il .u32 1],.any] 0 47
noncomputable def Q22.dec (v:V)(bs:List oA):Option (W6×W6×Int):=match v,bs with
 | .tup [.agg [.il .u32 1 a],.agg [.il .u32 1 b],.c (.int .i64 c)],[]=>some (a,b,c)
 |_,_=>none
theorem Q22.f_eq (N:Nat)(a b:W6):
  uA (Q22.E N) (bo Tryz.f83) [.agg [.il .u32 1 a],.agg [.il .u32 1 b]] [] Q22.dec=Q22.f N a b:=by kernel_rfl
noncomputable def Q22.ent (N:Nat):rA:=tF (W6×W6×Int) 0 [true,true] [.recd [.il .u32 1],.recd [.il .u32 1]] fun
 | [.agg [.il .u32 1 a],.agg [.il .u32 1 b]]=>some (Q22.f N a b,fun r=>.one (.tup [.agg [.il .u32 1 r.1],.agg [.il .u32 1 r.2.1],.c (.int .i64 r.2.2)]) [])
 |_=>none
theorem Q22.env (N:Nat):sA Tryz.prog (Q22.E N):=⟨(.cons gE (.cons jB (.cons fF (.cons zG .nil)))),(.cons (Q12.ent_ok N) (.cons (Q9.ent_ok N) (.cons (Q5.ent_ok N) (.cons (Q8.ent_ok N) (.cons (Q21.ent_ok N) .nil))))),fun h=>hA (show false=true from h)⟩
theorem Q22.spec (N:Nat)(a c:W6)(r:W6×W6×Int)(h:Q22.f N a c=some r):dA Tryz.prog 83 [.agg [.il .u32 1 a],.agg [.il .u32 1 c]] [] (.tup [.agg [.il .u32 1 r.1],.agg [.il .u32 1 r.2.1],.c (.int .i64 r.2.2)]) ([]):=qA (Q22.env N) bA Tryz.func83 aA.n ((Q22.f_eq ..).trans h) fun v b e=>by unfold Q22.dec at e;split at e<;>cases e;exact⟨rfl,rfl⟩
theorem Q22.ent_ok (N:Nat):pA Tryz.prog 83 (Q22.ent N):=xA fun v a e h=>by split at h;exact gC (Q:=fun e=>dA _ _ _ _ (e a).pick.1 (e a).pick.2) h fun k=>Q22.spec N _ _ a k;cases h
noncomputable def Q23.l1 {R:Type}(N:Nat):Nat→W6→W6→(W6→Option R)→Option R
 |0,_,_,_=>none
 |n+1,c,a,b=>
  bif decide ((a.length:Int)>0)then
   (Q22.f N c a).bind fun d=>
   Q23.l1 N n a d.2.1 b
  else
  b c
noncomputable def Q23.f (N:Nat)(a b:W6):Option W6:=
 Q23.l1 N N a b
  (fun c=>
   some c)
noncomputable def Q23.h1:uB:=⟨[(2,.box [.il .u32 1]),(3,.box [.il .u32 1]),(4,.box [.any])],[(2,.box [.il .u32 1]),(4,.box [.any])]⟩
noncomputable def Q23.c1 (N:Nat):mF:=⟨fun vs H k=>match vs,H with
 | [.ptr 0 0 1,.ptr 1 0 1,.ptr 2 0 1],[.vals [.il .u32 1 a],.vals [.il .u32 1 b],.vals [.c (.slice none 0 0)]]=>Q23.l1 N N a b (fun c=>k (.exit 0) ⟨tB Q23.h1.out [.ptr 0 0 1,.ptr 1 0 1],[.vals [.il .u32 1 c],.vals [.c (.slice none 0 0)]]⟩)
 |_,_=>none⟩
noncomputable def Q23.E (N:Nat):aC:=mD [(24,zL),(26,kE)] [(83,Q22.ent N)] [(1,Q23.h1)] [(1,Q23.c1 N)] N [.cell 4 26] [.recd [.il .u32 1]] 0 22
noncomputable def Q23.b1:Code:=mA ((cA (bo Tryz.f119)).getD 0 .skip)
theorem Q23.l1_eq {R:Type}(N n:Nat)(a b:W6)(k:Ex→St→Option R):
  vA 0 Q23.h1 (fun s k=>tA (Q23.E N) 396 Q23.b1 s k) n [.ptr 0 0 1,.ptr 1 0 1,.ptr 2 0 1] [.vals [.il .u32 1 a],.vals [.il .u32 1 b],.vals [.c (.slice none 0 0)]] k=Q23.l1 N n a b (fun c=>k (.exit 0) ⟨tB Q23.h1.out [.ptr 0 0 1,.ptr 1 0 1],[.vals [.il .u32 1 c],.vals [.c (.slice none 0 0)]]⟩):=by
 induction n generalizing a b with
 |zero=>kernel_rfl
 |succ n ih=>
  simp only[Q23.l1,←ih]
  kernel_rfl
noncomputable def Q23.dec (v:V)(bs:List oA):Option W6:=match v,bs with
 | .agg [.il .u32 1 a],[]=>some a
 |_,_=>none
theorem Q23.f_eq (N:Nat)(a b:W6):
  uA (Q23.E N) (bo Tryz.f119) [.agg [.il .u32 1 a],.agg [.il .u32 1 b]] [] Q23.dec=Q23.f N a b:=by kernel_rfl
noncomputable def Q23.ent (N:Nat):rA:=tF W6 0 [true,true] [.recd [.il .u32 1],.recd [.il .u32 1]] fun
 | [.agg [.il .u32 1 a],.agg [.il .u32 1 b]]=>some (Q23.f N a b,fun r=>.one (.agg [.il .u32 1 r]) [])
 |_=>none
theorem Q23.env (N:Nat):sA Tryz.prog (Q23.E N):=⟨(.cons gE (.cons jB .nil)),(.cons (Q22.ent_ok N) .nil),fun h=>hA (show false=true from h)⟩
theorem Q23.k1 (N:Nat):eB Tryz.prog Tryz.f119 (Q23.E N) (.loop Q23.b1):=xB (Q23.env N) bA 396 (c:=Q23.c1 N) aA.n fun R vs H k r h=>by unfold Q23.c1 at h;dsimp only at h;split at h;exact⟨_,Q23.l1_eq .. ▸h⟩;cases h
theorem Q23.spec (N:Nat)(a c r:W6)(h:Q23.f N a c=some r):dA Tryz.prog 119 [.agg [.il .u32 1 a],.agg [.il .u32 1 c]] [] (.agg [.il .u32 1 r]) ([]):=qA (Q23.env N) bA Tryz.func119 (aA.of (l:=[(.loop (mA ((cA (bo Tryz.f119)).getD 0 .skip)))]) (by kernel_rfl) (aA.cons (Q23.k1 N) aA.nil)) ((Q23.f_eq ..).trans h) fun v b e=>by unfold Q23.dec at e;split at e<;>cases e;exact⟨rfl,rfl⟩
theorem Q23.ent_ok (N:Nat):pA Tryz.prog 119 (Q23.ent N):=xA fun v a e h=>by split at h;exact gC (Q:=fun e=>dA _ _ _ _ (e a).pick.1 (e a).pick.2) h fun k=>Q23.spec N _ _ a k;cases h
noncomputable def iW:TI:=⟨.int .i64,1,8,[.int .i64 0]⟩
noncomputable def oz:TI:=⟨.bool,1,1,[.bool false]⟩
noncomputable def nD:TI:=⟨.struct [(4,0),(26,1)],2,32,[.bool false,.slice none 0 0]⟩
theorem sE:cC Tryz.prog 2 iW:=eC (by kernel_rfl) (by kernel_rfl) (by kernel_rfl) (by kernel_rfl) (by kernel_rfl) (by kernel_rfl) (by kernel_rfl) (Tryz.underlying2) (by kernel_rfl)
theorem gI:cC Tryz.prog 4 oz:=eC (by kernel_rfl) (by kernel_rfl) (by kernel_rfl) (by kernel_rfl) (by kernel_rfl) (by kernel_rfl) (by kernel_rfl) (Tryz.underlying4) (by kernel_rfl)
theorem bB:cC Tryz.prog 39 nD:=eC (by kernel_rfl) (by kernel_rfl) (by kernel_rfl) (by kernel_rfl) (by kernel_rfl) (by kernel_rfl) (by kernel_rfl) (eK Tryz.underlying39 (by kernel_rfl) (by kernel_rfl)) (by kernel_rfl)
noncomputable def Q24.f (N:Nat)(a:Bool)(b:W6):Option (Int):=
 (Q6.f N b).bind fun c=>
 bif c==0 then
  some 0
 else
 bif a then
  some (-1)
 else
 some 1
noncomputable def Q24.E (N:Nat):aC:=mD [(4,oz),(26,kE),(39,nD)] [(67,Q6.ent N)] [] [] N [.tmp 2] [.any] 0 11
noncomputable def Q24.dec (v:V)(bs:List oA):Option (Int):=match v,bs with
 | .c (.int .i64 a),[]=>some a
 |_,_=>none
theorem Q24.f_eq (N:Nat)(a:Bool)(b:W6):
  uA (Q24.E N) (bo Tryz.f41) [.agg [.c (.bool a),.il .u32 1 b]] [] Q24.dec=Q24.f N a b:=by kernel_rfl
noncomputable def Q24.ent (N:Nat):rA:=tF (Int) 0 [true] [.recd [.any,.il .u32 1]] fun
 | [.agg [.c (.bool a),.il .u32 1 b]]=>some (Q24.f N a b,fun r=>.one (.c (.int .i64 r)) [])
 |_=>none
theorem Q24.env (N:Nat):sA Tryz.prog (Q24.E N):=⟨(.cons gI (.cons jB (.cons bB .nil))),(.cons (Q6.ent_ok N) .nil),fun h=>hA (show false=true from h)⟩
theorem Q24.spec (N:Nat)(a:Bool)(c:W6)(r:Int)(h:Q24.f N a c=some r):dA Tryz.prog 41 [.agg [.c (.bool a),.il .u32 1 c]] [] (.c (.int .i64 r)) ([]):=qA (Q24.env N) bA Tryz.func41 aA.n ((Q24.f_eq ..).trans h) fun v b e=>by unfold Q24.dec at e;split at e<;>cases e;exact⟨rfl,rfl⟩
theorem Q24.ent_ok (N:Nat):pA Tryz.prog 41 (Q24.ent N):=xA fun v a e h=>by split at h;exact gC (Q:=fun e=>dA _ _ _ _ (e a).pick.1 (e a).pick.2) h fun k=>Q24.spec N _ _ a k;cases h
noncomputable def Q25.f (N:Nat)(b:Bool)(a:W6):Option (Bool×W6):=
 bif b then
  (Q6.f N a).bind fun c=>
  some (decide (c>0),a)
 else
 some (false,a)
noncomputable def Q25.E (N:Nat):aC:=mD [(4,oz),(26,kE),(39,nD)] [(67,Q6.ent N)] [] [] N [.cell 4 39] [.recd [.any,.il .u32 1]] 0 13
noncomputable def Q25.dec (v:V)(bs:List oA):Option (Bool×W6):=match v,bs with
 | .agg [.c (.bool a),.il .u32 1 b],[]=>some (a,b)
 |_,_=>none
theorem Q25.f_eq (N:Nat)(a:Bool)(b:W6):
  uA (Q25.E N) (bo Tryz.f69) [.c (.bool a),.agg [.il .u32 1 b]] [] Q25.dec=Q25.f N a b:=by kernel_rfl
noncomputable def Q25.ent (N:Nat):rA:=tF (Bool×W6) 0 [true,true] [.any,.recd [.il .u32 1]] fun
 | [.c (.bool a),.agg [.il .u32 1 b]]=>some (Q25.f N a b,fun r=>.one (.agg [.c (.bool r.1),.il .u32 1 r.2]) [])
 |_=>none
theorem Q25.env (N:Nat):sA Tryz.prog (Q25.E N):=⟨(.cons gI (.cons jB (.cons bB .nil))),(.cons (Q6.ent_ok N) .nil),fun h=>hA (show false=true from h)⟩
theorem Q25.spec (N:Nat)(a:Bool)(c:W6)(r:Bool×W6)(h:Q25.f N a c=some r):dA Tryz.prog 69 [.c (.bool a),.agg [.il .u32 1 c]] [] (.agg [.c (.bool r.1),.il .u32 1 r.2]) ([]):=qA (Q25.env N) bA Tryz.func69 aA.n ((Q25.f_eq ..).trans h) fun v b e=>by unfold Q25.dec at e;split at e<;>cases e;exact⟨rfl,rfl⟩
theorem Q25.ent_ok (N:Nat):pA Tryz.prog 69 (Q25.ent N):=xA fun v a e h=>by split at h;exact gC (Q:=fun e=>dA _ _ _ _ (e a).pick.1 (e a).pick.2) h fun k=>Q25.spec N _ _ a k;cases h
noncomputable def Q26.f (N:Nat)(b:Bool)(a:W6):Option W6:=
 some a
noncomputable def Q26.E (N:Nat):aC:=mD [(26,kE),(39,nD)] [] [] [] N [.cell 2 26] [.recd [.il .u32 1]] 0 5
noncomputable def Q26.dec (v:V)(bs:List oA):Option W6:=match v,bs with
 | .agg [.il .u32 1 a],[]=>some a
 |_,_=>none
theorem Q26.f_eq (N:Nat)(a:Bool)(b:W6):
  uA (Q26.E N) (bo Tryz.f14) [.agg [.c (.bool a),.il .u32 1 b]] [] Q26.dec=Q26.f N a b:=by kernel_rfl
noncomputable def Q26.ent (N:Nat):rA:=tF W6 0 [true] [.recd [.any,.il .u32 1]] fun
 | [.agg [.c (.bool a),.il .u32 1 b]]=>some (Q26.f N a b,fun r=>.one (.agg [.il .u32 1 r]) [])
 |_=>none
theorem Q26.env (N:Nat):sA Tryz.prog (Q26.E N):=⟨(.cons jB (.cons bB .nil)),.nil,fun h=>hA (show false=true from h)⟩
theorem Q26.spec (N:Nat)(a:Bool)(c r:W6)(h:Q26.f N a c=some r):dA Tryz.prog 14 [.agg [.c (.bool a),.il .u32 1 c]] [] (.agg [.il .u32 1 r]) ([]):=qA (Q26.env N) bA Tryz.func14 aA.n ((Q26.f_eq ..).trans h) fun v b e=>by unfold Q26.dec at e;split at e<;>cases e;exact⟨rfl,rfl⟩
theorem Q26.ent_ok (N:Nat):pA Tryz.prog 14 (Q26.ent N):=xA fun v a e h=>by split at h;exact gC (Q:=fun e=>dA _ _ _ _ (e a).pick.1 (e a).pick.2) h fun k=>Q26.spec N _ _ a k;cases h
noncomputable def Q27.f (N:Nat)(b:Bool)(c:W6):Option (Bool×W6):=
 (Q25.f N (!b) c).bind fun a=>
 some (a.1,a.2)
noncomputable def Q27.E (N:Nat):aC:=mD [(4,oz),(26,kE),(39,nD)] [(69,Q25.ent N)] [] [] N [.cell 2 39] [.recd [.any,.il .u32 1]] 0 9
noncomputable def Q27.dec (v:V)(bs:List oA):Option (Bool×W6):=match v,bs with
 | .agg [.c (.bool a),.il .u32 1 b],[]=>some (a,b)
 |_,_=>none
theorem Q27.f_eq (N:Nat)(a:Bool)(b:W6):
  uA (Q27.E N) (bo Tryz.f48) [.agg [.c (.bool a),.il .u32 1 b]] [] Q27.dec=Q27.f N a b:=by kernel_rfl
noncomputable def Q27.ent (N:Nat):rA:=tF (Bool×W6) 0 [true] [.recd [.any,.il .u32 1]] fun
 | [.agg [.c (.bool a),.il .u32 1 b]]=>some (Q27.f N a b,fun r=>.one (.agg [.c (.bool r.1),.il .u32 1 r.2]) [])
 |_=>none
theorem Q27.env (N:Nat):sA Tryz.prog (Q27.E N):=⟨(.cons gI (.cons jB (.cons bB .nil))),(.cons (Q25.ent_ok N) .nil),fun h=>hA (show false=true from h)⟩
theorem Q27.spec (N:Nat)(a:Bool)(c:W6)(r:Bool×W6)(h:Q27.f N a c=some r):dA Tryz.prog 48 [.agg [.c (.bool a),.il .u32 1 c]] [] (.agg [.c (.bool r.1),.il .u32 1 r.2]) ([]):=qA (Q27.env N) bA Tryz.func48 aA.n ((Q27.f_eq ..).trans h) fun v b e=>by unfold Q27.dec at e;split at e<;>cases e;exact⟨rfl,rfl⟩
theorem Q27.ent_ok (N:Nat):pA Tryz.prog 48 (Q27.ent N):=xA fun v a e h=>by split at h;exact gC (Q:=fun e=>dA _ _ _ _ (e a).pick.1 (e a).pick.2) h fun k=>Q27.spec N _ _ a k;cases h
noncomputable def Q28.f (N:Nat)(a:Int):Option (Bool×W6):=
 bif decide (a<0)then
  (Q8.f N (dB (0- (dB a)))).bind fun b=>
  some (true,b)
 else
 (Q8.f N (dB a)).bind fun c=>
 some (false,c)
noncomputable def Q28.E (N:Nat):aC:=mD [(2,iW),(4,oz),(26,kE),(39,nD),(68,aT)] [(23,Q8.ent N)] [] [] N [.cell 2 39] [.recd [.any,.il .u32 1]] 0 14
noncomputable def Q28.dec (v:V)(bs:List oA):Option (Bool×W6):=match v,bs with
 | .agg [.c (.bool a),.il .u32 1 b],[]=>some (a,b)
 |_,_=>none
theorem Q28.f_eq (N:Nat)(a:Int):
  uA (Q28.E N) (bo Tryz.f10) [.c (.int .i64 a)] [] Q28.dec=Q28.f N a:=by kernel_rfl
noncomputable def Q28.ent (N:Nat):rA:=tF (Bool×W6) 0 [true] [.any] fun
 | [.c (.int .i64 a)]=>some (Q28.f N a,fun r=>.one (.agg [.c (.bool r.1),.il .u32 1 r.2]) [])
 |_=>none
theorem Q28.env (N:Nat):sA Tryz.prog (Q28.E N):=⟨(.cons sE (.cons gI (.cons jB (.cons bB (.cons zG .nil))))),(.cons (Q8.ent_ok N) .nil),fun h=>hA (show false=true from h)⟩
theorem Q28.spec (N:Nat)(a:Int)(r:Bool×W6)(h:Q28.f N a=some r):dA Tryz.prog 10 [.c (.int .i64 a)] [] (.agg [.c (.bool r.1),.il .u32 1 r.2]) ([]):=qA (Q28.env N) bA Tryz.func10 aA.n ((Q28.f_eq ..).trans h) fun v b e=>by unfold Q28.dec at e;split at e<;>cases e;exact⟨rfl,rfl⟩
theorem Q28.ent_ok (N:Nat):pA Tryz.prog 10 (Q28.ent N):=xA fun v a e h=>by split at h;exact gC (Q:=fun e=>dA _ _ _ _ (e a).pick.1 (e a).pick.2) h fun k=>Q28.spec N _ a k;cases h
noncomputable def Q29.f (N:Nat)(b:Bool)(c:W6):Option (Int×Bool):=
 (Q11.f N c).bind fun a=>
 bif !a.2 then
  some (0,false)
 else
 bif decide (a.1>9223372036854775808)then
  some (0,false)
 else
 bif a.1==9223372036854775808 then
  bif !b then
   some (0,false)
  else
  bif b then
   some (fA (dB (0-a.1)),true)
  else
  some (fA a.1,true)
 else
 bif b then
  some (fA (dB (0-a.1)),true)
 else
 some (fA a.1,true)
noncomputable def Q29.E (N:Nat):aC:=mD [(2,iW),(4,oz),(26,kE),(39,nD),(68,aT)] [(86,Q11.ent N)] [] [] N [.tmp 2,.tmp 3] [.any,.any] 0 36
noncomputable def Q29.dec (v:V)(bs:List oA):Option (Int×Bool):=match v,bs with
 | .tup [.c (.int .i64 a),.c (.bool b)],[]=>some (a,b)
 |_,_=>none
theorem Q29.f_eq (N:Nat)(a:Bool)(b:W6):
  uA (Q29.E N) (bo Tryz.f61) [.agg [.c (.bool a),.il .u32 1 b]] [] Q29.dec=Q29.f N a b:=by kernel_rfl
noncomputable def Q29.ent (N:Nat):rA:=tF (Int×Bool) 0 [true] [.recd [.any,.il .u32 1]] fun
 | [.agg [.c (.bool a),.il .u32 1 b]]=>some (Q29.f N a b,fun r=>.one (.tup [.c (.int .i64 r.1),.c (.bool r.2)]) [])
 |_=>none
theorem Q29.env (N:Nat):sA Tryz.prog (Q29.E N):=⟨(.cons sE (.cons gI (.cons jB (.cons bB (.cons zG .nil))))),(.cons (Q11.ent_ok N) .nil),fun h=>hA (show false=true from h)⟩
theorem Q29.spec (N:Nat)(a:Bool)(c:W6)(r:Int×Bool)(h:Q29.f N a c=some r):dA Tryz.prog 61 [.agg [.c (.bool a),.il .u32 1 c]] [] (.tup [.c (.int .i64 r.1),.c (.bool r.2)]) ([]):=qA (Q29.env N) bA Tryz.func61 aA.n ((Q29.f_eq ..).trans h) fun v b e=>by unfold Q29.dec at e;split at e<;>cases e;exact⟨rfl,rfl⟩
theorem Q29.ent_ok (N:Nat):pA Tryz.prog 61 (Q29.ent N):=xA fun v a e h=>by split at h;exact gC (Q:=fun e=>dA _ _ _ _ (e a).pick.1 (e a).pick.2) h fun k=>Q29.spec N _ _ a k;cases h
noncomputable def Q30.f (N:Nat)(a:Bool)(b:W6)(c:Bool)(d:W6):Option (Int):=
 bif a then
  bif c then
   (Q12.f N d b).bind fun e=>
   some e
  else
  bif a then
   some (-1)
  else
  bif c then
   some 1
  else
  (Q12.f N b d).bind fun f=>
  some f
 else
 bif a then
  some (-1)
 else
 bif c then
  some 1
 else
 (Q12.f N b d).bind fun g=>
 some g
noncomputable def Q30.E (N:Nat):aC:=mD [(4,oz),(26,kE),(39,nD)] [(22,Q12.ent N)] [] [] N [.tmp 4] [.any] 0 28
noncomputable def Q30.dec (v:V)(bs:List oA):Option (Int):=match v,bs with
 | .c (.int .i64 a),[]=>some a
 |_,_=>none
theorem Q30.f_eq (N:Nat)(a:Bool)(b:W6)(c:Bool)(d:W6):
  uA (Q30.E N) (bo Tryz.f9) [.agg [.c (.bool a),.il .u32 1 b],.agg [.c (.bool c),.il .u32 1 d]] [] Q30.dec=Q30.f N a b c d:=by kernel_rfl
noncomputable def Q30.ent (N:Nat):rA:=tF (Int) 0 [true,true] [.recd [.any,.il .u32 1],.recd [.any,.il .u32 1]] fun
 | [.agg [.c (.bool a),.il .u32 1 b],.agg [.c (.bool c),.il .u32 1 d]]=>some (Q30.f N a b c d,fun r=>.one (.c (.int .i64 r)) [])
 |_=>none
theorem Q30.env (N:Nat):sA Tryz.prog (Q30.E N):=⟨(.cons gI (.cons jB (.cons bB .nil))),(.cons (Q12.ent_ok N) .nil),fun h=>hA (show false=true from h)⟩
theorem Q30.spec (N:Nat)(a:Bool)(c:W6)(d:Bool)(f:W6)(r:Int)(h:Q30.f N a c d f=some r):dA Tryz.prog 9 [.agg [.c (.bool a),.il .u32 1 c],.agg [.c (.bool d),.il .u32 1 f]] [] (.c (.int .i64 r)) ([]):=qA (Q30.env N) bA Tryz.func9 aA.n ((Q30.f_eq ..).trans h) fun v b e=>by unfold Q30.dec at e;split at e<;>cases e;exact⟨rfl,rfl⟩
theorem Q30.ent_ok (N:Nat):pA Tryz.prog 9 (Q30.ent N):=xA fun v a e h=>by split at h;exact gC (Q:=fun e=>dA _ _ _ _ (e a).pick.1 (e a).pick.2) h fun k=>Q30.spec N _ _ _ _ a k;cases h
noncomputable def Q31.f (N:Nat)(e:Bool)(c:W6)(f:Bool)(d:W6):Option (Bool×W6×Int):=
 bif e==f then
  (Q13.f N c d).bind fun g=>
  (Q25.f N e g.1).bind fun h=>
  some (h.1,h.2,g.2)
 else
 (Q12.f N c d).bind fun k=>
 bif decide (k<0)then
  (Q15.f N d c).bind fun i=>
  (Q25.f N f i.1).bind fun j=>
  some (j.1,j.2,i.2)
 else
 (Q15.f N c d).bind fun a=>
 (Q25.f N e a.1).bind fun b=>
 some (b.1,b.2,a.2)
noncomputable def Q31.E (N:Nat):aC:=mD [(4,oz),(26,kE),(39,nD)] [(84,Q13.ent N),(69,Q25.ent N),(22,Q12.ent N),(87,Q15.ent N)] [] [] N [.cell 4 39,.tmp 5] [.recd [.any,.il .u32 1],.any] 0 49
noncomputable def Q31.dec (v:V)(bs:List oA):Option (Bool×W6×Int):=match v,bs with
 | .tup [.agg [.c (.bool a),.il .u32 1 b],.c (.int .i64 c)],[]=>some (a,b,c)
 |_,_=>none
theorem Q31.f_eq (N:Nat)(a:Bool)(b:W6)(c:Bool)(d:W6):
  uA (Q31.E N) (bo Tryz.f70) [.agg [.c (.bool a),.il .u32 1 b],.agg [.c (.bool c),.il .u32 1 d]] [] Q31.dec=Q31.f N a b c d:=by kernel_rfl
noncomputable def Q31.ent (N:Nat):rA:=tF (Bool×W6×Int) 0 [true,true] [.recd [.any,.il .u32 1],.recd [.any,.il .u32 1]] fun
 | [.agg [.c (.bool a),.il .u32 1 b],.agg [.c (.bool c),.il .u32 1 d]]=>some (Q31.f N a b c d,fun r=>.one (.tup [.agg [.c (.bool r.1),.il .u32 1 r.2.1],.c (.int .i64 r.2.2)]) [])
 |_=>none
theorem Q31.env (N:Nat):sA Tryz.prog (Q31.E N):=⟨(.cons gI (.cons jB (.cons bB .nil))),(.cons (Q13.ent_ok N) (.cons (Q25.ent_ok N) (.cons (Q12.ent_ok N) (.cons (Q15.ent_ok N) .nil)))),fun h=>hA (show false=true from h)⟩
theorem Q31.spec (N:Nat)(a:Bool)(c:W6)(d:Bool)(f:W6)(r:Bool×W6×Int)(h:Q31.f N a c d f=some r):dA Tryz.prog 70 [.agg [.c (.bool a),.il .u32 1 c],.agg [.c (.bool d),.il .u32 1 f]] [] (.tup [.agg [.c (.bool r.1),.il .u32 1 r.2.1],.c (.int .i64 r.2.2)]) ([]):=qA (Q31.env N) bA Tryz.func70 aA.n ((Q31.f_eq ..).trans h) fun v b e=>by unfold Q31.dec at e;split at e<;>cases e;exact⟨rfl,rfl⟩
theorem Q31.ent_ok (N:Nat):pA Tryz.prog 70 (Q31.ent N):=xA fun v a e h=>by split at h;exact gC (Q:=fun e=>dA _ _ _ _ (e a).pick.1 (e a).pick.2) h fun k=>Q31.spec N _ _ _ _ a k;cases h
noncomputable def Q32.f (N:Nat)(c:Bool)(d:W6)(e:Bool)(f:W6):Option (Bool×W6×Int):=
 (Q27.f N e f).bind fun b=>
 (Q31.f N c d b.1 b.2).bind fun a=>
 some (a.1,a.2.1,a.2.2)
noncomputable def Q32.E (N:Nat):aC:=mD [(39,nD)] [(48,Q27.ent N),(70,Q31.ent N)] [] [] N [.cell 4 39,.tmp 5] [.recd [.any,.il .u32 1],.any] 0 12
noncomputable def Q32.dec (v:V)(bs:List oA):Option (Bool×W6×Int):=match v,bs with
 | .tup [.agg [.c (.bool a),.il .u32 1 b],.c (.int .i64 c)],[]=>some (a,b,c)
 |_,_=>none
theorem Q32.f_eq (N:Nat)(a:Bool)(b:W6)(c:Bool)(d:W6):
  uA (Q32.E N) (bo Tryz.f43) [.agg [.c (.bool a),.il .u32 1 b],.agg [.c (.bool c),.il .u32 1 d]] [] Q32.dec=Q32.f N a b c d:=by kernel_rfl
noncomputable def Q32.ent (N:Nat):rA:=tF (Bool×W6×Int) 0 [true,true] [.recd [.any,.il .u32 1],.recd [.any,.il .u32 1]] fun
 | [.agg [.c (.bool a),.il .u32 1 b],.agg [.c (.bool c),.il .u32 1 d]]=>some (Q32.f N a b c d,fun r=>.one (.tup [.agg [.c (.bool r.1),.il .u32 1 r.2.1],.c (.int .i64 r.2.2)]) [])
 |_=>none
theorem Q32.env (N:Nat):sA Tryz.prog (Q32.E N):=⟨(.cons bB .nil),(.cons (Q27.ent_ok N) (.cons (Q31.ent_ok N) .nil)),fun h=>hA (show false=true from h)⟩
theorem Q32.spec (N:Nat)(a:Bool)(c:W6)(d:Bool)(f:W6)(r:Bool×W6×Int)(h:Q32.f N a c d f=some r):dA Tryz.prog 43 [.agg [.c (.bool a),.il .u32 1 c],.agg [.c (.bool d),.il .u32 1 f]] [] (.tup [.agg [.c (.bool r.1),.il .u32 1 r.2.1],.c (.int .i64 r.2.2)]) ([]):=qA (Q32.env N) bA Tryz.func43 aA.n ((Q32.f_eq ..).trans h) fun v b e=>by unfold Q32.dec at e;split at e<;>cases e;exact⟨rfl,rfl⟩
theorem Q32.ent_ok (N:Nat):pA Tryz.prog 43 (Q32.ent N):=xA fun v a e h=>by split at h;exact gC (Q:=fun e=>dA _ _ _ _ (e a).pick.1 (e a).pick.2) h fun k=>Q32.spec N _ _ _ _ a k;cases h
noncomputable def Q33.f (N:Nat)(c:Bool)(d:W6)(e:Bool)(f:W6):Option (Bool×W6×Int):=
 (Q17.f N d f).bind fun a=>
 (Q25.f N (!(c==e)) a.1).bind fun b=>
 some (b.1,b.2,a.2)
noncomputable def Q33.E (N:Nat):aC:=mD [(4,oz),(26,kE),(39,nD)] [(68,Q17.ent N),(69,Q25.ent N)] [] [] N [.cell 4 39,.tmp 5] [.recd [.any,.il .u32 1],.any] 0 24
noncomputable def Q33.dec (v:V)(bs:List oA):Option (Bool×W6×Int):=match v,bs with
 | .tup [.agg [.c (.bool a),.il .u32 1 b],.c (.int .i64 c)],[]=>some (a,b,c)
 |_,_=>none
theorem Q33.f_eq (N:Nat)(a:Bool)(b:W6)(c:Bool)(d:W6):
  uA (Q33.E N) (bo Tryz.f42) [.agg [.c (.bool a),.il .u32 1 b],.agg [.c (.bool c),.il .u32 1 d]] [] Q33.dec=Q33.f N a b c d:=by kernel_rfl
noncomputable def Q33.ent (N:Nat):rA:=tF (Bool×W6×Int) 0 [true,true] [.recd [.any,.il .u32 1],.recd [.any,.il .u32 1]] fun
 | [.agg [.c (.bool a),.il .u32 1 b],.agg [.c (.bool c),.il .u32 1 d]]=>some (Q33.f N a b c d,fun r=>.one (.tup [.agg [.c (.bool r.1),.il .u32 1 r.2.1],.c (.int .i64 r.2.2)]) [])
 |_=>none
theorem Q33.env (N:Nat):sA Tryz.prog (Q33.E N):=⟨(.cons gI (.cons jB (.cons bB .nil))),(.cons (Q17.ent_ok N) (.cons (Q25.ent_ok N) .nil)),fun h=>hA (show false=true from h)⟩
theorem Q33.spec (N:Nat)(a:Bool)(c:W6)(d:Bool)(f:W6)(r:Bool×W6×Int)(h:Q33.f N a c d f=some r):dA Tryz.prog 42 [.agg [.c (.bool a),.il .u32 1 c],.agg [.c (.bool d),.il .u32 1 f]] [] (.tup [.agg [.c (.bool r.1),.il .u32 1 r.2.1],.c (.int .i64 r.2.2)]) ([]):=qA (Q33.env N) bA Tryz.func42 aA.n ((Q33.f_eq ..).trans h) fun v b e=>by unfold Q33.dec at e;split at e<;>cases e;exact⟨rfl,rfl⟩
theorem Q33.ent_ok (N:Nat):pA Tryz.prog 42 (Q33.ent N):=xA fun v a e h=>by split at h;exact gC (Q:=fun e=>dA _ _ _ _ (e a).pick.1 (e a).pick.2) h fun k=>Q33.spec N _ _ _ _ a k;cases h
noncomputable def Q34.f (N:Nat)(h:Bool)(k:W6)(i:Bool)(j:W6):Option (Bool×W6×Bool×W6×Int):=
 (Q22.f N k j).bind fun a=>
 bif a.2.2 != 0 then
  some (false,[],false,[],a.2.2)
 else
 bif h then
  (Q6.f N a.2.1).bind fun l=>
  bif decide (l>0)then
   (Q8.f N 1).bind fun m=>
   (Q13.f N a.1 m).bind fun o=>
   (Q15.f N j a.2.1).bind fun p=>
   (Q25.f N (!(h==i)) o.1).bind fun b=>
   (Q25.f N false p.1).bind fun c=>
   some (b.1,b.2,c.1,c.2,0)
  else
  (Q25.f N (!(h==i)) a.1).bind fun d=>
  (Q25.f N false a.2.1).bind fun e=>
  some (d.1,d.2,e.1,e.2,0)
 else
 (Q25.f N (!(h==i)) a.1).bind fun f=>
 (Q25.f N false a.2.1).bind fun g=>
 some (f.1,f.2,g.1,g.2,0)
noncomputable def Q34.E (N:Nat):aC:=mD [(4,oz),(26,kE),(39,nD)] [(83,Q22.ent N),(67,Q6.ent N),(23,Q8.ent N),(84,Q13.ent N),(87,Q15.ent N),(69,Q25.ent N)] [] [] N [.cell 4 39,.cell 5 39,.tmp 6] [.recd [.any,.il .u32 1],.recd [.any,.il .u32 1],.any] 0 52
noncomputable def Q34.dec (v:V)(bs:List oA):Option (Bool×W6×Bool×W6×Int):=match v,bs with
 | .tup [.agg [.c (.bool a),.il .u32 1 b],.agg [.c (.bool c),.il .u32 1 d],.c (.int .i64 e)],[]=>some (a,b,c,d,e)
 |_,_=>none
theorem Q34.f_eq (N:Nat)(a:Bool)(b:W6)(c:Bool)(d:W6):
  uA (Q34.E N) (bo Tryz.f71) [.agg [.c (.bool a),.il .u32 1 b],.agg [.c (.bool c),.il .u32 1 d]] [] Q34.dec=Q34.f N a b c d:=by kernel_rfl
noncomputable def Q34.ent (N:Nat):rA:=tF (Bool×W6×Bool×W6×Int) 0 [true,true] [.recd [.any,.il .u32 1],.recd [.any,.il .u32 1]] fun
 | [.agg [.c (.bool a),.il .u32 1 b],.agg [.c (.bool c),.il .u32 1 d]]=>some (Q34.f N a b c d,fun r=>.one (.tup [.agg [.c (.bool r.1),.il .u32 1 r.2.1],.agg [.c (.bool r.2.2.1),.il .u32 1 r.2.2.2.1],.c (.int .i64 r.2.2.2.2)]) [])
 |_=>none
theorem Q34.env (N:Nat):sA Tryz.prog (Q34.E N):=⟨(.cons gI (.cons jB (.cons bB .nil))),(.cons (Q22.ent_ok N) (.cons (Q6.ent_ok N) (.cons (Q8.ent_ok N) (.cons (Q13.ent_ok N) (.cons (Q15.ent_ok N) (.cons (Q25.ent_ok N) .nil)))))),fun h=>hA (show false=true from h)⟩
theorem Q34.spec (N:Nat)(a:Bool)(c:W6)(d:Bool)(f:W6)(r:Bool×W6×Bool×W6×Int)(h:Q34.f N a c d f=some r):dA Tryz.prog 71 [.agg [.c (.bool a),.il .u32 1 c],.agg [.c (.bool d),.il .u32 1 f]] [] (.tup [.agg [.c (.bool r.1),.il .u32 1 r.2.1],.agg [.c (.bool r.2.2.1),.il .u32 1 r.2.2.2.1],.c (.int .i64 r.2.2.2.2)]) ([]):=qA (Q34.env N) bA Tryz.func71 aA.n ((Q34.f_eq ..).trans h) fun v b e=>by unfold Q34.dec at e;split at e<;>cases e;exact⟨rfl,rfl⟩
theorem Q34.ent_ok (N:Nat):pA Tryz.prog 71 (Q34.ent N):=xA fun v a e h=>by split at h;exact gC (Q:=fun e=>dA _ _ _ _ (e a).pick.1 (e a).pick.2) h fun k=>Q34.spec N _ _ _ _ a k;cases h
noncomputable def Q35.f (N:Nat)(b:Bool)(c:W6)(d:Bool)(e:W6):Option (Bool×W6×Int):=
 (Q34.f N b c d e).bind fun a=>
 bif a.2.2.2.2 != 0 then
  some (false,[],a.2.2.2.2)
 else
 (Q24.f N a.2.2.1 a.2.2.2.1).bind fun f=>
 bif f != 0 then
  some (false,[],2)
 else
 some (a.1,a.2.1,0)
noncomputable def Q35.E (N:Nat):aC:=mD [(4,oz),(26,kE),(39,nD)] [(71,Q34.ent N),(41,Q24.ent N)] [] [] N [.cell 4 39,.tmp 5] [.recd [.any,.il .u32 1],.any] 0 27
noncomputable def Q35.dec (v:V)(bs:List oA):Option (Bool×W6×Int):=match v,bs with
 | .tup [.agg [.c (.bool a),.il .u32 1 b],.c (.int .i64 c)],[]=>some (a,b,c)
 |_,_=>none
theorem Q35.f_eq (N:Nat)(a:Bool)(b:W6)(c:Bool)(d:W6):
  uA (Q35.E N) (bo Tryz.f44) [.agg [.c (.bool a),.il .u32 1 b],.agg [.c (.bool c),.il .u32 1 d]] [] Q35.dec=Q35.f N a b c d:=by kernel_rfl
noncomputable def Q35.ent (N:Nat):rA:=tF (Bool×W6×Int) 0 [true,true] [.recd [.any,.il .u32 1],.recd [.any,.il .u32 1]] fun
 | [.agg [.c (.bool a),.il .u32 1 b],.agg [.c (.bool c),.il .u32 1 d]]=>some (Q35.f N a b c d,fun r=>.one (.tup [.agg [.c (.bool r.1),.il .u32 1 r.2.1],.c (.int .i64 r.2.2)]) [])
 |_=>none
theorem Q35.env (N:Nat):sA Tryz.prog (Q35.E N):=⟨(.cons gI (.cons jB (.cons bB .nil))),(.cons (Q34.ent_ok N) (.cons (Q24.ent_ok N) .nil)),fun h=>hA (show false=true from h)⟩
theorem Q35.spec (N:Nat)(a:Bool)(c:W6)(d:Bool)(f:W6)(r:Bool×W6×Int)(h:Q35.f N a c d f=some r):dA Tryz.prog 44 [.agg [.c (.bool a),.il .u32 1 c],.agg [.c (.bool d),.il .u32 1 f]] [] (.tup [.agg [.c (.bool r.1),.il .u32 1 r.2.1],.c (.int .i64 r.2.2)]) ([]):=qA (Q35.env N) bA Tryz.func44 aA.n ((Q35.f_eq ..).trans h) fun v b e=>by unfold Q35.dec at e;split at e<;>cases e;exact⟨rfl,rfl⟩
theorem Q35.ent_ok (N:Nat):pA Tryz.prog 44 (Q35.ent N):=xA fun v a e h=>by split at h;exact gC (Q:=fun e=>dA _ _ _ _ (e a).pick.1 (e a).pick.2) h fun k=>Q35.spec N _ _ _ _ a k;cases h
noncomputable def aK:TI:=⟨.slice 39,1,24,[.slice none 0 0]⟩
noncomputable def nJ:TI:=⟨.slice 2,1,24,[.slice none 0 0]⟩
noncomputable def mG:TI:=⟨.struct [(39,0),(26,2)],3,56,[.bool false,.slice none 0 0,.slice none 0 0]⟩
theorem kD:cC Tryz.prog 33 aK:=eC (by kernel_rfl) (by kernel_rfl) (by kernel_rfl) (by kernel_rfl) (by kernel_rfl) (by kernel_rfl) (by kernel_rfl) (Tryz.underlying33) (by kernel_rfl)
theorem cD:cC Tryz.prog 43 nJ:=eC (by kernel_rfl) (by kernel_rfl) (by kernel_rfl) (by kernel_rfl) (by kernel_rfl) (by kernel_rfl) (by kernel_rfl) (Tryz.underlying43) (by kernel_rfl)
theorem oC:cC Tryz.prog 104 mG:=eC (by kernel_rfl) (by kernel_rfl) (by kernel_rfl) (by kernel_rfl) (by kernel_rfl) (by kernel_rfl) (by kernel_rfl) (eK Tryz.underlying104 (by kernel_rfl) (by kernel_rfl)) (by kernel_rfl)
noncomputable def Q36.f (N:Nat):Option W6:=
 (Q8.f N 1).bind fun a=>
 some a
noncomputable def Q36.E (N:Nat):aC:=mD [(26,kE)] [(23,Q8.ent N)] [] [] N [.cell 0 26] [.recd [.il .u32 1]] 0 2
noncomputable def Q36.dec (v:V)(bs:List oA):Option W6:=match v,bs with
 | .agg [.il .u32 1 a],[]=>some a
 |_,_=>none
theorem Q36.f_eq (N:Nat):
  uA (Q36.E N) (bo Tryz.f85) [] [] Q36.dec=Q36.f N:=by kernel_rfl
noncomputable def Q36.ent (N:Nat):rA:=tF W6 0 [] [] fun
 | []=>some (Q36.f N,fun r=>.one (.agg [.il .u32 1 r]) [])
 |_=>none
theorem Q36.env (N:Nat):sA Tryz.prog (Q36.E N):=⟨(.cons jB .nil),(.cons (Q8.ent_ok N) .nil),fun h=>hA (show false=true from h)⟩
theorem Q36.spec (N:Nat)(r:W6)(h:Q36.f N=some r):dA Tryz.prog 85 [] [] (.agg [.il .u32 1 r]) ([]):=qA (Q36.env N) bA Tryz.func85 aA.n ((Q36.f_eq ..).trans h) fun v b e=>by unfold Q36.dec at e;split at e<;>cases e;exact⟨rfl,rfl⟩
theorem Q36.ent_ok (N:Nat):pA Tryz.prog 85 (Q36.ent N):=xA fun v a e h=>by split at h;exact gC (Q:=fun e=>dA _ _ _ _ (e a).pick.1 (e a).pick.2) h fun k=>Q36.spec N a k;cases h
noncomputable def Q37.f (N:Nat)(b:Bool)(c d:W6):Option (Bool×W6×W6):=
 (Q26.f N b c).bind fun l=>
 (Q23.f N l d).bind fun k=>
 (Q36.f N).bind fun m=>
 (Q12.f N k m).bind fun o=>
 bif decide (o>0)then
  (Q26.f N b c).bind fun p=>
  (Q22.f N p k).bind fun q=>
  (Q24.f N b c).bind fun e=>
  (Q25.f N (decide (e<0)) q.1).bind fun a=>
  (Q22.f N d k).bind fun f=>
  (Q36.f N).bind fun g=>
  (Q15.f N f.1 g).bind fun h=>
  some (a.1,a.2,h.1)
 else
 (Q36.f N).bind fun i=>
 (Q15.f N d i).bind fun j=>
 some (b,c,j.1)
noncomputable def Q37.E (N:Nat):aC:=mD [(26,kE),(39,nD),(104,mG)] [(14,Q26.ent N),(119,Q23.ent N),(85,Q36.ent N),(22,Q12.ent N),(83,Q22.ent N),(41,Q24.ent N),(69,Q25.ent N),(87,Q15.ent N)] [] [] N [.cell 4 104] [.recd [.any,.il .u32 1,.il .u32 1]] 0 48
noncomputable def Q37.dec (v:V)(bs:List oA):Option (Bool×W6×W6):=match v,bs with
 | .agg [.c (.bool a),.il .u32 1 b,.il .u32 1 c],[]=>some (a,b,c)
 |_,_=>none
theorem Q37.f_eq (N:Nat)(a:Bool)(b c:W6):
  uA (Q37.E N) (bo Tryz.f107) [.agg [.c (.bool a),.il .u32 1 b],.agg [.il .u32 1 c]] [] Q37.dec=Q37.f N a b c:=by kernel_rfl
noncomputable def Q37.ent (N:Nat):rA:=tF (Bool×W6×W6) 0 [true,true] [.recd [.any,.il .u32 1],.recd [.il .u32 1]] fun
 | [.agg [.c (.bool a),.il .u32 1 b],.agg [.il .u32 1 c]]=>some (Q37.f N a b c,fun r=>.one (.agg [.c (.bool r.1),.il .u32 1 r.2.1,.il .u32 1 r.2.2]) [])
 |_=>none
theorem Q37.env (N:Nat):sA Tryz.prog (Q37.E N):=⟨(.cons jB (.cons bB (.cons oC .nil))),(.cons (Q26.ent_ok N) (.cons (Q23.ent_ok N) (.cons (Q36.ent_ok N) (.cons (Q12.ent_ok N) (.cons (Q22.ent_ok N) (.cons (Q24.ent_ok N) (.cons (Q25.ent_ok N) (.cons (Q15.ent_ok N) .nil)))))))),fun h=>hA (show false=true from h)⟩
theorem Q37.spec (N:Nat)(a:Bool)(c d:W6)(r:Bool×W6×W6)(h:Q37.f N a c d=some r):dA Tryz.prog 107 [.agg [.c (.bool a),.il .u32 1 c],.agg [.il .u32 1 d]] [] (.agg [.c (.bool r.1),.il .u32 1 r.2.1,.il .u32 1 r.2.2]) ([]):=qA (Q37.env N) bA Tryz.func107 aA.n ((Q37.f_eq ..).trans h) fun v b e=>by unfold Q37.dec at e;split at e<;>cases e;exact⟨rfl,rfl⟩
theorem Q37.ent_ok (N:Nat):pA Tryz.prog 107 (Q37.ent N):=xA fun v a e h=>by split at h;exact gC (Q:=fun e=>dA _ _ _ _ (e a).pick.1 (e a).pick.2) h fun k=>Q37.spec N _ _ _ a k;cases h
noncomputable def Q38.f (N:Nat)(a:Bool)(b:W6):Option (Bool×W6×W6):=
 some (a,b,[])
noncomputable def Q38.E (N:Nat):aC:=mD [(26,kE),(39,nD),(104,mG)] [] [] [] N [.cell 2 104] [.recd [.any,.il .u32 1,.il .u32 1]] 0 5
noncomputable def Q38.dec (v:V)(bs:List oA):Option (Bool×W6×W6):=match v,bs with
 | .agg [.c (.bool a),.il .u32 1 b,.il .u32 1 c],[]=>some (a,b,c)
 |_,_=>none
theorem Q38.f_eq (N:Nat)(a:Bool)(b:W6):
  uA (Q38.E N) (bo Tryz.f74) [.agg [.c (.bool a),.il .u32 1 b]] [] Q38.dec=Q38.f N a b:=by kernel_rfl
noncomputable def Q38.ent (N:Nat):rA:=tF (Bool×W6×W6) 0 [true] [.recd [.any,.il .u32 1]] fun
 | [.agg [.c (.bool a),.il .u32 1 b]]=>some (Q38.f N a b,fun r=>.one (.agg [.c (.bool r.1),.il .u32 1 r.2.1,.il .u32 1 r.2.2]) [])
 |_=>none
theorem Q38.env (N:Nat):sA Tryz.prog (Q38.E N):=⟨(.cons jB (.cons bB (.cons oC .nil))),.nil,fun h=>hA (show false=true from h)⟩
theorem Q38.spec (N:Nat)(a:Bool)(c:W6)(r:Bool×W6×W6)(h:Q38.f N a c=some r):dA Tryz.prog 74 [.agg [.c (.bool a),.il .u32 1 c]] [] (.agg [.c (.bool r.1),.il .u32 1 r.2.1,.il .u32 1 r.2.2]) ([]):=qA (Q38.env N) bA Tryz.func74 aA.n ((Q38.f_eq ..).trans h) fun v b e=>by unfold Q38.dec at e;split at e<;>cases e;exact⟨rfl,rfl⟩
theorem Q38.ent_ok (N:Nat):pA Tryz.prog 74 (Q38.ent N):=xA fun v a e h=>by split at h;exact gC (Q:=fun e=>dA _ _ _ _ (e a).pick.1 (e a).pick.2) h fun k=>Q38.spec N _ _ a k;cases h
noncomputable def Q39.f (N:Nat)(b c:W6):Option (Bool×W6×W6):=
 (Q36.f N).bind fun d=>
 (Q15.f N c d).bind fun e=>
 (Q25.f N false b).bind fun a=>
 some (a.1,a.2,e.1)
noncomputable def Q39.E (N:Nat):aC:=mD [(26,kE),(39,nD),(104,mG)] [(85,Q36.ent N),(87,Q15.ent N),(69,Q25.ent N)] [] [] N [.cell 4 104] [.recd [.any,.il .u32 1,.il .u32 1]] 0 17
noncomputable def Q39.dec (v:V)(bs:List oA):Option (Bool×W6×W6):=match v,bs with
 | .agg [.c (.bool a),.il .u32 1 b,.il .u32 1 c],[]=>some (a,b,c)
 |_,_=>none
theorem Q39.f_eq (N:Nat)(a b:W6):
  uA (Q39.E N) (bo Tryz.f82) [.agg [.il .u32 1 a],.agg [.il .u32 1 b]] [] Q39.dec=Q39.f N a b:=by kernel_rfl
noncomputable def Q39.ent (N:Nat):rA:=tF (Bool×W6×W6) 0 [true,true] [.recd [.il .u32 1],.recd [.il .u32 1]] fun
 | [.agg [.il .u32 1 a],.agg [.il .u32 1 b]]=>some (Q39.f N a b,fun r=>.one (.agg [.c (.bool r.1),.il .u32 1 r.2.1,.il .u32 1 r.2.2]) [])
 |_=>none
theorem Q39.env (N:Nat):sA Tryz.prog (Q39.E N):=⟨(.cons jB (.cons bB (.cons oC .nil))),(.cons (Q36.ent_ok N) (.cons (Q15.ent_ok N) (.cons (Q25.ent_ok N) .nil))),fun h=>hA (show false=true from h)⟩
theorem Q39.spec (N:Nat)(a c:W6)(r:Bool×W6×W6)(h:Q39.f N a c=some r):dA Tryz.prog 82 [.agg [.il .u32 1 a],.agg [.il .u32 1 c]] [] (.agg [.c (.bool r.1),.il .u32 1 r.2.1,.il .u32 1 r.2.2]) ([]):=qA (Q39.env N) bA Tryz.func82 aA.n ((Q39.f_eq ..).trans h) fun v b e=>by unfold Q39.dec at e;split at e<;>cases e;exact⟨rfl,rfl⟩
theorem Q39.ent_ok (N:Nat):pA Tryz.prog 82 (Q39.ent N):=xA fun v a e h=>by split at h;exact gC (Q:=fun e=>dA _ _ _ _ (e a).pick.1 (e a).pick.2) h fun k=>Q39.spec N _ _ a k;cases h
noncomputable def Q40.f (N:Nat)(d:Bool)(e a:W6):Option W6:=
 (Q36.f N).bind fun c=>
 (Q13.f N a c).bind fun b=>
 bif b.2 != 0 then
  some a
 else
 some b.1
noncomputable def Q40.E (N:Nat):aC:=mD [(26,kE),(104,mG)] [(85,Q36.ent N),(84,Q13.ent N)] [] [] N [.cell 2 26] [.recd [.il .u32 1]] 0 17
noncomputable def Q40.dec (v:V)(bs:List oA):Option W6:=match v,bs with
 | .agg [.il .u32 1 a],[]=>some a
 |_,_=>none
theorem Q40.f_eq (N:Nat)(a:Bool)(b c:W6):
  uA (Q40.E N) (bo Tryz.f80) [.agg [.c (.bool a),.il .u32 1 b,.il .u32 1 c]] [] Q40.dec=Q40.f N a b c:=by kernel_rfl
noncomputable def Q40.ent (N:Nat):rA:=tF W6 0 [true] [.recd [.any,.il .u32 1,.il .u32 1]] fun
 | [.agg [.c (.bool a),.il .u32 1 b,.il .u32 1 c]]=>some (Q40.f N a b c,fun r=>.one (.agg [.il .u32 1 r]) [])
 |_=>none
theorem Q40.env (N:Nat):sA Tryz.prog (Q40.E N):=⟨(.cons jB (.cons oC .nil)),(.cons (Q36.ent_ok N) (.cons (Q13.ent_ok N) .nil)),fun h=>hA (show false=true from h)⟩
theorem Q40.spec (N:Nat)(a:Bool)(c d r:W6)(h:Q40.f N a c d=some r):dA Tryz.prog 80 [.agg [.c (.bool a),.il .u32 1 c,.il .u32 1 d]] [] (.agg [.il .u32 1 r]) ([]):=qA (Q40.env N) bA Tryz.func80 aA.n ((Q40.f_eq ..).trans h) fun v b e=>by unfold Q40.dec at e;split at e<;>cases e;exact⟨rfl,rfl⟩
theorem Q40.ent_ok (N:Nat):pA Tryz.prog 80 (Q40.ent N):=xA fun v a e h=>by split at h;exact gC (Q:=fun e=>dA _ _ _ _ (e a).pick.1 (e a).pick.2) h fun k=>Q40.spec N _ _ _ a k;cases h
noncomputable def Q41.f (N:Nat)(a:Bool)(b d:W6):Option (Int):=
 (Q24.f N a b).bind fun c=>
 some c
noncomputable def Q41.E (N:Nat):aC:=mD [(39,nD),(104,mG)] [(41,Q24.ent N)] [] [] N [.tmp 2] [.any] 0 6
noncomputable def Q41.dec (v:V)(bs:List oA):Option (Int):=match v,bs with
 | .c (.int .i64 a),[]=>some a
 |_,_=>none
theorem Q41.f_eq (N:Nat)(a:Bool)(b c:W6):
  uA (Q41.E N) (bo Tryz.f105) [.agg [.c (.bool a),.il .u32 1 b,.il .u32 1 c]] [] Q41.dec=Q41.f N a b c:=by kernel_rfl
noncomputable def Q41.ent (N:Nat):rA:=tF (Int) 0 [true] [.recd [.any,.il .u32 1,.il .u32 1]] fun
 | [.agg [.c (.bool a),.il .u32 1 b,.il .u32 1 c]]=>some (Q41.f N a b c,fun r=>.one (.c (.int .i64 r)) [])
 |_=>none
theorem Q41.env (N:Nat):sA Tryz.prog (Q41.E N):=⟨(.cons bB (.cons oC .nil)),(.cons (Q24.ent_ok N) .nil),fun h=>hA (show false=true from h)⟩
theorem Q41.spec (N:Nat)(a:Bool)(c d:W6)(r:Int)(h:Q41.f N a c d=some r):dA Tryz.prog 105 [.agg [.c (.bool a),.il .u32 1 c,.il .u32 1 d]] [] (.c (.int .i64 r)) ([]):=qA (Q41.env N) bA Tryz.func105 aA.n ((Q41.f_eq ..).trans h) fun v b e=>by unfold Q41.dec at e;split at e<;>cases e;exact⟨rfl,rfl⟩
theorem Q41.ent_ok (N:Nat):pA Tryz.prog 105 (Q41.ent N):=xA fun v a e h=>by split at h;exact gC (Q:=fun e=>dA _ _ _ _ (e a).pick.1 (e a).pick.2) h fun k=>Q41.spec N _ _ _ a k;cases h
noncomputable def Q42.f (N:Nat)(a:Bool)(b e:W6):Option W6:=
 (Q26.f N a b).bind fun f=>
 (Q40.f N a b e).bind fun g=>
 (Q22.f N f g).bind fun c=>
 (Q24.f N a b).bind fun h=>
 bif decide (h<0)then
  (Q6.f N c.2.1).bind fun i=>
  bif decide (i>0)then
   (Q40.f N a b e).bind fun j=>
   (Q15.f N j c.2.1).bind fun d=>
   some d.1
  else
  some c.2.1
 else
 some c.2.1
noncomputable def Q42.E (N:Nat):aC:=mD [(26,kE),(39,nD),(104,mG)] [(14,Q26.ent N),(80,Q40.ent N),(83,Q22.ent N),(41,Q24.ent N),(67,Q6.ent N),(87,Q15.ent N)] [] [] N [.cell 2 26] [.recd [.il .u32 1]] 0 33
noncomputable def Q42.dec (v:V)(bs:List oA):Option W6:=match v,bs with
 | .agg [.il .u32 1 a],[]=>some a
 |_,_=>none
theorem Q42.f_eq (N:Nat)(a:Bool)(b c:W6):
  uA (Q42.E N) (bo Tryz.f81) [.agg [.c (.bool a),.il .u32 1 b,.il .u32 1 c]] [] Q42.dec=Q42.f N a b c:=by kernel_rfl
noncomputable def Q42.ent (N:Nat):rA:=tF W6 0 [true] [.recd [.any,.il .u32 1,.il .u32 1]] fun
 | [.agg [.c (.bool a),.il .u32 1 b,.il .u32 1 c]]=>some (Q42.f N a b c,fun r=>.one (.agg [.il .u32 1 r]) [])
 |_=>none
theorem Q42.env (N:Nat):sA Tryz.prog (Q42.E N):=⟨(.cons jB (.cons bB (.cons oC .nil))),(.cons (Q26.ent_ok N) (.cons (Q40.ent_ok N) (.cons (Q22.ent_ok N) (.cons (Q24.ent_ok N) (.cons (Q6.ent_ok N) (.cons (Q15.ent_ok N) .nil)))))),fun h=>hA (show false=true from h)⟩
theorem Q42.spec (N:Nat)(a:Bool)(c d r:W6)(h:Q42.f N a c d=some r):dA Tryz.prog 81 [.agg [.c (.bool a),.il .u32 1 c,.il .u32 1 d]] [] (.agg [.il .u32 1 r]) ([]):=qA (Q42.env N) bA Tryz.func81 aA.n ((Q42.f_eq ..).trans h) fun v b e=>by unfold Q42.dec at e;split at e<;>cases e;exact⟨rfl,rfl⟩
theorem Q42.ent_ok (N:Nat):pA Tryz.prog 81 (Q42.ent N):=xA fun v a e h=>by split at h;exact gC (Q:=fun e=>dA _ _ _ _ (e a).pick.1 (e a).pick.2) h fun k=>Q42.spec N _ _ _ a k;cases h
noncomputable def Q43.f (N:Nat)(c:Bool)(d i:W6):Option (Bool×W6):=
 (Q26.f N c d).bind fun k=>
 (Q40.f N c d i).bind fun l=>
 (Q22.f N k l).bind fun h=>
 (Q24.f N c d).bind fun m=>
 bif decide (m≥0)then
  (Q25.f N false h.1).bind fun j=>
  some (j.1,j.2)
 else
 (Q42.f N c d i).bind fun o=>
 (Q6.f N o).bind fun e=>
 bif decide (e>0)then
  (Q36.f N).bind fun f=>
  (Q13.f N h.1 f).bind fun g=>
  (Q25.f N true g.1).bind fun a=>
  some (a.1,a.2)
 else
 (Q25.f N true h.1).bind fun b=>
 some (b.1,b.2)
noncomputable def Q43.E (N:Nat):aC:=mD [(26,kE),(39,nD),(104,mG)] [(14,Q26.ent N),(80,Q40.ent N),(83,Q22.ent N),(41,Q24.ent N),(69,Q25.ent N),(81,Q42.ent N),(67,Q6.ent N),(85,Q36.ent N),(84,Q13.ent N)] [] [] N [.cell 2 39] [.recd [.any,.il .u32 1]] 0 37
noncomputable def Q43.dec (v:V)(bs:List oA):Option (Bool×W6):=match v,bs with
 | .agg [.c (.bool a),.il .u32 1 b],[]=>some (a,b)
 |_,_=>none
theorem Q43.f_eq (N:Nat)(a:Bool)(b c:W6):
  uA (Q43.E N) (bo Tryz.f60) [.agg [.c (.bool a),.il .u32 1 b,.il .u32 1 c]] [] Q43.dec=Q43.f N a b c:=by kernel_rfl
noncomputable def Q43.ent (N:Nat):rA:=tF (Bool×W6) 0 [true] [.recd [.any,.il .u32 1,.il .u32 1]] fun
 | [.agg [.c (.bool a),.il .u32 1 b,.il .u32 1 c]]=>some (Q43.f N a b c,fun r=>.one (.agg [.c (.bool r.1),.il .u32 1 r.2]) [])
 |_=>none
theorem Q43.env (N:Nat):sA Tryz.prog (Q43.E N):=⟨(.cons jB (.cons bB (.cons oC .nil))),(.cons (Q26.ent_ok N) (.cons (Q40.ent_ok N) (.cons (Q22.ent_ok N) (.cons (Q24.ent_ok N) (.cons (Q25.ent_ok N) (.cons (Q42.ent_ok N) (.cons (Q6.ent_ok N) (.cons (Q36.ent_ok N) (.cons (Q13.ent_ok N) .nil))))))))),fun h=>hA (show false=true from h)⟩
theorem Q43.spec (N:Nat)(a:Bool)(c d:W6)(r:Bool×W6)(h:Q43.f N a c d=some r):dA Tryz.prog 60 [.agg [.c (.bool a),.il .u32 1 c,.il .u32 1 d]] [] (.agg [.c (.bool r.1),.il .u32 1 r.2]) ([]):=qA (Q43.env N) bA Tryz.func60 aA.n ((Q43.f_eq ..).trans h) fun v b e=>by unfold Q43.dec at e;split at e<;>cases e;exact⟨rfl,rfl⟩
theorem Q43.ent_ok (N:Nat):pA Tryz.prog 60 (Q43.ent N):=xA fun v a e h=>by split at h;exact gC (Q:=fun e=>dA _ _ _ _ (e a).pick.1 (e a).pick.2) h fun k=>Q43.spec N _ _ _ a k;cases h
noncomputable def Q44.f (N:Nat)(c:Bool)(d e:W6):Option (Bool×W6):=
 (Q42.f N c d e).bind fun f=>
 (Q43.f N c d e).bind fun b=>
 (Q40.f N c d e).bind fun h=>
 (Q15.f N h f).bind fun i=>
 (Q12.f N f i.1).bind fun j=>
 bif decide (j<0)then
  some (b.1,b.2)
 else
 (Q28.f N 1).bind fun g=>
 (Q31.f N b.1 b.2 g.1 g.2).bind fun a=>
 some (a.1,a.2.1)
noncomputable def Q44.E (N:Nat):aC:=mD [(26,kE),(39,nD),(104,mG)] [(81,Q42.ent N),(60,Q43.ent N),(80,Q40.ent N),(87,Q15.ent N),(22,Q12.ent N),(10,Q28.ent N),(70,Q31.ent N)] [] [] N [.cell 2 39] [.recd [.any,.il .u32 1]] 0 32
noncomputable def Q44.dec (v:V)(bs:List oA):Option (Bool×W6):=match v,bs with
 | .agg [.c (.bool a),.il .u32 1 b],[]=>some (a,b)
 |_,_=>none
theorem Q44.f_eq (N:Nat)(a:Bool)(b c:W6):
  uA (Q44.E N) (bo Tryz.f63) [.agg [.c (.bool a),.il .u32 1 b,.il .u32 1 c]] [] Q44.dec=Q44.f N a b c:=by kernel_rfl
noncomputable def Q44.ent (N:Nat):rA:=tF (Bool×W6) 0 [true] [.recd [.any,.il .u32 1,.il .u32 1]] fun
 | [.agg [.c (.bool a),.il .u32 1 b,.il .u32 1 c]]=>some (Q44.f N a b c,fun r=>.one (.agg [.c (.bool r.1),.il .u32 1 r.2]) [])
 |_=>none
theorem Q44.env (N:Nat):sA Tryz.prog (Q44.E N):=⟨(.cons jB (.cons bB (.cons oC .nil))),(.cons (Q42.ent_ok N) (.cons (Q43.ent_ok N) (.cons (Q40.ent_ok N) (.cons (Q15.ent_ok N) (.cons (Q12.ent_ok N) (.cons (Q28.ent_ok N) (.cons (Q31.ent_ok N) .nil))))))),fun h=>hA (show false=true from h)⟩
theorem Q44.spec (N:Nat)(a:Bool)(c d:W6)(r:Bool×W6)(h:Q44.f N a c d=some r):dA Tryz.prog 63 [.agg [.c (.bool a),.il .u32 1 c,.il .u32 1 d]] [] (.agg [.c (.bool r.1),.il .u32 1 r.2]) ([]):=qA (Q44.env N) bA Tryz.func63 aA.n ((Q44.f_eq ..).trans h) fun v b e=>by unfold Q44.dec at e;split at e<;>cases e;exact⟨rfl,rfl⟩
theorem Q44.ent_ok (N:Nat):pA Tryz.prog 63 (Q44.ent N):=xA fun v a e h=>by split at h;exact gC (Q:=fun e=>dA _ _ _ _ (e a).pick.1 (e a).pick.2) h fun k=>Q44.spec N _ _ _ a k;cases h
noncomputable def Q45.f (N:Nat)(b:Bool)(c d:W6):Option (Bool×W6×W6):=
 (Q27.f N b c).bind fun a=>
 some (a.1,a.2,d)
noncomputable def Q45.E (N:Nat):aC:=mD [(26,kE),(39,nD),(104,mG)] [(48,Q27.ent N)] [] [] N [.cell 2 104] [.recd [.any,.il .u32 1,.il .u32 1]] 0 9
noncomputable def Q45.dec (v:V)(bs:List oA):Option (Bool×W6×W6):=match v,bs with
 | .agg [.c (.bool a),.il .u32 1 b,.il .u32 1 c],[]=>some (a,b,c)
 |_,_=>none
theorem Q45.f_eq (N:Nat)(a:Bool)(b c:W6):
  uA (Q45.E N) (bo Tryz.f62) [.agg [.c (.bool a),.il .u32 1 b,.il .u32 1 c]] [] Q45.dec=Q45.f N a b c:=by kernel_rfl
noncomputable def Q45.ent (N:Nat):rA:=tF (Bool×W6×W6) 0 [true] [.recd [.any,.il .u32 1,.il .u32 1]] fun
 | [.agg [.c (.bool a),.il .u32 1 b,.il .u32 1 c]]=>some (Q45.f N a b c,fun r=>.one (.agg [.c (.bool r.1),.il .u32 1 r.2.1,.il .u32 1 r.2.2]) [])
 |_=>none
theorem Q45.env (N:Nat):sA Tryz.prog (Q45.E N):=⟨(.cons jB (.cons bB (.cons oC .nil))),(.cons (Q27.ent_ok N) .nil),fun h=>hA (show false=true from h)⟩
theorem Q45.spec (N:Nat)(a:Bool)(c d:W6)(r:Bool×W6×W6)(h:Q45.f N a c d=some r):dA Tryz.prog 62 [.agg [.c (.bool a),.il .u32 1 c,.il .u32 1 d]] [] (.agg [.c (.bool r.1),.il .u32 1 r.2.1,.il .u32 1 r.2.2]) ([]):=qA (Q45.env N) bA Tryz.func62 aA.n ((Q45.f_eq ..).trans h) fun v b e=>by unfold Q45.dec at e;split at e<;>cases e;exact⟨rfl,rfl⟩
theorem Q45.ent_ok (N:Nat):pA Tryz.prog 62 (Q45.ent N):=xA fun v a e h=>by split at h;exact gC (Q:=fun e=>dA _ _ _ _ (e a).pick.1 (e a).pick.2) h fun k=>Q45.spec N _ _ _ a k;cases h
noncomputable def Q46.f (N:Nat)(c:Bool)(d e:W6):Option (Bool×W6×Int):=
 (Q25.f N false e).bind fun b=>
 (Q33.f N c d b.1 b.2).bind fun a=>
 some (a.1,a.2.1,a.2.2)
noncomputable def Q46.E (N:Nat):aC:=mD [(26,kE),(39,nD)] [(69,Q25.ent N),(42,Q33.ent N)] [] [] N [.cell 4 39,.tmp 5] [.recd [.any,.il .u32 1],.any] 0 12
noncomputable def Q46.dec (v:V)(bs:List oA):Option (Bool×W6×Int):=match v,bs with
 | .tup [.agg [.c (.bool a),.il .u32 1 b],.c (.int .i64 c)],[]=>some (a,b,c)
 |_,_=>none
theorem Q46.f_eq (N:Nat)(a:Bool)(b c:W6):
  uA (Q46.E N) (bo Tryz.f106) [.agg [.c (.bool a),.il .u32 1 b],.agg [.il .u32 1 c]] [] Q46.dec=Q46.f N a b c:=by kernel_rfl
noncomputable def Q46.ent (N:Nat):rA:=tF (Bool×W6×Int) 0 [true,true] [.recd [.any,.il .u32 1],.recd [.il .u32 1]] fun
 | [.agg [.c (.bool a),.il .u32 1 b],.agg [.il .u32 1 c]]=>some (Q46.f N a b c,fun r=>.one (.tup [.agg [.c (.bool r.1),.il .u32 1 r.2.1],.c (.int .i64 r.2.2)]) [])
 |_=>none
theorem Q46.env (N:Nat):sA Tryz.prog (Q46.E N):=⟨(.cons jB (.cons bB .nil)),(.cons (Q25.ent_ok N) (.cons (Q33.ent_ok N) .nil)),fun h=>hA (show false=true from h)⟩
theorem Q46.spec (N:Nat)(a:Bool)(c d:W6)(r:Bool×W6×Int)(h:Q46.f N a c d=some r):dA Tryz.prog 106 [.agg [.c (.bool a),.il .u32 1 c],.agg [.il .u32 1 d]] [] (.tup [.agg [.c (.bool r.1),.il .u32 1 r.2.1],.c (.int .i64 r.2.2)]) ([]):=qA (Q46.env N) bA Tryz.func106 aA.n ((Q46.f_eq ..).trans h) fun v b e=>by unfold Q46.dec at e;split at e<;>cases e;exact⟨rfl,rfl⟩
theorem Q46.ent_ok (N:Nat):pA Tryz.prog 106 (Q46.ent N):=xA fun v a e h=>by split at h;exact gC (Q:=fun e=>dA _ _ _ _ (e a).pick.1 (e a).pick.2) h fun k=>Q46.spec N _ _ _ a k;cases h
noncomputable def Q47.f (N:Nat)(e:Bool)(f l:W6)(g:Bool)(h m:W6):Option (Bool×W6×W6×Int):=
 (Q40.f N g h m).bind fun o=>
 (Q46.f N e f o).bind fun k=>
 (Q40.f N e f l).bind fun p=>
 (Q46.f N g h p).bind fun a=>
 (Q40.f N e f l).bind fun i=>
 (Q40.f N g h m).bind fun j=>
 (Q17.f N i j).bind fun d=>
 bif k.2.2 != 0 then
  some (false,[],[],3)
 else
 bif a.2.2 != 0 then
  some (false,[],[],3)
 else
 bif d.2 != 0 then
  some (false,[],[],3)
 else
 (Q31.f N k.1 k.2.1 a.1 a.2.1).bind fun b=>
 bif b.2.2 != 0 then
  some (false,[],[],3)
 else
 (Q37.f N b.1 b.2.1 d.1).bind fun c=>
 some (c.1,c.2.1,c.2.2,0)
noncomputable def Q47.E (N:Nat):aC:=mD [(26,kE),(39,nD),(104,mG)] [(80,Q40.ent N),(106,Q46.ent N),(68,Q17.ent N),(70,Q31.ent N),(107,Q37.ent N)] [] [] N [.cell 6 104,.tmp 7] [.recd [.any,.il .u32 1,.il .u32 1],.any] 0 66
noncomputable def Q47.dec (v:V)(bs:List oA):Option (Bool×W6×W6×Int):=match v,bs with
 | .tup [.agg [.c (.bool a),.il .u32 1 b,.il .u32 1 c],.c (.int .i64 d)],[]=>some (a,b,c,d)
 |_,_=>none
theorem Q47.f_eq (N:Nat)(a:Bool)(b c:W6)(d:Bool)(e f:W6):
  uA (Q47.E N) (bo Tryz.f78) [.agg [.c (.bool a),.il .u32 1 b,.il .u32 1 c],.agg [.c (.bool d),.il .u32 1 e,.il .u32 1 f],.fn 70 [] []] [] Q47.dec=Q47.f N a b c d e f:=by kernel_rfl
noncomputable def Q47.ent (N:Nat):rA:={A:=Bool×W6×W6×Int,fresh:=0,imm:=[true,true,false],dec:=fun args bs=>match sC (jA bs) [false,false,false] args,bs with
 | [.agg [.c (.bool a),.il .u32 1 b,.il .u32 1 c],.agg [.c (.bool d),.il .u32 1 e,.il .u32 1 f],.fn 70 [] []],[]=>some (Q47.f N a b c d e f,fun r=>.one (.tup [.agg [.c (.bool r.1),.il .u32 1 r.2.1,.il .u32 1 r.2.2.1],.c (.int .i64 r.2.2.2)]) [])
 |_,_=>none}
theorem Q47.env (N:Nat):sA Tryz.prog (Q47.E N):=⟨(.cons jB (.cons bB (.cons oC .nil))),(.cons (Q40.ent_ok N) (.cons (Q46.ent_ok N) (.cons (Q17.ent_ok N) (.cons (Q31.ent_ok N) (.cons (Q37.ent_ok N) .nil))))),fun h=>hA (show false=true from h)⟩
theorem Q47.spec (N:Nat)(a:Bool)(c d:W6)(f:Bool)(g i:W6)(r:Bool×W6×W6×Int)(h:Q47.f N a c d f g i=some r):dA Tryz.prog 78 [.agg [.c (.bool a),.il .u32 1 c,.il .u32 1 d],.agg [.c (.bool f),.il .u32 1 g,.il .u32 1 i],.fn 70 [] []] [] (.tup [.agg [.c (.bool r.1),.il .u32 1 r.2.1,.il .u32 1 r.2.2.1],.c (.int .i64 r.2.2.2)]) ([]):=qA (Q47.env N) bA Tryz.func78 aA.n ((Q47.f_eq ..).trans h) fun v b e=>by unfold Q47.dec at e;split at e<;>cases e;exact⟨rfl,rfl⟩
theorem Q47.ent_ok (N:Nat):pA Tryz.prog 78 (Q47.ent N):=by
 intro args bs a enc h;simp only[Q47.ent]at h;split at h
 ·rename_i hz;have h0:=hC h;have h1:=congrArg Prod.fst h0;have h2:=congrArg Prod.snd h0;dsimp only at h1 h2;subst h2;exact dA.of_asSl (fl:=[false,false,false]) (by rw[hz];exact Q47.spec N _ _ _ _ _ _ a h1)
 ·cases h
noncomputable def Q48.f (N:Nat)(e:Bool)(f l:W6)(g:Bool)(h m:W6):Option (Bool×W6×W6×Int):=
 (Q40.f N g h m).bind fun o=>
 (Q46.f N e f o).bind fun k=>
 (Q40.f N e f l).bind fun p=>
 (Q46.f N g h p).bind fun a=>
 (Q40.f N e f l).bind fun i=>
 (Q40.f N g h m).bind fun j=>
 (Q17.f N i j).bind fun d=>
 bif k.2.2 != 0 then
  some (false,[],[],3)
 else
 bif a.2.2 != 0 then
  some (false,[],[],3)
 else
 bif d.2 != 0 then
  some (false,[],[],3)
 else
 (Q32.f N k.1 k.2.1 a.1 a.2.1).bind fun b=>
 bif b.2.2 != 0 then
  some (false,[],[],3)
 else
 (Q37.f N b.1 b.2.1 d.1).bind fun c=>
 some (c.1,c.2.1,c.2.2,0)
noncomputable def Q48.E (N:Nat):aC:=mD [(26,kE),(39,nD),(104,mG)] [(80,Q40.ent N),(106,Q46.ent N),(68,Q17.ent N),(43,Q32.ent N),(107,Q37.ent N)] [] [] N [.cell 6 104,.tmp 7] [.recd [.any,.il .u32 1,.il .u32 1],.any] 0 66
noncomputable def Q48.dec (v:V)(bs:List oA):Option (Bool×W6×W6×Int):=match v,bs with
 | .tup [.agg [.c (.bool a),.il .u32 1 b,.il .u32 1 c],.c (.int .i64 d)],[]=>some (a,b,c,d)
 |_,_=>none
theorem Q48.f_eq (N:Nat)(a:Bool)(b c:W6)(d:Bool)(e f:W6):
  uA (Q48.E N) (bo Tryz.f78) [.agg [.c (.bool a),.il .u32 1 b,.il .u32 1 c],.agg [.c (.bool d),.il .u32 1 e,.il .u32 1 f],.fn 43 [] []] [] Q48.dec=Q48.f N a b c d e f:=by kernel_rfl
noncomputable def Q48.ent (N:Nat):rA:={A:=Bool×W6×W6×Int,fresh:=0,imm:=[true,true,false],dec:=fun args bs=>match sC (jA bs) [false,false,false] args,bs with
 | [.agg [.c (.bool a),.il .u32 1 b,.il .u32 1 c],.agg [.c (.bool d),.il .u32 1 e,.il .u32 1 f],.fn 43 [] []],[]=>some (Q48.f N a b c d e f,fun r=>.one (.tup [.agg [.c (.bool r.1),.il .u32 1 r.2.1,.il .u32 1 r.2.2.1],.c (.int .i64 r.2.2.2)]) [])
 |_,_=>none}
theorem Q48.env (N:Nat):sA Tryz.prog (Q48.E N):=⟨(.cons jB (.cons bB (.cons oC .nil))),(.cons (Q40.ent_ok N) (.cons (Q46.ent_ok N) (.cons (Q17.ent_ok N) (.cons (Q32.ent_ok N) (.cons (Q37.ent_ok N) .nil))))),fun h=>hA (show false=true from h)⟩
theorem Q48.spec (N:Nat)(a:Bool)(c d:W6)(f:Bool)(g i:W6)(r:Bool×W6×W6×Int)(h:Q48.f N a c d f g i=some r):dA Tryz.prog 78 [.agg [.c (.bool a),.il .u32 1 c,.il .u32 1 d],.agg [.c (.bool f),.il .u32 1 g,.il .u32 1 i],.fn 43 [] []] [] (.tup [.agg [.c (.bool r.1),.il .u32 1 r.2.1,.il .u32 1 r.2.2.1],.c (.int .i64 r.2.2.2)]) ([]):=qA (Q48.env N) bA Tryz.func78 aA.n ((Q48.f_eq ..).trans h) fun v b e=>by unfold Q48.dec at e;split at e<;>cases e;exact⟨rfl,rfl⟩
theorem Q48.ent_ok (N:Nat):pA Tryz.prog 78 (Q48.ent N):=by
 intro args bs a enc h;simp only[Q48.ent]at h;split at h
 ·rename_i hz;have h0:=hC h;have h1:=congrArg Prod.fst h0;have h2:=congrArg Prod.snd h0;dsimp only at h1 h2;subst h2;exact dA.of_asSl (fl:=[false,false,false]) (by rw[hz];exact Q48.spec N _ _ _ _ _ _ a h1)
 ·cases h
noncomputable def Q49.f (N:Nat)(c:Bool)(d f:W6)(g:Bool)(h i:W6):Option (Bool×W6×W6×Int):=
 (Q33.f N c d g h).bind fun b=>
 (Q40.f N c d f).bind fun j=>
 (Q17.f N j i).bind fun e=>
 bif b.2.2 != 0 then
  some (false,[],[],3)
 else
 bif e.2 != 0 then
  some (false,[],[],3)
 else
 (Q37.f N b.1 b.2.1 e.1).bind fun a=>
 some (a.1,a.2.1,a.2.2,0)
noncomputable def Q49.E (N:Nat):aC:=mD [(26,kE),(39,nD),(104,mG)] [(42,Q33.ent N),(80,Q40.ent N),(68,Q17.ent N),(107,Q37.ent N)] [] [] N [.cell 6 104,.tmp 7] [.recd [.any,.il .u32 1,.il .u32 1],.any] 0 36
noncomputable def Q49.dec (v:V)(bs:List oA):Option (Bool×W6×W6×Int):=match v,bs with
 | .tup [.agg [.c (.bool a),.il .u32 1 b,.il .u32 1 c],.c (.int .i64 d)],[]=>some (a,b,c,d)
 |_,_=>none
theorem Q49.f_eq (N:Nat)(a:Bool)(b c:W6)(d:Bool)(e f:W6):
  uA (Q49.E N) (bo Tryz.f79) [.agg [.c (.bool a),.il .u32 1 b,.il .u32 1 c],.agg [.c (.bool d),.il .u32 1 e],.agg [.il .u32 1 f]] [] Q49.dec=Q49.f N a b c d e f:=by kernel_rfl
noncomputable def Q49.ent (N:Nat):rA:=tF (Bool×W6×W6×Int) 0 [true,true,true] [.recd [.any,.il .u32 1,.il .u32 1],.recd [.any,.il .u32 1],.recd [.il .u32 1]] fun
 | [.agg [.c (.bool a),.il .u32 1 b,.il .u32 1 c],.agg [.c (.bool d),.il .u32 1 e],.agg [.il .u32 1 f]]=>some (Q49.f N a b c d e f,fun r=>.one (.tup [.agg [.c (.bool r.1),.il .u32 1 r.2.1,.il .u32 1 r.2.2.1],.c (.int .i64 r.2.2.2)]) [])
 |_=>none
theorem Q49.env (N:Nat):sA Tryz.prog (Q49.E N):=⟨(.cons jB (.cons bB (.cons oC .nil))),(.cons (Q33.ent_ok N) (.cons (Q40.ent_ok N) (.cons (Q17.ent_ok N) (.cons (Q37.ent_ok N) .nil)))),fun h=>hA (show false=true from h)⟩
theorem Q49.spec (N:Nat)(a:Bool)(c d:W6)(f:Bool)(g i:W6)(r:Bool×W6×W6×Int)(h:Q49.f N a c d f g i=some r):dA Tryz.prog 79 [.agg [.c (.bool a),.il .u32 1 c,.il .u32 1 d],.agg [.c (.bool f),.il .u32 1 g],.agg [.il .u32 1 i]] [] (.tup [.agg [.c (.bool r.1),.il .u32 1 r.2.1,.il .u32 1 r.2.2.1],.c (.int .i64 r.2.2.2)]) ([]):=qA (Q49.env N) bA Tryz.func79 aA.n ((Q49.f_eq ..).trans h) fun v b e=>by unfold Q49.dec at e;split at e<;>cases e;exact⟨rfl,rfl⟩
theorem Q49.ent_ok (N:Nat):pA Tryz.prog 79 (Q49.ent N):=xA fun v a e h=>by split at h;exact gC (Q:=fun e=>dA _ _ _ _ (e a).pick.1 (e a).pick.2) h fun k=>Q49.spec N _ _ _ _ _ _ a k;cases h
noncomputable def Q50.f (N:Nat)(b:Bool)(c d:W6)(e:Bool)(f g:W6):Option (Bool×W6×W6×Int):=
 (Q47.f N b c d e f g).bind fun a=>
 some (a.1,a.2.1,a.2.2.1,a.2.2.2)
noncomputable def Q50.E (N:Nat):aC:=mD [(104,mG)] [(78,Q47.ent N)] [] [] N [.cell 4 104,.tmp 5] [.recd [.any,.il .u32 1,.il .u32 1],.any] 0 11
noncomputable def Q50.dec (v:V)(bs:List oA):Option (Bool×W6×W6×Int):=match v,bs with
 | .tup [.agg [.c (.bool a),.il .u32 1 b,.il .u32 1 c],.c (.int .i64 d)],[]=>some (a,b,c,d)
 |_,_=>none
theorem Q50.f_eq (N:Nat)(a:Bool)(b c:W6)(d:Bool)(e f:W6):
  uA (Q50.E N) (bo Tryz.f54) [.agg [.c (.bool a),.il .u32 1 b,.il .u32 1 c],.agg [.c (.bool d),.il .u32 1 e,.il .u32 1 f]] [] Q50.dec=Q50.f N a b c d e f:=by kernel_rfl
noncomputable def Q50.ent (N:Nat):rA:=tF (Bool×W6×W6×Int) 0 [true,true] [.recd [.any,.il .u32 1,.il .u32 1],.recd [.any,.il .u32 1,.il .u32 1]] fun
 | [.agg [.c (.bool a),.il .u32 1 b,.il .u32 1 c],.agg [.c (.bool d),.il .u32 1 e,.il .u32 1 f]]=>some (Q50.f N a b c d e f,fun r=>.one (.tup [.agg [.c (.bool r.1),.il .u32 1 r.2.1,.il .u32 1 r.2.2.1],.c (.int .i64 r.2.2.2)]) [])
 |_=>none
theorem Q50.env (N:Nat):sA Tryz.prog (Q50.E N):=⟨(.cons oC .nil),(.cons (Q47.ent_ok N) .nil),fun h=>hA (show false=true from h)⟩
theorem Q50.spec (N:Nat)(a:Bool)(c d:W6)(f:Bool)(g i:W6)(r:Bool×W6×W6×Int)(h:Q50.f N a c d f g i=some r):dA Tryz.prog 54 [.agg [.c (.bool a),.il .u32 1 c,.il .u32 1 d],.agg [.c (.bool f),.il .u32 1 g,.il .u32 1 i]] [] (.tup [.agg [.c (.bool r.1),.il .u32 1 r.2.1,.il .u32 1 r.2.2.1],.c (.int .i64 r.2.2.2)]) ([]):=qA (Q50.env N) bA Tryz.func54 aA.n ((Q50.f_eq ..).trans h) fun v b e=>by unfold Q50.dec at e;split at e<;>cases e;exact⟨rfl,rfl⟩
theorem Q50.ent_ok (N:Nat):pA Tryz.prog 54 (Q50.ent N):=xA fun v a e h=>by split at h;exact gC (Q:=fun e=>dA _ _ _ _ (e a).pick.1 (e a).pick.2) h fun k=>Q50.spec N _ _ _ _ _ _ a k;cases h
noncomputable def Q51.f (N:Nat)(b:Bool)(c d:W6)(e:Bool)(f g:W6):Option (Bool×W6×W6×Int):=
 (Q48.f N b c d e f g).bind fun a=>
 some (a.1,a.2.1,a.2.2.1,a.2.2.2)
noncomputable def Q51.E (N:Nat):aC:=mD [(104,mG)] [(78,Q48.ent N)] [] [] N [.cell 4 104,.tmp 5] [.recd [.any,.il .u32 1,.il .u32 1],.any] 0 11
noncomputable def Q51.dec (v:V)(bs:List oA):Option (Bool×W6×W6×Int):=match v,bs with
 | .tup [.agg [.c (.bool a),.il .u32 1 b,.il .u32 1 c],.c (.int .i64 d)],[]=>some (a,b,c,d)
 |_,_=>none
theorem Q51.f_eq (N:Nat)(a:Bool)(b c:W6)(d:Bool)(e f:W6):
  uA (Q51.E N) (bo Tryz.f58) [.agg [.c (.bool a),.il .u32 1 b,.il .u32 1 c],.agg [.c (.bool d),.il .u32 1 e,.il .u32 1 f]] [] Q51.dec=Q51.f N a b c d e f:=by kernel_rfl
noncomputable def Q51.ent (N:Nat):rA:=tF (Bool×W6×W6×Int) 0 [true,true] [.recd [.any,.il .u32 1,.il .u32 1],.recd [.any,.il .u32 1,.il .u32 1]] fun
 | [.agg [.c (.bool a),.il .u32 1 b,.il .u32 1 c],.agg [.c (.bool d),.il .u32 1 e,.il .u32 1 f]]=>some (Q51.f N a b c d e f,fun r=>.one (.tup [.agg [.c (.bool r.1),.il .u32 1 r.2.1,.il .u32 1 r.2.2.1],.c (.int .i64 r.2.2.2)]) [])
 |_=>none
theorem Q51.env (N:Nat):sA Tryz.prog (Q51.E N):=⟨(.cons oC .nil),(.cons (Q48.ent_ok N) .nil),fun h=>hA (show false=true from h)⟩
theorem Q51.spec (N:Nat)(a:Bool)(c d:W6)(f:Bool)(g i:W6)(r:Bool×W6×W6×Int)(h:Q51.f N a c d f g i=some r):dA Tryz.prog 58 [.agg [.c (.bool a),.il .u32 1 c,.il .u32 1 d],.agg [.c (.bool f),.il .u32 1 g,.il .u32 1 i]] [] (.tup [.agg [.c (.bool r.1),.il .u32 1 r.2.1,.il .u32 1 r.2.2.1],.c (.int .i64 r.2.2.2)]) ([]):=qA (Q51.env N) bA Tryz.func58 aA.n ((Q51.f_eq ..).trans h) fun v b e=>by unfold Q51.dec at e;split at e<;>cases e;exact⟨rfl,rfl⟩
theorem Q51.ent_ok (N:Nat):pA Tryz.prog 58 (Q51.ent N):=xA fun v a e h=>by split at h;exact gC (Q:=fun e=>dA _ _ _ _ (e a).pick.1 (e a).pick.2) h fun k=>Q51.spec N _ _ _ _ _ _ a k;cases h
noncomputable def Q52.f (N:Nat)(d:Bool)(e f:W6)(b:Bool)(c g:W6):Option (Bool×W6×W6×Int):=
 (Q40.f N b c g).bind fun h=>
 (Q49.f N d e f b c h).bind fun a=>
 some (a.1,a.2.1,a.2.2.1,a.2.2.2)
noncomputable def Q52.E (N:Nat):aC:=mD [(39,nD),(104,mG)] [(80,Q40.ent N),(79,Q49.ent N)] [] [] N [.cell 4 104,.tmp 5] [.recd [.any,.il .u32 1,.il .u32 1],.any] 0 14
noncomputable def Q52.dec (v:V)(bs:List oA):Option (Bool×W6×W6×Int):=match v,bs with
 | .tup [.agg [.c (.bool a),.il .u32 1 b,.il .u32 1 c],.c (.int .i64 d)],[]=>some (a,b,c,d)
 |_,_=>none
theorem Q52.f_eq (N:Nat)(a:Bool)(b c:W6)(d:Bool)(e f:W6):
  uA (Q52.E N) (bo Tryz.f56) [.agg [.c (.bool a),.il .u32 1 b,.il .u32 1 c],.agg [.c (.bool d),.il .u32 1 e,.il .u32 1 f]] [] Q52.dec=Q52.f N a b c d e f:=by kernel_rfl
noncomputable def Q52.ent (N:Nat):rA:=tF (Bool×W6×W6×Int) 0 [true,true] [.recd [.any,.il .u32 1,.il .u32 1],.recd [.any,.il .u32 1,.il .u32 1]] fun
 | [.agg [.c (.bool a),.il .u32 1 b,.il .u32 1 c],.agg [.c (.bool d),.il .u32 1 e,.il .u32 1 f]]=>some (Q52.f N a b c d e f,fun r=>.one (.tup [.agg [.c (.bool r.1),.il .u32 1 r.2.1,.il .u32 1 r.2.2.1],.c (.int .i64 r.2.2.2)]) [])
 |_=>none
theorem Q52.env (N:Nat):sA Tryz.prog (Q52.E N):=⟨(.cons bB (.cons oC .nil)),(.cons (Q40.ent_ok N) (.cons (Q49.ent_ok N) .nil)),fun h=>hA (show false=true from h)⟩
theorem Q52.spec (N:Nat)(a:Bool)(c d:W6)(f:Bool)(g i:W6)(r:Bool×W6×W6×Int)(h:Q52.f N a c d f g i=some r):dA Tryz.prog 56 [.agg [.c (.bool a),.il .u32 1 c,.il .u32 1 d],.agg [.c (.bool f),.il .u32 1 g,.il .u32 1 i]] [] (.tup [.agg [.c (.bool r.1),.il .u32 1 r.2.1,.il .u32 1 r.2.2.1],.c (.int .i64 r.2.2.2)]) ([]):=qA (Q52.env N) bA Tryz.func56 aA.n ((Q52.f_eq ..).trans h) fun v b e=>by unfold Q52.dec at e;split at e<;>cases e;exact⟨rfl,rfl⟩
theorem Q52.ent_ok (N:Nat):pA Tryz.prog 56 (Q52.ent N):=xA fun v a e h=>by split at h;exact gC (Q:=fun e=>dA _ _ _ _ (e a).pick.1 (e a).pick.2) h fun k=>Q52.spec N _ _ _ _ _ _ a k;cases h
noncomputable def Q53.f (N:Nat)(g:Bool)(h i:W6)(c:Bool)(d e:W6):Option (Bool×W6×W6×Int):=
 (Q41.f N c d e).bind fun j=>
 bif j==0 then
  some (false,[],[],11)
 else
 (Q41.f N c d e).bind fun k=>
 (Q40.f N c d e).bind fun l=>
 (Q25.f N (decide (k<0)) l).bind fun b=>
 (Q26.f N c d).bind fun f=>
 (Q49.f N g h i b.1 b.2 f).bind fun a=>
 some (a.1,a.2.1,a.2.2.1,a.2.2.2)
noncomputable def Q53.E (N:Nat):aC:=mD [(26,kE),(39,nD),(104,mG)] [(105,Q41.ent N),(80,Q40.ent N),(69,Q25.ent N),(14,Q26.ent N),(79,Q49.ent N)] [] [] N [.cell 4 104,.tmp 5] [.recd [.any,.il .u32 1,.il .u32 1],.any] 0 23
noncomputable def Q53.dec (v:V)(bs:List oA):Option (Bool×W6×W6×Int):=match v,bs with
 | .tup [.agg [.c (.bool a),.il .u32 1 b,.il .u32 1 c],.c (.int .i64 d)],[]=>some (a,b,c,d)
 |_,_=>none
theorem Q53.f_eq (N:Nat)(a:Bool)(b c:W6)(d:Bool)(e f:W6):
  uA (Q53.E N) (bo Tryz.f77) [.agg [.c (.bool a),.il .u32 1 b,.il .u32 1 c],.agg [.c (.bool d),.il .u32 1 e,.il .u32 1 f]] [] Q53.dec=Q53.f N a b c d e f:=by kernel_rfl
noncomputable def Q53.ent (N:Nat):rA:=tF (Bool×W6×W6×Int) 0 [true,true] [.recd [.any,.il .u32 1,.il .u32 1],.recd [.any,.il .u32 1,.il .u32 1]] fun
 | [.agg [.c (.bool a),.il .u32 1 b,.il .u32 1 c],.agg [.c (.bool d),.il .u32 1 e,.il .u32 1 f]]=>some (Q53.f N a b c d e f,fun r=>.one (.tup [.agg [.c (.bool r.1),.il .u32 1 r.2.1,.il .u32 1 r.2.2.1],.c (.int .i64 r.2.2.2)]) [])
 |_=>none
theorem Q53.env (N:Nat):sA Tryz.prog (Q53.E N):=⟨(.cons jB (.cons bB (.cons oC .nil))),(.cons (Q41.ent_ok N) (.cons (Q40.ent_ok N) (.cons (Q25.ent_ok N) (.cons (Q26.ent_ok N) (.cons (Q49.ent_ok N) .nil))))),fun h=>hA (show false=true from h)⟩
theorem Q53.spec (N:Nat)(a:Bool)(c d:W6)(f:Bool)(g i:W6)(r:Bool×W6×W6×Int)(h:Q53.f N a c d f g i=some r):dA Tryz.prog 77 [.agg [.c (.bool a),.il .u32 1 c,.il .u32 1 d],.agg [.c (.bool f),.il .u32 1 g,.il .u32 1 i]] [] (.tup [.agg [.c (.bool r.1),.il .u32 1 r.2.1,.il .u32 1 r.2.2.1],.c (.int .i64 r.2.2.2)]) ([]):=qA (Q53.env N) bA Tryz.func77 aA.n ((Q53.f_eq ..).trans h) fun v b e=>by unfold Q53.dec at e;split at e<;>cases e;exact⟨rfl,rfl⟩
theorem Q53.ent_ok (N:Nat):pA Tryz.prog 77 (Q53.ent N):=xA fun v a e h=>by split at h;exact gC (Q:=fun e=>dA _ _ _ _ (e a).pick.1 (e a).pick.2) h fun k=>Q53.spec N _ _ _ _ _ _ a k;cases h
noncomputable def Q54.l2 {R:Type}(N:Nat):Nat→Int→Bool→W6→W6→Bool→W6→W6→(Int→Option R)→Option R
 |0,_,_,_,_,_,_,_,_=>none
 |n+1,k,p,q,c,d,e,f,kr=>
  (Q43.f N p q c).bind fun l=>
  (Q43.f N d e f).bind fun m=>
  (Q30.f N l.1 l.2 m.1 m.2).bind fun o=>
  bif o != 0 then
   kr (fA (k*o))
  else
  (Q42.f N p q c).bind fun a=>
  (Q42.f N d e f).bind fun b=>
  (Q6.f N a).bind fun r=>
  bif r==0 then
   (Q6.f N b).bind fun s=>
   bif s==0 then
    kr 0
   else
   (Q6.f N a).bind fun t=>
   bif t==0 then
    kr (fA (0-k))
   else
   (Q6.f N b).bind fun u=>
   bif u==0 then
    kr k
   else
   (Q40.f N p q c).bind fun v=>
   (Q39.f N v a).bind fun g=>
   (Q40.f N d e f).bind fun w=>
   (Q39.f N w b).bind fun h=>
   Q54.l2 N n (fA (0-k)) g.1 g.2.1 g.2.2 h.1 h.2.1 h.2.2 kr
  else
  (Q6.f N a).bind fun x=>
  bif x==0 then
   kr (fA (0-k))
  else
  (Q6.f N b).bind fun y=>
  bif y==0 then
   kr k
  else
  (Q40.f N p q c).bind fun z=>
  (Q39.f N z a).bind fun i=>
  (Q40.f N d e f).bind fun r32=>
  (Q39.f N r32 b).bind fun j=>
  Q54.l2 N n (fA (0-k)) i.1 i.2.1 i.2.2 j.1 j.2.1 j.2.2 kr
noncomputable def Q54.f (N:Nat)(b:Bool)(c d:W6)(e:Bool)(f g:W6):Option (Int):=
 Q54.l2 N N 1 b c d e f g
  (fun a=>
   some a)
noncomputable def Q54.h2:uB:=⟨[(5,.box [.any,.il .u32 1,.il .u32 1]),(6,.box [.any,.il .u32 1,.il .u32 1]),(7,.any)],[]⟩
noncomputable def Q54.c2 (N:Nat):mF:=⟨fun vs H k=>match vs,H with
 | [.ptr 0 0 3,.ptr 1 0 3,.c (.int .i64 f)],[.vals [.c (.bool g),.il .u32 1 h,.il .u32 1 a],.vals [.c (.bool b),.il .u32 1 c,.il .u32 1 d]]=>Q54.l2 N N f g h a b c d (fun e=>k (.ret (.c (.int .i64 e)) []) .nil)
 |_,_=>none⟩
noncomputable def Q54.E (N:Nat):aC:=mD [(26,kE),(39,nD),(104,mG)] [(60,Q43.ent N),(9,Q30.ent N),(81,Q42.ent N),(67,Q6.ent N),(80,Q40.ent N),(82,Q39.ent N)] [(2,Q54.h2)] [(2,Q54.c2 N)] N [.tmp 4] [.any] 0 61
noncomputable def Q54.b2:Code:=mA ((cA (bo Tryz.f57)).getD 0 .skip)
theorem Q54.l2_eq {R:Type}(N n:Nat)(f:Int)(g:Bool)(h a:W6)(b:Bool)(c d:W6)(k:Ex→St→Option R):
  vA 0 Q54.h2 (fun s k=>tA (Q54.E N) 396 Q54.b2 s k) n [.ptr 0 0 3,.ptr 1 0 3,.c (.int .i64 f)] [.vals [.c (.bool g),.il .u32 1 h,.il .u32 1 a],.vals [.c (.bool b),.il .u32 1 c,.il .u32 1 d]] k=Q54.l2 N n f g h a b c d (fun e=>k (.ret (.c (.int .i64 e)) []) .nil):=by
 induction n generalizing f g h a b c d with
 |zero=>kernel_rfl
 |succ n ih=>
  simp only[Q54.l2,←ih]
  kernel_rfl
noncomputable def Q54.dec (v:V)(bs:List oA):Option (Int):=match v,bs with
 | .c (.int .i64 a),[]=>some a
 |_,_=>none
theorem Q54.f_eq (N:Nat)(a:Bool)(b c:W6)(d:Bool)(e f:W6):
  uA (Q54.E N) (bo Tryz.f57) [.agg [.c (.bool a),.il .u32 1 b,.il .u32 1 c],.agg [.c (.bool d),.il .u32 1 e,.il .u32 1 f]] [] Q54.dec=Q54.f N a b c d e f:=by kernel_rfl
noncomputable def Q54.ent (N:Nat):rA:=tF (Int) 0 [true,true] [.recd [.any,.il .u32 1,.il .u32 1],.recd [.any,.il .u32 1,.il .u32 1]] fun
 | [.agg [.c (.bool a),.il .u32 1 b,.il .u32 1 c],.agg [.c (.bool d),.il .u32 1 e,.il .u32 1 f]]=>some (Q54.f N a b c d e f,fun r=>.one (.c (.int .i64 r)) [])
 |_=>none
theorem Q54.env (N:Nat):sA Tryz.prog (Q54.E N):=⟨(.cons jB (.cons bB (.cons oC .nil))),(.cons (Q43.ent_ok N) (.cons (Q30.ent_ok N) (.cons (Q42.ent_ok N) (.cons (Q6.ent_ok N) (.cons (Q40.ent_ok N) (.cons (Q39.ent_ok N) .nil)))))),fun h=>hA (show false=true from h)⟩
theorem Q54.k2 (N:Nat):eB Tryz.prog Tryz.f57 (Q54.E N) (.loop Q54.b2):=xB (Q54.env N) bA 396 (c:=Q54.c2 N) aA.n fun R vs H k r h=>by unfold Q54.c2 at h;dsimp only at h;split at h;exact⟨_,Q54.l2_eq .. ▸h⟩;cases h
theorem Q54.spec (N:Nat)(a:Bool)(c d:W6)(f:Bool)(g i:W6)(r:Int)(h:Q54.f N a c d f g i=some r):dA Tryz.prog 57 [.agg [.c (.bool a),.il .u32 1 c,.il .u32 1 d],.agg [.c (.bool f),.il .u32 1 g,.il .u32 1 i]] [] (.c (.int .i64 r)) ([]):=qA (Q54.env N) bA Tryz.func57 (aA.of (l:=[(.loop (mA ((cA (bo Tryz.f57)).getD 0 .skip)))]) (by kernel_rfl) (aA.cons (Q54.k2 N) aA.nil)) ((Q54.f_eq ..).trans h) fun v b e=>by unfold Q54.dec at e;split at e<;>cases e;exact⟨rfl,rfl⟩
theorem Q54.ent_ok (N:Nat):pA Tryz.prog 57 (Q54.ent N):=xA fun v a e h=>by split at h;exact gC (Q:=fun e=>dA _ _ _ _ (e a).pick.1 (e a).pick.2) h fun k=>Q54.spec N _ _ _ _ _ _ a k;cases h
noncomputable def Q55.f (N:Nat)(c:Int):Option (Bool×W6×W6):=
 (Q28.f N c).bind fun b=>
 (Q38.f N b.1 b.2).bind fun a=>
 some (a.1,a.2.1,a.2.2)
noncomputable def Q55.E (N:Nat):aC:=mD [(104,mG)] [(10,Q28.ent N),(74,Q38.ent N)] [] [] N [.cell 2 104] [.recd [.any,.il .u32 1,.il .u32 1]] 0 6
noncomputable def Q55.dec (v:V)(bs:List oA):Option (Bool×W6×W6):=match v,bs with
 | .agg [.c (.bool a),.il .u32 1 b,.il .u32 1 c],[]=>some (a,b,c)
 |_,_=>none
theorem Q55.f_eq (N:Nat)(a:Int):
  uA (Q55.E N) (bo Tryz.f55) [.c (.int .i64 a)] [] Q55.dec=Q55.f N a:=by kernel_rfl
noncomputable def Q55.ent (N:Nat):rA:=tF (Bool×W6×W6) 0 [true] [.any] fun
 | [.c (.int .i64 a)]=>some (Q55.f N a,fun r=>.one (.agg [.c (.bool r.1),.il .u32 1 r.2.1,.il .u32 1 r.2.2]) [])
 |_=>none
theorem Q55.env (N:Nat):sA Tryz.prog (Q55.E N):=⟨(.cons oC .nil),(.cons (Q28.ent_ok N) (.cons (Q38.ent_ok N) .nil)),fun h=>hA (show false=true from h)⟩
theorem Q55.spec (N:Nat)(a:Int)(r:Bool×W6×W6)(h:Q55.f N a=some r):dA Tryz.prog 55 [.c (.int .i64 a)] [] (.agg [.c (.bool r.1),.il .u32 1 r.2.1,.il .u32 1 r.2.2]) ([]):=qA (Q55.env N) bA Tryz.func55 aA.n ((Q55.f_eq ..).trans h) fun v b e=>by unfold Q55.dec at e;split at e<;>cases e;exact⟨rfl,rfl⟩
theorem Q55.ent_ok (N:Nat):pA Tryz.prog 55 (Q55.ent N):=xA fun v a e h=>by split at h;exact gC (Q:=fun e=>dA _ _ _ _ (e a).pick.1 (e a).pick.2) h fun k=>Q55.spec N _ a k;cases h
noncomputable def Q56.l2 {R:Type}(N:Nat):Nat→W6→Int→Int→(Unit→Option R)→(Bool→Option R)→Option R
 |0,_,_,_,_,_=>none
 |n+1,b,d,a,c,kr=>
  bif decide (a<d)then
   bif (decide (0≤a))&&(decide (a<(b.length:Int)))then
    bif (b.getD a.toNat 0) != 0 then
     kr (decide ((b.getD a.toNat 0)>0))
    else
    Q56.l2 N n b d (fA (a+1)) c kr
   else none
  else
  c ()
noncomputable def Q56.f (N:Nat)(a:W6):Option (Bool):=
 Q56.l2 N N a (a.length:Int) 0
  (fun(_:Unit)=>
   some false)
  (fun b=>
   some b)
noncomputable def Q56.h2:uB:=⟨[(5,.il .i64 1),(6,.any),(7,.any)],[]⟩
noncomputable def Q56.c2 (N:Nat):mF:=⟨fun vs H k=>match vs,H with
 | [.il .i64 1 a,.c (.int .i64 b),.c (.int .i64 c)],[]=>Q56.l2 N N a b c (fun(_:Unit)=>k (.exit 0) ⟨tB Q56.h2.out [],[]⟩) (fun d=>k (.ret (.c (.bool d)) []) .nil)
 |_,_=>none⟩
noncomputable def Q56.E (N:Nat):aC:=mD [(2,iW),(43,nJ)] [] [(2,Q56.h2)] [(2,Q56.c2 N)] N [.tmp 2] [.any] 0 16
noncomputable def Q56.b2:Code:=mA ((cA (bo Tryz.f35)).getD 0 .skip)
theorem Q56.l2_eq {R:Type}(N n:Nat)(a:W6)(b c:Int)(k:Ex→St→Option R):
  vA 0 Q56.h2 (fun s k=>tA (Q56.E N) 395 Q56.b2 s k) n [.il .i64 1 a,.c (.int .i64 b),.c (.int .i64 c)] [] k=Q56.l2 N n a b c (fun(_:Unit)=>k (.exit 0) ⟨tB Q56.h2.out [],[]⟩) (fun d=>k (.ret (.c (.bool d)) []) .nil):=by
 induction n generalizing a b c with
 |zero=>kernel_rfl
 |succ n ih=>
  simp only[Q56.l2,←ih]
  kernel_rfl
noncomputable def Q56.dec (v:V)(bs:List oA):Option (Bool):=match v,bs with
 | .c (.bool a),[]=>some a
 |_,_=>none
theorem Q56.f_eq (N:Nat)(a:W6):
  uA (Q56.E N) (bo Tryz.f35) [.il .i64 1 a] [] Q56.dec=Q56.f N a:=by kernel_rfl
noncomputable def Q56.ent (N:Nat):rA:=tF (Bool) 0 [true] [.il .i64 1] fun
 | [.il .i64 1 a]=>some (Q56.f N a,fun r=>.one (.c (.bool r)) [])
 |_=>none
theorem Q56.env (N:Nat):sA Tryz.prog (Q56.E N):=⟨(.cons sE (.cons cD .nil)),.nil,fun h=>hA (show false=true from h)⟩
theorem Q56.k2 (N:Nat):eB Tryz.prog Tryz.f35 (Q56.E N) (.loop Q56.b2):=xB (Q56.env N) bA 395 (c:=Q56.c2 N) aA.n fun R vs H k r h=>by unfold Q56.c2 at h;dsimp only at h;split at h;exact⟨_,Q56.l2_eq .. ▸h⟩;cases h
theorem Q56.spec (N:Nat)(a:W6)(r:Bool)(h:Q56.f N a=some r):dA Tryz.prog 35 [.il .i64 1 a] [] (.c (.bool r)) ([]):=qA (Q56.env N) bA Tryz.func35 (aA.of (l:=[(.loop (mA ((cA (bo Tryz.f35)).getD 0 .skip)))]) (by kernel_rfl) (aA.cons (Q56.k2 N) aA.nil)) ((Q56.f_eq ..).trans h) fun v b e=>by unfold Q56.dec at e;split at e<;>cases e;exact⟨rfl,rfl⟩
theorem Q56.ent_ok (N:Nat):pA Tryz.prog 35 (Q56.ent N):=xA fun v a e h=>by split at h;exact gC (Q:=fun e=>dA _ _ _ _ (e a).pick.1 (e a).pick.2) h fun k=>Q56.spec N _ a k;cases h
noncomputable def Q57.f (N:Nat)(a:Int):Option (Bool):=
 bif decide (a≥0)then
  some (decide (a≤4096))
 else
 some false
noncomputable def Q57.E (N:Nat):aC:=mD [] [] [] [] N [.tmp 2] [.any] 0 9
noncomputable def Q57.dec (v:V)(bs:List oA):Option (Bool):=match v,bs with
 | .c (.bool a),[]=>some a
 |_,_=>none
theorem Q57.f_eq (N:Nat)(a:Int):
  uA (Q57.E N) (bo Tryz.f19) [.c (.int .i64 a)] [] Q57.dec=Q57.f N a:=by kernel_rfl
noncomputable def Q57.ent (N:Nat):rA:=tF (Bool) 0 [true] [.any] fun
 | [.c (.int .i64 a)]=>some (Q57.f N a,fun r=>.one (.c (.bool r)) [])
 |_=>none
theorem Q57.env (N:Nat):sA Tryz.prog (Q57.E N):=⟨.nil,.nil,fun h=>hA (show false=true from h)⟩
theorem Q57.spec (N:Nat)(a:Int)(r:Bool)(h:Q57.f N a=some r):dA Tryz.prog 19 [.c (.int .i64 a)] [] (.c (.bool r)) ([]):=qA (Q57.env N) bA Tryz.func19 aA.n ((Q57.f_eq ..).trans h) fun v b e=>by unfold Q57.dec at e;split at e<;>cases e;exact⟨rfl,rfl⟩
theorem Q57.ent_ok (N:Nat):pA Tryz.prog 19 (Q57.ent N):=xA fun v a e h=>by split at h;exact gC (Q:=fun e=>dA _ _ _ _ (e a).pick.1 (e a).pick.2) h fun k=>Q57.spec N _ a k;cases h
noncomputable def Q58.l3 {R:Type}(N:Nat):Nat→W6→Int→Int→W3→(W3→Option R)→Option R
 |0,_,_,_,_,_=>none
 |n+1,b,f,a,c,d=>
  bif decide (a<f)then
   bif (decide (0≤a))&&(decide (a<(b.length:Int)))then
    (Q28.f N (b.getD a.toNat 0)).bind fun e=>
    bif (decide (0≤a))&&(decide (a<(c.length:Int)))then
     Q58.l3 N n b f (fA (a+1)) (c.set a.toNat (e.1,e.2)) d
    else none
   else none
  else
  d c
noncomputable def Q58.f (N:Nat)(a:W6):Option W3:=
 bif dG (a.length:Int) (a.length:Int)&&decide (0≤(a.length:Int))&&decide ((a.length:Int)≤9223372036854775807)&&lB ((a.length:Int).toNat) 32 then
  Q58.l3 N N a (a.length:Int) 0 (hB ((a.length:Int).toNat) (false,([]:W6)))
   (fun b=>
    some b)
 else none
noncomputable def Q58.h3:uB:=⟨[(0,.il .i64 1),(3,.any),(9,.any),(10,.any)],[(3,.any)]⟩
noncomputable def Q58.c3 (N:Nat):mF:=⟨fun vs H k=>match vs,H with
 | [.il .i64 1 a,.sw 0 2,.c (.int .i64 b),.c (.int .i64 c)],[.tw .zi d]=>Q58.l3 N N a b c d (fun e=>k (.exit 0) ⟨tB Q58.h3.out [.sw 0 2],[.tw .zi e]⟩)
 |_,_=>none⟩
noncomputable def Q58.E (N:Nat):aC:=mD [(2,iW),(33,aK),(39,nD),(43,nJ)] [(10,Q28.ent N)] [(3,Q58.h3)] [(3,Q58.c3 N)] N [.tmp 2] [.any] 0 23 true
noncomputable def Q58.b3:Code:=mA ((cA (bo Tryz.f21)).getD 0 .skip)
theorem Q58.l3_eq {R:Type}(N n:Nat)(a:W6)(b c:Int)(d:W3)(k:Ex→St→Option R):
  vA 0 Q58.h3 (fun s k=>tA (Q58.E N) 394 Q58.b3 s k) n [.il .i64 1 a,.sw 0 2,.c (.int .i64 b),.c (.int .i64 c)] [.tw .zi d] k=Q58.l3 N n a b c d (fun e=>k (.exit 0) ⟨tB Q58.h3.out [.sw 0 2],[.tw .zi e]⟩):=by
 induction n generalizing a b c d with
 |zero=>kernel_rfl
 |succ n ih=>
  simp only[Q58.l3,←ih]
  kernel_rfl
noncomputable def Q58.dec (v:V)(bs:List oA):Option W3:=match v,bs with
 | .sw 0 2,[.tw .zi a]=>some a
 |_,_=>none
theorem Q58.f_eq (N:Nat)(a:W6):
  uA (Q58.E N) (bo Tryz.f21) [.il .i64 1 a] [] Q58.dec=Q58.f N a:=by kernel_rfl
noncomputable def Q58.ent (N:Nat):rA:=tF W3 1 [true] [.il .i64 1] fun
 | [.il .i64 1 a]=>some (Q58.f N a,fun r=>.one (.sw 0 2) [.tw .zi r])
 |_=>none
theorem Q58.env (N:Nat):sA Tryz.prog (Q58.E N):=⟨(.cons sE (.cons kD (.cons bB (.cons cD .nil)))),(.cons (Q28.ent_ok N) .nil),fun h=>hA (show false=true from h)⟩
theorem Q58.k3 (N:Nat):eB Tryz.prog Tryz.f21 (Q58.E N) (.loop Q58.b3):=xB (Q58.env N) bA 394 (c:=Q58.c3 N) aA.n fun R vs H k r h=>by unfold Q58.c3 at h;dsimp only at h;split at h;exact⟨_,Q58.l3_eq .. ▸h⟩;cases h
theorem Q58.spec (N:Nat)(a:W6)(r:W3)(h:Q58.f N a=some r):dA Tryz.prog 21 [.il .i64 1 a] [] (.sw 0 2) ([.tw .zi r]):=qA (Q58.env N) bA Tryz.func21 (aA.of (l:=[(.loop (mA ((cA (bo Tryz.f21)).getD 0 .skip)))]) (by kernel_rfl) (aA.cons (Q58.k3 N) aA.nil)) ((Q58.f_eq ..).trans h) fun v b e=>by unfold Q58.dec at e;split at e<;>cases e;exact⟨rfl,rfl⟩
theorem Q58.ent_ok (N:Nat):pA Tryz.prog 21 (Q58.ent N):=xA fun v a e h=>by split at h;exact gC (Q:=fun e=>dA _ _ _ _ (e a).pick.1 (e a).pick.2) h fun k=>Q58.spec N _ a k;cases h
end Go.Proofs.YtijigofaaefldaaGreat
