import Derived.Test.YtjpdjdhdchjcgaaGreatA2
import Derived.Test.YtjpdjdhdchjcgaaGreatProg
import Derived.KernelRfl
open Nat renaming le_of_ble_eq_true→hA
set_option linter.unusedVariables false
set_option linter.unusedSimpArgs false
namespace Go.Proofs.YtjpdjdhdchjcgaaGreat
open Go.Proofs.YtjpdjdhdchjcgaaGreat.Ev
open Go
set_option maxRecDepth 100000
noncomputable def ge:TI:=⟨.slice 57,1,24,[.slice none 0 0]⟩
noncomputable def gf:TI:=⟨.struct [(33,0),(2,3)],4,32,[.int .i64 0,.int .i64 0,.int .i64 0,.int .i64 0]⟩
noncomputable def Ck:TI:=⟨.slice 64,1,24,[.slice none 0 0]⟩
noncomputable def E0:TI:=⟨.struct [(2,0),(3,1)],2,16,[.int .i64 0,.int .i64 0]⟩
theorem gL:uC Tryz.prog 53 ge:=fD (by kernel_rfl) (by kernel_rfl) (by kernel_rfl) (by kernel_rfl) (by kernel_rfl) (by kernel_rfl) (by kernel_rfl) (Tryz.underlying53) (by kernel_rfl)
theorem iL:uC Tryz.prog 57 gf:=fD (by kernel_rfl) (by kernel_rfl) (by kernel_rfl) (by kernel_rfl) (by kernel_rfl) (by kernel_rfl) (by kernel_rfl) (mI Tryz.underlying57 (by kernel_rfl) (by kernel_rfl)) (by kernel_rfl)
theorem oW:uC Tryz.prog 60 Ck:=fD (by kernel_rfl) (by kernel_rfl) (by kernel_rfl) (by kernel_rfl) (by kernel_rfl) (by kernel_rfl) (by kernel_rfl) (Tryz.underlying60) (by kernel_rfl)
theorem gg:uC Tryz.prog 64 E0:=fD (by kernel_rfl) (by kernel_rfl) (by kernel_rfl) (by kernel_rfl) (by kernel_rfl) (by kernel_rfl) (by kernel_rfl) (mI Tryz.underlying64 (by kernel_rfl) (by kernel_rfl)) (by kernel_rfl)
noncomputable def Q113.l3 {R:Type}(N:Nat):Nat→List Int→List (List Int)→List Int→Nat→List Nat→Nat→(List Int→Option R)→Option R
 |0,_,_,_,_,_,_,_=>none
 |n+1,x3,x4,x5,x6,x7,x8,k0=>
  bif Nat.beq x4.length x6 then
   bif x7.isEmpty then
    k0 x3
   else
   kX x7.length fun x10=>
   bif Nat.beq x4.length x6&&Nat.blt (x7.getD x10 0) x4.length then
    bif (x5.getD (x7.getD x10 0) 0)==1 then
     bif jB ((x3.length+3)/3) 24 then
      Q113.l3 N n (x3++[(x4.getD (x7.getD x10 0) []).getD 0 0,(x4.getD (x7.getD x10 0) []).getD 1 0,(x4.getD (x7.getD x10 0) []).getD 2 0]) x4 x5 x6 (x7.eraseIdx x10) (x7.getD x10 0) k0
     else none
    else
    Q113.l3 N n x3 x4 x5 x6 (x7.eraseIdx x10) (x7.getD x10 0) k0
   else none
  else none
noncomputable def Q113.f (N:Nat)(a1:Int):Option (List Int):=
 (Q106.f N a1).bind fun r2=>
 Q113.l3 N N [] r2.1 r2.2 r2.1.length (List.range r2.1.length) r2.1.length
  (fun y11=>
   (Q112.f N y11).bind fun r12=>
   some r12)
noncomputable def Q113.h3:yC:=⟨[(3,.row .i64 3),(8,.any)],[(3,.row .i64 3)]⟩
noncomputable def Q113.c3 (N:Nat):uH:=⟨fun vs H k=>match vs,H with
 | [.sw 0 3,.ptr 2 0 0],[.ints .i64 x3,.mp .i64 3 x4 (.ints .i64 x5),.it (some 1) x6 x7 x8]=>Q113.l3 N N x3 x4 x5 x6 x7 x8 (fun x9=>k (.exit 0) ⟨xC Q113.h3.out [.sw 0 3],[.ints .i64 x9]⟩)
 |_,_=>none⟩
noncomputable def Q113.E (N:Nat):bD:=xE [(2,fR),(23,gd),(33,aI),(85,E4)] [(57,Q106.ent N),(58,Q112.ent N)] [(3,Q113.h3)] [(3,Q113.c3 N)] N [.tmp 2] [.row .i64 3] 0 23 true
noncomputable def Q113.b3:Code:=sA ((eA (bo Tryz.f41)).getD 0 .skip)
theorem Q113.l3_eq {R:Type}(N n:Nat)(x3:List Int)(x4:List (List Int))(x5:List Int)(x6:Nat)(x7:List Nat)(x8:Nat)(k:Ex→St→Option R):
  gB 0 Q113.h3 (fun s k=>bB (Q113.E N) 394 Q113.b3 s k) n [.sw 0 3,.ptr 2 0 0] [.ints .i64 x3,.mp .i64 3 x4 (.ints .i64 x5),.it (some 1) x6 x7 x8] k=Q113.l3 N n x3 x4 x5 x6 x7 x8 (fun x9=>k (.exit 0) ⟨xC Q113.h3.out [.sw 0 3],[.ints .i64 x9]⟩):=by
 induction n generalizing x3 x4 x5 x6 x7 x8 with
 |zero=>kernel_rfl
 |succ n ih=>
  simp only[Q113.l3,←ih]
  kernel_rfl
noncomputable def Q113.dec (v:V)(bs:List rA):Option (List Int):=match v,bs with
 | .sw 0 3,[.ints .i64 z0]=>some z0
 |_,_=>none
theorem Q113.f_eq (N:Nat)(a1:Int):
  cB (Q113.E N) (bo Tryz.f41) [.c (.int .i64 a1)] [] Q113.dec=Q113.f N a1:=by kernel_rfl
noncomputable def Q113.ent (N:Nat):xA:=tF (List Int) 1 [true] [.any] fun
 | [.c (.int .i64 a1)]=>some (Q113.f N a1,fun r=>.one (.sw 0 3) [.ints .i64 r])
 |_=>none
theorem Q113.env (N:Nat):aB Tryz.prog (Q113.E N):=⟨(.cons gD (.cons fL (.cons rC (.cons gi .nil)))),(.cons (Q106.ent_ok N) (.cons (Q112.ent_ok N) .nil))⟩
theorem Q113.k3 (N:Nat):uB Tryz.prog Tryz.f41 (Q113.E N) (.loop Q113.b3):=zC (Q113.env N) bA 394 (c:=Q113.c3 N) cA.n fun R vs H k r h=>by unfold Q113.c3 at h;dsimp only at h;split at h;exact⟨_,Q113.l3_eq .. ▸h⟩;cases h
theorem Q113.spec (N:Nat)(a1:Int)(r:List Int)(h:Q113.f N a1=some r):fA Tryz.prog 41 [.c (.int .i64 a1)] [] (.sw 0 3) ([.ints .i64 r]):=vA (Q113.env N) bA Tryz.func41 (cA.of (l:=[(.loop (sA ((eA (bo Tryz.f41)).getD 0 .skip)))]) (by kernel_rfl) (cA.cons (Q113.k3 N) cA.nil)) ((Q113.f_eq ..).trans h) fun v b e=>by unfold Q113.dec at e;split at e<;>cases e;exact⟨rfl,rfl⟩
theorem Q113.ent_ok (N:Nat):uA Tryz.prog 41 (Q113.ent N):=yA fun v a e h=>by split at h;exact mC (Q:=fun e=>fA _ _ _ _ (e a).pick.1 (e a).pick.2) h fun k=>Q113.spec N _ a k;cases h
noncomputable def Q114.f (N:Nat)(a1:Int):Option (List Int×Int):=
 (Q105.f N a1).bind fun r2=>
 bif r2 != 0 then
  some ([],r2)
 else
 (Q113.f N a1).bind fun r3=>
 some (r3,0)
noncomputable def Q114.E (N:Nat):bD:=xE [] [(40,Q105.ent N),(41,Q113.ent N)] [] [] N [.tmp 2,.tmp 3] [.row .i64 3,.any] 0 12 true
noncomputable def Q114.dec (v:V)(bs:List rA):Option (List Int×Int):=match v,bs with
 | .tup [.sw 0 3,.c (.int .i64 z1)],[.ints .i64 z0]=>some (z0,z1)
 |_,_=>none
theorem Q114.f_eq (N:Nat)(a1:Int):
  cB (Q114.E N) (bo Tryz.f23) [.c (.int .i64 a1)] [] Q114.dec=Q114.f N a1:=by kernel_rfl
noncomputable def Q114.ent (N:Nat):xA:=tF (List Int×Int) 1 [true] [.any] fun
 | [.c (.int .i64 a1)]=>some (Q114.f N a1,fun r=>.one (.tup [.sw 0 3,.c (.int .i64 r.2)]) [.ints .i64 r.1])
 |_=>none
theorem Q114.env (N:Nat):aB Tryz.prog (Q114.E N):=⟨.nil,(.cons (Q105.ent_ok N) (.cons (Q113.ent_ok N) .nil))⟩
theorem Q114.spec (N:Nat)(a1:Int)(r:List Int×Int)(h:Q114.f N a1=some r):fA Tryz.prog 23 [.c (.int .i64 a1)] [] (.tup [.sw 0 3,.c (.int .i64 r.2)]) ([.ints .i64 r.1]):=vA (Q114.env N) bA Tryz.func23 cA.n ((Q114.f_eq ..).trans h) fun v b e=>by unfold Q114.dec at e;split at e<;>cases e;exact⟨rfl,rfl⟩
theorem Q114.ent_ok (N:Nat):uA Tryz.prog 23 (Q114.ent N):=yA fun v a e h=>by split at h;exact mC (Q:=fun e=>fA _ _ _ _ (e a).pick.1 (e a).pick.2) h fun k=>Q114.spec N _ a k;cases h
noncomputable def Q115.f (N:Nat)(a1:Int):Option (Int×Int):=
 (Q114.f N a1).bind fun r2=>
 some ((r2.1.length/3:Int),r2.2)
noncomputable def Q115.E (N:Nat):bD:=xE [(23,gd)] [(23,Q114.ent N)] [] [] N [.tmp 2,.tmp 3] [.any,.any] 0 14
noncomputable def Q115.dec (v:V)(bs:List rA):Option (Int×Int):=match v,bs with
 | .tup [.c (.int .i64 z0),.c (.int .i64 z1)],[]=>some (z0,z1)
 |_,_=>none
theorem Q115.f_eq (N:Nat)(a1:Int):
  cB (Q115.E N) (bo Tryz.f17) [.c (.int .i64 a1)] [] Q115.dec=Q115.f N a1:=by kernel_rfl
noncomputable def Q115.ent (N:Nat):xA:=tF (Int×Int) 0 [true] [.any] fun
 | [.c (.int .i64 a1)]=>some (Q115.f N a1,fun r=>.one (.tup [.c (.int .i64 r.1),.c (.int .i64 r.2)]) [])
 |_=>none
theorem Q115.env (N:Nat):aB Tryz.prog (Q115.E N):=⟨(.cons fL .nil),(.cons (Q114.ent_ok N) .nil)⟩
theorem Q115.spec (N:Nat)(a1:Int)(r:Int×Int)(h:Q115.f N a1=some r):fA Tryz.prog 17 [.c (.int .i64 a1)] [] (.tup [.c (.int .i64 r.1),.c (.int .i64 r.2)]) ([]):=vA (Q115.env N) bA Tryz.func17 cA.n ((Q115.f_eq ..).trans h) fun v b e=>by unfold Q115.dec at e;split at e<;>cases e;exact⟨rfl,rfl⟩
theorem Q115.ent_ok (N:Nat):uA Tryz.prog 17 (Q115.ent N):=yA fun v a e h=>by split at h;exact mC (Q:=fun e=>fA _ _ _ _ (e a).pick.1 (e a).pick.2) h fun k=>Q115.spec N _ a k;cases h
noncomputable def Q116.l1 {R:Type}(N:Nat):Nat→Int→Int→Int→List Int→(Int→Int→Int→List Int→Option R)→Option R
 |0,_,_,_,_,_=>none
 |n+1,x4,x5,x6,x7,k0=>
  bif !(x4==0)then
   bif (Int.tmod x6 x4)==0 then
    bif !(x4==0)then
     Q116.l1 N n x4 (aA (x5+1)) (aA (Int.tdiv x6 x4)) x7 k0
    else none
   else
   k0 x4 x5 x6 x7
  else none
noncomputable def Q116.f (N:Nat)(a1 a2:Int)(a3:List Int):Option (Bool×Int×List Int):=
 Q116.l1 N N a1 0 a2 a3
  (fun y12 y13 y14 y15=>
   bif decide (y13>0)then
    bif jB ((y15.length+2)/2) 16 then
     some (true,y14,y15++[y12,y13])
    else none
   else
   some (false,y14,y15))
noncomputable def Q116.h1:yC:=⟨[(0,.any),(1,.any),(2,.any),(4,.any)],[(0,.any),(2,.any),(4,.any)]⟩
noncomputable def Q116.c1 (N:Nat):uH:=⟨fun vs H k=>match vs,H with
 | [.c (.int .i64 x4),.ptr 0 0 1,.ptr 1 0 1,.c (.int .i64 x5)],[.vals [.c (.int .i64 x6)],.vals [.sw 2 2],.ints .i64 x7]=>Q116.l1 N N x4 x5 x6 x7 (fun x8 x9 x10 x11=>k (.exit 0) ⟨xC Q116.h1.out [.c (.int .i64 x8),.ptr 1 0 1,.c (.int .i64 x9)],[.vals [.c (.int .i64 x10)],.vals [.sw 2 2],.ints .i64 x11]⟩)
 |_,_=>none⟩
noncomputable def Q116.E (N:Nat):bD:=xE [(2,fR),(3,Ci),(60,Ck),(64,E0)] [] [(1,Q116.h1)] [(1,Q116.c1 N)] N [] [] 3 22 true [(1,[.row .i64 2])]
noncomputable def Q116.b1:Code:=sA ((eA (bo Tryz.f65)).getD 0 .skip)
theorem Q116.l1_eq {R:Type}(N n:Nat)(x4 x5 x6:Int)(x7:List Int)(k:Ex→St→Option R):
  gB 3 Q116.h1 (fun s k=>bB (Q116.E N) 396 Q116.b1 s k) n [.c (.int .i64 x4),.ptr 0 0 1,.ptr 1 0 1,.c (.int .i64 x5)] [.vals [.c (.int .i64 x6)],.vals [.sw 2 2],.ints .i64 x7] k=Q116.l1 N n x4 x5 x6 x7 (fun x8 x9 x10 x11=>k (.exit 0) ⟨xC Q116.h1.out [.c (.int .i64 x8),.ptr 1 0 1,.c (.int .i64 x9)],[.vals [.c (.int .i64 x10)],.vals [.sw 2 2],.ints .i64 x11]⟩):=by
 induction n generalizing x4 x5 x6 x7 with
 |zero=>kernel_rfl
 |succ n ih=>
  simp only[Q116.l1,←ih]
  kernel_rfl
noncomputable def Q116.dec (v:V)(bs:List rA):Option (Bool×Int×List Int):=match v,bs with
 | .tup [],[.vals [.c (.int .i64 z0)],.vals [.sw 3 2],.dead,.ints .i64 z1]=>some (true,z0,z1)
 | .tup [],[.vals [.c (.int .i64 z0)],.vals [.sw 2 2],.ints .i64 z1]=>some (false,z0,z1)
 |_,_=>none
theorem Q116.f_eq (N:Nat)(a1 a2:Int)(a3:List Int):
  cB (Q116.E N) (bo Tryz.f65) [.c (.int .i64 a1),.ptr 0 0 1,.ptr 1 0 1] [.vals [.c (.int .i64 a2)],.vals [.sw 2 2],.ints .i64 a3] Q116.dec=Q116.f N a1 a2 a3:=by kernel_rfl
noncomputable def Q116.ent (N:Nat):xA:={A:=Bool×Int×List Int,fresh:=1,imm:=[true,false,false],dec:=fun args bs=>match eG (nA bs) [false,false,false] args,bs with
 | [.c (.int .i64 a1),.ptr 0 0 1,.ptr 1 0 1],[.vals [.c (.int .i64 a2)],.vals [.sw 2 2],.ints .i64 a3]=>some (Q116.f N a1 a2 a3,fun r=>.two r.1 (.tup []) [.vals [.c (.int .i64 r.2.1)],.vals [.sw 3 2],.dead,.ints .i64 r.2.2] (.tup []) [.vals [.c (.int .i64 r.2.1)],.vals [.sw 2 2],.ints .i64 r.2.2])
 |_,_=>none}
theorem Q116.env (N:Nat):aB Tryz.prog (Q116.E N):=⟨(.cons gD (.cons sL (.cons oW (.cons gg .nil)))),.nil⟩
theorem Q116.res_eq (N:Nat):(Q116.E N).res=Tryz.f65.results.toList:=by kernel_rfl
theorem Q116.k1 (N:Nat):uB Tryz.prog Tryz.f65 (Q116.E N) (.loop Q116.b1):=zC (Q116.env N) bA 396 (c:=Q116.c1 N) cA.n fun R vs H k r h=>by unfold Q116.c1 at h;dsimp only at h;split at h;exact⟨_,Q116.l1_eq .. ▸h⟩;cases h
theorem Q116.spec (N:Nat)(a1 a2:Int)(a3:List Int)(r:Bool×Int×List Int)(h:Q116.f N a1 a2 a3=some r):fA Tryz.prog 65 [.c (.int .i64 a1),.ptr 0 0 1,.ptr 1 0 1] [.vals [.c (.int .i64 a2)],.vals [.sw 2 2],.ints .i64 a3] ((rh.two r.1 (.tup []) [.vals [.c (.int .i64 r.2.1)],.vals [.sw 3 2],.dead,.ints .i64 r.2.2] (.tup []) [.vals [.c (.int .i64 r.2.1)],.vals [.sw 2 2],.ints .i64 r.2.2]).pick.1) ((rh.two r.1 (.tup []) [.vals [.c (.int .i64 r.2.1)],.vals [.sw 3 2],.dead,.ints .i64 r.2.2] (.tup []) [.vals [.c (.int .i64 r.2.1)],.vals [.sw 2 2],.ints .i64 r.2.2]).pick.2):=by
 rw[←Q116.f_eq]at h;refine(rX (Q116.env N) bA Tryz.func65 (by kernel_rfl:Tryz.f65.body=some (bo Tryz.f65)) (by kernel_rfl) (Q116.res_eq N) (by kernel_rfl) (by kernel_rfl) (hA (by kernel_rfl)) (cA.of (l:=[(.loop (sA ((eA (bo Tryz.f65)).getD 0 .skip)))]) (by kernel_rfl) (cA.cons (Q116.k1 N) cA.nil)) h).of fun v bs' h1=>?_;unfold Q116.dec at h1;split at h1
 ·cases h1;exact⟨rfl,rfl⟩
 ·cases h1;exact⟨rfl,rfl⟩
 ·cases h1
theorem Q116.ent_ok (N:Nat):uA Tryz.prog 65 (Q116.ent N):=by
 intro args bs a enc h;simp only[Q116.ent]at h;split at h
 ·rename_i hz;have h0:=Option.some.inj h;have h1:=congrArg Prod.fst h0;have h2:=congrArg Prod.snd h0;dsimp only at h1 h2;subst h2;exact fA.of_asSl (fl:=[false,false,false]) (by rw[hz];exact Q116.spec N _ _ _ a h1)
 ·cases h
noncomputable def Q117.l8 {R:Type}(N:Nat):Nat→Int→Int→List Int→(Int→List Int→Option R)→Option R
 |0,_,_,_,_=>none
 |n+1,x2,x3,x4,k1=>
  bif decide ((aA (x2*x2))≤x3)then
   (Q116.f N x2 x3 x4).bind fun r5=>
   bif r5.1 then
    Q117.l8 N n (aA (x2+(aA (1+(fC .i64 x2 1))))) r5.2.1 r5.2.2 k1
   else
   Q117.l8 N n (aA (x2+(aA (1+(fC .i64 x2 1))))) r5.2.1 r5.2.2 k1
  else
  k1 x3 x4
noncomputable def Q117.f (N:Nat)(a1:Int):Option (List Int×Int):=
 bif decide (a1<1)then
  some ([],2)
 else
 bif decide (a1>1099511627776)then
  some ([],3)
 else
 Q117.l8 N N 2 a1 []
  (fun y8 y9=>
   bif decide (y8>1)then
    (Q116.f N y8 y8 y9).bind fun r10=>
    bif r10.1 then
     some (r10.2.2,0)
    else
    some (r10.2.2,0)
   else
   some (y9,0))
noncomputable def Q117.h8:yC:=⟨[(1,.box [.any]),(4,.box [.row .i64 2]),(5,.any),(6,.any)],[(1,.box [.any]),(4,.box [.row .i64 2]),(5,.any)]⟩
noncomputable def Q117.c8 (N:Nat):uH:=⟨fun vs H k=>match vs,H with
 | [.ptr 0 0 1,.ptr 1 0 1,.fn 65 [] [.ptr 0 0 1,.ptr 1 0 1],.c (.int .i64 x2)],[.vals [.c (.int .i64 x3)],.vals [.sw 2 2],.ints .i64 x4]=>Q117.l8 N N x2 x3 x4 (fun x6 x7=>k (.exit 1) ⟨xC Q117.h8.out [.ptr 0 0 1,.ptr 1 0 1,.fn 65 [] [.ptr 0 0 1,.ptr 1 0 1]],[.vals [.c (.int .i64 x6)],.vals [.sw 2 2],.ints .i64 x7]⟩)
 |_,_=>none⟩
noncomputable def Q117.E (N:Nat):bD:=xE [(2,fR),(60,Ck)] [(65,Q116.ent N)] [(8,Q117.h8)] [(8,Q117.c8 N)] N [.tmp 2,.tmp 3] [.il .i64 2,.any] 0 33
noncomputable def Q117.b8:Code:=sA ((eA (bo Tryz.f46)).getD 0 .skip)
theorem Q117.l8_eq {R:Type}(N n:Nat)(x2 x3:Int)(x4:List Int)(k:Ex→St→Option R):
  gB 0 Q117.h8 (fun s k=>bB (Q117.E N) 392 Q117.b8 s k) n [.ptr 0 0 1,.ptr 1 0 1,.fn 65 [] [.ptr 0 0 1,.ptr 1 0 1],.c (.int .i64 x2)] [.vals [.c (.int .i64 x3)],.vals [.sw 2 2],.ints .i64 x4] k=Q117.l8 N n x2 x3 x4 (fun x6 x7=>k (.exit 1) ⟨xC Q117.h8.out [.ptr 0 0 1,.ptr 1 0 1,.fn 65 [] [.ptr 0 0 1,.ptr 1 0 1]],[.vals [.c (.int .i64 x6)],.vals [.sw 2 2],.ints .i64 x7]⟩):=by
 induction n generalizing x2 x3 x4 with
 |zero=>kernel_rfl
 |succ n ih=>
  simp only[Q117.l8,←ih]
  kernel_rfl
noncomputable def Q117.dec (v:V)(bs:List rA):Option (List Int×Int):=match v,bs with
 | .tup [.il .i64 2 z0,.c (.int .i64 z1)],[]=>some (z0,z1)
 |_,_=>none
theorem Q117.f_eq (N:Nat)(a1:Int):
  cB (Q117.E N) (bo Tryz.f46) [.c (.int .i64 a1)] [] Q117.dec=Q117.f N a1:=by kernel_rfl
noncomputable def Q117.ent (N:Nat):xA:=tF (List Int×Int) 0 [true] [.any] fun
 | [.c (.int .i64 a1)]=>some (Q117.f N a1,fun r=>.one (.tup [.il .i64 2 r.1,.c (.int .i64 r.2)]) [])
 |_=>none
theorem Q117.env (N:Nat):aB Tryz.prog (Q117.E N):=⟨(.cons gD (.cons oW .nil)),(.cons (Q116.ent_ok N) .nil)⟩
theorem Q117.k8 (N:Nat):uB Tryz.prog Tryz.f46 (Q117.E N) (.loop Q117.b8):=zC (Q117.env N) bA 392 (c:=Q117.c8 N) cA.n fun R vs H k r h=>by unfold Q117.c8 at h;dsimp only at h;split at h;exact⟨_,Q117.l8_eq .. ▸h⟩;cases h
theorem Q117.spec (N:Nat)(a1:Int)(r:List Int×Int)(h:Q117.f N a1=some r):fA Tryz.prog 46 [.c (.int .i64 a1)] [] (.tup [.il .i64 2 r.1,.c (.int .i64 r.2)]) ([]):=vA (Q117.env N) bA Tryz.func46 (cA.of (l:=[(.loop (sA ((eA (bo Tryz.f46)).getD 0 .skip)))]) (by kernel_rfl) (cA.cons (Q117.k8 N) cA.nil)) ((Q117.f_eq ..).trans h) fun v b e=>by unfold Q117.dec at e;split at e<;>cases e;exact⟨rfl,rfl⟩
theorem Q117.ent_ok (N:Nat):uA Tryz.prog 46 (Q117.ent N):=yA fun v a e h=>by split at h;exact mC (Q:=fun e=>fA _ _ _ _ (e a).pick.1 (e a).pick.2) h fun k=>Q117.spec N _ a k;cases h
noncomputable def Q119.f (N:Nat)(a1 a2:Int)(a3 a4:Int)(a5 a6:Int)(a7 a8:Int):Option (Int):=
 some (aA (a8-a4))
noncomputable def Q119.E (N:Nat):bD:=xE [(2,fR),(57,gf)] [] [] [] N [.tmp 4] [.any] 0 10
noncomputable def Q119.dec (v:V)(bs:List rA):Option (Int):=match v,bs with
 | .c (.int .i64 z0),[]=>some z0
 |_,_=>none
theorem Q119.f_eq (N:Nat)(a1 a2:Int)(a3 a4:Int)(a5 a6:Int)(a7 a8:Int):
  cB (Q119.E N) (bo Tryz.f67) [.agg [.c (.int .i64 a1),.c (.int .i64 a2),.c (.int .i64 a3),.c (.int .i64 a4)],.agg [.c (.int .i64 a5),.c (.int .i64 a6),.c (.int .i64 a7),.c (.int .i64 a8)]] [] Q119.dec=Q119.f N a1 a2 a3 a4 a5 a6 a7 a8:=by kernel_rfl
noncomputable def Q119.ent (N:Nat):xA:=tF (Int) 0 [true,true] [.recd [.any,.any,.any,.any],.recd [.any,.any,.any,.any]] fun
 | [.agg [.c (.int .i64 a1),.c (.int .i64 a2),.c (.int .i64 a3),.c (.int .i64 a4)],.agg [.c (.int .i64 a5),.c (.int .i64 a6),.c (.int .i64 a7),.c (.int .i64 a8)]]=>some (Q119.f N a1 a2 a3 a4 a5 a6 a7 a8,fun r=>.one (.c (.int .i64 r)) [])
 |_=>none
theorem Q119.env (N:Nat):aB Tryz.prog (Q119.E N):=⟨(.cons gD (.cons iL .nil)),.nil⟩
theorem Q119.spec (N:Nat)(a1 a2:Int)(a3 a4:Int)(a5 a6:Int)(a7 a8 r:Int)(h:Q119.f N a1 a2 a3 a4 a5 a6 a7 a8=some r):fA Tryz.prog 67 [.agg [.c (.int .i64 a1),.c (.int .i64 a2),.c (.int .i64 a3),.c (.int .i64 a4)],.agg [.c (.int .i64 a5),.c (.int .i64 a6),.c (.int .i64 a7),.c (.int .i64 a8)]] [] (.c (.int .i64 r)) ([]):=vA (Q119.env N) bA Tryz.func67 cA.n ((Q119.f_eq ..).trans h) fun v b e=>by unfold Q119.dec at e;split at e<;>cases e;exact⟨rfl,rfl⟩
theorem Q119.ent_ok (N:Nat):uA Tryz.prog 67 (Q119.ent N):=yA fun v a e h=>by split at h;exact mC (Q:=fun e=>fA _ _ _ _ (e a).pick.1 (e a).pick.2) h fun k=>Q119.spec N _ _ _ _ _ _ _ _ a k;cases h
noncomputable def Q120.l1 {R:Type}(N:Nat):Nat→Int→Int→Int→Int→List Int→(List Int→Option R)→Option R
 |0,_,_,_,_,_,_=>none
 |n+1,x5,x6,x7,x8,x9,k0=>
  bif decide (x8<x7)then
   bif (decide (0≤(aA (x6+x8))))&&(decide ((aA (x6+x8))<(x9.length/4:Int)))then
    bif (decide (0≤(aA (x5+x8))))&&(decide ((aA (x5+x8))<(x9.length/4:Int)))then
     bif (decide (0≤(aA (x5+x8))))&&(decide ((aA (x5+x8))<(x9.length/4:Int)))then
      bif (decide (0≤(aA (x6+x8))))&&(decide ((aA (x6+x8))<((((((x9.set (((aA (x5+x8)).toNat)*4) (x9.getD (((aA (x6+x8)).toNat)*4) 0)).set ((((aA (x5+x8)).toNat)*4)+1) (x9.getD ((((aA (x6+x8)).toNat)*4)+1) 0)).set ((((aA (x5+x8)).toNat)*4)+2) (x9.getD ((((aA (x6+x8)).toNat)*4)+2) 0)).set ((((aA (x5+x8)).toNat)*4)+3) (x9.getD ((((aA (x6+x8)).toNat)*4)+3) 0)).length)/4:Int)))then
       Q120.l1 N n x5 x6 x7 (aA (x8+1)) ((((((((x9.set (((aA (x5+x8)).toNat)*4) (x9.getD (((aA (x6+x8)).toNat)*4) 0)).set ((((aA (x5+x8)).toNat)*4)+1) (x9.getD ((((aA (x6+x8)).toNat)*4)+1) 0)).set ((((aA (x5+x8)).toNat)*4)+2) (x9.getD ((((aA (x6+x8)).toNat)*4)+2) 0)).set ((((aA (x5+x8)).toNat)*4)+3) (x9.getD ((((aA (x6+x8)).toNat)*4)+3) 0)).set (((aA (x6+x8)).toNat)*4) (x9.getD (((aA (x5+x8)).toNat)*4) 0)).set ((((aA (x6+x8)).toNat)*4)+1) (x9.getD ((((aA (x5+x8)).toNat)*4)+1) 0)).set ((((aA (x6+x8)).toNat)*4)+2) (x9.getD ((((aA (x5+x8)).toNat)*4)+2) 0)).set ((((aA (x6+x8)).toNat)*4)+3) (x9.getD ((((aA (x5+x8)).toNat)*4)+3) 0)) k0
      else none
     else none
    else none
   else none
  else
  k0 x9
noncomputable def Q120.f (N:Nat)(a1 a2 a3:Int)(a4:List Int):Option (List Int):=
 Q120.l1 N N a1 a2 a3 0 a4
  (fun y11=>
   some y11)
noncomputable def Q120.h1:yC:=⟨[(0,.row .i64 4),(1,.any),(2,.any),(3,.any),(10,.any)],[]⟩
noncomputable def Q120.c1 (N:Nat):uH:=⟨fun vs H k=>match vs,H with
 | [.sw 0 4,.c (.int .i64 x5),.c (.int .i64 x6),.c (.int .i64 x7),.c (.int .i64 x8)],[.ints .i64 x9]=>Q120.l1 N N x5 x6 x7 x8 x9 (fun x10=>k (.exit 0) ⟨xC Q120.h1.out [],[.ints .i64 x10]⟩)
 |_,_=>none⟩
noncomputable def Q120.E (N:Nat):bD:=xE [(53,ge),(57,gf)] [] [(1,Q120.h1)] [(1,Q120.c1 N)] N [] [] 1 38
noncomputable def Q120.b1:Code:=sA ((eA (bo Tryz.f164)).getD 0 .skip)
theorem Q120.l1_eq {R:Type}(N n:Nat)(x5 x6:Int)(x7 x8:Int)(x9:List Int)(k:Ex→St→Option R):
  gB 1 Q120.h1 (fun s k=>bB (Q120.E N) 397 Q120.b1 s k) n [.sw 0 4,.c (.int .i64 x5),.c (.int .i64 x6),.c (.int .i64 x7),.c (.int .i64 x8)] [.ints .i64 x9] k=Q120.l1 N n x5 x6 x7 x8 x9 (fun x10=>k (.exit 0) ⟨xC Q120.h1.out [],[.ints .i64 x10]⟩):=by
 induction n generalizing x5 x6 x7 x8 x9 with
 |zero=>kernel_rfl
 |succ n ih=>
  simp only[Q120.l1,←ih]
  kernel_rfl
noncomputable def Q120.dec (v:V)(bs:List rA):Option (List Int):=match v,bs with
 | .tup [],[.ints .i64 z0]=>some z0
 |_,_=>none
theorem Q120.f_eq (N:Nat)(a1 a2 a3:Int)(a4:List Int):
  cB (Q120.E N) (bo Tryz.f164) [.sw 0 4,.c (.int .i64 a1),.c (.int .i64 a2),.c (.int .i64 a3),.fn 67 [] []] [.ints .i64 a4] Q120.dec=Q120.f N a1 a2 a3 a4:=by kernel_rfl
noncomputable def Q120.ent (N:Nat):xA:={A:=List Int,fresh:=0,imm:=[false,true,true,true,false],dec:=fun args bs=>match eG (nA bs) [false,false,false,false,false] args,bs with
 | [.sw 0 4,.c (.int .i64 a1),.c (.int .i64 a2),.c (.int .i64 a3),.fn 67 [] []],[.ints .i64 a4]=>some (Q120.f N a1 a2 a3 a4,fun r=>.one (.tup []) [.ints .i64 r])
 |_,_=>none}
theorem Q120.env (N:Nat):aB Tryz.prog (Q120.E N):=⟨(.cons gL (.cons iL .nil)),.nil⟩
theorem Q120.k1 (N:Nat):uB Tryz.prog Tryz.f164 (Q120.E N) (.loop Q120.b1):=zC (Q120.env N) bA 397 (c:=Q120.c1 N) cA.n fun R vs H k r h=>by unfold Q120.c1 at h;dsimp only at h;split at h;exact⟨_,Q120.l1_eq .. ▸h⟩;cases h
theorem Q120.spec (N:Nat)(a1 a2 a3:Int)(a4 r:List Int)(h:Q120.f N a1 a2 a3 a4=some r):fA Tryz.prog 164 [.sw 0 4,.c (.int .i64 a1),.c (.int .i64 a2),.c (.int .i64 a3),.fn 67 [] []] [.ints .i64 a4] (.tup []) ([.ints .i64 r]):=vA (Q120.env N) bA Tryz.func164 (cA.of (l:=[(.loop (sA ((eA (bo Tryz.f164)).getD 0 .skip)))]) (by kernel_rfl) (cA.cons (Q120.k1 N) cA.nil)) ((Q120.f_eq ..).trans h) fun v b e=>by unfold Q120.dec at e;split at e<;>cases e;exact⟨rfl,rfl⟩
theorem Q120.ent_ok (N:Nat):uA Tryz.prog 164 (Q120.ent N):=by
 intro args bs a enc h;simp only[Q120.ent]at h;split at h
 ·rename_i hz;have h0:=Option.some.inj h;have h1:=congrArg Prod.fst h0;have h2:=congrArg Prod.snd h0;dsimp only at h1 h2;subst h2;exact fA.of_asSl (fl:=[false,false,false,false,false]) (by rw[hz];exact Q120.spec N _ _ _ _ a h1)
 ·cases h
noncomputable def Q121.l2 {R:Type}(N:Nat):Nat→Int→Int→Int→List Int→(Int→Int→List Int→Option R)→Option R
 |0,_,_,_,_,_=>none
 |n+1,x5,x6,x7,x8,k0=>
  bif x6 != x7 then
   bif decide (x6>x7)then
    (Q120.f N (aA (x5-x6)) x5 x7 x8).bind fun r9=>
    Q121.l2 N n x5 (aA (x6-x7)) x7 r9 k0
   else
   (Q120.f N (aA (x5-x6)) (aA ((aA (x5+x7))-x6)) x6 x8).bind fun r10=>
   Q121.l2 N n x5 x6 (aA (x7-x6)) r10 k0
  else
  k0 x5 x6 x8
noncomputable def Q121.f (N:Nat)(a1 a2 a3:Int)(a4:List Int):Option (List Int):=
 Q121.l2 N N a2 (aA (a2-a1)) (aA (a3-a2)) a4
  (fun y14 y15 y16=>
   (Q120.f N (aA (y14-y15)) y14 y15 y16).bind fun r17=>
   some r17)
noncomputable def Q121.h2:yC:=⟨[(0,.row .i64 4),(2,.any),(4,.any),(10,.any),(11,.any)],[(0,.row .i64 4),(2,.any),(4,.any),(10,.any)]⟩
noncomputable def Q121.c2 (N:Nat):uH:=⟨fun vs H k=>match vs,H with
 | [.sw 0 4,.c (.int .i64 x5),.fn 67 [] [],.c (.int .i64 x6),.c (.int .i64 x7)],[.ints .i64 x8]=>Q121.l2 N N x5 x6 x7 x8 (fun x11 x12 x13=>k (.exit 0) ⟨xC Q121.h2.out [.sw 0 4,.c (.int .i64 x11),.fn 67 [] [],.c (.int .i64 x12)],[.ints .i64 x13]⟩)
 |_,_=>none⟩
noncomputable def Q121.E (N:Nat):bD:=xE [] [(164,Q120.ent N)] [(2,Q121.h2)] [(2,Q121.c2 N)] N [] [] 1 58
noncomputable def Q121.b2:Code:=sA ((eA (bo Tryz.f155)).getD 0 .skip)
theorem Q121.l2_eq {R:Type}(N n:Nat)(x5 x6 x7:Int)(x8:List Int)(k:Ex→St→Option R):
  gB 1 Q121.h2 (fun s k=>bB (Q121.E N) 395 Q121.b2 s k) n [.sw 0 4,.c (.int .i64 x5),.fn 67 [] [],.c (.int .i64 x6),.c (.int .i64 x7)] [.ints .i64 x8] k=Q121.l2 N n x5 x6 x7 x8 (fun x11 x12 x13=>k (.exit 0) ⟨xC Q121.h2.out [.sw 0 4,.c (.int .i64 x11),.fn 67 [] [],.c (.int .i64 x12)],[.ints .i64 x13]⟩):=by
 induction n generalizing x5 x6 x7 x8 with
 |zero=>kernel_rfl
 |succ n ih=>
  simp only[Q121.l2,←ih]
  kernel_rfl
noncomputable def Q121.dec (v:V)(bs:List rA):Option (List Int):=match v,bs with
 | .tup [],[.ints .i64 z0]=>some z0
 |_,_=>none
theorem Q121.f_eq (N:Nat)(a1 a2 a3:Int)(a4:List Int):
  cB (Q121.E N) (bo Tryz.f155) [.sw 0 4,.c (.int .i64 a1),.c (.int .i64 a2),.c (.int .i64 a3),.fn 67 [] []] [.ints .i64 a4] Q121.dec=Q121.f N a1 a2 a3 a4:=by kernel_rfl
noncomputable def Q121.ent (N:Nat):xA:={A:=List Int,fresh:=0,imm:=[false,true,true,true,false],dec:=fun args bs=>match eG (nA bs) [false,false,false,false,false] args,bs with
 | [.sw 0 4,.c (.int .i64 a1),.c (.int .i64 a2),.c (.int .i64 a3),.fn 67 [] []],[.ints .i64 a4]=>some (Q121.f N a1 a2 a3 a4,fun r=>.one (.tup []) [.ints .i64 r])
 |_,_=>none}
theorem Q121.env (N:Nat):aB Tryz.prog (Q121.E N):=⟨.nil,(.cons (Q120.ent_ok N) .nil)⟩
theorem Q121.k2 (N:Nat):uB Tryz.prog Tryz.f155 (Q121.E N) (.loop Q121.b2):=zC (Q121.env N) bA 395 (c:=Q121.c2 N) cA.n fun R vs H k r h=>by unfold Q121.c2 at h;dsimp only at h;split at h;exact⟨_,Q121.l2_eq .. ▸h⟩;cases h
theorem Q121.spec (N:Nat)(a1 a2 a3:Int)(a4 r:List Int)(h:Q121.f N a1 a2 a3 a4=some r):fA Tryz.prog 155 [.sw 0 4,.c (.int .i64 a1),.c (.int .i64 a2),.c (.int .i64 a3),.fn 67 [] []] [.ints .i64 a4] (.tup []) ([.ints .i64 r]):=vA (Q121.env N) bA Tryz.func155 (cA.of (l:=[(.loop (sA ((eA (bo Tryz.f155)).getD 0 .skip)))]) (by kernel_rfl) (cA.cons (Q121.k2 N) cA.nil)) ((Q121.f_eq ..).trans h) fun v b e=>by unfold Q121.dec at e;split at e<;>cases e;exact⟨rfl,rfl⟩
theorem Q121.ent_ok (N:Nat):uA Tryz.prog 155 (Q121.ent N):=by
 intro args bs a enc h;simp only[Q121.ent]at h;split at h
 ·rename_i hz;have h0:=Option.some.inj h;have h1:=congrArg Prod.fst h0;have h2:=congrArg Prod.snd h0;dsimp only at h1 h2;subst h2;exact fA.of_asSl (fl:=[false,false,false,false,false]) (by rw[hz];exact Q121.spec N _ _ _ _ a h1)
 ·cases h
noncomputable def Q122.l4 {R:Type}(N:Nat):Nat→Int→Int→Int→Int→List Int→(Int→Int→Int→List Int→Option R)→Option R
 |0,_,_,_,_,_,_=>none
 |n+1,x8,x9,x10,x11,x12,k2=>
  bif decide (x11>x8)then
   bif (decide (0≤x11))&&(decide (x11<(x12.length/4:Int)))then
    bif (decide (0≤(aA (x11-1))))&&(decide ((aA (x11-1))<(x12.length/4:Int)))then
     (Q119.f N (x12.getD (x11.toNat*4) 0) (x12.getD ((x11.toNat*4)+1) 0) (x12.getD ((x11.toNat*4)+2) 0) (x12.getD ((x11.toNat*4)+3) 0) (x12.getD (((aA (x11-1)).toNat)*4) 0) (x12.getD ((((aA (x11-1)).toNat)*4)+1) 0) (x12.getD ((((aA (x11-1)).toNat)*4)+2) 0) (x12.getD ((((aA (x11-1)).toNat)*4)+3) 0)).bind fun r13=>
     bif decide (r13<0)then
      bif (decide (0≤(aA (x11-1))))&&(decide ((aA (x11-1))<(x12.length/4:Int)))then
       bif (decide (0≤x11))&&(decide (x11<(x12.length/4:Int)))then
        bif (decide (0≤x11))&&(decide (x11<(x12.length/4:Int)))then
         bif (decide (0≤(aA (x11-1))))&&(decide ((aA (x11-1))<(((((((x12.set (x11.toNat*4) (x12.getD (((aA (x11-1)).toNat)*4) 0)).set ((x11.toNat*4)+1) (x12.getD ((((aA (x11-1)).toNat)*4)+1) 0)).set ((x11.toNat*4)+2) (x12.getD ((((aA (x11-1)).toNat)*4)+2) 0)).set ((x11.toNat*4)+3) (x12.getD ((((aA (x11-1)).toNat)*4)+3) 0)).length)/4:Nat):Int)))then
          Q122.l4 N n x8 x9 x10 (aA (x11-1)) ((((((((x12.set (x11.toNat*4) (x12.getD (((aA (x11-1)).toNat)*4) 0)).set ((x11.toNat*4)+1) (x12.getD ((((aA (x11-1)).toNat)*4)+1) 0)).set ((x11.toNat*4)+2) (x12.getD ((((aA (x11-1)).toNat)*4)+2) 0)).set ((x11.toNat*4)+3) (x12.getD ((((aA (x11-1)).toNat)*4)+3) 0)).set (((aA (x11-1)).toNat)*4) (x12.getD (x11.toNat*4) 0)).set ((((aA (x11-1)).toNat)*4)+1) (x12.getD ((x11.toNat*4)+1) 0)).set ((((aA (x11-1)).toNat)*4)+2) (x12.getD ((x11.toNat*4)+2) 0)).set ((((aA (x11-1)).toNat)*4)+3) (x12.getD ((x11.toNat*4)+3) 0)) k2
         else none
        else none
       else none
      else none
     else
     k2 x8 x9 x10 x12
    else none
   else none
  else
  k2 x8 x9 x10 x12
noncomputable def Q122.l1 {R:Type}(N:Nat):Nat→Int→Int→Int→List Int→(List Int→Option R)→Option R
 |0,_,_,_,_,_=>none
 |n+1,x4,x5,x6,x7,k0=>
  bif decide (x6<x5)then
   Q122.l4 N N x4 x5 x6 x6 x7
    (fun y18 y19 y20 y21=>
     Q122.l1 N n y18 y19 (aA (y20+1)) y21 k0)
  else
  k0 x7
noncomputable def Q122.f (N:Nat)(a1 a2:Int)(a3:List Int):Option (List Int):=
 Q122.l1 N N a1 a2 (aA (a1+1)) a3
  (fun y23=>
   some y23)
noncomputable def Q122.h1:yC:=⟨[(0,.row .i64 4),(1,.any),(2,.any),(3,.any),(8,.any)],[]⟩
noncomputable def Q122.h4:yC:=⟨[(0,.row .i64 4),(1,.any),(2,.any),(3,.any),(8,.any),(9,.any)],[(0,.row .i64 4),(1,.any),(2,.any),(3,.any),(8,.any)]⟩
noncomputable def Q122.c4 (N:Nat):uH:=⟨fun vs H k=>match vs,H with
 | [.sw 0 4,.c (.int .i64 x8),.c (.int .i64 x9),.fn 67 [] [],.c (.int .i64 x10),.c (.int .i64 x11)],[.ints .i64 x12]=>Q122.l4 N N x8 x9 x10 x11 x12 (fun x14 x15 x16 x17=>k (.exit 2) ⟨xC Q122.h4.out [.sw 0 4,.c (.int .i64 x14),.c (.int .i64 x15),.fn 67 [] [],.c (.int .i64 x16)],[.ints .i64 x17]⟩)
 |_,_=>none⟩
noncomputable def Q122.c1 (N:Nat):uH:=⟨fun vs H k=>match vs,H with
 | [.sw 0 4,.c (.int .i64 x4),.c (.int .i64 x5),.fn 67 [] [],.c (.int .i64 x6)],[.ints .i64 x7]=>Q122.l1 N N x4 x5 x6 x7 (fun x22=>k (.exit 0) ⟨xC Q122.h1.out [],[.ints .i64 x22]⟩)
 |_,_=>none⟩
noncomputable def Q122.E (N:Nat):bD:=xE [(53,ge),(57,gf)] [(67,Q119.ent N)] [(1,Q122.h1),(4,Q122.h4)] [(4,Q122.c4 N),(1,Q122.c1 N)] N [] [] 1 53
noncomputable def Q122.b4:Code:=sA ((eA (bo Tryz.f127)).getD 1 .skip)
theorem Q122.l4_eq {R:Type}(N n:Nat)(x8 x9:Int)(x10 x11:Int)(x12:List Int)(k:Ex→St→Option R):
  gB 1 Q122.h4 (fun s k=>bB (Q122.E N) 391 Q122.b4 s k) n [.sw 0 4,.c (.int .i64 x8),.c (.int .i64 x9),.fn 67 [] [],.c (.int .i64 x10),.c (.int .i64 x11)] [.ints .i64 x12] k=Q122.l4 N n x8 x9 x10 x11 x12 (fun x14 x15 x16 x17=>k (.exit 2) ⟨xC Q122.h4.out [.sw 0 4,.c (.int .i64 x14),.c (.int .i64 x15),.fn 67 [] [],.c (.int .i64 x16)],[.ints .i64 x17]⟩):=by
 induction n generalizing x8 x9 x10 x11 x12 with
 |zero=>kernel_rfl
 |succ n ih=>
  simp only[Q122.l4,←ih]
  kernel_rfl
noncomputable def Q122.b1:Code:=sA ((eA (bo Tryz.f127)).getD 0 .skip)
theorem Q122.l1_eq {R:Type}(N n:Nat)(x4 x5 x6:Int)(x7:List Int)(k:Ex→St→Option R):
  gB 1 Q122.h1 (fun s k=>bB (Q122.E N) 397 Q122.b1 s k) n [.sw 0 4,.c (.int .i64 x4),.c (.int .i64 x5),.fn 67 [] [],.c (.int .i64 x6)] [.ints .i64 x7] k=Q122.l1 N n x4 x5 x6 x7 (fun x22=>k (.exit 0) ⟨xC Q122.h1.out [],[.ints .i64 x22]⟩):=by
 induction n generalizing x4 x5 x6 x7 with
 |zero=>kernel_rfl
 |succ n ih=>
  simp only[Q122.l1,←ih]
  kernel_rfl
noncomputable def Q122.dec (v:V)(bs:List rA):Option (List Int):=match v,bs with
 | .tup [],[.ints .i64 z0]=>some z0
 |_,_=>none
theorem Q122.f_eq (N:Nat)(a1 a2:Int)(a3:List Int):
  cB (Q122.E N) (bo Tryz.f127) [.sw 0 4,.c (.int .i64 a1),.c (.int .i64 a2),.fn 67 [] []] [.ints .i64 a3] Q122.dec=Q122.f N a1 a2 a3:=by kernel_rfl
noncomputable def Q122.ent (N:Nat):xA:={A:=List Int,fresh:=0,imm:=[false,true,true,false],dec:=fun args bs=>match eG (nA bs) [false,false,false,false] args,bs with
 | [.sw 0 4,.c (.int .i64 a1),.c (.int .i64 a2),.fn 67 [] []],[.ints .i64 a3]=>some (Q122.f N a1 a2 a3,fun r=>.one (.tup []) [.ints .i64 r])
 |_,_=>none}
theorem Q122.env (N:Nat):aB Tryz.prog (Q122.E N):=⟨(.cons gL (.cons iL .nil)),(.cons (Q119.ent_ok N) .nil)⟩
theorem Q122.k4 (N:Nat):uB Tryz.prog Tryz.f127 (Q122.E N) (.loop Q122.b4):=zC (Q122.env N) bA 391 (c:=Q122.c4 N) cA.n fun R vs H k r h=>by unfold Q122.c4 at h;dsimp only at h;split at h;exact⟨_,Q122.l4_eq .. ▸h⟩;cases h
theorem Q122.k1 (N:Nat):uB Tryz.prog Tryz.f127 (Q122.E N) (.loop Q122.b1):=zC (Q122.env N) bA 397 (c:=Q122.c1 N) (cA.of (l:=[(.loop (sA ((eA (bo Tryz.f127)).getD 1 .skip)))]) (by kernel_rfl) (cA.cons (Q122.k4 N) cA.nil)) fun R vs H k r h=>by unfold Q122.c1 at h;dsimp only at h;split at h;exact⟨_,Q122.l1_eq .. ▸h⟩;cases h
theorem Q122.spec (N:Nat)(a1 a2:Int)(a3 r:List Int)(h:Q122.f N a1 a2 a3=some r):fA Tryz.prog 127 [.sw 0 4,.c (.int .i64 a1),.c (.int .i64 a2),.fn 67 [] []] [.ints .i64 a3] (.tup []) ([.ints .i64 r]):=vA (Q122.env N) bA Tryz.func127 (cA.of (l:=[(.loop (sA ((eA (bo Tryz.f127)).getD 0 .skip))),(.loop (sA ((eA (bo Tryz.f127)).getD 1 .skip)))]) (by kernel_rfl) (cA.cons (Q122.k1 N) (cA.cons (Q122.k4 N) cA.nil))) ((Q122.f_eq ..).trans h) fun v b e=>by unfold Q122.dec at e;split at e<;>cases e;exact⟨rfl,rfl⟩
theorem Q122.ent_ok (N:Nat):uA Tryz.prog 127 (Q122.ent N):=by
 intro args bs a enc h;simp only[Q122.ent]at h;split at h
 ·rename_i hz;have h0:=Option.some.inj h;have h1:=congrArg Prod.fst h0;have h2:=congrArg Prod.snd h0;dsimp only at h1 h2;subst h2;exact fA.of_asSl (fl:=[false,false,false,false]) (by rw[hz];exact Q122.spec N _ _ _ a h1)
 ·cases h
noncomputable def Q123.l3 {R:Type}(g:Int→Int→Int→List Int→Option (List Int))(N:Nat):Nat→Int→Int→Int→List Int→(Int→Int→List Int→Option R)→Option R
 |0,_,_,_,_,_=>none
 |n+1,x5,x6,x7,x8,k0=>
  bif decide (x6<x7)then
   bif (decide (0≤(aA (Int.fdiv (gA (aA (x6+x7))) (2^1)))))&&(decide ((aA (Int.fdiv (gA (aA (x6+x7))) (2^1)))<(x8.length/4:Int)))then
    bif (decide (0≤x5))&&(decide (x5<(x8.length/4:Int)))then
     (Q119.f N (x8.getD (((aA (Int.fdiv (gA (aA (x6+x7))) (2^1))).toNat)*4) 0) (x8.getD ((((aA (Int.fdiv (gA (aA (x6+x7))) (2^1))).toNat)*4)+1) 0) (x8.getD ((((aA (Int.fdiv (gA (aA (x6+x7))) (2^1))).toNat)*4)+2) 0) (x8.getD ((((aA (Int.fdiv (gA (aA (x6+x7))) (2^1))).toNat)*4)+3) 0) (x8.getD (x5.toNat*4) 0) (x8.getD ((x5.toNat*4)+1) 0) (x8.getD ((x5.toNat*4)+2) 0) (x8.getD ((x5.toNat*4)+3) 0)).bind fun r9=>
     bif decide (r9<0)then
      Q123.l3 g N n x5 (aA ((aA (Int.fdiv (gA (aA (x6+x7))) (2^1)))+1)) x7 x8 k0
     else
     Q123.l3 g N n x5 x6 (aA (Int.fdiv (gA (aA (x6+x7))) (2^1))) x8 k0
    else none
   else none
  else
  k0 x5 x6 x8
noncomputable def Q123.l9 {R:Type}(g:Int→Int→Int→List Int→Option (List Int))(N:Nat):Nat→Int→Int→List Int→(List Int→Option R)→Option R
 |0,_,_,_,_=>none
 |n+1,x16,x17,x18,k2=>
  bif decide (x17<(aA (x16-1)))then
   bif (decide (0≤(aA (x17+1))))&&(decide ((aA (x17+1))<(x18.length/4:Int)))then
    bif (decide (0≤x17))&&(decide (x17<(x18.length/4:Int)))then
     bif (decide (0≤x17))&&(decide (x17<(x18.length/4:Int)))then
      bif (decide (0≤(aA (x17+1))))&&(decide ((aA (x17+1))<((((((x18.set (x17.toNat*4) (x18.getD (((aA (x17+1)).toNat)*4) 0)).set ((x17.toNat*4)+1) (x18.getD ((((aA (x17+1)).toNat)*4)+1) 0)).set ((x17.toNat*4)+2) (x18.getD ((((aA (x17+1)).toNat)*4)+2) 0)).set ((x17.toNat*4)+3) (x18.getD ((((aA (x17+1)).toNat)*4)+3) 0)).length)/4:Int)))then
       Q123.l9 g N n x16 (aA (x17+1)) ((((((((x18.set (x17.toNat*4) (x18.getD (((aA (x17+1)).toNat)*4) 0)).set ((x17.toNat*4)+1) (x18.getD ((((aA (x17+1)).toNat)*4)+1) 0)).set ((x17.toNat*4)+2) (x18.getD ((((aA (x17+1)).toNat)*4)+2) 0)).set ((x17.toNat*4)+3) (x18.getD ((((aA (x17+1)).toNat)*4)+3) 0)).set (((aA (x17+1)).toNat)*4) (x18.getD (x17.toNat*4) 0)).set ((((aA (x17+1)).toNat)*4)+1) (x18.getD ((x17.toNat*4)+1) 0)).set ((((aA (x17+1)).toNat)*4)+2) (x18.getD ((x17.toNat*4)+2) 0)).set ((((aA (x17+1)).toNat)*4)+3) (x18.getD ((x17.toNat*4)+3) 0)) k2
      else none
     else none
    else none
   else none
  else
  k2 x18
noncomputable def Q123.l15 {R:Type}(g:Int→Int→Int→List Int→Option (List Int))(N:Nat):Nat→Int→Int→Int→List Int→(Int→Int→List Int→Option R)→Option R
 |0,_,_,_,_,_=>none
 |n+1,x22,x23,x24,x25,k4=>
  bif decide (x23<x24)then
   bif (decide (0≤x22))&&(decide (x22<(x25.length/4:Int)))then
    bif (decide (0≤(aA (Int.fdiv (gA (aA (x23+x24))) (2^1)))))&&(decide ((aA (Int.fdiv (gA (aA (x23+x24))) (2^1)))<(x25.length/4:Int)))then
     (Q119.f N (x25.getD (x22.toNat*4) 0) (x25.getD ((x22.toNat*4)+1) 0) (x25.getD ((x22.toNat*4)+2) 0) (x25.getD ((x22.toNat*4)+3) 0) (x25.getD (((aA (Int.fdiv (gA (aA (x23+x24))) (2^1))).toNat)*4) 0) (x25.getD ((((aA (Int.fdiv (gA (aA (x23+x24))) (2^1))).toNat)*4)+1) 0) (x25.getD ((((aA (Int.fdiv (gA (aA (x23+x24))) (2^1))).toNat)*4)+2) 0) (x25.getD ((((aA (Int.fdiv (gA (aA (x23+x24))) (2^1))).toNat)*4)+3) 0)).bind fun r26=>
     bif !(decide (r26<0))then
      Q123.l15 g N n x22 (aA ((aA (Int.fdiv (gA (aA (x23+x24))) (2^1)))+1)) x24 x25 k4
     else
     Q123.l15 g N n x22 x23 (aA (Int.fdiv (gA (aA (x23+x24))) (2^1))) x25 k4
    else none
   else none
  else
  k4 x22 x23 x25
noncomputable def Q123.l21 {R:Type}(g:Int→Int→Int→List Int→Option (List Int))(N:Nat):Nat→Int→Int→List Int→(List Int→Option R)→Option R
 |0,_,_,_,_=>none
 |n+1,x33,x34,x35,k6=>
  bif decide (x34>x33)then
   bif (decide (0≤(aA (x34-1))))&&(decide ((aA (x34-1))<(x35.length/4:Int)))then
    bif (decide (0≤x34))&&(decide (x34<(x35.length/4:Int)))then
     bif (decide (0≤x34))&&(decide (x34<(x35.length/4:Int)))then
      bif (decide (0≤(aA (x34-1))))&&(decide ((aA (x34-1))<(((((((x35.set (x34.toNat*4) (x35.getD (((aA (x34-1)).toNat)*4) 0)).set ((x34.toNat*4)+1) (x35.getD ((((aA (x34-1)).toNat)*4)+1) 0)).set ((x34.toNat*4)+2) (x35.getD ((((aA (x34-1)).toNat)*4)+2) 0)).set ((x34.toNat*4)+3) (x35.getD ((((aA (x34-1)).toNat)*4)+3) 0)).length)/4:Nat):Int)))then
       Q123.l21 g N n x33 (aA (x34-1)) ((((((((x35.set (x34.toNat*4) (x35.getD (((aA (x34-1)).toNat)*4) 0)).set ((x34.toNat*4)+1) (x35.getD ((((aA (x34-1)).toNat)*4)+1) 0)).set ((x34.toNat*4)+2) (x35.getD ((((aA (x34-1)).toNat)*4)+2) 0)).set ((x34.toNat*4)+3) (x35.getD ((((aA (x34-1)).toNat)*4)+3) 0)).set (((aA (x34-1)).toNat)*4) (x35.getD (x34.toNat*4) 0)).set ((((aA (x34-1)).toNat)*4)+1) (x35.getD ((x34.toNat*4)+1) 0)).set ((((aA (x34-1)).toNat)*4)+2) (x35.getD ((x34.toNat*4)+2) 0)).set ((((aA (x34-1)).toNat)*4)+3) (x35.getD ((x34.toNat*4)+3) 0)) k6
      else none
     else none
    else none
   else none
  else
  k6 x35
noncomputable def Q123.l33 {R:Type}(g:Int→Int→Int→List Int→Option (List Int))(N:Nat):Nat→Int→Int→Int→Int→Int→Int→Int→Int→List Int→(Int→Int→Int→Int→Int→Int→List Int→Option R)→Option R
 |0,_,_,_,_,_,_,_,_,_,_=>none
 |n+1,x39,x40,x41,x42,x43,x44,x45,x46,x47,k8=>
  bif decide (x44<x45)then
   bif (decide (0≤(aA (x46- (aA (Int.fdiv (gA (aA (x44+x45))) (2^1)))))))&&(decide ((aA (x46- (aA (Int.fdiv (gA (aA (x44+x45))) (2^1)))))<(x47.length/4:Int)))then
    bif (decide (0≤(aA (Int.fdiv (gA (aA (x44+x45))) (2^1)))))&&(decide ((aA (Int.fdiv (gA (aA (x44+x45))) (2^1)))<(x47.length/4:Int)))then
     (Q119.f N (x47.getD (((aA (x46- (aA (Int.fdiv (gA (aA (x44+x45))) (2^1))))).toNat)*4) 0) (x47.getD ((((aA (x46- (aA (Int.fdiv (gA (aA (x44+x45))) (2^1))))).toNat)*4)+1) 0) (x47.getD ((((aA (x46- (aA (Int.fdiv (gA (aA (x44+x45))) (2^1))))).toNat)*4)+2) 0) (x47.getD ((((aA (x46- (aA (Int.fdiv (gA (aA (x44+x45))) (2^1))))).toNat)*4)+3) 0) (x47.getD (((aA (Int.fdiv (gA (aA (x44+x45))) (2^1))).toNat)*4) 0) (x47.getD ((((aA (Int.fdiv (gA (aA (x44+x45))) (2^1))).toNat)*4)+1) 0) (x47.getD ((((aA (Int.fdiv (gA (aA (x44+x45))) (2^1))).toNat)*4)+2) 0) (x47.getD ((((aA (Int.fdiv (gA (aA (x44+x45))) (2^1))).toNat)*4)+3) 0)).bind fun r48=>
     bif !(decide (r48<0))then
      Q123.l33 g N n x39 x40 x41 x42 x43 (aA ((aA (Int.fdiv (gA (aA (x44+x45))) (2^1)))+1)) x45 x46 x47 k8
     else
     Q123.l33 g N n x39 x40 x41 x42 x43 x44 (aA (Int.fdiv (gA (aA (x44+x45))) (2^1))) x46 x47 k8
    else none
   else none
  else
  k8 x39 x40 x41 x42 x43 x44 x47
noncomputable def Q123.step (g:Int→Int→Int→List Int→Option (List Int))(N:Nat)(a1 a2 a3:Int)(a4:List Int):Option (List Int):=
 bif (aA (a2-a1))==1 then
  Q123.l3 g N N a1 a2 a3 a4
   (fun y13 y14 y15=>
    Q123.l9 g N N y14 y13 y15
     (fun y20=>
      some y20))
 else
 bif (aA (a3-a2))==1 then
  Q123.l15 g N N a2 a1 a2 a4
   (fun y30 y31 y32=>
    Q123.l21 g N N y31 y30 y32
     (fun y37=>
      some y37))
 else
 bif decide (a2>(aA (Int.fdiv (gA (aA (a1+a3))) (2^1))))then
  Q123.l33 g N N a1 a2 a3 (aA (Int.fdiv (gA (aA (a1+a3))) (2^1))) (aA ((aA (Int.fdiv (gA (aA (a1+a3))) (2^1)))+a2)) (aA ((aA ((aA (Int.fdiv (gA (aA (a1+a3))) (2^1)))+a2))-a3)) (aA (Int.fdiv (gA (aA (a1+a3))) (2^1))) (aA ((aA ((aA (Int.fdiv (gA (aA (a1+a3))) (2^1)))+a2))-1)) a4
   (fun y56 y57 y58 y59 y60 y61 y62=>
    bif decide (y61<y57)then
     bif decide (y57<(aA (y60-y61)))then
      (Q121.f N y61 y57 (aA (y60-y61)) y62).bind fun r63=>
      bif decide (y56<y61)then
       bif decide (y61<y59)then
        (g y56 y61 y59 r63).bind fun r64=>
        bif decide (y59<(aA (y60-y61)))then
         bif decide ((aA (y60-y61))<y58)then
          (g y59 (aA (y60-y61)) y58 r64).bind fun r65=>
          some r65
         else
         some r64
        else
        some r64
       else
       bif decide (y59<(aA (y60-y61)))then
        bif decide ((aA (y60-y61))<y58)then
         (g y59 (aA (y60-y61)) y58 r63).bind fun r69=>
         some r69
        else
        some r63
       else
       some r63
      else
      bif decide (y59<(aA (y60-y61)))then
       bif decide ((aA (y60-y61))<y58)then
        (g y59 (aA (y60-y61)) y58 r63).bind fun r73=>
        some r73
       else
       some r63
      else
      some r63
     else
     bif decide (y56<y61)then
      bif decide (y61<y59)then
       (g y56 y61 y59 y62).bind fun r77=>
       bif decide (y59<(aA (y60-y61)))then
        bif decide ((aA (y60-y61))<y58)then
         (g y59 (aA (y60-y61)) y58 r77).bind fun r78=>
         some r78
        else
        some r77
       else
       some r77
      else
      bif decide (y59<(aA (y60-y61)))then
       bif decide ((aA (y60-y61))<y58)then
        (g y59 (aA (y60-y61)) y58 y62).bind fun r82=>
        some r82
       else
       some y62
      else
      some y62
     else
     bif decide (y59<(aA (y60-y61)))then
      bif decide ((aA (y60-y61))<y58)then
       (g y59 (aA (y60-y61)) y58 y62).bind fun r86=>
       some r86
      else
      some y62
     else
     some y62
    else
    bif decide (y56<y61)then
     bif decide (y61<y59)then
      (g y56 y61 y59 y62).bind fun r90=>
      bif decide (y59<(aA (y60-y61)))then
       bif decide ((aA (y60-y61))<y58)then
        (g y59 (aA (y60-y61)) y58 r90).bind fun r91=>
        some r91
       else
       some r90
      else
      some r90
     else
     bif decide (y59<(aA (y60-y61)))then
      bif decide ((aA (y60-y61))<y58)then
       (g y59 (aA (y60-y61)) y58 y62).bind fun r95=>
       some r95
      else
      some y62
     else
     some y62
    else
    bif decide (y59<(aA (y60-y61)))then
     bif decide ((aA (y60-y61))<y58)then
      (g y59 (aA (y60-y61)) y58 y62).bind fun r99=>
      some r99
     else
     some y62
    else
    some y62)
 else
 Q123.l33 g N N a1 a2 a3 (aA (Int.fdiv (gA (aA (a1+a3))) (2^1))) (aA ((aA (Int.fdiv (gA (aA (a1+a3))) (2^1)))+a2)) a1 a2 (aA ((aA ((aA (Int.fdiv (gA (aA (a1+a3))) (2^1)))+a2))-1)) a4
  (fun y103 y104 y105 y106 y107 y108 y109=>
   bif decide (y108<y104)then
    bif decide (y104<(aA (y107-y108)))then
     (Q121.f N y108 y104 (aA (y107-y108)) y109).bind fun r110=>
     bif decide (y103<y108)then
      bif decide (y108<y106)then
       (g y103 y108 y106 r110).bind fun r111=>
       bif decide (y106<(aA (y107-y108)))then
        bif decide ((aA (y107-y108))<y105)then
         (g y106 (aA (y107-y108)) y105 r111).bind fun r112=>
         some r112
        else
        some r111
       else
       some r111
      else
      bif decide (y106<(aA (y107-y108)))then
       bif decide ((aA (y107-y108))<y105)then
        (g y106 (aA (y107-y108)) y105 r110).bind fun r116=>
        some r116
       else
       some r110
      else
      some r110
     else
     bif decide (y106<(aA (y107-y108)))then
      bif decide ((aA (y107-y108))<y105)then
       (g y106 (aA (y107-y108)) y105 r110).bind fun r120=>
       some r120
      else
      some r110
     else
     some r110
    else
    bif decide (y103<y108)then
     bif decide (y108<y106)then
      (g y103 y108 y106 y109).bind fun r124=>
      bif decide (y106<(aA (y107-y108)))then
       bif decide ((aA (y107-y108))<y105)then
        (g y106 (aA (y107-y108)) y105 r124).bind fun r125=>
        some r125
       else
       some r124
      else
      some r124
     else
     bif decide (y106<(aA (y107-y108)))then
      bif decide ((aA (y107-y108))<y105)then
       (g y106 (aA (y107-y108)) y105 y109).bind fun r129=>
       some r129
      else
      some y109
     else
     some y109
    else
    bif decide (y106<(aA (y107-y108)))then
     bif decide ((aA (y107-y108))<y105)then
      (g y106 (aA (y107-y108)) y105 y109).bind fun r133=>
      some r133
     else
     some y109
    else
    some y109
   else
   bif decide (y103<y108)then
    bif decide (y108<y106)then
     (g y103 y108 y106 y109).bind fun r137=>
     bif decide (y106<(aA (y107-y108)))then
      bif decide ((aA (y107-y108))<y105)then
       (g y106 (aA (y107-y108)) y105 r137).bind fun r138=>
       some r138
      else
      some r137
     else
     some r137
    else
    bif decide (y106<(aA (y107-y108)))then
     bif decide ((aA (y107-y108))<y105)then
      (g y106 (aA (y107-y108)) y105 y109).bind fun r142=>
      some r142
     else
     some y109
    else
    some y109
   else
   bif decide (y106<(aA (y107-y108)))then
    bif decide ((aA (y107-y108))<y105)then
     (g y106 (aA (y107-y108)) y105 y109).bind fun r146=>
     some r146
    else
    some y109
   else
   some y109)
noncomputable def Q123.ty:List (Nat×TI):=[(3,Ci),(53,ge),(57,gf),(79,G5)]
noncomputable def Q123.h3:yC:=⟨[(0,.row .i64 4),(1,.any),(4,.any),(10,.any),(11,.any)],[(0,.row .i64 4),(1,.any),(10,.any)]⟩
noncomputable def Q123.h9:yC:=⟨[(0,.row .i64 4),(10,.any),(13,.any)],[]⟩
noncomputable def Q123.h15:yC:=⟨[(0,.row .i64 4),(2,.any),(4,.any),(14,.any),(15,.any)],[(0,.row .i64 4),(2,.any),(14,.any)]⟩
noncomputable def Q123.h21:yC:=⟨[(0,.row .i64 4),(14,.any),(17,.any)],[]⟩
noncomputable def Q123.h33:yC:=⟨[(0,.row .i64 4),(1,.any),(2,.any),(3,.any),(4,.any),(18,.any),(19,.any),(20,.any),(21,.any),(22,.any)],[(0,.row .i64 4),(1,.any),(2,.any),(3,.any),(4,.any),(18,.any),(19,.any),(20,.any)]⟩
noncomputable def Q123.c3 (g:Int→Int→Int→List Int→Option (List Int))(N:Nat):uH:=⟨fun vs H k=>match vs,H with
 | [.sw 0 4,.c (.int .i64 x5),.fn 67 [] [],.c (.int .i64 x6),.c (.int .i64 x7)],[.ints .i64 x8]=>Q123.l3 g N N x5 x6 x7 x8 (fun x10 x11 x12=>k (.exit 0) ⟨xC Q123.h3.out [.sw 0 4,.c (.int .i64 x10),.c (.int .i64 x11)],[.ints .i64 x12]⟩)
 |_,_=>none⟩
noncomputable def Q123.c9 (g:Int→Int→Int→List Int→Option (List Int))(N:Nat):uH:=⟨fun vs H k=>match vs,H with
 | [.sw 0 4,.c (.int .i64 x16),.c (.int .i64 x17)],[.ints .i64 x18]=>Q123.l9 g N N x16 x17 x18 (fun x19=>k (.exit 2) ⟨xC Q123.h9.out [],[.ints .i64 x19]⟩)
 |_,_=>none⟩
noncomputable def Q123.c15 (g:Int→Int→Int→List Int→Option (List Int))(N:Nat):uH:=⟨fun vs H k=>match vs,H with
 | [.sw 0 4,.c (.int .i64 x22),.fn 67 [] [],.c (.int .i64 x23),.c (.int .i64 x24)],[.ints .i64 x25]=>Q123.l15 g N N x22 x23 x24 x25 (fun x27 x28 x29=>k (.exit 4) ⟨xC Q123.h15.out [.sw 0 4,.c (.int .i64 x27),.c (.int .i64 x28)],[.ints .i64 x29]⟩)
 |_,_=>none⟩
noncomputable def Q123.c21 (g:Int→Int→Int→List Int→Option (List Int))(N:Nat):uH:=⟨fun vs H k=>match vs,H with
 | [.sw 0 4,.c (.int .i64 x33),.c (.int .i64 x34)],[.ints .i64 x35]=>Q123.l21 g N N x33 x34 x35 (fun x36=>k (.exit 6) ⟨xC Q123.h21.out [],[.ints .i64 x36]⟩)
 |_,_=>none⟩
noncomputable def Q123.c33 (g:Int→Int→Int→List Int→Option (List Int))(N:Nat):uH:=⟨fun vs H k=>match vs,H with
 | [.sw 0 4,.c (.int .i64 x39),.c (.int .i64 x40),.c (.int .i64 x41),.fn 67 [] [],.c (.int .i64 x42),.c (.int .i64 x43),.c (.int .i64 x44),.c (.int .i64 x45),.c (.int .i64 x46)],[.ints .i64 x47]=>Q123.l33 g N N x39 x40 x41 x42 x43 x44 x45 x46 x47 (fun x49 x50 x51 x52 x53 x54 x55=>k (.exit 8) ⟨xC Q123.h33.out [.sw 0 4,.c (.int .i64 x49),.c (.int .i64 x50),.c (.int .i64 x51),.fn 67 [] [],.c (.int .i64 x52),.c (.int .i64 x53),.c (.int .i64 x54)],[.ints .i64 x55]⟩)
 |_,_=>none⟩
noncomputable def Q123.entg (g:Int→Int→Int→List Int→Option (List Int)):xA:={A:=List Int,fresh:=0,imm:=[false,true,true,true,false],dec:=fun args bs=>match eG (nA bs) [false,false,false,false,false] args,bs with
 | [.sw 0 4,.c (.int .i64 a1),.c (.int .i64 a2),.c (.int .i64 a3),.fn 67 [] []],[.ints .i64 a4]=>some (g a1 a2 a3 a4,fun r=>.one (.tup []) [.ints .i64 r])
 |_,_=>none}
theorem Q123.entg_ok (g:Int→Int→Int→List Int→Option (List Int))(hg:∀(a1 a2 a3:Int) (a4 r:List Int),g a1 a2 a3 a4=some r→fA Tryz.prog 128 [.sw 0 4,.c (.int .i64 a1),.c (.int .i64 a2),.c (.int .i64 a3),.fn 67 [] []] [.ints .i64 a4] (.tup []) ([.ints .i64 r])):uA Tryz.prog 128 (Q123.entg g):=by
 intro args bs a enc h;simp only[Q123.entg]at h;split at h
 ·rename_i hz;have h0:=Option.some.inj h;have h1:=congrArg Prod.fst h0;have h2:=congrArg Prod.snd h0;dsimp only at h1 h2;subst h2;exact fA.of_asSl (fl:=[false,false,false,false,false]) (by rw[hz];exact hg _ _ _ _ a h1)
 ·cases h
noncomputable def Q123.E (g:Int→Int→Int→List Int→Option (List Int))(N:Nat):bD:={ty:=uI Q123.ty,tab:=uI [(67,Q119.ent N),(155,Q121.ent N),(128,Q123.entg g)],hint:=uI [(3,Q123.h3),(9,Q123.h9),(15,Q123.h15),(21,Q123.h21),(33,Q123.h33)],cut:=uI [(3,Q123.c3 g N),(9,Q123.c9 g N),(15,Q123.c15 g N),(21,Q123.c21 g N),(33,Q123.c33 g N)],N:=N,res:=[],rsh:=[],nb:=1,ntmps:=220,own:=false}
noncomputable def Q123.b3:Code:=sA ((eA (bo Tryz.f128)).getD 0 .skip)
theorem Q123.l3_eq {R:Type}(g:Int→Int→Int→List Int→Option (List Int))(N n:Nat)(x5 x6 x7:Int)(x8:List Int)(k:Ex→St→Option R):
  gB 1 Q123.h3 (fun s k=>bB (Q123.E g N) 392 Q123.b3 s k) n [.sw 0 4,.c (.int .i64 x5),.fn 67 [] [],.c (.int .i64 x6),.c (.int .i64 x7)] [.ints .i64 x8] k=Q123.l3 g N n x5 x6 x7 x8 (fun x10 x11 x12=>k (.exit 0) ⟨xC Q123.h3.out [.sw 0 4,.c (.int .i64 x10),.c (.int .i64 x11)],[.ints .i64 x12]⟩):=by
 induction n generalizing x5 x6 x7 x8 with
 |zero=>kernel_rfl
 |succ n ih=>
  simp only[Q123.l3,←ih]
  kernel_rfl
noncomputable def Q123.b9:Code:=sA ((eA (bo Tryz.f128)).getD 1 .skip)
theorem Q123.l9_eq {R:Type}(g:Int→Int→Int→List Int→Option (List Int))(N n:Nat)(x16 x17:Int)(x18:List Int)(k:Ex→St→Option R):
  gB 1 Q123.h9 (fun s k=>bB (Q123.E g N) 390 Q123.b9 s k) n [.sw 0 4,.c (.int .i64 x16),.c (.int .i64 x17)] [.ints .i64 x18] k=Q123.l9 g N n x16 x17 x18 (fun x19=>k (.exit 2) ⟨xC Q123.h9.out [],[.ints .i64 x19]⟩):=by
 induction n generalizing x16 x17 x18 with
 |zero=>kernel_rfl
 |succ n ih=>
  simp only[Q123.l9,←ih]
  kernel_rfl
noncomputable def Q123.b15:Code:=sA ((eA (bo Tryz.f128)).getD 2 .skip)
theorem Q123.l15_eq {R:Type}(g:Int→Int→Int→List Int→Option (List Int))(N n:Nat)(x22 x23 x24:Int)(x25:List Int)(k:Ex→St→Option R):
  gB 1 Q123.h15 (fun s k=>bB (Q123.E g N) 391 Q123.b15 s k) n [.sw 0 4,.c (.int .i64 x22),.fn 67 [] [],.c (.int .i64 x23),.c (.int .i64 x24)] [.ints .i64 x25] k=Q123.l15 g N n x22 x23 x24 x25 (fun x27 x28 x29=>k (.exit 4) ⟨xC Q123.h15.out [.sw 0 4,.c (.int .i64 x27),.c (.int .i64 x28)],[.ints .i64 x29]⟩):=by
 induction n generalizing x22 x23 x24 x25 with
 |zero=>kernel_rfl
 |succ n ih=>
  simp only[Q123.l15,←ih]
  kernel_rfl
noncomputable def Q123.b21:Code:=sA ((eA (bo Tryz.f128)).getD 3 .skip)
theorem Q123.l21_eq {R:Type}(g:Int→Int→Int→List Int→Option (List Int))(N n:Nat)(x33 x34:Int)(x35:List Int)(k:Ex→St→Option R):
  gB 1 Q123.h21 (fun s k=>bB (Q123.E g N) 389 Q123.b21 s k) n [.sw 0 4,.c (.int .i64 x33),.c (.int .i64 x34)] [.ints .i64 x35] k=Q123.l21 g N n x33 x34 x35 (fun x36=>k (.exit 6) ⟨xC Q123.h21.out [],[.ints .i64 x36]⟩):=by
 induction n generalizing x33 x34 x35 with
 |zero=>kernel_rfl
 |succ n ih=>
  simp only[Q123.l21,←ih]
  kernel_rfl
noncomputable def Q123.b33:Code:=sA ((eA (bo Tryz.f128)).getD 4 .skip)
theorem Q123.l33_eq {R:Type}(g:Int→Int→Int→List Int→Option (List Int))(N n:Nat)(x39 x40:Int)(x41 x42:Int)(x43 x44:Int)(x45 x46:Int)(x47:List Int)(k:Ex→St→Option R):
  gB 1 Q123.h33 (fun s k=>bB (Q123.E g N) 390 Q123.b33 s k) n [.sw 0 4,.c (.int .i64 x39),.c (.int .i64 x40),.c (.int .i64 x41),.fn 67 [] [],.c (.int .i64 x42),.c (.int .i64 x43),.c (.int .i64 x44),.c (.int .i64 x45),.c (.int .i64 x46)] [.ints .i64 x47] k=Q123.l33 g N n x39 x40 x41 x42 x43 x44 x45 x46 x47 (fun x49 x50 x51 x52 x53 x54 x55=>k (.exit 8) ⟨xC Q123.h33.out [.sw 0 4,.c (.int .i64 x49),.c (.int .i64 x50),.c (.int .i64 x51),.fn 67 [] [],.c (.int .i64 x52),.c (.int .i64 x53),.c (.int .i64 x54)],[.ints .i64 x55]⟩):=by
 induction n generalizing x39 x40 x41 x42 x43 x44 x45 x46 x47 with
 |zero=>kernel_rfl
 |succ n ih=>
  simp only[Q123.l33,←ih]
  kernel_rfl
noncomputable def Q123.dec (v:V)(bs:List rA):Option (List Int):=match v,bs with
 | .tup [],[.ints .i64 z0]=>some z0
 |_,_=>none
theorem Q123.f_eq (g:Int→Int→Int→List Int→Option (List Int))(N:Nat)(a1 a2 a3:Int)(a4:List Int):
  cB (Q123.E g N) (bo Tryz.f128) [.sw 0 4,.c (.int .i64 a1),.c (.int .i64 a2),.c (.int .i64 a3),.fn 67 [] []] [.ints .i64 a4] Q123.dec=Q123.step g N a1 a2 a3 a4:=by kernel_rfl
theorem Q123.env (g:Int→Int→Int→List Int→Option (List Int))(hg:∀(a1 a2 a3:Int) (a4 r:List Int),g a1 a2 a3 a4=some r→fA Tryz.prog 128 [.sw 0 4,.c (.int .i64 a1),.c (.int .i64 a2),.c (.int .i64 a3),.fn 67 [] []] [.ints .i64 a4] (.tup []) ([.ints .i64 r]))(N:Nat):aB Tryz.prog (Q123.E g N):=⟨(rE.cons sL (rE.cons gL (rE.cons iL (rE.cons ur rE.nil)))),(nO.cons (Q119.ent_ok N) (nO.cons (Q121.ent_ok N) (nO.cons (Q123.entg_ok g hg) nO.nil)))⟩
theorem Q123.res_eq (g:Int→Int→Int→List Int→Option (List Int))(N:Nat):(Q123.E g N).res=Tryz.f128.results.toList:=by kernel_rfl
theorem Q123.k33 (g:Int→Int→Int→List Int→Option (List Int))(hg:∀(a1 a2 a3:Int) (a4 r:List Int),g a1 a2 a3 a4=some r→fA Tryz.prog 128 [.sw 0 4,.c (.int .i64 a1),.c (.int .i64 a2),.c (.int .i64 a3),.fn 67 [] []] [.ints .i64 a4] (.tup []) ([.ints .i64 r]))(N:Nat):uB Tryz.prog Tryz.f128 (Q123.E g N) (.loop Q123.b33):=by
 intro e hd he hh R vs H k r h;have e1:(Q123.E g N).cut (kD Q123.b33)=some (Q123.c33 g N):=by kernel_rfl
 have e2:(Q123.E g N).hint (kD Q123.b33)=some Q123.h33:=by kernel_rfl
 rw[e1]at he;rw[e2]at hh;cases he;cases hh;unfold Q123.c33 at h;dsimp only at h;split at h
 ·rw[←Q123.l33_eq]at h;exact kN (xG (Q123.env g hg N) bA (Q123.res_eq g N) 390 Q123.b33 cA.n) h
 ·cases h
theorem Q123.k21 (g:Int→Int→Int→List Int→Option (List Int))(hg:∀(a1 a2 a3:Int) (a4 r:List Int),g a1 a2 a3 a4=some r→fA Tryz.prog 128 [.sw 0 4,.c (.int .i64 a1),.c (.int .i64 a2),.c (.int .i64 a3),.fn 67 [] []] [.ints .i64 a4] (.tup []) ([.ints .i64 r]))(N:Nat):uB Tryz.prog Tryz.f128 (Q123.E g N) (.loop Q123.b21):=by
 intro e hd he hh R vs H k r h;have e1:(Q123.E g N).cut (kD Q123.b21)=some (Q123.c21 g N):=by kernel_rfl
 have e2:(Q123.E g N).hint (kD Q123.b21)=some Q123.h21:=by kernel_rfl
 rw[e1]at he;rw[e2]at hh;cases he;cases hh;unfold Q123.c21 at h;dsimp only at h;split at h
 ·rw[←Q123.l21_eq]at h;exact kN (xG (Q123.env g hg N) bA (Q123.res_eq g N) 389 Q123.b21 cA.n) h
 ·cases h
theorem Q123.k15 (g:Int→Int→Int→List Int→Option (List Int))(hg:∀(a1 a2 a3:Int) (a4 r:List Int),g a1 a2 a3 a4=some r→fA Tryz.prog 128 [.sw 0 4,.c (.int .i64 a1),.c (.int .i64 a2),.c (.int .i64 a3),.fn 67 [] []] [.ints .i64 a4] (.tup []) ([.ints .i64 r]))(N:Nat):uB Tryz.prog Tryz.f128 (Q123.E g N) (.loop Q123.b15):=by
 intro e hd he hh R vs H k r h;have e1:(Q123.E g N).cut (kD Q123.b15)=some (Q123.c15 g N):=by kernel_rfl
 have e2:(Q123.E g N).hint (kD Q123.b15)=some Q123.h15:=by kernel_rfl
 rw[e1]at he;rw[e2]at hh;cases he;cases hh;unfold Q123.c15 at h;dsimp only at h;split at h
 ·rw[←Q123.l15_eq]at h;exact kN (xG (Q123.env g hg N) bA (Q123.res_eq g N) 391 Q123.b15 cA.n) h
 ·cases h
theorem Q123.k9 (g:Int→Int→Int→List Int→Option (List Int))(hg:∀(a1 a2 a3:Int) (a4 r:List Int),g a1 a2 a3 a4=some r→fA Tryz.prog 128 [.sw 0 4,.c (.int .i64 a1),.c (.int .i64 a2),.c (.int .i64 a3),.fn 67 [] []] [.ints .i64 a4] (.tup []) ([.ints .i64 r]))(N:Nat):uB Tryz.prog Tryz.f128 (Q123.E g N) (.loop Q123.b9):=by
 intro e hd he hh R vs H k r h;have e1:(Q123.E g N).cut (kD Q123.b9)=some (Q123.c9 g N):=by kernel_rfl
 have e2:(Q123.E g N).hint (kD Q123.b9)=some Q123.h9:=by kernel_rfl
 rw[e1]at he;rw[e2]at hh;cases he;cases hh;unfold Q123.c9 at h;dsimp only at h;split at h
 ·rw[←Q123.l9_eq]at h;exact kN (xG (Q123.env g hg N) bA (Q123.res_eq g N) 390 Q123.b9 cA.n) h
 ·cases h
theorem Q123.k3 (g:Int→Int→Int→List Int→Option (List Int))(hg:∀(a1 a2 a3:Int) (a4 r:List Int),g a1 a2 a3 a4=some r→fA Tryz.prog 128 [.sw 0 4,.c (.int .i64 a1),.c (.int .i64 a2),.c (.int .i64 a3),.fn 67 [] []] [.ints .i64 a4] (.tup []) ([.ints .i64 r]))(N:Nat):uB Tryz.prog Tryz.f128 (Q123.E g N) (.loop Q123.b3):=by
 intro e hd he hh R vs H k r h;have e1:(Q123.E g N).cut (kD Q123.b3)=some (Q123.c3 g N):=by kernel_rfl
 have e2:(Q123.E g N).hint (kD Q123.b3)=some Q123.h3:=by kernel_rfl
 rw[e1]at he;rw[e2]at hh;cases he;cases hh;unfold Q123.c3 at h;dsimp only at h;split at h
 ·rw[←Q123.l3_eq]at h;exact kN (xG (Q123.env g hg N) bA (Q123.res_eq g N) 392 Q123.b3 cA.n) h
 ·cases h
theorem Q123.spec1 (g:Int→Int→Int→List Int→Option (List Int))(hg:∀(a1 a2 a3:Int) (a4 r:List Int),g a1 a2 a3 a4=some r→fA Tryz.prog 128 [.sw 0 4,.c (.int .i64 a1),.c (.int .i64 a2),.c (.int .i64 a3),.fn 67 [] []] [.ints .i64 a4] (.tup []) ([.ints .i64 r]))(N:Nat)(a1 a2 a3:Int)(a4 r:List Int)(h:Q123.step g N a1 a2 a3 a4=some r):fA Tryz.prog 128 [.sw 0 4,.c (.int .i64 a1),.c (.int .i64 a2),.c (.int .i64 a3),.fn 67 [] []] [.ints .i64 a4] (.tup []) ([.ints .i64 r]):=by
 rw[←Q123.f_eq]at h;refine(rX (Q123.env g hg N) bA Tryz.func128 (by kernel_rfl:Tryz.f128.body=some (bo Tryz.f128)) (by kernel_rfl) (Q123.res_eq g N) (by kernel_rfl) (by kernel_rfl) (hA (by kernel_rfl)) (cA.of (l:=[(.loop (sA ((eA (bo Tryz.f128)).getD 0 .skip))),(.loop (sA ((eA (bo Tryz.f128)).getD 1 .skip))),(.loop (sA ((eA (bo Tryz.f128)).getD 2 .skip))),(.loop (sA ((eA (bo Tryz.f128)).getD 3 .skip))),(.loop (sA ((eA (bo Tryz.f128)).getD 4 .skip)))]) (by kernel_rfl) (cA.cons (Q123.k3 g hg N) (cA.cons (Q123.k9 g hg N) (cA.cons (Q123.k15 g hg N) (cA.cons (Q123.k21 g hg N) (cA.cons (Q123.k33 g hg N) cA.nil)))))) h).of fun v bs' h1=>?_;unfold Q123.dec at h1;split at h1
 ·cases h1;exact⟨rfl,rfl⟩
 ·cases h1
noncomputable def Q123.g (N:Nat):Nat→Int→Int→Int→List Int→Option (List Int)
 |0,_,_,_,_=>none
 |n+1,a1,a2,a3,a4=>Q123.step (Q123.g N n) N a1 a2 a3 a4
noncomputable def Q123.f (N:Nat)(a1 a2 a3:Int)(a4:List Int):Option (List Int):=Q123.g N N a1 a2 a3 a4
theorem Q123.gspec (N:Nat):∀(n:Nat) (a1 a2 a3:Int) (a4 r:List Int) (h:Q123.g N n a1 a2 a3 a4=some r),fA Tryz.prog 128 [.sw 0 4,.c (.int .i64 a1),.c (.int .i64 a2),.c (.int .i64 a3),.fn 67 [] []] [.ints .i64 a4] (.tup []) ([.ints .i64 r])
 |0,_,_,_,_,_,h=>by cases h
 |n+1,a1,a2,a3,a4,r,h=>Q123.spec1 (Q123.g N n) (Q123.gspec N n) N a1 a2 a3 a4 r h
theorem Q123.spec (N:Nat)(a1 a2 a3:Int)(a4 r:List Int)(h:Q123.f N a1 a2 a3 a4=some r):fA Tryz.prog 128 [.sw 0 4,.c (.int .i64 a1),.c (.int .i64 a2),.c (.int .i64 a3),.fn 67 [] []] [.ints .i64 a4] (.tup []) ([.ints .i64 r]):=Q123.gspec N N a1 a2 a3 a4 r h
noncomputable def Q123.ent (N:Nat):xA:={A:=List Int,fresh:=0,imm:=[false,true,true,true,false],dec:=fun args bs=>match eG (nA bs) [false,false,false,false,false] args,bs with
 | [.sw 0 4,.c (.int .i64 a1),.c (.int .i64 a2),.c (.int .i64 a3),.fn 67 [] []],[.ints .i64 a4]=>some (Q123.f N a1 a2 a3 a4,fun r=>.one (.tup []) [.ints .i64 r])
 |_,_=>none}
theorem Q123.ent_ok (N:Nat):uA Tryz.prog 128 (Q123.ent N):=by
 intro args bs a enc h;simp only[Q123.ent]at h;split at h
 ·rename_i hz;have h0:=Option.some.inj h;have h1:=congrArg Prod.fst h0;have h2:=congrArg Prod.snd h0;dsimp only at h1 h2;subst h2;exact fA.of_asSl (fl:=[false,false,false,false,false]) (by rw[hz];exact Q123.spec N _ _ _ _ a h1)
 ·cases h
noncomputable def Q124.l2 {R:Type}(N:Nat):Nat→Int→Int→Int→Int→List Int→(Int→Int→Int→List Int→Option R)→Option R
 |0,_,_,_,_,_,_=>none
 |n+1,x3,x4,x5,x6,x7,k0=>
  bif decide (x6≤x3)then
   (Q122.f N x5 x6 x7).bind fun r8=>
   Q124.l2 N n x3 x4 x6 (aA (x6+x4)) r8 k0
  else
  k0 x3 x4 x5 x7
noncomputable def Q124.l9 {R:Type}(N:Nat):Nat→Int→Int→Int→Int→List Int→(Int→Int→Int→List Int→Option R)→Option R
 |0,_,_,_,_,_,_=>none
 |n+1,x21,x22,x23,x24,x25,k4=>
  bif decide (x24≤x21)then
   (Q123.f N x23 (aA (x23+x22)) x24 x25).bind fun r26=>
   Q124.l9 N n x21 x22 x24 (aA (x24+(aA (2*x22)))) r26 k4
  else
  k4 x21 x22 x23 x25
noncomputable def Q124.l7 {R:Type}(N:Nat):Nat→Int→Int→List Int→(List Int→Option R)→Option R
 |0,_,_,_,_=>none
 |n+1,x18,x19,x20,k2=>
  bif decide (x19<x18)then
   Q124.l9 N N x18 x19 0 (aA (2*x19)) x20
    (fun y31 y32 y33 y34=>
     bif decide ((aA (y33+y32))<y31)then
      (Q123.f N y33 (aA (y33+y32)) y31 y34).bind fun r35=>
      Q124.l7 N n y31 (aA (y32*2)) r35 k2
     else
     Q124.l7 N n y31 (aA (y32*2)) y34 k2)
  else
  k2 x20
noncomputable def Q124.f (N:Nat)(a1:Int)(a2:List Int):Option (List Int):=
 Q124.l2 N N a1 20 0 20 a2
  (fun y13 y14 y15 y16=>
   (Q122.f N y15 y13 y16).bind fun r17=>
   Q124.l7 N N y13 y14 r17
    (fun y37=>
     some y37))
noncomputable def Q124.h2:yC:=⟨[(0,.row .i64 4),(1,.any),(2,.any),(6,.any),(7,.any),(8,.any)],[(0,.row .i64 4),(1,.any),(2,.any),(6,.any),(7,.any)]⟩
noncomputable def Q124.h7:yC:=⟨[(0,.row .i64 4),(1,.any),(2,.any),(6,.any)],[]⟩
noncomputable def Q124.h9:yC:=⟨[(0,.row .i64 4),(1,.any),(2,.any),(6,.any),(7,.any),(8,.any)],[(0,.row .i64 4),(1,.any),(2,.any),(6,.any),(7,.any)]⟩
noncomputable def Q124.c2 (N:Nat):uH:=⟨fun vs H k=>match vs,H with
 | [.sw 0 4,.c (.int .i64 x3),.fn 67 [] [],.c (.int .i64 x4),.c (.int .i64 x5),.c (.int .i64 x6)],[.ints .i64 x7]=>Q124.l2 N N x3 x4 x5 x6 x7 (fun x9 x10 x11 x12=>k (.exit 0) ⟨xC Q124.h2.out [.sw 0 4,.c (.int .i64 x9),.fn 67 [] [],.c (.int .i64 x10),.c (.int .i64 x11)],[.ints .i64 x12]⟩)
 |_,_=>none⟩
noncomputable def Q124.c9 (N:Nat):uH:=⟨fun vs H k=>match vs,H with
 | [.sw 0 4,.c (.int .i64 x21),.fn 67 [] [],.c (.int .i64 x22),.c (.int .i64 x23),.c (.int .i64 x24)],[.ints .i64 x25]=>Q124.l9 N N x21 x22 x23 x24 x25 (fun x27 x28 x29 x30=>k (.exit 4) ⟨xC Q124.h9.out [.sw 0 4,.c (.int .i64 x27),.fn 67 [] [],.c (.int .i64 x28),.c (.int .i64 x29)],[.ints .i64 x30]⟩)
 |_,_=>none⟩
noncomputable def Q124.c7 (N:Nat):uH:=⟨fun vs H k=>match vs,H with
 | [.sw 0 4,.c (.int .i64 x18),.fn 67 [] [],.c (.int .i64 x19)],[.ints .i64 x20]=>Q124.l7 N N x18 x19 x20 (fun x36=>k (.exit 2) ⟨xC Q124.h7.out [],[.ints .i64 x36]⟩)
 |_,_=>none⟩
noncomputable def Q124.E (N:Nat):bD:=xE [] [(127,Q122.ent N),(128,Q123.ent N)] [(2,Q124.h2),(7,Q124.h7),(9,Q124.h9)] [(2,Q124.c2 N),(9,Q124.c9 N),(7,Q124.c7 N)] N [] [] 1 63
noncomputable def Q124.b2:Code:=sA ((eA (bo Tryz.f88)).getD 0 .skip)
theorem Q124.l2_eq {R:Type}(N n:Nat)(x3 x4:Int)(x5 x6:Int)(x7:List Int)(k:Ex→St→Option R):
  gB 1 Q124.h2 (fun s k=>bB (Q124.E N) 395 Q124.b2 s k) n [.sw 0 4,.c (.int .i64 x3),.fn 67 [] [],.c (.int .i64 x4),.c (.int .i64 x5),.c (.int .i64 x6)] [.ints .i64 x7] k=Q124.l2 N n x3 x4 x5 x6 x7 (fun x9 x10 x11 x12=>k (.exit 0) ⟨xC Q124.h2.out [.sw 0 4,.c (.int .i64 x9),.fn 67 [] [],.c (.int .i64 x10),.c (.int .i64 x11)],[.ints .i64 x12]⟩):=by
 induction n generalizing x3 x4 x5 x6 x7 with
 |zero=>kernel_rfl
 |succ n ih=>
  simp only[Q124.l2,←ih]
  kernel_rfl
noncomputable def Q124.b9:Code:=sA ((eA (bo Tryz.f88)).getD 2 .skip)
theorem Q124.l9_eq {R:Type}(N n:Nat)(x21 x22:Int)(x23 x24:Int)(x25:List Int)(k:Ex→St→Option R):
  gB 1 Q124.h9 (fun s k=>bB (Q124.E N) 388 Q124.b9 s k) n [.sw 0 4,.c (.int .i64 x21),.fn 67 [] [],.c (.int .i64 x22),.c (.int .i64 x23),.c (.int .i64 x24)] [.ints .i64 x25] k=Q124.l9 N n x21 x22 x23 x24 x25 (fun x27 x28 x29 x30=>k (.exit 4) ⟨xC Q124.h9.out [.sw 0 4,.c (.int .i64 x27),.fn 67 [] [],.c (.int .i64 x28),.c (.int .i64 x29)],[.ints .i64 x30]⟩):=by
 induction n generalizing x21 x22 x23 x24 x25 with
 |zero=>kernel_rfl
 |succ n ih=>
  simp only[Q124.l9,←ih]
  kernel_rfl
noncomputable def Q124.b7:Code:=sA ((eA (bo Tryz.f88)).getD 1 .skip)
theorem Q124.l7_eq {R:Type}(N n:Nat)(x18 x19:Int)(x20:List Int)(k:Ex→St→Option R):
  gB 1 Q124.h7 (fun s k=>bB (Q124.E N) 394 Q124.b7 s k) n [.sw 0 4,.c (.int .i64 x18),.fn 67 [] [],.c (.int .i64 x19)] [.ints .i64 x20] k=Q124.l7 N n x18 x19 x20 (fun x36=>k (.exit 2) ⟨xC Q124.h7.out [],[.ints .i64 x36]⟩):=by
 induction n generalizing x18 x19 x20 with
 |zero=>kernel_rfl
 |succ n ih=>
  simp only[Q124.l7,←ih]
  kernel_rfl
noncomputable def Q124.dec (v:V)(bs:List rA):Option (List Int):=match v,bs with
 | .tup [],[.ints .i64 z0]=>some z0
 |_,_=>none
theorem Q124.f_eq (N:Nat)(a1:Int)(a2:List Int):
  cB (Q124.E N) (bo Tryz.f88) [.sw 0 4,.c (.int .i64 a1),.fn 67 [] []] [.ints .i64 a2] Q124.dec=Q124.f N a1 a2:=by kernel_rfl
noncomputable def Q124.ent (N:Nat):xA:={A:=List Int,fresh:=0,imm:=[false,true,false],dec:=fun args bs=>match eG (nA bs) [false,false,false] args,bs with
 | [.sw 0 4,.c (.int .i64 a1),.fn 67 [] []],[.ints .i64 a2]=>some (Q124.f N a1 a2,fun r=>.one (.tup []) [.ints .i64 r])
 |_,_=>none}
theorem Q124.env (N:Nat):aB Tryz.prog (Q124.E N):=⟨.nil,(.cons (Q122.ent_ok N) (.cons (Q123.ent_ok N) .nil))⟩
theorem Q124.k9 (N:Nat):uB Tryz.prog Tryz.f88 (Q124.E N) (.loop Q124.b9):=zC (Q124.env N) bA 388 (c:=Q124.c9 N) cA.n fun R vs H k r h=>by unfold Q124.c9 at h;dsimp only at h;split at h;exact⟨_,Q124.l9_eq .. ▸h⟩;cases h
theorem Q124.k7 (N:Nat):uB Tryz.prog Tryz.f88 (Q124.E N) (.loop Q124.b7):=zC (Q124.env N) bA 394 (c:=Q124.c7 N) (cA.of (l:=[(.loop (sA ((eA (bo Tryz.f88)).getD 2 .skip)))]) (by kernel_rfl) (cA.cons (Q124.k9 N) cA.nil)) fun R vs H k r h=>by unfold Q124.c7 at h;dsimp only at h;split at h;exact⟨_,Q124.l7_eq .. ▸h⟩;cases h
theorem Q124.k2 (N:Nat):uB Tryz.prog Tryz.f88 (Q124.E N) (.loop Q124.b2):=zC (Q124.env N) bA 395 (c:=Q124.c2 N) cA.n fun R vs H k r h=>by unfold Q124.c2 at h;dsimp only at h;split at h;exact⟨_,Q124.l2_eq .. ▸h⟩;cases h
theorem Q124.spec (N:Nat)(a1:Int)(a2 r:List Int)(h:Q124.f N a1 a2=some r):fA Tryz.prog 88 [.sw 0 4,.c (.int .i64 a1),.fn 67 [] []] [.ints .i64 a2] (.tup []) ([.ints .i64 r]):=vA (Q124.env N) bA Tryz.func88 (cA.of (l:=[(.loop (sA ((eA (bo Tryz.f88)).getD 0 .skip))),(.loop (sA ((eA (bo Tryz.f88)).getD 1 .skip))),(.loop (sA ((eA (bo Tryz.f88)).getD 2 .skip)))]) (by kernel_rfl) (cA.cons (Q124.k2 N) (cA.cons (Q124.k7 N) (cA.cons (Q124.k9 N) cA.nil)))) ((Q124.f_eq ..).trans h) fun v b e=>by unfold Q124.dec at e;split at e<;>cases e;exact⟨rfl,rfl⟩
theorem Q124.ent_ok (N:Nat):uA Tryz.prog 88 (Q124.ent N):=by
 intro args bs a enc h;simp only[Q124.ent]at h;split at h
 ·rename_i hz;have h0:=Option.some.inj h;have h1:=congrArg Prod.fst h0;have h2:=congrArg Prod.snd h0;dsimp only at h1 h2;subst h2;exact fA.of_asSl (fl:=[false,false,false]) (by rw[hz];exact Q124.spec N _ _ a h1)
 ·cases h
noncomputable def Q125.f (N:Nat)(a1:List Int):Option (List Int):=
 (Q124.f N (a1.length/4:Int) a1).bind fun r2=>
 some r2
noncomputable def Q125.E (N:Nat):bD:=xE [(53,ge)] [(88,Q124.ent N)] [] [] N [] [] 1 9
noncomputable def Q125.dec (v:V)(bs:List rA):Option (List Int):=match v,bs with
 | .tup [],[.ints .i64 z0]=>some z0
 |_,_=>none
theorem Q125.f_eq (N:Nat)(a1:List Int):
  cB (Q125.E N) (bo Tryz.f66) [.sw 0 4,.fn 67 [] []] [.ints .i64 a1] Q125.dec=Q125.f N a1:=by kernel_rfl
noncomputable def Q125.ent (N:Nat):xA:={A:=List Int,fresh:=0,imm:=[false,false],dec:=fun args bs=>match eG (nA bs) [false,false] args,bs with
 | [.sw 0 4,.fn 67 [] []],[.ints .i64 a1]=>some (Q125.f N a1,fun r=>.one (.tup []) [.ints .i64 r])
 |_,_=>none}
theorem Q125.env (N:Nat):aB Tryz.prog (Q125.E N):=⟨(.cons gL .nil),(.cons (Q124.ent_ok N) .nil)⟩
theorem Q125.spec (N:Nat)(a1 r:List Int)(h:Q125.f N a1=some r):fA Tryz.prog 66 [.sw 0 4,.fn 67 [] []] [.ints .i64 a1] (.tup []) ([.ints .i64 r]):=vA (Q125.env N) bA Tryz.func66 cA.n ((Q125.f_eq ..).trans h) fun v b e=>by unfold Q125.dec at e;split at e<;>cases e;exact⟨rfl,rfl⟩
theorem Q125.ent_ok (N:Nat):uA Tryz.prog 66 (Q125.ent N):=by
 intro args bs a enc h;simp only[Q125.ent]at h;split at h
 ·rename_i hz;have h0:=Option.some.inj h;have h1:=congrArg Prod.fst h0;have h2:=congrArg Prod.snd h0;dsimp only at h1 h2;subst h2;exact fA.of_asSl (fl:=[false,false]) (by rw[hz];exact Q125.spec N _ a h1)
 ·cases h
noncomputable def Q126.l1 {R:Type}(N:Nat):Nat→Int→Int→List Int→(List Int→Option R)→Option R
 |0,_,_,_,_=>none
 |n+1,x2,x3,x4,k0=>
  bif decide (x2<x3)then
   bif (decide (0≤x3))&&(decide (x3<(x4.length/4:Int)))then
    bif (decide (0≤x2))&&(decide (x2<(x4.length/4:Int)))then
     bif (decide (0≤x2))&&(decide (x2<(x4.length/4:Int)))then
      bif (decide (0≤x3))&&(decide (x3<((((((x4.set (x2.toNat*4) (x4.getD (x3.toNat*4) 0)).set ((x2.toNat*4)+1) (x4.getD ((x3.toNat*4)+1) 0)).set ((x2.toNat*4)+2) (x4.getD ((x3.toNat*4)+2) 0)).set ((x2.toNat*4)+3) (x4.getD ((x3.toNat*4)+3) 0)).length)/4:Int)))then
       Q126.l1 N n (aA (x2+1)) (aA (x3-1)) ((((((((x4.set (x2.toNat*4) (x4.getD (x3.toNat*4) 0)).set ((x2.toNat*4)+1) (x4.getD ((x3.toNat*4)+1) 0)).set ((x2.toNat*4)+2) (x4.getD ((x3.toNat*4)+2) 0)).set ((x2.toNat*4)+3) (x4.getD ((x3.toNat*4)+3) 0)).set (x3.toNat*4) (x4.getD (x2.toNat*4) 0)).set ((x3.toNat*4)+1) (x4.getD ((x2.toNat*4)+1) 0)).set ((x3.toNat*4)+2) (x4.getD ((x2.toNat*4)+2) 0)).set ((x3.toNat*4)+3) (x4.getD ((x2.toNat*4)+3) 0)) k0
      else none
     else none
    else none
   else none
  else
  k0 x4
noncomputable def Q126.f (N:Nat)(a1:List Int):Option (List Int):=
 Q126.l1 N N 0 (aA ((a1.length/4:Int)-1)) a1
  (fun y6=>
   some y6)
noncomputable def Q126.h1:yC:=⟨[(0,.row .i64 4),(2,.any),(3,.any)],[]⟩
noncomputable def Q126.c1 (N:Nat):uH:=⟨fun vs H k=>match vs,H with
 | [.sw 0 4,.c (.int .i64 x2),.c (.int .i64 x3)],[.ints .i64 x4]=>Q126.l1 N N x2 x3 x4 (fun x5=>k (.exit 0) ⟨xC Q126.h1.out [],[.ints .i64 x5]⟩)
 |_,_=>none⟩
noncomputable def Q126.E (N:Nat):bD:=xE [(53,ge),(57,gf)] [] [(1,Q126.h1)] [(1,Q126.c1 N)] N [] [] 1 28
noncomputable def Q126.b1:Code:=sA ((eA (bo Tryz.f48)).getD 0 .skip)
theorem Q126.l1_eq {R:Type}(N n:Nat)(x2 x3:Int)(x4:List Int)(k:Ex→St→Option R):
  gB 1 Q126.h1 (fun s k=>bB (Q126.E N) 397 Q126.b1 s k) n [.sw 0 4,.c (.int .i64 x2),.c (.int .i64 x3)] [.ints .i64 x4] k=Q126.l1 N n x2 x3 x4 (fun x5=>k (.exit 0) ⟨xC Q126.h1.out [],[.ints .i64 x5]⟩):=by
 induction n generalizing x2 x3 x4 with
 |zero=>kernel_rfl
 |succ n ih=>
  simp only[Q126.l1,←ih]
  kernel_rfl
noncomputable def Q126.dec (v:V)(bs:List rA):Option (List Int):=match v,bs with
 | .tup [],[.ints .i64 z0]=>some z0
 |_,_=>none
theorem Q126.f_eq (N:Nat)(a1:List Int):
  cB (Q126.E N) (bo Tryz.f48) [.sw 0 4] [.ints .i64 a1] Q126.dec=Q126.f N a1:=by kernel_rfl
noncomputable def Q126.ent (N:Nat):xA:={A:=List Int,fresh:=0,imm:=[false],dec:=fun args bs=>match eG (nA bs) [false] args,bs with
 | [.sw 0 4],[.ints .i64 a1]=>some (Q126.f N a1,fun r=>.one (.tup []) [.ints .i64 r])
 |_,_=>none}
theorem Q126.env (N:Nat):aB Tryz.prog (Q126.E N):=⟨(.cons gL (.cons iL .nil)),.nil⟩
theorem Q126.k1 (N:Nat):uB Tryz.prog Tryz.f48 (Q126.E N) (.loop Q126.b1):=zC (Q126.env N) bA 397 (c:=Q126.c1 N) cA.n fun R vs H k r h=>by unfold Q126.c1 at h;dsimp only at h;split at h;exact⟨_,Q126.l1_eq .. ▸h⟩;cases h
theorem Q126.spec (N:Nat)(a1 r:List Int)(h:Q126.f N a1=some r):fA Tryz.prog 48 [.sw 0 4] [.ints .i64 a1] (.tup []) ([.ints .i64 r]):=vA (Q126.env N) bA Tryz.func48 (cA.of (l:=[(.loop (sA ((eA (bo Tryz.f48)).getD 0 .skip)))]) (by kernel_rfl) (cA.cons (Q126.k1 N) cA.nil)) ((Q126.f_eq ..).trans h) fun v b e=>by unfold Q126.dec at e;split at e<;>cases e;exact⟨rfl,rfl⟩
theorem Q126.ent_ok (N:Nat):uA Tryz.prog 48 (Q126.ent N):=by
 intro args bs a enc h;simp only[Q126.ent]at h;split at h
 ·rename_i hz;have h0:=Option.some.inj h;have h1:=congrArg Prod.fst h0;have h2:=congrArg Prod.snd h0;dsimp only at h1 h2;subst h2;exact fA.of_asSl (fl:=[false]) (by rw[hz];exact Q126.spec N _ a h1)
 ·cases h
noncomputable def Ch:TI:=⟨.slice 2,1,24,[.slice none 0 0]⟩
noncomputable def G3:TI:=⟨.map 33 3,1,8,[.map none]⟩
theorem nW:uC Tryz.prog 24 Ch:=fD (by kernel_rfl) (by kernel_rfl) (by kernel_rfl) (by kernel_rfl) (by kernel_rfl) (by kernel_rfl) (by kernel_rfl) (Tryz.underlying24) (by kernel_rfl)
theorem uo:uC Tryz.prog 42 G3:=fD (by kernel_rfl) (by kernel_rfl) (by kernel_rfl) (by kernel_rfl) (by kernel_rfl) (by kernel_rfl) (by kernel_rfl) (Cd Tryz.underlying42 (by kernel_rfl)) (by kernel_rfl)
noncomputable def Q127.f (N:Nat)(a1 a2:Int)(a3 a4:Int)(a5 a6:Int):Option (Int×Int×Int):=
 (Q86.f N a1 a2 a3 a4 a5 a6).bind fun r7=>
 some (r7.1,r7.2.1,r7.2.2.1)
noncomputable def Q127.E (N:Nat):bD:=xE [(33,aI)] [(24,Q86.ent N)] [] [] N [.cell 4 33] [.recd [.any,.any,.any]] 0 14
noncomputable def Q127.dec (v:V)(bs:List rA):Option (Int×Int×Int):=match v,bs with
 | .agg [.c (.int .i64 z0),.c (.int .i64 z1),.c (.int .i64 z2)],[]=>some (z0,z1,z2)
 |_,_=>none
theorem Q127.f_eq (N:Nat)(a1 a2:Int)(a3 a4:Int)(a5 a6:Int):
  cB (Q127.E N) (bo Tryz.f39) [.agg [.c (.int .i64 a1),.c (.int .i64 a2),.c (.int .i64 a3)],.agg [.c (.int .i64 a4),.c (.int .i64 a5),.c (.int .i64 a6)]] [] Q127.dec=Q127.f N a1 a2 a3 a4 a5 a6:=by kernel_rfl
noncomputable def Q127.ent (N:Nat):xA:=tF (Int×Int×Int) 0 [true,true] [.recd [.any,.any,.any],.recd [.any,.any,.any]] fun
 | [.agg [.c (.int .i64 a1),.c (.int .i64 a2),.c (.int .i64 a3)],.agg [.c (.int .i64 a4),.c (.int .i64 a5),.c (.int .i64 a6)]]=>some (Q127.f N a1 a2 a3 a4 a5 a6,fun r=>.one (.agg [.c (.int .i64 r.1),.c (.int .i64 r.2.1),.c (.int .i64 r.2.2)]) [])
 |_=>none
theorem Q127.env (N:Nat):aB Tryz.prog (Q127.E N):=⟨(.cons rC .nil),(.cons (Q86.ent_ok N) .nil)⟩
theorem Q127.spec (N:Nat)(a1 a2:Int)(a3 a4:Int)(a5 a6:Int)(r:Int×Int×Int)(h:Q127.f N a1 a2 a3 a4 a5 a6=some r):fA Tryz.prog 39 [.agg [.c (.int .i64 a1),.c (.int .i64 a2),.c (.int .i64 a3)],.agg [.c (.int .i64 a4),.c (.int .i64 a5),.c (.int .i64 a6)]] [] (.agg [.c (.int .i64 r.1),.c (.int .i64 r.2.1),.c (.int .i64 r.2.2)]) ([]):=vA (Q127.env N) bA Tryz.func39 cA.n ((Q127.f_eq ..).trans h) fun v b e=>by unfold Q127.dec at e;split at e<;>cases e;exact⟨rfl,rfl⟩
theorem Q127.ent_ok (N:Nat):uA Tryz.prog 39 (Q127.ent N):=yA fun v a e h=>by split at h;exact mC (Q:=fun e=>fA _ _ _ _ (e a).pick.1 (e a).pick.2) h fun k=>Q127.spec N _ _ _ _ _ _ a k;cases h
noncomputable def Q128.f (N:Nat)(a1 a2:Int)(a3 a4:Int):Option (Int×Int×Int):=
 (Q88.f N a1 a2 a3 a4).bind fun r5=>
 some (r5.1,r5.2.1,r5.2.2.1)
noncomputable def Q128.E (N:Nat):bD:=xE [(33,aI)] [(26,Q88.ent N)] [] [] N [.cell 4 33] [.recd [.any,.any,.any]] 0 14
noncomputable def Q128.dec (v:V)(bs:List rA):Option (Int×Int×Int):=match v,bs with
 | .agg [.c (.int .i64 z0),.c (.int .i64 z1),.c (.int .i64 z2)],[]=>some (z0,z1,z2)
 |_,_=>none
theorem Q128.f_eq (N:Nat)(a1 a2:Int)(a3 a4:Int):
  cB (Q128.E N) (bo Tryz.f55) [.agg [.c (.int .i64 a1),.c (.int .i64 a2),.c (.int .i64 a3)],.c (.int .i64 a4)] [] Q128.dec=Q128.f N a1 a2 a3 a4:=by kernel_rfl
noncomputable def Q128.ent (N:Nat):xA:=tF (Int×Int×Int) 0 [true,true] [.recd [.any,.any,.any],.any] fun
 | [.agg [.c (.int .i64 a1),.c (.int .i64 a2),.c (.int .i64 a3)],.c (.int .i64 a4)]=>some (Q128.f N a1 a2 a3 a4,fun r=>.one (.agg [.c (.int .i64 r.1),.c (.int .i64 r.2.1),.c (.int .i64 r.2.2)]) [])
 |_=>none
theorem Q128.env (N:Nat):aB Tryz.prog (Q128.E N):=⟨(.cons rC .nil),(.cons (Q88.ent_ok N) .nil)⟩
theorem Q128.spec (N:Nat)(a1 a2:Int)(a3 a4:Int)(r:Int×Int×Int)(h:Q128.f N a1 a2 a3 a4=some r):fA Tryz.prog 55 [.agg [.c (.int .i64 a1),.c (.int .i64 a2),.c (.int .i64 a3)],.c (.int .i64 a4)] [] (.agg [.c (.int .i64 r.1),.c (.int .i64 r.2.1),.c (.int .i64 r.2.2)]) ([]):=vA (Q128.env N) bA Tryz.func55 cA.n ((Q128.f_eq ..).trans h) fun v b e=>by unfold Q128.dec at e;split at e<;>cases e;exact⟨rfl,rfl⟩
theorem Q128.ent_ok (N:Nat):uA Tryz.prog 55 (Q128.ent N):=yA fun v a e h=>by split at h;exact mC (Q:=fun e=>fA _ _ _ _ (e a).pick.1 (e a).pick.2) h fun k=>Q128.spec N _ _ _ _ a k;cases h
noncomputable def Q129.l5 {R:Type}(N:Nat):Nat→Int→List Int→Int→Int→Int→Int→Int→Int→Int→Int→Int→Int→(Int→List Int→Int→Int→Int→Int→Int→Int→Int→Int→Option R)→(Int→List Int→Int→Int→Int→Int→Int→Int→Int→Int→Option R)→Option R
 |0,_,_,_,_,_,_,_,_,_,_,_,_,_,_=>none
 |n+1,x19,x20,x21,x22,x23,x24,x25,x26,x27,x28,x29,x30,k1,k2=>
  bif !(x29==0)then
   bif (Int.tmod x19 x29)==0 then
    bif !(x29==0)then
     (Q128.f N x23 x24 x25 (aA (Int.tdiv x19 x29))).bind fun r31=>
     bif !((r31.1==x26)&&((r31.2.1==x27)&&(r31.2.2==x28)))then
      k1 x19 x20 x21 x22 x23 x24 x25 x26 x27 x28
     else
     bif !(x29==0)then
      Q129.l5 N n (aA (Int.tdiv x19 x29)) x20 x21 x22 x23 x24 x25 x26 x27 x28 x29 x30 k1 k2
     else none
    else none
   else
   k2 x19 x20 x21 x22 x23 x24 x25 x26 x27 x28
  else none
noncomputable def Q129.l3 {R:Type}(N:Nat):Nat→Int→List Int→Int→Int→Int→Int→Int→Int→Int→Int→(Int→Option R)→Option R
 |0,_,_,_,_,_,_,_,_,_,_,_=>none
 |n+1,x9,x10,x11,x12,x13,x14,x15,x16,x17,x18,k0=>
  bif decide (x12<x11)then
   bif (decide (0≤x12))&&(decide (x12<(x10.length/2:Int)))then
    Q129.l5 N N x9 x10 x11 x12 x13 x14 x15 x16 x17 x18 (x10.getD (x12.toNat*2) 0) (x10.getD ((x12.toNat*2)+1) 0)
     (fun y52 y53 y54 y55 y56 y57 y58 y59 y60 y61=>
      Q129.l3 N n y52 y53 y54 (aA (y55+1)) y56 y57 y58 y59 y60 y61 k0)
     (fun y62 y63 y64 y65 y66 y67 y68 y69 y70 y71=>
      Q129.l3 N n y62 y63 y64 (aA (y65+1)) y66 y67 y68 y69 y70 y71 k0)
   else none
  else
  k0 x9
noncomputable def Q129.f (N:Nat)(a1 a2:Int)(a3 a4:Int)(a5 a6 a7:Int):Option (Int):=
 (Q117.f N a7).bind fun r8=>
 Q129.l3 N N a7 r8.1 (r8.1.length/2:Int) 0 a1 a2 a3 a4 a5 a6
  (fun y73=>
   some y73)
noncomputable def Q129.h3:yC:=⟨[(2,.any),(3,.box [.any,.any,.any]),(4,.box [.any,.any,.any]),(16,.il .i64 2),(17,.any),(18,.any)],[(2,.any)]⟩
noncomputable def Q129.h5:yC:=⟨[(2,.any),(3,.box [.any,.any,.any]),(4,.box [.any,.any,.any]),(10,.box [.any,.any]),(16,.il .i64 2),(17,.any),(18,.any)],[(2,.any),(3,.box [.any,.any,.any]),(4,.box [.any,.any,.any]),(16,.il .i64 2),(17,.any),(18,.any)]⟩
noncomputable def Q129.c5 (N:Nat):uH:=⟨fun vs H k=>match vs,H with
 | [.c (.int .i64 x19),.ptr 0 0 3,.ptr 1 0 3,.ptr 2 0 2,.il .i64 2 x20,.c (.int .i64 x21),.c (.int .i64 x22)],[.vals [.c (.int .i64 x23),.c (.int .i64 x24),.c (.int .i64 x25)],.vals [.c (.int .i64 x26),.c (.int .i64 x27),.c (.int .i64 x28)],.vals [.c (.int .i64 x29),.c (.int .i64 x30)]]=>Q129.l5 N N x19 x20 x21 x22 x23 x24 x25 x26 x27 x28 x29 x30 (fun x32 x33 x34 x35 x36 x37 x38 x39 x40 x41=>k (.exit 1) ⟨xC Q129.h5.out [.c (.int .i64 x32),.ptr 0 0 3,.ptr 1 0 3,.il .i64 2 x33,.c (.int .i64 x34),.c (.int .i64 x35)],[.vals [.c (.int .i64 x36),.c (.int .i64 x37),.c (.int .i64 x38)],.vals [.c (.int .i64 x39),.c (.int .i64 x40),.c (.int .i64 x41)]]⟩) (fun x42 x43 x44 x45 x46 x47 x48 x49 x50 x51=>k (.exit 2) ⟨xC Q129.h5.out [.c (.int .i64 x42),.ptr 0 0 3,.ptr 1 0 3,.il .i64 2 x43,.c (.int .i64 x44),.c (.int .i64 x45)],[.vals [.c (.int .i64 x46),.c (.int .i64 x47),.c (.int .i64 x48)],.vals [.c (.int .i64 x49),.c (.int .i64 x50),.c (.int .i64 x51)]]⟩)
 |_,_=>none⟩
noncomputable def Q129.c3 (N:Nat):uH:=⟨fun vs H k=>match vs,H with
 | [.c (.int .i64 x9),.ptr 0 0 3,.ptr 1 0 3,.il .i64 2 x10,.c (.int .i64 x11),.c (.int .i64 x12)],[.vals [.c (.int .i64 x13),.c (.int .i64 x14),.c (.int .i64 x15)],.vals [.c (.int .i64 x16),.c (.int .i64 x17),.c (.int .i64 x18)]]=>Q129.l3 N N x9 x10 x11 x12 x13 x14 x15 x16 x17 x18 (fun x72=>k (.exit 0) ⟨xC Q129.h3.out [.c (.int .i64 x72)],[]⟩)
 |_,_=>none⟩
noncomputable def Q129.E (N:Nat):bD:=xE [(2,fR),(33,aI),(60,Ck),(64,E0)] [(46,Q117.ent N),(55,Q128.ent N)] [(3,Q129.h3),(5,Q129.h5)] [(5,Q129.c5 N),(3,Q129.c3 N)] N [.tmp 6] [.any] 0 41
noncomputable def Q129.b5:Code:=sA ((eA (bo Tryz.f34)).getD 2 .skip)
theorem Q129.l5_eq {R:Type}(N n:Nat)(x19:Int)(x20:List Int)(x21 x22:Int)(x23 x24:Int)(x25 x26:Int)(x27 x28:Int)(x29 x30:Int)(k:Ex→St→Option R):
  gB 0 Q129.h5 (fun s k=>bB (Q129.E N) 385 Q129.b5 s k) n [.c (.int .i64 x19),.ptr 0 0 3,.ptr 1 0 3,.ptr 2 0 2,.il .i64 2 x20,.c (.int .i64 x21),.c (.int .i64 x22)] [.vals [.c (.int .i64 x23),.c (.int .i64 x24),.c (.int .i64 x25)],.vals [.c (.int .i64 x26),.c (.int .i64 x27),.c (.int .i64 x28)],.vals [.c (.int .i64 x29),.c (.int .i64 x30)]] k=Q129.l5 N n x19 x20 x21 x22 x23 x24 x25 x26 x27 x28 x29 x30 (fun x32 x33 x34 x35 x36 x37 x38 x39 x40 x41=>k (.exit 1) ⟨xC Q129.h5.out [.c (.int .i64 x32),.ptr 0 0 3,.ptr 1 0 3,.il .i64 2 x33,.c (.int .i64 x34),.c (.int .i64 x35)],[.vals [.c (.int .i64 x36),.c (.int .i64 x37),.c (.int .i64 x38)],.vals [.c (.int .i64 x39),.c (.int .i64 x40),.c (.int .i64 x41)]]⟩) (fun x42 x43 x44 x45 x46 x47 x48 x49 x50 x51=>k (.exit 2) ⟨xC Q129.h5.out [.c (.int .i64 x42),.ptr 0 0 3,.ptr 1 0 3,.il .i64 2 x43,.c (.int .i64 x44),.c (.int .i64 x45)],[.vals [.c (.int .i64 x46),.c (.int .i64 x47),.c (.int .i64 x48)],.vals [.c (.int .i64 x49),.c (.int .i64 x50),.c (.int .i64 x51)]]⟩):=by
 induction n generalizing x19 x20 x21 x22 x23 x24 x25 x26 x27 x28 x29 x30 with
 |zero=>kernel_rfl
 |succ n ih=>
  simp only[Q129.l5,←ih]
  kernel_rfl
noncomputable def Q129.b3:Code:=sA ((eA (bo Tryz.f34)).getD 1 .skip)
theorem Q129.l3_eq {R:Type}(N n:Nat)(x9:Int)(x10:List Int)(x11 x12:Int)(x13 x14:Int)(x15 x16:Int)(x17 x18:Int)(k:Ex→St→Option R):
  gB 0 Q129.h3 (fun s k=>bB (Q129.E N) 392 Q129.b3 s k) n [.c (.int .i64 x9),.ptr 0 0 3,.ptr 1 0 3,.il .i64 2 x10,.c (.int .i64 x11),.c (.int .i64 x12)] [.vals [.c (.int .i64 x13),.c (.int .i64 x14),.c (.int .i64 x15)],.vals [.c (.int .i64 x16),.c (.int .i64 x17),.c (.int .i64 x18)]] k=Q129.l3 N n x9 x10 x11 x12 x13 x14 x15 x16 x17 x18 (fun x72=>k (.exit 0) ⟨xC Q129.h3.out [.c (.int .i64 x72)],[]⟩):=by
 induction n generalizing x9 x10 x11 x12 x13 x14 x15 x16 x17 x18 with
 |zero=>kernel_rfl
 |succ n ih=>
  simp only[Q129.l3,←ih]
  kernel_rfl
noncomputable def Q129.dec (v:V)(bs:List rA):Option (Int):=match v,bs with
 | .c (.int .i64 z0),[]=>some z0
 |_,_=>none
theorem Q129.f_eq (N:Nat)(a1 a2:Int)(a3 a4:Int)(a5 a6 a7:Int):
  cB (Q129.E N) (bo Tryz.f34) [.agg [.c (.int .i64 a1),.c (.int .i64 a2),.c (.int .i64 a3)],.agg [.c (.int .i64 a4),.c (.int .i64 a5),.c (.int .i64 a6)],.c (.int .i64 a7)] [] Q129.dec=Q129.f N a1 a2 a3 a4 a5 a6 a7:=by kernel_rfl
noncomputable def Q129.ent (N:Nat):xA:=tF (Int) 0 [true,true,true] [.recd [.any,.any,.any],.recd [.any,.any,.any],.any] fun
 | [.agg [.c (.int .i64 a1),.c (.int .i64 a2),.c (.int .i64 a3)],.agg [.c (.int .i64 a4),.c (.int .i64 a5),.c (.int .i64 a6)],.c (.int .i64 a7)]=>some (Q129.f N a1 a2 a3 a4 a5 a6 a7,fun r=>.one (.c (.int .i64 r)) [])
 |_=>none
theorem Q129.env (N:Nat):aB Tryz.prog (Q129.E N):=⟨(.cons gD (.cons rC (.cons oW (.cons gg .nil)))),(.cons (Q117.ent_ok N) (.cons (Q128.ent_ok N) .nil))⟩
theorem Q129.k5 (N:Nat):uB Tryz.prog Tryz.f34 (Q129.E N) (.loop Q129.b5):=zC (Q129.env N) bA 385 (c:=Q129.c5 N) cA.n fun R vs H k r h=>by unfold Q129.c5 at h;dsimp only at h;split at h;exact⟨_,Q129.l5_eq .. ▸h⟩;cases h
theorem Q129.k3 (N:Nat):uB Tryz.prog Tryz.f34 (Q129.E N) (.loop Q129.b3):=zC (Q129.env N) bA 392 (c:=Q129.c3 N) (cA.of (l:=[(.loop (sA ((eA (bo Tryz.f34)).getD 2 .skip)))]) (by kernel_rfl) (cA.cons (Q129.k5 N) cA.nil)) fun R vs H k r h=>by unfold Q129.c3 at h;dsimp only at h;split at h;exact⟨_,Q129.l3_eq .. ▸h⟩;cases h
theorem Q129.spec (N:Nat)(a1 a2:Int)(a3 a4:Int)(a5 a6:Int)(a7 r:Int)(h:Q129.f N a1 a2 a3 a4 a5 a6 a7=some r):fA Tryz.prog 34 [.agg [.c (.int .i64 a1),.c (.int .i64 a2),.c (.int .i64 a3)],.agg [.c (.int .i64 a4),.c (.int .i64 a5),.c (.int .i64 a6)],.c (.int .i64 a7)] [] (.c (.int .i64 r)) ([]):=vA (Q129.env N) bA Tryz.func34 (cA.of (l:=[(.scope (sA ((eA (bo Tryz.f34)).getD 0 .skip))),(.loop (sA ((eA (bo Tryz.f34)).getD 1 .skip))),(.loop (sA ((eA (bo Tryz.f34)).getD 2 .skip)))]) (by kernel_rfl) (cA.cons (pP (by kernel_rfl)) (cA.cons (Q129.k3 N) (cA.cons (Q129.k5 N) cA.nil)))) ((Q129.f_eq ..).trans h) fun v b e=>by unfold Q129.dec at e;split at e<;>cases e;exact⟨rfl,rfl⟩
theorem Q129.ent_ok (N:Nat):uA Tryz.prog 34 (Q129.ent N):=yA fun v a e h=>by split at h;exact mC (Q:=fun e=>fA _ _ _ _ (e a).pick.1 (e a).pick.2) h fun k=>Q129.spec N _ _ _ _ _ _ _ a k;cases h
noncomputable def Q130.l3 {R:Type}(N:Nat):Nat→List Int→Int→Int→Int→List Int→Int→Int→Int→Int→Int→List (List Int)→List Int→(List Int→Int→Int→Int→Int→List (List Int)→List Int→Option R)→Option R
 |0,_,_,_,_,_,_,_,_,_,_,_,_,_=>none
 |n+1,x8,x9,x10,x11,x12,x13,x14,x15,x16,x17,x18,x19,k0=>
  bif decide (x14<x13)then
   bif (decide (0≤x14))&&(decide (x14<(x12.length/3:Int)))then
    bif !(x11==0)then
     (Q128.f N (x12.getD (x14.toNat*3) 0) (x12.getD ((x14.toNat*3)+1) 0) (x12.getD ((x14.toNat*3)+2) 0) (aA (Int.tdiv x9 x11))).bind fun r20=>
     bif (pE [r20.1,r20.2.1,r20.2.2] x18 x19)==0 then
      (Q129.f N r20.1 r20.2.1 r20.2.2 x15 x16 x17 x11).bind fun r21=>
      Q130.l3 N n x8 x9 x10 x11 x12 x13 (aA (x14+1)) x15 x16 x17 (vB [r20.1,r20.2.1,r20.2.2] x18) (aG [r20.1,r20.2.1,r20.2.2] r21 x18 x19) k0
     else
     Q130.l3 N n x8 x9 x10 x11 x12 x13 (aA (x14+1)) x15 x16 x17 x18 x19 k0
    else none
   else none
  else
  k0 x8 x10 x15 x16 x17 x18 x19
noncomputable def Q130.l11 {R:Type}(N:Nat):Nat→Int→List Int→Int→Int→Int→Int→Int→List (List Int)→List Int→List Int→(Int→Int→Int→Int→List Int→Option R)→Option R
 |0,_,_,_,_,_,_,_,_,_,_,_=>none
 |n+1,x36,x37,x38,x39,x40,x41,x42,x43,x44,x45,k2=>
  bif decide (x39<x38)then
   bif (decide (0≤x39))&&(decide (x39<(x37.length/3:Int)))then
    bif decide ((pE [x37.getD (x39.toNat*3) 0,x37.getD ((x39.toNat*3)+1) 0,x37.getD ((x39.toNat*3)+2) 0] x43 x44)>1)then
     bif jB ((x45.length+4)/4) 32 then
      Q130.l11 N n x36 x37 x38 (aA (x39+1)) x40 x41 x42 x43 x44 (x45++[x37.getD (x39.toNat*3) 0,x37.getD ((x39.toNat*3)+1) 0,x37.getD ((x39.toNat*3)+2) 0,pE [x37.getD (x39.toNat*3) 0,x37.getD ((x39.toNat*3)+1) 0,x37.getD ((x39.toNat*3)+2) 0] x43 x44]) k2
     else none
    else
    Q130.l11 N n x36 x37 x38 (aA (x39+1)) x40 x41 x42 x43 x44 x45 k2
   else none
  else
  k2 x36 x40 x41 x42 x45
noncomputable def Q130.l30 {R:Type}(N:Nat):Nat→Int→Int→Int→Int→List Int→List (List Int)→List Int→Int→Int→Int→Int→List Int→Int→Int→Int→Int→Int→Int→List Int→Nat→List Nat→Nat→(Int→Int→Int→List Int→List (List Int)→List Int→Int→Int→Int→Int→List Int→List Int→Nat→List Nat→Nat→Option R)→Option R
 |0,_,_,_,_,_,_,_,_,_,_,_,_,_,_,_,_,_,_,_,_,_,_,_=>none
 |n+1,x89,x90,x91,x92,x93,x94,x95,x96,x97,x98,x99,x100,x101,x102,x103,x104,x105,x106,x107,x108,x109,x110,k8=>
  bif decide (x90<x99)then
   (Q127.f N x101 x102 x103 x104 x105 x106).bind fun r111=>
   bif jB ((x100.length+3)/3) 24 then
    (Q127.f N x104 x105 x106 x96 x97 x98).bind fun r112=>
    Q130.l30 N n x89 (aA (x90+1)) x91 x92 x93 x94 x95 x96 x97 x98 x99 (x100++[r111.1,r111.2.1,r111.2.2]) x101 x102 x103 r112.1 r112.2.1 r112.2.2 x107 x108 x109 x110 k8
   else none
  else
  k8 x89 x91 x92 x93 x94 x95 x96 x97 x98 x99 x100 x107 x108 x109 x110
noncomputable def Q130.l27 {R:Type}(N:Nat):Nat→Int→Int→Int→List Int→List (List Int)→List Int→Int→Int→Int→Int→List Int→List Int→Nat→List Nat→Nat→(Int→Int→Int→List Int→List (List Int)→List Int→List Int→List Int→Option R)→Option R
 |0,_,_,_,_,_,_,_,_,_,_,_,_,_,_,_,_=>none
 |n+1,x65,x66,x67,x68,x69,x70,x71,x72,x73,x74,x75,x76,x77,x78,x79,k6=>
  bif Nat.beq x69.length x77 then
   bif x78.isEmpty then
    k6 x65 x66 x67 x68 x69 x70 x75 x76
   else
   kX x78.length fun x88=>
   bif Nat.beq x69.length x77&&Nat.blt (x78.getD x88 0) x69.length then
    Q130.l30 N N x65 1 x66 x67 x68 x69 x70 x71 x72 x73 x74 x75 ((x69.getD (x78.getD x88 0) []).getD 0 0) ((x69.getD (x78.getD x88 0) []).getD 1 0) ((x69.getD (x78.getD x88 0) []).getD 2 0) x71 x72 x73 x76 x77 (x78.eraseIdx x88) (x78.getD x88 0)
     (fun y128 y129 y130 y131 y132 y133 y134 y135 y136 y137 y138 y139 y140 y141 y142=>
      Q130.l27 N n y128 y129 y130 y131 y132 y133 y134 y135 y136 y137 y138 y139 y140 y141 y142 k6)
   else none
  else none
noncomputable def Q130.l36 {R:Type}(N:Nat):Nat→Int→Int→Int→Int→Int→List Int→List (List Int)→List Int→List Int→List Int→(Int→Int→Int→List Int→List (List Int)→List Int→List Int→Option R)→Option R
 |0,_,_,_,_,_,_,_,_,_,_,_=>none
 |n+1,x151,x152,x153,x154,x155,x156,x157,x158,x159,x160,k10=>
  bif decide (x155<x154)then
   bif (decide (0≤x155))&&(decide (x155<(x160.length/3:Int)))then
    bif (decide (0≤(cE [x160.getD (x155.toNat*3) 0,x160.getD ((x155.toNat*3)+1) 0,x160.getD ((x155.toNat*3)+2) 0] x157)))&&(decide ((cE [x160.getD (x155.toNat*3) 0,x160.getD ((x155.toNat*3)+1) 0,x160.getD ((x155.toNat*3)+2) 0] x157)<((vB [x160.getD (x155.toNat*3) 0,x160.getD ((x155.toNat*3)+1) 0,x160.getD ((x155.toNat*3)+2) 0] x157).length:Int)))then
     Q130.l36 N n x151 x152 x153 x154 (aA (x155+1)) x156 (vB [x160.getD (x155.toNat*3) 0,x160.getD ((x155.toNat*3)+1) 0,x160.getD ((x155.toNat*3)+2) 0] x157) ((aG [x160.getD (x155.toNat*3) 0,x160.getD ((x155.toNat*3)+1) 0,x160.getD ((x155.toNat*3)+2) 0] (pE [x160.getD (x155.toNat*3) 0,x160.getD ((x155.toNat*3)+1) 0,x160.getD ((x155.toNat*3)+2) 0] x157 x158) x157 (List.take (List.length x157) x158)).set ((cE [x160.getD (x155.toNat*3) 0,x160.getD ((x155.toNat*3)+1) 0,x160.getD ((x155.toNat*3)+2) 0] x157).toNat) (aA ((pE [x160.getD (x155.toNat*3) 0,x160.getD ((x155.toNat*3)+1) 0,x160.getD ((x155.toNat*3)+2) 0] x157 x158)+1))) x159 x160 k10
    else none
   else none
  else
  k10 x151 x152 x153 x156 x157 x158 x159
noncomputable def Q130.l21 {R:Type}(N:Nat):Nat→Int→Int→Int→List Int→List (List Int)→List Int→List Int→(List Int→Option R)→Option R
 |0,_,_,_,_,_,_,_,_=>none
 |n+1,x57,x58,x59,x60,x61,x62,x63,k4=>
  bif decide (x59<x58)then
   bif (decide (0≤x59))&&(decide (x59<(x63.length/4:Int)))then
    bif !(x57==0)then
     (Q128.f N (x63.getD (x59.toNat*4) 0) (x63.getD ((x59.toNat*4)+1) 0) (x63.getD ((x59.toNat*4)+2) 0) (aA (Int.tdiv (x63.getD ((x59.toNat*4)+3) 0) x57))).bind fun r64=>
     bif decide ((pE [r64.1,r64.2.1,r64.2.2] x61 x62)>0)then
      Q130.l21 N n x57 x58 (aA (x59+1)) x60 x61 x62 x63 k4
     else
     bif jB ((x60.length+4)/4) 32 then
      Q130.l27 N N x57 x58 x59 (x60++[x63.getD (x59.toNat*4) 0,x63.getD ((x59.toNat*4)+1) 0,x63.getD ((x59.toNat*4)+2) 0,x63.getD ((x59.toNat*4)+3) 0]) x61 x62 (x63.getD (x59.toNat*4) 0) (x63.getD ((x59.toNat*4)+1) 0) (x63.getD ((x59.toNat*4)+2) 0) (x63.getD ((x59.toNat*4)+3) 0) [] x63 x61.length (List.range x61.length) x61.length
       (fun y143 y144 y145 y146 y147 y148 y149 y150=>
        Q130.l36 N N y143 y144 y145 (y149.length/3:Int) 0 y146 y147 y148 y150 y149
         (fun y168 y169 y170 y171 y172 y173 y174=>
          Q130.l21 N n y168 y169 (aA (y170+1)) y171 y172 y173 y174 k4))
     else none
    else none
   else none
  else
  k4 x60
noncomputable def Q130.f (N:Nat)(a1:List Int)(a2 a3:Int)(a4 a5:Int)(a6 a7:Int):Option (List Int):=
 Q130.l3 N N a1 a5 a6 a7 a1 (a1.length/3:Int) 0 a2 a3 a4 [] []
  (fun y29 y30 y31 y32 y33 y34 y35=>
   Q130.l11 N N y30 y29 (y29.length/3:Int) 0 y31 y32 y33 y34 y35 []
    (fun y51 y52 y53 y54 y55=>
     (Q125.f N y55).bind fun r56=>
     Q130.l21 N N y51 (r56.length/4:Int) 0 [] (vB [y52,y53,y54] []) (aG [y52,y53,y54] 1 [] []) r56
      (fun y176=>
       some y176)))
noncomputable def Q130.h3:yC:=⟨[(0,.il .i64 3),(2,.any),(3,.any),(4,.any),(6,.box [.any,.any,.any]),(11,.any),(30,.il .i64 3),(31,.any),(32,.any)],[(0,.il .i64 3),(3,.any),(6,.box [.any,.any,.any]),(11,.any)]⟩
noncomputable def Q130.h11:yC:=⟨[(3,.any),(6,.box [.any,.any,.any]),(11,.any),(15,.row .i64 4),(52,.il .i64 3),(53,.any),(54,.any)],[(3,.any),(6,.box [.any,.any,.any]),(15,.row .i64 4)]⟩
noncomputable def Q130.h21:yC:=⟨[(3,.any),(19,.row .i64 4),(20,.any),(75,.row .i64 4),(76,.any),(77,.any)],[(19,.row .i64 4)]⟩
noncomputable def Q130.h27:yC:=⟨[(3,.any),(19,.row .i64 4),(20,.any),(22,.box [.any,.any,.any,.any]),(23,.row .i64 3),(75,.row .i64 4),(76,.any),(77,.any),(96,.any)],[(3,.any),(19,.row .i64 4),(20,.any),(23,.row .i64 3),(75,.row .i64 4),(76,.any),(77,.any)]⟩
noncomputable def Q130.h30:yC:=⟨[(3,.any),(19,.row .i64 4),(20,.any),(22,.box [.any,.any,.any,.any]),(23,.row .i64 3),(24,.box [.any,.any,.any]),(25,.any),(26,.box [.any,.any,.any]),(75,.row .i64 4),(76,.any),(77,.any),(96,.any)],[(3,.any),(19,.row .i64 4),(20,.any),(22,.box [.any,.any,.any,.any]),(23,.row .i64 3),(75,.row .i64 4),(76,.any),(77,.any),(96,.any)]⟩
noncomputable def Q130.h36:yC:=⟨[(3,.any),(19,.row .i64 4),(20,.any),(75,.row .i64 4),(76,.any),(77,.any),(120,.row .i64 3),(121,.any),(122,.any)],[(3,.any),(19,.row .i64 4),(20,.any),(75,.row .i64 4),(76,.any),(77,.any)]⟩
noncomputable def Q130.c3 (N:Nat):uH:=⟨fun vs H k=>match vs,H with
 | [.il .i64 3 x8,.c (.int .i64 x9),.c (.int .i64 x10),.c (.int .i64 x11),.ptr 0 0 3,.mref 1,.il .i64 3 x12,.c (.int .i64 x13),.c (.int .i64 x14)],[.vals [.c (.int .i64 x15),.c (.int .i64 x16),.c (.int .i64 x17)],.mp .i64 3 x18 (.ints .i64 x19)]=>Q130.l3 N N x8 x9 x10 x11 x12 x13 x14 x15 x16 x17 x18 x19 (fun x22 x23 x24 x25 x26 x27 x28=>k (.exit 0) ⟨xC Q130.h3.out [.il .i64 3 x22,.c (.int .i64 x23),.ptr 0 0 3,.mref 1],[.vals [.c (.int .i64 x24),.c (.int .i64 x25),.c (.int .i64 x26)],.mp .i64 3 x27 (.ints .i64 x28)]⟩)
 |_,_=>none⟩
noncomputable def Q130.c11 (N:Nat):uH:=⟨fun vs H k=>match vs,H with
 | [.c (.int .i64 x36),.ptr 0 0 3,.mref 1,.sw 2 4,.il .i64 3 x37,.c (.int .i64 x38),.c (.int .i64 x39)],[.vals [.c (.int .i64 x40),.c (.int .i64 x41),.c (.int .i64 x42)],.mp .i64 3 x43 (.ints .i64 x44),.ints .i64 x45]=>Q130.l11 N N x36 x37 x38 x39 x40 x41 x42 x43 x44 x45 (fun x46 x47 x48 x49 x50=>k (.exit 2) ⟨xC Q130.h11.out [.c (.int .i64 x46),.ptr 0 0 3,.sw 1 4],[.vals [.c (.int .i64 x47),.c (.int .i64 x48),.c (.int .i64 x49)],.ints .i64 x50]⟩)
 |_,_=>none⟩
noncomputable def Q130.c30 (N:Nat):uH:=⟨fun vs H k=>match vs,H with
 | [.c (.int .i64 x89),.sw 0 4,.mref 1,.ptr 2 0 4,.sw 3 3,.ptr 4 0 3,.c (.int .i64 x90),.ptr 5 0 3,.sw 6 4,.c (.int .i64 x91),.c (.int .i64 x92),.ptr 7 0 0],[.ints .i64 x93,.mp .i64 3 x94 (.ints .i64 x95),.vals [.c (.int .i64 x96),.c (.int .i64 x97),.c (.int .i64 x98),.c (.int .i64 x99)],.ints .i64 x100,.vals [.c (.int .i64 x101),.c (.int .i64 x102),.c (.int .i64 x103)],.vals [.c (.int .i64 x104),.c (.int .i64 x105),.c (.int .i64 x106)],.ints .i64 x107,.it (some 1) x108 x109 x110]=>Q130.l30 N N x89 x90 x91 x92 x93 x94 x95 x96 x97 x98 x99 x100 x101 x102 x103 x104 x105 x106 x107 x108 x109 x110 (fun x113 x114 x115 x116 x117 x118 x119 x120 x121 x122 x123 x124 x125 x126 x127=>k (.exit 8) ⟨xC Q130.h30.out [.c (.int .i64 x113),.sw 0 4,.mref 1,.ptr 2 0 4,.sw 3 3,.sw 4 4,.c (.int .i64 x114),.c (.int .i64 x115),.ptr 5 0 0],[.ints .i64 x116,.mp .i64 3 x117 (.ints .i64 x118),.vals [.c (.int .i64 x119),.c (.int .i64 x120),.c (.int .i64 x121),.c (.int .i64 x122)],.ints .i64 x123,.ints .i64 x124,.it (some 1) x125 x126 x127]⟩)
 |_,_=>none⟩
noncomputable def Q130.c27 (N:Nat):uH:=⟨fun vs H k=>match vs,H with
 | [.c (.int .i64 x65),.sw 0 4,.mref 1,.ptr 2 0 4,.sw 3 3,.sw 4 4,.c (.int .i64 x66),.c (.int .i64 x67),.ptr 5 0 0],[.ints .i64 x68,.mp .i64 3 x69 (.ints .i64 x70),.vals [.c (.int .i64 x71),.c (.int .i64 x72),.c (.int .i64 x73),.c (.int .i64 x74)],.ints .i64 x75,.ints .i64 x76,.it (some 1) x77 x78 x79]=>Q130.l27 N N x65 x66 x67 x68 x69 x70 x71 x72 x73 x74 x75 x76 x77 x78 x79 (fun x80 x81 x82 x83 x84 x85 x86 x87=>k (.exit 6) ⟨xC Q130.h27.out [.c (.int .i64 x80),.sw 0 4,.mref 1,.sw 2 3,.sw 3 4,.c (.int .i64 x81),.c (.int .i64 x82)],[.ints .i64 x83,.mp .i64 3 x84 (.ints .i64 x85),.ints .i64 x86,.ints .i64 x87]⟩)
 |_,_=>none⟩
noncomputable def Q130.c36 (N:Nat):uH:=⟨fun vs H k=>match vs,H with
 | [.c (.int .i64 x151),.sw 0 4,.mref 1,.sw 2 4,.c (.int .i64 x152),.c (.int .i64 x153),.sw 3 3,.c (.int .i64 x154),.c (.int .i64 x155)],[.ints .i64 x156,.mp .i64 3 x157 (.ints .i64 x158),.ints .i64 x159,.ints .i64 x160]=>Q130.l36 N N x151 x152 x153 x154 x155 x156 x157 x158 x159 x160 (fun x161 x162 x163 x164 x165 x166 x167=>k (.exit 10) ⟨xC Q130.h36.out [.c (.int .i64 x161),.sw 0 4,.mref 1,.sw 2 4,.c (.int .i64 x162),.c (.int .i64 x163)],[.ints .i64 x164,.mp .i64 3 x165 (.ints .i64 x166),.ints .i64 x167]⟩)
 |_,_=>none⟩
noncomputable def Q130.c21 (N:Nat):uH:=⟨fun vs H k=>match vs,H with
 | [.c (.int .i64 x57),.sw 0 4,.mref 1,.sw 2 4,.c (.int .i64 x58),.c (.int .i64 x59)],[.ints .i64 x60,.mp .i64 3 x61 (.ints .i64 x62),.ints .i64 x63]=>Q130.l21 N N x57 x58 x59 x60 x61 x62 x63 (fun x175=>k (.exit 4) ⟨xC Q130.h21.out [.sw 0 4],[.ints .i64 x175]⟩)
 |_,_=>none⟩
noncomputable def Q130.E (N:Nat):bD:=xE [(2,fR),(3,Ci),(23,gd),(33,aI),(42,G3),(53,ge),(57,gf),(85,E4)] [(55,Q128.ent N),(34,Q129.ent N),(66,Q125.ent N),(39,Q127.ent N)] [(3,Q130.h3),(11,Q130.h11),(21,Q130.h21),(27,Q130.h27),(30,Q130.h30),(36,Q130.h36)] [(3,Q130.c3 N),(11,Q130.c11 N),(30,Q130.c30 N),(27,Q130.c27 N),(36,Q130.c36 N),(21,Q130.c21 N)] N [.tmp 10] [.row .i64 4] 0 135 true
noncomputable def Q130.b3:Code:=sA ((eA (bo Tryz.f47)).getD 0 .skip)
theorem Q130.l3_eq {R:Type}(N n:Nat)(x8:List Int)(x9 x10 x11:Int)(x12:List Int)(x13 x14:Int)(x15 x16 x17:Int)(x18:List (List Int))(x19:List Int)(k:Ex→St→Option R):
  gB 0 Q130.h3 (fun s k=>bB (Q130.E N) 394 Q130.b3 s k) n [.il .i64 3 x8,.c (.int .i64 x9),.c (.int .i64 x10),.c (.int .i64 x11),.ptr 0 0 3,.mref 1,.il .i64 3 x12,.c (.int .i64 x13),.c (.int .i64 x14)] [.vals [.c (.int .i64 x15),.c (.int .i64 x16),.c (.int .i64 x17)],.mp .i64 3 x18 (.ints .i64 x19)] k=Q130.l3 N n x8 x9 x10 x11 x12 x13 x14 x15 x16 x17 x18 x19 (fun x22 x23 x24 x25 x26 x27 x28=>k (.exit 0) ⟨xC Q130.h3.out [.il .i64 3 x22,.c (.int .i64 x23),.ptr 0 0 3,.mref 1],[.vals [.c (.int .i64 x24),.c (.int .i64 x25),.c (.int .i64 x26)],.mp .i64 3 x27 (.ints .i64 x28)]⟩):=by
 induction n generalizing x8 x9 x10 x11 x12 x13 x14 x15 x16 x17 x18 x19 with
 |zero=>kernel_rfl
 |succ n ih=>
  simp only[Q130.l3,←ih]
  kernel_rfl
noncomputable def Q130.b11:Code:=sA ((eA (bo Tryz.f47)).getD 1 .skip)
theorem Q130.l11_eq {R:Type}(N n:Nat)(x36:Int)(x37:List Int)(x38 x39:Int)(x40 x41 x42:Int)(x43:List (List Int))(x44 x45:List Int)(k:Ex→St→Option R):
  gB 0 Q130.h11 (fun s k=>bB (Q130.E N) 392 Q130.b11 s k) n [.c (.int .i64 x36),.ptr 0 0 3,.mref 1,.sw 2 4,.il .i64 3 x37,.c (.int .i64 x38),.c (.int .i64 x39)] [.vals [.c (.int .i64 x40),.c (.int .i64 x41),.c (.int .i64 x42)],.mp .i64 3 x43 (.ints .i64 x44),.ints .i64 x45] k=Q130.l11 N n x36 x37 x38 x39 x40 x41 x42 x43 x44 x45 (fun x46 x47 x48 x49 x50=>k (.exit 2) ⟨xC Q130.h11.out [.c (.int .i64 x46),.ptr 0 0 3,.sw 1 4],[.vals [.c (.int .i64 x47),.c (.int .i64 x48),.c (.int .i64 x49)],.ints .i64 x50]⟩):=by
 induction n generalizing x36 x37 x38 x39 x40 x41 x42 x43 x44 x45 with
 |zero=>kernel_rfl
 |succ n ih=>
  simp only[Q130.l11,←ih]
  kernel_rfl
noncomputable def Q130.b30:Code:=sA ((eA (bo Tryz.f47)).getD 4 .skip)
theorem Q130.l30_eq {R:Type}(N n:Nat)(x89 x90:Int)(x91 x92:Int)(x93:List Int)(x94:List (List Int))(x95:List Int)(x96 x97:Int)(x98 x99:Int)(x100:List Int)(x101 x102:Int)(x103 x104:Int)(x105 x106:Int)(x107:List Int)(x108:Nat)(x109:List Nat)(x110:Nat)(k:Ex→St→Option R):
  gB 0 Q130.h30 (fun s k=>bB (Q130.E N) 369 Q130.b30 s k) n [.c (.int .i64 x89),.sw 0 4,.mref 1,.ptr 2 0 4,.sw 3 3,.ptr 4 0 3,.c (.int .i64 x90),.ptr 5 0 3,.sw 6 4,.c (.int .i64 x91),.c (.int .i64 x92),.ptr 7 0 0] [.ints .i64 x93,.mp .i64 3 x94 (.ints .i64 x95),.vals [.c (.int .i64 x96),.c (.int .i64 x97),.c (.int .i64 x98),.c (.int .i64 x99)],.ints .i64 x100,.vals [.c (.int .i64 x101),.c (.int .i64 x102),.c (.int .i64 x103)],.vals [.c (.int .i64 x104),.c (.int .i64 x105),.c (.int .i64 x106)],.ints .i64 x107,.it (some 1) x108 x109 x110] k=Q130.l30 N n x89 x90 x91 x92 x93 x94 x95 x96 x97 x98 x99 x100 x101 x102 x103 x104 x105 x106 x107 x108 x109 x110 (fun x113 x114 x115 x116 x117 x118 x119 x120 x121 x122 x123 x124 x125 x126 x127=>k (.exit 8) ⟨xC Q130.h30.out [.c (.int .i64 x113),.sw 0 4,.mref 1,.ptr 2 0 4,.sw 3 3,.sw 4 4,.c (.int .i64 x114),.c (.int .i64 x115),.ptr 5 0 0],[.ints .i64 x116,.mp .i64 3 x117 (.ints .i64 x118),.vals [.c (.int .i64 x119),.c (.int .i64 x120),.c (.int .i64 x121),.c (.int .i64 x122)],.ints .i64 x123,.ints .i64 x124,.it (some 1) x125 x126 x127]⟩):=by
 induction n generalizing x89 x90 x91 x92 x93 x94 x95 x96 x97 x98 x99 x100 x101 x102 x103 x104 x105 x106 x107 x108 x109 x110 with
 |zero=>kernel_rfl
 |succ n ih=>
  simp only[Q130.l30,←ih]
  kernel_rfl
noncomputable def Q130.b27:Code:=sA ((eA (bo Tryz.f47)).getD 3 .skip)
theorem Q130.l27_eq {R:Type}(N n:Nat)(x65 x66 x67:Int)(x68:List Int)(x69:List (List Int))(x70:List Int)(x71 x72:Int)(x73 x74:Int)(x75 x76:List Int)(x77:Nat)(x78:List Nat)(x79:Nat)(k:Ex→St→Option R):
  gB 0 Q130.h27 (fun s k=>bB (Q130.E N) 376 Q130.b27 s k) n [.c (.int .i64 x65),.sw 0 4,.mref 1,.ptr 2 0 4,.sw 3 3,.sw 4 4,.c (.int .i64 x66),.c (.int .i64 x67),.ptr 5 0 0] [.ints .i64 x68,.mp .i64 3 x69 (.ints .i64 x70),.vals [.c (.int .i64 x71),.c (.int .i64 x72),.c (.int .i64 x73),.c (.int .i64 x74)],.ints .i64 x75,.ints .i64 x76,.it (some 1) x77 x78 x79] k=Q130.l27 N n x65 x66 x67 x68 x69 x70 x71 x72 x73 x74 x75 x76 x77 x78 x79 (fun x80 x81 x82 x83 x84 x85 x86 x87=>k (.exit 6) ⟨xC Q130.h27.out [.c (.int .i64 x80),.sw 0 4,.mref 1,.sw 2 3,.sw 3 4,.c (.int .i64 x81),.c (.int .i64 x82)],[.ints .i64 x83,.mp .i64 3 x84 (.ints .i64 x85),.ints .i64 x86,.ints .i64 x87]⟩):=by
 induction n generalizing x65 x66 x67 x68 x69 x70 x71 x72 x73 x74 x75 x76 x77 x78 x79 with
 |zero=>kernel_rfl
 |succ n ih=>
  simp only[Q130.l27,←ih]
  kernel_rfl
noncomputable def Q130.b36:Code:=sA ((eA (bo Tryz.f47)).getD 5 .skip)
theorem Q130.l36_eq {R:Type}(N n:Nat)(x151 x152:Int)(x153 x154 x155:Int)(x156:List Int)(x157:List (List Int))(x158 x159 x160:List Int)(k:Ex→St→Option R):
  gB 0 Q130.h36 (fun s k=>bB (Q130.E N) 376 Q130.b36 s k) n [.c (.int .i64 x151),.sw 0 4,.mref 1,.sw 2 4,.c (.int .i64 x152),.c (.int .i64 x153),.sw 3 3,.c (.int .i64 x154),.c (.int .i64 x155)] [.ints .i64 x156,.mp .i64 3 x157 (.ints .i64 x158),.ints .i64 x159,.ints .i64 x160] k=Q130.l36 N n x151 x152 x153 x154 x155 x156 x157 x158 x159 x160 (fun x161 x162 x163 x164 x165 x166 x167=>k (.exit 10) ⟨xC Q130.h36.out [.c (.int .i64 x161),.sw 0 4,.mref 1,.sw 2 4,.c (.int .i64 x162),.c (.int .i64 x163)],[.ints .i64 x164,.mp .i64 3 x165 (.ints .i64 x166),.ints .i64 x167]⟩):=by
 induction n generalizing x151 x152 x153 x154 x155 x156 x157 x158 x159 x160 with
 |zero=>kernel_rfl
 |succ n ih=>
  simp only[Q130.l36,←ih]
  kernel_rfl
noncomputable def Q130.b21:Code:=sA ((eA (bo Tryz.f47)).getD 2 .skip)
theorem Q130.l21_eq {R:Type}(N n:Nat)(x57 x58 x59:Int)(x60:List Int)(x61:List (List Int))(x62 x63:List Int)(k:Ex→St→Option R):
  gB 0 Q130.h21 (fun s k=>bB (Q130.E N) 388 Q130.b21 s k) n [.c (.int .i64 x57),.sw 0 4,.mref 1,.sw 2 4,.c (.int .i64 x58),.c (.int .i64 x59)] [.ints .i64 x60,.mp .i64 3 x61 (.ints .i64 x62),.ints .i64 x63] k=Q130.l21 N n x57 x58 x59 x60 x61 x62 x63 (fun x175=>k (.exit 4) ⟨xC Q130.h21.out [.sw 0 4],[.ints .i64 x175]⟩):=by
 induction n generalizing x57 x58 x59 x60 x61 x62 x63 with
 |zero=>kernel_rfl
 |succ n ih=>
  simp only[Q130.l21,←ih]
  kernel_rfl
noncomputable def Q130.dec (v:V)(bs:List rA):Option (List Int):=match v,bs with
 | .sw 0 4,[.ints .i64 z0]=>some z0
 |_,_=>none
theorem Q130.f_eq (N:Nat)(a1:List Int)(a2 a3:Int)(a4 a5:Int)(a6 a7:Int):
  cB (Q130.E N) (bo Tryz.f47) [.il .i64 3 a1,.agg [.c (.int .i64 a2),.c (.int .i64 a3),.c (.int .i64 a4)],.c (.int .i64 a5),.c (.int .i64 a6),.c (.int .i64 a7)] [] Q130.dec=Q130.f N a1 a2 a3 a4 a5 a6 a7:=by kernel_rfl
noncomputable def Q130.ent (N:Nat):xA:=tF (List Int) 1 [true,true,true,true,true] [.il .i64 3,.recd [.any,.any,.any],.any,.any,.any] fun
 | [.il .i64 3 a1,.agg [.c (.int .i64 a2),.c (.int .i64 a3),.c (.int .i64 a4)],.c (.int .i64 a5),.c (.int .i64 a6),.c (.int .i64 a7)]=>some (Q130.f N a1 a2 a3 a4 a5 a6 a7,fun r=>.one (.sw 0 4) [.ints .i64 r])
 |_=>none
theorem Q130.env (N:Nat):aB Tryz.prog (Q130.E N):=⟨(.cons gD (.cons sL (.cons fL (.cons rC (.cons uo (.cons gL (.cons iL (.cons gi .nil)))))))),(.cons (Q128.ent_ok N) (.cons (Q129.ent_ok N) (.cons (Q125.ent_ok N) (.cons (Q127.ent_ok N) .nil))))⟩
theorem Q130.k36 (N:Nat):uB Tryz.prog Tryz.f47 (Q130.E N) (.loop Q130.b36):=zC (Q130.env N) bA 376 (c:=Q130.c36 N) cA.n fun R vs H k r h=>by unfold Q130.c36 at h;dsimp only at h;split at h;exact⟨_,Q130.l36_eq .. ▸h⟩;cases h
theorem Q130.k30 (N:Nat):uB Tryz.prog Tryz.f47 (Q130.E N) (.loop Q130.b30):=zC (Q130.env N) bA 369 (c:=Q130.c30 N) cA.n fun R vs H k r h=>by unfold Q130.c30 at h;dsimp only at h;split at h;exact⟨_,Q130.l30_eq .. ▸h⟩;cases h
theorem Q130.k27 (N:Nat):uB Tryz.prog Tryz.f47 (Q130.E N) (.loop Q130.b27):=zC (Q130.env N) bA 376 (c:=Q130.c27 N) (cA.of (l:=[(.loop (sA ((eA (bo Tryz.f47)).getD 4 .skip)))]) (by kernel_rfl) (cA.cons (Q130.k30 N) cA.nil)) fun R vs H k r h=>by unfold Q130.c27 at h;dsimp only at h;split at h;exact⟨_,Q130.l27_eq .. ▸h⟩;cases h
theorem Q130.k21 (N:Nat):uB Tryz.prog Tryz.f47 (Q130.E N) (.loop Q130.b21):=zC (Q130.env N) bA 388 (c:=Q130.c21 N) (cA.of (l:=[(.loop (sA ((eA (bo Tryz.f47)).getD 3 .skip))),(.loop (sA ((eA (bo Tryz.f47)).getD 4 .skip))),(.loop (sA ((eA (bo Tryz.f47)).getD 5 .skip)))]) (by kernel_rfl) (cA.cons (Q130.k27 N) (cA.cons (Q130.k30 N) (cA.cons (Q130.k36 N) cA.nil)))) fun R vs H k r h=>by unfold Q130.c21 at h;dsimp only at h;split at h;exact⟨_,Q130.l21_eq .. ▸h⟩;cases h
theorem Q130.k11 (N:Nat):uB Tryz.prog Tryz.f47 (Q130.E N) (.loop Q130.b11):=zC (Q130.env N) bA 392 (c:=Q130.c11 N) cA.n fun R vs H k r h=>by unfold Q130.c11 at h;dsimp only at h;split at h;exact⟨_,Q130.l11_eq .. ▸h⟩;cases h
theorem Q130.k3 (N:Nat):uB Tryz.prog Tryz.f47 (Q130.E N) (.loop Q130.b3):=zC (Q130.env N) bA 394 (c:=Q130.c3 N) cA.n fun R vs H k r h=>by unfold Q130.c3 at h;dsimp only at h;split at h;exact⟨_,Q130.l3_eq .. ▸h⟩;cases h
theorem Q130.spec (N:Nat)(a1:List Int)(a2 a3:Int)(a4 a5:Int)(a6 a7:Int)(r:List Int)(h:Q130.f N a1 a2 a3 a4 a5 a6 a7=some r):fA Tryz.prog 47 [.il .i64 3 a1,.agg [.c (.int .i64 a2),.c (.int .i64 a3),.c (.int .i64 a4)],.c (.int .i64 a5),.c (.int .i64 a6),.c (.int .i64 a7)] [] (.sw 0 4) ([.ints .i64 r]):=vA (Q130.env N) bA Tryz.func47 (cA.of (l:=[(.loop (sA ((eA (bo Tryz.f47)).getD 0 .skip))),(.loop (sA ((eA (bo Tryz.f47)).getD 1 .skip))),(.loop (sA ((eA (bo Tryz.f47)).getD 2 .skip))),(.loop (sA ((eA (bo Tryz.f47)).getD 3 .skip))),(.loop (sA ((eA (bo Tryz.f47)).getD 4 .skip))),(.loop (sA ((eA (bo Tryz.f47)).getD 5 .skip)))]) (by kernel_rfl) (cA.cons (Q130.k3 N) (cA.cons (Q130.k11 N) (cA.cons (Q130.k21 N) (cA.cons (Q130.k27 N) (cA.cons (Q130.k30 N) (cA.cons (Q130.k36 N) cA.nil))))))) ((Q130.f_eq ..).trans h) fun v b e=>by unfold Q130.dec at e;split at e<;>cases e;exact⟨rfl,rfl⟩
theorem Q130.ent_ok (N:Nat):uA Tryz.prog 47 (Q130.ent N):=yA fun v a e h=>by split at h;exact mC (Q:=fun e=>fA _ _ _ _ (e a).pick.1 (e a).pick.2) h fun k=>Q130.spec N _ _ _ _ _ _ _ a k;cases h
noncomputable def Q131.l13 {R:Type}(N:Nat):Nat→Int→Int→List Int→Int→Int→Int→Int→List Int→Int→Int→Int→List Int→Int→Int→(Int→Int→List Int→Int→Int→List Int→Int→Int→Int→List Int→Int→Int→Option R)→Option R
 |0,_,_,_,_,_,_,_,_,_,_,_,_,_,_,_=>none
 |n+1,x14,x15,x16,x17,x18,x19,x20,x21,x22,x23,x24,x25,x26,x27,k2=>
  bif decide (x20<x19)then
   Q131.l13 N n x14 (aA (x15*x26)) x16 x17 x18 x19 (aA (x20+1)) x21 x22 x23 x24 x25 x26 x27 k2
  else
  k2 x14 x15 x16 x17 x18 x21 x22 x23 x24 x25 x26 x27
noncomputable def Q131.l17 {R:Type}(N:Nat):Nat→Int→List Int→Int→Int→Int→Int→List Int→Int→Int→Int→List Int→List Int→(Int→List Int→Int→Int→List Int→Int→Int→Int→List Int→Option R)→Option R
 |0,_,_,_,_,_,_,_,_,_,_,_,_,_=>none
 |n+1,x53,x54,x55,x56,x57,x58,x59,x60,x61,x62,x63,x64,k4=>
  bif decide (x58<x57)then
   bif (decide (0≤x58))&&(decide (x58<(x64.length/4:Int)))then
    bif x58==(x63.length/4:Int)then
     bif jB ((x63.length+4)/4) 32 then
      bif (decide (0≤x58))&&(decide (x58<(((x63++[x60,x61,x62,1]).length)/4:Int)))then
       (Q127.f N ((x63++[x60,x61,x62,1]).getD (x58.toNat*4) 0) ((x63++[x60,x61,x62,1]).getD ((x58.toNat*4)+1) 0) ((x63++[x60,x61,x62,1]).getD ((x58.toNat*4)+2) 0) (x64.getD (x58.toNat*4) 0) (x64.getD ((x58.toNat*4)+1) 0) (x64.getD ((x58.toNat*4)+2) 0)).bind fun r65=>
       bif (decide (0≤x58))&&(decide (x58<(((x63++[x60,x61,x62,1]).length)/4:Int)))then
        bif (decide (0≤x58))&&(decide (x58<(((x63++[x60,x61,x62,1]).length)/4:Int)))then
         Q131.l17 N n x53 x54 x55 x56 x57 (aA (x58+1)) x59 x60 x61 x62 (((((x63++[x60,x61,x62,1]).set (x58.toNat*4) r65.1).set ((x58.toNat*4)+1) r65.2.1).set ((x58.toNat*4)+2) r65.2.2).set ((x58.toNat*4)+3) (aA (((x63++[x60,x61,x62,1]).getD ((x58.toNat*4)+3) 0)*(x64.getD ((x58.toNat*4)+3) 0)))) x64 k4
        else none
       else none
      else none
     else none
    else
    bif (decide (0≤x58))&&(decide (x58<(x63.length/4:Int)))then
     (Q127.f N (x63.getD (x58.toNat*4) 0) (x63.getD ((x58.toNat*4)+1) 0) (x63.getD ((x58.toNat*4)+2) 0) (x64.getD (x58.toNat*4) 0) (x64.getD ((x58.toNat*4)+1) 0) (x64.getD ((x58.toNat*4)+2) 0)).bind fun r66=>
     bif (decide (0≤x58))&&(decide (x58<(x63.length/4:Int)))then
      bif (decide (0≤x58))&&(decide (x58<(x63.length/4:Int)))then
       Q131.l17 N n x53 x54 x55 x56 x57 (aA (x58+1)) x59 x60 x61 x62 ((((x63.set (x58.toNat*4) r66.1).set ((x58.toNat*4)+1) r66.2.1).set ((x58.toNat*4)+2) r66.2.2).set ((x58.toNat*4)+3) (aA ((x63.getD ((x58.toNat*4)+3) 0)*(x64.getD ((x58.toNat*4)+3) 0)))) x64 k4
      else none
     else none
    else none
   else none
  else
  k4 x53 x54 x55 x56 x59 x60 x61 x62 x63
noncomputable def Q131.l9 {R:Type}(N:Nat):Nat→Int→List Int→Int→Int→List Int→Int→Int→Int→List Int→(List Int→Option R)→Option R
 |0,_,_,_,_,_,_,_,_,_,_=>none
 |n+1,x5,x6,x7,x8,x9,x10,x11,x12,x13,k0=>
  bif decide (x8<x7)then
   bif (decide (0≤x8))&&(decide (x8<(x6.length/2:Int)))then
    Q131.l13 N N x5 1 x6 x7 x8 (x6.getD ((x8.toNat*2)+1) 0) 0 x9 x10 x11 x12 x13 (x6.getD (x8.toNat*2) 0) (x6.getD ((x8.toNat*2)+1) 0)
     (fun y40 y41 y42 y43 y44 y45 y46 y47 y48 y49 y50 y51=>
      (Q130.f N y45 y46 y47 y48 y40 y50 y41).bind fun r52=>
      Q131.l17 N N y40 y42 y43 y44 (r52.length/4:Int) 0 y45 y46 y47 y48 y49 r52
       (fun y76 y77 y78 y79 y80 y81 y82 y83 y84=>
        Q131.l9 N n y76 y77 y78 (aA (y79+1)) y80 y81 y82 y83 y84 k0))
   else none
  else
  k0 x13
noncomputable def Q131.f (N:Nat)(a1:Int):Option (List Int×Int):=
 (Q114.f N a1).bind fun r2=>
 bif r2.2 != 0 then
  some ([],r2.2)
 else
 (Q83.f N a1).bind fun r3=>
 (Q117.f N (r2.1.length/3:Int)).bind fun r4=>
 Q131.l9 N N (r2.1.length/3:Int) r4.1 (r4.1.length/2:Int) 0 r2.1 r3.1 r3.2.1 r3.2.2.1 []
  (fun y86=>
   (Q126.f N y86).bind fun r87=>
   some (r87,0))
noncomputable def Q131.h9:yC:=⟨[(4,.row .i64 3),(6,.box [.any,.any,.any]),(8,.any),(9,.row .i64 4),(37,.il .i64 2),(38,.any),(39,.any)],[(9,.row .i64 4)]⟩
noncomputable def Q131.h13:yC:=⟨[(4,.row .i64 3),(6,.box [.any,.any,.any]),(8,.any),(9,.row .i64 4),(13,.box [.any,.any]),(14,.any),(37,.il .i64 2),(38,.any),(39,.any),(44,.any),(45,.any)],[(4,.row .i64 3),(6,.box [.any,.any,.any]),(8,.any),(9,.row .i64 4),(13,.box [.any,.any]),(14,.any),(37,.il .i64 2),(38,.any),(39,.any)]⟩
noncomputable def Q131.h17:yC:=⟨[(4,.row .i64 3),(6,.box [.any,.any,.any]),(8,.any),(9,.row .i64 4),(37,.il .i64 2),(38,.any),(39,.any),(58,.row .i64 4),(59,.any),(60,.any)],[(4,.row .i64 3),(6,.box [.any,.any,.any]),(8,.any),(9,.row .i64 4),(37,.il .i64 2),(38,.any),(39,.any)]⟩
noncomputable def Q131.c13 (N:Nat):uH:=⟨fun vs H k=>match vs,H with
 | [.sw 0 3,.ptr 1 0 3,.c (.int .i64 x14),.sw 2 4,.ptr 3 0 2,.c (.int .i64 x15),.il .i64 2 x16,.c (.int .i64 x17),.c (.int .i64 x18),.c (.int .i64 x19),.c (.int .i64 x20)],[.ints .i64 x21,.vals [.c (.int .i64 x22),.c (.int .i64 x23),.c (.int .i64 x24)],.ints .i64 x25,.vals [.c (.int .i64 x26),.c (.int .i64 x27)]]=>Q131.l13 N N x14 x15 x16 x17 x18 x19 x20 x21 x22 x23 x24 x25 x26 x27 (fun x28 x29 x30 x31 x32 x33 x34 x35 x36 x37 x38 x39=>k (.exit 2) ⟨xC Q131.h13.out [.sw 0 3,.ptr 1 0 3,.c (.int .i64 x28),.sw 2 4,.ptr 3 0 2,.c (.int .i64 x29),.il .i64 2 x30,.c (.int .i64 x31),.c (.int .i64 x32)],[.ints .i64 x33,.vals [.c (.int .i64 x34),.c (.int .i64 x35),.c (.int .i64 x36)],.ints .i64 x37,.vals [.c (.int .i64 x38),.c (.int .i64 x39)]]⟩)
 |_,_=>none⟩
noncomputable def Q131.c17 (N:Nat):uH:=⟨fun vs H k=>match vs,H with
 | [.sw 0 3,.ptr 1 0 3,.c (.int .i64 x53),.sw 2 4,.il .i64 2 x54,.c (.int .i64 x55),.c (.int .i64 x56),.sw 3 4,.c (.int .i64 x57),.c (.int .i64 x58)],[.ints .i64 x59,.vals [.c (.int .i64 x60),.c (.int .i64 x61),.c (.int .i64 x62)],.ints .i64 x63,.ints .i64 x64]=>Q131.l17 N N x53 x54 x55 x56 x57 x58 x59 x60 x61 x62 x63 x64 (fun x67 x68 x69 x70 x71 x72 x73 x74 x75=>k (.exit 4) ⟨xC Q131.h17.out [.sw 0 3,.ptr 1 0 3,.c (.int .i64 x67),.sw 2 4,.il .i64 2 x68,.c (.int .i64 x69),.c (.int .i64 x70)],[.ints .i64 x71,.vals [.c (.int .i64 x72),.c (.int .i64 x73),.c (.int .i64 x74)],.ints .i64 x75]⟩)
 |_,_=>none⟩
noncomputable def Q131.c9 (N:Nat):uH:=⟨fun vs H k=>match vs,H with
 | [.sw 0 3,.ptr 1 0 3,.c (.int .i64 x5),.sw 2 4,.il .i64 2 x6,.c (.int .i64 x7),.c (.int .i64 x8)],[.ints .i64 x9,.vals [.c (.int .i64 x10),.c (.int .i64 x11),.c (.int .i64 x12)],.ints .i64 x13]=>Q131.l9 N N x5 x6 x7 x8 x9 x10 x11 x12 x13 (fun x85=>k (.exit 0) ⟨xC Q131.h9.out [.sw 0 4],[.ints .i64 x85]⟩)
 |_,_=>none⟩
noncomputable def Q131.E (N:Nat):bD:=xE [(2,fR),(3,Ci),(23,gd),(33,aI),(53,ge),(57,gf),(60,Ck),(64,E0)] [(23,Q114.ent N),(27,Q83.ent N),(46,Q117.ent N),(47,Q130.ent N),(39,Q127.ent N),(48,Q126.ent N)] [(9,Q131.h9),(13,Q131.h13),(17,Q131.h17)] [(13,Q131.c13 N),(17,Q131.c17 N),(9,Q131.c9 N)] N [.tmp 2,.tmp 3] [.il .i64 4,.any] 0 99
noncomputable def Q131.b13:Code:=sA ((eA (bo Tryz.f28)).getD 1 .skip)
theorem Q131.l13_eq {R:Type}(N n:Nat)(x14 x15:Int)(x16:List Int)(x17 x18:Int)(x19 x20:Int)(x21:List Int)(x22 x23 x24:Int)(x25:List Int)(x26 x27:Int)(k:Ex→St→Option R):
  gB 0 Q131.h13 (fun s k=>bB (Q131.E N) 379 Q131.b13 s k) n [.sw 0 3,.ptr 1 0 3,.c (.int .i64 x14),.sw 2 4,.ptr 3 0 2,.c (.int .i64 x15),.il .i64 2 x16,.c (.int .i64 x17),.c (.int .i64 x18),.c (.int .i64 x19),.c (.int .i64 x20)] [.ints .i64 x21,.vals [.c (.int .i64 x22),.c (.int .i64 x23),.c (.int .i64 x24)],.ints .i64 x25,.vals [.c (.int .i64 x26),.c (.int .i64 x27)]] k=Q131.l13 N n x14 x15 x16 x17 x18 x19 x20 x21 x22 x23 x24 x25 x26 x27 (fun x28 x29 x30 x31 x32 x33 x34 x35 x36 x37 x38 x39=>k (.exit 2) ⟨xC Q131.h13.out [.sw 0 3,.ptr 1 0 3,.c (.int .i64 x28),.sw 2 4,.ptr 3 0 2,.c (.int .i64 x29),.il .i64 2 x30,.c (.int .i64 x31),.c (.int .i64 x32)],[.ints .i64 x33,.vals [.c (.int .i64 x34),.c (.int .i64 x35),.c (.int .i64 x36)],.ints .i64 x37,.vals [.c (.int .i64 x38),.c (.int .i64 x39)]]⟩):=by
 induction n generalizing x14 x15 x16 x17 x18 x19 x20 x21 x22 x23 x24 x25 x26 x27 with
 |zero=>kernel_rfl
 |succ n ih=>
  simp only[Q131.l13,←ih]
  kernel_rfl
noncomputable def Q131.b17:Code:=sA ((eA (bo Tryz.f28)).getD 2 .skip)
theorem Q131.l17_eq {R:Type}(N n:Nat)(x53:Int)(x54:List Int)(x55 x56:Int)(x57 x58:Int)(x59:List Int)(x60 x61 x62:Int)(x63 x64:List Int)(k:Ex→St→Option R):
  gB 0 Q131.h17 (fun s k=>bB (Q131.E N) 379 Q131.b17 s k) n [.sw 0 3,.ptr 1 0 3,.c (.int .i64 x53),.sw 2 4,.il .i64 2 x54,.c (.int .i64 x55),.c (.int .i64 x56),.sw 3 4,.c (.int .i64 x57),.c (.int .i64 x58)] [.ints .i64 x59,.vals [.c (.int .i64 x60),.c (.int .i64 x61),.c (.int .i64 x62)],.ints .i64 x63,.ints .i64 x64] k=Q131.l17 N n x53 x54 x55 x56 x57 x58 x59 x60 x61 x62 x63 x64 (fun x67 x68 x69 x70 x71 x72 x73 x74 x75=>k (.exit 4) ⟨xC Q131.h17.out [.sw 0 3,.ptr 1 0 3,.c (.int .i64 x67),.sw 2 4,.il .i64 2 x68,.c (.int .i64 x69),.c (.int .i64 x70)],[.ints .i64 x71,.vals [.c (.int .i64 x72),.c (.int .i64 x73),.c (.int .i64 x74)],.ints .i64 x75]⟩):=by
 induction n generalizing x53 x54 x55 x56 x57 x58 x59 x60 x61 x62 x63 x64 with
 |zero=>kernel_rfl
 |succ n ih=>
  simp only[Q131.l17,←ih]
  kernel_rfl
noncomputable def Q131.b9:Code:=sA ((eA (bo Tryz.f28)).getD 0 .skip)
theorem Q131.l9_eq {R:Type}(N n:Nat)(x5:Int)(x6:List Int)(x7 x8:Int)(x9:List Int)(x10 x11 x12:Int)(x13:List Int)(k:Ex→St→Option R):
  gB 0 Q131.h9 (fun s k=>bB (Q131.E N) 389 Q131.b9 s k) n [.sw 0 3,.ptr 1 0 3,.c (.int .i64 x5),.sw 2 4,.il .i64 2 x6,.c (.int .i64 x7),.c (.int .i64 x8)] [.ints .i64 x9,.vals [.c (.int .i64 x10),.c (.int .i64 x11),.c (.int .i64 x12)],.ints .i64 x13] k=Q131.l9 N n x5 x6 x7 x8 x9 x10 x11 x12 x13 (fun x85=>k (.exit 0) ⟨xC Q131.h9.out [.sw 0 4],[.ints .i64 x85]⟩):=by
 induction n generalizing x5 x6 x7 x8 x9 x10 x11 x12 x13 with
 |zero=>kernel_rfl
 |succ n ih=>
  simp only[Q131.l9,←ih]
  kernel_rfl
noncomputable def Q131.dec (v:V)(bs:List rA):Option (List Int×Int):=match v,bs with
 | .tup [.il .i64 4 z0,.c (.int .i64 z1)],[]=>some (z0,z1)
 |_,_=>none
theorem Q131.f_eq (N:Nat)(a1:Int):
  cB (Q131.E N) (bo Tryz.f28) [.c (.int .i64 a1)] [] Q131.dec=Q131.f N a1:=by kernel_rfl
noncomputable def Q131.ent (N:Nat):xA:=tF (List Int×Int) 0 [true] [.any] fun
 | [.c (.int .i64 a1)]=>some (Q131.f N a1,fun r=>.one (.tup [.il .i64 4 r.1,.c (.int .i64 r.2)]) [])
 |_=>none
theorem Q131.env (N:Nat):aB Tryz.prog (Q131.E N):=⟨(.cons gD (.cons sL (.cons fL (.cons rC (.cons gL (.cons iL (.cons oW (.cons gg .nil)))))))),(.cons (Q114.ent_ok N) (.cons (Q83.ent_ok N) (.cons (Q117.ent_ok N) (.cons (Q130.ent_ok N) (.cons (Q127.ent_ok N) (.cons (Q126.ent_ok N) .nil))))))⟩
theorem Q131.k17 (N:Nat):uB Tryz.prog Tryz.f28 (Q131.E N) (.loop Q131.b17):=zC (Q131.env N) bA 379 (c:=Q131.c17 N) cA.n fun R vs H k r h=>by unfold Q131.c17 at h;dsimp only at h;split at h;exact⟨_,Q131.l17_eq .. ▸h⟩;cases h
theorem Q131.k13 (N:Nat):uB Tryz.prog Tryz.f28 (Q131.E N) (.loop Q131.b13):=zC (Q131.env N) bA 379 (c:=Q131.c13 N) cA.n fun R vs H k r h=>by unfold Q131.c13 at h;dsimp only at h;split at h;exact⟨_,Q131.l13_eq .. ▸h⟩;cases h
theorem Q131.k9 (N:Nat):uB Tryz.prog Tryz.f28 (Q131.E N) (.loop Q131.b9):=zC (Q131.env N) bA 389 (c:=Q131.c9 N) (cA.of (l:=[(.loop (sA ((eA (bo Tryz.f28)).getD 1 .skip))),(.loop (sA ((eA (bo Tryz.f28)).getD 2 .skip)))]) (by kernel_rfl) (cA.cons (Q131.k13 N) (cA.cons (Q131.k17 N) cA.nil))) fun R vs H k r h=>by unfold Q131.c9 at h;dsimp only at h;split at h;exact⟨_,Q131.l9_eq .. ▸h⟩;cases h
theorem Q131.spec (N:Nat)(a1:Int)(r:List Int×Int)(h:Q131.f N a1=some r):fA Tryz.prog 28 [.c (.int .i64 a1)] [] (.tup [.il .i64 4 r.1,.c (.int .i64 r.2)]) ([]):=vA (Q131.env N) bA Tryz.func28 (cA.of (l:=[(.loop (sA ((eA (bo Tryz.f28)).getD 0 .skip))),(.loop (sA ((eA (bo Tryz.f28)).getD 1 .skip))),(.loop (sA ((eA (bo Tryz.f28)).getD 2 .skip)))]) (by kernel_rfl) (cA.cons (Q131.k9 N) (cA.cons (Q131.k13 N) (cA.cons (Q131.k17 N) cA.nil)))) ((Q131.f_eq ..).trans h) fun v b e=>by unfold Q131.dec at e;split at e<;>cases e;exact⟨rfl,rfl⟩
theorem Q131.ent_ok (N:Nat):uA Tryz.prog 28 (Q131.ent N):=yA fun v a e h=>by split at h;exact mC (Q:=fun e=>fA _ _ _ _ (e a).pick.1 (e a).pick.2) h fun k=>Q131.spec N _ a k;cases h
noncomputable def Q132.l5 {R:Type}(N:Nat):Nat→List Int→Int→Int→List Int→List Int→(List Int→List Int→Option R)→Option R
 |0,_,_,_,_,_,_=>none
 |n+1,x3,x4,x5,x6,x7,k0=>
  bif decide (x5<x4)then
   bif (decide (0≤x5))&&(decide (x5<(x3.length/4:Int)))then
    bif jB ((x6.length+3)/3) 24 then
     bif jB (x7.length+1) 8 then
      Q132.l5 N n x3 x4 (aA (x5+1)) (x6++[x3.getD (x5.toNat*4) 0,x3.getD ((x5.toNat*4)+1) 0,x3.getD ((x5.toNat*4)+2) 0]) (x7++[x3.getD ((x5.toNat*4)+3) 0]) k0
     else none
    else none
   else none
  else
  k0 x6 x7
noncomputable def Q132.f (N:Nat)(a1:Int):Option (List Int×List Int×Int):=
 (Q131.f N a1).bind fun r2=>
 bif r2.2 != 0 then
  some ([],[],r2.2)
 else
 Q132.l5 N N r2.1 (r2.1.length/4:Int) 0 [] []
  (fun y10 y11=>
   some (y10,y11,0))
noncomputable def Q132.h5:yC:=⟨[(2,.row .i64 3),(3,.row .i64 1),(16,.il .i64 4),(17,.any),(18,.any)],[(2,.row .i64 3),(3,.row .i64 1)]⟩
noncomputable def Q132.c5 (N:Nat):uH:=⟨fun vs H k=>match vs,H with
 | [.sw 0 3,.sw 1 1,.il .i64 4 x3,.c (.int .i64 x4),.c (.int .i64 x5)],[.ints .i64 x6,.ints .i64 x7]=>Q132.l5 N N x3 x4 x5 x6 x7 (fun x8 x9=>k (.exit 0) ⟨xC Q132.h5.out [.sw 0 3,.sw 1 1],[.ints .i64 x8,.ints .i64 x9]⟩)
 |_,_=>none⟩
noncomputable def Q132.E (N:Nat):bD:=xE [(2,fR),(23,gd),(24,Ch),(33,aI),(53,ge),(57,gf)] [(28,Q131.ent N)] [(5,Q132.h5)] [(5,Q132.c5 N)] N [.tmp 2,.tmp 3,.tmp 4] [.il .i64 3,.il .i64 1,.any] 0 35
noncomputable def Q132.b5:Code:=sA ((eA (bo Tryz.f11)).getD 0 .skip)
theorem Q132.l5_eq {R:Type}(N n:Nat)(x3:List Int)(x4 x5:Int)(x6 x7:List Int)(k:Ex→St→Option R):
  gB 0 Q132.h5 (fun s k=>bB (Q132.E N) 393 Q132.b5 s k) n [.sw 0 3,.sw 1 1,.il .i64 4 x3,.c (.int .i64 x4),.c (.int .i64 x5)] [.ints .i64 x6,.ints .i64 x7] k=Q132.l5 N n x3 x4 x5 x6 x7 (fun x8 x9=>k (.exit 0) ⟨xC Q132.h5.out [.sw 0 3,.sw 1 1],[.ints .i64 x8,.ints .i64 x9]⟩):=by
 induction n generalizing x3 x4 x5 x6 x7 with
 |zero=>kernel_rfl
 |succ n ih=>
  simp only[Q132.l5,←ih]
  kernel_rfl
noncomputable def Q132.dec (v:V)(bs:List rA):Option (List Int×List Int×Int):=match v,bs with
 | .tup [.il .i64 3 z0,.il .i64 1 z1,.c (.int .i64 z2)],[]=>some (z0,z1,z2)
 |_,_=>none
theorem Q132.f_eq (N:Nat)(a1:Int):
  cB (Q132.E N) (bo Tryz.f11) [.c (.int .i64 a1)] [] Q132.dec=Q132.f N a1:=by kernel_rfl
noncomputable def Q132.ent (N:Nat):xA:=tF (List Int×List Int×Int) 0 [true] [.any] fun
 | [.c (.int .i64 a1)]=>some (Q132.f N a1,fun r=>.one (.tup [.il .i64 3 r.1,.il .i64 1 r.2.1,.c (.int .i64 r.2.2)]) [])
 |_=>none
theorem Q132.env (N:Nat):aB Tryz.prog (Q132.E N):=⟨(.cons gD (.cons fL (.cons nW (.cons rC (.cons gL (.cons iL .nil)))))),(.cons (Q131.ent_ok N) .nil)⟩
theorem Q132.k5 (N:Nat):uB Tryz.prog Tryz.f11 (Q132.E N) (.loop Q132.b5):=zC (Q132.env N) bA 393 (c:=Q132.c5 N) cA.n fun R vs H k r h=>by unfold Q132.c5 at h;dsimp only at h;split at h;exact⟨_,Q132.l5_eq .. ▸h⟩;cases h
theorem Q132.spec (N:Nat)(a1:Int)(r:List Int×List Int×Int)(h:Q132.f N a1=some r):fA Tryz.prog 11 [.c (.int .i64 a1)] [] (.tup [.il .i64 3 r.1,.il .i64 1 r.2.1,.c (.int .i64 r.2.2)]) ([]):=vA (Q132.env N) bA Tryz.func11 (cA.of (l:=[(.loop (sA ((eA (bo Tryz.f11)).getD 0 .skip)))]) (by kernel_rfl) (cA.cons (Q132.k5 N) cA.nil)) ((Q132.f_eq ..).trans h) fun v b e=>by unfold Q132.dec at e;split at e<;>cases e;exact⟨rfl,rfl⟩
theorem Q132.ent_ok (N:Nat):uA Tryz.prog 11 (Q132.ent N):=yA fun v a e h=>by split at h;exact mC (Q:=fun e=>fA _ _ _ _ (e a).pick.1 (e a).pick.2) h fun k=>Q132.spec N _ a k;cases h
noncomputable def Q133.f (N:Nat)(a1 a2 a3:Int):Option (Int×Int×Int×Int×Int):=
 (Q87.f N a1 a2 a3).bind fun r4=>
 bif r4.2.2.2 != 0 then
  some (0,0,0,0,r4.2.2.2)
 else
 (Q47.f N a1 a2 a3).bind fun r5=>
 (Q115.f N r5).bind fun r6=>
 bif r6.2 != 0 then
  some (0,0,0,0,80)
 else
 (Q50.f N a1 a2 a3).bind fun r7=>
 some (r7.1,r7.2.1,r7.2.2.1,r6.1,r7.2.2.2.2.2.2.2)
noncomputable def Q133.E (N:Nat):bD:=xE [(2,fR),(33,aI),(72,xu)] [(45,Q87.ent N),(19,Q47.ent N),(17,Q115.ent N),(54,Q50.ent N)] [] [] N [.cell 2 33,.tmp 3,.tmp 4] [.recd [.any,.any,.any],.any,.any] 0 38
noncomputable def Q133.dec (v:V)(bs:List rA):Option (Int×Int×Int×Int×Int):=match v,bs with
 | .tup [.agg [.c (.int .i64 z0),.c (.int .i64 z1),.c (.int .i64 z2)],.c (.int .i64 z3),.c (.int .i64 z4)],[]=>some (z0,z1,z2,z3,z4)
 |_,_=>none
theorem Q133.f_eq (N:Nat)(a1 a2 a3:Int):
  cB (Q133.E N) (bo Tryz.f33) [.agg [.c (.int .i64 a1),.c (.int .i64 a2),.c (.int .i64 a3)]] [] Q133.dec=Q133.f N a1 a2 a3:=by kernel_rfl
noncomputable def Q133.ent (N:Nat):xA:=tF (Int×Int×Int×Int×Int) 0 [true] [.recd [.any,.any,.any]] fun
 | [.agg [.c (.int .i64 a1),.c (.int .i64 a2),.c (.int .i64 a3)]]=>some (Q133.f N a1 a2 a3,fun r=>.one (.tup [.agg [.c (.int .i64 r.1),.c (.int .i64 r.2.1),.c (.int .i64 r.2.2.1)],.c (.int .i64 r.2.2.2.1),.c (.int .i64 r.2.2.2.2)]) [])
 |_=>none
theorem Q133.env (N:Nat):aB Tryz.prog (Q133.E N):=⟨(.cons gD (.cons rC (.cons vS .nil))),(.cons (Q87.ent_ok N) (.cons (Q47.ent_ok N) (.cons (Q115.ent_ok N) (.cons (Q50.ent_ok N) .nil))))⟩
theorem Q133.spec (N:Nat)(a1 a2 a3:Int)(r:Int×Int×Int×Int×Int)(h:Q133.f N a1 a2 a3=some r):fA Tryz.prog 33 [.agg [.c (.int .i64 a1),.c (.int .i64 a2),.c (.int .i64 a3)]] [] (.tup [.agg [.c (.int .i64 r.1),.c (.int .i64 r.2.1),.c (.int .i64 r.2.2.1)],.c (.int .i64 r.2.2.2.1),.c (.int .i64 r.2.2.2.2)]) ([]):=vA (Q133.env N) bA Tryz.func33 cA.n ((Q133.f_eq ..).trans h) fun v b e=>by unfold Q133.dec at e;split at e<;>cases e;exact⟨rfl,rfl⟩
theorem Q133.ent_ok (N:Nat):uA Tryz.prog 33 (Q133.ent N):=yA fun v a e h=>by split at h;exact mC (Q:=fun e=>fA _ _ _ _ (e a).pick.1 (e a).pick.2) h fun k=>Q133.spec N _ _ _ a k;cases h
noncomputable def Q134.f (N:Nat)(a1 a2 a3:Int):Option (Int×Int):=
 (Q133.f N a1 a2 a3).bind fun r4=>
 bif r4.2.2.2.2 != 0 then
  some (0,r4.2.2.2.2)
 else
 (Q47.f N a1 a2 a3).bind fun r5=>
 (Q83.f N r5).bind fun r6=>
 (Q129.f N r4.1 r4.2.1 r4.2.2.1 r6.1 r6.2.1 r6.2.2.1 r4.2.2.2.1).bind fun r7=>
 some (r7,0)
noncomputable def Q134.E (N:Nat):bD:=xE [(33,aI)] [(33,Q133.ent N),(19,Q47.ent N),(27,Q83.ent N),(34,Q129.ent N)] [] [] N [.tmp 2,.tmp 3] [.any,.any] 0 28
noncomputable def Q134.dec (v:V)(bs:List rA):Option (Int×Int):=match v,bs with
 | .tup [.c (.int .i64 z0),.c (.int .i64 z1)],[]=>some (z0,z1)
 |_,_=>none
theorem Q134.f_eq (N:Nat)(a1 a2 a3:Int):
  cB (Q134.E N) (bo Tryz.f14) [.agg [.c (.int .i64 a1),.c (.int .i64 a2),.c (.int .i64 a3)]] [] Q134.dec=Q134.f N a1 a2 a3:=by kernel_rfl
noncomputable def Q134.ent (N:Nat):xA:=tF (Int×Int) 0 [true] [.recd [.any,.any,.any]] fun
 | [.agg [.c (.int .i64 a1),.c (.int .i64 a2),.c (.int .i64 a3)]]=>some (Q134.f N a1 a2 a3,fun r=>.one (.tup [.c (.int .i64 r.1),.c (.int .i64 r.2)]) [])
 |_=>none
theorem Q134.env (N:Nat):aB Tryz.prog (Q134.E N):=⟨(.cons rC .nil),(.cons (Q133.ent_ok N) (.cons (Q47.ent_ok N) (.cons (Q83.ent_ok N) (.cons (Q129.ent_ok N) .nil))))⟩
theorem Q134.spec (N:Nat)(a1 a2 a3:Int)(r:Int×Int)(h:Q134.f N a1 a2 a3=some r):fA Tryz.prog 14 [.agg [.c (.int .i64 a1),.c (.int .i64 a2),.c (.int .i64 a3)]] [] (.tup [.c (.int .i64 r.1),.c (.int .i64 r.2)]) ([]):=vA (Q134.env N) bA Tryz.func14 cA.n ((Q134.f_eq ..).trans h) fun v b e=>by unfold Q134.dec at e;split at e<;>cases e;exact⟨rfl,rfl⟩
theorem Q134.ent_ok (N:Nat):uA Tryz.prog 14 (Q134.ent N):=yA fun v a e h=>by split at h;exact mC (Q:=fun e=>fA _ _ _ _ (e a).pick.1 (e a).pick.2) h fun k=>Q134.spec N _ _ _ a k;cases h
noncomputable def Gs:TI:=⟨.int .u16,1,2,[.int .u16 0]⟩
theorem Dz:uC Tryz.prog 37 Gs:=fD (by kernel_rfl) (by kernel_rfl) (by kernel_rfl) (by kernel_rfl) (by kernel_rfl) (by kernel_rfl) (by kernel_rfl) (Tryz.underlying37) (by kernel_rfl)
noncomputable def Q138.l4 {R:Type}(N:Nat):Nat→Int→Int→Int→Int→Int→Int→Int→Int→Int→Int→(Int→Option R)→Option R
 |0,_,_,_,_,_,_,_,_,_,_,_=>none
 |n+1,x6,x7,x8,x9,x10,x11,x12,x13,x14,x15,k0=>
  bif !((x13==x10)&&((x14==x11)&&(x15==x12)))then
   (Q96.f N x13 x14 x15 x7 x8 x9).bind fun r16=>
   Q138.l4 N n (aA (x6+1)) x7 x8 x9 x10 x11 x12 r16.1 r16.2.1 r16.2.2 k0
  else
  k0 x6
noncomputable def Q138.f (N:Nat)(a1 a2 a3:Int):Option (Int):=
 (Q69.f N a1 a2 a3).bind fun r4=>
 (Q89.f N r4).bind fun r5=>
 Q138.l4 N N 1 a1 a2 a3 r5.1 r5.2.1 r5.2.2.1 a1 a2 a3
  (fun y18=>
   some y18)
noncomputable def Q139.l36 {R:Type}(N:Nat):Nat→Int→List Int→List Int→(List Int→Option R)→Option R
 |0,_,_,_,_=>none
 |n+1,x82,x83,x84,k10=>
  bif decide (x82≥0)then
   bif (decide (0≤x82))&&(decide (x82<(x83.length:Int)))then
    bif jB (x84.length+1) 8 then
     Q139.l36 N n (aA (x82-1)) x83 (x84++[x83.getD x82.toNat 0]) k10
    else none
   else none
  else
  k10 x84
noncomputable def Q140.f (N:Nat)(a1 a2 a3:Int):Option (Int×Int×Int×Int):=
 (Q99.f N a1 a2 a3).bind fun r4=>
 bif r4.2.2.2 != 0 then
  some (r4.1,r4.2.1,r4.2.2.1,r4.2.2.2)
 else
 (Q69.f N a1 a2 a3).bind fun r5=>
 bif decide (r5<(-65536))then
  some (0,0,0,80)
 else
 (Q99.f N r4.1 r4.2.1 r4.2.2.1).bind fun r6=>
 some (r6.1,r6.2.1,r6.2.2.1,0)
noncomputable def Q141.f (N:Nat)(a1 a2 a3:Int):Option (Int×Int):=
 (Q140.f N a1 a2 a3).bind fun r4=>
 bif r4.2.2.2 != 0 then
  some (0,r4.2.2.2)
 else
 (Q138.f N r4.1 r4.2.1 r4.2.2.1).bind fun r5=>
 some (r5,0)
noncomputable def Q144.f (N:Nat)(a1:Int):Option (Int):=
 bif (Int.tmod (aA ((aA (0- (aA (Int.tmod a1 20000))))-3)) 4)==(-1)then
  some (aA ((aA ((aA (0- (aA (Int.tmod a1 20000))))-3))-2))
 else
 bif (Int.tmod (aA ((aA (0- (aA (Int.tmod a1 20000))))-3)) 4)==(-2)then
  some (aA ((aA ((aA (0- (aA (Int.tmod a1 20000))))-3))-2))
 else
 some (aA ((aA (0- (aA (Int.tmod a1 20000))))-3))
noncomputable def Q144.E (N:Nat):bD:=xE [(2,fR),(37,Gs)] [] [] [] N [.tmp 2] [.any] 0 20
noncomputable def Q144.dec (v:V)(bs:List rA):Option (Int):=match v,bs with
 | .c (.int .i64 z0),[]=>some z0
 |_,_=>none
theorem Q144.f_eq (N:Nat)(a1:Int):
  cB (Q144.E N) (bo Tryz.f16) [.c (.int .u16 a1)] [] Q144.dec=Q144.f N a1:=by kernel_rfl
noncomputable def Q144.ent (N:Nat):xA:=tF (Int) 0 [true] [.any] fun
 | [.c (.int .u16 a1)]=>some (Q144.f N a1,fun r=>.one (.c (.int .i64 r)) [])
 |_=>none
theorem Q144.env (N:Nat):aB Tryz.prog (Q144.E N):=⟨(.cons gD (.cons Dz .nil)),.nil⟩
theorem Q144.spec (N:Nat)(a1 r:Int)(h:Q144.f N a1=some r):fA Tryz.prog 16 [.c (.int .u16 a1)] [] (.c (.int .i64 r)) ([]):=vA (Q144.env N) bA Tryz.func16 cA.n ((Q144.f_eq ..).trans h) fun v b e=>by unfold Q144.dec at e;split at e<;>cases e;exact⟨rfl,rfl⟩
theorem Q144.ent_ok (N:Nat):uA Tryz.prog 16 (Q144.ent N):=yA fun v a e h=>by split at h;exact mC (Q:=fun e=>fA _ _ _ _ (e a).pick.1 (e a).pick.2) h fun k=>Q144.spec N _ a k;cases h
noncomputable def Q145.l3 {R:Type}(N:Nat):Nat→List Int→List Int→Int→Int→Int→Int→Int→Int→Int→(Int→Int→Int→Int→Int→Int→Option R)→Option R
 |0,_,_,_,_,_,_,_,_,_,_=>none
 |n+1,x5,x6,x7,x8,x9,x10,x11,x12,x13,k0=>
  bif decide (x7<(x5.length/3:Int))then
   bif decide (x7<(x6.length:Int))then
    bif (decide (0≤x7))&&(decide (x7<(x5.length/3:Int)))then
     bif (decide (0≤x7))&&(decide (x7<(x6.length:Int)))then
      (Q88.f N (x5.getD (x7.toNat*3) 0) (x5.getD ((x7.toNat*3)+1) 0) (x5.getD ((x7.toNat*3)+2) 0) (x6.getD x7.toNat 0)).bind fun r14=>
      (Q86.f N x11 x12 x13 r14.1 r14.2.1 r14.2.2.1).bind fun r15=>
      Q145.l3 N n x5 x6 (aA (x7+1)) x8 x9 x10 r15.1 r15.2.1 r15.2.2.1 k0
     else none
    else none
   else
   k0 x8 x9 x10 x11 x12 x13
  else
  k0 x8 x9 x10 x11 x12 x13
noncomputable def Q145.f (N:Nat)(a1:Int)(a2 a3:List Int):Option (Int×Int×Int):=
 (Q83.f N a1).bind fun r4=>
 Q145.l3 N N a2 a3 0 0 0 0 r4.1 r4.2.1 r4.2.2.1
  (fun y22 y23 y24 y25 y26 y27=>
   some (y25,y26,y27))
noncomputable def Q145.h3:yC:=⟨[(1,.il .i64 3),(2,.il .i64 1),(6,.box [.any,.any,.any]),(7,.box [.any,.any,.any]),(9,.any)],[(6,.box [.any,.any,.any]),(7,.box [.any,.any,.any])]⟩
noncomputable def Q145.c3 (N:Nat):uH:=⟨fun vs H k=>match vs,H with
 | [.il .i64 3 x5,.il .i64 1 x6,.ptr 0 0 3,.ptr 1 0 3,.c (.int .i64 x7)],[.vals [.c (.int .i64 x8),.c (.int .i64 x9),.c (.int .i64 x10)],.vals [.c (.int .i64 x11),.c (.int .i64 x12),.c (.int .i64 x13)]]=>Q145.l3 N N x5 x6 x7 x8 x9 x10 x11 x12 x13 (fun x16 x17 x18 x19 x20 x21=>k (.exit 0) ⟨xC Q145.h3.out [.ptr 0 0 3,.ptr 1 0 3],[.vals [.c (.int .i64 x16),.c (.int .i64 x17),.c (.int .i64 x18)],.vals [.c (.int .i64 x19),.c (.int .i64 x20),.c (.int .i64 x21)]]⟩)
 |_,_=>none⟩
noncomputable def Q145.E (N:Nat):bD:=xE [(2,fR),(23,gd),(24,Ch),(33,aI)] [(27,Q83.ent N),(26,Q88.ent N),(24,Q86.ent N)] [(3,Q145.h3)] [(3,Q145.c3 N)] N [.cell 6 33] [.recd [.any,.any,.any]] 0 48
noncomputable def Q145.b3:Code:=sA ((eA (bo Tryz.f20)).getD 0 .skip)
theorem Q145.l3_eq {R:Type}(N n:Nat)(x5 x6:List Int)(x7 x8:Int)(x9 x10:Int)(x11 x12 x13:Int)(k:Ex→St→Option R):
  gB 0 Q145.h3 (fun s k=>bB (Q145.E N) 394 Q145.b3 s k) n [.il .i64 3 x5,.il .i64 1 x6,.ptr 0 0 3,.ptr 1 0 3,.c (.int .i64 x7)] [.vals [.c (.int .i64 x8),.c (.int .i64 x9),.c (.int .i64 x10)],.vals [.c (.int .i64 x11),.c (.int .i64 x12),.c (.int .i64 x13)]] k=Q145.l3 N n x5 x6 x7 x8 x9 x10 x11 x12 x13 (fun x16 x17 x18 x19 x20 x21=>k (.exit 0) ⟨xC Q145.h3.out [.ptr 0 0 3,.ptr 1 0 3],[.vals [.c (.int .i64 x16),.c (.int .i64 x17),.c (.int .i64 x18)],.vals [.c (.int .i64 x19),.c (.int .i64 x20),.c (.int .i64 x21)]]⟩):=by
 induction n generalizing x5 x6 x7 x8 x9 x10 x11 x12 x13 with
 |zero=>kernel_rfl
 |succ n ih=>
  simp only[Q145.l3,←ih]
  kernel_rfl
noncomputable def Q145.dec (v:V)(bs:List rA):Option (Int×Int×Int):=match v,bs with
 | .agg [.c (.int .i64 z0),.c (.int .i64 z1),.c (.int .i64 z2)],[]=>some (z0,z1,z2)
 |_,_=>none
theorem Q145.f_eq (N:Nat)(a1:Int)(a2 a3:List Int):
  cB (Q145.E N) (bo Tryz.f20) [.c (.int .i64 a1),.il .i64 3 a2,.il .i64 1 a3] [] Q145.dec=Q145.f N a1 a2 a3:=by kernel_rfl
noncomputable def Q145.ent (N:Nat):xA:=tF (Int×Int×Int) 0 [true,true,true] [.any,.il .i64 3,.il .i64 1] fun
 | [.c (.int .i64 a1),.il .i64 3 a2,.il .i64 1 a3]=>some (Q145.f N a1 a2 a3,fun r=>.one (.agg [.c (.int .i64 r.1),.c (.int .i64 r.2.1),.c (.int .i64 r.2.2)]) [])
 |_=>none
theorem Q145.env (N:Nat):aB Tryz.prog (Q145.E N):=⟨(.cons gD (.cons fL (.cons nW (.cons rC .nil)))),(.cons (Q83.ent_ok N) (.cons (Q88.ent_ok N) (.cons (Q86.ent_ok N) .nil)))⟩
theorem Q145.k3 (N:Nat):uB Tryz.prog Tryz.f20 (Q145.E N) (.loop Q145.b3):=zC (Q145.env N) bA 394 (c:=Q145.c3 N) cA.n fun R vs H k r h=>by unfold Q145.c3 at h;dsimp only at h;split at h;exact⟨_,Q145.l3_eq .. ▸h⟩;cases h
theorem Q145.spec (N:Nat)(a1:Int)(a2 a3:List Int)(r:Int×Int×Int)(h:Q145.f N a1 a2 a3=some r):fA Tryz.prog 20 [.c (.int .i64 a1),.il .i64 3 a2,.il .i64 1 a3] [] (.agg [.c (.int .i64 r.1),.c (.int .i64 r.2.1),.c (.int .i64 r.2.2)]) ([]):=vA (Q145.env N) bA Tryz.func20 (cA.of (l:=[(.loop (sA ((eA (bo Tryz.f20)).getD 0 .skip)))]) (by kernel_rfl) (cA.cons (Q145.k3 N) cA.nil)) ((Q145.f_eq ..).trans h) fun v b e=>by unfold Q145.dec at e;split at e<;>cases e;exact⟨rfl,rfl⟩
theorem Q145.ent_ok (N:Nat):uA Tryz.prog 20 (Q145.ent N):=yA fun v a e h=>by split at h;exact mC (Q:=fun e=>fA _ _ _ _ (e a).pick.1 (e a).pick.2) h fun k=>Q145.spec N _ _ _ a k;cases h
noncomputable def Q146.f (N:Nat):Option (Bool):=
 (Q132.f N (-23)).bind fun r1=>
 (Q134.f N 2 1 3).bind fun r2=>
 bif r1.2.2==0 then
  bif (r1.1.length/3:Int)==1 then
   bif (r1.2.1.length:Int)==1 then
    bif decide (0<(r1.2.1.length:Int))then
     bif (r1.2.1.getD 0 0)==3 then
      bif decide (0<(r1.1.length/3:Int))then
       bif (r1.1.getD 0 0)==2 then
        bif r2.1==3 then
         some (r2.2==0)
        else
        some false
       else
       some false
      else none
     else
     some false
    else none
   else
   some false
  else
  some false
 else
 some false
noncomputable def Q146.E (N:Nat):bD:=xE [(2,fR),(23,gd),(24,Ch),(33,aI)] [(11,Q132.ent N),(14,Q134.ent N)] [] [] N [.tmp 0] [.any] 0 49
noncomputable def Q146.dec (v:V)(bs:List rA):Option (Bool):=match v,bs with
 | .c (.bool z0),[]=>some z0
 |_,_=>none
theorem Q146.f_eq (N:Nat):
  cB (Q146.E N) (bo Tryz.f10) [] [] Q146.dec=Q146.f N:=by kernel_rfl
noncomputable def Q146.ent (N:Nat):xA:=tF (Bool) 0 [] [] fun
 | []=>some (Q146.f N,fun r=>.one (.c (.bool r)) [])
 |_=>none
theorem Q146.env (N:Nat):aB Tryz.prog (Q146.E N):=⟨(.cons gD (.cons fL (.cons nW (.cons rC .nil)))),(.cons (Q132.ent_ok N) (.cons (Q134.ent_ok N) .nil))⟩
theorem Q146.spec (N:Nat)(r:Bool)(h:Q146.f N=some r):fA Tryz.prog 10 [] [] (.c (.bool r)) ([]):=vA (Q146.env N) bA Tryz.func10 cA.n ((Q146.f_eq ..).trans h) fun v b e=>by unfold Q146.dec at e;split at e<;>cases e;exact⟨rfl,rfl⟩
theorem Q146.ent_ok (N:Nat):uA Tryz.prog 10 (Q146.ent N):=yA fun v a e h=>by split at h;exact mC (Q:=fun e=>fA _ _ _ _ (e a).pick.1 (e a).pick.2) h fun k=>Q146.spec N a k;cases h
noncomputable def Q150.l8 {R:Type}(N:Nat):Nat→Int→List Int→List Int→Int→Int→Int→(Int→List Int→List Int→Int→Int→Option R)→(Bool→Option R)→Option R
 |0,_,_,_,_,_,_,_,_=>none
 |n+1,x5,x6,x7,x8,x9,x10,k0,kr=>
  bif decide (x10<(x7.length:Int))then
   bif (decide (0≤x10))&&(decide (x10<(x6.length/3:Int)))then
    (Q134.f N (x6.getD (x10.toNat*3) 0) (x6.getD ((x10.toNat*3)+1) 0) (x6.getD ((x10.toNat*3)+2) 0)).bind fun r11=>
    bif (decide (0≤x10))&&(decide (x10<(x7.length:Int)))then
     bif decide ((x7.getD x10.toNat 0)<2)then
      kr false
     else
     bif decide (x10>0)then
      bif (decide (0≤x10))&&(decide (x10<(x7.length:Int)))then
       bif (decide (0≤(aA (x10-1))))&&(decide ((aA (x10-1))<(x7.length:Int)))then
        bif !((x7.getD ((aA (x10-1)).toNat) 0)==0)then
         bif (Int.tmod (x7.getD x10.toNat 0) (x7.getD ((aA (x10-1)).toNat) 0)) != 0 then
          kr false
         else
         bif r11.2 != 0 then
          kr false
         else
         bif (decide (0≤x10))&&(decide (x10<(x7.length:Int)))then
          bif r11.1 != (x7.getD x10.toNat 0)then
           kr false
          else
          bif (decide (0≤x10))&&(decide (x10<(x6.length/3:Int)))then
           (Q100.f N (x6.getD (x10.toNat*3) 0) (x6.getD ((x10.toNat*3)+1) 0) (x6.getD ((x10.toNat*3)+2) 0)).bind fun r13=>
           bif !r13 then
            kr false
           else
           bif (decide (0≤x10))&&(decide (x10<(x6.length/3:Int)))then
            (Q47.f N (x6.getD (x10.toNat*3) 0) (x6.getD ((x10.toNat*3)+1) 0) (x6.getD ((x10.toNat*3)+2) 0)).bind fun r14=>
            bif r14 != x5 then
             kr false
            else
            bif (decide (0≤x10))&&(decide (x10<(x7.length:Int)))then
             Q150.l8 N n x5 x6 x7 x8 (aA (x9*(x7.getD x10.toNat 0))) (aA (x10+1)) k0 kr
            else none
           else none
          else none
         else none
        else none
       else none
      else none
     else
     bif r11.2 != 0 then
      kr false
     else
     bif (decide (0≤x10))&&(decide (x10<(x7.length:Int)))then
      bif r11.1 != (x7.getD x10.toNat 0)then
       kr false
      else
      bif (decide (0≤x10))&&(decide (x10<(x6.length/3:Int)))then
       (Q100.f N (x6.getD (x10.toNat*3) 0) (x6.getD ((x10.toNat*3)+1) 0) (x6.getD ((x10.toNat*3)+2) 0)).bind fun r15=>
       bif !r15 then
        kr false
       else
       bif (decide (0≤x10))&&(decide (x10<(x6.length/3:Int)))then
        (Q47.f N (x6.getD (x10.toNat*3) 0) (x6.getD ((x10.toNat*3)+1) 0) (x6.getD ((x10.toNat*3)+2) 0)).bind fun r16=>
        bif r16 != x5 then
         kr false
        else
        bif (decide (0≤x10))&&(decide (x10<(x7.length:Int)))then
         Q150.l8 N n x5 x6 x7 x8 (aA (x9*(x7.getD x10.toNat 0))) (aA (x10+1)) k0 kr
        else none
       else none
      else none
     else none
    else none
   else none
  else
  k0 x5 x6 x7 x8 x9
noncomputable def Q150.l23 {R:Type}(N:Nat):Nat→Int→List Int→List Int→Int→Int→Int→Int→List (List Int)→List Int→List Int→(Int→List Int→List Int→Int→Int→List (List Int)→List Int→List Int→Option R)→Option R
 |0,_,_,_,_,_,_,_,_,_,_,_=>none
 |n+1,x35,x36,x37,x38,x39,x40,x41,x42,x43,x44,k4=>
  bif decide (x41<(x37.length:Int))then
   bif (decide (0≤x41))&&(decide (x41<(x37.length:Int)))then
    bif !((x37.getD x41.toNat 0)==0)then
     bif (decide (0≤x41))&&(decide (x41<(x44.length:Int)))then
      bif (decide (0≤x41))&&(decide (x41<(x37.length:Int)))then
       bif !((x37.getD x41.toNat 0)==0)then
        Q150.l23 N n x35 x36 x37 x38 x39 (aA (Int.tdiv x40 (x37.getD x41.toNat 0))) (aA (x41+1)) x42 x43 (x44.set x41.toNat (Int.tmod x40 (x37.getD x41.toNat 0))) k4
       else none
      else none
     else none
    else none
   else none
  else
  k4 x35 x36 x37 x38 x39 x42 x43 x44
noncomputable def Q150.l19 {R:Type}(N:Nat):Nat→Int→List Int→List Int→Int→Int→List (List Int)→List Int→List Int→(Unit→Option R)→(Bool→Option R)→Option R
 |0,_,_,_,_,_,_,_,_,_,_=>none
 |n+1,x27,x28,x29,x30,x31,x32,x33,x34,k2,kr=>
  bif decide (x31<x30)then
   Q150.l23 N N x27 x28 x29 x30 x31 x31 0 x32 x33 x34
    (fun y53 y54 y55 y56 y57 y58 y59 y60=>
     (Q145.f N y53 y54 y60).bind fun r61=>
     bif (decide (0≤(cE [r61.1,r61.2.1,r61.2.2] y58)))&&(decide ((cE [r61.1,r61.2.1,r61.2.2] y58)<((vB [r61.1,r61.2.1,r61.2.2] y58).length:Int)))then
      bif decide ((pE [r61.1,r61.2.1,r61.2.2] (vB [r61.1,r61.2.1,r61.2.2] y58) ((aG [r61.1,r61.2.1,r61.2.2] (pE [r61.1,r61.2.1,r61.2.2] y58 y59) y58 (List.take (List.length y58) y59)).set ((cE [r61.1,r61.2.1,r61.2.2] y58).toNat) (aA ((pE [r61.1,r61.2.1,r61.2.2] y58 y59)+1))))>1)then
       kr false
      else
      (Q100.f N r61.1 r61.2.1 r61.2.2).bind fun r63=>
      bif !r63 then
       kr false
      else
      Q150.l19 N n y53 y54 y55 y56 (aA (y57+1)) (vB [r61.1,r61.2.1,r61.2.2] y58) ((aG [r61.1,r61.2.1,r61.2.2] (pE [r61.1,r61.2.1,r61.2.2] y58 y59) y58 (List.take (List.length y58) y59)).set ((cE [r61.1,r61.2.1,r61.2.2] y58).toNat) (aA ((pE [r61.1,r61.2.1,r61.2.2] y58 y59)+1))) y60 k2 kr
     else none)
  else
  k2 ()
noncomputable def Q150.f (N:Nat)(a1:Int):Option (Bool):=
 (Q144.f N a1).bind fun r2=>
 (Q132.f N r2).bind fun r3=>
 (Q115.f N r2).bind fun r4=>
 bif r3.2.2 != 0 then
  some false
 else
 bif r4.2 != 0 then
  some false
 else
 bif (r3.1.length/3:Int) != (r3.2.1.length:Int)then
  some false
 else
 Q150.l8 N N r2 r3.1 r3.2.1 r4.1 1 0
  (fun y22 y23 y24 y25 y26=>
   bif y26 != y25 then
    some false
   else
   bif decide ((y24.length:Int)=(y24.length:Int))&&decide (0≤(y24.length:Int))&&decide ((y24.length:Int)≤9223372036854775807)&&jB ((y24.length:Int).toNat) 8 then
    Q150.l19 N N y22 y23 y24 y26 0 [] [] (List.replicate ((y24.length:Int).toNat) (0:Int))
     (fun(_:Unit)=>
      (Q146.f N).bind fun r64=>
      some r64)
     (fun y65=>
      some y65)
   else none)
  (fun y66=>
   some y66)
noncomputable def Q150.h8:yC:=⟨[(3,.any),(4,.il .i64 3),(5,.il .i64 1),(7,.any),(9,.any),(10,.any)],[(3,.any),(4,.il .i64 3),(5,.il .i64 1),(7,.any),(9,.any)]⟩
noncomputable def Q150.h19:yC:=⟨[(3,.any),(4,.il .i64 3),(5,.il .i64 1),(9,.any),(13,.any),(14,.row .i64 1),(15,.any)],[]⟩
noncomputable def Q150.h23:yC:=⟨[(3,.any),(4,.il .i64 3),(5,.il .i64 1),(9,.any),(13,.any),(14,.row .i64 1),(15,.any),(16,.any),(17,.any)],[(3,.any),(4,.il .i64 3),(5,.il .i64 1),(9,.any),(13,.any),(14,.row .i64 1),(15,.any)]⟩
noncomputable def Q150.c8 (N:Nat):uH:=⟨fun vs H k=>match vs,H with
 | [.c (.int .i64 x5),.il .i64 3 x6,.il .i64 1 x7,.c (.int .i64 x8),.c (.int .i64 x9),.c (.int .i64 x10)],[]=>Q150.l8 N N x5 x6 x7 x8 x9 x10 (fun x17 x18 x19 x20 x21=>k (.exit 0) ⟨xC Q150.h8.out [.c (.int .i64 x17),.il .i64 3 x18,.il .i64 1 x19,.c (.int .i64 x20),.c (.int .i64 x21)],[]⟩) (fun x12=>k (.ret (.c (.bool x12)) []) .nil)
 |_,_=>none⟩
noncomputable def Q150.c23 (N:Nat):uH:=⟨fun vs H k=>match vs,H with
 | [.c (.int .i64 x35),.il .i64 3 x36,.il .i64 1 x37,.c (.int .i64 x38),.mref 0,.sw 1 1,.c (.int .i64 x39),.c (.int .i64 x40),.c (.int .i64 x41)],[.mp .i64 3 x42 (.ints .i64 x43),.ints .i64 x44]=>Q150.l23 N N x35 x36 x37 x38 x39 x40 x41 x42 x43 x44 (fun x45 x46 x47 x48 x49 x50 x51 x52=>k (.exit 4) ⟨xC Q150.h23.out [.c (.int .i64 x45),.il .i64 3 x46,.il .i64 1 x47,.c (.int .i64 x48),.mref 0,.sw 1 1,.c (.int .i64 x49)],[.mp .i64 3 x50 (.ints .i64 x51),.ints .i64 x52]⟩)
 |_,_=>none⟩
noncomputable def Q150.c19 (N:Nat):uH:=⟨fun vs H k=>match vs,H with
 | [.c (.int .i64 x27),.il .i64 3 x28,.il .i64 1 x29,.c (.int .i64 x30),.mref 0,.sw 1 1,.c (.int .i64 x31)],[.mp .i64 3 x32 (.ints .i64 x33),.ints .i64 x34]=>Q150.l19 N N x27 x28 x29 x30 x31 x32 x33 x34 (fun(_:Unit)=>k (.exit 2) ⟨xC Q150.h19.out [],[]⟩) (fun x62=>k (.ret (.c (.bool x62)) []) .nil)
 |_,_=>none⟩
noncomputable def Q150.E (N:Nat):bD:=xE [(2,fR),(3,Ci),(23,gd),(24,Ch),(33,aI),(42,G3)] [(16,Q144.ent N),(11,Q132.ent N),(17,Q115.ent N),(14,Q134.ent N),(18,Q100.ent N),(19,Q47.ent N),(20,Q145.ent N),(10,Q146.ent N)] [(8,Q150.h8),(19,Q150.h19),(23,Q150.h23)] [(8,Q150.c8 N),(23,Q150.c23 N),(19,Q150.c19 N)] N [.tmp 2] [.any] 0 170
noncomputable def Q150.b8:Code:=sA ((eA (bo Tryz.f5)).getD 0 .skip)
theorem Q150.l8_eq {R:Type}(N n:Nat)(x5:Int)(x6 x7:List Int)(x8 x9 x10:Int)(k:Ex→St→Option R):
  gB 0 Q150.h8 (fun s k=>bB (Q150.E N) 390 Q150.b8 s k) n [.c (.int .i64 x5),.il .i64 3 x6,.il .i64 1 x7,.c (.int .i64 x8),.c (.int .i64 x9),.c (.int .i64 x10)] [] k=Q150.l8 N n x5 x6 x7 x8 x9 x10 (fun x17 x18 x19 x20 x21=>k (.exit 0) ⟨xC Q150.h8.out [.c (.int .i64 x17),.il .i64 3 x18,.il .i64 1 x19,.c (.int .i64 x20),.c (.int .i64 x21)],[]⟩) (fun x12=>k (.ret (.c (.bool x12)) []) .nil):=by
 induction n generalizing x5 x6 x7 x8 x9 x10 with
 |zero=>kernel_rfl
 |succ n ih=>
  simp only[Q150.l8,←ih]
  kernel_rfl
noncomputable def Q150.b23:Code:=sA ((eA (bo Tryz.f5)).getD 2 .skip)
theorem Q150.l23_eq {R:Type}(N n:Nat)(x35:Int)(x36 x37:List Int)(x38 x39:Int)(x40 x41:Int)(x42:List (List Int))(x43 x44:List Int)(k:Ex→St→Option R):
  gB 0 Q150.h23 (fun s k=>bB (Q150.E N) 378 Q150.b23 s k) n [.c (.int .i64 x35),.il .i64 3 x36,.il .i64 1 x37,.c (.int .i64 x38),.mref 0,.sw 1 1,.c (.int .i64 x39),.c (.int .i64 x40),.c (.int .i64 x41)] [.mp .i64 3 x42 (.ints .i64 x43),.ints .i64 x44] k=Q150.l23 N n x35 x36 x37 x38 x39 x40 x41 x42 x43 x44 (fun x45 x46 x47 x48 x49 x50 x51 x52=>k (.exit 4) ⟨xC Q150.h23.out [.c (.int .i64 x45),.il .i64 3 x46,.il .i64 1 x47,.c (.int .i64 x48),.mref 0,.sw 1 1,.c (.int .i64 x49)],[.mp .i64 3 x50 (.ints .i64 x51),.ints .i64 x52]⟩):=by
 induction n generalizing x35 x36 x37 x38 x39 x40 x41 x42 x43 x44 with
 |zero=>kernel_rfl
 |succ n ih=>
  simp only[Q150.l23,←ih]
  kernel_rfl
noncomputable def Q150.b19:Code:=sA ((eA (bo Tryz.f5)).getD 1 .skip)
theorem Q150.l19_eq {R:Type}(N n:Nat)(x27:Int)(x28 x29:List Int)(x30 x31:Int)(x32:List (List Int))(x33 x34:List Int)(k:Ex→St→Option R):
  gB 0 Q150.h19 (fun s k=>bB (Q150.E N) 386 Q150.b19 s k) n [.c (.int .i64 x27),.il .i64 3 x28,.il .i64 1 x29,.c (.int .i64 x30),.mref 0,.sw 1 1,.c (.int .i64 x31)] [.mp .i64 3 x32 (.ints .i64 x33),.ints .i64 x34] k=Q150.l19 N n x27 x28 x29 x30 x31 x32 x33 x34 (fun(_:Unit)=>k (.exit 2) ⟨xC Q150.h19.out [],[]⟩) (fun x62=>k (.ret (.c (.bool x62)) []) .nil):=by
 induction n generalizing x27 x28 x29 x30 x31 x32 x33 x34 with
 |zero=>kernel_rfl
 |succ n ih=>
  simp only[Q150.l19,←ih]
  kernel_rfl
noncomputable def Q150.dec (v:V)(bs:List rA):Option (Bool):=match v,bs with
 | .c (.bool z0),[]=>some z0
 |_,_=>none
theorem Q150.f_eq (N:Nat)(a1:Int):
  cB (Q150.E N) (bo Tryz.f5) [.c (.int .u16 a1)] [] Q150.dec=Q150.f N a1:=by kernel_rfl
theorem Q150.env (N:Nat):aB Tryz.prog (Q150.E N):=⟨(.cons gD (.cons sL (.cons fL (.cons nW (.cons rC (.cons uo .nil)))))),(.cons (Q144.ent_ok N) (.cons (Q132.ent_ok N) (.cons (Q115.ent_ok N) (.cons (Q134.ent_ok N) (.cons (Q100.ent_ok N) (.cons (Q47.ent_ok N) (.cons (Q145.ent_ok N) (.cons (Q146.ent_ok N) .nil))))))))⟩
theorem Q150.k23 (N:Nat):uB Tryz.prog Tryz.f5 (Q150.E N) (.loop Q150.b23):=zC (Q150.env N) bA 378 (c:=Q150.c23 N) cA.n fun R vs H k r h=>by unfold Q150.c23 at h;dsimp only at h;split at h;exact⟨_,Q150.l23_eq .. ▸h⟩;cases h
theorem Q150.k19 (N:Nat):uB Tryz.prog Tryz.f5 (Q150.E N) (.loop Q150.b19):=zC (Q150.env N) bA 386 (c:=Q150.c19 N) (cA.of (l:=[(.loop (sA ((eA (bo Tryz.f5)).getD 2 .skip)))]) (by kernel_rfl) (cA.cons (Q150.k23 N) cA.nil)) fun R vs H k r h=>by unfold Q150.c19 at h;dsimp only at h;split at h;exact⟨_,Q150.l19_eq .. ▸h⟩;cases h
theorem Q150.k8 (N:Nat):uB Tryz.prog Tryz.f5 (Q150.E N) (.loop Q150.b8):=zC (Q150.env N) bA 390 (c:=Q150.c8 N) cA.n fun R vs H k r h=>by unfold Q150.c8 at h;dsimp only at h;split at h;exact⟨_,Q150.l8_eq .. ▸h⟩;cases h
theorem Q150.spec (N:Nat)(a1:Int)(r:Bool)(h:Q150.f N a1=some r):fA Tryz.prog 5 [.c (.int .u16 a1)] [] (.c (.bool r)) ([]):=vA (Q150.env N) bA Tryz.func5 (cA.of (l:=[(.loop (sA ((eA (bo Tryz.f5)).getD 0 .skip))),(.loop (sA ((eA (bo Tryz.f5)).getD 1 .skip))),(.loop (sA ((eA (bo Tryz.f5)).getD 2 .skip)))]) (by kernel_rfl) (cA.cons (Q150.k8 N) (cA.cons (Q150.k19 N) (cA.cons (Q150.k23 N) cA.nil)))) ((Q150.f_eq ..).trans h) fun v b e=>by unfold Q150.dec at e;split at e<;>cases e;exact⟨rfl,rfl⟩
noncomputable def Q151.l15 {R:Type}(N:Nat):Nat→Int→List Int→List Int→List Int→List Int→Int→Int→Int→Int→(Int→List Int→Int→Int→Int→Option R)→(Bool→Option R)→Option R
 |0,_,_,_,_,_,_,_,_,_,_,_=>none
 |n+1,x12,x13,x14,x15,x16,x17,x18,x19,x20,k0,kr=>
  bif decide (x17<(x13.length:Int))then
   bif (decide (0≤x17))&&(decide (x17<(x14.length:Int)))then
    bif decide ((x14.getD x17.toNat 0)<0)then
     kr false
    else
    bif (decide (0≤x17))&&(decide (x17<(x14.length:Int)))then
     bif (decide (0≤x17))&&(decide (x17<(x13.length:Int)))then
      bif decide ((x14.getD x17.toNat 0)≥(x13.getD x17.toNat 0))then
       kr false
      else
      bif (decide (0≤x17))&&(decide (x17<(x14.length:Int)))then
       bif (decide (0≤x17))&&(decide (x17<(x15.length:Int)))then
        bif (decide (0≤x17))&&(decide (x17<(x13.length:Int)))then
         bif !((x13.getD x17.toNat 0)==0)then
          bif (decide (0≤x17))&&(decide (x17<(x16.length:Int)))then
           bif (Int.tmod (aA ((x14.getD x17.toNat 0)+(x15.getD x17.toNat 0))) (x13.getD x17.toNat 0)) != (x16.getD x17.toNat 0)then
            kr false
           else
           Q151.l15 N n x12 x13 x14 x15 x16 (aA (x17+1)) x18 x19 x20 k0 kr
          else none
         else none
        else none
       else none
      else none
     else none
    else none
   else none
  else
  k0 x12 x13 x18 x19 x20
end Go.Proofs.YtjpdjdhdchjcgaaGreat
