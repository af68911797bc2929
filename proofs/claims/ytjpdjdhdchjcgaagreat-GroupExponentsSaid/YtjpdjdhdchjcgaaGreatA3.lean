import Derived.Test.YtjpdjdhdchjcgaaGreatA2
import Derived.Test.YtjpdjdhdchjcgaaGreatProg
import Derived.KernelRfl
open Nat renaming le_of_ble_eq_true→hA
set_option linter.unusedVariables false
set_option linter.unusedSimpArgs false
namespace Go.Proofs.YtjpdjdhdchjcgaaGreat
open Go.Proofs.YtjpdjdhdchjcgaaGreat.Ev
open Go
set_option maxRecDepth 100000
noncomputable def d7:TI:=⟨.slice 57,1,24,[.slice none 0 0]⟩
noncomputable def m8:TI:=⟨.struct [(33,0),(2,3)],4,32,[.int .i64 0,.int .i64 0,.int .i64 0,.int .i64 0]⟩
noncomputable def Cp:TI:=⟨.slice 64,1,24,[.slice none 0 0]⟩
noncomputable def E7:TI:=⟨.struct [(2,0),(3,1)],2,16,[.int .i64 0,.int .i64 0]⟩
theorem tI:tC Tryz.prog 53 d7:=aD (by kernel_rfl) (by kernel_rfl) (by kernel_rfl) (by kernel_rfl) (by kernel_rfl) (by kernel_rfl) (by kernel_rfl) (Tryz.underlying53) (by kernel_rfl)
theorem pJ:tC Tryz.prog 57 m8:=aD (by kernel_rfl) (by kernel_rfl) (by kernel_rfl) (by kernel_rfl) (by kernel_rfl) (by kernel_rfl) (by kernel_rfl) (oI Tryz.underlying57 (by kernel_rfl) (by kernel_rfl)) (by kernel_rfl)
theorem xW:tC Tryz.prog 60 Cp:=aD (by kernel_rfl) (by kernel_rfl) (by kernel_rfl) (by kernel_rfl) (by kernel_rfl) (by kernel_rfl) (by kernel_rfl) (Tryz.underlying60) (by kernel_rfl)
theorem gk:tC Tryz.prog 64 E7:=aD (by kernel_rfl) (by kernel_rfl) (by kernel_rfl) (by kernel_rfl) (by kernel_rfl) (by kernel_rfl) (by kernel_rfl) (oI Tryz.underlying64 (by kernel_rfl) (by kernel_rfl)) (by kernel_rfl)
noncomputable def Q113.l3 {R:Type}(N:Nat):Nat→List Int→List (List Int)→List Int→Nat→List Nat→Nat→(List Int→Option R)→Option R
 |0,_,_,_,_,_,_,_=>none
 |n+1,d,c,g,e,b,h,f=>
  bif Nat.beq c.length e then
   bif b.isEmpty then
    f d
   else
   sX b.length fun a=>
   bif Nat.beq c.length e&&Nat.blt (b.getD a 0) c.length then
    bif (g.getD (b.getD a 0) 0)==1 then
     bif fB ((d.length+3)/3) 24 then
      Q113.l3 N n (d++[(c.getD (b.getD a 0) []).getD 0 0,(c.getD (b.getD a 0) []).getD 1 0,(c.getD (b.getD a 0) []).getD 2 0]) c g e (b.eraseIdx a) (b.getD a 0) f
     else none
    else
    Q113.l3 N n d c g e (b.eraseIdx a) (b.getD a 0) f
   else none
  else none
noncomputable def Q113.f (N:Nat)(d:Int):Option (List Int):=
 (Q106.f N d).bind fun a=>
 Q113.l3 N N [] a.1 a.2 a.1.length (List.range a.1.length) a.1.length
  (fun c=>
   (Q112.f N c).bind fun b=>
   some b)
noncomputable def Q113.h3:eD:=⟨[(3,.row .i64 3),(8,.any)],[(3,.row .i64 3)]⟩
noncomputable def Q113.c3 (N:Nat):xH:=⟨fun vs H k=>match vs,H with
 | [.sw 0 3,.ptr 2 0 0],[.ints .i64 a,.mp .i64 3 b (.ints .i64 c),.it (some 1) d e f]=>Q113.l3 N N a b c d e f (fun g=>k (.exit 0) ⟨dD Q113.h3.out [.sw 0 3],[.ints .i64 g]⟩)
 |_,_=>none⟩
noncomputable def Q113.E (N:Nat):bD:=bF [(2,eQ),(23,gj),(33,wH),(85,E8)] [(57,Q106.ent N),(58,Q112.ent N)] [(3,Q113.h3)] [(3,Q113.c3 N)] N [.tmp 2] [.row .i64 3] 0 23 true
noncomputable def Q113.b3:Code:=sA ((eA (bo Tryz.f41)).getD 0 .skip)
theorem Q113.l3_eq {R:Type}(N n:Nat)(a:List Int)(b:List (List Int))(c:List Int)(d:Nat)(e:List Nat)(f:Nat)(k:Ex→St→Option R):
  jB 0 Q113.h3 (fun s k=>bB (Q113.E N) 394 Q113.b3 s k) n [.sw 0 3,.ptr 2 0 0] [.ints .i64 a,.mp .i64 3 b (.ints .i64 c),.it (some 1) d e f] k=Q113.l3 N n a b c d e f (fun g=>k (.exit 0) ⟨dD Q113.h3.out [.sw 0 3],[.ints .i64 g]⟩):=by
 induction n generalizing a b c d e f with
 |zero=>kernel_rfl
 |succ n ih=>
  simp only[Q113.l3,←ih]
  kernel_rfl
noncomputable def Q113.dec (v:V)(bs:List rA):Option (List Int):=match v,bs with
 | .sw 0 3,[.ints .i64 a]=>some a
 |_,_=>none
theorem Q113.f_eq (N:Nat)(a:Int):
  cB (Q113.E N) (bo Tryz.f41) [.c (.int .i64 a)] [] Q113.dec=Q113.f N a:=by kernel_rfl
noncomputable def Q113.ent (N:Nat):xA:=wF (List Int) 1 [true] [.any] fun
 | [.c (.int .i64 a)]=>some (Q113.f N a,fun r=>.one (.sw 0 3) [.ints .i64 r])
 |_=>none
theorem Q113.env (N:Nat):aB Tryz.prog (Q113.E N):=⟨(.cons xC (.cons oL (.cons oC (.cons gm .nil)))),(.cons (Q106.ent_ok N) (.cons (Q112.ent_ok N) .nil))⟩
theorem Q113.k3 (N:Nat):xB Tryz.prog Tryz.f41 (Q113.E N) (.loop Q113.b3):=gD (Q113.env N) bA 394 (c:=Q113.c3 N) dA.n fun R vs H k r h=>by unfold Q113.c3 at h;dsimp only at h;split at h;exact⟨_,Q113.l3_eq .. ▸h⟩;cases h
theorem Q113.spec (N:Nat)(a:Int)(r:List Int)(h:Q113.f N a=some r):fA Tryz.prog 41 [.c (.int .i64 a)] [] (.sw 0 3) ([.ints .i64 r]):=vA (Q113.env N) bA Tryz.func41 (dA.of (l:=[(.loop (sA ((eA (bo Tryz.f41)).getD 0 .skip)))]) (by kernel_rfl) (dA.cons (Q113.k3 N) dA.nil)) ((Q113.f_eq ..).trans h) fun v b e=>by unfold Q113.dec at e;split at e<;>cases e;exact⟨rfl,rfl⟩
theorem Q113.ent_ok (N:Nat):uA Tryz.prog 41 (Q113.ent N):=yA fun v a e h=>by split at h;exact nC (Q:=fun e=>fA _ _ _ _ (e a).pick.1 (e a).pick.2) h fun k=>Q113.spec N _ a k;cases h
noncomputable def Q114.f (N:Nat)(a:Int):Option (List Int×Int):=
 (Q105.f N a).bind fun b=>
 bif b != 0 then
  some ([],b)
 else
 (Q113.f N a).bind fun c=>
 some (c,0)
noncomputable def Q114.E (N:Nat):bD:=bF [] [(40,Q105.ent N),(41,Q113.ent N)] [] [] N [.tmp 2,.tmp 3] [.row .i64 3,.any] 0 12 true
noncomputable def Q114.dec (v:V)(bs:List rA):Option (List Int×Int):=match v,bs with
 | .tup [.sw 0 3,.c (.int .i64 b)],[.ints .i64 a]=>some (a,b)
 |_,_=>none
theorem Q114.f_eq (N:Nat)(a:Int):
  cB (Q114.E N) (bo Tryz.f23) [.c (.int .i64 a)] [] Q114.dec=Q114.f N a:=by kernel_rfl
noncomputable def Q114.ent (N:Nat):xA:=wF (List Int×Int) 1 [true] [.any] fun
 | [.c (.int .i64 a)]=>some (Q114.f N a,fun r=>.one (.tup [.sw 0 3,.c (.int .i64 r.2)]) [.ints .i64 r.1])
 |_=>none
theorem Q114.env (N:Nat):aB Tryz.prog (Q114.E N):=⟨.nil,(.cons (Q105.ent_ok N) (.cons (Q113.ent_ok N) .nil))⟩
theorem Q114.spec (N:Nat)(a:Int)(r:List Int×Int)(h:Q114.f N a=some r):fA Tryz.prog 23 [.c (.int .i64 a)] [] (.tup [.sw 0 3,.c (.int .i64 r.2)]) ([.ints .i64 r.1]):=vA (Q114.env N) bA Tryz.func23 dA.n ((Q114.f_eq ..).trans h) fun v b e=>by unfold Q114.dec at e;split at e<;>cases e;exact⟨rfl,rfl⟩
theorem Q114.ent_ok (N:Nat):uA Tryz.prog 23 (Q114.ent N):=yA fun v a e h=>by split at h;exact nC (Q:=fun e=>fA _ _ _ _ (e a).pick.1 (e a).pick.2) h fun k=>Q114.spec N _ a k;cases h
noncomputable def Q115.f (N:Nat)(b:Int):Option (Int×Int):=
 (Q114.f N b).bind fun a=>
 some ((a.1.length/3:Int),a.2)
noncomputable def Q115.E (N:Nat):bD:=bF [(23,gj)] [(23,Q114.ent N)] [] [] N [.tmp 2,.tmp 3] [.any,.any] 0 14
noncomputable def Q115.dec (v:V)(bs:List rA):Option (Int×Int):=match v,bs with
 | .tup [.c (.int .i64 a),.c (.int .i64 b)],[]=>some (a,b)
 |_,_=>none
theorem Q115.f_eq (N:Nat)(a:Int):
  cB (Q115.E N) (bo Tryz.f17) [.c (.int .i64 a)] [] Q115.dec=Q115.f N a:=by kernel_rfl
noncomputable def Q115.ent (N:Nat):xA:=wF (Int×Int) 0 [true] [.any] fun
 | [.c (.int .i64 a)]=>some (Q115.f N a,fun r=>.one (.tup [.c (.int .i64 r.1),.c (.int .i64 r.2)]) [])
 |_=>none
theorem Q115.env (N:Nat):aB Tryz.prog (Q115.E N):=⟨(.cons oL .nil),(.cons (Q114.ent_ok N) .nil)⟩
theorem Q115.spec (N:Nat)(a:Int)(r:Int×Int)(h:Q115.f N a=some r):fA Tryz.prog 17 [.c (.int .i64 a)] [] (.tup [.c (.int .i64 r.1),.c (.int .i64 r.2)]) ([]):=vA (Q115.env N) bA Tryz.func17 dA.n ((Q115.f_eq ..).trans h) fun v b e=>by unfold Q115.dec at e;split at e<;>cases e;exact⟨rfl,rfl⟩
theorem Q115.ent_ok (N:Nat):uA Tryz.prog 17 (Q115.ent N):=yA fun v a e h=>by split at h;exact nC (Q:=fun e=>fA _ _ _ _ (e a).pick.1 (e a).pick.2) h fun k=>Q115.spec N _ a k;cases h
noncomputable def Q116.l1 {R:Type}(N:Nat):Nat→Int→Int→Int→List Int→(Int→Int→Int→List Int→Option R)→Option R
 |0,_,_,_,_,_=>none
 |n+1,a,d,b,e,c=>
  bif !(a==0)then
   bif (Int.tmod b a)==0 then
    bif !(a==0)then
     Q116.l1 N n a (aA (d+1)) (aA (Int.tdiv b a)) e c
    else none
   else
   c a d b e
  else none
noncomputable def Q116.f (N:Nat)(e f:Int)(g:List Int):Option (Bool×Int×List Int):=
 Q116.l1 N N e 0 f g
  (fun d b c a=>
   bif decide (b>0)then
    bif fB ((a.length+2)/2) 16 then
     some (true,c,a++[d,b])
    else none
   else
   some (false,c,a))
noncomputable def Q116.h1:eD:=⟨[(0,.any),(1,.any),(2,.any),(4,.any)],[(0,.any),(2,.any),(4,.any)]⟩
noncomputable def Q116.c1 (N:Nat):xH:=⟨fun vs H k=>match vs,H with
 | [.c (.int .i64 c),.ptr 0 0 1,.ptr 1 0 1,.c (.int .i64 d)],[.vals [.c (.int .i64 e)],.vals [.sw 2 2],.ints .i64 f]=>Q116.l1 N N c d e f (fun g h a b=>k (.exit 0) ⟨dD Q116.h1.out [.c (.int .i64 g),.ptr 1 0 1,.c (.int .i64 h)],[.vals [.c (.int .i64 a)],.vals [.sw 2 2],.ints .i64 b]⟩)
 |_,_=>none⟩
noncomputable def Q116.E (N:Nat):bD:=bF [(2,eQ),(3,Cn),(60,Cp),(64,E7)] [] [(1,Q116.h1)] [(1,Q116.c1 N)] N [] [] 3 22 true [(1,[.row .i64 2])]
noncomputable def Q116.b1:Code:=sA ((eA (bo Tryz.f65)).getD 0 .skip)
theorem Q116.l1_eq {R:Type}(N n:Nat)(c d e:Int)(f:List Int)(k:Ex→St→Option R):
  jB 3 Q116.h1 (fun s k=>bB (Q116.E N) 396 Q116.b1 s k) n [.c (.int .i64 c),.ptr 0 0 1,.ptr 1 0 1,.c (.int .i64 d)] [.vals [.c (.int .i64 e)],.vals [.sw 2 2],.ints .i64 f] k=Q116.l1 N n c d e f (fun g h a b=>k (.exit 0) ⟨dD Q116.h1.out [.c (.int .i64 g),.ptr 1 0 1,.c (.int .i64 h)],[.vals [.c (.int .i64 a)],.vals [.sw 2 2],.ints .i64 b]⟩):=by
 induction n generalizing c d e f with
 |zero=>kernel_rfl
 |succ n ih=>
  simp only[Q116.l1,←ih]
  kernel_rfl
noncomputable def Q116.dec (v:V)(bs:List rA):Option (Bool×Int×List Int):=match v,bs with
 | .tup [],[.vals [.c (.int .i64 a)],.vals [.sw 3 2],.dead,.ints .i64 b]=>some (true,a,b)
 | .tup [],[.vals [.c (.int .i64 a)],.vals [.sw 2 2],.ints .i64 b]=>some (false,a,b)
 |_,_=>none
theorem Q116.f_eq (N:Nat)(a b:Int)(c:List Int):
  cB (Q116.E N) (bo Tryz.f65) [.c (.int .i64 a),.ptr 0 0 1,.ptr 1 0 1] [.vals [.c (.int .i64 b)],.vals [.sw 2 2],.ints .i64 c] Q116.dec=Q116.f N a b c:=by kernel_rfl
noncomputable def Q116.ent (N:Nat):xA:={A:=Bool×Int×List Int,fresh:=1,imm:=[true,false,false],dec:=fun args bs=>match xF (nA bs) [false,false,false] args,bs with
 | [.c (.int .i64 a),.ptr 0 0 1,.ptr 1 0 1],[.vals [.c (.int .i64 b)],.vals [.sw 2 2],.ints .i64 c]=>some (Q116.f N a b c,fun r=>.two r.1 (.tup []) [.vals [.c (.int .i64 r.2.1)],.vals [.sw 3 2],.dead,.ints .i64 r.2.2] (.tup []) [.vals [.c (.int .i64 r.2.1)],.vals [.sw 2 2],.ints .i64 r.2.2])
 |_,_=>none}
theorem Q116.env (N:Nat):aB Tryz.prog (Q116.E N):=⟨(.cons xC (.cons yL (.cons xW (.cons gk .nil)))),.nil⟩
theorem Q116.res_eq (N:Nat):(Q116.E N).res=Tryz.f65.results.toList:=by kernel_rfl
theorem Q116.k1 (N:Nat):xB Tryz.prog Tryz.f65 (Q116.E N) (.loop Q116.b1):=gD (Q116.env N) bA 396 (c:=Q116.c1 N) dA.n fun R vs H k r h=>by unfold Q116.c1 at h;dsimp only at h;split at h;exact⟨_,Q116.l1_eq .. ▸h⟩;cases h
theorem Q116.spec (N:Nat)(a b:Int)(c:List Int)(r:Bool×Int×List Int)(h:Q116.f N a b c=some r):fA Tryz.prog 65 [.c (.int .i64 a),.ptr 0 0 1,.ptr 1 0 1] [.vals [.c (.int .i64 b)],.vals [.sw 2 2],.ints .i64 c] ((rk.two r.1 (.tup []) [.vals [.c (.int .i64 r.2.1)],.vals [.sw 3 2],.dead,.ints .i64 r.2.2] (.tup []) [.vals [.c (.int .i64 r.2.1)],.vals [.sw 2 2],.ints .i64 r.2.2]).pick.1) ((rk.two r.1 (.tup []) [.vals [.c (.int .i64 r.2.1)],.vals [.sw 3 2],.dead,.ints .i64 r.2.2] (.tup []) [.vals [.c (.int .i64 r.2.1)],.vals [.sw 2 2],.ints .i64 r.2.2]).pick.2):=by
 rw[←Q116.f_eq]at h;refine(wR (Q116.env N) bA Tryz.func65 (by kernel_rfl:Tryz.f65.body=some (bo Tryz.f65)) (by kernel_rfl) (Q116.res_eq N) (by kernel_rfl) (by kernel_rfl) (hA (by kernel_rfl)) (dA.of (l:=[(.loop (sA ((eA (bo Tryz.f65)).getD 0 .skip)))]) (by kernel_rfl) (dA.cons (Q116.k1 N) dA.nil)) h).of fun v bs' h1=>?_;unfold Q116.dec at h1;split at h1
 ·cases h1;exact⟨rfl,rfl⟩
 ·cases h1;exact⟨rfl,rfl⟩
 ·cases h1
theorem Q116.ent_ok (N:Nat):uA Tryz.prog 65 (Q116.ent N):=by
 intro args bs a enc h;simp only[Q116.ent]at h;split at h
 ·rename_i hz;have h0:=Option.some.inj h;have h1:=congrArg Prod.fst h0;have h2:=congrArg Prod.snd h0;dsimp only at h1 h2;subst h2;exact fA.of_asSl (fl:=[false,false,false]) (by rw[hz];exact Q116.spec N _ _ _ a h1)
 ·cases h
noncomputable def Q117.l8 {R:Type}(N:Nat):Nat→Int→Int→List Int→(Int→List Int→Option R)→Option R
 |0,_,_,_,_=>none
 |n+1,a,d,e,c=>
  bif decide ((aA (a*a))≤d)then
   (Q116.f N a d e).bind fun b=>
   bif b.1 then
    Q117.l8 N n (aA (a+(aA (1+(gC .i64 a 1))))) b.2.1 b.2.2 c
   else
   Q117.l8 N n (aA (a+(aA (1+(gC .i64 a 1))))) b.2.1 b.2.2 c
  else
  c d e
noncomputable def Q117.f (N:Nat)(b:Int):Option (List Int×Int):=
 bif decide (b<1)then
  some ([],2)
 else
 bif decide (b>1099511627776)then
  some ([],3)
 else
 Q117.l8 N N 2 b []
  (fun c d=>
   bif decide (c>1)then
    (Q116.f N c c d).bind fun a=>
    bif a.1 then
     some (a.2.2,0)
    else
    some (a.2.2,0)
   else
   some (d,0))
noncomputable def Q117.h8:eD:=⟨[(1,.box [.any]),(4,.box [.row .i64 2]),(5,.any),(6,.any)],[(1,.box [.any]),(4,.box [.row .i64 2]),(5,.any)]⟩
noncomputable def Q117.c8 (N:Nat):xH:=⟨fun vs H k=>match vs,H with
 | [.ptr 0 0 1,.ptr 1 0 1,.fn 65 [] [.ptr 0 0 1,.ptr 1 0 1],.c (.int .i64 a)],[.vals [.c (.int .i64 b)],.vals [.sw 2 2],.ints .i64 c]=>Q117.l8 N N a b c (fun d e=>k (.exit 1) ⟨dD Q117.h8.out [.ptr 0 0 1,.ptr 1 0 1,.fn 65 [] [.ptr 0 0 1,.ptr 1 0 1]],[.vals [.c (.int .i64 d)],.vals [.sw 2 2],.ints .i64 e]⟩)
 |_,_=>none⟩
noncomputable def Q117.E (N:Nat):bD:=bF [(2,eQ),(60,Cp)] [(65,Q116.ent N)] [(8,Q117.h8)] [(8,Q117.c8 N)] N [.tmp 2,.tmp 3] [.il .i64 2,.any] 0 33
noncomputable def Q117.b8:Code:=sA ((eA (bo Tryz.f46)).getD 0 .skip)
theorem Q117.l8_eq {R:Type}(N n:Nat)(a b:Int)(c:List Int)(k:Ex→St→Option R):
  jB 0 Q117.h8 (fun s k=>bB (Q117.E N) 392 Q117.b8 s k) n [.ptr 0 0 1,.ptr 1 0 1,.fn 65 [] [.ptr 0 0 1,.ptr 1 0 1],.c (.int .i64 a)] [.vals [.c (.int .i64 b)],.vals [.sw 2 2],.ints .i64 c] k=Q117.l8 N n a b c (fun d e=>k (.exit 1) ⟨dD Q117.h8.out [.ptr 0 0 1,.ptr 1 0 1,.fn 65 [] [.ptr 0 0 1,.ptr 1 0 1]],[.vals [.c (.int .i64 d)],.vals [.sw 2 2],.ints .i64 e]⟩):=by
 induction n generalizing a b c with
 |zero=>kernel_rfl
 |succ n ih=>
  simp only[Q117.l8,←ih]
  kernel_rfl
noncomputable def Q117.dec (v:V)(bs:List rA):Option (List Int×Int):=match v,bs with
 | .tup [.il .i64 2 a,.c (.int .i64 b)],[]=>some (a,b)
 |_,_=>none
theorem Q117.f_eq (N:Nat)(a:Int):
  cB (Q117.E N) (bo Tryz.f46) [.c (.int .i64 a)] [] Q117.dec=Q117.f N a:=by kernel_rfl
noncomputable def Q117.ent (N:Nat):xA:=wF (List Int×Int) 0 [true] [.any] fun
 | [.c (.int .i64 a)]=>some (Q117.f N a,fun r=>.one (.tup [.il .i64 2 r.1,.c (.int .i64 r.2)]) [])
 |_=>none
theorem Q117.env (N:Nat):aB Tryz.prog (Q117.E N):=⟨(.cons xC (.cons xW .nil)),(.cons (Q116.ent_ok N) .nil)⟩
theorem Q117.k8 (N:Nat):xB Tryz.prog Tryz.f46 (Q117.E N) (.loop Q117.b8):=gD (Q117.env N) bA 392 (c:=Q117.c8 N) dA.n fun R vs H k r h=>by unfold Q117.c8 at h;dsimp only at h;split at h;exact⟨_,Q117.l8_eq .. ▸h⟩;cases h
theorem Q117.spec (N:Nat)(a:Int)(r:List Int×Int)(h:Q117.f N a=some r):fA Tryz.prog 46 [.c (.int .i64 a)] [] (.tup [.il .i64 2 r.1,.c (.int .i64 r.2)]) ([]):=vA (Q117.env N) bA Tryz.func46 (dA.of (l:=[(.loop (sA ((eA (bo Tryz.f46)).getD 0 .skip)))]) (by kernel_rfl) (dA.cons (Q117.k8 N) dA.nil)) ((Q117.f_eq ..).trans h) fun v b e=>by unfold Q117.dec at e;split at e<;>cases e;exact⟨rfl,rfl⟩
theorem Q117.ent_ok (N:Nat):uA Tryz.prog 46 (Q117.ent N):=yA fun v a e h=>by split at h;exact nC (Q:=fun e=>fA _ _ _ _ (e a).pick.1 (e a).pick.2) h fun k=>Q117.spec N _ a k;cases h
noncomputable def Q119.f (N:Nat)(c d e a f g h b:Int):Option (Int):=
 some (aA (b-a))
noncomputable def Q119.E (N:Nat):bD:=bF [(2,eQ),(57,m8)] [] [] [] N [.tmp 4] [.any] 0 10
noncomputable def Q119.dec (v:V)(bs:List rA):Option (Int):=match v,bs with
 | .c (.int .i64 a),[]=>some a
 |_,_=>none
theorem Q119.f_eq (N:Nat)(a b c d e f g h:Int):
  cB (Q119.E N) (bo Tryz.f67) [.agg [.c (.int .i64 a),.c (.int .i64 b),.c (.int .i64 c),.c (.int .i64 d)],.agg [.c (.int .i64 e),.c (.int .i64 f),.c (.int .i64 g),.c (.int .i64 h)]] [] Q119.dec=Q119.f N a b c d e f g h:=by kernel_rfl
noncomputable def Q119.ent (N:Nat):xA:=wF (Int) 0 [true,true] [.recd [.any,.any,.any,.any],.recd [.any,.any,.any,.any]] fun
 | [.agg [.c (.int .i64 a),.c (.int .i64 b),.c (.int .i64 c),.c (.int .i64 d)],.agg [.c (.int .i64 e),.c (.int .i64 f),.c (.int .i64 g),.c (.int .i64 h)]]=>some (Q119.f N a b c d e f g h,fun r=>.one (.c (.int .i64 r)) [])
 |_=>none
theorem Q119.env (N:Nat):aB Tryz.prog (Q119.E N):=⟨(.cons xC (.cons pJ .nil)),.nil⟩
theorem Q119.spec (N:Nat)(a c d f g i j k r:Int)(h:Q119.f N a c d f g i j k=some r):fA Tryz.prog 67 [.agg [.c (.int .i64 a),.c (.int .i64 c),.c (.int .i64 d),.c (.int .i64 f)],.agg [.c (.int .i64 g),.c (.int .i64 i),.c (.int .i64 j),.c (.int .i64 k)]] [] (.c (.int .i64 r)) ([]):=vA (Q119.env N) bA Tryz.func67 dA.n ((Q119.f_eq ..).trans h) fun v b e=>by unfold Q119.dec at e;split at e<;>cases e;exact⟨rfl,rfl⟩
theorem Q119.ent_ok (N:Nat):uA Tryz.prog 67 (Q119.ent N):=yA fun v a e h=>by split at h;exact nC (Q:=fun e=>fA _ _ _ _ (e a).pick.1 (e a).pick.2) h fun k=>Q119.spec N _ _ _ _ _ _ _ _ a k;cases h
noncomputable def Q120.l1 {R:Type}(N:Nat):Nat→Int→Int→Int→Int→List Int→(List Int→Option R)→Option R
 |0,_,_,_,_,_,_=>none
 |n+1,c,d,f,a,b,e=>
  bif decide (a<f)then
   bif (decide (0≤(aA (d+a))))&&(decide ((aA (d+a))<(b.length/4:Int)))then
    bif (decide (0≤(aA (c+a))))&&(decide ((aA (c+a))<(b.length/4:Int)))then
     bif (decide (0≤(aA (c+a))))&&(decide ((aA (c+a))<(b.length/4:Int)))then
      bif (decide (0≤(aA (d+a))))&&(decide ((aA (d+a))<((((((b.set (((aA (c+a)).toNat)*4) (b.getD (((aA (d+a)).toNat)*4) 0)).set ((((aA (c+a)).toNat)*4)+1) (b.getD ((((aA (d+a)).toNat)*4)+1) 0)).set ((((aA (c+a)).toNat)*4)+2) (b.getD ((((aA (d+a)).toNat)*4)+2) 0)).set ((((aA (c+a)).toNat)*4)+3) (b.getD ((((aA (d+a)).toNat)*4)+3) 0)).length)/4:Int)))then
       Q120.l1 N n c d f (aA (a+1)) ((((((((b.set (((aA (c+a)).toNat)*4) (b.getD (((aA (d+a)).toNat)*4) 0)).set ((((aA (c+a)).toNat)*4)+1) (b.getD ((((aA (d+a)).toNat)*4)+1) 0)).set ((((aA (c+a)).toNat)*4)+2) (b.getD ((((aA (d+a)).toNat)*4)+2) 0)).set ((((aA (c+a)).toNat)*4)+3) (b.getD ((((aA (d+a)).toNat)*4)+3) 0)).set (((aA (d+a)).toNat)*4) (b.getD (((aA (c+a)).toNat)*4) 0)).set ((((aA (d+a)).toNat)*4)+1) (b.getD ((((aA (c+a)).toNat)*4)+1) 0)).set ((((aA (d+a)).toNat)*4)+2) (b.getD ((((aA (c+a)).toNat)*4)+2) 0)).set ((((aA (d+a)).toNat)*4)+3) (b.getD ((((aA (c+a)).toNat)*4)+3) 0)) e
      else none
     else none
    else none
   else none
  else
  e b
noncomputable def Q120.f (N:Nat)(b c d:Int)(e:List Int):Option (List Int):=
 Q120.l1 N N b c d 0 e
  (fun a=>
   some a)
noncomputable def Q120.h1:eD:=⟨[(0,.row .i64 4),(1,.any),(2,.any),(3,.any),(10,.any)],[]⟩
noncomputable def Q120.c1 (N:Nat):xH:=⟨fun vs H k=>match vs,H with
 | [.sw 0 4,.c (.int .i64 b),.c (.int .i64 c),.c (.int .i64 d),.c (.int .i64 e)],[.ints .i64 f]=>Q120.l1 N N b c d e f (fun a=>k (.exit 0) ⟨dD Q120.h1.out [],[.ints .i64 a]⟩)
 |_,_=>none⟩
noncomputable def Q120.E (N:Nat):bD:=bF [(53,d7),(57,m8)] [] [(1,Q120.h1)] [(1,Q120.c1 N)] N [] [] 1 38
noncomputable def Q120.b1:Code:=sA ((eA (bo Tryz.f164)).getD 0 .skip)
theorem Q120.l1_eq {R:Type}(N n:Nat)(b c d e:Int)(f:List Int)(k:Ex→St→Option R):
  jB 1 Q120.h1 (fun s k=>bB (Q120.E N) 397 Q120.b1 s k) n [.sw 0 4,.c (.int .i64 b),.c (.int .i64 c),.c (.int .i64 d),.c (.int .i64 e)] [.ints .i64 f] k=Q120.l1 N n b c d e f (fun a=>k (.exit 0) ⟨dD Q120.h1.out [],[.ints .i64 a]⟩):=by
 induction n generalizing b c d e f with
 |zero=>kernel_rfl
 |succ n ih=>
  simp only[Q120.l1,←ih]
  kernel_rfl
noncomputable def Q120.dec (v:V)(bs:List rA):Option (List Int):=match v,bs with
 | .tup [],[.ints .i64 a]=>some a
 |_,_=>none
theorem Q120.f_eq (N:Nat)(a b c:Int)(d:List Int):
  cB (Q120.E N) (bo Tryz.f164) [.sw 0 4,.c (.int .i64 a),.c (.int .i64 b),.c (.int .i64 c),.fn 67 [] []] [.ints .i64 d] Q120.dec=Q120.f N a b c d:=by kernel_rfl
noncomputable def Q120.ent (N:Nat):xA:={A:=List Int,fresh:=0,imm:=[false,true,true,true,false],dec:=fun args bs=>match xF (nA bs) [false,false,false,false,false] args,bs with
 | [.sw 0 4,.c (.int .i64 a),.c (.int .i64 b),.c (.int .i64 c),.fn 67 [] []],[.ints .i64 d]=>some (Q120.f N a b c d,fun r=>.one (.tup []) [.ints .i64 r])
 |_,_=>none}
theorem Q120.env (N:Nat):aB Tryz.prog (Q120.E N):=⟨(.cons tI (.cons pJ .nil)),.nil⟩
theorem Q120.k1 (N:Nat):xB Tryz.prog Tryz.f164 (Q120.E N) (.loop Q120.b1):=gD (Q120.env N) bA 397 (c:=Q120.c1 N) dA.n fun R vs H k r h=>by unfold Q120.c1 at h;dsimp only at h;split at h;exact⟨_,Q120.l1_eq .. ▸h⟩;cases h
theorem Q120.spec (N:Nat)(a c d:Int)(f r:List Int)(h:Q120.f N a c d f=some r):fA Tryz.prog 164 [.sw 0 4,.c (.int .i64 a),.c (.int .i64 c),.c (.int .i64 d),.fn 67 [] []] [.ints .i64 f] (.tup []) ([.ints .i64 r]):=vA (Q120.env N) bA Tryz.func164 (dA.of (l:=[(.loop (sA ((eA (bo Tryz.f164)).getD 0 .skip)))]) (by kernel_rfl) (dA.cons (Q120.k1 N) dA.nil)) ((Q120.f_eq ..).trans h) fun v b e=>by unfold Q120.dec at e;split at e<;>cases e;exact⟨rfl,rfl⟩
theorem Q120.ent_ok (N:Nat):uA Tryz.prog 164 (Q120.ent N):=by
 intro args bs a enc h;simp only[Q120.ent]at h;split at h
 ·rename_i hz;have h0:=Option.some.inj h;have h1:=congrArg Prod.fst h0;have h2:=congrArg Prod.snd h0;dsimp only at h1 h2;subst h2;exact fA.of_asSl (fl:=[false,false,false,false,false]) (by rw[hz];exact Q120.spec N _ _ _ _ a h1)
 ·cases h
noncomputable def Q121.l2 {R:Type}(N:Nat):Nat→Int→Int→Int→List Int→(Int→Int→List Int→Option R)→Option R
 |0,_,_,_,_,_=>none
 |n+1,b,a,c,f,d=>
  bif a != c then
   bif decide (a>c)then
    (Q120.f N (aA (b-a)) b c f).bind fun g=>
    Q121.l2 N n b (aA (a-c)) c g d
   else
   (Q120.f N (aA (b-a)) (aA ((aA (b+c))-a)) a f).bind fun e=>
   Q121.l2 N n b a (aA (c-a)) e d
  else
  d b a f
noncomputable def Q121.f (N:Nat)(f c g:Int)(h:List Int):Option (List Int):=
 Q121.l2 N N c (aA (c-f)) (aA (g-c)) h
  (fun a b e=>
   (Q120.f N (aA (a-b)) a b e).bind fun d=>
   some d)
noncomputable def Q121.h2:eD:=⟨[(0,.row .i64 4),(2,.any),(4,.any),(10,.any),(11,.any)],[(0,.row .i64 4),(2,.any),(4,.any),(10,.any)]⟩
noncomputable def Q121.c2 (N:Nat):xH:=⟨fun vs H k=>match vs,H with
 | [.sw 0 4,.c (.int .i64 d),.fn 67 [] [],.c (.int .i64 e),.c (.int .i64 f)],[.ints .i64 g]=>Q121.l2 N N d e f g (fun a b c=>k (.exit 0) ⟨dD Q121.h2.out [.sw 0 4,.c (.int .i64 a),.fn 67 [] [],.c (.int .i64 b)],[.ints .i64 c]⟩)
 |_,_=>none⟩
noncomputable def Q121.E (N:Nat):bD:=bF [] [(164,Q120.ent N)] [(2,Q121.h2)] [(2,Q121.c2 N)] N [] [] 1 58
noncomputable def Q121.b2:Code:=sA ((eA (bo Tryz.f155)).getD 0 .skip)
theorem Q121.l2_eq {R:Type}(N n:Nat)(d e f:Int)(g:List Int)(k:Ex→St→Option R):
  jB 1 Q121.h2 (fun s k=>bB (Q121.E N) 395 Q121.b2 s k) n [.sw 0 4,.c (.int .i64 d),.fn 67 [] [],.c (.int .i64 e),.c (.int .i64 f)] [.ints .i64 g] k=Q121.l2 N n d e f g (fun a b c=>k (.exit 0) ⟨dD Q121.h2.out [.sw 0 4,.c (.int .i64 a),.fn 67 [] [],.c (.int .i64 b)],[.ints .i64 c]⟩):=by
 induction n generalizing d e f g with
 |zero=>kernel_rfl
 |succ n ih=>
  simp only[Q121.l2,←ih]
  kernel_rfl
noncomputable def Q121.dec (v:V)(bs:List rA):Option (List Int):=match v,bs with
 | .tup [],[.ints .i64 a]=>some a
 |_,_=>none
theorem Q121.f_eq (N:Nat)(a b c:Int)(d:List Int):
  cB (Q121.E N) (bo Tryz.f155) [.sw 0 4,.c (.int .i64 a),.c (.int .i64 b),.c (.int .i64 c),.fn 67 [] []] [.ints .i64 d] Q121.dec=Q121.f N a b c d:=by kernel_rfl
noncomputable def Q121.ent (N:Nat):xA:={A:=List Int,fresh:=0,imm:=[false,true,true,true,false],dec:=fun args bs=>match xF (nA bs) [false,false,false,false,false] args,bs with
 | [.sw 0 4,.c (.int .i64 a),.c (.int .i64 b),.c (.int .i64 c),.fn 67 [] []],[.ints .i64 d]=>some (Q121.f N a b c d,fun r=>.one (.tup []) [.ints .i64 r])
 |_,_=>none}
theorem Q121.env (N:Nat):aB Tryz.prog (Q121.E N):=⟨.nil,(.cons (Q120.ent_ok N) .nil)⟩
theorem Q121.k2 (N:Nat):xB Tryz.prog Tryz.f155 (Q121.E N) (.loop Q121.b2):=gD (Q121.env N) bA 395 (c:=Q121.c2 N) dA.n fun R vs H k r h=>by unfold Q121.c2 at h;dsimp only at h;split at h;exact⟨_,Q121.l2_eq .. ▸h⟩;cases h
theorem Q121.spec (N:Nat)(a c d:Int)(f r:List Int)(h:Q121.f N a c d f=some r):fA Tryz.prog 155 [.sw 0 4,.c (.int .i64 a),.c (.int .i64 c),.c (.int .i64 d),.fn 67 [] []] [.ints .i64 f] (.tup []) ([.ints .i64 r]):=vA (Q121.env N) bA Tryz.func155 (dA.of (l:=[(.loop (sA ((eA (bo Tryz.f155)).getD 0 .skip)))]) (by kernel_rfl) (dA.cons (Q121.k2 N) dA.nil)) ((Q121.f_eq ..).trans h) fun v b e=>by unfold Q121.dec at e;split at e<;>cases e;exact⟨rfl,rfl⟩
theorem Q121.ent_ok (N:Nat):uA Tryz.prog 155 (Q121.ent N):=by
 intro args bs a enc h;simp only[Q121.ent]at h;split at h
 ·rename_i hz;have h0:=Option.some.inj h;have h1:=congrArg Prod.fst h0;have h2:=congrArg Prod.snd h0;dsimp only at h1 h2;subst h2;exact fA.of_asSl (fl:=[false,false,false,false,false]) (by rw[hz];exact Q121.spec N _ _ _ _ a h1)
 ·cases h
noncomputable def Q122.l4 {R:Type}(N:Nat):Nat→Int→Int→Int→Int→List Int→(Int→Int→Int→List Int→Option R)→Option R
 |0,_,_,_,_,_,_=>none
 |n+1,d,g,c,a,b,e=>
  bif decide (a>d)then
   bif (decide (0≤a))&&(decide (a<(b.length/4:Int)))then
    bif (decide (0≤(aA (a-1))))&&(decide ((aA (a-1))<(b.length/4:Int)))then
     (Q119.f N (b.getD (a.toNat*4) 0) (b.getD ((a.toNat*4)+1) 0) (b.getD ((a.toNat*4)+2) 0) (b.getD ((a.toNat*4)+3) 0) (b.getD (((aA (a-1)).toNat)*4) 0) (b.getD ((((aA (a-1)).toNat)*4)+1) 0) (b.getD ((((aA (a-1)).toNat)*4)+2) 0) (b.getD ((((aA (a-1)).toNat)*4)+3) 0)).bind fun f=>
     bif decide (f<0)then
      bif (decide (0≤(aA (a-1))))&&(decide ((aA (a-1))<(b.length/4:Int)))then
       bif (decide (0≤a))&&(decide (a<(b.length/4:Int)))then
        bif (decide (0≤a))&&(decide (a<(b.length/4:Int)))then
         bif (decide (0≤(aA (a-1))))&&(decide ((aA (a-1))<(((((((b.set (a.toNat*4) (b.getD (((aA (a-1)).toNat)*4) 0)).set ((a.toNat*4)+1) (b.getD ((((aA (a-1)).toNat)*4)+1) 0)).set ((a.toNat*4)+2) (b.getD ((((aA (a-1)).toNat)*4)+2) 0)).set ((a.toNat*4)+3) (b.getD ((((aA (a-1)).toNat)*4)+3) 0)).length)/4:Nat):Int)))then
          Q122.l4 N n d g c (aA (a-1)) ((((((((b.set (a.toNat*4) (b.getD (((aA (a-1)).toNat)*4) 0)).set ((a.toNat*4)+1) (b.getD ((((aA (a-1)).toNat)*4)+1) 0)).set ((a.toNat*4)+2) (b.getD ((((aA (a-1)).toNat)*4)+2) 0)).set ((a.toNat*4)+3) (b.getD ((((aA (a-1)).toNat)*4)+3) 0)).set (((aA (a-1)).toNat)*4) (b.getD (a.toNat*4) 0)).set ((((aA (a-1)).toNat)*4)+1) (b.getD ((a.toNat*4)+1) 0)).set ((((aA (a-1)).toNat)*4)+2) (b.getD ((a.toNat*4)+2) 0)).set ((((aA (a-1)).toNat)*4)+3) (b.getD ((a.toNat*4)+3) 0)) e
         else none
        else none
       else none
      else none
     else
     e d g c b
    else none
   else none
  else
  e d g c b
noncomputable def Q122.l1 {R:Type}(N:Nat):Nat→Int→Int→Int→List Int→(List Int→Option R)→Option R
 |0,_,_,_,_,_=>none
 |n+1,i,g,a,h,f=>
  bif decide (a<g)then
   Q122.l4 N N i g a a h
    (fun b c d e=>
     Q122.l1 N n b c (aA (d+1)) e f)
  else
  f h
noncomputable def Q122.f (N:Nat)(b c:Int)(d:List Int):Option (List Int):=
 Q122.l1 N N b c (aA (b+1)) d
  (fun a=>
   some a)
noncomputable def Q122.h1:eD:=⟨[(0,.row .i64 4),(1,.any),(2,.any),(3,.any),(8,.any)],[]⟩
noncomputable def Q122.h4:eD:=⟨[(0,.row .i64 4),(1,.any),(2,.any),(3,.any),(8,.any),(9,.any)],[(0,.row .i64 4),(1,.any),(2,.any),(3,.any),(8,.any)]⟩
noncomputable def Q122.c4 (N:Nat):xH:=⟨fun vs H k=>match vs,H with
 | [.sw 0 4,.c (.int .i64 h),.c (.int .i64 i),.fn 67 [] [],.c (.int .i64 a),.c (.int .i64 b)],[.ints .i64 c]=>Q122.l4 N N h i a b c (fun d e f g=>k (.exit 2) ⟨dD Q122.h4.out [.sw 0 4,.c (.int .i64 d),.c (.int .i64 e),.fn 67 [] [],.c (.int .i64 f)],[.ints .i64 g]⟩)
 |_,_=>none⟩
noncomputable def Q122.c1 (N:Nat):xH:=⟨fun vs H k=>match vs,H with
 | [.sw 0 4,.c (.int .i64 b),.c (.int .i64 c),.fn 67 [] [],.c (.int .i64 d)],[.ints .i64 e]=>Q122.l1 N N b c d e (fun a=>k (.exit 0) ⟨dD Q122.h1.out [],[.ints .i64 a]⟩)
 |_,_=>none⟩
noncomputable def Q122.E (N:Nat):bD:=bF [(53,d7),(57,m8)] [(67,Q119.ent N)] [(1,Q122.h1),(4,Q122.h4)] [(4,Q122.c4 N),(1,Q122.c1 N)] N [] [] 1 53
noncomputable def Q122.b4:Code:=sA ((eA (bo Tryz.f127)).getD 1 .skip)
theorem Q122.l4_eq {R:Type}(N n:Nat)(h i a b:Int)(c:List Int)(k:Ex→St→Option R):
  jB 1 Q122.h4 (fun s k=>bB (Q122.E N) 391 Q122.b4 s k) n [.sw 0 4,.c (.int .i64 h),.c (.int .i64 i),.fn 67 [] [],.c (.int .i64 a),.c (.int .i64 b)] [.ints .i64 c] k=Q122.l4 N n h i a b c (fun d e f g=>k (.exit 2) ⟨dD Q122.h4.out [.sw 0 4,.c (.int .i64 d),.c (.int .i64 e),.fn 67 [] [],.c (.int .i64 f)],[.ints .i64 g]⟩):=by
 induction n generalizing h i a b c with
 |zero=>kernel_rfl
 |succ n ih=>
  simp only[Q122.l4,←ih]
  kernel_rfl
noncomputable def Q122.b1:Code:=sA ((eA (bo Tryz.f127)).getD 0 .skip)
theorem Q122.l1_eq {R:Type}(N n:Nat)(b c d:Int)(e:List Int)(k:Ex→St→Option R):
  jB 1 Q122.h1 (fun s k=>bB (Q122.E N) 397 Q122.b1 s k) n [.sw 0 4,.c (.int .i64 b),.c (.int .i64 c),.fn 67 [] [],.c (.int .i64 d)] [.ints .i64 e] k=Q122.l1 N n b c d e (fun a=>k (.exit 0) ⟨dD Q122.h1.out [],[.ints .i64 a]⟩):=by
 induction n generalizing b c d e with
 |zero=>kernel_rfl
 |succ n ih=>
  simp only[Q122.l1,←ih]
  kernel_rfl
noncomputable def Q122.dec (v:V)(bs:List rA):Option (List Int):=match v,bs with
 | .tup [],[.ints .i64 a]=>some a
 |_,_=>none
theorem Q122.f_eq (N:Nat)(a b:Int)(c:List Int):
  cB (Q122.E N) (bo Tryz.f127) [.sw 0 4,.c (.int .i64 a),.c (.int .i64 b),.fn 67 [] []] [.ints .i64 c] Q122.dec=Q122.f N a b c:=by kernel_rfl
noncomputable def Q122.ent (N:Nat):xA:={A:=List Int,fresh:=0,imm:=[false,true,true,false],dec:=fun args bs=>match xF (nA bs) [false,false,false,false] args,bs with
 | [.sw 0 4,.c (.int .i64 a),.c (.int .i64 b),.fn 67 [] []],[.ints .i64 c]=>some (Q122.f N a b c,fun r=>.one (.tup []) [.ints .i64 r])
 |_,_=>none}
theorem Q122.env (N:Nat):aB Tryz.prog (Q122.E N):=⟨(.cons tI (.cons pJ .nil)),(.cons (Q119.ent_ok N) .nil)⟩
theorem Q122.k4 (N:Nat):xB Tryz.prog Tryz.f127 (Q122.E N) (.loop Q122.b4):=gD (Q122.env N) bA 391 (c:=Q122.c4 N) dA.n fun R vs H k r h=>by unfold Q122.c4 at h;dsimp only at h;split at h;exact⟨_,Q122.l4_eq .. ▸h⟩;cases h
theorem Q122.k1 (N:Nat):xB Tryz.prog Tryz.f127 (Q122.E N) (.loop Q122.b1):=gD (Q122.env N) bA 397 (c:=Q122.c1 N) (dA.of (l:=[(.loop (sA ((eA (bo Tryz.f127)).getD 1 .skip)))]) (by kernel_rfl) (dA.cons (Q122.k4 N) dA.nil)) fun R vs H k r h=>by unfold Q122.c1 at h;dsimp only at h;split at h;exact⟨_,Q122.l1_eq .. ▸h⟩;cases h
theorem Q122.spec (N:Nat)(a c:Int)(d r:List Int)(h:Q122.f N a c d=some r):fA Tryz.prog 127 [.sw 0 4,.c (.int .i64 a),.c (.int .i64 c),.fn 67 [] []] [.ints .i64 d] (.tup []) ([.ints .i64 r]):=vA (Q122.env N) bA Tryz.func127 (dA.of (l:=[(.loop (sA ((eA (bo Tryz.f127)).getD 0 .skip))),(.loop (sA ((eA (bo Tryz.f127)).getD 1 .skip)))]) (by kernel_rfl) (dA.cons (Q122.k1 N) (dA.cons (Q122.k4 N) dA.nil))) ((Q122.f_eq ..).trans h) fun v b e=>by unfold Q122.dec at e;split at e<;>cases e;exact⟨rfl,rfl⟩
theorem Q122.ent_ok (N:Nat):uA Tryz.prog 127 (Q122.ent N):=by
 intro args bs a enc h;simp only[Q122.ent]at h;split at h
 ·rename_i hz;have h0:=Option.some.inj h;have h1:=congrArg Prod.fst h0;have h2:=congrArg Prod.snd h0;dsimp only at h1 h2;subst h2;exact fA.of_asSl (fl:=[false,false,false,false]) (by rw[hz];exact Q122.spec N _ _ _ a h1)
 ·cases h
noncomputable def Q123.l3 {R:Type}(g:Int→Int→Int→List Int→Option (List Int))(N:Nat):Nat→Int→Int→Int→List Int→(Int→Int→List Int→Option R)→Option R
 |0,_,_,_,_,_=>none
 |n+1,d,b,c,a,e=>
  bif decide (b<c)then
   bif (decide (0≤(aA (Int.fdiv (gA (aA (b+c))) (2^1)))))&&(decide ((aA (Int.fdiv (gA (aA (b+c))) (2^1)))<(a.length/4:Int)))then
    bif (decide (0≤d))&&(decide (d<(a.length/4:Int)))then
     (Q119.f N (a.getD (((aA (Int.fdiv (gA (aA (b+c))) (2^1))).toNat)*4) 0) (a.getD ((((aA (Int.fdiv (gA (aA (b+c))) (2^1))).toNat)*4)+1) 0) (a.getD ((((aA (Int.fdiv (gA (aA (b+c))) (2^1))).toNat)*4)+2) 0) (a.getD ((((aA (Int.fdiv (gA (aA (b+c))) (2^1))).toNat)*4)+3) 0) (a.getD (d.toNat*4) 0) (a.getD ((d.toNat*4)+1) 0) (a.getD ((d.toNat*4)+2) 0) (a.getD ((d.toNat*4)+3) 0)).bind fun f=>
     bif decide (f<0)then
      Q123.l3 g N n d (aA ((aA (Int.fdiv (gA (aA (b+c))) (2^1)))+1)) c a e
     else
     Q123.l3 g N n d b (aA (Int.fdiv (gA (aA (b+c))) (2^1))) a e
    else none
   else none
  else
  e d b a
noncomputable def Q123.l9 {R:Type}(g:Int→Int→Int→List Int→Option (List Int))(N:Nat):Nat→Int→Int→List Int→(List Int→Option R)→Option R
 |0,_,_,_,_=>none
 |n+1,c,a,b,d=>
  bif decide (a<(aA (c-1)))then
   bif (decide (0≤(aA (a+1))))&&(decide ((aA (a+1))<(b.length/4:Int)))then
    bif (decide (0≤a))&&(decide (a<(b.length/4:Int)))then
     bif (decide (0≤a))&&(decide (a<(b.length/4:Int)))then
      bif (decide (0≤(aA (a+1))))&&(decide ((aA (a+1))<((((((b.set (a.toNat*4) (b.getD (((aA (a+1)).toNat)*4) 0)).set ((a.toNat*4)+1) (b.getD ((((aA (a+1)).toNat)*4)+1) 0)).set ((a.toNat*4)+2) (b.getD ((((aA (a+1)).toNat)*4)+2) 0)).set ((a.toNat*4)+3) (b.getD ((((aA (a+1)).toNat)*4)+3) 0)).length)/4:Int)))then
       Q123.l9 g N n c (aA (a+1)) ((((((((b.set (a.toNat*4) (b.getD (((aA (a+1)).toNat)*4) 0)).set ((a.toNat*4)+1) (b.getD ((((aA (a+1)).toNat)*4)+1) 0)).set ((a.toNat*4)+2) (b.getD ((((aA (a+1)).toNat)*4)+2) 0)).set ((a.toNat*4)+3) (b.getD ((((aA (a+1)).toNat)*4)+3) 0)).set (((aA (a+1)).toNat)*4) (b.getD (a.toNat*4) 0)).set ((((aA (a+1)).toNat)*4)+1) (b.getD ((a.toNat*4)+1) 0)).set ((((aA (a+1)).toNat)*4)+2) (b.getD ((a.toNat*4)+2) 0)).set ((((aA (a+1)).toNat)*4)+3) (b.getD ((a.toNat*4)+3) 0)) d
      else none
     else none
    else none
   else none
  else
  d b
noncomputable def Q123.l15 {R:Type}(g:Int→Int→Int→List Int→Option (List Int))(N:Nat):Nat→Int→Int→Int→List Int→(Int→Int→List Int→Option R)→Option R
 |0,_,_,_,_,_=>none
 |n+1,d,b,c,a,e=>
  bif decide (b<c)then
   bif (decide (0≤d))&&(decide (d<(a.length/4:Int)))then
    bif (decide (0≤(aA (Int.fdiv (gA (aA (b+c))) (2^1)))))&&(decide ((aA (Int.fdiv (gA (aA (b+c))) (2^1)))<(a.length/4:Int)))then
     (Q119.f N (a.getD (d.toNat*4) 0) (a.getD ((d.toNat*4)+1) 0) (a.getD ((d.toNat*4)+2) 0) (a.getD ((d.toNat*4)+3) 0) (a.getD (((aA (Int.fdiv (gA (aA (b+c))) (2^1))).toNat)*4) 0) (a.getD ((((aA (Int.fdiv (gA (aA (b+c))) (2^1))).toNat)*4)+1) 0) (a.getD ((((aA (Int.fdiv (gA (aA (b+c))) (2^1))).toNat)*4)+2) 0) (a.getD ((((aA (Int.fdiv (gA (aA (b+c))) (2^1))).toNat)*4)+3) 0)).bind fun f=>
     bif !(decide (f<0))then
      Q123.l15 g N n d (aA ((aA (Int.fdiv (gA (aA (b+c))) (2^1)))+1)) c a e
     else
     Q123.l15 g N n d b (aA (Int.fdiv (gA (aA (b+c))) (2^1))) a e
    else none
   else none
  else
  e d b a
noncomputable def Q123.l21 {R:Type}(g:Int→Int→Int→List Int→Option (List Int))(N:Nat):Nat→Int→Int→List Int→(List Int→Option R)→Option R
 |0,_,_,_,_=>none
 |n+1,c,a,b,d=>
  bif decide (a>c)then
   bif (decide (0≤(aA (a-1))))&&(decide ((aA (a-1))<(b.length/4:Int)))then
    bif (decide (0≤a))&&(decide (a<(b.length/4:Int)))then
     bif (decide (0≤a))&&(decide (a<(b.length/4:Int)))then
      bif (decide (0≤(aA (a-1))))&&(decide ((aA (a-1))<(((((((b.set (a.toNat*4) (b.getD (((aA (a-1)).toNat)*4) 0)).set ((a.toNat*4)+1) (b.getD ((((aA (a-1)).toNat)*4)+1) 0)).set ((a.toNat*4)+2) (b.getD ((((aA (a-1)).toNat)*4)+2) 0)).set ((a.toNat*4)+3) (b.getD ((((aA (a-1)).toNat)*4)+3) 0)).length)/4:Nat):Int)))then
       Q123.l21 g N n c (aA (a-1)) ((((((((b.set (a.toNat*4) (b.getD (((aA (a-1)).toNat)*4) 0)).set ((a.toNat*4)+1) (b.getD ((((aA (a-1)).toNat)*4)+1) 0)).set ((a.toNat*4)+2) (b.getD ((((aA (a-1)).toNat)*4)+2) 0)).set ((a.toNat*4)+3) (b.getD ((((aA (a-1)).toNat)*4)+3) 0)).set (((aA (a-1)).toNat)*4) (b.getD (a.toNat*4) 0)).set ((((aA (a-1)).toNat)*4)+1) (b.getD ((a.toNat*4)+1) 0)).set ((((aA (a-1)).toNat)*4)+2) (b.getD ((a.toNat*4)+2) 0)).set ((((aA (a-1)).toNat)*4)+3) (b.getD ((a.toNat*4)+3) 0)) d
      else none
     else none
    else none
   else none
  else
  d b
noncomputable def Q123.l33 {R:Type}(g:Int→Int→Int→List Int→Option (List Int))(N:Nat):Nat→Int→Int→Int→Int→Int→Int→Int→Int→List Int→(Int→Int→Int→Int→Int→Int→List Int→Option R)→Option R
 |0,_,_,_,_,_,_,_,_,_,_=>none
 |n+1,e,f,h,i,j,a,b,d,c,k=>
  bif decide (a<b)then
   bif (decide (0≤(aA (d- (aA (Int.fdiv (gA (aA (a+b))) (2^1)))))))&&(decide ((aA (d- (aA (Int.fdiv (gA (aA (a+b))) (2^1)))))<(c.length/4:Int)))then
    bif (decide (0≤(aA (Int.fdiv (gA (aA (a+b))) (2^1)))))&&(decide ((aA (Int.fdiv (gA (aA (a+b))) (2^1)))<(c.length/4:Int)))then
     (Q119.f N (c.getD (((aA (d- (aA (Int.fdiv (gA (aA (a+b))) (2^1))))).toNat)*4) 0) (c.getD ((((aA (d- (aA (Int.fdiv (gA (aA (a+b))) (2^1))))).toNat)*4)+1) 0) (c.getD ((((aA (d- (aA (Int.fdiv (gA (aA (a+b))) (2^1))))).toNat)*4)+2) 0) (c.getD ((((aA (d- (aA (Int.fdiv (gA (aA (a+b))) (2^1))))).toNat)*4)+3) 0) (c.getD (((aA (Int.fdiv (gA (aA (a+b))) (2^1))).toNat)*4) 0) (c.getD ((((aA (Int.fdiv (gA (aA (a+b))) (2^1))).toNat)*4)+1) 0) (c.getD ((((aA (Int.fdiv (gA (aA (a+b))) (2^1))).toNat)*4)+2) 0) (c.getD ((((aA (Int.fdiv (gA (aA (a+b))) (2^1))).toNat)*4)+3) 0)).bind fun l=>
     bif !(decide (l<0))then
      Q123.l33 g N n e f h i j (aA ((aA (Int.fdiv (gA (aA (a+b))) (2^1)))+1)) b d c k
     else
     Q123.l33 g N n e f h i j a (aA (Int.fdiv (gA (aA (a+b))) (2^1))) d c k
    else none
   else none
  else
  k e f h i j a c
noncomputable def Q123.step (g:Int→Int→Int→List Int→Option (List Int))(N:Nat)(o q r:Int)(a4:List Int):Option (List Int):=
 bif (aA (q-o))==1 then
  Q123.l3 g N N o q r a4
   (fun y13 y14 y15=>
    Q123.l9 g N N y14 y13 y15
     (fun y20=>
      some y20))
 else
 bif (aA (r-q))==1 then
  Q123.l15 g N N q o q a4
   (fun y30 y31 y32=>
    Q123.l21 g N N y31 y30 y32
     (fun y37=>
      some y37))
 else
 bif decide (q>(aA (Int.fdiv (gA (aA (o+r))) (2^1))))then
  Q123.l33 g N N o q r (aA (Int.fdiv (gA (aA (o+r))) (2^1))) (aA ((aA (Int.fdiv (gA (aA (o+r))) (2^1)))+q)) (aA ((aA ((aA (Int.fdiv (gA (aA (o+r))) (2^1)))+q))-r)) (aA (Int.fdiv (gA (aA (o+r))) (2^1))) (aA ((aA ((aA (Int.fdiv (gA (aA (o+r))) (2^1)))+q))-1)) a4
   (fun s y57 j h e c k=>
    bif decide (c<y57)then
     bif decide (y57<(aA (e-c)))then
      (Q121.f N c y57 (aA (e-c)) k).bind fun p=>
      bif decide (s<c)then
       bif decide (c<h)then
        (g s c h p).bind fun x=>
        bif decide (h<(aA (e-c)))then
         bif decide ((aA (e-c))<j)then
          (g h (aA (e-c)) j x).bind fun r65=>
          some r65
         else
         some x
        else
        some x
       else
       bif decide (h<(aA (e-c)))then
        bif decide ((aA (e-c))<j)then
         (g h (aA (e-c)) j p).bind fun r69=>
         some r69
        else
        some p
       else
       some p
      else
      bif decide (h<(aA (e-c)))then
       bif decide ((aA (e-c))<j)then
        (g h (aA (e-c)) j p).bind fun r73=>
        some r73
       else
       some p
      else
      some p
     else
     bif decide (s<c)then
      bif decide (c<h)then
       (g s c h k).bind fun y=>
       bif decide (h<(aA (e-c)))then
        bif decide ((aA (e-c))<j)then
         (g h (aA (e-c)) j y).bind fun r78=>
         some r78
        else
        some y
       else
       some y
      else
      bif decide (h<(aA (e-c)))then
       bif decide ((aA (e-c))<j)then
        (g h (aA (e-c)) j k).bind fun r82=>
        some r82
       else
       some k
      else
      some k
     else
     bif decide (h<(aA (e-c)))then
      bif decide ((aA (e-c))<j)then
       (g h (aA (e-c)) j k).bind fun r86=>
       some r86
      else
      some k
     else
     some k
    else
    bif decide (s<c)then
     bif decide (c<h)then
      (g s c h k).bind fun z=>
      bif decide (h<(aA (e-c)))then
       bif decide ((aA (e-c))<j)then
        (g h (aA (e-c)) j z).bind fun r91=>
        some r91
       else
       some z
      else
      some z
     else
     bif decide (h<(aA (e-c)))then
      bif decide ((aA (e-c))<j)then
       (g h (aA (e-c)) j k).bind fun r95=>
       some r95
      else
      some k
     else
     some k
    else
    bif decide (h<(aA (e-c)))then
     bif decide ((aA (e-c))<j)then
      (g h (aA (e-c)) j k).bind fun r99=>
      some r99
     else
     some k
    else
    some k)
 else
 Q123.l33 g N N o q r (aA (Int.fdiv (gA (aA (o+r))) (2^1))) (aA ((aA (Int.fdiv (gA (aA (o+r))) (2^1)))+q)) o q (aA ((aA ((aA (Int.fdiv (gA (aA (o+r))) (2^1)))+q))-1)) a4
  (fun m w f d b a i=>
   bif decide (a<w)then
    bif decide (w<(aA (b-a)))then
     (Q121.f N a w (aA (b-a)) i).bind fun l=>
     bif decide (m<a)then
      bif decide (a<d)then
       (g m a d l).bind fun t=>
       bif decide (d<(aA (b-a)))then
        bif decide ((aA (b-a))<f)then
         (g d (aA (b-a)) f t).bind fun r112=>
         some r112
        else
        some t
       else
       some t
      else
      bif decide (d<(aA (b-a)))then
       bif decide ((aA (b-a))<f)then
        (g d (aA (b-a)) f l).bind fun r116=>
        some r116
       else
       some l
      else
      some l
     else
     bif decide (d<(aA (b-a)))then
      bif decide ((aA (b-a))<f)then
       (g d (aA (b-a)) f l).bind fun r120=>
       some r120
      else
      some l
     else
     some l
    else
    bif decide (m<a)then
     bif decide (a<d)then
      (g m a d i).bind fun u=>
      bif decide (d<(aA (b-a)))then
       bif decide ((aA (b-a))<f)then
        (g d (aA (b-a)) f u).bind fun r125=>
        some r125
       else
       some u
      else
      some u
     else
     bif decide (d<(aA (b-a)))then
      bif decide ((aA (b-a))<f)then
       (g d (aA (b-a)) f i).bind fun r129=>
       some r129
      else
      some i
     else
     some i
    else
    bif decide (d<(aA (b-a)))then
     bif decide ((aA (b-a))<f)then
      (g d (aA (b-a)) f i).bind fun r133=>
      some r133
     else
     some i
    else
    some i
   else
   bif decide (m<a)then
    bif decide (a<d)then
     (g m a d i).bind fun v=>
     bif decide (d<(aA (b-a)))then
      bif decide ((aA (b-a))<f)then
       (g d (aA (b-a)) f v).bind fun r138=>
       some r138
      else
      some v
     else
     some v
    else
    bif decide (d<(aA (b-a)))then
     bif decide ((aA (b-a))<f)then
      (g d (aA (b-a)) f i).bind fun r142=>
      some r142
     else
     some i
    else
    some i
   else
   bif decide (d<(aA (b-a)))then
    bif decide ((aA (b-a))<f)then
     (g d (aA (b-a)) f i).bind fun r146=>
     some r146
    else
    some i
   else
   some i)
noncomputable def Q123.ty:List (Nat×TI):=[(3,Cn),(53,d7),(57,m8),(79,Gd)]
noncomputable def Q123.h3:eD:=⟨[(0,.row .i64 4),(1,.any),(4,.any),(10,.any),(11,.any)],[(0,.row .i64 4),(1,.any),(10,.any)]⟩
noncomputable def Q123.h9:eD:=⟨[(0,.row .i64 4),(10,.any),(13,.any)],[]⟩
noncomputable def Q123.h15:eD:=⟨[(0,.row .i64 4),(2,.any),(4,.any),(14,.any),(15,.any)],[(0,.row .i64 4),(2,.any),(14,.any)]⟩
noncomputable def Q123.h21:eD:=⟨[(0,.row .i64 4),(14,.any),(17,.any)],[]⟩
noncomputable def Q123.h33:eD:=⟨[(0,.row .i64 4),(1,.any),(2,.any),(3,.any),(4,.any),(18,.any),(19,.any),(20,.any),(21,.any),(22,.any)],[(0,.row .i64 4),(1,.any),(2,.any),(3,.any),(4,.any),(18,.any),(19,.any),(20,.any)]⟩
noncomputable def Q123.c3 (g:Int→Int→Int→List Int→Option (List Int))(N:Nat):xH:=⟨fun vs H k=>match vs,H with
 | [.sw 0 4,.c (.int .i64 d),.fn 67 [] [],.c (.int .i64 e),.c (.int .i64 f)],[.ints .i64 h]=>Q123.l3 g N N d e f h (fun a b c=>k (.exit 0) ⟨dD Q123.h3.out [.sw 0 4,.c (.int .i64 a),.c (.int .i64 b)],[.ints .i64 c]⟩)
 |_,_=>none⟩
noncomputable def Q123.c9 (g:Int→Int→Int→List Int→Option (List Int))(N:Nat):xH:=⟨fun vs H k=>match vs,H with
 | [.sw 0 4,.c (.int .i64 a),.c (.int .i64 b)],[.ints .i64 c]=>Q123.l9 g N N a b c (fun d=>k (.exit 2) ⟨dD Q123.h9.out [],[.ints .i64 d]⟩)
 |_,_=>none⟩
noncomputable def Q123.c15 (g:Int→Int→Int→List Int→Option (List Int))(N:Nat):xH:=⟨fun vs H k=>match vs,H with
 | [.sw 0 4,.c (.int .i64 a),.fn 67 [] [],.c (.int .i64 b),.c (.int .i64 c)],[.ints .i64 d]=>Q123.l15 g N N a b c d (fun e f h=>k (.exit 4) ⟨dD Q123.h15.out [.sw 0 4,.c (.int .i64 e),.c (.int .i64 f)],[.ints .i64 h]⟩)
 |_,_=>none⟩
noncomputable def Q123.c21 (g:Int→Int→Int→List Int→Option (List Int))(N:Nat):xH:=⟨fun vs H k=>match vs,H with
 | [.sw 0 4,.c (.int .i64 a),.c (.int .i64 b)],[.ints .i64 c]=>Q123.l21 g N N a b c (fun d=>k (.exit 6) ⟨dD Q123.h21.out [],[.ints .i64 d]⟩)
 |_,_=>none⟩
noncomputable def Q123.c33 (g:Int→Int→Int→List Int→Option (List Int))(N:Nat):xH:=⟨fun vs H k=>match vs,H with
 | [.sw 0 4,.c (.int .i64 a),.c (.int .i64 b),.c (.int .i64 c),.fn 67 [] [],.c (.int .i64 d),.c (.int .i64 e),.c (.int .i64 f),.c (.int .i64 h),.c (.int .i64 i)],[.ints .i64 j]=>Q123.l33 g N N a b c d e f h i j (fun l m o p q r s=>k (.exit 8) ⟨dD Q123.h33.out [.sw 0 4,.c (.int .i64 l),.c (.int .i64 m),.c (.int .i64 o),.fn 67 [] [],.c (.int .i64 p),.c (.int .i64 q),.c (.int .i64 r)],[.ints .i64 s]⟩)
 |_,_=>none⟩
noncomputable def Q123.entg (g:Int→Int→Int→List Int→Option (List Int)):xA:={A:=List Int,fresh:=0,imm:=[false,true,true,true,false],dec:=fun args bs=>match xF (nA bs) [false,false,false,false,false] args,bs with
 | [.sw 0 4,.c (.int .i64 a),.c (.int .i64 b),.c (.int .i64 c),.fn 67 [] []],[.ints .i64 d]=>some (g a b c d,fun r=>.one (.tup []) [.ints .i64 r])
 |_,_=>none}
theorem Q123.entg_ok (g:Int→Int→Int→List Int→Option (List Int))(hg:∀(b c d:Int) (e r:List Int),g b c d e=some r→fA Tryz.prog 128 [.sw 0 4,.c (.int .i64 b),.c (.int .i64 c),.c (.int .i64 d),.fn 67 [] []] [.ints .i64 e] (.tup []) ([.ints .i64 r])):uA Tryz.prog 128 (Q123.entg g):=by
 intro args bs a enc h;simp only[Q123.entg]at h;split at h
 ·rename_i hz;have h0:=Option.some.inj h;have h1:=congrArg Prod.fst h0;have h2:=congrArg Prod.snd h0;dsimp only at h1 h2;subst h2;exact fA.of_asSl (fl:=[false,false,false,false,false]) (by rw[hz];exact hg _ _ _ _ a h1)
 ·cases h
noncomputable def Q123.E (g:Int→Int→Int→List Int→Option (List Int))(N:Nat):bD:={ty:=pG Q123.ty,tab:=pG [(67,Q119.ent N),(155,Q121.ent N),(128,Q123.entg g)],hint:=pG [(3,Q123.h3),(9,Q123.h9),(15,Q123.h15),(21,Q123.h21),(33,Q123.h33)],cut:=pG [(3,Q123.c3 g N),(9,Q123.c9 g N),(15,Q123.c15 g N),(21,Q123.c21 g N),(33,Q123.c33 g N)],N:=N,res:=[],rsh:=[],nb:=1,ntmps:=220,own:=false}
noncomputable def Q123.b3:Code:=sA ((eA (bo Tryz.f128)).getD 0 .skip)
theorem Q123.l3_eq {R:Type}(g:Int→Int→Int→List Int→Option (List Int))(N n:Nat)(d e f:Int)(h:List Int)(k:Ex→St→Option R):
  jB 1 Q123.h3 (fun s k=>bB (Q123.E g N) 392 Q123.b3 s k) n [.sw 0 4,.c (.int .i64 d),.fn 67 [] [],.c (.int .i64 e),.c (.int .i64 f)] [.ints .i64 h] k=Q123.l3 g N n d e f h (fun a b c=>k (.exit 0) ⟨dD Q123.h3.out [.sw 0 4,.c (.int .i64 a),.c (.int .i64 b)],[.ints .i64 c]⟩):=by
 induction n generalizing d e f h with
 |zero=>kernel_rfl
 |succ n ih=>
  simp only[Q123.l3,←ih]
  kernel_rfl
noncomputable def Q123.b9:Code:=sA ((eA (bo Tryz.f128)).getD 1 .skip)
theorem Q123.l9_eq {R:Type}(g:Int→Int→Int→List Int→Option (List Int))(N n:Nat)(a b:Int)(c:List Int)(k:Ex→St→Option R):
  jB 1 Q123.h9 (fun s k=>bB (Q123.E g N) 390 Q123.b9 s k) n [.sw 0 4,.c (.int .i64 a),.c (.int .i64 b)] [.ints .i64 c] k=Q123.l9 g N n a b c (fun d=>k (.exit 2) ⟨dD Q123.h9.out [],[.ints .i64 d]⟩):=by
 induction n generalizing a b c with
 |zero=>kernel_rfl
 |succ n ih=>
  simp only[Q123.l9,←ih]
  kernel_rfl
noncomputable def Q123.b15:Code:=sA ((eA (bo Tryz.f128)).getD 2 .skip)
theorem Q123.l15_eq {R:Type}(g:Int→Int→Int→List Int→Option (List Int))(N n:Nat)(a b c:Int)(d:List Int)(k:Ex→St→Option R):
  jB 1 Q123.h15 (fun s k=>bB (Q123.E g N) 391 Q123.b15 s k) n [.sw 0 4,.c (.int .i64 a),.fn 67 [] [],.c (.int .i64 b),.c (.int .i64 c)] [.ints .i64 d] k=Q123.l15 g N n a b c d (fun e f h=>k (.exit 4) ⟨dD Q123.h15.out [.sw 0 4,.c (.int .i64 e),.c (.int .i64 f)],[.ints .i64 h]⟩):=by
 induction n generalizing a b c d with
 |zero=>kernel_rfl
 |succ n ih=>
  simp only[Q123.l15,←ih]
  kernel_rfl
noncomputable def Q123.b21:Code:=sA ((eA (bo Tryz.f128)).getD 3 .skip)
theorem Q123.l21_eq {R:Type}(g:Int→Int→Int→List Int→Option (List Int))(N n:Nat)(a b:Int)(c:List Int)(k:Ex→St→Option R):
  jB 1 Q123.h21 (fun s k=>bB (Q123.E g N) 389 Q123.b21 s k) n [.sw 0 4,.c (.int .i64 a),.c (.int .i64 b)] [.ints .i64 c] k=Q123.l21 g N n a b c (fun d=>k (.exit 6) ⟨dD Q123.h21.out [],[.ints .i64 d]⟩):=by
 induction n generalizing a b c with
 |zero=>kernel_rfl
 |succ n ih=>
  simp only[Q123.l21,←ih]
  kernel_rfl
noncomputable def Q123.b33:Code:=sA ((eA (bo Tryz.f128)).getD 4 .skip)
theorem Q123.l33_eq {R:Type}(g:Int→Int→Int→List Int→Option (List Int))(N n:Nat)(a b c d e f h i:Int)(j:List Int)(k:Ex→St→Option R):
  jB 1 Q123.h33 (fun s k=>bB (Q123.E g N) 390 Q123.b33 s k) n [.sw 0 4,.c (.int .i64 a),.c (.int .i64 b),.c (.int .i64 c),.fn 67 [] [],.c (.int .i64 d),.c (.int .i64 e),.c (.int .i64 f),.c (.int .i64 h),.c (.int .i64 i)] [.ints .i64 j] k=Q123.l33 g N n a b c d e f h i j (fun l m o p q r t=>k (.exit 8) ⟨dD Q123.h33.out [.sw 0 4,.c (.int .i64 l),.c (.int .i64 m),.c (.int .i64 o),.fn 67 [] [],.c (.int .i64 p),.c (.int .i64 q),.c (.int .i64 r)],[.ints .i64 t]⟩):=by
 induction n generalizing a b c d e f h i j with
 |zero=>kernel_rfl
 |succ n ih=>
  simp only[Q123.l33,←ih]
  kernel_rfl
noncomputable def Q123.dec (v:V)(bs:List rA):Option (List Int):=match v,bs with
 | .tup [],[.ints .i64 a]=>some a
 |_,_=>none
theorem Q123.f_eq (g:Int→Int→Int→List Int→Option (List Int))(N:Nat)(a b c:Int)(d:List Int):
  cB (Q123.E g N) (bo Tryz.f128) [.sw 0 4,.c (.int .i64 a),.c (.int .i64 b),.c (.int .i64 c),.fn 67 [] []] [.ints .i64 d] Q123.dec=Q123.step g N a b c d:=by kernel_rfl
theorem Q123.env (g:Int→Int→Int→List Int→Option (List Int))(hg:∀(a b c:Int) (d r:List Int),g a b c d=some r→fA Tryz.prog 128 [.sw 0 4,.c (.int .i64 a),.c (.int .i64 b),.c (.int .i64 c),.fn 67 [] []] [.ints .i64 d] (.tup []) ([.ints .i64 r]))(N:Nat):aB Tryz.prog (Q123.E g N):=⟨(vD.cons yL (vD.cons tI (vD.cons pJ (vD.cons uy vD.nil)))),(wK.cons (Q119.ent_ok N) (wK.cons (Q121.ent_ok N) (wK.cons (Q123.entg_ok g hg) wK.nil)))⟩
theorem Q123.res_eq (g:Int→Int→Int→List Int→Option (List Int))(N:Nat):(Q123.E g N).res=Tryz.f128.results.toList:=by kernel_rfl
theorem Q123.k33 (g:Int→Int→Int→List Int→Option (List Int))(hg:∀(a b c:Int) (d r:List Int),g a b c d=some r→fA Tryz.prog 128 [.sw 0 4,.c (.int .i64 a),.c (.int .i64 b),.c (.int .i64 c),.fn 67 [] []] [.ints .i64 d] (.tup []) ([.ints .i64 r]))(N:Nat):xB Tryz.prog Tryz.f128 (Q123.E g N) (.loop Q123.b33):=by
 intro e hd he hh R vs H k r h;have e1:(Q123.E g N).cut (yC Q123.b33)=some (Q123.c33 g N):=by kernel_rfl
 have e2:(Q123.E g N).hint (yC Q123.b33)=some Q123.h33:=by kernel_rfl
 rw[e1]at he;rw[e2]at hh;cases he;cases hh;unfold Q123.c33 at h;dsimp only at h;split at h
 ·rw[←Q123.l33_eq]at h;exact eL (jG (Q123.env g hg N) bA (Q123.res_eq g N) 390 Q123.b33 dA.n) h
 ·cases h
theorem Q123.k21 (g:Int→Int→Int→List Int→Option (List Int))(hg:∀(a b c:Int) (d r:List Int),g a b c d=some r→fA Tryz.prog 128 [.sw 0 4,.c (.int .i64 a),.c (.int .i64 b),.c (.int .i64 c),.fn 67 [] []] [.ints .i64 d] (.tup []) ([.ints .i64 r]))(N:Nat):xB Tryz.prog Tryz.f128 (Q123.E g N) (.loop Q123.b21):=by
 intro e hd he hh R vs H k r h;have e1:(Q123.E g N).cut (yC Q123.b21)=some (Q123.c21 g N):=by kernel_rfl
 have e2:(Q123.E g N).hint (yC Q123.b21)=some Q123.h21:=by kernel_rfl
 rw[e1]at he;rw[e2]at hh;cases he;cases hh;unfold Q123.c21 at h;dsimp only at h;split at h
 ·rw[←Q123.l21_eq]at h;exact eL (jG (Q123.env g hg N) bA (Q123.res_eq g N) 389 Q123.b21 dA.n) h
 ·cases h
theorem Q123.k15 (g:Int→Int→Int→List Int→Option (List Int))(hg:∀(a b c:Int) (d r:List Int),g a b c d=some r→fA Tryz.prog 128 [.sw 0 4,.c (.int .i64 a),.c (.int .i64 b),.c (.int .i64 c),.fn 67 [] []] [.ints .i64 d] (.tup []) ([.ints .i64 r]))(N:Nat):xB Tryz.prog Tryz.f128 (Q123.E g N) (.loop Q123.b15):=by
 intro e hd he hh R vs H k r h;have e1:(Q123.E g N).cut (yC Q123.b15)=some (Q123.c15 g N):=by kernel_rfl
 have e2:(Q123.E g N).hint (yC Q123.b15)=some Q123.h15:=by kernel_rfl
 rw[e1]at he;rw[e2]at hh;cases he;cases hh;unfold Q123.c15 at h;dsimp only at h;split at h
 ·rw[←Q123.l15_eq]at h;exact eL (jG (Q123.env g hg N) bA (Q123.res_eq g N) 391 Q123.b15 dA.n) h
 ·cases h
theorem Q123.k9 (g:Int→Int→Int→List Int→Option (List Int))(hg:∀(a b c:Int) (d r:List Int),g a b c d=some r→fA Tryz.prog 128 [.sw 0 4,.c (.int .i64 a),.c (.int .i64 b),.c (.int .i64 c),.fn 67 [] []] [.ints .i64 d] (.tup []) ([.ints .i64 r]))(N:Nat):xB Tryz.prog Tryz.f128 (Q123.E g N) (.loop Q123.b9):=by
 intro e hd he hh R vs H k r h;have e1:(Q123.E g N).cut (yC Q123.b9)=some (Q123.c9 g N):=by kernel_rfl
 have e2:(Q123.E g N).hint (yC Q123.b9)=some Q123.h9:=by kernel_rfl
 rw[e1]at he;rw[e2]at hh;cases he;cases hh;unfold Q123.c9 at h;dsimp only at h;split at h
 ·rw[←Q123.l9_eq]at h;exact eL (jG (Q123.env g hg N) bA (Q123.res_eq g N) 390 Q123.b9 dA.n) h
 ·cases h
theorem Q123.k3 (g:Int→Int→Int→List Int→Option (List Int))(hg:∀(a b c:Int) (d r:List Int),g a b c d=some r→fA Tryz.prog 128 [.sw 0 4,.c (.int .i64 a),.c (.int .i64 b),.c (.int .i64 c),.fn 67 [] []] [.ints .i64 d] (.tup []) ([.ints .i64 r]))(N:Nat):xB Tryz.prog Tryz.f128 (Q123.E g N) (.loop Q123.b3):=by
 intro e hd he hh R vs H k r h;have e1:(Q123.E g N).cut (yC Q123.b3)=some (Q123.c3 g N):=by kernel_rfl
 have e2:(Q123.E g N).hint (yC Q123.b3)=some Q123.h3:=by kernel_rfl
 rw[e1]at he;rw[e2]at hh;cases he;cases hh;unfold Q123.c3 at h;dsimp only at h;split at h
 ·rw[←Q123.l3_eq]at h;exact eL (jG (Q123.env g hg N) bA (Q123.res_eq g N) 392 Q123.b3 dA.n) h
 ·cases h
theorem Q123.spec1 (g:Int→Int→Int→List Int→Option (List Int))(hg:∀(a b c:Int) (d r:List Int),g a b c d=some r→fA Tryz.prog 128 [.sw 0 4,.c (.int .i64 a),.c (.int .i64 b),.c (.int .i64 c),.fn 67 [] []] [.ints .i64 d] (.tup []) ([.ints .i64 r]))(N:Nat)(a b c:Int)(d r:List Int)(h:Q123.step g N a b c d=some r):fA Tryz.prog 128 [.sw 0 4,.c (.int .i64 a),.c (.int .i64 b),.c (.int .i64 c),.fn 67 [] []] [.ints .i64 d] (.tup []) ([.ints .i64 r]):=by
 rw[←Q123.f_eq]at h;refine(wR (Q123.env g hg N) bA Tryz.func128 (by kernel_rfl:Tryz.f128.body=some (bo Tryz.f128)) (by kernel_rfl) (Q123.res_eq g N) (by kernel_rfl) (by kernel_rfl) (hA (by kernel_rfl)) (dA.of (l:=[(.loop (sA ((eA (bo Tryz.f128)).getD 0 .skip))),(.loop (sA ((eA (bo Tryz.f128)).getD 1 .skip))),(.loop (sA ((eA (bo Tryz.f128)).getD 2 .skip))),(.loop (sA ((eA (bo Tryz.f128)).getD 3 .skip))),(.loop (sA ((eA (bo Tryz.f128)).getD 4 .skip)))]) (by kernel_rfl) (dA.cons (Q123.k3 g hg N) (dA.cons (Q123.k9 g hg N) (dA.cons (Q123.k15 g hg N) (dA.cons (Q123.k21 g hg N) (dA.cons (Q123.k33 g hg N) dA.nil)))))) h).of fun v bs' h1=>?_;unfold Q123.dec at h1;split at h1
 ·cases h1;exact⟨rfl,rfl⟩
 ·cases h1
noncomputable def Q123.g (N:Nat):Nat→Int→Int→Int→List Int→Option (List Int)
 |0,_,_,_,_=>none
 |n+1,a,b,c,d=>Q123.step (Q123.g N n) N a b c d
noncomputable def Q123.f (N:Nat)(a b c:Int)(d:List Int):Option (List Int):=Q123.g N N a b c d
theorem Q123.gspec (N:Nat):∀(n:Nat) (a b c:Int) (d r:List Int) (h:Q123.g N n a b c d=some r),fA Tryz.prog 128 [.sw 0 4,.c (.int .i64 a),.c (.int .i64 b),.c (.int .i64 c),.fn 67 [] []] [.ints .i64 d] (.tup []) ([.ints .i64 r])
 |0,_,_,_,_,_,h=>by cases h
 |n+1,a,b,c,d,r,h=>Q123.spec1 (Q123.g N n) (Q123.gspec N n) N a b c d r h
theorem Q123.spec (N:Nat)(a b c:Int)(d r:List Int)(h:Q123.f N a b c d=some r):fA Tryz.prog 128 [.sw 0 4,.c (.int .i64 a),.c (.int .i64 b),.c (.int .i64 c),.fn 67 [] []] [.ints .i64 d] (.tup []) ([.ints .i64 r]):=Q123.gspec N N a b c d r h
noncomputable def Q123.ent (N:Nat):xA:={A:=List Int,fresh:=0,imm:=[false,true,true,true,false],dec:=fun args bs=>match xF (nA bs) [false,false,false,false,false] args,bs with
 | [.sw 0 4,.c (.int .i64 a),.c (.int .i64 b),.c (.int .i64 c),.fn 67 [] []],[.ints .i64 d]=>some (Q123.f N a b c d,fun r=>.one (.tup []) [.ints .i64 r])
 |_,_=>none}
theorem Q123.ent_ok (N:Nat):uA Tryz.prog 128 (Q123.ent N):=by
 intro args bs a enc h;simp only[Q123.ent]at h;split at h
 ·rename_i hz;have h0:=Option.some.inj h;have h1:=congrArg Prod.fst h0;have h2:=congrArg Prod.snd h0;dsimp only at h1 h2;subst h2;exact fA.of_asSl (fl:=[false,false,false,false,false]) (by rw[hz];exact Q123.spec N _ _ _ _ a h1)
 ·cases h
noncomputable def Q124.l2 {R:Type}(N:Nat):Nat→Int→Int→Int→Int→List Int→(Int→Int→Int→List Int→Option R)→Option R
 |0,_,_,_,_,_,_=>none
 |n+1,b,c,e,a,f,d=>
  bif decide (a≤b)then
   (Q122.f N e a f).bind fun g=>
   Q124.l2 N n b c a (aA (a+c)) g d
  else
  d b c e f
noncomputable def Q124.l9 {R:Type}(N:Nat):Nat→Int→Int→Int→Int→List Int→(Int→Int→Int→List Int→Option R)→Option R
 |0,_,_,_,_,_,_=>none
 |n+1,c,a,d,b,e,g=>
  bif decide (b≤c)then
   (Q123.f N d (aA (d+a)) b e).bind fun f=>
   Q124.l9 N n c a b (aA (b+(aA (2*a)))) f g
  else
  g c a d e
noncomputable def Q124.l7 {R:Type}(N:Nat):Nat→Int→Int→List Int→(List Int→Option R)→Option R
 |0,_,_,_,_=>none
 |n+1,e,c,f,h=>
  bif decide (c<e)then
   Q124.l9 N N e c 0 (aA (2*c)) f
    (fun a b d g=>
     bif decide ((aA (d+b))<a)then
      (Q123.f N d (aA (d+b)) a g).bind fun i=>
      Q124.l7 N n a (aA (b*2)) i h
     else
     Q124.l7 N n a (aA (b*2)) g h)
  else
  h f
noncomputable def Q124.f (N:Nat)(g:Int)(h:List Int):Option (List Int):=
 Q124.l2 N N g 20 0 20 h
  (fun a c d e=>
   (Q122.f N d a e).bind fun b=>
   Q124.l7 N N a c b
    (fun f=>
     some f))
noncomputable def Q124.h2:eD:=⟨[(0,.row .i64 4),(1,.any),(2,.any),(6,.any),(7,.any),(8,.any)],[(0,.row .i64 4),(1,.any),(2,.any),(6,.any),(7,.any)]⟩
noncomputable def Q124.h7:eD:=⟨[(0,.row .i64 4),(1,.any),(2,.any),(6,.any)],[]⟩
noncomputable def Q124.h9:eD:=⟨[(0,.row .i64 4),(1,.any),(2,.any),(6,.any),(7,.any),(8,.any)],[(0,.row .i64 4),(1,.any),(2,.any),(6,.any),(7,.any)]⟩
noncomputable def Q124.c2 (N:Nat):xH:=⟨fun vs H k=>match vs,H with
 | [.sw 0 4,.c (.int .i64 d),.fn 67 [] [],.c (.int .i64 e),.c (.int .i64 f),.c (.int .i64 g)],[.ints .i64 h]=>Q124.l2 N N d e f g h (fun i a b c=>k (.exit 0) ⟨dD Q124.h2.out [.sw 0 4,.c (.int .i64 i),.fn 67 [] [],.c (.int .i64 a),.c (.int .i64 b)],[.ints .i64 c]⟩)
 |_,_=>none⟩
noncomputable def Q124.c9 (N:Nat):xH:=⟨fun vs H k=>match vs,H with
 | [.sw 0 4,.c (.int .i64 a),.fn 67 [] [],.c (.int .i64 b),.c (.int .i64 c),.c (.int .i64 d)],[.ints .i64 e]=>Q124.l9 N N a b c d e (fun f g h i=>k (.exit 4) ⟨dD Q124.h9.out [.sw 0 4,.c (.int .i64 f),.fn 67 [] [],.c (.int .i64 g),.c (.int .i64 h)],[.ints .i64 i]⟩)
 |_,_=>none⟩
noncomputable def Q124.c7 (N:Nat):xH:=⟨fun vs H k=>match vs,H with
 | [.sw 0 4,.c (.int .i64 a),.fn 67 [] [],.c (.int .i64 b)],[.ints .i64 c]=>Q124.l7 N N a b c (fun d=>k (.exit 2) ⟨dD Q124.h7.out [],[.ints .i64 d]⟩)
 |_,_=>none⟩
noncomputable def Q124.E (N:Nat):bD:=bF [] [(127,Q122.ent N),(128,Q123.ent N)] [(2,Q124.h2),(7,Q124.h7),(9,Q124.h9)] [(2,Q124.c2 N),(9,Q124.c9 N),(7,Q124.c7 N)] N [] [] 1 63
noncomputable def Q124.b2:Code:=sA ((eA (bo Tryz.f88)).getD 0 .skip)
theorem Q124.l2_eq {R:Type}(N n:Nat)(d e f g:Int)(h:List Int)(k:Ex→St→Option R):
  jB 1 Q124.h2 (fun s k=>bB (Q124.E N) 395 Q124.b2 s k) n [.sw 0 4,.c (.int .i64 d),.fn 67 [] [],.c (.int .i64 e),.c (.int .i64 f),.c (.int .i64 g)] [.ints .i64 h] k=Q124.l2 N n d e f g h (fun i a b c=>k (.exit 0) ⟨dD Q124.h2.out [.sw 0 4,.c (.int .i64 i),.fn 67 [] [],.c (.int .i64 a),.c (.int .i64 b)],[.ints .i64 c]⟩):=by
 induction n generalizing d e f g h with
 |zero=>kernel_rfl
 |succ n ih=>
  simp only[Q124.l2,←ih]
  kernel_rfl
noncomputable def Q124.b9:Code:=sA ((eA (bo Tryz.f88)).getD 2 .skip)
theorem Q124.l9_eq {R:Type}(N n:Nat)(a b c d:Int)(e:List Int)(k:Ex→St→Option R):
  jB 1 Q124.h9 (fun s k=>bB (Q124.E N) 388 Q124.b9 s k) n [.sw 0 4,.c (.int .i64 a),.fn 67 [] [],.c (.int .i64 b),.c (.int .i64 c),.c (.int .i64 d)] [.ints .i64 e] k=Q124.l9 N n a b c d e (fun f g h i=>k (.exit 4) ⟨dD Q124.h9.out [.sw 0 4,.c (.int .i64 f),.fn 67 [] [],.c (.int .i64 g),.c (.int .i64 h)],[.ints .i64 i]⟩):=by
 induction n generalizing a b c d e with
 |zero=>kernel_rfl
 |succ n ih=>
  simp only[Q124.l9,←ih]
  kernel_rfl
noncomputable def Q124.b7:Code:=sA ((eA (bo Tryz.f88)).getD 1 .skip)
theorem Q124.l7_eq {R:Type}(N n:Nat)(a b:Int)(c:List Int)(k:Ex→St→Option R):
  jB 1 Q124.h7 (fun s k=>bB (Q124.E N) 394 Q124.b7 s k) n [.sw 0 4,.c (.int .i64 a),.fn 67 [] [],.c (.int .i64 b)] [.ints .i64 c] k=Q124.l7 N n a b c (fun d=>k (.exit 2) ⟨dD Q124.h7.out [],[.ints .i64 d]⟩):=by
 induction n generalizing a b c with
 |zero=>kernel_rfl
 |succ n ih=>
  simp only[Q124.l7,←ih]
  kernel_rfl
noncomputable def Q124.dec (v:V)(bs:List rA):Option (List Int):=match v,bs with
 | .tup [],[.ints .i64 a]=>some a
 |_,_=>none
theorem Q124.f_eq (N:Nat)(a:Int)(b:List Int):
  cB (Q124.E N) (bo Tryz.f88) [.sw 0 4,.c (.int .i64 a),.fn 67 [] []] [.ints .i64 b] Q124.dec=Q124.f N a b:=by kernel_rfl
noncomputable def Q124.ent (N:Nat):xA:={A:=List Int,fresh:=0,imm:=[false,true,false],dec:=fun args bs=>match xF (nA bs) [false,false,false] args,bs with
 | [.sw 0 4,.c (.int .i64 a),.fn 67 [] []],[.ints .i64 b]=>some (Q124.f N a b,fun r=>.one (.tup []) [.ints .i64 r])
 |_,_=>none}
theorem Q124.env (N:Nat):aB Tryz.prog (Q124.E N):=⟨.nil,(.cons (Q122.ent_ok N) (.cons (Q123.ent_ok N) .nil))⟩
theorem Q124.k9 (N:Nat):xB Tryz.prog Tryz.f88 (Q124.E N) (.loop Q124.b9):=gD (Q124.env N) bA 388 (c:=Q124.c9 N) dA.n fun R vs H k r h=>by unfold Q124.c9 at h;dsimp only at h;split at h;exact⟨_,Q124.l9_eq .. ▸h⟩;cases h
theorem Q124.k7 (N:Nat):xB Tryz.prog Tryz.f88 (Q124.E N) (.loop Q124.b7):=gD (Q124.env N) bA 394 (c:=Q124.c7 N) (dA.of (l:=[(.loop (sA ((eA (bo Tryz.f88)).getD 2 .skip)))]) (by kernel_rfl) (dA.cons (Q124.k9 N) dA.nil)) fun R vs H k r h=>by unfold Q124.c7 at h;dsimp only at h;split at h;exact⟨_,Q124.l7_eq .. ▸h⟩;cases h
theorem Q124.k2 (N:Nat):xB Tryz.prog Tryz.f88 (Q124.E N) (.loop Q124.b2):=gD (Q124.env N) bA 395 (c:=Q124.c2 N) dA.n fun R vs H k r h=>by unfold Q124.c2 at h;dsimp only at h;split at h;exact⟨_,Q124.l2_eq .. ▸h⟩;cases h
theorem Q124.spec (N:Nat)(a:Int)(c r:List Int)(h:Q124.f N a c=some r):fA Tryz.prog 88 [.sw 0 4,.c (.int .i64 a),.fn 67 [] []] [.ints .i64 c] (.tup []) ([.ints .i64 r]):=vA (Q124.env N) bA Tryz.func88 (dA.of (l:=[(.loop (sA ((eA (bo Tryz.f88)).getD 0 .skip))),(.loop (sA ((eA (bo Tryz.f88)).getD 1 .skip))),(.loop (sA ((eA (bo Tryz.f88)).getD 2 .skip)))]) (by kernel_rfl) (dA.cons (Q124.k2 N) (dA.cons (Q124.k7 N) (dA.cons (Q124.k9 N) dA.nil)))) ((Q124.f_eq ..).trans h) fun v b e=>by unfold Q124.dec at e;split at e<;>cases e;exact⟨rfl,rfl⟩
theorem Q124.ent_ok (N:Nat):uA Tryz.prog 88 (Q124.ent N):=by
 intro args bs a enc h;simp only[Q124.ent]at h;split at h
 ·rename_i hz;have h0:=Option.some.inj h;have h1:=congrArg Prod.fst h0;have h2:=congrArg Prod.snd h0;dsimp only at h1 h2;subst h2;exact fA.of_asSl (fl:=[false,false,false]) (by rw[hz];exact Q124.spec N _ _ a h1)
 ·cases h
noncomputable def Q125.f (N:Nat)(a:List Int):Option (List Int):=
 (Q124.f N (a.length/4:Int) a).bind fun b=>
 some b
noncomputable def Q125.E (N:Nat):bD:=bF [(53,d7)] [(88,Q124.ent N)] [] [] N [] [] 1 9
noncomputable def Q125.dec (v:V)(bs:List rA):Option (List Int):=match v,bs with
 | .tup [],[.ints .i64 a]=>some a
 |_,_=>none
theorem Q125.f_eq (N:Nat)(a:List Int):
  cB (Q125.E N) (bo Tryz.f66) [.sw 0 4,.fn 67 [] []] [.ints .i64 a] Q125.dec=Q125.f N a:=by kernel_rfl
noncomputable def Q125.ent (N:Nat):xA:={A:=List Int,fresh:=0,imm:=[false,false],dec:=fun args bs=>match xF (nA bs) [false,false] args,bs with
 | [.sw 0 4,.fn 67 [] []],[.ints .i64 a]=>some (Q125.f N a,fun r=>.one (.tup []) [.ints .i64 r])
 |_,_=>none}
theorem Q125.env (N:Nat):aB Tryz.prog (Q125.E N):=⟨(.cons tI .nil),(.cons (Q124.ent_ok N) .nil)⟩
theorem Q125.spec (N:Nat)(a r:List Int)(h:Q125.f N a=some r):fA Tryz.prog 66 [.sw 0 4,.fn 67 [] []] [.ints .i64 a] (.tup []) ([.ints .i64 r]):=vA (Q125.env N) bA Tryz.func66 dA.n ((Q125.f_eq ..).trans h) fun v b e=>by unfold Q125.dec at e;split at e<;>cases e;exact⟨rfl,rfl⟩
theorem Q125.ent_ok (N:Nat):uA Tryz.prog 66 (Q125.ent N):=by
 intro args bs a enc h;simp only[Q125.ent]at h;split at h
 ·rename_i hz;have h0:=Option.some.inj h;have h1:=congrArg Prod.fst h0;have h2:=congrArg Prod.snd h0;dsimp only at h1 h2;subst h2;exact fA.of_asSl (fl:=[false,false]) (by rw[hz];exact Q125.spec N _ a h1)
 ·cases h
noncomputable def Q126.l1 {R:Type}(N:Nat):Nat→Int→Int→List Int→(List Int→Option R)→Option R
 |0,_,_,_,_=>none
 |n+1,a,b,c,d=>
  bif decide (a<b)then
   bif (decide (0≤b))&&(decide (b<(c.length/4:Int)))then
    bif (decide (0≤a))&&(decide (a<(c.length/4:Int)))then
     bif (decide (0≤a))&&(decide (a<(c.length/4:Int)))then
      bif (decide (0≤b))&&(decide (b<((((((c.set (a.toNat*4) (c.getD (b.toNat*4) 0)).set ((a.toNat*4)+1) (c.getD ((b.toNat*4)+1) 0)).set ((a.toNat*4)+2) (c.getD ((b.toNat*4)+2) 0)).set ((a.toNat*4)+3) (c.getD ((b.toNat*4)+3) 0)).length)/4:Int)))then
       Q126.l1 N n (aA (a+1)) (aA (b-1)) ((((((((c.set (a.toNat*4) (c.getD (b.toNat*4) 0)).set ((a.toNat*4)+1) (c.getD ((b.toNat*4)+1) 0)).set ((a.toNat*4)+2) (c.getD ((b.toNat*4)+2) 0)).set ((a.toNat*4)+3) (c.getD ((b.toNat*4)+3) 0)).set (b.toNat*4) (c.getD (a.toNat*4) 0)).set ((b.toNat*4)+1) (c.getD ((a.toNat*4)+1) 0)).set ((b.toNat*4)+2) (c.getD ((a.toNat*4)+2) 0)).set ((b.toNat*4)+3) (c.getD ((a.toNat*4)+3) 0)) d
      else none
     else none
    else none
   else none
  else
  d c
noncomputable def Q126.f (N:Nat)(a:List Int):Option (List Int):=
 Q126.l1 N N 0 (aA ((a.length/4:Int)-1)) a
  (fun b=>
   some b)
noncomputable def Q126.h1:eD:=⟨[(0,.row .i64 4),(2,.any),(3,.any)],[]⟩
noncomputable def Q126.c1 (N:Nat):xH:=⟨fun vs H k=>match vs,H with
 | [.sw 0 4,.c (.int .i64 a),.c (.int .i64 b)],[.ints .i64 c]=>Q126.l1 N N a b c (fun d=>k (.exit 0) ⟨dD Q126.h1.out [],[.ints .i64 d]⟩)
 |_,_=>none⟩
noncomputable def Q126.E (N:Nat):bD:=bF [(53,d7),(57,m8)] [] [(1,Q126.h1)] [(1,Q126.c1 N)] N [] [] 1 28
noncomputable def Q126.b1:Code:=sA ((eA (bo Tryz.f48)).getD 0 .skip)
theorem Q126.l1_eq {R:Type}(N n:Nat)(a b:Int)(c:List Int)(k:Ex→St→Option R):
  jB 1 Q126.h1 (fun s k=>bB (Q126.E N) 397 Q126.b1 s k) n [.sw 0 4,.c (.int .i64 a),.c (.int .i64 b)] [.ints .i64 c] k=Q126.l1 N n a b c (fun d=>k (.exit 0) ⟨dD Q126.h1.out [],[.ints .i64 d]⟩):=by
 induction n generalizing a b c with
 |zero=>kernel_rfl
 |succ n ih=>
  simp only[Q126.l1,←ih]
  kernel_rfl
noncomputable def Q126.dec (v:V)(bs:List rA):Option (List Int):=match v,bs with
 | .tup [],[.ints .i64 a]=>some a
 |_,_=>none
theorem Q126.f_eq (N:Nat)(a:List Int):
  cB (Q126.E N) (bo Tryz.f48) [.sw 0 4] [.ints .i64 a] Q126.dec=Q126.f N a:=by kernel_rfl
noncomputable def Q126.ent (N:Nat):xA:={A:=List Int,fresh:=0,imm:=[false],dec:=fun args bs=>match xF (nA bs) [false] args,bs with
 | [.sw 0 4],[.ints .i64 a]=>some (Q126.f N a,fun r=>.one (.tup []) [.ints .i64 r])
 |_,_=>none}
theorem Q126.env (N:Nat):aB Tryz.prog (Q126.E N):=⟨(.cons tI (.cons pJ .nil)),.nil⟩
theorem Q126.k1 (N:Nat):xB Tryz.prog Tryz.f48 (Q126.E N) (.loop Q126.b1):=gD (Q126.env N) bA 397 (c:=Q126.c1 N) dA.n fun R vs H k r h=>by unfold Q126.c1 at h;dsimp only at h;split at h;exact⟨_,Q126.l1_eq .. ▸h⟩;cases h
theorem Q126.spec (N:Nat)(a r:List Int)(h:Q126.f N a=some r):fA Tryz.prog 48 [.sw 0 4] [.ints .i64 a] (.tup []) ([.ints .i64 r]):=vA (Q126.env N) bA Tryz.func48 (dA.of (l:=[(.loop (sA ((eA (bo Tryz.f48)).getD 0 .skip)))]) (by kernel_rfl) (dA.cons (Q126.k1 N) dA.nil)) ((Q126.f_eq ..).trans h) fun v b e=>by unfold Q126.dec at e;split at e<;>cases e;exact⟨rfl,rfl⟩
theorem Q126.ent_ok (N:Nat):uA Tryz.prog 48 (Q126.ent N):=by
 intro args bs a enc h;simp only[Q126.ent]at h;split at h
 ·rename_i hz;have h0:=Option.some.inj h;have h1:=congrArg Prod.fst h0;have h2:=congrArg Prod.snd h0;dsimp only at h1 h2;subst h2;exact fA.of_asSl (fl:=[false]) (by rw[hz];exact Q126.spec N _ a h1)
 ·cases h
noncomputable def qy:TI:=⟨.slice 2,1,24,[.slice none 0 0]⟩
noncomputable def Gy:TI:=⟨.map 33 3,1,8,[.map none]⟩
noncomputable def Gc:TI:=⟨.func,1,8,[.nilFunc]⟩
theorem zP:tC Tryz.prog 24 qy:=aD (by kernel_rfl) (by kernel_rfl) (by kernel_rfl) (by kernel_rfl) (by kernel_rfl) (by kernel_rfl) (by kernel_rfl) (Tryz.underlying24) (by kernel_rfl)
theorem E6:tC Tryz.prog 42 Gy:=aD (by kernel_rfl) (by kernel_rfl) (by kernel_rfl) (by kernel_rfl) (by kernel_rfl) (by kernel_rfl) (by kernel_rfl) (Cj Tryz.underlying42 (by kernel_rfl)) (by kernel_rfl)
theorem ux:tC Tryz.prog 77 Gc:=aD (by kernel_rfl) (by kernel_rfl) (by kernel_rfl) (by kernel_rfl) (by kernel_rfl) (by kernel_rfl) (by kernel_rfl) (⟨_,_,_,Tryz.underlying77⟩) (by kernel_rfl)
noncomputable def Q127.f (N:Nat)(b c d e f g:Int):Option (Int×Int×Int):=
 (Q86.f N b c d e f g).bind fun a=>
 some (a.1,a.2.1,a.2.2.1)
noncomputable def Q127.E (N:Nat):bD:=bF [(33,wH)] [(24,Q86.ent N)] [] [] N [.cell 4 33] [.recd [.any,.any,.any]] 0 14
noncomputable def Q127.dec (v:V)(bs:List rA):Option (Int×Int×Int):=match v,bs with
 | .agg [.c (.int .i64 a),.c (.int .i64 b),.c (.int .i64 c)],[]=>some (a,b,c)
 |_,_=>none
theorem Q127.f_eq (N:Nat)(a b c d e f:Int):
  cB (Q127.E N) (bo Tryz.f39) [.agg [.c (.int .i64 a),.c (.int .i64 b),.c (.int .i64 c)],.agg [.c (.int .i64 d),.c (.int .i64 e),.c (.int .i64 f)]] [] Q127.dec=Q127.f N a b c d e f:=by kernel_rfl
noncomputable def Q127.ent (N:Nat):xA:=wF (Int×Int×Int) 0 [true,true] [.recd [.any,.any,.any],.recd [.any,.any,.any]] fun
 | [.agg [.c (.int .i64 a),.c (.int .i64 b),.c (.int .i64 c)],.agg [.c (.int .i64 d),.c (.int .i64 e),.c (.int .i64 f)]]=>some (Q127.f N a b c d e f,fun r=>.one (.agg [.c (.int .i64 r.1),.c (.int .i64 r.2.1),.c (.int .i64 r.2.2)]) [])
 |_=>none
theorem Q127.env (N:Nat):aB Tryz.prog (Q127.E N):=⟨(.cons oC .nil),(.cons (Q86.ent_ok N) .nil)⟩
theorem Q127.spec (N:Nat)(a c d f g i:Int)(r:Int×Int×Int)(h:Q127.f N a c d f g i=some r):fA Tryz.prog 39 [.agg [.c (.int .i64 a),.c (.int .i64 c),.c (.int .i64 d)],.agg [.c (.int .i64 f),.c (.int .i64 g),.c (.int .i64 i)]] [] (.agg [.c (.int .i64 r.1),.c (.int .i64 r.2.1),.c (.int .i64 r.2.2)]) ([]):=vA (Q127.env N) bA Tryz.func39 dA.n ((Q127.f_eq ..).trans h) fun v b e=>by unfold Q127.dec at e;split at e<;>cases e;exact⟨rfl,rfl⟩
theorem Q127.ent_ok (N:Nat):uA Tryz.prog 39 (Q127.ent N):=yA fun v a e h=>by split at h;exact nC (Q:=fun e=>fA _ _ _ _ (e a).pick.1 (e a).pick.2) h fun k=>Q127.spec N _ _ _ _ _ _ a k;cases h
noncomputable def Q128.f (N:Nat)(b c d e:Int):Option (Int×Int×Int):=
 (Q88.f N b c d e).bind fun a=>
 some (a.1,a.2.1,a.2.2.1)
noncomputable def Q128.E (N:Nat):bD:=bF [(33,wH)] [(26,Q88.ent N)] [] [] N [.cell 4 33] [.recd [.any,.any,.any]] 0 14
noncomputable def Q128.dec (v:V)(bs:List rA):Option (Int×Int×Int):=match v,bs with
 | .agg [.c (.int .i64 a),.c (.int .i64 b),.c (.int .i64 c)],[]=>some (a,b,c)
 |_,_=>none
theorem Q128.f_eq (N:Nat)(a b c d:Int):
  cB (Q128.E N) (bo Tryz.f55) [.agg [.c (.int .i64 a),.c (.int .i64 b),.c (.int .i64 c)],.c (.int .i64 d)] [] Q128.dec=Q128.f N a b c d:=by kernel_rfl
noncomputable def Q128.ent (N:Nat):xA:=wF (Int×Int×Int) 0 [true,true] [.recd [.any,.any,.any],.any] fun
 | [.agg [.c (.int .i64 a),.c (.int .i64 b),.c (.int .i64 c)],.c (.int .i64 d)]=>some (Q128.f N a b c d,fun r=>.one (.agg [.c (.int .i64 r.1),.c (.int .i64 r.2.1),.c (.int .i64 r.2.2)]) [])
 |_=>none
theorem Q128.env (N:Nat):aB Tryz.prog (Q128.E N):=⟨(.cons oC .nil),(.cons (Q88.ent_ok N) .nil)⟩
theorem Q128.spec (N:Nat)(a c d f:Int)(r:Int×Int×Int)(h:Q128.f N a c d f=some r):fA Tryz.prog 55 [.agg [.c (.int .i64 a),.c (.int .i64 c),.c (.int .i64 d)],.c (.int .i64 f)] [] (.agg [.c (.int .i64 r.1),.c (.int .i64 r.2.1),.c (.int .i64 r.2.2)]) ([]):=vA (Q128.env N) bA Tryz.func55 dA.n ((Q128.f_eq ..).trans h) fun v b e=>by unfold Q128.dec at e;split at e<;>cases e;exact⟨rfl,rfl⟩
theorem Q128.ent_ok (N:Nat):uA Tryz.prog 55 (Q128.ent N):=yA fun v a e h=>by split at h;exact nC (Q:=fun e=>fA _ _ _ _ (e a).pick.1 (e a).pick.2) h fun k=>Q128.spec N _ _ _ _ a k;cases h
noncomputable def Q129.l5 {R:Type}(N:Nat):Nat→Int→List Int→Int→Int→Int→Int→Int→Int→Int→Int→Int→Int→(Int→List Int→Int→Int→Int→Int→Int→Int→Int→Int→Option R)→(Int→List Int→Int→Int→Int→Int→Int→Int→Int→Int→Option R)→Option R
 |0,_,_,_,_,_,_,_,_,_,_,_,_,_,_=>none
 |n+1,b,j,k,l,c,d,e,f,g,h,a,m,o,p=>
  bif !(a==0)then
   bif (Int.tmod b a)==0 then
    bif !(a==0)then
     (Q128.f N c d e (aA (Int.tdiv b a))).bind fun i=>
     bif !((i.1==f)&&((i.2.1==g)&&(i.2.2==h)))then
      o b j k l c d e f g h
     else
     bif !(a==0)then
      Q129.l5 N n (aA (Int.tdiv b a)) j k l c d e f g h a m o p
     else none
    else none
   else
   p b j k l c d e f g h
  else none
noncomputable def Q129.l3 {R:Type}(N:Nat):Nat→Int→List Int→Int→Int→Int→Int→Int→Int→Int→Int→(Int→Option R)→Option R
 |0,_,_,_,_,_,_,_,_,_,_,_=>none
 |n+1,x9,b,c,a,e,f,g,h,i,j,d=>
  bif decide (a<c)then
   bif (decide (0≤a))&&(decide (a<(b.length/2:Int)))then
    Q129.l5 N N x9 b c a e f g h i j (b.getD (a.toNat*2) 0) (b.getD ((a.toNat*2)+1) 0)
     (fun k l m o p q r s t u=>
      Q129.l3 N n k l m (aA (o+1)) p q r s t u d)
     (fun v w x y z y67 y68 y69 y70 y71=>
      Q129.l3 N n v w x (aA (y+1)) z y67 y68 y69 y70 y71 d)
   else none
  else
  d x9
noncomputable def Q129.f (N:Nat)(d e f g h i b:Int):Option (Int):=
 (Q117.f N b).bind fun c=>
 Q129.l3 N N b c.1 (c.1.length/2:Int) 0 d e f g h i
  (fun a=>
   some a)
noncomputable def Q129.h3:eD:=⟨[(2,.any),(3,.box [.any,.any,.any]),(4,.box [.any,.any,.any]),(16,.il .i64 2),(17,.any),(18,.any)],[(2,.any)]⟩
noncomputable def Q129.h5:eD:=⟨[(2,.any),(3,.box [.any,.any,.any]),(4,.box [.any,.any,.any]),(10,.box [.any,.any]),(16,.il .i64 2),(17,.any),(18,.any)],[(2,.any),(3,.box [.any,.any,.any]),(4,.box [.any,.any,.any]),(16,.il .i64 2),(17,.any),(18,.any)]⟩
noncomputable def Q129.c5 (N:Nat):xH:=⟨fun vs H k=>match vs,H with
 | [.c (.int .i64 a),.ptr 0 0 3,.ptr 1 0 3,.ptr 2 0 2,.il .i64 2 b,.c (.int .i64 c),.c (.int .i64 d)],[.vals [.c (.int .i64 e),.c (.int .i64 f),.c (.int .i64 g)],.vals [.c (.int .i64 h),.c (.int .i64 i),.c (.int .i64 j)],.vals [.c (.int .i64 l),.c (.int .i64 m)]]=>Q129.l5 N N a b c d e f g h i j l m (fun o p q r s t u v w x=>k (.exit 1) ⟨dD Q129.h5.out [.c (.int .i64 o),.ptr 0 0 3,.ptr 1 0 3,.il .i64 2 p,.c (.int .i64 q),.c (.int .i64 r)],[.vals [.c (.int .i64 s),.c (.int .i64 t),.c (.int .i64 u)],.vals [.c (.int .i64 v),.c (.int .i64 w),.c (.int .i64 x)]]⟩) (fun y z x44 x45 x46 x47 x48 x49 x50 x51=>k (.exit 2) ⟨dD Q129.h5.out [.c (.int .i64 y),.ptr 0 0 3,.ptr 1 0 3,.il .i64 2 z,.c (.int .i64 x44),.c (.int .i64 x45)],[.vals [.c (.int .i64 x46),.c (.int .i64 x47),.c (.int .i64 x48)],.vals [.c (.int .i64 x49),.c (.int .i64 x50),.c (.int .i64 x51)]]⟩)
 |_,_=>none⟩
noncomputable def Q129.c3 (N:Nat):xH:=⟨fun vs H k=>match vs,H with
 | [.c (.int .i64 l),.ptr 0 0 3,.ptr 1 0 3,.il .i64 2 a,.c (.int .i64 b),.c (.int .i64 c)],[.vals [.c (.int .i64 d),.c (.int .i64 e),.c (.int .i64 f)],.vals [.c (.int .i64 g),.c (.int .i64 h),.c (.int .i64 i)]]=>Q129.l3 N N l a b c d e f g h i (fun j=>k (.exit 0) ⟨dD Q129.h3.out [.c (.int .i64 j)],[]⟩)
 |_,_=>none⟩
noncomputable def Q129.E (N:Nat):bD:=bF [(2,eQ),(33,wH),(60,Cp),(64,E7)] [(46,Q117.ent N),(55,Q128.ent N)] [(3,Q129.h3),(5,Q129.h5)] [(5,Q129.c5 N),(3,Q129.c3 N)] N [.tmp 6] [.any] 0 41
noncomputable def Q129.b5:Code:=sA ((eA (bo Tryz.f34)).getD 2 .skip)
theorem Q129.l5_eq {R:Type}(N n:Nat)(a:Int)(b:List Int)(c d e f g h i j l m:Int)(k:Ex→St→Option R):
  jB 0 Q129.h5 (fun s k=>bB (Q129.E N) 385 Q129.b5 s k) n [.c (.int .i64 a),.ptr 0 0 3,.ptr 1 0 3,.ptr 2 0 2,.il .i64 2 b,.c (.int .i64 c),.c (.int .i64 d)] [.vals [.c (.int .i64 e),.c (.int .i64 f),.c (.int .i64 g)],.vals [.c (.int .i64 h),.c (.int .i64 i),.c (.int .i64 j)],.vals [.c (.int .i64 l),.c (.int .i64 m)]] k=Q129.l5 N n a b c d e f g h i j l m (fun o p q r t u v w x y=>k (.exit 1) ⟨dD Q129.h5.out [.c (.int .i64 o),.ptr 0 0 3,.ptr 1 0 3,.il .i64 2 p,.c (.int .i64 q),.c (.int .i64 r)],[.vals [.c (.int .i64 t),.c (.int .i64 u),.c (.int .i64 v)],.vals [.c (.int .i64 w),.c (.int .i64 x),.c (.int .i64 y)]]⟩) (fun z x43 x44 x45 x46 x47 x48 x49 x50 x51=>k (.exit 2) ⟨dD Q129.h5.out [.c (.int .i64 z),.ptr 0 0 3,.ptr 1 0 3,.il .i64 2 x43,.c (.int .i64 x44),.c (.int .i64 x45)],[.vals [.c (.int .i64 x46),.c (.int .i64 x47),.c (.int .i64 x48)],.vals [.c (.int .i64 x49),.c (.int .i64 x50),.c (.int .i64 x51)]]⟩):=by
 induction n generalizing a b c d e f g h i j l m with
 |zero=>kernel_rfl
 |succ n ih=>
  simp only[Q129.l5,←ih]
  kernel_rfl
noncomputable def Q129.b3:Code:=sA ((eA (bo Tryz.f34)).getD 1 .skip)
theorem Q129.l3_eq {R:Type}(N n:Nat)(l:Int)(a:List Int)(b c d e f g h i:Int)(k:Ex→St→Option R):
  jB 0 Q129.h3 (fun s k=>bB (Q129.E N) 392 Q129.b3 s k) n [.c (.int .i64 l),.ptr 0 0 3,.ptr 1 0 3,.il .i64 2 a,.c (.int .i64 b),.c (.int .i64 c)] [.vals [.c (.int .i64 d),.c (.int .i64 e),.c (.int .i64 f)],.vals [.c (.int .i64 g),.c (.int .i64 h),.c (.int .i64 i)]] k=Q129.l3 N n l a b c d e f g h i (fun j=>k (.exit 0) ⟨dD Q129.h3.out [.c (.int .i64 j)],[]⟩):=by
 induction n generalizing l a b c d e f g h i with
 |zero=>kernel_rfl
 |succ n ih=>
  simp only[Q129.l3,←ih]
  kernel_rfl
noncomputable def Q129.dec (v:V)(bs:List rA):Option (Int):=match v,bs with
 | .c (.int .i64 a),[]=>some a
 |_,_=>none
theorem Q129.f_eq (N:Nat)(a b c d e f g:Int):
  cB (Q129.E N) (bo Tryz.f34) [.agg [.c (.int .i64 a),.c (.int .i64 b),.c (.int .i64 c)],.agg [.c (.int .i64 d),.c (.int .i64 e),.c (.int .i64 f)],.c (.int .i64 g)] [] Q129.dec=Q129.f N a b c d e f g:=by kernel_rfl
noncomputable def Q129.ent (N:Nat):xA:=wF (Int) 0 [true,true,true] [.recd [.any,.any,.any],.recd [.any,.any,.any],.any] fun
 | [.agg [.c (.int .i64 a),.c (.int .i64 b),.c (.int .i64 c)],.agg [.c (.int .i64 d),.c (.int .i64 e),.c (.int .i64 f)],.c (.int .i64 g)]=>some (Q129.f N a b c d e f g,fun r=>.one (.c (.int .i64 r)) [])
 |_=>none
theorem Q129.env (N:Nat):aB Tryz.prog (Q129.E N):=⟨(.cons xC (.cons oC (.cons xW (.cons gk .nil)))),(.cons (Q117.ent_ok N) (.cons (Q128.ent_ok N) .nil))⟩
theorem Q129.k5 (N:Nat):xB Tryz.prog Tryz.f34 (Q129.E N) (.loop Q129.b5):=gD (Q129.env N) bA 385 (c:=Q129.c5 N) dA.n fun R vs H k r h=>by unfold Q129.c5 at h;dsimp only at h;split at h;exact⟨_,Q129.l5_eq .. ▸h⟩;cases h
theorem Q129.k3 (N:Nat):xB Tryz.prog Tryz.f34 (Q129.E N) (.loop Q129.b3):=gD (Q129.env N) bA 392 (c:=Q129.c3 N) (dA.of (l:=[(.loop (sA ((eA (bo Tryz.f34)).getD 2 .skip)))]) (by kernel_rfl) (dA.cons (Q129.k5 N) dA.nil)) fun R vs H k r h=>by unfold Q129.c3 at h;dsimp only at h;split at h;exact⟨_,Q129.l3_eq .. ▸h⟩;cases h
theorem Q129.spec (N:Nat)(a c d f g i j r:Int)(h:Q129.f N a c d f g i j=some r):fA Tryz.prog 34 [.agg [.c (.int .i64 a),.c (.int .i64 c),.c (.int .i64 d)],.agg [.c (.int .i64 f),.c (.int .i64 g),.c (.int .i64 i)],.c (.int .i64 j)] [] (.c (.int .i64 r)) ([]):=vA (Q129.env N) bA Tryz.func34 (dA.of (l:=[(.scope (sA ((eA (bo Tryz.f34)).getD 0 .skip))),(.loop (sA ((eA (bo Tryz.f34)).getD 1 .skip))),(.loop (sA ((eA (bo Tryz.f34)).getD 2 .skip)))]) (by kernel_rfl) (dA.cons (qP (by kernel_rfl)) (dA.cons (Q129.k3 N) (dA.cons (Q129.k5 N) dA.nil)))) ((Q129.f_eq ..).trans h) fun v b e=>by unfold Q129.dec at e;split at e<;>cases e;exact⟨rfl,rfl⟩
theorem Q129.ent_ok (N:Nat):uA Tryz.prog 34 (Q129.ent N):=yA fun v a e h=>by split at h;exact nC (Q:=fun e=>fA _ _ _ _ (e a).pick.1 (e a).pick.2) h fun k=>Q129.spec N _ _ _ _ _ _ _ a k;cases h
noncomputable def Q130.l3 {R:Type}(N:Nat):Nat→List Int→Int→Int→Int→List Int→Int→Int→Int→Int→Int→List (List Int)→List Int→(List Int→Int→Int→Int→Int→List (List Int)→List Int→Option R)→Option R
 |0,_,_,_,_,_,_,_,_,_,_,_,_,_=>none
 |n+1,o,p,j,d,c,k,b,f,g,h,e,i,l=>
  bif decide (b<k)then
   bif (decide (0≤b))&&(decide (b<(c.length/3:Int)))then
    bif !(d==0)then
     (Q128.f N (c.getD (b.toNat*3) 0) (c.getD ((b.toNat*3)+1) 0) (c.getD ((b.toNat*3)+2) 0) (aA (Int.tdiv p d))).bind fun a=>
     bif (rE [a.1,a.2.1,a.2.2] e i)==0 then
      (Q129.f N a.1 a.2.1 a.2.2 f g h d).bind fun m=>
      Q130.l3 N n o p j d c k (aA (b+1)) f g h (vB [a.1,a.2.1,a.2.2] e) (eG [a.1,a.2.1,a.2.2] m e i) l
     else
     Q130.l3 N n o p j d c k (aA (b+1)) f g h e i l
    else none
   else none
  else
  l o j f g h e i
noncomputable def Q130.l11 {R:Type}(N:Nat):Nat→Int→List Int→Int→Int→Int→Int→Int→List (List Int)→List Int→List Int→(Int→Int→Int→Int→List Int→Option R)→Option R
 |0,_,_,_,_,_,_,_,_,_,_,_=>none
 |n+1,f,b,g,a,h,i,j,c,d,e,k=>
  bif decide (a<g)then
   bif (decide (0≤a))&&(decide (a<(b.length/3:Int)))then
    bif decide ((rE [b.getD (a.toNat*3) 0,b.getD ((a.toNat*3)+1) 0,b.getD ((a.toNat*3)+2) 0] c d)>1)then
     bif fB ((e.length+4)/4) 32 then
      Q130.l11 N n f b g (aA (a+1)) h i j c d (e++[b.getD (a.toNat*3) 0,b.getD ((a.toNat*3)+1) 0,b.getD ((a.toNat*3)+2) 0,rE [b.getD (a.toNat*3) 0,b.getD ((a.toNat*3)+1) 0,b.getD ((a.toNat*3)+2) 0] c d]) k
     else none
    else
    Q130.l11 N n f b g (aA (a+1)) h i j c d e k
   else none
  else
  k f h i j e
noncomputable def Q130.l30 {R:Type}(N:Nat):Nat→Int→Int→Int→Int→List Int→List (List Int)→List Int→Int→Int→Int→Int→List Int→Int→Int→Int→Int→Int→Int→List Int→Nat→List Nat→Nat→(Int→Int→Int→List Int→List (List Int)→List Int→Int→Int→Int→Int→List Int→List Int→Nat→List Nat→Nat→Option R)→Option R
 |0,_,_,_,_,_,_,_,_,_,_,_,_,_,_,_,_,_,_,_,_,_,_,_=>none
 |n+1,s,t,u,v,w,x,y,o,p,q,r,c,d,e,f,g,h,i,j,k,l,m,z=>
  bif decide (t<r)then
   (Q127.f N d e f g h i).bind fun a=>
   bif fB ((c.length+3)/3) 24 then
    (Q127.f N g h i o p q).bind fun b=>
    Q130.l30 N n s (aA (t+1)) u v w x y o p q r (c++[a.1,a.2.1,a.2.2]) d e f b.1 b.2.1 b.2.2 j k l m z
   else none
  else
  z s u v w x y o p q r c j k l m
noncomputable def Q130.l27 {R:Type}(N:Nat):Nat→Int→Int→Int→List Int→List (List Int)→List Int→Int→Int→Int→Int→List Int→List Int→Nat→List Nat→Nat→(Int→Int→Int→List Int→List (List Int)→List Int→List Int→List Int→Option R)→Option R
 |0,_,_,_,_,_,_,_,_,_,_,_,_,_,_,_,_=>none
 |n+1,e,f,g,h,a,i,j,k,l,x74,m,o,d,b,x79,k6=>
  bif Nat.beq a.length d then
   bif b.isEmpty then
    k6 e f g h a i m o
   else
   sX b.length fun c=>
   bif Nat.beq a.length d&&Nat.blt (b.getD c 0) a.length then
    Q130.l30 N N e 1 f g h a i j k l x74 m ((a.getD (b.getD c 0) []).getD 0 0) ((a.getD (b.getD c 0) []).getD 1 0) ((a.getD (b.getD c 0) []).getD 2 0) j k l o d (b.eraseIdx c) (b.getD c 0)
     (fun p q r s t u v w x y z y139 y140 y141 y142=>
      Q130.l27 N n p q r s t u v w x y z y139 y140 y141 y142 k6)
   else none
  else none
noncomputable def Q130.l36 {R:Type}(N:Nat):Nat→Int→Int→Int→Int→Int→List Int→List (List Int)→List Int→List Int→List Int→(Int→Int→Int→List Int→List (List Int)→List Int→List Int→Option R)→Option R
 |0,_,_,_,_,_,_,_,_,_,_,_=>none
 |n+1,e,f,g,h,a,i,c,d,j,b,k=>
  bif decide (a<h)then
   bif (decide (0≤a))&&(decide (a<(b.length/3:Int)))then
    bif (decide (0≤(eE [b.getD (a.toNat*3) 0,b.getD ((a.toNat*3)+1) 0,b.getD ((a.toNat*3)+2) 0] c)))&&(decide ((eE [b.getD (a.toNat*3) 0,b.getD ((a.toNat*3)+1) 0,b.getD ((a.toNat*3)+2) 0] c)<((vB [b.getD (a.toNat*3) 0,b.getD ((a.toNat*3)+1) 0,b.getD ((a.toNat*3)+2) 0] c).length:Int)))then
     Q130.l36 N n e f g h (aA (a+1)) i (vB [b.getD (a.toNat*3) 0,b.getD ((a.toNat*3)+1) 0,b.getD ((a.toNat*3)+2) 0] c) ((eG [b.getD (a.toNat*3) 0,b.getD ((a.toNat*3)+1) 0,b.getD ((a.toNat*3)+2) 0] (rE [b.getD (a.toNat*3) 0,b.getD ((a.toNat*3)+1) 0,b.getD ((a.toNat*3)+2) 0] c d) c (List.take (List.length c) d)).set ((eE [b.getD (a.toNat*3) 0,b.getD ((a.toNat*3)+1) 0,b.getD ((a.toNat*3)+2) 0] c).toNat) (aA ((rE [b.getD (a.toNat*3) 0,b.getD ((a.toNat*3)+1) 0,b.getD ((a.toNat*3)+2) 0] c d)+1))) j b k
    else none
   else none
  else
  k e f g i c d j
noncomputable def Q130.l21 {R:Type}(N:Nat):Nat→Int→Int→Int→List Int→List (List Int)→List Int→List Int→(List Int→Option R)→Option R
 |0,_,_,_,_,_,_,_,_=>none
 |n+1,d,h,a,e,c,i,b,y=>
  bif decide (a<h)then
   bif (decide (0≤a))&&(decide (a<(b.length/4:Int)))then
    bif !(d==0)then
     (Q128.f N (b.getD (a.toNat*4) 0) (b.getD ((a.toNat*4)+1) 0) (b.getD ((a.toNat*4)+2) 0) (aA (Int.tdiv (b.getD ((a.toNat*4)+3) 0) d))).bind fun g=>
     bif decide ((rE [g.1,g.2.1,g.2.2] c i)>0)then
      Q130.l21 N n d h (aA (a+1)) e c i b y
     else
     bif fB ((e.length+4)/4) 32 then
      Q130.l27 N N d h a (e++[b.getD (a.toNat*4) 0,b.getD ((a.toNat*4)+1) 0,b.getD ((a.toNat*4)+2) 0,b.getD ((a.toNat*4)+3) 0]) c i (b.getD (a.toNat*4) 0) (b.getD ((a.toNat*4)+1) 0) (b.getD ((a.toNat*4)+2) 0) (b.getD ((a.toNat*4)+3) 0) [] b c.length (List.range c.length) c.length
       (fun j k l m o p f q=>
        Q130.l36 N N j k l (f.length/3:Int) 0 m o p q f
         (fun r s t u v w x=>
          Q130.l21 N n r s (aA (t+1)) u v w x y))
     else none
    else none
   else none
  else
  y e
noncomputable def Q130.f (N:Nat)(g:List Int)(q r s t u v:Int):Option (List Int):=
 Q130.l3 N N g t u v g (g.length/3:Int) 0 q r s [] []
  (fun c h i j k l m=>
   Q130.l11 N N h c (c.length/3:Int) 0 i j k l m []
    (fun o d e f p=>
     (Q125.f N p).bind fun a=>
     Q130.l21 N N o (a.length/4:Int) 0 [] (vB [d,e,f] []) (eG [d,e,f] 1 [] []) a
      (fun b=>
       some b)))
noncomputable def Q130.h3:eD:=⟨[(0,.il .i64 3),(2,.any),(3,.any),(4,.any),(6,.box [.any,.any,.any]),(11,.any),(30,.il .i64 3),(31,.any),(32,.any)],[(0,.il .i64 3),(3,.any),(6,.box [.any,.any,.any]),(11,.any)]⟩
noncomputable def Q130.h11:eD:=⟨[(3,.any),(6,.box [.any,.any,.any]),(11,.any),(15,.row .i64 4),(52,.il .i64 3),(53,.any),(54,.any)],[(3,.any),(6,.box [.any,.any,.any]),(15,.row .i64 4)]⟩
noncomputable def Q130.h21:eD:=⟨[(3,.any),(19,.row .i64 4),(20,.any),(75,.row .i64 4),(76,.any),(77,.any)],[(19,.row .i64 4)]⟩
noncomputable def Q130.h27:eD:=⟨[(3,.any),(19,.row .i64 4),(20,.any),(22,.box [.any,.any,.any,.any]),(23,.row .i64 3),(75,.row .i64 4),(76,.any),(77,.any),(96,.any)],[(3,.any),(19,.row .i64 4),(20,.any),(23,.row .i64 3),(75,.row .i64 4),(76,.any),(77,.any)]⟩
noncomputable def Q130.h30:eD:=⟨[(3,.any),(19,.row .i64 4),(20,.any),(22,.box [.any,.any,.any,.any]),(23,.row .i64 3),(24,.box [.any,.any,.any]),(25,.any),(26,.box [.any,.any,.any]),(75,.row .i64 4),(76,.any),(77,.any),(96,.any)],[(3,.any),(19,.row .i64 4),(20,.any),(22,.box [.any,.any,.any,.any]),(23,.row .i64 3),(75,.row .i64 4),(76,.any),(77,.any),(96,.any)]⟩
noncomputable def Q130.h36:eD:=⟨[(3,.any),(19,.row .i64 4),(20,.any),(75,.row .i64 4),(76,.any),(77,.any),(120,.row .i64 3),(121,.any),(122,.any)],[(3,.any),(19,.row .i64 4),(20,.any),(75,.row .i64 4),(76,.any),(77,.any)]⟩
noncomputable def Q130.c3 (N:Nat):xH:=⟨fun vs H k=>match vs,H with
 | [.il .i64 3 t,.c (.int .i64 u),.c (.int .i64 a),.c (.int .i64 b),.ptr 0 0 3,.mref 1,.il .i64 3 c,.c (.int .i64 d),.c (.int .i64 e)],[.vals [.c (.int .i64 f),.c (.int .i64 g),.c (.int .i64 h)],.mp .i64 3 i (.ints .i64 j)]=>Q130.l3 N N t u a b c d e f g h i j (fun l m o p q r s=>k (.exit 0) ⟨dD Q130.h3.out [.il .i64 3 l,.c (.int .i64 m),.ptr 0 0 3,.mref 1],[.vals [.c (.int .i64 o),.c (.int .i64 p),.c (.int .i64 q)],.mp .i64 3 r (.ints .i64 s)]⟩)
 |_,_=>none⟩
noncomputable def Q130.c11 (N:Nat):xH:=⟨fun vs H k=>match vs,H with
 | [.c (.int .i64 a),.ptr 0 0 3,.mref 1,.sw 2 4,.il .i64 3 b,.c (.int .i64 c),.c (.int .i64 d)],[.vals [.c (.int .i64 e),.c (.int .i64 f),.c (.int .i64 g)],.mp .i64 3 h (.ints .i64 i),.ints .i64 j]=>Q130.l11 N N a b c d e f g h i j (fun l m o p q=>k (.exit 2) ⟨dD Q130.h11.out [.c (.int .i64 l),.ptr 0 0 3,.sw 1 4],[.vals [.c (.int .i64 m),.c (.int .i64 o),.c (.int .i64 p)],.ints .i64 q]⟩)
 |_,_=>none⟩
noncomputable def Q130.c30 (N:Nat):xH:=⟨fun vs H k=>match vs,H with
 | [.c (.int .i64 x89),.sw 0 4,.mref 1,.ptr 2 0 4,.sw 3 3,.ptr 4 0 3,.c (.int .i64 x90),.ptr 5 0 3,.sw 6 4,.c (.int .i64 x91),.c (.int .i64 x92),.ptr 7 0 0],[.ints .i64 x93,.mp .i64 3 x94 (.ints .i64 x95),.vals [.c (.int .i64 x96),.c (.int .i64 x97),.c (.int .i64 x98),.c (.int .i64 x99)],.ints .i64 a,.vals [.c (.int .i64 b),.c (.int .i64 c),.c (.int .i64 d)],.vals [.c (.int .i64 e),.c (.int .i64 f),.c (.int .i64 g)],.ints .i64 h,.it (some 1) i j l]=>Q130.l30 N N x89 x90 x91 x92 x93 x94 x95 x96 x97 x98 x99 a b c d e f g h i j l (fun m o p q r s t u v w x y z x126 x127=>k (.exit 8) ⟨dD Q130.h30.out [.c (.int .i64 m),.sw 0 4,.mref 1,.ptr 2 0 4,.sw 3 3,.sw 4 4,.c (.int .i64 o),.c (.int .i64 p),.ptr 5 0 0],[.ints .i64 q,.mp .i64 3 r (.ints .i64 s),.vals [.c (.int .i64 t),.c (.int .i64 u),.c (.int .i64 v),.c (.int .i64 w)],.ints .i64 x,.ints .i64 y,.it (some 1) z x126 x127]⟩)
 |_,_=>none⟩
noncomputable def Q130.c27 (N:Nat):xH:=⟨fun vs H k=>match vs,H with
 | [.c (.int .i64 a),.sw 0 4,.mref 1,.ptr 2 0 4,.sw 3 3,.sw 4 4,.c (.int .i64 b),.c (.int .i64 c),.ptr 5 0 0],[.ints .i64 d,.mp .i64 3 e (.ints .i64 f),.vals [.c (.int .i64 g),.c (.int .i64 h),.c (.int .i64 i),.c (.int .i64 j)],.ints .i64 l,.ints .i64 m,.it (some 1) o p q]=>Q130.l27 N N a b c d e f g h i j l m o p q (fun r s t u v w x y=>k (.exit 6) ⟨dD Q130.h27.out [.c (.int .i64 r),.sw 0 4,.mref 1,.sw 2 3,.sw 3 4,.c (.int .i64 s),.c (.int .i64 t)],[.ints .i64 u,.mp .i64 3 v (.ints .i64 w),.ints .i64 x,.ints .i64 y]⟩)
 |_,_=>none⟩
noncomputable def Q130.c36 (N:Nat):xH:=⟨fun vs H k=>match vs,H with
 | [.c (.int .i64 a),.sw 0 4,.mref 1,.sw 2 4,.c (.int .i64 b),.c (.int .i64 c),.sw 3 3,.c (.int .i64 d),.c (.int .i64 e)],[.ints .i64 f,.mp .i64 3 g (.ints .i64 h),.ints .i64 i,.ints .i64 j]=>Q130.l36 N N a b c d e f g h i j (fun l m o p q r s=>k (.exit 10) ⟨dD Q130.h36.out [.c (.int .i64 l),.sw 0 4,.mref 1,.sw 2 4,.c (.int .i64 m),.c (.int .i64 o)],[.ints .i64 p,.mp .i64 3 q (.ints .i64 r),.ints .i64 s]⟩)
 |_,_=>none⟩
noncomputable def Q130.c21 (N:Nat):xH:=⟨fun vs H k=>match vs,H with
 | [.c (.int .i64 b),.sw 0 4,.mref 1,.sw 2 4,.c (.int .i64 c),.c (.int .i64 d)],[.ints .i64 e,.mp .i64 3 f (.ints .i64 g),.ints .i64 h]=>Q130.l21 N N b c d e f g h (fun a=>k (.exit 4) ⟨dD Q130.h21.out [.sw 0 4],[.ints .i64 a]⟩)
 |_,_=>none⟩
noncomputable def Q130.E (N:Nat):bD:=bF [(2,eQ),(3,Cn),(23,gj),(33,wH),(42,Gy),(53,d7),(57,m8),(85,E8)] [(55,Q128.ent N),(34,Q129.ent N),(66,Q125.ent N),(39,Q127.ent N)] [(3,Q130.h3),(11,Q130.h11),(21,Q130.h21),(27,Q130.h27),(30,Q130.h30),(36,Q130.h36)] [(3,Q130.c3 N),(11,Q130.c11 N),(30,Q130.c30 N),(27,Q130.c27 N),(36,Q130.c36 N),(21,Q130.c21 N)] N [.tmp 10] [.row .i64 4] 0 135 true
noncomputable def Q130.b3:Code:=sA ((eA (bo Tryz.f47)).getD 0 .skip)
theorem Q130.l3_eq {R:Type}(N n:Nat)(u:List Int)(v a b:Int)(c:List Int)(d e f g h:Int)(i:List (List Int))(j:List Int)(k:Ex→St→Option R):
  jB 0 Q130.h3 (fun s k=>bB (Q130.E N) 394 Q130.b3 s k) n [.il .i64 3 u,.c (.int .i64 v),.c (.int .i64 a),.c (.int .i64 b),.ptr 0 0 3,.mref 1,.il .i64 3 c,.c (.int .i64 d),.c (.int .i64 e)] [.vals [.c (.int .i64 f),.c (.int .i64 g),.c (.int .i64 h)],.mp .i64 3 i (.ints .i64 j)] k=Q130.l3 N n u v a b c d e f g h i j (fun l m o p q r t=>k (.exit 0) ⟨dD Q130.h3.out [.il .i64 3 l,.c (.int .i64 m),.ptr 0 0 3,.mref 1],[.vals [.c (.int .i64 o),.c (.int .i64 p),.c (.int .i64 q)],.mp .i64 3 r (.ints .i64 t)]⟩):=by
 induction n generalizing u v a b c d e f g h i j with
 |zero=>kernel_rfl
 |succ n ih=>
  simp only[Q130.l3,←ih]
  kernel_rfl
noncomputable def Q130.b11:Code:=sA ((eA (bo Tryz.f47)).getD 1 .skip)
theorem Q130.l11_eq {R:Type}(N n:Nat)(a:Int)(b:List Int)(c d e f g:Int)(h:List (List Int))(i j:List Int)(k:Ex→St→Option R):
  jB 0 Q130.h11 (fun s k=>bB (Q130.E N) 392 Q130.b11 s k) n [.c (.int .i64 a),.ptr 0 0 3,.mref 1,.sw 2 4,.il .i64 3 b,.c (.int .i64 c),.c (.int .i64 d)] [.vals [.c (.int .i64 e),.c (.int .i64 f),.c (.int .i64 g)],.mp .i64 3 h (.ints .i64 i),.ints .i64 j] k=Q130.l11 N n a b c d e f g h i j (fun l m o p q=>k (.exit 2) ⟨dD Q130.h11.out [.c (.int .i64 l),.ptr 0 0 3,.sw 1 4],[.vals [.c (.int .i64 m),.c (.int .i64 o),.c (.int .i64 p)],.ints .i64 q]⟩):=by
 induction n generalizing a b c d e f g h i j with
 |zero=>kernel_rfl
 |succ n ih=>
  simp only[Q130.l11,←ih]
  kernel_rfl
noncomputable def Q130.b30:Code:=sA ((eA (bo Tryz.f47)).getD 4 .skip)
theorem Q130.l30_eq {R:Type}(N n:Nat)(m o p q:Int)(r:List Int)(t:List (List Int))(u:List Int)(v w x y:Int)(a:List Int)(b c d e f g:Int)(h:List Int)(i:Nat)(j:List Nat)(l:Nat)(k:Ex→St→Option R):
  jB 0 Q130.h30 (fun s k=>bB (Q130.E N) 369 Q130.b30 s k) n [.c (.int .i64 m),.sw 0 4,.mref 1,.ptr 2 0 4,.sw 3 3,.ptr 4 0 3,.c (.int .i64 o),.ptr 5 0 3,.sw 6 4,.c (.int .i64 p),.c (.int .i64 q),.ptr 7 0 0] [.ints .i64 r,.mp .i64 3 t (.ints .i64 u),.vals [.c (.int .i64 v),.c (.int .i64 w),.c (.int .i64 x),.c (.int .i64 y)],.ints .i64 a,.vals [.c (.int .i64 b),.c (.int .i64 c),.c (.int .i64 d)],.vals [.c (.int .i64 e),.c (.int .i64 f),.c (.int .i64 g)],.ints .i64 h,.it (some 1) i j l] k=Q130.l30 N n m o p q r t u v w x y a b c d e f g h i j l (fun z x114 x115 x116 x117 x118 x119 x120 x121 x122 x123 x124 x125 x126 x127=>k (.exit 8) ⟨dD Q130.h30.out [.c (.int .i64 z),.sw 0 4,.mref 1,.ptr 2 0 4,.sw 3 3,.sw 4 4,.c (.int .i64 x114),.c (.int .i64 x115),.ptr 5 0 0],[.ints .i64 x116,.mp .i64 3 x117 (.ints .i64 x118),.vals [.c (.int .i64 x119),.c (.int .i64 x120),.c (.int .i64 x121),.c (.int .i64 x122)],.ints .i64 x123,.ints .i64 x124,.it (some 1) x125 x126 x127]⟩):=by
 induction n generalizing m o p q r t u v w x y a b c d e f g h i j l with
 |zero=>kernel_rfl
 |succ n ih=>
  simp only[Q130.l30,←ih]
  kernel_rfl
noncomputable def Q130.b27:Code:=sA ((eA (bo Tryz.f47)).getD 3 .skip)
theorem Q130.l27_eq {R:Type}(N n:Nat)(a b c:Int)(d:List Int)(e:List (List Int))(f:List Int)(g h i j:Int)(l m:List Int)(o:Nat)(p:List Nat)(q:Nat)(k:Ex→St→Option R):
  jB 0 Q130.h27 (fun s k=>bB (Q130.E N) 376 Q130.b27 s k) n [.c (.int .i64 a),.sw 0 4,.mref 1,.ptr 2 0 4,.sw 3 3,.sw 4 4,.c (.int .i64 b),.c (.int .i64 c),.ptr 5 0 0] [.ints .i64 d,.mp .i64 3 e (.ints .i64 f),.vals [.c (.int .i64 g),.c (.int .i64 h),.c (.int .i64 i),.c (.int .i64 j)],.ints .i64 l,.ints .i64 m,.it (some 1) o p q] k=Q130.l27 N n a b c d e f g h i j l m o p q (fun r t u v w x y z=>k (.exit 6) ⟨dD Q130.h27.out [.c (.int .i64 r),.sw 0 4,.mref 1,.sw 2 3,.sw 3 4,.c (.int .i64 t),.c (.int .i64 u)],[.ints .i64 v,.mp .i64 3 w (.ints .i64 x),.ints .i64 y,.ints .i64 z]⟩):=by
 induction n generalizing a b c d e f g h i j l m o p q with
 |zero=>kernel_rfl
 |succ n ih=>
  simp only[Q130.l27,←ih]
  kernel_rfl
noncomputable def Q130.b36:Code:=sA ((eA (bo Tryz.f47)).getD 5 .skip)
theorem Q130.l36_eq {R:Type}(N n:Nat)(a b c d e:Int)(f:List Int)(g:List (List Int))(h i j:List Int)(k:Ex→St→Option R):
  jB 0 Q130.h36 (fun s k=>bB (Q130.E N) 376 Q130.b36 s k) n [.c (.int .i64 a),.sw 0 4,.mref 1,.sw 2 4,.c (.int .i64 b),.c (.int .i64 c),.sw 3 3,.c (.int .i64 d),.c (.int .i64 e)] [.ints .i64 f,.mp .i64 3 g (.ints .i64 h),.ints .i64 i,.ints .i64 j] k=Q130.l36 N n a b c d e f g h i j (fun l m o p q r t=>k (.exit 10) ⟨dD Q130.h36.out [.c (.int .i64 l),.sw 0 4,.mref 1,.sw 2 4,.c (.int .i64 m),.c (.int .i64 o)],[.ints .i64 p,.mp .i64 3 q (.ints .i64 r),.ints .i64 t]⟩):=by
 induction n generalizing a b c d e f g h i j with
 |zero=>kernel_rfl
 |succ n ih=>
  simp only[Q130.l36,←ih]
  kernel_rfl
noncomputable def Q130.b21:Code:=sA ((eA (bo Tryz.f47)).getD 2 .skip)
theorem Q130.l21_eq {R:Type}(N n:Nat)(a b c:Int)(d:List Int)(e:List (List Int))(f g:List Int)(k:Ex→St→Option R):
  jB 0 Q130.h21 (fun s k=>bB (Q130.E N) 388 Q130.b21 s k) n [.c (.int .i64 a),.sw 0 4,.mref 1,.sw 2 4,.c (.int .i64 b),.c (.int .i64 c)] [.ints .i64 d,.mp .i64 3 e (.ints .i64 f),.ints .i64 g] k=Q130.l21 N n a b c d e f g (fun h=>k (.exit 4) ⟨dD Q130.h21.out [.sw 0 4],[.ints .i64 h]⟩):=by
 induction n generalizing a b c d e f g with
 |zero=>kernel_rfl
 |succ n ih=>
  simp only[Q130.l21,←ih]
  kernel_rfl
noncomputable def Q130.dec (v:V)(bs:List rA):Option (List Int):=match v,bs with
 | .sw 0 4,[.ints .i64 a]=>some a
 |_,_=>none
theorem Q130.f_eq (N:Nat)(a:List Int)(b c d e f g:Int):
  cB (Q130.E N) (bo Tryz.f47) [.il .i64 3 a,.agg [.c (.int .i64 b),.c (.int .i64 c),.c (.int .i64 d)],.c (.int .i64 e),.c (.int .i64 f),.c (.int .i64 g)] [] Q130.dec=Q130.f N a b c d e f g:=by kernel_rfl
noncomputable def Q130.ent (N:Nat):xA:=wF (List Int) 1 [true,true,true,true,true] [.il .i64 3,.recd [.any,.any,.any],.any,.any,.any] fun
 | [.il .i64 3 a,.agg [.c (.int .i64 b),.c (.int .i64 c),.c (.int .i64 d)],.c (.int .i64 e),.c (.int .i64 f),.c (.int .i64 g)]=>some (Q130.f N a b c d e f g,fun r=>.one (.sw 0 4) [.ints .i64 r])
 |_=>none
theorem Q130.env (N:Nat):aB Tryz.prog (Q130.E N):=⟨(.cons xC (.cons yL (.cons oL (.cons oC (.cons E6 (.cons tI (.cons pJ (.cons gm .nil)))))))),(.cons (Q128.ent_ok N) (.cons (Q129.ent_ok N) (.cons (Q125.ent_ok N) (.cons (Q127.ent_ok N) .nil))))⟩
theorem Q130.k36 (N:Nat):xB Tryz.prog Tryz.f47 (Q130.E N) (.loop Q130.b36):=gD (Q130.env N) bA 376 (c:=Q130.c36 N) dA.n fun R vs H k r h=>by unfold Q130.c36 at h;dsimp only at h;split at h;exact⟨_,Q130.l36_eq .. ▸h⟩;cases h
theorem Q130.k30 (N:Nat):xB Tryz.prog Tryz.f47 (Q130.E N) (.loop Q130.b30):=gD (Q130.env N) bA 369 (c:=Q130.c30 N) dA.n fun R vs H k r h=>by unfold Q130.c30 at h;dsimp only at h;split at h;exact⟨_,Q130.l30_eq .. ▸h⟩;cases h
theorem Q130.k27 (N:Nat):xB Tryz.prog Tryz.f47 (Q130.E N) (.loop Q130.b27):=gD (Q130.env N) bA 376 (c:=Q130.c27 N) (dA.of (l:=[(.loop (sA ((eA (bo Tryz.f47)).getD 4 .skip)))]) (by kernel_rfl) (dA.cons (Q130.k30 N) dA.nil)) fun R vs H k r h=>by unfold Q130.c27 at h;dsimp only at h;split at h;exact⟨_,Q130.l27_eq .. ▸h⟩;cases h
theorem Q130.k21 (N:Nat):xB Tryz.prog Tryz.f47 (Q130.E N) (.loop Q130.b21):=gD (Q130.env N) bA 388 (c:=Q130.c21 N) (dA.of (l:=[(.loop (sA ((eA (bo Tryz.f47)).getD 3 .skip))),(.loop (sA ((eA (bo Tryz.f47)).getD 4 .skip))),(.loop (sA ((eA (bo Tryz.f47)).getD 5 .skip)))]) (by kernel_rfl) (dA.cons (Q130.k27 N) (dA.cons (Q130.k30 N) (dA.cons (Q130.k36 N) dA.nil)))) fun R vs H k r h=>by unfold Q130.c21 at h;dsimp only at h;split at h;exact⟨_,Q130.l21_eq .. ▸h⟩;cases h
theorem Q130.k11 (N:Nat):xB Tryz.prog Tryz.f47 (Q130.E N) (.loop Q130.b11):=gD (Q130.env N) bA 392 (c:=Q130.c11 N) dA.n fun R vs H k r h=>by unfold Q130.c11 at h;dsimp only at h;split at h;exact⟨_,Q130.l11_eq .. ▸h⟩;cases h
theorem Q130.k3 (N:Nat):xB Tryz.prog Tryz.f47 (Q130.E N) (.loop Q130.b3):=gD (Q130.env N) bA 394 (c:=Q130.c3 N) dA.n fun R vs H k r h=>by unfold Q130.c3 at h;dsimp only at h;split at h;exact⟨_,Q130.l3_eq .. ▸h⟩;cases h
theorem Q130.spec (N:Nat)(a:List Int)(c d f g i j:Int)(r:List Int)(h:Q130.f N a c d f g i j=some r):fA Tryz.prog 47 [.il .i64 3 a,.agg [.c (.int .i64 c),.c (.int .i64 d),.c (.int .i64 f)],.c (.int .i64 g),.c (.int .i64 i),.c (.int .i64 j)] [] (.sw 0 4) ([.ints .i64 r]):=vA (Q130.env N) bA Tryz.func47 (dA.of (l:=[(.loop (sA ((eA (bo Tryz.f47)).getD 0 .skip))),(.loop (sA ((eA (bo Tryz.f47)).getD 1 .skip))),(.loop (sA ((eA (bo Tryz.f47)).getD 2 .skip))),(.loop (sA ((eA (bo Tryz.f47)).getD 3 .skip))),(.loop (sA ((eA (bo Tryz.f47)).getD 4 .skip))),(.loop (sA ((eA (bo Tryz.f47)).getD 5 .skip)))]) (by kernel_rfl) (dA.cons (Q130.k3 N) (dA.cons (Q130.k11 N) (dA.cons (Q130.k21 N) (dA.cons (Q130.k27 N) (dA.cons (Q130.k30 N) (dA.cons (Q130.k36 N) dA.nil))))))) ((Q130.f_eq ..).trans h) fun v b e=>by unfold Q130.dec at e;split at e<;>cases e;exact⟨rfl,rfl⟩
theorem Q130.ent_ok (N:Nat):uA Tryz.prog 47 (Q130.ent N):=yA fun v a e h=>by split at h;exact nC (Q:=fun e=>fA _ _ _ _ (e a).pick.1 (e a).pick.2) h fun k=>Q130.spec N _ _ _ _ _ _ _ a k;cases h
noncomputable def Q131.l13 {R:Type}(N:Nat):Nat→Int→Int→List Int→Int→Int→Int→Int→List Int→Int→Int→Int→List Int→Int→Int→(Int→Int→List Int→Int→Int→List Int→Int→Int→Int→List Int→Int→Int→Option R)→Option R
 |0,_,_,_,_,_,_,_,_,_,_,_,_,_,_,_=>none
 |n+1,b,c,d,e,f,g,h,i,j,k,l,m,a,o,p=>
  bif decide (h<g)then
   Q131.l13 N n b (aA (c*a)) d e f g (aA (h+1)) i j k l m a o p
  else
  p b c d e f i j k l m a o
noncomputable def Q131.l17 {R:Type}(N:Nat):Nat→Int→List Int→Int→Int→Int→Int→List Int→Int→Int→Int→List Int→List Int→(Int→List Int→Int→Int→List Int→Int→Int→Int→List Int→Option R)→Option R
 |0,_,_,_,_,_,_,_,_,_,_,_,_,_=>none
 |n+1,i,j,k,l,m,a,o,c,d,e,b,f,p=>
  bif decide (a<m)then
   bif (decide (0≤a))&&(decide (a<(f.length/4:Int)))then
    bif a==(b.length/4:Int)then
     bif fB ((b.length+4)/4) 32 then
      bif (decide (0≤a))&&(decide (a<(((b++[c,d,e,1]).length)/4:Int)))then
       (Q127.f N ((b++[c,d,e,1]).getD (a.toNat*4) 0) ((b++[c,d,e,1]).getD ((a.toNat*4)+1) 0) ((b++[c,d,e,1]).getD ((a.toNat*4)+2) 0) (f.getD (a.toNat*4) 0) (f.getD ((a.toNat*4)+1) 0) (f.getD ((a.toNat*4)+2) 0)).bind fun g=>
       bif (decide (0≤a))&&(decide (a<(((b++[c,d,e,1]).length)/4:Int)))then
        bif (decide (0≤a))&&(decide (a<(((b++[c,d,e,1]).length)/4:Int)))then
         Q131.l17 N n i j k l m (aA (a+1)) o c d e (((((b++[c,d,e,1]).set (a.toNat*4) g.1).set ((a.toNat*4)+1) g.2.1).set ((a.toNat*4)+2) g.2.2).set ((a.toNat*4)+3) (aA (((b++[c,d,e,1]).getD ((a.toNat*4)+3) 0)*(f.getD ((a.toNat*4)+3) 0)))) f p
        else none
       else none
      else none
     else none
    else
    bif (decide (0≤a))&&(decide (a<(b.length/4:Int)))then
     (Q127.f N (b.getD (a.toNat*4) 0) (b.getD ((a.toNat*4)+1) 0) (b.getD ((a.toNat*4)+2) 0) (f.getD (a.toNat*4) 0) (f.getD ((a.toNat*4)+1) 0) (f.getD ((a.toNat*4)+2) 0)).bind fun h=>
     bif (decide (0≤a))&&(decide (a<(b.length/4:Int)))then
      bif (decide (0≤a))&&(decide (a<(b.length/4:Int)))then
       Q131.l17 N n i j k l m (aA (a+1)) o c d e ((((b.set (a.toNat*4) h.1).set ((a.toNat*4)+1) h.2.1).set ((a.toNat*4)+2) h.2.2).set ((a.toNat*4)+3) (aA ((b.getD ((a.toNat*4)+3) 0)*(f.getD ((a.toNat*4)+3) 0)))) f p
      else none
     else none
    else none
   else none
  else
  p i j k l o c d e b
noncomputable def Q131.l9 {R:Type}(N:Nat):Nat→Int→List Int→Int→Int→List Int→Int→Int→Int→List Int→(List Int→Option R)→Option R
 |0,_,_,_,_,_,_,_,_,_,_=>none
 |n+1,x5,d,x7,a,x9,j,k,l,c,k0=>
  bif decide (a<x7)then
   bif (decide (0≤a))&&(decide (a<(d.length/2:Int)))then
    Q131.l13 N N x5 1 d x7 a (d.getD ((a.toNat*2)+1) 0) 0 x9 j k l c (d.getD (a.toNat*2) 0) (d.getD ((a.toNat*2)+1) 0)
     (fun e m o p q f g h i r s y51=>
      (Q130.f N f g h i e s m).bind fun b=>
      Q131.l17 N N e o p q (b.length/4:Int) 0 f g h i r b
       (fun t u v w x y z y83 y84=>
        Q131.l9 N n t u v (aA (w+1)) x y z y83 y84 k0))
   else none
  else
  k0 c
noncomputable def Q131.f (N:Nat)(e:Int):Option (List Int×Int):=
 (Q114.f N e).bind fun a=>
 bif a.2 != 0 then
  some ([],a.2)
 else
 (Q83.f N e).bind fun b=>
 (Q117.f N (a.1.length/3:Int)).bind fun f=>
 Q131.l9 N N (a.1.length/3:Int) f.1 (f.1.length/2:Int) 0 a.1 b.1 b.2.1 b.2.2.1 []
  (fun d=>
   (Q126.f N d).bind fun c=>
   some (c,0))
noncomputable def Q131.h9:eD:=⟨[(4,.row .i64 3),(6,.box [.any,.any,.any]),(8,.any),(9,.row .i64 4),(37,.il .i64 2),(38,.any),(39,.any)],[(9,.row .i64 4)]⟩
noncomputable def Q131.h13:eD:=⟨[(4,.row .i64 3),(6,.box [.any,.any,.any]),(8,.any),(9,.row .i64 4),(13,.box [.any,.any]),(14,.any),(37,.il .i64 2),(38,.any),(39,.any),(44,.any),(45,.any)],[(4,.row .i64 3),(6,.box [.any,.any,.any]),(8,.any),(9,.row .i64 4),(13,.box [.any,.any]),(14,.any),(37,.il .i64 2),(38,.any),(39,.any)]⟩
noncomputable def Q131.h17:eD:=⟨[(4,.row .i64 3),(6,.box [.any,.any,.any]),(8,.any),(9,.row .i64 4),(37,.il .i64 2),(38,.any),(39,.any),(58,.row .i64 4),(59,.any),(60,.any)],[(4,.row .i64 3),(6,.box [.any,.any,.any]),(8,.any),(9,.row .i64 4),(37,.il .i64 2),(38,.any),(39,.any)]⟩
noncomputable def Q131.c13 (N:Nat):xH:=⟨fun vs H k=>match vs,H with
 | [.sw 0 3,.ptr 1 0 3,.c (.int .i64 a),.sw 2 4,.ptr 3 0 2,.c (.int .i64 b),.il .i64 2 c,.c (.int .i64 d),.c (.int .i64 e),.c (.int .i64 f),.c (.int .i64 g)],[.ints .i64 h,.vals [.c (.int .i64 i),.c (.int .i64 j),.c (.int .i64 l)],.ints .i64 m,.vals [.c (.int .i64 o),.c (.int .i64 p)]]=>Q131.l13 N N a b c d e f g h i j l m o p (fun q r s t u v w x y z x38 x39=>k (.exit 2) ⟨dD Q131.h13.out [.sw 0 3,.ptr 1 0 3,.c (.int .i64 q),.sw 2 4,.ptr 3 0 2,.c (.int .i64 r),.il .i64 2 s,.c (.int .i64 t),.c (.int .i64 u)],[.ints .i64 v,.vals [.c (.int .i64 w),.c (.int .i64 x),.c (.int .i64 y)],.ints .i64 z,.vals [.c (.int .i64 x38),.c (.int .i64 x39)]]⟩)
 |_,_=>none⟩
noncomputable def Q131.c17 (N:Nat):xH:=⟨fun vs H k=>match vs,H with
 | [.sw 0 3,.ptr 1 0 3,.c (.int .i64 a),.sw 2 4,.il .i64 2 b,.c (.int .i64 c),.c (.int .i64 d),.sw 3 4,.c (.int .i64 e),.c (.int .i64 f)],[.ints .i64 g,.vals [.c (.int .i64 h),.c (.int .i64 i),.c (.int .i64 j)],.ints .i64 l,.ints .i64 m]=>Q131.l17 N N a b c d e f g h i j l m (fun o p q r s t u v w=>k (.exit 4) ⟨dD Q131.h17.out [.sw 0 3,.ptr 1 0 3,.c (.int .i64 o),.sw 2 4,.il .i64 2 p,.c (.int .i64 q),.c (.int .i64 r)],[.ints .i64 s,.vals [.c (.int .i64 t),.c (.int .i64 u),.c (.int .i64 v)],.ints .i64 w]⟩)
 |_,_=>none⟩
noncomputable def Q131.c9 (N:Nat):xH:=⟨fun vs H k=>match vs,H with
 | [.sw 0 3,.ptr 1 0 3,.c (.int .i64 f),.sw 2 4,.il .i64 2 g,.c (.int .i64 h),.c (.int .i64 i)],[.ints .i64 j,.vals [.c (.int .i64 a),.c (.int .i64 b),.c (.int .i64 c)],.ints .i64 d]=>Q131.l9 N N f g h i j a b c d (fun e=>k (.exit 0) ⟨dD Q131.h9.out [.sw 0 4],[.ints .i64 e]⟩)
 |_,_=>none⟩
noncomputable def Q131.E (N:Nat):bD:=bF [(2,eQ),(3,Cn),(23,gj),(33,wH),(53,d7),(57,m8),(60,Cp),(64,E7)] [(23,Q114.ent N),(27,Q83.ent N),(46,Q117.ent N),(47,Q130.ent N),(39,Q127.ent N),(48,Q126.ent N)] [(9,Q131.h9),(13,Q131.h13),(17,Q131.h17)] [(13,Q131.c13 N),(17,Q131.c17 N),(9,Q131.c9 N)] N [.tmp 2,.tmp 3] [.il .i64 4,.any] 0 99
noncomputable def Q131.b13:Code:=sA ((eA (bo Tryz.f28)).getD 1 .skip)
theorem Q131.l13_eq {R:Type}(N n:Nat)(a b:Int)(c:List Int)(d e f g:Int)(h:List Int)(i j l:Int)(m:List Int)(o p:Int)(k:Ex→St→Option R):
  jB 0 Q131.h13 (fun s k=>bB (Q131.E N) 379 Q131.b13 s k) n [.sw 0 3,.ptr 1 0 3,.c (.int .i64 a),.sw 2 4,.ptr 3 0 2,.c (.int .i64 b),.il .i64 2 c,.c (.int .i64 d),.c (.int .i64 e),.c (.int .i64 f),.c (.int .i64 g)] [.ints .i64 h,.vals [.c (.int .i64 i),.c (.int .i64 j),.c (.int .i64 l)],.ints .i64 m,.vals [.c (.int .i64 o),.c (.int .i64 p)]] k=Q131.l13 N n a b c d e f g h i j l m o p (fun q r t u v w x y z x37 x38 x39=>k (.exit 2) ⟨dD Q131.h13.out [.sw 0 3,.ptr 1 0 3,.c (.int .i64 q),.sw 2 4,.ptr 3 0 2,.c (.int .i64 r),.il .i64 2 t,.c (.int .i64 u),.c (.int .i64 v)],[.ints .i64 w,.vals [.c (.int .i64 x),.c (.int .i64 y),.c (.int .i64 z)],.ints .i64 x37,.vals [.c (.int .i64 x38),.c (.int .i64 x39)]]⟩):=by
 induction n generalizing a b c d e f g h i j l m o p with
 |zero=>kernel_rfl
 |succ n ih=>
  simp only[Q131.l13,←ih]
  kernel_rfl
noncomputable def Q131.b17:Code:=sA ((eA (bo Tryz.f28)).getD 2 .skip)
theorem Q131.l17_eq {R:Type}(N n:Nat)(a:Int)(b:List Int)(c d e f:Int)(g:List Int)(h i j:Int)(l m:List Int)(k:Ex→St→Option R):
  jB 0 Q131.h17 (fun s k=>bB (Q131.E N) 379 Q131.b17 s k) n [.sw 0 3,.ptr 1 0 3,.c (.int .i64 a),.sw 2 4,.il .i64 2 b,.c (.int .i64 c),.c (.int .i64 d),.sw 3 4,.c (.int .i64 e),.c (.int .i64 f)] [.ints .i64 g,.vals [.c (.int .i64 h),.c (.int .i64 i),.c (.int .i64 j)],.ints .i64 l,.ints .i64 m] k=Q131.l17 N n a b c d e f g h i j l m (fun o p q r t u v w x=>k (.exit 4) ⟨dD Q131.h17.out [.sw 0 3,.ptr 1 0 3,.c (.int .i64 o),.sw 2 4,.il .i64 2 p,.c (.int .i64 q),.c (.int .i64 r)],[.ints .i64 t,.vals [.c (.int .i64 u),.c (.int .i64 v),.c (.int .i64 w)],.ints .i64 x]⟩):=by
 induction n generalizing a b c d e f g h i j l m with
 |zero=>kernel_rfl
 |succ n ih=>
  simp only[Q131.l17,←ih]
  kernel_rfl
noncomputable def Q131.b9:Code:=sA ((eA (bo Tryz.f28)).getD 0 .skip)
theorem Q131.l9_eq {R:Type}(N n:Nat)(e:Int)(f:List Int)(g h:Int)(j:List Int)(a b c:Int)(d:List Int)(k:Ex→St→Option R):
  jB 0 Q131.h9 (fun s k=>bB (Q131.E N) 389 Q131.b9 s k) n [.sw 0 3,.ptr 1 0 3,.c (.int .i64 e),.sw 2 4,.il .i64 2 f,.c (.int .i64 g),.c (.int .i64 h)] [.ints .i64 j,.vals [.c (.int .i64 a),.c (.int .i64 b),.c (.int .i64 c)],.ints .i64 d] k=Q131.l9 N n e f g h j a b c d (fun i=>k (.exit 0) ⟨dD Q131.h9.out [.sw 0 4],[.ints .i64 i]⟩):=by
 induction n generalizing e f g h j a b c d with
 |zero=>kernel_rfl
 |succ n ih=>
  simp only[Q131.l9,←ih]
  kernel_rfl
noncomputable def Q131.dec (v:V)(bs:List rA):Option (List Int×Int):=match v,bs with
 | .tup [.il .i64 4 a,.c (.int .i64 b)],[]=>some (a,b)
 |_,_=>none
theorem Q131.f_eq (N:Nat)(a:Int):
  cB (Q131.E N) (bo Tryz.f28) [.c (.int .i64 a)] [] Q131.dec=Q131.f N a:=by kernel_rfl
noncomputable def Q131.ent (N:Nat):xA:=wF (List Int×Int) 0 [true] [.any] fun
 | [.c (.int .i64 a)]=>some (Q131.f N a,fun r=>.one (.tup [.il .i64 4 r.1,.c (.int .i64 r.2)]) [])
 |_=>none
theorem Q131.env (N:Nat):aB Tryz.prog (Q131.E N):=⟨(.cons xC (.cons yL (.cons oL (.cons oC (.cons tI (.cons pJ (.cons xW (.cons gk .nil)))))))),(.cons (Q114.ent_ok N) (.cons (Q83.ent_ok N) (.cons (Q117.ent_ok N) (.cons (Q130.ent_ok N) (.cons (Q127.ent_ok N) (.cons (Q126.ent_ok N) .nil))))))⟩
theorem Q131.k17 (N:Nat):xB Tryz.prog Tryz.f28 (Q131.E N) (.loop Q131.b17):=gD (Q131.env N) bA 379 (c:=Q131.c17 N) dA.n fun R vs H k r h=>by unfold Q131.c17 at h;dsimp only at h;split at h;exact⟨_,Q131.l17_eq .. ▸h⟩;cases h
theorem Q131.k13 (N:Nat):xB Tryz.prog Tryz.f28 (Q131.E N) (.loop Q131.b13):=gD (Q131.env N) bA 379 (c:=Q131.c13 N) dA.n fun R vs H k r h=>by unfold Q131.c13 at h;dsimp only at h;split at h;exact⟨_,Q131.l13_eq .. ▸h⟩;cases h
theorem Q131.k9 (N:Nat):xB Tryz.prog Tryz.f28 (Q131.E N) (.loop Q131.b9):=gD (Q131.env N) bA 389 (c:=Q131.c9 N) (dA.of (l:=[(.loop (sA ((eA (bo Tryz.f28)).getD 1 .skip))),(.loop (sA ((eA (bo Tryz.f28)).getD 2 .skip)))]) (by kernel_rfl) (dA.cons (Q131.k13 N) (dA.cons (Q131.k17 N) dA.nil))) fun R vs H k r h=>by unfold Q131.c9 at h;dsimp only at h;split at h;exact⟨_,Q131.l9_eq .. ▸h⟩;cases h
theorem Q131.spec (N:Nat)(a:Int)(r:List Int×Int)(h:Q131.f N a=some r):fA Tryz.prog 28 [.c (.int .i64 a)] [] (.tup [.il .i64 4 r.1,.c (.int .i64 r.2)]) ([]):=vA (Q131.env N) bA Tryz.func28 (dA.of (l:=[(.loop (sA ((eA (bo Tryz.f28)).getD 0 .skip))),(.loop (sA ((eA (bo Tryz.f28)).getD 1 .skip))),(.loop (sA ((eA (bo Tryz.f28)).getD 2 .skip)))]) (by kernel_rfl) (dA.cons (Q131.k9 N) (dA.cons (Q131.k13 N) (dA.cons (Q131.k17 N) dA.nil)))) ((Q131.f_eq ..).trans h) fun v b e=>by unfold Q131.dec at e;split at e<;>cases e;exact⟨rfl,rfl⟩
theorem Q131.ent_ok (N:Nat):uA Tryz.prog 28 (Q131.ent N):=yA fun v a e h=>by split at h;exact nC (Q:=fun e=>fA _ _ _ _ (e a).pick.1 (e a).pick.2) h fun k=>Q131.spec N _ a k;cases h
noncomputable def Q132.l5 {R:Type}(N:Nat):Nat→List Int→Int→Int→List Int→List Int→(List Int→List Int→Option R)→Option R
 |0,_,_,_,_,_,_=>none
 |n+1,b,f,a,c,d,e=>
  bif decide (a<f)then
   bif (decide (0≤a))&&(decide (a<(b.length/4:Int)))then
    bif fB ((c.length+3)/3) 24 then
     bif fB (d.length+1) 8 then
      Q132.l5 N n b f (aA (a+1)) (c++[b.getD (a.toNat*4) 0,b.getD ((a.toNat*4)+1) 0,b.getD ((a.toNat*4)+2) 0]) (d++[b.getD ((a.toNat*4)+3) 0]) e
     else none
    else none
   else none
  else
  e c d
noncomputable def Q132.f (N:Nat)(d:Int):Option (List Int×List Int×Int):=
 (Q131.f N d).bind fun a=>
 bif a.2 != 0 then
  some ([],[],a.2)
 else
 Q132.l5 N N a.1 (a.1.length/4:Int) 0 [] []
  (fun b c=>
   some (b,c,0))
noncomputable def Q132.h5:eD:=⟨[(2,.row .i64 3),(3,.row .i64 1),(16,.il .i64 4),(17,.any),(18,.any)],[(2,.row .i64 3),(3,.row .i64 1)]⟩
noncomputable def Q132.c5 (N:Nat):xH:=⟨fun vs H k=>match vs,H with
 | [.sw 0 3,.sw 1 1,.il .i64 4 a,.c (.int .i64 b),.c (.int .i64 c)],[.ints .i64 d,.ints .i64 e]=>Q132.l5 N N a b c d e (fun f g=>k (.exit 0) ⟨dD Q132.h5.out [.sw 0 3,.sw 1 1],[.ints .i64 f,.ints .i64 g]⟩)
 |_,_=>none⟩
noncomputable def Q132.E (N:Nat):bD:=bF [(2,eQ),(23,gj),(24,qy),(33,wH),(53,d7),(57,m8)] [(28,Q131.ent N)] [(5,Q132.h5)] [(5,Q132.c5 N)] N [.tmp 2,.tmp 3,.tmp 4] [.il .i64 3,.il .i64 1,.any] 0 35
noncomputable def Q132.b5:Code:=sA ((eA (bo Tryz.f11)).getD 0 .skip)
theorem Q132.l5_eq {R:Type}(N n:Nat)(a:List Int)(b c:Int)(d e:List Int)(k:Ex→St→Option R):
  jB 0 Q132.h5 (fun s k=>bB (Q132.E N) 393 Q132.b5 s k) n [.sw 0 3,.sw 1 1,.il .i64 4 a,.c (.int .i64 b),.c (.int .i64 c)] [.ints .i64 d,.ints .i64 e] k=Q132.l5 N n a b c d e (fun f g=>k (.exit 0) ⟨dD Q132.h5.out [.sw 0 3,.sw 1 1],[.ints .i64 f,.ints .i64 g]⟩):=by
 induction n generalizing a b c d e with
 |zero=>kernel_rfl
 |succ n ih=>
  simp only[Q132.l5,←ih]
  kernel_rfl
noncomputable def Q132.dec (v:V)(bs:List rA):Option (List Int×List Int×Int):=match v,bs with
 | .tup [.il .i64 3 a,.il .i64 1 b,.c (.int .i64 c)],[]=>some (a,b,c)
 |_,_=>none
theorem Q132.f_eq (N:Nat)(a:Int):
  cB (Q132.E N) (bo Tryz.f11) [.c (.int .i64 a)] [] Q132.dec=Q132.f N a:=by kernel_rfl
noncomputable def Q132.ent (N:Nat):xA:=wF (List Int×List Int×Int) 0 [true] [.any] fun
 | [.c (.int .i64 a)]=>some (Q132.f N a,fun r=>.one (.tup [.il .i64 3 r.1,.il .i64 1 r.2.1,.c (.int .i64 r.2.2)]) [])
 |_=>none
theorem Q132.env (N:Nat):aB Tryz.prog (Q132.E N):=⟨(.cons xC (.cons oL (.cons zP (.cons oC (.cons tI (.cons pJ .nil)))))),(.cons (Q131.ent_ok N) .nil)⟩
theorem Q132.k5 (N:Nat):xB Tryz.prog Tryz.f11 (Q132.E N) (.loop Q132.b5):=gD (Q132.env N) bA 393 (c:=Q132.c5 N) dA.n fun R vs H k r h=>by unfold Q132.c5 at h;dsimp only at h;split at h;exact⟨_,Q132.l5_eq .. ▸h⟩;cases h
theorem Q132.spec (N:Nat)(a:Int)(r:List Int×List Int×Int)(h:Q132.f N a=some r):fA Tryz.prog 11 [.c (.int .i64 a)] [] (.tup [.il .i64 3 r.1,.il .i64 1 r.2.1,.c (.int .i64 r.2.2)]) ([]):=vA (Q132.env N) bA Tryz.func11 (dA.of (l:=[(.loop (sA ((eA (bo Tryz.f11)).getD 0 .skip)))]) (by kernel_rfl) (dA.cons (Q132.k5 N) dA.nil)) ((Q132.f_eq ..).trans h) fun v b e=>by unfold Q132.dec at e;split at e<;>cases e;exact⟨rfl,rfl⟩
theorem Q132.ent_ok (N:Nat):uA Tryz.prog 11 (Q132.ent N):=yA fun v a e h=>by split at h;exact nC (Q:=fun e=>fA _ _ _ _ (e a).pick.1 (e a).pick.2) h fun k=>Q132.spec N _ a k;cases h
noncomputable def Q133.f (N:Nat)(b c d:Int):Option (Int×Int×Int×Int×Int):=
 (Q87.f N b c d).bind fun e=>
 bif e.2.2.2 != 0 then
  some (0,0,0,0,e.2.2.2)
 else
 (Q47.f N b c d).bind fun g=>
 (Q115.f N g).bind fun f=>
 bif f.2 != 0 then
  some (0,0,0,0,80)
 else
 (Q50.f N b c d).bind fun a=>
 some (a.1,a.2.1,a.2.2.1,f.1,a.2.2.2.2.2.2.2)
noncomputable def Q133.E (N:Nat):bD:=bF [(2,eQ),(33,wH),(72,Cq)] [(45,Q87.ent N),(19,Q47.ent N),(17,Q115.ent N),(54,Q50.ent N)] [] [] N [.cell 2 33,.tmp 3,.tmp 4] [.recd [.any,.any,.any],.any,.any] 0 38
noncomputable def Q133.dec (v:V)(bs:List rA):Option (Int×Int×Int×Int×Int):=match v,bs with
 | .tup [.agg [.c (.int .i64 a),.c (.int .i64 b),.c (.int .i64 c)],.c (.int .i64 d),.c (.int .i64 e)],[]=>some (a,b,c,d,e)
 |_,_=>none
theorem Q133.f_eq (N:Nat)(a b c:Int):
  cB (Q133.E N) (bo Tryz.f33) [.agg [.c (.int .i64 a),.c (.int .i64 b),.c (.int .i64 c)]] [] Q133.dec=Q133.f N a b c:=by kernel_rfl
noncomputable def Q133.ent (N:Nat):xA:=wF (Int×Int×Int×Int×Int) 0 [true] [.recd [.any,.any,.any]] fun
 | [.agg [.c (.int .i64 a),.c (.int .i64 b),.c (.int .i64 c)]]=>some (Q133.f N a b c,fun r=>.one (.tup [.agg [.c (.int .i64 r.1),.c (.int .i64 r.2.1),.c (.int .i64 r.2.2.1)],.c (.int .i64 r.2.2.2.1),.c (.int .i64 r.2.2.2.2)]) [])
 |_=>none
theorem Q133.env (N:Nat):aB Tryz.prog (Q133.E N):=⟨(.cons xC (.cons oC (.cons yW .nil))),(.cons (Q87.ent_ok N) (.cons (Q47.ent_ok N) (.cons (Q115.ent_ok N) (.cons (Q50.ent_ok N) .nil))))⟩
theorem Q133.spec (N:Nat)(a c d:Int)(r:Int×Int×Int×Int×Int)(h:Q133.f N a c d=some r):fA Tryz.prog 33 [.agg [.c (.int .i64 a),.c (.int .i64 c),.c (.int .i64 d)]] [] (.tup [.agg [.c (.int .i64 r.1),.c (.int .i64 r.2.1),.c (.int .i64 r.2.2.1)],.c (.int .i64 r.2.2.2.1),.c (.int .i64 r.2.2.2.2)]) ([]):=vA (Q133.env N) bA Tryz.func33 dA.n ((Q133.f_eq ..).trans h) fun v b e=>by unfold Q133.dec at e;split at e<;>cases e;exact⟨rfl,rfl⟩
theorem Q133.ent_ok (N:Nat):uA Tryz.prog 33 (Q133.ent N):=yA fun v a e h=>by split at h;exact nC (Q:=fun e=>fA _ _ _ _ (e a).pick.1 (e a).pick.2) h fun k=>Q133.spec N _ _ _ a k;cases h
noncomputable def Q134.f (N:Nat)(c d e:Int):Option (Int×Int):=
 (Q133.f N c d e).bind fun a=>
 bif a.2.2.2.2 != 0 then
  some (0,a.2.2.2.2)
 else
 (Q47.f N c d e).bind fun f=>
 (Q83.f N f).bind fun b=>
 (Q129.f N a.1 a.2.1 a.2.2.1 b.1 b.2.1 b.2.2.1 a.2.2.2.1).bind fun g=>
 some (g,0)
noncomputable def Q134.E (N:Nat):bD:=bF [(33,wH)] [(33,Q133.ent N),(19,Q47.ent N),(27,Q83.ent N),(34,Q129.ent N)] [] [] N [.tmp 2,.tmp 3] [.any,.any] 0 28
noncomputable def Q134.dec (v:V)(bs:List rA):Option (Int×Int):=match v,bs with
 | .tup [.c (.int .i64 a),.c (.int .i64 b)],[]=>some (a,b)
 |_,_=>none
theorem Q134.f_eq (N:Nat)(a b c:Int):
  cB (Q134.E N) (bo Tryz.f14) [.agg [.c (.int .i64 a),.c (.int .i64 b),.c (.int .i64 c)]] [] Q134.dec=Q134.f N a b c:=by kernel_rfl
noncomputable def Q134.ent (N:Nat):xA:=wF (Int×Int) 0 [true] [.recd [.any,.any,.any]] fun
 | [.agg [.c (.int .i64 a),.c (.int .i64 b),.c (.int .i64 c)]]=>some (Q134.f N a b c,fun r=>.one (.tup [.c (.int .i64 r.1),.c (.int .i64 r.2)]) [])
 |_=>none
theorem Q134.env (N:Nat):aB Tryz.prog (Q134.E N):=⟨(.cons oC .nil),(.cons (Q133.ent_ok N) (.cons (Q47.ent_ok N) (.cons (Q83.ent_ok N) (.cons (Q129.ent_ok N) .nil))))⟩
theorem Q134.spec (N:Nat)(a c d:Int)(r:Int×Int)(h:Q134.f N a c d=some r):fA Tryz.prog 14 [.agg [.c (.int .i64 a),.c (.int .i64 c),.c (.int .i64 d)]] [] (.tup [.c (.int .i64 r.1),.c (.int .i64 r.2)]) ([]):=vA (Q134.env N) bA Tryz.func14 dA.n ((Q134.f_eq ..).trans h) fun v b e=>by unfold Q134.dec at e;split at e<;>cases e;exact⟨rfl,rfl⟩
theorem Q134.ent_ok (N:Nat):uA Tryz.prog 14 (Q134.ent N):=yA fun v a e h=>by split at h;exact nC (Q:=fun e=>fA _ _ _ _ (e a).pick.1 (e a).pick.2) h fun k=>Q134.spec N _ _ _ a k;cases h
noncomputable def Q135.l4 {R:Type}(g:Int→Int→Int→Int→List Int→Int→Int→Int→List Int→Option (Bool×List Int×Int×Int×Int×List Int))(N:Nat):Nat→Int→List Int→Int→Int→Int→List Int→Int→Int→Int→(List Int→Int→Int→Int→List Int→Option R)→(Bool→List Int→Int→Int→Int→List Int→Option R)→Option R
 |0,_,_,_,_,_,_,_,_,_,_,_=>none
 |n+1,a,c,f,h,i,d,j,k,l,m,kr=>
  bif (decide (0≤a))&&(decide (a<(d.length:Int)))then
   bif (decide (0≤a))&&(decide (a<(c.length/4:Int)))then
    bif decide ((d.getD a.toNat 0)<(c.getD ((a.toNat*4)+3) 0))then
     (g (aA (a+1)) j k l c f h i d).bind fun b=>
     bif b.1 then
      kr true b.2.1 b.2.2.1 b.2.2.2.1 b.2.2.2.2.1 b.2.2.2.2.2
     else
     bif (decide (0≤a))&&(decide (a<(b.2.1.length/4:Int)))then
      (Q127.f N j k l (b.2.1.getD (a.toNat*4) 0) (b.2.1.getD ((a.toNat*4)+1) 0) (b.2.1.getD ((a.toNat*4)+2) 0)).bind fun e=>
      bif (decide (0≤a))&&(decide (a<(b.2.2.2.2.2.length:Int)))then
       bif (decide (0≤a))&&(decide (a<(b.2.2.2.2.2.length:Int)))then
        Q135.l4 g N n a b.2.1 b.2.2.1 b.2.2.2.1 b.2.2.2.2.1 (b.2.2.2.2.2.set a.toNat (aA ((b.2.2.2.2.2.getD a.toNat 0)+1))) e.1 e.2.1 e.2.2 m kr
       else none
      else none
     else none
    else
    m c f h i d
   else none
  else none
noncomputable def Q135.step (g:Int→Int→Int→Int→List Int→Int→Int→Int→List Int→Option (Bool×List Int×Int×Int×Int×List Int))(N:Nat)(a t u v:Int)(b:List Int)(c d e:Int)(f:List Int):Option (Bool×List Int×Int×Int×Int×List Int):=
 bif a==(b.length/4:Int)then
  some ((t==c)&&((u==d)&&(v==e)),b,c,d,e,f)
 else
 bif (decide (0≤a))&&(decide (a<(f.length:Int)))then
  Q135.l4 g N N a b c d e (f.set a.toNat 0) t u v
   (fun h i j k l=>
    some (false,h,i,j,k,l))
   (fun m o p q r s=>
    some (m,o,p,q,r,s))
 else none
noncomputable def Q135.ty:List (Nat×TI):=[(2,eQ),(24,qy),(33,wH),(53,d7),(57,m8),(77,Gc)]
noncomputable def Q135.h4:eD:=⟨[(0,.any),(2,.any),(4,.any),(5,.any),(7,.box [.any,.any,.any])],[]⟩
noncomputable def Q135.c4 (g:Int→Int→Int→Int→List Int→Int→Int→Int→List Int→Option (Bool×List Int×Int×Int×Int×List Int))(N:Nat):xH:=⟨fun vs H k=>match vs,H with
 | [.c (.int .i64 a),.ptr 0 0 1,.ptr 2 0 1,.ptr 3 0 1,.ptr 5 0 3],[.vals [.il .i64 4 b],.vals [.c (.int .i64 c),.c (.int .i64 d),.c (.int .i64 e)],.vals [.sw 4 1],.vals [.fn 44 [] [.ptr 0 0 1,.ptr 1 0 3,.ptr 2 0 1,.ptr 3 0 1]],.ints .i64 f,.vals [.c (.int .i64 h),.c (.int .i64 i),.c (.int .i64 j)]]=>Q135.l4 g N N a b c d e f h i j (fun s t u v w=>k (.exit 0) ⟨dD Q135.h4.out [],[.vals [.il .i64 4 s],.vals [.c (.int .i64 t),.c (.int .i64 u),.c (.int .i64 v)],.vals [.sw 4 1],.vals [.fn 44 [] [.ptr 0 0 1,.ptr 1 0 3,.ptr 2 0 1,.ptr 3 0 1]],.ints .i64 w]⟩) (fun l m o p q r=>k (.ret (.c (.bool l)) [.vals [.il .i64 4 m],.vals [.c (.int .i64 o),.c (.int .i64 p),.c (.int .i64 q)],.vals [.sw 4 1],.vals [.fn 44 [] [.ptr 0 0 1,.ptr 1 0 3,.ptr 2 0 1,.ptr 3 0 1]],.ints .i64 r]) .nil)
 |_,_=>none⟩
noncomputable def Q135.entg (g:Int→Int→Int→Int→List Int→Int→Int→Int→List Int→Option (Bool×List Int×Int×Int×Int×List Int)):xA:={A:=Bool×List Int×Int×Int×Int×List Int,fresh:=0,imm:=[true,true,false,false,false,false],dec:=fun args bs=>match xF (nA bs) [false,false,false,false,false,false] args,bs with
 | [.c (.int .i64 a),.agg [.c (.int .i64 b),.c (.int .i64 c),.c (.int .i64 d)],.ptr 0 0 1,.ptr 1 0 3,.ptr 2 0 1,.ptr 3 0 1],[.vals [.il .i64 4 e],.vals [.c (.int .i64 f),.c (.int .i64 h),.c (.int .i64 i)],.vals [.sw 4 1],.vals [.fn 44 [] [.ptr 0 0 1,.ptr 1 0 3,.ptr 2 0 1,.ptr 3 0 1]],.ints .i64 j]=>some (g a b c d e f h i j,fun r=>.one (.c (.bool r.1)) [.vals [.il .i64 4 r.2.1],.vals [.c (.int .i64 r.2.2.1),.c (.int .i64 r.2.2.2.1),.c (.int .i64 r.2.2.2.2.1)],.vals [.sw 4 1],.vals [.fn 44 [] [.ptr 0 0 1,.ptr 1 0 3,.ptr 2 0 1,.ptr 3 0 1]],.ints .i64 r.2.2.2.2.2])
 |_,_=>none}
theorem Q135.entg_ok (g:Int→Int→Int→Int→List Int→Int→Int→Int→List Int→Option (Bool×List Int×Int×Int×Int×List Int))(hg:∀(b c d e:Int) (f:List Int) (i j k:Int) (l:List Int) (r:Bool×List Int×Int×Int×Int×List Int),g b c d e f i j k l=some r→fA Tryz.prog 44 [.c (.int .i64 b),.agg [.c (.int .i64 c),.c (.int .i64 d),.c (.int .i64 e)],.ptr 0 0 1,.ptr 1 0 3,.ptr 2 0 1,.ptr 3 0 1] [.vals [.il .i64 4 f],.vals [.c (.int .i64 i),.c (.int .i64 j),.c (.int .i64 k)],.vals [.sw 4 1],.vals [.fn 44 [] [.ptr 0 0 1,.ptr 1 0 3,.ptr 2 0 1,.ptr 3 0 1]],.ints .i64 l] (.c (.bool r.1)) ([.vals [.il .i64 4 r.2.1],.vals [.c (.int .i64 r.2.2.1),.c (.int .i64 r.2.2.2.1),.c (.int .i64 r.2.2.2.2.1)],.vals [.sw 4 1],.vals [.fn 44 [] [.ptr 0 0 1,.ptr 1 0 3,.ptr 2 0 1,.ptr 3 0 1]],.ints .i64 r.2.2.2.2.2])):uA Tryz.prog 44 (Q135.entg g):=by
 intro args bs a enc h;simp only[Q135.entg]at h;split at h
 ·rename_i hz;have h0:=Option.some.inj h;have h1:=congrArg Prod.fst h0;have h2:=congrArg Prod.snd h0;dsimp only at h1 h2;subst h2;exact fA.of_asSl (fl:=[false,false,false,false,false,false]) (by rw[hz];exact hg _ _ _ _ _ _ _ _ _ a h1)
 ·cases h
noncomputable def Q135.E (g:Int→Int→Int→Int→List Int→Int→Int→Int→List Int→Option (Bool×List Int×Int×Int×Int×List Int))(N:Nat):bD:={ty:=pG Q135.ty,tab:=pG [(44,Q135.entg g),(39,Q127.ent N)],hint:=pG [(4,Q135.h4)],cut:=pG [(4,Q135.c4 g N)],N:=N,res:=[.tmp 8],rsh:=[.any],nb:=5,ntmps:=47,own:=false}
noncomputable def Q135.b4:Code:=sA ((eA (bo Tryz.f44)).getD 0 .skip)
theorem Q135.l4_eq {R:Type}(g:Int→Int→Int→Int→List Int→Int→Int→Int→List Int→Option (Bool×List Int×Int×Int×Int×List Int))(N n:Nat)(a:Int)(b:List Int)(c d e:Int)(f:List Int)(h i j:Int)(k:Ex→St→Option R):
  jB 5 Q135.h4 (fun s k=>bB (Q135.E g N) 394 Q135.b4 s k) n [.c (.int .i64 a),.ptr 0 0 1,.ptr 2 0 1,.ptr 3 0 1,.ptr 5 0 3] [.vals [.il .i64 4 b],.vals [.c (.int .i64 c),.c (.int .i64 d),.c (.int .i64 e)],.vals [.sw 4 1],.vals [.fn 44 [] [.ptr 0 0 1,.ptr 1 0 3,.ptr 2 0 1,.ptr 3 0 1]],.ints .i64 f,.vals [.c (.int .i64 h),.c (.int .i64 i),.c (.int .i64 j)]] k=Q135.l4 g N n a b c d e f h i j (fun t u v w x=>k (.exit 0) ⟨dD Q135.h4.out [],[.vals [.il .i64 4 t],.vals [.c (.int .i64 u),.c (.int .i64 v),.c (.int .i64 w)],.vals [.sw 4 1],.vals [.fn 44 [] [.ptr 0 0 1,.ptr 1 0 3,.ptr 2 0 1,.ptr 3 0 1]],.ints .i64 x]⟩) (fun l m o p q r=>k (.ret (.c (.bool l)) [.vals [.il .i64 4 m],.vals [.c (.int .i64 o),.c (.int .i64 p),.c (.int .i64 q)],.vals [.sw 4 1],.vals [.fn 44 [] [.ptr 0 0 1,.ptr 1 0 3,.ptr 2 0 1,.ptr 3 0 1]],.ints .i64 r]) .nil):=by
 induction n generalizing a b c d e f h i j with
 |zero=>kernel_rfl
 |succ n ih=>
  simp only[Q135.l4,←ih]
  kernel_rfl
noncomputable def Q135.dec (v:V)(bs:List rA):Option (Bool×List Int×Int×Int×Int×List Int):=match v,bs with
 | .c (.bool a),[.vals [.il .i64 4 b],.vals [.c (.int .i64 c),.c (.int .i64 d),.c (.int .i64 e)],.vals [.sw 4 1],.vals [.fn 44 [] [.ptr 0 0 1,.ptr 1 0 3,.ptr 2 0 1,.ptr 3 0 1]],.ints .i64 f]=>some (a,b,c,d,e,f)
 |_,_=>none
theorem Q135.f_eq (g:Int→Int→Int→Int→List Int→Int→Int→Int→List Int→Option (Bool×List Int×Int×Int×Int×List Int))(N:Nat)(a b c d:Int)(e:List Int)(f h i:Int)(j:List Int):
  cB (Q135.E g N) (bo Tryz.f44) [.c (.int .i64 a),.agg [.c (.int .i64 b),.c (.int .i64 c),.c (.int .i64 d)],.ptr 0 0 1,.ptr 1 0 3,.ptr 2 0 1,.ptr 3 0 1] [.vals [.il .i64 4 e],.vals [.c (.int .i64 f),.c (.int .i64 h),.c (.int .i64 i)],.vals [.sw 4 1],.vals [.fn 44 [] [.ptr 0 0 1,.ptr 1 0 3,.ptr 2 0 1,.ptr 3 0 1]],.ints .i64 j] Q135.dec=Q135.step g N a b c d e f h i j:=by kernel_rfl
theorem Q135.env (g:Int→Int→Int→Int→List Int→Int→Int→Int→List Int→Option (Bool×List Int×Int×Int×Int×List Int))(hg:∀(a b c d:Int) (e:List Int) (f h i:Int) (j:List Int) (r:Bool×List Int×Int×Int×Int×List Int),g a b c d e f h i j=some r→fA Tryz.prog 44 [.c (.int .i64 a),.agg [.c (.int .i64 b),.c (.int .i64 c),.c (.int .i64 d)],.ptr 0 0 1,.ptr 1 0 3,.ptr 2 0 1,.ptr 3 0 1] [.vals [.il .i64 4 e],.vals [.c (.int .i64 f),.c (.int .i64 h),.c (.int .i64 i)],.vals [.sw 4 1],.vals [.fn 44 [] [.ptr 0 0 1,.ptr 1 0 3,.ptr 2 0 1,.ptr 3 0 1]],.ints .i64 j] (.c (.bool r.1)) ([.vals [.il .i64 4 r.2.1],.vals [.c (.int .i64 r.2.2.1),.c (.int .i64 r.2.2.2.1),.c (.int .i64 r.2.2.2.2.1)],.vals [.sw 4 1],.vals [.fn 44 [] [.ptr 0 0 1,.ptr 1 0 3,.ptr 2 0 1,.ptr 3 0 1]],.ints .i64 r.2.2.2.2.2]))(N:Nat):aB Tryz.prog (Q135.E g N):=⟨(vD.cons xC (vD.cons zP (vD.cons oC (vD.cons tI (vD.cons pJ (vD.cons ux vD.nil)))))),(wK.cons (Q135.entg_ok g hg) (wK.cons (Q127.ent_ok N) wK.nil))⟩
theorem Q135.res_eq (g:Int→Int→Int→Int→List Int→Int→Int→Int→List Int→Option (Bool×List Int×Int×Int×Int×List Int))(N:Nat):(Q135.E g N).res=Tryz.f44.results.toList:=by kernel_rfl
theorem Q135.k4 (g:Int→Int→Int→Int→List Int→Int→Int→Int→List Int→Option (Bool×List Int×Int×Int×Int×List Int))(hg:∀(a b c d:Int) (f:List Int) (i j l:Int) (m:List Int) (r:Bool×List Int×Int×Int×Int×List Int),g a b c d f i j l m=some r→fA Tryz.prog 44 [.c (.int .i64 a),.agg [.c (.int .i64 b),.c (.int .i64 c),.c (.int .i64 d)],.ptr 0 0 1,.ptr 1 0 3,.ptr 2 0 1,.ptr 3 0 1] [.vals [.il .i64 4 f],.vals [.c (.int .i64 i),.c (.int .i64 j),.c (.int .i64 l)],.vals [.sw 4 1],.vals [.fn 44 [] [.ptr 0 0 1,.ptr 1 0 3,.ptr 2 0 1,.ptr 3 0 1]],.ints .i64 m] (.c (.bool r.1)) ([.vals [.il .i64 4 r.2.1],.vals [.c (.int .i64 r.2.2.1),.c (.int .i64 r.2.2.2.1),.c (.int .i64 r.2.2.2.2.1)],.vals [.sw 4 1],.vals [.fn 44 [] [.ptr 0 0 1,.ptr 1 0 3,.ptr 2 0 1,.ptr 3 0 1]],.ints .i64 r.2.2.2.2.2]))(N:Nat):xB Tryz.prog Tryz.f44 (Q135.E g N) (.loop Q135.b4):=by
 intro e hd he hh R vs H k r h;have e1:(Q135.E g N).cut (yC Q135.b4)=some (Q135.c4 g N):=by kernel_rfl
 have e2:(Q135.E g N).hint (yC Q135.b4)=some Q135.h4:=by kernel_rfl
 rw[e1]at he;rw[e2]at hh;cases he;cases hh;unfold Q135.c4 at h;dsimp only at h;split at h
 ·rw[←Q135.l4_eq]at h;exact eL (jG (Q135.env g hg N) bA (Q135.res_eq g N) 394 Q135.b4 dA.n) h
 ·cases h
theorem Q135.spec1 (g:Int→Int→Int→Int→List Int→Int→Int→Int→List Int→Option (Bool×List Int×Int×Int×Int×List Int))(hg:∀(a b c d:Int) (e:List Int) (f i j:Int) (k:List Int) (r:Bool×List Int×Int×Int×Int×List Int),g a b c d e f i j k=some r→fA Tryz.prog 44 [.c (.int .i64 a),.agg [.c (.int .i64 b),.c (.int .i64 c),.c (.int .i64 d)],.ptr 0 0 1,.ptr 1 0 3,.ptr 2 0 1,.ptr 3 0 1] [.vals [.il .i64 4 e],.vals [.c (.int .i64 f),.c (.int .i64 i),.c (.int .i64 j)],.vals [.sw 4 1],.vals [.fn 44 [] [.ptr 0 0 1,.ptr 1 0 3,.ptr 2 0 1,.ptr 3 0 1]],.ints .i64 k] (.c (.bool r.1)) ([.vals [.il .i64 4 r.2.1],.vals [.c (.int .i64 r.2.2.1),.c (.int .i64 r.2.2.2.1),.c (.int .i64 r.2.2.2.2.1)],.vals [.sw 4 1],.vals [.fn 44 [] [.ptr 0 0 1,.ptr 1 0 3,.ptr 2 0 1,.ptr 3 0 1]],.ints .i64 r.2.2.2.2.2]))(N:Nat)(a b c d:Int)(e:List Int)(f i j:Int)(k:List Int)(r:Bool×List Int×Int×Int×Int×List Int)(h:Q135.step g N a b c d e f i j k=some r):fA Tryz.prog 44 [.c (.int .i64 a),.agg [.c (.int .i64 b),.c (.int .i64 c),.c (.int .i64 d)],.ptr 0 0 1,.ptr 1 0 3,.ptr 2 0 1,.ptr 3 0 1] [.vals [.il .i64 4 e],.vals [.c (.int .i64 f),.c (.int .i64 i),.c (.int .i64 j)],.vals [.sw 4 1],.vals [.fn 44 [] [.ptr 0 0 1,.ptr 1 0 3,.ptr 2 0 1,.ptr 3 0 1]],.ints .i64 k] (.c (.bool r.1)) ([.vals [.il .i64 4 r.2.1],.vals [.c (.int .i64 r.2.2.1),.c (.int .i64 r.2.2.2.1),.c (.int .i64 r.2.2.2.2.1)],.vals [.sw 4 1],.vals [.fn 44 [] [.ptr 0 0 1,.ptr 1 0 3,.ptr 2 0 1,.ptr 3 0 1]],.ints .i64 r.2.2.2.2.2]):=by
 rw[←Q135.f_eq]at h;refine(wR (Q135.env g hg N) bA Tryz.func44 (by kernel_rfl:Tryz.f44.body=some (bo Tryz.f44)) (by kernel_rfl) (Q135.res_eq g N) (by kernel_rfl) (by kernel_rfl) (hA (by kernel_rfl)) (dA.of (l:=[(.loop (sA ((eA (bo Tryz.f44)).getD 0 .skip)))]) (by kernel_rfl) (dA.cons (Q135.k4 g hg N) dA.nil)) h).of fun v bs' h1=>?_;unfold Q135.dec at h1;split at h1
 ·cases h1;exact⟨rfl,rfl⟩
 ·cases h1
noncomputable def Q135.g (N:Nat):Nat→Int→Int→Int→Int→List Int→Int→Int→Int→List Int→Option (Bool×List Int×Int×Int×Int×List Int)
 |0,_,_,_,_,_,_,_,_,_=>none
 |n+1,a,b,c,d,e,f,g,h,i=>Q135.step (Q135.g N n) N a b c d e f g h i
noncomputable def Q135.f (N:Nat)(a b c d:Int)(e:List Int)(f g h:Int)(i:List Int):Option (Bool×List Int×Int×Int×Int×List Int):=Q135.g N N a b c d e f g h i
theorem Q135.gspec (N:Nat):∀(n:Nat) (a b c d:Int) (e:List Int) (f g i:Int) (j:List Int) (r:Bool×List Int×Int×Int×Int×List Int) (h:Q135.g N n a b c d e f g i j=some r),fA Tryz.prog 44 [.c (.int .i64 a),.agg [.c (.int .i64 b),.c (.int .i64 c),.c (.int .i64 d)],.ptr 0 0 1,.ptr 1 0 3,.ptr 2 0 1,.ptr 3 0 1] [.vals [.il .i64 4 e],.vals [.c (.int .i64 f),.c (.int .i64 g),.c (.int .i64 i)],.vals [.sw 4 1],.vals [.fn 44 [] [.ptr 0 0 1,.ptr 1 0 3,.ptr 2 0 1,.ptr 3 0 1]],.ints .i64 j] (.c (.bool r.1)) ([.vals [.il .i64 4 r.2.1],.vals [.c (.int .i64 r.2.2.1),.c (.int .i64 r.2.2.2.1),.c (.int .i64 r.2.2.2.2.1)],.vals [.sw 4 1],.vals [.fn 44 [] [.ptr 0 0 1,.ptr 1 0 3,.ptr 2 0 1,.ptr 3 0 1]],.ints .i64 r.2.2.2.2.2])
 |0,_,_,_,_,_,_,_,_,_,_,h=>by cases h
 |n+1,a,b,c,d,e,f,g,i,j,r,h=>Q135.spec1 (Q135.g N n) (Q135.gspec N n) N a b c d e f g i j r h
theorem Q135.spec (N:Nat)(a b c d:Int)(e:List Int)(f g i:Int)(j:List Int)(r:Bool×List Int×Int×Int×Int×List Int)(h:Q135.f N a b c d e f g i j=some r):fA Tryz.prog 44 [.c (.int .i64 a),.agg [.c (.int .i64 b),.c (.int .i64 c),.c (.int .i64 d)],.ptr 0 0 1,.ptr 1 0 3,.ptr 2 0 1,.ptr 3 0 1] [.vals [.il .i64 4 e],.vals [.c (.int .i64 f),.c (.int .i64 g),.c (.int .i64 i)],.vals [.sw 4 1],.vals [.fn 44 [] [.ptr 0 0 1,.ptr 1 0 3,.ptr 2 0 1,.ptr 3 0 1]],.ints .i64 j] (.c (.bool r.1)) ([.vals [.il .i64 4 r.2.1],.vals [.c (.int .i64 r.2.2.1),.c (.int .i64 r.2.2.2.1),.c (.int .i64 r.2.2.2.2.1)],.vals [.sw 4 1],.vals [.fn 44 [] [.ptr 0 0 1,.ptr 1 0 3,.ptr 2 0 1,.ptr 3 0 1]],.ints .i64 r.2.2.2.2.2]):=Q135.gspec N N a b c d e f g i j r h
noncomputable def Q135.ent (N:Nat):xA:={A:=Bool×List Int×Int×Int×Int×List Int,fresh:=0,imm:=[true,true,false,false,false,false],dec:=fun args bs=>match xF (nA bs) [false,false,false,false,false,false] args,bs with
 | [.c (.int .i64 a),.agg [.c (.int .i64 b),.c (.int .i64 c),.c (.int .i64 d)],.ptr 0 0 1,.ptr 1 0 3,.ptr 2 0 1,.ptr 3 0 1],[.vals [.il .i64 4 e],.vals [.c (.int .i64 f),.c (.int .i64 g),.c (.int .i64 h)],.vals [.sw 4 1],.vals [.fn 44 [] [.ptr 0 0 1,.ptr 1 0 3,.ptr 2 0 1,.ptr 3 0 1]],.ints .i64 i]=>some (Q135.f N a b c d e f g h i,fun r=>.one (.c (.bool r.1)) [.vals [.il .i64 4 r.2.1],.vals [.c (.int .i64 r.2.2.1),.c (.int .i64 r.2.2.2.1),.c (.int .i64 r.2.2.2.2.1)],.vals [.sw 4 1],.vals [.fn 44 [] [.ptr 0 0 1,.ptr 1 0 3,.ptr 2 0 1,.ptr 3 0 1]],.ints .i64 r.2.2.2.2.2])
 |_,_=>none}
theorem Q135.ent_ok (N:Nat):uA Tryz.prog 44 (Q135.ent N):=by
 intro args bs a enc h;simp only[Q135.ent]at h;split at h
 ·rename_i hz;have h0:=Option.some.inj h;have h1:=congrArg Prod.fst h0;have h2:=congrArg Prod.snd h0;dsimp only at h1 h2;subst h2;exact fA.of_asSl (fl:=[false,false,false,false,false,false]) (by rw[hz];exact Q135.spec N _ _ _ _ _ _ _ _ _ a h1)
 ·cases h
noncomputable def Q136.f (N:Nat)(c d e:Int):Option (List Int×Int):=
 (Q133.f N c d e).bind fun b=>
 bif b.2.2.2.2 != 0 then
  some ([],b.2.2.2.2)
 else
 (Q47.f N c d e).bind fun g=>
 (Q131.f N g).bind fun a=>
 (Q47.f N c d e).bind fun h=>
 (Q83.f N h).bind fun f=>
 bif decide ((a.1.length/4:Int)=(a.1.length/4:Int))&&decide (0≤(a.1.length/4:Int))&&decide ((a.1.length/4:Int)≤9223372036854775807)&&fB ((a.1.length/4:Int).toNat) 8 then
  bif decide (b.2.2.2.1>0)then
   (Q135.f N 0 f.1 f.2.1 f.2.2.1 a.1 b.1 b.2.1 b.2.2.1 (List.replicate ((a.1.length/4:Int).toNat) (0:Int))).bind fun i=>
   some (i.2.2.2.2.2,0)
  else
  some (List.replicate ((a.1.length/4:Int).toNat) (0:Int),0)
 else none
noncomputable def Q136.E (N:Nat):bD:=bF [(2,eQ),(24,qy),(33,wH),(53,d7),(77,Gc)] [(33,Q133.ent N),(19,Q47.ent N),(28,Q131.ent N),(27,Q83.ent N),(44,Q135.ent N)] [] [] N [.tmp 2,.tmp 3] [.il .i64 1,.any] 0 44
noncomputable def Q136.dec (v:V)(bs:List rA):Option (List Int×Int):=match v,bs with
 | .tup [.il .i64 1 a,.c (.int .i64 b)],[]=>some (a,b)
 |_,_=>none
theorem Q136.f_eq (N:Nat)(a b c:Int):
  cB (Q136.E N) (bo Tryz.f25) [.agg [.c (.int .i64 a),.c (.int .i64 b),.c (.int .i64 c)]] [] Q136.dec=Q136.f N a b c:=by kernel_rfl
noncomputable def Q136.ent (N:Nat):xA:=wF (List Int×Int) 0 [true] [.recd [.any,.any,.any]] fun
 | [.agg [.c (.int .i64 a),.c (.int .i64 b),.c (.int .i64 c)]]=>some (Q136.f N a b c,fun r=>.one (.tup [.il .i64 1 r.1,.c (.int .i64 r.2)]) [])
 |_=>none
theorem Q136.env (N:Nat):aB Tryz.prog (Q136.E N):=⟨(.cons xC (.cons zP (.cons oC (.cons tI (.cons ux .nil))))),(.cons (Q133.ent_ok N) (.cons (Q47.ent_ok N) (.cons (Q131.ent_ok N) (.cons (Q83.ent_ok N) (.cons (Q135.ent_ok N) .nil)))))⟩
theorem Q136.spec (N:Nat)(a c d:Int)(r:List Int×Int)(h:Q136.f N a c d=some r):fA Tryz.prog 25 [.agg [.c (.int .i64 a),.c (.int .i64 c),.c (.int .i64 d)]] [] (.tup [.il .i64 1 r.1,.c (.int .i64 r.2)]) ([]):=vA (Q136.env N) bA Tryz.func25 dA.n ((Q136.f_eq ..).trans h) fun v b e=>by unfold Q136.dec at e;split at e<;>cases e;exact⟨rfl,rfl⟩
theorem Q136.ent_ok (N:Nat):uA Tryz.prog 25 (Q136.ent N):=yA fun v a e h=>by split at h;exact nC (Q:=fun e=>fA _ _ _ _ (e a).pick.1 (e a).pick.2) h fun k=>Q136.spec N _ _ _ a k;cases h
noncomputable def Ga:TI:=⟨.int .u16,1,2,[.int .u16 0]⟩
theorem uv:tC Tryz.prog 37 Ga:=aD (by kernel_rfl) (by kernel_rfl) (by kernel_rfl) (by kernel_rfl) (by kernel_rfl) (by kernel_rfl) (by kernel_rfl) (Tryz.underlying37) (by kernel_rfl)
noncomputable def Q138.l4 {R:Type}(N:Nat):Nat→Int→Int→Int→Int→Int→Int→Int→Int→Int→Int→(Int→Option R)→Option R
 |0,_,_,_,_,_,_,_,_,_,_,_=>none
 |n+1,i,j,k,l,b,c,d,e,f,g,h=>
  bif !((e==b)&&((f==c)&&(g==d)))then
   (Q96.f N e f g j k l).bind fun a=>
   Q138.l4 N n (aA (i+1)) j k l b c d a.1 a.2.1 a.2.2 h
  else
  h i
noncomputable def Q138.f (N:Nat)(a b c:Int):Option (Int):=
 (Q69.f N a b c).bind fun f=>
 (Q89.f N f).bind fun d=>
 Q138.l4 N N 1 a b c d.1 d.2.1 d.2.2.1 a b c
  (fun e=>
   some e)
noncomputable def Q139.l36 {R:Type}(N:Nat):Nat→Int→List Int→List Int→(List Int→Option R)→Option R
 |0,_,_,_,_=>none
 |n+1,a,b,c,d=>
  bif decide (a≥0)then
   bif (decide (0≤a))&&(decide (a<(b.length:Int)))then
    bif fB (c.length+1) 8 then
     Q139.l36 N n (aA (a-1)) b (c++[b.getD a.toNat 0]) d
    else none
   else none
  else
  d c
noncomputable def Q140.f (N:Nat)(c d e:Int):Option (Int×Int×Int×Int):=
 (Q99.f N c d e).bind fun a=>
 bif a.2.2.2 != 0 then
  some (a.1,a.2.1,a.2.2.1,a.2.2.2)
 else
 (Q69.f N c d e).bind fun f=>
 bif decide (f<(-65536))then
  some (0,0,0,80)
 else
 (Q99.f N a.1 a.2.1 a.2.2.1).bind fun b=>
 some (b.1,b.2.1,b.2.2.1,0)
noncomputable def Q141.f (N:Nat)(b c d:Int):Option (Int×Int):=
 (Q140.f N b c d).bind fun a=>
 bif a.2.2.2 != 0 then
  some (0,a.2.2.2)
 else
 (Q138.f N a.1 a.2.1 a.2.2.1).bind fun e=>
 some (e,0)
noncomputable def Q144.f (N:Nat)(a:Int):Option (Int):=
 bif (Int.tmod (aA ((aA (0- (aA (Int.tmod a 20000))))-3)) 4)==(-1)then
  some (aA ((aA ((aA (0- (aA (Int.tmod a 20000))))-3))-2))
 else
 bif (Int.tmod (aA ((aA (0- (aA (Int.tmod a 20000))))-3)) 4)==(-2)then
  some (aA ((aA ((aA (0- (aA (Int.tmod a 20000))))-3))-2))
 else
 some (aA ((aA (0- (aA (Int.tmod a 20000))))-3))
noncomputable def Q144.E (N:Nat):bD:=bF [(2,eQ),(37,Ga)] [] [] [] N [.tmp 2] [.any] 0 20
noncomputable def Q144.dec (v:V)(bs:List rA):Option (Int):=match v,bs with
 | .c (.int .i64 a),[]=>some a
 |_,_=>none
theorem Q144.f_eq (N:Nat)(a:Int):
  cB (Q144.E N) (bo Tryz.f16) [.c (.int .u16 a)] [] Q144.dec=Q144.f N a:=by kernel_rfl
noncomputable def Q144.ent (N:Nat):xA:=wF (Int) 0 [true] [.any] fun
 | [.c (.int .u16 a)]=>some (Q144.f N a,fun r=>.one (.c (.int .i64 r)) [])
 |_=>none
theorem Q144.env (N:Nat):aB Tryz.prog (Q144.E N):=⟨(.cons xC (.cons uv .nil)),.nil⟩
theorem Q144.spec (N:Nat)(a r:Int)(h:Q144.f N a=some r):fA Tryz.prog 16 [.c (.int .u16 a)] [] (.c (.int .i64 r)) ([]):=vA (Q144.env N) bA Tryz.func16 dA.n ((Q144.f_eq ..).trans h) fun v b e=>by unfold Q144.dec at e;split at e<;>cases e;exact⟨rfl,rfl⟩
theorem Q144.ent_ok (N:Nat):uA Tryz.prog 16 (Q144.ent N):=yA fun v a e h=>by split at h;exact nC (Q:=fun e=>fA _ _ _ _ (e a).pick.1 (e a).pick.2) h fun k=>Q144.spec N _ a k;cases h
noncomputable def Q145.l3 {R:Type}(N:Nat):Nat→List Int→List Int→Int→Int→Int→Int→Int→Int→Int→(Int→Int→Int→Int→Int→Int→Option R)→Option R
 |0,_,_,_,_,_,_,_,_,_,_=>none
 |n+1,h,i,a,k,l,d,e,f,g,j=>
  bif decide (a<(h.length/3:Int))then
   bif decide (a<(i.length:Int))then
    bif (decide (0≤a))&&(decide (a<(h.length/3:Int)))then
     bif (decide (0≤a))&&(decide (a<(i.length:Int)))then
      (Q88.f N (h.getD (a.toNat*3) 0) (h.getD ((a.toNat*3)+1) 0) (h.getD ((a.toNat*3)+2) 0) (i.getD a.toNat 0)).bind fun b=>
      (Q86.f N e f g b.1 b.2.1 b.2.2.1).bind fun c=>
      Q145.l3 N n h i (aA (a+1)) k l d c.1 c.2.1 c.2.2.1 j
     else none
    else none
   else
   j k l d e f g
  else
  j k l d e f g
noncomputable def Q145.f (N:Nat)(e:Int)(f g:List Int):Option (Int×Int×Int):=
 (Q83.f N e).bind fun a=>
 Q145.l3 N N f g 0 0 0 0 a.1 a.2.1 a.2.2.1
  (fun h i j b c d=>
   some (b,c,d))
noncomputable def Q145.h3:eD:=⟨[(1,.il .i64 3),(2,.il .i64 1),(6,.box [.any,.any,.any]),(7,.box [.any,.any,.any]),(9,.any)],[(6,.box [.any,.any,.any]),(7,.box [.any,.any,.any])]⟩
noncomputable def Q145.c3 (N:Nat):xH:=⟨fun vs H k=>match vs,H with
 | [.il .i64 3 l,.il .i64 1 m,.ptr 0 0 3,.ptr 1 0 3,.c (.int .i64 o)],[.vals [.c (.int .i64 p),.c (.int .i64 q),.c (.int .i64 a)],.vals [.c (.int .i64 b),.c (.int .i64 c),.c (.int .i64 d)]]=>Q145.l3 N N l m o p q a b c d (fun e f g h i j=>k (.exit 0) ⟨dD Q145.h3.out [.ptr 0 0 3,.ptr 1 0 3],[.vals [.c (.int .i64 e),.c (.int .i64 f),.c (.int .i64 g)],.vals [.c (.int .i64 h),.c (.int .i64 i),.c (.int .i64 j)]]⟩)
 |_,_=>none⟩
noncomputable def Q145.E (N:Nat):bD:=bF [(2,eQ),(23,gj),(24,qy),(33,wH)] [(27,Q83.ent N),(26,Q88.ent N),(24,Q86.ent N)] [(3,Q145.h3)] [(3,Q145.c3 N)] N [.cell 6 33] [.recd [.any,.any,.any]] 0 48
noncomputable def Q145.b3:Code:=sA ((eA (bo Tryz.f20)).getD 0 .skip)
theorem Q145.l3_eq {R:Type}(N n:Nat)(l m:List Int)(o p q a b c d:Int)(k:Ex→St→Option R):
  jB 0 Q145.h3 (fun s k=>bB (Q145.E N) 394 Q145.b3 s k) n [.il .i64 3 l,.il .i64 1 m,.ptr 0 0 3,.ptr 1 0 3,.c (.int .i64 o)] [.vals [.c (.int .i64 p),.c (.int .i64 q),.c (.int .i64 a)],.vals [.c (.int .i64 b),.c (.int .i64 c),.c (.int .i64 d)]] k=Q145.l3 N n l m o p q a b c d (fun e f g h i j=>k (.exit 0) ⟨dD Q145.h3.out [.ptr 0 0 3,.ptr 1 0 3],[.vals [.c (.int .i64 e),.c (.int .i64 f),.c (.int .i64 g)],.vals [.c (.int .i64 h),.c (.int .i64 i),.c (.int .i64 j)]]⟩):=by
 induction n generalizing l m o p q a b c d with
 |zero=>kernel_rfl
 |succ n ih=>
  simp only[Q145.l3,←ih]
  kernel_rfl
noncomputable def Q145.dec (v:V)(bs:List rA):Option (Int×Int×Int):=match v,bs with
 | .agg [.c (.int .i64 a),.c (.int .i64 b),.c (.int .i64 c)],[]=>some (a,b,c)
 |_,_=>none
theorem Q145.f_eq (N:Nat)(a:Int)(b c:List Int):
  cB (Q145.E N) (bo Tryz.f20) [.c (.int .i64 a),.il .i64 3 b,.il .i64 1 c] [] Q145.dec=Q145.f N a b c:=by kernel_rfl
noncomputable def Q145.ent (N:Nat):xA:=wF (Int×Int×Int) 0 [true,true,true] [.any,.il .i64 3,.il .i64 1] fun
 | [.c (.int .i64 a),.il .i64 3 b,.il .i64 1 c]=>some (Q145.f N a b c,fun r=>.one (.agg [.c (.int .i64 r.1),.c (.int .i64 r.2.1),.c (.int .i64 r.2.2)]) [])
 |_=>none
theorem Q145.env (N:Nat):aB Tryz.prog (Q145.E N):=⟨(.cons xC (.cons oL (.cons zP (.cons oC .nil)))),(.cons (Q83.ent_ok N) (.cons (Q88.ent_ok N) (.cons (Q86.ent_ok N) .nil)))⟩
theorem Q145.k3 (N:Nat):xB Tryz.prog Tryz.f20 (Q145.E N) (.loop Q145.b3):=gD (Q145.env N) bA 394 (c:=Q145.c3 N) dA.n fun R vs H k r h=>by unfold Q145.c3 at h;dsimp only at h;split at h;exact⟨_,Q145.l3_eq .. ▸h⟩;cases h
theorem Q145.spec (N:Nat)(a:Int)(c d:List Int)(r:Int×Int×Int)(h:Q145.f N a c d=some r):fA Tryz.prog 20 [.c (.int .i64 a),.il .i64 3 c,.il .i64 1 d] [] (.agg [.c (.int .i64 r.1),.c (.int .i64 r.2.1),.c (.int .i64 r.2.2)]) ([]):=vA (Q145.env N) bA Tryz.func20 (dA.of (l:=[(.loop (sA ((eA (bo Tryz.f20)).getD 0 .skip)))]) (by kernel_rfl) (dA.cons (Q145.k3 N) dA.nil)) ((Q145.f_eq ..).trans h) fun v b e=>by unfold Q145.dec at e;split at e<;>cases e;exact⟨rfl,rfl⟩
theorem Q145.ent_ok (N:Nat):uA Tryz.prog 20 (Q145.ent N):=yA fun v a e h=>by split at h;exact nC (Q:=fun e=>fA _ _ _ _ (e a).pick.1 (e a).pick.2) h fun k=>Q145.spec N _ _ _ a k;cases h
noncomputable def Q146.f (N:Nat):Option (Bool):=
 (Q132.f N (-23)).bind fun a=>
 (Q134.f N 2 1 3).bind fun b=>
 bif a.2.2==0 then
  bif (a.1.length/3:Int)==1 then
   bif (a.2.1.length:Int)==1 then
    bif decide (0<(a.2.1.length:Int))then
     bif (a.2.1.getD 0 0)==3 then
      bif decide (0<(a.1.length/3:Int))then
       bif (a.1.getD 0 0)==2 then
        bif b.1==3 then
         some (b.2==0)
        else
        some false
       else
       some false
      else none
     else
     some false
    else none
   else
   some false
  else
  some false
 else
 some false
noncomputable def Q146.E (N:Nat):bD:=bF [(2,eQ),(23,gj),(24,qy),(33,wH)] [(11,Q132.ent N),(14,Q134.ent N)] [] [] N [.tmp 0] [.any] 0 49
noncomputable def Q146.dec (v:V)(bs:List rA):Option (Bool):=match v,bs with
 | .c (.bool a),[]=>some a
 |_,_=>none
theorem Q146.f_eq (N:Nat):
  cB (Q146.E N) (bo Tryz.f10) [] [] Q146.dec=Q146.f N:=by kernel_rfl
noncomputable def Q146.ent (N:Nat):xA:=wF (Bool) 0 [] [] fun
 | []=>some (Q146.f N,fun r=>.one (.c (.bool r)) [])
 |_=>none
theorem Q146.env (N:Nat):aB Tryz.prog (Q146.E N):=⟨(.cons xC (.cons oL (.cons zP (.cons oC .nil)))),(.cons (Q132.ent_ok N) (.cons (Q134.ent_ok N) .nil))⟩
theorem Q146.spec (N:Nat)(r:Bool)(h:Q146.f N=some r):fA Tryz.prog 10 [] [] (.c (.bool r)) ([]):=vA (Q146.env N) bA Tryz.func10 dA.n ((Q146.f_eq ..).trans h) fun v b e=>by unfold Q146.dec at e;split at e<;>cases e;exact⟨rfl,rfl⟩
theorem Q146.ent_ok (N:Nat):uA Tryz.prog 10 (Q146.ent N):=yA fun v a e h=>by split at h;exact nC (Q:=fun e=>fA _ _ _ _ (e a).pick.1 (e a).pick.2) h fun k=>Q146.spec N a k;cases h
noncomputable def Q150.l8 {R:Type}(N:Nat):Nat→Int→List Int→List Int→Int→Int→Int→(Int→List Int→List Int→Int→Int→Option R)→(Bool→Option R)→Option R
 |0,_,_,_,_,_,_,_,_=>none
 |n+1,e,b,c,k,l,a,f,kr=>
  bif decide (a<(c.length:Int))then
   bif (decide (0≤a))&&(decide (a<(b.length/3:Int)))then
    (Q134.f N (b.getD (a.toNat*3) 0) (b.getD ((a.toNat*3)+1) 0) (b.getD ((a.toNat*3)+2) 0)).bind fun d=>
    bif (decide (0≤a))&&(decide (a<(c.length:Int)))then
     bif decide ((c.getD a.toNat 0)<2)then
      kr false
     else
     bif decide (a>0)then
      bif (decide (0≤a))&&(decide (a<(c.length:Int)))then
       bif (decide (0≤(aA (a-1))))&&(decide ((aA (a-1))<(c.length:Int)))then
        bif !((c.getD ((aA (a-1)).toNat) 0)==0)then
         bif (Int.tmod (c.getD a.toNat 0) (c.getD ((aA (a-1)).toNat) 0)) != 0 then
          kr false
         else
         bif d.2 != 0 then
          kr false
         else
         bif (decide (0≤a))&&(decide (a<(c.length:Int)))then
          bif d.1 != (c.getD a.toNat 0)then
           kr false
          else
          bif (decide (0≤a))&&(decide (a<(b.length/3:Int)))then
           (Q100.f N (b.getD (a.toNat*3) 0) (b.getD ((a.toNat*3)+1) 0) (b.getD ((a.toNat*3)+2) 0)).bind fun g=>
           bif !g then
            kr false
           else
           bif (decide (0≤a))&&(decide (a<(b.length/3:Int)))then
            (Q47.f N (b.getD (a.toNat*3) 0) (b.getD ((a.toNat*3)+1) 0) (b.getD ((a.toNat*3)+2) 0)).bind fun h=>
            bif h != e then
             kr false
            else
            bif (decide (0≤a))&&(decide (a<(c.length:Int)))then
             Q150.l8 N n e b c k (aA (l*(c.getD a.toNat 0))) (aA (a+1)) f kr
            else none
           else none
          else none
         else none
        else none
       else none
      else none
     else
     bif d.2 != 0 then
      kr false
     else
     bif (decide (0≤a))&&(decide (a<(c.length:Int)))then
      bif d.1 != (c.getD a.toNat 0)then
       kr false
      else
      bif (decide (0≤a))&&(decide (a<(b.length/3:Int)))then
       (Q100.f N (b.getD (a.toNat*3) 0) (b.getD ((a.toNat*3)+1) 0) (b.getD ((a.toNat*3)+2) 0)).bind fun i=>
       bif !i then
        kr false
       else
       bif (decide (0≤a))&&(decide (a<(b.length/3:Int)))then
        (Q47.f N (b.getD (a.toNat*3) 0) (b.getD ((a.toNat*3)+1) 0) (b.getD ((a.toNat*3)+2) 0)).bind fun j=>
        bif j != e then
         kr false
        else
        bif (decide (0≤a))&&(decide (a<(c.length:Int)))then
         Q150.l8 N n e b c k (aA (l*(c.getD a.toNat 0))) (aA (a+1)) f kr
        else none
       else none
      else none
     else none
    else none
   else none
  else
  f e b c k l
noncomputable def Q150.l23 {R:Type}(N:Nat):Nat→Int→List Int→List Int→Int→Int→Int→Int→List (List Int)→List Int→List Int→(Int→List Int→List Int→Int→Int→List (List Int)→List Int→List Int→Option R)→Option R
 |0,_,_,_,_,_,_,_,_,_,_,_=>none
 |n+1,d,e,b,f,g,h,a,i,j,c,k=>
  bif decide (a<(b.length:Int))then
   bif (decide (0≤a))&&(decide (a<(b.length:Int)))then
    bif !((b.getD a.toNat 0)==0)then
     bif (decide (0≤a))&&(decide (a<(c.length:Int)))then
      bif (decide (0≤a))&&(decide (a<(b.length:Int)))then
       bif !((b.getD a.toNat 0)==0)then
        Q150.l23 N n d e b f g (aA (Int.tdiv h (b.getD a.toNat 0))) (aA (a+1)) i j (c.set a.toNat (Int.tmod h (b.getD a.toNat 0))) k
       else none
      else none
     else none
    else none
   else none
  else
  k d e b f g i j c
noncomputable def Q150.l19 {R:Type}(N:Nat):Nat→Int→List Int→List Int→Int→Int→List (List Int)→List Int→List Int→(Unit→Option R)→(Bool→Option R)→Option R
 |0,_,_,_,_,_,_,_,_,_,_=>none
 |n+1,j,k,l,e,d,m,o,p,t,kr=>
  bif decide (d<e)then
   Q150.l23 N N j k l e d d 0 m o p
    (fun f g q r s b c h=>
     (Q145.f N f g h).bind fun a=>
     bif (decide (0≤(eE [a.1,a.2.1,a.2.2] b)))&&(decide ((eE [a.1,a.2.1,a.2.2] b)<((vB [a.1,a.2.1,a.2.2] b).length:Int)))then
      bif decide ((rE [a.1,a.2.1,a.2.2] (vB [a.1,a.2.1,a.2.2] b) ((eG [a.1,a.2.1,a.2.2] (rE [a.1,a.2.1,a.2.2] b c) b (List.take (List.length b) c)).set ((eE [a.1,a.2.1,a.2.2] b).toNat) (aA ((rE [a.1,a.2.1,a.2.2] b c)+1))))>1)then
       kr false
      else
      (Q100.f N a.1 a.2.1 a.2.2).bind fun i=>
      bif !i then
       kr false
      else
      Q150.l19 N n f g q r (aA (s+1)) (vB [a.1,a.2.1,a.2.2] b) ((eG [a.1,a.2.1,a.2.2] (rE [a.1,a.2.1,a.2.2] b c) b (List.take (List.length b) c)).set ((eE [a.1,a.2.1,a.2.2] b).toNat) (aA ((rE [a.1,a.2.1,a.2.2] b c)+1))) h t kr
     else none)
  else
  t ()
noncomputable def Q150.f (N:Nat)(l:Int):Option (Bool):=
 (Q144.f N l).bind fun d=>
 (Q132.f N d).bind fun b=>
 (Q115.f N d).bind fun k=>
 bif b.2.2 != 0 then
  some false
 else
 bif k.2 != 0 then
  some false
 else
 bif (b.1.length/3:Int) != (b.2.1.length:Int)then
  some false
 else
 Q150.l8 N N d b.1 b.2.1 k.1 1 0
  (fun f g a h c=>
   bif c != h then
    some false
   else
   bif decide ((a.length:Int)=(a.length:Int))&&decide (0≤(a.length:Int))&&decide ((a.length:Int)≤9223372036854775807)&&fB ((a.length:Int).toNat) 8 then
    Q150.l19 N N f g a c 0 [] [] (List.replicate ((a.length:Int).toNat) (0:Int))
     (fun(_:Unit)=>
      (Q146.f N).bind fun e=>
      some e)
     (fun i=>
      some i)
   else none)
  (fun j=>
   some j)
noncomputable def Q151.l15 {R:Type}(N:Nat):Nat→Int→List Int→List Int→List Int→List Int→Int→Int→Int→Int→(Int→List Int→Int→Int→Int→Option R)→(Bool→Option R)→Option R
 |0,_,_,_,_,_,_,_,_,_,_,_=>none
 |n+1,f,b,c,d,e,a,g,h,i,j,kr=>
  bif decide (a<(b.length:Int))then
   bif (decide (0≤a))&&(decide (a<(c.length:Int)))then
    bif decide ((c.getD a.toNat 0)<0)then
     kr false
    else
    bif (decide (0≤a))&&(decide (a<(c.length:Int)))then
     bif (decide (0≤a))&&(decide (a<(b.length:Int)))then
      bif decide ((c.getD a.toNat 0)≥(b.getD a.toNat 0))then
       kr false
      else
      bif (decide (0≤a))&&(decide (a<(c.length:Int)))then
       bif (decide (0≤a))&&(decide (a<(d.length:Int)))then
        bif (decide (0≤a))&&(decide (a<(b.length:Int)))then
         bif !((b.getD a.toNat 0)==0)then
          bif (decide (0≤a))&&(decide (a<(e.length:Int)))then
           bif (Int.tmod (aA ((c.getD a.toNat 0)+(d.getD a.toNat 0))) (b.getD a.toNat 0)) != (e.getD a.toNat 0)then
            kr false
           else
           Q151.l15 N n f b c d e (aA (a+1)) g h i j kr
          else none
         else none
        else none
       else none
      else none
     else none
    else none
   else none
  else
  j f b g h i
noncomputable def Q151.f (N:Nat)(x d e:Int):Option (Bool):=
 (Q144.f N x).bind fun o=>
 (Q114.f N o).bind fun a=>
 (Q132.f N o).bind fun j=>
 bif a.2 != 0 then
  some false
 else
 bif j.2.2 != 0 then
  some false
 else
 bif (a.1.length/3:Int)==0 then
  some false
 else
 bif !((a.1.length/3:Int)==0)then
  bif (decide (0≤(Int.tmod (aA d) (a.1.length/3:Int))))&&(decide ((Int.tmod (aA d) (a.1.length/3:Int))<(a.1.length/3:Int)))then
   bif !((a.1.length/3:Int)==0)then
    bif (decide (0≤(Int.tmod (aA e) (a.1.length/3:Int))))&&(decide ((Int.tmod (aA e) (a.1.length/3:Int))<(a.1.length/3:Int)))then
     (Q86.f N (a.1.getD (((Int.tmod (aA d) (a.1.length/3:Int)).toNat)*3) 0) (a.1.getD ((((Int.tmod (aA d) (a.1.length/3:Int)).toNat)*3)+1) 0) (a.1.getD ((((Int.tmod (aA d) (a.1.length/3:Int)).toNat)*3)+2) 0) (a.1.getD (((Int.tmod (aA e) (a.1.length/3:Int)).toNat)*3) 0) (a.1.getD ((((Int.tmod (aA e) (a.1.length/3:Int)).toNat)*3)+1) 0) (a.1.getD ((((Int.tmod (aA e) (a.1.length/3:Int)).toNat)*3)+2) 0)).bind fun t=>
     (Q136.f N (a.1.getD (((Int.tmod (aA d) (a.1.length/3:Int)).toNat)*3) 0) (a.1.getD ((((Int.tmod (aA d) (a.1.length/3:Int)).toNat)*3)+1) 0) (a.1.getD ((((Int.tmod (aA d) (a.1.length/3:Int)).toNat)*3)+2) 0)).bind fun p=>
     (Q136.f N (a.1.getD (((Int.tmod (aA e) (a.1.length/3:Int)).toNat)*3) 0) (a.1.getD ((((Int.tmod (aA e) (a.1.length/3:Int)).toNat)*3)+1) 0) (a.1.getD ((((Int.tmod (aA e) (a.1.length/3:Int)).toNat)*3)+2) 0)).bind fun u=>
     (Q136.f N t.1 t.2.1 t.2.2.1).bind fun f=>
     bif p.2 != 0 then
      some false
     else
     bif u.2 != 0 then
      some false
     else
     bif f.2 != 0 then
      some false
     else
     bif (p.1.length:Int) != (j.2.1.length:Int)then
      some false
     else
     bif (u.1.length:Int) != (j.2.1.length:Int)then
      some false
     else
     bif (f.1.length:Int) != (j.2.1.length:Int)then
      some false
     else
     (Q145.f N o j.1 p.1).bind fun g=>
     bif !((g.1==(a.1.getD (((Int.tmod (aA d) (a.1.length/3:Int)).toNat)*3) 0))&&((g.2.1==(a.1.getD ((((Int.tmod (aA d) (a.1.length/3:Int)).toNat)*3)+1) 0))&&(g.2.2==(a.1.getD ((((Int.tmod (aA d) (a.1.length/3:Int)).toNat)*3)+2) 0))))then
      some false
     else
     Q151.l15 N N o j.2.1 p.1 u.1 f.1 0 (a.1.getD (((Int.tmod (aA d) (a.1.length/3:Int)).toNat)*3) 0) (a.1.getD ((((Int.tmod (aA d) (a.1.length/3:Int)).toNat)*3)+1) 0) (a.1.getD ((((Int.tmod (aA d) (a.1.length/3:Int)).toNat)*3)+2) 0)
      (fun v b k l m=>
       (Q134.f N k l m).bind fun c=>
       (Q88.f N k l m c.1).bind fun h=>
       (Q83.f N v).bind fun i=>
       bif c.2==0 then
        bif (h.1==i.1)&&((h.2.1==i.2.1)&&(h.2.2.1==i.2.2.1))then
         bif (b.length:Int)==0 then
          bif c.1==1 then
           (Q146.f N).bind fun q=>
           some q
          else
          bif decide ((b.length:Int)>0)then
           bif (decide (0≤(aA ((b.length:Int)-1))))&&(decide ((aA ((b.length:Int)-1))<(b.length:Int)))then
            bif !(c.1==0)then
             bif (Int.tmod (b.getD ((aA ((b.length:Int)-1)).toNat) 0) c.1)==0 then
              (Q146.f N).bind fun r=>
              some r
             else
             some false
            else none
           else none
          else
          some false
         else
         bif decide ((b.length:Int)>0)then
          bif (decide (0≤(aA ((b.length:Int)-1))))&&(decide ((aA ((b.length:Int)-1))<(b.length:Int)))then
           bif !(c.1==0)then
            bif (Int.tmod (b.getD ((aA ((b.length:Int)-1)).toNat) 0) c.1)==0 then
             (Q146.f N).bind fun s=>
             some s
            else
            some false
           else none
          else none
         else
         some false
        else
        some false
       else
       some false)
      (fun w=>
       some w)
    else none
   else none
  else none
 else none
noncomputable def Q151.h15:eD:=⟨[(7,.any),(11,.il .i64 1),(13,.box [.any,.any,.any]),(17,.il .i64 1),(18,.il .i64 1),(19,.il .i64 1),(21,.any)],[(7,.any),(11,.il .i64 1),(13,.box [.any,.any,.any])]⟩
noncomputable def Q151.c15 (N:Nat):xH:=⟨fun vs H k=>match vs,H with
 | [.c (.int .i64 a),.il .i64 1 b,.ptr 0 0 3,.il .i64 1 c,.il .i64 1 d,.il .i64 1 e,.c (.int .i64 f)],[.vals [.c (.int .i64 g),.c (.int .i64 h),.c (.int .i64 i)]]=>Q151.l15 N N a b c d e f g h i (fun l m o p q=>k (.exit 0) ⟨dD Q151.h15.out [.c (.int .i64 l),.il .i64 1 m,.ptr 0 0 3],[.vals [.c (.int .i64 o),.c (.int .i64 p),.c (.int .i64 q)]]⟩) (fun j=>k (.ret (.c (.bool j)) []) .nil)
 |_,_=>none⟩
noncomputable def Q151.E (N:Nat):bD:=bF [(2,eQ),(3,Cn),(23,gj),(24,qy),(33,wH),(37,Ga)] [(16,Q144.ent N),(23,Q114.ent N),(11,Q132.ent N),(24,Q86.ent N),(25,Q136.ent N),(20,Q145.ent N),(14,Q134.ent N),(26,Q88.ent N),(27,Q83.ent N),(10,Q146.ent N)] [(15,Q151.h15)] [(15,Q151.c15 N)] N [.tmp 6] [.any] 0 221
noncomputable def Q151.b15:Code:=sA ((eA (bo Tryz.f8)).getD 0 .skip)
theorem Q151.l15_eq {R:Type}(N n:Nat)(a:Int)(b c d e:List Int)(f g h i:Int)(k:Ex→St→Option R):
  jB 0 Q151.h15 (fun s k=>bB (Q151.E N) 384 Q151.b15 s k) n [.c (.int .i64 a),.il .i64 1 b,.ptr 0 0 3,.il .i64 1 c,.il .i64 1 d,.il .i64 1 e,.c (.int .i64 f)] [.vals [.c (.int .i64 g),.c (.int .i64 h),.c (.int .i64 i)]] k=Q151.l15 N n a b c d e f g h i (fun l m o p q=>k (.exit 0) ⟨dD Q151.h15.out [.c (.int .i64 l),.il .i64 1 m,.ptr 0 0 3],[.vals [.c (.int .i64 o),.c (.int .i64 p),.c (.int .i64 q)]]⟩) (fun j=>k (.ret (.c (.bool j)) []) .nil):=by
 induction n generalizing a b c d e f g h i with
 |zero=>kernel_rfl
 |succ n ih=>
  simp only[Q151.l15,←ih]
  kernel_rfl
noncomputable def Q151.dec (v:V)(bs:List rA):Option (Bool):=match v,bs with
 | .c (.bool a),[]=>some a
 |_,_=>none
theorem Q151.f_eq (N:Nat)(a b c:Int):
  cB (Q151.E N) (bo Tryz.f8) [.c (.int .u16 a),.c (.int .u16 b),.c (.int .u16 c)] [] Q151.dec=Q151.f N a b c:=by kernel_rfl
theorem Q151.env (N:Nat):aB Tryz.prog (Q151.E N):=⟨(.cons xC (.cons yL (.cons oL (.cons zP (.cons oC (.cons uv .nil)))))),(.cons (Q144.ent_ok N) (.cons (Q114.ent_ok N) (.cons (Q132.ent_ok N) (.cons (Q86.ent_ok N) (.cons (Q136.ent_ok N) (.cons (Q145.ent_ok N) (.cons (Q134.ent_ok N) (.cons (Q88.ent_ok N) (.cons (Q83.ent_ok N) (.cons (Q146.ent_ok N) .nil))))))))))⟩
theorem Q151.k15 (N:Nat):xB Tryz.prog Tryz.f8 (Q151.E N) (.loop Q151.b15):=gD (Q151.env N) bA 384 (c:=Q151.c15 N) dA.n fun R vs H k r h=>by unfold Q151.c15 at h;dsimp only at h;split at h;exact⟨_,Q151.l15_eq .. ▸h⟩;cases h
theorem Q151.spec (N:Nat)(a c d:Int)(r:Bool)(h:Q151.f N a c d=some r):fA Tryz.prog 8 [.c (.int .u16 a),.c (.int .u16 c),.c (.int .u16 d)] [] (.c (.bool r)) ([]):=vA (Q151.env N) bA Tryz.func8 (dA.of (l:=[(.loop (sA ((eA (bo Tryz.f8)).getD 0 .skip)))]) (by kernel_rfl) (dA.cons (Q151.k15 N) dA.nil)) ((Q151.f_eq ..).trans h) fun v b e=>by unfold Q151.dec at e;split at e<;>cases e;exact⟨rfl,rfl⟩
end Go.Proofs.YtjpdjdhdchjcgaaGreat
