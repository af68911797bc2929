import Derived.Test.YtjpdjdhdchjcgaaGreatA2
import Derived.Test.YtjpdjdhdchjcgaaGreatProg
import Derived.KernelRfl
import Derived.Shelf.SlSortCmp.NoneTotal
import Derived.Shelf.SlGeneric
open Array renaming getElem?_append_left→hA,eq_empty_of_size_eq_zero→iA,getElem?_modify→hC
open Bool renaming not_eq_false'→zA
open List renaming pairwise_cons→hB,length_cons→iB,getElem?_cons_succ→zB
open Nat renaming le_of_ble_eq_true→cD
set_option linter.unusedVariables false
set_option linter.unusedSimpArgs false
namespace Go.Proofs.YtjpdjdhdchjcgaaGreat
open Go.Proofs.YtjpdjdhdchjcgaaGreat.Ev
open Go
set_option maxRecDepth 100000
noncomputable def iW:TI:=⟨.slice 33,1,24,[.slice none 0 0]⟩
noncomputable def Gf:TI:=⟨.map 33 2,1,8,[.map none]⟩
noncomputable def Er:TI:=⟨.slice 3,1,24,[.slice none 0 0]⟩
theorem fI:zC Tryz.prog 23 iW:=gD (by kernel_rfl) (by kernel_rfl) (by kernel_rfl) (by kernel_rfl) (by kernel_rfl) (by kernel_rfl) (by kernel_rfl) (Tryz.underlying23) (by kernel_rfl)
theorem js:zC Tryz.prog 85 Gf:=gD (by kernel_rfl) (by kernel_rfl) (by kernel_rfl) (by kernel_rfl) (by kernel_rfl) (by kernel_rfl) (by kernel_rfl) (Eo Tryz.underlying85 (by kernel_rfl)) (by kernel_rfl)
theorem qc:zC Tryz.prog 108 Er:=gD (by kernel_rfl) (by kernel_rfl) (by kernel_rfl) (by kernel_rfl) (by kernel_rfl) (by kernel_rfl) (by kernel_rfl) (Tryz.underlying108) (by kernel_rfl)
noncomputable def Q100.f (N:Nat)(a b c:Int):Option (Bool):=
 (Q48.f N a b c).bind fun d=>
 bif d==0 then
  (Q49.f N a b c 0 0 0 0).bind fun e=>
  some (!e.1)
 else
 some false
noncomputable def Q101.f (N:Nat)(a:Int):Option (Bool):=
 some (a != a)
noncomputable def Q101.E (N:Nat):jC:=iD [] [] [] [] N [.tmp 2] [.any] 0 6
noncomputable def Q101.dec (v:V)(bs:List rA):Option (Bool):=match v,bs with
 | .c (.bool a),[]=>some a
 |_,_=>none
theorem Q101.f_eq (N:Nat)(a:Int):
  aB (Q101.E N) (bo Tryz.f82) [.c (.int .i64 a)] [] Q101.dec=Q101.f N a:=by kernel_rfl
noncomputable def Q101.ent (N:Nat):uA:=tD (Bool) 0 [true] [.any] fun
 | [.c (.int .i64 a)]=>some (Q101.f N a,fun r=>.one (.c (.bool r)) [])
 |_=>none
theorem Q101.env (N:Nat):yA Tryz.prog (Q101.E N):=⟨.nil,.nil⟩
theorem Q101.spec (N:Nat)(a:Int)(r:Bool)(h:Q101.f N a=some r):eA Tryz.prog 82 [.c (.int .i64 a)] [] (.c (.bool r)) ([]):=pA (Q101.env N) bA Tryz.func82 cA.n ((Q101.f_eq ..).trans h) fun v b e=>by unfold Q101.dec at e;split at e<;>cases e;exact⟨rfl,rfl⟩
theorem Q101.ent_ok (N:Nat):oA Tryz.prog 82 (Q101.ent N):=sA fun v a e h=>by split at h;exact nB (Q:=fun e=>eA _ _ _ _ (e a).pick.1 (e a).pick.2) h fun k=>Q101.spec N _ a k;cases h
noncomputable def Q102.f (N:Nat)(a b:Int):Option (Int):=
 (Q101.f N a).bind fun d=>
 (Q101.f N b).bind fun c=>
 bif d then
  bif c then
   some 0
  else
  some (-1)
 else
 bif c then
  some 1
 else
 bif decide (a<b)then
  some (-1)
 else
 bif decide (a>b)then
  some 1
 else
 some 0
noncomputable def Q102.E (N:Nat):jC:=iD [] [(82,Q101.ent N)] [] [] N [.tmp 4] [.any] 0 20
noncomputable def Q102.dec (v:V)(bs:List rA):Option (Int):=match v,bs with
 | .c (.int .i64 a),[]=>some a
 |_,_=>none
theorem Q102.f_eq (N:Nat)(a b:Int):
  aB (Q102.E N) (bo Tryz.f61) [.c (.int .i64 a),.c (.int .i64 b)] [] Q102.dec=Q102.f N a b:=by kernel_rfl
noncomputable def Q102.ent (N:Nat):uA:=tD (Int) 0 [true,true] [.any,.any] fun
 | [.c (.int .i64 a),.c (.int .i64 b)]=>some (Q102.f N a b,fun r=>.one (.c (.int .i64 r)) [])
 |_=>none
theorem Q102.env (N:Nat):yA Tryz.prog (Q102.E N):=⟨.nil,(.cons (Q101.ent_ok N) .nil)⟩
theorem Q102.spec (N:Nat)(a c r:Int)(h:Q102.f N a c=some r):eA Tryz.prog 61 [.c (.int .i64 a),.c (.int .i64 c)] [] (.c (.int .i64 r)) ([]):=pA (Q102.env N) bA Tryz.func61 cA.n ((Q102.f_eq ..).trans h) fun v b e=>by unfold Q102.dec at e;split at e<;>cases e;exact⟨rfl,rfl⟩
theorem Q102.ent_ok (N:Nat):oA Tryz.prog 61 (Q102.ent N):=sA fun v a e h=>by split at h;exact nB (Q:=fun e=>eA _ _ _ _ (e a).pick.1 (e a).pick.2) h fun k=>Q102.spec N _ _ a k;cases h
noncomputable def Q103.l3 {R:Type}(N:Nat):Nat→Int→List Int→Int→Int→(Int→Option R)→(Int→Option R)→Option R
 |0,_,_,_,_,_,_=>none
 |n+1,c,b,e,a,d,kr=>
  bif decide (a<e)then
   bif (decide (0≤a))&&(decide (a<(b.length:Int)))then
    bif (b.getD a.toNat 0) != c then
     kr (b.getD a.toNat 0)
    else
    Q103.l3 N n c b e (aA (a+1)) d kr
   else none
  else
  d c
noncomputable def Q103.f (N:Nat)(a:List Int):Option (Int):=
 Q103.l3 N N 0 a (a.length:Int) 0
  (fun b=>
   some b)
  (fun c=>
   some c)
noncomputable def Q103.h3:cC:=⟨[(3,.any),(6,.il .i64 1),(7,.any),(8,.any)],[(3,.any)]⟩
noncomputable def Q103.c3 (N:Nat):nF:=⟨fun vs H k=>match vs,H with
 | [.c (.int .i64 a),.il .i64 1 b,.c (.int .i64 c),.c (.int .i64 d)],[]=>Q103.l3 N N a b c d (fun f=>k (.exit 0) ⟨fC Q103.h3.out [.c (.int .i64 f)],[]⟩) (fun e=>k (.ret (.c (.int .i64 e)) []) .nil)
 |_,_=>none⟩
noncomputable def Q103.E (N:Nat):jC:=iD [(3,F1),(108,Er)] [] [(3,Q103.h3)] [(3,Q103.c3 N)] N [.tmp 2] [.any] 0 18
noncomputable def Q103.b3:Code:=nA ((dA (bo Tryz.f60)).getD 0 .skip)
theorem Q103.l3_eq {R:Type}(N n:Nat)(a:Int)(b:List Int)(c d:Int)(k:Ex→St→Option R):
  dB 0 Q103.h3 (fun s k=>bB (Q103.E N) 394 Q103.b3 s k) n [.c (.int .i64 a),.il .i64 1 b,.c (.int .i64 c),.c (.int .i64 d)] [] k=Q103.l3 N n a b c d (fun f=>k (.exit 0) ⟨fC Q103.h3.out [.c (.int .i64 f)],[]⟩) (fun e=>k (.ret (.c (.int .i64 e)) []) .nil):=by
 induction n generalizing a b c d with
 |zero=>kernel_rfl
 |succ n ih=>
  simp only[Q103.l3,←ih]
  kernel_rfl
noncomputable def Q103.dec (v:V)(bs:List rA):Option (Int):=match v,bs with
 | .c (.int .i64 a),[]=>some a
 |_,_=>none
theorem Q103.f_eq (N:Nat)(a:List Int):
  aB (Q103.E N) (bo Tryz.f60) [.il .i64 1 a] [] Q103.dec=Q103.f N a:=by kernel_rfl
noncomputable def Q103.ent (N:Nat):uA:=tD (Int) 0 [true] [.il .i64 1] fun
 | [.il .i64 1 a]=>some (Q103.f N a,fun r=>.one (.c (.int .i64 r)) [])
 |_=>none
theorem Q103.env (N:Nat):yA Tryz.prog (Q103.E N):=⟨(.cons jO (.cons qc .nil)),.nil⟩
theorem Q103.k3 (N:Nat):gB Tryz.prog Tryz.f60 (Q103.E N) (.loop Q103.b3):=dC (Q103.env N) bA 394 (c:=Q103.c3 N) cA.n fun R vs H k r h=>by unfold Q103.c3 at h;dsimp only at h;split at h;exact⟨_,Q103.l3_eq .. ▸h⟩;cases h
theorem Q103.spec (N:Nat)(a:List Int)(r:Int)(h:Q103.f N a=some r):eA Tryz.prog 60 [.il .i64 1 a] [] (.c (.int .i64 r)) ([]):=pA (Q103.env N) bA Tryz.func60 (cA.of (l:=[(.loop (nA ((dA (bo Tryz.f60)).getD 0 .skip)))]) (by kernel_rfl) (cA.cons (Q103.k3 N) cA.nil)) ((Q103.f_eq ..).trans h) fun v b e=>by unfold Q103.dec at e;split at e<;>cases e;exact⟨rfl,rfl⟩
theorem Q103.ent_ok (N:Nat):oA Tryz.prog 60 (Q103.ent N):=sA fun v a e h=>by split at h;exact nB (Q:=fun e=>eA _ _ _ _ (e a).pick.1 (e a).pick.2) h fun k=>Q103.spec N _ a k;cases h
noncomputable def Q104.f (N:Nat)(b c d e f g:Int):Option (Int):=
 (Q102.f N b e).bind fun h=>
 (Q102.f N c f).bind fun i=>
 (Q102.f N d g).bind fun j=>
 (Q103.f N [h,i,j]).bind fun a=>
 some a
noncomputable def Q104.E (N:Nat):jC:=iD [(2,aN),(3,F1),(33,aG),(108,Er)] [(61,Q102.ent N),(60,Q103.ent N)] [] [] N [.tmp 4] [.any] 0 22
noncomputable def Q104.dec (v:V)(bs:List rA):Option (Int):=match v,bs with
 | .c (.int .i64 a),[]=>some a
 |_,_=>none
theorem Q104.f_eq (N:Nat)(a b c d e f:Int):
  aB (Q104.E N) (bo Tryz.f59) [.agg [.c (.int .i64 a),.c (.int .i64 b),.c (.int .i64 c)],.agg [.c (.int .i64 d),.c (.int .i64 e),.c (.int .i64 f)]] [] Q104.dec=Q104.f N a b c d e f:=by kernel_rfl
theorem Q104.env (N:Nat):yA Tryz.prog (Q104.E N):=⟨(.cons nC (.cons jO (.cons xB (.cons qc .nil)))),(.cons (Q102.ent_ok N) (.cons (Q103.ent_ok N) .nil))⟩
theorem Q104.spec (N:Nat)(a c d f g i r:Int)(h:Q104.f N a c d f g i=some r):eA Tryz.prog 59 [.agg [.c (.int .i64 a),.c (.int .i64 c),.c (.int .i64 d)],.agg [.c (.int .i64 f),.c (.int .i64 g),.c (.int .i64 i)]] [] (.c (.int .i64 r)) ([]):=pA (Q104.env N) bA Tryz.func59 cA.n ((Q104.f_eq ..).trans h) fun v b e=>by unfold Q104.dec at e;split at e<;>cases e;exact⟨rfl,rfl⟩
noncomputable def Q105.f (N:Nat)(a:Int):Option (Int):=
 bif decide (a<(-65536))then
  some 80
 else
 bif decide (a>(-3))then
  some 80
 else
 bif (Int.tmod (aA (0-a)) 4)==1 then
  some 80
 else
 bif (Int.tmod (aA (0-a)) 4)==2 then
  some 80
 else
 some 0
noncomputable def Q105.E (N:Nat):jC:=iD [] [] [] [] N [.tmp 2] [.any] 0 21
noncomputable def Q105.dec (v:V)(bs:List rA):Option (Int):=match v,bs with
 | .c (.int .i64 a),[]=>some a
 |_,_=>none
theorem Q105.f_eq (N:Nat)(a:Int):
  aB (Q105.E N) (bo Tryz.f40) [.c (.int .i64 a)] [] Q105.dec=Q105.f N a:=by kernel_rfl
noncomputable def Q105.ent (N:Nat):uA:=tD (Int) 0 [true] [.any] fun
 | [.c (.int .i64 a)]=>some (Q105.f N a,fun r=>.one (.c (.int .i64 r)) [])
 |_=>none
theorem Q105.env (N:Nat):yA Tryz.prog (Q105.E N):=⟨.nil,.nil⟩
theorem Q105.spec (N:Nat)(a r:Int)(h:Q105.f N a=some r):eA Tryz.prog 40 [.c (.int .i64 a)] [] (.c (.int .i64 r)) ([]):=pA (Q105.env N) bA Tryz.func40 cA.n ((Q105.f_eq ..).trans h) fun v b e=>by unfold Q105.dec at e;split at e<;>cases e;exact⟨rfl,rfl⟩
theorem Q105.ent_ok (N:Nat):oA Tryz.prog 40 (Q105.ent N):=sA fun v a e h=>by split at h;exact nB (Q:=fun e=>eA _ _ _ _ (e a).pick.1 (e a).pick.2) h fun k=>Q105.spec N _ a k;cases h
noncomputable def Q106.l7 {R:Type}(N:Nat):Nat→Int→Int→Int→Int→List (List Int)→List Int→(Int→Int→List (List Int)→List Int→Option R)→Option R
 |0,_,_,_,_,_,_,_=>none
 |n+1,h,c,d,a,b,e,g=>
  bif decide ((aA (a*a))≤d)then
   bif !(a==0)then
    bif (Int.tmod d a) != 0 then
     Q106.l7 N n h c d (aA (a+1)) b e g
    else
    bif !(a==0)then
     (Q51.f N a c (aA (Int.tdiv d a))).bind fun f=>
     bif decide (c>0)then
      bif decide (c<a)then
       bif decide (a<(aA (Int.tdiv d a)))then
        Q106.l7 N n h c d (aA (a+1)) (yB [a,aA (0-c),aA (Int.tdiv d a)] (yB [a,c,aA (Int.tdiv d a)] b)) (nG [a,aA (0-c),aA (Int.tdiv d a)] (yE [a,c,aA (Int.tdiv d a)] (yB [a,c,aA (Int.tdiv d a)] b) (nG [a,c,aA (Int.tdiv d a)] f b e)) (yB [a,c,aA (Int.tdiv d a)] b) (nG [a,c,aA (Int.tdiv d a)] f b e)) g
       else
       Q106.l7 N n h c d (aA (a+1)) (yB [a,c,aA (Int.tdiv d a)] b) (nG [a,c,aA (Int.tdiv d a)] f b e) g
      else
      Q106.l7 N n h c d (aA (a+1)) (yB [a,c,aA (Int.tdiv d a)] b) (nG [a,c,aA (Int.tdiv d a)] f b e) g
     else
     Q106.l7 N n h c d (aA (a+1)) (yB [a,c,aA (Int.tdiv d a)] b) (nG [a,c,aA (Int.tdiv d a)] f b e) g
    else none
   else none
  else
  g h c b e
noncomputable def Q106.l3 {R:Type}(N:Nat):Nat→Int→Int→List (List Int)→List Int→(List (List Int)→List Int→Option R)→Option R
 |0,_,_,_,_,_=>none
 |n+1,b,a,h,i,g=>
  bif decide ((aA ((aA (3*a))*a))≤(aA (0-b)))then
   Q106.l7 N N b a (aA (Int.tdiv (aA ((aA (a*a))-b)) 4)) (tv a 1) h i
    (fun c d e f=>
     Q106.l3 N n c (aA (d+2)) e f g)
  else
  g h i
noncomputable def Q106.f (N:Nat)(c:Int):Option (List (List Int)×List Int):=
 Q106.l3 N N c (Int.tmod (aA (0-c)) 2) [] []
  (fun a b=>
   some (a,b))
noncomputable def Q106.h3:cC:=⟨[(0,.any),(3,.any),(4,.any)],[(3,.any)]⟩
noncomputable def Q106.h7:cC:=⟨[(0,.any),(3,.any),(4,.any),(5,.any),(6,.any)],[(0,.any),(3,.any),(4,.any)]⟩
noncomputable def Q106.c7 (N:Nat):nF:=⟨fun vs H k=>match vs,H with
 | [.c (.int .i64 g),.mref 0,.c (.int .i64 h),.c (.int .i64 i),.c (.int .i64 j)],[.mp .i64 3 a (.ints .i64 b)]=>Q106.l7 N N g h i j a b (fun c d e f=>k (.exit 2) ⟨fC Q106.h7.out [.c (.int .i64 c),.mref 0,.c (.int .i64 d)],[.mp .i64 3 e (.ints .i64 f)]⟩)
 |_,_=>none⟩
noncomputable def Q106.c3 (N:Nat):nF:=⟨fun vs H k=>match vs,H with
 | [.c (.int .i64 c),.mref 0,.c (.int .i64 d)],[.mp .i64 3 e (.ints .i64 f)]=>Q106.l3 N N c d e f (fun a b=>k (.exit 0) ⟨fC Q106.h3.out [.mref 0],[.mp .i64 3 a (.ints .i64 b)]⟩)
 |_,_=>none⟩
noncomputable def Q106.E (N:Nat):jC:=iD [(2,aN),(33,aG),(85,Gf)] [(62,Q51.ent N)] [(3,Q106.h3),(7,Q106.h7)] [(7,Q106.c7 N),(3,Q106.c3 N)] N [.tmp 2] [.any] 0 74 true
noncomputable def Q106.b7:Code:=nA ((dA (bo Tryz.f57)).getD 1 .skip)
theorem Q106.l7_eq {R:Type}(N n:Nat)(g h i j:Int)(a:List (List Int))(b:List Int)(k:Ex→St→Option R):
  dB 0 Q106.h7 (fun s k=>bB (Q106.E N) 387 Q106.b7 s k) n [.c (.int .i64 g),.mref 0,.c (.int .i64 h),.c (.int .i64 i),.c (.int .i64 j)] [.mp .i64 3 a (.ints .i64 b)] k=Q106.l7 N n g h i j a b (fun c d e f=>k (.exit 2) ⟨fC Q106.h7.out [.c (.int .i64 c),.mref 0,.c (.int .i64 d)],[.mp .i64 3 e (.ints .i64 f)]⟩):=by
 induction n generalizing g h i j a b with
 |zero=>kernel_rfl
 |succ n ih=>
  simp only[Q106.l7,←ih]
  kernel_rfl
noncomputable def Q106.b3:Code:=nA ((dA (bo Tryz.f57)).getD 0 .skip)
theorem Q106.l3_eq {R:Type}(N n:Nat)(a d:Int)(e:List (List Int))(f:List Int)(k:Ex→St→Option R):
  dB 0 Q106.h3 (fun s k=>bB (Q106.E N) 394 Q106.b3 s k) n [.c (.int .i64 a),.mref 0,.c (.int .i64 d)] [.mp .i64 3 e (.ints .i64 f)] k=Q106.l3 N n a d e f (fun b c=>k (.exit 0) ⟨fC Q106.h3.out [.mref 0],[.mp .i64 3 b (.ints .i64 c)]⟩):=by
 induction n generalizing a d e f with
 |zero=>kernel_rfl
 |succ n ih=>
  simp only[Q106.l3,←ih]
  kernel_rfl
noncomputable def Q106.dec (v:V)(bs:List rA):Option (List (List Int)×List Int):=match v,bs with
 | .mref 0,[.mp .i64 3 a (.ints .i64 b)]=>some (a,b)
 |_,_=>none
theorem Q106.f_eq (N:Nat)(a:Int):
  aB (Q106.E N) (bo Tryz.f57) [.c (.int .i64 a)] [] Q106.dec=Q106.f N a:=by kernel_rfl
noncomputable def Q106.ent (N:Nat):uA:=tD (List (List Int)×List Int) 1 [true] [.any] fun
 | [.c (.int .i64 a)]=>some (Q106.f N a,fun r=>.one (.mref 0) [.mp .i64 3 r.1 (.ints .i64 r.2)])
 |_=>none
theorem Q106.env (N:Nat):yA Tryz.prog (Q106.E N):=⟨(.cons nC (.cons xB (.cons js .nil))),(.cons (Q51.ent_ok N) .nil)⟩
theorem Q106.k7 (N:Nat):gB Tryz.prog Tryz.f57 (Q106.E N) (.loop Q106.b7):=dC (Q106.env N) bA 387 (c:=Q106.c7 N) cA.n fun R vs H k r h=>by unfold Q106.c7 at h;dsimp only at h;split at h;exact⟨_,Q106.l7_eq .. ▸h⟩;cases h
theorem Q106.k3 (N:Nat):gB Tryz.prog Tryz.f57 (Q106.E N) (.loop Q106.b3):=dC (Q106.env N) bA 394 (c:=Q106.c3 N) (cA.of (l:=[(.loop (nA ((dA (bo Tryz.f57)).getD 1 .skip)))]) (by kernel_rfl) (cA.cons (Q106.k7 N) cA.nil)) fun R vs H k r h=>by unfold Q106.c3 at h;dsimp only at h;split at h;exact⟨_,Q106.l3_eq .. ▸h⟩;cases h
theorem Q106.spec (N:Nat)(a:Int)(r:List (List Int)×List Int)(h:Q106.f N a=some r):eA Tryz.prog 57 [.c (.int .i64 a)] [] (.mref 0) ([.mp .i64 3 r.1 (.ints .i64 r.2)]):=pA (Q106.env N) bA Tryz.func57 (cA.of (l:=[(.loop (nA ((dA (bo Tryz.f57)).getD 0 .skip))),(.loop (nA ((dA (bo Tryz.f57)).getD 1 .skip)))]) (by kernel_rfl) (cA.cons (Q106.k3 N) (cA.cons (Q106.k7 N) cA.nil))) ((Q106.f_eq ..).trans h) fun v b e=>by unfold Q106.dec at e;split at e<;>cases e;exact⟨rfl,rfl⟩
theorem Q106.ent_ok (N:Nat):oA Tryz.prog 57 (Q106.ent N):=sA fun v a e h=>by split at h;exact nB (Q:=fun e=>eA _ _ _ _ (e a).pick.1 (e a).pick.2) h fun k=>Q106.spec N _ a k;cases h
noncomputable def Q107.f (N:Nat)(a:Int):Option (Int):=
 bif decide (a>(-3))then
  some 80
 else
 bif decide (a<(-65536))then
  some 80
 else
 bif (Int.tmod (aA (0-a)) 4) != 0 then
  bif (Int.tmod (aA (0-a)) 4) != 3 then
   some 80
  else
  some 0
 else
 some 0
noncomputable def Q107.E (N:Nat):jC:=iD [] [] [] [] N [.tmp 2] [.any] 0 21
noncomputable def Q107.dec (v:V)(bs:List rA):Option (Int):=match v,bs with
 | .c (.int .i64 a),[]=>some a
 |_,_=>none
theorem Q107.f_eq (N:Nat)(a:Int):
  aB (Q107.E N) (bo Tryz.f29) [.c (.int .i64 a)] [] Q107.dec=Q107.f N a:=by kernel_rfl
noncomputable def Q107.ent (N:Nat):uA:=tD (Int) 0 [true] [.any] fun
 | [.c (.int .i64 a)]=>some (Q107.f N a,fun r=>.one (.c (.int .i64 r)) [])
 |_=>none
theorem Q107.env (N:Nat):yA Tryz.prog (Q107.E N):=⟨.nil,.nil⟩
theorem Q107.spec (N:Nat)(a r:Int)(h:Q107.f N a=some r):eA Tryz.prog 29 [.c (.int .i64 a)] [] (.c (.int .i64 r)) ([]):=pA (Q107.env N) bA Tryz.func29 cA.n ((Q107.f_eq ..).trans h) fun v b e=>by unfold Q107.dec at e;split at e<;>cases e;exact⟨rfl,rfl⟩
theorem Q107.ent_ok (N:Nat):oA Tryz.prog 29 (Q107.ent N):=sA fun v a e h=>by split at h;exact nB (Q:=fun e=>eA _ _ _ _ (e a).pick.1 (e a).pick.2) h fun k=>Q107.spec N _ a k;cases h
noncomputable def Q108.l1 {R:Type}(N:Nat):Nat→Int→Int→(Int→Option R)→Option R
 |0,_,_,_=>none
 |n+1,c,a,b=>
  bif decide (a>0)then
   bif !(a==0)then
    Q108.l1 N n a (Int.tmod c a) b
   else none
  else
  b c
noncomputable def Q108.f (N:Nat)(a b:Int):Option (Int):=
 Q108.l1 N N a b
  (fun c=>
   some c)
noncomputable def Q108.h1:cC:=⟨[(0,.any),(1,.any)],[(0,.any)]⟩
noncomputable def Q108.c1 (N:Nat):nF:=⟨fun vs H k=>match vs,H with
 | [.c (.int .i64 a),.c (.int .i64 b)],[]=>Q108.l1 N N a b (fun c=>k (.exit 0) ⟨fC Q108.h1.out [.c (.int .i64 c)],[]⟩)
 |_,_=>none⟩
noncomputable def Q108.E (N:Nat):jC:=iD [] [] [(1,Q108.h1)] [(1,Q108.c1 N)] N [.tmp 4] [.any] 0 14
noncomputable def Q108.b1:Code:=nA ((dA (bo Tryz.f68)).getD 0 .skip)
theorem Q108.l1_eq {R:Type}(N n:Nat)(a b:Int)(k:Ex→St→Option R):
  dB 0 Q108.h1 (fun s k=>bB (Q108.E N) 396 Q108.b1 s k) n [.c (.int .i64 a),.c (.int .i64 b)] [] k=Q108.l1 N n a b (fun c=>k (.exit 0) ⟨fC Q108.h1.out [.c (.int .i64 c)],[]⟩):=by
 induction n generalizing a b with
 |zero=>kernel_rfl
 |succ n ih=>
  simp only[Q108.l1,←ih]
  kernel_rfl
noncomputable def Q108.dec (v:V)(bs:List rA):Option (Int):=match v,bs with
 | .c (.int .i64 a),[]=>some a
 |_,_=>none
theorem Q108.f_eq (N:Nat)(a b:Int):
  aB (Q108.E N) (bo Tryz.f68) [.c (.int .i64 a),.c (.int .i64 b)] [] Q108.dec=Q108.f N a b:=by kernel_rfl
noncomputable def Q108.ent (N:Nat):uA:=tD (Int) 0 [true,true] [.any,.any] fun
 | [.c (.int .i64 a),.c (.int .i64 b)]=>some (Q108.f N a b,fun r=>.one (.c (.int .i64 r)) [])
 |_=>none
theorem Q108.env (N:Nat):yA Tryz.prog (Q108.E N):=⟨.nil,.nil⟩
theorem Q108.k1 (N:Nat):gB Tryz.prog Tryz.f68 (Q108.E N) (.loop Q108.b1):=dC (Q108.env N) bA 396 (c:=Q108.c1 N) cA.n fun R vs H k r h=>by unfold Q108.c1 at h;dsimp only at h;split at h;exact⟨_,Q108.l1_eq .. ▸h⟩;cases h
theorem Q108.spec (N:Nat)(a c r:Int)(h:Q108.f N a c=some r):eA Tryz.prog 68 [.c (.int .i64 a),.c (.int .i64 c)] [] (.c (.int .i64 r)) ([]):=pA (Q108.env N) bA Tryz.func68 (cA.of (l:=[(.loop (nA ((dA (bo Tryz.f68)).getD 0 .skip)))]) (by kernel_rfl) (cA.cons (Q108.k1 N) cA.nil)) ((Q108.f_eq ..).trans h) fun v b e=>by unfold Q108.dec at e;split at e<;>cases e;exact⟨rfl,rfl⟩
theorem Q108.ent_ok (N:Nat):oA Tryz.prog 68 (Q108.ent N):=sA fun v a e h=>by split at h;exact nB (Q:=fun e=>eA _ _ _ _ (e a).pick.1 (e a).pick.2) h fun k=>Q108.spec N _ _ a k;cases h
noncomputable def Q109.f (N:Nat)(b a c:Int):Option (Int):=
 bif decide (a<0)then
  (Q108.f N b (aA (0-a))).bind fun d=>
  (Q108.f N d c).bind fun e=>
  some e
 else
 (Q108.f N b a).bind fun f=>
 (Q108.f N f c).bind fun g=>
 some g
noncomputable def Q109.E (N:Nat):jC:=iD [(2,aN),(33,aG)] [(68,Q108.ent N)] [] [] N [.tmp 2] [.any] 0 17
noncomputable def Q109.dec (v:V)(bs:List rA):Option (Int):=match v,bs with
 | .c (.int .i64 a),[]=>some a
 |_,_=>none
theorem Q109.f_eq (N:Nat)(a b c:Int):
  aB (Q109.E N) (bo Tryz.f50) [.agg [.c (.int .i64 a),.c (.int .i64 b),.c (.int .i64 c)]] [] Q109.dec=Q109.f N a b c:=by kernel_rfl
noncomputable def Q109.ent (N:Nat):uA:=tD (Int) 0 [true] [.recd [.any,.any,.any]] fun
 | [.agg [.c (.int .i64 a),.c (.int .i64 b),.c (.int .i64 c)]]=>some (Q109.f N a b c,fun r=>.one (.c (.int .i64 r)) [])
 |_=>none
theorem Q109.env (N:Nat):yA Tryz.prog (Q109.E N):=⟨(.cons nC (.cons xB .nil)),(.cons (Q108.ent_ok N) .nil)⟩
theorem Q109.spec (N:Nat)(a c d r:Int)(h:Q109.f N a c d=some r):eA Tryz.prog 50 [.agg [.c (.int .i64 a),.c (.int .i64 c),.c (.int .i64 d)]] [] (.c (.int .i64 r)) ([]):=pA (Q109.env N) bA Tryz.func50 cA.n ((Q109.f_eq ..).trans h) fun v b e=>by unfold Q109.dec at e;split at e<;>cases e;exact⟨rfl,rfl⟩
theorem Q109.ent_ok (N:Nat):oA Tryz.prog 50 (Q109.ent N):=sA fun v a e h=>by split at h;exact nB (Q:=fun e=>eA _ _ _ _ (e a).pick.1 (e a).pick.2) h fun k=>Q109.spec N _ _ _ a k;cases h
noncomputable def Q110.l6 {R:Type}(N:Nat):Nat→Int→Int→Int→List Int→(Int→Int→List Int→Option R)→Option R
 |0,_,_,_,_,_=>none
 |n+1,c,b,a,d,e=>
  bif decide (a≤b)then
   bif !((aA (4*b))==0)then
    bif (Int.tmod (aA ((aA (a*a))-c)) (aA (4*b))) != 0 then
     Q110.l6 N n c b (aA (a+1)) d e
    else
    bif !((aA (4*b))==0)then
     bif decide ((aA (Int.tdiv (aA ((aA (a*a))-c)) (aA (4*b))))>b)then
      bif jB ((d.length+3)/3) 24 then
       Q110.l6 N n c b (aA (a+1)) (d++[b,a,aA (Int.tdiv (aA ((aA (a*a))-c)) (aA (4*b)))]) e
      else none
     else
     bif (aA (Int.tdiv (aA ((aA (a*a))-c)) (aA (4*b))))==b then
      bif decide (a≥0)then
       bif jB ((d.length+3)/3) 24 then
        Q110.l6 N n c b (aA (a+1)) (d++[b,a,aA (Int.tdiv (aA ((aA (a*a))-c)) (aA (4*b)))]) e
       else none
      else
      Q110.l6 N n c b (aA (a+1)) d e
     else
     Q110.l6 N n c b (aA (a+1)) d e
    else none
   else none
  else
  e c b d
noncomputable def Q110.l3 {R:Type}(N:Nat):Nat→Int→Int→List Int→(List Int→Option R)→Option R
 |0,_,_,_,_=>none
 |n+1,f,a,g,e=>
  bif decide ((aA ((aA (3*a))*a))≤(aA (0-f)))then
   Q110.l6 N N f a (aA (1-a)) g
    (fun b c d=>
     Q110.l3 N n b (aA (c+1)) d e)
  else
  e g
noncomputable def Q110.f (N:Nat)(b:Int):Option (List Int):=
 Q110.l3 N N b 1 []
  (fun a=>
   some a)
noncomputable def Q110.h3:cC:=⟨[(0,.any),(3,.row .i64 3),(4,.any)],[(3,.row .i64 3)]⟩
noncomputable def Q110.h6:cC:=⟨[(0,.any),(3,.row .i64 3),(4,.any),(5,.any)],[(0,.any),(3,.row .i64 3),(4,.any)]⟩
noncomputable def Q110.c6 (N:Nat):nF:=⟨fun vs H k=>match vs,H with
 | [.c (.int .i64 c),.sw 0 3,.c (.int .i64 d),.c (.int .i64 e)],[.ints .i64 f]=>Q110.l6 N N c d e f (fun g a b=>k (.exit 2) ⟨fC Q110.h6.out [.c (.int .i64 g),.sw 0 3,.c (.int .i64 a)],[.ints .i64 b]⟩)
 |_,_=>none⟩
noncomputable def Q110.c3 (N:Nat):nF:=⟨fun vs H k=>match vs,H with
 | [.c (.int .i64 b),.sw 0 3,.c (.int .i64 c)],[.ints .i64 d]=>Q110.l3 N N b c d (fun a=>k (.exit 0) ⟨fC Q110.h3.out [.sw 0 3],[.ints .i64 a]⟩)
 |_,_=>none⟩
noncomputable def Q110.E (N:Nat):jC:=iD [(2,aN),(23,iW),(33,aG)] [] [(3,Q110.h3),(6,Q110.h6)] [(6,Q110.c6 N),(3,Q110.c3 N)] N [.tmp 2] [.il .i64 3] 0 60
noncomputable def Q110.b6:Code:=nA ((dA (bo Tryz.f49)).getD 1 .skip)
theorem Q110.l6_eq {R:Type}(N n:Nat)(c d e:Int)(f:List Int)(k:Ex→St→Option R):
  dB 0 Q110.h6 (fun s k=>bB (Q110.E N) 388 Q110.b6 s k) n [.c (.int .i64 c),.sw 0 3,.c (.int .i64 d),.c (.int .i64 e)] [.ints .i64 f] k=Q110.l6 N n c d e f (fun g a b=>k (.exit 2) ⟨fC Q110.h6.out [.c (.int .i64 g),.sw 0 3,.c (.int .i64 a)],[.ints .i64 b]⟩):=by
 induction n generalizing c d e f with
 |zero=>kernel_rfl
 |succ n ih=>
  simp only[Q110.l6,←ih]
  kernel_rfl
noncomputable def Q110.b3:Code:=nA ((dA (bo Tryz.f49)).getD 0 .skip)
theorem Q110.l3_eq {R:Type}(N n:Nat)(b c:Int)(d:List Int)(k:Ex→St→Option R):
  dB 0 Q110.h3 (fun s k=>bB (Q110.E N) 394 Q110.b3 s k) n [.c (.int .i64 b),.sw 0 3,.c (.int .i64 c)] [.ints .i64 d] k=Q110.l3 N n b c d (fun a=>k (.exit 0) ⟨fC Q110.h3.out [.sw 0 3],[.ints .i64 a]⟩):=by
 induction n generalizing b c d with
 |zero=>kernel_rfl
 |succ n ih=>
  simp only[Q110.l3,←ih]
  kernel_rfl
noncomputable def Q110.dec (v:V)(bs:List rA):Option (List Int):=match v,bs with
 | .il .i64 3 a,[]=>some a
 |_,_=>none
theorem Q110.f_eq (N:Nat)(a:Int):
  aB (Q110.E N) (bo Tryz.f49) [.c (.int .i64 a)] [] Q110.dec=Q110.f N a:=by kernel_rfl
noncomputable def Q110.ent (N:Nat):uA:=tD (List Int) 0 [true] [.any] fun
 | [.c (.int .i64 a)]=>some (Q110.f N a,fun r=>.one (.il .i64 3 r) [])
 |_=>none
theorem Q110.env (N:Nat):yA Tryz.prog (Q110.E N):=⟨(.cons nC (.cons fI (.cons xB .nil))),.nil⟩
theorem Q110.k6 (N:Nat):gB Tryz.prog Tryz.f49 (Q110.E N) (.loop Q110.b6):=dC (Q110.env N) bA 388 (c:=Q110.c6 N) cA.n fun R vs H k r h=>by unfold Q110.c6 at h;dsimp only at h;split at h;exact⟨_,Q110.l6_eq .. ▸h⟩;cases h
theorem Q110.k3 (N:Nat):gB Tryz.prog Tryz.f49 (Q110.E N) (.loop Q110.b3):=dC (Q110.env N) bA 394 (c:=Q110.c3 N) (cA.of (l:=[(.loop (nA ((dA (bo Tryz.f49)).getD 1 .skip)))]) (by kernel_rfl) (cA.cons (Q110.k6 N) cA.nil)) fun R vs H k r h=>by unfold Q110.c3 at h;dsimp only at h;split at h;exact⟨_,Q110.l3_eq .. ▸h⟩;cases h
theorem Q110.spec (N:Nat)(a:Int)(r:List Int)(h:Q110.f N a=some r):eA Tryz.prog 49 [.c (.int .i64 a)] [] (.il .i64 3 r) ([]):=pA (Q110.env N) bA Tryz.func49 (cA.of (l:=[(.loop (nA ((dA (bo Tryz.f49)).getD 0 .skip))),(.loop (nA ((dA (bo Tryz.f49)).getD 1 .skip)))]) (by kernel_rfl) (cA.cons (Q110.k3 N) (cA.cons (Q110.k6 N) cA.nil))) ((Q110.f_eq ..).trans h) fun v b e=>by unfold Q110.dec at e;split at e<;>cases e;exact⟨rfl,rfl⟩
theorem Q110.ent_ok (N:Nat):oA Tryz.prog 49 (Q110.ent N):=sA fun v a e h=>by split at h;exact nB (Q:=fun e=>eA _ _ _ _ (e a).pick.1 (e a).pick.2) h fun k=>Q110.spec N _ a k;cases h
noncomputable def Q111.l4 {R:Type}(N:Nat):Nat→List Int→Int→List Int→(List Int→Option R)→Option R
 |0,_,_,_,_=>none
 |n+1,b,a,c,d=>
  bif decide (a<(b.length/3:Int))then
   bif (decide (0≤a))&&(decide (a<(b.length/3:Int)))then
    (Q109.f N (b.getD (a.toNat*3) 0) (b.getD ((a.toNat*3)+1) 0) (b.getD ((a.toNat*3)+2) 0)).bind fun e=>
    bif e==1 then
     bif (decide (0≤a))&&(decide (a<(b.length/3:Int)))then
      bif jB ((c.length+3)/3) 24 then
       Q111.l4 N n b (aA (a+1)) (c++[b.getD (a.toNat*3) 0,b.getD ((a.toNat*3)+1) 0,b.getD ((a.toNat*3)+2) 0]) d
      else none
     else none
    else
    Q111.l4 N n b (aA (a+1)) c d
   else none
  else
  d c
noncomputable def Q111.f (N:Nat)(a:Int):Option (List Int):=
 (Q110.f N a).bind fun b=>
 Q111.l4 N N b 0 []
  (fun c=>
   some c)
noncomputable def Q111.h4:cC:=⟨[(3,.row .i64 3),(4,.il .i64 3),(5,.any)],[(3,.row .i64 3)]⟩
noncomputable def Q111.c4 (N:Nat):nF:=⟨fun vs H k=>match vs,H with
 | [.sw 0 3,.il .i64 3 a,.c (.int .i64 b)],[.ints .i64 c]=>Q111.l4 N N a b c (fun d=>k (.exit 0) ⟨fC Q111.h4.out [.sw 0 3],[.ints .i64 d]⟩)
 |_,_=>none⟩
noncomputable def Q111.E (N:Nat):jC:=iD [(23,iW),(33,aG)] [(49,Q110.ent N),(50,Q109.ent N)] [(4,Q111.h4)] [(4,Q111.c4 N)] N [.tmp 2] [.il .i64 3] 0 30
noncomputable def Q111.b4:Code:=nA ((dA (bo Tryz.f30)).getD 0 .skip)
theorem Q111.l4_eq {R:Type}(N n:Nat)(a:List Int)(b:Int)(c:List Int)(k:Ex→St→Option R):
  dB 0 Q111.h4 (fun s k=>bB (Q111.E N) 393 Q111.b4 s k) n [.sw 0 3,.il .i64 3 a,.c (.int .i64 b)] [.ints .i64 c] k=Q111.l4 N n a b c (fun d=>k (.exit 0) ⟨fC Q111.h4.out [.sw 0 3],[.ints .i64 d]⟩):=by
 induction n generalizing a b c with
 |zero=>kernel_rfl
 |succ n ih=>
  simp only[Q111.l4,←ih]
  kernel_rfl
noncomputable def Q111.dec (v:V)(bs:List rA):Option (List Int):=match v,bs with
 | .il .i64 3 a,[]=>some a
 |_,_=>none
theorem Q111.f_eq (N:Nat)(a:Int):
  aB (Q111.E N) (bo Tryz.f30) [.c (.int .i64 a)] [] Q111.dec=Q111.f N a:=by kernel_rfl
noncomputable def Q111.ent (N:Nat):uA:=tD (List Int) 0 [true] [.any] fun
 | [.c (.int .i64 a)]=>some (Q111.f N a,fun r=>.one (.il .i64 3 r) [])
 |_=>none
theorem Q111.env (N:Nat):yA Tryz.prog (Q111.E N):=⟨(.cons fI (.cons xB .nil)),(.cons (Q110.ent_ok N) (.cons (Q109.ent_ok N) .nil))⟩
theorem Q111.k4 (N:Nat):gB Tryz.prog Tryz.f30 (Q111.E N) (.loop Q111.b4):=dC (Q111.env N) bA 393 (c:=Q111.c4 N) cA.n fun R vs H k r h=>by unfold Q111.c4 at h;dsimp only at h;split at h;exact⟨_,Q111.l4_eq .. ▸h⟩;cases h
theorem Q111.spec (N:Nat)(a:Int)(r:List Int)(h:Q111.f N a=some r):eA Tryz.prog 30 [.c (.int .i64 a)] [] (.il .i64 3 r) ([]):=pA (Q111.env N) bA Tryz.func30 (cA.of (l:=[(.loop (nA ((dA (bo Tryz.f30)).getD 0 .skip)))]) (by kernel_rfl) (cA.cons (Q111.k4 N) cA.nil)) ((Q111.f_eq ..).trans h) fun v b e=>by unfold Q111.dec at e;split at e<;>cases e;exact⟨rfl,rfl⟩
theorem Q111.ent_ok (N:Nat):oA Tryz.prog 30 (Q111.ent N):=sA fun v a e h=>by split at h;exact nB (Q:=fun e=>eA _ _ _ _ (e a).pick.1 (e a).pick.2) h fun k=>Q111.spec N _ a k;cases h
end Go.Proofs.YtjpdjdhdchjcgaaGreat
namespace Go.Proofs.YtjpdjdhdchjcgaaGreat.Ev
open Go.Shelf Go.RowKit Go.Lib Go.Sort
abbrev R3:=Int×Int×Int
def sW (x y:R3):Bool:=decide (x.1<y.1)||(x.1==y.1&&(decide (x.2.1<y.2.1)||(x.2.1==y.2.1&&decide (x.2.2≤y.2.2))))
def zT (x y:R3):Int:=
 if x.1<y.1 then-1 else if y.1<x.1 then 1 else
 if x.2.1<y.2.1 then-1 else if y.2.1<x.2.1 then 1 else
 if x.2.2<y.2.2 then-1 else if y.2.2<x.2.2 then 1 else 0
def tg (x:R3):List R3→List R3
 | []=>[x]
 |y::r=>bif sW x y then x::y::r else y::tg x r
def uP:List R3→List R3
 | []=>[]
 |x::r=>tg x (uP r)
def oF:List Int→List R3
 |a::b::c::r=>(a,b,c)::oF r
 |_=>[]
def eB:List R3→List Int
 | []=>[]
 |x::r=>x.1::x.2.1::x.2.2::eB r
def ee (l:List Int):List Int:=eB (uP (oF l))
theorem pJ (x y:R3):sW x y=true↔(x.1<y.1∨x.1=y.1∧(x.2.1<y.2.1∨x.2.1=y.2.1∧x.2.2≤y.2.2)):=by
 simp[sW]
theorem cr (x y:R3):sW x y=true∨sW y x=true:=by
 rw[pJ,pJ];omega
theorem cw {x y z:R3}(h:sW x y=true)(k:sW y z=true):sW x z=true:=by
 rw[pJ]at*;omega
theorem mz {x y:R3}(h:sW x y=true)(k:sW y x=true):x=y:=by
 rw[pJ]at*;exact Prod.ext (by omega) (Prod.ext (by omega) (by omega))
theorem cS (x y:R3):ltOf zT x y= !(sW y x):=by
 unfold ltOf zT;rw[Bool.eq_iff_iff];simp only[decide_eq_true_eq,Bool.not_eq_true',←Bool.not_eq_true,pJ]
 repeat' split
 all_goals omega
theorem gU (x:R3):∀l,(tg x l).Perm (x::l)
 | []=>.refl _
 |y::r=>by
  unfold tg;cases sW x y
  ·exact((gU x r).cons y).trans (.swap _ _ _)
  ·exact .refl _
theorem yU:∀l,(uP l).Perm l
 | []=>.refl _
 |x::r=>(gU x _).trans ((yU r).cons x)
theorem jV (x:R3):∀l,l.Pairwise (fun a b=>sW a b=true)→(tg x l).Pairwise (fun a b=>sW a b=true)
 | [],_=>by simp[tg]
 |y::r,h=>by
  obtain⟨h1,h2⟩:=hB.mp h;unfold tg;cases hxy:sW x y
  ·refine hB.mpr ⟨fun z hz=>?_,jV x r h2⟩;rcases List.mem_cons.mp ((gU x r).mem_iff.mp hz)with rfl|hz
   ·exact(cr z y).resolve_left (by rw[hxy];simp)
   ·exact h1 z hz
  ·refine hB.mpr ⟨fun z hz=>?_,h⟩;rcases List.mem_cons.mp hz with rfl|hz
   ·exact hxy
   ·exact cw hxy (h1 z hz)
theorem yV:∀l,(uP l).Pairwise (fun a b=>sW a b=true)
 | []=>.nil
 |x::r=>jV x _ (yV r)
theorem oL {l m:List R3}(h:l.Perm m)(hs:l.Pairwise (fun a b=>sW a b=true)):l=uP m:=
 List.Perm.eq_of_pairwise (le:=fun a b=>sW a b=true) (fun a b _ _ h1 h2=>mz h1 h2) hs (yV m) (h.trans (yU m).symm)
theorem B8 (d:List R3):(d.mergeSort fun x y=>!(ltOf zT) y x)=uP d:=by
 have e:(fun x y=>!(ltOf zT) y x)=sW:=by funext x y;rw[cS];simp
 rw[e];exact oL (List.mergeSort_perm d sW) (List.pairwise_mergeSort (le:=sW) (fun a b c h k=>cw h k) (fun a b=>by simpa using cr a b) d)
theorem Jo:SWO (ltOf zT) where
 irrefl x:=by rw[cS,zA,pJ];omega
 trans x y z h1 h2:=by rw[cS,Bool.not_eq_true',←Bool.not_eq_true,pJ]at*;omega
 ntrans x y z h1 h2:=by rw[cS,zA,pJ]at*;omega
theorem Jp (x y:R3)(h:(ltOf zT) x y=false)(k:(ltOf zT) y x=false):x=y:=by
 rw[cS,zA]at*;exact mz k h
theorem tY:∀l:List Int,l.length%3=0→eB (oF l)=l
 | [],_=>rfl
 | [_],h=>by simp at h
 | [_,_],h=>by simp at h
 |a::b::c::r,h=>by
  have h':r.length%3=0:=by simp only[iB]at h;omega
  simp only[oF,eB];rw[tY r h']
theorem fO:∀l:List R3,oF (eB l)=l
 | []=>rfl
 |x::r=>by simp only[oF,eB,fO r]
theorem sF:∀l:List R3,(eB l).length=l.length*3
 | []=>rfl
 |x::r=>by simp only[eB,iB,sF r];omega
theorem xV (l:List R3):(uP l).length=l.length:=(yU l).length_eq
theorem eO:∀l:List Int,(oF l).length=l.length/3
 | []=>rfl
 | [_]=>by simp[oF]
 | [_,_]=>by simp[oF]
 |a::b::c::r=>by simp only[oF,iB,eO r];omega
theorem jT {l:List Int}(h:l.length%3=0):(ee l).length=l.length:=by
 unfold ee;rw[sF,xV,eO];omega
theorem nJ:∀a b:List R3,eB (a++b)=eB a++eB b
 | [],_=>rfl
 |x::r,b=>by simp only[List.cons_append,eB,nJ r b]
def nM (x:R3):List Value:=[.int .i64 x.1,.int .i64 x.2.1,.int .i64 x.2.2]
theorem pM:∀(d:List R3) (t:Nat),t<d.length*3→(eB d)[t]?=match t%3 with|0=>d[t/3]?.map (·.1)|1=>d[t/3]?.map (·.2.1)|_=>d[t/3]?.map (·.2.2)
 | [],t,h=>by simp at h
 |x::r,0,_=>rfl
 |x::r,1,_=>rfl
 |x::r,2,_=>rfl
 |x::r,t+3,h=>by
  have h3:(t+3)%3=t%3:=by omega
  have h4:(t+3)/3=t/3+1:=by omega
  have ih:=pM r t (by simp at h;omega);simp only[eB,zB];rw[ih,h3,h4];simp only[zB]
theorem Cm (d:List R3)(t:Nat)(h:t<d.length*3):(flatK nM 3 d.toArray)[t]! = .int .i64 ((eB d).getD t 0):=by
 rw[get_flatK _ _ _ _ (by simpa using h),List.getD_eq_getElem?_getD,pM d t h];have hlt:t/3<d.length:=by omega
 have hm:t%3=0∨t%3=1∨t%3=2:=by omega
 simp only[List.getElem?_eq_getElem hlt,Option.map_some];have hd:d.toArray[t/3]! =d[t/3]:=by rw[getElem!_pos d.toArray (t/3) (by simpa using hlt)];simp
 rw[hd];rcases hm with h0|h0|h0<;>rw[h0]<;>simp[nM]
section
variable {P:Program}{F:Nat→Prop}{ρ:sD}{h:Nat→rA}{w:World}
theorem mA.grow (hh:mA F ρ h w)(os:Array Obj):mA F ρ h (Go.Sort.grow w os)∧uH (kA ρ h) w (kA ρ h) (Go.Sort.grow w os):=by
 have hext:uH (kA ρ h) w (kA ρ h) (Go.Sort.grow w os):=by refine⟨by simp[Go.Sort.grow],fun b hb _=>?_,fun b hb=>.inl hb,⟨rfl,rfl,rfl,Nat.le_refl _⟩⟩;simp only[Go.Sort.grow];rw[hA hb]
 refine⟨⟨hh.wf,fun id hl=>?_,hh.inj,hh.low' hext,hh.out⟩,hext⟩;obtain⟨p,hp,hb⟩:=hh.rel id hl;refine⟨p,hp,qB.mono (nO.refl _) hext hb ?_⟩;intro b hb';obtain⟨pb,pn,pC⟩:=p;dsimp only at hb';subst hb';have hlt:=kA.lt hh ⟨id,pn,pC,hp,hl⟩;simp only[Go.Sort.grow];rw[hA hlt]
theorem rk {g:Nat}(hs:∀x y:R3,eA P g [.agg [.c (.int .i64 x.1),.c (.int .i64 x.2.1),.c (.int .i64 x.2.2)],.agg [.c (.int .i64 y.1),.c (.int .i64 y.2.1),.c (.int .i64 y.2.2)]] [] (.c (.int .i64 (zT x y))) [])(blk off size:Nat)(w:World):
  CmpLays P g #[] nM 3 zT blk off size w:=by
 intro m os dk hsz x y;generalize sortWorldK nM 3 w blk off m dk os=W;have h0:mA (fun _=>False) (fun _=>none) (qA []) W:=⟨fun _ _ hx=>(by cases hx),fun id hl=>(by simp[qA,rA.live]at hl),fun i j b n C n' C' hi=>(by simp[qA,rA.live]at hi),fun _ hb=>hb.elim,fun _ _ hb=>hb.elim⟩
 have hc:=(hs x y).calls (fun _=>False) (fun _=>none) W [.agg (nM x).toArray,.agg (nM y).toArray] h0 (fun _ _=>rfl) (by simp only[lA,and_true];refine⟨?_,?_⟩<;>(simp only[vA];refine⟨_,rfl,?_⟩;simp[nM,lA,vA]));refine Calls.mono (by simpa using hc) ?_;rintro e w' ⟨v',rfl,ρ',_,_,hH,hv,hext⟩;have:=hv.c;subst this;refine⟨rfl,w'.drawn-W.drawn,w'.heap.extract W.heap.size w'.heap.size,?_⟩;have hk:=hext.keeps;have hheap:w'.heap=W.heap++w'.heap.extract W.heap.size w'.heap.size:=by
  apply Array.ext_getElem?;intro i;by_cases hi:i<W.heap.size
  ·rw[hA hi];exact hext.same i hi (fun⟨id,n,C,h1,_⟩=>by cases h1)
  ·rw[Array.getElem?_append_right (by omega)];have hsz:=hext.size;simp only[Array.getElem?_extract];by_cases h2:i<w'.heap.size
   ·rw[if_pos (by omega)];congr 1;omega
   ·rw[if_neg (by omega),Array.getElem?_eq_none (by omega)]
 have hd:=hk.drawn;obtain⟨hp',t',d',o',u'⟩:=w';obtain⟨hp,t,d0,o,u⟩:=W;obtain⟨k1,k2,k3,k4⟩:=hk;simp only at k1 k2 k3 k4 hheap hd⊢;subst k1 k2 k3;simp only[Go.Sort.grow,World.drewN,World.mk.injEq,true_and,and_true];exact⟨hheap,by omega⟩
theorem je (d:List R3)(c:Array Value)(i:Nat):(putCells id 0 (flatK nM 3 d.toArray) c)[i]?=if i<d.length*3 then c[i]?.map (fun _=>.int .i64 ((eB d).getD i 0))else c[i]?:=by
 simp only[putCells,Array.getElem?_mapIdx,size_flatK,List.size_toArray,Nat.zero_le,true_and,Nat.zero_add,Nat.sub_zero,id_eq];by_cases hi:i<d.length*3
 ·simp only[hi,if_true];rw[Cm d i hi]
 ·simp only[hi,if_false];cases c[i]?<;>rfl
theorem B7 {R:Ren}(L:SlLaysF0.n6 P R)(aE:∀w,(isAgg (R.t 24)).run P w= .ok true w)(zE:∀w,(Go.sizeOf (R.t 24)).run P w= .ok 3 w)(hcall:wO P (R.f 6)){g:Nat}(eg:∀args w,(callFunc g args).run P w= .ok (.enter g args) w)
  (hs:∀x y:R3,eA P g [.agg [.c (.int .i64 x.1),.c (.int .i64 x.2.1),.c (.int .i64 x.2.2)],.agg [.c (.int .i64 y.1),.c (.int .i64 y.2.1),.c (.int .i64 y.2.2)]] [] (.c (.int .i64 (zT x y))) [])(l:List Int)(hsz:l.length<4611686018427387904):
  eA P (R.f 6) [.sw 0 3,.fn g [] []] [.ints .i64 l] (.c (.tuple #[])) [.ints .i64 (ee l)]:=by
 refine⟨hcall,?_⟩;intro F ρ w args' hH hn hr;obtain⟨v0,v1,rfl⟩:∃a b,args'=[a,b]:=by
  have:=hr.length;simp at this
  match args',this with
  | [a,b],_=>exact⟨a,b,rfl⟩
 simp only[lA,and_true]at hr;obtain⟨hr0,hr1⟩:=hr;have hf:v1= .func (.func g) #[] #[]:=by simp only[vA]at hr1;obtain⟨va,vc,rfl,ha,hc⟩:=hr1;have ha:=ha.length;have hc:=hc.length;simp at ha hc;rw[show va= #[]from iA (by simpa using ha.symm),show vc= #[]from iA (by simpa using hc.symm)]
 subst hf;have hl0:(qA [rA.ints .i64 l] 0).live:=trivial;have hb0:qA [rA.ints .i64 l] 0= .ints .i64 l:=rfl;have hset:∀x,mB (qA [rA.ints .i64 l]) 0 x=qA [x]:=by intro x;funext j;cases j<;>simp[mB,qA]
 obtain⟨_,⟨b,n,C,cap,c,h1,h2,h3,h4,h5,ho,hszc,hold⟩|⟨h1,h2,hk⟩⟩:=zF hH hr0 hl0 trivial
 ·subst h5;rw[hb0]at hold;obtain⟨k1,k2,k3⟩:=hold;have hmod:l.length%3=0:=by rw[k1];exact h2
  obtain⟨e,fr,g1,g2,g3⟩:=ho;have hblt:b<w.heap.size:=(Array.getElem?_eq_some_iff.mp g1).1;have hfl:=tY l hmod;have hdl:(oF l).length*3=n:=by rw[eO,←k1];omega
  have hH3:HoldsK nM 3 w b 0 (oF l).toArray:=by
   intro j hj;rw[size_flatK]at hj;have hj':j<(oF l).length*3:=by simpa using hj
   have hjl:j<l.length:=by omega
   rw[Cm _ _ hj',hfl];have hc:=k3 j hjl;refine⟨by simp[World.cell?,g1,hc],?_⟩;simp only[World.frozen?,g1,Nat.zero_add];have:=g3 j (by omega);simp only[Bool.and_eq_false_iff,decide_eq_false_iff_not];omega
  have hsize:(oF l).toArray.size=n/3:=by simp;omega
  have hcon:=AnyQ.slices_SortFunc_total L 3 aE zE nM (fun _=>rfl) (fun x v hv=>by simp[nM]at hv;rcases hv with rfl|rfl|rfl<;>rfl) zT Jo g #[] b 0 cap (oF l).toArray w eg (rk hs b 0 _ w) hH3 hblt (by simp only[hsize];omega) Jp;rw[hsize]at hcon;refine Calls.mono hcon ?_;rintro e' w' ⟨rfl,m,os,rfl⟩;rw[List.toList_toArray,B8];refine⟨_,rfl,ρ,fun _ _=>rfl,hn,?_⟩;have hlen3:(uP (oF l)).length*3=n:=by rw[xV,hdl]
  have hheap:(putRowK nM 3 (Sort.ahead w m) b 0 (uP (oF l)).toArray).heap=w.heap.modify b (onCells (putCells id 0 (flatK nM 3 (uP (oF l)).toArray))):=rfl;have hown:kc (putRowK nM 3 (Sort.ahead w m) b 0 (uP (oF l)).toArray) b (putCells id 0 (flatK nM 3 (uP (oF l)).toArray) c).size (putCells id 0 (flatK nM 3 (uP (oF l)).toArray) c):=by refine⟨e,fr,?_,rfl,fun i hi=>g3 i (by simp[putCells]at hi;omega)⟩;rw[hheap,hC,if_pos rfl,g1];rfl
  have hcs:(putCells id 0 (flatK nM 3 (uP (oF l)).toArray) c).size=c.size:=by simp[putCells]
  have hp:ρ 0=some ⟨some b,n,(putCells id 0 (flatK nM 3 (uP (oF l)).toArray) c).size⟩:=by rw[hcs,hszc];exact h1
  have hholds:lD ρ (av F (kA ρ (qA [rA.ints .i64 l]))) w n (putCells id 0 (flatK nM 3 (uP (oF l)).toArray) c) (.ints .i64 (ee l)):=by
   refine⟨by rw[jT hmod,k1],by rw[hcs];exact k2,fun i hi=>?_⟩;rw[jT hmod]at hi;rw[je,if_pos (by omega)];have:i<c.size:=by omega
   rw[Array.getElem?_eq_getElem this,Option.map_some];rfl
  obtain⟨q1,q2⟩:=mA.write (w':=putRowK nM 3 (Sort.ahead w m) b 0 (uP (oF l)).toArray) hH hl0 hp ⟨by rw[hheap];simp,⟨rfl,rfl,rfl,Nat.le_add_right _ _⟩⟩ (fun b' hb'=>by rw[hheap,hC,if_neg (Ne.symm hb')]) hown hholds;rw[hset]at q1 q2;obtain⟨q3,q4⟩:=q1.grow os;exact⟨q3,vA.of_c _,q2.trans q4⟩
 ·subst h2;rw[hb0]at hk;have hl:l=[]:=by rcases hk with⟨k2,hk2⟩|hk2|⟨_,_,hk2⟩<;>cases hk2;rfl
  subst hl;have hcon:=AnyF.slices_SortFunc_none L none 0 (.func (.func g) #[] #[]) w;refine Calls.mono hcon ?_;rintro e' w' ⟨rfl,rfl⟩;exact⟨_,rfl,ρ,fun _ _=>rfl,hn,hH,vA.of_c _,uH.refl _ _⟩
end
end Go.Proofs.YtjpdjdhdchjcgaaGreat.Ev
namespace Go.Proofs.YtjpdjdhdchjcgaaGreat
open Go.Proofs.YtjpdjdhdchjcgaaGreat.Ev Go.Shelf
open Go
set_option maxRecDepth 100000
def B5:Go.Shelf.Ren:=⟨fun|6=>58|15=>81|14=>80|28=>115|29=>116|20=>107|21=>108|22=>109|23=>110|24=>111|25=>112|26=>113|27=>114|46=>140|47=>141|48=>142|49=>143|50=>144|57=>156|n=>n,fun|22=>23|24=>33|25=>90|3=>3|39=>79|0=>0|53=>143|55=>78|4=>4|46=>136|45=>135|50=>140|5=>5|9=>9|66=>163|70=>167|76=>179|77=>180|n=>n,fun|n=>n⟩
theorem J0:Go.Proofs.SlLaysF0.n6 Tryz.prog B5:={
 mixed:=by kernel_rfl
 f6:=⟨Tryz.f58.name,by decide,Tryz.func58.trans (congrArg some (by kernel_rfl))⟩
 f14:=⟨Tryz.f80.name,by decide,Tryz.func80.trans (congrArg some (by kernel_rfl))⟩
 f15:=Tryz.func81.trans (congrArg some (by kernel_rfl))
 f20:=⟨Tryz.f107.name,by decide,Tryz.func107.trans (congrArg some (by kernel_rfl))⟩
 f21:=⟨Tryz.f108.name,by decide,Tryz.func108.trans (congrArg some (by kernel_rfl))⟩
 f22:=⟨Tryz.f109.name,by decide,Tryz.func109.trans (congrArg some (by kernel_rfl))⟩
 f23:=⟨Tryz.f110.name,by decide,Tryz.func110.trans (congrArg some (by kernel_rfl))⟩
 f24:=⟨Tryz.f111.name,by decide,Tryz.func111.trans (congrArg some (by kernel_rfl))⟩
 f25:=⟨Tryz.f112.name,by decide,Tryz.func112.trans (congrArg some (by kernel_rfl))⟩
 f26:=⟨Tryz.f113.name,by decide,Tryz.func113.trans (congrArg some (by kernel_rfl))⟩
 f27:=⟨Tryz.f114.name,by decide,Tryz.func114.trans (congrArg some (by kernel_rfl))⟩
 f28:=Tryz.func115.trans (congrArg some (by kernel_rfl))
 f29:=Tryz.func116.trans (congrArg some (by kernel_rfl))
 f46:=⟨Tryz.f140.name,by decide,Tryz.func140.trans (congrArg some (by kernel_rfl))⟩
 f47:=Tryz.func141.trans (congrArg some (by kernel_rfl))
 f48:=Tryz.func142.trans (congrArg some (by kernel_rfl))
 f49:=⟨Tryz.f143.name,by decide,Tryz.func143.trans (congrArg some (by kernel_rfl))⟩
 f50:=⟨Tryz.f144.name,by decide,Tryz.func144.trans (congrArg some (by kernel_rfl))⟩
 f57:=⟨Tryz.f156.name,by decide,Tryz.func156.trans (congrArg some (by kernel_rfl))⟩
 t0:=Tryz.underlying0
 a0:=Tryz.isAgg0
 z0:=Tryz.sizeOf0
 v0:=Tryz.zeroValue0
 t3:=Tryz.underlying3
 a3:=Tryz.isAgg3
 z3:=Tryz.sizeOf3
 v3:=Tryz.zeroValue3
 t4:=Tryz.underlying4
 a4:=Tryz.isAgg4
 z4:=Tryz.sizeOf4
 v4:=Tryz.zeroValue4
 t5:=Tryz.underlying5
 a5:=Tryz.isAgg5
 z5:=Tryz.sizeOf5
 v5:=Tryz.zeroValue5
 t9:=Tryz.underlying9
 a9:=Tryz.isAgg9
 z9:=Tryz.sizeOf9
 v9:=Tryz.zeroValue9
 t22:=Tryz.underlying23
 a22:=Tryz.isAgg23
 z22:=Tryz.sizeOf23
 v22:=Tryz.zeroValue23
 t25:=Tryz.underlying90
 a25:=Tryz.isAgg90
 z25:=Tryz.sizeOf90
 v25:=Tryz.zeroValue90
 t39:=Tryz.underlying79
 a39:=Tryz.isAgg79
 z39:=Tryz.sizeOf79
 v39:=Tryz.zeroValue79
 t45:=Tryz.underlying135
 a45:=Tryz.isAgg135
 z45:=Tryz.sizeOf135
 v45:=Tryz.zeroValue135
 t46:=Tryz.underlying136
 a46:=Tryz.isAgg136
 z46:=Tryz.sizeOf136
 v46:=Tryz.zeroValue136
 t50:=Tryz.underlying140
 a50:=Tryz.isAgg140
 z50:=Tryz.sizeOf140
 v50:=Tryz.zeroValue140
 t53:=Tryz.underlying143
 a53:=Tryz.isAgg143
 z53:=Tryz.sizeOf143
 v53:=Tryz.zeroValue143
 t55:=Tryz.underlying78
 a55:=Tryz.isAgg78
 z55:=Tryz.sizeOf78
 v55:=Tryz.zeroValue78
 t66:=Tryz.underlying163
 a66:=Tryz.isAgg163
 z66:=Tryz.sizeOf163
 v66:=Tryz.zeroValue163
 t70:=Tryz.underlying167
 a70:=Tryz.isAgg167
 z70:=Tryz.sizeOf167
 v70:=Tryz.zeroValue167
 t76:=Tryz.underlying179
 a76:=Tryz.isAgg179
 z76:=Tryz.sizeOf179
 v76:=Tryz.zeroValue179
 t77:=Tryz.underlying180
 a77:=Tryz.isAgg180
 z77:=Tryz.sizeOf180
 v77:=Tryz.zeroValue180}
theorem G0 (a b c:Int):Q103.f 10 [a,b,c]=some (if a≠0 then a else if b≠0 then b else c):=by
 unfold Q103.f;have w1:aA (0+1)=1:=by decide
 have w2:aA (1+1)=2:=by decide
 have w3:aA (2+1)=3:=by decide
 simp only[Q103.l3,w1,w2,w3];have e:∀x:Int,¬x=0→(x != 0)=true:=fun x hx=>by simpa using hx
 by_cases h1:a=0<;>by_cases h2:b=0<;>by_cases h3:c=0<;>simp[h1,h2,h3,e]
theorem lN (N:Nat)(a b:Int):Q102.f N a b=some (if a<b then-1 else if b<a then 1 else 0):=by
 unfold Q102.f Q101.f;by_cases h1:a<b<;>by_cases h2:b<a<;>simp[h1,h2]
theorem Ca (x y:R3):Q104.f 10 x.1 x.2.1 x.2.2 y.1 y.2.1 y.2.2=some (zT x y):=by
 unfold Q104.f zT;rw[lN,lN,lN];simp only[Option.bind_some,G0];congr 1
 repeat' split
 all_goals omega
noncomputable def Q112.f (N:Nat)(l:List Int):Option (List Int):=bif Nat.blt l.length 4611686018427387904 then some (ee l)else none
noncomputable def Q112.ent (N:Nat):uA:={A:=List Int,fresh:=0,imm:=[false,false],dec:=fun args bs=>match args,bs with
 | [.sw 0 3,.fn g [] []],[.ints .i64 l]=>bif Nat.beq g 59 then some (Q112.f N l,fun r=>.one (.c (.tuple #[])) [.ints .i64 r])else none
 |_,_=>none}
theorem Q112.ent_ok (N:Nat):oA Tryz.prog 58 (Q112.ent N):=by
 intro args bs a enc h;simp only[Q112.ent]at h;split at h
 ·rename_i g l;obtain⟨hg,h⟩:=gA h;have hg:=vB hg;subst hg;have h0:=Option.some.inj h;have h1:=congrArg Prod.fst h0;have h2:=congrArg Prod.snd h0;dsimp only at h1 h2;subst h2;unfold Q112.f at h1;obtain⟨hl,h1⟩:=gA h1;obtain rfl:=Option.some.inj h1;exact B7 J0 Tryz.isAgg33 Tryz.sizeOf33 ⟨_,Tryz.func58,by kernel_rfl,by kernel_rfl⟩ (enters_of Tryz.func59 (by kernel_rfl) rfl) (fun x y=>Q104.spec 10 _ _ _ _ _ _ _ (Ca x y)) l (dD hl)
 ·cases h
open Go.Proofs.YtjpdjdhdchjcgaaGreat.Ev
noncomputable def jo:TI:=⟨.slice 57,1,24,[.slice none 0 0]⟩
noncomputable def jq:TI:=⟨.struct [(33,0),(2,3)],4,32,[.int .i64 0,.int .i64 0,.int .i64 0,.int .i64 0]⟩
noncomputable def Et:TI:=⟨.slice 64,1,24,[.slice none 0 0]⟩
noncomputable def Ge:TI:=⟨.struct [(2,0),(3,1)],2,16,[.int .i64 0,.int .i64 0]⟩
theorem qL:zC Tryz.prog 53 jo:=gD (by kernel_rfl) (by kernel_rfl) (by kernel_rfl) (by kernel_rfl) (by kernel_rfl) (by kernel_rfl) (by kernel_rfl) (Tryz.underlying53) (by kernel_rfl)
theorem rL:zC Tryz.prog 57 jq:=gD (by kernel_rfl) (by kernel_rfl) (by kernel_rfl) (by kernel_rfl) (by kernel_rfl) (by kernel_rfl) (by kernel_rfl) (qH Tryz.underlying57 (by kernel_rfl) (by kernel_rfl)) (by kernel_rfl)
theorem cX:zC Tryz.prog 60 Et:=gD (by kernel_rfl) (by kernel_rfl) (by kernel_rfl) (by kernel_rfl) (by kernel_rfl) (by kernel_rfl) (by kernel_rfl) (Tryz.underlying60) (by kernel_rfl)
theorem jr:zC Tryz.prog 64 Ge:=gD (by kernel_rfl) (by kernel_rfl) (by kernel_rfl) (by kernel_rfl) (by kernel_rfl) (by kernel_rfl) (by kernel_rfl) (qH Tryz.underlying64 (by kernel_rfl) (by kernel_rfl)) (by kernel_rfl)
noncomputable def Q113.l3 {R:Type}(N:Nat):Nat→List Int→List (List Int)→List Int→Nat→List Nat→Nat→(List Int→Option R)→Option R
 |0,_,_,_,_,_,_,_=>none
 |n+1,d,c,g,e,b,h,f=>
  bif Nat.beq c.length e then
   bif b.isEmpty then
    f d
   else
   bY b.length fun a=>
   bif Nat.beq c.length e&&Nat.blt (b.getD a 0) c.length then
    bif (g.getD (b.getD a 0) 0)==1 then
     bif jB ((d.length+3)/3) 24 then
      Q113.l3 N n (d++[(c.getD (b.getD a 0) []).getD 0 0,(c.getD (b.getD a 0) []).getD 1 0,(c.getD (b.getD a 0) []).getD 2 0]) c g e (b.eraseIdx a) (b.getD a 0) f
     else none
    else
    Q113.l3 N n d c g e (b.eraseIdx a) (b.getD a 0) f
   else none
  else none
noncomputable def Q113.f (N:Nat)(d:Int):Option (List Int):=
 (Q106.f N d).bind fun a=>
 Q113.l3 N N [] a.1 a.2 a.1.length (List.range a.1.length) a.1.length
  (fun c=>
   (Q112.f N c).bind fun b=>
   some b)
noncomputable def Q113.h3:cC:=⟨[(3,.row .i64 3),(8,.any)],[(3,.row .i64 3)]⟩
noncomputable def Q113.c3 (N:Nat):nF:=⟨fun vs H k=>match vs,H with
 | [.sw 0 3,.ptr 2 0 0],[.ints .i64 a,.mp .i64 3 b (.ints .i64 c),.it (some 1) d e f]=>Q113.l3 N N a b c d e f (fun g=>k (.exit 0) ⟨fC Q113.h3.out [.sw 0 3],[.ints .i64 g]⟩)
 |_,_=>none⟩
noncomputable def Q113.E (N:Nat):jC:=iD [(2,aN),(23,iW),(33,aG),(85,Gf)] [(57,Q106.ent N),(58,Q112.ent N)] [(3,Q113.h3)] [(3,Q113.c3 N)] N [.tmp 2] [.row .i64 3] 0 23 true
noncomputable def Q113.b3:Code:=nA ((dA (bo Tryz.f41)).getD 0 .skip)
theorem Q113.l3_eq {R:Type}(N n:Nat)(a:List Int)(b:List (List Int))(c:List Int)(d:Nat)(e:List Nat)(f:Nat)(k:Ex→St→Option R):
  dB 0 Q113.h3 (fun s k=>bB (Q113.E N) 394 Q113.b3 s k) n [.sw 0 3,.ptr 2 0 0] [.ints .i64 a,.mp .i64 3 b (.ints .i64 c),.it (some 1) d e f] k=Q113.l3 N n a b c d e f (fun g=>k (.exit 0) ⟨fC Q113.h3.out [.sw 0 3],[.ints .i64 g]⟩):=by
 induction n generalizing a b c d e f with
 |zero=>kernel_rfl
 |succ n ih=>
  simp only[Q113.l3,←ih]
  kernel_rfl
noncomputable def Q113.dec (v:V)(bs:List rA):Option (List Int):=match v,bs with
 | .sw 0 3,[.ints .i64 a]=>some a
 |_,_=>none
theorem Q113.f_eq (N:Nat)(a:Int):
  aB (Q113.E N) (bo Tryz.f41) [.c (.int .i64 a)] [] Q113.dec=Q113.f N a:=by kernel_rfl
noncomputable def Q113.ent (N:Nat):uA:=tD (List Int) 1 [true] [.any] fun
 | [.c (.int .i64 a)]=>some (Q113.f N a,fun r=>.one (.sw 0 3) [.ints .i64 r])
 |_=>none
theorem Q113.env (N:Nat):yA Tryz.prog (Q113.E N):=⟨(.cons nC (.cons fI (.cons xB (.cons js .nil)))),(.cons (Q106.ent_ok N) (.cons (Q112.ent_ok N) .nil))⟩
theorem Q113.k3 (N:Nat):gB Tryz.prog Tryz.f41 (Q113.E N) (.loop Q113.b3):=dC (Q113.env N) bA 394 (c:=Q113.c3 N) cA.n fun R vs H k r h=>by unfold Q113.c3 at h;dsimp only at h;split at h;exact⟨_,Q113.l3_eq .. ▸h⟩;cases h
theorem Q113.spec (N:Nat)(a:Int)(r:List Int)(h:Q113.f N a=some r):eA Tryz.prog 41 [.c (.int .i64 a)] [] (.sw 0 3) ([.ints .i64 r]):=pA (Q113.env N) bA Tryz.func41 (cA.of (l:=[(.loop (nA ((dA (bo Tryz.f41)).getD 0 .skip)))]) (by kernel_rfl) (cA.cons (Q113.k3 N) cA.nil)) ((Q113.f_eq ..).trans h) fun v b e=>by unfold Q113.dec at e;split at e<;>cases e;exact⟨rfl,rfl⟩
theorem Q113.ent_ok (N:Nat):oA Tryz.prog 41 (Q113.ent N):=sA fun v a e h=>by split at h;exact nB (Q:=fun e=>eA _ _ _ _ (e a).pick.1 (e a).pick.2) h fun k=>Q113.spec N _ a k;cases h
noncomputable def Q114.f (N:Nat)(a:Int):Option (List Int×Int):=
 (Q105.f N a).bind fun b=>
 bif b != 0 then
  some ([],b)
 else
 (Q113.f N a).bind fun c=>
 some (c,0)
noncomputable def Q114.E (N:Nat):jC:=iD [] [(40,Q105.ent N),(41,Q113.ent N)] [] [] N [.tmp 2,.tmp 3] [.row .i64 3,.any] 0 12 true
noncomputable def Q114.dec (v:V)(bs:List rA):Option (List Int×Int):=match v,bs with
 | .tup [.sw 0 3,.c (.int .i64 b)],[.ints .i64 a]=>some (a,b)
 |_,_=>none
theorem Q114.f_eq (N:Nat)(a:Int):
  aB (Q114.E N) (bo Tryz.f23) [.c (.int .i64 a)] [] Q114.dec=Q114.f N a:=by kernel_rfl
noncomputable def Q114.ent (N:Nat):uA:=tD (List Int×Int) 1 [true] [.any] fun
 | [.c (.int .i64 a)]=>some (Q114.f N a,fun r=>.one (.tup [.sw 0 3,.c (.int .i64 r.2)]) [.ints .i64 r.1])
 |_=>none
theorem Q114.env (N:Nat):yA Tryz.prog (Q114.E N):=⟨.nil,(.cons (Q105.ent_ok N) (.cons (Q113.ent_ok N) .nil))⟩
theorem Q114.spec (N:Nat)(a:Int)(r:List Int×Int)(h:Q114.f N a=some r):eA Tryz.prog 23 [.c (.int .i64 a)] [] (.tup [.sw 0 3,.c (.int .i64 r.2)]) ([.ints .i64 r.1]):=pA (Q114.env N) bA Tryz.func23 cA.n ((Q114.f_eq ..).trans h) fun v b e=>by unfold Q114.dec at e;split at e<;>cases e;exact⟨rfl,rfl⟩
theorem Q114.ent_ok (N:Nat):oA Tryz.prog 23 (Q114.ent N):=sA fun v a e h=>by split at h;exact nB (Q:=fun e=>eA _ _ _ _ (e a).pick.1 (e a).pick.2) h fun k=>Q114.spec N _ a k;cases h
noncomputable def Q115.f (N:Nat)(b:Int):Option (Int×Int):=
 (Q114.f N b).bind fun a=>
 some ((a.1.length/3:Int),a.2)
noncomputable def Q115.E (N:Nat):jC:=iD [(23,iW)] [(23,Q114.ent N)] [] [] N [.tmp 2,.tmp 3] [.any,.any] 0 14
noncomputable def Q115.dec (v:V)(bs:List rA):Option (Int×Int):=match v,bs with
 | .tup [.c (.int .i64 a),.c (.int .i64 b)],[]=>some (a,b)
 |_,_=>none
theorem Q115.f_eq (N:Nat)(a:Int):
  aB (Q115.E N) (bo Tryz.f17) [.c (.int .i64 a)] [] Q115.dec=Q115.f N a:=by kernel_rfl
noncomputable def Q115.ent (N:Nat):uA:=tD (Int×Int) 0 [true] [.any] fun
 | [.c (.int .i64 a)]=>some (Q115.f N a,fun r=>.one (.tup [.c (.int .i64 r.1),.c (.int .i64 r.2)]) [])
 |_=>none
theorem Q115.env (N:Nat):yA Tryz.prog (Q115.E N):=⟨(.cons fI .nil),(.cons (Q114.ent_ok N) .nil)⟩
theorem Q115.spec (N:Nat)(a:Int)(r:Int×Int)(h:Q115.f N a=some r):eA Tryz.prog 17 [.c (.int .i64 a)] [] (.tup [.c (.int .i64 r.1),.c (.int .i64 r.2)]) ([]):=pA (Q115.env N) bA Tryz.func17 cA.n ((Q115.f_eq ..).trans h) fun v b e=>by unfold Q115.dec at e;split at e<;>cases e;exact⟨rfl,rfl⟩
theorem Q115.ent_ok (N:Nat):oA Tryz.prog 17 (Q115.ent N):=sA fun v a e h=>by split at h;exact nB (Q:=fun e=>eA _ _ _ _ (e a).pick.1 (e a).pick.2) h fun k=>Q115.spec N _ a k;cases h
noncomputable def Q116.l1 {R:Type}(N:Nat):Nat→Int→Int→Int→List Int→(Int→Int→Int→List Int→Option R)→Option R
 |0,_,_,_,_,_=>none
 |n+1,a,d,b,e,c=>
  bif !(a==0)then
   bif (Int.tmod b a)==0 then
    bif !(a==0)then
     Q116.l1 N n a (aA (d+1)) (aA (Int.tdiv b a)) e c
    else none
   else
   c a d b e
  else none
noncomputable def Q116.f (N:Nat)(e f:Int)(g:List Int):Option (Bool×Int×List Int):=
 Q116.l1 N N e 0 f g
  (fun d b c a=>
   bif decide (b>0)then
    bif jB ((a.length+2)/2) 16 then
     some (true,c,a++[d,b])
    else none
   else
   some (false,c,a))
noncomputable def Q116.h1:cC:=⟨[(0,.any),(1,.any),(2,.any),(4,.any)],[(0,.any),(2,.any),(4,.any)]⟩
noncomputable def Q116.c1 (N:Nat):nF:=⟨fun vs H k=>match vs,H with
 | [.c (.int .i64 c),.ptr 0 0 1,.ptr 1 0 1,.c (.int .i64 d)],[.vals [.c (.int .i64 e)],.vals [.sw 2 2],.ints .i64 f]=>Q116.l1 N N c d e f (fun g h a b=>k (.exit 0) ⟨fC Q116.h1.out [.c (.int .i64 g),.ptr 1 0 1,.c (.int .i64 h)],[.vals [.c (.int .i64 a)],.vals [.sw 2 2],.ints .i64 b]⟩)
 |_,_=>none⟩
noncomputable def Q116.E (N:Nat):jC:=iD [(2,aN),(3,F1),(60,Et),(64,Ge)] [] [(1,Q116.h1)] [(1,Q116.c1 N)] N [] [] 3 22 true [(1,[.row .i64 2])]
noncomputable def Q116.b1:Code:=nA ((dA (bo Tryz.f65)).getD 0 .skip)
theorem Q116.l1_eq {R:Type}(N n:Nat)(c d e:Int)(f:List Int)(k:Ex→St→Option R):
  dB 3 Q116.h1 (fun s k=>bB (Q116.E N) 396 Q116.b1 s k) n [.c (.int .i64 c),.ptr 0 0 1,.ptr 1 0 1,.c (.int .i64 d)] [.vals [.c (.int .i64 e)],.vals [.sw 2 2],.ints .i64 f] k=Q116.l1 N n c d e f (fun g h a b=>k (.exit 0) ⟨fC Q116.h1.out [.c (.int .i64 g),.ptr 1 0 1,.c (.int .i64 h)],[.vals [.c (.int .i64 a)],.vals [.sw 2 2],.ints .i64 b]⟩):=by
 induction n generalizing c d e f with
 |zero=>kernel_rfl
 |succ n ih=>
  simp only[Q116.l1,←ih]
  kernel_rfl
noncomputable def Q116.dec (v:V)(bs:List rA):Option (Bool×Int×List Int):=match v,bs with
 | .tup [],[.vals [.c (.int .i64 a)],.vals [.sw 3 2],.dead,.ints .i64 b]=>some (true,a,b)
 | .tup [],[.vals [.c (.int .i64 a)],.vals [.sw 2 2],.ints .i64 b]=>some (false,a,b)
 |_,_=>none
theorem Q116.f_eq (N:Nat)(a b:Int)(c:List Int):
  aB (Q116.E N) (bo Tryz.f65) [.c (.int .i64 a),.ptr 0 0 1,.ptr 1 0 1] [.vals [.c (.int .i64 b)],.vals [.sw 2 2],.ints .i64 c] Q116.dec=Q116.f N a b c:=by kernel_rfl
noncomputable def Q116.ent (N:Nat):uA:={A:=Bool×Int×List Int,fresh:=1,imm:=[true,false,false],dec:=fun args bs=>match fG (qA bs) [false,false,false] args,bs with
 | [.c (.int .i64 a),.ptr 0 0 1,.ptr 1 0 1],[.vals [.c (.int .i64 b)],.vals [.sw 2 2],.ints .i64 c]=>some (Q116.f N a b c,fun r=>.two r.1 (.tup []) [.vals [.c (.int .i64 r.2.1)],.vals [.sw 3 2],.dead,.ints .i64 r.2.2] (.tup []) [.vals [.c (.int .i64 r.2.1)],.vals [.sw 2 2],.ints .i64 r.2.2])
 |_,_=>none}
theorem Q116.env (N:Nat):yA Tryz.prog (Q116.E N):=⟨(.cons nC (.cons jO (.cons cX (.cons jr .nil)))),.nil⟩
theorem Q116.res_eq (N:Nat):(Q116.E N).res=Tryz.f65.results.toList:=by kernel_rfl
theorem Q116.k1 (N:Nat):gB Tryz.prog Tryz.f65 (Q116.E N) (.loop Q116.b1):=dC (Q116.env N) bA 396 (c:=Q116.c1 N) cA.n fun R vs H k r h=>by unfold Q116.c1 at h;dsimp only at h;split at h;exact⟨_,Q116.l1_eq .. ▸h⟩;cases h
theorem Q116.spec (N:Nat)(a b:Int)(c:List Int)(r:Bool×Int×List Int)(h:Q116.f N a b c=some r):eA Tryz.prog 65 [.c (.int .i64 a),.ptr 0 0 1,.ptr 1 0 1] [.vals [.c (.int .i64 b)],.vals [.sw 2 2],.ints .i64 c] ((vu.two r.1 (.tup []) [.vals [.c (.int .i64 r.2.1)],.vals [.sw 3 2],.dead,.ints .i64 r.2.2] (.tup []) [.vals [.c (.int .i64 r.2.1)],.vals [.sw 2 2],.ints .i64 r.2.2]).pick.1) ((vu.two r.1 (.tup []) [.vals [.c (.int .i64 r.2.1)],.vals [.sw 3 2],.dead,.ints .i64 r.2.2] (.tup []) [.vals [.c (.int .i64 r.2.1)],.vals [.sw 2 2],.ints .i64 r.2.2]).pick.2):=by
 rw[←Q116.f_eq]at h;refine(jY (Q116.env N) bA Tryz.func65 (by kernel_rfl:Tryz.f65.body=some (bo Tryz.f65)) (by kernel_rfl) (Q116.res_eq N) (by kernel_rfl) (by kernel_rfl) (cD (by kernel_rfl)) (cA.of (l:=[(.loop (nA ((dA (bo Tryz.f65)).getD 0 .skip)))]) (by kernel_rfl) (cA.cons (Q116.k1 N) cA.nil)) h).of fun v bs' h1=>?_;unfold Q116.dec at h1;split at h1
 ·cases h1;exact⟨rfl,rfl⟩
 ·cases h1;exact⟨rfl,rfl⟩
 ·cases h1
theorem Q116.ent_ok (N:Nat):oA Tryz.prog 65 (Q116.ent N):=by
 intro args bs a enc h;simp only[Q116.ent]at h;split at h
 ·rename_i hz;have h0:=Option.some.inj h;have h1:=congrArg Prod.fst h0;have h2:=congrArg Prod.snd h0;dsimp only at h1 h2;subst h2;exact eA.of_asSl (fl:=[false,false,false]) (by rw[hz];exact Q116.spec N _ _ _ a h1)
 ·cases h
noncomputable def Q117.l8 {R:Type}(N:Nat):Nat→Int→Int→List Int→(Int→List Int→Option R)→Option R
 |0,_,_,_,_=>none
 |n+1,a,d,e,c=>
  bif decide ((aA (a*a))≤d)then
   (Q116.f N a d e).bind fun b=>
   bif b.1 then
    Q117.l8 N n (aA (a+(aA (1+(mC .i64 a 1))))) b.2.1 b.2.2 c
   else
   Q117.l8 N n (aA (a+(aA (1+(mC .i64 a 1))))) b.2.1 b.2.2 c
  else
  c d e
noncomputable def Q117.f (N:Nat)(b:Int):Option (List Int×Int):=
 bif decide (b<1)then
  some ([],2)
 else
 bif decide (b>1099511627776)then
  some ([],3)
 else
 Q117.l8 N N 2 b []
  (fun c d=>
   bif decide (c>1)then
    (Q116.f N c c d).bind fun a=>
    bif a.1 then
     some (a.2.2,0)
    else
    some (a.2.2,0)
   else
   some (d,0))
noncomputable def Q117.h8:cC:=⟨[(1,.box [.any]),(4,.box [.row .i64 2]),(5,.any),(6,.any)],[(1,.box [.any]),(4,.box [.row .i64 2]),(5,.any)]⟩
noncomputable def Q117.c8 (N:Nat):nF:=⟨fun vs H k=>match vs,H with
 | [.ptr 0 0 1,.ptr 1 0 1,.fn 65 [] [.ptr 0 0 1,.ptr 1 0 1],.c (.int .i64 a)],[.vals [.c (.int .i64 b)],.vals [.sw 2 2],.ints .i64 c]=>Q117.l8 N N a b c (fun d e=>k (.exit 1) ⟨fC Q117.h8.out [.ptr 0 0 1,.ptr 1 0 1,.fn 65 [] [.ptr 0 0 1,.ptr 1 0 1]],[.vals [.c (.int .i64 d)],.vals [.sw 2 2],.ints .i64 e]⟩)
 |_,_=>none⟩
noncomputable def Q117.E (N:Nat):jC:=iD [(2,aN),(60,Et)] [(65,Q116.ent N)] [(8,Q117.h8)] [(8,Q117.c8 N)] N [.tmp 2,.tmp 3] [.il .i64 2,.any] 0 33
noncomputable def Q117.b8:Code:=nA ((dA (bo Tryz.f46)).getD 0 .skip)
theorem Q117.l8_eq {R:Type}(N n:Nat)(a b:Int)(c:List Int)(k:Ex→St→Option R):
  dB 0 Q117.h8 (fun s k=>bB (Q117.E N) 392 Q117.b8 s k) n [.ptr 0 0 1,.ptr 1 0 1,.fn 65 [] [.ptr 0 0 1,.ptr 1 0 1],.c (.int .i64 a)] [.vals [.c (.int .i64 b)],.vals [.sw 2 2],.ints .i64 c] k=Q117.l8 N n a b c (fun d e=>k (.exit 1) ⟨fC Q117.h8.out [.ptr 0 0 1,.ptr 1 0 1,.fn 65 [] [.ptr 0 0 1,.ptr 1 0 1]],[.vals [.c (.int .i64 d)],.vals [.sw 2 2],.ints .i64 e]⟩):=by
 induction n generalizing a b c with
 |zero=>kernel_rfl
 |succ n ih=>
  simp only[Q117.l8,←ih]
  kernel_rfl
noncomputable def Q117.dec (v:V)(bs:List rA):Option (List Int×Int):=match v,bs with
 | .tup [.il .i64 2 a,.c (.int .i64 b)],[]=>some (a,b)
 |_,_=>none
theorem Q117.f_eq (N:Nat)(a:Int):
  aB (Q117.E N) (bo Tryz.f46) [.c (.int .i64 a)] [] Q117.dec=Q117.f N a:=by kernel_rfl
noncomputable def Q117.ent (N:Nat):uA:=tD (List Int×Int) 0 [true] [.any] fun
 | [.c (.int .i64 a)]=>some (Q117.f N a,fun r=>.one (.tup [.il .i64 2 r.1,.c (.int .i64 r.2)]) [])
 |_=>none
theorem Q117.env (N:Nat):yA Tryz.prog (Q117.E N):=⟨(.cons nC (.cons cX .nil)),(.cons (Q116.ent_ok N) .nil)⟩
theorem Q117.k8 (N:Nat):gB Tryz.prog Tryz.f46 (Q117.E N) (.loop Q117.b8):=dC (Q117.env N) bA 392 (c:=Q117.c8 N) cA.n fun R vs H k r h=>by unfold Q117.c8 at h;dsimp only at h;split at h;exact⟨_,Q117.l8_eq .. ▸h⟩;cases h
theorem Q117.spec (N:Nat)(a:Int)(r:List Int×Int)(h:Q117.f N a=some r):eA Tryz.prog 46 [.c (.int .i64 a)] [] (.tup [.il .i64 2 r.1,.c (.int .i64 r.2)]) ([]):=pA (Q117.env N) bA Tryz.func46 (cA.of (l:=[(.loop (nA ((dA (bo Tryz.f46)).getD 0 .skip)))]) (by kernel_rfl) (cA.cons (Q117.k8 N) cA.nil)) ((Q117.f_eq ..).trans h) fun v b e=>by unfold Q117.dec at e;split at e<;>cases e;exact⟨rfl,rfl⟩
theorem Q117.ent_ok (N:Nat):oA Tryz.prog 46 (Q117.ent N):=sA fun v a e h=>by split at h;exact nB (Q:=fun e=>eA _ _ _ _ (e a).pick.1 (e a).pick.2) h fun k=>Q117.spec N _ a k;cases h
noncomputable def Q119.f (N:Nat)(c d e a f g h b:Int):Option (Int):=
 some (aA (b-a))
noncomputable def Q119.E (N:Nat):jC:=iD [(2,aN),(57,jq)] [] [] [] N [.tmp 4] [.any] 0 10
noncomputable def Q119.dec (v:V)(bs:List rA):Option (Int):=match v,bs with
 | .c (.int .i64 a),[]=>some a
 |_,_=>none
theorem Q119.f_eq (N:Nat)(a b c d e f g h:Int):
  aB (Q119.E N) (bo Tryz.f67) [.agg [.c (.int .i64 a),.c (.int .i64 b),.c (.int .i64 c),.c (.int .i64 d)],.agg [.c (.int .i64 e),.c (.int .i64 f),.c (.int .i64 g),.c (.int .i64 h)]] [] Q119.dec=Q119.f N a b c d e f g h:=by kernel_rfl
noncomputable def Q119.ent (N:Nat):uA:=tD (Int) 0 [true,true] [.recd [.any,.any,.any,.any],.recd [.any,.any,.any,.any]] fun
 | [.agg [.c (.int .i64 a),.c (.int .i64 b),.c (.int .i64 c),.c (.int .i64 d)],.agg [.c (.int .i64 e),.c (.int .i64 f),.c (.int .i64 g),.c (.int .i64 h)]]=>some (Q119.f N a b c d e f g h,fun r=>.one (.c (.int .i64 r)) [])
 |_=>none
theorem Q119.env (N:Nat):yA Tryz.prog (Q119.E N):=⟨(.cons nC (.cons rL .nil)),.nil⟩
theorem Q119.spec (N:Nat)(a c d f g i j k r:Int)(h:Q119.f N a c d f g i j k=some r):eA Tryz.prog 67 [.agg [.c (.int .i64 a),.c (.int .i64 c),.c (.int .i64 d),.c (.int .i64 f)],.agg [.c (.int .i64 g),.c (.int .i64 i),.c (.int .i64 j),.c (.int .i64 k)]] [] (.c (.int .i64 r)) ([]):=pA (Q119.env N) bA Tryz.func67 cA.n ((Q119.f_eq ..).trans h) fun v b e=>by unfold Q119.dec at e;split at e<;>cases e;exact⟨rfl,rfl⟩
theorem Q119.ent_ok (N:Nat):oA Tryz.prog 67 (Q119.ent N):=sA fun v a e h=>by split at h;exact nB (Q:=fun e=>eA _ _ _ _ (e a).pick.1 (e a).pick.2) h fun k=>Q119.spec N _ _ _ _ _ _ _ _ a k;cases h
noncomputable def Q120.l1 {R:Type}(N:Nat):Nat→Int→Int→Int→Int→List Int→(List Int→Option R)→Option R
 |0,_,_,_,_,_,_=>none
 |n+1,c,d,f,a,b,e=>
  bif decide (a<f)then
   bif (decide (0≤(aA (d+a))))&&(decide ((aA (d+a))<(b.length/4:Int)))then
    bif (decide (0≤(aA (c+a))))&&(decide ((aA (c+a))<(b.length/4:Int)))then
     bif (decide (0≤(aA (c+a))))&&(decide ((aA (c+a))<(b.length/4:Int)))then
      bif (decide (0≤(aA (d+a))))&&(decide ((aA (d+a))<((((((b.set (((aA (c+a)).toNat)*4) (b.getD (((aA (d+a)).toNat)*4) 0)).set ((((aA (c+a)).toNat)*4)+1) (b.getD ((((aA (d+a)).toNat)*4)+1) 0)).set ((((aA (c+a)).toNat)*4)+2) (b.getD ((((aA (d+a)).toNat)*4)+2) 0)).set ((((aA (c+a)).toNat)*4)+3) (b.getD ((((aA (d+a)).toNat)*4)+3) 0)).length)/4:Int)))then
       Q120.l1 N n c d f (aA (a+1)) ((((((((b.set (((aA (c+a)).toNat)*4) (b.getD (((aA (d+a)).toNat)*4) 0)).set ((((aA (c+a)).toNat)*4)+1) (b.getD ((((aA (d+a)).toNat)*4)+1) 0)).set ((((aA (c+a)).toNat)*4)+2) (b.getD ((((aA (d+a)).toNat)*4)+2) 0)).set ((((aA (c+a)).toNat)*4)+3) (b.getD ((((aA (d+a)).toNat)*4)+3) 0)).set (((aA (d+a)).toNat)*4) (b.getD (((aA (c+a)).toNat)*4) 0)).set ((((aA (d+a)).toNat)*4)+1) (b.getD ((((aA (c+a)).toNat)*4)+1) 0)).set ((((aA (d+a)).toNat)*4)+2) (b.getD ((((aA (c+a)).toNat)*4)+2) 0)).set ((((aA (d+a)).toNat)*4)+3) (b.getD ((((aA (c+a)).toNat)*4)+3) 0)) e
      else none
     else none
    else none
   else none
  else
  e b
noncomputable def Q120.f (N:Nat)(b c d:Int)(e:List Int):Option (List Int):=
 Q120.l1 N N b c d 0 e
  (fun a=>
   some a)
noncomputable def Q120.h1:cC:=⟨[(0,.row .i64 4),(1,.any),(2,.any),(3,.any),(10,.any)],[]⟩
noncomputable def Q120.c1 (N:Nat):nF:=⟨fun vs H k=>match vs,H with
 | [.sw 0 4,.c (.int .i64 b),.c (.int .i64 c),.c (.int .i64 d),.c (.int .i64 e)],[.ints .i64 f]=>Q120.l1 N N b c d e f (fun a=>k (.exit 0) ⟨fC Q120.h1.out [],[.ints .i64 a]⟩)
 |_,_=>none⟩
noncomputable def Q120.E (N:Nat):jC:=iD [(53,jo),(57,jq)] [] [(1,Q120.h1)] [(1,Q120.c1 N)] N [] [] 1 38
noncomputable def Q120.b1:Code:=nA ((dA (bo Tryz.f164)).getD 0 .skip)
theorem Q120.l1_eq {R:Type}(N n:Nat)(b c d e:Int)(f:List Int)(k:Ex→St→Option R):
  dB 1 Q120.h1 (fun s k=>bB (Q120.E N) 397 Q120.b1 s k) n [.sw 0 4,.c (.int .i64 b),.c (.int .i64 c),.c (.int .i64 d),.c (.int .i64 e)] [.ints .i64 f] k=Q120.l1 N n b c d e f (fun a=>k (.exit 0) ⟨fC Q120.h1.out [],[.ints .i64 a]⟩):=by
 induction n generalizing b c d e f with
 |zero=>kernel_rfl
 |succ n ih=>
  simp only[Q120.l1,←ih]
  kernel_rfl
noncomputable def Q120.dec (v:V)(bs:List rA):Option (List Int):=match v,bs with
 | .tup [],[.ints .i64 a]=>some a
 |_,_=>none
theorem Q120.f_eq (N:Nat)(a b c:Int)(d:List Int):
  aB (Q120.E N) (bo Tryz.f164) [.sw 0 4,.c (.int .i64 a),.c (.int .i64 b),.c (.int .i64 c),.fn 67 [] []] [.ints .i64 d] Q120.dec=Q120.f N a b c d:=by kernel_rfl
noncomputable def Q120.ent (N:Nat):uA:={A:=List Int,fresh:=0,imm:=[false,true,true,true,false],dec:=fun args bs=>match fG (qA bs) [false,false,false,false,false] args,bs with
 | [.sw 0 4,.c (.int .i64 a),.c (.int .i64 b),.c (.int .i64 c),.fn 67 [] []],[.ints .i64 d]=>some (Q120.f N a b c d,fun r=>.one (.tup []) [.ints .i64 r])
 |_,_=>none}
theorem Q120.env (N:Nat):yA Tryz.prog (Q120.E N):=⟨(.cons qL (.cons rL .nil)),.nil⟩
theorem Q120.k1 (N:Nat):gB Tryz.prog Tryz.f164 (Q120.E N) (.loop Q120.b1):=dC (Q120.env N) bA 397 (c:=Q120.c1 N) cA.n fun R vs H k r h=>by unfold Q120.c1 at h;dsimp only at h;split at h;exact⟨_,Q120.l1_eq .. ▸h⟩;cases h
theorem Q120.spec (N:Nat)(a c d:Int)(f r:List Int)(h:Q120.f N a c d f=some r):eA Tryz.prog 164 [.sw 0 4,.c (.int .i64 a),.c (.int .i64 c),.c (.int .i64 d),.fn 67 [] []] [.ints .i64 f] (.tup []) ([.ints .i64 r]):=pA (Q120.env N) bA Tryz.func164 (cA.of (l:=[(.loop (nA ((dA (bo Tryz.f164)).getD 0 .skip)))]) (by kernel_rfl) (cA.cons (Q120.k1 N) cA.nil)) ((Q120.f_eq ..).trans h) fun v b e=>by unfold Q120.dec at e;split at e<;>cases e;exact⟨rfl,rfl⟩
theorem Q120.ent_ok (N:Nat):oA Tryz.prog 164 (Q120.ent N):=by
 intro args bs a enc h;simp only[Q120.ent]at h;split at h
 ·rename_i hz;have h0:=Option.some.inj h;have h1:=congrArg Prod.fst h0;have h2:=congrArg Prod.snd h0;dsimp only at h1 h2;subst h2;exact eA.of_asSl (fl:=[false,false,false,false,false]) (by rw[hz];exact Q120.spec N _ _ _ _ a h1)
 ·cases h
noncomputable def Q121.l2 {R:Type}(N:Nat):Nat→Int→Int→Int→List Int→(Int→Int→List Int→Option R)→Option R
 |0,_,_,_,_,_=>none
 |n+1,b,a,c,f,d=>
  bif a != c then
   bif decide (a>c)then
    (Q120.f N (aA (b-a)) b c f).bind fun g=>
    Q121.l2 N n b (aA (a-c)) c g d
   else
   (Q120.f N (aA (b-a)) (aA ((aA (b+c))-a)) a f).bind fun e=>
   Q121.l2 N n b a (aA (c-a)) e d
  else
  d b a f
noncomputable def Q121.f (N:Nat)(f c g:Int)(h:List Int):Option (List Int):=
 Q121.l2 N N c (aA (c-f)) (aA (g-c)) h
  (fun a b e=>
   (Q120.f N (aA (a-b)) a b e).bind fun d=>
   some d)
noncomputable def Q121.h2:cC:=⟨[(0,.row .i64 4),(2,.any),(4,.any),(10,.any),(11,.any)],[(0,.row .i64 4),(2,.any),(4,.any),(10,.any)]⟩
noncomputable def Q121.c2 (N:Nat):nF:=⟨fun vs H k=>match vs,H with
 | [.sw 0 4,.c (.int .i64 d),.fn 67 [] [],.c (.int .i64 e),.c (.int .i64 f)],[.ints .i64 g]=>Q121.l2 N N d e f g (fun a b c=>k (.exit 0) ⟨fC Q121.h2.out [.sw 0 4,.c (.int .i64 a),.fn 67 [] [],.c (.int .i64 b)],[.ints .i64 c]⟩)
 |_,_=>none⟩
noncomputable def Q121.E (N:Nat):jC:=iD [] [(164,Q120.ent N)] [(2,Q121.h2)] [(2,Q121.c2 N)] N [] [] 1 58
noncomputable def Q121.b2:Code:=nA ((dA (bo Tryz.f155)).getD 0 .skip)
theorem Q121.l2_eq {R:Type}(N n:Nat)(d e f:Int)(g:List Int)(k:Ex→St→Option R):
  dB 1 Q121.h2 (fun s k=>bB (Q121.E N) 395 Q121.b2 s k) n [.sw 0 4,.c (.int .i64 d),.fn 67 [] [],.c (.int .i64 e),.c (.int .i64 f)] [.ints .i64 g] k=Q121.l2 N n d e f g (fun a b c=>k (.exit 0) ⟨fC Q121.h2.out [.sw 0 4,.c (.int .i64 a),.fn 67 [] [],.c (.int .i64 b)],[.ints .i64 c]⟩):=by
 induction n generalizing d e f g with
 |zero=>kernel_rfl
 |succ n ih=>
  simp only[Q121.l2,←ih]
  kernel_rfl
noncomputable def Q121.dec (v:V)(bs:List rA):Option (List Int):=match v,bs with
 | .tup [],[.ints .i64 a]=>some a
 |_,_=>none
theorem Q121.f_eq (N:Nat)(a b c:Int)(d:List Int):
  aB (Q121.E N) (bo Tryz.f155) [.sw 0 4,.c (.int .i64 a),.c (.int .i64 b),.c (.int .i64 c),.fn 67 [] []] [.ints .i64 d] Q121.dec=Q121.f N a b c d:=by kernel_rfl
noncomputable def Q121.ent (N:Nat):uA:={A:=List Int,fresh:=0,imm:=[false,true,true,true,false],dec:=fun args bs=>match fG (qA bs) [false,false,false,false,false] args,bs with
 | [.sw 0 4,.c (.int .i64 a),.c (.int .i64 b),.c (.int .i64 c),.fn 67 [] []],[.ints .i64 d]=>some (Q121.f N a b c d,fun r=>.one (.tup []) [.ints .i64 r])
 |_,_=>none}
theorem Q121.env (N:Nat):yA Tryz.prog (Q121.E N):=⟨.nil,(.cons (Q120.ent_ok N) .nil)⟩
theorem Q121.k2 (N:Nat):gB Tryz.prog Tryz.f155 (Q121.E N) (.loop Q121.b2):=dC (Q121.env N) bA 395 (c:=Q121.c2 N) cA.n fun R vs H k r h=>by unfold Q121.c2 at h;dsimp only at h;split at h;exact⟨_,Q121.l2_eq .. ▸h⟩;cases h
theorem Q121.spec (N:Nat)(a c d:Int)(f r:List Int)(h:Q121.f N a c d f=some r):eA Tryz.prog 155 [.sw 0 4,.c (.int .i64 a),.c (.int .i64 c),.c (.int .i64 d),.fn 67 [] []] [.ints .i64 f] (.tup []) ([.ints .i64 r]):=pA (Q121.env N) bA Tryz.func155 (cA.of (l:=[(.loop (nA ((dA (bo Tryz.f155)).getD 0 .skip)))]) (by kernel_rfl) (cA.cons (Q121.k2 N) cA.nil)) ((Q121.f_eq ..).trans h) fun v b e=>by unfold Q121.dec at e;split at e<;>cases e;exact⟨rfl,rfl⟩
theorem Q121.ent_ok (N:Nat):oA Tryz.prog 155 (Q121.ent N):=by
 intro args bs a enc h;simp only[Q121.ent]at h;split at h
 ·rename_i hz;have h0:=Option.some.inj h;have h1:=congrArg Prod.fst h0;have h2:=congrArg Prod.snd h0;dsimp only at h1 h2;subst h2;exact eA.of_asSl (fl:=[false,false,false,false,false]) (by rw[hz];exact Q121.spec N _ _ _ _ a h1)
 ·cases h
noncomputable def Q122.l4 {R:Type}(N:Nat):Nat→Int→Int→Int→Int→List Int→(Int→Int→Int→List Int→Option R)→Option R
 |0,_,_,_,_,_,_=>none
 |n+1,d,g,c,a,b,e=>
  bif decide (a>d)then
   bif (decide (0≤a))&&(decide (a<(b.length/4:Int)))then
    bif (decide (0≤(aA (a-1))))&&(decide ((aA (a-1))<(b.length/4:Int)))then
     (Q119.f N (b.getD (a.toNat*4) 0) (b.getD ((a.toNat*4)+1) 0) (b.getD ((a.toNat*4)+2) 0) (b.getD ((a.toNat*4)+3) 0) (b.getD (((aA (a-1)).toNat)*4) 0) (b.getD ((((aA (a-1)).toNat)*4)+1) 0) (b.getD ((((aA (a-1)).toNat)*4)+2) 0) (b.getD ((((aA (a-1)).toNat)*4)+3) 0)).bind fun f=>
     bif decide (f<0)then
      bif (decide (0≤(aA (a-1))))&&(decide ((aA (a-1))<(b.length/4:Int)))then
       bif (decide (0≤a))&&(decide (a<(b.length/4:Int)))then
        bif (decide (0≤a))&&(decide (a<(b.length/4:Int)))then
         bif (decide (0≤(aA (a-1))))&&(decide ((aA (a-1))<(((((((b.set (a.toNat*4) (b.getD (((aA (a-1)).toNat)*4) 0)).set ((a.toNat*4)+1) (b.getD ((((aA (a-1)).toNat)*4)+1) 0)).set ((a.toNat*4)+2) (b.getD ((((aA (a-1)).toNat)*4)+2) 0)).set ((a.toNat*4)+3) (b.getD ((((aA (a-1)).toNat)*4)+3) 0)).length)/4:Nat):Int)))then
          Q122.l4 N n d g c (aA (a-1)) ((((((((b.set (a.toNat*4) (b.getD (((aA (a-1)).toNat)*4) 0)).set ((a.toNat*4)+1) (b.getD ((((aA (a-1)).toNat)*4)+1) 0)).set ((a.toNat*4)+2) (b.getD ((((aA (a-1)).toNat)*4)+2) 0)).set ((a.toNat*4)+3) (b.getD ((((aA (a-1)).toNat)*4)+3) 0)).set (((aA (a-1)).toNat)*4) (b.getD (a.toNat*4) 0)).set ((((aA (a-1)).toNat)*4)+1) (b.getD ((a.toNat*4)+1) 0)).set ((((aA (a-1)).toNat)*4)+2) (b.getD ((a.toNat*4)+2) 0)).set ((((aA (a-1)).toNat)*4)+3) (b.getD ((a.toNat*4)+3) 0)) e
         else none
        else none
       else none
      else none
     else
     e d g c b
    else none
   else none
  else
  e d g c b
noncomputable def Q122.l1 {R:Type}(N:Nat):Nat→Int→Int→Int→List Int→(List Int→Option R)→Option R
 |0,_,_,_,_,_=>none
 |n+1,i,g,a,h,f=>
  bif decide (a<g)then
   Q122.l4 N N i g a a h
    (fun b c d e=>
     Q122.l1 N n b c (aA (d+1)) e f)
  else
  f h
noncomputable def Q122.f (N:Nat)(b c:Int)(d:List Int):Option (List Int):=
 Q122.l1 N N b c (aA (b+1)) d
  (fun a=>
   some a)
noncomputable def Q122.h1:cC:=⟨[(0,.row .i64 4),(1,.any),(2,.any),(3,.any),(8,.any)],[]⟩
noncomputable def Q122.h4:cC:=⟨[(0,.row .i64 4),(1,.any),(2,.any),(3,.any),(8,.any),(9,.any)],[(0,.row .i64 4),(1,.any),(2,.any),(3,.any),(8,.any)]⟩
noncomputable def Q122.c4 (N:Nat):nF:=⟨fun vs H k=>match vs,H with
 | [.sw 0 4,.c (.int .i64 h),.c (.int .i64 i),.fn 67 [] [],.c (.int .i64 a),.c (.int .i64 b)],[.ints .i64 c]=>Q122.l4 N N h i a b c (fun d e f g=>k (.exit 2) ⟨fC Q122.h4.out [.sw 0 4,.c (.int .i64 d),.c (.int .i64 e),.fn 67 [] [],.c (.int .i64 f)],[.ints .i64 g]⟩)
 |_,_=>none⟩
noncomputable def Q122.c1 (N:Nat):nF:=⟨fun vs H k=>match vs,H with
 | [.sw 0 4,.c (.int .i64 b),.c (.int .i64 c),.fn 67 [] [],.c (.int .i64 d)],[.ints .i64 e]=>Q122.l1 N N b c d e (fun a=>k (.exit 0) ⟨fC Q122.h1.out [],[.ints .i64 a]⟩)
 |_,_=>none⟩
noncomputable def Q122.E (N:Nat):jC:=iD [(53,jo),(57,jq)] [(67,Q119.ent N)] [(1,Q122.h1),(4,Q122.h4)] [(4,Q122.c4 N),(1,Q122.c1 N)] N [] [] 1 53
noncomputable def Q122.b4:Code:=nA ((dA (bo Tryz.f127)).getD 1 .skip)
theorem Q122.l4_eq {R:Type}(N n:Nat)(h i a b:Int)(c:List Int)(k:Ex→St→Option R):
  dB 1 Q122.h4 (fun s k=>bB (Q122.E N) 391 Q122.b4 s k) n [.sw 0 4,.c (.int .i64 h),.c (.int .i64 i),.fn 67 [] [],.c (.int .i64 a),.c (.int .i64 b)] [.ints .i64 c] k=Q122.l4 N n h i a b c (fun d e f g=>k (.exit 2) ⟨fC Q122.h4.out [.sw 0 4,.c (.int .i64 d),.c (.int .i64 e),.fn 67 [] [],.c (.int .i64 f)],[.ints .i64 g]⟩):=by
 induction n generalizing h i a b c with
 |zero=>kernel_rfl
 |succ n ih=>
  simp only[Q122.l4,←ih]
  kernel_rfl
noncomputable def Q122.b1:Code:=nA ((dA (bo Tryz.f127)).getD 0 .skip)
theorem Q122.l1_eq {R:Type}(N n:Nat)(b c d:Int)(e:List Int)(k:Ex→St→Option R):
  dB 1 Q122.h1 (fun s k=>bB (Q122.E N) 397 Q122.b1 s k) n [.sw 0 4,.c (.int .i64 b),.c (.int .i64 c),.fn 67 [] [],.c (.int .i64 d)] [.ints .i64 e] k=Q122.l1 N n b c d e (fun a=>k (.exit 0) ⟨fC Q122.h1.out [],[.ints .i64 a]⟩):=by
 induction n generalizing b c d e with
 |zero=>kernel_rfl
 |succ n ih=>
  simp only[Q122.l1,←ih]
  kernel_rfl
noncomputable def Q122.dec (v:V)(bs:List rA):Option (List Int):=match v,bs with
 | .tup [],[.ints .i64 a]=>some a
 |_,_=>none
theorem Q122.f_eq (N:Nat)(a b:Int)(c:List Int):
  aB (Q122.E N) (bo Tryz.f127) [.sw 0 4,.c (.int .i64 a),.c (.int .i64 b),.fn 67 [] []] [.ints .i64 c] Q122.dec=Q122.f N a b c:=by kernel_rfl
noncomputable def Q122.ent (N:Nat):uA:={A:=List Int,fresh:=0,imm:=[false,true,true,false],dec:=fun args bs=>match fG (qA bs) [false,false,false,false] args,bs with
 | [.sw 0 4,.c (.int .i64 a),.c (.int .i64 b),.fn 67 [] []],[.ints .i64 c]=>some (Q122.f N a b c,fun r=>.one (.tup []) [.ints .i64 r])
 |_,_=>none}
theorem Q122.env (N:Nat):yA Tryz.prog (Q122.E N):=⟨(.cons qL (.cons rL .nil)),(.cons (Q119.ent_ok N) .nil)⟩
theorem Q122.k4 (N:Nat):gB Tryz.prog Tryz.f127 (Q122.E N) (.loop Q122.b4):=dC (Q122.env N) bA 391 (c:=Q122.c4 N) cA.n fun R vs H k r h=>by unfold Q122.c4 at h;dsimp only at h;split at h;exact⟨_,Q122.l4_eq .. ▸h⟩;cases h
theorem Q122.k1 (N:Nat):gB Tryz.prog Tryz.f127 (Q122.E N) (.loop Q122.b1):=dC (Q122.env N) bA 397 (c:=Q122.c1 N) (cA.of (l:=[(.loop (nA ((dA (bo Tryz.f127)).getD 1 .skip)))]) (by kernel_rfl) (cA.cons (Q122.k4 N) cA.nil)) fun R vs H k r h=>by unfold Q122.c1 at h;dsimp only at h;split at h;exact⟨_,Q122.l1_eq .. ▸h⟩;cases h
theorem Q122.spec (N:Nat)(a c:Int)(d r:List Int)(h:Q122.f N a c d=some r):eA Tryz.prog 127 [.sw 0 4,.c (.int .i64 a),.c (.int .i64 c),.fn 67 [] []] [.ints .i64 d] (.tup []) ([.ints .i64 r]):=pA (Q122.env N) bA Tryz.func127 (cA.of (l:=[(.loop (nA ((dA (bo Tryz.f127)).getD 0 .skip))),(.loop (nA ((dA (bo Tryz.f127)).getD 1 .skip)))]) (by kernel_rfl) (cA.cons (Q122.k1 N) (cA.cons (Q122.k4 N) cA.nil))) ((Q122.f_eq ..).trans h) fun v b e=>by unfold Q122.dec at e;split at e<;>cases e;exact⟨rfl,rfl⟩
theorem Q122.ent_ok (N:Nat):oA Tryz.prog 127 (Q122.ent N):=by
 intro args bs a enc h;simp only[Q122.ent]at h;split at h
 ·rename_i hz;have h0:=Option.some.inj h;have h1:=congrArg Prod.fst h0;have h2:=congrArg Prod.snd h0;dsimp only at h1 h2;subst h2;exact eA.of_asSl (fl:=[false,false,false,false]) (by rw[hz];exact Q122.spec N _ _ _ a h1)
 ·cases h
noncomputable def Q123.l3 {R:Type}(g:Int→Int→Int→List Int→Option (List Int))(N:Nat):Nat→Int→Int→Int→List Int→(Int→Int→List Int→Option R)→Option R
 |0,_,_,_,_,_=>none
 |n+1,d,b,c,a,e=>
  bif decide (b<c)then
   bif (decide (0≤(aA (Int.fdiv (jA (aA (b+c))) (2^1)))))&&(decide ((aA (Int.fdiv (jA (aA (b+c))) (2^1)))<(a.length/4:Int)))then
    bif (decide (0≤d))&&(decide (d<(a.length/4:Int)))then
     (Q119.f N (a.getD (((aA (Int.fdiv (jA (aA (b+c))) (2^1))).toNat)*4) 0) (a.getD ((((aA (Int.fdiv (jA (aA (b+c))) (2^1))).toNat)*4)+1) 0) (a.getD ((((aA (Int.fdiv (jA (aA (b+c))) (2^1))).toNat)*4)+2) 0) (a.getD ((((aA (Int.fdiv (jA (aA (b+c))) (2^1))).toNat)*4)+3) 0) (a.getD (d.toNat*4) 0) (a.getD ((d.toNat*4)+1) 0) (a.getD ((d.toNat*4)+2) 0) (a.getD ((d.toNat*4)+3) 0)).bind fun f=>
     bif decide (f<0)then
      Q123.l3 g N n d (aA ((aA (Int.fdiv (jA (aA (b+c))) (2^1)))+1)) c a e
     else
     Q123.l3 g N n d b (aA (Int.fdiv (jA (aA (b+c))) (2^1))) a e
    else none
   else none
  else
  e d b a
noncomputable def Q123.l9 {R:Type}(g:Int→Int→Int→List Int→Option (List Int))(N:Nat):Nat→Int→Int→List Int→(List Int→Option R)→Option R
 |0,_,_,_,_=>none
 |n+1,c,a,b,d=>
  bif decide (a<(aA (c-1)))then
   bif (decide (0≤(aA (a+1))))&&(decide ((aA (a+1))<(b.length/4:Int)))then
    bif (decide (0≤a))&&(decide (a<(b.length/4:Int)))then
     bif (decide (0≤a))&&(decide (a<(b.length/4:Int)))then
      bif (decide (0≤(aA (a+1))))&&(decide ((aA (a+1))<((((((b.set (a.toNat*4) (b.getD (((aA (a+1)).toNat)*4) 0)).set ((a.toNat*4)+1) (b.getD ((((aA (a+1)).toNat)*4)+1) 0)).set ((a.toNat*4)+2) (b.getD ((((aA (a+1)).toNat)*4)+2) 0)).set ((a.toNat*4)+3) (b.getD ((((aA (a+1)).toNat)*4)+3) 0)).length)/4:Int)))then
       Q123.l9 g N n c (aA (a+1)) ((((((((b.set (a.toNat*4) (b.getD (((aA (a+1)).toNat)*4) 0)).set ((a.toNat*4)+1) (b.getD ((((aA (a+1)).toNat)*4)+1) 0)).set ((a.toNat*4)+2) (b.getD ((((aA (a+1)).toNat)*4)+2) 0)).set ((a.toNat*4)+3) (b.getD ((((aA (a+1)).toNat)*4)+3) 0)).set (((aA (a+1)).toNat)*4) (b.getD (a.toNat*4) 0)).set ((((aA (a+1)).toNat)*4)+1) (b.getD ((a.toNat*4)+1) 0)).set ((((aA (a+1)).toNat)*4)+2) (b.getD ((a.toNat*4)+2) 0)).set ((((aA (a+1)).toNat)*4)+3) (b.getD ((a.toNat*4)+3) 0)) d
      else none
     else none
    else none
   else none
  else
  d b
noncomputable def Q123.l15 {R:Type}(g:Int→Int→Int→List Int→Option (List Int))(N:Nat):Nat→Int→Int→Int→List Int→(Int→Int→List Int→Option R)→Option R
 |0,_,_,_,_,_=>none
 |n+1,d,b,c,a,e=>
  bif decide (b<c)then
   bif (decide (0≤d))&&(decide (d<(a.length/4:Int)))then
    bif (decide (0≤(aA (Int.fdiv (jA (aA (b+c))) (2^1)))))&&(decide ((aA (Int.fdiv (jA (aA (b+c))) (2^1)))<(a.length/4:Int)))then
     (Q119.f N (a.getD (d.toNat*4) 0) (a.getD ((d.toNat*4)+1) 0) (a.getD ((d.toNat*4)+2) 0) (a.getD ((d.toNat*4)+3) 0) (a.getD (((aA (Int.fdiv (jA (aA (b+c))) (2^1))).toNat)*4) 0) (a.getD ((((aA (Int.fdiv (jA (aA (b+c))) (2^1))).toNat)*4)+1) 0) (a.getD ((((aA (Int.fdiv (jA (aA (b+c))) (2^1))).toNat)*4)+2) 0) (a.getD ((((aA (Int.fdiv (jA (aA (b+c))) (2^1))).toNat)*4)+3) 0)).bind fun f=>
     bif !(decide (f<0))then
      Q123.l15 g N n d (aA ((aA (Int.fdiv (jA (aA (b+c))) (2^1)))+1)) c a e
     else
     Q123.l15 g N n d b (aA (Int.fdiv (jA (aA (b+c))) (2^1))) a e
    else none
   else none
  else
  e d b a
noncomputable def Q123.l21 {R:Type}(g:Int→Int→Int→List Int→Option (List Int))(N:Nat):Nat→Int→Int→List Int→(List Int→Option R)→Option R
 |0,_,_,_,_=>none
 |n+1,c,a,b,d=>
  bif decide (a>c)then
   bif (decide (0≤(aA (a-1))))&&(decide ((aA (a-1))<(b.length/4:Int)))then
    bif (decide (0≤a))&&(decide (a<(b.length/4:Int)))then
     bif (decide (0≤a))&&(decide (a<(b.length/4:Int)))then
      bif (decide (0≤(aA (a-1))))&&(decide ((aA (a-1))<(((((((b.set (a.toNat*4) (b.getD (((aA (a-1)).toNat)*4) 0)).set ((a.toNat*4)+1) (b.getD ((((aA (a-1)).toNat)*4)+1) 0)).set ((a.toNat*4)+2) (b.getD ((((aA (a-1)).toNat)*4)+2) 0)).set ((a.toNat*4)+3) (b.getD ((((aA (a-1)).toNat)*4)+3) 0)).length)/4:Nat):Int)))then
       Q123.l21 g N n c (aA (a-1)) ((((((((b.set (a.toNat*4) (b.getD (((aA (a-1)).toNat)*4) 0)).set ((a.toNat*4)+1) (b.getD ((((aA (a-1)).toNat)*4)+1) 0)).set ((a.toNat*4)+2) (b.getD ((((aA (a-1)).toNat)*4)+2) 0)).set ((a.toNat*4)+3) (b.getD ((((aA (a-1)).toNat)*4)+3) 0)).set (((aA (a-1)).toNat)*4) (b.getD (a.toNat*4) 0)).set ((((aA (a-1)).toNat)*4)+1) (b.getD ((a.toNat*4)+1) 0)).set ((((aA (a-1)).toNat)*4)+2) (b.getD ((a.toNat*4)+2) 0)).set ((((aA (a-1)).toNat)*4)+3) (b.getD ((a.toNat*4)+3) 0)) d
      else none
     else none
    else none
   else none
  else
  d b
noncomputable def Q123.l33 {R:Type}(g:Int→Int→Int→List Int→Option (List Int))(N:Nat):Nat→Int→Int→Int→Int→Int→Int→Int→Int→List Int→(Int→Int→Int→Int→Int→Int→List Int→Option R)→Option R
 |0,_,_,_,_,_,_,_,_,_,_=>none
 |n+1,e,f,h,i,j,a,b,d,c,k=>
  bif decide (a<b)then
   bif (decide (0≤(aA (d- (aA (Int.fdiv (jA (aA (a+b))) (2^1)))))))&&(decide ((aA (d- (aA (Int.fdiv (jA (aA (a+b))) (2^1)))))<(c.length/4:Int)))then
    bif (decide (0≤(aA (Int.fdiv (jA (aA (a+b))) (2^1)))))&&(decide ((aA (Int.fdiv (jA (aA (a+b))) (2^1)))<(c.length/4:Int)))then
     (Q119.f N (c.getD (((aA (d- (aA (Int.fdiv (jA (aA (a+b))) (2^1))))).toNat)*4) 0) (c.getD ((((aA (d- (aA (Int.fdiv (jA (aA (a+b))) (2^1))))).toNat)*4)+1) 0) (c.getD ((((aA (d- (aA (Int.fdiv (jA (aA (a+b))) (2^1))))).toNat)*4)+2) 0) (c.getD ((((aA (d- (aA (Int.fdiv (jA (aA (a+b))) (2^1))))).toNat)*4)+3) 0) (c.getD (((aA (Int.fdiv (jA (aA (a+b))) (2^1))).toNat)*4) 0) (c.getD ((((aA (Int.fdiv (jA (aA (a+b))) (2^1))).toNat)*4)+1) 0) (c.getD ((((aA (Int.fdiv (jA (aA (a+b))) (2^1))).toNat)*4)+2) 0) (c.getD ((((aA (Int.fdiv (jA (aA (a+b))) (2^1))).toNat)*4)+3) 0)).bind fun l=>
     bif !(decide (l<0))then
      Q123.l33 g N n e f h i j (aA ((aA (Int.fdiv (jA (aA (a+b))) (2^1)))+1)) b d c k
     else
     Q123.l33 g N n e f h i j a (aA (Int.fdiv (jA (aA (a+b))) (2^1))) d c k
    else none
   else none
  else
  k e f h i j a c
noncomputable def Q123.step (g:Int→Int→Int→List Int→Option (List Int))(N:Nat)(o q r:Int)(a4:List Int):Option (List Int):=
 bif (aA (q-o))==1 then
  Q123.l3 g N N o q r a4
   (fun y13 y14 y15=>
    Q123.l9 g N N y14 y13 y15
     (fun y20=>
      some y20))
 else
 bif (aA (r-q))==1 then
  Q123.l15 g N N q o q a4
   (fun y30 y31 y32=>
    Q123.l21 g N N y31 y30 y32
     (fun y37=>
      some y37))
 else
 bif decide (q>(aA (Int.fdiv (jA (aA (o+r))) (2^1))))then
  Q123.l33 g N N o q r (aA (Int.fdiv (jA (aA (o+r))) (2^1))) (aA ((aA (Int.fdiv (jA (aA (o+r))) (2^1)))+q)) (aA ((aA ((aA (Int.fdiv (jA (aA (o+r))) (2^1)))+q))-r)) (aA (Int.fdiv (jA (aA (o+r))) (2^1))) (aA ((aA ((aA (Int.fdiv (jA (aA (o+r))) (2^1)))+q))-1)) a4
   (fun s y57 j h e c k=>
    bif decide (c<y57)then
     bif decide (y57<(aA (e-c)))then
      (Q121.f N c y57 (aA (e-c)) k).bind fun p=>
      bif decide (s<c)then
       bif decide (c<h)then
        (g s c h p).bind fun x=>
        bif decide (h<(aA (e-c)))then
         bif decide ((aA (e-c))<j)then
          (g h (aA (e-c)) j x).bind fun r65=>
          some r65
         else
         some x
        else
        some x
       else
       bif decide (h<(aA (e-c)))then
        bif decide ((aA (e-c))<j)then
         (g h (aA (e-c)) j p).bind fun r69=>
         some r69
        else
        some p
       else
       some p
      else
      bif decide (h<(aA (e-c)))then
       bif decide ((aA (e-c))<j)then
        (g h (aA (e-c)) j p).bind fun r73=>
        some r73
       else
       some p
      else
      some p
     else
     bif decide (s<c)then
      bif decide (c<h)then
       (g s c h k).bind fun y=>
       bif decide (h<(aA (e-c)))then
        bif decide ((aA (e-c))<j)then
         (g h (aA (e-c)) j y).bind fun r78=>
         some r78
        else
        some y
       else
       some y
      else
      bif decide (h<(aA (e-c)))then
       bif decide ((aA (e-c))<j)then
        (g h (aA (e-c)) j k).bind fun r82=>
        some r82
       else
       some k
      else
      some k
     else
     bif decide (h<(aA (e-c)))then
      bif decide ((aA (e-c))<j)then
       (g h (aA (e-c)) j k).bind fun r86=>
       some r86
      else
      some k
     else
     some k
    else
    bif decide (s<c)then
     bif decide (c<h)then
      (g s c h k).bind fun z=>
      bif decide (h<(aA (e-c)))then
       bif decide ((aA (e-c))<j)then
        (g h (aA (e-c)) j z).bind fun r91=>
        some r91
       else
       some z
      else
      some z
     else
     bif decide (h<(aA (e-c)))then
      bif decide ((aA (e-c))<j)then
       (g h (aA (e-c)) j k).bind fun r95=>
       some r95
      else
      some k
     else
     some k
    else
    bif decide (h<(aA (e-c)))then
     bif decide ((aA (e-c))<j)then
      (g h (aA (e-c)) j k).bind fun r99=>
      some r99
     else
     some k
    else
    some k)
 else
 Q123.l33 g N N o q r (aA (Int.fdiv (jA (aA (o+r))) (2^1))) (aA ((aA (Int.fdiv (jA (aA (o+r))) (2^1)))+q)) o q (aA ((aA ((aA (Int.fdiv (jA (aA (o+r))) (2^1)))+q))-1)) a4
  (fun m w f d b a i=>
   bif decide (a<w)then
    bif decide (w<(aA (b-a)))then
     (Q121.f N a w (aA (b-a)) i).bind fun l=>
     bif decide (m<a)then
      bif decide (a<d)then
       (g m a d l).bind fun t=>
       bif decide (d<(aA (b-a)))then
        bif decide ((aA (b-a))<f)then
         (g d (aA (b-a)) f t).bind fun r112=>
         some r112
        else
        some t
       else
       some t
      else
      bif decide (d<(aA (b-a)))then
       bif decide ((aA (b-a))<f)then
        (g d (aA (b-a)) f l).bind fun r116=>
        some r116
       else
       some l
      else
      some l
     else
     bif decide (d<(aA (b-a)))then
      bif decide ((aA (b-a))<f)then
       (g d (aA (b-a)) f l).bind fun r120=>
       some r120
      else
      some l
     else
     some l
    else
    bif decide (m<a)then
     bif decide (a<d)then
      (g m a d i).bind fun u=>
      bif decide (d<(aA (b-a)))then
       bif decide ((aA (b-a))<f)then
        (g d (aA (b-a)) f u).bind fun r125=>
        some r125
       else
       some u
      else
      some u
     else
     bif decide (d<(aA (b-a)))then
      bif decide ((aA (b-a))<f)then
       (g d (aA (b-a)) f i).bind fun r129=>
       some r129
      else
      some i
     else
     some i
    else
    bif decide (d<(aA (b-a)))then
     bif decide ((aA (b-a))<f)then
      (g d (aA (b-a)) f i).bind fun r133=>
      some r133
     else
     some i
    else
    some i
   else
   bif decide (m<a)then
    bif decide (a<d)then
     (g m a d i).bind fun v=>
     bif decide (d<(aA (b-a)))then
      bif decide ((aA (b-a))<f)then
       (g d (aA (b-a)) f v).bind fun r138=>
       some r138
      else
      some v
     else
     some v
    else
    bif decide (d<(aA (b-a)))then
     bif decide ((aA (b-a))<f)then
      (g d (aA (b-a)) f i).bind fun r142=>
      some r142
     else
     some i
    else
    some i
   else
   bif decide (d<(aA (b-a)))then
    bif decide ((aA (b-a))<f)then
     (g d (aA (b-a)) f i).bind fun r146=>
     some r146
    else
    some i
   else
   some i)
noncomputable def Q123.ty:List (Nat×TI):=[(3,F1),(53,jo),(57,jq),(79,Ig)]
noncomputable def Q123.h3:cC:=⟨[(0,.row .i64 4),(1,.any),(4,.any),(10,.any),(11,.any)],[(0,.row .i64 4),(1,.any),(10,.any)]⟩
noncomputable def Q123.h9:cC:=⟨[(0,.row .i64 4),(10,.any),(13,.any)],[]⟩
noncomputable def Q123.h15:cC:=⟨[(0,.row .i64 4),(2,.any),(4,.any),(14,.any),(15,.any)],[(0,.row .i64 4),(2,.any),(14,.any)]⟩
noncomputable def Q123.h21:cC:=⟨[(0,.row .i64 4),(14,.any),(17,.any)],[]⟩
noncomputable def Q123.h33:cC:=⟨[(0,.row .i64 4),(1,.any),(2,.any),(3,.any),(4,.any),(18,.any),(19,.any),(20,.any),(21,.any),(22,.any)],[(0,.row .i64 4),(1,.any),(2,.any),(3,.any),(4,.any),(18,.any),(19,.any),(20,.any)]⟩
noncomputable def Q123.c3 (g:Int→Int→Int→List Int→Option (List Int))(N:Nat):nF:=⟨fun vs H k=>match vs,H with
 | [.sw 0 4,.c (.int .i64 d),.fn 67 [] [],.c (.int .i64 e),.c (.int .i64 f)],[.ints .i64 h]=>Q123.l3 g N N d e f h (fun a b c=>k (.exit 0) ⟨fC Q123.h3.out [.sw 0 4,.c (.int .i64 a),.c (.int .i64 b)],[.ints .i64 c]⟩)
 |_,_=>none⟩
noncomputable def Q123.c9 (g:Int→Int→Int→List Int→Option (List Int))(N:Nat):nF:=⟨fun vs H k=>match vs,H with
 | [.sw 0 4,.c (.int .i64 a),.c (.int .i64 b)],[.ints .i64 c]=>Q123.l9 g N N a b c (fun d=>k (.exit 2) ⟨fC Q123.h9.out [],[.ints .i64 d]⟩)
 |_,_=>none⟩
noncomputable def Q123.c15 (g:Int→Int→Int→List Int→Option (List Int))(N:Nat):nF:=⟨fun vs H k=>match vs,H with
 | [.sw 0 4,.c (.int .i64 a),.fn 67 [] [],.c (.int .i64 b),.c (.int .i64 c)],[.ints .i64 d]=>Q123.l15 g N N a b c d (fun e f h=>k (.exit 4) ⟨fC Q123.h15.out [.sw 0 4,.c (.int .i64 e),.c (.int .i64 f)],[.ints .i64 h]⟩)
 |_,_=>none⟩
noncomputable def Q123.c21 (g:Int→Int→Int→List Int→Option (List Int))(N:Nat):nF:=⟨fun vs H k=>match vs,H with
 | [.sw 0 4,.c (.int .i64 a),.c (.int .i64 b)],[.ints .i64 c]=>Q123.l21 g N N a b c (fun d=>k (.exit 6) ⟨fC Q123.h21.out [],[.ints .i64 d]⟩)
 |_,_=>none⟩
noncomputable def Q123.c33 (g:Int→Int→Int→List Int→Option (List Int))(N:Nat):nF:=⟨fun vs H k=>match vs,H with
 | [.sw 0 4,.c (.int .i64 a),.c (.int .i64 b),.c (.int .i64 c),.fn 67 [] [],.c (.int .i64 d),.c (.int .i64 e),.c (.int .i64 f),.c (.int .i64 h),.c (.int .i64 i)],[.ints .i64 j]=>Q123.l33 g N N a b c d e f h i j (fun l m o p q r s=>k (.exit 8) ⟨fC Q123.h33.out [.sw 0 4,.c (.int .i64 l),.c (.int .i64 m),.c (.int .i64 o),.fn 67 [] [],.c (.int .i64 p),.c (.int .i64 q),.c (.int .i64 r)],[.ints .i64 s]⟩)
 |_,_=>none⟩
noncomputable def Q123.entg (g:Int→Int→Int→List Int→Option (List Int)):uA:={A:=List Int,fresh:=0,imm:=[false,true,true,true,false],dec:=fun args bs=>match fG (qA bs) [false,false,false,false,false] args,bs with
 | [.sw 0 4,.c (.int .i64 a),.c (.int .i64 b),.c (.int .i64 c),.fn 67 [] []],[.ints .i64 d]=>some (g a b c d,fun r=>.one (.tup []) [.ints .i64 r])
 |_,_=>none}
theorem Q123.entg_ok (g:Int→Int→Int→List Int→Option (List Int))(hg:∀(b c d:Int) (e r:List Int),g b c d e=some r→eA Tryz.prog 128 [.sw 0 4,.c (.int .i64 b),.c (.int .i64 c),.c (.int .i64 d),.fn 67 [] []] [.ints .i64 e] (.tup []) ([.ints .i64 r])):oA Tryz.prog 128 (Q123.entg g):=by
 intro args bs a enc h;simp only[Q123.entg]at h;split at h
 ·rename_i hz;have h0:=Option.some.inj h;have h1:=congrArg Prod.fst h0;have h2:=congrArg Prod.snd h0;dsimp only at h1 h2;subst h2;exact eA.of_asSl (fl:=[false,false,false,false,false]) (by rw[hz];exact hg _ _ _ _ a h1)
 ·cases h
noncomputable def Q123.E (g:Int→Int→Int→List Int→Option (List Int))(N:Nat):jC:={ty:=cJ Q123.ty,tab:=cJ [(67,Q119.ent N),(155,Q121.ent N),(128,Q123.entg g)],hint:=cJ [(3,Q123.h3),(9,Q123.h9),(15,Q123.h15),(21,Q123.h21),(33,Q123.h33)],cut:=cJ [(3,Q123.c3 g N),(9,Q123.c9 g N),(15,Q123.c15 g N),(21,Q123.c21 g N),(33,Q123.c33 g N)],N:=N,res:=[],rsh:=[],nb:=1,ntmps:=220,own:=false}
noncomputable def Q123.b3:Code:=nA ((dA (bo Tryz.f128)).getD 0 .skip)
theorem Q123.l3_eq {R:Type}(g:Int→Int→Int→List Int→Option (List Int))(N n:Nat)(d e f:Int)(h:List Int)(k:Ex→St→Option R):
  dB 1 Q123.h3 (fun s k=>bB (Q123.E g N) 392 Q123.b3 s k) n [.sw 0 4,.c (.int .i64 d),.fn 67 [] [],.c (.int .i64 e),.c (.int .i64 f)] [.ints .i64 h] k=Q123.l3 g N n d e f h (fun a b c=>k (.exit 0) ⟨fC Q123.h3.out [.sw 0 4,.c (.int .i64 a),.c (.int .i64 b)],[.ints .i64 c]⟩):=by
 induction n generalizing d e f h with
 |zero=>kernel_rfl
 |succ n ih=>
  simp only[Q123.l3,←ih]
  kernel_rfl
noncomputable def Q123.b9:Code:=nA ((dA (bo Tryz.f128)).getD 1 .skip)
theorem Q123.l9_eq {R:Type}(g:Int→Int→Int→List Int→Option (List Int))(N n:Nat)(a b:Int)(c:List Int)(k:Ex→St→Option R):
  dB 1 Q123.h9 (fun s k=>bB (Q123.E g N) 390 Q123.b9 s k) n [.sw 0 4,.c (.int .i64 a),.c (.int .i64 b)] [.ints .i64 c] k=Q123.l9 g N n a b c (fun d=>k (.exit 2) ⟨fC Q123.h9.out [],[.ints .i64 d]⟩):=by
 induction n generalizing a b c with
 |zero=>kernel_rfl
 |succ n ih=>
  simp only[Q123.l9,←ih]
  kernel_rfl
noncomputable def Q123.b15:Code:=nA ((dA (bo Tryz.f128)).getD 2 .skip)
theorem Q123.l15_eq {R:Type}(g:Int→Int→Int→List Int→Option (List Int))(N n:Nat)(a b c:Int)(d:List Int)(k:Ex→St→Option R):
  dB 1 Q123.h15 (fun s k=>bB (Q123.E g N) 391 Q123.b15 s k) n [.sw 0 4,.c (.int .i64 a),.fn 67 [] [],.c (.int .i64 b),.c (.int .i64 c)] [.ints .i64 d] k=Q123.l15 g N n a b c d (fun e f h=>k (.exit 4) ⟨fC Q123.h15.out [.sw 0 4,.c (.int .i64 e),.c (.int .i64 f)],[.ints .i64 h]⟩):=by
 induction n generalizing a b c d with
 |zero=>kernel_rfl
 |succ n ih=>
  simp only[Q123.l15,←ih]
  kernel_rfl
noncomputable def Q123.b21:Code:=nA ((dA (bo Tryz.f128)).getD 3 .skip)
theorem Q123.l21_eq {R:Type}(g:Int→Int→Int→List Int→Option (List Int))(N n:Nat)(a b:Int)(c:List Int)(k:Ex→St→Option R):
  dB 1 Q123.h21 (fun s k=>bB (Q123.E g N) 389 Q123.b21 s k) n [.sw 0 4,.c (.int .i64 a),.c (.int .i64 b)] [.ints .i64 c] k=Q123.l21 g N n a b c (fun d=>k (.exit 6) ⟨fC Q123.h21.out [],[.ints .i64 d]⟩):=by
 induction n generalizing a b c with
 |zero=>kernel_rfl
 |succ n ih=>
  simp only[Q123.l21,←ih]
  kernel_rfl
noncomputable def Q123.b33:Code:=nA ((dA (bo Tryz.f128)).getD 4 .skip)
theorem Q123.l33_eq {R:Type}(g:Int→Int→Int→List Int→Option (List Int))(N n:Nat)(a b c d e f h i:Int)(j:List Int)(k:Ex→St→Option R):
  dB 1 Q123.h33 (fun s k=>bB (Q123.E g N) 390 Q123.b33 s k) n [.sw 0 4,.c (.int .i64 a),.c (.int .i64 b),.c (.int .i64 c),.fn 67 [] [],.c (.int .i64 d),.c (.int .i64 e),.c (.int .i64 f),.c (.int .i64 h),.c (.int .i64 i)] [.ints .i64 j] k=Q123.l33 g N n a b c d e f h i j (fun l m o p q r t=>k (.exit 8) ⟨fC Q123.h33.out [.sw 0 4,.c (.int .i64 l),.c (.int .i64 m),.c (.int .i64 o),.fn 67 [] [],.c (.int .i64 p),.c (.int .i64 q),.c (.int .i64 r)],[.ints .i64 t]⟩):=by
 induction n generalizing a b c d e f h i j with
 |zero=>kernel_rfl
 |succ n ih=>
  simp only[Q123.l33,←ih]
  kernel_rfl
noncomputable def Q123.dec (v:V)(bs:List rA):Option (List Int):=match v,bs with
 | .tup [],[.ints .i64 a]=>some a
 |_,_=>none
theorem Q123.f_eq (g:Int→Int→Int→List Int→Option (List Int))(N:Nat)(a b c:Int)(d:List Int):
  aB (Q123.E g N) (bo Tryz.f128) [.sw 0 4,.c (.int .i64 a),.c (.int .i64 b),.c (.int .i64 c),.fn 67 [] []] [.ints .i64 d] Q123.dec=Q123.step g N a b c d:=by kernel_rfl
theorem Q123.env (g:Int→Int→Int→List Int→Option (List Int))(hg:∀(a b c:Int) (d r:List Int),g a b c d=some r→eA Tryz.prog 128 [.sw 0 4,.c (.int .i64 a),.c (.int .i64 b),.c (.int .i64 c),.fn 67 [] []] [.ints .i64 d] (.tup []) ([.ints .i64 r]))(N:Nat):yA Tryz.prog (Q123.E g N):=⟨(bF.cons jO (bF.cons qL (bF.cons rL (bF.cons yf bF.nil)))),(xO.cons (Q119.ent_ok N) (xO.cons (Q121.ent_ok N) (xO.cons (Q123.entg_ok g hg) xO.nil)))⟩
theorem Q123.res_eq (g:Int→Int→Int→List Int→Option (List Int))(N:Nat):(Q123.E g N).res=Tryz.f128.results.toList:=by kernel_rfl
theorem Q123.k33 (g:Int→Int→Int→List Int→Option (List Int))(hg:∀(a b c:Int) (d r:List Int),g a b c d=some r→eA Tryz.prog 128 [.sw 0 4,.c (.int .i64 a),.c (.int .i64 b),.c (.int .i64 c),.fn 67 [] []] [.ints .i64 d] (.tup []) ([.ints .i64 r]))(N:Nat):gB Tryz.prog Tryz.f128 (Q123.E g N) (.loop Q123.b33):=by
 intro e hd he hh R vs H k r h;have e1:(Q123.E g N).cut (nD Q123.b33)=some (Q123.c33 g N):=by kernel_rfl
 have e2:(Q123.E g N).hint (nD Q123.b33)=some Q123.h33:=by kernel_rfl
 rw[e1]at he;rw[e2]at hh;cases he;cases hh;unfold Q123.c33 at h;dsimp only at h;split at h
 ·rw[←Q123.l33_eq]at h;exact wN (kH (Q123.env g hg N) bA (Q123.res_eq g N) 390 Q123.b33 cA.n) h
 ·cases h
theorem Q123.k21 (g:Int→Int→Int→List Int→Option (List Int))(hg:∀(a b c:Int) (d r:List Int),g a b c d=some r→eA Tryz.prog 128 [.sw 0 4,.c (.int .i64 a),.c (.int .i64 b),.c (.int .i64 c),.fn 67 [] []] [.ints .i64 d] (.tup []) ([.ints .i64 r]))(N:Nat):gB Tryz.prog Tryz.f128 (Q123.E g N) (.loop Q123.b21):=by
 intro e hd he hh R vs H k r h;have e1:(Q123.E g N).cut (nD Q123.b21)=some (Q123.c21 g N):=by kernel_rfl
 have e2:(Q123.E g N).hint (nD Q123.b21)=some Q123.h21:=by kernel_rfl
 rw[e1]at he;rw[e2]at hh;cases he;cases hh;unfold Q123.c21 at h;dsimp only at h;split at h
 ·rw[←Q123.l21_eq]at h;exact wN (kH (Q123.env g hg N) bA (Q123.res_eq g N) 389 Q123.b21 cA.n) h
 ·cases h
theorem Q123.k15 (g:Int→Int→Int→List Int→Option (List Int))(hg:∀(a b c:Int) (d r:List Int),g a b c d=some r→eA Tryz.prog 128 [.sw 0 4,.c (.int .i64 a),.c (.int .i64 b),.c (.int .i64 c),.fn 67 [] []] [.ints .i64 d] (.tup []) ([.ints .i64 r]))(N:Nat):gB Tryz.prog Tryz.f128 (Q123.E g N) (.loop Q123.b15):=by
 intro e hd he hh R vs H k r h;have e1:(Q123.E g N).cut (nD Q123.b15)=some (Q123.c15 g N):=by kernel_rfl
 have e2:(Q123.E g N).hint (nD Q123.b15)=some Q123.h15:=by kernel_rfl
 rw[e1]at he;rw[e2]at hh;cases he;cases hh;unfold Q123.c15 at h;dsimp only at h;split at h
 ·rw[←Q123.l15_eq]at h;exact wN (kH (Q123.env g hg N) bA (Q123.res_eq g N) 391 Q123.b15 cA.n) h
 ·cases h
theorem Q123.k9 (g:Int→Int→Int→List Int→Option (List Int))(hg:∀(a b c:Int) (d r:List Int),g a b c d=some r→eA Tryz.prog 128 [.sw 0 4,.c (.int .i64 a),.c (.int .i64 b),.c (.int .i64 c),.fn 67 [] []] [.ints .i64 d] (.tup []) ([.ints .i64 r]))(N:Nat):gB Tryz.prog Tryz.f128 (Q123.E g N) (.loop Q123.b9):=by
 intro e hd he hh R vs H k r h;have e1:(Q123.E g N).cut (nD Q123.b9)=some (Q123.c9 g N):=by kernel_rfl
 have e2:(Q123.E g N).hint (nD Q123.b9)=some Q123.h9:=by kernel_rfl
 rw[e1]at he;rw[e2]at hh;cases he;cases hh;unfold Q123.c9 at h;dsimp only at h;split at h
 ·rw[←Q123.l9_eq]at h;exact wN (kH (Q123.env g hg N) bA (Q123.res_eq g N) 390 Q123.b9 cA.n) h
 ·cases h
theorem Q123.k3 (g:Int→Int→Int→List Int→Option (List Int))(hg:∀(a b c:Int) (d r:List Int),g a b c d=some r→eA Tryz.prog 128 [.sw 0 4,.c (.int .i64 a),.c (.int .i64 b),.c (.int .i64 c),.fn 67 [] []] [.ints .i64 d] (.tup []) ([.ints .i64 r]))(N:Nat):gB Tryz.prog Tryz.f128 (Q123.E g N) (.loop Q123.b3):=by
 intro e hd he hh R vs H k r h;have e1:(Q123.E g N).cut (nD Q123.b3)=some (Q123.c3 g N):=by kernel_rfl
 have e2:(Q123.E g N).hint (nD Q123.b3)=some Q123.h3:=by kernel_rfl
 rw[e1]at he;rw[e2]at hh;cases he;cases hh;unfold Q123.c3 at h;dsimp only at h;split at h
 ·rw[←Q123.l3_eq]at h;exact wN (kH (Q123.env g hg N) bA (Q123.res_eq g N) 392 Q123.b3 cA.n) h
 ·cases h
theorem Q123.spec1 (g:Int→Int→Int→List Int→Option (List Int))(hg:∀(a b c:Int) (d r:List Int),g a b c d=some r→eA Tryz.prog 128 [.sw 0 4,.c (.int .i64 a),.c (.int .i64 b),.c (.int .i64 c),.fn 67 [] []] [.ints .i64 d] (.tup []) ([.ints .i64 r]))(N:Nat)(a b c:Int)(d r:List Int)(h:Q123.step g N a b c d=some r):eA Tryz.prog 128 [.sw 0 4,.c (.int .i64 a),.c (.int .i64 b),.c (.int .i64 c),.fn 67 [] []] [.ints .i64 d] (.tup []) ([.ints .i64 r]):=by
 rw[←Q123.f_eq]at h;refine(jY (Q123.env g hg N) bA Tryz.func128 (by kernel_rfl:Tryz.f128.body=some (bo Tryz.f128)) (by kernel_rfl) (Q123.res_eq g N) (by kernel_rfl) (by kernel_rfl) (cD (by kernel_rfl)) (cA.of (l:=[(.loop (nA ((dA (bo Tryz.f128)).getD 0 .skip))),(.loop (nA ((dA (bo Tryz.f128)).getD 1 .skip))),(.loop (nA ((dA (bo Tryz.f128)).getD 2 .skip))),(.loop (nA ((dA (bo Tryz.f128)).getD 3 .skip))),(.loop (nA ((dA (bo Tryz.f128)).getD 4 .skip)))]) (by kernel_rfl) (cA.cons (Q123.k3 g hg N) (cA.cons (Q123.k9 g hg N) (cA.cons (Q123.k15 g hg N) (cA.cons (Q123.k21 g hg N) (cA.cons (Q123.k33 g hg N) cA.nil)))))) h).of fun v bs' h1=>?_;unfold Q123.dec at h1;split at h1
 ·cases h1;exact⟨rfl,rfl⟩
 ·cases h1
noncomputable def Q123.g (N:Nat):Nat→Int→Int→Int→List Int→Option (List Int)
 |0,_,_,_,_=>none
 |n+1,a,b,c,d=>Q123.step (Q123.g N n) N a b c d
noncomputable def Q123.f (N:Nat)(a b c:Int)(d:List Int):Option (List Int):=Q123.g N N a b c d
theorem Q123.gspec (N:Nat):∀(n:Nat) (a b c:Int) (d r:List Int) (h:Q123.g N n a b c d=some r),eA Tryz.prog 128 [.sw 0 4,.c (.int .i64 a),.c (.int .i64 b),.c (.int .i64 c),.fn 67 [] []] [.ints .i64 d] (.tup []) ([.ints .i64 r])
 |0,_,_,_,_,_,h=>by cases h
 |n+1,a,b,c,d,r,h=>Q123.spec1 (Q123.g N n) (Q123.gspec N n) N a b c d r h
theorem Q123.spec (N:Nat)(a b c:Int)(d r:List Int)(h:Q123.f N a b c d=some r):eA Tryz.prog 128 [.sw 0 4,.c (.int .i64 a),.c (.int .i64 b),.c (.int .i64 c),.fn 67 [] []] [.ints .i64 d] (.tup []) ([.ints .i64 r]):=Q123.gspec N N a b c d r h
noncomputable def Q123.ent (N:Nat):uA:={A:=List Int,fresh:=0,imm:=[false,true,true,true,false],dec:=fun args bs=>match fG (qA bs) [false,false,false,false,false] args,bs with
 | [.sw 0 4,.c (.int .i64 a),.c (.int .i64 b),.c (.int .i64 c),.fn 67 [] []],[.ints .i64 d]=>some (Q123.f N a b c d,fun r=>.one (.tup []) [.ints .i64 r])
 |_,_=>none}
theorem Q123.ent_ok (N:Nat):oA Tryz.prog 128 (Q123.ent N):=by
 intro args bs a enc h;simp only[Q123.ent]at h;split at h
 ·rename_i hz;have h0:=Option.some.inj h;have h1:=congrArg Prod.fst h0;have h2:=congrArg Prod.snd h0;dsimp only at h1 h2;subst h2;exact eA.of_asSl (fl:=[false,false,false,false,false]) (by rw[hz];exact Q123.spec N _ _ _ _ a h1)
 ·cases h
noncomputable def Q124.l2 {R:Type}(N:Nat):Nat→Int→Int→Int→Int→List Int→(Int→Int→Int→List Int→Option R)→Option R
 |0,_,_,_,_,_,_=>none
 |n+1,b,c,e,a,f,d=>
  bif decide (a≤b)then
   (Q122.f N e a f).bind fun g=>
   Q124.l2 N n b c a (aA (a+c)) g d
  else
  d b c e f
noncomputable def Q124.l9 {R:Type}(N:Nat):Nat→Int→Int→Int→Int→List Int→(Int→Int→Int→List Int→Option R)→Option R
 |0,_,_,_,_,_,_=>none
 |n+1,c,a,d,b,e,g=>
  bif decide (b≤c)then
   (Q123.f N d (aA (d+a)) b e).bind fun f=>
   Q124.l9 N n c a b (aA (b+(aA (2*a)))) f g
  else
  g c a d e
noncomputable def Q124.l7 {R:Type}(N:Nat):Nat→Int→Int→List Int→(List Int→Option R)→Option R
 |0,_,_,_,_=>none
 |n+1,e,c,f,h=>
  bif decide (c<e)then
   Q124.l9 N N e c 0 (aA (2*c)) f
    (fun a b d g=>
     bif decide ((aA (d+b))<a)then
      (Q123.f N d (aA (d+b)) a g).bind fun i=>
      Q124.l7 N n a (aA (b*2)) i h
     else
     Q124.l7 N n a (aA (b*2)) g h)
  else
  h f
noncomputable def Q124.f (N:Nat)(g:Int)(h:List Int):Option (List Int):=
 Q124.l2 N N g 20 0 20 h
  (fun a c d e=>
   (Q122.f N d a e).bind fun b=>
   Q124.l7 N N a c b
    (fun f=>
     some f))
noncomputable def Q124.h2:cC:=⟨[(0,.row .i64 4),(1,.any),(2,.any),(6,.any),(7,.any),(8,.any)],[(0,.row .i64 4),(1,.any),(2,.any),(6,.any),(7,.any)]⟩
noncomputable def Q124.h7:cC:=⟨[(0,.row .i64 4),(1,.any),(2,.any),(6,.any)],[]⟩
noncomputable def Q124.h9:cC:=⟨[(0,.row .i64 4),(1,.any),(2,.any),(6,.any),(7,.any),(8,.any)],[(0,.row .i64 4),(1,.any),(2,.any),(6,.any),(7,.any)]⟩
noncomputable def Q124.c2 (N:Nat):nF:=⟨fun vs H k=>match vs,H with
 | [.sw 0 4,.c (.int .i64 d),.fn 67 [] [],.c (.int .i64 e),.c (.int .i64 f),.c (.int .i64 g)],[.ints .i64 h]=>Q124.l2 N N d e f g h (fun i a b c=>k (.exit 0) ⟨fC Q124.h2.out [.sw 0 4,.c (.int .i64 i),.fn 67 [] [],.c (.int .i64 a),.c (.int .i64 b)],[.ints .i64 c]⟩)
 |_,_=>none⟩
noncomputable def Q124.c9 (N:Nat):nF:=⟨fun vs H k=>match vs,H with
 | [.sw 0 4,.c (.int .i64 a),.fn 67 [] [],.c (.int .i64 b),.c (.int .i64 c),.c (.int .i64 d)],[.ints .i64 e]=>Q124.l9 N N a b c d e (fun f g h i=>k (.exit 4) ⟨fC Q124.h9.out [.sw 0 4,.c (.int .i64 f),.fn 67 [] [],.c (.int .i64 g),.c (.int .i64 h)],[.ints .i64 i]⟩)
 |_,_=>none⟩
noncomputable def Q124.c7 (N:Nat):nF:=⟨fun vs H k=>match vs,H with
 | [.sw 0 4,.c (.int .i64 a),.fn 67 [] [],.c (.int .i64 b)],[.ints .i64 c]=>Q124.l7 N N a b c (fun d=>k (.exit 2) ⟨fC Q124.h7.out [],[.ints .i64 d]⟩)
 |_,_=>none⟩
noncomputable def Q124.E (N:Nat):jC:=iD [] [(127,Q122.ent N),(128,Q123.ent N)] [(2,Q124.h2),(7,Q124.h7),(9,Q124.h9)] [(2,Q124.c2 N),(9,Q124.c9 N),(7,Q124.c7 N)] N [] [] 1 63
noncomputable def Q124.b2:Code:=nA ((dA (bo Tryz.f88)).getD 0 .skip)
theorem Q124.l2_eq {R:Type}(N n:Nat)(d e f g:Int)(h:List Int)(k:Ex→St→Option R):
  dB 1 Q124.h2 (fun s k=>bB (Q124.E N) 395 Q124.b2 s k) n [.sw 0 4,.c (.int .i64 d),.fn 67 [] [],.c (.int .i64 e),.c (.int .i64 f),.c (.int .i64 g)] [.ints .i64 h] k=Q124.l2 N n d e f g h (fun i a b c=>k (.exit 0) ⟨fC Q124.h2.out [.sw 0 4,.c (.int .i64 i),.fn 67 [] [],.c (.int .i64 a),.c (.int .i64 b)],[.ints .i64 c]⟩):=by
 induction n generalizing d e f g h with
 |zero=>kernel_rfl
 |succ n ih=>
  simp only[Q124.l2,←ih]
  kernel_rfl
noncomputable def Q124.b9:Code:=nA ((dA (bo Tryz.f88)).getD 2 .skip)
theorem Q124.l9_eq {R:Type}(N n:Nat)(a b c d:Int)(e:List Int)(k:Ex→St→Option R):
  dB 1 Q124.h9 (fun s k=>bB (Q124.E N) 388 Q124.b9 s k) n [.sw 0 4,.c (.int .i64 a),.fn 67 [] [],.c (.int .i64 b),.c (.int .i64 c),.c (.int .i64 d)] [.ints .i64 e] k=Q124.l9 N n a b c d e (fun f g h i=>k (.exit 4) ⟨fC Q124.h9.out [.sw 0 4,.c (.int .i64 f),.fn 67 [] [],.c (.int .i64 g),.c (.int .i64 h)],[.ints .i64 i]⟩):=by
 induction n generalizing a b c d e with
 |zero=>kernel_rfl
 |succ n ih=>
  simp only[Q124.l9,←ih]
  kernel_rfl
noncomputable def Q124.b7:Code:=nA ((dA (bo Tryz.f88)).getD 1 .skip)
theorem Q124.l7_eq {R:Type}(N n:Nat)(a b:Int)(c:List Int)(k:Ex→St→Option R):
  dB 1 Q124.h7 (fun s k=>bB (Q124.E N) 394 Q124.b7 s k) n [.sw 0 4,.c (.int .i64 a),.fn 67 [] [],.c (.int .i64 b)] [.ints .i64 c] k=Q124.l7 N n a b c (fun d=>k (.exit 2) ⟨fC Q124.h7.out [],[.ints .i64 d]⟩):=by
 induction n generalizing a b c with
 |zero=>kernel_rfl
 |succ n ih=>
  simp only[Q124.l7,←ih]
  kernel_rfl
noncomputable def Q124.dec (v:V)(bs:List rA):Option (List Int):=match v,bs with
 | .tup [],[.ints .i64 a]=>some a
 |_,_=>none
theorem Q124.f_eq (N:Nat)(a:Int)(b:List Int):
  aB (Q124.E N) (bo Tryz.f88) [.sw 0 4,.c (.int .i64 a),.fn 67 [] []] [.ints .i64 b] Q124.dec=Q124.f N a b:=by kernel_rfl
noncomputable def Q124.ent (N:Nat):uA:={A:=List Int,fresh:=0,imm:=[false,true,false],dec:=fun args bs=>match fG (qA bs) [false,false,false] args,bs with
 | [.sw 0 4,.c (.int .i64 a),.fn 67 [] []],[.ints .i64 b]=>some (Q124.f N a b,fun r=>.one (.tup []) [.ints .i64 r])
 |_,_=>none}
theorem Q124.env (N:Nat):yA Tryz.prog (Q124.E N):=⟨.nil,(.cons (Q122.ent_ok N) (.cons (Q123.ent_ok N) .nil))⟩
theorem Q124.k9 (N:Nat):gB Tryz.prog Tryz.f88 (Q124.E N) (.loop Q124.b9):=dC (Q124.env N) bA 388 (c:=Q124.c9 N) cA.n fun R vs H k r h=>by unfold Q124.c9 at h;dsimp only at h;split at h;exact⟨_,Q124.l9_eq .. ▸h⟩;cases h
theorem Q124.k7 (N:Nat):gB Tryz.prog Tryz.f88 (Q124.E N) (.loop Q124.b7):=dC (Q124.env N) bA 394 (c:=Q124.c7 N) (cA.of (l:=[(.loop (nA ((dA (bo Tryz.f88)).getD 2 .skip)))]) (by kernel_rfl) (cA.cons (Q124.k9 N) cA.nil)) fun R vs H k r h=>by unfold Q124.c7 at h;dsimp only at h;split at h;exact⟨_,Q124.l7_eq .. ▸h⟩;cases h
theorem Q124.k2 (N:Nat):gB Tryz.prog Tryz.f88 (Q124.E N) (.loop Q124.b2):=dC (Q124.env N) bA 395 (c:=Q124.c2 N) cA.n fun R vs H k r h=>by unfold Q124.c2 at h;dsimp only at h;split at h;exact⟨_,Q124.l2_eq .. ▸h⟩;cases h
theorem Q124.spec (N:Nat)(a:Int)(c r:List Int)(h:Q124.f N a c=some r):eA Tryz.prog 88 [.sw 0 4,.c (.int .i64 a),.fn 67 [] []] [.ints .i64 c] (.tup []) ([.ints .i64 r]):=pA (Q124.env N) bA Tryz.func88 (cA.of (l:=[(.loop (nA ((dA (bo Tryz.f88)).getD 0 .skip))),(.loop (nA ((dA (bo Tryz.f88)).getD 1 .skip))),(.loop (nA ((dA (bo Tryz.f88)).getD 2 .skip)))]) (by kernel_rfl) (cA.cons (Q124.k2 N) (cA.cons (Q124.k7 N) (cA.cons (Q124.k9 N) cA.nil)))) ((Q124.f_eq ..).trans h) fun v b e=>by unfold Q124.dec at e;split at e<;>cases e;exact⟨rfl,rfl⟩
theorem Q124.ent_ok (N:Nat):oA Tryz.prog 88 (Q124.ent N):=by
 intro args bs a enc h;simp only[Q124.ent]at h;split at h
 ·rename_i hz;have h0:=Option.some.inj h;have h1:=congrArg Prod.fst h0;have h2:=congrArg Prod.snd h0;dsimp only at h1 h2;subst h2;exact eA.of_asSl (fl:=[false,false,false]) (by rw[hz];exact Q124.spec N _ _ a h1)
 ·cases h
noncomputable def Q125.f (N:Nat)(a:List Int):Option (List Int):=
 (Q124.f N (a.length/4:Int) a).bind fun b=>
 some b
noncomputable def Q125.E (N:Nat):jC:=iD [(53,jo)] [(88,Q124.ent N)] [] [] N [] [] 1 9
noncomputable def Q125.dec (v:V)(bs:List rA):Option (List Int):=match v,bs with
 | .tup [],[.ints .i64 a]=>some a
 |_,_=>none
theorem Q125.f_eq (N:Nat)(a:List Int):
  aB (Q125.E N) (bo Tryz.f66) [.sw 0 4,.fn 67 [] []] [.ints .i64 a] Q125.dec=Q125.f N a:=by kernel_rfl
noncomputable def Q125.ent (N:Nat):uA:={A:=List Int,fresh:=0,imm:=[false,false],dec:=fun args bs=>match fG (qA bs) [false,false] args,bs with
 | [.sw 0 4,.fn 67 [] []],[.ints .i64 a]=>some (Q125.f N a,fun r=>.one (.tup []) [.ints .i64 r])
 |_,_=>none}
theorem Q125.env (N:Nat):yA Tryz.prog (Q125.E N):=⟨(.cons qL .nil),(.cons (Q124.ent_ok N) .nil)⟩
theorem Q125.spec (N:Nat)(a r:List Int)(h:Q125.f N a=some r):eA Tryz.prog 66 [.sw 0 4,.fn 67 [] []] [.ints .i64 a] (.tup []) ([.ints .i64 r]):=pA (Q125.env N) bA Tryz.func66 cA.n ((Q125.f_eq ..).trans h) fun v b e=>by unfold Q125.dec at e;split at e<;>cases e;exact⟨rfl,rfl⟩
theorem Q125.ent_ok (N:Nat):oA Tryz.prog 66 (Q125.ent N):=by
 intro args bs a enc h;simp only[Q125.ent]at h;split at h
 ·rename_i hz;have h0:=Option.some.inj h;have h1:=congrArg Prod.fst h0;have h2:=congrArg Prod.snd h0;dsimp only at h1 h2;subst h2;exact eA.of_asSl (fl:=[false,false]) (by rw[hz];exact Q125.spec N _ a h1)
 ·cases h
noncomputable def Q126.l1 {R:Type}(N:Nat):Nat→Int→Int→List Int→(List Int→Option R)→Option R
 |0,_,_,_,_=>none
 |n+1,a,b,c,d=>
  bif decide (a<b)then
   bif (decide (0≤b))&&(decide (b<(c.length/4:Int)))then
    bif (decide (0≤a))&&(decide (a<(c.length/4:Int)))then
     bif (decide (0≤a))&&(decide (a<(c.length/4:Int)))then
      bif (decide (0≤b))&&(decide (b<((((((c.set (a.toNat*4) (c.getD (b.toNat*4) 0)).set ((a.toNat*4)+1) (c.getD ((b.toNat*4)+1) 0)).set ((a.toNat*4)+2) (c.getD ((b.toNat*4)+2) 0)).set ((a.toNat*4)+3) (c.getD ((b.toNat*4)+3) 0)).length)/4:Int)))then
       Q126.l1 N n (aA (a+1)) (aA (b-1)) ((((((((c.set (a.toNat*4) (c.getD (b.toNat*4) 0)).set ((a.toNat*4)+1) (c.getD ((b.toNat*4)+1) 0)).set ((a.toNat*4)+2) (c.getD ((b.toNat*4)+2) 0)).set ((a.toNat*4)+3) (c.getD ((b.toNat*4)+3) 0)).set (b.toNat*4) (c.getD (a.toNat*4) 0)).set ((b.toNat*4)+1) (c.getD ((a.toNat*4)+1) 0)).set ((b.toNat*4)+2) (c.getD ((a.toNat*4)+2) 0)).set ((b.toNat*4)+3) (c.getD ((a.toNat*4)+3) 0)) d
      else none
     else none
    else none
   else none
  else
  d c
noncomputable def Q126.f (N:Nat)(a:List Int):Option (List Int):=
 Q126.l1 N N 0 (aA ((a.length/4:Int)-1)) a
  (fun b=>
   some b)
noncomputable def Q126.h1:cC:=⟨[(0,.row .i64 4),(2,.any),(3,.any)],[]⟩
noncomputable def Q126.c1 (N:Nat):nF:=⟨fun vs H k=>match vs,H with
 | [.sw 0 4,.c (.int .i64 a),.c (.int .i64 b)],[.ints .i64 c]=>Q126.l1 N N a b c (fun d=>k (.exit 0) ⟨fC Q126.h1.out [],[.ints .i64 d]⟩)
 |_,_=>none⟩
noncomputable def Q126.E (N:Nat):jC:=iD [(53,jo),(57,jq)] [] [(1,Q126.h1)] [(1,Q126.c1 N)] N [] [] 1 28
noncomputable def Q126.b1:Code:=nA ((dA (bo Tryz.f48)).getD 0 .skip)
theorem Q126.l1_eq {R:Type}(N n:Nat)(a b:Int)(c:List Int)(k:Ex→St→Option R):
  dB 1 Q126.h1 (fun s k=>bB (Q126.E N) 397 Q126.b1 s k) n [.sw 0 4,.c (.int .i64 a),.c (.int .i64 b)] [.ints .i64 c] k=Q126.l1 N n a b c (fun d=>k (.exit 0) ⟨fC Q126.h1.out [],[.ints .i64 d]⟩):=by
 induction n generalizing a b c with
 |zero=>kernel_rfl
 |succ n ih=>
  simp only[Q126.l1,←ih]
  kernel_rfl
noncomputable def Q126.dec (v:V)(bs:List rA):Option (List Int):=match v,bs with
 | .tup [],[.ints .i64 a]=>some a
 |_,_=>none
theorem Q126.f_eq (N:Nat)(a:List Int):
  aB (Q126.E N) (bo Tryz.f48) [.sw 0 4] [.ints .i64 a] Q126.dec=Q126.f N a:=by kernel_rfl
noncomputable def Q126.ent (N:Nat):uA:={A:=List Int,fresh:=0,imm:=[false],dec:=fun args bs=>match fG (qA bs) [false] args,bs with
 | [.sw 0 4],[.ints .i64 a]=>some (Q126.f N a,fun r=>.one (.tup []) [.ints .i64 r])
 |_,_=>none}
theorem Q126.env (N:Nat):yA Tryz.prog (Q126.E N):=⟨(.cons qL (.cons rL .nil)),.nil⟩
theorem Q126.k1 (N:Nat):gB Tryz.prog Tryz.f48 (Q126.E N) (.loop Q126.b1):=dC (Q126.env N) bA 397 (c:=Q126.c1 N) cA.n fun R vs H k r h=>by unfold Q126.c1 at h;dsimp only at h;split at h;exact⟨_,Q126.l1_eq .. ▸h⟩;cases h
theorem Q126.spec (N:Nat)(a r:List Int)(h:Q126.f N a=some r):eA Tryz.prog 48 [.sw 0 4] [.ints .i64 a] (.tup []) ([.ints .i64 r]):=pA (Q126.env N) bA Tryz.func48 (cA.of (l:=[(.loop (nA ((dA (bo Tryz.f48)).getD 0 .skip)))]) (by kernel_rfl) (cA.cons (Q126.k1 N) cA.nil)) ((Q126.f_eq ..).trans h) fun v b e=>by unfold Q126.dec at e;split at e<;>cases e;exact⟨rfl,rfl⟩
theorem Q126.ent_ok (N:Nat):oA Tryz.prog 48 (Q126.ent N):=by
 intro args bs a enc h;simp only[Q126.ent]at h;split at h
 ·rename_i hz;have h0:=Option.some.inj h;have h1:=congrArg Prod.fst h0;have h2:=congrArg Prod.snd h0;dsimp only at h1 h2;subst h2;exact eA.of_asSl (fl:=[false]) (by rw[hz];exact Q126.spec N _ a h1)
 ·cases h
noncomputable def Ie:TI:=⟨.slice 2,1,24,[.slice none 0 0]⟩
noncomputable def J2:TI:=⟨.map 33 3,1,8,[.map none]⟩
theorem yd:zC Tryz.prog 24 Ie:=gD (by kernel_rfl) (by kernel_rfl) (by kernel_rfl) (by kernel_rfl) (by kernel_rfl) (by kernel_rfl) (by kernel_rfl) (Tryz.underlying24) (by kernel_rfl)
theorem Gd:zC Tryz.prog 42 J2:=gD (by kernel_rfl) (by kernel_rfl) (by kernel_rfl) (by kernel_rfl) (by kernel_rfl) (by kernel_rfl) (by kernel_rfl) (Eo Tryz.underlying42 (by kernel_rfl)) (by kernel_rfl)
noncomputable def Q127.f (N:Nat)(b c d e f g:Int):Option (Int×Int×Int):=
 (Q86.f N b c d e f g).bind fun a=>
 some (a.1,a.2.1,a.2.2.1)
noncomputable def Q127.E (N:Nat):jC:=iD [(33,aG)] [(24,Q86.ent N)] [] [] N [.cell 4 33] [.recd [.any,.any,.any]] 0 14
noncomputable def Q127.dec (v:V)(bs:List rA):Option (Int×Int×Int):=match v,bs with
 | .agg [.c (.int .i64 a),.c (.int .i64 b),.c (.int .i64 c)],[]=>some (a,b,c)
 |_,_=>none
theorem Q127.f_eq (N:Nat)(a b c d e f:Int):
  aB (Q127.E N) (bo Tryz.f39) [.agg [.c (.int .i64 a),.c (.int .i64 b),.c (.int .i64 c)],.agg [.c (.int .i64 d),.c (.int .i64 e),.c (.int .i64 f)]] [] Q127.dec=Q127.f N a b c d e f:=by kernel_rfl
noncomputable def Q127.ent (N:Nat):uA:=tD (Int×Int×Int) 0 [true,true] [.recd [.any,.any,.any],.recd [.any,.any,.any]] fun
 | [.agg [.c (.int .i64 a),.c (.int .i64 b),.c (.int .i64 c)],.agg [.c (.int .i64 d),.c (.int .i64 e),.c (.int .i64 f)]]=>some (Q127.f N a b c d e f,fun r=>.one (.agg [.c (.int .i64 r.1),.c (.int .i64 r.2.1),.c (.int .i64 r.2.2)]) [])
 |_=>none
theorem Q127.env (N:Nat):yA Tryz.prog (Q127.E N):=⟨(.cons xB .nil),(.cons (Q86.ent_ok N) .nil)⟩
theorem Q127.spec (N:Nat)(a c d f g i:Int)(r:Int×Int×Int)(h:Q127.f N a c d f g i=some r):eA Tryz.prog 39 [.agg [.c (.int .i64 a),.c (.int .i64 c),.c (.int .i64 d)],.agg [.c (.int .i64 f),.c (.int .i64 g),.c (.int .i64 i)]] [] (.agg [.c (.int .i64 r.1),.c (.int .i64 r.2.1),.c (.int .i64 r.2.2)]) ([]):=pA (Q127.env N) bA Tryz.func39 cA.n ((Q127.f_eq ..).trans h) fun v b e=>by unfold Q127.dec at e;split at e<;>cases e;exact⟨rfl,rfl⟩
theorem Q127.ent_ok (N:Nat):oA Tryz.prog 39 (Q127.ent N):=sA fun v a e h=>by split at h;exact nB (Q:=fun e=>eA _ _ _ _ (e a).pick.1 (e a).pick.2) h fun k=>Q127.spec N _ _ _ _ _ _ a k;cases h
noncomputable def Q128.f (N:Nat)(b c d e:Int):Option (Int×Int×Int):=
 (Q88.f N b c d e).bind fun a=>
 some (a.1,a.2.1,a.2.2.1)
noncomputable def Q128.E (N:Nat):jC:=iD [(33,aG)] [(26,Q88.ent N)] [] [] N [.cell 4 33] [.recd [.any,.any,.any]] 0 14
noncomputable def Q128.dec (v:V)(bs:List rA):Option (Int×Int×Int):=match v,bs with
 | .agg [.c (.int .i64 a),.c (.int .i64 b),.c (.int .i64 c)],[]=>some (a,b,c)
 |_,_=>none
theorem Q128.f_eq (N:Nat)(a b c d:Int):
  aB (Q128.E N) (bo Tryz.f55) [.agg [.c (.int .i64 a),.c (.int .i64 b),.c (.int .i64 c)],.c (.int .i64 d)] [] Q128.dec=Q128.f N a b c d:=by kernel_rfl
noncomputable def Q128.ent (N:Nat):uA:=tD (Int×Int×Int) 0 [true,true] [.recd [.any,.any,.any],.any] fun
 | [.agg [.c (.int .i64 a),.c (.int .i64 b),.c (.int .i64 c)],.c (.int .i64 d)]=>some (Q128.f N a b c d,fun r=>.one (.agg [.c (.int .i64 r.1),.c (.int .i64 r.2.1),.c (.int .i64 r.2.2)]) [])
 |_=>none
theorem Q128.env (N:Nat):yA Tryz.prog (Q128.E N):=⟨(.cons xB .nil),(.cons (Q88.ent_ok N) .nil)⟩
theorem Q128.spec (N:Nat)(a c d f:Int)(r:Int×Int×Int)(h:Q128.f N a c d f=some r):eA Tryz.prog 55 [.agg [.c (.int .i64 a),.c (.int .i64 c),.c (.int .i64 d)],.c (.int .i64 f)] [] (.agg [.c (.int .i64 r.1),.c (.int .i64 r.2.1),.c (.int .i64 r.2.2)]) ([]):=pA (Q128.env N) bA Tryz.func55 cA.n ((Q128.f_eq ..).trans h) fun v b e=>by unfold Q128.dec at e;split at e<;>cases e;exact⟨rfl,rfl⟩
theorem Q128.ent_ok (N:Nat):oA Tryz.prog 55 (Q128.ent N):=sA fun v a e h=>by split at h;exact nB (Q:=fun e=>eA _ _ _ _ (e a).pick.1 (e a).pick.2) h fun k=>Q128.spec N _ _ _ _ a k;cases h
noncomputable def Q129.l5 {R:Type}(N:Nat):Nat→Int→List Int→Int→Int→Int→Int→Int→Int→Int→Int→Int→Int→(Int→List Int→Int→Int→Int→Int→Int→Int→Int→Int→Option R)→(Int→List Int→Int→Int→Int→Int→Int→Int→Int→Int→Option R)→Option R
 |0,_,_,_,_,_,_,_,_,_,_,_,_,_,_=>none
 |n+1,b,j,k,l,c,d,e,f,g,h,a,m,o,p=>
  bif !(a==0)then
   bif (Int.tmod b a)==0 then
    bif !(a==0)then
     (Q128.f N c d e (aA (Int.tdiv b a))).bind fun i=>
     bif !((i.1==f)&&((i.2.1==g)&&(i.2.2==h)))then
      o b j k l c d e f g h
     else
     bif !(a==0)then
      Q129.l5 N n (aA (Int.tdiv b a)) j k l c d e f g h a m o p
     else none
    else none
   else
   p b j k l c d e f g h
  else none
noncomputable def Q129.l3 {R:Type}(N:Nat):Nat→Int→List Int→Int→Int→Int→Int→Int→Int→Int→Int→(Int→Option R)→Option R
 |0,_,_,_,_,_,_,_,_,_,_,_=>none
 |n+1,x9,b,c,a,e,f,g,h,i,j,d=>
  bif decide (a<c)then
   bif (decide (0≤a))&&(decide (a<(b.length/2:Int)))then
    Q129.l5 N N x9 b c a e f g h i j (b.getD (a.toNat*2) 0) (b.getD ((a.toNat*2)+1) 0)
     (fun k l m o p q r s t u=>
      Q129.l3 N n k l m (aA (o+1)) p q r s t u d)
     (fun v w x y z y67 y68 y69 y70 y71=>
      Q129.l3 N n v w x (aA (y+1)) z y67 y68 y69 y70 y71 d)
   else none
  else
  d x9
noncomputable def Q129.f (N:Nat)(d e f g h i b:Int):Option (Int):=
 (Q117.f N b).bind fun c=>
 Q129.l3 N N b c.1 (c.1.length/2:Int) 0 d e f g h i
  (fun a=>
   some a)
noncomputable def Q129.h3:cC:=⟨[(2,.any),(3,.box [.any,.any,.any]),(4,.box [.any,.any,.any]),(16,.il .i64 2),(17,.any),(18,.any)],[(2,.any)]⟩
noncomputable def Q129.h5:cC:=⟨[(2,.any),(3,.box [.any,.any,.any]),(4,.box [.any,.any,.any]),(10,.box [.any,.any]),(16,.il .i64 2),(17,.any),(18,.any)],[(2,.any),(3,.box [.any,.any,.any]),(4,.box [.any,.any,.any]),(16,.il .i64 2),(17,.any),(18,.any)]⟩
noncomputable def Q129.c5 (N:Nat):nF:=⟨fun vs H k=>match vs,H with
 | [.c (.int .i64 a),.ptr 0 0 3,.ptr 1 0 3,.ptr 2 0 2,.il .i64 2 b,.c (.int .i64 c),.c (.int .i64 d)],[.vals [.c (.int .i64 e),.c (.int .i64 f),.c (.int .i64 g)],.vals [.c (.int .i64 h),.c (.int .i64 i),.c (.int .i64 j)],.vals [.c (.int .i64 l),.c (.int .i64 m)]]=>Q129.l5 N N a b c d e f g h i j l m (fun o p q r s t u v w x=>k (.exit 1) ⟨fC Q129.h5.out [.c (.int .i64 o),.ptr 0 0 3,.ptr 1 0 3,.il .i64 2 p,.c (.int .i64 q),.c (.int .i64 r)],[.vals [.c (.int .i64 s),.c (.int .i64 t),.c (.int .i64 u)],.vals [.c (.int .i64 v),.c (.int .i64 w),.c (.int .i64 x)]]⟩) (fun y z x44 x45 x46 x47 x48 x49 x50 x51=>k (.exit 2) ⟨fC Q129.h5.out [.c (.int .i64 y),.ptr 0 0 3,.ptr 1 0 3,.il .i64 2 z,.c (.int .i64 x44),.c (.int .i64 x45)],[.vals [.c (.int .i64 x46),.c (.int .i64 x47),.c (.int .i64 x48)],.vals [.c (.int .i64 x49),.c (.int .i64 x50),.c (.int .i64 x51)]]⟩)
 |_,_=>none⟩
noncomputable def Q129.c3 (N:Nat):nF:=⟨fun vs H k=>match vs,H with
 | [.c (.int .i64 l),.ptr 0 0 3,.ptr 1 0 3,.il .i64 2 a,.c (.int .i64 b),.c (.int .i64 c)],[.vals [.c (.int .i64 d),.c (.int .i64 e),.c (.int .i64 f)],.vals [.c (.int .i64 g),.c (.int .i64 h),.c (.int .i64 i)]]=>Q129.l3 N N l a b c d e f g h i (fun j=>k (.exit 0) ⟨fC Q129.h3.out [.c (.int .i64 j)],[]⟩)
 |_,_=>none⟩
noncomputable def Q129.E (N:Nat):jC:=iD [(2,aN),(33,aG),(60,Et),(64,Ge)] [(46,Q117.ent N),(55,Q128.ent N)] [(3,Q129.h3),(5,Q129.h5)] [(5,Q129.c5 N),(3,Q129.c3 N)] N [.tmp 6] [.any] 0 41
noncomputable def Q129.b5:Code:=nA ((dA (bo Tryz.f34)).getD 2 .skip)
theorem Q129.l5_eq {R:Type}(N n:Nat)(a:Int)(b:List Int)(c d e f g h i j l m:Int)(k:Ex→St→Option R):
  dB 0 Q129.h5 (fun s k=>bB (Q129.E N) 385 Q129.b5 s k) n [.c (.int .i64 a),.ptr 0 0 3,.ptr 1 0 3,.ptr 2 0 2,.il .i64 2 b,.c (.int .i64 c),.c (.int .i64 d)] [.vals [.c (.int .i64 e),.c (.int .i64 f),.c (.int .i64 g)],.vals [.c (.int .i64 h),.c (.int .i64 i),.c (.int .i64 j)],.vals [.c (.int .i64 l),.c (.int .i64 m)]] k=Q129.l5 N n a b c d e f g h i j l m (fun o p q r t u v w x y=>k (.exit 1) ⟨fC Q129.h5.out [.c (.int .i64 o),.ptr 0 0 3,.ptr 1 0 3,.il .i64 2 p,.c (.int .i64 q),.c (.int .i64 r)],[.vals [.c (.int .i64 t),.c (.int .i64 u),.c (.int .i64 v)],.vals [.c (.int .i64 w),.c (.int .i64 x),.c (.int .i64 y)]]⟩) (fun z x43 x44 x45 x46 x47 x48 x49 x50 x51=>k (.exit 2) ⟨fC Q129.h5.out [.c (.int .i64 z),.ptr 0 0 3,.ptr 1 0 3,.il .i64 2 x43,.c (.int .i64 x44),.c (.int .i64 x45)],[.vals [.c (.int .i64 x46),.c (.int .i64 x47),.c (.int .i64 x48)],.vals [.c (.int .i64 x49),.c (.int .i64 x50),.c (.int .i64 x51)]]⟩):=by
 induction n generalizing a b c d e f g h i j l m with
 |zero=>kernel_rfl
 |succ n ih=>
  simp only[Q129.l5,←ih]
  kernel_rfl
noncomputable def Q129.b3:Code:=nA ((dA (bo Tryz.f34)).getD 1 .skip)
theorem Q129.l3_eq {R:Type}(N n:Nat)(l:Int)(a:List Int)(b c d e f g h i:Int)(k:Ex→St→Option R):
  dB 0 Q129.h3 (fun s k=>bB (Q129.E N) 392 Q129.b3 s k) n [.c (.int .i64 l),.ptr 0 0 3,.ptr 1 0 3,.il .i64 2 a,.c (.int .i64 b),.c (.int .i64 c)] [.vals [.c (.int .i64 d),.c (.int .i64 e),.c (.int .i64 f)],.vals [.c (.int .i64 g),.c (.int .i64 h),.c (.int .i64 i)]] k=Q129.l3 N n l a b c d e f g h i (fun j=>k (.exit 0) ⟨fC Q129.h3.out [.c (.int .i64 j)],[]⟩):=by
 induction n generalizing l a b c d e f g h i with
 |zero=>kernel_rfl
 |succ n ih=>
  simp only[Q129.l3,←ih]
  kernel_rfl
noncomputable def Q129.dec (v:V)(bs:List rA):Option (Int):=match v,bs with
 | .c (.int .i64 a),[]=>some a
 |_,_=>none
theorem Q129.f_eq (N:Nat)(a b c d e f g:Int):
  aB (Q129.E N) (bo Tryz.f34) [.agg [.c (.int .i64 a),.c (.int .i64 b),.c (.int .i64 c)],.agg [.c (.int .i64 d),.c (.int .i64 e),.c (.int .i64 f)],.c (.int .i64 g)] [] Q129.dec=Q129.f N a b c d e f g:=by kernel_rfl
noncomputable def Q129.ent (N:Nat):uA:=tD (Int) 0 [true,true,true] [.recd [.any,.any,.any],.recd [.any,.any,.any],.any] fun
 | [.agg [.c (.int .i64 a),.c (.int .i64 b),.c (.int .i64 c)],.agg [.c (.int .i64 d),.c (.int .i64 e),.c (.int .i64 f)],.c (.int .i64 g)]=>some (Q129.f N a b c d e f g,fun r=>.one (.c (.int .i64 r)) [])
 |_=>none
theorem Q129.env (N:Nat):yA Tryz.prog (Q129.E N):=⟨(.cons nC (.cons xB (.cons cX (.cons jr .nil)))),(.cons (Q117.ent_ok N) (.cons (Q128.ent_ok N) .nil))⟩
theorem Q129.k5 (N:Nat):gB Tryz.prog Tryz.f34 (Q129.E N) (.loop Q129.b5):=dC (Q129.env N) bA 385 (c:=Q129.c5 N) cA.n fun R vs H k r h=>by unfold Q129.c5 at h;dsimp only at h;split at h;exact⟨_,Q129.l5_eq .. ▸h⟩;cases h
theorem Q129.k3 (N:Nat):gB Tryz.prog Tryz.f34 (Q129.E N) (.loop Q129.b3):=dC (Q129.env N) bA 392 (c:=Q129.c3 N) (cA.of (l:=[(.loop (nA ((dA (bo Tryz.f34)).getD 2 .skip)))]) (by kernel_rfl) (cA.cons (Q129.k5 N) cA.nil)) fun R vs H k r h=>by unfold Q129.c3 at h;dsimp only at h;split at h;exact⟨_,Q129.l3_eq .. ▸h⟩;cases h
theorem Q129.spec (N:Nat)(a c d f g i j r:Int)(h:Q129.f N a c d f g i j=some r):eA Tryz.prog 34 [.agg [.c (.int .i64 a),.c (.int .i64 c),.c (.int .i64 d)],.agg [.c (.int .i64 f),.c (.int .i64 g),.c (.int .i64 i)],.c (.int .i64 j)] [] (.c (.int .i64 r)) ([]):=pA (Q129.env N) bA Tryz.func34 (cA.of (l:=[(.scope (nA ((dA (bo Tryz.f34)).getD 0 .skip))),(.loop (nA ((dA (bo Tryz.f34)).getD 1 .skip))),(.loop (nA ((dA (bo Tryz.f34)).getD 2 .skip)))]) (by kernel_rfl) (cA.cons (cQ (by kernel_rfl)) (cA.cons (Q129.k3 N) (cA.cons (Q129.k5 N) cA.nil)))) ((Q129.f_eq ..).trans h) fun v b e=>by unfold Q129.dec at e;split at e<;>cases e;exact⟨rfl,rfl⟩
theorem Q129.ent_ok (N:Nat):oA Tryz.prog 34 (Q129.ent N):=sA fun v a e h=>by split at h;exact nB (Q:=fun e=>eA _ _ _ _ (e a).pick.1 (e a).pick.2) h fun k=>Q129.spec N _ _ _ _ _ _ _ a k;cases h
noncomputable def Q130.l3 {R:Type}(N:Nat):Nat→List Int→Int→Int→Int→List Int→Int→Int→Int→Int→Int→List (List Int)→List Int→(List Int→Int→Int→Int→Int→List (List Int)→List Int→Option R)→Option R
 |0,_,_,_,_,_,_,_,_,_,_,_,_,_=>none
 |n+1,o,p,j,d,c,k,b,f,g,h,e,i,l=>
  bif decide (b<k)then
   bif (decide (0≤b))&&(decide (b<(c.length/3:Int)))then
    bif !(d==0)then
     (Q128.f N (c.getD (b.toNat*3) 0) (c.getD ((b.toNat*3)+1) 0) (c.getD ((b.toNat*3)+2) 0) (aA (Int.tdiv p d))).bind fun a=>
     bif (yE [a.1,a.2.1,a.2.2] e i)==0 then
      (Q129.f N a.1 a.2.1 a.2.2 f g h d).bind fun m=>
      Q130.l3 N n o p j d c k (aA (b+1)) f g h (yB [a.1,a.2.1,a.2.2] e) (nG [a.1,a.2.1,a.2.2] m e i) l
     else
     Q130.l3 N n o p j d c k (aA (b+1)) f g h e i l
    else none
   else none
  else
  l o j f g h e i
noncomputable def Q130.l11 {R:Type}(N:Nat):Nat→Int→List Int→Int→Int→Int→Int→Int→List (List Int)→List Int→List Int→(Int→Int→Int→Int→List Int→Option R)→Option R
 |0,_,_,_,_,_,_,_,_,_,_,_=>none
 |n+1,f,b,g,a,h,i,j,c,d,e,k=>
  bif decide (a<g)then
   bif (decide (0≤a))&&(decide (a<(b.length/3:Int)))then
    bif decide ((yE [b.getD (a.toNat*3) 0,b.getD ((a.toNat*3)+1) 0,b.getD ((a.toNat*3)+2) 0] c d)>1)then
     bif jB ((e.length+4)/4) 32 then
      Q130.l11 N n f b g (aA (a+1)) h i j c d (e++[b.getD (a.toNat*3) 0,b.getD ((a.toNat*3)+1) 0,b.getD ((a.toNat*3)+2) 0,yE [b.getD (a.toNat*3) 0,b.getD ((a.toNat*3)+1) 0,b.getD ((a.toNat*3)+2) 0] c d]) k
     else none
    else
    Q130.l11 N n f b g (aA (a+1)) h i j c d e k
   else none
  else
  k f h i j e
noncomputable def Q130.l30 {R:Type}(N:Nat):Nat→Int→Int→Int→Int→List Int→List (List Int)→List Int→Int→Int→Int→Int→List Int→Int→Int→Int→Int→Int→Int→List Int→Nat→List Nat→Nat→(Int→Int→Int→List Int→List (List Int)→List Int→Int→Int→Int→Int→List Int→List Int→Nat→List Nat→Nat→Option R)→Option R
 |0,_,_,_,_,_,_,_,_,_,_,_,_,_,_,_,_,_,_,_,_,_,_,_=>none
 |n+1,s,t,u,v,w,x,y,o,p,q,r,c,d,e,f,g,h,i,j,k,l,m,z=>
  bif decide (t<r)then
   (Q127.f N d e f g h i).bind fun a=>
   bif jB ((c.length+3)/3) 24 then
    (Q127.f N g h i o p q).bind fun b=>
    Q130.l30 N n s (aA (t+1)) u v w x y o p q r (c++[a.1,a.2.1,a.2.2]) d e f b.1 b.2.1 b.2.2 j k l m z
   else none
  else
  z s u v w x y o p q r c j k l m
noncomputable def Q130.l27 {R:Type}(N:Nat):Nat→Int→Int→Int→List Int→List (List Int)→List Int→Int→Int→Int→Int→List Int→List Int→Nat→List Nat→Nat→(Int→Int→Int→List Int→List (List Int)→List Int→List Int→List Int→Option R)→Option R
 |0,_,_,_,_,_,_,_,_,_,_,_,_,_,_,_,_=>none
 |n+1,e,f,g,h,a,i,j,k,l,x74,m,o,d,b,x79,k6=>
  bif Nat.beq a.length d then
   bif b.isEmpty then
    k6 e f g h a i m o
   else
   bY b.length fun c=>
   bif Nat.beq a.length d&&Nat.blt (b.getD c 0) a.length then
    Q130.l30 N N e 1 f g h a i j k l x74 m ((a.getD (b.getD c 0) []).getD 0 0) ((a.getD (b.getD c 0) []).getD 1 0) ((a.getD (b.getD c 0) []).getD 2 0) j k l o d (b.eraseIdx c) (b.getD c 0)
     (fun p q r s t u v w x y z y139 y140 y141 y142=>
      Q130.l27 N n p q r s t u v w x y z y139 y140 y141 y142 k6)
   else none
  else none
noncomputable def Q130.l36 {R:Type}(N:Nat):Nat→Int→Int→Int→Int→Int→List Int→List (List Int)→List Int→List Int→List Int→(Int→Int→Int→List Int→List (List Int)→List Int→List Int→Option R)→Option R
 |0,_,_,_,_,_,_,_,_,_,_,_=>none
 |n+1,e,f,g,h,a,i,c,d,j,b,k=>
  bif decide (a<h)then
   bif (decide (0≤a))&&(decide (a<(b.length/3:Int)))then
    bif (decide (0≤(lE [b.getD (a.toNat*3) 0,b.getD ((a.toNat*3)+1) 0,b.getD ((a.toNat*3)+2) 0] c)))&&(decide ((lE [b.getD (a.toNat*3) 0,b.getD ((a.toNat*3)+1) 0,b.getD ((a.toNat*3)+2) 0] c)<((yB [b.getD (a.toNat*3) 0,b.getD ((a.toNat*3)+1) 0,b.getD ((a.toNat*3)+2) 0] c).length:Int)))then
     Q130.l36 N n e f g h (aA (a+1)) i (yB [b.getD (a.toNat*3) 0,b.getD ((a.toNat*3)+1) 0,b.getD ((a.toNat*3)+2) 0] c) ((nG [b.getD (a.toNat*3) 0,b.getD ((a.toNat*3)+1) 0,b.getD ((a.toNat*3)+2) 0] (yE [b.getD (a.toNat*3) 0,b.getD ((a.toNat*3)+1) 0,b.getD ((a.toNat*3)+2) 0] c d) c (List.take (List.length c) d)).set ((lE [b.getD (a.toNat*3) 0,b.getD ((a.toNat*3)+1) 0,b.getD ((a.toNat*3)+2) 0] c).toNat) (aA ((yE [b.getD (a.toNat*3) 0,b.getD ((a.toNat*3)+1) 0,b.getD ((a.toNat*3)+2) 0] c d)+1))) j b k
    else none
   else none
  else
  k e f g i c d j
noncomputable def Q130.l21 {R:Type}(N:Nat):Nat→Int→Int→Int→List Int→List (List Int)→List Int→List Int→(List Int→Option R)→Option R
 |0,_,_,_,_,_,_,_,_=>none
 |n+1,d,h,a,e,c,i,b,y=>
  bif decide (a<h)then
   bif (decide (0≤a))&&(decide (a<(b.length/4:Int)))then
    bif !(d==0)then
     (Q128.f N (b.getD (a.toNat*4) 0) (b.getD ((a.toNat*4)+1) 0) (b.getD ((a.toNat*4)+2) 0) (aA (Int.tdiv (b.getD ((a.toNat*4)+3) 0) d))).bind fun g=>
     bif decide ((yE [g.1,g.2.1,g.2.2] c i)>0)then
      Q130.l21 N n d h (aA (a+1)) e c i b y
     else
     bif jB ((e.length+4)/4) 32 then
      Q130.l27 N N d h a (e++[b.getD (a.toNat*4) 0,b.getD ((a.toNat*4)+1) 0,b.getD ((a.toNat*4)+2) 0,b.getD ((a.toNat*4)+3) 0]) c i (b.getD (a.toNat*4) 0) (b.getD ((a.toNat*4)+1) 0) (b.getD ((a.toNat*4)+2) 0) (b.getD ((a.toNat*4)+3) 0) [] b c.length (List.range c.length) c.length
       (fun j k l m o p f q=>
        Q130.l36 N N j k l (f.length/3:Int) 0 m o p q f
         (fun r s t u v w x=>
          Q130.l21 N n r s (aA (t+1)) u v w x y))
     else none
    else none
   else none
  else
  y e
noncomputable def Q130.f (N:Nat)(g:List Int)(q r s t u v:Int):Option (List Int):=
 Q130.l3 N N g t u v g (g.length/3:Int) 0 q r s [] []
  (fun c h i j k l m=>
   Q130.l11 N N h c (c.length/3:Int) 0 i j k l m []
    (fun o d e f p=>
     (Q125.f N p).bind fun a=>
     Q130.l21 N N o (a.length/4:Int) 0 [] (yB [d,e,f] []) (nG [d,e,f] 1 [] []) a
      (fun b=>
       some b)))
noncomputable def Q130.h3:cC:=⟨[(0,.il .i64 3),(2,.any),(3,.any),(4,.any),(6,.box [.any,.any,.any]),(11,.any),(30,.il .i64 3),(31,.any),(32,.any)],[(0,.il .i64 3),(3,.any),(6,.box [.any,.any,.any]),(11,.any)]⟩
noncomputable def Q130.h11:cC:=⟨[(3,.any),(6,.box [.any,.any,.any]),(11,.any),(15,.row .i64 4),(52,.il .i64 3),(53,.any),(54,.any)],[(3,.any),(6,.box [.any,.any,.any]),(15,.row .i64 4)]⟩
noncomputable def Q130.h21:cC:=⟨[(3,.any),(19,.row .i64 4),(20,.any),(75,.row .i64 4),(76,.any),(77,.any)],[(19,.row .i64 4)]⟩
noncomputable def Q130.h27:cC:=⟨[(3,.any),(19,.row .i64 4),(20,.any),(22,.box [.any,.any,.any,.any]),(23,.row .i64 3),(75,.row .i64 4),(76,.any),(77,.any),(96,.any)],[(3,.any),(19,.row .i64 4),(20,.any),(23,.row .i64 3),(75,.row .i64 4),(76,.any),(77,.any)]⟩
noncomputable def Q130.h30:cC:=⟨[(3,.any),(19,.row .i64 4),(20,.any),(22,.box [.any,.any,.any,.any]),(23,.row .i64 3),(24,.box [.any,.any,.any]),(25,.any),(26,.box [.any,.any,.any]),(75,.row .i64 4),(76,.any),(77,.any),(96,.any)],[(3,.any),(19,.row .i64 4),(20,.any),(22,.box [.any,.any,.any,.any]),(23,.row .i64 3),(75,.row .i64 4),(76,.any),(77,.any),(96,.any)]⟩
noncomputable def Q130.h36:cC:=⟨[(3,.any),(19,.row .i64 4),(20,.any),(75,.row .i64 4),(76,.any),(77,.any),(120,.row .i64 3),(121,.any),(122,.any)],[(3,.any),(19,.row .i64 4),(20,.any),(75,.row .i64 4),(76,.any),(77,.any)]⟩
noncomputable def Q130.c3 (N:Nat):nF:=⟨fun vs H k=>match vs,H with
 | [.il .i64 3 t,.c (.int .i64 u),.c (.int .i64 a),.c (.int .i64 b),.ptr 0 0 3,.mref 1,.il .i64 3 c,.c (.int .i64 d),.c (.int .i64 e)],[.vals [.c (.int .i64 f),.c (.int .i64 g),.c (.int .i64 h)],.mp .i64 3 i (.ints .i64 j)]=>Q130.l3 N N t u a b c d e f g h i j (fun l m o p q r s=>k (.exit 0) ⟨fC Q130.h3.out [.il .i64 3 l,.c (.int .i64 m),.ptr 0 0 3,.mref 1],[.vals [.c (.int .i64 o),.c (.int .i64 p),.c (.int .i64 q)],.mp .i64 3 r (.ints .i64 s)]⟩)
 |_,_=>none⟩
noncomputable def Q130.c11 (N:Nat):nF:=⟨fun vs H k=>match vs,H with
 | [.c (.int .i64 a),.ptr 0 0 3,.mref 1,.sw 2 4,.il .i64 3 b,.c (.int .i64 c),.c (.int .i64 d)],[.vals [.c (.int .i64 e),.c (.int .i64 f),.c (.int .i64 g)],.mp .i64 3 h (.ints .i64 i),.ints .i64 j]=>Q130.l11 N N a b c d e f g h i j (fun l m o p q=>k (.exit 2) ⟨fC Q130.h11.out [.c (.int .i64 l),.ptr 0 0 3,.sw 1 4],[.vals [.c (.int .i64 m),.c (.int .i64 o),.c (.int .i64 p)],.ints .i64 q]⟩)
 |_,_=>none⟩
noncomputable def Q130.c30 (N:Nat):nF:=⟨fun vs H k=>match vs,H with
 | [.c (.int .i64 x89),.sw 0 4,.mref 1,.ptr 2 0 4,.sw 3 3,.ptr 4 0 3,.c (.int .i64 x90),.ptr 5 0 3,.sw 6 4,.c (.int .i64 x91),.c (.int .i64 x92),.ptr 7 0 0],[.ints .i64 x93,.mp .i64 3 x94 (.ints .i64 x95),.vals [.c (.int .i64 x96),.c (.int .i64 x97),.c (.int .i64 x98),.c (.int .i64 x99)],.ints .i64 a,.vals [.c (.int .i64 b),.c (.int .i64 c),.c (.int .i64 d)],.vals [.c (.int .i64 e),.c (.int .i64 f),.c (.int .i64 g)],.ints .i64 h,.it (some 1) i j l]=>Q130.l30 N N x89 x90 x91 x92 x93 x94 x95 x96 x97 x98 x99 a b c d e f g h i j l (fun m o p q r s t u v w x y z x126 x127=>k (.exit 8) ⟨fC Q130.h30.out [.c (.int .i64 m),.sw 0 4,.mref 1,.ptr 2 0 4,.sw 3 3,.sw 4 4,.c (.int .i64 o),.c (.int .i64 p),.ptr 5 0 0],[.ints .i64 q,.mp .i64 3 r (.ints .i64 s),.vals [.c (.int .i64 t),.c (.int .i64 u),.c (.int .i64 v),.c (.int .i64 w)],.ints .i64 x,.ints .i64 y,.it (some 1) z x126 x127]⟩)
 |_,_=>none⟩
noncomputable def Q130.c27 (N:Nat):nF:=⟨fun vs H k=>match vs,H with
 | [.c (.int .i64 a),.sw 0 4,.mref 1,.ptr 2 0 4,.sw 3 3,.sw 4 4,.c (.int .i64 b),.c (.int .i64 c),.ptr 5 0 0],[.ints .i64 d,.mp .i64 3 e (.ints .i64 f),.vals [.c (.int .i64 g),.c (.int .i64 h),.c (.int .i64 i),.c (.int .i64 j)],.ints .i64 l,.ints .i64 m,.it (some 1) o p q]=>Q130.l27 N N a b c d e f g h i j l m o p q (fun r s t u v w x y=>k (.exit 6) ⟨fC Q130.h27.out [.c (.int .i64 r),.sw 0 4,.mref 1,.sw 2 3,.sw 3 4,.c (.int .i64 s),.c (.int .i64 t)],[.ints .i64 u,.mp .i64 3 v (.ints .i64 w),.ints .i64 x,.ints .i64 y]⟩)
 |_,_=>none⟩
noncomputable def Q130.c36 (N:Nat):nF:=⟨fun vs H k=>match vs,H with
 | [.c (.int .i64 a),.sw 0 4,.mref 1,.sw 2 4,.c (.int .i64 b),.c (.int .i64 c),.sw 3 3,.c (.int .i64 d),.c (.int .i64 e)],[.ints .i64 f,.mp .i64 3 g (.ints .i64 h),.ints .i64 i,.ints .i64 j]=>Q130.l36 N N a b c d e f g h i j (fun l m o p q r s=>k (.exit 10) ⟨fC Q130.h36.out [.c (.int .i64 l),.sw 0 4,.mref 1,.sw 2 4,.c (.int .i64 m),.c (.int .i64 o)],[.ints .i64 p,.mp .i64 3 q (.ints .i64 r),.ints .i64 s]⟩)
 |_,_=>none⟩
noncomputable def Q130.c21 (N:Nat):nF:=⟨fun vs H k=>match vs,H with
 | [.c (.int .i64 b),.sw 0 4,.mref 1,.sw 2 4,.c (.int .i64 c),.c (.int .i64 d)],[.ints .i64 e,.mp .i64 3 f (.ints .i64 g),.ints .i64 h]=>Q130.l21 N N b c d e f g h (fun a=>k (.exit 4) ⟨fC Q130.h21.out [.sw 0 4],[.ints .i64 a]⟩)
 |_,_=>none⟩
noncomputable def Q130.E (N:Nat):jC:=iD [(2,aN),(3,F1),(23,iW),(33,aG),(42,J2),(53,jo),(57,jq),(85,Gf)] [(55,Q128.ent N),(34,Q129.ent N),(66,Q125.ent N),(39,Q127.ent N)] [(3,Q130.h3),(11,Q130.h11),(21,Q130.h21),(27,Q130.h27),(30,Q130.h30),(36,Q130.h36)] [(3,Q130.c3 N),(11,Q130.c11 N),(30,Q130.c30 N),(27,Q130.c27 N),(36,Q130.c36 N),(21,Q130.c21 N)] N [.tmp 10] [.row .i64 4] 0 135 true
noncomputable def Q130.b3:Code:=nA ((dA (bo Tryz.f47)).getD 0 .skip)
theorem Q130.l3_eq {R:Type}(N n:Nat)(u:List Int)(v a b:Int)(c:List Int)(d e f g h:Int)(i:List (List Int))(j:List Int)(k:Ex→St→Option R):
  dB 0 Q130.h3 (fun s k=>bB (Q130.E N) 394 Q130.b3 s k) n [.il .i64 3 u,.c (.int .i64 v),.c (.int .i64 a),.c (.int .i64 b),.ptr 0 0 3,.mref 1,.il .i64 3 c,.c (.int .i64 d),.c (.int .i64 e)] [.vals [.c (.int .i64 f),.c (.int .i64 g),.c (.int .i64 h)],.mp .i64 3 i (.ints .i64 j)] k=Q130.l3 N n u v a b c d e f g h i j (fun l m o p q r t=>k (.exit 0) ⟨fC Q130.h3.out [.il .i64 3 l,.c (.int .i64 m),.ptr 0 0 3,.mref 1],[.vals [.c (.int .i64 o),.c (.int .i64 p),.c (.int .i64 q)],.mp .i64 3 r (.ints .i64 t)]⟩):=by
 induction n generalizing u v a b c d e f g h i j with
 |zero=>kernel_rfl
 |succ n ih=>
  simp only[Q130.l3,←ih]
  kernel_rfl
noncomputable def Q130.b11:Code:=nA ((dA (bo Tryz.f47)).getD 1 .skip)
theorem Q130.l11_eq {R:Type}(N n:Nat)(a:Int)(b:List Int)(c d e f g:Int)(h:List (List Int))(i j:List Int)(k:Ex→St→Option R):
  dB 0 Q130.h11 (fun s k=>bB (Q130.E N) 392 Q130.b11 s k) n [.c (.int .i64 a),.ptr 0 0 3,.mref 1,.sw 2 4,.il .i64 3 b,.c (.int .i64 c),.c (.int .i64 d)] [.vals [.c (.int .i64 e),.c (.int .i64 f),.c (.int .i64 g)],.mp .i64 3 h (.ints .i64 i),.ints .i64 j] k=Q130.l11 N n a b c d e f g h i j (fun l m o p q=>k (.exit 2) ⟨fC Q130.h11.out [.c (.int .i64 l),.ptr 0 0 3,.sw 1 4],[.vals [.c (.int .i64 m),.c (.int .i64 o),.c (.int .i64 p)],.ints .i64 q]⟩):=by
 induction n generalizing a b c d e f g h i j with
 |zero=>kernel_rfl
 |succ n ih=>
  simp only[Q130.l11,←ih]
  kernel_rfl
noncomputable def Q130.b30:Code:=nA ((dA (bo Tryz.f47)).getD 4 .skip)
theorem Q130.l30_eq {R:Type}(N n:Nat)(m o p q:Int)(r:List Int)(t:List (List Int))(u:List Int)(v w x y:Int)(a:List Int)(b c d e f g:Int)(h:List Int)(i:Nat)(j:List Nat)(l:Nat)(k:Ex→St→Option R):
  dB 0 Q130.h30 (fun s k=>bB (Q130.E N) 369 Q130.b30 s k) n [.c (.int .i64 m),.sw 0 4,.mref 1,.ptr 2 0 4,.sw 3 3,.ptr 4 0 3,.c (.int .i64 o),.ptr 5 0 3,.sw 6 4,.c (.int .i64 p),.c (.int .i64 q),.ptr 7 0 0] [.ints .i64 r,.mp .i64 3 t (.ints .i64 u),.vals [.c (.int .i64 v),.c (.int .i64 w),.c (.int .i64 x),.c (.int .i64 y)],.ints .i64 a,.vals [.c (.int .i64 b),.c (.int .i64 c),.c (.int .i64 d)],.vals [.c (.int .i64 e),.c (.int .i64 f),.c (.int .i64 g)],.ints .i64 h,.it (some 1) i j l] k=Q130.l30 N n m o p q r t u v w x y a b c d e f g h i j l (fun z x114 x115 x116 x117 x118 x119 x120 x121 x122 x123 x124 x125 x126 x127=>k (.exit 8) ⟨fC Q130.h30.out [.c (.int .i64 z),.sw 0 4,.mref 1,.ptr 2 0 4,.sw 3 3,.sw 4 4,.c (.int .i64 x114),.c (.int .i64 x115),.ptr 5 0 0],[.ints .i64 x116,.mp .i64 3 x117 (.ints .i64 x118),.vals [.c (.int .i64 x119),.c (.int .i64 x120),.c (.int .i64 x121),.c (.int .i64 x122)],.ints .i64 x123,.ints .i64 x124,.it (some 1) x125 x126 x127]⟩):=by
 induction n generalizing m o p q r t u v w x y a b c d e f g h i j l with
 |zero=>kernel_rfl
 |succ n ih=>
  simp only[Q130.l30,←ih]
  kernel_rfl
noncomputable def Q130.b27:Code:=nA ((dA (bo Tryz.f47)).getD 3 .skip)
theorem Q130.l27_eq {R:Type}(N n:Nat)(a b c:Int)(d:List Int)(e:List (List Int))(f:List Int)(g h i j:Int)(l m:List Int)(o:Nat)(p:List Nat)(q:Nat)(k:Ex→St→Option R):
  dB 0 Q130.h27 (fun s k=>bB (Q130.E N) 376 Q130.b27 s k) n [.c (.int .i64 a),.sw 0 4,.mref 1,.ptr 2 0 4,.sw 3 3,.sw 4 4,.c (.int .i64 b),.c (.int .i64 c),.ptr 5 0 0] [.ints .i64 d,.mp .i64 3 e (.ints .i64 f),.vals [.c (.int .i64 g),.c (.int .i64 h),.c (.int .i64 i),.c (.int .i64 j)],.ints .i64 l,.ints .i64 m,.it (some 1) o p q] k=Q130.l27 N n a b c d e f g h i j l m o p q (fun r t u v w x y z=>k (.exit 6) ⟨fC Q130.h27.out [.c (.int .i64 r),.sw 0 4,.mref 1,.sw 2 3,.sw 3 4,.c (.int .i64 t),.c (.int .i64 u)],[.ints .i64 v,.mp .i64 3 w (.ints .i64 x),.ints .i64 y,.ints .i64 z]⟩):=by
 induction n generalizing a b c d e f g h i j l m o p q with
 |zero=>kernel_rfl
 |succ n ih=>
  simp only[Q130.l27,←ih]
  kernel_rfl
noncomputable def Q130.b36:Code:=nA ((dA (bo Tryz.f47)).getD 5 .skip)
theorem Q130.l36_eq {R:Type}(N n:Nat)(a b c d e:Int)(f:List Int)(g:List (List Int))(h i j:List Int)(k:Ex→St→Option R):
  dB 0 Q130.h36 (fun s k=>bB (Q130.E N) 376 Q130.b36 s k) n [.c (.int .i64 a),.sw 0 4,.mref 1,.sw 2 4,.c (.int .i64 b),.c (.int .i64 c),.sw 3 3,.c (.int .i64 d),.c (.int .i64 e)] [.ints .i64 f,.mp .i64 3 g (.ints .i64 h),.ints .i64 i,.ints .i64 j] k=Q130.l36 N n a b c d e f g h i j (fun l m o p q r t=>k (.exit 10) ⟨fC Q130.h36.out [.c (.int .i64 l),.sw 0 4,.mref 1,.sw 2 4,.c (.int .i64 m),.c (.int .i64 o)],[.ints .i64 p,.mp .i64 3 q (.ints .i64 r),.ints .i64 t]⟩):=by
 induction n generalizing a b c d e f g h i j with
 |zero=>kernel_rfl
 |succ n ih=>
  simp only[Q130.l36,←ih]
  kernel_rfl
noncomputable def Q130.b21:Code:=nA ((dA (bo Tryz.f47)).getD 2 .skip)
theorem Q130.l21_eq {R:Type}(N n:Nat)(a b c:Int)(d:List Int)(e:List (List Int))(f g:List Int)(k:Ex→St→Option R):
  dB 0 Q130.h21 (fun s k=>bB (Q130.E N) 388 Q130.b21 s k) n [.c (.int .i64 a),.sw 0 4,.mref 1,.sw 2 4,.c (.int .i64 b),.c (.int .i64 c)] [.ints .i64 d,.mp .i64 3 e (.ints .i64 f),.ints .i64 g] k=Q130.l21 N n a b c d e f g (fun h=>k (.exit 4) ⟨fC Q130.h21.out [.sw 0 4],[.ints .i64 h]⟩):=by
 induction n generalizing a b c d e f g with
 |zero=>kernel_rfl
 |succ n ih=>
  simp only[Q130.l21,←ih]
  kernel_rfl
noncomputable def Q130.dec (v:V)(bs:List rA):Option (List Int):=match v,bs with
 | .sw 0 4,[.ints .i64 a]=>some a
 |_,_=>none
theorem Q130.f_eq (N:Nat)(a:List Int)(b c d e f g:Int):
  aB (Q130.E N) (bo Tryz.f47) [.il .i64 3 a,.agg [.c (.int .i64 b),.c (.int .i64 c),.c (.int .i64 d)],.c (.int .i64 e),.c (.int .i64 f),.c (.int .i64 g)] [] Q130.dec=Q130.f N a b c d e f g:=by kernel_rfl
noncomputable def Q130.ent (N:Nat):uA:=tD (List Int) 1 [true,true,true,true,true] [.il .i64 3,.recd [.any,.any,.any],.any,.any,.any] fun
 | [.il .i64 3 a,.agg [.c (.int .i64 b),.c (.int .i64 c),.c (.int .i64 d)],.c (.int .i64 e),.c (.int .i64 f),.c (.int .i64 g)]=>some (Q130.f N a b c d e f g,fun r=>.one (.sw 0 4) [.ints .i64 r])
 |_=>none
theorem Q130.env (N:Nat):yA Tryz.prog (Q130.E N):=⟨(.cons nC (.cons jO (.cons fI (.cons xB (.cons Gd (.cons qL (.cons rL (.cons js .nil)))))))),(.cons (Q128.ent_ok N) (.cons (Q129.ent_ok N) (.cons (Q125.ent_ok N) (.cons (Q127.ent_ok N) .nil))))⟩
theorem Q130.k36 (N:Nat):gB Tryz.prog Tryz.f47 (Q130.E N) (.loop Q130.b36):=dC (Q130.env N) bA 376 (c:=Q130.c36 N) cA.n fun R vs H k r h=>by unfold Q130.c36 at h;dsimp only at h;split at h;exact⟨_,Q130.l36_eq .. ▸h⟩;cases h
theorem Q130.k30 (N:Nat):gB Tryz.prog Tryz.f47 (Q130.E N) (.loop Q130.b30):=dC (Q130.env N) bA 369 (c:=Q130.c30 N) cA.n fun R vs H k r h=>by unfold Q130.c30 at h;dsimp only at h;split at h;exact⟨_,Q130.l30_eq .. ▸h⟩;cases h
theorem Q130.k27 (N:Nat):gB Tryz.prog Tryz.f47 (Q130.E N) (.loop Q130.b27):=dC (Q130.env N) bA 376 (c:=Q130.c27 N) (cA.of (l:=[(.loop (nA ((dA (bo Tryz.f47)).getD 4 .skip)))]) (by kernel_rfl) (cA.cons (Q130.k30 N) cA.nil)) fun R vs H k r h=>by unfold Q130.c27 at h;dsimp only at h;split at h;exact⟨_,Q130.l27_eq .. ▸h⟩;cases h
theorem Q130.k21 (N:Nat):gB Tryz.prog Tryz.f47 (Q130.E N) (.loop Q130.b21):=dC (Q130.env N) bA 388 (c:=Q130.c21 N) (cA.of (l:=[(.loop (nA ((dA (bo Tryz.f47)).getD 3 .skip))),(.loop (nA ((dA (bo Tryz.f47)).getD 4 .skip))),(.loop (nA ((dA (bo Tryz.f47)).getD 5 .skip)))]) (by kernel_rfl) (cA.cons (Q130.k27 N) (cA.cons (Q130.k30 N) (cA.cons (Q130.k36 N) cA.nil)))) fun R vs H k r h=>by unfold Q130.c21 at h;dsimp only at h;split at h;exact⟨_,Q130.l21_eq .. ▸h⟩;cases h
theorem Q130.k11 (N:Nat):gB Tryz.prog Tryz.f47 (Q130.E N) (.loop Q130.b11):=dC (Q130.env N) bA 392 (c:=Q130.c11 N) cA.n fun R vs H k r h=>by unfold Q130.c11 at h;dsimp only at h;split at h;exact⟨_,Q130.l11_eq .. ▸h⟩;cases h
theorem Q130.k3 (N:Nat):gB Tryz.prog Tryz.f47 (Q130.E N) (.loop Q130.b3):=dC (Q130.env N) bA 394 (c:=Q130.c3 N) cA.n fun R vs H k r h=>by unfold Q130.c3 at h;dsimp only at h;split at h;exact⟨_,Q130.l3_eq .. ▸h⟩;cases h
theorem Q130.spec (N:Nat)(a:List Int)(c d f g i j:Int)(r:List Int)(h:Q130.f N a c d f g i j=some r):eA Tryz.prog 47 [.il .i64 3 a,.agg [.c (.int .i64 c),.c (.int .i64 d),.c (.int .i64 f)],.c (.int .i64 g),.c (.int .i64 i),.c (.int .i64 j)] [] (.sw 0 4) ([.ints .i64 r]):=pA (Q130.env N) bA Tryz.func47 (cA.of (l:=[(.loop (nA ((dA (bo Tryz.f47)).getD 0 .skip))),(.loop (nA ((dA (bo Tryz.f47)).getD 1 .skip))),(.loop (nA ((dA (bo Tryz.f47)).getD 2 .skip))),(.loop (nA ((dA (bo Tryz.f47)).getD 3 .skip))),(.loop (nA ((dA (bo Tryz.f47)).getD 4 .skip))),(.loop (nA ((dA (bo Tryz.f47)).getD 5 .skip)))]) (by kernel_rfl) (cA.cons (Q130.k3 N) (cA.cons (Q130.k11 N) (cA.cons (Q130.k21 N) (cA.cons (Q130.k27 N) (cA.cons (Q130.k30 N) (cA.cons (Q130.k36 N) cA.nil))))))) ((Q130.f_eq ..).trans h) fun v b e=>by unfold Q130.dec at e;split at e<;>cases e;exact⟨rfl,rfl⟩
theorem Q130.ent_ok (N:Nat):oA Tryz.prog 47 (Q130.ent N):=sA fun v a e h=>by split at h;exact nB (Q:=fun e=>eA _ _ _ _ (e a).pick.1 (e a).pick.2) h fun k=>Q130.spec N _ _ _ _ _ _ _ a k;cases h
noncomputable def Q131.l13 {R:Type}(N:Nat):Nat→Int→Int→List Int→Int→Int→Int→Int→List Int→Int→Int→Int→List Int→Int→Int→(Int→Int→List Int→Int→Int→List Int→Int→Int→Int→List Int→Int→Int→Option R)→Option R
 |0,_,_,_,_,_,_,_,_,_,_,_,_,_,_,_=>none
 |n+1,b,c,d,e,f,g,h,i,j,k,l,m,a,o,p=>
  bif decide (h<g)then
   Q131.l13 N n b (aA (c*a)) d e f g (aA (h+1)) i j k l m a o p
  else
  p b c d e f i j k l m a o
noncomputable def Q131.l17 {R:Type}(N:Nat):Nat→Int→List Int→Int→Int→Int→Int→List Int→Int→Int→Int→List Int→List Int→(Int→List Int→Int→Int→List Int→Int→Int→Int→List Int→Option R)→Option R
 |0,_,_,_,_,_,_,_,_,_,_,_,_,_=>none
 |n+1,i,j,k,l,m,a,o,c,d,e,b,f,p=>
  bif decide (a<m)then
   bif (decide (0≤a))&&(decide (a<(f.length/4:Int)))then
    bif a==(b.length/4:Int)then
     bif jB ((b.length+4)/4) 32 then
      bif (decide (0≤a))&&(decide (a<(((b++[c,d,e,1]).length)/4:Int)))then
       (Q127.f N ((b++[c,d,e,1]).getD (a.toNat*4) 0) ((b++[c,d,e,1]).getD ((a.toNat*4)+1) 0) ((b++[c,d,e,1]).getD ((a.toNat*4)+2) 0) (f.getD (a.toNat*4) 0) (f.getD ((a.toNat*4)+1) 0) (f.getD ((a.toNat*4)+2) 0)).bind fun g=>
       bif (decide (0≤a))&&(decide (a<(((b++[c,d,e,1]).length)/4:Int)))then
        bif (decide (0≤a))&&(decide (a<(((b++[c,d,e,1]).length)/4:Int)))then
         Q131.l17 N n i j k l m (aA (a+1)) o c d e (((((b++[c,d,e,1]).set (a.toNat*4) g.1).set ((a.toNat*4)+1) g.2.1).set ((a.toNat*4)+2) g.2.2).set ((a.toNat*4)+3) (aA (((b++[c,d,e,1]).getD ((a.toNat*4)+3) 0)*(f.getD ((a.toNat*4)+3) 0)))) f p
        else none
       else none
      else none
     else none
    else
    bif (decide (0≤a))&&(decide (a<(b.length/4:Int)))then
     (Q127.f N (b.getD (a.toNat*4) 0) (b.getD ((a.toNat*4)+1) 0) (b.getD ((a.toNat*4)+2) 0) (f.getD (a.toNat*4) 0) (f.getD ((a.toNat*4)+1) 0) (f.getD ((a.toNat*4)+2) 0)).bind fun h=>
     bif (decide (0≤a))&&(decide (a<(b.length/4:Int)))then
      bif (decide (0≤a))&&(decide (a<(b.length/4:Int)))then
       Q131.l17 N n i j k l m (aA (a+1)) o c d e ((((b.set (a.toNat*4) h.1).set ((a.toNat*4)+1) h.2.1).set ((a.toNat*4)+2) h.2.2).set ((a.toNat*4)+3) (aA ((b.getD ((a.toNat*4)+3) 0)*(f.getD ((a.toNat*4)+3) 0)))) f p
      else none
     else none
    else none
   else none
  else
  p i j k l o c d e b
noncomputable def Q131.l9 {R:Type}(N:Nat):Nat→Int→List Int→Int→Int→List Int→Int→Int→Int→List Int→(List Int→Option R)→Option R
 |0,_,_,_,_,_,_,_,_,_,_=>none
 |n+1,x5,d,x7,a,x9,j,k,l,c,k0=>
  bif decide (a<x7)then
   bif (decide (0≤a))&&(decide (a<(d.length/2:Int)))then
    Q131.l13 N N x5 1 d x7 a (d.getD ((a.toNat*2)+1) 0) 0 x9 j k l c (d.getD (a.toNat*2) 0) (d.getD ((a.toNat*2)+1) 0)
     (fun e m o p q f g h i r s y51=>
      (Q130.f N f g h i e s m).bind fun b=>
      Q131.l17 N N e o p q (b.length/4:Int) 0 f g h i r b
       (fun t u v w x y z y83 y84=>
        Q131.l9 N n t u v (aA (w+1)) x y z y83 y84 k0))
   else none
  else
  k0 c
noncomputable def Q131.f (N:Nat)(e:Int):Option (List Int×Int):=
 (Q114.f N e).bind fun a=>
 bif a.2 != 0 then
  some ([],a.2)
 else
 (Q83.f N e).bind fun b=>
 (Q117.f N (a.1.length/3:Int)).bind fun f=>
 Q131.l9 N N (a.1.length/3:Int) f.1 (f.1.length/2:Int) 0 a.1 b.1 b.2.1 b.2.2.1 []
  (fun d=>
   (Q126.f N d).bind fun c=>
   some (c,0))
noncomputable def Q131.h9:cC:=⟨[(4,.row .i64 3),(6,.box [.any,.any,.any]),(8,.any),(9,.row .i64 4),(37,.il .i64 2),(38,.any),(39,.any)],[(9,.row .i64 4)]⟩
noncomputable def Q131.h13:cC:=⟨[(4,.row .i64 3),(6,.box [.any,.any,.any]),(8,.any),(9,.row .i64 4),(13,.box [.any,.any]),(14,.any),(37,.il .i64 2),(38,.any),(39,.any),(44,.any),(45,.any)],[(4,.row .i64 3),(6,.box [.any,.any,.any]),(8,.any),(9,.row .i64 4),(13,.box [.any,.any]),(14,.any),(37,.il .i64 2),(38,.any),(39,.any)]⟩
noncomputable def Q131.h17:cC:=⟨[(4,.row .i64 3),(6,.box [.any,.any,.any]),(8,.any),(9,.row .i64 4),(37,.il .i64 2),(38,.any),(39,.any),(58,.row .i64 4),(59,.any),(60,.any)],[(4,.row .i64 3),(6,.box [.any,.any,.any]),(8,.any),(9,.row .i64 4),(37,.il .i64 2),(38,.any),(39,.any)]⟩
noncomputable def Q131.c13 (N:Nat):nF:=⟨fun vs H k=>match vs,H with
 | [.sw 0 3,.ptr 1 0 3,.c (.int .i64 a),.sw 2 4,.ptr 3 0 2,.c (.int .i64 b),.il .i64 2 c,.c (.int .i64 d),.c (.int .i64 e),.c (.int .i64 f),.c (.int .i64 g)],[.ints .i64 h,.vals [.c (.int .i64 i),.c (.int .i64 j),.c (.int .i64 l)],.ints .i64 m,.vals [.c (.int .i64 o),.c (.int .i64 p)]]=>Q131.l13 N N a b c d e f g h i j l m o p (fun q r s t u v w x y z x38 x39=>k (.exit 2) ⟨fC Q131.h13.out [.sw 0 3,.ptr 1 0 3,.c (.int .i64 q),.sw 2 4,.ptr 3 0 2,.c (.int .i64 r),.il .i64 2 s,.c (.int .i64 t),.c (.int .i64 u)],[.ints .i64 v,.vals [.c (.int .i64 w),.c (.int .i64 x),.c (.int .i64 y)],.ints .i64 z,.vals [.c (.int .i64 x38),.c (.int .i64 x39)]]⟩)
 |_,_=>none⟩
noncomputable def Q131.c17 (N:Nat):nF:=⟨fun vs H k=>match vs,H with
 | [.sw 0 3,.ptr 1 0 3,.c (.int .i64 a),.sw 2 4,.il .i64 2 b,.c (.int .i64 c),.c (.int .i64 d),.sw 3 4,.c (.int .i64 e),.c (.int .i64 f)],[.ints .i64 g,.vals [.c (.int .i64 h),.c (.int .i64 i),.c (.int .i64 j)],.ints .i64 l,.ints .i64 m]=>Q131.l17 N N a b c d e f g h i j l m (fun o p q r s t u v w=>k (.exit 4) ⟨fC Q131.h17.out [.sw 0 3,.ptr 1 0 3,.c (.int .i64 o),.sw 2 4,.il .i64 2 p,.c (.int .i64 q),.c (.int .i64 r)],[.ints .i64 s,.vals [.c (.int .i64 t),.c (.int .i64 u),.c (.int .i64 v)],.ints .i64 w]⟩)
 |_,_=>none⟩
noncomputable def Q131.c9 (N:Nat):nF:=⟨fun vs H k=>match vs,H with
 | [.sw 0 3,.ptr 1 0 3,.c (.int .i64 f),.sw 2 4,.il .i64 2 g,.c (.int .i64 h),.c (.int .i64 i)],[.ints .i64 j,.vals [.c (.int .i64 a),.c (.int .i64 b),.c (.int .i64 c)],.ints .i64 d]=>Q131.l9 N N f g h i j a b c d (fun e=>k (.exit 0) ⟨fC Q131.h9.out [.sw 0 4],[.ints .i64 e]⟩)
 |_,_=>none⟩
noncomputable def Q131.E (N:Nat):jC:=iD [(2,aN),(3,F1),(23,iW),(33,aG),(53,jo),(57,jq),(60,Et),(64,Ge)] [(23,Q114.ent N),(27,Q83.ent N),(46,Q117.ent N),(47,Q130.ent N),(39,Q127.ent N),(48,Q126.ent N)] [(9,Q131.h9),(13,Q131.h13),(17,Q131.h17)] [(13,Q131.c13 N),(17,Q131.c17 N),(9,Q131.c9 N)] N [.tmp 2,.tmp 3] [.il .i64 4,.any] 0 99
noncomputable def Q131.b13:Code:=nA ((dA (bo Tryz.f28)).getD 1 .skip)
theorem Q131.l13_eq {R:Type}(N n:Nat)(a b:Int)(c:List Int)(d e f g:Int)(h:List Int)(i j l:Int)(m:List Int)(o p:Int)(k:Ex→St→Option R):
  dB 0 Q131.h13 (fun s k=>bB (Q131.E N) 379 Q131.b13 s k) n [.sw 0 3,.ptr 1 0 3,.c (.int .i64 a),.sw 2 4,.ptr 3 0 2,.c (.int .i64 b),.il .i64 2 c,.c (.int .i64 d),.c (.int .i64 e),.c (.int .i64 f),.c (.int .i64 g)] [.ints .i64 h,.vals [.c (.int .i64 i),.c (.int .i64 j),.c (.int .i64 l)],.ints .i64 m,.vals [.c (.int .i64 o),.c (.int .i64 p)]] k=Q131.l13 N n a b c d e f g h i j l m o p (fun q r t u v w x y z x37 x38 x39=>k (.exit 2) ⟨fC Q131.h13.out [.sw 0 3,.ptr 1 0 3,.c (.int .i64 q),.sw 2 4,.ptr 3 0 2,.c (.int .i64 r),.il .i64 2 t,.c (.int .i64 u),.c (.int .i64 v)],[.ints .i64 w,.vals [.c (.int .i64 x),.c (.int .i64 y),.c (.int .i64 z)],.ints .i64 x37,.vals [.c (.int .i64 x38),.c (.int .i64 x39)]]⟩):=by
 induction n generalizing a b c d e f g h i j l m o p with
 |zero=>kernel_rfl
 |succ n ih=>
  simp only[Q131.l13,←ih]
  kernel_rfl
noncomputable def Q131.b17:Code:=nA ((dA (bo Tryz.f28)).getD 2 .skip)
theorem Q131.l17_eq {R:Type}(N n:Nat)(a:Int)(b:List Int)(c d e f:Int)(g:List Int)(h i j:Int)(l m:List Int)(k:Ex→St→Option R):
  dB 0 Q131.h17 (fun s k=>bB (Q131.E N) 379 Q131.b17 s k) n [.sw 0 3,.ptr 1 0 3,.c (.int .i64 a),.sw 2 4,.il .i64 2 b,.c (.int .i64 c),.c (.int .i64 d),.sw 3 4,.c (.int .i64 e),.c (.int .i64 f)] [.ints .i64 g,.vals [.c (.int .i64 h),.c (.int .i64 i),.c (.int .i64 j)],.ints .i64 l,.ints .i64 m] k=Q131.l17 N n a b c d e f g h i j l m (fun o p q r t u v w x=>k (.exit 4) ⟨fC Q131.h17.out [.sw 0 3,.ptr 1 0 3,.c (.int .i64 o),.sw 2 4,.il .i64 2 p,.c (.int .i64 q),.c (.int .i64 r)],[.ints .i64 t,.vals [.c (.int .i64 u),.c (.int .i64 v),.c (.int .i64 w)],.ints .i64 x]⟩):=by
 induction n generalizing a b c d e f g h i j l m with
 |zero=>kernel_rfl
 |succ n ih=>
  simp only[Q131.l17,←ih]
  kernel_rfl
noncomputable def Q131.b9:Code:=nA ((dA (bo Tryz.f28)).getD 0 .skip)
theorem Q131.l9_eq {R:Type}(N n:Nat)(e:Int)(f:List Int)(g h:Int)(j:List Int)(a b c:Int)(d:List Int)(k:Ex→St→Option R):
  dB 0 Q131.h9 (fun s k=>bB (Q131.E N) 389 Q131.b9 s k) n [.sw 0 3,.ptr 1 0 3,.c (.int .i64 e),.sw 2 4,.il .i64 2 f,.c (.int .i64 g),.c (.int .i64 h)] [.ints .i64 j,.vals [.c (.int .i64 a),.c (.int .i64 b),.c (.int .i64 c)],.ints .i64 d] k=Q131.l9 N n e f g h j a b c d (fun i=>k (.exit 0) ⟨fC Q131.h9.out [.sw 0 4],[.ints .i64 i]⟩):=by
 induction n generalizing e f g h j a b c d with
 |zero=>kernel_rfl
 |succ n ih=>
  simp only[Q131.l9,←ih]
  kernel_rfl
noncomputable def Q131.dec (v:V)(bs:List rA):Option (List Int×Int):=match v,bs with
 | .tup [.il .i64 4 a,.c (.int .i64 b)],[]=>some (a,b)
 |_,_=>none
theorem Q131.f_eq (N:Nat)(a:Int):
  aB (Q131.E N) (bo Tryz.f28) [.c (.int .i64 a)] [] Q131.dec=Q131.f N a:=by kernel_rfl
noncomputable def Q131.ent (N:Nat):uA:=tD (List Int×Int) 0 [true] [.any] fun
 | [.c (.int .i64 a)]=>some (Q131.f N a,fun r=>.one (.tup [.il .i64 4 r.1,.c (.int .i64 r.2)]) [])
 |_=>none
theorem Q131.env (N:Nat):yA Tryz.prog (Q131.E N):=⟨(.cons nC (.cons jO (.cons fI (.cons xB (.cons qL (.cons rL (.cons cX (.cons jr .nil)))))))),(.cons (Q114.ent_ok N) (.cons (Q83.ent_ok N) (.cons (Q117.ent_ok N) (.cons (Q130.ent_ok N) (.cons (Q127.ent_ok N) (.cons (Q126.ent_ok N) .nil))))))⟩
theorem Q131.k17 (N:Nat):gB Tryz.prog Tryz.f28 (Q131.E N) (.loop Q131.b17):=dC (Q131.env N) bA 379 (c:=Q131.c17 N) cA.n fun R vs H k r h=>by unfold Q131.c17 at h;dsimp only at h;split at h;exact⟨_,Q131.l17_eq .. ▸h⟩;cases h
theorem Q131.k13 (N:Nat):gB Tryz.prog Tryz.f28 (Q131.E N) (.loop Q131.b13):=dC (Q131.env N) bA 379 (c:=Q131.c13 N) cA.n fun R vs H k r h=>by unfold Q131.c13 at h;dsimp only at h;split at h;exact⟨_,Q131.l13_eq .. ▸h⟩;cases h
theorem Q131.k9 (N:Nat):gB Tryz.prog Tryz.f28 (Q131.E N) (.loop Q131.b9):=dC (Q131.env N) bA 389 (c:=Q131.c9 N) (cA.of (l:=[(.loop (nA ((dA (bo Tryz.f28)).getD 1 .skip))),(.loop (nA ((dA (bo Tryz.f28)).getD 2 .skip)))]) (by kernel_rfl) (cA.cons (Q131.k13 N) (cA.cons (Q131.k17 N) cA.nil))) fun R vs H k r h=>by unfold Q131.c9 at h;dsimp only at h;split at h;exact⟨_,Q131.l9_eq .. ▸h⟩;cases h
theorem Q131.spec (N:Nat)(a:Int)(r:List Int×Int)(h:Q131.f N a=some r):eA Tryz.prog 28 [.c (.int .i64 a)] [] (.tup [.il .i64 4 r.1,.c (.int .i64 r.2)]) ([]):=pA (Q131.env N) bA Tryz.func28 (cA.of (l:=[(.loop (nA ((dA (bo Tryz.f28)).getD 0 .skip))),(.loop (nA ((dA (bo Tryz.f28)).getD 1 .skip))),(.loop (nA ((dA (bo Tryz.f28)).getD 2 .skip)))]) (by kernel_rfl) (cA.cons (Q131.k9 N) (cA.cons (Q131.k13 N) (cA.cons (Q131.k17 N) cA.nil)))) ((Q131.f_eq ..).trans h) fun v b e=>by unfold Q131.dec at e;split at e<;>cases e;exact⟨rfl,rfl⟩
theorem Q131.ent_ok (N:Nat):oA Tryz.prog 28 (Q131.ent N):=sA fun v a e h=>by split at h;exact nB (Q:=fun e=>eA _ _ _ _ (e a).pick.1 (e a).pick.2) h fun k=>Q131.spec N _ a k;cases h
noncomputable def Q132.l5 {R:Type}(N:Nat):Nat→List Int→Int→Int→List Int→List Int→(List Int→List Int→Option R)→Option R
 |0,_,_,_,_,_,_=>none
 |n+1,b,f,a,c,d,e=>
  bif decide (a<f)then
   bif (decide (0≤a))&&(decide (a<(b.length/4:Int)))then
    bif jB ((c.length+3)/3) 24 then
     bif jB (d.length+1) 8 then
      Q132.l5 N n b f (aA (a+1)) (c++[b.getD (a.toNat*4) 0,b.getD ((a.toNat*4)+1) 0,b.getD ((a.toNat*4)+2) 0]) (d++[b.getD ((a.toNat*4)+3) 0]) e
     else none
    else none
   else none
  else
  e c d
noncomputable def Q132.f (N:Nat)(d:Int):Option (List Int×List Int×Int):=
 (Q131.f N d).bind fun a=>
 bif a.2 != 0 then
  some ([],[],a.2)
 else
 Q132.l5 N N a.1 (a.1.length/4:Int) 0 [] []
  (fun b c=>
   some (b,c,0))
noncomputable def Q132.h5:cC:=⟨[(2,.row .i64 3),(3,.row .i64 1),(16,.il .i64 4),(17,.any),(18,.any)],[(2,.row .i64 3),(3,.row .i64 1)]⟩
noncomputable def Q132.c5 (N:Nat):nF:=⟨fun vs H k=>match vs,H with
 | [.sw 0 3,.sw 1 1,.il .i64 4 a,.c (.int .i64 b),.c (.int .i64 c)],[.ints .i64 d,.ints .i64 e]=>Q132.l5 N N a b c d e (fun f g=>k (.exit 0) ⟨fC Q132.h5.out [.sw 0 3,.sw 1 1],[.ints .i64 f,.ints .i64 g]⟩)
 |_,_=>none⟩
noncomputable def Q132.E (N:Nat):jC:=iD [(2,aN),(23,iW),(24,Ie),(33,aG),(53,jo),(57,jq)] [(28,Q131.ent N)] [(5,Q132.h5)] [(5,Q132.c5 N)] N [.tmp 2,.tmp 3,.tmp 4] [.il .i64 3,.il .i64 1,.any] 0 35
noncomputable def Q132.b5:Code:=nA ((dA (bo Tryz.f11)).getD 0 .skip)
theorem Q132.l5_eq {R:Type}(N n:Nat)(a:List Int)(b c:Int)(d e:List Int)(k:Ex→St→Option R):
  dB 0 Q132.h5 (fun s k=>bB (Q132.E N) 393 Q132.b5 s k) n [.sw 0 3,.sw 1 1,.il .i64 4 a,.c (.int .i64 b),.c (.int .i64 c)] [.ints .i64 d,.ints .i64 e] k=Q132.l5 N n a b c d e (fun f g=>k (.exit 0) ⟨fC Q132.h5.out [.sw 0 3,.sw 1 1],[.ints .i64 f,.ints .i64 g]⟩):=by
 induction n generalizing a b c d e with
 |zero=>kernel_rfl
 |succ n ih=>
  simp only[Q132.l5,←ih]
  kernel_rfl
noncomputable def Q132.dec (v:V)(bs:List rA):Option (List Int×List Int×Int):=match v,bs with
 | .tup [.il .i64 3 a,.il .i64 1 b,.c (.int .i64 c)],[]=>some (a,b,c)
 |_,_=>none
theorem Q132.f_eq (N:Nat)(a:Int):
  aB (Q132.E N) (bo Tryz.f11) [.c (.int .i64 a)] [] Q132.dec=Q132.f N a:=by kernel_rfl
noncomputable def Q132.ent (N:Nat):uA:=tD (List Int×List Int×Int) 0 [true] [.any] fun
 | [.c (.int .i64 a)]=>some (Q132.f N a,fun r=>.one (.tup [.il .i64 3 r.1,.il .i64 1 r.2.1,.c (.int .i64 r.2.2)]) [])
 |_=>none
theorem Q132.env (N:Nat):yA Tryz.prog (Q132.E N):=⟨(.cons nC (.cons fI (.cons yd (.cons xB (.cons qL (.cons rL .nil)))))),(.cons (Q131.ent_ok N) .nil)⟩
theorem Q132.k5 (N:Nat):gB Tryz.prog Tryz.f11 (Q132.E N) (.loop Q132.b5):=dC (Q132.env N) bA 393 (c:=Q132.c5 N) cA.n fun R vs H k r h=>by unfold Q132.c5 at h;dsimp only at h;split at h;exact⟨_,Q132.l5_eq .. ▸h⟩;cases h
theorem Q132.spec (N:Nat)(a:Int)(r:List Int×List Int×Int)(h:Q132.f N a=some r):eA Tryz.prog 11 [.c (.int .i64 a)] [] (.tup [.il .i64 3 r.1,.il .i64 1 r.2.1,.c (.int .i64 r.2.2)]) ([]):=pA (Q132.env N) bA Tryz.func11 (cA.of (l:=[(.loop (nA ((dA (bo Tryz.f11)).getD 0 .skip)))]) (by kernel_rfl) (cA.cons (Q132.k5 N) cA.nil)) ((Q132.f_eq ..).trans h) fun v b e=>by unfold Q132.dec at e;split at e<;>cases e;exact⟨rfl,rfl⟩
theorem Q132.ent_ok (N:Nat):oA Tryz.prog 11 (Q132.ent N):=sA fun v a e h=>by split at h;exact nB (Q:=fun e=>eA _ _ _ _ (e a).pick.1 (e a).pick.2) h fun k=>Q132.spec N _ a k;cases h
noncomputable def Q133.f (N:Nat)(b c d:Int):Option (Int×Int×Int×Int×Int):=
 (Q87.f N b c d).bind fun e=>
 bif e.2.2.2 != 0 then
  some (0,0,0,0,e.2.2.2)
 else
 (Q47.f N b c d).bind fun g=>
 (Q115.f N g).bind fun f=>
 bif f.2 != 0 then
  some (0,0,0,0,80)
 else
 (Q50.f N b c d).bind fun a=>
 some (a.1,a.2.1,a.2.2.1,f.1,a.2.2.2.2.2.2.2)
noncomputable def Q133.E (N:Nat):jC:=iD [(2,aN),(33,aG),(72,Eu)] [(45,Q87.ent N),(19,Q47.ent N),(17,Q115.ent N),(54,Q50.ent N)] [] [] N [.cell 2 33,.tmp 3,.tmp 4] [.recd [.any,.any,.any],.any,.any] 0 38
noncomputable def Q133.dec (v:V)(bs:List rA):Option (Int×Int×Int×Int×Int):=match v,bs with
 | .tup [.agg [.c (.int .i64 a),.c (.int .i64 b),.c (.int .i64 c)],.c (.int .i64 d),.c (.int .i64 e)],[]=>some (a,b,c,d,e)
 |_,_=>none
theorem Q133.f_eq (N:Nat)(a b c:Int):
  aB (Q133.E N) (bo Tryz.f33) [.agg [.c (.int .i64 a),.c (.int .i64 b),.c (.int .i64 c)]] [] Q133.dec=Q133.f N a b c:=by kernel_rfl
noncomputable def Q133.ent (N:Nat):uA:=tD (Int×Int×Int×Int×Int) 0 [true] [.recd [.any,.any,.any]] fun
 | [.agg [.c (.int .i64 a),.c (.int .i64 b),.c (.int .i64 c)]]=>some (Q133.f N a b c,fun r=>.one (.tup [.agg [.c (.int .i64 r.1),.c (.int .i64 r.2.1),.c (.int .i64 r.2.2.1)],.c (.int .i64 r.2.2.2.1),.c (.int .i64 r.2.2.2.2)]) [])
 |_=>none
theorem Q133.env (N:Nat):yA Tryz.prog (Q133.E N):=⟨(.cons nC (.cons xB (.cons dX .nil))),(.cons (Q87.ent_ok N) (.cons (Q47.ent_ok N) (.cons (Q115.ent_ok N) (.cons (Q50.ent_ok N) .nil))))⟩
theorem Q133.spec (N:Nat)(a c d:Int)(r:Int×Int×Int×Int×Int)(h:Q133.f N a c d=some r):eA Tryz.prog 33 [.agg [.c (.int .i64 a),.c (.int .i64 c),.c (.int .i64 d)]] [] (.tup [.agg [.c (.int .i64 r.1),.c (.int .i64 r.2.1),.c (.int .i64 r.2.2.1)],.c (.int .i64 r.2.2.2.1),.c (.int .i64 r.2.2.2.2)]) ([]):=pA (Q133.env N) bA Tryz.func33 cA.n ((Q133.f_eq ..).trans h) fun v b e=>by unfold Q133.dec at e;split at e<;>cases e;exact⟨rfl,rfl⟩
theorem Q133.ent_ok (N:Nat):oA Tryz.prog 33 (Q133.ent N):=sA fun v a e h=>by split at h;exact nB (Q:=fun e=>eA _ _ _ _ (e a).pick.1 (e a).pick.2) h fun k=>Q133.spec N _ _ _ a k;cases h
noncomputable def Q134.f (N:Nat)(c d e:Int):Option (Int×Int):=
 (Q133.f N c d e).bind fun a=>
 bif a.2.2.2.2 != 0 then
  some (0,a.2.2.2.2)
 else
 (Q47.f N c d e).bind fun f=>
 (Q83.f N f).bind fun b=>
 (Q129.f N a.1 a.2.1 a.2.2.1 b.1 b.2.1 b.2.2.1 a.2.2.2.1).bind fun g=>
 some (g,0)
noncomputable def Q134.E (N:Nat):jC:=iD [(33,aG)] [(33,Q133.ent N),(19,Q47.ent N),(27,Q83.ent N),(34,Q129.ent N)] [] [] N [.tmp 2,.tmp 3] [.any,.any] 0 28
noncomputable def Q134.dec (v:V)(bs:List rA):Option (Int×Int):=match v,bs with
 | .tup [.c (.int .i64 a),.c (.int .i64 b)],[]=>some (a,b)
 |_,_=>none
theorem Q134.f_eq (N:Nat)(a b c:Int):
  aB (Q134.E N) (bo Tryz.f14) [.agg [.c (.int .i64 a),.c (.int .i64 b),.c (.int .i64 c)]] [] Q134.dec=Q134.f N a b c:=by kernel_rfl
noncomputable def Q134.ent (N:Nat):uA:=tD (Int×Int) 0 [true] [.recd [.any,.any,.any]] fun
 | [.agg [.c (.int .i64 a),.c (.int .i64 b),.c (.int .i64 c)]]=>some (Q134.f N a b c,fun r=>.one (.tup [.c (.int .i64 r.1),.c (.int .i64 r.2)]) [])
 |_=>none
theorem Q134.env (N:Nat):yA Tryz.prog (Q134.E N):=⟨(.cons xB .nil),(.cons (Q133.ent_ok N) (.cons (Q47.ent_ok N) (.cons (Q83.ent_ok N) (.cons (Q129.ent_ok N) .nil))))⟩
theorem Q134.spec (N:Nat)(a c d:Int)(r:Int×Int)(h:Q134.f N a c d=some r):eA Tryz.prog 14 [.agg [.c (.int .i64 a),.c (.int .i64 c),.c (.int .i64 d)]] [] (.tup [.c (.int .i64 r.1),.c (.int .i64 r.2)]) ([]):=pA (Q134.env N) bA Tryz.func14 cA.n ((Q134.f_eq ..).trans h) fun v b e=>by unfold Q134.dec at e;split at e<;>cases e;exact⟨rfl,rfl⟩
theorem Q134.ent_ok (N:Nat):oA Tryz.prog 14 (Q134.ent N):=sA fun v a e h=>by split at h;exact nB (Q:=fun e=>eA _ _ _ _ (e a).pick.1 (e a).pick.2) h fun k=>Q134.spec N _ _ _ a k;cases h
noncomputable def Q137.l7 {R:Type}(N:Nat):Nat→Int→Int→Int→Int→Int→List Int→List Int→(List Int→Option R)→Option R
 |0,_,_,_,_,_,_,_,_=>none
 |n+1,f,b,g,h,i,d,a,e=>
  bif decide (b<f)then
   bif (decide (0≤b))&&(decide (b<(a.length/3:Int)))then
    (Q127.f N (a.getD (b.toNat*3) 0) (a.getD ((b.toNat*3)+1) 0) (a.getD ((b.toNat*3)+2) 0) (a.getD (b.toNat*3) 0) (a.getD ((b.toNat*3)+1) 0) (a.getD ((b.toNat*3)+2) 0)).bind fun c=>
    bif (c.1==g)&&((c.2.1==h)&&(c.2.2==i))then
     bif jB ((d.length+3)/3) 24 then
      Q137.l7 N n f (aA (b+1)) g h i (d++[a.getD (b.toNat*3) 0,a.getD ((b.toNat*3)+1) 0,a.getD ((b.toNat*3)+2) 0]) a e
     else none
    else
    Q137.l7 N n f (aA (b+1)) g h i d a e
   else none
  else
  e d
noncomputable def Q137.f (N:Nat)(d:Int):Option (List Int×Int):=
 (Q114.f N d).bind fun a=>
 bif a.2 != 0 then
  some ([],a.2)
 else
 (Q83.f N d).bind fun b=>
 Q137.l7 N N (a.1.length/3:Int) 0 b.1 b.2.1 b.2.2.1 [] a.1
  (fun c=>
   some (c,0))
noncomputable def Q137.h7:cC:=⟨[(6,.box [.any,.any,.any]),(8,.row .i64 3),(24,.row .i64 3),(25,.any),(26,.any)],[(8,.row .i64 3)]⟩
noncomputable def Q137.c7 (N:Nat):nF:=⟨fun vs H k=>match vs,H with
 | [.ptr 0 0 3,.sw 1 3,.sw 2 3,.c (.int .i64 c),.c (.int .i64 d)],[.vals [.c (.int .i64 e),.c (.int .i64 f),.c (.int .i64 g)],.ints .i64 h,.ints .i64 a]=>Q137.l7 N N c d e f g h a (fun b=>k (.exit 0) ⟨fC Q137.h7.out [.sw 0 3],[.ints .i64 b]⟩)
 |_,_=>none⟩
noncomputable def Q137.E (N:Nat):jC:=iD [(2,aN),(23,iW),(33,aG)] [(23,Q114.ent N),(27,Q83.ent N),(39,Q127.ent N)] [(7,Q137.h7)] [(7,Q137.c7 N)] N [.tmp 2,.tmp 3] [.il .i64 3,.any] 0 41
noncomputable def Q137.b7:Code:=nA ((dA (bo Tryz.f21)).getD 0 .skip)
theorem Q137.l7_eq {R:Type}(N n:Nat)(c d e f g:Int)(h a:List Int)(k:Ex→St→Option R):
  dB 0 Q137.h7 (fun s k=>bB (Q137.E N) 391 Q137.b7 s k) n [.ptr 0 0 3,.sw 1 3,.sw 2 3,.c (.int .i64 c),.c (.int .i64 d)] [.vals [.c (.int .i64 e),.c (.int .i64 f),.c (.int .i64 g)],.ints .i64 h,.ints .i64 a] k=Q137.l7 N n c d e f g h a (fun b=>k (.exit 0) ⟨fC Q137.h7.out [.sw 0 3],[.ints .i64 b]⟩):=by
 induction n generalizing c d e f g h a with
 |zero=>kernel_rfl
 |succ n ih=>
  simp only[Q137.l7,←ih]
  kernel_rfl
noncomputable def Q137.dec (v:V)(bs:List rA):Option (List Int×Int):=match v,bs with
 | .tup [.il .i64 3 a,.c (.int .i64 b)],[]=>some (a,b)
 |_,_=>none
theorem Q137.f_eq (N:Nat)(a:Int):
  aB (Q137.E N) (bo Tryz.f21) [.c (.int .i64 a)] [] Q137.dec=Q137.f N a:=by kernel_rfl
noncomputable def Q137.ent (N:Nat):uA:=tD (List Int×Int) 0 [true] [.any] fun
 | [.c (.int .i64 a)]=>some (Q137.f N a,fun r=>.one (.tup [.il .i64 3 r.1,.c (.int .i64 r.2)]) [])
 |_=>none
theorem Q137.env (N:Nat):yA Tryz.prog (Q137.E N):=⟨(.cons nC (.cons fI (.cons xB .nil))),(.cons (Q114.ent_ok N) (.cons (Q83.ent_ok N) (.cons (Q127.ent_ok N) .nil)))⟩
theorem Q137.k7 (N:Nat):gB Tryz.prog Tryz.f21 (Q137.E N) (.loop Q137.b7):=dC (Q137.env N) bA 391 (c:=Q137.c7 N) cA.n fun R vs H k r h=>by unfold Q137.c7 at h;dsimp only at h;split at h;exact⟨_,Q137.l7_eq .. ▸h⟩;cases h
theorem Q137.spec (N:Nat)(a:Int)(r:List Int×Int)(h:Q137.f N a=some r):eA Tryz.prog 21 [.c (.int .i64 a)] [] (.tup [.il .i64 3 r.1,.c (.int .i64 r.2)]) ([]):=pA (Q137.env N) bA Tryz.func21 (cA.of (l:=[(.loop (nA ((dA (bo Tryz.f21)).getD 0 .skip)))]) (by kernel_rfl) (cA.cons (Q137.k7 N) cA.nil)) ((Q137.f_eq ..).trans h) fun v b e=>by unfold Q137.dec at e;split at e<;>cases e;exact⟨rfl,rfl⟩
theorem Q137.ent_ok (N:Nat):oA Tryz.prog 21 (Q137.ent N):=sA fun v a e h=>by split at h;exact nB (Q:=fun e=>eA _ _ _ _ (e a).pick.1 (e a).pick.2) h fun k=>Q137.spec N _ a k;cases h
noncomputable def Q138.l4 {R:Type}(N:Nat):Nat→Int→Int→Int→Int→Int→Int→Int→Int→Int→Int→(Int→Option R)→Option R
 |0,_,_,_,_,_,_,_,_,_,_,_=>none
 |n+1,i,j,k,l,b,c,d,e,f,g,h=>
  bif !((e==b)&&((f==c)&&(g==d)))then
   (Q96.f N e f g j k l).bind fun a=>
   Q138.l4 N n (aA (i+1)) j k l b c d a.1 a.2.1 a.2.2 h
  else
  h i
noncomputable def Q138.f (N:Nat)(a b c:Int):Option (Int):=
 (Q69.f N a b c).bind fun f=>
 (Q89.f N f).bind fun d=>
 Q138.l4 N N 1 a b c d.1 d.2.1 d.2.2.1 a b c
  (fun e=>
   some e)
noncomputable def Q138.h4:cC:=⟨[(1,.box [.any,.any,.any]),(3,.box [.any,.any,.any]),(5,.any),(6,.box [.any,.any,.any])],[(5,.any)]⟩
noncomputable def Q138.c4 (N:Nat):nF:=⟨fun vs H k=>match vs,H with
 | [.ptr 0 0 3,.ptr 1 0 3,.c (.int .i64 h),.ptr 2 0 3],[.vals [.c (.int .i64 i),.c (.int .i64 j),.c (.int .i64 l)],.vals [.c (.int .i64 a),.c (.int .i64 b),.c (.int .i64 c)],.vals [.c (.int .i64 d),.c (.int .i64 e),.c (.int .i64 f)]]=>Q138.l4 N N h i j l a b c d e f (fun g=>k (.exit 0) ⟨fC Q138.h4.out [.c (.int .i64 g)],[]⟩)
 |_,_=>none⟩
noncomputable def Q138.E (N:Nat):jC:=iD [(2,aN),(33,aG)] [(52,Q69.ent N),(51,Q89.ent N),(53,Q96.ent N)] [(4,Q138.h4)] [(4,Q138.c4 N)] N [.tmp 2] [.any] 0 24
noncomputable def Q138.b4:Code:=nA ((dA (bo Tryz.f31)).getD 0 .skip)
theorem Q138.l4_eq {R:Type}(N n:Nat)(h i j l a b c d e f:Int)(k:Ex→St→Option R):
  dB 0 Q138.h4 (fun s k=>bB (Q138.E N) 393 Q138.b4 s k) n [.ptr 0 0 3,.ptr 1 0 3,.c (.int .i64 h),.ptr 2 0 3] [.vals [.c (.int .i64 i),.c (.int .i64 j),.c (.int .i64 l)],.vals [.c (.int .i64 a),.c (.int .i64 b),.c (.int .i64 c)],.vals [.c (.int .i64 d),.c (.int .i64 e),.c (.int .i64 f)]] k=Q138.l4 N n h i j l a b c d e f (fun g=>k (.exit 0) ⟨fC Q138.h4.out [.c (.int .i64 g)],[]⟩):=by
 induction n generalizing h i j l a b c d e f with
 |zero=>kernel_rfl
 |succ n ih=>
  simp only[Q138.l4,←ih]
  kernel_rfl
noncomputable def Q138.dec (v:V)(bs:List rA):Option (Int):=match v,bs with
 | .c (.int .i64 a),[]=>some a
 |_,_=>none
theorem Q138.f_eq (N:Nat)(a b c:Int):
  aB (Q138.E N) (bo Tryz.f31) [.agg [.c (.int .i64 a),.c (.int .i64 b),.c (.int .i64 c)]] [] Q138.dec=Q138.f N a b c:=by kernel_rfl
noncomputable def Q138.ent (N:Nat):uA:=tD (Int) 0 [true] [.recd [.any,.any,.any]] fun
 | [.agg [.c (.int .i64 a),.c (.int .i64 b),.c (.int .i64 c)]]=>some (Q138.f N a b c,fun r=>.one (.c (.int .i64 r)) [])
 |_=>none
theorem Q138.env (N:Nat):yA Tryz.prog (Q138.E N):=⟨(.cons nC (.cons xB .nil)),(.cons (Q69.ent_ok N) (.cons (Q89.ent_ok N) (.cons (Q96.ent_ok N) .nil)))⟩
theorem Q138.k4 (N:Nat):gB Tryz.prog Tryz.f31 (Q138.E N) (.loop Q138.b4):=dC (Q138.env N) bA 393 (c:=Q138.c4 N) cA.n fun R vs H k r h=>by unfold Q138.c4 at h;dsimp only at h;split at h;exact⟨_,Q138.l4_eq .. ▸h⟩;cases h
theorem Q138.spec (N:Nat)(a c d r:Int)(h:Q138.f N a c d=some r):eA Tryz.prog 31 [.agg [.c (.int .i64 a),.c (.int .i64 c),.c (.int .i64 d)]] [] (.c (.int .i64 r)) ([]):=pA (Q138.env N) bA Tryz.func31 (cA.of (l:=[(.loop (nA ((dA (bo Tryz.f31)).getD 0 .skip)))]) (by kernel_rfl) (cA.cons (Q138.k4 N) cA.nil)) ((Q138.f_eq ..).trans h) fun v b e=>by unfold Q138.dec at e;split at e<;>cases e;exact⟨rfl,rfl⟩
theorem Q138.ent_ok (N:Nat):oA Tryz.prog 31 (Q138.ent N):=sA fun v a e h=>by split at h;exact nB (Q:=fun e=>eA _ _ _ _ (e a).pick.1 (e a).pick.2) h fun k=>Q138.spec N _ _ _ a k;cases h
noncomputable def Q139.l36 {R:Type}(N:Nat):Nat→Int→List Int→List Int→(List Int→Option R)→Option R
 |0,_,_,_,_=>none
 |n+1,a,b,c,d=>
  bif decide (a≥0)then
   bif (decide (0≤a))&&(decide (a<(b.length:Int)))then
    bif jB (c.length+1) 8 then
     Q139.l36 N n (aA (a-1)) b (c++[b.getD a.toNat 0]) d
    else none
   else none
  else
  d c
noncomputable def Q140.f (N:Nat)(c d e:Int):Option (Int×Int×Int×Int):=
 (Q99.f N c d e).bind fun a=>
 bif a.2.2.2 != 0 then
  some (a.1,a.2.1,a.2.2.1,a.2.2.2)
 else
 (Q69.f N c d e).bind fun f=>
 bif decide (f<(-65536))then
  some (0,0,0,80)
 else
 (Q99.f N a.1 a.2.1 a.2.2.1).bind fun b=>
 some (b.1,b.2.1,b.2.2.1,0)
noncomputable def Q141.f (N:Nat)(b c d:Int):Option (Int×Int):=
 (Q140.f N b c d).bind fun a=>
 bif a.2.2.2 != 0 then
  some (0,a.2.2.2)
 else
 (Q138.f N a.1 a.2.1 a.2.2.1).bind fun e=>
 some (e,0)
noncomputable def Q142.l7 {R:Type}(N:Nat):Nat→List Int→Int→List Int→(List Int→Option R)→Option R
 |0,_,_,_,_=>none
 |n+1,b,a,c,d=>
  bif decide (a<(b.length/3:Int))then
   bif (decide (0≤a))&&(decide (a<(b.length/3:Int)))then
    (Q138.f N (b.getD (a.toNat*3) 0) (b.getD ((a.toNat*3)+1) 0) (b.getD ((a.toNat*3)+2) 0)).bind fun e=>
    bif decide (e≤2)then
     bif (decide (0≤a))&&(decide (a<(b.length/3:Int)))then
      bif jB ((c.length+3)/3) 24 then
       Q142.l7 N n b (aA (a+1)) (c++[b.getD (a.toNat*3) 0,b.getD ((a.toNat*3)+1) 0,b.getD ((a.toNat*3)+2) 0]) d
      else none
     else none
    else
    Q142.l7 N n b (aA (a+1)) c d
   else none
  else
  d c
noncomputable def Q142.f (N:Nat)(a:Int):Option (List Int×Int):=
 (Q107.f N a).bind fun b=>
 bif b != 0 then
  some ([],b)
 else
 (Q111.f N a).bind fun c=>
 Q142.l7 N N c 0 []
  (fun d=>
   some (d,0))
noncomputable def Q142.h7:cC:=⟨[(5,.il .i64 3),(6,.row .i64 3),(7,.any)],[(6,.row .i64 3)]⟩
noncomputable def Q142.c7 (N:Nat):nF:=⟨fun vs H k=>match vs,H with
 | [.il .i64 3 a,.sw 0 3,.c (.int .i64 b)],[.ints .i64 c]=>Q142.l7 N N a b c (fun d=>k (.exit 0) ⟨fC Q142.h7.out [.sw 0 3],[.ints .i64 d]⟩)
 |_,_=>none⟩
noncomputable def Q142.E (N:Nat):jC:=iD [(23,iW),(33,aG)] [(29,Q107.ent N),(30,Q111.ent N),(31,Q138.ent N)] [(7,Q142.h7)] [(7,Q142.c7 N)] N [.tmp 2,.tmp 3] [.il .i64 3,.any] 0 35
noncomputable def Q142.b7:Code:=nA ((dA (bo Tryz.f22)).getD 0 .skip)
theorem Q142.l7_eq {R:Type}(N n:Nat)(a:List Int)(b:Int)(c:List Int)(k:Ex→St→Option R):
  dB 0 Q142.h7 (fun s k=>bB (Q142.E N) 391 Q142.b7 s k) n [.il .i64 3 a,.sw 0 3,.c (.int .i64 b)] [.ints .i64 c] k=Q142.l7 N n a b c (fun d=>k (.exit 0) ⟨fC Q142.h7.out [.sw 0 3],[.ints .i64 d]⟩):=by
 induction n generalizing a b c with
 |zero=>kernel_rfl
 |succ n ih=>
  simp only[Q142.l7,←ih]
  kernel_rfl
noncomputable def Q142.dec (v:V)(bs:List rA):Option (List Int×Int):=match v,bs with
 | .tup [.il .i64 3 a,.c (.int .i64 b)],[]=>some (a,b)
 |_,_=>none
theorem Q142.f_eq (N:Nat)(a:Int):
  aB (Q142.E N) (bo Tryz.f22) [.c (.int .i64 a)] [] Q142.dec=Q142.f N a:=by kernel_rfl
noncomputable def Q142.ent (N:Nat):uA:=tD (List Int×Int) 0 [true] [.any] fun
 | [.c (.int .i64 a)]=>some (Q142.f N a,fun r=>.one (.tup [.il .i64 3 r.1,.c (.int .i64 r.2)]) [])
 |_=>none
theorem Q142.env (N:Nat):yA Tryz.prog (Q142.E N):=⟨(.cons fI (.cons xB .nil)),(.cons (Q107.ent_ok N) (.cons (Q111.ent_ok N) (.cons (Q138.ent_ok N) .nil)))⟩
theorem Q142.k7 (N:Nat):gB Tryz.prog Tryz.f22 (Q142.E N) (.loop Q142.b7):=dC (Q142.env N) bA 391 (c:=Q142.c7 N) cA.n fun R vs H k r h=>by unfold Q142.c7 at h;dsimp only at h;split at h;exact⟨_,Q142.l7_eq .. ▸h⟩;cases h
theorem Q142.spec (N:Nat)(a:Int)(r:List Int×Int)(h:Q142.f N a=some r):eA Tryz.prog 22 [.c (.int .i64 a)] [] (.tup [.il .i64 3 r.1,.c (.int .i64 r.2)]) ([]):=pA (Q142.env N) bA Tryz.func22 (cA.of (l:=[(.loop (nA ((dA (bo Tryz.f22)).getD 0 .skip)))]) (by kernel_rfl) (cA.cons (Q142.k7 N) cA.nil)) ((Q142.f_eq ..).trans h) fun v b e=>by unfold Q142.dec at e;split at e<;>cases e;exact⟨rfl,rfl⟩
theorem Q142.ent_ok (N:Nat):oA Tryz.prog 22 (Q142.ent N):=sA fun v a e h=>by split at h;exact nB (Q:=fun e=>eA _ _ _ _ (e a).pick.1 (e a).pick.2) h fun k=>Q142.spec N _ a k;cases h
noncomputable def Q144.f (N:Nat)(a:Int):Option (Int):=
 bif (Int.tmod (aA ((aA (0- (aA (Int.tmod a 20000))))-3)) 4)==(-1)then
  some (aA ((aA ((aA (0- (aA (Int.tmod a 20000))))-3))-2))
 else
 bif (Int.tmod (aA ((aA (0- (aA (Int.tmod a 20000))))-3)) 4)==(-2)then
  some (aA ((aA ((aA (0- (aA (Int.tmod a 20000))))-3))-2))
 else
 some (aA ((aA (0- (aA (Int.tmod a 20000))))-3))
noncomputable def Q145.l3 {R:Type}(N:Nat):Nat→List Int→List Int→Int→Int→Int→Int→Int→Int→Int→(Int→Int→Int→Int→Int→Int→Option R)→Option R
 |0,_,_,_,_,_,_,_,_,_,_=>none
 |n+1,h,i,a,k,l,d,e,f,g,j=>
  bif decide (a<(h.length/3:Int))then
   bif decide (a<(i.length:Int))then
    bif (decide (0≤a))&&(decide (a<(h.length/3:Int)))then
     bif (decide (0≤a))&&(decide (a<(i.length:Int)))then
      (Q88.f N (h.getD (a.toNat*3) 0) (h.getD ((a.toNat*3)+1) 0) (h.getD ((a.toNat*3)+2) 0) (i.getD a.toNat 0)).bind fun b=>
      (Q86.f N e f g b.1 b.2.1 b.2.2.1).bind fun c=>
      Q145.l3 N n h i (aA (a+1)) k l d c.1 c.2.1 c.2.2.1 j
     else none
    else none
   else
   j k l d e f g
  else
  j k l d e f g
noncomputable def Q145.f (N:Nat)(e:Int)(f g:List Int):Option (Int×Int×Int):=
 (Q83.f N e).bind fun a=>
 Q145.l3 N N f g 0 0 0 0 a.1 a.2.1 a.2.2.1
  (fun h i j b c d=>
   some (b,c,d))
noncomputable def Q146.f (N:Nat):Option (Bool):=
 (Q132.f N (-23)).bind fun a=>
 (Q134.f N 2 1 3).bind fun b=>
 bif a.2.2==0 then
  bif (a.1.length/3:Int)==1 then
   bif (a.2.1.length:Int)==1 then
    bif decide (0<(a.2.1.length:Int))then
     bif (a.2.1.getD 0 0)==3 then
      bif decide (0<(a.1.length/3:Int))then
       bif (a.1.getD 0 0)==2 then
        bif b.1==3 then
         some (b.2==0)
        else
        some false
       else
       some false
      else none
     else
     some false
    else none
   else
   some false
  else
  some false
 else
 some false
noncomputable def Q146.E (N:Nat):jC:=iD [(2,aN),(23,iW),(24,Ie),(33,aG)] [(11,Q132.ent N),(14,Q134.ent N)] [] [] N [.tmp 0] [.any] 0 49
noncomputable def Q146.dec (v:V)(bs:List rA):Option (Bool):=match v,bs with
 | .c (.bool a),[]=>some a
 |_,_=>none
theorem Q146.f_eq (N:Nat):
  aB (Q146.E N) (bo Tryz.f10) [] [] Q146.dec=Q146.f N:=by kernel_rfl
noncomputable def Q146.ent (N:Nat):uA:=tD (Bool) 0 [] [] fun
 | []=>some (Q146.f N,fun r=>.one (.c (.bool r)) [])
 |_=>none
theorem Q146.env (N:Nat):yA Tryz.prog (Q146.E N):=⟨(.cons nC (.cons fI (.cons yd (.cons xB .nil)))),(.cons (Q132.ent_ok N) (.cons (Q134.ent_ok N) .nil))⟩
theorem Q146.spec (N:Nat)(r:Bool)(h:Q146.f N=some r):eA Tryz.prog 10 [] [] (.c (.bool r)) ([]):=pA (Q146.env N) bA Tryz.func10 cA.n ((Q146.f_eq ..).trans h) fun v b e=>by unfold Q146.dec at e;split at e<;>cases e;exact⟨rfl,rfl⟩
theorem Q146.ent_ok (N:Nat):oA Tryz.prog 10 (Q146.ent N):=sA fun v a e h=>by split at h;exact nB (Q:=fun e=>eA _ _ _ _ (e a).pick.1 (e a).pick.2) h fun k=>Q146.spec N a k;cases h
noncomputable def Q149.l8 {R:Type}(N:Nat):Nat→List Int→List Int→Int→(Unit→Option R)→(Bool→Option R)→Option R
 |0,_,_,_,_,_=>none
 |n+1,b,c,a,d,kr=>
  bif decide (a<(b.length/3:Int))then
   bif (decide (0≤a))&&(decide (a<(b.length/3:Int)))then
    bif (decide (0≤a))&&(decide (a<(c.length/3:Int)))then
     bif !(((b.getD (a.toNat*3) 0)==(c.getD (a.toNat*3) 0))&&(((b.getD ((a.toNat*3)+1) 0)==(c.getD ((a.toNat*3)+1) 0))&&((b.getD ((a.toNat*3)+2) 0)==(c.getD ((a.toNat*3)+2) 0))))then
      kr false
     else
     Q149.l8 N n b c (aA (a+1)) d kr
    else none
   else none
  else
  d ()
noncomputable def Q149.f (N:Nat)(c:Int):Option (Bool):=
 bif decide (c<(-20000))then
  bif decide (c≥(-65536))then
   (Q146.f N).bind fun i=>
   some i
  else
  (Q137.f N c).bind fun e=>
  (Q142.f N c).bind fun f=>
  bif e.2 != f.2 then
   some false
  else
  bif (e.1.length/3:Int) != (f.1.length/3:Int)then
   some false
  else
  Q149.l8 N N e.1 f.1 0
   (fun(_:Unit)=>
    (Q146.f N).bind fun j=>
    some j)
   (fun g=>
    some g)
 else
 (Q137.f N c).bind fun a=>
 (Q142.f N c).bind fun b=>
 bif a.2 != b.2 then
  some false
 else
 bif (a.1.length/3:Int) != (b.1.length/3:Int)then
  some false
 else
 Q149.l8 N N a.1 b.1 0
  (fun(_:Unit)=>
   (Q146.f N).bind fun d=>
   some d)
  (fun h=>
   some h)
noncomputable def Q149.h8:cC:=⟨[(3,.il .i64 3),(5,.il .i64 3),(7,.any)],[]⟩
noncomputable def Q149.c8 (N:Nat):nF:=⟨fun vs H k=>match vs,H with
 | [.il .i64 3 a,.il .i64 3 b,.c (.int .i64 c)],[]=>Q149.l8 N N a b c (fun(_:Unit)=>k (.exit 0) ⟨fC Q149.h8.out [],[]⟩) (fun d=>k (.ret (.c (.bool d)) []) .nil)
 |_,_=>none⟩
noncomputable def Q149.E (N:Nat):jC:=iD [(2,aN),(23,iW),(33,aG)] [(10,Q146.ent N),(21,Q137.ent N),(22,Q142.ent N)] [(8,Q149.h8)] [(8,Q149.c8 N)] N [.tmp 2] [.any] 0 51
noncomputable def Q149.b8:Code:=nA ((dA (bo Tryz.f6)).getD 0 .skip)
theorem Q149.l8_eq {R:Type}(N n:Nat)(a b:List Int)(c:Int)(k:Ex→St→Option R):
  dB 0 Q149.h8 (fun s k=>bB (Q149.E N) 391 Q149.b8 s k) n [.il .i64 3 a,.il .i64 3 b,.c (.int .i64 c)] [] k=Q149.l8 N n a b c (fun(_:Unit)=>k (.exit 0) ⟨fC Q149.h8.out [],[]⟩) (fun d=>k (.ret (.c (.bool d)) []) .nil):=by
 induction n generalizing a b c with
 |zero=>kernel_rfl
 |succ n ih=>
  simp only[Q149.l8,←ih]
  kernel_rfl
noncomputable def Q149.dec (v:V)(bs:List rA):Option (Bool):=match v,bs with
 | .c (.bool a),[]=>some a
 |_,_=>none
theorem Q149.f_eq (N:Nat)(a:Int):
  aB (Q149.E N) (bo Tryz.f6) [.c (.int .i64 a)] [] Q149.dec=Q149.f N a:=by kernel_rfl
theorem Q149.env (N:Nat):yA Tryz.prog (Q149.E N):=⟨(.cons nC (.cons fI (.cons xB .nil))),(.cons (Q146.ent_ok N) (.cons (Q137.ent_ok N) (.cons (Q142.ent_ok N) .nil)))⟩
theorem Q149.k8 (N:Nat):gB Tryz.prog Tryz.f6 (Q149.E N) (.loop Q149.b8):=dC (Q149.env N) bA 391 (c:=Q149.c8 N) cA.n fun R vs H k r h=>by unfold Q149.c8 at h;dsimp only at h;split at h;exact⟨_,Q149.l8_eq .. ▸h⟩;cases h
theorem Q149.spec (N:Nat)(a:Int)(r:Bool)(h:Q149.f N a=some r):eA Tryz.prog 6 [.c (.int .i64 a)] [] (.c (.bool r)) ([]):=pA (Q149.env N) bA Tryz.func6 (cA.of (l:=[(.loop (nA ((dA (bo Tryz.f6)).getD 0 .skip)))]) (by kernel_rfl) (cA.cons (Q149.k8 N) cA.nil)) ((Q149.f_eq ..).trans h) fun v b e=>by unfold Q149.dec at e;split at e<;>cases e;exact⟨rfl,rfl⟩
noncomputable def Q150.l8 {R:Type}(N:Nat):Nat→Int→List Int→List Int→Int→Int→Int→(Int→List Int→List Int→Int→Int→Option R)→(Bool→Option R)→Option R
 |0,_,_,_,_,_,_,_,_=>none
 |n+1,e,b,c,k,l,a,f,kr=>
  bif decide (a<(c.length:Int))then
   bif (decide (0≤a))&&(decide (a<(b.length/3:Int)))then
    (Q134.f N (b.getD (a.toNat*3) 0) (b.getD ((a.toNat*3)+1) 0) (b.getD ((a.toNat*3)+2) 0)).bind fun d=>
    bif (decide (0≤a))&&(decide (a<(c.length:Int)))then
     bif decide ((c.getD a.toNat 0)<2)then
      kr false
     else
     bif decide (a>0)then
      bif (decide (0≤a))&&(decide (a<(c.length:Int)))then
       bif (decide (0≤(aA (a-1))))&&(decide ((aA (a-1))<(c.length:Int)))then
        bif !((c.getD ((aA (a-1)).toNat) 0)==0)then
         bif (Int.tmod (c.getD a.toNat 0) (c.getD ((aA (a-1)).toNat) 0)) != 0 then
          kr false
         else
         bif d.2 != 0 then
          kr false
         else
         bif (decide (0≤a))&&(decide (a<(c.length:Int)))then
          bif d.1 != (c.getD a.toNat 0)then
           kr false
          else
          bif (decide (0≤a))&&(decide (a<(b.length/3:Int)))then
           (Q100.f N (b.getD (a.toNat*3) 0) (b.getD ((a.toNat*3)+1) 0) (b.getD ((a.toNat*3)+2) 0)).bind fun g=>
           bif !g then
            kr false
           else
           bif (decide (0≤a))&&(decide (a<(b.length/3:Int)))then
            (Q47.f N (b.getD (a.toNat*3) 0) (b.getD ((a.toNat*3)+1) 0) (b.getD ((a.toNat*3)+2) 0)).bind fun h=>
            bif h != e then
             kr false
            else
            bif (decide (0≤a))&&(decide (a<(c.length:Int)))then
             Q150.l8 N n e b c k (aA (l*(c.getD a.toNat 0))) (aA (a+1)) f kr
            else none
           else none
          else none
         else none
        else none
       else none
      else none
     else
     bif d.2 != 0 then
      kr false
     else
     bif (decide (0≤a))&&(decide (a<(c.length:Int)))then
      bif d.1 != (c.getD a.toNat 0)then
       kr false
      else
      bif (decide (0≤a))&&(decide (a<(b.length/3:Int)))then
       (Q100.f N (b.getD (a.toNat*3) 0) (b.getD ((a.toNat*3)+1) 0) (b.getD ((a.toNat*3)+2) 0)).bind fun i=>
       bif !i then
        kr false
       else
       bif (decide (0≤a))&&(decide (a<(b.length/3:Int)))then
        (Q47.f N (b.getD (a.toNat*3) 0) (b.getD ((a.toNat*3)+1) 0) (b.getD ((a.toNat*3)+2) 0)).bind fun j=>
        bif j != e then
         kr false
        else
        bif (decide (0≤a))&&(decide (a<(c.length:Int)))then
         Q150.l8 N n e b c k (aA (l*(c.getD a.toNat 0))) (aA (a+1)) f kr
        else none
       else none
      else none
     else none
    else none
   else none
  else
  f e b c k l
noncomputable def Q150.l23 {R:Type}(N:Nat):Nat→Int→List Int→List Int→Int→Int→Int→Int→List (List Int)→List Int→List Int→(Int→List Int→List Int→Int→Int→List (List Int)→List Int→List Int→Option R)→Option R
 |0,_,_,_,_,_,_,_,_,_,_,_=>none
 |n+1,d,e,b,f,g,h,a,i,j,c,k=>
  bif decide (a<(b.length:Int))then
   bif (decide (0≤a))&&(decide (a<(b.length:Int)))then
    bif !((b.getD a.toNat 0)==0)then
     bif (decide (0≤a))&&(decide (a<(c.length:Int)))then
      bif (decide (0≤a))&&(decide (a<(b.length:Int)))then
       bif !((b.getD a.toNat 0)==0)then
        Q150.l23 N n d e b f g (aA (Int.tdiv h (b.getD a.toNat 0))) (aA (a+1)) i j (c.set a.toNat (Int.tmod h (b.getD a.toNat 0))) k
       else none
      else none
     else none
    else none
   else none
  else
  k d e b f g i j c
noncomputable def Q150.l19 {R:Type}(N:Nat):Nat→Int→List Int→List Int→Int→Int→List (List Int)→List Int→List Int→(Unit→Option R)→(Bool→Option R)→Option R
 |0,_,_,_,_,_,_,_,_,_,_=>none
 |n+1,j,k,l,e,d,m,o,p,t,kr=>
  bif decide (d<e)then
   Q150.l23 N N j k l e d d 0 m o p
    (fun f g q r s b c h=>
     (Q145.f N f g h).bind fun a=>
     bif (decide (0≤(lE [a.1,a.2.1,a.2.2] b)))&&(decide ((lE [a.1,a.2.1,a.2.2] b)<((yB [a.1,a.2.1,a.2.2] b).length:Int)))then
      bif decide ((yE [a.1,a.2.1,a.2.2] (yB [a.1,a.2.1,a.2.2] b) ((nG [a.1,a.2.1,a.2.2] (yE [a.1,a.2.1,a.2.2] b c) b (List.take (List.length b) c)).set ((lE [a.1,a.2.1,a.2.2] b).toNat) (aA ((yE [a.1,a.2.1,a.2.2] b c)+1))))>1)then
       kr false
      else
      (Q100.f N a.1 a.2.1 a.2.2).bind fun i=>
      bif !i then
       kr false
      else
      Q150.l19 N n f g q r (aA (s+1)) (yB [a.1,a.2.1,a.2.2] b) ((nG [a.1,a.2.1,a.2.2] (yE [a.1,a.2.1,a.2.2] b c) b (List.take (List.length b) c)).set ((lE [a.1,a.2.1,a.2.2] b).toNat) (aA ((yE [a.1,a.2.1,a.2.2] b c)+1))) h t kr
     else none)
  else
  t ()
noncomputable def Q150.f (N:Nat)(l:Int):Option (Bool):=
 (Q144.f N l).bind fun d=>
 (Q132.f N d).bind fun b=>
 (Q115.f N d).bind fun k=>
 bif b.2.2 != 0 then
  some false
 else
 bif k.2 != 0 then
  some false
 else
 bif (b.1.length/3:Int) != (b.2.1.length:Int)then
  some false
 else
 Q150.l8 N N d b.1 b.2.1 k.1 1 0
  (fun f g a h c=>
   bif c != h then
    some false
   else
   bif decide ((a.length:Int)=(a.length:Int))&&decide (0≤(a.length:Int))&&decide ((a.length:Int)≤9223372036854775807)&&jB ((a.length:Int).toNat) 8 then
    Q150.l19 N N f g a c 0 [] [] (List.replicate ((a.length:Int).toNat) (0:Int))
     (fun(_:Unit)=>
      (Q146.f N).bind fun e=>
      some e)
     (fun i=>
      some i)
   else none)
  (fun j=>
   some j)
noncomputable def Q151.l15 {R:Type}(N:Nat):Nat→Int→List Int→List Int→List Int→List Int→Int→Int→Int→Int→(Int→List Int→Int→Int→Int→Option R)→(Bool→Option R)→Option R
 |0,_,_,_,_,_,_,_,_,_,_,_=>none
 |n+1,f,b,c,d,e,a,g,h,i,j,kr=>
  bif decide (a<(b.length:Int))then
   bif (decide (0≤a))&&(decide (a<(c.length:Int)))then
    bif decide ((c.getD a.toNat 0)<0)then
     kr false
    else
    bif (decide (0≤a))&&(decide (a<(c.length:Int)))then
     bif (decide (0≤a))&&(decide (a<(b.length:Int)))then
      bif decide ((c.getD a.toNat 0)≥(b.getD a.toNat 0))then
       kr false
      else
      bif (decide (0≤a))&&(decide (a<(c.length:Int)))then
       bif (decide (0≤a))&&(decide (a<(d.length:Int)))then
        bif (decide (0≤a))&&(decide (a<(b.length:Int)))then
         bif !((b.getD a.toNat 0)==0)then
          bif (decide (0≤a))&&(decide (a<(e.length:Int)))then
           bif (Int.tmod (aA ((c.getD a.toNat 0)+(d.getD a.toNat 0))) (b.getD a.toNat 0)) != (e.getD a.toNat 0)then
            kr false
           else
           Q151.l15 N n f b c d e (aA (a+1)) g h i j kr
          else none
         else none
        else none
       else none
      else none
     else none
    else none
   else none
  else
  j f b g h i
end Go.Proofs.YtjpdjdhdchjcgaaGreat
