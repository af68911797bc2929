import Derived.Test.YtijigofaaefldaaGreatA2
import Derived.Test.YtijigofaaefldaaGreatProg
import Derived.KernelRfl
open Bool renaming noConfusion→hA
open Option.some renaming inj→hB
open List renaming replicate→hC
set_option linter.unusedVariables false
set_option linter.unusedSimpArgs false
namespace Go.Proofs.YtijigofaaefldaaGreat
open Go.Proofs.YtijigofaaefldaaGreat.Ev
open Go
set_option maxRecDepth 100000
noncomputable def eL:TI:=⟨.slice 43,1,24,[.slice none 0 0]⟩
noncomputable def Gz:TI:=⟨.slice 22,1,24,[.slice none 0 0]⟩
noncomputable def gJ:TI:=⟨.slice 33,1,24,[.slice none 0 0]⟩
noncomputable def rN:TI:=⟨.struct [(45,0)],1,24,[.slice none 0 0]⟩
noncomputable def Ef:TI:=⟨.slice 3,1,24,[.slice none 0 0]⟩
noncomputable def Ij:TI:=⟨.int .u64,1,8,[.int .u64 0]⟩
noncomputable def C3:TI:=⟨.slice 97,1,24,[.slice none 0 0]⟩
noncomputable def vr:TI:=⟨.slice 104,1,24,[.slice none 0 0]⟩
theorem yD:cC Tryz.prog 22 eL:=eC (by kernel_rfl) (by kernel_rfl) (by kernel_rfl) (by kernel_rfl) (by kernel_rfl) (by kernel_rfl) (by kernel_rfl) (Tryz.underlying22) (by kernel_rfl)
theorem rn:cC Tryz.prog 42 Gz:=eC (by kernel_rfl) (by kernel_rfl) (by kernel_rfl) (by kernel_rfl) (by kernel_rfl) (by kernel_rfl) (by kernel_rfl) (Tryz.underlying42) (by kernel_rfl)
theorem zC:cC Tryz.prog 45 gJ:=eC (by kernel_rfl) (by kernel_rfl) (by kernel_rfl) (by kernel_rfl) (by kernel_rfl) (by kernel_rfl) (by kernel_rfl) (Tryz.underlying45) (by kernel_rfl)
theorem xE:cC Tryz.prog 47 rN:=eC (by kernel_rfl) (by kernel_rfl) (by kernel_rfl) (by kernel_rfl) (by kernel_rfl) (by kernel_rfl) (by kernel_rfl) (eK Tryz.underlying47 (by kernel_rfl) (by kernel_rfl)) (by kernel_rfl)
theorem fi:cC Tryz.prog 71 Ef:=eC (by kernel_rfl) (by kernel_rfl) (by kernel_rfl) (by kernel_rfl) (by kernel_rfl) (by kernel_rfl) (by kernel_rfl) (Tryz.underlying71) (by kernel_rfl)
theorem Eg:cC Tryz.prog 78 Ij:=eC (by kernel_rfl) (by kernel_rfl) (by kernel_rfl) (by kernel_rfl) (by kernel_rfl) (by kernel_rfl) (by kernel_rfl) (Tryz.underlying78) (by kernel_rfl)
theorem jW:cC Tryz.prog 96 C3:=eC (by kernel_rfl) (by kernel_rfl) (by kernel_rfl) (by kernel_rfl) (by kernel_rfl) (by kernel_rfl) (by kernel_rfl) (Tryz.underlying96) (by kernel_rfl)
theorem bT:cC Tryz.prog 97 vr:=eC (by kernel_rfl) (by kernel_rfl) (by kernel_rfl) (by kernel_rfl) (by kernel_rfl) (by kernel_rfl) (by kernel_rfl) (Tryz.underlying97) (by kernel_rfl)
noncomputable def Q59.f (N:Nat)(a:Int):Option (Bool):=
 bif decide (a≥(-16384))then
  some (decide (a≤16384))
 else
 some false
noncomputable def Q59.E (N:Nat):aC:=mD [] [] [] [] N [.tmp 2] [.any] 0 9
noncomputable def Q59.dec (v:V)(bs:List oA):Option (Bool):=match v,bs with
 | .c (.bool a),[]=>some a
 |_,_=>none
theorem Q59.f_eq (N:Nat)(a:Int):
  uA (Q59.E N) (bo Tryz.f25) [.c (.int .i64 a)] [] Q59.dec=Q59.f N a:=by kernel_rfl
noncomputable def Q59.ent (N:Nat):rA:=tF (Bool) 0 [true] [.any] fun
 | [.c (.int .i64 a)]=>some (Q59.f N a,fun r=>.one (.c (.bool r)) [])
 |_=>none
theorem Q59.env (N:Nat):sA Tryz.prog (Q59.E N):=⟨.nil,.nil,fun h=>hA (show false=true from h)⟩
theorem Q59.spec (N:Nat)(a:Int)(r:Bool)(h:Q59.f N a=some r):dA Tryz.prog 25 [.c (.int .i64 a)] [] (.c (.bool r)) ([]):=qA (Q59.env N) bA Tryz.func25 aA.n ((Q59.f_eq ..).trans h) fun v b e=>by unfold Q59.dec at e;split at e<;>cases e;exact⟨rfl,rfl⟩
theorem Q59.ent_ok (N:Nat):pA Tryz.prog 25 (Q59.ent N):=xA fun v a e h=>by split at h;exact gC (Q:=fun e=>dA _ _ _ _ (e a).pick.1 (e a).pick.2) h fun k=>Q59.spec N _ a k;cases h
noncomputable def Q60.f (N:Nat)(a b c:Int):Option (Bool):=
 bif a != b then
  some true
 else
 some ((Int.tmod c 2)==0)
noncomputable def Q60.E (N:Nat):aC:=mD [] [] [] [] N [.tmp 6] [.any] 0 15
noncomputable def Q60.dec (v:V)(bs:List oA):Option (Bool):=match v,bs with
 | .c (.bool a),[]=>some a
 |_,_=>none
theorem Q60.f_eq (N:Nat)(a b c:Int):
  uA (Q60.E N) (bo Tryz.f16) [.c (.int .i64 a),.c (.int .i64 b),.c (.int .i64 c)] [] Q60.dec=Q60.f N a b c:=by kernel_rfl
noncomputable def Q60.ent (N:Nat):rA:=tF (Bool) 0 [true,true,true] [.any,.any,.any] fun
 | [.c (.int .i64 a),.c (.int .i64 b),.c (.int .i64 c)]=>some (Q60.f N a b c,fun r=>.one (.c (.bool r)) [])
 |_=>none
theorem Q60.env (N:Nat):sA Tryz.prog (Q60.E N):=⟨.nil,.nil,fun h=>hA (show false=true from h)⟩
theorem Q60.spec (N:Nat)(a c d:Int)(r:Bool)(h:Q60.f N a c d=some r):dA Tryz.prog 16 [.c (.int .i64 a),.c (.int .i64 c),.c (.int .i64 d)] [] (.c (.bool r)) ([]):=qA (Q60.env N) bA Tryz.func16 aA.n ((Q60.f_eq ..).trans h) fun v b e=>by unfold Q60.dec at e;split at e<;>cases e;exact⟨rfl,rfl⟩
theorem Q60.ent_ok (N:Nat):pA Tryz.prog 16 (Q60.ent N):=xA fun v a e h=>by split at h;exact gC (Q:=fun e=>dA _ _ _ _ (e a).pick.1 (e a).pick.2) h fun k=>Q60.spec N _ _ _ a k;cases h
noncomputable def Q61.f (N:Nat)(c d a:Int):Option (Bool):=
 (Q59.f N a).bind fun b=>
 some b
noncomputable def Q61.E (N:Nat):aC:=mD [] [(25,Q59.ent N)] [] [] N [.tmp 6] [.any] 0 9
noncomputable def Q61.dec (v:V)(bs:List oA):Option (Bool):=match v,bs with
 | .c (.bool a),[]=>some a
 |_,_=>none
theorem Q61.f_eq (N:Nat)(a b c:Int):
  uA (Q61.E N) (bo Tryz.f24) [.c (.int .i64 a),.c (.int .i64 b),.c (.int .i64 c)] [] Q61.dec=Q61.f N a b c:=by kernel_rfl
noncomputable def Q61.ent (N:Nat):rA:=tF (Bool) 0 [true,true,true] [.any,.any,.any] fun
 | [.c (.int .i64 a),.c (.int .i64 b),.c (.int .i64 c)]=>some (Q61.f N a b c,fun r=>.one (.c (.bool r)) [])
 |_=>none
theorem Q61.env (N:Nat):sA Tryz.prog (Q61.E N):=⟨.nil,(.cons (Q59.ent_ok N) .nil),fun h=>hA (show false=true from h)⟩
theorem Q61.spec (N:Nat)(a c d:Int)(r:Bool)(h:Q61.f N a c d=some r):dA Tryz.prog 24 [.c (.int .i64 a),.c (.int .i64 c),.c (.int .i64 d)] [] (.c (.bool r)) ([]):=qA (Q61.env N) bA Tryz.func24 aA.n ((Q61.f_eq ..).trans h) fun v b e=>by unfold Q61.dec at e;split at e<;>cases e;exact⟨rfl,rfl⟩
theorem Q61.ent_ok (N:Nat):pA Tryz.prog 24 (Q61.ent N):=xA fun v a e h=>by split at h;exact gC (Q:=fun e=>dA _ _ _ _ (e a).pick.1 (e a).pick.2) h fun k=>Q61.spec N _ _ _ a k;cases h
noncomputable def Q62.f (N:Nat)(c a d:Int)(b:W5):Option (Bool×W5):=
 bif (decide (0≤a))&&(decide (a<(b.length:Int)))then
  bif (decide (0≤c))&&(decide (c<((b.getD a.toNat []).length:Int)))then
   some (d==((b.getD a.toNat []).getD c.toNat 0),b)
  else none
 else none
noncomputable def Q62.E (N:Nat):aC:=mD [(2,iW),(22,eL),(43,nJ)] [] [] [] N [.tmp 7] [.any] 1 17
noncomputable def Q62.dec (v:V)(bs:List oA):Option (Bool×W5):=match v,bs with
 | .c (.bool a),[.vals [.inl .i64 1 b]]=>some (a,b)
 |_,_=>none
theorem Q62.f_eq (N:Nat)(a b c:Int)(d:W5):
  uA (Q62.E N) (bo Tryz.f26) [.c (.int .i64 a),.c (.int .i64 b),.c (.int .i64 c),.ptr 0 0 1] [.vals [.inl .i64 1 d]] Q62.dec=Q62.f N a b c d:=by kernel_rfl
noncomputable def Q62.ent (N:Nat):rA:={A:=Bool×W5,fresh:=0,imm:=[true,true,true,false],dec:=fun args bs=>match sC (jA bs) [false,false,false,false] args,bs with
 | [.c (.int .i64 a),.c (.int .i64 b),.c (.int .i64 c),.ptr 0 0 1],[.vals [.inl .i64 1 d]]=>some (Q62.f N a b c d,fun r=>.one (.c (.bool r.1)) [.vals [.inl .i64 1 r.2]])
 |_,_=>none}
theorem Q62.env (N:Nat):sA Tryz.prog (Q62.E N):=⟨(.cons sE (.cons yD (.cons cD .nil))),.nil,fun h=>hA (show false=true from h)⟩
theorem Q62.spec (N:Nat)(a c d:Int)(f:W5)(r:Bool×W5)(h:Q62.f N a c d f=some r):dA Tryz.prog 26 [.c (.int .i64 a),.c (.int .i64 c),.c (.int .i64 d),.ptr 0 0 1] [.vals [.inl .i64 1 f]] (.c (.bool r.1)) ([.vals [.inl .i64 1 r.2]]):=qA (Q62.env N) bA Tryz.func26 aA.n ((Q62.f_eq ..).trans h) fun v b e=>by unfold Q62.dec at e;split at e<;>cases e;exact⟨rfl,rfl⟩
theorem Q62.ent_ok (N:Nat):pA Tryz.prog 26 (Q62.ent N):=by
 intro args bs a enc h;simp only[Q62.ent]at h;split at h
 ·rename_i hz;have h0:=hB h;have h1:=congrArg Prod.fst h0;have h2:=congrArg Prod.snd h0;dsimp only at h1 h2;subst h2;exact dA.of_asSl (fl:=[false,false,false,false]) (by rw[hz];exact Q62.spec N _ _ _ _ a h1)
 ·cases h
noncomputable def Q63.l5 {R:Type}(N:Nat):Nat→W5→Int→Int→Int→W6→Int→Int→(W5→Int→Int→Option R)→(Bool→Option R)→Option R
 |0,_,_,_,_,_,_,_,_,_=>none
 |n+1,f,g,h,i,d,b,a,e,kr=>
  bif decide (a<b)then
   bif (decide (0≤a))&&(decide (a<(d.length:Int)))then
    (Q60.f N g a (d.getD a.toNat 0)).bind fun c=>
    bif !c then
     kr false
    else
    Q63.l5 N n f g h i d b (fA (a+1)) e kr
   else none
  else
  e f h i
noncomputable def Q63.l2 {R:Type}(N:Nat):Nat→W5→Int→Int→(Unit→Option R)→(Bool→Option R)→Option R
 |0,_,_,_,_,_=>none
 |n+1,b,h,a,g,kr=>
  bif decide (a<h)then
   bif (decide (0≤a))&&(decide (a<(b.length:Int)))then
    Q63.l5 N N b a h a (b.getD a.toNat []) ((b.getD a.toNat []).length:Int) 0
     (fun c d e=>
      Q63.l2 N n c d (fA (e+1)) g kr)
     (fun f=>
      kr f)
   else none
  else
  g ()
noncomputable def Q63.f (N:Nat)(b:W5):Option (Bool×W5):=
 Q63.l2 N N b (b.length:Int) 0
  (fun(_:Unit)=>
   some (true,[]))
  (fun a=>
   some (a,[]))
noncomputable def Q63.h2:uB:=⟨[(0,.inl .i64 1),(1,.any),(9,.any),(10,.any)],[]⟩
noncomputable def Q63.h5:uB:=⟨[(0,.inl .i64 1),(1,.any),(5,.any),(9,.any),(10,.any),(16,.il .i64 1),(17,.any),(18,.any)],[(0,.inl .i64 1),(1,.any),(9,.any),(10,.any)]⟩
noncomputable def Q63.c5 (N:Nat):mF:=⟨fun vs H k=>match vs,H with
 | [.inl .i64 1 g,.fn 16 [] [],.c (.int .i64 h),.c (.int .i64 i),.c (.int .i64 j),.il .i64 1 l,.c (.int .i64 a),.c (.int .i64 b)],[]=>Q63.l5 N N g h i j l a b (fun d e f=>k (.exit 2) ⟨tB Q63.h5.out [.inl .i64 1 d,.fn 16 [] [],.c (.int .i64 e),.c (.int .i64 f)],[]⟩) (fun c=>k (.ret (.c (.bool c)) []) .nil)
 |_,_=>none⟩
noncomputable def Q63.c2 (N:Nat):mF:=⟨fun vs H k=>match vs,H with
 | [.inl .i64 1 b,.fn 16 [] [],.c (.int .i64 c),.c (.int .i64 d)],[]=>Q63.l2 N N b c d (fun(_:Unit)=>k (.exit 0) ⟨tB Q63.h2.out [],[]⟩) (fun a=>k (.ret (.c (.bool a)) []) .nil)
 |_,_=>none⟩
noncomputable def Q63.E (N:Nat):aC:=mD [(2,iW),(22,eL),(43,nJ)] [(16,Q60.ent N)] [(2,Q63.h2),(5,Q63.h5)] [(5,Q63.c5 N),(2,Q63.c2 N)] N [.tmp 4] [.any] 0 31
noncomputable def Q63.b5:Code:=mA ((cA (bo Tryz.f15)).getD 1 .skip)
theorem Q63.l5_eq {R:Type}(N n:Nat)(g:W5)(h i j:Int)(l:W6)(a b:Int)(k:Ex→St→Option R):
  vA 0 Q63.h5 (fun s k=>tA (Q63.E N) 387 Q63.b5 s k) n [.inl .i64 1 g,.fn 16 [] [],.c (.int .i64 h),.c (.int .i64 i),.c (.int .i64 j),.il .i64 1 l,.c (.int .i64 a),.c (.int .i64 b)] [] k=Q63.l5 N n g h i j l a b (fun d e f=>k (.exit 2) ⟨tB Q63.h5.out [.inl .i64 1 d,.fn 16 [] [],.c (.int .i64 e),.c (.int .i64 f)],[]⟩) (fun c=>k (.ret (.c (.bool c)) []) .nil):=by
 induction n generalizing g h i j l a b with
 |zero=>kernel_rfl
 |succ n ih=>
  simp only[Q63.l5,←ih]
  kernel_rfl
noncomputable def Q63.b2:Code:=mA ((cA (bo Tryz.f15)).getD 0 .skip)
theorem Q63.l2_eq {R:Type}(N n:Nat)(a:W5)(c d:Int)(k:Ex→St→Option R):
  vA 0 Q63.h2 (fun s k=>tA (Q63.E N) 395 Q63.b2 s k) n [.inl .i64 1 a,.fn 16 [] [],.c (.int .i64 c),.c (.int .i64 d)] [] k=Q63.l2 N n a c d (fun(_:Unit)=>k (.exit 0) ⟨tB Q63.h2.out [],[]⟩) (fun b=>k (.ret (.c (.bool b)) []) .nil):=by
 induction n generalizing a c d with
 |zero=>kernel_rfl
 |succ n ih=>
  simp only[Q63.l2,←ih]
  kernel_rfl
noncomputable def Q63.dec (v:V)(bs:List oA):Option (Bool×W5):=match v,bs with
 | .c (.bool a),[]=>some (a,[])
 |_,_=>none
theorem Q63.f_eq (N:Nat)(a:W5):
  uA (Q63.E N) (bo Tryz.f15) [.inl .i64 1 a,.fn 16 [] []] [] Q63.dec=Q63.f N a:=by kernel_rfl
theorem Q63.env (N:Nat):sA Tryz.prog (Q63.E N):=⟨(.cons sE (.cons yD (.cons cD .nil))),(.cons (Q60.ent_ok N) .nil),fun h=>hA (show false=true from h)⟩
theorem Q63.k5 (N:Nat):eB Tryz.prog Tryz.f15 (Q63.E N) (.loop Q63.b5):=xB (Q63.env N) bA 387 (c:=Q63.c5 N) aA.n fun R vs H k r h=>by unfold Q63.c5 at h;dsimp only at h;split at h;exact⟨_,Q63.l5_eq .. ▸h⟩;cases h
theorem Q63.k2 (N:Nat):eB Tryz.prog Tryz.f15 (Q63.E N) (.loop Q63.b2):=xB (Q63.env N) bA 395 (c:=Q63.c2 N) (aA.of (l:=[(.loop (mA ((cA (bo Tryz.f15)).getD 1 .skip)))]) (by kernel_rfl) (aA.cons (Q63.k5 N) aA.nil)) fun R vs H k r h=>by unfold Q63.c2 at h;dsimp only at h;split at h;exact⟨_,Q63.l2_eq .. ▸h⟩;cases h
theorem Q63.spec (N:Nat)(a:W5)(r:Bool×W5)(h:Q63.f N a=some r):dA Tryz.prog 15 [.inl .i64 1 a,.fn 16 [] []] [] (.c (.bool r.1)) ([]):=qA (Q63.env N) bA Tryz.func15 (aA.of (l:=[(.loop (mA ((cA (bo Tryz.f15)).getD 0 .skip))),(.loop (mA ((cA (bo Tryz.f15)).getD 1 .skip)))]) (by kernel_rfl) (aA.cons (Q63.k2 N) (aA.cons (Q63.k5 N) aA.nil))) ((Q63.f_eq ..).trans h) fun v b e=>by unfold Q63.dec at e;split at e<;>cases e;exact⟨rfl,rfl⟩
noncomputable def Q64.l5 {R:Type}(N:Nat):Nat→W5→Int→Int→Int→W6→Int→Int→(W5→Int→Int→Option R)→(Bool→Option R)→Option R
 |0,_,_,_,_,_,_,_,_,_=>none
 |n+1,f,g,h,i,d,b,a,e,kr=>
  bif decide (a<b)then
   bif (decide (0≤a))&&(decide (a<(d.length:Int)))then
    (Q61.f N g a (d.getD a.toNat 0)).bind fun c=>
    bif !c then
     kr false
    else
    Q64.l5 N n f g h i d b (fA (a+1)) e kr
   else none
  else
  e f h i
noncomputable def Q64.l2 {R:Type}(N:Nat):Nat→W5→Int→Int→(Unit→Option R)→(Bool→Option R)→Option R
 |0,_,_,_,_,_=>none
 |n+1,b,h,a,g,kr=>
  bif decide (a<h)then
   bif (decide (0≤a))&&(decide (a<(b.length:Int)))then
    Q64.l5 N N b a h a (b.getD a.toNat []) ((b.getD a.toNat []).length:Int) 0
     (fun c d e=>
      Q64.l2 N n c d (fA (e+1)) g kr)
     (fun f=>
      kr f)
   else none
  else
  g ()
noncomputable def Q64.f (N:Nat)(b:W5):Option (Bool×W5):=
 Q64.l2 N N b (b.length:Int) 0
  (fun(_:Unit)=>
   some (true,[]))
  (fun a=>
   some (a,[]))
noncomputable def Q64.h2:uB:=⟨[(0,.inl .i64 1),(1,.any),(9,.any),(10,.any)],[]⟩
noncomputable def Q64.h5:uB:=⟨[(0,.inl .i64 1),(1,.any),(5,.any),(9,.any),(10,.any),(16,.il .i64 1),(17,.any),(18,.any)],[(0,.inl .i64 1),(1,.any),(9,.any),(10,.any)]⟩
noncomputable def Q64.c5 (N:Nat):mF:=⟨fun vs H k=>match vs,H with
 | [.inl .i64 1 g,.fn 24 [] [],.c (.int .i64 h),.c (.int .i64 i),.c (.int .i64 j),.il .i64 1 l,.c (.int .i64 a),.c (.int .i64 b)],[]=>Q64.l5 N N g h i j l a b (fun d e f=>k (.exit 2) ⟨tB Q64.h5.out [.inl .i64 1 d,.fn 24 [] [],.c (.int .i64 e),.c (.int .i64 f)],[]⟩) (fun c=>k (.ret (.c (.bool c)) []) .nil)
 |_,_=>none⟩
noncomputable def Q64.c2 (N:Nat):mF:=⟨fun vs H k=>match vs,H with
 | [.inl .i64 1 b,.fn 24 [] [],.c (.int .i64 c),.c (.int .i64 d)],[]=>Q64.l2 N N b c d (fun(_:Unit)=>k (.exit 0) ⟨tB Q64.h2.out [],[]⟩) (fun a=>k (.ret (.c (.bool a)) []) .nil)
 |_,_=>none⟩
noncomputable def Q64.E (N:Nat):aC:=mD [(2,iW),(22,eL),(43,nJ)] [(24,Q61.ent N)] [(2,Q64.h2),(5,Q64.h5)] [(5,Q64.c5 N),(2,Q64.c2 N)] N [.tmp 4] [.any] 0 31
noncomputable def Q64.b5:Code:=mA ((cA (bo Tryz.f15)).getD 1 .skip)
theorem Q64.l5_eq {R:Type}(N n:Nat)(g:W5)(h i j:Int)(l:W6)(a b:Int)(k:Ex→St→Option R):
  vA 0 Q64.h5 (fun s k=>tA (Q64.E N) 387 Q64.b5 s k) n [.inl .i64 1 g,.fn 24 [] [],.c (.int .i64 h),.c (.int .i64 i),.c (.int .i64 j),.il .i64 1 l,.c (.int .i64 a),.c (.int .i64 b)] [] k=Q64.l5 N n g h i j l a b (fun d e f=>k (.exit 2) ⟨tB Q64.h5.out [.inl .i64 1 d,.fn 24 [] [],.c (.int .i64 e),.c (.int .i64 f)],[]⟩) (fun c=>k (.ret (.c (.bool c)) []) .nil):=by
 induction n generalizing g h i j l a b with
 |zero=>kernel_rfl
 |succ n ih=>
  simp only[Q64.l5,←ih]
  kernel_rfl
noncomputable def Q64.b2:Code:=mA ((cA (bo Tryz.f15)).getD 0 .skip)
theorem Q64.l2_eq {R:Type}(N n:Nat)(a:W5)(c d:Int)(k:Ex→St→Option R):
  vA 0 Q64.h2 (fun s k=>tA (Q64.E N) 395 Q64.b2 s k) n [.inl .i64 1 a,.fn 24 [] [],.c (.int .i64 c),.c (.int .i64 d)] [] k=Q64.l2 N n a c d (fun(_:Unit)=>k (.exit 0) ⟨tB Q64.h2.out [],[]⟩) (fun b=>k (.ret (.c (.bool b)) []) .nil):=by
 induction n generalizing a c d with
 |zero=>kernel_rfl
 |succ n ih=>
  simp only[Q64.l2,←ih]
  kernel_rfl
noncomputable def Q64.dec (v:V)(bs:List oA):Option (Bool×W5):=match v,bs with
 | .c (.bool a),[]=>some (a,[])
 |_,_=>none
theorem Q64.f_eq (N:Nat)(a:W5):
  uA (Q64.E N) (bo Tryz.f15) [.inl .i64 1 a,.fn 24 [] []] [] Q64.dec=Q64.f N a:=by kernel_rfl
theorem Q64.env (N:Nat):sA Tryz.prog (Q64.E N):=⟨(.cons sE (.cons yD (.cons cD .nil))),(.cons (Q61.ent_ok N) .nil),fun h=>hA (show false=true from h)⟩
theorem Q64.k5 (N:Nat):eB Tryz.prog Tryz.f15 (Q64.E N) (.loop Q64.b5):=xB (Q64.env N) bA 387 (c:=Q64.c5 N) aA.n fun R vs H k r h=>by unfold Q64.c5 at h;dsimp only at h;split at h;exact⟨_,Q64.l5_eq .. ▸h⟩;cases h
theorem Q64.k2 (N:Nat):eB Tryz.prog Tryz.f15 (Q64.E N) (.loop Q64.b2):=xB (Q64.env N) bA 395 (c:=Q64.c2 N) (aA.of (l:=[(.loop (mA ((cA (bo Tryz.f15)).getD 1 .skip)))]) (by kernel_rfl) (aA.cons (Q64.k5 N) aA.nil)) fun R vs H k r h=>by unfold Q64.c2 at h;dsimp only at h;split at h;exact⟨_,Q64.l2_eq .. ▸h⟩;cases h
theorem Q64.spec (N:Nat)(a:W5)(r:Bool×W5)(h:Q64.f N a=some r):dA Tryz.prog 15 [.inl .i64 1 a,.fn 24 [] []] [] (.c (.bool r.1)) ([]):=qA (Q64.env N) bA Tryz.func15 (aA.of (l:=[(.loop (mA ((cA (bo Tryz.f15)).getD 0 .skip))),(.loop (mA ((cA (bo Tryz.f15)).getD 1 .skip)))]) (by kernel_rfl) (aA.cons (Q64.k2 N) (aA.cons (Q64.k5 N) aA.nil))) ((Q64.f_eq ..).trans h) fun v b e=>by unfold Q64.dec at e;split at e<;>cases e;exact⟨rfl,rfl⟩
noncomputable def Q65.l5 {R:Type}(N:Nat):Nat→W5→Int→Int→Int→W6→Int→Int→W5→(W5→Int→Int→W5→Option R)→(Bool→W5→Option R)→Option R
 |0,_,_,_,_,_,_,_,_,_,_=>none
 |n+1,h,i,j,d,c,e,a,f,g,kr=>
  bif decide (a<e)then
   bif (decide (0≤a))&&(decide (a<(c.length:Int)))then
    (Q62.f N i a (c.getD a.toNat 0) f).bind fun b=>
    bif !b.1 then
     kr false b.2
    else
    Q65.l5 N n h i j d c e (fA (a+1)) b.2 g kr
   else none
  else
  g h j d f
noncomputable def Q65.l2 {R:Type}(N:Nat):Nat→W5→Int→Int→W5→(W5→Option R)→(Bool→W5→Option R)→Option R
 |0,_,_,_,_,_,_=>none
 |n+1,b,j,a,k,i,kr=>
  bif decide (a<j)then
   bif (decide (0≤a))&&(decide (a<(b.length:Int)))then
    Q65.l5 N N b a j a (b.getD a.toNat []) ((b.getD a.toNat []).length:Int) 0 k
     (fun c d e f=>
      Q65.l2 N n c d (fA (e+1)) f i kr)
     (fun g h=>
      kr g h)
   else none
  else
  i k
noncomputable def Q65.f (N:Nat)(d e:W5):Option (Bool×W5):=
 Q65.l2 N N d (d.length:Int) 0 e
  (fun a=>
   some (true,a))
  (fun b c=>
   some (b,c))
noncomputable def Q65.h2:uB:=⟨[(0,.inl .i64 1),(1,.any),(9,.any),(10,.any)],[]⟩
noncomputable def Q65.h5:uB:=⟨[(0,.inl .i64 1),(1,.any),(5,.any),(9,.any),(10,.any),(16,.il .i64 1),(17,.any),(18,.any)],[(0,.inl .i64 1),(1,.any),(9,.any),(10,.any)]⟩
noncomputable def Q65.c5 (N:Nat):mF:=⟨fun vs H k=>match vs,H with
 | [.inl .i64 1 m,.fn 26 [] [.ptr 0 0 1],.c (.int .i64 o),.c (.int .i64 p),.c (.int .i64 a),.il .i64 1 b,.c (.int .i64 c),.c (.int .i64 d)],[.vals [.inl .i64 1 e]]=>Q65.l5 N N m o p a b c d e (fun h i j l=>k (.exit 2) ⟨tB Q65.h5.out [.inl .i64 1 h,.fn 26 [] [.ptr 0 0 1],.c (.int .i64 i),.c (.int .i64 j)],[.vals [.inl .i64 1 l]]⟩) (fun f g=>k (.ret (.c (.bool f)) [.vals [.inl .i64 1 g]]) .nil)
 |_,_=>none⟩
noncomputable def Q65.c2 (N:Nat):mF:=⟨fun vs H k=>match vs,H with
 | [.inl .i64 1 d,.fn 26 [] [.ptr 0 0 1],.c (.int .i64 e),.c (.int .i64 f)],[.vals [.inl .i64 1 g]]=>Q65.l2 N N d e f g (fun c=>k (.exit 0) ⟨tB Q65.h2.out [],[.vals [.inl .i64 1 c]]⟩) (fun a b=>k (.ret (.c (.bool a)) [.vals [.inl .i64 1 b]]) .nil)
 |_,_=>none⟩
noncomputable def Q65.E (N:Nat):aC:=mD [(2,iW),(22,eL),(43,nJ)] [(26,Q62.ent N)] [(2,Q65.h2),(5,Q65.h5)] [(5,Q65.c5 N),(2,Q65.c2 N)] N [.tmp 4] [.any] 1 31
noncomputable def Q65.b5:Code:=mA ((cA (bo Tryz.f15)).getD 1 .skip)
theorem Q65.l5_eq {R:Type}(N n:Nat)(m:W5)(o p a:Int)(b:W6)(c d:Int)(e:W5)(k:Ex→St→Option R):
  vA 1 Q65.h5 (fun s k=>tA (Q65.E N) 387 Q65.b5 s k) n [.inl .i64 1 m,.fn 26 [] [.ptr 0 0 1],.c (.int .i64 o),.c (.int .i64 p),.c (.int .i64 a),.il .i64 1 b,.c (.int .i64 c),.c (.int .i64 d)] [.vals [.inl .i64 1 e]] k=Q65.l5 N n m o p a b c d e (fun h i j l=>k (.exit 2) ⟨tB Q65.h5.out [.inl .i64 1 h,.fn 26 [] [.ptr 0 0 1],.c (.int .i64 i),.c (.int .i64 j)],[.vals [.inl .i64 1 l]]⟩) (fun f g=>k (.ret (.c (.bool f)) [.vals [.inl .i64 1 g]]) .nil):=by
 induction n generalizing m o p a b c d e with
 |zero=>kernel_rfl
 |succ n ih=>
  simp only[Q65.l5,←ih]
  kernel_rfl
noncomputable def Q65.b2:Code:=mA ((cA (bo Tryz.f15)).getD 0 .skip)
theorem Q65.l2_eq {R:Type}(N n:Nat)(c:W5)(e f:Int)(g:W5)(k:Ex→St→Option R):
  vA 1 Q65.h2 (fun s k=>tA (Q65.E N) 395 Q65.b2 s k) n [.inl .i64 1 c,.fn 26 [] [.ptr 0 0 1],.c (.int .i64 e),.c (.int .i64 f)] [.vals [.inl .i64 1 g]] k=Q65.l2 N n c e f g (fun d=>k (.exit 0) ⟨tB Q65.h2.out [],[.vals [.inl .i64 1 d]]⟩) (fun a b=>k (.ret (.c (.bool a)) [.vals [.inl .i64 1 b]]) .nil):=by
 induction n generalizing c e f g with
 |zero=>kernel_rfl
 |succ n ih=>
  simp only[Q65.l2,←ih]
  kernel_rfl
noncomputable def Q65.dec (v:V)(bs:List oA):Option (Bool×W5):=match v,bs with
 | .c (.bool a),[.vals [.inl .i64 1 b]]=>some (a,b)
 |_,_=>none
theorem Q65.f_eq (N:Nat)(a b:W5):
  uA (Q65.E N) (bo Tryz.f15) [.inl .i64 1 a,.fn 26 [] [.ptr 0 0 1]] [.vals [.inl .i64 1 b]] Q65.dec=Q65.f N a b:=by kernel_rfl
theorem Q65.env (N:Nat):sA Tryz.prog (Q65.E N):=⟨(.cons sE (.cons yD (.cons cD .nil))),(.cons (Q62.ent_ok N) .nil),fun h=>hA (show false=true from h)⟩
theorem Q65.k5 (N:Nat):eB Tryz.prog Tryz.f15 (Q65.E N) (.loop Q65.b5):=xB (Q65.env N) bA 387 (c:=Q65.c5 N) aA.n fun R vs H k r h=>by unfold Q65.c5 at h;dsimp only at h;split at h;exact⟨_,Q65.l5_eq .. ▸h⟩;cases h
theorem Q65.k2 (N:Nat):eB Tryz.prog Tryz.f15 (Q65.E N) (.loop Q65.b2):=xB (Q65.env N) bA 395 (c:=Q65.c2 N) (aA.of (l:=[(.loop (mA ((cA (bo Tryz.f15)).getD 1 .skip)))]) (by kernel_rfl) (aA.cons (Q65.k5 N) aA.nil)) fun R vs H k r h=>by unfold Q65.c2 at h;dsimp only at h;split at h;exact⟨_,Q65.l2_eq .. ▸h⟩;cases h
theorem Q65.spec (N:Nat)(a c:W5)(r:Bool×W5)(h:Q65.f N a c=some r):dA Tryz.prog 15 [.inl .i64 1 a,.fn 26 [] [.ptr 0 0 1]] [.vals [.inl .i64 1 c]] (.c (.bool r.1)) ([.vals [.inl .i64 1 r.2]]):=qA (Q65.env N) bA Tryz.func15 (aA.of (l:=[(.loop (mA ((cA (bo Tryz.f15)).getD 0 .skip))),(.loop (mA ((cA (bo Tryz.f15)).getD 1 .skip)))]) (by kernel_rfl) (aA.cons (Q65.k2 N) (aA.cons (Q65.k5 N) aA.nil))) ((Q65.f_eq ..).trans h) fun v b e=>by unfold Q65.dec at e;split at e<;>cases e;exact⟨rfl,rfl⟩
noncomputable def yB.ent (N:Nat):rA:={A:=Bool×W5,fresh:=0,imm:=[true,false],dec:=fun args bs=>match sC (jA bs) [false,false] args,bs with
 | [.inl .i64 1 a,.fn 16 [] []],[]=>some (Q63.f N a,fun r=>.one (.c (.bool r.1)) [])
 | [.inl .i64 1 a,.fn 24 [] []],[]=>some (Q64.f N a,fun r=>.one (.c (.bool r.1)) [])
 | [.inl .i64 1 a,.fn 26 [] [.ptr 0 0 1]],[.vals [.inl .i64 1 b]]=>some (Q65.f N a b,fun r=>.one (.c (.bool r.1)) [.vals [.inl .i64 1 r.2]])
 |_,_=>none}
theorem yB.ent_ok (N:Nat):pA Tryz.prog 15 (yB.ent N):=by
 intro args bs a enc h;simp only[yB.ent]at h;split at h
 ·rename_i hz;have h0:=hB h;have h1:=congrArg Prod.fst h0;have h2:=congrArg Prod.snd h0;dsimp only at h1 h2;subst h2;exact dA.of_asSl (fl:=[false,false]) (by rw[hz];exact Q63.spec N _ a h1)
 ·rename_i hz;have h0:=hB h;have h1:=congrArg Prod.fst h0;have h2:=congrArg Prod.snd h0;dsimp only at h1 h2;subst h2;exact dA.of_asSl (fl:=[false,false]) (by rw[hz];exact Q64.spec N _ a h1)
 ·rename_i hz;have h0:=hB h;have h1:=congrArg Prod.fst h0;have h2:=congrArg Prod.snd h0;dsimp only at h1 h2;subst h2;exact dA.of_asSl (fl:=[false,false]) (by rw[hz];exact Q65.spec N _ _ a h1)
 ·cases h
noncomputable def Q66.f (N:Nat)(a c:Int)(b:W5):Option (Bool×W6×W5):=
 bif (decide (0≤a))&&(decide (a<(b.length:Int)))then
  bif (decide (0≤c))&&(decide (c<((b.getD a.toNat []).length:Int)))then
   (Q28.f N ((b.getD a.toNat []).getD c.toNat 0)).bind fun d=>
   some (d.1,d.2,b)
  else none
 else none
noncomputable def Q66.E (N:Nat):aC:=mD [(2,iW),(22,eL),(39,nD),(43,nJ)] [(10,Q28.ent N)] [] [] N [.cell 5 39] [.recd [.any,.il .u32 1]] 1 14
noncomputable def Q66.dec (v:V)(bs:List oA):Option (Bool×W6×W5):=match v,bs with
 | .agg [.c (.bool a),.il .u32 1 b],[.vals [.inl .i64 1 c]]=>some (a,b,c)
 |_,_=>none
theorem Q66.f_eq (N:Nat)(a b:Int)(c:W5):
  uA (Q66.E N) (bo Tryz.f40) [.c (.int .i64 a),.c (.int .i64 b),.ptr 0 0 1] [.vals [.inl .i64 1 c]] Q66.dec=Q66.f N a b c:=by kernel_rfl
noncomputable def Q66.ent (N:Nat):rA:={A:=Bool×W6×W5,fresh:=0,imm:=[true,true,false],dec:=fun args bs=>match sC (jA bs) [false,false,false] args,bs with
 | [.c (.int .i64 a),.c (.int .i64 b),.ptr 0 0 1],[.vals [.inl .i64 1 c]]=>some (Q66.f N a b c,fun r=>.one (.agg [.c (.bool r.1),.il .u32 1 r.2.1]) [.vals [.inl .i64 1 r.2.2]])
 |_,_=>none}
theorem Q66.env (N:Nat):sA Tryz.prog (Q66.E N):=⟨(.cons sE (.cons yD (.cons bB (.cons cD .nil)))),(.cons (Q28.ent_ok N) .nil),fun h=>hA (show false=true from h)⟩
theorem Q66.spec (N:Nat)(a c:Int)(d:W5)(r:Bool×W6×W5)(h:Q66.f N a c d=some r):dA Tryz.prog 40 [.c (.int .i64 a),.c (.int .i64 c),.ptr 0 0 1] [.vals [.inl .i64 1 d]] (.agg [.c (.bool r.1),.il .u32 1 r.2.1]) ([.vals [.inl .i64 1 r.2.2]]):=qA (Q66.env N) bA Tryz.func40 aA.n ((Q66.f_eq ..).trans h) fun v b e=>by unfold Q66.dec at e;split at e<;>cases e;exact⟨rfl,rfl⟩
theorem Q66.ent_ok (N:Nat):pA Tryz.prog 40 (Q66.ent N):=by
 intro args bs a enc h;simp only[Q66.ent]at h;split at h
 ·rename_i hz;have h0:=hB h;have h1:=congrArg Prod.fst h0;have h2:=congrArg Prod.snd h0;dsimp only at h1 h2;subst h2;exact dA.of_asSl (fl:=[false,false,false]) (by rw[hz];exact Q66.spec N _ _ _ a h1)
 ·cases h
noncomputable def Q67.l7 {R:Type}(N:Nat):Nat→Int→Int→Int→Int→Int→Int→W5→W2→W7→W3→(Int→Int→Int→W5→W2→W7→W3→Option R)→Option R
 |0,_,_,_,_,_,_,_,_,_,_,_=>none
 |n+1,l,d,e,f,g,a,h,i,j,c,k=>
  bif decide (a<g)then
   (Q66.f N d a h).bind fun b=>
   bif (decide (0≤a))&&(decide (a<(c.length:Int)))then
    Q67.l7 N n l d e f g (fA (a+1)) b.2.2 i j (c.set a.toNat (b.1,b.2.1)) k
   else none
  else
  k l e f h i j c
noncomputable def Q67.l3 {R:Type}(N:Nat):Nat→Int→Int→Int→W5→W2→W7→(W5→W2→W7→Option R)→Option R
 |0,_,_,_,_,_,_,_=>none
 |n+1,a,k,d,l,m,o,j=>
  bif decide (d<k)then
   bif dG a a&&decide (0≤a)&&decide (a≤9223372036854775807)&&lB a.toNat 32 then
    Q67.l7 N N a d k d ((hC a.toNat (false,([]:W6))).length:Int) 0 l m o (hC a.toNat (false,([]:W6)))
     (fun e f g h b c i=>
      bif lB (c.length+1) 24 then
       Q67.l3 N n e f (fA (g+1)) h (b++[i]) (c++[b.length]) j
      else none)
   else none
  else
  j l m o
noncomputable def Q67.f (N:Nat)(d:Int)(e:W5):Option (W2×W7×W5):=
 Q67.l3 N N d d 0 e [] []
  (fun a b c=>
   some (b,c,a))
noncomputable def Q67.h3:uB:=⟨[(0,.any),(1,.any),(5,.mrow .zi),(9,.any),(10,.any)],[(5,.mrow .zi)]⟩
noncomputable def Q67.h7:uB:=⟨[(0,.any),(1,.any),(5,.mrow .zi),(6,.any),(7,.any),(9,.any),(10,.any),(16,.any),(17,.any)],[(0,.any),(1,.any),(5,.mrow .zi),(7,.any),(9,.any),(10,.any)]⟩
noncomputable def Q67.c7 (N:Nat):mF:=⟨fun vs H k=>match vs,H with
 | [.c (.int .i64 s),.fn 40 [] [.ptr 0 0 1],.sw 2 1,.c (.int .i64 a),.sw 3 2,.c (.int .i64 b),.c (.int .i64 c),.c (.int .i64 d),.c (.int .i64 e)],[.vals [.inl .i64 1 f],.pool .zi g,.po 2 1 h,.tw .zi i]=>Q67.l7 N N s a b c d e f g h i (fun j l m o p q r=>k (.exit 2) ⟨tB Q67.h7.out [.c (.int .i64 j),.fn 40 [] [.ptr 0 0 1],.sw 2 1,.sw 3 2,.c (.int .i64 l),.c (.int .i64 m)],[.vals [.inl .i64 1 o],.pool .zi p,.po 2 1 q,.tw .zi r]⟩)
 |_,_=>none⟩
noncomputable def Q67.c3 (N:Nat):mF:=⟨fun vs H k=>match vs,H with
 | [.c (.int .i64 d),.fn 40 [] [.ptr 0 0 1],.sw 2 1,.c (.int .i64 e),.c (.int .i64 f)],[.vals [.inl .i64 1 g],.pool .zi h,.po 2 1 i]=>Q67.l3 N N d e f g h i (fun a b c=>k (.exit 0) ⟨tB Q67.h3.out [.sw 2 1],[.vals [.inl .i64 1 a],.pool .zi b,.po 2 1 c]⟩)
 |_,_=>none⟩
noncomputable def Q67.E (N:Nat):aC:=mD [(33,aK),(39,nD),(45,gJ)] [(40,Q66.ent N)] [(3,Q67.h3),(7,Q67.h7)] [(7,Q67.c7 N),(3,Q67.c3 N)] N [.tmp 4] [.mrow .zi] 1 34 true
noncomputable def Q67.b7:Code:=mA ((cA (bo Tryz.f39)).getD 1 .skip)
theorem Q67.l7_eq {R:Type}(N n:Nat)(t a b c d e:Int)(f:W5)(g:W2)(h:W7)(i:W3)(k:Ex→St→Option R):
  vA 1 Q67.h7 (fun s k=>tA (Q67.E N) 384 Q67.b7 s k) n [.c (.int .i64 t),.fn 40 [] [.ptr 0 0 1],.sw 2 1,.c (.int .i64 a),.sw 3 2,.c (.int .i64 b),.c (.int .i64 c),.c (.int .i64 d),.c (.int .i64 e)] [.vals [.inl .i64 1 f],.pool .zi g,.po 2 1 h,.tw .zi i] k=Q67.l7 N n t a b c d e f g h i (fun j l m o p q r=>k (.exit 2) ⟨tB Q67.h7.out [.c (.int .i64 j),.fn 40 [] [.ptr 0 0 1],.sw 2 1,.sw 3 2,.c (.int .i64 l),.c (.int .i64 m)],[.vals [.inl .i64 1 o],.pool .zi p,.po 2 1 q,.tw .zi r]⟩):=by
 induction n generalizing t a b c d e f g h i with
 |zero=>kernel_rfl
 |succ n ih=>
  simp only[Q67.l7,←ih]
  kernel_rfl
noncomputable def Q67.b3:Code:=mA ((cA (bo Tryz.f39)).getD 0 .skip)
theorem Q67.l3_eq {R:Type}(N n:Nat)(a e f:Int)(g:W5)(h:W2)(i:W7)(k:Ex→St→Option R):
  vA 1 Q67.h3 (fun s k=>tA (Q67.E N) 394 Q67.b3 s k) n [.c (.int .i64 a),.fn 40 [] [.ptr 0 0 1],.sw 2 1,.c (.int .i64 e),.c (.int .i64 f)] [.vals [.inl .i64 1 g],.pool .zi h,.po 2 1 i] k=Q67.l3 N n a e f g h i (fun b c d=>k (.exit 0) ⟨tB Q67.h3.out [.sw 2 1],[.vals [.inl .i64 1 b],.pool .zi c,.po 2 1 d]⟩):=by
 induction n generalizing a e f g h i with
 |zero=>kernel_rfl
 |succ n ih=>
  simp only[Q67.l3,←ih]
  kernel_rfl
noncomputable def Q67.dec (v:V)(bs:List oA):Option (W2×W7×W5):=match v,bs with
 | .sw 2 1,[.vals [.inl .i64 1 c],.pool .zi a,.po 2 1 b]=>some (a,b,c)
 |_,_=>none
theorem Q67.f_eq (N:Nat)(a:Int)(b:W5):
  uA (Q67.E N) (bo Tryz.f39) [.c (.int .i64 a),.fn 40 [] [.ptr 0 0 1]] [.vals [.inl .i64 1 b]] Q67.dec=Q67.f N a b:=by kernel_rfl
noncomputable def Q67.ent (N:Nat):rA:={A:=W2×W7×W5,fresh:=2,imm:=[true,false],dec:=fun args bs=>match sC (jA bs) [false,false] args,bs with
 | [.c (.int .i64 a),.fn 40 [] [.ptr 0 0 1]],[.vals [.inl .i64 1 b]]=>some (Q67.f N a b,fun r=>.one (.sw 2 1) [.vals [.inl .i64 1 r.2.2],.pool .zi r.1,.po 2 1 r.2.1])
 |_,_=>none}
theorem Q67.env (N:Nat):sA Tryz.prog (Q67.E N):=⟨(.cons kD (.cons bB (.cons zC .nil))),(.cons (Q66.ent_ok N) .nil),fun h=>hA (show false=true from h)⟩
theorem Q67.k7 (N:Nat):eB Tryz.prog Tryz.f39 (Q67.E N) (.loop Q67.b7):=xB (Q67.env N) bA 384 (c:=Q67.c7 N) aA.n fun R vs H k r h=>by unfold Q67.c7 at h;dsimp only at h;split at h;exact⟨_,Q67.l7_eq .. ▸h⟩;cases h
theorem Q67.k3 (N:Nat):eB Tryz.prog Tryz.f39 (Q67.E N) (.loop Q67.b3):=xB (Q67.env N) bA 394 (c:=Q67.c3 N) (aA.of (l:=[(.loop (mA ((cA (bo Tryz.f39)).getD 1 .skip)))]) (by kernel_rfl) (aA.cons (Q67.k7 N) aA.nil)) fun R vs H k r h=>by unfold Q67.c3 at h;dsimp only at h;split at h;exact⟨_,Q67.l3_eq .. ▸h⟩;cases h
theorem Q67.spec (N:Nat)(a:Int)(c:W5)(r:W2×W7×W5)(h:Q67.f N a c=some r):dA Tryz.prog 39 [.c (.int .i64 a),.fn 40 [] [.ptr 0 0 1]] [.vals [.inl .i64 1 c]] (.sw 2 1) ([.vals [.inl .i64 1 r.2.2],.pool .zi r.1,.po 2 1 r.2.1]):=qA (Q67.env N) bA Tryz.func39 (aA.of (l:=[(.loop (mA ((cA (bo Tryz.f39)).getD 0 .skip))),(.loop (mA ((cA (bo Tryz.f39)).getD 1 .skip)))]) (by kernel_rfl) (aA.cons (Q67.k3 N) (aA.cons (Q67.k7 N) aA.nil))) ((Q67.f_eq ..).trans h) fun v b e=>by unfold Q67.dec at e;split at e<;>cases e;exact⟨rfl,rfl⟩
theorem Q67.ent_ok (N:Nat):pA Tryz.prog 39 (Q67.ent N):=by
 intro args bs a enc h;simp only[Q67.ent]at h;split at h
 ·rename_i hz;have h0:=hB h;have h1:=congrArg Prod.fst h0;have h2:=congrArg Prod.snd h0;dsimp only at h1 h2;subst h2;exact dA.of_asSl (fl:=[false,false]) (by rw[hz];exact Q67.spec N _ _ a h1)
 ·cases h
noncomputable def Q68.l13 {R:Type}(N:Nat):Nat→Int→Int→Int→Int→Int→Int→W2→W7→Bool→W6→(Int→Int→Int→Int→Int→W2→W7→Bool→W6→Option R)→Option R
 |0,_,_,_,_,_,_,_,_,_,_,_=>none
 |n+1,f,b,c,e,m,o,d,a,g,h,p=>
  bif decide (e<f)then
   bif (decide (0≤b))&&(decide (b<(a.length:Int)))then
    bif (decide (0≤b))&&(decide (b<((d.getD (a.getD b.toNat 0) []).length:Int)))then
     bif (decide (0≤c))&&(decide (c<(a.length:Int)))then
      bif (decide (0≤e))&&(decide (e<((d.getD (a.getD c.toNat 0) []).length:Int)))then
       (Q33.f N (((d.getD (a.getD b.toNat 0) []).getD b.toNat (false,([]:W6))).1) (((d.getD (a.getD b.toNat 0) []).getD b.toNat (false,([]:W6))).2) (((d.getD (a.getD c.toNat 0) []).getD e.toNat (false,([]:W6))).1) (((d.getD (a.getD c.toNat 0) []).getD e.toNat (false,([]:W6))).2)).bind fun i=>
       bif (decide (0≤c))&&(decide (c<(a.length:Int)))then
        bif (decide (0≤b))&&(decide (b<((d.getD (a.getD c.toNat 0) []).length:Int)))then
         bif (decide (0≤b))&&(decide (b<(a.length:Int)))then
          bif (decide (0≤e))&&(decide (e<((d.getD (a.getD b.toNat 0) []).length:Int)))then
           (Q33.f N (((d.getD (a.getD c.toNat 0) []).getD b.toNat (false,([]:W6))).1) (((d.getD (a.getD c.toNat 0) []).getD b.toNat (false,([]:W6))).2) (((d.getD (a.getD b.toNat 0) []).getD e.toNat (false,([]:W6))).1) (((d.getD (a.getD b.toNat 0) []).getD e.toNat (false,([]:W6))).2)).bind fun j=>
           (Q32.f N i.1 i.2.1 j.1 j.2.1).bind fun k=>
           bif (decide (0≤c))&&(decide (c<(a.length:Int)))then
            (Q35.f N k.1 k.2.1 g h).bind fun l=>
            bif (decide (0≤e))&&(decide (e<((d.getD (a.getD c.toNat 0) []).length:Int)))then
             Q68.l13 N n f b c (fA (e+1)) m o (d.set (a.getD c.toNat 0) ((d.getD (a.getD c.toNat 0) []).set e.toNat (l.1,l.2.1))) a g h p
            else none
           else none
          else none
         else none
        else none
       else none
      else none
     else none
    else none
   else none
  else
  p f b c m o d a g h
noncomputable def Q68.l10 {R:Type}(N:Nat):Nat→Int→Int→Int→Int→Int→W2→W7→Bool→W6→(Int→Int→Int→Int→W2→W7→Bool→W6→Option R)→Option R
 |0,_,_,_,_,_,_,_,_,_,_=>none
 |n+1,a,b,c,d,e,f,g,h,i,t=>
  bif decide (c<a)then
   Q68.l13 N N a b c (fA (b+1)) d e f g h i
    (fun j k l m o p q r s=>
     Q68.l10 N n j k (fA (l+1)) m o p q r s t)
  else
  t a b d e f g h i
noncomputable def Q68.l5 {R:Type}(N:Nat):Nat→Int→Int→Int→W2→W7→Bool→W6→(Unit→Option R)→(Bool→Option R)→Option R
 |0,_,_,_,_,_,_,_,_,_=>none
 |n+1,o,m,b,f,e,p,h,l,kr=>
  bif decide (b<m)then
   bif (decide (0≤b))&&(decide (b<(e.length:Int)))then
    bif (decide (0≤b))&&(decide (b<((f.getD (e.getD b.toNat 0) []).length:Int)))then
     (Q24.f N (((f.getD (e.getD b.toNat 0) []).getD b.toNat (false,([]:W6))).1) (((f.getD (e.getD b.toNat 0) []).getD b.toNat (false,([]:W6))).2)).bind fun g=>
     bif decide (g≤0)then
      kr false
     else
     Q68.l10 N N o b (fA (b+1)) m b f e p h
      (fun i a j k d c q r=>
       bif (decide (0≤a))&&(decide (a<(c.length:Int)))then
        bif (decide (0≤a))&&(decide (a<((d.getD (c.getD a.toNat 0) []).length:Int)))then
         Q68.l5 N n i j (fA (k+1)) d c (((d.getD (c.getD a.toNat 0) []).getD a.toNat (false,([]:W6))).1) (((d.getD (c.getD a.toNat 0) []).getD a.toNat (false,([]:W6))).2) l kr
        else none
       else none)
    else none
   else none
  else
  l ()
noncomputable def Q68.f (N:Nat)(a:W5):Option (Bool):=
 (Q67.f N (a.length:Int) a).bind fun c=>
 (Q28.f N 1).bind fun d=>
 Q68.l5 N N (a.length:Int) (a.length:Int) 0 c.1 c.2.1 d.1 d.2
  (fun(_:Unit)=>
   some true)
  (fun b=>
   some b)
noncomputable def Q68.h5:uB:=⟨[(3,.any),(4,.mrow .zi),(5,.box [.any,.il .u32 1]),(21,.any),(22,.any)],[]⟩
noncomputable def Q68.h10:uB:=⟨[(3,.any),(4,.mrow .zi),(5,.box [.any,.il .u32 1]),(6,.any),(7,.any),(21,.any),(22,.any)],[(3,.any),(4,.mrow .zi),(5,.box [.any,.il .u32 1]),(6,.any),(21,.any),(22,.any)]⟩
noncomputable def Q68.h13:uB:=⟨[(3,.any),(4,.mrow .zi),(5,.box [.any,.il .u32 1]),(6,.any),(7,.any),(8,.any),(21,.any),(22,.any)],[(3,.any),(4,.mrow .zi),(5,.box [.any,.il .u32 1]),(6,.any),(7,.any),(21,.any),(22,.any)]⟩
noncomputable def Q68.c13 (N:Nat):mF:=⟨fun vs H k=>match vs,H with
 | [.c (.int .i64 a),.sw 1 1,.ptr 2 0 2,.c (.int .i64 b),.c (.int .i64 c),.c (.int .i64 d),.c (.int .i64 e),.c (.int .i64 f)],[.pool .zi g,.po 2 0 h,.vals [.c (.bool i),.il .u32 1 j]]=>Q68.l13 N N a b c d e f g h i j (fun l m o p q r s t u=>k (.exit 4) ⟨tB Q68.h13.out [.c (.int .i64 l),.sw 1 1,.ptr 2 0 2,.c (.int .i64 m),.c (.int .i64 o),.c (.int .i64 p),.c (.int .i64 q)],[.pool .zi r,.po 2 0 s,.vals [.c (.bool t),.il .u32 1 u]]⟩)
 |_,_=>none⟩
noncomputable def Q68.c10 (N:Nat):mF:=⟨fun vs H k=>match vs,H with
 | [.c (.int .i64 a),.sw 1 1,.ptr 2 0 2,.c (.int .i64 b),.c (.int .i64 c),.c (.int .i64 d),.c (.int .i64 e)],[.pool .zi f,.po 2 0 g,.vals [.c (.bool h),.il .u32 1 i]]=>Q68.l10 N N a b c d e f g h i (fun j l m o p q r s=>k (.exit 2) ⟨tB Q68.h10.out [.c (.int .i64 j),.sw 1 1,.ptr 2 0 2,.c (.int .i64 l),.c (.int .i64 m),.c (.int .i64 o)],[.pool .zi p,.po 2 0 q,.vals [.c (.bool r),.il .u32 1 s]]⟩)
 |_,_=>none⟩
noncomputable def Q68.c5 (N:Nat):mF:=⟨fun vs H k=>match vs,H with
 | [.c (.int .i64 c),.sw 1 1,.ptr 2 0 2,.c (.int .i64 d),.c (.int .i64 e)],[.pool .zi f,.po 2 0 g,.vals [.c (.bool h),.il .u32 1 a]]=>Q68.l5 N N c d e f g h a (fun(_:Unit)=>k (.exit 0) ⟨tB Q68.h5.out [],[]⟩) (fun b=>k (.ret (.c (.bool b)) []) .nil)
 |_,_=>none⟩
noncomputable def Q68.E (N:Nat):aC:=mD [(22,eL),(33,aK),(39,nD),(45,gJ)] [(39,Q67.ent N),(10,Q28.ent N),(41,Q24.ent N),(42,Q33.ent N),(43,Q32.ent N),(44,Q35.ent N)] [(5,Q68.h5),(10,Q68.h10),(13,Q68.h13)] [(13,Q68.c13 N),(10,Q68.c10 N),(5,Q68.c5 N)] N [.tmp 2] [.any] 0 110
noncomputable def Q68.b13:Code:=mA ((cA (bo Tryz.f27)).getD 2 .skip)
theorem Q68.l13_eq {R:Type}(N n:Nat)(a b c d e f:Int)(g:W2)(h:W7)(i:Bool)(j:W6)(k:Ex→St→Option R):
  vA 0 Q68.h13 (fun s k=>tA (Q68.E N) 376 Q68.b13 s k) n [.c (.int .i64 a),.sw 1 1,.ptr 2 0 2,.c (.int .i64 b),.c (.int .i64 c),.c (.int .i64 d),.c (.int .i64 e),.c (.int .i64 f)] [.pool .zi g,.po 2 0 h,.vals [.c (.bool i),.il .u32 1 j]] k=Q68.l13 N n a b c d e f g h i j (fun l m o p q r t u v=>k (.exit 4) ⟨tB Q68.h13.out [.c (.int .i64 l),.sw 1 1,.ptr 2 0 2,.c (.int .i64 m),.c (.int .i64 o),.c (.int .i64 p),.c (.int .i64 q)],[.pool .zi r,.po 2 0 t,.vals [.c (.bool u),.il .u32 1 v]]⟩):=by
 induction n generalizing a b c d e f g h i j with
 |zero=>kernel_rfl
 |succ n ih=>
  simp only[Q68.l13,←ih]
  kernel_rfl
noncomputable def Q68.b10:Code:=mA ((cA (bo Tryz.f27)).getD 1 .skip)
theorem Q68.l10_eq {R:Type}(N n:Nat)(a b c d e:Int)(f:W2)(g:W7)(h:Bool)(i:W6)(k:Ex→St→Option R):
  vA 0 Q68.h10 (fun s k=>tA (Q68.E N) 382 Q68.b10 s k) n [.c (.int .i64 a),.sw 1 1,.ptr 2 0 2,.c (.int .i64 b),.c (.int .i64 c),.c (.int .i64 d),.c (.int .i64 e)] [.pool .zi f,.po 2 0 g,.vals [.c (.bool h),.il .u32 1 i]] k=Q68.l10 N n a b c d e f g h i (fun j l m o p q r t=>k (.exit 2) ⟨tB Q68.h10.out [.c (.int .i64 j),.sw 1 1,.ptr 2 0 2,.c (.int .i64 l),.c (.int .i64 m),.c (.int .i64 o)],[.pool .zi p,.po 2 0 q,.vals [.c (.bool r),.il .u32 1 t]]⟩):=by
 induction n generalizing a b c d e f g h i with
 |zero=>kernel_rfl
 |succ n ih=>
  simp only[Q68.l10,←ih]
  kernel_rfl
noncomputable def Q68.b5:Code:=mA ((cA (bo Tryz.f27)).getD 0 .skip)
theorem Q68.l5_eq {R:Type}(N n:Nat)(c d e:Int)(f:W2)(g:W7)(h:Bool)(a:W6)(k:Ex→St→Option R):
  vA 0 Q68.h5 (fun s k=>tA (Q68.E N) 392 Q68.b5 s k) n [.c (.int .i64 c),.sw 1 1,.ptr 2 0 2,.c (.int .i64 d),.c (.int .i64 e)] [.pool .zi f,.po 2 0 g,.vals [.c (.bool h),.il .u32 1 a]] k=Q68.l5 N n c d e f g h a (fun(_:Unit)=>k (.exit 0) ⟨tB Q68.h5.out [],[]⟩) (fun b=>k (.ret (.c (.bool b)) []) .nil):=by
 induction n generalizing c d e f g h a with
 |zero=>kernel_rfl
 |succ n ih=>
  simp only[Q68.l5,←ih]
  kernel_rfl
noncomputable def Q68.dec (v:V)(bs:List oA):Option (Bool):=match v,bs with
 | .c (.bool a),[]=>some a
 |_,_=>none
theorem Q68.f_eq (N:Nat)(a:W5):
  uA (Q68.E N) (bo Tryz.f27) [.inl .i64 1 a] [] Q68.dec=Q68.f N a:=by kernel_rfl
noncomputable def Q68.ent (N:Nat):rA:=tF (Bool) 0 [true] [.inl .i64 1] fun
 | [.inl .i64 1 a]=>some (Q68.f N a,fun r=>.one (.c (.bool r)) [])
 |_=>none
theorem Q68.env (N:Nat):sA Tryz.prog (Q68.E N):=⟨(.cons yD (.cons kD (.cons bB (.cons zC .nil)))),(.cons (Q67.ent_ok N) (.cons (Q28.ent_ok N) (.cons (Q24.ent_ok N) (.cons (Q33.ent_ok N) (.cons (Q32.ent_ok N) (.cons (Q35.ent_ok N) .nil)))))),fun h=>hA (show false=true from h)⟩
theorem Q68.k13 (N:Nat):eB Tryz.prog Tryz.f27 (Q68.E N) (.loop Q68.b13):=xB (Q68.env N) bA 376 (c:=Q68.c13 N) aA.n fun R vs H k r h=>by unfold Q68.c13 at h;dsimp only at h;split at h;exact⟨_,Q68.l13_eq .. ▸h⟩;cases h
theorem Q68.k10 (N:Nat):eB Tryz.prog Tryz.f27 (Q68.E N) (.loop Q68.b10):=xB (Q68.env N) bA 382 (c:=Q68.c10 N) (aA.of (l:=[(.loop (mA ((cA (bo Tryz.f27)).getD 2 .skip)))]) (by kernel_rfl) (aA.cons (Q68.k13 N) aA.nil)) fun R vs H k r h=>by unfold Q68.c10 at h;dsimp only at h;split at h;exact⟨_,Q68.l10_eq .. ▸h⟩;cases h
theorem Q68.k5 (N:Nat):eB Tryz.prog Tryz.f27 (Q68.E N) (.loop Q68.b5):=xB (Q68.env N) bA 392 (c:=Q68.c5 N) (aA.of (l:=[(.loop (mA ((cA (bo Tryz.f27)).getD 1 .skip))),(.loop (mA ((cA (bo Tryz.f27)).getD 2 .skip)))]) (by kernel_rfl) (aA.cons (Q68.k10 N) (aA.cons (Q68.k13 N) aA.nil))) fun R vs H k r h=>by unfold Q68.c5 at h;dsimp only at h;split at h;exact⟨_,Q68.l5_eq .. ▸h⟩;cases h
theorem Q68.spec (N:Nat)(a:W5)(r:Bool)(h:Q68.f N a=some r):dA Tryz.prog 27 [.inl .i64 1 a] [] (.c (.bool r)) ([]):=qA (Q68.env N) bA Tryz.func27 (aA.of (l:=[(.loop (mA ((cA (bo Tryz.f27)).getD 0 .skip))),(.loop (mA ((cA (bo Tryz.f27)).getD 1 .skip))),(.loop (mA ((cA (bo Tryz.f27)).getD 2 .skip)))]) (by kernel_rfl) (aA.cons (Q68.k5 N) (aA.cons (Q68.k10 N) (aA.cons (Q68.k13 N) aA.nil)))) ((Q68.f_eq ..).trans h) fun v b e=>by unfold Q68.dec at e;split at e<;>cases e;exact⟨rfl,rfl⟩
theorem Q68.ent_ok (N:Nat):pA Tryz.prog 27 (Q68.ent N):=xA fun v a e h=>by split at h;exact gC (Q:=fun e=>dA _ _ _ _ (e a).pick.1 (e a).pick.2) h fun k=>Q68.spec N _ a k;cases h
noncomputable def Q69.l5 {R:Type}(N:Nat):Nat→Int→Int→Int→W5→(W5→Option R)→(Int→Option R)→Option R
 |0,_,_,_,_,_,_=>none
 |n+1,d,e,a,b,c,kr=>
  bif decide (a<e)then
   bif (decide (0≤a))&&(decide (a<(b.length:Int)))then
    bif ((b.getD a.toNat []).length:Int) != d then
     kr 5
    else
    Q69.l5 N n d e (fA (a+1)) b c kr
   else none
  else
  c b
noncomputable def Q69.f (N:Nat)(a:W5):Option (Int):=
 bif decide ((a.length:Int)<1)then
  some 5
 else
 bif decide ((a.length:Int)>8)then
  some 5
 else
 Q69.l5 N N (a.length:Int) (a.length:Int) 0 a
  (fun e=>
   (Q64.f N e).bind fun f=>
   bif !f.1 then
    some 3
   else
   (Q65.f N e e).bind fun b=>
   bif !b.1 then
    some 6
   else
   (Q68.f N b.2).bind fun c=>
   bif !c then
    some 6
   else
   some 0)
  (fun d=>
   some d)
noncomputable def Q69.h5:uB:=⟨[(1,.box [.inl .i64 1]),(3,.any),(14,.any),(15,.any)],[(1,.box [.inl .i64 1])]⟩
noncomputable def Q69.c5 (N:Nat):mF:=⟨fun vs H k=>match vs,H with
 | [.ptr 0 0 1,.c (.int .i64 a),.c (.int .i64 b),.c (.int .i64 c)],[.vals [.inl .i64 1 d]]=>Q69.l5 N N a b c d (fun f=>k (.exit 0) ⟨tB Q69.h5.out [.ptr 0 0 1],[.vals [.inl .i64 1 f]]⟩) (fun e=>k (.ret (.c (.int .i64 e)) []) .nil)
 |_,_=>none⟩
noncomputable def Q69.E (N:Nat):aC:=mD [(22,eL),(43,nJ)] [(15,yB.ent N),(27,Q68.ent N)] [(5,Q69.h5)] [(5,Q69.c5 N)] N [.tmp 2] [.any] 0 38
noncomputable def Q69.b5:Code:=mA ((cA (bo Tryz.f11)).getD 0 .skip)
theorem Q69.l5_eq {R:Type}(N n:Nat)(a b c:Int)(d:W5)(k:Ex→St→Option R):
  vA 0 Q69.h5 (fun s k=>tA (Q69.E N) 393 Q69.b5 s k) n [.ptr 0 0 1,.c (.int .i64 a),.c (.int .i64 b),.c (.int .i64 c)] [.vals [.inl .i64 1 d]] k=Q69.l5 N n a b c d (fun f=>k (.exit 0) ⟨tB Q69.h5.out [.ptr 0 0 1],[.vals [.inl .i64 1 f]]⟩) (fun e=>k (.ret (.c (.int .i64 e)) []) .nil):=by
 induction n generalizing a b c d with
 |zero=>kernel_rfl
 |succ n ih=>
  simp only[Q69.l5,←ih]
  kernel_rfl
noncomputable def Q69.dec (v:V)(bs:List oA):Option (Int):=match v,bs with
 | .c (.int .i64 a),[]=>some a
 |_,_=>none
theorem Q69.f_eq (N:Nat)(a:W5):
  uA (Q69.E N) (bo Tryz.f11) [.inl .i64 1 a] [] Q69.dec=Q69.f N a:=by kernel_rfl
noncomputable def Q69.ent (N:Nat):rA:=tF (Int) 0 [true] [.inl .i64 1] fun
 | [.inl .i64 1 a]=>some (Q69.f N a,fun r=>.one (.c (.int .i64 r)) [])
 |_=>none
theorem Q69.env (N:Nat):sA Tryz.prog (Q69.E N):=⟨(.cons yD (.cons cD .nil)),(.cons (yB.ent_ok N) (.cons (Q68.ent_ok N) .nil)),fun h=>hA (show false=true from h)⟩
theorem Q69.k5 (N:Nat):eB Tryz.prog Tryz.f11 (Q69.E N) (.loop Q69.b5):=xB (Q69.env N) bA 393 (c:=Q69.c5 N) aA.n fun R vs H k r h=>by unfold Q69.c5 at h;dsimp only at h;split at h;exact⟨_,Q69.l5_eq .. ▸h⟩;cases h
theorem Q69.spec (N:Nat)(a:W5)(r:Int)(h:Q69.f N a=some r):dA Tryz.prog 11 [.inl .i64 1 a] [] (.c (.int .i64 r)) ([]):=qA (Q69.env N) bA Tryz.func11 (aA.of (l:=[(.loop (mA ((cA (bo Tryz.f11)).getD 0 .skip)))]) (by kernel_rfl) (aA.cons (Q69.k5 N) aA.nil)) ((Q69.f_eq ..).trans h) fun v b e=>by unfold Q69.dec at e;split at e<;>cases e;exact⟨rfl,rfl⟩
theorem Q69.ent_ok (N:Nat):pA Tryz.prog 11 (Q69.ent N):=xA fun v a e h=>by split at h;exact gC (Q:=fun e=>dA _ _ _ _ (e a).pick.1 (e a).pick.2) h fun k=>Q69.spec N _ a k;cases h
noncomputable def Q70.f (N:Nat)(a:W5):Option (Bool×Int):=
 (Q69.f N a).bind fun b=>
 bif b != 0 then
  some (false,b)
 else
 (Q63.f N a).bind fun c=>
 some (c.1,0)
noncomputable def Q70.E (N:Nat):aC:=mD [] [(11,Q69.ent N),(15,yB.ent N)] [] [] N [.tmp 2,.tmp 3] [.any,.any] 0 12
noncomputable def Q70.dec (v:V)(bs:List oA):Option (Bool×Int):=match v,bs with
 | .tup [.c (.bool a),.c (.int .i64 b)],[]=>some (a,b)
 |_,_=>none
theorem Q70.f_eq (N:Nat)(a:W5):
  uA (Q70.E N) (bo Tryz.f6) [.inl .i64 1 a] [] Q70.dec=Q70.f N a:=by kernel_rfl
noncomputable def Q70.ent (N:Nat):rA:=tF (Bool×Int) 0 [true] [.inl .i64 1] fun
 | [.inl .i64 1 a]=>some (Q70.f N a,fun r=>.one (.tup [.c (.bool r.1),.c (.int .i64 r.2)]) [])
 |_=>none
theorem Q70.env (N:Nat):sA Tryz.prog (Q70.E N):=⟨.nil,(.cons (Q69.ent_ok N) (.cons (yB.ent_ok N) .nil)),fun h=>hA (show false=true from h)⟩
theorem Q70.spec (N:Nat)(a:W5)(r:Bool×Int)(h:Q70.f N a=some r):dA Tryz.prog 6 [.inl .i64 1 a] [] (.tup [.c (.bool r.1),.c (.int .i64 r.2)]) ([]):=qA (Q70.env N) bA Tryz.func6 aA.n ((Q70.f_eq ..).trans h) fun v b e=>by unfold Q70.dec at e;split at e<;>cases e;exact⟨rfl,rfl⟩
theorem Q70.ent_ok (N:Nat):pA Tryz.prog 6 (Q70.ent N):=xA fun v a e h=>by split at h;exact gC (Q:=fun e=>dA _ _ _ _ (e a).pick.1 (e a).pick.2) h fun k=>Q70.spec N _ a k;cases h
noncomputable def Q71.l2 {R:Type}(N:Nat):Nat→W6→W6→Int→Int→(Unit→Option R)→(Bool→Option R)→Option R
 |0,_,_,_,_,_,_=>none
 |n+1,c,b,e,a,d,kr=>
  bif decide (a<e)then
   bif (decide (0≤a))&&(decide (a<(b.length:Int)))then
    bif decide ((c.length:Int)>16)then
     kr false
    else
    bif decide ((b.getD a.toNat 0)<1)then
     kr false
    else
    bif decide ((b.getD a.toNat 0)>16)then
     kr false
    else
    bif decide (0<(c.length:Int))then
     bif (b.getD a.toNat 0) != (c.getD 0 0)then
      kr false
     else
     Q71.l2 N n c b e (fA (a+1)) d kr
    else none
   else none
  else
  d ()
noncomputable def Q71.f (N:Nat)(a:W6):Option (Bool):=
 Q71.l2 N N a a (a.length:Int) 0
  (fun(_:Unit)=>
   some true)
  (fun b=>
   some b)
noncomputable def Q71.h2:uB:=⟨[(0,.il .i64 1),(5,.il .i64 1),(6,.any),(7,.any)],[]⟩
noncomputable def Q71.c2 (N:Nat):mF:=⟨fun vs H k=>match vs,H with
 | [.il .i64 1 a,.il .i64 1 b,.c (.int .i64 c),.c (.int .i64 d)],[]=>Q71.l2 N N a b c d (fun(_:Unit)=>k (.exit 0) ⟨tB Q71.h2.out [],[]⟩) (fun e=>k (.ret (.c (.bool e)) []) .nil)
 |_,_=>none⟩
noncomputable def Q71.E (N:Nat):aC:=mD [(3,Fm),(71,Ef)] [] [(2,Q71.h2)] [(2,Q71.c2 N)] N [.tmp 2] [.any] 0 30
noncomputable def Q71.b2:Code:=mA ((cA (bo Tryz.f28)).getD 0 .skip)
theorem Q71.l2_eq {R:Type}(N n:Nat)(a b:W6)(c d:Int)(k:Ex→St→Option R):
  vA 0 Q71.h2 (fun s k=>tA (Q71.E N) 395 Q71.b2 s k) n [.il .i64 1 a,.il .i64 1 b,.c (.int .i64 c),.c (.int .i64 d)] [] k=Q71.l2 N n a b c d (fun(_:Unit)=>k (.exit 0) ⟨tB Q71.h2.out [],[]⟩) (fun e=>k (.ret (.c (.bool e)) []) .nil):=by
 induction n generalizing a b c d with
 |zero=>kernel_rfl
 |succ n ih=>
  simp only[Q71.l2,←ih]
  kernel_rfl
noncomputable def Q71.dec (v:V)(bs:List oA):Option (Bool):=match v,bs with
 | .c (.bool a),[]=>some a
 |_,_=>none
theorem Q71.f_eq (N:Nat)(a:W6):
  uA (Q71.E N) (bo Tryz.f28) [.il .i64 1 a] [] Q71.dec=Q71.f N a:=by kernel_rfl
noncomputable def Q71.ent (N:Nat):rA:=tF (Bool) 0 [true] [.il .i64 1] fun
 | [.il .i64 1 a]=>some (Q71.f N a,fun r=>.one (.c (.bool r)) [])
 |_=>none
theorem Q71.env (N:Nat):sA Tryz.prog (Q71.E N):=⟨(.cons iR (.cons fi .nil)),.nil,fun h=>hA (show false=true from h)⟩
theorem Q71.k2 (N:Nat):eB Tryz.prog Tryz.f28 (Q71.E N) (.loop Q71.b2):=xB (Q71.env N) bA 395 (c:=Q71.c2 N) aA.n fun R vs H k r h=>by unfold Q71.c2 at h;dsimp only at h;split at h;exact⟨_,Q71.l2_eq .. ▸h⟩;cases h
theorem Q71.spec (N:Nat)(a:W6)(r:Bool)(h:Q71.f N a=some r):dA Tryz.prog 28 [.il .i64 1 a] [] (.c (.bool r)) ([]):=qA (Q71.env N) bA Tryz.func28 (aA.of (l:=[(.loop (mA ((cA (bo Tryz.f28)).getD 0 .skip)))]) (by kernel_rfl) (aA.cons (Q71.k2 N) aA.nil)) ((Q71.f_eq ..).trans h) fun v b e=>by unfold Q71.dec at e;split at e<;>cases e;exact⟨rfl,rfl⟩
theorem Q71.ent_ok (N:Nat):pA Tryz.prog 28 (Q71.ent N):=xA fun v a e h=>by split at h;exact gC (Q:=fun e=>dA _ _ _ _ (e a).pick.1 (e a).pick.2) h fun k=>Q71.spec N _ a k;cases h
noncomputable def Q72.l3 {R:Type}(N:Nat):Nat→W5→Int→Int→W6→(W6→Option R)→Option R
 |0,_,_,_,_,_=>none
 |n+1,b,e,a,c,d=>
  bif decide (a<e)then
   bif (decide (0≤a))&&(decide (a<(b.length:Int)))then
    bif lB (c.length+1) 8 then
     Q72.l3 N n b e (fA (a+1)) (c++[((b.getD a.toNat []).length:Int)]) d
    else none
   else none
  else
  d c
noncomputable def Q72.f (N:Nat)(a:W5):Option W6:=
 Q72.l3 N N a (a.length:Int) 0 []
  (fun b=>
   some b)
noncomputable def Q72.h3:uB:=⟨[(0,.inl .i64 1),(3,.row .i64 1),(6,.any),(7,.any)],[(3,.row .i64 1)]⟩
noncomputable def Q72.c3 (N:Nat):mF:=⟨fun vs H k=>match vs,H with
 | [.inl .i64 1 a,.sw 0 1,.c (.int .i64 b),.c (.int .i64 c)],[.ints .i64 d]=>Q72.l3 N N a b c d (fun e=>k (.exit 0) ⟨tB Q72.h3.out [.sw 0 1],[.ints .i64 e]⟩)
 |_,_=>none⟩
noncomputable def Q72.E (N:Nat):aC:=mD [(3,Fm),(22,eL),(43,nJ),(71,Ef)] [] [(3,Q72.h3)] [(3,Q72.c3 N)] N [.tmp 2] [.il .i64 1] 0 20
noncomputable def Q72.b3:Code:=mA ((cA (bo Tryz.f29)).getD 0 .skip)
theorem Q72.l3_eq {R:Type}(N n:Nat)(a:W5)(b c:Int)(d:W6)(k:Ex→St→Option R):
  vA 0 Q72.h3 (fun s k=>tA (Q72.E N) 394 Q72.b3 s k) n [.inl .i64 1 a,.sw 0 1,.c (.int .i64 b),.c (.int .i64 c)] [.ints .i64 d] k=Q72.l3 N n a b c d (fun e=>k (.exit 0) ⟨tB Q72.h3.out [.sw 0 1],[.ints .i64 e]⟩):=by
 induction n generalizing a b c d with
 |zero=>kernel_rfl
 |succ n ih=>
  simp only[Q72.l3,←ih]
  kernel_rfl
noncomputable def Q72.dec (v:V)(bs:List oA):Option W6:=match v,bs with
 | .il .i64 1 a,[]=>some a
 |_,_=>none
theorem Q72.f_eq (N:Nat)(a:W5):
  uA (Q72.E N) (bo Tryz.f29) [.inl .i64 1 a] [] Q72.dec=Q72.f N a:=by kernel_rfl
noncomputable def Q72.ent (N:Nat):rA:=tF W6 0 [true] [.inl .i64 1] fun
 | [.inl .i64 1 a]=>some (Q72.f N a,fun r=>.one (.il .i64 1 r) [])
 |_=>none
theorem Q72.env (N:Nat):sA Tryz.prog (Q72.E N):=⟨(.cons iR (.cons yD (.cons cD (.cons fi .nil)))),.nil,fun h=>hA (show false=true from h)⟩
theorem Q72.k3 (N:Nat):eB Tryz.prog Tryz.f29 (Q72.E N) (.loop Q72.b3):=xB (Q72.env N) bA 394 (c:=Q72.c3 N) aA.n fun R vs H k r h=>by unfold Q72.c3 at h;dsimp only at h;split at h;exact⟨_,Q72.l3_eq .. ▸h⟩;cases h
theorem Q72.spec (N:Nat)(a:W5)(r:W6)(h:Q72.f N a=some r):dA Tryz.prog 29 [.inl .i64 1 a] [] (.il .i64 1 r) ([]):=qA (Q72.env N) bA Tryz.func29 (aA.of (l:=[(.loop (mA ((cA (bo Tryz.f29)).getD 0 .skip)))]) (by kernel_rfl) (aA.cons (Q72.k3 N) aA.nil)) ((Q72.f_eq ..).trans h) fun v b e=>by unfold Q72.dec at e;split at e<;>cases e;exact⟨rfl,rfl⟩
theorem Q72.ent_ok (N:Nat):pA Tryz.prog 29 (Q72.ent N):=xA fun v a e h=>by split at h;exact gC (Q:=fun e=>dA _ _ _ _ (e a).pick.1 (e a).pick.2) h fun k=>Q72.spec N _ a k;cases h
noncomputable def Q73.l3 {R:Type}(N:Nat):Nat→Int→Int→W7→W2→W6→(W7→W2→W6→Option R)→Option R
 |0,_,_,_,_,_,_=>none
 |n+1,f,a,b,c,d,e=>
  bif decide (a<f)then
   bif (decide (0≤a))&&(decide (a<(b.length:Int)))then
    bif lB (d.length+1) 8 then
     Q73.l3 N n f (fA (a+1)) b c (d++[((c.getD (b.getD a.toNat 0) []).length:Int)]) e
    else none
   else none
  else
  e b c d
noncomputable def Q73.f (N:Nat)(d:W7)(e:W2):Option (W6×W7×W2):=
 Q73.l3 N N (d.length:Int) 0 d e []
  (fun a b c=>
   some (c,a,b))
noncomputable def Q73.h3:uB:=⟨[(0,.mrow .zi),(3,.row .i64 1),(6,.any),(7,.any)],[(3,.row .i64 1)]⟩
noncomputable def Q73.c3 (N:Nat):mF:=⟨fun vs H k=>match vs,H with
 | [.sw 0 1,.sw 2 1,.c (.int .i64 b),.c (.int .i64 c)],[.po 2 1 d,.pool .zi e,.ints .i64 f]=>Q73.l3 N N b c d e f (fun g h a=>k (.exit 0) ⟨tB Q73.h3.out [.sw 2 1],[.po 2 1 g,.pool .zi h,.ints .i64 a]⟩)
 |_,_=>none⟩
noncomputable def Q73.E (N:Nat):aC:=mD [(3,Fm),(33,aK),(45,gJ),(71,Ef)] [] [(3,Q73.h3)] [(3,Q73.c3 N)] N [.tmp 2] [.il .i64 1] 2 20
noncomputable def Q73.b3:Code:=mA ((cA (bo Tryz.f117)).getD 0 .skip)
theorem Q73.l3_eq {R:Type}(N n:Nat)(b c:Int)(d:W7)(e:W2)(f:W6)(k:Ex→St→Option R):
  vA 2 Q73.h3 (fun s k=>tA (Q73.E N) 394 Q73.b3 s k) n [.sw 0 1,.sw 2 1,.c (.int .i64 b),.c (.int .i64 c)] [.po 2 1 d,.pool .zi e,.ints .i64 f] k=Q73.l3 N n b c d e f (fun g h a=>k (.exit 0) ⟨tB Q73.h3.out [.sw 2 1],[.po 2 1 g,.pool .zi h,.ints .i64 a]⟩):=by
 induction n generalizing b c d e f with
 |zero=>kernel_rfl
 |succ n ih=>
  simp only[Q73.l3,←ih]
  kernel_rfl
noncomputable def Q73.dec (v:V)(bs:List oA):Option (W6×W7×W2):=match v,bs with
 | .il .i64 1 a,[.po 2 1 b,.pool .zi c]=>some (a,b,c)
 |_,_=>none
theorem Q73.f_eq (N:Nat)(a:W7)(b:W2):
  uA (Q73.E N) (bo Tryz.f117) [.sw 0 1] [.po 2 1 a,.pool .zi b] Q73.dec=Q73.f N a b:=by kernel_rfl
noncomputable def Q73.ent (N:Nat):rA:={A:=W6×W7×W2,fresh:=0,imm:=[false],dec:=fun args bs=>match sC (jA bs) [false] args,bs with
 | [.sw 0 1],[.po 2 1 a,.pool .zi b]=>some (Q73.f N a b,fun r=>.one (.il .i64 1 r.1) [.po 2 1 r.2.1,.pool .zi r.2.2])
 |_,_=>none}
theorem Q73.env (N:Nat):sA Tryz.prog (Q73.E N):=⟨(.cons iR (.cons kD (.cons zC (.cons fi .nil)))),.nil,fun h=>hA (show false=true from h)⟩
theorem Q73.k3 (N:Nat):eB Tryz.prog Tryz.f117 (Q73.E N) (.loop Q73.b3):=xB (Q73.env N) bA 394 (c:=Q73.c3 N) aA.n fun R vs H k r h=>by unfold Q73.c3 at h;dsimp only at h;split at h;exact⟨_,Q73.l3_eq .. ▸h⟩;cases h
theorem Q73.spec (N:Nat)(a:W7)(c:W2)(r:W6×W7×W2)(h:Q73.f N a c=some r):dA Tryz.prog 117 [.sw 0 1] [.po 2 1 a,.pool .zi c] (.il .i64 1 r.1) ([.po 2 1 r.2.1,.pool .zi r.2.2]):=qA (Q73.env N) bA Tryz.func117 (aA.of (l:=[(.loop (mA ((cA (bo Tryz.f117)).getD 0 .skip)))]) (by kernel_rfl) (aA.cons (Q73.k3 N) aA.nil)) ((Q73.f_eq ..).trans h) fun v b e=>by unfold Q73.dec at e;split at e<;>cases e;exact⟨rfl,rfl⟩
theorem Q73.ent_ok (N:Nat):pA Tryz.prog 117 (Q73.ent N):=by
 intro args bs a enc h;simp only[Q73.ent]at h;split at h
 ·rename_i hz;have h0:=hB h;have h1:=congrArg Prod.fst h0;have h2:=congrArg Prod.snd h0;dsimp only at h1 h2;subst h2;exact dA.of_asSl (fl:=[false]) (by rw[hz];exact Q73.spec N _ _ a h1)
 ·cases h
noncomputable def Q74.f (N:Nat)(a c:Int)(b:W5):Option (Bool×W6×W5):=
 bif (decide (0≤a))&&(decide (a<(b.length:Int)))then
  bif (decide (0≤c))&&(decide (c<((b.getD a.toNat []).length:Int)))then
   (Q28.f N ((b.getD a.toNat []).getD c.toNat 0)).bind fun d=>
   some (d.1,d.2,b)
  else none
 else none
noncomputable def Q74.E (N:Nat):aC:=mD [(2,iW),(22,eL),(39,nD),(43,nJ)] [(10,Q28.ent N)] [] [] N [.cell 5 39] [.recd [.any,.il .u32 1]] 1 14
noncomputable def Q74.dec (v:V)(bs:List oA):Option (Bool×W6×W5):=match v,bs with
 | .agg [.c (.bool a),.il .u32 1 b],[.vals [.inl .i64 1 c]]=>some (a,b,c)
 |_,_=>none
theorem Q74.f_eq (N:Nat)(a b:Int)(c:W5):
  uA (Q74.E N) (bo Tryz.f31) [.c (.int .i64 a),.c (.int .i64 b),.ptr 0 0 1] [.vals [.inl .i64 1 c]] Q74.dec=Q74.f N a b c:=by kernel_rfl
noncomputable def Q74.ent (N:Nat):rA:={A:=Bool×W6×W5,fresh:=0,imm:=[true,true,false],dec:=fun args bs=>match sC (jA bs) [false,false,false] args,bs with
 | [.c (.int .i64 a),.c (.int .i64 b),.ptr 0 0 1],[.vals [.inl .i64 1 c]]=>some (Q74.f N a b c,fun r=>.one (.agg [.c (.bool r.1),.il .u32 1 r.2.1]) [.vals [.inl .i64 1 r.2.2]])
 |_,_=>none}
theorem Q74.env (N:Nat):sA Tryz.prog (Q74.E N):=⟨(.cons sE (.cons yD (.cons bB (.cons cD .nil)))),(.cons (Q28.ent_ok N) .nil),fun h=>hA (show false=true from h)⟩
theorem Q74.spec (N:Nat)(a c:Int)(d:W5)(r:Bool×W6×W5)(h:Q74.f N a c d=some r):dA Tryz.prog 31 [.c (.int .i64 a),.c (.int .i64 c),.ptr 0 0 1] [.vals [.inl .i64 1 d]] (.agg [.c (.bool r.1),.il .u32 1 r.2.1]) ([.vals [.inl .i64 1 r.2.2]]):=qA (Q74.env N) bA Tryz.func31 aA.n ((Q74.f_eq ..).trans h) fun v b e=>by unfold Q74.dec at e;split at e<;>cases e;exact⟨rfl,rfl⟩
theorem Q74.ent_ok (N:Nat):pA Tryz.prog 31 (Q74.ent N):=by
 intro args bs a enc h;simp only[Q74.ent]at h;split at h
 ·rename_i hz;have h0:=hB h;have h1:=congrArg Prod.fst h0;have h2:=congrArg Prod.snd h0;dsimp only at h1 h2;subst h2;exact dA.of_asSl (fl:=[false,false,false]) (by rw[hz];exact Q74.spec N _ _ _ a h1)
 ·cases h
noncomputable def Q75.f (N:Nat)(b c:Int):Option (Bool×W6):=
 bif b==c then
  (Q28.f N 1).bind fun a=>
  some (a.1,a.2)
 else
 some (false,[])
noncomputable def Q75.E (N:Nat):aC:=mD [(4,oz),(26,kE),(39,nD)] [(10,Q28.ent N)] [] [] N [.cell 4 39] [.recd [.any,.il .u32 1]] 0 10
noncomputable def Q75.dec (v:V)(bs:List oA):Option (Bool×W6):=match v,bs with
 | .agg [.c (.bool a),.il .u32 1 b],[]=>some (a,b)
 |_,_=>none
theorem Q75.f_eq (N:Nat)(a b:Int):
  uA (Q75.E N) (bo Tryz.f104) [.c (.int .i64 a),.c (.int .i64 b)] [] Q75.dec=Q75.f N a b:=by kernel_rfl
noncomputable def Q75.ent (N:Nat):rA:=tF (Bool×W6) 0 [true,true] [.any,.any] fun
 | [.c (.int .i64 a),.c (.int .i64 b)]=>some (Q75.f N a b,fun r=>.one (.agg [.c (.bool r.1),.il .u32 1 r.2]) [])
 |_=>none
theorem Q75.env (N:Nat):sA Tryz.prog (Q75.E N):=⟨(.cons gI (.cons jB (.cons bB .nil))),(.cons (Q28.ent_ok N) .nil),fun h=>hA (show false=true from h)⟩
theorem Q75.spec (N:Nat)(a c:Int)(r:Bool×W6)(h:Q75.f N a c=some r):dA Tryz.prog 104 [.c (.int .i64 a),.c (.int .i64 c)] [] (.agg [.c (.bool r.1),.il .u32 1 r.2]) ([]):=qA (Q75.env N) bA Tryz.func104 aA.n ((Q75.f_eq ..).trans h) fun v b e=>by unfold Q75.dec at e;split at e<;>cases e;exact⟨rfl,rfl⟩
theorem Q75.ent_ok (N:Nat):pA Tryz.prog 104 (Q75.ent N):=xA fun v a e h=>by split at h;exact gC (Q:=fun e=>dA _ _ _ _ (e a).pick.1 (e a).pick.2) h fun k=>Q75.spec N _ _ a k;cases h
noncomputable def Q76.f (N:Nat)(a c:Int)(b:W7)(d:W2):Option (Bool×W6×W7×W2):=
 bif (decide (0≤a))&&(decide (a<(b.length:Int)))then
  bif (decide (0≤c))&&(decide (c<((d.getD (b.getD a.toNat 0) []).length:Int)))then
   some (((d.getD (b.getD a.toNat 0) []).getD c.toNat (false,([]:W6))).1,((d.getD (b.getD a.toNat 0) []).getD c.toNat (false,([]:W6))).2,b,d)
  else none
 else none
noncomputable def Q76.E (N:Nat):aC:=mD [(33,aK),(39,nD),(45,gJ)] [] [] [] N [.cell 5 39] [.recd [.any,.il .u32 1]] 3 13
noncomputable def Q76.dec (v:V)(bs:List oA):Option (Bool×W6×W7×W2):=match v,bs with
 | .agg [.c (.bool a),.il .u32 1 b],[.vals [.sw 1 1],.po 2 2 c,.pool .zi d]=>some (a,b,c,d)
 |_,_=>none
theorem Q76.f_eq (N:Nat)(a b:Int)(c:W7)(d:W2):
  uA (Q76.E N) (bo Tryz.f118) [.c (.int .i64 a),.c (.int .i64 b),.ptr 0 0 1] [.vals [.sw 1 1],.po 2 2 c,.pool .zi d] Q76.dec=Q76.f N a b c d:=by kernel_rfl
noncomputable def Q76.ent (N:Nat):rA:={A:=Bool×W6×W7×W2,fresh:=0,imm:=[true,true,false],dec:=fun args bs=>match sC (jA bs) [false,false,false] args,bs with
 | [.c (.int .i64 a),.c (.int .i64 b),.ptr 0 0 1],[.vals [.sw 1 1],.po 2 2 c,.pool .zi d]=>some (Q76.f N a b c d,fun r=>.one (.agg [.c (.bool r.1),.il .u32 1 r.2.1]) [.vals [.sw 1 1],.po 2 2 r.2.2.1,.pool .zi r.2.2.2])
 |_,_=>none}
theorem Q76.env (N:Nat):sA Tryz.prog (Q76.E N):=⟨(.cons kD (.cons bB (.cons zC .nil))),.nil,fun h=>hA (show false=true from h)⟩
theorem Q76.spec (N:Nat)(a c:Int)(d:W7)(f:W2)(r:Bool×W6×W7×W2)(h:Q76.f N a c d f=some r):dA Tryz.prog 118 [.c (.int .i64 a),.c (.int .i64 c),.ptr 0 0 1] [.vals [.sw 1 1],.po 2 2 d,.pool .zi f] (.agg [.c (.bool r.1),.il .u32 1 r.2.1]) ([.vals [.sw 1 1],.po 2 2 r.2.2.1,.pool .zi r.2.2.2]):=qA (Q76.env N) bA Tryz.func118 aA.n ((Q76.f_eq ..).trans h) fun v b e=>by unfold Q76.dec at e;split at e<;>cases e;exact⟨rfl,rfl⟩
theorem Q76.ent_ok (N:Nat):pA Tryz.prog 118 (Q76.ent N):=by
 intro args bs a enc h;simp only[Q76.ent]at h;split at h
 ·rename_i hz;have h0:=hB h;have h1:=congrArg Prod.fst h0;have h2:=congrArg Prod.snd h0;dsimp only at h1 h2;subst h2;exact dA.of_asSl (fl:=[false,false,false]) (by rw[hz];exact Q76.spec N _ _ _ _ a h1)
 ·cases h
noncomputable def Q77.f (N:Nat)(a:W7)(b:W2):Option (Int×Int×W7×W2):=
 bif (a.length:Int)==0 then
  some (0,0,a,b)
 else
 bif decide (0<(a.length:Int))then
  some ((a.length:Int),((b.getD (a.getD 0 0) []).length:Int),a,b)
 else none
noncomputable def Q77.E (N:Nat):aC:=mD [(33,aK),(45,gJ),(47,rN)] [] [] [] N [.tmp 2,.tmp 3] [.any,.any] 2 16
noncomputable def Q77.dec (v:V)(bs:List oA):Option (Int×Int×W7×W2):=match v,bs with
 | .tup [.c (.int .i64 a),.c (.int .i64 b)],[.po 2 1 c,.pool .zi d]=>some (a,b,c,d)
 |_,_=>none
theorem Q77.f_eq (N:Nat)(a:W7)(b:W2):
  uA (Q77.E N) (bo Tryz.f45) [.agg [.sw 0 1]] [.po 2 1 a,.pool .zi b] Q77.dec=Q77.f N a b:=by kernel_rfl
noncomputable def Q77.ent (N:Nat):rA:={A:=Int×Int×W7×W2,fresh:=0,imm:=[false],dec:=fun args bs=>match sC (jA bs) [false] args,bs with
 | [.agg [.sw 0 1]],[.po 2 1 a,.pool .zi b]=>some (Q77.f N a b,fun r=>.one (.tup [.c (.int .i64 r.1),.c (.int .i64 r.2.1)]) [.po 2 1 r.2.2.1,.pool .zi r.2.2.2])
 |_,_=>none}
theorem Q77.env (N:Nat):sA Tryz.prog (Q77.E N):=⟨(.cons kD (.cons zC (.cons xE .nil))),.nil,fun h=>hA (show false=true from h)⟩
theorem Q77.spec (N:Nat)(a:W7)(c:W2)(r:Int×Int×W7×W2)(h:Q77.f N a c=some r):dA Tryz.prog 45 [.agg [.sw 0 1]] [.po 2 1 a,.pool .zi c] (.tup [.c (.int .i64 r.1),.c (.int .i64 r.2.1)]) ([.po 2 1 r.2.2.1,.pool .zi r.2.2.2]):=qA (Q77.env N) bA Tryz.func45 aA.n ((Q77.f_eq ..).trans h) fun v b e=>by unfold Q77.dec at e;split at e<;>cases e;exact⟨rfl,rfl⟩
theorem Q77.ent_ok (N:Nat):pA Tryz.prog 45 (Q77.ent N):=by
 intro args bs a enc h;simp only[Q77.ent]at h;split at h
 ·rename_i hz;have h0:=hB h;have h1:=congrArg Prod.fst h0;have h2:=congrArg Prod.snd h0;dsimp only at h1 h2;subst h2;exact dA.of_asSl (fl:=[false]) (by rw[hz];exact Q77.spec N _ _ a h1)
 ·cases h
noncomputable def Q78.f (N:Nat)(b c:Int)(d:W7)(e:W2):Option (Bool×W6×W7×W2):=
 (Q77.f N d e).bind fun a=>
 bif decide (b<0)then
  some (false,[],a.2.2.1,a.2.2.2)
 else
 bif decide (b≥a.1)then
  some (false,[],a.2.2.1,a.2.2.2)
 else
 bif decide (c<0)then
  some (false,[],a.2.2.1,a.2.2.2)
 else
 bif decide (c≥a.2.1)then
  some (false,[],a.2.2.1,a.2.2.2)
 else
 bif (decide (0≤b))&&(decide (b<(a.2.2.1.length:Int)))then
  bif (decide (0≤c))&&(decide (c<((a.2.2.2.getD (a.2.2.1.getD b.toNat 0) []).length:Int)))then
   some (((a.2.2.2.getD (a.2.2.1.getD b.toNat 0) []).getD c.toNat (false,([]:W6))).1,((a.2.2.2.getD (a.2.2.1.getD b.toNat 0) []).getD c.toNat (false,([]:W6))).2,a.2.2.1,a.2.2.2)
  else none
 else none
noncomputable def Q78.E (N:Nat):aC:=mD [(4,oz),(26,kE),(33,aK),(39,nD),(45,gJ),(47,rN)] [(45,Q77.ent N)] [] [] N [.cell 6 39] [.recd [.any,.il .u32 1]] 2 39
noncomputable def Q78.dec (v:V)(bs:List oA):Option (Bool×W6×W7×W2):=match v,bs with
 | .agg [.c (.bool a),.il .u32 1 b],[.po 2 1 c,.pool .zi d]=>some (a,b,c,d)
 |_,_=>none
theorem Q78.f_eq (N:Nat)(a b:Int)(c:W7)(d:W2):
  uA (Q78.E N) (bo Tryz.f47) [.agg [.sw 0 1],.c (.int .i64 a),.c (.int .i64 b)] [.po 2 1 c,.pool .zi d] Q78.dec=Q78.f N a b c d:=by kernel_rfl
noncomputable def Q78.ent (N:Nat):rA:={A:=Bool×W6×W7×W2,fresh:=0,imm:=[false,true,true],dec:=fun args bs=>match sC (jA bs) [false,false,false] args,bs with
 | [.agg [.sw 0 1],.c (.int .i64 a),.c (.int .i64 b)],[.po 2 1 c,.pool .zi d]=>some (Q78.f N a b c d,fun r=>.one (.agg [.c (.bool r.1),.il .u32 1 r.2.1]) [.po 2 1 r.2.2.1,.pool .zi r.2.2.2])
 |_,_=>none}
theorem Q78.env (N:Nat):sA Tryz.prog (Q78.E N):=⟨(.cons gI (.cons jB (.cons kD (.cons bB (.cons zC (.cons xE .nil)))))),(.cons (Q77.ent_ok N) .nil),fun h=>hA (show false=true from h)⟩
theorem Q78.spec (N:Nat)(a c:Int)(d:W7)(f:W2)(r:Bool×W6×W7×W2)(h:Q78.f N a c d f=some r):dA Tryz.prog 47 [.agg [.sw 0 1],.c (.int .i64 a),.c (.int .i64 c)] [.po 2 1 d,.pool .zi f] (.agg [.c (.bool r.1),.il .u32 1 r.2.1]) ([.po 2 1 r.2.2.1,.pool .zi r.2.2.2]):=qA (Q78.env N) bA Tryz.func47 aA.n ((Q78.f_eq ..).trans h) fun v b e=>by unfold Q78.dec at e;split at e<;>cases e;exact⟨rfl,rfl⟩
theorem Q78.ent_ok (N:Nat):pA Tryz.prog 47 (Q78.ent N):=by
 intro args bs a enc h;simp only[Q78.ent]at h;split at h
 ·rename_i hz;have h0:=hB h;have h1:=congrArg Prod.fst h0;have h2:=congrArg Prod.snd h0;dsimp only at h1 h2;subst h2;exact dA.of_asSl (fl:=[false,false,false]) (by rw[hz];exact Q78.spec N _ _ _ _ a h1)
 ·cases h
noncomputable def Q79.l7 {R:Type}(N:Nat):Nat→Int→Int→Int→Int→Int→Int→W5→W2→W7→W3→(Int→Int→Int→W5→W2→W7→W3→Option R)→Option R
 |0,_,_,_,_,_,_,_,_,_,_,_=>none
 |n+1,d,e,f,g,h,a,i,j,k,c,l=>
  bif decide (a<h)then
   (Q74.f N e a i).bind fun b=>
   bif (decide (0≤a))&&(decide (a<(c.length:Int)))then
    Q79.l7 N n d e f g h (fA (a+1)) b.2.2 j k (c.set a.toNat (b.1,b.2.1)) l
   else none
  else
  l d f g i j k c
noncomputable def Q79.l3 {R:Type}(N:Nat):Nat→Int→Int→Int→W5→W2→W7→(W5→W2→W7→Option R)→Option R
 |0,_,_,_,_,_,_,_=>none
 |n+1,a,k,d,l,m,o,j=>
  bif decide (d<k)then
   bif dG a a&&decide (0≤a)&&decide (a≤9223372036854775807)&&lB a.toNat 32 then
    Q79.l7 N N a d k d ((hC a.toNat (false,([]:W6))).length:Int) 0 l m o (hC a.toNat (false,([]:W6)))
     (fun e f g h b c i=>
      bif lB (c.length+1) 24 then
       Q79.l3 N n e f (fA (g+1)) h (b++[i]) (c++[b.length]) j
      else none)
   else none
  else
  j l m o
noncomputable def Q79.f (N:Nat)(d e:Int)(f:W5):Option (W2×W7×W5):=
 Q79.l3 N N e d 0 f [] []
  (fun a b c=>
   some (b,c,a))
noncomputable def Q79.h3:uB:=⟨[(1,.any),(2,.any),(6,.box [.any]),(7,.mrow .zi),(11,.any),(12,.any)],[(6,.box [.any]),(7,.mrow .zi)]⟩
noncomputable def Q79.h7:uB:=⟨[(1,.any),(2,.any),(6,.box [.any]),(7,.mrow .zi),(8,.any),(9,.any),(11,.any),(12,.any),(18,.any),(19,.any)],[(1,.any),(2,.any),(6,.box [.any]),(7,.mrow .zi),(9,.any),(11,.any),(12,.any)]⟩
noncomputable def Q79.c7 (N:Nat):mF:=⟨fun vs H k=>match vs,H with
 | [.c (.int .i64 a),.fn 31 [] [.ptr 0 0 1],.ptr 1 0 1,.sw 3 1,.c (.int .i64 b),.sw 4 2,.c (.int .i64 c),.c (.int .i64 d),.c (.int .i64 e),.c (.int .i64 f)],[.vals [.inl .i64 1 g],.vals [.c (.slice none 0 0)],.pool .zi h,.po 2 2 i,.tw .zi j]=>Q79.l7 N N a b c d e f g h i j (fun l m o p q r s=>k (.exit 2) ⟨tB Q79.h7.out [.c (.int .i64 l),.fn 31 [] [.ptr 0 0 1],.ptr 1 0 1,.sw 3 1,.sw 4 2,.c (.int .i64 m),.c (.int .i64 o)],[.vals [.inl .i64 1 p],.vals [.c (.slice none 0 0)],.pool .zi q,.po 2 2 r,.tw .zi s]⟩)
 |_,_=>none⟩
noncomputable def Q79.c3 (N:Nat):mF:=⟨fun vs H k=>match vs,H with
 | [.c (.int .i64 d),.fn 31 [] [.ptr 0 0 1],.ptr 1 0 1,.sw 3 1,.c (.int .i64 e),.c (.int .i64 f)],[.vals [.inl .i64 1 g],.vals [.c (.slice none 0 0)],.pool .zi h,.po 2 2 i]=>Q79.l3 N N d e f g h i (fun a b c=>k (.exit 0) ⟨tB Q79.h3.out [.ptr 1 0 1,.sw 3 1],[.vals [.inl .i64 1 a],.vals [.c (.slice none 0 0)],.pool .zi b,.po 2 2 c]⟩)
 |_,_=>none⟩
noncomputable def Q79.E (N:Nat):aC:=mD [(33,aK),(39,nD),(45,gJ),(47,rN)] [(31,Q74.ent N)] [(3,Q79.h3),(7,Q79.h7)] [(7,Q79.c7 N),(3,Q79.c3 N)] N [.cell 6 47] [.recd [.mrow .zi]] 1 37 true
noncomputable def Q79.b7:Code:=mA ((cA (bo Tryz.f30)).getD 1 .skip)
theorem Q79.l7_eq {R:Type}(N n:Nat)(a b c d e f:Int)(g:W5)(h:W2)(i:W7)(j:W3)(k:Ex→St→Option R):
  vA 1 Q79.h7 (fun s k=>tA (Q79.E N) 384 Q79.b7 s k) n [.c (.int .i64 a),.fn 31 [] [.ptr 0 0 1],.ptr 1 0 1,.sw 3 1,.c (.int .i64 b),.sw 4 2,.c (.int .i64 c),.c (.int .i64 d),.c (.int .i64 e),.c (.int .i64 f)] [.vals [.inl .i64 1 g],.vals [.c (.slice none 0 0)],.pool .zi h,.po 2 2 i,.tw .zi j] k=Q79.l7 N n a b c d e f g h i j (fun l m o p q r t=>k (.exit 2) ⟨tB Q79.h7.out [.c (.int .i64 l),.fn 31 [] [.ptr 0 0 1],.ptr 1 0 1,.sw 3 1,.sw 4 2,.c (.int .i64 m),.c (.int .i64 o)],[.vals [.inl .i64 1 p],.vals [.c (.slice none 0 0)],.pool .zi q,.po 2 2 r,.tw .zi t]⟩):=by
 induction n generalizing a b c d e f g h i j with
 |zero=>kernel_rfl
 |succ n ih=>
  simp only[Q79.l7,←ih]
  kernel_rfl
noncomputable def Q79.b3:Code:=mA ((cA (bo Tryz.f30)).getD 0 .skip)
theorem Q79.l3_eq {R:Type}(N n:Nat)(d e f:Int)(g:W5)(h:W2)(i:W7)(k:Ex→St→Option R):
  vA 1 Q79.h3 (fun s k=>tA (Q79.E N) 394 Q79.b3 s k) n [.c (.int .i64 d),.fn 31 [] [.ptr 0 0 1],.ptr 1 0 1,.sw 3 1,.c (.int .i64 e),.c (.int .i64 f)] [.vals [.inl .i64 1 g],.vals [.c (.slice none 0 0)],.pool .zi h,.po 2 2 i] k=Q79.l3 N n d e f g h i (fun a b c=>k (.exit 0) ⟨tB Q79.h3.out [.ptr 1 0 1,.sw 3 1],[.vals [.inl .i64 1 a],.vals [.c (.slice none 0 0)],.pool .zi b,.po 2 2 c]⟩):=by
 induction n generalizing d e f g h i with
 |zero=>kernel_rfl
 |succ n ih=>
  simp only[Q79.l3,←ih]
  kernel_rfl
noncomputable def Q79.dec (v:V)(bs:List oA):Option (W2×W7×W5):=match v,bs with
 | .agg [.sw 2 1],[.vals [.inl .i64 1 c],.pool .zi a,.po 2 1 b]=>some (a,b,c)
 |_,_=>none
theorem Q79.f_eq (N:Nat)(a b:Int)(c:W5):
  uA (Q79.E N) (bo Tryz.f30) [.c (.int .i64 a),.c (.int .i64 b),.fn 31 [] [.ptr 0 0 1]] [.vals [.inl .i64 1 c]] Q79.dec=Q79.f N a b c:=by kernel_rfl
noncomputable def Q79.ent (N:Nat):rA:={A:=W2×W7×W5,fresh:=2,imm:=[true,true,false],dec:=fun args bs=>match sC (jA bs) [false,false,false] args,bs with
 | [.c (.int .i64 a),.c (.int .i64 b),.fn 31 [] [.ptr 0 0 1]],[.vals [.inl .i64 1 c]]=>some (Q79.f N a b c,fun r=>.one (.agg [.sw 2 1]) [.vals [.inl .i64 1 r.2.2],.pool .zi r.1,.po 2 1 r.2.1])
 |_,_=>none}
theorem Q79.env (N:Nat):sA Tryz.prog (Q79.E N):=⟨(.cons kD (.cons bB (.cons zC (.cons xE .nil)))),(.cons (Q74.ent_ok N) .nil),fun h=>hA (show false=true from h)⟩
theorem Q79.k7 (N:Nat):eB Tryz.prog Tryz.f30 (Q79.E N) (.loop Q79.b7):=xB (Q79.env N) bA 384 (c:=Q79.c7 N) aA.n fun R vs H k r h=>by unfold Q79.c7 at h;dsimp only at h;split at h;exact⟨_,Q79.l7_eq .. ▸h⟩;cases h
theorem Q79.k3 (N:Nat):eB Tryz.prog Tryz.f30 (Q79.E N) (.loop Q79.b3):=xB (Q79.env N) bA 394 (c:=Q79.c3 N) (aA.of (l:=[(.loop (mA ((cA (bo Tryz.f30)).getD 1 .skip)))]) (by kernel_rfl) (aA.cons (Q79.k7 N) aA.nil)) fun R vs H k r h=>by unfold Q79.c3 at h;dsimp only at h;split at h;exact⟨_,Q79.l3_eq .. ▸h⟩;cases h
theorem Q79.spec (N:Nat)(a c:Int)(d:W5)(r:W2×W7×W5)(h:Q79.f N a c d=some r):dA Tryz.prog 30 [.c (.int .i64 a),.c (.int .i64 c),.fn 31 [] [.ptr 0 0 1]] [.vals [.inl .i64 1 d]] (.agg [.sw 2 1]) ([.vals [.inl .i64 1 r.2.2],.pool .zi r.1,.po 2 1 r.2.1]):=qA (Q79.env N) bA Tryz.func30 (aA.of (l:=[(.loop (mA ((cA (bo Tryz.f30)).getD 0 .skip))),(.loop (mA ((cA (bo Tryz.f30)).getD 1 .skip)))]) (by kernel_rfl) (aA.cons (Q79.k3 N) (aA.cons (Q79.k7 N) aA.nil))) ((Q79.f_eq ..).trans h) fun v b e=>by unfold Q79.dec at e;split at e<;>cases e;exact⟨rfl,rfl⟩
theorem Q79.ent_ok (N:Nat):pA Tryz.prog 30 (Q79.ent N):=by
 intro args bs a enc h;simp only[Q79.ent]at h;split at h
 ·rename_i hz;have h0:=hB h;have h1:=congrArg Prod.fst h0;have h2:=congrArg Prod.snd h0;dsimp only at h1 h2;subst h2;exact dA.of_asSl (fl:=[false,false,false]) (by rw[hz];exact Q79.spec N _ _ _ a h1)
 ·cases h
noncomputable def Q80.l7 {R:Type}(N:Nat):Nat→Int→Int→Int→Int→Int→Int→W2→W7→W3→(Int→Int→Int→W2→W7→W3→Option R)→Option R
 |0,_,_,_,_,_,_,_,_,_,_=>none
 |n+1,j,k,d,e,f,a,g,h,b,i=>
  bif decide (a<f)then
   (Q75.f N k a).bind fun c=>
   bif (decide (0≤a))&&(decide (a<(b.length:Int)))then
    Q80.l7 N n j k d e f (fA (a+1)) g h (b.set a.toNat (c.1,c.2)) i
   else none
  else
  i j d e g h b
noncomputable def Q80.l3 {R:Type}(N:Nat):Nat→Int→Int→Int→W2→W7→(W2→W7→Option R)→Option R
 |0,_,_,_,_,_,_=>none
 |n+1,a,j,d,k,l,i=>
  bif decide (d<j)then
   bif dG a a&&decide (0≤a)&&decide (a≤9223372036854775807)&&lB a.toNat 32 then
    Q80.l7 N N a d j d ((hC a.toNat (false,([]:W6))).length:Int) 0 k l (hC a.toNat (false,([]:W6)))
     (fun e f g b c h=>
      bif lB (c.length+1) 24 then
       Q80.l3 N n e f (fA (g+1)) (b++[h]) (c++[b.length]) i
      else none)
   else none
  else
  i k l
noncomputable def Q80.f (N:Nat)(c d:Int):Option (W2×W7):=
 Q80.l3 N N d c 0 [] []
  (fun a b=>
   some (a,b))
noncomputable def Q80.h3:uB:=⟨[(1,.any),(2,.any),(6,.box [.any]),(7,.mrow .zi),(11,.any),(12,.any)],[(6,.box [.any]),(7,.mrow .zi)]⟩
noncomputable def Q80.h7:uB:=⟨[(1,.any),(2,.any),(6,.box [.any]),(7,.mrow .zi),(8,.any),(9,.any),(11,.any),(12,.any),(18,.any),(19,.any)],[(1,.any),(2,.any),(6,.box [.any]),(7,.mrow .zi),(9,.any),(11,.any),(12,.any)]⟩
noncomputable def Q80.c7 (N:Nat):mF:=⟨fun vs H k=>match vs,H with
 | [.c (.int .i64 p),.fn 104 [] [],.ptr 0 0 1,.sw 2 1,.c (.int .i64 q),.sw 3 2,.c (.int .i64 a),.c (.int .i64 b),.c (.int .i64 c),.c (.int .i64 d)],[.vals [.c (.slice none 0 0)],.pool .zi e,.po 2 1 f,.tw .zi g]=>Q80.l7 N N p q a b c d e f g (fun h i j l m o=>k (.exit 2) ⟨tB Q80.h7.out [.c (.int .i64 h),.fn 104 [] [],.ptr 0 0 1,.sw 2 1,.sw 3 2,.c (.int .i64 i),.c (.int .i64 j)],[.vals [.c (.slice none 0 0)],.pool .zi l,.po 2 1 m,.tw .zi o]⟩)
 |_,_=>none⟩
noncomputable def Q80.c3 (N:Nat):mF:=⟨fun vs H k=>match vs,H with
 | [.c (.int .i64 c),.fn 104 [] [],.ptr 0 0 1,.sw 2 1,.c (.int .i64 d),.c (.int .i64 e)],[.vals [.c (.slice none 0 0)],.pool .zi f,.po 2 1 g]=>Q80.l3 N N c d e f g (fun a b=>k (.exit 0) ⟨tB Q80.h3.out [.ptr 0 0 1,.sw 2 1],[.vals [.c (.slice none 0 0)],.pool .zi a,.po 2 1 b]⟩)
 |_,_=>none⟩
noncomputable def Q80.E (N:Nat):aC:=mD [(33,aK),(39,nD),(45,gJ),(47,rN)] [(104,Q75.ent N)] [(3,Q80.h3),(7,Q80.h7)] [(7,Q80.c7 N),(3,Q80.c3 N)] N [.cell 6 47] [.recd [.mrow .zi]] 0 37 true
noncomputable def Q80.b7:Code:=mA ((cA (bo Tryz.f30)).getD 1 .skip)
theorem Q80.l7_eq {R:Type}(N n:Nat)(p q a b c d:Int)(e:W2)(f:W7)(g:W3)(k:Ex→St→Option R):
  vA 0 Q80.h7 (fun s k=>tA (Q80.E N) 384 Q80.b7 s k) n [.c (.int .i64 p),.fn 104 [] [],.ptr 0 0 1,.sw 2 1,.c (.int .i64 q),.sw 3 2,.c (.int .i64 a),.c (.int .i64 b),.c (.int .i64 c),.c (.int .i64 d)] [.vals [.c (.slice none 0 0)],.pool .zi e,.po 2 1 f,.tw .zi g] k=Q80.l7 N n p q a b c d e f g (fun h i j l m o=>k (.exit 2) ⟨tB Q80.h7.out [.c (.int .i64 h),.fn 104 [] [],.ptr 0 0 1,.sw 2 1,.sw 3 2,.c (.int .i64 i),.c (.int .i64 j)],[.vals [.c (.slice none 0 0)],.pool .zi l,.po 2 1 m,.tw .zi o]⟩):=by
 induction n generalizing p q a b c d e f g with
 |zero=>kernel_rfl
 |succ n ih=>
  simp only[Q80.l7,←ih]
  kernel_rfl
noncomputable def Q80.b3:Code:=mA ((cA (bo Tryz.f30)).getD 0 .skip)
theorem Q80.l3_eq {R:Type}(N n:Nat)(a d e:Int)(f:W2)(g:W7)(k:Ex→St→Option R):
  vA 0 Q80.h3 (fun s k=>tA (Q80.E N) 394 Q80.b3 s k) n [.c (.int .i64 a),.fn 104 [] [],.ptr 0 0 1,.sw 2 1,.c (.int .i64 d),.c (.int .i64 e)] [.vals [.c (.slice none 0 0)],.pool .zi f,.po 2 1 g] k=Q80.l3 N n a d e f g (fun b c=>k (.exit 0) ⟨tB Q80.h3.out [.ptr 0 0 1,.sw 2 1],[.vals [.c (.slice none 0 0)],.pool .zi b,.po 2 1 c]⟩):=by
 induction n generalizing a d e f g with
 |zero=>kernel_rfl
 |succ n ih=>
  simp only[Q80.l3,←ih]
  kernel_rfl
noncomputable def Q80.dec (v:V)(bs:List oA):Option (W2×W7):=match v,bs with
 | .agg [.sw 1 1],[.pool .zi a,.po 2 0 b]=>some (a,b)
 |_,_=>none
theorem Q80.f_eq (N:Nat)(a b:Int):
  uA (Q80.E N) (bo Tryz.f30) [.c (.int .i64 a),.c (.int .i64 b),.fn 104 [] []] [] Q80.dec=Q80.f N a b:=by kernel_rfl
noncomputable def Q80.ent (N:Nat):rA:={A:=W2×W7,fresh:=2,imm:=[true,true,false],dec:=fun args bs=>match sC (jA bs) [false,false,false] args,bs with
 | [.c (.int .i64 a),.c (.int .i64 b),.fn 104 [] []],[]=>some (Q80.f N a b,fun r=>.one (.agg [.sw 1 1]) [.pool .zi r.1,.po 2 0 r.2])
 |_,_=>none}
theorem Q80.env (N:Nat):sA Tryz.prog (Q80.E N):=⟨(.cons kD (.cons bB (.cons zC (.cons xE .nil)))),(.cons (Q75.ent_ok N) .nil),fun h=>hA (show false=true from h)⟩
theorem Q80.k7 (N:Nat):eB Tryz.prog Tryz.f30 (Q80.E N) (.loop Q80.b7):=xB (Q80.env N) bA 384 (c:=Q80.c7 N) aA.n fun R vs H k r h=>by unfold Q80.c7 at h;dsimp only at h;split at h;exact⟨_,Q80.l7_eq .. ▸h⟩;cases h
theorem Q80.k3 (N:Nat):eB Tryz.prog Tryz.f30 (Q80.E N) (.loop Q80.b3):=xB (Q80.env N) bA 394 (c:=Q80.c3 N) (aA.of (l:=[(.loop (mA ((cA (bo Tryz.f30)).getD 1 .skip)))]) (by kernel_rfl) (aA.cons (Q80.k7 N) aA.nil)) fun R vs H k r h=>by unfold Q80.c3 at h;dsimp only at h;split at h;exact⟨_,Q80.l3_eq .. ▸h⟩;cases h
theorem Q80.spec (N:Nat)(a c:Int)(r:W2×W7)(h:Q80.f N a c=some r):dA Tryz.prog 30 [.c (.int .i64 a),.c (.int .i64 c),.fn 104 [] []] [] (.agg [.sw 1 1]) ([.pool .zi r.1,.po 2 0 r.2]):=qA (Q80.env N) bA Tryz.func30 (aA.of (l:=[(.loop (mA ((cA (bo Tryz.f30)).getD 0 .skip))),(.loop (mA ((cA (bo Tryz.f30)).getD 1 .skip)))]) (by kernel_rfl) (aA.cons (Q80.k3 N) (aA.cons (Q80.k7 N) aA.nil))) ((Q80.f_eq ..).trans h) fun v b e=>by unfold Q80.dec at e;split at e<;>cases e;exact⟨rfl,rfl⟩
theorem Q80.ent_ok (N:Nat):pA Tryz.prog 30 (Q80.ent N):=by
 intro args bs a enc h;simp only[Q80.ent]at h;split at h
 ·rename_i hz;have h0:=hB h;have h1:=congrArg Prod.fst h0;have h2:=congrArg Prod.snd h0;dsimp only at h1 h2;subst h2;exact dA.of_asSl (fl:=[false,false,false]) (by rw[hz];exact Q80.spec N _ _ a h1)
 ·cases h
noncomputable def Q81.l7 {R:Type}(N:Nat):Nat→Int→Int→Int→Int→Int→Int→W7→W2→W2→W7→W3→(Int→Int→Int→W7→W2→W2→W7→W3→Option R)→Option R
 |0,_,_,_,_,_,_,_,_,_,_,_,_=>none
 |n+1,d,e,f,g,h,a,i,j,k,l,c,m=>
  bif decide (a<h)then
   (Q76.f N e a i j).bind fun b=>
   bif (decide (0≤a))&&(decide (a<(c.length:Int)))then
    Q81.l7 N n d e f g h (fA (a+1)) b.2.2.1 b.2.2.2 k l (c.set a.toNat (b.1,b.2.1)) m
   else none
  else
  m d f g i j k l c
noncomputable def Q81.l3 {R:Type}(N:Nat):Nat→Int→Int→Int→W7→W2→W2→W7→(W7→W2→W2→W7→Option R)→Option R
 |0,_,_,_,_,_,_,_,_=>none
 |n+1,a,o,f,p,q,b,c,m=>
  bif decide (f<o)then
   bif dG a a&&decide (0≤a)&&decide (a≤9223372036854775807)&&lB a.toNat 32 then
    Q81.l7 N N a f o f ((hC a.toNat (false,([]:W6))).length:Int) 0 p q b c (hC a.toNat (false,([]:W6)))
     (fun g h i j k d e l=>
      bif lB (e.length+1) 24 then
       Q81.l3 N n g h (fA (i+1)) j k (d++[l]) (e++[d.length]) m
      else none)
   else none
  else
  m p q b c
noncomputable def Q81.f (N:Nat)(e f:Int)(g:W7)(h:W2):Option (W2×W7×W7×W2):=
 Q81.l3 N N f e 0 g h [] []
  (fun a b c d=>
   some (c,d,a,b))
noncomputable def Q81.h3:uB:=⟨[(1,.any),(2,.any),(6,.box [.any]),(7,.mrow .zi),(11,.any),(12,.any)],[(6,.box [.any]),(7,.mrow .zi)]⟩
noncomputable def Q81.h7:uB:=⟨[(1,.any),(2,.any),(6,.box [.any]),(7,.mrow .zi),(8,.any),(9,.any),(11,.any),(12,.any),(18,.any),(19,.any)],[(1,.any),(2,.any),(6,.box [.any]),(7,.mrow .zi),(9,.any),(11,.any),(12,.any)]⟩
noncomputable def Q81.c7 (N:Nat):mF:=⟨fun vs H k=>match vs,H with
 | [.c (.int .i64 a),.fn 118 [] [.ptr 0 0 1],.ptr 3 0 1,.sw 5 1,.c (.int .i64 b),.sw 6 2,.c (.int .i64 c),.c (.int .i64 d),.c (.int .i64 e),.c (.int .i64 f)],[.vals [.sw 1 1],.po 2 2 g,.pool .zi h,.vals [.c (.slice none 0 0)],.pool .zi i,.po 2 4 j,.tw .zi l]=>Q81.l7 N N a b c d e f g h i j l (fun m o p q r s t u=>k (.exit 2) ⟨tB Q81.h7.out [.c (.int .i64 m),.fn 118 [] [.ptr 0 0 1],.ptr 3 0 1,.sw 5 1,.sw 6 2,.c (.int .i64 o),.c (.int .i64 p)],[.vals [.sw 1 1],.po 2 2 q,.pool .zi r,.vals [.c (.slice none 0 0)],.pool .zi s,.po 2 4 t,.tw .zi u]⟩)
 |_,_=>none⟩
noncomputable def Q81.c3 (N:Nat):mF:=⟨fun vs H k=>match vs,H with
 | [.c (.int .i64 g),.fn 118 [] [.ptr 0 0 1],.ptr 3 0 1,.sw 5 1,.c (.int .i64 h),.c (.int .i64 i)],[.vals [.sw 1 1],.po 2 2 j,.pool .zi l,.vals [.c (.slice none 0 0)],.pool .zi a,.po 2 4 b]=>Q81.l3 N N g h i j l a b (fun c d e f=>k (.exit 0) ⟨tB Q81.h3.out [.ptr 3 0 1,.sw 5 1],[.vals [.sw 1 1],.po 2 2 c,.pool .zi d,.vals [.c (.slice none 0 0)],.pool .zi e,.po 2 4 f]⟩)
 |_,_=>none⟩
noncomputable def Q81.E (N:Nat):aC:=mD [(33,aK),(39,nD),(45,gJ),(47,rN)] [(118,Q76.ent N)] [(3,Q81.h3),(7,Q81.h7)] [(7,Q81.c7 N),(3,Q81.c3 N)] N [.cell 6 47] [.recd [.mrow .zi]] 3 37 true
noncomputable def Q81.b7:Code:=mA ((cA (bo Tryz.f30)).getD 1 .skip)
theorem Q81.l7_eq {R:Type}(N n:Nat)(a b c d e f:Int)(g:W7)(h:W2)(i:W2)(j:W7)(l:W3)(k:Ex→St→Option R):
  vA 3 Q81.h7 (fun s k=>tA (Q81.E N) 384 Q81.b7 s k) n [.c (.int .i64 a),.fn 118 [] [.ptr 0 0 1],.ptr 3 0 1,.sw 5 1,.c (.int .i64 b),.sw 6 2,.c (.int .i64 c),.c (.int .i64 d),.c (.int .i64 e),.c (.int .i64 f)] [.vals [.sw 1 1],.po 2 2 g,.pool .zi h,.vals [.c (.slice none 0 0)],.pool .zi i,.po 2 4 j,.tw .zi l] k=Q81.l7 N n a b c d e f g h i j l (fun m o p q r t u v=>k (.exit 2) ⟨tB Q81.h7.out [.c (.int .i64 m),.fn 118 [] [.ptr 0 0 1],.ptr 3 0 1,.sw 5 1,.sw 6 2,.c (.int .i64 o),.c (.int .i64 p)],[.vals [.sw 1 1],.po 2 2 q,.pool .zi r,.vals [.c (.slice none 0 0)],.pool .zi t,.po 2 4 u,.tw .zi v]⟩):=by
 induction n generalizing a b c d e f g h i j l with
 |zero=>kernel_rfl
 |succ n ih=>
  simp only[Q81.l7,←ih]
  kernel_rfl
noncomputable def Q81.b3:Code:=mA ((cA (bo Tryz.f30)).getD 0 .skip)
theorem Q81.l3_eq {R:Type}(N n:Nat)(g h i:Int)(j:W7)(l:W2)(a:W2)(b:W7)(k:Ex→St→Option R):
  vA 3 Q81.h3 (fun s k=>tA (Q81.E N) 394 Q81.b3 s k) n [.c (.int .i64 g),.fn 118 [] [.ptr 0 0 1],.ptr 3 0 1,.sw 5 1,.c (.int .i64 h),.c (.int .i64 i)] [.vals [.sw 1 1],.po 2 2 j,.pool .zi l,.vals [.c (.slice none 0 0)],.pool .zi a,.po 2 4 b] k=Q81.l3 N n g h i j l a b (fun c d e f=>k (.exit 0) ⟨tB Q81.h3.out [.ptr 3 0 1,.sw 5 1],[.vals [.sw 1 1],.po 2 2 c,.pool .zi d,.vals [.c (.slice none 0 0)],.pool .zi e,.po 2 4 f]⟩):=by
 induction n generalizing g h i j l a b with
 |zero=>kernel_rfl
 |succ n ih=>
  simp only[Q81.l3,←ih]
  kernel_rfl
noncomputable def Q81.dec (v:V)(bs:List oA):Option (W2×W7×W7×W2):=match v,bs with
 | .agg [.sw 4 1],[.vals [.sw 1 1],.po 2 2 c,.pool .zi d,.pool .zi a,.po 2 3 b]=>some (a,b,c,d)
 |_,_=>none
theorem Q81.f_eq (N:Nat)(a b:Int)(c:W7)(d:W2):
  uA (Q81.E N) (bo Tryz.f30) [.c (.int .i64 a),.c (.int .i64 b),.fn 118 [] [.ptr 0 0 1]] [.vals [.sw 1 1],.po 2 2 c,.pool .zi d] Q81.dec=Q81.f N a b c d:=by kernel_rfl
noncomputable def Q81.ent (N:Nat):rA:={A:=W2×W7×W7×W2,fresh:=2,imm:=[true,true,false],dec:=fun args bs=>match sC (jA bs) [false,false,false] args,bs with
 | [.c (.int .i64 a),.c (.int .i64 b),.fn 118 [] [.ptr 0 0 1]],[.vals [.sw 1 1],.po 2 2 c,.pool .zi d]=>some (Q81.f N a b c d,fun r=>.one (.agg [.sw 4 1]) [.vals [.sw 1 1],.po 2 2 r.2.2.1,.pool .zi r.2.2.2,.pool .zi r.1,.po 2 3 r.2.1])
 |_,_=>none}
theorem Q81.env (N:Nat):sA Tryz.prog (Q81.E N):=⟨(.cons kD (.cons bB (.cons zC (.cons xE .nil)))),(.cons (Q76.ent_ok N) .nil),fun h=>hA (show false=true from h)⟩
theorem Q81.k7 (N:Nat):eB Tryz.prog Tryz.f30 (Q81.E N) (.loop Q81.b7):=xB (Q81.env N) bA 384 (c:=Q81.c7 N) aA.n fun R vs H k r h=>by unfold Q81.c7 at h;dsimp only at h;split at h;exact⟨_,Q81.l7_eq .. ▸h⟩;cases h
theorem Q81.k3 (N:Nat):eB Tryz.prog Tryz.f30 (Q81.E N) (.loop Q81.b3):=xB (Q81.env N) bA 394 (c:=Q81.c3 N) (aA.of (l:=[(.loop (mA ((cA (bo Tryz.f30)).getD 1 .skip)))]) (by kernel_rfl) (aA.cons (Q81.k7 N) aA.nil)) fun R vs H k r h=>by unfold Q81.c3 at h;dsimp only at h;split at h;exact⟨_,Q81.l3_eq .. ▸h⟩;cases h
theorem Q81.spec (N:Nat)(a c:Int)(d:W7)(f:W2)(r:W2×W7×W7×W2)(h:Q81.f N a c d f=some r):dA Tryz.prog 30 [.c (.int .i64 a),.c (.int .i64 c),.fn 118 [] [.ptr 0 0 1]] [.vals [.sw 1 1],.po 2 2 d,.pool .zi f] (.agg [.sw 4 1]) ([.vals [.sw 1 1],.po 2 2 r.2.2.1,.pool .zi r.2.2.2,.pool .zi r.1,.po 2 3 r.2.1]):=qA (Q81.env N) bA Tryz.func30 (aA.of (l:=[(.loop (mA ((cA (bo Tryz.f30)).getD 0 .skip))),(.loop (mA ((cA (bo Tryz.f30)).getD 1 .skip)))]) (by kernel_rfl) (aA.cons (Q81.k3 N) (aA.cons (Q81.k7 N) aA.nil))) ((Q81.f_eq ..).trans h) fun v b e=>by unfold Q81.dec at e;split at e<;>cases e;exact⟨rfl,rfl⟩
theorem Q81.ent_ok (N:Nat):pA Tryz.prog 30 (Q81.ent N):=by
 intro args bs a enc h;simp only[Q81.ent]at h;split at h
 ·rename_i hz;have h0:=hB h;have h1:=congrArg Prod.fst h0;have h2:=congrArg Prod.snd h0;dsimp only at h1 h2;subst h2;exact dA.of_asSl (fl:=[false,false,false]) (by rw[hz];exact Q81.spec N _ _ _ _ a h1)
 ·cases h
noncomputable def Q82.l7 {R:Type}(N:Nat):Nat→Int→Int→Int→Int→Int→Int→W7→W2→W2→W7→W3→(Int→Int→Int→W7→W2→W2→W7→W3→Option R)→Option R
 |0,_,_,_,_,_,_,_,_,_,_,_,_=>none
 |n+1,d,e,f,g,h,a,i,j,k,l,c,m=>
  bif decide (a<h)then
   (Q78.f N e a i j).bind fun b=>
   bif (decide (0≤a))&&(decide (a<(c.length:Int)))then
    Q82.l7 N n d e f g h (fA (a+1)) b.2.2.1 b.2.2.2 k l (c.set a.toNat (b.1,b.2.1)) m
   else none
  else
  m d f g i j k l c
noncomputable def Q82.l3 {R:Type}(N:Nat):Nat→Int→Int→Int→W7→W2→W2→W7→(W7→W2→W2→W7→Option R)→Option R
 |0,_,_,_,_,_,_,_,_=>none
 |n+1,a,o,f,p,q,b,c,m=>
  bif decide (f<o)then
   bif dG a a&&decide (0≤a)&&decide (a≤9223372036854775807)&&lB a.toNat 32 then
    Q82.l7 N N a f o f ((hC a.toNat (false,([]:W6))).length:Int) 0 p q b c (hC a.toNat (false,([]:W6)))
     (fun g h i j k d e l=>
      bif lB (e.length+1) 24 then
       Q82.l3 N n g h (fA (i+1)) j k (d++[l]) (e++[d.length]) m
      else none)
   else none
  else
  m p q b c
noncomputable def Q82.f (N:Nat)(e f:Int)(g:W7)(h:W2):Option (W2×W7×W7×W2):=
 Q82.l3 N N f e 0 g h [] []
  (fun a b c d=>
   some (c,d,a,b))
noncomputable def Q82.h3:uB:=⟨[(1,.any),(2,.any),(6,.box [.any]),(7,.mrow .zi),(11,.any),(12,.any)],[(6,.box [.any]),(7,.mrow .zi)]⟩
noncomputable def Q82.h7:uB:=⟨[(1,.any),(2,.any),(6,.box [.any]),(7,.mrow .zi),(8,.any),(9,.any),(11,.any),(12,.any),(18,.any),(19,.any)],[(1,.any),(2,.any),(6,.box [.any]),(7,.mrow .zi),(9,.any),(11,.any),(12,.any)]⟩
noncomputable def Q82.c7 (N:Nat):mF:=⟨fun vs H k=>match vs,H with
 | [.c (.int .i64 a),.fn 47 [.agg [.sw 0 1]] [],.ptr 2 0 1,.sw 4 1,.c (.int .i64 b),.sw 5 2,.c (.int .i64 c),.c (.int .i64 d),.c (.int .i64 e),.c (.int .i64 f)],[.po 2 1 g,.pool .zi h,.vals [.c (.slice none 0 0)],.pool .zi i,.po 2 3 j,.tw .zi l]=>Q82.l7 N N a b c d e f g h i j l (fun m o p q r s t u=>k (.exit 2) ⟨tB Q82.h7.out [.c (.int .i64 m),.fn 47 [.agg [.sw 0 1]] [],.ptr 2 0 1,.sw 4 1,.sw 5 2,.c (.int .i64 o),.c (.int .i64 p)],[.po 2 1 q,.pool .zi r,.vals [.c (.slice none 0 0)],.pool .zi s,.po 2 3 t,.tw .zi u]⟩)
 |_,_=>none⟩
noncomputable def Q82.c3 (N:Nat):mF:=⟨fun vs H k=>match vs,H with
 | [.c (.int .i64 g),.fn 47 [.agg [.sw 0 1]] [],.ptr 2 0 1,.sw 4 1,.c (.int .i64 h),.c (.int .i64 i)],[.po 2 1 j,.pool .zi l,.vals [.c (.slice none 0 0)],.pool .zi a,.po 2 3 b]=>Q82.l3 N N g h i j l a b (fun c d e f=>k (.exit 0) ⟨tB Q82.h3.out [.ptr 2 0 1,.sw 4 1],[.po 2 1 c,.pool .zi d,.vals [.c (.slice none 0 0)],.pool .zi e,.po 2 3 f]⟩)
 |_,_=>none⟩
noncomputable def Q82.E (N:Nat):aC:=mD [(33,aK),(39,nD),(45,gJ),(47,rN)] [(47,Q78.ent N)] [(3,Q82.h3),(7,Q82.h7)] [(7,Q82.c7 N),(3,Q82.c3 N)] N [.cell 6 47] [.recd [.mrow .zi]] 2 37 true
noncomputable def Q82.b7:Code:=mA ((cA (bo Tryz.f30)).getD 1 .skip)
theorem Q82.l7_eq {R:Type}(N n:Nat)(a b c d e f:Int)(g:W7)(h:W2)(i:W2)(j:W7)(l:W3)(k:Ex→St→Option R):
  vA 2 Q82.h7 (fun s k=>tA (Q82.E N) 384 Q82.b7 s k) n [.c (.int .i64 a),.fn 47 [.agg [.sw 0 1]] [],.ptr 2 0 1,.sw 4 1,.c (.int .i64 b),.sw 5 2,.c (.int .i64 c),.c (.int .i64 d),.c (.int .i64 e),.c (.int .i64 f)] [.po 2 1 g,.pool .zi h,.vals [.c (.slice none 0 0)],.pool .zi i,.po 2 3 j,.tw .zi l] k=Q82.l7 N n a b c d e f g h i j l (fun m o p q r t u v=>k (.exit 2) ⟨tB Q82.h7.out [.c (.int .i64 m),.fn 47 [.agg [.sw 0 1]] [],.ptr 2 0 1,.sw 4 1,.sw 5 2,.c (.int .i64 o),.c (.int .i64 p)],[.po 2 1 q,.pool .zi r,.vals [.c (.slice none 0 0)],.pool .zi t,.po 2 3 u,.tw .zi v]⟩):=by
 induction n generalizing a b c d e f g h i j l with
 |zero=>kernel_rfl
 |succ n ih=>
  simp only[Q82.l7,←ih]
  kernel_rfl
noncomputable def Q82.b3:Code:=mA ((cA (bo Tryz.f30)).getD 0 .skip)
theorem Q82.l3_eq {R:Type}(N n:Nat)(g h i:Int)(j:W7)(l:W2)(a:W2)(b:W7)(k:Ex→St→Option R):
  vA 2 Q82.h3 (fun s k=>tA (Q82.E N) 394 Q82.b3 s k) n [.c (.int .i64 g),.fn 47 [.agg [.sw 0 1]] [],.ptr 2 0 1,.sw 4 1,.c (.int .i64 h),.c (.int .i64 i)] [.po 2 1 j,.pool .zi l,.vals [.c (.slice none 0 0)],.pool .zi a,.po 2 3 b] k=Q82.l3 N n g h i j l a b (fun c d e f=>k (.exit 0) ⟨tB Q82.h3.out [.ptr 2 0 1,.sw 4 1],[.po 2 1 c,.pool .zi d,.vals [.c (.slice none 0 0)],.pool .zi e,.po 2 3 f]⟩):=by
 induction n generalizing g h i j l a b with
 |zero=>kernel_rfl
 |succ n ih=>
  simp only[Q82.l3,←ih]
  kernel_rfl
noncomputable def Q82.dec (v:V)(bs:List oA):Option (W2×W7×W7×W2):=match v,bs with
 | .agg [.sw 3 1],[.po 2 1 c,.pool .zi d,.pool .zi a,.po 2 2 b]=>some (a,b,c,d)
 |_,_=>none
theorem Q82.f_eq (N:Nat)(a b:Int)(c:W7)(d:W2):
  uA (Q82.E N) (bo Tryz.f30) [.c (.int .i64 a),.c (.int .i64 b),.fn 47 [.agg [.sw 0 1]] []] [.po 2 1 c,.pool .zi d] Q82.dec=Q82.f N a b c d:=by kernel_rfl
noncomputable def Q82.ent (N:Nat):rA:={A:=W2×W7×W7×W2,fresh:=2,imm:=[true,true,false],dec:=fun args bs=>match sC (jA bs) [false,false,false] args,bs with
 | [.c (.int .i64 a),.c (.int .i64 b),.fn 47 [.agg [.sw 0 1]] []],[.po 2 1 c,.pool .zi d]=>some (Q82.f N a b c d,fun r=>.one (.agg [.sw 3 1]) [.po 2 1 r.2.2.1,.pool .zi r.2.2.2,.pool .zi r.1,.po 2 2 r.2.1])
 |_,_=>none}
theorem Q82.env (N:Nat):sA Tryz.prog (Q82.E N):=⟨(.cons kD (.cons bB (.cons zC (.cons xE .nil)))),(.cons (Q78.ent_ok N) .nil),fun h=>hA (show false=true from h)⟩
theorem Q82.k7 (N:Nat):eB Tryz.prog Tryz.f30 (Q82.E N) (.loop Q82.b7):=xB (Q82.env N) bA 384 (c:=Q82.c7 N) aA.n fun R vs H k r h=>by unfold Q82.c7 at h;dsimp only at h;split at h;exact⟨_,Q82.l7_eq .. ▸h⟩;cases h
theorem Q82.k3 (N:Nat):eB Tryz.prog Tryz.f30 (Q82.E N) (.loop Q82.b3):=xB (Q82.env N) bA 394 (c:=Q82.c3 N) (aA.of (l:=[(.loop (mA ((cA (bo Tryz.f30)).getD 1 .skip)))]) (by kernel_rfl) (aA.cons (Q82.k7 N) aA.nil)) fun R vs H k r h=>by unfold Q82.c3 at h;dsimp only at h;split at h;exact⟨_,Q82.l3_eq .. ▸h⟩;cases h
theorem Q82.spec (N:Nat)(a c:Int)(d:W7)(f:W2)(r:W2×W7×W7×W2)(h:Q82.f N a c d f=some r):dA Tryz.prog 30 [.c (.int .i64 a),.c (.int .i64 c),.fn 47 [.agg [.sw 0 1]] []] [.po 2 1 d,.pool .zi f] (.agg [.sw 3 1]) ([.po 2 1 r.2.2.1,.pool .zi r.2.2.2,.pool .zi r.1,.po 2 2 r.2.1]):=qA (Q82.env N) bA Tryz.func30 (aA.of (l:=[(.loop (mA ((cA (bo Tryz.f30)).getD 0 .skip))),(.loop (mA ((cA (bo Tryz.f30)).getD 1 .skip)))]) (by kernel_rfl) (aA.cons (Q82.k3 N) (aA.cons (Q82.k7 N) aA.nil))) ((Q82.f_eq ..).trans h) fun v b e=>by unfold Q82.dec at e;split at e<;>cases e;exact⟨rfl,rfl⟩
theorem Q82.ent_ok (N:Nat):pA Tryz.prog 30 (Q82.ent N):=by
 intro args bs a enc h;simp only[Q82.ent]at h;split at h
 ·rename_i hz;have h0:=hB h;have h1:=congrArg Prod.fst h0;have h2:=congrArg Prod.snd h0;dsimp only at h1 h2;subst h2;exact dA.of_asSl (fl:=[false,false,false]) (by rw[hz];exact Q82.spec N _ _ _ _ a h1)
 ·cases h
noncomputable def Q83.f (N:Nat)(a:W5):Option (W2×W7×Int):=
 (Q72.f N a).bind fun c=>
 (Q71.f N c).bind fun d=>
 bif !d then
  some ([],[],5)
 else
 bif (a.length:Int)==0 then
  some ([],[],0)
 else
 bif decide (0<(a.length:Int))then
  (Q79.f N (a.length:Int) ((a.getD 0 []).length:Int) a).bind fun b=>
  some (b.1,b.2.1,0)
 else none
noncomputable def Q83.E (N:Nat):aC:=mD [(22,eL),(43,nJ),(45,gJ),(47,rN)] [(29,Q72.ent N),(28,Q71.ent N),(30,Q79.ent N)] [] [] N [.cell 2 47,.tmp 3] [.recd [.mrow .zi],.any] 0 21 true
noncomputable def Q83.dec (v:V)(bs:List oA):Option (W2×W7×Int):=match v,bs with
 | .tup [.agg [.sw 1 1],.c (.int .i64 c)],[.pool .zi a,.po 2 0 b]=>some (a,b,c)
 |_,_=>none
theorem Q83.f_eq (N:Nat)(a:W5):
  uA (Q83.E N) (bo Tryz.f12) [.inl .i64 1 a] [] Q83.dec=Q83.f N a:=by kernel_rfl
noncomputable def Q83.ent (N:Nat):rA:=tF (W2×W7×Int) 2 [true] [.inl .i64 1] fun
 | [.inl .i64 1 a]=>some (Q83.f N a,fun r=>.one (.tup [.agg [.sw 1 1],.c (.int .i64 r.2.2)]) [.pool .zi r.1,.po 2 0 r.2.1])
 |_=>none
theorem Q83.env (N:Nat):sA Tryz.prog (Q83.E N):=⟨(.cons yD (.cons cD (.cons zC (.cons xE .nil)))),(.cons (Q72.ent_ok N) (.cons (Q71.ent_ok N) (.cons (Q79.ent_ok N) .nil))),fun h=>hA (show false=true from h)⟩
theorem Q83.spec (N:Nat)(a:W5)(r:W2×W7×Int)(h:Q83.f N a=some r):dA Tryz.prog 12 [.inl .i64 1 a] [] (.tup [.agg [.sw 1 1],.c (.int .i64 r.2.2)]) ([.pool .zi r.1,.po 2 0 r.2.1]):=qA (Q83.env N) bA Tryz.func12 aA.n ((Q83.f_eq ..).trans h) fun v b e=>by unfold Q83.dec at e;split at e<;>cases e;exact⟨rfl,rfl⟩
theorem Q83.ent_ok (N:Nat):pA Tryz.prog 12 (Q83.ent N):=xA fun v a e h=>by split at h;exact gC (Q:=fun e=>dA _ _ _ _ (e a).pick.1 (e a).pick.2) h fun k=>Q83.spec N _ a k;cases h
noncomputable def Q84.f (N:Nat)(a:Int):Option (W2×W7×Int):=
 bif decide (a<0)then
  some ([],[],5)
 else
 bif decide (a>16)then
  some ([],[],5)
 else
 (Q80.f N a a).bind fun b=>
 some (b.1,b.2,0)
noncomputable def Q84.E (N:Nat):aC:=mD [(45,gJ),(47,rN)] [(30,Q80.ent N)] [] [] N [.cell 2 47,.tmp 3] [.recd [.mrow .zi],.any] 0 14 true
noncomputable def Q84.dec (v:V)(bs:List oA):Option (W2×W7×Int):=match v,bs with
 | .tup [.agg [.sw 1 1],.c (.int .i64 c)],[.pool .zi a,.po 2 0 b]=>some (a,b,c)
 |_,_=>none
theorem Q84.f_eq (N:Nat)(a:Int):
  uA (Q84.E N) (bo Tryz.f73) [.c (.int .i64 a)] [] Q84.dec=Q84.f N a:=by kernel_rfl
noncomputable def Q84.ent (N:Nat):rA:=tF (W2×W7×Int) 2 [true] [.any] fun
 | [.c (.int .i64 a)]=>some (Q84.f N a,fun r=>.one (.tup [.agg [.sw 1 1],.c (.int .i64 r.2.2)]) [.pool .zi r.1,.po 2 0 r.2.1])
 |_=>none
theorem Q84.env (N:Nat):sA Tryz.prog (Q84.E N):=⟨(.cons zC (.cons xE .nil)),(.cons (Q80.ent_ok N) .nil),fun h=>hA (show false=true from h)⟩
theorem Q84.spec (N:Nat)(a:Int)(r:W2×W7×Int)(h:Q84.f N a=some r):dA Tryz.prog 73 [.c (.int .i64 a)] [] (.tup [.agg [.sw 1 1],.c (.int .i64 r.2.2)]) ([.pool .zi r.1,.po 2 0 r.2.1]):=qA (Q84.env N) bA Tryz.func73 aA.n ((Q84.f_eq ..).trans h) fun v b e=>by unfold Q84.dec at e;split at e<;>cases e;exact⟨rfl,rfl⟩
theorem Q84.ent_ok (N:Nat):pA Tryz.prog 73 (Q84.ent N):=xA fun v a e h=>by split at h;exact gC (Q:=fun e=>dA _ _ _ _ (e a).pick.1 (e a).pick.2) h fun k=>Q84.spec N _ a k;cases h
noncomputable def Q85.f (N:Nat)(c:W7)(d:W2):Option (W2×W7×Int×W7×W2):=
 (Q73.f N c d).bind fun a=>
 (Q71.f N a.1).bind fun e=>
 bif !e then
  some ([],[],5,a.2.1,a.2.2)
 else
 bif (a.2.1.length:Int)==0 then
  some ([],[],0,a.2.1,a.2.2)
 else
 bif decide (0<(a.2.1.length:Int))then
  (Q81.f N (a.2.1.length:Int) ((a.2.2.getD (a.2.1.getD 0 0) []).length:Int) a.2.1 a.2.2).bind fun b=>
  some (b.1,b.2.1,0,b.2.2.1,b.2.2.2)
 else none
noncomputable def Q85.E (N:Nat):aC:=mD [(33,aK),(45,gJ),(47,rN)] [(117,Q73.ent N),(28,Q71.ent N),(30,Q81.ent N)] [] [] N [.cell 2 47,.tmp 3] [.recd [.mrow .zi],.any] 2 21 true
noncomputable def Q85.dec (v:V)(bs:List oA):Option (W2×W7×Int×W7×W2):=match v,bs with
 | .tup [.agg [.sw 3 1],.c (.int .i64 c)],[.po 2 1 d,.pool .zi e,.pool .zi a,.po 2 2 b]=>some (a,b,c,d,e)
 |_,_=>none
theorem Q85.f_eq (N:Nat)(a:W7)(b:W2):
  uA (Q85.E N) (bo Tryz.f103) [.sw 0 1] [.po 2 1 a,.pool .zi b] Q85.dec=Q85.f N a b:=by kernel_rfl
noncomputable def Q85.ent (N:Nat):rA:={A:=W2×W7×Int×W7×W2,fresh:=2,imm:=[false],dec:=fun args bs=>match sC (jA bs) [false] args,bs with
 | [.sw 0 1],[.po 2 1 a,.pool .zi b]=>some (Q85.f N a b,fun r=>.one (.tup [.agg [.sw 3 1],.c (.int .i64 r.2.2.1)]) [.po 2 1 r.2.2.2.1,.pool .zi r.2.2.2.2,.pool .zi r.1,.po 2 2 r.2.1])
 |_,_=>none}
theorem Q85.env (N:Nat):sA Tryz.prog (Q85.E N):=⟨(.cons kD (.cons zC (.cons xE .nil))),(.cons (Q73.ent_ok N) (.cons (Q71.ent_ok N) (.cons (Q81.ent_ok N) .nil))),fun h=>hA (show false=true from h)⟩
theorem Q85.spec (N:Nat)(a:W7)(c:W2)(r:W2×W7×Int×W7×W2)(h:Q85.f N a c=some r):dA Tryz.prog 103 [.sw 0 1] [.po 2 1 a,.pool .zi c] (.tup [.agg [.sw 3 1],.c (.int .i64 r.2.2.1)]) ([.po 2 1 r.2.2.2.1,.pool .zi r.2.2.2.2,.pool .zi r.1,.po 2 2 r.2.1]):=qA (Q85.env N) bA Tryz.func103 aA.n ((Q85.f_eq ..).trans h) fun v b e=>by unfold Q85.dec at e;split at e<;>cases e;exact⟨rfl,rfl⟩
theorem Q85.ent_ok (N:Nat):pA Tryz.prog 103 (Q85.ent N):=by
 intro args bs a enc h;simp only[Q85.ent]at h;split at h
 ·rename_i hz;have h0:=hB h;have h1:=congrArg Prod.fst h0;have h2:=congrArg Prod.snd h0;dsimp only at h1 h2;subst h2;exact dA.of_asSl (fl:=[false]) (by rw[hz];exact Q85.spec N _ _ a h1)
 ·cases h
noncomputable def Q86.l6 {R:Type}(N:Nat):Nat→Int→Int→Int→Nat→Int→Int→W7→W2→(Int→Int→Int→W7→W2→Option R)→Option R
 |0,_,_,_,_,_,_,_,_,_=>none
 |n+1,j,k,d,c,e,a,f,b,i=>
  bif decide (a<e)then
   bif (decide (0≤a))&&(decide (a<((b.getD c []).length:Int)))then
    (Q26.f N (((b.getD c []).getD a.toNat (false,([]:W6))).1) (((b.getD c []).getD a.toNat (false,([]:W6))).2)).bind fun g=>
    (Q6.f N g).bind fun h=>
    Q86.l6 N n (Dp j h) k d c e (fA (a+1)) f b i
   else none
  else
  i j k d f b
noncomputable def Q86.l3 {R:Type}(N:Nat):Nat→Int→Int→Int→W7→W2→(Int→W7→W2→Option R)→Option R
 |0,_,_,_,_,_,_=>none
 |n+1,j,k,a,b,c,i=>
  bif decide (a<k)then
   bif (decide (0≤a))&&(decide (a<(b.length:Int)))then
    Q86.l6 N N j k a (b.getD a.toNat 0) ((c.getD (b.getD a.toNat 0) []).length:Int) 0 b c
     (fun d e f g h=>
      Q86.l3 N n d e (fA (f+1)) g h i)
   else none
  else
  i j b c
noncomputable def Q86.f (N:Nat)(f:W7)(g:W2):Option (Bool×W7×W2):=
 Q86.l3 N N 0 (f.length:Int) 0 f g
  (fun c d e=>
   (Q77.f N d e).bind fun a=>
   (Q2.f N (dB (Fc a.1 a.2.1))).bind fun b=>
   some (decide ((fA ((fA (2*(Fc a.1 a.2.1)))*(fA (c+b))))>4096),a.2.2.1,a.2.2.2))
noncomputable def Q86.h3:uB:=⟨[(1,.box [.mrow .zi]),(3,.any),(12,.mrow .zi),(13,.any),(14,.any)],[(1,.box [.mrow .zi]),(3,.any)]⟩
noncomputable def Q86.h6:uB:=⟨[(1,.box [.mrow .zi]),(3,.any),(12,.mrow .zi),(13,.any),(14,.any),(18,.any),(19,.any),(20,.any)],[(1,.box [.mrow .zi]),(3,.any),(12,.mrow .zi),(13,.any),(14,.any)]⟩
noncomputable def Q86.c6 (N:Nat):mF:=⟨fun vs H k=>match vs,H with
 | [.ptr 2 0 1,.c (.int .i64 m),.sw 0 1,.c (.int .i64 o),.c (.int .i64 a),.rp 1 b 2,.c (.int .i64 c),.c (.int .i64 d)],[.po 2 1 e,.pool .zi f,.vals [.sw 0 1]]=>Q86.l6 N N m o a b c d e f (fun g h i j l=>k (.exit 2) ⟨tB Q86.h6.out [.ptr 2 0 1,.c (.int .i64 g),.sw 0 1,.c (.int .i64 h),.c (.int .i64 i)],[.po 2 1 j,.pool .zi l,.vals [.sw 0 1]]⟩)
 |_,_=>none⟩
noncomputable def Q86.c3 (N:Nat):mF:=⟨fun vs H k=>match vs,H with
 | [.ptr 2 0 1,.c (.int .i64 d),.sw 0 1,.c (.int .i64 e),.c (.int .i64 f)],[.po 2 1 g,.pool .zi h,.vals [.sw 0 1]]=>Q86.l3 N N d e f g h (fun a b c=>k (.exit 0) ⟨tB Q86.h3.out [.ptr 2 0 1,.c (.int .i64 a)],[.po 2 1 b,.pool .zi c,.vals [.sw 0 1]]⟩)
 |_,_=>none⟩
noncomputable def Q86.E (N:Nat):aC:=mD [(3,Fm),(33,aK),(39,nD),(45,gJ),(47,rN),(78,Ij)] [(14,Q26.ent N),(67,Q6.ent N),(45,Q77.ent N),(65,Q2.ent N)] [(3,Q86.h3),(6,Q86.h6)] [(6,Q86.c6 N),(3,Q86.c3 N)] N [.tmp 2] [.any] 2 48
noncomputable def Q86.b6:Code:=mA ((cA (bo Tryz.f46)).getD 1 .skip)
theorem Q86.l6_eq {R:Type}(N n:Nat)(m o a:Int)(b:Nat)(c d:Int)(e:W7)(f:W2)(k:Ex→St→Option R):
  vA 2 Q86.h6 (fun s k=>tA (Q86.E N) 386 Q86.b6 s k) n [.ptr 2 0 1,.c (.int .i64 m),.sw 0 1,.c (.int .i64 o),.c (.int .i64 a),.rp 1 b 2,.c (.int .i64 c),.c (.int .i64 d)] [.po 2 1 e,.pool .zi f,.vals [.sw 0 1]] k=Q86.l6 N n m o a b c d e f (fun g h i j l=>k (.exit 2) ⟨tB Q86.h6.out [.ptr 2 0 1,.c (.int .i64 g),.sw 0 1,.c (.int .i64 h),.c (.int .i64 i)],[.po 2 1 j,.pool .zi l,.vals [.sw 0 1]]⟩):=by
 induction n generalizing m o a b c d e f with
 |zero=>kernel_rfl
 |succ n ih=>
  simp only[Q86.l6,←ih]
  kernel_rfl
noncomputable def Q86.b3:Code:=mA ((cA (bo Tryz.f46)).getD 0 .skip)
theorem Q86.l3_eq {R:Type}(N n:Nat)(c e f:Int)(g:W7)(h:W2)(k:Ex→St→Option R):
  vA 2 Q86.h3 (fun s k=>tA (Q86.E N) 394 Q86.b3 s k) n [.ptr 2 0 1,.c (.int .i64 c),.sw 0 1,.c (.int .i64 e),.c (.int .i64 f)] [.po 2 1 g,.pool .zi h,.vals [.sw 0 1]] k=Q86.l3 N n c e f g h (fun a b d=>k (.exit 0) ⟨tB Q86.h3.out [.ptr 2 0 1,.c (.int .i64 a)],[.po 2 1 b,.pool .zi d,.vals [.sw 0 1]]⟩):=by
 induction n generalizing c e f g h with
 |zero=>kernel_rfl
 |succ n ih=>
  simp only[Q86.l3,←ih]
  kernel_rfl
noncomputable def Q86.dec (v:V)(bs:List oA):Option (Bool×W7×W2):=match v,bs with
 | .c (.bool a),[.po 2 1 b,.pool .zi c]=>some (a,b,c)
 |_,_=>none
theorem Q86.f_eq (N:Nat)(a:W7)(b:W2):
  uA (Q86.E N) (bo Tryz.f46) [.agg [.sw 0 1]] [.po 2 1 a,.pool .zi b] Q86.dec=Q86.f N a b:=by kernel_rfl
noncomputable def Q86.ent (N:Nat):rA:={A:=Bool×W7×W2,fresh:=0,imm:=[false],dec:=fun args bs=>match sC (jA bs) [false] args,bs with
 | [.agg [.sw 0 1]],[.po 2 1 a,.pool .zi b]=>some (Q86.f N a b,fun r=>.one (.c (.bool r.1)) [.po 2 1 r.2.1,.pool .zi r.2.2])
 |_,_=>none}
theorem Q86.env (N:Nat):sA Tryz.prog (Q86.E N):=⟨(.cons iR (.cons kD (.cons bB (.cons zC (.cons xE (.cons Eg .nil)))))),(.cons (Q26.ent_ok N) (.cons (Q6.ent_ok N) (.cons (Q77.ent_ok N) (.cons (Q2.ent_ok N) .nil)))),fun h=>hA (show false=true from h)⟩
theorem Q86.k6 (N:Nat):eB Tryz.prog Tryz.f46 (Q86.E N) (.loop Q86.b6):=xB (Q86.env N) bA 386 (c:=Q86.c6 N) aA.n fun R vs H k r h=>by unfold Q86.c6 at h;dsimp only at h;split at h;exact⟨_,Q86.l6_eq .. ▸h⟩;cases h
theorem Q86.k3 (N:Nat):eB Tryz.prog Tryz.f46 (Q86.E N) (.loop Q86.b3):=xB (Q86.env N) bA 394 (c:=Q86.c3 N) (aA.of (l:=[(.loop (mA ((cA (bo Tryz.f46)).getD 1 .skip)))]) (by kernel_rfl) (aA.cons (Q86.k6 N) aA.nil)) fun R vs H k r h=>by unfold Q86.c3 at h;dsimp only at h;split at h;exact⟨_,Q86.l3_eq .. ▸h⟩;cases h
theorem Q86.spec (N:Nat)(a:W7)(c:W2)(r:Bool×W7×W2)(h:Q86.f N a c=some r):dA Tryz.prog 46 [.agg [.sw 0 1]] [.po 2 1 a,.pool .zi c] (.c (.bool r.1)) ([.po 2 1 r.2.1,.pool .zi r.2.2]):=qA (Q86.env N) bA Tryz.func46 (aA.of (l:=[(.loop (mA ((cA (bo Tryz.f46)).getD 0 .skip))),(.loop (mA ((cA (bo Tryz.f46)).getD 1 .skip)))]) (by kernel_rfl) (aA.cons (Q86.k3 N) (aA.cons (Q86.k6 N) aA.nil))) ((Q86.f_eq ..).trans h) fun v b e=>by unfold Q86.dec at e;split at e<;>cases e;exact⟨rfl,rfl⟩
theorem Q86.ent_ok (N:Nat):pA Tryz.prog 46 (Q86.ent N):=by
 intro args bs a enc h;simp only[Q86.ent]at h;split at h
 ·rename_i hz;have h0:=hB h;have h1:=congrArg Prod.fst h0;have h2:=congrArg Prod.snd h0;dsimp only at h1 h2;subst h2;exact dA.of_asSl (fl:=[false]) (by rw[hz];exact Q86.spec N _ _ a h1)
 ·cases h
noncomputable def Q87.f (N:Nat)(c:W7)(d:W2):Option (Int×W7×W2):=
 (Q77.f N c d).bind fun a=>
 bif a.1 != a.2.1 then
  some (5,a.2.2.1,a.2.2.2)
 else
 (Q86.f N a.2.2.1 a.2.2.2).bind fun b=>
 bif b.1 then
  some (3,b.2.1,b.2.2)
 else
 some (0,b.2.1,b.2.2)
noncomputable def Q87.E (N:Nat):aC:=mD [(47,rN)] [(45,Q77.ent N),(46,Q86.ent N)] [] [] N [.tmp 2] [.any] 2 15
noncomputable def Q87.dec (v:V)(bs:List oA):Option (Int×W7×W2):=match v,bs with
 | .c (.int .i64 a),[.po 2 1 b,.pool .zi c]=>some (a,b,c)
 |_,_=>none
theorem Q87.f_eq (N:Nat)(a:W7)(b:W2):
  uA (Q87.E N) (bo Tryz.f32) [.agg [.sw 0 1]] [.po 2 1 a,.pool .zi b] Q87.dec=Q87.f N a b:=by kernel_rfl
noncomputable def Q87.ent (N:Nat):rA:={A:=Int×W7×W2,fresh:=0,imm:=[false],dec:=fun args bs=>match sC (jA bs) [false] args,bs with
 | [.agg [.sw 0 1]],[.po 2 1 a,.pool .zi b]=>some (Q87.f N a b,fun r=>.one (.c (.int .i64 r.1)) [.po 2 1 r.2.1,.pool .zi r.2.2])
 |_,_=>none}
theorem Q87.env (N:Nat):sA Tryz.prog (Q87.E N):=⟨(.cons xE .nil),(.cons (Q77.ent_ok N) (.cons (Q86.ent_ok N) .nil)),fun h=>hA (show false=true from h)⟩
theorem Q87.spec (N:Nat)(a:W7)(c:W2)(r:Int×W7×W2)(h:Q87.f N a c=some r):dA Tryz.prog 32 [.agg [.sw 0 1]] [.po 2 1 a,.pool .zi c] (.c (.int .i64 r.1)) ([.po 2 1 r.2.1,.pool .zi r.2.2]):=qA (Q87.env N) bA Tryz.func32 aA.n ((Q87.f_eq ..).trans h) fun v b e=>by unfold Q87.dec at e;split at e<;>cases e;exact⟨rfl,rfl⟩
theorem Q87.ent_ok (N:Nat):pA Tryz.prog 32 (Q87.ent N):=by
 intro args bs a enc h;simp only[Q87.ent]at h;split at h
 ·rename_i hz;have h0:=hB h;have h1:=congrArg Prod.fst h0;have h2:=congrArg Prod.snd h0;dsimp only at h1 h2;subst h2;exact dA.of_asSl (fl:=[false]) (by rw[hz];exact Q87.spec N _ _ a h1)
 ·cases h
noncomputable def Q88.l8 {R:Type}(N:Nat):Nat→Int→Int→Int→Int→Int→Int→W7→W2→Bool→W2→W7→Bool→W6→(Int→Int→Int→Int→Int→Int→W7→W2→Bool→W2→W7→Bool→W6→Option R)→Option R
 |0,_,_,_,_,_,_,_,_,_,_,_,_,_,_=>none
 |n+1,e,f,g,h,b,a,i,j,k,d,c,l,m,o=>
  bif decide (a<e)then
   bif (decide (0≤a))&&(decide (a<(c.length:Int)))then
    bif (decide (0≤b))&&(decide (b<((d.getD (c.getD a.toNat 0) []).length:Int)))then
     (Q24.f N (((d.getD (c.getD a.toNat 0) []).getD b.toNat (false,([]:W6))).1) (((d.getD (c.getD a.toNat 0) []).getD b.toNat (false,([]:W6))).2)).bind fun p=>
     bif p==0 then
      Q88.l8 N n e f g h b (fA (a+1)) i j k d c l m o
     else
     o e f g h b a i j k d c l m
    else none
   else none
  else
  o e f g h b a i j k d c l m
noncomputable def Q88.l18 {R:Type}(N:Nat):Nat→Int→Int→Int→Int→Int→Int→Int→W7→W2→Bool→W2→W7→Bool→W6→(Int→Int→Int→Int→Int→Int→W7→W2→Bool→W2→W7→Bool→W6→Option R)→Option R
 |0,_,_,_,_,_,_,_,_,_,_,_,_,_,_,_=>none
 |n+1,o,g,p,e,f,b,d,q,r,s,c,a,h,i,t=>
  bif decide (d<g)then
   bif (decide (0≤e))&&(decide (e<(a.length:Int)))then
    bif (decide (0≤f))&&(decide (f<((c.getD (a.getD e.toNat 0) []).length:Int)))then
     bif (decide (0≤b))&&(decide (b<(a.length:Int)))then
      bif (decide (0≤d))&&(decide (d<((c.getD (a.getD b.toNat 0) []).length:Int)))then
       (Q33.f N (((c.getD (a.getD e.toNat 0) []).getD f.toNat (false,([]:W6))).1) (((c.getD (a.getD e.toNat 0) []).getD f.toNat (false,([]:W6))).2) (((c.getD (a.getD b.toNat 0) []).getD d.toNat (false,([]:W6))).1) (((c.getD (a.getD b.toNat 0) []).getD d.toNat (false,([]:W6))).2)).bind fun j=>
       bif (decide (0≤b))&&(decide (b<(a.length:Int)))then
        bif (decide (0≤f))&&(decide (f<((c.getD (a.getD b.toNat 0) []).length:Int)))then
         bif (decide (0≤e))&&(decide (e<(a.length:Int)))then
          bif (decide (0≤d))&&(decide (d<((c.getD (a.getD e.toNat 0) []).length:Int)))then
           (Q33.f N (((c.getD (a.getD b.toNat 0) []).getD f.toNat (false,([]:W6))).1) (((c.getD (a.getD b.toNat 0) []).getD f.toNat (false,([]:W6))).2) (((c.getD (a.getD e.toNat 0) []).getD d.toNat (false,([]:W6))).1) (((c.getD (a.getD e.toNat 0) []).getD d.toNat (false,([]:W6))).2)).bind fun k=>
           (Q32.f N j.1 j.2.1 k.1 k.2.1).bind fun l=>
           bif (decide (0≤b))&&(decide (b<(a.length:Int)))then
            (Q35.f N l.1 l.2.1 h i).bind fun m=>
            bif (decide (0≤d))&&(decide (d<((c.getD (a.getD b.toNat 0) []).length:Int)))then
             Q88.l18 N n o g p e f b (fA (d+1)) q r s (c.set (a.getD b.toNat 0) ((c.getD (a.getD b.toNat 0) []).set d.toNat (m.1,m.2.1))) a h i t
            else none
           else none
          else none
         else none
        else none
       else none
      else none
     else none
    else none
   else none
  else
  t o g p e f b q r s c a h i
noncomputable def Q88.l15 {R:Type}(N:Nat):Nat→Int→Int→Int→Int→Int→Int→W7→W2→Bool→W2→W7→Bool→W6→(Int→Int→Int→Int→Int→W7→W2→Bool→W2→W7→Bool→W6→Option R)→Option R
 |0,_,_,_,_,_,_,_,_,_,_,_,_,_,_=>none
 |n+1,e,g,h,i,f,j,k,l,m,o,p,q,r,k4=>
  bif decide (j<e)then
   Q88.l18 N N e g h i f j (fA (f+1)) k l m o p q r
    (fun s t u v c a w x y d b z y114=>
     bif (decide (0≤a))&&(decide (a<(b.length:Int)))then
      bif (decide (0≤c))&&(decide (c<((d.getD (b.getD a.toNat 0) []).length:Int)))then
       Q88.l15 N n s t u v c (fA (a+1)) w x y (d.set (b.getD a.toNat 0) ((d.getD (b.getD a.toNat 0) []).set c.toNat (false,[]))) b z y114 k4
      else none
     else none)
  else
  k4 e g h i f k l m o p q r
noncomputable def Q88.l5 {R:Type}(N:Nat):Nat→Int→Int→Int→Int→Int→W7→W2→Bool→W2→W7→Bool→W6→(Int→Int→Int→W7→W2→Bool→Bool→W6→Option R)→Option R
 |0,_,_,_,_,_,_,_,_,_,_,_,_,_=>none
 |n+1,x6,x7,x8,x9,x10,m,o,p,x14,x15,q,r,k0=>
  bif decide (x10<x7)then
   bif decide (x9<x6)then
    Q88.l8 N N x6 x7 x8 x9 x10 x9 m o p x14 x15 q r
     (fun l s t a u e v w x y b z y57=>
      bif e==l then
       Q88.l5 N n l s t a (fA (u+1)) v w x y b z y57 k0
      else
      bif e != a then
       bif (decide (0≤a))&&(decide (a<(b.length:Int)))then
        bif (decide (0≤e))&&(decide (e<(b.length:Int)))then
         bif (decide (0≤e))&&(decide (e<(b.length:Int)))then
          bif (decide (0≤a))&&(decide (a<((b.set e.toNat (b.getD a.toNat 0)).length:Int)))then
           Q88.l15 N N l s (fA (0-t)) a u (fA (a+1)) v w x y ((b.set e.toNat (b.getD a.toNat 0)).set a.toNat (b.getD e.toNat 0)) z y57
            (fun y127 y128 y129 c f y132 y133 y134 j g y137 y138=>
             bif (decide (0≤c))&&(decide (c<(g.length:Int)))then
              bif (decide (0≤f))&&(decide (f<((j.getD (g.getD c.toNat 0) []).length:Int)))then
               Q88.l5 N n y127 y128 y129 (fA (c+1)) (fA (f+1)) y132 y133 y134 j g (((j.getD (g.getD c.toNat 0) []).getD f.toNat (false,([]:W6))).1) (((j.getD (g.getD c.toNat 0) []).getD f.toNat (false,([]:W6))).2) k0
              else none
             else none)
          else none
         else none
        else none
       else none
      else
      Q88.l15 N N l s t a u (fA (a+1)) v w x y b z y57
       (fun y139 y140 y141 d h y144 y145 y146 k i y149 y150=>
        bif (decide (0≤d))&&(decide (d<(i.length:Int)))then
         bif (decide (0≤h))&&(decide (h<((k.getD (i.getD d.toNat 0) []).length:Int)))then
          Q88.l5 N n y139 y140 y141 (fA (d+1)) (fA (h+1)) y144 y145 y146 k i (((k.getD (i.getD d.toNat 0) []).getD h.toNat (false,([]:W6))).1) (((k.getD (i.getD d.toNat 0) []).getD h.toNat (false,([]:W6))).2) k0
         else none
        else none))
   else
   k0 x6 x8 x9 m o p q r
  else
  k0 x6 x8 x9 m o p q r
noncomputable def Q88.f (N:Nat)(m:W7)(o:W2):Option (Int×Bool×W6×W7×W2):=
 (Q77.f N m o).bind fun g=>
 (Q82.f N g.1 g.2.1 g.2.2.1 g.2.2.2).bind fun j=>
 (Q28.f N 1).bind fun k=>
 Q88.l5 N N g.1 g.2.1 1 0 0 j.2.2.1 j.2.2.2 false j.1 j.2.1 k.1 k.2
  (fun h i a b c l e f=>
   bif decide (a<h)then
    some (a,false,[],b,c)
   else
   bif decide (i<0)then
    (Q27.f N e f).bind fun d=>
    some (a,d.1,d.2,b,c)
   else
   some (a,e,f,b,c))
noncomputable def Q88.h5:uB:=⟨[(3,.box [.any,.any]),(4,.any),(5,.any),(6,.mrow .zi),(7,.box [.any,.il .u32 1]),(8,.any),(9,.any),(10,.any)],[(3,.box [.any,.any]),(4,.any),(7,.box [.any,.il .u32 1]),(8,.any),(9,.any)]⟩
noncomputable def Q88.h8:uB:=⟨[(3,.box [.any,.any]),(4,.any),(5,.any),(6,.mrow .zi),(7,.box [.any,.il .u32 1]),(8,.any),(9,.any),(10,.any),(11,.any)],[(3,.box [.any,.any]),(4,.any),(5,.any),(6,.mrow .zi),(7,.box [.any,.il .u32 1]),(8,.any),(9,.any),(10,.any),(11,.any)]⟩
noncomputable def Q88.h15:uB:=⟨[(3,.box [.any,.any]),(4,.any),(5,.any),(6,.mrow .zi),(7,.box [.any,.il .u32 1]),(8,.any),(9,.any),(10,.any),(12,.any)],[(3,.box [.any,.any]),(4,.any),(5,.any),(6,.mrow .zi),(7,.box [.any,.il .u32 1]),(8,.any),(9,.any),(10,.any)]⟩
noncomputable def Q88.h18:uB:=⟨[(3,.box [.any,.any]),(4,.any),(5,.any),(6,.mrow .zi),(7,.box [.any,.il .u32 1]),(8,.any),(9,.any),(10,.any),(12,.any),(13,.any)],[(3,.box [.any,.any]),(4,.any),(5,.any),(6,.mrow .zi),(7,.box [.any,.il .u32 1]),(8,.any),(9,.any),(10,.any),(12,.any)]⟩
noncomputable def Q88.c8 (N:Nat):mF:=⟨fun vs H k=>match vs,H with
 | [.ptr 2 0 2,.c (.int .i64 a),.c (.int .i64 b),.sw 4 1,.ptr 5 0 2,.c (.int .i64 c),.c (.int .i64 d),.c (.int .i64 e),.c (.int .i64 f)],[.po 2 1 g,.pool .zi h,.vals [.c (.bool i),.c (.slice none 0 0)],.pool .zi j,.po 2 3 l,.vals [.c (.bool m),.il .u32 1 o]]=>Q88.l8 N N a b c d e f g h i j l m o (fun p q r s t u v w x y z x43 x44=>k (.exit 2) ⟨tB Q88.h8.out [.ptr 2 0 2,.c (.int .i64 p),.c (.int .i64 q),.sw 4 1,.ptr 5 0 2,.c (.int .i64 r),.c (.int .i64 s),.c (.int .i64 t),.c (.int .i64 u)],[.po 2 1 v,.pool .zi w,.vals [.c (.bool x),.c (.slice none 0 0)],.pool .zi y,.po 2 3 z,.vals [.c (.bool x43),.il .u32 1 x44]]⟩)
 |_,_=>none⟩
noncomputable def Q88.c18 (N:Nat):mF:=⟨fun vs H k=>match vs,H with
 | [.ptr 2 0 2,.c (.int .i64 c),.c (.int .i64 d),.sw 4 1,.ptr 5 0 2,.c (.int .i64 e),.c (.int .i64 f),.c (.int .i64 g),.c (.int .i64 h),.c (.int .i64 i)],[.po 2 1 j,.pool .zi l,.vals [.c (.bool m),.c (.slice none 0 0)],.pool .zi o,.po 2 3 p,.vals [.c (.bool q),.il .u32 1 r]]=>Q88.l18 N N c d e f g h i j l m o p q r (fun s t u v w x y z x97 x98 x99 a b=>k (.exit 6) ⟨tB Q88.h18.out [.ptr 2 0 2,.c (.int .i64 s),.c (.int .i64 t),.sw 4 1,.ptr 5 0 2,.c (.int .i64 u),.c (.int .i64 v),.c (.int .i64 w),.c (.int .i64 x)],[.po 2 1 y,.pool .zi z,.vals [.c (.bool x97),.c (.slice none 0 0)],.pool .zi x98,.po 2 3 x99,.vals [.c (.bool a),.il .u32 1 b]]⟩)
 |_,_=>none⟩
noncomputable def Q88.c15 (N:Nat):mF:=⟨fun vs H k=>match vs,H with
 | [.ptr 2 0 2,.c (.int .i64 o),.c (.int .i64 p),.sw 4 1,.ptr 5 0 2,.c (.int .i64 q),.c (.int .i64 r),.c (.int .i64 s),.c (.int .i64 t)],[.po 2 1 u,.pool .zi v,.vals [.c (.bool w),.c (.slice none 0 0)],.pool .zi x,.po 2 3 y,.vals [.c (.bool z),.il .u32 1 x70]]=>Q88.l15 N N o p q r s t u v w x y z x70 (fun a b c d e f g h i j l m=>k (.exit 4) ⟨tB Q88.h15.out [.ptr 2 0 2,.c (.int .i64 a),.c (.int .i64 b),.sw 4 1,.ptr 5 0 2,.c (.int .i64 c),.c (.int .i64 d),.c (.int .i64 e)],[.po 2 1 f,.pool .zi g,.vals [.c (.bool h),.c (.slice none 0 0)],.pool .zi i,.po 2 3 j,.vals [.c (.bool l),.il .u32 1 m]]⟩)
 |_,_=>none⟩
noncomputable def Q88.c5 (N:Nat):mF:=⟨fun vs H k=>match vs,H with
 | [.ptr 2 0 2,.c (.int .i64 s),.c (.int .i64 t),.sw 4 1,.ptr 5 0 2,.c (.int .i64 u),.c (.int .i64 v),.c (.int .i64 i)],[.po 2 1 j,.pool .zi l,.vals [.c (.bool m),.c (.slice none 0 0)],.pool .zi o,.po 2 3 p,.vals [.c (.bool q),.il .u32 1 r]]=>Q88.l5 N N s t u v i j l m o p q r (fun a b c d e f g h=>k (.exit 0) ⟨tB Q88.h5.out [.ptr 2 0 2,.c (.int .i64 a),.ptr 3 0 2,.c (.int .i64 b),.c (.int .i64 c)],[.po 2 1 d,.pool .zi e,.vals [.c (.bool f),.c (.slice none 0 0)],.vals [.c (.bool g),.il .u32 1 h]]⟩)
 |_,_=>none⟩
noncomputable def Q88.E (N:Nat):aC:=mD [(4,oz),(26,kE),(33,aK),(39,nD),(45,gJ),(47,rN)] [(45,Q77.ent N),(30,Q82.ent N),(10,Q28.ent N),(41,Q24.ent N),(42,Q33.ent N),(43,Q32.ent N),(44,Q35.ent N),(48,Q27.ent N)] [(5,Q88.h5),(8,Q88.h8),(15,Q88.h15),(18,Q88.h18)] [(8,Q88.c8 N),(18,Q88.c18 N),(15,Q88.c15 N),(5,Q88.c5 N)] N [.tmp 2,.cell 3 39] [.any,.recd [.any,.il .u32 1]] 2 179
noncomputable def Q88.b8:Code:=mA ((cA (bo Tryz.f33)).getD 1 .skip)
theorem Q88.l8_eq {R:Type}(N n:Nat)(a b c d e f:Int)(g:W7)(h:W2)(i:Bool)(j:W2)(l:W7)(m:Bool)(o:W6)(k:Ex→St→Option R):
  vA 2 Q88.h8 (fun s k=>tA (Q88.E N) 385 Q88.b8 s k) n [.ptr 2 0 2,.c (.int .i64 a),.c (.int .i64 b),.sw 4 1,.ptr 5 0 2,.c (.int .i64 c),.c (.int .i64 d),.c (.int .i64 e),.c (.int .i64 f)] [.po 2 1 g,.pool .zi h,.vals [.c (.bool i),.c (.slice none 0 0)],.pool .zi j,.po 2 3 l,.vals [.c (.bool m),.il .u32 1 o]] k=Q88.l8 N n a b c d e f g h i j l m o (fun p q r t u v w x y z x42 x43 x44=>k (.exit 2) ⟨tB Q88.h8.out [.ptr 2 0 2,.c (.int .i64 p),.c (.int .i64 q),.sw 4 1,.ptr 5 0 2,.c (.int .i64 r),.c (.int .i64 t),.c (.int .i64 u),.c (.int .i64 v)],[.po 2 1 w,.pool .zi x,.vals [.c (.bool y),.c (.slice none 0 0)],.pool .zi z,.po 2 3 x42,.vals [.c (.bool x43),.il .u32 1 x44]]⟩):=by
 induction n generalizing a b c d e f g h i j l m o with
 |zero=>kernel_rfl
 |succ n ih=>
  simp only[Q88.l8,←ih]
  kernel_rfl
noncomputable def Q88.b18:Code:=mA ((cA (bo Tryz.f33)).getD 3 .skip)
theorem Q88.l18_eq {R:Type}(N n:Nat)(a b c d e f g:Int)(h:W7)(i:W2)(j:Bool)(l:W2)(m:W7)(o:Bool)(p:W6)(k:Ex→St→Option R):
  vA 2 Q88.h18 (fun s k=>tA (Q88.E N) 374 Q88.b18 s k) n [.ptr 2 0 2,.c (.int .i64 a),.c (.int .i64 b),.sw 4 1,.ptr 5 0 2,.c (.int .i64 c),.c (.int .i64 d),.c (.int .i64 e),.c (.int .i64 f),.c (.int .i64 g)] [.po 2 1 h,.pool .zi i,.vals [.c (.bool j),.c (.slice none 0 0)],.pool .zi l,.po 2 3 m,.vals [.c (.bool o),.il .u32 1 p]] k=Q88.l18 N n a b c d e f g h i j l m o p (fun t u v w x y z x96 x97 x98 x99 q r=>k (.exit 6) ⟨tB Q88.h18.out [.ptr 2 0 2,.c (.int .i64 t),.c (.int .i64 u),.sw 4 1,.ptr 5 0 2,.c (.int .i64 v),.c (.int .i64 w),.c (.int .i64 x),.c (.int .i64 y)],[.po 2 1 z,.pool .zi x96,.vals [.c (.bool x97),.c (.slice none 0 0)],.pool .zi x98,.po 2 3 x99,.vals [.c (.bool q),.il .u32 1 r]]⟩):=by
 induction n generalizing a b c d e f g h i j l m o p with
 |zero=>kernel_rfl
 |succ n ih=>
  simp only[Q88.l18,←ih]
  kernel_rfl
noncomputable def Q88.b15:Code:=mA ((cA (bo Tryz.f33)).getD 2 .skip)
theorem Q88.l15_eq {R:Type}(N n:Nat)(a b c d e f:Int)(g:W7)(h:W2)(i:Bool)(j:W2)(l:W7)(m:Bool)(o:W6)(k:Ex→St→Option R):
  vA 2 Q88.h15 (fun s k=>tA (Q88.E N) 381 Q88.b15 s k) n [.ptr 2 0 2,.c (.int .i64 a),.c (.int .i64 b),.sw 4 1,.ptr 5 0 2,.c (.int .i64 c),.c (.int .i64 d),.c (.int .i64 e),.c (.int .i64 f)] [.po 2 1 g,.pool .zi h,.vals [.c (.bool i),.c (.slice none 0 0)],.pool .zi j,.po 2 3 l,.vals [.c (.bool m),.il .u32 1 o]] k=Q88.l15 N n a b c d e f g h i j l m o (fun p q r t u v w x y z x125 x126=>k (.exit 4) ⟨tB Q88.h15.out [.ptr 2 0 2,.c (.int .i64 p),.c (.int .i64 q),.sw 4 1,.ptr 5 0 2,.c (.int .i64 r),.c (.int .i64 t),.c (.int .i64 u)],[.po 2 1 v,.pool .zi w,.vals [.c (.bool x),.c (.slice none 0 0)],.pool .zi y,.po 2 3 z,.vals [.c (.bool x125),.il .u32 1 x126]]⟩):=by
 induction n generalizing a b c d e f g h i j l m o with
 |zero=>kernel_rfl
 |succ n ih=>
  simp only[Q88.l15,←ih]
  kernel_rfl
noncomputable def Q88.b5:Code:=mA ((cA (bo Tryz.f33)).getD 0 .skip)
theorem Q88.l5_eq {R:Type}(N n:Nat)(t u v w a:Int)(b:W7)(c:W2)(d:Bool)(e:W2)(f:W7)(g:Bool)(h:W6)(k:Ex→St→Option R):
  vA 2 Q88.h5 (fun s k=>tA (Q88.E N) 392 Q88.b5 s k) n [.ptr 2 0 2,.c (.int .i64 t),.c (.int .i64 u),.sw 4 1,.ptr 5 0 2,.c (.int .i64 v),.c (.int .i64 w),.c (.int .i64 a)] [.po 2 1 b,.pool .zi c,.vals [.c (.bool d),.c (.slice none 0 0)],.pool .zi e,.po 2 3 f,.vals [.c (.bool g),.il .u32 1 h]] k=Q88.l5 N n t u v w a b c d e f g h (fun i j l m o p q r=>k (.exit 0) ⟨tB Q88.h5.out [.ptr 2 0 2,.c (.int .i64 i),.ptr 3 0 2,.c (.int .i64 j),.c (.int .i64 l)],[.po 2 1 m,.pool .zi o,.vals [.c (.bool p),.c (.slice none 0 0)],.vals [.c (.bool q),.il .u32 1 r]]⟩):=by
 induction n generalizing t u v w a b c d e f g h with
 |zero=>kernel_rfl
 |succ n ih=>
  simp only[Q88.l5,←ih]
  kernel_rfl
noncomputable def Q88.dec (v:V)(bs:List oA):Option (Int×Bool×W6×W7×W2):=match v,bs with
 | .tup [.c (.int .i64 a),.agg [.c (.bool b),.il .u32 1 c]],[.po 2 1 d,.pool .zi e]=>some (a,b,c,d,e)
 |_,_=>none
theorem Q88.f_eq (N:Nat)(a:W7)(b:W2):
  uA (Q88.E N) (bo Tryz.f33) [.agg [.sw 0 1]] [.po 2 1 a,.pool .zi b] Q88.dec=Q88.f N a b:=by kernel_rfl
noncomputable def Q88.ent (N:Nat):rA:={A:=Int×Bool×W6×W7×W2,fresh:=0,imm:=[false],dec:=fun args bs=>match sC (jA bs) [false] args,bs with
 | [.agg [.sw 0 1]],[.po 2 1 a,.pool .zi b]=>some (Q88.f N a b,fun r=>.one (.tup [.c (.int .i64 r.1),.agg [.c (.bool r.2.1),.il .u32 1 r.2.2.1]]) [.po 2 1 r.2.2.2.1,.pool .zi r.2.2.2.2])
 |_,_=>none}
theorem Q88.env (N:Nat):sA Tryz.prog (Q88.E N):=⟨(.cons gI (.cons jB (.cons kD (.cons bB (.cons zC (.cons xE .nil)))))),(.cons (Q77.ent_ok N) (.cons (Q82.ent_ok N) (.cons (Q28.ent_ok N) (.cons (Q24.ent_ok N) (.cons (Q33.ent_ok N) (.cons (Q32.ent_ok N) (.cons (Q35.ent_ok N) (.cons (Q27.ent_ok N) .nil)))))))),fun h=>hA (show false=true from h)⟩
theorem Q88.k18 (N:Nat):eB Tryz.prog Tryz.f33 (Q88.E N) (.loop Q88.b18):=xB (Q88.env N) bA 374 (c:=Q88.c18 N) aA.n fun R vs H k r h=>by unfold Q88.c18 at h;dsimp only at h;split at h;exact⟨_,Q88.l18_eq .. ▸h⟩;cases h
theorem Q88.k15 (N:Nat):eB Tryz.prog Tryz.f33 (Q88.E N) (.loop Q88.b15):=xB (Q88.env N) bA 381 (c:=Q88.c15 N) (aA.of (l:=[(.loop (mA ((cA (bo Tryz.f33)).getD 3 .skip)))]) (by kernel_rfl) (aA.cons (Q88.k18 N) aA.nil)) fun R vs H k r h=>by unfold Q88.c15 at h;dsimp only at h;split at h;exact⟨_,Q88.l15_eq .. ▸h⟩;cases h
theorem Q88.k8 (N:Nat):eB Tryz.prog Tryz.f33 (Q88.E N) (.loop Q88.b8):=xB (Q88.env N) bA 385 (c:=Q88.c8 N) aA.n fun R vs H k r h=>by unfold Q88.c8 at h;dsimp only at h;split at h;exact⟨_,Q88.l8_eq .. ▸h⟩;cases h
theorem Q88.k5 (N:Nat):eB Tryz.prog Tryz.f33 (Q88.E N) (.loop Q88.b5):=xB (Q88.env N) bA 392 (c:=Q88.c5 N) (aA.of (l:=[(.loop (mA ((cA (bo Tryz.f33)).getD 1 .skip))),(.loop (mA ((cA (bo Tryz.f33)).getD 2 .skip))),(.loop (mA ((cA (bo Tryz.f33)).getD 3 .skip)))]) (by kernel_rfl) (aA.cons (Q88.k8 N) (aA.cons (Q88.k15 N) (aA.cons (Q88.k18 N) aA.nil)))) fun R vs H k r h=>by unfold Q88.c5 at h;dsimp only at h;split at h;exact⟨_,Q88.l5_eq .. ▸h⟩;cases h
theorem Q88.spec (N:Nat)(a:W7)(c:W2)(r:Int×Bool×W6×W7×W2)(h:Q88.f N a c=some r):dA Tryz.prog 33 [.agg [.sw 0 1]] [.po 2 1 a,.pool .zi c] (.tup [.c (.int .i64 r.1),.agg [.c (.bool r.2.1),.il .u32 1 r.2.2.1]]) ([.po 2 1 r.2.2.2.1,.pool .zi r.2.2.2.2]):=qA (Q88.env N) bA Tryz.func33 (aA.of (l:=[(.loop (mA ((cA (bo Tryz.f33)).getD 0 .skip))),(.loop (mA ((cA (bo Tryz.f33)).getD 1 .skip))),(.loop (mA ((cA (bo Tryz.f33)).getD 2 .skip))),(.loop (mA ((cA (bo Tryz.f33)).getD 3 .skip)))]) (by kernel_rfl) (aA.cons (Q88.k5 N) (aA.cons (Q88.k8 N) (aA.cons (Q88.k15 N) (aA.cons (Q88.k18 N) aA.nil))))) ((Q88.f_eq ..).trans h) fun v b e=>by unfold Q88.dec at e;split at e<;>cases e;exact⟨rfl,rfl⟩
theorem Q88.ent_ok (N:Nat):pA Tryz.prog 33 (Q88.ent N):=by
 intro args bs a enc h;simp only[Q88.ent]at h;split at h
 ·rename_i hz;have h0:=hB h;have h1:=congrArg Prod.fst h0;have h2:=congrArg Prod.snd h0;dsimp only at h1 h2;subst h2;exact dA.of_asSl (fl:=[false]) (by rw[hz];exact Q88.spec N _ _ a h1)
 ·cases h
noncomputable def Q89.f (N:Nat)(c:W7)(d:W2):Option (Bool×W6×Int×W7×W2):=
 (Q87.f N c d).bind fun a=>
 bif a.1 != 0 then
  some (false,[],a.1,a.2.1,a.2.2)
 else
 (Q88.f N a.2.1 a.2.2).bind fun b=>
 some (b.2.1,b.2.2.1,0,b.2.2.2.1,b.2.2.2.2)
noncomputable def Q89.E (N:Nat):aC:=mD [(4,oz),(26,kE),(39,nD),(47,rN)] [(32,Q87.ent N),(33,Q88.ent N)] [] [] N [.cell 2 39,.tmp 3] [.recd [.any,.il .u32 1],.any] 2 19
noncomputable def Q89.dec (v:V)(bs:List oA):Option (Bool×W6×Int×W7×W2):=match v,bs with
 | .tup [.agg [.c (.bool a),.il .u32 1 b],.c (.int .i64 c)],[.po 2 1 d,.pool .zi e]=>some (a,b,c,d,e)
 |_,_=>none
theorem Q89.f_eq (N:Nat)(a:W7)(b:W2):
  uA (Q89.E N) (bo Tryz.f13) [.agg [.sw 0 1]] [.po 2 1 a,.pool .zi b] Q89.dec=Q89.f N a b:=by kernel_rfl
noncomputable def Q89.ent (N:Nat):rA:={A:=Bool×W6×Int×W7×W2,fresh:=0,imm:=[false],dec:=fun args bs=>match sC (jA bs) [false] args,bs with
 | [.agg [.sw 0 1]],[.po 2 1 a,.pool .zi b]=>some (Q89.f N a b,fun r=>.one (.tup [.agg [.c (.bool r.1),.il .u32 1 r.2.1],.c (.int .i64 r.2.2.1)]) [.po 2 1 r.2.2.2.1,.pool .zi r.2.2.2.2])
 |_,_=>none}
theorem Q89.env (N:Nat):sA Tryz.prog (Q89.E N):=⟨(.cons gI (.cons jB (.cons bB (.cons xE .nil)))),(.cons (Q87.ent_ok N) (.cons (Q88.ent_ok N) .nil)),fun h=>hA (show false=true from h)⟩
theorem Q89.spec (N:Nat)(a:W7)(c:W2)(r:Bool×W6×Int×W7×W2)(h:Q89.f N a c=some r):dA Tryz.prog 13 [.agg [.sw 0 1]] [.po 2 1 a,.pool .zi c] (.tup [.agg [.c (.bool r.1),.il .u32 1 r.2.1],.c (.int .i64 r.2.2.1)]) ([.po 2 1 r.2.2.2.1,.pool .zi r.2.2.2.2]):=qA (Q89.env N) bA Tryz.func13 aA.n ((Q89.f_eq ..).trans h) fun v b e=>by unfold Q89.dec at e;split at e<;>cases e;exact⟨rfl,rfl⟩
theorem Q89.ent_ok (N:Nat):pA Tryz.prog 13 (Q89.ent N):=by
 intro args bs a enc h;simp only[Q89.ent]at h;split at h
 ·rename_i hz;have h0:=hB h;have h1:=congrArg Prod.fst h0;have h2:=congrArg Prod.snd h0;dsimp only at h1 h2;subst h2;exact dA.of_asSl (fl:=[false]) (by rw[hz];exact Q89.spec N _ _ a h1)
 ·cases h
noncomputable def Q90.l7 {R:Type}(N:Nat):Nat→Int→Int→Nat→Int→Int→W7→W2→W5→W7→W6→(Int→Int→W7→W2→W5→W7→W6→Option R)→(W5→Bool→W7→W2→Option R)→Option R
 |0,_,_,_,_,_,_,_,_,_,_,_,_=>none
 |n+1,l,g,c,h,a,d,b,i,j,e,k,kr=>
  bif decide (a<h)then
   bif (decide (0≤a))&&(decide (a<((b.getD c []).length:Int)))then
    (Q29.f N (((b.getD c []).getD a.toNat (false,([]:W6))).1) (((b.getD c []).getD a.toNat (false,([]:W6))).2)).bind fun f=>
    bif !f.2 then
     kr [] false d b
    else
    bif lB (e.length+1) 8 then
     Q90.l7 N n l g c h (fA (a+1)) d b i j (e++[f.1]) k kr
    else none
   else none
  else
  k l g d b i j e
noncomputable def Q90.l3 {R:Type}(N:Nat):Nat→Int→Int→W7→W2→W5→W7→(W7→W2→W5→W7→Option R)→(W5→Bool→W7→W2→Option R)→Option R
 |0,_,_,_,_,_,_,_,_=>none
 |n+1,q,a,b,e,r,s,p,kr=>
  bif decide (a<q)then
   bif (decide (0≤a))&&(decide (a<(b.length:Int)))then
    Q90.l7 N N q a (b.getD a.toNat 0) ((e.getD (b.getD a.toNat 0) []).length:Int) 0 b e r s []
     (fun f g h i c d j=>
      bif lB (d.length+1) 24 then
       Q90.l3 N n f (fA (g+1)) h i (c++[j]) (d++[c.length]) p kr
      else none)
     (fun k l m o=>
      kr k l m o)
   else none
  else
  p b e r s
noncomputable def Q90.f (N:Nat)(i:W7)(j:W2):Option (W5×Bool×W7×W2):=
 Q90.l3 N N (i.length:Int) 0 i j [] []
  (fun a b c d=>
   some (d.map fun q=>(c.getD q []:W6),true,a,b))
  (fun e f g h=>
   some (e,f,g,h))
noncomputable def Q90.h3:uB:=⟨[(4,.mrow (.int .i64)),(13,.mrow .zi),(14,.any),(15,.any)],[(4,.mrow (.int .i64))]⟩
noncomputable def Q90.h7:uB:=⟨[(4,.mrow (.int .i64)),(7,.row .i64 1),(13,.mrow .zi),(14,.any),(15,.any),(19,.any),(20,.any),(21,.any)],[(4,.mrow (.int .i64)),(7,.row .i64 1),(13,.mrow .zi),(14,.any),(15,.any)]⟩
noncomputable def Q90.c7 (N:Nat):mF:=⟨fun vs H k=>match vs,H with
 | [.sw 3 1,.sw 4 1,.sw 0 1,.c (.int .i64 w),.c (.int .i64 a),.rp 1 b 2,.c (.int .i64 c),.c (.int .i64 d)],[.po 2 1 e,.pool .zi f,.pool (.int .i64) g,.po 1 2 h,.ints .i64 i]=>Q90.l7 N N w a b c d e f g h i (fun p q r s t u v=>k (.exit 2) ⟨tB Q90.h7.out [.sw 3 1,.sw 4 1,.sw 0 1,.c (.int .i64 p),.c (.int .i64 q)],[.po 2 1 r,.pool .zi s,.pool (.int .i64) t,.po 1 2 u,.ints .i64 v]⟩) (fun j l m o=>k (.ret (.tup [.inl .i64 1 j,.c (.bool l)]) [.po 2 1 m,.pool .zi o]) .nil)
 |_,_=>none⟩
noncomputable def Q90.c3 (N:Nat):mF:=⟨fun vs H k=>match vs,H with
 | [.sw 3 1,.sw 0 1,.c (.int .i64 i),.c (.int .i64 j)],[.po 2 1 l,.pool .zi m,.pool (.int .i64) o,.po 1 2 p]=>Q90.l3 N N i j l m o p (fun e f g h=>k (.exit 0) ⟨tB Q90.h3.out [.sw 3 1],[.po 2 1 e,.pool .zi f,.pool (.int .i64) g,.po 1 2 h]⟩) (fun a b c d=>k (.ret (.tup [.inl .i64 1 a,.c (.bool b)]) [.po 2 1 c,.pool .zi d]) .nil)
 |_,_=>none⟩
noncomputable def Q90.E (N:Nat):aC:=mD [(2,iW),(22,eL),(33,aK),(39,nD),(43,nJ),(45,gJ),(47,rN)] [(61,Q29.ent N)] [(3,Q90.h3),(7,Q90.h7)] [(7,Q90.c7 N),(3,Q90.c3 N)] N [.tmp 2,.tmp 3] [.inl .i64 1,.any] 2 43
noncomputable def Q90.b7:Code:=mA ((cA (bo Tryz.f52)).getD 1 .skip)
theorem Q90.l7_eq {R:Type}(N n:Nat)(x a:Int)(b:Nat)(c d:Int)(e:W7)(f:W2)(g:W5)(h:W7)(i:W6)(k:Ex→St→Option R):
  vA 2 Q90.h7 (fun s k=>tA (Q90.E N) 384 Q90.b7 s k) n [.sw 3 1,.sw 4 1,.sw 0 1,.c (.int .i64 x),.c (.int .i64 a),.rp 1 b 2,.c (.int .i64 c),.c (.int .i64 d)] [.po 2 1 e,.pool .zi f,.pool (.int .i64) g,.po 1 2 h,.ints .i64 i] k=Q90.l7 N n x a b c d e f g h i (fun p q r t u v w=>k (.exit 2) ⟨tB Q90.h7.out [.sw 3 1,.sw 4 1,.sw 0 1,.c (.int .i64 p),.c (.int .i64 q)],[.po 2 1 r,.pool .zi t,.pool (.int .i64) u,.po 1 2 v,.ints .i64 w]⟩) (fun j l m o=>k (.ret (.tup [.inl .i64 1 j,.c (.bool l)]) [.po 2 1 m,.pool .zi o]) .nil):=by
 induction n generalizing x a b c d e f g h i with
 |zero=>kernel_rfl
 |succ n ih=>
  simp only[Q90.l7,←ih]
  kernel_rfl
noncomputable def Q90.b3:Code:=mA ((cA (bo Tryz.f52)).getD 0 .skip)
theorem Q90.l3_eq {R:Type}(N n:Nat)(a b:Int)(l:W7)(m:W2)(o:W5)(p:W7)(k:Ex→St→Option R):
  vA 2 Q90.h3 (fun s k=>tA (Q90.E N) 394 Q90.b3 s k) n [.sw 3 1,.sw 0 1,.c (.int .i64 a),.c (.int .i64 b)] [.po 2 1 l,.pool .zi m,.pool (.int .i64) o,.po 1 2 p] k=Q90.l3 N n a b l m o p (fun g h i j=>k (.exit 0) ⟨tB Q90.h3.out [.sw 3 1],[.po 2 1 g,.pool .zi h,.pool (.int .i64) i,.po 1 2 j]⟩) (fun c d e f=>k (.ret (.tup [.inl .i64 1 c,.c (.bool d)]) [.po 2 1 e,.pool .zi f]) .nil):=by
 induction n generalizing a b l m o p with
 |zero=>kernel_rfl
 |succ n ih=>
  simp only[Q90.l3,←ih]
  kernel_rfl
noncomputable def Q90.dec (v:V)(bs:List oA):Option (W5×Bool×W7×W2):=match v,bs with
 | .tup [.inl .i64 1 a,.c (.bool b)],[.po 2 1 c,.pool .zi d]=>some (a,b,c,d)
 |_,_=>none
theorem Q90.f_eq (N:Nat)(a:W7)(b:W2):
  uA (Q90.E N) (bo Tryz.f52) [.agg [.sw 0 1]] [.po 2 1 a,.pool .zi b] Q90.dec=Q90.f N a b:=by kernel_rfl
noncomputable def Q90.ent (N:Nat):rA:={A:=W5×Bool×W7×W2,fresh:=0,imm:=[false],dec:=fun args bs=>match sC (jA bs) [false] args,bs with
 | [.agg [.sw 0 1]],[.po 2 1 a,.pool .zi b]=>some (Q90.f N a b,fun r=>.one (.tup [.inl .i64 1 r.1,.c (.bool r.2.1)]) [.po 2 1 r.2.2.1,.pool .zi r.2.2.2])
 |_,_=>none}
theorem Q90.env (N:Nat):sA Tryz.prog (Q90.E N):=⟨(.cons sE (.cons yD (.cons kD (.cons bB (.cons cD (.cons zC (.cons xE .nil))))))),(.cons (Q29.ent_ok N) .nil),fun h=>hA (show false=true from h)⟩
theorem Q90.k7 (N:Nat):eB Tryz.prog Tryz.f52 (Q90.E N) (.loop Q90.b7):=xB (Q90.env N) bA 384 (c:=Q90.c7 N) aA.n fun R vs H k r h=>by unfold Q90.c7 at h;dsimp only at h;split at h;exact⟨_,Q90.l7_eq .. ▸h⟩;cases h
theorem Q90.k3 (N:Nat):eB Tryz.prog Tryz.f52 (Q90.E N) (.loop Q90.b3):=xB (Q90.env N) bA 394 (c:=Q90.c3 N) (aA.of (l:=[(.loop (mA ((cA (bo Tryz.f52)).getD 1 .skip)))]) (by kernel_rfl) (aA.cons (Q90.k7 N) aA.nil)) fun R vs H k r h=>by unfold Q90.c3 at h;dsimp only at h;split at h;exact⟨_,Q90.l3_eq .. ▸h⟩;cases h
theorem Q90.spec (N:Nat)(a:W7)(c:W2)(r:W5×Bool×W7×W2)(h:Q90.f N a c=some r):dA Tryz.prog 52 [.agg [.sw 0 1]] [.po 2 1 a,.pool .zi c] (.tup [.inl .i64 1 r.1,.c (.bool r.2.1)]) ([.po 2 1 r.2.2.1,.pool .zi r.2.2.2]):=qA (Q90.env N) bA Tryz.func52 (aA.of (l:=[(.loop (mA ((cA (bo Tryz.f52)).getD 0 .skip))),(.loop (mA ((cA (bo Tryz.f52)).getD 1 .skip)))]) (by kernel_rfl) (aA.cons (Q90.k3 N) (aA.cons (Q90.k7 N) aA.nil))) ((Q90.f_eq ..).trans h) fun v b e=>by unfold Q90.dec at e;split at e<;>cases e;exact⟨rfl,rfl⟩
theorem Q90.ent_ok (N:Nat):pA Tryz.prog 52 (Q90.ent N):=by
 intro args bs a enc h;simp only[Q90.ent]at h;split at h
 ·rename_i hz;have h0:=hB h;have h1:=congrArg Prod.fst h0;have h2:=congrArg Prod.snd h0;dsimp only at h1 h2;subst h2;exact dA.of_asSl (fl:=[false]) (by rw[hz];exact Q90.spec N _ _ a h1)
 ·cases h
noncomputable def Q91.f (N:Nat)(a:W5):Option (W6×Int):=
 (Q69.f N a).bind fun b=>
 bif b != 0 then
  some ([],b)
 else
 (Q83.f N a).bind fun c=>
 (Q89.f N c.2.1 c.1).bind fun d=>
 (Q26.f N d.1 d.2.1).bind fun e=>
 some (e,0)
noncomputable def Q91.E (N:Nat):aC:=mD [(24,zL),(26,kE),(39,nD),(47,rN)] [(11,Q69.ent N),(12,Q83.ent N),(13,Q89.ent N),(14,Q26.ent N)] [] [] N [.cell 2 26,.tmp 3] [.recd [.il .u32 1],.any] 0 27
noncomputable def Q91.dec (v:V)(bs:List oA):Option (W6×Int):=match v,bs with
 | .tup [.agg [.il .u32 1 a],.c (.int .i64 b)],[]=>some (a,b)
 |_,_=>none
theorem Q91.f_eq (N:Nat)(a:W5):
  uA (Q91.E N) (bo Tryz.f5) [.inl .i64 1 a] [] Q91.dec=Q91.f N a:=by kernel_rfl
noncomputable def Q91.ent (N:Nat):rA:=tF (W6×Int) 0 [true] [.inl .i64 1] fun
 | [.inl .i64 1 a]=>some (Q91.f N a,fun r=>.one (.tup [.agg [.il .u32 1 r.1],.c (.int .i64 r.2)]) [])
 |_=>none
theorem Q91.env (N:Nat):sA Tryz.prog (Q91.E N):=⟨(.cons gE (.cons jB (.cons bB (.cons xE .nil)))),(.cons (Q69.ent_ok N) (.cons (Q83.ent_ok N) (.cons (Q89.ent_ok N) (.cons (Q26.ent_ok N) .nil)))),fun h=>hA (show false=true from h)⟩
theorem Q91.spec (N:Nat)(a:W5)(r:W6×Int)(h:Q91.f N a=some r):dA Tryz.prog 5 [.inl .i64 1 a] [] (.tup [.agg [.il .u32 1 r.1],.c (.int .i64 r.2)]) ([]):=qA (Q91.env N) bA Tryz.func5 aA.n ((Q91.f_eq ..).trans h) fun v b e=>by unfold Q91.dec at e;split at e<;>cases e;exact⟨rfl,rfl⟩
theorem Q91.ent_ok (N:Nat):pA Tryz.prog 5 (Q91.ent N):=xA fun v a e h=>by split at h;exact gC (Q:=fun e=>dA _ _ _ _ (e a).pick.1 (e a).pick.2) h fun k=>Q91.spec N _ a k;cases h
noncomputable def Q92.f (N:Nat)(d e:Int)(a:Bool)(b c:W6):Option (Bool×W6×W6×Bool×W6×W6):=
 bif d==e then
  some (a,b,c,a,b,c)
 else
 some (false,[],[],a,b,c)
noncomputable def Q92.E (N:Nat):aC:=mD [(26,kE),(39,nD),(104,mG)] [] [] [] N [.cell 5 104] [.recd [.any,.il .u32 1,.il .u32 1]] 1 11
noncomputable def Q92.dec (v:V)(bs:List oA):Option (Bool×W6×W6×Bool×W6×W6):=match v,bs with
 | .agg [.c (.bool a),.il .u32 1 b,.il .u32 1 c],[.vals [.c (.bool d),.il .u32 1 e,.il .u32 1 f]]=>some (a,b,c,d,e,f)
 |_,_=>none
theorem Q92.f_eq (N:Nat)(a b:Int)(c:Bool)(d e:W6):
  uA (Q92.E N) (bo Tryz.f76) [.c (.int .i64 a),.c (.int .i64 b),.ptr 0 0 3] [.vals [.c (.bool c),.il .u32 1 d,.il .u32 1 e]] Q92.dec=Q92.f N a b c d e:=by kernel_rfl
noncomputable def Q92.ent (N:Nat):rA:={A:=Bool×W6×W6×Bool×W6×W6,fresh:=0,imm:=[true,true,false],dec:=fun args bs=>match sC (jA bs) [false,false,false] args,bs with
 | [.c (.int .i64 a),.c (.int .i64 b),.ptr 0 0 3],[.vals [.c (.bool c),.il .u32 1 d,.il .u32 1 e]]=>some (Q92.f N a b c d e,fun r=>.one (.agg [.c (.bool r.1),.il .u32 1 r.2.1,.il .u32 1 r.2.2.1]) [.vals [.c (.bool r.2.2.2.1),.il .u32 1 r.2.2.2.2.1,.il .u32 1 r.2.2.2.2.2]])
 |_,_=>none}
theorem Q92.env (N:Nat):sA Tryz.prog (Q92.E N):=⟨(.cons jB (.cons bB (.cons oC .nil))),.nil,fun h=>hA (show false=true from h)⟩
theorem Q92.spec (N:Nat)(a c:Int)(d:Bool)(f g:W6)(r:Bool×W6×W6×Bool×W6×W6)(h:Q92.f N a c d f g=some r):dA Tryz.prog 76 [.c (.int .i64 a),.c (.int .i64 c),.ptr 0 0 3] [.vals [.c (.bool d),.il .u32 1 f,.il .u32 1 g]] (.agg [.c (.bool r.1),.il .u32 1 r.2.1,.il .u32 1 r.2.2.1]) ([.vals [.c (.bool r.2.2.2.1),.il .u32 1 r.2.2.2.2.1,.il .u32 1 r.2.2.2.2.2]]):=qA (Q92.env N) bA Tryz.func76 aA.n ((Q92.f_eq ..).trans h) fun v b e=>by unfold Q92.dec at e;split at e<;>cases e;exact⟨rfl,rfl⟩
theorem Q92.ent_ok (N:Nat):pA Tryz.prog 76 (Q92.ent N):=by
 intro args bs a enc h;simp only[Q92.ent]at h;split at h
 ·rename_i hz;have h0:=hB h;have h1:=congrArg Prod.fst h0;have h2:=congrArg Prod.snd h0;dsimp only at h1 h2;subst h2;exact dA.of_asSl (fl:=[false,false,false]) (by rw[hz];exact Q92.spec N _ _ _ _ _ a h1)
 ·cases h
noncomputable def Q93.l7 {R:Type}(N:Nat):Nat→Int→Int→Int→Int→Int→Int→Bool→W6→W6→W0→W7→W1→(Int→Int→Int→Bool→W6→W6→W0→W7→W1→Option R)→Option R
 |0,_,_,_,_,_,_,_,_,_,_,_,_,_=>none
 |n+1,d,e,f,g,h,b,i,j,k,l,m,c,o=>
  bif decide (b<h)then
   (Q92.f N e b i j k).bind fun a=>
   bif (decide (0≤b))&&(decide (b<(c.length:Int)))then
    Q93.l7 N n d e f g h (fA (b+1)) a.2.2.2.1 a.2.2.2.2.1 a.2.2.2.2.2 l m (c.set b.toNat (a.1,a.2.1,a.2.2.1)) o
   else none
  else
  o d f g i j k l m c
noncomputable def Q93.l3 {R:Type}(N:Nat):Nat→Int→Int→Int→Bool→W6→W6→W0→W7→(Bool→W6→W6→W0→W7→Option R)→Option R
 |0,_,_,_,_,_,_,_,_,_=>none
 |n+1,a,q,g,r,s,b,c,d,p=>
  bif decide (g<q)then
   bif dG a a&&decide (0≤a)&&decide (a≤9223372036854775807)&&lB a.toNat 56 then
    Q93.l7 N N a g q g ((hC a.toNat (false,([]:W6),([]:W6))).length:Int) 0 r s b c d (hC a.toNat (false,([]:W6),([]:W6)))
     (fun h i j k l m e f o=>
      bif lB (f.length+1) 24 then
       Q93.l3 N n h i (fA (j+1)) k l m (e++[o]) (f++[e.length]) p
      else none)
   else none
  else
  p r s b c d
noncomputable def Q93.f (N:Nat)(f:Int)(g:Bool)(h i:W6):Option (W0×W7×Bool×W6×W6):=
 Q93.l3 N N f f 0 g h i [] []
  (fun a b c d e=>
   some (d,e,a,b,c))
noncomputable def Q93.h3:uB:=⟨[(0,.any),(1,.any),(5,.mrow .qr),(9,.any),(10,.any)],[(5,.mrow .qr)]⟩
noncomputable def Q93.h7:uB:=⟨[(0,.any),(1,.any),(5,.mrow .qr),(6,.any),(7,.any),(9,.any),(10,.any),(16,.any),(17,.any)],[(0,.any),(1,.any),(5,.mrow .qr),(7,.any),(9,.any),(10,.any)]⟩
noncomputable def Q93.c7 (N:Nat):mF:=⟨fun vs H k=>match vs,H with
 | [.c (.int .i64 a),.fn 76 [] [.ptr 0 0 3],.sw 2 1,.c (.int .i64 b),.sw 3 3,.c (.int .i64 c),.c (.int .i64 d),.c (.int .i64 e),.c (.int .i64 f)],[.vals [.c (.bool g),.il .u32 1 h,.il .u32 1 i],.pool .qr j,.po 3 1 l,.tw .qr m]=>Q93.l7 N N a b c d e f g h i j l m (fun o p q r s t u v w=>k (.exit 2) ⟨tB Q93.h7.out [.c (.int .i64 o),.fn 76 [] [.ptr 0 0 3],.sw 2 1,.sw 3 3,.c (.int .i64 p),.c (.int .i64 q)],[.vals [.c (.bool r),.il .u32 1 s,.il .u32 1 t],.pool .qr u,.po 3 1 v,.tw .qr w]⟩)
 |_,_=>none⟩
noncomputable def Q93.c3 (N:Nat):mF:=⟨fun vs H k=>match vs,H with
 | [.c (.int .i64 i),.fn 76 [] [.ptr 0 0 3],.sw 2 1,.c (.int .i64 j),.c (.int .i64 l)],[.vals [.c (.bool m),.il .u32 1 o,.il .u32 1 a],.pool .qr b,.po 3 1 c]=>Q93.l3 N N i j l m o a b c (fun d e f g h=>k (.exit 0) ⟨tB Q93.h3.out [.sw 2 1],[.vals [.c (.bool d),.il .u32 1 e,.il .u32 1 f],.pool .qr g,.po 3 1 h]⟩)
 |_,_=>none⟩
noncomputable def Q93.E (N:Nat):aC:=mD [(96,C3),(97,vr),(104,mG)] [(76,Q92.ent N)] [(3,Q93.h3),(7,Q93.h7)] [(7,Q93.c7 N),(3,Q93.c3 N)] N [.tmp 4] [.mrow .qr] 1 34 true
noncomputable def Q93.b7:Code:=mA ((cA (bo Tryz.f75)).getD 1 .skip)
theorem Q93.l7_eq {R:Type}(N n:Nat)(a b c d e f:Int)(g:Bool)(h i:W6)(j:W0)(l:W7)(m:W1)(k:Ex→St→Option R):
  vA 1 Q93.h7 (fun s k=>tA (Q93.E N) 384 Q93.b7 s k) n [.c (.int .i64 a),.fn 76 [] [.ptr 0 0 3],.sw 2 1,.c (.int .i64 b),.sw 3 3,.c (.int .i64 c),.c (.int .i64 d),.c (.int .i64 e),.c (.int .i64 f)] [.vals [.c (.bool g),.il .u32 1 h,.il .u32 1 i],.pool .qr j,.po 3 1 l,.tw .qr m] k=Q93.l7 N n a b c d e f g h i j l m (fun o p q r t u v w x=>k (.exit 2) ⟨tB Q93.h7.out [.c (.int .i64 o),.fn 76 [] [.ptr 0 0 3],.sw 2 1,.sw 3 3,.c (.int .i64 p),.c (.int .i64 q)],[.vals [.c (.bool r),.il .u32 1 t,.il .u32 1 u],.pool .qr v,.po 3 1 w,.tw .qr x]⟩):=by
 induction n generalizing a b c d e f g h i j l m with
 |zero=>kernel_rfl
 |succ n ih=>
  simp only[Q93.l7,←ih]
  kernel_rfl
noncomputable def Q93.b3:Code:=mA ((cA (bo Tryz.f75)).getD 0 .skip)
theorem Q93.l3_eq {R:Type}(N n:Nat)(i j l:Int)(m:Bool)(o a:W6)(b:W0)(c:W7)(k:Ex→St→Option R):
  vA 1 Q93.h3 (fun s k=>tA (Q93.E N) 394 Q93.b3 s k) n [.c (.int .i64 i),.fn 76 [] [.ptr 0 0 3],.sw 2 1,.c (.int .i64 j),.c (.int .i64 l)] [.vals [.c (.bool m),.il .u32 1 o,.il .u32 1 a],.pool .qr b,.po 3 1 c] k=Q93.l3 N n i j l m o a b c (fun d e f g h=>k (.exit 0) ⟨tB Q93.h3.out [.sw 2 1],[.vals [.c (.bool d),.il .u32 1 e,.il .u32 1 f],.pool .qr g,.po 3 1 h]⟩):=by
 induction n generalizing i j l m o a b c with
 |zero=>kernel_rfl
 |succ n ih=>
  simp only[Q93.l3,←ih]
  kernel_rfl
noncomputable def Q93.dec (v:V)(bs:List oA):Option (W0×W7×Bool×W6×W6):=match v,bs with
 | .sw 2 1,[.vals [.c (.bool c),.il .u32 1 d,.il .u32 1 e],.pool .qr a,.po 3 1 b]=>some (a,b,c,d,e)
 |_,_=>none
theorem Q93.f_eq (N:Nat)(a:Int)(b:Bool)(c d:W6):
  uA (Q93.E N) (bo Tryz.f75) [.c (.int .i64 a),.fn 76 [] [.ptr 0 0 3]] [.vals [.c (.bool b),.il .u32 1 c,.il .u32 1 d]] Q93.dec=Q93.f N a b c d:=by kernel_rfl
noncomputable def Q93.ent (N:Nat):rA:={A:=W0×W7×Bool×W6×W6,fresh:=2,imm:=[true,false],dec:=fun args bs=>match sC (jA bs) [false,false] args,bs with
 | [.c (.int .i64 a),.fn 76 [] [.ptr 0 0 3]],[.vals [.c (.bool b),.il .u32 1 c,.il .u32 1 d]]=>some (Q93.f N a b c d,fun r=>.one (.sw 2 1) [.vals [.c (.bool r.2.2.1),.il .u32 1 r.2.2.2.1,.il .u32 1 r.2.2.2.2],.pool .qr r.1,.po 3 1 r.2.1])
 |_,_=>none}
theorem Q93.env (N:Nat):sA Tryz.prog (Q93.E N):=⟨(.cons jW (.cons bT (.cons oC .nil))),(.cons (Q92.ent_ok N) .nil),fun h=>hA (show false=true from h)⟩
theorem Q93.k7 (N:Nat):eB Tryz.prog Tryz.f75 (Q93.E N) (.loop Q93.b7):=xB (Q93.env N) bA 384 (c:=Q93.c7 N) aA.n fun R vs H k r h=>by unfold Q93.c7 at h;dsimp only at h;split at h;exact⟨_,Q93.l7_eq .. ▸h⟩;cases h
theorem Q93.k3 (N:Nat):eB Tryz.prog Tryz.f75 (Q93.E N) (.loop Q93.b3):=xB (Q93.env N) bA 394 (c:=Q93.c3 N) (aA.of (l:=[(.loop (mA ((cA (bo Tryz.f75)).getD 1 .skip)))]) (by kernel_rfl) (aA.cons (Q93.k7 N) aA.nil)) fun R vs H k r h=>by unfold Q93.c3 at h;dsimp only at h;split at h;exact⟨_,Q93.l3_eq .. ▸h⟩;cases h
theorem Q93.spec (N:Nat)(a:Int)(c:Bool)(d f:W6)(r:W0×W7×Bool×W6×W6)(h:Q93.f N a c d f=some r):dA Tryz.prog 75 [.c (.int .i64 a),.fn 76 [] [.ptr 0 0 3]] [.vals [.c (.bool c),.il .u32 1 d,.il .u32 1 f]] (.sw 2 1) ([.vals [.c (.bool r.2.2.1),.il .u32 1 r.2.2.2.1,.il .u32 1 r.2.2.2.2],.pool .qr r.1,.po 3 1 r.2.1]):=qA (Q93.env N) bA Tryz.func75 (aA.of (l:=[(.loop (mA ((cA (bo Tryz.f75)).getD 0 .skip))),(.loop (mA ((cA (bo Tryz.f75)).getD 1 .skip)))]) (by kernel_rfl) (aA.cons (Q93.k3 N) (aA.cons (Q93.k7 N) aA.nil))) ((Q93.f_eq ..).trans h) fun v b e=>by unfold Q93.dec at e;split at e<;>cases e;exact⟨rfl,rfl⟩
theorem Q93.ent_ok (N:Nat):pA Tryz.prog 75 (Q93.ent N):=by
 intro args bs a enc h;simp only[Q93.ent]at h;split at h
 ·rename_i hz;have h0:=hB h;have h1:=congrArg Prod.fst h0;have h2:=congrArg Prod.snd h0;dsimp only at h1 h2;subst h2;exact dA.of_asSl (fl:=[false,false]) (by rw[hz];exact Q93.spec N _ _ _ _ a h1)
 ·cases h
noncomputable def Q94.l16 {R:Type}(N:Nat):Nat→W5→Int→Int→Int→Int→Int→Int→Int→Int→W0→W7→W1→Bool→W6→W6→(W5→Int→Int→Int→Int→Int→Int→W0→W7→W1→Bool→W6→W6→Option R)→Option R
 |0,_,_,_,_,_,_,_,_,_,_,_,_,_,_,_,_=>none
 |n+1,j,d,e,k,l,m,o,p,a,c,b,f,q,r,s,t=>
  bif decide (a<p)then
   bif (decide (0≤d))&&(decide (d<(b.length:Int)))then
    bif (decide (0≤a))&&(decide (a<((c.getD (b.getD d.toNat 0) []).length:Int)))then
     bif (decide (0≤a))&&(decide (a<(f.length:Int)))then
      (Q52.f N (((c.getD (b.getD d.toNat 0) []).getD a.toNat (false,([]:W6),([]:W6))).1) (((c.getD (b.getD d.toNat 0) []).getD a.toNat (false,([]:W6),([]:W6))).2.1) (((c.getD (b.getD d.toNat 0) []).getD a.toNat (false,([]:W6),([]:W6))).2.2) ((f.getD a.toNat (false,([]:W6),([]:W6))).1) ((f.getD a.toNat (false,([]:W6),([]:W6))).2.1) ((f.getD a.toNat (false,([]:W6),([]:W6))).2.2)).bind fun g=>
      bif (decide (0≤e))&&(decide (e<(b.length:Int)))then
       bif (decide (0≤a))&&(decide (a<((c.getD (b.getD e.toNat 0) []).length:Int)))then
        (Q52.f N g.1 g.2.1 g.2.2.1 (((c.getD (b.getD e.toNat 0) []).getD a.toNat (false,([]:W6),([]:W6))).1) (((c.getD (b.getD e.toNat 0) []).getD a.toNat (false,([]:W6),([]:W6))).2.1) (((c.getD (b.getD e.toNat 0) []).getD a.toNat (false,([]:W6),([]:W6))).2.2)).bind fun h=>
        (Q51.f N q r s h.1 h.2.1 h.2.2.1).bind fun i=>
        Q94.l16 N n j d e k l m o p (fA (a+1)) c b f i.1 i.2.1 i.2.2.1 t
       else none
      else none
     else none
    else none
   else none
  else
  t j d e k l m o c b f q r s
noncomputable def Q94.l12 {R:Type}(N:Nat):Nat→W5→Int→Int→Int→Int→Int→W0→W7→W1→(W5→Int→Int→W0→W7→W1→Option R)→Option R
 |0,_,_,_,_,_,_,_,_,_,_=>none
 |n+1,f,g,l,m,o,c,p,q,r,k2=>
  bif decide (c<o)then
   bif (decide (0≤g))&&(decide (g<(f.length:Int)))then
    bif (decide (0≤c))&&(decide (c<((f.getD g.toNat []).length:Int)))then
     (Q28.f N ((f.getD g.toNat []).getD c.toNat 0)).bind fun k=>
     (Q38.f N k.1 k.2).bind fun i=>
     Q94.l16 N N f g c l m o c c 0 p q r i.1 i.2.1 i.2.2
      (fun s a b t u v w h e d x y z=>
       bif a==b then
        bif (decide (0≤a))&&(decide (a<(d.length:Int)))then
         Q94.l12 N n s a t u v (fA (w+1)) h e (d.set a.toNat (x,y,z)) k2
        else none
       else
       bif (decide (0≤a))&&(decide (a<(e.length:Int)))then
        bif (decide (0≤b))&&(decide (b<(d.length:Int)))then
         (Q53.f N x y z ((d.getD b.toNat (false,([]:W6),([]:W6))).1) ((d.getD b.toNat (false,([]:W6),([]:W6))).2.1) ((d.getD b.toNat (false,([]:W6),([]:W6))).2.2)).bind fun j=>
         bif (decide (0≤b))&&(decide (b<((h.getD (e.getD a.toNat 0) []).length:Int)))then
          Q94.l12 N n s a t u v (fA (w+1)) (h.set (e.getD a.toNat 0) ((h.getD (e.getD a.toNat 0) []).set b.toNat (j.1,j.2.1,j.2.2.1))) e d k2
         else none
        else none
       else none)
    else none
   else none
  else
  k2 f l m p q r
noncomputable def Q94.l9 {R:Type}(N:Nat):Nat→W5→Int→Int→W0→W7→W1→(W0→W7→W1→Option R)→Option R
 |0,_,_,_,_,_,_,_=>none
 |n+1,m,k,c,l,a,b,j=>
  bif decide (c<k)then
   Q94.l12 N N m c k c (fA (c+1)) 0 l a b
    (fun d e f g h i=>
     Q94.l9 N n d e (fA (f+1)) g h i j)
  else
  j l a b
noncomputable def Q94.f (N:Nat)(a:W5):Option (W0×W7×W1×Int):=
 (Q69.f N a).bind fun h=>
 bif h != 0 then none else
 (Q28.f N 1).bind fun f=>
 (Q38.f N f.1 f.2).bind fun b=>
 (Q93.f N (a.length:Int) b.1 b.2.1 b.2.2).bind fun g=>
 bif dG (a.length:Int) (a.length:Int)&&decide (0≤(a.length:Int))&&decide ((a.length:Int)≤9223372036854775807)&&lB ((a.length:Int).toNat) 56 then
  Q94.l9 N N a (a.length:Int) 0 g.1 g.2.1 (hC ((a.length:Int).toNat) (false,([]:W6),([]:W6)))
   (fun c d e=>
    some (c,d,e,0))
 else none
noncomputable def Q94.h9:uB:=⟨[(0,.inl .i64 1),(2,.mrow .qr),(3,.any),(28,.any),(29,.any)],[(2,.mrow .qr),(3,.any)]⟩
noncomputable def Q94.h12:uB:=⟨[(0,.inl .i64 1),(2,.mrow .qr),(3,.any),(8,.any),(28,.any),(29,.any),(33,.any),(34,.any)],[(0,.inl .i64 1),(2,.mrow .qr),(3,.any),(28,.any),(29,.any)]⟩
noncomputable def Q94.h16:uB:=⟨[(0,.inl .i64 1),(2,.mrow .qr),(3,.any),(8,.any),(9,.any),(10,.box [.any,.il .u32 1,.il .u32 1]),(28,.any),(29,.any),(33,.any),(34,.any),(46,.any),(47,.any)],[(0,.inl .i64 1),(2,.mrow .qr),(3,.any),(8,.any),(9,.any),(10,.box [.any,.il .u32 1,.il .u32 1]),(28,.any),(29,.any),(33,.any),(34,.any)]⟩
noncomputable def Q94.c16 (N:Nat):mF:=⟨fun vs H k=>match vs,H with
 | [.inl .i64 1 a,.sw 1 1,.sw 2 3,.c (.int .i64 b),.c (.int .i64 c),.ptr 3 0 3,.c (.int .i64 d),.c (.int .i64 e),.c (.int .i64 f),.c (.int .i64 g),.c (.int .i64 h),.c (.int .i64 i)],[.pool .qr j,.po 3 0 l,.tw .qr m,.vals [.c (.bool o),.il .u32 1 p,.il .u32 1 q]]=>Q94.l16 N N a b c d e f g h i j l m o p q (fun r s t u v w x y z x50 x51 x52 x53=>k (.exit 4) ⟨tB Q94.h16.out [.inl .i64 1 r,.sw 1 1,.sw 2 3,.c (.int .i64 s),.c (.int .i64 t),.ptr 3 0 3,.c (.int .i64 u),.c (.int .i64 v),.c (.int .i64 w),.c (.int .i64 x)],[.pool .qr y,.po 3 0 z,.tw .qr x50,.vals [.c (.bool x51),.il .u32 1 x52,.il .u32 1 x53]]⟩)
 |_,_=>none⟩
noncomputable def Q94.c12 (N:Nat):mF:=⟨fun vs H k=>match vs,H with
 | [.inl .i64 1 a,.sw 1 1,.sw 2 3,.c (.int .i64 b),.c (.int .i64 c),.c (.int .i64 d),.c (.int .i64 e),.c (.int .i64 f)],[.pool .qr g,.po 3 0 h,.tw .qr i]=>Q94.l12 N N a b c d e f g h i (fun j l m o p q=>k (.exit 2) ⟨tB Q94.h12.out [.inl .i64 1 j,.sw 1 1,.sw 2 3,.c (.int .i64 l),.c (.int .i64 m)],[.pool .qr o,.po 3 0 p,.tw .qr q]⟩)
 |_,_=>none⟩
noncomputable def Q94.c9 (N:Nat):mF:=⟨fun vs H k=>match vs,H with
 | [.inl .i64 1 f,.sw 1 1,.sw 2 3,.c (.int .i64 g),.c (.int .i64 h)],[.pool .qr i,.po 3 0 a,.tw .qr b]=>Q94.l9 N N f g h i a b (fun c d e=>k (.exit 0) ⟨tB Q94.h9.out [.sw 1 1,.sw 2 3],[.pool .qr c,.po 3 0 d,.tw .qr e]⟩)
 |_,_=>none⟩
noncomputable def Q94.E (N:Nat):aC:=mD [(2,iW),(22,eL),(43,nJ),(96,C3),(97,vr),(104,mG)] [(11,Q69.ent N),(10,Q28.ent N),(74,Q38.ent N),(75,Q93.ent N),(56,Q52.ent N),(58,Q51.ent N),(77,Q53.ent N)] [(9,Q94.h9),(12,Q94.h12),(16,Q94.h16)] [(16,Q94.c16 N),(12,Q94.c12 N),(9,Q94.c9 N)] N [.tmp 2,.tmp 3,.tmp 4] [.mrow .qr,.any,.any] 0 110 true
noncomputable def Q94.b16:Code:=mA ((cA (bo Tryz.f51)).getD 2 .skip)
theorem Q94.l16_eq {R:Type}(N n:Nat)(a:W5)(b c d e f g h i:Int)(j:W0)(l:W7)(m:W1)(o:Bool)(p q:W6)(k:Ex→St→Option R):
  vA 0 Q94.h16 (fun s k=>tA (Q94.E N) 372 Q94.b16 s k) n [.inl .i64 1 a,.sw 1 1,.sw 2 3,.c (.int .i64 b),.c (.int .i64 c),.ptr 3 0 3,.c (.int .i64 d),.c (.int .i64 e),.c (.int .i64 f),.c (.int .i64 g),.c (.int .i64 h),.c (.int .i64 i)] [.pool .qr j,.po 3 0 l,.tw .qr m,.vals [.c (.bool o),.il .u32 1 p,.il .u32 1 q]] k=Q94.l16 N n a b c d e f g h i j l m o p q (fun r t u v w x y z x49 x50 x51 x52 x53=>k (.exit 4) ⟨tB Q94.h16.out [.inl .i64 1 r,.sw 1 1,.sw 2 3,.c (.int .i64 t),.c (.int .i64 u),.ptr 3 0 3,.c (.int .i64 v),.c (.int .i64 w),.c (.int .i64 x),.c (.int .i64 y)],[.pool .qr z,.po 3 0 x49,.tw .qr x50,.vals [.c (.bool x51),.il .u32 1 x52,.il .u32 1 x53]]⟩):=by
 induction n generalizing a b c d e f g h i j l m o p q with
 |zero=>kernel_rfl
 |succ n ih=>
  simp only[Q94.l16,←ih]
  kernel_rfl
noncomputable def Q94.b12:Code:=mA ((cA (bo Tryz.f51)).getD 1 .skip)
theorem Q94.l12_eq {R:Type}(N n:Nat)(a:W5)(b c d e f:Int)(g:W0)(h:W7)(i:W1)(k:Ex→St→Option R):
  vA 0 Q94.h12 (fun s k=>tA (Q94.E N) 382 Q94.b12 s k) n [.inl .i64 1 a,.sw 1 1,.sw 2 3,.c (.int .i64 b),.c (.int .i64 c),.c (.int .i64 d),.c (.int .i64 e),.c (.int .i64 f)] [.pool .qr g,.po 3 0 h,.tw .qr i] k=Q94.l12 N n a b c d e f g h i (fun j l m o p q=>k (.exit 2) ⟨tB Q94.h12.out [.inl .i64 1 j,.sw 1 1,.sw 2 3,.c (.int .i64 l),.c (.int .i64 m)],[.pool .qr o,.po 3 0 p,.tw .qr q]⟩):=by
 induction n generalizing a b c d e f g h i with
 |zero=>kernel_rfl
 |succ n ih=>
  simp only[Q94.l12,←ih]
  kernel_rfl
noncomputable def Q94.b9:Code:=mA ((cA (bo Tryz.f51)).getD 0 .skip)
theorem Q94.l9_eq {R:Type}(N n:Nat)(c:W5)(d e:Int)(i:W0)(a:W7)(b:W1)(k:Ex→St→Option R):
  vA 0 Q94.h9 (fun s k=>tA (Q94.E N) 390 Q94.b9 s k) n [.inl .i64 1 c,.sw 1 1,.sw 2 3,.c (.int .i64 d),.c (.int .i64 e)] [.pool .qr i,.po 3 0 a,.tw .qr b] k=Q94.l9 N n c d e i a b (fun f g h=>k (.exit 0) ⟨tB Q94.h9.out [.sw 1 1,.sw 2 3],[.pool .qr f,.po 3 0 g,.tw .qr h]⟩):=by
 induction n generalizing c d e i a b with
 |zero=>kernel_rfl
 |succ n ih=>
  simp only[Q94.l9,←ih]
  kernel_rfl
noncomputable def Q94.dec (v:V)(bs:List oA):Option (W0×W7×W1×Int):=match v,bs with
 | .tup [.sw 1 1,.sw 2 3,.c (.int .i64 d)],[.pool .qr a,.po 3 0 b,.tw .qr c]=>some (a,b,c,d)
 |_,_=>none
theorem Q94.f_eq (N:Nat)(a:W5):
  uA (Q94.E N) (bo Tryz.f51) [.inl .i64 1 a] [] Q94.dec=Q94.f N a:=by kernel_rfl
noncomputable def Q94.ent (N:Nat):rA:=tF (W0×W7×W1×Int) 3 [true] [.inl .i64 1] fun
 | [.inl .i64 1 a]=>some (Q94.f N a,fun r=>.one (.tup [.sw 1 1,.sw 2 3,.c (.int .i64 r.2.2.2)]) [.pool .qr r.1,.po 3 0 r.2.1,.tw .qr r.2.2.1])
 |_=>none
theorem Q94.env (N:Nat):sA Tryz.prog (Q94.E N):=⟨(.cons sE (.cons yD (.cons cD (.cons jW (.cons bT (.cons oC .nil)))))),(.cons (Q69.ent_ok N) (.cons (Q28.ent_ok N) (.cons (Q38.ent_ok N) (.cons (Q93.ent_ok N) (.cons (Q52.ent_ok N) (.cons (Q51.ent_ok N) (.cons (Q53.ent_ok N) .nil))))))),fun h=>hA (show false=true from h)⟩
theorem Q94.k16 (N:Nat):eB Tryz.prog Tryz.f51 (Q94.E N) (.loop Q94.b16):=xB (Q94.env N) bA 372 (c:=Q94.c16 N) aA.n fun R vs H k r h=>by unfold Q94.c16 at h;dsimp only at h;split at h;exact⟨_,Q94.l16_eq .. ▸h⟩;cases h
theorem Q94.k12 (N:Nat):eB Tryz.prog Tryz.f51 (Q94.E N) (.loop Q94.b12):=xB (Q94.env N) bA 382 (c:=Q94.c12 N) (aA.of (l:=[(.loop (mA ((cA (bo Tryz.f51)).getD 2 .skip)))]) (by kernel_rfl) (aA.cons (Q94.k16 N) aA.nil)) fun R vs H k r h=>by unfold Q94.c12 at h;dsimp only at h;split at h;exact⟨_,Q94.l12_eq .. ▸h⟩;cases h
theorem Q94.k9 (N:Nat):eB Tryz.prog Tryz.f51 (Q94.E N) (.loop Q94.b9):=xB (Q94.env N) bA 390 (c:=Q94.c9 N) (aA.of (l:=[(.loop (mA ((cA (bo Tryz.f51)).getD 1 .skip))),(.loop (mA ((cA (bo Tryz.f51)).getD 2 .skip)))]) (by kernel_rfl) (aA.cons (Q94.k12 N) (aA.cons (Q94.k16 N) aA.nil))) fun R vs H k r h=>by unfold Q94.c9 at h;dsimp only at h;split at h;exact⟨_,Q94.l9_eq .. ▸h⟩;cases h
theorem Q94.spec (N:Nat)(a:W5)(r:W0×W7×W1×Int)(h:Q94.f N a=some r):dA Tryz.prog 51 [.inl .i64 1 a] [] (.tup [.sw 1 1,.sw 2 3,.c (.int .i64 r.2.2.2)]) ([.pool .qr r.1,.po 3 0 r.2.1,.tw .qr r.2.2.1]):=qA (Q94.env N) bA Tryz.func51 (aA.of (l:=[(.loop (mA ((cA (bo Tryz.f51)).getD 0 .skip))),(.loop (mA ((cA (bo Tryz.f51)).getD 1 .skip))),(.loop (mA ((cA (bo Tryz.f51)).getD 2 .skip)))]) (by kernel_rfl) (aA.cons (Q94.k9 N) (aA.cons (Q94.k12 N) (aA.cons (Q94.k16 N) aA.nil)))) ((Q94.f_eq ..).trans h) fun v b e=>by unfold Q94.dec at e;split at e<;>cases e;exact⟨rfl,rfl⟩
theorem Q94.ent_ok (N:Nat):pA Tryz.prog 51 (Q94.ent N):=xA fun v a e h=>by split at h;exact gC (Q:=fun e=>dA _ _ _ _ (e a).pick.1 (e a).pick.2) h fun k=>Q94.spec N _ a k;cases h
noncomputable def Q95.l7 {R:Type}(N:Nat):Nat→Int→Int→W5→(W5→Option R)→(Bool→W5→Option R)→Option R
 |0,_,_,_,_,_=>none
 |n+1,d,a,b,c,kr=>
  bif decide (a<d)then
   bif (decide (0≤a))&&(decide (a<(b.length:Int)))then
    bif decide (((b.getD a.toNat []).length:Int)>100)then
     kr true b
    else
    Q95.l7 N n d (fA (a+1)) b c kr
   else none
  else
  c b
noncomputable def Q95.f (N:Nat)(a:W5):Option (Bool):=
 bif decide ((a.length:Int)>100)then
  some true
 else
 Q95.l7 N N (a.length:Int) 0 a
  (fun d=>
   some false)
  (fun c b=>
   some c)
noncomputable def Q95.h2:uB:=⟨[(0,.any),(6,.any),(7,.any)],[]⟩
noncomputable def Q95.h7:uB:=⟨[(0,.any),(3,.any),(6,.any),(7,.any),(20,.any),(21,.any)],[(0,.any),(6,.any),(7,.any)]⟩
noncomputable def Q95.c7 (N:Nat):mF:=⟨fun vs H k=>match vs,H with
 | [.sw 0 1,.c (.int .i64 0),.c (.int .i64 1),.c (.int .i64 0),.c (.int .i64 a),.c (.int .i64 b)],[.vals [.inl .i64 1 c]]=>Q95.l7 N N a b c (fun f=>k (.exit 2) ⟨tB Q95.h7.out [.sw 0 1,.c (.int .i64 1),.c (.int .i64 0)],[.vals [.inl .i64 1 f]]⟩) (fun d e=>k (.ret (.c (.bool d)) [.vals [.inl .i64 1 e]]) .nil)
 |_,_=>none⟩
noncomputable def Q95.E (N:Nat):aC:=mD [(22,eL),(42,Gz),(43,nJ)] [] [(2,Q95.h2),(7,Q95.h7)] [(7,Q95.c7 N)] 40 [.tmp 2] [.any] 1 35
noncomputable def Q95.b7:Code:=mA ((cA (bo Tryz.f4)).getD 1 .skip)
theorem Q95.l7_eq {R:Type}(N n:Nat)(a b:Int)(c:W5)(k:Ex→St→Option R):
  vA 1 Q95.h7 (fun s k=>tA (Q95.E N) 386 Q95.b7 s k) n [.sw 0 1,.c (.int .i64 0),.c (.int .i64 1),.c (.int .i64 0),.c (.int .i64 a),.c (.int .i64 b)] [.vals [.inl .i64 1 c]] k=Q95.l7 N n a b c (fun f=>k (.exit 2) ⟨tB Q95.h7.out [.sw 0 1,.c (.int .i64 1),.c (.int .i64 0)],[.vals [.inl .i64 1 f]]⟩) (fun d e=>k (.ret (.c (.bool d)) [.vals [.inl .i64 1 e]]) .nil):=by
 induction n generalizing a b c with
 |zero=>kernel_rfl
 |succ n ih=>
  simp only[Q95.l7,←ih]
  kernel_rfl
noncomputable def Q95.dec (v:V)(bs:List oA):Option (Bool):=match v,bs with
 | .c (.bool a),[.vals [.inl .i64 1 _]]=>some a
 |_,_=>none
theorem Q95.f_eq (N:Nat)(a:W5):
  uA (Q95.E N) (bo Tryz.f4) [.sw 0 1] [.vals [.inl .i64 1 a]] Q95.dec=Q95.f N a:=by kernel_rfl
noncomputable def Q95.ent (N:Nat):rA:={A:=Bool,fresh:=0,imm:=[false],dec:=fun args bs=>match sC (jA bs) [false] args,bs with
 | [.sw 0 1],[.vals [.inl .i64 1 a]]=>some (Q95.f N a,fun r=>.one (.c (.bool r)) [.dead])
 |_,_=>none}
theorem Q95.env (N:Nat):sA Tryz.prog (Q95.E N):=⟨(.cons yD (.cons rn (.cons cD .nil))),.nil,fun h=>hA (show false=true from h)⟩
theorem Q95.res_eq (N:Nat):(Q95.E N).res=Tryz.f4.results.toList:=by kernel_rfl
theorem Q95.k7 (N:Nat):eB Tryz.prog Tryz.f4 (Q95.E N) (.loop Q95.b7):=xB (Q95.env N) bA 386 (c:=Q95.c7 N) aA.n fun R vs H k r h=>by unfold Q95.c7 at h;dsimp only at h;split at h;exact⟨_,Q95.l7_eq .. ▸h⟩;cases h
theorem Q95.spec (N:Nat)(a:W5)(r:Bool)(h:Q95.f N a=some r):dA Tryz.prog 4 [.sw 0 1] [.vals [.inl .i64 1 a]] (.c (.bool r)) ([.dead]):=by
 rw[←Q95.f_eq]at h;refine(dS (Q95.env N) bA Tryz.func4 (by kernel_rfl:Tryz.f4.body=some (bo Tryz.f4)) (by kernel_rfl) (Q95.res_eq N) (by kernel_rfl) (by kernel_rfl) (Nat.le_of_ble_eq_true (by kernel_rfl)) (aA.of (l:=[(.loop (mA ((cA (bo Tryz.f4)).getD 0 .skip))),(.loop (mA ((cA (bo Tryz.f4)).getD 1 .skip)))]) (by kernel_rfl) (aA.cons (yf (by kernel_rfl)) (aA.cons (Q95.k7 N) aA.nil))) h).ofKill (n:=1) fun v bs' h1=>?_;unfold Q95.dec at h1;split at h1
 ·cases h1;exact⟨rfl,rfl⟩
 ·cases h1
theorem Q95.ent_ok (N:Nat):pA Tryz.prog 4 (Q95.ent N):=by
 intro args bs a enc h;simp only[Q95.ent]at h;split at h
 ·rename_i hz;have h0:=hB h;have h1:=congrArg Prod.fst h0;have h2:=congrArg Prod.snd h0;dsimp only at h1 h2;subst h2;exact dA.of_asSl (fl:=[false]) (by rw[hz];exact Q95.spec N _ a h1)
 ·cases h
noncomputable def zS:TI:=⟨.struct [(45,0),(45,1),(33,2),(45,3)],4,96,[.slice none 0 0,.slice none 0 0,.slice none 0 0,.slice none 0 0]⟩
theorem fJ:cC Tryz.prog 153 zS:=eC (by kernel_rfl) (by kernel_rfl) (by kernel_rfl) (by kernel_rfl) (by kernel_rfl) (by kernel_rfl) (by kernel_rfl) (eK Tryz.underlying153 (by kernel_rfl) (by kernel_rfl)) (by kernel_rfl)
noncomputable def Q96.f (N:Nat)(a:Bool)(b:W6)(c:Int):Option (Bool×W6):=
 some (a,b)
noncomputable def Q96.E (N:Nat):aC:=mD [(39,nD)] [] [] [] N [.cell 4 39] [.recd [.any,.il .u32 1]] 0 6
noncomputable def Q96.dec (v:V)(bs:List oA):Option (Bool×W6):=match v,bs with
 | .agg [.c (.bool a),.il .u32 1 b],[]=>some (a,b)
 |_,_=>none
theorem Q96.f_eq (N:Nat)(a:Bool)(b:W6)(c:Int):
  uA (Q96.E N) (bo Tryz.f131) [.agg [.c (.bool a),.il .u32 1 b],.c (.int .i64 c)] [] Q96.dec=Q96.f N a b c:=by kernel_rfl
noncomputable def Q96.ent (N:Nat):rA:=tF (Bool×W6) 0 [true,true] [.recd [.any,.il .u32 1],.any] fun
 | [.agg [.c (.bool a),.il .u32 1 b],.c (.int .i64 c)]=>some (Q96.f N a b c,fun r=>.one (.agg [.c (.bool r.1),.il .u32 1 r.2]) [])
 |_=>none
theorem Q96.env (N:Nat):sA Tryz.prog (Q96.E N):=⟨(.cons bB .nil),.nil,fun h=>hA (show false=true from h)⟩
theorem Q96.spec (N:Nat)(a:Bool)(c:W6)(d:Int)(r:Bool×W6)(h:Q96.f N a c d=some r):dA Tryz.prog 131 [.agg [.c (.bool a),.il .u32 1 c],.c (.int .i64 d)] [] (.agg [.c (.bool r.1),.il .u32 1 r.2]) ([]):=qA (Q96.env N) bA Tryz.func131 aA.n ((Q96.f_eq ..).trans h) fun v b e=>by unfold Q96.dec at e;split at e<;>cases e;exact⟨rfl,rfl⟩
theorem Q96.ent_ok (N:Nat):pA Tryz.prog 131 (Q96.ent N):=xA fun v a e h=>by split at h;exact gC (Q:=fun e=>dA _ _ _ _ (e a).pick.1 (e a).pick.2) h fun k=>Q96.spec N _ _ _ a k;cases h
noncomputable def Q97.f (N:Nat)(c:Bool)(d:W6)(e:Bool)(f:W6):Option (Bool×W6):=
 (Q33.f N c d e f).bind fun a=>
 (Q96.f N a.1 a.2.1 a.2.2).bind fun b=>
 some (b.1,b.2)
noncomputable def Q97.E (N:Nat):aC:=mD [(39,nD)] [(42,Q33.ent N),(131,Q96.ent N)] [] [] N [.cell 4 39] [.recd [.any,.il .u32 1]] 0 11
noncomputable def Q97.dec (v:V)(bs:List oA):Option (Bool×W6):=match v,bs with
 | .agg [.c (.bool a),.il .u32 1 b],[]=>some (a,b)
 |_,_=>none
theorem Q97.f_eq (N:Nat)(a:Bool)(b:W6)(c:Bool)(d:W6):
  uA (Q97.E N) (bo Tryz.f130) [.agg [.c (.bool a),.il .u32 1 b],.agg [.c (.bool c),.il .u32 1 d]] [] Q97.dec=Q97.f N a b c d:=by kernel_rfl
noncomputable def Q97.ent (N:Nat):rA:=tF (Bool×W6) 0 [true,true] [.recd [.any,.il .u32 1],.recd [.any,.il .u32 1]] fun
 | [.agg [.c (.bool a),.il .u32 1 b],.agg [.c (.bool c),.il .u32 1 d]]=>some (Q97.f N a b c d,fun r=>.one (.agg [.c (.bool r.1),.il .u32 1 r.2]) [])
 |_=>none
theorem Q97.env (N:Nat):sA Tryz.prog (Q97.E N):=⟨(.cons bB .nil),(.cons (Q33.ent_ok N) (.cons (Q96.ent_ok N) .nil)),fun h=>hA (show false=true from h)⟩
theorem Q97.spec (N:Nat)(a:Bool)(c:W6)(d:Bool)(f:W6)(r:Bool×W6)(h:Q97.f N a c d f=some r):dA Tryz.prog 130 [.agg [.c (.bool a),.il .u32 1 c],.agg [.c (.bool d),.il .u32 1 f]] [] (.agg [.c (.bool r.1),.il .u32 1 r.2]) ([]):=qA (Q97.env N) bA Tryz.func130 aA.n ((Q97.f_eq ..).trans h) fun v b e=>by unfold Q97.dec at e;split at e<;>cases e;exact⟨rfl,rfl⟩
theorem Q97.ent_ok (N:Nat):pA Tryz.prog 130 (Q97.ent N):=xA fun v a e h=>by split at h;exact gC (Q:=fun e=>dA _ _ _ _ (e a).pick.1 (e a).pick.2) h fun k=>Q97.spec N _ _ _ _ a k;cases h
noncomputable def Q98.f (N:Nat)(c:Bool)(d:W6)(e:Bool)(f:W6):Option (Bool×W6):=
 (Q32.f N c d e f).bind fun a=>
 (Q96.f N a.1 a.2.1 a.2.2).bind fun b=>
 some (b.1,b.2)
noncomputable def Q98.E (N:Nat):aC:=mD [(39,nD)] [(43,Q32.ent N),(131,Q96.ent N)] [] [] N [.cell 4 39] [.recd [.any,.il .u32 1]] 0 11
noncomputable def Q98.dec (v:V)(bs:List oA):Option (Bool×W6):=match v,bs with
 | .agg [.c (.bool a),.il .u32 1 b],[]=>some (a,b)
 |_,_=>none
theorem Q98.f_eq (N:Nat)(a:Bool)(b:W6)(c:Bool)(d:W6):
  uA (Q98.E N) (bo Tryz.f132) [.agg [.c (.bool a),.il .u32 1 b],.agg [.c (.bool c),.il .u32 1 d]] [] Q98.dec=Q98.f N a b c d:=by kernel_rfl
noncomputable def Q98.ent (N:Nat):rA:=tF (Bool×W6) 0 [true,true] [.recd [.any,.il .u32 1],.recd [.any,.il .u32 1]] fun
 | [.agg [.c (.bool a),.il .u32 1 b],.agg [.c (.bool c),.il .u32 1 d]]=>some (Q98.f N a b c d,fun r=>.one (.agg [.c (.bool r.1),.il .u32 1 r.2]) [])
 |_=>none
theorem Q98.env (N:Nat):sA Tryz.prog (Q98.E N):=⟨(.cons bB .nil),(.cons (Q32.ent_ok N) (.cons (Q96.ent_ok N) .nil)),fun h=>hA (show false=true from h)⟩
theorem Q98.spec (N:Nat)(a:Bool)(c:W6)(d:Bool)(f:W6)(r:Bool×W6)(h:Q98.f N a c d f=some r):dA Tryz.prog 132 [.agg [.c (.bool a),.il .u32 1 c],.agg [.c (.bool d),.il .u32 1 f]] [] (.agg [.c (.bool r.1),.il .u32 1 r.2]) ([]):=qA (Q98.env N) bA Tryz.func132 aA.n ((Q98.f_eq ..).trans h) fun v b e=>by unfold Q98.dec at e;split at e<;>cases e;exact⟨rfl,rfl⟩
theorem Q98.ent_ok (N:Nat):pA Tryz.prog 132 (Q98.ent N):=xA fun v a e h=>by split at h;exact gC (Q:=fun e=>dA _ _ _ _ (e a).pick.1 (e a).pick.2) h fun k=>Q98.spec N _ _ _ _ a k;cases h
noncomputable def Q99.l10 {R:Type}(N:Nat):Nat→Int→Int→Int→W7→W7→W3→W7→W2→W2→W2→Bool→W6→(Int→Int→W7→W7→W3→W7→W2→W2→W2→Bool→W6→Option R)→Option R
 |0,_,_,_,_,_,_,_,_,_,_,_,_,_=>none
 |n+1,b,f,a,i,j,d,c,k,l,e,m,o,x=>
  bif decide (a<f)then
   bif (decide (0≤b))&&(decide (b<(c.length:Int)))then
    bif (decide (0≤a))&&(decide (a<((e.getD (c.getD b.toNat 0) []).length:Int)))then
     bif (decide (0≤b))&&(decide (b<(c.length:Int)))then
      bif (decide (0≤a))&&(decide (a<((e.getD (c.getD b.toNat 0) []).length:Int)))then
       (Q97.f N (((e.getD (c.getD b.toNat 0) []).getD a.toNat (false,([]:W6))).1) (((e.getD (c.getD b.toNat 0) []).getD a.toNat (false,([]:W6))).2) (((e.getD (c.getD b.toNat 0) []).getD a.toNat (false,([]:W6))).1) (((e.getD (c.getD b.toNat 0) []).getD a.toNat (false,([]:W6))).2)).bind fun p=>
       bif decide (f<b)then
        bif (decide (0≤b))&&(decide (b<(c.length:Int)))then
         bif (decide (0≤a))&&(decide (a<((e.getD (c.getD b.toNat 0) []).length:Int)))then
          bif (decide (0≤f))&&(decide (f<(c.length:Int)))then
           bif (decide (0≤a))&&(decide (a<((e.getD (c.getD f.toNat 0) []).length:Int)))then
            (Q97.f N (((e.getD (c.getD b.toNat 0) []).getD a.toNat (false,([]:W6))).1) (((e.getD (c.getD b.toNat 0) []).getD a.toNat (false,([]:W6))).2) (((e.getD (c.getD f.toNat 0) []).getD a.toNat (false,([]:W6))).1) (((e.getD (c.getD f.toNat 0) []).getD a.toNat (false,([]:W6))).2)).bind fun q=>
            bif (decide (0≤(fA (a+1))))&&(decide ((fA (a+1))<(d.length:Int)))then
             (Q97.f N ((d.getD ((fA (a+1)).toNat) (false,([]:W6))).1) ((d.getD ((fA (a+1)).toNat) (false,([]:W6))).2) m o).bind fun r=>
             (Q98.f N r.1 r.2 q.1 q.2).bind fun s=>
             bif (decide (0≤a))&&(decide (a<(d.length:Int)))then
              (Q35.f N s.1 s.2 ((d.getD a.toNat (false,([]:W6))).1) ((d.getD a.toNat (false,([]:W6))).2)).bind fun g=>
              (Q96.f N g.1 g.2.1 g.2.2).bind fun t=>
              Q99.l10 N n b f (fA (a+1)) i j d c k l e t.1 t.2 x
             else none
            else none
           else none
          else none
         else none
        else none
       else
       bif (decide (0≤(fA (a+1))))&&(decide ((fA (a+1))<(d.length:Int)))then
        (Q97.f N ((d.getD ((fA (a+1)).toNat) (false,([]:W6))).1) ((d.getD ((fA (a+1)).toNat) (false,([]:W6))).2) m o).bind fun u=>
        (Q98.f N u.1 u.2 p.1 p.2).bind fun v=>
        bif (decide (0≤a))&&(decide (a<(d.length:Int)))then
         (Q35.f N v.1 v.2 ((d.getD a.toNat (false,([]:W6))).1) ((d.getD a.toNat (false,([]:W6))).2)).bind fun h=>
         (Q96.f N h.1 h.2.1 h.2.2).bind fun w=>
         Q99.l10 N n b f (fA (a+1)) i j d c k l e w.1 w.2 x
        else none
       else none
      else none
     else none
    else none
   else none
  else
  x b f i j d c k l e m o
noncomputable def Q99.l6 {R:Type}(N:Nat):Nat→Int→Int→W7→W7→W3→W7→W2→W2→W2→(Int→W7→W7→W3→W7→W2→W2→W2→Option R)→Option R
 |0,_,_,_,_,_,_,_,_,_,_=>none
 |n+1,b,c,d,j,k,l,g,m,o,v=>
  bif decide (c≤b)then
   bif (decide (0≤b))&&(decide (b<(d.length:Int)))then
    bif (decide (0≤c))&&(decide (c<((g.getD (d.getD b.toNat 0) []).length:Int)))then
     Q99.l10 N N b c 0 d j k l g m o (((g.getD (d.getD b.toNat 0) []).getD c.toNat (false,([]:W6))).1) (((g.getD (d.getD b.toNat 0) []).getD c.toNat (false,([]:W6))).2)
      (fun a e p q i f r s h t u=>
       bif decide (e<a)then
        bif (decide (0≤a))&&(decide (a<(f.length:Int)))then
         bif (decide (0≤e))&&(decide (e<((h.getD (f.getD a.toNat 0) []).length:Int)))then
          Q99.l6 N n a (fA (e+1)) p q i f r s (h.set (f.getD a.toNat 0) ((h.getD (f.getD a.toNat 0) []).set e.toNat (t,u))) v
         else none
        else none
       else
       bif (decide (0≤(fA (a+1))))&&(decide ((fA (a+1))<(i.length:Int)))then
        Q99.l6 N n a (fA (e+1)) p q (i.set ((fA (a+1)).toNat) (t,u)) f r s h v
       else none)
    else none
   else none
  else
  v b d j k l g m o
noncomputable def Q99.l2 {R:Type}(N:Nat):Nat→Int→W7→W7→W3→W7→W2→W2→W2→(W7→W7→W3→W7→W2→W2→W2→Option R)→Option R
 |0,_,_,_,_,_,_,_,_,_=>none
 |n+1,a,b,e,f,c,g,h,d,r=>
  bif decide (a<(b.length:Int))then
   bif dG a a&&decide (0≤a)&&decide (a≤9223372036854775807)&&lB a.toNat 32 then
    bif (decide (0≤a))&&(decide (a<(c.length:Int)))then
     Q99.l6 N N a 0 b e f (c.set a.toNat d.length) g h (d++[hC a.toNat (false,([]:W6))])
      (fun i j k l m o p q=>
       Q99.l2 N n (fA (i+1)) j k l m o p q r)
    else none
   else none
  else
  r b e f c g h d
noncomputable def Q99.f (N:Nat)(j:Int)(k l:W7)(h:W3)(m:W7)(o:W2)(p:W2)(q:W2):Option (W7×W7×W3×W7×W2×W2×W2):=
 (Q28.f N 1).bind fun i=>
 bif decide (0<(h.length:Int))then
  Q99.l2 N N j k l (h.set 0 (i.1,i.2)) m o p q
   (fun b c d e f g a=>
    some (b,c,d,e,f,g,a))
 else none
noncomputable def Q99.h2:uB:=⟨[(0,.any),(4,.any)],[]⟩
noncomputable def Q99.h6:uB:=⟨[(0,.any),(4,.any),(5,.any)],[(0,.any),(4,.any)]⟩
noncomputable def Q99.h10:uB:=⟨[(0,.any),(4,.any),(5,.any),(6,.box [.any,.il .u32 1]),(7,.any)],[(0,.any),(4,.any),(5,.any),(6,.box [.any,.il .u32 1])]⟩
noncomputable def Q99.c10 (N:Nat):mF:=⟨fun vs H k=>match vs,H with
 | [.ptr 0 0 4,.c (.int .i64 a),.c (.int .i64 b),.ptr 8 0 2,.c (.int .i64 c)],[.vals [.sw 1 1,.sw 2 1,.sw 3 2,.sw 4 1],.po 2 5 d,.po 2 6 e,.tw .zi f,.po 2 7 g,.pool .zi h,.pool .zi i,.pool .zi j,.vals [.c (.bool l),.il .u32 1 m]]=>Q99.l10 N N a b c d e f g h i j l m (fun o p q r s t u v w x y=>k (.exit 4) ⟨tB Q99.h10.out [.ptr 0 0 4,.c (.int .i64 o),.c (.int .i64 p),.ptr 8 0 2],[.vals [.sw 1 1,.sw 2 1,.sw 3 2,.sw 4 1],.po 2 5 q,.po 2 6 r,.tw .zi s,.po 2 7 t,.pool .zi u,.pool .zi v,.pool .zi w,.vals [.c (.bool x),.il .u32 1 y]]⟩)
 |_,_=>none⟩
noncomputable def Q99.c6 (N:Nat):mF:=⟨fun vs H k=>match vs,H with
 | [.ptr 0 0 4,.c (.int .i64 a),.c (.int .i64 b)],[.vals [.sw 1 1,.sw 2 1,.sw 3 2,.sw 4 1],.po 2 5 c,.po 2 6 d,.tw .zi e,.po 2 7 f,.pool .zi g,.pool .zi h,.pool .zi i]=>Q99.l6 N N a b c d e f g h i (fun j l m o p q r s=>k (.exit 2) ⟨tB Q99.h6.out [.ptr 0 0 4,.c (.int .i64 j)],[.vals [.sw 1 1,.sw 2 1,.sw 3 2,.sw 4 1],.po 2 5 l,.po 2 6 m,.tw .zi o,.po 2 7 p,.pool .zi q,.pool .zi r,.pool .zi s]⟩)
 |_,_=>none⟩
noncomputable def Q99.c2 (N:Nat):mF:=⟨fun vs H k=>match vs,H with
 | [.ptr 0 0 4,.c (.int .i64 a)],[.vals [.sw 1 1,.sw 2 1,.sw 3 2,.sw 4 1],.po 2 5 b,.po 2 6 c,.tw .zi d,.po 2 7 e,.pool .zi f,.pool .zi g,.pool .zi h]=>Q99.l2 N N a b c d e f g h (fun i j l m o p q=>k (.exit 0) ⟨tB Q99.h2.out [],[.vals [.sw 1 1,.sw 2 1,.sw 3 2,.sw 4 1],.po 2 5 i,.po 2 6 j,.tw .zi l,.po 2 7 m,.pool .zi o,.pool .zi p,.pool .zi q]⟩)
 |_,_=>none⟩
noncomputable def Q99.E (N:Nat):aC:=mD [(33,aK),(39,nD),(45,gJ),(153,zS)] [(10,Q28.ent N),(130,Q97.ent N),(132,Q98.ent N),(44,Q35.ent N),(131,Q96.ent N)] [(2,Q99.h2),(6,Q99.h6),(10,Q99.h10)] [(10,Q99.c10 N),(6,Q99.c6 N),(2,Q99.c2 N)] N [] [] 8 142
noncomputable def Q99.b10:Code:=mA ((cA (bo Tryz.f126)).getD 2 .skip)
theorem Q99.l10_eq {R:Type}(N n:Nat)(a b c:Int)(d e:W7)(f:W3)(g:W7)(h:W2)(i:W2)(j:W2)(l:Bool)(m:W6)(k:Ex→St→Option R):
  vA 8 Q99.h10 (fun s k=>tA (Q99.E N) 381 Q99.b10 s k) n [.ptr 0 0 4,.c (.int .i64 a),.c (.int .i64 b),.ptr 8 0 2,.c (.int .i64 c)] [.vals [.sw 1 1,.sw 2 1,.sw 3 2,.sw 4 1],.po 2 5 d,.po 2 6 e,.tw .zi f,.po 2 7 g,.pool .zi h,.pool .zi i,.pool .zi j,.vals [.c (.bool l),.il .u32 1 m]] k=Q99.l10 N n a b c d e f g h i j l m (fun o p q r t u v w x y z=>k (.exit 4) ⟨tB Q99.h10.out [.ptr 0 0 4,.c (.int .i64 o),.c (.int .i64 p),.ptr 8 0 2],[.vals [.sw 1 1,.sw 2 1,.sw 3 2,.sw 4 1],.po 2 5 q,.po 2 6 r,.tw .zi t,.po 2 7 u,.pool .zi v,.pool .zi w,.pool .zi x,.vals [.c (.bool y),.il .u32 1 z]]⟩):=by
 induction n generalizing a b c d e f g h i j l m with
 |zero=>kernel_rfl
 |succ n ih=>
  simp only[Q99.l10,←ih]
  kernel_rfl
noncomputable def Q99.b6:Code:=mA ((cA (bo Tryz.f126)).getD 1 .skip)
theorem Q99.l6_eq {R:Type}(N n:Nat)(a b:Int)(c d:W7)(e:W3)(f:W7)(g:W2)(h:W2)(i:W2)(k:Ex→St→Option R):
  vA 8 Q99.h6 (fun s k=>tA (Q99.E N) 389 Q99.b6 s k) n [.ptr 0 0 4,.c (.int .i64 a),.c (.int .i64 b)] [.vals [.sw 1 1,.sw 2 1,.sw 3 2,.sw 4 1],.po 2 5 c,.po 2 6 d,.tw .zi e,.po 2 7 f,.pool .zi g,.pool .zi h,.pool .zi i] k=Q99.l6 N n a b c d e f g h i (fun j l m o p q r t=>k (.exit 2) ⟨tB Q99.h6.out [.ptr 0 0 4,.c (.int .i64 j)],[.vals [.sw 1 1,.sw 2 1,.sw 3 2,.sw 4 1],.po 2 5 l,.po 2 6 m,.tw .zi o,.po 2 7 p,.pool .zi q,.pool .zi r,.pool .zi t]⟩):=by
 induction n generalizing a b c d e f g h i with
 |zero=>kernel_rfl
 |succ n ih=>
  simp only[Q99.l6,←ih]
  kernel_rfl
noncomputable def Q99.b2:Code:=mA ((cA (bo Tryz.f126)).getD 0 .skip)
theorem Q99.l2_eq {R:Type}(N n:Nat)(a:Int)(b c:W7)(d:W3)(e:W7)(f:W2)(g:W2)(h:W2)(k:Ex→St→Option R):
  vA 8 Q99.h2 (fun s k=>tA (Q99.E N) 396 Q99.b2 s k) n [.ptr 0 0 4,.c (.int .i64 a)] [.vals [.sw 1 1,.sw 2 1,.sw 3 2,.sw 4 1],.po 2 5 b,.po 2 6 c,.tw .zi d,.po 2 7 e,.pool .zi f,.pool .zi g,.pool .zi h] k=Q99.l2 N n a b c d e f g h (fun i j l m o p q=>k (.exit 0) ⟨tB Q99.h2.out [],[.vals [.sw 1 1,.sw 2 1,.sw 3 2,.sw 4 1],.po 2 5 i,.po 2 6 j,.tw .zi l,.po 2 7 m,.pool .zi o,.pool .zi p,.pool .zi q]⟩):=by
 induction n generalizing a b c d e f g h with
 |zero=>kernel_rfl
 |succ n ih=>
  simp only[Q99.l2,←ih]
  kernel_rfl
noncomputable def Q99.dec (v:V)(bs:List oA):Option (W7×W7×W3×W7×W2×W2×W2):=match v,bs with
 | .tup [],[.vals [.sw 1 1,.sw 2 1,.sw 3 2,.sw 4 1],.po 2 5 a,.po 2 6 b,.tw .zi c,.po 2 7 d,.pool .zi e,.pool .zi f,.pool .zi g]=>some (a,b,c,d,e,f,g)
 |_,_=>none
theorem Q99.f_eq (N:Nat)(a:Int)(b c:W7)(d:W3)(e:W7)(f:W2)(g:W2)(h:W2):
  uA (Q99.E N) (bo Tryz.f126) [.ptr 0 0 4,.c (.int .i64 a)] [.vals [.sw 1 1,.sw 2 1,.sw 3 2,.sw 4 1],.po 2 5 b,.po 2 6 c,.tw .zi d,.po 2 7 e,.pool .zi f,.pool .zi g,.pool .zi h] Q99.dec=Q99.f N a b c d e f g h:=by kernel_rfl
noncomputable def Q99.ent (N:Nat):rA:={A:=W7×W7×W3×W7×W2×W2×W2,fresh:=0,imm:=[false,true],dec:=fun args bs=>match sC (jA bs) [false,false] args,bs with
 | [.ptr 0 0 4,.c (.int .i64 a)],[.vals [.sw 1 1,.sw 2 1,.sw 3 2,.sw 4 1],.po 2 5 b,.po 2 6 c,.tw .zi d,.po 2 7 e,.pool .zi f,.pool .zi g,.pool .zi h]=>some (Q99.f N a b c d e f g h,fun r=>.one (.tup []) [.vals [.sw 1 1,.sw 2 1,.sw 3 2,.sw 4 1],.po 2 5 r.1,.po 2 6 r.2.1,.tw .zi r.2.2.1,.po 2 7 r.2.2.2.1,.pool .zi r.2.2.2.2.1,.pool .zi r.2.2.2.2.2.1,.pool .zi r.2.2.2.2.2.2])
 |_,_=>none}
theorem Q99.env (N:Nat):sA Tryz.prog (Q99.E N):=⟨(.cons kD (.cons bB (.cons zC (.cons fJ .nil)))),(.cons (Q28.ent_ok N) (.cons (Q97.ent_ok N) (.cons (Q98.ent_ok N) (.cons (Q35.ent_ok N) (.cons (Q96.ent_ok N) .nil))))),fun h=>hA (show false=true from h)⟩
theorem Q99.k10 (N:Nat):eB Tryz.prog Tryz.f126 (Q99.E N) (.loop Q99.b10):=xB (Q99.env N) bA 381 (c:=Q99.c10 N) aA.n fun R vs H k r h=>by unfold Q99.c10 at h;dsimp only at h;split at h;exact⟨_,Q99.l10_eq .. ▸h⟩;cases h
theorem Q99.k6 (N:Nat):eB Tryz.prog Tryz.f126 (Q99.E N) (.loop Q99.b6):=xB (Q99.env N) bA 389 (c:=Q99.c6 N) (aA.of (l:=[(.loop (mA ((cA (bo Tryz.f126)).getD 2 .skip)))]) (by kernel_rfl) (aA.cons (Q99.k10 N) aA.nil)) fun R vs H k r h=>by unfold Q99.c6 at h;dsimp only at h;split at h;exact⟨_,Q99.l6_eq .. ▸h⟩;cases h
theorem Q99.k2 (N:Nat):eB Tryz.prog Tryz.f126 (Q99.E N) (.loop Q99.b2):=xB (Q99.env N) bA 396 (c:=Q99.c2 N) (aA.of (l:=[(.loop (mA ((cA (bo Tryz.f126)).getD 1 .skip))),(.loop (mA ((cA (bo Tryz.f126)).getD 2 .skip)))]) (by kernel_rfl) (aA.cons (Q99.k6 N) (aA.cons (Q99.k10 N) aA.nil))) fun R vs H k r h=>by unfold Q99.c2 at h;dsimp only at h;split at h;exact⟨_,Q99.l2_eq .. ▸h⟩;cases h
theorem Q99.spec (N:Nat)(a:Int)(c d:W7)(f:W3)(g:W7)(i:W2)(j:W2)(k:W2)(r:W7×W7×W3×W7×W2×W2×W2)(h:Q99.f N a c d f g i j k=some r):dA Tryz.prog 126 [.ptr 0 0 4,.c (.int .i64 a)] [.vals [.sw 1 1,.sw 2 1,.sw 3 2,.sw 4 1],.po 2 5 c,.po 2 6 d,.tw .zi f,.po 2 7 g,.pool .zi i,.pool .zi j,.pool .zi k] (.tup []) ([.vals [.sw 1 1,.sw 2 1,.sw 3 2,.sw 4 1],.po 2 5 r.1,.po 2 6 r.2.1,.tw .zi r.2.2.1,.po 2 7 r.2.2.2.1,.pool .zi r.2.2.2.2.1,.pool .zi r.2.2.2.2.2.1,.pool .zi r.2.2.2.2.2.2]):=qA (Q99.env N) bA Tryz.func126 (aA.of (l:=[(.loop (mA ((cA (bo Tryz.f126)).getD 0 .skip))),(.loop (mA ((cA (bo Tryz.f126)).getD 1 .skip))),(.loop (mA ((cA (bo Tryz.f126)).getD 2 .skip)))]) (by kernel_rfl) (aA.cons (Q99.k2 N) (aA.cons (Q99.k6 N) (aA.cons (Q99.k10 N) aA.nil)))) ((Q99.f_eq ..).trans h) fun v b e=>by unfold Q99.dec at e;split at e<;>cases e;exact⟨rfl,rfl⟩
theorem Q99.ent_ok (N:Nat):pA Tryz.prog 126 (Q99.ent N):=by
 intro args bs a enc h;simp only[Q99.ent]at h;split at h
 ·rename_i hz;have h0:=hB h;have h1:=congrArg Prod.fst h0;have h2:=congrArg Prod.snd h0;dsimp only at h1 h2;subst h2;exact dA.of_asSl (fl:=[false,false]) (by rw[hz];exact Q99.spec N _ _ _ _ _ _ _ _ a h1)
 ·cases h
noncomputable def Q100.l7 {R:Type}(N:Nat):Nat→W5→Int→Int→Int→Int→Int→W2→W7→W2→W7→W3→W3→(W5→Int→Int→Int→W2→W7→W2→W7→W3→W3→Option R)→Option R
 |0,_,_,_,_,_,_,_,_,_,_,_,_,_=>none
 |n+1,m,b,e,f,g,a,h,i,j,k,c,l,o=>
  bif decide (a<g)then
   bif (decide (0≤b))&&(decide (b<(m.length:Int)))then
    bif (decide (0≤a))&&(decide (a<((m.getD b.toNat []).length:Int)))then
     (Q28.f N ((m.getD b.toNat []).getD a.toNat 0)).bind fun d=>
     bif (decide (0≤a))&&(decide (a<(c.length:Int)))then
      Q100.l7 N n m b e f g (fA (a+1)) h i j k (c.set a.toNat (d.1,d.2)) l o
     else none
    else none
   else none
  else
  o m b e f h i j k c l
noncomputable def Q100.l3 {R:Type}(N:Nat):Nat→W5→Int→Int→W2→W7→W2→W7→(W5→W2→W7→W2→W7→Option R)→Option R
 |0,_,_,_,_,_,_,_,_=>none
 |n+1,a,p,i,q,r,s,t,o=>
  bif decide (i<p)then
   bif dG (a.length:Int) (a.length:Int)&&decide (0≤(a.length:Int))&&decide ((a.length:Int)≤9223372036854775807)&&lB ((a.length:Int).toNat) 32 then
    bif dG (a.length:Int) (a.length:Int)&&decide (0≤(a.length:Int))&&decide ((a.length:Int)≤9223372036854775807)&&lB ((a.length:Int).toNat) 32 then
     Q100.l7 N N a i p i (a.length:Int) 0 q r s t (hC ((a.length:Int).toNat) (false,([]:W6))) (hC ((a.length:Int).toNat) (false,([]:W6)))
      (fun j b k l d e f g m h=>
       (Q28.f N 1).bind fun c=>
       bif (decide (0≤b))&&(decide (b<(h.length:Int)))then
        bif lB (e.length+1) 24 then
         bif lB (g.length+1) 24 then
          Q100.l3 N n j k (fA (l+1)) (d++[m]) (e++[d.length]) (f++[h.set b.toNat (c.1,c.2)]) (g++[f.length]) o
         else none
        else none
       else none)
    else none
   else none
  else
  o a q r s t
noncomputable def Q100.f (N:Nat)(g:W5):Option (W2×W7×W2×W7×W3×W2×W7):=
 Q100.l3 N N g (g.length:Int) 0 [] [] [] []
  (fun a c d e f=>
   bif dG (a.length:Int) (a.length:Int)&&decide (0≤(a.length:Int))&&decide ((a.length:Int)≤9223372036854775807)&&lB ((a.length:Int).toNat) 24 then
    bif dG (fA ((a.length:Int)+1)) (fA ((a.length:Int)+1))&&decide (0≤fA ((a.length:Int)+1))&&decide (fA ((a.length:Int)+1)≤9223372036854775807)&&lB ((fA ((a.length:Int)+1)).toNat) 32 then
     (Q99.f N 0 d f (hC ((fA ((a.length:Int)+1)).toNat) (false,([]:W6))) (hC ((a.length:Int).toNat) 0) c e [[]]).bind fun b=>
     some (b.2.2.2.2.1,b.1,b.2.2.2.2.2.1,b.2.1,b.2.2.1,b.2.2.2.2.2.2,b.2.2.2.1)
    else none
   else none)
noncomputable def Q100.h3:uB:=⟨[(0,.inl .i64 1),(3,.box [.mrow .zi,.mrow .zi,.any,.any]),(11,.any),(12,.any)],[(0,.inl .i64 1),(3,.box [.mrow .zi,.mrow .zi,.any,.any])]⟩
noncomputable def Q100.h7:uB:=⟨[(0,.inl .i64 1),(3,.box [.mrow .zi,.mrow .zi,.any,.any]),(4,.any),(5,.any),(6,.any),(11,.any),(12,.any),(22,.any),(23,.any)],[(0,.inl .i64 1),(3,.box [.mrow .zi,.mrow .zi,.any,.any]),(4,.any),(5,.any),(6,.any),(11,.any),(12,.any)]⟩
noncomputable def Q100.c7 (N:Nat):mF:=⟨fun vs H k=>match vs,H with
 | [.inl .i64 1 x,.ptr 0 0 4,.c (.int .i64 a),.sw 5 2,.sw 6 2,.c (.int .i64 b),.c (.int .i64 c),.c (.int .i64 d),.c (.int .i64 e)],[.vals [.sw 2 1,.sw 4 1,.c (.slice none 0 0),.c (.slice none 0 0)],.pool .zi f,.po 2 1 g,.pool .zi h,.po 2 3 i,.tw .zi j,.tw .zi l]=>Q100.l7 N N x a b c d e f g h i j l (fun m o p q r s t u v w=>k (.exit 2) ⟨tB Q100.h7.out [.inl .i64 1 m,.ptr 0 0 4,.c (.int .i64 o),.sw 5 2,.sw 6 2,.c (.int .i64 p),.c (.int .i64 q)],[.vals [.sw 2 1,.sw 4 1,.c (.slice none 0 0),.c (.slice none 0 0)],.pool .zi r,.po 2 1 s,.pool .zi t,.po 2 3 u,.tw .zi v,.tw .zi w]⟩)
 |_,_=>none⟩
noncomputable def Q100.c3 (N:Nat):mF:=⟨fun vs H k=>match vs,H with
 | [.inl .i64 1 f,.ptr 0 0 4,.c (.int .i64 g),.c (.int .i64 h)],[.vals [.sw 2 1,.sw 4 1,.c (.slice none 0 0),.c (.slice none 0 0)],.pool .zi i,.po 2 1 j,.pool .zi l,.po 2 3 m]=>Q100.l3 N N f g h i j l m (fun a b c d e=>k (.exit 0) ⟨tB Q100.h3.out [.inl .i64 1 a,.ptr 0 0 4],[.vals [.sw 2 1,.sw 4 1,.c (.slice none 0 0),.c (.slice none 0 0)],.pool .zi b,.po 2 1 c,.pool .zi d,.po 2 3 e]⟩)
 |_,_=>none⟩
noncomputable def Q100.E (N:Nat):aC:=mD [(2,iW),(22,eL),(33,aK),(39,nD),(43,nJ),(45,gJ),(153,zS)] [(10,Q28.ent N),(126,Q99.ent N)] [(3,Q100.h3),(7,Q100.h7)] [(7,Q100.c7 N),(3,Q100.c3 N)] N [.tmp 2] [.box [.mrow .zi,.mrow .zi,.any,.mrow .zi]] 0 79 true
noncomputable def Q100.b7:Code:=mA ((cA (bo Tryz.f115)).getD 1 .skip)
theorem Q100.l7_eq {R:Type}(N n:Nat)(y:W5)(a b c d e:Int)(f:W2)(g:W7)(h:W2)(i:W7)(j:W3)(l:W3)(k:Ex→St→Option R):
  vA 0 Q100.h7 (fun s k=>tA (Q100.E N) 384 Q100.b7 s k) n [.inl .i64 1 y,.ptr 0 0 4,.c (.int .i64 a),.sw 5 2,.sw 6 2,.c (.int .i64 b),.c (.int .i64 c),.c (.int .i64 d),.c (.int .i64 e)] [.vals [.sw 2 1,.sw 4 1,.c (.slice none 0 0),.c (.slice none 0 0)],.pool .zi f,.po 2 1 g,.pool .zi h,.po 2 3 i,.tw .zi j,.tw .zi l] k=Q100.l7 N n y a b c d e f g h i j l (fun m o p q r t u v w x=>k (.exit 2) ⟨tB Q100.h7.out [.inl .i64 1 m,.ptr 0 0 4,.c (.int .i64 o),.sw 5 2,.sw 6 2,.c (.int .i64 p),.c (.int .i64 q)],[.vals [.sw 2 1,.sw 4 1,.c (.slice none 0 0),.c (.slice none 0 0)],.pool .zi r,.po 2 1 t,.pool .zi u,.po 2 3 v,.tw .zi w,.tw .zi x]⟩):=by
 induction n generalizing y a b c d e f g h i j l with
 |zero=>kernel_rfl
 |succ n ih=>
  simp only[Q100.l7,←ih]
  kernel_rfl
noncomputable def Q100.b3:Code:=mA ((cA (bo Tryz.f115)).getD 0 .skip)
theorem Q100.l3_eq {R:Type}(N n:Nat)(a:W5)(b c:Int)(i:W2)(j:W7)(l:W2)(m:W7)(k:Ex→St→Option R):
  vA 0 Q100.h3 (fun s k=>tA (Q100.E N) 394 Q100.b3 s k) n [.inl .i64 1 a,.ptr 0 0 4,.c (.int .i64 b),.c (.int .i64 c)] [.vals [.sw 2 1,.sw 4 1,.c (.slice none 0 0),.c (.slice none 0 0)],.pool .zi i,.po 2 1 j,.pool .zi l,.po 2 3 m] k=Q100.l3 N n a b c i j l m (fun d e f g h=>k (.exit 0) ⟨tB Q100.h3.out [.inl .i64 1 d,.ptr 0 0 4],[.vals [.sw 2 1,.sw 4 1,.c (.slice none 0 0),.c (.slice none 0 0)],.pool .zi e,.po 2 1 f,.pool .zi g,.po 2 3 h]⟩):=by
 induction n generalizing a b c i j l m with
 |zero=>kernel_rfl
 |succ n ih=>
  simp only[Q100.l3,←ih]
  kernel_rfl
noncomputable def Q100.dec (v:V)(bs:List oA):Option (W2×W7×W2×W7×W3×W2×W7):=match v,bs with
 | .ptr 0 0 4,[.vals [.sw 2 1,.sw 4 1,.sw 5 2,.sw 7 1],.pool .zi a,.po 2 1 b,.pool .zi c,.po 2 3 d,.tw .zi e,.pool .zi f,.po 2 6 g]=>some (a,b,c,d,e,f,g)
 |_,_=>none
theorem Q100.f_eq (N:Nat)(a:W5):
  uA (Q100.E N) (bo Tryz.f115) [.inl .i64 1 a] [] Q100.dec=Q100.f N a:=by kernel_rfl
noncomputable def Q100.ent (N:Nat):rA:=tF (W2×W7×W2×W7×W3×W2×W7) 8 [true] [.inl .i64 1] fun
 | [.inl .i64 1 a]=>some (Q100.f N a,fun r=>.one (.ptr 0 0 4) [.vals [.sw 2 1,.sw 4 1,.sw 5 2,.sw 7 1],.pool .zi r.1,.po 2 1 r.2.1,.pool .zi r.2.2.1,.po 2 3 r.2.2.2.1,.tw .zi r.2.2.2.2.1,.pool .zi r.2.2.2.2.2.1,.po 2 6 r.2.2.2.2.2.2])
 |_=>none
theorem Q100.env (N:Nat):sA Tryz.prog (Q100.E N):=⟨(.cons sE (.cons yD (.cons kD (.cons bB (.cons cD (.cons zC (.cons fJ .nil))))))),(.cons (Q28.ent_ok N) (.cons (Q99.ent_ok N) .nil)),fun h=>hA (show false=true from h)⟩
theorem Q100.k7 (N:Nat):eB Tryz.prog Tryz.f115 (Q100.E N) (.loop Q100.b7):=xB (Q100.env N) bA 384 (c:=Q100.c7 N) aA.n fun R vs H k r h=>by unfold Q100.c7 at h;dsimp only at h;split at h;exact⟨_,Q100.l7_eq .. ▸h⟩;cases h
theorem Q100.k3 (N:Nat):eB Tryz.prog Tryz.f115 (Q100.E N) (.loop Q100.b3):=xB (Q100.env N) bA 394 (c:=Q100.c3 N) (aA.of (l:=[(.loop (mA ((cA (bo Tryz.f115)).getD 1 .skip)))]) (by kernel_rfl) (aA.cons (Q100.k7 N) aA.nil)) fun R vs H k r h=>by unfold Q100.c3 at h;dsimp only at h;split at h;exact⟨_,Q100.l3_eq .. ▸h⟩;cases h
theorem Q100.spec (N:Nat)(a:W5)(r:W2×W7×W2×W7×W3×W2×W7)(h:Q100.f N a=some r):dA Tryz.prog 115 [.inl .i64 1 a] [] (.ptr 0 0 4) ([.vals [.sw 2 1,.sw 4 1,.sw 5 2,.sw 7 1],.pool .zi r.1,.po 2 1 r.2.1,.pool .zi r.2.2.1,.po 2 3 r.2.2.2.1,.tw .zi r.2.2.2.2.1,.pool .zi r.2.2.2.2.2.1,.po 2 6 r.2.2.2.2.2.2]):=qA (Q100.env N) bA Tryz.func115 (aA.of (l:=[(.loop (mA ((cA (bo Tryz.f115)).getD 0 .skip))),(.loop (mA ((cA (bo Tryz.f115)).getD 1 .skip)))]) (by kernel_rfl) (aA.cons (Q100.k3 N) (aA.cons (Q100.k7 N) aA.nil))) ((Q100.f_eq ..).trans h) fun v b e=>by unfold Q100.dec at e;split at e<;>cases e;exact⟨rfl,rfl⟩
theorem Q100.ent_ok (N:Nat):pA Tryz.prog 115 (Q100.ent N):=xA fun v a e h=>by split at h;exact gC (Q:=fun e=>dA _ _ _ _ (e a).pick.1 (e a).pick.2) h fun k=>Q100.spec N _ a k;cases h
noncomputable def Q101.f (N:Nat)(d b:Int)(k l:W7)(g:W3)(e:W7)(m:W2)(o:W2)(h:W2):Option (Bool×W7×W7×W3×W7×W2×W2×W2):=
 bif (decide (0≤d))&&(decide (d<(e.length:Int)))then
  bif (decide (0≤b))&&(decide (b<((h.getD (e.getD d.toNat 0) []).length:Int)))then
   (Q26.f N (((h.getD (e.getD d.toNat 0) []).getD b.toNat (false,([]:W6))).1) (((h.getD (e.getD d.toNat 0) []).getD b.toNat (false,([]:W6))).2)).bind fun i=>
   (Q25.f N false i).bind fun a=>
   (Q31.f N a.1 a.2 a.1 a.2).bind fun c=>
   (Q96.f N c.1 c.2.1 c.2.2).bind fun f=>
   bif (decide (0≤(fA (b+1))))&&(decide ((fA (b+1))<(g.length:Int)))then
    (Q30.f N f.1 f.2 ((g.getD ((fA (b+1)).toNat) (false,([]:W6))).1) ((g.getD ((fA (b+1)).toNat) (false,([]:W6))).2)).bind fun j=>
    some (decide (j>0),k,l,g,e,m,o,h)
   else none
  else none
 else none
noncomputable def Q101.E (N:Nat):aC:=mD [(33,aK),(39,nD),(45,gJ),(153,zS)] [(14,Q26.ent N),(69,Q25.ent N),(70,Q31.ent N),(131,Q96.ent N),(9,Q30.ent N)] [] [] N [.tmp 6] [.any] 8 36
noncomputable def Q101.dec (v:V)(bs:List oA):Option (Bool×W7×W7×W3×W7×W2×W2×W2):=match v,bs with
 | .c (.bool a),[.vals [.sw 1 1,.sw 2 1,.sw 3 2,.sw 4 1],.po 2 5 b,.po 2 6 c,.tw .zi d,.po 2 7 e,.pool .zi f,.pool .zi g,.pool .zi h]=>some (a,b,c,d,e,f,g,h)
 |_,_=>none
theorem Q101.f_eq (N:Nat)(a b:Int)(c d:W7)(e:W3)(f:W7)(g:W2)(h:W2)(i:W2):
  uA (Q101.E N) (bo Tryz.f133) [.ptr 0 0 4,.c (.int .i64 a),.c (.int .i64 b)] [.vals [.sw 1 1,.sw 2 1,.sw 3 2,.sw 4 1],.po 2 5 c,.po 2 6 d,.tw .zi e,.po 2 7 f,.pool .zi g,.pool .zi h,.pool .zi i] Q101.dec=Q101.f N a b c d e f g h i:=by kernel_rfl
noncomputable def Q101.ent (N:Nat):rA:={A:=Bool×W7×W7×W3×W7×W2×W2×W2,fresh:=0,imm:=[false,true,true],dec:=fun args bs=>match sC (jA bs) [false,false,false] args,bs with
 | [.ptr 0 0 4,.c (.int .i64 a),.c (.int .i64 b)],[.vals [.sw 1 1,.sw 2 1,.sw 3 2,.sw 4 1],.po 2 5 c,.po 2 6 d,.tw .zi e,.po 2 7 f,.pool .zi g,.pool .zi h,.pool .zi i]=>some (Q101.f N a b c d e f g h i,fun r=>.one (.c (.bool r.1)) [.vals [.sw 1 1,.sw 2 1,.sw 3 2,.sw 4 1],.po 2 5 r.2.1,.po 2 6 r.2.2.1,.tw .zi r.2.2.2.1,.po 2 7 r.2.2.2.2.1,.pool .zi r.2.2.2.2.2.1,.pool .zi r.2.2.2.2.2.2.1,.pool .zi r.2.2.2.2.2.2.2])
 |_,_=>none}
theorem Q101.env (N:Nat):sA Tryz.prog (Q101.E N):=⟨(.cons kD (.cons bB (.cons zC (.cons fJ .nil)))),(.cons (Q26.ent_ok N) (.cons (Q25.ent_ok N) (.cons (Q31.ent_ok N) (.cons (Q96.ent_ok N) (.cons (Q30.ent_ok N) .nil))))),fun h=>hA (show false=true from h)⟩
theorem Q101.spec (N:Nat)(a c:Int)(d f:W7)(g:W3)(i:W7)(j:W2)(k:W2)(l:W2)(r:Bool×W7×W7×W3×W7×W2×W2×W2)(h:Q101.f N a c d f g i j k l=some r):dA Tryz.prog 133 [.ptr 0 0 4,.c (.int .i64 a),.c (.int .i64 c)] [.vals [.sw 1 1,.sw 2 1,.sw 3 2,.sw 4 1],.po 2 5 d,.po 2 6 f,.tw .zi g,.po 2 7 i,.pool .zi j,.pool .zi k,.pool .zi l] (.c (.bool r.1)) ([.vals [.sw 1 1,.sw 2 1,.sw 3 2,.sw 4 1],.po 2 5 r.2.1,.po 2 6 r.2.2.1,.tw .zi r.2.2.2.1,.po 2 7 r.2.2.2.2.1,.pool .zi r.2.2.2.2.2.1,.pool .zi r.2.2.2.2.2.2.1,.pool .zi r.2.2.2.2.2.2.2]):=qA (Q101.env N) bA Tryz.func133 aA.n ((Q101.f_eq ..).trans h) fun v b e=>by unfold Q101.dec at e;split at e<;>cases e;exact⟨rfl,rfl⟩
theorem Q101.ent_ok (N:Nat):pA Tryz.prog 133 (Q101.ent N):=by
 intro args bs a enc h;simp only[Q101.ent]at h;split at h
 ·rename_i hz;have h0:=hB h;have h1:=congrArg Prod.fst h0;have h2:=congrArg Prod.snd h0;dsimp only at h1 h2;subst h2;exact dA.of_asSl (fl:=[false,false,false]) (by rw[hz];exact Q101.spec N _ _ _ _ _ _ _ _ _ a h1)
 ·cases h
noncomputable def Q102.l5 {R:Type}(N:Nat):Nat→Int→Int→Int→Int→W7→W7→W3→W7→W2→W2→W2→Bool→W6→Bool→W6→(Int→Int→W7→W7→W3→W7→W2→W2→W2→Bool→W6→Bool→W6→Option R)→Option R
 |0,_,_,_,_,_,_,_,_,_,_,_,_,_,_,_,_=>none
 |n+1,b,e,o,a,c,d,p,q,f,g,r,s,t,h,i,u=>
  bif decide (a<o)then
   bif (decide (0≤b))&&(decide (b<(d.length:Int)))then
    bif (decide (0≤b))&&(decide (b<(d.length:Int)))then
     bif (decide (0≤a))&&(decide (a<((g.getD (d.getD b.toNat 0) []).length:Int)))then
      bif (decide (0≤e))&&(decide (e<(d.length:Int)))then
       bif (decide (0≤a))&&(decide (a<((g.getD (d.getD e.toNat 0) []).length:Int)))then
        (Q97.f N h i (((g.getD (d.getD e.toNat 0) []).getD a.toNat (false,([]:W6))).1) (((g.getD (d.getD e.toNat 0) []).getD a.toNat (false,([]:W6))).2)).bind fun j=>
        (Q98.f N (((g.getD (d.getD b.toNat 0) []).getD a.toNat (false,([]:W6))).1) (((g.getD (d.getD b.toNat 0) []).getD a.toNat (false,([]:W6))).2) j.1 j.2).bind fun k=>
        bif (decide (0≤a))&&(decide (a<((g.getD (d.getD b.toNat 0) []).length:Int)))then
         bif (decide (0≤b))&&(decide (b<(c.length:Int)))then
          bif (decide (0≤b))&&(decide (b<(c.length:Int)))then
           bif (decide (0≤a))&&(decide (a<((f.getD (c.getD b.toNat 0) []).length:Int)))then
            bif (decide (0≤e))&&(decide (e<(c.length:Int)))then
             bif (decide (0≤a))&&(decide (a<((f.getD (c.getD e.toNat 0) []).length:Int)))then
              (Q97.f N h i (((f.getD (c.getD e.toNat 0) []).getD a.toNat (false,([]:W6))).1) (((f.getD (c.getD e.toNat 0) []).getD a.toNat (false,([]:W6))).2)).bind fun l=>
              (Q98.f N (((f.getD (c.getD b.toNat 0) []).getD a.toNat (false,([]:W6))).1) (((f.getD (c.getD b.toNat 0) []).getD a.toNat (false,([]:W6))).2) l.1 l.2).bind fun m=>
              bif (decide (0≤a))&&(decide (a<((f.getD (c.getD b.toNat 0) []).length:Int)))then
               Q102.l5 N n b e o (fA (a+1)) c d p q (f.set (c.getD b.toNat 0) ((f.getD (c.getD b.toNat 0) []).set a.toNat (m.1,m.2))) (g.set (d.getD b.toNat 0) ((g.getD (d.getD b.toNat 0) []).set a.toNat (k.1,k.2))) r s t h i u
              else none
             else none
            else none
           else none
          else none
         else none
        else none
       else none
      else none
     else none
    else none
   else none
  else
  u b e c d p q f g r s t h i
noncomputable def Q102.l11 {R:Type}(N:Nat):Nat→Int→Int→Int→Int→W7→W7→W3→W7→W2→W2→W2→Bool→W6→Bool→W6→(Int→Int→W7→W7→W3→W7→W2→W2→W2→Bool→W6→Bool→W6→Option R)→Option R
 |0,_,_,_,_,_,_,_,_,_,_,_,_,_,_,_,_=>none
 |n+1,d,e,j,a,b,k,l,m,c,o,p,q,r,f,g,s=>
  bif decide (a<j)then
   bif (decide (0≤a))&&(decide (a<(b.length:Int)))then
    bif (decide (0≤a))&&(decide (a<(b.length:Int)))then
     bif (decide (0≤d))&&(decide (d<((c.getD (b.getD a.toNat 0) []).length:Int)))then
      bif (decide (0≤a))&&(decide (a<(b.length:Int)))then
       bif (decide (0≤e))&&(decide (e<((c.getD (b.getD a.toNat 0) []).length:Int)))then
        (Q97.f N f g (((c.getD (b.getD a.toNat 0) []).getD e.toNat (false,([]:W6))).1) (((c.getD (b.getD a.toNat 0) []).getD e.toNat (false,([]:W6))).2)).bind fun h=>
        (Q98.f N (((c.getD (b.getD a.toNat 0) []).getD d.toNat (false,([]:W6))).1) (((c.getD (b.getD a.toNat 0) []).getD d.toNat (false,([]:W6))).2) h.1 h.2).bind fun i=>
        bif (decide (0≤d))&&(decide (d<((c.getD (b.getD a.toNat 0) []).length:Int)))then
         Q102.l11 N n d e j (fA (a+1)) b k l m (c.set (b.getD a.toNat 0) ((c.getD (b.getD a.toNat 0) []).set d.toNat (i.1,i.2))) o p q r f g s
        else none
       else none
      else none
     else none
    else none
   else none
  else
  s d e b k l m c o p q r f g
noncomputable def Q102.l16 {R:Type}(N:Nat):Nat→Int→Int→Int→Int→W7→W7→W3→W7→W2→W2→W2→Bool→W6→Bool→W6→(Int→Int→W7→W7→W3→W7→W2→W2→W2→Bool→W6→Bool→W6→Option R)→Option R
 |0,_,_,_,_,_,_,_,_,_,_,_,_,_,_,_,_=>none
 |n+1,c,e,j,b,k,l,m,a,o,p,d,q,r,f,g,s=>
  bif decide (b<j)then
   bif (decide (0≤c))&&(decide (c<(a.length:Int)))then
    bif (decide (0≤c))&&(decide (c<(a.length:Int)))then
     bif (decide (0≤b))&&(decide (b<((d.getD (a.getD c.toNat 0) []).length:Int)))then
      bif (decide (0≤e))&&(decide (e<(a.length:Int)))then
       bif (decide (0≤b))&&(decide (b<((d.getD (a.getD e.toNat 0) []).length:Int)))then
        (Q97.f N f g (((d.getD (a.getD e.toNat 0) []).getD b.toNat (false,([]:W6))).1) (((d.getD (a.getD e.toNat 0) []).getD b.toNat (false,([]:W6))).2)).bind fun h=>
        (Q98.f N (((d.getD (a.getD c.toNat 0) []).getD b.toNat (false,([]:W6))).1) (((d.getD (a.getD c.toNat 0) []).getD b.toNat (false,([]:W6))).2) h.1 h.2).bind fun i=>
        bif (decide (0≤b))&&(decide (b<((d.getD (a.getD c.toNat 0) []).length:Int)))then
         Q102.l16 N n c e j (fA (b+1)) k l m a o p (d.set (a.getD c.toNat 0) ((d.getD (a.getD c.toNat 0) []).set b.toNat (i.1,i.2))) q r f g s
        else none
       else none
      else none
     else none
    else none
   else none
  else
  s c e k l m a o p d q r f g
noncomputable def Q102.f (N:Nat)(g e:Int)(a3 a4:W7)(a5:W3)(a6:W7)(a7:W2)(a8:W2)(a9:W2):Option (W7×W7×W3×W7×W2×W2×W2):=
 (Q101.f N g e a3 a4 a5 a6 a7 a8 a9).bind fun a=>
 bif !a.1 then
  some (a.2.1,a.2.2.1,a.2.2.2.1,a.2.2.2.2.1,a.2.2.2.2.2.1,a.2.2.2.2.2.2.1,a.2.2.2.2.2.2.2)
 else
 bif (decide (0≤(fA (e+1))))&&(decide ((fA (e+1))<(a.2.2.2.1.length:Int)))then
  bif (decide (0≤g))&&(decide (g<(a.2.2.2.2.1.length:Int)))then
   bif (decide (0≤e))&&(decide (e<((a.2.2.2.2.2.2.2.getD (a.2.2.2.2.1.getD g.toNat 0) []).length:Int)))then
    bif (decide (0≤g))&&(decide (g<(a.2.2.2.2.1.length:Int)))then
     bif (decide (0≤e))&&(decide (e<((a.2.2.2.2.2.2.2.getD (a.2.2.2.2.1.getD g.toNat 0) []).length:Int)))then
      (Q31.f N (((a.2.2.2.2.2.2.2.getD (a.2.2.2.2.1.getD g.toNat 0) []).getD e.toNat (false,([]:W6))).1) (((a.2.2.2.2.2.2.2.getD (a.2.2.2.2.1.getD g.toNat 0) []).getD e.toNat (false,([]:W6))).2) (((a.2.2.2.2.2.2.2.getD (a.2.2.2.2.1.getD g.toNat 0) []).getD e.toNat (false,([]:W6))).1) (((a.2.2.2.2.2.2.2.getD (a.2.2.2.2.1.getD g.toNat 0) []).getD e.toNat (false,([]:W6))).2)).bind fun k=>
      (Q96.f N k.1 k.2.1 k.2.2).bind fun o=>
      (Q31.f N o.1 o.2 ((a.2.2.2.1.getD ((fA (e+1)).toNat) (false,([]:W6))).1) ((a.2.2.2.1.getD ((fA (e+1)).toNat) (false,([]:W6))).2)).bind fun l=>
      (Q96.f N l.1 l.2.1 l.2.2).bind fun p=>
      (Q31.f N ((a.2.2.2.1.getD ((fA (e+1)).toNat) (false,([]:W6))).1) ((a.2.2.2.1.getD ((fA (e+1)).toNat) (false,([]:W6))).2) ((a.2.2.2.1.getD ((fA (e+1)).toNat) (false,([]:W6))).1) ((a.2.2.2.1.getD ((fA (e+1)).toNat) (false,([]:W6))).2)).bind fun m=>
      (Q96.f N m.1 m.2.1 m.2.2).bind fun q=>
      (Q34.f N p.1 p.2 q.1 q.2).bind fun r=>
      Q102.l5 N N g e (a.2.1.length:Int) 0 a.2.1 a.2.2.1 a.2.2.2.1 a.2.2.2.2.1 a.2.2.2.2.2.1 a.2.2.2.2.2.2.1 a.2.2.2.2.2.2.2 ((a.2.2.2.1.getD ((fA (e+1)).toNat) (false,([]:W6))).1) ((a.2.2.2.1.getD ((fA (e+1)).toNat) (false,([]:W6))).2) r.1 r.2.1
       (fun y57 y58 y59 y60 y61 y62 y63 y64 y65 y66 y67 y68 y69=>
        Q102.l11 N N y57 y58 (y59.length:Int) 0 y59 y60 y61 y62 y63 y64 y65 y66 y67 y68 y69
         (fun s j t u v w x y z y109 y110 y111 y112=>
          Q102.l16 N N s j j 0 t u v w x y z y109 y110 y111 y112
           (fun b d y145 y146 y147 c y149 y150 f y152 y153 y154 y155=>
            bif (decide (0≤b))&&(decide (b<(c.length:Int)))then
             bif (decide (0≤b))&&(decide (b<(c.length:Int)))then
              bif (decide (0≤d))&&(decide (d<((f.getD (c.getD b.toNat 0) []).length:Int)))then
               (Q97.f N y154 y155 y152 y153).bind fun h=>
               (Q98.f N (((f.getD (c.getD b.toNat 0) []).getD d.toNat (false,([]:W6))).1) (((f.getD (c.getD b.toNat 0) []).getD d.toNat (false,([]:W6))).2) h.1 h.2).bind fun i=>
               bif (decide (0≤d))&&(decide (d<((f.getD (c.getD b.toNat 0) []).length:Int)))then
                some (y145,y146,y147,c,y149,y150,f.set (c.getD b.toNat 0) ((f.getD (c.getD b.toNat 0) []).set d.toNat (i.1,i.2)))
               else none
              else none
             else none
            else none)))
     else none
    else none
   else none
  else none
 else none
noncomputable def Q102.h5:uB:=⟨[(0,.any),(1,.any),(2,.any),(6,.box [.any,.il .u32 1]),(8,.box [.any,.il .u32 1]),(72,.any),(73,.any)],[(0,.any),(1,.any),(2,.any),(6,.box [.any,.il .u32 1]),(8,.box [.any,.il .u32 1])]⟩
noncomputable def Q102.h11:uB:=⟨[(0,.any),(1,.any),(2,.any),(6,.box [.any,.il .u32 1]),(8,.box [.any,.il .u32 1]),(145,.any),(146,.any)],[(0,.any),(1,.any),(2,.any),(6,.box [.any,.il .u32 1]),(8,.box [.any,.il .u32 1])]⟩
noncomputable def Q102.h16:uB:=⟨[(0,.any),(1,.any),(2,.any),(6,.box [.any,.il .u32 1]),(8,.box [.any,.il .u32 1]),(182,.any),(183,.any)],[(0,.any),(1,.any),(2,.any),(6,.box [.any,.il .u32 1]),(8,.box [.any,.il .u32 1])]⟩
noncomputable def Q102.c5 (N:Nat):mF:=⟨fun vs H k=>match vs,H with
 | [.ptr 0 0 4,.c (.int .i64 a),.c (.int .i64 b),.ptr 8 0 2,.ptr 9 0 2,.c (.int .i64 c),.c (.int .i64 d)],[.vals [.sw 1 1,.sw 2 1,.sw 3 2,.sw 4 1],.po 2 5 e,.po 2 6 f,.tw .zi g,.po 2 7 h,.pool .zi i,.pool .zi j,.pool .zi l,.vals [.c (.bool m),.il .u32 1 o],.vals [.c (.bool p),.il .u32 1 q]]=>Q102.l5 N N a b c d e f g h i j l m o p q (fun r s t u v w x y z x53 x54 x55 x56=>k (.exit 0) ⟨tB Q102.h5.out [.ptr 0 0 4,.c (.int .i64 r),.c (.int .i64 s),.ptr 8 0 2,.ptr 9 0 2],[.vals [.sw 1 1,.sw 2 1,.sw 3 2,.sw 4 1],.po 2 5 t,.po 2 6 u,.tw .zi v,.po 2 7 w,.pool .zi x,.pool .zi y,.pool .zi z,.vals [.c (.bool x53),.il .u32 1 x54],.vals [.c (.bool x55),.il .u32 1 x56]]⟩)
 |_,_=>none⟩
noncomputable def Q102.c11 (N:Nat):mF:=⟨fun vs H k=>match vs,H with
 | [.ptr 0 0 4,.c (.int .i64 a),.c (.int .i64 b),.ptr 8 0 2,.ptr 9 0 2,.c (.int .i64 c),.c (.int .i64 d)],[.vals [.sw 1 1,.sw 2 1,.sw 3 2,.sw 4 1],.po 2 5 e,.po 2 6 f,.tw .zi g,.po 2 7 h,.pool .zi i,.pool .zi j,.pool .zi l,.vals [.c (.bool m),.il .u32 1 o],.vals [.c (.bool p),.il .u32 1 q]]=>Q102.l11 N N a b c d e f g h i j l m o p q (fun r s t u v w x y z x96 x97 x98 x99=>k (.exit 2) ⟨tB Q102.h11.out [.ptr 0 0 4,.c (.int .i64 r),.c (.int .i64 s),.ptr 8 0 2,.ptr 9 0 2],[.vals [.sw 1 1,.sw 2 1,.sw 3 2,.sw 4 1],.po 2 5 t,.po 2 6 u,.tw .zi v,.po 2 7 w,.pool .zi x,.pool .zi y,.pool .zi z,.vals [.c (.bool x96),.il .u32 1 x97],.vals [.c (.bool x98),.il .u32 1 x99]]⟩)
 |_,_=>none⟩
noncomputable def Q102.c16 (N:Nat):mF:=⟨fun vs H k=>match vs,H with
 | [.ptr 0 0 4,.c (.int .i64 a),.c (.int .i64 b),.ptr 8 0 2,.ptr 9 0 2,.c (.int .i64 c),.c (.int .i64 d)],[.vals [.sw 1 1,.sw 2 1,.sw 3 2,.sw 4 1],.po 2 5 e,.po 2 6 f,.tw .zi g,.po 2 7 h,.pool .zi i,.pool .zi j,.pool .zi l,.vals [.c (.bool m),.il .u32 1 o],.vals [.c (.bool p),.il .u32 1 q]]=>Q102.l16 N N a b c d e f g h i j l m o p q (fun r s t u v w x y z x139 x140 x141 x142=>k (.exit 4) ⟨tB Q102.h16.out [.ptr 0 0 4,.c (.int .i64 r),.c (.int .i64 s),.ptr 8 0 2,.ptr 9 0 2],[.vals [.sw 1 1,.sw 2 1,.sw 3 2,.sw 4 1],.po 2 5 t,.po 2 6 u,.tw .zi v,.po 2 7 w,.pool .zi x,.pool .zi y,.pool .zi z,.vals [.c (.bool x139),.il .u32 1 x140],.vals [.c (.bool x141),.il .u32 1 x142]]⟩)
 |_,_=>none⟩
noncomputable def Q102.E (N:Nat):aC:=mD [(33,aK),(39,nD),(45,gJ),(153,zS)] [(133,Q101.ent N),(70,Q31.ent N),(131,Q96.ent N),(71,Q34.ent N),(130,Q97.ent N),(132,Q98.ent N)] [(5,Q102.h5),(11,Q102.h11),(16,Q102.h16)] [(5,Q102.c5 N),(11,Q102.c11 N),(16,Q102.c16 N)] N [] [] 8 242
noncomputable def Q102.b5:Code:=mA ((cA (bo Tryz.f127)).getD 0 .skip)
theorem Q102.l5_eq {R:Type}(N n:Nat)(a b c d:Int)(e f:W7)(g:W3)(h:W7)(i:W2)(j:W2)(l:W2)(m:Bool)(o:W6)(p:Bool)(q:W6)(k:Ex→St→Option R):
  vA 8 Q102.h5 (fun s k=>tA (Q102.E N) 392 Q102.b5 s k) n [.ptr 0 0 4,.c (.int .i64 a),.c (.int .i64 b),.ptr 8 0 2,.ptr 9 0 2,.c (.int .i64 c),.c (.int .i64 d)] [.vals [.sw 1 1,.sw 2 1,.sw 3 2,.sw 4 1],.po 2 5 e,.po 2 6 f,.tw .zi g,.po 2 7 h,.pool .zi i,.pool .zi j,.pool .zi l,.vals [.c (.bool m),.il .u32 1 o],.vals [.c (.bool p),.il .u32 1 q]] k=Q102.l5 N n a b c d e f g h i j l m o p q (fun r t u v w x y z x52 x53 x54 x55 x56=>k (.exit 0) ⟨tB Q102.h5.out [.ptr 0 0 4,.c (.int .i64 r),.c (.int .i64 t),.ptr 8 0 2,.ptr 9 0 2],[.vals [.sw 1 1,.sw 2 1,.sw 3 2,.sw 4 1],.po 2 5 u,.po 2 6 v,.tw .zi w,.po 2 7 x,.pool .zi y,.pool .zi z,.pool .zi x52,.vals [.c (.bool x53),.il .u32 1 x54],.vals [.c (.bool x55),.il .u32 1 x56]]⟩):=by
 induction n generalizing a b c d e f g h i j l m o p q with
 |zero=>kernel_rfl
 |succ n ih=>
  simp only[Q102.l5,←ih]
  kernel_rfl
noncomputable def Q102.b11:Code:=mA ((cA (bo Tryz.f127)).getD 1 .skip)
theorem Q102.l11_eq {R:Type}(N n:Nat)(a b c d:Int)(e f:W7)(g:W3)(h:W7)(i:W2)(j:W2)(l:W2)(m:Bool)(o:W6)(p:Bool)(q:W6)(k:Ex→St→Option R):
  vA 8 Q102.h11 (fun s k=>tA (Q102.E N) 391 Q102.b11 s k) n [.ptr 0 0 4,.c (.int .i64 a),.c (.int .i64 b),.ptr 8 0 2,.ptr 9 0 2,.c (.int .i64 c),.c (.int .i64 d)] [.vals [.sw 1 1,.sw 2 1,.sw 3 2,.sw 4 1],.po 2 5 e,.po 2 6 f,.tw .zi g,.po 2 7 h,.pool .zi i,.pool .zi j,.pool .zi l,.vals [.c (.bool m),.il .u32 1 o],.vals [.c (.bool p),.il .u32 1 q]] k=Q102.l11 N n a b c d e f g h i j l m o p q (fun r t u v w x y z x95 x96 x97 x98 x99=>k (.exit 2) ⟨tB Q102.h11.out [.ptr 0 0 4,.c (.int .i64 r),.c (.int .i64 t),.ptr 8 0 2,.ptr 9 0 2],[.vals [.sw 1 1,.sw 2 1,.sw 3 2,.sw 4 1],.po 2 5 u,.po 2 6 v,.tw .zi w,.po 2 7 x,.pool .zi y,.pool .zi z,.pool .zi x95,.vals [.c (.bool x96),.il .u32 1 x97],.vals [.c (.bool x98),.il .u32 1 x99]]⟩):=by
 induction n generalizing a b c d e f g h i j l m o p q with
 |zero=>kernel_rfl
 |succ n ih=>
  simp only[Q102.l11,←ih]
  kernel_rfl
noncomputable def Q102.b16:Code:=mA ((cA (bo Tryz.f127)).getD 2 .skip)
theorem Q102.l16_eq {R:Type}(N n:Nat)(a b c d:Int)(e f:W7)(g:W3)(h:W7)(i:W2)(j:W2)(l:W2)(m:Bool)(o:W6)(p:Bool)(q:W6)(k:Ex→St→Option R):
  vA 8 Q102.h16 (fun s k=>tA (Q102.E N) 390 Q102.b16 s k) n [.ptr 0 0 4,.c (.int .i64 a),.c (.int .i64 b),.ptr 8 0 2,.ptr 9 0 2,.c (.int .i64 c),.c (.int .i64 d)] [.vals [.sw 1 1,.sw 2 1,.sw 3 2,.sw 4 1],.po 2 5 e,.po 2 6 f,.tw .zi g,.po 2 7 h,.pool .zi i,.pool .zi j,.pool .zi l,.vals [.c (.bool m),.il .u32 1 o],.vals [.c (.bool p),.il .u32 1 q]] k=Q102.l16 N n a b c d e f g h i j l m o p q (fun r t u v w x y z x138 x139 x140 x141 x142=>k (.exit 4) ⟨tB Q102.h16.out [.ptr 0 0 4,.c (.int .i64 r),.c (.int .i64 t),.ptr 8 0 2,.ptr 9 0 2],[.vals [.sw 1 1,.sw 2 1,.sw 3 2,.sw 4 1],.po 2 5 u,.po 2 6 v,.tw .zi w,.po 2 7 x,.pool .zi y,.pool .zi z,.pool .zi x138,.vals [.c (.bool x139),.il .u32 1 x140],.vals [.c (.bool x141),.il .u32 1 x142]]⟩):=by
 induction n generalizing a b c d e f g h i j l m o p q with
 |zero=>kernel_rfl
 |succ n ih=>
  simp only[Q102.l16,←ih]
  kernel_rfl
noncomputable def Q102.dec (v:V)(bs:List oA):Option (W7×W7×W3×W7×W2×W2×W2):=match v,bs with
 | .tup [],[.vals [.sw 1 1,.sw 2 1,.sw 3 2,.sw 4 1],.po 2 5 a,.po 2 6 b,.tw .zi c,.po 2 7 d,.pool .zi e,.pool .zi f,.pool .zi g]=>some (a,b,c,d,e,f,g)
 |_,_=>none
theorem Q102.f_eq (N:Nat)(a b:Int)(c d:W7)(e:W3)(f:W7)(g:W2)(h:W2)(i:W2):
  uA (Q102.E N) (bo Tryz.f127) [.ptr 0 0 4,.c (.int .i64 a),.c (.int .i64 b)] [.vals [.sw 1 1,.sw 2 1,.sw 3 2,.sw 4 1],.po 2 5 c,.po 2 6 d,.tw .zi e,.po 2 7 f,.pool .zi g,.pool .zi h,.pool .zi i] Q102.dec=Q102.f N a b c d e f g h i:=by kernel_rfl
noncomputable def Q102.ent (N:Nat):rA:={A:=W7×W7×W3×W7×W2×W2×W2,fresh:=0,imm:=[false,true,true],dec:=fun args bs=>match sC (jA bs) [false,false,false] args,bs with
 | [.ptr 0 0 4,.c (.int .i64 a),.c (.int .i64 b)],[.vals [.sw 1 1,.sw 2 1,.sw 3 2,.sw 4 1],.po 2 5 c,.po 2 6 d,.tw .zi e,.po 2 7 f,.pool .zi g,.pool .zi h,.pool .zi i]=>some (Q102.f N a b c d e f g h i,fun r=>.one (.tup []) [.vals [.sw 1 1,.sw 2 1,.sw 3 2,.sw 4 1],.po 2 5 r.1,.po 2 6 r.2.1,.tw .zi r.2.2.1,.po 2 7 r.2.2.2.1,.pool .zi r.2.2.2.2.1,.pool .zi r.2.2.2.2.2.1,.pool .zi r.2.2.2.2.2.2])
 |_,_=>none}
theorem Q102.env (N:Nat):sA Tryz.prog (Q102.E N):=⟨(.cons kD (.cons bB (.cons zC (.cons fJ .nil)))),(.cons (Q101.ent_ok N) (.cons (Q31.ent_ok N) (.cons (Q96.ent_ok N) (.cons (Q34.ent_ok N) (.cons (Q97.ent_ok N) (.cons (Q98.ent_ok N) .nil)))))),fun h=>hA (show false=true from h)⟩
theorem Q102.k16 (N:Nat):eB Tryz.prog Tryz.f127 (Q102.E N) (.loop Q102.b16):=xB (Q102.env N) bA 390 (c:=Q102.c16 N) aA.n fun R vs H k r h=>by unfold Q102.c16 at h;dsimp only at h;split at h;exact⟨_,Q102.l16_eq .. ▸h⟩;cases h
theorem Q102.k11 (N:Nat):eB Tryz.prog Tryz.f127 (Q102.E N) (.loop Q102.b11):=xB (Q102.env N) bA 391 (c:=Q102.c11 N) aA.n fun R vs H k r h=>by unfold Q102.c11 at h;dsimp only at h;split at h;exact⟨_,Q102.l11_eq .. ▸h⟩;cases h
theorem Q102.k5 (N:Nat):eB Tryz.prog Tryz.f127 (Q102.E N) (.loop Q102.b5):=xB (Q102.env N) bA 392 (c:=Q102.c5 N) aA.n fun R vs H k r h=>by unfold Q102.c5 at h;dsimp only at h;split at h;exact⟨_,Q102.l5_eq .. ▸h⟩;cases h
theorem Q102.spec (N:Nat)(a c:Int)(d f:W7)(g:W3)(i:W7)(j:W2)(k:W2)(m:W2)(r:W7×W7×W3×W7×W2×W2×W2)(h:Q102.f N a c d f g i j k m=some r):dA Tryz.prog 127 [.ptr 0 0 4,.c (.int .i64 a),.c (.int .i64 c)] [.vals [.sw 1 1,.sw 2 1,.sw 3 2,.sw 4 1],.po 2 5 d,.po 2 6 f,.tw .zi g,.po 2 7 i,.pool .zi j,.pool .zi k,.pool .zi m] (.tup []) ([.vals [.sw 1 1,.sw 2 1,.sw 3 2,.sw 4 1],.po 2 5 r.1,.po 2 6 r.2.1,.tw .zi r.2.2.1,.po 2 7 r.2.2.2.1,.pool .zi r.2.2.2.2.1,.pool .zi r.2.2.2.2.2.1,.pool .zi r.2.2.2.2.2.2]):=qA (Q102.env N) bA Tryz.func127 (aA.of (l:=[(.loop (mA ((cA (bo Tryz.f127)).getD 0 .skip))),(.loop (mA ((cA (bo Tryz.f127)).getD 1 .skip))),(.loop (mA ((cA (bo Tryz.f127)).getD 2 .skip)))]) (by kernel_rfl) (aA.cons (Q102.k5 N) (aA.cons (Q102.k11 N) (aA.cons (Q102.k16 N) aA.nil)))) ((Q102.f_eq ..).trans h) fun v b e=>by unfold Q102.dec at e;split at e<;>cases e;exact⟨rfl,rfl⟩
theorem Q102.ent_ok (N:Nat):pA Tryz.prog 127 (Q102.ent N):=by
 intro args bs a enc h;simp only[Q102.ent]at h;split at h
 ·rename_i hz;have h0:=hB h;have h1:=congrArg Prod.fst h0;have h2:=congrArg Prod.snd h0;dsimp only at h1 h2;subst h2;exact dA.of_asSl (fl:=[false,false,false]) (by rw[hz];exact Q102.spec N _ _ _ _ _ _ _ _ _ a h1)
 ·cases h
noncomputable def Q103.f (N:Nat)(a:Int)(p q:W7)(b:W3)(c:W7)(r:W2)(s:W2)(e:W2):Option (Bool×W7×W7×W3×W7×W2×W2×W2):=
 bif (decide (0≤a))&&(decide (a<(c.length:Int)))then
  bif (decide (0≤(fA (a-1))))&&(decide ((fA (a-1))<((e.getD (c.getD a.toNat 0) []).length:Int)))then
   bif (decide (0≤(fA (a+1))))&&(decide ((fA (a+1))<(b.length:Int)))then
    bif (decide (0≤(fA (a-1))))&&(decide ((fA (a-1))<(b.length:Int)))then
     (Q97.f N ((b.getD ((fA (a+1)).toNat) (false,([]:W6))).1) ((b.getD ((fA (a+1)).toNat) (false,([]:W6))).2) ((b.getD ((fA (a-1)).toNat) (false,([]:W6))).1) ((b.getD ((fA (a-1)).toNat) (false,([]:W6))).2)).bind fun o=>
     (Q97.f N (((e.getD (c.getD a.toNat 0) []).getD ((fA (a-1)).toNat) (false,([]:W6))).1) (((e.getD (c.getD a.toNat 0) []).getD ((fA (a-1)).toNat) (false,([]:W6))).2) (((e.getD (c.getD a.toNat 0) []).getD ((fA (a-1)).toNat) (false,([]:W6))).1) (((e.getD (c.getD a.toNat 0) []).getD ((fA (a-1)).toNat) (false,([]:W6))).2)).bind fun f=>
     (Q31.f N o.1 o.2 f.1 f.2).bind fun d=>
     (Q96.f N d.1 d.2.1 d.2.2).bind fun g=>
     (Q28.f N 4).bind fun h=>
     (Q97.f N h.1 h.2 g.1 g.2).bind fun i=>
     (Q28.f N 3).bind fun j=>
     bif (decide (0≤a))&&(decide (a<(b.length:Int)))then
      bif (decide (0≤a))&&(decide (a<(b.length:Int)))then
       (Q97.f N ((b.getD a.toNat (false,([]:W6))).1) ((b.getD a.toNat (false,([]:W6))).2) ((b.getD a.toNat (false,([]:W6))).1) ((b.getD a.toNat (false,([]:W6))).2)).bind fun k=>
       (Q97.f N j.1 j.2 k.1 k.2).bind fun l=>
       (Q30.f N i.1 i.2 l.1 l.2).bind fun m=>
       some (decide (m<0),p,q,b,c,r,s,e)
      else none
     else none
    else none
   else none
  else none
 else none
noncomputable def Q103.E (N:Nat):aC:=mD [(33,aK),(39,nD),(45,gJ),(153,zS)] [(130,Q97.ent N),(70,Q31.ent N),(131,Q96.ent N),(10,Q28.ent N),(9,Q30.ent N)] [] [] N [.tmp 4] [.any] 8 64
noncomputable def Q103.dec (v:V)(bs:List oA):Option (Bool×W7×W7×W3×W7×W2×W2×W2):=match v,bs with
 | .c (.bool a),[.vals [.sw 1 1,.sw 2 1,.sw 3 2,.sw 4 1],.po 2 5 b,.po 2 6 c,.tw .zi d,.po 2 7 e,.pool .zi f,.pool .zi g,.pool .zi h]=>some (a,b,c,d,e,f,g,h)
 |_,_=>none
theorem Q103.f_eq (N:Nat)(a:Int)(b c:W7)(d:W3)(e:W7)(f:W2)(g:W2)(h:W2):
  uA (Q103.E N) (bo Tryz.f128) [.ptr 0 0 4,.c (.int .i64 a)] [.vals [.sw 1 1,.sw 2 1,.sw 3 2,.sw 4 1],.po 2 5 b,.po 2 6 c,.tw .zi d,.po 2 7 e,.pool .zi f,.pool .zi g,.pool .zi h] Q103.dec=Q103.f N a b c d e f g h:=by kernel_rfl
noncomputable def Q103.ent (N:Nat):rA:={A:=Bool×W7×W7×W3×W7×W2×W2×W2,fresh:=0,imm:=[false,true],dec:=fun args bs=>match sC (jA bs) [false,false] args,bs with
 | [.ptr 0 0 4,.c (.int .i64 a)],[.vals [.sw 1 1,.sw 2 1,.sw 3 2,.sw 4 1],.po 2 5 b,.po 2 6 c,.tw .zi d,.po 2 7 e,.pool .zi f,.pool .zi g,.pool .zi h]=>some (Q103.f N a b c d e f g h,fun r=>.one (.c (.bool r.1)) [.vals [.sw 1 1,.sw 2 1,.sw 3 2,.sw 4 1],.po 2 5 r.2.1,.po 2 6 r.2.2.1,.tw .zi r.2.2.2.1,.po 2 7 r.2.2.2.2.1,.pool .zi r.2.2.2.2.2.1,.pool .zi r.2.2.2.2.2.2.1,.pool .zi r.2.2.2.2.2.2.2])
 |_,_=>none}
theorem Q103.env (N:Nat):sA Tryz.prog (Q103.E N):=⟨(.cons kD (.cons bB (.cons zC (.cons fJ .nil)))),(.cons (Q97.ent_ok N) (.cons (Q31.ent_ok N) (.cons (Q96.ent_ok N) (.cons (Q28.ent_ok N) (.cons (Q30.ent_ok N) .nil))))),fun h=>hA (show false=true from h)⟩
theorem Q103.spec (N:Nat)(a:Int)(c d:W7)(f:W3)(g:W7)(i:W2)(j:W2)(k:W2)(r:Bool×W7×W7×W3×W7×W2×W2×W2)(h:Q103.f N a c d f g i j k=some r):dA Tryz.prog 128 [.ptr 0 0 4,.c (.int .i64 a)] [.vals [.sw 1 1,.sw 2 1,.sw 3 2,.sw 4 1],.po 2 5 c,.po 2 6 d,.tw .zi f,.po 2 7 g,.pool .zi i,.pool .zi j,.pool .zi k] (.c (.bool r.1)) ([.vals [.sw 1 1,.sw 2 1,.sw 3 2,.sw 4 1],.po 2 5 r.2.1,.po 2 6 r.2.2.1,.tw .zi r.2.2.2.1,.po 2 7 r.2.2.2.2.1,.pool .zi r.2.2.2.2.2.1,.pool .zi r.2.2.2.2.2.2.1,.pool .zi r.2.2.2.2.2.2.2]):=qA (Q103.env N) bA Tryz.func128 aA.n ((Q103.f_eq ..).trans h) fun v b e=>by unfold Q103.dec at e;split at e<;>cases e;exact⟨rfl,rfl⟩
theorem Q103.ent_ok (N:Nat):pA Tryz.prog 128 (Q103.ent N):=by
 intro args bs a enc h;simp only[Q103.ent]at h;split at h
 ·rename_i hz;have h0:=hB h;have h1:=congrArg Prod.fst h0;have h2:=congrArg Prod.snd h0;dsimp only at h1 h2;subst h2;exact dA.of_asSl (fl:=[false,false]) (by rw[hz];exact Q103.spec N _ _ _ _ _ _ _ _ a h1)
 ·cases h
noncomputable def Q104.l3 {R:Type}(N:Nat):Nat→Int→Int→Int→W7→W7→W3→W7→W2→W2→W2→(Int→W7→W7→W3→W7→W2→W2→W2→Option R)→Option R
 |0,_,_,_,_,_,_,_,_,_,_,_=>none
 |n+1,d,e,a,b,f,g,h,c,i,j,k=>
  bif decide (a<e)then
   bif (decide (0≤a))&&(decide (a<(b.length:Int)))then
    bif (decide (0≤a))&&(decide (a<(b.length:Int)))then
     bif (decide (0≤a))&&(decide (a<(b.length:Int)))then
      bif (decide (0≤(fA (d-1))))&&(decide ((fA (d-1))<((c.getD (b.getD a.toNat 0) []).length:Int)))then
       bif (decide (0≤a))&&(decide (a<(b.length:Int)))then
        bif (decide (0≤d))&&(decide (d<((c.getD (b.getD a.toNat 0) []).length:Int)))then
         bif (decide (0≤d))&&(decide (d<((c.getD (b.getD a.toNat 0) []).length:Int)))then
          bif (decide (0≤(fA (d-1))))&&(decide ((fA (d-1))<((((c.set (b.getD a.toNat 0) ((c.getD (b.getD a.toNat 0) []).set d.toNat (((c.getD (b.getD a.toNat 0) []).getD ((fA (d-1)).toNat) (false,([]:W6))).1,((c.getD (b.getD a.toNat 0) []).getD ((fA (d-1)).toNat) (false,([]:W6))).2))).getD (b.getD a.toNat 0) []).length:Nat):Int)))then
           Q104.l3 N n d e (fA (a+1)) b f g h ((c.set (b.getD a.toNat 0) ((c.getD (b.getD a.toNat 0) []).set d.toNat (((c.getD (b.getD a.toNat 0) []).getD ((fA (d-1)).toNat) (false,([]:W6))).1,((c.getD (b.getD a.toNat 0) []).getD ((fA (d-1)).toNat) (false,([]:W6))).2))).set (b.getD a.toNat 0) (((c.set (b.getD a.toNat 0) ((c.getD (b.getD a.toNat 0) []).set d.toNat (((c.getD (b.getD a.toNat 0) []).getD ((fA (d-1)).toNat) (false,([]:W6))).1,((c.getD (b.getD a.toNat 0) []).getD ((fA (d-1)).toNat) (false,([]:W6))).2))).getD (b.getD a.toNat 0) []).set ((fA (d-1)).toNat) (((c.getD (b.getD a.toNat 0) []).getD d.toNat (false,([]:W6))).1,((c.getD (b.getD a.toNat 0) []).getD d.toNat (false,([]:W6))).2))) i j k
          else none
         else none
        else none
       else none
      else none
     else none
    else none
   else none
  else
  k d b f g h c i j
noncomputable def Q104.f (N:Nat)(a:Int)(c d:W7)(m:W3)(o:W7)(p:W2)(q:W2)(r:W2):Option (W7×W7×W3×W7×W2×W2×W2):=
 bif (decide (0≤(fA (a-1))))&&(decide ((fA (a-1))<(d.length:Int)))then
  bif (decide (0≤a))&&(decide (a<(d.length:Int)))then
   bif (decide (0≤a))&&(decide (a<(d.length:Int)))then
    bif (decide (0≤(fA (a-1))))&&(decide ((fA (a-1))<(((d.set a.toNat (d.getD ((fA (a-1)).toNat) 0)).length:Nat):Int)))then
     bif (decide (0≤(fA (a-1))))&&(decide ((fA (a-1))<(c.length:Int)))then
      bif (decide (0≤a))&&(decide (a<(c.length:Int)))then
       bif (decide (0≤a))&&(decide (a<(c.length:Int)))then
        bif (decide (0≤(fA (a-1))))&&(decide ((fA (a-1))<(((c.set a.toNat (c.getD ((fA (a-1)).toNat) 0)).length:Nat):Int)))then
         Q104.l3 N N a ((((c.set a.toNat (c.getD ((fA (a-1)).toNat) 0)).set ((fA (a-1)).toNat) (c.getD a.toNat 0)).length:Nat):Int) 0 ((c.set a.toNat (c.getD ((fA (a-1)).toNat) 0)).set ((fA (a-1)).toNat) (c.getD a.toNat 0)) ((d.set a.toNat (d.getD ((fA (a-1)).toNat) 0)).set ((fA (a-1)).toNat) (d.getD a.toNat 0)) m o p q r
          (fun e f g h i j k l=>
           (Q99.f N (fA (e-1)) f g h i j k l).bind fun b=>
           some (b.1,b.2.1,b.2.2.1,b.2.2.2.1,b.2.2.2.2.1,b.2.2.2.2.2.1,b.2.2.2.2.2.2))
        else none
       else none
      else none
     else none
    else none
   else none
  else none
 else none
noncomputable def Q104.h3:uB:=⟨[(0,.any),(1,.any),(65,.any),(66,.any)],[(0,.any),(1,.any)]⟩
noncomputable def Q104.c3 (N:Nat):mF:=⟨fun vs H k=>match vs,H with
 | [.ptr 0 0 4,.c (.int .i64 t),.c (.int .i64 a),.c (.int .i64 b)],[.vals [.sw 1 1,.sw 2 1,.sw 3 2,.sw 4 1],.po 2 5 c,.po 2 6 d,.tw .zi e,.po 2 7 f,.pool .zi g,.pool .zi h,.pool .zi i]=>Q104.l3 N N t a b c d e f g h i (fun j l m o p q r s=>k (.exit 0) ⟨tB Q104.h3.out [.ptr 0 0 4,.c (.int .i64 j)],[.vals [.sw 1 1,.sw 2 1,.sw 3 2,.sw 4 1],.po 2 5 l,.po 2 6 m,.tw .zi o,.po 2 7 p,.pool .zi q,.pool .zi r,.pool .zi s]⟩)
 |_,_=>none⟩
noncomputable def Q104.E (N:Nat):aC:=mD [(33,aK),(39,nD),(45,gJ),(153,zS)] [(126,Q99.ent N)] [(3,Q104.h3)] [(3,Q104.c3 N)] N [] [] 8 114
noncomputable def Q104.b3:Code:=mA ((cA (bo Tryz.f129)).getD 0 .skip)
theorem Q104.l3_eq {R:Type}(N n:Nat)(u a b:Int)(c d:W7)(e:W3)(f:W7)(g:W2)(h:W2)(i:W2)(k:Ex→St→Option R):
  vA 8 Q104.h3 (fun s k=>tA (Q104.E N) 394 Q104.b3 s k) n [.ptr 0 0 4,.c (.int .i64 u),.c (.int .i64 a),.c (.int .i64 b)] [.vals [.sw 1 1,.sw 2 1,.sw 3 2,.sw 4 1],.po 2 5 c,.po 2 6 d,.tw .zi e,.po 2 7 f,.pool .zi g,.pool .zi h,.pool .zi i] k=Q104.l3 N n u a b c d e f g h i (fun j l m o p q r t=>k (.exit 0) ⟨tB Q104.h3.out [.ptr 0 0 4,.c (.int .i64 j)],[.vals [.sw 1 1,.sw 2 1,.sw 3 2,.sw 4 1],.po 2 5 l,.po 2 6 m,.tw .zi o,.po 2 7 p,.pool .zi q,.pool .zi r,.pool .zi t]⟩):=by
 induction n generalizing u a b c d e f g h i with
 |zero=>kernel_rfl
 |succ n ih=>
  simp only[Q104.l3,←ih]
  kernel_rfl
noncomputable def Q104.dec (v:V)(bs:List oA):Option (W7×W7×W3×W7×W2×W2×W2):=match v,bs with
 | .tup [],[.vals [.sw 1 1,.sw 2 1,.sw 3 2,.sw 4 1],.po 2 5 a,.po 2 6 b,.tw .zi c,.po 2 7 d,.pool .zi e,.pool .zi f,.pool .zi g]=>some (a,b,c,d,e,f,g)
 |_,_=>none
theorem Q104.f_eq (N:Nat)(a:Int)(b c:W7)(d:W3)(e:W7)(f:W2)(g:W2)(h:W2):
  uA (Q104.E N) (bo Tryz.f129) [.ptr 0 0 4,.c (.int .i64 a)] [.vals [.sw 1 1,.sw 2 1,.sw 3 2,.sw 4 1],.po 2 5 b,.po 2 6 c,.tw .zi d,.po 2 7 e,.pool .zi f,.pool .zi g,.pool .zi h] Q104.dec=Q104.f N a b c d e f g h:=by kernel_rfl
noncomputable def Q104.ent (N:Nat):rA:={A:=W7×W7×W3×W7×W2×W2×W2,fresh:=0,imm:=[false,true],dec:=fun args bs=>match sC (jA bs) [false,false] args,bs with
 | [.ptr 0 0 4,.c (.int .i64 a)],[.vals [.sw 1 1,.sw 2 1,.sw 3 2,.sw 4 1],.po 2 5 b,.po 2 6 c,.tw .zi d,.po 2 7 e,.pool .zi f,.pool .zi g,.pool .zi h]=>some (Q104.f N a b c d e f g h,fun r=>.one (.tup []) [.vals [.sw 1 1,.sw 2 1,.sw 3 2,.sw 4 1],.po 2 5 r.1,.po 2 6 r.2.1,.tw .zi r.2.2.1,.po 2 7 r.2.2.2.1,.pool .zi r.2.2.2.2.1,.pool .zi r.2.2.2.2.2.1,.pool .zi r.2.2.2.2.2.2])
 |_,_=>none}
theorem Q104.env (N:Nat):sA Tryz.prog (Q104.E N):=⟨(.cons kD (.cons bB (.cons zC (.cons fJ .nil)))),(.cons (Q99.ent_ok N) .nil),fun h=>hA (show false=true from h)⟩
theorem Q104.k3 (N:Nat):eB Tryz.prog Tryz.f129 (Q104.E N) (.loop Q104.b3):=xB (Q104.env N) bA 394 (c:=Q104.c3 N) aA.n fun R vs H k r h=>by unfold Q104.c3 at h;dsimp only at h;split at h;exact⟨_,Q104.l3_eq .. ▸h⟩;cases h
theorem Q104.spec (N:Nat)(a:Int)(c d:W7)(f:W3)(g:W7)(i:W2)(j:W2)(k:W2)(r:W7×W7×W3×W7×W2×W2×W2)(h:Q104.f N a c d f g i j k=some r):dA Tryz.prog 129 [.ptr 0 0 4,.c (.int .i64 a)] [.vals [.sw 1 1,.sw 2 1,.sw 3 2,.sw 4 1],.po 2 5 c,.po 2 6 d,.tw .zi f,.po 2 7 g,.pool .zi i,.pool .zi j,.pool .zi k] (.tup []) ([.vals [.sw 1 1,.sw 2 1,.sw 3 2,.sw 4 1],.po 2 5 r.1,.po 2 6 r.2.1,.tw .zi r.2.2.1,.po 2 7 r.2.2.2.1,.pool .zi r.2.2.2.2.1,.pool .zi r.2.2.2.2.2.1,.pool .zi r.2.2.2.2.2.2]):=qA (Q104.env N) bA Tryz.func129 (aA.of (l:=[(.loop (mA ((cA (bo Tryz.f129)).getD 0 .skip)))]) (by kernel_rfl) (aA.cons (Q104.k3 N) aA.nil)) ((Q104.f_eq ..).trans h) fun v b e=>by unfold Q104.dec at e;split at e<;>cases e;exact⟨rfl,rfl⟩
theorem Q104.ent_ok (N:Nat):pA Tryz.prog 129 (Q104.ent N):=by
 intro args bs a enc h;simp only[Q104.ent]at h;split at h
 ·rename_i hz;have h0:=hB h;have h1:=congrArg Prod.fst h0;have h2:=congrArg Prod.snd h0;dsimp only at h1 h2;subst h2;exact dA.of_asSl (fl:=[false,false]) (by rw[hz];exact Q104.spec N _ _ _ _ _ _ _ _ a h1)
 ·cases h
noncomputable def Q105.l8 {R:Type}(N:Nat):Nat→Int→Int→W7→W7→W3→W7→W2→W2→W2→(Int→W7→W7→W3→W7→W2→W2→W2→Option R)→Option R
 |0,_,_,_,_,_,_,_,_,_,_=>none
 |n+1,b,c,d,e,f,g,h,i,j,k=>
  bif decide (c≥0)then
   (Q102.f N b c d e f g h i j).bind fun a=>
   Q105.l8 N n b (fA (c-1)) a.1 a.2.1 a.2.2.1 a.2.2.2.1 a.2.2.2.2.1 a.2.2.2.2.2.1 a.2.2.2.2.2.2 k
  else
  k b d e f g h i j
noncomputable def Q105.l2 {R:Type}(N:Nat):Nat→Int→W7→W7→W3→W7→W2→W2→W2→(W7→W7→W3→W7→W2→W2→W2→Option R)→Option R
 |0,_,_,_,_,_,_,_,_,_=>none
 |n+1,d,l,e,f,g,h,i,j,k=>
  bif decide (d<(l.length:Int))then
   (Q102.f N d (fA (d-1)) l e f g h i j).bind fun b=>
   (Q103.f N d b.1 b.2.1 b.2.2.1 b.2.2.2.1 b.2.2.2.2.1 b.2.2.2.2.2.1 b.2.2.2.2.2.2).bind fun a=>
   bif a.1 then
    (Q104.f N d a.2.1 a.2.2.1 a.2.2.2.1 a.2.2.2.2.1 a.2.2.2.2.2.1 a.2.2.2.2.2.2.1 a.2.2.2.2.2.2.2).bind fun c=>
    Q105.l2 N n (Dp 1 (fA (d-1))) c.1 c.2.1 c.2.2.1 c.2.2.2.1 c.2.2.2.2.1 c.2.2.2.2.2.1 c.2.2.2.2.2.2 k
   else
   Q105.l8 N N d (fA (d-2)) a.2.1 a.2.2.1 a.2.2.2.1 a.2.2.2.2.1 a.2.2.2.2.2.1 a.2.2.2.2.2.2.1 a.2.2.2.2.2.2.2
    (fun m o p q r s t u=>
     Q105.l2 N n (fA (m+1)) o p q r s t u k)
  else
  k l e f g h i j
noncomputable def Q105.f (N:Nat)(h i:W7)(j:W3)(k:W7)(l:W2)(m:W2)(o:W2):Option (W7×W7×W3×W7×W2×W2×W2):=
 Q105.l2 N N 1 h i j k l m o
  (fun a b c d e f g=>
   some (a,b,c,d,e,f,g))
noncomputable def Q105.h2:uB:=⟨[(0,.any),(2,.any),(3,.any)],[]⟩
noncomputable def Q105.h8:uB:=⟨[(0,.any),(2,.any),(3,.any),(4,.any)],[(0,.any),(2,.any),(3,.any)]⟩
noncomputable def Q105.c8 (N:Nat):mF:=⟨fun vs H k=>match vs,H with
 | [.ptr 0 0 4,.fn 127 [.ptr 0 0 4] [],.c (.int .i64 a),.c (.int .i64 b)],[.vals [.sw 1 1,.sw 2 1,.sw 3 2,.sw 4 1],.po 2 5 c,.po 2 6 d,.tw .zi e,.po 2 7 f,.pool .zi g,.pool .zi h,.pool .zi i]=>Q105.l8 N N a b c d e f g h i (fun j l m o p q r s=>k (.exit 2) ⟨tB Q105.h8.out [.ptr 0 0 4,.fn 127 [.ptr 0 0 4] [],.c (.int .i64 j)],[.vals [.sw 1 1,.sw 2 1,.sw 3 2,.sw 4 1],.po 2 5 l,.po 2 6 m,.tw .zi o,.po 2 7 p,.pool .zi q,.pool .zi r,.pool .zi s]⟩)
 |_,_=>none⟩
noncomputable def Q105.c2 (N:Nat):mF:=⟨fun vs H k=>match vs,H with
 | [.ptr 0 0 4,.fn 127 [.ptr 0 0 4] [],.c (.int .i64 p)],[.vals [.sw 1 1,.sw 2 1,.sw 3 2,.sw 4 1],.po 2 5 q,.po 2 6 a,.tw .zi b,.po 2 7 c,.pool .zi d,.pool .zi e,.pool .zi f]=>Q105.l2 N N p q a b c d e f (fun g h i j l m o=>k (.exit 0) ⟨tB Q105.h2.out [],[.vals [.sw 1 1,.sw 2 1,.sw 3 2,.sw 4 1],.po 2 5 g,.po 2 6 h,.tw .zi i,.po 2 7 j,.pool .zi l,.pool .zi m,.pool .zi o]⟩)
 |_,_=>none⟩
noncomputable def Q105.E (N:Nat):aC:=mD [(45,gJ),(153,zS)] [(127,Q102.ent N),(128,Q103.ent N),(129,Q104.ent N)] [(2,Q105.h2),(8,Q105.h8)] [(8,Q105.c8 N),(2,Q105.c2 N)] N [] [] 8 40
noncomputable def Q105.b8:Code:=mA ((cA (bo Tryz.f116)).getD 2 .skip)
theorem Q105.l8_eq {R:Type}(N n:Nat)(a b:Int)(c d:W7)(e:W3)(f:W7)(g:W2)(h:W2)(i:W2)(k:Ex→St→Option R):
  vA 8 Q105.h8 (fun s k=>tA (Q105.E N) 386 Q105.b8 s k) n [.ptr 0 0 4,.fn 127 [.ptr 0 0 4] [],.c (.int .i64 a),.c (.int .i64 b)] [.vals [.sw 1 1,.sw 2 1,.sw 3 2,.sw 4 1],.po 2 5 c,.po 2 6 d,.tw .zi e,.po 2 7 f,.pool .zi g,.pool .zi h,.pool .zi i] k=Q105.l8 N n a b c d e f g h i (fun j l m o p q r t=>k (.exit 2) ⟨tB Q105.h8.out [.ptr 0 0 4,.fn 127 [.ptr 0 0 4] [],.c (.int .i64 j)],[.vals [.sw 1 1,.sw 2 1,.sw 3 2,.sw 4 1],.po 2 5 l,.po 2 6 m,.tw .zi o,.po 2 7 p,.pool .zi q,.pool .zi r,.pool .zi t]⟩):=by
 induction n generalizing a b c d e f g h i with
 |zero=>kernel_rfl
 |succ n ih=>
  simp only[Q105.l8,←ih]
  kernel_rfl
noncomputable def Q105.b2:Code:=mA ((cA (bo Tryz.f116)).getD 1 .skip)
theorem Q105.l2_eq {R:Type}(N n:Nat)(p:Int)(q a:W7)(b:W3)(c:W7)(d:W2)(e:W2)(f:W2)(k:Ex→St→Option R):
  vA 8 Q105.h2 (fun s k=>tA (Q105.E N) 394 Q105.b2 s k) n [.ptr 0 0 4,.fn 127 [.ptr 0 0 4] [],.c (.int .i64 p)] [.vals [.sw 1 1,.sw 2 1,.sw 3 2,.sw 4 1],.po 2 5 q,.po 2 6 a,.tw .zi b,.po 2 7 c,.pool .zi d,.pool .zi e,.pool .zi f] k=Q105.l2 N n p q a b c d e f (fun g h i j l m o=>k (.exit 0) ⟨tB Q105.h2.out [],[.vals [.sw 1 1,.sw 2 1,.sw 3 2,.sw 4 1],.po 2 5 g,.po 2 6 h,.tw .zi i,.po 2 7 j,.pool .zi l,.pool .zi m,.pool .zi o]⟩):=by
 induction n generalizing p q a b c d e f with
 |zero=>kernel_rfl
 |succ n ih=>
  simp only[Q105.l2,←ih]
  kernel_rfl
noncomputable def Q105.dec (v:V)(bs:List oA):Option (W7×W7×W3×W7×W2×W2×W2):=match v,bs with
 | .tup [],[.vals [.sw 1 1,.sw 2 1,.sw 3 2,.sw 4 1],.po 2 5 a,.po 2 6 b,.tw .zi c,.po 2 7 d,.pool .zi e,.pool .zi f,.pool .zi g]=>some (a,b,c,d,e,f,g)
 |_,_=>none
theorem Q105.f_eq (N:Nat)(a b:W7)(c:W3)(d:W7)(e:W2)(f:W2)(g:W2):
  uA (Q105.E N) (bo Tryz.f116) [.ptr 0 0 4] [.vals [.sw 1 1,.sw 2 1,.sw 3 2,.sw 4 1],.po 2 5 a,.po 2 6 b,.tw .zi c,.po 2 7 d,.pool .zi e,.pool .zi f,.pool .zi g] Q105.dec=Q105.f N a b c d e f g:=by kernel_rfl
noncomputable def Q105.ent (N:Nat):rA:={A:=W7×W7×W3×W7×W2×W2×W2,fresh:=0,imm:=[false],dec:=fun args bs=>match sC (jA bs) [false] args,bs with
 | [.ptr 0 0 4],[.vals [.sw 1 1,.sw 2 1,.sw 3 2,.sw 4 1],.po 2 5 a,.po 2 6 b,.tw .zi c,.po 2 7 d,.pool .zi e,.pool .zi f,.pool .zi g]=>some (Q105.f N a b c d e f g,fun r=>.one (.tup []) [.vals [.sw 1 1,.sw 2 1,.sw 3 2,.sw 4 1],.po 2 5 r.1,.po 2 6 r.2.1,.tw .zi r.2.2.1,.po 2 7 r.2.2.2.1,.pool .zi r.2.2.2.2.1,.pool .zi r.2.2.2.2.2.1,.pool .zi r.2.2.2.2.2.2])
 |_,_=>none}
theorem Q105.env (N:Nat):sA Tryz.prog (Q105.E N):=⟨(.cons zC (.cons fJ .nil)),(.cons (Q102.ent_ok N) (.cons (Q103.ent_ok N) (.cons (Q104.ent_ok N) .nil))),fun h=>hA (show false=true from h)⟩
theorem Q105.k8 (N:Nat):eB Tryz.prog Tryz.f116 (Q105.E N) (.loop Q105.b8):=xB (Q105.env N) bA 386 (c:=Q105.c8 N) aA.n fun R vs H k r h=>by unfold Q105.c8 at h;dsimp only at h;split at h;exact⟨_,Q105.l8_eq .. ▸h⟩;cases h
theorem Q105.k2 (N:Nat):eB Tryz.prog Tryz.f116 (Q105.E N) (.loop Q105.b2):=xB (Q105.env N) bA 394 (c:=Q105.c2 N) (aA.of (l:=[(.loop (mA ((cA (bo Tryz.f116)).getD 2 .skip)))]) (by kernel_rfl) (aA.cons (Q105.k8 N) aA.nil)) fun R vs H k r h=>by unfold Q105.c2 at h;dsimp only at h;split at h;exact⟨_,Q105.l2_eq .. ▸h⟩;cases h
theorem Q105.spec (N:Nat)(a c:W7)(d:W3)(f:W7)(g:W2)(i:W2)(j:W2)(r:W7×W7×W3×W7×W2×W2×W2)(h:Q105.f N a c d f g i j=some r):dA Tryz.prog 116 [.ptr 0 0 4] [.vals [.sw 1 1,.sw 2 1,.sw 3 2,.sw 4 1],.po 2 5 a,.po 2 6 c,.tw .zi d,.po 2 7 f,.pool .zi g,.pool .zi i,.pool .zi j] (.tup []) ([.vals [.sw 1 1,.sw 2 1,.sw 3 2,.sw 4 1],.po 2 5 r.1,.po 2 6 r.2.1,.tw .zi r.2.2.1,.po 2 7 r.2.2.2.1,.pool .zi r.2.2.2.2.1,.pool .zi r.2.2.2.2.2.1,.pool .zi r.2.2.2.2.2.2]):=qA (Q105.env N) bA Tryz.func116 (aA.of (l:=[(.scope (mA ((cA (bo Tryz.f116)).getD 0 .skip))),(.loop (mA ((cA (bo Tryz.f116)).getD 1 .skip))),(.loop (mA ((cA (bo Tryz.f116)).getD 2 .skip)))]) (by kernel_rfl) (aA.cons (pT (by kernel_rfl)) (aA.cons (Q105.k2 N) (aA.cons (Q105.k8 N) aA.nil)))) ((Q105.f_eq ..).trans h) fun v b e=>by unfold Q105.dec at e;split at e<;>cases e;exact⟨rfl,rfl⟩
theorem Q105.ent_ok (N:Nat):pA Tryz.prog 116 (Q105.ent N):=by
 intro args bs a enc h;simp only[Q105.ent]at h;split at h
 ·rename_i hz;have h0:=hB h;have h1:=congrArg Prod.fst h0;have h2:=congrArg Prod.snd h0;dsimp only at h1 h2;subst h2;exact dA.of_asSl (fl:=[false]) (by rw[hz];exact Q105.spec N _ _ _ _ _ _ _ a h1)
 ·cases h
noncomputable def Q106.l7 {R:Type}(N:Nat):Nat→Int→Int→Int→Int→Int→W7→W2→W5→W7→(Int→Int→W7→W2→W5→W7→Option R)→Option R
 |0,_,_,_,_,_,_,_,_,_,_=>none
 |n+1,e,g,h,i,a,b,d,f,c,k=>
  bif decide (a<i)then
   bif (decide (0≤e))&&(decide (e<(c.length:Int)))then
    bif (decide (0≤e))&&(decide (e<(b.length:Int)))then
     bif (decide (0≤a))&&(decide (a<((d.getD (b.getD e.toNat 0) []).length:Int)))then
      (Q29.f N (((d.getD (b.getD e.toNat 0) []).getD a.toNat (false,([]:W6))).1) (((d.getD (b.getD e.toNat 0) []).getD a.toNat (false,([]:W6))).2)).bind fun j=>
      bif (decide (0≤a))&&(decide (a<((f.getD (c.getD e.toNat 0) []).length:Int)))then
       Q106.l7 N n e g h i (fA (a+1)) b d (f.set (c.getD e.toNat 0) ((f.getD (c.getD e.toNat 0) []).set a.toNat j.1)) c k
      else none
     else none
    else none
   else none
  else
  k g h b d f c
noncomputable def Q106.l3 {R:Type}(N:Nat):Nat→Int→Int→W7→W2→W5→W7→(W7→W2→W5→W7→Option R)→Option R
 |0,_,_,_,_,_,_,_=>none
 |n+1,m,a,b,c,d,e,l=>
  bif decide (a<m)then
   bif (decide (0≤a))&&(decide (a<(b.length:Int)))then
    bif dG ((c.getD (b.getD a.toNat 0) []).length:Int) ((c.getD (b.getD a.toNat 0) []).length:Int)&&decide (0≤((c.getD (b.getD a.toNat 0) []).length:Int))&&decide (((c.getD (b.getD a.toNat 0) []).length:Int)≤9223372036854775807)&&lB (((c.getD (b.getD a.toNat 0) []).length:Int).toNat) 8 then
     bif (decide (0≤a))&&(decide (a<(e.length:Int)))then
      bif (decide (0≤a))&&(decide (a<(b.length:Int)))then
       Q106.l7 N N a m a ((c.getD (b.getD a.toNat 0) []).length:Int) 0 b c (d++[hC (((c.getD (b.getD a.toNat 0) []).length:Int).toNat) (0:Int)]) (e.set a.toNat d.length)
        (fun f g h i j k=>
         Q106.l3 N n f (fA (g+1)) h i j k l)
      else none
     else none
    else none
   else none
  else
  l b c d e
noncomputable def Q106.f (N:Nat)(a:W7)(f:W2):Option (W5×W7×W2):=
 bif dG (a.length:Int) (a.length:Int)&&decide (0≤(a.length:Int))&&decide ((a.length:Int)≤9223372036854775807)&&lB ((a.length:Int).toNat) 24 then
  Q106.l3 N N (a.length:Int) 0 a f [[]] (hC ((a.length:Int).toNat) 0)
   (fun b c d e=>
    some (e.map fun q=>(d.getD q []:W6),b,c))
 else none
noncomputable def Q106.h3:uB:=⟨[(0,.mrow .zi),(3,.mrow (.int .i64)),(10,.any),(11,.any)],[(3,.mrow (.int .i64))]⟩
noncomputable def Q106.h7:uB:=⟨[(0,.mrow .zi),(3,.mrow (.int .i64)),(4,.any),(10,.any),(11,.any),(27,.any),(28,.any)],[(0,.mrow .zi),(3,.mrow (.int .i64)),(10,.any),(11,.any)]⟩
noncomputable def Q106.c7 (N:Nat):mF:=⟨fun vs H k=>match vs,H with
 | [.sw 0 1,.sw 3 1,.c (.int .i64 q),.c (.int .i64 a),.c (.int .i64 b),.c (.int .i64 c),.c (.int .i64 d)],[.po 2 1 e,.pool .zi f,.pool (.int .i64) g,.po 1 2 h]=>Q106.l7 N N q a b c d e f g h (fun i j l m o p=>k (.exit 2) ⟨tB Q106.h7.out [.sw 0 1,.sw 3 1,.c (.int .i64 i),.c (.int .i64 j)],[.po 2 1 l,.pool .zi m,.pool (.int .i64) o,.po 1 2 p]⟩)
 |_,_=>none⟩
noncomputable def Q106.c3 (N:Nat):mF:=⟨fun vs H k=>match vs,H with
 | [.sw 0 1,.sw 3 1,.c (.int .i64 e),.c (.int .i64 f)],[.po 2 1 g,.pool .zi h,.pool (.int .i64) i,.po 1 2 j]=>Q106.l3 N N e f g h i j (fun a b c d=>k (.exit 0) ⟨tB Q106.h3.out [.sw 3 1],[.po 2 1 a,.pool .zi b,.pool (.int .i64) c,.po 1 2 d]⟩)
 |_,_=>none⟩
noncomputable def Q106.E (N:Nat):aC:=mD [(2,iW),(22,eL),(33,aK),(39,nD),(43,nJ),(45,gJ)] [(61,Q29.ent N)] [(3,Q106.h3),(7,Q106.h7)] [(7,Q106.c7 N),(3,Q106.c3 N)] N [.tmp 2] [.inl .i64 1] 2 51
noncomputable def Q106.b7:Code:=mA ((cA (bo Tryz.f102)).getD 1 .skip)
theorem Q106.l7_eq {R:Type}(N n:Nat)(q a b c d:Int)(e:W7)(f:W2)(g:W5)(h:W7)(k:Ex→St→Option R):
  vA 2 Q106.h7 (fun s k=>tA (Q106.E N) 385 Q106.b7 s k) n [.sw 0 1,.sw 3 1,.c (.int .i64 q),.c (.int .i64 a),.c (.int .i64 b),.c (.int .i64 c),.c (.int .i64 d)] [.po 2 1 e,.pool .zi f,.pool (.int .i64) g,.po 1 2 h] k=Q106.l7 N n q a b c d e f g h (fun i j l m o p=>k (.exit 2) ⟨tB Q106.h7.out [.sw 0 1,.sw 3 1,.c (.int .i64 i),.c (.int .i64 j)],[.po 2 1 l,.pool .zi m,.pool (.int .i64) o,.po 1 2 p]⟩):=by
 induction n generalizing q a b c d e f g h with
 |zero=>kernel_rfl
 |succ n ih=>
  simp only[Q106.l7,←ih]
  kernel_rfl
noncomputable def Q106.b3:Code:=mA ((cA (bo Tryz.f102)).getD 0 .skip)
theorem Q106.l3_eq {R:Type}(N n:Nat)(a f:Int)(g:W7)(h:W2)(i:W5)(j:W7)(k:Ex→St→Option R):
  vA 2 Q106.h3 (fun s k=>tA (Q106.E N) 394 Q106.b3 s k) n [.sw 0 1,.sw 3 1,.c (.int .i64 a),.c (.int .i64 f)] [.po 2 1 g,.pool .zi h,.pool (.int .i64) i,.po 1 2 j] k=Q106.l3 N n a f g h i j (fun b c d e=>k (.exit 0) ⟨tB Q106.h3.out [.sw 3 1],[.po 2 1 b,.pool .zi c,.pool (.int .i64) d,.po 1 2 e]⟩):=by
 induction n generalizing a f g h i j with
 |zero=>kernel_rfl
 |succ n ih=>
  simp only[Q106.l3,←ih]
  kernel_rfl
noncomputable def Q106.dec (v:V)(bs:List oA):Option (W5×W7×W2):=match v,bs with
 | .inl .i64 1 a,[.po 2 1 b,.pool .zi c]=>some (a,b,c)
 |_,_=>none
theorem Q106.f_eq (N:Nat)(a:W7)(b:W2):
  uA (Q106.E N) (bo Tryz.f102) [.sw 0 1] [.po 2 1 a,.pool .zi b] Q106.dec=Q106.f N a b:=by kernel_rfl
noncomputable def Q106.ent (N:Nat):rA:={A:=W5×W7×W2,fresh:=0,imm:=[false],dec:=fun args bs=>match sC (jA bs) [false] args,bs with
 | [.sw 0 1],[.po 2 1 a,.pool .zi b]=>some (Q106.f N a b,fun r=>.one (.inl .i64 1 r.1) [.po 2 1 r.2.1,.pool .zi r.2.2])
 |_,_=>none}
theorem Q106.env (N:Nat):sA Tryz.prog (Q106.E N):=⟨(.cons sE (.cons yD (.cons kD (.cons bB (.cons cD (.cons zC .nil)))))),(.cons (Q29.ent_ok N) .nil),fun h=>hA (show false=true from h)⟩
theorem Q106.k7 (N:Nat):eB Tryz.prog Tryz.f102 (Q106.E N) (.loop Q106.b7):=xB (Q106.env N) bA 385 (c:=Q106.c7 N) aA.n fun R vs H k r h=>by unfold Q106.c7 at h;dsimp only at h;split at h;exact⟨_,Q106.l7_eq .. ▸h⟩;cases h
theorem Q106.k3 (N:Nat):eB Tryz.prog Tryz.f102 (Q106.E N) (.loop Q106.b3):=xB (Q106.env N) bA 394 (c:=Q106.c3 N) (aA.of (l:=[(.loop (mA ((cA (bo Tryz.f102)).getD 1 .skip)))]) (by kernel_rfl) (aA.cons (Q106.k7 N) aA.nil)) fun R vs H k r h=>by unfold Q106.c3 at h;dsimp only at h;split at h;exact⟨_,Q106.l3_eq .. ▸h⟩;cases h
theorem Q106.spec (N:Nat)(a:W7)(c:W2)(r:W5×W7×W2)(h:Q106.f N a c=some r):dA Tryz.prog 102 [.sw 0 1] [.po 2 1 a,.pool .zi c] (.inl .i64 1 r.1) ([.po 2 1 r.2.1,.pool .zi r.2.2]):=qA (Q106.env N) bA Tryz.func102 (aA.of (l:=[(.loop (mA ((cA (bo Tryz.f102)).getD 0 .skip))),(.loop (mA ((cA (bo Tryz.f102)).getD 1 .skip)))]) (by kernel_rfl) (aA.cons (Q106.k3 N) (aA.cons (Q106.k7 N) aA.nil))) ((Q106.f_eq ..).trans h) fun v b e=>by unfold Q106.dec at e;split at e<;>cases e;exact⟨rfl,rfl⟩
theorem Q106.ent_ok (N:Nat):pA Tryz.prog 102 (Q106.ent N):=by
 intro args bs a enc h;simp only[Q106.ent]at h;split at h
 ·rename_i hz;have h0:=hB h;have h1:=congrArg Prod.fst h0;have h2:=congrArg Prod.snd h0;dsimp only at h1 h2;subst h2;exact dA.of_asSl (fl:=[false]) (by rw[hz];exact Q106.spec N _ _ a h1)
 ·cases h
noncomputable def Q107.f (N:Nat)(c:W5):Option (W2×W7×W2×W7×W3×W2×W7×Int):=
 (Q69.f N c).bind fun d=>
 bif d != 0 then none else
 (Q100.f N c).bind fun a=>
 (Q105.f N a.2.1 a.2.2.2.1 a.2.2.2.2.1 a.2.2.2.2.2.2 a.1 a.2.2.1 a.2.2.2.2.2.1).bind fun b=>
 some (b.2.2.2.2.1,b.1,b.2.2.2.2.2.1,b.2.1,b.2.2.1,b.2.2.2.2.2.2,b.2.2.2.1,0)
noncomputable def Q107.E (N:Nat):aC:=mD [] [(11,Q69.ent N),(115,Q100.ent N),(116,Q105.ent N)] [] [] N [.tmp 2,.tmp 3] [.box [.mrow .zi,.mrow .zi,.any,.mrow .zi],.any] 0 16 true
noncomputable def Q107.dec (v:V)(bs:List oA):Option (W2×W7×W2×W7×W3×W2×W7×Int):=match v,bs with
 | .tup [.ptr 0 0 4,.c (.int .i64 h)],[.vals [.sw 2 1,.sw 4 1,.sw 5 2,.sw 7 1],.pool .zi a,.po 2 1 b,.pool .zi c,.po 2 3 d,.tw .zi e,.pool .zi f,.po 2 6 g]=>some (a,b,c,d,e,f,g,h)
 |_,_=>none
theorem Q107.f_eq (N:Nat)(a:W5):
  uA (Q107.E N) (bo Tryz.f101) [.inl .i64 1 a] [] Q107.dec=Q107.f N a:=by kernel_rfl
noncomputable def Q107.ent (N:Nat):rA:=tF (W2×W7×W2×W7×W3×W2×W7×Int) 8 [true] [.inl .i64 1] fun
 | [.inl .i64 1 a]=>some (Q107.f N a,fun r=>.one (.tup [.ptr 0 0 4,.c (.int .i64 r.2.2.2.2.2.2.2)]) [.vals [.sw 2 1,.sw 4 1,.sw 5 2,.sw 7 1],.pool .zi r.1,.po 2 1 r.2.1,.pool .zi r.2.2.1,.po 2 3 r.2.2.2.1,.tw .zi r.2.2.2.2.1,.pool .zi r.2.2.2.2.2.1,.po 2 6 r.2.2.2.2.2.2.1])
 |_=>none
theorem Q107.env (N:Nat):sA Tryz.prog (Q107.E N):=⟨.nil,(.cons (Q69.ent_ok N) (.cons (Q100.ent_ok N) (.cons (Q105.ent_ok N) .nil))),fun h=>hA (show false=true from h)⟩
theorem Q107.spec (N:Nat)(a:W5)(r:W2×W7×W2×W7×W3×W2×W7×Int)(h:Q107.f N a=some r):dA Tryz.prog 101 [.inl .i64 1 a] [] (.tup [.ptr 0 0 4,.c (.int .i64 r.2.2.2.2.2.2.2)]) ([.vals [.sw 2 1,.sw 4 1,.sw 5 2,.sw 7 1],.pool .zi r.1,.po 2 1 r.2.1,.pool .zi r.2.2.1,.po 2 3 r.2.2.2.1,.tw .zi r.2.2.2.2.1,.pool .zi r.2.2.2.2.2.1,.po 2 6 r.2.2.2.2.2.2.1]):=qA (Q107.env N) bA Tryz.func101 aA.n ((Q107.f_eq ..).trans h) fun v b e=>by unfold Q107.dec at e;split at e<;>cases e;exact⟨rfl,rfl⟩
theorem Q107.ent_ok (N:Nat):pA Tryz.prog 101 (Q107.ent N):=xA fun v a e h=>by split at h;exact gC (Q:=fun e=>dA _ _ _ _ (e a).pick.1 (e a).pick.2) h fun k=>Q107.spec N _ a k;cases h
noncomputable def Q108.l9 {R:Type}(N:Nat):Nat→W5→W5→Int→Int→W6→Int→Int→W2→W7→W2→W7→W3→W2→W7→(W5→W5→Int→Int→W2→W7→W2→W7→W3→W2→W7→Option R)→(W5→Int→W2→W7→Option R)→Option R
 |0,_,_,_,_,_,_,_,_,_,_,_,_,_,_,_,_=>none
 |n+1,c,d,e,f,b,g,a,h,i,j,k,l,m,o,p,kr=>
  bif decide (a<g)then
   bif (decide (0≤a))&&(decide (a<(b.length:Int)))then
    bif decide ((b.getD a.toNat 0)>16384)then
     kr [] 3 [] []
    else
    bif decide ((b.getD a.toNat 0)<(-16384))then
     kr [] 3 [] []
    else
    Q108.l9 N n c d e f b g (fA (a+1)) h i j k l m o p kr
   else none
  else
  p c d e f h i j k l m o
noncomputable def Q108.l6 {R:Type}(N:Nat):Nat→W5→W5→Int→Int→W2→W7→W2→W7→W3→W2→W7→(W5→W2→W7→W2→W7→W3→W2→W7→Option R)→(W5→Int→W2→W7→Option R)→Option R
 |0,_,_,_,_,_,_,_,_,_,_,_,_,_=>none
 |n+1,y,g,z,a,x8,x9,b,c,d,e,f,x,kr=>
  bif decide (a<z)then
   bif (decide (0≤a))&&(decide (a<(g.length:Int)))then
    Q108.l9 N N y g z a (g.getD a.toNat []) ((g.getD a.toNat []).length:Int) 0 x8 x9 b c d e f
     (fun h i j k l m o p q r s=>
      Q108.l6 N n h i j (fA (k+1)) l m o p q r s x kr)
     (fun t u v w=>
      kr t u v w)
   else none
  else
  x y x8 x9 b c d e f
noncomputable def Q108.f (N:Nat)(k:W5):Option (W5×W2×W7×Int):=
 (Q107.f N k).bind fun a=>
 bif a.2.2.2.2.2.2.2 != 0 then
  some ([],[],[],a.2.2.2.2.2.2.2)
 else
 (Q106.f N a.2.1 a.1).bind fun b=>
 Q108.l6 N N b.1 b.1 (b.1.length:Int) 0 b.2.2 b.2.1 a.2.2.1 a.2.2.2.1 a.2.2.2.2.1 a.2.2.2.2.2.1 a.2.2.2.2.2.2.1
  (fun d l m e f o p q=>
   (Q85.f N f e).bind fun c=>
   some (d,c.1,c.2.1,0))
  (fun g h i j=>
   some (g,i,j,h))
noncomputable def Q108.h6:uB:=⟨[(2,.inl .i64 1),(3,.box [.any]),(5,.box [.mrow .zi,.mrow .zi,.any,.mrow .zi]),(24,.inl .i64 1),(25,.any),(26,.any)],[(2,.inl .i64 1),(3,.box [.any]),(5,.box [.mrow .zi,.mrow .zi,.any,.mrow .zi])]⟩
noncomputable def Q108.h9:uB:=⟨[(2,.inl .i64 1),(3,.box [.any]),(5,.box [.mrow .zi,.mrow .zi,.any,.mrow .zi]),(24,.inl .i64 1),(25,.any),(26,.any),(30,.il .i64 1),(31,.any),(32,.any)],[(2,.inl .i64 1),(3,.box [.any]),(5,.box [.mrow .zi,.mrow .zi,.any,.mrow .zi]),(24,.inl .i64 1),(25,.any),(26,.any)]⟩
noncomputable def Q108.c9 (N:Nat):mF:=⟨fun vs H k=>match vs,H with
 | [.inl .i64 1 a,.ptr 0 0 1,.ptr 1 0 4,.inl .i64 1 b,.c (.int .i64 c),.c (.int .i64 d),.il .i64 1 e,.c (.int .i64 f),.c (.int .i64 g)],[.vals [.c (.slice none 0 0)],.vals [.sw 3 1,.sw 5 1,.sw 6 2,.sw 8 1],.pool .zi h,.po 2 2 i,.pool .zi j,.po 2 4 l,.tw .zi m,.pool .zi o,.po 2 7 p]=>Q108.l9 N N a b c d e f g h i j l m o p (fun u v w x y z x39 x40 x41 x42 x43=>k (.exit 2) ⟨tB Q108.h9.out [.inl .i64 1 u,.ptr 0 0 1,.ptr 1 0 4,.inl .i64 1 v,.c (.int .i64 w),.c (.int .i64 x)],[.vals [.c (.slice none 0 0)],.vals [.sw 3 1,.sw 5 1,.sw 6 2,.sw 8 1],.pool .zi y,.po 2 2 z,.pool .zi x39,.po 2 4 x40,.tw .zi x41,.pool .zi x42,.po 2 7 x43]⟩) (fun q r s t=>k (.ret (.tup [.inl .i64 1 q,.agg [.sw 1 1],.c (.int .i64 r)]) [.pool .zi s,.po 2 0 t]) .nil)
 |_,_=>none⟩
noncomputable def Q108.c6 (N:Nat):mF:=⟨fun vs H k=>match vs,H with
 | [.inl .i64 1 t,.ptr 0 0 1,.ptr 1 0 4,.inl .i64 1 u,.c (.int .i64 v),.c (.int .i64 w)],[.vals [.c (.slice none 0 0)],.vals [.sw 3 1,.sw 5 1,.sw 6 2,.sw 8 1],.pool .zi x,.po 2 2 y,.pool .zi a,.po 2 4 b,.tw .zi c,.pool .zi d,.po 2 7 e]=>Q108.l6 N N t u v w x y a b c d e (fun j l m o p q r s=>k (.exit 0) ⟨tB Q108.h6.out [.inl .i64 1 j,.ptr 0 0 1,.ptr 1 0 4],[.vals [.c (.slice none 0 0)],.vals [.sw 3 1,.sw 5 1,.sw 6 2,.sw 8 1],.pool .zi l,.po 2 2 m,.pool .zi o,.po 2 4 p,.tw .zi q,.pool .zi r,.po 2 7 s]⟩) (fun f g h i=>k (.ret (.tup [.inl .i64 1 f,.agg [.sw 1 1],.c (.int .i64 g)]) [.pool .zi h,.po 2 0 i]) .nil)
 |_,_=>none⟩
noncomputable def Q108.E (N:Nat):aC:=mD [(2,iW),(22,eL),(43,nJ),(45,gJ),(47,rN),(153,zS)] [(101,Q107.ent N),(102,Q106.ent N),(103,Q85.ent N)] [(6,Q108.h6),(9,Q108.h9)] [(9,Q108.c9 N),(6,Q108.c6 N)] N [.tmp 2,.cell 3 47,.tmp 4] [.inl .i64 1,.recd [.mrow .zi],.any] 0 55 true
noncomputable def Q108.b9:Code:=mA ((cA (bo Tryz.f72)).getD 1 .skip)
theorem Q108.l9_eq {R:Type}(N n:Nat)(a b:W5)(c d:Int)(e:W6)(f g:Int)(h:W2)(i:W7)(j:W2)(l:W7)(m:W3)(o:W2)(p:W7)(k:Ex→St→Option R):
  vA 0 Q108.h9 (fun s k=>tA (Q108.E N) 384 Q108.b9 s k) n [.inl .i64 1 a,.ptr 0 0 1,.ptr 1 0 4,.inl .i64 1 b,.c (.int .i64 c),.c (.int .i64 d),.il .i64 1 e,.c (.int .i64 f),.c (.int .i64 g)] [.vals [.c (.slice none 0 0)],.vals [.sw 3 1,.sw 5 1,.sw 6 2,.sw 8 1],.pool .zi h,.po 2 2 i,.pool .zi j,.po 2 4 l,.tw .zi m,.pool .zi o,.po 2 7 p] k=Q108.l9 N n a b c d e f g h i j l m o p (fun v w x y z x38 x39 x40 x41 x42 x43=>k (.exit 2) ⟨tB Q108.h9.out [.inl .i64 1 v,.ptr 0 0 1,.ptr 1 0 4,.inl .i64 1 w,.c (.int .i64 x),.c (.int .i64 y)],[.vals [.c (.slice none 0 0)],.vals [.sw 3 1,.sw 5 1,.sw 6 2,.sw 8 1],.pool .zi z,.po 2 2 x38,.pool .zi x39,.po 2 4 x40,.tw .zi x41,.pool .zi x42,.po 2 7 x43]⟩) (fun q r t u=>k (.ret (.tup [.inl .i64 1 q,.agg [.sw 1 1],.c (.int .i64 r)]) [.pool .zi t,.po 2 0 u]) .nil):=by
 induction n generalizing a b c d e f g h i j l m o p with
 |zero=>kernel_rfl
 |succ n ih=>
  simp only[Q108.l9,←ih]
  kernel_rfl
noncomputable def Q108.b6:Code:=mA ((cA (bo Tryz.f72)).getD 0 .skip)
theorem Q108.l6_eq {R:Type}(N n:Nat)(f g:W5)(i w:Int)(y:W2)(z:W7)(a:W2)(b:W7)(c:W3)(d:W2)(e:W7)(k:Ex→St→Option R):
  vA 0 Q108.h6 (fun s k=>tA (Q108.E N) 392 Q108.b6 s k) n [.inl .i64 1 f,.ptr 0 0 1,.ptr 1 0 4,.inl .i64 1 g,.c (.int .i64 i),.c (.int .i64 w)] [.vals [.c (.slice none 0 0)],.vals [.sw 3 1,.sw 5 1,.sw 6 2,.sw 8 1],.pool .zi y,.po 2 2 z,.pool .zi a,.po 2 4 b,.tw .zi c,.pool .zi d,.po 2 7 e] k=Q108.l6 N n f g i w y z a b c d e (fun o p q r t u v x=>k (.exit 0) ⟨tB Q108.h6.out [.inl .i64 1 o,.ptr 0 0 1,.ptr 1 0 4],[.vals [.c (.slice none 0 0)],.vals [.sw 3 1,.sw 5 1,.sw 6 2,.sw 8 1],.pool .zi p,.po 2 2 q,.pool .zi r,.po 2 4 t,.tw .zi u,.pool .zi v,.po 2 7 x]⟩) (fun h j l m=>k (.ret (.tup [.inl .i64 1 h,.agg [.sw 1 1],.c (.int .i64 j)]) [.pool .zi l,.po 2 0 m]) .nil):=by
 induction n generalizing f g i w y z a b c d e with
 |zero=>kernel_rfl
 |succ n ih=>
  simp only[Q108.l6,←ih]
  kernel_rfl
noncomputable def Q108.dec (v:V)(bs:List oA):Option (W5×W2×W7×Int):=match v,bs with
 | .tup [.inl .i64 1 a,.agg [.sw 1 1],.c (.int .i64 d)],[.pool .zi b,.po 2 0 c]=>some (a,b,c,d)
 |_,_=>none
theorem Q108.f_eq (N:Nat)(a:W5):
  uA (Q108.E N) (bo Tryz.f72) [.inl .i64 1 a] [] Q108.dec=Q108.f N a:=by kernel_rfl
noncomputable def Q108.ent (N:Nat):rA:=tF (W5×W2×W7×Int) 2 [true] [.inl .i64 1] fun
 | [.inl .i64 1 a]=>some (Q108.f N a,fun r=>.one (.tup [.inl .i64 1 r.1,.agg [.sw 1 1],.c (.int .i64 r.2.2.2)]) [.pool .zi r.2.1,.po 2 0 r.2.2.1])
 |_=>none
theorem Q108.env (N:Nat):sA Tryz.prog (Q108.E N):=⟨(.cons sE (.cons yD (.cons cD (.cons zC (.cons xE (.cons fJ .nil)))))),(.cons (Q107.ent_ok N) (.cons (Q106.ent_ok N) (.cons (Q85.ent_ok N) .nil))),fun h=>hA (show false=true from h)⟩
theorem Q108.k9 (N:Nat):eB Tryz.prog Tryz.f72 (Q108.E N) (.loop Q108.b9):=xB (Q108.env N) bA 384 (c:=Q108.c9 N) aA.n fun R vs H k r h=>by unfold Q108.c9 at h;dsimp only at h;split at h;exact⟨_,Q108.l9_eq .. ▸h⟩;cases h
theorem Q108.k6 (N:Nat):eB Tryz.prog Tryz.f72 (Q108.E N) (.loop Q108.b6):=xB (Q108.env N) bA 392 (c:=Q108.c6 N) (aA.of (l:=[(.loop (mA ((cA (bo Tryz.f72)).getD 1 .skip)))]) (by kernel_rfl) (aA.cons (Q108.k9 N) aA.nil)) fun R vs H k r h=>by unfold Q108.c6 at h;dsimp only at h;split at h;exact⟨_,Q108.l6_eq .. ▸h⟩;cases h
theorem Q108.spec (N:Nat)(a:W5)(r:W5×W2×W7×Int)(h:Q108.f N a=some r):dA Tryz.prog 72 [.inl .i64 1 a] [] (.tup [.inl .i64 1 r.1,.agg [.sw 1 1],.c (.int .i64 r.2.2.2)]) ([.pool .zi r.2.1,.po 2 0 r.2.2.1]):=qA (Q108.env N) bA Tryz.func72 (aA.of (l:=[(.loop (mA ((cA (bo Tryz.f72)).getD 0 .skip))),(.loop (mA ((cA (bo Tryz.f72)).getD 1 .skip)))]) (by kernel_rfl) (aA.cons (Q108.k6 N) (aA.cons (Q108.k9 N) aA.nil))) ((Q108.f_eq ..).trans h) fun v b e=>by unfold Q108.dec at e;split at e<;>cases e;exact⟨rfl,rfl⟩
theorem Q108.ent_ok (N:Nat):pA Tryz.prog 72 (Q108.ent N):=xA fun v a e h=>by split at h;exact gC (Q:=fun e=>dA _ _ _ _ (e a).pick.1 (e a).pick.2) h fun k=>Q108.spec N _ a k;cases h
noncomputable def Q109.f (N:Nat)(b:W5):Option (W5×W2×W7):=
 (Q108.f N b).bind fun a=>
 bif a.2.2.2 != 0 then
  (Q84.f N (b.length:Int)).bind fun c=>
  some (b,c.1,c.2.1)
 else
 some (a.1,a.2.1,a.2.2.1)
noncomputable def Q109.E (N:Nat):aC:=mD [(22,eL),(47,rN)] [(72,Q108.ent N),(73,Q84.ent N)] [] [] N [.tmp 2,.cell 3 47] [.inl .i64 1,.recd [.mrow .zi]] 0 25 true
noncomputable def Q109.dec (v:V)(bs:List oA):Option (W5×W2×W7):=match v,bs with
 | .tup [.inl .i64 1 a,.agg [.sw 1 1]],[.pool .zi b,.po 2 0 c]=>some (a,b,c)
 |_,_=>none
theorem Q109.f_eq (N:Nat)(a:W5):
  uA (Q109.E N) (bo Tryz.f50) [.inl .i64 1 a] [] Q109.dec=Q109.f N a:=by kernel_rfl
noncomputable def Q109.ent (N:Nat):rA:=tF (W5×W2×W7) 2 [true] [.inl .i64 1] fun
 | [.inl .i64 1 a]=>some (Q109.f N a,fun r=>.one (.tup [.inl .i64 1 r.1,.agg [.sw 1 1]]) [.pool .zi r.2.1,.po 2 0 r.2.2])
 |_=>none
theorem Q109.env (N:Nat):sA Tryz.prog (Q109.E N):=⟨(.cons yD (.cons xE .nil)),(.cons (Q108.ent_ok N) (.cons (Q84.ent_ok N) .nil)),fun h=>hA (show false=true from h)⟩
theorem Q109.spec (N:Nat)(a:W5)(r:W5×W2×W7)(h:Q109.f N a=some r):dA Tryz.prog 50 [.inl .i64 1 a] [] (.tup [.inl .i64 1 r.1,.agg [.sw 1 1]]) ([.pool .zi r.2.1,.po 2 0 r.2.2]):=qA (Q109.env N) bA Tryz.func50 aA.n ((Q109.f_eq ..).trans h) fun v b e=>by unfold Q109.dec at e;split at e<;>cases e;exact⟨rfl,rfl⟩
theorem Q109.ent_ok (N:Nat):pA Tryz.prog 50 (Q109.ent N):=xA fun v a e h=>by split at h;exact gC (Q:=fun e=>dA _ _ _ _ (e a).pick.1 (e a).pick.2) h fun k=>Q109.spec N _ a k;cases h
end Go.Proofs.YtijigofaaefldaaGreat
