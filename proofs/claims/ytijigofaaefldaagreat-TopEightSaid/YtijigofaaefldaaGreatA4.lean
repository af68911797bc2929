import Derived.Test.YtijigofaaefldaaGreatA3
import Derived.Test.YtijigofaaefldaaGreatProg
import Derived.KernelRfl
import Derived.Shelf.SlGeneric
import Derived.RangeFuncRecord
import Derived.RangeFuncLeaves
open Option.some renaming inj→hC
open Bool renaming noConfusion→aE,and_self→o0
open Array renaming getElem?_eq_some_iff→zE,getD_eq_getD_getElem?→xK,getElem?_push→hP,getElem?_setIfInBounds→hR,getElem?_eq_getElem→hV,size_push→e0
open Nat renaming le_refl→hG,eq_of_beq_eq_true→hY,le_of_ble_eq_true→hZ
open List renaming drop_eq_getElem_cons→yK,drop_eq_nil_of_le→hQ,getD_eq_getElem?_getD→hT,mem_cons→hU,replicate→hW,mem_range'_1→c0
open Option renaming bind_some→hX
set_option linter.unusedVariables false
set_option linter.unusedSimpArgs false
namespace Go.Proofs.YtijigofaaefldaaGreat
open Go.Proofs.YtijigofaaefldaaGreat.Ev
open Go
set_option maxRecDepth 100000
noncomputable def H3:TI:=⟨.func,1,8,[.nilFunc]⟩
noncomputable def By:TI:=⟨.func,1,8,[.nilFunc]⟩
noncomputable def Bz:TI:=⟨.func,1,8,[.nilFunc]⟩
noncomputable def Fk:TI:=⟨.arr 2 2,2,16,[.int .i64 0,.int .i64 0]⟩
theorem rr:cC Tryz.prog 93 H3:=eC (by kernel_rfl) (by kernel_rfl) (by kernel_rfl) (by kernel_rfl) (by kernel_rfl) (by kernel_rfl) (by kernel_rfl) (⟨_,_,_,Tryz.underlying93⟩) (by kernel_rfl)
theorem kq:cC Tryz.prog 102 By:=eC (by kernel_rfl) (by kernel_rfl) (by kernel_rfl) (by kernel_rfl) (by kernel_rfl) (by kernel_rfl) (by kernel_rfl) (⟨_,_,_,Tryz.underlying102⟩) (by kernel_rfl)
theorem ks:cC Tryz.prog 109 Bz:=eC (by kernel_rfl) (by kernel_rfl) (by kernel_rfl) (by kernel_rfl) (by kernel_rfl) (by kernel_rfl) (by kernel_rfl) (⟨_,_,_,Tryz.underlying109⟩) (by kernel_rfl)
theorem C1:cC Tryz.prog 114 Fk:=eC (by kernel_rfl) (by kernel_rfl) (by kernel_rfl) (by kernel_rfl) (by kernel_rfl) (by kernel_rfl) (by kernel_rfl) (Tryz.underlying114) (by kernel_rfl)
abbrev dO:Type:=Int→Bool→W6→W6→W5→Int→W6→vF→W4→W7→W0→W1→Option (Bool×W5×Int×W6×vF×W4×W7×W0×W1)
def wy (g:dO):Prop:=∀(a1:Int) (a2:Bool) (a3 a4:W6) (a5:W5) (a6:Int) (a7:W6) (a8:vF) (a9:W4) (a10:W7) (a11:W0) (a12:W1) (r:Bool×W5×Int×W6×vF×W4×W7×W0×W1),g a1 a2 a3 a4 a5 a6 a7 a8 a9 a10 a11 a12=some r→dA Tryz.prog 59 [.c (.int .i64 a1),.agg [.c (.bool a2),.il .u32 1 a3,.il .u32 1 a4],.ptr 0 0 1,.ptr 1 0 1,.ptr 2 0 1,.ptr 3 0 1,.ptr 4 0 1,.ptr 5 0 1] [.vals [.sw 6 1],.vals [.inl .i64 1 a5],.vals [.yv 7],.vals [.c (.int .i64 a6)],.vals [.sw 8 1],.vals [.fn 53 [] [.ptr 0 0 1,.ptr 9 0 1,.ptr 10 0 1]],.ints .i64 a7,.amb a8 a9,.po 3 11 a10,.vals [.sw 12 3],.vals [.fn 59 [] [.ptr 0 0 1,.ptr 1 0 1,.ptr 2 0 1,.ptr 3 0 1,.ptr 4 0 1,.ptr 5 0 1]],.pool .qr a11,.tw .qr a12] (.c (.bool r.1)) ([.vals [.sw 6 1],.vals [.inl .i64 1 r.2.1],.vals [.yv 7],.vals [.c (.int .i64 r.2.2.1)],.vals [.sw 8 1],.vals [.fn 53 [] [.ptr 0 0 1,.ptr 9 0 1,.ptr 10 0 1]],.ints .i64 r.2.2.2.1,.amb r.2.2.2.2.1 r.2.2.2.2.2.1,.po 3 11 r.2.2.2.2.2.2.1,.vals [.sw 12 3],.vals [.fn 59 [] [.ptr 0 0 1,.ptr 1 0 1,.ptr 2 0 1,.ptr 3 0 1,.ptr 4 0 1,.ptr 5 0 1]],.pool .qr r.2.2.2.2.2.2.2.1,.tw .qr r.2.2.2.2.2.2.2.2])
noncomputable def Q111.entg (g:dO):rA:={A:=Bool×W5×Int×W6×vF×W4×W7×W0×W1,fresh:=0,imm:=[true,true,false,false,false,false,false,false],dec:=fun args bs=>match sC (jA bs) [false,false,false,false,false,false,false,false] args,bs with
 | [.c (.int .i64 d),.agg [.c (.bool e),.il .u32 1 f,.il .u32 1 h],.ptr 0 0 1,.ptr 1 0 1,.ptr 2 0 1,.ptr 3 0 1,.ptr 4 0 1,.ptr 5 0 1],[.vals [.sw 6 1],.vals [.inl .i64 1 i],.vals [.yv 7],.vals [.c (.int .i64 j)],.vals [.sw 8 1],.vals [.fn 53 [] [.ptr 0 0 1,.ptr 9 0 1,.ptr 10 0 1]],.ints .i64 k,.amb l m,.po 3 11 a,.vals [.sw 12 3],.vals [.fn 59 [] [.ptr 0 0 1,.ptr 1 0 1,.ptr 2 0 1,.ptr 3 0 1,.ptr 4 0 1,.ptr 5 0 1]],.pool .qr b,.tw .qr c]=>some (g d e f h i j k l m a b c,fun r=>.one (.c (.bool r.1)) [.vals [.sw 6 1],.vals [.inl .i64 1 r.2.1],.vals [.yv 7],.vals [.c (.int .i64 r.2.2.1)],.vals [.sw 8 1],.vals [.fn 53 [] [.ptr 0 0 1,.ptr 9 0 1,.ptr 10 0 1]],.ints .i64 r.2.2.2.1,.amb r.2.2.2.2.1 r.2.2.2.2.2.1,.po 3 11 r.2.2.2.2.2.2.1,.vals [.sw 12 3],.vals [.fn 59 [] [.ptr 0 0 1,.ptr 1 0 1,.ptr 2 0 1,.ptr 3 0 1,.ptr 4 0 1,.ptr 5 0 1]],.pool .qr r.2.2.2.2.2.2.2.1,.tw .qr r.2.2.2.2.2.2.2.2])
 |_,_=>none}
theorem Q111.entg_ok (g:dO)(hg:wy g):pA Tryz.prog 59 (Q111.entg g):=by
 intro args bs a enc h;simp only[Q111.entg]at h;split at h
 ·rename_i hz;have h0:=hC h;have h1:=congrArg Prod.fst h0;have h2:=congrArg Prod.snd h0;dsimp only at h1 h2;subst h2;exact dA.of_asSl (fl:=[false,false,false,false,false,false,false,false]) (by rw[hz];exact hg _ _ _ _ _ _ _ _ _ _ _ _ a h1)
 ·cases h
noncomputable def Q110.f (g:dO)(N:Nat)(d:Int)(v:Bool)(w x:W6)(s:Bool)(t u q:W6)(i:W1)(j:W5)(k:Int)(l:vF)(m:W4)(o:W7)(p:W0):Option (Bool×Bool×W6×W1×W5×Int×vF×W4×W7×W0):=
 bif (decide (0≤d))&&(decide (d<(q.length:Int)))then
  (Q55.f N (q.getD d.toNat 0)).bind fun e=>
  (Q50.f N e.1 e.2.1 e.2.2 v w x).bind fun b=>
  (Q52.f N b.1 b.2.1 b.2.2.1 b.1 b.2.1 b.2.2.1).bind fun f=>
  bif (decide (0≤d))&&(decide (d<(i.length:Int)))then
   (Q52.f N f.1 f.2.1 f.2.2.1 ((i.getD d.toNat (false,([]:W6),([]:W6))).1) ((i.getD d.toNat (false,([]:W6),([]:W6))).2.1) ((i.getD d.toNat (false,([]:W6),([]:W6))).2.2)).bind fun c=>
   (Q54.f N c.1 c.2.1 c.2.2.1 s t u).bind fun r=>
   bif decide (r>0)then
    some (false,true,q,i,j,k,l,m,o,p)
   else
   (Q51.f N s t u c.1 c.2.1 c.2.2.1).bind fun h=>
   (g (fA (d-1)) h.1 h.2.1 h.2.2.1 j k q l m o p i).bind fun a=>
   some (true,a.1,a.2.2.2.1,a.2.2.2.2.2.2.2.2,a.2.1,a.2.2.1,a.2.2.2.2.1,a.2.2.2.2.2.1,a.2.2.2.2.2.2.1,a.2.2.2.2.2.2.2.1)
  else none
 else none
noncomputable def Q110.ty:List (Nat×TI):=[(2,iW),(43,nJ),(97,vr),(102,By),(104,mG)]
noncomputable def Q110.E (g:dO)(N:Nat):aC:={ty:=bF Q110.ty,tab:=bF [(55,Q55.ent N),(54,Q50.ent N),(56,Q52.ent N),(57,Q54.ent N),(58,Q51.ent N),(59,Q111.entg g)],hint:=bF [],cut:=bF [],N:=N,res:=[.tmp 9,.tmp 10],rsh:=[.any,.any],nb:=13,ntmps:=55,own:=false}
noncomputable def Q110.dec (v:V)(bs:List oA):Option (Bool×Bool×W6×W1×W5×Int×vF×W4×W7×W0):=match v,bs with
 | .tup [.c (.bool a),.c (.bool b)],[.vals [.sw 3 1],.vals [.sw 4 3],.vals [.fn 59 [] [.ptr 0 0 1,.ptr 5 0 1,.ptr 6 0 1,.ptr 7 0 1,.ptr 8 0 1,.ptr 9 0 1]],.ints .i64 c,.tw .qr d,.vals [.inl .i64 1 e],.vals [.yv 10],.vals [.c (.int .i64 f)],.vals [.sw 11 1],.vals [.fn 53 [] [.ptr 0 0 1,.ptr 1 0 1,.ptr 2 0 1]],.amb g h,.po 3 12 i,.pool .qr j]=>some (a,b,c,d,e,f,g,h,i,j)
 |_,_=>none
theorem Q110.f_eq (g:dO)(N:Nat)(h:Int)(i:Bool)(j k:W6)(l:Bool)(m o p:W6)(q:W1)(a:W5)(b:Int)(c:vF)(d:W4)(e:W7)(f:W0):
  uA (Q110.E g N) (bo Tryz.f53) [.c (.int .i64 h),.agg [.c (.bool i),.il .u32 1 j,.il .u32 1 k],.agg [.c (.bool l),.il .u32 1 m,.il .u32 1 o],.ptr 0 0 1,.ptr 1 0 1,.ptr 2 0 1] [.vals [.sw 3 1],.vals [.sw 4 3],.vals [.fn 59 [] [.ptr 0 0 1,.ptr 5 0 1,.ptr 6 0 1,.ptr 7 0 1,.ptr 8 0 1,.ptr 9 0 1]],.ints .i64 p,.tw .qr q,.vals [.inl .i64 1 a],.vals [.yv 10],.vals [.c (.int .i64 b)],.vals [.sw 11 1],.vals [.fn 53 [] [.ptr 0 0 1,.ptr 1 0 1,.ptr 2 0 1]],.amb c d,.po 3 12 e,.pool .qr f] Q110.dec=Q110.f g N h i j k l m o p q a b c d e f:=by kernel_rfl
noncomputable def Q110.ent (g:dO)(N:Nat):rA:={A:=Bool×Bool×W6×W1×W5×Int×vF×W4×W7×W0,fresh:=0,imm:=[true,true,true,false,false,false],dec:=fun args bs=>match sC (jA bs) [false,false,false,false,false,false] args,bs with
 | [.c (.int .i64 h),.agg [.c (.bool i),.il .u32 1 j,.il .u32 1 k],.agg [.c (.bool l),.il .u32 1 m,.il .u32 1 o],.ptr 0 0 1,.ptr 1 0 1,.ptr 2 0 1],[.vals [.sw 3 1],.vals [.sw 4 3],.vals [.fn 59 [] [.ptr 0 0 1,.ptr 5 0 1,.ptr 6 0 1,.ptr 7 0 1,.ptr 8 0 1,.ptr 9 0 1]],.ints .i64 p,.tw .qr q,.vals [.inl .i64 1 a],.vals [.yv 10],.vals [.c (.int .i64 b)],.vals [.sw 11 1],.vals [.fn 53 [] [.ptr 0 0 1,.ptr 1 0 1,.ptr 2 0 1]],.amb c d,.po 3 12 e,.pool .qr f]=>some (Q110.f g N h i j k l m o p q a b c d e f,fun r=>.one (.tup [.c (.bool r.1),.c (.bool r.2.1)]) [.vals [.sw 3 1],.vals [.sw 4 3],.vals [.fn 59 [] [.ptr 0 0 1,.ptr 5 0 1,.ptr 6 0 1,.ptr 7 0 1,.ptr 8 0 1,.ptr 9 0 1]],.ints .i64 r.2.2.1,.tw .qr r.2.2.2.1,.vals [.inl .i64 1 r.2.2.2.2.1],.vals [.yv 10],.vals [.c (.int .i64 r.2.2.2.2.2.1)],.vals [.sw 11 1],.vals [.fn 53 [] [.ptr 0 0 1,.ptr 1 0 1,.ptr 2 0 1]],.amb r.2.2.2.2.2.2.1 r.2.2.2.2.2.2.2.1,.po 3 12 r.2.2.2.2.2.2.2.2.1,.pool .qr r.2.2.2.2.2.2.2.2.2])
 |_,_=>none}
theorem Q110.env (g:dO)(hg:wy g)(N:Nat):sA Tryz.prog (Q110.E g N):=⟨(eD.cons sE (eD.cons cD (eD.cons bT (eD.cons kq (eD.cons oC eD.nil))))),(aF.cons (Q55.ent_ok N) (aF.cons (Q50.ent_ok N) (aF.cons (Q52.ent_ok N) (aF.cons (Q54.ent_ok N) (aF.cons (Q51.ent_ok N) (aF.cons (Q111.entg_ok g hg) aF.nil)))))),fun h=>aE (show false=true from h)⟩
theorem Q110.res_eq (g:dO)(N:Nat):(Q110.E g N).res=Tryz.f53.results.toList:=by kernel_rfl
theorem Q110.spec (g:dO)(hg:wy g)(N:Nat)(i:Int)(j:Bool)(k l:W6)(m:Bool)(o p q:W6)(s:W1)(a:W5)(b:Int)(c:vF)(d:W4)(e:W7)(f:W0)(r:Bool×Bool×W6×W1×W5×Int×vF×W4×W7×W0)(h:Q110.f g N i j k l m o p q s a b c d e f=some r):dA Tryz.prog 53 [.c (.int .i64 i),.agg [.c (.bool j),.il .u32 1 k,.il .u32 1 l],.agg [.c (.bool m),.il .u32 1 o,.il .u32 1 p],.ptr 0 0 1,.ptr 1 0 1,.ptr 2 0 1] [.vals [.sw 3 1],.vals [.sw 4 3],.vals [.fn 59 [] [.ptr 0 0 1,.ptr 5 0 1,.ptr 6 0 1,.ptr 7 0 1,.ptr 8 0 1,.ptr 9 0 1]],.ints .i64 q,.tw .qr s,.vals [.inl .i64 1 a],.vals [.yv 10],.vals [.c (.int .i64 b)],.vals [.sw 11 1],.vals [.fn 53 [] [.ptr 0 0 1,.ptr 1 0 1,.ptr 2 0 1]],.amb c d,.po 3 12 e,.pool .qr f] (.tup [.c (.bool r.1),.c (.bool r.2.1)]) ([.vals [.sw 3 1],.vals [.sw 4 3],.vals [.fn 59 [] [.ptr 0 0 1,.ptr 5 0 1,.ptr 6 0 1,.ptr 7 0 1,.ptr 8 0 1,.ptr 9 0 1]],.ints .i64 r.2.2.1,.tw .qr r.2.2.2.1,.vals [.inl .i64 1 r.2.2.2.2.1],.vals [.yv 10],.vals [.c (.int .i64 r.2.2.2.2.2.1)],.vals [.sw 11 1],.vals [.fn 53 [] [.ptr 0 0 1,.ptr 1 0 1,.ptr 2 0 1]],.amb r.2.2.2.2.2.2.1 r.2.2.2.2.2.2.2.1,.po 3 12 r.2.2.2.2.2.2.2.2.1,.pool .qr r.2.2.2.2.2.2.2.2.2]):=by
 rw[←Q110.f_eq]at h;refine(dS (Q110.env g hg N) bA Tryz.func53 (by kernel_rfl:Tryz.f53.body=some (bo Tryz.f53)) (by kernel_rfl) (Q110.res_eq g N) (by kernel_rfl) (by kernel_rfl) (hZ (by kernel_rfl)) aA.n h).of fun v bs' h1=>?_;unfold Q110.dec at h1;split at h1
 ·cases h1;exact⟨rfl,rfl⟩
 ·cases h1
theorem Q110.ent_ok (g:dO)(hg:wy g)(N:Nat):pA Tryz.prog 53 (Q110.ent g N):=by
 intro args bs a enc h;simp only[Q110.ent]at h;split at h
 ·rename_i hz;have h0:=hC h;have h1:=congrArg Prod.fst h0;have h2:=congrArg Prod.snd h0;dsimp only at h1 h2;subst h2;exact dA.of_asSl (fl:=[false,false,false,false,false,false]) (by rw[hz];exact Q110.spec g hg N _ _ _ _ _ _ _ _ _ _ _ _ _ _ _ a h1)
 ·cases h
noncomputable def Q111.l7 {R:Type}(g:dO)(N:Nat):Nat→Int→Int→Int→Int→Int→W5→Int→W6→vF→W4→W7→W0→W1→Bool→W6→W6→W6→(Int→Int→W5→Int→W6→vF→W4→W7→W0→W1→Bool→W6→W6→W6→Option R)→Option R
 |0,_,_,_,_,_,_,_,_,_,_,_,_,_,_,_,_,_,_=>none
 |n+1,b,f,h,i,a,c,j,e,k,l,m,o,p,q,r,s,d,t=>
  bif decide (a<i)then
   bif (decide (0≤a))&&(decide (a<(d.length:Int)))then
    bif (decide (0≤b))&&(decide (b<(e.length:Int)))then
     bif (decide (0≤b))&&(decide (b<(c.length:Int)))then
      bif (decide (0≤a))&&(decide (a<((c.getD b.toNat []).length:Int)))then
       bif (decide (0≤a))&&(decide (a<(d.length:Int)))then
        Q111.l7 g N n b f h i (fA (a+1)) c j e k l m o p q r s (d.set a.toNat (fA ((d.getD a.toNat 0)+(fA ((e.getD b.toNat 0)*((c.getD b.toNat []).getD a.toNat 0)))))) t
       else none
      else none
     else none
    else none
   else none
  else
  t f h c j e k l m o p q r s d
noncomputable def Q111.l4 {R:Type}(g:dO)(N:Nat):Nat→Int→Int→W5→Int→W6→vF→W4→W7→W0→W1→Bool→W6→W6→W6→(W5→Int→W6→vF→W4→W7→W0→W1→Bool→W6→W6→W6→Option R)→Option R
 |0,_,_,_,_,_,_,_,_,_,_,_,_,_,_,_=>none
 |n+1,c,a,d,e,f,h,i,j,k,l,m,o,p,b,k0=>
  bif decide (a<c)then
   Q111.l7 g N N a c a (b.length:Int) 0 d e f h i j k l m o p b
    (fun q r s t u v w x y z y68 y69 y70 y71=>
     Q111.l4 g N n q (fA (r+1)) s t u v w x y z y68 y69 y70 y71 k0)
  else
  k0 d e f h i j k l m o p b
noncomputable def Q111.l16 {R:Type}(g:dO)(N:Nat):Nat→Int→Int→W5→Int→W6→vF→W4→W7→W0→W1→Bool→W6→W6→Bool→W6→W6→(Int→W5→Int→W6→vF→W4→W7→W0→W1→Bool→W6→W6→Bool→W6→W6→Option R)→Option R
 |0,_,_,_,_,_,_,_,_,_,_,_,_,_,_,_,_,_=>none
 |n+1,b,a,j,k,e,l,m,c,d,o,p,q,r,s,t,u,v=>
  bif decide (a<(e.length:Int))then
   bif (decide (0≤a))&&(decide (a<(e.length:Int)))then
    (Q55.f N (e.getD a.toNat 0)).bind fun f=>
    bif (decide (0≤a))&&(decide (a<(c.length:Int)))then
     bif (decide (0≤b))&&(decide (b<((d.getD (c.getD a.toNat 0) []).length:Int)))then
      (Q52.f N f.1 f.2.1 f.2.2 (((d.getD (c.getD a.toNat 0) []).getD b.toNat (false,([]:W6),([]:W6))).1) (((d.getD (c.getD a.toNat 0) []).getD b.toNat (false,([]:W6),([]:W6))).2.1) (((d.getD (c.getD a.toNat 0) []).getD b.toNat (false,([]:W6),([]:W6))).2.2)).bind fun h=>
      (Q50.f N s t u h.1 h.2.1 h.2.2.1).bind fun i=>
      Q111.l16 g N n b (fA (a+1)) j k e l m c d o p q r i.1 i.2.1 i.2.2.1 v
     else none
    else none
   else none
  else
  v b j k e l m c d o p q r s t u
noncomputable def Q111.l26 {R:Type}(g:dO)(N:Nat):Nat→Int→Int→Int→Int→W5→Int→W6→vF→W4→W7→W0→W1→Bool→W6→W6→Bool→W6→W6→(Int→Int→Int→W5→Int→W6→vF→W4→W7→W0→W1→Bool→W6→W6→Bool→W6→W6→Option R)→(Bool→W5→Int→W6→vF→W4→W7→W0→W1→Option R)→Option R
 |0,_,_,_,_,_,_,_,_,_,_,_,_,_,_,_,_,_,_,_,_=>none
 |n+1,b,j,k,l,m,o,p,q,r,s,t,u,c,d,e,f,h,i,v,kr=>
  (Q110.f g N b f h i c d e p u m o q r s t).bind fun a=>
  bif !a.2.1 then
   kr false a.2.2.2.2.1 a.2.2.2.2.2.1 a.2.2.1 a.2.2.2.2.2.2.1 a.2.2.2.2.2.2.2.1 a.2.2.2.2.2.2.2.2.1 a.2.2.2.2.2.2.2.2.2 a.2.2.2.1
  else
  bif !a.1 then
   v b j l a.2.2.2.2.1 a.2.2.2.2.2.1 a.2.2.1 a.2.2.2.2.2.2.1 a.2.2.2.2.2.2.2.1 a.2.2.2.2.2.2.2.2.1 a.2.2.2.2.2.2.2.2.2 a.2.2.2.1 c d e f h i
  else
  bif (decide (0≤b))&&(decide (b<(a.2.2.1.length:Int)))then
   bif (decide (0≤b))&&(decide (b<(a.2.2.1.length:Int)))then
    Q111.l26 g N n b j k l a.2.2.2.2.1 a.2.2.2.2.2.1 (a.2.2.1.set b.toNat (fA ((a.2.2.1.getD b.toNat 0)+k))) a.2.2.2.2.2.2.1 a.2.2.2.2.2.2.2.1 a.2.2.2.2.2.2.2.2.1 a.2.2.2.2.2.2.2.2.2 a.2.2.2.1 c d e f h i v kr
   else none
  else none
noncomputable def Q111.l22 {R:Type}(g:dO)(N:Nat):Nat→Int→Int→Int→W5→Int→W6→vF→W4→W7→W0→W1→Bool→W6→W6→Bool→W6→W6→(W5→Int→W6→vF→W4→W7→W0→W1→Option R)→(Bool→W5→Int→W6→vF→W4→W7→W0→W1→Option R)→Option R
 |0,_,_,_,_,_,_,_,_,_,_,_,_,_,_,_,_,_,_,_=>none
 |n+1,b,d,a,e,f,c,h,i,j,k,l,m,o,p,q,r,s,k6,kr=>
  bif decide (a<2)then
   bif (decide (0≤a))&&(decide (a<2))then
    bif (decide (0≤b))&&(decide (b<(c.length:Int)))then
     Q111.l26 g N N b d ([1,(-1)].getD a.toNat 0) a e f (c.set b.toNat (fA (d+(fA (Int.tdiv (fA (([1,(-1)].getD a.toNat 0)-1)) 2))))) h i j k l m o p q r s
      (fun t u v w x y z y227 y228 y229 y230 y231 y232 y233 y234 y235 y236=>
       Q111.l22 g N n t u (fA (v+1)) w x y z y227 y228 y229 y230 y231 y232 y233 y234 y235 y236 k6 kr)
      (fun y237 y238 y239 y240 y241 y242 y243 y244 y245=>
       kr y237 y238 y239 y240 y241 y242 y243 y244 y245)
    else none
   else none
  else
  k6 e f c h i j k l
noncomputable def Q111.step (g:dO)(N:Nat)(a1:Int)(a2:Bool)(a3 a4:W6)(a5:W5)(a6:Int)(b:W6)(a8:vF)(a9:W4)(i:W7)(j:W0)(k:W1):Option (Bool×W5×Int×W6×vF×W4×W7×W0×W1):=
 bif decide (a1<0)then
  bif dG (b.length:Int) (b.length:Int)&&decide (0≤(b.length:Int))&&decide ((b.length:Int)≤9223372036854775807)&&lB ((b.length:Int).toNat) 8 then
   Q111.l4 g N N (b.length:Int) 0 a5 a6 b a8 a9 i j k a2 a3 a4 (hW ((b.length:Int).toNat) (0:Int))
    (fun y84 y85 y86 y87 y88 y89 y90 y91 y92 y93 y94 h=>
     (Q43.f N y92 y93 y94).bind fun m=>
     (Q29.f N m.1 m.2).bind fun r97=>
     bif Nat.blt 0 h.length&&(Nat.blt h.length 1000&&Nat.blt y88.length y87.cap)then
      some (true,y84,y85,y86,y87,y88++[(h,fA (y85-r97.1))],y89,y90,y91)
     else none)
  else none
 else
 Q111.l16 g N N a1 (fA (a1+1)) a5 a6 b a8 a9 i j k a2 a3 a4 false [] []
  (fun o p q r s t u v w x y z d e f=>
   (Q45.f N d e f).bind fun a=>
   (Q44.f N a.1 a.2.1 a.2.2).bind fun c=>
   (Q29.f N c.1 c.2).bind fun l=>
   Q111.l22 g N N o l.1 0 p q r s t u v w x y z d e f
    (fun y263 y264 y265 y266 y267 y268 y269 y270=>
     some (true,y263,y264,y265,y266,y267,y268,y269,y270))
    (fun y279 y280 y281 y282 y283 y284 y285 y286 y287=>
     some (y279,y280,y281,y282,y283,y284,y285,y286,y287)))
noncomputable def Q111.ty:List (Nat×TI):=[(2,iW),(22,eL),(26,kE),(39,nD),(43,nJ),(93,H3),(96,C3),(97,vr),(104,mG),(109,Bz),(114,Fk)]
noncomputable def Q111.h4:uB:=⟨[(2,.any),(3,.any),(4,.any),(5,.any),(9,.box [.any,.il .u32 1,.il .u32 1]),(11,.row .i64 1),(32,.any),(33,.any)],[(4,.any),(5,.any),(9,.box [.any,.il .u32 1,.il .u32 1]),(11,.row .i64 1)]⟩
noncomputable def Q111.h7:uB:=⟨[(2,.any),(3,.any),(4,.any),(5,.any),(9,.box [.any,.il .u32 1,.il .u32 1]),(11,.row .i64 1),(12,.any),(32,.any),(33,.any),(37,.any),(38,.any)],[(2,.any),(3,.any),(4,.any),(5,.any),(9,.box [.any,.il .u32 1,.il .u32 1]),(11,.row .i64 1),(32,.any),(33,.any)]⟩
noncomputable def Q111.h16:uB:=⟨[(0,.any),(2,.any),(6,.any),(7,.any),(9,.box [.any,.il .u32 1,.il .u32 1]),(16,.box [.any,.il .u32 1,.il .u32 1]),(17,.any)],[(0,.any),(2,.any),(7,.any),(9,.box [.any,.il .u32 1,.il .u32 1]),(16,.box [.any,.il .u32 1,.il .u32 1])]⟩
noncomputable def Q111.h22:uB:=⟨[(0,.any),(2,.any),(7,.any),(9,.box [.any,.il .u32 1,.il .u32 1]),(16,.box [.any,.il .u32 1,.il .u32 1]),(20,.any),(111,.recd [.any,.any]),(112,.any)],[]⟩
noncomputable def Q111.h26:uB:=⟨[(0,.any),(2,.any),(7,.any),(9,.box [.any,.il .u32 1,.il .u32 1]),(16,.box [.any,.il .u32 1,.il .u32 1]),(20,.any),(23,.any),(111,.recd [.any,.any]),(112,.any)],[(0,.any),(2,.any),(7,.any),(9,.box [.any,.il .u32 1,.il .u32 1]),(16,.box [.any,.il .u32 1,.il .u32 1]),(20,.any),(111,.recd [.any,.any]),(112,.any)]⟩
noncomputable def Q111.c7 (g:dO)(N:Nat):mF:=⟨fun vs H k=>match vs,H with
 | [.ptr 0 0 1,.ptr 1 0 1,.ptr 2 0 1,.ptr 3 0 1,.ptr 13 0 3,.sw 14 1,.c (.int .i64 a),.c (.int .i64 b),.c (.int .i64 c),.c (.int .i64 d),.c (.int .i64 e)],[.vals [.sw 6 1],.vals [.inl .i64 1 f],.vals [.yv 7],.vals [.c (.int .i64 h)],.vals [.sw 8 1],.vals [.fn 53 [] [.ptr 0 0 1,.ptr 9 0 1,.ptr 10 0 1]],.ints .i64 i,.amb j l,.po 3 11 m,.vals [.sw 12 3],.vals [.fn 59 [] [.ptr 0 0 1,.ptr 1 0 1,.ptr 2 0 1,.ptr 3 0 1,.ptr 4 0 1,.ptr 5 0 1]],.pool .qr o,.tw .qr p,.vals [.c (.bool q),.il .u32 1 r,.il .u32 1 s],.ints .i64 t]=>Q111.l7 g N N a b c d e f h i j l m o p q r s t (fun u v w x y z x50 x51 x52 x53 x54 x55 x56 x57=>k (.exit 2) ⟨tB Q111.h7.out [.ptr 0 0 1,.ptr 1 0 1,.ptr 2 0 1,.ptr 3 0 1,.ptr 13 0 3,.sw 14 1,.c (.int .i64 u),.c (.int .i64 v)],[.vals [.sw 6 1],.vals [.inl .i64 1 w],.vals [.yv 7],.vals [.c (.int .i64 x)],.vals [.sw 8 1],.vals [.fn 53 [] [.ptr 0 0 1,.ptr 9 0 1,.ptr 10 0 1]],.ints .i64 y,.amb z x50,.po 3 11 x51,.vals [.sw 12 3],.vals [.fn 59 [] [.ptr 0 0 1,.ptr 1 0 1,.ptr 2 0 1,.ptr 3 0 1,.ptr 4 0 1,.ptr 5 0 1]],.pool .qr x52,.tw .qr x53,.vals [.c (.bool x54),.il .u32 1 x55,.il .u32 1 x56],.ints .i64 x57]⟩)
 |_,_=>none⟩
noncomputable def Q111.c4 (g:dO)(N:Nat):mF:=⟨fun vs H k=>match vs,H with
 | [.ptr 0 0 1,.ptr 1 0 1,.ptr 2 0 1,.ptr 3 0 1,.ptr 13 0 3,.sw 14 1,.c (.int .i64 a),.c (.int .i64 b)],[.vals [.sw 6 1],.vals [.inl .i64 1 c],.vals [.yv 7],.vals [.c (.int .i64 d)],.vals [.sw 8 1],.vals [.fn 53 [] [.ptr 0 0 1,.ptr 9 0 1,.ptr 10 0 1]],.ints .i64 e,.amb f h,.po 3 11 i,.vals [.sw 12 3],.vals [.fn 59 [] [.ptr 0 0 1,.ptr 1 0 1,.ptr 2 0 1,.ptr 3 0 1,.ptr 4 0 1,.ptr 5 0 1]],.pool .qr j,.tw .qr l,.vals [.c (.bool m),.il .u32 1 o,.il .u32 1 p],.ints .i64 q]=>Q111.l4 g N N a b c d e f h i j l m o p q (fun r s t u v w x y z x81 x82 x83=>k (.exit 0) ⟨tB Q111.h4.out [.ptr 2 0 1,.ptr 3 0 1,.ptr 13 0 3,.sw 14 1],[.vals [.sw 6 1],.vals [.inl .i64 1 r],.vals [.yv 7],.vals [.c (.int .i64 s)],.vals [.sw 8 1],.vals [.fn 53 [] [.ptr 0 0 1,.ptr 9 0 1,.ptr 10 0 1]],.ints .i64 t,.amb u v,.po 3 11 w,.vals [.sw 12 3],.vals [.fn 59 [] [.ptr 0 0 1,.ptr 1 0 1,.ptr 2 0 1,.ptr 3 0 1,.ptr 4 0 1,.ptr 5 0 1]],.pool .qr x,.tw .qr y,.vals [.c (.bool z),.il .u32 1 x81,.il .u32 1 x82],.ints .i64 x83]⟩)
 |_,_=>none⟩
noncomputable def Q111.c16 (g:dO)(N:Nat):mF:=⟨fun vs H k=>match vs,H with
 | [.c (.int .i64 a),.ptr 0 0 1,.ptr 4 0 1,.ptr 5 0 1,.ptr 13 0 3,.ptr 14 0 3,.c (.int .i64 b)],[.vals [.sw 6 1],.vals [.inl .i64 1 c],.vals [.yv 7],.vals [.c (.int .i64 d)],.vals [.sw 8 1],.vals [.fn 53 [] [.ptr 0 0 1,.ptr 9 0 1,.ptr 10 0 1]],.ints .i64 e,.amb f h,.po 3 11 i,.vals [.sw 12 3],.vals [.fn 59 [] [.ptr 0 0 1,.ptr 1 0 1,.ptr 2 0 1,.ptr 3 0 1,.ptr 4 0 1,.ptr 5 0 1]],.pool .qr j,.tw .qr l,.vals [.c (.bool m),.il .u32 1 o,.il .u32 1 p],.vals [.c (.bool q),.il .u32 1 r,.il .u32 1 s]]=>Q111.l16 g N N a b c d e f h i j l m o p q r s (fun t u v w x y z x132 x133 x134 x135 x136 x137 x138 x139=>k (.exit 4) ⟨tB Q111.h16.out [.c (.int .i64 t),.ptr 0 0 1,.ptr 5 0 1,.ptr 13 0 3,.ptr 14 0 3],[.vals [.sw 6 1],.vals [.inl .i64 1 u],.vals [.yv 7],.vals [.c (.int .i64 v)],.vals [.sw 8 1],.vals [.fn 53 [] [.ptr 0 0 1,.ptr 9 0 1,.ptr 10 0 1]],.ints .i64 w,.amb x y,.po 3 11 z,.vals [.sw 12 3],.vals [.fn 59 [] [.ptr 0 0 1,.ptr 1 0 1,.ptr 2 0 1,.ptr 3 0 1,.ptr 4 0 1,.ptr 5 0 1]],.pool .qr x132,.tw .qr x133,.vals [.c (.bool x134),.il .u32 1 x135,.il .u32 1 x136],.vals [.c (.bool x137),.il .u32 1 x138,.il .u32 1 x139]]⟩)
 |_,_=>none⟩
noncomputable def Q111.c26 (g:dO)(N:Nat):mF:=⟨fun vs H k=>match vs,H with
 | [.c (.int .i64 a),.ptr 0 0 1,.ptr 5 0 1,.ptr 13 0 3,.ptr 14 0 3,.c (.int .i64 b),.c (.int .i64 c),.agg [.c (.int .i64 1),.c (.int .i64 (-1))],.c (.int .i64 d)],[.vals [.sw 6 1],.vals [.inl .i64 1 e],.vals [.yv 7],.vals [.c (.int .i64 f)],.vals [.sw 8 1],.vals [.fn 53 [] [.ptr 0 0 1,.ptr 9 0 1,.ptr 10 0 1]],.ints .i64 h,.amb i j,.po 3 11 l,.vals [.sw 12 3],.vals [.fn 59 [] [.ptr 0 0 1,.ptr 1 0 1,.ptr 2 0 1,.ptr 3 0 1,.ptr 4 0 1,.ptr 5 0 1]],.pool .qr m,.tw .qr o,.vals [.c (.bool p),.il .u32 1 q,.il .u32 1 r],.vals [.c (.bool s),.il .u32 1 t,.il .u32 1 u]]=>Q111.l26 g N N a b c d e f h i j l m o p q r s t u (fun x203 x204 x205 x206 x207 x208 x209 x210 x211 x212 x213 x214 x215 x216 x217 x218 x219=>k (.exit 8) ⟨tB Q111.h26.out [.c (.int .i64 x203),.ptr 0 0 1,.ptr 5 0 1,.ptr 13 0 3,.ptr 14 0 3,.c (.int .i64 x204),.agg [.c (.int .i64 1),.c (.int .i64 (-1))],.c (.int .i64 x205)],[.vals [.sw 6 1],.vals [.inl .i64 1 x206],.vals [.yv 7],.vals [.c (.int .i64 x207)],.vals [.sw 8 1],.vals [.fn 53 [] [.ptr 0 0 1,.ptr 9 0 1,.ptr 10 0 1]],.ints .i64 x208,.amb x209 x210,.po 3 11 x211,.vals [.sw 12 3],.vals [.fn 59 [] [.ptr 0 0 1,.ptr 1 0 1,.ptr 2 0 1,.ptr 3 0 1,.ptr 4 0 1,.ptr 5 0 1]],.pool .qr x212,.tw .qr x213,.vals [.c (.bool x214),.il .u32 1 x215,.il .u32 1 x216],.vals [.c (.bool x217),.il .u32 1 x218,.il .u32 1 x219]]⟩) (fun v w x y z x199 x200 x201 x202=>k (.ret (.c (.bool v)) [.vals [.sw 6 1],.vals [.inl .i64 1 w],.vals [.yv 7],.vals [.c (.int .i64 x)],.vals [.sw 8 1],.vals [.fn 53 [] [.ptr 0 0 1,.ptr 9 0 1,.ptr 10 0 1]],.ints .i64 y,.amb z x199,.po 3 11 x200,.vals [.sw 12 3],.vals [.fn 59 [] [.ptr 0 0 1,.ptr 1 0 1,.ptr 2 0 1,.ptr 3 0 1,.ptr 4 0 1,.ptr 5 0 1]],.pool .qr x201,.tw .qr x202]) .nil)
 |_,_=>none⟩
noncomputable def Q111.c22 (g:dO)(N:Nat):mF:=⟨fun vs H k=>match vs,H with
 | [.c (.int .i64 a),.ptr 0 0 1,.ptr 5 0 1,.ptr 13 0 3,.ptr 14 0 3,.c (.int .i64 b),.agg [.c (.int .i64 1),.c (.int .i64 (-1))],.c (.int .i64 c)],[.vals [.sw 6 1],.vals [.inl .i64 1 d],.vals [.yv 7],.vals [.c (.int .i64 e)],.vals [.sw 8 1],.vals [.fn 53 [] [.ptr 0 0 1,.ptr 9 0 1,.ptr 10 0 1]],.ints .i64 f,.amb h i,.po 3 11 j,.vals [.sw 12 3],.vals [.fn 59 [] [.ptr 0 0 1,.ptr 1 0 1,.ptr 2 0 1,.ptr 3 0 1,.ptr 4 0 1,.ptr 5 0 1]],.pool .qr l,.tw .qr m,.vals [.c (.bool o),.il .u32 1 p,.il .u32 1 q],.vals [.c (.bool r),.il .u32 1 s,.il .u32 1 t]]=>Q111.l22 g N N a b c d e f h i j l m o p q r s t (fun x255 x256 x257 x258 x259 x260 x261 x262=>k (.exit 6) ⟨tB Q111.h22.out [],[.vals [.sw 6 1],.vals [.inl .i64 1 x255],.vals [.yv 7],.vals [.c (.int .i64 x256)],.vals [.sw 8 1],.vals [.fn 53 [] [.ptr 0 0 1,.ptr 9 0 1,.ptr 10 0 1]],.ints .i64 x257,.amb x258 x259,.po 3 11 x260,.vals [.sw 12 3],.vals [.fn 59 [] [.ptr 0 0 1,.ptr 1 0 1,.ptr 2 0 1,.ptr 3 0 1,.ptr 4 0 1,.ptr 5 0 1]],.pool .qr x261,.tw .qr x262]⟩) (fun u v w x y z x252 x253 x254=>k (.ret (.c (.bool u)) [.vals [.sw 6 1],.vals [.inl .i64 1 v],.vals [.yv 7],.vals [.c (.int .i64 w)],.vals [.sw 8 1],.vals [.fn 53 [] [.ptr 0 0 1,.ptr 9 0 1,.ptr 10 0 1]],.ints .i64 x,.amb y z,.po 3 11 x252,.vals [.sw 12 3],.vals [.fn 59 [] [.ptr 0 0 1,.ptr 1 0 1,.ptr 2 0 1,.ptr 3 0 1,.ptr 4 0 1,.ptr 5 0 1]],.pool .qr x253,.tw .qr x254]) .nil)
 |_,_=>none⟩
noncomputable def Q111.E (g:dO)(N:Nat):aC:={ty:=bF Q111.ty,tab:=bF [(60,Q43.ent N),(61,Q29.ent N),(55,Q55.ent N),(56,Q52.ent N),(54,Q50.ent N),(62,Q45.ent N),(63,Q44.ent N),(53,Q110.ent g N)],hint:=bF [(4,Q111.h4),(7,Q111.h7),(16,Q111.h16),(22,Q111.h22),(26,Q111.h26)],cut:=bF [(7,Q111.c7 g N),(4,Q111.c4 g N),(16,Q111.c16 g N),(26,Q111.c26 g N),(22,Q111.c22 g N)],N:=N,res:=[.tmp 10],rsh:=[.any],nb:=13,ntmps:=143,own:=false,yld:=true}
noncomputable def Q111.b7:Code:=mA ((cA (bo Tryz.f59)).getD 1 .skip)
theorem Q111.l7_eq {R:Type}(g:dO)(N n:Nat)(a b c d e:Int)(f:W5)(h:Int)(i:W6)(j:vF)(l:W4)(m:W7)(o:W0)(p:W1)(q:Bool)(r t u:W6)(k:Ex→St→Option R):
  vA 13 Q111.h7 (fun s k=>tA (Q111.E g N) 383 Q111.b7 s k) n [.ptr 0 0 1,.ptr 1 0 1,.ptr 2 0 1,.ptr 3 0 1,.ptr 13 0 3,.sw 14 1,.c (.int .i64 a),.c (.int .i64 b),.c (.int .i64 c),.c (.int .i64 d),.c (.int .i64 e)] [.vals [.sw 6 1],.vals [.inl .i64 1 f],.vals [.yv 7],.vals [.c (.int .i64 h)],.vals [.sw 8 1],.vals [.fn 53 [] [.ptr 0 0 1,.ptr 9 0 1,.ptr 10 0 1]],.ints .i64 i,.amb j l,.po 3 11 m,.vals [.sw 12 3],.vals [.fn 59 [] [.ptr 0 0 1,.ptr 1 0 1,.ptr 2 0 1,.ptr 3 0 1,.ptr 4 0 1,.ptr 5 0 1]],.pool .qr o,.tw .qr p,.vals [.c (.bool q),.il .u32 1 r,.il .u32 1 t],.ints .i64 u] k=Q111.l7 g N n a b c d e f h i j l m o p q r t u (fun v w x y z x49 x50 x51 x52 x53 x54 x55 x56 x57=>k (.exit 2) ⟨tB Q111.h7.out [.ptr 0 0 1,.ptr 1 0 1,.ptr 2 0 1,.ptr 3 0 1,.ptr 13 0 3,.sw 14 1,.c (.int .i64 v),.c (.int .i64 w)],[.vals [.sw 6 1],.vals [.inl .i64 1 x],.vals [.yv 7],.vals [.c (.int .i64 y)],.vals [.sw 8 1],.vals [.fn 53 [] [.ptr 0 0 1,.ptr 9 0 1,.ptr 10 0 1]],.ints .i64 z,.amb x49 x50,.po 3 11 x51,.vals [.sw 12 3],.vals [.fn 59 [] [.ptr 0 0 1,.ptr 1 0 1,.ptr 2 0 1,.ptr 3 0 1,.ptr 4 0 1,.ptr 5 0 1]],.pool .qr x52,.tw .qr x53,.vals [.c (.bool x54),.il .u32 1 x55,.il .u32 1 x56],.ints .i64 x57]⟩):=by
 induction n generalizing a b c d e f h i j l m o p q r t u with
 |zero=>kernel_rfl
 |succ n ih=>
  simp only[Q111.l7,←ih]
  kernel_rfl
noncomputable def Q111.b4:Code:=mA ((cA (bo Tryz.f59)).getD 0 .skip)
theorem Q111.l4_eq {R:Type}(g:dO)(N n:Nat)(a b:Int)(c:W5)(d:Int)(e:W6)(f:vF)(h:W4)(i:W7)(j:W0)(l:W1)(m:Bool)(o p q:W6)(k:Ex→St→Option R):
  vA 13 Q111.h4 (fun s k=>tA (Q111.E g N) 391 Q111.b4 s k) n [.ptr 0 0 1,.ptr 1 0 1,.ptr 2 0 1,.ptr 3 0 1,.ptr 13 0 3,.sw 14 1,.c (.int .i64 a),.c (.int .i64 b)] [.vals [.sw 6 1],.vals [.inl .i64 1 c],.vals [.yv 7],.vals [.c (.int .i64 d)],.vals [.sw 8 1],.vals [.fn 53 [] [.ptr 0 0 1,.ptr 9 0 1,.ptr 10 0 1]],.ints .i64 e,.amb f h,.po 3 11 i,.vals [.sw 12 3],.vals [.fn 59 [] [.ptr 0 0 1,.ptr 1 0 1,.ptr 2 0 1,.ptr 3 0 1,.ptr 4 0 1,.ptr 5 0 1]],.pool .qr j,.tw .qr l,.vals [.c (.bool m),.il .u32 1 o,.il .u32 1 p],.ints .i64 q] k=Q111.l4 g N n a b c d e f h i j l m o p q (fun r t u v w x y z x80 x81 x82 x83=>k (.exit 0) ⟨tB Q111.h4.out [.ptr 2 0 1,.ptr 3 0 1,.ptr 13 0 3,.sw 14 1],[.vals [.sw 6 1],.vals [.inl .i64 1 r],.vals [.yv 7],.vals [.c (.int .i64 t)],.vals [.sw 8 1],.vals [.fn 53 [] [.ptr 0 0 1,.ptr 9 0 1,.ptr 10 0 1]],.ints .i64 u,.amb v w,.po 3 11 x,.vals [.sw 12 3],.vals [.fn 59 [] [.ptr 0 0 1,.ptr 1 0 1,.ptr 2 0 1,.ptr 3 0 1,.ptr 4 0 1,.ptr 5 0 1]],.pool .qr y,.tw .qr z,.vals [.c (.bool x80),.il .u32 1 x81,.il .u32 1 x82],.ints .i64 x83]⟩):=by
 induction n generalizing a b c d e f h i j l m o p q with
 |zero=>kernel_rfl
 |succ n ih=>
  simp only[Q111.l4,←ih]
  kernel_rfl
noncomputable def Q111.b16:Code:=mA ((cA (bo Tryz.f59)).getD 2 .skip)
theorem Q111.l16_eq {R:Type}(g:dO)(N n:Nat)(a b:Int)(c:W5)(d:Int)(e:W6)(f:vF)(h:W4)(i:W7)(j:W0)(l:W1)(m:Bool)(o p:W6)(q:Bool)(r t:W6)(k:Ex→St→Option R):
  vA 13 Q111.h16 (fun s k=>tA (Q111.E g N) 393 Q111.b16 s k) n [.c (.int .i64 a),.ptr 0 0 1,.ptr 4 0 1,.ptr 5 0 1,.ptr 13 0 3,.ptr 14 0 3,.c (.int .i64 b)] [.vals [.sw 6 1],.vals [.inl .i64 1 c],.vals [.yv 7],.vals [.c (.int .i64 d)],.vals [.sw 8 1],.vals [.fn 53 [] [.ptr 0 0 1,.ptr 9 0 1,.ptr 10 0 1]],.ints .i64 e,.amb f h,.po 3 11 i,.vals [.sw 12 3],.vals [.fn 59 [] [.ptr 0 0 1,.ptr 1 0 1,.ptr 2 0 1,.ptr 3 0 1,.ptr 4 0 1,.ptr 5 0 1]],.pool .qr j,.tw .qr l,.vals [.c (.bool m),.il .u32 1 o,.il .u32 1 p],.vals [.c (.bool q),.il .u32 1 r,.il .u32 1 t]] k=Q111.l16 g N n a b c d e f h i j l m o p q r t (fun u v w x y z x131 x132 x133 x134 x135 x136 x137 x138 x139=>k (.exit 4) ⟨tB Q111.h16.out [.c (.int .i64 u),.ptr 0 0 1,.ptr 5 0 1,.ptr 13 0 3,.ptr 14 0 3],[.vals [.sw 6 1],.vals [.inl .i64 1 v],.vals [.yv 7],.vals [.c (.int .i64 w)],.vals [.sw 8 1],.vals [.fn 53 [] [.ptr 0 0 1,.ptr 9 0 1,.ptr 10 0 1]],.ints .i64 x,.amb y z,.po 3 11 x131,.vals [.sw 12 3],.vals [.fn 59 [] [.ptr 0 0 1,.ptr 1 0 1,.ptr 2 0 1,.ptr 3 0 1,.ptr 4 0 1,.ptr 5 0 1]],.pool .qr x132,.tw .qr x133,.vals [.c (.bool x134),.il .u32 1 x135,.il .u32 1 x136],.vals [.c (.bool x137),.il .u32 1 x138,.il .u32 1 x139]]⟩):=by
 induction n generalizing a b c d e f h i j l m o p q r t with
 |zero=>kernel_rfl
 |succ n ih=>
  simp only[Q111.l16,←ih]
  kernel_rfl
noncomputable def Q111.b26:Code:=mA ((cA (bo Tryz.f59)).getD 4 .skip)
theorem Q111.l26_eq {R:Type}(g:dO)(N n:Nat)(a b c d:Int)(e:W5)(f:Int)(h:W6)(i:vF)(j:W4)(l:W7)(m:W0)(o:W1)(p:Bool)(q r:W6)(t:Bool)(u v:W6)(k:Ex→St→Option R):
  vA 13 Q111.h26 (fun s k=>tA (Q111.E g N) 383 Q111.b26 s k) n [.c (.int .i64 a),.ptr 0 0 1,.ptr 5 0 1,.ptr 13 0 3,.ptr 14 0 3,.c (.int .i64 b),.c (.int .i64 c),.agg [.c (.int .i64 1),.c (.int .i64 (-1))],.c (.int .i64 d)] [.vals [.sw 6 1],.vals [.inl .i64 1 e],.vals [.yv 7],.vals [.c (.int .i64 f)],.vals [.sw 8 1],.vals [.fn 53 [] [.ptr 0 0 1,.ptr 9 0 1,.ptr 10 0 1]],.ints .i64 h,.amb i j,.po 3 11 l,.vals [.sw 12 3],.vals [.fn 59 [] [.ptr 0 0 1,.ptr 1 0 1,.ptr 2 0 1,.ptr 3 0 1,.ptr 4 0 1,.ptr 5 0 1]],.pool .qr m,.tw .qr o,.vals [.c (.bool p),.il .u32 1 q,.il .u32 1 r],.vals [.c (.bool t),.il .u32 1 u,.il .u32 1 v]] k=Q111.l26 g N n a b c d e f h i j l m o p q r t u v (fun x203 x204 x205 x206 x207 x208 x209 x210 x211 x212 x213 x214 x215 x216 x217 x218 x219=>k (.exit 8) ⟨tB Q111.h26.out [.c (.int .i64 x203),.ptr 0 0 1,.ptr 5 0 1,.ptr 13 0 3,.ptr 14 0 3,.c (.int .i64 x204),.agg [.c (.int .i64 1),.c (.int .i64 (-1))],.c (.int .i64 x205)],[.vals [.sw 6 1],.vals [.inl .i64 1 x206],.vals [.yv 7],.vals [.c (.int .i64 x207)],.vals [.sw 8 1],.vals [.fn 53 [] [.ptr 0 0 1,.ptr 9 0 1,.ptr 10 0 1]],.ints .i64 x208,.amb x209 x210,.po 3 11 x211,.vals [.sw 12 3],.vals [.fn 59 [] [.ptr 0 0 1,.ptr 1 0 1,.ptr 2 0 1,.ptr 3 0 1,.ptr 4 0 1,.ptr 5 0 1]],.pool .qr x212,.tw .qr x213,.vals [.c (.bool x214),.il .u32 1 x215,.il .u32 1 x216],.vals [.c (.bool x217),.il .u32 1 x218,.il .u32 1 x219]]⟩) (fun w x y z x198 x199 x200 x201 x202=>k (.ret (.c (.bool w)) [.vals [.sw 6 1],.vals [.inl .i64 1 x],.vals [.yv 7],.vals [.c (.int .i64 y)],.vals [.sw 8 1],.vals [.fn 53 [] [.ptr 0 0 1,.ptr 9 0 1,.ptr 10 0 1]],.ints .i64 z,.amb x198 x199,.po 3 11 x200,.vals [.sw 12 3],.vals [.fn 59 [] [.ptr 0 0 1,.ptr 1 0 1,.ptr 2 0 1,.ptr 3 0 1,.ptr 4 0 1,.ptr 5 0 1]],.pool .qr x201,.tw .qr x202]) .nil):=by
 induction n generalizing a b c d e f h i j l m o p q r t u v with
 |zero=>kernel_rfl
 |succ n ih=>
  simp only[Q111.l26,←ih]
  kernel_rfl
noncomputable def Q111.b22:Code:=mA ((cA (bo Tryz.f59)).getD 3 .skip)
theorem Q111.l22_eq {R:Type}(g:dO)(N n:Nat)(a b c:Int)(d:W5)(e:Int)(f:W6)(h:vF)(i:W4)(j:W7)(l:W0)(m:W1)(o:Bool)(p q:W6)(r:Bool)(t u:W6)(k:Ex→St→Option R):
  vA 13 Q111.h22 (fun s k=>tA (Q111.E g N) 391 Q111.b22 s k) n [.c (.int .i64 a),.ptr 0 0 1,.ptr 5 0 1,.ptr 13 0 3,.ptr 14 0 3,.c (.int .i64 b),.agg [.c (.int .i64 1),.c (.int .i64 (-1))],.c (.int .i64 c)] [.vals [.sw 6 1],.vals [.inl .i64 1 d],.vals [.yv 7],.vals [.c (.int .i64 e)],.vals [.sw 8 1],.vals [.fn 53 [] [.ptr 0 0 1,.ptr 9 0 1,.ptr 10 0 1]],.ints .i64 f,.amb h i,.po 3 11 j,.vals [.sw 12 3],.vals [.fn 59 [] [.ptr 0 0 1,.ptr 1 0 1,.ptr 2 0 1,.ptr 3 0 1,.ptr 4 0 1,.ptr 5 0 1]],.pool .qr l,.tw .qr m,.vals [.c (.bool o),.il .u32 1 p,.il .u32 1 q],.vals [.c (.bool r),.il .u32 1 t,.il .u32 1 u]] k=Q111.l22 g N n a b c d e f h i j l m o p q r t u (fun x255 x256 x257 x258 x259 x260 x261 x262=>k (.exit 6) ⟨tB Q111.h22.out [],[.vals [.sw 6 1],.vals [.inl .i64 1 x255],.vals [.yv 7],.vals [.c (.int .i64 x256)],.vals [.sw 8 1],.vals [.fn 53 [] [.ptr 0 0 1,.ptr 9 0 1,.ptr 10 0 1]],.ints .i64 x257,.amb x258 x259,.po 3 11 x260,.vals [.sw 12 3],.vals [.fn 59 [] [.ptr 0 0 1,.ptr 1 0 1,.ptr 2 0 1,.ptr 3 0 1,.ptr 4 0 1,.ptr 5 0 1]],.pool .qr x261,.tw .qr x262]⟩) (fun v w x y z x251 x252 x253 x254=>k (.ret (.c (.bool v)) [.vals [.sw 6 1],.vals [.inl .i64 1 w],.vals [.yv 7],.vals [.c (.int .i64 x)],.vals [.sw 8 1],.vals [.fn 53 [] [.ptr 0 0 1,.ptr 9 0 1,.ptr 10 0 1]],.ints .i64 y,.amb z x251,.po 3 11 x252,.vals [.sw 12 3],.vals [.fn 59 [] [.ptr 0 0 1,.ptr 1 0 1,.ptr 2 0 1,.ptr 3 0 1,.ptr 4 0 1,.ptr 5 0 1]],.pool .qr x253,.tw .qr x254]) .nil):=by
 induction n generalizing a b c d e f h i j l m o p q r t u with
 |zero=>kernel_rfl
 |succ n ih=>
  simp only[Q111.l22,←ih]
  kernel_rfl
noncomputable def Q111.dec (v:V)(bs:List oA):Option (Bool×W5×Int×W6×vF×W4×W7×W0×W1):=match v,bs with
 | .c (.bool a),[.vals [.sw 6 1],.vals [.inl .i64 1 b],.vals [.yv 7],.vals [.c (.int .i64 c)],.vals [.sw 8 1],.vals [.fn 53 [] [.ptr 0 0 1,.ptr 9 0 1,.ptr 10 0 1]],.ints .i64 d,.amb e f,.po 3 11 g,.vals [.sw 12 3],.vals [.fn 59 [] [.ptr 0 0 1,.ptr 1 0 1,.ptr 2 0 1,.ptr 3 0 1,.ptr 4 0 1,.ptr 5 0 1]],.pool .qr h,.tw .qr i]=>some (a,b,c,d,e,f,g,h,i)
 |_,_=>none
theorem Q111.f_eq (g:dO)(N:Nat)(d:Int)(e:Bool)(f h:W6)(i:W5)(j:Int)(k:W6)(l:vF)(m:W4)(a:W7)(b:W0)(c:W1):
  uA (Q111.E g N) (bo Tryz.f59) [.c (.int .i64 d),.agg [.c (.bool e),.il .u32 1 f,.il .u32 1 h],.ptr 0 0 1,.ptr 1 0 1,.ptr 2 0 1,.ptr 3 0 1,.ptr 4 0 1,.ptr 5 0 1] [.vals [.sw 6 1],.vals [.inl .i64 1 i],.vals [.yv 7],.vals [.c (.int .i64 j)],.vals [.sw 8 1],.vals [.fn 53 [] [.ptr 0 0 1,.ptr 9 0 1,.ptr 10 0 1]],.ints .i64 k,.amb l m,.po 3 11 a,.vals [.sw 12 3],.vals [.fn 59 [] [.ptr 0 0 1,.ptr 1 0 1,.ptr 2 0 1,.ptr 3 0 1,.ptr 4 0 1,.ptr 5 0 1]],.pool .qr b,.tw .qr c] Q111.dec=Q111.step g N d e f h i j k l m a b c:=by kernel_rfl
theorem Q111.env (g:dO)(hg:wy g)(N:Nat):sA Tryz.prog (Q111.E g N):=⟨(eD.cons sE (eD.cons yD (eD.cons jB (eD.cons bB (eD.cons cD (eD.cons rr (eD.cons jW (eD.cons bT (eD.cons oC (eD.cons ks (eD.cons C1 eD.nil))))))))))),(aF.cons (Q43.ent_ok N) (aF.cons (Q29.ent_ok N) (aF.cons (Q55.ent_ok N) (aF.cons (Q52.ent_ok N) (aF.cons (Q50.ent_ok N) (aF.cons (Q45.ent_ok N) (aF.cons (Q44.ent_ok N) (aF.cons (Q110.ent_ok g hg N) aF.nil)))))))),fun _=>rfl⟩
theorem Q111.res_eq (g:dO)(N:Nat):(Q111.E g N).res=Tryz.f59.results.toList:=by kernel_rfl
theorem Q111.k26 (g:dO)(hg:wy g)(N:Nat):eB Tryz.prog Tryz.f59 (Q111.E g N) (.loop Q111.b26):=by
 intro e hd he hh R vs H k r h;have e1:(Q111.E g N).cut (mC Q111.b26)=some (Q111.c26 g N):=by kernel_rfl
 have e2:(Q111.E g N).hint (mC Q111.b26)=some Q111.h26:=by kernel_rfl
 rw[e1]at he;rw[e2]at hh;cases he;cases hh;unfold Q111.c26 at h;dsimp only at h;split at h
 ·rw[←Q111.l26_eq]at h;exact jN (uH (Q111.env g hg N) bA (Q111.res_eq g N) 383 Q111.b26 aA.n) h
 ·cases h
theorem Q111.k22 (g:dO)(hg:wy g)(N:Nat):eB Tryz.prog Tryz.f59 (Q111.E g N) (.loop Q111.b22):=by
 intro e hd he hh R vs H k r h;have e1:(Q111.E g N).cut (mC Q111.b22)=some (Q111.c22 g N):=by kernel_rfl
 have e2:(Q111.E g N).hint (mC Q111.b22)=some Q111.h22:=by kernel_rfl
 rw[e1]at he;rw[e2]at hh;cases he;cases hh;unfold Q111.c22 at h;dsimp only at h;split at h
 ·rw[←Q111.l22_eq]at h;exact jN (uH (Q111.env g hg N) bA (Q111.res_eq g N) 391 Q111.b22 (aA.of (l:=[(.loop (mA ((cA (bo Tryz.f59)).getD 4 .skip)))]) (by kernel_rfl) (aA.cons (Q111.k26 g hg N) aA.nil))) h
 ·cases h
theorem Q111.k16 (g:dO)(hg:wy g)(N:Nat):eB Tryz.prog Tryz.f59 (Q111.E g N) (.loop Q111.b16):=by
 intro e hd he hh R vs H k r h;have e1:(Q111.E g N).cut (mC Q111.b16)=some (Q111.c16 g N):=by kernel_rfl
 have e2:(Q111.E g N).hint (mC Q111.b16)=some Q111.h16:=by kernel_rfl
 rw[e1]at he;rw[e2]at hh;cases he;cases hh;unfold Q111.c16 at h;dsimp only at h;split at h
 ·rw[←Q111.l16_eq]at h;exact jN (uH (Q111.env g hg N) bA (Q111.res_eq g N) 393 Q111.b16 aA.n) h
 ·cases h
theorem Q111.k7 (g:dO)(hg:wy g)(N:Nat):eB Tryz.prog Tryz.f59 (Q111.E g N) (.loop Q111.b7):=by
 intro e hd he hh R vs H k r h;have e1:(Q111.E g N).cut (mC Q111.b7)=some (Q111.c7 g N):=by kernel_rfl
 have e2:(Q111.E g N).hint (mC Q111.b7)=some Q111.h7:=by kernel_rfl
 rw[e1]at he;rw[e2]at hh;cases he;cases hh;unfold Q111.c7 at h;dsimp only at h;split at h
 ·rw[←Q111.l7_eq]at h;exact jN (uH (Q111.env g hg N) bA (Q111.res_eq g N) 383 Q111.b7 aA.n) h
 ·cases h
theorem Q111.k4 (g:dO)(hg:wy g)(N:Nat):eB Tryz.prog Tryz.f59 (Q111.E g N) (.loop Q111.b4):=by
 intro e hd he hh R vs H k r h;have e1:(Q111.E g N).cut (mC Q111.b4)=some (Q111.c4 g N):=by kernel_rfl
 have e2:(Q111.E g N).hint (mC Q111.b4)=some Q111.h4:=by kernel_rfl
 rw[e1]at he;rw[e2]at hh;cases he;cases hh;unfold Q111.c4 at h;dsimp only at h;split at h
 ·rw[←Q111.l4_eq]at h;exact jN (uH (Q111.env g hg N) bA (Q111.res_eq g N) 391 Q111.b4 (aA.of (l:=[(.loop (mA ((cA (bo Tryz.f59)).getD 1 .skip)))]) (by kernel_rfl) (aA.cons (Q111.k7 g hg N) aA.nil))) h
 ·cases h
theorem Q111.spec1 (g:dO)(hg:wy g)(N:Nat)(d:Int)(e:Bool)(f i:W6)(j:W5)(k:Int)(m:W6)(o:vF)(p:W4)(a:W7)(b:W0)(c:W1)(r:Bool×W5×Int×W6×vF×W4×W7×W0×W1)(h:Q111.step g N d e f i j k m o p a b c=some r):dA Tryz.prog 59 [.c (.int .i64 d),.agg [.c (.bool e),.il .u32 1 f,.il .u32 1 i],.ptr 0 0 1,.ptr 1 0 1,.ptr 2 0 1,.ptr 3 0 1,.ptr 4 0 1,.ptr 5 0 1] [.vals [.sw 6 1],.vals [.inl .i64 1 j],.vals [.yv 7],.vals [.c (.int .i64 k)],.vals [.sw 8 1],.vals [.fn 53 [] [.ptr 0 0 1,.ptr 9 0 1,.ptr 10 0 1]],.ints .i64 m,.amb o p,.po 3 11 a,.vals [.sw 12 3],.vals [.fn 59 [] [.ptr 0 0 1,.ptr 1 0 1,.ptr 2 0 1,.ptr 3 0 1,.ptr 4 0 1,.ptr 5 0 1]],.pool .qr b,.tw .qr c] (.c (.bool r.1)) ([.vals [.sw 6 1],.vals [.inl .i64 1 r.2.1],.vals [.yv 7],.vals [.c (.int .i64 r.2.2.1)],.vals [.sw 8 1],.vals [.fn 53 [] [.ptr 0 0 1,.ptr 9 0 1,.ptr 10 0 1]],.ints .i64 r.2.2.2.1,.amb r.2.2.2.2.1 r.2.2.2.2.2.1,.po 3 11 r.2.2.2.2.2.2.1,.vals [.sw 12 3],.vals [.fn 59 [] [.ptr 0 0 1,.ptr 1 0 1,.ptr 2 0 1,.ptr 3 0 1,.ptr 4 0 1,.ptr 5 0 1]],.pool .qr r.2.2.2.2.2.2.2.1,.tw .qr r.2.2.2.2.2.2.2.2]):=by
 rw[←Q111.f_eq]at h;refine(dS (Q111.env g hg N) bA Tryz.func59 (by kernel_rfl:Tryz.f59.body=some (bo Tryz.f59)) (by kernel_rfl) (Q111.res_eq g N) (by kernel_rfl) (by kernel_rfl) (hZ (by kernel_rfl)) (aA.of (l:=[(.loop (mA ((cA (bo Tryz.f59)).getD 0 .skip))),(.loop (mA ((cA (bo Tryz.f59)).getD 1 .skip))),(.loop (mA ((cA (bo Tryz.f59)).getD 2 .skip))),(.loop (mA ((cA (bo Tryz.f59)).getD 3 .skip))),(.loop (mA ((cA (bo Tryz.f59)).getD 4 .skip)))]) (by kernel_rfl) (aA.cons (Q111.k4 g hg N) (aA.cons (Q111.k7 g hg N) (aA.cons (Q111.k16 g hg N) (aA.cons (Q111.k22 g hg N) (aA.cons (Q111.k26 g hg N) aA.nil)))))) h).of fun v bs' h1=>?_;unfold Q111.dec at h1;split at h1
 ·cases h1;exact⟨rfl,rfl⟩
 ·cases h1
noncomputable def Q111.g (N:Nat):Nat→Int→Bool→W6→W6→W5→Int→W6→vF→W4→W7→W0→W1→Option (Bool×W5×Int×W6×vF×W4×W7×W0×W1)
 |0,_,_,_,_,_,_,_,_,_,_,_,_=>none
 |n+1,d,e,f,g,h,i,j,k,l,a,b,c=>Q111.step (Q111.g N n) N d e f g h i j k l a b c
noncomputable def Q111.f (N:Nat)(d:Int)(e:Bool)(f g:W6)(h:W5)(i:Int)(j:W6)(k:vF)(l:W4)(a:W7)(b:W0)(c:W1):Option (Bool×W5×Int×W6×vF×W4×W7×W0×W1):=Q111.g N N d e f g h i j k l a b c
theorem Q111.gspec (N:Nat):∀(n:Nat) (d:Int) (e:Bool) (f g:W6) (i:W5) (j:Int) (k:W6) (l:vF) (m:W4) (a:W7) (b:W0) (c:W1) (r:Bool×W5×Int×W6×vF×W4×W7×W0×W1) (h:Q111.g N n d e f g i j k l m a b c=some r),dA Tryz.prog 59 [.c (.int .i64 d),.agg [.c (.bool e),.il .u32 1 f,.il .u32 1 g],.ptr 0 0 1,.ptr 1 0 1,.ptr 2 0 1,.ptr 3 0 1,.ptr 4 0 1,.ptr 5 0 1] [.vals [.sw 6 1],.vals [.inl .i64 1 i],.vals [.yv 7],.vals [.c (.int .i64 j)],.vals [.sw 8 1],.vals [.fn 53 [] [.ptr 0 0 1,.ptr 9 0 1,.ptr 10 0 1]],.ints .i64 k,.amb l m,.po 3 11 a,.vals [.sw 12 3],.vals [.fn 59 [] [.ptr 0 0 1,.ptr 1 0 1,.ptr 2 0 1,.ptr 3 0 1,.ptr 4 0 1,.ptr 5 0 1]],.pool .qr b,.tw .qr c] (.c (.bool r.1)) ([.vals [.sw 6 1],.vals [.inl .i64 1 r.2.1],.vals [.yv 7],.vals [.c (.int .i64 r.2.2.1)],.vals [.sw 8 1],.vals [.fn 53 [] [.ptr 0 0 1,.ptr 9 0 1,.ptr 10 0 1]],.ints .i64 r.2.2.2.1,.amb r.2.2.2.2.1 r.2.2.2.2.2.1,.po 3 11 r.2.2.2.2.2.2.1,.vals [.sw 12 3],.vals [.fn 59 [] [.ptr 0 0 1,.ptr 1 0 1,.ptr 2 0 1,.ptr 3 0 1,.ptr 4 0 1,.ptr 5 0 1]],.pool .qr r.2.2.2.2.2.2.2.1,.tw .qr r.2.2.2.2.2.2.2.2])
 |0,_,_,_,_,_,_,_,_,_,_,_,_,_,h=>by cases h
 |n+1,d,e,f,g,i,j,k,l,m,a,b,c,r,h=>Q111.spec1 (Q111.g N n) (Q111.gspec N n) N d e f g i j k l m a b c r h
theorem Q111.spec (N:Nat)(d:Int)(e:Bool)(f g:W6)(i:W5)(j:Int)(k:W6)(l:vF)(m:W4)(a:W7)(b:W0)(c:W1)(r:Bool×W5×Int×W6×vF×W4×W7×W0×W1)(h:Q111.f N d e f g i j k l m a b c=some r):dA Tryz.prog 59 [.c (.int .i64 d),.agg [.c (.bool e),.il .u32 1 f,.il .u32 1 g],.ptr 0 0 1,.ptr 1 0 1,.ptr 2 0 1,.ptr 3 0 1,.ptr 4 0 1,.ptr 5 0 1] [.vals [.sw 6 1],.vals [.inl .i64 1 i],.vals [.yv 7],.vals [.c (.int .i64 j)],.vals [.sw 8 1],.vals [.fn 53 [] [.ptr 0 0 1,.ptr 9 0 1,.ptr 10 0 1]],.ints .i64 k,.amb l m,.po 3 11 a,.vals [.sw 12 3],.vals [.fn 59 [] [.ptr 0 0 1,.ptr 1 0 1,.ptr 2 0 1,.ptr 3 0 1,.ptr 4 0 1,.ptr 5 0 1]],.pool .qr b,.tw .qr c] (.c (.bool r.1)) ([.vals [.sw 6 1],.vals [.inl .i64 1 r.2.1],.vals [.yv 7],.vals [.c (.int .i64 r.2.2.1)],.vals [.sw 8 1],.vals [.fn 53 [] [.ptr 0 0 1,.ptr 9 0 1,.ptr 10 0 1]],.ints .i64 r.2.2.2.1,.amb r.2.2.2.2.1 r.2.2.2.2.2.1,.po 3 11 r.2.2.2.2.2.2.1,.vals [.sw 12 3],.vals [.fn 59 [] [.ptr 0 0 1,.ptr 1 0 1,.ptr 2 0 1,.ptr 3 0 1,.ptr 4 0 1,.ptr 5 0 1]],.pool .qr r.2.2.2.2.2.2.2.1,.tw .qr r.2.2.2.2.2.2.2.2]):=Q111.gspec N N d e f g i j k l m a b c r h
noncomputable def Q111.ent (N:Nat):rA:={A:=Bool×W5×Int×W6×vF×W4×W7×W0×W1,fresh:=0,imm:=[true,true,false,false,false,false,false,false],dec:=fun args bs=>match sC (jA bs) [false,false,false,false,false,false,false,false] args,bs with
 | [.c (.int .i64 d),.agg [.c (.bool e),.il .u32 1 f,.il .u32 1 g],.ptr 0 0 1,.ptr 1 0 1,.ptr 2 0 1,.ptr 3 0 1,.ptr 4 0 1,.ptr 5 0 1],[.vals [.sw 6 1],.vals [.inl .i64 1 h],.vals [.yv 7],.vals [.c (.int .i64 i)],.vals [.sw 8 1],.vals [.fn 53 [] [.ptr 0 0 1,.ptr 9 0 1,.ptr 10 0 1]],.ints .i64 j,.amb k l,.po 3 11 a,.vals [.sw 12 3],.vals [.fn 59 [] [.ptr 0 0 1,.ptr 1 0 1,.ptr 2 0 1,.ptr 3 0 1,.ptr 4 0 1,.ptr 5 0 1]],.pool .qr b,.tw .qr c]=>some (Q111.f N d e f g h i j k l a b c,fun r=>.one (.c (.bool r.1)) [.vals [.sw 6 1],.vals [.inl .i64 1 r.2.1],.vals [.yv 7],.vals [.c (.int .i64 r.2.2.1)],.vals [.sw 8 1],.vals [.fn 53 [] [.ptr 0 0 1,.ptr 9 0 1,.ptr 10 0 1]],.ints .i64 r.2.2.2.1,.amb r.2.2.2.2.1 r.2.2.2.2.2.1,.po 3 11 r.2.2.2.2.2.2.1,.vals [.sw 12 3],.vals [.fn 59 [] [.ptr 0 0 1,.ptr 1 0 1,.ptr 2 0 1,.ptr 3 0 1,.ptr 4 0 1,.ptr 5 0 1]],.pool .qr r.2.2.2.2.2.2.2.1,.tw .qr r.2.2.2.2.2.2.2.2])
 |_,_=>none}
theorem Q111.ent_ok (N:Nat):pA Tryz.prog 59 (Q111.ent N):=by
 intro args bs a enc h;simp only[Q111.ent]at h;split at h
 ·rename_i hz;have h0:=hC h;have h1:=congrArg Prod.fst h0;have h2:=congrArg Prod.snd h0;dsimp only at h1 h2;subst h2;exact dA.of_asSl (fl:=[false,false,false,false,false,false,false,false]) (by rw[hz];exact Q111.spec N _ _ _ _ _ _ _ _ _ _ _ _ a h1)
 ·cases h
noncomputable def Q112.f (N:Nat)(g:vF)(h:W4)(d:W5)(e:Int):Option (vF×W4×W5×Int):=
 (Q109.f N d).bind fun a=>
 (Q94.f N a.1).bind fun f=>
 (Q90.f N a.2.2 a.2.1).bind fun i=>
 bif !i.2.1 then
  some (g,h,d,e)
 else
 bif dG (a.1.length:Int) (a.1.length:Int)&&decide (0≤(a.1.length:Int))&&decide ((a.1.length:Int)≤9223372036854775807)&&lB ((a.1.length:Int).toNat) 8 then
  (Q55.f N e).bind fun b=>
  (Q111.f N (fA (((hW ((a.1.length:Int).toNat) (0:Int)).length:Int)-1)) b.1 b.2.1 b.2.2 i.1 e (hW ((a.1.length:Int).toNat) (0:Int)) g h f.2.1 f.1 f.2.2.1).bind fun c=>
  some (c.2.2.2.2.1,c.2.2.2.2.2.1,d,c.2.2.1)
 else none
noncomputable def Q112.E (N:Nat):aC:=mD [(2,iW),(22,eL),(43,nJ),(47,rN),(93,H3),(96,C3),(97,vr),(102,By),(109,Bz)] [(50,Q109.ent N),(51,Q94.ent N),(52,Q90.ent N),(55,Q55.ent N),(59,Q111.ent N)] [] [] N [] [] 3 44
noncomputable def Q112.dec (v:V)(bs:List oA):Option (vF×W4×W5×Int):=match v,bs with
 | .tup [],[.amb a b,.vals [.inl .i64 1 c],.vals [.c (.int .i64 d)]]=>some (a,b,c,d)
 |_,_=>none
theorem Q112.f_eq (N:Nat)(a:vF)(b:W4)(c:W5)(d:Int):
  uA (Q112.E N) (bo Tryz.f49) [.yv 0,.ptr 1 0 1,.ptr 2 0 1] [.amb a b,.vals [.inl .i64 1 c],.vals [.c (.int .i64 d)]] Q112.dec=Q112.f N a b c d:=by kernel_rfl
theorem Q112.env (N:Nat):sA Tryz.prog (Q112.E N):=⟨(.cons sE (.cons yD (.cons cD (.cons xE (.cons rr (.cons jW (.cons bT (.cons kq (.cons ks .nil))))))))),(.cons (Q109.ent_ok N) (.cons (Q94.ent_ok N) (.cons (Q90.ent_ok N) (.cons (Q55.ent_ok N) (.cons (Q111.ent_ok N) .nil))))),fun h=>aE (show false=true from h)⟩
theorem Q112.spec (N:Nat)(a:vF)(c:W4)(d:W5)(f:Int)(r:vF×W4×W5×Int)(h:Q112.f N a c d f=some r):dA Tryz.prog 49 [.yv 0,.ptr 1 0 1,.ptr 2 0 1] [.amb a c,.vals [.inl .i64 1 d],.vals [.c (.int .i64 f)]] (.tup []) ([.amb r.1 r.2.1,.vals [.inl .i64 1 r.2.2.1],.vals [.c (.int .i64 r.2.2.2)]]):=qA (Q112.env N) bA Tryz.func49 aA.n ((Q112.f_eq ..).trans h) fun v b e=>by unfold Q112.dec at e;split at e<;>cases e;exact⟨rfl,rfl⟩
noncomputable def Ee:TI:=⟨.struct [(43,0),(2,1)],2,32,[.slice none 0 0,.int .i64 0]⟩
theorem fh:cC Tryz.prog 64 Ee:=eC (by kernel_rfl) (by kernel_rfl) (by kernel_rfl) (by kernel_rfl) (by kernel_rfl) (by kernel_rfl) (by kernel_rfl) (eK Tryz.underlying64 (by kernel_rfl) (by kernel_rfl)) (by kernel_rfl)
noncomputable def Q113.f (N:Nat)(a:Int):Option (Bool):=
 some (a != a)
noncomputable def Q113.E (N:Nat):aC:=mD [] [] [] [] N [.tmp 2] [.any] 0 6
noncomputable def Q113.dec (v:V)(bs:List oA):Option (Bool):=match v,bs with
 | .c (.bool a),[]=>some a
 |_,_=>none
theorem Q113.f_eq (N:Nat)(a:Int):
  uA (Q113.E N) (bo Tryz.f98) [.c (.int .i64 a)] [] Q113.dec=Q113.f N a:=by kernel_rfl
noncomputable def Q113.ent (N:Nat):rA:=tF (Bool) 0 [true] [.any] fun
 | [.c (.int .i64 a)]=>some (Q113.f N a,fun r=>.one (.c (.bool r)) [])
 |_=>none
theorem Q113.env (N:Nat):sA Tryz.prog (Q113.E N):=⟨.nil,.nil,fun h=>aE (show false=true from h)⟩
theorem Q113.spec (N:Nat)(a:Int)(r:Bool)(h:Q113.f N a=some r):dA Tryz.prog 98 [.c (.int .i64 a)] [] (.c (.bool r)) ([]):=qA (Q113.env N) bA Tryz.func98 aA.n ((Q113.f_eq ..).trans h) fun v b e=>by unfold Q113.dec at e;split at e<;>cases e;exact⟨rfl,rfl⟩
theorem Q113.ent_ok (N:Nat):pA Tryz.prog 98 (Q113.ent N):=xA fun v a e h=>by split at h;exact gC (Q:=fun e=>dA _ _ _ _ (e a).pick.1 (e a).pick.2) h fun k=>Q113.spec N _ a k;cases h
noncomputable def Q114.f (N:Nat)(a b:Int):Option (Int):=
 (Q113.f N a).bind fun d=>
 (Q113.f N b).bind fun c=>
 bif d then
  bif c then
   some 0
  else
  some (-1)
 else
 bif c then
  some 1
 else
 bif decide (a<b)then
  some (-1)
 else
 bif decide (a>b)then
  some 1
 else
 some 0
noncomputable def Q114.E (N:Nat):aC:=mD [] [(98,Q113.ent N)] [] [] N [.tmp 4] [.any] 0 20
noncomputable def Q114.dec (v:V)(bs:List oA):Option (Int):=match v,bs with
 | .c (.int .i64 a),[]=>some a
 |_,_=>none
theorem Q114.f_eq (N:Nat)(a b:Int):
  uA (Q114.E N) (bo Tryz.f66) [.c (.int .i64 a),.c (.int .i64 b)] [] Q114.dec=Q114.f N a b:=by kernel_rfl
noncomputable def Q114.ent (N:Nat):rA:=tF (Int) 0 [true,true] [.any,.any] fun
 | [.c (.int .i64 a),.c (.int .i64 b)]=>some (Q114.f N a b,fun r=>.one (.c (.int .i64 r)) [])
 |_=>none
theorem Q114.env (N:Nat):sA Tryz.prog (Q114.E N):=⟨.nil,(.cons (Q113.ent_ok N) .nil),fun h=>aE (show false=true from h)⟩
theorem Q114.spec (N:Nat)(a c r:Int)(h:Q114.f N a c=some r):dA Tryz.prog 66 [.c (.int .i64 a),.c (.int .i64 c)] [] (.c (.int .i64 r)) ([]):=qA (Q114.env N) bA Tryz.func66 aA.n ((Q114.f_eq ..).trans h) fun v b e=>by unfold Q114.dec at e;split at e<;>cases e;exact⟨rfl,rfl⟩
theorem Q114.ent_ok (N:Nat):pA Tryz.prog 66 (Q114.ent N):=xA fun v a e h=>by split at h;exact gC (Q:=fun e=>dA _ _ _ _ (e a).pick.1 (e a).pick.2) h fun k=>Q114.spec N _ _ a k;cases h
noncomputable def Q115.l2 {R:Type}(N:Nat):Nat→W6→W6→W6→Int→Int→(W6→W6→Option R)→(Int→Option R)→Option R
 |0,_,_,_,_,_,_,_=>none
 |n+1,f,b,c,g,a,d,kr=>
  bif decide (a<g)then
   bif (decide (0≤a))&&(decide (a<(c.length:Int)))then
    bif decide (a≥(b.length:Int))then
     kr 1
    else
    bif (decide (0≤a))&&(decide (a<(b.length:Int)))then
     (Q114.f N (c.getD a.toNat 0) (b.getD a.toNat 0)).bind fun e=>
     bif e != 0 then
      kr e
     else
     Q115.l2 N n f b c g (fA (a+1)) d kr
    else none
   else none
  else
  d f b
noncomputable def Q115.f (N:Nat)(a e:W6):Option (Int):=
 Q115.l2 N N a e a (a.length:Int) 0
  (fun b c=>
   bif decide ((b.length:Int)<(c.length:Int))then
    some (-1)
   else
   some 0)
  (fun d=>
   some d)
noncomputable def Q115.h2:uB:=⟨[(0,.il .i64 1),(1,.il .i64 1),(9,.il .i64 1),(10,.any),(11,.any)],[(0,.il .i64 1),(1,.il .i64 1)]⟩
noncomputable def Q115.c2 (N:Nat):mF:=⟨fun vs H k=>match vs,H with
 | [.il .i64 1 c,.il .i64 1 d,.il .i64 1 e,.c (.int .i64 f),.c (.int .i64 g)],[]=>Q115.l2 N N c d e f g (fun a b=>k (.exit 0) ⟨tB Q115.h2.out [.il .i64 1 a,.il .i64 1 b],[]⟩) (fun h=>k (.ret (.c (.int .i64 h)) []) .nil)
 |_,_=>none⟩
noncomputable def Q115.E (N:Nat):aC:=mD [(2,iW),(43,nJ)] [(66,Q114.ent N)] [(2,Q115.h2)] [(2,Q115.c2 N)] N [.tmp 4] [.any] 0 36
noncomputable def Q115.b2:Code:=mA ((cA (bo Tryz.f38)).getD 0 .skip)
theorem Q115.l2_eq {R:Type}(N n:Nat)(c d e:W6)(f g:Int)(k:Ex→St→Option R):
  vA 0 Q115.h2 (fun s k=>tA (Q115.E N) 395 Q115.b2 s k) n [.il .i64 1 c,.il .i64 1 d,.il .i64 1 e,.c (.int .i64 f),.c (.int .i64 g)] [] k=Q115.l2 N n c d e f g (fun a b=>k (.exit 0) ⟨tB Q115.h2.out [.il .i64 1 a,.il .i64 1 b],[]⟩) (fun h=>k (.ret (.c (.int .i64 h)) []) .nil):=by
 induction n generalizing c d e f g with
 |zero=>kernel_rfl
 |succ n ih=>
  simp only[Q115.l2,←ih]
  kernel_rfl
noncomputable def Q115.dec (v:V)(bs:List oA):Option (Int):=match v,bs with
 | .c (.int .i64 a),[]=>some a
 |_,_=>none
theorem Q115.f_eq (N:Nat)(a b:W6):
  uA (Q115.E N) (bo Tryz.f38) [.il .i64 1 a,.il .i64 1 b] [] Q115.dec=Q115.f N a b:=by kernel_rfl
noncomputable def Q115.ent (N:Nat):rA:=tF (Int) 0 [true,true] [.il .i64 1,.il .i64 1] fun
 | [.il .i64 1 a,.il .i64 1 b]=>some (Q115.f N a b,fun r=>.one (.c (.int .i64 r)) [])
 |_=>none
theorem Q115.env (N:Nat):sA Tryz.prog (Q115.E N):=⟨(.cons sE (.cons cD .nil)),(.cons (Q114.ent_ok N) .nil),fun h=>aE (show false=true from h)⟩
theorem Q115.k2 (N:Nat):eB Tryz.prog Tryz.f38 (Q115.E N) (.loop Q115.b2):=xB (Q115.env N) bA 395 (c:=Q115.c2 N) aA.n fun R vs H k r h=>by unfold Q115.c2 at h;dsimp only at h;split at h;exact⟨_,Q115.l2_eq .. ▸h⟩;cases h
theorem Q115.spec (N:Nat)(a c:W6)(r:Int)(h:Q115.f N a c=some r):dA Tryz.prog 38 [.il .i64 1 a,.il .i64 1 c] [] (.c (.int .i64 r)) ([]):=qA (Q115.env N) bA Tryz.func38 (aA.of (l:=[(.loop (mA ((cA (bo Tryz.f38)).getD 0 .skip)))]) (by kernel_rfl) (aA.cons (Q115.k2 N) aA.nil)) ((Q115.f_eq ..).trans h) fun v b e=>by unfold Q115.dec at e;split at e<;>cases e;exact⟨rfl,rfl⟩
theorem Q115.ent_ok (N:Nat):pA Tryz.prog 38 (Q115.ent N):=xA fun v a e h=>by split at h;exact gC (Q:=fun e=>dA _ _ _ _ (e a).pick.1 (e a).pick.2) h fun k=>Q115.spec N _ _ a k;cases h
noncomputable def Q116.f (N:Nat)(a:W6)(d:Int)(b:W6)(e:Int):Option (Int):=
 (Q115.f N a b).bind fun c=>
 some c
noncomputable def Q116.E (N:Nat):aC:=mD [(43,nJ),(64,Ee)] [(38,Q115.ent N)] [] [] N [.tmp 4] [.any] 0 10
noncomputable def Q116.dec (v:V)(bs:List oA):Option (Int):=match v,bs with
 | .c (.int .i64 a),[]=>some a
 |_,_=>none
theorem Q116.f_eq (N:Nat)(a:W6)(b:Int)(c:W6)(d:Int):
  uA (Q116.E N) (bo Tryz.f37) [.agg [.il .i64 1 a,.c (.int .i64 b)],.agg [.il .i64 1 c,.c (.int .i64 d)]] [] Q116.dec=Q116.f N a b c d:=by kernel_rfl
theorem Q116.env (N:Nat):sA Tryz.prog (Q116.E N):=⟨(.cons cD (.cons fh .nil)),(.cons (Q115.ent_ok N) .nil),fun h=>aE (show false=true from h)⟩
theorem Q116.spec (N:Nat)(a:W6)(c:Int)(d:W6)(f r:Int)(h:Q116.f N a c d f=some r):dA Tryz.prog 37 [.agg [.il .i64 1 a,.c (.int .i64 c)],.agg [.il .i64 1 d,.c (.int .i64 f)]] [] (.c (.int .i64 r)) ([]):=qA (Q116.env N) bA Tryz.func37 aA.n ((Q116.f_eq ..).trans h) fun v b e=>by unfold Q116.dec at e;split at e<;>cases e;exact⟨rfl,rfl⟩
noncomputable def Q117.f (N:Nat)(a:W5)(b:Int):Option (W5×Int):=
 some (a,b)
noncomputable def Q117.E (N:Nat):aC:=mD [(2,iW),(22,eL)] [] [] [] N [.tmp 4] [.fnc [.box [.inl .i64 1],.box [.any]]] 0 6 true
noncomputable def Q117.dec (v:V)(bs:List oA):Option (W5×Int):=match v,bs with
 | .fn 49 [] [.ptr 0 0 1,.ptr 1 0 1],[.vals [.inl .i64 1 a],.vals [.c (.int .i64 b)]]=>some (a,b)
 |_,_=>none
theorem Q117.f_eq (N:Nat)(a:W5)(b:Int):
  uA (Q117.E N) (bo Tryz.f34) [.inl .i64 1 a,.c (.int .i64 b)] [] Q117.dec=Q117.f N a b:=by kernel_rfl
noncomputable def Q117.ent (N:Nat):rA:=tF (W5×Int) 2 [true,true] [.inl .i64 1,.any] fun
 | [.inl .i64 1 a,.c (.int .i64 b)]=>some (Q117.f N a b,fun r=>.one (.fn 49 [] [.ptr 0 0 1,.ptr 1 0 1]) [.vals [.inl .i64 1 r.1],.vals [.c (.int .i64 r.2)]])
 |_=>none
theorem Q117.env (N:Nat):sA Tryz.prog (Q117.E N):=⟨(.cons sE (.cons yD .nil)),.nil,fun h=>aE (show false=true from h)⟩
theorem Q117.spec (N:Nat)(a:W5)(c:Int)(r:W5×Int)(h:Q117.f N a c=some r):dA Tryz.prog 34 [.inl .i64 1 a,.c (.int .i64 c)] [] (.fn 49 [] [.ptr 0 0 1,.ptr 1 0 1]) ([.vals [.inl .i64 1 r.1],.vals [.c (.int .i64 r.2)]]):=qA (Q117.env N) bA Tryz.func34 aA.n ((Q117.f_eq ..).trans h) fun v b e=>by unfold Q117.dec at e;split at e<;>cases e;exact⟨rfl,rfl⟩
theorem Q117.ent_ok (N:Nat):pA Tryz.prog 34 (Q117.ent N):=xA fun v a e h=>by split at h;exact gC (Q:=fun e=>dA _ _ _ _ (e a).pick.1 (e a).pick.2) h fun k=>Q117.spec N _ _ a k;cases h
open Go.Proofs.YtijigofaaefldaaGreat.Ev Go.Shelf
def vl:Go.Shelf.Ren:=⟨fun|6=>36|15=>65|14=>64|28=>96|29=>97|20=>88|21=>89|22=>90|23=>91|24=>92|25=>93|26=>94|27=>95|46=>110|47=>111|48=>112|49=>113|50=>114|57=>125|n=>n,fun|22=>60|24=>64|25=>85|3=>3|39=>78|0=>0|53=>56|55=>68|4=>4|46=>138|45=>137|50=>142|5=>5|9=>9|66=>160|70=>164|76=>173|77=>89|n=>n,fun|n=>n⟩
theorem I9:Go.Proofs.SlLaysF0.n6 Tryz.prog vl:={
 mixed:=by kernel_rfl
 f6:=⟨Tryz.f36.name,by decide,Tryz.func36.trans (congrArg some (by kernel_rfl))⟩
 f14:=⟨Tryz.f64.name,by decide,Tryz.func64.trans (congrArg some (by kernel_rfl))⟩
 f15:=Tryz.func65.trans (congrArg some (by kernel_rfl))
 f20:=⟨Tryz.f88.name,by decide,Tryz.func88.trans (congrArg some (by kernel_rfl))⟩
 f21:=⟨Tryz.f89.name,by decide,Tryz.func89.trans (congrArg some (by kernel_rfl))⟩
 f22:=⟨Tryz.f90.name,by decide,Tryz.func90.trans (congrArg some (by kernel_rfl))⟩
 f23:=⟨Tryz.f91.name,by decide,Tryz.func91.trans (congrArg some (by kernel_rfl))⟩
 f24:=⟨Tryz.f92.name,by decide,Tryz.func92.trans (congrArg some (by kernel_rfl))⟩
 f25:=⟨Tryz.f93.name,by decide,Tryz.func93.trans (congrArg some (by kernel_rfl))⟩
 f26:=⟨Tryz.f94.name,by decide,Tryz.func94.trans (congrArg some (by kernel_rfl))⟩
 f27:=⟨Tryz.f95.name,by decide,Tryz.func95.trans (congrArg some (by kernel_rfl))⟩
 f28:=Tryz.func96.trans (congrArg some (by kernel_rfl))
 f29:=Tryz.func97.trans (congrArg some (by kernel_rfl))
 f46:=⟨Tryz.f110.name,by decide,Tryz.func110.trans (congrArg some (by kernel_rfl))⟩
 f47:=Tryz.func111.trans (congrArg some (by kernel_rfl))
 f48:=Tryz.func112.trans (congrArg some (by kernel_rfl))
 f49:=⟨Tryz.f113.name,by decide,Tryz.func113.trans (congrArg some (by kernel_rfl))⟩
 f50:=⟨Tryz.f114.name,by decide,Tryz.func114.trans (congrArg some (by kernel_rfl))⟩
 f57:=⟨Tryz.f125.name,by decide,Tryz.func125.trans (congrArg some (by kernel_rfl))⟩
 t0:=Tryz.underlying0
 a0:=Tryz.isAgg0
 z0:=Tryz.sizeOf0
 v0:=Tryz.zeroValue0
 t3:=Tryz.underlying3
 a3:=Tryz.isAgg3
 z3:=Tryz.sizeOf3
 v3:=Tryz.zeroValue3
 t4:=Tryz.underlying4
 a4:=Tryz.isAgg4
 z4:=Tryz.sizeOf4
 v4:=Tryz.zeroValue4
 t5:=Tryz.underlying5
 a5:=Tryz.isAgg5
 z5:=Tryz.sizeOf5
 v5:=Tryz.zeroValue5
 t9:=Tryz.underlying9
 a9:=Tryz.isAgg9
 z9:=Tryz.sizeOf9
 v9:=Tryz.zeroValue9
 t22:=Tryz.underlying60
 a22:=Tryz.isAgg60
 z22:=Tryz.sizeOf60
 v22:=Tryz.zeroValue60
 t25:=Tryz.underlying85
 a25:=Tryz.isAgg85
 z25:=Tryz.sizeOf85
 v25:=Tryz.zeroValue85
 t39:=Tryz.underlying78
 a39:=Tryz.isAgg78
 z39:=Tryz.sizeOf78
 v39:=Tryz.zeroValue78
 t45:=Tryz.underlying137
 a45:=Tryz.isAgg137
 z45:=Tryz.sizeOf137
 v45:=Tryz.zeroValue137
 t46:=Tryz.underlying138
 a46:=Tryz.isAgg138
 z46:=Tryz.sizeOf138
 v46:=Tryz.zeroValue138
 t50:=Tryz.underlying142
 a50:=Tryz.isAgg142
 z50:=Tryz.sizeOf142
 v50:=Tryz.zeroValue142
 t53:=Tryz.underlying56
 a53:=Tryz.isAgg56
 z53:=Tryz.sizeOf56
 v53:=Tryz.zeroValue56
 t55:=Tryz.underlying68
 a55:=Tryz.isAgg68
 z55:=Tryz.sizeOf68
 v55:=Tryz.zeroValue68
 t66:=Tryz.underlying160
 a66:=Tryz.isAgg160
 z66:=Tryz.sizeOf160
 v66:=Tryz.zeroValue160
 t70:=Tryz.underlying164
 a70:=Tryz.isAgg164
 z70:=Tryz.sizeOf164
 v70:=Tryz.zeroValue164
 t76:=Tryz.underlying173
 a76:=Tryz.isAgg173
 z76:=Tryz.sizeOf173
 v76:=Tryz.zeroValue173
 t77:=Tryz.underlying89
 a77:=Tryz.isAgg89
 z77:=Tryz.sizeOf89
 v77:=Tryz.zeroValue89}
theorem iZ {x:Int}(h0:0≤x)(h1:x<9223372036854775808):fA x=x:=by
 simp only[fA,IntKind.wrap];simp[IntKind.bits,IntKind.signed];omega
def nB:W6→Bool
 | []=>false
 |v::r=>bif v != 0 then decide (v>0)else nB r
theorem mz (N:Nat)(x:W6)(h:x.length<N)(h2:x.length<1000000):Q56.f N x=some (nB x):=by
 have key:∀(n i:Nat),i≤x.length→x.length-i<n→
   Q56.l2 N n x (x.length:Int) (i:Int) (fun(_:Unit)=>some false) (fun y=>some y)=some (nB (x.drop i)):=by
  intro n;induction n with
  |zero=>intro i _ h;omega
  |succ n ih=>
   intro i hi hn;unfold Q56.l2;by_cases hlt:i<x.length
   ·have e1:decide ((i:Int)<(x.length:Int))=true:=by simpa using hlt
    have e2:decide (0≤(i:Int))=true:=by simp
    have e3:x.drop i=x[i]::x.drop (i+1):=yK hlt;have e4:x.getD (i:Int).toNat 0=x[i]:=by simp[hT,hlt]
    have e5:fA ((i:Int)+1)=((i+1:Nat):Int):=iZ (by omega) (by omega);rw[e1,e2,e3,e4,e5];simp only[cond_true,nB,o0];cases hc:x[i] != 0
    ·simp only[cond_false];exact ih (i+1) (by omega) (by omega)
    ·rfl
   ·have e1:decide ((i:Int)<(x.length:Int))=false:=by simpa using hlt
    rw[e1,hQ (by omega)];rfl
 have:=key N 0 (by omega) (by omega);simpa[Q56.f]using this
theorem sZ (N:Nat)(a b:Int):Q114.f N a b=some (if a<b then-1 else if b<a then 1 else 0):=by
 unfold Q114.f Q113.f;by_cases h1:a<b<;>by_cases h2:b<a<;>simp[h1,h2]
theorem bt (N:Nat)(x y:W6)(h:x.length<N)(h2:x.length<1000000):Q115.f N x y=some (xF x y):=by
 have key:∀(n i:Nat),i≤x.length→x.length-i<n→i≤y.length→
   Q115.l2 N n x y x (x.length:Int) (i:Int) (fun y12 y13=>bif decide ((y12.length:Int)<(y13.length:Int))then some (-1)else some 0) (fun y=>some y)=some (xF (x.drop i) (y.drop i)):=by
  intro n;induction n with
  |zero=>intro i _ h;omega
  |succ n ih=>
   intro i hi hn hy;unfold Q115.l2;by_cases hlt:i<x.length
   ·have e1:decide ((i:Int)<(x.length:Int))=true:=by simpa using hlt
    have e2:decide (0≤(i:Int))=true:=by simp
    have e3:x.drop i=x[i]::x.drop (i+1):=yK hlt;have e4:x.getD (i:Int).toNat 0=x[i]:=by simp[hT,hlt]
    have e5:fA ((i:Int)+1)=((i+1:Nat):Int):=iZ (by omega) (by omega);rw[e1,e2,e3,e4,e5];simp only[cond_true,o0];by_cases hly:i<y.length
    ·have f1:decide ((i:Int)≥(y.length:Int))=false:=by simp;omega
     have f2:decide ((i:Int)<(y.length:Int))=true:=by simpa using hly
     have f3:y.drop i=y[i]::y.drop (i+1):=yK hly;have f4:y.getD (i:Int).toNat 0=y[i]:=by simp[hT,hly]
     rw[f1,f2,f3,f4,sZ];simp only[cond_true,cond_false,hX,xF,o0];by_cases g1:x[i]<y[i]
     ·simp[g1]
     ·by_cases g2:y[i]<x[i]
      ·simp[g1,g2]
      ·simp only[g1,g2,if_false,bne_self_eq_false,cond_false];exact ih (i+1) (by omega) (by omega) (by omega)
    ·have f1:decide ((i:Int)≥(y.length:Int))=true:=by simp;omega
     rw[f1,hQ (by omega:y.length≤i)];rfl
   ·have e1:decide ((i:Int)<(x.length:Int))=false:=by simpa using hlt
    rw[e1,hQ (by omega:x.length≤i)];simp only[cond_false];by_cases hly:i<y.length
    ·have f1:decide ((x.length:Int)<(y.length:Int))=true:=by simp;omega
     rw[f1,yK hly];rfl
    ·have f1:decide ((x.length:Int)<(y.length:Int))=false:=by simp;omega
     rw[f1,hQ (by omega:y.length≤i)];rfl
 have:=key N 0 (by omega) (by omega) (by omega);simpa[Q115.f]using this
theorem ya (N:Nat)(x y:W6×Int)(h:x.1.length<N)(h2:x.1.length<1000000):Q116.f N x.1 x.2 y.1 y.2=some (xF x.1 y.1):=by
 unfold Q116.f;rw[bt N _ _ h h2];rfl
def ei (l:W4):Bool:=decide ((l.map (·.1)).Nodup)&&(decide (l.length<4611686018427387904)&&l.all fun x=>decide (x.1.length<1000))
noncomputable def kF.f (N:Nat)(l:W4):Option W4:=bif ei l then some (xL l)else none
noncomputable def kF.ent (N:Nat):rA:={A:=W4,fresh:=0,imm:=[false,false],dec:=fun args bs=>match args,bs with
 | [.sw 0 2,.fn 37 [] []],[.tw .sh l]=>some (kF.f N l,fun r=>.one (.c (.tuple #[])) [.tw .sh r])
 |_,_=>none}
noncomputable def Q118.w (N:Nat)(a:W5)(n:Int):Option W4:=
 open Classical in if h:∃L:W4,(∀A:vF,A.cap=8192→Q112.f N A [] a n=some (A,L,a,n))∧(L.filter fun x=>nB x.1)≠ []∧1000<N then some (h.choose.filter fun x=>nB x.1)else none
theorem lh {N:Nat}{a:W5}{n:Int}{L':W4}(h:Q118.w N a n=some L'):
  ∃L:W4,(∀A:vF,A.cap=8192→Q112.f N A [] a n=some (A,L,a,n))∧L'=(L.filter fun x=>nB x.1)∧L'≠ []∧1000<N:=by
 unfold Q118.w at h;split at h
 ·rename_i hx;obtain rfl:=hC h;exact⟨_,hx.choose_spec.1,rfl,hx.choose_spec.2.1,hx.choose_spec.2.2⟩
 ·cases h
theorem kF.ent_ok (N:Nat):pA Tryz.prog 36 (kF.ent N):=by
 intro args bs a enc h;simp only[kF.ent]at h;split at h
 ·rename_i l;have h0:=hC h;have h1:=congrArg Prod.fst h0;have h2:=congrArg Prod.snd h0;dsimp only at h1 h2;subst h2;unfold kF.f at h1;obtain⟨hl,h1⟩:=eA h1;obtain rfl:=hC h1;unfold ei at hl;simp only[Bool.and_eq_true,decide_eq_true_eq,List.all_eq_true]at hl;obtain⟨k1,k2,k3⟩:=hl;exact kc I9 Tryz.isAgg64 Tryz.sizeOf64 ⟨_,Tryz.func36,by kernel_rfl,by kernel_rfl⟩ (enters_of Tryz.func37 (by kernel_rfl) rfl) l
   (fun x hx y hy=>Q116.spec 1000000 _ _ _ _ _ (ya 1000000 x y (by have:=k3 x hx;omega) (by have:=k3 x hx;omega))) k1 k2
 ·cases h
noncomputable def Ig:TI:=⟨.int .i64,1,8,[.int .i64 0]⟩
noncomputable def Ed:TI:=⟨.slice 64,1,24,[.slice none 0 0]⟩
theorem Ea:cC Tryz.prog 27 Ig:=eC (by kernel_rfl) (by kernel_rfl) (by kernel_rfl) (by kernel_rfl) (by kernel_rfl) (by kernel_rfl) (by kernel_rfl) (Tryz.underlying27) (by kernel_rfl)
theorem fg:cC Tryz.prog 60 Ed:=eC (by kernel_rfl) (by kernel_rfl) (by kernel_rfl) (by kernel_rfl) (by kernel_rfl) (by kernel_rfl) (by kernel_rfl) (Tryz.underlying60) (by kernel_rfl)
noncomputable def Q118.f (N:Nat)(a1:W5)(a2:Int):Option (W4×Int):=
 (Q69.f N a1).bind fun r3=>
 bif r3 != 0 then none else
 bif decide (a2<0)then none else
 bif decide (a2>4096)then none else
 (Q117.f N a1 a2).bind fun r4=>
 (Q118.w N r4.1 r4.2).bind fun r8=>
 (kF.f N r8).bind fun r9=>
 some (r9,0)
noncomputable def Q118.body:Code:=(Tryz.f20.body).getD .skip
noncomputable def Q118.ty:List (Nat×TI):=[(27,Ig),(60,Ed)]
noncomputable def Q118.h2000008:uB:=⟨[(4,.box [.any]),(5,.box [.any]),(7,.box [.any]),(23,.fnc [.box [.any],.box [.any]])],[(4,.any),(5,.any),(7,.any)]⟩
noncomputable def Q118.c2000008 (N:Nat):mF:=⟨fun vs H k=>match vs,H with
 | [.ptr 0 0 1,.ptr 1 0 1,.ptr 2 0 1,.fn 49 [] [.ptr 3 0 1,.ptr 4 0 1]],[.vals [.c (.slice none 0 0)],.vals [.c (.int .i64 x5)],.vals [.c (.slice none 0 0)],.vals [.inl .i64 1 x6],.vals [.c (.int .i64 x7)]]=>(Q118.w N x6 x7).bind fun r10=>k .normal ⟨tB Q118.h2000008.out [.ptr 0 0 1,.ptr 1 0 1,.ptr 2 0 1],[.vals [.c (.slice none 0 0)],.vals [.c (.int .i64 x5)],.vals [.sw 3 2],.tw .sh r10]⟩
 |_,_=>none⟩
noncomputable def Q118.E (N:Nat):aC:={ty:=bF Q118.ty,tab:=bF [(11,Q69.ent N),(34,Q117.ent N),(36,kF.ent N)],hint:=bF [(2000008,Q118.h2000008)],cut:=bF [(2000008,Q118.c2000008 N)],N:=N,res:=[.cell 4 60,.cell 5 27],rsh:=[.any,.any],nb:=0,ntmps:=41,own:=true,mark:=true}
noncomputable def Q118.dec (v:V)(bs:List oA):Option (W4×Int):=match v,bs with
 | .tup [.sw 0 2,.c (.int .i64 z1)],[.tw .sh z0]=>some (z0,z1)
 |_,_=>none
noncomputable def Q118.ent (N:Nat):rA:={A:=W4×Int,fresh:=1,imm:=[true,true],dec:=fun args bs=>match mH 0 (fun _=>.dead) [.inl .i64 1,.any] args,bs with
 |some [.inl .i64 1 a1,.c (.int .i64 a2)],[]=>some (Q118.f N a1 a2,fun r=>.one (.tup [.sw 0 2,.c (.int .i64 r.2)]) [.tw .sh r.1])
 |_,_=>none}
theorem Q118.env (N:Nat):sA Tryz.prog (Q118.E N):=⟨(eD.cons Ea (eD.cons fg eD.nil)),(aF.cons (Q69.ent_ok N) (aF.cons (Q117.ent_ok N) (aF.cons (kF.ent_ok N) aF.nil))),fun h=>aE (show false=true from h)⟩
theorem Q118.res_eq (N:Nat):(Q118.E N).res=Tryz.f20.results.toList:=by kernel_rfl
def I5:Code→Code
 | .rangeFunc _ _ a _=>a
 |c=>c
def Gt:Code→Code
 | .rangeFunc _ _ _ b=>b
 |c=>c
noncomputable def nR:Code:=(cA Q118.body).getD 0 .skip
noncomputable def vM:Code:=I5 nR
noncomputable def uI:Code:=Gt nR
theorem lp:nR= .rangeFunc (.tmp 23) #[24,25] vM uI:=by kernel_rfl
theorem mT:rF uI=true:=by kernel_rfl
theorem jV:rF vM=true:=by kernel_rfl
noncomputable def EB (N nb:Nat):aC:={ty:=bF [(2,iW),(3,Fm),(43,nJ),(60,Ed),(64,Ee)],tab:=bF [(35,Q56.ent N)],hint:=bF [],cut:=bF [],N:=N,res:=[.cell 4 60],rsh:=[],nb:=nb,ntmps:=41,own:=false}
theorem Et (N nb:Nat):sA Tryz.prog (EB N nb):=⟨(eD.cons sE (eD.cons iR (eD.cons cD (eD.cons fg (eD.cons fh eD.nil))))),(aF.cons (Q56.ent_ok N) aF.nil),fun h=>aE (show false=true from h)⟩
noncomputable def kB (ex:Ex)(s:St):Option (Option (Nat×List V)):=match ex with
 | .normal=>(match jA s.H 0 with
  | .vals [.sw j 2]=>(match jA s.H j with| .vals cs=>some (some (j,cs))|_=>none)
  | .vals [.c (.slice none 0 0)]=>some none
  |_=>none)
 |_=>none
def T0 (x:W6)(m:Int):List (Nat×V):=[(7,.ptr 0 0 1),(8,.il .i64 1 x),(9,.c (.int .i64 m))]
set_option maxRecDepth 100000 in
theorem Cy (N:Nat)(x:W6)(m:Int)(L:List V):
  tA (EB N 2) 300 uI ⟨T0 x m,[.vals [.sw 1 2],.vals L]⟩ kB=
   (Q56.f N x).bind fun r=>bif !r then some (some (1,L))else bif (((L.length/2:Nat):Int)==8192)then none else
    bif lB ((L.length+2)/2) 32 then some (some (3,L++[.il .i64 1 x,.c (.int .i64 m)]))else none:=by kernel_rfl
set_option maxRecDepth 100000 in
theorem xq (N:Nat)(x:W6)(m:Int):
  tA (EB N 1) 300 uI ⟨T0 x m,[.vals [.c (.slice none 0 0)]]⟩ kB=
   (Q56.f N x).bind fun r=>bif !r then some none else some (some (2,[.il .i64 1 x,.c (.int .i64 m)])):=by kernel_rfl
theorem od {N:Nat}{F Lv:Nat→Prop}{B:Nat}{kept:W4}{W:World}(hk:eO F B kept W Lv){x:W6}{m:Int}{u:Value}(hx:iG (fun b=>F b∨Lv b) W .i64 1 x u)
  (hlen:kept.length<8192)(hxN:x.length<N)(hxl:x.length<1000000){a:Act}(ha:a.tmps.size=41)(hd:a.defers=[])(h7:a.eval (.tmp 7)= .pointer (some ⟨B,0,none⟩))(h8:a.eval (.tmp 8)=u)(h9:a.eval (.tmp 9)= .int .i64 m){n:Nat}{ro:Option Nat}:
  uI.wpIn (wr ro) n Tryz.prog (fun e a' W'=>e= .normal∧eO F B (kept++bif nB x then [(x,m)]else []) W' (fun b=>Lv b∨W.heap.size≤b)∧W.heap.size≤W'.heap.size∧
   (∀b,b<W.heap.size→¬Lv b→W'.heap[b]?=W.heap[b]?)∧nF W W') a W:=by
 obtain⟨ρ,H,hh,hno,⟨n0,C0,R0,hp0⟩,hcase,hLv⟩:=hk;have hx':nA ρ (av F (gA ρ (jA H))) W (.il .i64 1 x) u:=(hx.avoid (fun b hb=>hb.imp (fun h=>h) (hLv b))).rel;have hn0:1≤n0:=by
  have hl0:(jA H 0).live:=by rcases hcase with⟨_,rfl⟩|⟨_,rfl⟩<;>trivial
  obtain⟨p,hp,hb⟩:=hh.rel 0 hl0;rw[hp0]at hp;cases hp;rcases hcase with⟨_,rfl⟩|⟨_,rfl⟩
  ·obtain⟨h1,_⟩:=hb;simp at h1;omega
  ·obtain⟨h1,_⟩:=hb;simp at h1;omega
 have hrep:∀nb,nW (EB N nb) F ρ (YtijigofaaefldaaGreat.Ev.cE (T0 x m)) (jA H) a W:=fun nb=>by
  refine⟨hh,fun t=>?_,ha,.inl hd⟩;simp only[T0,YtijigofaaefldaaGreat.Ev.cE];by_cases t7:t=7
  ·subst t7;show nA _ _ _ (.ptr 0 0 1) _;rw[h7];simp only[nA];exact⟨B,n0,C0,R0,hp0,by omega,rfl⟩
  by_cases t8:t=8
  ·subst t8;show nA _ _ _ (.il .i64 1 x) _;rw[h8];exact hx'
  by_cases t9:t=9
  ·subst t9;show nA _ _ _ (.c (.int .i64 m)) _;rw[h9];exact nA.of_c _
  have e:∀k,t≠k→Nat.beq k t=false:=fun k hk=>by
   cases hb:Nat.beq k t with
   |false=>rfl
   |true=>exact absurd (hY hb).symm hk
  rw[e 7 t7,e 8 t8,e 9 t9];simp only[cond_false,nA]
 have wV:∀nb,nb≤H.length→1≤nb→∀r:Option (Nat×List V),tA (EB N nb) 300 uI ⟨T0 x m,H⟩ kB=some r→nb=H.length→
   uI.wpIn (wr ro) n Tryz.prog (fun e a' W'=>e= .normal∧(∀kept',(r=none∧kept'=[]∨∃j,r=some (j,RK.sh.flat kept')∧kept'≠ [])→eO F B kept' W' (fun b=>Lv b∨W.heap.size≤b))∧W.heap.size≤W'.heap.size∧
    (∀b,b<W.heap.size→¬Lv b→W'.heap[b]?=W.heap[b]?)∧nF W W') a W:=by
  intro nb hnb hnb1 r hr hnbl;refine wpIn_mono (oU (Et N nb) 300 uI _ _ _ mT hr ⟨F,ρ,H,W⟩ a W hnbl ⟨ρ,hrep nb,hno,.refl _ _,hnb,nG.refl _ _⟩) ?_;rintro e a' W' ⟨ex,s',hk,hi⟩;unfold kB at hk;cases ex with
  |exit i=>cases hk
  |goto l=>cases hk
  |ret v bs=>cases hk
  |normal=>
   obtain⟨rfl,ρ',q1,q2,q3,q4,q5⟩:=hi;dsimp only at hk;obtain⟨p',hp',hle⟩:=(q3 0 (by show 0<nb;omega)).1 _ hp0;obtain⟨pb,pn,pC,pR⟩:=p';have e1:pb=some B:=hle.1;have e2:pn=n0:=hle.2.1;have e3:pC=C0:=hle.2.2.1;subst e1;subst e2;subst e3;have hLv':∀b,gA ρ' (jA s'.H) b→Lv b∨W.heap.size≤b:=fun b hb=>(q5.sub b hb).imp (hLv b) (fun h=>h);refine⟨rfl,?_,q5.size,fun b hb hl=>q5.same b hb (fun hm=>hl (hLv b hm)),q5.keeps⟩;rintro kept' hkept;have up:∀{K},eO F B K W' (gA ρ' (jA s'.H))→eO F B K W' (fun b=>Lv b∨W.heap.size≤b):=fun hK=>
    hK.move (fun _ _ _=>rfl) (hG _) (fun b hb=>.inl hb) (fun b hb=>q1.heap.low b hb) (fun b _ hb=>hLv' b hb)
   split at hk
   ·rename_i j hb0;split at hk
    ·rename_i cs hbj;obtain rfl:=hC hk;rcases hkept with⟨hkept,_⟩|⟨j',hkept,hne⟩
     ·cases hkept
     ·simp only[Option.some.injEq,Prod.mk.injEq]at hkept;obtain⟨rfl,rfl⟩:=hkept;exact up (eO.of q1.heap hp' hne hb0 hbj)
    ·cases hk
   ·rename_i hb0;obtain rfl:=hC hk;rcases hkept with⟨_,rfl⟩|⟨j',hkept,hne⟩
    ·exact up (eO.of_nil q1.heap hp' hb0)
    ·cases hkept
   ·cases hk
 have hf:=mz N x hxN hxl;rcases hcase with⟨rfl,rfl⟩|⟨hne,rfl⟩
 ·have hev:=xq N x m;rw[hf]at hev;simp only[hX]at hev;cases hb:nB x<;>rw[hb]at hev<;>simp only[Bool.not_false,Bool.not_true,cond_true,cond_false]at hev⊢
  ·refine wpIn_mono (wV 1 (by simp) (by omega) _ hev rfl) ?_;rintro e a' W' ⟨h1,h2,h3⟩;exact⟨h1,h2 _ (.inl ⟨rfl,rfl⟩),h3⟩
  ·refine wpIn_mono (wV 1 (by simp) (by omega) _ hev rfl) ?_;rintro e a' W' ⟨h1,h2,h3⟩;exact⟨h1,h2 _ (.inr ⟨2,rfl,by simp⟩),h3⟩
 ·have hev:=Cy N x m (RK.sh.flat kept);rw[hf]at hev;have hfl:(RK.sh.flat kept).length=kept.length*2:=RK.flat_len _ _;simp only[hX]at hev;cases hb:nB x<;>rw[hb]at hev<;>simp only[Bool.not_false,Bool.not_true,cond_true,cond_false]at hev⊢
  ·refine wpIn_mono (wV 2 (by simp) (by omega) _ hev rfl) ?_;rintro e a' W' ⟨h1,h2,h3⟩;exact⟨h1,h2 _ (.inr ⟨1,by simp,by simpa using hne⟩),h3⟩
  ·have e1:((((RK.sh.flat kept).length/2:Nat):Int)==8192)=false:=by
    rw[hfl];simp;omega
   have e2:lB (((RK.sh.flat kept).length+2)/2) 32=true:=by rw[hfl];unfold lB;simp;omega
   rw[e1,e2]at hev;simp only[cond_true,cond_false]at hev;refine wpIn_mono (wV 2 (by simp) (by omega) _ hev rfl) ?_;rintro e a' W' ⟨h1,h2,h3⟩;exact⟨h1,h2 _ (.inr ⟨3,by rw[RK.flat_append];rfl,by simp⟩),h3⟩
noncomputable def kA (ex:Ex)(s:St):Option (V×V×V):=match ex with
 | .normal=>some (YtijigofaaefldaaGreat.Ev.cE s.T 7,YtijigofaaefldaaGreat.Ev.cE s.T 8,YtijigofaaefldaaGreat.Ev.cE s.T 9)
 |_=>none
set_option maxRecDepth 100000 in
theorem G1 (N:Nat)(p u i:Value):
  tA (EB N 0) 300 vM ⟨[(7,.c p),(24,.c u),(25,.c i)],[]⟩ kA=some (.c p,.c u,.c i):=by kernel_rfl
theorem tf (W:World):lA (fun _=>False) (fun _=>none) (jA []) W:=
 ⟨fun _ _ hx=>(by cases hx),fun id hl=>(by simp[jA,oA.live]at hl),fun i j b p p' hi=>(by cases hi),fun _ hb=>hb.elim,fun _ _ hb=>hb.elim⟩
theorem vh (N:Nat){p u i:Value}{a:Act}{W:World}(ha:a.tmps.size=41)(hd:a.defers=[])(h7:a.eval (.tmp 7)=p)(h24:a.eval (.tmp 24)=u)(h25:a.eval (.tmp 25)=i){n:Nat}{ro:Option Nat}:
  vM.wpIn (wr ro) n Tryz.prog (fun e a' W'=>e= .normal∧a'.tmps.size=41∧a'.defers=[]∧a'.eval (.tmp 7)=p∧a'.eval (.tmp 8)=u∧a'.eval (.tmp 9)=i∧W.heap.size≤W'.heap.size∧(∀b,b<W.heap.size→W'.heap[b]?=W.heap[b]?)∧nF W W') a W:=by
 have hI:mW (EB N 0) ⟨fun _=>False,fun _=>none,[],W⟩ ⟨[(7,.c p),(24,.c u),(25,.c i)],[]⟩ a W:=by
  refine⟨fun _=>none,⟨tf W,fun t=>?_,ha,.inl hd⟩,fun _ _=>rfl,.refl _ _,hG _,nG.refl _ _⟩;simp only[YtijigofaaefldaaGreat.Ev.cE];by_cases t7:t=7
  ·subst t7;show nA _ _ _ (.c p) _;rw[h7];exact nA.of_c _
  by_cases t24:t=24
  ·subst t24;show nA _ _ _ (.c u) _;rw[h24];exact nA.of_c _
  by_cases t25:t=25
  ·subst t25;show nA _ _ _ (.c i) _;rw[h25];exact nA.of_c _
  have e:∀k,t≠k→Nat.beq k t=false:=fun k hk=>by
   cases hb:Nat.beq k t with
   |false=>rfl
   |true=>exact absurd (hY hb).symm hk
  rw[e 7 t7,e 24 t24,e 25 t25];simp only[cond_false,nA]
 refine wpIn_mono (oU (Et N 0) 300 vM _ _ _ jV (G1 N p u i) _ a W rfl hI) ?_;rintro e a' W' ⟨ex,s',hk,hi⟩;unfold kA at hk;cases ex with
 |exit i=>cases hk
 |goto l=>cases hk
 |ret v bs=>cases hk
 |normal=>obtain⟨rfl,ρ',q1,q2,q3,q4,q5⟩:=hi;simp only[Option.some.injEq,Prod.mk.injEq]at hk;obtain⟨k1,k2,k3⟩:=hk;have t7:=q1.tmps 7;have t8:=q1.tmps 8;have t9:=q1.tmps 9;rw[k1]at t7;rw[k2]at t8;rw[k3]at t9;exact⟨rfl,q1.size,q1.defers.none rfl,t7.c,t8.c,t9.c,q5.size,fun b hb=>q5.same b hb (fun⟨_,_,h,_⟩=>by cases h),q5.keeps⟩
def Fz (l D B:Nat)(rec:Loop)(S:W7)(pre:W4)(w:World):Prop:=
 l∈S∧D∈S∧l≠D∧w.heap[l]?=some (.loop rec)∧w.heap[D]?=some (.deferred (some []))∧
  eO (fun b=>(b∉S∨b=l∨b=D)∧b<w.heap.size) B (pre.filter fun x=>nB x.1) w (fun b=>b∈S∧b≠l∧b≠D)
theorem sf {N:Nat}(hN:1000<N){l D B:Nat}{rec:Loop}(hst:rec.state= .ready)(hpe:rec.pending=none)(hps:rec.params= #[24,25])(hasg:rec.assign=vM)(hbody:rec.body=uI)(hts:rec.tmps.size=41)
  (h7:rec.tmps[7]?=some (.pointer (some ⟨B,0,none⟩))):aq ⟨l,8192,Fz l D B rec⟩:=by
 refine⟨?_,?_⟩
 ·rintro S pre w w' ⟨j1,j2,j3,j4,j5,j6⟩ hsame hs;refine⟨j1,j2,j3,by rw[hsame l j1];exact j4,by rw[hsame D j2];exact j5,?_⟩;refine j6.move (fun b hb hf=>hsame b ?_) hs (fun b hb=>?_) (fun b hb=>hb.2) (fun b _ hb=>hb)
  ·exact Classical.byContradiction fun hx=>hf ⟨.inl hx,hb⟩
  ·by_cases h:b<w.heap.size
   ·exact .inl ⟨hb.1,h⟩
   ·exact .inr (by omega)
 ·rintro S pre w x m b cap ⟨j1,j2,j3,j4,j5,j6⟩ hcap hpos hsmall hb hbS hle hcells n;dsimp only at hcap⊢;have hllt:l<w.heap.size:=(zE.mp j4).1;have hDlt:D<w.heap.size:=(zE.mp j5).1;have hbl:b≠l:=fun e=>hbS (e▸j1);have hbD:b≠D:=fun e=>hbS (e▸j2);refine⟨rec.fn,_,rec.assign,rec.body,run_yield (P:=E8) j4 (by rw[hps];rfl),roundIn_of_wpIn trivial ?_⟩;rw[hasg,hbody,hps];have hA:=vh N (p:=.pointer (some ⟨B,0,none⟩)) (u:=.slice (some ⟨b,0,none⟩) x.length cap) (i:=.int .i64 m) (n:=n) (ro:=some l) (W:=w)
   (a:={tmps:=(Array.zip #[24,25] #[Value.slice (some ⟨b,0,none⟩) x.length cap,.int .i64 m]).foldl (fun t (p,v)=>t.setIfInBounds p v) rec.tmps,defers:=[]})
   (by simp[hts]) rfl (by
    have e7:7<rec.tmps.size:=by omega
    rw[hV e7]at h7;simp[Act.eval,xK,hR,e7,hC h7]) (by simp[Act.eval,xK,hR,hts]) (by simp[Act.eval,xK,hR,hts])
  refine wpIn_mono hA ?_;rintro e a₁ w₁ ⟨rfl,s1,s2,s3,s4,s5,s6,s7,s8⟩;have hl1:w₁.heap[l]?=some (.loop rec):=by rw[s7 l hllt];exact j4
  have hl1lt:l<w₁.heap.size:=by omega
  refine⟨_,run_beginRound hl1 hst,?_⟩;obtain⟨w₂,hw2⟩:∃w₂,w₁.putObj l (.loop {rec with state:=.busy})=w₂:=⟨_,rfl⟩
  rw[hw2];have z2:w₂.heap.size=w₁.heap.size:=by rw[←hw2];simp
  have same2:∀b',b'<w.heap.size→b'≠l→w₂.heap[b']?=w.heap[b']?:=fun b' h1 h2=>by rw[←hw2,World.putObj_heap_other h2];exact s7 b' h1
  have hl2:w₂.heap[l]?=some (.loop {rec with state:=.busy}):=by rw[←hw2];exact World.putObj_heap_same hl1lt
  have k2:nF w w₂:=s8.trans (by rw[←hw2];exact⟨rfl,rfl,rfl,hG _⟩);have hK:eO (fun b'=>(b'∉b::S∨b'=l∨b'=D)∧b'<w₂.heap.size) B (pre.filter fun x=>nB x.1) w₂ (fun b'=>b'∈S∧b'≠l∧b'≠D):=by
   refine j6.move (fun b' h1 hf=>?_) (by omega) (fun b' hf=>?_) (fun b' hf=>hf.2) (fun _ _ h=>h)
   ·refine same2 b' h1 (fun e=>hf ⟨.inr (.inl e),h1⟩)
   ·by_cases h:b'<w.heap.size
    ·refine .inl ⟨hf.1.imp (fun h1 h2=>h1 (List.mem_cons_of_mem _ h2)) (fun h=>h),h⟩
    ·exact .inr (by omega)
  have hx:iG (fun b'=>((b'∉b::S∨b'=l∨b'=D)∧b'<w₂.heap.size)∨(b'∈S∧b'≠l∧b'≠D)) w₂ .i64 1 x (.slice (some ⟨b,0,none⟩) x.length cap):=by
   refine⟨Nat.one_pos,Nat.mod_one _,.inr ⟨b,0,cap,by rw[Nat.div_one],by rw[Nat.div_one];exact hle,by omega,?_,fun j hj=>?_⟩⟩
   ·rintro(⟨h|h|h,_⟩|⟨h,_⟩)
    ·exact h (by simp)
    ·exact hbl h
    ·exact hbD h
    ·exact hbS h
   ·rw[Nat.zero_add,xC (w:=w) (same2 b hb hbl)];exact hcells j hj
  have hkl:(pre.filter fun x=>nB x.1).length<8192:=Nat.lt_of_le_of_lt (List.length_filter_le _ _) hcap;refine wpIn_mono (od (N:=N) hK hx hkl (by omega) (by omega) s1 s2 s3 s4 s5 (n:=n) (ro:=some l)) ?_;rintro e a₃ w₃ ⟨rfl,hK3,z3,same3,k3⟩;have hl3:w₃.heap[l]?=some (.loop {rec with state:=.busy}):=by rw[same3 l (by omega) (fun h=>h.2.1 rfl)];exact hl2
  have hl3lt:l<w₃.heap.size:=(zE.mp hl3).1;refine⟨_,_,run_endRound none hl3,?_⟩;have hrec:({{rec with state:=LoopState.busy} with state:=(if(none:Option Code).isNone then LoopState.ready else .done),pending:=none}:Loop)=rec:=by obtain⟨⟩:=rec;simp only at hst hpe;subst hst;subst hpe;rfl
  rw[hrec];obtain⟨w₄,hw4⟩:∃w₄,w₃.putObj l (.loop rec)=w₄:=⟨_,rfl⟩
  rw[hw4];have z4:w₄.heap.size=w₃.heap.size:=by rw[←hw4];simp
  have same4:∀b',b'≠l→w₄.heap[b']?=w₃.heap[b']?:=fun b' h=>by rw[←hw4];exact World.putObj_heap_other h
  have hl4:w₄.heap[l]?=some (.loop rec):=by rw[←hw4];exact World.putObj_heap_same hl3lt
  refine⟨rfl,List.range' w.heap.size (w₄.heap.size-w.heap.size),⟨by simp[j1],by simp[j2],j3,hl4,?_,?_⟩,?_,by omega,?_,?_⟩
  ·rw[same4 D (Ne.symm j3),same3 D (by omega) (fun h=>h.2.2 rfl),same2 D hDlt (Ne.symm j3)];exact j5
  ·have hf:(pre++[(x,m)]).filter (fun x=>nB x.1)=(pre.filter fun x=>nB x.1)++bif nB x then [(x,m)]else []:=by
    rw[List.filter_append];cases h:nB x<;>simp[h]
   rw[hf];refine hK3.move (fun b' h1 hf=>same4 b' (fun e=>hf ⟨.inr (.inl e),by omega⟩)) (by omega) (fun b' hf=>?_) (fun b' hf=>hf.2) (fun b' h1 hl=>?_)
   ·obtain⟨h1,h2⟩:=hf;left;by_cases h:b'<w.heap.size
    ·refine⟨h1.imp (fun h1 h3=>h1 ?_) (fun h=>h),by omega⟩;rcases hU.mp h3 with h3|h3
     ·simp[h3]
     ·simp[h3]
    ·rcases h1 with h1|h1|h1
     ·exfalso;apply h1;simp only[List.mem_append,hU,c0];exact .inr (.inr (by omega))
     ·omega
     ·omega
   ·rcases hl with⟨h2,h3,h4⟩|h2
    ·exact⟨by simp[h2],h3,h4⟩
    ·refine⟨?_,by omega,by omega⟩;simp only[List.mem_append,hU,c0];exact .inr (.inr (by omega))
  ·intro c hc;simp only[c0]at hc;omega
  ·intro c hc hcS;have hcl:c≠l:=fun e=>hcS (e▸j1);rw[same4 c hcl,same3 c (by omega) (fun h=>hcS h.1),same2 c hc hcl]
  ·exact(k2.trans k3).trans (by rw[←hw4];exact⟨rfl,rfl,rfl,hG _⟩)
theorem bW {ρ ρ':fC}{M M':Nat→Prop}{w:World}{p:Pl}{v:Value}(hb:wA ρ M w p (.vals [.c v])):wA ρ' M' w p (.vals [.c v]):=by
 obtain⟨h1,h2|⟨b,c,h2,h3,h4,h5⟩⟩:=hb
 ·exact⟨h1,.inl h2⟩
 ·refine⟨h1,.inr ⟨b,c,h2,h3,h4,?_⟩⟩;generalize c.toList.take p.n=us at h5⊢
  match us with
  | []=>simp[iA]at h5
  | [u]=>simpa[iA,nA]using h5
  |_::_::_=>simp[iA]at h5
theorem A0 {F:Nat→Prop}{ρ:fC}{M:Nat→Prop}{w:World}{B n C:Nat}{R:List gT}(hB:wA ρ M w ⟨some B,n,C,R⟩ (.vals [.c (.slice none 0 0)]))(hwf:n≤C)(hF:¬F B)(hlow:∀b,F b→b<w.heap.size):
  eO F B [] w (fun b=>b=B):=by
 let ρ':fC:=fun i=>if i=0 then some ⟨some B,n,C,R⟩else none
 let H':List oA:=[.vals [.c (.slice none 0 0)]]
 have hcase:∀i p b,ρ' i=some p→(jA H' i).has p b→i=0∧b=B:=by
  intro i p b hp hx
  match i with
  |0=>cases hp;exact⟨rfl,(hC hx).symm⟩
  |i+1=>cases hp
 have hM:∀b,gA ρ' (jA H') b→b=B:=by rintro b ⟨i,p,hp,hx⟩;exact(hcase i p b hp hx).2
 refine⟨ρ',H',⟨?_,?_,?_,hlow,fun b hb=>by rw[hM b hb];exact hF⟩,?_,⟨n,C,R,rfl⟩,.inl ⟨rfl,rfl⟩,hM⟩
 ·intro i p hp;simp only[ρ']at hp;split at hp
  ·cases hp;exact hwf
  ·cases hp
 ·intro i hl
  match i with
  |0=>exact⟨_,rfl,bW hB⟩
  |i+1=>exact hl.elim
 ·intro i i' b p p' hp hp' hx hx';obtain⟨rfl,_⟩:=hcase i p b hp hx;obtain⟨rfl,_⟩:=hcase i' p' b hp' hx';rfl
 ·intro i hi;simp only[H',List.length_cons,List.length_nil]at hi;have a1:i≠0:=by omega
  simp[ρ',a1]
theorem Cn (N lo:Nat):eB Tryz.prog Tryz.f20 {Q118.E N with lo:=lo} nR:=by
 rw[lp];intro e hd he hh R vs H k r hr;have e1:({Q118.E N with lo:=lo}:aC).cut (2000000+mC vM)=some (Q118.c2000008 N):=by kernel_rfl
 have e2:({Q118.E N with lo:=lo}:aC).hint (2000000+mC vM)=some Q118.h2000008:=by kernel_rfl
 rw[e1]at he;rw[e2]at hh;cases he;cases hh;unfold Q118.c2000008 at hr;dsimp only at hr;split at hr
 rotate_left
 ·cases hr
 rename_i x5 x6 x7;cases hw:Q118.w N x6 x7 with
 |none=>rw[hw]at hr;cases hr
 |some L'=>
 rw[hw]at hr;simp only[hX]at hr;obtain⟨L,hL,rfl,hne,hN⟩:=lh hw;intro S a w hS hI;obtain⟨ρ,hrep,h1,h2,h3,h4⟩:=hI;have t4:=hrep.tmps 4;have t5:=hrep.tmps 5;have t7:=hrep.tmps 7;have t23:=hrep.tmps 23;change nA _ _ _ (.ptr 0 0 1) _ at t4;change nA _ _ _ (.ptr 1 0 1) _ at t5;change nA _ _ _ (.ptr 2 0 1) _ at t7;change nA _ _ _ (.fn 49 [] [.ptr 3 0 1,.ptr 4 0 1]) _ at t23;simp only[nA]at t4 t5 t7 t23;obtain⟨B4,n4,C4,R4,p4,m4,t4⟩:=t4;obtain⟨B5,n5,C5,R5,p5,m5,t5⟩:=t5;obtain⟨B7,n7,C7,R7,p7,_,t7⟩:=t7;obtain⟨va,vc,t23,va0,vcr⟩:=t23;have va0:=va0.length;obtain rfl:va= #[]:=Array.eq_empty_of_size_eq_zero (by simpa using va0.symm);generalize hHg:[oA.vals [.c (.slice none 0 0)],.vals [.c (.int .i64 x5)],.vals [.c (.slice none 0 0)],.vals [.inl .i64 1 x6],.vals [.c (.int .i64 x7)]]=H at hrep h1 h3 h4;have b0:jA H 0= .vals [.c (.slice none 0 0)]:=by rw[←hHg];rfl
 have b1:jA H 1= .vals [.c (.int .i64 x5)]:=by rw[←hHg];rfl
 have b2:jA H 2= .vals [.c (.slice none 0 0)]:=by rw[←hHg];rfl
 have b3:jA H 3= .vals [.inl .i64 1 x6]:=by rw[←hHg];rfl
 have b4:jA H 4= .vals [.c (.int .i64 x7)]:=by rw[←hHg];rfl
 have hlen:H.length=5:=by rw[←hHg];rfl
 have hh:=hrep.heap;obtain⟨q3,hq3,hb3⟩:=hh.rel 3 (by rw[b3];trivial);obtain⟨q4,hq4,hb4⟩:=hh.rel 4 (by rw[b4];trivial);have lv0:(jA H 0).has ⟨some B4,n4,C4,R4⟩ B4:=by rw[b0];rfl
 have lv1:(jA H 1).has ⟨some B5,n5,C5,R5⟩ B5:=by rw[b1];rfl
 have lv2:(jA H 2).has ⟨some B7,n7,C7,R7⟩ B7:=by rw[b2];rfl
 have l0:gA ρ (jA H) B4:=⟨0,_,p4,lv0⟩
 have l1:gA ρ (jA H) B5:=⟨1,_,p5,lv1⟩
 have l2:gA ρ (jA H) B7:=⟨2,_,p7,lv2⟩
 have s0:=gA.lt hh l0;have s1:=gA.lt hh l1;have s2:=gA.lt hh l2;have n45:B4≠B5:=fun e=>absurd (hh.inj 0 1 B4 _ _ p4 p5 lv0 (e▸lv1)) (by omega);have n47:B4≠B7:=fun e=>absurd (hh.inj 0 2 B4 _ _ p4 p7 lv0 (e▸lv2)) (by omega);have n57:B5≠B7:=fun e=>absurd (hh.inj 1 2 B5 _ _ p5 p7 lv1 (e▸lv2)) (by omega);refine wpIn_wide.1 (wpIn_rangeFunc (n:=1) ?_);intro fn hfn
 let D:=w.heap.size
 let l:=w.heap.size+1
 obtain⟨rec,hrec⟩:∃rec:Loop,rec={state:=.ready,pending:=none,fn,tmps:=a.tmps,params:= #[24,25],assign:=vM,body:=uI,defers:=w.heap.size}:=⟨_,rfl⟩
 obtain⟨W1,hW1⟩:∃W1,(w.alloc (.deferred (some []))).alloc (.loop rec)=W1:=⟨_,rfl⟩
 have hheap1:W1.heap=(w.heap.push (.deferred (some []))).push (.loop rec):=by rw[←hW1];rfl
 have z1:W1.heap.size=w.heap.size+2:=by rw[hheap1];simp
 have same1:∀b,b<w.heap.size→W1.heap[b]?=w.heap[b]?:=fun b hb=>by rw[hheap1,hP,if_neg (by rw[e0];omega),hP,if_neg (by omega)]
 have k1:nF w W1:=by rw[←hW1];exact⟨rfl,rfl,rfl,hG _⟩
 have hl1:W1.heap[l]?=some (.loop rec):=by rw[hheap1,hP,if_pos (by rw[e0])]
 have hD1:W1.heap[D]?=some (.deferred (some [])):=by rw[hheap1,hP,if_neg (by rw[e0];simp only[D];omega),hP,if_pos rfl]
 have hlD:l≠D:=by simp only[l,D];omega
 have hts:rec.tmps.size=41:=by rw[hrec];exact hrep.size
 have h7:rec.tmps[7]?=some (.pointer (some ⟨B7,0,none⟩)):=by
  rw[hrec];have e7:7<a.tmps.size:=by have:=hrep.size;have h41:({Q118.E N with lo:=lo}:aC).ntmps=41:=rfl;omega
  have:a.tmps.getD 7 undef= .pointer (some ⟨B7,0,none⟩):=t7;rw[xK,hV e7]at this;rw[hV e7];exact congrArg some this
 let A:vF:=⟨l,8192,Fz l D B7 rec⟩
 have hrule:aq A:=sf hN (by rw[hrec]) (by rw[hrec]) (by rw[hrec]) (by rw[hrec]) (by rw[hrec]) hts h7
 let F':Nat→Prop:=fun b=>S.F b∨b=B4∨b=B5
 let p0:Pl:=⟨none,0,l,[⟨some D,0,0⟩,⟨some l,0,0⟩,⟨some B7,0,0⟩]⟩
 let ρ1:fC:=fun j=>if j=0 then some p0 else if j=1 then ρ 3 else if j=2 then ρ 4 else none
 let bs:List oA:=[.amb A [],.vals [.inl .i64 1 x6],.vals [.c (.int .i64 x7)]]
 have hpl:dE p0.R=[D,l,B7]:=rfl;have hJ:Fz l D B7 rec [D,l,B7] [] W1:=by
  refine⟨by simp,by simp,hlD,hl1,hD1,?_⟩;obtain⟨q2,hq2,hb2⟩:=hh.rel 2 (by rw[b2];trivial);rw[p7]at hq2;cases hq2;rw[b2]at hb2;have hb2':=wA.mono (iI.refl ρ) (nG.mk (M:=gA ρ (jA H)) (M':=gA ρ (jA H)) (w:=w) (w':=W1) (by omega) (fun b hb _=>same1 b hb) (fun b hb=>.inl hb) k1) hb2 (fun b hb=>by obtain rfl:=hC (show some B7=some b from hb);exact same1 _ s2);refine(A0 (F:=fun b=>(b∉[D,l,B7]∨b=l∨b=D)∧b<W1.heap.size) hb2' (hh.wf _ _ p7) ?_ (fun b hb=>hb.2)).move (fun _ _ _=>rfl) (hG _) (fun b hb=>.inl hb) (fun b hb=>hb.2) (fun b _ hb=>?_)
  ·rintro⟨h|h|h,_⟩
   ·exact h (by simp)
   ·simp only[l]at h;omega
   ·simp only[D]at h;omega
  ·subst hb;refine⟨by simp,?_,?_⟩
   ·simp only[l];omega
   ·simp only[D];omega
 have hcase:∀j p b,ρ1 j=some p→(jA bs j).has p b→(j=0∧p=p0∧(b=D∨b=l∨b=B7))∨(j=1∧ρ 3=some p∧(jA H 3).has p b)∨(j=2∧ρ 4=some p∧(jA H 4).has p b):=by
  intro j p b hp hx
  match j with
  |0=>cases hp;have:b∈dE p0.R:=qH.mpr hx;rw[hpl]at this;simp only[hU,List.not_mem_nil,or_false]at this;exact .inl ⟨rfl,rfl,this⟩
  |1=>exact .inr (.inl ⟨rfl,hp,by rw[b3];exact hx⟩)
  |2=>exact .inr (.inr ⟨rfl,hp,by rw[b4];exact hx⟩)
  |j+3=>cases hp
 have hlow1:∀j p b,(j=1∧ρ 3=some p∧(jA H 3).has p b)∨(j=2∧ρ 4=some p∧(jA H 4).has p b)→gA ρ (jA H) b∧b<w.heap.size∧b≠B4∧b≠B5∧b≠B7:=by
  rintro j p b (⟨_,k1,k2⟩|⟨_,k1,k2⟩)
  ·have hl:gA ρ (jA H) b:=⟨3,p,k1,k2⟩
   exact⟨hl,gA.lt hh hl,fun e=>absurd (hh.inj 3 0 b _ _ k1 p4 k2 (e▸lv0)) (by omega),fun e=>absurd (hh.inj 3 1 b _ _ k1 p5 k2 (e▸lv1)) (by omega),fun e=>absurd (hh.inj 3 2 b _ _ k1 p7 k2 (e▸lv2)) (by omega)⟩
  ·have hl:gA ρ (jA H) b:=⟨4,p,k1,k2⟩
   exact⟨hl,gA.lt hh hl,fun e=>absurd (hh.inj 4 0 b _ _ k1 p4 k2 (e▸lv0)) (by omega),fun e=>absurd (hh.inj 4 1 b _ _ k1 p5 k2 (e▸lv1)) (by omega),fun e=>absurd (hh.inj 4 2 b _ _ k1 p7 k2 (e▸lv2)) (by omega)⟩
 have hM1:∀b,gA ρ1 (jA bs) b→b=D∨b=l∨(gA ρ (jA H) b∧b<w.heap.size∧b≠B4∧b≠B5):=by
  rintro b ⟨j,p,hp,hx⟩;rcases hcase j p b hp hx with⟨_,_,h|h|h⟩|h
  ·exact .inl h
  ·exact .inr (.inl h)
  ·subst h;exact .inr (.inr ⟨l2,s2,Ne.symm n47,Ne.symm n57⟩)
  ·obtain⟨a1,a2,a3,a4,_⟩:=hlow1 j p b h;exact .inr (.inr ⟨a1,a2,a3,a4⟩)
 have hext1:nG (gA ρ (jA H)) w (fun b=>gA ρ (jA H) b∨b=D∨b=l) W1:=
  ⟨by omega,fun b hb _=>same1 b hb,fun b hb=>hb.imp (fun h=>h) (fun h=>by rcases h with h|h<;>simp only[D,l]at h<;>omega),k1⟩
 have hav1:∀b,av F' (gA ρ1 (jA bs)) b→av S.F (fun b=>gA ρ (jA H) b∨b=D∨b=l) b:=by
  rintro b ((hb|hb|hb)|hb)
  ·exact .inl hb
  ·subst hb;exact .inr (.inl l0)
  ·subst hb;exact .inr (.inl l1)
  ·rcases hM1 b hb with h|h|h
   ·exact .inr (.inr (.inl h))
   ·exact .inr (.inr (.inr h))
   ·exact .inr (.inl h.1)
 have hHR:lA F' ρ1 (jA bs) W1:=by
  refine⟨?_,?_,?_,?_,?_⟩
  ·intro j p hp;simp only[ρ1]at hp;split at hp
   ·cases hp;exact Nat.zero_le _
   ·split at hp
    ·exact hh.wf _ _ hp
    ·split at hp
     ·exact hh.wf _ _ hp
     ·cases hp
  ·intro j hl
   match j with
   |0=>exact⟨p0,rfl,rfl,rfl,rfl,hrule,by rw[hpl];exact hJ,fun b hb=>by
     rw[hpl]at hb;simp only[hU,List.not_mem_nil,or_false]at hb;rcases hb with h|h|h
     ·simp only[D]at h;omega
     ·simp only[l]at h;omega
     ·omega⟩
   |1=>refine⟨q3,hq3,?_⟩;have:=wA.mono (iI.refl ρ) hext1 hb3 (fun b hb=>same1 b (hlow1 1 q3 b (.inl ⟨rfl,hq3,hb⟩)).2.1);rw[b3]at this;exact wA.avoid hav1 (wA.agree (ρ':=ρ1) (fun i hi=>absurd (show i∈([]:W7)from hi) (by simp)) this)
   |2=>refine⟨q4,hq4,?_⟩;have:=wA.mono (iI.refl ρ) hext1 hb4 (fun b hb=>same1 b (hlow1 2 q4 b (.inr ⟨rfl,hq4,hb⟩)).2.1);rw[b4]at this;exact bW this
   |j+3=>exact hl.elim
  ·intro j j' b p p' hp hp' hx hx';have a0:∀b,b=D∨b=l∨b=B7→¬(b<w.heap.size∧b≠B7):=by
    rintro b h ⟨h1,h2⟩;rcases h with h|h|h
    ·simp only[D]at h;omega
    ·simp only[l]at h;omega
    ·exact h2 h
   rcases hcase j p b hp hx with⟨rfl,_,h⟩|h<;>rcases hcase j' p' b hp' hx' with⟨rfl,_,h'⟩|h'
   ·rfl
   ·exact absurd ⟨(hlow1 _ _ _ h').2.1,(hlow1 _ _ _ h').2.2.2.2⟩ (a0 b h)
   ·exact absurd ⟨(hlow1 _ _ _ h).2.1,(hlow1 _ _ _ h).2.2.2.2⟩ (a0 b h')
   ·rcases h with⟨rfl,g1,g2⟩|⟨rfl,g1,g2⟩<;>rcases h' with⟨rfl,g1',g2'⟩|⟨rfl,g1',g2'⟩
    ·rfl
    ·exact absurd (hh.inj 3 4 b _ _ g1 g1' g2 g2') (by omega)
    ·exact absurd (hh.inj 4 3 b _ _ g1 g1' g2 g2') (by omega)
    ·rfl
  ·rintro b (hb|hb|hb)
   ·have:=hh.low b hb;omega
   ·omega
   ·omega
  ·rintro b hb hf;have hnF:∀b,w.heap.size≤b→¬F' b:=by
    rintro b h (h'|h'|h')
    ·have:=hh.low b h';omega
    ·omega
    ·omega
   rcases hM1 b hb with h|h|⟨h,_,h4,h5⟩
   ·exact hnF b (by simp only[D]at h;omega) hf
   ·exact hnF b (by simp only[l]at h;omega) hf
   ·rcases hf with hf|hf|hf
    ·exact hh.out b h hf
    ·exact h4 hf
    ·exact h5 hf
 have hargs:iA ρ1 (av F' (gA ρ1 (jA bs))) W1 [.yv 0,.ptr 1 0 1,.ptr 2 0 1] ([.func (.yield l) #[] #[]]++vc.toList):=by
  obtain⟨vc⟩:=vc
  match vc,vcr with
  | [c1,c2],vcr=>
   simp only[iA,and_true]at vcr;simp only[List.cons_append,List.nil_append,iA,and_true];refine⟨by simp only[nA];exact⟨p0,rfl,rfl⟩,?_,?_⟩
   ·have:=vcr.1;simp only[nA]at this⊢;exact this
   ·have:=vcr.2;simp only[nA]at this⊢;exact this
  | [],vcr=>simp[iA]at vcr
  | [_],vcr=>simp[iA]at vcr
  |_::_::_::_,vcr=>simp[iA]at vcr
 have hcalls:=(Q112.spec N A [] x6 x7 _ (hL A rfl)).calls F' ρ1 W1 _ hHR (fun id hid=>by
  have hid:3≤id:=hid;have a1:id≠0:=by omega
  have a2:id≠1:=by omega
  have a3:id≠2:=by omega
  simp[ρ1,a1,a2,a3]) hargs
 have harr:([Value.func (.yield l) #[] #[]]++vc.toList).toArray= #[Value.func (.yield l) #[] #[]]++vc:=by apply Array.toList_inj.mp;simp
 rw[harr]at hcalls;have eg:∀args w,(callFunc 49 args).run Tryz.prog w= .ok (.enter 49 args) w:=enters_of Tryz.func49 (by kernel_rfl) rfl;refine⟨l,[{target:=.collected D,args:= #[]}],W1,{target:=.fn (.func 49) vc,args:= #[.func (.yield l) #[] #[]]},W1,49,#[.func (.yield l) #[] #[]]++vc,W1,?_,?_,?_,?_,fun _=>hG _,?_⟩
 ·rw[←hW1,hrec];exact run_enterLoop_outer _ _ _ _ _
 ·simp only[resolve,t23];simp[go_sem]
 ·intro f' hf';trivial
 ·simp[invoke,go_sem,eg]
 refine callsIn_wide.2 (Calls.mono hcalls ?_);rintro e w3 ⟨v',rfl,ρ3,g0,g1,g2,g3,g4,g5⟩;obtain⟨p3,hp3,hB3⟩:=g3.rel 0 trivial;obtain⟨_,_,hpC,_,⟨j1,j2,_,j4,j5,j6⟩,jbd⟩:=hB3;obtain⟨w4,hw4⟩:∃w4,w3.putObj l (.loop {rec with state:=.exhausted})=w4:=⟨_,rfl⟩
 refine⟨rec.pending,w4,by rw[←hw4];exact run_endLoop j4 (by rw[hrec];simp),?_⟩;have hpe:rec.pending=none:=by rw[hrec]
 rw[hpe];dsimp only;refine⟨.normal,_,hr,rfl,?_⟩;have z3:W1.heap.size≤w3.heap.size:=g5.size;have z4:w4.heap.size=w3.heap.size:=by rw[←hw4];simp
 have same4:∀b,b≠l→w4.heap[b]?=w3.heap[b]?:=fun b h=>by rw[←hw4];exact World.putObj_heap_other h
 have hlv1:∀b,b<w.heap.size→¬gA ρ1 (jA bs) b→w4.heap[b]?=w.heap[b]?:=fun b hb hx=>by rw[same4 b (by simp only[l];omega),g5.same b (by omega) hx,same1 b hb]
 have hS3:∀b,b∈dE p3.R→gA ρ3 (jA [.amb A L,.vals [.inl .i64 1 x6],.vals [.c (.int .i64 x7)]]) b:=fun b hb=>⟨0,p3,hp3,qH.mp hb⟩
 have hSF:∀b,b∈dE p3.R→¬F' b:=fun b hb=>g3.out b (hS3 b hb);have hSold:∀b,b∈dE p3.R→b=D∨b=l∨(gA ρ (jA H) b∧b<w.heap.size∧b≠B4∧b≠B5)∨W1.heap.size≤b:=fun b hb=>by
  rcases g5.sub b (hS3 b hb)with h|h
  ·rcases hM1 b h with h|h|h
   ·exact .inl h
   ·exact .inr (.inl h)
   ·exact .inr (.inr (.inl h))
  ·exact .inr (.inr (.inr h))
 have hK4:eO (fun b=>(b∉dE p3.R∨b=l∨b=D)∧b<w4.heap.size) B7 (L.filter fun x=>nB x.1) w4 (fun b=>b∈dE p3.R∧b≠l∧b≠D):=
  j6.move (fun b h1 hf=>same4 b (fun e=>hf ⟨.inr (.inl e),h1⟩)) (by omega) (fun b hb=>.inl ⟨hb.1,by have:=hb.2;omega⟩) (fun b hb=>hb.2) (fun _ _ h=>h)
 obtain⟨ρk,Hk,k1',k2',⟨nk,Ck,Rk,pk⟩,k3',k4'⟩:=hK4;rcases k3' with⟨he,rfl⟩|⟨_,rfl⟩
 ·exact absurd he hne
 let ρ4:fC:=fun j=>if j=0 then ρ 0 else if j=1 then ρ 1 else if j=2 then ρk 0 else if j=3 then ρk 1 else none
 let Ho:List oA:=[.vals [.c (.slice none 0 0)],.vals [.c (.int .i64 x5)],.vals [.sw 3 2],.tw .sh (L.filter fun x=>nB x.1)]
 have hc4:∀j p b,ρ4 j=some p→(jA Ho j).has p b→(j=0∧ρ 0=some p∧b=B4)∨(j=1∧ρ 1=some p∧b=B5)∨(j=2∧ρk 0=some p∧gA ρk (jA [.vals [.sw 1 2],.vals (RK.sh.flat (L.filter fun x=>nB x.1))]) b∧(jA [oA.vals [.sw 1 2],.vals (RK.sh.flat (L.filter fun x=>nB x.1))] 0).has p b)∨(j=3∧ρk 1=some p∧gA ρk (jA [.vals [.sw 1 2],.vals (RK.sh.flat (L.filter fun x=>nB x.1))]) b∧(jA [oA.vals [.sw 1 2],.vals (RK.sh.flat (L.filter fun x=>nB x.1))] 1).has p b):=by
  intro j p b hp hx
  match j with
  |0=>have hp:ρ 0=some p:=hp;have:=p4.symm.trans hp;cases this;exact .inl ⟨rfl,p4,(hC hx).symm⟩
  |1=>have hp:ρ 1=some p:=hp;have:=p5.symm.trans hp;cases this;exact .inr (.inl ⟨rfl,p5,(hC hx).symm⟩)
  |2=>exact .inr (.inr (.inl ⟨rfl,hp,⟨0,p,hp,hx⟩,hx⟩))
  |3=>exact .inr (.inr (.inr ⟨rfl,hp,⟨1,p,hp,hx⟩,hx⟩))
  |j+4=>cases hp
 have hM4:∀b,gA ρ4 (jA Ho) b→b=B4∨b=B5∨gA ρk (jA [.vals [.sw 1 2],.vals (RK.sh.flat (L.filter fun x=>nB x.1))]) b:=by
  rintro b ⟨j,p,hp,hx⟩;rcases hc4 j p b hp hx with⟨_,_,h⟩|⟨_,_,h⟩|⟨_,_,h,_⟩|⟨_,_,h,_⟩
  ·exact .inl h
  ·exact .inr (.inl h)
  ·exact .inr (.inr h)
  ·exact .inr (.inr h)
 have hF4:∀b,b∈dE p3.R→¬S.F b∧b≠B4∧b≠B5:=fun b hb=>⟨fun h=>hSF b hb (.inl h),fun h=>hSF b hb (.inr (.inl h)),fun h=>hSF b hb (.inr (.inr h))⟩
 have n4:¬gA ρ1 (jA bs) B4:=fun h=>by
  rcases hM1 B4 h with h|h|h
  ·simp only[D]at h;omega
  ·simp only[l]at h;omega
  ·exact h.2.2.1 rfl
 have n5:¬gA ρ1 (jA bs) B5:=fun h=>by
  rcases hM1 B5 h with h|h|h
  ·simp only[D]at h;omega
  ·simp only[l]at h;omega
  ·exact h.2.2.2 rfl
 have k14:nF w w4:=(k1.trans g5.keeps).trans (by rw[←hw4];exact⟨rfl,rfl,rfl,hG _⟩);have hav4:∀b,b<w4.heap.size→av S.F (gA ρ4 (jA Ho)) b→av (fun b=>(b∉dE p3.R∨b=l∨b=D)∧b<w4.heap.size) (gA ρk (jA [.vals [.sw 1 2],.vals (RK.sh.flat (L.filter fun x=>nB x.1))])) b:=by
  rintro b hb (hf|hl)
  ·exact .inl ⟨.inl fun hm=>(hF4 b hm).1 hf,hb⟩
  ·rcases hM4 b hl with h|h|h
   ·subst h;exact .inl ⟨.inl fun hm=>(hF4 _ hm).2.1 rfl,hb⟩
   ·subst h;exact .inl ⟨.inl fun hm=>(hF4 _ hm).2.2 rfl,hb⟩
   ·exact .inr h
 have hkl:∀b,gA ρk (jA [.vals [.sw 1 2],.vals (RK.sh.flat (L.filter fun x=>nB x.1))]) b→b<w4.heap.size:=fun b hb=>gA.lt k1' hb;have hM4lt:∀b,gA ρ4 (jA Ho) b→b<w4.heap.size:=fun b hb=>by
  rcases hM4 b hb with h|h|h
  ·omega
  ·omega
  ·exact hkl b h
 have hlow4:∀b,av S.F (gA ρ4 (jA Ho)) b→b<w4.heap.size:=fun b hb=>hb.elim (fun h=>by have:=hh.low b h;omega) (hM4lt b);have hav4':∀b,av S.F (gA ρ4 (jA Ho)) b→av (fun b=>(b∉dE p3.R∨b=l∨b=D)∧b<w4.heap.size) (gA ρk (jA [.vals [.sw 1 2],.vals (RK.sh.flat (L.filter fun x=>nB x.1))])) b:=fun b hb=>hav4 b (hlow4 b hb) hb;have hext4:nG (gA ρ (jA H)) w (gA ρ4 (jA Ho)) w4:=by
  refine⟨by omega,fun b hb hx=>hlv1 b hb (fun h=>?_),fun b hb=>?_,k14⟩
  ·rcases hM1 b h with h|h|h
   ·simp only[D]at h;omega
   ·simp only[l]at h;omega
   ·exact hx h.1
  ·rcases hM4 b hb with h|h|h
   ·subst h;exact .inl l0
   ·subst h;exact .inl l1
   ·obtain⟨hS,hl,hD⟩:=k4' b h;rcases hSold b hS with h|h|h|h
    ·exact absurd h hD
    ·exact absurd h hl
    ·exact .inl h.1
    ·exact .inr (by omega)
 have hdis:∀b,gA ρk (jA [.vals [.sw 1 2],.vals (RK.sh.flat (L.filter fun x=>nB x.1))]) b→b≠B4∧b≠B5:=fun b hb=>(hF4 b (k4' b hb).1).2;have hheap4:lA S.F ρ4 (jA Ho) w4:=by
  refine⟨?_,?_,?_,fun b hb=>by have:=hh.low b hb;omega,?_⟩
  ·intro j p hp;simp only[ρ4]at hp;split at hp
   ·exact hh.wf _ _ hp
   ·split at hp
    ·exact hh.wf _ _ hp
    ·split at hp
     ·exact k1'.wf _ _ hp
     ·split at hp
      ·exact k1'.wf _ _ hp
      ·cases hp
  ·intro j hl
   match j with
   |0=>obtain⟨q,hq,hb⟩:=hh.rel 0 (by rw[b0];trivial);rw[p4]at hq;cases hq;rw[b0]at hb;have hb':=wA.mono (iI.refl ρ) (nG.mk (M:=gA ρ (jA H)) (M':=gA ρ (jA H)) (w:=w) (w':=w4) (by omega) (fun b hb hx=>hext4.same b hb hx) (fun b hb=>.inl hb) k14) hb (fun b hb=>by obtain rfl:=hC (show some B4=some b from hb);exact hlv1 _ s0 n4);exact⟨_,p4,bW hb'⟩
   |1=>obtain⟨q,hq,hb⟩:=hh.rel 1 (by rw[b1];trivial);rw[p5]at hq;cases hq;rw[b1]at hb;have hb':=wA.mono (iI.refl ρ) (nG.mk (M:=gA ρ (jA H)) (M':=gA ρ (jA H)) (w:=w) (w':=w4) (by omega) (fun b hb hx=>hext4.same b hb hx) (fun b hb=>.inl hb) k14) hb (fun b hb=>by obtain rfl:=hC (show some B5=some b from hb);exact hlv1 _ s1 n5);exact⟨_,p5,bW hb'⟩
   |2=>
    obtain⟨q,hq,hb⟩:=k1'.rel 0 trivial;refine⟨q,hq,?_⟩;have:=wA.ren (x:=.vals [.sw 1 2]) (m:=fun i=>if i=1 then some 3 else none) (ρ':=ρ4) (fun i k p h1 h2=>by
     split at h1
     ·rename_i e;subst e;cases h1;exact h2
     ·cases h1) (.inl hav4') hb
    simp only[jI,uL,YtijigofaaefldaaGreat.Ev.I4,if_true]at this;exact this
   |3=>obtain⟨q,hq,hb⟩:=k1'.rel 1 trivial;refine⟨q,hq,?_⟩;have:=wA.ren (x:=.vals (RK.sh.flat (L.filter fun x=>nB x.1))) (m:=fun i=>none) (ρ':=ρ4) (fun i k p h1 h2=>by cases h1) (.inl hav4') hb;simp only[jI]at this;rw[nM _ _ (RK.sh.flat_leaf _)]at this;exact this
   |j+4=>exact hl.elim
  ·intro i j b p p' hp hp' hx hx';rcases hc4 i p b hp hx with⟨rfl,_,h⟩|⟨rfl,_,h⟩|⟨rfl,g1,h,g2⟩|⟨rfl,g1,h,g2⟩<;>rcases hc4 j p' b hp' hx' with⟨rfl,_,h'⟩|⟨rfl,_,h'⟩|⟨rfl,g1',h',g2'⟩|⟨rfl,g1',h',g2'⟩<;>
    first
     |rfl
     |exact absurd (h.symm.trans h') n45
     |exact absurd (h'.symm.trans h) n45
     |exact absurd h (hdis b h').1
     |exact absurd h (hdis b h').2
     |exact absurd h' (hdis b h).1
     |exact absurd h' (hdis b h).2
     |exact absurd (k1'.inj 0 1 b _ _ g1 g1' g2 g2') (by omega)
     |exact absurd (k1'.inj 1 0 b _ _ g1 g1' g2 g2') (by omega)
  ·intro b hb hf;rcases hM4 b hb with h|h|h
   ·subst h;exact hh.out _ l0 hf
   ·subst h;exact hh.out _ l1 hf
   ·exact(hF4 b (k4' b h).1).1 hf
 have hD4:w4.heap[D]?=some (.deferred (some [])):=by rw[same4 D (Ne.symm hlD)];exact j5
 have hnD:∀b,gA ρ4 (jA Ho) b→b≠D:=fun b hb e=>by
  rcases hM4 b hb with h|h|h
  ·simp only[D]at e;omega
  ·simp only[D]at e;omega
  ·exact(k4' b h).2.2 e
 refine⟨ρ4,⟨hheap4,fun t=>?_,hrep.size,?_⟩,?_,?_,?_,h4.trans hext4⟩
 ·show nA ρ4 _ w4 (YtijigofaaefldaaGreat.Ev.cE (tB Q118.h2000008.out [.ptr 0 0 1,.ptr 1 0 1,.ptr 2 0 1]) t) (a.eval (.tmp t));have hnk:0+1≤nk:=by
   obtain⟨q,hq,hb⟩:=k1'.rel 0 trivial;rw[pk]at hq;cases hq;obtain⟨h1,_⟩:=hb;simp at h1;omega
  by_cases e4:t=4
  ·subst e4;show nA _ _ _ (.ptr 0 0 1) _;simp only[nA];exact⟨B4,_,C4,R4,p4,m4,t4⟩
  by_cases e5:t=5
  ·subst e5;show nA _ _ _ (.ptr 1 0 1) _;simp only[nA];exact⟨B5,_,C5,R5,p5,m5,t5⟩
  by_cases e7:t=7
  ·subst e7;show nA _ _ _ (.ptr 2 0 1) _;simp only[nA];exact⟨B7,_,Ck,Rk,pk,hnk,t7⟩
  have e:∀k,t≠k→Nat.beq k t=false:=fun k hk=>by
   cases hb:Nat.beq k t with
   |false=>rfl
   |true=>exact absurd (hY hb).symm hk
  simp only[Q118.h2000008,tB,YtijigofaaefldaaGreat.Ev.cE,e 4 e4,e 5 e5,e 7 e7,cond_false,nA]
 ·have hmk:({Q118.E N with lo:=lo}:aC).mark=true:=rfl;rw[hmk];have hd0:=hrep.defers;rw[hmk]at hd0;have hnew:∀Ds:W7,a.defers=Ds.map (fun D=>({target:=.collected D,args:= #[]}:Deferred))→Ds.Nodup→(∀D'∈Ds,w.heap[D']?=some (.deferred (some []))∧¬gA ρ (jA H) D'∧lo≤D')→
    pv true lo (gA ρ4 (jA Ho)) {a with defers:=[{target:=.collected D,args:= #[]}]++a.defers} w4:=by
   intro Ds h1 hn h2;refine .inr ⟨rfl,D::Ds,by simp[h1],List.nodup_cons.mpr ⟨fun hm=>?_,hn⟩,fun D' hD'=>?_⟩
   ·have:=(zE.mp (h2 D hm).1).1;simp only[D]at this;omega
   ·rcases hU.mp hD' with rfl|hD'
    ·exact⟨hD4,fun h=>hnD _ h rfl,by have h0:lo≤S.w.heap.size:=hS.2.2;have:=h4.size;simp only[D];omega⟩
    ·obtain⟨g1,g2,g3⟩:=h2 D' hD';have hlt:=(zE.mp g1).1;exact⟨by rw[hext4.same D' hlt g2];exact g1,fun h=>(hext4.sub D' h).elim g2 (fun h=>by omega),g3⟩
  rcases hd0 with h|⟨_,Ds,h1,hn,h2⟩
  ·exact hnew [] (by simpa using h) List.nodup_nil (fun _ h=>by simp at h)
  ·exact hnew Ds h1 hn h2
 ·intro j hj;have hj:4≤j:=hj;have a1:j≠0:=by omega
  have a2:j≠1:=by omega
  have a3:j≠2:=by omega
  have a4:j≠3:=by omega
  simp[ρ4,a1,a2,a3,a4]
 ·intro j hj;exact absurd hj (by show ¬j<0;omega)
 ·exact Nat.zero_le _
theorem lS {P:Program}{fn:Func}{tmps:Array Value}{R:Ending→World→Prop}{n:Nat}:∀(Ds:W7) (w:World),Ds.Nodup→(∀D∈Ds,w.heap[D]?=some (.deferred (some [])))→
  (∀w2,w2.heap.size=w.heap.size→nF w w2→(∀b,w2.heap[b]?=w.heap[b]?∨b∈Ds)→∃u,(results fn tmps).run P w2= .ok u w2∧R (.returned u) w2)→
  LeavesInM Fence.wide n P fn tmps R (Ds.map fun D=>{target:=.collected D,args:= #[]}) .returning w
 | [],w,_,_,h=>by obtain⟨u,h1,h2⟩:=h w rfl (.refl _) (fun _=>.inl rfl);exact⟨u,h1,h2⟩
 |D::Ds,w,hn,hD,h=>by
  obtain⟨hn1,hn2⟩:=List.nodup_cons.mp hn;refine⟨by simp,.inl ⟨D,_,rfl,run_takeDeferred (hD D (by simp)),?_⟩⟩;have hne:∀b,b≠D→(w.putObj D (.deferred none)).heap[b]?=w.heap[b]?:=fun b hb=>World.putObj_heap_other hb;have hk1:nF w (w.putObj D (.deferred none)):=⟨rfl,rfl,rfl,hG _⟩
  refine lS Ds _ hn2 (fun D' hD'=>?_) (fun w2 z k hs=>h w2 (by rw[z];simp) (hk1.trans k) (fun b=>?_))
  ·rw[hne D' (fun e=>hn1 (e▸hD'))];exact hD D' (by simp[hD'])
  ·rcases hs b with hs|hs
   ·by_cases hb:b=D
    ·exact .inr (by simp[hb])
    ·exact .inl (by rw[hs,hne b hb])
   ·exact .inr (by simp[hs])
theorem Q118.spec (N:Nat)(a1:W5)(a2:Int)(r:W4×Int)(h:Q118.f N a1 a2=some r):
  dA Tryz.prog 20 [.inl .i64 1 a1,.c (.int .i64 a2)] [] (.tup [.sw 0 2,.c (.int .i64 r.2)]) [.tw .sh r.1]:=by
 refine⟨⟨_,Tryz.func20,by kernel_rfl,by kernel_rfl⟩,?_⟩;intro F ρ w args' hH hn hr;have hE:sA Tryz.prog {Q118.E N with lo:=w.heap.size}:=⟨(Q118.env N).ty,(Q118.env N).tab,fun h=>aE (show false=true from h)⟩
 have h':uA {Q118.E N with lo:=w.heap.size} Q118.body [.inl .i64 1 a1,.c (.int .i64 a2)] [] Q118.dec=some r:=by
  rw[←h]
  kernel_rfl
 have hcut:aA Tryz.prog Tryz.f20 {Q118.E N with lo:=w.heap.size} (cA Q118.body):=
  aA.of (l:=[nR]) (by kernel_rfl) (aA.cons (Cn N w.heap.size) aA.nil)
 have hwp:=yy hE bA (Q118.res_eq N) (show 41=Tryz.f20.ntmps by kernel_rfl) rfl (hZ (by kernel_rfl)) hcut h' hH hn hr (hG _);refine callsIn_wide.1 (callsIn_of_wp_marks (n:=0) Tryz.func20 (by kernel_rfl:Tryz.f20.body=some Q118.body) trivial (wpIn_mono (wpIn_wide.2 hwp) ?_));rintro e a' w' ⟨he,v,bs',hd,hdf,hres⟩;have hv:v= .tup [.sw 0 2,.c (.int .i64 r.2)]∧bs'=[.tw .sh r.1]:=by
  unfold Q118.dec at hd;split at hd
  ·cases hd;exact⟨rfl,rfl⟩
  ·cases hd
 obtain⟨rfl,rfl⟩:=hv;have key:LeavesInM Fence.wide 0 Tryz.prog Tryz.f20 a'.tmps (fun e w'=>∃v',e= .returned v'∧qL F ρ [] w (.tup [.sw 0 2,.c (.int .i64 r.2)]) [.tw .sh r.1] v' w') a'.defers .returning w':=by
  have wV:∀Ds:W7,a'.defers=Ds.map (fun D=>({target:=.collected D,args:= #[]}:Deferred))→Ds.Nodup→(∀D∈Ds,w'.heap[D]?=some (.deferred (some []))∧w.heap.size≤D)→LeavesInM Fence.wide 0 Tryz.prog Tryz.f20 a'.tmps (fun e w'=>∃v',e= .returned v'∧qL F ρ [] w (.tup [.sw 0 2,.c (.int .i64 r.2)]) [.tw .sh r.1] v' w') a'.defers .returning w':=fun Ds g1 g2 g3=>by rw[g1];refine lS Ds w' g2 (fun D hD=>(g3 D hD).1) (fun w2 z k hs=>?_);obtain⟨u,hu,hp⟩:=hres w2 ⟨z,k,fun b=>(hs b).imp (fun h=>h) (fun hb=>⟨(g3 b hb).2,by rw[g1];exact List.mem_map.mpr ⟨b,hb,rfl⟩⟩)⟩;exact⟨u,hu,u,rfl,hp⟩
  rcases hdf with h|⟨_,Ds,g1,g2,g3⟩
  ·exact wV [] (by simpa using h) List.nodup_nil (fun _ h=>by simp at h)
  ·exact wV Ds g1 g2 (fun D hD=>⟨(g3 D hD).1,(g3 D hD).2.2⟩)
 rcases he with rfl|rfl
 ·exact key
 ·exact key
theorem Q118.ent_ok (N:Nat):pA Tryz.prog 20 (Q118.ent N):=by
 intro args bs a enc h;simp only[Q118.ent]at h;split at h
 ·rename_i hz;have h0:=hC h;have h1:=congrArg Prod.fst h0;have h2:=congrArg Prod.snd h0;dsimp only at h1 h2;subst h2;exact dA.of_freeze hz (Q118.spec N _ _ a h1)
 ·cases h
noncomputable def Q119.l14 {R:Type}(N:Nat):Nat→Int→Int→W6→W4→(W6→Option R)→Option R
 |0,_,_,_,_,_=>none
 |n+1,e,a,c,b,d=>
  bif decide (a<e)then
   bif (decide (0≤a))&&(decide (a<(b.length:Int)))then
    bif (decide (0≤((b.getD a.toNat (([]:W6),(0:Int))).2)))&&(decide (((b.getD a.toNat (([]:W6),(0:Int))).2)<(c.length:Int)))then
     bif (decide (0≤((b.getD a.toNat (([]:W6),(0:Int))).2)))&&(decide (((b.getD a.toNat (([]:W6),(0:Int))).2)<(c.length:Int)))then
      Q119.l14 N n e (fA (a+1)) (c.set (((b.getD a.toNat (([]:W6),(0:Int))).2).toNat) (fA ((c.getD (((b.getD a.toNat (([]:W6),(0:Int))).2).toNat) 0)+2))) b d
     else none
    else none
   else none
  else
  d c
noncomputable def Q119.f (N:Nat)(e:W5)(a:Int):Option (W3×Int):=
 (Q69.f N e).bind fun f=>
 bif f != 0 then none else
 (Q57.f N a).bind fun g=>
 bif !g then none else
 bif a==0 then none else
 (Q118.f N e (fA (a-1))).bind fun c=>
 bif c.2 != 0 then none else
 bif dG a a&&decide (0≤a)&&decide (a≤9223372036854775807)&&lB a.toNat 8 then
  bif decide (0<((hW a.toNat (0:Int)).length:Int))then
   Q119.l14 N N (c.1.length:Int) 0 ((hW a.toNat (0:Int)).set 0 1) c.1
    (fun d=>
     (Q58.f N d).bind fun b=>
     some (b,0))
  else none
 else none
noncomputable def Q119.h14:uB:=⟨[(9,.row .i64 1),(36,.any),(37,.any),(38,.any)],[(9,.row .i64 1)]⟩
noncomputable def Q119.c14 (N:Nat):mF:=⟨fun vs H k=>match vs,H with
 | [.sw 0 1,.sw 1 2,.c (.int .i64 b),.c (.int .i64 c)],[.ints .i64 d,.tw .sh e]=>Q119.l14 N N b c d e (fun a=>k (.exit 0) ⟨tB Q119.h14.out [.sw 0 1],[.ints .i64 a]⟩)
 |_,_=>none⟩
noncomputable def Q119.E (N:Nat):aC:=mD [(2,iW),(43,nJ),(60,Ed),(64,Ee)] [(11,Q69.ent N),(19,Q57.ent N),(20,Q118.ent N),(21,Q58.ent N)] [(14,Q119.h14)] [(14,Q119.c14 N)] N [.tmp 4,.tmp 5] [.any,.any] 0 52 true
noncomputable def Q119.b14:Code:=mA ((cA (bo Tryz.f8)).getD 0 .skip)
theorem Q119.l14_eq {R:Type}(N n:Nat)(b c:Int)(d:W6)(e:W4)(k:Ex→St→Option R):
  vA 0 Q119.h14 (fun s k=>tA (Q119.E N) 388 Q119.b14 s k) n [.sw 0 1,.sw 1 2,.c (.int .i64 b),.c (.int .i64 c)] [.ints .i64 d,.tw .sh e] k=Q119.l14 N n b c d e (fun a=>k (.exit 0) ⟨tB Q119.h14.out [.sw 0 1],[.ints .i64 a]⟩):=by
 induction n generalizing b c d e with
 |zero=>kernel_rfl
 |succ n ih=>
  simp only[Q119.l14,←ih]
  kernel_rfl
noncomputable def Q119.dec (v:V)(bs:List oA):Option (W3×Int):=match v,bs with
 | .tup [.sw 0 2,.c (.int .i64 b)],[.tw .zi a]=>some (a,b)
 |_,_=>none
theorem Q119.f_eq (N:Nat)(a:W5)(b:Int):
  uA (Q119.E N) (bo Tryz.f8) [.inl .i64 1 a,.c (.int .i64 b)] [] Q119.dec=Q119.f N a b:=by kernel_rfl
noncomputable def Q119.ent (N:Nat):rA:=tF (W3×Int) 1 [true,true] [.inl .i64 1,.any] fun
 | [.inl .i64 1 a,.c (.int .i64 b)]=>some (Q119.f N a b,fun r=>.one (.tup [.sw 0 2,.c (.int .i64 r.2)]) [.tw .zi r.1])
 |_=>none
theorem Q119.env (N:Nat):sA Tryz.prog (Q119.E N):=⟨(.cons sE (.cons cD (.cons fg (.cons fh .nil)))),(.cons (Q69.ent_ok N) (.cons (Q57.ent_ok N) (.cons (Q118.ent_ok N) (.cons (Q58.ent_ok N) .nil)))),fun h=>aE (show false=true from h)⟩
theorem Q119.k14 (N:Nat):eB Tryz.prog Tryz.f8 (Q119.E N) (.loop Q119.b14):=xB (Q119.env N) bA 388 (c:=Q119.c14 N) aA.n fun R vs H k r h=>by unfold Q119.c14 at h;dsimp only at h;split at h;exact⟨_,Q119.l14_eq .. ▸h⟩;cases h
theorem Q119.spec (N:Nat)(a:W5)(c:Int)(r:W3×Int)(h:Q119.f N a c=some r):dA Tryz.prog 8 [.inl .i64 1 a,.c (.int .i64 c)] [] (.tup [.sw 0 2,.c (.int .i64 r.2)]) ([.tw .zi r.1]):=qA (Q119.env N) bA Tryz.func8 (aA.of (l:=[(.loop (mA ((cA (bo Tryz.f8)).getD 0 .skip)))]) (by kernel_rfl) (aA.cons (Q119.k14 N) aA.nil)) ((Q119.f_eq ..).trans h) fun v b e=>by unfold Q119.dec at e;split at e<;>cases e;exact⟨rfl,rfl⟩
theorem Q119.ent_ok (N:Nat):pA Tryz.prog 8 (Q119.ent N):=xA fun v a e h=>by split at h;exact gC (Q:=fun e=>dA _ _ _ _ (e a).pick.1 (e a).pick.2) h fun k=>Q119.spec N _ _ a k;cases h
def Bo:ByteArray:=⟨#[49]⟩
noncomputable def Ih:TI:=⟨.arr 5 2,5,40,[.int .i64 0,.int .i64 0,.int .i64 0,.int .i64 0,.int .i64 0]⟩
theorem Eb:cC Tryz.prog 36 Ih:=eC (by kernel_rfl) (by kernel_rfl) (by kernel_rfl) (by kernel_rfl) (by kernel_rfl) (by kernel_rfl) (by kernel_rfl) (Tryz.underlying36) (by kernel_rfl)
noncomputable def Q120.l13 {R:Type}(N:Nat):Nat→Int→Int→Int→Int→Int→Int→W3→(Unit→Option R)→(Bool→Option R)→Option R
 |0,_,_,_,_,_,_,_,_,_=>none
 |n+1,h,i,j,d,e,a,b,g,kr=>
  bif decide (a<5)then
   bif (decide (0≤a))&&(decide (a<5))then
    bif (decide (0≤a))&&(decide (a<(b.length:Int)))then
     (Q28.f N ([h,i,j,d,e].getD a.toNat 0)).bind fun c=>
     (Q30.f N ((b.getD a.toNat (false,([]:W6))).1) ((b.getD a.toNat (false,([]:W6))).2) c.1 c.2).bind fun f=>
     bif f != 0 then
      kr false
     else
     Q120.l13 N n h i j d e (fA (a+1)) b g kr
    else none
   else none
  else
  g ()
noncomputable def Q120.f (N:Nat)(a:W5):Option (Bool):=
 (Q95.f N a).bind fun f=>
 bif f then
  some true
 else
 (Q91.f N a).bind fun b=>
 (Q70.f N a).bind fun c=>
 bif b.2 != 0 then
  some (b.2==c.2)
 else
 bif c.2 != 0 then
  some (b.2==c.2)
 else
 (Q10.f N b.1).bind fun g=>
 bif !(g.toList==Bo.toList)then
  some true
 else
 bif (a.length:Int) != 8 then
  some true
 else
 bif !c.1 then
  some true
 else
 (Q119.f N a 5).bind fun d=>
 bif d.2 != 0 then
  some false
 else
 bif (d.1.length:Int) != 5 then
  some false
 else
 Q120.l13 N N 1 0 240 0 2160 0 d.1
  (fun(_:Unit)=>
   some true)
  (fun e=>
   some e)
noncomputable def Q120.h13:uB:=⟨[(7,.any),(56,.recd [.any,.any,.any,.any,.any]),(57,.any)],[]⟩
noncomputable def Q120.c13 (N:Nat):mF:=⟨fun vs H k=>match vs,H with
 | [.sw 0 2,.agg [.c (.int .i64 f),.c (.int .i64 g),.c (.int .i64 h),.c (.int .i64 a),.c (.int .i64 b)],.c (.int .i64 c)],[.tw .zi d]=>Q120.l13 N N f g h a b c d (fun(_:Unit)=>k (.exit 0) ⟨tB Q120.h13.out [],[]⟩) (fun e=>k (.ret (.c (.bool e)) []) .nil)
 |_,_=>none⟩
noncomputable def Q120.E (N:Nat):aC:=mD [(2,iW),(22,eL),(26,kE),(33,aK),(36,Ih),(39,nD),(42,Gz)] [(4,Q95.ent N),(5,Q91.ent N),(6,Q70.ent N),(7,Q10.ent N),(8,Q119.ent N),(10,Q28.ent N),(9,Q30.ent N)] [(13,Q120.h13)] [(13,Q120.c13 N)] N [.tmp 2] [.any] 0 70
noncomputable def Q120.b13:Code:=mA ((cA (bo Tryz.f3)).getD 0 .skip)
theorem Q120.l13_eq {R:Type}(N n:Nat)(f g h a b c:Int)(d:W3)(k:Ex→St→Option R):
  vA 0 Q120.h13 (fun s k=>tA (Q120.E N) 388 Q120.b13 s k) n [.sw 0 2,.agg [.c (.int .i64 f),.c (.int .i64 g),.c (.int .i64 h),.c (.int .i64 a),.c (.int .i64 b)],.c (.int .i64 c)] [.tw .zi d] k=Q120.l13 N n f g h a b c d (fun(_:Unit)=>k (.exit 0) ⟨tB Q120.h13.out [],[]⟩) (fun e=>k (.ret (.c (.bool e)) []) .nil):=by
 induction n generalizing f g h a b c d with
 |zero=>kernel_rfl
 |succ n ih=>
  simp only[Q120.l13,←ih]
  kernel_rfl
noncomputable def Q120.dec (v:V)(bs:List oA):Option (Bool):=match v,bs with
 | .c (.bool a),[]=>some a
 |_,_=>none
theorem Q120.f_eq (N:Nat)(a:W5):
  uA (Q120.E N) (bo Tryz.f3) [.inl .i64 1 a] [] Q120.dec=Q120.f N a:=by kernel_rfl
theorem Q120.env (N:Nat):sA Tryz.prog (Q120.E N):=⟨(.cons sE (.cons yD (.cons jB (.cons kD (.cons Eb (.cons bB (.cons rn .nil))))))),(.cons (Q95.ent_ok N) (.cons (Q91.ent_ok N) (.cons (Q70.ent_ok N) (.cons (Q10.ent_ok N) (.cons (Q119.ent_ok N) (.cons (Q28.ent_ok N) (.cons (Q30.ent_ok N) .nil))))))),fun h=>aE (show false=true from h)⟩
theorem Q120.k13 (N:Nat):eB Tryz.prog Tryz.f3 (Q120.E N) (.loop Q120.b13):=xB (Q120.env N) bA 388 (c:=Q120.c13 N) aA.n fun R vs H k r h=>by unfold Q120.c13 at h;dsimp only at h;split at h;exact⟨_,Q120.l13_eq .. ▸h⟩;cases h
theorem Q120.spec (N:Nat)(a:W5)(r:Bool)(h:Q120.f N a=some r):dA Tryz.prog 3 [.inl .i64 1 a] [] (.c (.bool r)) ([]):=qA (Q120.env N) bA Tryz.func3 (aA.of (l:=[(.loop (mA ((cA (bo Tryz.f3)).getD 0 .skip)))]) (by kernel_rfl) (aA.cons (Q120.k13 N) aA.nil)) ((Q120.f_eq ..).trans h) fun v b e=>by unfold Q120.dec at e;split at e<;>cases e;exact⟨rfl,rfl⟩
end Go.Proofs.YtijigofaaefldaaGreat
