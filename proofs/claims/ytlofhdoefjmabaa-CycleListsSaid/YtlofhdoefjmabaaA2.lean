import Derived.Test.YtlofhdoefjmabaaA1
import Derived.LoopN
import Derived.Scope
import Derived.KernelRfl
open List renaming getD_eq_getElem?_getD→hC,getElem?_eq_none→pC,all_eq_true→aE,getElem?_eq_some_iff→zE,getElem?_take→hK,mem_of_getElem?→hN,getElem?_append_left→hQ,getElem?_eq_getElem→hS,getElem?_toArray→hZ,getElem?_cons_zero→e0,map_cons→k0,mem_cons→l0,getElem?_range→n0
open Bool renaming and_eq_true→hF
open Go.Sem renaming run_bind→hT,run_pure→hW
open Go.Result renaming andThen_ok→hX
open Array renaming getD_eq_getD_getElem?→c0,toArray_toList→j0
set_option linter.unusedVariables false
set_option linter.unusedSimpArgs false
namespace Go.Proofs.Ytlofhdoefjmabaa.Ev
structure uL where
 F:Nat→Prop
 ρ:vB
 bs:List jA
 w:World
def aS (E:nD)(S:uL)(s:St)(a:Act)(w:World):Prop:=
 ∃ρ v,lV E S.F ρ (uC s.T) (kA s.H) v a w∧(∀j,s.H.length≤j→j<vA→ρ j=none)∧(∀j,j<E.nb→ρ j=S.ρ j)∧E.nb≤s.H.length∧s.H.length≤vA∧(∀g p,vA≤g→S.ρ g=some p→ρ g=some p)∧(∀g,vA≤g→(v g).live→S.ρ g=none)∧
  iE (cA S.ρ (kA S.bs)) S.w (cA ρ v) w
theorem sG {H:List jA}{j:Nat}(hl:(kA H j).live):H[j]?=some (kA H j):=by
 rw[eB,hC]at hl⊢;cases h:H[j]? with
 |none=>rw[h]at hl;exact hl.elim
 |some x=>rfl
theorem rJ {H:List jA}{j:Nat}{x:jA}(h:H[j]?=some x):kA H j=x:=by
 rw[eB,hC,h];rfl
theorem sD:∀(nb:Nat) (H:List jA),aN nb H=true→∀x∈H,x.isNw=false∧∀i∈oM x,i<nb
 |_,[],_,x,hx=>by simp at hx
 |nb,b::r,h,x,hx=>by
  simp only[aN,hF,aE,Bool.not_eq_true']at h;rcases l0.mp hx with rfl|hx
  ·exact⟨h.1.2,fun i hi=>bB (h.1.1 i hi)⟩
  ·exact sD nb r h.2 x hx
theorem uQ:∀(keep:List (Nat×Sh)) (T:Nat→V) (vs:List V) (u:List Value) (ρ:vB) (M:Nat→Prop) (w:World) (ev:Nat→Value),eA ρ M w vs (keep.map fun p=>ev p.1)→∀t,gA ρ M w (uC (yE keep vs) t) (ev t)
 | [],_,vs,_,ρ,M,w,ev,hr,t=>by simp only[yE,uC,gA]
 |p::r,T,[],u,ρ,M,w,ev,hr,t=>by simp only[yE,uC,gA]
 |(d,sh)::r,T,v::vs,u,ρ,M,w,ev,hr,t=>by
  simp only[k0,eA]at hr;simp only[yE,uC];cases hb:Nat.beq d t<;>simp only[cond_true,cond_false]
  ·exact uQ r T vs u ρ M w ev hr.2 t
  ·have:=qA hb;subst this;exact hr.1
theorem eA.map_fn {α:Type}{ρ:vB}{M:Nat→Prop}{w:World}(f:α→V)(g:α→Value)(h:∀x,gA ρ M w (f x) (g x)):∀l:List α,eA ρ M w (l.map f) (l.map g)
 | []=>by simp[eA]
 |x::l=>by simp only[k0,eA];exact⟨h x,eA.map_fn f g h l⟩
theorem v8 {F:Nat→Prop}{ρ ρ':vB}{h v:Nat→jA}{γ:Nat→Nat→Nat}{w:World}(ho:gB h γ v)(hh:dA F ρ v w)(hbd:Bd ρ){acc:sL}(hA:zH h acc)(hlen:acc.blks.length≤vA)(hc:tO ρ ρ' acc.src)(hρn:∀j,acc.src.length≤j→j<vA→ρ' j=none)(hρg:∀g,vA≤g→ρ' g=ρ g)
  (hB:oG h ρ ρ' (av F (cA ρ v)) w acc):
  ∃v',iq (kA acc.blks) v'∧dA F ρ' v' w∧(∀b,cA ρ' v' b→cA ρ v b)∧Bd ρ'∧∀g,vA≤g→(v' g).live→(v g).live:=by
 classical
 have hsrcOf:∀j,(kA acc.blks j).live→j<acc.src.length∧((∃id,acc.src[j]?=some (some id)∧ρ' j=ρ id∧mP (h id) (kA acc.blks j))∨(acc.src[j]?=some none∧ρ' j=some ⟨none,0,0⟩∧s8 (kA acc.blks j))):=by
  intro j hl;have hx:=sG hl;have hj:j<acc.src.length:=by rw[hA.len];exact(zE.mp hx).1
  refine⟨hj,?_⟩;cases hsj:acc.src[j]with
  |some id=>
   have h0:acc.src[j]?=some (some id):=by rw[hS hj,hsj]
   exact .inl ⟨id,h0,hc.old j id h0,hA.live j id _ h0 hx hl⟩
  |none=>
   have h0:acc.src[j]?=some none:=by rw[hS hj,hsj]
   obtain⟨x,hk,hho⟩:=hA.virt j h0;exact .inr ⟨h0,hc.nil j h0,by rw[rJ hk];exact hho⟩
 let γ':Nat→Nat→Nat:=fun j i=>match acc.src[j]? with|some (some id)=>γ id i|_=>γ j i
 have hγ':∀j id,acc.src[j]?=some (some id)→γ' j=γ id:=fun j id hj=>by funext i;simp only[γ',hj]
 have hnest:∀j k s rows hole,kA acc.blks j= .nw k s rows hole→hole=none∧j<vA∧(rows=[]∨∃id,acc.src[j]?=some (some id)∧ρ' j=ρ id∧h id= .nw k s rows none∧id<vA):=by
  intro j k s rows hole hj;obtain⟨hjl,hs⟩:=hsrcOf j (by rw[hj];trivial);have hjt:j<vA:=by rw[hA.len]at hjl;omega
  rcases hs with⟨id,q1,q2,q3,⟨q4,_⟩|⟨k1,s1,rows1,q4,q5⟩⟩|⟨_,_,⟨k1,q⟩|⟨k1,s1,q⟩⟩
  ·rw[hj]at q4;cases q4
  ·rw[hj]at q4 q5;cases q4;exact⟨rfl,hjt,.inr ⟨id,q1,q2,q5,ho.live_lt q3⟩⟩
  ·rw[hj]at q;cases q
  ·rw[hj]at q;cases q;exact⟨rfl,hjt,.inl rfl⟩
 have hlod:∀j i,xA (kA acc.blks) j i→∃id,acc.src[j]?=some (some id)∧ρ' j=ρ id∧xA h id i∧γ' j i=γ id i:=by
  rintro j i ⟨k,s,rows,hole,h1,h2,h3,h4⟩;obtain⟨rfl,_,hr|⟨id,q1,q2,q3,q4⟩⟩:=hnest _ _ _ _ _ h2
  ·subst hr;simp at h3
  ·exact⟨id,q1,q2,⟨k,s,rows,none,q4,q3,h3,fun g e=>by cases e⟩,by rw[hγ' j id q1]⟩
 let v':Nat→jA:=fun x=>if vA≤x then(if ∃j i,xA (kA acc.blks) j i∧γ' j i=x then v x else .dead)else match kA acc.blks x with| .nw k s rows hole=>.vals (fC (γ' x) s hole rows.length)|b=>b
 have hvg:∀g,vA≤g→v' g=if ∃j i,xA (kA acc.blks) j i∧γ' j i=g then v g else .dead:=fun g hg=>if_pos hg
 have hvl:∀x,x<vA→v' x=match kA acc.blks x with| .nw k s rows hole=>.vals (fC (γ' x) s hole rows.length)|b=>b:=fun x hx=>if_neg (by omega)
 have hvp:∀x,x<vA→(kA acc.blks x).isNw=false→v' x=kA acc.blks x:=fun x hx hn=>by rw[hvl x hx];cases hb:kA acc.blks x<;>rw[hb]at hn<;>first|rfl|cases hn
 have hop:gB (kA acc.blks) γ' v':=by
  refine⟨hvp,fun j k s rows hole hj e=>by rw[hvl j hj,e],fun j i k s rows hole hj e hi hh2=>?_,fun j i j2 i2 h1 h2 e=>?_,fun g hg hl=>?_,fun j hj=>?_⟩
  ·obtain⟨id,q1,q2,q3,q4⟩:=hlod j i ⟨k,s,rows,hole,hj,e,hi,hh2⟩;obtain⟨rfl,_,hr|⟨id',r1,r2,r3,r4⟩⟩:=hnest _ _ _ _ _ e
   ·subst hr;simp at hi
   ·rw[q1]at r1;simp only[Option.some.injEq]at r1;subst r1;obtain⟨a1,a2⟩:=ho.row id i k s rows none r4 r3 hi (fun g e=>by cases e);rw[q4];exact⟨a1,by rw[hvg _ a1,if_pos ⟨j,i,⟨k,s,rows,none,hj,e,hi,hh2⟩,q4⟩];exact a2⟩
  ·obtain⟨id,q1,_,q3,q4⟩:=hlod j i h1;obtain⟨id2,r1,_,r3,r4⟩:=hlod j2 i2 h2;rw[q4,r4]at e;obtain⟨a1,a2⟩:=ho.inj id i id2 i2 q3 r3 e;subst a1;exact⟨hA.nodup j j2 id q1 r1,a2⟩
  ·rw[hvg g hg]at hl;split at hl
   ·assumption
   ·exact hl.elim
  ·rw[eB,hC,pC (by omega)];rfl
 have src:∀x,(v' x).live→(∃y,ρ' x=ρ y∧(v y).live∧(∀p,ρ y=some p→tA ρ (av F (cA ρ v)) w p (v y)→tA ρ' (av F (cA ρ v)) w p (v' x))∧((x<vA∧acc.src[x]?=some (some y)∧y<vA)∨(vA≤x∧x=y)))∨(ρ' x=some ⟨none,0,0⟩∧∀M,tA ρ' M w ⟨none,0,0⟩ (v' x)):=by
  intro x hl;by_cases hx:vA≤x
  ·have e:=hvg x hx;rw[e]at hl⊢;split at hl
   ·rename_i hex;refine .inl ⟨x,hρg x hx,hl,fun p _ hp=>?_,.inr ⟨hx,rfl⟩⟩;rw[if_pos hex];obtain⟨j,i,h1,h2⟩:=hex;obtain⟨id,_,_,⟨k,s,rows,hole,q1,q2,q3,q4⟩,q5⟩:=hlod j i h1;have:=(ho.row id i k s rows hole q1 q2 q3 q4).2;rw[←q5,h2]at this;rw[this]at hp⊢;exact bG hp
   ·exact hl.elim
  ·have hx':x<vA:=by omega
   have hbl:(kA acc.blks x).live:=by rw[hvl x hx']at hl;cases hb:kA acc.blks x<;>rw[hb]at hl<;>first|trivial|exact hl
   obtain⟨hxl,hs⟩:=hsrcOf x hbl;rcases hs with⟨id,q1,q2,q3,⟨q4,q5⟩|⟨k,s,rows,q4,q5⟩⟩|⟨q1,q2,q3⟩
   ·have hid:=ho.live_lt q3;have hv:=ho.plain id hid q5;refine .inl ⟨id,q2,by rw[hv];exact q3,fun p hpp hp=>?_,.inl ⟨hx',q1,hid⟩⟩;rw[hvp x hx' q4];rw[hv]at hp;exact hB x id _ p q1 (sG hbl) hpp hp
   ·have hid:=ho.live_lt q3;rw[q4]at q5;have hv:=ho.nest id k s rows none hid q5;refine .inl ⟨id,q2,by rw[hv];trivial,fun p _ hp=>?_,.inl ⟨hx',q1,hid⟩⟩;rw[hvl x hx',q4];dsimp only;rw[hγ' x id q1];rw[hv]at hp;refine hp.agree (fun i hi p hpi=>?_);have:∀l:List Nat,(∀i∈l,vA≤γ id i)→∀i∈jD (l.map (aF (γ id) s none)),vA≤i:=by
     intro l;induction l with
     |nil=>intro _ i hi;simp[jD]at hi
     |cons a l ih=>
      intro hl i hi;simp only[k0,jD,aF,dH,List.cons_append,List.nil_append,l0]at hi;rcases hi with rfl|hi
      ·exact hl a (by simp)
      ·exact ih (fun i hi=>hl i (by simp[hi])) i hi
    rw[hρg i (this _ (fun i hi=>(ho.row id i k s rows none hid q5 (by simpa using hi) (fun g e=>by cases e)).1) i hi)];exact hpi
   ·refine .inr ⟨q2,fun M=>?_⟩;rw[hvl x hx'];rcases q3 with⟨k,q3⟩|⟨k,s,q3⟩<;>rw[q3]
    ·exact⟨rfl,.inl ⟨rfl,rfl,rfl⟩⟩
    ·exact⟨rfl,.inl ⟨rfl,rfl,rfl⟩⟩
 have hM:∀b,cA ρ' v' b→cA ρ v b:=by
  rintro b ⟨x,n,C,hp,hl⟩;rcases src x hl with⟨y,g1,g2,_⟩|⟨g1,_⟩
  ·rw[g1]at hp;exact⟨y,n,C,hp,g2⟩
  ·rw[g1]at hp;cases hp
 have hMa:∀b,av F (cA ρ' v') b→av F (cA ρ v) b:=fun b hb=>hb.imp id (hM b);refine⟨v',⟨γ',hop⟩,⟨?_,?_,?_,hh.low,fun b hb=>hh.out b (hM b hb)⟩,hM,?_,?_⟩
 ·intro j p hp;by_cases ht:vA≤j
  ·rw[hρg j ht]at hp;exact hh.wf _ _ hp
  ·cases hs:acc.src[j]? with
   |none=>
    have hj0:acc.src.length≤j:=by
     rcases Nat.lt_or_ge j acc.src.length with q|q
     ·rw[hS q]at hs;cases hs
     ·exact q
    rw[hρn j hj0 (by omega)]at hp;cases hp
   |some o=>
    cases o with
    |some id=>rw[hc.old j id hs]at hp;exact hh.wf _ _ hp
    |none=>rw[hc.nil j hs]at hp;simp only[Option.some.injEq]at hp;subst hp;exact Nat.le_refl _
 ·intro x hl;rcases src x hl with⟨y,g1,g2,g3,_⟩|⟨g1,g2⟩
  ·obtain⟨p,hp,hb⟩:=hh.rel y g2;exact⟨p,by rw[g1];exact hp,tA.avoid hMa (g3 p hp hb)⟩
  ·exact⟨_,g1,g2 _⟩
 ·intro x x' b n C n' C' hx hx' hp hp';rcases src x hx with⟨y,g1,g2,_,g3⟩|⟨g1,_⟩
  ·rcases src x' hx' with⟨y',g1',g2',_,g3'⟩|⟨g1',_⟩
   ·rw[g1]at hp;rw[g1']at hp';have:=hh.inj y y' b _ _ _ _ g2 g2' hp hp';subst this;rcases g3 with⟨a1,a2,a3⟩|⟨a1,a2⟩<;>rcases g3' with⟨b1,b2,b3⟩|⟨b1,b2⟩
    ·exact hA.nodup x x' y a2 b2
    ·omega
    ·omega
    ·omega
   ·rw[g1']at hp';cases hp'
  ·rw[g1]at hp;cases hp
 ·obtain⟨G,hG⟩:=hbd;exact⟨G+vA,fun g hg=>by rw[hρg g (by omega)];exact hG g (by omega)⟩
 ·intro g hg hl;rw[hvg g hg]at hl;split at hl
  ·exact hl
  ·exact hl.elim
theorem bm {E:nD}{S:uL}{keep:List (Nat×Sh)}{s:St}{vs:List V}{H:List jA}(hn:bl E.nb keep s=some (vs,H)){a:Act}{w:World}(hI:aS E S s a w):aS E S ⟨yE keep vs,H⟩ a w:=by
 obtain⟨ρ,v,hr,h1,h2,h3,h5,h6,h7,h4⟩:=hI;obtain⟨γ,ho⟩:=hr.opn;unfold bl at hn;split at hn
 ·rename_i vs' acc hs;obtain⟨hok0,hn⟩:=bA hn;obtain⟨hok,hlt⟩:=oA hok0;have hlt:=wC hlt;simp only[Option.some.injEq,Prod.mk.injEq]at hn;obtain⟨rfl,rfl⟩:=hn;obtain⟨⟨more,hsrc⟩,hk⟩:=cE _ _ _ _ _ hs;have hst:∀j:Nat,(oE E.nb s.H).src[j]?=if j<E.nb then some (some j)else none:=by
   intro j;simp only[oE,List.getElem?_map];by_cases hj:j<E.nb
   ·rw[n0 hj,if_pos hj];rfl
   ·rw[pC (by simp;omega),if_neg hj];rfl
  have hlen0:(oE E.nb s.H).src.length=E.nb:=by simp[oE]
  have hst2:∀j:Nat,j<E.nb→(oE E.nb s.H).blks[j]?=s.H[j]?:=fun j hj=>by simp[oE,hK,hj]
  have hin:∀(j:Nat) (x:jA),j<E.nb→s.H[j]?=some x→x∈s.H.take E.nb:=fun j x hj hx=>hN (i:=j) (by rw[hK,if_pos hj];exact hx);have hacc0:zH (kA s.H) (oE E.nb s.H):=by
   refine⟨by simp[oE,h3],?_,?_,?_⟩
   ·intro i j id hi hj;rw[hst]at hi hj;split at hi<;>split at hj<;>simp_all
   ·intro j hj;rw[hst]at hj;split at hj<;>simp at hj
   ·intro j id x hj hx hl;rw[hst]at hj;split at hj
    ·rename_i hlt;rw[hst2 j hlt]at hx;simp only[Option.some.injEq]at hj;subst hj;have hnn:=(sD _ _ hok x (hin _ _ hlt hx)).1;exact mP.plain (rJ hx) hl hnn hnn
    ·cases hj
  obtain⟨hA,hR⟩:=hk hacc0;have hsl:acc.src.length≤vA:=by rw[hA.len];exact hlt
  let ρ':vB:=fun j=>if vA≤j then ρ j else match acc.src[j]? with
   |some (some id)=>ρ id
   |some none=>some ⟨none,0,0⟩
   |none=>none
  have hlts:∀(j:Nat) o,acc.src[j]?=some o→¬vA≤j:=fun j o hj=>by have:=(zE.mp hj).1;omega
  have hc:tO ρ ρ' acc.src:=⟨fun j id hj=>by simp only[ρ',hj];rw[if_neg (hlts j _ hj)],fun j hj=>by simp only[ρ',hj];rw[if_neg (hlts j _ hj)]⟩
  have hpre:∀j,j<E.nb→acc.src[j]?=some (some j):=fun j hj=>by rw[hsrc,hQ (by rw[hlen0];exact hj),hst,if_pos hj]
  have hρ':∀j,j<E.nb→ρ' j=ρ j:=fun j hj=>hc.old j j (hpre j hj);have hb0:oG (kA s.H) ρ ρ' (av S.F (cA ρ v)) w (oE E.nb s.H):=by
   intro j id x p hj hx hp hb;rw[hst]at hj;split at hj
   ·rename_i hlt;simp only[Option.some.injEq]at hj;subst hj;rw[hst2 j hlt]at hx;rw[rJ hx]at hb;refine hb.agree (fun i hi p hp=>?_);rw[hρ' i ((sD _ _ hok x (hin _ _ hlt hx)).2 i hi)];exact hp
   ·cases hj
  have hHB:HB (kA s.H) ρ (av S.F (cA ρ v)) w:=fun id p hl hn hp=>by have hv:=ho.plain id (ho.live_lt hl) hn;obtain⟨p',hp',hb'⟩:=hr.heap.rel id (by rw[hv];exact hl);rw[hp]at hp';cases hp';rw[hv]at hb';exact hb'
  obtain⟨hB,hV⟩:=hR ρ ρ' _ w hHB hc hb0;obtain⟨v',q1,q2,q3,q4,q5⟩:=v8 ho hr.heap hr.bd hA hlt hc (fun j hj hj2=>by simp only[ρ',pC hj];rw[if_neg (by omega)]) (fun g hg=>if_pos hg) hB;have hMa:∀b,av S.F (cA ρ' v') b→av S.F (cA ρ v) b:=fun b hb=>hb.imp id (q3 b);refine⟨ρ',v',⟨q1,q4,q2,?_,hr.size,hr.defers⟩,?_,fun j hj=>by rw[hρ' j hj];exact h2 j hj,?_,hlt,fun g p hg hp=>by rw[show ρ' g=ρ g from if_pos hg];exact h6 g p hg hp,fun g hg hl=>h7 g hg (q5 g hg hl),⟨h4.size,h4.same,fun b hb=>h4.sub b (q3 b hb),h4.keeps⟩⟩
  ·intro t;refine gA.avoid hMa _ _ ?_;refine uQ keep (uC s.T) vs' [] ρ' _ w (fun t=>a.eval (.tmp t)) (hV _ ?_) t;exact eA.map_fn _ _ (fun p=>hr.tmps p.1) keep
  ·intro j hj hj2;dsimp only at hj;rw[←hA.len]at hj;simp only[ρ',pC hj];rw[if_neg (by omega)]
  ·dsimp only;rw[←hA.len,hsrc];simp[hlen0]
 ·cases hn
theorem uY {E:nD}{S:uL}{s:St}{id:Nat}{a:Act}{w:World}(hI:aS E S s a w):aS E S ⟨s.T,kP s.H id⟩ a w:=by
 unfold kP;split
 ·rename_i k s0 rows j g hid;split
  ·rename_i k' l hg;cases hk:gJ k k' with
   |false=>exact hI
   |true=>
    simp only[cond_true];have hk:=bD hk;subst hk;obtain⟨ρ,v,hr,h1,h2,h3,h5,h6,h7,h4⟩:=hI;obtain⟨γ,ho⟩:=hr.opn;have hidt:=ho.live_lt (i:=id) (by rw[hid];trivial);have hgt:=ho.live_lt (i:=g) (by rw[hg];trivial);have hidl:id<s.H.length:=(zE.mp (sG (H:=s.H) (j:=id) (by rw[hid];trivial))).1;have hgl:g<s.H.length:=(zE.mp (sG (H:=s.H) (j:=g) (by rw[hg];trivial))).1;have hne:g≠id:=fun e=>by subst e;rw[hid]at hg;cases hg
    have hH:∀x,kA (qB (qB s.H g .dead) id (.nw k s0 (rows.set j l) none)) x=if x=id then .nw k s0 (rows.set j l) none else if x=g then .dead else kA s.H x:=fun x=>by rw[cI _ _ _ (by rw[yA];exact hidl),cI _ _ _ hgl]
    obtain⟨γ',ρ',v',o1,p1,s1,q1⟩:=pJ (nid:=0) (h':=kA (qB (qB s.H g .dead) id (.nw k s0 (rows.set j l) none))) ho hr.heap hr.bd hid hidt hg hgt 0 (by rw[hH,if_pos rfl]) (by rw[hH,if_neg hne,if_pos rfl]) (fun x h1 h2=>by rw[hH,if_neg h1,if_neg h2]);refine⟨ρ',v',⟨p1.opn,p1.bd hr.bd,p1.heap,fun t=>gA.mono p1.sub p1.ext _ _ (hr.tmps t),hr.size,hr.defers⟩,?_,?_,?_,?_,?_,?_,h4.trans p1.ext⟩
    ·intro x hx hx2;dsimp only at hx;rw[yA,yA]at hx;rw[s1 x hx2];exact h1 x hx hx2
    ·intro x hx;rw[s1 x (by omega)];exact h2 x hx
    ·dsimp only;rw[yA,yA];exact h3
    ·dsimp only;rw[yA,yA];exact h5
    ·intro x p hx hp;exact p1.sub x p (h6 x p hx hp)
    ·intro x hx hl;rcases p1.fresh x hx hl with q|q
     ·exact h7 x hx q
     ·cases hr2:S.ρ x with
      |none=>rfl
      |some p=>have:=h6 x p hx hr2;rw[q]at this;cases this
  ·exact hI
 ·exact hI
theorem nR {E:nD}{S:uL}{a:Act}{w:World}:∀(l:List Nat) (s:St),aS E S s a w→aS E S ⟨s.T,aV l s.H⟩ a w
 | [],s,hI=>hI
 |i::r,s,hI=>nR r ⟨s.T,kP s.H i⟩ (uY hI)
theorem lH {E:nD}{S:uL}{keep:List (Nat×Sh)}{s:St}{vs:List V}{H:List jA}(hn:oY E.nb keep s=some (vs,H)){a:Act}{w:World}(hI:aS E S s a w):aS E S ⟨yE keep vs,H⟩ a w:=
 bm (s:=⟨s.T,cr s.H⟩) hn (nR _ s hI)
theorem bp {E:nD}{S:uL}{bsh:List (Nat×List Sh)}{keep:List (Nat×Sh)}{s:St}{vs:List V}{H:List jA}(hn:bn E.nb bsh keep s=some (vs,H)){a:Act}{w:World}(hI:aS E S s a w):aS E S ⟨yE keep vs,H⟩ a w:=by
 obtain⟨ρ,v,hr,h1,h2,h3,h5,h6,h7,h4⟩:=hI;obtain⟨γ,ho⟩:=hr.opn;unfold bn at hn;split at hn
 ·rename_i vs' acc0 hs;split at hn
  rotate_left
  ·cases hn
  rename_i acc hsB;obtain⟨hok0,hn⟩:=bA hn;obtain⟨hok,hok1⟩:=oA hok0;obtain⟨hall,hlt⟩:=oA hok1;have hlt:=wC hlt;simp only[Option.some.injEq,Prod.mk.injEq]at hn;obtain⟨rfl,rfl⟩:=hn;obtain⟨⟨more0,hsrc0⟩,hk0⟩:=cE _ _ _ _ _ hs;obtain⟨⟨more1,hsrc1⟩,hk1⟩:=mT _ _ _ hsB;have hsrc:acc.src=(List.range E.nb).map some++(more0++more1):=by rw[hsrc1,hsrc0,List.append_assoc]
  have hst:∀j:Nat,((List.range E.nb).map some)[j]?=if j<E.nb then some (some j)else none:=by
   intro j;simp only[List.getElem?_map];by_cases hj:j<E.nb
   ·rw[n0 hj,if_pos hj];rfl
   ·rw[pC (by simp;omega),if_neg hj];rfl
  have hlen0:((List.range E.nb).map some).length=E.nb:=by simp
  have hst2:∀j:Nat,j<E.nb→(gI bsh (s.H.take E.nb))[j]?=s.H[j]?∨(gI bsh (s.H.take E.nb))[j]?=some .dead:=fun j hj=>by
   rcases cO bsh (s.H.take E.nb) j with h|h
   ·exact .inl (h.trans (by simp[hK,hj]))
   ·exact .inr h
  have hacc0:zH (kA s.H) ⟨(List.range E.nb).map some,gI bsh (s.H.take E.nb)⟩:=by
   refine⟨by simp[fM,h3],?_,?_,?_⟩
   ·intro i j id hi hj;rw[hst]at hi hj;split at hi<;>split at hj<;>simp_all
   ·intro j hj;rw[hst]at hj;split at hj<;>simp at hj
   ·intro j id x hj hx hl;rw[hst]at hj;split at hj
    ·rename_i hlt;simp only[Option.some.injEq]at hj;subst hj;dsimp only at hx;have hnn:=(sD _ _ hok x (hN hx)).1;rcases hst2 j hlt with g|g
     ·rw[g]at hx;exact mP.plain (rJ hx) hl hnn hnn
     ·rw[g]at hx;simp only[Option.some.injEq]at hx;subst hx;exact hl.elim
    ·cases hj
  obtain⟨hA0,hR0⟩:=hk0 hacc0;have hpre0:∀p∈bsh,acc0.src[p.1]?=some (some p.1):=fun p hp=>by have:=aE.mp hall p hp;have:=bB this;rw[hsrc0,hQ (by rw[hlen0];exact this),hst,if_pos this]
  obtain⟨hA,hR1⟩:=hk1 hA0 hpre0;have hsl:acc.src.length≤vA:=by rw[hA.len];exact hlt
  let ρ':vB:=fun j=>if vA≤j then ρ j else match acc.src[j]? with
   |some (some id)=>ρ id
   |some none=>some ⟨none,0,0⟩
   |none=>none
  have hlts:∀(j:Nat) o,acc.src[j]?=some o→¬vA≤j:=fun j o hj=>by have:=(zE.mp hj).1;omega
  have hc:tO ρ ρ' acc.src:=⟨fun j id hj=>by simp only[ρ',hj];rw[if_neg (hlts j _ hj)],fun j hj=>by simp only[ρ',hj];rw[if_neg (hlts j _ hj)]⟩
  have hpre:∀j,j<E.nb→acc.src[j]?=some (some j):=fun j hj=>by rw[hsrc,hQ (by rw[hlen0];exact hj),hst,if_pos hj]
  have hρ':∀j,j<E.nb→ρ' j=ρ j:=fun j hj=>hc.old j j (hpre j hj);have hb0:oG (kA s.H) ρ ρ' (av S.F (cA ρ v)) w ⟨(List.range E.nb).map some,gI bsh (s.H.take E.nb)⟩:=by
   intro j id x p hj hx hp hb;rw[hst]at hj;split at hj
   ·rename_i hlt;simp only[Option.some.injEq]at hj;subst hj;dsimp only at hx;have hin:x∈gI bsh (s.H.take E.nb):=hN hx;rcases hst2 j hlt with g|g
    ·rw[g]at hx;rw[rJ hx]at hb;refine hb.agree (fun i hi p hp=>?_);rw[hρ' i ((sD _ _ hok x hin).2 i hi)];exact hp
    ·rw[g]at hx;simp only[Option.some.injEq]at hx;subst hx;trivial
   ·cases hj
  have hHB:HB (kA s.H) ρ (av S.F (cA ρ v)) w:=fun id p hl hn hp=>by have hv:=ho.plain id (ho.live_lt hl) hn;obtain⟨p',hp',hb'⟩:=hr.heap.rel id (by rw[hv];exact hl);rw[hp]at hp';cases hp';rw[hv]at hb';exact hb'
  obtain⟨hB0,hV⟩:=hR0 ρ ρ' _ w hHB (by rw[hsrc1]at hc;exact hc.pre) hb0;have hB:=hR1 ρ ρ' _ w hHB hc hB0;obtain⟨v',q1,q2,q3,q4,q5⟩:=v8 ho hr.heap hr.bd hA hlt hc (fun j hj hj2=>by simp only[ρ',pC hj];rw[if_neg (by omega)]) (fun g hg=>if_pos hg) hB;have hMa:∀b,av S.F (cA ρ' v') b→av S.F (cA ρ v) b:=fun b hb=>hb.imp id (q3 b);refine⟨ρ',v',⟨q1,q4,q2,?_,hr.size,hr.defers⟩,?_,fun j hj=>by rw[hρ' j hj];exact h2 j hj,?_,hlt,fun g p hg hp=>by rw[show ρ' g=ρ g from if_pos hg];exact h6 g p hg hp,fun g hg hl=>h7 g hg (q5 g hg hl),⟨h4.size,h4.same,fun b hb=>h4.sub b (q3 b hb),h4.keeps⟩⟩
  ·intro t;refine gA.avoid hMa _ _ ?_;refine uQ keep (uC s.T) vs' [] ρ' _ w (fun t=>a.eval (.tmp t)) (hV _ ?_) t;exact eA.map_fn _ _ (fun p=>hr.tmps p.1) keep
  ·intro j hj hj2;dsimp only at hj;rw[←hA.len]at hj;simp only[ρ',pC hj];rw[if_neg (by omega)]
  ·dsimp only;rw[←hA.len,hsrc];simp[hlen0]
 ·cases hn
section
variable {P:Program}{F:Nat→Prop}{ρ:vB}{h v:Nat→jA}{γ:Nat→Nat→Nat}{w:World}
mutual
theorem a6 (ho:gB h γ v)(hh:dA F ρ v w){nb:Nat}(hnb:nb≤vA){ρ':vB}{M':Nat→Prop}(hρ:∀i,i<nb→ρ' i=ρ i)(hM:∀b,M' b→cA ρ v b)(hM':∀b,M' b→∀id n C,nb≤id→(v id).live→ρ id≠some ⟨some b,n,C⟩):
  ∀(sh:Sh) (x x':V) (u:Value),gF nb h sh x=some x'→gA ρ (av F (cA ρ v)) w x u→gA ρ' (av F M') w x' u
 | .il k s,v0,v',u,hf,hr=>by
  have hMa:∀b,av F M' b→av F (cA ρ v) b:=fun b hb=>hb.imp id (hM b);have key:∀id b n C,nb≤id→(v id).live→ρ id=some ⟨some b,n,C⟩→¬av F M' b:=fun id b n C h1 h2 h3 hb=>hb.elim (fun hf=>hh.out b ⟨id,n,C,h3,h2⟩ hf) (fun hm=>hM' b hm id n C h1 h2 h3);unfold gF at hf;split at hf
  ·obtain⟨h0,hf⟩:=bA hf;simp only[Option.some.injEq]at hf;subst hf;simp only[gA]at hr⊢;exact⟨bB h0,by simp,.inl ⟨trivial,none,hr⟩⟩
  ·obtain⟨h0,hf⟩:=bA hf;simp only[Option.some.injEq]at hf;subst hf;have:=gA.avoid hMa _ _ hr;simpa only[gA]using this
  ·rename_i id s';obtain⟨h0,hf2⟩:=bA hf;clear hf;simp only[hF]at h0;have h1:=wC h0.1;have h2:=qA h0.2;clear h0;subst h2;split at hf2
   ·rename_i k' l hid;obtain⟨_,hf⟩:=bA hf2;simp only[Option.some.injEq]at hf;subst hf;exact(lU hh (ho.ints hid) (fun b n C hp hl=>key id b n C h1 hl hp) hr).rel
   ·cases hf2
  ·rename_i id s' off len;obtain⟨h0,hf2⟩:=bA hf;clear hf;simp only[hF]at h0;have h1:=wC h0.1;have h2:=qA h0.2;clear h0;subst h2;split at hf2
   ·rename_i k' l hid;obtain⟨_,hf⟩:=bA hf2;simp only[Option.some.injEq]at hf;subst hf;have hv:=ho.ints hid;have hl:(v id).live:=by rw[hv];trivial
    simp only[gA]at hr⊢;obtain⟨g0,⟨b,n,C,cap,g1,g2,g3,g4,g5⟩|⟨g1,a,g2⟩⟩:=hr
    ·obtain⟨c,ho',hsz,hold⟩:=hh.own hl (by rw[hv];trivial) g1;rw[hv]at hold;obtain⟨e1,e2,e3⟩:=hold;have hlen:((l.drop off).take (bE s len)).length=len*s:=by rw[zA];simp;omega
     rw[hlen];refine⟨g0,Nat.mul_mod_left _ _,.inr ⟨b,off,cap,by rw[Nat.mul_div_cancel _ g0];exact g5,by rw[Nat.mul_div_cancel _ g0];exact g3,ho'.lt,key id b n C h1 hl g1,fun j hj=>?_⟩⟩;rw[ho'.cell,e3 _ (by omega)];congr 2;simp only[hC];rw[List.getElem?_take_of_lt (by rw[zA];omega),List.getElem?_drop]
    ·subst g1;have:(l.drop off).take (bE s 0)=[]:=by rw[zA];simp
     rw[this];exact⟨g0,by simp,.inl ⟨rfl,a,g2⟩⟩
   ·cases hf2
  ·cases hf
 | .inl k s,v0,v',u,hf,hr=>by
  have hMa:∀b,av F M' b→av F (cA ρ v) b:=fun b hb=>hb.imp id (hM b);have key:∀id b n C,nb≤id→(v id).live→ρ id=some ⟨some b,n,C⟩→¬av F M' b:=fun id b n C h1 h2 h3 hb=>hb.elim (fun hf=>hh.out b ⟨id,n,C,h3,h2⟩ hf) (fun hm=>hM' b hm id n C h1 h2 h3);unfold gF at hf;split at hf
  ·obtain⟨h0,hf⟩:=bA hf;simp only[Option.some.injEq]at hf;subst hf;simp only[gA]at hr⊢;exact .inl ⟨trivial,none,hr⟩
  ·obtain⟨h0,hf⟩:=bA hf;simp only[Option.some.injEq]at hf;subst hf;have:=gA.avoid hMa _ _ hr;simpa only[gA]using this
  ·rename_i id w1;obtain⟨h0,hf2⟩:=bA hf;clear hf;simp only[hF]at h0;have h1:=wC h0.1;have h2:=qA h0.2;clear h0;subst h2;split at hf2
   ·rename_i k' s' rows hid;obtain⟨hc,hf⟩:=bA hf2;simp only[Option.some.injEq]at hf;subst hf;have:gA ρ (av F M') w (.inl k' s' rows) u:=br ho hh hid (fun g hg b n C hp hl=>?_) hr
    ·simpa only[gA]using this
    ·refine key g b n C ?_ hl hp;rcases hg with hg|⟨j,i,_,⟨k1,s1,rows1,hole1,q1,q2,q3,q4⟩,e⟩
     ·simp only[List.mem_singleton]at hg;omega
     ·have:=(ho.row j i k1 s1 rows1 hole1 q1 q2 q3 q4).1;omega
   ·cases hf2
  ·cases hf
 | .recd ss,v,v',u,hf,hr=>by
  unfold gF at hf;split at hf
  ·rename_i cs;split at hf
   ·rename_i cs' hL;simp only[Option.some.injEq]at hf;subst hf;simp only[gA]at hr⊢;obtain⟨vs,e,hr⟩:=hr;exact⟨vs,e,xG ho hh hnb hρ hM hM' ss cs cs' _ hL hr⟩
   ·cases hf
  ·cases hf
 | .tup ss,v,v',u,hf,hr=>by
  unfold gF at hf;split at hf
  ·rename_i cs;split at hf
   ·rename_i cs' hL;simp only[Option.some.injEq]at hf;subst hf;simp only[gA]at hr⊢;obtain⟨vs,e,hr⟩:=hr;exact⟨vs,e,xG ho hh hnb hρ hM hM' ss cs cs' _ hL hr⟩
   ·cases hf
  ·cases hf
 | .any,v,v',u,hf,hr=>by simp only[gF]at hf;obtain⟨h0,hf⟩:=bA hf;simp only[Option.some.injEq]at hf;subst hf;simp only[aE]at h0;exact gA.avoid (fun b hb=>hb.imp id (hM b)) _ _ (hr.agree _ _ (fun i hi p hp=>by rw[hρ i (bB (h0 i hi))];exact hp))
 | .row _ _,v,v',u,hf,hr=>by simp only[gF]at hf;obtain⟨h0,hf⟩:=bA hf;simp only[Option.some.injEq]at hf;subst hf;simp only[aE]at h0;exact gA.avoid (fun b hb=>hb.imp id (hM b)) _ _ (hr.agree _ _ (fun i hi p hp=>by rw[hρ i (bB (h0 i hi))];exact hp))
 | .part _ _,v,v',u,hf,hr=>by simp only[gF]at hf;obtain⟨h0,hf⟩:=bA hf;simp only[Option.some.injEq]at hf;subst hf;simp only[aE]at h0;exact gA.avoid (fun b hb=>hb.imp id (hM b)) _ _ (hr.agree _ _ (fun i hi p hp=>by rw[hρ i (bB (h0 i hi))];exact hp))
 | .nrow _ _,v,v',u,hf,hr=>by simp only[gF]at hf;obtain⟨h0,hf⟩:=bA hf;simp only[Option.some.injEq]at hf;subst hf;simp only[aE]at h0;exact gA.avoid (fun b hb=>hb.imp id (hM b)) _ _ (hr.agree _ _ (fun i hi p hp=>by rw[hρ i (bB (h0 i hi))];exact hp))
 | .vrows _ _,v,v',u,hf,hr=>by simp only[gF]at hf;obtain⟨h0,hf⟩:=bA hf;simp only[Option.some.injEq]at hf;subst hf;simp only[aE]at h0;exact gA.avoid (fun b hb=>hb.imp id (hM b)) _ _ (hr.agree _ _ (fun i hi p hp=>by rw[hρ i (bB (h0 i hi))];exact hp))
 | .vrow _,v,v',u,hf,hr=>by simp only[gF]at hf;obtain⟨h0,hf⟩:=bA hf;simp only[Option.some.injEq]at hf;subst hf;simp only[aE]at h0;exact gA.avoid (fun b hb=>hb.imp id (hM b)) _ _ (hr.agree _ _ (fun i hi p hp=>by rw[hρ i (bB (h0 i hi))];exact hp))
 | .fnc _,v,v',u,hf,hr=>by simp only[gF]at hf;obtain⟨h0,hf⟩:=bA hf;simp only[Option.some.injEq]at hf;subst hf;simp only[aE]at h0;exact gA.avoid (fun b hb=>hb.imp id (hM b)) _ _ (hr.agree _ _ (fun i hi p hp=>by rw[hρ i (bB (h0 i hi))];exact hp))
 | .box _,v,v',u,hf,hr=>by simp only[gF]at hf;obtain⟨h0,hf⟩:=bA hf;simp only[Option.some.injEq]at hf;subst hf;simp only[aE]at h0;exact gA.avoid (fun b hb=>hb.imp id (hM b)) _ _ (hr.agree _ _ (fun i hi p hp=>by rw[hρ i (bB (h0 i hi))];exact hp))
theorem xG (ho:gB h γ v)(hh:dA F ρ v w){nb:Nat}(hnb:nb≤vA){ρ':vB}{M':Nat→Prop}(hρ:∀i,i<nb→ρ' i=ρ i)(hM:∀b,M' b→cA ρ v b)(hM':∀b,M' b→∀id n C,nb≤id→(v id).live→ρ id≠some ⟨some b,n,C⟩):
  ∀(ss:List Sh) (vs vs':List V) (us:List Value),iF nb h ss vs=some vs'→eA ρ (av F (cA ρ v)) w vs us→eA ρ' (av F M') w vs' us
 | [],[],vs',us,hf,hr=>by simp only[iF,Option.some.injEq]at hf;subst hf;cases us<;>simp_all[eA]
 |s::ss,v::vs,vs',us,hf,hr=>by
  unfold iF at hf;split at hf
  ·rename_i v1 h1;split at hf
   ·rename_i vs1 h2;simp only[Option.some.injEq]at hf;subst hf;cases us with
    |nil=>simp only[eA]at hr
    |cons u us=>simp only[eA]at hr⊢;exact⟨a6 ho hh hnb hρ hM hM' s v v1 u h1 hr.1,xG ho hh hnb hρ hM hM' ss vs vs1 us h2 hr.2⟩
   ·cases hf
  ·cases hf
 | [],_::_,vs',us,hf,hr=>by simp[iF]at hf
 |_::_,[],vs',us,hf,hr=>by simp[iF]at hf
end
theorem iP {E:nD}(hty:sC P E.ty){s:St}{a:Act}(hr:lV E F ρ (uC s.T) (kA s.H) v a w):∀(rs:List ResultVar) (vs:List V),pY E s rs=some vs→
  ∃us,eA ρ (av F (cA ρ v)) w vs us∧(rs.mapM (m:=Sem) fun
   | .tmp t=>pure (a.tmps.getD t undef)
   | .cell x t=>do loadVar t (←asAddr (a.tmps.getD x undef))).run P w= .ok us w
 | [],vs,h=>by simp only[pY,Option.some.injEq]at h;subst h;exact⟨[],by simp[eA],by simp⟩
 | .tmp t::r,vs,h=>by
  simp only[pY]at h;split at h
  ·rename_i vs1 h1;simp only[Option.some.injEq]at h;subst h;obtain⟨us,g1,g2⟩:=iP hty hr r vs1 h1;refine⟨_::us,⟨hr.tmps t,g1⟩,?_⟩;simp only[List.mapM_cons,hT,hW,hX,g2,Act.eval]
  ·cases h
 | .cell x t::r,vs,h=>by
  simp only[pY]at h;split at h
  ·rename_i ti id off ext hti hx;obtain⟨h0,h⟩:=bA h;simp only[hF]at h0;have hle:=wC h0.1;have hpos:=bB h0.2;split at h
   ·rename_i v1 vs1 hv h1;simp only[Option.some.injEq]at h;subst h;obtain⟨us,g1,g2⟩:=iP hty hr r vs1 h1;have hx':=hr.tmps x;rw[hx]at hx';simp only[gA]at hx';obtain⟨b,n,C,hp,hn,he⟩:=hx';obtain⟨γ,ho⟩:=hr.opn;have hvh:v id=kA s.H id:=by
     cases hb:kA s.H id with
     |dead=>rw[hb]at hv;simp[kD]at hv
     |nw _ _ _ _=>rw[hb]at hv;simp[kD]at hv
     |_=>rw[←hb];exact ho.plain id (ho.live_lt (by rw[hb];trivial)) (by rw[hb];rfl)
    have hlive:(v id).live:=by
     rw[hvh];cases hb:kA s.H id with
     |dead=>rw[hb]at hv;simp[kD]at hv
     |_=>trivial
    rw[←hvh]at hv;have h0':=hty _ _ hti;obtain⟨v,r1,r2⟩:=wI (b:=b) (o:=0) h0' hpos (hr.heap.cellsAt hlive hp) (by omega) hv h0'.one;rw[Nat.zero_add]at r1;refine⟨v::us,⟨r2,g1⟩,?_⟩;simp only[Act.eval]at he;have ha:(asAddr (a.tmps.getD x undef)).run P w= .ok ⟨b,off,none⟩ w:=by rw[he];rfl
    simp only[List.mapM_cons,hT,hW,hX,ha,r1,g2]
   ·cases h
  ·cases h
theorem bu {vs:List V}{us:List Value}{M:Nat→Prop}(hr:eA ρ M w vs us):gA ρ M w (one vs) (if h:us.toArray.size=1 then us.toArray[0]else .tuple us.toArray):=by
 have hl:=hr.length;unfold one;split
 ·rename_i v;cases us with
  |nil=>simp at hl
  |cons u us=>
   cases us with
   |nil=>simp only[eA]at hr;simpa using hr.1
   |cons=>simp at hl
 ·rename_i h1;have hne:¬us.toArray.size=1:=by
   intro he;simp at he;rw[←hl]at he;obtain⟨v,hv⟩:=List.length_eq_one_iff.mp he;exact h1 v hv
  rw[dif_neg hne];simp only[gA];exact⟨_,rfl,by simpa using hr⟩
theorem yJ:∀(vs:List V) (us:List Value) (i t:Nat) (ρ:vB) (M:Nat→Prop) (w:World) (d:Value),eA ρ M w vs us→gA ρ M w (uC (zJ i vs) t) (if i≤t∧t<i+us.length then us.getD (t-i) undef else d)
 | [],us,i,t,ρ,M,w,d,hr=>by simp only[zJ,uC,gA]
 |v::vs,[],i,t,ρ,M,w,d,hr=>by simp only[eA]at hr
 |v::vs,u::us,i,t,ρ,M,w,d,hr=>by
  simp only[eA]at hr;simp only[zJ,uC];cases hb:Nat.beq i t<;>simp only[cond_true,cond_false]
  ·have hne:i≠t:=fun e=>by subst e;simp at hb
   have:=yJ vs us (i+1) t ρ M w d hr.2;by_cases hc:i≤t∧t<i+(us.length+1)
   ·rw[if_pos (by omega)]at this;rw[if_pos (by simp;omega)];have e:t-i=(t- (i+1))+1:=by omega
    rw[e];simpa using this
   ·rw[if_neg (by omega)]at this;rw[if_neg (by simp;omega)];exact this
  ·have:=qA hb;subst this;rw[if_pos (by simp)];simpa using hr.1
theorem pM {ρ:vB}{M:Nat→Prop}{w:World}:∀(i:Nat) (ss:List Sh) (vs:List V) (us:List Value),vs.length=ss.length→us.length=ss.length→(∀t,gA ρ M w (uC (yE (mX i ss) vs) (i+t)) (us.getD t undef))→eA ρ M w vs us
 |i,[],[],[],_,_,_=>by simp only[eA]
 |i,s::ss,v::vs,u::us,h1,h2,h=>by
  simp only[eA];have h0:=h 0;simp only[mX,yE,uC,Nat.add_zero,Nat.beq_refl,cond_true]at h0;refine⟨by simpa using h0,pM (i+1) ss vs us (by simpa using h1) (by simpa using h2) fun t=>?_⟩;have ht:=h (t+1);have hb:Nat.beq i (i+(t+1))=false:=by
   cases hc:Nat.beq i (i+(t+1))with
   |false=>rfl
   |true=>have:=qA hc;omega
  simp only[mX,yE,uC,hb,cond_false]at ht;have e:i+1+t=i+(t+1):=by omega
  rw[e];simpa using ht
 |i,[],_::_,_,h1,_,_=>by simp at h1
 |i,_::_,[],_,h1,_,_=>by simp at h1
 |i,[],[],_::_,_,h2,_=>by simp at h2
 |i,_::_,_::_,[],_,h2,_=>by simp at h2
def fg (P:Program)(fn:Func)(S:uL)(v:V)(bs:List jA)(a:Act)(w:World):Prop:=
 a.defers=[]∧∃u,(results fn a.tmps).run P w= .ok u w∧uM S.F S.ρ S.bs S.w v bs u w
theorem ai {E:nD}{fn:Func}(hty:sC P E.ty)(hres:E.res=fn.results.toList){S:uL}(hnb:E.nb=S.bs.length){s:St}{v:V}{bs:List jA}(hf:xJ E s=some (v,bs)){a:Act}(hI:aS E S s a w):fg P fn S v bs a w:=by
 obtain⟨ρ,v,hr,h1,h2,h3,h5,h6,h7,h4⟩:=hI;obtain⟨γ,ho⟩:=hr.opn;refine⟨hr.defers,?_⟩;unfold xJ at hf;split at hf
 ·cases hf
 ·rename_i vs hvs;have hf0:=hf;clear hf;cases hrow:E.own<;>rw[hrow]at hf0<;>simp only[cond_true,cond_false]at hf0
  rotate_left
  ·split at hf0
   ·cases hf0
   ·rename_i vs' H' hn;obtain⟨hok,hf⟩:=bA hf0;simp only[Option.some.injEq,Prod.mk.injEq]at hf;obtain⟨rfl,rfl⟩:=hf;simp only[hF]at hok;have hl1:=qA hok.1;have hl2:=qA hok.2;obtain⟨us,g1,g2⟩:=iP hty hr _ _ hvs;have hlu:=g1.length;refine⟨if h:us.toArray.size=1 then us.toArray[0]else .tuple us.toArray,?_,?_⟩
    ·unfold results;rw[←j0 (xs:=fn.results),List.mapM_toArray,←hres];simp only[bind_map_left,hT,hW];exact(congrArg (fun r=>Result.andThen r _) g2).trans rfl
    ·have hev:∀t,Act.eval ⟨us.toArray,[]⟩ (.tmp t)=us.getD t undef:=fun t=>by simp[Act.eval,hC]
     have hI1:aS {E with ntmps:=us.length} S ⟨zJ 0 vs,s.H⟩ ⟨us.toArray,[]⟩ w:=by
      refine⟨ρ,v,⟨hr.opn,hr.bd,hr.heap,fun t=>?_,by simp,rfl⟩,h1,h2,h3,h5,h6,h7,h4⟩;have:=yJ vs us 0 t ρ (av S.F (cA ρ v)) w undef g1;rw[hev];dsimp only;split at this
      ·simpa using this
      ·rename_i hge;have:us.getD t undef=undef:=by
        rw[hC,pC (by omega)];rfl
       rw[this];assumption
     obtain⟨ρ',v',k1,k2,k3,k4,k6,k7,k8,k5⟩:=bp (E:={E with ntmps:=us.length}) hn hI1;refine⟨ρ',v',fun j hj=>k3 j (by dsimp only;omega),k7,k2,k1.bd,k6,k8,k1.opn,k1.heap,bu (pM 0 E.rsh vs' us hl2 (by omega) fun t=>?_),k5⟩;have:=k1.tmps t;rw[hev]at this;rw[Nat.zero_add];exact this
  have hf:=hf0;clear hf0;split at hf
  ·cases hf
  ·rename_i vs' hfz;obtain⟨hok,hf⟩:=bA hf;simp only[Option.some.injEq,Prod.mk.injEq]at hf;obtain⟨rfl,rfl⟩:=hf;obtain⟨us,g1,g2⟩:=iP hty hr _ _ hvs;refine⟨if h:us.toArray.size=1 then us.toArray[0]else .tuple us.toArray,?_,?_⟩
   ·unfold results;rw[←j0 (xs:=fn.results),List.mapM_toArray,←hres];simp only[bind_map_left,hT,hW];exact(congrArg (fun r=>Result.andThen r _) g2).trans rfl
   ·let ρ':vB:=fun j=>if j<E.nb∨vA≤j then ρ j else none
    have hnbt:E.nb≤vA:=by omega
    have hρ':∀j,j<E.nb→ρ' j=ρ j:=fun j hj=>if_pos (.inl hj);have hρg:∀g,vA≤g→ρ' g=ρ g:=fun g hg=>if_pos (.inr hg);have hbt:∀j,kA (s.H.take E.nb) j=if j<E.nb then kA s.H j else .dead:=fun j=>by rw[eB,eB,hC,hC,hK];split<;>rfl
    have hin:∀j,j<E.nb→(kA s.H j).live→kA s.H j∈s.H.take E.nb:=fun j hj hl=>hN (i:=j) (by rw[hK,if_pos hj];exact sG hl);have hnn:∀j,(kA (s.H.take E.nb) j).isNw=false:=fun j=>by
     rw[hbt];split
     ·rename_i hj;cases hb:(kA s.H j).isNw with
      |false=>rfl
      |true=>obtain⟨k,s0,rows,hole,e⟩:=fP hb;have:=(sD _ _ hok _ (hin j hj (by rw[e];trivial))).1;rw[hb]at this;cases this
     ·rfl
    have hlive:∀j,(kA (s.H.take E.nb) j).live→j<E.nb∧(kA s.H j).live∧v j=kA s.H j:=fun j hl=>by
     have hn:=hnn j;rw[hbt]at hl hn;split at hl
     ·rename_i hj;rw[if_pos hj]at hn;exact⟨hj,hl,ho.plain j (by omega) hn⟩
     ·exact hl.elim
    have hM:∀b,cA ρ' (kA (s.H.take E.nb)) b→cA ρ v b:=by rintro b ⟨j,n,C,hp,hl⟩;obtain⟨k1,k2,k3⟩:=hlive j hl;rw[hρ' j k1]at hp;exact⟨j,n,C,hp,by rw[k3];exact k2⟩
    have hMa:∀b,av S.F (cA ρ' (kA (s.H.take E.nb))) b→av S.F (cA ρ v) b:=fun b hb=>hb.imp id (hM b);have htl:(s.H.take E.nb).length=E.nb:=by simp[h3]
    refine⟨ρ',kA (s.H.take E.nb),fun j hj=>?_,fun g p hg hp=>by rw[hρg g hg];exact h6 g p hg hp,fun j hj hj2=>?_,?_,by omega,fun g hg hl=>?_,⟨_,gB.flat hnn (fun j hj=>by rw[hbt,if_neg (by omega)])⟩,⟨?_,?_,?_,hr.heap.low,fun b hb=>hr.heap.out b (hM b hb)⟩,?_,⟨h4.size,h4.same,fun b hb=>h4.sub b (hM b hb),h4.keeps⟩⟩
    ·rw[hρ' j (by omega)];exact h2 j (by omega)
    ·exact if_neg (by omega)
    ·obtain⟨G,hG⟩:=hr.bd;exact⟨G+vA,fun g hg=>by rw[hρg g (by omega)];exact hG g (by omega)⟩
    ·have:=(hlive g hl).1;omega
    ·intro j p hp;simp only[ρ']at hp;split at hp
     ·exact hr.heap.wf _ _ hp
     ·cases hp
    ·intro j hl;obtain⟨k1,k2,k3⟩:=hlive j hl;obtain⟨p,hp,hb⟩:=hr.heap.rel j (by rw[k3];exact k2);refine⟨p,by rw[hρ' j k1];exact hp,?_⟩;rw[hbt,if_pos k1];rw[k3]at hb;refine tA.avoid hMa (hb.agree (fun i hi p hp=>?_));rw[hρ' i ((sD _ _ hok _ (hin j k1 k2)).2 i hi)];exact hp
    ·intro i j b n C n' C' hi hj hpi hpj;obtain⟨k1,k2,k5⟩:=hlive i hi;obtain⟨k3,k4,k6⟩:=hlive j hj;rw[hρ' i k1]at hpi;rw[hρ' j k3]at hpj;exact hr.heap.inj i j b _ _ _ _ (by rw[k5];exact k2) (by rw[k6];exact k4) hpi hpj
    ·refine bu (xG ho hr.heap hnbt hρ' hM ?_ _ _ _ _ hfz g1);rintro b ⟨j,n,C,hp,hl⟩ id n' C' hid hli hpi;obtain⟨k1,k2,k3⟩:=hlive j hl;rw[hρ' j k1]at hp;have:=hr.heap.inj j id b _ _ _ _ (by rw[k3];exact k2) hli hp hpi;omega
end
def wU (P:Program)(body:Code)(Q:Exit→Act→World→Prop):Nat→Code→Act→World→Prop
 |0,_,_,_=>False
 |n+1,c,a,w=>c.wp P (fun e a' w'=>match e with
  | .goto l=>∃rest,findLabel body l=some rest∧wU P body Q n rest a' w'
  |e=>Q e a' w') a w
theorem kJ {P:Program}{body:Code}{Q:Exit→Act→World→Prop}{a:Act}{w:World}(n:Nat)(h:wU P body Q n body a w):(Code.scope body).wp P Q a w:=by
 intro b k cs;have key:∀n c a w,wU P body Q n c a w→∃e a' w',Q e a' w'∧Arrives P (lone (b.at a (.code c:: .inScope body::k)) cs w) b k cs e a' w':=by
  intro n;induction n with
  |zero=>intro c a w h;exact h.elim
  |succ n ih=>
   intro c a w h;obtain⟨e,a₁,w₁,hq,harr⟩:=h b (.inScope body::k) cs;cases e with
   |normal=>exact⟨.normal,a₁,w₁,hq,Steps.trans harr (.one step_inScope)⟩
   |exit id=>exact⟨.exit id,a₁,w₁,hq,fun k' hk=>harr k' (by simp[exitTo,hk])⟩
   |goto l=>obtain⟨rest,hf,hp⟩:=hq;obtain⟨e₂,a₂,w₂,hq₂,harr₂⟩:=ih rest a₁ w₁ hp;exact⟨e₂,a₂,w₂,hq₂,.of_steps (harr _ (by simp[gotoIn,hf])) harr₂⟩
   |ret=>exact⟨_,a₁,w₁,hq,harr⟩
   |panic ch=>exact⟨_,a₁,w₁,hq,harr⟩
   |outgrown=>exact⟨_,a₁,w₁,hq,harr⟩
 obtain⟨e,a₁,w₁,hq,harr⟩:=key n body a w h;exact⟨e,a₁,w₁,hq,.of_steps (.one step_scope) harr⟩
theorem fH:∀(c:Code) (l:Nat) (rest:Code),findLabel c l=some rest→∀x∈fA rest,x∈fA c
 | .seq a b,l,rest,h,x,hx=>by
  simp only[findLabel]at h;split at h
  ·rename_i r hr;simp only[Option.some.injEq]at h;subst h;simp only[fA,List.mem_append]at hx⊢;exact hx.imp (fH a l r hr x) (fun y=>y)
  ·simp only[fA,List.mem_append];exact .inr (fH b l rest h x hx)
 | .label l',l,rest,h,x,hx=>by
  simp only[findLabel]at h;split at h
  ·simp only[Option.some.injEq]at h;subst h;simp[fA]at hx
  ·cases h
 | .skip,_,_,h,_,_=>by simp[findLabel]at h
 | .region ..,_,_,h,_,_=>by simp[findLabel]at h
 | .cond ..,_,_,h,_,_=>by simp[findLabel]at h
 | .block ..,_,_,h,_,_=>by simp[findLabel]at h
 | .loop ..,_,_,h,_,_=>by simp[findLabel]at h
 | .scope ..,_,_,h,_,_=>by simp[findLabel]at h
 | .exit ..,_,_,h,_,_=>by simp[findLabel]at h
 | .goto ..,_,_,h,_,_=>by simp[findLabel]at h
 | .ret,_,_,h,_,_=>by simp[findLabel]at h
 | .rangeFunc ..,_,_,h,_,_=>by simp[findLabel]at h
 | .refuse ..,_,_,h,_,_=>by simp[findLabel]at h
section
variable {P:Program}{fn:Func}{E:nD}
def Is (P:Program)(fn:Func)(E:nD)(S:uL):Ex→St→Exit→Act→World→Prop
 | .normal,s,x,a,w=>x= .normal∧aS E S s a w
 | .exit i,s,x,a,w=>x= .exit i∧aS E S s a w
 | .goto l,s,x,a,w=>x= .goto l∧aS E S s a w
 | .ret v bs,_,x,a,w=>x= .ret∧fg P fn S v bs a w
def fy (P:Program)(fn:Func)(E:nD)(c:Code)(s:St){R:Type}(k:Ex→St→Option R)(r:R):Prop:=
 ∀S a w,E.nb=S.bs.length→aS E S s a w→c.wp P (fun x a' w'=>∃ex s',k ex s'=some r∧Is P fn E S ex s' x a' w') a w
def dD (P:Program)(fn:Func)(E:nD):Code→Prop
 | .loop b=>∀e hd,E.cut (zD b)=some e→E.hint (zD b)=some hd→∀(R:Type) vs H (k:Ex→St→Option R) r,e.run vs H k=some r→fy P fn E (.loop b) ⟨yE hd.keep vs,H⟩ k r
 | .scope b=>∀e hd,E.cut (1000000+zD b)=some e→E.hint (1000000+zD b)=some hd→∀(R:Type) vs H (k:Ex→St→Option R) r,e.run vs H k=some r→fy P fn E (.scope b) ⟨yE hd.keep vs,H⟩ k r
 |_=>True
def bP (P:Program)(fn:Func)(E:nD)(c:Code)(f:{R:Type}→St→(Ex→St→Option R)→Option R):Prop:=
 ∀(R:Type) s (k:Ex→St→Option R) r,f s k=some r→fy P fn E c s k r
theorem x5 {b:Code}{hd:fE}{f:{R:Type}→St→(Ex→St→Option R)→Option R}(hf:bP P fn E b f){R:Type}:∀(n:Nat) (vs:List V) (H:List jA) (k:Ex→St→Option R) (r:R),jC E.nb hd f n vs H k=some r→
  ∀S a w,E.nb=S.bs.length→aS E S ⟨yE hd.keep vs,H⟩ a w→Code.rounds P b (fun x a' w'=>∃ex s',k ex s'=some r∧Is P fn E S ex s' x a' w') n a w:=by
 intro n;induction n with
 |zero=>intro vs H k r h;cases h
 |succ n ih=>
  intro vs H k r h S a w hnb hI;unfold jC at h;rw[rounds_succ];refine wp_mono (hf R _ _ _ h S a w hnb hI) ?_;rintro x a' w' ⟨ex,s1,h1,h2⟩;cases ex with
  |normal=>
   obtain⟨rfl,hI'⟩:=h2;dsimp only at h1;split at h1
   ·rename_i vs' H' hn;exact ih _ _ _ _ h1 S a' w' hnb (lH hn hI')
   ·cases h1
  |ret v bs=>obtain⟨rfl,hI'⟩:=h2;exact⟨.ret v bs,.nil,h1,rfl,hI'⟩
  |exit i=>
   obtain⟨rfl,hI'⟩:=h2;dsimp only at h1;split at h1
   ·rename_i vs' H' hn;exact⟨.exit i,_,h1,rfl,lH hn hI'⟩
   ·cases h1
  |goto l=>
   obtain⟨rfl,hI'⟩:=h2;dsimp only at h1;split at h1
   ·rename_i vs' H' hn;exact⟨.goto l,_,h1,rfl,lH hn hI'⟩
   ·cases h1
theorem qZ {b:Code}{hd:fE}{f:{R:Type}→St→(Ex→St→Option R)→Option R}(hf:bP P fn E b f){R:Type}{n:Nat}{vs:List V}{H:List jA}{k:Ex→St→Option R}{r:R}(h:jC E.nb hd f n vs H k=some r):
  fy P fn E (.loop b) ⟨yE hd.keep vs,H⟩ k r:=fun S a w hnb hI=>wp_loop_rounds n (x5 hf n vs H k r h S a w hnb hI)
theorem gQ {body:Code}{hd:fE}{f:{R:Type}→Code→St→(Ex→St→Option R)→Option R}(hf:∀c,(∀x∈fA c,x∈fA body)→bP P fn E c (fun s k=>f c s k)){R:Type}:∀(n:Nat) (c:Code) (vs:List V) (H:List jA) (k:Ex→St→Option R) (r:R),(∀x∈fA c,x∈fA body)→
  qI E.nb hd f body n c vs H k=some r→∀S a w,E.nb=S.bs.length→aS E S ⟨yE hd.keep vs,H⟩ a w→wU P body (fun x a' w'=>∃ex s',k ex s'=some r∧Is P fn E S ex s' x a' w') n c a w:=by
 intro n;induction n with
 |zero=>intro c vs H k r _ h;cases h
 |succ n ih=>
  intro c vs H k r hsub h S a w hnb hI;unfold qI at h;refine wp_mono (hf c hsub R _ _ _ h S a w hnb hI) ?_;rintro x a' w' ⟨ex,s1,h1,h2⟩;cases ex with
  |goto l=>
   obtain⟨rfl,hI'⟩:=h2;dsimp only at h1;split at h1
   ·rename_i rest hrest;split at h1
    ·rename_i vs' H' hn;exact⟨rest,hrest,ih rest _ _ _ _ (fH body l rest hrest) h1 S a' w' hnb (lH hn hI')⟩
    ·cases h1
   ·cases h1
  |ret v bs=>obtain⟨rfl,hI'⟩:=h2;exact⟨.ret v bs,.nil,h1,rfl,hI'⟩
  |normal=>
   obtain⟨rfl,hI'⟩:=h2;dsimp only at h1;split at h1
   ·rename_i vs' H' hn;exact⟨.normal,_,h1,rfl,lH hn hI'⟩
   ·cases h1
  |exit i=>
   obtain⟨rfl,hI'⟩:=h2;dsimp only at h1;split at h1
   ·rename_i vs' H' hn;exact⟨.exit i,_,h1,rfl,lH hn hI'⟩
   ·cases h1
theorem xX {R:Type}{n:Nat}{f:Nat→Option R}{r:R}(h:aa n f=some r):∀i,i<n→f i=some r:=by
 unfold aa at h;split at h
 ·rename_i hx;simp only[Option.some.injEq]at h;rw[←h];exact Classical.choose_spec hx.2
 ·cases h
theorem bR {id:Nat}{ops:Array Oper}{it:Operand}{d1 d2:Nat}(hn:gY ops.toList=some (it,d1,d2))(h1:Nat.blt d1 E.ntmps=true)(h2:Nat.blt d2 E.ntmps=true){s:St}{R:Type}{k:St→Option R}{r:R}(hr:yX d1 d2 (fk s.T it) s.T s.H k=some r):
  ∀S a w,aS E S s a w→(Code.region id ops false).wp P (fun x a' w'=>x= .normal∧∃s',k s'=some r∧aS E S s' a' w') a w:=by
 intro S a w hI;unfold gY at hn;split at hn
 ·rename_i l o1 o2 hops;split at hn
  ·rename_i it' t0 t d2' e1 e2 e3 e4 e5 e6;obtain⟨ht,hn⟩:=bA hn;have ht:=qA ht;subst ht;simp only[Option.some.injEq,Prod.mk.injEq]at hn;obtain⟨rfl,rfl,rfl⟩:=hn;obtain rfl:ops= #[o1,o2]:=by apply Array.ext';simpa using hops
   obtain⟨ρ,v0,hrep,q1,q2,q3,q5,q6,q7,q4⟩:=hI;obtain⟨γ,ho⟩:=hrep.opn;unfold yX at hr;split at hr
   ·rename_i idd ext hit;split at hr
    ·rename_i mid vC rem cur hid;split at hr
     rotate_left
     ·cases hr
     rename_i kd n ks vs hmid;obtain⟨hcn,hr0⟩:=bA hr;clear hr;have hr:=hr0;clear hr0;have hcn:=qA hcn;have hev:=hrep.ev it';rw[←cU,hit]at hev;have hwanted:∀(o:Oper) (h:o.guard=none) (y:Nat→Option Bool),Region.wanted o y=true:=fun o h y=>by unfold Region.wanted;rw[h]
     have hl:idd<s.H.length:=by
      rcases Nat.lt_or_ge idd s.H.length with h|h
      ·exact h
      ·have h0:s.H[idd]?=none:=pC h;rw[eB,hC,h0]at hid;cases hid
     have xJ:∀(b:Bool) (v:Value) (w':World) (H':List jA) (v1:Nat→jA),(Instr.next (a.eval it') false o1.type).run P w= .ok v w'→(Instr.extract v 0).run P w'= .ok (.bool b) w'→H'.length=s.H.length→
       gB (kA H') γ v1→(∀g,vA≤g→v1 g=v0 g)→dA S.F ρ v1 w'→iE (cA ρ v0) w (cA ρ v1) w'→k ⟨(d2',.c (.bool b))::(t,.poison)::s.T,H'⟩=some r→
       (Code.region id #[o1,o2] false).wp P (fun x a' w'=>x= .normal∧∃s',k s'=some r∧aS E S s' a' w') a w:=by
      intro b v w' H' v1 hrun hext hlen ho1 hg1 hh he hk;have r1:lV E S.F ρ (uC s.T) (kA H') v1 a w':=hrep.put (yH.refl _) ⟨γ,ho1⟩ hrep.bd hh he (d:=none) rfl (x:=.poison) (u:=.bool b) (by simp only[gA]);have r2:=r1.put (yH.refl _) ⟨γ,ho1⟩ hrep.bd hh (iE.refl _ _) (d:=some t) h1 (x:=.poison) (u:=v) (by simp only[gA]);have r3:=r2.put (yH.refl _) ⟨γ,ho1⟩ hrep.bd hh (iE.refl _ _) (d:=some d2') h2 (x:=.c (.bool b)) (u:=.bool b) (gA.of_c _);have hev1:(a.put (some t) v).eval (.tmp t)=v:=by
       have hlt:t<a.tmps.size:=by rw[hrep.size];exact bB h1
       simp only[Act.put,Act.eval];rw[c0,Array.getElem?_setIfInBounds_self_of_lt hlt];rfl
      refine wp_region ?_;show wpOps P #[o1,o2] _ [0,1] a w;rw[wpOps_cons];unfold wpOp;simp only[hZ,e0];rw[if_pos (hwanted o1 e3 _)];refine .inl ?_;unfold Oper.wp execOp;rw[e1];simp only[hT,hrun,hX,hW];rw[Oper.upon_value,e2,wpOps_cons];unfold wpOp;simp only[hZ,e0,List.getElem?_cons_succ];rw[if_pos (hwanted o2 e6 _)];refine .inl ?_;unfold Oper.wp execOp;rw[e4];simp only[hev1,hT,hext,hX,hW];rw[Oper.upon_value,e5];refine⟨rfl,_,hk,ρ,v1,?_,fun j hj=>q1 j (by dsimp only at hj;omega),q2,by dsimp only;omega,by dsimp only;omega,q6,fun g hg hl=>q7 g hg (by rw[hg1 g hg]at hl;exact hl),q4.trans he⟩;have e:uC ((d2',V.c (.bool b))::(t,.poison)::s.T)=tF (tF (uC s.T) (some t) .poison) (some d2') (.c (.bool b)):=by rw[←gM,←gM];rfl
      dsimp only;rw[e];exact r3
     have hidt:idd<vA:=ho.live_lt (by rw[hid];trivial);have hvid:v0 idd= .it (some mid) vC rem cur:=by rw[←hid];exact ho.plain idd hidt (by rw[hid];rfl)
     have hvmid:v0 mid= .mp kd n ks vs:=by rw[←hmid];exact ho.plain mid (ho.live_lt (by rw[hmid];trivial)) (by rw[hmid];rfl)
     rcases dy (P:=P) hrep.heap hev hvid hvmid hcn o1.type with⟨hr0,hrun⟩|⟨p,u1,u2,w',hp,hrun,hh,he⟩
     ·subst hr0;simp only[List.isEmpty_nil,cond_true]at hr;exact xJ false _ w s.H v0 hrun (by simp[Instr.extract]) rfl ho (fun _ _=>rfl) hrep.heap (iE.refl _ _) hr
     ·have hne:rem.isEmpty=false:=by cases rem with
       |nil=>simp at hp
       |cons=>rfl
      simp only[hne,cond_false]at hr;have hk:=xX hr p hp;have hb:kA (qB s.H idd (.it (some mid) vC (rem.eraseIdx p) (rem.getD p 0)))=yB (kA s.H) [(idd,.it (some mid) vC (rem.eraseIdx p) (rem.getD p 0))]:=cI _ _ _ hl;have hup:=ho.upd (ups:=[(idd,.it (some mid) vC (rem.eraseIdx p) (rem.getD p 0))]) (by simpa using hidt) (by simp[hid,jA.isNw]) (by simp[jA.isNw]);exact xJ true _ w' _ _ hrun (by simp[Instr.extract]) (yA _ _ _) (by rw[hb];exact hup) (fun g hg=>by show(if g=idd then _ else v0 g)=v0 g;rw[if_neg (by omega)]) hh he hk
    ·cases hr
   ·cases hr
  ·cases hn
 ·cases hn
theorem eN (hE:wB P E)(hmix:P.follows .mixedOrders=true)(hres:E.res=fn.results.toList):∀(d:Nat) (c:Code),(∀b∈fA c,dD P fn E b)→bP P fn E c (fun s k=>mB E d c s k):=by
 intro d;induction d with
 |zero=>intro c _ R s k r h;cases h
 |succ d ih=>
  intro c hcut R s k r h S a w hnb hI;dsimp only at h;unfold mB at h;cases c with
  |skip=>exact wp_skip ⟨.normal,s,h,rfl,hI⟩
  |label l=>exact wp_label ⟨.normal,s,h,rfl,hI⟩
  |exit id=>exact wp_exit ⟨.exit id,s,h,rfl,hI⟩
  |goto l=>exact wp_goto ⟨.goto l,s,h,rfl,hI⟩
  |rangeFunc=>cases h
  |refuse=>cases h
  |ret=>
   dsimp only at h;split at h
   ·rename_i v bs hf;exact wp_ret ⟨.ret v bs,.nil,h,rfl,ai hE.ty hres hnb hf hI⟩
   ·cases h
  |region id ops draw=>
   dsimp only at h;split at h
   ·rename_i it d1 d2 hn;obtain⟨hg,h'⟩:=bA h;clear h;obtain⟨hd,hg⟩:=oA hg;obtain⟨hd1,hd2⟩:=oA hg;have hd:draw=false:=by simpa using hd
    subst hd;refine wp_mono (bR hn hd1 hd2 h' S a w hI) ?_;rintro x a' w' ⟨rfl,s',hk,hI'⟩;exact⟨.normal,s',hk,rfl,hI'⟩
   ·obtain⟨s',h1,h2,h3,h4⟩:=a7 (id:=id) hE hmix h;obtain⟨ρ,v,r1,r2,r3,r4,r6,r7,r8,r5⟩:=hI;refine h4 S.F ρ v a w _ r1 r2 (fun ρ' v' a' w' q1 q2 q3 q5 q6 q4=>⟨.normal,s',h1,rfl,ρ',v',q1,q2,fun j hj=>by rw[q3 j (by omega) (by omega)];exact r3 j hj,by omega,h3,fun g p hg hp=>q5 g p hg (r7 g p hg hp),fun g hg hl=>?_,r5.trans q4⟩);rcases q6 g hg hl with q|q
    ·exact r8 g hg q
    ·cases hs:S.ρ g with
     |none=>rfl
     |some p=>have:=r7 g p hg hs;rw[q]at this;cases this
  |seq x y=>
   refine wp_seq (wp_mono (ih x (fun b hb=>hcut b (by simp[fA,hb])) R _ _ _ h S a w hnb hI) ?_);rintro e a' w' ⟨ex,s1,h1,h2⟩;cases ex with
   |normal=>obtain⟨rfl,hI'⟩:=h2;exact ih y (fun b hb=>hcut b (by simp[fA,hb])) R _ _ _ h1 S a' w' hnb hI'
   |ret v bs=>obtain⟨rfl,hI'⟩:=h2;exact⟨.ret v bs,s1,h1,rfl,hI'⟩
   |exit i=>obtain⟨rfl,hI'⟩:=h2;exact⟨.exit i,s1,h1,rfl,hI'⟩
   |goto l=>obtain⟨rfl,hI'⟩:=h2;exact⟨.goto l,s1,h1,rfl,hI'⟩
  |cond c x y=>
   dsimp only at h;split at h
   ·rename_i b hb;rw[cU]at hb;have hev:a.eval c= .bool b:=by
     obtain⟨ρ,v,r1,_⟩:=hI;have:=r1.ev c;rw[hb]at this;simpa only[gA]using this
    cases b<;>simp only[cond_true,cond_false]at h
    ·exact wp_cond_false hev (ih y (fun b hb=>hcut b (by simp[fA,hb])) R _ _ _ h S a w hnb hI)
    ·exact wp_cond_true hev (ih x (fun b hb=>hcut b (by simp[fA,hb])) R _ _ _ h S a w hnb hI)
   ·cases h
  |block id b=>
   refine wp_block (wp_mono (ih b (fun x hx=>hcut x (by simpa[fA]using hx)) R _ _ _ h S a w hnb hI) ?_);rintro e a' w' ⟨ex,s1,h1,h2⟩;cases ex with
   |normal=>obtain⟨rfl,hI'⟩:=h2;exact⟨.normal,s1,h1,rfl,hI'⟩
   |ret v bs=>obtain⟨rfl,hI'⟩:=h2;exact⟨.ret v bs,s1,h1,rfl,hI'⟩
   |goto l=>obtain⟨rfl,hI'⟩:=h2;exact⟨.goto l,s1,h1,rfl,hI'⟩
   |exit i=>
    obtain⟨rfl,hI'⟩:=h2;dsimp only at h1;simp only[Exit.inBlock];cases hb:Nat.beq i id<;>rw[hb]at h1<;>simp only[cond_true,cond_false]at h1
    ·rw[if_neg (fun e=>by subst e;simp at hb)];exact⟨.exit i,s1,h1,rfl,hI'⟩
    ·rw[if_pos (qA hb)];exact⟨.normal,s1,h1,rfl,hI'⟩
  |loop b=>
   dsimp only at h;split at h
   ·cases h
   ·rename_i hd hhd;split at h
    ·cases h
    ·rename_i vs H hn;have key:fy P fn E (.loop b) ⟨yE hd.keep vs,H⟩ k r:=by
      split at h
      ·rename_i e he;exact hcut (.loop b) (by simp[fA]) e hd he hhd R vs H k r h
      ·exact qZ (ih b (fun x hx=>hcut x (by simp[fA,hx]))) h
     exact key S a w hnb (lH hn hI)
  |scope b=>
   dsimp only at h;cases hj:jL b 0<;>rw[hj]at h<;>simp only[cond_true,cond_false]at h
   ·refine wp_scope_straight (wp_mono (ih b (fun x hx=>hcut x (by simp[fA,hx])) R _ _ _ h S a w hnb hI) ?_);rintro e a' w' ⟨ex,s1,h1,h2⟩;cases ex with
    |goto l=>cases h1
    |normal=>obtain⟨rfl,hI'⟩:=h2;exact⟨.normal,s1,h1,rfl,hI'⟩
    |ret v bs=>obtain⟨rfl,hI'⟩:=h2;exact⟨.ret v bs,s1,h1,rfl,hI'⟩
    |exit i=>obtain⟨rfl,hI'⟩:=h2;exact⟨.exit i,s1,h1,rfl,hI'⟩
   ·split at h
    ·cases h
    ·rename_i hd hhd;split at h
     ·cases h
     ·rename_i vs H hn;have key:fy P fn E (.scope b) ⟨yE hd.keep vs,H⟩ k r:=by
       split at h
       ·rename_i e he;exact hcut (.scope b) (by simp[fA]) e hd he hhd R vs H k r h
       ·exact fun S a w hnb hI=>kJ E.N (gQ (f:=fun c s k=>mB E d c s k) (body:=b) (fun c hc=>ih c (fun x hx=>hcut x (by simp[fA,hc x hx]))) E.N b vs H k r (fun _ hx=>hx) h S a w hnb hI)
      exact key S a w hnb (lH hn hI)
structure rT (P:Program)(f:Nat)(args:List V)(bs:List jA){R:Type}(k:V→List jA→Option R)(r:R):Prop where
 callable:nJ P f
 calls:∀F ρ w args',dA F ρ (kA bs) w→(∀id,bs.length≤id→id<vA→ρ id=none)→Bd ρ→bs.length≤vA→eA ρ (av F (cA ρ (kA bs))) w args args'→
  Calls P f args'.toArray w fun e w'=>∃v bs' v',k v bs'=some r∧e= .returned v'∧uM F ρ bs w v bs' v' w'
theorem rT.of {f:Nat}{args:List V}{bs:List jA}{R:Type}{k:V→List jA→Option R}{r:R}(h:rT P f args bs k r){v0:V}{bs0:List jA}(hk:∀v bs',k v bs'=some r→v=v0∧bs'=bs0):nA P f args bs v0 bs0:=
 ⟨h.callable,fun F ρ w args' hH hn hb hl hr=>(h.calls F ρ w args' hH hn hb hl hr).mono fun e w' ⟨v,bs',v',h1,h2,h3⟩=>by obtain⟨rfl,rfl⟩:=hk v bs' h1;exact⟨v',h2,h3⟩⟩
theorem ag (hE:wB P E)(hmix:P.follows .mixedOrders=true){f:Nat}{body:Code}(hf:P.funcs[f]?=some fn)(hb:fn.body=some body)(hname:(fn.name== "runtime.NumGoroutine")=false)(hres:E.res=fn.results.toList)(hnt:E.ntmps=fn.ntmps)
  {args:List V}{bs:List jA}(hnb:E.nb=bs.length)(hargs:args.length≤fn.ntmps)(hcut:∀b∈fA body,dD P fn E b){R:Type}{k:V→List jA→Option R}{r:R}(h:iC E body args bs k=some r):
  rT P f args bs k r:=by
 refine⟨⟨fn,hf,by rw[hb];rfl,hname⟩,?_⟩;intro F ρ w args' hH hn hbd hbl hr;refine calls_of_wp hf hb ?_;unfold iC at h;have hlen:=hr.length;have hI:aS E ⟨F,ρ,bs,w⟩ ⟨zJ 0 args,bs⟩ {tmps:=args'.toArray++Array.replicate (fn.ntmps-args'.toArray.size) undef,defers:=[]} w:=by
  have hnn:∀j,(kA bs j).isNw=false:=fun j=>by
   cases hx:(kA bs j).isNw with
   |false=>rfl
   |true=>obtain⟨k,s0,rows,hole,e⟩:=fP hx;obtain⟨p,_,hp⟩:=hH.rel j (by rw[e];trivial);rw[e]at hp;exact hp.elim
  have hhi:∀j,vA≤j→kA bs j= .dead:=fun j hj=>by rw[eB,hC,pC (by omega)];rfl
  refine⟨ρ,kA bs,⟨⟨_,gB.flat hnn hhi⟩,hbd,hH,fun t=>?_,?_,rfl⟩,hn,fun _ _=>rfl,by dsimp only;omega,hbl,fun _ _ _ h=>h,fun g hg hl=>by rw[hhi g hg]at hl;exact hl.elim,iE.refl _ _⟩
  ·have:=yJ args args' 0 t ρ _ w undef hr;have e:(if 0≤t∧t<0+args'.length then args'.getD (t-0) undef else undef)=Act.eval {tmps:=args'.toArray++Array.replicate (fn.ntmps-args'.toArray.size) undef,defers:=[]} (.tmp t):=by
    simp only[Act.eval,c0,Array.getElem?_append,List.size_toArray,hZ,Array.getElem?_replicate];by_cases ht:t<args'.length
    ·rw[if_pos (by omega),if_pos ht];simp[hC]
    ·rw[if_neg (by omega),if_neg ht];split<;>rfl
   rw[←e];exact this
  ·simp only[Array.size_append,List.size_toArray,Array.size_replicate,hnt];omega
 refine wp_mono (eN hE hmix hres fi body hcut R _ _ _ h ⟨F,ρ,bs,w⟩ _ w hnb hI) ?_;rintro x a' w' ⟨ex,s',h1,hx⟩;cases ex with
 |normal=>
  obtain⟨rfl,hI'⟩:=hx;dsimp only at h1;split at h1
  ·rename_i v bs' hf;obtain⟨hd,u,hu,hp⟩:=ai hE.ty hres hnb hf hI';exact⟨hd,u,hu,v,bs',u,h1,rfl,hp⟩
  ·cases h1
 |ret v bs'=>obtain⟨rfl,hd,u,hu,hp⟩:=hx;exact⟨hd,u,hu,v,bs',u,h1,rfl,hp⟩
 |exit i=>cases h1
 |goto l=>cases h1
theorem nA.of_freeze {f:Nat}{ss:List Sh}{args args2:List V}{v:V}{bs':List jA}(hz:iF 0 (fun _=>.dead) ss args=some args2)(h:nA P f args2 [] v bs'):nA P f args [] v bs':=by
 refine⟨h.callable,fun F ρ w args' hH hn hb hl hr=>h.calls F ρ w args' hH hn hb hl ?_⟩;have hd:kA []=fun _=>jA.dead:=by funext j;rfl
 rw[hd]at hH hr⊢;exact xG (gB.flat (fun _=>rfl) (fun _ _=>rfl)) hH (Nat.zero_le _) (fun i hi=>by omega) (fun b hb=>hb) (fun b hb=>by obtain⟨_,_,_,_,hl⟩:=hb;exact hl.elim) ss args args2 args' hz hr
end
theorem lD {P:Program}{t:Nat}{ti:TI}(hi:(P.info? t).isSome=true)(hs:((P.info? t).getD default).size=ti.size)(hb:((P.info? t).getD default).bytes=ti.bytes)(hz:((P.info? t).getD default).zero.isSome=true)
  (hc:(((P.info? t).getD default).zero.getD undef).cells.toList=ti.zero)(hl:ti.zero.length=ti.size)(ho:(ti.isAgg||Nat.beq ti.size 1)=true)(hk:tC P t ti.tk)(he:(!ti.isAgg||(!P.stoodInHeld t&& !P.eqGuardType P.depth t))=true):oC P t ti:=by
 cases h:P.info? t with
 |none=>rw[h]at hi;cases hi
 |some i=>
  rw[h]at hs hb hz hc;simp only[Option.getD_some]at hs hb hz hc;cases h2:i.zero with
  |none=>rw[h2]at hz;cases hz
  |some z=>
   rw[h2]at hc;simp only[Option.getD_some]at hc;refine⟨⟨i,h,hs,hb,z,h2,hc⟩,hl,fun ha=>?_,hk,fun ha=>?_⟩
   ·rw[ha]at ho;exact qA ho
   ·rw[ha]at he;simpa using he
theorem pT {P:Program}{t:Nat}{fields:Array Field}{fs:List (Nat×Nat)}(h1:P.underlying t=some (.struct fields))(h2:fields.toList.map (fun f=>(f.type,f.offset))=fs)(h3:fields.toList.all (fun f=>!(f.name== "_"))=true):tC P t (.struct fs):=
 ⟨fields,h1,h2,fun f hf=>by rw[aE]at h3;have:=h3 f hf;simpa using this⟩
def rZ (P:Program)(e:Nat):Bool:=match P.info? e with
 |some i=>(match i.zero with|some z=>gR z|none=>false)
 |none=>false
theorem gu {P:Program}{t k e:Nat}(h1:P.underlying t=some (.map k e))(h2:rZ P e=true):tC P t (.map k e):=by
 unfold rZ at h2;split at h2
 ·rename_i i hi;split at h2
  ·rename_i z hz;exact⟨h1,i,z,hi,hz,h2⟩
  ·cases h2
 ·cases h2
theorem sC.nil {P:Program}:sC P (dG []):=fun _ _ h=>by cases h
theorem sC.cons {P:Program}{t:Nat}{ti:TI}{l:List (Nat×TI)}(h:oC P t ti)(r:sC P (dG l)):sC P (dG ((t,ti)::l)):=by
 intro t' ti' ht;simp only[dG]at ht;cases hb:Nat.beq t t'<;>rw[hb]at ht<;>simp only[cond_true,cond_false]at ht
 ·exact r t' ti' ht
 ·have:=qA hb;subst this;simp only[Option.some.injEq]at ht;subst ht;exact h
def pB (P:Program)(f:Nat)(e:jB):Prop:=∀args bs a enc,e.dec args bs=some (some a,enc)→nA P f args bs (enc a).pick.1 (enc a).pick.2
theorem oP.nil {P:Program}:oP P (dG []):=fun _ _ h=>by cases h
theorem oP.cons {P:Program}{f:Nat}{e:jB}{l:List (Nat×jB)}(h:pB P f e)(r:oP P (dG l)):oP P (dG ((f,e)::l)):=by
 intro f' e' ht;simp only[dG]at ht;cases hb:Nat.beq f f'<;>rw[hb]at ht<;>simp only[cond_true,cond_false]at ht
 ·exact r f' e' ht
 ·have:=qA hb;subst this;simp only[Option.some.injEq]at ht;subst ht;exact h
def iA (P:Program)(fn:Func)(E:nD)(l:List Code):Prop:=∀b∈l,dD P fn E b
theorem iA.nil {P:Program}{fn:Func}{E:nD}:iA P fn E []:=fun _ h=>by cases h
theorem iA.cons {P:Program}{fn:Func}{E:nD}{c:Code}{l:List Code}(h:dD P fn E c)(r:iA P fn E l):iA P fn E (c::l):=fun b hb=>by
 rcases l0.mp hb with rfl|hb
 ·exact h
 ·exact r b hb
theorem iA.of {P:Program}{fn:Func}{E:nD}{l l':List Code}(he:l'=l)(h:iA P fn E l):iA P fn E l':=he▸h
theorem xL {P:Program}{fn:Func}{E:nD}{b:Code}(h:(E.cut (zD b)).isNone=true):dD P fn E (.loop b):=fun e hd he=>by rw[he]at h;cases h
theorem uM.kill {F:Nat→Prop}{ρ:vB}{bs:List jA}{w:World}{v:V}{bs':List jA}{v':Value}{w':World}(h:uM F ρ bs w v bs' v' w'):uM F ρ bs w v (List.replicate bs'.length .dead) v' w':=by
 obtain⟨ρ',v1,h1,g1,h2,g2,g3,g4,g5,h3,h4,h5⟩:=h;have hdd:∀id,kA (List.replicate bs'.length jA.dead) id= .dead:=fun id=>by rw[eB,hC,List.getElem?_replicate];split<;>rfl
 have hd:∀id,¬(kA (List.replicate bs'.length jA.dead) id).live:=fun id hl=>by rw[hdd]at hl;exact hl
 have hM:∀b,cA ρ' (kA (List.replicate bs'.length jA.dead)) b→cA ρ' v1 b:=by rintro b ⟨id,n,C,_,hl⟩;exact absurd hl (hd id)
 exact⟨ρ',kA (List.replicate bs'.length jA.dead),h1,g1,fun id hid=>h2 id (by simpa using hid),g2,by simpa using g3,fun g hg hl=>absurd hl (hd g),⟨_,gB.flat (fun j=>by rw[hdd];rfl) (fun j _=>hdd j)⟩,
  ⟨h3.wf,fun id hl=>absurd hl (hd id),fun i j b n C n' C' hi=>absurd hi (hd i),h3.low,fun b hb=>h3.out b (hM b hb)⟩,gA.avoid (fun b hb=>hb.imp id (hM b)) _ _ h4,⟨h5.size,h5.same,fun b hb=>h5.sub b (hM b hb),h5.keeps⟩⟩
theorem cq {P:Program}{fn:Func}{E:nD}(hE:wB P E)(hmix:P.follows .mixedOrders=true)(hres:E.res=fn.results.toList){d:Nat}{b:Code}{hd:fE}(hcut:iA P fn E (fA b)){R:Type}{n:Nat}{vs:List V}{H:List jA}{k:Ex→St→Option R}{r:R}
  (h:qI E.nb hd (fun c s k=>mB E d c s k) b n b vs H k=some r):fy P fn E (.scope b) ⟨yE hd.keep vs,H⟩ k r:=
 fun S a w hnb hI=>kJ n (gQ (f:=fun c s k=>mB E d c s k) (body:=b) (fun c hc=>eN hE hmix hres d c (fun x hx=>hcut x (hc x hx))) n b vs H k r (fun _ hx=>hx) h S a w hnb hI)
theorem vH {P:Program}{fn:Func}{E:nD}(hE:wB P E)(hmix:P.follows .mixedOrders=true)(d:Nat){b:Code}{c:uO}{h:fE}(hcut:iA P fn E (fA b))
  (H:∀(R:Type) vs Hh (k:Ex→St→Option R) r,c.run vs Hh k=some r→∃n,jC E.nb h (fun s k=>mB E d b s k) n vs Hh k=some r)(e1:E.cut (zD b)=some c:=by kernel_rfl)(e2:E.hint (zD b)=some h:=by kernel_rfl)(hres:E.res=fn.results.toList:=by kernel_rfl):dD P fn E (.loop b):=fun e hd he hh R vs Hh k r hr=>by
 rw[e1]at he;rw[e2]at hh;cases he;cases hh;obtain⟨n,hn⟩:=H R vs Hh k r hr;exact qZ (eN hE hmix hres d b hcut) hn
def bo (f:Func):Code:=f.body.getD .skip
theorem sB {P:Program}{E:nD}{fn:Func}{n:Nat}{A:Type}(hE:wB P E)(hmix:P.follows .mixedOrders=true)(hf:P.funcs[n]?=some fn)(hcut:iA P fn E (fA (bo fn))){args:List V}{bs:List jA}{dec:V→List jA→Option A}{r:A}
  (h:iC E (bo fn) args bs dec=some r){v0:V}{b0:List jA}(hd:∀v bs',dec v bs'=some r→v=v0∧bs'=b0)(h1:fn.body=some (bo fn):=by kernel_rfl)(h2:(fn.name== "runtime.NumGoroutine")=false:=by kernel_rfl)(h3:E.ntmps=fn.ntmps:=by kernel_rfl)(h4:E.nb=bs.length:=by kernel_rfl)
  (h5:Nat.ble args.length fn.ntmps=true:=by kernel_rfl)(hres:E.res=fn.results.toList:=by kernel_rfl):nA P n args bs v0 b0:=
 (ag hE hmix hf h1 h2 hres h3 h4 (Nat.le_of_ble_eq_true h5) hcut h).of hd
def oK (A:Type)(fresh:Nat)(imm:List Bool)(ss:List Sh)(sel:List V→Option (Option A×(A→o8))):jB:=
 {A:=A,fresh:=fresh,imm:=imm,dec:=fun args bs=>match iF 0 (fun _=>.dead) ss args,bs with
  |some a,[]=>sel a
  |_,_=>none}
theorem uB {P:Program}{f:Nat}{A:Type}{fresh:Nat}{imm:List Bool}{ss:List Sh}{sel:List V→Option (Option A×(A→o8))}(H:∀args a enc,sel args=some (some a,enc)→nA P f args [] (enc a).pick.1 (enc a).pick.2):pB P f (oK A fresh imm ss sel):=by
 intro args bs a enc h;simp only[oK]at h;split at h
 ·rename_i hz;exact nA.of_freeze hz (H _ _ _ h)
 ·cases h
theorem lE {A:Type}{x:Option A}{g enc:A→o8}{a:A}{Q:(A→o8)→Prop}(h:some (x,g)=some (some a,enc))(H:x=some a→Q g):Q enc:=by
 have h0:=Option.some.inj h;have h1:=congrArg Prod.fst h0;have h2:=congrArg Prod.snd h0;dsimp only at h1 h2;subst h2;exact H h1
def xK (ty:List (Nat×TI))(tab:List (Nat×jB))(hint:List (Nat×fE))(cut:List (Nat×uO))(N:Nat)(res:List ResultVar)(rsh:List Sh)(nb ntmps:Nat)(own:Bool:=false)(bsh:List (Nat×List Sh):=[])(keep:Bool:=false):nD:=
 {ty:=dG ty,tab:=dG tab,hint:=dG hint,cut:=dG cut,N:=N,res:=res,rsh:=rsh,nb:=nb,ntmps:=ntmps,own:=own,bsh:=bsh,keep:=keep}
def ft:jB:={A:=Unit,fresh:=1,imm:=[],dec:=fun _ _=>none}
theorem au {P:Program}{f:Nat}:pB P f ft:=fun _ _ _ _ h=>by cases h
theorem iA.n {P:Program}{fn:Func}{E:nD}{l:List Code}(h:l=[]:=by kernel_rfl):iA P fn E l:=iA.of h iA.nil
end Go.Proofs.Ytlofhdoefjmabaa.Ev
