import Derived.Test.YteaakcmkpacpaaaA1
import Derived.LoopN
import Derived.Scope
import Derived.KernelRfl
open List renaming getD_eq_getElem?_getD→hC,getElem?_eq_none→pC,all_eq_true→hD,getElem?_eq_some_iff→aE,getElem?_take→hK,mem_of_getElem?→xK,getElem?_append_left→yK,getElem?_eq_getElem→hN,getElem?_toArray→hS,getElem?_cons_zero→hU,map_cons→eX,mem_cons→hX,getElem?_range→hY
open Bool renaming and_eq_true→zE
open Go.Sem renaming run_bind→cP,run_pure→hP
open Go.Result renaming andThen_ok→hQ
open Array renaming getD_eq_getD_getElem?→hT,toArray_toList→hW
set_option linter.unusedVariables false
set_option linter.unusedSimpArgs false
namespace Go.Proofs.Yteaakcmkpacpaaa.Ev
structure oP where
 F:Nat→Prop
 ρ:lC
 bs:List nA
 w:World
def cF (E:gD)(S:oP)(s:St)(a:Act)(w:World):Prop:=
 ∃ρ v,de E S.F ρ (qD s.T) (oA s.H) v a w∧(∀j,s.H.length≤j→j<top→ρ j=none)∧(∀j,j<E.nb→ρ j=S.ρ j)∧E.nb≤s.H.length∧s.H.length≤top∧(∀g p,top≤g→S.ρ g=some p→ρ g=some p)∧(∀g,top≤g→(v g).live→S.ρ g=none)∧
  tF (cA S.ρ (oA S.bs)) S.w (cA ρ v) w
theorem rI {H:List nA}{j:Nat}(hl:(oA H j).live):H[j]?=some (oA H j):=by
 rw[vB,hC]at hl⊢;cases h:H[j]? with
 |none=>rw[h]at hl;exact hl.elim
 |some x=>rfl
theorem rM {H:List nA}{j:Nat}{x:nA}(h:H[j]?=some x):oA H j=x:=by
 rw[vB,hC,h];rfl
theorem fF:∀(nb:Nat) (H:List nA),pR nb H=true→∀x∈H,x.isNw=false∧∀i∈tQ x,i<nb
 |_,[],_,x,hx=>by simp at hx
 |nb,b::r,h,x,hx=>by
  simp only[pR,zE,hD,Bool.not_eq_true']at h;rcases hX.mp hx with rfl|hx
  ·exact⟨h.1.2,fun i hi=>oB (h.1.1 i hi)⟩
  ·exact fF nb r h.2 x hx
theorem fW:∀(keep:List (Nat×Sh)) (T:Nat→V) (vs:List V) (u:List Value) (ρ:lC) (M:Nat→Prop) (w:World) (ev:Nat→Value),iA ρ M w vs (keep.map fun p=>ev p.1)→∀t,mA ρ M w (qD (iE keep vs) t) (ev t)
 | [],_,vs,_,ρ,M,w,ev,hr,t=>by simp only[iE,qD,mA]
 |p::r,T,[],u,ρ,M,w,ev,hr,t=>by simp only[iE,qD,mA]
 |(d,sh)::r,T,v::vs,u,ρ,M,w,ev,hr,t=>by
  simp only[eX,iA]at hr;simp only[iE,qD];cases hb:Nat.beq d t<;>simp only[cond_true,cond_false]
  ·exact fW r T vs u ρ M w ev hr.2 t
  ·have:=sA hb;subst this;exact hr.1
theorem iA.map_fn {α:Type}{ρ:lC}{M:Nat→Prop}{w:World}(f:α→V)(g:α→Value)(h:∀x,mA ρ M w (f x) (g x)):∀l:List α,iA ρ M w (l.map f) (l.map g)
 | []=>by simp[iA]
 |x::l=>by simp only[eX,iA];exact⟨h x,iA.map_fn f g h l⟩
theorem vb {F:Nat→Prop}{ρ ρ':lC}{h v:Nat→nA}{γ:Nat→Nat→Nat}{w:World}(ho:wB h γ v)(hh:fA F ρ v w)(hbd:Bd ρ){acc:mP}(hA:nK h acc)(hlen:acc.blks.length≤top)(hc:wT ρ ρ' acc.src)(hρn:∀j,acc.src.length≤j→j<top→ρ' j=none)(hρg:∀g,top≤g→ρ' g=ρ g)
  (hB:mI h ρ ρ' (av F (cA ρ v)) w acc):
  ∃v',Ec (oA acc.blks) v'∧fA F ρ' v' w∧(∀b,cA ρ' v' b→cA ρ v b)∧Bd ρ'∧∀g,top≤g→(v' g).live→(v g).live:=by
 classical
 have hsrcOf:∀j,(oA acc.blks j).live→j<acc.src.length∧((∃id,acc.src[j]?=some (some id)∧ρ' j=ρ id∧rU (h id) (oA acc.blks j))∨(acc.src[j]?=some none∧ρ' j=some ⟨none,0,0⟩∧ux (oA acc.blks j))):=by
  intro j hl;have hx:=rI hl;have hj:j<acc.src.length:=by rw[hA.len];exact(aE.mp hx).1
  refine⟨hj,?_⟩;cases hsj:acc.src[j]with
  |some id=>
   have h0:acc.src[j]?=some (some id):=by rw[hN hj,hsj]
   exact .inl ⟨id,h0,hc.old j id h0,hA.live j id _ h0 hx hl⟩
  |none=>
   have h0:acc.src[j]?=some none:=by rw[hN hj,hsj]
   obtain⟨x,hk,hho⟩:=hA.virt j h0;exact .inr ⟨h0,hc.nil j h0,by rw[rM hk];exact hho⟩
 let γ':Nat→Nat→Nat:=fun j i=>match acc.src[j]? with|some (some id)=>γ id i|_=>γ j i
 have hγ':∀j id,acc.src[j]?=some (some id)→γ' j=γ id:=fun j id hj=>by funext i;simp only[γ',hj]
 have hnest:∀j k s rows hole,oA acc.blks j= .nw k s rows hole→hole=none∧j<top∧(rows=[]∨∃id,acc.src[j]?=some (some id)∧ρ' j=ρ id∧h id= .nw k s rows none∧id<top):=by
  intro j k s rows hole hj;obtain⟨hjl,hs⟩:=hsrcOf j (by rw[hj];trivial);have hjt:j<top:=by rw[hA.len]at hjl;omega
  rcases hs with⟨id,q1,q2,q3,⟨q4,_⟩|⟨k1,s1,rows1,q4,q5⟩⟩|⟨_,_,⟨k1,q⟩|⟨k1,s1,q⟩⟩
  ·rw[hj]at q4;cases q4
  ·rw[hj]at q4 q5;cases q4;exact⟨rfl,hjt,.inr ⟨id,q1,q2,q5,ho.live_lt q3⟩⟩
  ·rw[hj]at q;cases q
  ·rw[hj]at q;cases q;exact⟨rfl,hjt,.inl rfl⟩
 have hlod:∀j i,jB (oA acc.blks) j i→∃id,acc.src[j]?=some (some id)∧ρ' j=ρ id∧jB h id i∧γ' j i=γ id i:=by
  rintro j i ⟨k,s,rows,hole,h1,h2,h3,h4⟩;obtain⟨rfl,_,hr|⟨id,q1,q2,q3,q4⟩⟩:=hnest _ _ _ _ _ h2
  ·subst hr;simp at h3
  ·exact⟨id,q1,q2,⟨k,s,rows,none,q4,q3,h3,fun g e=>by cases e⟩,by rw[hγ' j id q1]⟩
 let v':Nat→nA:=fun x=>if top≤x then(if ∃j i,jB (oA acc.blks) j i∧γ' j i=x then v x else .dead)else match oA acc.blks x with| .nw k s rows hole=>.vals (zC (γ' x) s hole rows.length)|b=>b
 have hvg:∀g,top≤g→v' g=if ∃j i,jB (oA acc.blks) j i∧γ' j i=g then v g else .dead:=fun g hg=>if_pos hg
 have hvl:∀x,x<top→v' x=match oA acc.blks x with| .nw k s rows hole=>.vals (zC (γ' x) s hole rows.length)|b=>b:=fun x hx=>if_neg (by omega)
 have hvp:∀x,x<top→(oA acc.blks x).isNw=false→v' x=oA acc.blks x:=fun x hx hn=>by rw[hvl x hx];cases hb:oA acc.blks x<;>rw[hb]at hn<;>first|rfl|cases hn
 have hop:wB (oA acc.blks) γ' v':=by
  refine⟨hvp,fun j k s rows hole hj e=>by rw[hvl j hj,e],fun j i k s rows hole hj e hi hh2=>?_,fun j i j2 i2 h1 h2 e=>?_,fun g hg hl=>?_,fun j hj=>?_⟩
  ·obtain⟨id,q1,q2,q3,q4⟩:=hlod j i ⟨k,s,rows,hole,hj,e,hi,hh2⟩;obtain⟨rfl,_,hr|⟨id',r1,r2,r3,r4⟩⟩:=hnest _ _ _ _ _ e
   ·subst hr;simp at hi
   ·rw[q1]at r1;simp only[Option.some.injEq]at r1;subst r1;obtain⟨a1,a2⟩:=ho.row id i k s rows none r4 r3 hi (fun g e=>by cases e);rw[q4];exact⟨a1,by rw[hvg _ a1,if_pos ⟨j,i,⟨k,s,rows,none,hj,e,hi,hh2⟩,q4⟩];exact a2⟩
  ·obtain⟨id,q1,_,q3,q4⟩:=hlod j i h1;obtain⟨id2,r1,_,r3,r4⟩:=hlod j2 i2 h2;rw[q4,r4]at e;obtain⟨a1,a2⟩:=ho.inj id i id2 i2 q3 r3 e;subst a1;exact⟨hA.nodup j j2 id q1 r1,a2⟩
  ·rw[hvg g hg]at hl;split at hl
   ·assumption
   ·exact hl.elim
  ·rw[vB,hC,pC (by omega)];rfl
 have src:∀x,(v' x).live→(∃y,ρ' x=ρ y∧(v y).live∧(∀p,ρ y=some p→aB ρ (av F (cA ρ v)) w p (v y)→aB ρ' (av F (cA ρ v)) w p (v' x))∧((x<top∧acc.src[x]?=some (some y)∧y<top)∨(top≤x∧x=y)))∨(ρ' x=some ⟨none,0,0⟩∧∀M,aB ρ' M w ⟨none,0,0⟩ (v' x)):=by
  intro x hl;by_cases hx:top≤x
  ·have e:=hvg x hx;rw[e]at hl⊢;split at hl
   ·rename_i hex;refine .inl ⟨x,hρg x hx,hl,fun p _ hp=>?_,.inr ⟨hx,rfl⟩⟩;rw[if_pos hex];obtain⟨j,i,h1,h2⟩:=hex;obtain⟨id,_,_,⟨k,s,rows,hole,q1,q2,q3,q4⟩,q5⟩:=hlod j i h1;have:=(ho.row id i k s rows hole q1 q2 q3 q4).2;rw[←q5,h2]at this;rw[this]at hp⊢;exact zH hp
   ·exact hl.elim
  ·have hx':x<top:=by omega
   have hbl:(oA acc.blks x).live:=by rw[hvl x hx']at hl;cases hb:oA acc.blks x<;>rw[hb]at hl<;>first|trivial|exact hl
   obtain⟨hxl,hs⟩:=hsrcOf x hbl;rcases hs with⟨id,q1,q2,q3,⟨q4,q5⟩|⟨k,s,rows,q4,q5⟩⟩|⟨q1,q2,q3⟩
   ·have hid:=ho.live_lt q3;have hv:=ho.plain id hid q5;refine .inl ⟨id,q2,by rw[hv];exact q3,fun p hpp hp=>?_,.inl ⟨hx',q1,hid⟩⟩;rw[hvp x hx' q4];rw[hv]at hp;exact hB x id _ p q1 (rI hbl) hpp hp
   ·have hid:=ho.live_lt q3;rw[q4]at q5;have hv:=ho.nest id k s rows none hid q5;refine .inl ⟨id,q2,by rw[hv];trivial,fun p _ hp=>?_,.inl ⟨hx',q1,hid⟩⟩;rw[hvl x hx',q4];dsimp only;rw[hγ' x id q1];rw[hv]at hp;refine hp.agree (fun i hi p hpi=>?_);have:∀l:List Nat,(∀i∈l,top≤γ id i)→∀i∈sE (l.map (nG (γ id) s none)),top≤i:=by
     intro l;induction l with
     |nil=>intro _ i hi;simp[sE]at hi
     |cons a l ih=>
      intro hl i hi;simp only[eX,sE,nG,cJ,List.cons_append,List.nil_append,hX]at hi;rcases hi with rfl|hi
      ·exact hl a (by simp)
      ·exact ih (fun i hi=>hl i (by simp[hi])) i hi
    rw[hρg i (this _ (fun i hi=>(ho.row id i k s rows none hid q5 (by simpa using hi) (fun g e=>by cases e)).1) i hi)];exact hpi
   ·refine .inr ⟨q2,fun M=>?_⟩;rw[hvl x hx'];rcases q3 with⟨k,q3⟩|⟨k,s,q3⟩<;>rw[q3]
    ·exact⟨rfl,.inl ⟨rfl,rfl,rfl⟩⟩
    ·exact⟨rfl,.inl ⟨rfl,rfl,rfl⟩⟩
 have hM:∀b,cA ρ' v' b→cA ρ v b:=by
  rintro b ⟨x,n,C,hp,hl⟩;rcases src x hl with⟨y,g1,g2,_⟩|⟨g1,_⟩
  ·rw[g1]at hp;exact⟨y,n,C,hp,g2⟩
  ·rw[g1]at hp;cases hp
 have hMa:∀b,av F (cA ρ' v') b→av F (cA ρ v) b:=fun b hb=>hb.imp id (hM b);refine⟨v',⟨γ',hop⟩,⟨?_,?_,?_,hh.low,fun b hb=>hh.out b (hM b hb)⟩,hM,?_,?_⟩
 ·intro j p hp;by_cases ht:top≤j
  ·rw[hρg j ht]at hp;exact hh.wf _ _ hp
  ·cases hs:acc.src[j]? with
   |none=>
    have hj0:acc.src.length≤j:=by
     rcases Nat.lt_or_ge j acc.src.length with q|q
     ·rw[hN q]at hs;cases hs
     ·exact q
    rw[hρn j hj0 (by omega)]at hp;cases hp
   |some o=>
    cases o with
    |some id=>rw[hc.old j id hs]at hp;exact hh.wf _ _ hp
    |none=>rw[hc.nil j hs]at hp;simp only[Option.some.injEq]at hp;subst hp;exact Nat.le_refl _
 ·intro x hl;rcases src x hl with⟨y,g1,g2,g3,_⟩|⟨g1,g2⟩
  ·obtain⟨p,hp,hb⟩:=hh.rel y g2;exact⟨p,by rw[g1];exact hp,aB.avoid hMa (g3 p hp hb)⟩
  ·exact⟨_,g1,g2 _⟩
 ·intro x x' b n C n' C' hx hx' hp hp';rcases src x hx with⟨y,g1,g2,_,g3⟩|⟨g1,_⟩
  ·rcases src x' hx' with⟨y',g1',g2',_,g3'⟩|⟨g1',_⟩
   ·rw[g1]at hp;rw[g1']at hp';have:=hh.inj y y' b _ _ _ _ g2 g2' hp hp';subst this;rcases g3 with⟨a1,a2,a3⟩|⟨a1,a2⟩<;>rcases g3' with⟨b1,b2,b3⟩|⟨b1,b2⟩
    ·exact hA.nodup x x' y a2 b2
    ·omega
    ·omega
    ·omega
   ·rw[g1']at hp';cases hp'
  ·rw[g1]at hp;cases hp
 ·obtain⟨G,hG⟩:=hbd;exact⟨G+top,fun g hg=>by rw[hρg g (by omega)];exact hG g (by omega)⟩
 ·intro g hg hl;rw[hvg g hg]at hl;split at hl
  ·exact hl
  ·exact hl.elim
theorem yi {E:gD}{S:oP}{keep:List (Nat×Sh)}{s:St}{vs:List V}{H:List nA}(hn:yh E.nb keep s=some (vs,H)){a:Act}{w:World}(hI:cF E S s a w):cF E S ⟨iE keep vs,H⟩ a w:=by
 obtain⟨ρ,v,hr,h1,h2,h3,h5,h6,h7,h4⟩:=hI;obtain⟨γ,ho⟩:=hr.opn;unfold yh at hn;split at hn
 ·rename_i vs' acc hs;obtain⟨hok0,hn⟩:=bA hn;obtain⟨hok,hlt⟩:=qA hok0;have hlt:=tD hlt;simp only[Option.some.injEq,Prod.mk.injEq]at hn;obtain⟨rfl,rfl⟩:=hn;obtain⟨⟨more,hsrc⟩,hk⟩:=qF _ _ _ _ _ hs;have hst:∀j:Nat,(yF E.nb s.H).src[j]?=if j<E.nb then some (some j)else none:=by
   intro j;simp only[yF,List.getElem?_map];by_cases hj:j<E.nb
   ·rw[hY hj,if_pos hj];rfl
   ·rw[pC (by simp;omega),if_neg hj];rfl
  have hlen0:(yF E.nb s.H).src.length=E.nb:=by simp[yF]
  have hst2:∀j:Nat,j<E.nb→(yF E.nb s.H).blks[j]?=s.H[j]?:=fun j hj=>by simp[yF,hK,hj]
  have hin:∀(j:Nat) (x:nA),j<E.nb→s.H[j]?=some x→x∈s.H.take E.nb:=fun j x hj hx=>xK (i:=j) (by rw[hK,if_pos hj];exact hx);have hacc0:nK (oA s.H) (yF E.nb s.H):=by
   refine⟨by simp[yF,h3],?_,?_,?_⟩
   ·intro i j id hi hj;rw[hst]at hi hj;split at hi<;>split at hj<;>simp_all
   ·intro j hj;rw[hst]at hj;split at hj<;>simp at hj
   ·intro j id x hj hx hl;rw[hst]at hj;split at hj
    ·rename_i hlt;rw[hst2 j hlt]at hx;simp only[Option.some.injEq]at hj;subst hj;have hnn:=(fF _ _ hok x (hin _ _ hlt hx)).1;exact rU.plain (rM hx) hl hnn hnn
    ·cases hj
  obtain⟨hA,hR⟩:=hk hacc0;have hsl:acc.src.length≤top:=by rw[hA.len];exact hlt
  let ρ':lC:=fun j=>if top≤j then ρ j else match acc.src[j]? with
   |some (some id)=>ρ id
   |some none=>some ⟨none,0,0⟩
   |none=>none
  have hlts:∀(j:Nat) o,acc.src[j]?=some o→¬top≤j:=fun j o hj=>by have:=(aE.mp hj).1;omega
  have hc:wT ρ ρ' acc.src:=⟨fun j id hj=>by simp only[ρ',hj];rw[if_neg (hlts j _ hj)],fun j hj=>by simp only[ρ',hj];rw[if_neg (hlts j _ hj)]⟩
  have hpre:∀j,j<E.nb→acc.src[j]?=some (some j):=fun j hj=>by rw[hsrc,yK (by rw[hlen0];exact hj),hst,if_pos hj]
  have hρ':∀j,j<E.nb→ρ' j=ρ j:=fun j hj=>hc.old j j (hpre j hj);have hb0:mI (oA s.H) ρ ρ' (av S.F (cA ρ v)) w (yF E.nb s.H):=by
   intro j id x p hj hx hp hb;rw[hst]at hj;split at hj
   ·rename_i hlt;simp only[Option.some.injEq]at hj;subst hj;rw[hst2 j hlt]at hx;rw[rM hx]at hb;refine hb.agree (fun i hi p hp=>?_);rw[hρ' i ((fF _ _ hok x (hin _ _ hlt hx)).2 i hi)];exact hp
   ·cases hj
  have hHB:HB (oA s.H) ρ (av S.F (cA ρ v)) w:=fun id p hl hn hp=>by have hv:=ho.plain id (ho.live_lt hl) hn;obtain⟨p',hp',hb'⟩:=hr.heap.rel id (by rw[hv];exact hl);rw[hp]at hp';cases hp';rw[hv]at hb';exact hb'
  obtain⟨hB,hV⟩:=hR ρ ρ' _ w hHB hc hb0;obtain⟨v',q1,q2,q3,q4,q5⟩:=vb ho hr.heap hr.bd hA hlt hc (fun j hj hj2=>by simp only[ρ',pC hj];rw[if_neg (by omega)]) (fun g hg=>if_pos hg) hB;have hMa:∀b,av S.F (cA ρ' v') b→av S.F (cA ρ v) b:=fun b hb=>hb.imp id (q3 b);refine⟨ρ',v',⟨q1,q4,q2,?_,hr.size,hr.defers⟩,?_,fun j hj=>by rw[hρ' j hj];exact h2 j hj,?_,hlt,fun g p hg hp=>by rw[show ρ' g=ρ g from if_pos hg];exact h6 g p hg hp,fun g hg hl=>h7 g hg (q5 g hg hl),⟨h4.size,h4.same,fun b hb=>h4.sub b (q3 b hb),h4.keeps⟩⟩
  ·intro t;refine mA.avoid hMa _ _ ?_;refine fW keep (qD s.T) vs' [] ρ' _ w (fun t=>a.eval (.tmp t)) (hV _ ?_) t;exact iA.map_fn _ _ (fun p=>hr.tmps p.1) keep
  ·intro j hj hj2;dsimp only at hj;rw[←hA.len]at hj;simp only[ρ',pC hj];rw[if_neg (by omega)]
  ·dsimp only;rw[←hA.len,hsrc];simp[hlen0]
 ·cases hn
theorem mh {E:gD}{S:oP}{s:St}{id:Nat}{a:Act}{w:World}(hI:cF E S s a w):cF E S ⟨s.T,mU s.H id⟩ a w:=by
 unfold mU;split
 ·rename_i k s0 rows j g hid;split
  ·rename_i k' l hg;cases hk:fM k k' with
   |false=>exact hI
   |true=>
    simp only[cond_true];have hk:=jE hk;subst hk;obtain⟨ρ,v,hr,h1,h2,h3,h5,h6,h7,h4⟩:=hI;obtain⟨γ,ho⟩:=hr.opn;have hidt:=ho.live_lt (i:=id) (by rw[hid];trivial);have hgt:=ho.live_lt (i:=g) (by rw[hg];trivial);have hidl:id<s.H.length:=(aE.mp (rI (H:=s.H) (j:=id) (by rw[hid];trivial))).1;have hgl:g<s.H.length:=(aE.mp (rI (H:=s.H) (j:=g) (by rw[hg];trivial))).1;have hne:g≠id:=fun e=>by subst e;rw[hid]at hg;cases hg
    have hH:∀x,oA (cC (cC s.H g .dead) id (.nw k s0 (rows.set j l) none)) x=if x=id then .nw k s0 (rows.set j l) none else if x=g then .dead else oA s.H x:=fun x=>by rw[pK _ _ _ (by rw[lB];exact hidl),pK _ _ _ hgl]
    obtain⟨γ',ρ',v',o1,p1,s1,q1⟩:=pM (nid:=0) (h':=oA (cC (cC s.H g .dead) id (.nw k s0 (rows.set j l) none))) ho hr.heap hr.bd hid hidt hg hgt 0 (by rw[hH,if_pos rfl]) (by rw[hH,if_neg hne,if_pos rfl]) (fun x h1 h2=>by rw[hH,if_neg h1,if_neg h2]);refine⟨ρ',v',⟨p1.opn,p1.bd hr.bd,p1.heap,fun t=>mA.mono p1.sub p1.ext _ _ (hr.tmps t),hr.size,hr.defers⟩,?_,?_,?_,?_,?_,?_,h4.trans p1.ext⟩
    ·intro x hx hx2;dsimp only at hx;rw[lB,lB]at hx;rw[s1 x hx2];exact h1 x hx hx2
    ·intro x hx;rw[s1 x (by omega)];exact h2 x hx
    ·dsimp only;rw[lB,lB];exact h3
    ·dsimp only;rw[lB,lB];exact h5
    ·intro x p hx hp;exact p1.sub x p (h6 x p hx hp)
    ·intro x hx hl;rcases p1.fresh x hx hl with q|q
     ·exact h7 x hx q
     ·cases hr2:S.ρ x with
      |none=>rfl
      |some p=>have:=h6 x p hx hr2;rw[q]at this;cases this
  ·exact hI
 ·exact hI
theorem iX {E:gD}{S:oP}{a:Act}{w:World}:∀(l:List Nat) (s:St),cF E S s a w→cF E S ⟨s.T,bf l s.H⟩ a w
 | [],s,hI=>hI
 |i::r,s,hI=>iX r ⟨s.T,mU s.H i⟩ (mh hI)
theorem oJ {E:gD}{S:oP}{keep:List (Nat×Sh)}{s:St}{vs:List V}{H:List nA}(hn:lh E.nb keep s=some (vs,H)){a:Act}{w:World}(hI:cF E S s a w):cF E S ⟨iE keep vs,H⟩ a w:=
 yi (s:=⟨s.T,zr s.H⟩) hn (iX _ s hI)
theorem yl {E:gD}{S:oP}{bsh:List (Nat×List Sh)}{keep:List (Nat×Sh)}{s:St}{vs:List V}{H:List nA}(hn:yj E.nb bsh keep s=some (vs,H)){a:Act}{w:World}(hI:cF E S s a w):cF E S ⟨iE keep vs,H⟩ a w:=by
 obtain⟨ρ,v,hr,h1,h2,h3,h5,h6,h7,h4⟩:=hI;obtain⟨γ,ho⟩:=hr.opn;unfold yj at hn;split at hn
 ·rename_i vs' acc0 hs;split at hn
  rotate_left
  ·cases hn
  rename_i acc hsB;obtain⟨hok0,hn⟩:=bA hn;obtain⟨hok,hok1⟩:=qA hok0;obtain⟨hall,hlt⟩:=qA hok1;have hlt:=tD hlt;simp only[Option.some.injEq,Prod.mk.injEq]at hn;obtain⟨rfl,rfl⟩:=hn;obtain⟨⟨more0,hsrc0⟩,hk0⟩:=qF _ _ _ _ _ hs;obtain⟨⟨more1,hsrc1⟩,hk1⟩:=tZ _ _ _ hsB;have hsrc:acc.src=(List.range E.nb).map some++(more0++more1):=by rw[hsrc1,hsrc0,List.append_assoc]
  have hst:∀j:Nat,((List.range E.nb).map some)[j]?=if j<E.nb then some (some j)else none:=by
   intro j;simp only[List.getElem?_map];by_cases hj:j<E.nb
   ·rw[hY hj,if_pos hj];rfl
   ·rw[pC (by simp;omega),if_neg hj];rfl
  have hlen0:((List.range E.nb).map some).length=E.nb:=by simp
  have hst2:∀j:Nat,j<E.nb→(uK bsh (s.H.take E.nb))[j]?=s.H[j]?∨(uK bsh (s.H.take E.nb))[j]?=some .dead:=fun j hj=>by
   rcases dT bsh (s.H.take E.nb) j with h|h
   ·exact .inl (h.trans (by simp[hK,hj]))
   ·exact .inr h
  have hacc0:nK (oA s.H) ⟨(List.range E.nb).map some,uK bsh (s.H.take E.nb)⟩:=by
   refine⟨by simp[cQ,h3],?_,?_,?_⟩
   ·intro i j id hi hj;rw[hst]at hi hj;split at hi<;>split at hj<;>simp_all
   ·intro j hj;rw[hst]at hj;split at hj<;>simp at hj
   ·intro j id x hj hx hl;rw[hst]at hj;split at hj
    ·rename_i hlt;simp only[Option.some.injEq]at hj;subst hj;dsimp only at hx;have hnn:=(fF _ _ hok x (xK hx)).1;rcases hst2 j hlt with g|g
     ·rw[g]at hx;exact rU.plain (rM hx) hl hnn hnn
     ·rw[g]at hx;simp only[Option.some.injEq]at hx;subst hx;exact hl.elim
    ·cases hj
  obtain⟨hA0,hR0⟩:=hk0 hacc0;have hpre0:∀p∈bsh,acc0.src[p.1]?=some (some p.1):=fun p hp=>by have:=hD.mp hall p hp;have:=oB this;rw[hsrc0,yK (by rw[hlen0];exact this),hst,if_pos this]
  obtain⟨hA,hR1⟩:=hk1 hA0 hpre0;have hsl:acc.src.length≤top:=by rw[hA.len];exact hlt
  let ρ':lC:=fun j=>if top≤j then ρ j else match acc.src[j]? with
   |some (some id)=>ρ id
   |some none=>some ⟨none,0,0⟩
   |none=>none
  have hlts:∀(j:Nat) o,acc.src[j]?=some o→¬top≤j:=fun j o hj=>by have:=(aE.mp hj).1;omega
  have hc:wT ρ ρ' acc.src:=⟨fun j id hj=>by simp only[ρ',hj];rw[if_neg (hlts j _ hj)],fun j hj=>by simp only[ρ',hj];rw[if_neg (hlts j _ hj)]⟩
  have hpre:∀j,j<E.nb→acc.src[j]?=some (some j):=fun j hj=>by rw[hsrc,yK (by rw[hlen0];exact hj),hst,if_pos hj]
  have hρ':∀j,j<E.nb→ρ' j=ρ j:=fun j hj=>hc.old j j (hpre j hj);have hb0:mI (oA s.H) ρ ρ' (av S.F (cA ρ v)) w ⟨(List.range E.nb).map some,uK bsh (s.H.take E.nb)⟩:=by
   intro j id x p hj hx hp hb;rw[hst]at hj;split at hj
   ·rename_i hlt;simp only[Option.some.injEq]at hj;subst hj;dsimp only at hx;have hin:x∈uK bsh (s.H.take E.nb):=xK hx;rcases hst2 j hlt with g|g
    ·rw[g]at hx;rw[rM hx]at hb;refine hb.agree (fun i hi p hp=>?_);rw[hρ' i ((fF _ _ hok x hin).2 i hi)];exact hp
    ·rw[g]at hx;simp only[Option.some.injEq]at hx;subst hx;trivial
   ·cases hj
  have hHB:HB (oA s.H) ρ (av S.F (cA ρ v)) w:=fun id p hl hn hp=>by have hv:=ho.plain id (ho.live_lt hl) hn;obtain⟨p',hp',hb'⟩:=hr.heap.rel id (by rw[hv];exact hl);rw[hp]at hp';cases hp';rw[hv]at hb';exact hb'
  obtain⟨hB0,hV⟩:=hR0 ρ ρ' _ w hHB (by rw[hsrc1]at hc;exact hc.pre) hb0;have hB:=hR1 ρ ρ' _ w hHB hc hB0;obtain⟨v',q1,q2,q3,q4,q5⟩:=vb ho hr.heap hr.bd hA hlt hc (fun j hj hj2=>by simp only[ρ',pC hj];rw[if_neg (by omega)]) (fun g hg=>if_pos hg) hB;have hMa:∀b,av S.F (cA ρ' v') b→av S.F (cA ρ v) b:=fun b hb=>hb.imp id (q3 b);refine⟨ρ',v',⟨q1,q4,q2,?_,hr.size,hr.defers⟩,?_,fun j hj=>by rw[hρ' j hj];exact h2 j hj,?_,hlt,fun g p hg hp=>by rw[show ρ' g=ρ g from if_pos hg];exact h6 g p hg hp,fun g hg hl=>h7 g hg (q5 g hg hl),⟨h4.size,h4.same,fun b hb=>h4.sub b (q3 b hb),h4.keeps⟩⟩
  ·intro t;refine mA.avoid hMa _ _ ?_;refine fW keep (qD s.T) vs' [] ρ' _ w (fun t=>a.eval (.tmp t)) (hV _ ?_) t;exact iA.map_fn _ _ (fun p=>hr.tmps p.1) keep
  ·intro j hj hj2;dsimp only at hj;rw[←hA.len]at hj;simp only[ρ',pC hj];rw[if_neg (by omega)]
  ·dsimp only;rw[←hA.len,hsrc];simp[hlen0]
 ·cases hn
section
variable {P:Program}{F:Nat→Prop}{ρ:lC}{h v:Nat→nA}{γ:Nat→Nat→Nat}{w:World}
mutual
theorem sa (ho:wB h γ v)(hh:fA F ρ v w){nb:Nat}(hnb:nb≤top){ρ':lC}{M':Nat→Prop}(hρ:∀i,i<nb→ρ' i=ρ i)(hM:∀b,M' b→cA ρ v b)(hM':∀b,M' b→∀id n C,nb≤id→(v id).live→ρ id≠some ⟨some b,n,C⟩):
  ∀(sh:Sh) (x x':V) (u:Value),wG nb h sh x=some x'→mA ρ (av F (cA ρ v)) w x u→mA ρ' (av F M') w x' u
 | .il k s,v0,v',u,hf,hr=>by
  have hMa:∀b,av F M' b→av F (cA ρ v) b:=fun b hb=>hb.imp id (hM b);have key:∀id b n C,nb≤id→(v id).live→ρ id=some ⟨some b,n,C⟩→¬av F M' b:=fun id b n C h1 h2 h3 hb=>hb.elim (fun hf=>hh.out b ⟨id,n,C,h3,h2⟩ hf) (fun hm=>hM' b hm id n C h1 h2 h3);unfold wG at hf;split at hf
  ·obtain⟨h0,hf⟩:=bA hf;simp only[Option.some.injEq]at hf;subst hf;simp only[mA]at hr⊢;exact⟨oB h0,by simp,.inl ⟨trivial,none,hr⟩⟩
  ·obtain⟨h0,hf⟩:=bA hf;simp only[Option.some.injEq]at hf;subst hf;have:=mA.avoid hMa _ _ hr;simpa only[mA]using this
  ·rename_i id s';obtain⟨h0,hf2⟩:=bA hf;clear hf;simp only[zE]at h0;have h1:=tD h0.1;have h2:=sA h0.2;clear h0;subst h2;split at hf2
   ·rename_i k' l hid;obtain⟨_,hf⟩:=bA hf2;simp only[Option.some.injEq]at hf;subst hf;exact(c9 hh (ho.ints hid) (fun b n C hp hl=>key id b n C h1 hl hp) hr).rel
   ·cases hf2
  ·rename_i id s' off len;obtain⟨h0,hf2⟩:=bA hf;clear hf;simp only[zE]at h0;have h1:=tD h0.1;have h2:=sA h0.2;clear h0;subst h2;split at hf2
   ·rename_i k' l hid;obtain⟨_,hf⟩:=bA hf2;simp only[Option.some.injEq]at hf;subst hf;have hv:=ho.ints hid;have hl:(v id).live:=by rw[hv];trivial
    simp only[mA]at hr⊢;obtain⟨g0,⟨b,n,C,cap,g1,g2,g3,g4,g5⟩|⟨g1,a,g2⟩⟩:=hr
    ·obtain⟨c,ho',hsz,hold⟩:=hh.own hl (by rw[hv];trivial) g1;rw[hv]at hold;obtain⟨e1,e2,e3⟩:=hold;have hlen:((l.drop off).take (oF s len)).length=len*s:=by rw[mB];simp;omega
     rw[hlen];refine⟨g0,Nat.mul_mod_left _ _,.inr ⟨b,off,cap,by rw[Nat.mul_div_cancel _ g0];exact g5,by rw[Nat.mul_div_cancel _ g0];exact g3,ho'.lt,key id b n C h1 hl g1,fun j hj=>?_⟩⟩;rw[ho'.cell,e3 _ (by omega)];congr 2;simp only[hC];rw[List.getElem?_take_of_lt (by rw[mB];omega),List.getElem?_drop]
    ·subst g1;have:(l.drop off).take (oF s 0)=[]:=by rw[mB];simp
     rw[this];exact⟨g0,by simp,.inl ⟨rfl,a,g2⟩⟩
   ·cases hf2
  ·cases hf
 | .inl k s,v0,v',u,hf,hr=>by
  have hMa:∀b,av F M' b→av F (cA ρ v) b:=fun b hb=>hb.imp id (hM b);have key:∀id b n C,nb≤id→(v id).live→ρ id=some ⟨some b,n,C⟩→¬av F M' b:=fun id b n C h1 h2 h3 hb=>hb.elim (fun hf=>hh.out b ⟨id,n,C,h3,h2⟩ hf) (fun hm=>hM' b hm id n C h1 h2 h3);unfold wG at hf;split at hf
  ·obtain⟨h0,hf⟩:=bA hf;simp only[Option.some.injEq]at hf;subst hf;simp only[mA]at hr⊢;exact .inl ⟨trivial,none,hr⟩
  ·obtain⟨h0,hf⟩:=bA hf;simp only[Option.some.injEq]at hf;subst hf;have:=mA.avoid hMa _ _ hr;simpa only[mA]using this
  ·rename_i id w1;obtain⟨h0,hf2⟩:=bA hf;clear hf;simp only[zE]at h0;have h1:=tD h0.1;have h2:=sA h0.2;clear h0;subst h2;split at hf2
   ·rename_i k' s' rows hid;obtain⟨hc,hf⟩:=bA hf2;simp only[Option.some.injEq]at hf;subst hf;have:mA ρ (av F M') w (.inl k' s' rows) u:=yn ho hh hid (fun g hg b n C hp hl=>?_) hr
    ·simpa only[mA]using this
    ·refine key g b n C ?_ hl hp;rcases hg with hg|⟨j,i,_,⟨k1,s1,rows1,hole1,q1,q2,q3,q4⟩,e⟩
     ·simp only[List.mem_singleton]at hg;omega
     ·have:=(ho.row j i k1 s1 rows1 hole1 q1 q2 q3 q4).1;omega
   ·cases hf2
  ·cases hf
 | .recd ss,v,v',u,hf,hr=>by
  unfold wG at hf;split at hf
  ·rename_i cs;split at hf
   ·rename_i cs' hL;simp only[Option.some.injEq]at hf;subst hf;simp only[mA]at hr⊢;obtain⟨vs,e,hr⟩:=hr;exact⟨vs,e,vI ho hh hnb hρ hM hM' ss cs cs' _ hL hr⟩
   ·cases hf
  ·cases hf
 | .tup ss,v,v',u,hf,hr=>by
  unfold wG at hf;split at hf
  ·rename_i cs;split at hf
   ·rename_i cs' hL;simp only[Option.some.injEq]at hf;subst hf;simp only[mA]at hr⊢;obtain⟨vs,e,hr⟩:=hr;exact⟨vs,e,vI ho hh hnb hρ hM hM' ss cs cs' _ hL hr⟩
   ·cases hf
  ·cases hf
 | .any,v,v',u,hf,hr=>by simp only[wG]at hf;obtain⟨h0,hf⟩:=bA hf;simp only[Option.some.injEq]at hf;subst hf;simp only[hD]at h0;exact mA.avoid (fun b hb=>hb.imp id (hM b)) _ _ (hr.agree _ _ (fun i hi p hp=>by rw[hρ i (oB (h0 i hi))];exact hp))
 | .row _ _,v,v',u,hf,hr=>by simp only[wG]at hf;obtain⟨h0,hf⟩:=bA hf;simp only[Option.some.injEq]at hf;subst hf;simp only[hD]at h0;exact mA.avoid (fun b hb=>hb.imp id (hM b)) _ _ (hr.agree _ _ (fun i hi p hp=>by rw[hρ i (oB (h0 i hi))];exact hp))
 | .part _ _,v,v',u,hf,hr=>by simp only[wG]at hf;obtain⟨h0,hf⟩:=bA hf;simp only[Option.some.injEq]at hf;subst hf;simp only[hD]at h0;exact mA.avoid (fun b hb=>hb.imp id (hM b)) _ _ (hr.agree _ _ (fun i hi p hp=>by rw[hρ i (oB (h0 i hi))];exact hp))
 | .nrow _ _,v,v',u,hf,hr=>by simp only[wG]at hf;obtain⟨h0,hf⟩:=bA hf;simp only[Option.some.injEq]at hf;subst hf;simp only[hD]at h0;exact mA.avoid (fun b hb=>hb.imp id (hM b)) _ _ (hr.agree _ _ (fun i hi p hp=>by rw[hρ i (oB (h0 i hi))];exact hp))
 | .vrows _ _,v,v',u,hf,hr=>by simp only[wG]at hf;obtain⟨h0,hf⟩:=bA hf;simp only[Option.some.injEq]at hf;subst hf;simp only[hD]at h0;exact mA.avoid (fun b hb=>hb.imp id (hM b)) _ _ (hr.agree _ _ (fun i hi p hp=>by rw[hρ i (oB (h0 i hi))];exact hp))
 | .vrow _,v,v',u,hf,hr=>by simp only[wG]at hf;obtain⟨h0,hf⟩:=bA hf;simp only[Option.some.injEq]at hf;subst hf;simp only[hD]at h0;exact mA.avoid (fun b hb=>hb.imp id (hM b)) _ _ (hr.agree _ _ (fun i hi p hp=>by rw[hρ i (oB (h0 i hi))];exact hp))
 | .fnc _,v,v',u,hf,hr=>by simp only[wG]at hf;obtain⟨h0,hf⟩:=bA hf;simp only[Option.some.injEq]at hf;subst hf;simp only[hD]at h0;exact mA.avoid (fun b hb=>hb.imp id (hM b)) _ _ (hr.agree _ _ (fun i hi p hp=>by rw[hρ i (oB (h0 i hi))];exact hp))
 | .box _,v,v',u,hf,hr=>by simp only[wG]at hf;obtain⟨h0,hf⟩:=bA hf;simp only[Option.some.injEq]at hf;subst hf;simp only[hD]at h0;exact mA.avoid (fun b hb=>hb.imp id (hM b)) _ _ (hr.agree _ _ (fun i hi p hp=>by rw[hρ i (oB (h0 i hi))];exact hp))
theorem vI (ho:wB h γ v)(hh:fA F ρ v w){nb:Nat}(hnb:nb≤top){ρ':lC}{M':Nat→Prop}(hρ:∀i,i<nb→ρ' i=ρ i)(hM:∀b,M' b→cA ρ v b)(hM':∀b,M' b→∀id n C,nb≤id→(v id).live→ρ id≠some ⟨some b,n,C⟩):
  ∀(ss:List Sh) (vs vs':List V) (us:List Value),xG nb h ss vs=some vs'→iA ρ (av F (cA ρ v)) w vs us→iA ρ' (av F M') w vs' us
 | [],[],vs',us,hf,hr=>by simp only[xG,Option.some.injEq]at hf;subst hf;cases us<;>simp_all[iA]
 |s::ss,v::vs,vs',us,hf,hr=>by
  unfold xG at hf;split at hf
  ·rename_i v1 h1;split at hf
   ·rename_i vs1 h2;simp only[Option.some.injEq]at hf;subst hf;cases us with
    |nil=>simp only[iA]at hr
    |cons u us=>simp only[iA]at hr⊢;exact⟨sa ho hh hnb hρ hM hM' s v v1 u h1 hr.1,vI ho hh hnb hρ hM hM' ss vs vs1 us h2 hr.2⟩
   ·cases hf
  ·cases hf
 | [],_::_,vs',us,hf,hr=>by simp[xG]at hf
 |_::_,[],vs',us,hf,hr=>by simp[xG]at hf
end
theorem kU {E:gD}(hty:mD P E.ty){s:St}{a:Act}(hr:de E F ρ (qD s.T) (oA s.H) v a w):∀(rs:List ResultVar) (vs:List V),lx E s rs=some vs→
  ∃us,iA ρ (av F (cA ρ v)) w vs us∧(rs.mapM (m:=Sem) fun
   | .tmp t=>pure (a.tmps.getD t undef)
   | .cell x t=>do loadVar t (←asAddr (a.tmps.getD x undef))).run P w= .ok us w
 | [],vs,h=>by simp only[lx,Option.some.injEq]at h;subst h;exact⟨[],by simp[iA],by simp⟩
 | .tmp t::r,vs,h=>by
  simp only[lx]at h;split at h
  ·rename_i vs1 h1;simp only[Option.some.injEq]at h;subst h;obtain⟨us,g1,g2⟩:=kU hty hr r vs1 h1;refine⟨_::us,⟨hr.tmps t,g1⟩,?_⟩;simp only[List.mapM_cons,cP,hP,hQ,g2,Act.eval]
  ·cases h
 | .cell x t::r,vs,h=>by
  simp only[lx]at h;split at h
  ·rename_i ti id off ext hti hx;obtain⟨h0,h⟩:=bA h;simp only[zE]at h0;have hle:=tD h0.1;have hpos:=oB h0.2;split at h
   ·rename_i v1 vs1 hv h1;simp only[Option.some.injEq]at h;subst h;obtain⟨us,g1,g2⟩:=kU hty hr r vs1 h1;have hx':=hr.tmps x;rw[hx]at hx';simp only[mA]at hx';obtain⟨b,n,C,hp,hn,he⟩:=hx';obtain⟨γ,ho⟩:=hr.opn;have hvh:v id=oA s.H id:=by
     cases hb:oA s.H id with
     |dead=>rw[hb]at hv;simp[tE]at hv
     |nw _ _ _ _=>rw[hb]at hv;simp[tE]at hv
     |_=>rw[←hb];exact ho.plain id (ho.live_lt (by rw[hb];trivial)) (by rw[hb];rfl)
    have hlive:(v id).live:=by
     rw[hvh];cases hb:oA s.H id with
     |dead=>rw[hb]at hv;simp[tE]at hv
     |_=>trivial
    rw[←hvh]at hv;have h0':=hty _ _ hti;obtain⟨v,r1,r2⟩:=yL (b:=b) (o:=0) h0' hpos (hr.heap.cellsAt hlive hp) (by omega) hv h0'.one;rw[Nat.zero_add]at r1;refine⟨v::us,⟨r2,g1⟩,?_⟩;simp only[Act.eval]at he;have ha:(asAddr (a.tmps.getD x undef)).run P w= .ok ⟨b,off,none⟩ w:=by rw[he];rfl
    simp only[List.mapM_cons,cP,hP,hQ,ha,r1,g2]
   ·cases h
  ·cases h
theorem yt {vs:List V}{us:List Value}{M:Nat→Prop}(hr:iA ρ M w vs us):mA ρ M w (one vs) (if h:us.toArray.size=1 then us.toArray[0]else .tuple us.toArray):=by
 have hl:=hr.length;unfold one;split
 ·rename_i v;cases us with
  |nil=>simp at hl
  |cons u us=>
   cases us with
   |nil=>simp only[iA]at hr;simpa using hr.1
   |cons=>simp at hl
 ·rename_i h1;have hne:¬us.toArray.size=1:=by
   intro he;simp at he;rw[←hl]at he;obtain⟨v,hv⟩:=List.length_eq_one_iff.mp he;exact h1 v hv
  rw[dif_neg hne];simp only[mA];exact⟨_,rfl,by simpa using hr⟩
theorem bN:∀(vs:List V) (us:List Value) (i t:Nat) (ρ:lC) (M:Nat→Prop) (w:World) (d:Value),iA ρ M w vs us→mA ρ M w (qD (cN i vs) t) (if i≤t∧t<i+us.length then us.getD (t-i) undef else d)
 | [],us,i,t,ρ,M,w,d,hr=>by simp only[cN,qD,mA]
 |v::vs,[],i,t,ρ,M,w,d,hr=>by simp only[iA]at hr
 |v::vs,u::us,i,t,ρ,M,w,d,hr=>by
  simp only[iA]at hr;simp only[cN,qD];cases hb:Nat.beq i t<;>simp only[cond_true,cond_false]
  ·have hne:i≠t:=fun e=>by subst e;simp at hb
   have:=bN vs us (i+1) t ρ M w d hr.2;by_cases hc:i≤t∧t<i+(us.length+1)
   ·rw[if_pos (by omega)]at this;rw[if_pos (by simp;omega)];have e:t-i=(t- (i+1))+1:=by omega
    rw[e];simpa using this
   ·rw[if_neg (by omega)]at this;rw[if_neg (by simp;omega)];exact this
  ·have:=sA hb;subst this;rw[if_pos (by simp)];simpa using hr.1
theorem uQ {ρ:lC}{M:Nat→Prop}{w:World}:∀(i:Nat) (ss:List Sh) (vs:List V) (us:List Value),vs.length=ss.length→us.length=ss.length→(∀t,mA ρ M w (qD (iE (jf i ss) vs) (i+t)) (us.getD t undef))→iA ρ M w vs us
 |i,[],[],[],_,_,_=>by simp only[iA]
 |i,s::ss,v::vs,u::us,h1,h2,h=>by
  simp only[iA];have h0:=h 0;simp only[jf,iE,qD,Nat.add_zero,Nat.beq_refl,cond_true]at h0;refine⟨by simpa using h0,uQ (i+1) ss vs us (by simpa using h1) (by simpa using h2) fun t=>?_⟩;have ht:=h (t+1);have hb:Nat.beq i (i+(t+1))=false:=by
   cases hc:Nat.beq i (i+(t+1))with
   |false=>rfl
   |true=>have:=sA hc;omega
  simp only[jf,iE,qD,hb,cond_false]at ht;have e:i+1+t=i+(t+1):=by omega
  rw[e];simpa using ht
 |i,[],_::_,_,h1,_,_=>by simp at h1
 |i,_::_,[],_,h1,_,_=>by simp at h1
 |i,[],[],_::_,_,h2,_=>by simp at h2
 |i,_::_,_::_,[],_,h2,_=>by simp at h2
def Cc (P:Program)(fn:Func)(S:oP)(v:V)(bs:List nA)(a:Act)(w:World):Prop:=
 a.defers=[]∧∃u,(results fn a.tmps).run P w= .ok u w∧gR S.F S.ρ S.bs S.w v bs u w
theorem xa {E:gD}{fn:Func}(hty:mD P E.ty)(hres:E.res=fn.results.toList){S:oP}(hnb:E.nb=S.bs.length){s:St}{v:V}{bs:List nA}(hf:rL E s=some (v,bs)){a:Act}(hI:cF E S s a w):Cc P fn S v bs a w:=by
 obtain⟨ρ,v,hr,h1,h2,h3,h5,h6,h7,h4⟩:=hI;obtain⟨γ,ho⟩:=hr.opn;refine⟨hr.defers,?_⟩;unfold rL at hf;split at hf
 ·cases hf
 ·rename_i vs hvs;have hf0:=hf;clear hf;cases hrow:E.own<;>rw[hrow]at hf0<;>simp only[cond_true,cond_false]at hf0
  rotate_left
  ·split at hf0
   ·cases hf0
   ·rename_i vs' H' hn;obtain⟨hok,hf⟩:=bA hf0;simp only[Option.some.injEq,Prod.mk.injEq]at hf;obtain⟨rfl,rfl⟩:=hf;simp only[zE]at hok;have hl1:=sA hok.1;have hl2:=sA hok.2;obtain⟨us,g1,g2⟩:=kU hty hr _ _ hvs;have hlu:=g1.length;refine⟨if h:us.toArray.size=1 then us.toArray[0]else .tuple us.toArray,?_,?_⟩
    ·unfold results;rw[←hW (xs:=fn.results),List.mapM_toArray,←hres];simp only[bind_map_left,cP,hP];exact(congrArg (fun r=>Result.andThen r _) g2).trans rfl
    ·have hev:∀t,Act.eval ⟨us.toArray,[]⟩ (.tmp t)=us.getD t undef:=fun t=>by simp[Act.eval,hC]
     have hI1:cF {E with ntmps:=us.length} S ⟨cN 0 vs,s.H⟩ ⟨us.toArray,[]⟩ w:=by
      refine⟨ρ,v,⟨hr.opn,hr.bd,hr.heap,fun t=>?_,by simp,rfl⟩,h1,h2,h3,h5,h6,h7,h4⟩;have:=bN vs us 0 t ρ (av S.F (cA ρ v)) w undef g1;rw[hev];dsimp only;split at this
      ·simpa using this
      ·rename_i hge;have:us.getD t undef=undef:=by
        rw[hC,pC (by omega)];rfl
       rw[this];assumption
     obtain⟨ρ',v',k1,k2,k3,k4,k6,k7,k8,k5⟩:=yl (E:={E with ntmps:=us.length}) hn hI1;refine⟨ρ',v',fun j hj=>k3 j (by dsimp only;omega),k7,k2,k1.bd,k6,k8,k1.opn,k1.heap,yt (uQ 0 E.rsh vs' us hl2 (by omega) fun t=>?_),k5⟩;have:=k1.tmps t;rw[hev]at this;rw[Nat.zero_add];exact this
  have hf:=hf0;clear hf0;split at hf
  ·cases hf
  ·rename_i vs' hfz;obtain⟨hok,hf⟩:=bA hf;simp only[Option.some.injEq,Prod.mk.injEq]at hf;obtain⟨rfl,rfl⟩:=hf;obtain⟨us,g1,g2⟩:=kU hty hr _ _ hvs;refine⟨if h:us.toArray.size=1 then us.toArray[0]else .tuple us.toArray,?_,?_⟩
   ·unfold results;rw[←hW (xs:=fn.results),List.mapM_toArray,←hres];simp only[bind_map_left,cP,hP];exact(congrArg (fun r=>Result.andThen r _) g2).trans rfl
   ·let ρ':lC:=fun j=>if j<E.nb∨top≤j then ρ j else none
    have hnbt:E.nb≤top:=by omega
    have hρ':∀j,j<E.nb→ρ' j=ρ j:=fun j hj=>if_pos (.inl hj);have hρg:∀g,top≤g→ρ' g=ρ g:=fun g hg=>if_pos (.inr hg);have hbt:∀j,oA (s.H.take E.nb) j=if j<E.nb then oA s.H j else .dead:=fun j=>by rw[vB,vB,hC,hC,hK];split<;>rfl
    have hin:∀j,j<E.nb→(oA s.H j).live→oA s.H j∈s.H.take E.nb:=fun j hj hl=>xK (i:=j) (by rw[hK,if_pos hj];exact rI hl);have hnn:∀j,(oA (s.H.take E.nb) j).isNw=false:=fun j=>by
     rw[hbt];split
     ·rename_i hj;cases hb:(oA s.H j).isNw with
      |false=>rfl
      |true=>obtain⟨k,s0,rows,hole,e⟩:=iU hb;have:=(fF _ _ hok _ (hin j hj (by rw[e];trivial))).1;rw[hb]at this;cases this
     ·rfl
    have hlive:∀j,(oA (s.H.take E.nb) j).live→j<E.nb∧(oA s.H j).live∧v j=oA s.H j:=fun j hl=>by
     have hn:=hnn j;rw[hbt]at hl hn;split at hl
     ·rename_i hj;rw[if_pos hj]at hn;exact⟨hj,hl,ho.plain j (by omega) hn⟩
     ·exact hl.elim
    have hM:∀b,cA ρ' (oA (s.H.take E.nb)) b→cA ρ v b:=by rintro b ⟨j,n,C,hp,hl⟩;obtain⟨k1,k2,k3⟩:=hlive j hl;rw[hρ' j k1]at hp;exact⟨j,n,C,hp,by rw[k3];exact k2⟩
    have hMa:∀b,av S.F (cA ρ' (oA (s.H.take E.nb))) b→av S.F (cA ρ v) b:=fun b hb=>hb.imp id (hM b);have htl:(s.H.take E.nb).length=E.nb:=by simp[h3]
    refine⟨ρ',oA (s.H.take E.nb),fun j hj=>?_,fun g p hg hp=>by rw[hρg g hg];exact h6 g p hg hp,fun j hj hj2=>?_,?_,by omega,fun g hg hl=>?_,⟨_,wB.flat hnn (fun j hj=>by rw[hbt,if_neg (by omega)])⟩,⟨?_,?_,?_,hr.heap.low,fun b hb=>hr.heap.out b (hM b hb)⟩,?_,⟨h4.size,h4.same,fun b hb=>h4.sub b (hM b hb),h4.keeps⟩⟩
    ·rw[hρ' j (by omega)];exact h2 j (by omega)
    ·exact if_neg (by omega)
    ·obtain⟨G,hG⟩:=hr.bd;exact⟨G+top,fun g hg=>by rw[hρg g (by omega)];exact hG g (by omega)⟩
    ·have:=(hlive g hl).1;omega
    ·intro j p hp;simp only[ρ']at hp;split at hp
     ·exact hr.heap.wf _ _ hp
     ·cases hp
    ·intro j hl;obtain⟨k1,k2,k3⟩:=hlive j hl;obtain⟨p,hp,hb⟩:=hr.heap.rel j (by rw[k3];exact k2);refine⟨p,by rw[hρ' j k1];exact hp,?_⟩;rw[hbt,if_pos k1];rw[k3]at hb;refine aB.avoid hMa (hb.agree (fun i hi p hp=>?_));rw[hρ' i ((fF _ _ hok _ (hin j k1 k2)).2 i hi)];exact hp
    ·intro i j b n C n' C' hi hj hpi hpj;obtain⟨k1,k2,k5⟩:=hlive i hi;obtain⟨k3,k4,k6⟩:=hlive j hj;rw[hρ' i k1]at hpi;rw[hρ' j k3]at hpj;exact hr.heap.inj i j b _ _ _ _ (by rw[k5];exact k2) (by rw[k6];exact k4) hpi hpj
    ·refine yt (vI ho hr.heap hnbt hρ' hM ?_ _ _ _ _ hfz g1);rintro b ⟨j,n,C,hp,hl⟩ id n' C' hid hli hpi;obtain⟨k1,k2,k3⟩:=hlive j hl;rw[hρ' j k1]at hp;have:=hr.heap.inj j id b _ _ _ _ (by rw[k3];exact k2) hli hp hpi;omega
end
def al (P:Program)(body:Code)(Q:Exit→Act→World→Prop):Nat→Code→Act→World→Prop
 |0,_,_,_=>False
 |n+1,c,a,w=>c.wp P (fun e a' w'=>match e with
  | .goto l=>∃rest,findLabel body l=some rest∧al P body Q n rest a' w'
  |e=>Q e a' w') a w
theorem cU {P:Program}{body:Code}{Q:Exit→Act→World→Prop}{a:Act}{w:World}(n:Nat)(h:al P body Q n body a w):(Code.scope body).wp P Q a w:=by
 intro b k cs;have key:∀n c a w,al P body Q n c a w→∃e a' w',Q e a' w'∧Arrives P (lone (b.at a (.code c:: .inScope body::k)) cs w) b k cs e a' w':=by
  intro n;induction n with
  |zero=>intro c a w h;exact h.elim
  |succ n ih=>
   intro c a w h;obtain⟨e,a₁,w₁,hq,harr⟩:=h b (.inScope body::k) cs;cases e with
   |normal=>exact⟨.normal,a₁,w₁,hq,Steps.trans harr (.one step_inScope)⟩
   |exit id=>exact⟨.exit id,a₁,w₁,hq,fun k' hk=>harr k' (by simp[exitTo,hk])⟩
   |goto l=>obtain⟨rest,hf,hp⟩:=hq;obtain⟨e₂,a₂,w₂,hq₂,harr₂⟩:=ih rest a₁ w₁ hp;exact⟨e₂,a₂,w₂,hq₂,.of_steps (harr _ (by simp[gotoIn,hf])) harr₂⟩
   |ret=>exact⟨_,a₁,w₁,hq,harr⟩
   |panic ch=>exact⟨_,a₁,w₁,hq,harr⟩
   |outgrown=>exact⟨_,a₁,w₁,hq,harr⟩
 obtain⟨e,a₁,w₁,hq,harr⟩:=key n body a w h;exact⟨e,a₁,w₁,hq,.of_steps (.one step_scope) harr⟩
theorem eJ:∀(c:Code) (l:Nat) (rest:Code),findLabel c l=some rest→∀x∈jA rest,x∈jA c
 | .seq a b,l,rest,h,x,hx=>by
  simp only[findLabel]at h;split at h
  ·rename_i r hr;simp only[Option.some.injEq]at h;subst h;simp only[jA,List.mem_append]at hx⊢;exact hx.imp (eJ a l r hr x) (fun y=>y)
  ·simp only[jA,List.mem_append];exact .inr (eJ b l rest h x hx)
 | .label l',l,rest,h,x,hx=>by
  simp only[findLabel]at h;split at h
  ·simp only[Option.some.injEq]at h;subst h;simp[jA]at hx
  ·cases h
 | .skip,_,_,h,_,_=>by simp[findLabel]at h
 | .region ..,_,_,h,_,_=>by simp[findLabel]at h
 | .cond ..,_,_,h,_,_=>by simp[findLabel]at h
 | .block ..,_,_,h,_,_=>by simp[findLabel]at h
 | .loop ..,_,_,h,_,_=>by simp[findLabel]at h
 | .scope ..,_,_,h,_,_=>by simp[findLabel]at h
 | .exit ..,_,_,h,_,_=>by simp[findLabel]at h
 | .goto ..,_,_,h,_,_=>by simp[findLabel]at h
 | .ret,_,_,h,_,_=>by simp[findLabel]at h
 | .rangeFunc ..,_,_,h,_,_=>by simp[findLabel]at h
 | .refuse ..,_,_,h,_,_=>by simp[findLabel]at h
section
variable {P:Program}{fn:Func}{E:gD}
def Is (P:Program)(fn:Func)(E:gD)(S:oP):Ex→St→Exit→Act→World→Prop
 | .normal,s,x,a,w=>x= .normal∧cF E S s a w
 | .exit i,s,x,a,w=>x= .exit i∧cF E S s a w
 | .goto l,s,x,a,w=>x= .goto l∧cF E S s a w
 | .ret v bs,_,x,a,w=>x= .ret∧Cc P fn S v bs a w
def Ed (P:Program)(fn:Func)(E:gD)(c:Code)(s:St){R:Type}(k:Ex→St→Option R)(r:R):Prop:=
 ∀S a w,E.nb=S.bs.length→cF E S s a w→c.wp P (fun x a' w'=>∃ex s',k ex s'=some r∧Is P fn E S ex s' x a' w') a w
def qC (P:Program)(fn:Func)(E:gD):Code→Prop
 | .loop b=>∀e hd,E.cut (cG b)=some e→E.hint (cG b)=some hd→∀(R:Type) vs H (k:Ex→St→Option R) r,e.run vs H k=some r→Ed P fn E (.loop b) ⟨iE hd.keep vs,H⟩ k r
 | .scope b=>∀e hd,E.cut (1000000+cG b)=some e→E.hint (1000000+cG b)=some hd→∀(R:Type) vs H (k:Ex→St→Option R) r,e.run vs H k=some r→Ed P fn E (.scope b) ⟨iE hd.keep vs,H⟩ k r
 |_=>True
def dU (P:Program)(fn:Func)(E:gD)(c:Code)(f:{R:Type}→St→(Ex→St→Option R)→Option R):Prop:=
 ∀(R:Type) s (k:Ex→St→Option R) r,f s k=some r→Ed P fn E c s k r
theorem rv {b:Code}{hd:mE}{f:{R:Type}→St→(Ex→St→Option R)→Option R}(hf:dU P fn E b f){R:Type}:∀(n:Nat) (vs:List V) (H:List nA) (k:Ex→St→Option R) (r:R),xB E.nb hd f n vs H k=some r→
  ∀S a w,E.nb=S.bs.length→cF E S ⟨iE hd.keep vs,H⟩ a w→Code.rounds P b (fun x a' w'=>∃ex s',k ex s'=some r∧Is P fn E S ex s' x a' w') n a w:=by
 intro n;induction n with
 |zero=>intro vs H k r h;cases h
 |succ n ih=>
  intro vs H k r h S a w hnb hI;unfold xB at h;rw[rounds_succ];refine wp_mono (hf R _ _ _ h S a w hnb hI) ?_;rintro x a' w' ⟨ex,s1,h1,h2⟩;cases ex with
  |normal=>
   obtain⟨rfl,hI'⟩:=h2;dsimp only at h1;split at h1
   ·rename_i vs' H' hn;exact ih _ _ _ _ h1 S a' w' hnb (oJ hn hI')
   ·cases h1
  |ret v bs=>obtain⟨rfl,hI'⟩:=h2;exact⟨.ret v bs,.nil,h1,rfl,hI'⟩
  |exit i=>
   obtain⟨rfl,hI'⟩:=h2;dsimp only at h1;split at h1
   ·rename_i vs' H' hn;exact⟨.exit i,_,h1,rfl,oJ hn hI'⟩
   ·cases h1
  |goto l=>
   obtain⟨rfl,hI'⟩:=h2;dsimp only at h1;split at h1
   ·rename_i vs' H' hn;exact⟨.goto l,_,h1,rfl,oJ hn hI'⟩
   ·cases h1
theorem oo {b:Code}{hd:mE}{f:{R:Type}→St→(Ex→St→Option R)→Option R}(hf:dU P fn E b f){R:Type}{n:Nat}{vs:List V}{H:List nA}{k:Ex→St→Option R}{r:R}(h:xB E.nb hd f n vs H k=some r):
  Ed P fn E (.loop b) ⟨iE hd.keep vs,H⟩ k r:=fun S a w hnb hI=>wp_loop_rounds n (rv hf n vs H k r h S a w hnb hI)
theorem ka {body:Code}{hd:mE}{f:{R:Type}→Code→St→(Ex→St→Option R)→Option R}(hf:∀c,(∀x∈jA c,x∈jA body)→dU P fn E c (fun s k=>f c s k)){R:Type}:∀(n:Nat) (c:Code) (vs:List V) (H:List nA) (k:Ex→St→Option R) (r:R),(∀x∈jA c,x∈jA body)→
  gU E.nb hd f body n c vs H k=some r→∀S a w,E.nb=S.bs.length→cF E S ⟨iE hd.keep vs,H⟩ a w→al P body (fun x a' w'=>∃ex s',k ex s'=some r∧Is P fn E S ex s' x a' w') n c a w:=by
 intro n;induction n with
 |zero=>intro c vs H k r _ h;cases h
 |succ n ih=>
  intro c vs H k r hsub h S a w hnb hI;unfold gU at h;refine wp_mono (hf c hsub R _ _ _ h S a w hnb hI) ?_;rintro x a' w' ⟨ex,s1,h1,h2⟩;cases ex with
  |goto l=>
   obtain⟨rfl,hI'⟩:=h2;dsimp only at h1;split at h1
   ·rename_i rest hrest;split at h1
    ·rename_i vs' H' hn;exact⟨rest,hrest,ih rest _ _ _ _ (eJ body l rest hrest) h1 S a' w' hnb (oJ hn hI')⟩
    ·cases h1
   ·cases h1
  |ret v bs=>obtain⟨rfl,hI'⟩:=h2;exact⟨.ret v bs,.nil,h1,rfl,hI'⟩
  |normal=>
   obtain⟨rfl,hI'⟩:=h2;dsimp only at h1;split at h1
   ·rename_i vs' H' hn;exact⟨.normal,_,h1,rfl,oJ hn hI'⟩
   ·cases h1
  |exit i=>
   obtain⟨rfl,hI'⟩:=h2;dsimp only at h1;split at h1
   ·rename_i vs' H' hn;exact⟨.exit i,_,h1,rfl,oJ hn hI'⟩
   ·cases h1
theorem ju {R:Type}{n:Nat}{f:Nat→Option R}{r:R}(h:sY n f=some r):∀i,i<n→f i=some r:=by
 unfold sY at h;split at h
 ·rename_i hx;simp only[Option.some.injEq]at h;rw[←h];exact Classical.choose_spec hx.2
 ·cases h
theorem pW {id:Nat}{ops:Array Oper}{it:Operand}{d1 d2:Nat}(hn:kn ops.toList=some (it,d1,d2))(h1:Nat.blt d1 E.ntmps=true)(h2:Nat.blt d2 E.ntmps=true){s:St}{R:Type}{k:St→Option R}{r:R}(hr:jy d1 d2 (Ck s.T it) s.T s.H k=some r):
  ∀S a w,cF E S s a w→(Code.region id ops false).wp P (fun x a' w'=>x= .normal∧∃s',k s'=some r∧cF E S s' a' w') a w:=by
 intro S a w hI;unfold kn at hn;split at hn
 ·rename_i l o1 o2 hops;split at hn
  ·rename_i it' t0 t d2' e1 e2 e3 e4 e5 e6;obtain⟨ht,hn⟩:=bA hn;have ht:=sA ht;subst ht;simp only[Option.some.injEq,Prod.mk.injEq]at hn;obtain⟨rfl,rfl,rfl⟩:=hn;obtain rfl:ops= #[o1,o2]:=by apply Array.ext';simpa using hops
   obtain⟨ρ,v0,hrep,q1,q2,q3,q5,q6,q7,q4⟩:=hI;obtain⟨γ,ho⟩:=hrep.opn;unfold jy at hr;split at hr
   ·rename_i idd ext hit;split at hr
    ·rename_i mid rD rem cur hid;split at hr
     rotate_left
     ·cases hr
     rename_i kd n ks vs hmid;obtain⟨hcn,hr0⟩:=bA hr;clear hr;have hr:=hr0;clear hr0;have hcn:=sA hcn;have hev:=hrep.ev it';rw[←v7,hit]at hev;have hwanted:∀(o:Oper) (h:o.guard=none) (y:Nat→Option Bool),Region.wanted o y=true:=fun o h y=>by unfold Region.wanted;rw[h]
     have hl:idd<s.H.length:=by
      rcases Nat.lt_or_ge idd s.H.length with h|h
      ·exact h
      ·have h0:s.H[idd]?=none:=pC h;rw[vB,hC,h0]at hid;cases hid
     have rL:∀(b:Bool) (v:Value) (w':World) (H':List nA) (v1:Nat→nA),(Instr.next (a.eval it') false o1.type).run P w= .ok v w'→(Instr.extract v 0).run P w'= .ok (.bool b) w'→H'.length=s.H.length→
       wB (oA H') γ v1→(∀g,top≤g→v1 g=v0 g)→fA S.F ρ v1 w'→tF (cA ρ v0) w (cA ρ v1) w'→k ⟨(d2',.c (.bool b))::(t,.poison)::s.T,H'⟩=some r→
       (Code.region id #[o1,o2] false).wp P (fun x a' w'=>x= .normal∧∃s',k s'=some r∧cF E S s' a' w') a w:=by
      intro b v w' H' v1 hrun hext hlen ho1 hg1 hh he hk;have r1:de E S.F ρ (qD s.T) (oA H') v1 a w':=hrep.put (mK.refl _) ⟨γ,ho1⟩ hrep.bd hh he (d:=none) rfl (x:=.poison) (u:=.bool b) (by simp only[mA]);have r2:=r1.put (mK.refl _) ⟨γ,ho1⟩ hrep.bd hh (tF.refl _ _) (d:=some t) h1 (x:=.poison) (u:=v) (by simp only[mA]);have r3:=r2.put (mK.refl _) ⟨γ,ho1⟩ hrep.bd hh (tF.refl _ _) (d:=some d2') h2 (x:=.c (.bool b)) (u:=.bool b) (mA.of_c _);have hev1:(a.put (some t) v).eval (.tmp t)=v:=by
       have hlt:t<a.tmps.size:=by rw[hrep.size];exact oB h1
       simp only[Act.put,Act.eval];rw[hT,Array.getElem?_setIfInBounds_self_of_lt hlt];rfl
      refine wp_region ?_;show wpOps P #[o1,o2] _ [0,1] a w;rw[wpOps_cons];unfold wpOp;simp only[hS,hU];rw[if_pos (hwanted o1 e3 _)];refine .inl ?_;unfold Oper.wp execOp;rw[e1];simp only[cP,hrun,hQ,hP];rw[Oper.upon_value,e2,wpOps_cons];unfold wpOp;simp only[hS,hU,List.getElem?_cons_succ];rw[if_pos (hwanted o2 e6 _)];refine .inl ?_;unfold Oper.wp execOp;rw[e4];simp only[hev1,cP,hext,hQ,hP];rw[Oper.upon_value,e5];refine⟨rfl,_,hk,ρ,v1,?_,fun j hj=>q1 j (by dsimp only at hj;omega),q2,by dsimp only;omega,by dsimp only;omega,q6,fun g hg hl=>q7 g hg (by rw[hg1 g hg]at hl;exact hl),q4.trans he⟩;have e:qD ((d2',V.c (.bool b))::(t,.poison)::s.T)=pH (pH (qD s.T) (some t) .poison) (some d2') (.c (.bool b)):=by rw[←fQ,←fQ];rfl
      dsimp only;rw[e];exact r3
     have hidt:idd<top:=ho.live_lt (by rw[hid];trivial);have hvid:v0 idd= .it (some mid) rD rem cur:=by rw[←hid];exact ho.plain idd hidt (by rw[hid];rfl)
     have hvmid:v0 mid= .mp kd n ks vs:=by rw[←hmid];exact ho.plain mid (ho.live_lt (by rw[hmid];trivial)) (by rw[hmid];rfl)
     rcases Bi (P:=P) hrep.heap hev hvid hvmid hcn o1.type with⟨hr0,hrun⟩|⟨p,u1,u2,w',hp,hrun,hh,he⟩
     ·subst hr0;simp only[List.isEmpty_nil,cond_true]at hr;exact rL false _ w s.H v0 hrun (by simp[Instr.extract]) rfl ho (fun _ _=>rfl) hrep.heap (tF.refl _ _) hr
     ·have hne:rem.isEmpty=false:=by cases rem with
       |nil=>simp at hp
       |cons=>rfl
      simp only[hne,cond_false]at hr;have hk:=ju hr p hp;have hb:oA (cC s.H idd (.it (some mid) rD (rem.eraseIdx p) (rem.getD p 0)))=oC (oA s.H) [(idd,.it (some mid) rD (rem.eraseIdx p) (rem.getD p 0))]:=pK _ _ _ hl;have hup:=ho.upd (ups:=[(idd,.it (some mid) rD (rem.eraseIdx p) (rem.getD p 0))]) (by simpa using hidt) (by simp[hid,nA.isNw]) (by simp[nA.isNw]);exact rL true _ w' _ _ hrun (by simp[Instr.extract]) (lB _ _ _) (by rw[hb];exact hup) (fun g hg=>by show(if g=idd then _ else v0 g)=v0 g;rw[if_neg (by omega)]) hh he hk
    ·cases hr
   ·cases hr
  ·cases hn
 ·cases hn
theorem yY (hE:eB P E)(hmix:P.follows .mixedOrders=true)(hres:E.res=fn.results.toList):∀(d:Nat) (c:Code),(∀b∈jA c,qC P fn E b)→dU P fn E c (fun s k=>kB E d c s k):=by
 intro d;induction d with
 |zero=>intro c _ R s k r h;cases h
 |succ d ih=>
  intro c hcut R s k r h S a w hnb hI;dsimp only at h;unfold kB at h;cases c with
  |skip=>exact wp_skip ⟨.normal,s,h,rfl,hI⟩
  |label l=>exact wp_label ⟨.normal,s,h,rfl,hI⟩
  |exit id=>exact wp_exit ⟨.exit id,s,h,rfl,hI⟩
  |goto l=>exact wp_goto ⟨.goto l,s,h,rfl,hI⟩
  |rangeFunc=>cases h
  |refuse=>cases h
  |ret=>
   dsimp only at h;split at h
   ·rename_i v bs hf;exact wp_ret ⟨.ret v bs,.nil,h,rfl,xa hE.ty hres hnb hf hI⟩
   ·cases h
  |region id ops draw=>
   dsimp only at h;split at h
   ·rename_i it d1 d2 hn;obtain⟨hg,h'⟩:=bA h;clear h;obtain⟨hd,hg⟩:=qA hg;obtain⟨hd1,hd2⟩:=qA hg;have hd:draw=false:=by simpa using hd
    subst hd;refine wp_mono (pW hn hd1 hd2 h' S a w hI) ?_;rintro x a' w' ⟨rfl,s',hk,hI'⟩;exact⟨.normal,s',hk,rfl,hI'⟩
   ·obtain⟨s',h1,h2,h3,h4⟩:=tm (id:=id) hE hmix h;obtain⟨ρ,v,r1,r2,r3,r4,r6,r7,r8,r5⟩:=hI;refine h4 S.F ρ v a w _ r1 r2 (fun ρ' v' a' w' q1 q2 q3 q5 q6 q4=>⟨.normal,s',h1,rfl,ρ',v',q1,q2,fun j hj=>by rw[q3 j (by omega) (by omega)];exact r3 j hj,by omega,h3,fun g p hg hp=>q5 g p hg (r7 g p hg hp),fun g hg hl=>?_,r5.trans q4⟩);rcases q6 g hg hl with q|q
    ·exact r8 g hg q
    ·cases hs:S.ρ g with
     |none=>rfl
     |some p=>have:=r7 g p hg hs;rw[q]at this;cases this
  |seq x y=>
   refine wp_seq (wp_mono (ih x (fun b hb=>hcut b (by simp[jA,hb])) R _ _ _ h S a w hnb hI) ?_);rintro e a' w' ⟨ex,s1,h1,h2⟩;cases ex with
   |normal=>obtain⟨rfl,hI'⟩:=h2;exact ih y (fun b hb=>hcut b (by simp[jA,hb])) R _ _ _ h1 S a' w' hnb hI'
   |ret v bs=>obtain⟨rfl,hI'⟩:=h2;exact⟨.ret v bs,s1,h1,rfl,hI'⟩
   |exit i=>obtain⟨rfl,hI'⟩:=h2;exact⟨.exit i,s1,h1,rfl,hI'⟩
   |goto l=>obtain⟨rfl,hI'⟩:=h2;exact⟨.goto l,s1,h1,rfl,hI'⟩
  |cond c x y=>
   dsimp only at h;split at h
   ·rename_i b hb;rw[v7]at hb;have hev:a.eval c= .bool b:=by
     obtain⟨ρ,v,r1,_⟩:=hI;have:=r1.ev c;rw[hb]at this;simpa only[mA]using this
    cases b<;>simp only[cond_true,cond_false]at h
    ·exact wp_cond_false hev (ih y (fun b hb=>hcut b (by simp[jA,hb])) R _ _ _ h S a w hnb hI)
    ·exact wp_cond_true hev (ih x (fun b hb=>hcut b (by simp[jA,hb])) R _ _ _ h S a w hnb hI)
   ·cases h
  |block id b=>
   refine wp_block (wp_mono (ih b (fun x hx=>hcut x (by simpa[jA]using hx)) R _ _ _ h S a w hnb hI) ?_);rintro e a' w' ⟨ex,s1,h1,h2⟩;cases ex with
   |normal=>obtain⟨rfl,hI'⟩:=h2;exact⟨.normal,s1,h1,rfl,hI'⟩
   |ret v bs=>obtain⟨rfl,hI'⟩:=h2;exact⟨.ret v bs,s1,h1,rfl,hI'⟩
   |goto l=>obtain⟨rfl,hI'⟩:=h2;exact⟨.goto l,s1,h1,rfl,hI'⟩
   |exit i=>
    obtain⟨rfl,hI'⟩:=h2;dsimp only at h1;simp only[Exit.inBlock];cases hb:Nat.beq i id<;>rw[hb]at h1<;>simp only[cond_true,cond_false]at h1
    ·rw[if_neg (fun e=>by subst e;simp at hb)];exact⟨.exit i,s1,h1,rfl,hI'⟩
    ·rw[if_pos (sA hb)];exact⟨.normal,s1,h1,rfl,hI'⟩
  |loop b=>
   dsimp only at h;split at h
   ·cases h
   ·rename_i hd hhd;split at h
    ·cases h
    ·rename_i vs H hn;have key:Ed P fn E (.loop b) ⟨iE hd.keep vs,H⟩ k r:=by
      split at h
      ·rename_i e he;exact hcut (.loop b) (by simp[jA]) e hd he hhd R vs H k r h
      ·exact oo (ih b (fun x hx=>hcut x (by simp[jA,hx]))) h
     exact key S a w hnb (oJ hn hI)
  |scope b=>
   dsimp only at h;cases hj:xO b 0<;>rw[hj]at h<;>simp only[cond_true,cond_false]at h
   ·refine wp_scope_straight (wp_mono (ih b (fun x hx=>hcut x (by simp[jA,hx])) R _ _ _ h S a w hnb hI) ?_);rintro e a' w' ⟨ex,s1,h1,h2⟩;cases ex with
    |goto l=>cases h1
    |normal=>obtain⟨rfl,hI'⟩:=h2;exact⟨.normal,s1,h1,rfl,hI'⟩
    |ret v bs=>obtain⟨rfl,hI'⟩:=h2;exact⟨.ret v bs,s1,h1,rfl,hI'⟩
    |exit i=>obtain⟨rfl,hI'⟩:=h2;exact⟨.exit i,s1,h1,rfl,hI'⟩
   ·split at h
    ·cases h
    ·rename_i hd hhd;split at h
     ·cases h
     ·rename_i vs H hn;have key:Ed P fn E (.scope b) ⟨iE hd.keep vs,H⟩ k r:=by
       split at h
       ·rename_i e he;exact hcut (.scope b) (by simp[jA]) e hd he hhd R vs H k r h
       ·exact fun S a w hnb hI=>cU E.N (ka (f:=fun c s k=>kB E d c s k) (body:=b) (fun c hc=>ih c (fun x hx=>hcut x (by simp[jA,hc x hx]))) E.N b vs H k r (fun _ hx=>hx) h S a w hnb hI)
      exact key S a w hnb (oJ hn hI)
structure j4 (P:Program)(f:Nat)(args:List V)(bs:List nA){R:Type}(k:V→List nA→Option R)(r:R):Prop where
 callable:nM P f
 calls:∀F ρ w args',fA F ρ (oA bs) w→(∀id,bs.length≤id→id<top→ρ id=none)→Bd ρ→bs.length≤top→iA ρ (av F (cA ρ (oA bs))) w args args'→
  Calls P f args'.toArray w fun e w'=>∃v bs' v',k v bs'=some r∧e= .returned v'∧gR F ρ bs w v bs' v' w'
theorem j4.of {f:Nat}{args:List V}{bs:List nA}{R:Type}{k:V→List nA→Option R}{r:R}(h:j4 P f args bs k r){v0:V}{bs0:List nA}(hk:∀v bs',k v bs'=some r→v=v0∧bs'=bs0):kA P f args bs v0 bs0:=
 ⟨h.callable,fun F ρ w args' hH hn hb hl hr=>(h.calls F ρ w args' hH hn hb hl hr).mono fun e w' ⟨v,bs',v',h1,h2,h3⟩=>by obtain⟨rfl,rfl⟩:=hk v bs' h1;exact⟨v',h2,h3⟩⟩
theorem fa (hE:eB P E)(hmix:P.follows .mixedOrders=true){f:Nat}{body:Code}(hf:P.funcs[f]?=some fn)(hb:fn.body=some body)(hname:(fn.name== "runtime.NumGoroutine")=false)(hres:E.res=fn.results.toList)(hnt:E.ntmps=fn.ntmps)
  {args:List V}{bs:List nA}(hnb:E.nb=bs.length)(hargs:args.length≤fn.ntmps)(hcut:∀b∈jA body,qC P fn E b){R:Type}{k:V→List nA→Option R}{r:R}(h:gB E body args bs k=some r):
  j4 P f args bs k r:=by
 refine⟨⟨fn,hf,by rw[hb];rfl,hname⟩,?_⟩;intro F ρ w args' hH hn hbd hbl hr;refine calls_of_wp hf hb ?_;unfold gB at h;have hlen:=hr.length;have hI:cF E ⟨F,ρ,bs,w⟩ ⟨cN 0 args,bs⟩ {tmps:=args'.toArray++Array.replicate (fn.ntmps-args'.toArray.size) undef,defers:=[]} w:=by
  have hnn:∀j,(oA bs j).isNw=false:=fun j=>by
   cases hx:(oA bs j).isNw with
   |false=>rfl
   |true=>obtain⟨k,s0,rows,hole,e⟩:=iU hx;obtain⟨p,_,hp⟩:=hH.rel j (by rw[e];trivial);rw[e]at hp;exact hp.elim
  have hhi:∀j,top≤j→oA bs j= .dead:=fun j hj=>by rw[vB,hC,pC (by omega)];rfl
  refine⟨ρ,oA bs,⟨⟨_,wB.flat hnn hhi⟩,hbd,hH,fun t=>?_,?_,rfl⟩,hn,fun _ _=>rfl,by dsimp only;omega,hbl,fun _ _ _ h=>h,fun g hg hl=>by rw[hhi g hg]at hl;exact hl.elim,tF.refl _ _⟩
  ·have:=bN args args' 0 t ρ _ w undef hr;have e:(if 0≤t∧t<0+args'.length then args'.getD (t-0) undef else undef)=Act.eval {tmps:=args'.toArray++Array.replicate (fn.ntmps-args'.toArray.size) undef,defers:=[]} (.tmp t):=by
    simp only[Act.eval,hT,Array.getElem?_append,List.size_toArray,hS,Array.getElem?_replicate];by_cases ht:t<args'.length
    ·rw[if_pos (by omega),if_pos ht];simp[hC]
    ·rw[if_neg (by omega),if_neg ht];split<;>rfl
   rw[←e];exact this
  ·simp only[Array.size_append,List.size_toArray,Array.size_replicate,hnt];omega
 refine wp_mono (yY hE hmix hres Ci body hcut R _ _ _ h ⟨F,ρ,bs,w⟩ _ w hnb hI) ?_;rintro x a' w' ⟨ex,s',h1,hx⟩;cases ex with
 |normal=>
  obtain⟨rfl,hI'⟩:=hx;dsimp only at h1;split at h1
  ·rename_i v bs' hf;obtain⟨hd,u,hu,hp⟩:=xa hE.ty hres hnb hf hI';exact⟨hd,u,hu,v,bs',u,h1,rfl,hp⟩
  ·cases h1
 |ret v bs'=>obtain⟨rfl,hd,u,hu,hp⟩:=hx;exact⟨hd,u,hu,v,bs',u,h1,rfl,hp⟩
 |exit i=>cases h1
 |goto l=>cases h1
theorem kA.of_freeze {f:Nat}{ss:List Sh}{args args2:List V}{v:V}{bs':List nA}(hz:xG 0 (fun _=>.dead) ss args=some args2)(h:kA P f args2 [] v bs'):kA P f args [] v bs':=by
 refine⟨h.callable,fun F ρ w args' hH hn hb hl hr=>h.calls F ρ w args' hH hn hb hl ?_⟩;have hd:oA []=fun _=>nA.dead:=by funext j;rfl
 rw[hd]at hH hr⊢;exact vI (wB.flat (fun _=>rfl) (fun _ _=>rfl)) hH (Nat.zero_le _) (fun i hi=>by omega) (fun b hb=>hb) (fun b hb=>by obtain⟨_,_,_,_,hl⟩:=hb;exact hl.elim) ss args args2 args' hz hr
end
theorem nC {P:Program}{t:Nat}{ti:TI}(hi:(P.info? t).isSome=true)(hs:((P.info? t).getD default).size=ti.size)(hb:((P.info? t).getD default).bytes=ti.bytes)(hz:((P.info? t).getD default).zero.isSome=true)
  (hc:(((P.info? t).getD default).zero.getD undef).cells.toList=ti.zero)(hl:ti.zero.length=ti.size)(ho:(ti.isAgg||Nat.beq ti.size 1)=true)(hk:nD P t ti.tk)(he:(!ti.isAgg||(!P.stoodInHeld t&& !P.eqGuardType P.depth t))=true):iC P t ti:=by
 cases h:P.info? t with
 |none=>rw[h]at hi;cases hi
 |some i=>
  rw[h]at hs hb hz hc;simp only[Option.getD_some]at hs hb hz hc;cases h2:i.zero with
  |none=>rw[h2]at hz;cases hz
  |some z=>
   rw[h2]at hc;simp only[Option.getD_some]at hc;refine⟨⟨i,h,hs,hb,z,h2,hc⟩,hl,fun ha=>?_,hk,fun ha=>?_⟩
   ·rw[ha]at ho;exact sA ho
   ·rw[ha]at he;simpa using he
theorem eL {P:Program}{t:Nat}{fields:Array Field}{fs:List (Nat×Nat)}(h1:P.underlying t=some (.struct fields))(h2:fields.toList.map (fun f=>(f.type,f.offset))=fs)(h3:fields.toList.all (fun f=>!(f.name== "_"))=true):nD P t (.struct fs):=
 ⟨fields,h1,h2,fun f hf=>by rw[hD]at h3;have:=h3 f hf;simpa using this⟩
def oq (P:Program)(e:Nat):Bool:=match P.info? e with
 |some i=>(match i.zero with|some z=>vW z|none=>false)
 |none=>false
theorem Ac {P:Program}{t k e:Nat}(h1:P.underlying t=some (.map k e))(h2:oq P e=true):nD P t (.map k e):=by
 unfold oq at h2;split at h2
 ·rename_i i hi;split at h2
  ·rename_i z hz;exact⟨h1,i,z,hi,hz,h2⟩
  ·cases h2
 ·cases h2
theorem mD.nil {P:Program}:mD P (wK []):=fun _ _ h=>by cases h
theorem mD.cons {P:Program}{t:Nat}{ti:TI}{l:List (Nat×TI)}(h:iC P t ti)(r:mD P (wK l)):mD P (wK ((t,ti)::l)):=by
 intro t' ti' ht;simp only[wK]at ht;cases hb:Nat.beq t t'<;>rw[hb]at ht<;>simp only[cond_true,cond_false]at ht
 ·exact r t' ti' ht
 ·have:=sA hb;subst this;simp only[Option.some.injEq]at ht;subst ht;exact h
def uA (P:Program)(f:Nat)(e:wA):Prop:=∀args bs a enc,e.dec args bs=some (some a,enc)→kA P f args bs (enc a).pick.1 (enc a).pick.2
theorem tU.nil {P:Program}:tU P (wK []):=fun _ _ h=>by cases h
theorem tU.cons {P:Program}{f:Nat}{e:wA}{l:List (Nat×wA)}(h:uA P f e)(r:tU P (wK l)):tU P (wK ((f,e)::l)):=by
 intro f' e' ht;simp only[wK]at ht;cases hb:Nat.beq f f'<;>rw[hb]at ht<;>simp only[cond_true,cond_false]at ht
 ·exact r f' e' ht
 ·have:=sA hb;subst this;simp only[Option.some.injEq]at ht;subst ht;exact h
def eA (P:Program)(fn:Func)(E:gD)(l:List Code):Prop:=∀b∈l,qC P fn E b
theorem eA.nil {P:Program}{fn:Func}{E:gD}:eA P fn E []:=fun _ h=>by cases h
theorem eA.cons {P:Program}{fn:Func}{E:gD}{c:Code}{l:List Code}(h:qC P fn E c)(r:eA P fn E l):eA P fn E (c::l):=fun b hb=>by
 rcases hX.mp hb with rfl|hb
 ·exact h
 ·exact r b hb
theorem eA.of {P:Program}{fn:Func}{E:gD}{l l':List Code}(he:l'=l)(h:eA P fn E l):eA P fn E l':=he▸h
theorem tR {P:Program}{fn:Func}{E:gD}{b:Code}(h:(E.cut (1000000+cG b)).isNone=true):qC P fn E (.scope b):=fun e hd he=>by rw[he]at h;cases h
theorem wo {P:Program}{fn:Func}{E:gD}{b:Code}(h:(E.cut (cG b)).isNone=true):qC P fn E (.loop b):=fun e hd he=>by rw[he]at h;cases h
def D8 (h:Nat→nA):V→V
 | .sw id s=>(match h id with
  | .ints _ l=>.sl id s 0 (rD s l.length)
  |_=>.sw id s)
 |v=>v
def iJ (h:Nat→nA):List Bool→List V→List V
 |true::bs,v::r=>D8 h v::iJ h bs r
 |false::bs,v::r=>v::iJ h bs r
 |_,vs=>vs
theorem Au {F:Nat→Prop}{ρ:lC}{h:Nat→nA}{w:World}(hh:fA F ρ h w){v:V}{u:Value}(hr:mA ρ (av F (cA ρ h)) w v u):mA ρ (av F (cA ρ h)) w (D8 h v) u:=by
 unfold D8;split
 ·rename_i id s;split
  ·rename_i k l hid;obtain⟨h0,⟨b,n,C,cap,c,h1,h2,h3,h4,h5,ho,hsz,hold⟩|⟨h1,h2,hk⟩⟩:=lF hh hr (by rw[hid];trivial) (by rw[hid];trivial)
   ·rw[hid]at hold;obtain⟨e1,e2,e3⟩:=hold;simp only[mA];have hn:n/s*s=n:=Nat.div_mul_cancel (Nat.dvd_of_mod_eq_zero h2);refine⟨h0,.inl ⟨b,n,C,cap,h1,?_,?_,by omega,?_⟩⟩
    ·rw[uD,e1];omega
    ·rw[uD,e1];exact h3
    ·rw[uD,e1];exact h5
   ·rw[hid]at hk;rcases hk with⟨k2,hk⟩|hk|⟨_,_,hk⟩<;>cases hk;simp only[mA];exact⟨h0,.inr ⟨by rw[uD];simp,none,h2⟩⟩
  ·exact hr
 ·exact hr
theorem aV {F:Nat→Prop}{ρ:lC}{h:Nat→nA}{w:World}(hh:fA F ρ h w):∀(bs:List Bool) (vs:List V) (us:List Value),iA ρ (av F (cA ρ h)) w vs us→iA ρ (av F (cA ρ h)) w (iJ h bs vs) us
 |true::bs,v::r,[],hr=>by simp only[iA]at hr
 |true::bs,v::r,u::us,hr=>by simp only[iA,iJ]at hr⊢;exact⟨Au hh hr.1,aV hh bs r us hr.2⟩
 |false::bs,v::r,[],hr=>by simp only[iA]at hr
 |false::bs,v::r,u::us,hr=>by simp only[iA,iJ]at hr⊢;exact⟨hr.1,aV hh bs r us hr.2⟩
 | [],vs,us,hr=>by simpa only[iJ]using hr
 |_::_,[],us,hr=>by simpa only[iJ]using hr
theorem kA.of_asSl {P:Program}{f:Nat}{fl:List Bool}{args:List V}{bs:List nA}{v:V}{bs':List nA}(h:kA P f (iJ (oA bs) fl args) bs v bs'):kA P f args bs v bs':=
 ⟨h.callable,fun F ρ w args' hH hn hb hl hr=>h.calls F ρ w args' hH hn hb hl (aV hH fl args args' hr)⟩
theorem gR.kill {F:Nat→Prop}{ρ:lC}{bs:List nA}{w:World}{v:V}{bs':List nA}{v':Value}{w':World}(h:gR F ρ bs w v bs' v' w'):gR F ρ bs w v (List.replicate bs'.length .dead) v' w':=by
 obtain⟨ρ',v1,h1,g1,h2,g2,g3,g4,g5,h3,h4,h5⟩:=h;have hdd:∀id,oA (List.replicate bs'.length nA.dead) id= .dead:=fun id=>by rw[vB,hC,List.getElem?_replicate];split<;>rfl
 have hd:∀id,¬(oA (List.replicate bs'.length nA.dead) id).live:=fun id hl=>by rw[hdd]at hl;exact hl
 have hM:∀b,cA ρ' (oA (List.replicate bs'.length nA.dead)) b→cA ρ' v1 b:=by rintro b ⟨id,n,C,_,hl⟩;exact absurd hl (hd id)
 exact⟨ρ',oA (List.replicate bs'.length nA.dead),h1,g1,fun id hid=>h2 id (by simpa using hid),g2,by simpa using g3,fun g hg hl=>absurd hl (hd g),⟨_,wB.flat (fun j=>by rw[hdd];rfl) (fun j _=>hdd j)⟩,
  ⟨h3.wf,fun id hl=>absurd hl (hd id),fun i j b n C n' C' hi=>absurd hi (hd i),h3.low,fun b hb=>h3.out b (hM b hb)⟩,mA.avoid (fun b hb=>hb.imp id (hM b)) _ _ h4,⟨h5.size,h5.same,fun b hb=>h5.sub b (hM b hb),h5.keeps⟩⟩
theorem dE {P:Program}{fn:Func}{E:gD}(hE:eB P E)(hmix:P.follows .mixedOrders=true)(d:Nat){b:Code}{c:mM}{h:mE}(hcut:eA P fn E (jA b))
  (H:∀(R:Type) vs Hh (k:Ex→St→Option R) r,c.run vs Hh k=some r→∃n,xB E.nb h (fun s k=>kB E d b s k) n vs Hh k=some r)(e1:E.cut (cG b)=some c:=by kernel_rfl)(e2:E.hint (cG b)=some h:=by kernel_rfl)(hres:E.res=fn.results.toList:=by kernel_rfl):qC P fn E (.loop b):=fun e hd he hh R vs Hh k r hr=>by
 rw[e1]at he;rw[e2]at hh;cases he;cases hh;obtain⟨n,hn⟩:=H R vs Hh k r hr;exact oo (yY hE hmix hres d b hcut) hn
def bo (f:Func):Code:=f.body.getD .skip
theorem vA {P:Program}{E:gD}{fn:Func}{n:Nat}{A:Type}(hE:eB P E)(hmix:P.follows .mixedOrders=true)(hf:P.funcs[n]?=some fn)(hcut:eA P fn E (jA (bo fn))){args:List V}{bs:List nA}{dec:V→List nA→Option A}{r:A}
  (h:gB E (bo fn) args bs dec=some r){v0:V}{b0:List nA}(hd:∀v bs',dec v bs'=some r→v=v0∧bs'=b0)(h1:fn.body=some (bo fn):=by kernel_rfl)(h2:(fn.name== "runtime.NumGoroutine")=false:=by kernel_rfl)(h3:E.ntmps=fn.ntmps:=by kernel_rfl)(h4:E.nb=bs.length:=by kernel_rfl)
  (h5:Nat.ble args.length fn.ntmps=true:=by kernel_rfl)(hres:E.res=fn.results.toList:=by kernel_rfl):kA P n args bs v0 b0:=
 (fa hE hmix hf h1 h2 hres h3 h4 (Nat.le_of_ble_eq_true h5) hcut h).of hd
def sG (A:Type)(fresh:Nat)(imm:List Bool)(ss:List Sh)(Es:List V→Option (Option A×(A→nf))):wA:=
 {A:=A,fresh:=fresh,imm:=imm,dec:=fun args bs=>match xG 0 (fun _=>.dead) ss args,bs with
  |some a,[]=>Es a
  |_,_=>none}
theorem bB {P:Program}{f:Nat}{A:Type}{fresh:Nat}{imm:List Bool}{ss:List Sh}{Es:List V→Option (Option A×(A→nf))}(H:∀args a enc,Es args=some (some a,enc)→kA P f args [] (enc a).pick.1 (enc a).pick.2):uA P f (sG A fresh imm ss Es):=by
 intro args bs a enc h;simp only[sG]at h;split at h
 ·rename_i hz;exact kA.of_freeze hz (H _ _ _ h)
 ·cases h
theorem wC {A:Type}{x:Option A}{g enc:A→nf}{a:A}{Q:(A→nf)→Prop}(h:some (x,g)=some (some a,enc))(H:x=some a→Q g):Q enc:=by
 have h0:=Option.some.inj h;have h1:=congrArg Prod.fst h0;have h2:=congrArg Prod.snd h0;dsimp only at h1 h2;subst h2;exact H h1
def uF (ty:List (Nat×TI))(tab:List (Nat×wA))(hint:List (Nat×mE))(cut:List (Nat×mM))(N:Nat)(res:List ResultVar)(rsh:List Sh)(nb ntmps:Nat)(own:Bool:=false)(bsh:List (Nat×List Sh):=[])(keep:Bool:=false):gD:=
 {ty:=wK ty,tab:=wK tab,hint:=wK hint,cut:=wK cut,N:=N,res:=res,rsh:=rsh,nb:=nb,ntmps:=ntmps,own:=own,bsh:=bsh,keep:=keep}
def Cn:wA:={A:=Unit,fresh:=1,imm:=[],dec:=fun _ _=>none}
theorem xl {P:Program}{f:Nat}:uA P f Cn:=fun _ _ _ _ h=>by cases h
theorem eA.n {P:Program}{fn:Func}{E:gD}{l:List Code}(h:l=[]:=by kernel_rfl):eA P fn E l:=eA.of h eA.nil
end Go.Proofs.Yteaakcmkpacpaaa.Ev
