import Derived.Test.YteaakcmkpacpaaaGreatA1
import Derived.LoopN
import Derived.Scope
import Derived.KernelRfl
open List renaming getD_eq_getElem?_getD→iA,getElem?_eq_none→iB,all_eq_true→hC,getElem?_eq_some_iff→pC,getElem?_take→aE,mem_of_getElem?→zE,getElem?_append_left→hF,getElem?_eq_getElem→hK,getElem?_toArray→cP,getElem?_cons_zero→hQ,map_cons→hT,mem_cons→hU,getElem?_range→hW
open Bool renaming and_eq_true→hD
open Go.Sem renaming run_bind→xK,run_pure→yK
open Go.Result renaming andThen_ok→hN
open Array renaming getD_eq_getD_getElem?→hP,toArray_toList→hS
set_option linter.unusedVariables false
set_option linter.unusedSimpArgs false
namespace Go.Proofs.YteaakcmkpacpaaaGreat.Ev
structure lR where
 F:Nat→Prop
 ρ:xC
 bs:List qA
 w:World
def tF (E:yC)(S:lR)(s:St)(a:Act)(w:World):Prop:=
 ∃ρ v,lh E S.F ρ (fE s.T) (rA s.H) v a w∧(∀j,s.H.length≤j→j<top→ρ j=none)∧(∀j,j<E.nb→ρ j=S.ρ j)∧E.nb≤s.H.length∧s.H.length≤top∧(∀g p,top≤g→S.ρ g=some p→ρ g=some p)∧(∀g,top≤g→(v g).live→S.ρ g=none)∧
  qG (fA S.ρ (rA S.bs)) S.w (fA ρ v) w
theorem zJ {H:List qA}{j:Nat}(hl:(rA H j).live):H[j]?=some (rA H j):=by
 rw[eC,iA]at hl⊢;cases h:H[j]? with
 |none=>rw[h]at hl;exact hl.elim
 |some x=>rfl
theorem fO {H:List qA}{j:Nat}{x:qA}(h:H[j]?=some x):rA H j=x:=by
 rw[eC,iA,h];rfl
theorem wF:∀(nb:Nat) (H:List qA),uT nb H=true→∀x∈H,x.isNw=false∧∀i∈vS x,i<nb
 |_,[],_,x,hx=>by simp at hx
 |nb,b::r,h,x,hx=>by
  simp only[uT,hD,hC,Bool.not_eq_true']at h;rcases hU.mp hx with rfl|hx
  ·exact⟨h.1.2,fun i hi=>aC (h.1.1 i hi)⟩
  ·exact wF nb r h.2 x hx
theorem fZ:∀(keep:List (Nat×Sh)) (T:Nat→V) (vs:List V) (u:List Value) (ρ:xC) (M:Nat→Prop) (w:World) (ev:Nat→Value),mA ρ M w vs (keep.map fun p=>ev p.1)→∀t,oA ρ M w (fE (iE keep vs) t) (ev t)
 | [],_,vs,_,ρ,M,w,ev,hr,t=>by simp only[iE,fE,oA]
 |p::r,T,[],u,ρ,M,w,ev,hr,t=>by simp only[iE,fE,oA]
 |(d,sh)::r,T,v::vs,u,ρ,M,w,ev,hr,t=>by
  simp only[hT,mA]at hr;simp only[iE,fE];cases hb:Nat.beq d t<;>simp only[cond_true,cond_false]
  ·exact fZ r T vs u ρ M w ev hr.2 t
  ·have:=aB hb;subst this;exact hr.1
theorem mA.map_fn {α:Type}{ρ:xC}{M:Nat→Prop}{w:World}(f:α→V)(g:α→Value)(h:∀x,oA ρ M w (f x) (g x)):∀l:List α,mA ρ M w (l.map f) (l.map g)
 | []=>by simp[mA]
 |x::l=>by simp only[hT,mA];exact⟨h x,mA.map_fn f g h l⟩
theorem C5 {F:Nat→Prop}{ρ ρ':xC}{h v:Nat→qA}{γ:Nat→Nat→Nat}{w:World}(ho:fC h γ v)(hh:kA F ρ v w)(hbd:Bd ρ){acc:kR}(hA:wL h acc)(hlen:acc.blks.length≤top)(hc:iW ρ ρ' acc.src)(hρn:∀j,acc.src.length≤j→j<top→ρ' j=none)(hρg:∀g,top≤g→ρ' g=ρ g)
  (hB:uJ h ρ ρ' (av F (fA ρ v)) w acc):
  ∃v',T4 (rA acc.blks) v'∧kA F ρ' v' w∧(∀b,fA ρ' v' b→fA ρ v b)∧Bd ρ'∧∀g,top≤g→(v' g).live→(v g).live:=by
 classical
 have hsrcOf:∀j,(rA acc.blks j).live→j<acc.src.length∧((∃id,acc.src[j]?=some (some id)∧ρ' j=ρ id∧kX (h id) (rA acc.blks j))∨(acc.src[j]?=some none∧ρ' j=some ⟨none,0,0⟩∧By (rA acc.blks j))):=by
  intro j hl;have hx:=zJ hl;have hj:j<acc.src.length:=by rw[hA.len];exact(pC.mp hx).1
  refine⟨hj,?_⟩;cases hsj:acc.src[j]with
  |some id=>
   have h0:acc.src[j]?=some (some id):=by rw[hK hj,hsj]
   exact .inl ⟨id,h0,hc.old j id h0,hA.live j id _ h0 hx hl⟩
  |none=>
   have h0:acc.src[j]?=some none:=by rw[hK hj,hsj]
   obtain⟨x,hk,hho⟩:=hA.virt j h0;exact .inr ⟨h0,hc.nil j h0,by rw[fO hk];exact hho⟩
 let γ':Nat→Nat→Nat:=fun j i=>match acc.src[j]? with|some (some id)=>γ id i|_=>γ j i
 have hγ':∀j id,acc.src[j]?=some (some id)→γ' j=γ id:=fun j id hj=>by funext i;simp only[γ',hj]
 have hnest:∀j k s rows hole,rA acc.blks j= .nw k s rows hole→hole=none∧j<top∧(rows=[]∨∃id,acc.src[j]?=some (some id)∧ρ' j=ρ id∧h id= .nw k s rows none∧id<top):=by
  intro j k s rows hole hj;obtain⟨hjl,hs⟩:=hsrcOf j (by rw[hj];trivial);have hjt:j<top:=by rw[hA.len]at hjl;omega
  rcases hs with⟨id,q1,q2,q3,⟨q4,_⟩|⟨k1,s1,rows1,q4,q5⟩⟩|⟨_,_,⟨k1,q⟩|⟨k1,s1,q⟩⟩
  ·rw[hj]at q4;cases q4
  ·rw[hj]at q4 q5;cases q4;exact⟨rfl,hjt,.inr ⟨id,q1,q2,q5,ho.live_lt q3⟩⟩
  ·rw[hj]at q;cases q
  ·rw[hj]at q;cases q;exact⟨rfl,hjt,.inl rfl⟩
 have hlod:∀j i,uB (rA acc.blks) j i→∃id,acc.src[j]?=some (some id)∧ρ' j=ρ id∧uB h id i∧γ' j i=γ id i:=by
  rintro j i ⟨k,s,rows,hole,h1,h2,h3,h4⟩;obtain⟨rfl,_,hr|⟨id,q1,q2,q3,q4⟩⟩:=hnest _ _ _ _ _ h2
  ·subst hr;simp at h3
  ·exact⟨id,q1,q2,⟨k,s,rows,none,q4,q3,h3,fun g e=>by cases e⟩,by rw[hγ' j id q1]⟩
 let v':Nat→qA:=fun x=>if top≤x then(if ∃j i,uB (rA acc.blks) j i∧γ' j i=x then v x else .dead)else match rA acc.blks x with| .nw k s rows hole=>.vals (jD (γ' x) s hole rows.length)|b=>b
 have hvg:∀g,top≤g→v' g=if ∃j i,uB (rA acc.blks) j i∧γ' j i=g then v g else .dead:=fun g hg=>if_pos hg
 have hvl:∀x,x<top→v' x=match rA acc.blks x with| .nw k s rows hole=>.vals (jD (γ' x) s hole rows.length)|b=>b:=fun x hx=>if_neg (by omega)
 have hvp:∀x,x<top→(rA acc.blks x).isNw=false→v' x=rA acc.blks x:=fun x hx hn=>by rw[hvl x hx];cases hb:rA acc.blks x<;>rw[hb]at hn<;>first|rfl|cases hn
 have hop:fC (rA acc.blks) γ' v':=by
  refine⟨hvp,fun j k s rows hole hj e=>by rw[hvl j hj,e],fun j i k s rows hole hj e hi hh2=>?_,fun j i j2 i2 h1 h2 e=>?_,fun g hg hl=>?_,fun j hj=>?_⟩
  ·obtain⟨id,q1,q2,q3,q4⟩:=hlod j i ⟨k,s,rows,hole,hj,e,hi,hh2⟩;obtain⟨rfl,_,hr|⟨id',r1,r2,r3,r4⟩⟩:=hnest _ _ _ _ _ e
   ·subst hr;simp at hi
   ·rw[q1]at r1;simp only[Option.some.injEq]at r1;subst r1;obtain⟨a1,a2⟩:=ho.row id i k s rows none r4 r3 hi (fun g e=>by cases e);rw[q4];exact⟨a1,by rw[hvg _ a1,if_pos ⟨j,i,⟨k,s,rows,none,hj,e,hi,hh2⟩,q4⟩];exact a2⟩
  ·obtain⟨id,q1,_,q3,q4⟩:=hlod j i h1;obtain⟨id2,r1,_,r3,r4⟩:=hlod j2 i2 h2;rw[q4,r4]at e;obtain⟨a1,a2⟩:=ho.inj id i id2 i2 q3 r3 e;subst a1;exact⟨hA.nodup j j2 id q1 r1,a2⟩
  ·rw[hvg g hg]at hl;split at hl
   ·assumption
   ·exact hl.elim
  ·rw[eC,iA,iB (by omega)];rfl
 have src:∀x,(v' x).live→(∃y,ρ' x=ρ y∧(v y).live∧(∀p,ρ y=some p→jB ρ (av F (fA ρ v)) w p (v y)→jB ρ' (av F (fA ρ v)) w p (v' x))∧((x<top∧acc.src[x]?=some (some y)∧y<top)∨(top≤x∧x=y)))∨(ρ' x=some ⟨none,0,0⟩∧∀M,jB ρ' M w ⟨none,0,0⟩ (v' x)):=by
  intro x hl;by_cases hx:top≤x
  ·have e:=hvg x hx;rw[e]at hl⊢;split at hl
   ·rename_i hex;refine .inl ⟨x,hρg x hx,hl,fun p _ hp=>?_,.inr ⟨hx,rfl⟩⟩;rw[if_pos hex];obtain⟨j,i,h1,h2⟩:=hex;obtain⟨id,_,_,⟨k,s,rows,hole,q1,q2,q3,q4⟩,q5⟩:=hlod j i h1;have:=(ho.row id i k s rows hole q1 q2 q3 q4).2;rw[←q5,h2]at this;rw[this]at hp⊢;exact zI hp
   ·exact hl.elim
  ·have hx':x<top:=by omega
   have hbl:(rA acc.blks x).live:=by rw[hvl x hx']at hl;cases hb:rA acc.blks x<;>rw[hb]at hl<;>first|trivial|exact hl
   obtain⟨hxl,hs⟩:=hsrcOf x hbl;rcases hs with⟨id,q1,q2,q3,⟨q4,q5⟩|⟨k,s,rows,q4,q5⟩⟩|⟨q1,q2,q3⟩
   ·have hid:=ho.live_lt q3;have hv:=ho.plain id hid q5;refine .inl ⟨id,q2,by rw[hv];exact q3,fun p hpp hp=>?_,.inl ⟨hx',q1,hid⟩⟩;rw[hvp x hx' q4];rw[hv]at hp;exact hB x id _ p q1 (zJ hbl) hpp hp
   ·have hid:=ho.live_lt q3;rw[q4]at q5;have hv:=ho.nest id k s rows none hid q5;refine .inl ⟨id,q2,by rw[hv];trivial,fun p _ hp=>?_,.inl ⟨hx',q1,hid⟩⟩;rw[hvl x hx',q4];dsimp only;rw[hγ' x id q1];rw[hv]at hp;refine hp.agree (fun i hi p hpi=>?_);have:∀l:List Nat,(∀i∈l,top≤γ id i)→∀i∈iF (l.map (kH (γ id) s none)),top≤i:=by
     intro l;induction l with
     |nil=>intro _ i hi;simp[iF]at hi
     |cons a l ih=>
      intro hl i hi;simp only[hT,iF,kH,mK,List.cons_append,List.nil_append,hU]at hi;rcases hi with rfl|hi
      ·exact hl a (by simp)
      ·exact ih (fun i hi=>hl i (by simp[hi])) i hi
    rw[hρg i (this _ (fun i hi=>(ho.row id i k s rows none hid q5 (by simpa using hi) (fun g e=>by cases e)).1) i hi)];exact hpi
   ·refine .inr ⟨q2,fun M=>?_⟩;rw[hvl x hx'];rcases q3 with⟨k,q3⟩|⟨k,s,q3⟩<;>rw[q3]
    ·exact⟨rfl,.inl ⟨rfl,rfl,rfl⟩⟩
    ·exact⟨rfl,.inl ⟨rfl,rfl,rfl⟩⟩
 have hM:∀b,fA ρ' v' b→fA ρ v b:=by
  rintro b ⟨x,n,C,hp,hl⟩;rcases src x hl with⟨y,g1,g2,_⟩|⟨g1,_⟩
  ·rw[g1]at hp;exact⟨y,n,C,hp,g2⟩
  ·rw[g1]at hp;cases hp
 have hMa:∀b,av F (fA ρ' v') b→av F (fA ρ v) b:=fun b hb=>hb.imp id (hM b);refine⟨v',⟨γ',hop⟩,⟨?_,?_,?_,hh.low,fun b hb=>hh.out b (hM b hb)⟩,hM,?_,?_⟩
 ·intro j p hp;by_cases ht:top≤j
  ·rw[hρg j ht]at hp;exact hh.wf _ _ hp
  ·cases hs:acc.src[j]? with
   |none=>
    have hj0:acc.src.length≤j:=by
     rcases Nat.lt_or_ge j acc.src.length with q|q
     ·rw[hK q]at hs;cases hs
     ·exact q
    rw[hρn j hj0 (by omega)]at hp;cases hp
   |some o=>
    cases o with
    |some id=>rw[hc.old j id hs]at hp;exact hh.wf _ _ hp
    |none=>rw[hc.nil j hs]at hp;simp only[Option.some.injEq]at hp;subst hp;exact Nat.le_refl _
 ·intro x hl;rcases src x hl with⟨y,g1,g2,g3,_⟩|⟨g1,g2⟩
  ·obtain⟨p,hp,hb⟩:=hh.rel y g2;exact⟨p,by rw[g1];exact hp,jB.avoid hMa (g3 p hp hb)⟩
  ·exact⟨_,g1,g2 _⟩
 ·intro x x' b n C n' C' hx hx' hp hp';rcases src x hx with⟨y,g1,g2,_,g3⟩|⟨g1,_⟩
  ·rcases src x' hx' with⟨y',g1',g2',_,g3'⟩|⟨g1',_⟩
   ·rw[g1]at hp;rw[g1']at hp';have:=hh.inj y y' b _ _ _ _ g2 g2' hp hp';subst this;rcases g3 with⟨a1,a2,a3⟩|⟨a1,a2⟩<;>rcases g3' with⟨b1,b2,b3⟩|⟨b1,b2⟩
    ·exact hA.nodup x x' y a2 b2
    ·omega
    ·omega
    ·omega
   ·rw[g1']at hp';cases hp'
  ·rw[g1]at hp;cases hp
 ·obtain⟨G,hG⟩:=hbd;exact⟨G+top,fun g hg=>by rw[hρg g (by omega)];exact hG g (by omega)⟩
 ·intro g hg hl;rw[hvg g hg]at hl;split at hl
  ·exact hl
  ·exact hl.elim
theorem Ee {E:yC}{S:lR}{keep:List (Nat×Sh)}{s:St}{vs:List V}{H:List qA}(hn:Ed E.nb keep s=some (vs,H)){a:Act}{w:World}(hI:tF E S s a w):tF E S ⟨iE keep vs,H⟩ a w:=by
 obtain⟨ρ,v,hr,h1,h2,h3,h5,h6,h7,h4⟩:=hI;obtain⟨γ,ho⟩:=hr.opn;unfold Ed at hn;split at hn
 ·rename_i vs' acc hs;obtain⟨hok0,hn⟩:=cA hn;obtain⟨hok,hlt⟩:=wA hok0;have hlt:=lE hlt;simp only[Option.some.injEq,Prod.mk.injEq]at hn;obtain⟨rfl,rfl⟩:=hn;obtain⟨⟨more,hsrc⟩,hk⟩:=mG _ _ _ _ _ hs;have hst:∀j:Nat,(vG E.nb s.H).src[j]?=if j<E.nb then some (some j)else none:=by
   intro j;simp only[vG,List.getElem?_map];by_cases hj:j<E.nb
   ·rw[hW hj,if_pos hj];rfl
   ·rw[iB (by simp;omega),if_neg hj];rfl
  have hlen0:(vG E.nb s.H).src.length=E.nb:=by simp[vG]
  have hst2:∀j:Nat,j<E.nb→(vG E.nb s.H).blks[j]?=s.H[j]?:=fun j hj=>by simp[vG,aE,hj]
  have hin:∀(j:Nat) (x:qA),j<E.nb→s.H[j]?=some x→x∈s.H.take E.nb:=fun j x hj hx=>zE (i:=j) (by rw[aE,if_pos hj];exact hx);have hacc0:wL (rA s.H) (vG E.nb s.H):=by
   refine⟨by simp[vG,h3],?_,?_,?_⟩
   ·intro i j id hi hj;rw[hst]at hi hj;split at hi<;>split at hj<;>simp_all
   ·intro j hj;rw[hst]at hj;split at hj<;>simp at hj
   ·intro j id x hj hx hl;rw[hst]at hj;split at hj
    ·rename_i hlt;rw[hst2 j hlt]at hx;simp only[Option.some.injEq]at hj;subst hj;have hnn:=(wF _ _ hok x (hin _ _ hlt hx)).1;exact kX.plain (fO hx) hl hnn hnn
    ·cases hj
  obtain⟨hA,hR⟩:=hk hacc0;have hsl:acc.src.length≤top:=by rw[hA.len];exact hlt
  let ρ':xC:=fun j=>if top≤j then ρ j else match acc.src[j]? with
   |some (some id)=>ρ id
   |some none=>some ⟨none,0,0⟩
   |none=>none
  have hlts:∀(j:Nat) o,acc.src[j]?=some o→¬top≤j:=fun j o hj=>by have:=(pC.mp hj).1;omega
  have hc:iW ρ ρ' acc.src:=⟨fun j id hj=>by simp only[ρ',hj];rw[if_neg (hlts j _ hj)],fun j hj=>by simp only[ρ',hj];rw[if_neg (hlts j _ hj)]⟩
  have hpre:∀j,j<E.nb→acc.src[j]?=some (some j):=fun j hj=>by rw[hsrc,hF (by rw[hlen0];exact hj),hst,if_pos hj]
  have hρ':∀j,j<E.nb→ρ' j=ρ j:=fun j hj=>hc.old j j (hpre j hj);have hb0:uJ (rA s.H) ρ ρ' (av S.F (fA ρ v)) w (vG E.nb s.H):=by
   intro j id x p hj hx hp hb;rw[hst]at hj;split at hj
   ·rename_i hlt;simp only[Option.some.injEq]at hj;subst hj;rw[hst2 j hlt]at hx;rw[fO hx]at hb;refine hb.agree (fun i hi p hp=>?_);rw[hρ' i ((wF _ _ hok x (hin _ _ hlt hx)).2 i hi)];exact hp
   ·cases hj
  have hHB:HB (rA s.H) ρ (av S.F (fA ρ v)) w:=fun id p hl hn hp=>by have hv:=ho.plain id (ho.live_lt hl) hn;obtain⟨p',hp',hb'⟩:=hr.heap.rel id (by rw[hv];exact hl);rw[hp]at hp';cases hp';rw[hv]at hb';exact hb'
  obtain⟨hB,hV⟩:=hR ρ ρ' _ w hHB hc hb0;obtain⟨v',q1,q2,q3,q4,q5⟩:=C5 ho hr.heap hr.bd hA hlt hc (fun j hj hj2=>by simp only[ρ',iB hj];rw[if_neg (by omega)]) (fun g hg=>if_pos hg) hB;have hMa:∀b,av S.F (fA ρ' v') b→av S.F (fA ρ v) b:=fun b hb=>hb.imp id (q3 b);refine⟨ρ',v',⟨q1,q4,q2,?_,hr.size,hr.defers⟩,?_,fun j hj=>by rw[hρ' j hj];exact h2 j hj,?_,hlt,fun g p hg hp=>by rw[show ρ' g=ρ g from if_pos hg];exact h6 g p hg hp,fun g hg hl=>h7 g hg (q5 g hg hl),⟨h4.size,h4.same,fun b hb=>h4.sub b (q3 b hb),h4.keeps⟩⟩
  ·intro t;refine oA.avoid hMa _ _ ?_;refine fZ keep (fE s.T) vs' [] ρ' _ w (fun t=>a.eval (.tmp t)) (hV _ ?_) t;exact mA.map_fn _ _ (fun p=>hr.tmps p.1) keep
  ·intro j hj hj2;dsimp only at hj;rw[←hA.len]at hj;simp only[ρ',iB hj];rw[if_neg (by omega)]
  ·dsimp only;rw[←hA.len,hsrc];simp[hlen0]
 ·cases hn
theorem vb {E:yC}{S:lR}{s:St}{id:Nat}{a:Act}{w:World}(hI:tF E S s a w):tF E S ⟨s.T,bX s.H id⟩ a w:=by
 unfold bX;split
 ·rename_i k s0 rows j g hid;split
  ·rename_i k' l hg;cases hk:sN k k' with
   |false=>exact hI
   |true=>
    simp only[cond_true];have hk:=yE hk;subst hk;obtain⟨ρ,v,hr,h1,h2,h3,h5,h6,h7,h4⟩:=hI;obtain⟨γ,ho⟩:=hr.opn;have hidt:=ho.live_lt (i:=id) (by rw[hid];trivial);have hgt:=ho.live_lt (i:=g) (by rw[hg];trivial);have hidl:id<s.H.length:=(pC.mp (zJ (H:=s.H) (j:=id) (by rw[hid];trivial))).1;have hgl:g<s.H.length:=(pC.mp (zJ (H:=s.H) (j:=g) (by rw[hg];trivial))).1;have hne:g≠id:=fun e=>by subst e;rw[hid]at hg;cases hg
    have hH:∀x,rA (oC (oC s.H g .dead) id (.nw k s0 (rows.set j l) none)) x=if x=id then .nw k s0 (rows.set j l) none else if x=g then .dead else rA s.H x:=fun x=>by rw[yL _ _ _ (by rw[wB];exact hidl),yL _ _ _ hgl]
    obtain⟨γ',ρ',v',o1,p1,s1,q1⟩:=cO (nid:=0) (h':=rA (oC (oC s.H g .dead) id (.nw k s0 (rows.set j l) none))) ho hr.heap hr.bd hid hidt hg hgt 0 (by rw[hH,if_pos rfl]) (by rw[hH,if_neg hne,if_pos rfl]) (fun x h1 h2=>by rw[hH,if_neg h1,if_neg h2]);refine⟨ρ',v',⟨p1.opn,p1.bd hr.bd,p1.heap,fun t=>oA.mono p1.sub p1.ext _ _ (hr.tmps t),hr.size,hr.defers⟩,?_,?_,?_,?_,?_,?_,h4.trans p1.ext⟩
    ·intro x hx hx2;dsimp only at hx;rw[wB,wB]at hx;rw[s1 x hx2];exact h1 x hx hx2
    ·intro x hx;rw[s1 x (by omega)];exact h2 x hx
    ·dsimp only;rw[wB,wB];exact h3
    ·dsimp only;rw[wB,wB];exact h5
    ·intro x p hx hp;exact p1.sub x p (h6 x p hx hp)
    ·intro x hx hl;rcases p1.fresh x hx hl with q|q
     ·exact h7 x hx q
     ·cases hr2:S.ρ x with
      |none=>rfl
      |some p=>have:=h6 x p hx hr2;rw[q]at this;cases this
  ·exact hI
 ·exact hI
theorem o6 {E:yC}{S:lR}{a:Act}{w:World}:∀(l:List Nat) (s:St),tF E S s a w→tF E S ⟨s.T,jx l s.H⟩ a w
 | [],s,hI=>hI
 |i::r,s,hI=>o6 r ⟨s.T,bX s.H i⟩ (vb hI)
theorem cL {E:yC}{S:lR}{keep:List (Nat×Sh)}{s:St}{vs:List V}{H:List qA}(hn:uh E.nb keep s=some (vs,H)){a:Act}{w:World}(hI:tF E S s a w):tF E S ⟨iE keep vs,H⟩ a w:=
 Ee (s:=⟨s.T,Lx s.H⟩) hn (o6 _ s hI)
theorem Eg {E:yC}{S:lR}{bsh:List (Nat×List Sh)}{keep:List (Nat×Sh)}{s:St}{vs:List V}{H:List qA}(hn:Ef E.nb bsh keep s=some (vs,H)){a:Act}{w:World}(hI:tF E S s a w):tF E S ⟨iE keep vs,H⟩ a w:=by
 obtain⟨ρ,v,hr,h1,h2,h3,h5,h6,h7,h4⟩:=hI;obtain⟨γ,ho⟩:=hr.opn;unfold Ef at hn;split at hn
 ·rename_i vs' acc0 hs;split at hn
  rotate_left
  ·cases hn
  rename_i acc hsB;obtain⟨hok0,hn⟩:=cA hn;obtain⟨hok,hok1⟩:=wA hok0;obtain⟨hall,hlt⟩:=wA hok1;have hlt:=lE hlt;simp only[Option.some.injEq,Prod.mk.injEq]at hn;obtain⟨rfl,rfl⟩:=hn;obtain⟨⟨more0,hsrc0⟩,hk0⟩:=mG _ _ _ _ _ hs;obtain⟨⟨more1,hsrc1⟩,hk1⟩:=fa _ _ _ hsB;have hsrc:acc.src=(List.range E.nb).map some++(more0++more1):=by rw[hsrc1,hsrc0,List.append_assoc]
  have hst:∀j:Nat,((List.range E.nb).map some)[j]?=if j<E.nb then some (some j)else none:=by
   intro j;simp only[List.getElem?_map];by_cases hj:j<E.nb
   ·rw[hW hj,if_pos hj];rfl
   ·rw[iB (by simp;omega),if_neg hj];rfl
  have hlen0:((List.range E.nb).map some).length=E.nb:=by simp
  have hst2:∀j:Nat,j<E.nb→(fM bsh (s.H.take E.nb))[j]?=s.H[j]?∨(fM bsh (s.H.take E.nb))[j]?=some .dead:=fun j hj=>by
   rcases qV bsh (s.H.take E.nb) j with h|h
   ·exact .inl (h.trans (by simp[aE,hj]))
   ·exact .inr h
  have hacc0:wL (rA s.H) ⟨(List.range E.nb).map some,fM bsh (s.H.take E.nb)⟩:=by
   refine⟨by simp[dS,h3],?_,?_,?_⟩
   ·intro i j id hi hj;rw[hst]at hi hj;split at hi<;>split at hj<;>simp_all
   ·intro j hj;rw[hst]at hj;split at hj<;>simp at hj
   ·intro j id x hj hx hl;rw[hst]at hj;split at hj
    ·rename_i hlt;simp only[Option.some.injEq]at hj;subst hj;dsimp only at hx;have hnn:=(wF _ _ hok x (zE hx)).1;rcases hst2 j hlt with g|g
     ·rw[g]at hx;exact kX.plain (fO hx) hl hnn hnn
     ·rw[g]at hx;simp only[Option.some.injEq]at hx;subst hx;exact hl.elim
    ·cases hj
  obtain⟨hA0,hR0⟩:=hk0 hacc0;have hpre0:∀p∈bsh,acc0.src[p.1]?=some (some p.1):=fun p hp=>by have:=hC.mp hall p hp;have:=aC this;rw[hsrc0,hF (by rw[hlen0];exact this),hst,if_pos this]
  obtain⟨hA,hR1⟩:=hk1 hA0 hpre0;have hsl:acc.src.length≤top:=by rw[hA.len];exact hlt
  let ρ':xC:=fun j=>if top≤j then ρ j else match acc.src[j]? with
   |some (some id)=>ρ id
   |some none=>some ⟨none,0,0⟩
   |none=>none
  have hlts:∀(j:Nat) o,acc.src[j]?=some o→¬top≤j:=fun j o hj=>by have:=(pC.mp hj).1;omega
  have hc:iW ρ ρ' acc.src:=⟨fun j id hj=>by simp only[ρ',hj];rw[if_neg (hlts j _ hj)],fun j hj=>by simp only[ρ',hj];rw[if_neg (hlts j _ hj)]⟩
  have hpre:∀j,j<E.nb→acc.src[j]?=some (some j):=fun j hj=>by rw[hsrc,hF (by rw[hlen0];exact hj),hst,if_pos hj]
  have hρ':∀j,j<E.nb→ρ' j=ρ j:=fun j hj=>hc.old j j (hpre j hj);have hb0:uJ (rA s.H) ρ ρ' (av S.F (fA ρ v)) w ⟨(List.range E.nb).map some,fM bsh (s.H.take E.nb)⟩:=by
   intro j id x p hj hx hp hb;rw[hst]at hj;split at hj
   ·rename_i hlt;simp only[Option.some.injEq]at hj;subst hj;dsimp only at hx;have hin:x∈fM bsh (s.H.take E.nb):=zE hx;rcases hst2 j hlt with g|g
    ·rw[g]at hx;rw[fO hx]at hb;refine hb.agree (fun i hi p hp=>?_);rw[hρ' i ((wF _ _ hok x hin).2 i hi)];exact hp
    ·rw[g]at hx;simp only[Option.some.injEq]at hx;subst hx;trivial
   ·cases hj
  have hHB:HB (rA s.H) ρ (av S.F (fA ρ v)) w:=fun id p hl hn hp=>by have hv:=ho.plain id (ho.live_lt hl) hn;obtain⟨p',hp',hb'⟩:=hr.heap.rel id (by rw[hv];exact hl);rw[hp]at hp';cases hp';rw[hv]at hb';exact hb'
  obtain⟨hB0,hV⟩:=hR0 ρ ρ' _ w hHB (by rw[hsrc1]at hc;exact hc.pre) hb0;have hB:=hR1 ρ ρ' _ w hHB hc hB0;obtain⟨v',q1,q2,q3,q4,q5⟩:=C5 ho hr.heap hr.bd hA hlt hc (fun j hj hj2=>by simp only[ρ',iB hj];rw[if_neg (by omega)]) (fun g hg=>if_pos hg) hB;have hMa:∀b,av S.F (fA ρ' v') b→av S.F (fA ρ v) b:=fun b hb=>hb.imp id (q3 b);refine⟨ρ',v',⟨q1,q4,q2,?_,hr.size,hr.defers⟩,?_,fun j hj=>by rw[hρ' j hj];exact h2 j hj,?_,hlt,fun g p hg hp=>by rw[show ρ' g=ρ g from if_pos hg];exact h6 g p hg hp,fun g hg hl=>h7 g hg (q5 g hg hl),⟨h4.size,h4.same,fun b hb=>h4.sub b (q3 b hb),h4.keeps⟩⟩
  ·intro t;refine oA.avoid hMa _ _ ?_;refine fZ keep (fE s.T) vs' [] ρ' _ w (fun t=>a.eval (.tmp t)) (hV _ ?_) t;exact mA.map_fn _ _ (fun p=>hr.tmps p.1) keep
  ·intro j hj hj2;dsimp only at hj;rw[←hA.len]at hj;simp only[ρ',iB hj];rw[if_neg (by omega)]
  ·dsimp only;rw[←hA.len,hsrc];simp[hlen0]
 ·cases hn
section
variable {P:Program}{F:Nat→Prop}{ρ:xC}{h v:Nat→qA}{γ:Nat→Nat→Nat}{w:World}
mutual
theorem Am (ho:fC h γ v)(hh:kA F ρ v w){nb:Nat}(hnb:nb≤top){ρ':xC}{M':Nat→Prop}(hρ:∀i,i<nb→ρ' i=ρ i)(hM:∀b,M' b→fA ρ v b)(hM':∀b,M' b→∀id n C,nb≤id→(v id).live→ρ id≠some ⟨some b,n,C⟩):
  ∀(sh:Sh) (x x':V) (u:Value),tH nb h sh x=some x'→oA ρ (av F (fA ρ v)) w x u→oA ρ' (av F M') w x' u
 | .il k s,v0,v',u,hf,hr=>by
  have hMa:∀b,av F M' b→av F (fA ρ v) b:=fun b hb=>hb.imp id (hM b);have key:∀id b n C,nb≤id→(v id).live→ρ id=some ⟨some b,n,C⟩→¬av F M' b:=fun id b n C h1 h2 h3 hb=>hb.elim (fun hf=>hh.out b ⟨id,n,C,h3,h2⟩ hf) (fun hm=>hM' b hm id n C h1 h2 h3);unfold tH at hf;split at hf
  ·obtain⟨h0,hf⟩:=cA hf;simp only[Option.some.injEq]at hf;subst hf;simp only[oA]at hr⊢;exact⟨aC h0,by simp,.inl ⟨trivial,none,hr⟩⟩
  ·obtain⟨h0,hf⟩:=cA hf;simp only[Option.some.injEq]at hf;subst hf;have:=oA.avoid hMa _ _ hr;simpa only[oA]using this
  ·rename_i id s';obtain⟨h0,hf2⟩:=cA hf;clear hf;simp only[hD]at h0;have h1:=lE h0.1;have h2:=aB h0.2;clear h0;subst h2;split at hf2
   ·rename_i k' l hid;obtain⟨_,hf⟩:=cA hf2;simp only[Option.some.injEq]at hf;subst hf;exact(iw hh (ho.ints hid) (fun b n C hp hl=>key id b n C h1 hl hp) hr).rel
   ·cases hf2
  ·rename_i id s' off len;obtain⟨h0,hf2⟩:=cA hf;clear hf;simp only[hD]at h0;have h1:=lE h0.1;have h2:=aB h0.2;clear h0;subst h2;split at hf2
   ·rename_i k' l hid;obtain⟨_,hf⟩:=cA hf2;simp only[Option.some.injEq]at hf;subst hf;have hv:=ho.ints hid;have hl:(v id).live:=by rw[hv];trivial
    simp only[oA]at hr⊢;obtain⟨g0,⟨b,n,C,cap,g1,g2,g3,g4,g5⟩|⟨g1,a,g2⟩⟩:=hr
    ·obtain⟨c,ho',hsz,hold⟩:=hh.own hl (by rw[hv];trivial) g1;rw[hv]at hold;obtain⟨e1,e2,e3⟩:=hold;have hlen:((l.drop off).take (kG s len)).length=len*s:=by rw[yB];simp;omega
     rw[hlen];refine⟨g0,Nat.mul_mod_left _ _,.inr ⟨b,off,cap,by rw[Nat.mul_div_cancel _ g0];exact g5,by rw[Nat.mul_div_cancel _ g0];exact g3,ho'.lt,key id b n C h1 hl g1,fun j hj=>?_⟩⟩;rw[ho'.cell,e3 _ (by omega)];congr 2;simp only[iA];rw[List.getElem?_take_of_lt (by rw[yB];omega),List.getElem?_drop]
    ·subst g1;have:(l.drop off).take (kG s 0)=[]:=by rw[yB];simp
     rw[this];exact⟨g0,by simp,.inl ⟨rfl,a,g2⟩⟩
   ·cases hf2
  ·cases hf
 | .inl k s,v0,v',u,hf,hr=>by
  have hMa:∀b,av F M' b→av F (fA ρ v) b:=fun b hb=>hb.imp id (hM b);have key:∀id b n C,nb≤id→(v id).live→ρ id=some ⟨some b,n,C⟩→¬av F M' b:=fun id b n C h1 h2 h3 hb=>hb.elim (fun hf=>hh.out b ⟨id,n,C,h3,h2⟩ hf) (fun hm=>hM' b hm id n C h1 h2 h3);unfold tH at hf;split at hf
  ·obtain⟨h0,hf⟩:=cA hf;simp only[Option.some.injEq]at hf;subst hf;simp only[oA]at hr⊢;exact .inl ⟨trivial,none,hr⟩
  ·obtain⟨h0,hf⟩:=cA hf;simp only[Option.some.injEq]at hf;subst hf;have:=oA.avoid hMa _ _ hr;simpa only[oA]using this
  ·rename_i id w1;obtain⟨h0,hf2⟩:=cA hf;clear hf;simp only[hD]at h0;have h1:=lE h0.1;have h2:=aB h0.2;clear h0;subst h2;split at hf2
   ·rename_i k' s' rows hid;obtain⟨hc,hf⟩:=cA hf2;simp only[Option.some.injEq]at hf;subst hf;have:oA ρ (av F M') w (.inl k' s' rows) u:=Ei ho hh hid (fun g hg b n C hp hl=>?_) hr
    ·simpa only[oA]using this
    ·refine key g b n C ?_ hl hp;rcases hg with hg|⟨j,i,_,⟨k1,s1,rows1,hole1,q1,q2,q3,q4⟩,e⟩
     ·simp only[List.mem_singleton]at hg;omega
     ·have:=(ho.row j i k1 s1 rows1 hole1 q1 q2 q3 q4).1;omega
   ·cases hf2
  ·cases hf
 | .recd ss,v,v',u,hf,hr=>by
  unfold tH at hf;split at hf
  ·rename_i cs;split at hf
   ·rename_i cs' hL;simp only[Option.some.injEq]at hf;subst hf;simp only[oA]at hr⊢;obtain⟨vs,e,hr⟩:=hr;exact⟨vs,e,dK ho hh hnb hρ hM hM' ss cs cs' _ hL hr⟩
   ·cases hf
  ·cases hf
 | .tup ss,v,v',u,hf,hr=>by
  unfold tH at hf;split at hf
  ·rename_i cs;split at hf
   ·rename_i cs' hL;simp only[Option.some.injEq]at hf;subst hf;simp only[oA]at hr⊢;obtain⟨vs,e,hr⟩:=hr;exact⟨vs,e,dK ho hh hnb hρ hM hM' ss cs cs' _ hL hr⟩
   ·cases hf
  ·cases hf
 | .any,v,v',u,hf,hr=>by simp only[tH]at hf;obtain⟨h0,hf⟩:=cA hf;simp only[Option.some.injEq]at hf;subst hf;simp only[hC]at h0;exact oA.avoid (fun b hb=>hb.imp id (hM b)) _ _ (hr.agree _ _ (fun i hi p hp=>by rw[hρ i (aC (h0 i hi))];exact hp))
 | .row _ _,v,v',u,hf,hr=>by simp only[tH]at hf;obtain⟨h0,hf⟩:=cA hf;simp only[Option.some.injEq]at hf;subst hf;simp only[hC]at h0;exact oA.avoid (fun b hb=>hb.imp id (hM b)) _ _ (hr.agree _ _ (fun i hi p hp=>by rw[hρ i (aC (h0 i hi))];exact hp))
 | .part _ _,v,v',u,hf,hr=>by simp only[tH]at hf;obtain⟨h0,hf⟩:=cA hf;simp only[Option.some.injEq]at hf;subst hf;simp only[hC]at h0;exact oA.avoid (fun b hb=>hb.imp id (hM b)) _ _ (hr.agree _ _ (fun i hi p hp=>by rw[hρ i (aC (h0 i hi))];exact hp))
 | .nrow _ _,v,v',u,hf,hr=>by simp only[tH]at hf;obtain⟨h0,hf⟩:=cA hf;simp only[Option.some.injEq]at hf;subst hf;simp only[hC]at h0;exact oA.avoid (fun b hb=>hb.imp id (hM b)) _ _ (hr.agree _ _ (fun i hi p hp=>by rw[hρ i (aC (h0 i hi))];exact hp))
 | .vrows _ _,v,v',u,hf,hr=>by simp only[tH]at hf;obtain⟨h0,hf⟩:=cA hf;simp only[Option.some.injEq]at hf;subst hf;simp only[hC]at h0;exact oA.avoid (fun b hb=>hb.imp id (hM b)) _ _ (hr.agree _ _ (fun i hi p hp=>by rw[hρ i (aC (h0 i hi))];exact hp))
 | .vrow _,v,v',u,hf,hr=>by simp only[tH]at hf;obtain⟨h0,hf⟩:=cA hf;simp only[Option.some.injEq]at hf;subst hf;simp only[hC]at h0;exact oA.avoid (fun b hb=>hb.imp id (hM b)) _ _ (hr.agree _ _ (fun i hi p hp=>by rw[hρ i (aC (h0 i hi))];exact hp))
 | .fnc _,v,v',u,hf,hr=>by simp only[tH]at hf;obtain⟨h0,hf⟩:=cA hf;simp only[Option.some.injEq]at hf;subst hf;simp only[hC]at h0;exact oA.avoid (fun b hb=>hb.imp id (hM b)) _ _ (hr.agree _ _ (fun i hi p hp=>by rw[hρ i (aC (h0 i hi))];exact hp))
 | .box _,v,v',u,hf,hr=>by simp only[tH]at hf;obtain⟨h0,hf⟩:=cA hf;simp only[Option.some.injEq]at hf;subst hf;simp only[hC]at h0;exact oA.avoid (fun b hb=>hb.imp id (hM b)) _ _ (hr.agree _ _ (fun i hi p hp=>by rw[hρ i (aC (h0 i hi))];exact hp))
theorem dK (ho:fC h γ v)(hh:kA F ρ v w){nb:Nat}(hnb:nb≤top){ρ':xC}{M':Nat→Prop}(hρ:∀i,i<nb→ρ' i=ρ i)(hM:∀b,M' b→fA ρ v b)(hM':∀b,M' b→∀id n C,nb≤id→(v id).live→ρ id≠some ⟨some b,n,C⟩):
  ∀(ss:List Sh) (vs vs':List V) (us:List Value),uH nb h ss vs=some vs'→mA ρ (av F (fA ρ v)) w vs us→mA ρ' (av F M') w vs' us
 | [],[],vs',us,hf,hr=>by simp only[uH,Option.some.injEq]at hf;subst hf;cases us<;>simp_all[mA]
 |s::ss,v::vs,vs',us,hf,hr=>by
  unfold uH at hf;split at hf
  ·rename_i v1 h1;split at hf
   ·rename_i vs1 h2;simp only[Option.some.injEq]at hf;subst hf;cases us with
    |nil=>simp only[mA]at hr
    |cons u us=>simp only[mA]at hr⊢;exact⟨Am ho hh hnb hρ hM hM' s v v1 u h1 hr.1,dK ho hh hnb hρ hM hM' ss vs vs1 us h2 hr.2⟩
   ·cases hf
  ·cases hf
 | [],_::_,vs',us,hf,hr=>by simp[uH]at hf
 |_::_,[],vs',us,hf,hr=>by simp[uH]at hf
end
theorem yW {E:yC}(hty:uD P E.ty){s:St}{a:Act}(hr:lh E F ρ (fE s.T) (rA s.H) v a w):∀(rs:List ResultVar) (vs:List V),uo E s rs=some vs→
  ∃us,mA ρ (av F (fA ρ v)) w vs us∧(rs.mapM (m:=Sem) fun
   | .tmp t=>pure (a.tmps.getD t undef)
   | .cell x t=>do loadVar t (←asAddr (a.tmps.getD x undef))).run P w= .ok us w
 | [],vs,h=>by simp only[uo,Option.some.injEq]at h;subst h;exact⟨[],by simp[mA],by simp⟩
 | .tmp t::r,vs,h=>by
  simp only[uo]at h;split at h
  ·rename_i vs1 h1;simp only[Option.some.injEq]at h;subst h;obtain⟨us,g1,g2⟩:=yW hty hr r vs1 h1;refine⟨_::us,⟨hr.tmps t,g1⟩,?_⟩;simp only[List.mapM_cons,xK,yK,hN,g2,Act.eval]
  ·cases h
 | .cell x t::r,vs,h=>by
  simp only[uo]at h;split at h
  ·rename_i ti id off ext hti hx;obtain⟨h0,h⟩:=cA h;simp only[hD]at h0;have hle:=lE h0.1;have hpos:=aC h0.2;split at h
   ·rename_i v1 vs1 hv h1;simp only[Option.some.injEq]at h;subst h;obtain⟨us,g1,g2⟩:=yW hty hr r vs1 h1;have hx':=hr.tmps x;rw[hx]at hx';simp only[oA]at hx';obtain⟨b,n,C,hp,hn,he⟩:=hx';obtain⟨γ,ho⟩:=hr.opn;have hvh:v id=rA s.H id:=by
     cases hb:rA s.H id with
     |dead=>rw[hb]at hv;simp[kF]at hv
     |nw _ _ _ _=>rw[hb]at hv;simp[kF]at hv
     |_=>rw[←hb];exact ho.plain id (ho.live_lt (by rw[hb];trivial)) (by rw[hb];rfl)
    have hlive:(v id).live:=by
     rw[hvh];cases hb:rA s.H id with
     |dead=>rw[hb]at hv;simp[kF]at hv
     |_=>trivial
    rw[←hvh]at hv;have h0':=hty _ _ hti;obtain⟨v,r1,r2⟩:=jN (b:=b) (o:=0) h0' hpos (hr.heap.cellsAt hlive hp) (by omega) hv h0'.one;rw[Nat.zero_add]at r1;refine⟨v::us,⟨r2,g1⟩,?_⟩;simp only[Act.eval]at he;have ha:(asAddr (a.tmps.getD x undef)).run P w= .ok ⟨b,off,none⟩ w:=by rw[he];rfl
    simp only[List.mapM_cons,xK,yK,hN,ha,r1,g2]
   ·cases h
  ·cases h
theorem En {vs:List V}{us:List Value}{M:Nat→Prop}(hr:mA ρ M w vs us):oA ρ M w (one vs) (if h:us.toArray.size=1 then us.toArray[0]else .tuple us.toArray):=by
 have hl:=hr.length;unfold one;split
 ·rename_i v;cases us with
  |nil=>simp at hl
  |cons u us=>
   cases us with
   |nil=>simp only[mA]at hr;simpa using hr.1
   |cons=>simp at hl
 ·rename_i h1;have hne:¬us.toArray.size=1:=by
   intro he;simp at he;rw[←hl]at he;obtain⟨v,hv⟩:=List.length_eq_one_iff.mp he;exact h1 v hv
  rw[dif_neg hne];simp only[oA];exact⟨_,rfl,by simpa using hr⟩
theorem pO:∀(vs:List V) (us:List Value) (i t:Nat) (ρ:xC) (M:Nat→Prop) (w:World) (d:Value),mA ρ M w vs us→oA ρ M w (fE (qO i vs) t) (if i≤t∧t<i+us.length then us.getD (t-i) undef else d)
 | [],us,i,t,ρ,M,w,d,hr=>by simp only[qO,fE,oA]
 |v::vs,[],i,t,ρ,M,w,d,hr=>by simp only[mA]at hr
 |v::vs,u::us,i,t,ρ,M,w,d,hr=>by
  simp only[mA]at hr;simp only[qO,fE];cases hb:Nat.beq i t<;>simp only[cond_true,cond_false]
  ·have hne:i≠t:=fun e=>by subst e;simp at hb
   have:=pO vs us (i+1) t ρ M w d hr.2;by_cases hc:i≤t∧t<i+(us.length+1)
   ·rw[if_pos (by omega)]at this;rw[if_pos (by simp;omega)];have e:t-i=(t- (i+1))+1:=by omega
    rw[e];simpa using this
   ·rw[if_neg (by omega)]at this;rw[if_neg (by simp;omega)];exact this
  ·have:=aB hb;subst this;rw[if_pos (by simp)];simpa using hr.1
theorem wS {ρ:xC}{M:Nat→Prop}{w:World}:∀(i:Nat) (ss:List Sh) (vs:List V) (us:List Value),vs.length=ss.length→us.length=ss.length→(∀t,oA ρ M w (fE (iE (qn i ss) vs) (i+t)) (us.getD t undef))→mA ρ M w vs us
 |i,[],[],[],_,_,_=>by simp only[mA]
 |i,s::ss,v::vs,u::us,h1,h2,h=>by
  simp only[mA];have h0:=h 0;simp only[qn,iE,fE,Nat.add_zero,Nat.beq_refl,cond_true]at h0;refine⟨by simpa using h0,wS (i+1) ss vs us (by simpa using h1) (by simpa using h2) fun t=>?_⟩;have ht:=h (t+1);have hb:Nat.beq i (i+(t+1))=false:=by
   cases hc:Nat.beq i (i+(t+1))with
   |false=>rfl
   |true=>have:=aB hc;omega
  simp only[qn,iE,fE,hb,cond_false]at ht;have e:i+1+t=i+(t+1):=by omega
  rw[e];simpa using ht
 |i,[],_::_,_,h1,_,_=>by simp at h1
 |i,_::_,[],_,h1,_,_=>by simp at h1
 |i,[],[],_::_,_,h2,_=>by simp at h2
 |i,_::_,_::_,[],_,h2,_=>by simp at h2
def Qb (P:Program)(fn:Func)(S:lR)(v:V)(bs:List qA)(a:Act)(w:World):Prop:=
 a.defers=[]∧∃u,(results fn a.tmps).run P w= .ok u w∧mT S.F S.ρ S.bs S.w v bs u w
theorem D6 {E:yC}{fn:Func}(hty:uD P E.ty)(hres:E.res=fn.results.toList){S:lR}(hnb:E.nb=S.bs.length){s:St}{v:V}{bs:List qA}(hf:bN E s=some (v,bs)){a:Act}(hI:tF E S s a w):Qb P fn S v bs a w:=by
 obtain⟨ρ,v,hr,h1,h2,h3,h5,h6,h7,h4⟩:=hI;obtain⟨γ,ho⟩:=hr.opn;refine⟨hr.defers,?_⟩;unfold bN at hf;split at hf
 ·cases hf
 ·rename_i vs hvs;have hf0:=hf;clear hf;cases hrow:E.own<;>rw[hrow]at hf0<;>simp only[cond_true,cond_false]at hf0
  rotate_left
  ·split at hf0
   ·cases hf0
   ·rename_i vs' H' hn;obtain⟨hok,hf⟩:=cA hf0;simp only[Option.some.injEq,Prod.mk.injEq]at hf;obtain⟨rfl,rfl⟩:=hf;simp only[hD]at hok;have hl1:=aB hok.1;have hl2:=aB hok.2;obtain⟨us,g1,g2⟩:=yW hty hr _ _ hvs;have hlu:=g1.length;refine⟨if h:us.toArray.size=1 then us.toArray[0]else .tuple us.toArray,?_,?_⟩
    ·unfold results;rw[←hS (xs:=fn.results),List.mapM_toArray,←hres];simp only[bind_map_left,xK,yK];exact(congrArg (fun r=>Result.andThen r _) g2).trans rfl
    ·have hev:∀t,Act.eval ⟨us.toArray,[]⟩ (.tmp t)=us.getD t undef:=fun t=>by simp[Act.eval,iA]
     have hI1:tF {E with ntmps:=us.length} S ⟨qO 0 vs,s.H⟩ ⟨us.toArray,[]⟩ w:=by
      refine⟨ρ,v,⟨hr.opn,hr.bd,hr.heap,fun t=>?_,by simp,rfl⟩,h1,h2,h3,h5,h6,h7,h4⟩;have:=pO vs us 0 t ρ (av S.F (fA ρ v)) w undef g1;rw[hev];dsimp only;split at this
      ·simpa using this
      ·rename_i hge;have:us.getD t undef=undef:=by
        rw[iA,iB (by omega)];rfl
       rw[this];assumption
     obtain⟨ρ',v',k1,k2,k3,k4,k6,k7,k8,k5⟩:=Eg (E:={E with ntmps:=us.length}) hn hI1;refine⟨ρ',v',fun j hj=>k3 j (by dsimp only;omega),k7,k2,k1.bd,k6,k8,k1.opn,k1.heap,En (wS 0 E.rsh vs' us hl2 (by omega) fun t=>?_),k5⟩;have:=k1.tmps t;rw[hev]at this;rw[Nat.zero_add];exact this
  have hf:=hf0;clear hf0;split at hf
  ·cases hf
  ·rename_i vs' hfz;obtain⟨hok,hf⟩:=cA hf;simp only[Option.some.injEq,Prod.mk.injEq]at hf;obtain⟨rfl,rfl⟩:=hf;obtain⟨us,g1,g2⟩:=yW hty hr _ _ hvs;refine⟨if h:us.toArray.size=1 then us.toArray[0]else .tuple us.toArray,?_,?_⟩
   ·unfold results;rw[←hS (xs:=fn.results),List.mapM_toArray,←hres];simp only[bind_map_left,xK,yK];exact(congrArg (fun r=>Result.andThen r _) g2).trans rfl
   ·let ρ':xC:=fun j=>if j<E.nb∨top≤j then ρ j else none
    have hnbt:E.nb≤top:=by omega
    have hρ':∀j,j<E.nb→ρ' j=ρ j:=fun j hj=>if_pos (.inl hj);have hρg:∀g,top≤g→ρ' g=ρ g:=fun g hg=>if_pos (.inr hg);have hbt:∀j,rA (s.H.take E.nb) j=if j<E.nb then rA s.H j else .dead:=fun j=>by rw[eC,eC,iA,iA,aE];split<;>rfl
    have hin:∀j,j<E.nb→(rA s.H j).live→rA s.H j∈s.H.take E.nb:=fun j hj hl=>zE (i:=j) (by rw[aE,if_pos hj];exact zJ hl);have hnn:∀j,(rA (s.H.take E.nb) j).isNw=false:=fun j=>by
     rw[hbt];split
     ·rename_i hj;cases hb:(rA s.H j).isNw with
      |false=>rfl
      |true=>obtain⟨k,s0,rows,hole,e⟩:=tW hb;have:=(wF _ _ hok _ (hin j hj (by rw[e];trivial))).1;rw[hb]at this;cases this
     ·rfl
    have hlive:∀j,(rA (s.H.take E.nb) j).live→j<E.nb∧(rA s.H j).live∧v j=rA s.H j:=fun j hl=>by
     have hn:=hnn j;rw[hbt]at hl hn;split at hl
     ·rename_i hj;rw[if_pos hj]at hn;exact⟨hj,hl,ho.plain j (by omega) hn⟩
     ·exact hl.elim
    have hM:∀b,fA ρ' (rA (s.H.take E.nb)) b→fA ρ v b:=by rintro b ⟨j,n,C,hp,hl⟩;obtain⟨k1,k2,k3⟩:=hlive j hl;rw[hρ' j k1]at hp;exact⟨j,n,C,hp,by rw[k3];exact k2⟩
    have hMa:∀b,av S.F (fA ρ' (rA (s.H.take E.nb))) b→av S.F (fA ρ v) b:=fun b hb=>hb.imp id (hM b);have htl:(s.H.take E.nb).length=E.nb:=by simp[h3]
    refine⟨ρ',rA (s.H.take E.nb),fun j hj=>?_,fun g p hg hp=>by rw[hρg g hg];exact h6 g p hg hp,fun j hj hj2=>?_,?_,by omega,fun g hg hl=>?_,⟨_,fC.flat hnn (fun j hj=>by rw[hbt,if_neg (by omega)])⟩,⟨?_,?_,?_,hr.heap.low,fun b hb=>hr.heap.out b (hM b hb)⟩,?_,⟨h4.size,h4.same,fun b hb=>h4.sub b (hM b hb),h4.keeps⟩⟩
    ·rw[hρ' j (by omega)];exact h2 j (by omega)
    ·exact if_neg (by omega)
    ·obtain⟨G,hG⟩:=hr.bd;exact⟨G+top,fun g hg=>by rw[hρg g (by omega)];exact hG g (by omega)⟩
    ·have:=(hlive g hl).1;omega
    ·intro j p hp;simp only[ρ']at hp;split at hp
     ·exact hr.heap.wf _ _ hp
     ·cases hp
    ·intro j hl;obtain⟨k1,k2,k3⟩:=hlive j hl;obtain⟨p,hp,hb⟩:=hr.heap.rel j (by rw[k3];exact k2);refine⟨p,by rw[hρ' j k1];exact hp,?_⟩;rw[hbt,if_pos k1];rw[k3]at hb;refine jB.avoid hMa (hb.agree (fun i hi p hp=>?_));rw[hρ' i ((wF _ _ hok _ (hin j k1 k2)).2 i hi)];exact hp
    ·intro i j b n C n' C' hi hj hpi hpj;obtain⟨k1,k2,k5⟩:=hlive i hi;obtain⟨k3,k4,k6⟩:=hlive j hj;rw[hρ' i k1]at hpi;rw[hρ' j k3]at hpj;exact hr.heap.inj i j b _ _ _ _ (by rw[k5];exact k2) (by rw[k6];exact k4) hpi hpj
    ·refine En (dK ho hr.heap hnbt hρ' hM ?_ _ _ _ _ hfz g1);rintro b ⟨j,n,C,hp,hl⟩ id n' C' hid hli hpi;obtain⟨k1,k2,k3⟩:=hlive j hl;rw[hρ' j k1]at hp;have:=hr.heap.inj j id b _ _ _ _ (by rw[k3];exact k2) hli hp hpi;omega
end
def jn (P:Program)(body:Code)(Q:Exit→Act→World→Prop):Nat→Code→Act→World→Prop
 |0,_,_,_=>False
 |n+1,c,a,w=>c.wp P (fun e a' w'=>match e with
  | .goto l=>∃rest,findLabel body l=some rest∧jn P body Q n rest a' w'
  |e=>Q e a' w') a w
theorem wN {P:Program}{body:Code}{Q:Exit→Act→World→Prop}{a:Act}{w:World}(n:Nat)(h:jn P body Q n body a w):(Code.scope body).wp P Q a w:=by
 intro b k cs;have key:∀n c a w,jn P body Q n c a w→∃e a' w',Q e a' w'∧Arrives P (lone (b.at a (.code c:: .inScope body::k)) cs w) b k cs e a' w':=by
  intro n;induction n with
  |zero=>intro c a w h;exact h.elim
  |succ n ih=>
   intro c a w h;obtain⟨e,a₁,w₁,hq,harr⟩:=h b (.inScope body::k) cs;cases e with
   |normal=>exact⟨.normal,a₁,w₁,hq,Steps.trans harr (.one step_inScope)⟩
   |exit id=>exact⟨.exit id,a₁,w₁,hq,fun k' hk=>harr k' (by simp[exitTo,hk])⟩
   |goto l=>obtain⟨rest,hf,hp⟩:=hq;obtain⟨e₂,a₂,w₂,hq₂,harr₂⟩:=ih rest a₁ w₁ hp;exact⟨e₂,a₂,w₂,hq₂,.of_steps (harr _ (by simp[gotoIn,hf])) harr₂⟩
   |ret=>exact⟨_,a₁,w₁,hq,harr⟩
   |panic ch=>exact⟨_,a₁,w₁,hq,harr⟩
   |outgrown=>exact⟨_,a₁,w₁,hq,harr⟩
 obtain⟨e,a₁,w₁,hq,harr⟩:=key n body a w h;exact⟨e,a₁,w₁,hq,.of_steps (.one step_scope) harr⟩
theorem pK:∀(c:Code) (l:Nat) (rest:Code),findLabel c l=some rest→∀x∈jA rest,x∈jA c
 | .seq a b,l,rest,h,x,hx=>by
  simp only[findLabel]at h;split at h
  ·rename_i r hr;simp only[Option.some.injEq]at h;subst h;simp only[jA,List.mem_append]at hx⊢;exact hx.imp (pK a l r hr x) (fun y=>y)
  ·simp only[jA,List.mem_append];exact .inr (pK b l rest h x hx)
 | .label l',l,rest,h,x,hx=>by
  simp only[findLabel]at h;split at h
  ·simp only[Option.some.injEq]at h;subst h;simp[jA]at hx
  ·cases h
 | .skip,_,_,h,_,_=>by simp[findLabel]at h
 | .region ..,_,_,h,_,_=>by simp[findLabel]at h
 | .cond ..,_,_,h,_,_=>by simp[findLabel]at h
 | .block ..,_,_,h,_,_=>by simp[findLabel]at h
 | .loop ..,_,_,h,_,_=>by simp[findLabel]at h
 | .scope ..,_,_,h,_,_=>by simp[findLabel]at h
 | .exit ..,_,_,h,_,_=>by simp[findLabel]at h
 | .goto ..,_,_,h,_,_=>by simp[findLabel]at h
 | .ret,_,_,h,_,_=>by simp[findLabel]at h
 | .rangeFunc ..,_,_,h,_,_=>by simp[findLabel]at h
 | .refuse ..,_,_,h,_,_=>by simp[findLabel]at h
section
variable {P:Program}{fn:Func}{E:yC}
def Is (P:Program)(fn:Func)(E:yC)(S:lR):Ex→St→Exit→Act→World→Prop
 | .normal,s,x,a,w=>x= .normal∧tF E S s a w
 | .exit i,s,x,a,w=>x= .exit i∧tF E S s a w
 | .goto l,s,x,a,w=>x= .goto l∧tF E S s a w
 | .ret v bs,_,x,a,w=>x= .ret∧Qb P fn S v bs a w
def Rc (P:Program)(fn:Func)(E:yC)(c:Code)(s:St){R:Type}(k:Ex→St→Option R)(r:R):Prop:=
 ∀S a w,E.nb=S.bs.length→tF E S s a w→c.wp P (fun x a' w'=>∃ex s',k ex s'=some r∧Is P fn E S ex s' x a' w') a w
def qC (P:Program)(fn:Func)(E:yC):Code→Prop
 | .loop b=>∀e hd,E.cut (qF b)=some e→E.hint (qF b)=some hd→∀(R:Type) vs H (k:Ex→St→Option R) r,e.run vs H k=some r→Rc P fn E (.loop b) ⟨iE hd.keep vs,H⟩ k r
 | .scope b=>∀e hd,E.cut (1000000+qF b)=some e→E.hint (1000000+qF b)=some hd→∀(R:Type) vs H (k:Ex→St→Option R) r,e.run vs H k=some r→Rc P fn E (.scope b) ⟨iE hd.keep vs,H⟩ k r
 |_=>True
def pW (P:Program)(fn:Func)(E:yC)(c:Code)(f:{R:Type}→St→(Ex→St→Option R)→Option R):Prop:=
 ∀(R:Type) s (k:Ex→St→Option R) r,f s k=some r→Rc P fn E c s k r
theorem Ak {b:Code}{hd:cE}{f:{R:Type}→St→(Ex→St→Option R)→Option R}(hf:pW P fn E b f){R:Type}:∀(n:Nat) (vs:List V) (H:List qA) (k:Ex→St→Option R) (r:R),vB E.nb hd f n vs H k=some r→
  ∀S a w,E.nb=S.bs.length→tF E S ⟨iE hd.keep vs,H⟩ a w→Code.rounds P b (fun x a' w'=>∃ex s',k ex s'=some r∧Is P fn E S ex s' x a' w') n a w:=by
 intro n;induction n with
 |zero=>intro vs H k r h;cases h
 |succ n ih=>
  intro vs H k r h S a w hnb hI;unfold vB at h;rw[rounds_succ];refine wp_mono (hf R _ _ _ h S a w hnb hI) ?_;rintro x a' w' ⟨ex,s1,h1,h2⟩;cases ex with
  |normal=>
   obtain⟨rfl,hI'⟩:=h2;dsimp only at h1;split at h1
   ·rename_i vs' H' hn;exact ih _ _ _ _ h1 S a' w' hnb (cL hn hI')
   ·cases h1
  |ret v bs=>obtain⟨rfl,hI'⟩:=h2;exact⟨.ret v bs,.nil,h1,rfl,hI'⟩
  |exit i=>
   obtain⟨rfl,hI'⟩:=h2;dsimp only at h1;split at h1
   ·rename_i vs' H' hn;exact⟨.exit i,_,h1,rfl,cL hn hI'⟩
   ·cases h1
  |goto l=>
   obtain⟨rfl,hI'⟩:=h2;dsimp only at h1;split at h1
   ·rename_i vs' H' hn;exact⟨.goto l,_,h1,rfl,cL hn hI'⟩
   ·cases h1
theorem xp {b:Code}{hd:cE}{f:{R:Type}→St→(Ex→St→Option R)→Option R}(hf:pW P fn E b f){R:Type}{n:Nat}{vs:List V}{H:List qA}{k:Ex→St→Option R}{r:R}(h:vB E.nb hd f n vs H k=some r):
  Rc P fn E (.loop b) ⟨iE hd.keep vs,H⟩ k r:=fun S a w hnb hI=>wp_loop_rounds n (Ak hf n vs H k r h S a w hnb hI)
theorem kY {body:Code}{hd:cE}{f:{R:Type}→Code→St→(Ex→St→Option R)→Option R}(hf:∀c,(∀x∈jA c,x∈jA body)→pW P fn E c (fun s k=>f c s k)){R:Type}:∀(n:Nat) (c:Code) (vs:List V) (H:List qA) (k:Ex→St→Option R) (r:R),(∀x∈jA c,x∈jA body)→
  aN E.nb hd f body n c vs H k=some r→∀S a w,E.nb=S.bs.length→tF E S ⟨iE hd.keep vs,H⟩ a w→jn P body (fun x a' w'=>∃ex s',k ex s'=some r∧Is P fn E S ex s' x a' w') n c a w:=by
 intro n;induction n with
 |zero=>intro c vs H k r _ h;cases h
 |succ n ih=>
  intro c vs H k r hsub h S a w hnb hI;unfold aN at h;refine wp_mono (hf c hsub R _ _ _ h S a w hnb hI) ?_;rintro x a' w' ⟨ex,s1,h1,h2⟩;cases ex with
  |goto l=>
   obtain⟨rfl,hI'⟩:=h2;dsimp only at h1;split at h1
   ·rename_i rest hrest;split at h1
    ·rename_i vs' H' hn;exact⟨rest,hrest,ih rest _ _ _ _ (pK body l rest hrest) h1 S a' w' hnb (cL hn hI')⟩
    ·cases h1
   ·cases h1
  |ret v bs=>obtain⟨rfl,hI'⟩:=h2;exact⟨.ret v bs,.nil,h1,rfl,hI'⟩
  |normal=>
   obtain⟨rfl,hI'⟩:=h2;dsimp only at h1;split at h1
   ·rename_i vs' H' hn;exact⟨.normal,_,h1,rfl,cL hn hI'⟩
   ·cases h1
  |exit i=>
   obtain⟨rfl,hI'⟩:=h2;dsimp only at h1;split at h1
   ·rename_i vs' H' hn;exact⟨.exit i,_,h1,rfl,cL hn hI'⟩
   ·cases h1
theorem rn {R:Type}{n:Nat}{f:Nat→Option R}{r:R}(h:bp n f=some r):∀i,i<n→f i=some r:=by
 unfold bp at h;split at h
 ·rename_i hx;simp only[Option.some.injEq]at h;rw[←h];exact Classical.choose_spec hx.2
 ·cases h
theorem nZ {id:Nat}{ops:Array Oper}{it:Operand}{d1 d2:Nat}(hn:tm ops.toList=some (it,d1,d2))(h1:Nat.blt d1 E.ntmps=true)(h2:Nat.blt d2 E.ntmps=true){s:St}{R:Type}{k:St→Option R}{r:R}(hr:rv d1 d2 (Qk s.T it) s.T s.H k=some r):
  ∀S a w,tF E S s a w→(Code.region id ops false).wp P (fun x a' w'=>x= .normal∧∃s',k s'=some r∧tF E S s' a' w') a w:=by
 intro S a w hI;unfold tm at hn;split at hn
 ·rename_i l o1 o2 hops;split at hn
  ·rename_i it' t0 t d2' e1 e2 e3 e4 e5 e6;obtain⟨ht,hn⟩:=cA hn;have ht:=aB ht;subst ht;simp only[Option.some.injEq,Prod.mk.injEq]at hn;obtain⟨rfl,rfl,rfl⟩:=hn;obtain rfl:ops= #[o1,o2]:=by apply Array.ext';simpa using hops
   obtain⟨ρ,v0,hrep,q1,q2,q3,q5,q6,q7,q4⟩:=hI;obtain⟨γ,ho⟩:=hrep.opn;unfold rv at hr;split at hr
   ·rename_i idd ext hit;split at hr
    ·rename_i mid gE rem cur hid;split at hr
     rotate_left
     ·cases hr
     rename_i kd n ks vs hmid;obtain⟨hcn,hr0⟩:=cA hr;clear hr;have hr:=hr0;clear hr0;have hcn:=aB hcn;have hev:=hrep.ev it';rw[←gq,hit]at hev;have hwanted:∀(o:Oper) (h:o.guard=none) (y:Nat→Option Bool),Region.wanted o y=true:=fun o h y=>by unfold Region.wanted;rw[h]
     have hl:idd<s.H.length:=by
      rcases Nat.lt_or_ge idd s.H.length with h|h
      ·exact h
      ·have h0:s.H[idd]?=none:=iB h;rw[eC,iA,h0]at hid;cases hid
     have bN:∀(b:Bool) (v:Value) (w':World) (H':List qA) (v1:Nat→qA),(Instr.next (a.eval it') false o1.type).run P w= .ok v w'→(Instr.extract v 0).run P w'= .ok (.bool b) w'→H'.length=s.H.length→
       fC (rA H') γ v1→(∀g,top≤g→v1 g=v0 g)→kA S.F ρ v1 w'→qG (fA ρ v0) w (fA ρ v1) w'→k ⟨(d2',.c (.bool b))::(t,.poison)::s.T,H'⟩=some r→
       (Code.region id #[o1,o2] false).wp P (fun x a' w'=>x= .normal∧∃s',k s'=some r∧tF E S s' a' w') a w:=by
      intro b v w' H' v1 hrun hext hlen ho1 hg1 hh he hk;have r1:lh E S.F ρ (fE s.T) (rA H') v1 a w':=hrep.put (vL.refl _) ⟨γ,ho1⟩ hrep.bd hh he (d:=none) rfl (x:=.poison) (u:=.bool b) (by simp only[oA]);have r2:=r1.put (vL.refl _) ⟨γ,ho1⟩ hrep.bd hh (qG.refl _ _) (d:=some t) h1 (x:=.poison) (u:=v) (by simp only[oA]);have r3:=r2.put (vL.refl _) ⟨γ,ho1⟩ hrep.bd hh (qG.refl _ _) (d:=some d2') h2 (x:=.c (.bool b)) (u:=.bool b) (oA.of_c _);have hev1:(a.put (some t) v).eval (.tmp t)=v:=by
       have hlt:t<a.tmps.size:=by rw[hrep.size];exact aC h1
       simp only[Act.put,Act.eval];rw[hP,Array.getElem?_setIfInBounds_self_of_lt hlt];rfl
      refine wp_region ?_;show wpOps P #[o1,o2] _ [0,1] a w;rw[wpOps_cons];unfold wpOp;simp only[cP,hQ];rw[if_pos (hwanted o1 e3 _)];refine .inl ?_;unfold Oper.wp execOp;rw[e1];simp only[xK,hrun,hN,yK];rw[Oper.upon_value,e2,wpOps_cons];unfold wpOp;simp only[cP,hQ,List.getElem?_cons_succ];rw[if_pos (hwanted o2 e6 _)];refine .inl ?_;unfold Oper.wp execOp;rw[e4];simp only[hev1,xK,hext,hN,yK];rw[Oper.upon_value,e5];refine⟨rfl,_,hk,ρ,v1,?_,fun j hj=>q1 j (by dsimp only at hj;omega),q2,by dsimp only;omega,by dsimp only;omega,q6,fun g hg hl=>q7 g hg (by rw[hg1 g hg]at hl;exact hl),q4.trans he⟩;have e:fE ((d2',V.c (.bool b))::(t,.poison)::s.T)=lI (lI (fE s.T) (some t) .poison) (some d2') (.c (.bool b)):=by rw[←gS,←gS];rfl
      dsimp only;rw[e];exact r3
     have hidt:idd<top:=ho.live_lt (by rw[hid];trivial);have hvid:v0 idd= .it (some mid) gE rem cur:=by rw[←hid];exact ho.plain idd hidt (by rw[hid];rfl)
     have hvmid:v0 mid= .mp kd n ks vs:=by rw[←hmid];exact ho.plain mid (ho.live_lt (by rw[hmid];trivial)) (by rw[hmid];rfl)
     rcases Nu (P:=P) hrep.heap hev hvid hvmid hcn o1.type with⟨hr0,hrun⟩|⟨p,u1,u2,w',hp,hrun,hh,he⟩
     ·subst hr0;simp only[List.isEmpty_nil,cond_true]at hr;exact bN false _ w s.H v0 hrun (by simp[Instr.extract]) rfl ho (fun _ _=>rfl) hrep.heap (qG.refl _ _) hr
     ·have hne:rem.isEmpty=false:=by cases rem with
       |nil=>simp at hp
       |cons=>rfl
      simp only[hne,cond_false]at hr;have hk:=rn hr p hp;have hb:rA (oC s.H idd (.it (some mid) gE (rem.eraseIdx p) (rem.getD p 0)))=bD (rA s.H) [(idd,.it (some mid) gE (rem.eraseIdx p) (rem.getD p 0))]:=yL _ _ _ hl;have hup:=ho.upd (ups:=[(idd,.it (some mid) gE (rem.eraseIdx p) (rem.getD p 0))]) (by simpa using hidt) (by simp[hid,qA.isNw]) (by simp[qA.isNw]);exact bN true _ w' _ _ hrun (by simp[Instr.extract]) (wB _ _ _) (by rw[hb];exact hup) (fun g hg=>by show(if g=idd then _ else v0 g)=v0 g;rw[if_neg (by omega)]) hh he hk
    ·cases hr
   ·cases hr
  ·cases hn
 ·cases hn
theorem aU (hE:dB P E)(hmix:P.follows .mixedOrders=true)(hres:E.res=fn.results.toList):∀(d:Nat) (c:Code),(∀b∈jA c,qC P fn E b)→pW P fn E c (fun s k=>kB E d c s k):=by
 intro d;induction d with
 |zero=>intro c _ R s k r h;cases h
 |succ d ih=>
  intro c hcut R s k r h S a w hnb hI;dsimp only at h;unfold kB at h;cases c with
  |skip=>exact wp_skip ⟨.normal,s,h,rfl,hI⟩
  |label l=>exact wp_label ⟨.normal,s,h,rfl,hI⟩
  |exit id=>exact wp_exit ⟨.exit id,s,h,rfl,hI⟩
  |goto l=>exact wp_goto ⟨.goto l,s,h,rfl,hI⟩
  |rangeFunc=>cases h
  |refuse=>cases h
  |ret=>
   dsimp only at h;split at h
   ·rename_i v bs hf;exact wp_ret ⟨.ret v bs,.nil,h,rfl,D6 hE.ty hres hnb hf hI⟩
   ·cases h
  |region id ops draw=>
   dsimp only at h;split at h
   ·rename_i it d1 d2 hn;obtain⟨hg,h'⟩:=cA h;clear h;obtain⟨hd,hg⟩:=wA hg;obtain⟨hd1,hd2⟩:=wA hg;have hd:draw=false:=by simpa using hd
    subst hd;refine wp_mono (nZ hn hd1 hd2 h' S a w hI) ?_;rintro x a' w' ⟨rfl,s',hk,hI'⟩;exact⟨.normal,s',hk,rfl,hI'⟩
   ·obtain⟨s',h1,h2,h3,h4⟩:=B9 (id:=id) hE hmix h;obtain⟨ρ,v,r1,r2,r3,r4,r6,r7,r8,r5⟩:=hI;refine h4 S.F ρ v a w _ r1 r2 (fun ρ' v' a' w' q1 q2 q3 q5 q6 q4=>⟨.normal,s',h1,rfl,ρ',v',q1,q2,fun j hj=>by rw[q3 j (by omega) (by omega)];exact r3 j hj,by omega,h3,fun g p hg hp=>q5 g p hg (r7 g p hg hp),fun g hg hl=>?_,r5.trans q4⟩);rcases q6 g hg hl with q|q
    ·exact r8 g hg q
    ·cases hs:S.ρ g with
     |none=>rfl
     |some p=>have:=r7 g p hg hs;rw[q]at this;cases this
  |seq x y=>
   refine wp_seq (wp_mono (ih x (fun b hb=>hcut b (by simp[jA,hb])) R _ _ _ h S a w hnb hI) ?_);rintro e a' w' ⟨ex,s1,h1,h2⟩;cases ex with
   |normal=>obtain⟨rfl,hI'⟩:=h2;exact ih y (fun b hb=>hcut b (by simp[jA,hb])) R _ _ _ h1 S a' w' hnb hI'
   |ret v bs=>obtain⟨rfl,hI'⟩:=h2;exact⟨.ret v bs,s1,h1,rfl,hI'⟩
   |exit i=>obtain⟨rfl,hI'⟩:=h2;exact⟨.exit i,s1,h1,rfl,hI'⟩
   |goto l=>obtain⟨rfl,hI'⟩:=h2;exact⟨.goto l,s1,h1,rfl,hI'⟩
  |cond c x y=>
   dsimp only at h;split at h
   ·rename_i b hb;rw[gq]at hb;have hev:a.eval c= .bool b:=by
     obtain⟨ρ,v,r1,_⟩:=hI;have:=r1.ev c;rw[hb]at this;simpa only[oA]using this
    cases b<;>simp only[cond_true,cond_false]at h
    ·exact wp_cond_false hev (ih y (fun b hb=>hcut b (by simp[jA,hb])) R _ _ _ h S a w hnb hI)
    ·exact wp_cond_true hev (ih x (fun b hb=>hcut b (by simp[jA,hb])) R _ _ _ h S a w hnb hI)
   ·cases h
  |block id b=>
   refine wp_block (wp_mono (ih b (fun x hx=>hcut x (by simpa[jA]using hx)) R _ _ _ h S a w hnb hI) ?_);rintro e a' w' ⟨ex,s1,h1,h2⟩;cases ex with
   |normal=>obtain⟨rfl,hI'⟩:=h2;exact⟨.normal,s1,h1,rfl,hI'⟩
   |ret v bs=>obtain⟨rfl,hI'⟩:=h2;exact⟨.ret v bs,s1,h1,rfl,hI'⟩
   |goto l=>obtain⟨rfl,hI'⟩:=h2;exact⟨.goto l,s1,h1,rfl,hI'⟩
   |exit i=>
    obtain⟨rfl,hI'⟩:=h2;dsimp only at h1;simp only[Exit.inBlock];cases hb:Nat.beq i id<;>rw[hb]at h1<;>simp only[cond_true,cond_false]at h1
    ·rw[if_neg (fun e=>by subst e;simp at hb)];exact⟨.exit i,s1,h1,rfl,hI'⟩
    ·rw[if_pos (aB hb)];exact⟨.normal,s1,h1,rfl,hI'⟩
  |loop b=>
   dsimp only at h;split at h
   ·cases h
   ·rename_i hd hhd;split at h
    ·cases h
    ·rename_i vs H hn;have key:Rc P fn E (.loop b) ⟨iE hd.keep vs,H⟩ k r:=by
      split at h
      ·rename_i e he;exact hcut (.loop b) (by simp[jA]) e hd he hhd R vs H k r h
      ·exact xp (ih b (fun x hx=>hcut x (by simp[jA,hx]))) h
     exact key S a w hnb (cL hn hI)
  |scope b=>
   dsimp only at h;cases hj:uQ b 0<;>rw[hj]at h<;>simp only[cond_true,cond_false]at h
   ·refine wp_scope_straight (wp_mono (ih b (fun x hx=>hcut x (by simp[jA,hx])) R _ _ _ h S a w hnb hI) ?_);rintro e a' w' ⟨ex,s1,h1,h2⟩;cases ex with
    |goto l=>cases h1
    |normal=>obtain⟨rfl,hI'⟩:=h2;exact⟨.normal,s1,h1,rfl,hI'⟩
    |ret v bs=>obtain⟨rfl,hI'⟩:=h2;exact⟨.ret v bs,s1,h1,rfl,hI'⟩
    |exit i=>obtain⟨rfl,hI'⟩:=h2;exact⟨.exit i,s1,h1,rfl,hI'⟩
   ·split at h
    ·cases h
    ·rename_i hd hhd;split at h
     ·cases h
     ·rename_i vs H hn;have key:Rc P fn E (.scope b) ⟨iE hd.keep vs,H⟩ k r:=by
       split at h
       ·rename_i e he;exact hcut (.scope b) (by simp[jA]) e hd he hhd R vs H k r h
       ·exact fun S a w hnb hI=>wN E.N (kY (f:=fun c s k=>kB E d c s k) (body:=b) (fun c hc=>ih c (fun x hx=>hcut x (by simp[jA,hc x hx]))) E.N b vs H k r (fun _ hx=>hx) h S a w hnb hI)
      exact key S a w hnb (cL hn hI)
structure fk (P:Program)(f:Nat)(args:List V)(bs:List qA){R:Type}(k:V→List qA→Option R)(r:R):Prop where
 callable:aO P f
 calls:∀F ρ w args',kA F ρ (rA bs) w→(∀id,bs.length≤id→id<top→ρ id=none)→Bd ρ→bs.length≤top→mA ρ (av F (fA ρ (rA bs))) w args args'→
  Calls P f args'.toArray w fun e w'=>∃v bs' v',k v bs'=some r∧e= .returned v'∧mT F ρ bs w v bs' v' w'
theorem fk.of {f:Nat}{args:List V}{bs:List qA}{R:Type}{k:V→List qA→Option R}{r:R}(h:fk P f args bs k r){v0:V}{bs0:List qA}(hk:∀v bs',k v bs'=some r→v=v0∧bs'=bs0):lA P f args bs v0 bs0:=
 ⟨h.callable,fun F ρ w args' hH hn hb hl hr=>(h.calls F ρ w args' hH hn hb hl hr).mono fun e w' ⟨v,bs',v',h1,h2,h3⟩=>by obtain⟨rfl,rfl⟩:=hk v bs' h1;exact⟨v',h2,h3⟩⟩
theorem mw (hE:dB P E)(hmix:P.follows .mixedOrders=true){f:Nat}{body:Code}(hf:P.funcs[f]?=some fn)(hb:fn.body=some body)(hname:(fn.name== "runtime.NumGoroutine")=false)(hres:E.res=fn.results.toList)(hnt:E.ntmps=fn.ntmps)
  {args:List V}{bs:List qA}(hnb:E.nb=bs.length)(hargs:args.length≤fn.ntmps)(hcut:∀b∈jA body,qC P fn E b){R:Type}{k:V→List qA→Option R}{r:R}(h:eB E body args bs k=some r):
  fk P f args bs k r:=by
 refine⟨⟨fn,hf,by rw[hb];rfl,hname⟩,?_⟩;intro F ρ w args' hH hn hbd hbl hr;refine calls_of_wp hf hb ?_;unfold eB at h;have hlen:=hr.length;have hI:tF E ⟨F,ρ,bs,w⟩ ⟨qO 0 args,bs⟩ {tmps:=args'.toArray++Array.replicate (fn.ntmps-args'.toArray.size) undef,defers:=[]} w:=by
  have hnn:∀j,(rA bs j).isNw=false:=fun j=>by
   cases hx:(rA bs j).isNw with
   |false=>rfl
   |true=>obtain⟨k,s0,rows,hole,e⟩:=tW hx;obtain⟨p,_,hp⟩:=hH.rel j (by rw[e];trivial);rw[e]at hp;exact hp.elim
  have hhi:∀j,top≤j→rA bs j= .dead:=fun j hj=>by rw[eC,iA,iB (by omega)];rfl
  refine⟨ρ,rA bs,⟨⟨_,fC.flat hnn hhi⟩,hbd,hH,fun t=>?_,?_,rfl⟩,hn,fun _ _=>rfl,by dsimp only;omega,hbl,fun _ _ _ h=>h,fun g hg hl=>by rw[hhi g hg]at hl;exact hl.elim,qG.refl _ _⟩
  ·have:=pO args args' 0 t ρ _ w undef hr;have e:(if 0≤t∧t<0+args'.length then args'.getD (t-0) undef else undef)=Act.eval {tmps:=args'.toArray++Array.replicate (fn.ntmps-args'.toArray.size) undef,defers:=[]} (.tmp t):=by
    simp only[Act.eval,hP,Array.getElem?_append,List.size_toArray,cP,Array.getElem?_replicate];by_cases ht:t<args'.length
    ·rw[if_pos (by omega),if_pos ht];simp[iA]
    ·rw[if_neg (by omega),if_neg ht];split<;>rfl
   rw[←e];exact this
  ·simp only[Array.size_append,List.size_toArray,Array.size_replicate,hnt];omega
 refine wp_mono (aU hE hmix hres Qi body hcut R _ _ _ h ⟨F,ρ,bs,w⟩ _ w hnb hI) ?_;rintro x a' w' ⟨ex,s',h1,hx⟩;cases ex with
 |normal=>
  obtain⟨rfl,hI'⟩:=hx;dsimp only at h1;split at h1
  ·rename_i v bs' hf;obtain⟨hd,u,hu,hp⟩:=D6 hE.ty hres hnb hf hI';exact⟨hd,u,hu,v,bs',u,h1,rfl,hp⟩
  ·cases h1
 |ret v bs'=>obtain⟨rfl,hd,u,hu,hp⟩:=hx;exact⟨hd,u,hu,v,bs',u,h1,rfl,hp⟩
 |exit i=>cases h1
 |goto l=>cases h1
theorem lA.of_freeze {f:Nat}{ss:List Sh}{args args2:List V}{v:V}{bs':List qA}(hz:uH 0 (fun _=>.dead) ss args=some args2)(h:lA P f args2 [] v bs'):lA P f args [] v bs':=by
 refine⟨h.callable,fun F ρ w args' hH hn hb hl hr=>h.calls F ρ w args' hH hn hb hl ?_⟩;have hd:rA []=fun _=>qA.dead:=by funext j;rfl
 rw[hd]at hH hr⊢;exact dK (fC.flat (fun _=>rfl) (fun _ _=>rfl)) hH (Nat.zero_le _) (fun i hi=>by omega) (fun b hb=>hb) (fun b hb=>by obtain⟨_,_,_,_,hl⟩:=hb;exact hl.elim) ss args args2 args' hz hr
end
theorem nC {P:Program}{t:Nat}{ti:TI}(hi:(P.info? t).isSome=true)(hs:((P.info? t).getD default).size=ti.size)(hb:((P.info? t).getD default).bytes=ti.bytes)(hz:((P.info? t).getD default).zero.isSome=true)
  (hc:(((P.info? t).getD default).zero.getD undef).cells.toList=ti.zero)(hl:ti.zero.length=ti.size)(ho:(ti.isAgg||Nat.beq ti.size 1)=true)(hk:xD P t ti.tk)(he:(!ti.isAgg||(!P.stoodInHeld t&& !P.eqGuardType P.depth t))=true):kC P t ti:=by
 cases h:P.info? t with
 |none=>rw[h]at hi;cases hi
 |some i=>
  rw[h]at hs hb hz hc;simp only[Option.getD_some]at hs hb hz hc;cases h2:i.zero with
  |none=>rw[h2]at hz;cases hz
  |some z=>
   rw[h2]at hc;simp only[Option.getD_some]at hc;refine⟨⟨i,h,hs,hb,z,h2,hc⟩,hl,fun ha=>?_,hk,fun ha=>?_⟩
   ·rw[ha]at ho;exact aB ho
   ·rw[ha]at he;simpa using he
theorem nI {P:Program}{t:Nat}{fields:Array Field}{fs:List (Nat×Nat)}(h1:P.underlying t=some (.struct fields))(h2:fields.toList.map (fun f=>(f.type,f.offset))=fs)(h3:fields.toList.all (fun f=>!(f.name== "_"))=true):xD P t (.struct fs):=
 ⟨fields,h1,h2,fun f hf=>by rw[hC]at h3;have:=h3 f hf;simpa using this⟩
def xq (P:Program)(e:Nat):Bool:=match P.info? e with
 |some i=>(match i.zero with|some z=>tZ z|none=>false)
 |none=>false
theorem kl {P:Program}{t k e:Nat}(h1:P.underlying t=some (.map k e))(h2:xq P e=true):xD P t (.map k e):=by
 unfold xq at h2;split at h2
 ·rename_i i hi;split at h2
  ·rename_i z hz;exact⟨h1,i,z,hi,hz,h2⟩
  ·cases h2
 ·cases h2
theorem uD.nil {P:Program}:uD P (jM []):=fun _ _ h=>by cases h
theorem uD.cons {P:Program}{t:Nat}{ti:TI}{l:List (Nat×TI)}(h:kC P t ti)(r:uD P (jM l)):uD P (jM ((t,ti)::l)):=by
 intro t' ti' ht;simp only[jM]at ht;cases hb:Nat.beq t t'<;>rw[hb]at ht<;>simp only[cond_true,cond_false]at ht
 ·exact r t' ti' ht
 ·have:=aB hb;subst this;simp only[Option.some.injEq]at ht;subst ht;exact h
def uA (P:Program)(f:Nat)(e:yA):Prop:=∀args bs a enc,e.dec args bs=some (some a,enc)→lA P f args bs (enc a).pick.1 (enc a).pick.2
theorem oX.nil {P:Program}:oX P (jM []):=fun _ _ h=>by cases h
theorem oX.cons {P:Program}{f:Nat}{e:yA}{l:List (Nat×yA)}(h:uA P f e)(r:oX P (jM l)):oX P (jM ((f,e)::l)):=by
 intro f' e' ht;simp only[jM]at ht;cases hb:Nat.beq f f'<;>rw[hb]at ht<;>simp only[cond_true,cond_false]at ht
 ·exact r f' e' ht
 ·have:=aB hb;subst this;simp only[Option.some.injEq]at ht;subst ht;exact h
def eA (P:Program)(fn:Func)(E:yC)(l:List Code):Prop:=∀b∈l,qC P fn E b
theorem eA.nil {P:Program}{fn:Func}{E:yC}:eA P fn E []:=fun _ h=>by cases h
theorem eA.cons {P:Program}{fn:Func}{E:yC}{c:Code}{l:List Code}(h:qC P fn E c)(r:eA P fn E l):eA P fn E (c::l):=fun b hb=>by
 rcases hU.mp hb with rfl|hb
 ·exact h
 ·exact r b hb
theorem eA.of {P:Program}{fn:Func}{E:yC}{l l':List Code}(he:l'=l)(h:eA P fn E l):eA P fn E l':=he▸h
theorem xT {P:Program}{fn:Func}{E:yC}{b:Code}(h:(E.cut (1000000+qF b)).isNone=true):qC P fn E (.scope b):=fun e hd he=>by rw[he]at h;cases h
theorem Cv {P:Program}{fn:Func}{E:yC}{b:Code}(h:(E.cut (qF b)).isNone=true):qC P fn E (.loop b):=fun e hd he=>by rw[he]at h;cases h
def Rj (h:Nat→qA):V→V
 | .sw id s=>(match h id with
  | .ints _ l=>.sl id s 0 (gE s l.length)
  |_=>.sw id s)
 |v=>v
def yJ (h:Nat→qA):List Bool→List V→List V
 |true::bs,v::r=>Rj h v::yJ h bs r
 |false::bs,v::r=>v::yJ h bs r
 |_,vs=>vs
theorem Mx {F:Nat→Prop}{ρ:xC}{h:Nat→qA}{w:World}(hh:kA F ρ h w){v:V}{u:Value}(hr:oA ρ (av F (fA ρ h)) w v u):oA ρ (av F (fA ρ h)) w (Rj h v) u:=by
 unfold Rj;split
 ·rename_i id s;split
  ·rename_i k l hid;obtain⟨h0,⟨b,n,C,cap,c,h1,h2,h3,h4,h5,ho,hsz,hold⟩|⟨h1,h2,hk⟩⟩:=fG hh hr (by rw[hid];trivial) (by rw[hid];trivial)
   ·rw[hid]at hold;obtain⟨e1,e2,e3⟩:=hold;simp only[oA];have hn:n/s*s=n:=Nat.div_mul_cancel (Nat.dvd_of_mod_eq_zero h2);refine⟨h0,.inl ⟨b,n,C,cap,h1,?_,?_,by omega,?_⟩⟩
    ·rw[mE,e1];omega
    ·rw[mE,e1];exact h3
    ·rw[mE,e1];exact h5
   ·rw[hid]at hk;rcases hk with⟨k2,hk⟩|hk|⟨_,_,hk⟩<;>cases hk;simp only[oA];exact⟨h0,.inr ⟨by rw[mE];simp,none,h2⟩⟩
  ·exact hr
 ·exact hr
theorem wX {F:Nat→Prop}{ρ:xC}{h:Nat→qA}{w:World}(hh:kA F ρ h w):∀(bs:List Bool) (vs:List V) (us:List Value),mA ρ (av F (fA ρ h)) w vs us→mA ρ (av F (fA ρ h)) w (yJ h bs vs) us
 |true::bs,v::r,[],hr=>by simp only[mA]at hr
 |true::bs,v::r,u::us,hr=>by simp only[mA,yJ]at hr⊢;exact⟨Mx hh hr.1,wX hh bs r us hr.2⟩
 |false::bs,v::r,[],hr=>by simp only[mA]at hr
 |false::bs,v::r,u::us,hr=>by simp only[mA,yJ]at hr⊢;exact⟨hr.1,wX hh bs r us hr.2⟩
 | [],vs,us,hr=>by simpa only[yJ]using hr
 |_::_,[],us,hr=>by simpa only[yJ]using hr
theorem lA.of_asSl {P:Program}{f:Nat}{fl:List Bool}{args:List V}{bs:List qA}{v:V}{bs':List qA}(h:lA P f (yJ (rA bs) fl args) bs v bs'):lA P f args bs v bs':=
 ⟨h.callable,fun F ρ w args' hH hn hb hl hr=>h.calls F ρ w args' hH hn hb hl (wX hH fl args args' hr)⟩
theorem mT.kill {F:Nat→Prop}{ρ:xC}{bs:List qA}{w:World}{v:V}{bs':List qA}{v':Value}{w':World}(h:mT F ρ bs w v bs' v' w'):mT F ρ bs w v (List.replicate bs'.length .dead) v' w':=by
 obtain⟨ρ',v1,h1,g1,h2,g2,g3,g4,g5,h3,h4,h5⟩:=h;have hdd:∀id,rA (List.replicate bs'.length qA.dead) id= .dead:=fun id=>by rw[eC,iA,List.getElem?_replicate];split<;>rfl
 have hd:∀id,¬(rA (List.replicate bs'.length qA.dead) id).live:=fun id hl=>by rw[hdd]at hl;exact hl
 have hM:∀b,fA ρ' (rA (List.replicate bs'.length qA.dead)) b→fA ρ' v1 b:=by rintro b ⟨id,n,C,_,hl⟩;exact absurd hl (hd id)
 exact⟨ρ',rA (List.replicate bs'.length qA.dead),h1,g1,fun id hid=>h2 id (by simpa using hid),g2,by simpa using g3,fun g hg hl=>absurd hl (hd g),⟨_,fC.flat (fun j=>by rw[hdd];rfl) (fun j _=>hdd j)⟩,
  ⟨h3.wf,fun id hl=>absurd hl (hd id),fun i j b n C n' C' hi=>absurd hi (hd i),h3.low,fun b hb=>h3.out b (hM b hb)⟩,oA.avoid (fun b hb=>hb.imp id (hM b)) _ _ h4,⟨h5.size,h5.same,fun b hb=>h5.sub b (hM b hb),h5.keeps⟩⟩
theorem Lw {P:Program}{fn:Func}{E:yC}(hE:dB P E)(hmix:P.follows .mixedOrders=true)(hres:E.res=fn.results.toList){d:Nat}{b:Code}{hd:cE}(hcut:eA P fn E (jA b)){R:Type}{n:Nat}{vs:List V}{H:List qA}{k:Ex→St→Option R}{r:R}
  (h:aN E.nb hd (fun c s k=>kB E d c s k) b n b vs H k=some r):Rc P fn E (.scope b) ⟨iE hd.keep vs,H⟩ k r:=
 fun S a w hnb hI=>wN n (kY (f:=fun c s k=>kB E d c s k) (body:=b) (fun c hc=>aU hE hmix hres d c (fun x hx=>hcut x (hc x hx))) n b vs H k r (fun _ hx=>hx) h S a w hnb hI)
theorem vD {P:Program}{fn:Func}{E:yC}(hE:dB P E)(hmix:P.follows .mixedOrders=true)(d:Nat){b:Code}{c:tK}{h:cE}(hcut:eA P fn E (jA b))
  (H:∀(R:Type) vs Hh (k:Ex→St→Option R) r,c.run vs Hh k=some r→∃n,vB E.nb h (fun s k=>kB E d b s k) n vs Hh k=some r)(e1:E.cut (qF b)=some c:=by kernel_rfl)(e2:E.hint (qF b)=some h:=by kernel_rfl)(hres:E.res=fn.results.toList:=by kernel_rfl):qC P fn E (.loop b):=fun e hd he hh R vs Hh k r hr=>by
 rw[e1]at he;rw[e2]at hh;cases he;cases hh;obtain⟨n,hn⟩:=H R vs Hh k r hr;exact xp (aU hE hmix hres d b hcut) hn
def bo (f:Func):Code:=f.body.getD .skip
theorem vA {P:Program}{E:yC}{fn:Func}{n:Nat}{A:Type}(hE:dB P E)(hmix:P.follows .mixedOrders=true)(hf:P.funcs[n]?=some fn)(hcut:eA P fn E (jA (bo fn))){args:List V}{bs:List qA}{dec:V→List qA→Option A}{r:A}
  (h:eB E (bo fn) args bs dec=some r){v0:V}{b0:List qA}(hd:∀v bs',dec v bs'=some r→v=v0∧bs'=b0)(h1:fn.body=some (bo fn):=by kernel_rfl)(h2:(fn.name== "runtime.NumGoroutine")=false:=by kernel_rfl)(h3:E.ntmps=fn.ntmps:=by kernel_rfl)(h4:E.nb=bs.length:=by kernel_rfl)
  (h5:Nat.ble args.length fn.ntmps=true:=by kernel_rfl)(hres:E.res=fn.results.toList:=by kernel_rfl):lA P n args bs v0 b0:=
 (mw hE hmix hf h1 h2 hres h3 h4 (Nat.le_of_ble_eq_true h5) hcut h).of hd
def pF (A:Type)(fresh:Nat)(imm:List Bool)(ss:List Sh)(qM:List V→Option (Option A×(A→vu))):yA:=
 {A:=A,fresh:=fresh,imm:=imm,dec:=fun args bs=>match uH 0 (fun _=>.dead) ss args,bs with
  |some a,[]=>qM a
  |_,_=>none}
theorem zA {P:Program}{f:Nat}{A:Type}{fresh:Nat}{imm:List Bool}{ss:List Sh}{qM:List V→Option (Option A×(A→vu))}(H:∀args a enc,qM args=some (some a,enc)→lA P f args [] (enc a).pick.1 (enc a).pick.2):uA P f (pF A fresh imm ss qM):=by
 intro args bs a enc h;simp only[pF]at h;split at h
 ·rename_i hz;exact lA.of_freeze hz (H _ _ _ h)
 ·cases h
theorem lC {A:Type}{x:Option A}{g enc:A→vu}{a:A}{Q:(A→vu)→Prop}(h:some (x,g)=some (some a,enc))(H:x=some a→Q g):Q enc:=by
 have h0:=Option.some.inj h;have h1:=congrArg Prod.fst h0;have h2:=congrArg Prod.snd h0;dsimp only at h1 h2;subst h2;exact H h1
def dF (ty:List (Nat×TI))(tab:List (Nat×yA))(hint:List (Nat×cE))(cut:List (Nat×tK))(N:Nat)(res:List ResultVar)(rsh:List Sh)(nb ntmps:Nat)(own:Bool:=false)(bsh:List (Nat×List Sh):=[])(keep:Bool:=false):yC:=
 {ty:=jM ty,tab:=jM tab,hint:=jM hint,cut:=jM cut,N:=N,res:=res,rsh:=rsh,nb:=nb,ntmps:=ntmps,own:=own,bsh:=bsh,keep:=keep}
def Qo:yA:={A:=Unit,fresh:=1,imm:=[],dec:=fun _ _=>none}
theorem Dp {P:Program}{f:Nat}:uA P f Qo:=fun _ _ _ _ h=>by cases h
theorem eA.n {P:Program}{fn:Func}{E:yC}{l:List Code}(h:l=[]:=by kernel_rfl):eA P fn E l:=eA.of h eA.nil
end Go.Proofs.YteaakcmkpacpaaaGreat.Ev
