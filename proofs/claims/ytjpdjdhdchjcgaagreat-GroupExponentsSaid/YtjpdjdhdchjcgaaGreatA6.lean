import Derived.Test.YtjpdjdhdchjcgaaGreatA5
open Option renaming bind_some→iA
open Int renaming toNat_natCast→zA,natCast_zero→pC,natCast_one→o0,tmod_eq_emod_of_nonneg→y0,natCast_mul→f2
open List renaming getD_eq_getElem?_getD→iB,getElem?_eq_getElem→zB,drop_eq_getElem_cons→cD,getElem_mem→aE,length_map→hE,length_cons→zE,getElem_of_mem→hI,take_of_length_le→xK,take_succ_cons→yK,length_eq_zero_iff→hR,length_append→sS,drop_eq_nil_of_le→hT,take_add_one→hU,drop_zero→hW,mem_cons_of_mem→hX,set_cons_zero→d0,take_zero→g0,getElem_cons_succ→l0,set_append_right→n0,map_append→p0,mem_append_left→q0,reverse_reverse→s0,mem_map_of_mem→u0,mem_singleton→v0,mem_cons→d1,pairwise_iff_getElem→f1,mem_range→f3,take_append_drop→t3,mem_of_mem_drop→v3,getD_cons_zero→z3,length_reverse→a4,mem_map→d4
open Nat renaming le_of_dvd→hH,min_eq_right→iX,le_refl→a0,mul_le_mul_left→b0,min_eq_left→c0,mul_succ→f0,le_mul_of_pos_right→i0,mul_left_comm→j0,mul_assoc→m0,lt_of_le_of_lt→w0,mul_comm→d2,mod_eq_zero_of_dvd→d3,div_lt_of_lt_mul→x3,sub_self→f4
set_option linter.unusedVariables false
set_option linter.unusedSimpArgs false
namespace Go.Proofs.YtjpdjdhdchjcgaaGreat.Srt
open Go Go.Proofs.YtjpdjdhdchjcgaaGreat.Ev
open Go.Proofs.YtjpdjdhdchjcgaaGreat.Pure (cA nW)
open Go.Proofs.YtjpdjdhdchjcgaaGreat.Grp (wU cE)
theorem mh {N:Nat}(hN:2000010<N){n:Nat}(hn:n≤1000000){a m b:Nat}{f:Nat→R4}(hf:Bd f)(ham:a<m)(hmb:m<b)(hbn:b≤n)(h1:Dn f a m)(h2:Dn f m b):
  ∃f',Q123.f N (a:Int) (m:Int) (b:Int) (F f n)=some (F f' n)∧Mv n f f' a b∧Dn f' a b:=Cf hN hn N a m b f hf ham hmb hbn h1 h2 (by omega)
def Bl (f:Nat→R4)(s n:Nat):Prop:=∀k,Dn f (s*k) (min (s*k+s) n)
theorem I0 {N:Nat}(hN:2000010<N){n:Nat}(hn:n≤1000000){R:Type}(K:Int→Int→Int→List Int→Option R):∀(q t:Nat) (f:Nat→R4),Bd f→20*t≤n→n-20*t<q→(∀k,k<t→Dn f (20*k) (20*k+20))→
  ∃f' t',Q124.l2 N q (n:Int) 20 ((20*t:Nat):Int) ((20*t+20:Nat):Int) (F f n) K=K (n:Int) 20 ((20*t':Nat):Int) (F f' n)∧Mv n f f' 0 n∧20*t'≤n∧n<20*t'+20∧∀k,k<t'→Dn f' (20*k) (20*k+20)
 |0,t,f,_,_,h,_=>by omega
 |q+1,t,f,hf,ht,hq,hd=>by
  rw[Q124.l2];by_cases hle:20*t+20≤n
  ·rw[ct (decide_eq_true (show((20*t+20:Nat):Int)≤(n:Int) by omega))];obtain⟨g,g1,g2,g3⟩:=jr (N:=N) (by omega) (a:=20*t) hle hn (by omega) hf;rw[g1];simp only[iA];have e1:aA (((20*t+20:Nat):Int)+20)=((20*(t+1)+20:Nat):Int):=by rw[cA (by omega) (by omega)];omega
   have e2:((20*t+20:Nat):Int)=((20*(t+1):Nat):Int):=by omega
   rw[e1,e2];obtain⟨f',t',r1,r2,r3⟩:=I0 hN hn K q (t+1) g (g2.bd hf) (by omega) (by omega) (fun k hk=>by
    by_cases e:k=t
    ·subst e;exact g3
    ·exact(hd k (by omega)).same fun i q1 q2=>g2.out i (by omega))
   exact⟨f',t',r1,(g2.mono (by omega) hle).trans r2,r3⟩
  ·rw[cf (decide_eq_false (show ¬((20*t+20:Nat):Int)≤(n:Int) by omega))];exact⟨f,t,rfl,Mv.refl _ _ _ _,ht,by omega,hd⟩
theorem I1 {N:Nat}(hN:2000010<N){n s:Nat}(hn:n≤1000000)(hs:0<s)(hsn:s<n){R:Type}(K:Int→Int→Int→List Int→Option R):∀(q t:Nat) (f:Nat→R4),Bd f→2*s*t≤n→n-2*s*t<q→(∀k,k<t→Dn f (2*s*k) (2*s*k+2*s))→(∀k,2*t≤k→Dn f (s*k) (min (s*k+s) n))→
  ∃f' t',Q124.l9 N q (n:Int) (s:Int) ((2*s*t:Nat):Int) ((2*s*t+2*s:Nat):Int) (F f n) K=K (n:Int) (s:Int) ((2*s*t':Nat):Int) (F f' n)∧Mv n f f' 0 n∧2*s*t'≤n∧n<2*s*t'+2*s∧(∀k,k<t'→Dn f' (2*s*k) (2*s*k+2*s))∧(∀k,2*t'≤k→Dn f' (s*k) (min (s*k+s) n))
 |0,t,f,_,_,h,_,_=>by omega
 |q+1,t,f,hf,ht,hq,hd,hd2=>by
  rw[Q124.l9];have m1:2*s*(t+1)=2*s*t+2*s:=f0 _ _;have m2:s*(2*t)=2*s*t:=by rw[j0,m0]
  have m3:s*(2*t+1)=2*s*t+s:=by rw[f0,m2]
  by_cases hle:2*s*t+2*s≤n
  ·rw[ct (decide_eq_true (show((2*s*t+2*s:Nat):Int)≤(n:Int) by omega)),fW (by omega)];have b1:=hd2 (2*t) (a0 _);have b2:=hd2 (2*t+1) (by omega);rw[m2,c0 (by omega)]at b1;rw[m3,c0 (by omega)]at b2;obtain⟨g,g1,g2,g3⟩:=mh hN hn hf (a:=2*s*t) (m:=2*s*t+s) (b:=2*s*t+2*s) (by omega) (by omega) hle b1 (by rw[show 2*s*t+2*s=2*s*t+s+s by omega];exact b2);rw[g1];simp only[iA];have e0:aA (2*(s:Int))=((2*s:Nat):Int):=by rw[cA (by omega) (by omega)];omega
   have e1:aA (((2*s*t+2*s:Nat):Int)+((2*s:Nat):Int))=((2*s*(t+1)+2*s:Nat):Int):=by rw[fW (by omega),m1]
   rw[e0,e1,show((2*s*t+2*s:Nat):Int)=((2*s*(t+1):Nat):Int) by rw[m1]];obtain⟨f',t',r1,r2,r3⟩:=I1 hN hn hs hsn K q (t+1) g (g2.bd hf) (by omega) (by omega) (fun k hk=>by
    by_cases e:k=t
    ·subst e;exact g3
    ·have:2*s*k+2*s≤2*s*t:=by rw[←f0];exact b0 _ (by omega)
     exact(hd k (by omega)).same fun i q1 q2=>g2.out i (by omega))
    (fun k hk=>by
     have:2*s*t+2*s≤s*k:=by have:=b0 s (show 2*(t+1)≤k by omega);rw[j0,←m0,m1]at this;exact this
     exact(hd2 k (by omega)).same fun i q1 q2=>g2.out i (by omega))
   exact⟨f',t',r1,(g2.mono (by omega) hle).trans r2,r3⟩
  ·rw[cf (decide_eq_false (show ¬((2*s*t+2*s:Nat):Int)≤(n:Int) by omega))];exact⟨f,t,rfl,Mv.refl _ _ _ _,ht,by omega,hd,hd2⟩
theorem Ho {N:Nat}(hN:2000010<N){n:Nat}(hn:n≤1000000){R:Type}(K:List Int→Option R):∀(q s:Nat) (f:Nat→R4),Bd f→0<s→s≤4000000→n-s<q→Bl f s n→
  ∃f',Q124.l7 N q (n:Int) (s:Int) (F f n) K=K (F f' n)∧Mv n f f' 0 n∧Dn f' 0 n
 |0,s,f,_,_,_,h,_=>by omega
 |q+1,s,f,hf,hs,hs2,hq,hd=>by
  rw[Q124.l7,vF];by_cases hlt:s<n
  ·rw[ct (decide_eq_true hlt)];have e0:aA (2*(s:Int))=((2*s*0+2*s:Nat):Int):=by rw[cA (by omega) (by omega)];omega
   have e3:aA ((s:Int)*2)=((2*s:Nat):Int):=by rw[cA (by omega) (by omega)];omega
   obtain⟨g,t,g1,g2,g3,g4,g5,g6⟩:=I1 hN hn hs hlt (fun y31 y32 y33 y34=>bif decide ((aA (y33+y32))<y31)then(Q123.f N y33 (aA (y33+y32)) y31 y34).bind fun r35=>Q124.l7 N q y31 (aA (y32*2)) r35 K else Q124.l7 N q y31 (aA (y32*2)) y34 K) N 0 f hf (by omega) (by omega) (fun k hk=>by omega) (fun k hk=>hd k);have z:((2*s*0:Nat):Int)=0:=by rw[Nat.mul_zero];rfl
   rw[z]at g1;rw[e0,g1,fW (by omega),vF,e3];have m2:s*(2*t)=2*s*t:=by rw[j0,m0]
   have m3:s*(2*t+1)=2*s*t+s:=by rw[f0,m2]
   have b1:=g6 (2*t) (a0 _);have b2:=g6 (2*t+1) (by omega);rw[m2]at b1;rw[m3]at b2;have fin:∀h:Nat→R4,Mv n g h (2*s*t) n→Dn h (2*s*t) n→Bl h (2*s) n:=fun h h1 h2 k=>by
    rcases Nat.lt_trichotomy k t with hk|hk|hk
    ·have hle:2*s*k+2*s≤2*s*t:=by rw[←f0];exact b0 _ (by omega)
     have:=g5 k hk;rw[c0 (by omega)];exact this.same fun i q1 q2=>h1.out i (by omega)
    ·subst hk;rw[iX (by omega)];exact h2
    ·have hle:2*s*t+2*s≤2*s*k:=by rw[←f0];exact b0 _ (by omega)
     intro i j q1 q2 q3;omega
   by_cases hc:2*s*t+s<n
   ·rw[ct (decide_eq_true hc)];rw[c0 (by omega)]at b1;rw[iX (by omega)]at b2;obtain⟨h,h1,h2,h3⟩:=mh hN hn (g2.bd hf) (a:=2*s*t) (m:=2*s*t+s) (b:=n) (by omega) hc (a0 _) b1 b2;rw[h1];simp only[iA];obtain⟨f',r1,r2,r3⟩:=Ho hN hn K q (2*s) h (h2.bd (g2.bd hf)) (by omega) (by omega) (by omega) (fin h h2 h3);exact⟨f',r1,(g2.trans (h2.mono (by omega) (by omega))).trans r2,r3⟩
   ·rw[cf (decide_eq_false hc)];rw[iX (by omega)]at b1;obtain⟨f',r1,r2,r3⟩:=Ho hN hn K q (2*s) g (g2.bd hf) (by omega) (by omega) (by omega) (fin g (Mv.refl _ _ _ _) b1);exact⟨f',r1,g2.trans r2,r3⟩
  ·rw[cf (decide_eq_false hlt)];refine⟨f,rfl,Mv.refl _ _ _ _,?_⟩;have:=hd 0;rw[Nat.mul_zero,iX (by omega)]at this;exact this
theorem mc {N:Nat}(hN:2000010<N){n:Nat}(hn:n≤1000000){f:Nat→R4}(hf:Bd f):∃f',Q124.f N (n:Int) (F f n)=some (F f' n)∧Mv n f f' 0 n∧Dn f' 0 n:=by
 unfold Q124.f;obtain⟨g,t,g1,g2,g3,g4,g5⟩:=I0 hN hn (fun y13 y14 y15 y16=>(Q122.f N y15 y13 y16).bind fun r17=>Q124.l7 N N y13 y14 r17 (fun y37=>some y37)) N 0 f hf (by omega) (by omega) (fun k hk=>by omega);have g1':Q124.l2 N N (n:Int) 20 0 20 (F f n) _=_:=g1;rw[g1'];obtain⟨h,h1,h2,h3⟩:=jr (N:=N) (by omega) (a:=20*t) (b:=n) (a0 _) hn (by omega) (g2.bd hf);rw[h1];simp only[iA];obtain⟨f',r1,r2,r3⟩:=Ho hN hn (fun y37=>some y37) N 20 h (h2.bd (g2.bd hf)) (by omega) (by omega) (by omega) (fun k=>by
  rcases Nat.lt_trichotomy k t with hk|hk|hk
  ·rw[c0 (by omega)];exact(g5 k hk).same fun i q1 q2=>h2.out i (by omega)
  ·subst hk;rw[iX (by omega)];exact h3
  ·intro i j q1 q2 q3;omega)
 exact⟨f',r1,(g2.trans (h2.mono (by omega) (by omega))).trans r2,r3⟩
theorem sU {N:Nat}(hN:2000010<N){l:List R4}(hl:l.length≤1000000)(hb:∀x∈l,0≤nn x∧nn x≤1000000):
  ∃l':List R4,Q125.f N (uB l)=some (uB l')∧l'.Perm l∧l'.Pairwise (fun a b=>nn b≤nn a):=by
 have hf:Bd (fun i=>l.getD i (0,0,0,0)):=fun i=>by
  by_cases h:i<l.length
  ·have:l.getD i (0,0,0,0)=l[i]:=by simp[iB,h]
   simp only[this];exact hb _ (aE h)
  ·have:l.getD i (0,0,0,0)=(0,0,0,0):=by simp[iB,List.getElem?_eq_none (Nat.le_of_not_lt h)]
   simp only[this];decide
 obtain⟨f',h1,h2,h3⟩:=mc hN hl hf;have e:F (fun i=>l.getD i (0,0,0,0)) l.length=uB l:=by rw[F,qt]
 have e4:((uB l).length/4:Int)=(l.length:Int):=by rw[uF];omega
 have hp:=h2.perm;rw[qt]at hp;refine⟨tab f' l.length,?_,hp,?_⟩
 ·unfold Q125.f;rw[e4,←e,h1];rfl
 ·unfold tab;rw[List.pairwise_map];refine List.pairwise_lt_range.imp_of_mem fun{a b} ha hb hlt=>?_;exact h3 a b (by omega) (by omega) (f3.mp hb)
theorem kz {N:Nat}{n:Nat}(hn:n≤1000000){R:Type}(K:List Int→Option R):∀(q i j:Nat) (f:Nat→R4),i+j+1=n→i≤j+1→j+1-i<q→
  Q126.l1 N q (i:Int) (j:Int) (F f n) K=K (F (fun k=>if i≤k∧k≤j then f (n-1-k)else f k) n)
 |0,i,j,f,_,_,h=>by omega
 |q+1,i,j,f,h1,h2,hq=>by
  rw[Q126.l1,vF];by_cases hlt:i<j
  ·rw[ct (decide_eq_true hlt),ct (vI f (by omega)),ct (vI f (by omega)),ct (vI f (by omega))];rw[ct (by simp only[List.length_set];exact vI f (by omega))];simp only[zA];rw[ip f (by omega) (by omega),cE (by omega),bJ (by omega) (by omega),kz hn K q (i+1) (j-1) _ (by omega) (by omega) (by omega)];have e:(fun k=>if i+1≤k∧k≤j-1 then br f i j (n-1-k)else br f i j k)=fun k=>if i≤k∧k≤j then f (n-1-k)else f k:=by
    funext k;simp only[mG]
    repeat' split
    all_goals first|rfl|(exfalso;omega)|(exact absurd trivial (by assumption))|(congr 1;omega)
   rw[e]
  ·rw[cf (decide_eq_false hlt)];have e:(fun k=>if i≤k∧k≤j then f (n-1-k)else f k)=f:=by
    funext k
    repeat' split
    all_goals first|rfl|(exfalso;omega)|(congr 1;omega)
   rw[e]
theorem vN {N:Nat}(hN:1000010<N){l:List R4}(hl:l.length≤1000000):Q126.f N (uB l)=some (uB l.reverse):=by
 unfold Q126.f;have e:F (fun i=>l.getD i (0,0,0,0)) l.length=uB l:=by rw[F,qt]
 have e4:((uB l).length/4:Int)=(l.length:Int):=by rw[uF];omega
 rw[e4];cases hc:l.length with
 |zero=>
  have:l=[]:=hR.mp hc;subst this;have:∃N',N=N'+1:=⟨N-1,by omega⟩
  obtain⟨N',rfl⟩:=this;rfl
 |succ n=>
  have hw:aA (((n+1:Nat):Int)-1)=(n:Int):=by rw[cA (by omega) (by omega)];omega
  rw[hw,←e,hc];have:=kz (N:=N) (n:=n+1) (by omega) (fun y6=>some y6) N 0 n (fun i=>l.getD i (0,0,0,0)) (by omega) (by omega) (by omega);rw[pC]at this;rw[this,F];congr 2;apply List.ext_getElem
  ·rw[cT,a4,hc]
  ·intro k k1 k2;rw[cT]at k1;simp only[tab,List.getElem_map,List.getElem_range,List.getElem_reverse];rw[if_pos (by omega)];simp only[iB];rw[zB (by omega)];simp only[Option.getD_some];congr 1;omega
end Go.Proofs.YtjpdjdhdchjcgaaGreat.Srt
namespace Go.Proofs.YtjpdjdhdchjcgaaGreat.Grp
section
open Go Go.Proofs.YtjpdjdhdchjcgaaGreat.Ev
open Go.Proofs.YtjpdjdhdchjcgaaGreat.Pure (cA)
open Go.Proofs.YtjpdjdhdchjcgaaGreat.Cls (fF vJ oM dK eH iI)
open Go.Proofs.YtjpdjdhdchjcgaaGreat.Srt (R4 uB uJ uF eK ct cf zF vF bJ)
variable {d:Int}
def key (z:K d):List Int:=[z.1.1,z.1.2.1,z.1.2.2]
theorem fd {x y:K d}(h:key x=key y):x=y:=by
 simp only[key,List.cons.injEq,and_true]at h;exact(Ep x y).mp (by rw[h.1,h.2.1,h.2.2];simp)
structure Mp (S:K d→Prop)(W:K d→Int→Prop)(ks:List (List Int))(vs:List Int):Prop where
 nd:ks.Nodup
 len:vs.length=ks.length
 sound:∀i (h:i<ks.length),∃z:K d,ks[i]=key z∧S z∧W z (vs.getD i 0)
 full:∀z,S z→key z∈ks
theorem Mp.congr {S S':K d→Prop}{W W':K d→Int→Prop}{ks:List (List Int)}{vs:List Int}(h:Mp S W ks vs)(hs:∀z,S z↔S' z)(hw:∀z v,W z v→W' z v):Mp S' W' ks vs:=
 ⟨h.nd,h.len,fun i hi=>by obtain⟨z,a,b,c⟩:=h.sound i hi;exact⟨z,a,(hs z).mp b,hw _ _ c⟩,fun z hz=>h.full z ((hs z).mpr hz)⟩
theorem Mp.nil {S:K d→Prop}{W:K d→Int→Prop}(hs:∀z,¬S z):Mp S W [] []:=⟨List.nodup_nil,rfl,fun i h=>by simp at h,fun z hz=>absurd hz (hs z)⟩
theorem fh {l:List Int}{ks:List (List Int)}{j:Nat}(h:vE l ks 0=some j):∃hj:j<ks.length,ks[j]=l:=by
 obtain⟨_,h2⟩:=oM l ks 0 j h;rw[Nat.sub_zero]at h2;exact List.getElem?_eq_some_iff.mp h2
theorem Mp.get {S:K d→Prop}{W:K d→Int→Prop}{ks:List (List Int)}{vs:List Int}(h:Mp S W ks vs)(z:K d):(S z∧W z (rE (key z) ks vs))∨(¬S z∧rE (key z) ks vs=0):=by
 unfold rE;cases hm:vE (key z) ks 0 with
 |none=>exact .inr ⟨fun hs=>vJ _ _ _ hm (h.full z hs),rfl⟩
 |some j=>obtain⟨hj,e⟩:=fh hm;obtain⟨z',a,b,c⟩:=h.sound j hj;have:z=z':=fd (e.symm.trans a);subst this;exact .inl ⟨b,c⟩
theorem Mp.put {S:K d→Prop}{W:K d→Int→Prop}{ks:List (List Int)}{vs:List Int}(h:Mp S W ks vs)(z:K d){v:Int}(hv:W z v):Mp (fun y=>S y∨y=z) W (vB (key z) ks) (eG (key z) v ks vs):=by
 unfold vB cQ eG;cases hm:vE (key z) ks 0 with
 |none=>
  have hn:=vJ _ _ _ hm;simp only[Option.isSome_none,cond_false];refine⟨?_,by simp[h.len],fun i hi=>?_,fun y hy=>?_⟩
  ·rw[List.nodup_append];exact⟨h.nd,by simp,fun a ha b hb=>by simp only[v0]at hb;subst hb;exact fun e=>hn (e▸ha)⟩
  ·simp only[sS,List.length_singleton]at hi;by_cases hlt:i<ks.length
   ·obtain⟨y,a,b,c⟩:=h.sound i hlt;refine⟨y,by rw[List.getElem_append_left hlt];exact a,.inl b,?_⟩;rw[iB,List.getElem?_append_left (by rw[h.len];exact hlt),←iB];exact c
   ·have:i=ks.length:=by omega
    subst this;refine⟨z,by simp,.inr rfl,?_⟩;rw[iB,List.getElem?_append_right (by rw[h.len];exact a0 _),h.len];simpa using hv
  ·rcases hy with hy|rfl
   ·exact q0 _ (h.full y hy)
   ·simp
 |some j=>
  obtain⟨hj,e⟩:=fh hm;simp only[Option.isSome_some,cond_true];refine⟨h.nd,by simp[h.len],fun i hi=>?_,fun y hy=>?_⟩
  ·obtain⟨y,a,b,c⟩:=h.sound i hi;by_cases hij:j=i
   ·subst hij;have:z=y:=fd (e.symm.trans a);subst this;refine⟨z,a,.inl b,?_⟩;rw[iB,List.getElem?_set_self (by rw[h.len];exact hj)];exact hv
   ·refine⟨y,a,.inl b,?_⟩;rw[iB,List.getElem?_set_ne hij,←iB];exact c
  ·rcases hy with hy|rfl
   ·exact h.full y hy
   ·rw[←e];exact aE hj
theorem Mp.keys {S:K d→Prop}{W:K d→Int→Prop}{ks:List (List Int)}{vs:List Int}(h:Mp S W ks vs){L:List (K d)}(hL:nf L):ks.length≤L.length:=by
 have:=List.Nodup.length_le_of_subset (l₂:=L.map key) h.nd (fun r hr=>by obtain⟨i,hi,rfl⟩:=hI hr;obtain⟨z,a,_⟩:=h.sound i hi;rw[a];exact u0 (hL.all z));simpa using this
theorem tb {k:List Int}{ks:List (List Int)}{vs:List Int}(hl:vs.length=ks.length)(x y:Int):(eG k x ks (List.take (List.length ks) vs)).set ((eE k ks).toNat) y=eG k y ks vs:=by
 rw[xK (by omega)];unfold eG eE;cases hm:vE k ks 0 with
 |none=>simp[←hl]
 |some j=>simp
theorem me {k:List Int}{ks:List (List Int)}:((decide (0≤(eE k ks)))&&(decide ((eE k ks)<((vB k ks).length:Int))))=true:=by
 unfold eE vB cQ;cases hm:vE k ks 0 with
 |none=>simp;omega
 |some j=>obtain⟨hj,_⟩:=fh hm;simp;omega
def cF (g:K d×Nat):R4:=(g.1.1.1,g.1.1.2.1,g.1.1.2.2,(g.2:Int))
theorem yT {L:List (K d)}{i:Nat}(h:i<L.length):(dB (L.map (·.1))).getD (i*3) 0=L[i].1.1∧(dB (L.map (·.1))).getD (i*3+1) 0=L[i].1.2.1∧(dB (L.map (·.1))).getD (i*3+2) 0=L[i].1.2.2:=by
 have:=dK (R:=L.map (·.1)) (i:=i) (by simpa using h);simpa using this
theorem zT {L:List (K d×Nat)}{i:Nat}(h:i<L.length):(uB (L.map cF)).getD (i*4) 0=L[i].1.1.1∧(uB (L.map cF)).getD (i*4+1) 0=L[i].1.1.2.1∧(uB (L.map cF)).getD (i*4+2) 0=L[i].1.1.2.2∧(uB (L.map cF)).getD (i*4+3) 0=(L[i].2:Int):=by
 have:=eK (l:=L.map cF) (i:=i) (by simpa using h);simpa[cF]using this
theorem kG (L:List (K d)):((dB (L.map (·.1))).length/3:Int)=(L.length:Int):=by rw[eH];simp
theorem wE (L:List (K d×Nat)):((uB (L.map cF)).length/4:Int)=(L.length:Int):=by rw[uF];simp
theorem Ai (L:List (K d))(z:K d):dB (L.map (·.1))++[z.1.1,z.1.2.1,z.1.2.2]=dB ((L++[z]).map (·.1)):=by rw[p0,iJ];rfl
theorem gY (L:List (K d×Nat))(z:K d×Nat):uB (L.map cF)++[z.1.1.1,z.1.1.2.1,z.1.1.2.2,(z.2:Int)]=uB ((L++[z]).map cF):=by rw[p0,uJ];rfl
theorem G6 {L:List (K d)}(h:L.length≤2900000000000):fB (((dB (L.map (·.1))).length+3)/3) 24=true:=by
 rw[lF];simp only[fB,decide_eq_true_eq,hE];omega
theorem oK {L:List (K d×Nat)}(h:L.length≤2000000000000):fB (((uB (L.map cF)).length+4)/4) 32=true:=by
 rw[uF];simp only[fB,decide_eq_true_eq,hE];omega
theorem bZ {N:Nat}(hN:8589934600<N)(hd:fF d){L:List (K d)}(hL:nf L)(hb:L.length≤45000){size m:Nat}(hs:0<size)(hm:L.length=size*m){R:Type}(x8:List Int)(x10:Int)
  (K0:List Int→Int→Int→Int→Int→List (List Int)→List Int→Option R):∀(q i:Nat) (ks:List (List Int)) (vs:List Int),i≤L.length→L.length-i<q→
   Mp (fun z=>∃j,∃hj:j<L.length,j<i∧z=pw (dC hd) L[j] m) (fun z v=>∃n:Nat,v=n∧vV (dC hd) z n) ks vs→
   ∃ks' vs',Mp (fun z=>∃j,∃hj:j<L.length,z=pw (dC hd) L[j] m) (fun z v=>∃n:Nat,v=n∧vV (dC hd) z n) ks' vs'∧
    Q130.l3 N q x8 (L.length:Int) x10 (size:Int) (dB (L.map (·.1))) (L.length:Int) (i:Int) (one hd).1.1 (one hd).1.2.1 (one hd).1.2.2 ks vs K0=K0 x8 x10 (one hd).1.1 (one hd).1.2.1 (one hd).1.2.2 ks' vs'
 |0,i,ks,vs,_,h,_=>by omega
 |q+1,i,ks,vs,hi,hq,h=>by
  rw[Q130.l3,vF];by_cases hlt:i<L.length
  ·have i1:i+1≤L.length:=hlt;have i2:L.length- (i+1)<q:=by omega
   have i3:i<9223372036854775807:=by omega
   rw[ct (decide_eq_true hlt),kG,ct (zF hlt),ct (de hs)];obtain⟨e1,e2,e3⟩:=yT hlt;have hsl:size≤L.length:=by rw[hm];exact i0 _ (Nat.pos_of_ne_zero fun e=>by subst e;have:=hL.pos (dC hd);omega)
   have hdiv:L.length/size=m:=by rw[hm,Nat.mul_div_cancel_left _ hs]
   have hml:m≤L.length:=by rw[hm];exact Nat.le_mul_of_pos_left _ hs
   rw[mi,hdiv,wU (by omega)];simp only[zA,e1,e2,e3];rw[fP hN hd _ (by omega) (by omega)];simp only[iA,zA];generalize hz:pw (dC hd) L[i] m=z;have hz1:pw (dC hd) z size=(dC hd).one:=by rw[←hz,←zG,d2,←hm];exact rF hL _
   have step:∀{ks':List (List Int)} {vs':List Int},Mp (fun y=>(∃j,∃hj:j<L.length,j<i∧y=pw (dC hd) L[j] m)∨y=z) (fun z v=>∃n:Nat,v=n∧vV (dC hd) z n) ks' vs'→
     Mp (fun y=>∃j,∃hj:j<L.length,j<i+1∧y=pw (dC hd) L[j] m) (fun z v=>∃n:Nat,v=n∧vV (dC hd) z n) ks' vs':=fun{ks' vs'} hM=>hM.congr (fun y=>by
      constructor
      ·rintro(⟨j,hj,h1,h2⟩|rfl)
       ·exact⟨j,hj,by omega,h2⟩
       ·exact⟨i,hlt,by omega,hz.symm⟩
      ·rintro⟨j,hj,h1,h2⟩;by_cases e:j=i
       ·subst e;exact .inr (h2.trans hz)
       ·exact .inl ⟨j,hj,by omega,h2⟩) (fun _ _ h=>h)
   have hg:=h.get z;unfold key at hg;by_cases h0:rE [z.1.1,z.1.2.1,z.1.2.2] ks vs=0
   ·rw[ct (beq_iff_eq.mpr h0)];obtain⟨n,n1,n2,n3⟩:=aR hN hd z hs (by omega) hz1;rw[n3];simp only[iA];rw[cE i3];exact bZ hN hd hL hb hs hm x8 x10 K0 q (i+1) _ _ i1 i2 (step (h.put z ⟨n,rfl,n1⟩))
   ·rw[cf (beq_eq_false_iff_ne.mpr h0),cE i3];have hS:=(hg.resolve_right fun h1=>h0 h1.2).1;exact bZ hN hd hL hb hs hm x8 x10 K0 q (i+1) _ _ i1 i2 (step (h.congr (fun y=>⟨.inl,fun h=>h.elim id fun e=>e▸hS⟩) (fun _ _ h=>h)))
  ·rw[cf (decide_eq_false hlt)];refine⟨ks,vs,h.congr (fun z=>⟨fun⟨j,hj,_,e⟩=>⟨j,hj,e⟩,fun⟨j,hj,e⟩=>⟨j,hj,by omega,e⟩⟩) (fun _ _ h=>h),rfl⟩
theorem qU {N:Nat}(hd:fF d){L:List (K d)}(hb:L.length≤45000){S:K d→Prop}{ks:List (List Int)}{vs:List Int}(hM:Mp S (fun z v=>∃n:Nat,v=n∧vV (dC hd) z n) ks vs){R:Type}(x36 x40 x41 x42:Int)(K0:Int→Int→Int→Int→List Int→Option R):
  ∀(q i:Nat) (rs:List (K d×Nat)),i≤L.length→L.length-i<q→rs.length≤i→(∀r∈rs,S r.1∧1<r.2∧vV (dC hd) r.1 r.2)→(∀j (hj:j<L.length),j<i→S L[j]→L[j]≠(dC hd).one→∃n,(L[j],n)∈rs)→
   ∃rs':List (K d×Nat),rs'.length≤L.length∧(∀r∈rs',S r.1∧1<r.2∧vV (dC hd) r.1 r.2)∧(∀z∈L,S z→z≠(dC hd).one→∃n,(z,n)∈rs')∧
    Q130.l11 N q x36 (dB (L.map (·.1))) (L.length:Int) (i:Int) x40 x41 x42 ks vs (uB (rs.map cF)) K0=K0 x36 x40 x41 x42 (uB (rs'.map cF))
 |0,i,rs,_,h,_,_,_=>by omega
 |q+1,i,rs,hi,hq,hl,h1,h2=>by
  rw[Q130.l11,vF];by_cases hlt:i<L.length
  ·rw[ct (decide_eq_true hlt),kG,ct (zF hlt)];obtain⟨e1,e2,e3⟩:=yT hlt;simp only[zA,e1,e2,e3];have hg:=hM.get L[i];unfold key at hg;generalize hv:rE [L[i].1.1,L[i].1.2.1,L[i].1.2.2] ks vs=v at hg;by_cases hc:v>1
   ·rw[ct (decide_eq_true hc),ct (oK (by omega)),cE (by omega)];obtain⟨hS,n,rfl,hO⟩:=hg.resolve_right fun h=>by omega
    rw[gY rs (L[i],n)];refine qU hd hb hM x36 x40 x41 x42 K0 q (i+1) (rs++[(L[i],n)]) (by omega) (by omega) (by simp;omega) (fun r hr=>?_) (fun j hj hji hSj hne=>?_)
    ·simp only[List.mem_append,v0]at hr;rcases hr with hr|rfl
     ·exact h1 r hr
     ·exact⟨hS,by simp only;omega,hO⟩
    ·by_cases e:j=i
     ·subst e;exact⟨n,by simp⟩
     ·obtain⟨k,hk⟩:=h2 j hj (by omega) hSj hne;exact⟨k,q0 _ hk⟩
   ·rw[cf (decide_eq_false hc),cE (by omega)];refine qU hd hb hM x36 x40 x41 x42 K0 q (i+1) rs (by omega) (by omega) (by omega) h1 (fun j hj hji hSj hne=>?_);by_cases e:j=i
    ·subst e;exfalso;obtain⟨_,n,hn,hO⟩:=hg.resolve_right fun h=>h.1 hSj;have:n=1:=by have:=hO.1;omega
     subst this;have:=hO.kill;rw[sH]at this;exact hne this
    ·exact h2 j hj (by omega) hSj hne
  ·rw[cf (decide_eq_false hlt)];refine⟨rs,by omega,h1,fun z hz hS hne=>?_,rfl⟩;obtain⟨j,hj,rfl⟩:=hI hz;exact h2 j hj (by omega) hS hne
end
section
open Go Go.Proofs.YtjpdjdhdchjcgaaGreat.Ev
open Go.Proofs.YtjpdjdhdchjcgaaGreat.Pure (cA)
open Go.Proofs.YtjpdjdhdchjcgaaGreat.Cls (fF iI dK eH)
open Go.Proofs.YtjpdjdhdchjcgaaGreat.Srt (R4 uB uJ uF eK ct cf zF vF bJ)
variable {d:Int}
theorem tr {N:Nat}(hN:8589934600<N)(hd:fF d)(c:K d){n:Nat}(hn:n≤50000)(g:K d){R:Type}(x89 x91 x92:Int)(x93:List Int)(x94:List (List Int))(x95 x107:List Int)(x108:Nat)(x109:List Nat)(x110:Nat)
  (K0:Int→Int→Int→List Int→List (List Int)→List Int→Int→Int→Int→Int→List Int→List Int→Nat→List Nat→Nat→Option R):∀(q k:Nat) (Y:List (K d)),0<k→n-k<q→Y.length≤2500000000+k→
   ∃Y':List (K d),Y'.length=Y.length+(n-k)∧(∀z∈Y',z∈Y∨∃e,e<n∧z=mul hd g (pw (dC hd) c e))∧(∀z∈Y,z∈Y')∧(∀e,k≤e→e<n→mul hd g (pw (dC hd) c e)∈Y')∧
   Q130.l30 N q x89 (k:Int) x91 x92 x93 x94 x95 c.1.1 c.1.2.1 c.1.2.2 (n:Int) (dB (Y.map (·.1))) g.1.1 g.1.2.1 g.1.2.2 (pw (dC hd) c k).1.1 (pw (dC hd) c k).1.2.1 (pw (dC hd) c k).1.2.2 x107 x108 x109 x110 K0
    =K0 x89 x91 x92 x93 x94 x95 c.1.1 c.1.2.1 c.1.2.2 (n:Int) (dB (Y'.map (·.1))) x107 x108 x109 x110
 |0,k,Y,_,h,_=>by omega
 |q+1,k,Y,hk,hq,hY=>by
  rw[Q130.l30,vF];by_cases hlt:k<n
  ·rw[ct (decide_eq_true hlt),tK hN hd g];simp only[iA];rw[ct (G6 (by omega)),tK hN hd (pw (dC hd) c k) c,Ai,cE (by omega)];simp only[iA];obtain⟨Y',h1,h2,h3,h4,h5⟩:=tr hN hd c hn g x89 x91 x92 x93 x94 x95 x107 x108 x109 x110 K0 q (k+1) (Y++[mul hd g (pw (dC hd) c k)]) (by omega) (by omega) (by simp;omega);refine⟨Y',by rw[h1];simp;omega,fun z hz=>?_,fun z hz=>h3 z (q0 _ hz),fun e e1 e2=>?_,h5⟩
   ·rcases h2 z hz with h|h
    ·simp only[List.mem_append,v0]at h;rcases h with h|rfl
     ·exact .inl h
     ·exact .inr ⟨k,hlt,rfl⟩
    ·exact .inr h
   ·by_cases e3:e=k
    ·subst e3;exact h3 _ (by simp)
    ·exact h4 e (by omega) e2
  ·rw[cf (decide_eq_false hlt)];exact⟨Y,by omega,fun z hz=>.inl hz,fun z hz=>hz,fun e e1 e2=>by omega,rfl⟩
theorem ke {N:Nat}(hN:8589934600<N)(hd:fF d)(c:K d){n:Nat}(hn:n≤50000){S:K d→Prop}{W:K d→Int→Prop}{ks:List (List Int)}{vs:List Int}(hM:Mp S W ks vs)(hkl:ks.length≤45000){R:Type}(x65 x66 x67:Int)(x68 x76:List Int)(r:R)
  (K0:Int→Int→Int→List Int→List (List Int)→List Int→List Int→List Int→Option R)
  (hK:∀Y:List (K d),Y.length≤2500000000→(∀z∈Y,∃g e,S g∧e<n∧z=mul hd g (pw (dC hd) c e))→(∀g e,S g→1≤e→e<n→mul hd g (pw (dC hd) c e)∈Y)→K0 x65 x66 x67 x68 ks vs (dB (Y.map (·.1))) x76=some r):
  ∀(q:Nat) (rem:List Nat) (Y:List (K d)) (x79:Nat),(∀j∈rem,j<ks.length)→rem.length<q→Y.length+50000*rem.length≤2500000000→(∀z∈Y,∃g e,S g∧e<n∧z=mul hd g (pw (dC hd) c e))→
   (∀g e,S g→1≤e→e<n→mul hd g (pw (dC hd) c e)∈Y∨∃j∈rem,ks.getD j []=key g)→
   Q130.l27 N q x65 x66 x67 x68 ks vs c.1.1 c.1.2.1 c.1.2.2 (n:Int) (dB (Y.map (·.1))) x76 ks.length rem x79 K0=some r
 |0,rem,Y,x79,_,h,_,_,_=>by omega
 |q+1,rem,Y,x79,h1,h2,h3,h4,h5=>by
  rw[Q130.l27];have hb:Nat.beq ks.length ks.length=true:=by simp
  rw[ct hb];cases hr:rem with
  |nil=>subst hr;exact hK Y (by omega) h4 fun g e g1 g2 g3=>(h5 g e g1 g2 g3).resolve_right fun⟨j,hj,_⟩=>by cases hj
  |cons x0 r0=>
   rw[←hr,cf (show rem.isEmpty=false by rw[hr];rfl)];refine iI (by rw[hr];simp) fun p hp=>?_;have hg:rem.getD p 0=rem[p]:=by simp[iB,zB hp]
   have hj:=h1 rem[p] (aE hp);have hblt:Nat.blt rem[p] ks.length=true:=by simpa[Nat.blt_eq]using hj
   obtain⟨g,k1,k2,k3⟩:=hM.sound _ hj;have hkg:ks.getD rem[p] []=key g:=by simp[iB,zB hj,k1]
   have hlen:(rem.eraseIdx p).length+1=rem.length:=by rw[List.length_eraseIdx];simp[hp];omega
   rw[hg,ct (by rw[hb,hblt];rfl),hkg];simp only[key,z3,List.getD_cons_succ];have h1c:pw (dC hd) c 1=c:=sH c;obtain⟨Y',y1,y2,y3,y4,y5⟩:=tr hN hd c hn g x65 x66 x67 x68 ks vs x76 ks.length (rem.eraseIdx p) rem[p] (fun y128 y129 y130 y131 y132 y133 y134 y135 y136 y137 y138 y139 y140 y141 y142=>
      Q130.l27 N q y128 y129 y130 y131 y132 y133 y134 y135 y136 y137 y138 y139 y140 y141 y142 K0) N 1 Y (by omega) (by omega) (by omega)
   rw[h1c]at y5;refine y5.trans ?_;refine ke hN hd c hn hM hkl x65 x66 x67 x68 x76 r K0 hK q _ Y' _ (fun j hj=>h1 j (List.mem_of_mem_eraseIdx hj)) (by omega) (by omega) (fun z hz=>?_) (fun g' e g1 g2 g3=>?_)
   ·rcases y2 z hz with h|⟨e,e1,e2⟩
    ·exact h4 z h
    ·exact⟨g,e,k2,e1,e2⟩
   ·rcases h5 g' e g1 g2 g3 with h|⟨j,j1,j2⟩
    ·exact .inl (y3 _ h)
    ·by_cases he:j=rem[p]
     ·subst he;rw[hkg]at j2;have:g=g':=fd j2;subst this;exact .inl (y4 e g2 g3)
     ·refine .inr ⟨j,?_,j2⟩;have:=(Cls.yX rem p hp).mem_iff (a:=j);simp only[d1]at this;exact(this.mpr j1).resolve_left he
theorem aj {N:Nat}(hd:fF d){Y:List (K d)}(hY:Y.length≤2500000000){S:K d→Prop}{B:Int}(hB0:1≤B)(hB:B≤1000000000000000){R:Type}(x151 x152 x153:Int)(x156 x159:List Int)(K0:Int→Int→Int→List Int→List (List Int)→List Int→List Int→Option R):
  ∀(q i:Nat) (ks:List (List Int)) (vs:List Int),i≤Y.length→Y.length-i<q→Mp (fun z=>S z∨∃j,∃hj:j<Y.length,j<i∧z=Y[j]) (fun _ v=>1≤v∧v≤B+i) ks vs→
   ∃ks' vs',Mp (fun z=>S z∨z∈Y) (fun _ v=>1≤v∧v≤B+Y.length) ks' vs'∧Q130.l36 N q x151 x152 x153 (Y.length:Int) (i:Int) x156 ks vs x159 (dB (Y.map (·.1))) K0=K0 x151 x152 x153 x156 ks' vs' x159
 |0,i,ks,vs,_,h,_=>by omega
 |q+1,i,ks,vs,hi,hq,h=>by
  rw[Q130.l36,vF];by_cases hlt:i<Y.length
  ·have i1:i+1≤Y.length:=hlt;have i2:Y.length- (i+1)<q:=by omega
   have i3:i<9223372036854775807:=by omega
   rw[ct (decide_eq_true hlt),kG,ct (zF hlt)];obtain⟨e1,e2,e3⟩:=yT hlt;simp only[zA,e1,e2,e3];rw[ct me,tb h.len,cE i3];have hv:(1:Int)≤aA (rE [Y[i].1.1,Y[i].1.2.1,Y[i].1.2.2] ks vs+1)∧aA (rE [Y[i].1.1,Y[i].1.2.1,Y[i].1.2.2] ks vs+1)≤B+((i+1:Nat):Int):=by rcases h.get Y[i]with⟨_,g1⟩|⟨_,g1⟩<;>unfold key at g1<;>rw[cA (by omega) (by omega)]<;>omega
   have hw:=(h.congr (W':=fun _ v=>1≤v∧v≤B+((i+1:Nat):Int)) (fun _=>Iff.rfl) (fun z v hv=>⟨hv.1,by omega⟩)).put Y[i] (v:=aA (rE [Y[i].1.1,Y[i].1.2.1,Y[i].1.2.2] ks vs+1)) hv;exact aj hd hY hB0 hB x151 x152 x153 x156 x159 K0 q (i+1) _ _ i1 i2 (hw.congr (fun z=>by
    constructor
    ·rintro((h|⟨j,hj,h1,h2⟩)|rfl)
     ·exact .inl h
     ·exact .inr ⟨j,hj,by omega,h2⟩
     ·exact .inr ⟨i,hlt,by omega,rfl⟩
    ·rintro(h|⟨j,hj,h1,h2⟩)
     ·exact .inl (.inl h)
     ·by_cases e:j=i
      ·subst e;exact .inr h2
      ·exact .inl (.inr ⟨j,hj,by omega,h2⟩)) (fun _ _ h=>h))
  ·rw[cf (decide_eq_false hlt)];have:i=Y.length:=by omega
   subst this;refine⟨ks,vs,h.congr (fun z=>?_) (fun _ _ h=>h),rfl⟩;constructor
   ·rintro(h|⟨j,hj,_,rfl⟩)
    ·exact .inl h
    ·exact .inr (aE hj)
   ·rintro(h|h)
    ·exact .inl h
    ·obtain⟨j,hj,rfl⟩:=hI h;exact .inr ⟨j,hj,hj,rfl⟩
theorem ey {N:Nat}(hN:8589934600<N)(hd:fF d){L:List (K d)}(hL:nf L)(hb:L.length≤45000){p:Nat}(hp:1<p){rs:List (K d×Nat)}(hrs:rs.length≤45000)(hO:∀r∈rs,r.2≤50000∧vV (dC hd) r.1 r.2){R:Type}(r:R)(K0:List Int→Option R)
  (hK:K0 (uB ((gr (dC hd) p [] rs).map cF))=some r):∀(q i:Nat) (out:List (K d×Nat)) (ks:List (List Int)) (vs:List Int),i≤rs.length→rs.length-i<q→out.length≤i→gr (dC hd) p out (rs.drop i)=gr (dC hd) p [] rs→
   Mp (fun z=>In (dC hd) out z) (fun _ v=>1≤v∧v≤1+2500000000*(i:Int)) ks vs→Q130.l21 N q (p:Int) (rs.length:Int) (i:Int) (uB (out.map cF)) ks vs (uB (rs.map cF)) K0=some r
 |0,i,out,ks,vs,_,h,_,_,_=>by omega
 |q+1,i,out,ks,vs,hi,hq,ho,hgr,hM=>by
  rw[Q130.l21,vF];by_cases hlt:i<rs.length
  ·have i1:i+1≤rs.length:=hlt;have i2:rs.length- (i+1)<q:=by omega
   have i3:i<9223372036854775807:=by omega
   have ho1:out.length+1≤i+1:=by omega
   rw[ct (decide_eq_true hlt),wE,ct (zF hlt),ct (de (show 0<p by omega))];obtain⟨e1,e2,e3,e4⟩:=zT hlt;simp only[zA,e1,e2,e3,e4];obtain⟨o1,o2⟩:=hO _ (aE hlt);have o3:=o2.1;rw[cD hlt,gr]at hgr;generalize hc:rs[i]=c at*;have hdv:c.2/p≤50000:=Nat.le_trans (Nat.div_le_self _ _) o1;have hdv2:((c.2/p:Nat):Int)≤((50000:Nat):Int):=Int.ofNat_le.mpr hdv;rw[mi,wU (w0 hdv (by decide)),fP hN hd c.1 (Int.natCast_nonneg _) (Int.lt_of_le_of_lt hdv2 (by decide))];simp only[iA,zA];have hg:=hM.get (pw (dC hd) c.1 (c.2/p));unfold key at hg;by_cases hin:In (dC hd) out (pw (dC hd) c.1 (c.2/p))
   ·have hv:=(hg.resolve_right fun h=>h.1 hin).2.1;rw[ct (decide_eq_true (by omega)),cE i3];rw[if_pos hin]at hgr;exact ey hN hd hL hb hp hrs hO r K0 hK q (i+1) out ks vs i1 i2 (by omega) hgr (hM.congr (fun _=>Iff.rfl) (fun z v hv=>⟨hv.1,by omega⟩))
   ·have hv:=(hg.resolve_left fun h=>hin h.1).2;rw[if_neg hin]at hgr;rw[cf (decide_eq_false (by omega)),ct (oK (by omega)),gY];have hkl:=hM.keys hL;refine ke hN hd c.1 o1 hM (by omega) (p:Int) (rs.length:Int) (i:Int) _ _ r _ (fun Y y1 y2 y3=>?_) N (List.range ks.length) [] ks.length (fun j hj=>f3.mp hj) (by simp;omega) (by simp;omega) (fun z hz=>by cases hz) (fun g e g1 g2 g3=>.inr ?_)
    ·rw[kG];obtain⟨ks',vs',m1,m2⟩:=aj (N:=N) hd y1 (S:=fun z=>In (dC hd) out z) (B:=1+2500000000*(i:Int)) (by omega) (by omega) (p:Int) (rs.length:Int) (i:Int) (uB ((out++[c]).map cF)) (uB (rs.map cF)) (fun y168 y169 y170 y171 y172 y173 y174=>Q130.l21 N q y168 y169 (aA (y170+1)) y171 y172 y173 y174 K0) N 0 ks vs (by omega) (by omega)
      (hM.congr (fun z=>⟨.inl,fun h=>h.elim id fun⟨j,_,hj,_⟩=>by omega⟩) (fun z v hv=>⟨hv.1,by simpa using hv.2⟩))
     rw[pC]at m2;rw[m2,cE i3];refine ey hN hd hL hb hp hrs hO r K0 hK q (i+1) (out++[c]) ks' vs' i1 i2 (by simp;omega) hgr (m1.congr (fun z=>?_) (fun z v hv=>⟨hv.1,by omega⟩));rw[In.app_iff];constructor
     ·rintro(h|h)
      ·exact⟨z,0,h,((dC hd).mul_one z).symm⟩
      ·obtain⟨g,e,g1,g2,g3⟩:=y2 z h;exact⟨g,e,g1,g3⟩
     ·rintro⟨y,e,h1,rfl⟩;rw[←tN o2.kill];rcases Nat.eq_zero_or_pos (e%c.2)with h0|h0
      ·rw[h0];exact .inl (by rw[show pw (dC hd) c.1 0=(dC hd).one from rfl,(dC hd).mul_one];exact h1)
      ·exact .inr (y3 y (e%c.2) h1 h0 (Nat.mod_lt _ o3))
    ·obtain⟨j,hj,hk⟩:=hI (hM.full g g1);exact⟨j,f3.mpr hj,by simp[iB,zB hj,hk]⟩
  ·rw[cf (decide_eq_false hlt)];rw[hT (by omega),gr]at hgr;rw[hgr];exact hK
end
section
open Go Go.Proofs.YtjpdjdhdchjcgaaGreat.Ev
open Go.Proofs.YtjpdjdhdchjcgaaGreat.Pure (cA)
open Go.Proofs.YtjpdjdhdchjcgaaGreat.Cls (fF iI dK eH pR)
open Go.Proofs.YtjpdjdhdchjcgaaGreat.Srt (R4 uB uJ uF eK lM ct cf zF vF bJ sU vN)
variable {d:Int}
theorem C3 {x y:K d×Nat}(h:cF x=cF y):x=y:=by
 obtain⟨x1,x2⟩:=x;obtain⟨y1,y2⟩:=y;simp only[cF,Prod.mk.injEq]at h;obtain⟨h1,h2,h3,h4⟩:=h;have e1:x1=y1:=(Ep x1 y1).mp (by rw[h1,h2,h3];simp);have e2:x2=y2:=by omega
 rw[e1,e2]
theorem Er {rs:List (K d×Nat)}:∀l:List R4,(∀x∈l,∃r∈rs,x=cF r)→∃rs':List (K d×Nat),rs'.map cF=l∧∀r∈rs',r∈rs
 | [],_=>⟨[],rfl,fun r h=>by cases h⟩
 |x::l,h=>by
  obtain⟨r,hr,rfl⟩:=h x (by simp);obtain⟨rs',h1,h2⟩:=Er l (fun y hy=>h y (hX _ hy));refine⟨r::rs',by simp[h1],fun y hy=>?_⟩;rcases d1.mp hy with rfl|hy
  ·exact hr
  ·exact h2 y hy
theorem oo {G:Type}{A:AG G}{p:Nat}:∀(rs out:List (G×Nat)),(gr A p out rs).length≤out.length+rs.length
 | [],out=>by rw[gr];simp
 |c::rs,out=>by
  rw[gr];split
  ·have:=oo (A:=A) (p:=p) rs out;simp only[zE];omega
  ·have:=oo (A:=A) (p:=p) rs (out++[c]);simp only[sS,zE,List.length_nil]at this⊢;omega
theorem wy {N:Nat}(hN:8589934600<N)(hd:fF d){L:List (K d)}(hL:nf L)(hb:L.length≤45000){p a m:Nat}(hp:iE p)(hm:L.length=p^a*m)(hc:Nat.Coprime (p^a) m):
  ∃gs:List (K d×Nat),co (dC hd) (p^a) gs∧gs.length≤45000∧Q130.f N (dB (L.map (·.1))) (one hd).1.1 (one hd).1.2.1 (one hd).1.2.2 (L.length:Int) (p:Int) ((p^a:Nat):Int)=some (uB (gs.map cF)):=by
 have hs:0<p^a:=Nat.pow_pos (by have:=hp.1;omega);have hL0:=hL.pos (dC hd);have hm0:0<m:=Nat.pos_of_ne_zero fun e=>by subst e;omega
 have hsl:p^a≤L.length:=by rw[hm];exact i0 _ hm0
 unfold Q130.f;rw[kG];obtain⟨ks,vs,hM,e1⟩:=bZ hN hd hL hb hs hm (R:=List Int) (dB (L.map (·.1))) (p:Int) (fun y29 y30 y31 y32 y33 y34 y35=>
   Q130.l11 N N y30 y29 (y29.length/3:Int) 0 y31 y32 y33 y34 y35 []
    (fun y51 y52 y53 y54 y55=>
     (Q125.f N y55).bind fun r56=>
     Q130.l21 N N y51 (r56.length/4:Int) 0 [] (vB [y52,y53,y54] []) (eG [y52,y53,y54] 1 [] []) r56
      (fun y176=>
       some y176))) N 0 [] [] (by omega) (by omega) (Mp.nil fun z ⟨j,_,hj,_⟩=>by omega)
 rw[pC]at e1;rw[e1,kG];have hS:∀z:K d,(∃j,∃hj:j<L.length,z=pw (dC hd) L[j] m)↔pw (dC hd) z (p^a)=(dC hd).one:=fun z=>by
  constructor
  ·rintro⟨j,hj,rfl⟩;rw[←zG,d2,←hm];exact rF hL _
  ·intro hz;obtain⟨u',⟨u,rfl⟩,hu⟩:=Hf hs hm0 hc;obtain⟨j,hj,e⟩:=hI (hL.all (pw (dC hd) z u));refine⟨j,hj,?_⟩;rw[e,←zG,d2 u m,←tN hz,hu,tN hz,sH]
 obtain⟨rs,r1,r2,r3,e2⟩:=qU (N:=N) hd hb (hM.congr hS (fun _ _ h=>h)) (R:=List Int) (p:Int) (one hd).1.1 (one hd).1.2.1 (one hd).1.2.2 (fun y51 y52 y53 y54 y55=>
     (Q125.f N y55).bind fun r56=>
     Q130.l21 N N y51 (r56.length/4:Int) 0 [] (vB [y52,y53,y54] []) (eG [y52,y53,y54] 1 [] []) r56
      (fun y176=>
       some y176)) N 0 [] (by omega) (by omega) (by simp) (fun r hr=>by cases hr) (fun j hj h=>by omega)
 rw[pC]at e2;have hbound:∀r∈rs,r.2≤45000:=fun r hr=>by obtain⟨q1,q2,q3⟩:=r2 r hr;have:=hH hs ((q3.2 _).mp q1);omega
 obtain⟨l',s1,s2,s3⟩:=sU (N:=N) (by omega) (l:=rs.map cF) (by simp;omega) (fun x hx=>by obtain⟨r,hr,rfl⟩:=d4.mp hx;have:=hbound r hr;simp only[Srt.nn,cF];omega);obtain⟨rs',t1,t2⟩:=Er l' (rs:=rs) (fun x hx=>by obtain⟨r,hr,rfl⟩:=d4.mp (s2.mem_iff.mp hx);exact⟨r,hr,rfl⟩);subst t1;have hlen:rs'.length=rs.length:=by simpa using s2.length_eq
 refine⟨gr (dC hd) p [] rs',qW hL0 (rF hL) hp ?_ (fun r hr=>?_) (fun z hz hzp=>?_),by have:=oo (A:=dC hd) (p:=p) rs' [];simp at this;omega,?_⟩
 ·rw[List.pairwise_map]at s3;refine s3.imp fun{x y} h=>?_;simp only[Srt.nn,cF]at h;omega
 ·obtain⟨q1,q2,q3⟩:=r2 r (t2 r hr);refine⟨fun e=>?_,q1,q3⟩;have:vV (dC hd) r.1 1:=⟨by omega,fun k=>⟨fun _=>Nat.one_dvd _,fun _=>by rw[e,kI]⟩⟩
  have:=q3.uniq this;omega
 ·obtain⟨n,hn⟩:=r3 z (hL.all z) hzp hz;have:cF (z,n)∈rs'.map cF:=s2.mem_iff.mpr (u0 hn);obtain⟨r,hr,e⟩:=d4.mp this;exact⟨n,C3 e▸hr⟩
 ·refine e2.trans ?_;rw[s1];simp only[iA];rw[wE];have hM1:Mp (fun z=>In (dC hd) [] z) (fun _ v=>1≤v∧v≤1+2500000000*((0:Nat):Int)) (vB [(one hd).1.1,(one hd).1.2.1,(one hd).1.2.2] []) (eG [(one hd).1.1,(one hd).1.2.1,(one hd).1.2.2] 1 [] []):=
   ((Mp.nil (S:=fun _:K d=>False) (W:=fun _ v=>1≤v∧v≤1+2500000000*((0:Nat):Int)) (fun _ h=>h)).put (one hd) (v:=1) ⟨by omega,by omega⟩).congr (fun z=>by
    constructor
    ·rintro(h|rfl)
     ·exact h.elim
     ·exact In.one _
    ·rintro⟨es,_,rfl⟩;exact .inr (pE es)) (fun _ _ h=>h)
  have:=ey hN hd hL hb hp.1 (rs:=rs') (by omega) (fun r hr=>⟨by have:=hbound r (t2 r hr);omega,(r2 r (t2 r hr)).2.2⟩) (uB ((gr (dC hd) p [] rs').map cF)) (fun y176=>some y176) rfl N 0 [] _ _ (by omega) (by omega) (by simp) (by rw[hW]) hM1;rw[pC]at this;exact this
theorem vl {G:Type}{A:AG G}:∀(os ps:List (G×Nat)) (i:Nat) (h:i<ps.length),
  (∃ho:i<os.length,zm A os (ps.take (i+1))=(zm A os (ps.take i)).set i (A.mul os[i].1 ps[i].1,os[i].2*ps[i].2)∧∃hz:i<(zm A os (ps.take i)).length,(zm A os (ps.take i))[i]=os[i])∨
  (os.length≤i∧zm A os (ps.take (i+1))=zm A os (ps.take i)++[ps[i]]∧(zm A os (ps.take i)).length=i)
 | [],ps,i,h=>.inr ⟨by simp,by simp only[zm];rw[hU,zB h];rfl,by simp[zm];omega⟩
 |o::os,c::ps,0,h=>.inl ⟨by simp,by simp only[yK,g0,zm,d0,List.getElem_cons_zero];cases os<;>rfl,by simp[zm],rfl⟩
 |o::os,c::ps,i+1,h=>by
  have h':i<ps.length:=by simpa using h
  rcases vl os ps i h' with⟨ho,h1,hz,h2⟩|⟨ho,h1,h2⟩
  ·refine .inl ⟨by simpa using ho,?_,?_,?_⟩
   ·simp only[yK,zm,List.set_cons_succ,l0];rw[h1]
   ·simpa[zm]using hz
   ·simp only[yK,zm,l0];exact h2
  ·refine .inr ⟨by simpa using ho,?_,?_⟩
   ·simp only[yK,zm,List.cons_append,l0];rw[h1]
   ·simp only[yK,zm,zE];rw[h2]
 |_::_,[],i,h=>by simp at h
theorem zk (X:List (K d×Nat)){i:Nat}(y:K d×Nat):((((uB (X.map cF)).set (i*4) y.1.1.1).set (i*4+1) y.1.1.2.1).set (i*4+2) y.1.1.2.2).set (i*4+3) (y.2:Int)=uB ((X.set i y).map cF):=by
 have:=lM (X.map cF) i (cF y);rw[←List.map_set]at this;exact this
theorem ig {N:Nat}(hN:8589934600<N)(hd:fF d){os ps:List (K d×Nat)}(ho:os.length≤45000)(hp:ps.length≤45000)(hb:∀o∈os,∀c∈ps,o.2*c.2≤45000)(hb2:∀c∈ps,c.2≤45000){R:Type}(x53 x55 x56:Int)(x54 x59:List Int)(K0:Int→List Int→Int→Int→List Int→Int→Int→Int→List Int→Option R):
  ∀(q i:Nat),i≤ps.length→ps.length-i<q→Q131.l17 N q x53 x54 x55 x56 (ps.length:Int) (i:Int) x59 (one hd).1.1 (one hd).1.2.1 (one hd).1.2.2 (uB ((zm (dC hd) os (ps.take i)).map cF)) (uB (ps.map cF)) K0=K0 x53 x54 x55 x56 x59 (one hd).1.1 (one hd).1.2.1 (one hd).1.2.2 (uB ((zm (dC hd) os ps).map cF))
 |0,i,_,h=>by omega
 |q+1,i,hi,hq=>by
  rw[Q131.l17,vF];by_cases hlt:i<ps.length
  ·obtain⟨c1,c2,c3,c4⟩:=zT hlt;have hps:=aE hlt;rw[ct (decide_eq_true hlt),wE,ct (zF hlt),wE];rcases vl (A:=dC hd) os ps i hlt with⟨hio,h1,hz,h2⟩|⟨hio,h1,h2⟩
   ·have hmul:=hb _ (aE hio) _ hps;obtain⟨b1,b2,b3,b4⟩:=zT hz;rw[h2]at b1 b2 b3 b4;rw[cf (beq_eq_false_iff_ne.mpr (by omega)),ct (zF hz)];simp only[zA,c1,c2,c3,c4,b1,b2,b3,b4];rw[tK hN hd os[i].1 ps[i].1];simp only[iA];rw[ct (zF hz),ct (zF hz),←f2,wU (by omega),cE (by omega)];have:=zk (zm (dC hd) os (ps.take i)) (i:=i) (mul hd os[i].1 ps[i].1,os[i].2*ps[i].2);simp only at this;rw[this];have h1':(zm (dC hd) os (ps.take i)).set i (mul hd os[i].1 ps[i].1,os[i].2*ps[i].2)=zm (dC hd) os (ps.take (i+1)):=h1.symm;rw[h1'];exact ig hN hd ho hp hb hb2 x53 x55 x56 x54 x59 K0 q (i+1) (by omega) (by omega)
   ·have hlen1:(zm (dC hd) os (ps.take i)++[(one hd,1)]).length=i+1:=by simp[h2]
    have hz:i<(zm (dC hd) os (ps.take i)++[(one hd,1)]).length:=by omega
    have hzi:(zm (dC hd) os (ps.take i)++[(one hd,1)])[i]=(one hd,1):=by rw[List.getElem_append_right (by omega)];simp[h2]
    obtain⟨b1,b2,b3,b4⟩:=zT hz;rw[hzi]at b1 b2 b3 b4;have hsn:=gY (zm (dC hd) os (ps.take i)) (one hd,1);simp only[o0]at hsn b1 b2 b3 b4;rw[ct (beq_iff_eq.mpr (by omega)),ct (oK (by omega)),hsn,wE,ct (zF hz)];simp only[zA,c1,c2,c3,c4,b1,b2,b3,b4];rw[tK hN hd (one hd) ps[i].1];simp only[iA];have hb':=hb2 _ hps;rw[ct (zF hz),ct (zF hz),Int.one_mul,wU (by omega),cE (by omega)];have:=zk (zm (dC hd) os (ps.take i)++[(one hd,1)]) (i:=i) (mul hd (one hd) ps[i].1,ps[i].2);simp only at this;rw[this];have h1':(zm (dC hd) os (ps.take i)++[(one hd,1)]).set i (mul hd (one hd) ps[i].1,ps[i].2)=zm (dC hd) os (ps.take (i+1)):=by rw[h1,n0 _ _ (by omega),h2,f4,d0];have:mul hd (one hd) ps[i].1=ps[i].1:=(dC hd).one_mul _;rw[this]
    rw[h1'];exact ig hN hd ho hp hb hb2 x53 x55 x56 x54 x59 K0 q (i+1) (by omega) (by omega)
  ·rw[cf (decide_eq_false hlt),xK (by omega)]
end
section
open Go Go.Proofs.YtjpdjdhdchjcgaaGreat.Ev
open Go.Proofs.YtjpdjdhdchjcgaaGreat.Pure (cA)
open Go.Proofs.YtjpdjdhdchjcgaaGreat.Cls (fF iI dK eH pR vK)
open Go.Proofs.YtjpdjdhdchjcgaaGreat.Srt (R4 uB uJ uF eK lM ct cf zF vF bJ sU vN)
variable {d:Int}
theorem bj (N:Nat){p a:Nat}(hp:0<p)(hpa:p^a≤1000000){R:Type}(x14 x17 x18 x22 x23 x24 x27:Int)(x16 x21 x25:List Int)(K0:Int→Int→List Int→Int→Int→List Int→Int→Int→Int→List Int→Int→Int→Option R):
  ∀(q i:Nat),i≤a→a-i<q→a<1000000→Q131.l13 N q x14 ((p^i:Nat):Int) x16 x17 x18 (a:Int) (i:Int) x21 x22 x23 x24 x25 (p:Int) x27 K0=K0 x14 ((p^a:Nat):Int) x16 x17 x18 x21 x22 x23 x24 x25 (p:Int) x27
 |0,i,_,h,_=>by omega
 |q+1,i,hi,hq,ha=>by
  rw[Q131.l13,vF];by_cases hlt:i<a
  ·have hle:p^(i+1)≤p^a:=Nat.pow_le_pow_right hp hlt;have e:((p^i:Nat):Int)*(p:Int)=((p^(i+1):Nat):Int):=by rw[Nat.pow_succ,f2]
   rw[ct (decide_eq_true hlt),e,wU (by omega),cE (by omega)];exact bj N hp hpa x14 x17 x18 x22 x23 x24 x27 x16 x21 x25 K0 q (i+1) (by omega) (by omega) ha
  ·have:i=a:=by omega
   subst this;rw[cf (decide_eq_false hlt)]
theorem pu {l:PL}{i:Nat}(h:i<l.length):sE (l.take (i+1))=sE (l.take i)*l[i].1^l[i].2:=by
 rw[hU,zB h,rM];simp[sE]
theorem xa {l:PL}(h:∀x∈l,iE x.1∧0<x.2):0<sE l:=by have:=sM h;omega
theorem Dd {p q:Nat}(h:Nat.Coprime p q)(a:Nat):Nat.Coprime (p^a) q:=Nat.Coprime.pow_left a h
theorem ar {p:Nat}(hp:iE p){l:PL}(hl:∀x∈l,iE x.1∧0<x.2)(hne:∀x∈l,x.1≠p)(a:Nat):Nat.Coprime (p^a) (sE l):=by
 refine Dd (Nat.Coprime.symm (hp.cop fun hd=>?_)) a;obtain⟨x,h1,h2⟩:=hp.in_prod hl hd;exact hne x h1 h2
theorem co.short {G:Type}{A:AG G}{s:Nat}{gs:List (G×Nat)}(h:co A s gs){L:List G}(hL:nf L)(hs:s∣L.length):∀g∈gs,g.2≤L.length:=fun g hg=>
 hH (hL.pos A) (Nat.dvd_trans (h.big g hg).2 hs)
theorem lZ {N:Nat}(hN:8589934600<N)(hd:fF d){L:List (K d)}(hL:nf L)(hb:L.length≤45000){l:PL}(hl:Fz L.length l){R:Type}(K0:List Int→Option R):∀(q i:Nat) (out:List (K d×Nat)),i≤l.length→l.length-i<q→co (dC hd) (sE (l.take i)) out→out.length≤45000→
   ∃gs:List (K d×Nat),co (dC hd) L.length gs∧gs.length≤45000∧Q131.l9 N q (L.length:Int) (zV l) (l.length:Int) (i:Int) (dB (L.map (·.1))) (one hd).1.1 (one hd).1.2.1 (one hd).1.2.2 (uB (out.map cF)) K0=K0 (uB (gs.map cF))
 |0,i,out,_,h,_,_=>by omega
 |q+1,i,out,hi,hq,hG,ho=>by
  have hll:=sM hl.pr;rw[hl.prod]at hll;rw[Q131.l9,vF];by_cases hlt:i<l.length
  ·obtain⟨e1,e2⟩:=oi hlt;obtain⟨hp,ha⟩:=hl.pr _ (aE hlt);rw[ct (decide_eq_true hlt),yR,ct (zF hlt)];simp only[zA,e1,e2];have hsplit:l=l.take i++l[i]::l.drop (i+1):=by rw[←cD hlt,t3]
   have hup:=hl.up;rw[hsplit,List.pairwise_append,List.pairwise_cons]at hup;obtain⟨u1,⟨u2,u3⟩,u4⟩:=hup;have pr1:∀x∈l.take i,iE x.1∧0<x.2:=fun x hx=>hl.pr x (List.mem_of_mem_take hx);have pr2:∀x∈l.drop (i+1),iE x.1∧0<x.2:=fun x hx=>hl.pr x (v3 hx);have hprod:L.length=sE (l.take i)*(l[i].1^l[i].2*sE (l.drop (i+1))):=by have:=hl.prod;rw[hsplit,rM]at this;exact this.symm
   have c1:=ar hp pr1 (fun x hx=>by have:=u4 x hx l[i] List.mem_cons_self;omega) l[i].2;have c2:=ar hp pr2 (fun x hx=>by have:=u2 x hx;omega) l[i].2;generalize hpp:l[i].1=p at*;generalize haa:l[i].2=a at*;have hQ:=xa pr1;have hm:L.length=p^a*(sE (l.take i)*sE (l.drop (i+1))):=by rw[hprod,j0]
   have hs0:0<p^a:=Nat.pow_pos (by have:=hp.1;omega);have hsle:p^a≤L.length:=hH (hL.pos (dC hd)) ⟨_,hm⟩;have hale:a<1000000:=by have:=uj (j:=a) hp.1;omega
   have h1:=bj N (show 0<p by have:=hp.1;omega) (show p^a≤1000000 by omega) (L.length:Int) (l.length:Int) (i:Int) (one hd).1.1 (one hd).1.2.1 (one hd).1.2.2 (a:Int) (zV l) (dB (L.map (·.1))) (uB (out.map cF)) (fun y40 y41 y42 y43 y44 y45 y46 y47 y48 y49 y50 y51=>
      (Q130.f N y45 y46 y47 y48 y40 y50 y41).bind fun r52=>
      Q131.l17 N N y40 y42 y43 y44 (r52.length/4:Int) 0 y45 y46 y47 y48 y49 r52
       (fun y76 y77 y78 y79 y80 y81 y82 y83 y84=>
        Q131.l9 N q y76 y77 y78 (aA (y79+1)) y80 y81 y82 y83 y84 K0)) N 0 (by omega) (by omega) hale
   rw[Nat.pow_zero,pC,o0]at h1;obtain⟨gs,g1,g2,g3⟩:=wy hN hd hL hb hp hm (Nat.Coprime.mul_right c1 c2);rw[h1,g3];simp only[iA];rw[wE];have dQ:sE (l.take i)∣L.length:=⟨_,hprod⟩
   have hG2:=hG.zm hQ hs0 (Nat.Coprime.symm c1) g1;have dQs:sE (l.take i)*p^a∣L.length:=⟨sE (l.drop (i+1)),by rw[hprod,m0]⟩
   have h2:=ig hN hd (os:=out) (ps:=gs) ho g2 (fun o hoo c hcc=>by
     have:=hH (hL.pos (dC hd)) (Nat.dvd_trans (Nat.mul_dvd_mul (hG.big o hoo).2 (g1.big c hcc).2) dQs);omega) (fun c hcc=>by have:=g1.short hL ⟨_,hm⟩ c hcc;omega) (L.length:Int) (l.length:Int) (i:Int) (zV l) (dB (L.map (·.1))) (fun y76 y77 y78 y79 y80 y81 y82 y83 y84=>
        Q131.l9 N q y76 y77 y78 (aA (y79+1)) y80 y81 y82 y83 y84 K0) N 0 (by omega) (by omega)
   have z0:zm (dC hd) out (gs.take 0)=out:=by rw[g0];cases out<;>rfl
   rw[pC,z0]at h2;rw[h2,cE (by omega)];refine lZ hN hd hL hb hl K0 q (i+1) _ (by omega) (by omega) ?_ (by rw[ie];omega);rw[pu hlt,hpp,haa];exact hG2
  ·rw[cf (decide_eq_false hlt)];rw[xK (by omega),hl.prod]at hG;exact⟨out,hG,ho,rfl⟩
structure Pt (hd:fF d)(L:List (K d))(gs:List (K d×Nat)):Prop where
 fin:nf L
 len:L.length≤45000
 glen:gs.length≤45000
 gen:co (dC hd) L.length gs.reverse
theorem lI {N:Nat}(hN:8589934600<N)(hd:fF d):∃(L:List (K d)) (gs:List (K d×Nat)),Pt hd L gs∧Cls.Cl d (L.map (·.1))∧Q114.f N d=some (dB (L.map (·.1)),0)∧Q115.f N d=some ((L.length:Int),0)∧Q111.f N d=some (dB (L.map (·.1)))∧
  Q131.f N d=some (uB (gs.map cF),0):=by
 obtain⟨R,h1,h2,h3,h4,h5⟩:=pR (N:=N) (by omega) hd;obtain⟨L,rfl,hL⟩:=Gn h1;have hb:L.length≤45000:=by simpa using h1.len
 have hL0:=hL.pos (dC hd);have hn:Q115.f N d=some ((L.length:Int),0):=by rw[h5];simp
 obtain⟨l,hl,hf⟩:=zU (N:=N) (by omega) hL0 (by omega);have hll:=sM hl.pr;rw[hl.prod]at hll;obtain⟨gs,g1,g2,g3⟩:=lZ hN hd hL hb hl (fun y86=>(Q126.f N y86).bind fun r87=>some (r87,(0:Int))) N 0 [] (by omega) (by omega) (by rw[g0];exact Dh) (by simp);rw[pC]at g3;refine⟨L,gs.reverse,⟨hL,hb,by simpa using g2,by rw[s0];exact g1⟩,h1,h4,hn,h3,?_⟩;unfold Q131.f;rw[h4];simp only[iA];rw[cf (by rfl),uI N hd];simp only[iA];rw[kG,hf];simp only[iA];rw[yR];refine g3.trans ?_;rw[vN (by omega) (by simpa using by omega),List.map_reverse];rfl
theorem mf (N:Nat){gs:List (K d×Nat)}(hg:gs.length≤45000){R:Type}(K0:List Int→List Int→Option R):∀(q i:Nat),i≤gs.length→gs.length-i<q→
  Q132.l5 N q (uB (gs.map cF)) (gs.length:Int) (i:Int) (dB ((gs.take i).map (·.1.1))) ((gs.take i).map fun g=>(g.2:Int)) K0=K0 (dB (gs.map (·.1.1))) (gs.map fun g=>(g.2:Int))
 |0,i,_,h=>by omega
 |q+1,i,hi,hq=>by
  rw[Q132.l5,vF];by_cases hlt:i<gs.length
  ·obtain⟨e1,e2,e3,e4⟩:=zT hlt;have r1:fB (((dB ((gs.take i).map (·.1.1))).length+3)/3) 24=true:=by
    rw[lF];simp only[fB,decide_eq_true_eq,hE,List.length_take];omega
   have r2:fB (((gs.take i).map fun g=>(g.2:Int)).length+1) 8=true:=by simp only[fB,decide_eq_true_eq,hE,List.length_take];omega
   rw[ct (decide_eq_true hlt),wE,ct (zF hlt),ct r1,ct r2,cE (by omega)];simp only[zA,e1,e2,e3,e4];have t1:dB ((gs.take i).map (·.1.1))++[gs[i].1.1.1,gs[i].1.1.2.1,gs[i].1.1.2.2]=dB ((gs.take (i+1)).map (·.1.1)):=by rw[hU,zB hlt,p0,iJ];rfl
   have t2:((gs.take i).map fun g=>(g.2:Int))++[(gs[i].2:Int)]=(gs.take (i+1)).map fun g=>(g.2:Int):=by rw[hU,zB hlt,p0];rfl
   rw[t1,t2];exact mf N hg K0 q (i+1) (by omega) (by omega)
  ·rw[cf (decide_eq_false hlt),xK (by omega)]
theorem rK {N:Nat}(hN:8589934600<N){gs:List (K d×Nat)}(hg:gs.length≤45000)(h:Q131.f N d=some (uB (gs.map cF),0)):
  Q132.f N d=some (dB (gs.map (·.1.1)),gs.map fun g=>(g.2:Int),0):=by
 unfold Q132.f;rw[h];simp only[iA];rw[cf (by rfl),wE];have:=mf N hg (fun y10 y11=>some (y10,y11,(0:Int))) N 0 (by omega) (by omega);rw[g0,pC]at this;exact this
end
section
open Go Go.Proofs.YtjpdjdhdchjcgaaGreat.Ev
open Go.Proofs.YtjpdjdhdchjcgaaGreat.Pure (cA iW zH n7 La Pr Oo wJ dX lD mH nN nK jU oQ rb)
open Go.Proofs.YtjpdjdhdchjcgaaGreat.Cls (fF Rd aK iI dK eH pR vK jm uT rJ)
open Go.Proofs.YtjpdjdhdchjcgaaGreat.Srt (R4 uB ct cf zF vF)
variable {d:Int}
theorem xd (N:Nat)(hd:fF d):Q89.f N d=some ((one hd).1.1,(one hd).1.2.1,(one hd).1.2.2,0):=by
 obtain⟨a,b,c,e,h1,h2,_⟩:=jU N d;rw[uI N hd]at h1;rw[h2,←h1]
theorem qi {N:Nat}(hN:8589934600<N)(hd:fF d)(x y:K d):Q96.f N x.1.1 x.1.2.1 x.1.2.2 y.1.1 y.1.2.1 y.1.2.2=some (mul hd x y).1:=by
 obtain⟨a,b,c,e,h⟩:=oQ hN (dG hd).neg (pW hd) (x.red hd) (y.red hd);obtain⟨z,hz,h⟩:=mJ h;have:z=mul hd x y:=vO hd (h.symm.trans (dG hd).m (eJ hd x y));subst this;rw[e,hz]
theorem dl (N:Nat)(hd:fF d)(x:K d):Q47.f N x.1.1 x.1.2.1 x.1.2.2=some d∧Q69.f N x.1.1 x.1.2.1 x.1.2.2=some d:=by
 have:=uT N (x.val hd).fine;rwa[x.2.1.eq]at this
theorem Ez {N:Nat}(hN:8589934600<N)(hd:fF d)(x:K d){n:Nat}(ho:vV (dC hd) x n)(hn:n≤50000){R:Type}(K0:Int→Option R):∀(q k:Nat),0<k→k≤n→n-k<q→
  Q138.l4 N q (k:Int) x.1.1 x.1.2.1 x.1.2.2 (one hd).1.1 (one hd).1.2.1 (one hd).1.2.2 (pw (dC hd) x k).1.1 (pw (dC hd) x k).1.2.1 (pw (dC hd) x k).1.2.2 K0=K0 (n:Int)
 |0,k,_,_,h=>by omega
 |q+1,k,hk,hkn,hq=>by
  rw[Q138.l4];by_cases he:pw (dC hd) x k=one hd
  ·have:=hH hk ((ho.2 k).mp he);have:k=n:=by omega
   subst this;rw[cf (by rw[(Ep _ _).mpr he];rfl)]
  ·have h1:((pw (dC hd) x k).1.1==(one hd).1.1&&((pw (dC hd) x k).1.2.1==(one hd).1.2.1&&(pw (dC hd) x k).1.2.2==(one hd).1.2.2))=false:=Bool.eq_false_iff.mpr fun e=>he ((Ep _ _).mp e);have hlt:k<n:=by
    rcases Nat.lt_or_ge k n with h|h
    ·exact h
    ·have:k=n:=by omega
     subst this;exact absurd ho.kill he
   rw[ct (by rw[h1];rfl),qi hN hd];simp only[iA];rw[cE (by omega)];exact Ez hN hd x ho hn K0 q (k+1) (by omega) hlt (by omega)
theorem lf {N:Nat}(hN:8589934600<N)(hd:fF d)(x:K d){n:Nat}(ho:vV (dC hd) x n)(hn:n≤50000):Q138.f N x.1.1 x.1.2.1 x.1.2.2=some (n:Int):=by
 unfold Q138.f;rw[(dl N hd x).2];simp only[iA];rw[xd N hd];simp only[iA];have:=Ez hN hd x ho hn (fun y18=>some y18) N 1 (by omega) ho.1 (by have:=ho.1;omega);rw[show pw (dC hd) x 1=x from sH x,o0]at this;exact this
theorem dS {N:Nat}(hN:8589934600<N)(hd:fF d){a b c:Int}(h:iW d a b c){z:K d}(hz:yn d (La d a b) (Lc z)):Q87.f N a b c=some ((inv hd z).1.1,(inv hd z).1.2.1,(inv hd z).1.2.2,0):=by
 obtain⟨x,y,w,e,h1,h2⟩:=mH hN h;have dm:=(dG hd).m
 let k:K d:=⟨(x,y,w),Bw h1⟩
 have h3:mul hd k z=one hd:=by refine vO hd ((eJ hd k z).symm.trans dm ((Mod.Hm.comm (Lc k) (Lc z)).trans dm ?_));exact((hz.symm.left (Lc k)).trans dm h2).trans dm (gZ hd)
 have h4:k=inv hd z:=(dC hd).inv_of h3;rw[e,←h4]
theorem Dj (hd:fF d)(z:K d):inv hd (inv hd z)=z:=((dC hd).inv_of (x:=z) (y:=inv hd z) (by rw[(dC hd).comm];exact(dC hd).inv_mul z)).symm
theorem nk {N:Nat}(hN:8589934600<N)(a b c:Int):
  (∃e,e≠0∧(∃x y z n,Q133.f N a b c=some (x,y,z,n,e))∧∃x y z,Q140.f N a b c=some (x,y,z,e))∨
  (∃(d:Int) (hd:fF d) (z:K d) (L:List (K d)),iW d a b c∧nf L∧L.length≤45000∧Q47.f N a b c=some d∧Q133.f N a b c=some (z.1.1,z.1.2.1,z.1.2.2,(L.length:Int),0)∧Q140.f N a b c=some (z.1.1,z.1.2.1,z.1.2.2,0)∧yn d (La d a b) (Lc z)):=by
 obtain⟨x,y,z,e,i1,i2⟩:=nN hN a b c;by_cases he:e=0
 ·subst he;have hv:wJ a b c∧dX a b c:=by
   obtain⟨x',y',z',e',p1,p2,p3⟩:=nK hN a b c;by_cases he':e'=0
   ·exact p3 he'
   ·exfalso;unfold Q87.f at i1;rw[p1]at i1;simp only[iA]at i1;rw[ct (bne_iff_ne.mpr he')]at i1;simp only[Option.some.injEq,Prod.mk.injEq]at i1;exact he' i1.2.2.2
  have hV:=rb hv.1 hv.2;obtain⟨hD,hD2⟩:=uT N hv.1;generalize hdd:b*b-4*a*c=d at*;have hneg:=hV.d.1;by_cases hb: -65536≤d
  ·have hd:fF d:=by rw[←hdd]at hb⊢;exact jm hv.1 hb
   obtain⟨a',b',c',r1,r2,r3,p,q,r,u,r4⟩:=lD hN hV;obtain⟨k,hk,hcl⟩:=mJ r2;obtain⟨k1,k2,k3⟩:=wj hk;obtain⟨L,gs,hP,_,_,hn,_,_⟩:=lI hN hd;have j1:=dS hN hd hV hcl;rw[i1]at j1;simp only[Option.some.injEq,Prod.mk.injEq]at j1;refine .inr ⟨d,hd,k,L,hV,hP.fin,hP.len,hD,?_,?_,hcl⟩
   ·unfold Q133.f;rw[i1];simp only[iA];rw[cf (by rfl),hD];simp only[iA];rw[hn];simp only[iA];rw[cf (by rfl),r4,k1,k2,k3];rfl
   ·unfold Q140.f;rw[i2];simp only[iA];rw[cf (by rfl),hD2];simp only[iA];rw[cf (decide_eq_false (by omega))];obtain⟨x2,y2,z2,e2,m1,m2⟩:=nN hN x y z;have j2:=dS hN hd ((inv hd k).val hd) (z:=inv hd k) (Mod.Hm.refl _ _ _);rw[Dj,←j1.1,←j1.2.1,←j1.2.2.1,m1]at j2;rw[m2,j2];rfl
  ·refine .inl ⟨80,by decide,⟨0,0,0,0,?_⟩,0,0,0,?_⟩
   ·have hnl:¬fF d:=fun h=>hb h.1;unfold Q133.f;rw[i1];simp only[iA];rw[cf (by rfl),hD];simp only[iA];rw[(vK (by have:=hV.d.2;omega) (by omega) hnl).2.1];rfl
   ·unfold Q140.f;rw[i2];simp only[iA];rw[cf (by rfl),hD2];simp only[iA];rw[ct (decide_eq_true (by omega))]
 ·refine .inl ⟨e,he,⟨0,0,0,0,?_⟩,x,y,z,?_⟩
  ·unfold Q133.f;rw[i1];simp only[iA];rw[ct (bne_iff_ne.mpr he)]
  ·unfold Q140.f;rw[i2];simp only[iA];rw[ct (bne_iff_ne.mpr he)]
theorem nh {N:Nat}(hN:8589934600<N)(a b c:Int):∃n e,Q134.f N a b c=some (n,e)∧Q141.f N a b c=some (n,e):=by
 unfold Q134.f Q141.f;rcases nk hN a b c with⟨e,he,⟨x,y,z,n,h1⟩,x',y',z',h2⟩|⟨d,hd,z,L,hV,hL,hb,hD,h1,h2,hcl⟩
 ·refine⟨0,e,?_,?_⟩
  ·rw[h1];simp only[iA];rw[ct (bne_iff_ne.mpr he)]
  ·rw[h2];simp only[iA];rw[ct (bne_iff_ne.mpr he)]
 ·obtain⟨m,m1,m2,m3⟩:=aR hN hd z (hL.pos (dC hd)) (by omega) (rF hL z);have hm:=hH (hL.pos (dC hd)) m2;refine⟨m,0,?_,?_⟩
  ·rw[h1];simp only[iA];rw[cf (by rfl),hD];simp only[iA];rw[uI N hd];simp only[iA];rw[m3];rfl
  ·rw[h2];simp only[iA];rw[cf (by rfl),lf hN hd z m1 (by omega)];rfl
abbrev N0:Nat:=8589934700
theorem cq:8589934600<N0:=by decide
theorem ai:fF (-23):=⟨by decide,by decide,by decide⟩
theorem Fu {G:Type}{A:AG G}{s:Nat}{gs:List (G×Nat)}(h:co A s gs)(hp:np gs=3):∃g,gs=[(g,3)]:=by
 cases gs with
 |nil=>simp[np]at hp
 |cons x l=>
  have hx:=(h.big x (by simp)).1;simp only[np]at hp;have hdv:x.2∣3:=⟨_,hp.symm⟩
  have h3:=hH (by decide) hdv;have hx3:x.2=3:=by
   rcases(show x.2=2∨x.2=3 by omega)with e|e
   ·rw[e]at hdv;exact absurd hdv (by decide)
   ·exact e
  rw[hx3]at hp;have hl:np l=1:=by omega
  cases l with
  |nil=>exact⟨x.1,by rw[←hx3]⟩
  |cons y l=>exfalso;have hy:=(h.big y (by simp)).1;simp only[np]at hl;have:=hH (by decide) (show y.2∣1 from⟨_,hl.symm⟩);omega
theorem rh:Q146.f N0=some true:=by
 obtain⟨L,gs,hP,hC,_,_,hr,hg⟩:=lI cq ai;have hl:Q111.f N0 (-23)=some [1,1,6,2, -1,3,2,1,3]:=by kernel_rfl
 rw[hl]at hr;have hL3:dB (L.map (·.1))=dB [(1,1,6),(2, -1,3),(2,1,3)]:=(Option.some.inj hr).symm;have hLm:L.map (·.1)=[(1,1,6),(2, -1,3),(2,1,3)]:=by have:=congrArg iF hL3;rwa[xN,xN]at this
 have hlen:L.length=3:=by have:=congrArg List.length hLm;simpa using this
 obtain⟨g,hgs⟩:=Fu hP.gen (by rw[hP.gen.count hP.fin,hlen]);have hgs':gs=[(g,3)]:=by have:=congrArg List.reverse hgs;simpa using this
 subst hgs';have hS:=rK cq hP.glen hg;have hne:g≠one ai:=fun e=>by
  have ho:=hP.gen.uq.ordOf (g:=(g,3)) (by simp);have h1:pw (dC ai) g 1=(dC ai).one:=by rw[sH];exact e
  have:=(ho.2 1).mp h1;exact absurd (show(3:Nat)∣1 from this) (by decide)
 have ho1:(one ai).1=(1,1,6):=by
  have h1:=uI N0 ai;have h2:Q83.f N0 (-23)=some (1,1,6,0):=by kernel_rfl
  rw[h2]at h1;simp only[Option.some.injEq,Prod.mk.injEq]at h1;obtain⟨a,b,c,_⟩:=h1;exact Prod.ext a.symm (Prod.ext b.symm c.symm)
 have hgA:g.1.1=2:=by
  have hm:g.1∈L.map (·.1):=u0 (hP.fin.all g);rw[hLm]at hm;simp only[d1,List.not_mem_nil,or_false]at hm;rcases hm with hm|hm|hm
  ·exact absurd (Subtype.ext (hm.trans ho1.symm)) hne
  ·rw[hm]
  ·rw[hm]
 have hO:Q134.f N0 2 1 3=some (3,0):=by
  obtain⟨n,e,q1,q2⟩:=nh cq 2 1 3;have:Q141.f N0 2 1 3=some (3,0):=by kernel_rfl
  rw[this]at q2;rw[q1,←q2]
 unfold Q146.f;rw[hS];simp only[iA];rw[hO];simp only[List.map_cons,List.map_nil,dB,iA,z3,hgA];simp
end
section
open Go Go.Proofs.YtjpdjdhdchjcgaaGreat.Ev
open Go.Proofs.YtjpdjdhdchjcgaaGreat.Pure (cA)
open Go.Proofs.YtjpdjdhdchjcgaaGreat.Cls (fF vK rJ vU)
open Go.Proofs.YtjpdjdhdchjcgaaGreat.Srt (ct cf zF vF)
variable {d:Int}
theorem dT {i n:Nat}(h:i<n):decide ((i:Int)<(n:Int))=true:=decide_eq_true (by omega)
theorem dF {i n:Nat}(h:¬i<n):decide ((i:Int)<(n:Int))=false:=decide_eq_false (by omega)
end
section
open Go Go.Proofs.YtjpdjdhdchjcgaaGreat.Ev
open Go.Proofs.YtjpdjdhdchjcgaaGreat.Pure (cA ue La Pr Oo)
open Go.Proofs.YtjpdjdhdchjcgaaGreat.Cls (fF Rd aK jb vK rJ vU)
open Go.Proofs.YtjpdjdhdchjcgaaGreat.Srt (ct cf zF vF)
variable {d:Int}
theorem i9 (N:Nat){m:Int}(h0:0≤m)(h1:m<65536):∃d,Q144.f N m=some d∧fF d:=by
 have e1:Int.tmod m 20000=m%20000:=y0 h0;obtain⟨t,ht⟩:∃t,t=m%20000:=⟨_,rfl⟩
 have t0:0≤t∧t<20000:=by omega
 have e2:aA ((aA (0- (aA (Int.tmod m 20000))))-3)= -(t+3):=by rw[e1,←ht,cA (n:=t) (by omega) (by omega),cA (n:=0-t) (by omega) (by omega),cA (by omega) (by omega)];omega
 have e3:aA (-(t+3)-2)= -(t+5):=by rw[cA (by omega) (by omega)];omega
 have e4:Int.tmod (-(t+3)) 4= -((t+3)%4):=by rw[Int.neg_tmod,y0 (by omega)]
 unfold Q144.f;rw[e2,e3,e4];have hm:(t+3)%4=0∨(t+3)%4=1∨(t+3)%4=2∨(t+3)%4=3:=by omega
 rcases hm with hm|hm|hm|hm<;>rw[hm]
 ·exact⟨_,rfl,by omega,by omega,by omega⟩
 ·exact⟨_,rfl,by omega,by omega,by omega⟩
 ·exact⟨_,rfl,by omega,by omega,by omega⟩
 ·exact⟨_,rfl,by omega,by omega,by omega⟩
theorem fk {G:Type}:∀a b:List (G×Nat),np (a++b)=np a*np b
 | [],b=>(Nat.one_mul _).symm
 |g::a,b=>by simp only[List.cons_append,np];rw[fk a b,m0]
theorem Bi {G:Type}:∀a:List (G×Nat),np a.reverse=np a
 | []=>rfl
 |g::a=>by rw[List.reverse_cons,fk,Bi a];simp only[np,Nat.mul_one];rw[d2]
theorem tS {gs:List (K d×Nat)}{i:Nat}(h:i<gs.length):(gs.map fun g=>(g.2:Int)).getD i 0=(gs[i].2:Int):=by
 simp[iB,zB h]
theorem ib {n:Int}(h:(Lit.int .u16 n).wf=true):0≤n∧n<65536:=by
 simp[Lit.wf]at h;have h1:IntKind.u16.min=0:=by decide
 have h2:IntKind.u16.max=65535:=by decide
 omega
end
section
open Go Go.Proofs.YtjpdjdhdchjcgaaGreat.Ev
open Go.Proofs.YtjpdjdhdchjcgaaGreat.Pure (cA La Pr Oo lD tO bG pF dL fC wJ)
open Go.Proofs.YtjpdjdhdchjcgaaGreat.Cls (fF Rd aK vK rJ vU rW)
open Go.Proofs.YtjpdjdhdchjcgaaGreat.Srt (ct cf zF vF bJ)
variable {d:Int}
def ints (l:List Nat):List Int:=l.map fun(n:Nat)=>(n:Int)
theorem cS {l:List Nat}{i:Nat}(h:i<l.length):(ints l).getD i 0=(l[i]:Int):=by
 simp[ints,iB,zB h]
theorem uQ (gs:List (K d×Nat)):((dB (gs.map (·.1.1))).length/3:Int)=(gs.length:Int):=by
 have:=kG (gs.map (·.1));rw[List.map_map,hE]at this;exact this
theorem st {gs:List (K d×Nat)}{i:Nat}(h:i<gs.length):(dB (gs.map (·.1.1))).getD (i*3) 0=gs[i].1.1.1∧(dB (gs.map (·.1.1))).getD (i*3+1) 0=gs[i].1.1.2.1∧(dB (gs.map (·.1.1))).getD (i*3+2) 0=gs[i].1.1.2.2:=by
 have:=yT (L:=gs.map (·.1)) (i:=i) (by simpa using h);rw[List.map_map,List.getElem_map]at this;exact this
theorem xY {N:Nat}(hN:8589934600<N)(hd:fF d){gs:List (K d×Nat)}{es:List Nat}(hl:es.length=gs.length)(hg:gs.length≤45000)(hb:∀e∈es,e<9223372036854775807){R:Type}(x8 x9 x10:Int)(K0:Int→Int→Int→Int→Int→Int→Option R):∀(q i:Nat) (f:K d),i≤gs.length→gs.length-i<q→
  Q145.l3 N q (dB (gs.map (·.1.1))) (ints es) (i:Int) x8 x9 x10 f.1.1 f.1.2.1 f.1.2.2 K0=K0 x8 x9 x10 (mul hd f (val (dC hd) (gs.drop i) (es.drop i))).1.1 (mul hd f (val (dC hd) (gs.drop i) (es.drop i))).1.2.1 (mul hd f (val (dC hd) (gs.drop i) (es.drop i))).1.2.2
 |0,i,f,_,h=>by omega
 |q+1,i,f,hi,hq=>by
  have il:(ints es).length=gs.length:=by rw[ints,hE,hl]
  rw[Q145.l3,uQ,il];by_cases hlt:i<gs.length
  ·have hlt2:i<es.length:=by omega
   obtain⟨e1,e2,e3⟩:=st hlt;have he:=hb _ (aE hlt2);rw[ct (dT hlt),ct (dT hlt),ct (zF hlt),ct (zF hlt)];simp only[zA,e1,e2,e3,cS hlt2];rw[sQ hN hd gs[i].1 (n:=(es[i]:Int)) (by omega) (by omega)];simp only[iA,zA];rw[tT hN hd];simp only[iA];rw[cE (by omega),xY hN hd hl hg hb x8 x9 x10 K0 q (i+1) _ (by omega) (by omega),cD hlt,cD hlt2];have e:mul hd (mul hd f (pw (dC hd) gs[i].1 es[i])) (val (dC hd) (gs.drop (i+1)) (es.drop (i+1)))=mul hd f (val (dC hd) (gs[i]::gs.drop (i+1)) (es[i]::es.drop (i+1))):=(dC hd).assoc _ _ _;rw[e]
  ·have h0:gs.drop i=[]:=hT (by omega);have e:mul hd f (val (dC hd) [] (es.drop i))=f:=by rw[pE];exact(dC hd).mul_one f
   rw[cf (dF hlt),h0,e]
theorem ak {N:Nat}(hN:8589934600<N)(hd:fF d){gs:List (K d×Nat)}{es:List Nat}(hl:es.length=gs.length)(hg:gs.length≤45000)(hb:∀e∈es,e<9223372036854775807):Q145.f N d (dB (gs.map (·.1.1))) (ints es)=some (val (dC hd) gs es).1:=by
 unfold Q145.f;rw[uI N hd];simp only[iA];have:=xY hN hd hl hg hb 0 0 0 (fun y22 y23 y24 y25 y26 y27=>some (y25,y26,y27)) N 0 (one hd) (by omega) (by omega);have e:mul hd (one hd) (val (dC hd) gs es)=val (dC hd) gs es:=(dC hd).one_mul _;rw[pC,hW,hW,e]at this;exact this
theorem be {N:Nat}(hd:fF d)(z:K d):Q100.f N z.1.1 z.1.2.1 z.1.2.2=some true:=by
 obtain⟨h,hr,hs⟩:=rW hd z.2.1;have hck:Q48.f N z.1.1 z.1.2.1 z.1.2.2=some 0:=by
  rcases bG N z.1.1 z.1.2.1 z.1.2.2 with⟨_,h2⟩|⟨h2,_⟩
  ·exact h2
  ·exact absurd h h2
 unfold Q100.f;rw[hck];simp only[iA,beq_self_eq_true,cond_true];rw[pF N h.good,if_pos hr,if_neg hs];rfl
theorem ud {N:Nat}(hN:8589934600<N)(hd:fF d)(z:K d){n:Nat}(ho:vV (dC hd) z n):Q134.f N z.1.1 z.1.2.1 z.1.2.2=some ((n:Int),0):=by
 have hV:=z.val hd;obtain⟨a',b',c',r1,r2,r3,p,q,r,u,r4⟩:=lD hN hV;obtain⟨k,hk,hcl⟩:=mJ r2;have hkz:z=k:=vO hd hcl;subst hkz;obtain⟨k1,k2,k3⟩:=wj hk;obtain⟨L,gs,hP,_,_,hn,_,_⟩:=lI hN hd;have j1:=dS hN hd hV hcl;have hD:=(dl N hd z).1;have hA:Q133.f N z.1.1 z.1.2.1 z.1.2.2=some (z.1.1,z.1.2.1,z.1.2.2,(L.length:Int),0):=by unfold Q133.f;rw[j1];simp only[iA];rw[cf (by rfl),hD];simp only[iA];rw[hn];simp only[iA];rw[cf (by rfl),r4,k1,k2,k3];rfl
 have hL:=hP.fin;have hb:=hP.len;obtain⟨m,m1,m2,m3⟩:=aR hN hd z (hL.pos (dC hd)) (by omega) (rF hL z);have:m=n:=m1.uniq ho;subst this;unfold Q134.f;rw[hA];simp only[iA];rw[cf (by rfl),hD];simp only[iA];rw[uI N hd];simp only[iA];rw[m3];rfl
end
section
open Go Go.Proofs.YtjpdjdhdchjcgaaGreat.Ev
open Go.Proofs.YtjpdjdhdchjcgaaGreat.Pure (cA)
open Go.Proofs.YtjpdjdhdchjcgaaGreat.Cls (fF)
open Go.Proofs.YtjpdjdhdchjcgaaGreat.Srt (ct cf zF vF bJ)
section
variable {G:Type}{A:AG G}
def dg:List (G×Nat)→Nat→List Nat
 | [],_=>[]
 |g::gs,k=>(k%g.2)::dg gs (k/g.2)
theorem nx:∀(gs:List (G×Nat)) (k:Nat),(dg gs k).length=gs.length
 | [],_=>rfl
 |g::gs,k=>by simp only[dg,zE,nx gs]
theorem Ae:∀{gs:List (G×Nat)} (k:Nat),(∀g∈gs,0<g.2)→Sm gs (dg gs k)
 | [],_,_=>trivial
 |g::gs,k,h=>⟨Nat.mod_lt _ (h g (by simp)),Ae _ fun g hg=>h g (hX _ hg)⟩
theorem Ad:∀{gs:List (G×Nat)} {j k:Nat},j<np gs→k<np gs→dg gs j=dg gs k→j=k
 | [],j,k,h1,h2,_=>by simp only[np]at h1 h2;omega
 |g::gs,j,k,h1,h2,h=>by simp only[dg,List.cons.injEq]at h;simp only[np]at h1 h2;have e:=Ad (gs:=gs) (x3 h1) (x3 h2) h.2;rw[←Nat.div_add_mod j g.2,←Nat.div_add_mod k g.2,h.1,e]
theorem Sm.bound {b:Nat}:∀{gs:List (G×Nat)} {es:List Nat},(∀g∈gs,g.2≤b)→Sm gs es→∀e∈es,e<b
 | [],[],_,_,e,he=>by cases he
 |g::gs,x::es,h,hs,e,he=>by
  rcases d1.mp he with rfl|he
  ·exact Nat.lt_of_lt_of_le hs.1 (h g (by simp))
  ·exact Sm.bound (fun g hg=>h g (hX _ hg)) hs.2 e he
 | [],_::_,_,hs,_,_=>hs.elim
 |_::_,[],_,_,e,he=>by cases he
theorem Ds {a:List (G×Nat)}{i:Nat}(h:i<a.length):np (a.take (i+1))=np (a.take i)*a[i].2:=by
 rw[hU,zB h,fk];simp[np]
theorem Bh:∀{a:List (G×Nat)},(∀g∈a,0<g.2)→0<np a
 | [],_=>by simp[np]
 |g::a,h=>by simp only[np];exact Nat.mul_pos (h g (by simp)) (Bh fun g hg=>h g (hX _ hg))
theorem Gq {a:List (G×Nat)}(h:∀g∈a,0<g.2)(i:Nat):np (a.take i)≤np a:=by
 have:np a=np (a.take i)*np (a.drop i):=by rw[←fk,t3]
 rw[this];exact i0 _ (Bh fun g hg=>h g (v3 hg))
end
variable {d:Int}
abbrev rS (gs:List (K d×Nat)):List Int:=gs.map fun g=>(g.2:Int)
structure Kn (hd:fF d)(L:List (K d))(gs:List (K d×Nat)):Prop where
 fin:nf L
 len:L.length≤45000
 glen:gs.length≤45000
 uq:Uq (dC hd) gs
 big:∀g∈gs,1<g.2∧g.2≤45000
 up:gs.Pairwise (fun a b=>a.2∣b.2)
 count:np gs=L.length
 all:∀x,In (dC hd) gs x
theorem Pt.kn {hd:fF d}{L:List (K d)}{gs:List (K d×Nat)}(h:Pt hd L gs):Kn hd L gs:=by
 have hb:=h.len;refine⟨h.fin,h.len,h.glen,?_,fun g hg=>?_,?_,?_,fun x=>?_⟩
 ·have:=h.gen.uq.reverse;rwa[s0]at this
 ·have:=h.gen.big g (by simpa using hg);have:=h.gen.short h.fin (Nat.dvd_refl _) g (by simpa using hg);omega
 ·have:=h.gen.desc;rwa[List.pairwise_reverse]at this
 ·rw[←Bi];exact h.gen.count h.fin
 ·have:=(h.gen.all x (rF h.fin x)).reverse;rwa[s0]at this
theorem cM {N:Nat}(hN:8589934600<N){hd:fF d}{L:List (K d)}{gs:List (K d×Nat)}(h:Kn hd L gs){R:Type}(x8:Int)(k0:Int→List Int→List Int→Int→Int→Option R)(kr:Bool→Option R):∀(q i:Nat),i≤gs.length→gs.length-i<q→
  Q150.l8 N q d (dB (gs.map (·.1.1))) (rS gs) x8 ((np (gs.take i):Nat):Int) (i:Int) k0 kr=k0 d (dB (gs.map (·.1.1))) (rS gs) x8 ((np gs:Nat):Int)
 |0,i,_,hq=>by omega
 |q+1,i,hi,hq=>by
  have hol:(rS gs).length=gs.length:=by simp
  have hglen:=h.glen;rw[Q150.l8,hol,uQ];by_cases hlt:i<gs.length
  ·obtain⟨e1,e2,e3⟩:=st hlt;have hm:=aE hlt;have ho:=h.uq.ordOf hm;obtain⟨b1,b2⟩:=h.big _ hm;have hpos:∀g∈gs,0<g.2:=fun g hg=>by have:=(h.big g hg).1;omega
   have hnl:=Gq hpos (i+1);have hcount:=h.count;have hL:=h.len;have hw:aA ((np (gs.take i):Int)*(gs[i].2:Int))=((np (gs.take (i+1)):Nat):Int):=by rw[Ds hlt]at hnl⊢;rw[←f2,wU (by omega)]
   have oat:=tS hlt;rw[ct (dT hlt),ct (zF hlt)];simp only[zA,e1,e2,e3,oat];rw[ud hN hd gs[i].1 ho];simp only[iA];have step:(bif (decide (0≤(i:Int)))&&(decide ((i:Int)<(gs.length:Int)))then
      bif (gs[i].2:Int) != (gs[i].2:Int)then
       kr false
      else
      bif (decide (0≤(i:Int)))&&(decide ((i:Int)<(gs.length:Int)))then
       (Q100.f N gs[i].1.1.1 gs[i].1.1.2.1 gs[i].1.1.2.2).bind fun r15=>
       bif !r15 then
        kr false
       else
       bif (decide (0≤(i:Int)))&&(decide ((i:Int)<(gs.length:Int)))then
        (Q47.f N gs[i].1.1.1 gs[i].1.1.2.1 gs[i].1.1.2.2).bind fun r16=>
        bif r16 != d then
         kr false
        else
        bif (decide (0≤(i:Int)))&&(decide ((i:Int)<(gs.length:Int)))then
         Q150.l8 N q d (dB (gs.map (·.1.1))) (rS gs) x8 (aA ((np (gs.take i):Int)*(gs[i].2:Int))) (aA ((i:Int)+1)) k0 kr
        else none
       else none
      else none
     else none)=k0 d (dB (gs.map (·.1.1))) (rS gs) x8 ((np gs:Nat):Int):=by
    rw[ct (zF hlt),cf (by simp),ct (zF hlt),be hd];simp only[iA];rw[cf (by rfl),ct (zF hlt),(dl N hd _).1];simp only[iA];rw[cf (by simp),ct (zF hlt),hw,cE (by omega)];exact cM hN h x8 k0 kr q (i+1) (by omega) (by omega)
   rw[ct (zF hlt),cf (decide_eq_false (by omega))];by_cases h0:0<i
   ·have hlt1:i-1<gs.length:=by omega
    have hdv:gs[i-1].2∣gs[i].2:=(f1.mp h.up) (i-1) i hlt1 hlt (by omega);have hpp:=hpos _ (aE hlt1);rw[ct (decide_eq_true (by omega)),ct (zF hlt),bJ h0 (by omega),ct (zF hlt1)];simp only[zA,tS hlt1];rw[ct (de hpp),v6,d3 hdv,cf (by rfl),cf (by rfl)];exact step
   ·rw[cf (decide_eq_false (by omega)),cf (by rfl)];exact step
  ·rw[cf (dF hlt),xK (by omega)]
theorem jh (N:Nat){gs:List (K d×Nat)}(hg:gs.length≤45000)(hb:∀g∈gs,0<g.2){R:Type}(x35 x38 x39:Int)(x36:List Int)(x42:List (List Int))(x43:List Int)(K0:Int→List Int→List Int→Int→Int→List (List Int)→List Int→List Int→Option R):
  ∀(q i x:Nat) (pre:List Nat) (old:List Int),i≤gs.length→gs.length-i<q→x<1000000→pre.length=i→old.length=gs.length-i→
   Q150.l23 N q x35 x36 (rS gs) x38 x39 (x:Int) (i:Int) x42 x43 (ints pre++old) K0=K0 x35 x36 (rS gs) x38 x39 x42 x43 (ints (pre++dg (gs.drop i) x))
 |0,i,x,pre,old,_,h,_,_,_=>by omega
 |q+1,i,x,pre,old,hi,hq,hx,hp,ho=>by
  have hol:(rS gs).length=gs.length:=by simp
  have hpl:(ints pre).length=i:=by rw[ints,hE,hp]
  rw[Q150.l23,hol];by_cases hlt:i<gs.length
  ·have hrl:(ints pre++old).length=gs.length:=by rw[sS,hpl,ho];omega
   have hpos:=hb _ (aE hlt);have hdv:x/gs[i].2≤x:=Nat.div_le_self _ _;rw[ct (dT hlt),ct (zF hlt)];simp only[zA,tS hlt];rw[ct (de hpos),hrl,ct (zF hlt),ct (zF hlt),ct (de hpos),mi,wU (w0 hdv (by omega)),cE (by omega),v6];cases old with
   |nil=>simp at ho;omega
   |cons o old=>
    have es:(ints pre++o::old).set i ((x%gs[i].2:Nat):Int)=ints (pre++[x%gs[i].2])++old:=by rw[n0 _ _ (by omega),hpl,f4,d0];simp[ints]
    rw[es,jh N hg hb x35 x38 x39 x36 x42 x43 K0 q (i+1) (x/gs[i].2) (pre++[x%gs[i].2]) old (by omega) (by omega) (w0 hdv hx) (by simp[hp]) (by simp at ho;omega),cD hlt,dg];simp
  ·have:old=[]:=hR.mp (by omega);subst this;rw[cf (dF hlt),hT (by omega),dg];simp
theorem bg {N:Nat}(hN:8589934600<N){hd:fF d}{L:List (K d)}{gs:List (K d×Nat)}(h:Kn hd L gs){R:Type}(k2:Unit→Option R)(kr:Bool→Option R):∀(q k:Nat) (ks:List (List Int)) (vs:List Int) (row:List Int),k≤np gs→np gs-k<q→row.length=gs.length→
  Mp (fun z=>∃j,j<k∧z=val (dC hd) gs (dg gs j)) (fun _ v=>v=1) ks vs→Q150.l19 N q d (dB (gs.map (·.1.1))) (rS gs) ((np gs:Nat):Int) (k:Int) ks vs row k2 kr=k2 ()
 |0,k,ks,vs,row,_,hq,_,_=>by omega
 |q+1,k,ks,vs,row,hk,hq,hr,hM=>by
  have hnp:=h.count;have hL:=h.len;have hpos:∀g∈gs,0<g.2:=fun g hg=>by have:=(h.big g hg).1;omega
  rw[Q150.l19,vF];by_cases hlt:k<np gs
  ·have i1:k+1≤np gs:=hlt;have i2:np gs- (k+1)<q:=by omega
   have i3:k<9223372036854775807:=by omega
   rw[ct (decide_eq_true hlt)];have h23:=jh N h.glen hpos d ((np gs:Nat):Int) (k:Int) (dB (gs.map (·.1.1))) ks vs (fun y53 y54 y55 y56 y57 y58 y59 y60=>
     (Q145.f N y53 y54 y60).bind fun r61=>
     bif (decide (0≤(eE [r61.1,r61.2.1,r61.2.2] y58)))&&(decide ((eE [r61.1,r61.2.1,r61.2.2] y58)<((vB [r61.1,r61.2.1,r61.2.2] y58).length:Int)))then
      bif decide ((rE [r61.1,r61.2.1,r61.2.2] (vB [r61.1,r61.2.1,r61.2.2] y58) ((eG [r61.1,r61.2.1,r61.2.2] (rE [r61.1,r61.2.1,r61.2.2] y58 y59) y58 (List.take (List.length y58) y59)).set ((eE [r61.1,r61.2.1,r61.2.2] y58).toNat) (aA ((rE [r61.1,r61.2.1,r61.2.2] y58 y59)+1))))>1)then
       kr false
      else
      (Q100.f N r61.1 r61.2.1 r61.2.2).bind fun r63=>
      bif !r63 then
       kr false
      else
      Q150.l19 N q y53 y54 y55 y56 (aA (y57+1)) (vB [r61.1,r61.2.1,r61.2.2] y58) ((eG [r61.1,r61.2.1,r61.2.2] (rE [r61.1,r61.2.1,r61.2.2] y58 y59) y58 (List.take (List.length y58) y59)).set ((eE [r61.1,r61.2.1,r61.2.2] y58).toNat) (aA ((rE [r61.1,r61.2.1,r61.2.2] y58 y59)+1))) y60 k2 kr
     else none) N 0 k [] row (by omega) (by have:=h.glen;omega) (by omega) rfl (by omega)
   rw[hW,List.nil_append,pC]at h23;refine h23.trans ?_;have hsm:=Ae k hpos;have hlen:=nx gs k;have hbd:=Sm.bound (fun g hg=>(h.big g hg).2) hsm;rw[ak hN hd hlen h.glen (fun e he=>by have:=hbd e he;omega)];simp only[iA];generalize hz:val (dC hd) gs (dg gs k)=z;have hnew:¬ ∃j,j<k∧z=val (dC hd) gs (dg gs j):=fun⟨j,hj,e⟩=>by have hc:=h.uq.cong (h.fin.pos (dC hd)) (rF h.fin) hlen (nx gs j) (hz.trans e);have:=Ad hlt (show j<np gs by omega) (hc.eq hsm (Ae j hpos));omega
   have h0:=((hM.get z).resolve_left fun hS=>hnew hS.1).2;unfold key at h0;have hw:aA ((0:Int)+1)=1:=by decide
   have hput:=hM.put z (v:=1) rfl;have hg1:=((hput.get z).resolve_right fun hn=>hn.1 (.inr rfl)).2;unfold key at hput hg1;rw[ct me,tb hM.len,h0,hw,hg1,cf (by decide),be hd];simp only[iA];rw[cf (by rfl),cE i3];exact bg hN h k2 kr q (k+1) _ _ _ i1 i2 (by rw[ints,hE,hlen]) (hput.congr (fun y=>by
    constructor
    ·rintro(⟨j,hj,e⟩|rfl)
     ·exact⟨j,by omega,e⟩
     ·exact⟨k,by omega,hz.symm⟩
    ·rintro⟨j,hj,e⟩;by_cases hjk:j=k
     ·subst hjk;exact .inr (e.trans hz)
     ·exact .inl ⟨j,by omega,e⟩) (fun _ _ h=>h))
  ·rw[cf (decide_eq_false hlt)]
theorem jX {N:Nat}(hN:8589934600<N)(hw:Q146.f N=some true)(a:Int)(w:(Lit.int .u16 a).wf=true):Q150.f N a=some true:=by
 obtain⟨w1,w2⟩:=ib w;obtain⟨d,hdisc,hd⟩:=i9 N w1 w2;obtain⟨L,gs,hP,hC,hA,hn,hr,hg⟩:=lI hN hd;have h:=hP.kn;have hgl:=h.glen;have hcount:=h.count;have hLl:=h.len;have hS:=rK hN hP.glen hg;unfold Q150.f;rw[hdisc,iA,hS,iA,hn,iA];have hol:(rS gs).length=gs.length:=by simp
 rw[cf (by rfl),cf (by rfl),uQ,hol,cf (by simp)];have h8:=cM hN h (L.length:Int) (fun y22 y23 y24 y25 y26=>
   bif y26 != y25 then
    some false
   else
   bif decide ((y24.length:Int)=(y24.length:Int))&&decide (0≤(y24.length:Int))&&decide ((y24.length:Int)≤9223372036854775807)&&fB ((y24.length:Int).toNat) 8 then
    Q150.l19 N N y22 y23 y24 y26 0 [] [] (List.replicate ((y24.length:Int).toNat) (0:Int))
     (fun(_:Unit)=>
      (Q146.f N).bind fun r64=>
      some r64)
     (fun y65=>
      some y65)
   else none) (fun y66=>some y66) N 0 (by omega) (by omega)
 have z1:np ([]:List (K d×Nat))=1:=rfl;rw[g0,z1,pC,o0]at h8;refine h8.trans ?_;rw[hcount,cf (by simp),hol,zA];have hroom:(decide ((gs.length:Int)=(gs.length:Int))&&decide (0≤(gs.length:Int))&&decide ((gs.length:Int)≤9223372036854775807)&&fB gs.length 8)=true:=by rw[decide_eq_true rfl,decide_eq_true (show(0:Int)≤(gs.length:Int) by omega),decide_eq_true (show(gs.length:Int)≤9223372036854775807 by omega)];simp only[fB,Bool.and_self,Bool.true_and,decide_eq_true_eq];omega
 rw[ct hroom];have h19:=bg hN h (fun(_:Unit)=>(Q146.f N).bind fun r64=>some r64) (fun y65=>some y65) N 0 [] [] (List.replicate gs.length (0:Int)) (by omega) (by omega) (by simp) (Mp.nil fun z ⟨j,hj,_⟩=>by omega);rw[pC,hcount]at h19;refine h19.trans ?_;rw[hw];rfl
end
section
open Go Go.Proofs.YtjpdjdhdchjcgaaGreat.Ev
open Go.Proofs.YtjpdjdhdchjcgaaGreat.Pure (cA)
open Go.Proofs.YtjpdjdhdchjcgaaGreat.Cls (fF)
open Go.Proofs.YtjpdjdhdchjcgaaGreat.Srt (R4 uB ct cf zF vF bJ)
variable {d:Int}
abbrev F4 (gs:List (K d×Nat)):List Int:=uB (gs.map cF)
theorem C4 {pre:List Int}{o:Int}{post:List Int}{i:Nat}(h:pre.length=i):(pre++o::post).getD i 0=o:=by
 subst h;simp[iB]
theorem ul {pre:List Int}{o x:Int}{post:List Int}{i:Nat}(h:pre.length=i):(pre++o::post).set i x=pre++x::post:=by
 subst h;rw[n0 _ _ (a0 _),f4,d0]
def Wk (hd:fF d)(gs:List (K d×Nat))(z:K d)(i:Nat)(a:K d)(pre:List Int)(m:Nat)(b:Bool)(row':List Int):Prop:=
 ∃post':List Int,row'=pre++post'∧post'.length=m∧(b=true→∃es,Sm (gs.drop i) es∧mul hd a (val (dC hd) (gs.drop i) es)=z∧post'=ints es)∧(b=false→∀es,Sm (gs.drop i) es→mul hd a (val (dC hd) (gs.drop i) es)≠z)
theorem vf {N:Nat}(hN:8589934600<N)(hd:fF d){gs:List (K d×Nat)}(hg:gs.length≤45000)(z:K d){i:Nat}(hlt:i<gs.length)(hb:gs[i].2≤45000)(a:K d)(g:Int→Int→Int→Int→List Int→Int→Int→Int→List Int→Option (Bool×List Int×Int×Int×Int×List Int))
  (hgs:∀(a':K d) (pre post:List Int),pre.length=i+1→post.length=gs.length- (i+1)→∃b row',g ((i+1:Nat):Int) a'.1.1 a'.1.2.1 a'.1.2.2 (F4 gs) z.1.1 z.1.2.1 z.1.2.2 (pre++post)=some (b,F4 gs,z.1.1,z.1.2.1,z.1.2.2,row')∧Wk hd gs z (i+1) a' pre (gs.length- (i+1)) b row')
  (pre:List Int)(hp:pre.length=i):∀(q k:Nat) (post:List Int),post.length=gs.length- (i+1)→k≤gs[i].2→gs[i].2-k<q→(∀e es,e<k→Sm (gs.drop (i+1)) es→mul hd (mul hd a (pw (dC hd) gs[i].1 e)) (val (dC hd) (gs.drop (i+1)) es)≠z)→
   ∃b row',Q135.l4 g N q (i:Int) (F4 gs) z.1.1 z.1.2.1 z.1.2.2 (pre++(k:Int)::post) (mul hd a (pw (dC hd) gs[i].1 k)).1.1 (mul hd a (pw (dC hd) gs[i].1 k)).1.2.1 (mul hd a (pw (dC hd) gs[i].1 k)).1.2.2 (fun y37 y38 y39 y40 y41=>some (false,y37,y38,y39,y40,y41)) (fun y47 y48 y49 y50 y51 y52=>some (y47,y48,y49,y50,y51,y52))=some (b,F4 gs,z.1.1,z.1.2.1,z.1.2.2,row')∧Wk hd gs z i a pre (gs.length-i) b row'
 |0,k,post,_,_,h,_=>by omega
 |q+1,k,post,hpo,hk,hq,hno=>by
  have hrl:∀(x:Int) (p:List Int),p.length=gs.length- (i+1)→(pre++x::p).length=gs.length:=fun x p h=>by rw[sS,zE,hp,h];omega
  obtain⟨e1,e2,e3,e4⟩:=zT hlt;have hassoc:∀(e:Nat) (es:List Nat),mul hd (mul hd a (pw (dC hd) gs[i].1 e)) (val (dC hd) (gs.drop (i+1)) es)=mul hd a (val (dC hd) (gs.drop i) (e::es)):=fun e es=>by rw[cD hlt];exact(dC hd).assoc _ _ _
  rw[Q135.l4,hrl _ _ hpo,ct (zF hlt),wE,ct (zF hlt)];simp only[zA,C4 hp,e4];by_cases hkl:k<gs[i].2
  ·rw[ct (dT hkl),cE (by omega)];obtain⟨b,row',g1,post',g2,g3,g4,g5⟩:=hgs (mul hd a (pw (dC hd) gs[i].1 k)) (pre++[(k:Int)]) post (by simp[hp]) hpo;rw[List.append_assoc,List.singleton_append]at g1 g2;rw[g1];simp only[iA];cases b with
   |true=>
    obtain⟨es,s1,s2,s3⟩:=g4 rfl;refine⟨true,row',by rw[cond_true],(k:Int)::post',g2,by rw[zE,g3];omega,fun _=>⟨k::es,?_,?_,by rw[s3];rfl⟩,fun h=>(by cases h)⟩
    ·rw[cD hlt];exact⟨hkl,s1⟩
    ·rw[←hassoc];exact s2
   |false=>
    have g5:=g5 rfl;rw[cond_false,wE,ct (zF hlt)];simp only[e1,e2,e3];rw[tK hN hd];simp only[iA];rw[g2,hrl _ _ g3,ct (zF hlt),ct (zF hlt),C4 hp,ul hp,cE (by omega)];have e:mul hd (mul hd a (pw (dC hd) gs[i].1 k)) gs[i].1=mul hd a (pw (dC hd) gs[i].1 (k+1)):=(dC hd).assoc _ _ _;rw[e];refine vf hN hd hg z hlt hb a g hgs pre hp q (k+1) post' g3 hkl (by omega) (fun e es he hs=>?_);by_cases hek:e=k
    ·subst hek;exact g5 es hs
    ·exact hno e es (by omega) hs
  ·rw[cf (dF hkl)];refine⟨false,_,rfl,(k:Int)::post,rfl,by rw[zE,hpo];omega,fun h=>(by cases h),fun _ es hs=>?_⟩;rw[cD hlt]at hs⊢;cases es with
   |nil=>exact hs.elim
   |cons e es=>have:=hno e es (by have:=hs.1;omega) hs.2;rw[hassoc,cD hlt]at this;exact this
theorem Cs {N:Nat}(hN:8589934600<N)(hd:fF d){gs:List (K d×Nat)}(hg:gs.length≤45000)(hb:∀g∈gs,g.2≤45000)(z:K d):∀(m i:Nat) (a:K d) (pre post:List Int),i≤gs.length→gs.length-i<m→pre.length=i→post.length=gs.length-i→
  ∃b row',Q135.g N m (i:Int) a.1.1 a.1.2.1 a.1.2.2 (F4 gs) z.1.1 z.1.2.1 z.1.2.2 (pre++post)=some (b,F4 gs,z.1.1,z.1.2.1,z.1.2.2,row')∧Wk hd gs z i a pre (gs.length-i) b row'
 |0,i,a,pre,post,_,h,_,_=>by omega
 |m+1,i,a,pre,post,hi,hm,hp,hpo=>by
  rw[Q135.g,Q135.step,wE];by_cases hlt:i<gs.length
  ·rw[cf (beq_eq_false_iff_ne.mpr (by omega))];cases post with
   |nil=>simp at hpo;omega
   |cons o post=>
    have hpo':post.length=gs.length- (i+1):=by simp at hpo;omega
    have hl:(pre++o::post).length=gs.length:=by rw[sS,zE,hp,hpo'];omega
    rw[hl,ct (zF hlt),zA,ul hp];have:=vf hN hd hg z hlt (hb _ (aE hlt)) a (Q135.g N m) (fun a' pre' post' h1 h2=>Cs hN hd hg hb z m (i+1) a' pre' post' hlt (by omega) h1 h2) pre hp N 0 post hpo' (by omega) (by have:=hb _ (aE hlt);omega) (fun e es he=>by omega);have e:mul hd a (pw (dC hd) gs[i].1 0)=a:=(dC hd).mul_one a;rw[e,pC]at this;exact this
  ·have hie:i=gs.length:=by omega
   subst hie;rw[ct (by simp)];have hd0:gs.drop gs.length=[]:=hT (a0 _);have hz:post=[]:=hR.mp (by omega);subst hz;refine⟨_,_,rfl,[],rfl,by simp,fun h=>⟨[],?_,?_,rfl⟩,fun h es hs=>?_⟩
   ·rw[hd0];trivial
   ·rw[hd0,pE];have:=(Ep a z).mp h;rw[←this];exact(dC hd).mul_one a
   ·rw[hd0,pE];intro he;have:a=z:=((dC hd).mul_one a).symm.trans he;rw[(Ep a z).mpr this]at h;cases h
theorem wT {N:Nat}(hN:8589934600<N)(hd:fF d){L:List (K d)}{gs:List (K d×Nat)}(h:Kn hd L gs)(hg:Q131.f N d=some (F4 gs,0))(z:K d):∃es,Sm gs es∧val (dC hd) gs es=z∧Q136.f N z.1.1 z.1.2.1 z.1.2.2=some (ints es,0):=by
 have hV:=z.val hd;obtain⟨a',b',c',r1,r2,r3,p,q,r,u,r4⟩:=Pure.lD hN hV;obtain⟨k,hk,hcl⟩:=mJ r2;have hkz:z=k:=vO hd hcl;subst hkz;obtain⟨k1,k2,k3⟩:=wj hk;obtain⟨L',gs',hP',_,_,hn,_,_⟩:=lI hN hd;have hL':=hP'.fin.pos (dC hd);have hgl:=h.glen;have j1:=dS hN hd hV hcl;have hD:=(dl N hd z).1;have hA:Q133.f N z.1.1 z.1.2.1 z.1.2.2=some (z.1.1,z.1.2.1,z.1.2.2,(L'.length:Int),0):=by unfold Q133.f;rw[j1];simp only[iA];rw[cf (by rfl),hD];simp only[iA];rw[hn];simp only[iA];rw[cf (by rfl),r4,k1,k2,k3];rfl
 obtain⟨b,row',w1,post',w2,w3,w4,w5⟩:=Cs hN hd h.glen (fun g hg=>(h.big g hg).2) z N 0 (one hd) [] (List.replicate gs.length (0:Int)) (by omega) (by omega) rfl (by simp);rw[List.nil_append]at w1 w2;subst w2;rw[hW]at w4 w5;have hb:b=true:=by
  cases b with
  |true=>rfl
  |false=>obtain⟨es,s1,s2⟩:=(h.all z).small h.uq;refine absurd ?_ (w5 rfl es s1);rw[←s2];exact(dC hd).one_mul _
 obtain⟨es,s1,s2,s3⟩:=w4 hb;subst s3;refine⟨es,s1,((dC hd).one_mul _).symm.trans s2,?_⟩;unfold Q136.f;rw[hA,iA,cf (by rfl),hD,iA,hg,iA,iA,uI N hd,iA];dsimp only;have hroom:(decide ((gs.length:Int)=(gs.length:Int))&&decide (0≤(gs.length:Int))&&decide ((gs.length:Int)≤9223372036854775807)&&fB gs.length 8)=true:=by rw[decide_eq_true rfl,decide_eq_true (show(0:Int)≤(gs.length:Int) by omega),decide_eq_true (show(gs.length:Int)≤9223372036854775807 by omega)];simp only[fB,Bool.and_self,Bool.true_and,decide_eq_true_eq];omega
 rw[wE,zA,ct hroom,ct (decide_eq_true (by omega))];unfold Q135.f;rw[pC]at w1;rw[w1];rfl
end
section
open Go Go.Proofs.YtjpdjdhdchjcgaaGreat.Ev
open Go.Proofs.YtjpdjdhdchjcgaaGreat.Pure (cA)
open Go.Proofs.YtjpdjdhdchjcgaaGreat.Cls (fF)
open Go.Proofs.YtjpdjdhdchjcgaaGreat.Srt (R4 uB ct cf zF vF bJ fW)
section
variable {G:Type}{A:AG G}
theorem Sm.at:∀{gs:List (G×Nat)} {es:List Nat} (h:Sm gs es) {i:Nat} (hi:i<gs.length) (hj:i<es.length),es[i]<gs[i].2
 |g::gs,e::es,h,0,_,_=>h.1
 |g::gs,e::es,h,i+1,hi,hj=>by have:=Sm.at h.2 (i:=i) (by simpa using hi) (by simpa using hj);simpa using this
theorem Cg.at:∀{gs:List (G×Nat)} {es fs cs:List Nat} (h:Cg gs (xV es fs) cs) {i:Nat} (hi:i<gs.length) (h1:i<es.length) (h2:i<fs.length) (h3:i<cs.length),(es[i]+fs[i])%gs[i].2=cs[i]%gs[i].2
 |g::gs,e::es,f::fs,c::cs,h,0,_,_,_,_=>h.1
 |g::gs,e::es,f::fs,c::cs,h,i+1,hi,h1,h2,h3=>by have:=Cg.at (es:=es) (fs:=fs) h.2 (i:=i) (by simpa using hi) (by simpa using h1) (by simpa using h2) (by simpa using h3);simpa using this
end
variable {d:Int}
theorem mR (N:Nat){gs:List (K d×Nat)}(hg:gs.length≤45000)(hb:∀g∈gs,1<g.2∧g.2≤45000){es bs cs:List Nat}(ha:Sm gs es)(hbs:Sm gs bs)(hc:Sm gs cs)(hcg:Cg gs (xV es bs) cs){R:Type}(x12 x18 x19 x20:Int)(k0:Int→List Int→Int→Int→Int→Option R)(kr:Bool→Option R):∀(q i:Nat),i≤gs.length→gs.length-i<q→
  Q151.l15 N q x12 (rS gs) (ints es) (ints bs) (ints cs) (i:Int) x18 x19 x20 k0 kr=k0 x12 (rS gs) x18 x19 x20
 |0,i,_,h=>by omega
 |q+1,i,hi,hq=>by
  have la:=ha.len;have lb:=hbs.len;have lc:=hc.len;have ho:(rS gs).length=gs.length:=by simp
  have l1:(ints es).length=gs.length:=by rw[ints,hE,la]
  have l2:(ints bs).length=gs.length:=by rw[ints,hE,lb]
  have l3:(ints cs).length=gs.length:=by rw[ints,hE,lc]
  rw[Q151.l15,ho,l1,l2,l3];by_cases hlt:i<gs.length
  ·have s1:=ha.at hlt (by omega);have s2:=hbs.at hlt (by omega);have s3:=hc.at hlt (by omega);have s4:=hcg.at hlt (by omega) (by omega) (by omega);obtain⟨b1,b2⟩:=hb _ (aE hlt);rw[ct (dT hlt),ct (zF hlt)];simp only[zA,cS (show i<es.length by omega),cS (show i<bs.length by omega),cS (show i<cs.length by omega),tS hlt];rw[Nat.mod_eq_of_lt s3]at s4;rw[cf (decide_eq_false (by omega)),ct (zF hlt),ct (zF hlt),cf (decide_eq_false (by omega)),ct (zF hlt),ct (zF hlt),ct (zF hlt),ct (de (by omega)),ct (zF hlt),fW (by omega),v6,s4,cf (by simp),cE (by omega)];exact mR N hg hb ha hbs hc hcg x12 x18 x19 x20 k0 kr q (i+1) (by omega) (by omega)
  ·rw[cf (dF hlt)]
theorem ui {L:List (K d)}{x:Int}(hL:0<L.length)(hb:L.length≤45000)(h0:0≤x)(h1:x<65536):∃i,∃hi:i<L.length,Int.tmod (aA x) (L.length:Int)=(i:Int):=by
 obtain⟨n,rfl⟩:=Int.eq_ofNat_of_zero_le h0;refine⟨n%L.length,Nat.mod_lt _ hL,?_⟩;have e:aA (n:Int)=(n:Int):=wU (by omega);rw[e,v6]
theorem cY {N:Nat}(hN:8589934600<N)(hw:Q146.f N=some true)(a b c:Int)(w:(Lit.int .u16 a).wf=true)(u:(Lit.int .u16 b).wf=true)(v:(Lit.int .u16 c).wf=true):Q151.f N a b c=some true:=by
 obtain⟨w1,w2⟩:=ib w;obtain⟨u1,u2⟩:=ib u;obtain⟨v1,v2⟩:=ib v;obtain⟨d,hdisc,hd⟩:=i9 N w1 w2;obtain⟨L,gs,hP,hC,hA,hn,hr,hg⟩:=lI hN hd;have h:=hP.kn;have hgl:=h.glen;have hLl:=h.len;have hL0:=h.fin.pos (dC hd);have hS:=rK hN hP.glen hg;obtain⟨i,hi,ei⟩:=ui hL0 hLl u1 u2;obtain⟨j,hj,ej⟩:=ui hL0 hLl v1 v2;obtain⟨i1,i2,i3⟩:=yT hi;obtain⟨j1,j2,j3⟩:=yT hj;generalize hx:L[i]=x at*;generalize hy:L[j]=y at*;obtain⟨es,a1,a2,a3⟩:=wT hN hd h hg x;obtain⟨bs,b1,b2,b3⟩:=wT hN hd h hg y;obtain⟨cs,c1,c2,c3⟩:=wT hN hd h hg (mul hd x y);have la:=a1.len;have lb:=b1.len;have lc:=c1.len;have hcg:Cg gs (xV es bs) cs:=by refine h.uq.cong hL0 (rF h.fin) (by rw[lR (by omega),la]) lc ?_;rw[aX la lb,a2,b2,c2];rfl
 obtain⟨n,ho⟩:=zQ hL0 (rF (A:=dC hd) h.fin x);have hnl:=hH hL0 ((ho.2 _).mp (rF h.fin x));have hn0:=ho.1;have hbd:=Sm.bound (fun g hg=>(h.big g hg).2) a1;unfold Q151.f;rw[hdisc,iA,hA,iA,hS,iA,cf (by rfl),cf (by rfl)];dsimp only;have hLne:(((L.length:Nat):Int)==0)=false:=beq_eq_false_iff_ne.mpr (by omega);rw[kG,cf hLne,ct (by rw[hLne];rfl),ei,ct (zF hi),ct (by rw[hLne];rfl),ej,ct (zF hj),zA,zA,i1,i2,i3,j1,j2,j3,tT hN hd,iA,a3,iA,b3,iA];dsimp only;rw[c3,iA,cf (by rfl),cf (by rfl),cf (by rfl)];dsimp only;have ol:(rS gs).length=gs.length:=by simp
 have l1:(ints es).length=gs.length:=by rw[ints,hE,la]
 have l2:(ints bs).length=gs.length:=by rw[ints,hE,lb]
 have l3:(ints cs).length=gs.length:=by rw[ints,hE,lc]
 rw[cf (by rw[l1,ol];simp),cf (by rw[l2,ol];simp),cf (by rw[l3,ol];simp),ak hN hd la hgl (fun e he=>by have:=hbd e he;omega),iA,a2,cf (by simp)];have h15:=mR N hgl h.big a1 b1 c1 hcg d x.1.1 x.1.2.1 x.1.2.2 (fun y27 y28 y29 y30 y31=>
       (Q134.f N y29 y30 y31).bind fun r32=>
       (Q88.f N y29 y30 y31 r32.1).bind fun r33=>
       (Q83.f N y27).bind fun r34=>
       bif r32.2==0 then
        bif (r33.1==r34.1)&&((r33.2.1==r34.2.1)&&(r33.2.2.1==r34.2.2.1))then
         bif (y28.length:Int)==0 then
          bif r32.1==1 then
           (Q146.f N).bind fun r35=>
           some r35
          else
          bif decide ((y28.length:Int)>0)then
           bif (decide (0≤(aA ((y28.length:Int)-1))))&&(decide ((aA ((y28.length:Int)-1))<(y28.length:Int)))then
            bif !(r32.1==0)then
             bif (Int.tmod (y28.getD ((aA ((y28.length:Int)-1)).toNat) 0) r32.1)==0 then
              (Q146.f N).bind fun r36=>
              some r36
             else
             some false
            else none
           else none
          else
          some false
         else
         bif decide ((y28.length:Int)>0)then
          bif (decide (0≤(aA ((y28.length:Int)-1))))&&(decide ((aA ((y28.length:Int)-1))<(y28.length:Int)))then
           bif !(r32.1==0)then
            bif (Int.tmod (y28.getD ((aA ((y28.length:Int)-1)).toNat) 0) r32.1)==0 then
             (Q146.f N).bind fun r37=>
             some r37
            else
            some false
           else none
          else none
         else
         some false
        else
        some false
       else
       some false) (fun y38=>some y38) N 0 (by omega) (by omega)
 rw[pC]at h15;refine h15.trans ?_;rw[ud hN hd x ho,iA];dsimp only;rw[sQ hN hd x (n:=(n:Int)) (by omega) (by omega),iA,uI N hd,iA,ct (by rfl)];dsimp only;have hpw:pw (dC hd) x (Int.toNat (n:Int))=one hd:=by rw[zA];exact ho.kill
 rw[hpw,ct (by simp),ol];by_cases hz:gs.length=0
 ·have hgs:gs=[]:=hR.mp hz;have hn1:n=1:=by
   subst hgs;obtain⟨es,_,e2⟩:=h.all x;rw[pE]at e2;have:pw (dC hd) x 1=(dC hd).one:=by rw[sH];exact e2.symm
   exact Nat.dvd_one.mp ((ho.2 1).mp this)
  rw[ct (by rw[hz];rfl),ct (by rw[hn1];rfl),hw];rfl
 ·have hlt1:gs.length-1<gs.length:=by omega
  have hdv:n∣gs[gs.length-1].2:=by
   refine(ho.2 _).mp ?_;refine In.kill (fun g hg=>?_) (h.all x);obtain⟨k,hk,rfl⟩:=hI hg;refine xE (h.uq.ord _ hg).2 ?_;by_cases hkl:k=gs.length-1
   ·subst hkl;exact Nat.dvd_refl _
   ·exact(f1.mp h.up) k (gs.length-1) hk hlt1 (by omega)
  rw[cf (beq_eq_false_iff_ne.mpr (by omega)),ct (decide_eq_true (by omega)),bJ (by omega) (by omega),ct (zF hlt1),ct (de hn0),zA,tS hlt1,v6,d3 hdv,ct (by rfl),hw];rfl
theorem GroupExponents (a b c:Int)(w:(Lit.int .u16 a).wf=true)(u:(Lit.int .u16 b).wf=true)(v:(Lit.int .u16 c).wf=true):∃N,Q151.f N a b c=some true:=⟨N0,cY cq rh a b c w u v⟩
end
section
variable {G:Type}
def tw (f:Nat→Nat):List (G×Nat)→List Nat
 | []=>[]
 |g::gs=>if f g.2=1 then []else f g.2::tw f gs
def Fn (q:Nat):List (G×Nat)→Nat
 | []=>0
 |g::gs=>if q∣g.2 then Fn q gs+1 else 0
end
section
open Go Go.Proofs.YtjpdjdhdchjcgaaGreat.Ev
open Go.Proofs.YtjpdjdhdchjcgaaGreat.Pure (cA)
open Go.Proofs.YtjpdjdhdchjcgaaGreat.Cls (fF vK vU)
open Go.Proofs.YtjpdjdhdchjcgaaGreat.Srt (R4 uB ct cf zF vF bJ fW)
variable {d:Int}
theorem js (l:List Nat):(ints l).length=l.length:=by simp[ints]
theorem wo (l:List Nat)(n:Nat):ints l++[(n:Int)]=ints (l++[n]):=by simp[ints]
end
section
open Go Go.Proofs.YtjpdjdhdchjcgaaGreat.Ev
open Go.Proofs.YtjpdjdhdchjcgaaGreat.Pure (cA)
open Go.Proofs.YtjpdjdhdchjcgaaGreat.Cls (fF vK vU)
open Go.Proofs.YtjpdjdhdchjcgaaGreat.Srt (R4 uB ct cf zF vF bJ fW)
variable {d:Int}
theorem sJ (N:Nat){os:List Nat}(hl:os.length≤45000){R:Type}(k:List Int→Option R):∀(q i:Nat),i≤os.length→i<q→
  Q139.l36 N q (((i:Nat):Int)-1) (ints os) (ints (os.drop i).reverse) k=k (ints os.reverse)
 |0,i,_,h=>by omega
 |q+1,i,hi,hq=>by
  rw[Q139.l36];cases i with
  |zero=>rw[cf (decide_eq_false (by simp)),hW]
  |succ i=>
   have e:((i+1:Nat):Int)-1=(i:Int):=by omega
   have hroom:fB ((ints (os.drop (i+1)).reverse).length+1) 8=true:=by rw[js];simp only[fB,decide_eq_true_eq,a4,List.length_drop];omega
   rw[e,ct (decide_eq_true (by omega)),js,ct (zF (show i<os.length by omega)),ct hroom,zA,cS (show i<os.length by omega),wo];have e2:(os.drop (i+1)).reverse++[os[i]]=(os.drop i).reverse:=by rw[cD (show i<os.length by omega),List.reverse_cons]
   have e3:aA ((i:Int)-1)=(i:Int)-1:=cA (by omega) (by omega);rw[e2,e3];exact sJ N hl k q i (by omega) (by omega)
end
end Go.Proofs.YtjpdjdhdchjcgaaGreat.Grp
