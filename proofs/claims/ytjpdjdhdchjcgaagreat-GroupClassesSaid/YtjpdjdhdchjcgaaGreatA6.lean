import Derived.Test.YtjpdjdhdchjcgaaGreatA5
open Option renaming bind_some→iA
open List renaming getD_eq_getElem?_getD→zA,getElem?_eq_getElem→zB,getElem_mem→cD,length_map→aE,drop_eq_getElem_cons→hE,take_of_length_le→zE,getElem_of_mem→hI,take_succ_cons→xK,take_add_one→yK,mem_cons_of_mem→hR,drop_zero→hX,take_zero→iX,drop_eq_nil_of_le→c0,getElem_cons_succ→d0,length_cons→g0,map_append→j0,mem_append_left→l0,reverse_reverse→m0,mem_map_of_mem→n0,length_append→p0,mem_singleton→q0,set_cons_zero→s0,mem_cons→w0,length_eq_zero_iff→a1,mem_range→f1,set_append_right→v1,take_append_drop→a2,mem_of_mem_drop→d2,getD_cons_zero→v2,length_reverse→a3,mem_map→d3
open Int renaming toNat_natCast→iB,natCast_zero→pC,natCast_one→i0,tmod_eq_emod_of_nonneg→v0,natCast_mul→d1
open Nat renaming le_of_dvd→hH,min_eq_right→sS,mul_le_mul_left→hT,min_eq_left→hU,mul_succ→hW,le_mul_of_pos_right→a0,mul_left_comm→b0,mul_assoc→f0,le_refl→o0,lt_of_le_of_lt→u0,mul_comm→y0,div_lt_of_lt_mul→f2
set_option linter.unusedVariables false
set_option linter.unusedSimpArgs false
namespace Go.Proofs.YtjpdjdhdchjcgaaGreat.Srt
open Go Go.Proofs.YtjpdjdhdchjcgaaGreat.Ev
open Go.Proofs.YtjpdjdhdchjcgaaGreat.Pure (fA jW)
open Go.Proofs.YtjpdjdhdchjcgaaGreat.Grp (bW rE)
theorem mo {N:Nat}(hN:2000010<N){n:Nat}(hn:n≤1000000){a m b:Nat}{f:Nat→R4}(hf:Bd f)(ham:a<m)(hmb:m<b)(hbn:b≤n)(h1:Dn f a m)(h2:Dn f m b):
  ∃f',Q123.f N (a:Int) (m:Int) (b:Int) (F f n)=some (F f' n)∧Mv n f f' a b∧Dn f' a b:=Co hN hn N a m b f hf ham hmb hbn h1 h2 (by omega)
def Bl (f:Nat→R4)(s n:Nat):Prop:=∀k,Dn f (s*k) (min (s*k+s) n)
theorem I6 {N:Nat}(hN:2000010<N){n:Nat}(hn:n≤1000000){R:Type}(K:Int→Int→Int→List Int→Option R):∀(q t:Nat) (f:Nat→R4),Bd f→20*t≤n→n-20*t<q→(∀k,k<t→Dn f (20*k) (20*k+20))→
  ∃f' t',Q124.l2 N q (n:Int) 20 ((20*t:Nat):Int) ((20*t+20:Nat):Int) (F f n) K=K (n:Int) 20 ((20*t':Nat):Int) (F f' n)∧Mv n f f' 0 n∧20*t'≤n∧n<20*t'+20∧∀k,k<t'→Dn f' (20*k) (20*k+20)
 |0,t,f,_,_,h,_=>by omega
 |q+1,t,f,hf,ht,hq,hd=>by
  rw[Q124.l2];by_cases hle:20*t+20≤n
  ·rw[ct (decide_eq_true (show((20*t+20:Nat):Int)≤(n:Int) by omega))];obtain⟨g,g1,g2,g3⟩:=jt (N:=N) (by omega) (a:=20*t) hle hn (by omega) hf;rw[g1];simp only[iA];have e1:aA (((20*t+20:Nat):Int)+20)=((20*(t+1)+20:Nat):Int):=by rw[fA (by omega) (by omega)];omega
   have e2:((20*t+20:Nat):Int)=((20*(t+1):Nat):Int):=by omega
   rw[e1,e2];obtain⟨f',t',r1,r2,r3⟩:=I6 hN hn K q (t+1) g (g2.bd hf) (by omega) (by omega) (fun k hk=>by
    by_cases e:k=t
    ·subst e;exact g3
    ·exact(hd k (by omega)).same fun i q1 q2=>g2.out i (by omega))
   exact⟨f',t',r1,(g2.mono (by omega) hle).trans r2,r3⟩
  ·rw[cf (decide_eq_false (show ¬((20*t+20:Nat):Int)≤(n:Int) by omega))];exact⟨f,t,rfl,Mv.refl _ _ _ _,ht,by omega,hd⟩
theorem I7 {N:Nat}(hN:2000010<N){n s:Nat}(hn:n≤1000000)(hs:0<s)(hsn:s<n){R:Type}(K:Int→Int→Int→List Int→Option R):∀(q t:Nat) (f:Nat→R4),Bd f→2*s*t≤n→n-2*s*t<q→(∀k,k<t→Dn f (2*s*k) (2*s*k+2*s))→(∀k,2*t≤k→Dn f (s*k) (min (s*k+s) n))→
  ∃f' t',Q124.l9 N q (n:Int) (s:Int) ((2*s*t:Nat):Int) ((2*s*t+2*s:Nat):Int) (F f n) K=K (n:Int) (s:Int) ((2*s*t':Nat):Int) (F f' n)∧Mv n f f' 0 n∧2*s*t'≤n∧n<2*s*t'+2*s∧(∀k,k<t'→Dn f' (2*s*k) (2*s*k+2*s))∧(∀k,2*t'≤k→Dn f' (s*k) (min (s*k+s) n))
 |0,t,f,_,_,h,_,_=>by omega
 |q+1,t,f,hf,ht,hq,hd,hd2=>by
  rw[Q124.l9];have m1:2*s*(t+1)=2*s*t+2*s:=hW _ _;have m2:s*(2*t)=2*s*t:=by rw[b0,f0]
  have m3:s*(2*t+1)=2*s*t+s:=by rw[hW,m2]
  by_cases hle:2*s*t+2*s≤n
  ·rw[ct (decide_eq_true (show((2*s*t+2*s:Nat):Int)≤(n:Int) by omega)),aW (by omega)];have b1:=hd2 (2*t) (o0 _);have b2:=hd2 (2*t+1) (by omega);rw[m2,hU (by omega)]at b1;rw[m3,hU (by omega)]at b2;obtain⟨g,g1,g2,g3⟩:=mo hN hn hf (a:=2*s*t) (m:=2*s*t+s) (b:=2*s*t+2*s) (by omega) (by omega) hle b1 (by rw[show 2*s*t+2*s=2*s*t+s+s by omega];exact b2);rw[g1];simp only[iA];have e0:aA (2*(s:Int))=((2*s:Nat):Int):=by rw[fA (by omega) (by omega)];omega
   have e1:aA (((2*s*t+2*s:Nat):Int)+((2*s:Nat):Int))=((2*s*(t+1)+2*s:Nat):Int):=by rw[aW (by omega),m1]
   rw[e0,e1,show((2*s*t+2*s:Nat):Int)=((2*s*(t+1):Nat):Int) by rw[m1]];obtain⟨f',t',r1,r2,r3⟩:=I7 hN hn hs hsn K q (t+1) g (g2.bd hf) (by omega) (by omega) (fun k hk=>by
    by_cases e:k=t
    ·subst e;exact g3
    ·have:2*s*k+2*s≤2*s*t:=by rw[←hW];exact hT _ (by omega)
     exact(hd k (by omega)).same fun i q1 q2=>g2.out i (by omega))
    (fun k hk=>by
     have:2*s*t+2*s≤s*k:=by have:=hT s (show 2*(t+1)≤k by omega);rw[b0,←f0,m1]at this;exact this
     exact(hd2 k (by omega)).same fun i q1 q2=>g2.out i (by omega))
   exact⟨f',t',r1,(g2.mono (by omega) hle).trans r2,r3⟩
  ·rw[cf (decide_eq_false (show ¬((2*s*t+2*s:Nat):Int)≤(n:Int) by omega))];exact⟨f,t,rfl,Mv.refl _ _ _ _,ht,by omega,hd,hd2⟩
theorem Hu {N:Nat}(hN:2000010<N){n:Nat}(hn:n≤1000000){R:Type}(K:List Int→Option R):∀(q s:Nat) (f:Nat→R4),Bd f→0<s→s≤4000000→n-s<q→Bl f s n→
  ∃f',Q124.l7 N q (n:Int) (s:Int) (F f n) K=K (F f' n)∧Mv n f f' 0 n∧Dn f' 0 n
 |0,s,f,_,_,_,h,_=>by omega
 |q+1,s,f,hf,hs,hs2,hq,hd=>by
  rw[Q124.l7,dG];by_cases hlt:s<n
  ·rw[ct (decide_eq_true hlt)];have e0:aA (2*(s:Int))=((2*s*0+2*s:Nat):Int):=by rw[fA (by omega) (by omega)];omega
   have e3:aA ((s:Int)*2)=((2*s:Nat):Int):=by rw[fA (by omega) (by omega)];omega
   obtain⟨g,t,g1,g2,g3,g4,g5,g6⟩:=I7 hN hn hs hlt (fun y31 y32 y33 y34=>bif decide ((aA (y33+y32))<y31)then(Q123.f N y33 (aA (y33+y32)) y31 y34).bind fun r35=>Q124.l7 N q y31 (aA (y32*2)) r35 K else Q124.l7 N q y31 (aA (y32*2)) y34 K) N 0 f hf (by omega) (by omega) (fun k hk=>by omega) (fun k hk=>hd k);have z:((2*s*0:Nat):Int)=0:=by rw[Nat.mul_zero];rfl
   rw[z]at g1;rw[e0,g1,aW (by omega),dG,e3];have m2:s*(2*t)=2*s*t:=by rw[b0,f0]
   have m3:s*(2*t+1)=2*s*t+s:=by rw[hW,m2]
   have b1:=g6 (2*t) (o0 _);have b2:=g6 (2*t+1) (by omega);rw[m2]at b1;rw[m3]at b2;have fin:∀h:Nat→R4,Mv n g h (2*s*t) n→Dn h (2*s*t) n→Bl h (2*s) n:=fun h h1 h2 k=>by
    rcases Nat.lt_trichotomy k t with hk|hk|hk
    ·have hle:2*s*k+2*s≤2*s*t:=by rw[←hW];exact hT _ (by omega)
     have:=g5 k hk;rw[hU (by omega)];exact this.same fun i q1 q2=>h1.out i (by omega)
    ·subst hk;rw[sS (by omega)];exact h2
    ·have hle:2*s*t+2*s≤2*s*k:=by rw[←hW];exact hT _ (by omega)
     intro i j q1 q2 q3;omega
   by_cases hc:2*s*t+s<n
   ·rw[ct (decide_eq_true hc)];rw[hU (by omega)]at b1;rw[sS (by omega)]at b2;obtain⟨h,h1,h2,h3⟩:=mo hN hn (g2.bd hf) (a:=2*s*t) (m:=2*s*t+s) (b:=n) (by omega) hc (o0 _) b1 b2;rw[h1];simp only[iA];obtain⟨f',r1,r2,r3⟩:=Hu hN hn K q (2*s) h (h2.bd (g2.bd hf)) (by omega) (by omega) (by omega) (fin h h2 h3);exact⟨f',r1,(g2.trans (h2.mono (by omega) (by omega))).trans r2,r3⟩
   ·rw[cf (decide_eq_false hc)];rw[sS (by omega)]at b1;obtain⟨f',r1,r2,r3⟩:=Hu hN hn K q (2*s) g (g2.bd hf) (by omega) (by omega) (by omega) (fin g (Mv.refl _ _ _ _) b1);exact⟨f',r1,g2.trans r2,r3⟩
  ·rw[cf (decide_eq_false hlt)];refine⟨f,rfl,Mv.refl _ _ _ _,?_⟩;have:=hd 0;rw[Nat.mul_zero,sS (by omega)]at this;exact this
theorem mh {N:Nat}(hN:2000010<N){n:Nat}(hn:n≤1000000){f:Nat→R4}(hf:Bd f):∃f',Q124.f N (n:Int) (F f n)=some (F f' n)∧Mv n f f' 0 n∧Dn f' 0 n:=by
 unfold Q124.f;obtain⟨g,t,g1,g2,g3,g4,g5⟩:=I6 hN hn (fun y13 y14 y15 y16=>(Q122.f N y15 y13 y16).bind fun r17=>Q124.l7 N N y13 y14 r17 (fun y37=>some y37)) N 0 f hf (by omega) (by omega) (fun k hk=>by omega);have g1':Q124.l2 N N (n:Int) 20 0 20 (F f n) _=_:=g1;rw[g1'];obtain⟨h,h1,h2,h3⟩:=jt (N:=N) (by omega) (a:=20*t) (b:=n) (o0 _) hn (by omega) (g2.bd hf);rw[h1];simp only[iA];obtain⟨f',r1,r2,r3⟩:=Hu hN hn (fun y37=>some y37) N 20 h (h2.bd (g2.bd hf)) (by omega) (by omega) (by omega) (fun k=>by
  rcases Nat.lt_trichotomy k t with hk|hk|hk
  ·rw[hU (by omega)];exact(g5 k hk).same fun i q1 q2=>h2.out i (by omega)
  ·subst hk;rw[sS (by omega)];exact h3
  ·intro i j q1 q2 q3;omega)
 exact⟨f',r1,(g2.trans (h2.mono (by omega) (by omega))).trans r2,r3⟩
theorem rU {N:Nat}(hN:2000010<N){l:List R4}(hl:l.length≤1000000)(hb:∀x∈l,0≤nn x∧nn x≤1000000):
  ∃l':List R4,Q125.f N (aC l)=some (aC l')∧l'.Perm l∧l'.Pairwise (fun a b=>nn b≤nn a):=by
 have hf:Bd (fun i=>l.getD i (0,0,0,0)):=fun i=>by
  by_cases h:i<l.length
  ·have:l.getD i (0,0,0,0)=l[i]:=by simp[zA,h]
   simp only[this];exact hb _ (cD h)
  ·have:l.getD i (0,0,0,0)=(0,0,0,0):=by simp[zA,List.getElem?_eq_none (Nat.le_of_not_lt h)]
   simp only[this];decide
 obtain⟨f',h1,h2,h3⟩:=mh hN hl hf;have e:F (fun i=>l.getD i (0,0,0,0)) l.length=aC l:=by rw[F,rk]
 have e4:((aC l).length/4:Int)=(l.length:Int):=by rw[bG];omega
 have hp:=h2.perm;rw[rk]at hp;refine⟨tab f' l.length,?_,hp,?_⟩
 ·unfold Q125.f;rw[e4,←e,h1];rfl
 ·unfold tab;rw[List.pairwise_map];refine List.pairwise_lt_range.imp_of_mem fun{a b} ha hb hlt=>?_;exact h3 a b (by omega) (by omega) (f1.mp hb)
theorem lj {N:Nat}{n:Nat}(hn:n≤1000000){R:Type}(K:List Int→Option R):∀(q i j:Nat) (f:Nat→R4),i+j+1=n→i≤j+1→j+1-i<q→
  Q126.l1 N q (i:Int) (j:Int) (F f n) K=K (F (fun k=>if i≤k∧k≤j then f (n-1-k)else f k) n)
 |0,i,j,f,_,_,h=>by omega
 |q+1,i,j,f,h1,h2,hq=>by
  rw[Q126.l1,dG];by_cases hlt:i<j
  ·rw[ct (decide_eq_true hlt),ct (xI f (by omega)),ct (xI f (by omega)),ct (xI f (by omega))];rw[ct (by simp only[List.length_set];exact xI f (by omega))];simp only[iB];rw[ir f (by omega) (by omega),rE (by omega),sK (by omega) (by omega),lj hn K q (i+1) (j-1) _ (by omega) (by omega) (by omega)];have e:(fun k=>if i+1≤k∧k≤j-1 then ce f i j (n-1-k)else ce f i j k)=fun k=>if i≤k∧k≤j then f (n-1-k)else f k:=by
    funext k;simp only[qG]
    repeat' split
    all_goals first|rfl|(exfalso;omega)|(exact absurd trivial (by assumption))|(congr 1;omega)
   rw[e]
  ·rw[cf (decide_eq_false hlt)];have e:(fun k=>if i≤k∧k≤j then f (n-1-k)else f k)=f:=by
    funext k
    repeat' split
    all_goals first|rfl|(exfalso;omega)|(congr 1;omega)
   rw[e]
theorem bO {N:Nat}(hN:1000010<N){l:List R4}(hl:l.length≤1000000):Q126.f N (aC l)=some (aC l.reverse):=by
 unfold Q126.f;have e:F (fun i=>l.getD i (0,0,0,0)) l.length=aC l:=by rw[F,rk]
 have e4:((aC l).length/4:Int)=(l.length:Int):=by rw[bG];omega
 rw[e4];cases hc:l.length with
 |zero=>
  have:l=[]:=a1.mp hc;subst this;have:∃N',N=N'+1:=⟨N-1,by omega⟩
  obtain⟨N',rfl⟩:=this;rfl
 |succ n=>
  have hw:aA (((n+1:Nat):Int)-1)=(n:Int):=by rw[fA (by omega) (by omega)];omega
  rw[hw,←e,hc];have:=lj (N:=N) (n:=n+1) (by omega) (fun y6=>some y6) N 0 n (fun i=>l.getD i (0,0,0,0)) (by omega) (by omega) (by omega);rw[pC]at this;rw[this,F];congr 2;apply List.ext_getElem
  ·rw[gT,a3,hc]
  ·intro k k1 k2;rw[gT]at k1;simp only[tab,List.getElem_map,List.getElem_range,List.getElem_reverse];rw[if_pos (by omega)];simp only[zA];rw[zB (by omega)];simp only[Option.getD_some];congr 1;omega
end Go.Proofs.YtjpdjdhdchjcgaaGreat.Srt
namespace Go.Proofs.YtjpdjdhdchjcgaaGreat.Grp
section
open Go Go.Proofs.YtjpdjdhdchjcgaaGreat.Ev
open Go.Proofs.YtjpdjdhdchjcgaaGreat.Pure (fA)
open Go.Proofs.YtjpdjdhdchjcgaaGreat.Cls (wF wJ rM eK lH nI)
open Go.Proofs.YtjpdjdhdchjcgaaGreat.Srt (R4 aC vJ bG fK ct cf rH dG sK)
variable {d:Int}
def key (z:K d):List Int:=[z.1.1,z.1.2.1,z.1.2.2]
theorem fd {x y:K d}(h:key x=key y):x=y:=by
 simp only[key,List.cons.injEq,and_true]at h;exact(Gn x y).mp (by rw[h.1,h.2.1,h.2.2];simp)
structure Mp (S:K d→Prop)(W:K d→Int→Prop)(ks:List (List Int))(vs:List Int):Prop where
 nd:ks.Nodup
 len:vs.length=ks.length
 sound:∀i (h:i<ks.length),∃z:K d,ks[i]=key z∧S z∧W z (vs.getD i 0)
 full:∀z,S z→key z∈ks
theorem Mp.congr {S S':K d→Prop}{W W':K d→Int→Prop}{ks:List (List Int)}{vs:List Int}(h:Mp S W ks vs)(hs:∀z,S z↔S' z)(hw:∀z v,W z v→W' z v):Mp S' W' ks vs:=
 ⟨h.nd,h.len,fun i hi=>by obtain⟨z,a,b,c⟩:=h.sound i hi;exact⟨z,a,(hs z).mp b,hw _ _ c⟩,fun z hz=>h.full z ((hs z).mpr hz)⟩
theorem Mp.nil {S:K d→Prop}{W:K d→Int→Prop}(hs:∀z,¬S z):Mp S W [] []:=⟨List.nodup_nil,rfl,fun i h=>by simp at h,fun z hz=>absurd hz (hs z)⟩
theorem fh {l:List Int}{ks:List (List Int)}{j:Nat}(h:cF l ks 0=some j):∃hj:j<ks.length,ks[j]=l:=by
 obtain⟨_,h2⟩:=rM l ks 0 j h;rw[Nat.sub_zero]at h2;exact List.getElem?_eq_some_iff.mp h2
theorem Mp.get {S:K d→Prop}{W:K d→Int→Prop}{ks:List (List Int)}{vs:List Int}(h:Mp S W ks vs)(z:K d):(S z∧W z (yE (key z) ks vs))∨(¬S z∧yE (key z) ks vs=0):=by
 unfold yE;cases hm:cF (key z) ks 0 with
 |none=>exact .inr ⟨fun hs=>wJ _ _ _ hm (h.full z hs),rfl⟩
 |some j=>obtain⟨hj,e⟩:=fh hm;obtain⟨z',a,b,c⟩:=h.sound j hj;have:z=z':=fd (e.symm.trans a);subst this;exact .inl ⟨b,c⟩
theorem Mp.put {S:K d→Prop}{W:K d→Int→Prop}{ks:List (List Int)}{vs:List Int}(h:Mp S W ks vs)(z:K d){v:Int}(hv:W z v):Mp (fun y=>S y∨y=z) W (yB (key z) ks) (lG (key z) v ks vs):=by
 unfold yB pQ lG;cases hm:cF (key z) ks 0 with
 |none=>
  have hn:=wJ _ _ _ hm;simp only[Option.isSome_none,cond_false];refine⟨?_,by simp[h.len],fun i hi=>?_,fun y hy=>?_⟩
  ·rw[List.nodup_append];exact⟨h.nd,by simp,fun a ha b hb=>by simp only[q0]at hb;subst hb;exact fun e=>hn (e▸ha)⟩
  ·simp only[p0,List.length_singleton]at hi;by_cases hlt:i<ks.length
   ·obtain⟨y,a,b,c⟩:=h.sound i hlt;refine⟨y,by rw[List.getElem_append_left hlt];exact a,.inl b,?_⟩;rw[zA,List.getElem?_append_left (by rw[h.len];exact hlt),←zA];exact c
   ·have:i=ks.length:=by omega
    subst this;refine⟨z,by simp,.inr rfl,?_⟩;rw[zA,List.getElem?_append_right (by rw[h.len];exact o0 _),h.len];simpa using hv
  ·rcases hy with hy|rfl
   ·exact l0 _ (h.full y hy)
   ·simp
 |some j=>
  obtain⟨hj,e⟩:=fh hm;simp only[Option.isSome_some,cond_true];refine⟨h.nd,by simp[h.len],fun i hi=>?_,fun y hy=>?_⟩
  ·obtain⟨y,a,b,c⟩:=h.sound i hi;by_cases hij:j=i
   ·subst hij;have:z=y:=fd (e.symm.trans a);subst this;refine⟨z,a,.inl b,?_⟩;rw[zA,List.getElem?_set_self (by rw[h.len];exact hj)];exact hv
   ·refine⟨y,a,.inl b,?_⟩;rw[zA,List.getElem?_set_ne hij,←zA];exact c
  ·rcases hy with hy|rfl
   ·exact h.full y hy
   ·rw[←e];exact cD hj
theorem Mp.keys {S:K d→Prop}{W:K d→Int→Prop}{ks:List (List Int)}{vs:List Int}(h:Mp S W ks vs){L:List (K d)}(hL:ns L):ks.length≤L.length:=by
 have:=List.Nodup.length_le_of_subset (l₂:=L.map key) h.nd (fun r hr=>by obtain⟨i,hi,rfl⟩:=hI hr;obtain⟨z,a,_⟩:=h.sound i hi;rw[a];exact n0 (hL.all z));simpa using this
theorem tt {k:List Int}{ks:List (List Int)}{vs:List Int}(hl:vs.length=ks.length)(x y:Int):(lG k x ks (List.take (List.length ks) vs)).set ((kE k ks).toNat) y=lG k y ks vs:=by
 rw[zE (by omega)];unfold lG kE;cases hm:cF k ks 0 with
 |none=>simp[←hl]
 |some j=>simp
theorem mi {k:List Int}{ks:List (List Int)}:((decide (0≤(kE k ks)))&&(decide ((kE k ks)<((yB k ks).length:Int))))=true:=by
 unfold kE yB pQ;cases hm:cF k ks 0 with
 |none=>simp;omega
 |some j=>obtain⟨hj,_⟩:=fh hm;simp;omega
def gF (g:K d×Nat):R4:=(g.1.1.1,g.1.1.2.1,g.1.1.2.2,(g.2:Int))
theorem dz {L:List (K d)}{i:Nat}(h:i<L.length):(eB (L.map (·.1))).getD (i*3) 0=L[i].1.1∧(eB (L.map (·.1))).getD (i*3+1) 0=L[i].1.2.1∧(eB (L.map (·.1))).getD (i*3+2) 0=L[i].1.2.2:=by
 have:=eK (R:=L.map (·.1)) (i:=i) (by simpa using h);simpa using this
theorem gY {L:List (K d×Nat)}{i:Nat}(h:i<L.length):(aC (L.map gF)).getD (i*4) 0=L[i].1.1.1∧(aC (L.map gF)).getD (i*4+1) 0=L[i].1.1.2.1∧(aC (L.map gF)).getD (i*4+2) 0=L[i].1.1.2.2∧(aC (L.map gF)).getD (i*4+3) 0=(L[i].2:Int):=by
 have:=fK (l:=L.map gF) (i:=i) (by simpa using h);simpa[gF]using this
theorem jH (L:List (K d)):((eB (L.map (·.1))).length/3:Int)=(L.length:Int):=by rw[lH];simp
theorem kH (L:List (K d×Nat)):((aC (L.map gF)).length/4:Int)=(L.length:Int):=by rw[bG];simp
theorem Ap (L:List (K d))(z:K d):eB (L.map (·.1))++[z.1.1,z.1.2.1,z.1.2.2]=eB ((L++[z]).map (·.1)):=by rw[j0,kJ];rfl
theorem iY (L:List (K d×Nat))(z:K d×Nat):aC (L.map gF)++[z.1.1.1,z.1.1.2.1,z.1.1.2.2,(z.2:Int)]=aC ((L++[z]).map gF):=by rw[j0,vJ];rfl
theorem Gb {L:List (K d)}(h:L.length≤2900000000000):jB (((eB (L.map (·.1))).length+3)/3) 24=true:=by
 rw[qF];simp only[jB,decide_eq_true_eq,aE];omega
theorem oK {L:List (K d×Nat)}(h:L.length≤2000000000000):jB (((aC (L.map gF)).length+4)/4) 32=true:=by
 rw[bG];simp only[jB,decide_eq_true_eq,aE];omega
theorem dZ {N:Nat}(hN:8589934600<N)(hd:wF d){L:List (K d)}(hL:ns L)(hb:L.length≤45000){size m:Nat}(hs:0<size)(hm:L.length=size*m){R:Type}(x8:List Int)(x10:Int)
  (K0:List Int→Int→Int→Int→Int→List (List Int)→List Int→Option R):∀(q i:Nat) (ks:List (List Int)) (vs:List Int),i≤L.length→L.length-i<q→
   Mp (fun z=>∃j,∃hj:j<L.length,j<i∧z=pw (yC hd) L[j] m) (fun z v=>∃n:Nat,v=n∧tV (yC hd) z n) ks vs→
   ∃ks' vs',Mp (fun z=>∃j,∃hj:j<L.length,z=pw (yC hd) L[j] m) (fun z v=>∃n:Nat,v=n∧tV (yC hd) z n) ks' vs'∧
    Q130.l3 N q x8 (L.length:Int) x10 (size:Int) (eB (L.map (·.1))) (L.length:Int) (i:Int) (one hd).1.1 (one hd).1.2.1 (one hd).1.2.2 ks vs K0=K0 x8 x10 (one hd).1.1 (one hd).1.2.1 (one hd).1.2.2 ks' vs'
 |0,i,ks,vs,_,h,_=>by omega
 |q+1,i,ks,vs,hi,hq,h=>by
  rw[Q130.l3,dG];by_cases hlt:i<L.length
  ·have i1:i+1≤L.length:=hlt;have i2:L.length- (i+1)<q:=by omega
   have i3:i<9223372036854775807:=by omega
   rw[ct (decide_eq_true hlt),jH,ct (rH hlt),ct (jb hs)];obtain⟨e1,e2,e3⟩:=dz hlt;have hsl:size≤L.length:=by rw[hm];exact a0 _ (Nat.pos_of_ne_zero fun e=>by subst e;have:=hL.pos (yC hd);omega)
   have hdiv:L.length/size=m:=by rw[hm,Nat.mul_div_cancel_left _ hs]
   have hml:m≤L.length:=by rw[hm];exact Nat.le_mul_of_pos_left _ hs
   rw[mq,hdiv,bW (by omega)];simp only[iB,e1,e2,e3];rw[pP hN hd _ (by omega) (by omega)];simp only[iA,iB];generalize hz:pw (yC hd) L[i] m=z;have hz1:pw (yC hd) z size=(yC hd).one:=by rw[←hz,←cH,y0,←hm];exact xH hL _
   have step:∀{ks':List (List Int)} {vs':List Int},Mp (fun y=>(∃j,∃hj:j<L.length,j<i∧y=pw (yC hd) L[j] m)∨y=z) (fun z v=>∃n:Nat,v=n∧tV (yC hd) z n) ks' vs'→
     Mp (fun y=>∃j,∃hj:j<L.length,j<i+1∧y=pw (yC hd) L[j] m) (fun z v=>∃n:Nat,v=n∧tV (yC hd) z n) ks' vs':=fun{ks' vs'} hM=>hM.congr (fun y=>by
      constructor
      ·rintro(⟨j,hj,h1,h2⟩|rfl)
       ·exact⟨j,hj,by omega,h2⟩
       ·exact⟨i,hlt,by omega,hz.symm⟩
      ·rintro⟨j,hj,h1,h2⟩;by_cases e:j=i
       ·subst e;exact .inr (h2.trans hz)
       ·exact .inl ⟨j,hj,by omega,h2⟩) (fun _ _ h=>h)
   have hg:=h.get z;unfold key at hg;by_cases h0:yE [z.1.1,z.1.2.1,z.1.2.2] ks vs=0
   ·rw[ct (beq_iff_eq.mpr h0)];obtain⟨n,n1,n2,n3⟩:=kR hN hd z hs (by omega) hz1;rw[n3];simp only[iA];rw[rE i3];exact dZ hN hd hL hb hs hm x8 x10 K0 q (i+1) _ _ i1 i2 (step (h.put z ⟨n,rfl,n1⟩))
   ·rw[cf (beq_eq_false_iff_ne.mpr h0),rE i3];have hS:=(hg.resolve_right fun h1=>h0 h1.2).1;exact dZ hN hd hL hb hs hm x8 x10 K0 q (i+1) _ _ i1 i2 (step (h.congr (fun y=>⟨.inl,fun h=>h.elim id fun e=>e▸hS⟩) (fun _ _ h=>h)))
  ·rw[cf (decide_eq_false hlt)];refine⟨ks,vs,h.congr (fun z=>⟨fun⟨j,hj,_,e⟩=>⟨j,hj,e⟩,fun⟨j,hj,e⟩=>⟨j,hj,by omega,e⟩⟩) (fun _ _ h=>h),rfl⟩
theorem pU {N:Nat}(hd:wF d){L:List (K d)}(hb:L.length≤45000){S:K d→Prop}{ks:List (List Int)}{vs:List Int}(hM:Mp S (fun z v=>∃n:Nat,v=n∧tV (yC hd) z n) ks vs){R:Type}(x36 x40 x41 x42:Int)(K0:Int→Int→Int→Int→List Int→Option R):
  ∀(q i:Nat) (rs:List (K d×Nat)),i≤L.length→L.length-i<q→rs.length≤i→(∀r∈rs,S r.1∧1<r.2∧tV (yC hd) r.1 r.2)→(∀j (hj:j<L.length),j<i→S L[j]→L[j]≠(yC hd).one→∃n,(L[j],n)∈rs)→
   ∃rs':List (K d×Nat),rs'.length≤L.length∧(∀r∈rs',S r.1∧1<r.2∧tV (yC hd) r.1 r.2)∧(∀z∈L,S z→z≠(yC hd).one→∃n,(z,n)∈rs')∧
    Q130.l11 N q x36 (eB (L.map (·.1))) (L.length:Int) (i:Int) x40 x41 x42 ks vs (aC (rs.map gF)) K0=K0 x36 x40 x41 x42 (aC (rs'.map gF))
 |0,i,rs,_,h,_,_,_=>by omega
 |q+1,i,rs,hi,hq,hl,h1,h2=>by
  rw[Q130.l11,dG];by_cases hlt:i<L.length
  ·rw[ct (decide_eq_true hlt),jH,ct (rH hlt)];obtain⟨e1,e2,e3⟩:=dz hlt;simp only[iB,e1,e2,e3];have hg:=hM.get L[i];unfold key at hg;generalize hv:yE [L[i].1.1,L[i].1.2.1,L[i].1.2.2] ks vs=v at hg;by_cases hc:v>1
   ·rw[ct (decide_eq_true hc),ct (oK (by omega)),rE (by omega)];obtain⟨hS,n,rfl,hO⟩:=hg.resolve_right fun h=>by omega
    rw[iY rs (L[i],n)];refine pU hd hb hM x36 x40 x41 x42 K0 q (i+1) (rs++[(L[i],n)]) (by omega) (by omega) (by simp;omega) (fun r hr=>?_) (fun j hj hji hSj hne=>?_)
    ·simp only[List.mem_append,q0]at hr;rcases hr with hr|rfl
     ·exact h1 r hr
     ·exact⟨hS,by simp only;omega,hO⟩
    ·by_cases e:j=i
     ·subst e;exact⟨n,by simp⟩
     ·obtain⟨k,hk⟩:=h2 j hj (by omega) hSj hne;exact⟨k,l0 _ hk⟩
   ·rw[cf (decide_eq_false hc),rE (by omega)];refine pU hd hb hM x36 x40 x41 x42 K0 q (i+1) rs (by omega) (by omega) (by omega) h1 (fun j hj hji hSj hne=>?_);by_cases e:j=i
    ·subst e;exfalso;obtain⟨_,n,hn,hO⟩:=hg.resolve_right fun h=>h.1 hSj;have:n=1:=by have:=hO.1;omega
     subst this;have:=hO.kill;rw[rI]at this;exact hne this
    ·exact h2 j hj (by omega) hSj hne
  ·rw[cf (decide_eq_false hlt)];refine⟨rs,by omega,h1,fun z hz hS hne=>?_,rfl⟩;obtain⟨j,hj,rfl⟩:=hI hz;exact h2 j hj (by omega) hS hne
end
section
open Go Go.Proofs.YtjpdjdhdchjcgaaGreat.Ev
open Go.Proofs.YtjpdjdhdchjcgaaGreat.Pure (fA)
open Go.Proofs.YtjpdjdhdchjcgaaGreat.Cls (wF nI eK lH)
open Go.Proofs.YtjpdjdhdchjcgaaGreat.Srt (R4 aC vJ bG fK ct cf rH dG sK)
variable {d:Int}
theorem ug {N:Nat}(hN:8589934600<N)(hd:wF d)(c:K d){n:Nat}(hn:n≤50000)(g:K d){R:Type}(x89 x91 x92:Int)(x93:List Int)(x94:List (List Int))(x95 x107:List Int)(x108:Nat)(x109:List Nat)(x110:Nat)
  (K0:Int→Int→Int→List Int→List (List Int)→List Int→Int→Int→Int→Int→List Int→List Int→Nat→List Nat→Nat→Option R):∀(q k:Nat) (Y:List (K d)),0<k→n-k<q→Y.length≤2500000000+k→
   ∃Y':List (K d),Y'.length=Y.length+(n-k)∧(∀z∈Y',z∈Y∨∃e,e<n∧z=mul hd g (pw (yC hd) c e))∧(∀z∈Y,z∈Y')∧(∀e,k≤e→e<n→mul hd g (pw (yC hd) c e)∈Y')∧
   Q130.l30 N q x89 (k:Int) x91 x92 x93 x94 x95 c.1.1 c.1.2.1 c.1.2.2 (n:Int) (eB (Y.map (·.1))) g.1.1 g.1.2.1 g.1.2.2 (pw (yC hd) c k).1.1 (pw (yC hd) c k).1.2.1 (pw (yC hd) c k).1.2.2 x107 x108 x109 x110 K0
    =K0 x89 x91 x92 x93 x94 x95 c.1.1 c.1.2.1 c.1.2.2 (n:Int) (eB (Y'.map (·.1))) x107 x108 x109 x110
 |0,k,Y,_,h,_=>by omega
 |q+1,k,Y,hk,hq,hY=>by
  rw[Q130.l30,dG];by_cases hlt:k<n
  ·rw[ct (decide_eq_true hlt),gO hN hd g];simp only[iA];rw[ct (Gb (by omega)),gO hN hd (pw (yC hd) c k) c,Ap,rE (by omega)];simp only[iA];obtain⟨Y',h1,h2,h3,h4,h5⟩:=ug hN hd c hn g x89 x91 x92 x93 x94 x95 x107 x108 x109 x110 K0 q (k+1) (Y++[mul hd g (pw (yC hd) c k)]) (by omega) (by omega) (by simp;omega);refine⟨Y',by rw[h1];simp;omega,fun z hz=>?_,fun z hz=>h3 z (l0 _ hz),fun e e1 e2=>?_,h5⟩
   ·rcases h2 z hz with h|h
    ·simp only[List.mem_append,q0]at h;rcases h with h|rfl
     ·exact .inl h
     ·exact .inr ⟨k,hlt,rfl⟩
    ·exact .inr h
   ·by_cases e3:e=k
    ·subst e3;exact h3 _ (by simp)
    ·exact h4 e (by omega) e2
  ·rw[cf (decide_eq_false hlt)];exact⟨Y,by omega,fun z hz=>.inl hz,fun z hz=>hz,fun e e1 e2=>by omega,rfl⟩
theorem kg {N:Nat}(hN:8589934600<N)(hd:wF d)(c:K d){n:Nat}(hn:n≤50000){S:K d→Prop}{W:K d→Int→Prop}{ks:List (List Int)}{vs:List Int}(hM:Mp S W ks vs)(hkl:ks.length≤45000){R:Type}(x65 x66 x67:Int)(x68 x76:List Int)(r:R)
  (K0:Int→Int→Int→List Int→List (List Int)→List Int→List Int→List Int→Option R)
  (hK:∀Y:List (K d),Y.length≤2500000000→(∀z∈Y,∃g e,S g∧e<n∧z=mul hd g (pw (yC hd) c e))→(∀g e,S g→1≤e→e<n→mul hd g (pw (yC hd) c e)∈Y)→K0 x65 x66 x67 x68 ks vs (eB (Y.map (·.1))) x76=some r):
  ∀(q:Nat) (rem:List Nat) (Y:List (K d)) (x79:Nat),(∀j∈rem,j<ks.length)→rem.length<q→Y.length+50000*rem.length≤2500000000→(∀z∈Y,∃g e,S g∧e<n∧z=mul hd g (pw (yC hd) c e))→
   (∀g e,S g→1≤e→e<n→mul hd g (pw (yC hd) c e)∈Y∨∃j∈rem,ks.getD j []=key g)→
   Q130.l27 N q x65 x66 x67 x68 ks vs c.1.1 c.1.2.1 c.1.2.2 (n:Int) (eB (Y.map (·.1))) x76 ks.length rem x79 K0=some r
 |0,rem,Y,x79,_,h,_,_,_=>by omega
 |q+1,rem,Y,x79,h1,h2,h3,h4,h5=>by
  rw[Q130.l27];have hb:Nat.beq ks.length ks.length=true:=by simp
  rw[ct hb];cases hr:rem with
  |nil=>subst hr;exact hK Y (by omega) h4 fun g e g1 g2 g3=>(h5 g e g1 g2 g3).resolve_right fun⟨j,hj,_⟩=>by cases hj
  |cons x0 r0=>
   rw[←hr,cf (show rem.isEmpty=false by rw[hr];rfl)];refine nI (by rw[hr];simp) fun p hp=>?_;have hg:rem.getD p 0=rem[p]:=by simp[zA,zB hp]
   have hj:=h1 rem[p] (cD hp);have hblt:Nat.blt rem[p] ks.length=true:=by simpa[Nat.blt_eq]using hj
   obtain⟨g,k1,k2,k3⟩:=hM.sound _ hj;have hkg:ks.getD rem[p] []=key g:=by simp[zA,zB hj,k1]
   have hlen:(rem.eraseIdx p).length+1=rem.length:=by rw[List.length_eraseIdx];simp[hp];omega
   rw[hg,ct (by rw[hb,hblt];rfl),hkg];simp only[key,v2,List.getD_cons_succ];have h1c:pw (yC hd) c 1=c:=rI c;obtain⟨Y',y1,y2,y3,y4,y5⟩:=ug hN hd c hn g x65 x66 x67 x68 ks vs x76 ks.length (rem.eraseIdx p) rem[p] (fun y128 y129 y130 y131 y132 y133 y134 y135 y136 y137 y138 y139 y140 y141 y142=>
      Q130.l27 N q y128 y129 y130 y131 y132 y133 y134 y135 y136 y137 y138 y139 y140 y141 y142 K0) N 1 Y (by omega) (by omega) (by omega)
   rw[h1c]at y5;refine y5.trans ?_;refine kg hN hd c hn hM hkl x65 x66 x67 x68 x76 r K0 hK q _ Y' _ (fun j hj=>h1 j (List.mem_of_mem_eraseIdx hj)) (by omega) (by omega) (fun z hz=>?_) (fun g' e g1 g2 g3=>?_)
   ·rcases y2 z hz with h|⟨e,e1,e2⟩
    ·exact h4 z h
    ·exact⟨g,e,k2,e1,e2⟩
   ·rcases h5 g' e g1 g2 g3 with h|⟨j,j1,j2⟩
    ·exact .inl (y3 _ h)
    ·by_cases he:j=rem[p]
     ·subst he;rw[hkg]at j2;have:g=g':=fd j2;subst this;exact .inl (y4 e g2 g3)
     ·refine .inr ⟨j,?_,j2⟩;have:=(Cls.yX rem p hp).mem_iff (a:=j);simp only[w0]at this;exact(this.mpr j1).resolve_left he
theorem al {N:Nat}(hd:wF d){Y:List (K d)}(hY:Y.length≤2500000000){S:K d→Prop}{B:Int}(hB0:1≤B)(hB:B≤1000000000000000){R:Type}(x151 x152 x153:Int)(x156 x159:List Int)(K0:Int→Int→Int→List Int→List (List Int)→List Int→List Int→Option R):
  ∀(q i:Nat) (ks:List (List Int)) (vs:List Int),i≤Y.length→Y.length-i<q→Mp (fun z=>S z∨∃j,∃hj:j<Y.length,j<i∧z=Y[j]) (fun _ v=>1≤v∧v≤B+i) ks vs→
   ∃ks' vs',Mp (fun z=>S z∨z∈Y) (fun _ v=>1≤v∧v≤B+Y.length) ks' vs'∧Q130.l36 N q x151 x152 x153 (Y.length:Int) (i:Int) x156 ks vs x159 (eB (Y.map (·.1))) K0=K0 x151 x152 x153 x156 ks' vs' x159
 |0,i,ks,vs,_,h,_=>by omega
 |q+1,i,ks,vs,hi,hq,h=>by
  rw[Q130.l36,dG];by_cases hlt:i<Y.length
  ·have i1:i+1≤Y.length:=hlt;have i2:Y.length- (i+1)<q:=by omega
   have i3:i<9223372036854775807:=by omega
   rw[ct (decide_eq_true hlt),jH,ct (rH hlt)];obtain⟨e1,e2,e3⟩:=dz hlt;simp only[iB,e1,e2,e3];rw[ct mi,tt h.len,rE i3];have hv:(1:Int)≤aA (yE [Y[i].1.1,Y[i].1.2.1,Y[i].1.2.2] ks vs+1)∧aA (yE [Y[i].1.1,Y[i].1.2.1,Y[i].1.2.2] ks vs+1)≤B+((i+1:Nat):Int):=by rcases h.get Y[i]with⟨_,g1⟩|⟨_,g1⟩<;>unfold key at g1<;>rw[fA (by omega) (by omega)]<;>omega
   have hw:=(h.congr (W':=fun _ v=>1≤v∧v≤B+((i+1:Nat):Int)) (fun _=>Iff.rfl) (fun z v hv=>⟨hv.1,by omega⟩)).put Y[i] (v:=aA (yE [Y[i].1.1,Y[i].1.2.1,Y[i].1.2.2] ks vs+1)) hv;exact al hd hY hB0 hB x151 x152 x153 x156 x159 K0 q (i+1) _ _ i1 i2 (hw.congr (fun z=>by
    constructor
    ·rintro((h|⟨j,hj,h1,h2⟩)|rfl)
     ·exact .inl h
     ·exact .inr ⟨j,hj,by omega,h2⟩
     ·exact .inr ⟨i,hlt,by omega,rfl⟩
    ·rintro(h|⟨j,hj,h1,h2⟩)
     ·exact .inl (.inl h)
     ·by_cases e:j=i
      ·subst e;exact .inr h2
      ·exact .inl (.inr ⟨j,hj,by omega,h2⟩)) (fun _ _ h=>h))
  ·rw[cf (decide_eq_false hlt)];have:i=Y.length:=by omega
   subst this;refine⟨ks,vs,h.congr (fun z=>?_) (fun _ _ h=>h),rfl⟩;constructor
   ·rintro(h|⟨j,hj,_,rfl⟩)
    ·exact .inl h
    ·exact .inr (cD hj)
   ·rintro(h|h)
    ·exact .inl h
    ·obtain⟨j,hj,rfl⟩:=hI h;exact .inr ⟨j,hj,hj,rfl⟩
theorem ey {N:Nat}(hN:8589934600<N)(hd:wF d){L:List (K d)}(hL:ns L)(hb:L.length≤45000){p:Nat}(hp:1<p){rs:List (K d×Nat)}(hrs:rs.length≤45000)(hO:∀r∈rs,r.2≤50000∧tV (yC hd) r.1 r.2){R:Type}(r:R)(K0:List Int→Option R)
  (hK:K0 (aC ((gr (yC hd) p [] rs).map gF))=some r):∀(q i:Nat) (out:List (K d×Nat)) (ks:List (List Int)) (vs:List Int),i≤rs.length→rs.length-i<q→out.length≤i→gr (yC hd) p out (rs.drop i)=gr (yC hd) p [] rs→
   Mp (fun z=>In (yC hd) out z) (fun _ v=>1≤v∧v≤1+2500000000*(i:Int)) ks vs→Q130.l21 N q (p:Int) (rs.length:Int) (i:Int) (aC (out.map gF)) ks vs (aC (rs.map gF)) K0=some r
 |0,i,out,ks,vs,_,h,_,_,_=>by omega
 |q+1,i,out,ks,vs,hi,hq,ho,hgr,hM=>by
  rw[Q130.l21,dG];by_cases hlt:i<rs.length
  ·have i1:i+1≤rs.length:=hlt;have i2:rs.length- (i+1)<q:=by omega
   have i3:i<9223372036854775807:=by omega
   have ho1:out.length+1≤i+1:=by omega
   rw[ct (decide_eq_true hlt),kH,ct (rH hlt),ct (jb (show 0<p by omega))];obtain⟨e1,e2,e3,e4⟩:=gY hlt;simp only[iB,e1,e2,e3,e4];obtain⟨o1,o2⟩:=hO _ (cD hlt);have o3:=o2.1;rw[hE hlt,gr]at hgr;generalize hc:rs[i]=c at*;have hdv:c.2/p≤50000:=Nat.le_trans (Nat.div_le_self _ _) o1;have hdv2:((c.2/p:Nat):Int)≤((50000:Nat):Int):=Int.ofNat_le.mpr hdv;rw[mq,bW (u0 hdv (by decide)),pP hN hd c.1 (Int.natCast_nonneg _) (Int.lt_of_le_of_lt hdv2 (by decide))];simp only[iA,iB];have hg:=hM.get (pw (yC hd) c.1 (c.2/p));unfold key at hg;by_cases hin:In (yC hd) out (pw (yC hd) c.1 (c.2/p))
   ·have hv:=(hg.resolve_right fun h=>h.1 hin).2.1;rw[ct (decide_eq_true (by omega)),rE i3];rw[if_pos hin]at hgr;exact ey hN hd hL hb hp hrs hO r K0 hK q (i+1) out ks vs i1 i2 (by omega) hgr (hM.congr (fun _=>Iff.rfl) (fun z v hv=>⟨hv.1,by omega⟩))
   ·have hv:=(hg.resolve_left fun h=>hin h.1).2;rw[if_neg hin]at hgr;rw[cf (decide_eq_false (by omega)),ct (oK (by omega)),iY];have hkl:=hM.keys hL;refine kg hN hd c.1 o1 hM (by omega) (p:Int) (rs.length:Int) (i:Int) _ _ r _ (fun Y y1 y2 y3=>?_) N (List.range ks.length) [] ks.length (fun j hj=>f1.mp hj) (by simp;omega) (by simp;omega) (fun z hz=>by cases hz) (fun g e g1 g2 g3=>.inr ?_)
    ·rw[jH];obtain⟨ks',vs',m1,m2⟩:=al (N:=N) hd y1 (S:=fun z=>In (yC hd) out z) (B:=1+2500000000*(i:Int)) (by omega) (by omega) (p:Int) (rs.length:Int) (i:Int) (aC ((out++[c]).map gF)) (aC (rs.map gF)) (fun y168 y169 y170 y171 y172 y173 y174=>Q130.l21 N q y168 y169 (aA (y170+1)) y171 y172 y173 y174 K0) N 0 ks vs (by omega) (by omega)
      (hM.congr (fun z=>⟨.inl,fun h=>h.elim id fun⟨j,_,hj,_⟩=>by omega⟩) (fun z v hv=>⟨hv.1,by simpa using hv.2⟩))
     rw[pC]at m2;rw[m2,rE i3];refine ey hN hd hL hb hp hrs hO r K0 hK q (i+1) (out++[c]) ks' vs' i1 i2 (by simp;omega) hgr (m1.congr (fun z=>?_) (fun z v hv=>⟨hv.1,by omega⟩));rw[In.app_iff];constructor
     ·rintro(h|h)
      ·exact⟨z,0,h,((yC hd).mul_one z).symm⟩
      ·obtain⟨g,e,g1,g2,g3⟩:=y2 z h;exact⟨g,e,g1,g3⟩
     ·rintro⟨y,e,h1,rfl⟩;rw[←yN o2.kill];rcases Nat.eq_zero_or_pos (e%c.2)with h0|h0
      ·rw[h0];exact .inl (by rw[show pw (yC hd) c.1 0=(yC hd).one from rfl,(yC hd).mul_one];exact h1)
      ·exact .inr (y3 y (e%c.2) h1 h0 (Nat.mod_lt _ o3))
    ·obtain⟨j,hj,hk⟩:=hI (hM.full g g1);exact⟨j,f1.mpr hj,by simp[zA,zB hj,hk]⟩
  ·rw[cf (decide_eq_false hlt)];rw[c0 (by omega),gr]at hgr;rw[hgr];exact hK
end
section
open Go Go.Proofs.YtjpdjdhdchjcgaaGreat.Ev
open Go.Proofs.YtjpdjdhdchjcgaaGreat.Pure (fA)
open Go.Proofs.YtjpdjdhdchjcgaaGreat.Cls (wF nI eK lH xR)
open Go.Proofs.YtjpdjdhdchjcgaaGreat.Srt (R4 aC vJ bG fK oM ct cf rH dG sK rU bO)
variable {d:Int}
theorem Ca {x y:K d×Nat}(h:gF x=gF y):x=y:=by
 obtain⟨x1,x2⟩:=x;obtain⟨y1,y2⟩:=y;simp only[gF,Prod.mk.injEq]at h;obtain⟨h1,h2,h3,h4⟩:=h;have e1:x1=y1:=(Gn x1 y1).mp (by rw[h1,h2,h3];simp);have e2:x2=y2:=by omega
 rw[e1,e2]
theorem Ey {rs:List (K d×Nat)}:∀l:List R4,(∀x∈l,∃r∈rs,x=gF r)→∃rs':List (K d×Nat),rs'.map gF=l∧∀r∈rs',r∈rs
 | [],_=>⟨[],rfl,fun r h=>by cases h⟩
 |x::l,h=>by
  obtain⟨r,hr,rfl⟩:=h x (by simp);obtain⟨rs',h1,h2⟩:=Ey l (fun y hy=>h y (hR _ hy));refine⟨r::rs',by simp[h1],fun y hy=>?_⟩;rcases w0.mp hy with rfl|hy
  ·exact hr
  ·exact h2 y hy
theorem pc {G:Type}{A:AG G}{p:Nat}:∀(rs out:List (G×Nat)),(gr A p out rs).length≤out.length+rs.length
 | [],out=>by rw[gr];simp
 |c::rs,out=>by
  rw[gr];split
  ·have:=pc (A:=A) (p:=p) rs out;simp only[g0];omega
  ·have:=pc (A:=A) (p:=p) rs (out++[c]);simp only[p0,g0,List.length_nil]at this⊢;omega
theorem xf {N:Nat}(hN:8589934600<N)(hd:wF d){L:List (K d)}(hL:ns L)(hb:L.length≤45000){p a m:Nat}(hp:nE p)(hm:L.length=p^a*m)(hc:Nat.Coprime (p^a) m):
  ∃gs:List (K d×Nat),cr (yC hd) (p^a) gs∧gs.length≤45000∧Q130.f N (eB (L.map (·.1))) (one hd).1.1 (one hd).1.2.1 (one hd).1.2.2 (L.length:Int) (p:Int) ((p^a:Nat):Int)=some (aC (gs.map gF)):=by
 have hs:0<p^a:=Nat.pow_pos (by have:=hp.1;omega);have hL0:=hL.pos (yC hd);have hm0:0<m:=Nat.pos_of_ne_zero fun e=>by subst e;omega
 have hsl:p^a≤L.length:=by rw[hm];exact a0 _ hm0
 unfold Q130.f;rw[jH];obtain⟨ks,vs,hM,e1⟩:=dZ hN hd hL hb hs hm (R:=List Int) (eB (L.map (·.1))) (p:Int) (fun y29 y30 y31 y32 y33 y34 y35=>
   Q130.l11 N N y30 y29 (y29.length/3:Int) 0 y31 y32 y33 y34 y35 []
    (fun y51 y52 y53 y54 y55=>
     (Q125.f N y55).bind fun r56=>
     Q130.l21 N N y51 (r56.length/4:Int) 0 [] (yB [y52,y53,y54] []) (lG [y52,y53,y54] 1 [] []) r56
      (fun y176=>
       some y176))) N 0 [] [] (by omega) (by omega) (Mp.nil fun z ⟨j,_,hj,_⟩=>by omega)
 rw[pC]at e1;rw[e1,jH];have hS:∀z:K d,(∃j,∃hj:j<L.length,z=pw (yC hd) L[j] m)↔pw (yC hd) z (p^a)=(yC hd).one:=fun z=>by
  constructor
  ·rintro⟨j,hj,rfl⟩;rw[←cH,y0,←hm];exact xH hL _
  ·intro hz;obtain⟨u',⟨u,rfl⟩,hu⟩:=Hn hs hm0 hc;obtain⟨j,hj,e⟩:=hI (hL.all (pw (yC hd) z u));refine⟨j,hj,?_⟩;rw[e,←cH,y0 u m,←yN hz,hu,yN hz,rI]
 obtain⟨rs,r1,r2,r3,e2⟩:=pU (N:=N) hd hb (hM.congr hS (fun _ _ h=>h)) (R:=List Int) (p:Int) (one hd).1.1 (one hd).1.2.1 (one hd).1.2.2 (fun y51 y52 y53 y54 y55=>
     (Q125.f N y55).bind fun r56=>
     Q130.l21 N N y51 (r56.length/4:Int) 0 [] (yB [y52,y53,y54] []) (lG [y52,y53,y54] 1 [] []) r56
      (fun y176=>
       some y176)) N 0 [] (by omega) (by omega) (by simp) (fun r hr=>by cases hr) (fun j hj h=>by omega)
 rw[pC]at e2;have hbound:∀r∈rs,r.2≤45000:=fun r hr=>by obtain⟨q1,q2,q3⟩:=r2 r hr;have:=hH hs ((q3.2 _).mp q1);omega
 obtain⟨l',s1,s2,s3⟩:=rU (N:=N) (by omega) (l:=rs.map gF) (by simp;omega) (fun x hx=>by obtain⟨r,hr,rfl⟩:=d3.mp hx;have:=hbound r hr;simp only[Srt.nn,gF];omega);obtain⟨rs',t1,t2⟩:=Ey l' (rs:=rs) (fun x hx=>by obtain⟨r,hr,rfl⟩:=d3.mp (s2.mem_iff.mp hx);exact⟨r,hr,rfl⟩);subst t1;have hlen:rs'.length=rs.length:=by simpa using s2.length_eq
 refine⟨gr (yC hd) p [] rs',nW hL0 (xH hL) hp ?_ (fun r hr=>?_) (fun z hz hzp=>?_),by have:=pc (A:=yC hd) (p:=p) rs' [];simp at this;omega,?_⟩
 ·rw[List.pairwise_map]at s3;refine s3.imp fun{x y} h=>?_;simp only[Srt.nn,gF]at h;omega
 ·obtain⟨q1,q2,q3⟩:=r2 r (t2 r hr);refine⟨fun e=>?_,q1,q3⟩;have:tV (yC hd) r.1 1:=⟨by omega,fun k=>⟨fun _=>Nat.one_dvd _,fun _=>by rw[e,pI]⟩⟩
  have:=q3.uniq this;omega
 ·obtain⟨n,hn⟩:=r3 z (hL.all z) hzp hz;have:gF (z,n)∈rs'.map gF:=s2.mem_iff.mpr (n0 hn);obtain⟨r,hr,e⟩:=d3.mp this;exact⟨n,Ca e▸hr⟩
 ·refine e2.trans ?_;rw[s1];simp only[iA];rw[kH];have hM1:Mp (fun z=>In (yC hd) [] z) (fun _ v=>1≤v∧v≤1+2500000000*((0:Nat):Int)) (yB [(one hd).1.1,(one hd).1.2.1,(one hd).1.2.2] []) (lG [(one hd).1.1,(one hd).1.2.1,(one hd).1.2.2] 1 [] []):=
   ((Mp.nil (S:=fun _:K d=>False) (W:=fun _ v=>1≤v∧v≤1+2500000000*((0:Nat):Int)) (fun _ h=>h)).put (one hd) (v:=1) ⟨by omega,by omega⟩).congr (fun z=>by
    constructor
    ·rintro(h|rfl)
     ·exact h.elim
     ·exact In.one _
    ·rintro⟨es,_,rfl⟩;exact .inr (vF es)) (fun _ _ h=>h)
  have:=ey hN hd hL hb hp.1 (rs:=rs') (by omega) (fun r hr=>⟨by have:=hbound r (t2 r hr);omega,(r2 r (t2 r hr)).2.2⟩) (aC ((gr (yC hd) p [] rs').map gF)) (fun y176=>some y176) rfl N 0 [] _ _ (by omega) (by omega) (by simp) (by rw[hX]) hM1;rw[pC]at this;exact this
theorem vr {G:Type}{A:AG G}:∀(os ps:List (G×Nat)) (i:Nat) (h:i<ps.length),
  (∃ho:i<os.length,zm A os (ps.take (i+1))=(zm A os (ps.take i)).set i (A.mul os[i].1 ps[i].1,os[i].2*ps[i].2)∧∃hz:i<(zm A os (ps.take i)).length,(zm A os (ps.take i))[i]=os[i])∨
  (os.length≤i∧zm A os (ps.take (i+1))=zm A os (ps.take i)++[ps[i]]∧(zm A os (ps.take i)).length=i)
 | [],ps,i,h=>.inr ⟨by simp,by simp only[zm];rw[yK,zB h];rfl,by simp[zm];omega⟩
 |o::os,c::ps,0,h=>.inl ⟨by simp,by simp only[xK,iX,zm,s0,List.getElem_cons_zero];cases os<;>rfl,by simp[zm],rfl⟩
 |o::os,c::ps,i+1,h=>by
  have h':i<ps.length:=by simpa using h
  rcases vr os ps i h' with⟨ho,h1,hz,h2⟩|⟨ho,h1,h2⟩
  ·refine .inl ⟨by simpa using ho,?_,?_,?_⟩
   ·simp only[xK,zm,List.set_cons_succ,d0];rw[h1]
   ·simpa[zm]using hz
   ·simp only[xK,zm,d0];exact h2
  ·refine .inr ⟨by simpa using ho,?_,?_⟩
   ·simp only[xK,zm,List.cons_append,d0];rw[h1]
   ·simp only[xK,zm,g0];rw[h2]
 |_::_,[],i,h=>by simp at h
theorem Ab (X:List (K d×Nat)){i:Nat}(y:K d×Nat):((((aC (X.map gF)).set (i*4) y.1.1.1).set (i*4+1) y.1.1.2.1).set (i*4+2) y.1.1.2.2).set (i*4+3) (y.2:Int)=aC ((X.set i y).map gF):=by
 have:=oM (X.map gF) i (gF y);rw[←List.map_set]at this;exact this
theorem ii {N:Nat}(hN:8589934600<N)(hd:wF d){os ps:List (K d×Nat)}(ho:os.length≤45000)(hp:ps.length≤45000)(hb:∀o∈os,∀c∈ps,o.2*c.2≤45000)(hb2:∀c∈ps,c.2≤45000){R:Type}(x53 x55 x56:Int)(x54 x59:List Int)(K0:Int→List Int→Int→Int→List Int→Int→Int→Int→List Int→Option R):
  ∀(q i:Nat),i≤ps.length→ps.length-i<q→Q131.l17 N q x53 x54 x55 x56 (ps.length:Int) (i:Int) x59 (one hd).1.1 (one hd).1.2.1 (one hd).1.2.2 (aC ((zm (yC hd) os (ps.take i)).map gF)) (aC (ps.map gF)) K0=K0 x53 x54 x55 x56 x59 (one hd).1.1 (one hd).1.2.1 (one hd).1.2.2 (aC ((zm (yC hd) os ps).map gF))
 |0,i,_,h=>by omega
 |q+1,i,hi,hq=>by
  rw[Q131.l17,dG];by_cases hlt:i<ps.length
  ·obtain⟨c1,c2,c3,c4⟩:=gY hlt;have hps:=cD hlt;rw[ct (decide_eq_true hlt),kH,ct (rH hlt),kH];rcases vr (A:=yC hd) os ps i hlt with⟨hio,h1,hz,h2⟩|⟨hio,h1,h2⟩
   ·have hmul:=hb _ (cD hio) _ hps;obtain⟨b1,b2,b3,b4⟩:=gY hz;rw[h2]at b1 b2 b3 b4;rw[cf (beq_eq_false_iff_ne.mpr (by omega)),ct (rH hz)];simp only[iB,c1,c2,c3,c4,b1,b2,b3,b4];rw[gO hN hd os[i].1 ps[i].1];simp only[iA];rw[ct (rH hz),ct (rH hz),←d1,bW (by omega),rE (by omega)];have:=Ab (zm (yC hd) os (ps.take i)) (i:=i) (mul hd os[i].1 ps[i].1,os[i].2*ps[i].2);simp only at this;rw[this];have h1':(zm (yC hd) os (ps.take i)).set i (mul hd os[i].1 ps[i].1,os[i].2*ps[i].2)=zm (yC hd) os (ps.take (i+1)):=h1.symm;rw[h1'];exact ii hN hd ho hp hb hb2 x53 x55 x56 x54 x59 K0 q (i+1) (by omega) (by omega)
   ·have hlen1:(zm (yC hd) os (ps.take i)++[(one hd,1)]).length=i+1:=by simp[h2]
    have hz:i<(zm (yC hd) os (ps.take i)++[(one hd,1)]).length:=by omega
    have hzi:(zm (yC hd) os (ps.take i)++[(one hd,1)])[i]=(one hd,1):=by rw[List.getElem_append_right (by omega)];simp[h2]
    obtain⟨b1,b2,b3,b4⟩:=gY hz;rw[hzi]at b1 b2 b3 b4;have hsn:=iY (zm (yC hd) os (ps.take i)) (one hd,1);simp only[i0]at hsn b1 b2 b3 b4;rw[ct (beq_iff_eq.mpr (by omega)),ct (oK (by omega)),hsn,kH,ct (rH hz)];simp only[iB,c1,c2,c3,c4,b1,b2,b3,b4];rw[gO hN hd (one hd) ps[i].1];simp only[iA];have hb':=hb2 _ hps;rw[ct (rH hz),ct (rH hz),Int.one_mul,bW (by omega),rE (by omega)];have:=Ab (zm (yC hd) os (ps.take i)++[(one hd,1)]) (i:=i) (mul hd (one hd) ps[i].1,ps[i].2);simp only at this;rw[this];have h1':(zm (yC hd) os (ps.take i)++[(one hd,1)]).set i (mul hd (one hd) ps[i].1,ps[i].2)=zm (yC hd) os (ps.take (i+1)):=by rw[h1,v1 _ _ (by omega),h2,Nat.sub_self,s0];have:mul hd (one hd) ps[i].1=ps[i].1:=(yC hd).one_mul _;rw[this]
    rw[h1'];exact ii hN hd ho hp hb hb2 x53 x55 x56 x54 x59 K0 q (i+1) (by omega) (by omega)
  ·rw[cf (decide_eq_false hlt),zE (by omega)]
end
section
open Go Go.Proofs.YtjpdjdhdchjcgaaGreat.Ev
open Go.Proofs.YtjpdjdhdchjcgaaGreat.Pure (fA)
open Go.Proofs.YtjpdjdhdchjcgaaGreat.Cls (wF nI eK lH xR vK)
open Go.Proofs.YtjpdjdhdchjcgaaGreat.Srt (R4 aC vJ bG fK oM ct cf rH dG sK rU bO)
variable {d:Int}
theorem bl (N:Nat){p a:Nat}(hp:0<p)(hpa:p^a≤1000000){R:Type}(x14 x17 x18 x22 x23 x24 x27:Int)(x16 x21 x25:List Int)(K0:Int→Int→List Int→Int→Int→List Int→Int→Int→Int→List Int→Int→Int→Option R):
  ∀(q i:Nat),i≤a→a-i<q→a<1000000→Q131.l13 N q x14 ((p^i:Nat):Int) x16 x17 x18 (a:Int) (i:Int) x21 x22 x23 x24 x25 (p:Int) x27 K0=K0 x14 ((p^a:Nat):Int) x16 x17 x18 x21 x22 x23 x24 x25 (p:Int) x27
 |0,i,_,h,_=>by omega
 |q+1,i,hi,hq,ha=>by
  rw[Q131.l13,dG];by_cases hlt:i<a
  ·have hle:p^(i+1)≤p^a:=Nat.pow_le_pow_right hp hlt;have e:((p^i:Nat):Int)*(p:Int)=((p^(i+1):Nat):Int):=by rw[Nat.pow_succ,d1]
   rw[ct (decide_eq_true hlt),e,bW (by omega),rE (by omega)];exact bl N hp hpa x14 x17 x18 x22 x23 x24 x27 x16 x21 x25 K0 q (i+1) (by omega) (by omega) ha
  ·have:i=a:=by omega
   subst this;rw[cf (decide_eq_false hlt)]
theorem qi {l:PL}{i:Nat}(h:i<l.length):aF (l.take (i+1))=aF (l.take i)*l[i].1^l[i].2:=by
 rw[yK,zB h,uM];simp[aF]
theorem xg {l:PL}(h:∀x∈l,nE x.1∧0<x.2):0<aF l:=by have:=vM h;omega
theorem Dh {p q:Nat}(h:Nat.Coprime p q)(a:Nat):Nat.Coprime (p^a) q:=Nat.Coprime.pow_left a h
theorem aw {p:Nat}(hp:nE p){l:PL}(hl:∀x∈l,nE x.1∧0<x.2)(hne:∀x∈l,x.1≠p)(a:Nat):Nat.Coprime (p^a) (aF l):=by
 refine Dh (Nat.Coprime.symm (hp.cop fun hd=>?_)) a;obtain⟨x,h1,h2⟩:=hp.in_prod hl hd;exact hne x h1 h2
theorem cr.short {G:Type}{A:AG G}{s:Nat}{gs:List (G×Nat)}(h:cr A s gs){L:List G}(hL:ns L)(hs:s∣L.length):∀g∈gs,g.2≤L.length:=fun g hg=>
 hH (hL.pos A) (Nat.dvd_trans (h.big g hg).2 hs)
theorem oZ {N:Nat}(hN:8589934600<N)(hd:wF d){L:List (K d)}(hL:ns L)(hb:L.length≤45000){l:PL}(hl:Fz L.length l){R:Type}(K0:List Int→Option R):∀(q i:Nat) (out:List (K d×Nat)),i≤l.length→l.length-i<q→cr (yC hd) (aF (l.take i)) out→out.length≤45000→
   ∃gs:List (K d×Nat),cr (yC hd) L.length gs∧gs.length≤45000∧Q131.l9 N q (L.length:Int) (vV l) (l.length:Int) (i:Int) (eB (L.map (·.1))) (one hd).1.1 (one hd).1.2.1 (one hd).1.2.2 (aC (out.map gF)) K0=K0 (aC (gs.map gF))
 |0,i,out,_,h,_,_=>by omega
 |q+1,i,out,hi,hq,hG,ho=>by
  have hll:=vM hl.pr;rw[hl.prod]at hll;rw[Q131.l9,dG];by_cases hlt:i<l.length
  ·obtain⟨e1,e2⟩:=oz hlt;obtain⟨hp,ha⟩:=hl.pr _ (cD hlt);rw[ct (decide_eq_true hlt),fS,ct (rH hlt)];simp only[iB,e1,e2];have hsplit:l=l.take i++l[i]::l.drop (i+1):=by rw[←hE hlt,a2]
   have hup:=hl.up;rw[hsplit,List.pairwise_append,List.pairwise_cons]at hup;obtain⟨u1,⟨u2,u3⟩,u4⟩:=hup;have pr1:∀x∈l.take i,nE x.1∧0<x.2:=fun x hx=>hl.pr x (List.mem_of_mem_take hx);have pr2:∀x∈l.drop (i+1),nE x.1∧0<x.2:=fun x hx=>hl.pr x (d2 hx);have hprod:L.length=aF (l.take i)*(l[i].1^l[i].2*aF (l.drop (i+1))):=by have:=hl.prod;rw[hsplit,uM]at this;exact this.symm
   have c1:=aw hp pr1 (fun x hx=>by have:=u4 x hx l[i] List.mem_cons_self;omega) l[i].2;have c2:=aw hp pr2 (fun x hx=>by have:=u2 x hx;omega) l[i].2;generalize hpp:l[i].1=p at*;generalize haa:l[i].2=a at*;have hQ:=xg pr1;have hm:L.length=p^a*(aF (l.take i)*aF (l.drop (i+1))):=by rw[hprod,b0]
   have hs0:0<p^a:=Nat.pow_pos (by have:=hp.1;omega);have hsle:p^a≤L.length:=hH (hL.pos (yC hd)) ⟨_,hm⟩;have hale:a<1000000:=by have:=uv (j:=a) hp.1;omega
   have h1:=bl N (show 0<p by have:=hp.1;omega) (show p^a≤1000000 by omega) (L.length:Int) (l.length:Int) (i:Int) (one hd).1.1 (one hd).1.2.1 (one hd).1.2.2 (a:Int) (vV l) (eB (L.map (·.1))) (aC (out.map gF)) (fun y40 y41 y42 y43 y44 y45 y46 y47 y48 y49 y50 y51=>
      (Q130.f N y45 y46 y47 y48 y40 y50 y41).bind fun r52=>
      Q131.l17 N N y40 y42 y43 y44 (r52.length/4:Int) 0 y45 y46 y47 y48 y49 r52
       (fun y76 y77 y78 y79 y80 y81 y82 y83 y84=>
        Q131.l9 N q y76 y77 y78 (aA (y79+1)) y80 y81 y82 y83 y84 K0)) N 0 (by omega) (by omega) hale
   rw[Nat.pow_zero,pC,i0]at h1;obtain⟨gs,g1,g2,g3⟩:=xf hN hd hL hb hp hm (Nat.Coprime.mul_right c1 c2);rw[h1,g3];simp only[iA];rw[kH];have dQ:aF (l.take i)∣L.length:=⟨_,hprod⟩
   have hG2:=hG.zm hQ hs0 (Nat.Coprime.symm c1) g1;have dQs:aF (l.take i)*p^a∣L.length:=⟨aF (l.drop (i+1)),by rw[hprod,f0]⟩
   have h2:=ii hN hd (os:=out) (ps:=gs) ho g2 (fun o hoo c hcc=>by
     have:=hH (hL.pos (yC hd)) (Nat.dvd_trans (Nat.mul_dvd_mul (hG.big o hoo).2 (g1.big c hcc).2) dQs);omega) (fun c hcc=>by have:=g1.short hL ⟨_,hm⟩ c hcc;omega) (L.length:Int) (l.length:Int) (i:Int) (vV l) (eB (L.map (·.1))) (fun y76 y77 y78 y79 y80 y81 y82 y83 y84=>
        Q131.l9 N q y76 y77 y78 (aA (y79+1)) y80 y81 y82 y83 y84 K0) N 0 (by omega) (by omega)
   have z0:zm (yC hd) out (gs.take 0)=out:=by rw[iX];cases out<;>rfl
   rw[pC,z0]at h2;rw[h2,rE (by omega)];refine oZ hN hd hL hb hl K0 q (i+1) _ (by omega) (by omega) ?_ (by rw[ig];omega);rw[qi hlt,hpp,haa];exact hG2
  ·rw[cf (decide_eq_false hlt)];rw[zE (by omega),hl.prod]at hG;exact⟨out,hG,ho,rfl⟩
structure Pt (hd:wF d)(L:List (K d))(gs:List (K d×Nat)):Prop where
 fin:ns L
 len:L.length≤45000
 glen:gs.length≤45000
 gen:cr (yC hd) L.length gs.reverse
theorem wN {N:Nat}(hN:8589934600<N)(hd:wF d):∃(L:List (K d)) (gs:List (K d×Nat)),Pt hd L gs∧Cls.Cl d (L.map (·.1))∧Q114.f N d=some (eB (L.map (·.1)),0)∧Q115.f N d=some ((L.length:Int),0)∧Q111.f N d=some (eB (L.map (·.1)))∧
  Q131.f N d=some (aC (gs.map gF),0):=by
 obtain⟨R,h1,h2,h3,h4,h5⟩:=xR (N:=N) (by omega) hd;obtain⟨L,rfl,hL⟩:=Gt h1;have hb:L.length≤45000:=by simpa using h1.len
 have hL0:=hL.pos (yC hd);have hn:Q115.f N d=some ((L.length:Int),0):=by rw[h5];simp
 obtain⟨l,hl,hf⟩:=yU (N:=N) (by omega) hL0 (by omega);have hll:=vM hl.pr;rw[hl.prod]at hll;obtain⟨gs,g1,g2,g3⟩:=oZ hN hd hL hb hl (fun y86=>(Q126.f N y86).bind fun r87=>some (r87,(0:Int))) N 0 [] (by omega) (by omega) (by rw[iX];exact Dl) (by simp);rw[pC]at g3;refine⟨L,gs.reverse,⟨hL,hb,by simpa using g2,by rw[m0];exact g1⟩,h1,h4,hn,h3,?_⟩;unfold Q131.f;rw[h4];simp only[iA];rw[cf (by rfl),eM N hd];simp only[iA];rw[jH,hf];simp only[iA];rw[fS];refine g3.trans ?_;rw[bO (by omega) (by simpa using by omega),List.map_reverse];rfl
theorem mj (N:Nat){gs:List (K d×Nat)}(hg:gs.length≤45000){R:Type}(K0:List Int→List Int→Option R):∀(q i:Nat),i≤gs.length→gs.length-i<q→
  Q132.l5 N q (aC (gs.map gF)) (gs.length:Int) (i:Int) (eB ((gs.take i).map (·.1.1))) ((gs.take i).map fun g=>(g.2:Int)) K0=K0 (eB (gs.map (·.1.1))) (gs.map fun g=>(g.2:Int))
 |0,i,_,h=>by omega
 |q+1,i,hi,hq=>by
  rw[Q132.l5,dG];by_cases hlt:i<gs.length
  ·obtain⟨e1,e2,e3,e4⟩:=gY hlt;have r1:jB (((eB ((gs.take i).map (·.1.1))).length+3)/3) 24=true:=by
    rw[qF];simp only[jB,decide_eq_true_eq,aE,List.length_take];omega
   have r2:jB (((gs.take i).map fun g=>(g.2:Int)).length+1) 8=true:=by simp only[jB,decide_eq_true_eq,aE,List.length_take];omega
   rw[ct (decide_eq_true hlt),kH,ct (rH hlt),ct r1,ct r2,rE (by omega)];simp only[iB,e1,e2,e3,e4];have t1:eB ((gs.take i).map (·.1.1))++[gs[i].1.1.1,gs[i].1.1.2.1,gs[i].1.1.2.2]=eB ((gs.take (i+1)).map (·.1.1)):=by rw[yK,zB hlt,j0,kJ];rfl
   have t2:((gs.take i).map fun g=>(g.2:Int))++[(gs[i].2:Int)]=(gs.take (i+1)).map fun g=>(g.2:Int):=by rw[yK,zB hlt,j0];rfl
   rw[t1,t2];exact mj N hg K0 q (i+1) (by omega) (by omega)
  ·rw[cf (decide_eq_false hlt),zE (by omega)]
theorem vP {N:Nat}(hN:8589934600<N){gs:List (K d×Nat)}(hg:gs.length≤45000)(h:Q131.f N d=some (aC (gs.map gF),0)):
  Q132.f N d=some (eB (gs.map (·.1.1)),gs.map fun g=>(g.2:Int),0):=by
 unfold Q132.f;rw[h];simp only[iA];rw[cf (by rfl),kH];have:=mj N hg (fun y10 y11=>some (y10,y11,(0:Int))) N 0 (by omega) (by omega);rw[iX,pC]at this;exact this
end
section
open Go Go.Proofs.YtjpdjdhdchjcgaaGreat.Ev
open Go.Proofs.YtjpdjdhdchjcgaaGreat.Pure (fA dW eI p7 La Pr Oo xJ aX oD wH rN nK iU xQ rv)
open Go.Proofs.YtjpdjdhdchjcgaaGreat.Cls (wF Rd bK nI eK lH xR vK jo wT sJ)
open Go.Proofs.YtjpdjdhdchjcgaaGreat.Srt (R4 aC ct cf rH dG)
variable {d:Int}
theorem xj (N:Nat)(hd:wF d):Q89.f N d=some ((one hd).1.1,(one hd).1.2.1,(one hd).1.2.2,0):=by
 obtain⟨a,b,c,e,h1,h2,_⟩:=iU N d;rw[eM N hd]at h1;rw[h2,←h1]
theorem qu {N:Nat}(hN:8589934600<N)(hd:wF d)(x y:K d):Q96.f N x.1.1 x.1.2.1 x.1.2.2 y.1.1 y.1.2.1 y.1.2.2=some (mul hd x y).1:=by
 obtain⟨a,b,c,e,h⟩:=xQ hN (kG hd).neg (lW hd) (x.red hd) (y.red hd);obtain⟨z,hz,h⟩:=iL h;have:z=mul hd x y:=vQ hd (h.symm.trans (kG hd).m (fJ hd x y));subst this;rw[e,hz]
theorem oq (N:Nat)(hd:wF d)(x:K d):Q47.f N x.1.1 x.1.2.1 x.1.2.2=some d∧Q69.f N x.1.1 x.1.2.1 x.1.2.2=some d:=by
 have:=wT N (x.val hd).fine;rwa[x.2.1.eq]at this
theorem F4 {N:Nat}(hN:8589934600<N)(hd:wF d)(x:K d){n:Nat}(ho:tV (yC hd) x n)(hn:n≤50000){R:Type}(K0:Int→Option R):∀(q k:Nat),0<k→k≤n→n-k<q→
  Q138.l4 N q (k:Int) x.1.1 x.1.2.1 x.1.2.2 (one hd).1.1 (one hd).1.2.1 (one hd).1.2.2 (pw (yC hd) x k).1.1 (pw (yC hd) x k).1.2.1 (pw (yC hd) x k).1.2.2 K0=K0 (n:Int)
 |0,k,_,_,h=>by omega
 |q+1,k,hk,hkn,hq=>by
  rw[Q138.l4];by_cases he:pw (yC hd) x k=one hd
  ·have:=hH hk ((ho.2 k).mp he);have:k=n:=by omega
   subst this;rw[cf (by rw[(Gn _ _).mpr he];rfl)]
  ·have h1:((pw (yC hd) x k).1.1==(one hd).1.1&&((pw (yC hd) x k).1.2.1==(one hd).1.2.1&&(pw (yC hd) x k).1.2.2==(one hd).1.2.2))=false:=Bool.eq_false_iff.mpr fun e=>he ((Gn _ _).mp e);have hlt:k<n:=by
    rcases Nat.lt_or_ge k n with h|h
    ·exact h
    ·have:k=n:=by omega
     subst this;exact absurd ho.kill he
   rw[ct (by rw[h1];rfl),qu hN hd];simp only[iA];rw[rE (by omega)];exact F4 hN hd x ho hn K0 q (k+1) (by omega) hlt (by omega)
theorem ll {N:Nat}(hN:8589934600<N)(hd:wF d)(x:K d){n:Nat}(ho:tV (yC hd) x n)(hn:n≤50000):Q138.f N x.1.1 x.1.2.1 x.1.2.2=some (n:Int):=by
 unfold Q138.f;rw[(oq N hd x).2];simp only[iA];rw[xj N hd];simp only[iA];have:=F4 hN hd x ho hn (fun y18=>some y18) N 1 (by omega) ho.1 (by have:=ho.1;omega);rw[show pw (yC hd) x 1=x from rI x,i0]at this;exact this
theorem sY {N:Nat}(hN:8589934600<N)(hd:wF d){a b c:Int}(h:dW d a b c){z:K d}(hz:yv d (La d a b) (Lc z)):Q87.f N a b c=some ((inv hd z).1.1,(inv hd z).1.2.1,(inv hd z).1.2.2,0):=by
 obtain⟨x,y,w,e,h1,h2⟩:=wH hN h;have dm:=(kG hd).m
 let k:K d:=⟨(x,y,w),C5 h1⟩
 have h3:mul hd k z=one hd:=by refine vQ hd ((fJ hd k z).symm.trans dm ((Mod.Hm.comm (Lc k) (Lc z)).trans dm ?_));exact((hz.symm.left (Lc k)).trans dm h2).trans dm (iZ hd)
 have h4:k=inv hd z:=(yC hd).inv_of h3;rw[e,←h4]
theorem Do (hd:wF d)(z:K d):inv hd (inv hd z)=z:=((yC hd).inv_of (x:=z) (y:=inv hd z) (by rw[(yC hd).comm];exact(yC hd).inv_mul z)).symm
theorem nx {N:Nat}(hN:8589934600<N)(a b c:Int):
  (∃e,e≠0∧(∃x y z n,Q133.f N a b c=some (x,y,z,n,e))∧∃x y z,Q140.f N a b c=some (x,y,z,e))∨
  (∃(d:Int) (hd:wF d) (z:K d) (L:List (K d)),dW d a b c∧ns L∧L.length≤45000∧Q47.f N a b c=some d∧Q133.f N a b c=some (z.1.1,z.1.2.1,z.1.2.2,(L.length:Int),0)∧Q140.f N a b c=some (z.1.1,z.1.2.1,z.1.2.2,0)∧yv d (La d a b) (Lc z)):=by
 obtain⟨x,y,z,e,i1,i2⟩:=rN hN a b c;by_cases he:e=0
 ·subst he;have hv:xJ a b c∧aX a b c:=by
   obtain⟨x',y',z',e',p1,p2,p3⟩:=nK hN a b c;by_cases he':e'=0
   ·exact p3 he'
   ·exfalso;unfold Q87.f at i1;rw[p1]at i1;simp only[iA]at i1;rw[ct (bne_iff_ne.mpr he')]at i1;simp only[Option.some.injEq,Prod.mk.injEq]at i1;exact he' i1.2.2.2
  have hV:=rv hv.1 hv.2;obtain⟨hD,hD2⟩:=wT N hv.1;generalize hdd:b*b-4*a*c=d at*;have hneg:=hV.d.1;by_cases hb: -65536≤d
  ·have hd:wF d:=by rw[←hdd]at hb⊢;exact jo hv.1 hb
   obtain⟨a',b',c',r1,r2,r3,p,q,r,u,r4⟩:=oD hN hV;obtain⟨k,hk,hcl⟩:=iL r2;obtain⟨k1,k2,k3⟩:=Al hk;obtain⟨L,gs,hP,_,_,hn,_,_⟩:=wN hN hd;have j1:=sY hN hd hV hcl;rw[i1]at j1;simp only[Option.some.injEq,Prod.mk.injEq]at j1;refine .inr ⟨d,hd,k,L,hV,hP.fin,hP.len,hD,?_,?_,hcl⟩
   ·unfold Q133.f;rw[i1];simp only[iA];rw[cf (by rfl),hD];simp only[iA];rw[hn];simp only[iA];rw[cf (by rfl),r4,k1,k2,k3];rfl
   ·unfold Q140.f;rw[i2];simp only[iA];rw[cf (by rfl),hD2];simp only[iA];rw[cf (decide_eq_false (by omega))];obtain⟨x2,y2,z2,e2,m1,m2⟩:=rN hN x y z;have j2:=sY hN hd ((inv hd k).val hd) (z:=inv hd k) (Mod.Hm.refl _ _ _);rw[Do,←j1.1,←j1.2.1,←j1.2.2.1,m1]at j2;rw[m2,j2];rfl
  ·refine .inl ⟨80,by decide,⟨0,0,0,0,?_⟩,0,0,0,?_⟩
   ·have hnl:¬wF d:=fun h=>hb h.1;unfold Q133.f;rw[i1];simp only[iA];rw[cf (by rfl),hD];simp only[iA];rw[(vK (by have:=hV.d.2;omega) (by omega) hnl).2.1];rfl
   ·unfold Q140.f;rw[i2];simp only[iA];rw[cf (by rfl),hD2];simp only[iA];rw[ct (decide_eq_true (by omega))]
 ·refine .inl ⟨e,he,⟨0,0,0,0,?_⟩,x,y,z,?_⟩
  ·unfold Q133.f;rw[i1];simp only[iA];rw[ct (bne_iff_ne.mpr he)]
  ·unfold Q140.f;rw[i2];simp only[iA];rw[ct (bne_iff_ne.mpr he)]
theorem yW {N:Nat}(hN:8589934600<N)(a b c:Int):∃n e,Q134.f N a b c=some (n,e)∧Q141.f N a b c=some (n,e):=by
 unfold Q134.f Q141.f;rcases nx hN a b c with⟨e,he,⟨x,y,z,n,h1⟩,x',y',z',h2⟩|⟨d,hd,z,L,hV,hL,hb,hD,h1,h2,hcl⟩
 ·refine⟨0,e,?_,?_⟩
  ·rw[h1];simp only[iA];rw[ct (bne_iff_ne.mpr he)]
  ·rw[h2];simp only[iA];rw[ct (bne_iff_ne.mpr he)]
 ·obtain⟨m,m1,m2,m3⟩:=kR hN hd z (hL.pos (yC hd)) (by omega) (xH hL z);have hm:=hH (hL.pos (yC hd)) m2;refine⟨m,0,?_,?_⟩
  ·rw[h1];simp only[iA];rw[cf (by rfl),hD];simp only[iA];rw[eM N hd];simp only[iA];rw[m3];rfl
  ·rw[h2];simp only[iA];rw[cf (by rfl),ll hN hd z m1 (by omega)];rfl
abbrev N0:Nat:=8589934700
theorem cw:8589934600<N0:=by decide
theorem ak:wF (-23):=⟨by decide,by decide,by decide⟩
theorem G0 {G:Type}{A:AG G}{s:Nat}{gs:List (G×Nat)}(h:cr A s gs)(hp:np gs=3):∃g,gs=[(g,3)]:=by
 cases gs with
 |nil=>simp[np]at hp
 |cons x l=>
  have hx:=(h.big x (by simp)).1;simp only[np]at hp;have hdv:x.2∣3:=⟨_,hp.symm⟩
  have h3:=hH (by decide) hdv;have hx3:x.2=3:=by
   rcases(show x.2=2∨x.2=3 by omega)with e|e
   ·rw[e]at hdv;exact absurd hdv (by decide)
   ·exact e
  rw[hx3]at hp;have hl:np l=1:=by omega
  cases l with
  |nil=>exact⟨x.1,by rw[←hx3]⟩
  |cons y l=>exfalso;have hy:=(h.big y (by simp)).1;simp only[np]at hl;have:=hH (by decide) (show y.2∣1 from⟨_,hl.symm⟩);omega
theorem se:Q146.f N0=some true:=by
 obtain⟨L,gs,hP,hC,_,_,hr,hg⟩:=wN cw ak;have hl:Q111.f N0 (-23)=some [1,1,6,2, -1,3,2,1,3]:=by kernel_rfl
 rw[hl]at hr;have hL3:eB (L.map (·.1))=eB [(1,1,6),(2, -1,3),(2,1,3)]:=(Option.some.inj hr).symm;have hLm:L.map (·.1)=[(1,1,6),(2, -1,3),(2,1,3)]:=by have:=congrArg mF hL3;rwa[dO,dO]at this
 have hlen:L.length=3:=by have:=congrArg List.length hLm;simpa using this
 obtain⟨g,hgs⟩:=G0 hP.gen (by rw[hP.gen.count hP.fin,hlen]);have hgs':gs=[(g,3)]:=by have:=congrArg List.reverse hgs;simpa using this
 subst hgs';have hS:=vP cw hP.glen hg;have hne:g≠one ak:=fun e=>by
  have ho:=hP.gen.uq.ordOf (g:=(g,3)) (by simp);have h1:pw (yC ak) g 1=(yC ak).one:=by rw[rI];exact e
  have:=(ho.2 1).mp h1;exact absurd (show(3:Nat)∣1 from this) (by decide)
 have ho1:(one ak).1=(1,1,6):=by
  have h1:=eM N0 ak;have h2:Q83.f N0 (-23)=some (1,1,6,0):=by kernel_rfl
  rw[h2]at h1;simp only[Option.some.injEq,Prod.mk.injEq]at h1;obtain⟨a,b,c,_⟩:=h1;exact Prod.ext a.symm (Prod.ext b.symm c.symm)
 have hgA:g.1.1=2:=by
  have hm:g.1∈L.map (·.1):=n0 (hP.fin.all g);rw[hLm]at hm;simp only[w0,List.not_mem_nil,or_false]at hm;rcases hm with hm|hm|hm
  ·exact absurd (Subtype.ext (hm.trans ho1.symm)) hne
  ·rw[hm]
  ·rw[hm]
 have hO:Q134.f N0 2 1 3=some (3,0):=by
  obtain⟨n,e,q1,q2⟩:=yW cw 2 1 3;have:Q141.f N0 2 1 3=some (3,0):=by kernel_rfl
  rw[this]at q2;rw[q1,←q2]
 unfold Q146.f;rw[hS];simp only[iA];rw[hO];simp only[List.map_cons,List.map_nil,eB,iA,v2,hgA];simp
theorem GroupClasses (a b c:Int)(w1:(Lit.int .i64 a).wf=true)(w2:(Lit.int .i64 b).wf=true)(w3:(Lit.int .i64 c).wf=true):∃N,Q148.f N a b c=some true:=by
 refine⟨N0,?_⟩;obtain⟨n,e,h1,h2⟩:=yW cw a b c;unfold Q148.f;rw[h1];simp only[iA];rw[h2];simp only[iA,beq_self_eq_true,cond_true];rw[se];rfl
end
section
open Go Go.Proofs.YtjpdjdhdchjcgaaGreat.Ev
open Go.Proofs.YtjpdjdhdchjcgaaGreat.Pure (fA)
open Go.Proofs.YtjpdjdhdchjcgaaGreat.Cls (wF vK sJ uU)
open Go.Proofs.YtjpdjdhdchjcgaaGreat.Srt (ct cf rH dG)
variable {d:Int}
theorem dT {i n:Nat}(h:i<n):decide ((i:Int)<(n:Int))=true:=decide_eq_true (by omega)
theorem dF {i n:Nat}(h:¬i<n):decide ((i:Int)<(n:Int))=false:=decide_eq_false (by omega)
end
section
open Go Go.Proofs.YtjpdjdhdchjcgaaGreat.Ev
open Go.Proofs.YtjpdjdhdchjcgaaGreat.Pure (fA uo La Pr Oo)
open Go.Proofs.YtjpdjdhdchjcgaaGreat.Cls (wF Rd bK jd vK sJ uU)
open Go.Proofs.YtjpdjdhdchjcgaaGreat.Srt (ct cf rH dG)
variable {d:Int}
theorem wl (N:Nat){m:Int}(h0:0≤m)(h1:m<65536):∃d,Q144.f N m=some d∧wF d:=by
 have e1:Int.tmod m 20000=m%20000:=v0 h0;obtain⟨t,ht⟩:∃t,t=m%20000:=⟨_,rfl⟩
 have t0:0≤t∧t<20000:=by omega
 have e2:aA ((aA (0- (aA (Int.tmod m 20000))))-3)= -(t+3):=by rw[e1,←ht,fA (n:=t) (by omega) (by omega),fA (n:=0-t) (by omega) (by omega),fA (by omega) (by omega)];omega
 have e3:aA (-(t+3)-2)= -(t+5):=by rw[fA (by omega) (by omega)];omega
 have e4:Int.tmod (-(t+3)) 4= -((t+3)%4):=by rw[Int.neg_tmod,v0 (by omega)]
 unfold Q144.f;rw[e2,e3,e4];have hm:(t+3)%4=0∨(t+3)%4=1∨(t+3)%4=2∨(t+3)%4=3:=by omega
 rcases hm with hm|hm|hm|hm<;>rw[hm]
 ·exact⟨_,rfl,by omega,by omega,by omega⟩
 ·exact⟨_,rfl,by omega,by omega,by omega⟩
 ·exact⟨_,rfl,by omega,by omega,by omega⟩
 ·exact⟨_,rfl,by omega,by omega,by omega⟩
theorem fk {G:Type}:∀a b:List (G×Nat),np (a++b)=np a*np b
 | [],b=>(Nat.one_mul _).symm
 |g::a,b=>by simp only[List.cons_append,np];rw[fk a b,f0]
theorem Bq {G:Type}:∀a:List (G×Nat),np a.reverse=np a
 | []=>rfl
 |g::a=>by rw[List.reverse_cons,fk,Bq a];simp only[np,Nat.mul_one];rw[y0]
theorem mW {gs:List (K d×Nat)}{i:Nat}(h:i<gs.length):(gs.map fun g=>(g.2:Int)).getD i 0=(gs[i].2:Int):=by
 simp[zA,zB h]
theorem Gk {n:Int}(h:(Lit.int .u16 n).wf=true):0≤n∧n<65536:=by
 simp[Lit.wf]at h;have h1:IntKind.u16.min=0:=by decide
 have h2:IntKind.u16.max=65535:=by decide
 omega
end
section
open Go Go.Proofs.YtjpdjdhdchjcgaaGreat.Ev
open Go.Proofs.YtjpdjdhdchjcgaaGreat.Pure (fA La Pr Oo oD cP iG uF cL jC xJ)
open Go.Proofs.YtjpdjdhdchjcgaaGreat.Cls (wF Rd bK vK sJ uU oW)
open Go.Proofs.YtjpdjdhdchjcgaaGreat.Srt (ct cf rH dG sK)
variable {d:Int}
def ints (l:List Nat):List Int:=l.map fun(n:Nat)=>(n:Int)
theorem kS {l:List Nat}{i:Nat}(h:i<l.length):(ints l).getD i 0=(l[i]:Int):=by
 simp[ints,zA,zB h]
theorem eR (gs:List (K d×Nat)):((eB (gs.map (·.1.1))).length/3:Int)=(gs.length:Int):=by
 have:=jH (gs.map (·.1));rw[List.map_map,aE]at this;exact this
theorem tl {gs:List (K d×Nat)}{i:Nat}(h:i<gs.length):(eB (gs.map (·.1.1))).getD (i*3) 0=gs[i].1.1.1∧(eB (gs.map (·.1.1))).getD (i*3+1) 0=gs[i].1.1.2.1∧(eB (gs.map (·.1.1))).getD (i*3+2) 0=gs[i].1.1.2.2:=by
 have:=dz (L:=gs.map (·.1)) (i:=i) (by simpa using h);rw[List.map_map,List.getElem_map]at this;exact this
theorem zY {N:Nat}(hN:8589934600<N)(hd:wF d){gs:List (K d×Nat)}{es:List Nat}(hl:es.length=gs.length)(hg:gs.length≤45000)(hb:∀e∈es,e<9223372036854775807){R:Type}(x8 x9 x10:Int)(K0:Int→Int→Int→Int→Int→Int→Option R):∀(q i:Nat) (f:K d),i≤gs.length→gs.length-i<q→
  Q145.l3 N q (eB (gs.map (·.1.1))) (ints es) (i:Int) x8 x9 x10 f.1.1 f.1.2.1 f.1.2.2 K0=K0 x8 x9 x10 (mul hd f (val (yC hd) (gs.drop i) (es.drop i))).1.1 (mul hd f (val (yC hd) (gs.drop i) (es.drop i))).1.2.1 (mul hd f (val (yC hd) (gs.drop i) (es.drop i))).1.2.2
 |0,i,f,_,h=>by omega
 |q+1,i,f,hi,hq=>by
  have il:(ints es).length=gs.length:=by rw[ints,aE,hl]
  rw[Q145.l3,eR,il];by_cases hlt:i<gs.length
  ·have hlt2:i<es.length:=by omega
   obtain⟨e1,e2,e3⟩:=tl hlt;have he:=hb _ (cD hlt2);rw[ct (dT hlt),ct (dT hlt),ct (rH hlt),ct (rH hlt)];simp only[iB,e1,e2,e3,kS hlt2];rw[zW hN hd gs[i].1 (n:=(es[i]:Int)) (by omega) (by omega)];simp only[iA,iB];rw[j9 hN hd];simp only[iA];rw[rE (by omega),zY hN hd hl hg hb x8 x9 x10 K0 q (i+1) _ (by omega) (by omega),hE hlt,hE hlt2];have e:mul hd (mul hd f (pw (yC hd) gs[i].1 es[i])) (val (yC hd) (gs.drop (i+1)) (es.drop (i+1)))=mul hd f (val (yC hd) (gs[i]::gs.drop (i+1)) (es[i]::es.drop (i+1))):=(yC hd).assoc _ _ _;rw[e]
  ·have h0:gs.drop i=[]:=c0 (by omega);have e:mul hd f (val (yC hd) [] (es.drop i))=f:=by rw[vF];exact(yC hd).mul_one f
   rw[cf (dF hlt),h0,e]
theorem xc {N:Nat}(hN:8589934600<N)(hd:wF d){gs:List (K d×Nat)}{es:List Nat}(hl:es.length=gs.length)(hg:gs.length≤45000)(hb:∀e∈es,e<9223372036854775807):Q145.f N d (eB (gs.map (·.1.1))) (ints es)=some (val (yC hd) gs es).1:=by
 unfold Q145.f;rw[eM N hd];simp only[iA];have:=zY hN hd hl hg hb 0 0 0 (fun y22 y23 y24 y25 y26 y27=>some (y25,y26,y27)) N 0 (one hd) (by omega) (by omega);have e:mul hd (one hd) (val (yC hd) gs es)=val (yC hd) gs es:=(yC hd).one_mul _;rw[pC,hX,hX,e]at this;exact this
theorem bf {N:Nat}(hd:wF d)(z:K d):Q100.f N z.1.1 z.1.2.1 z.1.2.2=some true:=by
 obtain⟨h,hr,hs⟩:=oW hd z.2.1;have hck:Q48.f N z.1.1 z.1.2.1 z.1.2.2=some 0:=by
  rcases iG N z.1.1 z.1.2.1 z.1.2.2 with⟨_,h2⟩|⟨h2,_⟩
  ·exact h2
  ·exact absurd h h2
 unfold Q100.f;rw[hck];simp only[iA,beq_self_eq_true,cond_true];rw[uF N h.good,if_pos hr,if_neg hs];rfl
theorem E3 {N:Nat}(hN:8589934600<N)(hd:wF d)(z:K d){n:Nat}(ho:tV (yC hd) z n):Q134.f N z.1.1 z.1.2.1 z.1.2.2=some ((n:Int),0):=by
 have hV:=z.val hd;obtain⟨a',b',c',r1,r2,r3,p,q,r,u,r4⟩:=oD hN hV;obtain⟨k,hk,hcl⟩:=iL r2;have hkz:z=k:=vQ hd hcl;subst hkz;obtain⟨k1,k2,k3⟩:=Al hk;obtain⟨L,gs,hP,_,_,hn,_,_⟩:=wN hN hd;have j1:=sY hN hd hV hcl;have hD:=(oq N hd z).1;have hA:Q133.f N z.1.1 z.1.2.1 z.1.2.2=some (z.1.1,z.1.2.1,z.1.2.2,(L.length:Int),0):=by unfold Q133.f;rw[j1];simp only[iA];rw[cf (by rfl),hD];simp only[iA];rw[hn];simp only[iA];rw[cf (by rfl),r4,k1,k2,k3];rfl
 have hL:=hP.fin;have hb:=hP.len;obtain⟨m,m1,m2,m3⟩:=kR hN hd z (hL.pos (yC hd)) (by omega) (xH hL z);have:m=n:=m1.uniq ho;subst this;unfold Q134.f;rw[hA];simp only[iA];rw[cf (by rfl),hD];simp only[iA];rw[eM N hd];simp only[iA];rw[m3];rfl
end
section
open Go Go.Proofs.YtjpdjdhdchjcgaaGreat.Ev
open Go.Proofs.YtjpdjdhdchjcgaaGreat.Pure (fA)
open Go.Proofs.YtjpdjdhdchjcgaaGreat.Cls (wF)
open Go.Proofs.YtjpdjdhdchjcgaaGreat.Srt (ct cf rH dG sK)
section
variable {G:Type}{A:AG G}
def dg:List (G×Nat)→Nat→List Nat
 | [],_=>[]
 |g::gs,k=>(k%g.2)::dg gs (k/g.2)
theorem om:∀(gs:List (G×Nat)) (k:Nat),(dg gs k).length=gs.length
 | [],_=>rfl
 |g::gs,k=>by simp only[dg,g0,om gs]
theorem Ak:∀{gs:List (G×Nat)} (k:Nat),(∀g∈gs,0<g.2)→Sm gs (dg gs k)
 | [],_,_=>trivial
 |g::gs,k,h=>⟨Nat.mod_lt _ (h g (by simp)),Ak _ fun g hg=>h g (hR _ hg)⟩
theorem Aj:∀{gs:List (G×Nat)} {j k:Nat},j<np gs→k<np gs→dg gs j=dg gs k→j=k
 | [],j,k,h1,h2,_=>by simp only[np]at h1 h2;omega
 |g::gs,j,k,h1,h2,h=>by simp only[dg,List.cons.injEq]at h;simp only[np]at h1 h2;have e:=Aj (gs:=gs) (f2 h1) (f2 h2) h.2;rw[←Nat.div_add_mod j g.2,←Nat.div_add_mod k g.2,h.1,e]
theorem Sm.bound {b:Nat}:∀{gs:List (G×Nat)} {es:List Nat},(∀g∈gs,g.2≤b)→Sm gs es→∀e∈es,e<b
 | [],[],_,_,e,he=>by cases he
 |g::gs,x::es,h,hs,e,he=>by
  rcases w0.mp he with rfl|he
  ·exact Nat.lt_of_lt_of_le hs.1 (h g (by simp))
  ·exact Sm.bound (fun g hg=>h g (hR _ hg)) hs.2 e he
 | [],_::_,_,hs,_,_=>hs.elim
 |_::_,[],_,_,e,he=>by cases he
theorem Dy {a:List (G×Nat)}{i:Nat}(h:i<a.length):np (a.take (i+1))=np (a.take i)*a[i].2:=by
 rw[yK,zB h,fk];simp[np]
theorem Bp:∀{a:List (G×Nat)},(∀g∈a,0<g.2)→0<np a
 | [],_=>by simp[np]
 |g::a,h=>by simp only[np];exact Nat.mul_pos (h g (by simp)) (Bp fun g hg=>h g (hR _ hg))
theorem Gv {a:List (G×Nat)}(h:∀g∈a,0<g.2)(i:Nat):np (a.take i)≤np a:=by
 have:np a=np (a.take i)*np (a.drop i):=by rw[←fk,a2]
 rw[this];exact a0 _ (Bp fun g hg=>h g (d2 hg))
end
variable {d:Int}
abbrev jU (gs:List (K d×Nat)):List Int:=gs.map fun g=>(g.2:Int)
structure Kn (hd:wF d)(L:List (K d))(gs:List (K d×Nat)):Prop where
 fin:ns L
 len:L.length≤45000
 glen:gs.length≤45000
 uq:Uq (yC hd) gs
 big:∀g∈gs,1<g.2∧g.2≤45000
 up:gs.Pairwise (fun a b=>a.2∣b.2)
 count:np gs=L.length
 all:∀x,In (yC hd) gs x
theorem Pt.kn {hd:wF d}{L:List (K d)}{gs:List (K d×Nat)}(h:Pt hd L gs):Kn hd L gs:=by
 have hb:=h.len;refine⟨h.fin,h.len,h.glen,?_,fun g hg=>?_,?_,?_,fun x=>?_⟩
 ·have:=h.gen.uq.reverse;rwa[m0]at this
 ·have:=h.gen.big g (by simpa using hg);have:=h.gen.short h.fin (Nat.dvd_refl _) g (by simpa using hg);omega
 ·have:=h.gen.desc;rwa[List.pairwise_reverse]at this
 ·rw[←Bq];exact h.gen.count h.fin
 ·have:=(h.gen.all x (xH h.fin x)).reverse;rwa[m0]at this
theorem fM {N:Nat}(hN:8589934600<N){hd:wF d}{L:List (K d)}{gs:List (K d×Nat)}(h:Kn hd L gs){R:Type}(x8:Int)(k0:Int→List Int→List Int→Int→Int→Option R)(kr:Bool→Option R):∀(q i:Nat),i≤gs.length→gs.length-i<q→
  Q150.l8 N q d (eB (gs.map (·.1.1))) (jU gs) x8 ((np (gs.take i):Nat):Int) (i:Int) k0 kr=k0 d (eB (gs.map (·.1.1))) (jU gs) x8 ((np gs:Nat):Int)
 |0,i,_,hq=>by omega
 |q+1,i,hi,hq=>by
  have hol:(jU gs).length=gs.length:=by simp
  have hglen:=h.glen;rw[Q150.l8,hol,eR];by_cases hlt:i<gs.length
  ·obtain⟨e1,e2,e3⟩:=tl hlt;have hm:=cD hlt;have ho:=h.uq.ordOf hm;obtain⟨b1,b2⟩:=h.big _ hm;have hpos:∀g∈gs,0<g.2:=fun g hg=>by have:=(h.big g hg).1;omega
   have hnl:=Gv hpos (i+1);have hcount:=h.count;have hL:=h.len;have hw:aA ((np (gs.take i):Int)*(gs[i].2:Int))=((np (gs.take (i+1)):Nat):Int):=by rw[Dy hlt]at hnl⊢;rw[←d1,bW (by omega)]
   have oat:=mW hlt;rw[ct (dT hlt),ct (rH hlt)];simp only[iB,e1,e2,e3,oat];rw[E3 hN hd gs[i].1 ho];simp only[iA];have step:(bif (decide (0≤(i:Int)))&&(decide ((i:Int)<(gs.length:Int)))then
      bif (gs[i].2:Int) != (gs[i].2:Int)then
       kr false
      else
      bif (decide (0≤(i:Int)))&&(decide ((i:Int)<(gs.length:Int)))then
       (Q100.f N gs[i].1.1.1 gs[i].1.1.2.1 gs[i].1.1.2.2).bind fun r15=>
       bif !r15 then
        kr false
       else
       bif (decide (0≤(i:Int)))&&(decide ((i:Int)<(gs.length:Int)))then
        (Q47.f N gs[i].1.1.1 gs[i].1.1.2.1 gs[i].1.1.2.2).bind fun r16=>
        bif r16 != d then
         kr false
        else
        bif (decide (0≤(i:Int)))&&(decide ((i:Int)<(gs.length:Int)))then
         Q150.l8 N q d (eB (gs.map (·.1.1))) (jU gs) x8 (aA ((np (gs.take i):Int)*(gs[i].2:Int))) (aA ((i:Int)+1)) k0 kr
        else none
       else none
      else none
     else none)=k0 d (eB (gs.map (·.1.1))) (jU gs) x8 ((np gs:Nat):Int):=by
    rw[ct (rH hlt),cf (by simp),ct (rH hlt),bf hd];simp only[iA];rw[cf (by rfl),ct (rH hlt),(oq N hd _).1];simp only[iA];rw[cf (by simp),ct (rH hlt),hw,rE (by omega)];exact fM hN h x8 k0 kr q (i+1) (by omega) (by omega)
   rw[ct (rH hlt),cf (decide_eq_false (by omega))];by_cases h0:0<i
   ·have hlt1:i-1<gs.length:=by omega
    have hdv:gs[i-1].2∣gs[i].2:=(List.pairwise_iff_getElem.mp h.up) (i-1) i hlt1 hlt (by omega);have hpp:=hpos _ (cD hlt1);rw[ct (decide_eq_true (by omega)),ct (rH hlt),sK h0 (by omega),ct (rH hlt1)];simp only[iB,mW hlt1];rw[ct (jb hpp),ms,Nat.mod_eq_zero_of_dvd hdv,cf (by rfl),cf (by rfl)];exact step
   ·rw[cf (decide_eq_false (by omega)),cf (by rfl)];exact step
  ·rw[cf (dF hlt),zE (by omega)]
theorem jj (N:Nat){gs:List (K d×Nat)}(hg:gs.length≤45000)(hb:∀g∈gs,0<g.2){R:Type}(x35 x38 x39:Int)(x36:List Int)(x42:List (List Int))(x43:List Int)(K0:Int→List Int→List Int→Int→Int→List (List Int)→List Int→List Int→Option R):
  ∀(q i x:Nat) (pre:List Nat) (old:List Int),i≤gs.length→gs.length-i<q→x<1000000→pre.length=i→old.length=gs.length-i→
   Q150.l23 N q x35 x36 (jU gs) x38 x39 (x:Int) (i:Int) x42 x43 (ints pre++old) K0=K0 x35 x36 (jU gs) x38 x39 x42 x43 (ints (pre++dg (gs.drop i) x))
 |0,i,x,pre,old,_,h,_,_,_=>by omega
 |q+1,i,x,pre,old,hi,hq,hx,hp,ho=>by
  have hol:(jU gs).length=gs.length:=by simp
  have hpl:(ints pre).length=i:=by rw[ints,aE,hp]
  rw[Q150.l23,hol];by_cases hlt:i<gs.length
  ·have hrl:(ints pre++old).length=gs.length:=by rw[p0,hpl,ho];omega
   have hpos:=hb _ (cD hlt);have hdv:x/gs[i].2≤x:=Nat.div_le_self _ _;rw[ct (dT hlt),ct (rH hlt)];simp only[iB,mW hlt];rw[ct (jb hpos),hrl,ct (rH hlt),ct (rH hlt),ct (jb hpos),mq,bW (u0 hdv (by omega)),rE (by omega),ms];cases old with
   |nil=>simp at ho;omega
   |cons o old=>
    have es:(ints pre++o::old).set i ((x%gs[i].2:Nat):Int)=ints (pre++[x%gs[i].2])++old:=by rw[v1 _ _ (by omega),hpl,Nat.sub_self,s0];simp[ints]
    rw[es,jj N hg hb x35 x38 x39 x36 x42 x43 K0 q (i+1) (x/gs[i].2) (pre++[x%gs[i].2]) old (by omega) (by omega) (u0 hdv hx) (by simp[hp]) (by simp at ho;omega),hE hlt,dg];simp
  ·have:old=[]:=a1.mp (by omega);subst this;rw[cf (dF hlt),c0 (by omega),dg];simp
theorem bi {N:Nat}(hN:8589934600<N){hd:wF d}{L:List (K d)}{gs:List (K d×Nat)}(h:Kn hd L gs){R:Type}(k2:Unit→Option R)(kr:Bool→Option R):∀(q k:Nat) (ks:List (List Int)) (vs:List Int) (row:List Int),k≤np gs→np gs-k<q→row.length=gs.length→
  Mp (fun z=>∃j,j<k∧z=val (yC hd) gs (dg gs j)) (fun _ v=>v=1) ks vs→Q150.l19 N q d (eB (gs.map (·.1.1))) (jU gs) ((np gs:Nat):Int) (k:Int) ks vs row k2 kr=k2 ()
 |0,k,ks,vs,row,_,hq,_,_=>by omega
 |q+1,k,ks,vs,row,hk,hq,hr,hM=>by
  have hnp:=h.count;have hL:=h.len;have hpos:∀g∈gs,0<g.2:=fun g hg=>by have:=(h.big g hg).1;omega
  rw[Q150.l19,dG];by_cases hlt:k<np gs
  ·have i1:k+1≤np gs:=hlt;have i2:np gs- (k+1)<q:=by omega
   have i3:k<9223372036854775807:=by omega
   rw[ct (decide_eq_true hlt)];have h23:=jj N h.glen hpos d ((np gs:Nat):Int) (k:Int) (eB (gs.map (·.1.1))) ks vs (fun y53 y54 y55 y56 y57 y58 y59 y60=>
     (Q145.f N y53 y54 y60).bind fun r61=>
     bif (decide (0≤(kE [r61.1,r61.2.1,r61.2.2] y58)))&&(decide ((kE [r61.1,r61.2.1,r61.2.2] y58)<((yB [r61.1,r61.2.1,r61.2.2] y58).length:Int)))then
      bif decide ((yE [r61.1,r61.2.1,r61.2.2] (yB [r61.1,r61.2.1,r61.2.2] y58) ((lG [r61.1,r61.2.1,r61.2.2] (yE [r61.1,r61.2.1,r61.2.2] y58 y59) y58 (List.take (List.length y58) y59)).set ((kE [r61.1,r61.2.1,r61.2.2] y58).toNat) (aA ((yE [r61.1,r61.2.1,r61.2.2] y58 y59)+1))))>1)then
       kr false
      else
      (Q100.f N r61.1 r61.2.1 r61.2.2).bind fun r63=>
      bif !r63 then
       kr false
      else
      Q150.l19 N q y53 y54 y55 y56 (aA (y57+1)) (yB [r61.1,r61.2.1,r61.2.2] y58) ((lG [r61.1,r61.2.1,r61.2.2] (yE [r61.1,r61.2.1,r61.2.2] y58 y59) y58 (List.take (List.length y58) y59)).set ((kE [r61.1,r61.2.1,r61.2.2] y58).toNat) (aA ((yE [r61.1,r61.2.1,r61.2.2] y58 y59)+1))) y60 k2 kr
     else none) N 0 k [] row (by omega) (by have:=h.glen;omega) (by omega) rfl (by omega)
   rw[hX,List.nil_append,pC]at h23;refine h23.trans ?_;have hsm:=Ak k hpos;have hlen:=om gs k;have hbd:=Sm.bound (fun g hg=>(h.big g hg).2) hsm;rw[xc hN hd hlen h.glen (fun e he=>by have:=hbd e he;omega)];simp only[iA];generalize hz:val (yC hd) gs (dg gs k)=z;have hnew:¬ ∃j,j<k∧z=val (yC hd) gs (dg gs j):=fun⟨j,hj,e⟩=>by have hc:=h.uq.cong (h.fin.pos (yC hd)) (xH h.fin) hlen (om gs j) (hz.trans e);have:=Aj hlt (show j<np gs by omega) (hc.eq hsm (Ak j hpos));omega
   have h0:=((hM.get z).resolve_left fun hS=>hnew hS.1).2;unfold key at h0;have hw:aA ((0:Int)+1)=1:=by decide
   have hput:=hM.put z (v:=1) rfl;have hg1:=((hput.get z).resolve_right fun hn=>hn.1 (.inr rfl)).2;unfold key at hput hg1;rw[ct mi,tt hM.len,h0,hw,hg1,cf (by decide),bf hd];simp only[iA];rw[cf (by rfl),rE i3];exact bi hN h k2 kr q (k+1) _ _ _ i1 i2 (by rw[ints,aE,hlen]) (hput.congr (fun y=>by
    constructor
    ·rintro(⟨j,hj,e⟩|rfl)
     ·exact⟨j,by omega,e⟩
     ·exact⟨k,by omega,hz.symm⟩
    ·rintro⟨j,hj,e⟩;by_cases hjk:j=k
     ·subst hjk;exact .inr (e.trans hz)
     ·exact .inl ⟨j,by omega,e⟩) (fun _ _ h=>h))
  ·rw[cf (decide_eq_false hlt)]
theorem jX {N:Nat}(hN:8589934600<N)(hw:Q146.f N=some true)(a:Int)(w:(Lit.int .u16 a).wf=true):Q150.f N a=some true:=by
 obtain⟨w1,w2⟩:=Gk w;obtain⟨d,hdisc,hd⟩:=wl N w1 w2;obtain⟨L,gs,hP,hC,hA,hn,hr,hg⟩:=wN hN hd;have h:=hP.kn;have hgl:=h.glen;have hcount:=h.count;have hLl:=h.len;have hS:=vP hN hP.glen hg;unfold Q150.f;rw[hdisc,iA,hS,iA,hn,iA];have hol:(jU gs).length=gs.length:=by simp
 rw[cf (by rfl),cf (by rfl),eR,hol,cf (by simp)];have h8:=fM hN h (L.length:Int) (fun y22 y23 y24 y25 y26=>
   bif y26 != y25 then
    some false
   else
   bif decide ((y24.length:Int)=(y24.length:Int))&&decide (0≤(y24.length:Int))&&decide ((y24.length:Int)≤9223372036854775807)&&jB ((y24.length:Int).toNat) 8 then
    Q150.l19 N N y22 y23 y24 y26 0 [] [] (List.replicate ((y24.length:Int).toNat) (0:Int))
     (fun(_:Unit)=>
      (Q146.f N).bind fun r64=>
      some r64)
     (fun y65=>
      some y65)
   else none) (fun y66=>some y66) N 0 (by omega) (by omega)
 have z1:np ([]:List (K d×Nat))=1:=rfl;rw[iX,z1,pC,i0]at h8;refine h8.trans ?_;rw[hcount,cf (by simp),hol,iB];have hroom:(decide ((gs.length:Int)=(gs.length:Int))&&decide (0≤(gs.length:Int))&&decide ((gs.length:Int)≤9223372036854775807)&&jB gs.length 8)=true:=by rw[decide_eq_true rfl,decide_eq_true (show(0:Int)≤(gs.length:Int) by omega),decide_eq_true (show(gs.length:Int)≤9223372036854775807 by omega)];simp only[jB,Bool.and_self,Bool.true_and,decide_eq_true_eq];omega
 rw[ct hroom];have h19:=bi hN h (fun(_:Unit)=>(Q146.f N).bind fun r64=>some r64) (fun y65=>some y65) N 0 [] [] (List.replicate gs.length (0:Int)) (by omega) (by omega) (by simp) (Mp.nil fun z ⟨j,hj,_⟩=>by omega);rw[pC,hcount]at h19;refine h19.trans ?_;rw[hw];rfl
end
section
open Go Go.Proofs.YtjpdjdhdchjcgaaGreat.Ev
open Go.Proofs.YtjpdjdhdchjcgaaGreat.Pure (fA)
open Go.Proofs.YtjpdjdhdchjcgaaGreat.Cls (wF)
open Go.Proofs.YtjpdjdhdchjcgaaGreat.Srt (R4 aC ct cf rH dG sK aW)
section
variable {G:Type}{A:AG G}
theorem Sm.at:∀{gs:List (G×Nat)} {es:List Nat} (h:Sm gs es) {i:Nat} (hi:i<gs.length) (hj:i<es.length),es[i]<gs[i].2
 |g::gs,e::es,h,0,_,_=>h.1
 |g::gs,e::es,h,i+1,hi,hj=>by have:=Sm.at h.2 (i:=i) (by simpa using hi) (by simpa using hj);simpa using this
theorem Cg.at:∀{gs:List (G×Nat)} {es fs cs:List Nat} (h:Cg gs (eX es fs) cs) {i:Nat} (hi:i<gs.length) (h1:i<es.length) (h2:i<fs.length) (h3:i<cs.length),(es[i]+fs[i])%gs[i].2=cs[i]%gs[i].2
 |g::gs,e::es,f::fs,c::cs,h,0,_,_,_,_=>h.1
 |g::gs,e::es,f::fs,c::cs,h,i+1,hi,h1,h2,h3=>by have:=Cg.at (es:=es) (fs:=fs) h.2 (i:=i) (by simpa using hi) (by simpa using h1) (by simpa using h2) (by simpa using h3);simpa using this
end
variable {d:Int}
theorem gX (N:Nat){gs:List (K d×Nat)}(hg:gs.length≤45000)(hb:∀g∈gs,1<g.2∧g.2≤45000){es bs cs:List Nat}(ha:Sm gs es)(hbs:Sm gs bs)(hc:Sm gs cs)(hcg:Cg gs (eX es bs) cs){R:Type}(x12 x18 x19 x20:Int)(k0:Int→List Int→Int→Int→Int→Option R)(kr:Bool→Option R):∀(q i:Nat),i≤gs.length→gs.length-i<q→
  Q151.l15 N q x12 (jU gs) (ints es) (ints bs) (ints cs) (i:Int) x18 x19 x20 k0 kr=k0 x12 (jU gs) x18 x19 x20
 |0,i,_,h=>by omega
 |q+1,i,hi,hq=>by
  have la:=ha.len;have lb:=hbs.len;have lc:=hc.len;have ho:(jU gs).length=gs.length:=by simp
  have l1:(ints es).length=gs.length:=by rw[ints,aE,la]
  have l2:(ints bs).length=gs.length:=by rw[ints,aE,lb]
  have l3:(ints cs).length=gs.length:=by rw[ints,aE,lc]
  rw[Q151.l15,ho,l1,l2,l3];by_cases hlt:i<gs.length
  ·have s1:=ha.at hlt (by omega);have s2:=hbs.at hlt (by omega);have s3:=hc.at hlt (by omega);have s4:=hcg.at hlt (by omega) (by omega) (by omega);obtain⟨b1,b2⟩:=hb _ (cD hlt);rw[ct (dT hlt),ct (rH hlt)];simp only[iB,kS (show i<es.length by omega),kS (show i<bs.length by omega),kS (show i<cs.length by omega),mW hlt];rw[Nat.mod_eq_of_lt s3]at s4;rw[cf (decide_eq_false (by omega)),ct (rH hlt),ct (rH hlt),cf (decide_eq_false (by omega)),ct (rH hlt),ct (rH hlt),ct (rH hlt),ct (jb (by omega)),ct (rH hlt),aW (by omega),ms,s4,cf (by simp),rE (by omega)];exact gX N hg hb ha hbs hc hcg x12 x18 x19 x20 k0 kr q (i+1) (by omega) (by omega)
  ·rw[cf (dF hlt)]
end
section
variable {G:Type}
def tw (f:Nat→Nat):List (G×Nat)→List Nat
 | []=>[]
 |g::gs=>if f g.2=1 then []else f g.2::tw f gs
def Fv (q:Nat):List (G×Nat)→Nat
 | []=>0
 |g::gs=>if q∣g.2 then Fv q gs+1 else 0
end
section
open Go Go.Proofs.YtjpdjdhdchjcgaaGreat.Ev
open Go.Proofs.YtjpdjdhdchjcgaaGreat.Pure (fA)
open Go.Proofs.YtjpdjdhdchjcgaaGreat.Cls (wF vK uU)
open Go.Proofs.YtjpdjdhdchjcgaaGreat.Srt (R4 aC ct cf rH dG sK aW)
variable {d:Int}
theorem ju (l:List Nat):(ints l).length=l.length:=by simp[ints]
theorem ww (l:List Nat)(n:Nat):ints l++[(n:Int)]=ints (l++[n]):=by simp[ints]
end
section
open Go Go.Proofs.YtjpdjdhdchjcgaaGreat.Ev
open Go.Proofs.YtjpdjdhdchjcgaaGreat.Pure (fA)
open Go.Proofs.YtjpdjdhdchjcgaaGreat.Cls (wF vK uU)
open Go.Proofs.YtjpdjdhdchjcgaaGreat.Srt (R4 aC ct cf rH dG sK aW)
variable {d:Int}
theorem tJ (N:Nat){os:List Nat}(hl:os.length≤45000){R:Type}(k:List Int→Option R):∀(q i:Nat),i≤os.length→i<q→
  Q139.l36 N q (((i:Nat):Int)-1) (ints os) (ints (os.drop i).reverse) k=k (ints os.reverse)
 |0,i,_,h=>by omega
 |q+1,i,hi,hq=>by
  rw[Q139.l36];cases i with
  |zero=>rw[cf (decide_eq_false (by simp)),hX]
  |succ i=>
   have e:((i+1:Nat):Int)-1=(i:Int):=by omega
   have hroom:jB ((ints (os.drop (i+1)).reverse).length+1) 8=true:=by rw[ju];simp only[jB,decide_eq_true_eq,a3,List.length_drop];omega
   rw[e,ct (decide_eq_true (by omega)),ju,ct (rH (show i<os.length by omega)),ct hroom,iB,kS (show i<os.length by omega),ww];have e2:(os.drop (i+1)).reverse++[os[i]]=(os.drop i).reverse:=by rw[hE (show i<os.length by omega),List.reverse_cons]
   have e3:aA ((i:Int)-1)=(i:Int)-1:=fA (by omega) (by omega);rw[e2,e3];exact tJ N hl k q i (by omega) (by omega)
end
end Go.Proofs.YtjpdjdhdchjcgaaGreat.Grp
