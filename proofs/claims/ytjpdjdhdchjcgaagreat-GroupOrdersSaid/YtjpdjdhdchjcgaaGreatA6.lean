import Derived.Test.YtjpdjdhdchjcgaaGreatA5
open Option renaming bind_some→iA
open Int renaming toNat_natCast→zA,natCast_zero→pC,natCast_mul→q0,natCast_one→s0,tmod_eq_emod_of_nonneg→a6
open List renaming getD_eq_getElem?_getD→iB,getElem?_eq_getElem→zB,getElem_mem→cD,length_map→aE,take_of_length_le→hE,drop_eq_getElem_cons→zE,mem_cons_of_mem→yK,take_add_one→hR,take_zero→hT,getElem_of_mem→hW,take_succ_cons→hX,mem_cons→b0,pairwise_cons→l0,drop_eq_nil_of_le→n0,map_append→u0,set_cons_zero→y0,drop_zero→w3,getElem_cons_succ→n4,length_cons→p4,length_take→q4,set_append_right→w4,take_append_drop→x4,mem_append_left→b5,mem_of_mem_drop→c5,reverse_reverse→e5,mem_map_of_mem→n5,length_append→u5,mem_singleton→w5,mem_map→c6,length_eq_zero_iff→h6,length_nil→l6,nil_append→p6,countP_le_length→a7,mem_range→b7,mem_of_mem_take→c7,pairwise_append→e7,getD_cons_zero→u7,length_reverse→w7
open Nat renaming dvd_trans→hI,le_of_dvd→xK,mul_left_comm→sS,mul_comm→hU,mul_le_mul_left→iX,mul_assoc→c0,pow_succ→o0,min_eq_right→p0,min_eq_left→w0,le_trans→a1,mul_succ→j3,le_mul_of_pos_right→x3,le_refl→o4,pow_zero→k5,gcd_dvd_gcd_of_dvd_right→p5,dvd_one→q5,mul_one→s5,lt_of_le_of_lt→x5,gcd_dvd_right→b6,gcd_one_left→e6,mul_div_cancel_left→k6,pow_dvd_pow→q6,le_mul_of_pos_left→u6,one_mul→w6,pow_pos→x6,div_lt_of_lt_mul→k7,pow_le_pow_right→r7,dvd_refl→x7,gcd_comm→a8,sub_self→b8,dvd_gcd→c8,pow_one→e8
set_option linter.unusedVariables false
set_option linter.unusedSimpArgs false
namespace Go.Proofs.YtjpdjdhdchjcgaaGreat.Srt
open Go Go.Proofs.YtjpdjdhdchjcgaaGreat.Ev
open Go.Proofs.YtjpdjdhdchjcgaaGreat.Pure (fA aX)
open Go.Proofs.YtjpdjdhdchjcgaaGreat.Grp (bP sD)
theorem qx {N:Nat}(hN:2000010<N){n:Nat}(hn:n≤1000000){a m b:Nat}{f:Nat→R4}(hf:Bd f)(ham:a<m)(hmb:m<b)(hbn:b≤n)(h1:Dn f a m)(h2:Dn f m b):
  ∃f',Q123.f N (a:Int) (m:Int) (b:Int) (F f n)=some (F f' n)∧Mv n f f' a b∧Dn f' a b:=Fi hN hn N a m b f hf ham hmb hbn h1 h2 (by omega)
def Bl (f:Nat→R4)(s n:Nat):Prop:=∀k,Dn f (s*k) (min (s*k+s) n)
theorem Kt {N:Nat}(hN:2000010<N){n:Nat}(hn:n≤1000000){R:Type}(K:Int→Int→Int→List Int→Option R):∀(q t:Nat) (f:Nat→R4),Bd f→20*t≤n→n-20*t<q→(∀k,k<t→Dn f (20*k) (20*k+20))→
  ∃f' t',Q124.l2 N q (n:Int) 20 ((20*t:Nat):Int) ((20*t+20:Nat):Int) (F f n) K=K (n:Int) 20 ((20*t':Nat):Int) (F f' n)∧Mv n f f' 0 n∧20*t'≤n∧n<20*t'+20∧∀k,k<t'→Dn f' (20*k) (20*k+20)
 |0,t,f,_,_,h,_=>by omega
 |q+1,t,f,hf,ht,hq,hd=>by
  rw[Q124.l2];by_cases hle:20*t+20≤n
  ·rw[ct (decide_eq_true (show((20*t+20:Nat):Int)≤(n:Int) by omega))];obtain⟨g,g1,g2,g3⟩:=nz (N:=N) (by omega) (a:=20*t) hle hn (by omega) hf;rw[g1];simp only[iA];have e1:aA (((20*t+20:Nat):Int)+20)=((20*(t+1)+20:Nat):Int):=by rw[fA (by omega) (by omega)];omega
   have e2:((20*t+20:Nat):Int)=((20*(t+1):Nat):Int):=by omega
   rw[e1,e2];obtain⟨f',t',r1,r2,r3⟩:=Kt hN hn K q (t+1) g (g2.bd hf) (by omega) (by omega) (fun k hk=>by
    by_cases e:k=t
    ·subst e;exact g3
    ·exact(hd k (by omega)).same fun i q1 q2=>g2.out i (by omega))
   exact⟨f',t',r1,(g2.mono (by omega) hle).trans r2,r3⟩
  ·rw[cf (decide_eq_false (show ¬((20*t+20:Nat):Int)≤(n:Int) by omega))];exact⟨f,t,rfl,Mv.refl _ _ _ _,ht,by omega,hd⟩
theorem Ku {N:Nat}(hN:2000010<N){n s:Nat}(hn:n≤1000000)(hs:0<s)(hsn:s<n){R:Type}(K:Int→Int→Int→List Int→Option R):∀(q t:Nat) (f:Nat→R4),Bd f→2*s*t≤n→n-2*s*t<q→(∀k,k<t→Dn f (2*s*k) (2*s*k+2*s))→(∀k,2*t≤k→Dn f (s*k) (min (s*k+s) n))→
  ∃f' t',Q124.l9 N q (n:Int) (s:Int) ((2*s*t:Nat):Int) ((2*s*t+2*s:Nat):Int) (F f n) K=K (n:Int) (s:Int) ((2*s*t':Nat):Int) (F f' n)∧Mv n f f' 0 n∧2*s*t'≤n∧n<2*s*t'+2*s∧(∀k,k<t'→Dn f' (2*s*k) (2*s*k+2*s))∧(∀k,2*t'≤k→Dn f' (s*k) (min (s*k+s) n))
 |0,t,f,_,_,h,_,_=>by omega
 |q+1,t,f,hf,ht,hq,hd,hd2=>by
  rw[Q124.l9];have m1:2*s*(t+1)=2*s*t+2*s:=j3 _ _;have m2:s*(2*t)=2*s*t:=by rw[sS,c0]
  have m3:s*(2*t+1)=2*s*t+s:=by rw[j3,m2]
  by_cases hle:2*s*t+2*s≤n
  ·rw[ct (decide_eq_true (show((2*s*t+2*s:Nat):Int)≤(n:Int) by omega)),kV (by omega)];have b1:=hd2 (2*t) (o4 _);have b2:=hd2 (2*t+1) (by omega);rw[m2,w0 (by omega)]at b1;rw[m3,w0 (by omega)]at b2;obtain⟨g,g1,g2,g3⟩:=qx hN hn hf (a:=2*s*t) (m:=2*s*t+s) (b:=2*s*t+2*s) (by omega) (by omega) hle b1 (by rw[show 2*s*t+2*s=2*s*t+s+s by omega];exact b2);rw[g1];simp only[iA];have e0:aA (2*(s:Int))=((2*s:Nat):Int):=by rw[fA (by omega) (by omega)];omega
   have e1:aA (((2*s*t+2*s:Nat):Int)+((2*s:Nat):Int))=((2*s*(t+1)+2*s:Nat):Int):=by rw[kV (by omega),m1]
   rw[e0,e1,show((2*s*t+2*s:Nat):Int)=((2*s*(t+1):Nat):Int) by rw[m1]];obtain⟨f',t',r1,r2,r3⟩:=Ku hN hn hs hsn K q (t+1) g (g2.bd hf) (by omega) (by omega) (fun k hk=>by
    by_cases e:k=t
    ·subst e;exact g3
    ·have:2*s*k+2*s≤2*s*t:=by rw[←j3];exact iX _ (by omega)
     exact(hd k (by omega)).same fun i q1 q2=>g2.out i (by omega))
    (fun k hk=>by
     have:2*s*t+2*s≤s*k:=by have:=iX s (show 2*(t+1)≤k by omega);rw[sS,←c0,m1]at this;exact this
     exact(hd2 k (by omega)).same fun i q1 q2=>g2.out i (by omega))
   exact⟨f',t',r1,(g2.mono (by omega) hle).trans r2,r3⟩
  ·rw[cf (decide_eq_false (show ¬((2*s*t+2*s:Nat):Int)≤(n:Int) by omega))];exact⟨f,t,rfl,Mv.refl _ _ _ _,ht,by omega,hd,hd2⟩
theorem Kf {N:Nat}(hN:2000010<N){n:Nat}(hn:n≤1000000){R:Type}(K:List Int→Option R):∀(q s:Nat) (f:Nat→R4),Bd f→0<s→s≤4000000→n-s<q→Bl f s n→
  ∃f',Q124.l7 N q (n:Int) (s:Int) (F f n) K=K (F f' n)∧Mv n f f' 0 n∧Dn f' 0 n
 |0,s,f,_,_,_,h,_=>by omega
 |q+1,s,f,hf,hs,hs2,hq,hd=>by
  rw[Q124.l7,dG];by_cases hlt:s<n
  ·rw[ct (decide_eq_true hlt)];have e0:aA (2*(s:Int))=((2*s*0+2*s:Nat):Int):=by rw[fA (by omega) (by omega)];omega
   have e3:aA ((s:Int)*2)=((2*s:Nat):Int):=by rw[fA (by omega) (by omega)];omega
   obtain⟨g,t,g1,g2,g3,g4,g5,g6⟩:=Ku hN hn hs hlt (fun y31 y32 y33 y34=>bif decide ((aA (y33+y32))<y31)then(Q123.f N y33 (aA (y33+y32)) y31 y34).bind fun r35=>Q124.l7 N q y31 (aA (y32*2)) r35 K else Q124.l7 N q y31 (aA (y32*2)) y34 K) N 0 f hf (by omega) (by omega) (fun k hk=>by omega) (fun k hk=>hd k);have z:((2*s*0:Nat):Int)=0:=by rw[Nat.mul_zero];rfl
   rw[z]at g1;rw[e0,g1,kV (by omega),dG,e3];have m2:s*(2*t)=2*s*t:=by rw[sS,c0]
   have m3:s*(2*t+1)=2*s*t+s:=by rw[j3,m2]
   have b1:=g6 (2*t) (o4 _);have b2:=g6 (2*t+1) (by omega);rw[m2]at b1;rw[m3]at b2;have fin:∀h:Nat→R4,Mv n g h (2*s*t) n→Dn h (2*s*t) n→Bl h (2*s) n:=fun h h1 h2 k=>by
    rcases Nat.lt_trichotomy k t with hk|hk|hk
    ·have hle:2*s*k+2*s≤2*s*t:=by rw[←j3];exact iX _ (by omega)
     have:=g5 k hk;rw[w0 (by omega)];exact this.same fun i q1 q2=>h1.out i (by omega)
    ·subst hk;rw[p0 (by omega)];exact h2
    ·have hle:2*s*t+2*s≤2*s*k:=by rw[←j3];exact iX _ (by omega)
     intro i j q1 q2 q3;omega
   by_cases hc:2*s*t+s<n
   ·rw[ct (decide_eq_true hc)];rw[w0 (by omega)]at b1;rw[p0 (by omega)]at b2;obtain⟨h,h1,h2,h3⟩:=qx hN hn (g2.bd hf) (a:=2*s*t) (m:=2*s*t+s) (b:=n) (by omega) hc (o4 _) b1 b2;rw[h1];simp only[iA];obtain⟨f',r1,r2,r3⟩:=Kf hN hn K q (2*s) h (h2.bd (g2.bd hf)) (by omega) (by omega) (by omega) (fin h h2 h3);exact⟨f',r1,(g2.trans (h2.mono (by omega) (by omega))).trans r2,r3⟩
   ·rw[cf (decide_eq_false hc)];rw[p0 (by omega)]at b1;obtain⟨f',r1,r2,r3⟩:=Kf hN hn K q (2*s) g (g2.bd hf) (by omega) (by omega) (by omega) (fin g (Mv.refl _ _ _ _) b1);exact⟨f',r1,g2.trans r2,r3⟩
  ·rw[cf (decide_eq_false hlt)];refine⟨f,rfl,Mv.refl _ _ _ _,?_⟩;have:=hd 0;rw[Nat.mul_zero,p0 (by omega)]at this;exact this
theorem qt {N:Nat}(hN:2000010<N){n:Nat}(hn:n≤1000000){f:Nat→R4}(hf:Bd f):∃f',Q124.f N (n:Int) (F f n)=some (F f' n)∧Mv n f f' 0 n∧Dn f' 0 n:=by
 unfold Q124.f;obtain⟨g,t,g1,g2,g3,g4,g5⟩:=Kt hN hn (fun y13 y14 y15 y16=>(Q122.f N y15 y13 y16).bind fun r17=>Q124.l7 N N y13 y14 r17 (fun y37=>some y37)) N 0 f hf (by omega) (by omega) (fun k hk=>by omega);have g1':Q124.l2 N N (n:Int) 20 0 20 (F f n) _=_:=g1;rw[g1'];obtain⟨h,h1,h2,h3⟩:=nz (N:=N) (by omega) (a:=20*t) (b:=n) (o4 _) hn (by omega) (g2.bd hf);rw[h1];simp only[iA];obtain⟨f',r1,r2,r3⟩:=Kf hN hn (fun y37=>some y37) N 20 h (h2.bd (g2.bd hf)) (by omega) (by omega) (by omega) (fun k=>by
  rcases Nat.lt_trichotomy k t with hk|hk|hk
  ·rw[w0 (by omega)];exact(g5 k hk).same fun i q1 q2=>h2.out i (by omega)
  ·subst hk;rw[p0 (by omega)];exact h3
  ·intro i j q1 q2 q3;omega)
 exact⟨f',r1,(g2.trans (h2.mono (by omega) (by omega))).trans r2,r3⟩
theorem gV {N:Nat}(hN:2000010<N){l:List R4}(hl:l.length≤1000000)(hb:∀x∈l,0≤nn x∧nn x≤1000000):
  ∃l':List R4,Q125.f N (cC l)=some (cC l')∧l'.Perm l∧l'.Pairwise (fun a b=>nn b≤nn a):=by
 have hf:Bd (fun i=>l.getD i (0,0,0,0)):=fun i=>by
  by_cases h:i<l.length
  ·have:l.getD i (0,0,0,0)=l[i]:=by simp[iB,h]
   simp only[this];exact hb _ (cD h)
  ·have:l.getD i (0,0,0,0)=(0,0,0,0):=by simp[iB,List.getElem?_eq_none (Nat.le_of_not_lt h)]
   simp only[this];decide
 obtain⟨f',h1,h2,h3⟩:=qt hN hl hf;have e:F (fun i=>l.getD i (0,0,0,0)) l.length=cC l:=by rw[F,wm]
 have e4:((cC l).length/4:Int)=(l.length:Int):=by rw[cG];omega
 have hp:=h2.perm;rw[wm]at hp;refine⟨tab f' l.length,?_,hp,?_⟩
 ·unfold Q125.f;rw[e4,←e,h1];rfl
 ·unfold tab;rw[List.pairwise_map];refine List.pairwise_lt_range.imp_of_mem fun{a b} ha hb hlt=>?_;exact h3 a b (by omega) (by omega) (b7.mp hb)
theorem pz {N:Nat}{n:Nat}(hn:n≤1000000){R:Type}(K:List Int→Option R):∀(q i j:Nat) (f:Nat→R4),i+j+1=n→i≤j+1→j+1-i<q→
  Q126.l1 N q (i:Int) (j:Int) (F f n) K=K (F (fun k=>if i≤k∧k≤j then f (n-1-k)else f k) n)
 |0,i,j,f,_,_,h=>by omega
 |q+1,i,j,f,h1,h2,hq=>by
  rw[Q126.l1,dG];by_cases hlt:i<j
  ·rw[ct (decide_eq_true hlt),ct (bJ f (by omega)),ct (bJ f (by omega)),ct (bJ f (by omega))];rw[ct (by simp only[List.length_set];exact bJ f (by omega))];simp only[zA];rw[mh f (by omega) (by omega),sD (by omega),qJ (by omega) (by omega),pz hn K q (i+1) (j-1) _ (by omega) (by omega) (by omega)];have e:(fun k=>if i+1≤k∧k≤j-1 then gd f i j (n-1-k)else gd f i j k)=fun k=>if i≤k∧k≤j then f (n-1-k)else f k:=by
    funext k;simp only[tG]
    repeat' split
    all_goals first|rfl|(exfalso;omega)|(exact absurd trivial (by assumption))|(congr 1;omega)
   rw[e]
  ·rw[cf (decide_eq_false hlt)];have e:(fun k=>if i≤k∧k≤j then f (n-1-k)else f k)=f:=by
    funext k
    repeat' split
    all_goals first|rfl|(exfalso;omega)|(congr 1;omega)
   rw[e]
theorem jO {N:Nat}(hN:1000010<N){l:List R4}(hl:l.length≤1000000):Q126.f N (cC l)=some (cC l.reverse):=by
 unfold Q126.f;have e:F (fun i=>l.getD i (0,0,0,0)) l.length=cC l:=by rw[F,wm]
 have e4:((cC l).length/4:Int)=(l.length:Int):=by rw[cG];omega
 rw[e4];cases hc:l.length with
 |zero=>
  have:l=[]:=h6.mp hc;subst this;have:∃N',N=N'+1:=⟨N-1,by omega⟩
  obtain⟨N',rfl⟩:=this;rfl
 |succ n=>
  have hw:aA (((n+1:Nat):Int)-1)=(n:Int):=by rw[fA (by omega) (by omega)];omega
  rw[hw,←e,hc];have:=pz (N:=N) (n:=n+1) (by omega) (fun y6=>some y6) N 0 n (fun i=>l.getD i (0,0,0,0)) (by omega) (by omega) (by omega);rw[pC]at this;rw[this,F];congr 2;apply List.ext_getElem
  ·rw[sT,w7,hc]
  ·intro k k1 k2;rw[sT]at k1;simp only[tab,List.getElem_map,List.getElem_range,List.getElem_reverse];rw[if_pos (by omega)];simp only[iB];rw[zB (by omega)];simp only[Option.getD_some];congr 1;omega
end Go.Proofs.YtjpdjdhdchjcgaaGreat.Srt
namespace Go.Proofs.YtjpdjdhdchjcgaaGreat.Grp
section
open Go Go.Proofs.YtjpdjdhdchjcgaaGreat.Ev
open Go.Proofs.YtjpdjdhdchjcgaaGreat.Pure (fA)
open Go.Proofs.YtjpdjdhdchjcgaaGreat.Cls (iF bK aN lK nH pI)
open Go.Proofs.YtjpdjdhdchjcgaaGreat.Srt (R4 cC aK cG mK ct cf iG dG qJ)
variable {d:Int}
def key (z:K d):List Int:=[z.1.1,z.1.2.1,z.1.2.2]
theorem jj {x y:K d}(h:key x=key y):x=y:=by
 simp only[key,List.cons.injEq,and_true]at h;exact(Je x y).mp (by rw[h.1,h.2.1,h.2.2];simp)
structure Mp (S:K d→Prop)(W:K d→Int→Prop)(ks:List (List Int))(vs:List Int):Prop where
 nd:ks.Nodup
 len:vs.length=ks.length
 sound:∀i (h:i<ks.length),∃z:K d,ks[i]=key z∧S z∧W z (vs.getD i 0)
 full:∀z,S z→key z∈ks
theorem Mp.congr {S S':K d→Prop}{W W':K d→Int→Prop}{ks:List (List Int)}{vs:List Int}(h:Mp S W ks vs)(hs:∀z,S z↔S' z)(hw:∀z v,W z v→W' z v):Mp S' W' ks vs:=
 ⟨h.nd,h.len,fun i hi=>by obtain⟨z,a,b,c⟩:=h.sound i hi;exact⟨z,a,(hs z).mp b,hw _ _ c⟩,fun z hz=>h.full z ((hs z).mpr hz)⟩
theorem Mp.nil {S:K d→Prop}{W:K d→Int→Prop}(hs:∀z,¬S z):Mp S W [] []:=⟨List.nodup_nil,rfl,fun i h=>by simp at h,fun z hz=>absurd hz (hs z)⟩
theorem jo {l:List Int}{ks:List (List Int)}{j:Nat}(h:cF l ks 0=some j):∃hj:j<ks.length,ks[j]=l:=by
 obtain⟨_,h2⟩:=aN l ks 0 j h;rw[Nat.sub_zero]at h2;exact List.getElem?_eq_some_iff.mp h2
theorem Mp.get {S:K d→Prop}{W:K d→Int→Prop}{ks:List (List Int)}{vs:List Int}(h:Mp S W ks vs)(z:K d):(S z∧W z (aF (key z) ks vs))∨(¬S z∧aF (key z) ks vs=0):=by
 unfold aF;cases hm:cF (key z) ks 0 with
 |none=>exact .inr ⟨fun hs=>bK _ _ _ hm (h.full z hs),rfl⟩
 |some j=>obtain⟨hj,e⟩:=jo hm;obtain⟨z',a,b,c⟩:=h.sound j hj;have:z=z':=jj (e.symm.trans a);subst this;exact .inl ⟨b,c⟩
theorem Mp.put {S:K d→Prop}{W:K d→Int→Prop}{ks:List (List Int)}{vs:List Int}(h:Mp S W ks vs)(z:K d){v:Int}(hv:W z v):Mp (fun y=>S y∨y=z) W (aC (key z) ks) (oG (key z) v ks vs):=by
 unfold aC yQ oG;cases hm:cF (key z) ks 0 with
 |none=>
  have hn:=bK _ _ _ hm;simp only[Option.isSome_none,cond_false];refine⟨?_,by simp[h.len],fun i hi=>?_,fun y hy=>?_⟩
  ·rw[List.nodup_append];exact⟨h.nd,by simp,fun a ha b hb=>by simp only[w5]at hb;subst hb;exact fun e=>hn (e▸ha)⟩
  ·simp only[u5,List.length_singleton]at hi;by_cases hlt:i<ks.length
   ·obtain⟨y,a,b,c⟩:=h.sound i hlt;refine⟨y,by rw[List.getElem_append_left hlt];exact a,.inl b,?_⟩;rw[iB,List.getElem?_append_left (by rw[h.len];exact hlt),←iB];exact c
   ·have:i=ks.length:=by omega
    subst this;refine⟨z,by simp,.inr rfl,?_⟩;rw[iB,List.getElem?_append_right (by rw[h.len];exact o4 _),h.len];simpa using hv
  ·rcases hy with hy|rfl
   ·exact b5 _ (h.full y hy)
   ·simp
 |some j=>
  obtain⟨hj,e⟩:=jo hm;simp only[Option.isSome_some,cond_true];refine⟨h.nd,by simp[h.len],fun i hi=>?_,fun y hy=>?_⟩
  ·obtain⟨y,a,b,c⟩:=h.sound i hi;by_cases hij:j=i
   ·subst hij;have:z=y:=jj (e.symm.trans a);subst this;refine⟨z,a,.inl b,?_⟩;rw[iB,List.getElem?_set_self (by rw[h.len];exact hj)];exact hv
   ·refine⟨y,a,.inl b,?_⟩;rw[iB,List.getElem?_set_ne hij,←iB];exact c
  ·rcases hy with hy|rfl
   ·exact h.full y hy
   ·rw[←e];exact cD hj
theorem Mp.keys {S:K d→Prop}{W:K d→Int→Prop}{ks:List (List Int)}{vs:List Int}(h:Mp S W ks vs){L:List (K d)}(hL:rz L):ks.length≤L.length:=by
 have:=List.Nodup.length_le_of_subset (l₂:=L.map key) h.nd (fun r hr=>by obtain⟨i,hi,rfl⟩:=hW hr;obtain⟨z,a,_⟩:=h.sound i hi;rw[a];exact n5 (hL.all z));simpa using this
theorem xv {k:List Int}{ks:List (List Int)}{vs:List Int}(hl:vs.length=ks.length)(x y:Int):(oG k x ks (List.take (List.length ks) vs)).set ((nE k ks).toNat) y=oG k y ks vs:=by
 rw[hE (by omega)];unfold oG nE;cases hm:cF k ks 0 with
 |none=>simp[←hl]
 |some j=>simp
theorem qu {k:List Int}{ks:List (List Int)}:((decide (0≤(nE k ks)))&&(decide ((nE k ks)<((aC k ks).length:Int))))=true:=by
 unfold nE aC yQ;cases hm:cF k ks 0 with
 |none=>simp;omega
 |some j=>obtain⟨hj,_⟩:=jo hm;simp;omega
def jF (g:K d×Nat):R4:=(g.1.1.1,g.1.1.2.1,g.1.1.2.2,(g.2:Int))
theorem xY {L:List (K d)}{i:Nat}(h:i<L.length):(eB (L.map (·.1))).getD (i*3) 0=L[i].1.1∧(eB (L.map (·.1))).getD (i*3+1) 0=L[i].1.2.1∧(eB (L.map (·.1))).getD (i*3+2) 0=L[i].1.2.2:=by
 have:=lK (R:=L.map (·.1)) (i:=i) (by simpa using h);simpa using this
theorem yY {L:List (K d×Nat)}{i:Nat}(h:i<L.length):(cC (L.map jF)).getD (i*4) 0=L[i].1.1.1∧(cC (L.map jF)).getD (i*4+1) 0=L[i].1.1.2.1∧(cC (L.map jF)).getD (i*4+2) 0=L[i].1.1.2.2∧(cC (L.map jF)).getD (i*4+3) 0=(L[i].2:Int):=by
 have:=mK (l:=L.map jF) (i:=i) (by simpa using h);simpa[jF]using this
theorem bG (L:List (K d)):((eB (L.map (·.1))).length/3:Int)=(L.length:Int):=by rw[nH];simp
theorem mH (L:List (K d×Nat)):((cC (L.map jF)).length/4:Int)=(L.length:Int):=by rw[cG];simp
theorem De (L:List (K d))(z:K d):eB (L.map (·.1))++[z.1.1,z.1.2.1,z.1.2.2]=eB ((L++[z]).map (·.1)):=by rw[u0,rJ];rfl
theorem zY (L:List (K d×Nat))(z:K d×Nat):cC (L.map jF)++[z.1.1.1,z.1.1.2.1,z.1.1.2.2,(z.2:Int)]=cC ((L++[z]).map jF):=by rw[u0,aK];rfl
theorem J4 {L:List (K d)}(h:L.length≤2900000000000):fB (((eB (L.map (·.1))).length+3)/3) 24=true:=by
 rw[sF];simp only[fB,decide_eq_true_eq,aE];omega
theorem vK {L:List (K d×Nat)}(h:L.length≤2000000000000):fB (((cC (L.map jF)).length+4)/4) 32=true:=by
 rw[cG];simp only[fB,decide_eq_true_eq,aE];omega
theorem vZ {N:Nat}(hN:8589934600<N)(hd:iF d){L:List (K d)}(hL:rz L)(hb:L.length≤45000){size m:Nat}(hs:0<size)(hm:L.length=size*m){R:Type}(x8:List Int)(x10:Int)
  (K0:List Int→Int→Int→Int→Int→List (List Int)→List Int→Option R):∀(q i:Nat) (ks:List (List Int)) (vs:List Int),i≤L.length→L.length-i<q→
   Mp (fun z=>∃j,∃hj:j<L.length,j<i∧z=pw (xC hd) L[j] m) (fun z v=>∃n:Nat,v=n∧aU (xC hd) z n) ks vs→
   ∃ks' vs',Mp (fun z=>∃j,∃hj:j<L.length,z=pw (xC hd) L[j] m) (fun z v=>∃n:Nat,v=n∧aU (xC hd) z n) ks' vs'∧
    Q130.l3 N q x8 (L.length:Int) x10 (size:Int) (eB (L.map (·.1))) (L.length:Int) (i:Int) (one hd).1.1 (one hd).1.2.1 (one hd).1.2.2 ks vs K0=K0 x8 x10 (one hd).1.1 (one hd).1.2.1 (one hd).1.2.2 ks' vs'
 |0,i,ks,vs,_,h,_=>by omega
 |q+1,i,ks,vs,hi,hq,h=>by
  rw[Q130.l3,dG];by_cases hlt:i<L.length
  ·have i1:i+1≤L.length:=hlt;have i2:L.length- (i+1)<q:=by omega
   have i3:i<9223372036854775807:=by omega
   rw[ct (decide_eq_true hlt),bG,ct (iG hlt),ct (mW hs)];obtain⟨e1,e2,e3⟩:=xY hlt;have hsl:size≤L.length:=by rw[hm];exact x3 _ (Nat.pos_of_ne_zero fun e=>by subst e;have:=hL.pos (xC hd);omega)
   have hdiv:L.length/size=m:=by rw[hm,k6 _ hs]
   have hml:m≤L.length:=by rw[hm];exact u6 _ hs
   rw[lW,hdiv,bP (by omega)];simp only[zA,e1,e2,e3];rw[vP hN hd _ (by omega) (by omega)];simp only[iA,zA];generalize hz:pw (xC hd) L[i] m=z;have hz1:pw (xC hd) z size=(xC hd).one:=by rw[←hz,←fH,hU,←hm];exact mG hL _
   have step:∀{ks':List (List Int)} {vs':List Int},Mp (fun y=>(∃j,∃hj:j<L.length,j<i∧y=pw (xC hd) L[j] m)∨y=z) (fun z v=>∃n:Nat,v=n∧aU (xC hd) z n) ks' vs'→
     Mp (fun y=>∃j,∃hj:j<L.length,j<i+1∧y=pw (xC hd) L[j] m) (fun z v=>∃n:Nat,v=n∧aU (xC hd) z n) ks' vs':=fun{ks' vs'} hM=>hM.congr (fun y=>by
      constructor
      ·rintro(⟨j,hj,h1,h2⟩|rfl)
       ·exact⟨j,hj,by omega,h2⟩
       ·exact⟨i,hlt,by omega,hz.symm⟩
      ·rintro⟨j,hj,h1,h2⟩;by_cases e:j=i
       ·subst e;exact .inr (h2.trans hz)
       ·exact .inl ⟨j,hj,by omega,h2⟩) (fun _ _ h=>h)
   have hg:=h.get z;unfold key at hg;by_cases h0:aF [z.1.1,z.1.2.1,z.1.2.2] ks vs=0
   ·rw[ct (beq_iff_eq.mpr h0)];obtain⟨n,n1,n2,n3⟩:=uR hN hd z hs (by omega) hz1;rw[n3];simp only[iA];rw[sD i3];exact vZ hN hd hL hb hs hm x8 x10 K0 q (i+1) _ _ i1 i2 (step (h.put z ⟨n,rfl,n1⟩))
   ·rw[cf (beq_eq_false_iff_ne.mpr h0),sD i3];have hS:=(hg.resolve_right fun h1=>h0 h1.2).1;exact vZ hN hd hL hb hs hm x8 x10 K0 q (i+1) _ _ i1 i2 (step (h.congr (fun y=>⟨.inl,fun h=>h.elim id fun e=>e▸hS⟩) (fun _ _ h=>h)))
  ·rw[cf (decide_eq_false hlt)];refine⟨ks,vs,h.congr (fun z=>⟨fun⟨j,hj,_,e⟩=>⟨j,hj,e⟩,fun⟨j,hj,e⟩=>⟨j,hj,by omega,e⟩⟩) (fun _ _ h=>h),rfl⟩
theorem eV {N:Nat}(hd:iF d){L:List (K d)}(hb:L.length≤45000){S:K d→Prop}{ks:List (List Int)}{vs:List Int}(hM:Mp S (fun z v=>∃n:Nat,v=n∧aU (xC hd) z n) ks vs){R:Type}(x36 x40 x41 x42:Int)(K0:Int→Int→Int→Int→List Int→Option R):
  ∀(q i:Nat) (rs:List (K d×Nat)),i≤L.length→L.length-i<q→rs.length≤i→(∀r∈rs,S r.1∧1<r.2∧aU (xC hd) r.1 r.2)→(∀j (hj:j<L.length),j<i→S L[j]→L[j]≠(xC hd).one→∃n,(L[j],n)∈rs)→
   ∃rs':List (K d×Nat),rs'.length≤L.length∧(∀r∈rs',S r.1∧1<r.2∧aU (xC hd) r.1 r.2)∧(∀z∈L,S z→z≠(xC hd).one→∃n,(z,n)∈rs')∧
    Q130.l11 N q x36 (eB (L.map (·.1))) (L.length:Int) (i:Int) x40 x41 x42 ks vs (cC (rs.map jF)) K0=K0 x36 x40 x41 x42 (cC (rs'.map jF))
 |0,i,rs,_,h,_,_,_=>by omega
 |q+1,i,rs,hi,hq,hl,h1,h2=>by
  rw[Q130.l11,dG];by_cases hlt:i<L.length
  ·rw[ct (decide_eq_true hlt),bG,ct (iG hlt)];obtain⟨e1,e2,e3⟩:=xY hlt;simp only[zA,e1,e2,e3];have hg:=hM.get L[i];unfold key at hg;generalize hv:aF [L[i].1.1,L[i].1.2.1,L[i].1.2.2] ks vs=v at hg;by_cases hc:v>1
   ·rw[ct (decide_eq_true hc),ct (vK (by omega)),sD (by omega)];obtain⟨hS,n,rfl,hO⟩:=hg.resolve_right fun h=>by omega
    rw[zY rs (L[i],n)];refine eV hd hb hM x36 x40 x41 x42 K0 q (i+1) (rs++[(L[i],n)]) (by omega) (by omega) (by simp;omega) (fun r hr=>?_) (fun j hj hji hSj hne=>?_)
    ·simp only[List.mem_append,w5]at hr;rcases hr with hr|rfl
     ·exact h1 r hr
     ·exact⟨hS,by simp only;omega,hO⟩
    ·by_cases e:j=i
     ·subst e;exact⟨n,by simp⟩
     ·obtain⟨k,hk⟩:=h2 j hj (by omega) hSj hne;exact⟨k,b5 _ hk⟩
   ·rw[cf (decide_eq_false hc),sD (by omega)];refine eV hd hb hM x36 x40 x41 x42 K0 q (i+1) rs (by omega) (by omega) (by omega) h1 (fun j hj hji hSj hne=>?_);by_cases e:j=i
    ·subst e;exfalso;obtain⟨_,n,hn,hO⟩:=hg.resolve_right fun h=>h.1 hSj;have:n=1:=by have:=hO.1;omega
     subst this;have:=hO.kill;rw[uI]at this;exact hne this
    ·exact h2 j hj (by omega) hSj hne
  ·rw[cf (decide_eq_false hlt)];refine⟨rs,by omega,h1,fun z hz hS hne=>?_,rfl⟩;obtain⟨j,hj,rfl⟩:=hW hz;exact h2 j hj (by omega) hS hne
end
section
open Go Go.Proofs.YtjpdjdhdchjcgaaGreat.Ev
open Go.Proofs.YtjpdjdhdchjcgaaGreat.Pure (fA)
open Go.Proofs.YtjpdjdhdchjcgaaGreat.Cls (iF pI lK nH)
open Go.Proofs.YtjpdjdhdchjcgaaGreat.Srt (R4 cC aK cG mK ct cf iG dG qJ)
variable {d:Int}
theorem yf {N:Nat}(hN:8589934600<N)(hd:iF d)(c:K d){n:Nat}(hn:n≤50000)(g:K d){R:Type}(x89 x91 x92:Int)(x93:List Int)(x94:List (List Int))(x95 x107:List Int)(x108:Nat)(x109:List Nat)(x110:Nat)
  (K0:Int→Int→Int→List Int→List (List Int)→List Int→Int→Int→Int→Int→List Int→List Int→Nat→List Nat→Nat→Option R):∀(q k:Nat) (Y:List (K d)),0<k→n-k<q→Y.length≤2500000000+k→
   ∃Y':List (K d),Y'.length=Y.length+(n-k)∧(∀z∈Y',z∈Y∨∃e,e<n∧z=mul hd g (pw (xC hd) c e))∧(∀z∈Y,z∈Y')∧(∀e,k≤e→e<n→mul hd g (pw (xC hd) c e)∈Y')∧
   Q130.l30 N q x89 (k:Int) x91 x92 x93 x94 x95 c.1.1 c.1.2.1 c.1.2.2 (n:Int) (eB (Y.map (·.1))) g.1.1 g.1.2.1 g.1.2.2 (pw (xC hd) c k).1.1 (pw (xC hd) c k).1.2.1 (pw (xC hd) c k).1.2.2 x107 x108 x109 x110 K0
    =K0 x89 x91 x92 x93 x94 x95 c.1.1 c.1.2.1 c.1.2.2 (n:Int) (eB (Y'.map (·.1))) x107 x108 x109 x110
 |0,k,Y,_,h,_=>by omega
 |q+1,k,Y,hk,hq,hY=>by
  rw[Q130.l30,dG];by_cases hlt:k<n
  ·rw[ct (decide_eq_true hlt),oO hN hd g];simp only[iA];rw[ct (J4 (by omega)),oO hN hd (pw (xC hd) c k) c,De,sD (by omega)];simp only[iA];obtain⟨Y',h1,h2,h3,h4,h5⟩:=yf hN hd c hn g x89 x91 x92 x93 x94 x95 x107 x108 x109 x110 K0 q (k+1) (Y++[mul hd g (pw (xC hd) c k)]) (by omega) (by omega) (by simp;omega);refine⟨Y',by rw[h1];simp;omega,fun z hz=>?_,fun z hz=>h3 z (b5 _ hz),fun e e1 e2=>?_,h5⟩
   ·rcases h2 z hz with h|h
    ·simp only[List.mem_append,w5]at h;rcases h with h|rfl
     ·exact .inl h
     ·exact .inr ⟨k,hlt,rfl⟩
    ·exact .inr h
   ·by_cases e3:e=k
    ·subst e3;exact h3 _ (by simp)
    ·exact h4 e (by omega) e2
  ·rw[cf (decide_eq_false hlt)];exact⟨Y,by omega,fun z hz=>.inl hz,fun z hz=>hz,fun e e1 e2=>by omega,rfl⟩
theorem ow {N:Nat}(hN:8589934600<N)(hd:iF d)(c:K d){n:Nat}(hn:n≤50000){S:K d→Prop}{W:K d→Int→Prop}{ks:List (List Int)}{vs:List Int}(hM:Mp S W ks vs)(hkl:ks.length≤45000){R:Type}(x65 x66 x67:Int)(x68 x76:List Int)(r:R)
  (K0:Int→Int→Int→List Int→List (List Int)→List Int→List Int→List Int→Option R)
  (hK:∀Y:List (K d),Y.length≤2500000000→(∀z∈Y,∃g e,S g∧e<n∧z=mul hd g (pw (xC hd) c e))→(∀g e,S g→1≤e→e<n→mul hd g (pw (xC hd) c e)∈Y)→K0 x65 x66 x67 x68 ks vs (eB (Y.map (·.1))) x76=some r):
  ∀(q:Nat) (rem:List Nat) (Y:List (K d)) (x79:Nat),(∀j∈rem,j<ks.length)→rem.length<q→Y.length+50000*rem.length≤2500000000→(∀z∈Y,∃g e,S g∧e<n∧z=mul hd g (pw (xC hd) c e))→
   (∀g e,S g→1≤e→e<n→mul hd g (pw (xC hd) c e)∈Y∨∃j∈rem,ks.getD j []=key g)→
   Q130.l27 N q x65 x66 x67 x68 ks vs c.1.1 c.1.2.1 c.1.2.2 (n:Int) (eB (Y.map (·.1))) x76 ks.length rem x79 K0=some r
 |0,rem,Y,x79,_,h,_,_,_=>by omega
 |q+1,rem,Y,x79,h1,h2,h3,h4,h5=>by
  rw[Q130.l27];have hb:Nat.beq ks.length ks.length=true:=by simp
  rw[ct hb];cases hr:rem with
  |nil=>subst hr;exact hK Y (by omega) h4 fun g e g1 g2 g3=>(h5 g e g1 g2 g3).resolve_right fun⟨j,hj,_⟩=>by cases hj
  |cons x0 r0=>
   rw[←hr,cf (show rem.isEmpty=false by rw[hr];rfl)];refine pI (by rw[hr];simp) fun p hp=>?_;have hg:rem.getD p 0=rem[p]:=by simp[iB,zB hp]
   have hj:=h1 rem[p] (cD hp);have hblt:Nat.blt rem[p] ks.length=true:=by simpa[Nat.blt_eq]using hj
   obtain⟨g,k1,k2,k3⟩:=hM.sound _ hj;have hkg:ks.getD rem[p] []=key g:=by simp[iB,zB hj,k1]
   have hlen:(rem.eraseIdx p).length+1=rem.length:=by rw[List.length_eraseIdx];simp[hp];omega
   rw[hg,ct (by rw[hb,hblt];rfl),hkg];simp only[key,u7,List.getD_cons_succ];have h1c:pw (xC hd) c 1=c:=uI c;obtain⟨Y',y1,y2,y3,y4,y5⟩:=yf hN hd c hn g x65 x66 x67 x68 ks vs x76 ks.length (rem.eraseIdx p) rem[p] (fun y128 y129 y130 y131 y132 y133 y134 y135 y136 y137 y138 y139 y140 y141 y142=>
      Q130.l27 N q y128 y129 y130 y131 y132 y133 y134 y135 y136 y137 y138 y139 y140 y141 y142 K0) N 1 Y (by omega) (by omega) (by omega)
   rw[h1c]at y5;refine y5.trans ?_;refine ow hN hd c hn hM hkl x65 x66 x67 x68 x76 r K0 hK q _ Y' _ (fun j hj=>h1 j (List.mem_of_mem_eraseIdx hj)) (by omega) (by omega) (fun z hz=>?_) (fun g' e g1 g2 g3=>?_)
   ·rcases y2 z hz with h|⟨e,e1,e2⟩
    ·exact h4 z h
    ·exact⟨g,e,k2,e1,e2⟩
   ·rcases h5 g' e g1 g2 g3 with h|⟨j,j1,j2⟩
    ·exact .inl (y3 _ h)
    ·by_cases he:j=rem[p]
     ·subst he;rw[hkg]at j2;have:g=g':=jj j2;subst this;exact .inl (y4 e g2 g3)
     ·refine .inr ⟨j,?_,j2⟩;have:=(Cls.pY rem p hp).mem_iff (a:=j);simp only[b0]at this;exact(this.mpr j1).resolve_left he
theorem ef {N:Nat}(hd:iF d){Y:List (K d)}(hY:Y.length≤2500000000){S:K d→Prop}{B:Int}(hB0:1≤B)(hB:B≤1000000000000000){R:Type}(x151 x152 x153:Int)(x156 x159:List Int)(K0:Int→Int→Int→List Int→List (List Int)→List Int→List Int→Option R):
  ∀(q i:Nat) (ks:List (List Int)) (vs:List Int),i≤Y.length→Y.length-i<q→Mp (fun z=>S z∨∃j,∃hj:j<Y.length,j<i∧z=Y[j]) (fun _ v=>1≤v∧v≤B+i) ks vs→
   ∃ks' vs',Mp (fun z=>S z∨z∈Y) (fun _ v=>1≤v∧v≤B+Y.length) ks' vs'∧Q130.l36 N q x151 x152 x153 (Y.length:Int) (i:Int) x156 ks vs x159 (eB (Y.map (·.1))) K0=K0 x151 x152 x153 x156 ks' vs' x159
 |0,i,ks,vs,_,h,_=>by omega
 |q+1,i,ks,vs,hi,hq,h=>by
  rw[Q130.l36,dG];by_cases hlt:i<Y.length
  ·have i1:i+1≤Y.length:=hlt;have i2:Y.length- (i+1)<q:=by omega
   have i3:i<9223372036854775807:=by omega
   rw[ct (decide_eq_true hlt),bG,ct (iG hlt)];obtain⟨e1,e2,e3⟩:=xY hlt;simp only[zA,e1,e2,e3];rw[ct qu,xv h.len,sD i3];have hv:(1:Int)≤aA (aF [Y[i].1.1,Y[i].1.2.1,Y[i].1.2.2] ks vs+1)∧aA (aF [Y[i].1.1,Y[i].1.2.1,Y[i].1.2.2] ks vs+1)≤B+((i+1:Nat):Int):=by rcases h.get Y[i]with⟨_,g1⟩|⟨_,g1⟩<;>unfold key at g1<;>rw[fA (by omega) (by omega)]<;>omega
   have hw:=(h.congr (W':=fun _ v=>1≤v∧v≤B+((i+1:Nat):Int)) (fun _=>Iff.rfl) (fun z v hv=>⟨hv.1,by omega⟩)).put Y[i] (v:=aA (aF [Y[i].1.1,Y[i].1.2.1,Y[i].1.2.2] ks vs+1)) hv;exact ef hd hY hB0 hB x151 x152 x153 x156 x159 K0 q (i+1) _ _ i1 i2 (hw.congr (fun z=>by
    constructor
    ·rintro((h|⟨j,hj,h1,h2⟩)|rfl)
     ·exact .inl h
     ·exact .inr ⟨j,hj,by omega,h2⟩
     ·exact .inr ⟨i,hlt,by omega,rfl⟩
    ·rintro(h|⟨j,hj,h1,h2⟩)
     ·exact .inl (.inl h)
     ·by_cases e:j=i
      ·subst e;exact .inr h2
      ·exact .inl (.inr ⟨j,hj,by omega,h2⟩)) (fun _ _ h=>h))
  ·rw[cf (decide_eq_false hlt)];have:i=Y.length:=by omega
   subst this;refine⟨ks,vs,h.congr (fun z=>?_) (fun _ _ h=>h),rfl⟩;constructor
   ·rintro(h|⟨j,hj,_,rfl⟩)
    ·exact .inl h
    ·exact .inr (cD hj)
   ·rintro(h|h)
    ·exact .inl h
    ·obtain⟨j,hj,rfl⟩:=hW h;exact .inr ⟨j,hj,hj,rfl⟩
theorem jf {N:Nat}(hN:8589934600<N)(hd:iF d){L:List (K d)}(hL:rz L)(hb:L.length≤45000){p:Nat}(hp:1<p){rs:List (K d×Nat)}(hrs:rs.length≤45000)(hO:∀r∈rs,r.2≤50000∧aU (xC hd) r.1 r.2){R:Type}(r:R)(K0:List Int→Option R)
  (hK:K0 (cC ((gr (xC hd) p [] rs).map jF))=some r):∀(q i:Nat) (out:List (K d×Nat)) (ks:List (List Int)) (vs:List Int),i≤rs.length→rs.length-i<q→out.length≤i→gr (xC hd) p out (rs.drop i)=gr (xC hd) p [] rs→
   Mp (fun z=>In (xC hd) out z) (fun _ v=>1≤v∧v≤1+2500000000*(i:Int)) ks vs→Q130.l21 N q (p:Int) (rs.length:Int) (i:Int) (cC (out.map jF)) ks vs (cC (rs.map jF)) K0=some r
 |0,i,out,ks,vs,_,h,_,_,_=>by omega
 |q+1,i,out,ks,vs,hi,hq,ho,hgr,hM=>by
  rw[Q130.l21,dG];by_cases hlt:i<rs.length
  ·have i1:i+1≤rs.length:=hlt;have i2:rs.length- (i+1)<q:=by omega
   have i3:i<9223372036854775807:=by omega
   have ho1:out.length+1≤i+1:=by omega
   rw[ct (decide_eq_true hlt),mH,ct (iG hlt),ct (mW (show 0<p by omega))];obtain⟨e1,e2,e3,e4⟩:=yY hlt;simp only[zA,e1,e2,e3,e4];obtain⟨o1,o2⟩:=hO _ (cD hlt);have o3:=o2.1;rw[zE hlt,gr]at hgr;generalize hc:rs[i]=c at*;have hdv:c.2/p≤50000:=a1 (Nat.div_le_self _ _) o1;have hdv2:((c.2/p:Nat):Int)≤((50000:Nat):Int):=Int.ofNat_le.mpr hdv;rw[lW,bP (x5 hdv (by decide)),vP hN hd c.1 (Int.natCast_nonneg _) (Int.lt_of_le_of_lt hdv2 (by decide))];simp only[iA,zA];have hg:=hM.get (pw (xC hd) c.1 (c.2/p));unfold key at hg;by_cases hin:In (xC hd) out (pw (xC hd) c.1 (c.2/p))
   ·have hv:=(hg.resolve_right fun h=>h.1 hin).2.1;rw[ct (decide_eq_true (by omega)),sD i3];rw[if_pos hin]at hgr;exact jf hN hd hL hb hp hrs hO r K0 hK q (i+1) out ks vs i1 i2 (by omega) hgr (hM.congr (fun _=>Iff.rfl) (fun z v hv=>⟨hv.1,by omega⟩))
   ·have hv:=(hg.resolve_left fun h=>hin h.1).2;rw[if_neg hin]at hgr;rw[cf (decide_eq_false (by omega)),ct (vK (by omega)),zY];have hkl:=hM.keys hL;refine ow hN hd c.1 o1 hM (by omega) (p:Int) (rs.length:Int) (i:Int) _ _ r _ (fun Y y1 y2 y3=>?_) N (List.range ks.length) [] ks.length (fun j hj=>b7.mp hj) (by simp;omega) (by simp;omega) (fun z hz=>by cases hz) (fun g e g1 g2 g3=>.inr ?_)
    ·rw[bG];obtain⟨ks',vs',m1,m2⟩:=ef (N:=N) hd y1 (S:=fun z=>In (xC hd) out z) (B:=1+2500000000*(i:Int)) (by omega) (by omega) (p:Int) (rs.length:Int) (i:Int) (cC ((out++[c]).map jF)) (cC (rs.map jF)) (fun y168 y169 y170 y171 y172 y173 y174=>Q130.l21 N q y168 y169 (aA (y170+1)) y171 y172 y173 y174 K0) N 0 ks vs (by omega) (by omega)
      (hM.congr (fun z=>⟨.inl,fun h=>h.elim id fun⟨j,_,hj,_⟩=>by omega⟩) (fun z v hv=>⟨hv.1,by simpa using hv.2⟩))
     rw[pC]at m2;rw[m2,sD i3];refine jf hN hd hL hb hp hrs hO r K0 hK q (i+1) (out++[c]) ks' vs' i1 i2 (by simp;omega) hgr (m1.congr (fun z=>?_) (fun z v hv=>⟨hv.1,by omega⟩));rw[In.app_iff];constructor
     ·rintro(h|h)
      ·exact⟨z,0,h,((xC hd).mul_one z).symm⟩
      ·obtain⟨g,e,g1,g2,g3⟩:=y2 z h;exact⟨g,e,g1,g3⟩
     ·rintro⟨y,e,h1,rfl⟩;rw[←fO o2.kill];rcases Nat.eq_zero_or_pos (e%c.2)with h0|h0
      ·rw[h0];exact .inl (by rw[show pw (xC hd) c.1 0=(xC hd).one from rfl,(xC hd).mul_one];exact h1)
      ·exact .inr (y3 y (e%c.2) h1 h0 (Nat.mod_lt _ o3))
    ·obtain⟨j,hj,hk⟩:=hW (hM.full g g1);exact⟨j,b7.mpr hj,by simp[iB,zB hj,hk]⟩
  ·rw[cf (decide_eq_false hlt)];rw[n0 (by omega),gr]at hgr;rw[hgr];exact hK
end
section
open Go Go.Proofs.YtjpdjdhdchjcgaaGreat.Ev
open Go.Proofs.YtjpdjdhdchjcgaaGreat.Pure (fA)
open Go.Proofs.YtjpdjdhdchjcgaaGreat.Cls (iF pI lK nH jS)
open Go.Proofs.YtjpdjdhdchjcgaaGreat.Srt (R4 cC aK cG mK vM ct cf iG dG qJ gV jO)
variable {d:Int}
theorem F3 {x y:K d×Nat}(h:jF x=jF y):x=y:=by
 obtain⟨x1,x2⟩:=x;obtain⟨y1,y2⟩:=y;simp only[jF,Prod.mk.injEq]at h;obtain⟨h1,h2,h3,h4⟩:=h;have e1:x1=y1:=(Je x1 y1).mp (by rw[h1,h2,h3];simp);have e2:x2=y2:=by omega
 rw[e1,e2]
theorem Hy {rs:List (K d×Nat)}:∀l:List R4,(∀x∈l,∃r∈rs,x=jF r)→∃rs':List (K d×Nat),rs'.map jF=l∧∀r∈rs',r∈rs
 | [],_=>⟨[],rfl,fun r h=>by cases h⟩
 |x::l,h=>by
  obtain⟨r,hr,rfl⟩:=h x (by simp);obtain⟨rs',h1,h2⟩:=Hy l (fun y hy=>h y (yK _ hy));refine⟨r::rs',by simp[h1],fun y hy=>?_⟩;rcases b0.mp hy with rfl|hy
  ·exact hr
  ·exact h2 y hy
theorem ue {G:Type}{A:AG G}{p:Nat}:∀(rs out:List (G×Nat)),(gr A p out rs).length≤out.length+rs.length
 | [],out=>by rw[gr];simp
 |c::rs,out=>by
  rw[gr];split
  ·have:=ue (A:=A) (p:=p) rs out;simp only[p4];omega
  ·have:=ue (A:=A) (p:=p) rs (out++[c]);simp only[u5,p4,l6]at this⊢;omega
theorem B7 {N:Nat}(hN:8589934600<N)(hd:iF d){L:List (K d)}(hL:rz L)(hb:L.length≤45000){p a m:Nat}(hp:uD p)(hm:L.length=p^a*m)(hc:Nat.Coprime (p^a) m):
  ∃gs:List (K d×Nat),ax (xC hd) (p^a) gs∧gs.length≤45000∧Q130.f N (eB (L.map (·.1))) (one hd).1.1 (one hd).1.2.1 (one hd).1.2.2 (L.length:Int) (p:Int) ((p^a:Nat):Int)=some (cC (gs.map jF)):=by
 have hs:0<p^a:=x6 (by have:=hp.1;omega);have hL0:=hL.pos (xC hd);have hm0:0<m:=Nat.pos_of_ne_zero fun e=>by subst e;omega
 have hsl:p^a≤L.length:=by rw[hm];exact x3 _ hm0
 unfold Q130.f;rw[bG];obtain⟨ks,vs,hM,e1⟩:=vZ hN hd hL hb hs hm (R:=List Int) (eB (L.map (·.1))) (p:Int) (fun y29 y30 y31 y32 y33 y34 y35=>
   Q130.l11 N N y30 y29 (y29.length/3:Int) 0 y31 y32 y33 y34 y35 []
    (fun y51 y52 y53 y54 y55=>
     (Q125.f N y55).bind fun r56=>
     Q130.l21 N N y51 (r56.length/4:Int) 0 [] (aC [y52,y53,y54] []) (oG [y52,y53,y54] 1 [] []) r56
      (fun y176=>
       some y176))) N 0 [] [] (by omega) (by omega) (Mp.nil fun z ⟨j,_,hj,_⟩=>by omega)
 rw[pC]at e1;rw[e1,bG];have hS:∀z:K d,(∃j,∃hj:j<L.length,z=pw (xC hd) L[j] m)↔pw (xC hd) z (p^a)=(xC hd).one:=fun z=>by
  constructor
  ·rintro⟨j,hj,rfl⟩;rw[←fH,hU,←hm];exact mG hL _
  ·intro hz;obtain⟨u',⟨u,rfl⟩,hu⟩:=K8 hs hm0 hc;obtain⟨j,hj,e⟩:=hW (hL.all (pw (xC hd) z u));refine⟨j,hj,?_⟩;rw[e,←fH,hU u m,←fO hz,hu,fO hz,uI]
 obtain⟨rs,r1,r2,r3,e2⟩:=eV (N:=N) hd hb (hM.congr hS (fun _ _ h=>h)) (R:=List Int) (p:Int) (one hd).1.1 (one hd).1.2.1 (one hd).1.2.2 (fun y51 y52 y53 y54 y55=>
     (Q125.f N y55).bind fun r56=>
     Q130.l21 N N y51 (r56.length/4:Int) 0 [] (aC [y52,y53,y54] []) (oG [y52,y53,y54] 1 [] []) r56
      (fun y176=>
       some y176)) N 0 [] (by omega) (by omega) (by simp) (fun r hr=>by cases hr) (fun j hj h=>by omega)
 rw[pC]at e2;have hbound:∀r∈rs,r.2≤45000:=fun r hr=>by obtain⟨q1,q2,q3⟩:=r2 r hr;have:=xK hs ((q3.2 _).mp q1);omega
 obtain⟨l',s1,s2,s3⟩:=gV (N:=N) (by omega) (l:=rs.map jF) (by simp;omega) (fun x hx=>by obtain⟨r,hr,rfl⟩:=c6.mp hx;have:=hbound r hr;simp only[Srt.nn,jF];omega);obtain⟨rs',t1,t2⟩:=Hy l' (rs:=rs) (fun x hx=>by obtain⟨r,hr,rfl⟩:=c6.mp (s2.mem_iff.mp hx);exact⟨r,hr,rfl⟩);subst t1;have hlen:rs'.length=rs.length:=by simpa using s2.length_eq
 refine⟨gr (xC hd) p [] rs',eX hL0 (mG hL) hp ?_ (fun r hr=>?_) (fun z hz hzp=>?_),by have:=ue (A:=xC hd) (p:=p) rs' [];simp at this;omega,?_⟩
 ·rw[List.pairwise_map]at s3;refine s3.imp fun{x y} h=>?_;simp only[Srt.nn,jF]at h;omega
 ·obtain⟨q1,q2,q3⟩:=r2 r (t2 r hr);refine⟨fun e=>?_,q1,q3⟩;have:aU (xC hd) r.1 1:=⟨by omega,fun k=>⟨fun _=>Nat.one_dvd _,fun _=>by rw[e,sI]⟩⟩
  have:=q3.uniq this;omega
 ·obtain⟨n,hn⟩:=r3 z (hL.all z) hzp hz;have:jF (z,n)∈rs'.map jF:=s2.mem_iff.mpr (n5 hn);obtain⟨r,hr,e⟩:=c6.mp this;exact⟨n,F3 e▸hr⟩
 ·refine e2.trans ?_;rw[s1];simp only[iA];rw[mH];have hM1:Mp (fun z=>In (xC hd) [] z) (fun _ v=>1≤v∧v≤1+2500000000*((0:Nat):Int)) (aC [(one hd).1.1,(one hd).1.2.1,(one hd).1.2.2] []) (oG [(one hd).1.1,(one hd).1.2.1,(one hd).1.2.2] 1 [] []):=
   ((Mp.nil (S:=fun _:K d=>False) (W:=fun _ v=>1≤v∧v≤1+2500000000*((0:Nat):Int)) (fun _ h=>h)).put (one hd) (v:=1) ⟨by omega,by omega⟩).congr (fun z=>by
    constructor
    ·rintro(h|rfl)
     ·exact h.elim
     ·exact In.one _
    ·rintro⟨es,_,rfl⟩;exact .inr (kF es)) (fun _ _ h=>h)
  have:=jf hN hd hL hb hp.1 (rs:=rs') (by omega) (fun r hr=>⟨by have:=hbound r (t2 r hr);omega,(r2 r (t2 r hr)).2.2⟩) (cC ((gr (xC hd) p [] rs').map jF)) (fun y176=>some y176) rfl N 0 [] _ _ (by omega) (by omega) (by simp) (by rw[w3]) hM1;rw[pC]at this;exact this
theorem Aa {G:Type}{A:AG G}:∀(os ps:List (G×Nat)) (i:Nat) (h:i<ps.length),
  (∃ho:i<os.length,zm A os (ps.take (i+1))=(zm A os (ps.take i)).set i (A.mul os[i].1 ps[i].1,os[i].2*ps[i].2)∧∃hz:i<(zm A os (ps.take i)).length,(zm A os (ps.take i))[i]=os[i])∨
  (os.length≤i∧zm A os (ps.take (i+1))=zm A os (ps.take i)++[ps[i]]∧(zm A os (ps.take i)).length=i)
 | [],ps,i,h=>.inr ⟨by simp,by simp only[zm];rw[hR,zB h];rfl,by simp[zm];omega⟩
 |o::os,c::ps,0,h=>.inl ⟨by simp,by simp only[hX,hT,zm,y0,List.getElem_cons_zero];cases os<;>rfl,by simp[zm],rfl⟩
 |o::os,c::ps,i+1,h=>by
  have h':i<ps.length:=by simpa using h
  rcases Aa os ps i h' with⟨ho,h1,hz,h2⟩|⟨ho,h1,h2⟩
  ·refine .inl ⟨by simpa using ho,?_,?_,?_⟩
   ·simp only[hX,zm,List.set_cons_succ,n4];rw[h1]
   ·simpa[zm]using hz
   ·simp only[hX,zm,n4];exact h2
  ·refine .inr ⟨by simpa using ho,?_,?_⟩
   ·simp only[hX,zm,List.cons_append,n4];rw[h1]
   ·simp only[hX,zm,p4];rw[h2]
 |_::_,[],i,h=>by simp at h
theorem Cv (X:List (K d×Nat)){i:Nat}(y:K d×Nat):((((cC (X.map jF)).set (i*4) y.1.1.1).set (i*4+1) y.1.1.2.1).set (i*4+2) y.1.1.2.2).set (i*4+3) (y.2:Int)=cC ((X.set i y).map jF):=by
 have:=vM (X.map jF) i (jF y);rw[←List.map_set]at this;exact this
theorem ln {N:Nat}(hN:8589934600<N)(hd:iF d){os ps:List (K d×Nat)}(ho:os.length≤45000)(hp:ps.length≤45000)(hb:∀o∈os,∀c∈ps,o.2*c.2≤45000)(hb2:∀c∈ps,c.2≤45000){R:Type}(x53 x55 x56:Int)(x54 x59:List Int)(K0:Int→List Int→Int→Int→List Int→Int→Int→Int→List Int→Option R):
  ∀(q i:Nat),i≤ps.length→ps.length-i<q→Q131.l17 N q x53 x54 x55 x56 (ps.length:Int) (i:Int) x59 (one hd).1.1 (one hd).1.2.1 (one hd).1.2.2 (cC ((zm (xC hd) os (ps.take i)).map jF)) (cC (ps.map jF)) K0=K0 x53 x54 x55 x56 x59 (one hd).1.1 (one hd).1.2.1 (one hd).1.2.2 (cC ((zm (xC hd) os ps).map jF))
 |0,i,_,h=>by omega
 |q+1,i,hi,hq=>by
  rw[Q131.l17,dG];by_cases hlt:i<ps.length
  ·obtain⟨c1,c2,c3,c4⟩:=yY hlt;have hps:=cD hlt;rw[ct (decide_eq_true hlt),mH,ct (iG hlt),mH];rcases Aa (A:=xC hd) os ps i hlt with⟨hio,h1,hz,h2⟩|⟨hio,h1,h2⟩
   ·have hmul:=hb _ (cD hio) _ hps;obtain⟨b1,b2,b3,b4⟩:=yY hz;rw[h2]at b1 b2 b3 b4;rw[cf (beq_eq_false_iff_ne.mpr (by omega)),ct (iG hz)];simp only[zA,c1,c2,c3,c4,b1,b2,b3,b4];rw[oO hN hd os[i].1 ps[i].1];simp only[iA];rw[ct (iG hz),ct (iG hz),←q0,bP (by omega),sD (by omega)];have:=Cv (zm (xC hd) os (ps.take i)) (i:=i) (mul hd os[i].1 ps[i].1,os[i].2*ps[i].2);simp only at this;rw[this];have h1':(zm (xC hd) os (ps.take i)).set i (mul hd os[i].1 ps[i].1,os[i].2*ps[i].2)=zm (xC hd) os (ps.take (i+1)):=h1.symm;rw[h1'];exact ln hN hd ho hp hb hb2 x53 x55 x56 x54 x59 K0 q (i+1) (by omega) (by omega)
   ·have hlen1:(zm (xC hd) os (ps.take i)++[(one hd,1)]).length=i+1:=by simp[h2]
    have hz:i<(zm (xC hd) os (ps.take i)++[(one hd,1)]).length:=by omega
    have hzi:(zm (xC hd) os (ps.take i)++[(one hd,1)])[i]=(one hd,1):=by rw[List.getElem_append_right (by omega)];simp[h2]
    obtain⟨b1,b2,b3,b4⟩:=yY hz;rw[hzi]at b1 b2 b3 b4;have hsn:=zY (zm (xC hd) os (ps.take i)) (one hd,1);simp only[s0]at hsn b1 b2 b3 b4;rw[ct (beq_iff_eq.mpr (by omega)),ct (vK (by omega)),hsn,mH,ct (iG hz)];simp only[zA,c1,c2,c3,c4,b1,b2,b3,b4];rw[oO hN hd (one hd) ps[i].1];simp only[iA];have hb':=hb2 _ hps;rw[ct (iG hz),ct (iG hz),Int.one_mul,bP (by omega),sD (by omega)];have:=Cv (zm (xC hd) os (ps.take i)++[(one hd,1)]) (i:=i) (mul hd (one hd) ps[i].1,ps[i].2);simp only at this;rw[this];have h1':(zm (xC hd) os (ps.take i)++[(one hd,1)]).set i (mul hd (one hd) ps[i].1,ps[i].2)=zm (xC hd) os (ps.take (i+1)):=by rw[h1,w4 _ _ (by omega),h2,b8,y0];have:mul hd (one hd) ps[i].1=ps[i].1:=(xC hd).one_mul _;rw[this]
    rw[h1'];exact ln hN hd ho hp hb hb2 x53 x55 x56 x54 x59 K0 q (i+1) (by omega) (by omega)
  ·rw[cf (decide_eq_false hlt),hE (by omega)]
end
section
open Go Go.Proofs.YtjpdjdhdchjcgaaGreat.Ev
open Go.Proofs.YtjpdjdhdchjcgaaGreat.Pure (fA)
open Go.Proofs.YtjpdjdhdchjcgaaGreat.Cls (iF pI lK nH jS tH)
open Go.Proofs.YtjpdjdhdchjcgaaGreat.Srt (R4 cC aK cG mK vM ct cf iG dG qJ gV jO)
variable {d:Int}
theorem fv (N:Nat){p a:Nat}(hp:0<p)(hpa:p^a≤1000000){R:Type}(x14 x17 x18 x22 x23 x24 x27:Int)(x16 x21 x25:List Int)(K0:Int→Int→List Int→Int→Int→List Int→Int→Int→Int→List Int→Int→Int→Option R):
  ∀(q i:Nat),i≤a→a-i<q→a<1000000→Q131.l13 N q x14 ((p^i:Nat):Int) x16 x17 x18 (a:Int) (i:Int) x21 x22 x23 x24 x25 (p:Int) x27 K0=K0 x14 ((p^a:Nat):Int) x16 x17 x18 x21 x22 x23 x24 x25 (p:Int) x27
 |0,i,_,h,_=>by omega
 |q+1,i,hi,hq,ha=>by
  rw[Q131.l13,dG];by_cases hlt:i<a
  ·have hle:p^(i+1)≤p^a:=r7 hp hlt;have e:((p^i:Nat):Int)*(p:Int)=((p^(i+1):Nat):Int):=by rw[o0,q0]
   rw[ct (decide_eq_true hlt),e,bP (by omega),sD (by omega)];exact fv N hp hpa x14 x17 x18 x22 x23 x24 x27 x16 x21 x25 K0 q (i+1) (by omega) (by omega) ha
  ·have:i=a:=by omega
   subst this;rw[cf (decide_eq_false hlt)]
theorem s7 {l:PL}{i:Nat}(h:i<l.length):vC (l.take (i+1))=vC (l.take i)*l[i].1^l[i].2:=by
 rw[hR,zB h,cK];simp[vC]
theorem B9 {l:PL}(h:∀x∈l,uD x.1∧0<x.2):0<vC l:=by have:=gJ h;omega
theorem Gj {p q:Nat}(h:Nat.Coprime p q)(a:Nat):Nat.Coprime (p^a) q:=Nat.Coprime.pow_left a h
theorem rQ {p:Nat}(hp:uD p){l:PL}(hl:∀x∈l,uD x.1∧0<x.2)(hne:∀x∈l,x.1≠p)(a:Nat):Nat.Coprime (p^a) (vC l):=by
 refine Gj (Nat.Coprime.symm (hp.cop fun hd=>?_)) a;obtain⟨x,h1,h2⟩:=hp.in_prod hl hd;exact hne x h1 h2
theorem ax.short {G:Type}{A:AG G}{s:Nat}{gs:List (G×Nat)}(h:ax A s gs){L:List G}(hL:rz L)(hs:s∣L.length):∀g∈gs,g.2≤L.length:=fun g hg=>
 xK (hL.pos A) (hI (h.big g hg).2 hs)
theorem z6 {N:Nat}(hN:8589934600<N)(hd:iF d){L:List (K d)}(hL:rz L)(hb:L.length≤45000){l:PL}(hl:Fz L.length l){R:Type}(K0:List Int→Option R):∀(q i:Nat) (out:List (K d×Nat)),i≤l.length→l.length-i<q→ax (xC hd) (vC (l.take i)) out→out.length≤45000→
   ∃gs:List (K d×Nat),ax (xC hd) L.length gs∧gs.length≤45000∧Q131.l9 N q (L.length:Int) (xQ l) (l.length:Int) (i:Int) (eB (L.map (·.1))) (one hd).1.1 (one hd).1.2.1 (one hd).1.2.2 (cC (out.map jF)) K0=K0 (cC (gs.map jF))
 |0,i,out,_,h,_,_=>by omega
 |q+1,i,out,hi,hq,hG,ho=>by
  have hll:=gJ hl.pr;rw[hl.prod]at hll;rw[Q131.l9,dG];by_cases hlt:i<l.length
  ·obtain⟨e1,e2⟩:=iz hlt;obtain⟨hp,ha⟩:=hl.pr _ (cD hlt);rw[ct (decide_eq_true hlt),lP,ct (iG hlt)];simp only[zA,e1,e2];have hsplit:l=l.take i++l[i]::l.drop (i+1):=by rw[←zE hlt,x4]
   have hup:=hl.up;rw[hsplit,e7,l0]at hup;obtain⟨u1,⟨u2,u3⟩,u4⟩:=hup;have pr1:∀x∈l.take i,uD x.1∧0<x.2:=fun x hx=>hl.pr x (c7 hx);have pr2:∀x∈l.drop (i+1),uD x.1∧0<x.2:=fun x hx=>hl.pr x (c5 hx);have hprod:L.length=vC (l.take i)*(l[i].1^l[i].2*vC (l.drop (i+1))):=by have:=hl.prod;rw[hsplit,cK]at this;exact this.symm
   have c1:=rQ hp pr1 (fun x hx=>by have:=u4 x hx l[i] List.mem_cons_self;omega) l[i].2;have c2:=rQ hp pr2 (fun x hx=>by have:=u2 x hx;omega) l[i].2;generalize hpp:l[i].1=p at*;generalize haa:l[i].2=a at*;have hQ:=B9 pr1;have hm:L.length=p^a*(vC (l.take i)*vC (l.drop (i+1))):=by rw[hprod,sS]
   have hs0:0<p^a:=x6 (by have:=hp.1;omega);have hsle:p^a≤L.length:=xK (hL.pos (xC hd)) ⟨_,hm⟩;have hale:a<1000000:=by have:=kT (j:=a) hp.1;omega
   have h1:=fv N (show 0<p by have:=hp.1;omega) (show p^a≤1000000 by omega) (L.length:Int) (l.length:Int) (i:Int) (one hd).1.1 (one hd).1.2.1 (one hd).1.2.2 (a:Int) (xQ l) (eB (L.map (·.1))) (cC (out.map jF)) (fun y40 y41 y42 y43 y44 y45 y46 y47 y48 y49 y50 y51=>
      (Q130.f N y45 y46 y47 y48 y40 y50 y41).bind fun r52=>
      Q131.l17 N N y40 y42 y43 y44 (r52.length/4:Int) 0 y45 y46 y47 y48 y49 r52
       (fun y76 y77 y78 y79 y80 y81 y82 y83 y84=>
        Q131.l9 N q y76 y77 y78 (aA (y79+1)) y80 y81 y82 y83 y84 K0)) N 0 (by omega) (by omega) hale
   rw[k5,pC,s0]at h1;obtain⟨gs,g1,g2,g3⟩:=B7 hN hd hL hb hp hm (Nat.Coprime.mul_right c1 c2);rw[h1,g3];simp only[iA];rw[mH];have dQ:vC (l.take i)∣L.length:=⟨_,hprod⟩
   have hG2:=hG.zm hQ hs0 (Nat.Coprime.symm c1) g1;have dQs:vC (l.take i)*p^a∣L.length:=⟨vC (l.drop (i+1)),by rw[hprod,c0]⟩
   have h2:=ln hN hd (os:=out) (ps:=gs) ho g2 (fun o hoo c hcc=>by
     have:=xK (hL.pos (xC hd)) (hI (Nat.mul_dvd_mul (hG.big o hoo).2 (g1.big c hcc).2) dQs);omega) (fun c hcc=>by have:=g1.short hL ⟨_,hm⟩ c hcc;omega) (L.length:Int) (l.length:Int) (i:Int) (xQ l) (eB (L.map (·.1))) (fun y76 y77 y78 y79 y80 y81 y82 y83 y84=>
        Q131.l9 N q y76 y77 y78 (aA (y79+1)) y80 y81 y82 y83 y84 K0) N 0 (by omega) (by omega)
   have z0:zm (xC hd) out (gs.take 0)=out:=by rw[hT];cases out<;>rfl
   rw[pC,z0]at h2;rw[h2,sD (by omega)];refine z6 hN hd hL hb hl K0 q (i+1) _ (by omega) (by omega) ?_ (by rw[ll];omega);rw[s7 hlt,hpp,haa];exact hG2
  ·rw[cf (decide_eq_false hlt)];rw[hE (by omega),hl.prod]at hG;exact⟨out,hG,ho,rfl⟩
structure Pt (hd:iF d)(L:List (K d))(gs:List (K d×Nat)):Prop where
 fin:rz L
 len:L.length≤45000
 glen:gs.length≤45000
 gen:ax (xC hd) L.length gs.reverse
theorem tK {N:Nat}(hN:8589934600<N)(hd:iF d):∃(L:List (K d)) (gs:List (K d×Nat)),Pt hd L gs∧Cls.Cl d (L.map (·.1))∧Q114.f N d=some (eB (L.map (·.1)),0)∧Q115.f N d=some ((L.length:Int),0)∧Q111.f N d=some (eB (L.map (·.1)))∧
  Q131.f N d=some (cC (gs.map jF),0):=by
 obtain⟨R,h1,h2,h3,h4,h5⟩:=jS (N:=N) (by omega) hd;obtain⟨L,rfl,hL⟩:=Jj h1;have hb:L.length≤45000:=by simpa using h1.len
 have hL0:=hL.pos (xC hd);have hn:Q115.f N d=some ((L.length:Int),0):=by rw[h5];simp
 obtain⟨l,hl,hf⟩:=oV (N:=N) (by omega) hL0 (by omega);have hll:=gJ hl.pr;rw[hl.prod]at hll;obtain⟨gs,g1,g2,g3⟩:=z6 hN hd hL hb hl (fun y86=>(Q126.f N y86).bind fun r87=>some (r87,(0:Int))) N 0 [] (by omega) (by omega) (by rw[hT];exact Gn) (by simp);rw[pC]at g3;refine⟨L,gs.reverse,⟨hL,hb,by simpa using g2,by rw[e5];exact g1⟩,h1,h4,hn,h3,?_⟩;unfold Q131.f;rw[h4];simp only[iA];rw[cf (by rfl),mM N hd];simp only[iA];rw[bG,hf];simp only[iA];rw[lP];refine g3.trans ?_;rw[jO (by omega) (by simpa using by omega),List.map_reverse];rfl
theorem B8 {N:Nat}{d:Int}(hd0: -9223372036854775808≤d)(hd1:d<9223372036854775808)(hd:¬iF d):Q131.f N d=some ([],80):=by
 unfold Q131.f;rw[(tH hd0 hd1 hd).1];rfl
theorem qw (N:Nat){gs:List (K d×Nat)}(hg:gs.length≤45000){R:Type}(K0:List Int→List Int→Option R):∀(q i:Nat),i≤gs.length→gs.length-i<q→
  Q132.l5 N q (cC (gs.map jF)) (gs.length:Int) (i:Int) (eB ((gs.take i).map (·.1.1))) ((gs.take i).map fun g=>(g.2:Int)) K0=K0 (eB (gs.map (·.1.1))) (gs.map fun g=>(g.2:Int))
 |0,i,_,h=>by omega
 |q+1,i,hi,hq=>by
  rw[Q132.l5,dG];by_cases hlt:i<gs.length
  ·obtain⟨e1,e2,e3,e4⟩:=yY hlt;have r1:fB (((eB ((gs.take i).map (·.1.1))).length+3)/3) 24=true:=by
    rw[sF];simp only[fB,decide_eq_true_eq,aE,q4];omega
   have r2:fB (((gs.take i).map fun g=>(g.2:Int)).length+1) 8=true:=by simp only[fB,decide_eq_true_eq,aE,q4];omega
   rw[ct (decide_eq_true hlt),mH,ct (iG hlt),ct r1,ct r2,sD (by omega)];simp only[zA,e1,e2,e3,e4];have t1:eB ((gs.take i).map (·.1.1))++[gs[i].1.1.1,gs[i].1.1.2.1,gs[i].1.1.2.2]=eB ((gs.take (i+1)).map (·.1.1)):=by rw[hR,zB hlt,u0,rJ];rfl
   have t2:((gs.take i).map fun g=>(g.2:Int))++[(gs[i].2:Int)]=(gs.take (i+1)).map fun g=>(g.2:Int):=by rw[hR,zB hlt,u0];rfl
   rw[t1,t2];exact qw N hg K0 q (i+1) (by omega) (by omega)
  ·rw[cf (decide_eq_false hlt),hE (by omega)]
theorem aL {N:Nat}(hN:8589934600<N){gs:List (K d×Nat)}(hg:gs.length≤45000)(h:Q131.f N d=some (cC (gs.map jF),0)):
  Q132.f N d=some (eB (gs.map (·.1.1)),gs.map fun g=>(g.2:Int),0):=by
 unfold Q132.f;rw[h];simp only[iA];rw[cf (by rfl),mH];have:=qw N hg (fun y10 y11=>some (y10,y11,(0:Int))) N 0 (by omega) (by omega);rw[hT,pC]at this;exact this
theorem br {N:Nat}{d:Int}(hd0: -9223372036854775808≤d)(hd1:d<9223372036854775808)(hd:¬iF d):Q132.f N d=some ([],[],80):=by
 unfold Q132.f;rw[B8 hd0 hd1 hd];rfl
end
section
open Go Go.Proofs.YtjpdjdhdchjcgaaGreat.Ev
open Go.Proofs.YtjpdjdhdchjcgaaGreat.Pure (fA tW fI ar La Pr Oo dK sX pD yH zN uK yU gR wy)
open Go.Proofs.YtjpdjdhdchjcgaaGreat.Cls (iF Rd iK pI lK nH jS tH nt nU nI)
open Go.Proofs.YtjpdjdhdchjcgaaGreat.Srt (R4 cC ct cf iG dG)
variable {d:Int}
theorem Bc (N:Nat)(hd:iF d):Q89.f N d=some ((one hd).1.1,(one hd).1.2.1,(one hd).1.2.2,0):=by
 obtain⟨a,b,c,e,h1,h2,_⟩:=yU N d;rw[mM N hd]at h1;rw[h2,←h1]
theorem vw {N:Nat}(hN:8589934600<N)(hd:iF d)(x y:K d):Q96.f N x.1.1 x.1.2.1 x.1.2.2 y.1.1 y.1.2.1 y.1.2.2=some (mul hd x y).1:=by
 obtain⟨a,b,c,e,h⟩:=gR hN (nG hd).neg (cX hd) (x.red hd) (y.red hd);obtain⟨z,hz,h⟩:=oL h;have:z=mul hd x y:=eR hd (h.symm.trans (nG hd).m (lJ hd x y));subst this;rw[e,hz]
theorem tr (N:Nat)(hd:iF d)(x:K d):Q47.f N x.1.1 x.1.2.1 x.1.2.2=some d∧Q69.f N x.1.1 x.1.2.1 x.1.2.2=some d:=by
 have:=nU N (x.val hd).fine;rwa[x.2.1.eq]at this
theorem I4 {N:Nat}(hN:8589934600<N)(hd:iF d)(x:K d){n:Nat}(ho:aU (xC hd) x n)(hn:n≤50000){R:Type}(K0:Int→Option R):∀(q k:Nat),0<k→k≤n→n-k<q→
  Q138.l4 N q (k:Int) x.1.1 x.1.2.1 x.1.2.2 (one hd).1.1 (one hd).1.2.1 (one hd).1.2.2 (pw (xC hd) x k).1.1 (pw (xC hd) x k).1.2.1 (pw (xC hd) x k).1.2.2 K0=K0 (n:Int)
 |0,k,_,_,h=>by omega
 |q+1,k,hk,hkn,hq=>by
  rw[Q138.l4];by_cases he:pw (xC hd) x k=one hd
  ·have:=xK hk ((ho.2 k).mp he);have:k=n:=by omega
   subst this;rw[cf (by rw[(Je _ _).mpr he];rfl)]
  ·have h1:((pw (xC hd) x k).1.1==(one hd).1.1&&((pw (xC hd) x k).1.2.1==(one hd).1.2.1&&(pw (xC hd) x k).1.2.2==(one hd).1.2.2))=false:=Bool.eq_false_iff.mpr fun e=>he ((Je _ _).mp e);have hlt:k<n:=by
    rcases Nat.lt_or_ge k n with h|h
    ·exact h
    ·have:k=n:=by omega
     subst this;exact absurd ho.kill he
   rw[ct (by rw[h1];rfl),vw hN hd];simp only[iA];rw[sD (by omega)];exact I4 hN hd x ho hn K0 q (k+1) (by omega) hlt (by omega)
theorem eW {N:Nat}(hN:8589934600<N)(hd:iF d)(x:K d){n:Nat}(ho:aU (xC hd) x n)(hn:n≤50000):Q138.f N x.1.1 x.1.2.1 x.1.2.2=some (n:Int):=by
 unfold Q138.f;rw[(tr N hd x).2];simp only[iA];rw[Bc N hd];simp only[iA];have:=I4 hN hd x ho hn (fun y18=>some y18) N 1 (by omega) ho.1 (by have:=ho.1;omega);rw[show pw (xC hd) x 1=x from uI x,s0]at this;exact this
theorem kZ {N:Nat}(hN:8589934600<N)(hd:iF d){a b c:Int}(h:tW d a b c){z:K d}(hz:Ce d (La d a b) (Lc z)):Q87.f N a b c=some ((inv hd z).1.1,(inv hd z).1.2.1,(inv hd z).1.2.2,0):=by
 obtain⟨x,y,w,e,h1,h2⟩:=yH hN h;have dm:=(nG hd).m
 let k:K d:=⟨(x,y,w),Ew h1⟩
 have h3:mul hd k z=one hd:=by refine eR hd ((lJ hd k z).symm.trans dm ((Mod.Hm.comm (Lc k) (Lc z)).trans dm ?_));exact((hz.symm.left (Lc k)).trans dm h2).trans dm (j5 hd)
 have h4:k=inv hd z:=(xC hd).inv_of h3;rw[e,←h4]
theorem Gq (hd:iF d)(z:K d):inv hd (inv hd z)=z:=((xC hd).inv_of (x:=z) (y:=inv hd z) (by rw[(xC hd).comm];exact(xC hd).inv_mul z)).symm
theorem sx {N:Nat}(hN:8589934600<N)(a b c:Int):
  (∃e,e≠0∧(∃x y z n,Q133.f N a b c=some (x,y,z,n,e))∧∃x y z,Q140.f N a b c=some (x,y,z,e))∨
  (∃(d:Int) (hd:iF d) (z:K d) (L:List (K d)),tW d a b c∧rz L∧L.length≤45000∧Q47.f N a b c=some d∧Q133.f N a b c=some (z.1.1,z.1.2.1,z.1.2.2,(L.length:Int),0)∧Q140.f N a b c=some (z.1.1,z.1.2.1,z.1.2.2,0)∧Ce d (La d a b) (Lc z)):=by
 obtain⟨x,y,z,e,i1,i2⟩:=zN hN a b c;by_cases he:e=0
 ·subst he;have hv:dK a b c∧sX a b c:=by
   obtain⟨x',y',z',e',p1,p2,p3⟩:=uK hN a b c;by_cases he':e'=0
   ·exact p3 he'
   ·exfalso;unfold Q87.f at i1;rw[p1]at i1;simp only[iA]at i1;rw[ct (bne_iff_ne.mpr he')]at i1;simp only[Option.some.injEq,Prod.mk.injEq]at i1;exact he' i1.2.2.2
  have hV:=wy hv.1 hv.2;obtain⟨hD,hD2⟩:=nU N hv.1;generalize hdd:b*b-4*a*c=d at*;have hneg:=hV.d.1;by_cases hb: -65536≤d
  ·have hd:iF d:=by rw[←hdd]at hb⊢;exact nt hv.1 hb
   obtain⟨a',b',c',r1,r2,r3,p,q,r,u,r4⟩:=pD hN hV;obtain⟨k,hk,hcl⟩:=oL r2;obtain⟨k1,k2,k3⟩:=Da hk;obtain⟨L,gs,hP,_,_,hn,_,_⟩:=tK hN hd;have j1:=kZ hN hd hV hcl;rw[i1]at j1;simp only[Option.some.injEq,Prod.mk.injEq]at j1;refine .inr ⟨d,hd,k,L,hV,hP.fin,hP.len,hD,?_,?_,hcl⟩
   ·unfold Q133.f;rw[i1];simp only[iA];rw[cf (by rfl),hD];simp only[iA];rw[hn];simp only[iA];rw[cf (by rfl),r4,k1,k2,k3];rfl
   ·unfold Q140.f;rw[i2];simp only[iA];rw[cf (by rfl),hD2];simp only[iA];rw[cf (decide_eq_false (by omega))];obtain⟨x2,y2,z2,e2,m1,m2⟩:=zN hN x y z;have j2:=kZ hN hd ((inv hd k).val hd) (z:=inv hd k) (Mod.Hm.refl _ _ _);rw[Gq,←j1.1,←j1.2.1,←j1.2.2.1,m1]at j2;rw[m2,j2];rfl
  ·refine .inl ⟨80,by decide,⟨0,0,0,0,?_⟩,0,0,0,?_⟩
   ·have hnl:¬iF d:=fun h=>hb h.1;unfold Q133.f;rw[i1];simp only[iA];rw[cf (by rfl),hD];simp only[iA];rw[(tH (by have:=hV.d.2;omega) (by omega) hnl).2.1];rfl
   ·unfold Q140.f;rw[i2];simp only[iA];rw[cf (by rfl),hD2];simp only[iA];rw[ct (decide_eq_true (by omega))]
 ·refine .inl ⟨e,he,⟨0,0,0,0,?_⟩,x,y,z,?_⟩
  ·unfold Q133.f;rw[i1];simp only[iA];rw[ct (bne_iff_ne.mpr he)]
  ·unfold Q140.f;rw[i2];simp only[iA];rw[ct (bne_iff_ne.mpr he)]
theorem sj {N:Nat}(hN:8589934600<N)(a b c:Int):∃n e,Q134.f N a b c=some (n,e)∧Q141.f N a b c=some (n,e):=by
 unfold Q134.f Q141.f;rcases sx hN a b c with⟨e,he,⟨x,y,z,n,h1⟩,x',y',z',h2⟩|⟨d,hd,z,L,hV,hL,hb,hD,h1,h2,hcl⟩
 ·refine⟨0,e,?_,?_⟩
  ·rw[h1];simp only[iA];rw[ct (bne_iff_ne.mpr he)]
  ·rw[h2];simp only[iA];rw[ct (bne_iff_ne.mpr he)]
 ·obtain⟨m,m1,m2,m3⟩:=uR hN hd z (hL.pos (xC hd)) (by omega) (mG hL z);have hm:=xK (hL.pos (xC hd)) m2;refine⟨m,0,?_,?_⟩
  ·rw[h1];simp only[iA];rw[cf (by rfl),hD];simp only[iA];rw[mM N hd];simp only[iA];rw[m3];rfl
  ·rw[h2];simp only[iA];rw[cf (by rfl),eW hN hd z m1 (by omega)];rfl
abbrev N0:Nat:=8589934700
theorem gk:8589934600<N0:=by decide
theorem ee:iF (-23):=⟨by decide,by decide,by decide⟩
theorem Ix {G:Type}{A:AG G}{s:Nat}{gs:List (G×Nat)}(h:ax A s gs)(hp:np gs=3):∃g,gs=[(g,3)]:=by
 cases gs with
 |nil=>simp[np]at hp
 |cons x l=>
  have hx:=(h.big x (by simp)).1;simp only[np]at hp;have hdv:x.2∣3:=⟨_,hp.symm⟩
  have h3:=xK (by decide) hdv;have hx3:x.2=3:=by
   rcases(show x.2=2∨x.2=3 by omega)with e|e
   ·rw[e]at hdv;exact absurd hdv (by decide)
   ·exact e
  rw[hx3]at hp;have hl:np l=1:=by omega
  cases l with
  |nil=>exact⟨x.1,by rw[←hx3]⟩
  |cons y l=>exfalso;have hy:=(h.big y (by simp)).1;simp only[np]at hl;have:=xK (by decide) (show y.2∣1 from⟨_,hl.symm⟩);omega
theorem xb:Q146.f N0=some true:=by
 obtain⟨L,gs,hP,hC,_,_,hr,hg⟩:=tK gk ee;have hl:Q111.f N0 (-23)=some [1,1,6,2, -1,3,2,1,3]:=by kernel_rfl
 rw[hl]at hr;have hL3:eB (L.map (·.1))=eB [(1,1,6),(2, -1,3),(2,1,3)]:=(Option.some.inj hr).symm;have hLm:L.map (·.1)=[(1,1,6),(2, -1,3),(2,1,3)]:=by have:=congrArg oF hL3;rwa[lO,lO]at this
 have hlen:L.length=3:=by have:=congrArg List.length hLm;simpa using this
 obtain⟨g,hgs⟩:=Ix hP.gen (by rw[hP.gen.count hP.fin,hlen]);have hgs':gs=[(g,3)]:=by have:=congrArg List.reverse hgs;simpa using this
 subst hgs';have hS:=aL gk hP.glen hg;have hne:g≠one ee:=fun e=>by
  have ho:=hP.gen.uq.ordOf (g:=(g,3)) (by simp);have h1:pw (xC ee) g 1=(xC ee).one:=by rw[uI];exact e
  have:=(ho.2 1).mp h1;exact absurd (show(3:Nat)∣1 from this) (by decide)
 have ho1:(one ee).1=(1,1,6):=by
  have h1:=mM N0 ee;have h2:Q83.f N0 (-23)=some (1,1,6,0):=by kernel_rfl
  rw[h2]at h1;simp only[Option.some.injEq,Prod.mk.injEq]at h1;obtain⟨a,b,c,_⟩:=h1;exact Prod.ext a.symm (Prod.ext b.symm c.symm)
 have hgA:g.1.1=2:=by
  have hm:g.1∈L.map (·.1):=n5 (hP.fin.all g);rw[hLm]at hm;simp only[b0,List.not_mem_nil,or_false]at hm;rcases hm with hm|hm|hm
  ·exact absurd (Subtype.ext (hm.trans ho1.symm)) hne
  ·rw[hm]
  ·rw[hm]
 have hO:Q134.f N0 2 1 3=some (3,0):=by
  obtain⟨n,e,q1,q2⟩:=sj gk 2 1 3;have:Q141.f N0 2 1 3=some (3,0):=by kernel_rfl
  rw[this]at q2;rw[q1,←q2]
 unfold Q146.f;rw[hS];simp only[iA];rw[hO];simp only[List.map_cons,List.map_nil,eB,iA,u7,hgA];simp
end
section
open Go Go.Proofs.YtjpdjdhdchjcgaaGreat.Ev
open Go.Proofs.YtjpdjdhdchjcgaaGreat.Pure (fA)
open Go.Proofs.YtjpdjdhdchjcgaaGreat.Cls (iF tH nI fQ)
open Go.Proofs.YtjpdjdhdchjcgaaGreat.Srt (ct cf iG dG)
variable {d:Int}
theorem dT {i n:Nat}(h:i<n):decide ((i:Int)<(n:Int))=true:=decide_eq_true (by omega)
theorem dF {i n:Nat}(h:¬i<n):decide ((i:Int)<(n:Int))=false:=decide_eq_false (by omega)
theorem th (N:Nat)(hd:iF d):Q107.f N d=some 0:=by
 rcases nI N d (by have:=hd.1;omega) (by have:=hd.2.1;omega)with⟨_,_,h⟩|⟨h,_⟩
 ·exact h
 ·exact absurd hd h
end
section
open Go Go.Proofs.YtjpdjdhdchjcgaaGreat.Ev
open Go.Proofs.YtjpdjdhdchjcgaaGreat.Pure (fA ym La Pr Oo)
open Go.Proofs.YtjpdjdhdchjcgaaGreat.Cls (iF Rd iK my tH nI fQ)
open Go.Proofs.YtjpdjdhdchjcgaaGreat.Srt (ct cf iG dG)
variable {d:Int}
theorem Am (N:Nat){m:Int}(h0:0≤m)(h1:m<65536):∃d,Q144.f N m=some d∧iF d:=by
 have e1:Int.tmod m 20000=m%20000:=a6 h0;obtain⟨t,ht⟩:∃t,t=m%20000:=⟨_,rfl⟩
 have t0:0≤t∧t<20000:=by omega
 have e2:aA ((aA (0- (aA (Int.tmod m 20000))))-3)= -(t+3):=by rw[e1,←ht,fA (n:=t) (by omega) (by omega),fA (n:=0-t) (by omega) (by omega),fA (by omega) (by omega)];omega
 have e3:aA (-(t+3)-2)= -(t+5):=by rw[fA (by omega) (by omega)];omega
 have e4:Int.tmod (-(t+3)) 4= -((t+3)%4):=by rw[Int.neg_tmod,a6 (by omega)]
 unfold Q144.f;rw[e2,e3,e4];have hm:(t+3)%4=0∨(t+3)%4=1∨(t+3)%4=2∨(t+3)%4=3:=by omega
 rcases hm with hm|hm|hm|hm<;>rw[hm]
 ·exact⟨_,rfl,by omega,by omega,by omega⟩
 ·exact⟨_,rfl,by omega,by omega,by omega⟩
 ·exact⟨_,rfl,by omega,by omega,by omega⟩
 ·exact⟨_,rfl,by omega,by omega,by omega⟩
theorem js {G:Type}:∀a b:List (G×Nat),np (a++b)=np a*np b
 | [],b=>(w6 _).symm
 |g::a,b=>by simp only[List.cons_append,np];rw[js a b,c0]
theorem Eh {G:Type}:∀a:List (G×Nat),np a.reverse=np a
 | []=>rfl
 |g::a=>by rw[List.reverse_cons,js,Eh a];simp only[np,s5];rw[hU]
theorem Di {G:Type}{q:Nat}(hq:0<q):∀a:List (G×Nat),0<gp q a
 | []=>by simp[gp]
 |g::a=>by simp only[gp];exact Nat.mul_pos (Nat.gcd_pos_of_pos_left _ hq) (Di hq a)
theorem dX {gs:List (K d×Nat)}{i:Nat}(h:i<gs.length):(gs.map fun g=>(g.2:Int)).getD i 0=(gs[i].2:Int):=by
 simp[iB,zB h]
theorem Jb {n:Int}(h:(Lit.int .u16 n).wf=true):0≤n∧n<65536:=by
 simp[Lit.wf]at h;have h1:IntKind.u16.min=0:=by decide
 have h2:IntKind.u16.max=65535:=by decide
 omega
end
section
open Go Go.Proofs.YtjpdjdhdchjcgaaGreat.Ev
open Go.Proofs.YtjpdjdhdchjcgaaGreat.Pure (fA La Pr Oo pD jP kG wF jL lC dK)
open Go.Proofs.YtjpdjdhdchjcgaaGreat.Cls (iF Rd iK tH nI fQ fX)
open Go.Proofs.YtjpdjdhdchjcgaaGreat.Srt (ct cf iG dG qJ)
variable {d:Int}
def ints (l:List Nat):List Int:=l.map fun(n:Nat)=>(n:Int)
theorem oQ {l:List Nat}{i:Nat}(h:i<l.length):(ints l).getD i 0=(l[i]:Int):=by
 simp[ints,iB,zB h]
theorem xN (gs:List (K d×Nat)):((eB (gs.map (·.1.1))).length/3:Int)=(gs.length:Int):=by
 have:=bG (gs.map (·.1));rw[List.map_map,aE]at this;exact this
theorem xq {gs:List (K d×Nat)}{i:Nat}(h:i<gs.length):(eB (gs.map (·.1.1))).getD (i*3) 0=gs[i].1.1.1∧(eB (gs.map (·.1.1))).getD (i*3+1) 0=gs[i].1.1.2.1∧(eB (gs.map (·.1.1))).getD (i*3+2) 0=gs[i].1.1.2.2:=by
 have:=xY (L:=gs.map (·.1)) (i:=i) (by simpa using h);rw[List.map_map,List.getElem_map]at this;exact this
theorem rZ {N:Nat}(hN:8589934600<N)(hd:iF d){gs:List (K d×Nat)}{es:List Nat}(hl:es.length=gs.length)(hg:gs.length≤45000)(hb:∀e∈es,e<9223372036854775807){R:Type}(x8 x9 x10:Int)(K0:Int→Int→Int→Int→Int→Int→Option R):∀(q i:Nat) (f:K d),i≤gs.length→gs.length-i<q→
  Q145.l3 N q (eB (gs.map (·.1.1))) (ints es) (i:Int) x8 x9 x10 f.1.1 f.1.2.1 f.1.2.2 K0=K0 x8 x9 x10 (mul hd f (val (xC hd) (gs.drop i) (es.drop i))).1.1 (mul hd f (val (xC hd) (gs.drop i) (es.drop i))).1.2.1 (mul hd f (val (xC hd) (gs.drop i) (es.drop i))).1.2.2
 |0,i,f,_,h=>by omega
 |q+1,i,f,hi,hq=>by
  have il:(ints es).length=gs.length:=by rw[ints,aE,hl]
  rw[Q145.l3,xN,il];by_cases hlt:i<gs.length
  ·have hlt2:i<es.length:=by omega
   obtain⟨e1,e2,e3⟩:=xq hlt;have he:=hb _ (cD hlt2);rw[ct (dT hlt),ct (dT hlt),ct (iG hlt),ct (iG hlt)];simp only[zA,e1,e2,e3,oQ hlt2];rw[rX hN hd gs[i].1 (n:=(es[i]:Int)) (by omega) (by omega)];simp only[iA,zA];rw[de hN hd];simp only[iA];rw[sD (by omega),rZ hN hd hl hg hb x8 x9 x10 K0 q (i+1) _ (by omega) (by omega),zE hlt,zE hlt2];have e:mul hd (mul hd f (pw (xC hd) gs[i].1 es[i])) (val (xC hd) (gs.drop (i+1)) (es.drop (i+1)))=mul hd f (val (xC hd) (gs[i]::gs.drop (i+1)) (es[i]::es.drop (i+1))):=(xC hd).assoc _ _ _;rw[e]
  ·have h0:gs.drop i=[]:=n0 (by omega);have e:mul hd f (val (xC hd) [] (es.drop i))=f:=by rw[kF];exact(xC hd).mul_one f
   rw[cf (dF hlt),h0,e]
theorem B4 {N:Nat}(hN:8589934600<N)(hd:iF d){gs:List (K d×Nat)}{es:List Nat}(hl:es.length=gs.length)(hg:gs.length≤45000)(hb:∀e∈es,e<9223372036854775807):Q145.f N d (eB (gs.map (·.1.1))) (ints es)=some (val (xC hd) gs es).1:=by
 unfold Q145.f;rw[mM N hd];simp only[iA];have:=rZ hN hd hl hg hb 0 0 0 (fun y22 y23 y24 y25 y26 y27=>some (y25,y26,y27)) N 0 (one hd) (by omega) (by omega);have e:mul hd (one hd) (val (xC hd) gs es)=val (xC hd) gs es:=(xC hd).one_mul _;rw[pC,w3,w3,e]at this;exact this
theorem fj {N:Nat}(hd:iF d)(z:K d):Q100.f N z.1.1 z.1.2.1 z.1.2.2=some true:=by
 obtain⟨h,hr,hs⟩:=fX hd z.2.1;have hck:Q48.f N z.1.1 z.1.2.1 z.1.2.2=some 0:=by
  rcases kG N z.1.1 z.1.2.1 z.1.2.2 with⟨_,h2⟩|⟨h2,_⟩
  ·exact h2
  ·exact absurd h h2
 unfold Q100.f;rw[hck];simp only[iA,beq_self_eq_true,cond_true];rw[wF N h.good,if_pos hr,if_neg hs];rfl
theorem H3 {N:Nat}(hN:8589934600<N)(hd:iF d)(z:K d){n:Nat}(ho:aU (xC hd) z n):Q134.f N z.1.1 z.1.2.1 z.1.2.2=some ((n:Int),0):=by
 have hV:=z.val hd;obtain⟨a',b',c',r1,r2,r3,p,q,r,u,r4⟩:=pD hN hV;obtain⟨k,hk,hcl⟩:=oL r2;have hkz:z=k:=eR hd hcl;subst hkz;obtain⟨k1,k2,k3⟩:=Da hk;obtain⟨L,gs,hP,_,_,hn,_,_⟩:=tK hN hd;have j1:=kZ hN hd hV hcl;have hD:=(tr N hd z).1;have hA:Q133.f N z.1.1 z.1.2.1 z.1.2.2=some (z.1.1,z.1.2.1,z.1.2.2,(L.length:Int),0):=by unfold Q133.f;rw[j1];simp only[iA];rw[cf (by rfl),hD];simp only[iA];rw[hn];simp only[iA];rw[cf (by rfl),r4,k1,k2,k3];rfl
 have hL:=hP.fin;have hb:=hP.len;obtain⟨m,m1,m2,m3⟩:=uR hN hd z (hL.pos (xC hd)) (by omega) (mG hL z);have:m=n:=m1.uniq ho;subst this;unfold Q134.f;rw[hA];simp only[iA];rw[cf (by rfl),hD];simp only[iA];rw[mM N hd];simp only[iA];rw[m3];rfl
end
section
open Go Go.Proofs.YtjpdjdhdchjcgaaGreat.Ev
open Go.Proofs.YtjpdjdhdchjcgaaGreat.Pure (fA)
open Go.Proofs.YtjpdjdhdchjcgaaGreat.Cls (iF)
open Go.Proofs.YtjpdjdhdchjcgaaGreat.Srt (ct cf iG dG qJ)
section
variable {G:Type}{A:AG G}
def dg:List (G×Nat)→Nat→List Nat
 | [],_=>[]
 |g::gs,k=>(k%g.2)::dg gs (k/g.2)
theorem tn:∀(gs:List (G×Nat)) (k:Nat),(dg gs k).length=gs.length
 | [],_=>rfl
 |g::gs,k=>by simp only[dg,p4,tn gs]
theorem D9:∀{gs:List (G×Nat)} (k:Nat),(∀g∈gs,0<g.2)→Sm gs (dg gs k)
 | [],_,_=>trivial
 |g::gs,k,h=>⟨Nat.mod_lt _ (h g (by simp)),D9 _ fun g hg=>h g (yK _ hg)⟩
theorem D8:∀{gs:List (G×Nat)} {j k:Nat},j<np gs→k<np gs→dg gs j=dg gs k→j=k
 | [],j,k,h1,h2,_=>by simp only[np]at h1 h2;omega
 |g::gs,j,k,h1,h2,h=>by simp only[dg,List.cons.injEq]at h;simp only[np]at h1 h2;have e:=D8 (gs:=gs) (k7 h1) (k7 h2) h.2;rw[←Nat.div_add_mod j g.2,←Nat.div_add_mod k g.2,h.1,e]
theorem Sm.bound {b:Nat}:∀{gs:List (G×Nat)} {es:List Nat},(∀g∈gs,g.2≤b)→Sm gs es→∀e∈es,e<b
 | [],[],_,_,e,he=>by cases he
 |g::gs,x::es,h,hs,e,he=>by
  rcases b0.mp he with rfl|he
  ·exact Nat.lt_of_lt_of_le hs.1 (h g (by simp))
  ·exact Sm.bound (fun g hg=>h g (yK _ hg)) hs.2 e he
 | [],_::_,_,hs,_,_=>hs.elim
 |_::_,[],_,_,e,he=>by cases he
theorem Gy {a:List (G×Nat)}{i:Nat}(h:i<a.length):np (a.take (i+1))=np (a.take i)*a[i].2:=by
 rw[hR,zB h,js];simp[np]
theorem Eg:∀{a:List (G×Nat)},(∀g∈a,0<g.2)→0<np a
 | [],_=>by simp[np]
 |g::a,h=>by simp only[np];exact Nat.mul_pos (h g (by simp)) (Eg fun g hg=>h g (yK _ hg))
theorem Jl {a:List (G×Nat)}(h:∀g∈a,0<g.2)(i:Nat):np (a.take i)≤np a:=by
 have:np a=np (a.take i)*np (a.drop i):=by rw[←js,x4]
 rw[this];exact x3 _ (Eg fun g hg=>h g (c5 hg))
end
variable {d:Int}
abbrev vR (gs:List (K d×Nat)):List Int:=gs.map fun g=>(g.2:Int)
structure Kn (hd:iF d)(L:List (K d))(gs:List (K d×Nat)):Prop where
 fin:rz L
 len:L.length≤45000
 glen:gs.length≤45000
 uq:Uq (xC hd) gs
 big:∀g∈gs,1<g.2∧g.2≤45000
 up:gs.Pairwise (fun a b=>a.2∣b.2)
 count:np gs=L.length
 all:∀x,In (xC hd) gs x
theorem Pt.kn {hd:iF d}{L:List (K d)}{gs:List (K d×Nat)}(h:Pt hd L gs):Kn hd L gs:=by
 have hb:=h.len;refine⟨h.fin,h.len,h.glen,?_,fun g hg=>?_,?_,?_,fun x=>?_⟩
 ·have:=h.gen.uq.reverse;rwa[e5]at this
 ·have:=h.gen.big g (by simpa using hg);have:=h.gen.short h.fin (x7 _) g (by simpa using hg);omega
 ·have:=h.gen.desc;rwa[List.pairwise_reverse]at this
 ·rw[←Eh];exact h.gen.count h.fin
 ·have:=(h.gen.all x (mG h.fin x)).reverse;rwa[e5]at this
theorem nM {N:Nat}(hN:8589934600<N){hd:iF d}{L:List (K d)}{gs:List (K d×Nat)}(h:Kn hd L gs){R:Type}(x8:Int)(k0:Int→List Int→List Int→Int→Int→Option R)(kr:Bool→Option R):∀(q i:Nat),i≤gs.length→gs.length-i<q→
  Q150.l8 N q d (eB (gs.map (·.1.1))) (vR gs) x8 ((np (gs.take i):Nat):Int) (i:Int) k0 kr=k0 d (eB (gs.map (·.1.1))) (vR gs) x8 ((np gs:Nat):Int)
 |0,i,_,hq=>by omega
 |q+1,i,hi,hq=>by
  have hol:(vR gs).length=gs.length:=by simp
  have hglen:=h.glen;rw[Q150.l8,hol,xN];by_cases hlt:i<gs.length
  ·obtain⟨e1,e2,e3⟩:=xq hlt;have hm:=cD hlt;have ho:=h.uq.ordOf hm;obtain⟨b1,b2⟩:=h.big _ hm;have hpos:∀g∈gs,0<g.2:=fun g hg=>by have:=(h.big g hg).1;omega
   have hnl:=Jl hpos (i+1);have hcount:=h.count;have hL:=h.len;have hw:aA ((np (gs.take i):Int)*(gs[i].2:Int))=((np (gs.take (i+1)):Nat):Int):=by rw[Gy hlt]at hnl⊢;rw[←q0,bP (by omega)]
   have oat:=dX hlt;rw[ct (dT hlt),ct (iG hlt)];simp only[zA,e1,e2,e3,oat];rw[H3 hN hd gs[i].1 ho];simp only[iA];have step:(bif (decide (0≤(i:Int)))&&(decide ((i:Int)<(gs.length:Int)))then
      bif (gs[i].2:Int) != (gs[i].2:Int)then
       kr false
      else
      bif (decide (0≤(i:Int)))&&(decide ((i:Int)<(gs.length:Int)))then
       (Q100.f N gs[i].1.1.1 gs[i].1.1.2.1 gs[i].1.1.2.2).bind fun r15=>
       bif !r15 then
        kr false
       else
       bif (decide (0≤(i:Int)))&&(decide ((i:Int)<(gs.length:Int)))then
        (Q47.f N gs[i].1.1.1 gs[i].1.1.2.1 gs[i].1.1.2.2).bind fun r16=>
        bif r16 != d then
         kr false
        else
        bif (decide (0≤(i:Int)))&&(decide ((i:Int)<(gs.length:Int)))then
         Q150.l8 N q d (eB (gs.map (·.1.1))) (vR gs) x8 (aA ((np (gs.take i):Int)*(gs[i].2:Int))) (aA ((i:Int)+1)) k0 kr
        else none
       else none
      else none
     else none)=k0 d (eB (gs.map (·.1.1))) (vR gs) x8 ((np gs:Nat):Int):=by
    rw[ct (iG hlt),cf (by simp),ct (iG hlt),fj hd];simp only[iA];rw[cf (by rfl),ct (iG hlt),(tr N hd _).1];simp only[iA];rw[cf (by simp),ct (iG hlt),hw,sD (by omega)];exact nM hN h x8 k0 kr q (i+1) (by omega) (by omega)
   rw[ct (iG hlt),cf (decide_eq_false (by omega))];by_cases h0:0<i
   ·have hlt1:i-1<gs.length:=by omega
    have hdv:gs[i-1].2∣gs[i].2:=(List.pairwise_iff_getElem.mp h.up) (i-1) i hlt1 hlt (by omega);have hpp:=hpos _ (cD hlt1);rw[ct (decide_eq_true (by omega)),ct (iG hlt),qJ h0 (by omega),ct (iG hlt1)];simp only[zA,dX hlt1];rw[ct (mW hpp),aj,Nat.mod_eq_zero_of_dvd hdv,cf (by rfl),cf (by rfl)];exact step
   ·rw[cf (decide_eq_false (by omega)),cf (by rfl)];exact step
  ·rw[cf (dF hlt),hE (by omega)]
theorem nj (N:Nat){gs:List (K d×Nat)}(hg:gs.length≤45000)(hb:∀g∈gs,0<g.2){R:Type}(x35 x38 x39:Int)(x36:List Int)(x42:List (List Int))(x43:List Int)(K0:Int→List Int→List Int→Int→Int→List (List Int)→List Int→List Int→Option R):
  ∀(q i x:Nat) (pre:List Nat) (old:List Int),i≤gs.length→gs.length-i<q→x<1000000→pre.length=i→old.length=gs.length-i→
   Q150.l23 N q x35 x36 (vR gs) x38 x39 (x:Int) (i:Int) x42 x43 (ints pre++old) K0=K0 x35 x36 (vR gs) x38 x39 x42 x43 (ints (pre++dg (gs.drop i) x))
 |0,i,x,pre,old,_,h,_,_,_=>by omega
 |q+1,i,x,pre,old,hi,hq,hx,hp,ho=>by
  have hol:(vR gs).length=gs.length:=by simp
  have hpl:(ints pre).length=i:=by rw[ints,aE,hp]
  rw[Q150.l23,hol];by_cases hlt:i<gs.length
  ·have hrl:(ints pre++old).length=gs.length:=by rw[u5,hpl,ho];omega
   have hpos:=hb _ (cD hlt);have hdv:x/gs[i].2≤x:=Nat.div_le_self _ _;rw[ct (dT hlt),ct (iG hlt)];simp only[zA,dX hlt];rw[ct (mW hpos),hrl,ct (iG hlt),ct (iG hlt),ct (mW hpos),lW,bP (x5 hdv (by omega)),sD (by omega),aj];cases old with
   |nil=>simp at ho;omega
   |cons o old=>
    have es:(ints pre++o::old).set i ((x%gs[i].2:Nat):Int)=ints (pre++[x%gs[i].2])++old:=by rw[w4 _ _ (by omega),hpl,b8,y0];simp[ints]
    rw[es,nj N hg hb x35 x38 x39 x36 x42 x43 K0 q (i+1) (x/gs[i].2) (pre++[x%gs[i].2]) old (by omega) (by omega) (x5 hdv hx) (by simp[hp]) (by simp at ho;omega),zE hlt,dg];simp
  ·have:old=[]:=h6.mp (by omega);subst this;rw[cf (dF hlt),n0 (by omega),dg];simp
theorem fq {N:Nat}(hN:8589934600<N){hd:iF d}{L:List (K d)}{gs:List (K d×Nat)}(h:Kn hd L gs){R:Type}(k2:Unit→Option R)(kr:Bool→Option R):∀(q k:Nat) (ks:List (List Int)) (vs:List Int) (row:List Int),k≤np gs→np gs-k<q→row.length=gs.length→
  Mp (fun z=>∃j,j<k∧z=val (xC hd) gs (dg gs j)) (fun _ v=>v=1) ks vs→Q150.l19 N q d (eB (gs.map (·.1.1))) (vR gs) ((np gs:Nat):Int) (k:Int) ks vs row k2 kr=k2 ()
 |0,k,ks,vs,row,_,hq,_,_=>by omega
 |q+1,k,ks,vs,row,hk,hq,hr,hM=>by
  have hnp:=h.count;have hL:=h.len;have hpos:∀g∈gs,0<g.2:=fun g hg=>by have:=(h.big g hg).1;omega
  rw[Q150.l19,dG];by_cases hlt:k<np gs
  ·have i1:k+1≤np gs:=hlt;have i2:np gs- (k+1)<q:=by omega
   have i3:k<9223372036854775807:=by omega
   rw[ct (decide_eq_true hlt)];have h23:=nj N h.glen hpos d ((np gs:Nat):Int) (k:Int) (eB (gs.map (·.1.1))) ks vs (fun y53 y54 y55 y56 y57 y58 y59 y60=>
     (Q145.f N y53 y54 y60).bind fun r61=>
     bif (decide (0≤(nE [r61.1,r61.2.1,r61.2.2] y58)))&&(decide ((nE [r61.1,r61.2.1,r61.2.2] y58)<((aC [r61.1,r61.2.1,r61.2.2] y58).length:Int)))then
      bif decide ((aF [r61.1,r61.2.1,r61.2.2] (aC [r61.1,r61.2.1,r61.2.2] y58) ((oG [r61.1,r61.2.1,r61.2.2] (aF [r61.1,r61.2.1,r61.2.2] y58 y59) y58 (List.take (List.length y58) y59)).set ((nE [r61.1,r61.2.1,r61.2.2] y58).toNat) (aA ((aF [r61.1,r61.2.1,r61.2.2] y58 y59)+1))))>1)then
       kr false
      else
      (Q100.f N r61.1 r61.2.1 r61.2.2).bind fun r63=>
      bif !r63 then
       kr false
      else
      Q150.l19 N q y53 y54 y55 y56 (aA (y57+1)) (aC [r61.1,r61.2.1,r61.2.2] y58) ((oG [r61.1,r61.2.1,r61.2.2] (aF [r61.1,r61.2.1,r61.2.2] y58 y59) y58 (List.take (List.length y58) y59)).set ((nE [r61.1,r61.2.1,r61.2.2] y58).toNat) (aA ((aF [r61.1,r61.2.1,r61.2.2] y58 y59)+1))) y60 k2 kr
     else none) N 0 k [] row (by omega) (by have:=h.glen;omega) (by omega) rfl (by omega)
   rw[w3,p6,pC]at h23;refine h23.trans ?_;have hsm:=D9 k hpos;have hlen:=tn gs k;have hbd:=Sm.bound (fun g hg=>(h.big g hg).2) hsm;rw[B4 hN hd hlen h.glen (fun e he=>by have:=hbd e he;omega)];simp only[iA];generalize hz:val (xC hd) gs (dg gs k)=z;have hnew:¬ ∃j,j<k∧z=val (xC hd) gs (dg gs j):=fun⟨j,hj,e⟩=>by have hc:=h.uq.cong (h.fin.pos (xC hd)) (mG h.fin) hlen (tn gs j) (hz.trans e);have:=D8 hlt (show j<np gs by omega) (hc.eq hsm (D9 j hpos));omega
   have h0:=((hM.get z).resolve_left fun hS=>hnew hS.1).2;unfold key at h0;have hw:aA ((0:Int)+1)=1:=by decide
   have hput:=hM.put z (v:=1) rfl;have hg1:=((hput.get z).resolve_right fun hn=>hn.1 (.inr rfl)).2;unfold key at hput hg1;rw[ct qu,xv hM.len,h0,hw,hg1,cf (by decide),fj hd];simp only[iA];rw[cf (by rfl),sD i3];exact fq hN h k2 kr q (k+1) _ _ _ i1 i2 (by rw[ints,aE,hlen]) (hput.congr (fun y=>by
    constructor
    ·rintro(⟨j,hj,e⟩|rfl)
     ·exact⟨j,by omega,e⟩
     ·exact⟨k,by omega,hz.symm⟩
    ·rintro⟨j,hj,e⟩;by_cases hjk:j=k
     ·subst hjk;exact .inr (e.trans hz)
     ·exact .inl ⟨j,by omega,e⟩) (fun _ _ h=>h))
  ·rw[cf (decide_eq_false hlt)]
theorem zX {N:Nat}(hN:8589934600<N)(hw:Q146.f N=some true)(a:Int)(w:(Lit.int .u16 a).wf=true):Q150.f N a=some true:=by
 obtain⟨w1,w2⟩:=Jb w;obtain⟨d,hdisc,hd⟩:=Am N w1 w2;obtain⟨L,gs,hP,hC,hA,hn,hr,hg⟩:=tK hN hd;have h:=hP.kn;have hgl:=h.glen;have hcount:=h.count;have hLl:=h.len;have hS:=aL hN hP.glen hg;unfold Q150.f;rw[hdisc,iA,hS,iA,hn,iA];have hol:(vR gs).length=gs.length:=by simp
 rw[cf (by rfl),cf (by rfl),xN,hol,cf (by simp)];have h8:=nM hN h (L.length:Int) (fun y22 y23 y24 y25 y26=>
   bif y26 != y25 then
    some false
   else
   bif decide ((y24.length:Int)=(y24.length:Int))&&decide (0≤(y24.length:Int))&&decide ((y24.length:Int)≤9223372036854775807)&&fB ((y24.length:Int).toNat) 8 then
    Q150.l19 N N y22 y23 y24 y26 0 [] [] (List.replicate ((y24.length:Int).toNat) (0:Int))
     (fun(_:Unit)=>
      (Q146.f N).bind fun r64=>
      some r64)
     (fun y65=>
      some y65)
   else none) (fun y66=>some y66) N 0 (by omega) (by omega)
 have z1:np ([]:List (K d×Nat))=1:=rfl;rw[hT,z1,pC,s0]at h8;refine h8.trans ?_;rw[hcount,cf (by simp),hol,zA];have hroom:(decide ((gs.length:Int)=(gs.length:Int))&&decide (0≤(gs.length:Int))&&decide ((gs.length:Int)≤9223372036854775807)&&fB gs.length 8)=true:=by rw[decide_eq_true rfl,decide_eq_true (show(0:Int)≤(gs.length:Int) by omega),decide_eq_true (show(gs.length:Int)≤9223372036854775807 by omega)];simp only[fB,Bool.and_self,Bool.true_and,decide_eq_true_eq];omega
 rw[ct hroom];have h19:=fq hN h (fun(_:Unit)=>(Q146.f N).bind fun r64=>some r64) (fun y65=>some y65) N 0 [] [] (List.replicate gs.length (0:Int)) (by omega) (by omega) (by simp) (Mp.nil fun z ⟨j,hj,_⟩=>by omega);rw[pC,hcount]at h19;refine h19.trans ?_;rw[hw];rfl
end
section
open Go Go.Proofs.YtjpdjdhdchjcgaaGreat.Ev
open Go.Proofs.YtjpdjdhdchjcgaaGreat.Pure (fA)
open Go.Proofs.YtjpdjdhdchjcgaaGreat.Cls (iF)
open Go.Proofs.YtjpdjdhdchjcgaaGreat.Srt (R4 cC ct cf iG dG qJ kV)
section
variable {G:Type}{A:AG G}
theorem Sm.at:∀{gs:List (G×Nat)} {es:List Nat} (h:Sm gs es) {i:Nat} (hi:i<gs.length) (hj:i<es.length),es[i]<gs[i].2
 |g::gs,e::es,h,0,_,_=>h.1
 |g::gs,e::es,h,i+1,hi,hj=>by have:=Sm.at h.2 (i:=i) (by simpa using hi) (by simpa using hj);simpa using this
theorem Cg.at:∀{gs:List (G×Nat)} {es fs cs:List Nat} (h:Cg gs (wX es fs) cs) {i:Nat} (hi:i<gs.length) (h1:i<es.length) (h2:i<fs.length) (h3:i<cs.length),(es[i]+fs[i])%gs[i].2=cs[i]%gs[i].2
 |g::gs,e::es,f::fs,c::cs,h,0,_,_,_,_=>h.1
 |g::gs,e::es,f::fs,c::cs,h,i+1,hi,h1,h2,h3=>by have:=Cg.at (es:=es) (fs:=fs) h.2 (i:=i) (by simpa using hi) (by simpa using h1) (by simpa using h2) (by simpa using h3);simpa using this
end
variable {d:Int}
theorem yX (N:Nat){gs:List (K d×Nat)}(hg:gs.length≤45000)(hb:∀g∈gs,1<g.2∧g.2≤45000){es bs cs:List Nat}(ha:Sm gs es)(hbs:Sm gs bs)(hc:Sm gs cs)(hcg:Cg gs (wX es bs) cs){R:Type}(x12 x18 x19 x20:Int)(k0:Int→List Int→Int→Int→Int→Option R)(kr:Bool→Option R):∀(q i:Nat),i≤gs.length→gs.length-i<q→
  Q151.l15 N q x12 (vR gs) (ints es) (ints bs) (ints cs) (i:Int) x18 x19 x20 k0 kr=k0 x12 (vR gs) x18 x19 x20
 |0,i,_,h=>by omega
 |q+1,i,hi,hq=>by
  have la:=ha.len;have lb:=hbs.len;have lc:=hc.len;have ho:(vR gs).length=gs.length:=by simp
  have l1:(ints es).length=gs.length:=by rw[ints,aE,la]
  have l2:(ints bs).length=gs.length:=by rw[ints,aE,lb]
  have l3:(ints cs).length=gs.length:=by rw[ints,aE,lc]
  rw[Q151.l15,ho,l1,l2,l3];by_cases hlt:i<gs.length
  ·have s1:=ha.at hlt (by omega);have s2:=hbs.at hlt (by omega);have s3:=hc.at hlt (by omega);have s4:=hcg.at hlt (by omega) (by omega) (by omega);obtain⟨b1,b2⟩:=hb _ (cD hlt);rw[ct (dT hlt),ct (iG hlt)];simp only[zA,oQ (show i<es.length by omega),oQ (show i<bs.length by omega),oQ (show i<cs.length by omega),dX hlt];rw[Nat.mod_eq_of_lt s3]at s4;rw[cf (decide_eq_false (by omega)),ct (iG hlt),ct (iG hlt),cf (decide_eq_false (by omega)),ct (iG hlt),ct (iG hlt),ct (iG hlt),ct (mW (by omega)),ct (iG hlt),kV (by omega),aj,s4,cf (by simp),sD (by omega)];exact yX N hg hb ha hbs hc hcg x12 x18 x19 x20 k0 kr q (i+1) (by omega) (by omega)
  ·rw[cf (dF hlt)]
end
section
variable {G:Type}
def tw (f:Nat→Nat):List (G×Nat)→List Nat
 | []=>[]
 |g::gs=>if f g.2=1 then []else f g.2::tw f gs
def mf (p:Nat):Nat→List Nat→List Nat
 |0,l=>l
 |c+1,[]=>p::mf p c []
 |c+1,x::l=>(x*p)::mf p c l
def eJ (q:Nat):List (G×Nat)→Nat
 | []=>0
 |g::gs=>if q∣g.2 then eJ q gs+1 else 0
abbrev mc (gs:List (G×Nat)):Prop:=gs.Pairwise (fun a b=>b.2∣a.2)
theorem tT {f f':Nat→Nat}:∀{gs:List (G×Nat)},(∀g∈gs,f g.2=f' g.2)→tw f gs=tw f' gs
 | [],_=>rfl
 |g::gs,h=>by simp only[tw];rw[h g (by simp),tT fun g hg=>h g (yK _ hg)]
theorem Fv {f:Nat→Nat}:∀{gs:List (G×Nat)},(∀g∈gs,f g.2=1)→tw f gs=[]
 | [],_=>rfl
 |g::gs,h=>by simp only[tw];rw[if_pos (h g (by simp))]
theorem cZ {p j n:Nat}(hp:uD p)(hj:0<j):(p^j∣n→Nat.gcd (p^j) n=Nat.gcd (p^(j-1)) n*p)∧(¬p^j∣n→Nat.gcd (p^j) n=Nat.gcd (p^(j-1)) n):=by
 have e:p^j=p^(j-1)*p:=by rw[←o0,Nat.succ_eq_add_one,Nat.sub_add_cancel hj]
 constructor
 ·intro h;rw[Nat.gcd_eq_left h,Nat.gcd_eq_left (hI ⟨p,e⟩ h)];exact e
 ·intro h;refine Nat.dvd_antisymm (c8 ?_ (b6 _ _)) (Nat.gcd_dvd_gcd_of_dvd_left _ ⟨p,e⟩);exact(xW hp j _ (Nat.gcd_dvd_left _ _) (fun he=>h (he▸b6 _ _))).2
theorem je {p j:Nat}(hp:uD p)(hj:0<j):∀{gs:List (G×Nat)},mc gs→gp (p^j) gs=gp (p^(j-1)) gs*p^eJ (p^j) gs
 | [],_=>by simp[gp,eJ]
 |g::gs,h=>by
  rw[mc,l0]at h;simp only[gp,eJ];by_cases hd:p^j∣g.2
  ·rw[(cZ hp hj).1 hd,if_pos hd,je hp hj h.2,o0];simp only[c0,sS,hU]
  ·rw[(cZ hp hj).2 hd,if_neg hd,je hp hj h.2];have:eJ (p^j) gs=0:=by
    cases gs with
    |nil=>rfl
    |cons g' gs=>simp only[eJ];rw[if_neg fun h'=>hd (hI h' (h.1 g' (by simp)))]
   rw[this,k5,s5,s5]
theorem yb {f:Nat→Nat}{p j:Nat}(hp:uD p)(hj:0<j)(hf:∀a b,a∣b→f b=1→f a=1):∀{gs:List (G×Nat)},mc gs→
  mf p (eJ (p^j) gs) (tw (fun n=>f n*Nat.gcd (p^(j-1)) n) gs)=tw (fun n=>f n*Nat.gcd (p^j) n) gs
 | [],_=>by simp[tw,eJ,mf]
 |g::gs,h=>by
  rw[mc,l0]at h;have ih:=yb hp hj hf h.2;by_cases hd:p^j∣g.2
  ·have e:=(cZ hp hj).1 hd;have hne:f g.2*Nat.gcd (p^j) g.2≠1:=by
    rw[e];intro h1;have hpd:p∣f g.2*(Nat.gcd (p^(j-1)) g.2*p):=hI ⟨_,hU _ _⟩ ⟨_,hU _ _⟩;rw[h1]at hpd;have:=q5.mp hpd;have:=hp.1;omega
   simp only[eJ,tw];rw[if_pos hd,if_neg hne];by_cases h1:f g.2*Nat.gcd (p^(j-1)) g.2=1
   ·have hx:=Nat.eq_one_of_mul_eq_one_right h1;have hy:=Nat.eq_one_of_mul_eq_one_left h1;have h0:tw (fun n=>f n*Nat.gcd (p^(j-1)) n) gs=[]:=Fv fun g' hg'=>by
     have hdv:=h.1 g' hg';show f g'.2*Nat.gcd (p^(j-1)) g'.2=1;rw[hf _ _ hdv hx,w6];have hgd:=p5 (p^(j-1)) hdv;rw[hy]at hgd;exact q5.mp hgd
    rw[h0]at ih;rw[if_pos h1,mf,ih,e,hx,hy,w6,w6]
   ·rw[if_neg h1,mf,ih,e,c0]
  ·have e0:eJ (p^j) (g::gs)=0:=by simp only[eJ];rw[if_neg hd]
   rw[e0,mf];refine tT fun g' hg'=>?_;have hn:¬p^j∣g'.2:=by
    rcases b0.mp hg' with rfl|hg'
    ·exact hd
    ·exact fun h'=>hd (hI h' (h.1 g' hg'))
   rw[(cZ hp hj).2 hn]
theorem Ay {p j:Nat}{gs:List (G×Nat)}(h:mc gs)(h0:eJ (p^j) gs=0):∀g∈gs,¬p^j∣g.2:=by
 cases gs with
 |nil=>intro g hg;cases hg
 |cons x l=>
  rw[mc,l0]at h;have hx:¬p^j∣x.2:=fun hd=>by simp only[eJ]at h0;rw[if_pos hd]at h0;omega
  intro g hg;rcases b0.mp hg with rfl|hg
  ·exact hx
  ·exact fun hd=>hx (hI hd (h.1 g hg))
theorem Dh {p j a n:Nat}(hp:uD p)(hn:¬p^(j+1)∣n)(hja:j≤a):Nat.gcd (p^a) n=Nat.gcd (p^j) n:=by
 induction a with
 |zero=>
   have:j=0:=by omega
   subst this;rfl
 |succ a ih=>
  by_cases e:j=a+1
  ·subst e;rfl
  ·have h1:¬p^(a+1)∣n:=fun hd=>hn (hI (q6 p (by omega)) hd);rw[(cZ hp (Nat.succ_pos a)).2 h1];exact ih (by omega)
theorem Fs {f:Nat→Nat}:∀{gs:List (G×Nat)},(∀g∈gs,f g.2=g.2∧1<g.2)→tw f gs=gs.map (·.2)
 | [],_=>rfl
 |g::gs,h=>by obtain⟨h1,h2⟩:=h g (by simp);simp only[tw,List.map_cons];rw[h1,if_neg (by omega),Fs fun g hg=>h g (yK _ hg)]
end
section
open Go Go.Proofs.YtjpdjdhdchjcgaaGreat.Ev
open Go.Proofs.YtjpdjdhdchjcgaaGreat.Pure (fA)
open Go.Proofs.YtjpdjdhdchjcgaaGreat.Cls (iF tH fQ)
open Go.Proofs.YtjpdjdhdchjcgaaGreat.Srt (R4 cC ct cf iG dG qJ kV)
variable {d:Int}
theorem wM (l:List Nat):(ints l).length=l.length:=by simp[ints]
theorem dx (l:List Nat)(n:Nat):ints l++[(n:Int)]=ints (l++[n]):=by simp[ints]
theorem yv {pre:List Int}{o:Int}{post:List Int}{i:Nat}(h:pre.length=i):(pre++o::post).getD i 0=o:=by
 subst h;simp[iB]
theorem qf {pre:List Int}{o x:Int}{post:List Int}{i:Nat}(h:pre.length=i):(pre++o::post).set i x=pre++x::post:=by
 subst h;rw[w4 _ _ (o4 _),b8,y0]
theorem fe {N:Nat}(hN:8589934600<N)(hd:iF d){L:List (K d)}(hb:L.length≤45000){od:K d→Nat}(ho:∀z∈L,aU (xC hd) z (od z)∧od z≤50000){R:Type}(K0:List Int→List Int→Option R):∀(q i:Nat),i≤L.length→L.length-i<q→
  Q139.l7 N q (eB (L.map (·.1))) (i:Int) (ints ((L.take i).map od)) K0=K0 (eB (L.map (·.1))) (ints (L.map od))
 |0,i,_,h=>by omega
 |q+1,i,hi,hq=>by
  rw[Q139.l7,bG];by_cases hlt:i<L.length
  ·obtain⟨e1,e2,e3⟩:=xY hlt;obtain⟨o1,o2⟩:=ho _ (cD hlt);have hroom:fB ((ints ((L.take i).map od)).length+1) 8=true:=by
    rw[wM];simp only[fB,decide_eq_true_eq,aE,q4];omega
   rw[ct (dT hlt),ct (iG hlt)];simp only[zA,e1,e2,e3];rw[eW hN hd L[i] o1 o2,iA,ct hroom,sD (by omega),dx];have e:(L.take i).map od++[od L[i]]=(L.take (i+1)).map od:=by rw[hR,zB hlt,u0];rfl
   rw[e];exact fe hN hd hb ho K0 q (i+1) (by omega) (by omega)
  ·rw[cf (dF hlt),hE (by omega)]
def mU (q:Nat)(l:List Nat):Nat:=l.countP fun o=>decide (q%o=0)
theorem nR (N:Nat){os:List Nat}(hl:os.length≤45000)(hp:∀o∈os,0<o){qq:Nat}{R:Type}(x24 x32:List Int)(x25 x26 x28:Int)(K0:List Int→Int→Int→Int→Int→Int→List Int→List Int→Option R):∀(q i:Nat),i≤os.length→os.length-i<q→
  Q139.l20 N q x24 x25 x26 (qq:Int) x28 ((mU qq (os.take i):Nat):Int) (i:Int) (ints os) x32 K0=K0 x24 x25 x26 (qq:Int) x28 ((mU qq os:Nat):Int) (ints os) x32
 |0,i,_,h=>by omega
 |q+1,i,hi,hq=>by
  rw[Q139.l20,wM];by_cases hlt:i<os.length
  ·have hpos:=hp _ (cD hlt);have hcl:mU qq (os.take i)≤i:=a1 a7 (by rw[q4];omega);have e:mU qq (os.take (i+1))=mU qq (os.take i)+(if qq%os[i]=0 then 1 else 0):=by
    unfold mU;rw[hR,zB hlt,List.countP_append];congr 1;by_cases h:qq%os[i]=0<;>simp[h]
   rw[ct (dT hlt),ct (iG hlt)];simp only[zA,oQ hlt];rw[ct (mW hpos),aj,xh,sD (a:=i) (by omega)];by_cases h:qq%os[i]=0
   ·rw[if_pos h]at e;rw[ct (decide_eq_true h),sD (by omega),←e];exact nR N hl hp x24 x32 x25 x26 x28 K0 q (i+1) (by omega) (by omega)
   ·have e':mU qq (os.take (i+1))=mU qq (os.take i):=by rw[e,if_neg h];rfl
    rw[cf (decide_eq_false h),←e'];exact nR N hl hp x24 x32 x25 x26 x28 K0 q (i+1) (by omega) (by omega)
  ·rw[cf (dF hlt),hE (by omega)]
theorem jm (N:Nat){p:Nat}(hp:1<p)(hp2:p≤50000){R:Type}(x53 x60:List Int)(x54 x56 x57:Int)(K0:List Int→Int→Int→Int→Int→List Int→List Int→Option R):∀(q c:Nat) (pre rest:List Nat),c<q→p^c≤1000000→pre.length+c+rest.length≤1000000→(∀x∈rest,x≤50000)→
  Q139.l26 N q x53 x54 (p:Int) x56 x57 (pre.length:Int) ((p^c:Nat):Int) x60 (ints (pre++rest)) K0=K0 x53 x54 (p:Int) x56 x57 x60 (ints (pre++mf p c rest))
 |0,c,pre,rest,h,_,_,_=>by omega
 |q+1,c,pre,rest,hq,hpc,hl,hb=>by
  rw[Q139.l26,wM];cases c with
  |zero=>rw[cf (decide_eq_false (by simp)),mf]
  |succ c=>
   have h1:1<p^(c+1):=Nat.one_lt_pow (by omega) hp;have hdiv:p^(c+1)/p=p^c:=by rw[o0,Nat.mul_div_cancel _ (by omega)]
   have hle:p^c≤p^(c+1):=r7 (by omega) (by omega);have hpp:(!((p:Int)==0))=true:=mW (by omega);rw[ct (decide_eq_true (show(((p^(c+1):Nat):Int))>1 by omega)),lW,hdiv,bP (a:=p^c) (by omega),sD (a:=pre.length) (by omega)];cases rest with
   |nil=>
    have hl1:(ints (pre++[])++[1]).length=pre.length+1:=by simp[ints]
    have hin:pre.length<pre.length+1:=by omega
    have hroom:fB ((pre++([]:List Nat)).length+1) 8=true:=by simp only[fB,decide_eq_true_eq,List.append_nil];simp at hl;omega
    have e0:ints (pre++([]:List Nat))++[1]=ints pre++(1:Int)::[]:=by simp
    rw[ct (by simp),ct hroom,hl1,ct (iG hin),ct (iG hin),ct hpp,zA,e0,yv (by simp[ints]),qf (by simp[ints]),Int.one_mul,bP (by omega)];have e1:ints pre++[(p:Int)]=ints ((pre++[p])++[]):=by simp[ints]
    have e2:((pre.length+1:Nat):Int)=(((pre++[p]).length:Nat):Int):=by simp
    rw[e1,e2,jm N hp hp2 x53 x60 x54 x56 x57 K0 q c (pre++[p]) [] (by omega) (by omega) (by simp at hl⊢;omega) (fun x hx=>by cases hx),mf];simp
   |cons x rest=>
    have hx:=hb x (by simp);have hin:pre.length<(pre++x::rest).length:=by simp
    have hne:((pre.length:Int)==((pre++x::rest).length:Int))=false:=beq_eq_false_iff_ne.mpr (by omega);have hmul:x*p≤50000*50000:=Nat.mul_le_mul hx hp2;have e0:ints (pre++x::rest)=ints pre++(x:Int)::ints rest:=by simp[ints]
    rw[cf hne,ct (iG hin),ct (iG hin),ct hpp,zA,e0,yv (by simp[ints]),qf (by simp[ints]),←q0,bP (by omega)];have e1:ints pre++((x*p:Nat):Int)::ints rest=ints ((pre++[x*p])++rest):=by simp[ints]
    have e2:((pre.length+1:Nat):Int)=(((pre++[x*p]).length:Nat):Int):=by simp
    rw[e1,e2,jm N hp hp2 x53 x60 x54 x56 x57 K0 q c (pre++[x*p]) rest (by omega) (by omega) (by simp at hl⊢;omega) (fun y hy=>hb y (yK _ hy)),mf];simp
end
section
open Go Go.Proofs.YtjpdjdhdchjcgaaGreat.Ev
open Go.Proofs.YtjpdjdhdchjcgaaGreat.Pure (fA)
open Go.Proofs.YtjpdjdhdchjcgaaGreat.Cls (iF tH fQ)
open Go.Proofs.YtjpdjdhdchjcgaaGreat.Srt (R4 cC ct cf iG dG qJ kV)
variable {d:Int}
theorem Fu {G:Type}{f:Nat→Nat}:∀{gs:List (G×Nat)},∀x∈tw f gs,∃g∈gs,x=f g.2
 | [],x,h=>by cases h
 |g::gs,x,h=>by
  simp only[tw]at h;split at h
  ·cases h
  ·rcases b0.mp h with rfl|h
   ·exact⟨g,by simp,rfl⟩
   ·obtain⟨g',h1,h2⟩:=Fu x h;exact⟨g',yK _ h1,h2⟩
theorem Ft {G:Type}{f:Nat→Nat}:∀(gs:List (G×Nat)),(tw f gs).length≤gs.length
 | []=>by simp[tw]
 |g::gs=>by
  simp only[tw];split
  ·simp
  ·have:=Ft (f:=f) gs;simp;omega
theorem Ax {G:Type}{q:Nat}{gs:List (G×Nat)}(h:eJ q gs≠0):∃g∈gs,q∣g.2:=by
 cases gs with
 |nil=>exact absurd rfl h
 |cons g gs=>
  simp only[eJ]at h;by_cases hd:q∣g.2
  ·exact⟨g,by simp,hd⟩
  ·rw[if_neg hd]at h;exact absurd rfl h
theorem z8 {N:Nat}(hN:8589934600<N){ds:List (K d×Nat)}(hdesc:mc ds)(hb:∀g∈ds,1<g.2∧g.2≤45000)(hlen:ds.length≤45000){os:List Nat}(hol:os.length≤45000)(hop:∀o∈os,0<o)(hcnt:∀q,0<q→mU q os=gp q ds)
  {p:Nat}(hp:uD p)(hp2:p≤45000){f:Nat→Nat}(hf:∀a b,a∣b→f b=1→f a=1)(hfb:∀g∈ds,∀j,f g.2*Nat.gcd (p^j) g.2≤45000){R:Type}(x17:List Int)(x18:Int)(k4:List Int→Int→List Int→List Int→Option R):
  ∀(m j:Nat),50000-j<m→(j=0∨∃g∈ds,p^j∣g.2)→∃j0,(∀g∈ds,¬p^(j0+1)∣g.2)∧(j0=0∨∃g∈ds,p^j0∣g.2)∧
   Q139.l18 N m x17 x18 (p:Int) ((p^(j+1):Nat):Int) ((gp (p^j) ds:Nat):Int) (ints os) (ints (tw (fun n=>f n*Nat.gcd (p^j) n) ds)) k4=k4 x17 x18 (ints os) (ints (tw (fun n=>f n*Nat.gcd (p^j0) n) ds))
 |0,j,h,_=>by omega
 |m+1,j,hm,hj=>by
  have hp1:=hp.1;have hpj:p^j≤45000:=by
   rcases hj with rfl|⟨g,hg,hd⟩
   ·simp
   ·have:=hb g hg;exact a1 (xK (by omega) hd) this.2
  have hjlt:j<45000:=by have:=kT (j:=j) hp1;omega
  have hm1:50000- (j+1)<m:=by clear hj;omega
  have hpos:∀k,0<p^k:=fun k=>x6 (by omega);have hgl:∀k,gp (p^k) ds≤45000:=fun k=>by rw[←hcnt _ (hpos k)];exact a1 a7 hol
  have hstep:=je (j:=j+1) hp (by omega) hdesc;rw[Nat.add_sub_cancel]at hstep;have hg0:=Di (hpos j) ds;rw[Q139.l18];have h20:=nR N hol hop (qq:=p^(j+1)) x17 (ints (tw (fun n=>f n*Nat.gcd (p^j) n) ds)) x18 (p:Int) ((gp (p^j) ds:Nat):Int) (fun y41 y42 y43 y44 y45 y46 y47 y48=>
    bif y46==y45 then
     k4 y41 y42 y47 y48
    else
    bif !(y45==0)then
     Q139.l26 N N y41 y42 y43 y44 y46 0 (aA (Int.tdiv y46 y45)) y47 y48
      (fun y69 y70 y71 y72 y73 y74 y75=>
       Q139.l18 N m y69 y70 y71 (aA (y72*y71)) y73 y74 y75 k4)
    else none) N 0 (by omega) (by omega)
  have z0:mU (p^(j+1)) (os.take 0)=0:=by rw[hT];rfl
  rw[z0,pC,hcnt _ (hpos (j+1))]at h20;by_cases hl:eJ (p^(j+1)) ds=0
  ·refine⟨j,Ay hdesc hl,hj,h20.trans ?_⟩;rw[hl,k5,s5]at hstep;rw[ct (by rw[hstep];simp)]
  ·have hex:=Ax hl;have hlp:eJ (p^(j+1)) ds<p^eJ (p^(j+1)) ds:=kT hp1;have hgl1:=hgl (j+1);have hle:p^eJ (p^(j+1)) ds≤gp (p^(j+1)) ds:=by rw[hstep];exact u6 _ hg0
   have h1:1<p^eJ (p^(j+1)) ds:=Nat.one_lt_pow hl hp1;have hne:gp (p^(j+1)) ds≠gp (p^j) ds:=fun e=>by rw[hstep]at e;have:gp (p^j) ds*2≤gp (p^j) ds*p^eJ (p^(j+1)) ds:=iX _ h1;omega
   have hdiv:gp (p^(j+1)) ds/gp (p^j) ds=p^eJ (p^(j+1)) ds:=by rw[hstep,k6 _ hg0]
   have hpj1:p^(j+1)≤45000:=by obtain⟨g,hg,hd⟩:=hex;have:=hb g hg;exact a1 (xK (by omega) hd) this.2
   have hmf:=yb (j:=j+1) hp (by omega) hf hdesc;rw[Nat.add_sub_cancel]at hmf;have htl:=Ft (f:=fun n=>f n*Nat.gcd (p^j) n) ds;have h26:=jm N hp1 (show p≤50000 by omega) x17 (ints os) x18 ((p^(j+1):Nat):Int) ((gp (p^(j+1)) ds:Nat):Int) (fun y69 y70 y71 y72 y73 y74 y75=>
       Q139.l18 N m y69 y70 y71 (aA (y72*y71)) y73 y74 y75 k4) N (eJ (p^(j+1)) ds) [] (tw (fun n=>f n*Nat.gcd (p^j) n) ds) (by omega) (by omega) (by simp only[l6];omega) (fun x hx=>by
     obtain⟨g,hg,rfl⟩:=Fu x hx;have:=hfb g hg j;omega)
   rw[l6,pC,p6,p6,hmf]at h26;obtain⟨j0,k1,k2,k3⟩:=z8 hN hdesc hb hlen hol hop hcnt hp hp2 hf hfb x17 x18 k4 m (j+1) hm1 (.inr hex);refine⟨j0,k1,k2,h20.trans ?_⟩;have hmul:((p^(j+1):Nat):Int)*(p:Int)=((p^(j+1+1):Nat):Int):=by rw[o0 p (j+1),q0]
   have hbig:p^(j+1+1)≤45000*45000:=by rw[o0];exact Nat.mul_le_mul hpj1 hp2
   rw[cf (beq_eq_false_iff_ne.mpr (by omega)),ct (mW hg0),lW,hdiv,bP (a:=p^eJ (p^(j+1)) ds) (by omega)];refine h26.trans ?_;rw[hmul,bP (by omega)];exact k3
theorem zV {N:Nat}(hN:8589934600<N){ds:List (K d×Nat)}(hdesc:mc ds)(hb:∀g∈ds,1<g.2∧g.2≤45000)(hlen:ds.length≤45000){os:List Nat}(hol:os.length≤45000)(hop:∀o∈os,0<o)(hcnt:∀q,0<q→mU q os=gp q ds)
  {n:Nat}(hn0:0<n)(hn:n≤45000)(hdn:∀g∈ds,g.2∣n){l:PL}(hl:Fz n l){R:Type}(k2:List Int→Option R):∀(q i:Nat),i≤l.length→l.length-i<q→
  Q139.l13 N q (xQ l) (i:Int) (ints os) (ints (tw (fun m=>Nat.gcd (vC (l.take i)) m) ds)) k2=k2 (ints (ds.map (·.2)))
 |0,i,_,h=>by omega
 |q+1,i,hi,hq=>by
  have hll:=gJ hl.pr;rw[hl.prod]at hll;rw[Q139.l13,lP];by_cases hlt:i<l.length
  ·obtain⟨e1,e2⟩:=iz hlt;obtain⟨hp,ha⟩:=hl.pr _ (cD hlt);rw[ct (dT hlt),ct (iG hlt)];simp only[zA,e1];have hsplit:l=l.take i++l[i]::l.drop (i+1):=by rw[←zE hlt,x4]
   have hup:=hl.up;rw[hsplit,e7,l0]at hup;obtain⟨u1,⟨u2,u3⟩,u4⟩:=hup;have pr1:∀x∈l.take i,uD x.1∧0<x.2:=fun x hx=>hl.pr x (c7 hx);have pr2:∀x∈l.drop (i+1),uD x.1∧0<x.2:=fun x hx=>hl.pr x (c5 hx);have hprod:n=vC (l.take i)*(l[i].1^l[i].2*vC (l.drop (i+1))):=by have:=hl.prod;rw[hsplit,cK]at this;exact this.symm
   have c1:∀k,Nat.Coprime (l[i].1^k) (vC (l.take i)):=rQ hp pr1 (fun x hx=>by have:=u4 x hx l[i] List.mem_cons_self;omega);have c2:∀k,Nat.Coprime (l[i].1^k) (vC (l.drop (i+1))):=rQ hp pr2 (fun x hx=>by have:=u2 x hx;omega);have htk:=s7 hlt;generalize hpp:l[i].1=p at*;generalize haa:l[i].2=a at*;have hmulg:∀k m,Nat.gcd (vC (l.take i)) m*Nat.gcd (p^k) m=Nat.gcd (vC (l.take i)*p^k) m:=fun k m=>by rw[a8 (vC (l.take i)*p^k),Nat.Coprime.gcd_mul m (Nat.Coprime.symm (c1 k)),a8 m,a8 m]
   have hpn:p≤45000:=by
    have:p∣n:=by rw[hprod];refine hI ?_ (hI ⟨vC (l.drop (i+1)),rfl⟩ ⟨vC (l.take i),hU _ _⟩);exact hI (by simp) (q6 p (show 1≤a by omega))
    have:=xK hn0 this;omega
   obtain⟨j0,k1,k2',k3⟩:=z8 hN hdesc hb hlen hol hop hcnt hp hpn (f:=fun m=>Nat.gcd (vC (l.take i)) m) (fun a b hab h=>q5.mp (h▸p5 _ hab)) (fun g hg j=>by show Nat.gcd (vC (l.take i)) g.2*Nat.gcd (p^j) g.2≤45000;rw[hmulg];have:=hb g hg;exact a1 (xK (by omega) (b6 _ _)) this.2) (xQ l) (i:Int) (fun y76 y77 y78 y79=>Q139.l13 N q y76 (aA (y77+1)) y78 y79 k2) N 0 (by omega) (.inl rfl);have s1:gp (p^0) ds=1:=by
    rw[k5];have:∀x:List (K d×Nat),gp 1 x=1:=fun x=>by
     induction x with
     |nil=>rfl
     |cons g x ih=>simp only[gp,ih,e6]
    exact this ds
   have s2:tw (fun m=>Nat.gcd (vC (l.take i)) m*Nat.gcd (p^0) m) ds=tw (fun m=>Nat.gcd (vC (l.take i)) m) ds:=tT fun g _=>by rw[k5,e6,s5]
   rw[s1,s2,Nat.zero_add,e8,s0]at k3;refine k3.trans ?_;rw[sD (by omega)];have hj0:j0≤a:=by
    rcases k2' with rfl|⟨g,hg,hd⟩
    ·omega
    ·apply Nat.le_of_not_lt;intro hlt2;have h1:p^(a+1)∣n:=hI (q6 p hlt2) (hI hd (hdn g hg));rw[hprod,o0,sS]at h1;have h2:=Nat.dvd_of_mul_dvd_mul_left (x6 (show 0<p by have:=hp.1;omega)) h1;rcases hp.dvd_mul h2 with h3|h3
     ·have:=c8 (x7 p) h3;have c:=c1 1;rw[e8]at c;rw[c]at this;have:=q5.mp this;have:=hp.1;omega
     ·have:=c8 (x7 p) h3;have c:=c2 1;rw[e8]at c;rw[c]at this;have:=q5.mp this;have:=hp.1;omega
   have s3:tw (fun m=>Nat.gcd (vC (l.take i)) m*Nat.gcd (p^j0) m) ds=tw (fun m=>Nat.gcd (vC (l.take (i+1))) m) ds:=tT fun g hg=>by rw[htk,←hmulg,Dh hp (k1 g hg) hj0]
   rw[s3];exact zV hN hdesc hb hlen hol hop hcnt hn0 hn hdn hl k2 q (i+1) (by omega) (by omega)
  ·rw[cf (dF hlt),hE (by omega),hl.prod,Fs fun g hg=>⟨Nat.gcd_eq_right (hdn g hg),(hb g hg).1⟩]
end
section
open Go Go.Proofs.YtjpdjdhdchjcgaaGreat.Ev
open Go.Proofs.YtjpdjdhdchjcgaaGreat.Pure (fA)
open Go.Proofs.YtjpdjdhdchjcgaaGreat.Cls (iF tH fQ)
open Go.Proofs.YtjpdjdhdchjcgaaGreat.Srt (R4 cC ct cf iG dG qJ kV)
variable {d:Int}
theorem qI (N:Nat){os:List Nat}(hl:os.length≤45000){R:Type}(k:List Int→Option R):∀(q i:Nat),i≤os.length→i<q→
  Q139.l36 N q (((i:Nat):Int)-1) (ints os) (ints (os.drop i).reverse) k=k (ints os.reverse)
 |0,i,_,h=>by omega
 |q+1,i,hi,hq=>by
  rw[Q139.l36];cases i with
  |zero=>rw[cf (decide_eq_false (by simp)),w3]
  |succ i=>
   have e:((i+1:Nat):Int)-1=(i:Int):=by omega
   have hroom:fB ((ints (os.drop (i+1)).reverse).length+1) 8=true:=by rw[wM];simp only[fB,decide_eq_true_eq,w7,List.length_drop];omega
   rw[e,ct (decide_eq_true (by omega)),wM,ct (iG (show i<os.length by omega)),ct hroom,zA,oQ (show i<os.length by omega),dx];have e2:(os.drop (i+1)).reverse++[os[i]]=(os.drop i).reverse:=by rw[zE (show i<os.length by omega),List.reverse_cons]
   have e3:aA ((i:Int)-1)=(i:Int)-1:=fA (by omega) (by omega);rw[e2,e3];exact qI N hl k q i (by omega) (by omega)
theorem kj {N:Nat}(hN:8589934600<N){hd:iF d}{L:List (K d)}{gs:List (K d×Nat)}(h:Kn hd L gs)(hP:Pt hd L gs)(hr:Q111.f N d=some (eB (L.map (·.1)))):Q139.f N d=some (vR gs,0):=by
 classical
 have hL0:=h.fin.pos (xC hd);have hLl:=h.len;have hgl:=h.glen;have hex:∀z:K d,∃n,aU (xC hd) z n:=fun z=>tR hL0 (mG h.fin z)
 let od:K d→Nat:=fun z=>Classical.choose (hex z)
 have hod:∀z,aU (xC hd) z (od z):=fun z=>Classical.choose_spec (hex z);have hodl:∀z,od z≤L.length:=fun z=>xK hL0 (((hod z).2 _).mp (mG h.fin z));obtain⟨l,hl,hf⟩:=kh (N:=N) (by omega) hL0 (by omega);have hcnt:∀q,0<q→mU q (L.map od)=gp q gs.reverse:=fun q _=>by rw[←hP.gen.killed hP.fin q];unfold mU;rw[List.countP_map];refine List.countP_congr fun z _=>?_;simp only[Function.comp_apply,decide_eq_true_eq];rw[(hod z).2 q];exact Nat.dvd_iff_mod_eq_zero.symm
 have h7:=fe hN hd hLl (od:=od) (fun z _=>⟨hod z,by have:=hodl z;omega⟩) (fun y10 y11=>
   (Q118.f N (y10.length/3:Int)).bind fun r12=>
   Q139.l13 N N r12.1 0 y11 []
    (fun y81=>
     Q139.l36 N N (aA ((y81.length:Int)-1)) y81 []
      (fun y86=>
       some (y86,(0:Int))))) N 0 (by omega) (by omega)
 have z0:ints ((L.take 0).map od)=[]:=rfl;rw[z0,pC]at h7;unfold Q139.f;rw[th N hd,iA,cf (by rfl),hr,iA];refine h7.trans ?_;rw[bG,hf,iA];have hll:=gJ hl.pr;rw[hl.prod]at hll;have h13:=zV hN (ds:=gs.reverse) hP.gen.desc (fun g hg=>h.big g (by simpa using hg)) (by simpa using hgl) (os:=L.map od) (by simpa using hLl) (fun o ho=>by
   obtain⟨z,_,rfl⟩:=c6.mp ho;exact(hod z).1) hcnt hL0 hLl (fun g hg=>(hP.gen.big g hg).2) hl (fun y81=>
     Q139.l36 N N (aA ((y81.length:Int)-1)) y81 []
      (fun y86=>
       some (y86,(0:Int)))) N 0 (by omega) (by omega)
 have z1:ints (tw (fun m=>Nat.gcd (vC (l.take 0)) m) gs.reverse)=[]:=by
  have:tw (fun m=>Nat.gcd (vC (l.take 0)) m) gs.reverse=[]:=Fv fun g _=>by rw[hT];exact e6 _
  rw[this];rfl
 rw[z1,pC]at h13;refine h13.trans ?_;have hlen:(gs.reverse.map (·.2)).length=gs.length:=by simp
 have h36:=qI N (os:=gs.reverse.map (·.2)) (by rw[hlen];exact hgl) (fun y86=>some (y86,(0:Int))) N gs.length (by rw[hlen];omega) (by omega);have z2:ints ((gs.reverse.map (·.2)).drop gs.length).reverse=[]:=by rw[n0 (by rw[hlen];omega)];rfl
 rw[z2]at h36;rw[wM,hlen,fA (by omega) (by omega)];refine h36.trans ?_;congr 2;simp[ints,vR]
theorem r9 (N:Nat){l:List Int}(hl:l.length≤45000){R:Type}(k0:Unit→Option R)(kr:Bool→Option R):∀(q i:Nat),i≤l.length→l.length-i<q→Q143.l4 N q l l (i:Int) k0 kr=k0 ()
 |0,i,_,h=>by omega
 |q+1,i,hi,hq=>by
  rw[Q143.l4];by_cases hlt:i<l.length
  ·rw[ct (dT hlt),ct (iG hlt),ct (iG hlt),cf (by simp),sD (by omega)];exact r9 N hl k0 kr q (i+1) (by omega) (by omega)
  ·rw[cf (dF hlt)]
theorem Br {N:Nat}(hN:45001<N){l:List Int}(hl:l.length≤45000):Q143.f N l l=some true:=by
 unfold Q143.f;rw[cf (by simp)];exact r9 N hl (fun(_:Unit)=>some true) (fun y7=>some y7) N 0 (by omega) (by omega)
theorem pd {N:Nat}(hN:8589934600<N)(hw:Q146.f N=some true)(a:Int)(w:(Lit.int .i64 a).wf=true):Q147.f N a=some true:=by
 obtain⟨w1,w2⟩:=fQ w;have body:∃l o e,Q132.f N a=some (l,o,e)∧Q139.f N a=some (o,e)∧(l.length/3:Int)=(o.length:Int)∧o.length≤45000:=by
  by_cases hd:iF a
  ·obtain⟨L,gs,hP,hC,hA,_,hr,hg⟩:=tK hN hd;exact⟨_,_,_,aL hN hP.glen hg,kj hN hP.kn hP hr,by rw[xN];simp,by simpa using hP.glen⟩
  ·obtain⟨h1,h2,h3,h4⟩:=tH (N:=N) w1 w2 hd;refine⟨[],[],80,br w1 w2 hd,?_,by simp,by simp⟩;unfold Q139.f;rw[h4];rfl
 obtain⟨l,o,e,b1,b2,b3,b4⟩:=body;unfold Q147.f;have main:((Q132.f N a).bind fun r3=>(Q139.f N a).bind fun r4=>
  bif r3.2.2==r4.2 then
   bif (r3.1.length/3:Int)==(r3.2.1.length:Int)then
    (Q143.f N r3.2.1 r4.1).bind fun r5=>
    bif r5 then
     (Q146.f N).bind fun r6=>
     some r6
    else
    some false
   else
   some false
  else
  some false)=some true:=by
  rw[b1,iA,b2,iA,ct (by simp),ct (by simpa using b3)];dsimp only;rw[Br (by omega) b4,iA,cond_true,hw];rfl
 by_cases h1:a< -20000
 ·rw[ct (decide_eq_true h1)];by_cases h2:a≥ -65536
  ·rw[ct (decide_eq_true h2),hw];rfl
  ·rw[cf (decide_eq_false h2)];exact main
 ·rw[cf (decide_eq_false h1)];exact main
theorem GroupOrders (a:Int)(w:(Lit.int .i64 a).wf=true):∃N,Q147.f N a=some true:=⟨N0,pd gk xb a w⟩
end
end Go.Proofs.YtjpdjdhdchjcgaaGreat.Grp
