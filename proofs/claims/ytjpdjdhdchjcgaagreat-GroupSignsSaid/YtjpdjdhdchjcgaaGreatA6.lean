import Derived.Test.YtjpdjdhdchjcgaaGreatA5
open Option renaming bind_some→iA
open Int renaming toNat_natCast→zA,natCast_zero→pC,natCast_one→a0,tmod_eq_emod_of_nonneg→d1,natCast_mul→j3
open List renaming getD_eq_getElem?_getD→iB,getElem?_eq_getElem→zB,getElem_mem→cD,length_map→aE,take_of_length_le→hE,drop_eq_getElem_cons→zE,take_add_one→hH,take_zero→hI,getElem_of_mem→yK,take_succ_cons→hR,take_append_drop→hT,mem_cons_of_mem→hU,length_append→c0,drop_zero→f0,drop_eq_nil_of_le→i0,getElem_cons_succ→j0,length_cons→l0,length_take→m0,map_append→n0,mem_append_left→o0,reverse_reverse→p0,mem_map_of_mem→s0,mem_singleton→v0,set_cons_zero→w0,mem_cons→v1,reverse_cons→d2,getElem?_eq_some_iff→v2,cons_append→a3,length_eq_zero_iff→d3,length_singleton→t3,mem_range→v3,set_append_right→w3,mem_of_mem_drop→x3,getD_cons_zero→a4,length_reverse→d4,mem_map→f4
open Nat renaming le_of_dvd→xK,le_mul_of_pos_right→sS,min_eq_right→hW,mul_assoc→hX,mul_le_mul_left→iX,min_eq_left→b0,mul_succ→d0,mul_left_comm→g0,mul_comm→q0,le_refl→u0,lt_of_le_of_lt→y0,div_lt_of_lt_mul→z3,mul_one→i4
set_option linter.unusedVariables false
set_option linter.unusedSimpArgs false
namespace Go.Proofs.YtjpdjdhdchjcgaaGreat.Srt
open Go Go.Proofs.YtjpdjdhdchjcgaaGreat.Ev
open Go.Proofs.YtjpdjdhdchjcgaaGreat.Pure (cA gW)
open Go.Proofs.YtjpdjdhdchjcgaaGreat.Grp (zV tD)
theorem ms {N:Nat}(hN:2000010<N){n:Nat}(hn:n≤1000000){a m b:Nat}{f:Nat→R4}(hf:Bd f)(ham:a<m)(hmb:m<b)(hbn:b≤n)(h1:Dn f a m)(h2:Dn f m b):
  ∃f',Q123.f N (a:Int) (m:Int) (b:Int) (F f n)=some (F f' n)∧Mv n f f' a b∧Dn f' a b:=Cn hN hn N a m b f hf ham hmb hbn h1 h2 (by omega)
def Bl (f:Nat→R4)(s n:Nat):Prop:=∀k,Dn f (s*k) (min (s*k+s) n)
theorem I9 {N:Nat}(hN:2000010<N){n:Nat}(hn:n≤1000000){R:Type}(K:Int→Int→Int→List Int→Option R):∀(q t:Nat) (f:Nat→R4),Bd f→20*t≤n→n-20*t<q→(∀k,k<t→Dn f (20*k) (20*k+20))→
  ∃f' t',Q124.l2 N q (n:Int) 20 ((20*t:Nat):Int) ((20*t+20:Nat):Int) (F f n) K=K (n:Int) 20 ((20*t':Nat):Int) (F f' n)∧Mv n f f' 0 n∧20*t'≤n∧n<20*t'+20∧∀k,k<t'→Dn f' (20*k) (20*k+20)
 |0,t,f,_,_,h,_=>by omega
 |q+1,t,f,hf,ht,hq,hd=>by
  rw[Q124.l2];by_cases hle:20*t+20≤n
  ·rw[ct (decide_eq_true (show((20*t+20:Nat):Int)≤(n:Int) by omega))];obtain⟨g,g1,g2,g3⟩:=jy (N:=N) (by omega) (a:=20*t) hle hn (by omega) hf;rw[g1];simp only[iA];have e1:aA (((20*t+20:Nat):Int)+20)=((20*(t+1)+20:Nat):Int):=by rw[cA (by omega) (by omega)];omega
   have e2:((20*t+20:Nat):Int)=((20*(t+1):Nat):Int):=by omega
   rw[e1,e2];obtain⟨f',t',r1,r2,r3⟩:=I9 hN hn K q (t+1) g (g2.bd hf) (by omega) (by omega) (fun k hk=>by
    by_cases e:k=t
    ·subst e;exact g3
    ·exact(hd k (by omega)).same fun i q1 q2=>g2.out i (by omega))
   exact⟨f',t',r1,(g2.mono (by omega) hle).trans r2,r3⟩
  ·rw[cf (decide_eq_false (show ¬((20*t+20:Nat):Int)≤(n:Int) by omega))];exact⟨f,t,rfl,Mv.refl _ _ _ _,ht,by omega,hd⟩
theorem Ia {N:Nat}(hN:2000010<N){n s:Nat}(hn:n≤1000000)(hs:0<s)(hsn:s<n){R:Type}(K:Int→Int→Int→List Int→Option R):∀(q t:Nat) (f:Nat→R4),Bd f→2*s*t≤n→n-2*s*t<q→(∀k,k<t→Dn f (2*s*k) (2*s*k+2*s))→(∀k,2*t≤k→Dn f (s*k) (min (s*k+s) n))→
  ∃f' t',Q124.l9 N q (n:Int) (s:Int) ((2*s*t:Nat):Int) ((2*s*t+2*s:Nat):Int) (F f n) K=K (n:Int) (s:Int) ((2*s*t':Nat):Int) (F f' n)∧Mv n f f' 0 n∧2*s*t'≤n∧n<2*s*t'+2*s∧(∀k,k<t'→Dn f' (2*s*k) (2*s*k+2*s))∧(∀k,2*t'≤k→Dn f' (s*k) (min (s*k+s) n))
 |0,t,f,_,_,h,_,_=>by omega
 |q+1,t,f,hf,ht,hq,hd,hd2=>by
  rw[Q124.l9];have m1:2*s*(t+1)=2*s*t+2*s:=d0 _ _;have m2:s*(2*t)=2*s*t:=by rw[g0,hX]
  have m3:s*(2*t+1)=2*s*t+s:=by rw[d0,m2]
  by_cases hle:2*s*t+2*s≤n
  ·rw[ct (decide_eq_true (show((2*s*t+2*s:Nat):Int)≤(n:Int) by omega)),yV (by omega)];have b1:=hd2 (2*t) (u0 _);have b2:=hd2 (2*t+1) (by omega);rw[m2,b0 (by omega)]at b1;rw[m3,b0 (by omega)]at b2;obtain⟨g,g1,g2,g3⟩:=ms hN hn hf (a:=2*s*t) (m:=2*s*t+s) (b:=2*s*t+2*s) (by omega) (by omega) hle b1 (by rw[show 2*s*t+2*s=2*s*t+s+s by omega];exact b2);rw[g1];simp only[iA];have e0:aA (2*(s:Int))=((2*s:Nat):Int):=by rw[cA (by omega) (by omega)];omega
   have e1:aA (((2*s*t+2*s:Nat):Int)+((2*s:Nat):Int))=((2*s*(t+1)+2*s:Nat):Int):=by rw[yV (by omega),m1]
   rw[e0,e1,show((2*s*t+2*s:Nat):Int)=((2*s*(t+1):Nat):Int) by rw[m1]];obtain⟨f',t',r1,r2,r3⟩:=Ia hN hn hs hsn K q (t+1) g (g2.bd hf) (by omega) (by omega) (fun k hk=>by
    by_cases e:k=t
    ·subst e;exact g3
    ·have:2*s*k+2*s≤2*s*t:=by rw[←d0];exact iX _ (by omega)
     exact(hd k (by omega)).same fun i q1 q2=>g2.out i (by omega))
    (fun k hk=>by
     have:2*s*t+2*s≤s*k:=by have:=iX s (show 2*(t+1)≤k by omega);rw[g0,←hX,m1]at this;exact this
     exact(hd2 k (by omega)).same fun i q1 q2=>g2.out i (by omega))
   exact⟨f',t',r1,(g2.mono (by omega) hle).trans r2,r3⟩
  ·rw[cf (decide_eq_false (show ¬((2*s*t+2*s:Nat):Int)≤(n:Int) by omega))];exact⟨f,t,rfl,Mv.refl _ _ _ _,ht,by omega,hd,hd2⟩
theorem Hy {N:Nat}(hN:2000010<N){n:Nat}(hn:n≤1000000){R:Type}(K:List Int→Option R):∀(q s:Nat) (f:Nat→R4),Bd f→0<s→s≤4000000→n-s<q→Bl f s n→
  ∃f',Q124.l7 N q (n:Int) (s:Int) (F f n) K=K (F f' n)∧Mv n f f' 0 n∧Dn f' 0 n
 |0,s,f,_,_,_,h,_=>by omega
 |q+1,s,f,hf,hs,hs2,hq,hd=>by
  rw[Q124.l7,vF];by_cases hlt:s<n
  ·rw[ct (decide_eq_true hlt)];have e0:aA (2*(s:Int))=((2*s*0+2*s:Nat):Int):=by rw[cA (by omega) (by omega)];omega
   have e3:aA ((s:Int)*2)=((2*s:Nat):Int):=by rw[cA (by omega) (by omega)];omega
   obtain⟨g,t,g1,g2,g3,g4,g5,g6⟩:=Ia hN hn hs hlt (fun y31 y32 y33 y34=>bif decide ((aA (y33+y32))<y31)then(Q123.f N y33 (aA (y33+y32)) y31 y34).bind fun r35=>Q124.l7 N q y31 (aA (y32*2)) r35 K else Q124.l7 N q y31 (aA (y32*2)) y34 K) N 0 f hf (by omega) (by omega) (fun k hk=>by omega) (fun k hk=>hd k);have z:((2*s*0:Nat):Int)=0:=by rw[Nat.mul_zero];rfl
   rw[z]at g1;rw[e0,g1,yV (by omega),vF,e3];have m2:s*(2*t)=2*s*t:=by rw[g0,hX]
   have m3:s*(2*t+1)=2*s*t+s:=by rw[d0,m2]
   have b1:=g6 (2*t) (u0 _);have b2:=g6 (2*t+1) (by omega);rw[m2]at b1;rw[m3]at b2;have fin:∀h:Nat→R4,Mv n g h (2*s*t) n→Dn h (2*s*t) n→Bl h (2*s) n:=fun h h1 h2 k=>by
    rcases Nat.lt_trichotomy k t with hk|hk|hk
    ·have hle:2*s*k+2*s≤2*s*t:=by rw[←d0];exact iX _ (by omega)
     have:=g5 k hk;rw[b0 (by omega)];exact this.same fun i q1 q2=>h1.out i (by omega)
    ·subst hk;rw[hW (by omega)];exact h2
    ·have hle:2*s*t+2*s≤2*s*k:=by rw[←d0];exact iX _ (by omega)
     intro i j q1 q2 q3;omega
   by_cases hc:2*s*t+s<n
   ·rw[ct (decide_eq_true hc)];rw[b0 (by omega)]at b1;rw[hW (by omega)]at b2;obtain⟨h,h1,h2,h3⟩:=ms hN hn (g2.bd hf) (a:=2*s*t) (m:=2*s*t+s) (b:=n) (by omega) hc (u0 _) b1 b2;rw[h1];simp only[iA];obtain⟨f',r1,r2,r3⟩:=Hy hN hn K q (2*s) h (h2.bd (g2.bd hf)) (by omega) (by omega) (by omega) (fin h h2 h3);exact⟨f',r1,(g2.trans (h2.mono (by omega) (by omega))).trans r2,r3⟩
   ·rw[cf (decide_eq_false hc)];rw[hW (by omega)]at b1;obtain⟨f',r1,r2,r3⟩:=Hy hN hn K q (2*s) g (g2.bd hf) (by omega) (by omega) (by omega) (fin g (Mv.refl _ _ _ _) b1);exact⟨f',r1,g2.trans r2,r3⟩
  ·rw[cf (decide_eq_false hlt)];refine⟨f,rfl,Mv.refl _ _ _ _,?_⟩;have:=hd 0;rw[Nat.mul_zero,hW (by omega)]at this;exact this
theorem mn {N:Nat}(hN:2000010<N){n:Nat}(hn:n≤1000000){f:Nat→R4}(hf:Bd f):∃f',Q124.f N (n:Int) (F f n)=some (F f' n)∧Mv n f f' 0 n∧Dn f' 0 n:=by
 unfold Q124.f;obtain⟨g,t,g1,g2,g3,g4,g5⟩:=I9 hN hn (fun y13 y14 y15 y16=>(Q122.f N y15 y13 y16).bind fun r17=>Q124.l7 N N y13 y14 r17 (fun y37=>some y37)) N 0 f hf (by omega) (by omega) (fun k hk=>by omega);have g1':Q124.l2 N N (n:Int) 20 0 20 (F f n) _=_:=g1;rw[g1'];obtain⟨h,h1,h2,h3⟩:=jy (N:=N) (by omega) (a:=20*t) (b:=n) (u0 _) hn (by omega) (g2.bd hf);rw[h1];simp only[iA];obtain⟨f',r1,r2,r3⟩:=Hy hN hn (fun y37=>some y37) N 20 h (h2.bd (g2.bd hf)) (by omega) (by omega) (by omega) (fun k=>by
  rcases Nat.lt_trichotomy k t with hk|hk|hk
  ·rw[b0 (by omega)];exact(g5 k hk).same fun i q1 q2=>h2.out i (by omega)
  ·subst hk;rw[hW (by omega)];exact h3
  ·intro i j q1 q2 q3;omega)
 exact⟨f',r1,(g2.trans (h2.mono (by omega) (by omega))).trans r2,r3⟩
theorem nU {N:Nat}(hN:2000010<N){l:List R4}(hl:l.length≤1000000)(hb:∀x∈l,0≤nn x∧nn x≤1000000):
  ∃l':List R4,Q125.f N (xB l)=some (xB l')∧l'.Perm l∧l'.Pairwise (fun a b=>nn b≤nn a):=by
 have hf:Bd (fun i=>l.getD i (0,0,0,0)):=fun i=>by
  by_cases h:i<l.length
  ·have:l.getD i (0,0,0,0)=l[i]:=by simp[iB,h]
   simp only[this];exact hb _ (cD h)
  ·have:l.getD i (0,0,0,0)=(0,0,0,0):=by simp[iB,List.getElem?_eq_none (Nat.le_of_not_lt h)]
   simp only[this];decide
 obtain⟨f',h1,h2,h3⟩:=mn hN hl hf;have e:F (fun i=>l.getD i (0,0,0,0)) l.length=xB l:=by rw[F,rl]
 have e4:((xB l).length/4:Int)=(l.length:Int):=by rw[uF];omega
 have hp:=h2.perm;rw[rl]at hp;refine⟨tab f' l.length,?_,hp,?_⟩
 ·unfold Q125.f;rw[e4,←e,h1];rfl
 ·unfold tab;rw[List.pairwise_map];refine List.pairwise_lt_range.imp_of_mem fun{a b} ha hb hlt=>?_;exact h3 a b (by omega) (by omega) (v3.mp hb)
theorem lm {N:Nat}{n:Nat}(hn:n≤1000000){R:Type}(K:List Int→Option R):∀(q i j:Nat) (f:Nat→R4),i+j+1=n→i≤j+1→j+1-i<q→
  Q126.l1 N q (i:Int) (j:Int) (F f n) K=K (F (fun k=>if i≤k∧k≤j then f (n-1-k)else f k) n)
 |0,i,j,f,_,_,h=>by omega
 |q+1,i,j,f,h1,h2,hq=>by
  rw[Q126.l1,vF];by_cases hlt:i<j
  ·rw[ct (decide_eq_true hlt),ct (sI f (by omega)),ct (sI f (by omega)),ct (sI f (by omega))];rw[ct (by simp only[List.length_set];exact sI f (by omega))];simp only[zA];rw[iy f (by omega) (by omega),tD (by omega),tK (by omega) (by omega),lm hn K q (i+1) (j-1) _ (by omega) (by omega) (by omega)];have e:(fun k=>if i+1≤k∧k≤j-1 then ck f i j (n-1-k)else ck f i j k)=fun k=>if i≤k∧k≤j then f (n-1-k)else f k:=by
    funext k;simp only[iG]
    repeat' split
    all_goals first|rfl|(exfalso;omega)|(exact absurd trivial (by assumption))|(congr 1;omega)
   rw[e]
  ·rw[cf (decide_eq_false hlt)];have e:(fun k=>if i≤k∧k≤j then f (n-1-k)else f k)=f:=by
    funext k
    repeat' split
    all_goals first|rfl|(exfalso;omega)|(congr 1;omega)
   rw[e]
theorem vN {N:Nat}(hN:1000010<N){l:List R4}(hl:l.length≤1000000):Q126.f N (xB l)=some (xB l.reverse):=by
 unfold Q126.f;have e:F (fun i=>l.getD i (0,0,0,0)) l.length=xB l:=by rw[F,rl]
 have e4:((xB l).length/4:Int)=(l.length:Int):=by rw[uF];omega
 rw[e4];cases hc:l.length with
 |zero=>
  have:l=[]:=d3.mp hc;subst this;have:∃N',N=N'+1:=⟨N-1,by omega⟩
  obtain⟨N',rfl⟩:=this;rfl
 |succ n=>
  have hw:aA (((n+1:Nat):Int)-1)=(n:Int):=by rw[cA (by omega) (by omega)];omega
  rw[hw,←e,hc];have:=lm (N:=N) (n:=n+1) (by omega) (fun y6=>some y6) N 0 n (fun i=>l.getD i (0,0,0,0)) (by omega) (by omega) (by omega);rw[pC]at this;rw[this,F];congr 2;apply List.ext_getElem
  ·rw[zS,d4,hc]
  ·intro k k1 k2;rw[zS]at k1;simp only[tab,List.getElem_map,List.getElem_range,List.getElem_reverse];rw[if_pos (by omega)];simp only[iB];rw[zB (by omega)];simp only[Option.getD_some];congr 1;omega
end Go.Proofs.YtjpdjdhdchjcgaaGreat.Srt
namespace Go.Proofs.YtjpdjdhdchjcgaaGreat.Grp
section
open Go Go.Proofs.YtjpdjdhdchjcgaaGreat.Ev
open Go.Proofs.YtjpdjdhdchjcgaaGreat.Pure (cA)
open Go.Proofs.YtjpdjdhdchjcgaaGreat.Cls (cF pJ nM zJ cH gI)
open Go.Proofs.YtjpdjdhdchjcgaaGreat.Srt (R4 xB oJ uF aK ct cf kG vF tK)
variable {d:Int}
def key (z:K d):List Int:=[z.1.1,z.1.2.1,z.1.2.2]
theorem ff {x y:K d}(h:key x=key y):x=y:=by
 simp only[key,List.cons.injEq,and_true]at h;exact(F1 x y).mp (by rw[h.1,h.2.1,h.2.2];simp)
structure Mp (S:K d→Prop)(W:K d→Int→Prop)(ks:List (List Int))(vs:List Int):Prop where
 nd:ks.Nodup
 len:vs.length=ks.length
 sound:∀i (h:i<ks.length),∃z:K d,ks[i]=key z∧S z∧W z (vs.getD i 0)
 full:∀z,S z→key z∈ks
theorem Mp.congr {S S':K d→Prop}{W W':K d→Int→Prop}{ks:List (List Int)}{vs:List Int}(h:Mp S W ks vs)(hs:∀z,S z↔S' z)(hw:∀z v,W z v→W' z v):Mp S' W' ks vs:=
 ⟨h.nd,h.len,fun i hi=>by obtain⟨z,a,b,c⟩:=h.sound i hi;exact⟨z,a,(hs z).mp b,hw _ _ c⟩,fun z hz=>h.full z ((hs z).mpr hz)⟩
theorem Mp.nil {S:K d→Prop}{W:K d→Int→Prop}(hs:∀z,¬S z):Mp S W [] []:=⟨List.nodup_nil,rfl,fun i h=>by simp at h,fun z hz=>absurd hz (hs z)⟩
theorem fj {l:List Int}{ks:List (List Int)}{j:Nat}(h:vE l ks 0=some j):∃hj:j<ks.length,ks[j]=l:=by
 obtain⟨_,h2⟩:=nM l ks 0 j h;rw[Nat.sub_zero]at h2;exact v2.mp h2
theorem Mp.get {S:K d→Prop}{W:K d→Int→Prop}{ks:List (List Int)}{vs:List Int}(h:Mp S W ks vs)(z:K d):(S z∧W z (qE (key z) ks vs))∨(¬S z∧qE (key z) ks vs=0):=by
 unfold qE;cases hm:vE (key z) ks 0 with
 |none=>exact .inr ⟨fun hs=>pJ _ _ _ hm (h.full z hs),rfl⟩
 |some j=>obtain⟨hj,e⟩:=fj hm;obtain⟨z',a,b,c⟩:=h.sound j hj;have:z=z':=ff (e.symm.trans a);subst this;exact .inl ⟨b,c⟩
theorem Mp.put {S:K d→Prop}{W:K d→Int→Prop}{ks:List (List Int)}{vs:List Int}(h:Mp S W ks vs)(z:K d){v:Int}(hv:W z v):Mp (fun y=>S y∨y=z) W (uB (key z) ks) (bG (key z) v ks vs):=by
 unfold uB cQ bG;cases hm:vE (key z) ks 0 with
 |none=>
  have hn:=pJ _ _ _ hm;simp only[Option.isSome_none,cond_false];refine⟨?_,by simp[h.len],fun i hi=>?_,fun y hy=>?_⟩
  ·rw[List.nodup_append];exact⟨h.nd,by simp,fun a ha b hb=>by simp only[v0]at hb;subst hb;exact fun e=>hn (e▸ha)⟩
  ·simp only[c0,t3]at hi;by_cases hlt:i<ks.length
   ·obtain⟨y,a,b,c⟩:=h.sound i hlt;refine⟨y,by rw[List.getElem_append_left hlt];exact a,.inl b,?_⟩;rw[iB,List.getElem?_append_left (by rw[h.len];exact hlt),←iB];exact c
   ·have:i=ks.length:=by omega
    subst this;refine⟨z,by simp,.inr rfl,?_⟩;rw[iB,List.getElem?_append_right (by rw[h.len];exact u0 _),h.len];simpa using hv
  ·rcases hy with hy|rfl
   ·exact o0 _ (h.full y hy)
   ·simp
 |some j=>
  obtain⟨hj,e⟩:=fj hm;simp only[Option.isSome_some,cond_true];refine⟨h.nd,by simp[h.len],fun i hi=>?_,fun y hy=>?_⟩
  ·obtain⟨y,a,b,c⟩:=h.sound i hi;by_cases hij:j=i
   ·subst hij;have:z=y:=ff (e.symm.trans a);subst this;refine⟨z,a,.inl b,?_⟩;rw[iB,List.getElem?_set_self (by rw[h.len];exact hj)];exact hv
   ·refine⟨y,a,.inl b,?_⟩;rw[iB,List.getElem?_set_ne hij,←iB];exact c
  ·rcases hy with hy|rfl
   ·exact h.full y hy
   ·rw[←e];exact cD hj
theorem Mp.keys {S:K d→Prop}{W:K d→Int→Prop}{ks:List (List Int)}{vs:List Int}(h:Mp S W ks vs){L:List (K d)}(hL:nq L):ks.length≤L.length:=by
 have:=List.Nodup.length_le_of_subset (l₂:=L.map key) h.nd (fun r hr=>by obtain⟨i,hi,rfl⟩:=yK hr;obtain⟨z,a,_⟩:=h.sound i hi;rw[a];exact s0 (hL.all z));simpa using this
theorem tt {k:List Int}{ks:List (List Int)}{vs:List Int}(hl:vs.length=ks.length)(x y:Int):(bG k x ks (List.take (List.length ks) vs)).set ((dE k ks).toNat) y=bG k y ks vs:=by
 rw[hE (by omega)];unfold bG dE;cases hm:vE k ks 0 with
 |none=>simp[←hl]
 |some j=>simp
theorem mo {k:List Int}{ks:List (List Int)}:((decide (0≤(dE k ks)))&&(decide ((dE k ks)<((uB k ks).length:Int))))=true:=by
 unfold dE uB cQ;cases hm:vE k ks 0 with
 |none=>simp;omega
 |some j=>obtain⟨hj,_⟩:=fj hm;simp;omega
def eF (g:K d×Nat):R4:=(g.1.1.1,g.1.1.2.1,g.1.1.2.2,(g.2:Int))
theorem sQ {L:List (K d)}{i:Nat}(h:i<L.length):(yA (L.map (·.1))).getD (i*3) 0=L[i].1.1∧(yA (L.map (·.1))).getD (i*3+1) 0=L[i].1.2.1∧(yA (L.map (·.1))).getD (i*3+2) 0=L[i].1.2.2:=by
 have:=zJ (R:=L.map (·.1)) (i:=i) (by simpa using h);simpa using this
theorem fY {L:List (K d×Nat)}{i:Nat}(h:i<L.length):(xB (L.map eF)).getD (i*4) 0=L[i].1.1.1∧(xB (L.map eF)).getD (i*4+1) 0=L[i].1.1.2.1∧(xB (L.map eF)).getD (i*4+2) 0=L[i].1.1.2.2∧(xB (L.map eF)).getD (i*4+3) 0=(L[i].2:Int):=by
 have:=aK (l:=L.map eF) (i:=i) (by simpa using h);simpa[eF]using this
theorem gE (L:List (K d)):((yA (L.map (·.1))).length/3:Int)=(L.length:Int):=by rw[cH];simp
theorem bH (L:List (K d×Nat)):((xB (L.map eF)).length/4:Int)=(L.length:Int):=by rw[uF];simp
theorem jt (L:List (K d))(z:K d):yA (L.map (·.1))++[z.1.1,z.1.2.1,z.1.2.2]=yA ((L++[z]).map (·.1)):=by rw[n0,eJ];rfl
theorem gY (L:List (K d×Nat))(z:K d×Nat):xB (L.map eF)++[z.1.1.1,z.1.1.2.1,z.1.1.2.2,(z.2:Int)]=xB ((L++[z]).map eF):=by rw[n0,oJ];rfl
theorem C6 {L:List (K d)}(h:L.length≤2900000000000):gB (((yA (L.map (·.1))).length+3)/3) 24=true:=by
 rw[mF];simp only[gB,decide_eq_true_eq,aE];omega
theorem lK {L:List (K d×Nat)}(h:L.length≤2000000000000):gB (((xB (L.map eF)).length+4)/4) 32=true:=by
 rw[uF];simp only[gB,decide_eq_true_eq,aE];omega
theorem cZ {N:Nat}(hN:8589934600<N)(hd:cF d){L:List (K d)}(hL:nq L)(hb:L.length≤45000){size m:Nat}(hs:0<size)(hm:L.length=size*m){R:Type}(x8:List Int)(x10:Int)
  (K0:List Int→Int→Int→Int→Int→List (List Int)→List Int→Option R):∀(q i:Nat) (ks:List (List Int)) (vs:List Int),i≤L.length→L.length-i<q→
   Mp (fun z=>∃j,∃hj:j<L.length,j<i∧z=pw (nC hd) L[j] m) (fun z v=>∃n:Nat,v=n∧qV (nC hd) z n) ks vs→
   ∃ks' vs',Mp (fun z=>∃j,∃hj:j<L.length,z=pw (nC hd) L[j] m) (fun z v=>∃n:Nat,v=n∧qV (nC hd) z n) ks' vs'∧
    Q130.l3 N q x8 (L.length:Int) x10 (size:Int) (yA (L.map (·.1))) (L.length:Int) (i:Int) (one hd).1.1 (one hd).1.2.1 (one hd).1.2.2 ks vs K0=K0 x8 x10 (one hd).1.1 (one hd).1.2.1 (one hd).1.2.2 ks' vs'
 |0,i,ks,vs,_,h,_=>by omega
 |q+1,i,ks,vs,hi,hq,h=>by
  rw[Q130.l3,vF];by_cases hlt:i<L.length
  ·have i1:i+1≤L.length:=hlt;have i2:L.length- (i+1)<q:=by omega
   have i3:i<9223372036854775807:=by omega
   rw[ct (decide_eq_true hlt),gE,ct (kG hlt),ct (jg hs)];obtain⟨e1,e2,e3⟩:=sQ hlt;have hsl:size≤L.length:=by rw[hm];exact sS _ (Nat.pos_of_ne_zero fun e=>by subst e;have:=hL.pos (nC hd);omega)
   have hdiv:L.length/size=m:=by rw[hm,Nat.mul_div_cancel_left _ hs]
   have hml:m≤L.length:=by rw[hm];exact Nat.le_mul_of_pos_left _ hs
   rw[mt,hdiv,zV (by omega)];simp only[zA,e1,e2,e3];rw[gP hN hd _ (by omega) (by omega)];simp only[iA,zA];generalize hz:pw (nC hd) L[i] m=z;have hz1:pw (nC hd) z size=(nC hd).one:=by rw[←hz,←vG,q0,←hm];exact mH hL _
   have step:∀{ks':List (List Int)} {vs':List Int},Mp (fun y=>(∃j,∃hj:j<L.length,j<i∧y=pw (nC hd) L[j] m)∨y=z) (fun z v=>∃n:Nat,v=n∧qV (nC hd) z n) ks' vs'→
     Mp (fun y=>∃j,∃hj:j<L.length,j<i+1∧y=pw (nC hd) L[j] m) (fun z v=>∃n:Nat,v=n∧qV (nC hd) z n) ks' vs':=fun{ks' vs'} hM=>hM.congr (fun y=>by
      constructor
      ·rintro(⟨j,hj,h1,h2⟩|rfl)
       ·exact⟨j,hj,by omega,h2⟩
       ·exact⟨i,hlt,by omega,hz.symm⟩
      ·rintro⟨j,hj,h1,h2⟩;by_cases e:j=i
       ·subst e;exact .inr (h2.trans hz)
       ·exact .inl ⟨j,hj,by omega,h2⟩) (fun _ _ h=>h)
   have hg:=h.get z;unfold key at hg;by_cases h0:qE [z.1.1,z.1.2.1,z.1.2.2] ks vs=0
   ·rw[ct (beq_iff_eq.mpr h0)];obtain⟨n,n1,n2,n3⟩:=aR hN hd z hs (by omega) hz1;rw[n3];simp only[iA];rw[tD i3];exact cZ hN hd hL hb hs hm x8 x10 K0 q (i+1) _ _ i1 i2 (step (h.put z ⟨n,rfl,n1⟩))
   ·rw[cf (beq_eq_false_iff_ne.mpr h0),tD i3];have hS:=(hg.resolve_right fun h1=>h0 h1.2).1;exact cZ hN hd hL hb hs hm x8 x10 K0 q (i+1) _ _ i1 i2 (step (h.congr (fun y=>⟨.inl,fun h=>h.elim id fun e=>e▸hS⟩) (fun _ _ h=>h)))
  ·rw[cf (decide_eq_false hlt)];refine⟨ks,vs,h.congr (fun z=>⟨fun⟨j,hj,_,e⟩=>⟨j,hj,e⟩,fun⟨j,hj,e⟩=>⟨j,hj,by omega,e⟩⟩) (fun _ _ h=>h),rfl⟩
theorem lU {N:Nat}(hd:cF d){L:List (K d)}(hb:L.length≤45000){S:K d→Prop}{ks:List (List Int)}{vs:List Int}(hM:Mp S (fun z v=>∃n:Nat,v=n∧qV (nC hd) z n) ks vs){R:Type}(x36 x40 x41 x42:Int)(K0:Int→Int→Int→Int→List Int→Option R):
  ∀(q i:Nat) (rs:List (K d×Nat)),i≤L.length→L.length-i<q→rs.length≤i→(∀r∈rs,S r.1∧1<r.2∧qV (nC hd) r.1 r.2)→(∀j (hj:j<L.length),j<i→S L[j]→L[j]≠(nC hd).one→∃n,(L[j],n)∈rs)→
   ∃rs':List (K d×Nat),rs'.length≤L.length∧(∀r∈rs',S r.1∧1<r.2∧qV (nC hd) r.1 r.2)∧(∀z∈L,S z→z≠(nC hd).one→∃n,(z,n)∈rs')∧
    Q130.l11 N q x36 (yA (L.map (·.1))) (L.length:Int) (i:Int) x40 x41 x42 ks vs (xB (rs.map eF)) K0=K0 x36 x40 x41 x42 (xB (rs'.map eF))
 |0,i,rs,_,h,_,_,_=>by omega
 |q+1,i,rs,hi,hq,hl,h1,h2=>by
  rw[Q130.l11,vF];by_cases hlt:i<L.length
  ·rw[ct (decide_eq_true hlt),gE,ct (kG hlt)];obtain⟨e1,e2,e3⟩:=sQ hlt;simp only[zA,e1,e2,e3];have hg:=hM.get L[i];unfold key at hg;generalize hv:qE [L[i].1.1,L[i].1.2.1,L[i].1.2.2] ks vs=v at hg;by_cases hc:v>1
   ·rw[ct (decide_eq_true hc),ct (lK (by omega)),tD (by omega)];obtain⟨hS,n,rfl,hO⟩:=hg.resolve_right fun h=>by omega
    rw[gY rs (L[i],n)];refine lU hd hb hM x36 x40 x41 x42 K0 q (i+1) (rs++[(L[i],n)]) (by omega) (by omega) (by simp;omega) (fun r hr=>?_) (fun j hj hji hSj hne=>?_)
    ·simp only[List.mem_append,v0]at hr;rcases hr with hr|rfl
     ·exact h1 r hr
     ·exact⟨hS,by simp only;omega,hO⟩
    ·by_cases e:j=i
     ·subst e;exact⟨n,by simp⟩
     ·obtain⟨k,hk⟩:=h2 j hj (by omega) hSj hne;exact⟨k,o0 _ hk⟩
   ·rw[cf (decide_eq_false hc),tD (by omega)];refine lU hd hb hM x36 x40 x41 x42 K0 q (i+1) rs (by omega) (by omega) (by omega) h1 (fun j hj hji hSj hne=>?_);by_cases e:j=i
    ·subst e;exfalso;obtain⟨_,n,hn,hO⟩:=hg.resolve_right fun h=>h.1 hSj;have:n=1:=by have:=hO.1;omega
     subst this;have:=hO.kill;rw[sH]at this;exact hne this
    ·exact h2 j hj (by omega) hSj hne
  ·rw[cf (decide_eq_false hlt)];refine⟨rs,by omega,h1,fun z hz hS hne=>?_,rfl⟩;obtain⟨j,hj,rfl⟩:=yK hz;exact h2 j hj (by omega) hS hne
end
section
open Go Go.Proofs.YtjpdjdhdchjcgaaGreat.Ev
open Go.Proofs.YtjpdjdhdchjcgaaGreat.Pure (cA)
open Go.Proofs.YtjpdjdhdchjcgaaGreat.Cls (cF gI zJ cH)
open Go.Proofs.YtjpdjdhdchjcgaaGreat.Srt (R4 xB oJ uF aK ct cf kG vF tK)
variable {d:Int}
theorem ug {N:Nat}(hN:8589934600<N)(hd:cF d)(c:K d){n:Nat}(hn:n≤50000)(g:K d){R:Type}(x89 x91 x92:Int)(x93:List Int)(x94:List (List Int))(x95 x107:List Int)(x108:Nat)(x109:List Nat)(x110:Nat)
  (K0:Int→Int→Int→List Int→List (List Int)→List Int→Int→Int→Int→Int→List Int→List Int→Nat→List Nat→Nat→Option R):∀(q k:Nat) (Y:List (K d)),0<k→n-k<q→Y.length≤2500000000+k→
   ∃Y':List (K d),Y'.length=Y.length+(n-k)∧(∀z∈Y',z∈Y∨∃e,e<n∧z=mul hd g (pw (nC hd) c e))∧(∀z∈Y,z∈Y')∧(∀e,k≤e→e<n→mul hd g (pw (nC hd) c e)∈Y')∧
   Q130.l30 N q x89 (k:Int) x91 x92 x93 x94 x95 c.1.1 c.1.2.1 c.1.2.2 (n:Int) (yA (Y.map (·.1))) g.1.1 g.1.2.1 g.1.2.2 (pw (nC hd) c k).1.1 (pw (nC hd) c k).1.2.1 (pw (nC hd) c k).1.2.2 x107 x108 x109 x110 K0
    =K0 x89 x91 x92 x93 x94 x95 c.1.1 c.1.2.1 c.1.2.2 (n:Int) (yA (Y'.map (·.1))) x107 x108 x109 x110
 |0,k,Y,_,h,_=>by omega
 |q+1,k,Y,hk,hq,hY=>by
  rw[Q130.l30,vF];by_cases hlt:k<n
  ·rw[ct (decide_eq_true hlt),qK hN hd g];simp only[iA];rw[ct (C6 (by omega)),qK hN hd (pw (nC hd) c k) c,jt,tD (by omega)];simp only[iA];obtain⟨Y',h1,h2,h3,h4,h5⟩:=ug hN hd c hn g x89 x91 x92 x93 x94 x95 x107 x108 x109 x110 K0 q (k+1) (Y++[mul hd g (pw (nC hd) c k)]) (by omega) (by omega) (by simp;omega);refine⟨Y',by rw[h1];simp;omega,fun z hz=>?_,fun z hz=>h3 z (o0 _ hz),fun e e1 e2=>?_,h5⟩
   ·rcases h2 z hz with h|h
    ·simp only[List.mem_append,v0]at h;rcases h with h|rfl
     ·exact .inl h
     ·exact .inr ⟨k,hlt,rfl⟩
    ·exact .inr h
   ·by_cases e3:e=k
    ·subst e3;exact h3 _ (by simp)
    ·exact h4 e (by omega) e2
  ·rw[cf (decide_eq_false hlt)];exact⟨Y,by omega,fun z hz=>.inl hz,fun z hz=>hz,fun e e1 e2=>by omega,rfl⟩
theorem ko {N:Nat}(hN:8589934600<N)(hd:cF d)(c:K d){n:Nat}(hn:n≤50000){S:K d→Prop}{W:K d→Int→Prop}{ks:List (List Int)}{vs:List Int}(hM:Mp S W ks vs)(hkl:ks.length≤45000){R:Type}(x65 x66 x67:Int)(x68 x76:List Int)(r:R)
  (K0:Int→Int→Int→List Int→List (List Int)→List Int→List Int→List Int→Option R)
  (hK:∀Y:List (K d),Y.length≤2500000000→(∀z∈Y,∃g e,S g∧e<n∧z=mul hd g (pw (nC hd) c e))→(∀g e,S g→1≤e→e<n→mul hd g (pw (nC hd) c e)∈Y)→K0 x65 x66 x67 x68 ks vs (yA (Y.map (·.1))) x76=some r):
  ∀(q:Nat) (rem:List Nat) (Y:List (K d)) (x79:Nat),(∀j∈rem,j<ks.length)→rem.length<q→Y.length+50000*rem.length≤2500000000→(∀z∈Y,∃g e,S g∧e<n∧z=mul hd g (pw (nC hd) c e))→
   (∀g e,S g→1≤e→e<n→mul hd g (pw (nC hd) c e)∈Y∨∃j∈rem,ks.getD j []=key g)→
   Q130.l27 N q x65 x66 x67 x68 ks vs c.1.1 c.1.2.1 c.1.2.2 (n:Int) (yA (Y.map (·.1))) x76 ks.length rem x79 K0=some r
 |0,rem,Y,x79,_,h,_,_,_=>by omega
 |q+1,rem,Y,x79,h1,h2,h3,h4,h5=>by
  rw[Q130.l27];have hb:Nat.beq ks.length ks.length=true:=by simp
  rw[ct hb];cases hr:rem with
  |nil=>subst hr;exact hK Y (by omega) h4 fun g e g1 g2 g3=>(h5 g e g1 g2 g3).resolve_right fun⟨j,hj,_⟩=>by cases hj
  |cons x0 r0=>
   rw[←hr,cf (show rem.isEmpty=false by rw[hr];rfl)];refine gI (by rw[hr];simp) fun p hp=>?_;have hg:rem.getD p 0=rem[p]:=by simp[iB,zB hp]
   have hj:=h1 rem[p] (cD hp);have hblt:Nat.blt rem[p] ks.length=true:=by simpa[Nat.blt_eq]using hj
   obtain⟨g,k1,k2,k3⟩:=hM.sound _ hj;have hkg:ks.getD rem[p] []=key g:=by simp[iB,zB hj,k1]
   have hlen:(rem.eraseIdx p).length+1=rem.length:=by rw[List.length_eraseIdx];simp[hp];omega
   rw[hg,ct (by rw[hb,hblt];rfl),hkg];simp only[key,a4,List.getD_cons_succ];have h1c:pw (nC hd) c 1=c:=sH c;obtain⟨Y',y1,y2,y3,y4,y5⟩:=ug hN hd c hn g x65 x66 x67 x68 ks vs x76 ks.length (rem.eraseIdx p) rem[p] (fun y128 y129 y130 y131 y132 y133 y134 y135 y136 y137 y138 y139 y140 y141 y142=>
      Q130.l27 N q y128 y129 y130 y131 y132 y133 y134 y135 y136 y137 y138 y139 y140 y141 y142 K0) N 1 Y (by omega) (by omega) (by omega)
   rw[h1c]at y5;refine y5.trans ?_;refine ko hN hd c hn hM hkl x65 x66 x67 x68 x76 r K0 hK q _ Y' _ (fun j hj=>h1 j (List.mem_of_mem_eraseIdx hj)) (by omega) (by omega) (fun z hz=>?_) (fun g' e g1 g2 g3=>?_)
   ·rcases y2 z hz with h|⟨e,e1,e2⟩
    ·exact h4 z h
    ·exact⟨g,e,k2,e1,e2⟩
   ·rcases h5 g' e g1 g2 g3 with h|⟨j,j1,j2⟩
    ·exact .inl (y3 _ h)
    ·by_cases he:j=rem[p]
     ·subst he;rw[hkg]at j2;have:g=g':=ff j2;subst this;exact .inl (y4 e g2 g3)
     ·refine .inr ⟨j,?_,j2⟩;have:=(Cls.xX rem p hp).mem_iff (a:=j);simp only[v1]at this;exact(this.mpr j1).resolve_left he
theorem ao {N:Nat}(hd:cF d){Y:List (K d)}(hY:Y.length≤2500000000){S:K d→Prop}{B:Int}(hB0:1≤B)(hB:B≤1000000000000000){R:Type}(x151 x152 x153:Int)(x156 x159:List Int)(K0:Int→Int→Int→List Int→List (List Int)→List Int→List Int→Option R):
  ∀(q i:Nat) (ks:List (List Int)) (vs:List Int),i≤Y.length→Y.length-i<q→Mp (fun z=>S z∨∃j,∃hj:j<Y.length,j<i∧z=Y[j]) (fun _ v=>1≤v∧v≤B+i) ks vs→
   ∃ks' vs',Mp (fun z=>S z∨z∈Y) (fun _ v=>1≤v∧v≤B+Y.length) ks' vs'∧Q130.l36 N q x151 x152 x153 (Y.length:Int) (i:Int) x156 ks vs x159 (yA (Y.map (·.1))) K0=K0 x151 x152 x153 x156 ks' vs' x159
 |0,i,ks,vs,_,h,_=>by omega
 |q+1,i,ks,vs,hi,hq,h=>by
  rw[Q130.l36,vF];by_cases hlt:i<Y.length
  ·have i1:i+1≤Y.length:=hlt;have i2:Y.length- (i+1)<q:=by omega
   have i3:i<9223372036854775807:=by omega
   rw[ct (decide_eq_true hlt),gE,ct (kG hlt)];obtain⟨e1,e2,e3⟩:=sQ hlt;simp only[zA,e1,e2,e3];rw[ct mo,tt h.len,tD i3];have hv:(1:Int)≤aA (qE [Y[i].1.1,Y[i].1.2.1,Y[i].1.2.2] ks vs+1)∧aA (qE [Y[i].1.1,Y[i].1.2.1,Y[i].1.2.2] ks vs+1)≤B+((i+1:Nat):Int):=by rcases h.get Y[i]with⟨_,g1⟩|⟨_,g1⟩<;>unfold key at g1<;>rw[cA (by omega) (by omega)]<;>omega
   have hw:=(h.congr (W':=fun _ v=>1≤v∧v≤B+((i+1:Nat):Int)) (fun _=>Iff.rfl) (fun z v hv=>⟨hv.1,by omega⟩)).put Y[i] (v:=aA (qE [Y[i].1.1,Y[i].1.2.1,Y[i].1.2.2] ks vs+1)) hv;exact ao hd hY hB0 hB x151 x152 x153 x156 x159 K0 q (i+1) _ _ i1 i2 (hw.congr (fun z=>by
    constructor
    ·rintro((h|⟨j,hj,h1,h2⟩)|rfl)
     ·exact .inl h
     ·exact .inr ⟨j,hj,by omega,h2⟩
     ·exact .inr ⟨i,hlt,by omega,rfl⟩
    ·rintro(h|⟨j,hj,h1,h2⟩)
     ·exact .inl (.inl h)
     ·by_cases e:j=i
      ·subst e;exact .inr h2
      ·exact .inl (.inr ⟨j,hj,by omega,h2⟩)) (fun _ _ h=>h))
  ·rw[cf (decide_eq_false hlt)];have:i=Y.length:=by omega
   subst this;refine⟨ks,vs,h.congr (fun z=>?_) (fun _ _ h=>h),rfl⟩;constructor
   ·rintro(h|⟨j,hj,_,rfl⟩)
    ·exact .inl h
    ·exact .inr (cD hj)
   ·rintro(h|h)
    ·exact .inl h
    ·obtain⟨j,hj,rfl⟩:=yK h;exact .inr ⟨j,hj,hj,rfl⟩
theorem fb {N:Nat}(hN:8589934600<N)(hd:cF d){L:List (K d)}(hL:nq L)(hb:L.length≤45000){p:Nat}(hp:1<p){rs:List (K d×Nat)}(hrs:rs.length≤45000)(hO:∀r∈rs,r.2≤50000∧qV (nC hd) r.1 r.2){R:Type}(r:R)(K0:List Int→Option R)
  (hK:K0 (xB ((gr (nC hd) p [] rs).map eF))=some r):∀(q i:Nat) (out:List (K d×Nat)) (ks:List (List Int)) (vs:List Int),i≤rs.length→rs.length-i<q→out.length≤i→gr (nC hd) p out (rs.drop i)=gr (nC hd) p [] rs→
   Mp (fun z=>In (nC hd) out z) (fun _ v=>1≤v∧v≤1+2500000000*(i:Int)) ks vs→Q130.l21 N q (p:Int) (rs.length:Int) (i:Int) (xB (out.map eF)) ks vs (xB (rs.map eF)) K0=some r
 |0,i,out,ks,vs,_,h,_,_,_=>by omega
 |q+1,i,out,ks,vs,hi,hq,ho,hgr,hM=>by
  rw[Q130.l21,vF];by_cases hlt:i<rs.length
  ·have i1:i+1≤rs.length:=hlt;have i2:rs.length- (i+1)<q:=by omega
   have i3:i<9223372036854775807:=by omega
   have ho1:out.length+1≤i+1:=by omega
   rw[ct (decide_eq_true hlt),bH,ct (kG hlt),ct (jg (show 0<p by omega))];obtain⟨e1,e2,e3,e4⟩:=fY hlt;simp only[zA,e1,e2,e3,e4];obtain⟨o1,o2⟩:=hO _ (cD hlt);have o3:=o2.1;rw[zE hlt,gr]at hgr;generalize hc:rs[i]=c at*;have hdv:c.2/p≤50000:=Nat.le_trans (Nat.div_le_self _ _) o1;have hdv2:((c.2/p:Nat):Int)≤((50000:Nat):Int):=Int.ofNat_le.mpr hdv;rw[mt,zV (y0 hdv (by decide)),gP hN hd c.1 (Int.natCast_nonneg _) (Int.lt_of_le_of_lt hdv2 (by decide))];simp only[iA,zA];have hg:=hM.get (pw (nC hd) c.1 (c.2/p));unfold key at hg;by_cases hin:In (nC hd) out (pw (nC hd) c.1 (c.2/p))
   ·have hv:=(hg.resolve_right fun h=>h.1 hin).2.1;rw[ct (decide_eq_true (by omega)),tD i3];rw[if_pos hin]at hgr;exact fb hN hd hL hb hp hrs hO r K0 hK q (i+1) out ks vs i1 i2 (by omega) hgr (hM.congr (fun _=>Iff.rfl) (fun z v hv=>⟨hv.1,by omega⟩))
   ·have hv:=(hg.resolve_left fun h=>hin h.1).2;rw[if_neg hin]at hgr;rw[cf (decide_eq_false (by omega)),ct (lK (by omega)),gY];have hkl:=hM.keys hL;refine ko hN hd c.1 o1 hM (by omega) (p:Int) (rs.length:Int) (i:Int) _ _ r _ (fun Y y1 y2 y3=>?_) N (List.range ks.length) [] ks.length (fun j hj=>v3.mp hj) (by simp;omega) (by simp;omega) (fun z hz=>by cases hz) (fun g e g1 g2 g3=>.inr ?_)
    ·rw[gE];obtain⟨ks',vs',m1,m2⟩:=ao (N:=N) hd y1 (S:=fun z=>In (nC hd) out z) (B:=1+2500000000*(i:Int)) (by omega) (by omega) (p:Int) (rs.length:Int) (i:Int) (xB ((out++[c]).map eF)) (xB (rs.map eF)) (fun y168 y169 y170 y171 y172 y173 y174=>Q130.l21 N q y168 y169 (aA (y170+1)) y171 y172 y173 y174 K0) N 0 ks vs (by omega) (by omega)
      (hM.congr (fun z=>⟨.inl,fun h=>h.elim id fun⟨j,_,hj,_⟩=>by omega⟩) (fun z v hv=>⟨hv.1,by simpa using hv.2⟩))
     rw[pC]at m2;rw[m2,tD i3];refine fb hN hd hL hb hp hrs hO r K0 hK q (i+1) (out++[c]) ks' vs' i1 i2 (by simp;omega) hgr (m1.congr (fun z=>?_) (fun z v hv=>⟨hv.1,by omega⟩));rw[In.app_iff];constructor
     ·rintro(h|h)
      ·exact⟨z,0,h,((nC hd).mul_one z).symm⟩
      ·obtain⟨g,e,g1,g2,g3⟩:=y2 z h;exact⟨g,e,g1,g3⟩
     ·rintro⟨y,e,h1,rfl⟩;rw[←tN o2.kill];rcases Nat.eq_zero_or_pos (e%c.2)with h0|h0
      ·rw[h0];exact .inl (by rw[show pw (nC hd) c.1 0=(nC hd).one from rfl,(nC hd).mul_one];exact h1)
      ·exact .inr (y3 y (e%c.2) h1 h0 (Nat.mod_lt _ o3))
    ·obtain⟨j,hj,hk⟩:=yK (hM.full g g1);exact⟨j,v3.mpr hj,by simp[iB,zB hj,hk]⟩
  ·rw[cf (decide_eq_false hlt)];rw[i0 (by omega),gr]at hgr;rw[hgr];exact hK
end
section
open Go Go.Proofs.YtjpdjdhdchjcgaaGreat.Ev
open Go.Proofs.YtjpdjdhdchjcgaaGreat.Pure (cA)
open Go.Proofs.YtjpdjdhdchjcgaaGreat.Cls (cF gI zJ cH oR)
open Go.Proofs.YtjpdjdhdchjcgaaGreat.Srt (R4 xB oJ uF aK jM ct cf kG vF tK nU vN)
variable {d:Int}
theorem Ca {x y:K d×Nat}(h:eF x=eF y):x=y:=by
 obtain⟨x1,x2⟩:=x;obtain⟨y1,y2⟩:=y;simp only[eF,Prod.mk.injEq]at h;obtain⟨h1,h2,h3,h4⟩:=h;have e1:x1=y1:=(F1 x1 y1).mp (by rw[h1,h2,h3];simp);have e2:x2=y2:=by omega
 rw[e1,e2]
theorem F3 {rs:List (K d×Nat)}:∀l:List R4,(∀x∈l,∃r∈rs,x=eF r)→∃rs':List (K d×Nat),rs'.map eF=l∧∀r∈rs',r∈rs
 | [],_=>⟨[],rfl,fun r h=>by cases h⟩
 |x::l,h=>by
  obtain⟨r,hr,rfl⟩:=h x (by simp);obtain⟨rs',h1,h2⟩:=F3 l (fun y hy=>h y (hU _ hy));refine⟨r::rs',by simp[h1],fun y hy=>?_⟩;rcases v1.mp hy with rfl|hy
  ·exact hr
  ·exact h2 y hy
theorem pa {G:Type}{A:AG G}{p:Nat}:∀(rs out:List (G×Nat)),(gr A p out rs).length≤out.length+rs.length
 | [],out=>by rw[gr];simp
 |c::rs,out=>by
  rw[gr];split
  ·have:=pa (A:=A) (p:=p) rs out;simp only[l0];omega
  ·have:=pa (A:=A) (p:=p) rs (out++[c]);simp only[c0,l0,List.length_nil]at this⊢;omega
theorem xc {N:Nat}(hN:8589934600<N)(hd:cF d){L:List (K d)}(hL:nq L)(hb:L.length≤45000){p a m:Nat}(hp:iE p)(hm:L.length=p^a*m)(hc:Nat.Coprime (p^a) m):
  ∃gs:List (K d×Nat),y7 (nC hd) (p^a) gs∧gs.length≤45000∧Q130.f N (yA (L.map (·.1))) (one hd).1.1 (one hd).1.2.1 (one hd).1.2.2 (L.length:Int) (p:Int) ((p^a:Nat):Int)=some (xB (gs.map eF)):=by
 have hs:0<p^a:=Nat.pow_pos (by have:=hp.1;omega);have hL0:=hL.pos (nC hd);have hm0:0<m:=Nat.pos_of_ne_zero fun e=>by subst e;omega
 have hsl:p^a≤L.length:=by rw[hm];exact sS _ hm0
 unfold Q130.f;rw[gE];obtain⟨ks,vs,hM,e1⟩:=cZ hN hd hL hb hs hm (R:=List Int) (yA (L.map (·.1))) (p:Int) (fun y29 y30 y31 y32 y33 y34 y35=>
   Q130.l11 N N y30 y29 (y29.length/3:Int) 0 y31 y32 y33 y34 y35 []
    (fun y51 y52 y53 y54 y55=>
     (Q125.f N y55).bind fun r56=>
     Q130.l21 N N y51 (r56.length/4:Int) 0 [] (uB [y52,y53,y54] []) (bG [y52,y53,y54] 1 [] []) r56
      (fun y176=>
       some y176))) N 0 [] [] (by omega) (by omega) (Mp.nil fun z ⟨j,_,hj,_⟩=>by omega)
 rw[pC]at e1;rw[e1,gE];have hS:∀z:K d,(∃j,∃hj:j<L.length,z=pw (nC hd) L[j] m)↔pw (nC hd) z (p^a)=(nC hd).one:=fun z=>by
  constructor
  ·rintro⟨j,hj,rfl⟩;rw[←vG,q0,←hm];exact mH hL _
  ·intro hz;obtain⟨u',⟨u,rfl⟩,hu⟩:=Hq hs hm0 hc;obtain⟨j,hj,e⟩:=yK (hL.all (pw (nC hd) z u));refine⟨j,hj,?_⟩;rw[e,←vG,q0 u m,←tN hz,hu,tN hz,sH]
 obtain⟨rs,r1,r2,r3,e2⟩:=lU (N:=N) hd hb (hM.congr hS (fun _ _ h=>h)) (R:=List Int) (p:Int) (one hd).1.1 (one hd).1.2.1 (one hd).1.2.2 (fun y51 y52 y53 y54 y55=>
     (Q125.f N y55).bind fun r56=>
     Q130.l21 N N y51 (r56.length/4:Int) 0 [] (uB [y52,y53,y54] []) (bG [y52,y53,y54] 1 [] []) r56
      (fun y176=>
       some y176)) N 0 [] (by omega) (by omega) (by simp) (fun r hr=>by cases hr) (fun j hj h=>by omega)
 rw[pC]at e2;have hbound:∀r∈rs,r.2≤45000:=fun r hr=>by obtain⟨q1,q2,q3⟩:=r2 r hr;have:=xK hs ((q3.2 _).mp q1);omega
 obtain⟨l',s1,s2,s3⟩:=nU (N:=N) (by omega) (l:=rs.map eF) (by simp;omega) (fun x hx=>by obtain⟨r,hr,rfl⟩:=f4.mp hx;have:=hbound r hr;simp only[Srt.nn,eF];omega);obtain⟨rs',t1,t2⟩:=F3 l' (rs:=rs) (fun x hx=>by obtain⟨r,hr,rfl⟩:=f4.mp (s2.mem_iff.mp hx);exact⟨r,hr,rfl⟩);subst t1;have hlen:rs'.length=rs.length:=by simpa using s2.length_eq
 refine⟨gr (nC hd) p [] rs',jW hL0 (mH hL) hp ?_ (fun r hr=>?_) (fun z hz hzp=>?_),by have:=pa (A:=nC hd) (p:=p) rs' [];simp at this;omega,?_⟩
 ·rw[List.pairwise_map]at s3;refine s3.imp fun{x y} h=>?_;simp only[Srt.nn,eF]at h;omega
 ·obtain⟨q1,q2,q3⟩:=r2 r (t2 r hr);refine⟨fun e=>?_,q1,q3⟩;have:qV (nC hd) r.1 1:=⟨by omega,fun k=>⟨fun _=>Nat.one_dvd _,fun _=>by rw[e,jI]⟩⟩
  have:=q3.uniq this;omega
 ·obtain⟨n,hn⟩:=r3 z (hL.all z) hzp hz;have:eF (z,n)∈rs'.map eF:=s2.mem_iff.mpr (s0 hn);obtain⟨r,hr,e⟩:=f4.mp this;exact⟨n,Ca e▸hr⟩
 ·refine e2.trans ?_;rw[s1];simp only[iA];rw[bH];have hM1:Mp (fun z=>In (nC hd) [] z) (fun _ v=>1≤v∧v≤1+2500000000*((0:Nat):Int)) (uB [(one hd).1.1,(one hd).1.2.1,(one hd).1.2.2] []) (bG [(one hd).1.1,(one hd).1.2.1,(one hd).1.2.2] 1 [] []):=
   ((Mp.nil (S:=fun _:K d=>False) (W:=fun _ v=>1≤v∧v≤1+2500000000*((0:Nat):Int)) (fun _ h=>h)).put (one hd) (v:=1) ⟨by omega,by omega⟩).congr (fun z=>by
    constructor
    ·rintro(h|rfl)
     ·exact h.elim
     ·exact In.one _
    ·rintro⟨es,_,rfl⟩;exact .inr (fF es)) (fun _ _ h=>h)
  have:=fb hN hd hL hb hp.1 (rs:=rs') (by omega) (fun r hr=>⟨by have:=hbound r (t2 r hr);omega,(r2 r (t2 r hr)).2.2⟩) (xB ((gr (nC hd) p [] rs').map eF)) (fun y176=>some y176) rfl N 0 [] _ _ (by omega) (by omega) (by simp) (by rw[f0]) hM1;rw[pC]at this;exact this
theorem vo {G:Type}{A:AG G}:∀(os ps:List (G×Nat)) (i:Nat) (h:i<ps.length),
  (∃ho:i<os.length,zm A os (ps.take (i+1))=(zm A os (ps.take i)).set i (A.mul os[i].1 ps[i].1,os[i].2*ps[i].2)∧∃hz:i<(zm A os (ps.take i)).length,(zm A os (ps.take i))[i]=os[i])∨
  (os.length≤i∧zm A os (ps.take (i+1))=zm A os (ps.take i)++[ps[i]]∧(zm A os (ps.take i)).length=i)
 | [],ps,i,h=>.inr ⟨by simp,by simp only[zm];rw[hH,zB h];rfl,by simp[zm];omega⟩
 |o::os,c::ps,0,h=>.inl ⟨by simp,by simp only[hR,hI,zm,w0,List.getElem_cons_zero];cases os<;>rfl,by simp[zm],rfl⟩
 |o::os,c::ps,i+1,h=>by
  have h':i<ps.length:=by simpa using h
  rcases vo os ps i h' with⟨ho,h1,hz,h2⟩|⟨ho,h1,h2⟩
  ·refine .inl ⟨by simpa using ho,?_,?_,?_⟩
   ·simp only[hR,zm,List.set_cons_succ,j0];rw[h1]
   ·simpa[zm]using hz
   ·simp only[hR,zm,j0];exact h2
  ·refine .inr ⟨by simpa using ho,?_,?_⟩
   ·simp only[hR,zm,a3,j0];rw[h1]
   ·simp only[hR,zm,l0];rw[h2]
 |_::_,[],i,h=>by simp at h
theorem A9 (X:List (K d×Nat)){i:Nat}(y:K d×Nat):((((xB (X.map eF)).set (i*4) y.1.1.1).set (i*4+1) y.1.1.2.1).set (i*4+2) y.1.1.2.2).set (i*4+3) (y.2:Int)=xB ((X.set i y).map eF):=by
 have:=jM (X.map eF) i (eF y);rw[←List.map_set]at this;exact this
theorem iq {N:Nat}(hN:8589934600<N)(hd:cF d){os ps:List (K d×Nat)}(ho:os.length≤45000)(hp:ps.length≤45000)(hb:∀o∈os,∀c∈ps,o.2*c.2≤45000)(hb2:∀c∈ps,c.2≤45000){R:Type}(x53 x55 x56:Int)(x54 x59:List Int)(K0:Int→List Int→Int→Int→List Int→Int→Int→Int→List Int→Option R):
  ∀(q i:Nat),i≤ps.length→ps.length-i<q→Q131.l17 N q x53 x54 x55 x56 (ps.length:Int) (i:Int) x59 (one hd).1.1 (one hd).1.2.1 (one hd).1.2.2 (xB ((zm (nC hd) os (ps.take i)).map eF)) (xB (ps.map eF)) K0=K0 x53 x54 x55 x56 x59 (one hd).1.1 (one hd).1.2.1 (one hd).1.2.2 (xB ((zm (nC hd) os ps).map eF))
 |0,i,_,h=>by omega
 |q+1,i,hi,hq=>by
  rw[Q131.l17,vF];by_cases hlt:i<ps.length
  ·obtain⟨c1,c2,c3,c4⟩:=fY hlt;have hps:=cD hlt;rw[ct (decide_eq_true hlt),bH,ct (kG hlt),bH];rcases vo (A:=nC hd) os ps i hlt with⟨hio,h1,hz,h2⟩|⟨hio,h1,h2⟩
   ·have hmul:=hb _ (cD hio) _ hps;obtain⟨b1,b2,b3,b4⟩:=fY hz;rw[h2]at b1 b2 b3 b4;rw[cf (beq_eq_false_iff_ne.mpr (by omega)),ct (kG hz)];simp only[zA,c1,c2,c3,c4,b1,b2,b3,b4];rw[qK hN hd os[i].1 ps[i].1];simp only[iA];rw[ct (kG hz),ct (kG hz),←j3,zV (by omega),tD (by omega)];have:=A9 (zm (nC hd) os (ps.take i)) (i:=i) (mul hd os[i].1 ps[i].1,os[i].2*ps[i].2);simp only at this;rw[this];have h1':(zm (nC hd) os (ps.take i)).set i (mul hd os[i].1 ps[i].1,os[i].2*ps[i].2)=zm (nC hd) os (ps.take (i+1)):=h1.symm;rw[h1'];exact iq hN hd ho hp hb hb2 x53 x55 x56 x54 x59 K0 q (i+1) (by omega) (by omega)
   ·have hlen1:(zm (nC hd) os (ps.take i)++[(one hd,1)]).length=i+1:=by simp[h2]
    have hz:i<(zm (nC hd) os (ps.take i)++[(one hd,1)]).length:=by omega
    have hzi:(zm (nC hd) os (ps.take i)++[(one hd,1)])[i]=(one hd,1):=by rw[List.getElem_append_right (by omega)];simp[h2]
    obtain⟨b1,b2,b3,b4⟩:=fY hz;rw[hzi]at b1 b2 b3 b4;have hsn:=gY (zm (nC hd) os (ps.take i)) (one hd,1);simp only[a0]at hsn b1 b2 b3 b4;rw[ct (beq_iff_eq.mpr (by omega)),ct (lK (by omega)),hsn,bH,ct (kG hz)];simp only[zA,c1,c2,c3,c4,b1,b2,b3,b4];rw[qK hN hd (one hd) ps[i].1];simp only[iA];have hb':=hb2 _ hps;rw[ct (kG hz),ct (kG hz),Int.one_mul,zV (by omega),tD (by omega)];have:=A9 (zm (nC hd) os (ps.take i)++[(one hd,1)]) (i:=i) (mul hd (one hd) ps[i].1,ps[i].2);simp only at this;rw[this];have h1':(zm (nC hd) os (ps.take i)++[(one hd,1)]).set i (mul hd (one hd) ps[i].1,ps[i].2)=zm (nC hd) os (ps.take (i+1)):=by rw[h1,w3 _ _ (by omega),h2,Nat.sub_self,w0];have:mul hd (one hd) ps[i].1=ps[i].1:=(nC hd).one_mul _;rw[this]
    rw[h1'];exact iq hN hd ho hp hb hb2 x53 x55 x56 x54 x59 K0 q (i+1) (by omega) (by omega)
  ·rw[cf (decide_eq_false hlt),hE (by omega)]
end
section
open Go Go.Proofs.YtjpdjdhdchjcgaaGreat.Ev
open Go.Proofs.YtjpdjdhdchjcgaaGreat.Pure (cA)
open Go.Proofs.YtjpdjdhdchjcgaaGreat.Cls (cF gI zJ cH oR uK)
open Go.Proofs.YtjpdjdhdchjcgaaGreat.Srt (R4 xB oJ uF aK jM ct cf kG vF tK nU vN)
variable {d:Int}
theorem bm (N:Nat){p a:Nat}(hp:0<p)(hpa:p^a≤1000000){R:Type}(x14 x17 x18 x22 x23 x24 x27:Int)(x16 x21 x25:List Int)(K0:Int→Int→List Int→Int→Int→List Int→Int→Int→Int→List Int→Int→Int→Option R):
  ∀(q i:Nat),i≤a→a-i<q→a<1000000→Q131.l13 N q x14 ((p^i:Nat):Int) x16 x17 x18 (a:Int) (i:Int) x21 x22 x23 x24 x25 (p:Int) x27 K0=K0 x14 ((p^a:Nat):Int) x16 x17 x18 x21 x22 x23 x24 x25 (p:Int) x27
 |0,i,_,h,_=>by omega
 |q+1,i,hi,hq,ha=>by
  rw[Q131.l13,vF];by_cases hlt:i<a
  ·have hle:p^(i+1)≤p^a:=Nat.pow_le_pow_right hp hlt;have e:((p^i:Nat):Int)*(p:Int)=((p^(i+1):Nat):Int):=by rw[Nat.pow_succ,j3]
   rw[ct (decide_eq_true hlt),e,zV (by omega),tD (by omega)];exact bm N hp hpa x14 x17 x18 x22 x23 x24 x27 x16 x21 x25 K0 q (i+1) (by omega) (by omega) ha
  ·have:i=a:=by omega
   subst this;rw[cf (decide_eq_false hlt)]
theorem qi {l:PL}{i:Nat}(h:i<l.length):rE (l.take (i+1))=rE (l.take i)*l[i].1^l[i].2:=by
 rw[hH,zB h,qM];simp[rE]
theorem xd {l:PL}(h:∀x∈l,iE x.1∧0<x.2):0<rE l:=by have:=rM h;omega
theorem Dk {p q:Nat}(h:Nat.Coprime p q)(a:Nat):Nat.Coprime (p^a) q:=Nat.Coprime.pow_left a h
theorem ay {p:Nat}(hp:iE p){l:PL}(hl:∀x∈l,iE x.1∧0<x.2)(hne:∀x∈l,x.1≠p)(a:Nat):Nat.Coprime (p^a) (rE l):=by
 refine Dk (Nat.Coprime.symm (hp.cop fun hd=>?_)) a;obtain⟨x,h1,h2⟩:=hp.in_prod hl hd;exact hne x h1 h2
theorem y7.short {G:Type}{A:AG G}{s:Nat}{gs:List (G×Nat)}(h:y7 A s gs){L:List G}(hL:nq L)(hs:s∣L.length):∀g∈gs,g.2≤L.length:=fun g hg=>
 xK (hL.pos A) (Nat.dvd_trans (h.big g hg).2 hs)
theorem oZ {N:Nat}(hN:8589934600<N)(hd:cF d){L:List (K d)}(hL:nq L)(hb:L.length≤45000){l:PL}(hl:Fz L.length l){R:Type}(K0:List Int→Option R):∀(q i:Nat) (out:List (K d×Nat)),i≤l.length→l.length-i<q→y7 (nC hd) (rE (l.take i)) out→out.length≤45000→
   ∃gs:List (K d×Nat),y7 (nC hd) L.length gs∧gs.length≤45000∧Q131.l9 N q (L.length:Int) (tV l) (l.length:Int) (i:Int) (yA (L.map (·.1))) (one hd).1.1 (one hd).1.2.1 (one hd).1.2.2 (xB (out.map eF)) K0=K0 (xB (gs.map eF))
 |0,i,out,_,h,_,_=>by omega
 |q+1,i,out,hi,hq,hG,ho=>by
  have hll:=rM hl.pr;rw[hl.prod]at hll;rw[Q131.l9,vF];by_cases hlt:i<l.length
  ·obtain⟨e1,e2⟩:=oy hlt;obtain⟨hp,ha⟩:=hl.pr _ (cD hlt);rw[ct (decide_eq_true hlt),wR,ct (kG hlt)];simp only[zA,e1,e2];have hsplit:l=l.take i++l[i]::l.drop (i+1):=by rw[←zE hlt,hT]
   have hup:=hl.up;rw[hsplit,List.pairwise_append,List.pairwise_cons]at hup;obtain⟨u1,⟨u2,u3⟩,u4⟩:=hup;have pr1:∀x∈l.take i,iE x.1∧0<x.2:=fun x hx=>hl.pr x (List.mem_of_mem_take hx);have pr2:∀x∈l.drop (i+1),iE x.1∧0<x.2:=fun x hx=>hl.pr x (x3 hx);have hprod:L.length=rE (l.take i)*(l[i].1^l[i].2*rE (l.drop (i+1))):=by have:=hl.prod;rw[hsplit,qM]at this;exact this.symm
   have c1:=ay hp pr1 (fun x hx=>by have:=u4 x hx l[i] List.mem_cons_self;omega) l[i].2;have c2:=ay hp pr2 (fun x hx=>by have:=u2 x hx;omega) l[i].2;generalize hpp:l[i].1=p at*;generalize haa:l[i].2=a at*;have hQ:=xd pr1;have hm:L.length=p^a*(rE (l.take i)*rE (l.drop (i+1))):=by rw[hprod,g0]
   have hs0:0<p^a:=Nat.pow_pos (by have:=hp.1;omega);have hsle:p^a≤L.length:=xK (hL.pos (nC hd)) ⟨_,hm⟩;have hale:a<1000000:=by have:=uu (j:=a) hp.1;omega
   have h1:=bm N (show 0<p by have:=hp.1;omega) (show p^a≤1000000 by omega) (L.length:Int) (l.length:Int) (i:Int) (one hd).1.1 (one hd).1.2.1 (one hd).1.2.2 (a:Int) (tV l) (yA (L.map (·.1))) (xB (out.map eF)) (fun y40 y41 y42 y43 y44 y45 y46 y47 y48 y49 y50 y51=>
      (Q130.f N y45 y46 y47 y48 y40 y50 y41).bind fun r52=>
      Q131.l17 N N y40 y42 y43 y44 (r52.length/4:Int) 0 y45 y46 y47 y48 y49 r52
       (fun y76 y77 y78 y79 y80 y81 y82 y83 y84=>
        Q131.l9 N q y76 y77 y78 (aA (y79+1)) y80 y81 y82 y83 y84 K0)) N 0 (by omega) (by omega) hale
   rw[Nat.pow_zero,pC,a0]at h1;obtain⟨gs,g1,g2,g3⟩:=xc hN hd hL hb hp hm (Nat.Coprime.mul_right c1 c2);rw[h1,g3];simp only[iA];rw[bH];have dQ:rE (l.take i)∣L.length:=⟨_,hprod⟩
   have hG2:=hG.zm hQ hs0 (Nat.Coprime.symm c1) g1;have dQs:rE (l.take i)*p^a∣L.length:=⟨rE (l.drop (i+1)),by rw[hprod,hX]⟩
   have h2:=iq hN hd (os:=out) (ps:=gs) ho g2 (fun o hoo c hcc=>by
     have:=xK (hL.pos (nC hd)) (Nat.dvd_trans (Nat.mul_dvd_mul (hG.big o hoo).2 (g1.big c hcc).2) dQs);omega) (fun c hcc=>by have:=g1.short hL ⟨_,hm⟩ c hcc;omega) (L.length:Int) (l.length:Int) (i:Int) (tV l) (yA (L.map (·.1))) (fun y76 y77 y78 y79 y80 y81 y82 y83 y84=>
        Q131.l9 N q y76 y77 y78 (aA (y79+1)) y80 y81 y82 y83 y84 K0) N 0 (by omega) (by omega)
   have z0:zm (nC hd) out (gs.take 0)=out:=by rw[hI];cases out<;>rfl
   rw[pC,z0]at h2;rw[h2,tD (by omega)];refine oZ hN hd hL hb hl K0 q (i+1) _ (by omega) (by omega) ?_ (by rw[ip];omega);rw[qi hlt,hpp,haa];exact hG2
  ·rw[cf (decide_eq_false hlt)];rw[hE (by omega),hl.prod]at hG;exact⟨out,hG,ho,rfl⟩
structure Pt (hd:cF d)(L:List (K d))(gs:List (K d×Nat)):Prop where
 fin:nq L
 len:L.length≤45000
 glen:gs.length≤45000
 gen:y7 (nC hd) L.length gs.reverse
theorem jK {N:Nat}(hN:8589934600<N)(hd:cF d):∃(L:List (K d)) (gs:List (K d×Nat)),Pt hd L gs∧Cls.Cl d (L.map (·.1))∧Q114.f N d=some (yA (L.map (·.1)),0)∧Q115.f N d=some ((L.length:Int),0)∧Q111.f N d=some (yA (L.map (·.1)))∧
  Q131.f N d=some (xB (gs.map eF),0):=by
 obtain⟨R,h1,h2,h3,h4,h5⟩:=oR (N:=N) (by omega) hd;obtain⟨L,rfl,hL⟩:=Gv h1;have hb:L.length≤45000:=by simpa using h1.len
 have hL0:=hL.pos (nC hd);have hn:Q115.f N d=some ((L.length:Int),0):=by rw[h5];simp
 obtain⟨l,hl,hf⟩:=tU (N:=N) (by omega) hL0 (by omega);have hll:=rM hl.pr;rw[hl.prod]at hll;obtain⟨gs,g1,g2,g3⟩:=oZ hN hd hL hb hl (fun y86=>(Q126.f N y86).bind fun r87=>some (r87,(0:Int))) N 0 [] (by omega) (by omega) (by rw[hI];exact Dp) (by simp);rw[pC]at g3;refine⟨L,gs.reverse,⟨hL,hb,by simpa using g2,by rw[p0];exact g1⟩,h1,h4,hn,h3,?_⟩;unfold Q131.f;rw[h4];simp only[iA];rw[cf (by rfl),sJ N hd];simp only[iA];rw[gE,hf];simp only[iA];rw[wR];refine g3.trans ?_;rw[vN (by omega) (by simpa using by omega),List.map_reverse];rfl
theorem mq (N:Nat){gs:List (K d×Nat)}(hg:gs.length≤45000){R:Type}(K0:List Int→List Int→Option R):∀(q i:Nat),i≤gs.length→gs.length-i<q→
  Q132.l5 N q (xB (gs.map eF)) (gs.length:Int) (i:Int) (yA ((gs.take i).map (·.1.1))) ((gs.take i).map fun g=>(g.2:Int)) K0=K0 (yA (gs.map (·.1.1))) (gs.map fun g=>(g.2:Int))
 |0,i,_,h=>by omega
 |q+1,i,hi,hq=>by
  rw[Q132.l5,vF];by_cases hlt:i<gs.length
  ·obtain⟨e1,e2,e3,e4⟩:=fY hlt;have r1:gB (((yA ((gs.take i).map (·.1.1))).length+3)/3) 24=true:=by
    rw[mF];simp only[gB,decide_eq_true_eq,aE,m0];omega
   have r2:gB (((gs.take i).map fun g=>(g.2:Int)).length+1) 8=true:=by simp only[gB,decide_eq_true_eq,aE,m0];omega
   rw[ct (decide_eq_true hlt),bH,ct (kG hlt),ct r1,ct r2,tD (by omega)];simp only[zA,e1,e2,e3,e4];have t1:yA ((gs.take i).map (·.1.1))++[gs[i].1.1.1,gs[i].1.1.2.1,gs[i].1.1.2.2]=yA ((gs.take (i+1)).map (·.1.1)):=by rw[hH,zB hlt,n0,eJ];rfl
   have t2:((gs.take i).map fun g=>(g.2:Int))++[(gs[i].2:Int)]=(gs.take (i+1)).map fun g=>(g.2:Int):=by rw[hH,zB hlt,n0];rfl
   rw[t1,t2];exact mq N hg K0 q (i+1) (by omega) (by omega)
  ·rw[cf (decide_eq_false hlt),hE (by omega)]
theorem oK {N:Nat}(hN:8589934600<N){gs:List (K d×Nat)}(hg:gs.length≤45000)(h:Q131.f N d=some (xB (gs.map eF),0)):
  Q132.f N d=some (yA (gs.map (·.1.1)),gs.map fun g=>(g.2:Int),0):=by
 unfold Q132.f;rw[h];simp only[iA];rw[cf (by rfl),bH];have:=mq N hg (fun y10 y11=>some (y10,y11,(0:Int))) N 0 (by omega) (by omega);rw[hI,pC]at this;exact this
end
section
open Go Go.Proofs.YtjpdjdhdchjcgaaGreat.Ev
open Go.Proofs.YtjpdjdhdchjcgaaGreat.Pure (cA bW yH s7 La Pr Oo qJ wW lD kH mN kK cU oQ rv)
open Go.Proofs.YtjpdjdhdchjcgaaGreat.Cls (cF Rd wJ gI zJ cH oR uK js qT lJ)
open Go.Proofs.YtjpdjdhdchjcgaaGreat.Srt (R4 xB ct cf kG vF)
variable {d:Int}
theorem xg (N:Nat)(hd:cF d):Q89.f N d=some ((one hd).1.1,(one hd).1.2.1,(one hd).1.2.2,0):=by
 obtain⟨a,b,c,e,h1,h2,_⟩:=cU N d;rw[sJ N hd]at h1;rw[h2,←h1]
theorem qu {N:Nat}(hN:8589934600<N)(hd:cF d)(x y:K d):Q96.f N x.1.1 x.1.2.1 x.1.2.2 y.1.1 y.1.2.1 y.1.2.2=some (mul hd x y).1:=by
 obtain⟨a,b,c,e,h⟩:=oQ hN (gF hd).neg (gS hd) (x.red hd) (y.red hd);obtain⟨z,hz,h⟩:=gL h;have:z=mul hd x y:=eO hd (h.symm.trans (gF hd).m (oH hd x y));subst this;rw[e,hz]
theorem oo (N:Nat)(hd:cF d)(x:K d):Q47.f N x.1.1 x.1.2.1 x.1.2.2=some d∧Q69.f N x.1.1 x.1.2.1 x.1.2.2=some d:=by
 have:=qT N (x.val hd).fine;rwa[x.2.1.eq]at this
theorem F9 {N:Nat}(hN:8589934600<N)(hd:cF d)(x:K d){n:Nat}(ho:qV (nC hd) x n)(hn:n≤50000){R:Type}(K0:Int→Option R):∀(q k:Nat),0<k→k≤n→n-k<q→
  Q138.l4 N q (k:Int) x.1.1 x.1.2.1 x.1.2.2 (one hd).1.1 (one hd).1.2.1 (one hd).1.2.2 (pw (nC hd) x k).1.1 (pw (nC hd) x k).1.2.1 (pw (nC hd) x k).1.2.2 K0=K0 (n:Int)
 |0,k,_,_,h=>by omega
 |q+1,k,hk,hkn,hq=>by
  rw[Q138.l4];by_cases he:pw (nC hd) x k=one hd
  ·have:=xK hk ((ho.2 k).mp he);have:k=n:=by omega
   subst this;rw[cf (by rw[(F1 _ _).mpr he];rfl)]
  ·have h1:((pw (nC hd) x k).1.1==(one hd).1.1&&((pw (nC hd) x k).1.2.1==(one hd).1.2.1&&(pw (nC hd) x k).1.2.2==(one hd).1.2.2))=false:=Bool.eq_false_iff.mpr fun e=>he ((F1 _ _).mp e);have hlt:k<n:=by
    rcases Nat.lt_or_ge k n with h|h
    ·exact h
    ·have:k=n:=by omega
     subst this;exact absurd ho.kill he
   rw[ct (by rw[h1];rfl),qu hN hd];simp only[iA];rw[tD (by omega)];exact F9 hN hd x ho hn K0 q (k+1) (by omega) hlt (by omega)
theorem ls {N:Nat}(hN:8589934600<N)(hd:cF d)(x:K d){n:Nat}(ho:qV (nC hd) x n)(hn:n≤50000):Q138.f N x.1.1 x.1.2.1 x.1.2.2=some (n:Int):=by
 unfold Q138.f;rw[(oo N hd x).2];simp only[iA];rw[xg N hd];simp only[iA];have:=F9 hN hd x ho hn (fun y18=>some y18) N 1 (by omega) ho.1 (by have:=ho.1;omega);rw[show pw (nC hd) x 1=x from sH x,a0]at this;exact this
theorem rY {N:Nat}(hN:8589934600<N)(hd:cF d){a b c:Int}(h:bW d a b c){z:K d}(hz:yj d (La d a b) (Lc z)):Q87.f N a b c=some ((inv hd z).1.1,(inv hd z).1.2.1,(inv hd z).1.2.2,0):=by
 obtain⟨x,y,w,e,h1,h2⟩:=kH hN h;have dm:=(gF hd).m
 let k:K d:=⟨(x,y,w),C4 h1⟩
 have h3:mul hd k z=one hd:=by refine eO hd ((oH hd k z).symm.trans dm ((Mod.Hm.comm (Lc k) (Lc z)).trans dm ?_));exact((hz.symm.left (Lc k)).trans dm h2).trans dm (zQ hd)
 have h4:k=inv hd z:=(nC hd).inv_of h3;rw[e,←h4]
theorem Ds (hd:cF d)(z:K d):inv hd (inv hd z)=z:=((nC hd).inv_of (x:=z) (y:=inv hd z) (by rw[(nC hd).comm];exact(nC hd).inv_mul z)).symm
theorem nw {N:Nat}(hN:8589934600<N)(a b c:Int):
  (∃e,e≠0∧(∃x y z n,Q133.f N a b c=some (x,y,z,n,e))∧∃x y z,Q140.f N a b c=some (x,y,z,e))∨
  (∃(d:Int) (hd:cF d) (z:K d) (L:List (K d)),bW d a b c∧nq L∧L.length≤45000∧Q47.f N a b c=some d∧Q133.f N a b c=some (z.1.1,z.1.2.1,z.1.2.2,(L.length:Int),0)∧Q140.f N a b c=some (z.1.1,z.1.2.1,z.1.2.2,0)∧yj d (La d a b) (Lc z)):=by
 obtain⟨x,y,z,e,i1,i2⟩:=mN hN a b c;by_cases he:e=0
 ·subst he;have hv:qJ a b c∧wW a b c:=by
   obtain⟨x',y',z',e',p1,p2,p3⟩:=kK hN a b c;by_cases he':e'=0
   ·exact p3 he'
   ·exfalso;unfold Q87.f at i1;rw[p1]at i1;simp only[iA]at i1;rw[ct (bne_iff_ne.mpr he')]at i1;simp only[Option.some.injEq,Prod.mk.injEq]at i1;exact he' i1.2.2.2
  have hV:=rv hv.1 hv.2;obtain⟨hD,hD2⟩:=qT N hv.1;generalize hdd:b*b-4*a*c=d at*;have hneg:=hV.d.1;by_cases hb: -65536≤d
  ·have hd:cF d:=by rw[←hdd]at hb⊢;exact js hv.1 hb
   obtain⟨a',b',c',r1,r2,r3,p,q,r,u,r4⟩:=lD hN hV;obtain⟨k,hk,hcl⟩:=gL r2;obtain⟨k1,k2,k3⟩:=Aj hk;obtain⟨L,gs,hP,_,_,hn,_,_⟩:=jK hN hd;have j1:=rY hN hd hV hcl;rw[i1]at j1;simp only[Option.some.injEq,Prod.mk.injEq]at j1;refine .inr ⟨d,hd,k,L,hV,hP.fin,hP.len,hD,?_,?_,hcl⟩
   ·unfold Q133.f;rw[i1];simp only[iA];rw[cf (by rfl),hD];simp only[iA];rw[hn];simp only[iA];rw[cf (by rfl),r4,k1,k2,k3];rfl
   ·unfold Q140.f;rw[i2];simp only[iA];rw[cf (by rfl),hD2];simp only[iA];rw[cf (decide_eq_false (by omega))];obtain⟨x2,y2,z2,e2,m1,m2⟩:=mN hN x y z;have j2:=rY hN hd ((inv hd k).val hd) (z:=inv hd k) (Mod.Hm.refl _ _ _);rw[Ds,←j1.1,←j1.2.1,←j1.2.2.1,m1]at j2;rw[m2,j2];rfl
  ·refine .inl ⟨80,by decide,⟨0,0,0,0,?_⟩,0,0,0,?_⟩
   ·have hnl:¬cF d:=fun h=>hb h.1;unfold Q133.f;rw[i1];simp only[iA];rw[cf (by rfl),hD];simp only[iA];rw[(uK (by have:=hV.d.2;omega) (by omega) hnl).2.1];rfl
   ·unfold Q140.f;rw[i2];simp only[iA];rw[cf (by rfl),hD2];simp only[iA];rw[ct (decide_eq_true (by omega))]
 ·refine .inl ⟨e,he,⟨0,0,0,0,?_⟩,x,y,z,?_⟩
  ·unfold Q133.f;rw[i1];simp only[iA];rw[ct (bne_iff_ne.mpr he)]
  ·unfold Q140.f;rw[i2];simp only[iA];rw[ct (bne_iff_ne.mpr he)]
theorem ns {N:Nat}(hN:8589934600<N)(a b c:Int):∃n e,Q134.f N a b c=some (n,e)∧Q141.f N a b c=some (n,e):=by
 unfold Q134.f Q141.f;rcases nw hN a b c with⟨e,he,⟨x,y,z,n,h1⟩,x',y',z',h2⟩|⟨d,hd,z,L,hV,hL,hb,hD,h1,h2,hcl⟩
 ·refine⟨0,e,?_,?_⟩
  ·rw[h1];simp only[iA];rw[ct (bne_iff_ne.mpr he)]
  ·rw[h2];simp only[iA];rw[ct (bne_iff_ne.mpr he)]
 ·obtain⟨m,m1,m2,m3⟩:=aR hN hd z (hL.pos (nC hd)) (by omega) (mH hL z);have hm:=xK (hL.pos (nC hd)) m2;refine⟨m,0,?_,?_⟩
  ·rw[h1];simp only[iA];rw[cf (by rfl),hD];simp only[iA];rw[sJ N hd];simp only[iA];rw[m3];rfl
  ·rw[h2];simp only[iA];rw[cf (by rfl),ls hN hd z m1 (by omega)];rfl
abbrev N0:Nat:=8589934700
theorem da:8589934600<N0:=by decide
theorem an:cF (-23):=⟨by decide,by decide,by decide⟩
theorem G8 {G:Type}{A:AG G}{s:Nat}{gs:List (G×Nat)}(h:y7 A s gs)(hp:np gs=3):∃g,gs=[(g,3)]:=by
 cases gs with
 |nil=>simp[np]at hp
 |cons x l=>
  have hx:=(h.big x (by simp)).1;simp only[np]at hp;have hdv:x.2∣3:=⟨_,hp.symm⟩
  have h3:=xK (by decide) hdv;have hx3:x.2=3:=by
   rcases(show x.2=2∨x.2=3 by omega)with e|e
   ·rw[e]at hdv;exact absurd hdv (by decide)
   ·exact e
  rw[hx3]at hp;have hl:np l=1:=by omega
  cases l with
  |nil=>exact⟨x.1,by rw[←hx3]⟩
  |cons y l=>exfalso;have hy:=(h.big y (by simp)).1;simp only[np]at hl;have:=xK (by decide) (show y.2∣1 from⟨_,hl.symm⟩);omega
theorem se:Q146.f N0=some true:=by
 obtain⟨L,gs,hP,hC,_,_,hr,hg⟩:=jK da an;have hl:Q111.f N0 (-23)=some [1,1,6,2, -1,3,2,1,3]:=by kernel_rfl
 rw[hl]at hr;have hL3:yA (L.map (·.1))=yA [(1,1,6),(2, -1,3),(2,1,3)]:=(Option.some.inj hr).symm;have hLm:L.map (·.1)=[(1,1,6),(2, -1,3),(2,1,3)]:=by have:=congrArg jF hL3;rwa[xN,xN]at this
 have hlen:L.length=3:=by have:=congrArg List.length hLm;simpa using this
 obtain⟨g,hgs⟩:=G8 hP.gen (by rw[hP.gen.count hP.fin,hlen]);have hgs':gs=[(g,3)]:=by have:=congrArg List.reverse hgs;simpa using this
 subst hgs';have hS:=oK da hP.glen hg;have hne:g≠one an:=fun e=>by
  have ho:=hP.gen.uq.ordOf (g:=(g,3)) (by simp);have h1:pw (nC an) g 1=(nC an).one:=by rw[sH];exact e
  have:=(ho.2 1).mp h1;exact absurd (show(3:Nat)∣1 from this) (by decide)
 have ho1:(one an).1=(1,1,6):=by
  have h1:=sJ N0 an;have h2:Q83.f N0 (-23)=some (1,1,6,0):=by kernel_rfl
  rw[h2]at h1;simp only[Option.some.injEq,Prod.mk.injEq]at h1;obtain⟨a,b,c,_⟩:=h1;exact Prod.ext a.symm (Prod.ext b.symm c.symm)
 have hgA:g.1.1=2:=by
  have hm:g.1∈L.map (·.1):=s0 (hP.fin.all g);rw[hLm]at hm;simp only[v1,List.not_mem_nil,or_false]at hm;rcases hm with hm|hm|hm
  ·exact absurd (Subtype.ext (hm.trans ho1.symm)) hne
  ·rw[hm]
  ·rw[hm]
 have hO:Q134.f N0 2 1 3=some (3,0):=by
  obtain⟨n,e,q1,q2⟩:=ns da 2 1 3;have:Q141.f N0 2 1 3=some (3,0):=by kernel_rfl
  rw[this]at q2;rw[q1,←q2]
 unfold Q146.f;rw[hS];simp only[iA];rw[hO];simp only[List.map_cons,List.map_nil,yA,iA,a4,hgA];simp
end
section
open Go Go.Proofs.YtjpdjdhdchjcgaaGreat.Ev
open Go.Proofs.YtjpdjdhdchjcgaaGreat.Pure (cA)
open Go.Proofs.YtjpdjdhdchjcgaaGreat.Cls (cF uK lJ qU)
open Go.Proofs.YtjpdjdhdchjcgaaGreat.Srt (ct cf kG vF)
variable {d:Int}
open Classical in
noncomputable def tJ (hd:cF d)(L:List (K d)):List (K d):=L.filter fun z=>decide (mul hd z z=one hd)
theorem dT {i n:Nat}(h:i<n):decide ((i:Int)<(n:Int))=true:=decide_eq_true (by omega)
theorem dF {i n:Nat}(h:¬i<n):decide ((i:Int)<(n:Int))=false:=decide_eq_false (by omega)
theorem pV {α:Type}(p:α→Bool){L:List α}{i:Nat}(h:i<L.length):(L.take (i+1)).filter p=(L.take i).filter p++(if p L[i]then [L[i]]else []):=by
 rw[hH,zB h,List.filter_append];congr 1;by_cases hp:p L[i]<;>simp[hp]
theorem fX (hd:cF d){L:List (K d)}{i:Nat}(h:i<L.length):(mul hd L[i] L[i]=one hd→tJ hd (L.take (i+1))=tJ hd (L.take i)++[L[i]])∧(mul hd L[i] L[i]≠one hd→tJ hd (L.take (i+1))=tJ hd (L.take i)):=by
 constructor
 ·intro e;unfold tJ;rw[pV _ h,if_pos (decide_eq_true e)]
 ·intro e;unfold tJ;rw[pV _ h,if_neg (by simpa using e),List.append_nil]
theorem dd (hd:cF d)(L:List (K d)):(tJ hd L).length≤L.length:=List.length_filter_le _ _
theorem eX {N:Nat}(hN:8589934600<N)(hd:cF d){L:List (K d)}(hb:L.length≤45000){R:Type}(K0:List Int→Option R):∀(q i:Nat),i≤L.length→L.length-i<q→
  Q137.l7 N q (L.length:Int) (i:Int) (one hd).1.1 (one hd).1.2.1 (one hd).1.2.2 (yA ((tJ hd (L.take i)).map (·.1))) (yA (L.map (·.1))) K0=K0 (yA ((tJ hd L).map (·.1)))
 |0,i,_,h=>by omega
 |q+1,i,hi,hq=>by
  rw[Q137.l7,vF];by_cases hlt:i<L.length
  ·obtain⟨e1,e2,e3⟩:=sQ hlt;obtain⟨a1,a2⟩:=fX hd hlt;have hl:=dd hd (L.take i);rw[m0]at hl;rw[ct (decide_eq_true hlt),gE,ct (kG hlt)];simp only[zA,e1,e2,e3];rw[qK hN hd];simp only[iA];rw[tD (by omega)];by_cases he:mul hd L[i] L[i]=one hd
   ·rw[ct ((F1 _ _).mpr he),ct (C6 (by omega)),jt,←a1 he];exact eX hN hd hb K0 q (i+1) (by omega) (by omega)
   ·rw[cf (Bool.eq_false_iff.mpr fun e=>he ((F1 _ _).mp e)),←a2 he];exact eX hN hd hb K0 q (i+1) (by omega) (by omega)
  ·rw[cf (decide_eq_false hlt),hE (by omega)]
end
section
open Go Go.Proofs.YtjpdjdhdchjcgaaGreat.Ev
open Go.Proofs.YtjpdjdhdchjcgaaGreat.Pure (cA fv La Pr Oo)
open Go.Proofs.YtjpdjdhdchjcgaaGreat.Cls (cF Rd wJ nX uK lJ qU)
open Go.Proofs.YtjpdjdhdchjcgaaGreat.Srt (ct cf kG vF)
variable {d:Int}
theorem o9 (N:Nat){m:Int}(h0:0≤m)(h1:m<65536):∃d,Q144.f N m=some d∧cF d:=by
 have e1:Int.tmod m 20000=m%20000:=d1 h0;obtain⟨t,ht⟩:∃t,t=m%20000:=⟨_,rfl⟩
 have t0:0≤t∧t<20000:=by omega
 have e2:aA ((aA (0- (aA (Int.tmod m 20000))))-3)= -(t+3):=by rw[e1,←ht,cA (n:=t) (by omega) (by omega),cA (n:=0-t) (by omega) (by omega),cA (by omega) (by omega)];omega
 have e3:aA (-(t+3)-2)= -(t+5):=by rw[cA (by omega) (by omega)];omega
 have e4:Int.tmod (-(t+3)) 4= -((t+3)%4):=by rw[Int.neg_tmod,d1 (by omega)]
 unfold Q144.f;rw[e2,e3,e4];have hm:(t+3)%4=0∨(t+3)%4=1∨(t+3)%4=2∨(t+3)%4=3:=by omega
 rcases hm with hm|hm|hm|hm<;>rw[hm]
 ·exact⟨_,rfl,by omega,by omega,by omega⟩
 ·exact⟨_,rfl,by omega,by omega,by omega⟩
 ·exact⟨_,rfl,by omega,by omega,by omega⟩
 ·exact⟨_,rfl,by omega,by omega,by omega⟩
theorem Da (hd:cF d)(z:K d):mul hd z z=one hd↔z.1.2.1=0∨z.1.1=z.1.2.1∨z.1.1=z.1.2.2:=by
 have dm:=(gF hd).m;have hO:=fv (z.red hd) (gF hd) (gS hd) (M:=Lc z) (Mod.Hm.refl _ _ _);have back:yj d (Lc z) (La d z.1.1 (-z.1.2.1))→mul hd z z=one hd:=fun h=>by refine eO hd ((oH hd z z).symm.trans dm (Mod.Hm.trans dm ?_ (zQ hd)));exact(Mod.Hm.prod dm (Mod.Hm.refl _ _ (Lc z)) h).trans dm hO
 constructor
 ·intro h;apply Classical.byContradiction;intro hn;simp only[not_or]at hn;obtain⟨n1,n2,n3⟩:=hn;have hr:=z.2.1;have hk:Kl d (z.1.1, -z.1.2.1,z.1.2.2):=by
   refine⟨⟨?_,hr.pos,?_,?_,?_⟩,?_⟩
   ·have e: -z.1.2.1* -z.1.2.1=z.1.2.1*z.1.2.1:=by grind
    rw[e];exact hr.eq
   ·have:=hr.hi;simp only;omega
   ·have:=hr.lo;simp only;omega
   ·have:=hr.last;simp only;omega
   ·rw[nX];exact z.2.2
  let k:K d:=⟨_,hk⟩
  have h1:mul hd z k=one hd:=eO hd ((oH hd z k).symm.trans dm (Mod.Hm.trans dm hO (zQ hd)));have h2:k=z:=(nC hd).left (x:=z) (h1.trans h.symm);have h3: -z.1.2.1=z.1.2.1:=congrArg (fun t:K d=>t.1.2.1) h2;omega
 ·rintro(h|h|h)
  ·apply back;unfold Lc;rw[h];exact Mod.Hm.refl _ _ _
  ·apply back;refine Mod.Hm.same fun t=>?_;have:=Pure.La.shift d z.1.1 (-z.1.2.1) 1 t;rw[show-z.1.2.1+2*z.1.1*1=z.1.2.1 by omega]at this;exact this.symm
  ·apply back;have:=(z.red hd).of.swap (gF hd).neg (by have:=z.2.1.pos;omega);rw[←h]at this;exact this
theorem Fu (hd:cF d){L:List (K d)}{i:Nat}(h:i<L.length)(he:mul hd L[i] L[i]=one hd):∃hj:(tJ hd (L.take i)).length<(tJ hd L).length,(tJ hd L)[(tJ hd (L.take i)).length]=L[i]:=by
 have h1:=(fX hd h).1 he;have h2:tJ hd L=tJ hd (L.take (i+1))++tJ hd (L.drop (i+1)):=by unfold tJ;rw[←List.filter_append,hT]
 have h3:tJ hd L=tJ hd (L.take i)++(L[i]::tJ hd (L.drop (i+1))):=by rw[h2,h1];simp
 refine⟨by rw[h3];simp,?_⟩;have e:(tJ hd L)[(tJ hd (L.take i)).length]?=some L[i]:=by rw[h3];simp
 exact(v2.mp e).2
theorem gZ {a b:Int}(h:a≠b):(a != b)=true:=bne_iff_ne.mpr h
theorem pz {a b:Int}(h:a=b):(a != b)=false:=by rw[h];simp
theorem v6 {N:Nat}(hd:cF d){L:List (K d)}(hb:L.length≤45000){R:Type}(x7:List Int)(k0:List Int→List Int→Int→Option R)(kr:Bool→Option R):∀(q i:Nat),i≤L.length→L.length-i<q→
  Q152.l9 N q (yA ((tJ hd L).map (·.1))) x7 ((tJ hd (L.take i)).length:Int) (i:Int) (yA (L.map (·.1))) k0 kr=k0 (yA ((tJ hd L).map (·.1))) x7 ((tJ hd L).length:Int)
 |0,i,_,h=>by omega
 |q+1,i,hi,hq=>by
  rw[Q152.l9,gE,gE];by_cases hlt:i<L.length
  ·obtain⟨e1,e2,e3⟩:=sQ hlt;obtain⟨a1,a2⟩:=fX hd hlt;have hl:=dd hd (L.take i);rw[m0]at hl;rw[ct (dT hlt),ct (kG hlt)];simp only[zA,e1,e2,e3];have hai:=Da hd L[i];by_cases he:mul hd L[i] L[i]=one hd
   ·obtain⟨hj,hji⟩:=Fu hd hlt he;obtain⟨f1,f2,f3⟩:=sQ hj;rw[hji]at f1 f2 f3;have next:=v6 (N:=N) hd hb x7 k0 kr q (i+1) (by omega) (by omega)
    rw[a1 he,c0,t3]at next
    have step:(bif decide (((tJ hd (L.take i)).length:Int)≥((tJ hd L).length:Int))then kr false
     else bif (decide (0≤((tJ hd (L.take i)).length:Int)))&&(decide (((tJ hd (L.take i)).length:Int)<((tJ hd L).length:Int)))then
      bif !(((yA ((tJ hd L).map (·.1))).getD ((tJ hd (L.take i)).length*3) 0==L[i].1.1)&&(((yA ((tJ hd L).map (·.1))).getD ((tJ hd (L.take i)).length*3+1) 0==L[i].1.2.1)&&((yA ((tJ hd L).map (·.1))).getD ((tJ hd (L.take i)).length*3+2) 0==L[i].1.2.2)))then kr false
      else Q152.l9 N q (yA ((tJ hd L).map (·.1))) x7 (aA (((tJ hd (L.take i)).length:Int)+1)) (aA ((i:Int)+1)) (yA (L.map (·.1))) k0 kr
     else none)=k0 (yA ((tJ hd L).map (·.1))) x7 ((tJ hd L).length:Int):=by
     rw[cf (decide_eq_false (by omega)),ct (kG hj),f1,f2,f3,cf (by simp),tD (by omega),tD (by omega)];exact next
    by_cases h1:L[i].1.2.1=0
    ·rw[cf (pz h1)];exact step
    ·rw[ct (gZ h1)];by_cases h2:L[i].1.1=L[i].1.2.1
     ·rw[cf (pz h2)];exact step
     ·rw[ct (gZ h2)];have h3:L[i].1.1=L[i].1.2.2:=((hai.mp he).resolve_left h1).resolve_left h2;rw[cf (pz h3)];exact step
   ·have hn:=fun h=>he (hai.mpr h);rw[ct (gZ fun h=>hn (.inl h)),ct (gZ fun h=>hn (.inr (.inl h))),ct (gZ fun h=>hn (.inr (.inr h))),tD (by omega),←a2 he];exact v6 hd hb x7 k0 kr q (i+1) (by omega) (by omega)
  ·rw[cf (dF hlt),hE (by omega)]
theorem fa {G:Type}(q:Nat):∀a b:List (G×Nat),gp q (a++b)=gp q a*gp q b
 | [],b=>(Nat.one_mul _).symm
 |g::a,b=>by simp only[a3,gp];rw[fa q a b,hX]
theorem Aq {G:Type}(q:Nat):∀a:List (G×Nat),gp q a.reverse=gp q a
 | []=>rfl
 |g::a=>by rw[d2,fa,Aq q a];simp only[gp,i4];rw[q0]
theorem fq {G:Type}:∀a b:List (G×Nat),np (a++b)=np a*np b
 | [],b=>(Nat.one_mul _).symm
 |g::a,b=>by simp only[a3,np];rw[fq a b,hX]
theorem Bp {G:Type}:∀a:List (G×Nat),np a.reverse=np a
 | []=>rfl
 |g::a=>by rw[d2,fq,Bp a];simp only[np,i4];rw[q0]
theorem Ap {G:Type}{q:Nat}(hq:0<q):∀a:List (G×Nat),0<gp q a
 | []=>by simp[gp]
 |g::a=>by simp only[gp];exact Nat.mul_pos (Nat.gcd_pos_of_pos_left _ hq) (Ap hq a)
theorem Dq {G:Type}(q:Nat){a:List (G×Nat)}{i:Nat}(h:i<a.length):gp q (a.take (i+1))=gp q (a.take i)*Nat.gcd q a[i].2:=by
 rw[hH,zB h,fa];simp[gp]
theorem Gx {G:Type}{q:Nat}(hq:0<q)(a:List (G×Nat))(i:Nat):gp q (a.take i)≤gp q a:=by
 have:gp q a=gp q (a.take i)*gp q (a.drop i):=by rw[←fa,hT]
 rw[this];exact sS _ (Ap hq _)
theorem pS {gs:List (K d×Nat)}{i:Nat}(h:i<gs.length):(gs.map fun g=>(g.2:Int)).getD i 0=(gs[i].2:Int):=by
 simp[iB,zB h]
theorem sT (N:Nat){gs:List (K d×Nat)}(hg:gs.length≤45000)(hb:gp 2 gs≤1000000){R:Type}(x18:List Int)(x20:Int)(K0:List Int→Int→Int→Option R):∀(q i:Nat),i≤gs.length→gs.length-i<q→
  Q152.l18 N q x18 (gs.map fun g=>(g.2:Int)) x20 ((gp 2 (gs.take i):Nat):Int) (i:Int) K0=K0 x18 x20 ((gp 2 gs:Nat):Int)
 |0,i,_,h=>by omega
 |q+1,i,hi,hq=>by
  rw[Q152.l18,aE];by_cases hlt:i<gs.length
  ·have hle:=Gx (q:=2) (by decide) gs i;have htk:=Dq 2 hlt;rw[ct (dT hlt),ct (kG hlt)];simp only[zA,pS hlt];have e2:Int.tmod (gs[i].2:Int) 2=((gs[i].2%2:Nat):Int):=cm _ 2;rw[e2,A0,tD (by omega)];by_cases he:gs[i].2%2=0
   ·have hg2:Nat.gcd 2 gs[i].2=2:=Nat.gcd_eq_left (Nat.dvd_of_mod_eq_zero he);have hw:aA ((gp 2 (gs.take i):Int)*2)=((gp 2 (gs.take (i+1)):Nat):Int):=by
     rw[htk,hg2,cA (by omega) (by omega)];omega
    rw[ct (decide_eq_true he),hw];exact sT N hg hb x18 x20 K0 q (i+1) (by omega) (by omega)
   ·have hg1:Nat.gcd 2 gs[i].2=1:=by rw[Nat.gcd_rec,show gs[i].2%2=1 by omega];rfl
    rw[cf (decide_eq_false he)];rw[hg1,i4]at htk;rw[←htk];exact sT N hg hb x18 x20 K0 q (i+1) (by omega) (by omega)
  ·rw[cf (dF hlt),hE (by omega)]
theorem Cx {n:Int}(h:(Lit.int .u16 n).wf=true):0≤n∧n<65536:=by
 simp[Lit.wf]at h;have h1:IntKind.u16.min=0:=by decide
 have h2:IntKind.u16.max=65535:=by decide
 omega
theorem rb {N:Nat}(hN:8589934600<N)(hw:Q146.f N=some true)(a:Int)(w:(Lit.int .u16 a).wf=true):Q152.f N a=some true:=by
 obtain⟨w1,w2⟩:=Cx w;obtain⟨d,hdisc,hd⟩:=o9 N w1 w2;obtain⟨L,gs,hP,hC,hA,_,hr,hg⟩:=jK hN hd;have hb:=hP.len;have hS:=oK hN hP.glen hg;have hAmb:Q137.f N d=some (yA ((tJ hd L).map (·.1)),0):=by unfold Q137.f;rw[hA];simp only[iA];rw[cf (by rfl),sJ N hd];simp only[iA];rw[gE];have:=eX hN hd hb (fun y13=>some (y13,(0:Int))) N 0 (by omega) (by omega);rw[hI,pC]at this;exact this
 have hk:(tJ hd L).length=gp 2 gs:=by
  classical
  have h1:=hP.gen.killed hP.fin 2;rw[Aq]at h1;rw[←h1,List.countP_eq_length_filter];unfold tJ;congr 1;refine List.filter_congr fun z _=>?_;have h2:pw (nC hd) z 2=mul hd z z:=by show(nC hd).mul (pw (nC hd) z 1) z=_;rw[sH];rfl
  rw[h2];exact decide_eq_decide.mpr Iff.rfl
 have hl:=dd hd L;unfold Q152.f;rw[hdisc];simp only[iA];rw[hA];simp only[iA];rw[hAmb];simp only[iA];rw[hS];simp only[iA];rw[cf (by rfl),cf (by rfl),cf (by rfl)];have h9:=v6 (N:=N) hd hb (gs.map fun g=>(g.2:Int)) (fun y15 y16 y17=>
   Q152.l18 N N y15 y16 y17 1 0
    (fun y26 y27 y28=>
     bif y27==(y26.length/3:Int)then
      bif y28==(y26.length/3:Int)then
       (Q146.f N).bind fun r29=>
       some r29
      else
      some false
     else
     some false)) (fun y30=>some y30) N 0 (by omega) (by omega)
 have z1:(tJ hd ([]:List (K d))).length=0:=rfl;rw[hI,z1,pC]at h9;refine h9.trans ?_;have h18:=sT N hP.glen (gs:=gs) (by omega) (yA ((tJ hd L).map (·.1))) ((tJ hd L).length:Int) (fun y26 y27 y28=>
     bif y27==(y26.length/3:Int)then
      bif y28==(y26.length/3:Int)then
       (Q146.f N).bind fun r29=>
       some r29
      else
      some false
     else
     some false) N 0 (by omega) (by have:=hP.glen;omega)
 have z2:gp 2 ([]:List (K d×Nat))=1:=rfl;rw[hI,z2,pC,a0]at h18;refine h18.trans ?_;rw[gE,ct (by simp),ct (by rw[hk];simp),hw];rfl
theorem GroupSigns (a:Int)(w:(Lit.int .u16 a).wf=true):∃N,Q152.f N a=some true:=⟨N0,rb da se a w⟩
end
section
open Go Go.Proofs.YtjpdjdhdchjcgaaGreat.Ev
open Go.Proofs.YtjpdjdhdchjcgaaGreat.Pure (cA La Pr Oo lD wO zF qF bL eC qJ)
open Go.Proofs.YtjpdjdhdchjcgaaGreat.Cls (cF Rd wJ uK lJ qU kW)
open Go.Proofs.YtjpdjdhdchjcgaaGreat.Srt (ct cf kG vF tK)
variable {d:Int}
def ints (l:List Nat):List Int:=l.map fun(n:Nat)=>(n:Int)
theorem aS {l:List Nat}{i:Nat}(h:i<l.length):(ints l).getD i 0=(l[i]:Int):=by
 simp[ints,iB,zB h]
theorem uQ (gs:List (K d×Nat)):((yA (gs.map (·.1.1))).length/3:Int)=(gs.length:Int):=by
 have:=gE (gs.map (·.1));rw[List.map_map,aE]at this;exact this
theorem tl {gs:List (K d×Nat)}{i:Nat}(h:i<gs.length):(yA (gs.map (·.1.1))).getD (i*3) 0=gs[i].1.1.1∧(yA (gs.map (·.1.1))).getD (i*3+1) 0=gs[i].1.1.2.1∧(yA (gs.map (·.1.1))).getD (i*3+2) 0=gs[i].1.1.2.2:=by
 have:=sQ (L:=gs.map (·.1)) (i:=i) (by simpa using h);rw[List.map_map,List.getElem_map]at this;exact this
theorem yY {N:Nat}(hN:8589934600<N)(hd:cF d){gs:List (K d×Nat)}{es:List Nat}(hl:es.length=gs.length)(hg:gs.length≤45000)(hb:∀e∈es,e<9223372036854775807){R:Type}(x8 x9 x10:Int)(K0:Int→Int→Int→Int→Int→Int→Option R):∀(q i:Nat) (f:K d),i≤gs.length→gs.length-i<q→
  Q145.l3 N q (yA (gs.map (·.1.1))) (ints es) (i:Int) x8 x9 x10 f.1.1 f.1.2.1 f.1.2.2 K0=K0 x8 x9 x10 (mul hd f (val (nC hd) (gs.drop i) (es.drop i))).1.1 (mul hd f (val (nC hd) (gs.drop i) (es.drop i))).1.2.1 (mul hd f (val (nC hd) (gs.drop i) (es.drop i))).1.2.2
 |0,i,f,_,h=>by omega
 |q+1,i,f,hi,hq=>by
  have il:(ints es).length=gs.length:=by rw[ints,aE,hl]
  rw[Q145.l3,uQ,il];by_cases hlt:i<gs.length
  ·have hlt2:i<es.length:=by omega
   obtain⟨e1,e2,e3⟩:=tl hlt;have he:=hb _ (cD hlt2);rw[ct (dT hlt),ct (dT hlt),ct (kG hlt),ct (kG hlt)];simp only[zA,e1,e2,e3,aS hlt2];rw[vW hN hd gs[i].1 (n:=(es[i]:Int)) (by omega) (by omega)];simp only[iA,zA];rw[m9 hN hd];simp only[iA];rw[tD (by omega),yY hN hd hl hg hb x8 x9 x10 K0 q (i+1) _ (by omega) (by omega),zE hlt,zE hlt2];have e:mul hd (mul hd f (pw (nC hd) gs[i].1 es[i])) (val (nC hd) (gs.drop (i+1)) (es.drop (i+1)))=mul hd f (val (nC hd) (gs[i]::gs.drop (i+1)) (es[i]::es.drop (i+1))):=(nC hd).assoc _ _ _;rw[e]
  ·have h0:gs.drop i=[]:=i0 (by omega);have e:mul hd f (val (nC hd) [] (es.drop i))=f:=by rw[fF];exact(nC hd).mul_one f
   rw[cf (dF hlt),h0,e]
theorem wy {N:Nat}(hN:8589934600<N)(hd:cF d){gs:List (K d×Nat)}{es:List Nat}(hl:es.length=gs.length)(hg:gs.length≤45000)(hb:∀e∈es,e<9223372036854775807):Q145.f N d (yA (gs.map (·.1.1))) (ints es)=some (val (nC hd) gs es).1:=by
 unfold Q145.f;rw[sJ N hd];simp only[iA];have:=yY hN hd hl hg hb 0 0 0 (fun y22 y23 y24 y25 y26 y27=>some (y25,y26,y27)) N 0 (one hd) (by omega) (by omega);have e:mul hd (one hd) (val (nC hd) gs es)=val (nC hd) gs es:=(nC hd).one_mul _;rw[pC,f0,f0,e]at this;exact this
theorem bh {N:Nat}(hd:cF d)(z:K d):Q100.f N z.1.1 z.1.2.1 z.1.2.2=some true:=by
 obtain⟨h,hr,hs⟩:=kW hd z.2.1;have hck:Q48.f N z.1.1 z.1.2.1 z.1.2.2=some 0:=by
  rcases zF N z.1.1 z.1.2.1 z.1.2.2 with⟨_,h2⟩|⟨h2,_⟩
  ·exact h2
  ·exact absurd h h2
 unfold Q100.f;rw[hck];simp only[iA,beq_self_eq_true,cond_true];rw[qF N h.good,if_pos hr,if_neg hs];rfl
theorem E6 {N:Nat}(hN:8589934600<N)(hd:cF d)(z:K d){n:Nat}(ho:qV (nC hd) z n):Q134.f N z.1.1 z.1.2.1 z.1.2.2=some ((n:Int),0):=by
 have hV:=z.val hd;obtain⟨a',b',c',r1,r2,r3,p,q,r,u,r4⟩:=lD hN hV;obtain⟨k,hk,hcl⟩:=gL r2;have hkz:z=k:=eO hd hcl;subst hkz;obtain⟨k1,k2,k3⟩:=Aj hk;obtain⟨L,gs,hP,_,_,hn,_,_⟩:=jK hN hd;have j1:=rY hN hd hV hcl;have hD:=(oo N hd z).1;have hA:Q133.f N z.1.1 z.1.2.1 z.1.2.2=some (z.1.1,z.1.2.1,z.1.2.2,(L.length:Int),0):=by unfold Q133.f;rw[j1];simp only[iA];rw[cf (by rfl),hD];simp only[iA];rw[hn];simp only[iA];rw[cf (by rfl),r4,k1,k2,k3];rfl
 have hL:=hP.fin;have hb:=hP.len;obtain⟨m,m1,m2,m3⟩:=aR hN hd z (hL.pos (nC hd)) (by omega) (mH hL z);have:m=n:=m1.uniq ho;subst this;unfold Q134.f;rw[hA];simp only[iA];rw[cf (by rfl),hD];simp only[iA];rw[sJ N hd];simp only[iA];rw[m3];rfl
end
section
open Go Go.Proofs.YtjpdjdhdchjcgaaGreat.Ev
open Go.Proofs.YtjpdjdhdchjcgaaGreat.Pure (cA)
open Go.Proofs.YtjpdjdhdchjcgaaGreat.Cls (cF)
open Go.Proofs.YtjpdjdhdchjcgaaGreat.Srt (ct cf kG vF tK)
section
variable {G:Type}{A:AG G}
def dg:List (G×Nat)→Nat→List Nat
 | [],_=>[]
 |g::gs,k=>(k%g.2)::dg gs (k/g.2)
theorem oi:∀(gs:List (G×Nat)) (k:Nat),(dg gs k).length=gs.length
 | [],_=>rfl
 |g::gs,k=>by simp only[dg,l0,oi gs]
theorem Ai:∀{gs:List (G×Nat)} (k:Nat),(∀g∈gs,0<g.2)→Sm gs (dg gs k)
 | [],_,_=>trivial
 |g::gs,k,h=>⟨Nat.mod_lt _ (h g (by simp)),Ai _ fun g hg=>h g (hU _ hg)⟩
theorem Ah:∀{gs:List (G×Nat)} {j k:Nat},j<np gs→k<np gs→dg gs j=dg gs k→j=k
 | [],j,k,h1,h2,_=>by simp only[np]at h1 h2;omega
 |g::gs,j,k,h1,h2,h=>by simp only[dg,List.cons.injEq]at h;simp only[np]at h1 h2;have e:=Ah (gs:=gs) (z3 h1) (z3 h2) h.2;rw[←Nat.div_add_mod j g.2,←Nat.div_add_mod k g.2,h.1,e]
theorem Sm.bound {b:Nat}:∀{gs:List (G×Nat)} {es:List Nat},(∀g∈gs,g.2≤b)→Sm gs es→∀e∈es,e<b
 | [],[],_,_,e,he=>by cases he
 |g::gs,x::es,h,hs,e,he=>by
  rcases v1.mp he with rfl|he
  ·exact Nat.lt_of_lt_of_le hs.1 (h g (by simp))
  ·exact Sm.bound (fun g hg=>h g (hU _ hg)) hs.2 e he
 | [],_::_,_,hs,_,_=>hs.elim
 |_::_,[],_,_,e,he=>by cases he
theorem E3 {a:List (G×Nat)}{i:Nat}(h:i<a.length):np (a.take (i+1))=np (a.take i)*a[i].2:=by
 rw[hH,zB h,fq];simp[np]
theorem Bo:∀{a:List (G×Nat)},(∀g∈a,0<g.2)→0<np a
 | [],_=>by simp[np]
 |g::a,h=>by simp only[np];exact Nat.mul_pos (h g (by simp)) (Bo fun g hg=>h g (hU _ hg))
theorem Gy {a:List (G×Nat)}(h:∀g∈a,0<g.2)(i:Nat):np (a.take i)≤np a:=by
 have:np a=np (a.take i)*np (a.drop i):=by rw[←fq,hT]
 rw[this];exact sS _ (Bo fun g hg=>h g (x3 hg))
end
variable {d:Int}
abbrev dU (gs:List (K d×Nat)):List Int:=gs.map fun g=>(g.2:Int)
structure Kn (hd:cF d)(L:List (K d))(gs:List (K d×Nat)):Prop where
 fin:nq L
 len:L.length≤45000
 glen:gs.length≤45000
 uq:Uq (nC hd) gs
 big:∀g∈gs,1<g.2∧g.2≤45000
 up:gs.Pairwise (fun a b=>a.2∣b.2)
 count:np gs=L.length
 all:∀x,In (nC hd) gs x
theorem Pt.kn {hd:cF d}{L:List (K d)}{gs:List (K d×Nat)}(h:Pt hd L gs):Kn hd L gs:=by
 have hb:=h.len;refine⟨h.fin,h.len,h.glen,?_,fun g hg=>?_,?_,?_,fun x=>?_⟩
 ·have:=h.gen.uq.reverse;rwa[p0]at this
 ·have:=h.gen.big g (by simpa using hg);have:=h.gen.short h.fin (Nat.dvd_refl _) g (by simpa using hg);omega
 ·have:=h.gen.desc;rwa[List.pairwise_reverse]at this
 ·rw[←Bp];exact h.gen.count h.fin
 ·have:=(h.gen.all x (mH h.fin x)).reverse;rwa[p0]at this
theorem aM {N:Nat}(hN:8589934600<N){hd:cF d}{L:List (K d)}{gs:List (K d×Nat)}(h:Kn hd L gs){R:Type}(x8:Int)(k0:Int→List Int→List Int→Int→Int→Option R)(kr:Bool→Option R):∀(q i:Nat),i≤gs.length→gs.length-i<q→
  Q150.l8 N q d (yA (gs.map (·.1.1))) (dU gs) x8 ((np (gs.take i):Nat):Int) (i:Int) k0 kr=k0 d (yA (gs.map (·.1.1))) (dU gs) x8 ((np gs:Nat):Int)
 |0,i,_,hq=>by omega
 |q+1,i,hi,hq=>by
  have hol:(dU gs).length=gs.length:=by simp
  have hglen:=h.glen;rw[Q150.l8,hol,uQ];by_cases hlt:i<gs.length
  ·obtain⟨e1,e2,e3⟩:=tl hlt;have hm:=cD hlt;have ho:=h.uq.ordOf hm;obtain⟨b1,b2⟩:=h.big _ hm;have hpos:∀g∈gs,0<g.2:=fun g hg=>by have:=(h.big g hg).1;omega
   have hnl:=Gy hpos (i+1);have hcount:=h.count;have hL:=h.len;have hw:aA ((np (gs.take i):Int)*(gs[i].2:Int))=((np (gs.take (i+1)):Nat):Int):=by rw[E3 hlt]at hnl⊢;rw[←j3,zV (by omega)]
   have oat:=pS hlt;rw[ct (dT hlt),ct (kG hlt)];simp only[zA,e1,e2,e3,oat];rw[E6 hN hd gs[i].1 ho];simp only[iA];have step:(bif (decide (0≤(i:Int)))&&(decide ((i:Int)<(gs.length:Int)))then
      bif (gs[i].2:Int) != (gs[i].2:Int)then
       kr false
      else
      bif (decide (0≤(i:Int)))&&(decide ((i:Int)<(gs.length:Int)))then
       (Q100.f N gs[i].1.1.1 gs[i].1.1.2.1 gs[i].1.1.2.2).bind fun r15=>
       bif !r15 then
        kr false
       else
       bif (decide (0≤(i:Int)))&&(decide ((i:Int)<(gs.length:Int)))then
        (Q47.f N gs[i].1.1.1 gs[i].1.1.2.1 gs[i].1.1.2.2).bind fun r16=>
        bif r16 != d then
         kr false
        else
        bif (decide (0≤(i:Int)))&&(decide ((i:Int)<(gs.length:Int)))then
         Q150.l8 N q d (yA (gs.map (·.1.1))) (dU gs) x8 (aA ((np (gs.take i):Int)*(gs[i].2:Int))) (aA ((i:Int)+1)) k0 kr
        else none
       else none
      else none
     else none)=k0 d (yA (gs.map (·.1.1))) (dU gs) x8 ((np gs:Nat):Int):=by
    rw[ct (kG hlt),cf (by simp),ct (kG hlt),bh hd];simp only[iA];rw[cf (by rfl),ct (kG hlt),(oo N hd _).1];simp only[iA];rw[cf (by simp),ct (kG hlt),hw,tD (by omega)];exact aM hN h x8 k0 kr q (i+1) (by omega) (by omega)
   rw[ct (kG hlt),cf (decide_eq_false (by omega))];by_cases h0:0<i
   ·have hlt1:i-1<gs.length:=by omega
    have hdv:gs[i-1].2∣gs[i].2:=(List.pairwise_iff_getElem.mp h.up) (i-1) i hlt1 hlt (by omega);have hpp:=hpos _ (cD hlt1);rw[ct (decide_eq_true (by omega)),ct (kG hlt),tK h0 (by omega),ct (kG hlt1)];simp only[zA,pS hlt1];rw[ct (jg hpp),cm,Nat.mod_eq_zero_of_dvd hdv,cf (by rfl),cf (by rfl)];exact step
   ·rw[cf (decide_eq_false (by omega)),cf (by rfl)];exact step
  ·rw[cf (dF hlt),hE (by omega)]
theorem jn (N:Nat){gs:List (K d×Nat)}(hg:gs.length≤45000)(hb:∀g∈gs,0<g.2){R:Type}(x35 x38 x39:Int)(x36:List Int)(x42:List (List Int))(x43:List Int)(K0:Int→List Int→List Int→Int→Int→List (List Int)→List Int→List Int→Option R):
  ∀(q i x:Nat) (pre:List Nat) (old:List Int),i≤gs.length→gs.length-i<q→x<1000000→pre.length=i→old.length=gs.length-i→
   Q150.l23 N q x35 x36 (dU gs) x38 x39 (x:Int) (i:Int) x42 x43 (ints pre++old) K0=K0 x35 x36 (dU gs) x38 x39 x42 x43 (ints (pre++dg (gs.drop i) x))
 |0,i,x,pre,old,_,h,_,_,_=>by omega
 |q+1,i,x,pre,old,hi,hq,hx,hp,ho=>by
  have hol:(dU gs).length=gs.length:=by simp
  have hpl:(ints pre).length=i:=by rw[ints,aE,hp]
  rw[Q150.l23,hol];by_cases hlt:i<gs.length
  ·have hrl:(ints pre++old).length=gs.length:=by rw[c0,hpl,ho];omega
   have hpos:=hb _ (cD hlt);have hdv:x/gs[i].2≤x:=Nat.div_le_self _ _;rw[ct (dT hlt),ct (kG hlt)];simp only[zA,pS hlt];rw[ct (jg hpos),hrl,ct (kG hlt),ct (kG hlt),ct (jg hpos),mt,zV (y0 hdv (by omega)),tD (by omega),cm];cases old with
   |nil=>simp at ho;omega
   |cons o old=>
    have es:(ints pre++o::old).set i ((x%gs[i].2:Nat):Int)=ints (pre++[x%gs[i].2])++old:=by rw[w3 _ _ (by omega),hpl,Nat.sub_self,w0];simp[ints]
    rw[es,jn N hg hb x35 x38 x39 x36 x42 x43 K0 q (i+1) (x/gs[i].2) (pre++[x%gs[i].2]) old (by omega) (by omega) (y0 hdv hx) (by simp[hp]) (by simp at ho;omega),zE hlt,dg];simp
  ·have:old=[]:=d3.mp (by omega);subst this;rw[cf (dF hlt),i0 (by omega),dg];simp
theorem bj {N:Nat}(hN:8589934600<N){hd:cF d}{L:List (K d)}{gs:List (K d×Nat)}(h:Kn hd L gs){R:Type}(k2:Unit→Option R)(kr:Bool→Option R):∀(q k:Nat) (ks:List (List Int)) (vs:List Int) (row:List Int),k≤np gs→np gs-k<q→row.length=gs.length→
  Mp (fun z=>∃j,j<k∧z=val (nC hd) gs (dg gs j)) (fun _ v=>v=1) ks vs→Q150.l19 N q d (yA (gs.map (·.1.1))) (dU gs) ((np gs:Nat):Int) (k:Int) ks vs row k2 kr=k2 ()
 |0,k,ks,vs,row,_,hq,_,_=>by omega
 |q+1,k,ks,vs,row,hk,hq,hr,hM=>by
  have hnp:=h.count;have hL:=h.len;have hpos:∀g∈gs,0<g.2:=fun g hg=>by have:=(h.big g hg).1;omega
  rw[Q150.l19,vF];by_cases hlt:k<np gs
  ·have i1:k+1≤np gs:=hlt;have i2:np gs- (k+1)<q:=by omega
   have i3:k<9223372036854775807:=by omega
   rw[ct (decide_eq_true hlt)];have h23:=jn N h.glen hpos d ((np gs:Nat):Int) (k:Int) (yA (gs.map (·.1.1))) ks vs (fun y53 y54 y55 y56 y57 y58 y59 y60=>
     (Q145.f N y53 y54 y60).bind fun r61=>
     bif (decide (0≤(dE [r61.1,r61.2.1,r61.2.2] y58)))&&(decide ((dE [r61.1,r61.2.1,r61.2.2] y58)<((uB [r61.1,r61.2.1,r61.2.2] y58).length:Int)))then
      bif decide ((qE [r61.1,r61.2.1,r61.2.2] (uB [r61.1,r61.2.1,r61.2.2] y58) ((bG [r61.1,r61.2.1,r61.2.2] (qE [r61.1,r61.2.1,r61.2.2] y58 y59) y58 (List.take (List.length y58) y59)).set ((dE [r61.1,r61.2.1,r61.2.2] y58).toNat) (aA ((qE [r61.1,r61.2.1,r61.2.2] y58 y59)+1))))>1)then
       kr false
      else
      (Q100.f N r61.1 r61.2.1 r61.2.2).bind fun r63=>
      bif !r63 then
       kr false
      else
      Q150.l19 N q y53 y54 y55 y56 (aA (y57+1)) (uB [r61.1,r61.2.1,r61.2.2] y58) ((bG [r61.1,r61.2.1,r61.2.2] (qE [r61.1,r61.2.1,r61.2.2] y58 y59) y58 (List.take (List.length y58) y59)).set ((dE [r61.1,r61.2.1,r61.2.2] y58).toNat) (aA ((qE [r61.1,r61.2.1,r61.2.2] y58 y59)+1))) y60 k2 kr
     else none) N 0 k [] row (by omega) (by have:=h.glen;omega) (by omega) rfl (by omega)
   rw[f0,List.nil_append,pC]at h23;refine h23.trans ?_;have hsm:=Ai k hpos;have hlen:=oi gs k;have hbd:=Sm.bound (fun g hg=>(h.big g hg).2) hsm;rw[wy hN hd hlen h.glen (fun e he=>by have:=hbd e he;omega)];simp only[iA];generalize hz:val (nC hd) gs (dg gs k)=z;have hnew:¬ ∃j,j<k∧z=val (nC hd) gs (dg gs j):=fun⟨j,hj,e⟩=>by have hc:=h.uq.cong (h.fin.pos (nC hd)) (mH h.fin) hlen (oi gs j) (hz.trans e);have:=Ah hlt (show j<np gs by omega) (hc.eq hsm (Ai j hpos));omega
   have h0:=((hM.get z).resolve_left fun hS=>hnew hS.1).2;unfold key at h0;have hw:aA ((0:Int)+1)=1:=by decide
   have hput:=hM.put z (v:=1) rfl;have hg1:=((hput.get z).resolve_right fun hn=>hn.1 (.inr rfl)).2;unfold key at hput hg1;rw[ct mo,tt hM.len,h0,hw,hg1,cf (by decide),bh hd];simp only[iA];rw[cf (by rfl),tD i3];exact bj hN h k2 kr q (k+1) _ _ _ i1 i2 (by rw[ints,aE,hlen]) (hput.congr (fun y=>by
    constructor
    ·rintro(⟨j,hj,e⟩|rfl)
     ·exact⟨j,by omega,e⟩
     ·exact⟨k,by omega,hz.symm⟩
    ·rintro⟨j,hj,e⟩;by_cases hjk:j=k
     ·subst hjk;exact .inr (e.trans hz)
     ·exact .inl ⟨j,by omega,e⟩) (fun _ _ h=>h))
  ·rw[cf (decide_eq_false hlt)]
theorem dX {N:Nat}(hN:8589934600<N)(hw:Q146.f N=some true)(a:Int)(w:(Lit.int .u16 a).wf=true):Q150.f N a=some true:=by
 obtain⟨w1,w2⟩:=Cx w;obtain⟨d,hdisc,hd⟩:=o9 N w1 w2;obtain⟨L,gs,hP,hC,hA,hn,hr,hg⟩:=jK hN hd;have h:=hP.kn;have hgl:=h.glen;have hcount:=h.count;have hLl:=h.len;have hS:=oK hN hP.glen hg;unfold Q150.f;rw[hdisc,iA,hS,iA,hn,iA];have hol:(dU gs).length=gs.length:=by simp
 rw[cf (by rfl),cf (by rfl),uQ,hol,cf (by simp)];have h8:=aM hN h (L.length:Int) (fun y22 y23 y24 y25 y26=>
   bif y26 != y25 then
    some false
   else
   bif decide ((y24.length:Int)=(y24.length:Int))&&decide (0≤(y24.length:Int))&&decide ((y24.length:Int)≤9223372036854775807)&&gB ((y24.length:Int).toNat) 8 then
    Q150.l19 N N y22 y23 y24 y26 0 [] [] (List.replicate ((y24.length:Int).toNat) (0:Int))
     (fun(_:Unit)=>
      (Q146.f N).bind fun r64=>
      some r64)
     (fun y65=>
      some y65)
   else none) (fun y66=>some y66) N 0 (by omega) (by omega)
 have z1:np ([]:List (K d×Nat))=1:=rfl;rw[hI,z1,pC,a0]at h8;refine h8.trans ?_;rw[hcount,cf (by simp),hol,zA];have hroom:(decide ((gs.length:Int)=(gs.length:Int))&&decide (0≤(gs.length:Int))&&decide ((gs.length:Int)≤9223372036854775807)&&gB gs.length 8)=true:=by rw[decide_eq_true rfl,decide_eq_true (show(0:Int)≤(gs.length:Int) by omega),decide_eq_true (show(gs.length:Int)≤9223372036854775807 by omega)];simp only[gB,Bool.and_self,Bool.true_and,decide_eq_true_eq];omega
 rw[ct hroom];have h19:=bj hN h (fun(_:Unit)=>(Q146.f N).bind fun r64=>some r64) (fun y65=>some y65) N 0 [] [] (List.replicate gs.length (0:Int)) (by omega) (by omega) (by simp) (Mp.nil fun z ⟨j,hj,_⟩=>by omega);rw[pC,hcount]at h19;refine h19.trans ?_;rw[hw];rfl
end
section
open Go Go.Proofs.YtjpdjdhdchjcgaaGreat.Ev
open Go.Proofs.YtjpdjdhdchjcgaaGreat.Pure (cA)
open Go.Proofs.YtjpdjdhdchjcgaaGreat.Cls (cF)
open Go.Proofs.YtjpdjdhdchjcgaaGreat.Srt (R4 xB ct cf kG vF tK yV)
section
variable {G:Type}{A:AG G}
theorem Sm.at:∀{gs:List (G×Nat)} {es:List Nat} (h:Sm gs es) {i:Nat} (hi:i<gs.length) (hj:i<es.length),es[i]<gs[i].2
 |g::gs,e::es,h,0,_,_=>h.1
 |g::gs,e::es,h,i+1,hi,hj=>by have:=Sm.at h.2 (i:=i) (by simpa using hi) (by simpa using hj);simpa using this
theorem Cg.at:∀{gs:List (G×Nat)} {es fs cs:List Nat} (h:Cg gs (aX es fs) cs) {i:Nat} (hi:i<gs.length) (h1:i<es.length) (h2:i<fs.length) (h3:i<cs.length),(es[i]+fs[i])%gs[i].2=cs[i]%gs[i].2
 |g::gs,e::es,f::fs,c::cs,h,0,_,_,_,_=>h.1
 |g::gs,e::es,f::fs,c::cs,h,i+1,hi,h1,h2,h3=>by have:=Cg.at (es:=es) (fs:=fs) h.2 (i:=i) (by simpa using hi) (by simpa using h1) (by simpa using h2) (by simpa using h3);simpa using this
end
variable {d:Int}
theorem cX (N:Nat){gs:List (K d×Nat)}(hg:gs.length≤45000)(hb:∀g∈gs,1<g.2∧g.2≤45000){es bs cs:List Nat}(ha:Sm gs es)(hbs:Sm gs bs)(hc:Sm gs cs)(hcg:Cg gs (aX es bs) cs){R:Type}(x12 x18 x19 x20:Int)(k0:Int→List Int→Int→Int→Int→Option R)(kr:Bool→Option R):∀(q i:Nat),i≤gs.length→gs.length-i<q→
  Q151.l15 N q x12 (dU gs) (ints es) (ints bs) (ints cs) (i:Int) x18 x19 x20 k0 kr=k0 x12 (dU gs) x18 x19 x20
 |0,i,_,h=>by omega
 |q+1,i,hi,hq=>by
  have la:=ha.len;have lb:=hbs.len;have lc:=hc.len;have ho:(dU gs).length=gs.length:=by simp
  have l1:(ints es).length=gs.length:=by rw[ints,aE,la]
  have l2:(ints bs).length=gs.length:=by rw[ints,aE,lb]
  have l3:(ints cs).length=gs.length:=by rw[ints,aE,lc]
  rw[Q151.l15,ho,l1,l2,l3];by_cases hlt:i<gs.length
  ·have s1:=ha.at hlt (by omega);have s2:=hbs.at hlt (by omega);have s3:=hc.at hlt (by omega);have s4:=hcg.at hlt (by omega) (by omega) (by omega);obtain⟨b1,b2⟩:=hb _ (cD hlt);rw[ct (dT hlt),ct (kG hlt)];simp only[zA,aS (show i<es.length by omega),aS (show i<bs.length by omega),aS (show i<cs.length by omega),pS hlt];rw[Nat.mod_eq_of_lt s3]at s4;rw[cf (decide_eq_false (by omega)),ct (kG hlt),ct (kG hlt),cf (decide_eq_false (by omega)),ct (kG hlt),ct (kG hlt),ct (kG hlt),ct (jg (by omega)),ct (kG hlt),yV (by omega),cm,s4,cf (by simp),tD (by omega)];exact cX N hg hb ha hbs hc hcg x12 x18 x19 x20 k0 kr q (i+1) (by omega) (by omega)
  ·rw[cf (dF hlt)]
end
section
variable {G:Type}
def tw (f:Nat→Nat):List (G×Nat)→List Nat
 | []=>[]
 |g::gs=>if f g.2=1 then []else f g.2::tw f gs
def G3 (q:Nat):List (G×Nat)→Nat
 | []=>0
 |g::gs=>if q∣g.2 then G3 q gs+1 else 0
end
section
open Go Go.Proofs.YtjpdjdhdchjcgaaGreat.Ev
open Go.Proofs.YtjpdjdhdchjcgaaGreat.Pure (cA)
open Go.Proofs.YtjpdjdhdchjcgaaGreat.Cls (cF uK qU)
open Go.Proofs.YtjpdjdhdchjcgaaGreat.Srt (R4 xB ct cf kG vF tK yV)
variable {d:Int}
theorem jz (l:List Nat):(ints l).length=l.length:=by simp[ints]
theorem ws (l:List Nat)(n:Nat):ints l++[(n:Int)]=ints (l++[n]):=by simp[ints]
end
section
open Go Go.Proofs.YtjpdjdhdchjcgaaGreat.Ev
open Go.Proofs.YtjpdjdhdchjcgaaGreat.Pure (cA)
open Go.Proofs.YtjpdjdhdchjcgaaGreat.Cls (cF uK qU)
open Go.Proofs.YtjpdjdhdchjcgaaGreat.Srt (R4 xB ct cf kG vF tK yV)
variable {d:Int}
theorem mJ (N:Nat){os:List Nat}(hl:os.length≤45000){R:Type}(k:List Int→Option R):∀(q i:Nat),i≤os.length→i<q→
  Q139.l36 N q (((i:Nat):Int)-1) (ints os) (ints (os.drop i).reverse) k=k (ints os.reverse)
 |0,i,_,h=>by omega
 |q+1,i,hi,hq=>by
  rw[Q139.l36];cases i with
  |zero=>rw[cf (decide_eq_false (by simp)),f0]
  |succ i=>
   have e:((i+1:Nat):Int)-1=(i:Int):=by omega
   have hroom:gB ((ints (os.drop (i+1)).reverse).length+1) 8=true:=by rw[jz];simp only[gB,decide_eq_true_eq,d4,List.length_drop];omega
   rw[e,ct (decide_eq_true (by omega)),jz,ct (kG (show i<os.length by omega)),ct hroom,zA,aS (show i<os.length by omega),ws];have e2:(os.drop (i+1)).reverse++[os[i]]=(os.drop i).reverse:=by rw[zE (show i<os.length by omega),d2]
   have e3:aA ((i:Int)-1)=(i:Int)-1:=cA (by omega) (by omega);rw[e2,e3];exact mJ N hl k q i (by omega) (by omega)
end
end Go.Proofs.YtjpdjdhdchjcgaaGreat.Grp
