import Derived.Test.YtjpdjdhdchjcgaaGreatA5
open Option renaming bind_some→iA
open Int renaming toNat_natCast→zA,natCast_zero→pC,natCast_one→s0,tmod_eq_emod_of_nonneg→f1,natCast_mul→d2
open List renaming getD_eq_getElem?_getD→iB,getElem?_eq_getElem→zB,drop_eq_getElem_cons→cD,getElem_mem→aE,length_map→hE,take_of_length_le→zE,length_cons→hI,take_add_one→xK,getElem_of_mem→yK,take_succ_cons→hR,length_append→sS,drop_eq_nil_of_le→hT,drop_zero→hU,take_zero→hW,mem_cons_of_mem→hX,mem_map_of_mem→b0,set_cons_zero→f0,length_eq_zero_iff→i0,getElem_cons_succ→m0,mem_cons→n0,length_take→p0,set_append_right→q0,map_append→u0,mem_append_left→v0,reverse_reverse→w0,mem_singleton→y0,mem_range→f2,take_append_drop→v2,mem_of_mem_drop→a3,getD_cons_zero→f3,length_reverse→j3,mem_map→t3
open Nat renaming le_of_dvd→hH,min_eq_right→iX,le_refl→a0,mul_le_mul_left→c0,min_eq_left→d0,mul_succ→g0,le_mul_of_pos_right→j0,mul_left_comm→l0,mul_assoc→o0,lt_of_le_of_lt→d1,mul_comm→v1,div_lt_of_lt_mul→d3,sub_self→v3
set_option linter.unusedVariables false
set_option linter.unusedSimpArgs false
namespace Go.Proofs.YtjpdjdhdchjcgaaGreat.Srt
open Go Go.Proofs.YtjpdjdhdchjcgaaGreat.Ev
open Go.Proofs.YtjpdjdhdchjcgaaGreat.Pure (cA oW)
open Go.Proofs.YtjpdjdhdchjcgaaGreat.Grp (gW vD)
theorem mr {N:Nat}(hN:2000010<N){n:Nat}(hn:n≤1000000){a m b:Nat}{f:Nat→R4}(hf:Bd f)(ham:a<m)(hmb:m<b)(hbn:b≤n)(h1:Dn f a m)(h2:Dn f m b):
  ∃f',Q123.f N (a:Int) (m:Int) (b:Int) (F f n)=some (F f' n)∧Mv n f f' a b∧Dn f' a b:=Cr hN hn N a m b f hf ham hmb hbn h1 h2 (by omega)
def Bl (f:Nat→R4)(s n:Nat):Prop:=∀k,Dn f (s*k) (min (s*k+s) n)
theorem Ig {N:Nat}(hN:2000010<N){n:Nat}(hn:n≤1000000){R:Type}(K:Int→Int→Int→List Int→Option R):∀(q t:Nat) (f:Nat→R4),Bd f→20*t≤n→n-20*t<q→(∀k,k<t→Dn f (20*k) (20*k+20))→
  ∃f' t',Q124.l2 N q (n:Int) 20 ((20*t:Nat):Int) ((20*t+20:Nat):Int) (F f n) K=K (n:Int) 20 ((20*t':Nat):Int) (F f' n)∧Mv n f f' 0 n∧20*t'≤n∧n<20*t'+20∧∀k,k<t'→Dn f' (20*k) (20*k+20)
 |0,t,f,_,_,h,_=>by omega
 |q+1,t,f,hf,ht,hq,hd=>by
  rw[Q124.l2];by_cases hle:20*t+20≤n
  ·rw[ct (decide_eq_true (show((20*t+20:Nat):Int)≤(n:Int) by omega))];obtain⟨g,g1,g2,g3⟩:=jy (N:=N) (by omega) (a:=20*t) hle hn (by omega) hf;rw[g1];simp only[iA];have e1:aA (((20*t+20:Nat):Int)+20)=((20*(t+1)+20:Nat):Int):=by rw[cA (by omega) (by omega)];omega
   have e2:((20*t+20:Nat):Int)=((20*(t+1):Nat):Int):=by omega
   rw[e1,e2];obtain⟨f',t',r1,r2,r3⟩:=Ig hN hn K q (t+1) g (g2.bd hf) (by omega) (by omega) (fun k hk=>by
    by_cases e:k=t
    ·subst e;exact g3
    ·exact(hd k (by omega)).same fun i q1 q2=>g2.out i (by omega))
   exact⟨f',t',r1,(g2.mono (by omega) hle).trans r2,r3⟩
  ·rw[cf (decide_eq_false (show ¬((20*t+20:Nat):Int)≤(n:Int) by omega))];exact⟨f,t,rfl,Mv.refl _ _ _ _,ht,by omega,hd⟩
theorem Ih {N:Nat}(hN:2000010<N){n s:Nat}(hn:n≤1000000)(hs:0<s)(hsn:s<n){R:Type}(K:Int→Int→Int→List Int→Option R):∀(q t:Nat) (f:Nat→R4),Bd f→2*s*t≤n→n-2*s*t<q→(∀k,k<t→Dn f (2*s*k) (2*s*k+2*s))→(∀k,2*t≤k→Dn f (s*k) (min (s*k+s) n))→
  ∃f' t',Q124.l9 N q (n:Int) (s:Int) ((2*s*t:Nat):Int) ((2*s*t+2*s:Nat):Int) (F f n) K=K (n:Int) (s:Int) ((2*s*t':Nat):Int) (F f' n)∧Mv n f f' 0 n∧2*s*t'≤n∧n<2*s*t'+2*s∧(∀k,k<t'→Dn f' (2*s*k) (2*s*k+2*s))∧(∀k,2*t'≤k→Dn f' (s*k) (min (s*k+s) n))
 |0,t,f,_,_,h,_,_=>by omega
 |q+1,t,f,hf,ht,hq,hd,hd2=>by
  rw[Q124.l9];have m1:2*s*(t+1)=2*s*t+2*s:=g0 _ _;have m2:s*(2*t)=2*s*t:=by rw[l0,o0]
  have m3:s*(2*t+1)=2*s*t+s:=by rw[g0,m2]
  by_cases hle:2*s*t+2*s≤n
  ·rw[ct (decide_eq_true (show((2*s*t+2*s:Nat):Int)≤(n:Int) by omega)),fW (by omega)];have b1:=hd2 (2*t) (a0 _);have b2:=hd2 (2*t+1) (by omega);rw[m2,d0 (by omega)]at b1;rw[m3,d0 (by omega)]at b2;obtain⟨g,g1,g2,g3⟩:=mr hN hn hf (a:=2*s*t) (m:=2*s*t+s) (b:=2*s*t+2*s) (by omega) (by omega) hle b1 (by rw[show 2*s*t+2*s=2*s*t+s+s by omega];exact b2);rw[g1];simp only[iA];have e0:aA (2*(s:Int))=((2*s:Nat):Int):=by rw[cA (by omega) (by omega)];omega
   have e1:aA (((2*s*t+2*s:Nat):Int)+((2*s:Nat):Int))=((2*s*(t+1)+2*s:Nat):Int):=by rw[fW (by omega),m1]
   rw[e0,e1,show((2*s*t+2*s:Nat):Int)=((2*s*(t+1):Nat):Int) by rw[m1]];obtain⟨f',t',r1,r2,r3⟩:=Ih hN hn hs hsn K q (t+1) g (g2.bd hf) (by omega) (by omega) (fun k hk=>by
    by_cases e:k=t
    ·subst e;exact g3
    ·have:2*s*k+2*s≤2*s*t:=by rw[←g0];exact c0 _ (by omega)
     exact(hd k (by omega)).same fun i q1 q2=>g2.out i (by omega))
    (fun k hk=>by
     have:2*s*t+2*s≤s*k:=by have:=c0 s (show 2*(t+1)≤k by omega);rw[l0,←o0,m1]at this;exact this
     exact(hd2 k (by omega)).same fun i q1 q2=>g2.out i (by omega))
   exact⟨f',t',r1,(g2.mono (by omega) hle).trans r2,r3⟩
  ·rw[cf (decide_eq_false (show ¬((2*s*t+2*s:Nat):Int)≤(n:Int) by omega))];exact⟨f,t,rfl,Mv.refl _ _ _ _,ht,by omega,hd,hd2⟩
theorem I3 {N:Nat}(hN:2000010<N){n:Nat}(hn:n≤1000000){R:Type}(K:List Int→Option R):∀(q s:Nat) (f:Nat→R4),Bd f→0<s→s≤4000000→n-s<q→Bl f s n→
  ∃f',Q124.l7 N q (n:Int) (s:Int) (F f n) K=K (F f' n)∧Mv n f f' 0 n∧Dn f' 0 n
 |0,s,f,_,_,_,h,_=>by omega
 |q+1,s,f,hf,hs,hs2,hq,hd=>by
  rw[Q124.l7,uF];by_cases hlt:s<n
  ·rw[ct (decide_eq_true hlt)];have e0:aA (2*(s:Int))=((2*s*0+2*s:Nat):Int):=by rw[cA (by omega) (by omega)];omega
   have e3:aA ((s:Int)*2)=((2*s:Nat):Int):=by rw[cA (by omega) (by omega)];omega
   obtain⟨g,t,g1,g2,g3,g4,g5,g6⟩:=Ih hN hn hs hlt (fun y31 y32 y33 y34=>bif decide ((aA (y33+y32))<y31)then(Q123.f N y33 (aA (y33+y32)) y31 y34).bind fun r35=>Q124.l7 N q y31 (aA (y32*2)) r35 K else Q124.l7 N q y31 (aA (y32*2)) y34 K) N 0 f hf (by omega) (by omega) (fun k hk=>by omega) (fun k hk=>hd k);have z:((2*s*0:Nat):Int)=0:=by rw[Nat.mul_zero];rfl
   rw[z]at g1;rw[e0,g1,fW (by omega),uF,e3];have m2:s*(2*t)=2*s*t:=by rw[l0,o0]
   have m3:s*(2*t+1)=2*s*t+s:=by rw[g0,m2]
   have b1:=g6 (2*t) (a0 _);have b2:=g6 (2*t+1) (by omega);rw[m2]at b1;rw[m3]at b2;have fin:∀h:Nat→R4,Mv n g h (2*s*t) n→Dn h (2*s*t) n→Bl h (2*s) n:=fun h h1 h2 k=>by
    rcases Nat.lt_trichotomy k t with hk|hk|hk
    ·have hle:2*s*k+2*s≤2*s*t:=by rw[←g0];exact c0 _ (by omega)
     have:=g5 k hk;rw[d0 (by omega)];exact this.same fun i q1 q2=>h1.out i (by omega)
    ·subst hk;rw[iX (by omega)];exact h2
    ·have hle:2*s*t+2*s≤2*s*k:=by rw[←g0];exact c0 _ (by omega)
     intro i j q1 q2 q3;omega
   by_cases hc:2*s*t+s<n
   ·rw[ct (decide_eq_true hc)];rw[d0 (by omega)]at b1;rw[iX (by omega)]at b2;obtain⟨h,h1,h2,h3⟩:=mr hN hn (g2.bd hf) (a:=2*s*t) (m:=2*s*t+s) (b:=n) (by omega) hc (a0 _) b1 b2;rw[h1];simp only[iA];obtain⟨f',r1,r2,r3⟩:=I3 hN hn K q (2*s) h (h2.bd (g2.bd hf)) (by omega) (by omega) (by omega) (fin h h2 h3);exact⟨f',r1,(g2.trans (h2.mono (by omega) (by omega))).trans r2,r3⟩
   ·rw[cf (decide_eq_false hc)];rw[iX (by omega)]at b1;obtain⟨f',r1,r2,r3⟩:=I3 hN hn K q (2*s) g (g2.bd hf) (by omega) (by omega) (by omega) (fin g (Mv.refl _ _ _ _) b1);exact⟨f',r1,g2.trans r2,r3⟩
  ·rw[cf (decide_eq_false hlt)];refine⟨f,rfl,Mv.refl _ _ _ _,?_⟩;have:=hd 0;rw[Nat.mul_zero,iX (by omega)]at this;exact this
theorem mj {N:Nat}(hN:2000010<N){n:Nat}(hn:n≤1000000){f:Nat→R4}(hf:Bd f):∃f',Q124.f N (n:Int) (F f n)=some (F f' n)∧Mv n f f' 0 n∧Dn f' 0 n:=by
 unfold Q124.f;obtain⟨g,t,g1,g2,g3,g4,g5⟩:=Ig hN hn (fun y13 y14 y15 y16=>(Q122.f N y15 y13 y16).bind fun r17=>Q124.l7 N N y13 y14 r17 (fun y37=>some y37)) N 0 f hf (by omega) (by omega) (fun k hk=>by omega);have g1':Q124.l2 N N (n:Int) 20 0 20 (F f n) _=_:=g1;rw[g1'];obtain⟨h,h1,h2,h3⟩:=jy (N:=N) (by omega) (a:=20*t) (b:=n) (a0 _) hn (by omega) (g2.bd hf);rw[h1];simp only[iA];obtain⟨f',r1,r2,r3⟩:=I3 hN hn (fun y37=>some y37) N 20 h (h2.bd (g2.bd hf)) (by omega) (by omega) (by omega) (fun k=>by
  rcases Nat.lt_trichotomy k t with hk|hk|hk
  ·rw[d0 (by omega)];exact(g5 k hk).same fun i q1 q2=>h2.out i (by omega)
  ·subst hk;rw[iX (by omega)];exact h3
  ·intro i j q1 q2 q3;omega)
 exact⟨f',r1,(g2.trans (h2.mono (by omega) (by omega))).trans r2,r3⟩
theorem sU {N:Nat}(hN:2000010<N){l:List R4}(hl:l.length≤1000000)(hb:∀x∈l,0≤nn x∧nn x≤1000000):
  ∃l':List R4,Q125.f N (rB l)=some (rB l')∧l'.Perm l∧l'.Pairwise (fun a b=>nn b≤nn a):=by
 have hf:Bd (fun i=>l.getD i (0,0,0,0)):=fun i=>by
  by_cases h:i<l.length
  ·have:l.getD i (0,0,0,0)=l[i]:=by simp[iB,h]
   simp only[this];exact hb _ (aE h)
  ·have:l.getD i (0,0,0,0)=(0,0,0,0):=by simp[iB,List.getElem?_eq_none (Nat.le_of_not_lt h)]
   simp only[this];decide
 obtain⟨f',h1,h2,h3⟩:=mj hN hl hf;have e:F (fun i=>l.getD i (0,0,0,0)) l.length=rB l:=by rw[F,rf]
 have e4:((rB l).length/4:Int)=(l.length:Int):=by rw[xF];omega
 have hp:=h2.perm;rw[rf]at hp;refine⟨tab f' l.length,?_,hp,?_⟩
 ·unfold Q125.f;rw[e4,←e,h1];rfl
 ·unfold tab;rw[List.pairwise_map];refine List.pairwise_lt_range.imp_of_mem fun{a b} ha hb hlt=>?_;exact h3 a b (by omega) (by omega) (f2.mp hb)
theorem lm {N:Nat}{n:Nat}(hn:n≤1000000){R:Type}(K:List Int→Option R):∀(q i j:Nat) (f:Nat→R4),i+j+1=n→i≤j+1→j+1-i<q→
  Q126.l1 N q (i:Int) (j:Int) (F f n) K=K (F (fun k=>if i≤k∧k≤j then f (n-1-k)else f k) n)
 |0,i,j,f,_,_,h=>by omega
 |q+1,i,j,f,h1,h2,hq=>by
  rw[Q126.l1,uF];by_cases hlt:i<j
  ·rw[ct (decide_eq_true hlt),ct (aJ f (by omega)),ct (aJ f (by omega)),ct (aJ f (by omega))];rw[ct (by simp only[List.length_set];exact aJ f (by omega))];simp only[zA];rw[ix f (by omega) (by omega),vD (by omega),lJ (by omega) (by omega),lm hn K q (i+1) (j-1) _ (by omega) (by omega) (by omega)];have e:(fun k=>if i+1≤k∧k≤j-1 then co f i j (n-1-k)else co f i j k)=fun k=>if i≤k∧k≤j then f (n-1-k)else f k:=by
    funext k;simp only[nG]
    repeat' split
    all_goals first|rfl|(exfalso;omega)|(exact absurd trivial (by assumption))|(congr 1;omega)
   rw[e]
  ·rw[cf (decide_eq_false hlt)];have e:(fun k=>if i≤k∧k≤j then f (n-1-k)else f k)=f:=by
    funext k
    repeat' split
    all_goals first|rfl|(exfalso;omega)|(congr 1;omega)
   rw[e]
theorem xN {N:Nat}(hN:1000010<N){l:List R4}(hl:l.length≤1000000):Q126.f N (rB l)=some (rB l.reverse):=by
 unfold Q126.f;have e:F (fun i=>l.getD i (0,0,0,0)) l.length=rB l:=by rw[F,rf]
 have e4:((rB l).length/4:Int)=(l.length:Int):=by rw[xF];omega
 rw[e4];cases hc:l.length with
 |zero=>
  have:l=[]:=i0.mp hc;subst this;have:∃N',N=N'+1:=⟨N-1,by omega⟩
  obtain⟨N',rfl⟩:=this;rfl
 |succ n=>
  have hw:aA (((n+1:Nat):Int)-1)=(n:Int):=by rw[cA (by omega) (by omega)];omega
  rw[hw,←e,hc];have:=lm (N:=N) (n:=n+1) (by omega) (fun y6=>some y6) N 0 n (fun i=>l.getD i (0,0,0,0)) (by omega) (by omega) (by omega);rw[pC]at this;rw[this,F];congr 2;apply List.ext_getElem
  ·rw[cT,j3,hc]
  ·intro k k1 k2;rw[cT]at k1;simp only[tab,List.getElem_map,List.getElem_range,List.getElem_reverse];rw[if_pos (by omega)];simp only[iB];rw[zB (by omega)];simp only[Option.getD_some];congr 1;omega
end Go.Proofs.YtjpdjdhdchjcgaaGreat.Srt
namespace Go.Proofs.YtjpdjdhdchjcgaaGreat.Grp
section
open Go Go.Proofs.YtjpdjdhdchjcgaaGreat.Ev
open Go.Proofs.YtjpdjdhdchjcgaaGreat.Pure (cA)
open Go.Proofs.YtjpdjdhdchjcgaaGreat.Cls (iE zJ qM jK fH nI)
open Go.Proofs.YtjpdjdhdchjcgaaGreat.Srt (R4 rB yJ xF kK ct cf bG uF lJ)
variable {d:Int}
def key (z:K d):List Int:=[z.1.1,z.1.2.1,z.1.2.2]
theorem fg {x y:K d}(h:key x=key y):x=y:=by
 simp only[key,List.cons.injEq,and_true]at h;exact(Da x y).mp (by rw[h.1,h.2.1,h.2.2];simp)
structure Mp (S:K d→Prop)(W:K d→Int→Prop)(ks:List (List Int))(vs:List Int):Prop where
 nd:ks.Nodup
 len:vs.length=ks.length
 sound:∀i (h:i<ks.length),∃z:K d,ks[i]=key z∧S z∧W z (vs.getD i 0)
 full:∀z,S z→key z∈ks
theorem Mp.congr {S S':K d→Prop}{W W':K d→Int→Prop}{ks:List (List Int)}{vs:List Int}(h:Mp S W ks vs)(hs:∀z,S z↔S' z)(hw:∀z v,W z v→W' z v):Mp S' W' ks vs:=
 ⟨h.nd,h.len,fun i hi=>by obtain⟨z,a,b,c⟩:=h.sound i hi;exact⟨z,a,(hs z).mp b,hw _ _ c⟩,fun z hz=>h.full z ((hs z).mpr hz)⟩
theorem Mp.nil {S:K d→Prop}{W:K d→Int→Prop}(hs:∀z,¬S z):Mp S W [] []:=⟨List.nodup_nil,rfl,fun i h=>by simp at h,fun z hz=>absurd hz (hs z)⟩
theorem fk {l:List Int}{ks:List (List Int)}{j:Nat}(h:vE l ks 0=some j):∃hj:j<ks.length,ks[j]=l:=by
 obtain⟨_,h2⟩:=qM l ks 0 j h;rw[Nat.sub_zero]at h2;exact List.getElem?_eq_some_iff.mp h2
theorem Mp.get {S:K d→Prop}{W:K d→Int→Prop}{ks:List (List Int)}{vs:List Int}(h:Mp S W ks vs)(z:K d):(S z∧W z (rE (key z) ks vs))∨(¬S z∧rE (key z) ks vs=0):=by
 unfold rE;cases hm:vE (key z) ks 0 with
 |none=>exact .inr ⟨fun hs=>zJ _ _ _ hm (h.full z hs),rfl⟩
 |some j=>obtain⟨hj,e⟩:=fk hm;obtain⟨z',a,b,c⟩:=h.sound j hj;have:z=z':=fg (e.symm.trans a);subst this;exact .inl ⟨b,c⟩
theorem Mp.put {S:K d→Prop}{W:K d→Int→Prop}{ks:List (List Int)}{vs:List Int}(h:Mp S W ks vs)(z:K d){v:Int}(hv:W z v):Mp (fun y=>S y∨y=z) W (vB (key z) ks) (gG (key z) v ks vs):=by
 unfold vB eQ gG;cases hm:vE (key z) ks 0 with
 |none=>
  have hn:=zJ _ _ _ hm;simp only[Option.isSome_none,cond_false];refine⟨?_,by simp[h.len],fun i hi=>?_,fun y hy=>?_⟩
  ·rw[List.nodup_append];exact⟨h.nd,by simp,fun a ha b hb=>by simp only[y0]at hb;subst hb;exact fun e=>hn (e▸ha)⟩
  ·simp only[sS,List.length_singleton]at hi;by_cases hlt:i<ks.length
   ·obtain⟨y,a,b,c⟩:=h.sound i hlt;refine⟨y,by rw[List.getElem_append_left hlt];exact a,.inl b,?_⟩;rw[iB,List.getElem?_append_left (by rw[h.len];exact hlt),←iB];exact c
   ·have:i=ks.length:=by omega
    subst this;refine⟨z,by simp,.inr rfl,?_⟩;rw[iB,List.getElem?_append_right (by rw[h.len];exact a0 _),h.len];simpa using hv
  ·rcases hy with hy|rfl
   ·exact v0 _ (h.full y hy)
   ·simp
 |some j=>
  obtain⟨hj,e⟩:=fk hm;simp only[Option.isSome_some,cond_true];refine⟨h.nd,by simp[h.len],fun i hi=>?_,fun y hy=>?_⟩
  ·obtain⟨y,a,b,c⟩:=h.sound i hi;by_cases hij:j=i
   ·subst hij;have:z=y:=fg (e.symm.trans a);subst this;refine⟨z,a,.inl b,?_⟩;rw[iB,List.getElem?_set_self (by rw[h.len];exact hj)];exact hv
   ·refine⟨y,a,.inl b,?_⟩;rw[iB,List.getElem?_set_ne hij,←iB];exact c
  ·rcases hy with hy|rfl
   ·exact h.full y hy
   ·rw[←e];exact aE hj
theorem Mp.keys {S:K d→Prop}{W:K d→Int→Prop}{ks:List (List Int)}{vs:List Int}(h:Mp S W ks vs){L:List (K d)}(hL:iy L):ks.length≤L.length:=by
 have:=List.Nodup.length_le_of_subset (l₂:=L.map key) h.nd (fun r hr=>by obtain⟨i,hi,rfl⟩:=yK hr;obtain⟨z,a,_⟩:=h.sound i hi;rw[a];exact b0 (hL.all z));simpa using this
theorem tr {k:List Int}{ks:List (List Int)}{vs:List Int}(hl:vs.length=ks.length)(x y:Int):(gG k x ks (List.take (List.length ks) vs)).set ((eE k ks).toNat) y=gG k y ks vs:=by
 rw[zE (by omega)];unfold gG eE;cases hm:vE k ks 0 with
 |none=>simp[←hl]
 |some j=>simp
theorem mn {k:List Int}{ks:List (List Int)}:((decide (0≤(eE k ks)))&&(decide ((eE k ks)<((vB k ks).length:Int))))=true:=by
 unfold eE vB eQ;cases hm:vE k ks 0 with
 |none=>simp;omega
 |some j=>obtain⟨hj,_⟩:=fk hm;simp;omega
def bF (g:K d×Nat):R4:=(g.1.1.1,g.1.1.2.1,g.1.1.2.2,(g.2:Int))
theorem xT {L:List (K d)}{i:Nat}(h:i<L.length):(yA (L.map (·.1))).getD (i*3) 0=L[i].1.1∧(yA (L.map (·.1))).getD (i*3+1) 0=L[i].1.2.1∧(yA (L.map (·.1))).getD (i*3+2) 0=L[i].1.2.2:=by
 have:=jK (R:=L.map (·.1)) (i:=i) (by simpa using h);simpa using this
theorem yT {L:List (K d×Nat)}{i:Nat}(h:i<L.length):(rB (L.map bF)).getD (i*4) 0=L[i].1.1.1∧(rB (L.map bF)).getD (i*4+1) 0=L[i].1.1.2.1∧(rB (L.map bF)).getD (i*4+2) 0=L[i].1.1.2.2∧(rB (L.map bF)).getD (i*4+3) 0=(L[i].2:Int):=by
 have:=kK (l:=L.map bF) (i:=i) (by simpa using h);simpa[bF]using this
theorem gF (L:List (K d)):((yA (L.map (·.1))).length/3:Int)=(L.length:Int):=by rw[fH];simp
theorem wE (L:List (K d×Nat)):((rB (L.map bF)).length/4:Int)=(L.length:Int):=by rw[xF];simp
theorem nY (L:List (K d))(z:K d):yA (L.map (·.1))++[z.1.1,z.1.2.1,z.1.2.2]=yA ((L++[z]).map (·.1)):=by rw[u0,nJ];rfl
theorem oY (L:List (K d×Nat))(z:K d×Nat):rB (L.map bF)++[z.1.1.1,z.1.1.2.1,z.1.1.2.2,(z.2:Int)]=rB ((L++[z]).map bF):=by rw[u0,yJ];rfl
theorem qn {L:List (K d)}(h:L.length≤2900000000000):fB (((yA (L.map (·.1))).length+3)/3) 24=true:=by
 rw[nF];simp only[fB,decide_eq_true_eq,hE];omega
theorem tK {L:List (K d×Nat)}(h:L.length≤2000000000000):fB (((rB (L.map bF)).length+4)/4) 32=true:=by
 rw[xF];simp only[fB,decide_eq_true_eq,hE];omega
theorem jZ {N:Nat}(hN:8589934600<N)(hd:iE d){L:List (K d)}(hL:iy L)(hb:L.length≤45000){size m:Nat}(hs:0<size)(hm:L.length=size*m){R:Type}(x8:List Int)(x10:Int)
  (K0:List Int→Int→Int→Int→Int→List (List Int)→List Int→Option R):∀(q i:Nat) (ks:List (List Int)) (vs:List Int),i≤L.length→L.length-i<q→
   Mp (fun z=>∃j,∃hj:j<L.length,j<i∧z=pw (bC hd) L[j] m) (fun z v=>∃n:Nat,v=n∧wU (bC hd) z n) ks vs→
   ∃ks' vs',Mp (fun z=>∃j,∃hj:j<L.length,z=pw (bC hd) L[j] m) (fun z v=>∃n:Nat,v=n∧wU (bC hd) z n) ks' vs'∧
    Q130.l3 N q x8 (L.length:Int) x10 (size:Int) (yA (L.map (·.1))) (L.length:Int) (i:Int) (one hd).1.1 (one hd).1.2.1 (one hd).1.2.2 ks vs K0=K0 x8 x10 (one hd).1.1 (one hd).1.2.1 (one hd).1.2.2 ks' vs'
 |0,i,ks,vs,_,h,_=>by omega
 |q+1,i,ks,vs,hi,hq,h=>by
  rw[Q130.l3,uF];by_cases hlt:i<L.length
  ·have i1:i+1≤L.length:=hlt;have i2:L.length- (i+1)<q:=by omega
   have i3:i<9223372036854775807:=by omega
   rw[ct (decide_eq_true hlt),gF,ct (bG hlt),ct (jh hs)];obtain⟨e1,e2,e3⟩:=xT hlt;have hsl:size≤L.length:=by rw[hm];exact j0 _ (Nat.pos_of_ne_zero fun e=>by subst e;have:=hL.pos (bC hd);omega)
   have hdiv:L.length/size=m:=by rw[hm,Nat.mul_div_cancel_left _ hs]
   have hml:m≤L.length:=by rw[hm];exact Nat.le_mul_of_pos_left _ hs
   rw[ms,hdiv,gW (by omega)];simp only[zA,e1,e2,e3];rw[iP hN hd _ (by omega) (by omega)];simp only[iA,zA];generalize hz:pw (bC hd) L[i] m=z;have hz1:pw (bC hd) z size=(bC hd).one:=by rw[←hz,←aH,v1,←hm];exact fG hL _
   have step:∀{ks':List (List Int)} {vs':List Int},Mp (fun y=>(∃j,∃hj:j<L.length,j<i∧y=pw (bC hd) L[j] m)∨y=z) (fun z v=>∃n:Nat,v=n∧wU (bC hd) z n) ks' vs'→
     Mp (fun y=>∃j,∃hj:j<L.length,j<i+1∧y=pw (bC hd) L[j] m) (fun z v=>∃n:Nat,v=n∧wU (bC hd) z n) ks' vs':=fun{ks' vs'} hM=>hM.congr (fun y=>by
      constructor
      ·rintro(⟨j,hj,h1,h2⟩|rfl)
       ·exact⟨j,hj,by omega,h2⟩
       ·exact⟨i,hlt,by omega,hz.symm⟩
      ·rintro⟨j,hj,h1,h2⟩;by_cases e:j=i
       ·subst e;exact .inr (h2.trans hz)
       ·exact .inl ⟨j,hj,by omega,h2⟩) (fun _ _ h=>h)
   have hg:=h.get z;unfold key at hg;by_cases h0:rE [z.1.1,z.1.2.1,z.1.2.2] ks vs=0
   ·rw[ct (beq_iff_eq.mpr h0)];obtain⟨n,n1,n2,n3⟩:=cR hN hd z hs (by omega) hz1;rw[n3];simp only[iA];rw[vD i3];exact jZ hN hd hL hb hs hm x8 x10 K0 q (i+1) _ _ i1 i2 (step (h.put z ⟨n,rfl,n1⟩))
   ·rw[cf (beq_eq_false_iff_ne.mpr h0),vD i3];have hS:=(hg.resolve_right fun h1=>h0 h1.2).1;exact jZ hN hd hL hb hs hm x8 x10 K0 q (i+1) _ _ i1 i2 (step (h.congr (fun y=>⟨.inl,fun h=>h.elim id fun e=>e▸hS⟩) (fun _ _ h=>h)))
  ·rw[cf (decide_eq_false hlt)];refine⟨ks,vs,h.congr (fun z=>⟨fun⟨j,hj,_,e⟩=>⟨j,hj,e⟩,fun⟨j,hj,e⟩=>⟨j,hj,by omega,e⟩⟩) (fun _ _ h=>h),rfl⟩
theorem qU {N:Nat}(hd:iE d){L:List (K d)}(hb:L.length≤45000){S:K d→Prop}{ks:List (List Int)}{vs:List Int}(hM:Mp S (fun z v=>∃n:Nat,v=n∧wU (bC hd) z n) ks vs){R:Type}(x36 x40 x41 x42:Int)(K0:Int→Int→Int→Int→List Int→Option R):
  ∀(q i:Nat) (rs:List (K d×Nat)),i≤L.length→L.length-i<q→rs.length≤i→(∀r∈rs,S r.1∧1<r.2∧wU (bC hd) r.1 r.2)→(∀j (hj:j<L.length),j<i→S L[j]→L[j]≠(bC hd).one→∃n,(L[j],n)∈rs)→
   ∃rs':List (K d×Nat),rs'.length≤L.length∧(∀r∈rs',S r.1∧1<r.2∧wU (bC hd) r.1 r.2)∧(∀z∈L,S z→z≠(bC hd).one→∃n,(z,n)∈rs')∧
    Q130.l11 N q x36 (yA (L.map (·.1))) (L.length:Int) (i:Int) x40 x41 x42 ks vs (rB (rs.map bF)) K0=K0 x36 x40 x41 x42 (rB (rs'.map bF))
 |0,i,rs,_,h,_,_,_=>by omega
 |q+1,i,rs,hi,hq,hl,h1,h2=>by
  rw[Q130.l11,uF];by_cases hlt:i<L.length
  ·rw[ct (decide_eq_true hlt),gF,ct (bG hlt)];obtain⟨e1,e2,e3⟩:=xT hlt;simp only[zA,e1,e2,e3];have hg:=hM.get L[i];unfold key at hg;generalize hv:rE [L[i].1.1,L[i].1.2.1,L[i].1.2.2] ks vs=v at hg;by_cases hc:v>1
   ·rw[ct (decide_eq_true hc),ct (tK (by omega)),vD (by omega)];obtain⟨hS,n,rfl,hO⟩:=hg.resolve_right fun h=>by omega
    rw[oY rs (L[i],n)];refine qU hd hb hM x36 x40 x41 x42 K0 q (i+1) (rs++[(L[i],n)]) (by omega) (by omega) (by simp;omega) (fun r hr=>?_) (fun j hj hji hSj hne=>?_)
    ·simp only[List.mem_append,y0]at hr;rcases hr with hr|rfl
     ·exact h1 r hr
     ·exact⟨hS,by simp only;omega,hO⟩
    ·by_cases e:j=i
     ·subst e;exact⟨n,by simp⟩
     ·obtain⟨k,hk⟩:=h2 j hj (by omega) hSj hne;exact⟨k,v0 _ hk⟩
   ·rw[cf (decide_eq_false hc),vD (by omega)];refine qU hd hb hM x36 x40 x41 x42 K0 q (i+1) rs (by omega) (by omega) (by omega) h1 (fun j hj hji hSj hne=>?_);by_cases e:j=i
    ·subst e;exfalso;obtain⟨_,n,hn,hO⟩:=hg.resolve_right fun h=>h.1 hSj;have:n=1:=by have:=hO.1;omega
     subst this;have:=hO.kill;rw[vH]at this;exact hne this
    ·exact h2 j hj (by omega) hSj hne
  ·rw[cf (decide_eq_false hlt)];refine⟨rs,by omega,h1,fun z hz hS hne=>?_,rfl⟩;obtain⟨j,hj,rfl⟩:=yK hz;exact h2 j hj (by omega) hS hne
end
section
open Go Go.Proofs.YtjpdjdhdchjcgaaGreat.Ev
open Go.Proofs.YtjpdjdhdchjcgaaGreat.Pure (cA)
open Go.Proofs.YtjpdjdhdchjcgaaGreat.Cls (iE nI jK fH)
open Go.Proofs.YtjpdjdhdchjcgaaGreat.Srt (R4 rB yJ xF kK ct cf bG uF lJ)
variable {d:Int}
theorem uf {N:Nat}(hN:8589934600<N)(hd:iE d)(c:K d){n:Nat}(hn:n≤50000)(g:K d){R:Type}(x89 x91 x92:Int)(x93:List Int)(x94:List (List Int))(x95 x107:List Int)(x108:Nat)(x109:List Nat)(x110:Nat)
  (K0:Int→Int→Int→List Int→List (List Int)→List Int→Int→Int→Int→Int→List Int→List Int→Nat→List Nat→Nat→Option R):∀(q k:Nat) (Y:List (K d)),0<k→n-k<q→Y.length≤2500000000+k→
   ∃Y':List (K d),Y'.length=Y.length+(n-k)∧(∀z∈Y',z∈Y∨∃e,e<n∧z=mul hd g (pw (bC hd) c e))∧(∀z∈Y,z∈Y')∧(∀e,k≤e→e<n→mul hd g (pw (bC hd) c e)∈Y')∧
   Q130.l30 N q x89 (k:Int) x91 x92 x93 x94 x95 c.1.1 c.1.2.1 c.1.2.2 (n:Int) (yA (Y.map (·.1))) g.1.1 g.1.2.1 g.1.2.2 (pw (bC hd) c k).1.1 (pw (bC hd) c k).1.2.1 (pw (bC hd) c k).1.2.2 x107 x108 x109 x110 K0
    =K0 x89 x91 x92 x93 x94 x95 c.1.1 c.1.2.1 c.1.2.2 (n:Int) (yA (Y'.map (·.1))) x107 x108 x109 x110
 |0,k,Y,_,h,_=>by omega
 |q+1,k,Y,hk,hq,hY=>by
  rw[Q130.l30,uF];by_cases hlt:k<n
  ·rw[ct (decide_eq_true hlt),tI hN hd g];simp only[iA];rw[ct (qn (by omega)),tI hN hd (pw (bC hd) c k) c,nY,vD (by omega)];simp only[iA];obtain⟨Y',h1,h2,h3,h4,h5⟩:=uf hN hd c hn g x89 x91 x92 x93 x94 x95 x107 x108 x109 x110 K0 q (k+1) (Y++[mul hd g (pw (bC hd) c k)]) (by omega) (by omega) (by simp;omega);refine⟨Y',by rw[h1];simp;omega,fun z hz=>?_,fun z hz=>h3 z (v0 _ hz),fun e e1 e2=>?_,h5⟩
   ·rcases h2 z hz with h|h
    ·simp only[List.mem_append,y0]at h;rcases h with h|rfl
     ·exact .inl h
     ·exact .inr ⟨k,hlt,rfl⟩
    ·exact .inr h
   ·by_cases e3:e=k
    ·subst e3;exact h3 _ (by simp)
    ·exact h4 e (by omega) e2
  ·rw[cf (decide_eq_false hlt)];exact⟨Y,by omega,fun z hz=>.inl hz,fun z hz=>hz,fun e e1 e2=>by omega,rfl⟩
theorem ko {N:Nat}(hN:8589934600<N)(hd:iE d)(c:K d){n:Nat}(hn:n≤50000){S:K d→Prop}{W:K d→Int→Prop}{ks:List (List Int)}{vs:List Int}(hM:Mp S W ks vs)(hkl:ks.length≤45000){R:Type}(x65 x66 x67:Int)(x68 x76:List Int)(r:R)
  (K0:Int→Int→Int→List Int→List (List Int)→List Int→List Int→List Int→Option R)
  (hK:∀Y:List (K d),Y.length≤2500000000→(∀z∈Y,∃g e,S g∧e<n∧z=mul hd g (pw (bC hd) c e))→(∀g e,S g→1≤e→e<n→mul hd g (pw (bC hd) c e)∈Y)→K0 x65 x66 x67 x68 ks vs (yA (Y.map (·.1))) x76=some r):
  ∀(q:Nat) (rem:List Nat) (Y:List (K d)) (x79:Nat),(∀j∈rem,j<ks.length)→rem.length<q→Y.length+50000*rem.length≤2500000000→(∀z∈Y,∃g e,S g∧e<n∧z=mul hd g (pw (bC hd) c e))→
   (∀g e,S g→1≤e→e<n→mul hd g (pw (bC hd) c e)∈Y∨∃j∈rem,ks.getD j []=key g)→
   Q130.l27 N q x65 x66 x67 x68 ks vs c.1.1 c.1.2.1 c.1.2.2 (n:Int) (yA (Y.map (·.1))) x76 ks.length rem x79 K0=some r
 |0,rem,Y,x79,_,h,_,_,_=>by omega
 |q+1,rem,Y,x79,h1,h2,h3,h4,h5=>by
  rw[Q130.l27];have hb:Nat.beq ks.length ks.length=true:=by simp
  rw[ct hb];cases hr:rem with
  |nil=>subst hr;exact hK Y (by omega) h4 fun g e g1 g2 g3=>(h5 g e g1 g2 g3).resolve_right fun⟨j,hj,_⟩=>by cases hj
  |cons x0 r0=>
   rw[←hr,cf (show rem.isEmpty=false by rw[hr];rfl)];refine nI (by rw[hr];simp) fun p hp=>?_;have hg:rem.getD p 0=rem[p]:=by simp[iB,zB hp]
   have hj:=h1 rem[p] (aE hp);have hblt:Nat.blt rem[p] ks.length=true:=by simpa[Nat.blt_eq]using hj
   obtain⟨g,k1,k2,k3⟩:=hM.sound _ hj;have hkg:ks.getD rem[p] []=key g:=by simp[iB,zB hj,k1]
   have hlen:(rem.eraseIdx p).length+1=rem.length:=by rw[List.length_eraseIdx];simp[hp];omega
   rw[hg,ct (by rw[hb,hblt];rfl),hkg];simp only[key,f3,List.getD_cons_succ];have h1c:pw (bC hd) c 1=c:=vH c;obtain⟨Y',y1,y2,y3,y4,y5⟩:=uf hN hd c hn g x65 x66 x67 x68 ks vs x76 ks.length (rem.eraseIdx p) rem[p] (fun y128 y129 y130 y131 y132 y133 y134 y135 y136 y137 y138 y139 y140 y141 y142=>
      Q130.l27 N q y128 y129 y130 y131 y132 y133 y134 y135 y136 y137 y138 y139 y140 y141 y142 K0) N 1 Y (by omega) (by omega) (by omega)
   rw[h1c]at y5;refine y5.trans ?_;refine ko hN hd c hn hM hkl x65 x66 x67 x68 x76 r K0 hK q _ Y' _ (fun j hj=>h1 j (List.mem_of_mem_eraseIdx hj)) (by omega) (by omega) (fun z hz=>?_) (fun g' e g1 g2 g3=>?_)
   ·rcases y2 z hz with h|⟨e,e1,e2⟩
    ·exact h4 z h
    ·exact⟨g,e,k2,e1,e2⟩
   ·rcases h5 g' e g1 g2 g3 with h|⟨j,j1,j2⟩
    ·exact .inl (y3 _ h)
    ·by_cases he:j=rem[p]
     ·subst he;rw[hkg]at j2;have:g=g':=fg j2;subst this;exact .inl (y4 e g2 g3)
     ·refine .inr ⟨j,?_,j2⟩;have:=(Cls.fY rem p hp).mem_iff (a:=j);simp only[n0]at this;exact(this.mpr j1).resolve_left he
theorem ar {N:Nat}(hd:iE d){Y:List (K d)}(hY:Y.length≤2500000000){S:K d→Prop}{B:Int}(hB0:1≤B)(hB:B≤1000000000000000){R:Type}(x151 x152 x153:Int)(x156 x159:List Int)(K0:Int→Int→Int→List Int→List (List Int)→List Int→List Int→Option R):
  ∀(q i:Nat) (ks:List (List Int)) (vs:List Int),i≤Y.length→Y.length-i<q→Mp (fun z=>S z∨∃j,∃hj:j<Y.length,j<i∧z=Y[j]) (fun _ v=>1≤v∧v≤B+i) ks vs→
   ∃ks' vs',Mp (fun z=>S z∨z∈Y) (fun _ v=>1≤v∧v≤B+Y.length) ks' vs'∧Q130.l36 N q x151 x152 x153 (Y.length:Int) (i:Int) x156 ks vs x159 (yA (Y.map (·.1))) K0=K0 x151 x152 x153 x156 ks' vs' x159
 |0,i,ks,vs,_,h,_=>by omega
 |q+1,i,ks,vs,hi,hq,h=>by
  rw[Q130.l36,uF];by_cases hlt:i<Y.length
  ·have i1:i+1≤Y.length:=hlt;have i2:Y.length- (i+1)<q:=by omega
   have i3:i<9223372036854775807:=by omega
   rw[ct (decide_eq_true hlt),gF,ct (bG hlt)];obtain⟨e1,e2,e3⟩:=xT hlt;simp only[zA,e1,e2,e3];rw[ct mn,tr h.len,vD i3];have hv:(1:Int)≤aA (rE [Y[i].1.1,Y[i].1.2.1,Y[i].1.2.2] ks vs+1)∧aA (rE [Y[i].1.1,Y[i].1.2.1,Y[i].1.2.2] ks vs+1)≤B+((i+1:Nat):Int):=by rcases h.get Y[i]with⟨_,g1⟩|⟨_,g1⟩<;>unfold key at g1<;>rw[cA (by omega) (by omega)]<;>omega
   have hw:=(h.congr (W':=fun _ v=>1≤v∧v≤B+((i+1:Nat):Int)) (fun _=>Iff.rfl) (fun z v hv=>⟨hv.1,by omega⟩)).put Y[i] (v:=aA (rE [Y[i].1.1,Y[i].1.2.1,Y[i].1.2.2] ks vs+1)) hv;exact ar hd hY hB0 hB x151 x152 x153 x156 x159 K0 q (i+1) _ _ i1 i2 (hw.congr (fun z=>by
    constructor
    ·rintro((h|⟨j,hj,h1,h2⟩)|rfl)
     ·exact .inl h
     ·exact .inr ⟨j,hj,by omega,h2⟩
     ·exact .inr ⟨i,hlt,by omega,rfl⟩
    ·rintro(h|⟨j,hj,h1,h2⟩)
     ·exact .inl (.inl h)
     ·by_cases e:j=i
      ·subst e;exact .inr h2
      ·exact .inl (.inr ⟨j,hj,by omega,h2⟩)) (fun _ _ h=>h))
  ·rw[cf (decide_eq_false hlt)];have:i=Y.length:=by omega
   subst this;refine⟨ks,vs,h.congr (fun z=>?_) (fun _ _ h=>h),rfl⟩;constructor
   ·rintro(h|⟨j,hj,_,rfl⟩)
    ·exact .inl h
    ·exact .inr (aE hj)
   ·rintro(h|h)
    ·exact .inl h
    ·obtain⟨j,hj,rfl⟩:=yK h;exact .inr ⟨j,hj,hj,rfl⟩
theorem fc {N:Nat}(hN:8589934600<N)(hd:iE d){L:List (K d)}(hL:iy L)(hb:L.length≤45000){p:Nat}(hp:1<p){rs:List (K d×Nat)}(hrs:rs.length≤45000)(hO:∀r∈rs,r.2≤50000∧wU (bC hd) r.1 r.2){R:Type}(r:R)(K0:List Int→Option R)
  (hK:K0 (rB ((gr (bC hd) p [] rs).map bF))=some r):∀(q i:Nat) (out:List (K d×Nat)) (ks:List (List Int)) (vs:List Int),i≤rs.length→rs.length-i<q→out.length≤i→gr (bC hd) p out (rs.drop i)=gr (bC hd) p [] rs→
   Mp (fun z=>In (bC hd) out z) (fun _ v=>1≤v∧v≤1+2500000000*(i:Int)) ks vs→Q130.l21 N q (p:Int) (rs.length:Int) (i:Int) (rB (out.map bF)) ks vs (rB (rs.map bF)) K0=some r
 |0,i,out,ks,vs,_,h,_,_,_=>by omega
 |q+1,i,out,ks,vs,hi,hq,ho,hgr,hM=>by
  rw[Q130.l21,uF];by_cases hlt:i<rs.length
  ·have i1:i+1≤rs.length:=hlt;have i2:rs.length- (i+1)<q:=by omega
   have i3:i<9223372036854775807:=by omega
   have ho1:out.length+1≤i+1:=by omega
   rw[ct (decide_eq_true hlt),wE,ct (bG hlt),ct (jh (show 0<p by omega))];obtain⟨e1,e2,e3,e4⟩:=yT hlt;simp only[zA,e1,e2,e3,e4];obtain⟨o1,o2⟩:=hO _ (aE hlt);have o3:=o2.1;rw[cD hlt,gr]at hgr;generalize hc:rs[i]=c at*;have hdv:c.2/p≤50000:=Nat.le_trans (Nat.div_le_self _ _) o1;have hdv2:((c.2/p:Nat):Int)≤((50000:Nat):Int):=Int.ofNat_le.mpr hdv;rw[ms,gW (d1 hdv (by decide)),iP hN hd c.1 (Int.natCast_nonneg _) (Int.lt_of_le_of_lt hdv2 (by decide))];simp only[iA,zA];have hg:=hM.get (pw (bC hd) c.1 (c.2/p));unfold key at hg;by_cases hin:In (bC hd) out (pw (bC hd) c.1 (c.2/p))
   ·have hv:=(hg.resolve_right fun h=>h.1 hin).2.1;rw[ct (decide_eq_true (by omega)),vD i3];rw[if_pos hin]at hgr;exact fc hN hd hL hb hp hrs hO r K0 hK q (i+1) out ks vs i1 i2 (by omega) hgr (hM.congr (fun _=>Iff.rfl) (fun z v hv=>⟨hv.1,by omega⟩))
   ·have hv:=(hg.resolve_left fun h=>hin h.1).2;rw[if_neg hin]at hgr;rw[cf (decide_eq_false (by omega)),ct (tK (by omega)),oY];have hkl:=hM.keys hL;refine ko hN hd c.1 o1 hM (by omega) (p:Int) (rs.length:Int) (i:Int) _ _ r _ (fun Y y1 y2 y3=>?_) N (List.range ks.length) [] ks.length (fun j hj=>f2.mp hj) (by simp;omega) (by simp;omega) (fun z hz=>by cases hz) (fun g e g1 g2 g3=>.inr ?_)
    ·rw[gF];obtain⟨ks',vs',m1,m2⟩:=ar (N:=N) hd y1 (S:=fun z=>In (bC hd) out z) (B:=1+2500000000*(i:Int)) (by omega) (by omega) (p:Int) (rs.length:Int) (i:Int) (rB ((out++[c]).map bF)) (rB (rs.map bF)) (fun y168 y169 y170 y171 y172 y173 y174=>Q130.l21 N q y168 y169 (aA (y170+1)) y171 y172 y173 y174 K0) N 0 ks vs (by omega) (by omega)
      (hM.congr (fun z=>⟨.inl,fun h=>h.elim id fun⟨j,_,hj,_⟩=>by omega⟩) (fun z v hv=>⟨hv.1,by simpa using hv.2⟩))
     rw[pC]at m2;rw[m2,vD i3];refine fc hN hd hL hb hp hrs hO r K0 hK q (i+1) (out++[c]) ks' vs' i1 i2 (by simp;omega) hgr (m1.congr (fun z=>?_) (fun z v hv=>⟨hv.1,by omega⟩));rw[In.app_iff];constructor
     ·rintro(h|h)
      ·exact⟨z,0,h,((bC hd).mul_one z).symm⟩
      ·obtain⟨g,e,g1,g2,g3⟩:=y2 z h;exact⟨g,e,g1,g3⟩
     ·rintro⟨y,e,h1,rfl⟩;rw[←vN o2.kill];rcases Nat.eq_zero_or_pos (e%c.2)with h0|h0
      ·rw[h0];exact .inl (by rw[show pw (bC hd) c.1 0=(bC hd).one from rfl,(bC hd).mul_one];exact h1)
      ·exact .inr (y3 y (e%c.2) h1 h0 (Nat.mod_lt _ o3))
    ·obtain⟨j,hj,hk⟩:=yK (hM.full g g1);exact⟨j,f2.mpr hj,by simp[iB,zB hj,hk]⟩
  ·rw[cf (decide_eq_false hlt)];rw[hT (by omega),gr]at hgr;rw[hgr];exact hK
end
section
open Go Go.Proofs.YtjpdjdhdchjcgaaGreat.Ev
open Go.Proofs.YtjpdjdhdchjcgaaGreat.Pure (cA)
open Go.Proofs.YtjpdjdhdchjcgaaGreat.Cls (iE nI jK fH qR)
open Go.Proofs.YtjpdjdhdchjcgaaGreat.Srt (R4 rB yJ xF kK nM ct cf bG uF lJ sU xN)
variable {d:Int}
theorem Cd {x y:K d×Nat}(h:bF x=bF y):x=y:=by
 obtain⟨x1,x2⟩:=x;obtain⟨y1,y2⟩:=y;simp only[bF,Prod.mk.injEq]at h;obtain⟨h1,h2,h3,h4⟩:=h;have e1:x1=y1:=(Da x1 y1).mp (by rw[h1,h2,h3];simp);have e2:x2=y2:=by omega
 rw[e1,e2]
theorem F6 {rs:List (K d×Nat)}:∀l:List R4,(∀x∈l,∃r∈rs,x=bF r)→∃rs':List (K d×Nat),rs'.map bF=l∧∀r∈rs',r∈rs
 | [],_=>⟨[],rfl,fun r h=>by cases h⟩
 |x::l,h=>by
  obtain⟨r,hr,rfl⟩:=h x (by simp);obtain⟨rs',h1,h2⟩:=F6 l (fun y hy=>h y (hX _ hy));refine⟨r::rs',by simp[h1],fun y hy=>?_⟩;rcases n0.mp hy with rfl|hy
  ·exact hr
  ·exact h2 y hy
theorem oy {G:Type}{A:AG G}{p:Nat}:∀(rs out:List (G×Nat)),(gr A p out rs).length≤out.length+rs.length
 | [],out=>by rw[gr];simp
 |c::rs,out=>by
  rw[gr];split
  ·have:=oy (A:=A) (p:=p) rs out;simp only[hI];omega
  ·have:=oy (A:=A) (p:=p) rs (out++[c]);simp only[sS,hI,List.length_nil]at this⊢;omega
theorem xg {N:Nat}(hN:8589934600<N)(hd:iE d){L:List (K d)}(hL:iy L)(hb:L.length≤45000){p a m:Nat}(hp:jE p)(hm:L.length=p^a*m)(hc:Nat.Coprime (p^a) m):
  ∃gs:List (K d×Nat),dc (bC hd) (p^a) gs∧gs.length≤45000∧Q130.f N (yA (L.map (·.1))) (one hd).1.1 (one hd).1.2.1 (one hd).1.2.2 (L.length:Int) (p:Int) ((p^a:Nat):Int)=some (rB (gs.map bF)):=by
 have hs:0<p^a:=Nat.pow_pos (by have:=hp.1;omega);have hL0:=hL.pos (bC hd);have hm0:0<m:=Nat.pos_of_ne_zero fun e=>by subst e;omega
 have hsl:p^a≤L.length:=by rw[hm];exact j0 _ hm0
 unfold Q130.f;rw[gF];obtain⟨ks,vs,hM,e1⟩:=jZ hN hd hL hb hs hm (R:=List Int) (yA (L.map (·.1))) (p:Int) (fun y29 y30 y31 y32 y33 y34 y35=>
   Q130.l11 N N y30 y29 (y29.length/3:Int) 0 y31 y32 y33 y34 y35 []
    (fun y51 y52 y53 y54 y55=>
     (Q125.f N y55).bind fun r56=>
     Q130.l21 N N y51 (r56.length/4:Int) 0 [] (vB [y52,y53,y54] []) (gG [y52,y53,y54] 1 [] []) r56
      (fun y176=>
       some y176))) N 0 [] [] (by omega) (by omega) (Mp.nil fun z ⟨j,_,hj,_⟩=>by omega)
 rw[pC]at e1;rw[e1,gF];have hS:∀z:K d,(∃j,∃hj:j<L.length,z=pw (bC hd) L[j] m)↔pw (bC hd) z (p^a)=(bC hd).one:=fun z=>by
  constructor
  ·rintro⟨j,hj,rfl⟩;rw[←aH,v1,←hm];exact fG hL _
  ·intro hz;obtain⟨u',⟨u,rfl⟩,hu⟩:=Hu hs hm0 hc;obtain⟨j,hj,e⟩:=yK (hL.all (pw (bC hd) z u));refine⟨j,hj,?_⟩;rw[e,←aH,v1 u m,←vN hz,hu,vN hz,vH]
 obtain⟨rs,r1,r2,r3,e2⟩:=qU (N:=N) hd hb (hM.congr hS (fun _ _ h=>h)) (R:=List Int) (p:Int) (one hd).1.1 (one hd).1.2.1 (one hd).1.2.2 (fun y51 y52 y53 y54 y55=>
     (Q125.f N y55).bind fun r56=>
     Q130.l21 N N y51 (r56.length/4:Int) 0 [] (vB [y52,y53,y54] []) (gG [y52,y53,y54] 1 [] []) r56
      (fun y176=>
       some y176)) N 0 [] (by omega) (by omega) (by simp) (fun r hr=>by cases hr) (fun j hj h=>by omega)
 rw[pC]at e2;have hbound:∀r∈rs,r.2≤45000:=fun r hr=>by obtain⟨q1,q2,q3⟩:=r2 r hr;have:=hH hs ((q3.2 _).mp q1);omega
 obtain⟨l',s1,s2,s3⟩:=sU (N:=N) (by omega) (l:=rs.map bF) (by simp;omega) (fun x hx=>by obtain⟨r,hr,rfl⟩:=t3.mp hx;have:=hbound r hr;simp only[Srt.nn,bF];omega);obtain⟨rs',t1,t2⟩:=F6 l' (rs:=rs) (fun x hx=>by obtain⟨r,hr,rfl⟩:=t3.mp (s2.mem_iff.mp hx);exact⟨r,hr,rfl⟩);subst t1;have hlen:rs'.length=rs.length:=by simpa using s2.length_eq
 refine⟨gr (bC hd) p [] rs',rW hL0 (fG hL) hp ?_ (fun r hr=>?_) (fun z hz hzp=>?_),by have:=oy (A:=bC hd) (p:=p) rs' [];simp at this;omega,?_⟩
 ·rw[List.pairwise_map]at s3;refine s3.imp fun{x y} h=>?_;simp only[Srt.nn,bF]at h;omega
 ·obtain⟨q1,q2,q3⟩:=r2 r (t2 r hr);refine⟨fun e=>?_,q1,q3⟩;have:wU (bC hd) r.1 1:=⟨by omega,fun k=>⟨fun _=>Nat.one_dvd _,fun _=>by rw[e,pI]⟩⟩
  have:=q3.uniq this;omega
 ·obtain⟨n,hn⟩:=r3 z (hL.all z) hzp hz;have:bF (z,n)∈rs'.map bF:=s2.mem_iff.mpr (b0 hn);obtain⟨r,hr,e⟩:=t3.mp this;exact⟨n,Cd e▸hr⟩
 ·refine e2.trans ?_;rw[s1];simp only[iA];rw[wE];have hM1:Mp (fun z=>In (bC hd) [] z) (fun _ v=>1≤v∧v≤1+2500000000*((0:Nat):Int)) (vB [(one hd).1.1,(one hd).1.2.1,(one hd).1.2.2] []) (gG [(one hd).1.1,(one hd).1.2.1,(one hd).1.2.2] 1 [] []):=
   ((Mp.nil (S:=fun _:K d=>False) (W:=fun _ v=>1≤v∧v≤1+2500000000*((0:Nat):Int)) (fun _ h=>h)).put (one hd) (v:=1) ⟨by omega,by omega⟩).congr (fun z=>by
    constructor
    ·rintro(h|rfl)
     ·exact h.elim
     ·exact In.one _
    ·rintro⟨es,_,rfl⟩;exact .inr (aF es)) (fun _ _ h=>h)
  have:=fc hN hd hL hb hp.1 (rs:=rs') (by omega) (fun r hr=>⟨by have:=hbound r (t2 r hr);omega,(r2 r (t2 r hr)).2.2⟩) (rB ((gr (bC hd) p [] rs').map bF)) (fun y176=>some y176) rfl N 0 [] _ _ (by omega) (by omega) (by simp) (by rw[hU]) hM1;rw[pC]at this;exact this
theorem vq {G:Type}{A:AG G}:∀(os ps:List (G×Nat)) (i:Nat) (h:i<ps.length),
  (∃ho:i<os.length,zm A os (ps.take (i+1))=(zm A os (ps.take i)).set i (A.mul os[i].1 ps[i].1,os[i].2*ps[i].2)∧∃hz:i<(zm A os (ps.take i)).length,(zm A os (ps.take i))[i]=os[i])∨
  (os.length≤i∧zm A os (ps.take (i+1))=zm A os (ps.take i)++[ps[i]]∧(zm A os (ps.take i)).length=i)
 | [],ps,i,h=>.inr ⟨by simp,by simp only[zm];rw[xK,zB h];rfl,by simp[zm];omega⟩
 |o::os,c::ps,0,h=>.inl ⟨by simp,by simp only[hR,hW,zm,f0,List.getElem_cons_zero];cases os<;>rfl,by simp[zm],rfl⟩
 |o::os,c::ps,i+1,h=>by
  have h':i<ps.length:=by simpa using h
  rcases vq os ps i h' with⟨ho,h1,hz,h2⟩|⟨ho,h1,h2⟩
  ·refine .inl ⟨by simpa using ho,?_,?_,?_⟩
   ·simp only[hR,zm,List.set_cons_succ,m0];rw[h1]
   ·simpa[zm]using hz
   ·simp only[hR,zm,m0];exact h2
  ·refine .inr ⟨by simpa using ho,?_,?_⟩
   ·simp only[hR,zm,List.cons_append,m0];rw[h1]
   ·simp only[hR,zm,hI];rw[h2]
 |_::_,[],i,h=>by simp at h
theorem Af (X:List (K d×Nat)){i:Nat}(y:K d×Nat):((((rB (X.map bF)).set (i*4) y.1.1.1).set (i*4+1) y.1.1.2.1).set (i*4+2) y.1.1.2.2).set (i*4+3) (y.2:Int)=rB ((X.set i y).map bF):=by
 have:=nM (X.map bF) i (bF y);rw[←List.map_set]at this;exact this
theorem ip {N:Nat}(hN:8589934600<N)(hd:iE d){os ps:List (K d×Nat)}(ho:os.length≤45000)(hp:ps.length≤45000)(hb:∀o∈os,∀c∈ps,o.2*c.2≤45000)(hb2:∀c∈ps,c.2≤45000){R:Type}(x53 x55 x56:Int)(x54 x59:List Int)(K0:Int→List Int→Int→Int→List Int→Int→Int→Int→List Int→Option R):
  ∀(q i:Nat),i≤ps.length→ps.length-i<q→Q131.l17 N q x53 x54 x55 x56 (ps.length:Int) (i:Int) x59 (one hd).1.1 (one hd).1.2.1 (one hd).1.2.2 (rB ((zm (bC hd) os (ps.take i)).map bF)) (rB (ps.map bF)) K0=K0 x53 x54 x55 x56 x59 (one hd).1.1 (one hd).1.2.1 (one hd).1.2.2 (rB ((zm (bC hd) os ps).map bF))
 |0,i,_,h=>by omega
 |q+1,i,hi,hq=>by
  rw[Q131.l17,uF];by_cases hlt:i<ps.length
  ·obtain⟨c1,c2,c3,c4⟩:=yT hlt;have hps:=aE hlt;rw[ct (decide_eq_true hlt),wE,ct (bG hlt),wE];rcases vq (A:=bC hd) os ps i hlt with⟨hio,h1,hz,h2⟩|⟨hio,h1,h2⟩
   ·have hmul:=hb _ (aE hio) _ hps;obtain⟨b1,b2,b3,b4⟩:=yT hz;rw[h2]at b1 b2 b3 b4;rw[cf (beq_eq_false_iff_ne.mpr (by omega)),ct (bG hz)];simp only[zA,c1,c2,c3,c4,b1,b2,b3,b4];rw[tI hN hd os[i].1 ps[i].1];simp only[iA];rw[ct (bG hz),ct (bG hz),←d2,gW (by omega),vD (by omega)];have:=Af (zm (bC hd) os (ps.take i)) (i:=i) (mul hd os[i].1 ps[i].1,os[i].2*ps[i].2);simp only at this;rw[this];have h1':(zm (bC hd) os (ps.take i)).set i (mul hd os[i].1 ps[i].1,os[i].2*ps[i].2)=zm (bC hd) os (ps.take (i+1)):=h1.symm;rw[h1'];exact ip hN hd ho hp hb hb2 x53 x55 x56 x54 x59 K0 q (i+1) (by omega) (by omega)
   ·have hlen1:(zm (bC hd) os (ps.take i)++[(one hd,1)]).length=i+1:=by simp[h2]
    have hz:i<(zm (bC hd) os (ps.take i)++[(one hd,1)]).length:=by omega
    have hzi:(zm (bC hd) os (ps.take i)++[(one hd,1)])[i]=(one hd,1):=by rw[List.getElem_append_right (by omega)];simp[h2]
    obtain⟨b1,b2,b3,b4⟩:=yT hz;rw[hzi]at b1 b2 b3 b4;have hsn:=oY (zm (bC hd) os (ps.take i)) (one hd,1);simp only[s0]at hsn b1 b2 b3 b4;rw[ct (beq_iff_eq.mpr (by omega)),ct (tK (by omega)),hsn,wE,ct (bG hz)];simp only[zA,c1,c2,c3,c4,b1,b2,b3,b4];rw[tI hN hd (one hd) ps[i].1];simp only[iA];have hb':=hb2 _ hps;rw[ct (bG hz),ct (bG hz),Int.one_mul,gW (by omega),vD (by omega)];have:=Af (zm (bC hd) os (ps.take i)++[(one hd,1)]) (i:=i) (mul hd (one hd) ps[i].1,ps[i].2);simp only at this;rw[this];have h1':(zm (bC hd) os (ps.take i)++[(one hd,1)]).set i (mul hd (one hd) ps[i].1,ps[i].2)=zm (bC hd) os (ps.take (i+1)):=by rw[h1,q0 _ _ (by omega),h2,v3,f0];have:mul hd (one hd) ps[i].1=ps[i].1:=(bC hd).one_mul _;rw[this]
    rw[h1'];exact ip hN hd ho hp hb hb2 x53 x55 x56 x54 x59 K0 q (i+1) (by omega) (by omega)
  ·rw[cf (decide_eq_false hlt),zE (by omega)]
end
section
open Go Go.Proofs.YtjpdjdhdchjcgaaGreat.Ev
open Go.Proofs.YtjpdjdhdchjcgaaGreat.Pure (cA)
open Go.Proofs.YtjpdjdhdchjcgaaGreat.Cls (iE nI jK fH qR mJ)
open Go.Proofs.YtjpdjdhdchjcgaaGreat.Srt (R4 rB yJ xF kK nM ct cf bG uF lJ sU xN)
variable {d:Int}
theorem ca (N:Nat){p a:Nat}(hp:0<p)(hpa:p^a≤1000000){R:Type}(x14 x17 x18 x22 x23 x24 x27:Int)(x16 x21 x25:List Int)(K0:Int→Int→List Int→Int→Int→List Int→Int→Int→Int→List Int→Int→Int→Option R):
  ∀(q i:Nat),i≤a→a-i<q→a<1000000→Q131.l13 N q x14 ((p^i:Nat):Int) x16 x17 x18 (a:Int) (i:Int) x21 x22 x23 x24 x25 (p:Int) x27 K0=K0 x14 ((p^a:Nat):Int) x16 x17 x18 x21 x22 x23 x24 x25 (p:Int) x27
 |0,i,_,h,_=>by omega
 |q+1,i,hi,hq,ha=>by
  rw[Q131.l13,uF];by_cases hlt:i<a
  ·have hle:p^(i+1)≤p^a:=Nat.pow_le_pow_right hp hlt;have e:((p^i:Nat):Int)*(p:Int)=((p^(i+1):Nat):Int):=by rw[Nat.pow_succ,d2]
   rw[ct (decide_eq_true hlt),e,gW (by omega),vD (by omega)];exact ca N hp hpa x14 x17 x18 x22 x23 x24 x27 x16 x21 x25 K0 q (i+1) (by omega) (by omega) ha
  ·have:i=a:=by omega
   subst this;rw[cf (decide_eq_false hlt)]
theorem qf {l:PL}{i:Nat}(h:i<l.length):sE (l.take (i+1))=sE (l.take i)*l[i].1^l[i].2:=by
 rw[xK,zB h,tM];simp[sE]
theorem xi {l:PL}(h:∀x∈l,jE x.1∧0<x.2):0<sE l:=by have:=uM h;omega
theorem Dq {p q:Nat}(h:Nat.Coprime p q)(a:Nat):Nat.Coprime (p^a) q:=Nat.Coprime.pow_left a h
theorem bf {p:Nat}(hp:jE p){l:PL}(hl:∀x∈l,jE x.1∧0<x.2)(hne:∀x∈l,x.1≠p)(a:Nat):Nat.Coprime (p^a) (sE l):=by
 refine Dq (Nat.Coprime.symm (hp.cop fun hd=>?_)) a;obtain⟨x,h1,h2⟩:=hp.in_prod hl hd;exact hne x h1 h2
theorem dc.short {G:Type}{A:AG G}{s:Nat}{gs:List (G×Nat)}(h:dc A s gs){L:List G}(hL:iy L)(hs:s∣L.length):∀g∈gs,g.2≤L.length:=fun g hg=>
 hH (hL.pos A) (Nat.dvd_trans (h.big g hg).2 hs)
theorem tZ {N:Nat}(hN:8589934600<N)(hd:iE d){L:List (K d)}(hL:iy L)(hb:L.length≤45000){l:PL}(hl:Fz L.length l){R:Type}(K0:List Int→Option R):∀(q i:Nat) (out:List (K d×Nat)),i≤l.length→l.length-i<q→dc (bC hd) (sE (l.take i)) out→out.length≤45000→
   ∃gs:List (K d×Nat),dc (bC hd) L.length gs∧gs.length≤45000∧Q131.l9 N q (L.length:Int) (zV l) (l.length:Int) (i:Int) (yA (L.map (·.1))) (one hd).1.1 (one hd).1.2.1 (one hd).1.2.2 (rB (out.map bF)) K0=K0 (rB (gs.map bF))
 |0,i,out,_,h,_,_=>by omega
 |q+1,i,out,hi,hq,hG,ho=>by
  have hll:=uM hl.pr;rw[hl.prod]at hll;rw[Q131.l9,uF];by_cases hlt:i<l.length
  ·obtain⟨e1,e2⟩:=ow hlt;obtain⟨hp,ha⟩:=hl.pr _ (aE hlt);rw[ct (decide_eq_true hlt),zR,ct (bG hlt)];simp only[zA,e1,e2];have hsplit:l=l.take i++l[i]::l.drop (i+1):=by rw[←cD hlt,v2]
   have hup:=hl.up;rw[hsplit,List.pairwise_append,List.pairwise_cons]at hup;obtain⟨u1,⟨u2,u3⟩,u4⟩:=hup;have pr1:∀x∈l.take i,jE x.1∧0<x.2:=fun x hx=>hl.pr x (List.mem_of_mem_take hx);have pr2:∀x∈l.drop (i+1),jE x.1∧0<x.2:=fun x hx=>hl.pr x (a3 hx);have hprod:L.length=sE (l.take i)*(l[i].1^l[i].2*sE (l.drop (i+1))):=by have:=hl.prod;rw[hsplit,tM]at this;exact this.symm
   have c1:=bf hp pr1 (fun x hx=>by have:=u4 x hx l[i] List.mem_cons_self;omega) l[i].2;have c2:=bf hp pr2 (fun x hx=>by have:=u2 x hx;omega) l[i].2;generalize hpp:l[i].1=p at*;generalize haa:l[i].2=a at*;have hQ:=xi pr1;have hm:L.length=p^a*(sE (l.take i)*sE (l.drop (i+1))):=by rw[hprod,l0]
   have hs0:0<p^a:=Nat.pow_pos (by have:=hp.1;omega);have hsle:p^a≤L.length:=hH (hL.pos (bC hd)) ⟨_,hm⟩;have hale:a<1000000:=by have:=ut (j:=a) hp.1;omega
   have h1:=ca N (show 0<p by have:=hp.1;omega) (show p^a≤1000000 by omega) (L.length:Int) (l.length:Int) (i:Int) (one hd).1.1 (one hd).1.2.1 (one hd).1.2.2 (a:Int) (zV l) (yA (L.map (·.1))) (rB (out.map bF)) (fun y40 y41 y42 y43 y44 y45 y46 y47 y48 y49 y50 y51=>
      (Q130.f N y45 y46 y47 y48 y40 y50 y41).bind fun r52=>
      Q131.l17 N N y40 y42 y43 y44 (r52.length/4:Int) 0 y45 y46 y47 y48 y49 r52
       (fun y76 y77 y78 y79 y80 y81 y82 y83 y84=>
        Q131.l9 N q y76 y77 y78 (aA (y79+1)) y80 y81 y82 y83 y84 K0)) N 0 (by omega) (by omega) hale
   rw[Nat.pow_zero,pC,s0]at h1;obtain⟨gs,g1,g2,g3⟩:=xg hN hd hL hb hp hm (Nat.Coprime.mul_right c1 c2);rw[h1,g3];simp only[iA];rw[wE];have dQ:sE (l.take i)∣L.length:=⟨_,hprod⟩
   have hG2:=hG.zm hQ hs0 (Nat.Coprime.symm c1) g1;have dQs:sE (l.take i)*p^a∣L.length:=⟨sE (l.drop (i+1)),by rw[hprod,o0]⟩
   have h2:=ip hN hd (os:=out) (ps:=gs) ho g2 (fun o hoo c hcc=>by
     have:=hH (hL.pos (bC hd)) (Nat.dvd_trans (Nat.mul_dvd_mul (hG.big o hoo).2 (g1.big c hcc).2) dQs);omega) (fun c hcc=>by have:=g1.short hL ⟨_,hm⟩ c hcc;omega) (L.length:Int) (l.length:Int) (i:Int) (zV l) (yA (L.map (·.1))) (fun y76 y77 y78 y79 y80 y81 y82 y83 y84=>
        Q131.l9 N q y76 y77 y78 (aA (y79+1)) y80 y81 y82 y83 y84 K0) N 0 (by omega) (by omega)
   have z0:zm (bC hd) out (gs.take 0)=out:=by rw[hW];cases out<;>rfl
   rw[pC,z0]at h2;rw[h2,vD (by omega)];refine tZ hN hd hL hb hl K0 q (i+1) _ (by omega) (by omega) ?_ (by rw[io];omega);rw[qf hlt,hpp,haa];exact hG2
  ·rw[cf (decide_eq_false hlt)];rw[zE (by omega),hl.prod]at hG;exact⟨out,hG,ho,rfl⟩
structure Pt (hd:iE d)(L:List (K d))(gs:List (K d×Nat)):Prop where
 fin:iy L
 len:L.length≤45000
 glen:gs.length≤45000
 gen:dc (bC hd) L.length gs.reverse
theorem qF {N:Nat}(hN:8589934600<N)(hd:iE d):∃(L:List (K d)) (gs:List (K d×Nat)),Pt hd L gs∧Cls.Cl d (L.map (·.1))∧Q114.f N d=some (yA (L.map (·.1)),0)∧Q115.f N d=some ((L.length:Int),0)∧Q111.f N d=some (yA (L.map (·.1)))∧
  Q131.f N d=some (rB (gs.map bF),0):=by
 obtain⟨R,h1,h2,h3,h4,h5⟩:=qR (N:=N) (by omega) hd;obtain⟨L,rfl,hL⟩:=Gy h1;have hb:L.length≤45000:=by simpa using h1.len
 have hL0:=hL.pos (bC hd);have hn:Q115.f N d=some ((L.length:Int),0):=by rw[h5];simp
 obtain⟨l,hl,hf⟩:=zU (N:=N) (by omega) hL0 (by omega);have hll:=uM hl.pr;rw[hl.prod]at hll;obtain⟨gs,g1,g2,g3⟩:=tZ hN hd hL hb hl (fun y86=>(Q126.f N y86).bind fun r87=>some (r87,(0:Int))) N 0 [] (by omega) (by omega) (by rw[hW];exact Du) (by simp);rw[pC]at g3;refine⟨L,gs.reverse,⟨hL,hb,by simpa using g2,by rw[w0];exact g1⟩,h1,h4,hn,h3,?_⟩;unfold Q131.f;rw[h4];simp only[iA];rw[cf (by rfl),lH N hd];simp only[iA];rw[gF,hf];simp only[iA];rw[zR];refine g3.trans ?_;rw[xN (by omega) (by simpa using by omega),List.map_reverse];rfl
theorem xh {N:Nat}{d:Int}(hd0: -9223372036854775808≤d)(hd1:d<9223372036854775808)(hd:¬iE d):Q131.f N d=some ([],80):=by
 unfold Q131.f;rw[(mJ hd0 hd1 hd).1];rfl
theorem mo (N:Nat){gs:List (K d×Nat)}(hg:gs.length≤45000){R:Type}(K0:List Int→List Int→Option R):∀(q i:Nat),i≤gs.length→gs.length-i<q→
  Q132.l5 N q (rB (gs.map bF)) (gs.length:Int) (i:Int) (yA ((gs.take i).map (·.1.1))) ((gs.take i).map fun g=>(g.2:Int)) K0=K0 (yA (gs.map (·.1.1))) (gs.map fun g=>(g.2:Int))
 |0,i,_,h=>by omega
 |q+1,i,hi,hq=>by
  rw[Q132.l5,uF];by_cases hlt:i<gs.length
  ·obtain⟨e1,e2,e3,e4⟩:=yT hlt;have r1:fB (((yA ((gs.take i).map (·.1.1))).length+3)/3) 24=true:=by
    rw[nF];simp only[fB,decide_eq_true_eq,hE,p0];omega
   have r2:fB (((gs.take i).map fun g=>(g.2:Int)).length+1) 8=true:=by simp only[fB,decide_eq_true_eq,hE,p0];omega
   rw[ct (decide_eq_true hlt),wE,ct (bG hlt),ct r1,ct r2,vD (by omega)];simp only[zA,e1,e2,e3,e4];have t1:yA ((gs.take i).map (·.1.1))++[gs[i].1.1.1,gs[i].1.1.2.1,gs[i].1.1.2.2]=yA ((gs.take (i+1)).map (·.1.1)):=by rw[xK,zB hlt,u0,nJ];rfl
   have t2:((gs.take i).map fun g=>(g.2:Int))++[(gs[i].2:Int)]=(gs.take (i+1)).map fun g=>(g.2:Int):=by rw[xK,zB hlt,u0];rfl
   rw[t1,t2];exact mo N hg K0 q (i+1) (by omega) (by omega)
  ·rw[cf (decide_eq_false hlt),zE (by omega)]
theorem zH {N:Nat}(hN:8589934600<N){gs:List (K d×Nat)}(hg:gs.length≤45000)(h:Q131.f N d=some (rB (gs.map bF),0)):
  Q132.f N d=some (yA (gs.map (·.1.1)),gs.map fun g=>(g.2:Int),0):=by
 unfold Q132.f;rw[h];simp only[iA];rw[cf (by rfl),wE];have:=mo N hg (fun y10 y11=>some (y10,y11,(0:Int))) N 0 (by omega) (by omega);rw[hW,pC]at this;exact this
theorem rQ {N:Nat}{d:Int}(hd0: -9223372036854775808≤d)(hd1:d<9223372036854775808)(hd:¬iE d):Q132.f N d=some ([],[],80):=by
 unfold Q132.f;rw[xh hd0 hd1 hd];rfl
end
section
open Go Go.Proofs.YtjpdjdhdchjcgaaGreat.Ev
open Go.Proofs.YtjpdjdhdchjcgaaGreat.Pure (cA jW cI z7 La Pr Oo aK fX lD oH pN sK iU oQ rq)
open Go.Proofs.YtjpdjdhdchjcgaaGreat.Cls (iE Rd fK nI jK fH qR mJ jt uT lI)
open Go.Proofs.YtjpdjdhdchjcgaaGreat.Srt (R4 rB ct cf bG uF)
variable {d:Int}
theorem xl (N:Nat)(hd:iE d):Q89.f N d=some ((one hd).1.1,(one hd).1.2.1,(one hd).1.2.2,0):=by
 obtain⟨a,b,c,e,h1,h2,_⟩:=iU N d;rw[lH N hd]at h1;rw[h2,←h1]
theorem qr {N:Nat}(hN:8589934600<N)(hd:iE d)(x y:K d):Q96.f N x.1.1 x.1.2.1 x.1.2.2 y.1.1 y.1.2.1 y.1.2.2=some (mul hd x y).1:=by
 obtain⟨a,b,c,e,h⟩:=oQ hN (hF hd).neg (lS hd) (x.red hd) (y.red hd);obtain⟨z,hz,h⟩:=rJ h;have:z=mul hd x y:=lM hd (h.symm.trans (hF hd).m (sH hd x y));subst this;rw[e,hz]
theorem dt (N:Nat)(hd:iE d)(x:K d):Q47.f N x.1.1 x.1.2.1 x.1.2.2=some d∧Q69.f N x.1.1 x.1.2.1 x.1.2.2=some d:=by
 have:=uT N (x.val hd).fine;rwa[x.2.1.eq]at this
theorem Fc {N:Nat}(hN:8589934600<N)(hd:iE d)(x:K d){n:Nat}(ho:wU (bC hd) x n)(hn:n≤50000){R:Type}(K0:Int→Option R):∀(q k:Nat),0<k→k≤n→n-k<q→
  Q138.l4 N q (k:Int) x.1.1 x.1.2.1 x.1.2.2 (one hd).1.1 (one hd).1.2.1 (one hd).1.2.2 (pw (bC hd) x k).1.1 (pw (bC hd) x k).1.2.1 (pw (bC hd) x k).1.2.2 K0=K0 (n:Int)
 |0,k,_,_,h=>by omega
 |q+1,k,hk,hkn,hq=>by
  rw[Q138.l4];by_cases he:pw (bC hd) x k=one hd
  ·have:=hH hk ((ho.2 k).mp he);have:k=n:=by omega
   subst this;rw[cf (by rw[(Da _ _).mpr he];rfl)]
  ·have h1:((pw (bC hd) x k).1.1==(one hd).1.1&&((pw (bC hd) x k).1.2.1==(one hd).1.2.1&&(pw (bC hd) x k).1.2.2==(one hd).1.2.2))=false:=Bool.eq_false_iff.mpr fun e=>he ((Da _ _).mp e);have hlt:k<n:=by
    rcases Nat.lt_or_ge k n with h|h
    ·exact h
    ·have:k=n:=by omega
     subst this;exact absurd ho.kill he
   rw[ct (by rw[h1];rfl),qr hN hd];simp only[iA];rw[vD (by omega)];exact Fc hN hd x ho hn K0 q (k+1) (by omega) hlt (by omega)
theorem qV {N:Nat}(hN:8589934600<N)(hd:iE d)(x:K d){n:Nat}(ho:wU (bC hd) x n)(hn:n≤50000):Q138.f N x.1.1 x.1.2.1 x.1.2.2=some (n:Int):=by
 unfold Q138.f;rw[(dt N hd x).2];simp only[iA];rw[xl N hd];simp only[iA];have:=Fc hN hd x ho hn (fun y18=>some y18) N 1 (by omega) ho.1 (by have:=ho.1;omega);rw[show pw (bC hd) x 1=x from vH x,s0]at this;exact this
theorem eS {N:Nat}(hN:8589934600<N)(hd:iE d){a b c:Int}(h:jW d a b c){z:K d}(hz:yt d (La d a b) (Lc z)):Q87.f N a b c=some ((inv hd z).1.1,(inv hd z).1.2.1,(inv hd z).1.2.2,0):=by
 obtain⟨x,y,w,e,h1,h2⟩:=oH hN h;have dm:=(hF hd).m
 let k:K d:=⟨(x,y,w),C8 h1⟩
 have h3:mul hd k z=one hd:=by refine lM hd ((sH hd k z).symm.trans dm ((Mod.Hm.comm (Lc k) (Lc z)).trans dm ?_));exact((hz.symm.left (Lc k)).trans dm h2).trans dm (aR hd)
 have h4:k=inv hd z:=(bC hd).inv_of h3;rw[e,←h4]
theorem Dx (hd:iE d)(z:K d):inv hd (inv hd z)=z:=((bC hd).inv_of (x:=z) (y:=inv hd z) (by rw[(bC hd).comm];exact(bC hd).inv_mul z)).symm
theorem nt {N:Nat}(hN:8589934600<N)(a b c:Int):
  (∃e,e≠0∧(∃x y z n,Q133.f N a b c=some (x,y,z,n,e))∧∃x y z,Q140.f N a b c=some (x,y,z,e))∨
  (∃(d:Int) (hd:iE d) (z:K d) (L:List (K d)),jW d a b c∧iy L∧L.length≤45000∧Q47.f N a b c=some d∧Q133.f N a b c=some (z.1.1,z.1.2.1,z.1.2.2,(L.length:Int),0)∧Q140.f N a b c=some (z.1.1,z.1.2.1,z.1.2.2,0)∧yt d (La d a b) (Lc z)):=by
 obtain⟨x,y,z,e,i1,i2⟩:=pN hN a b c;by_cases he:e=0
 ·subst he;have hv:aK a b c∧fX a b c:=by
   obtain⟨x',y',z',e',p1,p2,p3⟩:=sK hN a b c;by_cases he':e'=0
   ·exact p3 he'
   ·exfalso;unfold Q87.f at i1;rw[p1]at i1;simp only[iA]at i1;rw[ct (bne_iff_ne.mpr he')]at i1;simp only[Option.some.injEq,Prod.mk.injEq]at i1;exact he' i1.2.2.2
  have hV:=rq hv.1 hv.2;obtain⟨hD,hD2⟩:=uT N hv.1;generalize hdd:b*b-4*a*c=d at*;have hneg:=hV.d.1;by_cases hb: -65536≤d
  ·have hd:iE d:=by rw[←hdd]at hb⊢;exact jt hv.1 hb
   obtain⟨a',b',c',r1,r2,r3,p,q,r,u,r4⟩:=lD hN hV;obtain⟨k,hk,hcl⟩:=rJ r2;obtain⟨k1,k2,k3⟩:=wq hk;obtain⟨L,gs,hP,_,_,hn,_,_⟩:=qF hN hd;have j1:=eS hN hd hV hcl;rw[i1]at j1;simp only[Option.some.injEq,Prod.mk.injEq]at j1;refine .inr ⟨d,hd,k,L,hV,hP.fin,hP.len,hD,?_,?_,hcl⟩
   ·unfold Q133.f;rw[i1];simp only[iA];rw[cf (by rfl),hD];simp only[iA];rw[hn];simp only[iA];rw[cf (by rfl),r4,k1,k2,k3];rfl
   ·unfold Q140.f;rw[i2];simp only[iA];rw[cf (by rfl),hD2];simp only[iA];rw[cf (decide_eq_false (by omega))];obtain⟨x2,y2,z2,e2,m1,m2⟩:=pN hN x y z;have j2:=eS hN hd ((inv hd k).val hd) (z:=inv hd k) (Mod.Hm.refl _ _ _);rw[Dx,←j1.1,←j1.2.1,←j1.2.2.1,m1]at j2;rw[m2,j2];rfl
  ·refine .inl ⟨80,by decide,⟨0,0,0,0,?_⟩,0,0,0,?_⟩
   ·have hnl:¬iE d:=fun h=>hb h.1;unfold Q133.f;rw[i1];simp only[iA];rw[cf (by rfl),hD];simp only[iA];rw[(mJ (by have:=hV.d.2;omega) (by omega) hnl).2.1];rfl
   ·unfold Q140.f;rw[i2];simp only[iA];rw[cf (by rfl),hD2];simp only[iA];rw[ct (decide_eq_true (by omega))]
 ·refine .inl ⟨e,he,⟨0,0,0,0,?_⟩,x,y,z,?_⟩
  ·unfold Q133.f;rw[i1];simp only[iA];rw[ct (bne_iff_ne.mpr he)]
  ·unfold Q140.f;rw[i2];simp only[iA];rw[ct (bne_iff_ne.mpr he)]
theorem dX {N:Nat}(hN:8589934600<N)(a b c:Int):∃n e,Q134.f N a b c=some (n,e)∧Q141.f N a b c=some (n,e):=by
 unfold Q134.f Q141.f;rcases nt hN a b c with⟨e,he,⟨x,y,z,n,h1⟩,x',y',z',h2⟩|⟨d,hd,z,L,hV,hL,hb,hD,h1,h2,hcl⟩
 ·refine⟨0,e,?_,?_⟩
  ·rw[h1];simp only[iA];rw[ct (bne_iff_ne.mpr he)]
  ·rw[h2];simp only[iA];rw[ct (bne_iff_ne.mpr he)]
 ·obtain⟨m,m1,m2,m3⟩:=cR hN hd z (hL.pos (bC hd)) (by omega) (fG hL z);have hm:=hH (hL.pos (bC hd)) m2;refine⟨m,0,?_,?_⟩
  ·rw[h1];simp only[iA];rw[cf (by rfl),hD];simp only[iA];rw[lH N hd];simp only[iA];rw[m3];rfl
  ·rw[h2];simp only[iA];rw[cf (by rfl),qV hN hd z m1 (by omega)];rfl
abbrev N0:Nat:=8589934700
theorem cK:8589934600<N0:=by decide
theorem zO:iE (-23):=⟨by decide,by decide,by decide⟩
theorem Br {G:Type}{A:AG G}{s:Nat}{gs:List (G×Nat)}(h:dc A s gs)(hp:np gs=3):∃g,gs=[(g,3)]:=by
 cases gs with
 |nil=>simp[np]at hp
 |cons x l=>
  have hx:=(h.big x (by simp)).1;simp only[np]at hp;have hdv:x.2∣3:=⟨_,hp.symm⟩
  have h3:=hH (by decide) hdv;have hx3:x.2=3:=by
   rcases(show x.2=2∨x.2=3 by omega)with e|e
   ·rw[e]at hdv;exact absurd hdv (by decide)
   ·exact e
  rw[hx3]at hp;have hl:np l=1:=by omega
  cases l with
  |nil=>exact⟨x.1,by rw[←hx3]⟩
  |cons y l=>exfalso;have hy:=(h.big y (by simp)).1;simp only[np]at hl;have:=hH (by decide) (show y.2∣1 from⟨_,hl.symm⟩);omega
theorem ru:Q146.f N0=some true:=by
 obtain⟨L,gs,hP,hC,_,_,hr,hg⟩:=qF cK zO;have hl:Q111.f N0 (-23)=some [1,1,6,2, -1,3,2,1,3]:=by kernel_rfl
 rw[hl]at hr;have hL3:yA (L.map (·.1))=yA [(1,1,6),(2, -1,3),(2,1,3)]:=(Option.some.inj hr).symm;have hLm:L.map (·.1)=[(1,1,6),(2, -1,3),(2,1,3)]:=by have:=congrArg jF hL3;rwa[rI,rI]at this
 have hlen:L.length=3:=by have:=congrArg List.length hLm;simpa using this
 obtain⟨g,hgs⟩:=Br hP.gen (by rw[hP.gen.count hP.fin,hlen]);have hgs':gs=[(g,3)]:=by have:=congrArg List.reverse hgs;simpa using this
 subst hgs';have hS:=zH cK hP.glen hg;have hne:g≠one zO:=fun e=>by
  have ho:=hP.gen.uq.ordOf (g:=(g,3)) (by simp);have h1:pw (bC zO) g 1=(bC zO).one:=by rw[vH];exact e
  have:=(ho.2 1).mp h1;exact absurd (show(3:Nat)∣1 from this) (by decide)
 have ho1:(one zO).1=(1,1,6):=by
  have h1:=lH N0 zO;have h2:Q83.f N0 (-23)=some (1,1,6,0):=by kernel_rfl
  rw[h2]at h1;simp only[Option.some.injEq,Prod.mk.injEq]at h1;obtain⟨a,b,c,_⟩:=h1;exact Prod.ext a.symm (Prod.ext b.symm c.symm)
 have hgA:g.1.1=2:=by
  have hm:g.1∈L.map (·.1):=b0 (hP.fin.all g);rw[hLm]at hm;simp only[n0,List.not_mem_nil,or_false]at hm;rcases hm with hm|hm|hm
  ·exact absurd (Subtype.ext (hm.trans ho1.symm)) hne
  ·rw[hm]
  ·rw[hm]
 have hO:Q134.f N0 2 1 3=some (3,0):=by
  obtain⟨n,e,q1,q2⟩:=dX cK 2 1 3;have:Q141.f N0 2 1 3=some (3,0):=by kernel_rfl
  rw[this]at q2;rw[q1,←q2]
 unfold Q146.f;rw[hS];simp only[iA];rw[hO];simp only[List.map_cons,List.map_nil,yA,iA,f3,hgA];simp
end
section
open Go Go.Proofs.YtjpdjdhdchjcgaaGreat.Ev
open Go.Proofs.YtjpdjdhdchjcgaaGreat.Pure (cA)
open Go.Proofs.YtjpdjdhdchjcgaaGreat.Cls (iE mJ lI vU)
open Go.Proofs.YtjpdjdhdchjcgaaGreat.Srt (ct cf bG uF)
variable {d:Int}
open Classical in
noncomputable def sk (hd:iE d)(L:List (K d)):List (K d):=L.filter fun z=>decide (mul hd z z=one hd)
theorem dT {i n:Nat}(h:i<n):decide ((i:Int)<(n:Int))=true:=decide_eq_true (by omega)
theorem dF {i n:Nat}(h:¬i<n):decide ((i:Int)<(n:Int))=false:=decide_eq_false (by omega)
theorem wV {α:Type}(p:α→Bool){L:List α}{i:Nat}(h:i<L.length):(L.take (i+1)).filter p=(L.take i).filter p++(if p L[i]then [L[i]]else []):=by
 rw[xK,zB h,List.filter_append];congr 1;by_cases hp:p L[i]<;>simp[hp]
theorem jd (hd:iE d){L:List (K d)}{i:Nat}(h:i<L.length):(mul hd L[i] L[i]=one hd→sk hd (L.take (i+1))=sk hd (L.take i)++[L[i]])∧(mul hd L[i] L[i]≠one hd→sk hd (L.take (i+1))=sk hd (L.take i)):=by
 constructor
 ·intro e;unfold sk;rw[wV _ h,if_pos (decide_eq_true e)]
 ·intro e;unfold sk;rw[wV _ h,if_neg (by simpa using e),List.append_nil]
theorem so (hd:iE d)(L:List (K d)):(sk hd L).length≤L.length:=List.length_filter_le _ _
theorem pX {N:Nat}(hN:8589934600<N)(hd:iE d){L:List (K d)}(hb:L.length≤45000){R:Type}(K0:List Int→Option R):∀(q i:Nat),i≤L.length→L.length-i<q→
  Q137.l7 N q (L.length:Int) (i:Int) (one hd).1.1 (one hd).1.2.1 (one hd).1.2.2 (yA ((sk hd (L.take i)).map (·.1))) (yA (L.map (·.1))) K0=K0 (yA ((sk hd L).map (·.1)))
 |0,i,_,h=>by omega
 |q+1,i,hi,hq=>by
  rw[Q137.l7,uF];by_cases hlt:i<L.length
  ·obtain⟨e1,e2,e3⟩:=xT hlt;obtain⟨a1,a2⟩:=jd hd hlt;have hl:=so hd (L.take i);rw[p0]at hl;rw[ct (decide_eq_true hlt),gF,ct (bG hlt)];simp only[zA,e1,e2,e3];rw[tI hN hd];simp only[iA];rw[vD (by omega)];by_cases he:mul hd L[i] L[i]=one hd
   ·rw[ct ((Da _ _).mpr he),ct (qn (by omega)),nY,←a1 he];exact pX hN hd hb K0 q (i+1) (by omega) (by omega)
   ·rw[cf (Bool.eq_false_iff.mpr fun e=>he ((Da _ _).mp e)),←a2 he];exact pX hN hd hb K0 q (i+1) (by omega) (by omega)
  ·rw[cf (decide_eq_false hlt),zE (by omega)]
theorem fv (hd:iE d){z:K d}{n:Nat}(ho:wU (bC hd) z n):n≤2↔mul hd z z=one hd:=by
 have h2:pw (bC hd) z 2=mul hd z z:=by show(bC hd).mul (pw (bC hd) z 1) z=_;rw[vH];rfl
 have hk:=ho.2 2;rw[h2]at hk;constructor
 ·intro h;refine hk.mpr ?_;rcases(show n=1∨n=2 by have:=ho.1;omega)with e|e
  ·rw[e];exact Nat.one_dvd _
  ·rw[e];exact Nat.dvd_refl _
 ·intro h;exact hH (by decide) (hk.mp h)
theorem lU {N:Nat}(hN:8589934600<N)(hd:iE d){L:List (K d)}(hL:iy L)(hb:L.length≤45000){R:Type}(K0:List Int→Option R):∀(q i:Nat),i≤L.length→L.length-i<q→
  Q142.l7 N q (yA (L.map (·.1))) (i:Int) (yA ((sk hd (L.take i)).map (·.1))) K0=K0 (yA ((sk hd L).map (·.1)))
 |0,i,_,h=>by omega
 |q+1,i,hi,hq=>by
  rw[Q142.l7,gF];by_cases hlt:i<L.length
  ·obtain⟨e1,e2,e3⟩:=xT hlt;obtain⟨a1,a2⟩:=jd hd hlt;have hl:=so hd (L.take i);rw[p0]at hl;obtain⟨n,hn⟩:=bR (hL.pos (bC hd)) (fG (A:=bC hd) hL L[i]);have hnl:=hH (hL.pos (bC hd)) ((hn.2 _).mp (fG hL L[i]));rw[ct (dT hlt),ct (bG hlt)];simp only[zA,e1,e2,e3];rw[qV hN hd L[i] hn (by omega)];simp only[iA];rw[ct (bG hlt),vD (by omega)];by_cases he:mul hd L[i] L[i]=one hd
   ·have:=(fv hd hn).mpr he;rw[ct (decide_eq_true (by omega)),ct (qn (by omega)),nY,←a1 he];exact lU hN hd hL hb K0 q (i+1) (by omega) (by omega)
   ·have:¬n≤2:=fun h=>he ((fv hd hn).mp h);rw[cf (decide_eq_false (by omega)),←a2 he];exact lU hN hd hL hb K0 q (i+1) (by omega) (by omega)
  ·rw[cf (dF hlt),zE (by omega)]
theorem oa (N:Nat)(hd:iE d):Q107.f N d=some 0:=by
 rcases lI N d (by have:=hd.1;omega) (by have:=hd.2.1;omega)with⟨_,_,h⟩|⟨h,_⟩
 ·exact h
 ·exact absurd hd h
theorem zn {N:Nat}(hN:8589934600<N)(hd:iE d):∃L:List (K d),iy L∧L.length≤45000∧Cls.Cl d (L.map (·.1))∧Q114.f N d=some (yA (L.map (·.1)),0)∧Q137.f N d=some (yA ((sk hd L).map (·.1)),0)∧Q142.f N d=some (yA ((sk hd L).map (·.1)),0):=by
 obtain⟨L,gs,hP,hC,hA,_,hr,_⟩:=qF hN hd;have hb:=hP.len;have t0:(sk hd (L.take 0))=[]:=by rw[hW];rfl
 refine⟨L,hP.fin,hP.len,hC,hA,?_,?_⟩
 ·unfold Q137.f;rw[hA];simp only[iA];rw[cf (by rfl),lH N hd];simp only[iA];rw[gF];have:=pX hN hd hb (fun y13=>some (y13,(0:Int))) N 0 (by omega) (by omega);rw[t0,pC]at this;exact this
 ·unfold Q142.f;rw[oa N hd];simp only[iA];rw[cf (by rfl),hr];simp only[iA];have:=lU hN hd hP.fin hb (fun y9=>some (y9,(0:Int))) N 0 (by omega) (by omega);rw[t0,pC]at this;exact this
end
section
open Go Go.Proofs.YtjpdjdhdchjcgaaGreat.Ev
open Go.Proofs.YtjpdjdhdchjcgaaGreat.Pure (cA fx La Pr Oo)
open Go.Proofs.YtjpdjdhdchjcgaaGreat.Cls (iE Rd fK vX mJ lI vU)
open Go.Proofs.YtjpdjdhdchjcgaaGreat.Srt (ct cf bG uF)
variable {d:Int}
theorem wk (N:Nat){m:Int}(h0:0≤m)(h1:m<65536):∃d,Q144.f N m=some d∧iE d:=by
 have e1:Int.tmod m 20000=m%20000:=f1 h0;obtain⟨t,ht⟩:∃t,t=m%20000:=⟨_,rfl⟩
 have t0:0≤t∧t<20000:=by omega
 have e2:aA ((aA (0- (aA (Int.tmod m 20000))))-3)= -(t+3):=by rw[e1,←ht,cA (n:=t) (by omega) (by omega),cA (n:=0-t) (by omega) (by omega),cA (by omega) (by omega)];omega
 have e3:aA (-(t+3)-2)= -(t+5):=by rw[cA (by omega) (by omega)];omega
 have e4:Int.tmod (-(t+3)) 4= -((t+3)%4):=by rw[Int.neg_tmod,f1 (by omega)]
 unfold Q144.f;rw[e2,e3,e4];have hm:(t+3)%4=0∨(t+3)%4=1∨(t+3)%4=2∨(t+3)%4=3:=by omega
 rcases hm with hm|hm|hm|hm<;>rw[hm]
 ·exact⟨_,rfl,by omega,by omega,by omega⟩
 ·exact⟨_,rfl,by omega,by omega,by omega⟩
 ·exact⟨_,rfl,by omega,by omega,by omega⟩
 ·exact⟨_,rfl,by omega,by omega,by omega⟩
theorem Df (hd:iE d)(z:K d):mul hd z z=one hd↔z.1.2.1=0∨z.1.1=z.1.2.1∨z.1.1=z.1.2.2:=by
 have dm:=(hF hd).m;have hO:=fx (z.red hd) (hF hd) (lS hd) (M:=Lc z) (Mod.Hm.refl _ _ _);have back:yt d (Lc z) (La d z.1.1 (-z.1.2.1))→mul hd z z=one hd:=fun h=>by refine lM hd ((sH hd z z).symm.trans dm (Mod.Hm.trans dm ?_ (aR hd)));exact(Mod.Hm.prod dm (Mod.Hm.refl _ _ (Lc z)) h).trans dm hO
 constructor
 ·intro h;apply Classical.byContradiction;intro hn;simp only[not_or]at hn;obtain⟨n1,n2,n3⟩:=hn;have hr:=z.2.1;have hk:Kl d (z.1.1, -z.1.2.1,z.1.2.2):=by
   refine⟨⟨?_,hr.pos,?_,?_,?_⟩,?_⟩
   ·have e: -z.1.2.1* -z.1.2.1=z.1.2.1*z.1.2.1:=by grind
    rw[e];exact hr.eq
   ·have:=hr.hi;simp only;omega
   ·have:=hr.lo;simp only;omega
   ·have:=hr.last;simp only;omega
   ·rw[vX];exact z.2.2
  let k:K d:=⟨_,hk⟩
  have h1:mul hd z k=one hd:=lM hd ((sH hd z k).symm.trans dm (Mod.Hm.trans dm hO (aR hd)));have h2:k=z:=(bC hd).left (x:=z) (h1.trans h.symm);have h3: -z.1.2.1=z.1.2.1:=congrArg (fun t:K d=>t.1.2.1) h2;omega
 ·rintro(h|h|h)
  ·apply back;unfold Lc;rw[h];exact Mod.Hm.refl _ _ _
  ·apply back;refine Mod.Hm.same fun t=>?_;have:=Pure.La.shift d z.1.1 (-z.1.2.1) 1 t;rw[show-z.1.2.1+2*z.1.1*1=z.1.2.1 by omega]at this;exact this.symm
  ·apply back;have:=(z.red hd).of.swap (hF hd).neg (by have:=z.2.1.pos;omega);rw[←h]at this;exact this
theorem ft {G:Type}:∀a b:List (G×Nat),np (a++b)=np a*np b
 | [],b=>(Nat.one_mul _).symm
 |g::a,b=>by simp only[List.cons_append,np];rw[ft a b,o0]
theorem Bt {G:Type}:∀a:List (G×Nat),np a.reverse=np a
 | []=>rfl
 |g::a=>by rw[List.reverse_cons,ft,Bt a];simp only[np,Nat.mul_one];rw[v1]
theorem qW {gs:List (K d×Nat)}{i:Nat}(h:i<gs.length):(gs.map fun g=>(g.2:Int)).getD i 0=(gs[i].2:Int):=by
 simp[iB,zB h]
theorem Gq {n:Int}(h:(Lit.int .u16 n).wf=true):0≤n∧n<65536:=by
 simp[Lit.wf]at h;have h1:IntKind.u16.min=0:=by decide
 have h2:IntKind.u16.max=65535:=by decide
 omega
end
section
open Go Go.Proofs.YtjpdjdhdchjcgaaGreat.Ev
open Go.Proofs.YtjpdjdhdchjcgaaGreat.Pure (cA La Pr Oo lD vO dG sF fL fC aK)
open Go.Proofs.YtjpdjdhdchjcgaaGreat.Cls (iE Rd fK mJ lI vU sW)
open Go.Proofs.YtjpdjdhdchjcgaaGreat.Srt (ct cf bG uF lJ)
variable {d:Int}
def ints (l:List Nat):List Int:=l.map fun(n:Nat)=>(n:Int)
theorem dS {l:List Nat}{i:Nat}(h:i<l.length):(ints l).getD i 0=(l[i]:Int):=by
 simp[ints,iB,zB h]
theorem vQ (gs:List (K d×Nat)):((yA (gs.map (·.1.1))).length/3:Int)=(gs.length:Int):=by
 have:=gF (gs.map (·.1));rw[List.map_map,hE]at this;exact this
theorem tj {gs:List (K d×Nat)}{i:Nat}(h:i<gs.length):(yA (gs.map (·.1.1))).getD (i*3) 0=gs[i].1.1.1∧(yA (gs.map (·.1.1))).getD (i*3+1) 0=gs[i].1.1.2.1∧(yA (gs.map (·.1.1))).getD (i*3+2) 0=gs[i].1.1.2.2:=by
 have:=xT (L:=gs.map (·.1)) (i:=i) (by simpa using h);rw[List.map_map,List.getElem_map]at this;exact this
theorem fZ {N:Nat}(hN:8589934600<N)(hd:iE d){gs:List (K d×Nat)}{es:List Nat}(hl:es.length=gs.length)(hg:gs.length≤45000)(hb:∀e∈es,e<9223372036854775807){R:Type}(x8 x9 x10:Int)(K0:Int→Int→Int→Int→Int→Int→Option R):∀(q i:Nat) (f:K d),i≤gs.length→gs.length-i<q→
  Q145.l3 N q (yA (gs.map (·.1.1))) (ints es) (i:Int) x8 x9 x10 f.1.1 f.1.2.1 f.1.2.2 K0=K0 x8 x9 x10 (mul hd f (val (bC hd) (gs.drop i) (es.drop i))).1.1 (mul hd f (val (bC hd) (gs.drop i) (es.drop i))).1.2.1 (mul hd f (val (bC hd) (gs.drop i) (es.drop i))).1.2.2
 |0,i,f,_,h=>by omega
 |q+1,i,f,hi,hq=>by
  have il:(ints es).length=gs.length:=by rw[ints,hE,hl]
  rw[Q145.l3,vQ,il];by_cases hlt:i<gs.length
  ·have hlt2:i<es.length:=by omega
   obtain⟨e1,e2,e3⟩:=tj hlt;have he:=hb _ (aE hlt2);rw[ct (dT hlt),ct (dT hlt),ct (bG hlt),ct (bG hlt)];simp only[zA,e1,e2,e3,dS hlt2];rw[eX hN hd gs[i].1 (n:=(es[i]:Int)) (by omega) (by omega)];simp only[iA,zA];rw[q9 hN hd];simp only[iA];rw[vD (by omega),fZ hN hd hl hg hb x8 x9 x10 K0 q (i+1) _ (by omega) (by omega),cD hlt,cD hlt2];have e:mul hd (mul hd f (pw (bC hd) gs[i].1 es[i])) (val (bC hd) (gs.drop (i+1)) (es.drop (i+1)))=mul hd f (val (bC hd) (gs[i]::gs.drop (i+1)) (es[i]::es.drop (i+1))):=(bC hd).assoc _ _ _;rw[e]
  ·have h0:gs.drop i=[]:=hT (by omega);have e:mul hd f (val (bC hd) [] (es.drop i))=f:=by rw[aF];exact(bC hd).mul_one f
   rw[cf (dF hlt),h0,e]
theorem xd {N:Nat}(hN:8589934600<N)(hd:iE d){gs:List (K d×Nat)}{es:List Nat}(hl:es.length=gs.length)(hg:gs.length≤45000)(hb:∀e∈es,e<9223372036854775807):Q145.f N d (yA (gs.map (·.1.1))) (ints es)=some (val (bC hd) gs es).1:=by
 unfold Q145.f;rw[lH N hd];simp only[iA];have:=fZ hN hd hl hg hb 0 0 0 (fun y22 y23 y24 y25 y26 y27=>some (y25,y26,y27)) N 0 (one hd) (by omega) (by omega);have e:mul hd (one hd) (val (bC hd) gs es)=val (bC hd) gs es:=(bC hd).one_mul _;rw[pC,hU,hU,e]at this;exact this
theorem bk {N:Nat}(hd:iE d)(z:K d):Q100.f N z.1.1 z.1.2.1 z.1.2.2=some true:=by
 obtain⟨h,hr,hs⟩:=sW hd z.2.1;have hck:Q48.f N z.1.1 z.1.2.1 z.1.2.2=some 0:=by
  rcases dG N z.1.1 z.1.2.1 z.1.2.2 with⟨_,h2⟩|⟨h2,_⟩
  ·exact h2
  ·exact absurd h h2
 unfold Q100.f;rw[hck];simp only[iA,beq_self_eq_true,cond_true];rw[sF N h.good,if_pos hr,if_neg hs];rfl
theorem Ea {N:Nat}(hN:8589934600<N)(hd:iE d)(z:K d){n:Nat}(ho:wU (bC hd) z n):Q134.f N z.1.1 z.1.2.1 z.1.2.2=some ((n:Int),0):=by
 have hV:=z.val hd;obtain⟨a',b',c',r1,r2,r3,p,q,r,u,r4⟩:=lD hN hV;obtain⟨k,hk,hcl⟩:=rJ r2;have hkz:z=k:=lM hd hcl;subst hkz;obtain⟨k1,k2,k3⟩:=wq hk;obtain⟨L,gs,hP,_,_,hn,_,_⟩:=qF hN hd;have j1:=eS hN hd hV hcl;have hD:=(dt N hd z).1;have hA:Q133.f N z.1.1 z.1.2.1 z.1.2.2=some (z.1.1,z.1.2.1,z.1.2.2,(L.length:Int),0):=by unfold Q133.f;rw[j1];simp only[iA];rw[cf (by rfl),hD];simp only[iA];rw[hn];simp only[iA];rw[cf (by rfl),r4,k1,k2,k3];rfl
 have hL:=hP.fin;have hb:=hP.len;obtain⟨m,m1,m2,m3⟩:=cR hN hd z (hL.pos (bC hd)) (by omega) (fG hL z);have:m=n:=m1.uniq ho;subst this;unfold Q134.f;rw[hA];simp only[iA];rw[cf (by rfl),hD];simp only[iA];rw[lH N hd];simp only[iA];rw[m3];rfl
end
section
open Go Go.Proofs.YtjpdjdhdchjcgaaGreat.Ev
open Go.Proofs.YtjpdjdhdchjcgaaGreat.Pure (cA)
open Go.Proofs.YtjpdjdhdchjcgaaGreat.Cls (iE)
open Go.Proofs.YtjpdjdhdchjcgaaGreat.Srt (ct cf bG uF lJ)
section
variable {G:Type}{A:AG G}
def dg:List (G×Nat)→Nat→List Nat
 | [],_=>[]
 |g::gs,k=>(k%g.2)::dg gs (k/g.2)
theorem oh:∀(gs:List (G×Nat)) (k:Nat),(dg gs k).length=gs.length
 | [],_=>rfl
 |g::gs,k=>by simp only[dg,hI,oh gs]
theorem Ao:∀{gs:List (G×Nat)} (k:Nat),(∀g∈gs,0<g.2)→Sm gs (dg gs k)
 | [],_,_=>trivial
 |g::gs,k,h=>⟨Nat.mod_lt _ (h g (by simp)),Ao _ fun g hg=>h g (hX _ hg)⟩
theorem An:∀{gs:List (G×Nat)} {j k:Nat},j<np gs→k<np gs→dg gs j=dg gs k→j=k
 | [],j,k,h1,h2,_=>by simp only[np]at h1 h2;omega
 |g::gs,j,k,h1,h2,h=>by simp only[dg,List.cons.injEq]at h;simp only[np]at h1 h2;have e:=An (gs:=gs) (d3 h1) (d3 h2) h.2;rw[←Nat.div_add_mod j g.2,←Nat.div_add_mod k g.2,h.1,e]
theorem Sm.bound {b:Nat}:∀{gs:List (G×Nat)} {es:List Nat},(∀g∈gs,g.2≤b)→Sm gs es→∀e∈es,e<b
 | [],[],_,_,e,he=>by cases he
 |g::gs,x::es,h,hs,e,he=>by
  rcases n0.mp he with rfl|he
  ·exact Nat.lt_of_lt_of_le hs.1 (h g (by simp))
  ·exact Sm.bound (fun g hg=>h g (hX _ hg)) hs.2 e he
 | [],_::_,_,hs,_,_=>hs.elim
 |_::_,[],_,_,e,he=>by cases he
theorem E7 {a:List (G×Nat)}{i:Nat}(h:i<a.length):np (a.take (i+1))=np (a.take i)*a[i].2:=by
 rw[xK,zB h,ft];simp[np]
theorem Bs:∀{a:List (G×Nat)},(∀g∈a,0<g.2)→0<np a
 | [],_=>by simp[np]
 |g::a,h=>by simp only[np];exact Nat.mul_pos (h g (by simp)) (Bs fun g hg=>h g (hX _ hg))
theorem H5 {a:List (G×Nat)}(h:∀g∈a,0<g.2)(i:Nat):np (a.take i)≤np a:=by
 have:np a=np (a.take i)*np (a.drop i):=by rw[←ft,v2]
 rw[this];exact j0 _ (Bs fun g hg=>h g (a3 hg))
end
variable {d:Int}
abbrev dR (gs:List (K d×Nat)):List Int:=gs.map fun g=>(g.2:Int)
structure Kn (hd:iE d)(L:List (K d))(gs:List (K d×Nat)):Prop where
 fin:iy L
 len:L.length≤45000
 glen:gs.length≤45000
 uq:Uq (bC hd) gs
 big:∀g∈gs,1<g.2∧g.2≤45000
 up:gs.Pairwise (fun a b=>a.2∣b.2)
 count:np gs=L.length
 all:∀x,In (bC hd) gs x
theorem Pt.kn {hd:iE d}{L:List (K d)}{gs:List (K d×Nat)}(h:Pt hd L gs):Kn hd L gs:=by
 have hb:=h.len;refine⟨h.fin,h.len,h.glen,?_,fun g hg=>?_,?_,?_,fun x=>?_⟩
 ·have:=h.gen.uq.reverse;rwa[w0]at this
 ·have:=h.gen.big g (by simpa using hg);have:=h.gen.short h.fin (Nat.dvd_refl _) g (by simpa using hg);omega
 ·have:=h.gen.desc;rwa[List.pairwise_reverse]at this
 ·rw[←Bt];exact h.gen.count h.fin
 ·have:=(h.gen.all x (fG h.fin x)).reverse;rwa[w0]at this
theorem dM {N:Nat}(hN:8589934600<N){hd:iE d}{L:List (K d)}{gs:List (K d×Nat)}(h:Kn hd L gs){R:Type}(x8:Int)(k0:Int→List Int→List Int→Int→Int→Option R)(kr:Bool→Option R):∀(q i:Nat),i≤gs.length→gs.length-i<q→
  Q150.l8 N q d (yA (gs.map (·.1.1))) (dR gs) x8 ((np (gs.take i):Nat):Int) (i:Int) k0 kr=k0 d (yA (gs.map (·.1.1))) (dR gs) x8 ((np gs:Nat):Int)
 |0,i,_,hq=>by omega
 |q+1,i,hi,hq=>by
  have hol:(dR gs).length=gs.length:=by simp
  have hglen:=h.glen;rw[Q150.l8,hol,vQ];by_cases hlt:i<gs.length
  ·obtain⟨e1,e2,e3⟩:=tj hlt;have hm:=aE hlt;have ho:=h.uq.ordOf hm;obtain⟨b1,b2⟩:=h.big _ hm;have hpos:∀g∈gs,0<g.2:=fun g hg=>by have:=(h.big g hg).1;omega
   have hnl:=H5 hpos (i+1);have hcount:=h.count;have hL:=h.len;have hw:aA ((np (gs.take i):Int)*(gs[i].2:Int))=((np (gs.take (i+1)):Nat):Int):=by rw[E7 hlt]at hnl⊢;rw[←d2,gW (by omega)]
   have oat:=qW hlt;rw[ct (dT hlt),ct (bG hlt)];simp only[zA,e1,e2,e3,oat];rw[Ea hN hd gs[i].1 ho];simp only[iA];have step:(bif (decide (0≤(i:Int)))&&(decide ((i:Int)<(gs.length:Int)))then
      bif (gs[i].2:Int) != (gs[i].2:Int)then
       kr false
      else
      bif (decide (0≤(i:Int)))&&(decide ((i:Int)<(gs.length:Int)))then
       (Q100.f N gs[i].1.1.1 gs[i].1.1.2.1 gs[i].1.1.2.2).bind fun r15=>
       bif !r15 then
        kr false
       else
       bif (decide (0≤(i:Int)))&&(decide ((i:Int)<(gs.length:Int)))then
        (Q47.f N gs[i].1.1.1 gs[i].1.1.2.1 gs[i].1.1.2.2).bind fun r16=>
        bif r16 != d then
         kr false
        else
        bif (decide (0≤(i:Int)))&&(decide ((i:Int)<(gs.length:Int)))then
         Q150.l8 N q d (yA (gs.map (·.1.1))) (dR gs) x8 (aA ((np (gs.take i):Int)*(gs[i].2:Int))) (aA ((i:Int)+1)) k0 kr
        else none
       else none
      else none
     else none)=k0 d (yA (gs.map (·.1.1))) (dR gs) x8 ((np gs:Nat):Int):=by
    rw[ct (bG hlt),cf (by simp),ct (bG hlt),bk hd];simp only[iA];rw[cf (by rfl),ct (bG hlt),(dt N hd _).1];simp only[iA];rw[cf (by simp),ct (bG hlt),hw,vD (by omega)];exact dM hN h x8 k0 kr q (i+1) (by omega) (by omega)
   rw[ct (bG hlt),cf (decide_eq_false (by omega))];by_cases h0:0<i
   ·have hlt1:i-1<gs.length:=by omega
    have hdv:gs[i-1].2∣gs[i].2:=(List.pairwise_iff_getElem.mp h.up) (i-1) i hlt1 hlt (by omega);have hpp:=hpos _ (aE hlt1);rw[ct (decide_eq_true (by omega)),ct (bG hlt),lJ h0 (by omega),ct (bG hlt1)];simp only[zA,qW hlt1];rw[ct (jh hpp),mw,Nat.mod_eq_zero_of_dvd hdv,cf (by rfl),cf (by rfl)];exact step
   ·rw[cf (decide_eq_false (by omega)),cf (by rfl)];exact step
  ·rw[cf (dF hlt),zE (by omega)]
theorem jo (N:Nat){gs:List (K d×Nat)}(hg:gs.length≤45000)(hb:∀g∈gs,0<g.2){R:Type}(x35 x38 x39:Int)(x36:List Int)(x42:List (List Int))(x43:List Int)(K0:Int→List Int→List Int→Int→Int→List (List Int)→List Int→List Int→Option R):
  ∀(q i x:Nat) (pre:List Nat) (old:List Int),i≤gs.length→gs.length-i<q→x<1000000→pre.length=i→old.length=gs.length-i→
   Q150.l23 N q x35 x36 (dR gs) x38 x39 (x:Int) (i:Int) x42 x43 (ints pre++old) K0=K0 x35 x36 (dR gs) x38 x39 x42 x43 (ints (pre++dg (gs.drop i) x))
 |0,i,x,pre,old,_,h,_,_,_=>by omega
 |q+1,i,x,pre,old,hi,hq,hx,hp,ho=>by
  have hol:(dR gs).length=gs.length:=by simp
  have hpl:(ints pre).length=i:=by rw[ints,hE,hp]
  rw[Q150.l23,hol];by_cases hlt:i<gs.length
  ·have hrl:(ints pre++old).length=gs.length:=by rw[sS,hpl,ho];omega
   have hpos:=hb _ (aE hlt);have hdv:x/gs[i].2≤x:=Nat.div_le_self _ _;rw[ct (dT hlt),ct (bG hlt)];simp only[zA,qW hlt];rw[ct (jh hpos),hrl,ct (bG hlt),ct (bG hlt),ct (jh hpos),ms,gW (d1 hdv (by omega)),vD (by omega),mw];cases old with
   |nil=>simp at ho;omega
   |cons o old=>
    have es:(ints pre++o::old).set i ((x%gs[i].2:Nat):Int)=ints (pre++[x%gs[i].2])++old:=by rw[q0 _ _ (by omega),hpl,v3,f0];simp[ints]
    rw[es,jo N hg hb x35 x38 x39 x36 x42 x43 K0 q (i+1) (x/gs[i].2) (pre++[x%gs[i].2]) old (by omega) (by omega) (d1 hdv hx) (by simp[hp]) (by simp at ho;omega),cD hlt,dg];simp
  ·have:old=[]:=i0.mp (by omega);subst this;rw[cf (dF hlt),hT (by omega),dg];simp
theorem bm {N:Nat}(hN:8589934600<N){hd:iE d}{L:List (K d)}{gs:List (K d×Nat)}(h:Kn hd L gs){R:Type}(k2:Unit→Option R)(kr:Bool→Option R):∀(q k:Nat) (ks:List (List Int)) (vs:List Int) (row:List Int),k≤np gs→np gs-k<q→row.length=gs.length→
  Mp (fun z=>∃j,j<k∧z=val (bC hd) gs (dg gs j)) (fun _ v=>v=1) ks vs→Q150.l19 N q d (yA (gs.map (·.1.1))) (dR gs) ((np gs:Nat):Int) (k:Int) ks vs row k2 kr=k2 ()
 |0,k,ks,vs,row,_,hq,_,_=>by omega
 |q+1,k,ks,vs,row,hk,hq,hr,hM=>by
  have hnp:=h.count;have hL:=h.len;have hpos:∀g∈gs,0<g.2:=fun g hg=>by have:=(h.big g hg).1;omega
  rw[Q150.l19,uF];by_cases hlt:k<np gs
  ·have i1:k+1≤np gs:=hlt;have i2:np gs- (k+1)<q:=by omega
   have i3:k<9223372036854775807:=by omega
   rw[ct (decide_eq_true hlt)];have h23:=jo N h.glen hpos d ((np gs:Nat):Int) (k:Int) (yA (gs.map (·.1.1))) ks vs (fun y53 y54 y55 y56 y57 y58 y59 y60=>
     (Q145.f N y53 y54 y60).bind fun r61=>
     bif (decide (0≤(eE [r61.1,r61.2.1,r61.2.2] y58)))&&(decide ((eE [r61.1,r61.2.1,r61.2.2] y58)<((vB [r61.1,r61.2.1,r61.2.2] y58).length:Int)))then
      bif decide ((rE [r61.1,r61.2.1,r61.2.2] (vB [r61.1,r61.2.1,r61.2.2] y58) ((gG [r61.1,r61.2.1,r61.2.2] (rE [r61.1,r61.2.1,r61.2.2] y58 y59) y58 (List.take (List.length y58) y59)).set ((eE [r61.1,r61.2.1,r61.2.2] y58).toNat) (aA ((rE [r61.1,r61.2.1,r61.2.2] y58 y59)+1))))>1)then
       kr false
      else
      (Q100.f N r61.1 r61.2.1 r61.2.2).bind fun r63=>
      bif !r63 then
       kr false
      else
      Q150.l19 N q y53 y54 y55 y56 (aA (y57+1)) (vB [r61.1,r61.2.1,r61.2.2] y58) ((gG [r61.1,r61.2.1,r61.2.2] (rE [r61.1,r61.2.1,r61.2.2] y58 y59) y58 (List.take (List.length y58) y59)).set ((eE [r61.1,r61.2.1,r61.2.2] y58).toNat) (aA ((rE [r61.1,r61.2.1,r61.2.2] y58 y59)+1))) y60 k2 kr
     else none) N 0 k [] row (by omega) (by have:=h.glen;omega) (by omega) rfl (by omega)
   rw[hU,List.nil_append,pC]at h23;refine h23.trans ?_;have hsm:=Ao k hpos;have hlen:=oh gs k;have hbd:=Sm.bound (fun g hg=>(h.big g hg).2) hsm;rw[xd hN hd hlen h.glen (fun e he=>by have:=hbd e he;omega)];simp only[iA];generalize hz:val (bC hd) gs (dg gs k)=z;have hnew:¬ ∃j,j<k∧z=val (bC hd) gs (dg gs j):=fun⟨j,hj,e⟩=>by have hc:=h.uq.cong (h.fin.pos (bC hd)) (fG h.fin) hlen (oh gs j) (hz.trans e);have:=An hlt (show j<np gs by omega) (hc.eq hsm (Ao j hpos));omega
   have h0:=((hM.get z).resolve_left fun hS=>hnew hS.1).2;unfold key at h0;have hw:aA ((0:Int)+1)=1:=by decide
   have hput:=hM.put z (v:=1) rfl;have hg1:=((hput.get z).resolve_right fun hn=>hn.1 (.inr rfl)).2;unfold key at hput hg1;rw[ct mn,tr hM.len,h0,hw,hg1,cf (by decide),bk hd];simp only[iA];rw[cf (by rfl),vD i3];exact bm hN h k2 kr q (k+1) _ _ _ i1 i2 (by rw[ints,hE,hlen]) (hput.congr (fun y=>by
    constructor
    ·rintro(⟨j,hj,e⟩|rfl)
     ·exact⟨j,by omega,e⟩
     ·exact⟨k,by omega,hz.symm⟩
    ·rintro⟨j,hj,e⟩;by_cases hjk:j=k
     ·subst hjk;exact .inr (e.trans hz)
     ·exact .inl ⟨j,by omega,e⟩) (fun _ _ h=>h))
  ·rw[cf (decide_eq_false hlt)]
theorem oX {N:Nat}(hN:8589934600<N)(hw:Q146.f N=some true)(a:Int)(w:(Lit.int .u16 a).wf=true):Q150.f N a=some true:=by
 obtain⟨w1,w2⟩:=Gq w;obtain⟨d,hdisc,hd⟩:=wk N w1 w2;obtain⟨L,gs,hP,hC,hA,hn,hr,hg⟩:=qF hN hd;have h:=hP.kn;have hgl:=h.glen;have hcount:=h.count;have hLl:=h.len;have hS:=zH hN hP.glen hg;unfold Q150.f;rw[hdisc,iA,hS,iA,hn,iA];have hol:(dR gs).length=gs.length:=by simp
 rw[cf (by rfl),cf (by rfl),vQ,hol,cf (by simp)];have h8:=dM hN h (L.length:Int) (fun y22 y23 y24 y25 y26=>
   bif y26 != y25 then
    some false
   else
   bif decide ((y24.length:Int)=(y24.length:Int))&&decide (0≤(y24.length:Int))&&decide ((y24.length:Int)≤9223372036854775807)&&fB ((y24.length:Int).toNat) 8 then
    Q150.l19 N N y22 y23 y24 y26 0 [] [] (List.replicate ((y24.length:Int).toNat) (0:Int))
     (fun(_:Unit)=>
      (Q146.f N).bind fun r64=>
      some r64)
     (fun y65=>
      some y65)
   else none) (fun y66=>some y66) N 0 (by omega) (by omega)
 have z1:np ([]:List (K d×Nat))=1:=rfl;rw[hW,z1,pC,s0]at h8;refine h8.trans ?_;rw[hcount,cf (by simp),hol,zA];have hroom:(decide ((gs.length:Int)=(gs.length:Int))&&decide (0≤(gs.length:Int))&&decide ((gs.length:Int)≤9223372036854775807)&&fB gs.length 8)=true:=by rw[decide_eq_true rfl,decide_eq_true (show(0:Int)≤(gs.length:Int) by omega),decide_eq_true (show(gs.length:Int)≤9223372036854775807 by omega)];simp only[fB,Bool.and_self,Bool.true_and,decide_eq_true_eq];omega
 rw[ct hroom];have h19:=bm hN h (fun(_:Unit)=>(Q146.f N).bind fun r64=>some r64) (fun y65=>some y65) N 0 [] [] (List.replicate gs.length (0:Int)) (by omega) (by omega) (by simp) (Mp.nil fun z ⟨j,hj,_⟩=>by omega);rw[pC,hcount]at h19;refine h19.trans ?_;rw[hw];rfl
end
section
open Go Go.Proofs.YtjpdjdhdchjcgaaGreat.Ev
open Go.Proofs.YtjpdjdhdchjcgaaGreat.Pure (cA)
open Go.Proofs.YtjpdjdhdchjcgaaGreat.Cls (iE)
open Go.Proofs.YtjpdjdhdchjcgaaGreat.Srt (R4 rB ct cf bG uF lJ)
variable {d:Int}
abbrev F4 (gs:List (K d×Nat)):List Int:=rB (gs.map bF)
theorem Ce {pre:List Int}{o:Int}{post:List Int}{i:Nat}(h:pre.length=i):(pre++o::post).getD i 0=o:=by
 subst h;simp[iB]
theorem uv {pre:List Int}{o x:Int}{post:List Int}{i:Nat}(h:pre.length=i):(pre++o::post).set i x=pre++x::post:=by
 subst h;rw[q0 _ _ (a0 _),v3,f0]
def Wk (hd:iE d)(gs:List (K d×Nat))(z:K d)(i:Nat)(a:K d)(pre:List Int)(m:Nat)(b:Bool)(row':List Int):Prop:=
 ∃post':List Int,row'=pre++post'∧post'.length=m∧(b=true→∃es,Sm (gs.drop i) es∧mul hd a (val (bC hd) (gs.drop i) es)=z∧post'=ints es)∧(b=false→∀es,Sm (gs.drop i) es→mul hd a (val (bC hd) (gs.drop i) es)≠z)
theorem vk {N:Nat}(hN:8589934600<N)(hd:iE d){gs:List (K d×Nat)}(hg:gs.length≤45000)(z:K d){i:Nat}(hlt:i<gs.length)(hb:gs[i].2≤45000)(a:K d)(g:Int→Int→Int→Int→List Int→Int→Int→Int→List Int→Option (Bool×List Int×Int×Int×Int×List Int))
  (hgs:∀(a':K d) (pre post:List Int),pre.length=i+1→post.length=gs.length- (i+1)→∃b row',g ((i+1:Nat):Int) a'.1.1 a'.1.2.1 a'.1.2.2 (F4 gs) z.1.1 z.1.2.1 z.1.2.2 (pre++post)=some (b,F4 gs,z.1.1,z.1.2.1,z.1.2.2,row')∧Wk hd gs z (i+1) a' pre (gs.length- (i+1)) b row')
  (pre:List Int)(hp:pre.length=i):∀(q k:Nat) (post:List Int),post.length=gs.length- (i+1)→k≤gs[i].2→gs[i].2-k<q→(∀e es,e<k→Sm (gs.drop (i+1)) es→mul hd (mul hd a (pw (bC hd) gs[i].1 e)) (val (bC hd) (gs.drop (i+1)) es)≠z)→
   ∃b row',Q135.l4 g N q (i:Int) (F4 gs) z.1.1 z.1.2.1 z.1.2.2 (pre++(k:Int)::post) (mul hd a (pw (bC hd) gs[i].1 k)).1.1 (mul hd a (pw (bC hd) gs[i].1 k)).1.2.1 (mul hd a (pw (bC hd) gs[i].1 k)).1.2.2 (fun y37 y38 y39 y40 y41=>some (false,y37,y38,y39,y40,y41)) (fun y47 y48 y49 y50 y51 y52=>some (y47,y48,y49,y50,y51,y52))=some (b,F4 gs,z.1.1,z.1.2.1,z.1.2.2,row')∧Wk hd gs z i a pre (gs.length-i) b row'
 |0,k,post,_,_,h,_=>by omega
 |q+1,k,post,hpo,hk,hq,hno=>by
  have hrl:∀(x:Int) (p:List Int),p.length=gs.length- (i+1)→(pre++x::p).length=gs.length:=fun x p h=>by rw[sS,hI,hp,h];omega
  obtain⟨e1,e2,e3,e4⟩:=yT hlt;have hassoc:∀(e:Nat) (es:List Nat),mul hd (mul hd a (pw (bC hd) gs[i].1 e)) (val (bC hd) (gs.drop (i+1)) es)=mul hd a (val (bC hd) (gs.drop i) (e::es)):=fun e es=>by rw[cD hlt];exact(bC hd).assoc _ _ _
  rw[Q135.l4,hrl _ _ hpo,ct (bG hlt),wE,ct (bG hlt)];simp only[zA,Ce hp,e4];by_cases hkl:k<gs[i].2
  ·rw[ct (dT hkl),vD (by omega)];obtain⟨b,row',g1,post',g2,g3,g4,g5⟩:=hgs (mul hd a (pw (bC hd) gs[i].1 k)) (pre++[(k:Int)]) post (by simp[hp]) hpo;rw[List.append_assoc,List.singleton_append]at g1 g2;rw[g1];simp only[iA];cases b with
   |true=>
    obtain⟨es,s1,s2,s3⟩:=g4 rfl;refine⟨true,row',by rw[cond_true],(k:Int)::post',g2,by rw[hI,g3];omega,fun _=>⟨k::es,?_,?_,by rw[s3];rfl⟩,fun h=>(by cases h)⟩
    ·rw[cD hlt];exact⟨hkl,s1⟩
    ·rw[←hassoc];exact s2
   |false=>
    have g5:=g5 rfl;rw[cond_false,wE,ct (bG hlt)];simp only[e1,e2,e3];rw[tI hN hd];simp only[iA];rw[g2,hrl _ _ g3,ct (bG hlt),ct (bG hlt),Ce hp,uv hp,vD (by omega)];have e:mul hd (mul hd a (pw (bC hd) gs[i].1 k)) gs[i].1=mul hd a (pw (bC hd) gs[i].1 (k+1)):=(bC hd).assoc _ _ _;rw[e];refine vk hN hd hg z hlt hb a g hgs pre hp q (k+1) post' g3 hkl (by omega) (fun e es he hs=>?_);by_cases hek:e=k
    ·subst hek;exact g5 es hs
    ·exact hno e es (by omega) hs
  ·rw[cf (dF hkl)];refine⟨false,_,rfl,(k:Int)::post,rfl,by rw[hI,hpo];omega,fun h=>(by cases h),fun _ es hs=>?_⟩;rw[cD hlt]at hs⊢;cases es with
   |nil=>exact hs.elim
   |cons e es=>have:=hno e es (by have:=hs.1;omega) hs.2;rw[hassoc,cD hlt]at this;exact this
theorem D6 {N:Nat}(hN:8589934600<N)(hd:iE d){gs:List (K d×Nat)}(hg:gs.length≤45000)(hb:∀g∈gs,g.2≤45000)(z:K d):∀(m i:Nat) (a:K d) (pre post:List Int),i≤gs.length→gs.length-i<m→pre.length=i→post.length=gs.length-i→
  ∃b row',Q135.g N m (i:Int) a.1.1 a.1.2.1 a.1.2.2 (F4 gs) z.1.1 z.1.2.1 z.1.2.2 (pre++post)=some (b,F4 gs,z.1.1,z.1.2.1,z.1.2.2,row')∧Wk hd gs z i a pre (gs.length-i) b row'
 |0,i,a,pre,post,_,h,_,_=>by omega
 |m+1,i,a,pre,post,hi,hm,hp,hpo=>by
  rw[Q135.g,Q135.step,wE];by_cases hlt:i<gs.length
  ·rw[cf (beq_eq_false_iff_ne.mpr (by omega))];cases post with
   |nil=>simp at hpo;omega
   |cons o post=>
    have hpo':post.length=gs.length- (i+1):=by simp at hpo;omega
    have hl:(pre++o::post).length=gs.length:=by rw[sS,hI,hp,hpo'];omega
    rw[hl,ct (bG hlt),zA,uv hp];have:=vk hN hd hg z hlt (hb _ (aE hlt)) a (Q135.g N m) (fun a' pre' post' h1 h2=>D6 hN hd hg hb z m (i+1) a' pre' post' hlt (by omega) h1 h2) pre hp N 0 post hpo' (by omega) (by have:=hb _ (aE hlt);omega) (fun e es he=>by omega);have e:mul hd a (pw (bC hd) gs[i].1 0)=a:=(bC hd).mul_one a;rw[e,pC]at this;exact this
  ·have hie:i=gs.length:=by omega
   subst hie;rw[ct (by simp)];have hd0:gs.drop gs.length=[]:=hT (a0 _);have hz:post=[]:=i0.mp (by omega);subst hz;refine⟨_,_,rfl,[],rfl,by simp,fun h=>⟨[],?_,?_,rfl⟩,fun h es hs=>?_⟩
   ·rw[hd0];trivial
   ·rw[hd0,aF];have:=(Da a z).mp h;rw[←this];exact(bC hd).mul_one a
   ·rw[hd0,aF];intro he;have:a=z:=((bC hd).mul_one a).symm.trans he;rw[(Da a z).mpr this]at h;cases h
theorem wo {N:Nat}(hN:8589934600<N)(hd:iE d){L:List (K d)}{gs:List (K d×Nat)}(h:Kn hd L gs)(hg:Q131.f N d=some (F4 gs,0))(z:K d):∃es,Sm gs es∧val (bC hd) gs es=z∧Q136.f N z.1.1 z.1.2.1 z.1.2.2=some (ints es,0):=by
 have hV:=z.val hd;obtain⟨a',b',c',r1,r2,r3,p,q,r,u,r4⟩:=Pure.lD hN hV;obtain⟨k,hk,hcl⟩:=rJ r2;have hkz:z=k:=lM hd hcl;subst hkz;obtain⟨k1,k2,k3⟩:=wq hk;obtain⟨L',gs',hP',_,_,hn,_,_⟩:=qF hN hd;have hL':=hP'.fin.pos (bC hd);have hgl:=h.glen;have j1:=eS hN hd hV hcl;have hD:=(dt N hd z).1;have hA:Q133.f N z.1.1 z.1.2.1 z.1.2.2=some (z.1.1,z.1.2.1,z.1.2.2,(L'.length:Int),0):=by unfold Q133.f;rw[j1];simp only[iA];rw[cf (by rfl),hD];simp only[iA];rw[hn];simp only[iA];rw[cf (by rfl),r4,k1,k2,k3];rfl
 obtain⟨b,row',w1,post',w2,w3,w4,w5⟩:=D6 hN hd h.glen (fun g hg=>(h.big g hg).2) z N 0 (one hd) [] (List.replicate gs.length (0:Int)) (by omega) (by omega) rfl (by simp);rw[List.nil_append]at w1 w2;subst w2;rw[hU]at w4 w5;have hb:b=true:=by
  cases b with
  |true=>rfl
  |false=>obtain⟨es,s1,s2⟩:=(h.all z).small h.uq;refine absurd ?_ (w5 rfl es s1);rw[←s2];exact(bC hd).one_mul _
 obtain⟨es,s1,s2,s3⟩:=w4 hb;subst s3;refine⟨es,s1,((bC hd).one_mul _).symm.trans s2,?_⟩;unfold Q136.f;rw[hA,iA,cf (by rfl),hD,iA,hg,iA,iA,lH N hd,iA];dsimp only;have hroom:(decide ((gs.length:Int)=(gs.length:Int))&&decide (0≤(gs.length:Int))&&decide ((gs.length:Int)≤9223372036854775807)&&fB gs.length 8)=true:=by rw[decide_eq_true rfl,decide_eq_true (show(0:Int)≤(gs.length:Int) by omega),decide_eq_true (show(gs.length:Int)≤9223372036854775807 by omega)];simp only[fB,Bool.and_self,Bool.true_and,decide_eq_true_eq];omega
 rw[wE,zA,ct hroom,ct (decide_eq_true (by omega))];unfold Q135.f;rw[pC]at w1;rw[w1];rfl
end
section
open Go Go.Proofs.YtjpdjdhdchjcgaaGreat.Ev
open Go.Proofs.YtjpdjdhdchjcgaaGreat.Pure (cA)
open Go.Proofs.YtjpdjdhdchjcgaaGreat.Cls (iE)
open Go.Proofs.YtjpdjdhdchjcgaaGreat.Srt (R4 rB ct cf bG uF lJ fW)
section
variable {G:Type}{A:AG G}
theorem Sm.at:∀{gs:List (G×Nat)} {es:List Nat} (h:Sm gs es) {i:Nat} (hi:i<gs.length) (hj:i<es.length),es[i]<gs[i].2
 |g::gs,e::es,h,0,_,_=>h.1
 |g::gs,e::es,h,i+1,hi,hj=>by have:=Sm.at h.2 (i:=i) (by simpa using hi) (by simpa using hj);simpa using this
theorem Cg.at:∀{gs:List (G×Nat)} {es fs cs:List Nat} (h:Cg gs (lX es fs) cs) {i:Nat} (hi:i<gs.length) (h1:i<es.length) (h2:i<fs.length) (h3:i<cs.length),(es[i]+fs[i])%gs[i].2=cs[i]%gs[i].2
 |g::gs,e::es,f::fs,c::cs,h,0,_,_,_,_=>h.1
 |g::gs,e::es,f::fs,c::cs,h,i+1,hi,h1,h2,h3=>by have:=Cg.at (es:=es) (fs:=fs) h.2 (i:=i) (by simpa using hi) (by simpa using h1) (by simpa using h2) (by simpa using h3);simpa using this
end
variable {d:Int}
theorem nX (N:Nat){gs:List (K d×Nat)}(hg:gs.length≤45000)(hb:∀g∈gs,1<g.2∧g.2≤45000){es bs cs:List Nat}(ha:Sm gs es)(hbs:Sm gs bs)(hc:Sm gs cs)(hcg:Cg gs (lX es bs) cs){R:Type}(x12 x18 x19 x20:Int)(k0:Int→List Int→Int→Int→Int→Option R)(kr:Bool→Option R):∀(q i:Nat),i≤gs.length→gs.length-i<q→
  Q151.l15 N q x12 (dR gs) (ints es) (ints bs) (ints cs) (i:Int) x18 x19 x20 k0 kr=k0 x12 (dR gs) x18 x19 x20
 |0,i,_,h=>by omega
 |q+1,i,hi,hq=>by
  have la:=ha.len;have lb:=hbs.len;have lc:=hc.len;have ho:(dR gs).length=gs.length:=by simp
  have l1:(ints es).length=gs.length:=by rw[ints,hE,la]
  have l2:(ints bs).length=gs.length:=by rw[ints,hE,lb]
  have l3:(ints cs).length=gs.length:=by rw[ints,hE,lc]
  rw[Q151.l15,ho,l1,l2,l3];by_cases hlt:i<gs.length
  ·have s1:=ha.at hlt (by omega);have s2:=hbs.at hlt (by omega);have s3:=hc.at hlt (by omega);have s4:=hcg.at hlt (by omega) (by omega) (by omega);obtain⟨b1,b2⟩:=hb _ (aE hlt);rw[ct (dT hlt),ct (bG hlt)];simp only[zA,dS (show i<es.length by omega),dS (show i<bs.length by omega),dS (show i<cs.length by omega),qW hlt];rw[Nat.mod_eq_of_lt s3]at s4;rw[cf (decide_eq_false (by omega)),ct (bG hlt),ct (bG hlt),cf (decide_eq_false (by omega)),ct (bG hlt),ct (bG hlt),ct (bG hlt),ct (jh (by omega)),ct (bG hlt),fW (by omega),mw,s4,cf (by simp),vD (by omega)];exact nX N hg hb ha hbs hc hcg x12 x18 x19 x20 k0 kr q (i+1) (by omega) (by omega)
  ·rw[cf (dF hlt)]
end
open Go Go.Proofs.YtjpdjdhdchjcgaaGreat.Ev
open Go.Proofs.YtjpdjdhdchjcgaaGreat.Cls (iE)
open Go.Proofs.YtjpdjdhdchjcgaaGreat.Srt (R4 rB ct cf)
theorem qY {d:Int}{L:List (K d)}{l:List R3}{N:Nat}(hr:Q111.f N d=some (yA (L.map (·.1))))(hl:Q111.f N d=some (yA l)):L.map (·.1)=l:=by
 rw[hl]at hr;have:=congrArg jF (Option.some.inj hr).symm;rwa[rI,rI]at this
theorem aq:iE (-84):=⟨by decide,by decide,by decide⟩
theorem Hz:iE (-3):=⟨by decide,by decide,by decide⟩
theorem Hc:∃l,Q132.f N0 (-84)=some (l,[2,2],0):=by
 obtain⟨L,gs,hP,hC,_,_,hr,hg⟩:=qF cK aq;have hL:=qY hr (l:=[(1,0,21),(2,2,11),(3,0,7),(5,4,5)]) (by kernel_rfl);have hlen:L.length=4:=by have:=congrArg List.length hL;simpa using this
 have h:=hP.kn;have hS:=zH cK hP.glen hg;have htwo:∀g∈gs,g.2=2:=fun g hgm=>by have hm:g.1.1∈L.map (·.1):=b0 (h.fin.all g.1);rw[hL]at hm;simp only[n0,List.not_mem_nil,or_false]at hm;have ha:mul aq g.1 g.1=one aq:=(Df aq g.1).mpr (by rcases hm with hm|hm|hm|hm<;>rw[hm]<;>simp);have h1:=(fv aq (h.uq.ordOf hgm)).mpr ha;have:=(h.big g hgm).1;omega
 have hnp:=h.count;rw[hlen]at hnp;have:dR gs=[2,2]:=by
  cases gs with
  |nil=>simp[np]at hnp
  |cons x l=>
   have hx:=htwo x (by simp);simp only[np,hx]at hnp;cases l with
   |nil=>simp[np]at hnp
   |cons y l=>
    have hy:=htwo y (by simp);simp only[np,hy]at hnp;cases l with
    |nil=>simp[hx,hy]
    |cons w l=>exfalso;have hw:=htwo w (by simp);simp only[np,hw]at hnp;omega
 exact⟨_,by rw[hS];simp only[dR]at this;rw[this]⟩
theorem I4:Q132.f N0 (-3)=some ([],[],0):=by
 obtain⟨L,gs,hP,hC,_,_,hr,hg⟩:=qF cK Hz;have hL:=qY hr (l:=[(1,1,1)]) (by kernel_rfl);have hlen:L.length=1:=by have:=congrArg List.length hL;simpa using this
 have h:=hP.kn;have hS:=zH cK hP.glen hg;have hnp:=h.count;rw[hlen]at hnp;have:gs=[]:=by
  cases gs with
  |nil=>rfl
  |cons x l=>exfalso;have hx:=(h.big x (by simp)).1;simp only[np]at hnp;have:=Nat.eq_one_of_mul_eq_one_right hnp;omega
 subst this;exact hS
theorem H3:Q136.f N0 1 1 6=some ([0],0):=by
 obtain⟨L,gs,hP,hC,_,_,hr,hg⟩:=qF cK zO;have hL:=qY hr (l:=[(1,1,6),(2, -1,3),(2,1,3)]) (by kernel_rfl);have hlen:L.length=3:=by have:=congrArg List.length hL;simpa using this
 have h:=hP.kn;obtain⟨g,hgs⟩:=Br hP.gen (by rw[hP.gen.count hP.fin,hlen]);have hgs':gs=[(g,3)]:=by have:=congrArg List.reverse hgs;simpa using this
 have ho1:(one zO).1=(1,1,6):=by
  have h1:=lH N0 zO;have h2:Q83.f N0 (-23)=some (1,1,6,0):=by kernel_rfl
  rw[h2]at h1;simp only[Option.some.injEq,Prod.mk.injEq]at h1;obtain⟨a,b,c,_⟩:=h1;exact Prod.ext a.symm (Prod.ext b.symm c.symm)
 obtain⟨es,e1,e2,e3⟩:=wo cK zO h hg (one zO);rw[ho1]at e3;subst hgs';have hdv:=h.uq.dv es e1.len e2;have hes:es=[0]:=by
  match es,e1,hdv with
  | [e],e1,hdv=>have h1:e<3:=e1.1;have h2:3∣e:=hdv.1;have:e=0:=Nat.eq_zero_of_dvd_of_lt h2 h1;rw[this]
  | [],e1,_=>exact e1.elim
  |_::_::_,e1,_=>exact e1.2.elim
 rw[hes]at e3;exact e3
theorem Gz:Q137.f N0 (-84)=some ([1,0,21,2,2,11,3,0,7,5,4,5],0):=by
 obtain⟨L,_,_,_,_,h1,h2⟩:=zn cK aq;have h3:Q142.f N0 (-84)=some ([1,0,21,2,2,11,3,0,7,5,4,5],0):=by kernel_rfl
 rw[h3]at h2;rw[h1,h2]
theorem oZ {a b c n e:Int}(h:Q141.f N0 a b c=some (n,e)):Q134.f N0 a b c=some (n,e):=by
 obtain⟨n',e',q1,q2⟩:=dX cK a b c;rw[h]at q2;rw[q1,←q2]
theorem GroupKnown:∃N,Q153.f N=some true:=by
 refine⟨N0,?_⟩;obtain⟨l,h1⟩:=Hc;have h3:Q132.f N0 (-5)=some ([],[],80):=rQ (by decide) (by decide) (fun h=>absurd h.2.2 (by decide));have h4:Q132.f N0 (-65540)=some ([],[],80):=rQ (by decide) (by decide) (fun h=>absurd h.1 (by decide));have h5:Q134.f N0 2 2 4=some (0,81):=oZ (by kernel_rfl);have h6:Q134.f N0 1 0 32768=some (0,80):=oZ (by kernel_rfl);have h7:Q83.f N0 (-23)=some (1,1,6,0):=by kernel_rfl
 unfold Q153.f;rw[h1,iA,I4,iA,h3,iA,h4,iA,h5,iA,h6,iA,h7,iA,H3,iA,Gz,iA,ru];simp
section
variable {G:Type}
def tw (f:Nat→Nat):List (G×Nat)→List Nat
 | []=>[]
 |g::gs=>if f g.2=1 then []else f g.2::tw f gs
def G6 (q:Nat):List (G×Nat)→Nat
 | []=>0
 |g::gs=>if q∣g.2 then G6 q gs+1 else 0
end
section
open Go.Proofs.YtjpdjdhdchjcgaaGreat.Pure (cA)
open Go.Proofs.YtjpdjdhdchjcgaaGreat.Cls (iE mJ vU)
open Go.Proofs.YtjpdjdhdchjcgaaGreat.Srt (R4 rB ct cf bG uF lJ fW)
variable {d:Int}
theorem jz (l:List Nat):(ints l).length=l.length:=by simp[ints]
theorem wx (l:List Nat)(n:Nat):ints l++[(n:Int)]=ints (l++[n]):=by simp[ints]
end
section
open Go.Proofs.YtjpdjdhdchjcgaaGreat.Pure (cA)
open Go.Proofs.YtjpdjdhdchjcgaaGreat.Cls (iE mJ vU)
open Go.Proofs.YtjpdjdhdchjcgaaGreat.Srt (R4 rB ct cf bG uF lJ fW)
variable {d:Int}
theorem wJ (N:Nat){os:List Nat}(hl:os.length≤45000){R:Type}(k:List Int→Option R):∀(q i:Nat),i≤os.length→i<q→
  Q139.l36 N q (((i:Nat):Int)-1) (ints os) (ints (os.drop i).reverse) k=k (ints os.reverse)
 |0,i,_,h=>by omega
 |q+1,i,hi,hq=>by
  rw[Q139.l36];cases i with
  |zero=>rw[cf (decide_eq_false (by simp)),hU]
  |succ i=>
   have e:((i+1:Nat):Int)-1=(i:Int):=by omega
   have hroom:fB ((ints (os.drop (i+1)).reverse).length+1) 8=true:=by rw[jz];simp only[fB,decide_eq_true_eq,j3,List.length_drop];omega
   rw[e,ct (decide_eq_true (by omega)),jz,ct (bG (show i<os.length by omega)),ct hroom,zA,dS (show i<os.length by omega),wx];have e2:(os.drop (i+1)).reverse++[os[i]]=(os.drop i).reverse:=by rw[cD (show i<os.length by omega),List.reverse_cons]
   have e3:aA ((i:Int)-1)=(i:Int)-1:=cA (by omega) (by omega);rw[e2,e3];exact wJ N hl k q i (by omega) (by omega)
end
end Go.Proofs.YtjpdjdhdchjcgaaGreat.Grp
