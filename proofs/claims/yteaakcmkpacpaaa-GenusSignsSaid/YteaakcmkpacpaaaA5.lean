import Derived.Test.YteaakcmkpacpaaaA4
import Derived.KernelRfl
open Nat renaming mod_eq_of_lt→hB,mul_comm→hD,dvd_of_mod_eq_zero→aE,le_mul_of_pos_left→zE,mul_assoc→hG,mul_mod→hI,mod_lt→xK,le_refl→hM,pow_succ→hP,gcd_comm→hQ,sub_mod_eq_zero_of_mod_eq→hS,mul_le_mul→hU,one_mul→hV,lt_or_ge→hW,pos_of_ne_zero→l0,dvd_trans→u0,mod_eq_zero_of_dvd→k3,mul_mod_right→o3,mod_two_eq_zero_or_one→q4,pow_pos→u4,le_mul_of_pos_right→e5,gcd_dvd_right→k5,le_of_dvd→p5,gcd_dvd_left→q5,pow_zero→a6,add_mod→b6,add_sub_cancel→e6,add_mul_mod_self_left→q6,mul_div_cancel_left→e7,mul_add_mod→l7,mul_add→q7,mul_one→r7,mul_sub→w7,div_lt_iff_lt_mul→c8,dvd_zero→x8,zero_add→h9,dvd_one→r9,gcd_rec→x9,mod_mod→aa,pow_one→ae
open Option renaming bind_some→hC
open Int renaming tmod_eq_emod_of_nonneg→pC,toNat_natCast→x0,mul_nonneg→o1,natCast_zero→k4,add_mul_emod_self_left→p4,emod_eq_emod_iff_emod_sub_eq_zero→w4,dvd_mul_of_dvd_right→x4,dvd_of_emod_eq_zero→b5,tdiv_eq_ediv_of_nonneg→k6,natCast_emod→w6
open List renaming mem_range'_1→hE,mem_cons_of_mem→hK,nodup_range'→yK,length_map→o0,getD_eq_getElem?_getD→r0,mem_cons→o2,mem_singleton→j3,mem_map→p3,range'_1_concat→n4,length_erase_of_mem→y4,pairwise_map→h5,length_pos_of_mem→l5,mem_append→w5,mem_erase_of_ne→x5,pairwise_cons→c6,append_assoc→l6,drop_eq_getElem_cons→p6,filter_cons→x6,getElem?_eq_getElem→a7,length_cons→b7,map_nil→c7,append_nil→h7,map_append→k7,drop_eq_nil_of_le→p7,drop_zero→x7,prod_cons→b8,pairwise_append→k8,map_cons→r8
open Bool renaming not_false→y0,and_self→o4,not_true→h6
set_option linter.unusedVariables false
set_option linter.unusedSimpArgs false
namespace Go.Proofs.Yteaakcmkpacpaaa.Cls
open Go Go.Proofs.Yteaakcmkpacpaaa.Ev
open Go.Proofs.Yteaakcmkpacpaaa.Pure (kA sK n9 kK nC iH lN nL bN pO u7 bS iF)
theorem kc {d a b c:Int}(h:sK a b c)(hr:kK a b)(hs:¬nC a b c)(hd:b*b-4*a*c=d):Rd d a b c:=by
 unfold kK at hr;unfold nC at hs;exact⟨hd,h.pos,hr.1,hr.2,by omega⟩
theorem Dk (b:Int):(b*b)%4=0∨(b*b)%4=1:=by
 rcases(show b%2=0∨b%2=1 by omega)with hb|hb
 ·have e2:b=2*(b/2):=by omega
  have e3:b*b=4*((b/2)*(b/2)):=by generalize b/2=q at*;subst e2;grind
  omega
 ·have e2:b=2*(b/2)+1:=by omega
  have e3:b*b=4*((b/2)*(b/2)+(b/2))+1:=by generalize b/2=q at*;subst e2;grind
  omega
theorem wU {a b c:Int}(h:sK a b c)(h2: -65536≤b*b-4*a*c):ju (b*b-4*a*c):=by
 have e:4*a*c=4*(a*c):=by grind
 have:=Dk b;have:=h.d0;exact⟨h2,by omega,by omega⟩
theorem kN (N:Nat){a b c:Int}(h:sK a b c):Q37.f N a b c=some (b*b-4*a*c)∧Q45.f N a b c=some (b*b-4*a*c):=by
 have:=iH N a b c;rw[if_pos h.inb,lN h.inb]at this;exact this
structure Cl (d:Int)(L:List R3):Prop where
 up:L.Pairwise Af
 mem:∀x,x∈L↔Rd d x.1 x.2.1 x.2.2∧bI x.1 x.2.1 x.2.2=1
 len:L.length≤45000
theorem Cl.nodup {d:Int}{L:List R3}(h:Cl d L):L.Nodup:=h.up.imp (fun hx=>tz hx)
end Go.Proofs.Yteaakcmkpacpaaa.Cls
namespace Go.Proofs.Yteaakcmkpacpaaa.Pure
open Go Go.Proofs.Yteaakcmkpacpaaa.Ev Go.Proofs.Yteaakcmkpacpaaa.Cls
end Go.Proofs.Yteaakcmkpacpaaa.Pure
namespace Go.Proofs.Yteaakcmkpacpaaa.Gen
open Go Go.Proofs.Yteaakcmkpacpaaa.Ev
open Go.Proofs.Yteaakcmkpacpaaa.Pure (kA yO)
def sF (p:Nat):Prop:=1<p∧∀m,m∣p→m=1∨m=p
theorem sF.cop {p a:Nat}(h:sF p)(ha:¬p∣a):Nat.gcd a p=1:=by
 rcases h.2 _ (k5 a p)with e|e
 ·exact e
 ·exact absurd (by have:=q5 a p;rwa[e]at this) ha
abbrev PL:=List (Nat×Nat)
def cX:PL→List Int
 | []=>[]
 |x::l=>(x.1:Int)::(x.2:Int)::cX l
def lE:PL→Nat
 | []=>1
 |x::l=>x.1^x.2*lE l
theorem ke:∀a b:PL,cX (a++b)=cX a++cX b
 | [],b=>rfl
 |x::a,b=>by simp[cX,ke a b]
theorem rZ:∀a:PL,(cX a).length=2*a.length
 | []=>rfl
 |x::a=>by simp only[cX,b7,rZ a];omega
theorem bh (a:PL):((cX a).length/2:Int)=(a.length:Int):=by rw[rZ];omega
theorem th:∀{a:PL} {i:Nat} (h:i<a.length),(cX a).getD (i*2) 0=(a[i].1:Int)∧(cX a).getD (i*2+1) 0=(a[i].2:Int)
 |x::a,0,_=>⟨rfl,rfl⟩
 |x::a,i+1,h=>by
  have:=th (a:=a) (i:=i) (by simpa using h);have e1:(i+1)*2=i*2+1+1:=by omega
  have e2:(i+1)*2+1=i*2+1+1+1:=by omega
  rw[e2,e1];exact this
theorem oR:∀a b:PL,lE (a++b)=lE a*lE b
 | [],b=>(hV _).symm
 |x::a,b=>by simp only[List.cons_append,lE];rw[oR a b,hG]
structure Fz (n:Nat)(l:PL):Prop where
 up:l.Pairwise (fun a b=>a.1<b.1)
 pr:∀x∈l,sF x.1∧0<x.2
 prod:lE l=n
theorem eW:∀{l:PL},(∀x∈l,sF x.1∧0<x.2)→l.length<lE l
 | [],_=>by simp[lE]
 |x::l,h=>by have ih:=eW (l:=l) (fun y hy=>h y (hK _ hy));obtain⟨h1,h2⟩:=h x (by simp);have h3:1<x.1^x.2:=Nat.one_lt_pow (by omega) h1.1;simp only[lE,b7];have:=hU (show 2≤x.1^x.2 by omega) (hM (lE l));omega
def Fr (p n:Nat):Prop:=∀m,1<m→m∣n→p≤m
theorem Fr.prime {p n:Nat}(h:Fr p n)(hp:1<p)(hd:p∣n):sF p:=
 ⟨hp,fun m hm=>by
  have h0:0<m:=Nat.pos_of_dvd_of_pos hm (by omega);rcases hW 1 m with h1|h1
  ·have:=h m h1 (u0 hm hd);have:=p5 (by omega) hm;exact .inr (by omega)
  ·exact .inl (by omega)⟩
theorem Fr.last {p n:Nat}(h:Fr p n)(hn:1<n)(hs:n<p*p):sF n:=
 ⟨hn,fun m hm=>by
  obtain⟨k,rfl⟩:=hm;have hm0:0<m:=l0 fun e=>by subst e;simp at hn
  have hk0:0<k:=l0 fun e=>by subst e;simp at hn
  rcases hW 1 m with h1|h1
  ·rcases hW 1 k with h2|h2
   ·have a1:=h m h1 ⟨k,rfl⟩;have a2:=h k h2 ⟨m,hD _ _⟩;have:=hU a1 a2;omega
   ·have:k=1:=by omega
    subst this;exact .inr (by omega)
  ·exact .inl (by omega)⟩
theorem Fr.dvd {p n m:Nat}(h:Fr p n)(hm:m∣n):Fr p m:=fun k h1 h2=>h k h1 (u0 h2 hm)
theorem Fr.succ {p n:Nat}(h:Fr p n)(hd:¬p∣n):Fr (p+1) n:=fun m h1 h2=>by
 have:=h m h1 h2;rcases hW p m with h3|h3
 ·omega
 ·have:m=p:=by omega
  subst this;exact absurd h2 hd
theorem iQ {p:Nat}(hp:1<p):∀(f n:Nat),0<n→n<f→∃j m,n=p^j*m∧¬p∣m
 |0,n,_,h=>by omega
 |f+1,n,hn,h=>by
  by_cases hd:p∣n
  ·obtain⟨k,rfl⟩:=hd;have hk:0<k:=l0 fun e=>by subst e;simp at hn
   have:k<p*k:=by have:=hU (show 2≤p by omega) (hM k);omega
   obtain⟨j,m,e,hm⟩:=iQ hp f k hk (by omega);exact⟨j+1,m,by rw[e,hP,hD (p^j) p,hG],hm⟩
  ·exact⟨0,n,by simp,hd⟩
theorem xp {p:Nat}(h:0<p):(!((p:Int)==0))=true:=by
 have:((p:Int)==0)=false:=beq_eq_false_iff_ne.mpr (by omega);rw[this];rfl
theorem xa (a b:Nat):Int.tmod (a:Int) (b:Int)=((a%b:Nat):Int):=Int.ofNat_tmod a b
theorem Aq (a b:Nat):Int.tdiv (a:Int) (b:Int)=((a/b:Nat):Int):=Int.ofNat_tdiv a b
theorem A8 (a:Nat):((a:Int)==0)=decide (a=0):=by
 by_cases h:a=0
 ·subst h;rfl
 ·rw[decide_eq_false h];exact beq_eq_false_iff_ne.mpr (by omega)
theorem Bu {a:Nat}(h:a<9223372036854775808):aA (a:Int)=(a:Int):=kA (by omega) (by omega)
theorem wW {a:Nat}(h:a<9223372036854775807):aA ((a:Int)+1)=((a+1:Nat):Int):=by rw[kA (by omega) (by omega)];omega
theorem uh (N:Nat){R:Type}{p:Nat}(hp:1<p)(l:List Int)(K:Int→Int→Int→List Int→Option R):∀(f k j m:Nat),¬p∣m→0<m→j<f→k+j<1000000→p^j*m<1000000→
  Q76.l1 N f (p:Int) (k:Int) ((p^j*m:Nat):Int) l K=K (p:Int) ((k+j:Nat):Int) (m:Int) l
 |0,k,j,m,_,_,h,_,_=>by omega
 |f+1,k,j,m,hd,hm,h,hk,hb=>by
  rw[Q76.l1];simp only[xp (show 0<p by omega),cond_true];rw[xa,A8];cases j with
  |zero=>rw[a6,hV,decide_eq_false (fun e=>hd (aE e)),cond_false];rfl
  |succ j=>
   have e:p^(j+1)*m=p*(p^j*m):=by rw[hP,hD (p^j) p,hG]
   have hlt:p^j*m≤p^(j+1)*m:=by rw[e];exact zE _ (by omega)
   rw[decide_eq_true (by rw[e];exact o3 _ _),cond_true,Aq,e,e7 _ (by omega),Bu (by omega),wW (by omega)];have:=uh N hp l K f (k+1) j m hd hm (by omega) (by omega) (by omega);rw[this];congr 2;omega
theorem Bb {l:List Int}(h:l.length≤1000000):dB ((l.length+2)/2) 16=true:=by
 simp only[dB,decide_eq_true_eq];omega
theorem lr {p j:Nat}(hp:1<p):j<p^j:=Nat.lt_pow_self hp
theorem Ai {N:Nat}(hN:1000000<N){p j m:Nat}(hp:1<p)(hd:¬p∣m)(hm:0<m)(hb:p^j*m<1000000){l:PL}(hl:l.length<100000):
  Q76.f N (p:Int) ((p^j*m:Nat):Int) (cX l)=some (decide (0<j),(m:Int),if 0<j then cX (l++[(p,j)])else cX l):=by
 unfold Q76.f;have hj:j<1000000:=by have:=lr (j:=j) hp;have:=e5 (p^j) hm;omega
 have:=uh N hp (cX l) (fun y12 y13 y14 y15=>bif decide (y13>0)then bif dB ((y15.length+2)/2) 16 then some (true,y14,y15++[y12,y13])else none else some (false,y14,y15)) N 0 j m hd hm (by omega) (by omega) hb;rw[k4]at this;rw[this];simp only[h9];rw[Bb (by rw[rZ];omega)];by_cases h0:0<j
 ·rw[decide_eq_true (show(j:Int)>0 by omega),decide_eq_true h0,if_pos h0,ke];rfl
 ·rw[decide_eq_false (show ¬(j:Int)>0 by omega),decide_eq_false h0,if_neg h0];rfl
structure St (n0 p n:Nat)(l:PL):Prop where
 up:l.Pairwise (fun a b=>a.1<b.1)
 pr:∀x∈l,sF x.1∧0<x.2∧x.1<p
 prod:lE l*n=n0
 fr:Fr p n
 pos:0<n
theorem St.len {n0 p n:Nat}{l:PL}(h:St n0 p n l):l.length<n0+1∧n≤n0:=by
 have h1:=eW (l:=l) (fun x hx=>⟨(h.pr x hx).1,(h.pr x hx).2.1⟩);have h2:=h.prod;have h3:=h.pos;have:=e5 (lE l) h3;have:=zE n (show 0<lE l by omega);omega
theorem St.step {n0 p j m:Nat}{l:PL}(h:St n0 p (p^j*m) l)(hp:1<p)(hd:¬p∣m):St n0 (p+1) m (if 0<j then l++[(p,j)]else l):=by
 have hm:0<m:=l0 fun e=>by subst e;exact hd (x8 _)
 by_cases h0:0<j
 ·rw[if_pos h0];have hpp:sF p:=h.fr.prime hp (u0 (u0 (by simp) (Nat.pow_dvd_pow p (show 1≤j by omega))) ⟨m,rfl⟩);refine⟨?_,fun x hx=>?_,?_,(h.fr.dvd ⟨p^j,hD _ _⟩).succ hd,hm⟩
  ·rw[k8];exact⟨h.up,by simp,fun a ha b hb=>by simp only[j3]at hb;subst hb;exact(h.pr a ha).2.2⟩
  ·simp only[w5,j3]at hx;rcases hx with hx|rfl
   ·exact⟨(h.pr x hx).1,(h.pr x hx).2.1,by have:=(h.pr x hx).2.2;omega⟩
   ·exact⟨hpp,h0,by simp⟩
  ·rw[oR];simp only[lE,r7];rw[hG];exact h.prod
 ·rw[if_neg h0];have:j=0:=by omega
  subst this;have hf:=h.prod;rw[a6,hV]at hf;exact⟨h.up,fun x hx=>⟨(h.pr x hx).1,(h.pr x hx).2.1,by have:=(h.pr x hx).2.2;omega⟩,hf,(h.fr.dvd ⟨p^0,hD _ _⟩).succ hd,hm⟩
theorem St.end {n0 p n:Nat}{l:PL}(h:St n0 p n l)(hs:n<p*p):Fz n0 (if 1<n then l++[(n,1)]else l):=by
 by_cases h1:1<n
 ·rw[if_pos h1];have hq:=h.fr.last h1 hs;refine⟨?_,fun x hx=>?_,?_⟩
  ·rw[k8];refine⟨h.up,by simp,fun a ha b hb=>?_⟩;simp only[j3]at hb;subst hb;have:=(h.pr a ha).2.2;have:=h.fr n h1 (Nat.dvd_refl _);simp only;omega
  ·simp only[w5,j3]at hx;rcases hx with hx|rfl
   ·exact⟨(h.pr x hx).1,(h.pr x hx).2.1⟩
   ·exact⟨hq,by simp⟩
  ·rw[oR];simp only[lE,r7,ae];exact h.prod
 ·rw[if_neg h1];have:=h.pos;have:n=1:=by omega
  subst this;exact⟨h.up,fun x hx=>⟨(h.pr x hx).1,(h.pr x hx).2.1⟩,by have:=h.prod;omega⟩
theorem St.skip {n0 p n:Nat}{l:PL}(h:St n0 p n l)(hp:2<p)(he:p%2=0):St n0 (p+1) n l:=
 ⟨h.up,fun x hx=>⟨(h.pr x hx).1,(h.pr x hx).2.1,by have:=(h.pr x hx).2.2;omega⟩,h.prod,h.fr.succ fun hd=>by have:=h.fr 2 (by omega) (u0 (aE he) hd);omega,h.pos⟩
theorem ny {α:Type}(b:Bool)(x:α):(bif b then x else x)=x:=by cases b<;>rfl
theorem Bg {p n:Nat}(hp:p≤1000000):decide (aA ((p:Int)*(p:Int))≤(n:Int))=decide (p*p≤n):=by
 have h1:p*p≤1000000*1000000:=hU hp hp;rw[←Int.natCast_mul,Bu (by omega),decide_eq_decide];omega
theorem D4 {p:Nat}(hp:p<1000000):nD .i64 (p:Int) 1=((p%2:Nat):Int):=by
 have:=yO (x:=(p:Int)) (by omega) (by omega) 1 (by decide);simp only[Int.reducePow,Int.reduceSub]at this;rw[this];omega
theorem ug {N:Nat}(hN:1000000<N){n0:Nat}(hn:n0≤65536){R:Type}(K:Int→List Int→Option R):∀(f p n:Nat) (l:PL),St n0 p n l→1<p→(p=2∨p%2=1)→p≤n0+4→n0+5-p<f→
  ∃n' l' p',St n0 p' n' l'∧n'<p'*p'∧Q77.l8 N f (p:Int) (n:Int) (cX l) K=K (n':Int) (cX l')
 |0,p,n,l,_,_,_,_,h=>by omega
 |f+1,p,n,l,h,hp,hodd,hpn,hf=>by
  obtain⟨hl1,hl2⟩:=h.len;rw[Q77.l8,Bg (by omega)];by_cases hs:p*p≤n
  ·rw[decide_eq_true hs,cond_true];obtain⟨j,m,rfl,hd⟩:=iQ hp (n+1) n h.pos (by omega);have hm:0<m:=l0 fun e=>by subst e;exact hd (x8 _)
   rw[Ai hN hp hd hm (by omega) (by omega)];have hst:=h.step hp hd;have hpn2:p≤n0:=by have:=hU (show 1≤p by omega) (hM p);omega
   simp only[hC,ny];have e1:aA ((p:Int)+aA (1+nD .i64 (p:Int) 1))=((p+(1+p%2):Nat):Int):=by have e3:aA (1+((p%2:Nat):Int))=1+((p%2:Nat):Int):=kA (by omega) (by omega);rw[D4 (by omega),e3,kA (by omega) (by omega)];omega
   rw[e1];have e2:(if 0<j then cX (l++[(p,j)])else cX l)=cX (if 0<j then l++[(p,j)]else l):=by split<;>rfl
   rw[e2];rcases hodd with rfl|hodd
   ·exact ug hN hn K f 3 m _ hst (by omega) (by omega) (by omega) (by omega)
   ·have hst2:=hst.skip (by omega) (by omega);rw[hodd];exact ug hN hn K f (p+2) m _ hst2 (by omega) (by omega) (by omega) (by omega)
  ·rw[decide_eq_false hs,cond_false];exact⟨n,l,p,h,by omega,rfl⟩
theorem bg {N:Nat}(hN:1000000<N){n:Nat}(h0:0<n)(h1:n≤65536):∃l,Fz n l∧Q77.f N (n:Int)=some (cX l,0):=by
 unfold Q77.f;rw[decide_eq_false (show ¬(n:Int)<1 by omega),decide_eq_false (show ¬(n:Int)>1099511627776 by omega)];simp only[cond_false];obtain⟨n',l',p',hst,hs,e⟩:=ug hN h1 (fun y8 y9=>bif decide (y8>1)then(Q76.f N y8 y8 y9).bind fun r10=>bif r10.1 then some (r10.2.2,0)else some (r10.2.2,(0:Int))else some (y9,0)) N 2 n [] ⟨.nil,fun x hx=>(by cases hx),(by simp[lE]),fun m h2 _=>h2,h0⟩ (by omega) (.inl rfl) (by omega) (by omega);obtain⟨q1,q2⟩:=hst.len;refine⟨_,hst.end hs,e.trans ?_⟩;by_cases hn:1<n'
 ·rw[decide_eq_true (show(n':Int)>1 by omega),if_pos hn,cond_true];have:=Ai hN hn (j:=1) (m:=1) (by intro hd;have:=r9.mp hd;omega) (by omega) (by simp;omega) (l:=l') (by omega);rw[ae,r7]at this;rw[this];rfl
 ·rw[decide_eq_false (show ¬(n':Int)>1 by omega),if_neg hn,cond_false]
theorem sF.dvd_mul {p a b:Nat}(h:sF p)(hd:p∣a*b):p∣a∨p∣b:=by
 by_cases ha:p∣a
 ·exact .inl ha
 ·exact .inr ((Nat.Coprime.symm (h.cop ha)).dvd_of_dvd_mul_left hd)
theorem sF.dvd_pow {p a:Nat}(h:sF p):∀{k:Nat},p∣a^k→p∣a
 |0,hd=>by have:=h.1;have:=r9.mp (by simpa using hd);omega
 |k+1,hd=>by
  rw[hP]at hd;rcases h.dvd_mul hd with h1|h1
  ·exact sF.dvd_pow h h1
  ·exact h1
theorem sF.eq {p q:Nat}(h:sF p)(k:sF q)(hd:p∣q):p=q:=(k.2 p hd).resolve_left (by have:=h.1;omega)
theorem sF.in_prod {p:Nat}(h:sF p):∀{l:PL},(∀x∈l,sF x.1∧0<x.2)→p∣lE l→∃x∈l,x.1=p
 | [],_,hd=>by have:=h.1;have:=r9.mp hd;omega
 |x::l,hl,hd=>by
  rcases h.dvd_mul hd with h1|h1
  ·exact⟨x,by simp,(h.eq (hl x (by simp)).1 (h.dvd_pow h1)).symm⟩
  ·obtain⟨y,h2,h3⟩:=sF.in_prod h (fun y hy=>hl y (hK _ hy)) h1;exact⟨y,hK _ h2,h3⟩
end Go.Proofs.Yteaakcmkpacpaaa.Gen
namespace Go.Proofs.Yteaakcmkpacpaaa.Jac
def sm (f:Nat→Nat):Nat→Nat
 |0=>0
 |n+1=>sm f n+f (n+1)
theorem vH {f g:Nat→Nat}:∀n,(∀k,1≤k→k≤n→f k=g k)→sm f n=sm g n
 |0,_=>rfl
 |n+1,h=>by simp only[sm];rw[vH n (fun k h1 h2=>h k h1 (by omega)),h (n+1) (by omega) (hM _)]
theorem dN (f g:Nat→Nat):∀n,sm (fun k=>f k+g k) n=sm f n+sm g n
 |0=>rfl
 |n+1=>by simp only[sm];rw[dN f g n];omega
theorem wh (c:Nat)(f:Nat→Nat):∀n,sm (fun k=>c*f k) n=c*sm f n
 |0=>by simp[sm]
 |n+1=>by simp only[sm];rw[wh c f n,q7]
theorem ji {f g:Nat→Nat}:∀n,(∀k,1≤k→k≤n→f k%2=g k%2)→sm f n%2=sm g n%2
 |0,_=>rfl
 |n+1,h=>by simp only[sm];have h1:=ji n (fun k h1 h2=>h k h1 (by omega));have h2:=h (n+1) (by omega) (hM _);omega
theorem zI (c:Nat):∀n,sm (fun _=>c) n=c*n
 |0=>rfl
 |n+1=>by simp only[sm];rw[zI c n,Nat.mul_succ]
theorem me (f:Nat→Nat→Nat)(m:Nat):∀n,sm (fun k=>sm (fun j=>f k j) m) n=sm (fun j=>sm (fun k=>f k j) n) m
 |0=>by
  have:∀m,sm (fun _=>0) m=0:=fun m=>by rw[zI];simp
  simp only[sm];rw[this]
 |n+1=>by simp only[sm];rw[me f m n,←dN]
theorem o8 (f:Nat→Nat):∀n,sm f n=((List.range' 1 n).map f).sum
 |0=>rfl
 |n+1=>by rw[n4,k7,List.sum_append];simp only[sm,r8,c7,List.sum_cons,List.sum_nil];rw[o8 f n,Nat.add_comm 1 n];simp
theorem uo:∀(l m:List Nat),l.Nodup→(∀x∈l,x∈m)→l.length≤m.length
 | [],m,_,_=>Nat.zero_le _
 |x::l,m,hn,hs=>by obtain⟨h1,h2⟩:=List.nodup_cons.mp hn;have hx:=hs x (by simp);have ih:=uo l (m.erase x) h2 (fun y hy=>(x5 (fun(e:y=x)=>h1 (by rw[←e];exact hy))).mpr (hs y (by simp[hy])));rw[y4 hx]at ih;have:=l5 hx;simp only[b7];omega
theorem o6 {l m:List Nat}(h1:l.Nodup)(h2:m.Nodup)(hs:∀x∈l,x∈m)(hl:m.length≤l.length):l.Perm m:=by
 rw[List.perm_iff_count];have back:∀y∈m,y∈l:=by intro y hy;apply Classical.byContradiction;intro hn;have:=uo l (m.erase y) h1 (fun x hx=>(x5 (fun(e:x=y)=>hn (by rw[←e];exact hx))).mpr (hs x hx));rw[y4 hy]at this;have:=l5 hy;omega
 intro a;by_cases ha:a∈l
 ·rw[List.Nodup.count h1,List.Nodup.count h2,if_pos ha,if_pos (hs a ha)]
 ·rw[List.count_eq_zero.mpr ha,List.count_eq_zero.mpr (fun h=>ha (back a h))]
theorem mc {r:Nat→Nat}(f:Nat→Nat)(n:Nat)(h1:∀k,1≤k→k≤n→1≤r k∧r k≤n)(h2:∀j k,1≤j→j≤n→1≤k→k≤n→r j=r k→j=k):sm (fun k=>f (r k)) n=sm f n:=by
 have hp:((List.range' 1 n).map r).Perm (List.range' 1 n):=by
  refine o6 ?_ yK (fun x hx=>?_) (by simp)
  ·rw[List.Nodup,h5];refine List.Pairwise.imp_of_mem ?_ (yK (s:=1) (n:=n));intro a b ha hb hne e;rw[hE]at ha hb;exact hne (h2 a b (by omega) (by omega) (by omega) (by omega) e)
  ·obtain⟨k,hk,rfl⟩:=p3.mp hx;rw[hE]at hk⊢;have:=h1 k (by omega) (by omega);omega
 rw[o8,o8];have:=(hp.map f).sum_nat;rw[List.map_map]at this;exact this
def neg (n x:Nat):Nat:=if n<2*(x%n)then 1 else 0
def ro (n x:Nat):Nat:=if n<2*(x%n)then n-x%n else x%n
def mu (a n:Nat):Nat:=sm (fun k=>neg n (a*k)) (n/2)
theorem ik {a n k:Nat}(hc:Nat.gcd a n=1)(h1:1≤k)(h2:k<n):(a*k)%n≠0:=by
 intro h;have hd:=aE h;have:=Nat.Coprime.dvd_of_dvd_mul_left (show Nat.Coprime n a by rw[Nat.Coprime,hQ];exact hc) hd;have:=p5 (by omega) this;omega
theorem cQ {a n k:Nat}(hn:n%2=1)(hc:Nat.gcd a n=1)(h1:1≤k)(h2:k≤n/2):1≤ro n (a*k)∧ro n (a*k)≤n/2:=by
 have h3:=ik hc h1 (show k<n by omega);have h4:=xK (a*k) (show 0<n by omega);unfold ro;split<;>omega
theorem ix {a n j k:Nat}(hn:n%2=1)(hc:Nat.gcd a n=1)(j1:1≤j)(j2:j≤n/2)(k1:1≤k)(k2:k≤n/2)(e:ro n (a*j)=ro n (a*k)):j=k:=by
 have hcop:Nat.Coprime n a:=by rw[Nat.Coprime,hQ];exact hc
 have m1:=xK (a*j) (show 0<n by omega);have m2:=xK (a*k) (show 0<n by omega);have sumc:(a*j)%n+(a*k)%n≠n:=by
  intro h;have:(a*(j+k))%n=0:=by rw[q7,b6,h,Nat.mod_self]
  exact ik hc (show 1≤j+k by omega) (by omega) this
 have same:(a*j)%n=(a*k)%n→j=k:=by
  intro h;rcases Nat.lt_trichotomy j k with q|q|q
  ·exfalso;have:(a*(k-j))%n=0:=by
    rw[w7];exact hS h.symm
   exact ik hc (show 1≤k-j by omega) (by omega) this
  ·exact q
  ·exfalso;have:(a*(j-k))%n=0:=by
    rw[w7];exact hS h
   exact ik hc (show 1≤j-k by omega) (by omega) this
 unfold ro at e;split at e<;>split at e
 ·exact same (by omega)
 ·exfalso;exact sumc (by omega)
 ·exfalso;exact sumc (by omega)
 ·exact same e
theorem uV {a n:Nat}(hn:n%2=1)(hc:Nat.gcd a n=1):(mu a n+sm (fun k=>a*k/n) (n/2)+(a+1)*sm (fun k=>k) (n/2))%2=0:=by
 have key:sm (fun k=>a*k+(a*k/n+(neg n (a*k)+ro n (a*k)))) (n/2)%2=sm (fun _=>0) (n/2)%2:=by
  apply ji;intro k h1 h2;have hm:=Nat.div_add_mod (a*k) n;have hlt:=xK (a*k) (show 0<n by omega);have hr:(neg n (a*k)+ro n (a*k))%2=((a*k)%n)%2:=by unfold neg ro;split<;>omega
  generalize hq:a*k/n=q at*;generalize hr2:(a*k)%n=r at*;generalize neg n (a*k)+ro n (a*k)=v at*;have e:(n*q)%2=q%2:=by rw[hI,hn];simp
  omega
 rw[dN,dN,dN,zI]at key;have e1:sm (fun k=>a*k) (n/2)=a*sm (fun k=>k) (n/2):=wh a (fun k=>k) _;have e2:sm (fun k=>ro n (a*k)) (n/2)=sm (fun k=>k) (n/2):=mc (r:=fun k=>ro n (a*k)) (fun k=>k) (n/2) (fun k h1 h2=>cQ hn hc h1 h2) (fun j k j1 j2 k1 k2 e=>ix hn hc j1 j2 k1 k2 e);rw[e1,e2]at key;unfold mu;rw[Nat.add_mul,hV];omega
theorem yh {n a x:Nat}(hn:n%2=1)(hx:(a*ro n x)%n≠0):neg n (a*x)%2=(neg n x+neg n (a*ro n x))%2:=by
 have hp:0<n:=by omega
 have hx2:=xK x hp;have e0:(a*x)%n=(a*(x%n))%n:=by rw[hI,hI a (x%n),aa]
 by_cases h:n<2*(x%n)
 ·have hr:ro n x=n-x%n:=by unfold ro;rw[if_pos h]
  have h1:neg n x=1:=by unfold neg;rw[if_pos h]
  rw[hr]at hx⊢;have hs:((a*(x%n))%n+(a*(n-x%n))%n)%n=0:=by rw[←b6,←q7,show x%n+(n-x%n)=n by omega,Nat.mul_mod_left]
  have l1:=xK (a*(x%n)) hp;have l2:=xK (a*(n-x%n)) hp;have hsum:(a*(x%n))%n+(a*(n-x%n))%n=n:=by
   rcases hW ((a*(x%n))%n+(a*(n-x%n))%n) n with q|q
   ·rw[hB q]at hs;omega
   ·rw[Nat.mod_eq_sub_mod q,hB (by omega)]at hs;omega
  rw[h1];unfold neg;rw[e0];split<;>split<;>omega
 ·have hr:ro n x=x%n:=by unfold ro;rw[if_neg h]
  have h1:neg n x=0:=by unfold neg;rw[if_neg h]
  rw[hr,h1,h9];unfold neg;rw[e0]
theorem mL {a b n:Nat}(hn:n%2=1)(ha:Nat.gcd a n=1)(hb:Nat.gcd b n=1):mu (a*b) n%2=(mu a n+mu b n)%2:=by
 have h1:mu (a*b) n%2=sm (fun k=>neg n (b*k)+neg n (a*ro n (b*k))) (n/2)%2:=by unfold mu;apply ji;intro k k1 k2;rw[hG];apply yh hn;have:=cQ hn hb k1 k2;exact ik ha this.1 (by omega)
 rw[h1,dN];have h2:sm (fun k=>neg n (a*ro n (b*k))) (n/2)=sm (fun k=>neg n (a*k)) (n/2):=mc (r:=fun k=>ro n (b*k)) (fun x=>neg n (a*x)) (n/2) (fun k h1 h2=>cQ hn hb h1 h2) (fun j k j1 j2 k1 k2 e=>ix hn hb j1 j2 k1 k2 e);rw[h2];unfold mu;omega
theorem jR (a n:Nat):mu (a%n) n=mu a n:=by
 unfold mu;apply vH;intro k _ _;unfold neg;rw[hI,aa,←hI]
theorem Am:∀n,2*sm (fun k=>k) n=n*(n+1)
 |0=>rfl
 |n+1=>by simp only[sm];rw[q7,Am n,←Nat.add_mul,hD]
theorem jL {n:Nat}(hn:n%2=1):Nat.gcd 2 n=1:=by rw[x9,hn];rfl
theorem B7 {n:Nat}(hn:n%2=1):mu 2 n%2=sm (fun k=>k) (n/2)%2:=by
 have h:=uV (a:=2) hn (jL hn);have e:sm (fun k=>2*k/n) (n/2)=sm (fun _=>0) (n/2):=vH _ (fun k h1 h2=>Nat.div_eq_of_lt (by omega));rw[e,zI]at h;omega
theorem j6 {n:Nat}(hn:n%2=1):mu 2 n%2=if n%8=1∨n%8=7 then 0 else 1:=by
 rw[B7 hn];have h:=Am (n/2);generalize sm (fun k=>k) (n/2)=t at h;obtain⟨q,r,hq,hr⟩:∃q r,n=8*q+r∧r<8:=⟨n/8,n%8,by omega,by omega⟩
 have hodd:r%2=1:=by omega
 have hn2:n/2=4*q+r/2:=by omega
 rw[hn2]at h;have e8:n%8=r:=by omega
 rw[e8];have e:(4*q+r/2)*(4*q+r/2+1)=4*(4*(q*q)+2*(q*(r/2))+q)+(r/2)*(r/2+1):=by grind
 rw[e]at h;rcases(show r=1∨r=3∨r=5∨r=7 by omega)with k|k|k|k<;>subst k<;>simp at h⊢ <;>omega
theorem Ar {n x:Nat}(hn:0<n)(hx:x%n≠0):∀g,sm (fun j=>if n*j<x then 1 else 0) g=min g (x/n)
 |0=>by simp[sm]
 |g+1=>by
  simp only[sm];rw[Ar hn hx g];have hd:=Nat.div_add_mod x n;have hl:=xK x hn;by_cases h:n*(g+1)<x
  ·rw[if_pos h];have:g+1≤x/n:=(Nat.le_div_iff_mul_le hn).mpr (by rw[hD];omega);omega
  ·rw[if_neg h];have:x/n<g+1:=(c8 hn).mpr (by
    rw[hD];have hne:x≠n*(g+1):=fun e=>hx (by rw[e,o3]);omega)
   omega
theorem yc {m n:Nat}(hm:m%2=1)(hn:n%2=1)(hc:Nat.gcd m n=1):sm (fun k=>m*k/n) (n/2)+sm (fun j=>n*j/m) (m/2)=(m/2)*(n/2):=by
 have half:∀{a b:Nat},a%2=1→b%2=1→Nat.gcd a b=1→∀k,1≤k→k≤b/2→a*k/b=sm (fun j=>if b*j<a*k then 1 else 0) (a/2):=by
  intro a b ha hb hab k k1 k2;rw[Ar (by omega) (ik hab k1 (by omega))];have:a*k/b<a/2+1:=(c8 (by omega)).mpr (by
   have h1:a*k≤a*(b/2):=Nat.mul_le_mul_left _ k2;have h2:a*b=2*(a*(b/2))+a:=by
    have:b=2*(b/2)+1:=by omega
    generalize b/2=h at*;subst this;grind
   have h3:(a/2+1)*b*2=a*b+b:=by
    have:a=2*(a/2)+1:=by omega
    generalize a/2=g at*;subst this;grind
   omega)
  omega
 have e1:sm (fun k=>m*k/n) (n/2)=sm (fun k=>sm (fun j=>if n*j<m*k then 1 else 0) (m/2)) (n/2):=vH _ (fun k h1 h2=>half hm hn hc k h1 h2);have e2:sm (fun j=>n*j/m) (m/2)=sm (fun j=>sm (fun k=>if m*k<n*j then 1 else 0) (n/2)) (m/2):=vH _ (fun k h1 h2=>half hn hm (by rw[hQ];exact hc) k h1 h2);rw[e1,e2,me,←dN];have e3:sm (fun j=>sm (fun k=>if n*j<m*k then 1 else 0) (n/2)+sm (fun k=>if m*k<n*j then 1 else 0) (n/2)) (m/2)=sm (fun _=>n/2) (m/2):=by
  apply vH;intro j j1 j2;rw[←dN];have:sm (fun k=>(if n*j<m*k then 1 else 0)+(if m*k<n*j then 1 else 0)) (n/2)=sm (fun _=>1) (n/2):=by apply vH;intro k k1 k2;have hne:m*k≠n*j:=fun e=>ik hc k1 (show k<n by omega) (by rw[e,o3]);split<;>split<;>omega
  rw[this,zI,hV]
 rw[e3,zI,hD]
theorem ui {m n:Nat}(hm:m%2=1)(hn:n%2=1)(hc:Nat.gcd m n=1):(mu m n+mu n m)%2=((m/2)*(n/2))%2:=by
 have h1:=uV (a:=m) hn hc;have h2:=uV (a:=n) hm (by rw[hQ];exact hc);have h3:=yc hm hn hc;have e1:((m+1)*sm (fun k=>k) (n/2))%2=0:=by rw[hI,show(m+1)%2=0 by omega];simp
 have e2:((n+1)*sm (fun k=>k) (m/2))%2=0:=by rw[hI,show(n+1)%2=0 by omega];simp
 omega
theorem oz {m n:Nat}(hm:m%2=1)(hn:n%2=1)(hc:Nat.gcd m n=1):(mu m n+mu n m)%2=if m%4=3∧n%4=3 then 1 else 0:=by
 rw[ui hm hn hc,hI];rcases(show m%4=1∨m%4=3 by omega)with a|a<;>rcases(show n%4=1∨n%4=3 by omega)with b|b
 ·have:m/2%2=0:=by omega
  simp[a,b,this]
 ·have:m/2%2=0:=by omega
  simp[a,b,this]
 ·have:n/2%2=0:=by omega
  simp[a,b,this]
 ·have h1:m/2%2=1:=by omega
  have h2:n/2%2=1:=by omega
  simp[a,b,h1,h2]
theorem B6 {n:Nat}(hn:n%2=1):mu (n-1) n=n/2:=by
 unfold mu;have:sm (fun k=>neg n ((n-1)*k)) (n/2)=sm (fun _=>1) (n/2):=vH _ (fun k h1 h2=>by
  unfold neg;have e:(n-1)*k=n*(k-1)+(n-k):=by
   obtain⟨j,rfl⟩:∃j,k=j+1:=⟨k-1,by omega⟩
   obtain⟨i,rfl⟩:∃i,n=i+1:=⟨n-1,by omega⟩
   simp only[e6];have:i+1- (j+1)=i-j:=by omega
   rw[this];have hij:j≤i:=by omega
   obtain⟨d,rfl⟩:=Nat.le.dest hij;rw[Nat.add_sub_cancel_left];grind
  rw[e,l7,hB (by omega),if_pos (by omega)])
 rw[this,zI,hV]
def Pr (p:Nat):Prop:=2≤p∧∀d,d∣p→d=1∨d=p
theorem Pr.cop {p x:Nat}(hp:Pr p)(h:x%p≠0):Nat.gcd x p=1:=by
 rcases hp.2 _ (k5 x p)with e|e
 ·exact e
 ·exact absurd (k3 (by have:=q5 x p;rwa[e]at this)) h
theorem Pr.unit {p x:Nat}(hp:Pr p)(h1:1≤x)(h2:x<p):x%p≠0:=by rw[hB h2];omega
theorem Pr.mul {p x y:Nat}(hp:Pr p)(hx:x%p≠0)(hy:y%p≠0):(x*y)%p≠0:=by
 intro h;have hd:=aE h;have:=Nat.Coprime.dvd_of_dvd_mul_left (show Nat.Coprime p x by rw[Nat.Coprime,hQ];exact hp.cop hx) hd;exact hy (k3 this)
theorem Pr.cancel {p x y z:Nat}(hp:Pr p)(hx:x%p≠0)(h:(x*y)%p=(x*z)%p):y%p=z%p:=by
 have hcop:Nat.Coprime p x:=by rw[Nat.Coprime,hQ];exact hp.cop hx
 rcases Nat.le_total y z with q|q
 ·have:(x*(z-y))%p=0:=by rw[w7];exact hS h.symm
  have hd:=Nat.Coprime.dvd_of_dvd_mul_left hcop (aE this);obtain⟨k,hk⟩:=hd;have:z=y+p*k:=by omega
  rw[this,q6]
 ·have:(x*(y-z))%p=0:=by rw[w7];exact hS h
  have hd:=Nat.Coprime.dvd_of_dvd_mul_left hcop (aE this);obtain⟨k,hk⟩:=hd;have:y=z+p*k:=by omega
  rw[this,q6]
theorem Pr.div {p x c:Nat}(hp:Pr p)(hx:x%p≠0)(hc:c%p≠0):∃y,1≤y∧y<p∧(x*y)%p=c%p:=by
 have h2:=hp.1;have hperm:((List.range' 1 (p-1)).map fun y=>(x*y)%p).Perm (List.range' 1 (p-1)):=by
  refine o6 ?_ yK (fun z hz=>?_) (by simp)
  ·rw[List.Nodup,h5];refine List.Pairwise.imp_of_mem ?_ (yK (s:=1) (n:=p-1));intro a b ha hb hne e;rw[hE]at ha hb;have:=hp.cancel hx e;rw[hB (by omega),hB (by omega)]at this;exact hne this
  ·obtain⟨y,hy,rfl⟩:=p3.mp hz;rw[hE]at hy⊢;have h:=hp.mul hx (hp.unit (x:=y) (by omega) (by omega));have:=xK (x*y) (show 0<p by omega);omega
 have hm:c%p∈List.range' 1 (p-1):=by rw[hE];have:=xK c (show 0<p by omega);omega
 obtain⟨y,hy,e⟩:=p3.mp (hperm.mem_iff.mpr hm);rw[hE]at hy;exact⟨y,by omega,by omega,e⟩
theorem vp {p c:Nat}(σ:Nat→Nat):∀(m:Nat) (L:List Nat),L.length≤m→L.Nodup→(∀x∈L,σ x∈L∧σ x≠x∧σ (σ x)=x∧(x*σ x)%p=c%p)→L.length%2=0∧L.prod%p=c^(L.length/2)%p
 |_,[],_,_,_=>by simp
 |0,x::L,h,_,_=>by simp at h
 |m+1,x::T,hm,hn,hs=>by
  obtain⟨hx,hT⟩:=List.nodup_cons.mp hn;obtain⟨s1,s2,s3,s4⟩:=hs x (by simp);have hy:σ x∈T:=by
   rcases o2.mp s1 with h|h
   ·exact absurd h s2
   ·exact h
  have hle:(T.erase (σ x)).length=T.length-1:=y4 hy;have hpos:=l5 hy;have hnd:(T.erase (σ x)).Nodup:=hT.erase _;have hmem:∀z∈T.erase (σ x),z∈T∧z≠σ x:=fun z hz=>⟨List.mem_of_mem_erase hz,fun e=>by subst e;exact(List.Nodup.not_mem_erase hT) hz⟩
  obtain⟨i1,i2⟩:=vp (p:=p) (c:=c) σ m (T.erase (σ x)) (by simp at hm;omega) hnd (fun z hz=>by
   obtain⟨z1,z2⟩:=hmem z hz;obtain⟨t1,t2,t3,t4⟩:=hs z (by simp[z1]);refine⟨?_,t2,t3,t4⟩;have n1:σ z≠x:=fun e=>z2 (by rw[←e,t3]);have n2:σ z≠σ x:=fun e=>hx (by have:=congrArg σ e;rw[t3,s3]at this;rw[←this];exact z1);rcases o2.mp t1 with h|h
   ·exact absurd h n1
   ·exact(x5 n2).mpr h)
  have hprod:(x::T).prod=(x*σ x)*(T.erase (σ x)).prod:=by have:=(List.perm_cons_erase hy).prod_nat;rw[b8,this,b8,hG]
  have hl:(x::T).length=(T.erase (σ x)).length+2:=by simp;omega
  rw[hl,hprod];refine⟨by omega,?_⟩;rw[hI,s4,i2,←hI,show((T.erase (σ x)).length+2)/2=(T.erase (σ x)).length/2+1 by omega,hP,hD]
theorem aN (a b:List Nat):(a++b).prod=a.prod*b.prod:=by
 induction a with
 |nil=>simp
 |cons x a ih=>simp[ih,hG]
theorem Bt {p:Nat}(hp:Pr p)(h3:3≤p):(List.range' 1 (p-1)).prod%p=(p-1)%p:=by
 have inv:∀x,2≤x→x≤p-2→∃y,2≤y∧y≤p-2∧y≠x∧(x*y)%p=1%p:=by
  intro x h1 h2;obtain⟨y,y1,y2,y3⟩:=hp.div (hp.unit (x:=x) (by omega) (by omega)) (hp.unit (x:=1) (by omega) (by omega));have n1:y≠1:=by rintro rfl;rw[r7,hB (by omega),hB (by omega)]at y3;omega
  have n2:y≠p-1:=by
   rintro rfl;have e:x*(p-1)+x=x*p:=by
    obtain⟨q,rfl⟩:∃q,p=q+1:=⟨p-1,by omega⟩
    simp[Nat.mul_succ]
   have e2:(x*(p-1)+x)%p=0:=by rw[e,Nat.mul_mod_left]
   rw[b6,y3,hB (show 1<p by omega),hB (show x<p by omega),hB (by omega)]at e2;omega
  have n3:y≠x:=by
   rintro rfl;have e:(y-1)*(y+1)+1=y*y:=by
    obtain⟨q,rfl⟩:∃q,y=q+1:=⟨y-1,by omega⟩
    simp only[e6];grind
   have e2:((y-1)*(y+1))%p≠0:=hp.mul (hp.unit (by omega) (by omega)) (hp.unit (by omega) (by omega));rw[←e]at y3;have:=xK ((y-1)*(y+1)) (show 0<p by omega);rw[b6,hB (show 1<p by omega)]at y3;rcases hW ((y-1)*(y+1)%p+1) p with q|q
   ·rw[hB q]at y3;omega
   ·have:(y-1)*(y+1)%p+1=p:=by omega
    rw[this,Nat.mod_self]at y3;omega
  exact⟨y,by omega,by omega,n3,y3⟩
 have hu:∀x y z,2≤x→x≤p-2→2≤y→y≤p-2→2≤z→z≤p-2→(x*y)%p=1%p→(x*z)%p=1%p→y=z:=by intro x y z x1 x2 y1 y2 z1 z2 e1 e2;have:=hp.cancel (hp.unit (x:=x) (by omega) (by omega)) (e1.trans e2.symm);rwa[hB (by omega),hB (by omega)]at this
 let σ:Nat→Nat:=fun x=>if h:2≤x∧x≤p-2 then Classical.choose (inv x h.1 h.2)else 0
 have hσ:∀x,2≤x→x≤p-2→2≤σ x∧σ x≤p-2∧σ x≠x∧(x*σ x)%p=1%p:=by intro x h1 h2;have:=Classical.choose_spec (inv x h1 h2);simp only[σ,dif_pos (And.intro h1 h2)];exact this
 have hmid:=(vp (p:=p) (c:=1) σ _ (List.range' 2 (p-3)) (hM _) yK (fun x hx=>by rw[hE]at hx;obtain⟨a1,a2,a3,a4⟩:=hσ x (by omega) (by omega);obtain⟨b1,b2,b3,b4⟩:=hσ (σ x) a1 a2;refine⟨by rw[hE];omega,a3,?_,a4⟩;exact hu (σ x) _ _ a1 a2 b1 b2 (by omega) (by omega) b4 (by rw[hD];exact a4))).2;rw[Nat.one_pow]at hmid;have hsplit:List.range' 1 (p-1)=1::(List.range' 2 (p-3)++[p-1]):=by
  obtain⟨q,rfl⟩:∃q,p=q+3:=⟨p-3,by omega⟩
  have e1:q+3-1=(q+1)+1:=by omega
  rw[e1,List.range'_succ,n4];have e2:q+3-3=q:=by omega
  rw[e2];congr 2;congr 1;omega
 rw[hsplit,b8,aN,hV,hI,hmid];simp
theorem fW (f:Nat→Nat):∀n,((List.range' 1 (n+1)).map f).prod=((List.range' 1 n).map f).prod*f (n+1):=by
 intro n;rw[n4,k7,aN,Nat.add_comm 1 n];simp
theorem Ca {p n:Nat}(hp:Pr p)(h3:3≤p)(hodd:p%2=1)(hn:n%p≠0):n^(p/2)%p=(p-1)^mu n p%p:=by
 have hc:=hp.cop hn;have step:∀h,h≤p/2→(n^h*((List.range' 1 h).map fun k=>k).prod)%p=((p-1)^sm (fun k=>neg p (n*k)) h*((List.range' 1 h).map fun k=>ro p (n*k)).prod)%p:=by
  intro h;induction h with
  |zero=>intro _;rfl
  |succ h ih=>
   intro hh;have ih:=ih (by omega);rw[fW,fW];simp only[sm];have hlt:=xK (n*(h+1)) (show 0<p by omega);have e1:n^(h+1)*((List.map (fun k=>k) (List.range' 1 h)).prod*(h+1))=(n^h*(List.map (fun k=>k) (List.range' 1 h)).prod)*(n*(h+1)):=by rw[hP];grind
   have e2:(p-1)^(sm (fun k=>neg p (n*k)) h+neg p (n*(h+1)))*((List.map (fun k=>ro p (n*k)) (List.range' 1 h)).prod*ro p (n*(h+1)))=((p-1)^sm (fun k=>neg p (n*k)) h*(List.map (fun k=>ro p (n*k)) (List.range' 1 h)).prod)*((p-1)^neg p (n*(h+1))*ro p (n*(h+1))):=by rw[Nat.pow_add];grind
   rw[e1,e2,hI,ih];have e3:(n*(h+1))%p=((p-1)^neg p (n*(h+1))*ro p (n*(h+1)))%p:=by
    unfold neg ro;split
    ·rw[ae];generalize(n*(h+1))%p=r at*;have e4:(p-1)*(p-r)=p*(p-r-1)+r:=by
      obtain⟨q,rfl⟩:∃q,p=q+r+1:=⟨p-r-1,by omega⟩
      have a1:q+r+1-r=q+1:=by omega
      rw[a1];simp only[e6];grind
     rw[e4,l7,hB hlt]
    ·rw[a6,hV,aa]
   rw[e3,←hI]
 have h:=step (p/2) (hM _);have hperm:((List.range' 1 (p/2)).map fun k=>ro p (n*k)).Perm (List.range' 1 (p/2)):=by
  refine o6 ?_ yK (fun x hx=>?_) (by simp)
  ·rw[List.Nodup,h5];refine List.Pairwise.imp_of_mem ?_ (yK (s:=1) (n:=p/2));intro a b ha hb hne e;rw[hE]at ha hb;exact hne (ix hodd hc (by omega) (by omega) (by omega) (by omega) e)
  ·obtain⟨k,hk,rfl⟩:=p3.mp hx;rw[hE]at hk⊢;have:=cQ hodd hc (show 1≤k by omega) (by omega);omega
 rw[hperm.prod_nat,List.map_id']at h;have hu:∀h,h<p→((List.range' 1 h).prod)%p≠0:=by
  intro h;induction h with
  |zero=>intro _;simp;omega
  |succ h ih=>intro hh;rw[n4,aN];exact hp.mul (ih (by omega)) (by simpa using hp.unit (x:=1+h) (by omega) (by omega))
 exact hp.cancel (hu (p/2) (by omega)) (by rw[hD,h,hD];rfl)
theorem jj {p n:Nat}(hp:Pr p)(h3:3≤p)(hodd:p%2=1)(hn:n%p≠0):(∃x,1≤x∧x<p∧(x*x)%p=n%p)↔mu n p%2=0:=by
 constructor
 ·rintro⟨x,x1,x2,x3⟩;have hx:=hp.cop (hp.unit x1 x2);have:=mL hodd hx hx;rw[←jR,x3,jR]at this;omega
 ·intro hm;apply Classical.byContradiction;intro hno;have inv:∀x,1≤x→x<p→∃y,1≤y∧y<p∧(x*y)%p=n%p:=fun x h1 h2=>hp.div (hp.unit h1 h2) hn
  let σ:Nat→Nat:=fun x=>if h:1≤x∧x<p then Classical.choose (inv x h.1 h.2)else 0
  have hσ:∀x,1≤x→x<p→1≤σ x∧σ x<p∧(x*σ x)%p=n%p:=by intro x h1 h2;have:=Classical.choose_spec (inv x h1 h2);simp only[σ,dif_pos (And.intro h1 h2)];exact this
  have hprod:=(vp (p:=p) (c:=n) σ _ (List.range' 1 (p-1)) (hM _) yK (fun x hx=>by rw[hE]at hx;obtain⟨a1,a2,a3⟩:=hσ x (by omega) (by omega);obtain⟨b1,b2,b3⟩:=hσ (σ x) a1 a2;refine⟨by rw[hE];omega,fun e=>hno ⟨x,by omega,by omega,by rw[e]at a3;exact a3⟩,?_,a3⟩;have:=hp.cancel (hp.unit a1 a2) (b3.trans (by rw[hD];exact a3.symm));rwa[hB b2,hB (by omega)]at this)).2;rw[Bt hp h3,List.length_range',show(p-1)/2=p/2 by omega,Ca hp h3 hodd hn]at hprod;obtain⟨k,hk⟩:∃k,mu n p=2*k:=⟨mu n p/2,by omega⟩
  have hsq:(p-1)*(p-1)=p*(p-2)+1:=by
   obtain⟨q,rfl⟩:∃q,p=q+2:=⟨p-2,by omega⟩
   have a1:q+2-1=q+1:=by omega
   have a2:q+2-2=q:=by omega
   rw[a1,a2];grind
  have hone:∀k,(p-1)^(2*k)%p=1%p:=by
   intro k;induction k with
   |zero=>rfl
   |succ k ih=>rw[show 2*(k+1)=2*k+1+1 by omega,hP,hP,hG,hI,ih,hsq,l7,←hI]
  rw[hk,hone,hB (show p-1<p by omega),hB (show 1<p by omega)]at hprod;omega
open Go Go.Proofs.Yteaakcmkpacpaaa.Ev
theorem kA {n:Int}(h1: -9223372036854775808≤n)(h2:n<9223372036854775808):aA n=n:=by
 simp only[aA,IntKind.wrap];simp[IntKind.bits,IntKind.signed];omega
theorem sA {n:Int}(h1:0≤n)(h2:n<18446744073709551616):pA n=n:=by
 simp only[pA,IntKind.wrap];simp[IntKind.bits,IntKind.signed];omega
theorem rb {x:Nat}(h:x<18446744073709551616)(k:Nat)(hk:k≤32):nD .u64 (x:Int) ((2^k-1:Nat):Int)=((x%2^k:Nat):Int):=by
 have hp:(2:Nat)^k≤2^32:=Nat.pow_le_pow_right (by decide) hk;have hp0:0<(2:Nat)^k:=u4 (by decide);have t1:(BitVec.ofInt 64 (x:Int)).toNat=x:=by simp[BitVec.toNat_ofInt];omega
 have t2:(BitVec.ofInt 64 ((2^k-1:Nat):Int)).toNat=2^k-1:=by rw[BitVec.toNat_ofInt];omega
 have e:(BitVec.ofInt 64 (x:Int)&&& BitVec.ofInt 64 ((2^k-1:Nat):Int)).toNat=x%2^k:=by rw[BitVec.toNat_and,t1,t2,Nat.and_two_pow_sub_one_eq_mod]
 have hlt:x%2^k<2^k:=xK _ hp0;show IntKind.wrap .u64 ((BitVec.ofInt 64 (x:Int)&&& BitVec.ofInt 64 ((2^k-1:Nat):Int)).toNat:Int)=_;rw[e];have w:IntKind.wrap .u64 ((x%2^k:Nat):Int)=pA ((x%2^k:Nat):Int):=rfl;rw[w,sA (by omega) (by omega)]
theorem Ay {x:Nat}(h:x<18446744073709551616):nD .u64 (x:Int) 1=((x%2:Nat):Int):=rb h 1 (by decide)
theorem C8 {x:Nat}(h:x<18446744073709551616):nD .u64 (x:Int) 3=((x%4:Nat):Int):=rb h 2 (by decide)
theorem Cy {x:Nat}(h:x<18446744073709551616):nD .u64 (x:Int) 7=((x%8:Nat):Int):=rb h 3 (by decide)
def bM (m:Nat):Int:=if m%2=0 then 1 else-1
theorem yz (a b:Nat):bM (a+b)=bM a*bM b:=by
 unfold bM;rw[b6];rcases(show a%2=0∨a%2=1 by omega)with h|h<;>rcases(show b%2=0∨b%2=1 by omega)with k|k<;>rw[h,k]<;>decide
theorem sY {a b:Nat}(h:a%2=b%2):bM a=bM b:=by unfold bM;rw[h]
theorem zf (m:Nat):bM m=1∨bM m= -1:=by unfold bM;split<;>simp
theorem qc (N:Nat){k:Nat}(h:k<18446744073709551616)(hk:k%2=1):Q78.f N (k:Int)=some (bM (mu 2 k)):=by
 unfold Q78.f;rw[Cy h];have hm:=j6 hk;unfold bM;rw[hm];rcases(show k%8=1∨k%8=3∨k%8=5∨k%8=7 by omega)with e|e|e|e<;>rw[e]<;>rfl
theorem zk (N:Nat){k:Nat}(hk:k%2=1)(hk2:k<18446744073709551616):∀(n b:Nat) (s:Int),1≤b→b<n→b<18446744073709551616→Nat.gcd b k=1→(s=1∨s= -1)→
  ∃(s':Int) (b':Nat),(s'=1∨s'= -1)∧b'%2=1∧b'≤b∧Nat.gcd b' k=1∧s'*bM (mu b' k)=s*bM (mu b k)∧∀{R:Type} (K:Int→Int→Int→Option R),Q79.l19 N n s (k:Int) (b:Int) K=K s' (k:Int) (b':Int):=by
 intro n;induction n with
 |zero=>intro b s h1 h2;omega
 |succ n ih=>
  intro b s h1 h2 h3 hc hs;rcases(show b%2=1∨b%2=0 by omega)with e|e
  ·refine⟨s,b,hs,e,hM _,hc,rfl,fun K=>?_⟩;rw[Q79.l19,Ay h3,e];rfl
  ·obtain⟨c,rfl⟩:∃c,b=2*c:=⟨b/2,by omega⟩
   have hcc:Nat.gcd c k=1:=Nat.Coprime.coprime_mul_left hc;have h2k:=jL hk;have hst:s*bM (mu 2 k)=1∨s*bM (mu 2 k)= -1:=by rcases hs with q|q<;>rcases zf (mu 2 k)with w|w<;>rw[q,w]<;>simp
   obtain⟨s',b',r1,r2,r3,r4,r5,r6⟩:=ih c (s*bM (mu 2 k)) (by omega) (by omega) (by omega) hcc hst;refine⟨s',b',r1,r2,by omega,r4,?_,fun K=>?_⟩
   ·rw[r5,sY (mL hk h2k hcc),yz];grind
   ·rw[Q79.l19,Ay h3,e];have w:aA (s*bM (mu 2 k))=s*bM (mu 2 k):=kA (by omega) (by omega);have e1:Int.fdiv ((2*c:Nat):Int) (2^1)=(c:Int):=by
     rw[Int.fdiv_eq_ediv_of_nonneg _ (by decide)];omega
    have e2:(((0:Nat):Int)==0)=true:=rfl;rw[e2,cond_true,qc N hk2 hk,hC,w,e1];exact r6 K
theorem ya (N:Nat)(hN:8589934600<N):∀(n b k:Nat) (s:Int),b<n→b<k→k%2=1→k<4294967296→Nat.gcd b k=1→(s=1∨s= -1)→∀{R:Type} (K:Int→Int→Option R),Q79.l18 N n s (k:Int) (b:Int) K=K (s*bM (mu b k)) 1:=by
 intro n;induction n with
 |zero=>intro b k s h1;omega
 |succ n ih=>
  intro b k s h1 h2 h3 h4 hc hs R K;by_cases hb:b=0
  ·subst hb;rw[Nat.gcd_zero_left]at hc;subst hc;have:mu 0 1=0:=rfl;rw[Q79.l18,this];have e:bM 0=1:=rfl;rw[e,Int.mul_one];rfl
  ·obtain⟨s',b',r1,r2,r3,r4,r5,r6⟩:=zk N h3 (by omega) N b s (by omega) (by omega) (by omega) hc hs;have c1:((b:Int) != 0)=true:=by simp;omega
   have c2:((b':Int)==0)=false:=by simp;omega
   have hcb:Nat.gcd k b'=1:=by rw[hQ];exact r4
   have hmod:Nat.gcd (k%b') b'=1:=by rw[←x9,hQ];exact hcb
   have hlt:=xK k (show 0<b' by omega);have et:Int.tmod (k:Int) (b':Int)=((k%b':Nat):Int):=by rw[pC (by omega)];rfl
   have hrec:=oz r2 h3 r4;have hmm:=jR k b';rw[Q79.l18,c1,cond_true,r6];rw[C8 (show b'<18446744073709551616 by omega),C8 (show k<18446744073709551616 by omega)];by_cases hq:b'%4=3∧k%4=3
   ·rw[if_pos hq]at hrec;have hw:aA (0-s')= -s':=by rw[kA (by omega) (by omega)];omega
    have f1:(((b'%4:Nat):Int)==3)=true:=by rw[hq.1];rfl
    have f2:(((k%4:Nat):Int)==3)=true:=by rw[hq.2];rfl
    rw[f1,cond_true,f2,cond_true,c2,y0,cond_true,hw,et];rw[ih (k%b') b' (-s') (by omega) (by omega) r2 (by omega) hmod (by omega),hmm,←r5];congr 1;have:bM (mu b' k)= -bM (mu k b'):=by unfold bM;split<;>split<;>omega
    rw[this];grind
   ·rw[if_neg hq]at hrec;have hsame:bM (mu b' k)=bM (mu k b'):=sY (by omega);have eL:Q79.l18 N n s' (b':Int) ((k%b':Nat):Int) K=K (s*bM (mu b k)) 1:=by
     rw[ih (k%b') b' s' (by omega) (by omega) r2 (by omega) hmod r1,hmm,←r5,hsame]
    by_cases f1:b'%4=3
    ·have f2:¬k%4=3:=fun e=>hq ⟨f1,e⟩;have g1:(((b'%4:Nat):Int)==3)=true:=by rw[f1];rfl
     have g2:(((k%4:Nat):Int)==3)=false:=by simp;omega
     rw[g1,cond_true,g2,cond_false,c2,y0,cond_true,et];exact eL
    ·have g1:(((b'%4:Nat):Int)==3)=false:=by simp;omega
     rw[g1,cond_false,c2,y0,cond_true,et];exact eL
def rs (a:Int)(n:Nat):Nat:=(a%(n:Int)).toNat
theorem eQ (a:Int){n:Nat}(hn:0<n):((rs a n:Nat):Int)=a%(n:Int):=by
 have:=Int.emod_nonneg a (show(n:Int)≠0 by omega);unfold rs;omega
theorem vz (a:Int){n:Nat}(hn:0<n):rs a n<n:=by
 have h1:=eQ a hn;have h2:=Int.emod_lt_of_pos a (show 0<(n:Int) by omega);omega
theorem mP {N:Nat}(hN:8589934600<N){a:Int}{n:Nat}(a0: -4611686018427387904≤a)(a1:a≤4611686018427387904)(hn:n%2=1)(hn2:n<4294967296)(hc:Nat.gcd (rs a n) n=1):Q79.f N a (n:Int)=some (bM (mu (rs a n) n)):=by
 have hp:0<n:=by omega
 have hr:=eQ a hp;have hlt:=vz a hp;obtain⟨m,rfl⟩:∃m,N=m+1:=⟨N-1,by omega⟩
 unfold Q79.f;have c1:((n:Int)==0)=false:=by simp;omega
 have c2:decide ((n:Int)<0)=false:=decide_eq_false (by omega);have w:pA (n:Int)=(n:Int):=sA (by omega) (by omega);have c3:(((n%2:Nat):Int)==0)=false:=by rw[hn];rfl
 have c4:((1:Int)==0)=false:=rfl;have c5:((1:Int) != 1)=false:=rfl;rw[c1,cond_false,c2,cond_false,w,Q79.l10,Ay (show n<18446744073709551616 by omega),c3,cond_false,c4,cond_false,c1,y0,cond_true];have key:∀r:Int,r=((rs a n:Nat):Int)→(Q79.l18 (m+1) (m+1) 1 (n:Int) r (fun y44 y45=>bif y45 != 1 then some 0 else some y44))=some (bM (mu (rs a n) n)):=by intro r e;subst e;rw[ya (m+1) hN (m+1) (rs a n) n 1 (by omega) hlt hn hn2 hc (.inl rfl),c5,cond_false,Int.one_mul]
 by_cases ha:a<0
 ·have wa:pA a=a+18446744073709551616:=by
   simp only[pA,IntKind.wrap];simp[IntKind.bits,IntKind.signed];omega
  have wn:pA (0- (a+18446744073709551616))= -a:=by simp only[pA,IntKind.wrap];simp[IntKind.bits,IntKind.signed];omega
  have t1:Int.tmod (-a) (n:Int)=(-a)%(n:Int):=pC (by omega);have p0:=Int.emod_nonneg (-a) (show(n:Int)≠0 by omega);have p1:=Int.emod_lt_of_pos (-a) (show 0<(n:Int) by omega);have w2:pA ((n:Int)- (-a)%(n:Int))=(n:Int)- (-a)%(n:Int):=sA (by omega) (by omega);have t2:Int.tmod ((n:Int)- (-a)%(n:Int)) (n:Int)=a%(n:Int):=by
   rw[pC (by omega)];have e:(n:Int)- (-a)%(n:Int)=a+(n:Int)*((-a)/(n:Int)+1):=by
    have:=Int.mul_ediv_add_emod (-a) (n:Int);have e2:(n:Int)*((-a)/(n:Int)+1)=(n:Int)*((-a)/(n:Int))+n:=by grind
    omega
   rw[e,p4]
  rw[decide_eq_true ha,cond_true,wa,wn,t1,w2,t2];exact key _ hr.symm
 ·have wa:pA a=a:=sA (by omega) (by omega);have t1:Int.tmod a (n:Int)=a%(n:Int):=pC (by omega);rw[decide_eq_false ha,cond_false,wa,t1];exact key _ hr.symm
theorem jg {N:Nat}(hN:8589934600<N){a:Int}{p:Nat}(a0:0<a)(a1:a≤4611686018427387904)(hp:Pr p)(h3:3≤p)(hodd:p%2=1)(hp2:p≤65536)(h8:p≠8)(hc:rs a p≠0):Q89.f N a (p:Int)=some (bM (mu (rs a p) p)):=by
 have hpp:0<p:=by omega
 have hr:=eQ a hpp;have hlt:=vz a hpp;have hu:rs a p%p≠0:=by rw[hB hlt];exact hc
 have hsq:=jj hp h3 hodd hu;unfold Q89.f;have c1:((p:Int)== -4)=false:=by simp<;>omega
 have c2:((p:Int)==8)=false:=by simp<;>omega
 have c3:((p:Int)== -8)=false:=by simp<;>omega
 rw[c1,cond_false,c2,cond_false,c3,cond_false];have test:∀x:Nat,x<p→((Int.tmod (aA (aA ((x:Int)*(x:Int))-a)) (p:Int)==0)=true↔(x*x)%p=rs a p%p):=by
  intro x hx;have hxx:(x:Int)*(x:Int)≤65536*65536:=Int.mul_le_mul (by omega) (by omega) (by omega) (by omega);have hx0:0≤(x:Int)*(x:Int):=o1 (by omega) (by omega);have w1:aA ((x:Int)*(x:Int))=(x:Int)*(x:Int):=kA (by omega) (by omega);have w2:aA ((x:Int)*(x:Int)-a)=(x:Int)*(x:Int)-a:=kA (by omega) (by omega);rw[w1,w2,beq_iff_eq,←Int.dvd_iff_tmod_eq_zero];have e1:((x*x:Nat):Int)=(x:Int)*(x:Int):=by simp
  rw[←e1];constructor
  ·intro h;have:=w4.mpr (Int.emod_eq_zero_of_dvd h);rw[←hr]at this;have e2:((rs a p:Nat):Int)=((rs a p%p:Nat):Int):=by rw[hB hlt]
   rw[e2]at this;exact Int.ofNat_inj.mp (by rw[w6];exact this)
  ·intro h;have h2:((x*x%p:Nat):Int)=((rs a p%p:Nat):Int):=by rw[h]
   rw[hB hlt,hr,w6]at h2;exact b5 (w4.mp h2)
 have loop:∀(n k:Nat),k≤p→p-k<n→1≤k→(∀x,1≤x→x<k→(x*x)%p≠rs a p%p)→Q89.l15 (R:=Int) N n a (p:Int) (k:Int) (fun(_:Unit)=>some (-1)) (fun y7=>some y7)=some (bM (mu (rs a p) p)):=by
  intro n;induction n with
  |zero=>intro k _ h;omega
  |succ n ih=>
   intro k h1 h2 h3' h4;have c4:((p:Int)==0)=false:=by simp;omega
   by_cases hk:k<p
   ·have w:aA ((k:Int)+1)=((k+1:Nat):Int):=by rw[kA (by omega) (by omega)];simp
    rw[Q89.l15,decide_eq_true (show(k:Int)<(p:Int) by omega),cond_true,c4,y0,cond_true];by_cases hq:(k*k)%p=rs a p%p
    ·rw[(test k hk).mpr hq,cond_true];have:mu (rs a p) p%2=0:=hsq.mp ⟨k,h3',hk,hq⟩;unfold bM;rw[if_pos this]
    ·have hf:(Int.tmod (aA (aA ((k:Int)*(k:Int))-a)) (p:Int)==0)=false:=by
      cases hb:(Int.tmod (aA (aA ((k:Int)*(k:Int))-a)) (p:Int)==0)
      ·rfl
      ·exact absurd ((test k hk).mp hb) hq
     rw[hf,cond_false,w];exact ih (k+1) (by omega) (by omega) (by omega) (fun x x1 x2=>by
      by_cases e:x=k
      ·subst e;exact hq
      ·exact h4 x x1 (by omega))
   ·rw[Q89.l15,decide_eq_false (show ¬(k:Int)<(p:Int) by omega),cond_false];have:¬mu (rs a p) p%2=0:=fun h=>by
     obtain⟨x,x1,x2,x3⟩:=hsq.mpr h;exact h4 x x1 (by omega) x3
    unfold bM;rw[if_neg this]
 exact loop N 1 (by omega) (by omega) (hM _) (fun x x1 x2=>by omega)
theorem jb {N:Nat}(hN:8589934600<N){a:Int}{p:Nat}(a0:0<a)(a1:a≤4611686018427387904)(hp:Pr p)(h3:3≤p)(hodd:p%2=1)(hp2:p≤65536)(hc:rs a p≠0):Q79.f N a (p:Int)=Q89.f N a (p:Int):=by
 have hlt:=vz a (show 0<p by omega);rw[jg hN a0 a1 hp h3 hodd hp2 (by omega) hc,mP hN (by omega) a1 hodd (by omega) (hp.cop (by rw[hB hlt];exact hc))]
theorem lg {n:Nat}(hn:n%2=1):mu (n-1) n%2=if n%4=1 then 0 else 1:=by
 rw[B6 hn];rcases(show n%4=1∨n%4=3 by omega)with e|e
 ·rw[if_pos e];omega
 ·rw[if_neg (by omega)];omega
theorem iP {n:Nat}(hn:1≤n):Nat.gcd (n-1) n=1:=by
 obtain⟨m,rfl⟩:∃m,n=m+1:=⟨n-1,by omega⟩
 simp
theorem gh {x n:Nat}{a:Int}(hn:0<n)(hc:Nat.gcd x n=1)(h:(x:Int)%(n:Int)=a%(n:Int)):rs a n=x%n∧Nat.gcd (rs a n) n=1:=by
 have hr:=eQ a hn;have e:rs a n=x%n:=by
  have:((rs a n:Nat):Int)=((x%n:Nat):Int):=by rw[hr,←h,w6]
  exact Int.ofNat_inj.mp this
 refine⟨e,?_⟩;rw[e,←x9,hQ];exact hc
theorem yx {N:Nat}(hN:8589934600<N){n:Nat}(hn:n%2=1)(hn2:n<4294967296):Q79.f N (-4) (n:Int)=Q89.f N (n:Int) (-4):=by
 have h1:1≤n:=by omega
 have h2:=jL hn;have h22:Nat.gcd (2*2) n=1:=Nat.Coprime.mul_left h2 h2;have hc:Nat.gcd ((2*2)*(n-1)) n=1:=Nat.Coprime.mul_left h22 (iP h1);obtain⟨e1,e2⟩:=gh (a:= -4) (show 0<n by omega) hc (by
  have e:(((2*2)*(n-1):Nat):Int)= -4+(n:Int)*4:=by
   obtain⟨m,rfl⟩:∃m,n=m+1:=⟨n-1,by omega⟩
   simp;omega
  rw[e,p4])
 rw[mP hN (by omega) (by omega) hn hn2 e2,e1,jR];have m1:=mL hn h22 (iP h1);have m2:=mL hn h2 h2;have m3:=lg hn;unfold Q89.f bM;have t:Int.tmod (n:Int) 4=((n%4:Nat):Int):=by rw[pC (by omega)];rfl
 have c:((-4:Int)== -4)=true:=rfl;rw[c,cond_true,t];rcases(show n%4=1∨n%4=3 by omega)with e|e
 ·rw[if_pos e]at m3;rw[e,if_pos (by omega)];rfl
 ·rw[if_neg (by omega)]at m3;rw[e,if_neg (by omega)];rfl
theorem Bc {N:Nat}(hN:8589934600<N){n:Nat}(hn:n%2=1)(hn2:n<4294967296):Q79.f N 8 (n:Int)=Q89.f N (n:Int) 8:=by
 have h2:=jL hn;have h22:Nat.gcd (2*2) n=1:=Nat.Coprime.mul_left h2 h2;have hc:Nat.gcd ((2*2)*2) n=1:=Nat.Coprime.mul_left h22 h2;obtain⟨e1,e2⟩:=gh (a:=8) (show 0<n by omega) hc rfl;rw[mP hN (by omega) (by omega) hn hn2 e2,e1,jR];have m1:=mL hn h22 h2;have m2:=mL hn h2 h2;have m3:=j6 hn;unfold Q89.f bM;have t:Int.tmod (n:Int) 8=((n%8:Nat):Int):=by rw[pC (by omega)];rfl
 have c:((8:Int)== -4)=false:=rfl;have c':((8:Int)==8)=true:=rfl;rw[c,cond_false,c',cond_true,t];rcases(show n%8=1∨n%8=3∨n%8=5∨n%8=7 by omega)with e|e|e|e
 ·rw[if_pos (by omega)]at m3;rw[e,if_pos (by omega)];rfl
 ·rw[if_neg (by omega)]at m3;rw[e,if_neg (by omega)];rfl
 ·rw[if_neg (by omega)]at m3;rw[e,if_neg (by omega)];rfl
 ·rw[if_pos (by omega)]at m3;rw[e,if_pos (by omega)];rfl
theorem yy {N:Nat}(hN:8589934600<N){n:Nat}(hn:n%2=1)(hn2:n<4294967296):Q79.f N (-8) (n:Int)=Q89.f N (n:Int) (-8):=by
 have h1:1≤n:=by omega
 have h2:=jL hn;have h22:Nat.gcd (2*2) n=1:=Nat.Coprime.mul_left h2 h2;have h222:Nat.gcd ((2*2)*2) n=1:=Nat.Coprime.mul_left h22 h2;have hc:Nat.gcd ((2*2)*2*(n-1)) n=1:=Nat.Coprime.mul_left h222 (iP h1);obtain⟨e1,e2⟩:=gh (a:= -8) (show 0<n by omega) hc (by
  have e:(((2*2)*2*(n-1):Nat):Int)= -8+(n:Int)*8:=by
   obtain⟨m,rfl⟩:∃m,n=m+1:=⟨n-1,by omega⟩
   simp;omega
  rw[e,p4])
 rw[mP hN (by omega) (by omega) hn hn2 e2,e1,jR];have m0:=mL hn h222 (iP h1);have m1:=mL hn h22 h2;have m2:=mL hn h2 h2;have m3:=j6 hn;have m4:=lg hn;unfold Q89.f bM;have t:Int.tmod (n:Int) 8=((n%8:Nat):Int):=by rw[pC (by omega)];rfl
 have c:((-8:Int)== -4)=false:=rfl;have c':((-8:Int)==8)=false:=rfl;have c'':((-8:Int)== -8)=true:=rfl;rw[c,cond_false,c',cond_false,c'',cond_true,t];rcases(show n%8=1∨n%8=3∨n%8=5∨n%8=7 by omega)with e|e|e|e
 ·rw[if_pos (by omega)]at m3 m4;rw[e,if_pos (by omega)];rfl
 ·rw[if_neg (by omega)]at m3 m4;rw[e,if_pos (by omega)];rfl
 ·rw[if_neg (by omega)]at m3;rw[if_pos (by omega)]at m4;rw[e,if_neg (by omega)];rfl
 ·rw[if_pos (by omega)]at m3;rw[if_neg (by omega)]at m4;rw[e,if_neg (by omega)];rfl
inductive Sy:Int→Prop
 |m4:Sy (-4)
 |p8:Sy 8
 |m8:Sy (-8)
 |pr (p:Nat) (hp:Pr p) (h3:3≤p) (ho:p%2=1) (hb:p≤65536):Sy (p:Int)
noncomputable def Cr (N:Nat)(n q:Int):Option Int:=if q= -4∨q=8∨q= -8 then Q79.f N q n else Q79.f N n q
theorem vM {n q:Int}(n0:0<n)(hq:q= -4∨q=8∨q= -8)(hc:Int.gcd n q=1):n.toNat%2=1:=by
 rcases(show n%2=0∨n%2=1 by omega)with e|e
 ·exfalso;have h1:(2:Int)∣n:=b5 e;have h2:(2:Int)∣q:=by rcases hq with h|h|h<;>subst h<;>decide
  have h3:(2:Int)∣((Int.gcd n q:Nat):Int):=Int.dvd_coe_gcd h1 h2;rw[hc]at h3;exact absurd h3 (by decide)
 ·omega
theorem jU {N:Nat}(hN:8589934600<N){n q:Int}(hq:Sy q)(n0:0<n)(n1:n<4294967296)(hc:Int.gcd n q=1):Cr N n q=Q89.f N n q:=by
 have en:((n.toNat:Nat):Int)=n:=by omega
 unfold Cr;cases hq with
 |m4=>have ho:=vM n0 (.inl rfl) hc;rw[if_pos (.inl rfl)];have:=yx hN ho (show n.toNat<4294967296 by omega);rwa[en]at this
 |p8=>have ho:=vM n0 (.inr (.inl rfl)) hc;rw[if_pos (.inr (.inl rfl))];have:=Bc hN ho (show n.toNat<4294967296 by omega);rwa[en]at this
 |m8=>have ho:=vM n0 (.inr (.inr rfl)) hc;rw[if_pos (.inr (.inr rfl))];have:=yy hN ho (show n.toNat<4294967296 by omega);rwa[en]at this
 |pr p hp h3 ho hb=>
  have hne:¬((p:Int)= -4∨(p:Int)=8∨(p:Int)= -8):=by omega
  rw[if_neg hne];refine jb hN n0 (by omega) hp h3 ho hb (fun h=>?_);have hr:=eQ n (show 0<p by omega);rw[h]at hr;have hd:(p:Int)∣n:=b5 hr.symm;have h4:(p:Int)∣((Int.gcd n (p:Int):Nat):Int):=Int.dvd_coe_gcd hd (Int.dvd_refl _);rw[hc]at h4;have:=Int.le_of_dvd (by decide) h4;omega
noncomputable def qS (a c s q:Int):Int:=if Int.gcd a q=1 then a else if Int.gcd c q=1 then c else s
theorem tR (N:Nat){R:Type}{n:Nat}{q a c s:Int}(hq:Sy q){i:Nat}(hi:i<3){v:Int}(hv:[a,c,s].getD i 0=v){u w:Int}(hg:Q35.f N v q=some (((Int.gcd v q:Nat):Int),u,w))(k0:Unit→Option R)(kr:Int→Option R):
  Q84.l2 N (n+1) q a c s (i:Int) k0 kr=if Int.gcd v q=1 then(Cr N v q).bind kr else Q84.l2 N n q a c s ((i+1:Nat):Int) k0 kr:=by
 have c1:decide ((i:Int)<3)=true:=decide_eq_true (by omega);have c2:decide (0≤(i:Int))=true:=decide_eq_true (by omega);have w1:aA ((i:Int)+1)=((i+1:Nat):Int):=by rw[kA (by omega) (by omega)];simp
 rw[Q84.l2];simp only[c1,c2,cond_true,o4,x0,hv,hg,hC,w1];by_cases h:Int.gcd v q=1
 ·have h1:(((Int.gcd v q:Nat):Int) != 1)=false:=by rw[h];rfl
  rw[h1,cond_false,if_pos h];unfold Cr;by_cases e1:q= -4
  ·have f1:(q== -4)=true:=by simpa using e1
   rw[f1,cond_true,cond_true,if_pos (.inl e1)]
  ·have f1:(q== -4)=false:=by simpa using e1
   by_cases e2:q=8
   ·have f2:(q==8)=true:=by simpa using e2
    rw[f1,cond_false,f2,cond_true,cond_true,if_pos (.inr (.inl e2))]
   ·have f2:(q==8)=false:=by simpa using e2
    by_cases e3:q= -8
    ·have f3:(q== -8)=true:=by simpa using e3
     rw[f1,cond_false,f2,cond_false,f3,cond_true,if_pos (.inr (.inr e3))]
    ·have f3:(q== -8)=false:=by simpa using e3
     rw[f1,cond_false,f2,cond_false,f3,cond_false,if_neg (by omega)]
 ·have h1:(((Int.gcd v q:Nat):Int) != 1)=true:=by simp;omega
  rw[h1,cond_true,if_neg h]
theorem uR {N:Nat}(hN:8589934600<N){q a b c:Int}(hq:Sy q)(ha:0<a)(hc:0<c)(hs:0<a+b+c)(a1:a<4294967296)(c1:c<4294967296)(b0: -4294967296≤b)(b1:b≤4294967296)(s1:a+b+c<4294967296)
  (hg:∀v,v=a∨v=c∨v=a+b+c→∃u w,Q35.f N v q=some (((Int.gcd v q:Nat):Int),u,w))(hone:Int.gcd a q=1∨Int.gcd c q=1∨Int.gcd (a+b+c) q=1):
  Q84.f N a b c q=Q89.f N (qS a c (a+b+c) q) q:=by
 obtain⟨m,rfl⟩:∃m,N=m+4:=⟨N-4,by omega⟩
 obtain⟨u1,v1,g1⟩:=hg a (.inl rfl);obtain⟨u2,v2,g2⟩:=hg c (.inr (.inl rfl));obtain⟨u3,v3,g3⟩:=hg (a+b+c) (.inr (.inr rfl));have w:aA (aA (a+b)+c)=a+b+c:=by rw[kA (n:=a+b) (by omega) (by omega),kA (by omega) (by omega)]
 have eL:∀o:Option Int,o.bind (fun y18=>some y18)=o:=fun o=>by cases o<;>rfl
 unfold Q84.f qS;rw[w];have z:(0:Int)=((0:Nat):Int):=rfl;rw[show Q84.l2 (R:=Int) (m+4) (m+4) q a c (a+b+c) 0=Q84.l2 (m+4) (m+3+1) q a c (a+b+c) ((0:Nat):Int)from rfl];rw[tR (m+4) hq (show 0<3 by omega) (v:=a) rfl g1];by_cases h1:Int.gcd a q=1
 ·rw[if_pos h1,if_pos h1,eL,jU hN hq ha a1 h1]
 ·rw[if_neg h1,if_neg h1];rw[show Q84.l2 (R:=Int) (m+4) (m+3)=Q84.l2 (m+4) (m+2+1)from rfl,tR (m+4) hq (show 1<3 by omega) (v:=c) rfl g2];by_cases h2:Int.gcd c q=1
  ·rw[if_pos h2,if_pos h2,eL,jU hN hq hc c1 h2]
  ·rw[if_neg h2,if_neg h2];have h3:Int.gcd (a+b+c) q=1:=by rcases hone with h|h|h<;>first|exact absurd h h1|exact absurd h h2|exact h
   rw[show Q84.l2 (R:=Int) (m+4) (m+2)=Q84.l2 (m+4) (m+1+1)from rfl,tR (m+4) hq (show 2<3 by omega) (v:=a+b+c) rfl g3,if_pos h3,eL,jU hN hq hs s1 h3]
end Go.Proofs.Yteaakcmkpacpaaa.Jac
namespace Go.Proofs.Yteaakcmkpacpaaa.Gen
open Go Go.Proofs.Yteaakcmkpacpaaa.Ev
open Go.Proofs.Yteaakcmkpacpaaa.Cls (ju o9)
abbrev N0:Nat:=8589934700
theorem Ax {d:Int}{l:List Int}(hd:ju d)(h:Q72.f N0 d=some l):Q75.f N0 d=some (l,0):=by
 obtain⟨R,r1,r2,r3,r4,r5⟩:=o9 (N:=N0) (by decide) hd;rw[r4]at h;obtain rfl:=Option.some.inj h;exact r3
theorem C7:Q75.f N0 (-20)=some ([1,0,5,2,2,3],0):=Ax (d:= -20) (l:=[1,0,5,2,2,3]) ⟨by decide,by decide,by decide⟩ (by kernel_rfl)
theorem Cb:Q93.f N0 (-20)=some ([[1,0,5],[2,2,3]],0):=by
 unfold Q93.f;rw[C7]
 kernel_rfl
theorem sL:Q100.f N0=some true:=by
 unfold Q100.f;rw[Cb]
 kernel_rfl
open Go.Proofs.Yteaakcmkpacpaaa.Pure (kA yO)
open Go.Proofs.Yteaakcmkpacpaaa.Cls (ju)
open Go.Proofs.Yteaakcmkpacpaaa.Jac (Sy)
theorem ly:∀{a b:List Nat},a.Pairwise (· < ·)→b.Pairwise (· < ·)→(∀x,x∈a↔x∈b)→a=b
 | [],[],_,_,_=>rfl
 | [],y::b,_,_,h=>by have:=(h y).mpr (by simp);simp at this
 |x::a,[],_,_,h=>by have:=(h x).mp (by simp);simp at this
 |x::a,y::b,ha,hb,h=>by
  have a1:=c6.mp ha;have b1:=c6.mp hb;have e:x=y:=by
   have h1:=(h x).mp (by simp);have h2:=(h y).mpr (by simp);simp only[o2]at h1 h2;rcases h1 with h1|h1
   ·exact h1
   ·rcases h2 with h2|h2
    ·exact h2.symm
    ·have:=a1.1 y h2;have:=b1.1 x h1;omega
  subst e;rw[ly a1.2 b1.2 fun z=>?_];constructor
  ·intro hz;have:=a1.1 z hz;have h1:=(h z).mp (hK _ hz);simp only[o2]at h1;rcases h1 with h1|h1
   ·omega
   ·exact h1
  ·intro hz;have:=b1.1 z hz;have h1:=(h z).mpr (hK _ hz);simp only[o2]at h1;rcases h1 with h1|h1
   ·omega
   ·exact h1
theorem kx:∀{l:PL} {x:Nat×Nat},x∈l→0<x.2→x.1∣lE l
 |y::l,x,h,h0=>by
  simp only[lE];rcases o2.mp h with rfl|h
  ·obtain⟨k,hk⟩:∃k,x.2=k+1:=⟨x.2-1,by omega⟩
   rw[hk,hP,hG];exact u0 ⟨lE l,rfl⟩ ⟨_,hD _ _⟩
  ·exact u0 (kx h h0) ⟨_,hD _ _⟩
theorem Fz.mem {n:Nat}{l:PL}(h:Fz n l)(p:Nat):p∈l.map (·.1)↔sF p∧p∣n:=by
 rw[p3];constructor
 ·rintro⟨x,hx,rfl⟩;exact⟨(h.pr x hx).1,h.prod▸kx hx (h.pr x hx).2⟩
 ·rintro⟨hp,hd⟩;rw[←h.prod]at hd;obtain⟨x,h1,h2⟩:=hp.in_prod h.pr hd;exact⟨x,h1,h2⟩
def yH (l:PL):List Nat:=(l.map (·.1)).filter (2< ·)
def ints (l:List Nat):List Int:=l.map fun(x:Nat)=>(x:Int)
theorem tt (a b:List Nat):ints (a++b)=ints a++ints b:=by simp[ints]
theorem qM (a:List Nat):(ints a).length=a.length:=by simp[ints]
theorem nR (N:Nat){d:Int}{l:PL}(hl:l.length<100000){R:Type}(K:Int→List Int→Option R):∀(n i:Nat) (X:List Nat),i≤l.length→l.length-i<n→X.length≤i→
  Q83.l4 N n d (cX l) (l.length:Int) (i:Int) (ints X) K=K d (ints (X++yH (l.drop i)))
 |0,i,X,_,h,_=>by omega
 |n+1,i,X,hi,hn,hX=>by
  rw[Q83.l4,bh];by_cases h:i<l.length
  ·have c1:decide ((i:Int)<(l.length:Int))=true:=decide_eq_true (by omega);have c2:decide (0≤(i:Int))=true:=decide_eq_true (by omega);have e:=(th h).1;have w:aA ((i:Int)+1)=((i+1:Nat):Int):=wW (by omega);have hr:dB ((ints X).length+1) 8=true:=by rw[qM];simp only[dB,decide_eq_true_eq];omega
   have hd:l.drop i=l[i]::l.drop (i+1):=p6 h;simp only[c1,c2,cond_true,o4,x0,e,w,hr];by_cases hp:2<l[i].1
   ·rw[decide_eq_true (show(l[i].1:Int)>2 by omega),cond_true];have ea:ints X++[(l[i].1:Int)]=ints (X++[l[i].1]):=by rw[tt];rfl
    rw[ea,nR N hl K n (i+1) (X++[l[i].1]) (by omega) (by omega) (by simp;omega),hd];have:yH (l[i]::l.drop (i+1))=l[i].1::yH (l.drop (i+1)):=by unfold yH;rw[r8,x6,if_pos (by simpa using hp)]
    rw[this,l6];rfl
   ·rw[decide_eq_false (show ¬(l[i].1:Int)>2 by omega),cond_false,nR N hl K n (i+1) X (by omega) (by omega) (by omega),hd];have:yH (l[i]::l.drop (i+1))=yH (l.drop (i+1)):=by unfold yH;rw[r8,x6,if_neg (by simpa using hp)]
    rw[this]
  ·have c1:decide ((i:Int)<(l.length:Int))=false:=decide_eq_false (by omega);rw[c1,cond_false];have:l.drop i=[]:=p7 (by omega);rw[this];simp[yH]
theorem sq (N:Nat){R:Type}{p:Nat}(hp:1<p)(d:Int)(X:List Int)(K:Int→Int→Int→List Int→Option R):∀(f j m:Nat),¬p∣m→0<m→j<f→p^j*m<1000000→
  Q88.l8 N f d ((p^j*m:Nat):Int) (p:Int) X K=K d (m:Int) (p:Int) X
 |0,j,m,_,_,h,_=>by omega
 |f+1,j,m,hd,hm,h,hb=>by
  rw[Q88.l8];simp only[xp (show 0<p by omega),cond_true];rw[xa,A8];cases j with
  |zero=>rw[a6,hV,decide_eq_false (fun e=>hd (aE e)),cond_false]
  |succ j=>
   have e:p^(j+1)*m=p*(p^j*m):=by rw[hP,hD (p^j) p,hG]
   have hlt:p^j*m≤p^(j+1)*m:=by rw[e];exact zE _ (by omega)
   rw[decide_eq_true (by rw[e];exact o3 _ _),cond_true,Aq,e,e7 _ (by omega),Bu (by omega)];exact sq N hp d X K f j m hd hm (by omega) (by omega)
def dT (l:PL):List Nat:=l.map (·.1)
theorem so {N:Nat}(hN:1000000<N){n0 m0 e:Nat}(hn:n0≤65536)(he:n0=2^e*m0){R:Type}(d:Int)(K:Int→List Int→Option R):∀(f p m:Nat) (l:PL),St m0 p m l→3≤p→p%2=1→(∀x∈l,2<x.1)→p≤n0+4→n0+5-p<f→
  ∃l',Fz m0 l'∧(∀x∈l',2<x.1)∧Q88.l4 N f d ((2^e*m:Nat):Int) (p:Int) (ints (dT l)) K=K d (ints (dT l'))
 |0,p,m,l,_,_,_,_,_,h=>by omega
 |f+1,p,m,l,h,hp,hodd,h2,hpn,hf=>by
  obtain⟨hl1,hl2⟩:=h.len;have hm0:m0≤n0:=by rw[he];exact zE _ (u4 (by decide))
  have hmb:2^e*m≤n0:=by rw[he];exact hU (hM _) hl2
  rw[Q88.l4];by_cases hs:p≤2^e*m
  ·rw[decide_eq_true (show(p:Int)≤((2^e*m:Nat):Int) by omega),cond_true,xp (show 0<p by omega),cond_true,xa];have hcop:Nat.Coprime p (2^e):=Nat.Coprime.pow_right e (by
    unfold Nat.Coprime;rcases p5 (by decide) (k5 p 2)|>fun h=>(show Nat.gcd p 2=0∨Nat.gcd p 2=1∨Nat.gcd p 2=2 by omega)with g|g|g
    ·have:=Nat.gcd_pos_of_pos_right p (show 0<2 by decide);omega
    ·exact g
    ·have h3:=q5 p 2;rw[g]at h3;have:=k3 h3;omega)
   obtain⟨j,m',rfl,hd⟩:=iQ (show 1<p by omega) (m+1) m h.pos (by omega);have hm':0<m':=l0 fun e=>by subst e;exact hd (x8 _)
   have hst:=h.step (by omega) hd;have hst2:=hst.skip (by omega) (by omega);have w:aA ((p:Int)+2)=((p+2:Nat):Int):=by rw[kA (by omega) (by omega)];omega
   have hd2:¬p∣2^e*m':=fun q=>hd (hcop.dvd_of_dvd_mul_left q);have em:2^e*(p^j*m')=p^j*(2^e*m'):=by rw[←hG,←hG,hD (2^e)]
   rw[em];by_cases h0:0<j
   ·rw[if_pos h0]at hst2;have c:((((p^j*(2^e*m'))%p:Nat):Int) != 0)=false:=by
     rw[bne_eq_false_iff_eq];have:(p^j*(2^e*m'))%p=0:=by
      obtain⟨k,rfl⟩:∃k,j=k+1:=⟨j-1,by omega⟩
      rw[hP,hD (p^k) p,hG];exact o3 _ _
     rw[this];rfl
    have hr:dB ((ints (dT l)).length+1) 8=true:=by rw[qM];simp only[dT,o0,dB,decide_eq_true_eq];omega
    have hj:j<1000000:=by have:=lr (j:=j) (show 1<p by omega);have:=e5 (p^j) hm';omega
    rw[c,cond_false,hr,cond_true,sq N (by omega) d _ _ N j (2^e*m') hd2 (Nat.mul_pos (u4 (by decide)) hm') (by omega) (by rw[←em];omega),w];have ea:ints (dT l)++[(p:Int)]=ints (dT (l++[(p,j)])):=by simp[ints,dT]
    rw[ea];refine so hN hn he d K f (p+2) m' _ hst2 (by omega) (by omega) (fun x hx=>?_) (by omega) (by omega);simp only[w5,j3]at hx;rcases hx with hx|rfl
    ·exact h2 x hx
    ·simp only;omega
   ·rw[if_neg h0]at hst2;have j0:j=0:=by omega
    subst j0;rw[a6,hV];have c:((((2^e*m')%p:Nat):Int) != 0)=true:=by rw[bne_iff_ne];intro q;exact hd2 (aE (by omega))
    rw[c,cond_true,w];exact so hN hn he d K f (p+2) m' _ hst2 (by omega) (by omega) h2 (by omega) (by omega)
  ·rw[decide_eq_false (show ¬(p:Int)≤((2^e*m:Nat):Int) by omega),cond_false];have hm1:m≤2^e*m:=zE _ (u4 (by decide));have hone:¬1<m:=fun q=>by have:=h.fr m q (Nat.dvd_refl _);omega
   have hpp:p≤p*p:=zE _ (by omega);have:=h.end (by omega);rw[if_neg hone]at this;exact⟨l,this,h2,rfl⟩
def yR (d:Int):List Int:=
 if d%2≠0 then []else if(-d/4)%4=3 then []else if(-d/4)%4=1∨(-d/4)%8=4 then [-4]else if(-d/4)%8=2 then [-8]else if(-d/4)%8=6 then [8]else [-4,8]
theorem yV {n:Nat}{l:PL}(h:Fz n l)(p:Nat):p∈yH l↔sF p∧p∣n∧2<p:=by
 unfold yH;rw[List.mem_filter,h.mem];simp[and_assoc]
theorem om {l:PL}(h:∀x∈l,2<x.1):dT l=yH l:=by
 unfold dT yH;rw[List.filter_eq_self.mpr];intro p hp;obtain⟨x,hx,rfl⟩:=p3.mp hp;simpa using h x hx
theorem ll {n:Nat}{l:PL}(h:Fz n l):(yH l).Pairwise (· < ·):=(h5.mpr h.up).filter _
def rf:Nat→Nat→Nat
 |_,0=>1
 |k,n+1=>k*rf (k+1) n
theorem Ak:∀(n k:Nat) (l:PL),l.Pairwise (fun a b=>a.1<b.1)→(∀x∈l,k≤x.1∧0<x.2)→n≤((l.map (·.1)).length)→0<k→rf k n≤lE l
 |0,k,l,_,h,_,hk=>by
  simp only[rf];have:∀l:PL,(∀x∈l,k≤x.1∧0<x.2)→1≤lE l:=by
   intro l;induction l with
   |nil=>intro _;simp[lE]
   |cons x l ih=>intro h;have h1:=(h x (by simp)).1;have:=ih fun y hy=>h y (hK _ hy);exact Nat.mul_pos (u4 (by omega)) this
  exact this l h
 |n+1,k,[],_,_,h,_=>by simp at h
 |n+1,k,x::l,hu,h,hn,hk=>by
  simp only[rf,lE];have h1:=h x (by simp);have hu2:=c6.mp hu;have ih:=Ak n (k+1) l hu2.2 (fun y hy=>⟨by have:=hu2.1 y hy;omega,(h y (hK _ hy)).2⟩) (by simp at hn⊢;omega) (by omega);refine hU ?_ ih;obtain⟨j,hj⟩:∃j,x.2=j+1:=⟨x.2-1,by omega⟩
  rw[hj,hP];have:0<x.1^j:=u4 (by omega);exact Nat.le_trans h1.1 (zE _ this)
theorem yw (N:Nat)(hN:10<N):Q82.f N=some ([3],4,[1,5,4],8,[-4],[2],8,[-8],[6],8,[8],[0],8,[-4,8]):=rfl
theorem jW {N:Nat}(hN:10<N)(m c:Int)(hc:0<c):∀X∈[[3],[1,5,4],[2],[6],[0]],Q81.f N m X c=some (X.any (fun x=>Int.tmod m c==x),X,c):=by
 obtain⟨k,rfl⟩:∃k,N=k+6:=⟨N-6,by omega⟩
 have hc0:(c==0)=false:=beq_eq_false_iff_ne.mpr (by omega);have w1:aA 1=1:=by decide
 have w2:aA 2=2:=by decide
 have w3:aA 3=3:=by decide
 intro X hX;simp only[o2,List.not_mem_nil,or_false]at hX;unfold Q81.f;rcases hX with rfl|rfl|rfl|rfl|rfl
 ·rcases q:Int.tmod m c==3<;>simp[Q81.l2,hc0,w1,q]
 ·rcases q:Int.tmod m c==1<;>rcases q2:Int.tmod m c==5<;>rcases q3:Int.tmod m c==4<;>simp[Q81.l2,hc0,w1,w2,w3,q,q2,q3]
 ·rcases q:Int.tmod m c==2<;>simp[Q81.l2,hc0,w1,q]
 ·rcases q:Int.tmod m c==6<;>simp[Q81.l2,hc0,w1,q]
 ·rcases q:Int.tmod m c==0<;>simp[Q81.l2,hc0,w1,q]
open Go.Proofs.Yteaakcmkpacpaaa.Pure (kA yO sK bm)
open Go.Proofs.Yteaakcmkpacpaaa.Cls (ju bI dw)
open Go.Proofs.Yteaakcmkpacpaaa.Jac (Sy Pr qS uR)
theorem di {n:Nat}{l:PL}(h:Fz n l)(hn:n≤65536):(yH l).length≤6:=by
 rcases hW 6 (yH l).length with q|q
 ·exfalso;have e:yH l=(l.filter (fun x=>decide (2<x.1))).map (·.1):=by
   unfold yH;rw[List.filter_map];rfl
  have h1:=Ak 7 3 (l.filter (fun x=>decide (2<x.1))) (h.up.filter _) (fun x hx=>by
   have h1:=List.mem_filter.mp hx;have h2:2<x.1:=by simpa using h1.2
   exact⟨by omega,(h.pr x h1.1).2⟩) (by rw[←e];omega) (by decide)
  have h2:∀l:PL,(∀x∈l,0<x.1)→lE (l.filter (fun x=>decide (2<x.1)))≤lE l:=by
   intro l;induction l with
   |nil=>intro _;simp[lE]
   |cons x l ih=>
    intro h;have i:=ih fun y hy=>h y (hK _ hy);rw[x6];split
    ·exact hU (hM _) i
    ·exact Nat.le_trans i (zE _ (u4 (h x (by simp))))
  have h3:=h2 l fun x hx=>by have:=(h.pr x hx).1.1;omega
  rw[h.prod]at h3;have h4:rf 3 7=181440:=by decide
  omega
 ·exact q
theorem qd:∀(f n:Nat),0<n→n<f→∃e m,n=2^e*m∧m%2=1:=fun f n h hf=>by
 obtain⟨j,m,e,hd⟩:=iQ (p:=2) (by decide) f n h hf;exact⟨j,m,e,by
  rcases q4 m with q|q
  ·exact absurd (aE q) hd
  ·exact q⟩
theorem jk (d:Int):yR d=[]∨yR d=[-4]∨yR d=[-8]∨yR d=[8]∨yR d=[-4,8]:=by
 unfold yR;(repeat' split)<;>simp
theorem wx (d:Int):(yR d).length≤2:=by
 rcases jk d with h|h|h|h|h<;>rw[h]<;>decide
theorem Ct (n:Nat):Int.tmod (-(n:Int)) 2= -((n%2:Nat):Int):=by
 rw[Int.neg_tmod];rfl
theorem zi {d q:Int}(h:q∈yR d):Sy q:=by
 unfold yR at h
 repeat' split at h
 all_goals simp at h
 all_goals first|(subst h;constructor)|(rcases h with rfl|rfl<;>constructor)
theorem wG {l:List Int}(h:l.length≤100){k:Nat}(hk:k≤10):dB (l.length+k) 8=true:=by
 simp only[dB,decide_eq_true_eq];omega
structure C4 (d:Int)(X:List Int):Prop where
 ex:∃l,Fz (-d).toNat l∧X=ints (yH l)++yR d
theorem w8 {N:Nat}(hN:8589934600<N){d:Int}(hd:ju d):∃X,C4 d X∧Q83.f N d=some X∧Q88.f N d=some X:=by
 obtain⟨d0,d1,d4⟩:=hd;obtain⟨n,rfl⟩:∃n:Nat,d= -(n:Int):=⟨(-d).toNat,by omega⟩
 have w0:aA (0- -(n:Int))=(n:Int):=by rw[kA (by omega) (by omega)];omega
 obtain⟨l,hl,ef⟩:=bg (N:=N) (by omega) (n:=n) (by omega) (by omega);have hll:l.length<n+1:=by have:=eW (l:=l) (fun x hx=>⟨(hl.pr x hx).1,(hl.pr x hx).2⟩);rw[hl.prod]at this;omega
 obtain⟨e,m,en,hm⟩:=qd (n+1) n (by omega) (by omega);have hm0:0<m:=by omega
 have hst:St m 3 m []:=⟨.nil,fun x hx=>(by cases hx),by simp[lE],fun k h1 h2=>by
  rcases hW 2 k with q|q
  ·omega
  ·have:k=2:=by omega
   subst this;have:=k3 h2;omega,hm0⟩
 have ho6:=di hl (by omega);have hodd:∀l',Fz m l'→(∀x∈l',2<x.1)→ints (dT l')=ints (yH l):=fun l' h1 h2=>by
  rw[om h2];congr 1;refine ly (ll h1) (ll hl) fun p=>?_;rw[yV h1,yV hl];constructor
  ·rintro⟨a,b,c⟩;exact⟨a,en▸u0 b ⟨_,hD _ _⟩,c⟩
  ·rintro⟨a,b,c⟩;refine⟨a,?_,c⟩;rw[en]at b;rcases a.dvd_mul b with h|h
   ·have:=p5 (by decide) (a.dvd_pow h);omega
   ·exact h
 refine⟨ints (yH l)++yR (-(n:Int)),⟨l,by rw[show(-(-(n:Int))).toNat=n by omega];exact hl,rfl⟩,?_,?_⟩
 ·unfold Q83.f;rw[w0,ef];simp only[hC];rw[bh];have h1:=fun K=>nR N (d:= -(n:Int)) (l:=l) (by omega) (R:=List Int) K N 0 [] (by omega) (by omega) (by simp);simp only[k4,x7,List.nil_append]at h1;rw[show ints []=[]from rfl]at h1;rw[h1];have ho:(ints (yH l)).length≤100:=by rw[qM];omega
  have hr0:dB (ints (yH l)).length 8=true:=wG ho (Nat.zero_le 10);generalize ints (yH l)=X at*;unfold yR;by_cases h2: -(n:Int)%2≠0
  ·rw[if_pos h2];have:(Int.tmod (-(n:Int)) 2 != 0)=true:=by rw[bne_iff_ne,Ct];omega
   rw[this,cond_true,h7]
  ·rw[if_neg h2];have:(Int.tmod (-(n:Int)) 2 != 0)=false:=by rw[bne_eq_false_iff_eq,Ct];omega
   rw[this,cond_false,w0,yw N (by omega)];simp only[hC];have wd:aA (Int.tdiv (n:Int) 4)= -(-(n:Int))/4:=by rw[k6 (by omega),kA (by omega) (by omega)];omega
   rw[wd];generalize hk: -(-(n:Int))/4=k;have k0:0≤k:=by omega
   rw[jW (by omega) k 4 (by decide) [3] (by simp),jW (by omega) k 8 (by decide) [1,5,4] (by simp),jW (by omega) k 8 (by decide) [2] (by simp),jW (by omega) k 8 (by decide) [6] (by simp),jW (by omega) k 8 (by decide) [0] (by simp)];have t4:Int.tmod k 4=k%4:=pC k0;have t8:Int.tmod k 8=k%8:=pC k0;simp only[t4,t8,hC];have hh:k%8=0∨k%8=1∨k%8=2∨k%8=3∨k%8=4∨k%8=5∨k%8=6∨k%8=7:=by omega
   rcases hh with h|h|h|h|h|h|h|h
   ·rw[h,show k%4=0 by omega];simp[wG ho]
   ·rw[h,show k%4=1 by omega];simp[wG ho]
   ·rw[h,show k%4=2 by omega];simp[wG ho]
   ·rw[h,show k%4=3 by omega];simp[hr0]
   ·rw[h,show k%4=0 by omega];simp[wG ho]
   ·rw[h,show k%4=1 by omega];simp[wG ho]
   ·rw[h,show k%4=2 by omega];simp[wG ho]
   ·rw[h,show k%4=3 by omega];simp[hr0]
 ·unfold Q88.f;rw[w0];have h1:=fun K=>so (N:=N) (n0:=n) (m0:=m) (e:=e) (by omega) (by omega) en (R:=List Int) (-(n:Int)) K N 3 m [] hst (by omega) (by omega) (by simp) (by omega) (by omega);simp only[dT,c7,ints]at h1;obtain⟨l',g1,g2,g3⟩:=h1 (fun y20 y21=>
   bif (Int.tmod y20 2) != 0 then
    some y21
   else
   bif (Int.tmod (aA (Int.tdiv (aA (0-y20)) 4)) 4)==3 then
    some y21
   else
   bif (Int.tmod (aA (Int.tdiv (aA (0-y20)) 4)) 4)==1 then
    bif dB (y21.length+1) 8 then
     some (y21++[(-4)])
    else none
   else
   bif (Int.tmod (aA (Int.tdiv (aA (0-y20)) 4)) 8)==4 then
    bif dB (y21.length+1) 8 then
     some (y21++[(-4)])
    else none
   else
   bif (Int.tmod (aA (Int.tdiv (aA (0-y20)) 4)) 8)==2 then
    bif dB (y21.length+1) 8 then
     some (y21++[(-8)])
    else none
   else
   bif (Int.tmod (aA (Int.tdiv (aA (0-y20)) 4)) 8)==6 then
    bif dB (y21.length+1) 8 then
     some (y21++[8])
    else none
   else
   bif dB (y21.length+2) 8 then
    some (y21++[(-4),8])
   else none)
  rw[←en,show((3:Nat):Int)=3 from rfl]at g3;rw[g3];have g4:=hodd l' g1 g2;rw[show(l'.map fun x=>x.1).map (fun(x:Nat)=>(x:Int))=ints (dT l')from rfl,g4];have ho:(ints (yH l)).length≤100:=by rw[qM];omega
  generalize ints (yH l)=X at*;unfold yR;by_cases h2: -(n:Int)%2≠0
  ·rw[if_pos h2];have:(Int.tmod (-(n:Int)) 2 != 0)=true:=by rw[bne_iff_ne,Ct];omega
   rw[this,cond_true,h7]
  ·rw[if_neg h2];have:(Int.tmod (-(n:Int)) 2 != 0)=false:=by rw[bne_eq_false_iff_eq,Ct];omega
   rw[this,cond_false,w0];have wd:aA (Int.tdiv (n:Int) 4)= -(-(n:Int))/4:=by rw[k6 (by omega),kA (by omega) (by omega)];omega
   rw[wd];generalize hk: -(-(n:Int))/4=k;have k0:0≤k:=by omega
   have t4:Int.tmod k 4=k%4:=pC k0;have t8:Int.tmod k 8=k%8:=pC k0;simp only[t4,t8];have hh:k%8=0∨k%8=1∨k%8=2∨k%8=3∨k%8=4∨k%8=5∨k%8=6∨k%8=7:=by omega
   rcases hh with h|h|h|h|h|h|h|h
   ·rw[h,show k%4=0 by omega];simp[wG ho]
   ·rw[h,show k%4=1 by omega];simp[wG ho]
   ·rw[h,show k%4=2 by omega];simp[wG ho]
   ·rw[h,show k%4=3 by omega];simp
   ·rw[h,show k%4=0 by omega];simp[wG ho]
   ·rw[h,show k%4=1 by omega];simp[wG ho]
   ·rw[h,show k%4=2 by omega];simp[wG ho]
   ·rw[h,show k%4=3 by omega];simp
theorem C4.sy {d:Int}{X:List Int}(h:C4 d X)(hd: -65536≤d)(h0:d<0){q:Int}(hq:q∈X):Sy q:=by
 obtain⟨l,hl,rfl⟩:=h.ex;rcases w5.mp hq with h|h
 ·obtain⟨p,hp,rfl⟩:=p3.mp h;obtain⟨a,b,c⟩:=(yV hl p).mp hp;have hle:=p5 (by omega) b;refine .pr p ⟨by have:=a.1;omega,a.2⟩ (by omega) ?_ (by omega);rcases q4 p with q|q
  ·have:=a.2 2 (aE q);omega
  ·exact q
 ·exact zi h
theorem C4.len {d:Int}{X:List Int}(h:C4 d X)(hd: -65536≤d):X.length≤8:=by
 obtain⟨l,hl,rfl⟩:=h.ex;have:=di hl (by omega);have:=wx d;rw[List.length_append,qM];omega
open Go.Proofs.Yteaakcmkpacpaaa.Pure (kA yO sK bm Cq bZ lN iH iF mH p9 n9)
open Go.Proofs.Yteaakcmkpacpaaa.NatL (ab cB)
open Go.Proofs.Yteaakcmkpacpaaa.Cls (ju bI dw zP wU kN)
open Go.Proofs.Yteaakcmkpacpaaa.Jac (Sy Pr qS uR jL)
theorem wq {q:Int}(h:Sy q): -8≤q∧q≤65536∧q≠0:=by
 cases h with
 |pr p hp h3 ho hb=>omega
 |_=>decide
theorem zh {N:Nat}(hN:8589934600<N)(n:Int){q:Int}(hq:Sy q):∃s,Q89.f N n q=some s∧(s=1∨s= -1):=by
 have eL:∀(o:Option Int) (f:Int→Option Int),True:=fun _ _=>trivial;cases hq with
 |m4=>
  unfold Q89.f;cases e:Int.tmod n 4==1
  ·exact⟨-1,by simp[e],.inr rfl⟩
  ·exact⟨1,by simp[e],.inl rfl⟩
 |p8=>
  unfold Q89.f;cases e:Int.tmod n 8==1
  ·cases e2:Int.tmod n 8==7
   ·exact⟨-1,by simp[e,e2],.inr rfl⟩
   ·exact⟨1,by simp[e,e2],.inl rfl⟩
  ·exact⟨1,by simp[e],.inl rfl⟩
 |m8=>
  unfold Q89.f;cases e:Int.tmod n 8==1
  ·cases e2:Int.tmod n 8==3
   ·exact⟨-1,by simp[e,e2],.inr rfl⟩
   ·exact⟨1,by simp[e,e2],.inl rfl⟩
  ·exact⟨1,by simp[e],.inl rfl⟩
 |pr p hp h3 ho hb=>
  unfold Q89.f;have c1:((p:Int)== -4)=false:=beq_eq_false_iff_ne.mpr (by omega);have c2:((p:Int)==8)=false:=beq_eq_false_iff_ne.mpr (by omega);have c3:((p:Int)== -8)=false:=beq_eq_false_iff_ne.mpr (by omega);rw[c1,c2,c3];simp only[cond_false];have go:∀(f x:Nat),x≤p→p-x<f→∃s,Q89.l15 (R:=Int) N f n (p:Int) (x:Int) (fun(_:Unit)=>some (-1)) (fun y7=>some y7)=some s∧(s=1∨s= -1):=by
   intro f;induction f with
   |zero=>intro x _ h;omega
   |succ f ih=>
    intro x hx hf;rw[Q89.l15];by_cases h:x<p
    ·rw[decide_eq_true (show(x:Int)<(p:Int) by omega),xp (show 0<p by omega)];simp only[cond_true];cases e:Int.tmod (aA (aA ((x:Int)*(x:Int))-n)) (p:Int)==0
     ·rw[cond_false,wW (by omega)];exact ih (x+1) (by omega) (by omega)
     ·exact⟨1,rfl,.inl rfl⟩
    ·rw[decide_eq_false (show ¬(x:Int)<(p:Int) by omega)];exact⟨-1,rfl,.inr rfl⟩
  exact go N 1 (by omega) (by omega)
noncomputable def sv (N:Nat)(a b c q:Int):Int:=(Q89.f N (qS a c (a+b+c) q) q).getD 0
theorem Bj {q:Int}(hq:Sy q):∃π:Int,2≤π∧∀v,Int.gcd v q≠1→π∣v:=by
 have two:∀q:Int,(q.natAbs=2*2∨q.natAbs=2*2*2)→∃π:Int,2≤π∧∀v,Int.gcd v q≠1→π∣v:=by
  intro q hq;refine⟨2,by decide,fun v hv=>?_⟩;rcases q4 v.natAbs with h|h
  ·omega
  ·exfalso;have h2:=jL h;have h22:Nat.gcd (2*2) v.natAbs=1:=Nat.Coprime.mul_left h2 h2;have h222:Nat.gcd (2*2*2) v.natAbs=1:=Nat.Coprime.mul_left h22 h2;apply hv;unfold Int.gcd;rw[hQ];rcases hq with e|e<;>rw[e]<;>assumption
 cases hq with
 |m4=>exact two _ (.inl rfl)
 |p8=>exact two _ (.inr rfl)
 |m8=>exact two _ (.inr rfl)
 |pr p hp h3 ho hb=>
  refine⟨p,by omega,fun v hv=>?_⟩;rcases hp.2 _ (k5 v.natAbs p)with e|e
  ·exact absurd e hv
  ·have:=q5 v.natAbs p;rw[e]at this;exact Int.ofNat_dvd_left.mpr this
theorem B8 {a b c q:Int}(hq:Sy q)(hp:bZ a b c):Int.gcd a q=1∨Int.gcd c q=1∨Int.gcd (a+b+c) q=1:=by
 obtain⟨π,h2,hd⟩:=Bj hq;by_cases h1:Int.gcd a q=1
 ·exact .inl h1
 ·by_cases h3:Int.gcd c q=1
  ·exact .inr (.inl h3)
  ·by_cases h4:Int.gcd (a+b+c) q=1
   ·exact .inr (.inr h4)
   ·exfalso;have da:=hd a h1;have dc:=hd c h3;have ds:=hd _ h4;have db:π∣b:=by
     have:=Int.dvd_sub (Int.dvd_sub ds da) dc;rwa[show a+b+c-a-c=b by omega]at this
    obtain⟨x,y,z,e⟩:=hp;have:π∣1:=by rw[←e];exact Int.dvd_add (Int.dvd_add (x4 da) (x4 db)) (x4 dc)
    have:=Int.le_of_dvd (by decide) this;omega
structure Fm (d a b c:Int):Prop where
 val:Cq d a b c
 lo: -65536≤d
theorem Fm.bd {d a b c:Int}(h:Fm d a b c):(0<a∧a≤1073741824)∧(-1073741824≤b∧b≤1073741824)∧(0<c∧c≤1073741824)∧0<a+b+c:=by
 obtain⟨⟨⟨a0,a1⟩,⟨b0,b1⟩,c0,c1⟩,ap,d0,d1⟩:=h.val.fine;have hbb:0≤b*b:=by
  rcases Int.le_total 0 b with q|q
  ·exact o1 q q
  ·have:=o1 (show 0≤ -b by omega) (show 0≤ -b by omega);rwa[Int.neg_mul_neg]at this
 have hac:0<a*c:=by
  have:4*a*c=4*(a*c):=by grind
  omega
 have hc:0<c:=by
  rcases Int.lt_or_le 0 c with q|q
  ·exact q
  ·have:=o1 (show 0≤a by omega) (show 0≤ -c by omega);rw[Int.mul_neg]at this;omega
 refine⟨⟨ap,a1⟩,⟨b0,b1⟩,⟨hc,c1⟩,?_⟩;have h3:4*a*(a+b+c)=(2*a+b)*(2*a+b)- (b*b-4*a*c):=by grind
 have hsq:0≤(2*a+b)*(2*a+b):=by
  rcases Int.le_total 0 (2*a+b)with q|q
  ·exact o1 q q
  ·have:=o1 (show 0≤ -(2*a+b) by omega) (show 0≤ -(2*a+b) by omega);rwa[Int.neg_mul_neg]at this
 rcases Int.lt_or_le 0 (a+b+c)with q|q
 ·exact q
 ·have h4:=o1 (show 0≤4*a by omega) (show 0≤ -(a+b+c) by omega);rw[Int.mul_neg]at h4;omega
theorem Fm.lst {d a b c:Int}(h:Fm d a b c):ju d:=by
 have:=wU h.val.fine (by rw[h.val.of.eq];exact h.lo);rwa[h.val.of.eq]at this
theorem mi {N:Nat}(hN:8589934600<N){d a b c q:Int}(h:Fm d a b c)(hq:Sy q):Q84.f N a b c q=some (sv N a b c q)∧Q89.f N (qS a c (a+b+c) q) q=some (sv N a b c q)∧(sv N a b c q=1∨sv N a b c q= -1):=by
 obtain⟨⟨a0,a1⟩,⟨b0,b1⟩,⟨c0,c1⟩,s0⟩:=h.bd;obtain⟨s,e,hs⟩:=zh hN (qS a c (a+b+c) q) hq;obtain⟨q0,q1,_⟩:=wq hq;have hsv:sv N a b c q=s:=by unfold sv;rw[e];rfl
 rw[hsv];refine⟨?_,e,hs⟩;rw[←e];refine uR hN hq a0 c0 s0 (by omega) (by omega) (by omega) (by omega) (by omega) (fun v hv=>?_) (B8 hq h.val.pr);have hv2:0<v∧v≤4294967296:=by rcases hv with rfl|rfl|rfl<;>omega
 have av:ab v≤1099511627776:=by rcases cB v with⟨_,e⟩|⟨_,e⟩<;>rw[e]<;>omega
 have aq:ab q≤1099511627776:=by rcases cB q with⟨_,e⟩|⟨_,e⟩<;>rw[e]<;>omega
 obtain⟨g,x,y,k1,_,_,k2⟩:=bm (N:=N) (by omega) av aq;rw[k1.eg]at k2;exact⟨x,y,k2⟩
def xc (Y:List Int):Int×Int×Int×Int×Int×Int×Int×Int:=(Y.getD 0 0,Y.getD 1 0,Y.getD 2 0,Y.getD 3 0,Y.getD 4 0,Y.getD 5 0,Y.getD 6 0,Y.getD 7 0)
def yr (Y:List Int):List Int:=[Y.getD 0 0,Y.getD 1 0,Y.getD 2 0,Y.getD 3 0,Y.getD 4 0,Y.getD 5 0,Y.getD 6 0,Y.getD 7 0]
theorem Ap:∀(Y:List Int),Y.length≤8→(yr Y).take Y.length=Y
 | [],_=>rfl
 | [_],_=>rfl
 | [_,_],_=>rfl
 | [_,_,_],_=>rfl
 | [_,_,_,_],_=>rfl
 | [_,_,_,_,_],_=>rfl
 | [_,_,_,_,_,_],_=>rfl
 | [_,_,_,_,_,_,_],_=>rfl
 | [_,_,_,_,_,_,_,_],_=>rfl
 |_::_::_::_::_::_::_::_::_::_,h=>by simp at h
theorem qW {N:Nat}{a b c:Int}{X:List Int}{g:Int→Int}(hg:∀q∈X,Q84.f N a b c q=some (g q))(hl:X.length≤8){R:Type}(K:List Int→List Int→Option R)(Z:List Int):∀(f i:Nat),i≤X.length→X.length-i<f→
  Q85.l3 N f X (X.length:Int) (i:Int) a b c Z ((X.take i).map g++List.replicate (8-i) 0) K=K Z (X.map g++List.replicate (8-X.length) 0)
 |0,i,_,h=>by omega
 |f+1,i,hi,hf=>by
  rw[Q85.l3];by_cases h:i<X.length
  ·have c1:decide ((i:Int)<(X.length:Int))=true:=decide_eq_true (by omega);have c2:decide (0≤(i:Int))=true:=decide_eq_true (by omega);have c3:decide ((i:Int)<8)=true:=decide_eq_true (by omega);have e:X.getD i 0=X[i]:=by rw[r0,a7 h];rfl
   have w:aA ((i:Int)+1)=((i+1:Nat):Int):=wW (by omega);simp only[c1,c2,c3,cond_true,o4,x0,e,hg _ (List.getElem_mem h),hC,w,h9];have es:((X.take i).map g++List.replicate (8-i) 0).set i (g X[i])=(X.take (i+1)).map g++List.replicate (8- (i+1)) 0:=by
    have l1:((X.take i).map g).length=i:=by rw[o0,List.length_take];omega
    rw[List.set_append_right _ _ (by omega),l1,Nat.sub_self];have l2:List.replicate (8-i) (0:Int)=0::List.replicate (8- (i+1)) 0:=by rw[show 8-i=(8- (i+1))+1 by omega];rfl
    rw[l2,List.set_cons_zero,List.take_succ_eq_append_getElem h,k7,l6];rfl
   rw[es];exact qW hg hl K Z f (i+1) (by omega) (by omega)
  ·have c1:decide ((i:Int)<(X.length:Int))=false:=decide_eq_false (by omega);rw[c1,cond_false,List.take_of_length_le (by omega),show i=X.length by omega]
theorem yt (Y:List Int)(n i:Nat):(Y++List.replicate n 0).getD i 0=Y.getD i 0:=by
 rw[r0,r0];rcases hW i Y.length with h|h
 ·rw[List.getElem?_append_left h]
 ·rw[List.getElem?_append_right h,List.getElem?_eq_none h,List.getElem?_replicate];split<;>rfl
theorem jh {N:Nat}(hN:100<N){a b c:Int}{X:List Int}{g:Int→Int}(hg:∀q∈X,Q84.f N a b c q=some (g q))(hl:X.length≤8):Q85.f N a b c X=some (xc (X.map g)):=by
 unfold Q85.f;have:=qW hg hl (fun y16 y17=>some (((((((((y16.set 0 (y17.getD 0 0)).set 1 (y17.getD 1 0)).set 2 (y17.getD 2 0)).set 3 (y17.getD 3 0)).set 4 (y17.getD 4 0)).set 5 (y17.getD 5 0)).set 6 (y17.getD 6 0)).set 7 (y17.getD 7 0)).getD 0 0,((((((((y16.set 0 (y17.getD 0 0)).set 1 (y17.getD 1 0)).set 2 (y17.getD 2 0)).set 3 (y17.getD 3 0)).set 4 (y17.getD 4 0)).set 5 (y17.getD 5 0)).set 6 (y17.getD 6 0)).set 7 (y17.getD 7 0)).getD 1 0,((((((((y16.set 0 (y17.getD 0 0)).set 1 (y17.getD 1 0)).set 2 (y17.getD 2 0)).set 3 (y17.getD 3 0)).set 4 (y17.getD 4 0)).set 5 (y17.getD 5 0)).set 6 (y17.getD 6 0)).set 7 (y17.getD 7 0)).getD 2 0,((((((((y16.set 0 (y17.getD 0 0)).set 1 (y17.getD 1 0)).set 2 (y17.getD 2 0)).set 3 (y17.getD 3 0)).set 4 (y17.getD 4 0)).set 5 (y17.getD 5 0)).set 6 (y17.getD 6 0)).set 7 (y17.getD 7 0)).getD 3 0,((((((((y16.set 0 (y17.getD 0 0)).set 1 (y17.getD 1 0)).set 2 (y17.getD 2 0)).set 3 (y17.getD 3 0)).set 4 (y17.getD 4 0)).set 5 (y17.getD 5 0)).set 6 (y17.getD 6 0)).set 7 (y17.getD 7 0)).getD 4 0,((((((((y16.set 0 (y17.getD 0 0)).set 1 (y17.getD 1 0)).set 2 (y17.getD 2 0)).set 3 (y17.getD 3 0)).set 4 (y17.getD 4 0)).set 5 (y17.getD 5 0)).set 6 (y17.getD 6 0)).set 7 (y17.getD 7 0)).getD 5 0,((((((((y16.set 0 (y17.getD 0 0)).set 1 (y17.getD 1 0)).set 2 (y17.getD 2 0)).set 3 (y17.getD 3 0)).set 4 (y17.getD 4 0)).set 5 (y17.getD 5 0)).set 6 (y17.getD 6 0)).set 7 (y17.getD 7 0)).getD 6 0,((((((((y16.set 0 (y17.getD 0 0)).set 1 (y17.getD 1 0)).set 2 (y17.getD 2 0)).set 3 (y17.getD 3 0)).set 4 (y17.getD 4 0)).set 5 (y17.getD 5 0)).set 6 (y17.getD 6 0)).set 7 (y17.getD 7 0)).getD 7 0)) [0,0,0,0,0,0,0,0] N 0 (by omega) (by omega);rw[List.take_zero,c7,List.nil_append,k4]at this;rw[show List.replicate (8-0) (0:Int)=[0,0,0,0,0,0,0,0]from rfl]at this;rw[this];generalize hY:X.map g++List.replicate (8-X.length) 0=Y;have hy:xc (X.map g)=xc Y:=by rw[←hY];simp only[xc,yt]
 rw[hy];rfl
theorem dW {N:Nat}(hN:8589934600<N){v q:Int}(hv:0<v)(hq:Sy q):Q90.f N v q=some (decide (Int.gcd v q=1)):=by
 obtain⟨q0,q1,q2⟩:=wq hq;have key:∀g:Nat,(((g:Nat):Int)==1)=decide (g=1):=fun g=>by
  by_cases h:g=1
  ·subst h;rfl
  ·rw[decide_eq_false h];exact beq_eq_false_iff_ne.mpr (by omega)
 unfold Q90.f;by_cases h:q<0
 ·rw[decide_eq_true h,kA (by omega) (by omega),dw (by omega) (by omega) (by omega),show(0:Int)-q= -q by omega,Cls.tm];simp only[cond_true,hC];unfold Cls.xB;rw[key]
 ·rw[decide_eq_false h,cond_false,dw (by omega) (by omega) (by omega)];simp only[hC];unfold Cls.xB;rw[key]
theorem ln {N:Nat}(hN:8589934600<N){d a b c:Int}(h:Fm d a b c){X:List Int}(hX:∀q∈X,Sy q)(hl:X.length≤8){R:Type}(K:List Int→Option R):∀(f i:Nat) (A:List Int),i≤X.length→X.length-i<f→A.length≤i→
  Q91.l4 N f X (i:Int) a b c A K=K (A++(X.drop i).map (sv N a b c))
 |0,i,_,_,h,_=>by omega
 |f+1,i,A,hi,hf,hA=>by
  rw[Q91.l4];by_cases hlt:i<X.length
  ·have c1:decide ((i:Int)<(X.length:Int))=true:=decide_eq_true (by omega);have c2:decide (0≤(i:Int))=true:=decide_eq_true (by omega);have e:X.getD i 0=X[i]:=by rw[r0,a7 hlt];rfl
   have w:aA ((i:Int)+1)=((i+1:Nat):Int):=wW (by omega);have hq:=hX _ (List.getElem_mem hlt);obtain⟨⟨a0,a1⟩,⟨b0,b1⟩,⟨c0,c1'⟩,s0⟩:=h.bd;have ws:aA (aA (a+b)+c)=a+b+c:=by rw[kA (n:=a+b) (by omega) (by omega),kA (by omega) (by omega)]
   have hr:dB (A.length+1) 8=true:=wG (by omega) (by omega);simp only[c1,c2,cond_true,o4,x0,e,hC,w,ws,hr,dW hN a0 hq,dW hN c0 hq];have hs:=(mi hN h hq).2.1;have hd:X.drop i=X[i]::X.drop (i+1):=p6 hlt;have next:∀s,s=sv N a b c X[i]→Q91.l4 N f X ((i+1:Nat):Int) a b c (A++[s]) K=K (A++(X.drop i).map (sv N a b c)):=fun s hs=>by rw[ln hN h hX hl K f (i+1) (A++[s]) (by omega) (by omega) (by simp;omega),hd,hs,l6];rfl
   unfold qS at hs;by_cases h1:Int.gcd a X[i]=1
   ·rw[if_pos h1]at hs;rw[decide_eq_true h1,hs];simp only[h6,cond_false,hC];exact next _ rfl
   ·rw[if_neg h1]at hs;rw[decide_eq_false h1];by_cases h2:Int.gcd c X[i]=1
    ·rw[if_pos h2]at hs;rw[decide_eq_true h2,hs];simp only[h6,y0,cond_true,cond_false,hC];exact next _ rfl
    ·rw[if_neg h2]at hs;rw[decide_eq_false h2,hs];simp only[y0,cond_true,hC];exact next _ rfl
  ·have c1:decide ((i:Int)<(X.length:Int))=false:=decide_eq_false (by omega);rw[c1,cond_false,p7 (by omega),c7,h7]
theorem ym {N:Nat}(hN:8589934600<N){d a b c:Int}(h:Fm d a b c):∃X,C4 d X∧X.length≤8∧(∀q∈X,Sy q)∧Q83.f N d=some X∧
  Q85.f N a b c X=some (xc (X.map (sv N a b c)))∧Q86.f N a b c=some (X.map (sv N a b c),0)∧
  Q105.f N a b c=some (0,X.length,yr (X.map (sv N a b c)),0)∧Q91.f N a b c=some (X.map (sv N a b c)):=by
 have hL:=h.lst;obtain⟨X,hX,e1,e2⟩:=w8 hN hL;have h8:=hX.len hL.1;have hsy:∀q∈X,Sy q:=fun q hq=>hX.sy hL.1 (by have:=hL.2.1;omega) hq;have es:=jh (N:=N) (by omega) (g:=sv N a b c) (fun q hq=>(mi hN h (hsy q hq)).1) h8;have ck:Q38.f N a b c=some 0:=by
  rcases iF N a b c with⟨_,k⟩|⟨k,_⟩
  ·exact k
  ·exact absurd h.val.fine k
 have dk:=(kN N h.val.fine).1;rw[h.val.of.eq]at dk;have co:=mH (N:=N) (by omega) h.val.fine.inb;rw[(Pure.yP a b c).mp h.val.pr]at co;have dlo:decide (d< -65536)=false:=decide_eq_false (by have:=h.lo;omega);have hlen:((decide (0≤(X.length:Int))&&decide ((X.length:Int)≤(X.length:Int)))&&decide ((X.length:Int)≤8))=true:=by simp;omega
 have tk:=Ap (X.map (sv N a b c)) (by rw[o0];exact h8);rw[o0]at tk;refine⟨X,hX,h8,hsy,e1,es,?_,?_,?_⟩
 ·unfold Q86.f;rw[ck];simp only[hC,bne_self_eq_false,cond_false,dk,dlo,co,e1,es,hlen,cond_true,x0];exact congrArg (fun l=>some (l,(0:Int))) tk
 ·unfold Q105.f;rw[ck];simp only[hC,bne_self_eq_false,cond_false,dk,dlo,co,e1,es,hlen,cond_true,x0];rfl
 ·unfold Q91.f;have:=lN h.val.fine.inb;rw[h.val.of.eq]at this;rw[this,e2];simp only[hC];have:=ln hN h hsy h8 (fun y17=>some y17) N 0 [] (by omega) (by omega) (by simp);rw[k4]at this;rw[this];rfl
open Go.Proofs.Yteaakcmkpacpaaa.Pure (kA sK Cq bZ yP iF mH p9 bN pO nL kK nC)
open Go.Proofs.Yteaakcmkpacpaaa.NatL (tA tB)
open Go.Proofs.Yteaakcmkpacpaaa.Cls (ju bI zP wU kN kc Rd)
theorem ay {a b c a' b' c':Int}(h:p9 a b c a' b' c')(hp:bZ a' b' c'):bZ a b c:=by
 obtain⟨t,u,v,w,hd,rfl,rfl,rfl⟩:=h;obtain⟨x,y,z,e⟩:=hp;refine⟨x*t*t+y*(2*t*u)+z*u*u,x*t*v+y*(t*w+u*v)+z*u*w,x*v*v+y*(2*v*w)+z*w*w,?_⟩;rw[←e];unfold tA tB;grind
theorem dp {N:Nat}(hN:8589934600<N)(a b c:Int):Q49.f N a b c=Q40.f N a b c:=by
 obtain⟨a',b',c',p,q,r,s,e,h1,h2,_⟩:=nL hN a b c;rw[h1,h2]
theorem rY (N:Nat)(Y:List Int)(hl:Y.length≤100){T:Type}(k0:Unit→Option T)(kr:Bool→Option T):∀(n i:Nat),i≤Y.length→Y.length-i<n→Q98.l4 N n Y Y (Y.length:Int) (i:Int) k0 kr=k0 ()
 |0,i,_,h=>by omega
 |n+1,i,hi,hn=>by
  rw[Q98.l4];by_cases h:i<Y.length
  ·have c1:decide ((i:Int)<(Y.length:Int))=true:=decide_eq_true (by omega);have c2:decide (0≤(i:Int))=true:=decide_eq_true (by omega);simp only[c1,c2,cond_true,o4,bne_self_eq_false,cond_false];rw[wW (by omega)];exact rY N Y hl k0 kr n (i+1) (by omega) (by omega)
  ·rw[decide_eq_false (show ¬(i:Int)<(Y.length:Int) by omega),cond_false]
theorem pk {N:Nat}(hN:1000<N)(Y:List Int)(hl:Y.length≤100):Q98.f N Y Y=some true:=by
 unfold Q98.f;simp only[bne_self_eq_false,cond_false];exact rY N Y hl _ _ N 0 (by omega) (by omega)
theorem dn (N:Nat)(m p1 p2:Nat)(z2:List Int)(Y:List Int)(hm:m≤8){T:Type}(K:Nat→Nat→List Int→List Int→Option T):∀(n i:Nat) (z:List Int),i≤m→m-i<n→
  Q107.l16 N n 0 m p1 p2 Y (m:Int) (i:Int) z z2 K=K p1 p2 Y z2
 |0,i,_,_,h=>by omega
 |n+1,i,z,hi,hn=>by
  rw[Q107.l16];by_cases h:i<m
  ·have c1:decide ((i:Int)<(m:Int))=true:=decide_eq_true (by omega);have c2:decide (0≤(i:Int))=true:=decide_eq_true (by omega);simp only[c1,c2,cond_true,o4];rw[wW (by omega)];exact dn N m p1 p2 z2 Y hm K n (i+1) _ (by omega) (by omega)
  ·rw[decide_eq_false (show ¬(i:Int)<(m:Int) by omega),cond_false]
theorem GenusSigns (a1 a2 a3:Int)(w1:(Lit.int .i64 a1).wf=true)(w2:(Lit.int .i64 a2).wf=true)(w3:(Lit.int .i64 a3).wf=true):∃N,Q107.f N a1 a2 a3=some true:=by
 refine⟨N0,?_⟩;have hN:8589934600<N0:=by decide
 have hR:=dp hN a1 a2 a3;by_cases hf:sK a1 a2 a3
 ·obtain⟨a',b',c',t,u,v,w,hdet,g1,g2,g3,hf',hr,hs,_,_,_,_,e⟩:=bN hN hf;have he:p9 a1 a2 a3 a' b' c':=⟨t,u,v,w,hdet,g1,g2,g3⟩
  rw[e]at hR;have hdi:=he.disc;have ck:Q38.f N0 a1 a2 a3=some 0:=by
   rcases iF N0 a1 a2 a3 with⟨_,k⟩|⟨k,_⟩
   ·exact k
   ·exact absurd hf k
  obtain⟨dk,dk2⟩:=kN N0 hf;have co:=mH (N:=N0) (by decide) hf.inb;generalize hd:a2*a2-4*a1*a3=d at*;by_cases hlo:d< -65536
  ·have eo:Q105.f N0 a1 a2 a3=some (0,0,[],80):=by
    unfold Q105.f;rw[ck];simp only[hC,bne_self_eq_false,cond_false,dk,decide_eq_true hlo,cond_true]
   unfold Q107.f;rw[eo,hR];simp only[hC,dk2,decide_eq_true hlo,sL];rfl
  ·have dlo:decide (d< -65536)=false:=decide_eq_false hlo;have hrd:Rd d a' b' c':=kc hf' hr hs hdi;have sm:=hrd.small (by omega);obtain⟨cs0,cs1⟩:=hrd.csmall (by omega);unfold kK at hr;have rco:=zP (N:=N0) (a:=a') (b:=b') (c:=c') (by have:=hf'.pos;omega) (by omega) (by omega) (by omega) (by omega) (by omega);by_cases hp:bZ a1 a2 a3
   ·have hc1:bI a' b' c'=1:=(yP _ _ _).mp (ay he.symm hp);rw[hc1]at rco;obtain⟨X,hX,h8,hsy,e1,es,e2,e3,e4⟩:=ym hN (d:=d) (a:=a1) (b:=a2) (c:=a3) ⟨⟨hf,⟨hd⟩,hp⟩,by omega⟩;have tk:=Ap (X.map (sv N0 a1 a2 a3)) (by rw[o0];exact h8);rw[o0]at tk;have ss:=pk (N:=N0) (by decide) (X.map (sv N0 a1 a2 a3)) (by rw[o0];omega);unfold Q107.f;rw[e3,hR];simp only[hC,dk2,dlo,rco,sL,e4,bne_self_eq_false,cond_false,cond_true,beq_self_eq_true,h6,x7,tk,ss];have pl:=dn N0 X.length 0 X.length (yr (X.map (sv N0 a1 a2 a3))) (X.map (sv N0 a1 a2 a3)) h8 (fun y27 y28 y29 y30=>
     (Q98.f N0 ((y30.drop y27).take y28) y29).bind fun r31=>
     some r31) N0 0 (yr (X.map (sv N0 a1 a2 a3))) (by omega) (by omega)
    rw[k4]at pl;rw[pl,x7,tk,ss];rfl
   ·have hc1:bI a' b' c'≠1:=fun k=>hp (ay he ((yP _ _ _).mpr k));have hc2:NatL.xB (NatL.xB a1 a2) a3≠1:=fun k=>hp ((yP _ _ _).mpr k);have b1:(bI a' b' c' != 1)=true:=by rw[bne_iff_ne];exact hc1
    have b2:(NatL.xB (NatL.xB a1 a2) a3 != 1)=true:=by rw[bne_iff_ne];exact hc2
    have eo:Q105.f N0 a1 a2 a3=some (0,0,[],81):=by unfold Q105.f;rw[ck];simp only[hC,bne_self_eq_false,cond_false,dk,dlo,co,b2,cond_true]
    unfold Q107.f;rw[eo,hR];simp only[hC,dk2,dlo,rco,b1,sL];rfl
 ·obtain⟨e,he,ck,er⟩:=pO (N:=N0) hf;have hne:(e != 0)=true:=by rw[bne_iff_ne];exact he
  have heq:(e==0)=false:=beq_eq_false_iff_ne.mpr he;have eo:Q105.f N0 a1 a2 a3=some (0,0,[],e):=by unfold Q105.f;rw[ck];simp only[hC,hne,cond_true]
  rw[er]at hR;unfold Q107.f;rw[eo,hR];simp only[hC,heq,hne,sL,bne_self_eq_false,cond_false,cond_true,h6];rfl
end Go.Proofs.Yteaakcmkpacpaaa.Gen
