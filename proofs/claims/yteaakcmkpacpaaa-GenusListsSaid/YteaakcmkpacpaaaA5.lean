import Derived.Test.YteaakcmkpacpaaaA4
import Derived.KernelRfl
open Option renaming bind_some→hB
open Nat renaming mod_eq_of_lt→hC,mul_comm→hE,dvd_of_mod_eq_zero→zE,le_mul_of_pos_left→yK,mul_assoc→hM,mul_mod→hP,mod_lt→hS,le_refl→hW,pow_succ→o0,gcd_comm→o1,sub_mod_eq_zero_of_mod_eq→o2,mul_le_mul→j3,one_mul→p3,lt_or_ge→o4,pos_of_ne_zero→p4,dvd_trans→w4,mod_eq_zero_of_dvd→q5,mul_mod_right→x5,mod_two_eq_zero_or_one→k6,pow_pos→l6,le_mul_of_pos_right→b7,gcd_dvd_right→e7,le_of_dvd→l7,gcd_dvd_left→q7,pow_zero→k8,add_mod→b9,add_sub_cancel→h9,add_mul_mod_self_left→ba,sub_self→bc,mul_div_cancel_left→bn,mul_add_mod→bw,mul_add→bx,mul_one→bz,mul_sub→cb,div_lt_iff_lt_mul→cy,dvd_zero→dv,zero_add→eh,dvd_one→er,gcd_rec→eu,mod_mod→ev,pow_one→ew
open List renaming getD_eq_getElem?_getD→pC,mem_range'_1→hK,take_succ_eq_append_getElem→xK,mem_cons_of_mem→hQ,getElem?_eq_getElem→hR,nodup_range'→hU,length_map→hV,mem_singleton→r0,drop_eq_getElem_cons→u0,map_append→y0,drop_eq_nil_of_le→o3,mem_map→n4,map_cons→q4,mem_cons→u4,getElem_mem→b5,map_nil→e5,length_pos_of_mem→k5,take_of_length_le→p5,append_assoc→w5,filter_cons→a6,length_cons→b6,range'_1_concat→c6,length_append→w6,length_erase_of_mem→x6,pairwise_map→c7,length_take→p7,set_append_right→r7,take_append_drop→w7,append_nil→x7,mem_append→b8,mem_erase_of_ne→c8,map_congr_left→r8,pairwise_cons→c9,getElem?_append_right→x9,getElem?_map→aa,getElem?_eq_some_iff→ae,pairwise_iff_getElem→au,foldl_cons→bs,mem_filter→bt,nil_append→bu,drop_zero→ch,getElem?_eq_none→cu,length_filter_le→cv,prod_cons→cx,mem_of_getElem?→cz,pairwise_append→dd
open Int renaming tmod_eq_emod_of_nonneg→hD,toNat_natCast→aE,mul_nonneg→x4,natCast_zero→y4,add_mul_emod_self_left→e6,emod_eq_emod_iff_emod_sub_eq_zero→p6,dvd_mul_of_dvd_right→q6,dvd_of_emod_eq_zero→a7,tdiv_eq_ediv_of_nonneg→k9,natCast_emod→bb
open Bool renaming and_self→hI,not_false→p2,not_true→k7
set_option linter.unusedVariables false
set_option linter.unusedSimpArgs false
namespace Go.Proofs.Yteaakcmkpacpaaa.Cls
open Go Go.Proofs.Yteaakcmkpacpaaa.Ev
open Go.Proofs.Yteaakcmkpacpaaa.Pure (kA gL cg fL mC oH yN ay gh kx aw qS nH)
theorem E8 {d a b c:Int}(h:gL a b c)(hr:fL a b)(hs:¬mC a b c)(hd:b*b-4*a*c=d):Rd d a b c:=by
 unfold fL at hr;unfold mC at hs;exact⟨hd,h.pos,hr.1,hr.2,by omega⟩
theorem oy {d a b c:Int}(hd:dY d)(h:Rd d a b c):gL a b c∧fL a b∧¬mC a b c:=by
 have h1:=h.small hd.1;have h2:=h.csmall hd.1;have h3:=h.pos;have h4:=h.lo;have h5:=h.hi;have h6:=h.eq;have h7:=h.last;obtain⟨g1,g2,g3⟩:=hd;exact⟨⟨⟨by omega,by omega,by omega⟩,h3,by omega,by omega⟩,⟨h4,h5⟩,by unfold mC;omega⟩
theorem F4 (b:Int):(b*b)%4=0∨(b*b)%4=1:=by
 rcases(show b%2=0∨b%2=1 by omega)with hb|hb
 ·have e2:b=2*(b/2):=by omega
  have e3:b*b=4*((b/2)*(b/2)):=by generalize b/2=q at*;subst e2;grind
  omega
 ·have e2:b=2*(b/2)+1:=by omega
  have e3:b*b=4*((b/2)*(b/2)+(b/2))+1:=by generalize b/2=q at*;subst e2;grind
  omega
theorem dx {a b c:Int}(h:gL a b c)(h2: -65536≤b*b-4*a*c):dY (b*b-4*a*c):=by
 have e:4*a*c=4*(a*c):=by grind
 have:=F4 b;have:=h.d0;exact⟨h2,by omega,by omega⟩
theorem xY (N:Nat){a b c:Int}(h:gL a b c):Q37.f N a b c=some (b*b-4*a*c)∧Q45.f N a b c=some (b*b-4*a*c):=by
 have:=oH N a b c;rw[if_pos h.inb,yN h.inb]at this;exact this
structure Cl (d:Int)(L:List R3):Prop where
 up:L.Pairwise Bw
 mem:∀x,x∈L↔Rd d x.1 x.2.1 x.2.2∧kI x.1 x.2.1 x.2.2=1
 len:L.length≤45000
theorem Cl.nodup {d:Int}{L:List R3}(h:Cl d L):L.Nodup:=h.up.imp (fun hx=>wx hx)
theorem dh {N:Nat}(hN:1000000001<N){d:Int}(hd:dY d):∃L,Cl d L∧Q74.f N d=some (oB L)∧Q72.f N d=some (oB L)∧Q75.f N d=some (oB L,0)∧mF.f N d=some ((L.length:Int),0):=by
 obtain⟨R,r1,r2,r3,r4,r5⟩:=sU hN hd;obtain⟨R',s1,s2,s3,s4⟩:=cr hN hd;obtain rfl:=r1.one s1;refine⟨R.filter mN,⟨r1.up.filter _,fun x=>?_,by have:=r2.len;have:=cv mN R;omega⟩,s3,s4,r3,r5⟩;rw[bt,r1.mem];unfold mN;rw[beq_iff_eq]
end Go.Proofs.Yteaakcmkpacpaaa.Cls
namespace Go.Proofs.Yteaakcmkpacpaaa.Pure
open Go Go.Proofs.Yteaakcmkpacpaaa.Ev Go.Proofs.Yteaakcmkpacpaaa.Cls
end Go.Proofs.Yteaakcmkpacpaaa.Pure
namespace Go.Proofs.Yteaakcmkpacpaaa.Gen
open Go Go.Proofs.Yteaakcmkpacpaaa.Ev
open Go.Proofs.Yteaakcmkpacpaaa.Pure (kA nP)
def wF (p:Nat):Prop:=1<p∧∀m,m∣p→m=1∨m=p
theorem wF.cop {p a:Nat}(h:wF p)(ha:¬p∣a):Nat.gcd a p=1:=by
 rcases h.2 _ (e7 a p)with e|e
 ·exact e
 ·exact absurd (by have:=q7 a p;rwa[e]at this) ha
abbrev PL:=List (Nat×Nat)
def fY:PL→List Int
 | []=>[]
 |x::l=>(x.1:Int)::(x.2:Int)::fY l
def pE:PL→Nat
 | []=>1
 |x::l=>x.1^x.2*pE l
theorem na:∀a b:PL,fY (a++b)=fY a++fY b
 | [],b=>rfl
 |x::a,b=>by simp[fY,na a b]
theorem q8:∀a:PL,(fY a).length=2*a.length
 | []=>rfl
 |x::a=>by simp only[fY,b6,q8 a];omega
theorem dy (a:PL):((fY a).length/2:Int)=(a.length:Int):=by rw[q8];omega
theorem wh:∀{a:PL} {i:Nat} (h:i<a.length),(fY a).getD (i*2) 0=(a[i].1:Int)∧(fY a).getD (i*2+1) 0=(a[i].2:Int)
 |x::a,0,_=>⟨rfl,rfl⟩
 |x::a,i+1,h=>by
  have:=wh (a:=a) (i:=i) (by simpa using h);have e1:(i+1)*2=i*2+1+1:=by omega
  have e2:(i+1)*2+1=i*2+1+1+1:=by omega
  rw[e2,e1];exact this
theorem zR:∀a b:PL,pE (a++b)=pE a*pE b
 | [],b=>(p3 _).symm
 |x::a,b=>by simp only[List.cons_append,pE];rw[zR a b,hM]
structure Fz (n:Nat)(l:PL):Prop where
 up:l.Pairwise (fun a b=>a.1<b.1)
 pr:∀x∈l,wF x.1∧0<x.2
 prod:pE l=n
theorem gX:∀{l:PL},(∀x∈l,wF x.1∧0<x.2)→l.length<pE l
 | [],_=>by simp[pE]
 |x::l,h=>by have ih:=gX (l:=l) (fun y hy=>h y (hQ _ hy));obtain⟨h1,h2⟩:=h x (by simp);have h3:1<x.1^x.2:=Nat.one_lt_pow (by omega) h1.1;simp only[pE,b6];have:=j3 (show 2≤x.1^x.2 by omega) (hW (pE l));omega
def Fr (p n:Nat):Prop:=∀m,1<m→m∣n→p≤m
theorem Fr.prime {p n:Nat}(h:Fr p n)(hp:1<p)(hd:p∣n):wF p:=
 ⟨hp,fun m hm=>by
  have h0:0<m:=Nat.pos_of_dvd_of_pos hm (by omega);rcases o4 1 m with h1|h1
  ·have:=h m h1 (w4 hm hd);have:=l7 (by omega) hm;exact .inr (by omega)
  ·exact .inl (by omega)⟩
theorem Fr.last {p n:Nat}(h:Fr p n)(hn:1<n)(hs:n<p*p):wF n:=
 ⟨hn,fun m hm=>by
  obtain⟨k,rfl⟩:=hm;have hm0:0<m:=p4 fun e=>by subst e;simp at hn
  have hk0:0<k:=p4 fun e=>by subst e;simp at hn
  rcases o4 1 m with h1|h1
  ·rcases o4 1 k with h2|h2
   ·have a1:=h m h1 ⟨k,rfl⟩;have a2:=h k h2 ⟨m,hE _ _⟩;have:=j3 a1 a2;omega
   ·have:k=1:=by omega
    subst this;exact .inr (by omega)
  ·exact .inl (by omega)⟩
theorem Fr.dvd {p n m:Nat}(h:Fr p n)(hm:m∣n):Fr p m:=fun k h1 h2=>h k h1 (w4 h2 hm)
theorem Fr.succ {p n:Nat}(h:Fr p n)(hd:¬p∣n):Fr (p+1) n:=fun m h1 h2=>by
 have:=h m h1 h2;rcases o4 p m with h3|h3
 ·omega
 ·have:m=p:=by omega
  subst this;exact absurd h2 hd
theorem vQ {p:Nat}(hp:1<p):∀(f n:Nat),0<n→n<f→∃j m,n=p^j*m∧¬p∣m
 |0,n,_,h=>by omega
 |f+1,n,hn,h=>by
  by_cases hd:p∣n
  ·obtain⟨k,rfl⟩:=hd;have hk:0<k:=p4 fun e=>by subst e;simp at hn
   have:k<p*k:=by have:=j3 (show 2≤p by omega) (hW k);omega
   obtain⟨j,m,e,hm⟩:=vQ hp f k hk (by omega);exact⟨j+1,m,by rw[e,o0,hE (p^j) p,hM],hm⟩
  ·exact⟨0,n,by simp,hd⟩
theorem A8 {p:Nat}(h:0<p):(!((p:Int)==0))=true:=by
 have:((p:Int)==0)=false:=beq_eq_false_iff_ne.mpr (by omega);rw[this];rfl
theorem zk (a b:Nat):Int.tmod (a:Int) (b:Int)=((a%b:Nat):Int):=Int.ofNat_tmod a b
theorem C8 (a b:Nat):Int.tdiv (a:Int) (b:Int)=((a/b:Nat):Int):=Int.ofNat_tdiv a b
theorem Bq (a:Nat):((a:Int)==0)=decide (a=0):=by
 by_cases h:a=0
 ·subst h;rfl
 ·rw[decide_eq_false h];exact beq_eq_false_iff_ne.mpr (by omega)
theorem Dc {a:Nat}(h:a<9223372036854775808):aA (a:Int)=(a:Int):=kA (by omega) (by omega)
theorem eK {a:Nat}(h:a<9223372036854775807):aA ((a:Int)+1)=((a+1:Nat):Int):=by rw[kA (by omega) (by omega)];omega
theorem xd (N:Nat){R:Type}{p:Nat}(hp:1<p)(l:List Int)(K:Int→Int→Int→List Int→Option R):∀(f k j m:Nat),¬p∣m→0<m→j<f→k+j<1000000→p^j*m<1000000→
  Q76.l1 N f (p:Int) (k:Int) ((p^j*m:Nat):Int) l K=K (p:Int) ((k+j:Nat):Int) (m:Int) l
 |0,k,j,m,_,_,h,_,_=>by omega
 |f+1,k,j,m,hd,hm,h,hk,hb=>by
  rw[Q76.l1];simp only[A8 (show 0<p by omega),cond_true];rw[zk,Bq];cases j with
  |zero=>rw[k8,p3,decide_eq_false (fun e=>hd (zE e)),cond_false];rfl
  |succ j=>
   have e:p^(j+1)*m=p*(p^j*m):=by rw[o0,hE (p^j) p,hM]
   have hlt:p^j*m≤p^(j+1)*m:=by rw[e];exact yK _ (by omega)
   rw[decide_eq_true (by rw[e];exact x5 _ _),cond_true,C8,e,bn _ (by omega),Dc (by omega),eK (by omega)];have:=xd N hp l K f (k+1) j m hd hm (by omega) (by omega) (by omega);rw[this];congr 2;omega
theorem Cu {l:List Int}(h:l.length≤1000000):zA ((l.length+2)/2) 16=true:=by
 simp only[zA,decide_eq_true_eq];omega
theorem ox {p j:Nat}(hp:1<p):j<p^j:=Nat.lt_pow_self hp
theorem Bz {N:Nat}(hN:1000000<N){p j m:Nat}(hp:1<p)(hd:¬p∣m)(hm:0<m)(hb:p^j*m<1000000){l:PL}(hl:l.length<100000):
  Q76.f N (p:Int) ((p^j*m:Nat):Int) (fY l)=some (decide (0<j),(m:Int),if 0<j then fY (l++[(p,j)])else fY l):=by
 unfold Q76.f;have hj:j<1000000:=by have:=ox (j:=j) hp;have:=b7 (p^j) hm;omega
 have:=xd N hp (fY l) (fun y12 y13 y14 y15=>bif decide (y13>0)then bif zA ((y15.length+2)/2) 16 then some (true,y14,y15++[y12,y13])else none else some (false,y14,y15)) N 0 j m hd hm (by omega) (by omega) hb;rw[y4]at this;rw[this];simp only[eh];rw[Cu (by rw[q8];omega)];by_cases h0:0<j
 ·rw[decide_eq_true (show(j:Int)>0 by omega),decide_eq_true h0,if_pos h0,na];rfl
 ·rw[decide_eq_false (show ¬(j:Int)>0 by omega),decide_eq_false h0,if_neg h0];rfl
structure St (n0 p n:Nat)(l:PL):Prop where
 up:l.Pairwise (fun a b=>a.1<b.1)
 pr:∀x∈l,wF x.1∧0<x.2∧x.1<p
 prod:pE l*n=n0
 fr:Fr p n
 pos:0<n
theorem St.len {n0 p n:Nat}{l:PL}(h:St n0 p n l):l.length<n0+1∧n≤n0:=by
 have h1:=gX (l:=l) (fun x hx=>⟨(h.pr x hx).1,(h.pr x hx).2.1⟩);have h2:=h.prod;have h3:=h.pos;have:=b7 (pE l) h3;have:=yK n (show 0<pE l by omega);omega
theorem St.step {n0 p j m:Nat}{l:PL}(h:St n0 p (p^j*m) l)(hp:1<p)(hd:¬p∣m):St n0 (p+1) m (if 0<j then l++[(p,j)]else l):=by
 have hm:0<m:=p4 fun e=>by subst e;exact hd (dv _)
 by_cases h0:0<j
 ·rw[if_pos h0];have hpp:wF p:=h.fr.prime hp (w4 (w4 (by simp) (Nat.pow_dvd_pow p (show 1≤j by omega))) ⟨m,rfl⟩);refine⟨?_,fun x hx=>?_,?_,(h.fr.dvd ⟨p^j,hE _ _⟩).succ hd,hm⟩
  ·rw[dd];exact⟨h.up,by simp,fun a ha b hb=>by simp only[r0]at hb;subst hb;exact(h.pr a ha).2.2⟩
  ·simp only[b8,r0]at hx;rcases hx with hx|rfl
   ·exact⟨(h.pr x hx).1,(h.pr x hx).2.1,by have:=(h.pr x hx).2.2;omega⟩
   ·exact⟨hpp,h0,by simp⟩
  ·rw[zR];simp only[pE,bz];rw[hM];exact h.prod
 ·rw[if_neg h0];have:j=0:=by omega
  subst this;have hf:=h.prod;rw[k8,p3]at hf;exact⟨h.up,fun x hx=>⟨(h.pr x hx).1,(h.pr x hx).2.1,by have:=(h.pr x hx).2.2;omega⟩,hf,(h.fr.dvd ⟨p^0,hE _ _⟩).succ hd,hm⟩
theorem St.end {n0 p n:Nat}{l:PL}(h:St n0 p n l)(hs:n<p*p):Fz n0 (if 1<n then l++[(n,1)]else l):=by
 by_cases h1:1<n
 ·rw[if_pos h1];have hq:=h.fr.last h1 hs;refine⟨?_,fun x hx=>?_,?_⟩
  ·rw[dd];refine⟨h.up,by simp,fun a ha b hb=>?_⟩;simp only[r0]at hb;subst hb;have:=(h.pr a ha).2.2;have:=h.fr n h1 (Nat.dvd_refl _);simp only;omega
  ·simp only[b8,r0]at hx;rcases hx with hx|rfl
   ·exact⟨(h.pr x hx).1,(h.pr x hx).2.1⟩
   ·exact⟨hq,by simp⟩
  ·rw[zR];simp only[pE,bz,ew];exact h.prod
 ·rw[if_neg h1];have:=h.pos;have:n=1:=by omega
  subst this;exact⟨h.up,fun x hx=>⟨(h.pr x hx).1,(h.pr x hx).2.1⟩,by have:=h.prod;omega⟩
theorem St.skip {n0 p n:Nat}{l:PL}(h:St n0 p n l)(hp:2<p)(he:p%2=0):St n0 (p+1) n l:=
 ⟨h.up,fun x hx=>⟨(h.pr x hx).1,(h.pr x hx).2.1,by have:=(h.pr x hx).2.2;omega⟩,h.prod,h.fr.succ fun hd=>by have:=h.fr 2 (by omega) (w4 (zE he) hd);omega,h.pos⟩
theorem qt {α:Type}(b:Bool)(x:α):(bif b then x else x)=x:=by cases b<;>rfl
theorem Cy {p n:Nat}(hp:p≤1000000):decide (aA ((p:Int)*(p:Int))≤(n:Int))=decide (p*p≤n):=by
 have h1:p*p≤1000000*1000000:=j3 hp hp;rw[←Int.natCast_mul,Dc (by omega),decide_eq_decide];omega
theorem Ek {p:Nat}(hp:p<1000000):qD .i64 (p:Int) 1=((p%2:Nat):Int):=by
 have:=nP (x:=(p:Int)) (by omega) (by omega) 1 (by decide);simp only[Int.reducePow,Int.reduceSub]at this;rw[this];omega
theorem xc {N:Nat}(hN:1000000<N){n0:Nat}(hn:n0≤65536){R:Type}(K:Int→List Int→Option R):∀(f p n:Nat) (l:PL),St n0 p n l→1<p→(p=2∨p%2=1)→p≤n0+4→n0+5-p<f→
  ∃n' l' p',St n0 p' n' l'∧n'<p'*p'∧Q77.l8 N f (p:Int) (n:Int) (fY l) K=K (n':Int) (fY l')
 |0,p,n,l,_,_,_,_,h=>by omega
 |f+1,p,n,l,h,hp,hodd,hpn,hf=>by
  obtain⟨hl1,hl2⟩:=h.len;rw[Q77.l8,Cy (by omega)];by_cases hs:p*p≤n
  ·rw[decide_eq_true hs,cond_true];obtain⟨j,m,rfl,hd⟩:=vQ hp (n+1) n h.pos (by omega);have hm:0<m:=p4 fun e=>by subst e;exact hd (dv _)
   rw[Bz hN hp hd hm (by omega) (by omega)];have hst:=h.step hp hd;have hpn2:p≤n0:=by have:=j3 (show 1≤p by omega) (hW p);omega
   simp only[hB,qt];have e1:aA ((p:Int)+aA (1+qD .i64 (p:Int) 1))=((p+(1+p%2):Nat):Int):=by have e3:aA (1+((p%2:Nat):Int))=1+((p%2:Nat):Int):=kA (by omega) (by omega);rw[Ek (by omega),e3,kA (by omega) (by omega)];omega
   rw[e1];have e2:(if 0<j then fY (l++[(p,j)])else fY l)=fY (if 0<j then l++[(p,j)]else l):=by split<;>rfl
   rw[e2];rcases hodd with rfl|hodd
   ·exact xc hN hn K f 3 m _ hst (by omega) (by omega) (by omega) (by omega)
   ·have hst2:=hst.skip (by omega) (by omega);rw[hodd];exact xc hN hn K f (p+2) m _ hst2 (by omega) (by omega) (by omega) (by omega)
  ·rw[decide_eq_false hs,cond_false];exact⟨n,l,p,h,by omega,rfl⟩
theorem dw {N:Nat}(hN:1000000<N){n:Nat}(h0:0<n)(h1:n≤65536):∃l,Fz n l∧Q77.f N (n:Int)=some (fY l,0):=by
 unfold Q77.f;rw[decide_eq_false (show ¬(n:Int)<1 by omega),decide_eq_false (show ¬(n:Int)>1099511627776 by omega)];simp only[cond_false];obtain⟨n',l',p',hst,hs,e⟩:=xc hN h1 (fun y8 y9=>bif decide (y8>1)then(Q76.f N y8 y8 y9).bind fun r10=>bif r10.1 then some (r10.2.2,0)else some (r10.2.2,(0:Int))else some (y9,0)) N 2 n [] ⟨.nil,fun x hx=>(by cases hx),(by simp[pE]),fun m h2 _=>h2,h0⟩ (by omega) (.inl rfl) (by omega) (by omega);obtain⟨q1,q2⟩:=hst.len;refine⟨_,hst.end hs,e.trans ?_⟩;by_cases hn:1<n'
 ·rw[decide_eq_true (show(n':Int)>1 by omega),if_pos hn,cond_true];have:=Bz hN hn (j:=1) (m:=1) (by intro hd;have:=er.mp hd;omega) (by omega) (by simp;omega) (l:=l') (by omega);rw[ew,bz]at this;rw[this];rfl
 ·rw[decide_eq_false (show ¬(n':Int)>1 by omega),if_neg hn,cond_false]
theorem wF.dvd_mul {p a b:Nat}(h:wF p)(hd:p∣a*b):p∣a∨p∣b:=by
 by_cases ha:p∣a
 ·exact .inl ha
 ·exact .inr ((Nat.Coprime.symm (h.cop ha)).dvd_of_dvd_mul_left hd)
theorem wF.dvd_pow {p a:Nat}(h:wF p):∀{k:Nat},p∣a^k→p∣a
 |0,hd=>by have:=h.1;have:=er.mp (by simpa using hd);omega
 |k+1,hd=>by
  rw[o0]at hd;rcases h.dvd_mul hd with h1|h1
  ·exact wF.dvd_pow h h1
  ·exact h1
theorem wF.eq {p q:Nat}(h:wF p)(k:wF q)(hd:p∣q):p=q:=(k.2 p hd).resolve_left (by have:=h.1;omega)
theorem wF.in_prod {p:Nat}(h:wF p):∀{l:PL},(∀x∈l,wF x.1∧0<x.2)→p∣pE l→∃x∈l,x.1=p
 | [],_,hd=>by have:=h.1;have:=er.mp hd;omega
 |x::l,hl,hd=>by
  rcases h.dvd_mul hd with h1|h1
  ·exact⟨x,by simp,(h.eq (hl x (by simp)).1 (h.dvd_pow h1)).symm⟩
  ·obtain⟨y,h2,h3⟩:=wF.in_prod h (fun y hy=>hl y (hQ _ hy)) h1;exact⟨y,hQ _ h2,h3⟩
end Go.Proofs.Yteaakcmkpacpaaa.Gen
namespace Go.Proofs.Yteaakcmkpacpaaa.Jac
def sm (f:Nat→Nat):Nat→Nat
 |0=>0
 |n+1=>sm f n+f (n+1)
theorem bI {f g:Nat→Nat}:∀n,(∀k,1≤k→k≤n→f k=g k)→sm f n=sm g n
 |0,_=>rfl
 |n+1,h=>by simp only[sm];rw[bI n (fun k h1 h2=>h k h1 (by omega)),h (n+1) (by omega) (hW _)]
theorem rN (f g:Nat→Nat):∀n,sm (fun k=>f k+g k) n=sm f n+sm g n
 |0=>rfl
 |n+1=>by simp only[sm];rw[rN f g n];omega
theorem yq (c:Nat)(f:Nat→Nat):∀n,sm (fun k=>c*f k) n=c*sm f n
 |0=>by simp[sm]
 |n+1=>by simp only[sm];rw[yq c f n,bx]
theorem lr {f g:Nat→Nat}:∀n,(∀k,1≤k→k≤n→f k%2=g k%2)→sm f n%2=sm g n%2
 |0,_=>rfl
 |n+1,h=>by simp only[sm];have h1:=lr n (fun k h1 h2=>h k h1 (by omega));have h2:=h (n+1) (by omega) (hW _);omega
theorem kJ (c:Nat):∀n,sm (fun _=>c) n=c*n
 |0=>rfl
 |n+1=>by simp only[sm];rw[kJ c n,Nat.mul_succ]
theorem pg (f:Nat→Nat→Nat)(m:Nat):∀n,sm (fun k=>sm (fun j=>f k j) m) n=sm (fun j=>sm (fun k=>f k j) n) m
 |0=>by
  have:∀m,sm (fun _=>0) m=0:=fun m=>by rw[kJ];simp
  simp only[sm];rw[this]
 |n+1=>by simp only[sm];rw[pg f m n,←rN]
theorem bj (f:Nat→Nat):∀n,sm f n=((List.range' 1 n).map f).sum
 |0=>rfl
 |n+1=>by rw[c6,y0,List.sum_append];simp only[sm,q4,e5,List.sum_cons,List.sum_nil];rw[bj f n,Nat.add_comm 1 n];simp
theorem xh:∀(l m:List Nat),l.Nodup→(∀x∈l,x∈m)→l.length≤m.length
 | [],m,_,_=>Nat.zero_le _
 |x::l,m,hn,hs=>by obtain⟨h1,h2⟩:=List.nodup_cons.mp hn;have hx:=hs x (by simp);have ih:=xh l (m.erase x) h2 (fun y hy=>(c8 (fun(e:y=x)=>h1 (by rw[←e];exact hy))).mpr (hs y (by simp[hy])));rw[x6 hx]at ih;have:=k5 hx;simp only[b6];omega
theorem ah {l m:List Nat}(h1:l.Nodup)(h2:m.Nodup)(hs:∀x∈l,x∈m)(hl:m.length≤l.length):l.Perm m:=by
 rw[List.perm_iff_count];have back:∀y∈m,y∈l:=by intro y hy;apply Classical.byContradiction;intro hn;have:=xh l (m.erase y) h1 (fun x hx=>(c8 (fun(e:x=y)=>hn (by rw[←e];exact hx))).mpr (hs x hx));rw[x6 hy]at this;have:=k5 hy;omega
 intro a;by_cases ha:a∈l
 ·rw[List.Nodup.count h1,List.Nodup.count h2,if_pos ha,if_pos (hs a ha)]
 ·rw[List.count_eq_zero.mpr ha,List.count_eq_zero.mpr (fun h=>ha (back a h))]
theorem pf {r:Nat→Nat}(f:Nat→Nat)(n:Nat)(h1:∀k,1≤k→k≤n→1≤r k∧r k≤n)(h2:∀j k,1≤j→j≤n→1≤k→k≤n→r j=r k→j=k):sm (fun k=>f (r k)) n=sm f n:=by
 have hp:((List.range' 1 n).map r).Perm (List.range' 1 n):=by
  refine ah ?_ hU (fun x hx=>?_) (by simp)
  ·rw[List.Nodup,c7];refine List.Pairwise.imp_of_mem ?_ (hU (s:=1) (n:=n));intro a b ha hb hne e;rw[hK]at ha hb;exact hne (h2 a b (by omega) (by omega) (by omega) (by omega) e)
  ·obtain⟨k,hk,rfl⟩:=n4.mp hx;rw[hK]at hk⊢;have:=h1 k (by omega) (by omega);omega
 rw[bj,bj];have:=(hp.map f).sum_nat;rw[List.map_map]at this;exact this
def neg (n x:Nat):Nat:=if n<2*(x%n)then 1 else 0
def ro (n x:Nat):Nat:=if n<2*(x%n)then n-x%n else x%n
def mu (a n:Nat):Nat:=sm (fun k=>neg n (a*k)) (n/2)
theorem kp {a n k:Nat}(hc:Nat.gcd a n=1)(h1:1≤k)(h2:k<n):(a*k)%n≠0:=by
 intro h;have hd:=zE h;have:=Nat.Coprime.dvd_of_dvd_mul_left (show Nat.Coprime n a by rw[Nat.Coprime,o1];exact hc) hd;have:=l7 (by omega) this;omega
theorem qQ {a n k:Nat}(hn:n%2=1)(hc:Nat.gcd a n=1)(h1:1≤k)(h2:k≤n/2):1≤ro n (a*k)∧ro n (a*k)≤n/2:=by
 have h3:=kp hc h1 (show k<n by omega);have h4:=hS (a*k) (show 0<n by omega);unfold ro;split<;>omega
theorem kz {a n j k:Nat}(hn:n%2=1)(hc:Nat.gcd a n=1)(j1:1≤j)(j2:j≤n/2)(k1:1≤k)(k2:k≤n/2)(e:ro n (a*j)=ro n (a*k)):j=k:=by
 have hcop:Nat.Coprime n a:=by rw[Nat.Coprime,o1];exact hc
 have m1:=hS (a*j) (show 0<n by omega);have m2:=hS (a*k) (show 0<n by omega);have sumc:(a*j)%n+(a*k)%n≠n:=by
  intro h;have:(a*(j+k))%n=0:=by rw[bx,b9,h,Nat.mod_self]
  exact kp hc (show 1≤j+k by omega) (by omega) this
 have same:(a*j)%n=(a*k)%n→j=k:=by
  intro h;rcases Nat.lt_trichotomy j k with q|q|q
  ·exfalso;have:(a*(k-j))%n=0:=by
    rw[cb];exact o2 h.symm
   exact kp hc (show 1≤k-j by omega) (by omega) this
  ·exact q
  ·exfalso;have:(a*(j-k))%n=0:=by
    rw[cb];exact o2 h
   exact kp hc (show 1≤j-k by omega) (by omega) this
 unfold ro at e;split at e<;>split at e
 ·exact same (by omega)
 ·exfalso;exact sumc (by omega)
 ·exfalso;exact sumc (by omega)
 ·exact same e
theorem wW {a n:Nat}(hn:n%2=1)(hc:Nat.gcd a n=1):(mu a n+sm (fun k=>a*k/n) (n/2)+(a+1)*sm (fun k=>k) (n/2))%2=0:=by
 have key:sm (fun k=>a*k+(a*k/n+(neg n (a*k)+ro n (a*k)))) (n/2)%2=sm (fun _=>0) (n/2)%2:=by
  apply lr;intro k h1 h2;have hm:=Nat.div_add_mod (a*k) n;have hlt:=hS (a*k) (show 0<n by omega);have hr:(neg n (a*k)+ro n (a*k))%2=((a*k)%n)%2:=by unfold neg ro;split<;>omega
  generalize hq:a*k/n=q at*;generalize hr2:(a*k)%n=r at*;generalize neg n (a*k)+ro n (a*k)=v at*;have e:(n*q)%2=q%2:=by rw[hP,hn];simp
  omega
 rw[rN,rN,rN,kJ]at key;have e1:sm (fun k=>a*k) (n/2)=a*sm (fun k=>k) (n/2):=yq a (fun k=>k) _;have e2:sm (fun k=>ro n (a*k)) (n/2)=sm (fun k=>k) (n/2):=pf (r:=fun k=>ro n (a*k)) (fun k=>k) (n/2) (fun k h1 h2=>qQ hn hc h1 h2) (fun j k j1 j2 k1 k2 e=>kz hn hc j1 j2 k1 k2 e);rw[e1,e2]at key;unfold mu;rw[Nat.add_mul,p3];omega
theorem Ar {n a x:Nat}(hn:n%2=1)(hx:(a*ro n x)%n≠0):neg n (a*x)%2=(neg n x+neg n (a*ro n x))%2:=by
 have hp:0<n:=by omega
 have hx2:=hS x hp;have e0:(a*x)%n=(a*(x%n))%n:=by rw[hP,hP a (x%n),ev]
 by_cases h:n<2*(x%n)
 ·have hr:ro n x=n-x%n:=by unfold ro;rw[if_pos h]
  have h1:neg n x=1:=by unfold neg;rw[if_pos h]
  rw[hr]at hx⊢;have hs:((a*(x%n))%n+(a*(n-x%n))%n)%n=0:=by rw[←b9,←bx,show x%n+(n-x%n)=n by omega,Nat.mul_mod_left]
  have l1:=hS (a*(x%n)) hp;have l2:=hS (a*(n-x%n)) hp;have hsum:(a*(x%n))%n+(a*(n-x%n))%n=n:=by
   rcases o4 ((a*(x%n))%n+(a*(n-x%n))%n) n with q|q
   ·rw[hC q]at hs;omega
   ·rw[Nat.mod_eq_sub_mod q,hC (by omega)]at hs;omega
  rw[h1];unfold neg;rw[e0];split<;>split<;>omega
 ·have hr:ro n x=x%n:=by unfold ro;rw[if_neg h]
  have h1:neg n x=0:=by unfold neg;rw[if_neg h]
  rw[hr,h1,eh];unfold neg;rw[e0]
theorem zL {a b n:Nat}(hn:n%2=1)(ha:Nat.gcd a n=1)(hb:Nat.gcd b n=1):mu (a*b) n%2=(mu a n+mu b n)%2:=by
 have h1:mu (a*b) n%2=sm (fun k=>neg n (b*k)+neg n (a*ro n (b*k))) (n/2)%2:=by unfold mu;apply lr;intro k k1 k2;rw[hM];apply Ar hn;have:=qQ hn hb k1 k2;exact kp ha this.1 (by omega)
 rw[h1,rN];have h2:sm (fun k=>neg n (a*ro n (b*k))) (n/2)=sm (fun k=>neg n (a*k)) (n/2):=pf (r:=fun k=>ro n (b*k)) (fun x=>neg n (a*x)) (n/2) (fun k h1 h2=>qQ hn hb h1 h2) (fun j k j1 j2 k1 k2 e=>kz hn hb j1 j2 k1 k2 e);rw[h2];unfold mu;omega
theorem uR (a n:Nat):mu (a%n) n=mu a n:=by
 unfold mu;apply bI;intro k _ _;unfold neg;rw[hP,ev,←hP]
theorem C5:∀n,2*sm (fun k=>k) n=n*(n+1)
 |0=>rfl
 |n+1=>by simp only[sm];rw[bx,C5 n,←Nat.add_mul,hE]
theorem vL {n:Nat}(hn:n%2=1):Nat.gcd 2 n=1:=by rw[eu,hn];rfl
theorem Cp {n:Nat}(hn:n%2=1):mu 2 n%2=sm (fun k=>k) (n/2)%2:=by
 have h:=wW (a:=2) hn (vL hn);have e:sm (fun k=>2*k/n) (n/2)=sm (fun _=>0) (n/2):=bI _ (fun k h1 h2=>Nat.div_eq_of_lt (by omega));rw[e,kJ]at h;omega
theorem ag {n:Nat}(hn:n%2=1):mu 2 n%2=if n%8=1∨n%8=7 then 0 else 1:=by
 rw[Cp hn];have h:=C5 (n/2);generalize sm (fun k=>k) (n/2)=t at h;obtain⟨q,r,hq,hr⟩:∃q r,n=8*q+r∧r<8:=⟨n/8,n%8,by omega,by omega⟩
 have hodd:r%2=1:=by omega
 have hn2:n/2=4*q+r/2:=by omega
 rw[hn2]at h;have e8:n%8=r:=by omega
 rw[e8];have e:(4*q+r/2)*(4*q+r/2+1)=4*(4*(q*q)+2*(q*(r/2))+q)+(r/2)*(r/2+1):=by grind
 rw[e]at h;rcases(show r=1∨r=3∨r=5∨r=7 by omega)with k|k|k|k<;>subst k<;>simp at h⊢ <;>omega
theorem C9 {n x:Nat}(hn:0<n)(hx:x%n≠0):∀g,sm (fun j=>if n*j<x then 1 else 0) g=min g (x/n)
 |0=>by simp[sm]
 |g+1=>by
  simp only[sm];rw[C9 hn hx g];have hd:=Nat.div_add_mod x n;have hl:=hS x hn;by_cases h:n*(g+1)<x
  ·rw[if_pos h];have:g+1≤x/n:=(Nat.le_div_iff_mul_le hn).mpr (by rw[hE];omega);omega
  ·rw[if_neg h];have:x/n<g+1:=(cy hn).mpr (by
    rw[hE];have hne:x≠n*(g+1):=fun e=>hx (by rw[e,x5]);omega)
   omega
theorem Am {m n:Nat}(hm:m%2=1)(hn:n%2=1)(hc:Nat.gcd m n=1):sm (fun k=>m*k/n) (n/2)+sm (fun j=>n*j/m) (m/2)=(m/2)*(n/2):=by
 have half:∀{a b:Nat},a%2=1→b%2=1→Nat.gcd a b=1→∀k,1≤k→k≤b/2→a*k/b=sm (fun j=>if b*j<a*k then 1 else 0) (a/2):=by
  intro a b ha hb hab k k1 k2;rw[C9 (by omega) (kp hab k1 (by omega))];have:a*k/b<a/2+1:=(cy (by omega)).mpr (by
   have h1:a*k≤a*(b/2):=Nat.mul_le_mul_left _ k2;have h2:a*b=2*(a*(b/2))+a:=by
    have:b=2*(b/2)+1:=by omega
    generalize b/2=h at*;subst this;grind
   have h3:(a/2+1)*b*2=a*b+b:=by
    have:a=2*(a/2)+1:=by omega
    generalize a/2=g at*;subst this;grind
   omega)
  omega
 have e1:sm (fun k=>m*k/n) (n/2)=sm (fun k=>sm (fun j=>if n*j<m*k then 1 else 0) (m/2)) (n/2):=bI _ (fun k h1 h2=>half hm hn hc k h1 h2);have e2:sm (fun j=>n*j/m) (m/2)=sm (fun j=>sm (fun k=>if m*k<n*j then 1 else 0) (n/2)) (m/2):=bI _ (fun k h1 h2=>half hn hm (by rw[o1];exact hc) k h1 h2);rw[e1,e2,pg,←rN];have e3:sm (fun j=>sm (fun k=>if n*j<m*k then 1 else 0) (n/2)+sm (fun k=>if m*k<n*j then 1 else 0) (n/2)) (m/2)=sm (fun _=>n/2) (m/2):=by
  apply bI;intro j j1 j2;rw[←rN];have:sm (fun k=>(if n*j<m*k then 1 else 0)+(if m*k<n*j then 1 else 0)) (n/2)=sm (fun _=>1) (n/2):=by apply bI;intro k k1 k2;have hne:m*k≠n*j:=fun e=>kp hc k1 (show k<n by omega) (by rw[e,x5]);split<;>split<;>omega
  rw[this,kJ,p3]
 rw[e3,kJ,hE]
theorem xe {m n:Nat}(hm:m%2=1)(hn:n%2=1)(hc:Nat.gcd m n=1):(mu m n+mu n m)%2=((m/2)*(n/2))%2:=by
 have h1:=wW (a:=m) hn hc;have h2:=wW (a:=n) hm (by rw[o1];exact hc);have h3:=Am hm hn hc;have e1:((m+1)*sm (fun k=>k) (n/2))%2=0:=by rw[hP,show(m+1)%2=0 by omega];simp
 have e2:((n+1)*sm (fun k=>k) (m/2))%2=0:=by rw[hP,show(n+1)%2=0 by omega];simp
 omega
theorem rv {m n:Nat}(hm:m%2=1)(hn:n%2=1)(hc:Nat.gcd m n=1):(mu m n+mu n m)%2=if m%4=3∧n%4=3 then 1 else 0:=by
 rw[xe hm hn hc,hP];rcases(show m%4=1∨m%4=3 by omega)with a|a<;>rcases(show n%4=1∨n%4=3 by omega)with b|b
 ·have:m/2%2=0:=by omega
  simp[a,b,this]
 ·have:m/2%2=0:=by omega
  simp[a,b,this]
 ·have:n/2%2=0:=by omega
  simp[a,b,this]
 ·have h1:m/2%2=1:=by omega
  have h2:n/2%2=1:=by omega
  simp[a,b,h1,h2]
theorem Co {n:Nat}(hn:n%2=1):mu (n-1) n=n/2:=by
 unfold mu;have:sm (fun k=>neg n ((n-1)*k)) (n/2)=sm (fun _=>1) (n/2):=bI _ (fun k h1 h2=>by
  unfold neg;have e:(n-1)*k=n*(k-1)+(n-k):=by
   obtain⟨j,rfl⟩:∃j,k=j+1:=⟨k-1,by omega⟩
   obtain⟨i,rfl⟩:∃i,n=i+1:=⟨n-1,by omega⟩
   simp only[h9];have:i+1- (j+1)=i-j:=by omega
   rw[this];have hij:j≤i:=by omega
   obtain⟨d,rfl⟩:=Nat.le.dest hij;rw[Nat.add_sub_cancel_left];grind
  rw[e,bw,hC (by omega),if_pos (by omega)])
 rw[this,kJ,p3]
def Pr (p:Nat):Prop:=2≤p∧∀d,d∣p→d=1∨d=p
theorem Pr.cop {p x:Nat}(hp:Pr p)(h:x%p≠0):Nat.gcd x p=1:=by
 rcases hp.2 _ (e7 x p)with e|e
 ·exact e
 ·exact absurd (q5 (by have:=q7 x p;rwa[e]at this)) h
theorem Pr.unit {p x:Nat}(hp:Pr p)(h1:1≤x)(h2:x<p):x%p≠0:=by rw[hC h2];omega
theorem Pr.mul {p x y:Nat}(hp:Pr p)(hx:x%p≠0)(hy:y%p≠0):(x*y)%p≠0:=by
 intro h;have hd:=zE h;have:=Nat.Coprime.dvd_of_dvd_mul_left (show Nat.Coprime p x by rw[Nat.Coprime,o1];exact hp.cop hx) hd;exact hy (q5 this)
theorem Pr.cancel {p x y z:Nat}(hp:Pr p)(hx:x%p≠0)(h:(x*y)%p=(x*z)%p):y%p=z%p:=by
 have hcop:Nat.Coprime p x:=by rw[Nat.Coprime,o1];exact hp.cop hx
 rcases Nat.le_total y z with q|q
 ·have:(x*(z-y))%p=0:=by rw[cb];exact o2 h.symm
  have hd:=Nat.Coprime.dvd_of_dvd_mul_left hcop (zE this);obtain⟨k,hk⟩:=hd;have:z=y+p*k:=by omega
  rw[this,ba]
 ·have:(x*(y-z))%p=0:=by rw[cb];exact o2 h
  have hd:=Nat.Coprime.dvd_of_dvd_mul_left hcop (zE this);obtain⟨k,hk⟩:=hd;have:y=z+p*k:=by omega
  rw[this,ba]
theorem Pr.div {p x c:Nat}(hp:Pr p)(hx:x%p≠0)(hc:c%p≠0):∃y,1≤y∧y<p∧(x*y)%p=c%p:=by
 have h2:=hp.1;have hperm:((List.range' 1 (p-1)).map fun y=>(x*y)%p).Perm (List.range' 1 (p-1)):=by
  refine ah ?_ hU (fun z hz=>?_) (by simp)
  ·rw[List.Nodup,c7];refine List.Pairwise.imp_of_mem ?_ (hU (s:=1) (n:=p-1));intro a b ha hb hne e;rw[hK]at ha hb;have:=hp.cancel hx e;rw[hC (by omega),hC (by omega)]at this;exact hne this
  ·obtain⟨y,hy,rfl⟩:=n4.mp hz;rw[hK]at hy⊢;have h:=hp.mul hx (hp.unit (x:=y) (by omega) (by omega));have:=hS (x*y) (show 0<p by omega);omega
 have hm:c%p∈List.range' 1 (p-1):=by rw[hK];have:=hS c (show 0<p by omega);omega
 obtain⟨y,hy,e⟩:=n4.mp (hperm.mem_iff.mpr hm);rw[hK]at hy;exact⟨y,by omega,by omega,e⟩
theorem yd {p c:Nat}(σ:Nat→Nat):∀(m:Nat) (L:List Nat),L.length≤m→L.Nodup→(∀x∈L,σ x∈L∧σ x≠x∧σ (σ x)=x∧(x*σ x)%p=c%p)→L.length%2=0∧L.prod%p=c^(L.length/2)%p
 |_,[],_,_,_=>by simp
 |0,x::L,h,_,_=>by simp at h
 |m+1,x::T,hm,hn,hs=>by
  obtain⟨hx,hT⟩:=List.nodup_cons.mp hn;obtain⟨s1,s2,s3,s4⟩:=hs x (by simp);have hy:σ x∈T:=by
   rcases u4.mp s1 with h|h
   ·exact absurd h s2
   ·exact h
  have hle:(T.erase (σ x)).length=T.length-1:=x6 hy;have hpos:=k5 hy;have hnd:(T.erase (σ x)).Nodup:=hT.erase _;have hmem:∀z∈T.erase (σ x),z∈T∧z≠σ x:=fun z hz=>⟨List.mem_of_mem_erase hz,fun e=>by subst e;exact(List.Nodup.not_mem_erase hT) hz⟩
  obtain⟨i1,i2⟩:=yd (p:=p) (c:=c) σ m (T.erase (σ x)) (by simp at hm;omega) hnd (fun z hz=>by
   obtain⟨z1,z2⟩:=hmem z hz;obtain⟨t1,t2,t3,t4⟩:=hs z (by simp[z1]);refine⟨?_,t2,t3,t4⟩;have n1:σ z≠x:=fun e=>z2 (by rw[←e,t3]);have n2:σ z≠σ x:=fun e=>hx (by have:=congrArg σ e;rw[t3,s3]at this;rw[←this];exact z1);rcases u4.mp t1 with h|h
   ·exact absurd h n1
   ·exact(c8 n2).mpr h)
  have hprod:(x::T).prod=(x*σ x)*(T.erase (σ x)).prod:=by have:=(List.perm_cons_erase hy).prod_nat;rw[cx,this,cx,hM]
  have hl:(x::T).length=(T.erase (σ x)).length+2:=by simp;omega
  rw[hl,hprod];refine⟨by omega,?_⟩;rw[hP,s4,i2,←hP,show((T.erase (σ x)).length+2)/2=(T.erase (σ x)).length/2+1 by omega,o0,hE]
theorem nN (a b:List Nat):(a++b).prod=a.prod*b.prod:=by
 induction a with
 |nil=>simp
 |cons x a ih=>simp[ih,hM]
theorem Db {p:Nat}(hp:Pr p)(h3:3≤p):(List.range' 1 (p-1)).prod%p=(p-1)%p:=by
 have inv:∀x,2≤x→x≤p-2→∃y,2≤y∧y≤p-2∧y≠x∧(x*y)%p=1%p:=by
  intro x h1 h2;obtain⟨y,y1,y2,y3⟩:=hp.div (hp.unit (x:=x) (by omega) (by omega)) (hp.unit (x:=1) (by omega) (by omega));have n1:y≠1:=by rintro rfl;rw[bz,hC (by omega),hC (by omega)]at y3;omega
  have n2:y≠p-1:=by
   rintro rfl;have e:x*(p-1)+x=x*p:=by
    obtain⟨q,rfl⟩:∃q,p=q+1:=⟨p-1,by omega⟩
    simp[Nat.mul_succ]
   have e2:(x*(p-1)+x)%p=0:=by rw[e,Nat.mul_mod_left]
   rw[b9,y3,hC (show 1<p by omega),hC (show x<p by omega),hC (by omega)]at e2;omega
  have n3:y≠x:=by
   rintro rfl;have e:(y-1)*(y+1)+1=y*y:=by
    obtain⟨q,rfl⟩:∃q,y=q+1:=⟨y-1,by omega⟩
    simp only[h9];grind
   have e2:((y-1)*(y+1))%p≠0:=hp.mul (hp.unit (by omega) (by omega)) (hp.unit (by omega) (by omega));rw[←e]at y3;have:=hS ((y-1)*(y+1)) (show 0<p by omega);rw[b9,hC (show 1<p by omega)]at y3;rcases o4 ((y-1)*(y+1)%p+1) p with q|q
   ·rw[hC q]at y3;omega
   ·have:(y-1)*(y+1)%p+1=p:=by omega
    rw[this,Nat.mod_self]at y3;omega
  exact⟨y,by omega,by omega,n3,y3⟩
 have hu:∀x y z,2≤x→x≤p-2→2≤y→y≤p-2→2≤z→z≤p-2→(x*y)%p=1%p→(x*z)%p=1%p→y=z:=by intro x y z x1 x2 y1 y2 z1 z2 e1 e2;have:=hp.cancel (hp.unit (x:=x) (by omega) (by omega)) (e1.trans e2.symm);rwa[hC (by omega),hC (by omega)]at this
 let σ:Nat→Nat:=fun x=>if h:2≤x∧x≤p-2 then Classical.choose (inv x h.1 h.2)else 0
 have hσ:∀x,2≤x→x≤p-2→2≤σ x∧σ x≤p-2∧σ x≠x∧(x*σ x)%p=1%p:=by intro x h1 h2;have:=Classical.choose_spec (inv x h1 h2);simp only[σ,dif_pos (And.intro h1 h2)];exact this
 have hmid:=(yd (p:=p) (c:=1) σ _ (List.range' 2 (p-3)) (hW _) hU (fun x hx=>by rw[hK]at hx;obtain⟨a1,a2,a3,a4⟩:=hσ x (by omega) (by omega);obtain⟨b1,b2,b3,b4⟩:=hσ (σ x) a1 a2;refine⟨by rw[hK];omega,a3,?_,a4⟩;exact hu (σ x) _ _ a1 a2 b1 b2 (by omega) (by omega) b4 (by rw[hE];exact a4))).2;rw[Nat.one_pow]at hmid;have hsplit:List.range' 1 (p-1)=1::(List.range' 2 (p-3)++[p-1]):=by
  obtain⟨q,rfl⟩:∃q,p=q+3:=⟨p-3,by omega⟩
  have e1:q+3-1=(q+1)+1:=by omega
  rw[e1,List.range'_succ,c6];have e2:q+3-3=q:=by omega
  rw[e2];congr 2;congr 1;omega
 rw[hsplit,cx,nN,p3,hP,hmid];simp
theorem iX (f:Nat→Nat):∀n,((List.range' 1 (n+1)).map f).prod=((List.range' 1 n).map f).prod*f (n+1):=by
 intro n;rw[c6,y0,nN,Nat.add_comm 1 n];simp
theorem Ds {p n:Nat}(hp:Pr p)(h3:3≤p)(hodd:p%2=1)(hn:n%p≠0):n^(p/2)%p=(p-1)^mu n p%p:=by
 have hc:=hp.cop hn;have step:∀h,h≤p/2→(n^h*((List.range' 1 h).map fun k=>k).prod)%p=((p-1)^sm (fun k=>neg p (n*k)) h*((List.range' 1 h).map fun k=>ro p (n*k)).prod)%p:=by
  intro h;induction h with
  |zero=>intro _;rfl
  |succ h ih=>
   intro hh;have ih:=ih (by omega);rw[iX,iX];simp only[sm];have hlt:=hS (n*(h+1)) (show 0<p by omega);have e1:n^(h+1)*((List.map (fun k=>k) (List.range' 1 h)).prod*(h+1))=(n^h*(List.map (fun k=>k) (List.range' 1 h)).prod)*(n*(h+1)):=by rw[o0];grind
   have e2:(p-1)^(sm (fun k=>neg p (n*k)) h+neg p (n*(h+1)))*((List.map (fun k=>ro p (n*k)) (List.range' 1 h)).prod*ro p (n*(h+1)))=((p-1)^sm (fun k=>neg p (n*k)) h*(List.map (fun k=>ro p (n*k)) (List.range' 1 h)).prod)*((p-1)^neg p (n*(h+1))*ro p (n*(h+1))):=by rw[Nat.pow_add];grind
   rw[e1,e2,hP,ih];have e3:(n*(h+1))%p=((p-1)^neg p (n*(h+1))*ro p (n*(h+1)))%p:=by
    unfold neg ro;split
    ·rw[ew];generalize(n*(h+1))%p=r at*;have e4:(p-1)*(p-r)=p*(p-r-1)+r:=by
      obtain⟨q,rfl⟩:∃q,p=q+r+1:=⟨p-r-1,by omega⟩
      have a1:q+r+1-r=q+1:=by omega
      rw[a1];simp only[h9];grind
     rw[e4,bw,hC hlt]
    ·rw[k8,p3,ev]
   rw[e3,←hP]
 have h:=step (p/2) (hW _);have hperm:((List.range' 1 (p/2)).map fun k=>ro p (n*k)).Perm (List.range' 1 (p/2)):=by
  refine ah ?_ hU (fun x hx=>?_) (by simp)
  ·rw[List.Nodup,c7];refine List.Pairwise.imp_of_mem ?_ (hU (s:=1) (n:=p/2));intro a b ha hb hne e;rw[hK]at ha hb;exact hne (kz hodd hc (by omega) (by omega) (by omega) (by omega) e)
  ·obtain⟨k,hk,rfl⟩:=n4.mp hx;rw[hK]at hk⊢;have:=qQ hodd hc (show 1≤k by omega) (by omega);omega
 rw[hperm.prod_nat,List.map_id']at h;have hu:∀h,h<p→((List.range' 1 h).prod)%p≠0:=by
  intro h;induction h with
  |zero=>intro _;simp;omega
  |succ h ih=>intro hh;rw[c6,nN];exact hp.mul (ih (by omega)) (by simpa using hp.unit (x:=1+h) (by omega) (by omega))
 exact hp.cancel (hu (p/2) (by omega)) (by rw[hE,h,hE];rfl)
theorem lx {p n:Nat}(hp:Pr p)(h3:3≤p)(hodd:p%2=1)(hn:n%p≠0):(∃x,1≤x∧x<p∧(x*x)%p=n%p)↔mu n p%2=0:=by
 constructor
 ·rintro⟨x,x1,x2,x3⟩;have hx:=hp.cop (hp.unit x1 x2);have:=zL hodd hx hx;rw[←uR,x3,uR]at this;omega
 ·intro hm;apply Classical.byContradiction;intro hno;have inv:∀x,1≤x→x<p→∃y,1≤y∧y<p∧(x*y)%p=n%p:=fun x h1 h2=>hp.div (hp.unit h1 h2) hn
  let σ:Nat→Nat:=fun x=>if h:1≤x∧x<p then Classical.choose (inv x h.1 h.2)else 0
  have hσ:∀x,1≤x→x<p→1≤σ x∧σ x<p∧(x*σ x)%p=n%p:=by intro x h1 h2;have:=Classical.choose_spec (inv x h1 h2);simp only[σ,dif_pos (And.intro h1 h2)];exact this
  have hprod:=(yd (p:=p) (c:=n) σ _ (List.range' 1 (p-1)) (hW _) hU (fun x hx=>by rw[hK]at hx;obtain⟨a1,a2,a3⟩:=hσ x (by omega) (by omega);obtain⟨b1,b2,b3⟩:=hσ (σ x) a1 a2;refine⟨by rw[hK];omega,fun e=>hno ⟨x,by omega,by omega,by rw[e]at a3;exact a3⟩,?_,a3⟩;have:=hp.cancel (hp.unit a1 a2) (b3.trans (by rw[hE];exact a3.symm));rwa[hC b2,hC (by omega)]at this)).2;rw[Db hp h3,List.length_range',show(p-1)/2=p/2 by omega,Ds hp h3 hodd hn]at hprod;obtain⟨k,hk⟩:∃k,mu n p=2*k:=⟨mu n p/2,by omega⟩
  have hsq:(p-1)*(p-1)=p*(p-2)+1:=by
   obtain⟨q,rfl⟩:∃q,p=q+2:=⟨p-2,by omega⟩
   have a1:q+2-1=q+1:=by omega
   have a2:q+2-2=q:=by omega
   rw[a1,a2];grind
  have hone:∀k,(p-1)^(2*k)%p=1%p:=by
   intro k;induction k with
   |zero=>rfl
   |succ k ih=>rw[show 2*(k+1)=2*k+1+1 by omega,o0,o0,hM,hP,ih,hsq,bw,←hP]
  rw[hk,hone,hC (show p-1<p by omega),hC (show 1<p by omega)]at hprod;omega
open Go Go.Proofs.Yteaakcmkpacpaaa.Ev
theorem kA {n:Int}(h1: -9223372036854775808≤n)(h2:n<9223372036854775808):aA n=n:=by
 simp only[aA,IntKind.wrap];simp[IntKind.bits,IntKind.signed];omega
theorem uA {n:Int}(h1:0≤n)(h2:n<18446744073709551616):pA n=n:=by
 simp only[pA,IntKind.wrap];simp[IntKind.bits,IntKind.signed];omega
theorem uu {x:Nat}(h:x<18446744073709551616)(k:Nat)(hk:k≤32):qD .u64 (x:Int) ((2^k-1:Nat):Int)=((x%2^k:Nat):Int):=by
 have hp:(2:Nat)^k≤2^32:=Nat.pow_le_pow_right (by decide) hk;have hp0:0<(2:Nat)^k:=l6 (by decide);have t1:(BitVec.ofInt 64 (x:Int)).toNat=x:=by simp[BitVec.toNat_ofInt];omega
 have t2:(BitVec.ofInt 64 ((2^k-1:Nat):Int)).toNat=2^k-1:=by rw[BitVec.toNat_ofInt];omega
 have e:(BitVec.ofInt 64 (x:Int)&&& BitVec.ofInt 64 ((2^k-1:Nat):Int)).toNat=x%2^k:=by rw[BitVec.toNat_and,t1,t2,Nat.and_two_pow_sub_one_eq_mod]
 have hlt:x%2^k<2^k:=hS _ hp0;show IntKind.wrap .u64 ((BitVec.ofInt 64 (x:Int)&&& BitVec.ofInt 64 ((2^k-1:Nat):Int)).toNat:Int)=_;rw[e];have w:IntKind.wrap .u64 ((x%2^k:Nat):Int)=pA ((x%2^k:Nat):Int):=rfl;rw[w,uA (by omega) (by omega)]
theorem Cg {x:Nat}(h:x<18446744073709551616):qD .u64 (x:Int) 1=((x%2:Nat):Int):=uu h 1 (by decide)
theorem Do {x:Nat}(h:x<18446744073709551616):qD .u64 (x:Int) 3=((x%4:Nat):Int):=uu h 2 (by decide)
theorem Ef {x:Nat}(h:x<18446744073709551616):qD .u64 (x:Int) 7=((x%8:Nat):Int):=uu h 3 (by decide)
def nM (m:Nat):Int:=if m%2=0 then 1 else-1
theorem B7 (a b:Nat):nM (a+b)=nM a*nM b:=by
 unfold nM;rw[b9];rcases(show a%2=0∨a%2=1 by omega)with h|h<;>rcases(show b%2=0∨b%2=1 by omega)with k|k<;>rw[h,k]<;>decide
theorem xZ {a b:Nat}(h:a%2=b%2):nM a=nM b:=by unfold nM;rw[h]
theorem B8 (m:Nat):nM m=1∨nM m= -1:=by unfold nM;split<;>simp
theorem tl (N:Nat){k:Nat}(h:k<18446744073709551616)(hk:k%2=1):Q78.f N (k:Int)=some (nM (mu 2 k)):=by
 unfold Q78.f;rw[Ef h];have hm:=ag hk;unfold nM;rw[hm];rcases(show k%8=1∨k%8=3∨k%8=5∨k%8=7 by omega)with e|e|e|e<;>rw[e]<;>rfl
theorem Bc (N:Nat){k:Nat}(hk:k%2=1)(hk2:k<18446744073709551616):∀(n b:Nat) (s:Int),1≤b→b<n→b<18446744073709551616→Nat.gcd b k=1→(s=1∨s= -1)→
  ∃(s':Int) (b':Nat),(s'=1∨s'= -1)∧b'%2=1∧b'≤b∧Nat.gcd b' k=1∧s'*nM (mu b' k)=s*nM (mu b k)∧∀{R:Type} (K:Int→Int→Int→Option R),Q79.l19 N n s (k:Int) (b:Int) K=K s' (k:Int) (b':Int):=by
 intro n;induction n with
 |zero=>intro b s h1 h2;omega
 |succ n ih=>
  intro b s h1 h2 h3 hc hs;rcases(show b%2=1∨b%2=0 by omega)with e|e
  ·refine⟨s,b,hs,e,hW _,hc,rfl,fun K=>?_⟩;rw[Q79.l19,Cg h3,e];rfl
  ·obtain⟨c,rfl⟩:∃c,b=2*c:=⟨b/2,by omega⟩
   have hcc:Nat.gcd c k=1:=Nat.Coprime.coprime_mul_left hc;have h2k:=vL hk;have hst:s*nM (mu 2 k)=1∨s*nM (mu 2 k)= -1:=by rcases hs with q|q<;>rcases B8 (mu 2 k)with w|w<;>rw[q,w]<;>simp
   obtain⟨s',b',r1,r2,r3,r4,r5,r6⟩:=ih c (s*nM (mu 2 k)) (by omega) (by omega) (by omega) hcc hst;refine⟨s',b',r1,r2,by omega,r4,?_,fun K=>?_⟩
   ·rw[r5,xZ (zL hk h2k hcc),B7];grind
   ·rw[Q79.l19,Cg h3,e];have w:aA (s*nM (mu 2 k))=s*nM (mu 2 k):=kA (by omega) (by omega);have e1:Int.fdiv ((2*c:Nat):Int) (2^1)=(c:Int):=by
     rw[Int.fdiv_eq_ediv_of_nonneg _ (by decide)];omega
    have e2:(((0:Nat):Int)==0)=true:=rfl;rw[e2,cond_true,tl N hk2 hk,hB,w,e1];exact r6 K
theorem Al (N:Nat)(hN:8589934600<N):∀(n b k:Nat) (s:Int),b<n→b<k→k%2=1→k<4294967296→Nat.gcd b k=1→(s=1∨s= -1)→∀{R:Type} (K:Int→Int→Option R),Q79.l18 N n s (k:Int) (b:Int) K=K (s*nM (mu b k)) 1:=by
 intro n;induction n with
 |zero=>intro b k s h1;omega
 |succ n ih=>
  intro b k s h1 h2 h3 h4 hc hs R K;by_cases hb:b=0
  ·subst hb;rw[Nat.gcd_zero_left]at hc;subst hc;have:mu 0 1=0:=rfl;rw[Q79.l18,this];have e:nM 0=1:=rfl;rw[e,Int.mul_one];rfl
  ·obtain⟨s',b',r1,r2,r3,r4,r5,r6⟩:=Bc N h3 (by omega) N b s (by omega) (by omega) (by omega) hc hs;have c1:((b:Int) != 0)=true:=by simp;omega
   have c2:((b':Int)==0)=false:=by simp;omega
   have hcb:Nat.gcd k b'=1:=by rw[o1];exact r4
   have hmod:Nat.gcd (k%b') b'=1:=by rw[←eu,o1];exact hcb
   have hlt:=hS k (show 0<b' by omega);have et:Int.tmod (k:Int) (b':Int)=((k%b':Nat):Int):=by rw[hD (by omega)];rfl
   have hrec:=rv r2 h3 r4;have hmm:=uR k b';rw[Q79.l18,c1,cond_true,r6];rw[Do (show b'<18446744073709551616 by omega),Do (show k<18446744073709551616 by omega)];by_cases hq:b'%4=3∧k%4=3
   ·rw[if_pos hq]at hrec;have hw:aA (0-s')= -s':=by rw[kA (by omega) (by omega)];omega
    have f1:(((b'%4:Nat):Int)==3)=true:=by rw[hq.1];rfl
    have f2:(((k%4:Nat):Int)==3)=true:=by rw[hq.2];rfl
    rw[f1,cond_true,f2,cond_true,c2,p2,cond_true,hw,et];rw[ih (k%b') b' (-s') (by omega) (by omega) r2 (by omega) hmod (by omega),hmm,←r5];congr 1;have:nM (mu b' k)= -nM (mu k b'):=by unfold nM;split<;>split<;>omega
    rw[this];grind
   ·rw[if_neg hq]at hrec;have hsame:nM (mu b' k)=nM (mu k b'):=xZ (by omega);have rL:Q79.l18 N n s' (b':Int) ((k%b':Nat):Int) K=K (s*nM (mu b k)) 1:=by
     rw[ih (k%b') b' s' (by omega) (by omega) r2 (by omega) hmod r1,hmm,←r5,hsame]
    by_cases f1:b'%4=3
    ·have f2:¬k%4=3:=fun e=>hq ⟨f1,e⟩;have g1:(((b'%4:Nat):Int)==3)=true:=by rw[f1];rfl
     have g2:(((k%4:Nat):Int)==3)=false:=by simp;omega
     rw[g1,cond_true,g2,cond_false,c2,p2,cond_true,et];exact rL
    ·have g1:(((b'%4:Nat):Int)==3)=false:=by simp;omega
     rw[g1,cond_false,c2,p2,cond_true,et];exact rL
def rs (a:Int)(n:Nat):Nat:=(a%(n:Int)).toNat
theorem sQ (a:Int){n:Nat}(hn:0<n):((rs a n:Nat):Int)=a%(n:Int):=by
 have:=Int.emod_nonneg a (show(n:Int)≠0 by omega);unfold rs;omega
theorem yj (a:Int){n:Nat}(hn:0<n):rs a n<n:=by
 have h1:=sQ a hn;have h2:=Int.emod_lt_of_pos a (show 0<(n:Int) by omega);omega
theorem aQ {N:Nat}(hN:8589934600<N){a:Int}{n:Nat}(a0: -4611686018427387904≤a)(a1:a≤4611686018427387904)(hn:n%2=1)(hn2:n<4294967296)(hc:Nat.gcd (rs a n) n=1):Q79.f N a (n:Int)=some (nM (mu (rs a n) n)):=by
 have hp:0<n:=by omega
 have hr:=sQ a hp;have hlt:=yj a hp;obtain⟨m,rfl⟩:∃m,N=m+1:=⟨N-1,by omega⟩
 unfold Q79.f;have c1:((n:Int)==0)=false:=by simp;omega
 have c2:decide ((n:Int)<0)=false:=decide_eq_false (by omega);have w:pA (n:Int)=(n:Int):=uA (by omega) (by omega);have c3:(((n%2:Nat):Int)==0)=false:=by rw[hn];rfl
 have c4:((1:Int)==0)=false:=rfl;have c5:((1:Int) != 1)=false:=rfl;rw[c1,cond_false,c2,cond_false,w,Q79.l10,Cg (show n<18446744073709551616 by omega),c3,cond_false,c4,cond_false,c1,p2,cond_true];have key:∀r:Int,r=((rs a n:Nat):Int)→(Q79.l18 (m+1) (m+1) 1 (n:Int) r (fun y44 y45=>bif y45 != 1 then some 0 else some y44))=some (nM (mu (rs a n) n)):=by intro r e;subst e;rw[Al (m+1) hN (m+1) (rs a n) n 1 (by omega) hlt hn hn2 hc (.inl rfl),c5,cond_false,Int.one_mul]
 by_cases ha:a<0
 ·have wa:pA a=a+18446744073709551616:=by
   simp only[pA,IntKind.wrap];simp[IntKind.bits,IntKind.signed];omega
  have wn:pA (0- (a+18446744073709551616))= -a:=by simp only[pA,IntKind.wrap];simp[IntKind.bits,IntKind.signed];omega
  have t1:Int.tmod (-a) (n:Int)=(-a)%(n:Int):=hD (by omega);have p0:=Int.emod_nonneg (-a) (show(n:Int)≠0 by omega);have p1:=Int.emod_lt_of_pos (-a) (show 0<(n:Int) by omega);have w2:pA ((n:Int)- (-a)%(n:Int))=(n:Int)- (-a)%(n:Int):=uA (by omega) (by omega);have t2:Int.tmod ((n:Int)- (-a)%(n:Int)) (n:Int)=a%(n:Int):=by
   rw[hD (by omega)];have e:(n:Int)- (-a)%(n:Int)=a+(n:Int)*((-a)/(n:Int)+1):=by
    have:=Int.mul_ediv_add_emod (-a) (n:Int);have e2:(n:Int)*((-a)/(n:Int)+1)=(n:Int)*((-a)/(n:Int))+n:=by grind
    omega
   rw[e,e6]
  rw[decide_eq_true ha,cond_true,wa,wn,t1,w2,t2];exact key _ hr.symm
 ·have wa:pA a=a:=uA (by omega) (by omega);have t1:Int.tmod a (n:Int)=a%(n:Int):=hD (by omega);rw[decide_eq_false ha,cond_false,wa,t1];exact key _ hr.symm
theorem lp {N:Nat}(hN:8589934600<N){a:Int}{p:Nat}(a0:0<a)(a1:a≤4611686018427387904)(hp:Pr p)(h3:3≤p)(hodd:p%2=1)(hp2:p≤65536)(h8:p≠8)(hc:rs a p≠0):Q89.f N a (p:Int)=some (nM (mu (rs a p) p)):=by
 have hpp:0<p:=by omega
 have hr:=sQ a hpp;have hlt:=yj a hpp;have hu:rs a p%p≠0:=by rw[hC hlt];exact hc
 have hsq:=lx hp h3 hodd hu;unfold Q89.f;have c1:((p:Int)== -4)=false:=by simp<;>omega
 have c2:((p:Int)==8)=false:=by simp<;>omega
 have c3:((p:Int)== -8)=false:=by simp<;>omega
 rw[c1,cond_false,c2,cond_false,c3,cond_false];have test:∀x:Nat,x<p→((Int.tmod (aA (aA ((x:Int)*(x:Int))-a)) (p:Int)==0)=true↔(x*x)%p=rs a p%p):=by
  intro x hx;have hxx:(x:Int)*(x:Int)≤65536*65536:=Int.mul_le_mul (by omega) (by omega) (by omega) (by omega);have hx0:0≤(x:Int)*(x:Int):=x4 (by omega) (by omega);have w1:aA ((x:Int)*(x:Int))=(x:Int)*(x:Int):=kA (by omega) (by omega);have w2:aA ((x:Int)*(x:Int)-a)=(x:Int)*(x:Int)-a:=kA (by omega) (by omega);rw[w1,w2,beq_iff_eq,←Int.dvd_iff_tmod_eq_zero];have e1:((x*x:Nat):Int)=(x:Int)*(x:Int):=by simp
  rw[←e1];constructor
  ·intro h;have:=p6.mpr (Int.emod_eq_zero_of_dvd h);rw[←hr]at this;have e2:((rs a p:Nat):Int)=((rs a p%p:Nat):Int):=by rw[hC hlt]
   rw[e2]at this;exact Int.ofNat_inj.mp (by rw[bb];exact this)
  ·intro h;have h2:((x*x%p:Nat):Int)=((rs a p%p:Nat):Int):=by rw[h]
   rw[hC hlt,hr,bb]at h2;exact a7 (p6.mp h2)
 have loop:∀(n k:Nat),k≤p→p-k<n→1≤k→(∀x,1≤x→x<k→(x*x)%p≠rs a p%p)→Q89.l15 (R:=Int) N n a (p:Int) (k:Int) (fun(_:Unit)=>some (-1)) (fun y7=>some y7)=some (nM (mu (rs a p) p)):=by
  intro n;induction n with
  |zero=>intro k _ h;omega
  |succ n ih=>
   intro k h1 h2 h3' h4;have c4:((p:Int)==0)=false:=by simp;omega
   by_cases hk:k<p
   ·have w:aA ((k:Int)+1)=((k+1:Nat):Int):=by rw[kA (by omega) (by omega)];simp
    rw[Q89.l15,decide_eq_true (show(k:Int)<(p:Int) by omega),cond_true,c4,p2,cond_true];by_cases hq:(k*k)%p=rs a p%p
    ·rw[(test k hk).mpr hq,cond_true];have:mu (rs a p) p%2=0:=hsq.mp ⟨k,h3',hk,hq⟩;unfold nM;rw[if_pos this]
    ·have hf:(Int.tmod (aA (aA ((k:Int)*(k:Int))-a)) (p:Int)==0)=false:=by
      cases hb:(Int.tmod (aA (aA ((k:Int)*(k:Int))-a)) (p:Int)==0)
      ·rfl
      ·exact absurd ((test k hk).mp hb) hq
     rw[hf,cond_false,w];exact ih (k+1) (by omega) (by omega) (by omega) (fun x x1 x2=>by
      by_cases e:x=k
      ·subst e;exact hq
      ·exact h4 x x1 (by omega))
   ·rw[Q89.l15,decide_eq_false (show ¬(k:Int)<(p:Int) by omega),cond_false];have:¬mu (rs a p) p%2=0:=fun h=>by
     obtain⟨x,x1,x2,x3⟩:=hsq.mpr h;exact h4 x x1 (by omega) x3
    unfold nM;rw[if_neg this]
 exact loop N 1 (by omega) (by omega) (hW _) (fun x x1 x2=>by omega)
theorem lh {N:Nat}(hN:8589934600<N){a:Int}{p:Nat}(a0:0<a)(a1:a≤4611686018427387904)(hp:Pr p)(h3:3≤p)(hodd:p%2=1)(hp2:p≤65536)(hc:rs a p≠0):Q79.f N a (p:Int)=Q89.f N a (p:Int):=by
 have hlt:=yj a (show 0<p by omega);rw[lp hN a0 a1 hp h3 hodd hp2 (by omega) hc,aQ hN (by omega) a1 hodd (by omega) (hp.cop (by rw[hC hlt];exact hc))]
theorem oh {n:Nat}(hn:n%2=1):mu (n-1) n%2=if n%4=1 then 0 else 1:=by
 rw[Co hn];rcases(show n%4=1∨n%4=3 by omega)with e|e
 ·rw[if_pos e];omega
 ·rw[if_neg (by omega)];omega
theorem wP {n:Nat}(hn:1≤n):Nat.gcd (n-1) n=1:=by
 obtain⟨m,rfl⟩:∃m,n=m+1:=⟨n-1,by omega⟩
 simp
theorem jw {x n:Nat}{a:Int}(hn:0<n)(hc:Nat.gcd x n=1)(h:(x:Int)%(n:Int)=a%(n:Int)):rs a n=x%n∧Nat.gcd (rs a n) n=1:=by
 have hr:=sQ a hn;have e:rs a n=x%n:=by
  have:((rs a n:Nat):Int)=((x%n:Nat):Int):=by rw[hr,←h,bb]
  exact Int.ofNat_inj.mp this
 refine⟨e,?_⟩;rw[e,←eu,o1];exact hc
theorem B5 {N:Nat}(hN:8589934600<N){n:Nat}(hn:n%2=1)(hn2:n<4294967296):Q79.f N (-4) (n:Int)=Q89.f N (n:Int) (-4):=by
 have h1:1≤n:=by omega
 have h2:=vL hn;have h22:Nat.gcd (2*2) n=1:=Nat.Coprime.mul_left h2 h2;have hc:Nat.gcd ((2*2)*(n-1)) n=1:=Nat.Coprime.mul_left h22 (wP h1);obtain⟨e1,e2⟩:=jw (a:= -4) (show 0<n by omega) hc (by
  have e:(((2*2)*(n-1):Nat):Int)= -4+(n:Int)*4:=by
   obtain⟨m,rfl⟩:∃m,n=m+1:=⟨n-1,by omega⟩
   simp;omega
  rw[e,e6])
 rw[aQ hN (by omega) (by omega) hn hn2 e2,e1,uR];have m1:=zL hn h22 (wP h1);have m2:=zL hn h2 h2;have m3:=oh hn;unfold Q89.f nM;have t:Int.tmod (n:Int) 4=((n%4:Nat):Int):=by rw[hD (by omega)];rfl
 have c:((-4:Int)== -4)=true:=rfl;rw[c,cond_true,t];rcases(show n%4=1∨n%4=3 by omega)with e|e
 ·rw[if_pos e]at m3;rw[e,if_pos (by omega)];rfl
 ·rw[if_neg (by omega)]at m3;rw[e,if_neg (by omega)];rfl
theorem Cv {N:Nat}(hN:8589934600<N){n:Nat}(hn:n%2=1)(hn2:n<4294967296):Q79.f N 8 (n:Int)=Q89.f N (n:Int) 8:=by
 have h2:=vL hn;have h22:Nat.gcd (2*2) n=1:=Nat.Coprime.mul_left h2 h2;have hc:Nat.gcd ((2*2)*2) n=1:=Nat.Coprime.mul_left h22 h2;obtain⟨e1,e2⟩:=jw (a:=8) (show 0<n by omega) hc rfl;rw[aQ hN (by omega) (by omega) hn hn2 e2,e1,uR];have m1:=zL hn h22 h2;have m2:=zL hn h2 h2;have m3:=ag hn;unfold Q89.f nM;have t:Int.tmod (n:Int) 8=((n%8:Nat):Int):=by rw[hD (by omega)];rfl
 have c:((8:Int)== -4)=false:=rfl;have c':((8:Int)==8)=true:=rfl;rw[c,cond_false,c',cond_true,t];rcases(show n%8=1∨n%8=3∨n%8=5∨n%8=7 by omega)with e|e|e|e
 ·rw[if_pos (by omega)]at m3;rw[e,if_pos (by omega)];rfl
 ·rw[if_neg (by omega)]at m3;rw[e,if_neg (by omega)];rfl
 ·rw[if_neg (by omega)]at m3;rw[e,if_neg (by omega)];rfl
 ·rw[if_pos (by omega)]at m3;rw[e,if_pos (by omega)];rfl
theorem B6 {N:Nat}(hN:8589934600<N){n:Nat}(hn:n%2=1)(hn2:n<4294967296):Q79.f N (-8) (n:Int)=Q89.f N (n:Int) (-8):=by
 have h1:1≤n:=by omega
 have h2:=vL hn;have h22:Nat.gcd (2*2) n=1:=Nat.Coprime.mul_left h2 h2;have h222:Nat.gcd ((2*2)*2) n=1:=Nat.Coprime.mul_left h22 h2;have hc:Nat.gcd ((2*2)*2*(n-1)) n=1:=Nat.Coprime.mul_left h222 (wP h1);obtain⟨e1,e2⟩:=jw (a:= -8) (show 0<n by omega) hc (by
  have e:(((2*2)*2*(n-1):Nat):Int)= -8+(n:Int)*8:=by
   obtain⟨m,rfl⟩:∃m,n=m+1:=⟨n-1,by omega⟩
   simp;omega
  rw[e,e6])
 rw[aQ hN (by omega) (by omega) hn hn2 e2,e1,uR];have m0:=zL hn h222 (wP h1);have m1:=zL hn h22 h2;have m2:=zL hn h2 h2;have m3:=ag hn;have m4:=oh hn;unfold Q89.f nM;have t:Int.tmod (n:Int) 8=((n%8:Nat):Int):=by rw[hD (by omega)];rfl
 have c:((-8:Int)== -4)=false:=rfl;have c':((-8:Int)==8)=false:=rfl;have c'':((-8:Int)== -8)=true:=rfl;rw[c,cond_false,c',cond_false,c'',cond_true,t];rcases(show n%8=1∨n%8=3∨n%8=5∨n%8=7 by omega)with e|e|e|e
 ·rw[if_pos (by omega)]at m3 m4;rw[e,if_pos (by omega)];rfl
 ·rw[if_neg (by omega)]at m3 m4;rw[e,if_pos (by omega)];rfl
 ·rw[if_neg (by omega)]at m3;rw[if_pos (by omega)]at m4;rw[e,if_neg (by omega)];rfl
 ·rw[if_pos (by omega)]at m3;rw[if_neg (by omega)]at m4;rw[e,if_neg (by omega)];rfl
inductive Sy:Int→Prop
 |m4:Sy (-4)
 |p8:Sy 8
 |m8:Sy (-8)
 |pr (p:Nat) (hp:Pr p) (h3:3≤p) (ho:p%2=1) (hb:p≤65536):Sy (p:Int)
noncomputable def E7 (N:Nat)(n q:Int):Option Int:=if q= -4∨q=8∨q= -8 then Q79.f N q n else Q79.f N n q
theorem gN {n q:Int}(n0:0<n)(hq:q= -4∨q=8∨q= -8)(hc:Int.gcd n q=1):n.toNat%2=1:=by
 rcases(show n%2=0∨n%2=1 by omega)with e|e
 ·exfalso;have h1:(2:Int)∣n:=a7 e;have h2:(2:Int)∣q:=by rcases hq with h|h|h<;>subst h<;>decide
  have h3:(2:Int)∣((Int.gcd n q:Nat):Int):=Int.dvd_coe_gcd h1 h2;rw[hc]at h3;exact absurd h3 (by decide)
 ·omega
theorem gV {N:Nat}(hN:8589934600<N){n q:Int}(hq:Sy q)(n0:0<n)(n1:n<4294967296)(hc:Int.gcd n q=1):E7 N n q=Q89.f N n q:=by
 have en:((n.toNat:Nat):Int)=n:=by omega
 unfold E7;cases hq with
 |m4=>have ho:=gN n0 (.inl rfl) hc;rw[if_pos (.inl rfl)];have:=B5 hN ho (show n.toNat<4294967296 by omega);rwa[en]at this
 |p8=>have ho:=gN n0 (.inr (.inl rfl)) hc;rw[if_pos (.inr (.inl rfl))];have:=Cv hN ho (show n.toNat<4294967296 by omega);rwa[en]at this
 |m8=>have ho:=gN n0 (.inr (.inr rfl)) hc;rw[if_pos (.inr (.inr rfl))];have:=B6 hN ho (show n.toNat<4294967296 by omega);rwa[en]at this
 |pr p hp h3 ho hb=>
  have hne:¬((p:Int)= -4∨(p:Int)=8∨(p:Int)= -8):=by omega
  rw[if_neg hne];refine lh hN n0 (by omega) hp h3 ho hb (fun h=>?_);have hr:=sQ n (show 0<p by omega);rw[h]at hr;have hd:(p:Int)∣n:=a7 hr.symm;have h4:(p:Int)∣((Int.gcd n (p:Int):Nat):Int):=Int.dvd_coe_gcd hd (Int.dvd_refl _);rw[hc]at h4;have:=Int.le_of_dvd (by decide) h4;omega
noncomputable def gT (a c s q:Int):Int:=if Int.gcd a q=1 then a else if Int.gcd c q=1 then c else s
theorem gS (N:Nat){R:Type}{n:Nat}{q a c s:Int}(hq:Sy q){i:Nat}(hi:i<3){v:Int}(hv:[a,c,s].getD i 0=v){u w:Int}(hg:Q35.f N v q=some (((Int.gcd v q:Nat):Int),u,w))(k0:Unit→Option R)(kr:Int→Option R):
  Q84.l2 N (n+1) q a c s (i:Int) k0 kr=if Int.gcd v q=1 then(E7 N v q).bind kr else Q84.l2 N n q a c s ((i+1:Nat):Int) k0 kr:=by
 have c1:decide ((i:Int)<3)=true:=decide_eq_true (by omega);have c2:decide (0≤(i:Int))=true:=decide_eq_true (by omega);have w1:aA ((i:Int)+1)=((i+1:Nat):Int):=by rw[kA (by omega) (by omega)];simp
 rw[Q84.l2];simp only[c1,c2,cond_true,hI,aE,hv,hg,hB,w1];by_cases h:Int.gcd v q=1
 ·have h1:(((Int.gcd v q:Nat):Int) != 1)=false:=by rw[h];rfl
  rw[h1,cond_false,if_pos h];unfold E7;by_cases e1:q= -4
  ·have f1:(q== -4)=true:=by simpa using e1
   rw[f1,cond_true,cond_true,if_pos (.inl e1)]
  ·have f1:(q== -4)=false:=by simpa using e1
   by_cases e2:q=8
   ·have f2:(q==8)=true:=by simpa using e2
    rw[f1,cond_false,f2,cond_true,cond_true,if_pos (.inr (.inl e2))]
   ·have f2:(q==8)=false:=by simpa using e2
    by_cases e3:q= -8
    ·have f3:(q== -8)=true:=by simpa using e3
     rw[f1,cond_false,f2,cond_false,f3,cond_true,if_pos (.inr (.inr e3))]
    ·have f3:(q== -8)=false:=by simpa using e3
     rw[f1,cond_false,f2,cond_false,f3,cond_false,if_neg (by omega)]
 ·have h1:(((Int.gcd v q:Nat):Int) != 1)=true:=by simp;omega
  rw[h1,cond_true,if_neg h]
theorem iS {N:Nat}(hN:8589934600<N){q a b c:Int}(hq:Sy q)(ha:0<a)(hc:0<c)(hs:0<a+b+c)(a1:a<4294967296)(c1:c<4294967296)(b0: -4294967296≤b)(b1:b≤4294967296)(s1:a+b+c<4294967296)
  (hg:∀v,v=a∨v=c∨v=a+b+c→∃u w,Q35.f N v q=some (((Int.gcd v q:Nat):Int),u,w))(hone:Int.gcd a q=1∨Int.gcd c q=1∨Int.gcd (a+b+c) q=1):
  Q84.f N a b c q=Q89.f N (gT a c (a+b+c) q) q:=by
 obtain⟨m,rfl⟩:∃m,N=m+4:=⟨N-4,by omega⟩
 obtain⟨u1,v1,g1⟩:=hg a (.inl rfl);obtain⟨u2,v2,g2⟩:=hg c (.inr (.inl rfl));obtain⟨u3,v3,g3⟩:=hg (a+b+c) (.inr (.inr rfl));have w:aA (aA (a+b)+c)=a+b+c:=by rw[kA (n:=a+b) (by omega) (by omega),kA (by omega) (by omega)]
 have rL:∀o:Option Int,o.bind (fun y18=>some y18)=o:=fun o=>by cases o<;>rfl
 unfold Q84.f gT;rw[w];have z:(0:Int)=((0:Nat):Int):=rfl;rw[show Q84.l2 (R:=Int) (m+4) (m+4) q a c (a+b+c) 0=Q84.l2 (m+4) (m+3+1) q a c (a+b+c) ((0:Nat):Int)from rfl];rw[gS (m+4) hq (show 0<3 by omega) (v:=a) rfl g1];by_cases h1:Int.gcd a q=1
 ·rw[if_pos h1,if_pos h1,rL,gV hN hq ha a1 h1]
 ·rw[if_neg h1,if_neg h1];rw[show Q84.l2 (R:=Int) (m+4) (m+3)=Q84.l2 (m+4) (m+2+1)from rfl,gS (m+4) hq (show 1<3 by omega) (v:=c) rfl g2];by_cases h2:Int.gcd c q=1
  ·rw[if_pos h2,if_pos h2,rL,gV hN hq hc c1 h2]
  ·rw[if_neg h2,if_neg h2];have h3:Int.gcd (a+b+c) q=1:=by rcases hone with h|h|h<;>first|exact absurd h h1|exact absurd h h2|exact h
   rw[show Q84.l2 (R:=Int) (m+4) (m+2)=Q84.l2 (m+4) (m+1+1)from rfl,gS (m+4) hq (show 2<3 by omega) (v:=a+b+c) rfl g3,if_pos h3,rL,gV hN hq hs s1 h3]
end Go.Proofs.Yteaakcmkpacpaaa.Jac
namespace Go.Proofs.Yteaakcmkpacpaaa.Gen
open Go Go.Proofs.Yteaakcmkpacpaaa.Ev
open Go.Proofs.Yteaakcmkpacpaaa.Cls (dY sU)
abbrev N0:Nat:=8589934700
theorem Cf {d:Int}{l:List Int}(hd:dY d)(h:Q72.f N0 d=some l):Q75.f N0 d=some (l,0):=by
 obtain⟨R,r1,r2,r3,r4,r5⟩:=sU (N:=N0) (by decide) hd;rw[r4]at h;obtain rfl:=Option.some.inj h;exact r3
theorem Dm:Q75.f N0 (-20)=some ([1,0,5,2,2,3],0):=Cf (d:= -20) (l:=[1,0,5,2,2,3]) ⟨by decide,by decide,by decide⟩ (by kernel_rfl)
theorem Dt:Q93.f N0 (-20)=some ([[1,0,5],[2,2,3]],0):=by
 unfold Q93.f;rw[Dm]
 kernel_rfl
theorem yX:Q100.f N0=some true:=by
 unfold Q100.f;rw[Dt]
 kernel_rfl
open Go.Proofs.Yteaakcmkpacpaaa.Pure (kA nP)
open Go.Proofs.Yteaakcmkpacpaaa.Cls (dY)
open Go.Proofs.Yteaakcmkpacpaaa.Jac (Sy)
theorem pa:∀{a b:List Nat},a.Pairwise (· < ·)→b.Pairwise (· < ·)→(∀x,x∈a↔x∈b)→a=b
 | [],[],_,_,_=>rfl
 | [],y::b,_,_,h=>by have:=(h y).mpr (by simp);simp at this
 |x::a,[],_,_,h=>by have:=(h x).mp (by simp);simp at this
 |x::a,y::b,ha,hb,h=>by
  have a1:=c9.mp ha;have b1:=c9.mp hb;have e:x=y:=by
   have h1:=(h x).mp (by simp);have h2:=(h y).mpr (by simp);simp only[u4]at h1 h2;rcases h1 with h1|h1
   ·exact h1
   ·rcases h2 with h2|h2
    ·exact h2.symm
    ·have:=a1.1 y h2;have:=b1.1 x h1;omega
  subst e;rw[pa a1.2 b1.2 fun z=>?_];constructor
  ·intro hz;have:=a1.1 z hz;have h1:=(h z).mp (hQ _ hz);simp only[u4]at h1;rcases h1 with h1|h1
   ·omega
   ·exact h1
  ·intro hz;have:=b1.1 z hz;have h1:=(h z).mpr (hQ _ hz);simp only[u4]at h1;rcases h1 with h1|h1
   ·omega
   ·exact h1
theorem oa:∀{l:PL} {x:Nat×Nat},x∈l→0<x.2→x.1∣pE l
 |y::l,x,h,h0=>by
  simp only[pE];rcases u4.mp h with rfl|h
  ·obtain⟨k,hk⟩:∃k,x.2=k+1:=⟨x.2-1,by omega⟩
   rw[hk,o0,hM];exact w4 ⟨pE l,rfl⟩ ⟨_,hE _ _⟩
  ·exact w4 (oa h h0) ⟨_,hE _ _⟩
theorem Fz.mem {n:Nat}{l:PL}(h:Fz n l)(p:Nat):p∈l.map (·.1)↔wF p∧p∣n:=by
 rw[n4];constructor
 ·rintro⟨x,hx,rfl⟩;exact⟨(h.pr x hx).1,h.prod▸oa hx (h.pr x hx).2⟩
 ·rintro⟨hp,hd⟩;rw[←h.prod]at hd;obtain⟨x,h1,h2⟩:=hp.in_prod h.pr hd;exact⟨x,h1,h2⟩
def eI (l:PL):List Nat:=(l.map (·.1)).filter (2< ·)
def ints (l:List Nat):List Int:=l.map fun(x:Nat)=>(x:Int)
theorem wq (a b:List Nat):ints (a++b)=ints a++ints b:=by simp[ints]
theorem bN (a:List Nat):(ints a).length=a.length:=by simp[ints]
theorem yR (N:Nat){d:Int}{l:PL}(hl:l.length<100000){R:Type}(K:Int→List Int→Option R):∀(n i:Nat) (X:List Nat),i≤l.length→l.length-i<n→X.length≤i→
  Q83.l4 N n d (fY l) (l.length:Int) (i:Int) (ints X) K=K d (ints (X++eI (l.drop i)))
 |0,i,X,_,h,_=>by omega
 |n+1,i,X,hi,hn,hX=>by
  rw[Q83.l4,dy];by_cases h:i<l.length
  ·have c1:decide ((i:Int)<(l.length:Int))=true:=decide_eq_true (by omega);have c2:decide (0≤(i:Int))=true:=decide_eq_true (by omega);have e:=(wh h).1;have w:aA ((i:Int)+1)=((i+1:Nat):Int):=eK (by omega);have hr:zA ((ints X).length+1) 8=true:=by rw[bN];simp only[zA,decide_eq_true_eq];omega
   have hd:l.drop i=l[i]::l.drop (i+1):=u0 h;simp only[c1,c2,cond_true,hI,aE,e,w,hr];by_cases hp:2<l[i].1
   ·rw[decide_eq_true (show(l[i].1:Int)>2 by omega),cond_true];have ea:ints X++[(l[i].1:Int)]=ints (X++[l[i].1]):=by rw[wq];rfl
    rw[ea,yR N hl K n (i+1) (X++[l[i].1]) (by omega) (by omega) (by simp;omega),hd];have:eI (l[i]::l.drop (i+1))=l[i].1::eI (l.drop (i+1)):=by unfold eI;rw[q4,a6,if_pos (by simpa using hp)]
    rw[this,w5];rfl
   ·rw[decide_eq_false (show ¬(l[i].1:Int)>2 by omega),cond_false,yR N hl K n (i+1) X (by omega) (by omega) (by omega),hd];have:eI (l[i]::l.drop (i+1))=eI (l.drop (i+1)):=by unfold eI;rw[q4,a6,if_neg (by simpa using hp)]
    rw[this]
  ·have c1:decide ((i:Int)<(l.length:Int))=false:=decide_eq_false (by omega);rw[c1,cond_false];have:l.drop i=[]:=o3 (by omega);rw[this];simp[eI]
theorem vv (N:Nat){R:Type}{p:Nat}(hp:1<p)(d:Int)(X:List Int)(K:Int→Int→Int→List Int→Option R):∀(f j m:Nat),¬p∣m→0<m→j<f→p^j*m<1000000→
  Q88.l8 N f d ((p^j*m:Nat):Int) (p:Int) X K=K d (m:Int) (p:Int) X
 |0,j,m,_,_,h,_=>by omega
 |f+1,j,m,hd,hm,h,hb=>by
  rw[Q88.l8];simp only[A8 (show 0<p by omega),cond_true];rw[zk,Bq];cases j with
  |zero=>rw[k8,p3,decide_eq_false (fun e=>hd (zE e)),cond_false]
  |succ j=>
   have e:p^(j+1)*m=p*(p^j*m):=by rw[o0,hE (p^j) p,hM]
   have hlt:p^j*m≤p^(j+1)*m:=by rw[e];exact yK _ (by omega)
   rw[decide_eq_true (by rw[e];exact x5 _ _),cond_true,C8,e,bn _ (by omega),Dc (by omega)];exact vv N hp d X K f j m hd hm (by omega) (by omega)
def vT (l:PL):List Nat:=l.map (·.1)
theorem vu {N:Nat}(hN:1000000<N){n0 m0 e:Nat}(hn:n0≤65536)(he:n0=2^e*m0){R:Type}(d:Int)(K:Int→List Int→Option R):∀(f p m:Nat) (l:PL),St m0 p m l→3≤p→p%2=1→(∀x∈l,2<x.1)→p≤n0+4→n0+5-p<f→
  ∃l',Fz m0 l'∧(∀x∈l',2<x.1)∧Q88.l4 N f d ((2^e*m:Nat):Int) (p:Int) (ints (vT l)) K=K d (ints (vT l'))
 |0,p,m,l,_,_,_,_,_,h=>by omega
 |f+1,p,m,l,h,hp,hodd,h2,hpn,hf=>by
  obtain⟨hl1,hl2⟩:=h.len;have hm0:m0≤n0:=by rw[he];exact yK _ (l6 (by decide))
  have hmb:2^e*m≤n0:=by rw[he];exact j3 (hW _) hl2
  rw[Q88.l4];by_cases hs:p≤2^e*m
  ·rw[decide_eq_true (show(p:Int)≤((2^e*m:Nat):Int) by omega),cond_true,A8 (show 0<p by omega),cond_true,zk];have hcop:Nat.Coprime p (2^e):=Nat.Coprime.pow_right e (by
    unfold Nat.Coprime;rcases l7 (by decide) (e7 p 2)|>fun h=>(show Nat.gcd p 2=0∨Nat.gcd p 2=1∨Nat.gcd p 2=2 by omega)with g|g|g
    ·have:=Nat.gcd_pos_of_pos_right p (show 0<2 by decide);omega
    ·exact g
    ·have h3:=q7 p 2;rw[g]at h3;have:=q5 h3;omega)
   obtain⟨j,m',rfl,hd⟩:=vQ (show 1<p by omega) (m+1) m h.pos (by omega);have hm':0<m':=p4 fun e=>by subst e;exact hd (dv _)
   have hst:=h.step (by omega) hd;have hst2:=hst.skip (by omega) (by omega);have w:aA ((p:Int)+2)=((p+2:Nat):Int):=by rw[kA (by omega) (by omega)];omega
   have hd2:¬p∣2^e*m':=fun q=>hd (hcop.dvd_of_dvd_mul_left q);have em:2^e*(p^j*m')=p^j*(2^e*m'):=by rw[←hM,←hM,hE (2^e)]
   rw[em];by_cases h0:0<j
   ·rw[if_pos h0]at hst2;have c:((((p^j*(2^e*m'))%p:Nat):Int) != 0)=false:=by
     rw[bne_eq_false_iff_eq];have:(p^j*(2^e*m'))%p=0:=by
      obtain⟨k,rfl⟩:∃k,j=k+1:=⟨j-1,by omega⟩
      rw[o0,hE (p^k) p,hM];exact x5 _ _
     rw[this];rfl
    have hr:zA ((ints (vT l)).length+1) 8=true:=by rw[bN];simp only[vT,hV,zA,decide_eq_true_eq];omega
    have hj:j<1000000:=by have:=ox (j:=j) (show 1<p by omega);have:=b7 (p^j) hm';omega
    rw[c,cond_false,hr,cond_true,vv N (by omega) d _ _ N j (2^e*m') hd2 (Nat.mul_pos (l6 (by decide)) hm') (by omega) (by rw[←em];omega),w];have ea:ints (vT l)++[(p:Int)]=ints (vT (l++[(p,j)])):=by simp[ints,vT]
    rw[ea];refine vu hN hn he d K f (p+2) m' _ hst2 (by omega) (by omega) (fun x hx=>?_) (by omega) (by omega);simp only[b8,r0]at hx;rcases hx with hx|rfl
    ·exact h2 x hx
    ·simp only;omega
   ·rw[if_neg h0]at hst2;have j0:j=0:=by omega
    subst j0;rw[k8,p3];have c:((((2^e*m')%p:Nat):Int) != 0)=true:=by rw[bne_iff_ne];intro q;exact hd2 (zE (by omega))
    rw[c,cond_true,w];exact vu hN hn he d K f (p+2) m' _ hst2 (by omega) (by omega) h2 (by omega) (by omega)
  ·rw[decide_eq_false (show ¬(p:Int)≤((2^e*m:Nat):Int) by omega),cond_false];have hm1:m≤2^e*m:=yK _ (l6 (by decide));have hone:¬1<m:=fun q=>by have:=h.fr m q (Nat.dvd_refl _);omega
   have hpp:p≤p*p:=yK _ (by omega);have:=h.end (by omega);rw[if_neg hone]at this;exact⟨l,this,h2,rfl⟩
def mS (d:Int):List Int:=
 if d%2≠0 then []else if(-d/4)%4=3 then []else if(-d/4)%4=1∨(-d/4)%8=4 then [-4]else if(-d/4)%8=2 then [-8]else if(-d/4)%8=6 then [8]else [-4,8]
theorem aX {n:Nat}{l:PL}(h:Fz n l)(p:Nat):p∈eI l↔wF p∧p∣n∧2<p:=by
 unfold eI;rw[bt,h.mem];simp[and_assoc]
theorem rh {l:PL}(h:∀x∈l,2<x.1):vT l=eI l:=by
 unfold vT eI;rw[List.filter_eq_self.mpr];intro p hp;obtain⟨x,hx,rfl⟩:=n4.mp hp;simpa using h x hx
theorem oq {n:Nat}{l:PL}(h:Fz n l):(eI l).Pairwise (· < ·):=(c7.mpr h.up).filter _
def rf:Nat→Nat→Nat
 |_,0=>1
 |k,n+1=>k*rf (k+1) n
theorem C3:∀(n k:Nat) (l:PL),l.Pairwise (fun a b=>a.1<b.1)→(∀x∈l,k≤x.1∧0<x.2)→n≤((l.map (·.1)).length)→0<k→rf k n≤pE l
 |0,k,l,_,h,_,hk=>by
  simp only[rf];have:∀l:PL,(∀x∈l,k≤x.1∧0<x.2)→1≤pE l:=by
   intro l;induction l with
   |nil=>intro _;simp[pE]
   |cons x l ih=>intro h;have h1:=(h x (by simp)).1;have:=ih fun y hy=>h y (hQ _ hy);exact Nat.mul_pos (l6 (by omega)) this
  exact this l h
 |n+1,k,[],_,_,h,_=>by simp at h
 |n+1,k,x::l,hu,h,hn,hk=>by
  simp only[rf,pE];have h1:=h x (by simp);have hu2:=c9.mp hu;have ih:=C3 n (k+1) l hu2.2 (fun y hy=>⟨by have:=hu2.1 y hy;omega,(h y (hQ _ hy)).2⟩) (by simp at hn⊢;omega) (by omega);refine j3 ?_ ih;obtain⟨j,hj⟩:∃j,x.2=j+1:=⟨x.2-1,by omega⟩
  rw[hj,o0];have:0<x.1^j:=l6 (by omega);exact Nat.le_trans h1.1 (yK _ this)
theorem B4 (N:Nat)(hN:10<N):Q82.f N=some ([3],4,[1,5,4],8,[-4],[2],8,[-8],[6],8,[8],[0],8,[-4,8]):=rfl
theorem lX {N:Nat}(hN:10<N)(m c:Int)(hc:0<c):∀X∈[[3],[1,5,4],[2],[6],[0]],Q81.f N m X c=some (X.any (fun x=>Int.tmod m c==x),X,c):=by
 obtain⟨k,rfl⟩:∃k,N=k+6:=⟨N-6,by omega⟩
 have hc0:(c==0)=false:=beq_eq_false_iff_ne.mpr (by omega);have w1:aA 1=1:=by decide
 have w2:aA 2=2:=by decide
 have w3:aA 3=3:=by decide
 intro X hX;simp only[u4,List.not_mem_nil,or_false]at hX;unfold Q81.f;rcases hX with rfl|rfl|rfl|rfl|rfl
 ·rcases q:Int.tmod m c==3<;>simp[Q81.l2,hc0,w1,q]
 ·rcases q:Int.tmod m c==1<;>rcases q2:Int.tmod m c==5<;>rcases q3:Int.tmod m c==4<;>simp[Q81.l2,hc0,w1,w2,w3,q,q2,q3]
 ·rcases q:Int.tmod m c==2<;>simp[Q81.l2,hc0,w1,q]
 ·rcases q:Int.tmod m c==6<;>simp[Q81.l2,hc0,w1,q]
 ·rcases q:Int.tmod m c==0<;>simp[Q81.l2,hc0,w1,q]
open Go.Proofs.Yteaakcmkpacpaaa.Pure (kA nP gL ek)
open Go.Proofs.Yteaakcmkpacpaaa.Cls (dY kI gn)
open Go.Proofs.Yteaakcmkpacpaaa.Jac (Sy Pr gT iS)
theorem fz {n:Nat}{l:PL}(h:Fz n l)(hn:n≤65536):(eI l).length≤6:=by
 rcases o4 6 (eI l).length with q|q
 ·exfalso;have e:eI l=(l.filter (fun x=>decide (2<x.1))).map (·.1):=by
   unfold eI;rw[List.filter_map];rfl
  have h1:=C3 7 3 (l.filter (fun x=>decide (2<x.1))) (h.up.filter _) (fun x hx=>by
   have h1:=bt.mp hx;have h2:2<x.1:=by simpa using h1.2
   exact⟨by omega,(h.pr x h1.1).2⟩) (by rw[←e];omega) (by decide)
  have h2:∀l:PL,(∀x∈l,0<x.1)→pE (l.filter (fun x=>decide (2<x.1)))≤pE l:=by
   intro l;induction l with
   |nil=>intro _;simp[pE]
   |cons x l ih=>
    intro h;have i:=ih fun y hy=>h y (hQ _ hy);rw[a6];split
    ·exact j3 (hW _) i
    ·exact Nat.le_trans i (yK _ (l6 (h x (by simp))))
  have h3:=h2 l fun x hx=>by have:=(h.pr x hx).1.1;omega
  rw[h.prod]at h3;have h4:rf 3 7=181440:=by decide
  omega
 ·exact q
theorem tm:∀(f n:Nat),0<n→n<f→∃e m,n=2^e*m∧m%2=1:=fun f n h hf=>by
 obtain⟨j,m,e,hd⟩:=vQ (p:=2) (by decide) f n h hf;exact⟨j,m,e,by
  rcases k6 m with q|q
  ·exact absurd (zE q) hd
  ·exact q⟩
theorem ly (d:Int):mS d=[]∨mS d=[-4]∨mS d=[-8]∨mS d=[8]∨mS d=[-4,8]:=by
 unfold mS;(repeat' split)<;>simp
theorem zf (d:Int):(mS d).length≤2:=by
 rcases ly d with h|h|h|h|h<;>rw[h]<;>decide
theorem Eb (n:Nat):Int.tmod (-(n:Int)) 2= -((n%2:Nat):Int):=by
 rw[Int.neg_tmod];rfl
theorem Ba {d q:Int}(h:q∈mS d):Sy q:=by
 unfold mS at h
 repeat' split at h
 all_goals simp at h
 all_goals first|(subst h;constructor)|(rcases h with rfl|rfl<;>constructor)
theorem aH {l:List Int}(h:l.length≤100){k:Nat}(hk:k≤10):zA (l.length+k) 8=true:=by
 simp only[zA,decide_eq_true_eq];omega
structure Ce (d:Int)(X:List Int):Prop where
 ex:∃l,Fz (-d).toNat l∧X=ints (eI l)++mS d
theorem wQ {N:Nat}(hN:8589934600<N){d:Int}(hd:dY d):∃X,Ce d X∧Q83.f N d=some X∧Q88.f N d=some X:=by
 obtain⟨d0,d1,d4⟩:=hd;obtain⟨n,rfl⟩:∃n:Nat,d= -(n:Int):=⟨(-d).toNat,by omega⟩
 have w0:aA (0- -(n:Int))=(n:Int):=by rw[kA (by omega) (by omega)];omega
 obtain⟨l,hl,ef⟩:=dw (N:=N) (by omega) (n:=n) (by omega) (by omega);have hll:l.length<n+1:=by have:=gX (l:=l) (fun x hx=>⟨(hl.pr x hx).1,(hl.pr x hx).2⟩);rw[hl.prod]at this;omega
 obtain⟨e,m,en,hm⟩:=tm (n+1) n (by omega) (by omega);have hm0:0<m:=by omega
 have hst:St m 3 m []:=⟨.nil,fun x hx=>(by cases hx),by simp[pE],fun k h1 h2=>by
  rcases o4 2 k with q|q
  ·omega
  ·have:k=2:=by omega
   subst this;have:=q5 h2;omega,hm0⟩
 have ho6:=fz hl (by omega);have hodd:∀l',Fz m l'→(∀x∈l',2<x.1)→ints (vT l')=ints (eI l):=fun l' h1 h2=>by
  rw[rh h2];congr 1;refine pa (oq h1) (oq hl) fun p=>?_;rw[aX h1,aX hl];constructor
  ·rintro⟨a,b,c⟩;exact⟨a,en▸w4 b ⟨_,hE _ _⟩,c⟩
  ·rintro⟨a,b,c⟩;refine⟨a,?_,c⟩;rw[en]at b;rcases a.dvd_mul b with h|h
   ·have:=l7 (by decide) (a.dvd_pow h);omega
   ·exact h
 refine⟨ints (eI l)++mS (-(n:Int)),⟨l,by rw[show(-(-(n:Int))).toNat=n by omega];exact hl,rfl⟩,?_,?_⟩
 ·unfold Q83.f;rw[w0,ef];simp only[hB];rw[dy];have h1:=fun K=>yR N (d:= -(n:Int)) (l:=l) (by omega) (R:=List Int) K N 0 [] (by omega) (by omega) (by simp);simp only[y4,ch,bu]at h1;rw[show ints []=[]from rfl]at h1;rw[h1];have ho:(ints (eI l)).length≤100:=by rw[bN];omega
  have hr0:zA (ints (eI l)).length 8=true:=aH ho (Nat.zero_le 10);generalize ints (eI l)=X at*;unfold mS;by_cases h2: -(n:Int)%2≠0
  ·rw[if_pos h2];have:(Int.tmod (-(n:Int)) 2 != 0)=true:=by rw[bne_iff_ne,Eb];omega
   rw[this,cond_true,x7]
  ·rw[if_neg h2];have:(Int.tmod (-(n:Int)) 2 != 0)=false:=by rw[bne_eq_false_iff_eq,Eb];omega
   rw[this,cond_false,w0,B4 N (by omega)];simp only[hB];have wd:aA (Int.tdiv (n:Int) 4)= -(-(n:Int))/4:=by rw[k9 (by omega),kA (by omega) (by omega)];omega
   rw[wd];generalize hk: -(-(n:Int))/4=k;have k0:0≤k:=by omega
   rw[lX (by omega) k 4 (by decide) [3] (by simp),lX (by omega) k 8 (by decide) [1,5,4] (by simp),lX (by omega) k 8 (by decide) [2] (by simp),lX (by omega) k 8 (by decide) [6] (by simp),lX (by omega) k 8 (by decide) [0] (by simp)];have t4:Int.tmod k 4=k%4:=hD k0;have t8:Int.tmod k 8=k%8:=hD k0;simp only[t4,t8,hB];have hh:k%8=0∨k%8=1∨k%8=2∨k%8=3∨k%8=4∨k%8=5∨k%8=6∨k%8=7:=by omega
   rcases hh with h|h|h|h|h|h|h|h
   ·rw[h,show k%4=0 by omega];simp[aH ho]
   ·rw[h,show k%4=1 by omega];simp[aH ho]
   ·rw[h,show k%4=2 by omega];simp[aH ho]
   ·rw[h,show k%4=3 by omega];simp[hr0]
   ·rw[h,show k%4=0 by omega];simp[aH ho]
   ·rw[h,show k%4=1 by omega];simp[aH ho]
   ·rw[h,show k%4=2 by omega];simp[aH ho]
   ·rw[h,show k%4=3 by omega];simp[hr0]
 ·unfold Q88.f;rw[w0];have h1:=fun K=>vu (N:=N) (n0:=n) (m0:=m) (e:=e) (by omega) (by omega) en (R:=List Int) (-(n:Int)) K N 3 m [] hst (by omega) (by omega) (by simp) (by omega) (by omega);simp only[vT,e5,ints]at h1;obtain⟨l',g1,g2,g3⟩:=h1 (fun y20 y21=>
   bif (Int.tmod y20 2) != 0 then
    some y21
   else
   bif (Int.tmod (aA (Int.tdiv (aA (0-y20)) 4)) 4)==3 then
    some y21
   else
   bif (Int.tmod (aA (Int.tdiv (aA (0-y20)) 4)) 4)==1 then
    bif zA (y21.length+1) 8 then
     some (y21++[(-4)])
    else none
   else
   bif (Int.tmod (aA (Int.tdiv (aA (0-y20)) 4)) 8)==4 then
    bif zA (y21.length+1) 8 then
     some (y21++[(-4)])
    else none
   else
   bif (Int.tmod (aA (Int.tdiv (aA (0-y20)) 4)) 8)==2 then
    bif zA (y21.length+1) 8 then
     some (y21++[(-8)])
    else none
   else
   bif (Int.tmod (aA (Int.tdiv (aA (0-y20)) 4)) 8)==6 then
    bif zA (y21.length+1) 8 then
     some (y21++[8])
    else none
   else
   bif zA (y21.length+2) 8 then
    some (y21++[(-4),8])
   else none)
  rw[←en,show((3:Nat):Int)=3 from rfl]at g3;rw[g3];have g4:=hodd l' g1 g2;rw[show(l'.map fun x=>x.1).map (fun(x:Nat)=>(x:Int))=ints (vT l')from rfl,g4];have ho:(ints (eI l)).length≤100:=by rw[bN];omega
  generalize ints (eI l)=X at*;unfold mS;by_cases h2: -(n:Int)%2≠0
  ·rw[if_pos h2];have:(Int.tmod (-(n:Int)) 2 != 0)=true:=by rw[bne_iff_ne,Eb];omega
   rw[this,cond_true,x7]
  ·rw[if_neg h2];have:(Int.tmod (-(n:Int)) 2 != 0)=false:=by rw[bne_eq_false_iff_eq,Eb];omega
   rw[this,cond_false,w0];have wd:aA (Int.tdiv (n:Int) 4)= -(-(n:Int))/4:=by rw[k9 (by omega),kA (by omega) (by omega)];omega
   rw[wd];generalize hk: -(-(n:Int))/4=k;have k0:0≤k:=by omega
   have t4:Int.tmod k 4=k%4:=hD k0;have t8:Int.tmod k 8=k%8:=hD k0;simp only[t4,t8];have hh:k%8=0∨k%8=1∨k%8=2∨k%8=3∨k%8=4∨k%8=5∨k%8=6∨k%8=7:=by omega
   rcases hh with h|h|h|h|h|h|h|h
   ·rw[h,show k%4=0 by omega];simp[aH ho]
   ·rw[h,show k%4=1 by omega];simp[aH ho]
   ·rw[h,show k%4=2 by omega];simp[aH ho]
   ·rw[h,show k%4=3 by omega];simp
   ·rw[h,show k%4=0 by omega];simp[aH ho]
   ·rw[h,show k%4=1 by omega];simp[aH ho]
   ·rw[h,show k%4=2 by omega];simp[aH ho]
   ·rw[h,show k%4=3 by omega];simp
theorem Ce.sy {d:Int}{X:List Int}(h:Ce d X)(hd: -65536≤d)(h0:d<0){q:Int}(hq:q∈X):Sy q:=by
 obtain⟨l,hl,rfl⟩:=h.ex;rcases b8.mp hq with h|h
 ·obtain⟨p,hp,rfl⟩:=n4.mp h;obtain⟨a,b,c⟩:=(aX hl p).mp hp;have hle:=l7 (by omega) b;refine .pr p ⟨by have:=a.1;omega,a.2⟩ (by omega) ?_ (by omega);rcases k6 p with q|q
  ·have:=a.2 2 (zE q);omega
  ·exact q
 ·exact Ba h
theorem Ce.len {d:Int}{X:List Int}(h:Ce d X)(hd: -65536≤d):X.length≤8:=by
 obtain⟨l,hl,rfl⟩:=h.ex;have:=fz hl (by omega);have:=zf d;rw[w6,bN];omega
open Go.Proofs.Yteaakcmkpacpaaa.Pure (kA nP gL ek E6 qi yN oH nH rO mn cg)
open Go.Proofs.Yteaakcmkpacpaaa.NatL (ab dB)
open Go.Proofs.Yteaakcmkpacpaaa.Cls (dY kI gn gf dx xY)
open Go.Proofs.Yteaakcmkpacpaaa.Jac (Sy Pr gT iS vL)
theorem yx {q:Int}(h:Sy q): -8≤q∧q≤65536∧q≠0:=by
 cases h with
 |pr p hp h3 ho hb=>omega
 |_=>decide
theorem B9 {N:Nat}(hN:8589934600<N)(n:Int){q:Int}(hq:Sy q):∃s,Q89.f N n q=some s∧(s=1∨s= -1):=by
 have rL:∀(o:Option Int) (f:Int→Option Int),True:=fun _ _=>trivial;cases hq with
 |m4=>
  unfold Q89.f;cases e:Int.tmod n 4==1
  ·exact⟨-1,by simp[e],.inr rfl⟩
  ·exact⟨1,by simp[e],.inl rfl⟩
 |p8=>
  unfold Q89.f;cases e:Int.tmod n 8==1
  ·cases e2:Int.tmod n 8==7
   ·exact⟨-1,by simp[e,e2],.inr rfl⟩
   ·exact⟨1,by simp[e,e2],.inl rfl⟩
  ·exact⟨1,by simp[e],.inl rfl⟩
 |m8=>
  unfold Q89.f;cases e:Int.tmod n 8==1
  ·cases e2:Int.tmod n 8==3
   ·exact⟨-1,by simp[e,e2],.inr rfl⟩
   ·exact⟨1,by simp[e,e2],.inl rfl⟩
  ·exact⟨1,by simp[e],.inl rfl⟩
 |pr p hp h3 ho hb=>
  unfold Q89.f;have c1:((p:Int)== -4)=false:=beq_eq_false_iff_ne.mpr (by omega);have c2:((p:Int)==8)=false:=beq_eq_false_iff_ne.mpr (by omega);have c3:((p:Int)== -8)=false:=beq_eq_false_iff_ne.mpr (by omega);rw[c1,c2,c3];simp only[cond_false];have go:∀(f x:Nat),x≤p→p-x<f→∃s,Q89.l15 (R:=Int) N f n (p:Int) (x:Int) (fun(_:Unit)=>some (-1)) (fun y7=>some y7)=some s∧(s=1∨s= -1):=by
   intro f;induction f with
   |zero=>intro x _ h;omega
   |succ f ih=>
    intro x hx hf;rw[Q89.l15];by_cases h:x<p
    ·rw[decide_eq_true (show(x:Int)<(p:Int) by omega),A8 (show 0<p by omega)];simp only[cond_true];cases e:Int.tmod (aA (aA ((x:Int)*(x:Int))-n)) (p:Int)==0
     ·rw[cond_false,eK (by omega)];exact ih (x+1) (by omega) (by omega)
     ·exact⟨1,rfl,.inl rfl⟩
    ·rw[decide_eq_false (show ¬(x:Int)<(p:Int) by omega)];exact⟨-1,rfl,.inr rfl⟩
  exact go N 1 (by omega) (by omega)
noncomputable def sv (N:Nat)(a b c q:Int):Int:=(Q89.f N (gT a c (a+b+c) q) q).getD 0
theorem D2 {q:Int}(hq:Sy q):∃π:Int,2≤π∧∀v,Int.gcd v q≠1→π∣v:=by
 have two:∀q:Int,(q.natAbs=2*2∨q.natAbs=2*2*2)→∃π:Int,2≤π∧∀v,Int.gcd v q≠1→π∣v:=by
  intro q hq;refine⟨2,by decide,fun v hv=>?_⟩;rcases k6 v.natAbs with h|h
  ·omega
  ·exfalso;have h2:=vL h;have h22:Nat.gcd (2*2) v.natAbs=1:=Nat.Coprime.mul_left h2 h2;have h222:Nat.gcd (2*2*2) v.natAbs=1:=Nat.Coprime.mul_left h22 h2;apply hv;unfold Int.gcd;rw[o1];rcases hq with e|e<;>rw[e]<;>assumption
 cases hq with
 |m4=>exact two _ (.inl rfl)
 |p8=>exact two _ (.inr rfl)
 |m8=>exact two _ (.inr rfl)
 |pr p hp h3 ho hb=>
  refine⟨p,by omega,fun v hv=>?_⟩;rcases hp.2 _ (e7 v.natAbs p)with e|e
  ·exact absurd e hv
  ·have:=q7 v.natAbs p;rw[e]at this;exact Int.ofNat_dvd_left.mpr this
theorem Cq {a b c q:Int}(hq:Sy q)(hp:qi a b c):Int.gcd a q=1∨Int.gcd c q=1∨Int.gcd (a+b+c) q=1:=by
 obtain⟨π,h2,hd⟩:=D2 hq;by_cases h1:Int.gcd a q=1
 ·exact .inl h1
 ·by_cases h3:Int.gcd c q=1
  ·exact .inr (.inl h3)
  ·by_cases h4:Int.gcd (a+b+c) q=1
   ·exact .inr (.inr h4)
   ·exfalso;have da:=hd a h1;have dc:=hd c h3;have ds:=hd _ h4;have db:π∣b:=by
     have:=Int.dvd_sub (Int.dvd_sub ds da) dc;rwa[show a+b+c-a-c=b by omega]at this
    obtain⟨x,y,z,e⟩:=hp;have:π∣1:=by rw[←e];exact Int.dvd_add (Int.dvd_add (q6 da) (q6 db)) (q6 dc)
    have:=Int.le_of_dvd (by decide) this;omega
structure Fm (d a b c:Int):Prop where
 val:E6 d a b c
 lo: -65536≤d
theorem Fm.bd {d a b c:Int}(h:Fm d a b c):(0<a∧a≤1073741824)∧(-1073741824≤b∧b≤1073741824)∧(0<c∧c≤1073741824)∧0<a+b+c:=by
 obtain⟨⟨⟨a0,a1⟩,⟨b0,b1⟩,c0,c1⟩,ap,d0,d1⟩:=h.val.fine;have hbb:0≤b*b:=by
  rcases Int.le_total 0 b with q|q
  ·exact x4 q q
  ·have:=x4 (show 0≤ -b by omega) (show 0≤ -b by omega);rwa[Int.neg_mul_neg]at this
 have hac:0<a*c:=by
  have:4*a*c=4*(a*c):=by grind
  omega
 have hc:0<c:=by
  rcases Int.lt_or_le 0 c with q|q
  ·exact q
  ·have:=x4 (show 0≤a by omega) (show 0≤ -c by omega);rw[Int.mul_neg]at this;omega
 refine⟨⟨ap,a1⟩,⟨b0,b1⟩,⟨hc,c1⟩,?_⟩;have h3:4*a*(a+b+c)=(2*a+b)*(2*a+b)- (b*b-4*a*c):=by grind
 have hsq:0≤(2*a+b)*(2*a+b):=by
  rcases Int.le_total 0 (2*a+b)with q|q
  ·exact x4 q q
  ·have:=x4 (show 0≤ -(2*a+b) by omega) (show 0≤ -(2*a+b) by omega);rwa[Int.neg_mul_neg]at this
 rcases Int.lt_or_le 0 (a+b+c)with q|q
 ·exact q
 ·have h4:=x4 (show 0≤4*a by omega) (show 0≤ -(a+b+c) by omega);rw[Int.mul_neg]at h4;omega
theorem Fm.lst {d a b c:Int}(h:Fm d a b c):dY d:=by
 have:=dx h.val.fine (by rw[h.val.of.eq];exact h.lo);rwa[h.val.of.eq]at this
theorem po {N:Nat}(hN:8589934600<N){d a b c q:Int}(h:Fm d a b c)(hq:Sy q):Q84.f N a b c q=some (sv N a b c q)∧Q89.f N (gT a c (a+b+c) q) q=some (sv N a b c q)∧(sv N a b c q=1∨sv N a b c q= -1):=by
 obtain⟨⟨a0,a1⟩,⟨b0,b1⟩,⟨c0,c1⟩,s0⟩:=h.bd;obtain⟨s,e,hs⟩:=B9 hN (gT a c (a+b+c) q) hq;obtain⟨q0,q1,_⟩:=yx hq;have hsv:sv N a b c q=s:=by unfold sv;rw[e];rfl
 rw[hsv];refine⟨?_,e,hs⟩;rw[←e];refine iS hN hq a0 c0 s0 (by omega) (by omega) (by omega) (by omega) (by omega) (fun v hv=>?_) (Cq hq h.val.pr);have hv2:0<v∧v≤4294967296:=by rcases hv with rfl|rfl|rfl<;>omega
 have av:ab v≤1099511627776:=by rcases dB v with⟨_,e⟩|⟨_,e⟩<;>rw[e]<;>omega
 have aq:ab q≤1099511627776:=by rcases dB q with⟨_,e⟩|⟨_,e⟩<;>rw[e]<;>omega
 obtain⟨g,x,y,k1,_,_,k2⟩:=ek (N:=N) (by omega) av aq;rw[k1.eg]at k2;exact⟨x,y,k2⟩
def mc (Y:List Int):Int×Int×Int×Int×Int×Int×Int×Int:=(Y.getD 0 0,Y.getD 1 0,Y.getD 2 0,Y.getD 3 0,Y.getD 4 0,Y.getD 5 0,Y.getD 6 0,Y.getD 7 0)
def kB (Y:List Int):List Int:=[Y.getD 0 0,Y.getD 1 0,Y.getD 2 0,Y.getD 3 0,Y.getD 4 0,Y.getD 5 0,Y.getD 6 0,Y.getD 7 0]
theorem zh:∀(Y:List Int),Y.length≤8→(kB Y).take Y.length=Y
 | [],_=>rfl
 | [_],_=>rfl
 | [_,_],_=>rfl
 | [_,_,_],_=>rfl
 | [_,_,_,_],_=>rfl
 | [_,_,_,_,_],_=>rfl
 | [_,_,_,_,_,_],_=>rfl
 | [_,_,_,_,_,_,_],_=>rfl
 | [_,_,_,_,_,_,_,_],_=>rfl
 |_::_::_::_::_::_::_::_::_::_,h=>by simp at h
theorem B0 {Y Z:List Int}(hy:Y.length≤8)(hl:Y.length=Z.length)(h:kB Y=kB Z):Y=Z:=by
 rw[←zh Y hy,←zh Z (by omega),h,hl]
theorem sX {N:Nat}{a b c:Int}{X:List Int}{g:Int→Int}(hg:∀q∈X,Q84.f N a b c q=some (g q))(hl:X.length≤8){R:Type}(K:List Int→List Int→Option R)(Z:List Int):∀(f i:Nat),i≤X.length→X.length-i<f→
  Q85.l3 N f X (X.length:Int) (i:Int) a b c Z ((X.take i).map g++List.replicate (8-i) 0) K=K Z (X.map g++List.replicate (8-X.length) 0)
 |0,i,_,h=>by omega
 |f+1,i,hi,hf=>by
  rw[Q85.l3];by_cases h:i<X.length
  ·have c1:decide ((i:Int)<(X.length:Int))=true:=decide_eq_true (by omega);have c2:decide (0≤(i:Int))=true:=decide_eq_true (by omega);have c3:decide ((i:Int)<8)=true:=decide_eq_true (by omega);have e:X.getD i 0=X[i]:=by rw[pC,hR h];rfl
   have w:aA ((i:Int)+1)=((i+1:Nat):Int):=eK (by omega);simp only[c1,c2,c3,cond_true,hI,aE,e,hg _ (b5 h),hB,w,eh];have es:((X.take i).map g++List.replicate (8-i) 0).set i (g X[i])=(X.take (i+1)).map g++List.replicate (8- (i+1)) 0:=by
    have l1:((X.take i).map g).length=i:=by rw[hV,p7];omega
    rw[r7 _ _ (by omega),l1,bc];have l2:List.replicate (8-i) (0:Int)=0::List.replicate (8- (i+1)) 0:=by rw[show 8-i=(8- (i+1))+1 by omega];rfl
    rw[l2,List.set_cons_zero,xK h,y0,w5];rfl
   rw[es];exact sX hg hl K Z f (i+1) (by omega) (by omega)
  ·have c1:decide ((i:Int)<(X.length:Int))=false:=decide_eq_false (by omega);rw[c1,cond_false,p5 (by omega),show i=X.length by omega]
theorem Az (Y:List Int)(n i:Nat):(Y++List.replicate n 0).getD i 0=Y.getD i 0:=by
 rw[pC,pC];rcases o4 i Y.length with h|h
 ·rw[List.getElem?_append_left h]
 ·rw[x9 h,cu h,List.getElem?_replicate];split<;>rfl
theorem lq {N:Nat}(hN:100<N){a b c:Int}{X:List Int}{g:Int→Int}(hg:∀q∈X,Q84.f N a b c q=some (g q))(hl:X.length≤8):Q85.f N a b c X=some (mc (X.map g)):=by
 unfold Q85.f;have:=sX hg hl (fun y16 y17=>some (((((((((y16.set 0 (y17.getD 0 0)).set 1 (y17.getD 1 0)).set 2 (y17.getD 2 0)).set 3 (y17.getD 3 0)).set 4 (y17.getD 4 0)).set 5 (y17.getD 5 0)).set 6 (y17.getD 6 0)).set 7 (y17.getD 7 0)).getD 0 0,((((((((y16.set 0 (y17.getD 0 0)).set 1 (y17.getD 1 0)).set 2 (y17.getD 2 0)).set 3 (y17.getD 3 0)).set 4 (y17.getD 4 0)).set 5 (y17.getD 5 0)).set 6 (y17.getD 6 0)).set 7 (y17.getD 7 0)).getD 1 0,((((((((y16.set 0 (y17.getD 0 0)).set 1 (y17.getD 1 0)).set 2 (y17.getD 2 0)).set 3 (y17.getD 3 0)).set 4 (y17.getD 4 0)).set 5 (y17.getD 5 0)).set 6 (y17.getD 6 0)).set 7 (y17.getD 7 0)).getD 2 0,((((((((y16.set 0 (y17.getD 0 0)).set 1 (y17.getD 1 0)).set 2 (y17.getD 2 0)).set 3 (y17.getD 3 0)).set 4 (y17.getD 4 0)).set 5 (y17.getD 5 0)).set 6 (y17.getD 6 0)).set 7 (y17.getD 7 0)).getD 3 0,((((((((y16.set 0 (y17.getD 0 0)).set 1 (y17.getD 1 0)).set 2 (y17.getD 2 0)).set 3 (y17.getD 3 0)).set 4 (y17.getD 4 0)).set 5 (y17.getD 5 0)).set 6 (y17.getD 6 0)).set 7 (y17.getD 7 0)).getD 4 0,((((((((y16.set 0 (y17.getD 0 0)).set 1 (y17.getD 1 0)).set 2 (y17.getD 2 0)).set 3 (y17.getD 3 0)).set 4 (y17.getD 4 0)).set 5 (y17.getD 5 0)).set 6 (y17.getD 6 0)).set 7 (y17.getD 7 0)).getD 5 0,((((((((y16.set 0 (y17.getD 0 0)).set 1 (y17.getD 1 0)).set 2 (y17.getD 2 0)).set 3 (y17.getD 3 0)).set 4 (y17.getD 4 0)).set 5 (y17.getD 5 0)).set 6 (y17.getD 6 0)).set 7 (y17.getD 7 0)).getD 6 0,((((((((y16.set 0 (y17.getD 0 0)).set 1 (y17.getD 1 0)).set 2 (y17.getD 2 0)).set 3 (y17.getD 3 0)).set 4 (y17.getD 4 0)).set 5 (y17.getD 5 0)).set 6 (y17.getD 6 0)).set 7 (y17.getD 7 0)).getD 7 0)) [0,0,0,0,0,0,0,0] N 0 (by omega) (by omega);rw[List.take_zero,e5,bu,y4]at this;rw[show List.replicate (8-0) (0:Int)=[0,0,0,0,0,0,0,0]from rfl]at this;rw[this];generalize hY:X.map g++List.replicate (8-X.length) 0=Y;have hy:mc (X.map g)=mc Y:=by rw[←hY];simp only[mc,Az]
 rw[hy];rfl
theorem fX {N:Nat}(hN:8589934600<N){v q:Int}(hv:0<v)(hq:Sy q):Q90.f N v q=some (decide (Int.gcd v q=1)):=by
 obtain⟨q0,q1,q2⟩:=yx hq;have key:∀g:Nat,(((g:Nat):Int)==1)=decide (g=1):=fun g=>by
  by_cases h:g=1
  ·subst h;rfl
  ·rw[decide_eq_false h];exact beq_eq_false_iff_ne.mpr (by omega)
 unfold Q90.f;by_cases h:q<0
 ·rw[decide_eq_true h,kA (by omega) (by omega),gn (by omega) (by omega) (by omega),show(0:Int)-q= -q by omega,Cls.wj];simp only[cond_true,hB];unfold Cls.bC;rw[key]
 ·rw[decide_eq_false h,cond_false,gn (by omega) (by omega) (by omega)];simp only[hB];unfold Cls.bC;rw[key]
theorem ot {N:Nat}(hN:8589934600<N){d a b c:Int}(h:Fm d a b c){X:List Int}(hX:∀q∈X,Sy q)(hl:X.length≤8){R:Type}(K:List Int→Option R):∀(f i:Nat) (A:List Int),i≤X.length→X.length-i<f→A.length≤i→
  Q91.l4 N f X (i:Int) a b c A K=K (A++(X.drop i).map (sv N a b c))
 |0,i,_,_,h,_=>by omega
 |f+1,i,A,hi,hf,hA=>by
  rw[Q91.l4];by_cases hlt:i<X.length
  ·have c1:decide ((i:Int)<(X.length:Int))=true:=decide_eq_true (by omega);have c2:decide (0≤(i:Int))=true:=decide_eq_true (by omega);have e:X.getD i 0=X[i]:=by rw[pC,hR hlt];rfl
   have w:aA ((i:Int)+1)=((i+1:Nat):Int):=eK (by omega);have hq:=hX _ (b5 hlt);obtain⟨⟨a0,a1⟩,⟨b0,b1⟩,⟨c0,c1'⟩,s0⟩:=h.bd;have ws:aA (aA (a+b)+c)=a+b+c:=by rw[kA (n:=a+b) (by omega) (by omega),kA (by omega) (by omega)]
   have hr:zA (A.length+1) 8=true:=aH (by omega) (by omega);simp only[c1,c2,cond_true,hI,aE,e,hB,w,ws,hr,fX hN a0 hq,fX hN c0 hq];have hs:=(po hN h hq).2.1;have hd:X.drop i=X[i]::X.drop (i+1):=u0 hlt;have next:∀s,s=sv N a b c X[i]→Q91.l4 N f X ((i+1:Nat):Int) a b c (A++[s]) K=K (A++(X.drop i).map (sv N a b c)):=fun s hs=>by rw[ot hN h hX hl K f (i+1) (A++[s]) (by omega) (by omega) (by simp;omega),hd,hs,w5];rfl
   unfold gT at hs;by_cases h1:Int.gcd a X[i]=1
   ·rw[if_pos h1]at hs;rw[decide_eq_true h1,hs];simp only[k7,cond_false,hB];exact next _ rfl
   ·rw[if_neg h1]at hs;rw[decide_eq_false h1];by_cases h2:Int.gcd c X[i]=1
    ·rw[if_pos h2]at hs;rw[decide_eq_true h2,hs];simp only[k7,p2,cond_true,cond_false,hB];exact next _ rfl
    ·rw[if_neg h2]at hs;rw[decide_eq_false h2,hs];simp only[p2,cond_true,hB];exact next _ rfl
  ·have c1:decide ((i:Int)<(X.length:Int))=false:=decide_eq_false (by omega);rw[c1,cond_false,o3 (by omega),e5,x7]
theorem Aw {N:Nat}(hN:8589934600<N){d a b c:Int}(h:Fm d a b c):∃X,Ce d X∧X.length≤8∧(∀q∈X,Sy q)∧Q83.f N d=some X∧
  Q85.f N a b c X=some (mc (X.map (sv N a b c)))∧Q86.f N a b c=some (X.map (sv N a b c),0)∧
  Q105.f N a b c=some (0,X.length,kB (X.map (sv N a b c)),0)∧Q91.f N a b c=some (X.map (sv N a b c)):=by
 have hL:=h.lst;obtain⟨X,hX,e1,e2⟩:=wQ hN hL;have h8:=hX.len hL.1;have hsy:∀q∈X,Sy q:=fun q hq=>hX.sy hL.1 (by have:=hL.2.1;omega) hq;have es:=lq (N:=N) (by omega) (g:=sv N a b c) (fun q hq=>(po hN h (hsy q hq)).1) h8;have ck:Q38.f N a b c=some 0:=by
  rcases nH N a b c with⟨_,k⟩|⟨k,_⟩
  ·exact k
  ·exact absurd h.val.fine k
 have dk:=(xY N h.val.fine).1;rw[h.val.of.eq]at dk;have co:=rO (N:=N) (by omega) h.val.fine.inb;rw[(Pure.gd a b c).mp h.val.pr]at co;have dlo:decide (d< -65536)=false:=decide_eq_false (by have:=h.lo;omega);have hlen:((decide (0≤(X.length:Int))&&decide ((X.length:Int)≤(X.length:Int)))&&decide ((X.length:Int)≤8))=true:=by simp;omega
 have tk:=zh (X.map (sv N a b c)) (by rw[hV];exact h8);rw[hV]at tk;refine⟨X,hX,h8,hsy,e1,es,?_,?_,?_⟩
 ·unfold Q86.f;rw[ck];simp only[hB,bne_self_eq_false,cond_false,dk,dlo,co,e1,es,hlen,cond_true,aE];exact congrArg (fun l=>some (l,(0:Int))) tk
 ·unfold Q105.f;rw[ck];simp only[hB,bne_self_eq_false,cond_false,dk,dlo,co,e1,es,hlen,cond_true,aE];rfl
 ·unfold Q91.f;have:=yN h.val.fine.inb;rw[h.val.of.eq]at this;rw[this,e2];simp only[hB];have:=ot hN h hsy h8 (fun y17=>some y17) N 0 [] (by omega) (by omega) (by simp);rw[y4]at this;rw[this];rfl
open Go.Proofs.Yteaakcmkpacpaaa.Pure (kA gL E6 qi gd)
open Go.Proofs.Yteaakcmkpacpaaa.Cls (dY kI Rd Cl dh oy zM sG sI rI aZ)
theorem fQ (l:List Int)(ks:List (List Int)):eJ l ks=true↔l∈ks:=by
 unfold eJ;cases h:kE l ks 0 with
 |none=>simpa using rI l ks 0 h
 |some j=>simpa using cz (sI l ks 0 j h).2
theorem zK {l:List Int}{ks:List (List Int)}(h:l∈ks):qB l ks=ks:=by unfold qB;rw[(fQ l ks).mpr h];rfl
theorem aL {l:List Int}{ks:List (List Int)}(h:l∉ks):qB l ks=ks++[l]:=by
 unfold qB;cases hb:eJ l ks
 ·rfl
 ·exact absurd ((fQ l ks).mp hb) h
theorem ru (k l:List Int)(ks:List (List Int)):k∈qB l ks↔k∈ks∨k=l:=by
 by_cases h:l∈ks
 ·rw[zK h];constructor
  ·exact .inl
  ·rintro(h1|rfl)
   ·exact h1
   ·exact h
 ·rw[aL h];simp
theorem xn {α:Type}{l:List α}(h:l.Nodup){i j:Nat}(hi:i<l.length)(hj:j<l.length)(e:l[i]=l[j]):i=j:=by
 rcases Nat.lt_trichotomy i j with h1|h1|h1
 ·exact absurd e (au.mp h i j hi hj h1)
 ·exact h1
 ·exact absurd e.symm (au.mp h j i hj hi h1)
section
variable (key:R3→List Int)
def jE (P:List R3):List (List Int):=P.foldl (fun ks x=>qB (key x) ks) []
theorem aO (P:List R3)(x:R3):jE key (P++[x])=qB (key x) (jE key P):=by simp[jE,List.foldl_append]
theorem ee:∀(P:List R3) (acc:List (List Int)) (k:List Int),k∈P.foldl (fun ks x=>qB (key x) ks) acc↔k∈acc∨∃x∈P,key x=k
 | [],acc,k=>by simp
 |y::P,acc,k=>by
  rw[bs,ee P,ru];constructor
  ·rintro((h|rfl)|⟨x,h1,h2⟩)
   ·exact .inl h
   ·exact .inr ⟨y,by simp,rfl⟩
   ·exact .inr ⟨x,by simp[h1],h2⟩
  ·rintro(h|⟨x,h1,h2⟩)
   ·exact .inl (.inl h)
   ·rcases u4.mp h1 with rfl|h1
    ·exact .inl (.inr h2.symm)
    ·exact .inr ⟨x,h1,h2⟩
theorem jW (P:List R3)(k:List Int):k∈jE key P↔∃x∈P,key x=k:=by
 unfold jE;rw[ee];simp
theorem wV:∀(P:List R3) (acc:List (List Int)),acc.Nodup→(P.foldl (fun ks x=>qB (key x) ks) acc).Nodup
 | [],acc,h=>h
 |y::P,acc,h=>by
  rw[bs];refine wV P _ ?_;by_cases hm:key y∈acc
  ·rw[zK hm];exact h
  ·rw[aL hm];rw[List.nodup_append];exact⟨h,by simp,fun a ha b hb=>by simp only[r0]at hb;subst hb;rintro rfl;exact hm ha⟩
theorem kg (P:List R3):(jE key P).Nodup:=wV key P [] List.nodup_nil
theorem ed:∀(P:List R3) (acc:List (List Int)),(P.foldl (fun ks x=>qB (key x) ks) acc).length≤acc.length+P.length
 | [],acc=>by simp
 |y::P,acc=>by
  rw[bs];have:=ed P (qB (key y) acc);have h2:(qB (key y) acc).length≤acc.length+1:=by unfold qB;cases eJ (key y) acc<;>simp
  simp only[b6];omega
theorem iW (P:List R3):(jE key P).length≤P.length:=by have:=ed key P [];simpa[jE]using this
def eS (P:List R3)(k:List Int):List R3:=P.filter (fun x=>decide (key x=k))
def wL (P:List R3):List (List Int):=(jE key P).map fun k=>oB (eS key P k)
theorem qN {P:List R3}{x:R3}{k:List Int}(h:key x≠k):eS key (P++[x]) k=eS key P k:=by
 unfold eS;rw[List.filter_append,a6,if_neg (by simpa using h)];simp
theorem pN (P:List R3)(x:R3):eS key (P++[x]) (key x)=eS key P (key x)++[x]:=by
 unfold eS;rw[List.filter_append,a6,if_pos (by simp)];simp
theorem ib {P:List R3}{k:List Int}(h:k∉jE key P):eS key P k=[]:=by
 unfold eS;rw[List.filter_eq_nil_iff];intro x hx;simp only[decide_eq_true_eq];intro e;exact h ((jW key P k).mpr ⟨x,hx,e⟩)
theorem eZ (x:R3):oB [x]=[x.1,x.2.1,x.2.2]:=rfl
theorem Ag {P:List R3}{x:R3}(h:key x∉jE key P):wL key (P++[x])=wL key P++[[x.1,x.2.1,x.2.2]]:=by
 unfold wL;rw[aO,aL h,y0,q4,e5,pN,ib key h];congr 1;refine r8 fun k hk=>?_;rw[qN];rintro rfl;exact h hk
theorem Ah {P:List R3}{x:R3}{j:Nat}(h:(jE key P)[j]?=some (key x)):wL key (P++[x])=(wL key P).set j ((wL key P).getD j []++[x.1,x.2.1,x.2.2]):=by
 have hm:key x∈jE key P:=cz h;obtain⟨hj,hk⟩:=ae.mp h;have e:wL key (P++[x])=(jE key P).map fun k=>oB (eS key (P++[x]) k):=by unfold wL;rw[aO,zK hm]
 rw[e];refine List.ext_getElem (by simp[wL]) fun i h1 h2=>?_;rw[List.getElem_map,List.getElem_set];by_cases hij:j=i
 ·subst hij;rw[if_pos rfl,hk,pN,lI,eZ];congr 1;rw[pC];unfold wL;rw[aa,h];rfl
 ·rw[if_neg hij];unfold wL;rw[List.getElem_map,qN];intro e2;exact hij (xn (kg key P) hj (by simpa[wL]using h2) (by rw[hk,e2]))
theorem jU (P:List R3):(wL key P).length=(jE key P).length:=by simp[wL]
theorem bf (P:List R3)(k:List Int):(eS key P k).length≤P.length:=cv _ _
end
def x8 (n:Nat):List Int:=(List.range n).map fun(i:Nat)=>(i:Int)
theorem rl (n:Nat):x8 n++[(n:Int)]=x8 (n+1):=by simp[x8,List.range_succ]
theorem Ai {n j:Nat}(h:j<n):(x8 n).getD j 0=(j:Int):=by
 rw[pC];simp[x8,List.getElem?_range h]
theorem dO {n:Nat}(h:n≤60000):zA n 24=true:=by simp only[zA,decide_eq_true_eq];omega
theorem uS {N:Nat}{X:List Int}{L:List R3}{s:R3→List Int}(hs:∀x∈L,Q85.f N x.1 x.2.1 x.2.2 X=some (mc (s x)))(hl:L.length≤45000){R:Type}(K:List (List Int)→Option R):∀(f i:Nat),i≤L.length→L.length-i<f→
  Q106.l8 N f X (L.length:Int) (i:Int) (jE (fun x=>kB (s x)) (L.take i)) (x8 (jE (fun x=>kB (s x)) (L.take i)).length) (wL (fun x=>kB (s x)) (L.take i)) (oB L) K=K (wL (fun x=>kB (s x)) L)
 |0,i,_,h=>by omega
 |f+1,i,hi,hf=>by
  rw[Q106.l8];by_cases h:i<L.length
  ·have c1:decide ((i:Int)<(L.length:Int))=true:=decide_eq_true (by omega);have c2:decide (0≤(i:Int))=true:=decide_eq_true (by omega);obtain⟨e1,e2,e3⟩:=zM h;have w:aA ((i:Int)+1)=((i+1:Nat):Int):=eK (by omega);have et:L.take (i+1)=L.take i++[L[i]]:=xK h;have ih:=uS hs hl K f (i+1) (by omega) (by omega);simp only[c1,c2,cond_true,hI,aE,sG,e1,e2,e3,w];generalize hkey:(fun x=>kB (s x))=key at*;obtain⟨t,ht,hk⟩:∃t,Q85.f N L[i].1 L[i].2.1 L[i].2.2 X=some t∧ [t.1,t.2.1,t.2.2.1,t.2.2.2.1,t.2.2.2.2.1,t.2.2.2.2.2.1,t.2.2.2.2.2.2.1,t.2.2.2.2.2.2.2]=key L[i]:=⟨_,hs _ (b5 h),by rw[←hkey];rfl⟩
   simp only[ht,hB,hk];have hkl:=iW key (L.take i);have htl:(L.take i).length=i:=by rw[p7];omega
   rw[et,aO]at ih;by_cases hm:key L[i]∈jE key (L.take i)
   ·rw[(fQ _ _).mpr hm];obtain⟨j,hj⟩:∃j,kE (key L[i]) (jE key (L.take i)) 0=some j:=by
     cases hp:kE (key L[i]) (jE key (L.take i)) 0 with
     |none=>exact absurd hm (rI _ _ _ hp)
     |some j=>exact⟨j,rfl⟩
    have hj2:(jE key (L.take i))[j]?=some (key L[i]):=by have:=(sI _ _ _ _ hj).2;rwa[Nat.sub_zero]at this
    obtain⟨hjl,_⟩:=ae.mp hj2;have hg:vE (key L[i]) (jE key (L.take i)) (x8 (jE key (L.take i)).length)=(j:Int):=by unfold vE;rw[hj];exact Ai hjl
    have c3:decide ((j:Int)<((wL key (L.take i)).length:Int))=true:=decide_eq_true (by rw[jU];omega);have c4:decide (0≤(j:Int))=true:=decide_eq_true (by omega);have hrow:(((wL key (L.take i)).getD j []).length+3)/3≤60000:=by
     have:(wL key (L.take i)).getD j []=oB (eS key (L.take i) (key L[i])):=by rw[pC];unfold wL;rw[aa,hj2];rfl
     rw[this,iE];have:=bf key (L.take i) (key L[i]);omega
    simp only[k7,cond_false,hg,c3,c4,hI,cond_true,aE,dO hrow,show Nat.beq j j=true from by simp];rw[zK hm,Ah key hj2]at ih;exact ih
   ·have hmf:eJ (key L[i]) (jE key (L.take i))=false:=by
     cases hb:eJ (key L[i]) (jE key (L.take i))
     ·rfl
     ·exact absurd ((fQ _ _).mp hb) hm
    have hgl:=jU key (L.take i);have hg1:(wL key (L.take i)++[[]]).getD (wL key (L.take i)).length []=[]:=by rw[pC,x9 (by omega),bc];rfl
    have hg2:∀v,(wL key (L.take i)++[[]]).set (wL key (L.take i)).length v=wL key (L.take i)++[v]:=fun v=>by rw[r7 _ _ (by omega),bc];rfl
    have c3:decide (((wL key (L.take i)).length:Int)<((wL key (L.take i)++[[]]).length:Int))=true:=decide_eq_true (by rw[w6];simp only[b6,List.length_nil];omega);have c4:decide (0≤((wL key (L.take i)).length:Int))=true:=decide_eq_true (by omega);have hput:oI (key L[i]) ((wL key (L.take i)).length:Int) (jE key (L.take i)) (x8 (jE key (L.take i)).length)=x8 (qB (key L[i]) (jE key (L.take i))).length:=by
     unfold oI;rw[aL hm,hgl];unfold eJ at hmf;cases hp:kE (key L[i]) (jE key (L.take i)) 0 with
     |none=>simp only;rw[rl,w6];rfl
     |some j=>rw[hp]at hmf;cases hmf
    simp only[hmf,p2,cond_true,dO (show(wL key (L.take i)).length+1≤60000 by omega),c3,c4,hI,aE,hg1,hg2,List.length_nil,dO (show(0+3)/3≤60000 by decide),show Nat.beq (wL key (L.take i)).length (wL key (L.take i)).length=true from by simp,bu,hput];rw[Ag key hm]at ih;exact ih
  ·have c1:decide ((i:Int)<(L.length:Int))=false:=decide_eq_false (by omega);rw[c1,cond_false,p5 (by omega)]
theorem ns (N:Nat){R:Type}:∀(f:Nat) (X:List Int) (a b:Int) (ks:List (List Int)) (vs:List Int) (gs:List (List Int)) (l:List Int) (K:List (List Int)→Option R),Q93.l8 N f X a b ks vs gs l K=Q106.l8 N f X a b ks vs gs l K
 |0,_,_,_,_,_,_,_,_=>rfl
 |f+1,X,a,b,ks,vs,gs,l,K=>by rw[Q93.l8,Q106.l8];simp only[ns N f]
theorem tS (N:Nat)(d:Int):Q93.f N d=Q106.f N d:=by
 unfold Q93.f Q106.f;simp only[ns]
theorem aV (N:Nat){a b:List Int}(hab:a.length=b.length)(hl:a.length≤100){T:Type}(k0:List Int→List Int→Option T)(kr:Bool→Option T):∀(n i:Nat),i≤a.length→a.length-i<n→
  Q92.l2 N n a b (i:Int) k0 kr=if a.drop i=b.drop i then k0 a b else kr false
 |0,i,_,h=>by omega
 |n+1,i,hi,hn=>by
  rw[Q92.l2];by_cases h:i<a.length
  ·have hb:i<b.length:=by omega
   have c1:decide ((i:Int)<(a.length:Int))=true:=decide_eq_true (by omega);have c3:decide ((i:Int)<(b.length:Int))=true:=decide_eq_true (by omega);have c2:decide (0≤(i:Int))=true:=decide_eq_true (by omega);have ea:a.getD i 0=a[i]:=by rw[pC,hR h];rfl
   have eb:b.getD i 0=b[i]:=by rw[pC,hR hb];rfl
   simp only[c1,c2,c3,cond_true,hI,aE,ea,eb];rw[u0 h,u0 hb];by_cases e:a[i]=b[i]
   ·have:(a[i] != b[i])=false:=by rw[bne_eq_false_iff_eq];exact e
    rw[this,cond_false,eK (by omega),aV N hab hl k0 kr n (i+1) (by omega) (by omega)];by_cases e2:a.drop (i+1)=b.drop (i+1)
    ·rw[if_pos e2,if_pos (by rw[e,e2])]
    ·rw[if_neg e2,if_neg fun q=>e2 (List.cons.inj q).2]
   ·have:(a[i] != b[i])=true:=by rw[bne_iff_ne];exact e
    rw[this,cond_true,if_neg fun q=>e (List.cons.inj q).1]
  ·rw[decide_eq_false (show ¬(i:Int)<(a.length:Int) by omega),cond_false,o3 (by omega),o3 (by omega),if_pos rfl]
theorem jd {N:Nat}(hN:1000<N){a b:List Int}(hab:a.length=b.length)(hl:a.length≤100):Q92.f N a b=some (decide (a=b)):=by
 unfold Q92.f;have:=aV N hab hl (T:=Bool) (fun y9 y10=>some ((y9.length:Int)==(y10.length:Int))) (fun y11=>some y11) N 0 (by omega) (by omega);rw[y4]at this;rw[this,ch,ch];by_cases e:a=b
 ·rw[if_pos e,decide_eq_true e,hab];simp
 ·rw[if_neg e,decide_eq_false e]
section
variable {N:Nat}{L:List R3}{s:R3→List Int}{m:Nat}
theorem nY (key:R3→List Int){j:Nat}(h:j<L.length)(k:List Int):eS key (L.take (j+1)) k=if key L[j]=k then eS key (L.take j) k++[L[j]]else eS key (L.take j) k:=by
 rw[xK h];by_cases e:key L[j]=k
 ·rw[if_pos e,←e,pN]
 ·rw[if_neg e,qN key e]
theorem pP (hN:100000<N)(hs:∀x∈L,Q91.f N x.1 x.2.1 x.2.2=some (s x))(hm:∀x∈L,(s x).length=m)(hm8:m≤8)(hl:L.length≤45000)(ks:List (List Int))(x0:R3)(hx0:x0∈L)(i:Int)(gs:List (List Int)){R:Type}(K:List Int→Int→List (List Int)→List Bool→List Int→Option R):∀(f j:Nat),j≤L.length→L.length-j<f→
  Q95.l11 N f (oB L) i (s x0) (j:Int) gs ((L.take j).map (fun x=>decide (kB (s x)∈ks∨kB (s x)=kB (s x0)))++(L.drop j).map (fun x=>decide (kB (s x)∈ks))) (oB (eS (fun x=>kB (s x)) (L.take j) (kB (s x0)))) K=
   K (oB L) i gs (L.map (fun x=>decide (kB (s x)∈ks∨kB (s x)=kB (s x0)))) (oB (eS (fun x=>kB (s x)) L (kB (s x0))))
 |0,j,_,h=>by omega
 |f+1,j,hj,hf=>by
  rw[Q95.l11,sG];by_cases h:j<L.length
  ·have c1:decide ((j:Int)<(L.length:Int))=true:=decide_eq_true (by omega);have c2:decide (0≤(j:Int))=true:=decide_eq_true (by omega);obtain⟨e1,e2,e3⟩:=zM h;have w:aA ((j:Int)+1)=((j+1:Nat):Int):=eK (by omega);have hmem:=b5 h;have hal:=jd (N:=N) (by omega) (a:=s L[j]) (b:=s x0) (by rw[hm _ hmem,hm _ hx0]) (by rw[hm _ hmem];omega);have ih:=pP hN hs hm hm8 hl ks x0 hx0 i gs K f (j+1) (by omega) (by omega);have hd:L.drop j=L[j]::L.drop (j+1):=u0 h;have htl:(L.take j).length=j:=by rw[p7];omega
   have hsl:=bf (fun x=>kB (s x)) (L.take j) (kB (s x0));simp only[c1,c2,cond_true,hI,aE,e1,e2,e3,hs _ hmem,hB,hal,w];rw[nY _ h]at ih;by_cases e:s L[j]=s x0
   ·have ep:kB (s L[j])=kB (s x0):=by rw[e]
    have c4:decide ((j:Int)<(((L.take j).map (fun x=>decide (kB (s x)∈ks∨kB (s x)=kB (s x0)))++(L.drop j).map (fun x=>decide (kB (s x)∈ks))).length:Int))=true:=decide_eq_true (by rw[w6,hV,hV,htl,List.length_drop];omega);have c5:zA (((oB (eS (fun x=>kB (s x)) (L.take j) (kB (s x0)))).length+3)/3) 24=true:=dO (by rw[iE];omega);rw[decide_eq_true e,cond_true,c4,c5];simp only[cond_true];have es:((L.take j).map (fun x=>decide (kB (s x)∈ks∨kB (s x)=kB (s x0)))++(L.drop j).map (fun x=>decide (kB (s x)∈ks))).set j true=(L.take (j+1)).map (fun x=>decide (kB (s x)∈ks∨kB (s x)=kB (s x0)))++(L.drop (j+1)).map (fun x=>decide (kB (s x)∈ks)):=by
     have l1:((L.take j).map (fun x=>decide (kB (s x)∈ks∨kB (s x)=kB (s x0)))).length=j:=by rw[hV,htl]
     rw[r7 _ _ (by omega),l1,bc,hd,q4,List.set_cons_zero,xK h,y0,w5,q4,e5];rw[decide_eq_true (show kB (s L[j])∈ks∨kB (s L[j])=kB (s x0)from .inr ep)];rfl
    rw[es];rw[if_pos ep,lI,eZ]at ih;exact ih
   ·have ep:kB (s L[j])≠kB (s x0):=fun q=>e (B0 (by rw[hm _ hmem];omega) (by rw[hm _ hmem,hm _ hx0]) q);rw[decide_eq_false e,cond_false];rw[if_neg ep]at ih;have es:(L.take j).map (fun x=>decide (kB (s x)∈ks∨kB (s x)=kB (s x0)))++(L.drop j).map (fun x=>decide (kB (s x)∈ks))=(L.take (j+1)).map (fun x=>decide (kB (s x)∈ks∨kB (s x)=kB (s x0)))++(L.drop (j+1)).map (fun x=>decide (kB (s x)∈ks)):=by
     rw[hd,q4,xK h,y0,w5,q4,e5];have:decide (kB (s L[j])∈ks)=decide (kB (s L[j])∈ks∨kB (s L[j])=kB (s x0)):=by rw[decide_eq_decide];exact⟨.inl,fun q=>q.resolve_right ep⟩
     rw[this];rfl
    rw[es];exact ih
  ·have c1:decide ((j:Int)<(L.length:Int))=false:=decide_eq_false (by omega);rw[c1,cond_false,p5 (by omega),o3 (by omega),e5,x7]
theorem pQ (hN:100000<N)(hs:∀x∈L,Q91.f N x.1 x.2.1 x.2.2=some (s x))(hm:∀x∈L,(s x).length=m)(hm8:m≤8)(hl:L.length≤45000){R:Type}(K:List (List Int)→Option R):∀(f i:Nat),i≤L.length→L.length-i<f→
  Q95.l5 N f (oB L) (i:Int) ((jE (fun x=>kB (s x)) (L.take i)).map fun k=>oB (eS (fun x=>kB (s x)) L k)) (L.map (fun x=>decide (kB (s x)∈jE (fun x=>kB (s x)) (L.take i)))) K=K (wL (fun x=>kB (s x)) L)
 |0,i,_,h=>by omega
 |f+1,i,hi,hf=>by
  rw[Q95.l5,sG];by_cases h:i<L.length
  ·have c1:decide ((i:Int)<(L.length:Int))=true:=decide_eq_true (by omega);have c2:decide (0≤(i:Int))=true:=decide_eq_true (by omega);have c3:decide ((i:Int)<((L.map (fun x=>decide (kB (s x)∈jE (fun x=>kB (s x)) (L.take i)))).length:Int))=true:=decide_eq_true (by rw[hV];omega);obtain⟨e1,e2,e3⟩:=zM h;have w:aA ((i:Int)+1)=((i+1:Nat):Int):=eK (by omega);have hmem:=b5 h;have eg:(L.map (fun x=>decide (kB (s x)∈jE (fun x=>kB (s x)) (L.take i)))).getD i false=decide (kB (s L[i])∈jE (fun x=>kB (s x)) (L.take i)):=by
    rw[pC,aa,hR h];rfl
   have ih:=pQ hN hs hm hm8 hl K f (i+1) (by omega) (by omega);have et:L.take (i+1)=L.take i++[L[i]]:=xK h;rw[et,aO]at ih;simp only[c1,c2,c3,cond_true,hI,aE,e1,e2,e3,eg,hs _ hmem,hB];have hkl:=iW (fun x=>kB (s x)) (L.take i);have htl:(L.take i).length=i:=by rw[p7];omega
   by_cases hk:kB (s L[i])∈jE (fun x=>kB (s x)) (L.take i)
   ·rw[decide_eq_true hk,cond_true,w];rw[zK hk]at ih;exact ih
   ·rw[decide_eq_false hk,cond_false];have hsel:eS (fun x=>kB (s x)) (L.take i) (kB (s L[i]))=[]:=ib _ hk;have hfl:L.map (fun x=>decide (kB (s x)∈jE (fun x=>kB (s x)) (L.take i)))=(L.take i).map (fun x=>decide (kB (s x)∈jE (fun x=>kB (s x)) (L.take i)∨kB (s x)=kB (s L[i])))++(L.drop i).map (fun x=>decide (kB (s x)∈jE (fun x=>kB (s x)) (L.take i))):=by
     conv=>lhs;rw[←w7 i L,y0]
     congr 1
     ·rw[w7];refine r8 fun x hx=>?_;rw[decide_eq_decide];exact⟨.inl,fun _=>(jW _ _ _).mpr ⟨x,hx,rfl⟩⟩
     ·rw[w7]
    have hc:=pP hN hs hm hm8 hl (jE (fun x=>kB (s x)) (L.take i)) L[i] hmem (i:Int) ((jE (fun x=>kB (s x)) (L.take i)).map fun k=>oB (eS (fun x=>kB (s x)) L k)) (fun y22 y23 y24 y25 y26=>
       bif zA (y24.length+1) 24 then
        Q95.l5 N f y22 (aA (y23+1)) (y24++[y26]) y25 K
       else none) N i (by omega) (by omega)
    rw[hsel,←hfl]at hc;refine Eq.trans hc ?_;rw[dO (by rw[hV];omega),cond_true,w];rw[aL hk,y0]at ih;have hf2:L.map (fun x=>decide (kB (s x)∈jE (fun x=>kB (s x)) (L.take i)∨kB (s x)=kB (s L[i])))=L.map (fun x=>decide (kB (s x)∈jE (fun x=>kB (s x)) (L.take i)++[kB (s L[i])])):=by refine r8 fun x hx=>?_;rw[decide_eq_decide];simp
    rw[hf2];exact ih
  ·have c1:decide ((i:Int)<(L.length:Int))=false:=decide_eq_false (by omega);rw[c1,cond_false,p5 (by omega)];rfl
end
theorem Ct {n:Nat}(h:n≤60000):zA n 1=true:=by simp only[zA,decide_eq_true_eq];omega
theorem Dp {d:Int}(hd:dY d){x:R3}(h:Rd d x.1 x.2.1 x.2.2∧kI x.1 x.2.1 x.2.2=1):Fm d x.1 x.2.1 x.2.2:=
 ⟨⟨(oy hd h.1).1,⟨h.1.eq⟩,(gd _ _ _).mpr h.2⟩,hd.1⟩
theorem Dq {d:Int}(hd:dY d){L:List R3}(h:Cl d L):L≠ []:=by
 obtain⟨d0,d1,d4⟩:=hd;rintro rfl;rcases d4 with d4|d4
 ·have:=(h.mem (1,0, -d/4)).mpr ⟨⟨by simp only;omega,by simp only;omega,by simp only;omega,by simp only;omega,by simp only;omega⟩,by simp[kI,Cls.bC]⟩;simp at this
 ·have:=(h.mem (1,1,(1-d)/4)).mpr ⟨⟨by simp only;omega,by simp only;omega,by simp only;omega,by simp only;omega,by simp only;omega⟩,by simp[kI,Cls.bC]⟩;simp at this
theorem eo {N:Nat}(hN:8589934600<N){d:Int}(hd:dY d):∃(X:List Int) (L:List R3) (s:R3→List Int),Ce d X∧X.length≤8∧Q83.f N d=some X∧Q88.f N d=some X∧Cl d L∧
  (∀x∈L,s x=X.map (sv N x.1 x.2.1 x.2.2))∧Q106.f N d=some (wL (fun x=>kB (s x)) L,0)∧Q95.f N d=some (wL (fun x=>kB (s x)) L):=by
 obtain⟨X,hX,e1,e2⟩:=wQ hN hd;obtain⟨L,hL,k1,k2,k3,k4⟩:=dh (N:=N) (by omega) hd;have h8:=hX.len hd.1;have hof:∀x∈L,Q85.f N x.1 x.2.1 x.2.2 X=some (mc (X.map (sv N x.1 x.2.1 x.2.2)))∧Q91.f N x.1 x.2.1 x.2.2=some (X.map (sv N x.1 x.2.1 x.2.2)):=fun x hx=>by obtain⟨X',_,_,_,f1,f2,_,_,f3⟩:=Aw hN (Dp hd ((hL.mem x).mp hx));rw[e1]at f1;obtain rfl:=Option.some.inj f1;exact⟨f2,f3⟩
 refine⟨X,L,fun x=>X.map (sv N x.1 x.2.1 x.2.2),hX,h8,e1,e2,hL,fun x _=>rfl,?_,?_⟩
 ·unfold Q106.f;rw[k3];simp only[hB,bne_self_eq_false,cond_false,e1,sG];have:=uS (N:=N) (X:=X) (L:=L) (s:=fun x=>X.map (sv N x.1 x.2.1 x.2.2)) (fun x hx=>(hof x hx).1) hL.len (fun y13=>some (y13,(0:Int))) N 0 (by omega) (by have:=hL.len;omega);exact this
 ·unfold Q95.f;rw[k2];simp only[hB,sG,aE];have c:(decide True&&decide (0≤(L.length:Int))&&decide ((L.length:Int)≤9223372036854775807)&&zA L.length 1)=true:=by
   have:=hL.len;rw[Ct (by omega),decide_eq_true (show 0≤(L.length:Int) by omega),decide_eq_true (show(L.length:Int)≤9223372036854775807 by omega)];simp
  rw[c,cond_true];have:=pQ (N:=N) (L:=L) (s:=fun x=>X.map (sv N x.1 x.2.1 x.2.2)) (m:=X.length) (by omega) (fun x hx=>(hof x hx).2) (fun x hx=>by simp) h8 hL.len (fun y28=>some y28) N 0 (by omega) (by have:=hL.len;omega);rw[show L.map (fun x=>decide (kB (X.map (sv N x.1 x.2.1 x.2.2))∈jE (fun x=>kB (X.map (sv N x.1 x.2.1 x.2.2))) (L.take 0)))=List.replicate L.length false from by rw[List.eq_replicate_iff];refine⟨by simp,fun b hb=>?_⟩;obtain⟨x,_,rfl⟩:=n4.mp hb;simp[jE]]at this;exact this
open Go.Proofs.Yteaakcmkpacpaaa.Pure (kA)
open Go.Proofs.Yteaakcmkpacpaaa.Cls (dY Cl xN mg zr)
theorem mT (N:Nat)(Y:List Int)(hl:Y.length≤100){T:Type}(k0:Unit→Option T)(kr:Bool→Option T):∀(n i:Nat),i≤Y.length→Y.length-i<n→Q99.l4 N n Y Y (Y.length:Int) (i:Int) k0 kr=k0 ()
 |0,i,_,h=>by omega
 |n+1,i,hi,hn=>by
  rw[Q99.l4];by_cases h:i<Y.length
  ·have c1:decide ((i:Int)<(Y.length:Int))=true:=decide_eq_true (by omega);have c2:decide (0≤(i:Int))=true:=decide_eq_true (by omega);simp only[c1,c2,cond_true,hI,bne_self_eq_false,cond_false];rw[eK (by omega)];exact mT N Y hl k0 kr n (i+1) (by omega) (by omega)
  ·rw[decide_eq_false (show ¬(i:Int)<(Y.length:Int) by omega),cond_false]
theorem ia {N:Nat}(hN:1000<N)(Y:List Int)(hl:Y.length≤100):Q99.f N Y Y=some true:=by
 unfold Q99.f;simp only[bne_self_eq_false,cond_false];exact mT N Y hl _ _ N 0 (by omega) (by omega)
structure wU (G:List (List Int)):Prop where
 len:G.length≤45000
 row:∀r∈G,∃m,m≤45000∧r.length=m*3
theorem wU.at {G:List (List Int)}(h:wU G){i:Nat}(hi:i<G.length):∃m,m≤45000∧(G.getD i []).length=m*3:=by
 rw[pC,hR hi];exact h.row _ (b5 hi)
theorem pc (N:Nat){G:List (List Int)}{i m:Nat}(hi:i<G.length)(hG:G.length≤45000)(hm:m≤45000)(hl:(G.getD i []).length=m*3){T:Type}(k2:List (List Int)→List (List Int)→Int→Option T)(kr:Bool→Option T):∀(n j:Nat),j≤m→m-j<n→Q96.l9 N n G G (i:Int) (j:Int) k2 kr=k2 G G (i:Int)
 |0,j,_,h=>by omega
 |n+1,j,hj,hn=>by
  have c0:decide (0≤(i:Int))=true:=decide_eq_true (by omega);have c1:decide ((i:Int)<(G.length:Int))=true:=decide_eq_true (by omega);have c2:decide (0≤(j:Int))=true:=decide_eq_true (by omega);have el:(((G.getD i []).length)/3:Int)=(m:Int):=by rw[hl];omega
  rw[Q96.l9];simp only[c0,c1,c2,hI,cond_true,aE,el];by_cases h:j<m
  ·simp only[decide_eq_true (show(j:Int)<(m:Int) by omega),cond_true,beq_self_eq_true,hI,k7,cond_false];rw[eK (by omega)];exact pc N hi hG hm hl k2 kr n (j+1) (by omega) (by omega)
  ·rw[decide_eq_false (show ¬(j:Int)<(m:Int) by omega),cond_false]
theorem gv {N:Nat}(hN:100000<N){G:List (List Int)}(hG:wU G){T:Type}(k0:Unit→Option T)(kr:Bool→Option T):∀(n i:Nat),i≤G.length→G.length-i<n→Q96.l4 N n G G (i:Int) k0 kr=k0 ()
 |0,i,_,h=>by omega
 |n+1,i,hi,hn=>by
  have:=hG.len;rw[Q96.l4];by_cases h:i<G.length
  ·have c0:decide (0≤(i:Int))=true:=decide_eq_true (by omega);have c1:decide ((i:Int)<(G.length:Int))=true:=decide_eq_true (by omega);obtain⟨m,hm,hl⟩:=hG.at h;simp only[c0,c1,hI,cond_true,bne_self_eq_false,cond_false];have:=pc N h hG.len hm hl (fun y15 y16 y17=>Q96.l4 N n y15 y16 (aA (y17+1)) k0 kr) (fun y18=>kr y18) N 0 (by omega) (by omega);rw[y4]at this;rw[this,eK (by omega)];exact gv hN hG k0 kr n (i+1) (by omega) (by omega)
  ·rw[decide_eq_false (show ¬(i:Int)<(G.length:Int) by omega),cond_false]
theorem dS {N:Nat}(hN:100000<N){G:List (List Int)}(hG:wU G):Q96.f N G G=some true:=by
 unfold Q96.f;simp only[bne_self_eq_false,cond_false];exact gv hN hG _ _ N 0 (by omega) (by have:=hG.len;omega)
def uU (Z G:List (List Int)):Prop:=Z.length=G.length∧∀i,(Z.getD i []).length=(G.getD i []).length
theorem oW {Z G:List (List Int)}(h:uU Z G){i:Nat}{r:List Int}(hr:r.length=(Z.getD i []).length):uU (Z.set i r) G:=by
 refine⟨by rw[List.length_set];exact h.1,fun j=>?_⟩;rw[←h.2 j];simp only[pC]at hr⊢;rw[List.getElem?_set];by_cases e:i=j
 ·subst e;rw[if_pos rfl];by_cases hi:i<Z.length
  ·rw[if_pos hi,Option.getD_some,hr]
  ·rw[if_neg hi,cu (by omega)]
 ·rw[if_neg e]
theorem ix (N:Nat){G:List (List Int)}{i m:Nat}(hi:i<G.length)(hG:G.length≤45000)(hm:m≤45000)(hl:(G.getD i []).length=m*3)(A:List (List Int))(n1:Int)(Y:List (List Int)){T:Type}(k2:List (List Int)→Int→Int→List (List Int)→List (List Int)→Option T)(r:T)(n2:Int)(hk:∀Z,uU Z G→k2 A n1 n2 Z Y=some r):∀(n j:Nat) (Z:List (List Int)),uU Z G→j≤m→m-j<n→
  Q108.l20 N n A (i:Int) n1 n2 (m:Int) (j:Int) Z Y k2=some r
 |0,j,_,_,_,h=>by omega
 |n+1,j,Z,hZ,hj,hn=>by
  rw[Q108.l20];by_cases h:j<m
  ·have c0:decide (0≤(i:Int))=true:=decide_eq_true (by omega);have c1:decide ((i:Int)<(Z.length:Int))=true:=decide_eq_true (by rw[hZ.1];omega);have c2:decide (0≤(j:Int))=true:=decide_eq_true (by omega);have c3:decide ((j:Int)<(m:Int))=true:=decide_eq_true (by omega);have el:(((Z.getD i []).length)/3:Int)=(m:Int):=by rw[hZ.2,hl];omega
   simp only[c0,c1,c2,c3,hI,cond_true,aE,el];rw[eK (by omega)];exact ix N hi hG hm hl A n1 Y k2 r n2 hk n (j+1) _ (oW hZ (by simp only[List.length_set])) (by omega) (by omega)
  ·rw[decide_eq_false (show ¬(j:Int)<(m:Int) by omega),cond_false];exact hk Z hZ
theorem s5 {N:Nat}(hN:100000<N){G:List (List Int)}(hG:wU G){T:Type}(k0:List (List Int)→List (List Int)→Option T)(kr:Bool→Option T)(r:T)(hk:k0 G G=some r):∀(n i:Nat) (Z:List (List Int)),uU Z G→i≤G.length→G.length-i<n→
  Q108.l14 N n G (G.length:Int) (i:Int) Z G k0 kr=some r
 |0,i,_,_,_,h=>by omega
 |n+1,i,Z,hZ,hi,hn=>by
  have hgl:=hG.len;rw[Q108.l14];by_cases h:i<G.length
  ·have c0:decide (0≤(i:Int))=true:=decide_eq_true (by omega);have c1:decide ((i:Int)<(G.length:Int))=true:=decide_eq_true (by omega);have c2:decide ((i:Int)<(Z.length:Int))=true:=decide_eq_true (by rw[hZ.1];omega);obtain⟨m,hm,hl⟩:=hG.at h;have hz:=hZ.2 i;rw[hl]at hz;have hr:zA (((Z.getD i []).length+3)/3) 24=true:=dO (by rw[hz];omega);have e1:((((Z.getD i []).length)+3)/3:Int)=(m:Int)+1:=by rw[hz];omega
   have e2:(((G.getD i []).length)/3:Int)=(m:Int):=by rw[hl];omega
   have e3:aA ((m:Int)+1)=(m:Int)+1:=kA (by omega) (by omega);have s1:uU (Z.set i (Z.getD i [])) G:=oW hZ rfl;have s2:uU ((Z.set i (Z.getD i [])).set i ((Z.set i (Z.getD i [])).getD i [])) G:=oW s1 rfl;have e4:((((Z.set i (Z.getD i [])).getD i []).length)/3:Int)=(m:Int):=by rw[s1.2,hl];omega
   simp only[c0,c1,c2,hI,cond_true,aE,hr,e1,e2,e3,bne_self_eq_false,cond_false,e4];have:=ix N h hG.len hm hl G (G.length:Int) G (fun y32 y33 y34 y35 y36=>Q108.l14 N n y32 y33 (aA (y34+1)) y35 y36 k0 kr) r (i:Int) (fun Z' hZ'=>by rw[eK (by omega)];exact s5 hN hG k0 kr r hk n (i+1) Z' hZ' (by omega) (by omega)) N 0 _ s2 (by omega) (by omega);exact this
  ·rw[decide_eq_false (show ¬(i:Int)<(G.length:Int) by omega),cond_false];exact hk
theorem wk (key:R3→List Int){L:List R3}(hl:L.length≤45000):wU (wL key L):=by
 refine⟨by rw[jU];have:=iW key L;omega,fun r hr=>?_⟩;unfold wL at hr;obtain⟨k,_,rfl⟩:=n4.mp hr;have:=bf key L k;exact⟨(eS key L k).length,by omega,by rw[iE]⟩
theorem GenusLists (a1:Int)(w1:(Lit.int .i64 a1).wf=true):∃N,Q108.f N a1=some true:=by
 refine⟨N0,?_⟩;have hN:8589934600<N0:=by decide
 obtain⟨l0,l1⟩:=zr w1;rcases xN N0 a1 l0 l1 with⟨hd,k1,k2⟩|⟨hd,k1,k2⟩
 ·obtain⟨X,L,s,hX,h8,e1,e2,hL,hs,e3,e4⟩:=eo hN hd;have hG:=wk (fun x=>kB (s x)) hL.len;have hne:0<(wL (fun x=>kB (s x)) L).length:=by
   rw[jU];have:=Dq hd hL;obtain⟨x,L',rfl⟩:∃x L',L=x::L':=by cases L with
    |nil=>exact absurd rfl this
    |cons x L'=>exact⟨x,L',rfl⟩
   exact k5 ((jW (fun x=>kB (s x)) _ _).mpr ⟨x,by simp,rfl⟩)
  generalize wL (fun x=>kB (s x)) L=G at*;have ec:Q87.f N0 a1=some (X,0):=by unfold Q87.f;rw[k1];simp only[hB,bne_self_eq_false,cond_false,e1]
  have c0:decide (0<(G.length:Int))=true:=decide_eq_true (by omega);have ep:Q94.f N0 a1=some (G.getD 0 [],0):=by unfold Q94.f;rw[tS,e3];simp only[hB,bne_self_eq_false,cond_false,c0,cond_true]
  have hfirst:Q97.f N0 (G.getD 0 []) (G.getD 0 [])=some true:=by
   unfold Q97.f;have:wU [G.getD 0 []]:=⟨by simp,fun r hr=>by simp only[r0]at hr;subst hr;exact hG.at hne⟩
   rw[dS (by decide) this];rfl
  unfold Q108.f;rw[ec,e3,ep,k2];simp only[hB,bne_self_eq_false,cond_false,yX,k7,e4,e2,ia (N:=N0) (by decide) X (by omega),dS (N:=N0) (by decide) hG,c0,cond_true,hfirst];have:=s5 (N:=N0) (by decide) hG (fun y39 y40=>(Q96.f N0 y40 y39).bind fun r41=>some r41) (fun y42=>some y42) true (by rw[dS (N:=N0) (by decide) hG];rfl) N0 0 G ⟨rfl,fun _=>rfl⟩ (by omega) (by have:=hG.len;unfold N0;omega);exact this
 ·obtain⟨b1,_,_,_⟩:=mg (N:=N0) l0 l1 hd;have ec:Q87.f N0 a1=some ([],80):=by
   unfold Q87.f;rw[k1];rfl
  have eg:Q106.f N0 a1=some ([],80):=by unfold Q106.f;rw[b1];rfl
  have ep:Q94.f N0 a1=some ([],80):=by unfold Q94.f;rw[tS,eg];rfl
  unfold Q108.f;rw[ec,eg,ep,k2];simp only[hB,yX];rfl
end Go.Proofs.Yteaakcmkpacpaaa.Gen
