import Derived.Test.YteaakcmkpacpaaaA4
import Derived.KernelRfl
open Nat renaming mod_eq_of_lt→hC,dvd_of_mod_eq_zero→aE,mul_comm→hG,dvd_trans→hS,le_mul_of_pos_left→hW,mul_mod→l0,mod_two_eq_zero_or_one→o0,mod_eq_zero_of_dvd→u0,mod_lt→y0,mul_assoc→o2,gcd_comm→o3,lt_or_ge→n4,le_refl→y4,mul_le_mul→b5,pow_succ→s5,one_mul→x5,sub_mod_eq_zero_of_mod_eq→b6,pos_of_ne_zero→q6,gcd_dvd_right→x6,mul_mod_right→a7,gcd_dvd_left→c7,le_of_dvd→k7,pow_pos→w8,le_mul_of_pos_right→aa,add_mod→bc,pow_zero→cd,dvd_one→cu,add_sub_cancel→cz,add_mul_mod_self_left→dv,gcd_pos_of_pos_right→eu,mul_div_cancel_left→gg,mul_add_mod→gy,mul_add→gz,mul_one→il,mul_pos→im,mul_sub→iv,pow_one→kd,div_lt_iff_lt_mul→lp,pos_of_dvd_of_pos→lu,dvd_refl→mb,dvd_zero→mm,zero_add→mx,gcd_rec→pb,mod_mod→pn
open Option renaming bind_some→pC
open Int renaming tmod_eq_emod_of_nonneg→hD,natCast_dvd_natCast→hU,mul_nonneg→j3,toNat_natCast→o4,dvd_mul_of_dvd_right→u4,dvd_mul_of_dvd_left→l5,dvd_of_emod_eq_zero→p5,tdiv_eq_ediv_of_nonneg→w5,add_mul_emod_self_left→w6,ofNat_dvd_left→p7,lt_or_le→w7,mul_ediv_add_emod→x7,natCast_emod→a8,natCast_zero→b8,le_of_dvd→r8,emod_eq_emod_iff_emod_sub_eq_zero→k9,mul_ediv_cancel_left→w9,dvd_sub→au,dvd_coe_gcd→bs,le_total→bt,mul_emod→bu,mul_le_mul_of_nonneg_left→ch,dvd_add→cp,emod_lt_of_pos→cv,mul_emod_right→cx,dvd_of_tmod_eq_zero→ew,emod_eq_zero_of_dvd→ez,tmod_eq_zero_of_dvd→fo,emod_nonneg→gp,natCast_mul→gr,neg_mul_neg→gw,dvd_neg→nw,mul_neg→oj
open List renaming mem_cons_of_mem→hE,getD_eq_getElem?_getD→zE,getElem?_eq_getElem→xK,mem_singleton→yK,mem_range'_1→hV,mem_map→w4,mem_cons→x4,nodup_range'→q5,mem_append→a6,getElem_mem→p6,drop_eq_getElem_cons→b7,length_map→q7,pairwise_map→r7,range'_1_concat→c8,mem_filter→e9,length_erase_of_mem→x9,append_assoc→ae,drop_eq_nil_of_le→ba,length_pos_of_mem→bb,map_cons→bn,append_nil→bw,mem_erase_of_ne→bx,nil_append→bz,pairwise_append→cb,pairwise_cons→cy,perm_ext_iff_of_nodup→dd,filter_cons→eb,length_cons→ec,map_nil→eh,not_mem_nil→ep,filter_cons_of_neg→fp,filter_cons_of_pos→fs,map_append→gx,drop_zero→ki,getElem?_eq_none→kp,length_filter_le→kt,prod_cons→la
open Bool renaming not_false→c6,and_self→k8,not_true→lv
set_option linter.unusedVariables false
set_option linter.unusedSimpArgs false
namespace Go.Proofs.Yteaakcmkpacpaaa.Cls
open Go Go.Proofs.Yteaakcmkpacpaaa.Ev
structure Rd (d a b c:Int):Prop where
 eq:b*b-4*a*c=d
 pos:0<a
 lo: -a<b
 hi:b≤a
 last:a<c∨(a=c∧0≤b)
def rB (a b:Int):Int:=(Int.gcd a b:Int)
def gJ (a b c:Int):Int:=rB (rB a b) c
theorem wj (a b c:Int):gJ a (-b) c=gJ a b c:=by simp[gJ,rB]
theorem wZ {x y:Int}(h0:0≤x)(h:x≤y):x*x≤y*y:=Int.mul_le_mul h h h0 (by omega)
theorem vZ {b a:Int}(h1: -a≤b)(h2:b≤a):b*b≤a*a:=by
 rcases bt 0 b with h|h
 ·exact wZ h h2
 ·have:=wZ (x:= -b) (y:=a) (by omega) (by omega);have e: -b* -b=b*b:=by grind
  omega
theorem Rd.cge {d a b c:Int}(h:Rd d a b c):a≤c:=by have:=h.last;omega
theorem Rd.three {d a b c:Int}(h:Rd d a b c):3*a*a≤ -d:=by
 have h1:=h.eq;have h2:=vZ (show-a≤b by have:=h.lo;omega) h.hi;have h3:=ch h.cge (show 0≤a by have:=h.pos;omega);have e:4*a*c=4*(a*c):=by grind
 have e2:3*a*a=3*(a*a):=by grind
 omega
theorem uJ {x M:Int}(hM:0≤M)(h:x*x<(M+1)*(M+1)):x≤M:=by
 rcases w7 M x with h1|h1
 ·have:=wZ (x:=M+1) (y:=x) (by omega) (by omega);omega
 ·exact h1
theorem Rd.small {d a b c:Int}(h:Rd d a b c)(hd: -65536≤d):a≤147:=by
 have:=h.three;have e2:3*a*a=3*(a*a):=by grind
 exact uJ (by omega) (by omega)
theorem Rd.parity {d a b c:Int}(h:Rd d a b c):b%2=d%2:=by
 have h1:=h.eq;have e:4*a*c=2*(2*a*c):=by grind
 rcases(show b%2=0∨b%2=1 by omega)with hb|hb
 ·have e2:b=2*(b/2):=by omega
  have e3:b*b=2*(2*((b/2)*(b/2))):=by generalize b/2=q at*;subst e2;grind
  omega
 ·have e2:b=2*(b/2)+1:=by omega
  have e3:b*b=2*(2*((b/2)*(b/2))+2*(b/2))+1:=by generalize b/2=q at*;subst e2;grind
  omega
theorem qL:∀(a b:List Int),vR a b=true↔a=b
 | [],[]=>by simp[vR]
 | [],_::_=>by simp[vR]
 |_::_,[]=>by simp[vR]
 |a::r,b::s=>by simp[vR,qL r s]
theorem yN:∀(l:List Int) (ks:List (List Int)) (i:Nat),qE l ks i=none→l∉ks
 |_,[],_,_=>by simp
 |l,x::r,i,h=>by
  simp only[qE]at h;cases hq:vR l x with
  |true=>rw[hq]at h;cases h
  |false=>
   rw[hq]at h;have:=yN l r (i+1) h;have hne:l≠x:=fun e=>by rw[(qL l x).2 e]at hq;cases hq
   simp[hne,this]
theorem zN:∀(l:List Int) (ks:List (List Int)) (i j:Nat),qE l ks i=some j→i≤j∧ks[j-i]?=some l
 |_,[],_,_,h=>by cases h
 |l,x::r,i,j,h=>by
  simp only[qE]at h;cases hq:vR l x with
  |true=>rw[hq]at h;simp only[cond_true,Option.some.injEq]at h;subst h;simp[(qL l x).1 hq]
  |false=>
   rw[hq]at h;obtain⟨h1,h2⟩:=zN l r (i+1) j h;refine⟨by omega,?_⟩;have:j-i=(j- (i+1))+1:=by omega
   rw[this];simpa using h2
structure cF (S:Int→Int→Int→Prop)(ks:List (List Int))(vs:List Int):Prop where
 len:vs.length=ks.length
 nd:ks.Nodup
 sound:∀r∈ks,∃a b c,r=[a,b,c]∧S a b c
 full:∀a b c,S a b c→[a,b,c]∈ks
 val:∀(j:Nat) a b c,ks[j]?=some [a,b,c]→vs[j]?=some (gJ a b c)
theorem cF.congr {S S':Int→Int→Int→Prop}{ks:List (List Int)}{vs:List Int}(h:cF S ks vs)(hs:∀a b c,S a b c↔S' a b c):cF S' ks vs:=
 ⟨h.len,h.nd,fun r hr=>by obtain⟨a,b,c,h1,h2⟩:=h.sound r hr;exact⟨a,b,c,h1,(hs a b c).1 h2⟩,fun a b c h1=>h.full a b c ((hs a b c).2 h1),h.val⟩
theorem cF.nil {S:Int→Int→Int→Prop}(hs:∀a b c,¬S a b c):cF S [] []:=
 ⟨rfl,.nil,fun r hr=>by simp at hr,fun a b c h=>absurd h (hs a b c),fun j a b c h=>by simp at h⟩
theorem cF.put {S:Int→Int→Int→Prop}{ks:List (List Int)}{vs:List Int}(h:cF S ks vs)(a b c:Int):cF (fun x y z=>S x y z∨(x=a∧y=b∧z=c)) (fC [a,b,c] ks) (iK [a,b,c] (gJ a b c) ks vs):=by
 unfold fC yO iK;cases hm:qE [a,b,c] ks 0 with
 |none=>
  have hn:=yN _ _ _ hm;simp only[Option.isSome_none,cond_false];refine⟨by simp[h.len],?_,fun r hr=>?_,fun x y z hs=>?_,fun j x y z hj=>?_⟩
  ·exact List.nodup_append.2 ⟨h.nd,by simp,fun x hx y hy=>by simp only[yK]at hy;subst hy;rintro rfl;exact hn hx⟩
  ·simp only[a6,yK]at hr;rcases hr with hr|hr
   ·obtain⟨x,y,z,h1,h2⟩:=h.sound r hr;exact⟨x,y,z,h1,.inl h2⟩
   ·exact⟨a,b,c,hr,.inr ⟨rfl,rfl,rfl⟩⟩
  ·simp only[a6,yK];rcases hs with hs|⟨rfl,rfl,rfl⟩
   ·exact .inl (h.full x y z hs)
   ·exact .inr rfl
  ·rw[List.getElem?_append]at hj⊢;rw[h.len];split at hj
   ·rename_i hlt;rw[if_pos hlt];exact h.val j x y z hj
   ·rename_i hlt;rw[if_neg hlt];have h0:j-ks.length=0:=by
     rcases Nat.eq_zero_or_pos (j-ks.length)with h0|h0
     ·exact h0
     ·rw[kp (by simp;omega)]at hj;cases hj
    rw[h0]at hj⊢;simp at hj⊢;obtain⟨rfl,rfl,rfl⟩:=hj;rfl
 |some j0=>
  obtain⟨_,hj0⟩:=zN _ _ _ _ hm;simp only[Nat.sub_zero]at hj0;simp only[Option.isSome_some,cond_true];have hv:=h.val j0 a b c hj0;have hset:vs.set j0 (gJ a b c)=vs:=by obtain⟨hlt,hv⟩:=List.getElem?_eq_some_iff.mp hv;rw[←hv,List.set_getElem_self]
  rw[hset];have hmem:[a,b,c]∈ks:=List.mem_of_getElem? hj0;refine⟨h.len,h.nd,fun r hr=>?_,fun x y z hs=>?_,h.val⟩
  ·obtain⟨x,y,z,h1,h2⟩:=h.sound r hr;exact⟨x,y,z,h1,.inl h2⟩
  ·rcases hs with hs|⟨rfl,rfl,rfl⟩
   ·exact h.full x y z hs
   ·exact hmem
theorem cF.get {S:Int→Int→Int→Prop}{ks:List (List Int)}{vs:List Int}(h:cF S ks vs){a b c:Int}(hs:S a b c):yI [a,b,c] ks vs=gJ a b c:=by
 unfold yI;cases hm:qE [a,b,c] ks 0 with
 |none=>exact absurd (h.full a b c hs) (yN _ _ _ hm)
 |some j=>obtain⟨_,hj⟩:=zN _ _ _ _ hm;simp only[Nat.sub_zero]at hj;have:=h.val j a b c hj;simp[zE,this]
def Co (x y:R3):Prop:=x.1<y.1∨x.1=y.1∧(x.2.1<y.2.1∨x.2.1=y.2.1∧x.2.2<y.2.2)
theorem De {x y:R3}(h:Co x y):jU x y=true:=by
 rw[iI];unfold Co at h;omega
theorem xn {x y:R3}(h:Co x y):x≠y:=by
 rintro rfl;unfold Co at h;omega
structure iR (S:Int→Int→Int→Prop)(R:List R3):Prop where
 up:R.Pairwise Co
 mem:∀x,x∈R↔S x.1 x.2.1 x.2.2
theorem iR.congr {S S':Int→Int→Int→Prop}{R:List R3}(h:iR S R)(hs:∀a b c,S a b c↔S' a b c):iR S' R:=
 ⟨h.up,fun x=>by rw[h.mem,hs]⟩
theorem iR.nodup {S:Int→Int→Int→Prop}{R:List R3}(h:iR S R):R.Nodup:=h.up.imp (fun hx=>xn hx)
theorem iR.sorted {S:Int→Int→Int→Prop}{R:List R3}(h:iR S R):R.Pairwise (fun a b=>jU a b=true):=h.up.imp (fun hx=>De hx)
theorem iR.add {S:Int→Int→Int→Prop}{R:List R3}(h:iR S R){a b c:Int}(hl:∀x y z,S x y z→Co (x,y,z) (a,b,c)):iR (fun x y z=>S x y z∨(x=a∧y=b∧z=c)) (R++[(a,b,c)]):=by
 refine⟨cb.mpr ⟨h.up,by simp,fun x hx y hy=>?_⟩,fun x=>?_⟩
 ·simp only[yK]at hy;subst hy;exact hl _ _ _ ((h.mem x).1 hx)
 ·simp only[a6,yK];rw[h.mem];constructor
  ·rintro(h1|rfl)
   ·exact .inl h1
   ·exact .inr ⟨rfl,rfl,rfl⟩
  ·rintro(h1|⟨h1,h2,h3⟩)
   ·exact .inl h1
   ·exact .inr (Prod.ext h1 (Prod.ext h2 h3))
def row (r:List Int):R3:=(r.getD 0 0,r.getD 1 0,r.getD 2 0)
theorem cF.perm {S:Int→Int→Int→Prop}{ks:List (List Int)}{vs:List Int}{R:List R3}(h:cF S ks vs)(k:iR S R):(ks.map row).Perm R:=by
 refine(dd ?_ k.nodup).mpr (fun x=>?_)
 ·rw[List.Nodup,r7];refine h.nd.imp_of_mem (fun{r s} hr hs hne e=>hne ?_);obtain⟨a,b,c,rfl,_⟩:=h.sound r hr;obtain⟨a',b',c',rfl,_⟩:=h.sound s hs;simp only[row,List.getD_cons_zero,List.getD_cons_succ,Prod.mk.injEq]at e;obtain⟨rfl,rfl,rfl⟩:=e;rfl
 ·rw[k.mem,w4];constructor
  ·rintro⟨r,hr,rfl⟩;obtain⟨a,b,c,rfl,hs⟩:=h.sound r hr;exact hs
  ·intro hs;exact⟨_,h.full _ _ _ hs,rfl⟩
open Go.Proofs.Yteaakcmkpacpaaa.Pure (dA)
theorem Rd.iff {d a b c:Int}(ha:0<a)(h1: -a<b)(h2:b≤a):Rd d a b c↔((b*b-d)%(4*a)=0∧c=(b*b-d)/(4*a)∧(a<c∨(a=c∧0≤b))):=by
 constructor
 ·intro h;have e:b*b-d=4*a*c:=by have:=h.eq;omega
  refine⟨by rw[e,cx],?_,h.last⟩;rw[e,w9 _ (by omega)]
 ·rintro⟨k1,k2,k3⟩;have e:=x7 (b*b-d) (4*a);rw[k1,←k2]at e;exact⟨by omega,ha,h1,h2,k3⟩
theorem dL {b M:Int}(h1: -M≤b)(h2:b≤M):0≤b*b∧b*b≤M*M:=by
 refine⟨?_,vZ h1 h2⟩;rcases bt 0 b with h|h
 ·exact j3 h h
 ·have:=j3 (show 0≤ -b by omega) (show 0≤ -b by omega);have e: -b* -b=b*b:=by grind
  omega
theorem vO (R:List R3)(a b c:Int):dC R++[a,b,c]=dC (R++[(a,b,c)]):=by rw[wP];rfl
theorem eP {R:List R3}(h:(R.length:Int)≤60000):zA (((dC R).length+3)/3) 24=true:=by
 rw[vG];simp only[zA,decide_eq_true_eq];omega
def Up (d a b:Int)(x y z:Int):Prop:=Rd d x y z∧(x<a∨(x=a∧y<b))
theorem fi (N:Nat){d a:Int}(hd: -65536≤d)(hd0:d<0)(ha:0<a)(ha2:a≤147):∀(n:Nat) (b:Int) (R:List R3),1-a≤b→b≤a+1→a+1-b<n→iR (Up d a b) R→(R.length:Int)≤300*(a-1)+(b+a)→
  ∃R',iR (Up d a (a+1)) R'∧(R'.length:Int)≤300*a∧∀{T:Type} (K:Int→Int→List Int→Option T),Q71.l6 N n d a b (dC R) K=K d a (dC R')
 |0,b,R,_,_,h,_,_=>by omega
 |n+1,b,R,h1,h2,h3,hR,hl=>by
  by_cases hb:b≤a
  ·have hs:=dL (b:=b) (M:=147) (by omega) (by omega);have e1:aA (b*b)=b*b:=dA (by omega) (by omega);have e2:aA (b*b-d)=b*b-d:=dA (by omega) (by omega);have e3:aA (4*a)=4*a:=dA (by omega) (by omega);have e4:aA (b+1)=b+1:=dA (by omega) (by omega);have n0:0≤b*b-d:=by omega
   have e5:Int.tmod (b*b-d) (4*a)=(b*b-d)%(4*a):=hD n0;have hq0:0≤(b*b-d)/(4*a):=Int.ediv_nonneg n0 (by omega);have hq1:(b*b-d)/(4*a)≤b*b-d:=Int.ediv_le_self _ n0;have e6:aA (Int.tdiv (b*b-d) (4*a))=(b*b-d)/(4*a):=by rw[w5 n0];exact dA (by omega) (by omega)
   have c0:decide (b≤a)=true:=decide_eq_true hb;have c1:(!(4*a==0))=true:=by simp;omega
   have hiff:=fun c=>Rd.iff (d:=d) (c:=c) ha (show-a<b by omega) hb;have hnext:∀R',iR (Up d a (b+1)) R'→(R'.length:Int)≤300*(a-1)+(b+1+a)→∃R'',iR (Up d a (a+1)) R''∧(R''.length:Int)≤300*a∧∀{T:Type} (K:Int→Int→List Int→Option T),Q71.l6 N n d a (b+1) (dC R') K=K d a (dC R''):=
    fun R' k1 k2=>fi N hd hd0 ha ha2 n (b+1) R' (by omega) (by omega) (by omega) k1 k2
   have hskip:(∀c,¬Rd d a b c)→iR (Up d a (b+1)) R:=fun hno=>hR.congr fun x y z=>by
    unfold Up;constructor
    ·rintro⟨k1,k2⟩;exact⟨k1,by omega⟩
    ·rintro⟨k1,k2⟩;refine⟨k1,?_⟩;rcases k2 with k2|⟨rfl,k2⟩
     ·exact .inl k2
     ·by_cases hy:y=b
      ·subst hy;exact absurd k1 (hno z)
      ·exact .inr ⟨rfl,by omega⟩
   have hput:Rd d a b ((b*b-d)/(4*a))→iR (Up d a (b+1)) (R++[(a,b,(b*b-d)/(4*a))]):=fun hq=>(hR.add (a:=a) (b:=b) (c:=(b*b-d)/(4*a)) (fun x y z hx=>by
     unfold Co;simp only;have:=hx.2;omega)).congr fun x y z=>by
    unfold Up;constructor
    ·rintro(⟨k1,k2⟩|⟨rfl,rfl,rfl⟩)
     ·exact⟨k1,by omega⟩
     ·exact⟨hq,by omega⟩
    ·rintro⟨k1,k2⟩;rcases k2 with k2|⟨rfl,k2⟩
     ·exact .inl ⟨k1,.inl k2⟩
     ·by_cases hy:y=b
      ·subst hy;exact .inr ⟨rfl,rfl,((hiff z).1 k1).2.1⟩
      ·exact .inl ⟨k1,.inr ⟨rfl,by omega⟩⟩
   have hroom:=eP (R:=R) (by omega);simp only[Q71.l6,c0,cond_true,e1,e2,e3,e4,e5,e6,c1,hroom,vO];by_cases hm:(b*b-d)%(4*a)=0
   ·have c2:((b*b-d)%(4*a) != 0)=false:=by simp[hm]
    rw[c2];simp only[cond_false];by_cases hc:(b*b-d)/(4*a)>a
    ·obtain⟨R'',r1,r2,r3⟩:=hnext _ (hput ((hiff _).2 ⟨hm,rfl,.inl hc⟩)) (by simp;omega);refine⟨R'',r1,r2,fun K=>?_⟩;rw[decide_eq_true hc];exact r3 K
    ·by_cases hc2:(b*b-d)/(4*a)=a
     ·by_cases hb0:b≥0
      ·obtain⟨R'',r1,r2,r3⟩:=hnext _ (hput ((hiff _).2 ⟨hm,rfl,.inr ⟨hc2.symm,hb0⟩⟩)) (by simp;omega);refine⟨R'',r1,r2,fun K=>?_⟩;rw[decide_eq_false hc,beq_iff_eq.mpr hc2,decide_eq_true hb0];exact r3 K
      ·obtain⟨R'',r1,r2,r3⟩:=hnext _ (hskip fun c hq=>by have:=(hiff c).1 hq;omega) (by omega);refine⟨R'',r1,r2,fun K=>?_⟩;rw[decide_eq_false hc,beq_iff_eq.mpr hc2,decide_eq_false hb0];exact r3 K
     ·obtain⟨R'',r1,r2,r3⟩:=hnext _ (hskip fun c hq=>by have:=(hiff c).1 hq;omega) (by omega);refine⟨R'',r1,r2,fun K=>?_⟩;rw[decide_eq_false hc,beq_eq_false_iff_ne.mpr hc2];exact r3 K
   ·have c2:((b*b-d)%(4*a) != 0)=true:=by simp[hm]
    rw[c2];obtain⟨R'',r1,r2,r3⟩:=hnext _ (hskip fun c hq=>hm ((hiff c).1 hq).1) (by omega);exact⟨R'',r1,r2,fun K=>r3 K⟩
  ·have e:b=a+1:=by omega
   subst e;refine⟨R,hR,by omega,fun K=>?_⟩;rw[Q71.l6,decide_eq_false hb];rfl
theorem aZ {N:Nat}(hN:1000<N){d:Int}(hd: -65536≤d)(hd0:d<0):∀(n:Nat) (a:Int) (R:List R3),1≤a→a≤148→149-a<n→iR (Up d a (-a)) R→(R.length:Int)≤300*(a-1)→
  ∃R',iR (Rd d) R'∧(R'.length:Int)≤45000∧∀{T:Type} (K:List Int→Option T),Q71.l3 N n d a (dC R) K=K (dC R')
 |0,a,R,_,_,h,_,_=>by omega
 |n+1,a,R,h1,h2,h3,hR,hl=>by
  have hs:=dL (b:=a) (M:=148) (by omega) (by omega);have e0:3*a*a=3*(a*a):=by grind
  have e1:aA (3*a)=3*a:=dA (by omega) (by omega);have e2:aA (3*a*a)=3*a*a:=dA (by omega) (by omega);have e3:aA (0-d)= -d:=by rw[show 0-d= -d by omega];exact dA (by omega) (by omega)
  have e4:aA (1-a)=1-a:=dA (by omega) (by omega);have e5:aA (a+1)=a+1:=dA (by omega) (by omega);by_cases hc:3*a*a≤ -d
  ·have ha:a≤147:=uJ (by omega) (by omega);obtain⟨R1,r1,r2,r3⟩:=fi N hd hd0 (show 0<a by omega) ha N (1-a) R (by omega) (by omega) (by omega) (hR.congr fun x y z=>by
    unfold Up;constructor
    ·rintro⟨k1,k2⟩;exact⟨k1,by omega⟩
    ·rintro⟨k1,k2⟩;exact⟨k1,by have:=k1.lo;omega⟩) (by omega)
   obtain⟨R2,s1,s2,s3⟩:=aZ hN hd hd0 n (a+1) R1 (by omega) (by omega) (by omega) (r1.congr fun x y z=>by
    unfold Up;constructor
    ·rintro⟨k1,k2⟩;exact⟨k1,by omega⟩
    ·rintro⟨k1,k2⟩;exact⟨k1,by have:=k1.lo;have:=k1.hi;omega⟩) (by omega)
   refine⟨R2,s1,s2,fun K=>?_⟩;rw[Q71.l3,e1,e2,e3,decide_eq_true hc,e4,cond_true,r3];simp only[e5];exact s3 K
  ·refine⟨R,hR.congr fun x y z=>⟨fun h=>h.1,fun h=>⟨h,.inl ?_⟩⟩,by omega,fun K=>?_⟩
   ·have h4:=h.three;have e6:3*x*x=3*(x*x):=by grind
    rcases w7 x a with h5|h5
    ·exact h5
    ·have:=wZ (x:=a) (y:=x) (by omega) h5;omega
   ·rw[Q71.l3,e1,e2,e3,decide_eq_false hc];rfl
theorem rV {N:Nat}(hN:1000<N){d:Int}(hd: -65536≤d)(hd0:d<0):∃R,iR (Rd d) R∧(R.length:Int)≤45000∧Q71.f N d=some (dC R):=by
 obtain⟨R,r1,r2,r3⟩:=aZ hN hd hd0 N 1 [] (by omega) (by omega) (by omega) ⟨.nil,fun x=>by simp only[ep,false_iff];rintro⟨h,h2⟩;have:=h.pos;have:=h.lo;omega⟩ (by simp);refine⟨R,r1,r2,?_⟩;unfold Q71.f;exact r3 _
theorem iR.one {S:Int→Int→Int→Prop}{R R':List R3}(h:iR S R)(k:iR S R'):R=R':=by
 have p:R.Perm R':=(dd h.nodup k.nodup).mpr fun x=>by rw[h.mem,k.mem]
 exact(wJ p h.sorted).trans (wJ (List.Perm.refl _) k.sorted).symm
theorem xP (N:Nat){R:Type}(K:Int→Option R):∀(n:Nat) (x y:Int),0≤x→0≤y→y<n→Q69.l1 N n x y K=K (rB x y)
 |0,x,y,_,h,h2=>by omega
 |n+1,x,y,h0,h1,h2=>by
  rw[Q69.l1];by_cases hy:y>0
  ·have e:Int.tmod x y=x%y:=hD h0;have c1:(!(y==0))=true:=by simp;omega
   rw[decide_eq_true hy,c1,cond_true,cond_true,e,xP N K n y (x%y) h1 (gp _ (by omega)) (by have:=cv x hy;omega)];rw[show rB y (x%y)=rB x y from NatL.uV h0 hy]
  ·have:y=0:=by omega
   subst this;rw[decide_eq_false hy,show rB x 0=x from NatL.aQ h0];rfl
theorem iq {N:Nat}{x y:Int}(h0:0≤x)(h1:0≤y)(h2:y<N):Q69.f N x y=some (rB x y):=by
 unfold Q69.f;rw[xP N _ N x y h0 h1 h2]
theorem ny (a b:Int):0≤rB a b:=by unfold rB;omega
theorem xe (a b:Int):rB a (-b)=rB a b:=by simp[rB]
theorem ic {N:Nat}{a b c:Int}(ha:0≤a)(hb: -N<b)(hb2:b<N)(hc:0≤c)(hc2:c<N)(hb3: -1000000000<b):Q70.f N a b c=some (gJ a b c):=by
 unfold Q70.f gJ;by_cases h:b<0
 ·have e:aA (0-b)= -b:=by rw[show 0-b= -b by omega];exact dA (by omega) (by omega)
  rw[decide_eq_true h,e,cond_true,iq ha (by omega) (by omega)];simp only[pC];rw[iq (ny _ _) hc hc2,xe];rfl
 ·rw[decide_eq_false h,cond_false,iq ha (by omega) hb2];simp only[pC];rw[iq (ny _ _) hc hc2];rfl
structure uz (R:List R3):Prop where
 len:(R.length:Int)≤45000
 el:∀x∈R,0<x.1∧x.1≤147∧ -148<x.2.1∧x.2.1<148∧0<x.2.2∧x.2.2≤100000
theorem Rd.csmall {d a b c:Int}(h:Rd d a b c)(hd: -65536≤d):0<c∧c≤100000:=by
 have h0:=h.small hd;have h1:=h.cge;have h2:=h.pos;have h3:=dL (b:=b) (M:=147) (by have:=h.lo;omega) (by have:=h.hi;omega);have h4:=h.eq;have h5:1*c≤a*c:=Int.mul_le_mul_of_nonneg_right (by omega) (by omega);have e:4*a*c=4*(a*c):=by grind
 omega
theorem Rd.tame {d:Int}(hd: -65536≤d){R:List R3}(h:iR (Rd d) R)(hl:(R.length:Int)≤45000):uz R:=
 ⟨hl,fun x hx=>by have k:=(h.mem x).1 hx;have k1:=k.csmall hd;have k2:=k.small hd;have k3:=k.pos;have k4:=k.lo;have k5:=k.hi;omega⟩
theorem ff {R:List R3}{i:Nat}(h:i<R.length):(dC R).getD (i*3) 0=R[i].1∧(dC R).getD (i*3+1) 0=R[i].2.1∧(dC R).getD (i*3+2) 0=R[i].2.2:=by
 simp only[zE];refine⟨?_,?_,?_⟩
 ·rw[tK R (i*3) (by omega),show i*3%3=0 by omega,show i*3/3=i by omega];simp[xK h]
 ·rw[tK R (i*3+1) (by omega),show(i*3+1)%3=1 by omega,show(i*3+1)/3=i by omega];simp[xK h]
 ·rw[tK R (i*3+2) (by omega),show(i*3+2)%3=2 by omega,show(i*3+2)/3=i by omega];simp[xK h]
theorem aS (R:List R3):((dC R).length/3:Int)=R.length:=by rw[vG];omega
def mN (x:R3):Bool:=gJ x.1 x.2.1 x.2.2==1
def wt (x:R3):Int:=if x.2.1=0∧x.1=x.2.2 then 6 else if x.1=x.2.1∧x.1=x.2.2 then 4 else 12
theorem wY {R:List R3}{i:Nat}(h:i<R.length):R.drop i=R[i]::R.drop (i+1):=by rw[b7 h]
theorem lS {N:Nat}(hN:200000<N){R:List R3}(hR:uz R){T:Type}(K:List Int→Option T):∀(n i:Nat) (X:List R3),i≤R.length→R.length-i<n→X.length≤i→
  Q72.l4 N n (dC R) i (dC X) K=K (dC (X++(R.drop i).filter mN))
 |0,i,X,_,h,_=>by omega
 |n+1,i,X,h1,h2,h3=>by
  have hl:=hR.len;rw[Q72.l4,aS];by_cases hi:i<R.length
  ·obtain⟨e1,e2,e3⟩:=ff hi;obtain⟨k1,k2,k3,k4,k5,k6⟩:=hR.el R[i] (p6 hi);have c0:decide ((i:Int)<R.length)=true:=decide_eq_true (by omega);have c1:decide ((0:Int)≤i)=true:=decide_eq_true (by omega);have w1:aA ((i:Int)+1)=((i+1:Nat):Int):=by rw[dA (by omega) (by omega)];omega
   have hroom:=eP (R:=X) (by omega);have hg:Q70.f N R[i].1 R[i].2.1 R[i].2.2=some (gJ R[i].1 R[i].2.1 R[i].2.2):=ic (by omega) (by omega) (by omega) (by omega) (by omega) (by omega);simp only[c0,c1,cond_true,k8,o4,e1,e2,e3,hg,pC,hroom,w1,vO];rw[wY hi];cases hp:gJ R[i].1 R[i].2.1 R[i].2.2==1 with
   |true=>rw[cond_true,lS hN hR K n (i+1) _ (by omega) (by omega) (by simp;omega),fs (by exact hp)];simp
   |false=>rw[cond_false,lS hN hR K n (i+1) _ (by omega) (by omega) (by omega),fp (by unfold mN;rw[hp];simp)]
  ·have:i=R.length:=by omega
   subst this;rw[decide_eq_false (by omega)];simp
theorem tj {N:Nat}(hN:200000<N){d:Int}(hd: -65536≤d)(hd0:d<0){R:List R3}(hR:iR (Rd d) R):Q72.f N d=some (dC (R.filter mN))∧uz R:=by
 obtain⟨R',h1,h2,h3⟩:=rV (N:=N) (by omega) hd hd0;obtain rfl:=hR.one h1;have ht:=Rd.tame hd hR h2;refine⟨?_,ht⟩;unfold Q72.f;rw[h3];simp only[pC];have:=lS hN ht (fun y8=>some y8) N 0 [] (by omega) (by have:=ht.len;omega) (by simp);rw[ki,bz]at this;exact this
def Sb (d b a:Int)(x y z:Int):Prop:=Rd d x y z∧((-b<y∧y<b)∨((y=b∨y= -b)∧x<a))
def Sf (d b:Int)(x y z:Int):Prop:=Rd d x y z∧ -b≤y∧y≤b
theorem z6 {N:Nat}(hN:1000000001<N){a b c:Int}(ha: -100000<a)(ha2:a<100000)(hb: -100000<b)(hb2:b<100000)(hc: -100000<c)(hc2:c<100000):Q41.f N a b c=some (gJ a b c):=
 Pure.eK hN ⟨by omega,by omega,by omega⟩
section
variable {d b nn:Int}
theorem aX (hn:4*nn=b*b-d){a y z:Int}(hy:y*y=b*b):y*y-4*a*z=d↔a*z=nn:=by
 have e:4*a*z=4*(a*z):=by grind
 rw[hy,e];omega
theorem Fv (hn:4*nn=b*b-d)(hb:0≤b){a z:Int}(ha:1≤a)(hab:b≤a)(hs:a*a≤nn):Rd d a b z↔(nn%a=0∧z=nn/a):=by
 constructor
 ·intro h;have e:=(aX hn (a:=a) (z:=z) rfl).1 h.eq;rw[←e];exact⟨cx _ _,(w9 _ (by omega)).symm⟩
 ·rintro⟨h1,rfl⟩;have e:a*(nn/a)=nn:=by have:=x7 nn a;omega
  have hle:a≤nn/a:=Int.le_ediv_of_mul_le (by omega) hs;exact⟨(aX hn rfl).2 e,by omega,by omega,hab,by omega⟩
theorem Fw (hn:4*nn=b*b-d)(hb:0<b){a z:Int}(ha:1≤a)(hab:b≤a)(hs:a*a≤nn):Rd d a (-b) z↔(nn%a=0∧z=nn/a∧b<a∧a<z):=by
 have hq: -b* -b=b*b:=by grind
 constructor
 ·intro h;have e:=(aX hn (a:=a) (z:=z) hq).1 h.eq;rw[←e];have:=h.lo;have:=h.last;exact⟨cx _ _,(w9 _ (by omega)).symm,by omega,by omega⟩
 ·rintro⟨h1,rfl,h2,h3⟩;have e:a*(nn/a)=nn:=by have:=x7 nn a;omega
  exact⟨(aX hn hq).2 e,by omega,by omega,by omega,.inl h3⟩
theorem Ch {N:Nat}(hN:1000000001<N)(hd: -65536≤d)(hd0:d<0)(hb:0≤b)(hb2:b≤147)(hn:4*nn=b*b-d):∀(n:Nat) (a:Int) (ks:List (List Int)) (vs:List Int),b≤a→1≤a→a≤256→257-a<n→cF (Sb d b a) ks vs→
  ∃ks' vs',cF (Sf d b) ks' vs'∧∀{T:Type} (K:Int→Int→List (List Int)→List Int→Option T),Q67.l7 N n d b nn a ks vs K=K d b ks' vs'
 |0,a,ks,vs,_,_,_,h,_=>by omega
 |n+1,a,ks,vs,h1,h2,h3,h4,hI=>by
  have hs:=dL (b:=b) (M:=147) (by omega) (by omega);have ha:=dL (b:=a) (M:=256) (by omega) (by omega);have e1:aA (a*a)=a*a:=dA (by omega) (by omega);have e2:aA (a+1)=a+1:=dA (by omega) (by omega);have e3:aA (0-b)= -b:=by rw[show 0-b= -b by omega];exact dA (by omega) (by omega)
  have n0:0≤nn:=by omega
  have hq0:0≤nn/a:=Int.ediv_nonneg n0 (by omega);have hq1:nn/a≤nn:=Int.ediv_le_self _ n0;have e4:aA (Int.tdiv nn a)=nn/a:=by rw[w5 n0];exact dA (by omega) (by omega)
  have e5:Int.tmod nn a=nn%a:=hD n0;by_cases hc:a*a≤nn
  ·have ha2:a≤255:=uJ (by omega) (by omega);have c1:(!(a==0))=true:=by simp;omega
   have hnext:∀ks' vs',cF (Sb d b (a+1)) ks' vs'→∃ks'' vs'',cF (Sf d b) ks'' vs''∧∀{T:Type} (K:Int→Int→List (List Int)→List Int→Option T),Q67.l7 N n d b nn (a+1) ks' vs' K=K d b ks'' vs'':=
    fun ks' vs' hI'=>Ch hN hd hd0 hb hb2 hn n (a+1) ks' vs' (by omega) (by omega) (by omega) (by omega) hI'
   have hB:=fun z=>Fv (d:=d) (z:=z) hn hb h2 h1 hc;have hM:=fun(h0:0<b) z=>Fw (d:=d) (z:=z) hn h0 h2 h1 hc;have hg:Q41.f N a b (nn/a)=some (gJ a b (nn/a)):=z6 hN (by omega) (by omega) (by omega) (by omega) (by omega) (by omega);simp only[Q67.l7,e1,e2,e3,e4,e5,decide_eq_true hc,cond_true,c1,hg,pC];by_cases hm:nn%a=0
   ·rw[show(nn%a != 0)=false by simp[hm]];simp only[cond_false];have p1:=hI.put a b (nn/a);have hget:=p1.get (a:=a) (b:=b) (c:=nn/a) (.inr ⟨rfl,rfl,rfl⟩);rw[hget];have one:(¬(0<b∧b<a∧a<nn/a))→cF (Sb d b (a+1)) (fC [a,b,nn/a] ks) (iK [a,b,nn/a] (gJ a b (nn/a)) ks vs):=fun hno=>p1.congr fun x y z=>by
     unfold Sb;constructor
     ·rintro(⟨k1,k2⟩|⟨rfl,rfl,rfl⟩)
      ·exact⟨k1,by omega⟩
      ·exact⟨(hB _).2 ⟨hm,rfl⟩,by omega⟩
     ·rintro⟨k1,k2|⟨k2,k3⟩⟩
      ·exact .inl ⟨k1,.inl k2⟩
      ·by_cases hx:x=a
       ·subst hx;rcases k2 with rfl|rfl
        ·exact .inr ⟨rfl,rfl,((hB z).1 k1).2⟩
        ·by_cases h0:0<b
         ·obtain⟨q1,q2,q3,q4⟩:=(hM h0 z).1 k1;rw[q2]at q4;exact absurd ⟨h0,q3,q4⟩ hno
         ·have:b=0:=by omega
          subst this;exact .inr ⟨rfl,rfl,((hB z).1 k1).2⟩
       ·exact .inl ⟨k1,.inr ⟨k2,by omega⟩⟩
    by_cases q1:b>0
    ·by_cases q2:b<a
     ·by_cases q3:a<nn/a
      ·have p2:=p1.put a (-b) (nn/a);rw[wj]at p2;obtain⟨k1,k2,k3,k4⟩:=hnext _ _ (p2.congr (S':=Sb d b (a+1)) fun x y z=>by
        unfold Sb;constructor
        ·rintro((⟨k1,k2⟩|⟨rfl,rfl,rfl⟩)|⟨rfl,rfl,rfl⟩)
         ·exact⟨k1,by omega⟩
         ·exact⟨(hB _).2 ⟨hm,rfl⟩,by omega⟩
         ·exact⟨(hM q1 _).2 ⟨hm,rfl,q2,q3⟩,by omega⟩
        ·rintro⟨k1,k2|⟨k2,k3⟩⟩
         ·exact .inl (.inl ⟨k1,.inl k2⟩)
         ·by_cases hx:x=a
          ·subst hx;rcases k2 with rfl|rfl
           ·exact .inl (.inr ⟨rfl,rfl,((hB z).1 k1).2⟩)
           ·exact .inr ⟨rfl,rfl,((hM q1 z).1 k1).2.1⟩
          ·exact .inl (.inl ⟨k1,.inr ⟨k2,by omega⟩⟩))
       refine⟨k1,k2,k3,fun K=>?_⟩;rw[decide_eq_true q1,decide_eq_true q2,decide_eq_true q3];exact k4 K
      ·obtain⟨k1,k2,k3,k4⟩:=hnext _ _ (one fun h=>q3 h.2.2);refine⟨k1,k2,k3,fun K=>?_⟩;rw[decide_eq_true q1,decide_eq_true q2,decide_eq_false q3];exact k4 K
     ·obtain⟨k1,k2,k3,k4⟩:=hnext _ _ (one fun h=>q2 h.2.1);refine⟨k1,k2,k3,fun K=>?_⟩;rw[decide_eq_true q1,decide_eq_false q2];exact k4 K
    ·obtain⟨k1,k2,k3,k4⟩:=hnext _ _ (one fun h=>q1 h.1);refine⟨k1,k2,k3,fun K=>?_⟩;rw[decide_eq_false q1];exact k4 K
   ·rw[show(nn%a != 0)=true by simp[hm]];simp only[cond_true];exact hnext _ _ (hI.congr fun x y z=>by
     unfold Sb;constructor
     ·rintro⟨k1,k2⟩;exact⟨k1,by omega⟩
     ·rintro⟨k1,k2|⟨k2,k3⟩⟩
      ·exact⟨k1,.inl k2⟩
      ·by_cases hx:x=a
       ·subst hx;rcases k2 with rfl|rfl
        ·exact absurd ((hB z).1 k1).1 hm
        ·by_cases h0:0<b
         ·exact absurd ((hM h0 z).1 k1).1 hm
         ·have:b=0:=by omega
          subst this;exact absurd ((hB z).1 k1).1 hm
       ·exact⟨k1,.inr ⟨k2,by omega⟩⟩)
  ·refine⟨ks,vs,hI.congr fun x y z=>?_,fun K=>?_⟩
   ·unfold Sb Sf;constructor
    ·rintro⟨k1,k2⟩;exact⟨k1,by omega⟩
    ·rintro⟨k1,k2,k3⟩;refine⟨k1,?_⟩;by_cases hy:y=b∨y= -b
     ·refine .inr ⟨hy,?_⟩;have hyy:y*y=b*b:=by rcases hy with rfl|rfl<;>grind
      have e:=(aX hn hyy).1 k1.eq;have h5:=k1.cge;have h6:=k1.pos;rcases w7 x a with h7|h7
      ·exact h7
      ·have g1:=wZ (x:=a) (y:=x) (by omega) h7;have g2:x*x≤x*z:=ch h5 (by omega);omega
     ·exact .inl (by omega)
   ·rw[Q67.l7,e1,decide_eq_false hc];rfl
end
theorem wc {N:Nat}(hN:1000000001<N){d:Int}(hd: -65536≤d)(hd0:d<0)(hd4:d%4=0∨d%4=1):∀(n:Nat) (b:Int) (ks:List (List Int)) (vs:List Int),0≤b→b%2=d%2→b≤149→150-b<n→cF (fun x y z=>Rd d x y z∧ -b<y∧y<b) ks vs→
  ∃ks' vs',cF (Rd d) ks' vs'∧∀{T:Type} (K:List (List Int)→List Int→Option T),Q67.l3 N n d b ks vs K=K ks' vs'
 |0,b,ks,vs,_,_,_,h,_=>by omega
 |n+1,b,ks,vs,h1,h2,h3,h4,hI=>by
  have hs:=dL (b:=b) (M:=149) (by omega) (by omega);have e0:3*b*b=3*(b*b):=by grind
  have e1:aA (3*b)=3*b:=dA (by omega) (by omega);have e2:aA (3*b*b)=3*b*b:=dA (by omega) (by omega);have e3:aA (0-d)= -d:=by rw[show 0-d= -d by omega];exact dA (by omega) (by omega)
  have e4:aA (b*b)=b*b:=dA (by omega) (by omega);have e5:aA (b*b-d)=b*b-d:=dA (by omega) (by omega);have e6:aA (b+2)=b+2:=dA (by omega) (by omega);have e7:aA (Int.tdiv (b*b-d) 4)=(b*b-d)/4:=by rw[w5 (by omega)];exact dA (by omega) (by omega)
  by_cases hc:3*b*b≤ -d
  ·have hb:b≤147:=uJ (by omega) (by omega);have hn:4*((b*b-d)/4)=b*b-d:=by
    have hp:(b*b)%4=d%4:=by
     have e:b=2*(b/2)+b%2:=by omega
     generalize b/2=q at e;have hb2:b%2=0∨b%2=1:=by omega
     rcases hb2 with hb2|hb2<;>rw[hb2]at e
     ·have:b*b=4*(q*q):=by rw[e];grind
      omega
     ·have:b*b=4*(q*q+q)+1:=by rw[e];grind
      omega
    omega
   have hmx:ya b 1=if b<1 then 1 else b:=rfl
   obtain⟨k1,v1,r1,r2⟩:=Ch hN hd hd0 h1 hb hn N (ya b 1) ks vs (by rw[hmx];split<;>omega) (by rw[hmx];split<;>omega) (by rw[hmx];split<;>omega) (by rw[hmx];split<;>omega) (hI.congr fun x y z=>by
    unfold Sb;constructor
    ·rintro⟨k1,k2⟩;exact⟨k1,.inl k2⟩
    ·rintro⟨k1,k2|⟨k2,k3⟩⟩
     ·exact⟨k1,k2⟩
     ·have:=k1.lo;have:=k1.hi;have:=k1.pos;rw[hmx]at k3;split at k3<;>omega)
   obtain⟨k2,v2,s1,s2⟩:=wc hN hd hd0 hd4 n (b+2) k1 v1 (by omega) (by omega) (by omega) (by omega) (r1.congr fun x y z=>by
    unfold Sf;constructor
    ·rintro⟨k1,k2⟩;exact⟨k1,by omega⟩
    ·rintro⟨k1,k2⟩;have:=k1.parity;exact⟨k1,by omega⟩)
   refine⟨k2,v2,s1,fun K=>?_⟩;rw[Q67.l3,e1,e2,e3,decide_eq_true hc,cond_true,e4,e5,e7,r2];simp only[e6];exact s2 K
  ·refine⟨ks,vs,hI.congr fun x y z=>⟨fun h=>h.1,fun h=>⟨h,?_⟩⟩,fun K=>?_⟩
   ·have h5:=h.three;have e8:3*x*x=3*(x*x):=by grind
    have h6:=h.lo;have h7:=h.hi;have h8:=h.pos;rcases w7 x b with h9|h9
    ·omega
    ·have:=wZ (x:=b) (y:=x) (by omega) h9;omega
   ·rw[Q67.l3,e1,e2,e3,decide_eq_false hc];rfl
theorem B0 {N:Nat}(hN:1000000001<N){d:Int}(hd: -65536≤d)(hd0:d<0)(hd4:d%4=0∨d%4=1):∃ks vs,cF (Rd d) ks vs∧Q67.f N d=some (ks,vs):=by
 have e1:aA (0-d)= -d:=by rw[show 0-d= -d by omega];exact dA (by omega) (by omega)
 have e2:Int.tmod (-d) 2=(-d)%2:=hD (by omega);obtain⟨ks,vs,h1,h2⟩:=wc hN hd hd0 hd4 N ((-d)%2) [] [] (by omega) (by omega) (by omega) (by omega) (cF.nil fun x y z h=>by have:=h.1.parity;omega);refine⟨ks,vs,h1,?_⟩;unfold Q67.f;rw[e1,e2];exact h2 _
end Go.Proofs.Yteaakcmkpacpaaa.Cls
namespace Go.Proofs.Yteaakcmkpacpaaa.Cls
open Go Go.Proofs.Yteaakcmkpacpaaa.Ev
open Go.Proofs.Yteaakcmkpacpaaa.Pure (dA)
theorem rq {R:Type}{n:Nat}{f:Nat→Option R}{r:R}(h0:0<n)(h:∀i,i<n→f i=some r):sY n f=some r:=by
 unfold sY;have hx:0<n∧∃r,∀i,i<n→f i=some r:=⟨h0,r,h⟩
 rw[dif_pos hx];have:=Classical.choose_spec hx.2 0 h0;rw[←this,h 0 h0]
theorem kV {α:Type}:∀(l:List α) (i:Nat) (h:i<l.length),(l[i]::l.eraseIdx i).Perm l
 | [],i,h=>by simp at h
 |a::l,0,_=>.refl _
 |a::l,i+1,h=>by
  have h':i<l.length:=by simpa using h
  exact(List.Perm.swap a l[i] _).trans ((kV l i h').cons a)
theorem E5 {n:Int}(h:(Lit.int .i64 n).wf=true): -9223372036854775808≤n∧n<9223372036854775808:=by
 simp only[Lit.wf,IntKind.min,IntKind.max,IntKind.signed,IntKind.bits,if_true,Bool.and_eq_true,decide_eq_true_eq]at h;omega
def fu (ks:List (List Int))(j:Nat):R3:=row (ks.getD j [])
theorem sj (ks:List (List Int)):(List.range ks.length).map (fu ks)=ks.map row:=by
 apply List.ext_getElem?;intro i;by_cases h:i<ks.length
 ·simp[fu,xK h,zE,h]
 ·simp[h]
section
variable {d:Int}{ks:List (List Int)}{vs:List Int}
theorem cF.at (h:cF (Rd d) ks vs){j:Nat}(hj:j<ks.length):(ks.getD j []).getD 0 0=(fu ks j).1∧(ks.getD j []).getD 1 0=(fu ks j).2.1∧(ks.getD j []).getD 2 0=(fu ks j).2.2∧vs.getD j 0=gJ (fu ks j).1 (fu ks j).2.1 (fu ks j).2.2:=by
 refine⟨rfl,rfl,rfl,?_⟩;obtain⟨a,b,c,h1,h2⟩:=h.sound ks[j] (p6 hj);have h3:ks[j]?=some [a,b,c]:=by rw[xK hj,h1]
 have:=h.val j a b c h3;simp[fu,row,zE,h3,this]
theorem wU {N:Nat}(h:cF (Rd d) ks vs){T:Type}(K:List Int→Option T)(r:T):∀(n:Nat) (rem:List Nat) (X:List R3) (cur:Nat),(∀j∈rem,j<ks.length)→rem.length<n→X.length+rem.length≤45000→
  (∀Y:List R3,Y.Perm (X++(rem.map (fu ks)).filter mN)→K (dC Y)=some r)→Q74.l3 N n (dC X) ks vs ks.length rem cur K=some r
 |0,rem,X,cur,_,h2,_,_=>by omega
 |n+1,rem,X,cur,h1,h2,h3,hK=>by
  rw[Q74.l3];simp only[show Nat.beq ks.length ks.length=true from by simp,cond_true,Bool.true_and];cases hr:rem with
  |nil=>subst hr;simp only[List.isEmpty_nil,cond_true];exact hK X (by simp)
  |cons x0 r0=>
   rw[←hr];have hne:rem.isEmpty=false:=by rw[hr];rfl
   rw[hne,cond_false];refine rq (by rw[hr];simp) fun p hp=>?_;have hg:rem.getD p 0=rem[p]:=by simp[zE,xK hp]
   have hj:=h1 rem[p] (p6 hp);obtain⟨e1,e2,e3,e4⟩:=h.at hj;have hperm:(fu ks rem[p]::(rem.eraseIdx p).map (fu ks)).Perm (rem.map (fu ks)):=by have:=(kV _ _ hp).map (fu ks);simpa using this
   have hlen:(rem.eraseIdx p).length+1=rem.length:=by rw[List.length_eraseIdx];simp[hp];omega
   have hsub:∀j∈rem.eraseIdx p,j<ks.length:=fun j hj=>h1 j (List.mem_of_mem_eraseIdx hj);have hroom:=eP (R:=X) (by omega);have hblt:Nat.blt rem[p] ks.length=true:=by simpa[Nat.blt_eq]using hj
   simp only[hg,hblt,cond_true,e1,e2,e3,e4,hroom,vO];have hf:=hperm.filter mN;cases hq:gJ (fu ks rem[p]).1 (fu ks rem[p]).2.1 (fu ks rem[p]).2.2==1 with
   |true=>rw[cond_true];rw[fs (by exact hq)]at hf;refine wU h K r n _ _ _ hsub (by omega) (by simp;omega) fun Y hY=>hK Y (hY.trans ?_);rw[ae];exact List.Perm.append_left X hf
   |false=>rw[cond_false];rw[fp (by unfold mN;rw[hq];simp)]at hf;exact wU h K r n _ _ _ hsub (by omega) (by omega) fun Y hY=>hK Y (hY.trans (List.Perm.append_left X hf))
end
theorem tv {N:Nat}{Y R:List R3}(hp:Y.Perm R)(hs:R.Pairwise (fun a b=>jU a b=true))(hl:Y.length≤45000):Q73.f N (dC Y)=some (dC R):=by
 unfold Q73.f qT;rw[dX,←wJ hp.symm hs];have:Nat.blt (dC Y).length 4611686018427387904=true:=by rw[vG];simp[Nat.blt_eq];omega
 rw[this];rfl
def jY (d:Int):Prop:= -65536≤d∧d≤ -3∧(d%4=0∨d%4=1)
theorem dh {N:Nat}(hN:1000000001<N){d:Int}(hd:jY d):∃R,iR (Rd d) R∧uz R∧Q74.f N d=some (dC (R.filter mN))∧Q72.f N d=some (dC (R.filter mN)):=by
 obtain⟨h1,h2,h3⟩:=hd;obtain⟨R,r1,r2,r3⟩:=rV (N:=N) (by omega) h1 (by omega);obtain⟨s1,s2⟩:=tj (N:=N) (by omega) h1 (by omega) r1;obtain⟨ks,vs,k1,k2⟩:=B0 hN h1 (by omega) h3;have hp:=k1.perm r1;have hl:ks.length=R.length:=by have:=hp.length_eq;simpa using this
 have hl2:=s2.len;refine⟨R,r1,s2,?_,s1⟩;unfold Q74.f;rw[k2];simp only[pC];refine wU k1 _ _ N _ [] _ (fun j hj=>List.mem_range.mp hj) (by simp;omega) (by simp;omega) fun Y hY=>?_;rw[sj,bz]at hY;have hY2:=hY.trans (hp.filter mN);have:=hY2.length_eq;have:=kt mN R;rw[tv hY2 (r1.sorted.filter _) (by omega)];rfl
theorem rR (N:Nat)(d:Int)(hd: -9223372036854775808≤d)(hd1:d<9223372036854775808):(jY d∧Q66.f N d=some 0∧Q68.f N d=some 0)∨(¬jY d∧Q66.f N d=some 80∧Q68.f N d=some 80):=by
 unfold Q66.f Q68.f jY;by_cases q1:d< -65536
 ·refine .inr ⟨by omega,?_,?_⟩
  ·rw[decide_eq_true q1];rfl
  ·rw[decide_eq_true q1,decide_eq_false (by omega)];rfl
 by_cases q2:d> -3
 ·refine .inr ⟨by omega,?_,?_⟩
  ·rw[decide_eq_false q1,decide_eq_true q2];rfl
  ·rw[decide_eq_true q2];rfl
 have e1:aA (0-d)= -d:=by rw[show 0-d= -d by omega];exact dA (by omega) (by omega)
 have e2:Int.tmod (-d) 4=(-d)%4:=hD (by omega);rw[decide_eq_false q1,decide_eq_false q2,e1,e2];simp only[cond_false];have hm:(-d)%4=0∨(-d)%4=1∨(-d)%4=2∨(-d)%4=3:=by omega
 rcases hm with hm|hm|hm|hm<;>rw[hm]
 ·exact .inl ⟨by omega,rfl,rfl⟩
 ·exact .inr ⟨by omega,rfl,rfl⟩
 ·exact .inr ⟨by omega,rfl,rfl⟩
 ·exact .inl ⟨by omega,rfl,rfl⟩
theorem qU {N:Nat}(hN:1000000001<N){d:Int}(hd:jY d):∃R,iR (Rd d) R∧uz R∧Q75.f N d=some (dC (R.filter mN),0)∧Q72.f N d=some (dC (R.filter mN))∧iF.f N d=some (((R.filter mN).length:Int),0):=by
 obtain⟨R,r1,r2,r3,r4⟩:=dh hN hd;obtain⟨_,h2,_⟩|⟨h1,_⟩:=rR N d (by have:=hd.1;omega) (by have:=hd.2.1;omega)
 ·have hA:Q75.f N d=some (dC (R.filter mN),0):=by
   unfold Q75.f;rw[h2,r3];rfl
  refine⟨R,r1,r2,hA,r4,?_⟩;unfold iF.f;rw[hA];simp only[pC,aS]
 ·exact absurd hd h1
theorem Aq {N:Nat}{d:Int}(hd0: -9223372036854775808≤d)(hd1:d<9223372036854775808)(hd:¬jY d):Q75.f N d=some ([],80)∧iF.f N d=some (0,80)∧Q66.f N d=some 80∧Q68.f N d=some 80:=by
 obtain⟨h1,_⟩|⟨_,h2,h3⟩:=rR N d hd0 hd1
 ·exact absurd h1 hd
 ·have hA:Q75.f N d=some ([],80):=by
   unfold Q75.f;rw[h2];rfl
  refine⟨hA,?_,h2,h3⟩;unfold iF.f;rw[hA];rfl
abbrev N0:Nat:=8589934700
end Go.Proofs.Yteaakcmkpacpaaa.Cls
namespace Go.Proofs.Yteaakcmkpacpaaa.Pure
open Go Go.Proofs.Yteaakcmkpacpaaa.Ev Go.Proofs.Yteaakcmkpacpaaa.Cls
end Go.Proofs.Yteaakcmkpacpaaa.Pure
namespace Go.Proofs.Yteaakcmkpacpaaa.Cls
open Go Go.Proofs.Yteaakcmkpacpaaa.Ev
open Go.Proofs.Yteaakcmkpacpaaa.Pure (dA nI ct gK aC iG pL ay oN lr aw wS gG)
theorem F8 {d a b c:Int}(h:nI a b c)(hr:gK a b)(hs:¬aC a b c)(hd:b*b-4*a*c=d):Rd d a b c:=by
 unfold gK at hr;unfold aC at hs;exact⟨hd,h.pos,hr.1,hr.2,by omega⟩
theorem Bp {d a b c:Int}(hd:jY d)(h:Rd d a b c):nI a b c∧gK a b∧¬aC a b c:=by
 have h1:=h.small hd.1;have h2:=h.csmall hd.1;have h3:=h.pos;have h4:=h.lo;have h5:=h.hi;have h6:=h.eq;have h7:=h.last;obtain⟨g1,g2,g3⟩:=hd;exact⟨⟨⟨by omega,by omega,by omega⟩,h3,by omega,by omega⟩,⟨h4,h5⟩,by unfold aC;omega⟩
theorem Gc (b:Int):(b*b)%4=0∨(b*b)%4=1:=by
 rcases(show b%2=0∨b%2=1 by omega)with hb|hb
 ·have e2:b=2*(b/2):=by omega
  have e3:b*b=4*((b/2)*(b/2)):=by generalize b/2=q at*;subst e2;grind
  omega
 ·have e2:b=2*(b/2)+1:=by omega
  have e3:b*b=4*((b/2)*(b/2)+(b/2))+1:=by generalize b/2=q at*;subst e2;grind
  omega
theorem fc {a b c:Int}(h:nI a b c)(h2: -65536≤b*b-4*a*c):jY (b*b-4*a*c):=by
 have e:4*a*c=4*(a*c):=by grind
 have:=Gc b;have:=h.d0;exact⟨h2,by omega,by omega⟩
theorem tY (N:Nat){a b c:Int}(h:nI a b c):Q37.f N a b c=some (b*b-4*a*c)∧Q45.f N a b c=some (b*b-4*a*c):=by
 have:=iG N a b c;rw[if_pos h.inb,pL h.inb]at this;exact this
structure Cl (d:Int)(L:List R3):Prop where
 up:L.Pairwise Co
 mem:∀x,x∈L↔Rd d x.1 x.2.1 x.2.2∧gJ x.1 x.2.1 x.2.2=1
 len:L.length≤45000
theorem Cl.nodup {d:Int}{L:List R3}(h:Cl d L):L.Nodup:=h.up.imp (fun hx=>xn hx)
theorem we {N:Nat}(hN:1000000001<N){d:Int}(hd:jY d):∃L,Cl d L∧Q74.f N d=some (dC L)∧Q72.f N d=some (dC L)∧Q75.f N d=some (dC L,0)∧iF.f N d=some ((L.length:Int),0):=by
 obtain⟨R,r1,r2,r3,r4,r5⟩:=qU hN hd;obtain⟨R',s1,s2,s3,s4⟩:=dh hN hd;obtain rfl:=r1.one s1;refine⟨R.filter mN,⟨r1.up.filter _,fun x=>?_,by have:=r2.len;have:=kt mN R;omega⟩,s3,s4,r3,r5⟩;rw[e9,r1.mem];unfold mN;rw[beq_iff_eq]
end Go.Proofs.Yteaakcmkpacpaaa.Cls
namespace Go.Proofs.Yteaakcmkpacpaaa.Pure
open Go Go.Proofs.Yteaakcmkpacpaaa.Ev Go.Proofs.Yteaakcmkpacpaaa.Cls
end Go.Proofs.Yteaakcmkpacpaaa.Pure
namespace Go.Proofs.Yteaakcmkpacpaaa.Gen
open Go Go.Proofs.Yteaakcmkpacpaaa.Ev
open Go.Proofs.Yteaakcmkpacpaaa.Pure (dA hJ)
def jD (p:Nat):Prop:=1<p∧∀m,m∣p→m=1∨m=p
theorem jD.cop {p a:Nat}(h:jD p)(ha:¬p∣a):Nat.gcd a p=1:=by
 rcases h.2 _ (x6 a p)with e|e
 ·exact e
 ·exact absurd (by have:=c7 a p;rwa[e]at this) ha
abbrev PL:=List (Nat×Nat)
def aY:PL→List Int
 | []=>[]
 |x::l=>(x.1:Int)::(x.2:Int)::aY l
def vD:PL→Nat
 | []=>1
 |x::l=>x.1^x.2*vD l
theorem nx:∀a b:PL,aY (a++b)=aY a++aY b
 | [],b=>rfl
 |x::a,b=>by simp[aY,nx a b]
theorem o8:∀a:PL,(aY a).length=2*a.length
 | []=>rfl
 |x::a=>by simp only[aY,ec,o8 a];omega
theorem fe (a:PL):((aY a).length/2:Int)=(a.length:Int):=by rw[o8];omega
theorem xc:∀{a:PL} {i:Nat} (h:i<a.length),(aY a).getD (i*2) 0=(a[i].1:Int)∧(aY a).getD (i*2+1) 0=(a[i].2:Int)
 |x::a,0,_=>⟨rfl,rfl⟩
 |x::a,i+1,h=>by
  have:=xc (a:=a) (i:=i) (by simpa using h);have e1:(i+1)*2=i*2+1+1:=by omega
  have e2:(i+1)*2+1=i*2+1+1+1:=by omega
  rw[e2,e1];exact this
theorem kS:∀a b:PL,vD (a++b)=vD a*vD b
 | [],b=>(x5 _).symm
 |x::a,b=>by simp only[List.cons_append,vD];rw[kS a b,o2]
structure Fz (n:Nat)(l:PL):Prop where
 up:l.Pairwise (fun a b=>a.1<b.1)
 pr:∀x∈l,jD x.1∧0<x.2
 prod:vD l=n
theorem yW:∀{l:PL},(∀x∈l,jD x.1∧0<x.2)→l.length<vD l
 | [],_=>by simp[vD]
 |x::l,h=>by have ih:=yW (l:=l) (fun y hy=>h y (hE _ hy));obtain⟨h1,h2⟩:=h x (by simp);have h3:1<x.1^x.2:=Nat.one_lt_pow (by omega) h1.1;simp only[vD,ec];have:=b5 (show 2≤x.1^x.2 by omega) (y4 (vD l));omega
def Fr (p n:Nat):Prop:=∀m,1<m→m∣n→p≤m
theorem Fr.prime {p n:Nat}(h:Fr p n)(hp:1<p)(hd:p∣n):jD p:=
 ⟨hp,fun m hm=>by
  have h0:0<m:=lu hm (by omega);rcases n4 1 m with h1|h1
  ·have:=h m h1 (hS hm hd);have:=k7 (by omega) hm;exact .inr (by omega)
  ·exact .inl (by omega)⟩
theorem Fr.last {p n:Nat}(h:Fr p n)(hn:1<n)(hs:n<p*p):jD n:=
 ⟨hn,fun m hm=>by
  obtain⟨k,rfl⟩:=hm;have hm0:0<m:=q6 fun e=>by subst e;simp at hn
  have hk0:0<k:=q6 fun e=>by subst e;simp at hn
  rcases n4 1 m with h1|h1
  ·rcases n4 1 k with h2|h2
   ·have a1:=h m h1 ⟨k,rfl⟩;have a2:=h k h2 ⟨m,hG _ _⟩;have:=b5 a1 a2;omega
   ·have:k=1:=by omega
    subst this;exact .inr (by omega)
  ·exact .inl (by omega)⟩
theorem Fr.dvd {p n m:Nat}(h:Fr p n)(hm:m∣n):Fr p m:=fun k h1 h2=>h k h1 (hS h2 hm)
theorem Fr.succ {p n:Nat}(h:Fr p n)(hd:¬p∣n):Fr (p+1) n:=fun m h1 h2=>by
 have:=h m h1 h2;rcases n4 p m with h3|h3
 ·omega
 ·have:m=p:=by omega
  subst this;exact absurd h2 hd
theorem aR {p:Nat}(hp:1<p):∀(f n:Nat),0<n→n<f→∃j m,n=p^j*m∧¬p∣m
 |0,n,_,h=>by omega
 |f+1,n,hn,h=>by
  by_cases hd:p∣n
  ·obtain⟨k,rfl⟩:=hd;have hk:0<k:=q6 fun e=>by subst e;simp at hn
   have:k<p*k:=by have:=b5 (show 2≤p by omega) (y4 k);omega
   obtain⟨j,m,e,hm⟩:=aR hp f k hk (by omega);exact⟨j+1,m,by rw[e,s5,hG (p^j) p,o2],hm⟩
  ·exact⟨0,n,by simp,hd⟩
theorem Ax {p:Nat}(h:0<p):(!((p:Int)==0))=true:=by
 have:((p:Int)==0)=false:=beq_eq_false_iff_ne.mpr (by omega);rw[this];rfl
theorem Ad (a b:Nat):Int.tmod (a:Int) (b:Int)=((a%b:Nat):Int):=Int.ofNat_tmod a b
theorem Cz (a b:Nat):Int.tdiv (a:Int) (b:Int)=((a/b:Nat):Int):=Int.ofNat_tdiv a b
theorem Cg (a:Nat):((a:Int)==0)=decide (a=0):=by
 by_cases h:a=0
 ·subst h;rfl
 ·rw[decide_eq_false h];exact beq_eq_false_iff_ne.mpr (by omega)
theorem E7 {a:Nat}(h:a<9223372036854775808):aA (a:Int)=(a:Int):=dA (by omega) (by omega)
theorem tX {a:Nat}(h:a<9223372036854775807):aA ((a:Int)+1)=((a+1:Nat):Int):=by rw[dA (by omega) (by omega)];omega
theorem xv (N:Nat){R:Type}{p:Nat}(hp:1<p)(l:List Int)(K:Int→Int→Int→List Int→Option R):∀(f k j m:Nat),¬p∣m→0<m→j<f→k+j<1000000→p^j*m<1000000→
  Q76.l1 N f (p:Int) (k:Int) ((p^j*m:Nat):Int) l K=K (p:Int) ((k+j:Nat):Int) (m:Int) l
 |0,k,j,m,_,_,h,_,_=>by omega
 |f+1,k,j,m,hd,hm,h,hk,hb=>by
  rw[Q76.l1];simp only[Ax (show 0<p by omega),cond_true];rw[Ad,Cg];cases j with
  |zero=>rw[cd,x5,decide_eq_false (fun e=>hd (aE e)),cond_false];rfl
  |succ j=>
   have e:p^(j+1)*m=p*(p^j*m):=by rw[s5,hG (p^j) p,o2]
   have hlt:p^j*m≤p^(j+1)*m:=by rw[e];exact hW _ (by omega)
   rw[decide_eq_true (by rw[e];exact a7 _ _),cond_true,Cz,e,gg _ (by omega),E7 (by omega),tX (by omega)];have:=xv N hp l K f (k+1) j m hd hm (by omega) (by omega) (by omega);rw[this];congr 2;omega
theorem Do {l:List Int}(h:l.length≤1000000):zA ((l.length+2)/2) 16=true:=by
 simp only[zA,decide_eq_true_eq];omega
theorem pt {p j:Nat}(hp:1<p):j<p^j:=Nat.lt_pow_self hp
theorem Cr {N:Nat}(hN:1000000<N){p j m:Nat}(hp:1<p)(hd:¬p∣m)(hm:0<m)(hb:p^j*m<1000000){l:PL}(hl:l.length<100000):
  Q76.f N (p:Int) ((p^j*m:Nat):Int) (aY l)=some (decide (0<j),(m:Int),if 0<j then aY (l++[(p,j)])else aY l):=by
 unfold Q76.f;have hj:j<1000000:=by have:=pt (j:=j) hp;have:=aa (p^j) hm;omega
 have:=xv N hp (aY l) (fun y12 y13 y14 y15=>bif decide (y13>0)then bif zA ((y15.length+2)/2) 16 then some (true,y14,y15++[y12,y13])else none else some (false,y14,y15)) N 0 j m hd hm (by omega) (by omega) hb;rw[b8]at this;rw[this];simp only[mx];rw[Do (by rw[o8];omega)];by_cases h0:0<j
 ·rw[decide_eq_true (show(j:Int)>0 by omega),decide_eq_true h0,if_pos h0,nx];rfl
 ·rw[decide_eq_false (show ¬(j:Int)>0 by omega),decide_eq_false h0,if_neg h0];rfl
structure St (n0 p n:Nat)(l:PL):Prop where
 up:l.Pairwise (fun a b=>a.1<b.1)
 pr:∀x∈l,jD x.1∧0<x.2∧x.1<p
 prod:vD l*n=n0
 fr:Fr p n
 pos:0<n
theorem St.len {n0 p n:Nat}{l:PL}(h:St n0 p n l):l.length<n0+1∧n≤n0:=by
 have h1:=yW (l:=l) (fun x hx=>⟨(h.pr x hx).1,(h.pr x hx).2.1⟩);have h2:=h.prod;have h3:=h.pos;have:=aa (vD l) h3;have:=hW n (show 0<vD l by omega);omega
theorem St.step {n0 p j m:Nat}{l:PL}(h:St n0 p (p^j*m) l)(hp:1<p)(hd:¬p∣m):St n0 (p+1) m (if 0<j then l++[(p,j)]else l):=by
 have hm:0<m:=q6 fun e=>by subst e;exact hd (mm _)
 by_cases h0:0<j
 ·rw[if_pos h0];have hpp:jD p:=h.fr.prime hp (hS (hS (by simp) (Nat.pow_dvd_pow p (show 1≤j by omega))) ⟨m,rfl⟩);refine⟨?_,fun x hx=>?_,?_,(h.fr.dvd ⟨p^j,hG _ _⟩).succ hd,hm⟩
  ·rw[cb];exact⟨h.up,by simp,fun a ha b hb=>by simp only[yK]at hb;subst hb;exact(h.pr a ha).2.2⟩
  ·simp only[a6,yK]at hx;rcases hx with hx|rfl
   ·exact⟨(h.pr x hx).1,(h.pr x hx).2.1,by have:=(h.pr x hx).2.2;omega⟩
   ·exact⟨hpp,h0,by simp⟩
  ·rw[kS];simp only[vD,il];rw[o2];exact h.prod
 ·rw[if_neg h0];have:j=0:=by omega
  subst this;have hf:=h.prod;rw[cd,x5]at hf;exact⟨h.up,fun x hx=>⟨(h.pr x hx).1,(h.pr x hx).2.1,by have:=(h.pr x hx).2.2;omega⟩,hf,(h.fr.dvd ⟨p^0,hG _ _⟩).succ hd,hm⟩
theorem St.end {n0 p n:Nat}{l:PL}(h:St n0 p n l)(hs:n<p*p):Fz n0 (if 1<n then l++[(n,1)]else l):=by
 by_cases h1:1<n
 ·rw[if_pos h1];have hq:=h.fr.last h1 hs;refine⟨?_,fun x hx=>?_,?_⟩
  ·rw[cb];refine⟨h.up,by simp,fun a ha b hb=>?_⟩;simp only[yK]at hb;subst hb;have:=(h.pr a ha).2.2;have:=h.fr n h1 (mb _);simp only;omega
  ·simp only[a6,yK]at hx;rcases hx with hx|rfl
   ·exact⟨(h.pr x hx).1,(h.pr x hx).2.1⟩
   ·exact⟨hq,by simp⟩
  ·rw[kS];simp only[vD,il,kd];exact h.prod
 ·rw[if_neg h1];have:=h.pos;have:n=1:=by omega
  subst this;exact⟨h.up,fun x hx=>⟨(h.pr x hx).1,(h.pr x hx).2.1⟩,by have:=h.prod;omega⟩
theorem St.skip {n0 p n:Nat}{l:PL}(h:St n0 p n l)(hp:2<p)(he:p%2=0):St n0 (p+1) n l:=
 ⟨h.up,fun x hx=>⟨(h.pr x hx).1,(h.pr x hx).2.1,by have:=(h.pr x hx).2.2;omega⟩,h.prod,h.fr.succ fun hd=>by have:=h.fr 2 (by omega) (hS (aE he) hd);omega,h.pos⟩
theorem rn {α:Type}(b:Bool)(x:α):(bif b then x else x)=x:=by cases b<;>rfl
theorem Ds {p n:Nat}(hp:p≤1000000):decide (aA ((p:Int)*(p:Int))≤(n:Int))=decide (p*p≤n):=by
 have h1:p*p≤1000000*1000000:=b5 hp hp;rw[←gr,E7 (by omega),decide_eq_decide];omega
theorem Fs {p:Nat}(hp:p<1000000):iB .i64 (p:Int) 1=((p%2:Nat):Int):=by
 have:=hJ (x:=(p:Int)) (by omega) (by omega) 1 (by decide);simp only[Int.reducePow,Int.reduceSub]at this;rw[this];omega
theorem xu {N:Nat}(hN:1000000<N){n0:Nat}(hn:n0≤65536){R:Type}(K:Int→List Int→Option R):∀(f p n:Nat) (l:PL),St n0 p n l→1<p→(p=2∨p%2=1)→p≤n0+4→n0+5-p<f→
  ∃n' l' p',St n0 p' n' l'∧n'<p'*p'∧Q77.l8 N f (p:Int) (n:Int) (aY l) K=K (n':Int) (aY l')
 |0,p,n,l,_,_,_,_,h=>by omega
 |f+1,p,n,l,h,hp,hodd,hpn,hf=>by
  obtain⟨hl1,hl2⟩:=h.len;rw[Q77.l8,Ds (by omega)];by_cases hs:p*p≤n
  ·rw[decide_eq_true hs,cond_true];obtain⟨j,m,rfl,hd⟩:=aR hp (n+1) n h.pos (by omega);have hm:0<m:=q6 fun e=>by subst e;exact hd (mm _)
   rw[Cr hN hp hd hm (by omega) (by omega)];have hst:=h.step hp hd;have hpn2:p≤n0:=by have:=b5 (show 1≤p by omega) (y4 p);omega
   simp only[pC,rn];have e1:aA ((p:Int)+aA (1+iB .i64 (p:Int) 1))=((p+(1+p%2):Nat):Int):=by have e3:aA (1+((p%2:Nat):Int))=1+((p%2:Nat):Int):=dA (by omega) (by omega);rw[Fs (by omega),e3,dA (by omega) (by omega)];omega
   rw[e1];have e2:(if 0<j then aY (l++[(p,j)])else aY l)=aY (if 0<j then l++[(p,j)]else l):=by split<;>rfl
   rw[e2];rcases hodd with rfl|hodd
   ·exact xu hN hn K f 3 m _ hst (by omega) (by omega) (by omega) (by omega)
   ·have hst2:=hst.skip (by omega) (by omega);rw[hodd];exact xu hN hn K f (p+2) m _ hst2 (by omega) (by omega) (by omega) (by omega)
  ·rw[decide_eq_false hs,cond_false];exact⟨n,l,p,h,by omega,rfl⟩
theorem fb {N:Nat}(hN:1000000<N){n:Nat}(h0:0<n)(h1:n≤65536):∃l,Fz n l∧Q77.f N (n:Int)=some (aY l,0):=by
 unfold Q77.f;rw[decide_eq_false (show ¬(n:Int)<1 by omega),decide_eq_false (show ¬(n:Int)>1099511627776 by omega)];simp only[cond_false];obtain⟨n',l',p',hst,hs,e⟩:=xu hN h1 (fun y8 y9=>bif decide (y8>1)then(Q76.f N y8 y8 y9).bind fun r10=>bif r10.1 then some (r10.2.2,0)else some (r10.2.2,(0:Int))else some (y9,0)) N 2 n [] ⟨.nil,fun x hx=>(by cases hx),(by simp[vD]),fun m h2 _=>h2,h0⟩ (by omega) (.inl rfl) (by omega) (by omega);obtain⟨q1,q2⟩:=hst.len;refine⟨_,hst.end hs,e.trans ?_⟩;by_cases hn:1<n'
 ·rw[decide_eq_true (show(n':Int)>1 by omega),if_pos hn,cond_true];have:=Cr hN hn (j:=1) (m:=1) (by intro hd;have:=cu.mp hd;omega) (by omega) (by simp;omega) (l:=l') (by omega);rw[kd,il]at this;rw[this];rfl
 ·rw[decide_eq_false (show ¬(n':Int)>1 by omega),if_neg hn,cond_false]
theorem jD.dvd_mul {p a b:Nat}(h:jD p)(hd:p∣a*b):p∣a∨p∣b:=by
 by_cases ha:p∣a
 ·exact .inl ha
 ·exact .inr ((Nat.Coprime.symm (h.cop ha)).dvd_of_dvd_mul_left hd)
theorem jD.dvd_pow {p a:Nat}(h:jD p):∀{k:Nat},p∣a^k→p∣a
 |0,hd=>by have:=h.1;have:=cu.mp (by simpa using hd);omega
 |k+1,hd=>by
  rw[s5]at hd;rcases h.dvd_mul hd with h1|h1
  ·exact jD.dvd_pow h h1
  ·exact h1
theorem jD.eq {p q:Nat}(h:jD p)(k:jD q)(hd:p∣q):p=q:=(k.2 p hd).resolve_left (by have:=h.1;omega)
theorem jD.in_prod {p:Nat}(h:jD p):∀{l:PL},(∀x∈l,jD x.1∧0<x.2)→p∣vD l→∃x∈l,x.1=p
 | [],_,hd=>by have:=h.1;have:=cu.mp hd;omega
 |x::l,hl,hd=>by
  rcases h.dvd_mul hd with h1|h1
  ·exact⟨x,by simp,(h.eq (hl x (by simp)).1 (h.dvd_pow h1)).symm⟩
  ·obtain⟨y,h2,h3⟩:=jD.in_prod h (fun y hy=>hl y (hE _ hy)) h1;exact⟨y,hE _ h2,h3⟩
end Go.Proofs.Yteaakcmkpacpaaa.Gen
namespace Go.Proofs.Yteaakcmkpacpaaa.Jac
def sm (f:Nat→Nat):Nat→Nat
 |0=>0
 |n+1=>sm f n+f (n+1)
theorem fH {f g:Nat→Nat}:∀n,(∀k,1≤k→k≤n→f k=g k)→sm f n=sm g n
 |0,_=>rfl
 |n+1,h=>by simp only[sm];rw[fH n (fun k h1 h2=>h k h1 (by omega)),h (n+1) (by omega) (y4 _)]
theorem qN (f g:Nat→Nat):∀n,sm (fun k=>f k+g k) n=sm f n+sm g n
 |0=>rfl
 |n+1=>by simp only[sm];rw[qN f g n];omega
theorem A1 (c:Nat)(f:Nat→Nat):∀n,sm (fun k=>c*f k) n=c*sm f n
 |0=>by simp[sm]
 |n+1=>by simp only[sm];rw[A1 c f n,gz]
theorem mn {f g:Nat→Nat}:∀n,(∀k,1≤k→k≤n→f k%2=g k%2)→sm f n%2=sm g n%2
 |0,_=>rfl
 |n+1,h=>by simp only[sm];have h1:=mn n (fun k h1 h2=>h k h1 (by omega));have h2:=h (n+1) (by omega) (y4 _);omega
theorem dI (c:Nat):∀n,sm (fun _=>c) n=c*n
 |0=>rfl
 |n+1=>by simp only[sm];rw[dI c n,Nat.mul_succ]
theorem qc (f:Nat→Nat→Nat)(m:Nat):∀n,sm (fun k=>sm (fun j=>f k j) m) n=sm (fun j=>sm (fun k=>f k j) n) m
 |0=>by
  have:∀m,sm (fun _=>0) m=0:=fun m=>by rw[dI];simp
  simp only[sm];rw[this]
 |n+1=>by simp only[sm];rw[qc f m n,←qN]
theorem bj (f:Nat→Nat):∀n,sm f n=((List.range' 1 n).map f).sum
 |0=>rfl
 |n+1=>by rw[c8,gx,List.sum_append];simp only[sm,bn,eh,List.sum_cons,List.sum_nil];rw[bj f n,Nat.add_comm 1 n];simp
theorem yb:∀(l m:List Nat),l.Nodup→(∀x∈l,x∈m)→l.length≤m.length
 | [],m,_,_=>Nat.zero_le _
 |x::l,m,hn,hs=>by obtain⟨h1,h2⟩:=List.nodup_cons.mp hn;have hx:=hs x (by simp);have ih:=yb l (m.erase x) h2 (fun y hy=>(bx (fun(e:y=x)=>h1 (by rw[←e];exact hy))).mpr (hs y (by simp[hy])));rw[x9 hx]at ih;have:=bb hx;simp only[ec];omega
theorem ag {l m:List Nat}(h1:l.Nodup)(h2:m.Nodup)(hs:∀x∈l,x∈m)(hl:m.length≤l.length):l.Perm m:=by
 rw[List.perm_iff_count];have back:∀y∈m,y∈l:=by intro y hy;apply Classical.byContradiction;intro hn;have:=yb l (m.erase y) h1 (fun x hx=>(bx (fun(e:x=y)=>hn (by rw[←e];exact hx))).mpr (hs x hx));rw[x9 hy]at this;have:=bb hy;omega
 intro a;by_cases ha:a∈l
 ·rw[List.Nodup.count h1,List.Nodup.count h2,if_pos ha,if_pos (hs a ha)]
 ·rw[List.count_eq_zero.mpr ha,List.count_eq_zero.mpr (fun h=>ha (back a h))]
theorem qb {r:Nat→Nat}(f:Nat→Nat)(n:Nat)(h1:∀k,1≤k→k≤n→1≤r k∧r k≤n)(h2:∀j k,1≤j→j≤n→1≤k→k≤n→r j=r k→j=k):sm (fun k=>f (r k)) n=sm f n:=by
 have hp:((List.range' 1 n).map r).Perm (List.range' 1 n):=by
  refine ag ?_ q5 (fun x hx=>?_) (by simp)
  ·rw[List.Nodup,r7];refine List.Pairwise.imp_of_mem ?_ (q5 (s:=1) (n:=n));intro a b ha hb hne e;rw[hV]at ha hb;exact hne (h2 a b (by omega) (by omega) (by omega) (by omega) e)
  ·obtain⟨k,hk,rfl⟩:=w4.mp hx;rw[hV]at hk⊢;have:=h1 k (by omega) (by omega);omega
 rw[bj,bj];have:=(hp.map f).sum_nat;rw[List.map_map]at this;exact this
def neg (n x:Nat):Nat:=if n<2*(x%n)then 1 else 0
def ro (n x:Nat):Nat:=if n<2*(x%n)then n-x%n else x%n
def mu (a n:Nat):Nat:=sm (fun k=>neg n (a*k)) (n/2)
theorem lf {a n k:Nat}(hc:Nat.gcd a n=1)(h1:1≤k)(h2:k<n):(a*k)%n≠0:=by
 intro h;have hd:=aE h;have:=Nat.Coprime.dvd_of_dvd_mul_left (show Nat.Coprime n a by rw[Nat.Coprime,o3];exact hc) hd;have:=k7 (by omega) this;omega
theorem vQ {a n k:Nat}(hn:n%2=1)(hc:Nat.gcd a n=1)(h1:1≤k)(h2:k≤n/2):1≤ro n (a*k)∧ro n (a*k)≤n/2:=by
 have h3:=lf hc h1 (show k<n by omega);have h4:=y0 (a*k) (show 0<n by omega);unfold ro;split<;>omega
theorem ly {a n j k:Nat}(hn:n%2=1)(hc:Nat.gcd a n=1)(j1:1≤j)(j2:j≤n/2)(k1:1≤k)(k2:k≤n/2)(e:ro n (a*j)=ro n (a*k)):j=k:=by
 have hcop:Nat.Coprime n a:=by rw[Nat.Coprime,o3];exact hc
 have m1:=y0 (a*j) (show 0<n by omega);have m2:=y0 (a*k) (show 0<n by omega);have sumc:(a*j)%n+(a*k)%n≠n:=by
  intro h;have:(a*(j+k))%n=0:=by rw[gz,bc,h,Nat.mod_self]
  exact lf hc (show 1≤j+k by omega) (by omega) this
 have same:(a*j)%n=(a*k)%n→j=k:=by
  intro h;rcases Nat.lt_trichotomy j k with q|q|q
  ·exfalso;have:(a*(k-j))%n=0:=by
    rw[iv];exact b6 h.symm
   exact lf hc (show 1≤k-j by omega) (by omega) this
  ·exact q
  ·exfalso;have:(a*(j-k))%n=0:=by
    rw[iv];exact b6 h
   exact lf hc (show 1≤j-k by omega) (by omega) this
 unfold ro at e;split at e<;>split at e
 ·exact same (by omega)
 ·exfalso;exact sumc (by omega)
 ·exfalso;exact sumc (by omega)
 ·exact same e
theorem nW {a n:Nat}(hn:n%2=1)(hc:Nat.gcd a n=1):(mu a n+sm (fun k=>a*k/n) (n/2)+(a+1)*sm (fun k=>k) (n/2))%2=0:=by
 have key:sm (fun k=>a*k+(a*k/n+(neg n (a*k)+ro n (a*k)))) (n/2)%2=sm (fun _=>0) (n/2)%2:=by
  apply mn;intro k h1 h2;have hm:=Nat.div_add_mod (a*k) n;have hlt:=y0 (a*k) (show 0<n by omega);have hr:(neg n (a*k)+ro n (a*k))%2=((a*k)%n)%2:=by unfold neg ro;split<;>omega
  generalize hq:a*k/n=q at*;generalize hr2:(a*k)%n=r at*;generalize neg n (a*k)+ro n (a*k)=v at*;have e:(n*q)%2=q%2:=by rw[l0,hn];simp
  omega
 rw[qN,qN,qN,dI]at key;have e1:sm (fun k=>a*k) (n/2)=a*sm (fun k=>k) (n/2):=A1 a (fun k=>k) _;have e2:sm (fun k=>ro n (a*k)) (n/2)=sm (fun k=>k) (n/2):=qb (r:=fun k=>ro n (a*k)) (fun k=>k) (n/2) (fun k h1 h2=>vQ hn hc h1 h2) (fun j k j1 j2 k1 k2 e=>ly hn hc j1 j2 k1 k2 e);rw[e1,e2]at key;unfold mu;rw[Nat.add_mul,x5];omega
theorem Bh {n a x:Nat}(hn:n%2=1)(hx:(a*ro n x)%n≠0):neg n (a*x)%2=(neg n x+neg n (a*ro n x))%2:=by
 have hp:0<n:=by omega
 have hx2:=y0 x hp;have e0:(a*x)%n=(a*(x%n))%n:=by rw[l0,l0 a (x%n),pn]
 by_cases h:n<2*(x%n)
 ·have hr:ro n x=n-x%n:=by unfold ro;rw[if_pos h]
  have h1:neg n x=1:=by unfold neg;rw[if_pos h]
  rw[hr]at hx⊢;have hs:((a*(x%n))%n+(a*(n-x%n))%n)%n=0:=by rw[←bc,←gz,show x%n+(n-x%n)=n by omega,Nat.mul_mod_left]
  have l1:=y0 (a*(x%n)) hp;have l2:=y0 (a*(n-x%n)) hp;have hsum:(a*(x%n))%n+(a*(n-x%n))%n=n:=by
   rcases n4 ((a*(x%n))%n+(a*(n-x%n))%n) n with q|q
   ·rw[hC q]at hs;omega
   ·rw[Nat.mod_eq_sub_mod q,hC (by omega)]at hs;omega
  rw[h1];unfold neg;rw[e0];split<;>split<;>omega
 ·have hr:ro n x=x%n:=by unfold ro;rw[if_neg h]
  have h1:neg n x=0:=by unfold neg;rw[if_neg h]
  rw[hr,h1,mx];unfold neg;rw[e0]
theorem yG {a b n:Nat}(hn:n%2=1)(ha:Nat.gcd a n=1)(hb:Nat.gcd b n=1):mu (a*b) n%2=(mu a n+mu b n)%2:=by
 have h1:mu (a*b) n%2=sm (fun k=>neg n (b*k)+neg n (a*ro n (b*k))) (n/2)%2:=by unfold mu;apply mn;intro k k1 k2;rw[o2];apply Bh hn;have:=vQ hn hb k1 k2;exact lf ha this.1 (by omega)
 rw[h1,qN];have h2:sm (fun k=>neg n (a*ro n (b*k))) (n/2)=sm (fun k=>neg n (a*k)) (n/2):=qb (r:=fun k=>ro n (b*k)) (fun x=>neg n (a*x)) (n/2) (fun k h1 h2=>vQ hn hb h1 h2) (fun j k j1 j2 k1 k2 e=>ly hn hb j1 j2 k1 k2 e);rw[h2];unfold mu;omega
theorem oH (a n:Nat):mu (a%n) n=mu a n:=by
 unfold mu;apply fH;intro k _ _;unfold neg;rw[l0,pn,←l0]
theorem Cw:∀n,2*sm (fun k=>k) n=n*(n+1)
 |0=>rfl
 |n+1=>by simp only[sm];rw[gz,Cw n,←Nat.add_mul,hG]
theorem wL {n:Nat}(hn:n%2=1):Nat.gcd 2 n=1:=by rw[pb,hn];rfl
theorem Df {n:Nat}(hn:n%2=1):mu 2 n%2=sm (fun k=>k) (n/2)%2:=by
 have h:=nW (a:=2) hn (wL hn);have e:sm (fun k=>2*k/n) (n/2)=sm (fun _=>0) (n/2):=fH _ (fun k h1 h2=>Nat.div_eq_of_lt (by omega));rw[e,dI]at h;omega
theorem u9 {n:Nat}(hn:n%2=1):mu 2 n%2=if n%8=1∨n%8=7 then 0 else 1:=by
 rw[Df hn];have h:=Cw (n/2);generalize sm (fun k=>k) (n/2)=t at h;obtain⟨q,r,hq,hr⟩:∃q r,n=8*q+r∧r<8:=⟨n/8,n%8,by omega,by omega⟩
 have hodd:r%2=1:=by omega
 have hn2:n/2=4*q+r/2:=by omega
 rw[hn2]at h;have e8:n%8=r:=by omega
 rw[e8];have e:(4*q+r/2)*(4*q+r/2+1)=4*(4*(q*q)+2*(q*(r/2))+q)+(r/2)*(r/2+1):=by grind
 rw[e]at h;rcases(show r=1∨r=3∨r=5∨r=7 by omega)with k|k|k|k<;>subst k<;>simp at h⊢ <;>omega
theorem D0 {n x:Nat}(hn:0<n)(hx:x%n≠0):∀g,sm (fun j=>if n*j<x then 1 else 0) g=min g (x/n)
 |0=>by simp[sm]
 |g+1=>by
  simp only[sm];rw[D0 hn hx g];have hd:=Nat.div_add_mod x n;have hl:=y0 x hn;by_cases h:n*(g+1)<x
  ·rw[if_pos h];have:g+1≤x/n:=(Nat.le_div_iff_mul_le hn).mpr (by rw[hG];omega);omega
  ·rw[if_neg h];have:x/n<g+1:=(lp hn).mpr (by
    rw[hG];have hne:x≠n*(g+1):=fun e=>hx (by rw[e,a7]);omega)
   omega
theorem Bc {m n:Nat}(hm:m%2=1)(hn:n%2=1)(hc:Nat.gcd m n=1):sm (fun k=>m*k/n) (n/2)+sm (fun j=>n*j/m) (m/2)=(m/2)*(n/2):=by
 have half:∀{a b:Nat},a%2=1→b%2=1→Nat.gcd a b=1→∀k,1≤k→k≤b/2→a*k/b=sm (fun j=>if b*j<a*k then 1 else 0) (a/2):=by
  intro a b ha hb hab k k1 k2;rw[D0 (by omega) (lf hab k1 (by omega))];have:a*k/b<a/2+1:=(lp (by omega)).mpr (by
   have h1:a*k≤a*(b/2):=Nat.mul_le_mul_left _ k2;have h2:a*b=2*(a*(b/2))+a:=by
    have:b=2*(b/2)+1:=by omega
    generalize b/2=h at*;subst this;grind
   have h3:(a/2+1)*b*2=a*b+b:=by
    have:a=2*(a/2)+1:=by omega
    generalize a/2=g at*;subst this;grind
   omega)
  omega
 have e1:sm (fun k=>m*k/n) (n/2)=sm (fun k=>sm (fun j=>if n*j<m*k then 1 else 0) (m/2)) (n/2):=fH _ (fun k h1 h2=>half hm hn hc k h1 h2);have e2:sm (fun j=>n*j/m) (m/2)=sm (fun j=>sm (fun k=>if m*k<n*j then 1 else 0) (n/2)) (m/2):=fH _ (fun k h1 h2=>half hn hm (by rw[o3];exact hc) k h1 h2);rw[e1,e2,qc,←qN];have e3:sm (fun j=>sm (fun k=>if n*j<m*k then 1 else 0) (n/2)+sm (fun k=>if m*k<n*j then 1 else 0) (n/2)) (m/2)=sm (fun _=>n/2) (m/2):=by
  apply fH;intro j j1 j2;rw[←qN];have:sm (fun k=>(if n*j<m*k then 1 else 0)+(if m*k<n*j then 1 else 0)) (n/2)=sm (fun _=>1) (n/2):=by apply fH;intro k k1 k2;have hne:m*k≠n*j:=fun e=>lf hc k1 (show k<n by omega) (by rw[e,a7]);split<;>split<;>omega
  rw[this,dI,x5]
 rw[e3,dI,hG]
theorem xy {m n:Nat}(hm:m%2=1)(hn:n%2=1)(hc:Nat.gcd m n=1):(mu m n+mu n m)%2=((m/2)*(n/2))%2:=by
 have h1:=nW (a:=m) hn hc;have h2:=nW (a:=n) hm (by rw[o3];exact hc);have h3:=Bc hm hn hc;have e1:((m+1)*sm (fun k=>k) (n/2))%2=0:=by rw[l0,show(m+1)%2=0 by omega];simp
 have e2:((n+1)*sm (fun k=>k) (m/2))%2=0:=by rw[l0,show(n+1)%2=0 by omega];simp
 omega
theorem aL {m n:Nat}(hm:m%2=1)(hn:n%2=1)(hc:Nat.gcd m n=1):(mu m n+mu n m)%2=if m%4=3∧n%4=3 then 1 else 0:=by
 rw[xy hm hn hc,l0];rcases(show m%4=1∨m%4=3 by omega)with a|a<;>rcases(show n%4=1∨n%4=3 by omega)with b|b
 ·have:m/2%2=0:=by omega
  simp[a,b,this]
 ·have:m/2%2=0:=by omega
  simp[a,b,this]
 ·have:n/2%2=0:=by omega
  simp[a,b,this]
 ·have h1:m/2%2=1:=by omega
  have h2:n/2%2=1:=by omega
  simp[a,b,h1,h2]
theorem xx (n:Nat)(hn:n%2=1):mu 1 n=0:=by
 unfold mu;have:sm (fun k=>neg n (1*k)) (n/2)=sm (fun _=>0) (n/2):=fH _ (fun k h1 h2=>by unfold neg;rw[x5,hC (by omega),if_neg (by omega)]);rw[this,dI];simp
theorem xw {n:Nat}(hn:n%2=1):mu (n-1) n=n/2:=by
 unfold mu;have:sm (fun k=>neg n ((n-1)*k)) (n/2)=sm (fun _=>1) (n/2):=fH _ (fun k h1 h2=>by
  unfold neg;have e:(n-1)*k=n*(k-1)+(n-k):=by
   obtain⟨j,rfl⟩:∃j,k=j+1:=⟨k-1,by omega⟩
   obtain⟨i,rfl⟩:∃i,n=i+1:=⟨n-1,by omega⟩
   simp only[cz];have:i+1- (j+1)=i-j:=by omega
   rw[this];have hij:j≤i:=by omega
   obtain⟨d,rfl⟩:=Nat.le.dest hij;rw[Nat.add_sub_cancel_left];grind
  rw[e,gy,hC (by omega),if_pos (by omega)])
 rw[this,dI,x5]
def Pr (p:Nat):Prop:=2≤p∧∀d,d∣p→d=1∨d=p
theorem Pr.cop {p x:Nat}(hp:Pr p)(h:x%p≠0):Nat.gcd x p=1:=by
 rcases hp.2 _ (x6 x p)with e|e
 ·exact e
 ·exact absurd (u0 (by have:=c7 x p;rwa[e]at this)) h
theorem Pr.unit {p x:Nat}(hp:Pr p)(h1:1≤x)(h2:x<p):x%p≠0:=by rw[hC h2];omega
theorem Pr.mul {p x y:Nat}(hp:Pr p)(hx:x%p≠0)(hy:y%p≠0):(x*y)%p≠0:=by
 intro h;have hd:=aE h;have:=Nat.Coprime.dvd_of_dvd_mul_left (show Nat.Coprime p x by rw[Nat.Coprime,o3];exact hp.cop hx) hd;exact hy (u0 this)
theorem Pr.cancel {p x y z:Nat}(hp:Pr p)(hx:x%p≠0)(h:(x*y)%p=(x*z)%p):y%p=z%p:=by
 have hcop:Nat.Coprime p x:=by rw[Nat.Coprime,o3];exact hp.cop hx
 rcases Nat.le_total y z with q|q
 ·have:(x*(z-y))%p=0:=by rw[iv];exact b6 h.symm
  have hd:=Nat.Coprime.dvd_of_dvd_mul_left hcop (aE this);obtain⟨k,hk⟩:=hd;have:z=y+p*k:=by omega
  rw[this,dv]
 ·have:(x*(y-z))%p=0:=by rw[iv];exact b6 h
  have hd:=Nat.Coprime.dvd_of_dvd_mul_left hcop (aE this);obtain⟨k,hk⟩:=hd;have:y=z+p*k:=by omega
  rw[this,dv]
theorem Pr.div {p x c:Nat}(hp:Pr p)(hx:x%p≠0)(hc:c%p≠0):∃y,1≤y∧y<p∧(x*y)%p=c%p:=by
 have h2:=hp.1;have hperm:((List.range' 1 (p-1)).map fun y=>(x*y)%p).Perm (List.range' 1 (p-1)):=by
  refine ag ?_ q5 (fun z hz=>?_) (by simp)
  ·rw[List.Nodup,r7];refine List.Pairwise.imp_of_mem ?_ (q5 (s:=1) (n:=p-1));intro a b ha hb hne e;rw[hV]at ha hb;have:=hp.cancel hx e;rw[hC (by omega),hC (by omega)]at this;exact hne this
  ·obtain⟨y,hy,rfl⟩:=w4.mp hz;rw[hV]at hy⊢;have h:=hp.mul hx (hp.unit (x:=y) (by omega) (by omega));have:=y0 (x*y) (show 0<p by omega);omega
 have hm:c%p∈List.range' 1 (p-1):=by rw[hV];have:=y0 c (show 0<p by omega);omega
 obtain⟨y,hy,e⟩:=w4.mp (hperm.mem_iff.mpr hm);rw[hV]at hy;exact⟨y,by omega,by omega,e⟩
theorem yz {p c:Nat}(σ:Nat→Nat):∀(m:Nat) (L:List Nat),L.length≤m→L.Nodup→(∀x∈L,σ x∈L∧σ x≠x∧σ (σ x)=x∧(x*σ x)%p=c%p)→L.length%2=0∧L.prod%p=c^(L.length/2)%p
 |_,[],_,_,_=>by simp
 |0,x::L,h,_,_=>by simp at h
 |m+1,x::T,hm,hn,hs=>by
  obtain⟨hx,hT⟩:=List.nodup_cons.mp hn;obtain⟨s1,s2,s3,s4⟩:=hs x (by simp);have hy:σ x∈T:=by
   rcases x4.mp s1 with h|h
   ·exact absurd h s2
   ·exact h
  have hle:(T.erase (σ x)).length=T.length-1:=x9 hy;have hpos:=bb hy;have hnd:(T.erase (σ x)).Nodup:=hT.erase _;have hmem:∀z∈T.erase (σ x),z∈T∧z≠σ x:=fun z hz=>⟨List.mem_of_mem_erase hz,fun e=>by subst e;exact(List.Nodup.not_mem_erase hT) hz⟩
  obtain⟨i1,i2⟩:=yz (p:=p) (c:=c) σ m (T.erase (σ x)) (by simp at hm;omega) hnd (fun z hz=>by
   obtain⟨z1,z2⟩:=hmem z hz;obtain⟨t1,t2,t3,t4⟩:=hs z (by simp[z1]);refine⟨?_,t2,t3,t4⟩;have n1:σ z≠x:=fun e=>z2 (by rw[←e,t3]);have n2:σ z≠σ x:=fun e=>hx (by have:=congrArg σ e;rw[t3,s3]at this;rw[←this];exact z1);rcases x4.mp t1 with h|h
   ·exact absurd h n1
   ·exact(bx n2).mpr h)
  have hprod:(x::T).prod=(x*σ x)*(T.erase (σ x)).prod:=by have:=(List.perm_cons_erase hy).prod_nat;rw[la,this,la,o2]
  have hl:(x::T).length=(T.erase (σ x)).length+2:=by simp;omega
  rw[hl,hprod];refine⟨by omega,?_⟩;rw[l0,s4,i2,←l0,show((T.erase (σ x)).length+2)/2=(T.erase (σ x)).length/2+1 by omega,s5,hG]
theorem nN (a b:List Nat):(a++b).prod=a.prod*b.prod:=by
 induction a with
 |nil=>simp
 |cons x a ih=>simp[ih,o2]
theorem E6 {p:Nat}(hp:Pr p)(h3:3≤p):(List.range' 1 (p-1)).prod%p=(p-1)%p:=by
 have inv:∀x,2≤x→x≤p-2→∃y,2≤y∧y≤p-2∧y≠x∧(x*y)%p=1%p:=by
  intro x h1 h2;obtain⟨y,y1,y2,y3⟩:=hp.div (hp.unit (x:=x) (by omega) (by omega)) (hp.unit (x:=1) (by omega) (by omega));have n1:y≠1:=by rintro rfl;rw[il,hC (by omega),hC (by omega)]at y3;omega
  have n2:y≠p-1:=by
   rintro rfl;have e:x*(p-1)+x=x*p:=by
    obtain⟨q,rfl⟩:∃q,p=q+1:=⟨p-1,by omega⟩
    simp[Nat.mul_succ]
   have e2:(x*(p-1)+x)%p=0:=by rw[e,Nat.mul_mod_left]
   rw[bc,y3,hC (show 1<p by omega),hC (show x<p by omega),hC (by omega)]at e2;omega
  have n3:y≠x:=by
   rintro rfl;have e:(y-1)*(y+1)+1=y*y:=by
    obtain⟨q,rfl⟩:∃q,y=q+1:=⟨y-1,by omega⟩
    simp only[cz];grind
   have e2:((y-1)*(y+1))%p≠0:=hp.mul (hp.unit (by omega) (by omega)) (hp.unit (by omega) (by omega));rw[←e]at y3;have:=y0 ((y-1)*(y+1)) (show 0<p by omega);rw[bc,hC (show 1<p by omega)]at y3;rcases n4 ((y-1)*(y+1)%p+1) p with q|q
   ·rw[hC q]at y3;omega
   ·have:(y-1)*(y+1)%p+1=p:=by omega
    rw[this,Nat.mod_self]at y3;omega
  exact⟨y,by omega,by omega,n3,y3⟩
 have hu:∀x y z,2≤x→x≤p-2→2≤y→y≤p-2→2≤z→z≤p-2→(x*y)%p=1%p→(x*z)%p=1%p→y=z:=by intro x y z x1 x2 y1 y2 z1 z2 e1 e2;have:=hp.cancel (hp.unit (x:=x) (by omega) (by omega)) (e1.trans e2.symm);rwa[hC (by omega),hC (by omega)]at this
 let σ:Nat→Nat:=fun x=>if h:2≤x∧x≤p-2 then Classical.choose (inv x h.1 h.2)else 0
 have hσ:∀x,2≤x→x≤p-2→2≤σ x∧σ x≤p-2∧σ x≠x∧(x*σ x)%p=1%p:=by intro x h1 h2;have:=Classical.choose_spec (inv x h1 h2);simp only[σ,dif_pos (And.intro h1 h2)];exact this
 have hmid:=(yz (p:=p) (c:=1) σ _ (List.range' 2 (p-3)) (y4 _) q5 (fun x hx=>by rw[hV]at hx;obtain⟨a1,a2,a3,a4⟩:=hσ x (by omega) (by omega);obtain⟨b1,b2,b3,b4⟩:=hσ (σ x) a1 a2;refine⟨by rw[hV];omega,a3,?_,a4⟩;exact hu (σ x) _ _ a1 a2 b1 b2 (by omega) (by omega) b4 (by rw[hG];exact a4))).2;rw[Nat.one_pow]at hmid;have hsplit:List.range' 1 (p-1)=1::(List.range' 2 (p-3)++[p-1]):=by
  obtain⟨q,rfl⟩:∃q,p=q+3:=⟨p-3,by omega⟩
  have e1:q+3-1=(q+1)+1:=by omega
  rw[e1,List.range'_succ,c8];have e2:q+3-3=q:=by omega
  rw[e2];congr 2;congr 1;omega
 rw[hsplit,la,nN,x5,l0,hmid];simp
theorem zW (f:Nat→Nat):∀n,((List.range' 1 (n+1)).map f).prod=((List.range' 1 n).map f).prod*f (n+1):=by
 intro n;rw[c8,gx,nN,Nat.add_comm 1 n];simp
theorem Ej {p n:Nat}(hp:Pr p)(h3:3≤p)(hodd:p%2=1)(hn:n%p≠0):n^(p/2)%p=(p-1)^mu n p%p:=by
 have hc:=hp.cop hn;have step:∀h,h≤p/2→(n^h*((List.range' 1 h).map fun k=>k).prod)%p=((p-1)^sm (fun k=>neg p (n*k)) h*((List.range' 1 h).map fun k=>ro p (n*k)).prod)%p:=by
  intro h;induction h with
  |zero=>intro _;rfl
  |succ h ih=>
   intro hh;have ih:=ih (by omega);rw[zW,zW];simp only[sm];have hlt:=y0 (n*(h+1)) (show 0<p by omega);have e1:n^(h+1)*((List.map (fun k=>k) (List.range' 1 h)).prod*(h+1))=(n^h*(List.map (fun k=>k) (List.range' 1 h)).prod)*(n*(h+1)):=by rw[s5];grind
   have e2:(p-1)^(sm (fun k=>neg p (n*k)) h+neg p (n*(h+1)))*((List.map (fun k=>ro p (n*k)) (List.range' 1 h)).prod*ro p (n*(h+1)))=((p-1)^sm (fun k=>neg p (n*k)) h*(List.map (fun k=>ro p (n*k)) (List.range' 1 h)).prod)*((p-1)^neg p (n*(h+1))*ro p (n*(h+1))):=by rw[Nat.pow_add];grind
   rw[e1,e2,l0,ih];have e3:(n*(h+1))%p=((p-1)^neg p (n*(h+1))*ro p (n*(h+1)))%p:=by
    unfold neg ro;split
    ·rw[kd];generalize(n*(h+1))%p=r at*;have e4:(p-1)*(p-r)=p*(p-r-1)+r:=by
      obtain⟨q,rfl⟩:∃q,p=q+r+1:=⟨p-r-1,by omega⟩
      have a1:q+r+1-r=q+1:=by omega
      rw[a1];simp only[cz];grind
     rw[e4,gy,hC hlt]
    ·rw[cd,x5,pn]
   rw[e3,←l0]
 have h:=step (p/2) (y4 _);have hperm:((List.range' 1 (p/2)).map fun k=>ro p (n*k)).Perm (List.range' 1 (p/2)):=by
  refine ag ?_ q5 (fun x hx=>?_) (by simp)
  ·rw[List.Nodup,r7];refine List.Pairwise.imp_of_mem ?_ (q5 (s:=1) (n:=p/2));intro a b ha hb hne e;rw[hV]at ha hb;exact hne (ly hodd hc (by omega) (by omega) (by omega) (by omega) e)
  ·obtain⟨k,hk,rfl⟩:=w4.mp hx;rw[hV]at hk⊢;have:=vQ hodd hc (show 1≤k by omega) (by omega);omega
 rw[hperm.prod_nat,List.map_id']at h;have hu:∀h,h<p→((List.range' 1 h).prod)%p≠0:=by
  intro h;induction h with
  |zero=>intro _;simp;omega
  |succ h ih=>intro hh;rw[c8,nN];exact hp.mul (ih (by omega)) (by simpa using hp.unit (x:=1+h) (by omega) (by omega))
 exact hp.cancel (hu (p/2) (by omega)) (by rw[hG,h,hG];rfl)
theorem mq {p n:Nat}(hp:Pr p)(h3:3≤p)(hodd:p%2=1)(hn:n%p≠0):(∃x,1≤x∧x<p∧(x*x)%p=n%p)↔mu n p%2=0:=by
 constructor
 ·rintro⟨x,x1,x2,x3⟩;have hx:=hp.cop (hp.unit x1 x2);have:=yG hodd hx hx;rw[←oH,x3,oH]at this;omega
 ·intro hm;apply Classical.byContradiction;intro hno;have inv:∀x,1≤x→x<p→∃y,1≤y∧y<p∧(x*y)%p=n%p:=fun x h1 h2=>hp.div (hp.unit h1 h2) hn
  let σ:Nat→Nat:=fun x=>if h:1≤x∧x<p then Classical.choose (inv x h.1 h.2)else 0
  have hσ:∀x,1≤x→x<p→1≤σ x∧σ x<p∧(x*σ x)%p=n%p:=by intro x h1 h2;have:=Classical.choose_spec (inv x h1 h2);simp only[σ,dif_pos (And.intro h1 h2)];exact this
  have hprod:=(yz (p:=p) (c:=n) σ _ (List.range' 1 (p-1)) (y4 _) q5 (fun x hx=>by rw[hV]at hx;obtain⟨a1,a2,a3⟩:=hσ x (by omega) (by omega);obtain⟨b1,b2,b3⟩:=hσ (σ x) a1 a2;refine⟨by rw[hV];omega,fun e=>hno ⟨x,by omega,by omega,by rw[e]at a3;exact a3⟩,?_,a3⟩;have:=hp.cancel (hp.unit a1 a2) (b3.trans (by rw[hG];exact a3.symm));rwa[hC b2,hC (by omega)]at this)).2;rw[E6 hp h3,List.length_range',show(p-1)/2=p/2 by omega,Ej hp h3 hodd hn]at hprod;obtain⟨k,hk⟩:∃k,mu n p=2*k:=⟨mu n p/2,by omega⟩
  have hsq:(p-1)*(p-1)=p*(p-2)+1:=by
   obtain⟨q,rfl⟩:∃q,p=q+2:=⟨p-2,by omega⟩
   have a1:q+2-1=q+1:=by omega
   have a2:q+2-2=q:=by omega
   rw[a1,a2];grind
  have hone:∀k,(p-1)^(2*k)%p=1%p:=by
   intro k;induction k with
   |zero=>rfl
   |succ k ih=>rw[show 2*(k+1)=2*k+1+1 by omega,s5,s5,o2,l0,ih,hsq,gy,←l0]
  rw[hk,hone,hC (show p-1<p by omega),hC (show 1<p by omega)]at hprod;omega
open Go Go.Proofs.Yteaakcmkpacpaaa.Ev
theorem dA {n:Int}(h1: -9223372036854775808≤n)(h2:n<9223372036854775808):aA n=n:=by
 simp only[aA,IntKind.wrap];simp[IntKind.bits,IntKind.signed];omega
theorem pA {n:Int}(h1:0≤n)(h2:n<18446744073709551616):lA n=n:=by
 simp only[lA,IntKind.wrap];simp[IntKind.bits,IntKind.signed];omega
theorem vk {x:Nat}(h:x<18446744073709551616)(k:Nat)(hk:k≤32):iB .u64 (x:Int) ((2^k-1:Nat):Int)=((x%2^k:Nat):Int):=by
 have hp:(2:Nat)^k≤2^32:=Nat.pow_le_pow_right (by decide) hk;have hp0:0<(2:Nat)^k:=w8 (by decide);have t1:(BitVec.ofInt 64 (x:Int)).toNat=x:=by simp[BitVec.toNat_ofInt];omega
 have t2:(BitVec.ofInt 64 ((2^k-1:Nat):Int)).toNat=2^k-1:=by rw[BitVec.toNat_ofInt];omega
 have e:(BitVec.ofInt 64 (x:Int)&&& BitVec.ofInt 64 ((2^k-1:Nat):Int)).toNat=x%2^k:=by rw[BitVec.toNat_and,t1,t2,Nat.and_two_pow_sub_one_eq_mod]
 have hlt:x%2^k<2^k:=y0 _ hp0;show IntKind.wrap .u64 ((BitVec.ofInt 64 (x:Int)&&& BitVec.ofInt 64 ((2^k-1:Nat):Int)).toNat:Int)=_;rw[e];have w:IntKind.wrap .u64 ((x%2^k:Nat):Int)=lA ((x%2^k:Nat):Int):=rfl;rw[w,pA (by omega) (by omega)]
theorem D7 {x:Nat}(h:x<18446744073709551616):iB .u64 (x:Int) 1=((x%2:Nat):Int):=vk h 1 (by decide)
theorem Eh {x:Nat}(h:x<18446744073709551616):iB .u64 (x:Int) 3=((x%4:Nat):Int):=vk h 2 (by decide)
theorem Fh {x:Nat}(h:x<18446744073709551616):iB .u64 (x:Int) 7=((x%8:Nat):Int):=vk h 3 (by decide)
def sJ (m:Nat):Int:=if m%2=0 then 1 else-1
theorem yQ (a b:Nat):sJ (a+b)=sJ a*sJ b:=by
 unfold sJ;rw[bc];rcases(show a%2=0∨a%2=1 by omega)with h|h<;>rcases(show b%2=0∨b%2=1 by omega)with k|k<;>rw[h,k]<;>decide
theorem lI {a b:Nat}(h:a%2=b%2):sJ a=sJ b:=by unfold sJ;rw[h]
theorem bg (m:Nat):sJ m=1∨sJ m= -1:=by unfold sJ;split<;>simp
theorem uf (N:Nat){k:Nat}(h:k<18446744073709551616)(hk:k%2=1):Q78.f N (k:Int)=some (sJ (mu 2 k)):=by
 unfold Q78.f;rw[Fh h];have hm:=u9 hk;unfold sJ;rw[hm];rcases(show k%8=1∨k%8=3∨k%8=5∨k%8=7 by omega)with e|e|e|e<;>rw[e]<;>rfl
theorem By (N:Nat){k:Nat}(hk:k%2=1)(hk2:k<18446744073709551616):∀(n b:Nat) (s:Int),1≤b→b<n→b<18446744073709551616→Nat.gcd b k=1→(s=1∨s= -1)→
  ∃(s':Int) (b':Nat),(s'=1∨s'= -1)∧b'%2=1∧b'≤b∧Nat.gcd b' k=1∧s'*sJ (mu b' k)=s*sJ (mu b k)∧∀{R:Type} (K:Int→Int→Int→Option R),Q79.l19 N n s (k:Int) (b:Int) K=K s' (k:Int) (b':Int):=by
 intro n;induction n with
 |zero=>intro b s h1 h2;omega
 |succ n ih=>
  intro b s h1 h2 h3 hc hs;rcases(show b%2=1∨b%2=0 by omega)with e|e
  ·refine⟨s,b,hs,e,y4 _,hc,rfl,fun K=>?_⟩;rw[Q79.l19,D7 h3,e];rfl
  ·obtain⟨c,rfl⟩:∃c,b=2*c:=⟨b/2,by omega⟩
   have hcc:Nat.gcd c k=1:=Nat.Coprime.coprime_mul_left hc;have h2k:=wL hk;have hst:s*sJ (mu 2 k)=1∨s*sJ (mu 2 k)= -1:=by rcases hs with q|q<;>rcases bg (mu 2 k)with w|w<;>rw[q,w]<;>simp
   obtain⟨s',b',r1,r2,r3,r4,r5,r6⟩:=ih c (s*sJ (mu 2 k)) (by omega) (by omega) (by omega) hcc hst;refine⟨s',b',r1,r2,by omega,r4,?_,fun K=>?_⟩
   ·rw[r5,lI (yG hk h2k hcc),yQ];grind
   ·rw[Q79.l19,D7 h3,e];have w:aA (s*sJ (mu 2 k))=s*sJ (mu 2 k):=dA (by omega) (by omega);have e1:Int.fdiv ((2*c:Nat):Int) (2^1)=(c:Int):=by
     rw[Int.fdiv_eq_ediv_of_nonneg _ (by decide)];omega
    have e2:(((0:Nat):Int)==0)=true:=rfl;rw[e2,cond_true,uf N hk2 hk,pC,w,e1];exact r6 K
theorem Ba (N:Nat)(hN:8589934600<N):∀(n b k:Nat) (s:Int),b<n→b<k→k%2=1→k<4294967296→Nat.gcd b k=1→(s=1∨s= -1)→∀{R:Type} (K:Int→Int→Option R),Q79.l18 N n s (k:Int) (b:Int) K=K (s*sJ (mu b k)) 1:=by
 intro n;induction n with
 |zero=>intro b k s h1;omega
 |succ n ih=>
  intro b k s h1 h2 h3 h4 hc hs R K;by_cases hb:b=0
  ·subst hb;rw[Nat.gcd_zero_left]at hc;subst hc;have:mu 0 1=0:=rfl;rw[Q79.l18,this];have e:sJ 0=1:=rfl;rw[e,Int.mul_one];rfl
  ·obtain⟨s',b',r1,r2,r3,r4,r5,r6⟩:=By N h3 (by omega) N b s (by omega) (by omega) (by omega) hc hs;have c1:((b:Int) != 0)=true:=by simp;omega
   have c2:((b':Int)==0)=false:=by simp;omega
   have hcb:Nat.gcd k b'=1:=by rw[o3];exact r4
   have hmod:Nat.gcd (k%b') b'=1:=by rw[←pb,o3];exact hcb
   have hlt:=y0 k (show 0<b' by omega);have et:Int.tmod (k:Int) (b':Int)=((k%b':Nat):Int):=by rw[hD (by omega)];rfl
   have hrec:=aL r2 h3 r4;have hmm:=oH k b';rw[Q79.l18,c1,cond_true,r6];rw[Eh (show b'<18446744073709551616 by omega),Eh (show k<18446744073709551616 by omega)];by_cases hq:b'%4=3∧k%4=3
   ·rw[if_pos hq]at hrec;have hw:aA (0-s')= -s':=by rw[dA (by omega) (by omega)];omega
    have f1:(((b'%4:Nat):Int)==3)=true:=by rw[hq.1];rfl
    have f2:(((k%4:Nat):Int)==3)=true:=by rw[hq.2];rfl
    rw[f1,cond_true,f2,cond_true,c2,c6,cond_true,hw,et];rw[ih (k%b') b' (-s') (by omega) (by omega) r2 (by omega) hmod (by omega),hmm,←r5];congr 1;have:sJ (mu b' k)= -sJ (mu k b'):=by unfold sJ;split<;>split<;>omega
    rw[this];grind
   ·rw[if_neg hq]at hrec;have hsame:sJ (mu b' k)=sJ (mu k b'):=lI (by omega);have rL:Q79.l18 N n s' (b':Int) ((k%b':Nat):Int) K=K (s*sJ (mu b k)) 1:=by
     rw[ih (k%b') b' s' (by omega) (by omega) r2 (by omega) hmod r1,hmm,←r5,hsame]
    by_cases f1:b'%4=3
    ·have f2:¬k%4=3:=fun e=>hq ⟨f1,e⟩;have g1:(((b'%4:Nat):Int)==3)=true:=by rw[f1];rfl
     have g2:(((k%4:Nat):Int)==3)=false:=by simp;omega
     rw[g1,cond_true,g2,cond_false,c2,c6,cond_true,et];exact rL
    ·have g1:(((b'%4:Nat):Int)==3)=false:=by simp;omega
     rw[g1,cond_false,c2,c6,cond_true,et];exact rL
def rs (a:Int)(n:Nat):Nat:=(a%(n:Int)).toNat
theorem bH (a:Int){n:Nat}(hn:0<n):((rs a n:Nat):Int)=a%(n:Int):=by
 have:=gp a (show(n:Int)≠0 by omega);unfold rs;omega
theorem sZ (a:Int){n:Nat}(hn:0<n):rs a n<n:=by
 have h1:=bH a hn;have h2:=cv a (show 0<(n:Int) by omega);omega
theorem dQ {N:Nat}(hN:8589934600<N){a:Int}{n:Nat}(a0: -4611686018427387904≤a)(a1:a≤4611686018427387904)(hn:n%2=1)(hn2:n<4294967296)(hc:Nat.gcd (rs a n) n=1):Q79.f N a (n:Int)=some (sJ (mu (rs a n) n)):=by
 have hp:0<n:=by omega
 have hr:=bH a hp;have hlt:=sZ a hp;obtain⟨m,rfl⟩:∃m,N=m+1:=⟨N-1,by omega⟩
 unfold Q79.f;have c1:((n:Int)==0)=false:=by simp;omega
 have c2:decide ((n:Int)<0)=false:=decide_eq_false (by omega);have w:lA (n:Int)=(n:Int):=pA (by omega) (by omega);have c3:(((n%2:Nat):Int)==0)=false:=by rw[hn];rfl
 have c4:((1:Int)==0)=false:=rfl;have c5:((1:Int) != 1)=false:=rfl;rw[c1,cond_false,c2,cond_false,w,Q79.l10,D7 (show n<18446744073709551616 by omega),c3,cond_false,c4,cond_false,c1,c6,cond_true];have key:∀r:Int,r=((rs a n:Nat):Int)→(Q79.l18 (m+1) (m+1) 1 (n:Int) r (fun y44 y45=>bif y45 != 1 then some 0 else some y44))=some (sJ (mu (rs a n) n)):=by intro r e;subst e;rw[Ba (m+1) hN (m+1) (rs a n) n 1 (by omega) hlt hn hn2 hc (.inl rfl),c5,cond_false,Int.one_mul]
 by_cases ha:a<0
 ·have wa:lA a=a+18446744073709551616:=by
   simp only[lA,IntKind.wrap];simp[IntKind.bits,IntKind.signed];omega
  have wn:lA (0- (a+18446744073709551616))= -a:=by simp only[lA,IntKind.wrap];simp[IntKind.bits,IntKind.signed];omega
  have t1:Int.tmod (-a) (n:Int)=(-a)%(n:Int):=hD (by omega);have p0:=gp (-a) (show(n:Int)≠0 by omega);have p1:=cv (-a) (show 0<(n:Int) by omega);have w2:lA ((n:Int)- (-a)%(n:Int))=(n:Int)- (-a)%(n:Int):=pA (by omega) (by omega);have t2:Int.tmod ((n:Int)- (-a)%(n:Int)) (n:Int)=a%(n:Int):=by
   rw[hD (by omega)];have e:(n:Int)- (-a)%(n:Int)=a+(n:Int)*((-a)/(n:Int)+1):=by
    have:=x7 (-a) (n:Int);have e2:(n:Int)*((-a)/(n:Int)+1)=(n:Int)*((-a)/(n:Int))+n:=by grind
    omega
   rw[e,w6]
  rw[decide_eq_true ha,cond_true,wa,wn,t1,w2,t2];exact key _ hr.symm
 ·have wa:lA a=a:=pA (by omega) (by omega);have t1:Int.tmod a (n:Int)=a%(n:Int):=hD (by omega);rw[decide_eq_false ha,cond_false,wa,t1];exact key _ hr.symm
theorem fP {N:Nat}(hN:8589934600<N){a:Int}{p:Nat}(a0:0<a)(a1:a≤4611686018427387904)(hp:Pr p)(h3:3≤p)(hodd:p%2=1)(hp2:p≤65536)(h8:p≠8)(hc:rs a p≠0):Q89.f N a (p:Int)=some (sJ (mu (rs a p) p)):=by
 have hpp:0<p:=by omega
 have hr:=bH a hpp;have hlt:=sZ a hpp;have hu:rs a p%p≠0:=by rw[hC hlt];exact hc
 have hsq:=mq hp h3 hodd hu;unfold Q89.f;have c1:((p:Int)== -4)=false:=by simp<;>omega
 have c2:((p:Int)==8)=false:=by simp<;>omega
 have c3:((p:Int)== -8)=false:=by simp<;>omega
 rw[c1,cond_false,c2,cond_false,c3,cond_false];have test:∀x:Nat,x<p→((Int.tmod (aA (aA ((x:Int)*(x:Int))-a)) (p:Int)==0)=true↔(x*x)%p=rs a p%p):=by
  intro x hx;have hxx:(x:Int)*(x:Int)≤65536*65536:=Int.mul_le_mul (by omega) (by omega) (by omega) (by omega);have hx0:0≤(x:Int)*(x:Int):=j3 (by omega) (by omega);have w1:aA ((x:Int)*(x:Int))=(x:Int)*(x:Int):=dA (by omega) (by omega);have w2:aA ((x:Int)*(x:Int)-a)=(x:Int)*(x:Int)-a:=dA (by omega) (by omega);rw[w1,w2,beq_iff_eq,←Int.dvd_iff_tmod_eq_zero];have e1:((x*x:Nat):Int)=(x:Int)*(x:Int):=by simp
  rw[←e1];constructor
  ·intro h;have:=k9.mpr (ez h);rw[←hr]at this;have e2:((rs a p:Nat):Int)=((rs a p%p:Nat):Int):=by rw[hC hlt]
   rw[e2]at this;exact Int.ofNat_inj.mp (by rw[a8];exact this)
  ·intro h;have h2:((x*x%p:Nat):Int)=((rs a p%p:Nat):Int):=by rw[h]
   rw[hC hlt,hr,a8]at h2;exact p5 (k9.mp h2)
 have loop:∀(n k:Nat),k≤p→p-k<n→1≤k→(∀x,1≤x→x<k→(x*x)%p≠rs a p%p)→Q89.l15 (R:=Int) N n a (p:Int) (k:Int) (fun(_:Unit)=>some (-1)) (fun y7=>some y7)=some (sJ (mu (rs a p) p)):=by
  intro n;induction n with
  |zero=>intro k _ h;omega
  |succ n ih=>
   intro k h1 h2 h3' h4;have c4:((p:Int)==0)=false:=by simp;omega
   by_cases hk:k<p
   ·have w:aA ((k:Int)+1)=((k+1:Nat):Int):=by rw[dA (by omega) (by omega)];simp
    rw[Q89.l15,decide_eq_true (show(k:Int)<(p:Int) by omega),cond_true,c4,c6,cond_true];by_cases hq:(k*k)%p=rs a p%p
    ·rw[(test k hk).mpr hq,cond_true];have:mu (rs a p) p%2=0:=hsq.mp ⟨k,h3',hk,hq⟩;unfold sJ;rw[if_pos this]
    ·have hf:(Int.tmod (aA (aA ((k:Int)*(k:Int))-a)) (p:Int)==0)=false:=by
      cases hb:(Int.tmod (aA (aA ((k:Int)*(k:Int))-a)) (p:Int)==0)
      ·rfl
      ·exact absurd ((test k hk).mp hb) hq
     rw[hf,cond_false,w];exact ih (k+1) (by omega) (by omega) (by omega) (fun x x1 x2=>by
      by_cases e:x=k
      ·subst e;exact hq
      ·exact h4 x x1 (by omega))
   ·rw[Q89.l15,decide_eq_false (show ¬(k:Int)<(p:Int) by omega),cond_false];have:¬mu (rs a p) p%2=0:=fun h=>by
     obtain⟨x,x1,x2,x3⟩:=hsq.mpr h;exact h4 x x1 (by omega) x3
    unfold sJ;rw[if_neg this]
 exact loop N 1 (by omega) (by omega) (y4 _) (fun x x1 x2=>by omega)
theorem me {N:Nat}(hN:8589934600<N){a:Int}{p:Nat}(a0:0<a)(a1:a≤4611686018427387904)(hp:Pr p)(h3:3≤p)(hodd:p%2=1)(hp2:p≤65536)(hc:rs a p≠0):Q79.f N a (p:Int)=Q89.f N a (p:Int):=by
 have hlt:=sZ a (show 0<p by omega);rw[fP hN a0 a1 hp h3 hodd hp2 (by omega) hc,dQ hN (by omega) a1 hodd (by omega) (hp.cop (by rw[hC hlt];exact hc))]
theorem pc {n:Nat}(hn:n%2=1):mu (n-1) n%2=if n%4=1 then 0 else 1:=by
 rw[xw hn];rcases(show n%4=1∨n%4=3 by omega)with e|e
 ·rw[if_pos e];omega
 ·rw[if_neg (by omega)];omega
theorem zP {n:Nat}(hn:1≤n):Nat.gcd (n-1) n=1:=by
 obtain⟨m,rfl⟩:∃m,n=m+1:=⟨n-1,by omega⟩
 simp
theorem ke {x n:Nat}{a:Int}(hn:0<n)(hc:Nat.gcd x n=1)(h:(x:Int)%(n:Int)=a%(n:Int)):rs a n=x%n∧Nat.gcd (rs a n) n=1:=by
 have hr:=bH a hn;have e:rs a n=x%n:=by
  have:((rs a n:Nat):Int)=((x%n:Nat):Int):=by rw[hr,←h,a8]
  exact Int.ofNat_inj.mp this
 refine⟨e,?_⟩;rw[e,←pb,o3];exact hc
theorem Bs {N:Nat}(hN:8589934600<N){n:Nat}(hn:n%2=1)(hn2:n<4294967296):Q79.f N (-4) (n:Int)=Q89.f N (n:Int) (-4):=by
 have h1:1≤n:=by omega
 have h2:=wL hn;have h22:Nat.gcd (2*2) n=1:=Nat.Coprime.mul_left h2 h2;have hc:Nat.gcd ((2*2)*(n-1)) n=1:=Nat.Coprime.mul_left h22 (zP h1);obtain⟨e1,e2⟩:=ke (a:= -4) (show 0<n by omega) hc (by
  have e:(((2*2)*(n-1):Nat):Int)= -4+(n:Int)*4:=by
   obtain⟨m,rfl⟩:∃m,n=m+1:=⟨n-1,by omega⟩
   simp;omega
  rw[e,w6])
 rw[dQ hN (by omega) (by omega) hn hn2 e2,e1,oH];have m1:=yG hn h22 (zP h1);have m2:=yG hn h2 h2;have m3:=pc hn;unfold Q89.f sJ;have t:Int.tmod (n:Int) 4=((n%4:Nat):Int):=by rw[hD (by omega)];rfl
 have c:((-4:Int)== -4)=true:=rfl;rw[c,cond_true,t];rcases(show n%4=1∨n%4=3 by omega)with e|e
 ·rw[if_pos e]at m3;rw[e,if_pos (by omega)];rfl
 ·rw[if_neg (by omega)]at m3;rw[e,if_neg (by omega)];rfl
theorem Dp {N:Nat}(hN:8589934600<N){n:Nat}(hn:n%2=1)(hn2:n<4294967296):Q79.f N 8 (n:Int)=Q89.f N (n:Int) 8:=by
 have h2:=wL hn;have h22:Nat.gcd (2*2) n=1:=Nat.Coprime.mul_left h2 h2;have hc:Nat.gcd ((2*2)*2) n=1:=Nat.Coprime.mul_left h22 h2;obtain⟨e1,e2⟩:=ke (a:=8) (show 0<n by omega) hc rfl;rw[dQ hN (by omega) (by omega) hn hn2 e2,e1,oH];have m1:=yG hn h22 h2;have m2:=yG hn h2 h2;have m3:=u9 hn;unfold Q89.f sJ;have t:Int.tmod (n:Int) 8=((n%8:Nat):Int):=by rw[hD (by omega)];rfl
 have c:((8:Int)== -4)=false:=rfl;have c':((8:Int)==8)=true:=rfl;rw[c,cond_false,c',cond_true,t];rcases(show n%8=1∨n%8=3∨n%8=5∨n%8=7 by omega)with e|e|e|e
 ·rw[if_pos (by omega)]at m3;rw[e,if_pos (by omega)];rfl
 ·rw[if_neg (by omega)]at m3;rw[e,if_neg (by omega)];rfl
 ·rw[if_neg (by omega)]at m3;rw[e,if_neg (by omega)];rfl
 ·rw[if_pos (by omega)]at m3;rw[e,if_pos (by omega)];rfl
theorem Bt {N:Nat}(hN:8589934600<N){n:Nat}(hn:n%2=1)(hn2:n<4294967296):Q79.f N (-8) (n:Int)=Q89.f N (n:Int) (-8):=by
 have h1:1≤n:=by omega
 have h2:=wL hn;have h22:Nat.gcd (2*2) n=1:=Nat.Coprime.mul_left h2 h2;have h222:Nat.gcd ((2*2)*2) n=1:=Nat.Coprime.mul_left h22 h2;have hc:Nat.gcd ((2*2)*2*(n-1)) n=1:=Nat.Coprime.mul_left h222 (zP h1);obtain⟨e1,e2⟩:=ke (a:= -8) (show 0<n by omega) hc (by
  have e:(((2*2)*2*(n-1):Nat):Int)= -8+(n:Int)*8:=by
   obtain⟨m,rfl⟩:∃m,n=m+1:=⟨n-1,by omega⟩
   simp;omega
  rw[e,w6])
 rw[dQ hN (by omega) (by omega) hn hn2 e2,e1,oH];have m0:=yG hn h222 (zP h1);have m1:=yG hn h22 h2;have m2:=yG hn h2 h2;have m3:=u9 hn;have m4:=pc hn;unfold Q89.f sJ;have t:Int.tmod (n:Int) 8=((n%8:Nat):Int):=by rw[hD (by omega)];rfl
 have c:((-8:Int)== -4)=false:=rfl;have c':((-8:Int)==8)=false:=rfl;have c'':((-8:Int)== -8)=true:=rfl;rw[c,cond_false,c',cond_false,c'',cond_true,t];rcases(show n%8=1∨n%8=3∨n%8=5∨n%8=7 by omega)with e|e|e|e
 ·rw[if_pos (by omega)]at m3 m4;rw[e,if_pos (by omega)];rfl
 ·rw[if_neg (by omega)]at m3 m4;rw[e,if_pos (by omega)];rfl
 ·rw[if_neg (by omega)]at m3;rw[if_pos (by omega)]at m4;rw[e,if_neg (by omega)];rfl
 ·rw[if_pos (by omega)]at m3;rw[if_neg (by omega)]at m4;rw[e,if_neg (by omega)];rfl
inductive Sy:Int→Prop
 |m4:Sy (-4)
 |p8:Sy 8
 |m8:Sy (-8)
 |pr (p:Nat) (hp:Pr p) (h3:3≤p) (ho:p%2=1) (hb:p≤65536):Sy (p:Int)
noncomputable def F7 (N:Nat)(n q:Int):Option Int:=if q= -4∨q=8∨q= -8 then Q79.f N q n else Q79.f N n q
theorem fN {n q:Int}(n0:0<n)(hq:q= -4∨q=8∨q= -8)(hc:Int.gcd n q=1):n.toNat%2=1:=by
 rcases(show n%2=0∨n%2=1 by omega)with e|e
 ·exfalso;have h1:(2:Int)∣n:=p5 e;have h2:(2:Int)∣q:=by rcases hq with h|h|h<;>subst h<;>decide
  have h3:(2:Int)∣((Int.gcd n q:Nat):Int):=bs h1 h2;rw[hc]at h3;exact absurd h3 (by decide)
 ·omega
theorem bV {N:Nat}(hN:8589934600<N){n q:Int}(hq:Sy q)(n0:0<n)(n1:n<4294967296)(hc:Int.gcd n q=1):F7 N n q=Q89.f N n q:=by
 have en:((n.toNat:Nat):Int)=n:=by omega
 unfold F7;cases hq with
 |m4=>have ho:=fN n0 (.inl rfl) hc;rw[if_pos (.inl rfl)];have:=Bs hN ho (show n.toNat<4294967296 by omega);rwa[en]at this
 |p8=>have ho:=fN n0 (.inr (.inl rfl)) hc;rw[if_pos (.inr (.inl rfl))];have:=Dp hN ho (show n.toNat<4294967296 by omega);rwa[en]at this
 |m8=>have ho:=fN n0 (.inr (.inr rfl)) hc;rw[if_pos (.inr (.inr rfl))];have:=Bt hN ho (show n.toNat<4294967296 by omega);rwa[en]at this
 |pr p hp h3 ho hb=>
  have hne:¬((p:Int)= -4∨(p:Int)=8∨(p:Int)= -8):=by omega
  rw[if_neg hne];refine me hN n0 (by omega) hp h3 ho hb (fun h=>?_);have hr:=bH n (show 0<p by omega);rw[h]at hr;have hd:(p:Int)∣n:=p5 hr.symm;have h4:(p:Int)∣((Int.gcd n (p:Int):Nat):Int):=bs hd (Int.dvd_refl _);rw[hc]at h4;have:=r8 (by decide) h4;omega
noncomputable def lN (a c s q:Int):Int:=if Int.gcd a q=1 then a else if Int.gcd c q=1 then c else s
theorem pS (N:Nat){R:Type}{n:Nat}{q a c s:Int}(hq:Sy q){i:Nat}(hi:i<3){v:Int}(hv:[a,c,s].getD i 0=v){u w:Int}(hg:Q35.f N v q=some (((Int.gcd v q:Nat):Int),u,w))(k0:Unit→Option R)(kr:Int→Option R):
  Q84.l2 N (n+1) q a c s (i:Int) k0 kr=if Int.gcd v q=1 then(F7 N v q).bind kr else Q84.l2 N n q a c s ((i+1:Nat):Int) k0 kr:=by
 have c1:decide ((i:Int)<3)=true:=decide_eq_true (by omega);have c2:decide (0≤(i:Int))=true:=decide_eq_true (by omega);have w1:aA ((i:Int)+1)=((i+1:Nat):Int):=by rw[dA (by omega) (by omega)];simp
 rw[Q84.l2];simp only[c1,c2,cond_true,k8,o4,hv,hg,pC,w1];by_cases h:Int.gcd v q=1
 ·have h1:(((Int.gcd v q:Nat):Int) != 1)=false:=by rw[h];rfl
  rw[h1,cond_false,if_pos h];unfold F7;by_cases e1:q= -4
  ·have f1:(q== -4)=true:=by simpa using e1
   rw[f1,cond_true,cond_true,if_pos (.inl e1)]
  ·have f1:(q== -4)=false:=by simpa using e1
   by_cases e2:q=8
   ·have f2:(q==8)=true:=by simpa using e2
    rw[f1,cond_false,f2,cond_true,cond_true,if_pos (.inr (.inl e2))]
   ·have f2:(q==8)=false:=by simpa using e2
    by_cases e3:q= -8
    ·have f3:(q== -8)=true:=by simpa using e3
     rw[f1,cond_false,f2,cond_false,f3,cond_true,if_pos (.inr (.inr e3))]
    ·have f3:(q== -8)=false:=by simpa using e3
     rw[f1,cond_false,f2,cond_false,f3,cond_false,if_neg (by omega)]
 ·have h1:(((Int.gcd v q:Nat):Int) != 1)=true:=by simp;omega
  rw[h1,cond_true,if_neg h]
theorem qS {N:Nat}(hN:8589934600<N){q a b c:Int}(hq:Sy q)(ha:0<a)(hc:0<c)(hs:0<a+b+c)(a1:a<4294967296)(c1:c<4294967296)(b0: -4294967296≤b)(b1:b≤4294967296)(s1:a+b+c<4294967296)
  (hg:∀v,v=a∨v=c∨v=a+b+c→∃u w,Q35.f N v q=some (((Int.gcd v q:Nat):Int),u,w))(hone:Int.gcd a q=1∨Int.gcd c q=1∨Int.gcd (a+b+c) q=1):
  Q84.f N a b c q=Q89.f N (lN a c (a+b+c) q) q:=by
 obtain⟨m,rfl⟩:∃m,N=m+4:=⟨N-4,by omega⟩
 obtain⟨u1,v1,g1⟩:=hg a (.inl rfl);obtain⟨u2,v2,g2⟩:=hg c (.inr (.inl rfl));obtain⟨u3,v3,g3⟩:=hg (a+b+c) (.inr (.inr rfl));have w:aA (aA (a+b)+c)=a+b+c:=by rw[dA (n:=a+b) (by omega) (by omega),dA (by omega) (by omega)]
 have rL:∀o:Option Int,o.bind (fun y18=>some y18)=o:=fun o=>by cases o<;>rfl
 unfold Q84.f lN;rw[w];have z:(0:Int)=((0:Nat):Int):=rfl;rw[show Q84.l2 (R:=Int) (m+4) (m+4) q a c (a+b+c) 0=Q84.l2 (m+4) (m+3+1) q a c (a+b+c) ((0:Nat):Int)from rfl];rw[pS (m+4) hq (show 0<3 by omega) (v:=a) rfl g1];by_cases h1:Int.gcd a q=1
 ·rw[if_pos h1,if_pos h1,rL,bV hN hq ha a1 h1]
 ·rw[if_neg h1,if_neg h1];rw[show Q84.l2 (R:=Int) (m+4) (m+3)=Q84.l2 (m+4) (m+2+1)from rfl,pS (m+4) hq (show 1<3 by omega) (v:=c) rfl g2];by_cases h2:Int.gcd c q=1
  ·rw[if_pos h2,if_pos h2,rL,bV hN hq hc c1 h2]
  ·rw[if_neg h2,if_neg h2];have h3:Int.gcd (a+b+c) q=1:=by rcases hone with h|h|h<;>first|exact absurd h h1|exact absurd h h2|exact h
   rw[show Q84.l2 (R:=Int) (m+4) (m+2)=Q84.l2 (m+4) (m+1+1)from rfl,pS (m+4) hq (show 2<3 by omega) (v:=a+b+c) rfl g3,if_pos h3,rL,bV hN hq hs s1 h3]
theorem jt {a m k:Nat}(h:Nat.gcd a (m*k)=1):Nat.gcd a m=1∧Nat.gcd a k=1:=
 ⟨Nat.Coprime.coprime_mul_right_right h,Nat.Coprime.coprime_mul_left_right h⟩
theorem oW {a m k:Nat}(ha:a%2=1)(hm:m%2=1)(hk:k%2=1)(hc:Nat.gcd a (m*k)=1):mu a (m*k)%2=(mu a m+mu a k)%2:=by
 obtain⟨c1,c2⟩:=jt hc;have hmk:(m*k)%2=1:=by rw[l0,hm,hk]
 have r1:=aL ha hm c1;have r2:=aL ha hk c2;have r3:=aL ha hmk hc;have r4:=yG (a:=m) (b:=k) ha (by rw[o3];exact c1) (by rw[o3];exact c2);have e:(m*k)%4=((m%4)*(k%4))%4:=l0 m k 4;rcases(show a%4=1∨a%4=3 by omega)with x|x<;>rcases(show m%4=1∨m%4=3 by omega)with y|y<;>rcases(show k%4=1∨k%4=3 by omega)with z|z<;>rw[y,z]at e<;>simp[x,y,z,e]at r1 r2 r3<;>omega
theorem oy {n m:Nat}(hn:n%2=1)(hm:m%4=3)(hc:Nat.gcd n m=1)(hsq:∃b,(b*b+m)%n=0∧Nat.gcd b n=1):mu n m%2=0:=by
 obtain⟨b,hb,hbc⟩:=hsq;have r:=aL hn (show m%2=1 by omega) hc;have hmn:Nat.gcd m n=1:=by rw[o3];exact hc
 have hp:Nat.gcd (n-1) n=1:=by
  obtain⟨q,rfl⟩:∃q,n=q+1:=⟨n-1,by omega⟩
  simp
 have e1:=yG hn hp hmn;have e2:=yG hn hbc hbc;have hmod:((n-1)*m)%n=(b*b)%n:=by
  have h1:((n-1)*m+m)%n=0:=by
   have:(n-1)*m+m=n*m:=by
    obtain⟨q,rfl⟩:∃q,n=q+1:=⟨n-1,by omega⟩
    simp[Nat.succ_mul]
   rw[this,a7]
  have l1:=y0 ((n-1)*m) (show 0<n by omega);have l2:=y0 (b*b) (show 0<n by omega);have l3:=y0 m (show 0<n by omega);rw[bc]at h1 hb;have key:∀x,x<n→(x+m%n)%n=0→x=if m%n=0 then 0 else n-m%n:=by
   intro x hx h;by_cases h0:m%n=0
   ·rw[if_pos h0];rw[h0,Nat.add_zero,hC hx]at h;exact h
   ·rw[if_neg h0];rcases n4 (x+m%n) n with q|q
    ·rw[hC q]at h;omega
    ·rw[Nat.mod_eq_sub_mod q,hC (by omega)]at h;omega
  rw[key _ l1 h1,key _ l2 hb]
 have e3:mu ((n-1)*m) n=mu (b*b) n:=by rw[←oH,hmod,oH]
 have e4:=xw hn;rw[e3]at e1;rcases(show n%4=1∨n%4=3 by omega)with x|x
 ·rw[if_neg (by omega)]at r;omega
 ·rw[if_pos ⟨x,hm⟩]at r;omega
end Go.Proofs.Yteaakcmkpacpaaa.Jac
namespace Go.Proofs.Yteaakcmkpacpaaa.Gen
open Go Go.Proofs.Yteaakcmkpacpaaa.Ev
open Go.Proofs.Yteaakcmkpacpaaa.Cls (jY qU)
abbrev N0:Nat:=8589934700
theorem D6 {d:Int}{l:List Int}(hd:jY d)(h:Q72.f N0 d=some l):Q75.f N0 d=some (l,0):=by
 obtain⟨R,r1,r2,r3,r4,r5⟩:=qU (N:=N0) (by decide) hd;rw[r4]at h;obtain rfl:=Option.some.inj h;exact r3
theorem Eg:Q75.f N0 (-20)=some ([1,0,5,2,2,3],0):=D6 (d:= -20) (l:=[1,0,5,2,2,3]) ⟨by decide,by decide,by decide⟩ (by kernel_rfl)
theorem Ek:Q93.f N0 (-20)=some ([[1,0,5],[2,2,3]],0):=by
 unfold Q93.f;rw[Eg]
 kernel_rfl
theorem na:Q100.f N0=some true:=by
 unfold Q100.f;rw[Ek]
 kernel_rfl
open Go.Proofs.Yteaakcmkpacpaaa.Pure (dA hJ)
open Go.Proofs.Yteaakcmkpacpaaa.Cls (jY)
open Go.Proofs.Yteaakcmkpacpaaa.Jac (Sy)
theorem pw:∀{a b:List Nat},a.Pairwise (· < ·)→b.Pairwise (· < ·)→(∀x,x∈a↔x∈b)→a=b
 | [],[],_,_,_=>rfl
 | [],y::b,_,_,h=>by have:=(h y).mpr (by simp);simp at this
 |x::a,[],_,_,h=>by have:=(h x).mp (by simp);simp at this
 |x::a,y::b,ha,hb,h=>by
  have a1:=cy.mp ha;have b1:=cy.mp hb;have e:x=y:=by
   have h1:=(h x).mp (by simp);have h2:=(h y).mpr (by simp);simp only[x4]at h1 h2;rcases h1 with h1|h1
   ·exact h1
   ·rcases h2 with h2|h2
    ·exact h2.symm
    ·have:=a1.1 y h2;have:=b1.1 x h1;omega
  subst e;rw[pw a1.2 b1.2 fun z=>?_];constructor
  ·intro hz;have:=a1.1 z hz;have h1:=(h z).mp (hE _ hz);simp only[x4]at h1;rcases h1 with h1|h1
   ·omega
   ·exact h1
  ·intro hz;have:=b1.1 z hz;have h1:=(h z).mpr (hE _ hz);simp only[x4]at h1;rcases h1 with h1|h1
   ·omega
   ·exact h1
theorem ot:∀{l:PL} {x:Nat×Nat},x∈l→0<x.2→x.1∣vD l
 |y::l,x,h,h0=>by
  simp only[vD];rcases x4.mp h with rfl|h
  ·obtain⟨k,hk⟩:∃k,x.2=k+1:=⟨x.2-1,by omega⟩
   rw[hk,s5,o2];exact hS ⟨vD l,rfl⟩ ⟨_,hG _ _⟩
  ·exact hS (ot h h0) ⟨_,hG _ _⟩
theorem Fz.mem {n:Nat}{l:PL}(h:Fz n l)(p:Nat):p∈l.map (·.1)↔jD p∧p∣n:=by
 rw[w4];constructor
 ·rintro⟨x,hx,rfl⟩;exact⟨(h.pr x hx).1,h.prod▸ot hx (h.pr x hx).2⟩
 ·rintro⟨hp,hd⟩;rw[←h.prod]at hd;obtain⟨x,h1,h2⟩:=hp.in_prod h.pr hd;exact⟨x,h1,h2⟩
def bI (l:PL):List Nat:=(l.map (·.1)).filter (2< ·)
def ints (l:List Nat):List Int:=l.map fun(x:Nat)=>(x:Int)
theorem xj (a b:List Nat):ints (a++b)=ints a++ints b:=by simp[ints]
theorem aN (a:List Nat):(ints a).length=a.length:=by simp[ints]
theorem jS (N:Nat){d:Int}{l:PL}(hl:l.length<100000){R:Type}(K:Int→List Int→Option R):∀(n i:Nat) (X:List Nat),i≤l.length→l.length-i<n→X.length≤i→
  Q83.l4 N n d (aY l) (l.length:Int) (i:Int) (ints X) K=K d (ints (X++bI (l.drop i)))
 |0,i,X,_,h,_=>by omega
 |n+1,i,X,hi,hn,hX=>by
  rw[Q83.l4,fe];by_cases h:i<l.length
  ·have c1:decide ((i:Int)<(l.length:Int))=true:=decide_eq_true (by omega);have c2:decide (0≤(i:Int))=true:=decide_eq_true (by omega);have e:=(xc h).1;have w:aA ((i:Int)+1)=((i+1:Nat):Int):=tX (by omega);have hr:zA ((ints X).length+1) 8=true:=by rw[aN];simp only[zA,decide_eq_true_eq];omega
   have hd:l.drop i=l[i]::l.drop (i+1):=b7 h;simp only[c1,c2,cond_true,k8,o4,e,w,hr];by_cases hp:2<l[i].1
   ·rw[decide_eq_true (show(l[i].1:Int)>2 by omega),cond_true];have ea:ints X++[(l[i].1:Int)]=ints (X++[l[i].1]):=by rw[xj];rfl
    rw[ea,jS N hl K n (i+1) (X++[l[i].1]) (by omega) (by omega) (by simp;omega),hd];have:bI (l[i]::l.drop (i+1))=l[i].1::bI (l.drop (i+1)):=by unfold bI;rw[bn,eb,if_pos (by simpa using hp)]
    rw[this,ae];rfl
   ·rw[decide_eq_false (show ¬(l[i].1:Int)>2 by omega),cond_false,jS N hl K n (i+1) X (by omega) (by omega) (by omega),hd];have:bI (l[i]::l.drop (i+1))=bI (l.drop (i+1)):=by unfold bI;rw[bn,eb,if_neg (by simpa using hp)]
    rw[this]
  ·have c1:decide ((i:Int)<(l.length:Int))=false:=decide_eq_false (by omega);rw[c1,cond_false];have:l.drop i=[]:=ba (by omega);rw[this];simp[bI]
theorem wv (N:Nat){R:Type}{p:Nat}(hp:1<p)(d:Int)(X:List Int)(K:Int→Int→Int→List Int→Option R):∀(f j m:Nat),¬p∣m→0<m→j<f→p^j*m<1000000→
  Q88.l8 N f d ((p^j*m:Nat):Int) (p:Int) X K=K d (m:Int) (p:Int) X
 |0,j,m,_,_,h,_=>by omega
 |f+1,j,m,hd,hm,h,hb=>by
  rw[Q88.l8];simp only[Ax (show 0<p by omega),cond_true];rw[Ad,Cg];cases j with
  |zero=>rw[cd,x5,decide_eq_false (fun e=>hd (aE e)),cond_false]
  |succ j=>
   have e:p^(j+1)*m=p*(p^j*m):=by rw[s5,hG (p^j) p,o2]
   have hlt:p^j*m≤p^(j+1)*m:=by rw[e];exact hW _ (by omega)
   rw[decide_eq_true (by rw[e];exact a7 _ _),cond_true,Cz,e,gg _ (by omega),E7 (by omega)];exact wv N hp d X K f j m hd hm (by omega) (by omega)
def vL (l:PL):List Nat:=l.map (·.1)
theorem wu {N:Nat}(hN:1000000<N){n0 m0 e:Nat}(hn:n0≤65536)(he:n0=2^e*m0){R:Type}(d:Int)(K:Int→List Int→Option R):∀(f p m:Nat) (l:PL),St m0 p m l→3≤p→p%2=1→(∀x∈l,2<x.1)→p≤n0+4→n0+5-p<f→
  ∃l',Fz m0 l'∧(∀x∈l',2<x.1)∧Q88.l4 N f d ((2^e*m:Nat):Int) (p:Int) (ints (vL l)) K=K d (ints (vL l'))
 |0,p,m,l,_,_,_,_,_,h=>by omega
 |f+1,p,m,l,h,hp,hodd,h2,hpn,hf=>by
  obtain⟨hl1,hl2⟩:=h.len;have hm0:m0≤n0:=by rw[he];exact hW _ (w8 (by decide))
  have hmb:2^e*m≤n0:=by rw[he];exact b5 (y4 _) hl2
  rw[Q88.l4];by_cases hs:p≤2^e*m
  ·rw[decide_eq_true (show(p:Int)≤((2^e*m:Nat):Int) by omega),cond_true,Ax (show 0<p by omega),cond_true,Ad];have hcop:Nat.Coprime p (2^e):=Nat.Coprime.pow_right e (by
    unfold Nat.Coprime;rcases k7 (by decide) (x6 p 2)|>fun h=>(show Nat.gcd p 2=0∨Nat.gcd p 2=1∨Nat.gcd p 2=2 by omega)with g|g|g
    ·have:=eu p (show 0<2 by decide);omega
    ·exact g
    ·have h3:=c7 p 2;rw[g]at h3;have:=u0 h3;omega)
   obtain⟨j,m',rfl,hd⟩:=aR (show 1<p by omega) (m+1) m h.pos (by omega);have hm':0<m':=q6 fun e=>by subst e;exact hd (mm _)
   have hst:=h.step (by omega) hd;have hst2:=hst.skip (by omega) (by omega);have w:aA ((p:Int)+2)=((p+2:Nat):Int):=by rw[dA (by omega) (by omega)];omega
   have hd2:¬p∣2^e*m':=fun q=>hd (hcop.dvd_of_dvd_mul_left q);have em:2^e*(p^j*m')=p^j*(2^e*m'):=by rw[←o2,←o2,hG (2^e)]
   rw[em];by_cases h0:0<j
   ·rw[if_pos h0]at hst2;have c:((((p^j*(2^e*m'))%p:Nat):Int) != 0)=false:=by
     rw[bne_eq_false_iff_eq];have:(p^j*(2^e*m'))%p=0:=by
      obtain⟨k,rfl⟩:∃k,j=k+1:=⟨j-1,by omega⟩
      rw[s5,hG (p^k) p,o2];exact a7 _ _
     rw[this];rfl
    have hr:zA ((ints (vL l)).length+1) 8=true:=by rw[aN];simp only[vL,q7,zA,decide_eq_true_eq];omega
    have hj:j<1000000:=by have:=pt (j:=j) (show 1<p by omega);have:=aa (p^j) hm';omega
    rw[c,cond_false,hr,cond_true,wv N (by omega) d _ _ N j (2^e*m') hd2 (im (w8 (by decide)) hm') (by omega) (by rw[←em];omega),w];have ea:ints (vL l)++[(p:Int)]=ints (vL (l++[(p,j)])):=by simp[ints,vL]
    rw[ea];refine wu hN hn he d K f (p+2) m' _ hst2 (by omega) (by omega) (fun x hx=>?_) (by omega) (by omega);simp only[a6,yK]at hx;rcases hx with hx|rfl
    ·exact h2 x hx
    ·simp only;omega
   ·rw[if_neg h0]at hst2;have j0:j=0:=by omega
    subst j0;rw[cd,x5];have c:((((2^e*m')%p:Nat):Int) != 0)=true:=by rw[bne_iff_ne];intro q;exact hd2 (aE (by omega))
    rw[c,cond_true,w];exact wu hN hn he d K f (p+2) m' _ hst2 (by omega) (by omega) h2 (by omega) (by omega)
  ·rw[decide_eq_false (show ¬(p:Int)≤((2^e*m:Nat):Int) by omega),cond_false];have hm1:m≤2^e*m:=hW _ (w8 (by decide));have hone:¬1<m:=fun q=>by have:=h.fr m q (mb _);omega
   have hpp:p≤p*p:=hW _ (by omega);have:=h.end (by omega);rw[if_neg hone]at this;exact⟨l,this,h2,rfl⟩
def iO (d:Int):List Int:=
 if d%2≠0 then []else if(-d/4)%4=3 then []else if(-d/4)%4=1∨(-d/4)%8=4 then [-4]else if(-d/4)%8=2 then [-8]else if(-d/4)%8=6 then [8]else [-4,8]
theorem nQ {n:Nat}{l:PL}(h:Fz n l)(p:Nat):p∈bI l↔jD p∧p∣n∧2<p:=by
 unfold bI;rw[e9,h.mem];simp[and_assoc]
theorem bZ {l:PL}(h:∀x∈l,2<x.1):vL l=bI l:=by
 unfold vL bI;rw[List.filter_eq_self.mpr];intro p hp;obtain⟨x,hx,rfl⟩:=w4.mp hp;simpa using h x hx
theorem pg {n:Nat}{l:PL}(h:Fz n l):(bI l).Pairwise (· < ·):=(r7.mpr h.up).filter _
def rf:Nat→Nat→Nat
 |_,0=>1
 |k,n+1=>k*rf (k+1) n
theorem Cu:∀(n k:Nat) (l:PL),l.Pairwise (fun a b=>a.1<b.1)→(∀x∈l,k≤x.1∧0<x.2)→n≤((l.map (·.1)).length)→0<k→rf k n≤vD l
 |0,k,l,_,h,_,hk=>by
  simp only[rf];have:∀l:PL,(∀x∈l,k≤x.1∧0<x.2)→1≤vD l:=by
   intro l;induction l with
   |nil=>intro _;simp[vD]
   |cons x l ih=>intro h;have h1:=(h x (by simp)).1;have:=ih fun y hy=>h y (hE _ hy);exact im (w8 (by omega)) this
  exact this l h
 |n+1,k,[],_,_,h,_=>by simp at h
 |n+1,k,x::l,hu,h,hn,hk=>by
  simp only[rf,vD];have h1:=h x (by simp);have hu2:=cy.mp hu;have ih:=Cu n (k+1) l hu2.2 (fun y hy=>⟨by have:=hu2.1 y hy;omega,(h y (hE _ hy)).2⟩) (by simp at hn⊢;omega) (by omega);refine b5 ?_ ih;obtain⟨j,hj⟩:∃j,x.2=j+1:=⟨x.2-1,by omega⟩
  rw[hj,s5];have:0<x.1^j:=w8 (by omega);exact Nat.le_trans h1.1 (hW _ this)
theorem Br (N:Nat)(hN:10<N):Q82.f N=some ([3],4,[1,5,4],8,[-4],[2],8,[-8],[6],8,[8],[0],8,[-4,8]):=rfl
theorem cX {N:Nat}(hN:10<N)(m c:Int)(hc:0<c):∀X∈[[3],[1,5,4],[2],[6],[0]],Q81.f N m X c=some (X.any (fun x=>Int.tmod m c==x),X,c):=by
 obtain⟨k,rfl⟩:∃k,N=k+6:=⟨N-6,by omega⟩
 have hc0:(c==0)=false:=beq_eq_false_iff_ne.mpr (by omega);have w1:aA 1=1:=by decide
 have w2:aA 2=2:=by decide
 have w3:aA 3=3:=by decide
 intro X hX;simp only[x4,ep,or_false]at hX;unfold Q81.f;rcases hX with rfl|rfl|rfl|rfl|rfl
 ·rcases q:Int.tmod m c==3<;>simp[Q81.l2,hc0,w1,q]
 ·rcases q:Int.tmod m c==1<;>rcases q2:Int.tmod m c==5<;>rcases q3:Int.tmod m c==4<;>simp[Q81.l2,hc0,w1,w2,w3,q,q2,q3]
 ·rcases q:Int.tmod m c==2<;>simp[Q81.l2,hc0,w1,q]
 ·rcases q:Int.tmod m c==6<;>simp[Q81.l2,hc0,w1,q]
 ·rcases q:Int.tmod m c==0<;>simp[Q81.l2,hc0,w1,q]
open Go.Proofs.Yteaakcmkpacpaaa.Pure (dA hJ nI sV)
open Go.Proofs.Yteaakcmkpacpaaa.Cls (jY gJ iq)
open Go.Proofs.Yteaakcmkpacpaaa.Jac (Sy Pr lN qS)
theorem gn {n:Nat}{l:PL}(h:Fz n l)(hn:n≤65536):(bI l).length≤6:=by
 rcases n4 6 (bI l).length with q|q
 ·exfalso;have e:bI l=(l.filter (fun x=>decide (2<x.1))).map (·.1):=by
   unfold bI;rw[List.filter_map];rfl
  have h1:=Cu 7 3 (l.filter (fun x=>decide (2<x.1))) (h.up.filter _) (fun x hx=>by
   have h1:=e9.mp hx;have h2:2<x.1:=by simpa using h1.2
   exact⟨by omega,(h.pr x h1.1).2⟩) (by rw[←e];omega) (by decide)
  have h2:∀l:PL,(∀x∈l,0<x.1)→vD (l.filter (fun x=>decide (2<x.1)))≤vD l:=by
   intro l;induction l with
   |nil=>intro _;simp[vD]
   |cons x l ih=>
    intro h;have i:=ih fun y hy=>h y (hE _ hy);rw[eb];split
    ·exact b5 (y4 _) i
    ·exact Nat.le_trans i (hW _ (w8 (h x (by simp))))
  have h3:=h2 l fun x hx=>by have:=(h.pr x hx).1.1;omega
  rw[h.prod]at h3;have h4:rf 3 7=181440:=by decide
  omega
 ·exact q
theorem ug:∀(f n:Nat),0<n→n<f→∃e m,n=2^e*m∧m%2=1:=fun f n h hf=>by
 obtain⟨j,m,e,hd⟩:=aR (p:=2) (by decide) f n h hf;exact⟨j,m,e,by
  rcases o0 m with q|q
  ·exact absurd (aE q) hd
  ·exact q⟩
theorem mr (d:Int):iO d=[]∨iO d=[-4]∨iO d=[-8]∨iO d=[8]∨iO d=[-4,8]:=by
 unfold iO;(repeat' split)<;>simp
theorem Aa (d:Int):(iO d).length≤2:=by
 rcases mr d with h|h|h|h|h<;>rw[h]<;>decide
theorem Fb (n:Nat):Int.tmod (-(n:Int)) 2= -((n%2:Nat):Int):=by
 rw[Int.neg_tmod];rfl
theorem Bw {d q:Int}(h:q∈iO d):Sy q:=by
 unfold iO at h
 repeat' split at h
 all_goals simp at h
 all_goals first|(subst h;constructor)|(rcases h with rfl|rfl<;>constructor)
theorem aH {l:List Int}(h:l.length≤100){k:Nat}(hk:k≤10):zA (l.length+k) 8=true:=by
 simp only[zA,decide_eq_true_eq];omega
structure Ao (d:Int)(X:List Int):Prop where
 ex:∃l,Fz (-d).toNat l∧X=ints (bI l)++iO d
theorem bp {N:Nat}(hN:8589934600<N){d:Int}(hd:jY d):∃X,Ao d X∧Q83.f N d=some X∧Q88.f N d=some X:=by
 obtain⟨d0,d1,d4⟩:=hd;obtain⟨n,rfl⟩:∃n:Nat,d= -(n:Int):=⟨(-d).toNat,by omega⟩
 have w0:aA (0- -(n:Int))=(n:Int):=by rw[dA (by omega) (by omega)];omega
 obtain⟨l,hl,ef⟩:=fb (N:=N) (by omega) (n:=n) (by omega) (by omega);have hll:l.length<n+1:=by have:=yW (l:=l) (fun x hx=>⟨(hl.pr x hx).1,(hl.pr x hx).2⟩);rw[hl.prod]at this;omega
 obtain⟨e,m,en,hm⟩:=ug (n+1) n (by omega) (by omega);have hm0:0<m:=by omega
 have hst:St m 3 m []:=⟨.nil,fun x hx=>(by cases hx),by simp[vD],fun k h1 h2=>by
  rcases n4 2 k with q|q
  ·omega
  ·have:k=2:=by omega
   subst this;have:=u0 h2;omega,hm0⟩
 have ho6:=gn hl (by omega);have hodd:∀l',Fz m l'→(∀x∈l',2<x.1)→ints (vL l')=ints (bI l):=fun l' h1 h2=>by
  rw[bZ h2];congr 1;refine pw (pg h1) (pg hl) fun p=>?_;rw[nQ h1,nQ hl];constructor
  ·rintro⟨a,b,c⟩;exact⟨a,en▸hS b ⟨_,hG _ _⟩,c⟩
  ·rintro⟨a,b,c⟩;refine⟨a,?_,c⟩;rw[en]at b;rcases a.dvd_mul b with h|h
   ·have:=k7 (by decide) (a.dvd_pow h);omega
   ·exact h
 refine⟨ints (bI l)++iO (-(n:Int)),⟨l,by rw[show(-(-(n:Int))).toNat=n by omega];exact hl,rfl⟩,?_,?_⟩
 ·unfold Q83.f;rw[w0,ef];simp only[pC];rw[fe];have h1:=fun K=>jS N (d:= -(n:Int)) (l:=l) (by omega) (R:=List Int) K N 0 [] (by omega) (by omega) (by simp);simp only[b8,ki,bz]at h1;rw[show ints []=[]from rfl]at h1;rw[h1];have ho:(ints (bI l)).length≤100:=by rw[aN];omega
  have hr0:zA (ints (bI l)).length 8=true:=aH ho (Nat.zero_le 10);generalize ints (bI l)=X at*;unfold iO;by_cases h2: -(n:Int)%2≠0
  ·rw[if_pos h2];have:(Int.tmod (-(n:Int)) 2 != 0)=true:=by rw[bne_iff_ne,Fb];omega
   rw[this,cond_true,bw]
  ·rw[if_neg h2];have:(Int.tmod (-(n:Int)) 2 != 0)=false:=by rw[bne_eq_false_iff_eq,Fb];omega
   rw[this,cond_false,w0,Br N (by omega)];simp only[pC];have wd:aA (Int.tdiv (n:Int) 4)= -(-(n:Int))/4:=by rw[w5 (by omega),dA (by omega) (by omega)];omega
   rw[wd];generalize hk: -(-(n:Int))/4=k;have k0:0≤k:=by omega
   rw[cX (by omega) k 4 (by decide) [3] (by simp),cX (by omega) k 8 (by decide) [1,5,4] (by simp),cX (by omega) k 8 (by decide) [2] (by simp),cX (by omega) k 8 (by decide) [6] (by simp),cX (by omega) k 8 (by decide) [0] (by simp)];have t4:Int.tmod k 4=k%4:=hD k0;have t8:Int.tmod k 8=k%8:=hD k0;simp only[t4,t8,pC];have hh:k%8=0∨k%8=1∨k%8=2∨k%8=3∨k%8=4∨k%8=5∨k%8=6∨k%8=7:=by omega
   rcases hh with h|h|h|h|h|h|h|h
   ·rw[h,show k%4=0 by omega];simp[aH ho]
   ·rw[h,show k%4=1 by omega];simp[aH ho]
   ·rw[h,show k%4=2 by omega];simp[aH ho]
   ·rw[h,show k%4=3 by omega];simp[hr0]
   ·rw[h,show k%4=0 by omega];simp[aH ho]
   ·rw[h,show k%4=1 by omega];simp[aH ho]
   ·rw[h,show k%4=2 by omega];simp[aH ho]
   ·rw[h,show k%4=3 by omega];simp[hr0]
 ·unfold Q88.f;rw[w0];have h1:=fun K=>wu (N:=N) (n0:=n) (m0:=m) (e:=e) (by omega) (by omega) en (R:=List Int) (-(n:Int)) K N 3 m [] hst (by omega) (by omega) (by simp) (by omega) (by omega);simp only[vL,eh,ints]at h1;obtain⟨l',g1,g2,g3⟩:=h1 (fun y20 y21=>
   bif (Int.tmod y20 2) != 0 then
    some y21
   else
   bif (Int.tmod (aA (Int.tdiv (aA (0-y20)) 4)) 4)==3 then
    some y21
   else
   bif (Int.tmod (aA (Int.tdiv (aA (0-y20)) 4)) 4)==1 then
    bif zA (y21.length+1) 8 then
     some (y21++[(-4)])
    else none
   else
   bif (Int.tmod (aA (Int.tdiv (aA (0-y20)) 4)) 8)==4 then
    bif zA (y21.length+1) 8 then
     some (y21++[(-4)])
    else none
   else
   bif (Int.tmod (aA (Int.tdiv (aA (0-y20)) 4)) 8)==2 then
    bif zA (y21.length+1) 8 then
     some (y21++[(-8)])
    else none
   else
   bif (Int.tmod (aA (Int.tdiv (aA (0-y20)) 4)) 8)==6 then
    bif zA (y21.length+1) 8 then
     some (y21++[8])
    else none
   else
   bif zA (y21.length+2) 8 then
    some (y21++[(-4),8])
   else none)
  rw[←en,show((3:Nat):Int)=3 from rfl]at g3;rw[g3];have g4:=hodd l' g1 g2;rw[show(l'.map fun x=>x.1).map (fun(x:Nat)=>(x:Int))=ints (vL l')from rfl,g4];have ho:(ints (bI l)).length≤100:=by rw[aN];omega
  generalize ints (bI l)=X at*;unfold iO;by_cases h2: -(n:Int)%2≠0
  ·rw[if_pos h2];have:(Int.tmod (-(n:Int)) 2 != 0)=true:=by rw[bne_iff_ne,Fb];omega
   rw[this,cond_true,bw]
  ·rw[if_neg h2];have:(Int.tmod (-(n:Int)) 2 != 0)=false:=by rw[bne_eq_false_iff_eq,Fb];omega
   rw[this,cond_false,w0];have wd:aA (Int.tdiv (n:Int) 4)= -(-(n:Int))/4:=by rw[w5 (by omega),dA (by omega) (by omega)];omega
   rw[wd];generalize hk: -(-(n:Int))/4=k;have k0:0≤k:=by omega
   have t4:Int.tmod k 4=k%4:=hD k0;have t8:Int.tmod k 8=k%8:=hD k0;simp only[t4,t8];have hh:k%8=0∨k%8=1∨k%8=2∨k%8=3∨k%8=4∨k%8=5∨k%8=6∨k%8=7:=by omega
   rcases hh with h|h|h|h|h|h|h|h
   ·rw[h,show k%4=0 by omega];simp[aH ho]
   ·rw[h,show k%4=1 by omega];simp[aH ho]
   ·rw[h,show k%4=2 by omega];simp[aH ho]
   ·rw[h,show k%4=3 by omega];simp
   ·rw[h,show k%4=0 by omega];simp[aH ho]
   ·rw[h,show k%4=1 by omega];simp[aH ho]
   ·rw[h,show k%4=2 by omega];simp[aH ho]
   ·rw[h,show k%4=3 by omega];simp
theorem Ao.sy {d:Int}{X:List Int}(h:Ao d X)(hd: -65536≤d)(h0:d<0){q:Int}(hq:q∈X):Sy q:=by
 obtain⟨l,hl,rfl⟩:=h.ex;rcases a6.mp hq with h|h
 ·obtain⟨p,hp,rfl⟩:=w4.mp h;obtain⟨a,b,c⟩:=(nQ hl p).mp hp;have hle:=k7 (by omega) b;refine .pr p ⟨by have:=a.1;omega,a.2⟩ (by omega) ?_ (by omega);rcases o0 p with q|q
  ·have:=a.2 2 (aE q);omega
  ·exact q
 ·exact Bw h
theorem Ao.len {d:Int}{X:List Int}(h:Ao d X)(hd: -65536≤d):X.length≤8:=by
 obtain⟨l,hl,rfl⟩:=h.ex;have:=gn hl (by omega);have:=Aa d;rw[List.length_append,aN];omega
open Go.Proofs.Yteaakcmkpacpaaa.Pure (dA hJ nI sV n5 nP pL iG gG eK cq ct)
open Go.Proofs.Yteaakcmkpacpaaa.NatL (ab xA)
open Go.Proofs.Yteaakcmkpacpaaa.Cls (jY gJ iq ic fc tY)
open Go.Proofs.Yteaakcmkpacpaaa.Jac (Sy Pr lN qS wL)
theorem A7 {q:Int}(h:Sy q): -8≤q∧q≤65536∧q≠0:=by
 cases h with
 |pr p hp h3 ho hb=>omega
 |_=>decide
theorem Bu {N:Nat}(hN:8589934600<N)(n:Int){q:Int}(hq:Sy q):∃s,Q89.f N n q=some s∧(s=1∨s= -1):=by
 have rL:∀(o:Option Int) (f:Int→Option Int),True:=fun _ _=>trivial;cases hq with
 |m4=>
  unfold Q89.f;cases e:Int.tmod n 4==1
  ·exact⟨-1,by simp[e],.inr rfl⟩
  ·exact⟨1,by simp[e],.inl rfl⟩
 |p8=>
  unfold Q89.f;cases e:Int.tmod n 8==1
  ·cases e2:Int.tmod n 8==7
   ·exact⟨-1,by simp[e,e2],.inr rfl⟩
   ·exact⟨1,by simp[e,e2],.inl rfl⟩
  ·exact⟨1,by simp[e],.inl rfl⟩
 |m8=>
  unfold Q89.f;cases e:Int.tmod n 8==1
  ·cases e2:Int.tmod n 8==3
   ·exact⟨-1,by simp[e,e2],.inr rfl⟩
   ·exact⟨1,by simp[e,e2],.inl rfl⟩
  ·exact⟨1,by simp[e],.inl rfl⟩
 |pr p hp h3 ho hb=>
  unfold Q89.f;have c1:((p:Int)== -4)=false:=beq_eq_false_iff_ne.mpr (by omega);have c2:((p:Int)==8)=false:=beq_eq_false_iff_ne.mpr (by omega);have c3:((p:Int)== -8)=false:=beq_eq_false_iff_ne.mpr (by omega);rw[c1,c2,c3];simp only[cond_false];have go:∀(f x:Nat),x≤p→p-x<f→∃s,Q89.l15 (R:=Int) N f n (p:Int) (x:Int) (fun(_:Unit)=>some (-1)) (fun y7=>some y7)=some s∧(s=1∨s= -1):=by
   intro f;induction f with
   |zero=>intro x _ h;omega
   |succ f ih=>
    intro x hx hf;rw[Q89.l15];by_cases h:x<p
    ·rw[decide_eq_true (show(x:Int)<(p:Int) by omega),Ax (show 0<p by omega)];simp only[cond_true];cases e:Int.tmod (aA (aA ((x:Int)*(x:Int))-n)) (p:Int)==0
     ·rw[cond_false,tX (by omega)];exact ih (x+1) (by omega) (by omega)
     ·exact⟨1,rfl,.inl rfl⟩
    ·rw[decide_eq_false (show ¬(x:Int)<(p:Int) by omega)];exact⟨-1,rfl,.inr rfl⟩
  exact go N 1 (by omega) (by omega)
noncomputable def sv (N:Nat)(a b c q:Int):Int:=(Q89.f N (lN a c (a+b+c) q) q).getD 0
theorem Du {q:Int}(hq:Sy q):∃π:Int,2≤π∧∀v,Int.gcd v q≠1→π∣v:=by
 have two:∀q:Int,(q.natAbs=2*2∨q.natAbs=2*2*2)→∃π:Int,2≤π∧∀v,Int.gcd v q≠1→π∣v:=by
  intro q hq;refine⟨2,by decide,fun v hv=>?_⟩;rcases o0 v.natAbs with h|h
  ·omega
  ·exfalso;have h2:=wL h;have h22:Nat.gcd (2*2) v.natAbs=1:=Nat.Coprime.mul_left h2 h2;have h222:Nat.gcd (2*2*2) v.natAbs=1:=Nat.Coprime.mul_left h22 h2;apply hv;unfold Int.gcd;rw[o3];rcases hq with e|e<;>rw[e]<;>assumption
 cases hq with
 |m4=>exact two _ (.inl rfl)
 |p8=>exact two _ (.inr rfl)
 |m8=>exact two _ (.inr rfl)
 |pr p hp h3 ho hb=>
  refine⟨p,by omega,fun v hv=>?_⟩;rcases hp.2 _ (x6 v.natAbs p)with e|e
  ·exact absurd e hv
  ·have:=c7 v.natAbs p;rw[e]at this;exact p7.mpr this
theorem yr {a b c q:Int}(hq:Sy q)(hp:nP a b c):Int.gcd a q=1∨Int.gcd c q=1∨Int.gcd (a+b+c) q=1:=by
 obtain⟨π,h2,hd⟩:=Du hq;by_cases h1:Int.gcd a q=1
 ·exact .inl h1
 ·by_cases h3:Int.gcd c q=1
  ·exact .inr (.inl h3)
  ·by_cases h4:Int.gcd (a+b+c) q=1
   ·exact .inr (.inr h4)
   ·exfalso;have da:=hd a h1;have dc:=hd c h3;have ds:=hd _ h4;have db:π∣b:=by
     have:=au (au ds da) dc;rwa[show a+b+c-a-c=b by omega]at this
    obtain⟨x,y,z,e⟩:=hp;have:π∣1:=by rw[←e];exact cp (cp (u4 da) (u4 db)) (u4 dc)
    have:=r8 (by decide) this;omega
structure Fm (d a b c:Int):Prop where
 val:n5 d a b c
 lo: -65536≤d
theorem Fm.bd {d a b c:Int}(h:Fm d a b c):(0<a∧a≤1073741824)∧(-1073741824≤b∧b≤1073741824)∧(0<c∧c≤1073741824)∧0<a+b+c:=by
 obtain⟨⟨⟨a0,a1⟩,⟨b0,b1⟩,c0,c1⟩,ap,d0,d1⟩:=h.val.fine;have hbb:0≤b*b:=by
  rcases bt 0 b with q|q
  ·exact j3 q q
  ·have:=j3 (show 0≤ -b by omega) (show 0≤ -b by omega);rwa[gw]at this
 have hac:0<a*c:=by
  have:4*a*c=4*(a*c):=by grind
  omega
 have hc:0<c:=by
  rcases w7 0 c with q|q
  ·exact q
  ·have:=j3 (show 0≤a by omega) (show 0≤ -c by omega);rw[oj]at this;omega
 refine⟨⟨ap,a1⟩,⟨b0,b1⟩,⟨hc,c1⟩,?_⟩;have h3:4*a*(a+b+c)=(2*a+b)*(2*a+b)- (b*b-4*a*c):=by grind
 have hsq:0≤(2*a+b)*(2*a+b):=by
  rcases bt 0 (2*a+b)with q|q
  ·exact j3 q q
  ·have:=j3 (show 0≤ -(2*a+b) by omega) (show 0≤ -(2*a+b) by omega);rwa[gw]at this
 rcases w7 0 (a+b+c)with q|q
 ·exact q
 ·have h4:=j3 (show 0≤4*a by omega) (show 0≤ -(a+b+c) by omega);rw[oj]at h4;omega
theorem Fm.lst {d a b c:Int}(h:Fm d a b c):jY d:=by
 have:=fc h.val.fine (by rw[h.val.of.eq];exact h.lo);rwa[h.val.of.eq]at this
theorem oU {N:Nat}(hN:8589934600<N){d a b c q:Int}(h:Fm d a b c)(hq:Sy q):Q84.f N a b c q=some (sv N a b c q)∧Q89.f N (lN a c (a+b+c) q) q=some (sv N a b c q)∧(sv N a b c q=1∨sv N a b c q= -1):=by
 obtain⟨⟨a0,a1⟩,⟨b0,b1⟩,⟨c0,c1⟩,s0⟩:=h.bd;obtain⟨s,e,hs⟩:=Bu hN (lN a c (a+b+c) q) hq;obtain⟨q0,q1,_⟩:=A7 hq;have hsv:sv N a b c q=s:=by unfold sv;rw[e];rfl
 rw[hsv];refine⟨?_,e,hs⟩;rw[←e];refine qS hN hq a0 c0 s0 (by omega) (by omega) (by omega) (by omega) (by omega) (fun v hv=>?_) (yr hq h.val.pr);have hv2:0<v∧v≤4294967296:=by rcases hv with rfl|rfl|rfl<;>omega
 have av:ab v≤1099511627776:=by rcases xA v with⟨_,e⟩|⟨_,e⟩<;>rw[e]<;>omega
 have aq:ab q≤1099511627776:=by rcases xA q with⟨_,e⟩|⟨_,e⟩<;>rw[e]<;>omega
 obtain⟨g,x,y,k1,_,_,k2⟩:=sV (N:=N) (by omega) av aq;rw[k1.eg]at k2;exact⟨x,y,k2⟩
def Af (Y:List Int):Int×Int×Int×Int×Int×Int×Int×Int:=(Y.getD 0 0,Y.getD 1 0,Y.getD 2 0,Y.getD 3 0,Y.getD 4 0,Y.getD 5 0,Y.getD 6 0,Y.getD 7 0)
def En (Y:List Int):List Int:=[Y.getD 0 0,Y.getD 1 0,Y.getD 2 0,Y.getD 3 0,Y.getD 4 0,Y.getD 5 0,Y.getD 6 0,Y.getD 7 0]
theorem Ez:∀(Y:List Int),Y.length≤8→(En Y).take Y.length=Y
 | [],_=>rfl
 | [_],_=>rfl
 | [_,_],_=>rfl
 | [_,_,_],_=>rfl
 | [_,_,_,_],_=>rfl
 | [_,_,_,_,_],_=>rfl
 | [_,_,_,_,_,_],_=>rfl
 | [_,_,_,_,_,_,_],_=>rfl
 | [_,_,_,_,_,_,_,_],_=>rfl
 |_::_::_::_::_::_::_::_::_::_,h=>by simp at h
theorem lX {N:Nat}{a b c:Int}{X:List Int}{g:Int→Int}(hg:∀q∈X,Q84.f N a b c q=some (g q))(hl:X.length≤8){R:Type}(K:List Int→List Int→Option R)(Z:List Int):∀(f i:Nat),i≤X.length→X.length-i<f→
  Q85.l3 N f X (X.length:Int) (i:Int) a b c Z ((X.take i).map g++List.replicate (8-i) 0) K=K Z (X.map g++List.replicate (8-X.length) 0)
 |0,i,_,h=>by omega
 |f+1,i,hi,hf=>by
  rw[Q85.l3];by_cases h:i<X.length
  ·have c1:decide ((i:Int)<(X.length:Int))=true:=decide_eq_true (by omega);have c2:decide (0≤(i:Int))=true:=decide_eq_true (by omega);have c3:decide ((i:Int)<8)=true:=decide_eq_true (by omega);have e:X.getD i 0=X[i]:=by rw[zE,xK h];rfl
   have w:aA ((i:Int)+1)=((i+1:Nat):Int):=tX (by omega);simp only[c1,c2,c3,cond_true,k8,o4,e,hg _ (p6 h),pC,w,mx];have es:((X.take i).map g++List.replicate (8-i) 0).set i (g X[i])=(X.take (i+1)).map g++List.replicate (8- (i+1)) 0:=by
    have l1:((X.take i).map g).length=i:=by rw[q7,List.length_take];omega
    rw[List.set_append_right _ _ (by omega),l1,Nat.sub_self];have l2:List.replicate (8-i) (0:Int)=0::List.replicate (8- (i+1)) 0:=by rw[show 8-i=(8- (i+1))+1 by omega];rfl
    rw[l2,List.set_cons_zero,List.take_succ_eq_append_getElem h,gx,ae];rfl
   rw[es];exact lX hg hl K Z f (i+1) (by omega) (by omega)
  ·have c1:decide ((i:Int)<(X.length:Int))=false:=decide_eq_false (by omega);rw[c1,cond_false,List.take_of_length_le (by omega),show i=X.length by omega]
theorem Bn (Y:List Int)(n i:Nat):(Y++List.replicate n 0).getD i 0=Y.getD i 0:=by
 rw[zE,zE];rcases n4 i Y.length with h|h
 ·rw[List.getElem?_append_left h]
 ·rw[List.getElem?_append_right h,kp h,List.getElem?_replicate];split<;>rfl
theorem mj {N:Nat}(hN:100<N){a b c:Int}{X:List Int}{g:Int→Int}(hg:∀q∈X,Q84.f N a b c q=some (g q))(hl:X.length≤8):Q85.f N a b c X=some (Af (X.map g)):=by
 unfold Q85.f;have:=lX hg hl (fun y16 y17=>some (((((((((y16.set 0 (y17.getD 0 0)).set 1 (y17.getD 1 0)).set 2 (y17.getD 2 0)).set 3 (y17.getD 3 0)).set 4 (y17.getD 4 0)).set 5 (y17.getD 5 0)).set 6 (y17.getD 6 0)).set 7 (y17.getD 7 0)).getD 0 0,((((((((y16.set 0 (y17.getD 0 0)).set 1 (y17.getD 1 0)).set 2 (y17.getD 2 0)).set 3 (y17.getD 3 0)).set 4 (y17.getD 4 0)).set 5 (y17.getD 5 0)).set 6 (y17.getD 6 0)).set 7 (y17.getD 7 0)).getD 1 0,((((((((y16.set 0 (y17.getD 0 0)).set 1 (y17.getD 1 0)).set 2 (y17.getD 2 0)).set 3 (y17.getD 3 0)).set 4 (y17.getD 4 0)).set 5 (y17.getD 5 0)).set 6 (y17.getD 6 0)).set 7 (y17.getD 7 0)).getD 2 0,((((((((y16.set 0 (y17.getD 0 0)).set 1 (y17.getD 1 0)).set 2 (y17.getD 2 0)).set 3 (y17.getD 3 0)).set 4 (y17.getD 4 0)).set 5 (y17.getD 5 0)).set 6 (y17.getD 6 0)).set 7 (y17.getD 7 0)).getD 3 0,((((((((y16.set 0 (y17.getD 0 0)).set 1 (y17.getD 1 0)).set 2 (y17.getD 2 0)).set 3 (y17.getD 3 0)).set 4 (y17.getD 4 0)).set 5 (y17.getD 5 0)).set 6 (y17.getD 6 0)).set 7 (y17.getD 7 0)).getD 4 0,((((((((y16.set 0 (y17.getD 0 0)).set 1 (y17.getD 1 0)).set 2 (y17.getD 2 0)).set 3 (y17.getD 3 0)).set 4 (y17.getD 4 0)).set 5 (y17.getD 5 0)).set 6 (y17.getD 6 0)).set 7 (y17.getD 7 0)).getD 5 0,((((((((y16.set 0 (y17.getD 0 0)).set 1 (y17.getD 1 0)).set 2 (y17.getD 2 0)).set 3 (y17.getD 3 0)).set 4 (y17.getD 4 0)).set 5 (y17.getD 5 0)).set 6 (y17.getD 6 0)).set 7 (y17.getD 7 0)).getD 6 0,((((((((y16.set 0 (y17.getD 0 0)).set 1 (y17.getD 1 0)).set 2 (y17.getD 2 0)).set 3 (y17.getD 3 0)).set 4 (y17.getD 4 0)).set 5 (y17.getD 5 0)).set 6 (y17.getD 6 0)).set 7 (y17.getD 7 0)).getD 7 0)) [0,0,0,0,0,0,0,0] N 0 (by omega) (by omega);rw[List.take_zero,eh,bz,b8]at this;rw[show List.replicate (8-0) (0:Int)=[0,0,0,0,0,0,0,0]from rfl]at this;rw[this];generalize hY:X.map g++List.replicate (8-X.length) 0=Y;have hy:Af (X.map g)=Af Y:=by rw[←hY];simp only[Af,Bn]
 rw[hy];rfl
theorem xW {N:Nat}(hN:8589934600<N){v q:Int}(hv:0<v)(hq:Sy q):Q90.f N v q=some (decide (Int.gcd v q=1)):=by
 obtain⟨q0,q1,q2⟩:=A7 hq;have key:∀g:Nat,(((g:Nat):Int)==1)=decide (g=1):=fun g=>by
  by_cases h:g=1
  ·subst h;rfl
  ·rw[decide_eq_false h];exact beq_eq_false_iff_ne.mpr (by omega)
 unfold Q90.f;by_cases h:q<0
 ·rw[decide_eq_true h,dA (by omega) (by omega),iq (by omega) (by omega) (by omega),show(0:Int)-q= -q by omega,Cls.xe];simp only[cond_true,pC];unfold Cls.rB;rw[key]
 ·rw[decide_eq_false h,cond_false,iq (by omega) (by omega) (by omega)];simp only[pC];unfold Cls.rB;rw[key]
theorem ph {N:Nat}(hN:8589934600<N){d a b c:Int}(h:Fm d a b c){X:List Int}(hX:∀q∈X,Sy q)(hl:X.length≤8){R:Type}(K:List Int→Option R):∀(f i:Nat) (A:List Int),i≤X.length→X.length-i<f→A.length≤i→
  Q91.l4 N f X (i:Int) a b c A K=K (A++(X.drop i).map (sv N a b c))
 |0,i,_,_,h,_=>by omega
 |f+1,i,A,hi,hf,hA=>by
  rw[Q91.l4];by_cases hlt:i<X.length
  ·have c1:decide ((i:Int)<(X.length:Int))=true:=decide_eq_true (by omega);have c2:decide (0≤(i:Int))=true:=decide_eq_true (by omega);have e:X.getD i 0=X[i]:=by rw[zE,xK hlt];rfl
   have w:aA ((i:Int)+1)=((i+1:Nat):Int):=tX (by omega);have hq:=hX _ (p6 hlt);obtain⟨⟨a0,a1⟩,⟨b0,b1⟩,⟨c0,c1'⟩,s0⟩:=h.bd;have ws:aA (aA (a+b)+c)=a+b+c:=by rw[dA (n:=a+b) (by omega) (by omega),dA (by omega) (by omega)]
   have hr:zA (A.length+1) 8=true:=aH (by omega) (by omega);simp only[c1,c2,cond_true,k8,o4,e,pC,w,ws,hr,xW hN a0 hq,xW hN c0 hq];have hs:=(oU hN h hq).2.1;have hd:X.drop i=X[i]::X.drop (i+1):=b7 hlt;have next:∀s,s=sv N a b c X[i]→Q91.l4 N f X ((i+1:Nat):Int) a b c (A++[s]) K=K (A++(X.drop i).map (sv N a b c)):=fun s hs=>by rw[ph hN h hX hl K f (i+1) (A++[s]) (by omega) (by omega) (by simp;omega),hd,hs,ae];rfl
   unfold lN at hs;by_cases h1:Int.gcd a X[i]=1
   ·rw[if_pos h1]at hs;rw[decide_eq_true h1,hs];simp only[lv,cond_false,pC];exact next _ rfl
   ·rw[if_neg h1]at hs;rw[decide_eq_false h1];by_cases h2:Int.gcd c X[i]=1
    ·rw[if_pos h2]at hs;rw[decide_eq_true h2,hs];simp only[lv,c6,cond_true,cond_false,pC];exact next _ rfl
    ·rw[if_neg h2]at hs;rw[decide_eq_false h2,hs];simp only[c6,cond_true,pC];exact next _ rfl
  ·have c1:decide ((i:Int)<(X.length:Int))=false:=decide_eq_false (by omega);rw[c1,cond_false,ba (by omega),eh,bw]
theorem pj {N:Nat}(hN:8589934600<N){d a b c:Int}(h:Fm d a b c):∃X,Ao d X∧X.length≤8∧(∀q∈X,Sy q)∧Q83.f N d=some X∧
  Q85.f N a b c X=some (Af (X.map (sv N a b c)))∧Q86.f N a b c=some (X.map (sv N a b c),0)∧
  Q105.f N a b c=some (0,X.length,En (X.map (sv N a b c)),0)∧Q91.f N a b c=some (X.map (sv N a b c)):=by
 have hL:=h.lst;obtain⟨X,hX,e1,e2⟩:=bp hN hL;have h8:=hX.len hL.1;have hsy:∀q∈X,Sy q:=fun q hq=>hX.sy hL.1 (by have:=hL.2.1;omega) hq;have es:=mj (N:=N) (by omega) (g:=sv N a b c) (fun q hq=>(oU hN h (hsy q hq)).1) h8;have ck:Q38.f N a b c=some 0:=by
  rcases gG N a b c with⟨_,k⟩|⟨k,_⟩
  ·exact k
  ·exact absurd h.val.fine k
 have dk:=(tY N h.val.fine).1;rw[h.val.of.eq]at dk;have co:=eK (N:=N) (by omega) h.val.fine.inb;rw[(Pure.bL a b c).mp h.val.pr]at co;have dlo:decide (d< -65536)=false:=decide_eq_false (by have:=h.lo;omega);have hlen:((decide (0≤(X.length:Int))&&decide ((X.length:Int)≤(X.length:Int)))&&decide ((X.length:Int)≤8))=true:=by simp;omega
 have tk:=Ez (X.map (sv N a b c)) (by rw[q7];exact h8);rw[q7]at tk;refine⟨X,hX,h8,hsy,e1,es,?_,?_,?_⟩
 ·unfold Q86.f;rw[ck];simp only[pC,bne_self_eq_false,cond_false,dk,dlo,co,e1,es,hlen,cond_true,o4];exact congrArg (fun l=>some (l,(0:Int))) tk
 ·unfold Q105.f;rw[ck];simp only[pC,bne_self_eq_false,cond_false,dk,dlo,co,e1,es,hlen,cond_true,o4];rfl
 ·unfold Q91.f;have:=pL h.val.fine.inb;rw[h.val.of.eq]at this;rw[this,e2];simp only[pC];have:=ph hN h hsy h8 (fun y17=>some y17) N 0 [] (by omega) (by omega) (by simp);rw[b8]at this;rw[this];rfl
open Go.Proofs.Yteaakcmkpacpaaa.Pure (dA nI n5 nP bL)
open Go.Proofs.Yteaakcmkpacpaaa.Cls (jY gJ Rd Cl we Bp ff aS zN yN wY)
section
variable (key:R3→List Int)
def Es (P:List R3)(k:List Int):List R3:=P.filter (fun x=>decide (key x=k))
end
open Go.Proofs.Yteaakcmkpacpaaa.Pure (dA)
open Go.Proofs.Yteaakcmkpacpaaa.Cls (jY Cl rR Aq E5)
structure Cd (G:List (List Int)):Prop where
 len:G.length≤45000
 row:∀r∈G,∃m,m≤45000∧r.length=m*3
theorem Cd.at {G:List (List Int)}(h:Cd G){i:Nat}(hi:i<G.length):∃m,m≤45000∧(G.getD i []).length=m*3:=by
 rw[zE,xK hi];exact h.row _ (p6 hi)
open Go.Proofs.Yteaakcmkpacpaaa.Pure (dA nI n5 nP bL cq val qm cK y6 oN)
open Go.Proofs.Yteaakcmkpacpaaa.NatL (tA tB)
open Go.Proofs.Yteaakcmkpacpaaa.Cls (jY gJ)
open Go.Proofs.Yteaakcmkpacpaaa.Jac (Sy Pr lN sJ mu rs yQ bg lI bH sZ yG oH fP)
def uO (q n:Int):Int:=if q= -4 then(if n%4=1 then 1 else-1)else if q=8 then(if n%8=1∨n%8=7 then 1 else-1)else if q= -8 then(if n%8=1∨n%8=3 then 1 else-1)else sJ (mu (rs n q.toNat) q.toNat)
theorem s6 (q n:Int):uO q n=1∨uO q n= -1:=by
 unfold uO
 repeat' split
 all_goals first|exact .inl rfl|exact .inr rfl|exact bg _
theorem vM {p:Nat}(h3:3≤p)(ho:p%2=1)(n:Int):uO (p:Int) n=sJ (mu (rs n p) p):=by
 unfold uO;rw[if_neg (by omega),if_neg (by omega),if_neg (by omega),o4]
theorem sH {p:Nat}(hp:Pr p)(n:Int):Int.gcd n p=1↔¬(p:Int)∣n:=by
 constructor
 ·intro h hd;have:(p:Int)∣((Int.gcd n (p:Int):Nat):Int):=bs hd (Int.dvd_refl _);rw[h]at this;have:=r8 (by decide) this;have:=hp.1;omega
 ·intro h;rcases hp.2 _ (x6 n.natAbs p)with e|e
  ·exact e
  ·exact absurd (p7.mpr (by have:=c7 n.natAbs p;rwa[e]at this)) h
theorem zn {p:Nat}(hp:Pr p){n:Int}(h:¬(p:Int)∣n):rs n p≠0:=fun e=>by
 have hr:=bH n (show 0<p by have:=hp.1;omega);rw[e]at hr;exact h (p5 hr.symm)
theorem mQ {n q:Int}(hq:q= -4∨q=8∨q= -8):Int.gcd n q=1↔n%2=1:=by
 constructor
 ·intro h;rcases(show n%2=0∨n%2=1 by omega)with e|e
  ·exfalso;have h1:(2:Int)∣n:=p5 e;have h2:(2:Int)∣q:=by rcases hq with h|h|h<;>subst h<;>decide
   have h3:(2:Int)∣((Int.gcd n q:Nat):Int):=bs h1 h2;rw[h]at h3;exact absurd h3 (by decide)
  ·exact e
 ·intro h;have ho:n.natAbs%2=1:=by omega
  have h2:=Jac.wL ho;have h22:Nat.gcd (2*2) n.natAbs=1:=Nat.Coprime.mul_left h2 h2;have h222:Nat.gcd (2*2*2) n.natAbs=1:=Nat.Coprime.mul_left h22 h2;unfold Int.gcd;rw[o3];rcases hq with rfl|rfl|rfl
  ·exact h22
  ·exact h222
  ·exact h222
theorem A0 {N:Nat}(hN:8589934600<N){n q:Int}(hq:Sy q)(n0:0<n)(n1:n≤4611686018427387904)(hc:Int.gcd n q=1):Q89.f N n q=some (uO q n):=by
 have t4:Int.tmod n 4=n%4:=hD (by omega);have t8:Int.tmod n 8=n%8:=hD (by omega);cases hq with
 |m4=>
  unfold Q89.f uO;rw[t4,if_pos rfl];by_cases h:n%4=1
  ·simp[h]
  ·rw[if_neg h];simp[beq_eq_false_iff_ne.mpr h]
 |p8=>
  unfold Q89.f uO;rw[t8,if_neg (by decide),if_pos rfl];by_cases h:n%8=1
  ·simp[h]
  ·by_cases h7:n%8=7
   ·simp[h7]
   ·rw[if_neg (by omega)];simp[beq_eq_false_iff_ne.mpr h,beq_eq_false_iff_ne.mpr h7]
 |m8=>
  unfold Q89.f uO;rw[t8,if_neg (by decide),if_neg (by decide),if_pos rfl];by_cases h:n%8=1
  ·simp[h]
  ·by_cases h7:n%8=3
   ·simp[h7]
   ·rw[if_neg (by omega)];simp[beq_eq_false_iff_ne.mpr h,beq_eq_false_iff_ne.mpr h7]
 |pr p hp h3 ho hb=>rw[vM h3 ho,fP hN n0 n1 hp h3 ho hb (by omega) (zn hp ((sH hp n).mp hc))]
theorem yP {n m q:Int}(h:Int.gcd n q=1)(k:Int.gcd m q=1):Int.gcd (n*m) q=1:=by
 unfold Int.gcd at*;rw[Int.natAbs_mul];exact Nat.Coprime.mul_left h k
theorem pP {n m q:Int}(hq:Sy q)(h:Int.gcd n q=1)(k:Int.gcd m q=1):uO q (n*m)=uO q n*uO q m:=by
 have ev:q= -4∨q=8∨q= -8→uO q (n*m)=uO q n*uO q m:=by
  intro e;have ho:=(mQ e).mp h;have ko:=(mQ e).mp k;have e8:(n*m)%8=((n%8)*(m%8))%8:=bu n m 8;have e4:(n*m)%4=((n%4)*(m%4))%4:=bu n m 4;have c1:n%8=1∨n%8=3∨n%8=5∨n%8=7:=by omega
  have c2:m%8=1∨m%8=3∨m%8=5∨m%8=7:=by omega
  unfold uO;rw[e8,e4];rcases c1 with c1|c1|c1|c1<;>rcases c2 with c2|c2|c2|c2<;>rcases e with rfl|rfl|rfl<;>
   simp[c1,c2,show n%4=(n%8)%4 by omega,show m%4=(m%8)%4 by omega]
 cases hq with
 |m4=>exact ev (.inl rfl)
 |p8=>exact ev (.inr (.inl rfl))
 |m8=>exact ev (.inr (.inr rfl))
 |pr p hp h3 ho hb=>
  have p0:0<p:=by omega
  have hn:=zn hp ((sH hp n).mp h);have hm:=zn hp ((sH hp m).mp k);have ln:=sZ n p0;have lm:=sZ m p0;rw[vM h3 ho,vM h3 ho,vM h3 ho,←yQ];have e:rs (n*m) p=(rs n p*rs m p)%p:=by
   have:((rs (n*m) p:Nat):Int)=(((rs n p*rs m p)%p:Nat):Int):=by rw[bH _ p0,a8,gr,bH _ p0,bH _ p0,←bu]
   exact_mod_cast this
  rw[e,oH];refine lI (yG ho (hp.cop (by rw[hC ln];exact hn)) (hp.cop (by rw[hC lm];exact hm)))
inductive uq (d:Int):Int→Prop
 |pr (p:Nat) (hp:Pr p) (h3:3≤p) (ho:p%2=1) (hb:p≤65536) (hd:(p:Int)∣d):uq d (p:Int)
 |m4 (h:d%4=0) (hk:(-d/4)%4=1∨(-d/4)%8=4∨(-d/4)%8=0):uq d (-4)
 |p8 (h:d%4=0) (hk:(-d/4)%8=6∨(-d/4)%8=0):uq d 8
 |m8 (h:d%4=0) (hk:(-d/4)%8=2):uq d (-8)
theorem uq.sy {d q:Int}(h:uq d q):Sy q:=by
 cases h with
 |pr p hp h3 ho hb hd=>exact .pr p hp h3 ho hb
 |m4=>exact .m4
 |p8=>exact .p8
 |m8=>exact .m8
theorem Ao.adm {d:Int}{X:List Int}(h:Ao d X)(hL:jY d){q:Int}(hq:q∈X):uq d q:=by
 obtain⟨d0,d1,d4⟩:=hL;obtain⟨l,hl,rfl⟩:=h.ex;rcases a6.mp hq with h|h
 ·obtain⟨p,hp,rfl⟩:=w4.mp h;obtain⟨a,b,c⟩:=(nQ hl p).mp hp;have hle:=k7 (by omega) b;refine .pr p ⟨by have:=a.1;omega,a.2⟩ (by omega) ?_ (by omega) ?_
  ·rcases o0 p with q|q
   ·have:=a.2 2 (aE q);omega
   ·exact q
  ·have:=hU.mpr b;rw[show(((-d).toNat:Nat):Int)= -d by omega]at this;exact nw.mp this
 ·unfold iO at h;by_cases h2:d%2≠0
  ·rw[if_pos h2]at h;cases h
  ·rw[if_neg h2]at h;by_cases h3:(-d/4)%4=3
   ·rw[if_pos h3]at h;cases h
   ·rw[if_neg h3]at h;by_cases h4:(-d/4)%4=1∨(-d/4)%8=4
    ·rw[if_pos h4]at h;simp only[yK]at h;subst h;exact .m4 (by omega) (by omega)
    ·rw[if_neg h4]at h;by_cases h5:(-d/4)%8=2
     ·rw[if_pos h5]at h;simp only[yK]at h;subst h;exact .m8 (by omega) h5
     ·rw[if_neg h5]at h;by_cases h6:(-d/4)%8=6
      ·rw[if_pos h6]at h;simp only[yK]at h;subst h;exact .p8 (by omega) (.inl h6)
      ·rw[if_neg h6]at h;simp only[x4,ep,or_false]at h;rcases h with rfl|rfl
       ·exact .m4 (by omega) (by omega)
       ·exact .p8 (by omega) (by omega)
theorem Fa (x:Int):(x*x)%8=0∨(x*x)%8=1∨(x*x)%8=4:=by
 have e:(x*x)%8=((x%8)*(x%8))%8:=bu x x 8;have c:x%8=0∨x%8=1∨x%8=2∨x%8=3∨x%8=4∨x%8=5∨x%8=6∨x%8=7:=by omega
 rw[e];rcases c with c|c|c|c|c|c|c|c<;>rw[c]<;>decide
theorem vw {d a b c q:Int}(hof:b*b-4*a*c=d)(hA:uq d q)(x y u v:Int)(h:Int.gcd (val a b c x y) q=1)(k:Int.gcd (val a b c u v) q=1):uO q (val a b c x y*val a b c u v)=1:=by
 have hrq:=yP h k;have key:4*(val a b c x y*val a b c u v)=(2*a*x*u+b*(x*v+y*u)+2*c*y*v)*(2*a*x*u+b*(x*v+y*u)+2*c*y*v)-d*((x*v-y*u)*(x*v-y*u)):=by rw[←hof];unfold val;grind
 have evn:d%4=0→∃P,val a b c x y*val a b c u v=P*P+(-d/4)*((x*v-y*u)*(x*v-y*u)):=by
  intro h4;have hb:b%2=0:=by
   have e:(b*b)%2=((b%2)*(b%2))%2:=bu b b 2;have e2:4*a*c=4*(a*c):=by grind
   rcases(show b%2=0∨b%2=1 by omega)with q|q
   ·exact q
   ·rw[q]at e;omega
  obtain⟨b',rfl⟩:∃b',b=2*b':=⟨b/2,by omega⟩
  obtain⟨k',rfl⟩:∃k',d= -(4*k'):=⟨-d/4,by omega⟩
  refine⟨a*x*u+b'*(x*v+y*u)+c*y*v,?_⟩;have ek: -(-(4*k'))/4=k':=by omega
  rw[ek];have e3:4*(val a (2*b') c x y*val a (2*b') c u v)=4*((a*x*u+b'*(x*v+y*u)+c*y*v)*(a*x*u+b'*(x*v+y*u)+c*y*v)+k'*((x*v-y*u)*(x*v-y*u))):=by rw[key];grind
  omega
 generalize val a b c x y*val a b c u v=r at*;generalize hQ:(x*v-y*u)*(x*v-y*u)=t at*;have ht:t%8=0∨t%8=1∨t%8=4:=hQ▸Fa _;have Dd:∀k0:Int,(-d/4)%8=k0→∃w,(-d/4)*t=8*w+k0*t:=fun k0 hk=>⟨(-d/4)/8*t,by
  have:(-d/4)=8*((-d/4)/8)+k0:=by omega
  generalize(-d/4)/8=j at*;rw[this,Int.add_mul,Int.mul_assoc]⟩
 cases hA with
 |pr p hp h3 ho hb hd=>
  generalize 2*a*x*u+b*(x*v+y*u)+2*c*y*v=P at*;have hr:=(sH hp r).mp hrq;have h2:¬(p:Int)∣2:=fun q=>by have:=r8 (by decide) q;omega
  have c2:=(sH hp 2).mpr h2;have hmulp:∀x y:Int,¬(p:Int)∣x→¬(p:Int)∣y→¬(p:Int)∣x*y:=fun x y hx hy=>(sH hp _).mp (yP ((sH hp x).mpr hx) ((sH hp y).mpr hy));have h4r:¬(p:Int)∣4*r:=hmulp 4 r (by have:=hmulp 2 2 h2 h2;rwa[show(2:Int)*2=4 from rfl]at this) hr;have hP:¬(p:Int)∣P:=fun q=>h4r (by rw[key];exact au (l5 q) (l5 hd));have sy:Sy (p:Int):=.pr p hp h3 ho hb;have e1:uO (p:Int) (4*r)=uO (p:Int) r:=by rw[pP sy (by rw[show(4:Int)=2*2 from rfl];exact yP c2 c2) hrq,show(4:Int)=2*2 from rfl,pP sy c2 c2];rcases s6 (p:Int) 2 with q|q<;>rw[q]<;>omega
  have e2:uO (p:Int) (4*r)=uO (p:Int) (P*P):=by
   rw[vM h3 ho,vM h3 ho];have:rs (4*r) p=rs (P*P) p:=by unfold rs;congr 1;rw[key];obtain⟨e,he⟩:=hd;rw[he,show P*P- (p:Int)*e*t=P*P+(p:Int)*(-(e*t)) by grind,w6]
   rw[this]
  have cP:=(sH hp P).mpr hP;rw[←e1,e2,pP sy cP cP];rcases s6 (p:Int) P with q|q<;>rw[q]<;>rfl
 |m4 h4 hk=>
  have hr:=(mQ (.inl rfl)).mp hrq;obtain⟨P,hP⟩:=evn h4;have hs:=Fa P;generalize P*P=s at*;have:r%4=1:=by
   have hk8:(-d/4)%8=1∨(-d/4)%8=5∨(-d/4)%8=4∨(-d/4)%8=0:=by omega
   rcases hk8 with q|q|q|q
   all_goals (obtain⟨w,hw⟩:=Dd _ q;rw[hw]at hP;omega)
  unfold uO;rw[if_pos rfl,if_pos this]
 |p8 h4 hk=>
  have hr:=(mQ (.inr (.inl rfl))).mp hrq;obtain⟨P,hP⟩:=evn h4;have hs:=Fa P;generalize P*P=s at*;have:r%8=1∨r%8=7:=by
   rcases hk with q|q
   all_goals (obtain⟨w,hw⟩:=Dd _ q;rw[hw]at hP;omega)
  unfold uO;rw[if_neg (by decide),if_pos rfl,if_pos this]
 |m8 h4 hk=>
  have hr:=(mQ (.inr (.inr rfl))).mp hrq;obtain⟨P,hP⟩:=evn h4;have hs:=Fa P;generalize P*P=s at*;have:r%8=1∨r%8=3:=by obtain⟨w,hw⟩:=Dd _ hk;rw[hw]at hP;omega
  unfold uO;rw[if_neg (by decide),if_neg (by decide),if_pos rfl,if_pos this]
theorem ri {d a b c q:Int}(hof:b*b-4*a*c=d)(hA:uq d q)(x y u v:Int)(h:Int.gcd (val a b c x y) q=1)(k:Int.gcd (val a b c u v) q=1):uO q (val a b c x y)=uO q (val a b c u v):=by
 have e:=vw hof hA x y u v h k;rw[pP hA.sy h k]at e;rcases s6 q (val a b c x y)with h1|h1<;>rcases s6 q (val a b c u v)with h2|h2<;>rw[h1,h2]at e⊢ <;>first|rfl|(exfalso;revert e;decide)
theorem pX {N:Nat}(hN:8589934600<N){d a b c q:Int}(h:Fm d a b c)(hA:uq d q):∃x y,sv N a b c q=uO q (val a b c x y)∧Int.gcd (val a b c x y) q=1∧(∀u v,Int.gcd (val a b c u v) q=1→sv N a b c q=uO q (val a b c u v)):=by
 obtain⟨⟨a0,a1⟩,⟨b0,b1⟩,⟨c0,c1⟩,s0⟩:=h.bd;obtain⟨_,e,_⟩:=oU hN h hA.sy;have hp:∃x y,lN a c (a+b+c) q=val a b c x y∧Int.gcd (val a b c x y) q=1∧0<val a b c x y∧val a b c x y≤4611686018427387904:=by
  have v1:val a b c 1 0=a:=by unfold val;grind
  have v2:val a b c 0 1=c:=by unfold val;grind
  have v3:val a b c 1 1=a+b+c:=by unfold val;grind
  unfold lN;by_cases h1:Int.gcd a q=1
  ·rw[if_pos h1];exact⟨1,0,v1.symm,by rw[v1];exact h1,by rw[v1];omega,by rw[v1];omega⟩
  ·rw[if_neg h1];by_cases h2:Int.gcd c q=1
   ·rw[if_pos h2];exact⟨0,1,v2.symm,by rw[v2];exact h2,by rw[v2];omega,by rw[v2];omega⟩
   ·rw[if_neg h2];have h3:=((yr hA.sy h.val.pr).resolve_left h1).resolve_left h2;exact⟨1,1,v3.symm,by rw[v3];exact h3,by rw[v3];omega,by rw[v3];omega⟩
 obtain⟨x,y,p1,p2,p3,p4⟩:=hp;rw[p1,A0 hN hA.sy p3 p4 p2]at e;have e':sv N a b c q=uO q (val a b c x y):=(Option.some.inj e).symm;exact⟨x,y,e',p2,fun u v k=>by rw[e'];exact ri h.val.of.eq hA x y u v p2 k⟩
theorem A6 {N:Nat}(hN:8589934600<N){d a1 b1 c1 a2 b2 c2 a b c q:Int}(h1:Fm d a1 b1 c1)(h2:Fm d a2 b2 c2)(h:Fm d a b c)(hr:cK d (Pure.Pr d (Pure.La d a1 b1) (Pure.La d a2 b2)) a b c)(hA:uq d q):sv N a b c q=sv N a1 b1 c1 q*sv N a2 b2 c2 q:=by
 obtain⟨x,y,e1,e2,_⟩:=pX hN h1 hA;obtain⟨u,v,e3,e4,_⟩:=pX hN h2 hA;obtain⟨_,_,_,_,e5⟩:=pX hN h hA;obtain⟨X,Y,eX⟩:=qm h1.val.dn h1.val h2.val hr x y u v;rw[e5 X Y (by rw[eX];exact yP e2 e4),eX,e1,e3,pP hA.sy e2 e4]
theorem Dg {x y:Int}(hx:x=1∨x= -1)(hy:y=1∨y= -1):aA (x*y)=x*y:=by
 rcases hx with rfl|rfl<;>rcases hy with rfl|rfl<;>decide
theorem Dh {N:Nat}(hN:8589934600<N)(a b c:Int):(∃d,Fm d a b c∧∃X,Ao d X∧X.length≤8∧Q83.f N d=some X∧Q86.f N a b c=some (X.map (sv N a b c),0))∨∃e,e≠0∧Q86.f N a b c=some ([],e):=by
 by_cases hf:nI a b c
 ·have ck:Q38.f N a b c=some 0:=by
   rcases Pure.gG N a b c with⟨_,k⟩|⟨k,_⟩
   ·exact k
   ·exact absurd hf k
  obtain⟨dk,_⟩:=Cls.tY N hf;have co:=Pure.eK (N:=N) (by omega) hf.inb;generalize hd:b*b-4*a*c=d at*;by_cases hlo:d< -65536
  ·refine .inr ⟨80,by decide,?_⟩;unfold Q86.f;rw[ck];simp only[pC,bne_self_eq_false,cond_false,dk,decide_eq_true hlo,cond_true]
  ·by_cases hp:nP a b c
   ·obtain⟨X,hX,h8,hsy,e1,es,e2,e3,e4⟩:=pj hN (d:=d) (a:=a) (b:=b) (c:=c) ⟨⟨hf,⟨hd⟩,hp⟩,by omega⟩;exact .inl ⟨d,⟨⟨hf,⟨hd⟩,hp⟩,by omega⟩,X,hX,h8,e1,e2⟩
   ·have hc2:NatL.rB (NatL.rB a b) c≠1:=fun k=>hp ((bL _ _ _).mpr k);have b2:(NatL.rB (NatL.rB a b) c != 1)=true:=by rw[bne_iff_ne];exact hc2
    refine .inr ⟨81,by decide,?_⟩;unfold Q86.f;rw[ck];simp only[pC,bne_self_eq_false,cond_false,dk,decide_eq_false hlo,co,b2,cond_true]
 ·obtain⟨e,he,ck,er⟩:=Pure.lr (N:=N) hf;have hne:(e != 0)=true:=by rw[bne_iff_ne];exact he
  refine .inr ⟨e,he,?_⟩;unfold Q86.f;rw[ck];simp only[pC,hne,cond_true]
open Go.Proofs.Yteaakcmkpacpaaa.Pure (dA nI n5 nP bL cq val cK gu oR)
open Go.Proofs.Yteaakcmkpacpaaa.Jac (Sy Pr sJ mu rs yQ lI bH oH oW oy xx)
theorem zj {n:Nat}(h1:1<n):∃p,jD p∧p∣n:=by
 have:∀f k,1<k→k∣n→k≤f→∃p,1<p∧p∣n∧∀k,1<k→k∣n→p≤k:=by
  intro f;induction f with
  |zero=>intro k h1 _ h2;omega
  |succ f ih=>
   intro k h1 h2 h3;by_cases hx:∃k',1<k'∧k'∣n∧k'<k
   ·obtain⟨k',a1,a2,a3⟩:=hx;exact ih k' a1 a2 (by omega)
   ·exact⟨k,h1,h2,fun k' a1 a2=>Nat.le_of_not_lt fun a3=>hx ⟨k',a1,a2,a3⟩⟩
 obtain⟨p,hp1,hp2,hp3⟩:=this n n h1 (mb _) (y4 _);exact⟨p,Fr.prime (p:=p) (n:=n) hp3 hp1 hp2,hp2⟩
theorem js {a b:Nat}(hb:0<b)(h:∀p,jD p→p∣a→p∣b→False):Nat.gcd a b=1:=by
 have hg:=eu a hb;rcases n4 1 (Nat.gcd a b)with q|q
 ·obtain⟨p,hp,hd⟩:=zj q;exact(h p hp (hS hd (c7 a b)) (hS hd (x6 a b))).elim
 ·omega
theorem jD.imul {p:Nat}(h:jD p){x y:Int}(hd:(p:Int)∣x*y):(p:Int)∣x∨(p:Int)∣y:=by
 have:=p7.mp hd;rw[Int.natAbs_mul]at this;rcases h.dvd_mul this with q|q
 ·exact .inl (p7.mpr q)
 ·exact .inr (p7.mpr q)
def pr:List Nat→Nat
 | []=>1
 |x::l=>x*pr l
theorem ll:∀{l:List Nat},(∀p∈l,jD p)→0<pr l
 | [],_=>by simp[pr]
 |x::l,h=>im (by have:=(h x (by simp)).1;omega) (ll fun p hp=>h p (hE _ hp))
theorem lk:∀{l:List Nat} {p:Nat},p∈l→p∣pr l
 |x::l,p,h=>by
  simp only[pr];rcases x4.mp h with rfl|h
  ·exact⟨_,rfl⟩
  ·exact hS (lk h) ⟨_,hG _ _⟩
theorem wW {p:Nat}(hp:jD p):∀{l:List Nat},(∀q∈l,jD q)→p∣pr l→p∈l
 | [],_,hd=>by have:=hp.1;have:=cu.mp hd;omega
 |x::l,h,hd=>by
  rcases hp.dvd_mul hd with q|q
  ·rw[hp.eq (h x (by simp)) q];simp
  ·exact hE _ (wW hp (fun q hq=>h q (hE _ hq)) q)
open Classical in
theorem Dm {a b c:Int}(hp:nP a b c){ps:List Nat}(hps:∀p∈ps,jD p):∃x y u w:Int,x*w-u*y=1∧0<y∧∀p∈ps,¬(p:Int)∣val a b c x y:=by
 let l1:=ps.filter fun(p:Nat)=>decide (¬(p:Int)∣a)
 let l2:=ps.filter fun(p:Nat)=>decide ((p:Int)∣a∧¬(p:Int)∣c)
 have m1:∀p:Nat,p∈l1↔p∈ps∧¬(p:Int)∣a:=fun p=>by simp[l1,e9]
 have m2:∀p:Nat,p∈l2↔p∈ps∧(p:Int)∣a∧¬(p:Int)∣c:=fun p=>by simp[l2,e9]
 have q1:∀p∈l1,jD p:=fun p h=>hps p ((m1 p).mp h).1;have q2:∀p∈l2,jD p:=fun p h=>hps p ((m2 p).mp h).1;have i1:∀p:Nat,jD p→((p:Int)∣((pr l1:Nat):Int)↔p∈l1):=fun p h=>⟨fun d=>wW h q1 (hU.mp d),fun d=>hU.mpr (lk d)⟩
 have i2:∀p:Nat,jD p→((p:Int)∣((pr l2:Nat):Int)↔p∈l2):=fun p h=>⟨fun d=>wW h q2 (hU.mp d),fun d=>hU.mpr (lk d)⟩
 have hg:Nat.gcd (pr l2) (pr l1)=1:=js (ll q1) fun p h d2 d1=>by have h1:=(m1 p).mp (wW h q1 d1);have h2:=(m2 p).mp (wW h q2 d2);exact h1.2 h2.2.1
 obtain⟨s,t,hst⟩:=oR ((pr l2:Nat):Int) ((pr l1:Nat):Int);have hone:NatL.rB ((pr l2:Nat):Int) ((pr l1:Nat):Int)=1:=by unfold NatL.rB Int.gcd;rw[Int.natAbs_natCast,Int.natAbs_natCast,hg];rfl
 rw[hone]at hst;refine⟨(pr l2:Nat),(pr l1:Nat), -t,s,by rw[←hst];grind,by have:=ll q1;omega,fun p hm hd=>?_⟩;have hpp:=hps p hm;have j1:=i1 p hpp;have j2:=i2 p hpp;rw[m1]at j1;rw[m2]at j2;generalize((pr l1:Nat):Int)=y at*;generalize((pr l2:Nat):Int)=x at*;have split3:∀u v w:Int,(p:Int)∣u*v*w→(p:Int)∣u∨(p:Int)∣v∨(p:Int)∣w:=fun u v w h=>by
  rcases hpp.imul h with h|h
  ·rcases hpp.imul h with h|h
   ·exact .inl h
   ·exact .inr (.inl h)
  ·exact .inr (.inr h)
 unfold val at hd;by_cases ha:(p:Int)∣a
 ·by_cases hc:(p:Int)∣c
  ·have dx:¬(p:Int)∣x:=fun q=>(j2.mp q).2.2 hc;have dy:¬(p:Int)∣y:=fun q=>(j1.mp q).2 ha;have hb:¬(p:Int)∣b:=fun q=>by
    obtain⟨e,f,g,h⟩:=hp;have:(p:Int)∣1:=by rw[←h];exact cp (cp (u4 ha) (u4 q)) (u4 hc)
    have:=r8 (by decide) this;have:=hpp.1;omega
   have e:b*x*y=(a*x*x+b*x*y+c*y*y)- (a*(x*x)+c*(y*y)):=by grind
   have:(p:Int)∣b*x*y:=by rw[e];exact au hd (cp (l5 ha) (l5 hc))
   rcases split3 _ _ _ this with q|q|q
   ·exact hb q
   ·exact dx q
   ·exact dy q
  ·have dx:(p:Int)∣x:=j2.mpr ⟨hm,ha,hc⟩;have dy:¬(p:Int)∣y:=fun q=>(j1.mp q).2 ha;have e:c*y*y=(a*x*x+b*x*y+c*y*y)-x*(a*x+b*y):=by grind
   have:(p:Int)∣c*y*y:=by rw[e];exact au hd (l5 dx)
   rcases split3 _ _ _ this with q|q|q
   ·exact hc q
   ·exact dy q
   ·exact dy q
 ·have dy:(p:Int)∣y:=j1.mpr ⟨hm,ha⟩;have dx:¬(p:Int)∣x:=fun q=>ha (j2.mp q).2.1;have e:a*x*x=(a*x*x+b*x*y+c*y*y)-y*(b*x+c*y):=by grind
  have:(p:Int)∣a*x*x:=by rw[e];exact au hd (l5 dy)
  rcases split3 _ _ _ this with q|q|q
  ·exact ha q
  ·exact dx q
  ·exact dx q
def Dl:List Int→Int
 | []=>1
 |x::l=>x*Dl l
theorem oz {n:Nat}(hn:n%2=1):∀(l:List Nat),(∀p∈l,p%2=1)→Nat.gcd n (pr l)=1→(pr l)%2=1∧sJ (mu n (pr l))=Dl (l.map fun p=>sJ (mu n p))
 | [],_,_=>⟨rfl,rfl⟩
 |x::l,h,hc=>by have hx:=h x (by simp);have hc2:=(Jac.jt hc).2;obtain⟨h1,h2⟩:=oz hn l (fun p hp=>h p (hE _ hp)) hc2;refine⟨by simp only[pr];rw[l0,hx,h1],?_⟩;simp only[pr,bn,Dl];rw[←h2,←yQ];exact lI (oW hn hx h1 hc)
theorem ib:∀{l:PL},(∀x∈l,x.2=1)→vD l=pr (vL l)
 | [],_=>rfl
 |x::l,h=>by have:=ib (l:=l) fun y hy=>h y (hE _ hy);simp only[vD,this,h x (by simp),kd];rfl
theorem tq {N:Nat}(hN:8589934600<N){d a b c:Int}(h:Fm d a b c)(hd:d%2=1){X:List Int}(hX:Ao d X):Dl (X.map (sv N a b c))=1∨∃j:Nat,2≤j∧((j*j:Nat):Int)∣ -d:=by
 have hL:=h.lst;obtain⟨d0,d1,d4⟩:=hL;have hadm:=fun q hq=>hX.adm h.lst (q:=q) hq;obtain⟨l,hl,rfl⟩:=hX.ex;obtain⟨m,hm⟩:∃m:Nat,(-d).toNat=m:=⟨_,rfl⟩
 have hm2:(m:Int)= -d:=by omega
 rw[hm]at hl;by_cases hsq:∀x∈l,x.2=1
 ·refine .inl ?_;have hmo:m%2=1:=by omega
  have hpr:pr (vL l)=m:=by rw[←ib hsq,hl.prod]
  have hf2:∀x∈l,2<x.1:=fun x hx=>by
   have h1:=(hl.mem x.1).mp (w4.mpr ⟨x,hx,rfl⟩);have:=h1.1.1;rcases n4 2 x.1 with q|q
   ·exact q
   ·have e:x.1=2:=by omega
    rw[e]at h1;have:=u0 h1.2;omega
  have ho:bI l=vL l:=(bZ hf2).symm;have ht:iO d=[]:=by unfold iO;rw[if_pos (by omega)]
  rw[ht,bw,ho]at hadm⊢;have hfp:∀p∈vL l,jD p∧p∣m:=fun p hp=>(hl.mem p).mp hp;obtain⟨x,y,u,w,hdet,hy,hno⟩:=Dm h.val.pr (ps:=2::vL l) (fun p hp=>by
   rcases x4.mp hp with rfl|hp
   ·exact⟨by decide,fun k hk=>by have:=k7 (by decide) hk;have:=lu hk (by decide);omega⟩
   ·exact(hfp p hp).1)
  have hpos:0<val a b c x y:=by
   obtain⟨⟨a0,_⟩,_,_,_⟩:=h.bd;have e:4*a*val a b c x y=(2*a*x+b*y)*(2*a*x+b*y)+ -d*(y*y):=by rw[←h.val.of.eq];unfold val;grind
   have s1:0≤(2*a*x+b*y)*(2*a*x+b*y):=by
    rcases bt 0 (2*a*x+b*y)with q|q
    ·exact j3 q q
    ·have:=j3 (show 0≤ -(2*a*x+b*y) by omega) (show 0≤ -(2*a*x+b*y) by omega);rwa[gw]at this
   have s2:0< -d*(y*y):=Int.mul_pos (by omega) (Int.mul_pos hy hy);rcases w7 0 (val a b c x y)with q|q
   ·exact q
   ·have:=j3 (show 0≤4*a by omega) (show 0≤ -(val a b c x y) by omega);rw[oj]at this;omega
  have hev:cq a b c (val a b c x y) (tB a b c x u y w) (tA a b c u w):=⟨x,u,y,w,hdet,by unfold val tA;rfl,rfl,rfl⟩
  have hdisc:=hev.disc;rw[h.val.of.eq]at hdisc;have hsv:∀p∈vL l,sv N a b c (p:Int)=uO (p:Int) (val a b c x y):=fun p hp=>by obtain⟨_,_,_,_,e⟩:=pX hN h (hadm (p:Int) (w4.mpr ⟨p,hp,rfl⟩));refine e x y ((sH ⟨by have:=(hfp p hp).1.1;omega,(hfp p hp).1.2⟩ _).mpr (hno p (hE _ hp)))
  obtain⟨n,hn⟩:∃n:Nat,val a b c x y=(n:Int):=⟨(val a b c x y).toNat,by omega⟩
  rw[hn]at hno hdisc hsv;have hno1:n%2=1:=by
   have:=hno 2 (by simp);rcases o0 n with q|q
   ·exact absurd (hU.mpr (aE q)) this
   ·exact q
  have hcop:Nat.gcd n m=1:=js (by omega) fun p hp d1 d2=>hno p (hE _ ((hl.mem p).mpr ⟨hp,d2⟩)) (hU.mpr d1);generalize tB a b c x u y w=B at hdisc;generalize tA a b c u w=C at hdisc;have hB:((B.natAbs*B.natAbs+m:Nat):Int)=(n:Int)*(4*C):=by
   rw[Int.natCast_add,Int.natAbs_mul_self,hm2];have:4*(n:Int)*C=(n:Int)*(4*C):=by grind
   omega
  have hdiv:n∣B.natAbs*B.natAbs+m:=hU.mp ⟨4*C,hB⟩;have hmu:=oy (n:=n) (m:=m) hno1 (by omega) hcop ⟨B.natAbs,u0 hdiv,js (by omega) fun p hp d1 d2=>by
   have h3:p∣m:=by have h4:=hS d2 hdiv;exact(Nat.dvd_add_right (hS d1 ⟨_,rfl⟩)).mp h4
   have:=Nat.dvd_gcd d2 h3;rw[hcop]at this;have:=cu.mp this;have:=hp.1;omega⟩
  have hml:=(oz hno1 (vL l) (fun p hp=>by
   have h1:=(hfp p hp)
   rcases o0 p with q|q
   ·have:=u0 (hS (aE q) h1.2);omega
   ·exact q) (by rw[hpr];exact hcop)).2
  rw[hpr]at hml;have:sJ (mu n m)=1:=by unfold sJ;rw[if_pos hmu]
  rw[←this,hml];congr 1;unfold ints;rw[List.map_map];refine List.map_congr_left fun p hp=>?_;have h2:2<p:=by obtain⟨x,hx,rfl⟩:=w4.mp hp;exact hf2 x hx
  have hpo:p%2=1:=by
   rcases o0 p with q|q
   ·have:=u0 (hS (aE q) (hfp p hp).2);omega
   ·exact q
  show sv N a b c (p:Int)=_;rw[hsv p hp,vM (by omega) hpo];have:rs (n:Int) p=n%p:=by unfold rs;rw[←a8];rfl
  rw[this,oH]
 ·refine .inr ?_;have⟨x,hx,hne⟩:∃x∈l,x.2≠1:=by
   apply Classical.byContradiction;intro q;exact hsq fun x hx=>Classical.byContradiction fun k=>q ⟨x,hx,k⟩
  have hp:=hl.pr x hx;refine⟨x.1,hp.1.1,?_⟩;have:∀{l:PL} {x:Nat×Nat},x∈l→x.1^x.2∣vD l:=by
   intro l;induction l with
   |nil=>intro x h;cases h
   |cons y l ih=>
    intro x h;simp only[vD];rcases x4.mp h with rfl|h
    ·exact⟨_,rfl⟩
    ·exact hS (ih h) ⟨_,hG _ _⟩
  have h1:=this hx;rw[hl.prod]at h1;have h2:x.1*x.1∣x.1^x.2:=by have:=Nat.pow_dvd_pow x.1 (show 2≤x.2 by omega);rwa[Nat.pow_two]at this
  rw[←hm2];exact hU.mpr (hS h2 h1)
theorem Az {d q:Int}(h:uq d q):uO q 1=1:=by
 cases h with
 |pr p hp h3 ho hb hd=>
  rw[vM h3 ho];have:rs 1 p=1%p:=by unfold rs;rfl
  rw[this,oH,xx p ho];rfl
 |m4=>rfl
 |p8=>rfl
 |m8=>rfl
theorem gq (N:Nat){X:List Int}{f g:Int→Int}(hf:∀q∈X,f q=1∨f q= -1)(hg:∀q∈X,g q=1)(hl:X.length≤8)(d:Int){T:Type}(k0:Int→Int→Option T)(kr:Bool→Option T):∀(n i:Nat) (s:Int),(s=1∨s= -1)→i≤X.length→X.length-i<n→
  Q103.l13 N n (X.map f) d (X.map g) s (X.length:Int) (i:Int) k0 kr=k0 d (s*Dl ((X.drop i).map f))
 |0,i,s,_,_,h=>by omega
 |n+1,i,s,hs,hi,hn=>by
  rw[Q103.l13];by_cases h:i<X.length
  ·have c0:decide (0≤(i:Int))=true:=decide_eq_true (by omega);have c1:decide ((i:Int)<(X.length:Int))=true:=decide_eq_true (by omega);have at_:∀φ:Int→Int,(X.map φ).getD i 0=φ X[i]:=fun φ=>by
    rw[zE,List.getElem?_map,xK h];rfl
   have hq:=p6 h;have hs':s*f X[i]=1∨s*f X[i]= -1:=by rcases hs with e|e<;>rcases hf _ hq with e2|e2<;>rw[e,e2]<;>decide
   simp only[c0,c1,q7,k8,cond_true,o4,at_,hg _ hq,Dg hs (hf _ hq),bne_self_eq_false,cond_false];rw[tX (by omega),gq N hf hg hl d k0 kr n (i+1) _ hs' (by omega) (by omega),b7 h,bn];simp only[Dl,Int.mul_assoc]
  ·rw[decide_eq_false (show ¬(i:Int)<(X.length:Int) by omega),cond_false,ba (by omega)];simp[Dl]
theorem rT (N:Nat){d P:Int}(hd: -65536≤d)(h0:d<0):∀(n j:Nat),2≤j→70000-j<n→j<70000→(P=1∨∃i:Nat,j≤i∧((i*i:Nat):Int)∣ -d)→
  Q103.l22 N n d P (j:Int) (fun y25=>some (y25==1)) (fun y26=>some y26)=some true
 |0,j,_,h,_,_=>by omega
 |n+1,j,hj,hn,hj2,hor=>by
  have w0:aA (0-d)= -d:=by rw[dA (by omega) (by omega)];omega
  have hjj:j*j≤70000*70000:=b5 (by omega) (by omega);have w1:aA ((j:Int)*(j:Int))=((j*j:Nat):Int):=by rw[←gr,dA (by omega) (by omega)]
  have hjp:0<j*j:=im (by omega) (by omega);rw[Q103.l22,w0,w1];by_cases h:((j*j:Nat):Int)≤ -d
  ·have c3:(((j*j:Nat):Int)==0)=false:=beq_eq_false_iff_ne.mpr (by omega);rw[decide_eq_true h,c3];simp only[c6,cond_true];by_cases hd2:((j*j:Nat):Int)∣ -d
   ·have:(Int.tmod d ((j*j:Nat):Int)==0)=true:=by
     rw[beq_iff_eq];exact fo (nw.mp hd2)
    rw[this,cond_true]
   ·have:(Int.tmod d ((j*j:Nat):Int)==0)=false:=by
     rw[beq_eq_false_iff_ne];intro q;exact hd2 (nw.mpr (ew q))
    rw[this,cond_false,tX (by omega)];have hjle:j≤j*j:=hW _ (by omega);refine rT N hd h0 n (j+1) (by omega) (by omega) (by omega) ?_;rcases hor with q|⟨i,h1,h2⟩
    ·exact .inl q
    ·refine .inr ⟨i,?_,h2⟩;rcases n4 j i with q|q
     ·exact q
     ·have:i=j:=by omega
      subst this;exact absurd h2 hd2
  ·rw[decide_eq_false h,cond_false];rcases hor with q|⟨i,h1,h2⟩
   ·rw[q];rfl
   ·exfalso;have:=r8 (by omega) h2;have:=b5 h1 h1;omega
theorem GenusOne (a1 b1 c1:Int)(w1:(Lit.int .i64 a1).wf=true)(w2:(Lit.int .i64 b1).wf=true)(w3:(Lit.int .i64 c1).wf=true):∃N,Q103.f N a1 b1 c1=some true:=by
 refine⟨N0,?_⟩;have hN:8589934600<N0:=by decide
 unfold Q103.f;rw[na];simp only[pC,lv,cond_false];rcases Dh hN a1 b1 c1 with⟨d,h1,X,hX,h8,es,o1⟩|⟨e,he,o1⟩
 ·have hL:=h1.lst;obtain⟨b,c,eo,hr⟩:=gu N0 (d:=d) (by have:=hL.2.1;omega) (by have:=hL.1;omega) hL.2.2;have h3:Fm d 1 b c:=⟨hr.red.val (by have:=hL.2.1;omega) (by have:=hL.1;omega),h1.lo⟩
  obtain⟨X',_,_,_,f1,_,f3,_,_⟩:=pj hN h3;rw[es]at f1;obtain rfl:=Option.some.inj f1;have hone:∀q∈X,sv N0 1 b c q=1:=fun q hq=>by
   have hA:=hX.adm hL hq;obtain⟨_,_,_,_,e⟩:=pX hN h3 hA;have v1:val 1 b c 1 0=1:=by unfold val;grind
   have:=e 1 0 (by rw[v1];exact Int.one_gcd);rw[this,v1,Az hA]
  have hpm:∀q∈X,sv N0 a1 b1 c1 q=1∨sv N0 a1 b1 c1 q= -1:=fun q hq=>(oU hN h1 (hX.adm hL hq).sy).2.2;rw[o1];simp only[pC,bne_self_eq_false,cond_false,Pure.ed N0 h1.val];rw[eo];simp only[pC,bne_self_eq_false,cond_false,f3,q7];have:=gq N0 hpm hone h8 d (fun y18 y19=>
   bif (Int.tmod y18 2)==0 then
    some true
   else
   Q103.l22 N0 N0 y18 y19 2
    (fun y25=>
     some (y25==1))
    (fun y26=>
     some y26)) (fun y27=>some y27) N0 0 1 (.inl rfl) (by omega) (by unfold N0;omega)
  rw[b8]at this;rw[this];by_cases hd:d%2=0
  ·have:(Int.tmod d 2==0)=true:=by
    rw[beq_iff_eq];exact fo (p5 hd)
   rw[this,cond_true]
  ·have:(Int.tmod d 2==0)=false:=by
    rw[beq_eq_false_iff_ne];intro q;exact hd (ez (ew q))
   rw[this,cond_false];refine rT N0 hL.1 (by have:=hL.2.1;omega) N0 2 (by decide) (by unfold N0;omega) (by decide) ?_;rw[ki,Int.one_mul];rcases tq hN h1 (by omega) hX with q|⟨j,q1,q2⟩
   ·exact .inl q
   ·exact .inr ⟨j,q1,q2⟩
 ·rw[o1];have hne:(e != 0)=true:=by rw[bne_iff_ne];exact he
  simp only[pC,hne,cond_true];rfl
end Go.Proofs.Yteaakcmkpacpaaa.Gen
