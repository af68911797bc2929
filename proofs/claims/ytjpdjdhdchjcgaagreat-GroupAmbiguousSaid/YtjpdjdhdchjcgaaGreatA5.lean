import Derived.Test.YtjpdjdhdchjcgaaGreatA4
import Derived.KernelRfl
open Option renaming bind_some→pC
open Int renaming mul_le_mul_of_nonneg_left→aE,le_of_lt→hE,emod_lt_of_pos→xK,mul_le_mul_of_nonneg_right→yK,emod_nonneg→dQ,dvd_trans→hT,mul_nonneg→hU,lt_or_le→hW,mul_ediv_add_emod→l0,tmod_eq_emod_of_nonneg→o0,dvd_mul_right→n3,eq_of_mul_eq_mul_left→x3,toNat_natCast→b5,tdiv_eq_ediv_of_nonneg→y5,le_of_dvd→b8,dvd_add→b9,emod_emod_of_dvd→c9,mul_neg→bc,dvd_mul_left→bs,mul_ediv_cancel_left→bt,mul_tdiv_cancel_left→bu,mul_emod→cu,zero_dvd→cx,ediv_le_self→cy,ediv_nonneg→eh,add_emod→ew,dvd_refl→fo,eq_ofNat_of_zero_le→gw,emod_eq_of_lt→il,mul_pos→iv,one_dvd→kb,mul_comm→kl,one_mul→lg,mul_emod_right→lr,mul_assoc→mx,add_zero→py,mul_zero→qa,natCast_zero→qb,le_refl→tc,mul_ediv_cancel'→ts,mul_ediv_cancel→vc,zero_add→vx,dvd_sub→wz,mul_one→xo
open List renaming mem_cons_of_mem→zE,mem_singleton→hV,length_cons→x4,getD_eq_getElem?_getD→b6,getElem?_eq_getElem→x6,mem_append→b7,mem_map→r7,perm_ext_iff_of_nodup→ae,pairwise_map→ba,getElem_mem→dk,pairwise_append→ds,map_cons→ec,length_set→kn,dropLast_concat_getLast→lb,getElem_range→lv,pairwise_cons→lx,length_range→oj,cons_append→qo,ext_getElem→qs,filter_cons_of_neg→sh,filter_cons_of_pos→sl,length_eq_zero_iff→ss,length_filter_le→tk,mem_range→tp,mem_erase_of_ne→tx,reverse_reverse→ua,mem_cons→um,take_succ_cons→vd
open Nat renaming dvd_trans→y3,mul_comm→o4,le_refl→y4,pos_of_ne_zero→n5,sub_add_cancel→y6,dvd_of_mod_eq_zero→x7,pow_succ→r9,mul_assoc→au,succ_eq_add_one→bw,mul_div_cancel_left→cb,and_two_pow_sub_one_eq_mod→ch,add_mul_mod_self_left→eu,dvd_refl→fp,mul_le_mul→gl,le_mul_of_pos_right→gx,dvd_one→kd,mod_eq_zero_of_dvd→ki,lt_or_ge→kt,add_mod→lh,mul_div_cancel→mb,mul_left_comm→pb,mod_eq_of_lt→qz,zero_add→ry,pow_dvd_pow→ta,le_mul_of_pos_left→td,mul_one→te,one_mul→ti,le_of_dvd→va,add_sub_cancel'→vt,pow_zero→vy,mod_mod→yk,mul_pos→yo
open BitVec renaming toNat_ofInt→ev,toNat_and→px
open Bool renaming not_eq_true'→gy,not_true→uc
set_option linter.unusedVariables false
set_option linter.unusedSimpArgs false
namespace Go.Proofs.YtjpdjdhdchjcgaaGreat.Mod
def Fo (a t:Int):E→Prop:=fun z=>a∣z.re-t*z.im
theorem Fo.zero (a t:Int):Fo a t ze:=by simp only[Fo,ze];exact⟨0,by omega⟩
theorem Fo.add {a t:Int}{x y:E}(hx:Fo a t x)(hy:Fo a t y):Fo a t (ad x y):=by
 have:=b9 hx hy;simp only[Fo,ad];have e:x.re+y.re-t*(x.im+y.im)=x.re-t*x.im+(y.re-t*y.im):=by grind
 rw[e];exact this
theorem Fo.neg {a t:Int}{x:E}(hx:Fo a t x):Fo a t (ng x):=by
 have:=Int.dvd_neg.mpr hx;simp only[Fo,ng];have e: -x.re-t* -x.im= -(x.re-t*x.im):=by grind
 rw[e];exact this
theorem Fo.gen {a t:Int}{z:E}(h:Fo a t z):∃k:Int,z=⟨k*a+t*z.im,z.im⟩:=by
 obtain⟨k,hk⟩:=h;exact⟨k,E.ext' (by simp only;have:a*k=k*a:=kl _ _;omega) rfl⟩
theorem Fo.a (a t:Int):Fo a t ⟨a,0⟩:=by simp only[Fo];exact⟨1,by omega⟩
theorem Fo.t (a t:Int):Fo a t ⟨t,1⟩:=by simp only[Fo];exact⟨0,by omega⟩
theorem Iy (k1 k2 i1 i2 e v1 v2 t s' d1 d2 d3:Int):k1*k2*v1*(e*v2)+k1*v1*(t-v2*d2)*i2+k2*v2*(t-v1*d1)*i1+i1*i2*(s'*t+v1*v2*d3)-t*(k1*v1*i2+k2*v2*i1+s'*i1*i2)=v1*v2*(k1*k2*e-k1*i2*d2-k2*i1*d1+i1*i2*d3):=by grind
theorem K6 {s m e v1 v2 t1 t2 t s' n4 c1 x y z p q r:Int}(he:e≠0)
  (hs:t1+t2+s=e*s')(hn:m+t1*t2=e*n4)(hc:t1*t1+s*t1-m=e*v1*c1)
  (h1:v1∣t-t1)(h2:v2∣t-t2)(h3:v1*v2∣n4-s'*t)
  (hb:x*(e*v1)+y*(e*v2)+z*(e*s')=e)(hp:p*(e*v1)+q*(2*t1+s)+r*c1=1)(u:E):
  PM s m (Fo (e*v1) t1) (Fo (e*v2) t2) u↔Sc s m ⟨e,0⟩ (Fo (v1*v2) t) u:=by
 have sub:∀u,PM s m (Fo (e*v1) t1) (Fo (e*v2) t2) u→∃w,Fo (v1*v2) t w∧u=⟨e*w.re,e*w.im⟩:=by
  intro u hu;induction hu with
  |zero=>exact⟨ze,Fo.zero _ _,E.ext' (by simp[ze]) (by simp[ze])⟩
  |mem h=>
   obtain⟨a,b,ha,hb',rfl⟩:=h;obtain⟨k1,e1⟩:=ha.gen;obtain⟨k2,e2⟩:=hb'.gen;generalize a.im=i1 at*;generalize b.im=i2 at*;subst e1;subst e2;refine⟨⟨k1*k2*v1*(e*v2)+k1*v1*t2*i2+k2*v2*t1*i1+i1*i2*n4,k1*v1*i2+k2*v2*i1+s'*i1*i2⟩,?_,?_⟩
   ·simp only[Fo];obtain⟨d1,hd1⟩:=h1;obtain⟨d2,hd2⟩:=h2;obtain⟨d3,hd3⟩:=h3;refine⟨k1*k2*e-k1*i2*d2-k2*i1*d1+i1*i2*d3,?_⟩;have q1:t1=t-v1*d1:=by omega
    have q2:t2=t-v2*d2:=by omega
    have q3:n4=s'*t+v1*v2*d3:=by omega
    rw[q1,q2,q3];exact Iy ..
   ·refine E.ext' ?_ ?_
    ·simp only[ml];grind
    ·simp only[ml];grind
  |add _ _ a b=>obtain⟨w,hw,rfl⟩:=a;obtain⟨w',hw',rfl⟩:=b;exact⟨ad w w',hw.add hw',E.ext' (by simp only[ad];grind) (by simp only[ad];grind)⟩
  |neg _ a=>obtain⟨w,hw,rfl⟩:=a;exact⟨ng w,hw.neg,E.ext' (by simp only[ng];grind) (by simp only[ng];grind)⟩
 have el:∀w:E,ml s m ⟨e,0⟩ w=⟨e*w.re,e*w.im⟩:=fun w=>E.ext' (by simp only[ml];grind) (by simp only[ml];grind);constructor
 ·intro hu;obtain⟨w,hw,rfl⟩:=sub u hu;exact⟨w,hw,(el w).symm⟩
 ·rintro⟨w,hw,rfl⟩;rw[el];have g1:PM s m (Fo (e*v1) t1) (Fo (e*v2) t2) ⟨e*v1*(e*v2),0⟩:=Sp.mem ⟨⟨e*v1,0⟩,⟨e*v2,0⟩,Fo.a _ _,Fo.a _ _,E.ext' (by simp only[ml];grind) (by simp only[ml];grind)⟩;have g2:PM s m (Fo (e*v1) t1) (Fo (e*v2) t2) ⟨e*v1*t2,e*v1⟩:=Sp.mem ⟨⟨e*v1,0⟩,⟨t2,1⟩,Fo.a _ _,Fo.t _ _,E.ext' (by simp only[ml];grind) (by simp only[ml];grind)⟩;have g3:PM s m (Fo (e*v1) t1) (Fo (e*v2) t2) ⟨e*v2*t1,e*v2⟩:=Sp.mem ⟨⟨t1,1⟩,⟨e*v2,0⟩,Fo.t _ _,Fo.a _ _,E.ext' (by simp only[ml];grind) (by simp only[ml];grind)⟩;have g4:PM s m (Fo (e*v1) t1) (Fo (e*v2) t2) ⟨m+t1*t2,t1+t2+s⟩:=Sp.mem ⟨⟨t1,1⟩,⟨t2,1⟩,Fo.t _ _,Fo.t _ _,E.ext' (by simp only[ml];grind) (by simp only[ml];grind)⟩;have f1:PM s m (Fo (e*v1) t1) (Fo (e*v2) t2) ⟨e*(v1*v2),0⟩:=by
   have a1:=Sp.smul g1 (p*v1+q*s');have a2:=Sp.smul g3 (q*v1+r*s');have a3:=Sp.smul g2 (-(q*v2));have a4:=Sp.smul g4 (-(r*v2));have:=Sp.add (Sp.add a1 a2) (Sp.add a3 a4);refine(?_:(⟨e*(v1*v2),0⟩:E)=_)▸this;refine E.ext' ?_ ?_
   ·simp only[ad,sm];have k:e*(v1*v2)=e*(v1*v2)*(p*(e*v1)+q*(2*t1+s)+r*c1):=by rw[hp];omega
    rw[k];have k2:2*t1+s=e*s'+(t1-t2):=by omega
    rw[k2];have k3:e*(v1*v2)*(r*c1)=r*v2*(e*v1*c1):=by grind
    have k4:e*(v1*v2)*(p*(e*v1)+q*(e*s'+(t1-t2))+r*c1)=e*(v1*v2)*(p*(e*v1)+q*(e*s'+(t1-t2)))+r*v2*(e*v1*c1):=by grind
    rw[k4,←hc];grind
   ·simp only[ad,sm];grind
  obtain⟨w0,hw0,e0⟩:=sub _ (Sp.add (Sp.add (Sp.smul g2 x) (Sp.smul g3 y)) (Sp.smul g4 z));have i0:w0.im=1:=by
   have:=congrArg E.im e0;simp only[ad,sm]at this;rw[hs]at this;have h5:e*w0.im=e*1:=by rw[←this];omega
   exact x3 he h5
  have f2:PM s m (Fo (e*v1) t1) (Fo (e*v2) t2) ⟨e*w0.re,e*w0.im⟩:=by rw[←e0];exact Sp.add (Sp.add (Sp.smul g2 x) (Sp.smul g3 y)) (Sp.smul g4 z)
  obtain⟨k,hk⟩:=hw;obtain⟨k0,hk0⟩:=hw0;rw[i0]at hk0;have:=Sp.add (Sp.smul f1 (k-w.im*k0)) (Sp.smul f2 w.im);refine(?_:(⟨e*w.re,e*w.im⟩:E)=_)▸this;refine E.ext' ?_ ?_
  ·simp only[ad,sm];have k5:w.re=v1*v2*k+t*w.im:=by omega
   have k6:w0.re=v1*v2*k0+t:=by omega
   rw[k5,k6];grind
  ·simp only[ad,sm,i0];grind
theorem Jq {s m a t c p q r u:Int}(hd:s*s+4*m<0)(ha:a≠0)(hc:t*t+s*t-m=a*c)(hdet:p*u-q*r=1):
  Hm s m (Fo a t) (Fo (a*p*p+(2*t+s)*p*r+c*r*r) (a*p*q+(2*t+s)*q*r+c*r*u+t)):=by
 have hk:cj s ⟨p*a+r*t,r⟩≠ze:=fun h=>by
  have h1:=congrArg E.im h;have h2:=congrArg E.re h;simp only[cj,ze]at h1 h2;have hr:r=0:=by omega
  subst hr;have:p*a=0:=by omega
  rcases Int.mul_eq_zero.mp this with h3|h3
  ·subst h3;omega
  ·exact ha h3
 have hl:(⟨a,0⟩:E)≠ze:=fun h=>ha (by have:=congrArg E.re h;simpa[ze]using this);refine⟨cj s ⟨p*a+r*t,r⟩,⟨a,0⟩,hk,hl,fun z=>?_⟩;constructor
 ·rintro⟨x,hx,rfl⟩;obtain⟨k,hx⟩:=hx.gen;generalize x.im=i at*;subst hx;refine⟨⟨(k*u-i*q)*(a*p*p+(2*t+s)*p*r+c*r*r)+(i*p-k*r)*(a*p*q+(2*t+s)*q*r+c*r*u+t),i*p-k*r⟩,?_,?_⟩
  ·simp only[Fo];exact⟨k*u-i*q,by grind⟩
  ·refine E.ext' ?_ ?_
   ·simp only[ml,cj];grind
   ·simp only[ml,cj];grind
 ·rintro⟨x,hx,rfl⟩;obtain⟨k,hx⟩:=hx.gen;generalize x.im=i at*;subst hx;refine⟨⟨(k*p+i*q)*a+(k*r+i*u)*t,k*r+i*u⟩,?_,?_⟩
  ·simp only[Fo];exact⟨k*p+i*q,by grind⟩
  ·refine E.ext' ?_ ?_
   ·simp only[ml,cj];grind
   ·simp only[ml,cj];grind
theorem iU (s m:Int)(k:E)(x y:Int)(u v:E):ml s m k (ad (sm x u) (sm y v))=ad (sm x (ml s m k u)) (sm y (ml s m k v)):=by rw[de,H3,H3]
theorem Ji (x y a t:Int):(⟨x*a+t*y,y⟩:E)=ad (sm x ⟨a,0⟩) (sm y ⟨t,1⟩):=E.ext' (by simp only[ad,sm];grind) (by simp only[ad,sm];grind)
theorem xn {s m a t c:Int}(hc:t*t+s*t-m=a*c)(X Y:Int):nm s m ⟨X*a+t*Y,Y⟩=a*(a*X*X+(2*t+s)*X*Y+c*Y*Y):=by
 have e:nm s m ⟨X*a+t*Y,Y⟩=a*(a*X*X+(2*t+s)*X*Y)+(t*t+s*t-m)*(Y*Y):=by simp only[nm];grind
 rw[e,hc];grind
theorem Hd (s m k l x y u v:Int):(ml s m (cj s (ml s m ⟨k,l⟩ ⟨x,y⟩)) (ml s m ⟨k,l⟩ ⟨u,v⟩)).im=nm s m ⟨k,l⟩*(x*v-y*u):=by simp only[ml,cj,nm];grind
theorem Bt {s m a t c a' t' c':Int}(hd:s*s+4*m<0)(ha:0<a)(ha':0<a')(hc:t*t+s*t-m=a*c)(hc':t'*t'+s*t'-m=a'*c')
  {k l:E}(hk:k≠ze)(hl:l≠ze)(h:∀z,Sc s m k (Fo a t) z↔Sc s m l (Fo a' t') z):nm s m k*a=nm s m l*a'∧∃p q r u:Int,p*u-q*r=1∧a=a'*p*p+(2*t'+s)*p*r+c'*r*r∧2*t+s=2*a'*p*q+(2*t'+s)*p*u+(2*t'+s)*q*r+2*c'*r*u∧
   c=a'*q*q+(2*t'+s)*q*u+c'*u*u:=by
 obtain⟨X1,m1,e1⟩:=(h _).mp ⟨_,Fo.a a t,rfl⟩;obtain⟨X2,m2,e2⟩:=(h _).mp ⟨_,Fo.t a t,rfl⟩;obtain⟨Y1,m3,e3⟩:=(h _).mpr ⟨_,Fo.a a' t',rfl⟩;obtain⟨Y2,m4,e4⟩:=(h _).mpr ⟨_,Fo.t a' t',rfl⟩;obtain⟨p,g1⟩:=m1.gen;obtain⟨q,g2⟩:=m2.gen;obtain⟨z1,g3⟩:=m3.gen;obtain⟨z2,g4⟩:=m4.gen;generalize X1.im=r at*;generalize X2.im=u at*;generalize Y1.im=w1 at*;generalize Y2.im=w2 at*;subst g1;subst g2;subst g3;subst g4;have b1:(⟨a,0⟩:E)=ad (sm p ⟨z1*a+t*w1,w1⟩) (sm r ⟨z2*a+t*w2,w2⟩):=by refine xg hd hk (s:=s) (m:=m) ?_;rw[iU,←e3,←e4,←iU,←Ji];exact e1
 have b2:(⟨t,1⟩:E)=ad (sm q ⟨z1*a+t*w1,w1⟩) (sm u ⟨z2*a+t*w2,w2⟩):=by refine xg hd hk (s:=s) (m:=m) ?_;rw[iU,←e3,←e4,←iU,←Ji];exact e2
 have i1:p*w1+r*w2=0:=by have:=congrArg E.im b1;simp only[ad,sm]at this;omega
 have i2:q*w1+u*w2=1:=by have:=congrArg E.im b2;simp only[ad,sm]at this;omega
 have i3:p*z1+r*z2=1:=by
  have:=congrArg E.re b1;simp only[ad,sm]at this;have e:a*(p*z1+r*z2)=a*1:=by
   have e5:p*(z1*a+t*w1)+r*(z2*a+t*w2)=a*(p*z1+r*z2)+t*(p*w1+r*w2):=by grind
   rw[e5,i1]at this;omega
  exact x3 (by omega) e
 have i4:q*z1+u*z2=0:=by
  have:=congrArg E.re b2;simp only[ad,sm]at this;have e:a*(q*z1+u*z2)=a*0:=by
   have e5:q*(z1*a+t*w1)+u*(z2*a+t*w2)=a*(q*z1+u*z2)+t*(q*w1+u*w2):=by grind
   rw[e5,i2]at this;omega
  exact x3 (by omega) e
 have det:(p*u-q*r)*(z1*w2-z2*w1)=1:=by
  have e5:(p*u-q*r)*(z1*w2-z2*w1)=(p*z1+r*z2)*(q*w1+u*w2)- (p*w1+r*w2)*(q*z1+u*z2):=by grind
  rw[e5,i1,i2,i3,i4];decide
 have hnk:=ix hd hk;have hnl:=ix hd hl;have dir:nm s m k*a=nm s m l*a'*(p*u-q*r):=by
  have r1:=Hd s m k.re k.im a 0 t 1;have r2:=Hd s m l.re l.im (p*a'+t'*r) r (q*a'+t'*u) u;have hk':(⟨k.re,k.im⟩:E)=k:=rfl;have hl':(⟨l.re,l.im⟩:E)=l:=rfl;rw[hk']at r1;rw[hl']at r2;rw[e1,e2,r2]at r1;have e6:(p*a'+t'*r)*u-r*(q*a'+t'*u)=a'*(p*u-q*r):=by grind
  rw[e6]at r1;have e7:a*1-0*t=a:=by omega
  rw[e7,←mx]at r1;exact r1.symm
 have la:0<nm s m k*a:=iv hnk ha;have la':0<nm s m l*a':=iv hnl ha';have D1:p*u-q*r=1:=by
  have hD:0<p*u-q*r:=by
   rcases hW 0 (p*u-q*r)with h|h
   ·exact h
   ·have:=hU (hE la') (show 0≤ -(p*u-q*r) by omega);rw[bc]at this;omega
  have hdv:(p*u-q*r)∣1:=⟨_,det.symm⟩
  have:=b8 (by decide) hdv;omega
 have same:nm s m k*a=nm s m l*a':=by rw[dir,D1];omega
 have all:∀X Y:Int,a*X*X+(2*t+s)*X*Y+c*Y*Y=a'*(X*p+Y*q)*(X*p+Y*q)+(2*t'+s)*(X*p+Y*q)*(X*r+Y*u)+c'*(X*r+Y*u)*(X*r+Y*u):=by
  intro X Y;have e5:ml s m k ⟨X*a+t*Y,Y⟩=ml s m l ⟨(X*p+Y*q)*a'+t'*(X*r+Y*u),X*r+Y*u⟩:=by rw[Ji X Y a t,iU,e1,e2,←iU];congr 1;exact E.ext' (by simp only[ad,sm];grind) (by simp only[ad,sm])
  have e6:=congrArg (nm s m) e5;rw[Dj,Dj,xn hc,xn hc',←mx,←mx,same]at e6;exact x3 (by omega) e6
 have f1:=all 1 0;have f2:=all 0 1;have f3:=all 1 1;simp only[xo,qa,lg,Int.zero_mul,py,vx]at f1 f2 f3;refine⟨same,p,q,r,u,D1,?_,?_,?_⟩
 ·exact f1
 ·have e8:2*t+s=(a+(2*t+s)+c)-a-c:=by omega
  rw[e8,f3,f1,f2];grind
 ·exact f2
theorem Iq {s m a t c a' t' c':Int}(hd:s*s+4*m<0)(ha:0<a)(ha':0<a')(hc:t*t+s*t-m=a*c)(hc':t'*t'+s*t'-m=a'*c')
  (h:Hm s m (Fo a t) (Fo a' t')):∃p q r u:Int,p*u-q*r=1∧a=a'*p*p+(2*t'+s)*p*r+c'*r*r∧2*t+s=2*a'*p*q+(2*t'+s)*p*u+(2*t'+s)*q*r+2*c'*r*u∧
   c=a'*q*q+(2*t'+s)*q*u+c'*u*u:=by
 obtain⟨k,l,hk,hl,h⟩:=h;exact(Bt hd ha ha' hc hc' hk hl h).2
end Go.Proofs.YtjpdjdhdchjcgaaGreat.Mod
namespace Go.Proofs.YtjpdjdhdchjcgaaGreat.Pure
open Go Go.Proofs.YtjpdjdhdchjcgaaGreat.Ev
theorem yR {x:Int}(h0:0≤x)(h1:x<9223372036854775808)(k:Nat)(hk:k≤32):mC .i64 x (2^k-1)=x%2^k:=by
 have hp:(2:Nat)^k≤2^32:=Nat.pow_le_pow_right (by decide) hk;have hp0:0<(2:Nat)^k:=Nat.pow_pos (by decide);have e2:((2:Int)^k)=((2^k:Nat):Int):=by simp
 obtain⟨a,rfl⟩:=gw h0;have m:((2:Int)^k-1)=((2^k-1:Nat):Int):=by rw[e2];omega
 have t1:(BitVec.ofInt 64 (a:Int)).toNat=a:=by simp[ev];omega
 have t2:(BitVec.ofInt 64 ((2^k-1:Nat):Int)).toNat=2^k-1:=by rw[ev];omega
 have e:(BitVec.ofInt 64 (a:Int)&&& BitVec.ofInt 64 ((2^k-1:Nat):Int)).toNat=a%2^k:=by rw[px,t1,t2,ch]
 have hlt:a%2^k<2^k:=Nat.mod_lt _ hp0;rw[m,e2];show IntKind.wrap .i64 ((BitVec.ofInt 64 (a:Int)&&& BitVec.ofInt 64 ((2^k-1:Nat):Int)).toNat:Int)=_;rw[e];have w:IntKind.wrap .i64 ((a%2^k:Nat):Int)=aA ((a%2^k:Nat):Int):=rfl;rw[w,fA (by omega) (by omega)];simp
theorem nU (N:Nat)(d:Int):∃a b c e,Q83.f N d=some (a,b,c,e)∧Q89.f N d=some (a,b,c,e)∧(e=0→a=1∧(b=0∨b=1)∧b*b-4*a*c=d∧ -4294967296≤d∧d≤ -3):=by
 unfold Q83.f Q89.f;by_cases h1:d> -3
 ·rw[decide_eq_true h1];exact⟨0,0,0,80,rfl,rfl,fun h=>absurd h (by decide)⟩
 ·by_cases h2:d< -4294967296
  ·rw[decide_eq_false h1,decide_eq_true h2];exact⟨0,0,0,80,rfl,rfl,fun h=>absurd h (by decide)⟩
  ·have w:aA (0-d)= -d:=by rw[fA (by omega) (by omega)];omega
   have a3:mC .i64 (-d) 3=(-d)%4:=yR (by omega) (by omega) 2 (by decide);have a1:mC .i64 (-d) 1=(-d)%2:=yR (by omega) (by omega) 1 (by decide);rw[decide_eq_false h1,decide_eq_false h2,w,a3,a1];simp only[cond_false];have c4:(!((4:Int)==0))=true:=rfl;have tm:Int.tmod d 4= -((-d)%4):=by
    have:Int.tmod d 4= -(Int.tmod (-d) 4):=by rw[Int.neg_tmod];omega
    rw[this,o0 (by omega)]
   have mod:Q65.f N d 4=some (d%4):=by
    unfold Q65.f;rw[c4,tm];simp only[cond_true];by_cases h3: -((-d)%4)<0
    ·rw[decide_eq_true h3,fA (by omega) (by omega)];simp only[cond_true,Option.some.injEq];omega
    ·rw[decide_eq_false h3];simp only[cond_false,Option.some.injEq];omega
   rw[mod];simp only[pC];have hcase:(-d)%4=0∨(-d)%4=1∨(-d)%4=2∨(-d)%4=3:=by omega
   rcases hcase with h|h|h|h
   ·have e1:d%4=0:=by omega
    have e2:(-d)%2=0:=by omega
    have e3:aA (Int.tdiv (-d) 4)= -d/4:=by rw[y5 (by omega),fA (by omega) (by omega)]
    have e4:aA (0-d)= -d:=w;rw[h,e1,e2,e4,e3];exact⟨1,0, -d/4,0,rfl,rfl,fun _=>⟨rfl,Or.inl rfl,by omega,by omega,by omega⟩⟩
   ·have e1:d%4=3:=by omega
    rw[h,e1];exact⟨0,0,0,80,rfl,rfl,fun h=>absurd h (by decide)⟩
   ·have e1:d%4=2:=by omega
    rw[h,e1];exact⟨0,0,0,80,rfl,rfl,fun h=>absurd h (by decide)⟩
   ·have e1:d%4=1:=by omega
    have e2:(-d)%2=1:=by omega
    have e3:aA (Int.tdiv (aA (1-d)) 4)=(1-d)/4:=by rw[fA (n:=1-d) (by omega) (by omega),y5 (by omega),fA (by omega) (by omega)]
    rw[h,e1,e2,e3];exact⟨1,1,(1-d)/4,0,rfl,rfl,fun _=>⟨rfl,Or.inr rfl,by omega,by omega,by omega⟩⟩
open Go.Proofs.YtjpdjdhdchjcgaaGreat.NatL (ab cB wA uB uE GT fB iC eC lB gJ oJ sg sn pB Zr xA yD mE rC Ju)
open Go.Proofs.YtjpdjdhdchjcgaaGreat.Mod (Fo Hm PM)
theorem wm {N:Nat}(hN:1000000001<N){a b:Int}(ha:ab a≤1099511627776)(hb:ab b≤1099511627776):∃g x y,GT a b g x y∧0≤g∧g≤1099511627776∧Q45.f N a b=some (g,x,y):=by
 have hK:=NatL.Gq;have hH:=NatL.Je;have a0:=wA a;have b0:=wA b;obtain⟨g,x,y,h1,h2,h3⟩:=NatL.K1 hN (a:=a) (b:=b) (by omega) (by omega);have g0:=iC a b;have gle:fB a b≤1099511627776:=by
  by_cases h:b=0
  ·subst h;rw[oJ];exact ha
  ·have:=b8 (by have:ab b≠0:=fun q=>h (uE.mp q);omega) (gJ (lB a b));omega
 rw[←h1.eg]at g0 gle;have gz:Zr g:=NatL.tE (by rw[uB g0];omega);have bx: -9223372036854775808≤x∧x<9223372036854775808:=by
  by_cases hy:b=0
  ·obtain⟨k1,k2⟩:=h1.bz hy;rw[k1];exact NatL.pc a
  ·obtain⟨k1,k2⟩:=h1.lo hy;have:=cy g b0;omega
 have by': -9223372036854775808≤y∧y<9223372036854775808:=by rcases cB y with⟨c1,c2⟩|⟨c1,c2⟩<;>omega
 have zx:Zr x:=NatL.lO bx.1 bx.2;have zy:Zr y:=NatL.lO by'.1 by'.2;have wa: -9223372036854775808≤a∧a<9223372036854775808:=by rcases cB a with⟨c1,c2⟩|⟨c1,c2⟩<;>omega
 have wb: -9223372036854775808≤b∧b<9223372036854775808:=by rcases cB b with⟨c1,c2⟩|⟨c1,c2⟩<;>omega
 have c1:decide (tv a b>4611686018427387904)=false:=by refine decide_eq_false ?_;unfold tv;rcases cB a with⟨c1,c2⟩|⟨c1,c2⟩<;>rcases cB b with⟨c3,c4⟩|⟨c3,c4⟩<;>split<;>omega
 have c2:decide (H5 a b< -4611686018427387904)=false:=by refine decide_eq_false ?_;unfold H5;rcases cB a with⟨c1,c2⟩|⟨c1,c2⟩<;>rcases cB b with⟨c3,c4⟩|⟨c3,c4⟩<;>split<;>omega
 refine⟨g,x,y,h1,g0,gle,?_⟩;unfold Q45.f;rw[c1,c2];simp only[cond_false];rw[NatL.J5 hN wa.1 wa.2];simp only[pC];rw[NatL.J5 hN wb.1 wb.2];simp only[pC];rw[h3];simp only[pC];rw[NatL.jx false gz,uB g0];have sf:NatL.sv false g=g:=rfl;rw[sf];simp only[pC];rw[NatL.Jb gz,if_pos (by omega),NatL.Jb zx,if_pos bx,NatL.Jb zy,if_pos by'];rfl
theorem uT {x:Int}(h0:0≤x)(h1:x<4294967296):mC .u64 x 4294967295=x:=by
 obtain⟨a,rfl⟩:=gw h0;have t1:(BitVec.ofInt 64 (a:Int)).toNat=a:=by simp[ev];omega
 have t2:(BitVec.ofInt 64 (4294967295:Int)).toNat=2^32-1:=by decide
 have e:(BitVec.ofInt 64 (a:Int)&&& BitVec.ofInt 64 (4294967295:Int)).toNat=a:=by rw[px,t1,t2,ch,qz (by omega)]
 show IntKind.wrap .u64 ((BitVec.ofInt 64 (a:Int)&&& BitVec.ofInt 64 (4294967295:Int)).toNat:Int)=_;rw[e];exact xA (by omega) (by omega)
theorem Fh {x:Int}(h0:0≤x)(h1:x<4294967296):Int.fdiv x (2^32)=0:=by
 rw[rC];have:(2:Int)^32=4294967296:=by decide
 rw[this];omega
theorem nt (N:Nat){x y:Int}(x0:0≤x)(x1:x<4294967296)(y0:0≤y)(y1:y<4294967296):Q77.f N x y=some (0,x*y):=by
 have m0:=hU x0 y0;have m1:=aE (show y≤4294967295 by omega) x0;have m2:=yK (show x≤4294967295 by omega) (show(0:Int)≤4294967295 by omega);have hm:x*y≤18446744065119617025:=by omega
 have e32:(2:Int)^32=4294967296:=by decide
 have w0:jA (x*y)=x*y:=xA m0 (by omega);have z0:jA 0=0:=rfl;have f1:=Fh x0 x1;have f2:=Fh y0 y1;have t0:0≤Int.fdiv (x*y) (2^32)∧Int.fdiv (x*y) (2^32)<4294967296:=by rw[rC,e32];omega
 unfold Q77.f;rw[uT x0 x1,uT y0 y1,f1,f2,w0];simp only[Int.zero_mul,qa,vx,z0];rw[xA t0.1 (by omega),uT t0.1 t0.2,Fh t0.1 t0.2];simp only[py,z0];rw[xA t0.1 (by omega),Fh t0.1 t0.2];rfl
theorem mc (N:Nat){x y:Int}(y0:0<y):Q78.f N 0 x y=some (jA (Int.tdiv x y),Int.tmod x y):=by
 unfold Q78.f;have c1:(y==0)=false:=beq_eq_false_iff_ne.mpr (by omega);have c2:decide (y≤0)=false:=decide_eq_false (by omega);have c3:((0:Int)==0)=true:=rfl;rw[c1,c2,c3];rfl
theorem df (N:Nat){a m:Int}(m0:0<m)(m1:m<9223372036854775808):Q79.f N a m=some (a%m):=by
 unfold Q79.f;have c1:(!(m==0))=true:=by have:(m==0)=false:=beq_eq_false_iff_ne.mpr (by omega);rw[this];rfl
 rw[c1];simp only[cond_true];have hf:=fl (x:=a) m0;have e0:=dQ a (show m≠0 by omega);have e1:=xK a m0;by_cases h:Int.tmod a m<0
 ·rw[decide_eq_true h];obtain⟨_,q⟩:=hf.1 h;simp only[cond_true];rw[←q,fA (by omega) (by omega)]
 ·rw[decide_eq_false h];obtain⟨_,q⟩:=hf.2 h;simp only[cond_false];rw[q]
theorem lU {N:Nat}{a b m:Int}(m0:0<m)(m1:m≤2147483648):Q82.f N a b m=some ((a*b)%m):=by
 have a0:=dQ a (show m≠0 by omega);have a1:=xK a m0;have b0:=dQ b (show m≠0 by omega);have b1:=xK b m0;have p0:=hU a0 b0;unfold Q82.f Q81.f Q80.f;rw[decide_eq_false (show ¬m<1 by omega),decide_eq_false (show ¬m>4611686018427387904 by omega),df N m0 (by omega),df N m0 (by omega)];simp only[cond_false,pC];rw[xA a0 (by omega),xA b0 (by omega),xA (n:=m) (by omega) (by omega),nt N a0 (by omega) b0 (by omega)];simp only[pC];rw[mc N m0];simp only[pC];rw[yD p0,←cu,fA (by have:=dQ (a*b) (show m≠0 by omega);omega) (by have:=xK (a*b) m0;omega)]
open Go.Proofs.YtjpdjdhdchjcgaaGreat.NatL (ab cB wA uB uE GT fB iC eC lB yD mE)
def sd (d:Int):Int:=d%2
def md (d:Int):Int:=(d-d%2)/4
def La (d a b:Int):Mod.E→Prop:=Fo a ((b-sd d)/2)
abbrev Cl (d:Int)(M L:Mod.E→Prop):Prop:=Hm (sd d) (md d) M L
abbrev Pr (d:Int)(M L:Mod.E→Prop):Mod.E→Prop:=PM (sd d) (md d) M L
structure Of (d a b c:Int):Prop where
 eq:b*b-4*a*c=d
theorem Of.par {d a b c:Int}(h:Of d a b c):b%2=d%2∧d%4=d%2:=by
 have h1:=h.eq;have e:4*a*c=4*(a*c):=by grind
 have hb:b=2*(b/2)+b%2:=by omega
 have h2:b*b=4*(b/2*(b/2)+b/2*(b%2))+b%2*(b%2):=by
  have:b*b=(2*(b/2)+b%2)*(2*(b/2)+b%2):=by rw[←hb]
  rw[this];grind
 have h3:b%2=0∨b%2=1:=by omega
 rcases h3 with h3|h3<;>rw[h3]at h2<;>constructor<;>omega
theorem Of.t {d a b c:Int}(h:Of d a b c):b=2*((b-sd d)/2)+sd d∧((b-sd d)/2)*((b-sd d)/2)+sd d*((b-sd d)/2)-md d=a*c∧sd d*sd d+4*md d=d∧(sd d=0∨sd d=1):=by
 obtain⟨p1,p2⟩:=h.par;have h1:=h.eq;unfold sd md;have hs:d%2=0∨d%2=1:=by omega
 have hb:b=2*((b-d%2)/2)+d%2:=by omega
 have hm:d=4*((d-d%2)/4)+d%2:=by omega
 generalize(b-d%2)/2=t at*;generalize(d-d%2)/4=m at*;have hss:d%2*(d%2)=d%2:=by rcases hs with h|h<;>rw[h]<;>decide
 generalize d%2=s at*;refine⟨hb,?_,by omega,hs⟩;have e:b*b=4*(t*t)+4*(s*t)+s*s:=by rw[hb];grind
 have e2:4*a*c=4*(a*c):=by grind
 omega
theorem La.shift (d a b k:Int)(z:Mod.E):La d a b z↔La d a (b+2*a*k) z:=by
 unfold La Fo;have e0:b+2*a*k-sd d=b-sd d+a*k*2:=by grind
 have e:(b+2*a*k-sd d)/2=(b-sd d)/2+a*k:=by rw[e0,Int.add_mul_ediv_right _ _ (by decide)]
 rw[e];have e2:z.re- ((b-sd d)/2+a*k)*z.im=z.re- (b-sd d)/2*z.im-a*(k*z.im):=by grind
 rw[e2];constructor
 ·intro h;exact wz h (n3 a _)
 ·intro h;have:=b9 h (n3 a (k*z.im));have e3:z.re- (b-sd d)/2*z.im-a*(k*z.im)+a*(k*z.im)=z.re- (b-sd d)/2*z.im:=by omega
  rw[e3]at this;exact this
theorem Of.cl {d a b c p q r u:Int}(h:Of d a b c)(hd:d<0)(ha:a≠0)(hdet:p*u-q*r=1):
  Cl d (La d a b) (La d (a*p*p+b*p*r+c*r*r) (2*a*p*q+b*p*u+b*q*r+2*c*r*u)):=by
 obtain⟨t1,t2,t3,t4⟩:=h.t;have k:=Mod.Jq (s:=sd d) (m:=md d) (by omega) ha t2 hdet;rw[←t1]at k;unfold Cl La;have e:(2*a*p*q+b*p*u+b*q*r+2*c*r*u-sd d)/2=a*p*q+b*q*r+c*r*u+(b-sd d)/2:=by
  have e1:2*a*p*q+b*p*u+b*q*r+2*c*r*u-sd d=2*(a*p*q+b*q*r+c*r*u+(b-sd d)/2):=by
   have e2:b*p*u=b*(1+q*r):=by
    have:p*u=1+q*r:=by omega
    rw[mx,this]
   have e3:2*(a*p*q+b*q*r+c*r*u+(b-sd d)/2)=2*a*p*q+2*(b*q*r)+2*c*r*u+2*((b-sd d)/2):=by grind
   rw[e3,e2];have e4:b*(1+q*r)=b+b*q*r:=by grind
   rw[e4];omega
  rw[e1,bt _ (by decide)]
 rw[e];exact k
theorem Of.swap {d a b c:Int}(h:Of d a b c)(hd:d<0)(ha:a≠0):Cl d (La d a b) (La d c (-b)):=by
 have:=h.cl hd ha (p:=0) (q:= -1) (r:=1) (u:=0) (by decide);have e1:a*0*0+b*0*1+c*1*1=c:=by grind
 have e2:2*a*0* -1+b*0*0+b* -1*1+2*c*1*0= -b:=by grind
 rw[e1,e2]at this;exact this
def nb (a b:Int):Int:=if b%(2*a)>a then b%(2*a)-2*a else b%(2*a)
theorem iL {a:Int}(b:Int)(a0:0<a): -a<nb a b∧nb a b≤a∧∃k,nb a b=b+2*a*k:=by
 have e0:=dQ b (show 2*a≠0 by omega);have e1:=xK b (show 0<2*a by omega);have e2:=l0 b (2*a);unfold nb;split
 ·refine⟨by omega,by omega, -(b/(2*a))-1,?_⟩;have:2*a*(-(b/(2*a))-1)= -(2*a*(b/(2*a)))-2*a:=by grind
  omega
 ·refine⟨by omega,by omega, -(b/(2*a)),?_⟩;have:2*a*(-(b/(2*a)))= -(2*a*(b/(2*a))):=by grind
  omega
def nc (d a b:Int):Int:=(nb a b*nb a b-d)/(4*a)
structure Lp (d a b:Int):Prop where
 a0:0<a
 a1:a≤2147483648
 b0: -17179869184≤b
 b1:b≤17179869184
 dv:4*a∣b*b-d
theorem Lp.dvd {d a b:Int}(h:Lp d a b):4*a∣nb a b*nb a b-d:=by
 obtain⟨_,_,k,hk⟩:=iL b h.a0;have:nb a b*nb a b-d=b*b-d+4*a*(b*k+a*k*k):=by rw[hk];grind
 rw[this];exact b9 h.dv (n3 _ _)
theorem Lp.of {d a b:Int}(h:Lp d a b):Of d a (nb a b) (nc d a b):=by
 refine⟨?_⟩;unfold nc;have:=ts h.dvd;omega
theorem Lp.sizes {d a b:Int}(h:Lp d a b)(hd:d<0)(hd1: -4294967296≤d):nb a b*nb a b≤a*a∧0<nc d a b∧nc d a b≤2147483648∧nb a b*nb a b≤4611686018427387904∧0≤nb a b*nb a b:=by
 have a0:=h.a0;have a1:=h.a1;obtain⟨n1,n2,_⟩:=iL b a0;have sq:nb a b*nb a b≤a*a:=by
  have:=hU (show 0≤a-nb a b by omega) (show 0≤a+nb a b by omega);have e:(a-nb a b)*(a+nb a b)=a*a-nb a b*nb a b:=by grind
  omega
 have sqn:=xD (nb a b);have m1:=aE a1 (hE a0);have of:=h.of.eq;have e4:4*a*nc d a b=4*(a*nc d a b):=by grind
 have cp:0<nc d a b:=by
  rcases hW 0 (nc d a b)with q|q
  ·exact q
  ·have:=hU (hE a0) (show 0≤ -nc d a b by omega);rw[bc]at this;omega
 refine⟨sq,cp,?_,by omega,sqn⟩;rcases hW 2147483648 (nc d a b)with q|q
 ·exfalso;have:=aE (show 2147483649≤nc d a b by omega) (hE a0);omega
 ·exact q
def mv (a b:Int):Int:=2*a+(if nb a b<0 then 1 else 0)
theorem Ga {a b:Int}(d:Int)(h:Lp d a b)(hd:d<0)(hd1: -4294967296≤d):
  aA (2*a)=2*a∧aA (4*a)=4*a∧Int.tmod (aA (Int.tmod b (2*a)+2*a)) (2*a)=b%(2*a)∧
  (b%(2*a)>a→aA (b%(2*a)-2*a)=nb a b)∧aA (Int.tdiv (aA (aA (nb a b*nb a b)-d)) (4*a))=nc d a b:=by
 obtain⟨s1,s2,s3,s4,s5⟩:=h.sizes hd hd1;obtain⟨a0,a1,b0,b1,_⟩:=h;have e0:=dQ b (show 2*a≠0 by omega);have e1:=xK b (show 0<2*a by omega);refine⟨fA (by omega) (by omega),fA (by omega) (by omega),?_,?_,?_⟩
 ·have hf:=fl (x:=b) (show 0<2*a by omega);by_cases h:Int.tmod b (2*a)<0
  ·obtain⟨_,q⟩:=hf.1 h;rw[←q,fA (by omega) (by omega),Int.tmod_eq_of_lt e0 e1]
  ·obtain⟨_,q⟩:=hf.2 h;rw[←q,fA (by omega) (by omega),o0 (by omega),Int.add_emod_right,c9 _ (fo _)]
 ·intro hg;unfold nb;rw[if_pos hg,fA (by omega) (by omega)]
 ·unfold nc at*;rw[fA (n:=nb a b*nb a b) (by omega) (by omega),fA (n:=nb a b*nb a b-d) (by omega) (by omega),y5 (by omega),fA (by omega) (by omega)]
theorem vg {N:Nat}{R:Type}{d:Int}(hd:d<0)(hd1: -4294967296≤d)(kr:Int→Int→Int→Option R):∀(n:Nat) (a b x16 x17 x18:Int),Lp d a b→mv a b<n→
  ∃a' b' c',0<a'∧a'≤2147483648∧Of d a' b' c'∧fL a' b'∧¬lC a' b' c'∧Cl d (La d a b) (La d a' b')∧Q85.l12 N n d a b x16 x17 x18 kr=kr a' b' c':=by
 intro n;induction n with
 |zero=>intro a b x16 x17 x18 h hn;exfalso;have:=h.a0;unfold mv at hn;split at hn<;>omega
 |succ n ih=>
  intro a b x16 x17 x18 h hn;obtain⟨e1,e2,e3,e4,e5⟩:=Ga d h hd hd1;obtain⟨s1,s2,s3,s4,s5⟩:=h.sizes hd hd1;have hof:=h.of;have a0:=h.a0;have a1:=h.a1;obtain⟨n1,n2,k,hk⟩:=iL b a0;have cl1:Cl d (La d a b) (La d a (nb a b)):=by rw[hk];exact Mod.Hm.same (La.shift d a b k)
  have cz:(!(2*a==0))=true:=by have:(2*a==0)=false:=beq_eq_false_iff_ne.mpr (by omega);rw[this];rfl
  have cz4:(!(4*a==0))=true:=by have:(4*a==0)=false:=beq_eq_false_iff_ne.mpr (by omega);rw[this];rfl
  have hneg:aA (0-nb a b)= -nb a b:=by rw[fA (by omega) (by omega)];omega
  obtain⟨t1,t2,t3,t4⟩:=hof.t;have hdm:sd d*sd d+4*md d<0:=by omega
  have rest:∀x16 x17 x18,∃a' b' c',0<a'∧a'≤2147483648∧Of d a' b' c'∧fL a' b'∧¬lC a' b' c'∧Cl d (La d a b) (La d a' b')∧
    (bif decide (a<nc d a b)then kr a (nb a b) (nc d a b)
     else bif a==nc d a b then bif decide (nb a b≥0)then kr a (nb a b) (nc d a b)else Q85.l12 N n d (nc d a b) (-nb a b) x16 x17 x18 kr
     else Q85.l12 N n d (nc d a b) (-nb a b) x16 x17 x18 kr)=kr a' b' c':=by
   intro x16 x17 x18;have hl:Lp d (nc d a b) (-nb a b):=by
    refine⟨s2,s3,by omega,by omega,?_⟩;have:=hof.eq;exact⟨a,by
      have e: -nb a b* -nb a b=nb a b*nb a b:=by grind
      have e2:4*nc d a b*a=4*a*nc d a b:=by grind
      omega⟩
   have cl2:Cl d (La d a b) (La d (nc d a b) (-nb a b)):=cl1.trans hdm (hof.swap hd (by omega));by_cases h1:a<nc d a b
   ·rw[decide_eq_true h1];exact⟨a,nb a b,nc d a b,a0,a1,hof,⟨n1,n2⟩,fun q=>by unfold lC at q;omega,cl1,rfl⟩
   ·rw[decide_eq_false h1];simp only[cond_false];by_cases h2:a=nc d a b
    ·have c3:(a==nc d a b)=true:=beq_iff_eq.mpr h2;rw[c3];simp only[cond_true];by_cases h3:nb a b≥0
     ·rw[decide_eq_true h3];exact⟨a,nb a b,nc d a b,a0,a1,hof,⟨n1,n2⟩,fun q=>by unfold lC at q;omega,cl1,rfl⟩
     ·rw[decide_eq_false h3];simp only[cond_false];have hmv:mv (nc d a b) (-nb a b)<n:=by
       have q1:nb (nc d a b) (-nb a b)= -nb a b:=by unfold nb;rw[←h2];have:(-nb a b)%(2*a)= -nb a b:=il (by omega) (by omega);unfold nb at this;rw[this];unfold nb at h3 n1 n2;rw[if_neg (by omega)]
       unfold mv at hn⊢;rw[if_pos (by omega)]at hn;rw[q1,if_neg (by omega),←h2];omega
      obtain⟨a',b',c',g1,g2,g3,g4,g5,g6,g7⟩:=ih (nc d a b) (-nb a b) x16 x17 x18 hl hmv;exact⟨a',b',c',g1,g2,g3,g4,g5,cl2.trans hdm g6,g7⟩
    ·have c3:(a==nc d a b)=false:=beq_eq_false_iff_ne.mpr h2;rw[c3];simp only[cond_false];have hmv:mv (nc d a b) (-nb a b)<n:=by
      unfold mv at hn⊢;split at hn<;>split<;>omega
     obtain⟨a',b',c',g1,g2,g3,g4,g5,g6,g7⟩:=ih (nc d a b) (-nb a b) x16 x17 x18 hl hmv;exact⟨a',b',c',g1,g2,g3,g4,g5,cl2.trans hdm g6,g7⟩
  rw[Q85.l12,e1,cz,e2,cz4,e3];simp only[cond_true];by_cases hg:b%(2*a)>a
  ·rw[decide_eq_true hg,e4 hg,e5,hneg];simp only[cond_true];exact rest x16 x17 x18
  ·have hb:b%(2*a)=nb a b:=by unfold nb;rw[if_neg hg]
   rw[decide_eq_false hg,hb,e5,hneg];simp only[cond_false];exact rest x16 x17 x18
def kX (a b c:Int):Prop:=∃p q r:Int,p*a+q*b+r*c=1
theorem Hb {a1 a2 c1 c2 s t1 t2 k y1 z1 e x2 y2 m:Int}(hk:a2*y1+a1*z1=k)(he:(t1+t2+s)*x2+k*y2=e)
  (h1:t1*t1+s*t1-m=a1*c1)(h2:t2*t2+s*t2-m=a2*c2):
  a2*(y1*(-y2*(t2-t1))-x2*c2)+e*(t2-t1)=a1*(z1*y2*(t2-t1)-x2*c1)∧
  (t1+t2+s)*(y1*(-y2*(t2-t1))-x2*c2)+e*c2=a1*(y2*(c2*z1+c1*y1)):=by
 have hs:(t1+t2+s)*(t2-t1)=a2*c2-a1*c1:=by rw[←h1,←h2];grind
 constructor
 ·have e1:a2*(y1*(-y2*(t2-t1))-x2*c2)+e*(t2-t1)= -(y2*(t2-t1))*(a2*y1)-x2*(a2*c2)+e*(t2-t1):=by grind
  have e2:e*(t2-t1)=x2*((t1+t2+s)*(t2-t1))+y2*(t2-t1)*k:=by rw[←he];grind
  rw[e1,e2,hs,←hk];grind
 ·have e1:(t1+t2+s)*(y1*(-y2*(t2-t1))-x2*c2)+e*c2= -(y1*y2)*((t1+t2+s)*(t2-t1))+c2*(e- (t1+t2+s)*x2):=by grind
  have e2:e- (t1+t2+s)*x2=k*y2:=by omega
  rw[e1,e2,hs,←hk];grind
theorem Ii {s m v1 v2 c1 c2 t1 t2 k y1 z1 e x2 y2 s' j p q r:Int}(he0:e≠0)(hk:e*v2*y1+e*v1*z1=k)(he:(t1+t2+s)*x2+k*y2=e)(hs:t1+t2+s=e*s')
  (h1:t1*t1+s*t1-m=e*v1*c1)(h2:t2*t2+s*t2-m=e*v2*c2)(hp:p*(e*v1)+q*(2*t1+s)+r*c1=1)(u:Mod.E):
  PM s m (Fo (e*v1) t1) (Fo (e*v2) t2) u↔Mod.Sc s m ⟨e,0⟩ (Fo (v1*v2) (t2+v2*(y1*(-y2*(t2-t1))-x2*c2+v1*j))) u:=by
 obtain⟨k1,k2⟩:=Hb (a1:=e*v1) (a2:=e*v2) hk he h1 h2;generalize hR:y1*(-y2*(t2-t1))-x2*c2=R at*;have w1:v2*R+(t2-t1)=v1*(z1*y2*(t2-t1)-x2*c1):=by
  have:e*(v2*R+(t2-t1))=e*(v1*(z1*y2*(t2-t1)-x2*c1)):=by
   have a1:e*(v2*R+(t2-t1))=e*v2*R+e*(t2-t1):=by grind
   rw[a1,k1];grind
  exact x3 he0 this
 have w2:s'*R+c2=v1*(y2*(c2*z1+c1*y1)):=by
  have:e*(s'*R+c2)=e*(v1*(y2*(c2*z1+c1*y1))):=by
   have a1:e*(s'*R+c2)=(t1+t2+s)*R+e*c2:=by rw[hs];grind
   rw[a1,k2];grind
  exact x3 he0 this
 refine Mod.K6 (n4:=s'*t2-v2*c2) (c1:=c1) (s':=s') (x:=z1*y2) (y:=y1*y2) (z:=x2) (p:=p) (q:=q) (r:=r) he0 hs ?_ h1 ?_ ?_ ?_ ?_ hp u
 ·have:e*(s'*t2-v2*c2)=(e*s')*t2-e*v2*c2:=by grind
  rw[this,←hs,←h2];grind
 ·refine⟨z1*y2*(t2-t1)-x2*c1+v2*j,?_⟩;have:v1*(z1*y2*(t2-t1)-x2*c1+v2*j)=v1*(z1*y2*(t2-t1)-x2*c1)+v1*(v2*j):=Int.mul_add ..;rw[this,←w1];grind
 ·exact⟨R+v1*j,by grind⟩
 ·refine⟨-(y2*(c2*z1+c1*y1))-s'*j,?_⟩;have:v1*v2*(-(y2*(c2*z1+c1*y1))-s'*j)= -(v2*(v1*(y2*(c2*z1+c1*y1))))-v1*v2*s'*j:=by grind
  rw[this,←w2];grind
 ·rw[←hs];have:z1*y2*(e*v1)+y1*y2*(e*v2)+x2*(t1+t2+s)=(t1+t2+s)*x2+(e*v2*y1+e*v1*z1)*y2:=by grind
  rw[this,hk,he]
theorem yM {d a b c:Int}(h:Of d a b c)(a0:0<a)(hr:fL a b)(hs:¬lC a b c)(hd1: -4294967296≤d):a≤37838∧a≤c∧c≤1073741824∧zJ a b c∨¬d<0:=by
 by_cases hd:d<0
 ·left;obtain⟨r1,r2⟩:=hr;have hac:a≤c:=by
   rcases hW c a with q|q
   ·exact absurd (Or.inl q) hs
   ·exact q
  have he:=h.eq;have e4:4*a*c=4*(a*c):=by grind
  have bb:b*b≤a*a:=by
   have:=hU (show 0≤a-b by omega) (show 0≤a+b by omega);have e:(a-b)*(a+b)=a*a-b*b:=by grind
   omega
  have aa:a*a≤a*c:=aE hac (hE a0);have bn:=xD b;have a1:a≤37838:=by
   rcases hW 37838 a with q|q
   ·exfalso;have:=aE (show 37839≤a by omega) (show(0:Int)≤37839 by decide);have:=yK (show 37839≤a by omega) (hE a0);omega
   ·exact q
  have c1:c≤1073741824:=by
   by_cases h1:a=1
   ·subst h1;have:b=0∨b=1:=by omega
    rcases this with q|q<;>subst q<;>omega
   ·rcases hW 1073741824 c with q|q
    ·exfalso;have:=yK (show 2≤a by omega) (show 0≤c by omega);omega
    ·exact q
  refine⟨a1,hac,c1,⟨⟨⟨by omega,by omega⟩,⟨by omega,by omega⟩,by omega,c1⟩,a0,by omega,by omega⟩⟩
 ·right;exact hd
structure n9 (d a b c:Int):Prop where
 a0:0<a
 of:Of d a b c
 inr:fL a b
 sm:¬lC a b c
 pr:kX a b c
theorem Cp {a b g x y:Int}(h:GT a b g x y):g∣a∧g∣b:=by
 rw[h.eg];exact⟨eC a b,lB a b⟩
theorem Cq {d b1 b2:Int}(h1:b1%2=d%2)(h2:b2%2=d%2):Int.tdiv (b1+b2) 2=(b1-sd d)/2+(b2-sd d)/2+sd d:=by
 have e:b1+b2=2*((b1-sd d)/2+(b2-sd d)/2+sd d):=by unfold sd;omega
 rw[e,bu _ (by decide)]
theorem cT {N:Nat}(hN:4294967400<N){R:Type}{d a1 b1 c1 a2 b2 c2:Int}(hd:d<0)(hd1: -4294967296≤d)(h1:n9 d a1 b1 c1)(h2:n9 d a2 b2 c2)(kr:Int→Int→Int→Option R):
  ∃a b c,0<a∧a≤2147483648∧Of d a b c∧fL a b∧¬lC a b c∧Cl d (Pr d (La d a1 b1) (La d a2 b2)) (La d a b)∧
  ((Q45.f N a2 a1).bind fun r25=>
   (Q45.f N (aA (Int.tdiv (aA (b1+b2)) 2)) r25.1).bind fun r26=>
   bif !(r26.1==0)then
    bif !(r26.1==0)then
     (Q82.f N (aA (0-r26.2.2)) (aA (b2- (aA (Int.tdiv (aA (b1+b2)) 2)))) (aA (Int.tdiv a1 r26.1))).bind fun r27=>
     (Q82.f N r25.2.1 r27 (aA (Int.tdiv a1 r26.1))).bind fun r28=>
     (Q82.f N r26.2.1 c2 (aA (Int.tdiv a1 r26.1))).bind fun r29=>
     bif !((aA (Int.tdiv a1 r26.1))==0)then
      bif !((aA (Int.tdiv a1 r26.1))==0)then
       Q85.l12 N N d (aA ((aA (Int.tdiv a1 r26.1))*(aA (Int.tdiv a2 r26.1)))) (aA (b2+(aA ((aA (2*(aA (Int.tdiv a2 r26.1))))*(Int.tmod (aA ((Int.tmod (aA (r28-r29)) (aA (Int.tdiv a1 r26.1)))+(aA (Int.tdiv a1 r26.1)))) (aA (Int.tdiv a1 r26.1))))))) 0 0 0 kr
      else none
     else none
    else none
   else none)=kr a b c:=by
 obtain⟨f1,_,f2,f3⟩:=(yM h1.of h1.a0 h1.inr h1.sm hd1).resolve_right (fun q=>q hd);obtain⟨g1,_,g2,g3⟩:=(yM h2.of h2.a0 h2.inr h2.sm hd1).resolve_right (fun q=>q hd);have a10:=h1.a0;have a20:=h2.a0;obtain⟨i1,i2⟩:=h1.inr;obtain⟨i3,i4⟩:=h2.inr;obtain⟨q1,q2,q3,q4⟩:=h1.of.t;obtain⟨q5,q6,_,_⟩:=h2.of.t;obtain⟨p1,_⟩:=h1.of.par;obtain⟨p2,_⟩:=h2.of.par;have hsum:=Cq p1 p2;generalize ht1:(b1-sd d)/2=t1 at*;generalize ht2:(b2-sd d)/2=t2 at*;have hsd:sd d=0∨sd d=1:=q4;generalize hs:t1+t2+sd d=S at*;have hS: -38000≤S∧S≤38000:=by omega
 have w1:aA (b1+b2)=b1+b2:=fA (by omega) (by omega);have w2:aA (Int.tdiv (aA (b1+b2)) 2)=S:=by rw[w1,hsum,fA (by omega) (by omega)]
 obtain⟨k,y1,z1,G1,k0,k1,E1⟩:=wm (N:=N) (by omega) (a:=a2) (b:=a1) (by rw[uB (by omega)];omega) (by rw[uB (by omega)];omega);have kp:0<k:=by rw[G1.eg];exact NatL.lS (by omega)
 obtain⟨d1,d2⟩:=Cp G1;have kle:k≤a1:=b8 a10 d2;obtain⟨e,x2,y2,G2,e0,e1,E2⟩:=wm (N:=N) (by omega) (a:=S) (b:=k) (by rcases cB S with⟨c1,c2⟩|⟨c1,c2⟩<;>omega) (by rw[uB (by omega)];omega);have ep:0<e:=by rw[G2.eg];exact NatL.lS (by omega)
 obtain⟨d3,d4⟩:=Cp G2;obtain⟨s',hs'⟩:=d3;obtain⟨v1,hv1⟩:=hT d4 d2;obtain⟨v2,hv2⟩:=hT d4 d1;have ele:e≤k:=b8 kp d4;have v1p:0<v1:=by
  rcases hW 0 v1 with q|q
  ·exact q
  ·have:=hU (hE ep) (show 0≤ -v1 by omega);rw[bc]at this;omega
 have v2p:0<v2:=by
  rcases hW 0 v2 with q|q
  ·exact q
  ·have:=hU (hE ep) (show 0≤ -v2 by omega);rw[bc]at this;omega
 have v1le:v1≤37838:=by have:=yK (show 1≤e by omega) (hE v1p);omega
 have v2le:v2≤37838:=by have:=yK (show 1≤e by omega) (hE v2p);omega
 have w3:aA (Int.tdiv a1 e)=v1:=by rw[hv1,bu _ (by omega),fA (by omega) (by omega)]
 have w4:aA (Int.tdiv a2 e)=v2:=by rw[hv2,bu _ (by omega),fA (by omega) (by omega)]
 have w5:aA (b2-S)=t2-t1:=by rw[fA (by omega) (by omega)];omega
 have ez:(!(e==0))=true:=by have:(e==0)=false:=beq_eq_false_iff_ne.mpr (by omega);rw[this];rfl
 have vz:(!(v1==0))=true:=by have:(v1==0)=false:=beq_eq_false_iff_ne.mpr (by omega);rw[this];rfl
 have by2:aA (0-y2)= -y2:=by
  have hx:=G2.lo (by omega);have hxk:x2<k:=by have:=cy e (show 0≤ab k from wA k);rw[uB k0]at this;rw[uB k0]at hx;omega
  have hsm:=G2.sum;have m1: -(38000*37838)≤S*x2∧S*x2≤38000*37838:=rD (by omega) (by omega) (by omega) (by omega);have e2:k*y2=e-S*x2:=by omega
  have m3:(38000:Int)*37838=1437844000:=by decide
  have: -1437900000≤y2∧y2≤1437900000:=by
   constructor
   ·rcases hW y2 (-1437900000)with q|q
    ·have:=yK (show 1≤k by omega) (show 0≤ -y2 by omega);have e9:k* -y2= -(k*y2):=bc ..;omega
    ·exact q
   ·rcases hW 1437900000 y2 with q|q
    ·have:=yK (show 1≤k by omega) (show 0≤y2 by omega);omega
    ·exact q
  rw[fA (by omega) (by omega)];omega
 rw[E1];simp only[pC];rw[w2,E2];simp only[pC,ez,cond_true];rw[w3,w4,w5,by2,lU v1p (by omega)];simp only[pC];rw[lU v1p (by omega)];simp only[pC];rw[lU v1p (by omega)];simp only[pC,vz,cond_true];have m0:=dQ (y1*(-y2*(t2-t1)%v1)) (show v1≠0 by omega);have m1:=xK (y1*(-y2*(t2-t1)%v1)) v1p;have m2:=dQ (x2*c2) (show v1≠0 by omega);have m3:=xK (x2*c2) v1p;have hr:Int.tmod (aA (Int.tmod (aA (y1*(-y2*(t2-t1)%v1)%v1-x2*c2%v1)) v1+v1)) v1=(y1*(-y2*(t2-t1))-x2*c2)%v1:=by
  rw[fA (n:=y1*(-y2*(t2-t1)%v1)%v1-x2*c2%v1) (by omega) (by omega)];have hf:=fl (x:=y1*(-y2*(t2-t1)%v1)%v1-x2*c2%v1) v1p;have z0:=dQ (y1*(-y2*(t2-t1)%v1)%v1-x2*c2%v1) (show v1≠0 by omega);have z1':=xK (y1*(-y2*(t2-t1)%v1)%v1-x2*c2%v1) v1p;have same:(y1*(-y2*(t2-t1)%v1)%v1-x2*c2%v1)%v1=(y1*(-y2*(t2-t1))-x2*c2)%v1:=by
   have mm:y1*(-y2*(t2-t1)%v1)%v1=y1*(-y2*(t2-t1))%v1:=by rw[cu,c9 _ (fo _),←cu]
   rw[mm,←Int.sub_emod]
  rw[←same];generalize y1*(-y2*(t2-t1)%v1)%v1-x2*c2%v1=X at*;by_cases h:Int.tmod X v1<0
  ·obtain⟨_,q⟩:=hf.1 h;rw[←q,fA (by omega) (by omega),Int.tmod_eq_of_lt z0 z1']
  ·obtain⟨_,q⟩:=hf.2 h;rw[←q,fA (by omega) (by omega),o0 (by omega),Int.add_emod_right,c9 _ (fo _)]
 rw[hr];have r0:=dQ (y1*(-y2*(t2-t1))-x2*c2) (show v1≠0 by omega);have r1:=xK (y1*(-y2*(t2-t1))-x2*c2) v1p;have rd:=l0 (y1*(-y2*(t2-t1))-x2*c2) v1;have rj:(y1*(-y2*(t2-t1))-x2*c2)%v1=y1*(-y2*(t2-t1))-x2*c2+v1*(-((y1*(-y2*(t2-t1))-x2*c2)/v1)):=by rw[bc];omega
 generalize hj: -((y1*(-y2*(t2-t1))-x2*c2)/v1)=j at*;obtain⟨pp,pq,prr,hpr⟩:=h1.pr;have hk:e*v2*y1+e*v1*z1=k:=by rw[←hv2,←hv1];exact G1.sum
 have hun:=fun u=>Ii (s:=sd d) (m:=md d) (v1:=v1) (v2:=v2) (c1:=c1) (c2:=c2) (t1:=t1) (t2:=t2) (k:=k) (y1:=y1) (z1:=z1) (e:=e) (x2:=x2) (y2:=y2) (s':=s') (j:=j) (p:=pp) (q:=pq) (r:=prr) (by omega) hk (by rw[hs];exact G2.sum) (by rw[hs];exact hs') (by rw[←hv1];exact q2) (by rw[←hv2];exact q6) (by rw[←hv1,←q1];exact hpr) u;rw[←hv1,←hv2,←rj]at hun;have hdm:sd d*sd d+4*md d<0:=by omega
 have rr0:=r0;have rr1:=r1;generalize(y1*(-y2*(t2-t1))-x2*c2)%v1=r at*;have bv:v2*r≤37838*37838:=by have a:=aE (show r≤37838 by omega) (hE v2p);omega
 have bv0:=hU (hE v2p) rr0;have k3:(37838:Int)*37838=1431714244:=by decide
 have vv0:=iv v1p v2p;have vv1:v1*v2≤37838*37838:=by have a:=aE v2le (hE v1p);omega
 have w6:aA (v1*v2)=v1*v2:=fA (by omega) (by omega);have w7:aA (2*v2)=2*v2:=fA (by omega) (by omega);have e2r:2*v2*r=2*(v2*r):=by grind
 have w8:aA (2*v2*r)=2*v2*r:=fA (by omega) (by omega);have w9:aA (b2+2*v2*r)=b2+2*v2*r:=fA (by omega) (by omega);rw[w6,w7,w8,w9];have hlat:La d (v1*v2) (b2+2*v2*r)=Fo (v1*v2) (t2+v2*r):=by
  unfold La;have:b2+2*v2*r-sd d=(t2+v2*r)*2:=by omega
  rw[this,vc _ (by decide)]
 have hdv:4*(v1*v2)∣(b2+2*v2*r)*(b2+2*v2*r)-d:=by
  obtain⟨kk1,kk2⟩:=Hb (a1:=a1) (a2:=a2) (c1:=c1) (c2:=c2) (s:=sd d) (t1:=t1) (t2:=t2) (k:=k) (y1:=y1) (z1:=z1) (e:=e) (x2:=x2) (y2:=y2) (m:=md d) G1.sum (by rw[hs];exact G2.sum) q2 q6;rw[hs]at kk2;have rjj:y1*(-y2*(t2-t1))-x2*c2=r-v1*j:=by omega
  rw[rjj]at kk1 kk2;have u1:∃W,v2*r+(t2-t1)=v1*W:=by
   refine⟨z1*y2*(t2-t1)-x2*c1+v2*j,?_⟩;have:e*(v2*r+(t2-t1))=e*(v1*(z1*y2*(t2-t1)-x2*c1+v2*j)):=by
    have a3:e*(v2*r+(t2-t1))=a2*(r-v1*j)+e*(t2-t1)+a2*v1*j:=by rw[hv2];grind
    rw[a3,kk1,hv1,hv2];grind
   exact x3 (by omega) this
  have u2:∃W,s'*r+c2=v1*W:=by
   refine⟨y2*(c2*z1+c1*y1)+s'*j,?_⟩;have:e*(s'*r+c2)=e*(v1*(y2*(c2*z1+c1*y1)+s'*j)):=by
    have a3:e*(s'*r+c2)=S*(r-v1*j)+e*c2+S*v1*j:=by rw[hs'];grind
    rw[a3,kk2,hv1,hs'];grind
   exact x3 (by omega) this
  obtain⟨W1,hW1⟩:=u1;obtain⟨W2,hW2⟩:=u2;have hq:(t2+v2*r)*(t2+v2*r)+sd d*(t2+v2*r)-md d=v1*v2*(e*W2+r*W1):=by
   have a4:(t2+v2*r)*(t2+v2*r)+sd d*(t2+v2*r)-md d=(t2*t2+sd d*t2-md d)+v2*r*(t1+t2+sd d)+v2*r*(v2*r+(t2-t1)):=by grind
   rw[a4,q6,hs,hs',hW1,hv2];have a5:e*v2*c2+v2*r*(e*s')+v2*r*(v1*W1)=e*v2*(s'*r+c2)+v2*r*(v1*W1):=by grind
   rw[a5,hW2];grind
  refine⟨e*W2+r*W1,?_⟩;have a6:(b2+2*v2*r)*(b2+2*v2*r)-d=4*((t2+v2*r)*(t2+v2*r)+sd d*(t2+v2*r)-md d):=by
   have a7:b2+2*v2*r=2*(t2+v2*r)+sd d:=by omega
   rw[a7];have hss:sd d*sd d=sd d:=by rcases hsd with h|h<;>rw[h]<;>decide
   have a8:(2*(t2+v2*r)+sd d)*(2*(t2+v2*r)+sd d)=4*((t2+v2*r)*(t2+v2*r)+sd d*(t2+v2*r))+sd d*sd d:=by grind
   omega
  rw[a6,hq];grind
 have hlp:Lp d (v1*v2) (b2+2*v2*r):=⟨vv0,by omega,by omega,by omega,hdv⟩
 obtain⟨a,b,c,l1,l2,l3,l4,l5,l6,l7⟩:=vg (N:=N) hd hd1 kr N (v1*v2) (b2+2*v2*r) 0 0 0 hlp (by unfold mv;split<;>omega);refine⟨a,b,c,l1,l2,l3,l4,l5,?_,l7⟩;have hcl:Cl d (Pr d (La d a1 b1) (La d a2 b2)) (La d (v1*v2) (b2+2*v2*r)):=by
  rw[hlat];have e1':La d a1 b1=Fo a1 t1:=by unfold La;rw[ht1]
  have e2':La d a2 b2=Fo a2 t2:=by unfold La;rw[ht2]
  rw[e1',e2'];exact Mod.Hm.scaled (k:=⟨e,0⟩) (fun h=>by have:=congrArg Mod.E.re h;simp[Mod.ze]at this;omega) hun
 exact hcl.trans hdm l6
open Go.Proofs.YtjpdjdhdchjcgaaGreat.NatL (ab cB wA uB uE GT fB iC eC lB yD mE tA tB)
open Go.Proofs.YtjpdjdhdchjcgaaGreat.Mod (Fo Hm PM E ml ad sm ze)
def Oo:E→Prop:=Fo 1 0
theorem Oo.all (z:E):Oo z:=by unfold Oo Fo;exact kb _
theorem I4 (t:Int)(z:E):Fo 1 t z↔Oo z:=⟨fun _=>Oo.all z,fun _=>by unfold Fo;exact kb _⟩
structure Dn (d:Int):Prop where
 neg:d<0
 m:sd d*sd d+4*md d<0
theorem Dn.of {d a b c:Int}(h:Of d a b c)(hd:d<0):Dn d:=⟨hd,by have:=h.t.2.2.1;omega⟩
theorem Of.one {d a b c:Int}(h:Of d a b c)(hd:Dn d):Cl d (Pr d Oo (La d a b)) (La d a b):=by
 obtain⟨t1,t2,t3,t4⟩:=h.t;unfold La;generalize(b-sd d)/2=t at*;refine Mod.Hm.scaled (k:=⟨1,0⟩) Mod.ub (fun z=>?_);have k:=Mod.K6 (s:=sd d) (m:=md d) (e:=1) (v1:=1) (v2:=a) (t1:=0) (t2:=t) (t:=t) (s':=t+sd d) (n4:=md d) (c1:= -md d) (x:=1) (y:=0) (z:=0) (p:=1) (q:=0) (r:=0) (by decide) (by omega) (by omega) (by omega) (kb _) ⟨0,by omega⟩ ⟨-c,by
  have e:(t+sd d)*t=t*t+sd d*t:=by grind
  have e2:1*a* -c= -(a*c):=by grind
  omega⟩ (by omega) (by omega) z
 rw[lg,lg]at k;exact k
theorem Of.inv {d a b c:Int}(h:Of d a b c)(hd:Dn d)(ha:a≠0)(hp:kX a b c):Cl d (Pr d (La d a b) (La d a (-b))) Oo:=by
 obtain⟨t1,t2,t3,t4⟩:=h.t;obtain⟨p,q,r,hp⟩:=hp;unfold La;have e:(-b-sd d)/2= -((b-sd d)/2)-sd d:=by omega
 rw[e];rw[t1]at hp;generalize(b-sd d)/2=t at*;refine Mod.Hm.scaled (k:=⟨a,0⟩) (fun h=>ha (by have:=congrArg E.re h;simpa[ze]using this)) (fun z=>?_);have k:=Mod.K6 (s:=sd d) (m:=md d) (e:=a) (v1:=1) (v2:=1) (t1:=t) (t2:= -t-sd d) (t:=0) (s':=0) (n4:= -c) (c1:=c) (x:=1) (y:=0) (z:=0) (p:=p) (q:=q) (r:=r) ha (by omega) (by
  have e1:t*(-t-sd d)= -(t*t+sd d*t):=by grind
  have e2:a* -c= -(a*c):=by grind
  omega) (by
    have e3:a*1*c=a*c:=by grind
    omega) (kb _) (kb _) (by
      have:(1:Int)*1=1:=by decide
      rw[this];exact kb _) (by omega) (by rw[xo];exact hp) z
 rw[xo]at k;exact k
def Un (d:Int)(M:E→Prop):Prop:=∃X,Cl d (Pr d M X) Oo
theorem Un.cl {d:Int}(hd:Dn d){M L:E→Prop}(h:Un d M)(k:Cl d M L):Un d L:=by
 obtain⟨X,hX⟩:=h;exact⟨X,(k.symm.left X).trans hd.m hX⟩
theorem H9 {d a b c:Int}(h:Of d a b c)(hd:Dn d):Cl d (Pr d Oo Oo) Oo:=by
 obtain⟨t1,t2,t3,t4⟩:=h.t;have h1:Of d 1 (sd d) (-md d):=⟨by omega⟩
 have:=h1.one hd;have e:La d 1 (sd d)=Oo:=by
   unfold La Oo;have:(sd d-sd d)/2=0:=by omega
   rw[this]
 rw[e]at this;exact this
theorem Jh {d:Int}(hd:Dn d)(A B C D:E→Prop):Cl d (Pr d (Pr d A B) (Pr d C D)) (Pr d (Pr d A C) (Pr d B D)):=by
 have h1:=Mod.Hm.assoc (s:=sd d) (m:=md d) A B (Pr d C D);have h2:Cl d (Pr d B (Pr d C D)) (Pr d C (Pr d B D)):=
  (Mod.Hm.assoc (s:=sd d) (m:=md d) B C D).symm.trans hd.m (((Mod.Hm.comm B C).left D).trans hd.m (Mod.Hm.assoc C B D))
 have h3:=Mod.Hm.prod hd.m (Mod.Hm.refl (sd d) (md d) A) h2;exact h1.trans hd.m (h3.trans hd.m (Mod.Hm.assoc A C (Pr d B D)).symm)
theorem Un.prod {d:Int}(hd:Dn d)(ho:Cl d (Pr d Oo Oo) Oo){M L:E→Prop}(h:Un d M)(k:Un d L):Un d (Pr d M L):=by
 obtain⟨X,hX⟩:=h;obtain⟨Y,hY⟩:=k;exact⟨Pr d X Y,(Jh hd M L X Y).trans hd.m ((Mod.Hm.prod hd.m hX hY).trans hd.m ho)⟩
theorem K5:∀(n:Nat) (a b:Int),0≤a→0≤b→b<n→∃x y,a*x+b*y=fB a b:=by
 intro n;induction n with
 |zero=>intro a b _ _ h;omega
 |succ n ih=>
  intro a b a0 b0 h;by_cases hb:b=0
  ·subst hb;exact⟨1,0,by rw[NatL.mK a0];omega⟩
  ·have d1:=l0 a b;have d2:=dQ a hb;have d3:=xK a (show 0<b by omega);obtain⟨x,y,hxy⟩:=ih b (a%b) b0 d2 (by omega);refine⟨y,x-a/b*y,?_⟩;rw[←NatL.fP a0 (by omega),←hxy];have:a%b=a-b*(a/b):=by omega
   rw[this];grind
theorem qy (a b:Int):∃x y,a*x+b*y=fB a b:=by
 obtain⟨x,y,h⟩:=K5 ((ab b).toNat+1) (ab a) (ab b) (wA a) (wA b) (by have:=wA b;omega);rw[NatL.kS]at h;have ea:∃s,ab a=a*s:=by
  rcases cB a with⟨c1,c2⟩|⟨c1,c2⟩
  ·exact⟨1,by omega⟩
  ·exact⟨-1,by omega⟩
 have eb:∃s,ab b=b*s:=by
  rcases cB b with⟨c1,c2⟩|⟨c1,c2⟩
  ·exact⟨1,by omega⟩
  ·exact⟨-1,by omega⟩
 obtain⟨s,hs⟩:=ea;obtain⟨t,ht⟩:=eb;exact⟨s*x,t*y,by rw[←h,hs,ht];grind⟩
theorem vM (a b c:Int):kX a b c↔fB (fB a b) c=1:=by
 constructor
 ·rintro⟨p,q,r,h⟩;have g1:=eC (fB a b) c;have g2:=lB (fB a b) c;have g3:=hT g1 (eC a b);have g4:=hT g1 (lB a b);have g0:=iC (fB a b) c;generalize fB (fB a b) c=g at*;have:g∣1:=by
   rw[←h];exact b9 (b9 (hT g3 (bs _ _)) (hT g4 (bs _ _))) (hT g2 (bs _ _))
  have:=b8 (by decide) this;have hg:g≠0:=fun h=>by subst h;have h1:=cx.mp g3;have h2:=cx.mp g4;have h3:=cx.mp g2;subst h1;subst h2;subst h3;omega
  omega
 ·intro h;obtain⟨x,y,h1⟩:=qy a b;obtain⟨z,w,h2⟩:=qy (fB a b) c;exact⟨x*z,y*z,w,by rw[←h,←h2,←h1];grind⟩
theorem Of.prim {d a b c:Int}(h:Of d a b c)(hd:Dn d)(hu:Un d (La d a b)):kX a b c:=by
 obtain⟨t1,t2,t3,t4⟩:=h.t;obtain⟨X,k,l,hk,hl,hX⟩:=hu;rw[vM];have g1:=eC (fB a b) c;have g2:=lB (fB a b) c;have g3:=hT g1 (eC a b);have g4:=hT g1 (lB a b);have g0:=iC (fB a b) c;generalize fB (fB a b) c=g at*;obtain⟨a0,ha⟩:=g3;obtain⟨b0,hb⟩:=g4;obtain⟨c0,hc⟩:=g2;unfold La at hX;generalize(b-sd d)/2=t at*;have key:∀x,Fo a t x→∃y,Fo a t y∧ml (sd d) (md d) ⟨t,1⟩ x=sm g y:=by
  intro x hx;obtain⟨i,hx⟩:=hx.gen;generalize x.im=j at*;subst hx;refine⟨⟨-(j*c0)*a+t*(i*a0+j*b0),i*a0+j*b0⟩,?_,?_⟩
  ·simp only[Fo];exact⟨-(j*c0),by grind⟩
  ·refine Mod.E.ext' ?_ ?_
   ·simp only[ml,sm];have e1:t*(i*a+t*j)+md d*(1*j)=i*a*t+j*(t*t+md d):=by grind
    have e2:t*t+md d=t*(2*t+sd d)-a*c:=by rw[←t2];grind
    rw[e1,e2,←t1,hb];have e3:g*(-(j*c0)*a+t*(i*a0+j*b0))= -(j*(g*c0)*a)+t*(i*(g*a0)+j*(g*b0)):=by grind
    rw[e3,←hc,←ha];grind
   ·simp only[ml,sm];have e1:t*j+1*(i*a+t*j)+sd d*(1*j)=i*a+j*(2*t+sd d):=by grind
    rw[e1,←t1,hb];have e3:g*(i*a0+j*b0)=i*(g*a0)+j*(g*b0):=by grind
    rw[e3,←ha]
 have all:∀z,Pr d (Fo a t) X z→∃y,Pr d (Fo a t) X y∧ml (sd d) (md d) ⟨t,1⟩ z=sm g y:=by
  intro z hz;induction hz with
  |zero=>exact⟨ze,Mod.Sp.zero,by rw[Mod.xh];exact Mod.E.ext' (by simp[sm,ze]) (by simp[sm,ze])⟩
  |mem h=>obtain⟨u,v,hu,hv,rfl⟩:=h;obtain⟨y,hy,e⟩:=key u hu;refine⟨ml (sd d) (md d) y v,Mod.Sp.mem ⟨y,v,hy,hv,rfl⟩,?_⟩;rw[←Mod.kP,e,Mod.gL,Mod.H3,Mod.gL _ _ v y]
  |add _ _ p q=>obtain⟨y,hy,e⟩:=p;obtain⟨y',hy',e'⟩:=q;exact⟨ad y y',Mod.Sp.add hy hy',by rw[Mod.de,e,e'];exact Mod.E.ext' (by simp only[sm,ad];grind) (by simp only[sm,ad];grind)⟩
  |neg _ p=>obtain⟨y,hy,e⟩:=p;exact⟨Mod.ng y,Mod.Sp.neg hy,by rw[Mod.nk,e];exact Mod.E.ext' (by simp only[sm,Mod.ng];grind) (by simp only[sm,Mod.ng];grind)⟩
 obtain⟨z0,hz0,e0⟩:=(hX _).mpr ⟨⟨1,0⟩,Oo.all _,rfl⟩;obtain⟨y,hy,e1⟩:=all z0 hz0;obtain⟨u,_,e2⟩:=(hX _).mp ⟨y,hy,rfl⟩;have e3:ml (sd d) (md d) l ⟨t,1⟩=ml (sd d) (md d) l (sm g u):=by
  have q1:ml (sd d) (md d) l ⟨1,0⟩=l:=Mod.E.ext' (by simp only[ml];grind) (by simp only[ml];grind);rw[q1]at e0;rw[Mod.H3,←e2];have q2:ml (sd d) (md d) l ⟨t,1⟩=ml (sd d) (md d) k (ml (sd d) (md d) ⟨t,1⟩ z0):=by
   have:ml (sd d) (md d) l ⟨t,1⟩=ml (sd d) (md d) (ml (sd d) (md d) k z0) ⟨t,1⟩:=by rw[←e0]
   rw[this,Mod.kP,Mod.gL _ _ z0]
  rw[q2,e1,Mod.H3]
 have e4:=Mod.xg hd.m hl e3;have e5:=congrArg E.im e4;simp only[sm]at e5;have hdv:g∣1:=⟨_,e5⟩
 have:=b8 (by decide) hdv;have hg:g≠0:=fun h=>by subst h;omega
 omega
theorem n9.same {d a b c a' b' c':Int}(hd:Dn d)(h:n9 d a b c)(k:n9 d a' b' c')(hc:Cl d (La d a b) (La d a' b')):a=a'∧b=b'∧c=c':=by
 obtain⟨t1,t2,t3,t4⟩:=h.of.t;obtain⟨u1,u2,_,_⟩:=k.of.t;obtain⟨p,q,r,u,hdet,e1,e2,e3⟩:=Mod.Iq hd.m h.a0 k.a0 t2 u2 hc;rw[←t1]at e2;rw[←u1]at e1 e2 e3;have he:ql a' b' c' a b c:=⟨p,q,r,u,hdet,e1,e2,e3⟩
 exact og k.a0 h.a0 k.inr k.sm h.inr h.sm he
open Go.Proofs.YtjpdjdhdchjcgaaGreat.NatL (ab cB wA uB uE GT fB iC eC lB oJ gJ tA tB xA yD)
open Go.Proofs.YtjpdjdhdchjcgaaGreat.Mod (Fo Hm PM E)
structure mW (d a b c:Int):Prop where
 fine:zJ a b c
 of:Of d a b c
 pr:kX a b c
theorem mW.d {d a b c:Int}(h:mW d a b c):d<0∧ -4294967296≤d:=by
 have:=h.of.eq;have:=h.fine.d0;have:=h.fine.d1;omega
theorem mW.dn {d a b c:Int}(h:mW d a b c):Dn d:=Dn.of h.of h.d.1
theorem mW.un {d a b c:Int}(h:mW d a b c):Un d (La d a b):=⟨_,h.of.inv h.dn (by have:=h.fine.pos;omega) h.pr⟩
theorem n9.val {d a b c:Int}(h:n9 d a b c)(hd:d<0)(hd1: -4294967296≤d):mW d a b c:=
 ⟨((yM h.of h.a0 h.inr h.sm hd1).resolve_right (fun q=>q hd)).2.2.2,h.of,h.pr⟩
theorem sQ {N:Nat}(hN:1000000001<N){a b c:Int}(h:ke a b c):Q51.f N a b c=some (fB (fB a b) c):=by
 have ha:ab a≤1073741824:=by obtain⟨h1,_⟩:=h;rcases cB a with⟨c1,c2⟩|⟨c1,c2⟩<;>omega
 have hb:ab b≤1073741824:=by obtain⟨_,h1,_⟩:=h;rcases cB b with⟨c1,c2⟩|⟨c1,c2⟩<;>omega
 have hc:ab c≤1073741824:=by obtain⟨_,_,h1⟩:=h;rcases cB c with⟨c1,c2⟩|⟨c1,c2⟩<;>omega
 obtain⟨g,x,y,h1,h2,h3,h4⟩:=wm hN (a:=a) (b:=b) (by omega) (by omega);obtain⟨g',x',y',h5,h6,h7,h8⟩:=wm hN (a:=g) (b:=c) (by rw[uB h2];omega) (by omega);unfold Q51.f;rw[uJ,decide_eq_true h];simp only[pC,uc,cond_false];rw[h4];simp only[pC];rw[h8,h5.eg,h1.eg];rfl
structure gI (d:Int)(M:E→Prop)(a b c:Int):Prop where
 red:n9 d a b c
 cl:Cl d M (La d a b)
theorem gI.same {d a b c a' b' c':Int}{M L:E→Prop}(hd:Dn d)(h:gI d M a b c)(k:gI d L a' b' c')(hc:Cl d M L):a=a'∧b=b'∧c=c':=
 h.red.same hd k.red (h.cl.symm.trans hd.m (hc.trans hd.m k.cl))
theorem gI.turn {d a b c:Int}{M L:E→Prop}(hd:Dn d)(h:gI d M a b c)(hc:Cl d L M):gI d L a b c:=⟨h.red,hc.trans hd.m h.cl⟩
theorem gI.un {d a b c:Int}{M:E→Prop}(hd:Dn d)(hd1: -4294967296≤d)(h:gI d M a b c):Un d M:=Un.cl hd (h.red.val hd.neg hd1).un h.cl.symm
theorem oD {N:Nat}(hN:8589934600<N){d a b c:Int}(h:mW d a b c):∃a' b' c',Q84.f N a b c=some (a',b',c',0)∧gI d (La d a b) a' b' c'∧zJ a' b' c'∧∃p q r u,Q50.f N a b c=some (a',b',c',p,q,r,u,0):=by
 obtain⟨hd,hd1⟩:=h.d;obtain⟨a',b',c',t,u,v,w,k1,k2,k3,k4,k5,k6,k7,k8,k9,k10,k11,k12⟩:=sV hN h.fine;have cl:=h.of.cl hd (by have:=h.fine.pos;omega) k1;have hof:Of d a' b' c':=by
  refine⟨?_⟩;have:ql a b c a' b' c':=⟨t,u,v,w,k1,k2,k3,k4⟩
  rw[this.disc];exact h.of.eq
 have cl':Cl d (La d a b) (La d a' b'):=by rw[k2,k3];exact cl
 have pr:kX a' b' c':=hof.prim h.dn (Un.cl h.dn h.un cl');refine⟨a',b',c',?_,⟨⟨k5.pos,hof,k6,k7,pr⟩,cl'⟩,k5,t,u,v,w,k12⟩;unfold Q84.f;rw[k12];have c0:((0:Int) != 0)=false:=rfl;have c1:((1:Int) != 1)=false:=rfl;simp only[pC,c0,cond_false];rw[sQ (by omega) h.fine.inb,(vM a b c).mp h.pr];simp only[pC,c1,cond_false]
theorem bg {N:Nat}{d a b c:Int}(h:mW d a b c):Q48.f N a b c=some 0:=by
 rcases jG N a b c with⟨_,h2⟩|⟨h2,_⟩
 ·exact h2
 ·exact absurd h.fine h2
theorem dS (N:Nat){d a b c:Int}(h:mW d a b c):Q47.f N a b c=some d:=by
 rw[(bH N a b c).1,if_pos h.fine.inb,eQ h.fine.inb,h.of.eq]
theorem jd {N:Nat}(hN:4294967400<N){d a1 b1 c1 a2 b2 c2:Int}(hd:d<0)(hd1: -4294967296≤d)(h1:n9 d a1 b1 c1)(h2:n9 d a2 b2 c2):
  ∃a b c,Q85.f N a1 b1 c1 a2 b2 c2 d=some (a,b,c)∧gI d (Pr d (La d a1 b1) (La d a2 b2)) a b c:=by
 have dn:Dn d:=Dn.of h1.of hd;have u1:=(h1.val hd hd1).un;have u2:=(h2.val hd hd1).un;have ho:=H9 h1.of dn;unfold Q85.f;by_cases hs:a1>a2
 ·obtain⟨a,b,c,k1,k2,k3,k4,k5,k6,k7⟩:=cT hN hd hd1 h2 h1 (fun y30 y31 y32=>some (y30,y31,y32));rw[decide_eq_true hs];have cl:=(Mod.Hm.comm (s:=sd d) (m:=md d) (La d a1 b1) (La d a2 b2)).trans dn.m k6;exact⟨a,b,c,k7,⟨k1,k3,k4,k5,k3.prim dn (Un.cl dn (Un.prod dn ho u1 u2) cl)⟩,cl⟩
 ·obtain⟨a,b,c,k1,k2,k3,k4,k5,k6,k7⟩:=cT hN hd hd1 h1 h2 (fun y30 y31 y32=>some (y30,y31,y32));rw[decide_eq_false hs];exact⟨a,b,c,k7,⟨k1,k3,k4,k5,k3.prim dn (Un.cl dn (Un.prod dn ho u1 u2) k6)⟩,k6⟩
theorem lR {N:Nat}(hN:4294967400<N){d a1 b1 c1 a2 b2 c2:Int}{M L:E→Prop}(hd:Dn d)(hd1: -4294967296≤d)(h1:gI d M a1 b1 c1)(h2:gI d L a2 b2 c2):
  ∃a b c,Q85.f N a1 b1 c1 a2 b2 c2 d=some (a,b,c)∧gI d (Pr d M L) a b c:=by
 obtain⟨a,b,c,e,h⟩:=jd hN hd.neg hd1 h1.red h2.red;exact⟨a,b,c,e,h.turn hd (Mod.Hm.prod hd.m h1.cl h2.cl)⟩
theorem mN {N:Nat}(hN:8589934600<N){d a1 b1 c1 a2 b2 c2:Int}(h1:mW d a1 b1 c1)(h2:mW d a2 b2 c2):
  ∃a b c,Q86.f N a1 b1 c1 a2 b2 c2=some (a,b,c,0)∧gI d (Pr d (La d a1 b1) (La d a2 b2)) a b c:=by
 obtain⟨x1,y1,z1,e1,r1,_⟩:=oD hN h1;obtain⟨x2,y2,z2,e2,r2,_⟩:=oD hN h2;obtain⟨a,b,c,e,h⟩:=lR (N:=N) (by omega) h1.dn h1.d.2 r1 r2;refine⟨a,b,c,?_,h⟩;have c0:((0:Int) != 0)=false:=rfl;have cd:(d != d)=false:=by simp
 unfold Q86.f;rw[bg h1];simp only[pC,c0,cond_false];rw[bg h2];simp only[pC,c0,cond_false];rw[e1];simp only[pC,c0,cond_false];rw[e2];simp only[pC,c0,cond_false];rw[dS N h1];simp only[pC];rw[dS N h2];simp only[pC,cd,cond_false];rw[e];rfl
theorem n9.over {d a b c:Int}(h:n9 d a b c)(hd:d<0)(hd1: -4294967296≤d):mW d a (-b) c:=by
 have v:=(h.val hd hd1).fine;obtain⟨⟨i1,i2,i3⟩,i4,i5,i6⟩:=v;have e: -b* -b=b*b:=by grind
 refine⟨⟨⟨i1,by omega,i3⟩,i4,by omega,by omega⟩,⟨by rw[e];exact h.of.eq⟩,?_⟩;obtain⟨p,q,r,k⟩:=h.pr;exact⟨p, -q,r,by rw[←k];grind⟩
theorem xq {d a b c:Int}(h:n9 d a b c)(hd:Dn d)(hd1: -4294967296≤d){M:E→Prop}(hM:Cl d M (La d a b)):Cl d (Pr d M (La d a (-b))) Oo:=
 (hM.left _).trans hd.m (h.of.inv hd (by have:=h.a0;omega) h.pr)
theorem xH {N:Nat}(hN:8589934600<N){d a b c:Int}(h:mW d a b c):∃x y z,Q87.f N a b c=some (x,y,z,0)∧n9 d x y z∧Cl d (Pr d (La d a b) (La d x y)) Oo:=by
 obtain⟨a',b',c',e1,r1,f1,_⟩:=oD hN h;have dn:=h.dn;have v:=r1.red.over h.d.1 h.d.2;obtain⟨x,y,z,e2,r2,f2,p,q,r,u,e3⟩:=oD hN v;refine⟨x,y,z,?_,r2.red,?_⟩
 ·have c0:((0:Int) != 0)=false:=rfl;have w:aA (0-b')= -b':=by
   have:=f1.inb.2.1;rw[fA (by omega) (by omega)];omega
  unfold Q87.f;rw[e1];simp only[pC,c0,cond_false];rw[w,e3];rfl
 ·have h1:=xq r1.red dn h.d.2 r1.cl;have h2:Cl d (Pr d (La d a b) (La d a' (-b'))) (Pr d (La d a b) (La d x y)):=Mod.Hm.prod dn.m (Mod.Hm.refl _ _ _) r2.cl;exact h2.symm.trans dn.m h1
open Go.Proofs.YtjpdjdhdchjcgaaGreat.NatL (ab cB wA uB uE GT fB iC eC lB oJ gJ tA tB xA bG yD rC)
def Id (d:Int)(M:E→Prop):Prop:=Cl d (Pr d Oo M) M
theorem Id.prod {d:Int}(hd:Dn d){M L:E→Prop}(h:Id d M):Id d (Pr d M L):=(Mod.Hm.assoc (s:=sd d) (m:=md d) Oo M L).symm.trans hd.m (h.left L)
theorem Id.cl {d:Int}(hd:Dn d){M L:E→Prop}(h:Id d M)(k:Cl d M L):Id d L:=
 (Mod.Hm.prod hd.m (Mod.Hm.refl (sd d) (md d) Oo) k.symm).trans hd.m (Mod.Hm.trans hd.m h k)
theorem Id.right {d:Int}(hd:Dn d){M:E→Prop}(h:Id d M):Cl d (Pr d M Oo) M:=(Mod.Hm.comm M Oo).trans hd.m h
theorem gI.id {d a b c:Int}{M:E→Prop}(hd:Dn d)(h:gI d M a b c):Id d M:=Id.cl hd (h.red.of.one hd) h.cl.symm
theorem th {d:Int}(hd:Dn d){M A B:E→Prop}(hA:Cl d (Pr d M A) Oo)(hB:Cl d (Pr d M B) Oo)(iA:Id d A)(iB:Id d B):Cl d A B:=by
 have h1:Cl d A (Pr d (Pr d M B) A):=(Mod.Hm.symm (Mod.Hm.trans hd.m (hB.left A) iA))
 have h2:Cl d (Pr d (Pr d M B) A) (Pr d (Pr d M A) B):=(Mod.Hm.assoc (s:=sd d) (m:=md d) M B A).trans hd.m ((Mod.Hm.prod hd.m (Mod.Hm.refl (sd d) (md d) M) (Mod.Hm.comm B A)).trans hd.m (Mod.Hm.assoc M A B).symm);exact h1.trans hd.m (h2.trans hd.m (Mod.Hm.trans hd.m (hA.left B) iB))
def Pw (d:Int)(M:E→Prop):Nat→E→Prop
 |0=>Oo
 |n+1=>Pr d (Pw d M n) M
theorem Pw.id {d:Int}(hd:Dn d)(ho:Id d Oo)(M:E→Prop):∀n,Id d (Pw d M n)
 |0=>ho
 |n+1=>Id.prod hd (Pw.id hd ho M n)
theorem Pw.cl {d:Int}(hd:Dn d){M L:E→Prop}(h:Cl d M L):∀n,Cl d (Pw d M n) (Pw d L n)
 |0=>Mod.Hm.refl _ _ _
 |n+1=>Mod.Hm.prod hd.m (Pw.cl hd h n) h
theorem Pw.two {d:Int}(hd:Dn d)(M:E→Prop):∀n,Cl d (Pw d (Pr d M M) n) (Pw d M (2*n))
 |0=>Mod.Hm.refl _ _ _
 |n+1=>(((Pw.two hd M n).left (Pr d M M))).trans hd.m (Mod.Hm.assoc (s:=sd d) (m:=md d) (Pw d M (2*n)) M M).symm
theorem Pw.front {d:Int}(hd:Dn d)(ho:Id d Oo){M:E→Prop}(hM:Id d M):∀n,Cl d (Pr d M (Pw d M n)) (Pw d M (n+1))
 |0=>(hM.right hd).trans hd.m hM.symm
 |n+1=>(Mod.Hm.assoc (s:=sd d) (m:=md d) M (Pw d M n) M).symm.trans hd.m ((Pw.front hd ho hM n).left M)
def zp (d:Int)(M X:E→Prop)(n:Int):E→Prop:=if 0≤n then Pw d M n.toNat else Pw d X (-n).toNat
theorem zp.id {d:Int}(hd:Dn d)(ho:Id d Oo)(M X:E→Prop)(n:Int):Id d (zp d M X n):=by
 unfold zp;split<;>exact Pw.id hd ho _ _
theorem zp.up {d:Int}(hd:Dn d)(ho:Id d Oo){M X:E→Prop}(hX:Cl d (Pr d M X) Oo)(n:Int):Cl d (Pr d (zp d M X n) M) (zp d M X (n+1)):=by
 by_cases h:0≤n
 ·have e:(n+1).toNat=n.toNat+1:=by omega
  unfold zp;rw[if_pos h,if_pos (by omega),e];exact Mod.Hm.refl _ _ _
 ·obtain⟨k,hk⟩:∃k:Nat,(-n).toNat=k+1:=⟨(-n).toNat-1,by omega⟩
  have h1:Cl d (Pr d (Pw d X (k+1)) M) (Pw d X k):=
   (Mod.Hm.assoc (s:=sd d) (m:=md d) (Pw d X k) X M).trans hd.m ((Mod.Hm.prod hd.m (Mod.Hm.refl (sd d) (md d) (Pw d X k)) ((Mod.Hm.comm X M).trans hd.m hX)).trans hd.m ((Pw.id hd ho X k).right hd))
  unfold zp;rw[if_neg h,hk];by_cases h2:0≤n+1
  ·have e:(n+1).toNat=0:=by omega
   have e2:k=0:=by omega
   rw[if_pos h2,e];rw[e2]at h1⊢;exact h1
  ·have e:(-(n+1)).toNat=k:=by omega
   rw[if_neg h2,e];exact h1
theorem zp.down {d:Int}(hd:Dn d)(ho:Id d Oo){M X:E→Prop}(hX:Cl d (Pr d M X) Oo)(n:Int):Cl d (Pr d (zp d M X n) X) (zp d M X (n-1)):=by
 have h1:=zp.up hd ho hX (n-1);have e:n-1+1=n:=by omega
 rw[e]at h1;have h2:=(h1.symm.left X).trans hd.m (Mod.Hm.assoc (s:=sd d) (m:=md d) (zp d M X (n-1)) M X);exact h2.trans hd.m ((Mod.Hm.prod hd.m (Mod.Hm.refl _ _ _) hX).trans hd.m ((zp.id hd ho M X (n-1)).right hd))
theorem zp.add {d:Int}(hd:Dn d)(ho:Id d Oo){M X:E→Prop}(hX:Cl d (Pr d M X) Oo)(i j:Int):Cl d (Pr d (zp d M X i) (zp d M X j)) (zp d M X (i+j)):=by
 have up:∀k:Nat,Cl d (Pr d (zp d M X i) (Pw d M k)) (zp d M X (i+k)):=by
  intro k;induction k with
  |zero=>
    have e:i+((0:Nat):Int)=i:=by omega
    rw[e];exact(zp.id hd ho M X i).right hd
  |succ k ih=>
   have e:i+((k+1:Nat):Int)=i+k+1:=by omega
   rw[e];exact(Mod.Hm.assoc (s:=sd d) (m:=md d) (zp d M X i) (Pw d M k) M).symm.trans hd.m ((ih.left M).trans hd.m (zp.up hd ho hX _))
 have down:∀k:Nat,Cl d (Pr d (zp d M X i) (Pw d X k)) (zp d M X (i-k)):=by
  intro k;induction k with
  |zero=>
    have e:i- ((0:Nat):Int)=i:=by omega
    rw[e];exact(zp.id hd ho M X i).right hd
  |succ k ih=>
   have e:i- ((k+1:Nat):Int)=i-k-1:=by omega
   rw[e];exact(Mod.Hm.assoc (s:=sd d) (m:=md d) (zp d M X i) (Pw d X k) X).symm.trans hd.m ((ih.left X).trans hd.m (zp.down hd ho hX _))
 by_cases h:0≤j
 ·have e:zp d M X j=Pw d M j.toNat:=if_pos h;have:=up j.toNat;rw[e];have e2:i+(j.toNat:Int)=i+j:=by omega
  rw[e2]at this;exact this
 ·have e:zp d M X j=Pw d X (-j).toNat:=if_neg h;have:=down (-j).toNat;rw[e];have e2:i- ((-j).toNat:Int)=i+j:=by omega
  rw[e2]at this;exact this
theorem zp.turn {d:Int}(hd:Dn d){M X Y:E→Prop}(h:Cl d X Y)(n:Int):Cl d (zp d M X n) (zp d M Y n):=by
 unfold zp;split
 ·exact Mod.Hm.refl _ _ _
 ·exact Pw.cl hd h _
theorem F4 {x:Int}(h0:0≤x)(h1:x<18446744073709551616):mC .u64 x 1=x%2:=by
 obtain⟨a,rfl⟩:=gw h0;have t1:(BitVec.ofInt 64 (a:Int)).toNat=a:=by simp[ev];omega
 have t2:(BitVec.ofInt 64 (1:Int)).toNat=2^1-1:=by decide
 have e:(BitVec.ofInt 64 (a:Int)&&& BitVec.ofInt 64 (1:Int)).toNat=a%2:=by rw[px,t1,t2,ch]
 show IntKind.wrap .u64 ((BitVec.ofInt 64 (a:Int)&&& BitVec.ofInt 64 (1:Int)).toNat:Int)=_;rw[e];have:IntKind.wrap .u64 ((a%2:Nat):Int)=jA ((a%2:Nat):Int):=rfl;rw[this,xA (by omega) (by omega)];omega
theorem rW (x:Int):Int.fdiv x (2^1)=x/2:=by
 rw[rC];have:(2:Int)^1=2:=by decide
 rw[this]
theorem ue {N:Nat}(hN:4294967400<N){R:Type}{d:Int}(hd:Dn d)(hd1: -4294967296≤d)(ho:Id d Oo)(x5 x8 x9 x10 x11 x12 x13:Int)(kr:Int→Int→Int→Int→Option R):∀(j n k:Nat) (G S:E→Prop) (ga gb gc sa sb sc:Int),k<2^j→j<n→k<18446744073709551616→gI d G ga gb gc→gI d S sa sb sc→
  ∃a b c,gI d (Pr d S (Pw d G k)) a b c∧Q88.l1000001 N n x5 (k:Int) d x8 x9 x10 x11 x12 x13 ga gb gc sa sb sc kr=kr a b c 0:=by
 intro j;induction j with
 |zero=>
  intro n k G S ga gb gc sa sb sc hk hn _ hG hS;obtain⟨n',rfl⟩:∃n',n=n'+1:=⟨n-1,by omega⟩
  have hk0:k=0:=by simpa using hk
  subst hk0;exact⟨sa,sb,sc,hS.turn hd ((hS.id hd).right hd),by rw[Q88.l1000001];rfl⟩
 |succ j ih=>
  intro n k G S ga gb gc sa sb sc hk hn h64 hG hS;obtain⟨n',rfl⟩:∃n',n=n'+1:=⟨n-1,by omega⟩
  by_cases hk0:k=0
  ·subst hk0;exact⟨sa,sb,sc,hS.turn hd ((hS.id hd).right hd),by rw[Q88.l1000001];rfl⟩
  ·have c0:((k:Int)==0)=false:=beq_eq_false_iff_ne.mpr (by omega);have hb:mC .u64 (k:Int) 1=((k%2:Nat):Int):=by rw[F4 (by omega) (by omega)];omega
   have hh:Int.fdiv (k:Int) (2^1)=((k/2:Nat):Int):=by rw[rW];omega
   have hp:2^(j+1)=2*2^j:=by rw[r9];omega
   obtain⟨g1,g2,g3,eg,rg⟩:=lR hN hd hd1 hG hG;have tw:=Pw.two hd G (k/2);rw[Q88.l1000001,c0,hb,hh];simp only[cond_false];by_cases ho2:k%2=1
   ·have c1:(((k%2:Nat):Int)==1)=true:=by rw[ho2];rfl
    obtain⟨s1,s2,s3,es,rs⟩:=lR hN hd hd1 hS hG;rw[c1];simp only[cond_true];rw[es];simp only[pC];rw[eg];simp only[pC];obtain⟨a,b,c,r,e⟩:=ih n' (k/2) (Pr d G G) (Pr d S G) g1 g2 g3 s1 s2 s3 (by omega) (by omega) (by omega) rg rs;refine⟨a,b,c,r.turn hd ?_,e⟩;have hk2:k=2*(k/2)+1:=by omega
    have h1:Cl d (Pr d (Pr d S G) (Pw d (Pr d G G) (k/2))) (Pr d S (Pr d G (Pw d G (2*(k/2))))):=
     (Mod.Hm.prod hd.m (Mod.Hm.refl _ _ _) tw).trans hd.m (Mod.Hm.assoc S G _)
    have h2:Cl d (Pr d S (Pr d G (Pw d G (2*(k/2))))) (Pr d S (Pw d G k)):=by have:=Pw.front hd ho (hG.id hd) (2*(k/2));rw[←hk2]at this;exact Mod.Hm.prod hd.m (Mod.Hm.refl _ _ _) this
    exact(h1.trans hd.m h2).symm
   ·have c1:(((k%2:Nat):Int)==1)=false:=beq_eq_false_iff_ne.mpr (by omega);rw[c1];simp only[cond_false];rw[eg];simp only[pC];obtain⟨a,b,c,r,e⟩:=ih n' (k/2) (Pr d G G) S g1 g2 g3 sa sb sc (by omega) (by omega) (by omega) rg hS;refine⟨a,b,c,r.turn hd ?_,e⟩;have hk2:2*(k/2)=k:=by omega
    rw[hk2]at tw;exact(Mod.Hm.prod hd.m (Mod.Hm.refl (sd d) (md d) S) tw).symm
theorem aT (N:Nat){d:Int}(hd:d<0)(hd1: -4294967296≤d)(hd4:d%4=0∨d%4=1):∃b c,Q83.f N d=some (1,b,c,0)∧gI d Oo 1 b c:=by
 obtain⟨a,b,c,e,h1,_,h3⟩:=nU N d;have he:e=0:=by
  have ne:d≤ -3:=by omega
  have w:aA (0-d)= -d:=by rw[fA (by omega) (by omega)];omega
  have a3:mC .i64 (-d) 3=(-d)%4:=yR (by omega) (by omega) 2 (by decide);unfold Q83.f at h1;rw[decide_eq_false (show ¬d> -3 by omega),decide_eq_false (show ¬d< -4294967296 by omega),w,a3]at h1;have c1:((-d)%4==1)=false:=beq_eq_false_iff_ne.mpr (by omega);have c2:((-d)%4==2)=false:=beq_eq_false_iff_ne.mpr (by omega);rw[c1,c2]at h1;simp only[cond_false,Option.some.injEq,Prod.mk.injEq]at h1;omega
 subst he;obtain⟨g1,g2,g3,g4,g5⟩:=h3 rfl;subst g1;refine⟨b,c,h1,⟨⟨by decide,⟨g3⟩,⟨by omega,by omega⟩,fun q=>?_,⟨1,0,0,by omega⟩⟩,?_⟩⟩
 ·unfold lC at q;rcases g2 with g2|g2<;>subst g2<;>omega
 ·exact Mod.Hm.same (fun z=>(I4 _ z).symm)
theorem mW.d4 {d a b c:Int}(h:mW d a b c):d%4=0∨d%4=1:=by
 have:=h.of.par;omega
theorem j5 {N:Nat}(hN:8589934600<N){d a b c:Int}(h:mW d a b c){X:E→Prop}(hX:Cl d (Pr d (La d a b) X) Oo)(iX:Id d X){n:Int}(n0: -9223372036854775808≤n)(n1:n<9223372036854775808):
  ∃x y z,Q88.f N a b c n=some (x,y,z,0)∧gI d (zp d (La d a b) X n) x y z:=by
 have dn:=h.dn;obtain⟨hd,hd1⟩:=h.d;obtain⟨ga,gb,gc,e1,r1,f1,_⟩:=oD hN h;obtain⟨ob,oc,eo,ro⟩:=aT N hd hd1 h.d4;have ho:Id d Oo:=ro.id dn;have c00:((0:Int) != 0)=false:=rfl;have run:∀(k:Nat) (G:E→Prop) (g1 g2 g3 x27 x28 x29 x30:Int),k<18446744073709551616→gI d G g1 g2 g3→∃x y z,gI d (Pw d G k) x y z∧
   (bif (k:Int)==0 then
    some ((1:Int),ob,oc,(0:Int))
   else
   bif (mC .u64 (k:Int) 1)==1 then
    (Q85.f N 1 ob oc g1 g2 g3 d).bind fun r43=>
    (Q85.f N g1 g2 g3 g1 g2 g3 d).bind fun r44=>
    Q88.l1000001 N N x27 (Int.fdiv (k:Int) (2^1)) d x28 x29 x30 0 0 0 r44.1 r44.2.1 r44.2.2 r43.1 r43.2.1 r43.2.2 (fun y46 y47 y48 y49=>some (y46,y47,y48,y49))
   else
   (Q85.f N g1 g2 g3 g1 g2 g3 d).bind fun r45=>
   Q88.l1000001 N N x27 (Int.fdiv (k:Int) (2^1)) d x28 x29 x30 0 0 0 r45.1 r45.2.1 r45.2.2 1 ob oc (fun y46 y47 y48 y49=>some (y46,y47,y48,y49)))=some (x,y,z,0):=by
  intro k G g1 g2 g3 x27 x28 x29 x30 hk hG;obtain⟨x,y,z,r,e⟩:=ue (N:=N) (by omega) dn hd1 ho x27 x28 x29 x30 0 0 0 (fun y46 y47 y48 y49=>some (y46,y47,y48,y49)) 64 (N+1) k G Oo g1 g2 g3 1 ob oc (by omega) (by omega) hk hG ro;refine⟨x,y,z,r.turn dn (Pw.id dn ho G k).symm,?_⟩;rw[Q88.l1000001]at e;exact e
 unfold Q88.f Q88.s1000001;rw[e1];simp only[pC,c00,cond_false];by_cases hn:n<0
 ·obtain⟨x,y,z,ei,ri,ci⟩:=xH hN (r1.red.val hd hd1);have vi:=ri.val hd hd1;rw[decide_eq_true hn];simp only[cond_true];rw[ei];simp only[pC];rw[dS N vi];simp only[pC];rw[eo];simp only[pC];have ek:jA (0-jA n)=(((-n).toNat:Nat):Int):=by rw[bG,bG];omega
  rw[ek];have hXi:Cl d (La d x y) X:=by refine th dn ci ?_ (ri.of.one dn) iX;exact(r1.cl.symm.left X).trans dn.m hX
  obtain⟨p,q,r,rr,er⟩:=run (-n).toNat (La d x y) x y z n a b c (by omega) ⟨ri,Mod.Hm.refl _ _ _⟩;refine⟨p,q,r,er,?_⟩;have:zp d (La d a b) X n=Pw d X (-n).toNat:=if_neg (by omega);rw[this];exact rr.turn dn (Pw.cl dn hXi.symm _)
 ·have v1:=r1.red.val hd hd1;rw[decide_eq_false hn];simp only[cond_false];rw[dS N v1];simp only[pC];rw[eo];simp only[pC];have ek:jA n=((n.toNat:Nat):Int):=by rw[xA (by omega) (by omega)];omega
  rw[ek];obtain⟨p,q,r,rr,er⟩:=run n.toNat (La d a b) ga gb gc n a b c (by omega) r1;refine⟨p,q,r,er,?_⟩;have:zp d (La d a b) X n=Pw d (La d a b) n.toNat:=if_pos (by omega);rw[this];exact rr
open Go.Proofs.YtjpdjdhdchjcgaaGreat.NatL (ab cB wA uB uE GT fB iC eC lB oJ gJ tA tB xA bG yD mE rC)
theorem dV (N n:Nat){R:Type}(K0:Int→Option R){u v:Int}(u0:0≤u)(v0:0<v):Q66.l3 N (n+1) u v K0=Q66.l3 N n v (u%v) K0:=by
 rw[Q66.l3];have c1:decide (v>0)=true:=decide_eq_true (by omega);have c2:(!(v==0))=true:=by have:(v==0)=false:=beq_eq_false_iff_ne.mpr (by omega);rw[this];rfl
 rw[c1,c2,yD u0];rfl
theorem cV (N:Nat){R:Type}(K0:Int→Option R):∀(n:Nat) (u v:Int),0≤u→0≤v→v<n→Q66.l3 N n u v K0=K0 (fB u v):=by
 intro n;induction n with
 |zero=>intro u v _ _ h;omega
 |succ n ih=>
  intro u v u0 v0 hn;by_cases hv:v=0
  ·subst hv;rw[Q66.l3,decide_eq_false (by omega),NatL.mK u0];rfl
  ·have d2:=dQ u hv;have d3:=xK u (show 0<v by omega);rw[dV N n K0 u0 (by omega),ih v (u%v) v0 d2 (by omega),NatL.fP u0 (by omega)]
theorem xl {x:Int}(h:ab x≤9223372036854775807):tv x (aA (0-x))=ab x:=by
 have:aA (0-x)= -x:=by rw[fA (by rcases cB x with⟨c1,c2⟩|⟨c1,c2⟩<;>omega) (by rcases cB x with⟨c1,c2⟩|⟨c1,c2⟩<;>omega)];omega
 rw[this];unfold tv;rcases cB x with⟨c1,c2⟩|⟨c1,c2⟩<;>split<;>omega
theorem vH {N:Nat}{a b:Int}(ha:ab a≤9223372036854775807)(hb:ab b≤4294967296)(hN:4294967400<N):Q66.f N a b=some (fB a b):=by
 unfold Q66.f;rw[xl ha,xl (by omega),cV N _ N (ab a) (ab b) (wA a) (wA b) (by omega),NatL.kS]
theorem s9 {N:Nat}{a b:Int}(ha:ab a≤4294967295)(hb:ab b≤9223372036854775807)(hN:4294967400<N):Q66.f N a b=some (fB a b):=by
 by_cases h:b=0
 ·exact vH (by omega) (by rw[h];decide) hN
 ·have bp:0<ab b:=by have:=wA b;have:ab b≠0:=fun q=>h (uE.mp q);omega
  have a0:=wA a;obtain⟨n,rfl⟩:∃n,N=n+1:=⟨N-1,by omega⟩
  have d2:=dQ (ab a) (show ab b≠0 by omega);have d3:ab a%ab b≤ab a:=by have:=l0 (ab a) (ab b);have:=hU (hE bp) (eh a0 (hE bp));omega
  unfold Q66.f;rw[xl (by omega),xl hb,dV (n+1) n _ a0 bp,cV (n+1) _ n (ab b) _ (hE bp) d2 (by omega),NatL.fP a0 bp,NatL.kS]
theorem j6 {N:Nat}(hN:4294967400<N){a b c:Int}(h:ke a b c):Q74.f N a b c=some (fB (fB a b) c):=by
 have ha:ab a≤1073741824:=by obtain⟨h1,_⟩:=h;rcases cB a with⟨c1,c2⟩|⟨c1,c2⟩<;>omega
 have hb:ab b≤1073741824:=by obtain⟨_,h1,_⟩:=h;rcases cB b with⟨c1,c2⟩|⟨c1,c2⟩<;>omega
 have hc:ab c≤1073741824:=by obtain⟨_,_,h1⟩:=h;rcases cB c with⟨c1,c2⟩|⟨c1,c2⟩<;>omega
 have g0:=iC a b;have gle:fB a b≤1073741824:=by
  by_cases h:b=0
  ·subst h;rw[oJ];exact ha
  ·have:=b8 (by have:=wA b;have:ab b≠0:=fun q=>h (uE.mp q);omega) (gJ (lB a b));omega
 unfold Q74.f;rw[zY,decide_eq_true h];simp only[pC,uc,cond_false];rw[vH (by omega) (by omega) hN];simp only[pC];rw[vH (by rw[uB g0];omega) (by omega) hN];rfl
theorem rK {N:Nat}(hN:8589934600<N)(a b c:Int):∃x y z e,Q84.f N a b c=some (x,y,z,e)∧Q97.f N a b c=some (x,y,z,e)∧(e=0→zJ a b c∧kX a b c):=by
 obtain⟨a',b',c',p,q,r,s,e,h1,h2,_⟩:=bO hN a b c;unfold Q84.f Q97.f;rw[h1,h2];simp only[pC];by_cases he:e=0
 ·have hf:zJ a b c:=by
   rcases jG N a b c with⟨h3,_⟩|⟨h3,_⟩
   ·exact h3
   ·obtain⟨e',h4,_,h5⟩:=z6 (N:=N) h3;rw[h5]at h1;simp only[Option.some.injEq,Prod.mk.injEq]at h1;omega
  have c0:(e != 0)=false:=by rw[he];rfl
  rw[c0];simp only[cond_false];rw[sQ (by omega) hf.inb,j6 (by omega) hf.inb];simp only[pC];by_cases h6:fB (fB a b) c=1
  ·have c1:(fB (fB a b) c != 1)=false:=by rw[h6];rfl
   rw[c1];exact⟨a',b',c',0,rfl,rfl,fun _=>⟨hf,(vM a b c).mpr h6⟩⟩
  ·have c1:(fB (fB a b) c != 1)=true:=bne_iff_ne.mpr h6;rw[c1];exact⟨0,0,0,81,rfl,rfl,fun h=>absurd h (by decide)⟩
 ·have c0:(e != 0)=true:=bne_iff_ne.mpr he;rw[c0];exact⟨a',b',c',e,rfl,rfl,fun h=>absurd h he⟩
theorem qR (N:Nat){a m:Int}(m0:0<m)(m1:m<9223372036854775808):Q65.f N a m=some (a%m):=by
 unfold Q65.f;have c1:(!(m==0))=true:=by have:(m==0)=false:=beq_eq_false_iff_ne.mpr (by omega);rw[this];rfl
 rw[c1];simp only[cond_true];have hf:=fl (x:=a) m0;have e0:=dQ a (show m≠0 by omega);have e1:=xK a m0;by_cases h:Int.tmod a m<0
 ·rw[decide_eq_true h];obtain⟨_,q⟩:=hf.1 h;simp only[cond_true];rw[←q,fA (by omega) (by omega)]
 ·rw[decide_eq_false h];obtain⟨_,q⟩:=hf.2 h;simp only[cond_false];rw[q]
theorem vn (N:Nat){R:Type}{m:Int}(m0:0<m)(m1:m≤4611686018427387904)(K0:Int→Option R):∀(j n:Nat) (a b s:Int),0≤a→a<m→0≤b→b<2^j→j<n→b<9223372036854775808→0≤s→s<m→
  Q90.l2 N n a b m s K0=K0 ((s+a*b)%m):=by
 have cz:(!(m==0))=true:=by have:(m==0)=false:=beq_eq_false_iff_ne.mpr (by omega);rw[this];rfl
 intro j;induction j with
 |zero=>
  intro n a b s a0 a1 b0 b1 hn _ s0 s1;obtain⟨n',rfl⟩:∃n',n=n'+1:=⟨n-1,by omega⟩
  have hb:b=0:=by simp at b1;omega
  subst hb;rw[Q90.l2,qa,py,il s0 s1];rfl
 |succ j ih=>
  intro n a b s a0 a1 b0 b1 hn b2 s0 s1;obtain⟨n',rfl⟩:∃n',n=n'+1:=⟨n-1,by omega⟩
  by_cases hb:b=0
  ·subst hb;rw[Q90.l2,qa,py,il s0 s1];rfl
  ·have hp:(2:Int)^(j+1)=2*2^j:=by rw[Int.pow_succ];omega
   have w1:Int.tmod (aA (a+a)) m=(a+a)%m:=by rw[fA (by omega) (by omega),yD (by omega)]
   have w2:Int.tmod (aA (s+a)) m=(s+a)%m:=by rw[fA (by omega) (by omega),yD (by omega)]
   have w3:aA (Int.tdiv b 2)=b/2:=by rw[mE b0,fA (by omega) (by omega)]
   have n0:=dQ (a+a) (show m≠0 by omega);have n1:=xK (a+a) m0;have k0:=dQ (s+a) (show m≠0 by omega);have k1:=xK (s+a) m0;have Iq:∀x y:Int,x%m=y%m→∀z,(x+z)%m=(y+z)%m:=fun x y h z=>by rw[ew,h,←ew]
   have dbl:((a+a)%m*(b/2))%m=(2*a*(b/2))%m:=by
    rw[cu,c9 _ (fo _),←cu];have:(a+a)*(b/2)=2*a*(b/2):=by grind
    rw[this]
   rw[Q90.l2,decide_eq_true (show b>0 by omega),cz,yD b0,w1,w2,w3];simp only[cond_true];by_cases ho:b%2=1
   ·have c1:(b%2==1)=true:=beq_iff_eq.mpr ho;rw[c1];simp only[cond_true];rw[ih n' ((a+a)%m) (b/2) ((s+a)%m) n0 n1 (by omega) (by omega) (by omega) (by omega) k0 k1];congr 1;have e1:s+a*b=s+a+2*a*(b/2):=by
     have:b=2*(b/2)+1:=by omega
     have e:a*b=a*(2*(b/2)+1):=by rw[←this]
     rw[e];grind
    rw[e1,ew,dbl,c9 _ (fo _),←ew]
   ·have c1:(b%2==1)=false:=beq_eq_false_iff_ne.mpr ho;rw[c1];simp only[cond_false];rw[ih n' ((a+a)%m) (b/2) s n0 n1 (by omega) (by omega) (by omega) (by omega) s0 s1];congr 1;have e1:s+a*b=s+2*a*(b/2):=by
     have:b=2*(b/2):=by omega
     have e:a*b=a*(2*(b/2)):=by rw[←this]
     rw[e];grind
    rw[e1,ew,dbl,←ew]
theorem pt {N:Nat}(hN:100<N){a b m:Int}(m0:0<m)(m1:m≤4611686018427387904)(a0:0≤a)(a1:a<m)(b0:0≤b)(b1:b<m):Q90.f N a b m=some (a*b%m):=by
 unfold Q90.f;rw[vn N m0 m1 _ 63 N a b 0 a0 a1 b0 (by
  have:(2:Int)^63=9223372036854775808:=by decide
  omega) (by omega) (by omega) (by omega) (by omega),vx]
theorem Cw (N:Nat){R:Type}{c m:Int}(hm:m≤4000000000000000000)(K0:Int→Int→Option R):∀(n:Nat) (r s u v w z:Int),NatL.qG c m r s u v w z→s<n→∃u' w',u'*c+w'*m=fB r s∧2*ab u'≤m∧
  Q91.l5 N n m r s u v K0=K0 m u':=by
 intro n;induction n with
 |zero=>intro r s u v w z h hn;have:=h.s0;omega
 |succ n ih=>
  intro r s u v w z h hn;by_cases hs:s=0
  ·subst hs;refine⟨u,w,?_,h.half,?_⟩
   ·rw[NatL.mK (hE h.r0)];exact h.er.symm
   ·rw[Q91.l5];rfl
  ·have g:=h.step hs;have s0:=h.s0;have r0:=h.r0;have sr:=h.sr;have rm:=h.rm;have g1:=g.sr;obtain⟨b1,b2⟩:=h.qv hs;have gv:=g.vm;have q0:0≤r/s:=eh (hE r0) s0;have q1:r/s≤r:=cy _ (hE r0);have d1:=l0 r s;have d2:=dQ r hs;have sc:r/s*s=s*(r/s):=kl _ _;have w1:aA (Int.tdiv r s)=r/s:=by rw[mE (hE r0),fA (by omega) (by omega)]
   have w2:aA (r/s*s)=r/s*s:=fA (by omega) (by omega);have w3:aA (r-r/s*s)=r%s:=by rw[fA (by omega) (by omega)];omega
   have w4:aA (r/s*v)=r/s*v:=fA (by rcases cB (r/s*v)with⟨c1,c2⟩|⟨c1,c2⟩<;>omega) (by rcases cB (r/s*v)with⟨c1,c2⟩|⟨c1,c2⟩<;>omega);have w5:aA (u-r/s*v)=u-r/s*v:=fA (by rcases cB (u-r/s*v)with⟨c1,c2⟩|⟨c1,c2⟩<;>omega) (by rcases cB (u-r/s*v)with⟨c1,c2⟩|⟨c1,c2⟩<;>omega);have cz:(!(s==0))=true:=by have:(s==0)=false:=beq_eq_false_iff_ne.mpr hs;rw[this];rfl
   obtain⟨u',w',e1,e2,e4⟩:=ih s (r%s) v (u-r/s*v) z (w-r/s*z) g (by omega);refine⟨u',w',by rw[e1];exact h.gcd hs,e2,?_⟩;rw[Q91.l5,decide_eq_true (show s>0 by omega),cz,w1,w2,w3,w4,w5];exact e4
theorem o7 {N:Nat}(hN:4294967400<N){a m:Int}(a0:0<a)(a1:a≤37838)(m0:0<m)(m1:m≤4000000000000000000)(hg:fB a m=1):∃x k,Q93.f N a m=some x∧0≤x∧x<m∧a*x=1+m*k:=by
 have e0:=dQ a (show m≠0 by omega);have e1:=xK a m0;have e2:a%m≤a:=by have:=l0 a m;have:=hU (hE m0) (eh (hE a0) (hE m0));omega
 have hc:fB (a%m) m=1:=by have:=NatL.fP (hE a0) m0;rw[hg]at this;rw[←this];unfold fB;rw[Int.gcd_comm]
 have h:=NatL.qG.first (c:=a) m0;obtain⟨u,w,k1,k2,k3⟩:=Cw N (c:=a) m1 (fun y11 y12=>(Q65.f N y12 y11).bind fun r13=>some r13) N m (a%m) 0 1 1 (-(a/m)) h (by omega);have d1:=l0 u m;have hk:u*a+w*m=1:=by rw[k1,NatL.fP (hE a0) m0,hg]
 refine⟨u%m, -(w+u/m*a),?_,dQ u (by omega),xK u m0,?_⟩
 ·have c1:((1:Int) != 1)=false:=rfl;unfold Q93.f Q92.f Q91.f;rw[decide_eq_false (show ¬m<1 by omega),decide_eq_false (show ¬m>4611686018427387904 by omega),qR N m0 (by omega)];simp only[cond_false,pC];rw[s9 (by rw[uB e0];omega) (by rw[uB (by omega)];omega) hN,hc];simp only[pC,c1,cond_false];rw[k3,qR N m0 (by omega)];rfl
 ·have:u%m=u-m*(u/m):=by omega
  rw[this];have e3:a*(u-m*(u/m))=u*a-m*(u/m*a):=by grind
  have e4:m* -(w+u/m*a)= -(w*m)-m*(u/m*a):=by grind
  rw[e3,e4];omega
open Go.Proofs.YtjpdjdhdchjcgaaGreat.NatL (ab cB wA uB uE GT fB iC eC lB oJ gJ tA tB xA bG yD mE rC sg pH)
def nQ (x z:Int):Prop:=∃p q,x*p+z*q=1
theorem eL (x z:Int):nQ x z↔fB x z=1:=by
 constructor
 ·rintro⟨p,q,h⟩;have d:fB x z∣1:=by
   rw[←h];exact b9 (hT (eC x z) (n3 _ _)) (hT (lB x z) (n3 _ _))
  have:=b8 (by decide) d;have h0:=iC x z;have:fB x z≠0:=fun e=>by have h1:=eC x z;have h2:=lB x z;rw[e]at h1 h2;rw[cx.mp h1,cx.mp h2]at h;omega
  omega
 ·intro h;obtain⟨x',y',h'⟩:=qy x z;exact⟨x',y',by rw[h',h]⟩
theorem nQ.symm {x z:Int}(h:nQ x z):nQ z x:=by
 obtain⟨p,q,h⟩:=h;exact⟨q,p,by omega⟩
theorem nQ.mul {x y z:Int}(h:nQ x z)(k:nQ y z):nQ (x*y) z:=by
 obtain⟨p,q,h⟩:=h;obtain⟨r,s,k⟩:=k;refine⟨p*r,x*p*s+q*y*r+z*q*s,?_⟩;have:x*y*(p*r)+z*(x*p*s+q*y*r+z*q*s)=(x*p+z*q)*(y*r+z*s):=by grind
 rw[this,h,k];decide
theorem nQ.dvd_left {x y z:Int}(h:nQ x z)(d:y∣x):nQ y z:=by
 obtain⟨p,q,h⟩:=h;obtain⟨k,rfl⟩:=d;exact⟨k*p,q,by rw[←h];grind⟩
theorem nQ.add {x z:Int}(h:nQ x z)(k:Int):nQ (x+z*k) z:=by
 obtain⟨p,q,h⟩:=h;exact⟨p,q-k*p,by rw[←h];grind⟩
theorem nQ.cancel {x z w:Int}(h:nQ x z)(d:x∣z*w):x∣w:=by
 obtain⟨p,q,h⟩:=h;obtain⟨k,hk⟩:=d;refine⟨p*w+k*q,?_⟩;have:w=(x*p+z*q)*w:=by rw[h];omega
 have e:x*(p*w+k*q)=x*p*w+(x*k)*q:=by grind
 rw[e,←hk];have e2:(x*p+z*q)*w=x*p*w+z*w*q:=by grind
 omega
theorem split:∀(k:Nat) (n a:Int),0<n→n≤k→∃n0 n1,0<n0∧0<n1∧n=n0*n1∧nQ n0 a∧nQ n0 n1∧∀D,1<D→D∣n1→¬nQ D a:=by
 intro k;induction k with
 |zero=>intro n a h h2;omega
 |succ k ih=>
  intro n a hn hk;by_cases h:nQ n a
  ·exact⟨n,1,hn,by decide,by omega,h,⟨0,1,by omega⟩,fun D h1 h2=>by have:=b8 (by decide) h2;omega⟩
  ·have g1:=eC n a;have g2:=lB n a;have g0:=iC n a;have gn:fB n a≠1:=fun e=>h ((eL n a).mpr e);generalize fB n a=g at*;obtain⟨n',rfl⟩:=g1;have gz:g≠0:=fun e=>by subst e;omega
   have np:0<n':=by
    rcases hW 0 n' with q|q
    ·exact q
    ·have:=hU (show 0≤g by omega) (show 0≤ -n' by omega);rw[bc]at this;omega
   have nlt:n'<g*n':=by have:=yK (show 2≤g by omega) (hE np);omega
   obtain⟨n0,n1,p0,p1,e,c1,c2,c3⟩:=ih n' a np (by omega);have cg:nQ n0 g:=(c1.symm.dvd_left g2).symm;refine⟨n0,g*n1,p0,iv (by omega) p1,by rw[e];grind,c1,(cg.symm.mul c2.symm).symm,fun D h1 h2 hc=>?_⟩;have cD:nQ D g:=(hc.symm.dvd_left g2).symm;exact c3 D h1 (cD.cancel h2) hc
theorem jc {A B C m:Int}(hp:kX A B C)(hm:0<m):∃x y,1≤x∧1≤y∧x+y≤m+1∧nQ x y∧nQ (tA A B C x y) m:=by
 obtain⟨m0,n,p0,pn,e1,c1,c2,c3⟩:=split m.toNat m A hm (by omega);obtain⟨m1,m2,p1,p2,e2,c4,c5,c6⟩:=split n.toNat n C pn (by omega);have d1:m1∣n:=⟨m2,e2⟩
 have d2:m2∣n:=⟨m1,by rw[e2];exact kl _ _⟩
 have c7:nQ m1 m0:=c2.symm.dvd_left d1;have c8:nQ m2 m0:=c2.symm.dvd_left d2;refine⟨m1,m0,by omega,by omega,?_,c7,?_⟩
 ·have h1:=hU (show 0≤m0-1 by omega) (show 0≤m1-1 by omega);have h2:(m0-1)*(m1-1)=m0*m1-m0-m1+1:=by grind
  have h3:m=m0*m1*m2:=by rw[e1,e2];grind
  have h4:=aE (show 1≤m2 by omega) (hE (iv p0 p1));omega
 ·have k0:nQ (tA A B C m1 m0) m0:=by
   have h:=((c1.symm.mul (c7.mul c7)).add (B*m1+C*m0))
   have e:A*(m1*m1)+m0*(B*m1+C*m0)=tA A B C m1 m0:=by unfold tA;grind
   rw[e]at h;exact h
  have k1:nQ (tA A B C m1 m0) m1:=by
   have h:=((c4.symm.mul (c7.symm.mul c7.symm)).add (B*m0+A*m1))
   have e:C*(m0*m0)+m1*(B*m0+A*m1)=tA A B C m1 m0:=by unfold tA;grind
   rw[e]at h;exact h
  have k2:nQ (tA A B C m1 m0) m2:=by
   rw[eL];have g1:=eC (tA A B C m1 m0) m2;have g2:=lB (tA A B C m1 m0) m2;have g0:=NatL.lS (a:=tA A B C m1 m0) (show m2≠0 by omega);by_cases hD:fB (tA A B C m1 m0) m2=1
   ·exact hD
   ·exfalso;generalize fB (tA A B C m1 m0) m2=D at*;have n1:=c3 D (by omega) (hT g2 d2);have q1:=eC D A;have q2:=lB D A;have q0:fB D A≠1:=fun e=>n1 ((eL _ _).mpr e);have qp:0<fB D A:=by
     have:=iC D A;have:fB D A≠0:=fun e=>by rw[e]at q1;have:=cx.mp q1;omega
     omega
    generalize fB D A=D1 at*;have n2:=c6 D1 (by omega) (hT q1 g2);have r1:=eC D1 C;have r2:=lB D1 C;have r0:fB D1 C≠1:=fun e=>n2 ((eL _ _).mpr e);have rp:0<fB D1 C:=by
     have:=iC D1 C;have:fB D1 C≠0:=fun e=>by rw[e]at r1;have:=cx.mp r1;omega
     omega
    generalize fB D1 C=D2 at*;have hA:D2∣A:=hT r1 q2;have hv:D2∣tA A B C m1 m0:=hT (hT r1 q1) g1;have h2:D2∣m2:=hT (hT r1 q1) g2;have x1:nQ D2 m1:=(c5.symm).dvd_left h2;have x2:nQ D2 m0:=c8.dvd_left h2;have hB:D2∣m1*(m0*B):=by
     have e:m1*(m0*B)=tA A B C m1 m0-A*(m1*m1)-C*(m0*m0):=by unfold tA;grind
     rw[e];exact wz (wz hv (hT hA (n3 _ _))) (hT r2 (n3 _ _))
    have hB':=x2.cancel (x1.cancel hB);obtain⟨p,q,r,h⟩:=hp;have:D2∣1:=by rw[←h];exact b9 (b9 (hT hA (bs _ _)) (hT hB' (bs _ _))) (hT r2 (bs _ _))
    have:=b8 (by decide) this;omega
  have:m=m0*(m1*m2):=by rw[e1,e2]
  rw[this];exact((k0.symm.mul (k1.symm.mul k2.symm))).symm
def ia (A B C m s x:Int):Prop:=fB x (s-x)=1∧fB (tA A B C x (s-x)) m=1
structure Hq (A B C x y a b:Int):Prop where
 ex:∃u v,x*u-v*y=1∧a=tA A B C x y∧b=tB A B C x v y u
 small: -3200000000000000000≤b∧b≤3200000000000000000
 le:a≤1600000000000000000
theorem vr {A B C x y:Int}(hA:0<A∧A≤37838)(hB: -37838≤B∧B≤37838)(hC:0≤C∧C≤1073741824)(hx:0≤x∧x≤37840)(hy:0≤y∧y≤37840):
  aA (aA (aA (aA (A*x)*x)+aA (aA (B*x)*y))+aA (aA (C*y)*y))=tA A B C x y∧ab (tA A B C x y)≤1600000000000000000:=by
 have m1:=rD (x:=A) (X:=37840) (y:=x) (Y:=37840) (by omega) (by omega) (by omega) (by omega);have m2:=rD (x:=B) (X:=37840) (y:=x) (Y:=37840) (by omega) (by omega) (by omega) (by omega);have m3:=rD (x:=C) (X:=1073741824) (y:=y) (Y:=37840) (by omega) (by omega) (by omega) (by omega);have k1:(37840:Int)*37840=1431865600:=by decide
 have k2:(1073741824:Int)*37840=40630390620160:=by decide
 have m4:=rD (x:=A*x) (X:=1431865600) (y:=x) (Y:=37840) (by omega) (by omega) (by omega) (by omega);have m5:=rD (x:=B*x) (X:=1431865600) (y:=y) (Y:=37840) (by omega) (by omega) (by omega) (by omega);have m6:=rD (x:=C*y) (X:=40630390620160) (y:=y) (Y:=37840) (by omega) (by omega) (by omega) (by omega);have k3:(1431865600:Int)*37840=54181794304000:=by decide
 have k4:(40630390620160:Int)*37840=1537453981066854400:=by decide
 rw[fA (n:=A*x) (by omega) (by omega),fA (n:=A*x*x) (by omega) (by omega),fA (n:=B*x) (by omega) (by omega),fA (n:=B*x*y) (by omega) (by omega),fA (n:=C*y) (by omega) (by omega),fA (n:=C*y*y) (by omega) (by omega),fA (n:=A*x*x+B*x*y) (by omega) (by omega),fA (by omega) (by omega)];unfold tA;refine⟨rfl,?_⟩;rcases cB (A*x*x+B*x*y+C*y*y)with⟨c1,c2⟩|⟨c1,c2⟩<;>omega
theorem Ba {A B C x y u v:Int}(hA:0<A∧A≤37838)(hB: -37838≤B∧B≤37838)(hC:0≤C∧C≤1073741824)(hx:0≤x∧x≤37840)(hy:0≤y∧y≤37840)(hu: -37841≤u∧u≤37841)(hv: -37841≤v∧v≤37841):
  aA (aA (aA (aA (aA (2*A)*x)*v)+aA (B*aA (aA (x*u)+aA (v*y))))+aA (aA (aA (2*C)*y)*u))=tB A B C x v y u∧ -3200000000000000000≤tB A B C x v y u∧tB A B C x v y u≤3200000000000000000:=by
 have m1:=rD (x:=2*A) (X:=75676) (y:=x) (Y:=37840) (by omega) (by omega) (by omega) (by omega);have k1:(75676:Int)*37840=2863579840:=by decide
 have m2:=rD (x:=2*A*x) (X:=2863579840) (y:=v) (Y:=37841) (by omega) (by omega) (by omega) (by omega);have k2:(2863579840:Int)*37841=108360724725440:=by decide
 have m3:=rD (x:=x) (X:=37840) (y:=u) (Y:=37841) (by omega) (by omega) (by omega) (by omega);have k3:(37840:Int)*37841=1431903440:=by decide
 have m4:=rD (x:=v) (X:=37841) (y:=y) (Y:=37840) (by omega) (by omega) (by omega) (by omega);have k4:(37841:Int)*37840=1431903440:=by decide
 have m5:=rD (x:=B) (X:=37838) (y:=x*u+v*y) (Y:=2863806880) (by omega) (by omega) (by omega) (by omega);have k5:(37838:Int)*2863806880=108360724725440:=by decide
 have m6:=rD (x:=2*C) (X:=2147483648) (y:=y) (Y:=37840) (by omega) (by omega) (by omega) (by omega);have k6:(2147483648:Int)*37840=81260781240320:=by decide
 have m7:=rD (x:=2*C*y) (X:=81260781240320) (y:=u) (Y:=37841) (by omega) (by omega) (by omega) (by omega);have k7:(81260781240320:Int)*37841=3074989222914949120:=by decide
 rw[fA (n:=2*A) (by omega) (by omega),fA (n:=2*A*x) (by omega) (by omega),fA (n:=2*A*x*v) (by omega) (by omega),fA (n:=x*u) (by omega) (by omega),fA (n:=v*y) (by omega) (by omega),fA (n:=x*u+v*y) (by omega) (by omega),fA (n:=B*(x*u+v*y)) (by omega) (by omega),fA (n:=2*C) (by omega) (by omega),fA (n:=2*C*y) (by omega) (by omega),fA (n:=2*C*y*u) (by omega) (by omega),fA (n:=2*A*x*v+B*(x*u+v*y)) (by omega) (by omega),fA (by omega) (by omega)];have e:tB A B C x v y u=2*A*x*v+B*(x*u+v*y)+2*C*y*u:=by unfold tB;grind
 rw[e];exact⟨rfl,by omega,by omega⟩
theorem vo {x y u q:Int}(hx:0≤x∧x≤37840)(hy:0≤y∧y≤37840)(h:GT x y 1 u q):(-37841≤u∧u≤37841)∧(-37841≤q∧q≤37841):=by
 by_cases h0:y=0
 ·obtain⟨h1,h2⟩:=h.bz h0;subst h2;rcases NatL.dI x with⟨s1,s2⟩|⟨s1,s2⟩|⟨s1,s2⟩<;>rw[s2]at h1<;>omega
 ·obtain⟨h1,h2⟩:=h.lo h0;have hs:=h.sum;rw[Int.ediv_one,uB hy.1]at h2;have m0:=hU hx.1 h1;have m1:=aE (show u≤y by omega) hx.1;have xy:x*y=y*x:=kl _ _;refine⟨by omega,?_,?_⟩
  ·rcases hW q (-37841)with k|k
   ·exfalso;have:=aE (show 37842≤ -q by omega) (show 0≤y by omega);rw[bc]at this;have:=aE (show x≤37840 by omega) (show 0≤y by omega);omega
   ·exact k
  ·rcases hW 37841 q with k|k
   ·exfalso;have:=aE (show 37842≤q by omega) (show 0≤y by omega);omega
   ·exact k
theorem tf {N:Nat}(hN:4294967400<N){R:Type}{A B C m s:Int}(hA:0<A∧A≤37838)(hB: -37838≤B∧B≤37838)(hC:0≤C∧C≤1073741824)(hm:0<m∧m≤37838)(hs:1≤s∧s≤37840)(x19 x20 x21:Int)(k2:Int→Int→Int→Int→Int→Int→Int→Int→Option R)(kr:Int→Int→Int→Option R):∀(n:Nat) (x:Int),0≤x→x≤s+1→s+1-x<n→
  (∃x0 a b c,0≤x0∧x0≤s∧ia A B C m s x0∧Hq A B C x0 (s-x0) a b∧Q94.l4 N n m s x A B C x19 x20 x21 k2 kr=kr a b c)∨
  ((∀x0,x≤x0→x0≤s→¬ia A B C m s x0)∧Q94.l4 N n m s x A B C x19 x20 x21 k2 kr=k2 m s A B C x19 x20 x21):=by
 intro n;induction n with
 |zero=>intro x _ _ h;omega
 |succ n ih=>
  intro x x0 x1 hn;rw[Q94.l4];by_cases h:x≤s
  ·have w1:aA (s-x)=s-x:=fA (by omega) (by omega);have w2:aA (x+1)=x+1:=fA (by omega) (by omega);have next:¬ia A B C m s x→(∃x0 a b c,0≤x0∧x0≤s∧ia A B C m s x0∧Hq A B C x0 (s-x0) a b∧Q94.l4 N n m s (x+1) A B C x19 x20 x21 k2 kr=kr a b c)∨
     ((∀x0,x≤x0→x0≤s→¬ia A B C m s x0)∧Q94.l4 N n m s (x+1) A B C x19 x20 x21 k2 kr=k2 m s A B C x19 x20 x21):=fun hg=>by
    rcases ih (x+1) (by omega) (by omega) (by omega)with h1|⟨h1,h2⟩
    ·exact Or.inl h1
    ·refine Or.inr ⟨fun z h3 h4=>?_,h2⟩;by_cases hz:z=x
     ·subst hz;exact hg
     ·exact h1 z (by omega) h4
   obtain⟨v1,v2⟩:=vr (A:=A) (B:=B) (C:=C) (x:=x) (y:=s-x) hA hB hC (by omega) (by omega);rw[decide_eq_true h,w1,w2];simp only[cond_true];rw[v1,vH (by rw[uB x0];omega) (by rw[uB (by omega)];omega) hN];simp only[pC];by_cases g1:fB x (s-x)=1
   ·have c1:(fB x (s-x) != 1)=false:=by rw[g1];rfl
    rw[c1];simp only[cond_false];rw[vH (by omega) (by rw[uB (by omega)];omega) hN];simp only[pC];by_cases g2:fB (tA A B C x (s-x)) m=1
    ·have c2:(fB (tA A B C x (s-x)) m != 1)=false:=by rw[g2];rfl
     rw[c2];simp only[cond_false];have zx:=NatL.lO (n:=x) (by omega) (by omega);have zy:=NatL.lO (n:=s-x) (by omega) (by omega);obtain⟨g,u,q,hgt,hr⟩:=NatL.Jw (N:=N) (by omega) zx zy;have hg1:g=1:=by rw[hgt.eg,g1]
     subst hg1;obtain⟨su,sq⟩:=vo (x:=x) (y:=s-x) (by omega) (by omega) hgt;have lu:=NatL.dN (NatL.lO (n:=u) (by omega) (by omega));have lq:=NatL.dN (NatL.lO (n:=q) (by omega) (by omega));rw[NatL.I8 (by omega) (by omega) (by omega)];simp only[pC];rw[NatL.I8 (by omega) (by omega) (by omega)];simp only[pC];rw[hr];simp only[pC];rw[NatL.J9 (by omega) lu (by omega),if_pos (by omega)];simp only[pC];rw[NatL.Ix (by omega) lq (by omega)];simp only[pC];rw[NatL.J9 (by omega) lq.neg (by omega),if_pos (by omega)];simp only[pC];obtain⟨t1,t2,t3⟩:=Ba (A:=A) (B:=B) (C:=C) (x:=x) (y:=s-x) (u:=u) (v:= -q) hA hB hC (by omega) (by omega) su (by omega);rw[t1];refine Or.inl ⟨x,tA A B C x (s-x),tB A B C x (-q) (s-x) u,_,x0,h,⟨g1,g2⟩,⟨⟨u, -q,?_,rfl,rfl⟩,⟨t2,t3⟩,?_⟩,rfl⟩
     ·have:=hgt.sum;have e: -q*(s-x)= -((s-x)*q):=by grind
      omega
     ·rcases cB (tA A B C x (s-x))with⟨c1,c2⟩|⟨c1,c2⟩<;>omega
    ·have c2:(fB (tA A B C x (s-x)) m != 1)=true:=bne_iff_ne.mpr g2;rw[c2];exact next (fun hg=>g2 hg.2)
   ·have c1:(fB x (s-x) != 1)=true:=bne_iff_ne.mpr g1;rw[c1];exact next (fun hg=>g1 hg.1)
  ·rw[decide_eq_false h];exact Or.inr ⟨fun z h3 h4=>by omega,rfl⟩
theorem ud {N:Nat}(hN:4294967400<N){R:Type}{A B C m S X:Int}(hA:0<A∧A≤37838)(hB: -37838≤B∧B≤37838)(hC:0≤C∧C≤1073741824)(hm:0<m∧m≤37838)(hS:S≤37840)(hX:0≤X∧X≤S)(hg:ia A B C m S X)(x10 x11 x12:Int)(kr:Int→Int→Int→Option R):∀(n:Nat) (s:Int),1≤s→s≤S→S-s<n→
  ∃x0 s0 a b c,0≤x0∧x0≤s0∧1≤s0∧ia A B C m s0 x0∧Hq A B C x0 (s0-x0) a b∧Q94.l3 N n m s A B C x10 x11 x12 kr=kr a b c:=by
 intro n;induction n with
 |zero=>intro s _ _ h;omega
 |succ n ih=>
  intro s s1 sS hn;rw[Q94.l3];rcases tf hN hA hB hC hm (s:=s) (by omega) x10 x11 x12 (fun y41 y42 y43 y44 y45 y46 y47 y48=>
    Q94.l3 N n y41 (aA (y42+1)) y43 y44 y45 y46 y47 y48 kr)
   (fun y49 y50 y51=>
    kr y49 y50 y51) N 0 (by omega) (by omega) (by omega)with⟨x0,a,b,c,h1,h2,h3,h4,h5⟩|⟨h1,h2⟩
  ·exact⟨x0,s,a,b,c,h1,h2,s1,h3,h4,h5⟩
  ·rw[h2];have hlt:s<S:=by
    rcases hW s S with h|h
    ·exact h
    ·have:s=S:=by omega
     subst this;exact absurd hg (h1 X hX.1 hX.2)
   have w:aA (s+1)=s+1:=fA (by omega) (by omega);rw[w];exact ih (s+1) (by omega) (by omega) (by omega)
theorem uf {N:Nat}(hN:4294967400<N){d A B C m:Int}(hd:d<0)(hd1: -4294967296≤d)(h:n9 d A B C)(hm:0<m∧m≤37838):∃a b c,Q94.f N A B C m=some (a,b,c)∧0<a∧a≤1600000000000000000∧(-3200000000000000000≤b∧b≤3200000000000000000)∧fB a m=1∧Cl d (La d A B) (La d a b)∧∃c',Of d a b c':=by
 obtain⟨f1,f2,f3,f4⟩:=(yM h.of h.a0 h.inr h.sm hd1).resolve_right (fun q=>q hd);obtain⟨i1,i2⟩:=h.inr;have a0:=h.a0;obtain⟨x,y,hx,hy,hxy,cp,cv⟩:=jc h.pr hm.1;have hg:ia A B C m (x+y) x:=by
  have e:x+y-x=y:=by omega
  unfold ia;rw[e];exact⟨(eL _ _).mp cp,(eL _ _).mp cv⟩
 obtain⟨x0,s0,a,b,c,h1,h2,h3,h4,⟨⟨u,v,t1,t2,t3⟩,t4,t5⟩,h5⟩:=ud hN (by omega) (by omega) (by omega) hm (S:=x+y) (X:=x) (by omega) (by omega) hg 0 0 0 (fun y55 y56 y57=>some (y55,y56,y57)) N 1 (by omega) (by omega) (by omega);have hpos:0<a:=by
  rw[t2];refine Ic h.a0 (by rw[h.of.eq];exact hd) ?_;by_cases q:x0=0
  ·right;omega
  ·left;exact q
 refine⟨a,b,c,h5,hpos,t5,t4,by rw[t2];exact h4.2,?_,tA A B C v u,?_⟩
 ·have:=h.of.cl hd (by omega) (p:=x0) (q:=v) (r:=s0-x0) (u:=u) (by omega);rw[t2,t3];exact this
 ·refine⟨?_⟩;have he:ql A B C a b (tA A B C v u):=⟨x0,v,s0-x0,u,by omega,t2,t3,rfl⟩
  rw[he.disc];exact h.of.eq
open Go.Proofs.YtjpdjdhdchjcgaaGreat.NatL (ab cB wA uB uE GT fB iC eC lB oJ gJ tA tB xA bG yD mE rC sg pH Zl dN lO)
structure Lb (d a b:Int):Prop where
 a0:0<a
 dv:4*a∣b*b-d
theorem Lb.dvd {d a b:Int}(h:Lb d a b):4*a∣nb a b*nb a b-d:=by
 obtain⟨_,_,k,hk⟩:=iL b h.a0;have:nb a b*nb a b-d=b*b-d+4*a*(b*k+a*k*k):=by rw[hk];grind
 rw[this];exact b9 h.dv (n3 _ _)
theorem Lb.of {d a b:Int}(h:Lb d a b):Of d a (nb a b) (nc d a b):=by
 refine⟨?_⟩;unfold nc;have:=ts h.dvd;omega
theorem Lb.sizes {d a b:Int}(h:Lb d a b)(hd:d<0):nb a b*nb a b≤a*a∧0<nc d a b∧0≤nb a b*nb a b:=by
 have a0:=h.a0;obtain⟨n1,n2,_⟩:=iL b a0;have sq:nb a b*nb a b≤a*a:=by
  have:=hU (show 0≤a-nb a b by omega) (show 0≤a+nb a b by omega);have e:(a-nb a b)*(a+nb a b)=a*a-nb a b*nb a b:=by grind
  omega
 have sqn:=xD (nb a b);have of:=h.of.eq;have e4:4*a*nc d a b=4*(a*nc d a b):=by grind
 refine⟨sq,?_,sqn⟩;rcases hW 0 (nc d a b)with q|q
 ·exact q
 ·have:=hU (hE a0) (show 0≤ -nc d a b by omega);rw[bc]at this;omega
theorem Lb.half {d a b:Int}(h:Lb d a b)(hd:d<0)(hd1: -4294967296≤d)(ha:65536≤a):2*nc d a b≤a:=by
 obtain⟨s1,s2,s3⟩:=h.sizes hd;have of:=h.of.eq;have e4:4*a*nc d a b=4*(a*nc d a b):=by grind
 rcases hW a (2*nc d a b)with q|q
 ·exfalso;have:=aE (show a+1≤2*nc d a b by omega) (hE h.a0);have e5:a*(2*nc d a b)=2*(a*nc d a b):=by grind
  have e6:a*(a+1)=a*a+a:=by grind
  have e7:=aE ha (show(0:Int)≤65536 by decide);have e8:=yK ha (hE h.a0);omega
 ·exact q
theorem Fb (u v:Int):decide (NatL.bS u v>0)=decide (v<u):=by
 unfold NatL.bS;by_cases h:u=v
 ·rw[if_pos h,decide_eq_false (show ¬v<u by omega)];rfl
 ·by_cases h1:u<v
  ·rw[if_neg h,if_pos h1,decide_eq_false (show ¬v<u by omega)];rfl
  ·rw[if_neg h,if_neg h1,decide_eq_true (show v<u by omega)];rfl
theorem Cb (u v:Int):(NatL.bS u v==0)=decide (u=v):=by
 unfold NatL.bS;by_cases h:u=v
 ·rw[if_pos h,decide_eq_true h];rfl
 ·by_cases h1:u<v
  ·rw[if_neg h,if_pos h1,decide_eq_false h];rfl
  ·rw[if_neg h,if_neg h1,decide_eq_false h];rfl
theorem G9 (x:Int):decide (NatL.sn x≥0)=decide (x≥0):=by
 rcases NatL.dI x with⟨s1,s2⟩|⟨s1,s2⟩|⟨s1,s2⟩<;>rw[s2]
 ·rw[decide_eq_true (show x≥0 by omega)];rfl
 ·rw[decide_eq_false (show ¬x≥0 by omega)];rfl
 ·rw[decide_eq_true (show x≥0 by omega)];rfl
theorem kx {N:Nat}(hN:1000000001<N){R:Type}{d a b:Int}(hd:d<0)(hd1: -4294967296≤d)(h:Lb d a b)(za:Zl 20 a)(zb:Zl 20 b)(x12 x13 x14:Int)(kr:Int→Int→Int→Option R)(n:Nat):
  Zl 20 (nb a b)∧Zl 50 (nc d a b)∧(nc d a b≤a→Zl 20 (nc d a b))∧
  ((a<nc d a b∨(a=nc d a b∧0≤nb a b))→Q95.l2 N (n+1) d (sg a) (pH a) (sg b) (pH b) x12 x13 x14 (sg 4) (pH 4) kr=kr a (nb a b) (nc d a b))∧
  (¬(a<nc d a b∨(a=nc d a b∧0≤nb a b))→Q95.l2 N (n+1) d (sg a) (pH a) (sg b) (pH b) x12 x13 x14 (sg 4) (pH 4) kr=Q95.l2 N n d (sg (nc d a b)) (pH (nc d a b)) (sg (-nb a b)) (pH (-nb a b)) x12 x13 x14 (sg 4) (pH 4) kr):=by
 have a0:=h.a0;obtain⟨s1,s2,s3⟩:=h.sizes hd;obtain⟨n1,n2,k,hk⟩:=iL b a0;have hof:=h.of;have z2:Zl 1 2:=Zl.of (by decide);have z4:Zl 1 4:=Zl.of (by decide);have z2a:Zl 21 (a*2):=za.mul z2;have e2:a*2=2*a:=kl _ _;rw[e2]at z2a;have znb:Zl 20 (nb a b):=za.le (by rw[uB (show 0≤a by omega)];rcases cB (nb a b)with⟨c1,c2⟩|⟨c1,c2⟩<;>omega);have znn:Zl 40 (nb a b*nb a b):=znb.mul znb;have zd:Zl 256 d:=dN (lO (by omega) (by omega));have zd4:Zl 40 d:=Zl.of (by
  have e:ab d≤4294967296:=by rcases cB d with⟨c1,c2⟩|⟨c1,c2⟩<;>omega
  have e3:(4294967296:Int)<65536^40:=by decide
  omega)
 have zs:Zl 41 (nb a b*nb a b-d):=znn.sub zd4;have z4a:Zl 21 (4*a):=by have:=z4.mul za;exact this
 obtain⟨q1,q2,q3⟩:=NatL.dq hN (zb.mono (show 20≤21 by omega)) z2a (by omega) (by omega) (show 2*a≠0 by omega);obtain⟨q4,q5,q6⟩:=NatL.dq hN zs (z4a.mono (show 21≤41 by omega)) (by omega) (by omega) (show 4*a≠0 by omega);have enc_:(nb a b*nb a b-d)/(4*a)=nc d a b:=rfl;rw[enc_]at q4 q5;have zc:Zl 50 (nc d a b):=q5.mono (by omega);have zc20:nc d a b≤a→Zl 20 (nc d a b):=fun hle=>za.le (by rw[uB (hE s2),uB (hE a0)];exact hle);have tail:∀(l:Bool×List Int),l=(sg (nb a b),pH (nb a b))→
   ((Q61.f N l.1 l.2 l.1 l.2).bind fun r22=>
   (Q53.f N d).bind fun r23=>
   (Q60.f N r22.1 r22.2 r23.1 r23.2).bind fun r24=>
   (Q61.f N (sg 4) (pH 4) (sg a) (pH a)).bind fun r25=>
   (Q62.f N r24.1 r24.2 r25.1 r25.2).bind fun r26=>
   (Q57.f N (sg a) (pH a) r26.1 r26.2.1).bind fun r27=>
   bif decide (r27<0)then
    (Q56.f N (sg a) (pH a)).bind fun r28=>
    (Q56.f N l.1 l.2).bind fun r29=>
    (Q56.f N r26.1 r26.2.1).bind fun r30=>
    kr r28.1 r29.1 r30.1
   else
   bif r27==0 then
    (Q54.f N l.1 l.2).bind fun r34=>
    bif decide (r34≥0)then
     (Q56.f N (sg a) (pH a)).bind fun r35=>
     (Q56.f N l.1 l.2).bind fun r36=>
     (Q56.f N r26.1 r26.2.1).bind fun r37=>
     kr r35.1 r36.1 r37.1
    else
    (Q58.f N l.1 l.2).bind fun r38=>
    Q95.l2 N n d r26.1 r26.2.1 r38.1 r38.2 x12 x13 x14 (sg 4) (pH 4) kr
   else
   (Q58.f N l.1 l.2).bind fun r39=>
   Q95.l2 N n d r26.1 r26.2.1 r39.1 r39.2 x12 x13 x14 (sg 4) (pH 4) kr)=
   if(a<nc d a b∨(a=nc d a b∧0≤nb a b))then kr a (nb a b) (nc d a b)else Q95.l2 N n d (sg (nc d a b)) (pH (nc d a b)) (sg (-nb a b)) (pH (-nb a b)) x12 x13 x14 (sg 4) (pH 4) kr:=by
  intro l hl;subst hl;simp only;rw[NatL.Hc hN znb znb (by omega) (by omega)];simp only[pC];rw[NatL.I8 hN (by omega) (by omega)];simp only[pC];rw[NatL.Dz hN znn zd4 (by omega)];simp only[pC];rw[NatL.Hc hN z4 za (by omega) (by omega)];simp only[pC];rw[q4];simp only[pC];rw[NatL.Jv hN (za.mono (show 20≤50 by omega)) zc (by omega)];simp only[pC];rw[NatL.Fa,Cb];have fin:(a<nc d a b∨(a=nc d a b∧0≤nb a b))→((Q56.f N (sg a) (pH a)).bind fun r28=>
    (Q56.f N (sg (nb a b)) (pH (nb a b))).bind fun r29=>
    (Q56.f N (sg (nc d a b)) (pH (nc d a b))).bind fun r30=>
    kr r28.1 r29.1 r30.1)=kr a (nb a b) (nc d a b):=fun he=>by
   have hs:¬lC a (nb a b) (nc d a b):=fun q=>by unfold lC at q;omega
   obtain⟨f1,f2,f3,f4⟩:=(yM hof a0 ⟨n1,n2⟩ hs hd1).resolve_right (fun q=>q hd);rw[NatL.J9 hN za (by omega),if_pos (by omega),NatL.J9 hN znb (by omega),if_pos (by omega),NatL.J9 hN zc (by omega),if_pos (by omega)];rfl
  by_cases h1:a<nc d a b
  ·rw[decide_eq_true h1,if_pos (Or.inl h1)];exact fin (Or.inl h1)
  ·rw[decide_eq_false h1];simp only[cond_false];by_cases h2:a=nc d a b
   ·rw[decide_eq_true h2];simp only[cond_true];rw[NatL.pU hN znb (by omega)];simp only[pC];rw[G9];by_cases h3:nb a b≥0
    ·rw[decide_eq_true h3,if_pos (Or.inr ⟨h2,h3⟩)];exact fin (Or.inr ⟨h2,h3⟩)
    ·rw[decide_eq_false h3,if_neg (by omega)];simp only[cond_false];rw[NatL.Ix hN znb (by omega)];rfl
   ·rw[decide_eq_false h2,if_neg (by omega)];simp only[cond_false];rw[NatL.Ix hN znb (by omega)];rfl
 have whole:Q95.l2 N (n+1) d (sg a) (pH a) (sg b) (pH b) x12 x13 x14 (sg 4) (pH 4) kr=if(a<nc d a b∨(a=nc d a b∧0≤nb a b))then kr a (nb a b) (nc d a b)else Q95.l2 N n d (sg (nc d a b)) (pH (nc d a b)) (sg (-nb a b)) (pH (-nb a b)) x12 x13 x14 (sg 4) (pH 4) kr:=by
  rw[Q95.l2,NatL.I8 hN (by decide) (by decide)];simp only[pC];rw[NatL.Hc hN za z2 (by omega) (by omega),e2];simp only[pC];rw[q1];simp only[pC];rw[NatL.Jv hN (q3) (za.mono (show 20≤21 by omega)) (by omega)];simp only[pC];rw[Fb];by_cases hg:a<b%(2*a)
  ·have en:b%(2*a)-2*a=nb a b:=by unfold nb;rw[if_pos hg]
   rw[decide_eq_true hg];simp only[cond_true];rw[NatL.Dz hN q3 z2a (by omega),en];simp only[pC];exact tail (sg (nb a b),pH (nb a b)) rfl
  ·have en:b%(2*a)=nb a b:=by unfold nb;rw[if_neg (by omega)]
   rw[decide_eq_false hg,en];simp only[cond_false];exact tail (sg (nb a b),pH (nb a b)) rfl
 refine⟨znb,zc,zc20,fun h=>by rw[whole,if_pos h],fun h=>by rw[whole,if_neg h]⟩
theorem kv {N:Nat}(hN:1000000001<N){R:Type}{d:Int}(hd:d<0)(hd1: -4294967296≤d)(x12 x13 x14:Int)(kr:Int→Int→Int→Option R):∀(n:Nat) (a b:Int),Lb d a b→Zl 20 a→Zl 20 b→mv a b<n→
  ∃a' b' c',0<a'∧Of d a' b' c'∧fL a' b'∧¬lC a' b' c'∧Cl d (La d a b) (La d a' b')∧Q95.l2 N n d (sg a) (pH a) (sg b) (pH b) x12 x13 x14 (sg 4) (pH 4) kr=kr a' b' c':=by
 intro n;induction n with
 |zero=>intro a b h _ _ hn;exfalso;have:=h.a0;unfold mv at hn;split at hn<;>omega
 |succ n ih=>
  intro a b h za zb hn;have a0:=h.a0;obtain⟨s1,s2,s3⟩:=h.sizes hd;obtain⟨n1,n2,k,hk⟩:=iL b a0;have hof:=h.of;obtain⟨t1,t2,t3,t4⟩:=hof.t;have hdm:sd d*sd d+4*md d<0:=by omega
  have cl1:Cl d (La d a b) (La d a (nb a b)):=by rw[hk];exact Mod.Hm.same (La.shift d a b k)
  obtain⟨g1,g2,g3,g4,g5⟩:=kx hN hd hd1 h za zb x12 x13 x14 kr n;by_cases he:a<nc d a b∨(a=nc d a b∧0≤nb a b)
  ·exact⟨a,nb a b,nc d a b,a0,hof,⟨n1,n2⟩,fun q=>by unfold lC at q;omega,cl1,g4 he⟩
  ·have hle:nc d a b≤a:=by omega
   have hl:Lb d (nc d a b) (-nb a b):=by
    refine⟨s2,?_⟩;have:=hof.eq;exact⟨a,by
      have e: -nb a b* -nb a b=nb a b*nb a b:=by grind
      have e2:4*nc d a b*a=4*a*nc d a b:=by grind
      omega⟩
   have hmv:mv (nc d a b) (-nb a b)<n:=by
    by_cases h2:a=nc d a b
    ·have h3:nb a b<0:=by omega
     have q1:nb (nc d a b) (-nb a b)= -nb a b:=by unfold nb;rw[←h2];have:(-nb a b)%(2*a)= -nb a b:=il (by omega) (by omega);unfold nb at this;rw[this];unfold nb at h3 n1 n2;rw[if_neg (by omega)]
     unfold mv at hn⊢;rw[if_pos h3]at hn;rw[q1,if_neg (by omega),←h2];omega
    ·unfold mv at hn⊢;split at hn<;>split<;>omega
   obtain⟨a',b',c',k1,k2,k3,k4,k5,k6⟩:=ih (nc d a b) (-nb a b) hl (g3 hle) g1.neg hmv;exact⟨a',b',c',k1,k2,k3,k4,cl1.trans hdm ((hof.swap hd (by omega)).trans hdm k5),by rw[g5 he];exact k6⟩
theorem yx {N:Nat}(hN:1000000001<N){R:Type}{d:Int}(hd:d<0)(hd1: -4294967296≤d)(x12 x13 x14:Int)(kr:Int→Int→Int→Option R):∀(k n:Nat) (a b:Int),Lb d a b→Zl 20 a→Zl 20 b→a≤2147483648*2^k→4294967400+k≤n→
  ∃a' b' c',0<a'∧Of d a' b' c'∧fL a' b'∧¬lC a' b' c'∧Cl d (La d a b) (La d a' b')∧Q95.l2 N n d (sg a) (pH a) (sg b) (pH b) x12 x13 x14 (sg 4) (pH 4) kr=kr a' b' c':=by
 intro k;induction k with
 |zero=>
  intro n a b h za zb ha hn;have:a≤2147483648:=by simpa using ha
  exact kv hN hd hd1 x12 x13 x14 kr n a b h za zb (by unfold mv;split<;>omega)
 |succ k ih=>
  intro n a b h za zb ha hn;by_cases hs:a≤2147483648
  ·exact kv hN hd hd1 x12 x13 x14 kr n a b h za zb (by unfold mv;split<;>omega)
  ·obtain⟨n',rfl⟩:∃n',n=n'+1:=⟨n-1,by omega⟩
   have a0:=h.a0;obtain⟨s1,s2,s3⟩:=h.sizes hd;obtain⟨n1,n2,kk,hk⟩:=iL b a0;have hof:=h.of;obtain⟨t1,t2,t3,t4⟩:=hof.t;have hdm:sd d*sd d+4*md d<0:=by omega
   have cl1:Cl d (La d a b) (La d a (nb a b)):=by rw[hk];exact Mod.Hm.same (La.shift d a b kk)
   obtain⟨g1,g2,g3,g4,g5⟩:=kx hN hd hd1 h za zb x12 x13 x14 kr n';have hh:=h.half hd hd1 (by omega);have he:¬(a<nc d a b∨(a=nc d a b∧0≤nb a b)):=by omega
   have hl:Lb d (nc d a b) (-nb a b):=by
    refine⟨s2,?_⟩;have:=hof.eq;exact⟨a,by
      have e: -nb a b* -nb a b=nb a b*nb a b:=by grind
      have e2:4*nc d a b*a=4*a*nc d a b:=by grind
      omega⟩
   have hp:(2:Int)^(k+1)=2*2^k:=by rw[Int.pow_succ];omega
   obtain⟨a',b',c',k1,k2,k3,k4,k5,k6⟩:=ih n' (nc d a b) (-nb a b) hl (g3 (by omega)) g1.neg (by omega) (by omega);exact⟨a',b',c',k1,k2,k3,k4,cl1.trans hdm ((hof.swap hd (by omega)).trans hdm k5),by rw[g5 he];exact k6⟩
theorem vp {s m v1 v2 c1 c2 t1 t2 t:Int}(hc:nQ v1 v2)(h1:t1*t1+s*t1-m=v1*c1)(h2:t2*t2+s*t2-m=v2*c2)(d1:v1∣t-t1)(d2:v2∣t-t2){p q r:Int}(hp:p*v1+q*(2*t1+s)+r*c1=1):
  v1*v2∣t*t+s*t-m∧∀u,PM s m (Fo v1 t1) (Fo v2 t2) u↔Fo (v1*v2) t u:=by
 have D1:v1∣t*t+s*t-m:=by
  have e:t*t+s*t-m=v1*c1+(t-t1)*(t+t1+s):=by rw[←h1];grind
  rw[e];exact b9 (n3 _ _) (hT d1 (n3 _ _))
 have D2:v2∣t*t+s*t-m:=by
  have e:t*t+s*t-m=v2*c2+(t-t2)*(t+t2+s):=by rw[←h2];grind
  rw[e];exact b9 (n3 _ _) (hT d2 (n3 _ _))
 have D:v1*v2∣t*t+s*t-m:=by
  obtain⟨k,hk⟩:=D2;have:v1∣v2*k:=by rw[←hk];exact D1
  obtain⟨k',hk'⟩:=hc.cancel this;exact⟨k',by rw[hk,hk'];grind⟩
 refine⟨D,fun u=>?_⟩;obtain⟨x,y,hxy⟩:=hc;have k:=Mod.K6 (s:=s) (m:=m) (e:=1) (v1:=v1) (v2:=v2) (t1:=t1) (t2:=t2) (t:=t) (s':=t1+t2+s) (n4:=m+t1*t2) (c1:=c1) (x:=x) (y:=y) (z:=0) (p:=p) (q:=q) (r:=r) (by decide) (by omega) (by omega) (by rw[h1];grind) d1 d2 (by
  obtain⟨k,hk⟩:=D;obtain⟨k1,hk1⟩:=d1;obtain⟨k2,hk2⟩:=d2;refine⟨k1*k2-k,?_⟩;have e:m+t1*t2- (t1+t2+s)*t=(t-t1)*(t-t2)- (t*t+s*t-m):=by grind
  rw[e,hk,hk1,hk2];grind) (by rw[←hxy];grind) (by rw[←hp];grind) u
 have e1:(1:Int)*v1=v1:=lg _;have e2:(1:Int)*v2=v2:=lg _;rw[e1,e2]at k;rw[k];have one:∀w:E,Mod.ml s m ⟨1,0⟩ w=w:=fun w=>Mod.E.ext' (by simp only[Mod.ml];grind) (by simp only[Mod.ml];grind);constructor
 ·rintro⟨w,hw,rfl⟩;rw[one];exact hw
 ·intro hu;exact⟨u,hu,(one u).symm⟩
theorem Aw (N:Nat){d a b c:Int}(h:mW d a b c):Q69.f N a b c=some d:=by
 rw[(bH N a b c).2,if_pos h.fine.inb,eQ h.fine.inb,h.of.eq]
theorem wQ {N:Nat}(hN:8589934600<N){d a1 b1 c1 a2 b2 c2:Int}(hd:d<0)(hd1: -4294967296≤d)(h1:n9 d a1 b1 c1)(h2:n9 d a2 b2 c2):
  ∃a b c,Q96.f N a1 b1 c1 a2 b2 c2=some (a,b,c)∧gI d (Pr d (La d a1 b1) (La d a2 b2)) a b c:=by
 have dn:Dn d:=Dn.of h1.of hd;have v1:=h1.val hd hd1;obtain⟨f1,f2,f3,f4⟩:=(yM h1.of h1.a0 h1.inr h1.sm hd1).resolve_right (fun q=>q hd);obtain⟨i1,i2⟩:=h1.inr;have a0:=h1.a0;obtain⟨ha,hb,hc,ep,p1,p2,p3,p4,p5,cc,p6⟩:=uf (N:=N) (by omega) hd hd1 h2 (m:=a1) (by omega);obtain⟨q1,q2,q3,q4⟩:=h1.of.t;obtain⟨q5,q6,_,_⟩:=p6.t;obtain⟨pp,pq,pr,hpr⟩:=h1.pr;have cop:nQ a1 ha:=((eL _ _).mpr p4).symm;obtain⟨x,k,ei,x0,x1,hx⟩:=o7 (N:=N) (by omega) a0 (by omega) p1 (by omega) ((eL _ _).mp cop);have lat1:La d a1 b1=Fo a1 ((b1-sd d)/2):=rfl;have lat2:La d ha hb=Fo ha ((hb-sd d)/2):=rfl;generalize ht1:(b1-sd d)/2=t1 at*;generalize ht2:(hb-sd d)/2=t2 at*;have hD:aA (Int.tdiv (aA (hb-b1)) 2)=t2-t1:=by
  have e:hb-b1=2*(t2-t1):=by omega
  rw[fA (n:=hb-b1) (by omega) (by omega),e,bu _ (by decide),fA (by omega) (by omega)]
 have m0:=dQ (t2-t1) (show ha≠0 by omega);have m1:=xK (t2-t1) p1;have et:Q90.f N ((t2-t1)%ha) x ha=some ((t2-t1)*x%ha):=by rw[pt (by omega) p1 (by omega) m0 m1 x0 x1,cu,c9 _ (fo _),←cu]
 have n0:=dQ ((t2-t1)*x) (show ha≠0 by omega);have n1:=xK ((t2-t1)*x) p1;have hdiv:ha∣a1*((t2-t1)*x%ha)- (t2-t1):=by
  have e:(t2-t1)*x%ha=(t2-t1)*x-ha*((t2-t1)*x/ha):=by have:=l0 ((t2-t1)*x) ha;omega
  refine⟨(t2-t1)*k-a1*((t2-t1)*x/ha),?_⟩;rw[e];have e2:a1*((t2-t1)*x-ha*((t2-t1)*x/ha))- (t2-t1)=(t2-t1)*(a1*x)-ha*(a1*((t2-t1)*x/ha))- (t2-t1):=by grind
  rw[e2,hx];grind
 generalize(t2-t1)*x%ha=t at*;have w2:aA (2*a1)=2*a1:=fA (by omega) (by omega);obtain⟨D,hun⟩:=vp (s:=sd d) (m:=md d) (v1:=a1) (v2:=ha) (c1:=c1) (c2:=cc) (t1:=t1) (t2:=t2) (t:=t1+a1*t) cop q2 q6 ⟨t,by omega⟩ (by
  have e:t1+a1*t-t2=a1*t- (t2-t1):=by omega
  rw[e];exact hdiv) (p:=pp) (q:=pq) (r:=pr) (by rw[←q1];exact hpr)
 have e2t:2*a1*t=2*(a1*t):=by grind
 have hlat:La d (a1*ha) (b1+2*a1*t)=Fo (a1*ha) (t1+a1*t):=by
  unfold La;have:b1+2*a1*t-sd d=(t1+a1*t)*2:=by omega
  rw[this,vc _ (by decide)]
 have hap:0<a1*ha:=iv a0 p1;have hlb:Lb d (a1*ha) (b1+2*a1*t):=by
  refine⟨hap,?_⟩;obtain⟨K,hK⟩:=D;refine⟨K,?_⟩;have a6:(b1+2*a1*t)*(b1+2*a1*t)-d=4*((t1+a1*t)*(t1+a1*t)+sd d*(t1+a1*t)-md d):=by
   have a7:b1+2*a1*t=2*(t1+a1*t)+sd d:=by omega
   rw[a7];have hss:sd d*sd d=sd d:=by rcases q4 with h|h<;>rw[h]<;>decide
   have a8:(2*(t1+a1*t)+sd d)*(2*(t1+a1*t)+sd d)=4*((t1+a1*t)*(t1+a1*t)+sd d*(t1+a1*t))+sd d*sd d:=by grind
   omega
  rw[a6,hK];grind
 have s1:a1*ha≤37838*1600000000000000000:=by have:=aE p2 (hE a0);have:=yK f1 (show(0:Int)≤1600000000000000000 by decide);omega
 have s2:a1*t≤37838*1600000000000000000:=by have:=aE (show t≤1600000000000000000 by omega) (hE a0);have:=yK f1 (show(0:Int)≤1600000000000000000 by decide);omega
 have s3:=hU (hE a0) n0;have k1:(37838:Int)*1600000000000000000=60540800000000000000000:=by decide
 have k2:(200000000000000000000000:Int)<65536^20:=by decide
 have zA:Zl 20 (a1*ha):=Zl.of (by rw[uB (hE hap)];omega);have zB:Zl 20 (b1+2*a1*t):=Zl.of (by rcases cB (b1+2*a1*t)with⟨c1,c2⟩|⟨c1,c2⟩<;>omega);have zb1:=dN (lO (n:=b1) (by omega) (by omega));have z2a:=dN (lO (n:=2*a1) (by omega) (by omega));have zt:=dN (lO (n:=t) (by omega) (by omega));have za1:=dN (lO (n:=a1) (by omega) (by omega));have zha:=dN (lO (n:=ha) (by omega) (by omega));obtain⟨a,b,c,r1,r2,r3,r4,r5,r6⟩:=yx (N:=N) (by omega) hd hd1 0 0 0 (fun y55 y56 y57=>some (y55,y56,y57)) 46 N (a1*ha) (b1+2*a1*t) hlb zA zB (by
  have:(2147483648:Int)*2^46=151115727451828646838272:=by decide
  omega) (by omega)
 have cl:Cl d (Pr d (La d a1 b1) (La d a2 b2)) (La d a b):=by
  have c1':Cl d (Pr d (La d a1 b1) (La d a2 b2)) (Pr d (La d a1 b1) (La d ha hb)):=Mod.Hm.prod dn.m (Mod.Hm.refl _ _ _) p5;have c2':Cl d (Pr d (La d a1 b1) (La d ha hb)) (La d (a1*ha) (b1+2*a1*t)):=by rw[hlat,lat1,lat2];exact Mod.Hm.same hun
  exact c1'.trans dn.m (c2'.trans dn.m r5)
 have un:Un d (La d a b):=Un.cl dn (Un.prod dn (H9 h1.of dn) v1.un (h2.val hd hd1).un) cl;refine⟨a,b,c,?_,⟨r1,r2,r3,r4,r2.prim dn un⟩,cl⟩;unfold Q96.f;rw[ep];simp only[pC];rw[Aw N v1];simp only[pC];rw[hD,qR N p1 (by omega)];simp only[pC];rw[ei];simp only[pC];rw[et];simp only[pC];rw[NatL.I8 (by omega) (by omega) (by omega),w2];simp only[pC];rw[NatL.I8 (by omega) (by omega) (by omega)];simp only[pC];rw[NatL.I8 (by omega) (by omega) (by omega)];simp only[pC];rw[NatL.Hc (by omega) z2a zt (by omega) (by omega)];simp only[pC];rw[NatL.Dy (by omega) (zb1.mono (show 256≤512 by omega)) (z2a.mul zt) (by omega)];simp only[pC];rw[NatL.I8 (by omega) (by omega) (by omega)];simp only[pC];rw[NatL.I8 (by omega) (by omega) (by omega)];simp only[pC];rw[NatL.Hc (by omega) za1 zha (by omega) (by omega)];simp only[pC];have hr:Q95.f N (sg (a1*ha)) (pH (a1*ha)) (sg (b1+2*a1*t)) (pH (b1+2*a1*t)) d=some (a,b,c):=by unfold Q95.f;rw[NatL.I8 (by omega) (by decide) (by decide)];simp only[pC];exact r6
 rw[hr];rfl
theorem vq {a b c:Int}(h:zJ a b c)(p:kX a b c):mW (b*b-4*a*c) a b c:=⟨h,⟨rfl⟩,p⟩
theorem ah {N:Nat}(hN:8589934600<N){d a b c:Int}(h:n9 d a b c)(hd:d<0)(hd1: -4294967296≤d):∃x y z,Q98.f N a b c=some (x,y,z)∧gI d (La d a (-b)) x y z∧∃p q r u,Q50.f N a (aA (0-b)) c=some (x,y,z,p,q,r,u,0):=by
 have v:=h.over hd hd1;obtain⟨x,y,z,e2,r2,f2,p,q,r,u,e3⟩:=oD hN v;obtain⟨a',b',c',p',q',r',s',e,k1,k2,_⟩:=bO hN a (-b) c;have hb:=v.fine.inb.2.1;have w:aA (0-b)= -b:=by rw[fA (by omega) (by omega)];omega
 rw[e3]at k1;simp only[Option.some.injEq,Prod.mk.injEq]at k1;obtain⟨u1,u2,u3,u4,u5,u6,u7,u8⟩:=k1;refine⟨x,y,z,?_,r2,p,q,r,u,by rw[w];exact e3⟩;unfold Q98.f;rw[w,k2,←u1,←u2,←u3];rfl
theorem uN {N:Nat}(hN:8589934600<N)(a b c:Int):∃x y z e,Q87.f N a b c=some (x,y,z,e)∧Q99.f N a b c=some (x,y,z,e):=by
 obtain⟨x1,y1,z1,f1,p1,p2,p3⟩:=rK hN a b c;unfold Q87.f Q99.f;rw[p1,p2];simp only[pC];by_cases h3:f1=0
 ·have c0:(f1 != 0)=false:=by rw[h3];rfl
  obtain⟨g1,g2⟩:=p3 h3;have v1:=vq g1 g2;obtain⟨r1,r2,r3,q1,q2,_⟩:=oD hN v1;rw[p1]at q1;simp only[Option.some.injEq,Prod.mk.injEq]at q1;obtain⟨u1,u2,u3,_⟩:=q1;subst u1;subst u2;subst u3;obtain⟨x,y,z,o1,o2,p,q,r,u,o3⟩:=ah hN q2.red v1.d.1 v1.d.2;rw[c0,o1,o3];exact⟨x,y,z,0,rfl,rfl⟩
 ·have c0:(f1 != 0)=true:=bne_iff_ne.mpr h3;rw[c0];exact⟨0,0,0,f1,rfl,rfl⟩
theorem wR {n:Int}(h:(Lit.int .i64 n).wf=true): -9223372036854775808≤n∧n<9223372036854775808:=by
 simp[Lit.wf,IntKind.min,IntKind.max,IntKind.bits,IntKind.signed]at h;omega
end Go.Proofs.YtjpdjdhdchjcgaaGreat.Pure
namespace Go.Proofs.YtjpdjdhdchjcgaaGreat.Cls
open Go Go.Proofs.YtjpdjdhdchjcgaaGreat.Ev
structure Rd (d a b c:Int):Prop where
 eq:b*b-4*a*c=d
 pos:0<a
 lo: -a<b
 hi:b≤a
 last:a<c∨(a=c∧0≤b)
def fB (a b:Int):Int:=(Int.gcd a b:Int)
def eK (a b c:Int):Int:=fB (fB a b) c
theorem lj (a b c:Int):eK a (-b) c=eK a b c:=by simp[eK,fB]
theorem ej {x y:Int}(h0:0≤x)(h:x≤y):x*x≤y*y:=Int.mul_le_mul h h h0 (by omega)
theorem ef {b a:Int}(h1: -a≤b)(h2:b≤a):b*b≤a*a:=by
 rcases Int.le_total 0 b with h|h
 ·exact ej h h2
 ·have:=ej (x:= -b) (y:=a) (by omega) (by omega);have e: -b* -b=b*b:=by grind
  omega
theorem Rd.cge {d a b c:Int}(h:Rd d a b c):a≤c:=by have:=h.last;omega
theorem Rd.three {d a b c:Int}(h:Rd d a b c):3*a*a≤ -d:=by
 have h1:=h.eq;have h2:=ef (show-a≤b by have:=h.lo;omega) h.hi;have h3:=aE h.cge (show 0≤a by have:=h.pos;omega);have e:4*a*c=4*(a*c):=by grind
 have e2:3*a*a=3*(a*a):=by grind
 omega
theorem nL {x M:Int}(hM:0≤M)(h:x*x<(M+1)*(M+1)):x≤M:=by
 rcases hW M x with h1|h1
 ·have:=ej (x:=M+1) (y:=x) (by omega) (by omega);omega
 ·exact h1
theorem Rd.small {d a b c:Int}(h:Rd d a b c)(hd: -65536≤d):a≤147:=by
 have:=h.three;have e2:3*a*a=3*(a*a):=by grind
 exact nL (by omega) (by omega)
theorem Rd.parity {d a b c:Int}(h:Rd d a b c):b%2=d%2:=by
 have h1:=h.eq;have e:4*a*c=2*(2*a*c):=by grind
 rcases(show b%2=0∨b%2=1 by omega)with hb|hb
 ·have e2:b=2*(b/2):=by omega
  have e3:b*b=2*(2*((b/2)*(b/2))):=by generalize b/2=q at*;subst e2;grind
  omega
 ·have e2:b=2*(b/2)+1:=by omega
  have e3:b*b=2*(2*((b/2)*(b/2))+2*(b/2))+1:=by generalize b/2=q at*;subst e2;grind
  omega
theorem fQ:∀(a b:List Int),bW a b=true↔a=b
 | [],[]=>by simp[bW]
 | [],_::_=>by simp[bW]
 |_::_,[]=>by simp[bW]
 |a::r,b::s=>by simp[bW,fQ r s]
theorem yJ:∀(l:List Int) (ks:List (List Int)) (i:Nat),cF l ks i=none→l∉ks
 |_,[],_,_=>by simp
 |l,x::r,i,h=>by
  simp only[cF]at h;cases hq:bW l x with
  |true=>rw[hq]at h;cases h
  |false=>
   rw[hq]at h;have:=yJ l r (i+1) h;have hne:l≠x:=fun e=>by rw[(fQ l x).2 e]at hq;cases hq
   simp[hne,this]
theorem tM:∀(l:List Int) (ks:List (List Int)) (i j:Nat),cF l ks i=some j→i≤j∧ks[j-i]?=some l
 |_,[],_,_,h=>by cases h
 |l,x::r,i,j,h=>by
  simp only[cF]at h;cases hq:bW l x with
  |true=>rw[hq]at h;simp only[cond_true,Option.some.injEq]at h;subst h;simp[(fQ l x).1 hq]
  |false=>
   rw[hq]at h;obtain⟨h1,h2⟩:=tM l r (i+1) j h;refine⟨by omega,?_⟩;have:j-i=(j- (i+1))+1:=by omega
   rw[this];simpa using h2
structure qG (S:Int→Int→Int→Prop)(ks:List (List Int))(vs:List Int):Prop where
 len:vs.length=ks.length
 nd:ks.Nodup
 sound:∀r∈ks,∃a b c,r=[a,b,c]∧S a b c
 full:∀a b c,S a b c→[a,b,c]∈ks
 val:∀(j:Nat) a b c,ks[j]?=some [a,b,c]→vs[j]?=some (eK a b c)
theorem qG.congr {S S':Int→Int→Int→Prop}{ks:List (List Int)}{vs:List Int}(h:qG S ks vs)(hs:∀a b c,S a b c↔S' a b c):qG S' ks vs:=
 ⟨h.len,h.nd,fun r hr=>by obtain⟨a,b,c,h1,h2⟩:=h.sound r hr;exact⟨a,b,c,h1,(hs a b c).1 h2⟩,fun a b c h1=>h.full a b c ((hs a b c).2 h1),h.val⟩
theorem qG.nil {S:Int→Int→Int→Prop}(hs:∀a b c,¬S a b c):qG S [] []:=
 ⟨rfl,.nil,fun r hr=>by simp at hr,fun a b c h=>absurd h (hs a b c),fun j a b c h=>by simp at h⟩
theorem qG.put {S:Int→Int→Int→Prop}{ks:List (List Int)}{vs:List Int}(h:qG S ks vs)(a b c:Int):qG (fun x y z=>S x y z∨(x=a∧y=b∧z=c)) (yB [a,b,c] ks) (nG [a,b,c] (eK a b c) ks vs):=by
 unfold yB oQ nG;cases hm:cF [a,b,c] ks 0 with
 |none=>
  have hn:=yJ _ _ _ hm;simp only[Option.isSome_none,cond_false];refine⟨by simp[h.len],?_,fun r hr=>?_,fun x y z hs=>?_,fun j x y z hj=>?_⟩
  ·exact List.nodup_append.2 ⟨h.nd,by simp,fun x hx y hy=>by simp only[hV]at hy;subst hy;rintro rfl;exact hn hx⟩
  ·simp only[b7,hV]at hr;rcases hr with hr|hr
   ·obtain⟨x,y,z,h1,h2⟩:=h.sound r hr;exact⟨x,y,z,h1,.inl h2⟩
   ·exact⟨a,b,c,hr,.inr ⟨rfl,rfl,rfl⟩⟩
  ·simp only[b7,hV];rcases hs with hs|⟨rfl,rfl,rfl⟩
   ·exact .inl (h.full x y z hs)
   ·exact .inr rfl
  ·rw[List.getElem?_append]at hj⊢;rw[h.len];split at hj
   ·rename_i hlt;rw[if_pos hlt];exact h.val j x y z hj
   ·rename_i hlt;rw[if_neg hlt];have h0:j-ks.length=0:=by
     rcases Nat.eq_zero_or_pos (j-ks.length)with h0|h0
     ·exact h0
     ·rw[List.getElem?_eq_none (by simp;omega)]at hj;cases hj
    rw[h0]at hj⊢;simp at hj⊢;obtain⟨rfl,rfl,rfl⟩:=hj;rfl
 |some j0=>
  obtain⟨_,hj0⟩:=tM _ _ _ _ hm;simp only[Nat.sub_zero]at hj0;simp only[Option.isSome_some,cond_true];have hv:=h.val j0 a b c hj0;have hset:vs.set j0 (eK a b c)=vs:=by obtain⟨hlt,hv⟩:=List.getElem?_eq_some_iff.mp hv;rw[←hv,List.set_getElem_self]
  rw[hset];have hmem:[a,b,c]∈ks:=List.mem_of_getElem? hj0;refine⟨h.len,h.nd,fun r hr=>?_,fun x y z hs=>?_,h.val⟩
  ·obtain⟨x,y,z,h1,h2⟩:=h.sound r hr;exact⟨x,y,z,h1,.inl h2⟩
  ·rcases hs with hs|⟨rfl,rfl,rfl⟩
   ·exact h.full x y z hs
   ·exact hmem
theorem qG.get {S:Int→Int→Int→Prop}{ks:List (List Int)}{vs:List Int}(h:qG S ks vs){a b c:Int}(hs:S a b c):yE [a,b,c] ks vs=eK a b c:=by
 unfold yE;cases hm:cF [a,b,c] ks 0 with
 |none=>exact absurd (h.full a b c hs) (yJ _ _ _ hm)
 |some j=>obtain⟨_,hj⟩:=tM _ _ _ _ hm;simp only[Nat.sub_zero]at hj;have:=h.val j a b c hj;simp[b6,this]
def H0 (x y:R3):Prop:=x.1<y.1∨x.1=y.1∧(x.2.1<y.2.1∨x.2.1=y.2.1∧x.2.2<y.2.2)
theorem I0 {x y:R3}(h:H0 x y):sW x y=true:=by
 rw[pJ];unfold H0 at h;omega
theorem D0 {x y:R3}(h:H0 x y):x≠y:=by
 rintro rfl;unfold H0 at h;omega
structure sT (S:Int→Int→Int→Prop)(R:List R3):Prop where
 up:R.Pairwise H0
 mem:∀x,x∈R↔S x.1 x.2.1 x.2.2
theorem sT.congr {S S':Int→Int→Int→Prop}{R:List R3}(h:sT S R)(hs:∀a b c,S a b c↔S' a b c):sT S' R:=
 ⟨h.up,fun x=>by rw[h.mem,hs]⟩
theorem sT.nodup {S:Int→Int→Int→Prop}{R:List R3}(h:sT S R):R.Nodup:=h.up.imp (fun hx=>D0 hx)
theorem sT.sorted {S:Int→Int→Int→Prop}{R:List R3}(h:sT S R):R.Pairwise (fun a b=>sW a b=true):=h.up.imp (fun hx=>I0 hx)
theorem sT.add {S:Int→Int→Int→Prop}{R:List R3}(h:sT S R){a b c:Int}(hl:∀x y z,S x y z→H0 (x,y,z) (a,b,c)):sT (fun x y z=>S x y z∨(x=a∧y=b∧z=c)) (R++[(a,b,c)]):=by
 refine⟨ds.mpr ⟨h.up,by simp,fun x hx y hy=>?_⟩,fun x=>?_⟩
 ·simp only[hV]at hy;subst hy;exact hl _ _ _ ((h.mem x).1 hx)
 ·simp only[b7,hV];rw[h.mem];constructor
  ·rintro(h1|rfl)
   ·exact .inl h1
   ·exact .inr ⟨rfl,rfl,rfl⟩
  ·rintro(h1|⟨h1,h2,h3⟩)
   ·exact .inl h1
   ·exact .inr (Prod.ext h1 (Prod.ext h2 h3))
def row (r:List Int):R3:=(r.getD 0 0,r.getD 1 0,r.getD 2 0)
theorem qG.perm {S:Int→Int→Int→Prop}{ks:List (List Int)}{vs:List Int}{R:List R3}(h:qG S ks vs)(k:sT S R):(ks.map row).Perm R:=by
 refine(ae ?_ k.nodup).mpr (fun x=>?_)
 ·rw[List.Nodup,ba];refine h.nd.imp_of_mem (fun{r s} hr hs hne e=>hne ?_);obtain⟨a,b,c,rfl,_⟩:=h.sound r hr;obtain⟨a',b',c',rfl,_⟩:=h.sound s hs;simp only[row,List.getD_cons_zero,List.getD_cons_succ,Prod.mk.injEq]at e;obtain⟨rfl,rfl,rfl⟩:=e;rfl
 ·rw[k.mem,r7];constructor
  ·rintro⟨r,hr,rfl⟩;obtain⟨a,b,c,rfl,hs⟩:=h.sound r hr;exact hs
  ·intro hs;exact⟨_,h.full _ _ _ hs,rfl⟩
open Go.Proofs.YtjpdjdhdchjcgaaGreat.Pure (fA)
theorem Rd.iff {d a b c:Int}(ha:0<a)(h1: -a<b)(h2:b≤a):Rd d a b c↔((b*b-d)%(4*a)=0∧c=(b*b-d)/(4*a)∧(a<c∨(a=c∧0≤b))):=by
 constructor
 ·intro h;have e:b*b-d=4*a*c:=by have:=h.eq;omega
  refine⟨by rw[e,lr],?_,h.last⟩;rw[e,bt _ (by omega)]
 ·rintro⟨k1,k2,k3⟩;have e:=l0 (b*b-d) (4*a);rw[k1,←k2]at e;exact⟨by omega,ha,h1,h2,k3⟩
theorem zM {b M:Int}(h1: -M≤b)(h2:b≤M):0≤b*b∧b*b≤M*M:=by
 refine⟨?_,ef h1 h2⟩;rcases Int.le_total 0 b with h|h
 ·exact hU h h
 ·have:=hU (show 0≤ -b by omega) (show 0≤ -b by omega);have e: -b* -b=b*b:=by grind
  omega
theorem cR (R:List R3)(a b c:Int):eB R++[a,b,c]=eB (R++[(a,b,c)]):=by rw[nJ];rfl
theorem rR {R:List R3}(h:(R.length:Int)≤60000):jB (((eB R).length+3)/3) 24=true:=by
 rw[sF];simp only[jB,decide_eq_true_eq];omega
def Up (d a b:Int)(x y z:Int):Prop:=Rd d x y z∧(x<a∨(x=a∧y<b))
theorem mn (N:Nat){d a:Int}(hd: -65536≤d)(hd0:d<0)(ha:0<a)(ha2:a≤147):∀(n:Nat) (b:Int) (R:List R3),1-a≤b→b≤a+1→a+1-b<n→sT (Up d a b) R→(R.length:Int)≤300*(a-1)+(b+a)→
  ∃R',sT (Up d a (a+1)) R'∧(R'.length:Int)≤300*a∧∀{T:Type} (K:Int→Int→List Int→Option T),Q110.l6 N n d a b (eB R) K=K d a (eB R')
 |0,b,R,_,_,h,_,_=>by omega
 |n+1,b,R,h1,h2,h3,hR,hl=>by
  by_cases hb:b≤a
  ·have hs:=zM (b:=b) (M:=147) (by omega) (by omega);have e1:aA (b*b)=b*b:=fA (by omega) (by omega);have e2:aA (b*b-d)=b*b-d:=fA (by omega) (by omega);have e3:aA (4*a)=4*a:=fA (by omega) (by omega);have e4:aA (b+1)=b+1:=fA (by omega) (by omega);have n0:0≤b*b-d:=by omega
   have e5:Int.tmod (b*b-d) (4*a)=(b*b-d)%(4*a):=o0 n0;have hq0:0≤(b*b-d)/(4*a):=eh n0 (by omega);have hq1:(b*b-d)/(4*a)≤b*b-d:=cy _ n0;have e6:aA (Int.tdiv (b*b-d) (4*a))=(b*b-d)/(4*a):=by rw[y5 n0];exact fA (by omega) (by omega)
   have c0:decide (b≤a)=true:=decide_eq_true hb;have c1:(!(4*a==0))=true:=by simp;omega
   have hiff:=fun c=>Rd.iff (d:=d) (c:=c) ha (show-a<b by omega) hb;have hnext:∀R',sT (Up d a (b+1)) R'→(R'.length:Int)≤300*(a-1)+(b+1+a)→∃R'',sT (Up d a (a+1)) R''∧(R''.length:Int)≤300*a∧∀{T:Type} (K:Int→Int→List Int→Option T),Q110.l6 N n d a (b+1) (eB R') K=K d a (eB R''):=
    fun R' k1 k2=>mn N hd hd0 ha ha2 n (b+1) R' (by omega) (by omega) (by omega) k1 k2
   have hskip:(∀c,¬Rd d a b c)→sT (Up d a (b+1)) R:=fun hno=>hR.congr fun x y z=>by
    unfold Up;constructor
    ·rintro⟨k1,k2⟩;exact⟨k1,by omega⟩
    ·rintro⟨k1,k2⟩;refine⟨k1,?_⟩;rcases k2 with k2|⟨rfl,k2⟩
     ·exact .inl k2
     ·by_cases hy:y=b
      ·subst hy;exact absurd k1 (hno z)
      ·exact .inr ⟨rfl,by omega⟩
   have hput:Rd d a b ((b*b-d)/(4*a))→sT (Up d a (b+1)) (R++[(a,b,(b*b-d)/(4*a))]):=fun hq=>(hR.add (a:=a) (b:=b) (c:=(b*b-d)/(4*a)) (fun x y z hx=>by
     unfold H0;simp only;have:=hx.2;omega)).congr fun x y z=>by
    unfold Up;constructor
    ·rintro(⟨k1,k2⟩|⟨rfl,rfl,rfl⟩)
     ·exact⟨k1,by omega⟩
     ·exact⟨hq,by omega⟩
    ·rintro⟨k1,k2⟩;rcases k2 with k2|⟨rfl,k2⟩
     ·exact .inl ⟨k1,.inl k2⟩
     ·by_cases hy:y=b
      ·subst hy;exact .inr ⟨rfl,rfl,((hiff z).1 k1).2.1⟩
      ·exact .inl ⟨k1,.inr ⟨rfl,by omega⟩⟩
   have hroom:=rR (R:=R) (by omega);simp only[Q110.l6,c0,cond_true,e1,e2,e3,e4,e5,e6,c1,hroom,cR];by_cases hm:(b*b-d)%(4*a)=0
   ·have c2:((b*b-d)%(4*a) != 0)=false:=by simp[hm]
    rw[c2];simp only[cond_false];by_cases hc:(b*b-d)/(4*a)>a
    ·obtain⟨R'',r1,r2,r3⟩:=hnext _ (hput ((hiff _).2 ⟨hm,rfl,.inl hc⟩)) (by simp;omega);refine⟨R'',r1,r2,fun K=>?_⟩;rw[decide_eq_true hc];exact r3 K
    ·by_cases hc2:(b*b-d)/(4*a)=a
     ·by_cases hb0:b≥0
      ·obtain⟨R'',r1,r2,r3⟩:=hnext _ (hput ((hiff _).2 ⟨hm,rfl,.inr ⟨hc2.symm,hb0⟩⟩)) (by simp;omega);refine⟨R'',r1,r2,fun K=>?_⟩;rw[decide_eq_false hc,beq_iff_eq.mpr hc2,decide_eq_true hb0];exact r3 K
      ·obtain⟨R'',r1,r2,r3⟩:=hnext _ (hskip fun c hq=>by have:=(hiff c).1 hq;omega) (by omega);refine⟨R'',r1,r2,fun K=>?_⟩;rw[decide_eq_false hc,beq_iff_eq.mpr hc2,decide_eq_false hb0];exact r3 K
     ·obtain⟨R'',r1,r2,r3⟩:=hnext _ (hskip fun c hq=>by have:=(hiff c).1 hq;omega) (by omega);refine⟨R'',r1,r2,fun K=>?_⟩;rw[decide_eq_false hc,beq_eq_false_iff_ne.mpr hc2];exact r3 K
   ·have c2:((b*b-d)%(4*a) != 0)=true:=by simp[hm]
    rw[c2];obtain⟨R'',r1,r2,r3⟩:=hnext _ (hskip fun c hq=>hm ((hiff c).1 hq).1) (by omega);exact⟨R'',r1,r2,fun K=>r3 K⟩
  ·have e:b=a+1:=by omega
   subst e;refine⟨R,hR,by omega,fun K=>?_⟩;rw[Q110.l6,decide_eq_false hb];rfl
theorem bq {N:Nat}(hN:1000<N){d:Int}(hd: -65536≤d)(hd0:d<0):∀(n:Nat) (a:Int) (R:List R3),1≤a→a≤148→149-a<n→sT (Up d a (-a)) R→(R.length:Int)≤300*(a-1)→
  ∃R',sT (Rd d) R'∧(R'.length:Int)≤45000∧∀{T:Type} (K:List Int→Option T),Q110.l3 N n d a (eB R) K=K (eB R')
 |0,a,R,_,_,h,_,_=>by omega
 |n+1,a,R,h1,h2,h3,hR,hl=>by
  have hs:=zM (b:=a) (M:=148) (by omega) (by omega);have e0:3*a*a=3*(a*a):=by grind
  have e1:aA (3*a)=3*a:=fA (by omega) (by omega);have e2:aA (3*a*a)=3*a*a:=fA (by omega) (by omega);have e3:aA (0-d)= -d:=by rw[show 0-d= -d by omega];exact fA (by omega) (by omega)
  have e4:aA (1-a)=1-a:=fA (by omega) (by omega);have e5:aA (a+1)=a+1:=fA (by omega) (by omega);by_cases hc:3*a*a≤ -d
  ·have ha:a≤147:=nL (by omega) (by omega);obtain⟨R1,r1,r2,r3⟩:=mn N hd hd0 (show 0<a by omega) ha N (1-a) R (by omega) (by omega) (by omega) (hR.congr fun x y z=>by
    unfold Up;constructor
    ·rintro⟨k1,k2⟩;exact⟨k1,by omega⟩
    ·rintro⟨k1,k2⟩;exact⟨k1,by have:=k1.lo;omega⟩) (by omega)
   obtain⟨R2,s1,s2,s3⟩:=bq hN hd hd0 n (a+1) R1 (by omega) (by omega) (by omega) (r1.congr fun x y z=>by
    unfold Up;constructor
    ·rintro⟨k1,k2⟩;exact⟨k1,by omega⟩
    ·rintro⟨k1,k2⟩;exact⟨k1,by have:=k1.lo;have:=k1.hi;omega⟩) (by omega)
   refine⟨R2,s1,s2,fun K=>?_⟩;rw[Q110.l3,e1,e2,e3,decide_eq_true hc,e4,cond_true,r3];simp only[e5];exact s3 K
  ·refine⟨R,hR.congr fun x y z=>⟨fun h=>h.1,fun h=>⟨h,.inl ?_⟩⟩,by omega,fun K=>?_⟩
   ·have h4:=h.three;have e6:3*x*x=3*(x*x):=by grind
    rcases hW x a with h5|h5
    ·exact h5
    ·have:=ej (x:=a) (y:=x) (by omega) h5;omega
   ·rw[Q110.l3,e1,e2,e3,decide_eq_false hc];rfl
theorem uY {N:Nat}(hN:1000<N){d:Int}(hd: -65536≤d)(hd0:d<0):∃R,sT (Rd d) R∧(R.length:Int)≤45000∧Q110.f N d=some (eB R):=by
 obtain⟨R,r1,r2,r3⟩:=bq hN hd hd0 N 1 [] (by omega) (by omega) (by omega) ⟨.nil,fun x=>by simp only[List.not_mem_nil,false_iff];rintro⟨h,h2⟩;have:=h.pos;have:=h.lo;omega⟩ (by simp);refine⟨R,r1,r2,?_⟩;unfold Q110.f;exact r3 _
theorem sT.one {S:Int→Int→Int→Prop}{R R':List R3}(h:sT S R)(k:sT S R'):R=R':=by
 have p:R.Perm R':=(ae h.nodup k.nodup).mpr fun x=>by rw[h.mem,k.mem]
 exact(oL p h.sorted).trans (oL (List.Perm.refl _) k.sorted).symm
theorem mS (N:Nat){R:Type}(K:Int→Option R):∀(n:Nat) (x y:Int),0≤x→0≤y→y<n→Q108.l1 N n x y K=K (fB x y)
 |0,x,y,_,h,h2=>by omega
 |n+1,x,y,h0,h1,h2=>by
  rw[Q108.l1];by_cases hy:y>0
  ·have e:Int.tmod x y=x%y:=o0 h0;have c1:(!(y==0))=true:=by simp;omega
   rw[decide_eq_true hy,c1,cond_true,cond_true,e,mS N K n y (x%y) h1 (dQ _ (by omega)) (by have:=xK x hy;omega)];rw[show fB y (x%y)=fB x y from NatL.fP h0 hy]
  ·have:y=0:=by omega
   subst this;rw[decide_eq_false hy,show fB x 0=x from NatL.mK h0];rfl
theorem G7 {N:Nat}{x y:Int}(h0:0≤x)(h1:0≤y)(h2:y<N):Q108.f N x y=some (fB x y):=by
 unfold Q108.f;rw[mS N _ N x y h0 h1 h2]
theorem wo (a b:Int):0≤fB a b:=by unfold fB;omega
theorem Cn (a b:Int):fB a (-b)=fB a b:=by simp[fB]
theorem E3 {N:Nat}{a b c:Int}(ha:0≤a)(hb: -N<b)(hb2:b<N)(hc:0≤c)(hc2:c<N)(hb3: -1000000000<b):Q109.f N a b c=some (eK a b c):=by
 unfold Q109.f eK;by_cases h:b<0
 ·have e:aA (0-b)= -b:=by rw[show 0-b= -b by omega];exact fA (by omega) (by omega)
  rw[decide_eq_true h,e,cond_true,G7 ha (by omega) (by omega)];simp only[pC];rw[G7 (wo _ _) hc hc2,Cn];rfl
 ·rw[decide_eq_false h,cond_false,G7 ha (by omega) hb2];simp only[pC];rw[G7 (wo _ _) hc hc2];rfl
structure Bq (R:List R3):Prop where
 len:(R.length:Int)≤45000
 el:∀x∈R,0<x.1∧x.1≤147∧ -148<x.2.1∧x.2.1<148∧0<x.2.2∧x.2.2≤100000
theorem Rd.csmall {d a b c:Int}(h:Rd d a b c)(hd: -65536≤d):0<c∧c≤100000:=by
 have h0:=h.small hd;have h1:=h.cge;have h2:=h.pos;have h3:=zM (b:=b) (M:=147) (by have:=h.lo;omega) (by have:=h.hi;omega);have h4:=h.eq;have h5:1*c≤a*c:=yK (by omega) (by omega);have e:4*a*c=4*(a*c):=by grind
 omega
theorem Rd.tame {d:Int}(hd: -65536≤d){R:List R3}(h:sT (Rd d) R)(hl:(R.length:Int)≤45000):Bq R:=
 ⟨hl,fun x hx=>by have k:=(h.mem x).1 hx;have k1:=k.csmall hd;have k2:=k.small hd;have k3:=k.pos;have k4:=k.lo;have k5:=k.hi;omega⟩
theorem iK {R:List R3}{i:Nat}(h:i<R.length):(eB R).getD (i*3) 0=R[i].1∧(eB R).getD (i*3+1) 0=R[i].2.1∧(eB R).getD (i*3+2) 0=R[i].2.2:=by
 simp only[b6];refine⟨?_,?_,?_⟩
 ·rw[pM R (i*3) (by omega),show i*3%3=0 by omega,show i*3/3=i by omega];simp[x6 h]
 ·rw[pM R (i*3+1) (by omega),show(i*3+1)%3=1 by omega,show(i*3+1)/3=i by omega];simp[x6 h]
 ·rw[pM R (i*3+2) (by omega),show(i*3+2)%3=2 by omega,show(i*3+2)/3=i by omega];simp[x6 h]
theorem nH (R:List R3):((eB R).length/3:Int)=R.length:=by rw[sF];omega
def qP (x:R3):Bool:=eK x.1 x.2.1 x.2.2==1
def wt (x:R3):Int:=if x.2.1=0∧x.1=x.2.2 then 6 else if x.1=x.2.1∧x.1=x.2.2 then 4 else 12
theorem zk {R:List R3}{i:Nat}(h:i<R.length):R.drop i=R[i]::R.drop (i+1):=by rw[List.drop_eq_getElem_cons h]
theorem qU {N:Nat}(hN:200000<N){R:List R3}(hR:Bq R){T:Type}(K:List Int→Option T):∀(n i:Nat) (X:List R3),i≤R.length→R.length-i<n→X.length≤i→
  Q111.l4 N n (eB R) i (eB X) K=K (eB (X++(R.drop i).filter qP))
 |0,i,X,_,h,_=>by omega
 |n+1,i,X,h1,h2,h3=>by
  have hl:=hR.len;rw[Q111.l4,nH];by_cases hi:i<R.length
  ·obtain⟨e1,e2,e3⟩:=iK hi;obtain⟨k1,k2,k3,k4,k5,k6⟩:=hR.el R[i] (dk hi);have c0:decide ((i:Int)<R.length)=true:=decide_eq_true (by omega);have c1:decide ((0:Int)≤i)=true:=decide_eq_true (by omega);have w1:aA ((i:Int)+1)=((i+1:Nat):Int):=by rw[fA (by omega) (by omega)];omega
   have hroom:=rR (R:=X) (by omega);have hg:Q109.f N R[i].1 R[i].2.1 R[i].2.2=some (eK R[i].1 R[i].2.1 R[i].2.2):=E3 (by omega) (by omega) (by omega) (by omega) (by omega) (by omega);simp only[c0,c1,cond_true,Bool.and_self,b5,e1,e2,e3,hg,pC,hroom,w1,cR];rw[zk hi];cases hp:eK R[i].1 R[i].2.1 R[i].2.2==1 with
   |true=>rw[cond_true,qU hN hR K n (i+1) _ (by omega) (by omega) (by simp;omega),sl (by exact hp)];simp
   |false=>rw[cond_false,qU hN hR K n (i+1) _ (by omega) (by omega) (by omega),sh (by unfold qP;rw[hp];simp)]
  ·have:i=R.length:=by omega
   subst this;rw[decide_eq_false (by omega)];simp
theorem Ar {N:Nat}(hN:200000<N){d:Int}(hd: -65536≤d)(hd0:d<0){R:List R3}(hR:sT (Rd d) R):Q111.f N d=some (eB (R.filter qP))∧Bq R:=by
 obtain⟨R',h1,h2,h3⟩:=uY (N:=N) (by omega) hd hd0;obtain rfl:=hR.one h1;have ht:=Rd.tame hd hR h2;refine⟨?_,ht⟩;unfold Q111.f;rw[h3];simp only[pC];have:=qU hN ht (fun y8=>some y8) N 0 [] (by omega) (by have:=ht.len;omega) (by simp);rw[List.drop_zero,List.nil_append]at this;exact this
def Sb (d b a:Int)(x y z:Int):Prop:=Rd d x y z∧((-b<y∧y<b)∨((y=b∨y= -b)∧x<a))
def Sf (d b:Int)(x y z:Int):Prop:=Rd d x y z∧ -b≤y∧y≤b
theorem fw {N:Nat}(hN:1000000001<N){a b c:Int}(ha: -100000<a)(ha2:a<100000)(hb: -100000<b)(hb2:b<100000)(hc: -100000<c)(hc2:c<100000):Q51.f N a b c=some (eK a b c):=
 Pure.sQ hN ⟨by omega,by omega,by omega⟩
section
variable {d b nn:Int}
theorem s6 (hn:4*nn=b*b-d){a y z:Int}(hy:y*y=b*b):y*y-4*a*z=d↔a*z=nn:=by
 have e:4*a*z=4*(a*z):=by grind
 rw[hy,e];omega
theorem Jl (hn:4*nn=b*b-d)(hb:0≤b){a z:Int}(ha:1≤a)(hab:b≤a)(hs:a*a≤nn):Rd d a b z↔(nn%a=0∧z=nn/a):=by
 constructor
 ·intro h;have e:=(s6 hn (a:=a) (z:=z) rfl).1 h.eq;rw[←e];exact⟨lr _ _,(bt _ (by omega)).symm⟩
 ·rintro⟨h1,rfl⟩;have e:a*(nn/a)=nn:=by have:=l0 nn a;omega
  have hle:a≤nn/a:=Int.le_ediv_of_mul_le (by omega) hs;exact⟨(s6 hn rfl).2 e,by omega,by omega,hab,by omega⟩
theorem Jm (hn:4*nn=b*b-d)(hb:0<b){a z:Int}(ha:1≤a)(hab:b≤a)(hs:a*a≤nn):Rd d a (-b) z↔(nn%a=0∧z=nn/a∧b<a∧a<z):=by
 have hq: -b* -b=b*b:=by grind
 constructor
 ·intro h;have e:=(s6 hn (a:=a) (z:=z) hq).1 h.eq;rw[←e];have:=h.lo;have:=h.last;exact⟨lr _ _,(bt _ (by omega)).symm,by omega,by omega⟩
 ·rintro⟨h1,rfl,h2,h3⟩;have e:a*(nn/a)=nn:=by have:=l0 nn a;omega
  exact⟨(s6 hn hq).2 e,by omega,by omega,by omega,.inl h3⟩
theorem Gu {N:Nat}(hN:1000000001<N)(hd: -65536≤d)(hd0:d<0)(hb:0≤b)(hb2:b≤147)(hn:4*nn=b*b-d):∀(n:Nat) (a:Int) (ks:List (List Int)) (vs:List Int),b≤a→1≤a→a≤256→257-a<n→qG (Sb d b a) ks vs→
  ∃ks' vs',qG (Sf d b) ks' vs'∧∀{T:Type} (K:Int→Int→List (List Int)→List Int→Option T),Q106.l7 N n d b nn a ks vs K=K d b ks' vs'
 |0,a,ks,vs,_,_,_,h,_=>by omega
 |n+1,a,ks,vs,h1,h2,h3,h4,hI=>by
  have hs:=zM (b:=b) (M:=147) (by omega) (by omega);have ha:=zM (b:=a) (M:=256) (by omega) (by omega);have e1:aA (a*a)=a*a:=fA (by omega) (by omega);have e2:aA (a+1)=a+1:=fA (by omega) (by omega);have e3:aA (0-b)= -b:=by rw[show 0-b= -b by omega];exact fA (by omega) (by omega)
  have n0:0≤nn:=by omega
  have hq0:0≤nn/a:=eh n0 (by omega);have hq1:nn/a≤nn:=cy _ n0;have e4:aA (Int.tdiv nn a)=nn/a:=by rw[y5 n0];exact fA (by omega) (by omega)
  have e5:Int.tmod nn a=nn%a:=o0 n0;by_cases hc:a*a≤nn
  ·have ha2:a≤255:=nL (by omega) (by omega);have c1:(!(a==0))=true:=by simp;omega
   have hnext:∀ks' vs',qG (Sb d b (a+1)) ks' vs'→∃ks'' vs'',qG (Sf d b) ks'' vs''∧∀{T:Type} (K:Int→Int→List (List Int)→List Int→Option T),Q106.l7 N n d b nn (a+1) ks' vs' K=K d b ks'' vs'':=
    fun ks' vs' hI'=>Gu hN hd hd0 hb hb2 hn n (a+1) ks' vs' (by omega) (by omega) (by omega) (by omega) hI'
   have hB:=fun z=>Jl (d:=d) (z:=z) hn hb h2 h1 hc;have hM:=fun(h0:0<b) z=>Jm (d:=d) (z:=z) hn h0 h2 h1 hc;have hg:Q51.f N a b (nn/a)=some (eK a b (nn/a)):=fw hN (by omega) (by omega) (by omega) (by omega) (by omega) (by omega);simp only[Q106.l7,e1,e2,e3,e4,e5,decide_eq_true hc,cond_true,c1,hg,pC];by_cases hm:nn%a=0
   ·rw[show(nn%a != 0)=false by simp[hm]];simp only[cond_false];have p1:=hI.put a b (nn/a);have hget:=p1.get (a:=a) (b:=b) (c:=nn/a) (.inr ⟨rfl,rfl,rfl⟩);rw[hget];have one:(¬(0<b∧b<a∧a<nn/a))→qG (Sb d b (a+1)) (yB [a,b,nn/a] ks) (nG [a,b,nn/a] (eK a b (nn/a)) ks vs):=fun hno=>p1.congr fun x y z=>by
     unfold Sb;constructor
     ·rintro(⟨k1,k2⟩|⟨rfl,rfl,rfl⟩)
      ·exact⟨k1,by omega⟩
      ·exact⟨(hB _).2 ⟨hm,rfl⟩,by omega⟩
     ·rintro⟨k1,k2|⟨k2,k3⟩⟩
      ·exact .inl ⟨k1,.inl k2⟩
      ·by_cases hx:x=a
       ·subst hx;rcases k2 with rfl|rfl
        ·exact .inr ⟨rfl,rfl,((hB z).1 k1).2⟩
        ·by_cases h0:0<b
         ·obtain⟨q1,q2,q3,q4⟩:=(hM h0 z).1 k1;rw[q2]at q4;exact absurd ⟨h0,q3,q4⟩ hno
         ·have:b=0:=by omega
          subst this;exact .inr ⟨rfl,rfl,((hB z).1 k1).2⟩
       ·exact .inl ⟨k1,.inr ⟨k2,by omega⟩⟩
    by_cases q1:b>0
    ·by_cases q2:b<a
     ·by_cases q3:a<nn/a
      ·have p2:=p1.put a (-b) (nn/a);rw[lj]at p2;obtain⟨k1,k2,k3,k4⟩:=hnext _ _ (p2.congr (S':=Sb d b (a+1)) fun x y z=>by
        unfold Sb;constructor
        ·rintro((⟨k1,k2⟩|⟨rfl,rfl,rfl⟩)|⟨rfl,rfl,rfl⟩)
         ·exact⟨k1,by omega⟩
         ·exact⟨(hB _).2 ⟨hm,rfl⟩,by omega⟩
         ·exact⟨(hM q1 _).2 ⟨hm,rfl,q2,q3⟩,by omega⟩
        ·rintro⟨k1,k2|⟨k2,k3⟩⟩
         ·exact .inl (.inl ⟨k1,.inl k2⟩)
         ·by_cases hx:x=a
          ·subst hx;rcases k2 with rfl|rfl
           ·exact .inl (.inr ⟨rfl,rfl,((hB z).1 k1).2⟩)
           ·exact .inr ⟨rfl,rfl,((hM q1 z).1 k1).2.1⟩
          ·exact .inl (.inl ⟨k1,.inr ⟨k2,by omega⟩⟩))
       refine⟨k1,k2,k3,fun K=>?_⟩;rw[decide_eq_true q1,decide_eq_true q2,decide_eq_true q3];exact k4 K
      ·obtain⟨k1,k2,k3,k4⟩:=hnext _ _ (one fun h=>q3 h.2.2);refine⟨k1,k2,k3,fun K=>?_⟩;rw[decide_eq_true q1,decide_eq_true q2,decide_eq_false q3];exact k4 K
     ·obtain⟨k1,k2,k3,k4⟩:=hnext _ _ (one fun h=>q2 h.2.1);refine⟨k1,k2,k3,fun K=>?_⟩;rw[decide_eq_true q1,decide_eq_false q2];exact k4 K
    ·obtain⟨k1,k2,k3,k4⟩:=hnext _ _ (one fun h=>q1 h.1);refine⟨k1,k2,k3,fun K=>?_⟩;rw[decide_eq_false q1];exact k4 K
   ·rw[show(nn%a != 0)=true by simp[hm]];simp only[cond_true];exact hnext _ _ (hI.congr fun x y z=>by
     unfold Sb;constructor
     ·rintro⟨k1,k2⟩;exact⟨k1,by omega⟩
     ·rintro⟨k1,k2|⟨k2,k3⟩⟩
      ·exact⟨k1,.inl k2⟩
      ·by_cases hx:x=a
       ·subst hx;rcases k2 with rfl|rfl
        ·exact absurd ((hB z).1 k1).1 hm
        ·by_cases h0:0<b
         ·exact absurd ((hM h0 z).1 k1).1 hm
         ·have:b=0:=by omega
          subst this;exact absurd ((hB z).1 k1).1 hm
       ·exact⟨k1,.inr ⟨k2,by omega⟩⟩)
  ·refine⟨ks,vs,hI.congr fun x y z=>?_,fun K=>?_⟩
   ·unfold Sb Sf;constructor
    ·rintro⟨k1,k2⟩;exact⟨k1,by omega⟩
    ·rintro⟨k1,k2,k3⟩;refine⟨k1,?_⟩;by_cases hy:y=b∨y= -b
     ·refine .inr ⟨hy,?_⟩;have hyy:y*y=b*b:=by rcases hy with rfl|rfl<;>grind
      have e:=(s6 hn hyy).1 k1.eq;have h5:=k1.cge;have h6:=k1.pos;rcases hW x a with h7|h7
      ·exact h7
      ·have g1:=ej (x:=a) (y:=x) (by omega) h7;have g2:x*x≤x*z:=aE h5 (by omega);omega
     ·exact .inl (by omega)
   ·rw[Q106.l7,e1,decide_eq_false hc];rfl
end
theorem C7 {N:Nat}(hN:1000000001<N){d:Int}(hd: -65536≤d)(hd0:d<0)(hd4:d%4=0∨d%4=1):∀(n:Nat) (b:Int) (ks:List (List Int)) (vs:List Int),0≤b→b%2=d%2→b≤149→150-b<n→qG (fun x y z=>Rd d x y z∧ -b<y∧y<b) ks vs→
  ∃ks' vs',qG (Rd d) ks' vs'∧∀{T:Type} (K:List (List Int)→List Int→Option T),Q106.l3 N n d b ks vs K=K ks' vs'
 |0,b,ks,vs,_,_,_,h,_=>by omega
 |n+1,b,ks,vs,h1,h2,h3,h4,hI=>by
  have hs:=zM (b:=b) (M:=149) (by omega) (by omega);have e0:3*b*b=3*(b*b):=by grind
  have e1:aA (3*b)=3*b:=fA (by omega) (by omega);have e2:aA (3*b*b)=3*b*b:=fA (by omega) (by omega);have e3:aA (0-d)= -d:=by rw[show 0-d= -d by omega];exact fA (by omega) (by omega)
  have e4:aA (b*b)=b*b:=fA (by omega) (by omega);have e5:aA (b*b-d)=b*b-d:=fA (by omega) (by omega);have e6:aA (b+2)=b+2:=fA (by omega) (by omega);have e7:aA (Int.tdiv (b*b-d) 4)=(b*b-d)/4:=by rw[y5 (by omega)];exact fA (by omega) (by omega)
  by_cases hc:3*b*b≤ -d
  ·have hb:b≤147:=nL (by omega) (by omega);have hn:4*((b*b-d)/4)=b*b-d:=by
    have hp:(b*b)%4=d%4:=by
     have e:b=2*(b/2)+b%2:=by omega
     generalize b/2=q at e;have hb2:b%2=0∨b%2=1:=by omega
     rcases hb2 with hb2|hb2<;>rw[hb2]at e
     ·have:b*b=4*(q*q):=by rw[e];grind
      omega
     ·have:b*b=4*(q*q+q)+1:=by rw[e];grind
      omega
    omega
   have hmx:tv b 1=if b<1 then 1 else b:=rfl
   obtain⟨k1,v1,r1,r2⟩:=Gu hN hd hd0 h1 hb hn N (tv b 1) ks vs (by rw[hmx];split<;>omega) (by rw[hmx];split<;>omega) (by rw[hmx];split<;>omega) (by rw[hmx];split<;>omega) (hI.congr fun x y z=>by
    unfold Sb;constructor
    ·rintro⟨k1,k2⟩;exact⟨k1,.inl k2⟩
    ·rintro⟨k1,k2|⟨k2,k3⟩⟩
     ·exact⟨k1,k2⟩
     ·have:=k1.lo;have:=k1.hi;have:=k1.pos;rw[hmx]at k3;split at k3<;>omega)
   obtain⟨k2,v2,s1,s2⟩:=C7 hN hd hd0 hd4 n (b+2) k1 v1 (by omega) (by omega) (by omega) (by omega) (r1.congr fun x y z=>by
    unfold Sf;constructor
    ·rintro⟨k1,k2⟩;exact⟨k1,by omega⟩
    ·rintro⟨k1,k2⟩;have:=k1.parity;exact⟨k1,by omega⟩)
   refine⟨k2,v2,s1,fun K=>?_⟩;rw[Q106.l3,e1,e2,e3,decide_eq_true hc,cond_true,e4,e5,e7,r2];simp only[e6];exact s2 K
  ·refine⟨ks,vs,hI.congr fun x y z=>⟨fun h=>h.1,fun h=>⟨h,?_⟩⟩,fun K=>?_⟩
   ·have h5:=h.three;have e8:3*x*x=3*(x*x):=by grind
    have h6:=h.lo;have h7:=h.hi;have h8:=h.pos;rcases hW x b with h9|h9
    ·omega
    ·have:=ej (x:=b) (y:=x) (by omega) h9;omega
   ·rw[Q106.l3,e1,e2,e3,decide_eq_false hc];rfl
theorem F9 {N:Nat}(hN:1000000001<N){d:Int}(hd: -65536≤d)(hd0:d<0)(hd4:d%4=0∨d%4=1):∃ks vs,qG (Rd d) ks vs∧Q106.f N d=some (ks,vs):=by
 have e1:aA (0-d)= -d:=by rw[show 0-d= -d by omega];exact fA (by omega) (by omega)
 have e2:Int.tmod (-d) 2=(-d)%2:=o0 (by omega);obtain⟨ks,vs,h1,h2⟩:=C7 hN hd hd0 hd4 N ((-d)%2) [] [] (by omega) (by omega) (by omega) (by omega) (qG.nil fun x y z h=>by have:=h.1.parity;omega);refine⟨ks,vs,h1,?_⟩;unfold Q106.f;rw[e1,e2];exact h2 _
end Go.Proofs.YtjpdjdhdchjcgaaGreat.Cls
namespace Go.Proofs.YtjpdjdhdchjcgaaGreat.Cls
open Go Go.Proofs.YtjpdjdhdchjcgaaGreat.Ev
open Go.Proofs.YtjpdjdhdchjcgaaGreat.Pure (fA)
theorem qI {R:Type}{n:Nat}{f:Nat→Option R}{r:R}(h0:0<n)(h:∀i,i<n→f i=some r):bY n f=some r:=by
 unfold bY;have hx:0<n∧∃r,∀i,i<n→f i=some r:=⟨h0,r,h⟩
 rw[dif_pos hx];have:=Classical.choose_spec hx.2 0 h0;rw[←this,h 0 h0]
theorem iY {α:Type}:∀(l:List α) (i:Nat) (h:i<l.length),(l[i]::l.eraseIdx i).Perm l
 | [],i,h=>by simp at h
 |a::l,0,_=>.refl _
 |a::l,i+1,h=>by
  have h':i<l.length:=by simpa using h
  exact(List.Perm.swap a l[i] _).trans ((iY l i h').cons a)
theorem wR {n:Int}(h:(Lit.int .i64 n).wf=true): -9223372036854775808≤n∧n<9223372036854775808:=by
 simp only[Lit.wf,IntKind.min,IntKind.max,IntKind.signed,IntKind.bits,if_true,Bool.and_eq_true,decide_eq_true_eq]at h;omega
def mw (ks:List (List Int))(j:Nat):R3:=row (ks.getD j [])
theorem Ad (ks:List (List Int)):(List.range ks.length).map (mw ks)=ks.map row:=by
 apply List.ext_getElem?;intro i;by_cases h:i<ks.length
 ·simp[mw,x6 h,b6,h]
 ·simp[h]
section
variable {d:Int}{ks:List (List Int)}{vs:List Int}
theorem qG.at (h:qG (Rd d) ks vs){j:Nat}(hj:j<ks.length):(ks.getD j []).getD 0 0=(mw ks j).1∧(ks.getD j []).getD 1 0=(mw ks j).2.1∧(ks.getD j []).getD 2 0=(mw ks j).2.2∧vs.getD j 0=eK (mw ks j).1 (mw ks j).2.1 (mw ks j).2.2:=by
 refine⟨rfl,rfl,rfl,?_⟩;obtain⟨a,b,c,h1,h2⟩:=h.sound ks[j] (dk hj);have h3:ks[j]?=some [a,b,c]:=by rw[x6 hj,h1]
 have:=h.val j a b c h3;simp[mw,row,b6,h3,this]
theorem iM {N:Nat}(h:qG (Rd d) ks vs){T:Type}(K:List Int→Option T)(r:T):∀(n:Nat) (rem:List Nat) (X:List R3) (cur:Nat),(∀j∈rem,j<ks.length)→rem.length<n→X.length+rem.length≤45000→
  (∀Y:List R3,Y.Perm (X++(rem.map (mw ks)).filter qP)→K (eB Y)=some r)→Q113.l3 N n (eB X) ks vs ks.length rem cur K=some r
 |0,rem,X,cur,_,h2,_,_=>by omega
 |n+1,rem,X,cur,h1,h2,h3,hK=>by
  rw[Q113.l3];simp only[show Nat.beq ks.length ks.length=true from by simp,cond_true,Bool.true_and];cases hr:rem with
  |nil=>subst hr;simp only[List.isEmpty_nil,cond_true];exact hK X (by simp)
  |cons x0 r0=>
   rw[←hr];have hne:rem.isEmpty=false:=by rw[hr];rfl
   rw[hne,cond_false];refine qI (by rw[hr];simp) fun p hp=>?_;have hg:rem.getD p 0=rem[p]:=by simp[b6,x6 hp]
   have hj:=h1 rem[p] (dk hp);obtain⟨e1,e2,e3,e4⟩:=h.at hj;have hperm:(mw ks rem[p]::(rem.eraseIdx p).map (mw ks)).Perm (rem.map (mw ks)):=by have:=(iY _ _ hp).map (mw ks);simpa using this
   have hlen:(rem.eraseIdx p).length+1=rem.length:=by rw[List.length_eraseIdx];simp[hp];omega
   have hsub:∀j∈rem.eraseIdx p,j<ks.length:=fun j hj=>h1 j (List.mem_of_mem_eraseIdx hj);have hroom:=rR (R:=X) (by omega);have hblt:Nat.blt rem[p] ks.length=true:=by simpa[Nat.blt_eq]using hj
   simp only[hg,hblt,cond_true,e1,e2,e3,e4,hroom,cR];have hf:=hperm.filter qP;cases hq:eK (mw ks rem[p]).1 (mw ks rem[p]).2.1 (mw ks rem[p]).2.2==1 with
   |true=>rw[cond_true];rw[sl (by exact hq)]at hf;refine iM h K r n _ _ _ hsub (by omega) (by simp;omega) fun Y hY=>hK Y (hY.trans ?_);rw[List.append_assoc];exact List.Perm.append_left X hf
   |false=>rw[cond_false];rw[sh (by unfold qP;rw[hq];simp)]at hf;exact iM h K r n _ _ _ hsub (by omega) (by omega) fun Y hY=>hK Y (hY.trans (List.Perm.append_left X hf))
end
theorem B6 {N:Nat}{Y R:List R3}(hp:Y.Perm R)(hs:R.Pairwise (fun a b=>sW a b=true))(hl:Y.length≤45000):Q112.f N (eB Y)=some (eB R):=by
 unfold Q112.f ee;rw[fO,←oL hp.symm hs];have:Nat.blt (eB Y).length 4611686018427387904=true:=by rw[sF];simp[Nat.blt_eq];omega
 rw[this];rfl
def fF (d:Int):Prop:= -65536≤d∧d≤ -3∧(d%4=0∨d%4=1)
theorem rX {N:Nat}(hN:1000000001<N){d:Int}(hd:fF d):∃R,sT (Rd d) R∧Bq R∧Q113.f N d=some (eB (R.filter qP))∧Q111.f N d=some (eB (R.filter qP)):=by
 obtain⟨h1,h2,h3⟩:=hd;obtain⟨R,r1,r2,r3⟩:=uY (N:=N) (by omega) h1 (by omega);obtain⟨s1,s2⟩:=Ar (N:=N) (by omega) h1 (by omega) r1;obtain⟨ks,vs,k1,k2⟩:=F9 hN h1 (by omega) h3;have hp:=k1.perm r1;have hl:ks.length=R.length:=by have:=hp.length_eq;simpa using this
 have hl2:=s2.len;refine⟨R,r1,s2,?_,s1⟩;unfold Q113.f;rw[k2];simp only[pC];refine iM k1 _ _ N _ [] _ (fun j hj=>tp.mp hj) (by simp;omega) (by simp;omega) fun Y hY=>?_;rw[Ad,List.nil_append]at hY;have hY2:=hY.trans (hp.filter qP);have:=hY2.length_eq;have:=tk qP R;rw[B6 hY2 (r1.sorted.filter _) (by omega)];rfl
theorem oI (N:Nat)(d:Int)(hd: -9223372036854775808≤d)(hd1:d<9223372036854775808):(fF d∧Q105.f N d=some 0∧Q107.f N d=some 0)∨(¬fF d∧Q105.f N d=some 80∧Q107.f N d=some 80):=by
 unfold Q105.f Q107.f fF;by_cases q1:d< -65536
 ·refine .inr ⟨by omega,?_,?_⟩
  ·rw[decide_eq_true q1];rfl
  ·rw[decide_eq_true q1,decide_eq_false (by omega)];rfl
 by_cases q2:d> -3
 ·refine .inr ⟨by omega,?_,?_⟩
  ·rw[decide_eq_false q1,decide_eq_true q2];rfl
  ·rw[decide_eq_true q2];rfl
 have e1:aA (0-d)= -d:=by rw[show 0-d= -d by omega];exact fA (by omega) (by omega)
 have e2:Int.tmod (-d) 4=(-d)%4:=o0 (by omega);rw[decide_eq_false q1,decide_eq_false q2,e1,e2];simp only[cond_false];have hm:(-d)%4=0∨(-d)%4=1∨(-d)%4=2∨(-d)%4=3:=by omega
 rcases hm with hm|hm|hm|hm<;>rw[hm]
 ·exact .inl ⟨by omega,rfl,rfl⟩
 ·exact .inr ⟨by omega,rfl,rfl⟩
 ·exact .inr ⟨by omega,rfl,rfl⟩
 ·exact .inl ⟨by omega,rfl,rfl⟩
theorem Bk {N:Nat}(hN:1000000001<N){d:Int}(hd:fF d):∃R,sT (Rd d) R∧Bq R∧Q114.f N d=some (eB (R.filter qP),0)∧Q111.f N d=some (eB (R.filter qP))∧Q115.f N d=some (((R.filter qP).length:Int),0):=by
 obtain⟨R,r1,r2,r3,r4⟩:=rX hN hd;obtain⟨_,h2,_⟩|⟨h1,_⟩:=oI N d (by have:=hd.1;omega) (by have:=hd.2.1;omega)
 ·have hA:Q114.f N d=some (eB (R.filter qP),0):=by
   unfold Q114.f;rw[h2,r3];rfl
  refine⟨R,r1,r2,hA,r4,?_⟩;unfold Q115.f;rw[hA];simp only[pC,nH]
 ·exact absurd hd h1
theorem mJ {N:Nat}{d:Int}(hd0: -9223372036854775808≤d)(hd1:d<9223372036854775808)(hd:¬fF d):Q114.f N d=some ([],80)∧Q115.f N d=some (0,80)∧Q105.f N d=some 80∧Q107.f N d=some 80:=by
 obtain⟨h1,_⟩|⟨_,h2,h3⟩:=oI N d hd0 hd1
 ·exact absurd h1 hd
 ·have hA:Q114.f N d=some ([],80):=by
   unfold Q114.f;rw[h2];rfl
  refine⟨hA,?_,h2,h3⟩;unfold Q115.f;rw[hA];rfl
abbrev N0:Nat:=8589934700
end Go.Proofs.YtjpdjdhdchjcgaaGreat.Cls
namespace Go.Proofs.YtjpdjdhdchjcgaaGreat.Pure
open Go Go.Proofs.YtjpdjdhdchjcgaaGreat.Ev Go.Proofs.YtjpdjdhdchjcgaaGreat.Cls
end Go.Proofs.YtjpdjdhdchjcgaaGreat.Pure
namespace Go.Proofs.YtjpdjdhdchjcgaaGreat.Cls
open Go Go.Proofs.YtjpdjdhdchjcgaaGreat.Ev
open Go.Proofs.YtjpdjdhdchjcgaaGreat.Pure (fA zJ ke fL lC bH eQ bO sV z6 ji cP jG)
theorem wW {d a b c:Int}(hd:fF d)(h:Rd d a b c):zJ a b c∧fL a b∧¬lC a b c:=by
 have h1:=h.small hd.1;have h2:=h.csmall hd.1;have h3:=h.pos;have h4:=h.lo;have h5:=h.hi;have h6:=h.eq;have h7:=h.last;obtain⟨g1,g2,g3⟩:=hd;exact⟨⟨⟨by omega,by omega,by omega⟩,h3,by omega,by omega⟩,⟨h4,h5⟩,by unfold lC;omega⟩
theorem K8 (b:Int):(b*b)%4=0∨(b*b)%4=1:=by
 rcases(show b%2=0∨b%2=1 by omega)with hb|hb
 ·have e2:b=2*(b/2):=by omega
  have e3:b*b=4*((b/2)*(b/2)):=by generalize b/2=q at*;subst e2;grind
  omega
 ·have e2:b=2*(b/2)+1:=by omega
  have e3:b*b=4*((b/2)*(b/2)+(b/2))+1:=by generalize b/2=q at*;subst e2;grind
  omega
theorem mh {a b c:Int}(h:zJ a b c)(h2: -65536≤b*b-4*a*c):fF (b*b-4*a*c):=by
 have e:4*a*c=4*(a*c):=by grind
 have:=K8 b;have:=h.d0;exact⟨h2,by omega,by omega⟩
theorem aU (N:Nat){a b c:Int}(h:zJ a b c):Q47.f N a b c=some (b*b-4*a*c)∧Q69.f N a b c=some (b*b-4*a*c):=by
 have:=bH N a b c;rw[if_pos h.inb,eQ h.inb]at this;exact this
structure Cl (d:Int)(L:List R3):Prop where
 up:L.Pairwise H0
 mem:∀x,x∈L↔Rd d x.1 x.2.1 x.2.2∧eK x.1 x.2.1 x.2.2=1
 len:L.length≤45000
theorem Cl.nodup {d:Int}{L:List R3}(h:Cl d L):L.Nodup:=h.up.imp (fun hx=>D0 hx)
theorem aS {N:Nat}(hN:1000000001<N){d:Int}(hd:fF d):∃L,Cl d L∧Q113.f N d=some (eB L)∧Q111.f N d=some (eB L)∧Q114.f N d=some (eB L,0)∧Q115.f N d=some ((L.length:Int),0):=by
 obtain⟨R,r1,r2,r3,r4,r5⟩:=Bk hN hd;obtain⟨R',s1,s2,s3,s4⟩:=rX hN hd;obtain rfl:=r1.one s1;refine⟨R.filter qP,⟨r1.up.filter _,fun x=>?_,by have:=r2.len;have:=tk qP R;omega⟩,s3,s4,r3,r5⟩;rw[List.mem_filter,r1.mem];unfold qP;rw[beq_iff_eq]
end Go.Proofs.YtjpdjdhdchjcgaaGreat.Cls
namespace Go.Proofs.YtjpdjdhdchjcgaaGreat.Pure
open Go Go.Proofs.YtjpdjdhdchjcgaaGreat.Ev Go.Proofs.YtjpdjdhdchjcgaaGreat.Cls
end Go.Proofs.YtjpdjdhdchjcgaaGreat.Pure
namespace Go.Proofs.YtjpdjdhdchjcgaaGreat.Grp
structure AG (G:Type) where
 mul:G→G→G
 one:G
 inv:G→G
 assoc:∀x y z,mul (mul x y) z=mul x (mul y z)
 comm:∀x y,mul x y=mul y x
 one_mul:∀x,mul one x=x
 inv_mul:∀x,mul (inv x) x=one
section
variable {G:Type}{A:AG G}
theorem AG.mul_one (A:AG G)(x:G):A.mul x A.one=x:=by rw[A.comm,A.one_mul]
theorem AG.left (A:AG G){x y z:G}(h:A.mul x y=A.mul x z):y=z:=by
 have:=congrArg (A.mul (A.inv x)) h;rwa[←A.assoc,←A.assoc,A.inv_mul,A.one_mul,A.one_mul]at this
theorem AG.inv_of (A:AG G){x y:G}(h:A.mul x y=A.one):x=A.inv y:=by
 apply A.left (x:=y);rw[A.comm,h,A.comm,A.inv_mul]
theorem AG.four (A:AG G)(x y z w:G):A.mul (A.mul x y) (A.mul z w)=A.mul (A.mul x z) (A.mul y w):=by
 rw[A.assoc,A.assoc,←A.assoc y,A.comm y z,A.assoc z]
def pw (A:AG G)(x:G):Nat→G
 |0=>A.one
 |n+1=>A.mul (pw A x n) x
theorem aI (x:G):pw A x 1=x:=A.one_mul x
theorem zN (x:G)(m:Nat):∀n,pw A x (m+n)=A.mul (pw A x m) (pw A x n)
 |0=>(A.mul_one _).symm
 |n+1=>by show A.mul (pw A x (m+n)) x=A.mul (pw A x m) (A.mul (pw A x n) x);rw[zN x m n,A.assoc]
theorem sI:∀n,pw A A.one n=A.one
 |0=>rfl
 |n+1=>by show A.mul (pw A A.one n) A.one=A.one;rw[sI n,A.one_mul]
theorem fH (x:G)(m:Nat):∀n,pw A x (m*n)=pw A (pw A x m) n
 |0=>rfl
 |n+1=>by show pw A x (m*n+m)=A.mul (pw A (pw A x m) n) (pw A x m);rw[zN,fH x m n]
theorem xN (x y:G):∀n,pw A (A.mul x y) n=A.mul (pw A x n) (pw A y n)
 |0=>(A.one_mul _).symm
 |n+1=>by show A.mul (pw A (A.mul x y) n) (A.mul x y)=A.mul (A.mul (pw A x n) x) (A.mul (pw A y n) y);rw[xN x y n,A.four]
theorem jF {x:G}{n:Nat}(h:pw A x n=A.one){k:Nat}(hk:n∣k):pw A x k=A.one:=by
 obtain⟨c,rfl⟩:=hk;rw[fH,h,sI]
theorem aO {x:G}{n:Nat}(h:pw A x n=A.one)(k:Nat):pw A x (k%n)=pw A x k:=by
 have:=zN (A:=A) x (n*(k/n)) (k%n);rw[Nat.div_add_mod,jF h ⟨_,rfl⟩,A.one_mul]at this;exact this.symm
def bT (A:AG G):List G→G
 | []=>A.one
 |x::l=>A.mul x (bT A l)
theorem ug {l l':List G}(h:l.Perm l'):bT A l=bT A l':=by
 induction h with
 |nil=>rfl
 |cons x _ ih=>simp only[bT,ih]
 |swap x y l=>simp only[bT];rw[←A.assoc,A.comm y x,A.assoc]
 |trans _ _ ih1 ih2=>exact ih1.trans ih2
theorem dj (x:G):∀l:List G,bT A (l.map (A.mul x))=A.mul (pw A x l.length) (bT A l)
 | []=>(A.one_mul _).symm
 |y::l=>by simp only[ec,bT,x4];rw[dj x l];show _=A.mul (A.mul (pw A x l.length) x) _;rw[A.four,A.comm x]
theorem Du {L:List G}(hn:L.Nodup){f:G→G}(hf:∀x∈L,f x∈L)(hi:∀x y,f x=f y→x=y):(L.map f).Perm L:=by
 have hnd:(L.map f).Nodup:=by rw[List.Nodup,ba];exact hn.imp (fun hne e=>hne (hi _ _ e))
 have hsub:∀(l m:List G),l.Nodup→(∀x∈l,x∈m)→m.length≤l.length→∀x∈m,x∈l:=by
  classical
  intro l;induction l with
  |nil=>intro m _ _ h3 x hx;have:m=[]:=ss.mp (by simpa using h3);subst this;exact hx
  |cons a l ih=>
   intro m h1 h2 h3 x hx;have ha:a∈m:=h2 a (by simp);rw[List.nodup_cons]at h1;by_cases hxa:x=a
   ·subst hxa;simp
   ·refine zE _ (ih (m.erase a) h1.2 (fun y hy=>?_) ?_ x ?_)
    ·have:y≠a:=fun e=>h1.1 (e▸hy);exact(tx this).mpr (h2 y (zE _ hy))
    ·rw[List.length_erase_of_mem ha];simp only[x4]at h3;omega
    ·exact(tx hxa).mpr hx
 refine(ae hnd hn).mpr fun x=>⟨fun hx=>?_,fun hx=>?_⟩
 ·obtain⟨y,hy,rfl⟩:=r7.mp hx;exact hf y hy
 ·refine hsub (L.map f) L hnd (fun y hy=>?_) (by simp) x hx;obtain⟨z,hz,rfl⟩:=r7.mp hy;exact hf z hz
structure kj (L:List G):Prop where
 nd:L.Nodup
 all:∀x:G,x∈L
theorem lG {L:List G}(h:kj L)(x:G):pw A x L.length=A.one:=by
 have hp:=ug (A:=A) (Du (f:=A.mul x) h.nd (fun y _=>h.all _) (fun y z e=>A.left e));rw[dj]at hp;apply A.left (x:=bT A L);rw[A.comm,hp,A.mul_one]
theorem kj.pos {L:List G}(A:AG G)(h:kj L):0<L.length:=List.length_pos_of_mem (h.all A.one)
theorem Cx {S:Nat→Prop}(hs:∀a b,S a→S b→S (a%b)):∀n,0<n→S n→∃m,0<m∧S m∧∀k,S k→m∣k:=by
 intro n;induction n using Nat.strongRecOn with
 |ind n ih=>
  intro hn hS;by_cases hx:∃k,S k∧k%n≠0
  ·obtain⟨k,h1,h2⟩:=hx;exact ih (k%n) (Nat.mod_lt _ hn) (n5 h2) (hs k n h1 hS)
  ·refine⟨n,hn,hS,fun k hk=>x7 ?_⟩;exact Classical.byContradiction fun hne=>hx ⟨k,hk,hne⟩
def aV (A:AG G)(x:G)(n:Nat):Prop:=0<n∧∀k,pw A x k=A.one↔n∣k
theorem aV.kill {x:G}{n:Nat}(h:aV A x n):pw A x n=A.one:=(h.2 n).mpr (fp n)
theorem aV.uniq {x:G}{n m:Nat}(h:aV A x n)(k:aV A x m):n=m:=Nat.dvd_antisymm ((h.2 m).mp k.kill) ((k.2 n).mp h.kill)
theorem jR {x:G}{n:Nat}(hn:0<n)(h:pw A x n=A.one):∃m,aV A x m:=by
 obtain⟨m,h1,h2,h3⟩:=Cx (S:=fun k=>pw A x k=A.one) (fun a b ha hb=>by show pw A x (a%b)=A.one;rw[aO hb];exact ha) n hn h;exact⟨m,h1,fun k=>⟨h3 k,fun hk=>jF h2 hk⟩⟩
def Im (ps:List Nat)(n:Nat):Prop:=∀m,1<m→m∣n→∃p∈ps,p∣m
theorem Im.dvd {ps:List Nat}{n m:Nat}(h:Im ps n)(hm:m∣n):Im ps m:=fun k h1 h2=>h k h1 (y3 h2 hm)
theorem I6 {x:G}{n:Nat}{ps:List Nat}(hn:0<n)(h:pw A x n=A.one)(hc:Im ps n)(hp:∀p∈ps,p∣n→pw A x (n/p)≠A.one):aV A x n:=by
 obtain⟨m,hm⟩:=jR hn h;obtain⟨c,rfl⟩:=(hm.2 n).mp h;by_cases hc1:c=1
 ·subst hc1;simpa using hm
 ·exfalso;have hc0:0<c:=n5 (fun e=>by subst e;simp at hn);obtain⟨p,h1,q,rfl⟩:=hc c (by omega) ⟨m,o4 _ _⟩;refine hp p h1 ⟨m*q,by rw[pb]⟩ ?_;have hp0:0<p:=n5 (fun e=>by subst e;simp at hn);rw[pb,cb _ hp0];exact jF hm.kill ⟨q,rfl⟩
end
section
variable {G:Type}{A:AG G}
def val (A:AG G):List (G×Nat)→List Nat→G
 |g::gs,e::es=>A.mul (pw A g.1 e) (val A gs es)
 |_,_=>A.one
def In (A:AG G)(gs:List (G×Nat))(x:G):Prop:=∃es:List Nat,es.length=gs.length∧val A gs es=x
def Dv:List (G×Nat)→List Nat→Prop
 |g::gs,e::es=>g.2∣e∧Dv gs es
 |_,_=>True
structure Uq (A:AG G)(gs:List (G×Nat)):Prop where
 ord:∀g∈gs,0<g.2∧pw A g.1 g.2=A.one
 dv:∀es:List Nat,es.length=gs.length→val A gs es=A.one→Dv gs es
theorem xF (es:List Nat):val A [] es=A.one:=by cases es<;>rfl
theorem sL:∀{gs hs:List (G×Nat)} {es fs:List Nat},es.length=gs.length→val A (gs++hs) (es++fs)=A.mul (val A gs es) (val A hs fs)
 | [],hs,[],fs,_=>by rw[xF];exact(A.one_mul _).symm
 |g::gs,hs,e::es,fs,h=>by simp only[qo,val];rw[sL (gs:=gs) (es:=es) (by simpa using h),A.assoc]
 | [],_,_::_,_,h=>by simp at h
 |_::_,_,[],_,h=>by simp at h
theorem Dv.app:∀{gs hs:List (G×Nat)} {es fs:List Nat},es.length=gs.length→(Dv (gs++hs) (es++fs)↔Dv gs es∧Dv hs fs)
 | [],hs,[],fs,_=>by simp[Dv]
 |g::gs,hs,e::es,fs,h=>by simp only[qo,Dv];rw[Dv.app (gs:=gs) (es:=es) (by simpa using h),and_assoc]
 | [],_,_::_,_,h=>by simp at h
 |_::_,_,[],_,h=>by simp at h
theorem lT (g:G×Nat)(e:Nat):val A [g] [e]=pw A g.1 e:=A.mul_one _
theorem xP:∀{gs:List (G×Nat)} {es:List Nat},es.length=gs.length→val A gs.reverse es.reverse=val A gs es
 | [],[],_=>rfl
 |g::gs,e::es,h=>by
  have h':es.length=gs.length:=by simpa using h
  simp only[List.reverse_cons];rw[sL (by simpa using h'),xP h',lT,A.comm];rfl
 | [],_::_,h=>by simp at h
 |_::_,[],h=>by simp at h
theorem Dv.reverse:∀{gs:List (G×Nat)} {es:List Nat},es.length=gs.length→(Dv gs.reverse es.reverse↔Dv gs es)
 | [],[],_=>Iff.rfl
 |g::gs,e::es,h=>by
  have h':es.length=gs.length:=by simpa using h
  simp only[List.reverse_cons];rw[Dv.app (by simpa using h'),Dv.reverse h'];simp only[Dv,and_true];exact And.comm
 | [],_::_,h=>by simp at h
 |_::_,[],h=>by simp at h
theorem Uq.reverse {gs:List (G×Nat)}(h:Uq A gs):Uq A gs.reverse:=by
 refine⟨fun g hg=>h.ord g (by simpa using hg),fun es he hv=>?_⟩;have hl:es.reverse.length=gs.length:=by simpa using he
 have h1:=xP (A:=A) hl;rw[ua,hv]at h1;have:=(Dv.reverse hl).mpr (h.dv _ hl h1.symm);rwa[ua]at this
theorem In.reverse {gs:List (G×Nat)}{x:G}(h:In A gs x):In A gs.reverse x:=by
 obtain⟨es,h1,h2⟩:=h;exact⟨es.reverse,by simpa using h1,by rw[xP h1];exact h2⟩
def oX:List Nat→List Nat→List Nat
 |a::l,b::r=>(a+b)::oX l r
 |_,_=>[]
theorem pX:∀{a b:List Nat},a.length=b.length→(oX a b).length=a.length
 | [],[],_=>rfl
 |_::a,_::b,h=>by simp only[oX,x4];rw[pX (by simpa using h)]
theorem jt:∀{gs:List (G×Nat)} {es fs:List Nat},es.length=gs.length→fs.length=gs.length→val A gs (oX es fs)=A.mul (val A gs es) (val A gs fs)
 | [],[],[],_,_=>(A.one_mul _).symm
 |g::gs,e::es,f::fs,h,k=>by simp only[oX,val];rw[jt (gs:=gs) (by simpa using h) (by simpa using k),zN,A.four]
 | [],_::_,_,h,_=>by simp at h
 | [],[],_::_,_,k=>by simp at k
 |_::_,[],_,h,_=>by simp at h
 |_::_,_::_,[],_,k=>by simp at k
theorem fM (k:Nat):∀{gs:List (G×Nat)} {es:List Nat},val A gs (es.map (· *k))=pw A (val A gs es) k
 | [],es=>by rw[xF,xF,sI]
 |g::gs,[]=>by show A.one=pw A A.one k;rw[sI]
 |g::gs,e::es=>by simp only[ec,val];rw[fM k,xN,fH]
theorem In.mul {gs:List (G×Nat)}{x y:G}(h:In A gs x)(k:In A gs y):In A gs (A.mul x y):=by
 obtain⟨es,h1,rfl⟩:=h;obtain⟨fs,k1,rfl⟩:=k;exact⟨oX es fs,by rw[pX (by omega),h1],jt h1 k1⟩
theorem In.pw {gs:List (G×Nat)}{x:G}(h:In A gs x)(n:Nat):In A gs (pw A x n):=by
 obtain⟨es,h1,rfl⟩:=h;exact⟨es.map (· *n),by simpa using h1,fM n⟩
theorem yP:∀(gs:List (G×Nat)) (n:Nat),val A gs (List.replicate n 0)=A.one
 | [],n=>xF _
 |g::gs,0=>rfl
 |g::gs,n+1=>by simp only[List.replicate_succ,val];rw[yP gs n];exact A.one_mul _
theorem In.one (gs:List (G×Nat)):In A gs A.one:=⟨List.replicate gs.length 0,by simp,yP _ _⟩
theorem In.app_left {gs hs:List (G×Nat)}{x:G}(h:In A gs x):In A (gs++hs) x:=by
 obtain⟨es,h1,rfl⟩:=h;exact⟨es++List.replicate hs.length 0,by simp[h1],by rw[sL h1,yP,A.mul_one]⟩
theorem In.app_iff {gs:List (G×Nat)}{g:G×Nat}{x:G}:In A (gs++[g]) x↔∃y e,In A gs y∧x=A.mul y (Grp.pw A g.1 e):=by
 constructor
 ·rintro⟨es,h1,rfl⟩;have hne:es≠ []:=fun e=>by subst e;simp at h1
  rw[←lb hne]at h1⊢;have h2:es.dropLast.length=gs.length:=by simp at h1⊢;omega
  exact⟨_,_,⟨_,h2,rfl⟩,by rw[sL h2,lT]⟩
 ·rintro⟨_,e,⟨es,h1,rfl⟩,rfl⟩;exact⟨es++[e],by simp[h1],by rw[sL h1,lT]⟩
theorem In.cancel {gs:List (G×Nat)}{n:Nat}(hn:0<n)(hk:∀x:G,Grp.pw A x n=A.one){x y:G}(h:In A gs (A.mul x y))(k:In A gs y):In A gs x:=by
 have:=h.mul (k.pw (n-1));rw[A.assoc]at this;have e:A.mul y (Grp.pw A y (n-1))=A.one:=by have h1:=zN (A:=A) y 1 (n-1);rw[aI]at h1;rw[←h1,vt (by omega),hk]
 rwa[e,A.mul_one]at this
theorem Uq.snoc {gs:List (G×Nat)}(h:Uq A gs){n:Nat}(hn:0<n)(hk:∀x:G,Grp.pw A x n=A.one){c:G}{m:Nat}(ho:aV A c m)(hi:∀e,In A gs (Grp.pw A c e)→Grp.pw A c e=A.one):Uq A (gs++[(c,m)]):=by
 refine⟨fun g hg=>?_,fun es he hv=>?_⟩
 ·simp only[b7,hV]at hg;rcases hg with hg|rfl
  ·exact h.ord g hg
  ·exact⟨ho.1,ho.kill⟩
 ·have hne:es≠ []:=fun e=>by subst e;simp at he
  rw[←lb hne]at he hv⊢;have h2:es.dropLast.length=gs.length:=by simp at he⊢;omega
  rw[sL h2,lT]at hv;have hin:In A gs (Grp.pw A c (es.getLast hne)):=by refine In.cancel hn hk (y:=val A gs es.dropLast) ?_ ⟨_,h2,rfl⟩;rw[A.comm,hv];exact In.one _
  have h1:=hi _ hin;rw[h1,A.mul_one]at hv;rw[Dv.app h2];exact⟨h.dv _ h2 hv,⟨(ho.2 _).mp h1,trivial⟩⟩
def oE (p:Nat):Prop:=1<p∧∀m,m∣p→m=1∨m=p
theorem oE.cop {p m:Nat}(h:oE p)(hm:¬p∣m):Nat.gcd m p=1:=by
 rcases h.2 _ (Nat.gcd_dvd_right m p)with h1|h1
 ·exact h1
 ·exact absurd (h1▸Nat.gcd_dvd_left m p) hm
theorem gd {p:Nat}(hp:oE p):∀(j g:Nat),g∣p^j→g≠p^j→0<j∧g∣p^(j-1)
 |0,g,h,hne=>absurd (kd.mp (by simpa using h)) (by simpa using hne)
 |j+1,g,h,hne=>by
  refine⟨by omega,?_⟩;show g∣p^j;by_cases hg:p∣g
  ·obtain⟨g',rfl⟩:=hg;have hp0:0<p:=by have:=hp.1;omega
   rw[r9,o4 (p^j)]at h;have h':=Nat.dvd_of_mul_dvd_mul_left hp0 h;by_cases hne':g'=p^j
   ·exact absurd (by rw[hne',r9,o4]) hne
   ·obtain⟨h1,h2⟩:=gd hp j g' h' hne';have:p^j=p*p^(j-1):=by rw[←Nat.pow_succ',bw,y6 h1]
    rw[this];exact Nat.mul_dvd_mul_left p h2
  ·have hc:Nat.Coprime g p:=hp.cop hg;rw[r9]at h;exact hc.dvd_of_dvd_mul_right h
theorem aZ {gs:List (G×Nat)}{n:Nat}(hn:0<n)(hk:∀x:G,Grp.pw A x n=A.one){p j:Nat}(hp:oE p){c:G}(ho:aV A c (p^j))(hj:0<j)(hi:¬In A gs (Grp.pw A c (p^j/p))):∀e,In A gs (Grp.pw A c e)→Grp.pw A c e=A.one:=by
 intro e he;have hp0:0<p:=by have:=hp.1;omega
 obtain⟨m,h1,h2,h3⟩:=Cx (S:=fun k=>In A gs (Grp.pw A c k)) (fun a b ha hb=>by
  show In A gs (Grp.pw A c (a%b));have e1:Grp.pw A c a=A.mul (Grp.pw A c (a%b)) (Grp.pw A (Grp.pw A c b) (a/b)):=by rw[←fH,←zN,Nat.mod_add_div]
  have ha':In A gs (Grp.pw A c a):=ha;rw[e1]at ha';exact In.cancel hn hk ha' (In.pw hb _)) (p^j) (Nat.pow_pos hp0) (by show In A gs (Grp.pw A c (p^j));rw[ho.kill];exact In.one _)
 by_cases hm:m=p^j
 ·exact(ho.2 e).mpr (hm▸h3 e he)
 ·exfalso;have hd:m∣p^j:=h3 _ (by show In A gs (Grp.pw A c (p^j));rw[ho.kill];exact In.one _);obtain⟨_,q,hq⟩:=gd hp j m hd hm;apply hi;have:p^j/p=m*q:=by
   rw[←hq];have:p^j=p^(j-1)*p:=by rw[←r9,bw,y6 hj]
   rw[this,mb _ hp0]
  rw[this,fH];exact In.pw h2 q
theorem Iz {p q:Nat}(hp0:0<p):∀{gs:List (G×Nat)},Uq A gs→(∀g∈gs,q*p∣g.2)→∀x,In A gs x→Grp.pw A x p=A.one→∃y,In A gs y∧x=Grp.pw A y q:=by
 intro gs h hd x hx h1;obtain⟨es,e1,rfl⟩:=hx;rw[←fM]at h1;have h2:=h.dv _ (by simpa using e1) h1;have key:∀(gs:List (G×Nat)) (es:List Nat),es.length=gs.length→(∀g∈gs,q*p∣g.2)→Dv gs (es.map (· *p))→∃fs:List Nat,fs.length=gs.length∧es=fs.map (· *q):=by
  intro gs;induction gs with
  |nil=>intro es h1 _ _;have:es=[]:=ss.mp (by simpa using h1);subst this;exact⟨[],rfl,rfl⟩
  |cons g gs ih=>
   intro es h1 h2 h3;cases es with
   |nil=>simp at h1
   |cons e es=>simp only[ec,Dv]at h3;obtain⟨fs,f1,f2⟩:=ih es (by simpa using h1) (fun g hg=>h2 g (zE _ hg)) h3.2;have h4:q*p∣e*p:=y3 (h2 g (by simp)) h3.1;obtain⟨f,hf⟩:=Nat.dvd_of_mul_dvd_mul_right hp0 h4;exact⟨f::fs,by simp[f1],by rw[f2,ec,hf,o4]⟩
 obtain⟨fs,f1,f2⟩:=key gs es e1 hd h2;exact⟨_,⟨fs,f1,rfl⟩,by rw[f2,fM]⟩
end
section
variable {G:Type}{A:AG G}
noncomputable def gr (A:AG G)(p:Nat):List (G×Nat)→List (G×Nat)→List (G×Nat)
 |out,[]=>out
 |out,c::rs=>by classical exact if In A out (pw A c.1 (c.2/p))then gr A p out rs else gr A p (out++[c]) rs
def Pp (A:AG G)(p:Nat)(g:G×Nat):Prop:=∃j,0<j∧g.2=p^j∧aV A g.1 g.2
structure Jc (A:AG G)(p:Nat)(out rs f:List (G×Nat)):Prop where
 uq:Uq A f
 sub:∀g∈f,g∈out∨g∈rs
 desc:f.Pairwise (fun a b=>b.2≤a.2)
 up:∀x,In A out x→In A f x
 root:∀r∈rs,∃y,In A f y∧pw A r.1 (r.2/p)=pw A y (r.2/p)
theorem j4 {p a b:Nat}(hp:1<p)(h:p^a≤p^b):p^a∣p^b:=by
 refine ta p ?_;exact(Nat.pow_le_pow_iff_right hp).mp h
theorem Co {n p:Nat}(hn:0<n)(hk:∀x:G,pw A x n=A.one)(hp:oE p):∀(rs out:List (G×Nat)),Uq A out→(∀g∈out,Pp A p g)→(∀r∈rs,Pp A p r)→out.Pairwise (fun a b=>b.2≤a.2)→rs.Pairwise (fun a b=>b.2≤a.2)→(∀g∈out,∀r∈rs,r.2≤g.2)→Jc A p out rs (gr A p out rs)
 | [],out,h1,_,_,h4,_,_=>⟨h1,fun g hg=>.inl hg,h4,fun _ h=>h,fun r hr=>by cases hr⟩
 |c::rs,out,h1,h2,h3,h4,h5,h6=>by
  have hp0:0<p:=by have:=hp.1;omega
  rw[lx]at h5;obtain⟨j,j1,j2,j3⟩:=h3 c (by simp);have h3':∀r∈rs,Pp A p r:=fun r hr=>h3 r (zE _ hr);rw[gr];split
  ·rename_i hin;have r:=Co hn hk hp rs out h1 h2 h3' h4 h5.2 (fun g hg r hr=>h6 g hg r (zE _ hr));refine⟨r.uq,fun g hg=>(r.sub g hg).imp id (zE _),r.desc,r.up,fun x hx=>?_⟩;rcases um.mp hx with rfl|hx
   ·have hq:x.2=x.2/p*p:=by
     rw[j2,show p^j=p^(j-1)*p by rw[←r9,bw,y6 j1],mb _ hp0]
    obtain⟨y,y1,y2⟩:=Iz (q:=x.2/p) hp0 h1 (fun g hg=>by rw[←hq];obtain⟨i,i1,i2,i3⟩:=h2 g hg;have:=h6 g hg x (by simp);rw[i2,j2]at this⊢;exact j4 hp.1 this) _ hin (by rw[←fH,←hq];exact j3.kill);exact⟨y,r.up y y1,y2⟩
   ·exact r.root x hx
  ·rename_i hin;have hu:Uq A (out++[c]):=Uq.snoc h1 hn hk j3 (aZ hn hk hp (j2▸j3) j1 (j2▸hin));have r:=Co hn hk hp rs (out++[c]) hu (fun g hg=>by
     simp only[b7,hV]at hg;rcases hg with hg|rfl
     ·exact h2 g hg
     ·exact⟨j,j1,j2,j3⟩) h3' (by
     rw[ds];exact⟨h4,by simp,fun a ha b hb=>by simp only[hV]at hb;subst hb;exact h6 a ha b (by simp)⟩) h5.2 (fun g hg r hr=>by
     simp only[b7,hV]at hg;rcases hg with hg|rfl
     ·exact h6 g hg r (zE _ hr)
     ·exact h5.1 r hr)
   refine⟨r.uq,fun g hg=>?_,r.desc,fun x hx=>r.up x hx.app_left,fun x hx=>?_⟩
   ·rcases r.sub g hg with h|h
    ·simp only[b7,hV]at h;rcases h with h|rfl
     ·exact .inl h
     ·exact .inr (by simp)
    ·exact .inr (zE _ h)
   ·rcases um.mp hx with rfl|hx
    ·exact⟨x.1,r.up _ (In.app_iff.mpr ⟨A.one,1,In.one _,by rw[aI,A.one_mul]⟩),rfl⟩
    ·exact r.root x hx
theorem In.kill {s:Nat}:∀{gs:List (G×Nat)},(∀g∈gs,Grp.pw A g.1 s=A.one)→∀{x:G},In A gs x→Grp.pw A x s=A.one:=by
 intro gs h x hx;obtain⟨es,hl,rfl⟩:=hx;clear hl;induction gs generalizing es with
 |nil=>rw[xF,sI]
 |cons g gs ih=>
  cases es with
  |nil=>exact sI _
  |cons e es=>simp only[val];rw[xN,ih (fun g hg=>h g (zE _ hg)),A.mul_one,←fH,o4,fH,h g (by simp),sI]
structure fh (A:AG G)(s:Nat)(gs:List (G×Nat)):Prop where
 uq:Uq A gs
 big:∀g∈gs,1<g.2∧g.2∣s
 desc:gs.Pairwise (fun a b=>b.2∣a.2)
 all:∀x,pw A x s=A.one→In A gs x
theorem vW {n p a:Nat}(hn:0<n)(hk:∀x:G,pw A x n=A.one)(hp:oE p){rs:List (G×Nat)}(h1:rs.Pairwise (fun a b=>b.2≤a.2))
  (h2:∀r∈rs,r.1≠A.one∧pw A r.1 (p^a)=A.one∧aV A r.1 r.2)(h3:∀x,x≠A.one→pw A x (p^a)=A.one→∃m,(x,m)∈rs):fh A (p^a) (gr A p [] rs):=by
 have hp0:0<p:=by have:=hp.1;omega
 have hpw:∀(k m:Nat),m∣p^k→∃j,m=p^j:=by
  intro k;induction k with
  |zero=>intro m hm;exact⟨0,by simpa using hm⟩
  |succ k ih=>
   intro m hm;by_cases e:m=p^(k+1)
   ·exact⟨_,e⟩
   ·exact ih m (gd hp _ _ hm e).2
 have hP:∀r∈rs,Pp A p r:=fun r hr=>by obtain⟨q1,q2,q3⟩:=h2 r hr;obtain⟨j,hj⟩:=hpw a _ ((q3.2 _).mp q2);refine⟨j,n5 fun e=>q1 ?_,hj,q3⟩;subst e;have:=q3.kill;rw[hj]at this;rwa[vy,aI]at this
 have r:=Co hn hk hp rs [] ⟨fun g hg=>(by cases hg),fun es h _=>(by cases es<;>trivial)⟩ (fun g hg=>(by cases hg)) hP .nil h1 (fun g hg=>(by cases hg));have hsub:∀g∈gr A p [] rs,g∈rs:=fun g hg=>(r.sub g hg).elim (fun h=>by cases h) id;refine⟨r.uq,fun g hg=>?_,?_,?_⟩
 ·obtain⟨j,j1,j2,j3⟩:=hP g (hsub g hg);refine⟨by rw[j2];exact Nat.one_lt_pow (by omega) hp.1,(j3.2 _).mp (h2 g (hsub g hg)).2.1⟩
 ·refine r.desc.imp_of_mem fun{x y} hx hy hle=>?_;obtain⟨j,j1,j2,j3⟩:=hP x (hsub x hx);obtain⟨i,i1,i2,i3⟩:=hP y (hsub y hy);rw[i2,j2]at hle⊢;exact j4 hp.1 hle
 ·have key:∀(j:Nat) (x:G),j≤a→pw A x (p^j)=A.one→In A (gr A p [] rs) x:=by
   intro j;induction j using Nat.strongRecOn with
   |ind j ih=>
    intro x hj hx;by_cases hx1:x=A.one
    ·subst hx1;exact In.one _
    obtain⟨m,hm⟩:=h3 x hx1 (jF hx (ta p hj));obtain⟨i,i1,i2,i3⟩:=hP _ hm;obtain⟨y,y1,y2⟩:=r.root _ hm;simp only at i2 i3 y2;subst i2;have hij:i≤j:=(Nat.pow_dvd_pow_iff_le_right hp.1).mp ((i3.2 _).mp hx);have hq:p^i/p=p^(i-1):=by rw[show p^i=p^(i-1)*p by rw[←r9,bw,y6 i1],mb _ hp0]
    rw[hq]at y2;have hy:pw A (A.inv y) (p^(i-1))=A.inv (pw A y (p^(i-1))):=by apply A.inv_of;rw[←xN,A.inv_mul,sI]
    have hw:=ih (i-1) (by omega) (A.mul x (A.inv y)) (by omega) (by rw[xN,hy,y2,A.comm,A.inv_mul]);have:=hw.mul y1;rwa[A.assoc,A.inv_mul,A.mul_one]at this
  exact fun x hx=>key a x (y4 _) hx
def zm (A:AG G):List (G×Nat)→List (G×Nat)→List (G×Nat)
 | [],ps=>ps
 |o::os,[]=>o::os
 |o::os,c::ps=>(A.mul o.1 c.1,o.2*c.2)::zm A os ps
theorem ju:∀(os ps:List (G×Nat)) (es:List Nat),val A (zm A os ps) es=A.mul (val A os es) (val A ps es)
 | [],ps,es=>by rw[zm,xF,A.one_mul]
 |o::os,[],es=>by rw[zm,xF,A.mul_one]
 |o::os,c::ps,[]=>(A.one_mul _).symm
 |o::os,c::ps,e::es=>by simp only[zm,val];rw[ju os ps es,xN,A.four]
theorem Dv.zm:∀(os ps:List (G×Nat)) (es:List Nat),(∀o∈os,∀c∈ps,Nat.Coprime o.2 c.2)→Dv os es→Dv ps es→Dv (zm A os ps) es
 | [],ps,es,_,_,h=>h
 |o::os,[],es,_,h,_=>h
 |o::os,c::ps,[],_,_,_=>trivial
 |o::os,c::ps,e::es,h,h1,h2=>⟨(h o (by simp) c (by simp)).mul_dvd_of_dvd_of_dvd h1.1 h2.1,Dv.zm os ps es (fun o ho c hc=>h o (zE _ ho) c (zE _ hc)) h1.2 h2.2⟩
theorem qh:∀(gs:List (G×Nat)) (es:List Nat),val A gs (es.take gs.length)=val A gs es
 | [],es=>by rw[xF,xF]
 |g::gs,[]=>rfl
 |g::gs,e::es=>by simp only[x4,vd,val];rw[qh gs es]
theorem Dv.take:∀(gs:List (G×Nat)) (es:List Nat),Dv gs (es.take gs.length)→Dv gs es
 | [],es,_=>by cases es<;>trivial
 |g::gs,[],_=>trivial
 |g::gs,e::es,h=>by simp only[x4,vd,Dv]at h;exact⟨h.1,Dv.take gs es h.2⟩
theorem Uq.dv' {gs:List (G×Nat)}(h:Uq A gs){es:List Nat}(hl:gs.length≤es.length)(hv:val A gs es=A.one):Dv gs es:=
 Dv.take gs es (h.dv _ (by simp;omega) (by rw[qh];exact hv))
theorem jy:∀(os ps:List (G×Nat)),(zm A os ps).length=max os.length ps.length
 | [],ps=>by simp[zm]
 |o::os,[]=>by simp[zm]
 |o::os,c::ps=>by simp only[zm,x4];rw[jy os ps];omega
theorem ka:∀{os ps:List (G×Nat)} {g:G×Nat},g∈zm A os ps→(g∈os)∨(g∈ps)∨∃o∈os,∃c∈ps,g=(A.mul o.1 c.1,o.2*c.2)
 | [],ps,g,h=>.inr (.inl h)
 |o::os,[],g,h=>.inl h
 |o::os,c::ps,g,h=>by
  rcases um.mp h with rfl|h
  ·exact .inr (.inr ⟨o,by simp,c,by simp,rfl⟩)
  ·rcases ka h with h|h|⟨o',h1,c',h2,h3⟩
   ·exact .inl (zE _ h)
   ·exact .inr (.inl (zE _ h))
   ·exact .inr (.inr ⟨o',zE _ h1,c',zE _ h2,h3⟩)
theorem yn:∀{os ps:List (G×Nat)},os.Pairwise (fun a b=>b.2∣a.2)→ps.Pairwise (fun a b=>b.2∣a.2)→(zm A os ps).Pairwise (fun a b=>b.2∣a.2)
 | [],ps,_,h=>h
 |o::os,[],h,_=>h
 |o::os,c::ps,h,k=>by
  rw[lx]at h k;simp only[zm,lx];refine⟨fun g hg=>?_,yn h.2 k.2⟩;rcases ka hg with hg|hg|⟨o',h1,c',h2,rfl⟩
  ·exact y3 (h.1 g hg) ⟨_,rfl⟩
  ·exact y3 (k.1 g hg) ⟨_,o4 _ _⟩
  ·exact Nat.mul_dvd_mul (h.1 o' h1) (k.1 c' h2)
theorem I3 {x:G}{q s:Nat}(hq:0<q)(hc:Nat.Coprime q s)(h1:pw A x q=A.one)(h2:pw A x s=A.one):x=A.one:=by
 obtain⟨m,hm⟩:=jR hq h1;have:m∣Nat.gcd q s:=Nat.dvd_gcd ((hm.2 q).mp h1) ((hm.2 s).mp h2);rw[hc]at this;have:m=1:=kd.mp this;subst this;have:=hm.kill;rwa[aI]at this
theorem gR {x y z q:Nat}(h:(x+y)%q=(z+y)%q):x%q=z%q:=by
 have h1:=congrArg (Nat.cast:Nat→Int) h;simp only[Int.natCast_emod,Int.natCast_add]at h1;have h2:=(Int.emod_add_cancel_right (y:Int)).mp h1
 exact_mod_cast h2
theorem Jg {q s:Nat}(hq:0<q)(hs:0<s)(hc:Nat.Coprime q s):∃u,s∣u∧u%q=1%q:=by
 obtain⟨m,h1,⟨u,h2⟩,h3⟩:=Cx (S:=fun k=>∃u,(s*u)%q=k%q) (fun a b ⟨u,hu⟩ ⟨v,hv⟩=>by
  refine⟨u+v*(q-1)*(a/b),?_⟩;have e:a=b*(a/b)+a%b:=(Nat.div_add_mod a b).symm;have hz:(s*(u+v*(q-1)*(a/b))+b*(a/b))%q=(a%b+b*(a/b))%q:=by
   have e1:s*(u+v*(q-1)*(a/b))=s*u+(s*v)*((q-1)*(a/b)):=by rw[Nat.mul_add];congr 1;rw[au,au]
   rw[e1,Nat.add_assoc,lh (s*u),hu];have e2:((s*v)*((q-1)*(a/b))+b*(a/b))%q=0:=by
    rw[lh,Nat.mul_mod (s*v),hv,←Nat.mul_mod,←lh];have:b*((q-1)*(a/b))+b*(a/b)=q*(b*(a/b)):=by
     have hq1:q=(q-1)+1:=by omega
     generalize q-1=t at*;subst hq1;rw[Nat.add_mul,ti,pb]
    rw[this,Nat.mul_mod_right]
   rw[e2,Nat.add_zero,yk,Nat.add_comm (a%b),←e]
  exact gR hz) (s*q) (yo hs hq) ⟨q,rfl⟩
 have d1:m∣s:=h3 s ⟨1,by rw[te]⟩;have d2:m∣q:=h3 q ⟨0,by simp⟩;have:m∣Nat.gcd q s:=Nat.dvd_gcd d2 d1;rw[hc]at this;have:m=1:=kd.mp this;subst this;exact⟨s*u,⟨u,rfl⟩,h2⟩
end
section
variable {G:Type}{A:AG G}
theorem fh.kill {s:Nat}{gs:List (G×Nat)}(h:fh A s gs){x:G}(hx:In A gs x):pw A x s=A.one:=
 In.kill (fun g hg=>jF (h.uq.ord g hg).2 (h.big g hg).2) hx
theorem Fi:fh A 1 []:=⟨⟨fun g hg=>(by cases hg),fun es _ _=>(by cases es<;>trivial)⟩,fun g hg=>(by cases hg),.nil,fun x hx=>by rw[aI]at hx;subst hx;exact In.one _⟩
theorem Gj (gs:List (G×Nat))(es:List Nat)(fs:List Nat)(h:es.length=gs.length):val A gs (es++fs)=val A gs es:=by
 have:=sL (A:=A) (hs:=[]) (fs:=fs) h;rw[List.append_nil,xF,A.mul_one]at this;exact this
theorem In.long {gs:List (G×Nat)}{x:G}(h:In A gs x){n:Nat}(hn:gs.length≤n):∃es:List Nat,es.length=n∧val A gs es=x:=by
 obtain⟨es,h1,rfl⟩:=h;exact⟨es++List.replicate (n-gs.length) 0,by simp[h1];omega,Gj _ _ _ h1⟩
theorem fh.zm {q s:Nat}(hq:0<q)(hs:0<s)(hc:Nat.Coprime q s){os ps:List (G×Nat)}(h:fh A q os)(k:fh A s ps):fh A (q*s) (zm A os ps):=by
 have hkq:∀o∈os,pw A o.1 q=A.one:=fun o ho=>jF (h.uq.ord o ho).2 (h.big o ho).2;have hks:∀c∈ps,pw A c.1 s=A.one:=fun c hc=>jF (k.uq.ord c hc).2 (k.big c hc).2;have hv:∀{gs:List (G×Nat)} {m:Nat},(∀g∈gs,pw A g.1 m=A.one)→∀es:List Nat,pw A (val A gs es) m=A.one:=by
  intro gs m hg es;induction gs generalizing es with
  |nil=>rw[xF,sI]
  |cons g gs ih=>
   cases es with
   |nil=>exact sI _
   |cons e es=>simp only[val];rw[xN,ih (fun g' hg'=>hg g' (zE _ hg')),A.mul_one,←fH,o4,fH,hg g (by simp),sI]
 refine⟨⟨fun g hg=>?_,fun es he h1=>?_⟩,fun g hg=>?_,yn h.desc k.desc,fun x hx=>?_⟩
 ·rcases ka hg with hg|hg|⟨o,ho,c,hc',rfl⟩
  ·exact h.uq.ord g hg
  ·exact k.uq.ord g hg
  ·have a1:=h.uq.ord o ho;have a2:=k.uq.ord c hc';refine⟨yo a1.1 a2.1,?_⟩;rw[xN,jF a1.2 ⟨_,rfl⟩,jF a2.2 ⟨_,o4 _ _⟩,A.one_mul]
 ·have hl:=jy (A:=A) os ps;rw[ju]at h1;have e1:val A os es=A.one:=by
   refine I3 hq hc (hv hkq es) ?_;have:=congrArg (fun t=>pw A t s) h1;simp only[xN,sI,hv hks es,A.mul_one]at this;exact this
  rw[e1,A.one_mul]at h1;exact Dv.zm os ps es (fun o ho c hc'=>by have d1:=(h.big o ho).2;have d2:=(k.big c hc').2;exact Nat.Coprime.coprime_dvd_left d1 (Nat.Coprime.coprime_dvd_right d2 hc)) (h.uq.dv' (by omega) e1) (k.uq.dv' (by omega) h1)
 ·rcases ka hg with hg|hg|⟨o,ho,c,hc',rfl⟩
  ·exact⟨(h.big g hg).1,y3 (h.big g hg).2 ⟨_,rfl⟩⟩
  ·exact⟨(k.big g hg).1,y3 (k.big g hg).2 ⟨_,o4 _ _⟩⟩
  ·refine⟨?_,Nat.mul_dvd_mul (h.big o ho).2 (k.big c hc').2⟩;have a1:=(h.big o ho).1;have a2:=(k.big c hc').1;exact Nat.lt_of_lt_of_le a1 (gx _ (by omega))
 ·obtain⟨u,⟨u',hu1⟩,hu2⟩:=Jg hq hs hc;obtain⟨v,⟨v',hv1⟩,hv2⟩:=Jg hs hq (Nat.Coprime.symm hc);have L1:=jy (A:=A) os ps;have inO:∀y,In A os y→In A (Grp.zm A os ps) y:=by
   intro y hy;obtain⟨es,a1,a2⟩:=hy.long (n:=(Grp.zm A os ps).length) (by omega);refine⟨es.map (· *u),by simpa using a1,?_⟩;rw[ju,fM,fM,a2];have e1:pw A y u=y:=by have hy1:=h.kill hy;rw[←aO hy1,hu2,aO hy1,aI]
   have e2:pw A (val A ps es) u=A.one:=jF (hv hks es) ⟨u',hu1⟩;rw[e1,e2,A.mul_one]
  have inP:∀y,In A ps y→In A (Grp.zm A os ps) y:=by
   intro y hy;obtain⟨es,a1,a2⟩:=hy.long (n:=(Grp.zm A os ps).length) (by omega);refine⟨es.map (· *v),by simpa using a1,?_⟩;rw[ju,fM,fM,a2];have e1:pw A y v=y:=by have hy1:=k.kill hy;rw[←aO hy1,hv2,aO hy1,aI]
   have e2:pw A (val A os es) v=A.one:=jF (hv hkq es) ⟨v',hv1⟩;rw[e1,e2,A.one_mul]
  have e0:A.mul (pw A x u) (pw A x v)=x:=by
   rw[←zN];have hqs:0<q*s:=yo hq hs;have d1:q∣u+v+q*s-1:=by
    refine x7 ?_;have:(u+v+q*s-1+1)%q=(0+1)%q:=by rw[y6 (by omega),eu,hv1,eu,hu2,ry]
    have:=gR this;rw[this,Nat.zero_mod]
   have d2:s∣u+v+q*s-1:=by
    refine x7 ?_;have:(u+v+q*s-1+1)%s=(0+1)%s:=by rw[y6 (by omega),Nat.add_mul_mod_self_right,hu1,Nat.add_comm,eu,hv2,ry]
    have:=gR this;rw[this,Nat.zero_mod]
   have d3:=Nat.Coprime.mul_dvd_of_dvd_of_dvd hc d1 d2;have e1:pw A x (u+v+q*s-1+1)=x:=by show A.mul (pw A x (u+v+q*s-1)) x=x;rw[jF hx d3,A.one_mul]
   rw[y6 (by omega),zN,hx,A.mul_one]at e1;exact e1
  rw[←e0];refine(inO _ (h.all _ ?_)).mul (inP _ (k.all _ ?_))
  ·rw[←fH,hu1];exact jF hx ⟨u',by rw[o4 (s*u'),au]⟩
  ·rw[←fH,hv1];exact jF hx ⟨v',by rw[Nat.mul_right_comm]⟩
end
section
variable {G:Type}{A:AG G}
def Sm:List (G×Nat)→List Nat→Prop
 |g::gs,e::es=>e<g.2∧Sm gs es
 | [],[]=>True
 |_,_=>False
def Cg:List (G×Nat)→List Nat→List Nat→Prop
 |g::gs,e::es,f::fs=>e%g.2=f%g.2∧Cg gs es fs
 | [],[],[]=>True
 |_,_,_=>False
theorem Sm.len:∀{gs:List (G×Nat)} {es:List Nat},Sm gs es→es.length=gs.length
 | [],[],_=>rfl
 |g::gs,e::es,h=>by simp only[x4];rw[Sm.len h.2]
 | [],_::_,h=>h.elim
 |_::_,[],h=>h.elim
theorem Gt:∀{gs:List (G×Nat)} {es fs:List Nat} {K:Nat},0<K→es.length=gs.length→fs.length=gs.length→Dv gs (oX es (fs.map (· *(K-1))))→Dv gs (fs.map (· *K))→Cg gs es fs
 | [],[],[],_,_,_,_,_,_=>trivial
 |g::gs,e::es,f::fs,K,hK,h1,h2,h3,h4=>by
  simp only[ec,oX,Dv]at h3 h4;refine⟨?_,Gt hK (by simpa using h1) (by simpa using h2) h3.2 h4.2⟩;have e1:(e+f*(K-1))%g.2=0:=ki h3.1;have e2:(f*K)%g.2=0:=ki h4.1;have e3:e+f*(K-1)+f=e+f*K:=by
   have:f*(K-1)+f=f*K:=by rw[←Nat.mul_succ,bw,y6 hK]
   omega
  have e4:(e+f*K)%g.2=f%g.2:=by rw[←e3,lh,e1,ry,yk]
  rw[lh,e2,Nat.add_zero,yk]at e4;exact e4
 | [],_::_,_,_,_,h,_,_,_=>by simp at h
 | [],[],_::_,_,_,_,h,_,_=>by simp at h
 |_::_,[],_,_,_,h,_,_,_=>by simp at h
 |_::_,_::_,[],_,_,_,h,_,_=>by simp at h
theorem Uq.cong {gs:List (G×Nat)}(h:Uq A gs){K:Nat}(hK:0<K)(hk:∀x:G,pw A x K=A.one){es fs:List Nat}(h1:es.length=gs.length)(h2:fs.length=gs.length)(hv:val A gs es=val A gs fs):Cg gs es fs:=by
 have l1:(oX es (fs.map (· *(K-1)))).length=gs.length:=by rw[pX (by simp;omega),h1]
 refine Gt hK h1 h2 (h.dv _ l1 ?_) (h.dv _ (by simpa using h2) (by rw[fM,hk]));rw[jt h1 (by simpa using h2),fM,hv];have:=zN (A:=A) (val A gs fs) 1 (K-1);rw[aI]at this;rw[←this,vt (by omega),hk]
theorem Cg.eq:∀{gs:List (G×Nat)} {es fs:List Nat},Cg gs es fs→Sm gs es→Sm gs fs→es=fs
 | [],[],[],_,_,_=>rfl
 |g::gs,e::es,f::fs,h,h1,h2=>by have:=h.1;rw[qz h1.1,qz h2.1]at this;rw[this,Cg.eq h.2 h1.2 h2.2]
 | [],_::_,_,_,h,_=>h.elim
 | [],[],_::_,_,_,h=>h.elim
 |_::_,[],_,_,h,_=>h.elim
 |_::_,_::_,[],_,_,h=>h.elim
def red:List (G×Nat)→List Nat→List Nat
 |g::gs,e::es=>(e%g.2)::red gs es
 |_,_=>[]
theorem E5:∀{gs:List (G×Nat)} {es:List Nat},(∀g∈gs,0<g.2)→es.length=gs.length→Sm gs (red gs es)
 | [],[],_,_=>trivial
 |g::gs,e::es,h,hl=>⟨Nat.mod_lt _ (h g (by simp)),E5 (fun g hg=>h g (zE _ hg)) (by simpa using hl)⟩
 | [],_::_,_,h=>by simp at h
 |_::_,[],_,h=>by simp at h
theorem xw:∀{gs:List (G×Nat)} {es:List Nat},(∀g∈gs,pw A g.1 g.2=A.one)→val A gs (red gs es)=val A gs es
 | [],es,_=>by rw[xF,xF]
 |g::gs,[],_=>rfl
 |g::gs,e::es,h=>by simp only[red,val];rw[aO (h g (by simp)),xw fun g hg=>h g (zE _ hg)]
theorem In.small {gs:List (G×Nat)}(h:Uq A gs){x:G}(hx:In A gs x):∃es,Sm gs es∧val A gs es=x:=by
 obtain⟨es,h1,rfl⟩:=hx;exact⟨_,E5 (fun g hg=>(h.ord g hg).1) h1,xw fun g hg=>(h.ord g hg).2⟩
def jD:List (G×Nat)→List (List Nat)
 | []=>[[]]
 |g::gs=>(List.range g.2).flatMap fun e=>(jD gs).map (e:: ·)
theorem iP:∀{gs:List (G×Nat)} {es:List Nat},es∈jD gs↔Sm gs es
 | [],[]=>by simp[jD,Sm]
 | [],_::_=>by simp[jD,Sm]
 |g::gs,[]=>by simp[jD,Sm]
 |g::gs,e::es=>by
  simp only[jD,List.mem_flatMap,tp,r7,Sm];constructor
  ·rintro⟨a,h1,b,h2,h3⟩;simp only[List.cons.injEq]at h3;obtain⟨rfl,rfl⟩:=h3;exact⟨h1,iP.mp h2⟩
  ·rintro⟨h1,h2⟩;exact⟨e,h1,es,iP.mpr h2,rfl⟩
theorem v7:∀(gs:List (G×Nat)),(jD gs).Nodup
 | []=>by simp[jD]
 |g::gs=>by
  simp only[jD,List.Nodup,List.flatMap,List.pairwise_flatten];refine⟨fun l hl=>?_,?_⟩
  ·obtain⟨e,_,rfl⟩:=r7.mp hl;rw[ba];exact(v7 gs).imp fun hne e=>hne (by simpa using e)
  ·rw[ba];refine List.nodup_range.imp fun{a b} hne x hx y hy e=>?_;obtain⟨x',_,rfl⟩:=r7.mp hx;obtain⟨y',_,rfl⟩:=r7.mp hy;simp only[List.cons.injEq]at e;exact hne e.1
theorem fh.perm {L:List G}(hL:kj L){gs:List (G×Nat)}(h:fh A L.length gs):((jD gs).map (val A gs)).Perm L:=by
 refine(ae ?_ hL.nd).mpr fun x=>⟨fun _=>hL.all x,fun _=>?_⟩
 ·rw[List.Nodup,ba];refine(v7 gs).imp_of_mem fun{a b} ha hb hne e=>hne ?_;have h1:=iP.mp ha;have h2:=iP.mp hb;exact(h.uq.cong (hL.pos A) (lG hL) h1.len h2.len e).eq h1 h2
 ·obtain⟨es,h1,h2⟩:=(h.all x (lG hL x)).small h.uq;exact r7.mpr ⟨es,iP.mpr h1,h2⟩
def gp (q:Nat):List (G×Nat)→Nat
 | []=>1
 |g::gs=>Nat.gcd q g.2*gp q gs
def np:List (G×Nat)→Nat
 | []=>1
 |g::gs=>g.2*np gs
theorem ow:∀gs:List (G×Nat),(jD gs).length=np gs
 | []=>rfl
 |g::gs=>by simp only[jD,np,List.length_flatMap,List.length_map,ow gs];rw[List.map_const',oj,List.sum_replicate_nat]
theorem fh.count {L:List G}(hL:kj L){gs:List (G×Nat)}(h:fh A L.length gs):np gs=L.length:=by
 have:=(h.perm hL).length_eq;rwa[List.length_map,ow]at this
theorem Uq.ordOf {gs:List (G×Nat)}(h:Uq A gs){g:G×Nat}(hg:g∈gs):aV A g.1 g.2:=by
 obtain⟨h1,h2⟩:=h.ord g hg;refine⟨h1,fun k=>⟨fun hk=>?_,fun hk=>jF h2 hk⟩⟩;obtain⟨l,r,rfl⟩:=List.append_of_mem hg;have:=h.dv (List.replicate l.length 0++k::List.replicate r.length 0) (by simp) (by rw[sL (by simp),yP,A.one_mul];simp only[val];rw[yP,hk,A.one_mul]);rw[Dv.app (by simp)]at this;exact this.2.1
end
section
open Go Go.Proofs.YtjpdjdhdchjcgaaGreat.Ev
open Go.Proofs.YtjpdjdhdchjcgaaGreat.Pure (Dn n9 gI La Pr Oo mW Pw zp zJ mN aT j5 xH vM)
open Go.Proofs.YtjpdjdhdchjcgaaGreat.Cls (Rd eK fF wW)
abbrev Bo (d:Int)(M L:Mod.E→Prop):Prop:=Pure.Cl d M L
def Kl (d:Int)(x:R3):Prop:=Rd d x.1 x.2.1 x.2.2∧eK x.1 x.2.1 x.2.2=1
abbrev K (d:Int):={x:R3//Kl d x}
variable {d:Int}
theorem mG (hd:fF d):Dn d:=by
 refine⟨by have:=hd.2.1;omega,?_⟩;have h:=hd.2.2;unfold Pure.sd Pure.md;rcases h with h|h
 ·have:d%2=0:=by omega
  rw[this];have:=hd.2.1;omega
 ·have:d%2=1:=by omega
  rw[this];have:=hd.2.1;omega
theorem tW (hd:fF d): -4294967296≤d:=by have:=hd.1;omega
theorem K.red (hd:fF d)(x:K d):n9 d x.1.1 x.1.2.1 x.1.2.2:=by
 obtain⟨h1,h2⟩:=x.2;obtain⟨f,i,s⟩:=wW hd h1;exact⟨h1.pos,⟨h1.eq⟩,i,s,(vM _ _ _).mpr h2⟩
theorem E4 {a b c:Int}(h:n9 d a b c):Kl d (a,b,c):=by
 have h1:=h.inr;have h2:=h.sm;unfold Pure.fL at h1;unfold Pure.lC at h2;exact⟨⟨h.of.eq,h.a0,h1.1,h1.2,by simp only;omega⟩,(vM _ _ _).mp h.pr⟩
theorem K.val (hd:fF d)(x:K d):mW d x.1.1 x.1.2.1 x.1.2.2:=(x.red hd).val (mG hd).neg (tW hd)
def Lc (x:K d):Mod.E→Prop:=La d x.1.1 x.1.2.1
theorem uQ (hd:fF d){x y:K d}(h:Bo d (Lc x) (Lc y)):x=y:=by
 obtain⟨h1,h2,h3⟩:=(x.red hd).same (mG hd) (y.red hd) h;apply Subtype.ext;obtain⟨⟨a,b,c⟩,hx⟩:=x;obtain⟨⟨a',b',c'⟩,hy⟩:=y;simp only at h1 h2 h3;subst h1 h2 h3;rfl
theorem lL {a b c:Int}{M:Mod.E→Prop}(h:gI d M a b c):∃z:K d,z.1=(a,b,c)∧Bo d M (Lc z):=⟨⟨_,E4 h.red⟩,rfl,h.cl⟩
theorem Dd (hd:fF d)(x y:K d):∃z:K d,Bo d (Pr d (Lc x) (Lc y)) (Lc z):=by
 obtain⟨a,b,c,_,h⟩:=mN (N:=8589934700) (by decide) (x.val hd) (y.val hd);obtain⟨z,_,h⟩:=lL h;exact⟨z,h⟩
theorem Dq (hd:fF d):∃z:K d,Bo d Oo (Lc z):=by
 obtain⟨b,c,_,h⟩:=aT 0 (mG hd).neg (tW hd) hd.2.2;obtain⟨z,_,h⟩:=lL h;exact⟨z,h⟩
theorem Cv (hd:fF d)(x:K d):∃z:K d,Bo d (Pr d (Lc x) (Lc z)) Oo:=by
 obtain⟨a,b,c,_,h1,h2⟩:=xH (N:=8589934700) (by decide) (x.val hd);exact⟨⟨_,E4 h1⟩,h2⟩
noncomputable def mul (hd:fF d)(x y:K d):K d:=Classical.choose (Dd hd x y)
noncomputable def one (hd:fF d):K d:=Classical.choose (Dq hd)
noncomputable def inv (hd:fF d)(x:K d):K d:=Classical.choose (Cv hd x)
theorem hJ (hd:fF d)(x y:K d):Bo d (Pr d (Lc x) (Lc y)) (Lc (mul hd x y)):=Classical.choose_spec (Dd hd x y)
theorem sZ (hd:fF d):Bo d Oo (Lc (one hd)):=Classical.choose_spec (Dq hd)
theorem Cu (hd:fF d)(x:K d):Bo d (Pr d (Lc x) (Lc (inv hd x))) Oo:=Classical.choose_spec (Cv hd x)
noncomputable def wC (hd:fF d):AG (K d) where
 mul:=mul hd
 one:=one hd
 inv:=inv hd
 assoc x y z:=by have dm:=(mG hd).m;refine uQ hd ?_;have h1:=(hJ hd (mul hd x y) z).symm.trans dm (((hJ hd x y).symm.left (Lc z)));have h2:=(hJ hd x (mul hd y z)).symm.trans dm (Mod.Hm.prod dm (Mod.Hm.refl _ _ (Lc x)) (hJ hd y z).symm);exact h1.trans dm ((Mod.Hm.assoc (s:=Pure.sd d) (m:=Pure.md d) (Lc x) (Lc y) (Lc z)).trans dm h2.symm)
 comm x y:=by have dm:=(mG hd).m;exact uQ hd ((hJ hd x y).symm.trans dm ((Mod.Hm.comm (Lc x) (Lc y)).trans dm (hJ hd y x)))
 one_mul x:=by have dm:=(mG hd).m;refine uQ hd ((hJ hd (one hd) x).symm.trans dm (((sZ hd).symm.left (Lc x)).trans dm ?_));exact(x.red hd).of.one (mG hd)
 inv_mul x:=by have dm:=(mG hd).m;refine uQ hd ((hJ hd (inv hd x) x).symm.trans dm ((Mod.Hm.comm (Lc (inv hd x)) (Lc x)).trans dm ((Cu hd x).trans dm (sZ hd))))
theorem Ha (hd:fF d)(x:K d):∀n,Bo d (Pw d (Lc x) n) (Lc (pw (wC hd) x n))
 |0=>sZ hd
 |n+1=>((Ha hd x n).left (Lc x)).trans (mG hd).m (hJ hd _ x)
theorem Ch {a b c:Int}{z:K d}(h:z.1=(a,b,c)):a=z.1.1∧b=z.1.2.1∧c=z.1.2.2:=by rw[h];exact⟨rfl,rfl,rfl⟩
theorem bh {N:Nat}(hN:8589934600<N)(hd:fF d)(x y:K d):Q86.f N x.1.1 x.1.2.1 x.1.2.2 y.1.1 y.1.2.1 y.1.2.2=some ((mul hd x y).1.1,(mul hd x y).1.2.1,(mul hd x y).1.2.2,0):=by
 obtain⟨a,b,c,e,h⟩:=mN hN (x.val hd) (y.val hd);obtain⟨z,hz,h⟩:=lL h;have:z=mul hd x y:=uQ hd (h.symm.trans (mG hd).m (hJ hd x y));subst this;obtain⟨rfl,rfl,rfl⟩:=Ch hz;exact e
theorem wK {N:Nat}(hN:8589934600<N)(hd:fF d)(x y:K d):Q127.f N x.1.1 x.1.2.1 x.1.2.2 y.1.1 y.1.2.1 y.1.2.2=some (mul hd x y).1:=by
 unfold Q127.f;rw[bh hN hd];rfl
theorem bK (N:Nat)(hd:fF d):Q83.f N d=some ((one hd).1.1,(one hd).1.2.1,(one hd).1.2.2,0):=by
 obtain⟨b,c,e,h⟩:=aT N (mG hd).neg (tW hd) hd.2.2;obtain⟨z,hz,h⟩:=lL h;have:z=one hd:=uQ hd (h.symm.trans (mG hd).m (sZ hd));subst this;obtain⟨h1,rfl,rfl⟩:=Ch hz;rw[e,←h1]
theorem jX {N:Nat}(hN:8589934600<N)(hd:fF d)(x:K d){n:Int}(n0:0≤n)(n1:n<9223372036854775808):
  Q88.f N x.1.1 x.1.2.1 x.1.2.2 n=some ((pw (wC hd) x n.toNat).1.1,(pw (wC hd) x n.toNat).1.2.1,(pw (wC hd) x n.toNat).1.2.2,0):=by
 have iX:Pure.Id d (Lc (inv hd x)):=((inv hd x).red hd).of.one (mG hd);obtain⟨a,b,c,e,h⟩:=j5 hN (x.val hd) (Cu hd x) iX (n:=n) (by omega) n1;obtain⟨z,hz,h⟩:=lL h;have hzp:zp d (La d x.1.1 x.1.2.1) (Lc (inv hd x)) n=Pw d (Lc x) n.toNat:=if_pos n0;rw[hzp]at h;have:z=pw (wC hd) x n.toNat:=uQ hd (h.symm.trans (mG hd).m (Ha hd x n.toNat));subst this;obtain⟨rfl,rfl,rfl⟩:=Ch hz;exact e
theorem pP {N:Nat}(hN:8589934600<N)(hd:fF d)(x:K d){n:Int}(n0:0≤n)(n1:n<9223372036854775808):Q128.f N x.1.1 x.1.2.1 x.1.2.2 n=some (pw (wC hd) x n.toNat).1:=by
 unfold Q128.f;rw[jX hN hd x n0 n1];rfl
theorem Cz:∀(L:List R3),(∀x∈L,Kl d x)→∃KL:List (K d),KL.map (·.1)=L
 | [],_=>⟨[],rfl⟩
 |x::L,h=>by obtain⟨KL,hK⟩:=Cz L (fun y hy=>h y (zE _ hy));exact⟨⟨x,h x (by simp)⟩::KL,by simp[hK]⟩
theorem Ir {L:List R3}(h:Cls.Cl d L):∃KL:List (K d),KL.map (·.1)=L∧kj KL:=by
 obtain⟨KL,rfl⟩:=Cz L (fun x hx=>(h.mem x).mp hx);refine⟨KL,rfl,?_,fun x=>?_⟩
 ·have:=h.nodup;rw[List.Nodup,ba]at this;exact this.imp fun hne e=>hne (by rw[e])
 ·obtain⟨y,hy,e⟩:=r7.mp ((h.mem x.1).mpr x.2);rw[←Subtype.ext e];exact hy
end
open Go Go.Proofs.YtjpdjdhdchjcgaaGreat.Ev
open Go.Proofs.YtjpdjdhdchjcgaaGreat.Pure (fA yR)
abbrev PL:=List (Nat×Nat)
def cW:PL→List Int
 | []=>[]
 |x::l=>(x.1:Int)::(x.2:Int)::cW l
def aF:PL→Nat
 | []=>1
 |x::l=>x.1^x.2*aF l
theorem wk:∀a b:PL,cW (a++b)=cW a++cW b
 | [],b=>rfl
 |x::a,b=>by simp[cW,wk a b]
theorem gk:∀a:PL,(cW a).length=2*a.length
 | []=>rfl
 |x::a=>by simp only[cW,x4,gk a];omega
theorem jS (a:PL):((cW a).length/2:Int)=(a.length:Int):=by rw[gk];omega
theorem sk:∀{a:PL} {i:Nat} (h:i<a.length),(cW a).getD (i*2) 0=(a[i].1:Int)∧(cW a).getD (i*2+1) 0=(a[i].2:Int)
 |x::a,0,_=>⟨rfl,rfl⟩
 |x::a,i+1,h=>by
  have:=sk (a:=a) (i:=i) (by simpa using h);have e1:(i+1)*2=i*2+1+1:=by omega
  have e2:(i+1)*2+1=i*2+1+1+1:=by omega
  rw[e2,e1];exact this
theorem wM:∀a b:PL,aF (a++b)=aF a*aF b
 | [],b=>(ti _).symm
 |x::a,b=>by simp only[qo,aF];rw[wM a b,au]
structure Fz (n:Nat)(l:PL):Prop where
 up:l.Pairwise (fun a b=>a.1<b.1)
 pr:∀x∈l,oE x.1∧0<x.2
 prod:aF l=n
theorem xM:∀{l:PL},(∀x∈l,oE x.1∧0<x.2)→l.length<aF l
 | [],_=>by simp[aF]
 |x::l,h=>by have ih:=xM (l:=l) (fun y hy=>h y (zE _ hy));obtain⟨h1,h2⟩:=h x (by simp);have h3:1<x.1^x.2:=Nat.one_lt_pow (by omega) h1.1;simp only[aF,x4];have:=gl (show 2≤x.1^x.2 by omega) (y4 (aF l));omega
def Fr (p n:Nat):Prop:=∀m,1<m→m∣n→p≤m
theorem Fr.prime {p n:Nat}(h:Fr p n)(hp:1<p)(hd:p∣n):oE p:=
 ⟨hp,fun m hm=>by
  have h0:0<m:=Nat.pos_of_dvd_of_pos hm (by omega);rcases kt 1 m with h1|h1
  ·have:=h m h1 (y3 hm hd);have:=va (by omega) hm;exact .inr (by omega)
  ·exact .inl (by omega)⟩
theorem Fr.last {p n:Nat}(h:Fr p n)(hn:1<n)(hs:n<p*p):oE n:=
 ⟨hn,fun m hm=>by
  obtain⟨k,rfl⟩:=hm;have hm0:0<m:=n5 fun e=>by subst e;simp at hn
  have hk0:0<k:=n5 fun e=>by subst e;simp at hn
  rcases kt 1 m with h1|h1
  ·rcases kt 1 k with h2|h2
   ·have a1:=h m h1 ⟨k,rfl⟩;have a2:=h k h2 ⟨m,o4 _ _⟩;have:=gl a1 a2;omega
   ·have:k=1:=by omega
    subst this;exact .inr (by omega)
  ·exact .inl (by omega)⟩
theorem Fr.dvd {p n m:Nat}(h:Fr p n)(hm:m∣n):Fr p m:=fun k h1 h2=>h k h1 (y3 h2 hm)
theorem Fr.succ {p n:Nat}(h:Fr p n)(hd:¬p∣n):Fr (p+1) n:=fun m h1 h2=>by
 have:=h m h1 h2;rcases kt p m with h3|h3
 ·omega
 ·have:m=p:=by omega
  subst this;exact absurd h2 hd
theorem pj {p:Nat}(hp:1<p):∀(f n:Nat),0<n→n<f→∃j m,n=p^j*m∧¬p∣m
 |0,n,_,h=>by omega
 |f+1,n,hn,h=>by
  by_cases hd:p∣n
  ·obtain⟨k,rfl⟩:=hd;have hk:0<k:=n5 fun e=>by subst e;simp at hn
   have:k<p*k:=by have:=gl (show 2≤p by omega) (y4 k);omega
   obtain⟨j,m,e,hm⟩:=pj hp f k hk (by omega);exact⟨j+1,m,by rw[e,r9,o4 (p^j) p,au],hm⟩
  ·exact⟨0,n,by simp,hd⟩
theorem kz {p:Nat}(h:0<p):(!((p:Int)==0))=true:=by
 have:((p:Int)==0)=false:=beq_eq_false_iff_ne.mpr (by omega);rw[this];rfl
theorem pv (a b:Nat):Int.tmod (a:Int) (b:Int)=((a%b:Nat):Int):=Int.ofNat_tmod a b
theorem po (a b:Nat):Int.tdiv (a:Int) (b:Int)=((a/b:Nat):Int):=Int.ofNat_tdiv a b
theorem Gs (a:Nat):((a:Int)==0)=decide (a=0):=by
 by_cases h:a=0
 ·subst h;rfl
 ·rw[decide_eq_false h];exact beq_eq_false_iff_ne.mpr (by omega)
theorem kW {a:Nat}(h:a<9223372036854775808):aA (a:Int)=(a:Int):=fA (by omega) (by omega)
theorem eE {a:Nat}(h:a<9223372036854775807):aA ((a:Int)+1)=((a+1:Nat):Int):=by rw[fA (by omega) (by omega)];omega
theorem Dc (N:Nat){R:Type}{p:Nat}(hp:1<p)(l:List Int)(K:Int→Int→Int→List Int→Option R):∀(f k j m:Nat),¬p∣m→0<m→j<f→k+j<1000000→p^j*m<1000000→
  Q116.l1 N f (p:Int) (k:Int) ((p^j*m:Nat):Int) l K=K (p:Int) ((k+j:Nat):Int) (m:Int) l
 |0,k,j,m,_,_,h,_,_=>by omega
 |f+1,k,j,m,hd,hm,h,hk,hb=>by
  rw[Q116.l1];simp only[kz (show 0<p by omega),cond_true];rw[pv,Gs];cases j with
  |zero=>rw[vy,ti,decide_eq_false (fun e=>hd (x7 e)),cond_false];rfl
  |succ j=>
   have e:p^(j+1)*m=p*(p^j*m):=by rw[r9,o4 (p^j) p,au]
   have hlt:p^j*m≤p^(j+1)*m:=by rw[e];exact td _ (by omega)
   rw[decide_eq_true (by rw[e];exact Nat.mul_mod_right _ _),cond_true,po,e,cb _ (by omega),kW (by omega),eE (by omega)];have:=Dc N hp l K f (k+1) j m hd hm (by omega) (by omega) (by omega);rw[this];congr 2;omega
theorem I9 {l:List Int}(h:l.length≤1000000):jB ((l.length+2)/2) 16=true:=by
 simp only[jB,decide_eq_true_eq];omega
theorem xv {p j:Nat}(hp:1<p):j<p^j:=Nat.lt_pow_self hp
theorem H6 {N:Nat}(hN:1000000<N){p j m:Nat}(hp:1<p)(hd:¬p∣m)(hm:0<m)(hb:p^j*m<1000000){l:PL}(hl:l.length<100000):
  Q116.f N (p:Int) ((p^j*m:Nat):Int) (cW l)=some (decide (0<j),(m:Int),if 0<j then cW (l++[(p,j)])else cW l):=by
 unfold Q116.f;have hj:j<1000000:=by have:=xv (j:=j) hp;have:=gx (p^j) hm;omega
 have:=Dc N hp (cW l) (fun y12 y13 y14 y15=>bif decide (y13>0)then bif jB ((y15.length+2)/2) 16 then some (true,y14,y15++[y12,y13])else none else some (false,y14,y15)) N 0 j m hd hm (by omega) (by omega) hb;rw[qb]at this;rw[this];simp only[ry];rw[I9 (by rw[gk];omega)];by_cases h0:0<j
 ·rw[decide_eq_true (show(j:Int)>0 by omega),decide_eq_true h0,if_pos h0,wk];rfl
 ·rw[decide_eq_false (show ¬(j:Int)>0 by omega),decide_eq_false h0,if_neg h0];rfl
structure St (n0 p n:Nat)(l:PL):Prop where
 up:l.Pairwise (fun a b=>a.1<b.1)
 pr:∀x∈l,oE x.1∧0<x.2∧x.1<p
 prod:aF l*n=n0
 fr:Fr p n
 pos:0<n
theorem St.len {n0 p n:Nat}{l:PL}(h:St n0 p n l):l.length<n0+1∧n≤n0:=by
 have h1:=xM (l:=l) (fun x hx=>⟨(h.pr x hx).1,(h.pr x hx).2.1⟩);have h2:=h.prod;have h3:=h.pos;have:=gx (aF l) h3;have:=td n (show 0<aF l by omega);omega
theorem St.step {n0 p j m:Nat}{l:PL}(h:St n0 p (p^j*m) l)(hp:1<p)(hd:¬p∣m):St n0 (p+1) m (if 0<j then l++[(p,j)]else l):=by
 have hm:0<m:=n5 fun e=>by subst e;exact hd (Nat.dvd_zero _)
 by_cases h0:0<j
 ·rw[if_pos h0];have hpp:oE p:=h.fr.prime hp (y3 (y3 (by simp) (ta p (show 1≤j by omega))) ⟨m,rfl⟩);refine⟨?_,fun x hx=>?_,?_,(h.fr.dvd ⟨p^j,o4 _ _⟩).succ hd,hm⟩
  ·rw[ds];exact⟨h.up,by simp,fun a ha b hb=>by simp only[hV]at hb;subst hb;exact(h.pr a ha).2.2⟩
  ·simp only[b7,hV]at hx;rcases hx with hx|rfl
   ·exact⟨(h.pr x hx).1,(h.pr x hx).2.1,by have:=(h.pr x hx).2.2;omega⟩
   ·exact⟨hpp,h0,by simp⟩
  ·rw[wM];simp only[aF,te];rw[au];exact h.prod
 ·rw[if_neg h0];have:j=0:=by omega
  subst this;have hf:=h.prod;rw[vy,ti]at hf;exact⟨h.up,fun x hx=>⟨(h.pr x hx).1,(h.pr x hx).2.1,by have:=(h.pr x hx).2.2;omega⟩,hf,(h.fr.dvd ⟨p^0,o4 _ _⟩).succ hd,hm⟩
theorem St.end {n0 p n:Nat}{l:PL}(h:St n0 p n l)(hs:n<p*p):Fz n0 (if 1<n then l++[(n,1)]else l):=by
 by_cases h1:1<n
 ·rw[if_pos h1];have hq:=h.fr.last h1 hs;refine⟨?_,fun x hx=>?_,?_⟩
  ·rw[ds];refine⟨h.up,by simp,fun a ha b hb=>?_⟩;simp only[hV]at hb;subst hb;have:=(h.pr a ha).2.2;have:=h.fr n h1 (fp _);simp only;omega
  ·simp only[b7,hV]at hx;rcases hx with hx|rfl
   ·exact⟨(h.pr x hx).1,(h.pr x hx).2.1⟩
   ·exact⟨hq,by simp⟩
  ·rw[wM];simp only[aF,te,Nat.pow_one];exact h.prod
 ·rw[if_neg h1];have:=h.pos;have:n=1:=by omega
  subst this;exact⟨h.up,fun x hx=>⟨(h.pr x hx).1,(h.pr x hx).2.1⟩,by have:=h.prod;omega⟩
theorem St.skip {n0 p n:Nat}{l:PL}(h:St n0 p n l)(hp:2<p)(he:p%2=0):St n0 (p+1) n l:=
 ⟨h.up,fun x hx=>⟨(h.pr x hx).1,(h.pr x hx).2.1,by have:=(h.pr x hx).2.2;omega⟩,h.prod,h.fr.succ fun hd=>by have:=h.fr 2 (by omega) (y3 (x7 he) hd);omega,h.pos⟩
theorem zh {α:Type}(b:Bool)(x:α):(bif b then x else x)=x:=by cases b<;>rfl
theorem Ib {p n:Nat}(hp:p≤1000000):decide (aA ((p:Int)*(p:Int))≤(n:Int))=decide (p*p≤n):=by
 have h1:p*p≤1000000*1000000:=gl hp hp;rw[←Int.natCast_mul,kW (by omega),decide_eq_decide];omega
theorem Jj {p:Nat}(hp:p<1000000):mC .i64 (p:Int) 1=((p%2:Nat):Int):=by
 have:=yR (x:=(p:Int)) (by omega) (by omega) 1 (by decide);simp only[Int.reducePow,Int.reduceSub]at this;rw[this];omega
theorem Db {N:Nat}(hN:1000000<N){n0:Nat}(hn:n0≤50000){R:Type}(K:Int→List Int→Option R):∀(f p n:Nat) (l:PL),St n0 p n l→1<p→(p=2∨p%2=1)→p≤n0+4→n0+5-p<f→
  ∃n' l' p',St n0 p' n' l'∧n'<p'*p'∧Q117.l8 N f (p:Int) (n:Int) (cW l) K=K (n':Int) (cW l')
 |0,p,n,l,_,_,_,_,h=>by omega
 |f+1,p,n,l,h,hp,hodd,hpn,hf=>by
  obtain⟨hl1,hl2⟩:=h.len;rw[Q117.l8,Ib (by omega)];by_cases hs:p*p≤n
  ·rw[decide_eq_true hs,cond_true];obtain⟨j,m,rfl,hd⟩:=pj hp (n+1) n h.pos (by omega);have hm:0<m:=n5 fun e=>by subst e;exact hd (Nat.dvd_zero _)
   rw[H6 hN hp hd hm (by omega) (by omega)];have hst:=h.step hp hd;have hpn2:p≤n0:=by have:=gl (show 1≤p by omega) (y4 p);omega
   simp only[pC,zh];have e1:aA ((p:Int)+aA (1+mC .i64 (p:Int) 1))=((p+(1+p%2):Nat):Int):=by have e3:aA (1+((p%2:Nat):Int))=1+((p%2:Nat):Int):=fA (by omega) (by omega);rw[Jj (by omega),e3,fA (by omega) (by omega)];omega
   rw[e1];have e2:(if 0<j then cW (l++[(p,j)])else cW l)=cW (if 0<j then l++[(p,j)]else l):=by split<;>rfl
   rw[e2];rcases hodd with rfl|hodd
   ·exact Db hN hn K f 3 m _ hst (by omega) (by omega) (by omega) (by omega)
   ·have hst2:=hst.skip (by omega) (by omega);rw[hodd];exact Db hN hn K f (p+2) m _ hst2 (by omega) (by omega) (by omega) (by omega)
  ·rw[decide_eq_false hs,cond_false];exact⟨n,l,p,h,by omega,rfl⟩
theorem eV {N:Nat}(hN:1000000<N){n:Nat}(h0:0<n)(h1:n≤50000):∃l,Fz n l∧Q117.f N (n:Int)=some (cW l,0):=by
 unfold Q117.f;rw[decide_eq_false (show ¬(n:Int)<1 by omega),decide_eq_false (show ¬(n:Int)>1099511627776 by omega)];simp only[cond_false];obtain⟨n',l',p',hst,hs,e⟩:=Db hN h1 (fun y8 y9=>bif decide (y8>1)then(Q116.f N y8 y8 y9).bind fun r10=>bif r10.1 then some (r10.2.2,0)else some (r10.2.2,(0:Int))else some (y9,0)) N 2 n [] ⟨.nil,fun x hx=>(by cases hx),(by simp[aF]),fun m h2 _=>h2,h0⟩ (by omega) (.inl rfl) (by omega) (by omega);obtain⟨q1,q2⟩:=hst.len;refine⟨_,hst.end hs,e.trans ?_⟩;by_cases hn:1<n'
 ·rw[decide_eq_true (show(n':Int)>1 by omega),if_pos hn,cond_true];have:=H6 hN hn (j:=1) (m:=1) (by intro hd;have:=kd.mp hd;omega) (by omega) (by simp;omega) (l:=l') (by omega);rw[Nat.pow_one,te]at this;rw[this];rfl
 ·rw[decide_eq_false (show ¬(n':Int)>1 by omega),if_neg hn,cond_false]
open Go.Proofs.YtjpdjdhdchjcgaaGreat.Cls (fF)
theorem oE.dvd_mul {p a b:Nat}(h:oE p)(hd:p∣a*b):p∣a∨p∣b:=by
 by_cases ha:p∣a
 ·exact .inl ha
 ·exact .inr ((Nat.Coprime.symm (h.cop ha)).dvd_of_dvd_mul_left hd)
theorem oE.dvd_pow {p a:Nat}(h:oE p):∀{k:Nat},p∣a^k→p∣a
 |0,hd=>by have:=h.1;have:=kd.mp (by simpa using hd);omega
 |k+1,hd=>by
  rw[r9]at hd;rcases h.dvd_mul hd with h1|h1
  ·exact oE.dvd_pow h h1
  ·exact h1
theorem oE.eq {p q:Nat}(h:oE p)(k:oE q)(hd:p∣q):p=q:=(k.2 p hd).resolve_left (by have:=h.1;omega)
theorem oE.in_prod {p:Nat}(h:oE p):∀{l:PL},(∀x∈l,oE x.1∧0<x.2)→p∣aF l→∃x∈l,x.1=p
 | [],_,hd=>by have:=h.1;have:=kd.mp hd;omega
 |x::l,hl,hd=>by
  rcases h.dvd_mul hd with h1|h1
  ·exact⟨x,by simp,(h.eq (hl x (by simp)).1 (h.dvd_pow h1)).symm⟩
  ·obtain⟨y,h2,h3⟩:=oE.in_prod h (fun y hy=>hl y (zE _ hy)) h1;exact⟨y,zE _ h2,h3⟩
theorem Fz.cov {n:Nat}(hn:0<n){l:PL}(h:Fz n l):Im (l.map (·.1)) n:=by
 intro m h1 h2;have hx:∃p,oE p∧p∣m:=by
  obtain⟨p,hp1,hp2,hp3⟩:∃p,1<p∧p∣m∧∀k,1<k→k∣m→p≤k:=by
   have:∀f k,1<k→k∣m→k≤f→∃p,1<p∧p∣m∧∀k,1<k→k∣m→p≤k:=by
    intro f;induction f with
    |zero=>intro k h1 _ h2;omega
    |succ f ih=>
     intro k h1 h2 h3;by_cases hx:∃k',1<k'∧k'∣m∧k'<k
     ·obtain⟨k',a1,a2,a3⟩:=hx;exact ih k' a1 a2 (by omega)
     ·exact⟨k,h1,h2,fun k' a1 a2=>Nat.le_of_not_lt fun a3=>hx ⟨k',a1,a2,a3⟩⟩
   exact this m m h1 (fp _) (y4 _)
  exact⟨p,Fr.prime (p:=p) (n:=m) hp3 hp1 hp2,hp2⟩
 obtain⟨p,hp,hd⟩:=hx;obtain⟨x,a1,a2⟩:=hp.in_prod h.pr (by rw[h.prod];exact y3 hd h2);exact⟨p,r7.mpr ⟨x,a1,a2⟩,hd⟩
section
variable {d:Int}
abbrev A3 (x:R3):Int:=x.1
theorem Gx (x y:K d):((x.1.1==y.1.1)&&((x.1.2.1==y.1.2.1)&&(x.1.2.2==y.1.2.2)))=true↔x=y:=by
 simp only[Bool.and_eq_true,beq_iff_eq];constructor
 ·rintro⟨h1,h2,h3⟩;apply Subtype.ext;obtain⟨⟨a,b,c⟩,hx⟩:=x;obtain⟨⟨a',b',c'⟩,hy⟩:=y;simp only at h1 h2 h3;subst h1 h2 h3;rfl
 ·rintro rfl;exact⟨rfl,rfl,rfl⟩
theorem nw {N:Nat}(hN:8589934600<N)(hd:fF d)(x:K d){p:Nat}(hp:1<p){R:Type}(x20:List Int)(x21 x22 x30:Int)(K0:Int→List Int→Int→Int→Int→Int→Int→Int→Int→Int→Option R):
  ∀(f n:Nat),0<n→n<f→n<1000000→pw (wC hd) x n=(wC hd).one→∃m,0<m∧m∣n∧pw (wC hd) x m=(wC hd).one∧(p∣m→pw (wC hd) x (m/p)≠(wC hd).one)∧
   Q129.l5 N f (n:Int) x20 x21 x22 x.1.1 x.1.2.1 x.1.2.2 (one hd).1.1 (one hd).1.2.1 (one hd).1.2.2 (p:Int) x30 K0 K0=K0 (m:Int) x20 x21 x22 x.1.1 x.1.2.1 x.1.2.2 (one hd).1.1 (one hd).1.2.1 (one hd).1.2.2
 |0,n,_,h,_,_=>by omega
 |f+1,n,hn,h,hb,hx=>by
  rw[Q129.l5];simp only[kz (show 0<p by omega),cond_true];rw[pv,Gs];by_cases hd1:p∣n
  ·have hk:0<n/p:=Nat.div_pos (va hn hd1) (by omega);have hlt:n/p<n:=Nat.div_lt_self hn hp;rw[decide_eq_true (ki hd1),cond_true,po,kW (by omega),pP hN hd x (by omega) (by omega)];simp only[pC,b5];by_cases he:pw (wC hd) x (n/p)=one hd
   ·rw[(Gx _ _).mpr he];simp only[uc,cond_false];obtain⟨m,h1,h2,h3,h4,h5⟩:=nw hN hd x hp x20 x21 x22 x30 K0 f (n/p) hk (by omega) (by omega) he;exact⟨m,h1,y3 h2 (Nat.div_dvd_of_dvd hd1),h3,h4,h5⟩
   ·have:((pw (wC hd) x (n/p)).1.1==(one hd).1.1&&((pw (wC hd) x (n/p)).1.2.1==(one hd).1.2.1&&(pw (wC hd) x (n/p)).1.2.2==(one hd).1.2.2))=false:=
     Bool.eq_false_iff.mpr fun e=>he ((Gx _ _).mp e)
    rw[this];exact⟨n,hn,fp _,hx,fun _=>he,rfl⟩
  ·rw[decide_eq_false (fun e=>hd1 (x7 e)),cond_false];exact⟨n,hn,fp _,hx,fun h=>absurd h hd1,rfl⟩
theorem dh {N:Nat}(hN:8589934600<N)(hd:fF d)(x:K d){l:PL}(hl:∀y∈l,1<y.1)(hl2:l.length<1000000){R:Type}(K0:Int→Option R):
  ∀(f i n:Nat),i≤l.length→l.length-i<f→0<n→n<1000000→pw (wC hd) x n=(wC hd).one→(∀j (hj:j<l.length),j<i→l[j].1∣n→pw (wC hd) x (n/l[j].1)≠(wC hd).one)→
   ∃m,0<m∧m∣n∧pw (wC hd) x m=(wC hd).one∧(∀y∈l,y.1∣m→pw (wC hd) x (m/y.1)≠(wC hd).one)∧
   Q129.l3 N f (n:Int) (cW l) (l.length:Int) (i:Int) x.1.1 x.1.2.1 x.1.2.2 (one hd).1.1 (one hd).1.2.1 (one hd).1.2.2 K0=K0 (m:Int)
 |0,i,n,_,h,_,_,_,_=>by omega
 |f+1,i,n,hi,h,hn,hb,hx,hp=>by
  rw[Q129.l3];by_cases hlt:i<l.length
  ·rw[decide_eq_true (show(i:Int)<(l.length:Int) by omega),jS,decide_eq_true (show(0:Int)≤(i:Int) by omega),decide_eq_true (show(i:Int)<(l.length:Int) by omega)];obtain⟨e1,e2⟩:=sk hlt;simp only[b5,cond_true,Bool.and_self,e1,e2];obtain⟨m,h1,h2,h3,h4,h5⟩:=nw hN hd x (hl l[i] (dk hlt)) (cW l) (l.length:Int) (i:Int) (l[i].2:Int) (fun y62 y63 y64 y65 y66 y67 y68 y69 y70 y71=>Q129.l3 N f y62 y63 y64 (aA (y65+1)) y66 y67 y68 y69 y70 y71 K0) N n hn (by omega) hb hx;rw[h5,eE (by omega)];have hmn:=va hn h2;obtain⟨m',k1,k2,k3,k4,k5⟩:=dh hN hd x hl hl2 K0 f (i+1) m (by omega) (by omega) h1 (by omega) h3 (fun j hj hji hdv he=>by
    rcases kt j i with hji|hji
    ·have hq:=hl l[j] (dk hj);obtain⟨c,rfl⟩:=h2;refine hp j hj hji (y3 hdv ⟨c,rfl⟩) ?_;obtain⟨q,hq2⟩:=hdv;have e3:m/l[j].1=q:=by rw[hq2,cb _ (by omega)]
     have e4:m*c/l[j].1=q*c:=by rw[hq2,au,cb _ (by omega)]
     rw[e3]at he;rw[e4];exact jF he ⟨c,rfl⟩
    ·have:j=i:=by omega
     subst this;exact h4 hdv he)
   exact⟨m',k1,y3 k2 h2,k3,k4,k5⟩
  ·rw[decide_eq_false (show ¬(i:Int)<(l.length:Int) by omega),cond_false];refine⟨n,hn,fp _,hx,fun y hy=>?_,rfl⟩;obtain⟨j,hj,rfl⟩:=List.getElem_of_mem hy;exact hp j hj (by omega)
theorem kR {N:Nat}(hN:8589934600<N)(hd:fF d)(x:K d){n:Nat}(hn:0<n)(hb:n≤50000)(hx:pw (wC hd) x n=(wC hd).one):
  ∃m,aV (wC hd) x m∧m∣n∧Q129.f N x.1.1 x.1.2.1 x.1.2.2 (one hd).1.1 (one hd).1.2.1 (one hd).1.2.2 (n:Int)=some (m:Int):=by
 obtain⟨l,hl,e⟩:=eV (N:=N) (by omega) hn hb;have hlen:=xM hl.pr;rw[hl.prod]at hlen;unfold Q129.f;rw[e];simp only[pC];rw[jS];obtain⟨m,h1,h2,h3,h4,h5⟩:=dh hN hd x (l:=l) (fun y hy=>(hl.pr y hy).1.1) (by omega) (fun y73=>some y73) N 0 n (by omega) (by omega) hn (by omega) hx (fun j hj h=>by omega);rw[qb]at h5;refine⟨m,I6 h1 h3 ((hl.cov hn).dvd h2) (fun p hp hpd=>?_),h2,h5⟩;obtain⟨y,hy,rfl⟩:=r7.mp hp;exact h4 y hy hpd
end
end Go.Proofs.YtjpdjdhdchjcgaaGreat.Grp
namespace Go.Proofs.YtjpdjdhdchjcgaaGreat.Srt
open Go Go.Proofs.YtjpdjdhdchjcgaaGreat.Ev
open Go.Proofs.YtjpdjdhdchjcgaaGreat.Pure (fA)
open Go.Proofs.YtjpdjdhdchjcgaaGreat.Grp (kW eE)
abbrev R4:=Int×Int×Int×Int
def aC:List R4→List Int
 | []=>[]
 |x::l=>x.1::x.2.1::x.2.2.1::x.2.2.2::aC l
theorem xJ:∀a b:List R4,aC (a++b)=aC a++aC b
 | [],b=>rfl
 |x::a,b=>by simp[aC,xJ a b]
theorem dG:∀a:List R4,(aC a).length=4*a.length
 | []=>rfl
 |x::a=>by simp only[aC,x4,dG a];omega
theorem jK:∀{l:List R4} {i:Nat} (h:i<l.length),(aC l).getD (i*4) 0=l[i].1∧(aC l).getD (i*4+1) 0=l[i].2.1∧(aC l).getD (i*4+2) 0=l[i].2.2.1∧(aC l).getD (i*4+3) 0=l[i].2.2.2
 |x::a,0,_=>⟨rfl,rfl,rfl,rfl⟩
 |x::a,i+1,h=>by
  have:=jK (l:=a) (i:=i) (by simpa using h);have e1:(i+1)*4=i*4+1+1+1+1:=by omega
  have e2:(i+1)*4+1=i*4+1+1+1+1+1:=by omega
  have e3:(i+1)*4+2=i*4+2+1+1+1+1:=by omega
  have e4:(i+1)*4+3=i*4+3+1+1+1+1:=by omega
  rw[e2,e3,e4,e1];exact this
theorem qM:∀(l:List R4) (i:Nat) (x:R4),((((aC l).set (i*4) x.1).set (i*4+1) x.2.1).set (i*4+2) x.2.2.1).set (i*4+3) x.2.2.2=aC (l.set i x)
 | [],_,_=>rfl
 |y::a,0,x=>rfl
 |y::a,i+1,x=>by
  have e1:(i+1)*4=i*4+1+1+1+1:=by omega
  have e2:(i+1)*4+1=i*4+1+1+1+1+1:=by omega
  have e3:(i+1)*4+2=i*4+2+1+1+1+1:=by omega
  have e4:(i+1)*4+3=i*4+3+1+1+1+1:=by omega
  rw[e2,e3,e4,e1];simp only[aC,List.set_cons_succ];rw[qM a i x]
def tab (f:Nat→R4)(n:Nat):List R4:=(List.range n).map f
abbrev F (f:Nat→R4)(n:Nat):List Int:=aC (tab f n)
theorem kT (f:Nat→R4)(n:Nat):(tab f n).length=n:=by simp[tab]
theorem Gn (f:Nat→R4)(n:Nat):(F f n).length=4*n:=by rw[F,dG,kT]
theorem F2 (f:Nat→R4)(n:Nat):((F f n).length/4:Int)=(n:Int):=by rw[Gn];omega
theorem yr (f:Nat→R4){n i:Nat}(h:i<n):(F f n).getD (i*4) 0=(f i).1∧(F f n).getD (i*4+1) 0=(f i).2.1∧(F f n).getD (i*4+2) 0=(f i).2.2.1∧(F f n).getD (i*4+3) 0=(f i).2.2.2:=by
 have:=jK (l:=tab f n) (i:=i) (by rw[kT];exact h);have e:(tab f n)[i]'(by rw[kT];exact h)=f i:=by simp[tab]
 rw[e]at this;exact this
def J3 (f:Nat→R4)(i:Nat)(x:R4):Nat→R4:=fun j=>if j=i then x else f j
theorem Gb (f:Nat→R4)(n i:Nat)(x:R4):(tab f n).set i x=tab (J3 f i x) n:=by
 apply qs
 ·simp[tab]
 ·intro j h1 h2;simp only[tab,List.getElem_set,List.getElem_map,lv,J3];by_cases e:i=j
  ·subst e;simp
  ·rw[if_neg e,if_neg (Ne.symm e)]
theorem Gp (f:Nat→R4)(n i:Nat)(x:R4):((((F f n).set (i*4) x.1).set (i*4+1) x.2.1).set (i*4+2) x.2.2.1).set (i*4+3) x.2.2.2=F (J3 f i x) n:=by
 rw[F,qM,Gb]
theorem vk (l:List R4)(z:R4):tab (fun i=>l.getD i z) l.length=l:=by
 apply qs
 ·simp[tab]
 ·intro j h1 h2;simp only[tab,List.getElem_map,lv];simp[b6,h2]
def fa (f:Nat→R4)(i j:Nat):Nat→R4:=J3 (J3 f i (f j)) j (f i)
theorem sG (f:Nat→R4)(i j k:Nat):fa f i j k=if k=j then f i else if k=i then f j else f k:=rfl
theorem kh (f:Nat→R4){n i j:Nat}(hi:i<n)(hj:j<n):
  ((((((((F f n).set (i*4) ((F f n).getD (j*4) 0)).set (i*4+1) ((F f n).getD (j*4+1) 0)).set (i*4+2) ((F f n).getD (j*4+2) 0)).set (i*4+3) ((F f n).getD (j*4+3) 0)).set (j*4) ((F f n).getD (i*4) 0)).set (j*4+1) ((F f n).getD (i*4+1) 0)).set (j*4+2) ((F f n).getD (i*4+2) 0)).set (j*4+3) ((F f n).getD (i*4+3) 0)=F (fa f i j) n:=by
 obtain⟨a1,a2,a3,a4⟩:=yr f hi;obtain⟨b1,b2,b3,b4⟩:=yr f hj;rw[a1,a2,a3,a4,b1,b2,b3,b4,Gp f n i (f j),Gp _ n j (f i)];rfl
theorem Ek (f:Nat→R4){n i j:Nat}(hi:i<n)(hj:j<n):(tab (fa f i j) n).Perm (tab f n):=by
 have key:∀(a b:Nat) (f:Nat→R4),a<b→b<n→(tab (fa f a b) n).Perm (tab f n):=by
  intro a b f hab hb;have hr:List.range n=List.range a++a::(List.range' (a+1) (b-a-1)++b::List.range' (b+1) (n-b-1)):=by
   apply qs
   ·simp;omega
   ·intro k h1 h2;simp only[oj]at h1;simp only[lv,List.getElem_append,List.getElem_cons,oj,List.length_range',List.getElem_range',x4];split
    ·rfl
    ·split
     ·omega
     ·split
      ·omega
      ·split
       ·omega
       ·omega
  have e1:∀l:List Nat,(∀k∈l,k≠a∧k≠b)→l.map (fa f a b)=l.map f:=fun l hl=>List.map_congr_left fun k hk=>by rw[sG,if_neg (hl k hk).2,if_neg (hl k hk).1]
  unfold tab;rw[hr];simp only[List.map_append,ec];rw[e1 _ (fun k hk=>by have:=tp.mp hk;omega),e1 _ (fun k hk=>by have:=List.mem_range'_1.mp hk;omega),e1 _ (fun k hk=>by have:=List.mem_range'_1.mp hk;omega)];have s1:fa f a b a=f b:=by rw[sG,if_neg (by omega),if_pos rfl]
  have s2:fa f a b b=f a:=by rw[sG,if_pos rfl]
  rw[s1,s2];refine List.Perm.append_left _ ?_;refine(List.Perm.cons _ List.perm_middle).trans ?_;refine(List.Perm.swap _ _ _).trans ?_;exact List.Perm.cons _ List.perm_middle.symm
 rcases Nat.lt_trichotomy i j with h|h|h
 ·exact key i j f h hj
 ·subst h;have:fa f i i=f:=by funext k;rw[sG];by_cases e:k=i<;>simp[e]
  rw[this]
 ·have:fa f i j=fa f j i:=by
   funext k;rw[sG,sG];by_cases e1:k=j
   ·subst e1;rw[if_pos rfl,if_neg (by omega),if_pos rfl]
   ·rw[if_neg e1];by_cases e2:k=i
    ·rw[if_pos e2,if_pos e2]
    ·rw[if_neg e2,if_neg e2,if_neg e1]
  rw[this];exact key j i f h hi
structure Mv (n:Nat)(f f':Nat→R4)(a b:Nat):Prop where
 out:∀i,¬(a≤i∧i<b)→f' i=f i
 src:∀i,a≤i→i<b→∃j,a≤j∧j<b∧f' i=f j
 perm:(tab f' n).Perm (tab f n)
theorem Mv.refl (n:Nat)(f:Nat→R4)(a b:Nat):Mv n f f a b:=⟨fun _ _=>rfl,fun i h1 h2=>⟨i,h1,h2,rfl⟩,.refl _⟩
theorem Mv.trans {n a b:Nat}{f g h:Nat→R4}(x:Mv n f g a b)(y:Mv n g h a b):Mv n f h a b:=
 ⟨fun i hi=>(y.out i hi).trans (x.out i hi),fun i h1 h2=>by obtain⟨j,j1,j2,j3⟩:=y.src i h1 h2;obtain⟨k,k1,k2,k3⟩:=x.src j j1 j2;exact⟨k,k1,k2,j3.trans k3⟩,y.perm.trans x.perm⟩
theorem Mv.mono {n a b a' b':Nat}{f g:Nat→R4}(x:Mv n f g a b)(h1:a'≤a)(h2:b≤b'):Mv n f g a' b':=
 ⟨fun i hi=>x.out i (by omega),fun i k1 k2=>by
  by_cases hi:a≤i∧i<b
  ·obtain⟨j,j1,j2,j3⟩:=x.src i hi.1 hi.2;exact⟨j,by omega,by omega,j3⟩
  ·exact⟨i,k1,k2,x.out i hi⟩,x.perm⟩
theorem Mv.swp {n a b i j:Nat}(f:Nat→R4)(h1:a≤i)(h2:i<b)(h3:a≤j)(h4:j<b)(hb:b≤n):Mv n f (fa f i j) a b:=
 ⟨fun k hk=>by rw[sG,if_neg (by omega),if_neg (by omega)],fun k k1 k2=>by
  rw[sG];by_cases e1:k=j
  ·rw[if_pos e1];exact⟨i,h1,h2,rfl⟩
  ·rw[if_neg e1];by_cases e2:k=i
   ·rw[if_pos e2];exact⟨j,h3,h4,rfl⟩
   ·rw[if_neg e2];exact⟨k,k1,k2,rfl⟩,Ek f (by omega) (by omega)⟩
theorem jW {a b:Nat}(h:a+b<4611686018427387904):aA ((a:Int)+(b:Int))=((a+b:Nat):Int):=by rw[fA (by omega) (by omega)];omega
theorem nT {a b:Nat}(h:b≤a)(ha:a<4611686018427387904):aA ((a:Int)- (b:Int))=((a-b:Nat):Int):=by rw[fA (by omega) (by omega)];omega
theorem zK {a:Nat}(h:1≤a)(ha:a<4611686018427387904):aA ((a:Int)-1)=((a-1:Nat):Int):=nT (b:=1) h ha
theorem eG (a b:Nat):decide ((a:Int)<(b:Int))=decide (a<b):=by rw[decide_eq_decide];omega
theorem tG {i n:Nat}(h:i<n):((decide (0≤(i:Int)))&&(decide ((i:Int)<(n:Int))))=true:=by
 rw[decide_eq_true (show(0:Int)≤(i:Int) by omega),decide_eq_true (show(i:Int)<(n:Int) by omega)];rfl
theorem zI (f:Nat→R4){i n:Nat}(h:i<n):((decide (0≤(i:Int)))&&(decide ((i:Int)<((F f n).length/4:Int))))=true:=by rw[F2];exact tG h
theorem ct {α:Type}{b:Bool}{x y:α}(h:b=true):(bif b then x else y)=x:=by rw[h];rfl
theorem cf {α:Type}{b:Bool}{x y:α}(h:b=false):(bif b then x else y)=y:=by rw[h];rfl
theorem kg (f:Nat→R4)(n:Nat):(F f n).length/4=n:=by rw[Gn];omega
def sw (f:Nat→R4)(a b i c:Nat):Nat→R4:=fun k=>if a+i≤k∧k<a+c then f (k-a+b)else if b+i≤k∧k<b+c then f (k-b+a)else f k
theorem ey (N:Nat){n a b c:Nat}(hab:a+c≤b)(hb:b+c≤n)(hn:n≤1000000){R:Type}(K:List Int→Option R):∀(m i:Nat) (f:Nat→R4),i≤c→c-i<m→
  Q120.l1 N m (a:Int) (b:Int) (c:Int) (i:Int) (F f n) K=K (F (sw f a b i c) n)∧Mv n f (sw f a b i c) a (b+c)
 |0,i,f,_,h=>by omega
 |m+1,i,f,hi,h=>by
  rw[Q120.l1,eG];by_cases hlt:i<c
  ·rw[decide_eq_true hlt,cond_true,jW (by omega),jW (by omega),ct (zI f (by omega)),ct (zI f (by omega)),ct (zI f (by omega))];rw[ct (by simp only[kn];exact zI f (by omega))];simp only[b5];rw[kh f (by omega) (by omega),eE (by omega)];obtain⟨h1,h2⟩:=ey N hab hb hn K m (i+1) (fa f (a+i) (b+i)) (by omega) (by omega);have e:sw (fa f (a+i) (b+i)) a b (i+1) c=sw f a b i c:=by
    funext k;simp only[sw,sG]
    repeat' split
    all_goals first|rfl|(exfalso;omega)|(congr 1;omega)
   rw[e]at h1 h2;exact⟨h1,(Mv.swp f (by omega) (by omega) (by omega) (by omega) hb).trans h2⟩
  ·rw[decide_eq_false hlt,cond_false];have:i=c:=by omega
   subst this;have e:sw f a b i i=f:=by funext k;simp only[sw];rw[if_neg (by omega),if_neg (by omega)]
   rw[e];exact⟨rfl,Mv.refl _ _ _ _⟩
theorem zU {N:Nat}(hN:1000001<N){n a b c:Nat}(hab:a+c≤b)(hb:b+c≤n)(hn:n≤1000000)(f:Nat→R4):
  Q120.f N (a:Int) (b:Int) (c:Int) (F f n)=some (F (sw f a b 0 c) n)∧Mv n f (sw f a b 0 c) a (b+c):=by
 unfold Q120.f;have:=ey N hab hb hn (fun y11=>some y11) N 0 f (by omega) (by omega);rwa[qb]at this
def gW (f:Nat→R4)(m i j:Nat):Nat→R4:=fun k=>if m-i≤k∧k<m-i+j then f (k+i)else if m-i+j≤k∧k<m+j then f (k-j)else f k
theorem q7 {N:Nat}(hN:1000001<N){n m:Nat}(hn:n≤1000000):∀(q i j:Nat) (f:Nat→R4),0<i→0<j→i≤m→m+j≤n→i+j<q→
  ∃i',0<i'∧i'≤i∧i'≤j∧(∀{R:Type} (K:Int→Int→List Int→Option R),∃g,Q121.l2 N q (m:Int) (i:Int) (j:Int) (F f n) K=K (m:Int) (i':Int) (F g n)∧sw g (m-i') m 0 i'=gW f m i j∧Mv n f g (m-i) (m+j))
 |0,i,j,f,_,_,_,_,h=>by omega
 |q+1,i,j,f,hi,hj,him,hjn,h=>by
  have hbne:∀{a b:Nat},((a:Int) != (b:Int))=decide (a≠b):=fun{a b}=>by
   by_cases e:a=b
   ·subst e;simp
   ·rw[decide_eq_true e];exact bne_iff_ne.mpr (by omega)
  rcases Nat.lt_trichotomy i j with hlt|rfl|hlt
  ·obtain⟨i',k1,k2,k3,k4⟩:=q7 hN hn q i (j-i) (sw f (m-i) (m+j-i) 0 i) hi (by omega) him (by omega) (by omega);refine⟨i',k1,k2,by omega,fun K=>?_⟩;obtain⟨g,g1,g2,g3⟩:=k4 K;obtain⟨s1,s2⟩:=zU hN (n:=n) (a:=m-i) (b:=m+j-i) (c:=i) (by omega) (by omega) hn f;refine⟨g,?_,?_,?_⟩
   ·rw[Q121.l2,ct (by rw[hbne];exact decide_eq_true (by omega)),cf (decide_eq_false (by omega)),nT him (by omega),jW (by omega),nT (by omega) (by omega),s1];simp only[pC];rw[nT (by omega) (by omega)];exact g1
   ·rw[g2];funext k;simp only[gW,sw]
    repeat' split
    all_goals first|rfl|(exfalso;omega)|(congr 1;omega)
   ·exact(s2.mono (by omega) (by omega)).trans (g3.mono (by omega) (by omega))
  ·refine⟨i,hi,y4 _,y4 _,fun K=>⟨f,?_,?_,Mv.refl _ _ _ _⟩⟩
   ·rw[Q121.l2,cf (by rw[hbne];exact decide_eq_false (by omega))]
   ·funext k;simp only[gW,sw]
    repeat' split
    all_goals first|rfl|(exfalso;omega)|(congr 1;omega)
  ·obtain⟨i',k1,k2,k3,k4⟩:=q7 hN hn q (i-j) j (sw f (m-i) m 0 j) (by omega) hj (by omega) hjn (by omega);refine⟨i',k1,by omega,k3,fun K=>?_⟩;obtain⟨g,g1,g2,g3⟩:=k4 K;obtain⟨s1,s2⟩:=zU hN (n:=n) (a:=m-i) (b:=m) (c:=j) (by omega) hjn hn f;refine⟨g,?_,?_,?_⟩
   ·rw[Q121.l2,ct (by rw[hbne];exact decide_eq_true (by omega)),ct (decide_eq_true (by omega)),nT him (by omega),s1];simp only[pC];rw[nT (by omega) (by omega)];exact g1
   ·rw[g2];funext k;simp only[gW,sw]
    repeat' split
    all_goals first|rfl|(exfalso;omega)|(congr 1;omega)
   ·exact(s2.mono (by omega) (by omega)).trans (g3.mono (by omega) (by omega))
theorem E8 {N:Nat}(hN:2000001<N){n a m b:Nat}(ha:a<m)(hb:m<b)(hbn:b≤n)(hn:n≤1000000)(f:Nat→R4):
  Q121.f N (a:Int) (m:Int) (b:Int) (F f n)=some (F (gW f m (m-a) (b-m)) n)∧Mv n f (gW f m (m-a) (b-m)) a b:=by
 obtain⟨i',k1,k2,k3,k4⟩:=q7 (N:=N) (by omega) (m:=m) hn N (m-a) (b-m) f (by omega) (by omega) (by omega) (by omega) (by omega);unfold Q121.f;obtain⟨g,g1,g2,g3⟩:=k4 (fun y14 y15 y16=>(Q120.f N (aA (y14-y15)) y14 y15 y16).bind fun r17=>some r17);obtain⟨s1,s2⟩:=zU (N:=N) (by omega) (n:=n) (a:=m-i') (b:=m) (c:=i') (by omega) (by omega) hn g;rw[nT (by omega) (by omega),nT (by omega) (by omega),g1,nT (by omega) (by omega),s1,g2];rw[g2]at s2;exact⟨rfl,(g3.mono (by omega) (by omega)).trans (s2.mono (by omega) (by omega))⟩
abbrev nn (x:R4):Int:=x.2.2.2
def Bd (f:Nat→R4):Prop:=∀i,0≤nn (f i)∧nn (f i)≤1000000
theorem Mv.bd {n a b:Nat}{f g:Nat→R4}(h:Mv n f g a b)(k:Bd f):Bd g:=fun i=>by
 by_cases hi:a≤i∧i<b
 ·obtain⟨j,_,_,e⟩:=h.src i hi.1 hi.2;rw[e];exact k j
 ·rw[h.out i hi];exact k i
def Dn (f:Nat→R4)(a b:Nat):Prop:=∀i j,a≤i→i≤j→j<b→nn (f j)≤nn (f i)
theorem oW {f:Nat→R4}(h:Bd f)(i j:Nat):decide (aA (nn (f j)-nn (f i))<0)=decide (nn (f j)<nn (f i)):=by
 have h1:=h i;have h2:=h j;rw[fA (by omega) (by omega),decide_eq_decide];omega
theorem Cr (N:Nat){n a:Nat}(hn:n≤1000000){R:Type}(x9 x10:Int)(K:Int→Int→Int→List Int→Option R):∀(m j b:Nat) (f:Nat→R4),Bd f→a≤j→j<b→b≤n→j<m→
  (∀i k,a≤i→i≤k→k<b→i≠j→k≠j→nn (f k)≤nn (f i))→(∀k,j<k→k<b→nn (f k)≤nn (f j))→
  ∃g,Q122.l4 N m (a:Int) x9 x10 (j:Int) (F f n) K=K (a:Int) x9 x10 (F g n)∧Mv n f g a b∧Dn g a b
 |0,j,b,f,_,_,_,_,h,_,_=>by omega
 |m+1,j,b,f,hf,ha,hj,hb,hm,h1,h2=>by
  rw[Q122.l4];have hdone:(∀i,a≤i→i<j→nn (f j)≤nn (f i))→Dn f a b:=fun h3 i k q1 q2 q3=>by
   by_cases e1:i=j
   ·subst e1;by_cases e2:k=i
    ·subst e2;omega
    ·exact h2 k (by omega) q3
   ·by_cases e2:k=j
    ·subst e2;exact h3 i q1 (by omega)
    ·exact h1 i k q1 q2 q3 e1 e2
  by_cases hlt:a<j
  ·have hj1:aA ((j:Int)-1)=((j-1:Nat):Int):=zK (by omega) (by omega);rw[ct (decide_eq_true (show(j:Int)>(a:Int) by omega)),ct (zI f (by omega)),hj1,ct (zI f (by omega))];simp only[b5];obtain⟨a1,a2,a3,a4⟩:=yr f (n:=n) (i:=j) (by omega);obtain⟨b1,b2,b3,b4⟩:=yr f (n:=n) (i:=j-1) (by omega);have hc:Q119.f N ((F f n).getD (j*4) 0) ((F f n).getD (j*4+1) 0) ((F f n).getD (j*4+2) 0) ((F f n).getD (j*4+3) 0) ((F f n).getD ((j-1)*4) 0) ((F f n).getD ((j-1)*4+1) 0) ((F f n).getD ((j-1)*4+2) 0) ((F f n).getD ((j-1)*4+3) 0)=some (aA (nn (f (j-1))-nn (f j))):=by
    unfold Q119.f;rw[a4,b4]
   rw[hc];simp only[pC];rw[oW hf j (j-1)];by_cases hc2:nn (f (j-1))<nn (f j)
   ·rw[ct (decide_eq_true hc2),ct (zI f (by omega)),ct (zI f (by omega)),ct (zI f (by omega))];rw[ct (by simp only[kn];rw[kg];exact tG (by omega))];rw[kh f (by omega) (by omega)];obtain⟨g,g1,g2,g3⟩:=Cr N (a:=a) hn x9 x10 K m (j-1) b (fa f j (j-1)) ((Mv.swp (n:=n) f (a:=a) (b:=b) (by omega) (by omega) (by omega) (by omega) hb).bd hf) (by omega) (by omega) hb (by omega)
     (fun i k q1 q2 q3 q4 q5=>by
      rw[sG,sG,if_neg q4,if_neg q5];by_cases e1:k=j
      ·rw[if_pos e1];by_cases e2:i=j
       ·rw[if_pos e2];exact tc _
       ·rw[if_neg e2];exact h1 i (j-1) q1 (by omega) (by omega) (by omega) (by omega)
      ·rw[if_neg e1];by_cases e2:i=j
       ·rw[if_pos e2];exact h1 (j-1) k (by omega) (by omega) q3 (by omega) e1
       ·rw[if_neg e2];exact h1 i k q1 q2 q3 e2 e1)
     (fun k q1 q2=>by
      rw[sG,sG,if_neg (by omega),if_pos rfl];by_cases e1:k=j
      ·rw[if_pos e1];omega
      ·rw[if_neg e1];exact h2 k (by omega) q2)
    exact⟨g,g1,(Mv.swp f (by omega) (by omega) (by omega) (by omega) hb).trans g2,g3⟩
   ·rw[cf (decide_eq_false hc2)];refine⟨f,rfl,Mv.refl _ _ _ _,hdone fun i q1 q2=>?_⟩;have:=h1 i (j-1) q1 (by omega) (by omega) (by omega) (by omega);omega
  ·rw[cf (decide_eq_false (show ¬(j:Int)>(a:Int) by omega))];exact⟨f,rfl,Mv.refl _ _ _ _,hdone fun i q1 q2=>by omega⟩
theorem xb {N:Nat}(hN:1000001<N){n a b:Nat}(hb:b≤n)(hn:n≤1000000){R:Type}(K:List Int→Option R):∀(m i:Nat) (f:Nat→R4),Bd f→a≤i→b+1-i<m→Dn f a i→
  ∃g,Q122.l1 N m (a:Int) (b:Int) (i:Int) (F f n) K=K (F g n)∧Mv n f g a b∧Dn g a b
 |0,i,f,_,_,h,_=>by omega
 |m+1,i,f,hf,ha,hm,hd=>by
  rw[Q122.l1,eG];by_cases hlt:i<b
  ·rw[ct (decide_eq_true hlt)];obtain⟨g,g1,g2,g3⟩:=Cr N (a:=a) hn (b:Int) (i:Int) (fun y18 y19 y20 y21=>Q122.l1 N m y18 y19 (aA (y20+1)) y21 K) N i (i+1) f hf ha (by omega) (by omega) (by omega)
    (fun p k q1 q2 q3 q4 q5=>hd p k q1 q2 (by omega)) (fun k q1 q2=>by omega)
   rw[g1,eE (by omega)];obtain⟨h,h1,h2,h3⟩:=xb hN hb hn K m (i+1) g (g2.bd hf) (by omega) (by omega) g3;exact⟨h,h1,(g2.mono (by omega) (by omega)).trans h2,h3⟩
  ·rw[cf (decide_eq_false hlt)];exact⟨f,rfl,Mv.refl _ _ _ _,fun p k q1 q2 q3=>hd p k q1 q2 (by omega)⟩
theorem mq {N:Nat}(hN:1000010<N){n a b:Nat}(hb:b≤n)(hn:n≤1000000)(ha:a≤1000000){f:Nat→R4}(hf:Bd f):∃g,Q122.f N (a:Int) (b:Int) (F f n)=some (F g n)∧Mv n f g a b∧Dn g a b:=by
 unfold Q122.f;rw[eE (by omega)];refine xb (by omega) hb hn (fun y23=>some y23) N (a+1) f hf (by omega) (by omega) (fun i j q1 q2 q3=>?_);have:i=j:=by omega
 subst this;exact tc _
open Go.Proofs.YtjpdjdhdchjcgaaGreat.Pure (fA rW)
open Go.Proofs.YtjpdjdhdchjcgaaGreat.NatL (xA)
theorem yl {x y:Nat}(h:x+y<4611686018427387904):aA (Int.fdiv (jA (aA ((x:Int)+(y:Int)))) (2^1))=(((x+y)/2:Nat):Int):=by
 rw[jW h,xA (by omega) (by omega),rW,fA (by omega) (by omega)];omega
theorem zR {R:Type}(lp:Nat→Nat→Nat→Option R)(K:Nat→Option R)(P:Nat→Bool){i0 j0:Nat}
  (hu:∀m i j,i0≤i→i<j→j≤j0→lp (m+1) i j=bif P ((i+j)/2)then lp m ((i+j)/2+1) j else lp m i ((i+j)/2))(hk:∀m i,i0≤i→i≤j0→lp (m+1) i i=K i)
  (hP:∀k k',i0≤k→k≤k'→k'<j0→P k'=true→P k=true):∀m i j,i0≤i→i≤j→j≤j0→j-i<m→(∀k,i0≤k→k<i→P k=true)→(∀k,j≤k→k<j0→P k=false)→
   ∃s,i0≤s∧s≤j0∧(∀k,i0≤k→k<s→P k=true)∧(∀k,s≤k→k<j0→P k=false)∧lp m i j=K s
 |0,i,j,_,_,_,h,_,_=>by omega
 |m+1,i,j,h1,h2,h3,h4,h5,h6=>by
  by_cases hlt:i<j
  ·rw[hu m i j h1 hlt h3];cases hp:P ((i+j)/2)with
   |true=>rw[cond_true];exact zR lp K P hu hk hP m _ j (by omega) (by omega) h3 (by omega) (fun k q1 q2=>hP k ((i+j)/2) q1 (by omega) (by omega) hp) h6
   |false=>
    rw[cond_false];refine zR lp K P hu hk hP m i _ h1 (by omega) (by omega) (by omega) h5 (fun k q1 q2=>?_);cases hq:P k with
    |false=>rfl
    |true=>rw[hP ((i+j)/2) k (by omega) q1 q2 hq]at hp;cases hp
  ·have:i=j:=by omega
   subst this;exact⟨i,h1,h3,h5,h6,hk m i h1 h3⟩
theorem wZ (N:Nat){n i j:Nat}{f:Nat→R4}(hi:i<n)(hj:j<n):
  Q119.f N ((F f n).getD (i*4) 0) ((F f n).getD (i*4+1) 0) ((F f n).getD (i*4+2) 0) ((F f n).getD (i*4+3) 0) ((F f n).getD (j*4) 0) ((F f n).getD (j*4+1) 0) ((F f n).getD (j*4+2) 0) ((F f n).getD (j*4+3) 0)=some (aA (nn (f j)-nn (f i))):=by
 unfold Q119.f;rw[(yr f hi).2.2.2,(yr f hj).2.2.2]
abbrev G4:=Int→Int→Int→List Int→Option (List Int)
theorem s3 (g:G4)(N:Nat){n a i0 j0:Nat}{f:Nat→R4}(hf:Bd f)(ha:a<n)(hj0:j0≤n)(hn:n≤1000000)(hd:Dn f i0 j0){R:Type}(K:Int→Int→List Int→Option R){q:Nat}(hij:i0≤j0)(hq:j0-i0<q):
  ∃s,i0≤s∧s≤j0∧(∀k,i0≤k→k<s→nn (f a)<nn (f k))∧(∀k,s≤k→k<j0→nn (f k)≤nn (f a))∧Q123.l3 g N q (a:Int) (i0:Int) (j0:Int) (F f n) K=K (a:Int) (s:Int) (F f n):=by
 obtain⟨s,h1,h2,h3,h4,h5⟩:=zR (fun m i j=>Q123.l3 g N m (a:Int) (i:Int) (j:Int) (F f n) K) (fun s=>K (a:Int) (s:Int) (F f n)) (fun k=>decide (nn (f a)<nn (f k))) (i0:=i0) (j0:=j0)
  (fun m i j q1 q2 q3=>by rw[Q123.l3,eG,ct (decide_eq_true q2),yl (by omega),ct (zI f (by omega)),ct (zI f ha)];simp only[b5];rw[wZ N (by omega) ha];simp only[pC];rw[oW hf,eE (by omega)])
  (fun m i q1 q2=>by rw[Q123.l3,eG,cf (decide_eq_false (by omega))])
  (fun k k' q1 q2 q3 q4=>by simp only[decide_eq_true_eq]at q4⊢;have:=hd k k' q1 q2 q3;omega) q i0 j0 (y4 _) hij (y4 _) hq (fun k q1 q2=>by omega) (fun k q1 q2=>by omega)
 exact⟨s,h1,h2,fun k q1 q2=>by simpa using h3 k q1 q2,fun k q1 q2=>by have:=h4 k q1 q2;simp only[decide_eq_false_iff_not]at this;omega,h5⟩
theorem K7 (g:G4)(N:Nat){n m i0 j0:Nat}{f:Nat→R4}(hf:Bd f)(hm:m<n)(hj0:j0≤n)(hn:n≤1000000)(hd:Dn f i0 j0){R:Type}(K:Int→Int→List Int→Option R){q:Nat}(hij:i0≤j0)(hq:j0-i0<q):
  ∃s,i0≤s∧s≤j0∧(∀k,i0≤k→k<s→nn (f m)≤nn (f k))∧(∀k,s≤k→k<j0→nn (f k)<nn (f m))∧Q123.l15 g N q (m:Int) (i0:Int) (j0:Int) (F f n) K=K (m:Int) (s:Int) (F f n):=by
 obtain⟨s,h1,h2,h3,h4,h5⟩:=zR (fun q i j=>Q123.l15 g N q (m:Int) (i:Int) (j:Int) (F f n) K) (fun s=>K (m:Int) (s:Int) (F f n)) (fun k=>!decide (nn (f k)<nn (f m))) (i0:=i0) (j0:=j0)
  (fun q i j q1 q2 q3=>by rw[Q123.l15,eG,ct (decide_eq_true q2),yl (by omega),ct (zI f hm),ct (zI f (by omega))];simp only[b5];rw[wZ N hm (by omega)];simp only[pC];rw[oW hf,eE (by omega)])
  (fun q i q1 q2=>by rw[Q123.l15,eG,cf (decide_eq_false (by omega))])
  (fun k k' q1 q2 q3 q4=>by simp only[gy,decide_eq_false_iff_not]at q4⊢;have:=hd k k' q1 q2 q3;omega) q i0 j0 (y4 _) hij (y4 _) hq (fun k q1 q2=>by omega) (fun k q1 q2=>by omega)
 refine⟨s,h1,h2,fun k q1 q2=>?_,fun k q1 q2=>?_,h5⟩
 ·have:=h3 k q1 q2;simp only[gy,decide_eq_false_iff_not]at this;omega
 ·have:=h4 k q1 q2;simp only[Bool.not_eq_false',decide_eq_true_eq]at this;exact this
theorem Jx (g:G4)(N:Nat){n p i0 j0:Nat}{f:Nat→R4}(hf:Bd f)(hp:p<n+i0)(hj0:j0≤n)(hjp:j0≤p+1)(hn:n≤1000000)(hd:Dn f i0 j0)(hd2:Dn f (p+1-j0) (p+1-i0)){R:Type}(x39 x40 x41 x42 x43:Int)(K:Int→Int→Int→Int→Int→Int→List Int→Option R){q:Nat}(hij:i0≤j0)(hq:j0-i0<q):
  ∃s,i0≤s∧s≤j0∧(∀k,i0≤k→k<s→nn (f (p-k))≤nn (f k))∧(∀k,s≤k→k<j0→nn (f k)<nn (f (p-k)))∧Q123.l33 g N q x39 x40 x41 x42 x43 (i0:Int) (j0:Int) (p:Int) (F f n) K=K x39 x40 x41 x42 x43 (s:Int) (F f n):=by
 obtain⟨s,h1,h2,h3,h4,h5⟩:=zR (fun q i j=>Q123.l33 g N q x39 x40 x41 x42 x43 (i:Int) (j:Int) (p:Int) (F f n) K) (fun s=>K x39 x40 x41 x42 x43 (s:Int) (F f n)) (fun k=>!decide (nn (f k)<nn (f (p-k)))) (i0:=i0) (j0:=j0)
  (fun q i j q1 q2 q3=>by have hw:aA ((p:Int)- (((i+j)/2:Nat):Int))=((p- (i+j)/2:Nat):Int):=nT (by omega) (by omega);rw[Q123.l33,eG,ct (decide_eq_true q2),yl (by omega),hw,ct (zI f (by omega)),ct (zI f (by omega))];simp only[b5];rw[wZ N (by omega) (by omega)];simp only[pC];rw[oW hf,eE (by omega)])
  (fun q i q1 q2=>by rw[Q123.l33,eG,cf (decide_eq_false (by omega))])
  (fun k k' q1 q2 q3 q4=>by simp only[gy,decide_eq_false_iff_not]at q4⊢;have:=hd k k' q1 q2 q3;have:=hd2 (p-k') (p-k) (by omega) (by omega) (by omega);omega) q i0 j0 (y4 _) hij (y4 _) hq (fun k q1 q2=>by omega) (fun k q1 q2=>by omega)
 refine⟨s,h1,h2,fun k q1 q2=>?_,fun k q1 q2=>?_,h5⟩
 ·have:=h3 k q1 q2;simp only[gy,decide_eq_false_iff_not]at this;omega
 ·have:=h4 k q1 q2;simp only[Bool.not_eq_false',decide_eq_true_eq]at this;exact this
def Bj (f:Nat→R4)(a s:Nat):Nat→R4:=fun k=>if a≤k∧k+1<s then f (k+1)else if k+1=s∧a≤k then f a else f k
theorem eX (g:G4)(N:Nat){n s:Nat}(hs:s≤n)(hn:n≤1000000){R:Type}(K:List Int→Option R):∀(q a:Nat) (f:Nat→R4),a<s→s-a<q→
  Q123.l9 g N q (s:Int) (a:Int) (F f n) K=K (F (Bj f a s) n)∧Mv n f (Bj f a s) a s
 |0,a,f,_,h=>by omega
 |q+1,a,f,ha,h=>by
  rw[Q123.l9,zK (by omega) (by omega),eG];by_cases hlt:a<s-1
  ·rw[ct (decide_eq_true hlt),eE (by omega),ct (zI f (by omega)),ct (zI f (by omega)),ct (zI f (by omega))];rw[ct (by simp only[kn];exact zI f (by omega))];simp only[b5];rw[kh f (by omega) (by omega)];obtain⟨h1,h2⟩:=eX g N hs hn K q (a+1) (fa f a (a+1)) (by omega) (by omega);have e:Bj (fa f a (a+1)) (a+1) s=Bj f a s:=by
    funext k;simp only[Bj,sG]
    repeat' split
    all_goals first|rfl|(exfalso;omega)|(exact absurd trivial (by assumption))|(congr 1;omega)
   rw[e]at h1 h2;exact⟨h1,(Mv.swp f (by omega) (by omega) (by omega) (by omega) hs).trans (h2.mono (by omega) (by omega))⟩
  ·rw[cf (decide_eq_false hlt)];have e:Bj f a s=f:=by
    funext k;simp only[Bj]
    repeat' split
    all_goals first|rfl|(exfalso;omega)|(exact absurd trivial (by assumption))|(congr 1;omega)
   rw[e];exact⟨rfl,Mv.refl _ _ _ _⟩
def Bi (f:Nat→R4)(s m:Nat):Nat→R4:=fun k=>if s<k∧k≤m then f (k-1)else if k=s then f m else f k
theorem vJ (g:G4)(N:Nat){n s:Nat}(hn:n≤1000000){R:Type}(K:List Int→Option R):∀(q m:Nat) (f:Nat→R4),s≤m→m<n→m<q→
  Q123.l21 g N q (s:Int) (m:Int) (F f n) K=K (F (Bi f s m) n)∧Mv n f (Bi f s m) s (m+1)
 |0,m,f,_,_,h=>by omega
 |q+1,m,f,ha,hm,h=>by
  rw[Q123.l21];by_cases hlt:s<m
  ·have hj1:aA ((m:Int)-1)=((m-1:Nat):Int):=zK (by omega) (by omega);rw[ct (decide_eq_true (show(m:Int)>(s:Int) by omega)),hj1,ct (zI f (by omega)),ct (zI f (by omega)),ct (zI f (by omega))];rw[ct (by simp only[kn];rw[kg];exact tG (by omega))];simp only[b5];rw[kh f (by omega) (by omega)];obtain⟨h1,h2⟩:=vJ (n:=n) (s:=s) g N hn K q (m-1) (fa f m (m-1)) (by omega) (by omega) (by omega);have e:Bi (fa f m (m-1)) s (m-1)=Bi f s m:=by
    funext k;simp only[Bi,sG]
    repeat' split
    all_goals first|rfl|(exfalso;omega)|(exact absurd trivial (by assumption))|(congr 1;omega)
   rw[e]at h1 h2;exact⟨h1,(Mv.swp (n:=n) (a:=s) (b:=m+1) f (by omega) (by omega) (by omega) (by omega) (by omega)).trans (h2.mono (by omega) (by omega))⟩
  ·rw[cf (decide_eq_false (show ¬(m:Int)>(s:Int) by omega))];have e:Bi f s m=f:=by
    funext k;simp only[Bi]
    repeat' split
    all_goals first|rfl|(exfalso;omega)|(exact absurd trivial (by assumption))|(congr 1;omega)
   rw[e];exact⟨rfl,Mv.refl _ _ _ _⟩
theorem lf {α:Type}(a b:Bool)(x y:α):(bif a then(bif b then x else y)else y)=bif a&&b then x else y:=by cases a<;>rfl
theorem bQ {α β:Type}{p:Bool}{x:Option α}{y z:α}{k:α→Option β}(h1:p=true→x=some z)(h2:p=false→y=z):(bif p then x.bind k else k y)=k z:=by
 cases p
 ·rw[←h2 rfl];rfl
 ·rw[h1 rfl];rfl
theorem vT {p q:Prop} [Decidable p] [Decidable q](h:(decide p&&decide q)=true):p∧q:=by simpa using h
theorem mU {p q:Prop} [Decidable p] [Decidable q](h:(decide p&&decide q)=false):¬(p∧q):=fun hc=>by rw[decide_eq_true hc.1,decide_eq_true hc.2]at h;cases h
theorem Dn.sub {f:Nat→R4}{a b a' b':Nat}(h:Dn f a b)(h1:a≤a')(h2:b'≤b):Dn f a' b':=fun i j q1 q2 q3=>h i j (by omega) q2 (by omega)
theorem Dn.same {f g:Nat→R4}{a b:Nat}(h:Dn f a b)(he:∀i,a≤i→i<b→g i=f i):Dn g a b:=fun i j q1 q2 q3=>by
 rw[he i q1 (by omega),he j (by omega) q3];exact h i j q1 q2 q3
theorem Dn.glue {f:Nat→R4}{a m b:Nat}(h1:Dn f a m)(h2:Dn f m b)(h3:∀i j,a≤i→i<m→m≤j→j<b→nn (f j)≤nn (f i)):Dn f a b:=fun i j q1 q2 q3=>by
 by_cases e1:j<m
 ·exact h1 i j q1 q2 e1
 ·by_cases e2:i<m
  ·exact h3 i j q1 e2 (by omega) q3
  ·exact h2 i j (by omega) q2 q3
theorem I1 {f:Nat→R4}{a m b mid s e lo hi:Nat}(hd1:Dn f a m)(hd2:Dn f m b)(ham:a≤s)(hsm:s≤m)(hme:m≤e)(heb:e≤b)(hmid:s+(e-m)=mid)(hse:s+e=mid+m)(hlo:lo≤s)(hhi:s≤hi)
  (hP:∀k,lo≤k→k<s→nn (f (mid+m-1-k))≤nn (f k))(hQ:∀k,s≤k→k<hi→nn (f k)<nn (f (mid+m-1-k)))(hl:s=lo→s=a∨e=b)(hh:s=hi→s=m∨e=m):
  Dn (gW f m (m-s) (e-m)) a s∧Dn (gW f m (m-s) (e-m)) s mid∧Dn (gW f m (m-s) (e-m)) mid e∧Dn (gW f m (m-s) (e-m)) e b∧
   ∀i j,a≤i→i<mid→mid≤j→j<b→nn (gW f m (m-s) (e-m) j)≤nn (gW f m (m-s) (e-m) i):=by
 have r1:∀k,k<s→gW f m (m-s) (e-m) k=f k:=fun k hk=>by unfold gW;rw[if_neg (by omega),if_neg (by omega)]
 have r2:∀k,s≤k→k<mid→gW f m (m-s) (e-m) k=f (k+(m-s)):=fun k h1 h2=>by unfold gW;rw[if_pos (by omega)]
 have r3:∀k,mid≤k→k<e→gW f m (m-s) (e-m) k=f (k- (e-m)):=fun k h1 h2=>by unfold gW;rw[if_neg (by omega),if_pos (by omega)]
 have r4:∀k,e≤k→gW f m (m-s) (e-m) k=f k:=fun k h1=>by unfold gW;rw[if_neg (by omega),if_neg (by omega)]
 refine⟨fun i j q1 q2 q3=>?_,fun i j q1 q2 q3=>?_,fun i j q1 q2 q3=>?_,fun i j q1 q2 q3=>?_,fun i j q1 q2 q3 q4=>?_⟩
 ·rw[r1 i (by omega),r1 j q3];exact hd1 i j q1 q2 (by omega)
 ·rw[r2 i q1 (by omega),r2 j (by omega) q3];exact hd2 _ _ (by omega) (by omega) (by omega)
 ·rw[r3 i q1 (by omega),r3 j (by omega) q3];exact hd1 _ _ (by omega) (by omega) (by omega)
 ·rw[r4 i q1,r4 j (by omega)];exact hd2 i j (by omega) q2 q3
 ·by_cases c1:i<s
  ·rw[r1 i c1];by_cases c2:j<e
   ·rw[r3 j q3 c2];exact hd1 _ _ q1 (by omega) (by omega)
   ·rw[r4 j (by omega)];have hne:s≠lo:=fun he=>by have:=hl he;omega
    have h1:=hP (s-1) (by omega) (by omega);rw[show mid+m-1- (s-1)=e by omega]at h1;have h2:=hd1 i (s-1) q1 (by omega) (by omega);have h3:=hd2 e j (by omega) (by omega) q4;omega
  ·rw[r2 i (by omega) q2];by_cases c2:j<e
   ·rw[r3 j q3 c2];have hne:s≠hi:=fun he=>by have:=hh he;omega
    have h1:=hQ s (by omega) (by omega);rw[show mid+m-1-s=e-1 by omega]at h1;have h2:=hd1 s (j- (e-m)) (by omega) (by omega) (by omega);have h3:=hd2 (i+(m-s)) (e-1) (by omega) (by omega) (by omega);omega
   ·rw[r4 j (by omega)];exact hd2 _ _ (by omega) (by omega) q4
theorem E7 (f:Nat→R4){m i j:Nat}(h:i=0∨j=0):gW f m i j=f:=by
 funext k;simp only[gW]
 repeat' split
 all_goals first|rfl|(exfalso;omega)|(congr 1;omega)
theorem El {N:Nat}(hN:2000010<N){n:Nat}(hn:n≤1000000):∀(q a m b:Nat) (f:Nat→R4),Bd f→a<m→m<b→b≤n→Dn f a m→Dn f m b→b-a<q→
  ∃f',Q123.g N q (a:Int) (m:Int) (b:Int) (F f n)=some (F f' n)∧Mv n f f' a b∧Dn f' a b
 |0,a,m,b,f,_,_,_,_,_,_,h=>by omega
 |q+1,a,m,b,f,hf,ham,hmb,hbn,hd1,hd2,hq=>by
  rw[Q123.g,Q123.step,nT (by omega) (by omega),nT (by omega) (by omega)];have c1:∀x:Nat,((x:Int)==1)=decide (x=1):=fun x=>by
   by_cases e:x=1
   ·subst e;rfl
   ·rw[decide_eq_false e];exact beq_eq_false_iff_ne.mpr (by omega)
  rw[c1,c1];by_cases e1:m-a=1
  ·rw[ct (decide_eq_true e1)];obtain⟨s,h1,h2,h3,h4,h5⟩:=s3 (Q123.g N q) N hf (show a<n by omega) hbn hn hd2 (fun y13 y14 y15=>Q123.l9 (Q123.g N q) N N y14 y13 y15 (fun y20=>some y20)) (q:=N) (by omega) (by omega);obtain⟨u1,u2⟩:=eX (Q123.g N q) N (n:=n) (s:=s) (by omega) hn (fun y20=>some y20) N a f (by omega) (by omega);refine⟨Bj f a s,h5.trans u1,u2.mono (y4 _) h2,fun i j q1 q2 q3=>?_⟩;have key:∀k,a≤k→k<b→(k+1<s∧Bj f a s k=f (k+1))∨(k+1=s∧Bj f a s k=f a)∨(s≤k∧Bj f a s k=f k):=fun k k1 k2=>by
    unfold Bj;by_cases d1:k+1<s
    ·exact .inl ⟨d1,by rw[if_pos ⟨k1,d1⟩]⟩
    ·by_cases d2:k+1=s
     ·exact .inr (.inl ⟨d2,by rw[if_neg (by omega),if_pos ⟨d2,k1⟩]⟩)
     ·exact .inr (.inr ⟨by omega,by rw[if_neg (by omega),if_neg (by omega)]⟩)
   rcases key i q1 (by omega)with⟨k1,k2⟩|⟨k1,k2⟩|⟨k1,k2⟩<;>rcases key j (by omega) q3 with⟨l1,l2⟩|⟨l1,l2⟩|⟨l1,l2⟩<;>rw[k2,l2]
   ·exact hd2 _ _ (by omega) (by omega) (by omega)
   ·exact hE (h3 (i+1) (by omega) k1)
   ·exact hd2 _ _ (by omega) (by omega) (by omega)
   ·omega
   ·exact tc _
   ·exact h4 j l1 q3
   ·omega
   ·omega
   ·exact hd2 _ _ (by omega) (by omega) (by omega)
  ·rw[cf (decide_eq_false e1)];by_cases e2:b-m=1
   ·rw[ct (decide_eq_true e2)];obtain⟨s,h1,h2,h3,h4,h5⟩:=K7 (Q123.g N q) N hf (show m<n by omega) (show m≤n by omega) hn hd1 (fun y30 y31 y32=>Q123.l21 (Q123.g N q) N N y31 y30 y32 (fun y37=>some y37)) (q:=N) (by omega) (by omega);obtain⟨u1,u2⟩:=vJ (Q123.g N q) N (n:=n) (s:=s) hn (fun y37=>some y37) N m f h2 (by omega) (by omega);refine⟨Bi f s m,h5.trans u1,u2.mono h1 (by omega),fun i j q1 q2 q3=>?_⟩;have key:∀k,a≤k→k<b→(s<k∧Bi f s m k=f (k-1))∨(k=s∧Bi f s m k=f m)∨(k<s∧Bi f s m k=f k):=fun k k1 k2=>by
     unfold Bi;by_cases d1:s<k
     ·exact .inl ⟨d1,by rw[if_pos ⟨d1,by omega⟩]⟩
     ·by_cases d2:k=s
      ·exact .inr (.inl ⟨d2,by rw[if_neg (by omega),if_pos d2]⟩)
      ·exact .inr (.inr ⟨by omega,by rw[if_neg (by omega),if_neg d2]⟩)
    rcases key i q1 (by omega)with⟨k1,k2⟩|⟨k1,k2⟩|⟨k1,k2⟩<;>rcases key j (by omega) q3 with⟨l1,l2⟩|⟨l1,l2⟩|⟨l1,l2⟩<;>rw[k2,l2]
    ·exact hd1 _ _ (by omega) (by omega) (by omega)
    ·omega
    ·omega
    ·exact hE (h4 (j-1) (by omega) (by omega))
    ·exact tc _
    ·omega
    ·exact hd1 _ _ (by omega) (by omega) (by omega)
    ·exact h3 i q1 k1
    ·exact hd1 _ _ (by omega) (by omega) (by omega)
   ·rw[cf (decide_eq_false e2),yl (by omega),jW (by omega)];obtain⟨mid,hmid⟩:∃mid,mid=(a+b)/2:=⟨_,rfl⟩
    rw[←hmid,zK (by omega) (by omega)];have tail:∀(s:Nat) (lo hi:Nat),lo≤s→s≤hi→a≤s→s≤m→mid+m-s≤b→s≤mid→(∀k,lo≤k→k<s→nn (f (mid+m-1-k))≤nn (f k))→(∀k,s≤k→k<hi→nn (f k)<nn (f (mid+m-1-k)))→(s=lo→s=a∨mid+m-s=b)→(s=hi→s=m∨mid+m-s=m)→
      ∃f1 f2 f3:Nat→R4,(s<m∧m<mid+m-s→Q121.f N (s:Int) (m:Int) ((mid+m-s:Nat):Int) (F f n)=some (F f1 n))∧(¬(s<m∧m<mid+m-s)→f1=f)∧
       (a<s∧s<mid→Q123.g N q (a:Int) (s:Int) (mid:Int) (F f1 n)=some (F f2 n))∧(¬(a<s∧s<mid)→f2=f1)∧
       (mid<mid+m-s∧mid+m-s<b→Q123.g N q (mid:Int) ((mid+m-s:Nat):Int) (b:Int) (F f2 n)=some (F f3 n))∧(¬(mid<mid+m-s∧mid+m-s<b)→f3=f2)∧Mv n f f3 a b∧Dn f3 a b:=by
     intro s lo hi t1 t2 t3 t4 t5 t6 t7 t8 t9 t10;obtain⟨D1,D2,D3,D4,D5⟩:=I1 (mid:=mid) (e:=mid+m-s) hd1 hd2 t3 t4 (by omega) t5 (by omega) (by omega) t1 t2 t7 t8 t9 t10;have M1:(s<m∧m<mid+m-s→Q121.f N (s:Int) (m:Int) ((mid+m-s:Nat):Int) (F f n)=some (F (gW f m (m-s) (mid+m-s-m)) n))∧Mv n f (gW f m (m-s) (mid+m-s-m)) a b:=by
      by_cases hc:s<m∧m<mid+m-s
      ·obtain⟨r1,r2⟩:=E8 (N:=N) (by omega) hc.1 hc.2 (show mid+m-s≤n by omega) hn f;exact⟨fun _=>r1,r2.mono (by omega) (by omega)⟩
      ·refine⟨fun h=>absurd h hc,?_⟩;rw[E7 f (by omega)];exact Mv.refl _ _ _ _
     generalize hg1:gW f m (m-s) (mid+m-s-m)=f1 at*;have B1:=M1.2.bd hf;obtain⟨f2,L1,L2,L3,L4⟩:∃f2,(a<s∧s<mid→Q123.g N q (a:Int) (s:Int) (mid:Int) (F f1 n)=some (F f2 n))∧(¬(a<s∧s<mid)→f2=f1)∧Mv n f1 f2 a mid∧Dn f2 a mid:=by
      by_cases hc:a<s∧s<mid
      ·obtain⟨f2,r1,r2,r3⟩:=El hN hn q a s mid f1 B1 hc.1 hc.2 (by omega) D1 D2 (by omega);exact⟨f2,fun _=>r1,fun h=>absurd hc h,r2,r3⟩
      ·refine⟨f1,fun h=>absurd h hc,fun _=>rfl,Mv.refl _ _ _ _,?_⟩;rcases(show s=a∨s=mid by omega)with e|e
       ·rw[←e];exact D2
       ·rw[←e];exact D1
     obtain⟨f3,R1,R2,R3,R4⟩:∃f3,(mid<mid+m-s∧mid+m-s<b→Q123.g N q (mid:Int) ((mid+m-s:Nat):Int) (b:Int) (F f2 n)=some (F f3 n))∧(¬(mid<mid+m-s∧mid+m-s<b)→f3=f2)∧Mv n f2 f3 mid b∧Dn f3 mid b:=by
      have D3':Dn f2 mid (mid+m-s):=D3.same fun i q1 q2=>L3.out i (by omega);have D4':Dn f2 (mid+m-s) b:=D4.same fun i q1 q2=>L3.out i (by omega);by_cases hc:mid<mid+m-s∧mid+m-s<b
      ·obtain⟨f3,r1,r2,r3⟩:=El hN hn q mid (mid+m-s) b f2 (L3.bd B1) hc.1 hc.2 hbn D3' D4' (by omega);exact⟨f3,fun _=>r1,fun h=>absurd hc h,r2,r3⟩
      ·refine⟨f2,fun h=>absurd h hc,fun _=>rfl,Mv.refl _ _ _ _,?_⟩;rcases(show mid+m-s=mid∨mid+m-s=b by omega)with e|e
       ·rw[e]at D4';exact D4'
       ·rw[e]at D3';exact D3'
     refine⟨f1,f2,f3,M1.1,fun h=>?_,L1,L2,R1,R2,(M1.2.trans (L3.mono (y4 _) (by omega))).trans (R3.mono (by omega) (y4 _)),?_⟩
     ·rw[←hg1,E7 f (by omega)]
     ·refine Dn.glue (m:=mid) (L4.same fun i q1 q2=>R3.out i (by omega)) R4 fun i j q1 q2 q3 q4=>?_;obtain⟨j',j1,j2,j3⟩:=R3.src j q3 q4;obtain⟨i',i1,i2,i3⟩:=L3.src i q1 q2;rw[j3,L3.out j' (by omega),R3.out i (by omega),i3];exact D5 i' j' i1 i2 j1 j2
    have fin:∀(s:Nat),s≤mid+m→aA (((mid+m:Nat):Int)- (s:Int))=((mid+m-s:Nat):Int):=fun s hs=>nT hs (by omega);by_cases e3:mid<m
    ·rw[ct (decide_eq_true (show(m:Int)>(mid:Int) by omega)),nT (show b≤mid+m by omega) (by omega)];obtain⟨s,h1,h2,h3,h4,h5⟩:=Jx (Q123.g N q) N (n:=n) (p:=mid+m-1) (i0:=mid+m-b) (j0:=mid) hf (by omega) (by omega) (by omega) hn (hd1.sub (by omega) (by omega)) (hd2.sub (by omega) (by omega)) (a:Int) (m:Int) (b:Int) (mid:Int) ((mid+m:Nat):Int) _ (q:=N) (by omega) (by omega);rw[h5,fin s (by omega)];obtain⟨f1,f2,f3,A1,A2,A3,A4,A5,A6,A7,A8⟩:=tail s (mid+m-b) mid h1 h2 (by omega) (by omega) (by omega) (by omega) h3 h4 (by omega) (by omega);simp only[eG,lf];refine⟨f3,?_,A7,A8⟩;refine(bQ (z:=F f1 n) (fun h=>A1 (vT h)) (fun h=>by rw[A2 (mU h)])).trans ?_;refine(bQ (z:=F f2 n) (fun h=>A3 (vT h)) (fun h=>by rw[A4 (mU h)])).trans ?_;exact bQ (z:=F f3 n) (fun h=>A5 (vT h)) (fun h=>by rw[A6 (mU h)])
    ·rw[cf (decide_eq_false (show ¬(m:Int)>(mid:Int) by omega))];obtain⟨s,h1,h2,h3,h4,h5⟩:=Jx (Q123.g N q) N (n:=n) (p:=mid+m-1) (i0:=a) (j0:=m) hf (by omega) (by omega) (by omega) hn hd1 (hd2.sub (by omega) (by omega)) (a:Int) (m:Int) (b:Int) (mid:Int) ((mid+m:Nat):Int) _ (q:=N) (by omega) (by omega);rw[h5,fin s (by omega)];obtain⟨f1,f2,f3,A1,A2,A3,A4,A5,A6,A7,A8⟩:=tail s a m h1 h2 (by omega) (by omega) (by omega) (by omega) h3 h4 (by omega) (by omega);simp only[eG,lf];refine⟨f3,?_,A7,A8⟩;refine(bQ (z:=F f1 n) (fun h=>A1 (vT h)) (fun h=>by rw[A2 (mU h)])).trans ?_;refine(bQ (z:=F f2 n) (fun h=>A3 (vT h)) (fun h=>by rw[A4 (mU h)])).trans ?_;exact bQ (z:=F f3 n) (fun h=>A5 (vT h)) (fun h=>by rw[A6 (mU h)])
end Go.Proofs.YtjpdjdhdchjcgaaGreat.Srt
