import Derived.Test.YtlofhdoefjmabaaA3
import Derived.KernelRfl
open Option renaming bind_some→hA
open List renaming getD_eq_getElem?_getD→hB,mem_append→hK,mem_singleton→hS,getElem?_append_right→u1,drop_eq_getElem_cons→u2,getElem?_append_left→b4,getElem?_eq_getElem→b5,mem_cons→p5,length_append→r6,pairwise_cons→b7,append_assoc→h7,getElem?_set→k7,getElem_mem→q7,mem_map→r7,pairwise_singleton→x8,length_map→c9,length_set→k9,drop_eq_nil_of_le→ae,getElem?_eq_none→bs,getElem?_set_ne→cx,pairwise_append→cy
open Int renaming mul_le_mul_of_nonneg_left→hC,toNat_natCast→pC,lt_or_le→aE,mul_nonneg→hE,mul_tdiv_cancel_left→hL,tmod_eq_emod_of_nonneg→hM,natAbs_dvd_natAbs→hQ,mul_le_mul_of_nonneg_right→n0,emod_lt_of_pos→r0,mul_ediv_add_emod→w0,fdiv_eq_ediv_of_nonneg→e5,tdiv_eq_ediv_of_nonneg→k5,emod_nonneg→r5,eq_of_mul_eq_mul_left→b6,dvd_of_emod_eq_zero→c6,eq_ofNat_of_zero_le→e6,add_mul_emod_self_left→c7,natCast_zero→p7,dvd_of_tmod_eq_zero→c8,emod_eq_zero_of_dvd→k8,tmod_eq_zero_of_dvd→r8,dvd_neg→x9,mul_tdiv_add_tmod→bb,ediv_emod_unique→ch,pow_pos→eg
open Bool renaming and_self→zE,not_false→hI,not_true→hV,and_eq_true→k6,eq_iff_iff→b9
open Nat renaming le_refl→s4,gcd_dvd_left→p6,gcd_comm→x7,lt_or_ge→b8,mul_le_mul_right→cz,add_assoc→dd,sub_zero→dk,zero_add→ds
open BitVec renaming toNat_ofInt→q6
set_option linter.unusedVariables false
set_option linter.unusedSimpArgs false
namespace Go.Proofs.Ytlofhdoefjmabaa.Pure
open Go Go.Proofs.Ytlofhdoefjmabaa.Ev
theorem mA {n:Int}(h1: -9223372036854775808≤n)(h2:n<9223372036854775808):aA n=n:=by
 simp only[aA,IntKind.wrap];simp[IntKind.bits,IntKind.signed];omega
theorem fe {n:Int}(h1:0≤n)(h2:n<18446744073709551616):ij n=n:=by
 simp only[ij,IntKind.wrap];simp[IntKind.bits,IntKind.signed];omega
theorem ik {n:Int}(h1:0≤n)(h2:n<256):eL n=n:=by
 simp only[eL,IntKind.wrap];simp[IntKind.bits,IntKind.signed];omega
theorem mG {x y X Y:Int}(h1: -X≤x)(h2:x≤X)(h3: -Y≤y)(h4:y≤Y): -(X*Y)≤x*y∧x*y≤X*Y:=by
 have p1:=hE (show 0≤X-x by omega) (show 0≤Y-y by omega);have p2:=hE (show 0≤X+x by omega) (show 0≤Y+y by omega);have p3:=hE (show 0≤X-x by omega) (show 0≤Y+y by omega);have p4:=hE (show 0≤X+x by omega) (show 0≤Y-y by omega);have e1:(X-x)*(Y-y)+(X+x)*(Y+y)=2*(X*Y)+2*(x*y):=by grind
 have e2:(X-x)*(Y+y)+(X+x)*(Y-y)=2*(X*Y)-2*(x*y):=by grind
 omega
theorem qH {x y:Int}(h0:0≤x)(h:x≤y):x*x≤y*y:=by
 have p1:=hE h0 (show 0≤y-x by omega);have p2:=hE (show 0≤y by omega) (show 0≤y-x by omega);have e1:x*(y-x)+y*(y-x)=y*y-x*x:=by grind
 omega
theorem qR {x y:Int}(h0:0≤x)(hy:0≤y)(h:x*x<y*y):x<y:=by
 rcases aE x y with h1|h1
 ·exact h1
 ·have:=qH hy h1;omega
theorem nG (x:Int):0≤x*x:=by
 rcases Int.le_total 0 x with h|h
 ·exact hE h h
 ·have:=hE (show(0:Int)≤ -x by omega) (show(0:Int)≤ -x by omega);have e2: -x* -x=x*x:=by grind
  omega
structure uH (d s:Int):Prop where
 s0:0≤s
 lo:s*s≤d
 hi:d<(s+1)*(s+1)
theorem uH.unique {d s t:Int}(h:uH d s)(k:uH d t):s=t:=by
 have h1:=qR h.s0 (show 0≤t+1 by have:=k.s0;omega) (by have:=h.lo;have:=k.hi;omega);have h2:=qR k.s0 (show 0≤s+1 by have:=h.s0;omega) (by have:=k.lo;have:=h.hi;omega);omega
theorem uH.lt {d s:Int}(h:uH d s)(hd:d<1152921504606846976):s<1073741824:=
 qR h.s0 (by omega) (by
   have:=h.lo;have e:(1073741824:Int)*1073741824=1152921504606846976:=by decide
   omega)
theorem cv:∀i:Nat,i<256→0≤xC qE i∧xC qE i≤8∧(i:Int)<2^(xC qE i).toNat:=by
 decide+kernel
theorem z7:qE.size=256:=by decide+kernel
theorem ar {x o:Int}(h0:0≤x)(h1:x<256)(o0:0≤o)(o1:o≤56):(bif (decide (0≤(eL x)))&&(decide ((eL x)<(qE.size:Int)))then some (aA (o+(aA (xC qE ((eL x).toNat)))))else none)=some (o+xC qE x.toNat)∧x<2^(xC qE x.toNat).toNat∧0≤xC qE x.toNat∧xC qE x.toNat≤8:=by
 obtain⟨t0,t1,t2⟩:=cv x.toNat (by omega);rw[ik h0 h1,z7];have c:(decide (0≤x)&&decide (x<((256:Nat):Int)))=true:=by simp;omega
 rw[c,mA (n:=xC qE x.toNat) (by omega) (by omega),mA (by omega) (by omega)];have e:((x.toNat:Nat):Int)=x:=by omega
 rw[e]at t2;exact⟨rfl,t2,t0,t1⟩
theorem u6 (x q m:Int)(o l:Nat)(hm:m=2^o)(hq:q=x/m)(hl:q<2^l)(h0:0<m):x<2^(o+l):=by
 have h1:=w0 x m;have h2:=r0 x h0;rw[←hq]at h1;have h3:m*(q+1)≤m*2^l:=hC (by omega) (by omega);rw[Int.pow_add,←hm];have e:m*(q+1)=m*q+m:=by grind
 omega
theorem o6 (N:Nat){x:Int}(h0:1≤x)(h1:x<1152921504606846976):∃l:Int,Q0.f N x=some l∧0≤l∧l≤60∧x<2^l.toNat:=by
 unfold Q0.f;have f32:Int.fdiv x (2^32)=x/4294967296:=by rw[e5 _ (by decide)];rfl
 have f16:∀y:Int,Int.fdiv y (2^16)=y/65536:=fun y=>by rw[e5 _ (by decide)];rfl
 have f8:∀y:Int,Int.fdiv y (2^8)=y/256:=fun y=>by rw[e5 _ (by decide)];rfl
 simp only[f32,f16,f8];have xJ:∀(y o m:Int) (oo:Nat),o=(oo:Int)→oo≤56→m=2^oo→0<m→y=x/m→0≤y→y<256→(y<16∨oo≤48)→∃l:Int,(bif (decide (0≤(eL y)))&&(decide ((eL y)<(qE.size:Int)))then some (aA (o+(aA (xC qE ((eL y).toNat)))))else none)=some l∧0≤l∧l≤60∧x<2^l.toNat:=by
  intro y o m oo ho hoo hm hm0 hy y0 y1 y2;obtain⟨p1,p2,p3,p4⟩:=ar (o:=o) y0 y1 (by omega) (by omega);refine⟨_,p1,by omega,?_,?_⟩
  ·rcases y2 with y2|y2
   ·have:∀i:Nat,i<16→xC qE i≤4:=by decide+kernel
    have:=this y.toNat (by omega);omega
   ·omega
  ·have e:(o+xC qE y.toNat).toNat=oo+(xC qE y.toNat).toNat:=by omega
   rw[e];exact u6 x y m oo _ hm hy p2 hm0
 by_cases c1:x≥4294967296
 ·simp only[c1,decide_true,cond_true];by_cases c2:x/4294967296≥65536
  ·simp only[c2,decide_true,cond_true];by_cases c3:x/4294967296/65536≥256
   ·simp only[c3,decide_true,cond_true];exact xJ _ 56 72057594037927936 56 rfl (by decide) (by decide) (by decide) (by omega) (by omega) (by omega) (by omega)
   ·simp only[c3,decide_false,cond_false];exact xJ _ 48 281474976710656 48 rfl (by decide) (by decide) (by decide) (by omega) (by omega) (by omega) (by omega)
  ·simp only[c2,decide_false,cond_false];by_cases c3:x/4294967296≥256
   ·simp only[c3,decide_true,cond_true];exact xJ _ 40 1099511627776 40 rfl (by decide) (by decide) (by decide) (by omega) (by omega) (by omega) (by omega)
   ·simp only[c3,decide_false,cond_false];exact xJ _ 32 4294967296 32 rfl (by decide) (by decide) (by decide) (by omega) (by omega) (by omega) (by omega)
 ·simp only[c1,decide_false,cond_false];by_cases c2:x≥65536
  ·simp only[c2,decide_true,cond_true];by_cases c3:x/65536≥256
   ·simp only[c3,decide_true,cond_true];exact xJ _ 24 16777216 24 rfl (by decide) (by decide) (by decide) (by omega) (by omega) (by omega) (by omega)
   ·simp only[c3,decide_false,cond_false];exact xJ _ 16 65536 16 rfl (by decide) (by decide) (by decide) (by omega) (by omega) (by omega) (by omega)
  ·simp only[c2,decide_false,cond_false];by_cases c3:x≥256
   ·simp only[c3,decide_true,cond_true];exact xJ _ 8 256 8 rfl (by decide) (by decide) (by decide) (by omega) (by omega) (by omega) (by omega)
   ·simp only[c3,decide_false,cond_false];exact xJ _ 0 1 0 rfl (by decide) (by decide) (by decide) (by omega) (by omega) (by omega) (by omega)
theorem gl {R:Type}(N:Nat){d s:Int}(hr:uH d s)(h1:1≤d)(h2:d<1152921504606846976)(K:Int→Option R):∀(n:Nat) (x:Int),s≤x→1≤x→x≤1152921504606846976→x-s<n→Q1.l4 N n d x K=K s:=by
 intro n;induction n with
 |zero=>intro x a b _ c;omega
 |succ n ih=>
  intro x hx0 hx1 hx2 hf;have hq:=w0 d x;have hq0:=r5 d (b:=x) (by omega);have hq1:=r0 d (b:=x) (by omega);have hqn:0≤d/x:=Int.ediv_nonneg (by omega) (by omega);have hqd:d/x≤d:=Int.ediv_le_self _ (by omega);have et:Int.tdiv d x=d/x:=k5 (by omega);have lo:=hr.lo;have hi:=hr.hi;have s0:=hr.s0;have hge:2*s≤x+d/x:=by
   rcases aE (x+d/x) (2*s)with h|h
   ·exfalso;have p:=hC (show d/x+1≤2*s-x by omega) (show 0≤x by omega);have e1:x*(d/x+1)=x*(d/x)+x:=by grind
    have e2:s*s-x*(2*s-x)=(x-s)*(x-s):=by grind
    have:=nG (x-s);omega
   ·exact h
  have et2:Int.tdiv (x+d/x) 2=(x+d/x)/2:=k5 (by omega);rw[Q1.l4];have c0:(x==0)=false:=by simp;omega
  rw[et,mA (n:=d/x) (by omega) (by omega),mA (n:=x+d/x) (by omega) (by omega),et2,mA (n:=(x+d/x)/2) (by omega) (by omega),c0];simp only[hI,cond_true];by_cases hc:(x+d/x)/2≥x
  ·simp only[hc,decide_true,cond_true];have:x≤d/x:=by omega
   have p:=hC this (show 0≤x by omega);have:=qR (show 0≤x by omega) (show 0≤s+1 by omega) (by omega);have:x=s:=by omega
   rw[this]
  ·simp only[hc,decide_false,cond_false];have hs1:1≤s:=by
    rcases aE 0 s with h|h
    ·omega
    ·have:s=0:=by omega
     subst this;omega
   exact ih _ (by omega) (by omega) (by omega) (by omega)
theorem kj {R:Type}(N:Nat){d:Int}(h1:1≤d)(h2:d<1152921504606846976)(K:Int→Option R):∀(k n:Nat) (s:Int),k≤31→k+2≤n→0≤s→s*s≤d→d<(s+2*2^k)*(s+2*2^k)→s+2^k≤2147483648→∃r,uH d r∧Q16.l3 N n d s (2^k) K=K r:=by
 intro k;have key:∀(k:Nat) (s:Int),0≤s→s+2^k≤2147483648→aA (s+2^k)=s+2^k∧aA ((s+2^k)*(s+2^k))=(s+2^k)*(s+2^k)∧(0:Int)<2^k:=by
  intro k s a b;have p:(0:Int)<2^k:=eg (by decide);have:=mG (x:=s+2^k) (y:=s+2^k) (X:=2147483648) (Y:=2147483648) (by omega) (by omega) (by omega) (by omega);have e:(2147483648:Int)*2147483648=4611686018427387904:=by decide
  exact⟨mA (by omega) (by omega),mA (by omega) (by omega),p⟩
 have taken:∀s b:Int,0≤s→0<b→(s+b)*(s+b)≤d→s+b<1073741824:=by
  intro s b hs hb h;exact qR (by omega) (by omega) (by
    have e:(1073741824:Int)*1073741824=1152921504606846976:=by decide
    omega)
 induction k with
 |zero=>
  intro n s _ hn s0 lo hi hb;obtain⟨n,rfl⟩:∃m,n=m+2:=⟨n-2,by omega⟩
  obtain⟨w1,w2,w3⟩:=key 0 s s0 hb;rw[Q16.l3];simp only[w1,w2];have c0:decide ((2:Int)^0>0)=true:=by decide
  have e0:aA (Int.tdiv (2^0) 2)=0:=by decide
  simp only[c0,cond_true,e0];by_cases hc:(s+2^0)*(s+2^0)≤d
  ·simp only[hc,decide_true,cond_true];refine⟨s+2^0,⟨by omega,hc,?_⟩,?_⟩
   ·have e:s+2*2^0=s+2^0+1:=by simp;omega
    rw[←e];exact hi
   ·rw[Q16.l3];rfl
  ·simp only[hc,decide_false,cond_false];refine⟨s,⟨s0,lo,?_⟩,?_⟩
   ·have e:s+2^0=s+1:=by simp
    rw[←e];omega
   ·rw[Q16.l3];rfl
 |succ k ih=>
  intro n s hk hn s0 lo hi hb;obtain⟨n,rfl⟩:∃m,n=m+1:=⟨n-1,by omega⟩
  obtain⟨w1,w2,w3⟩:=key (k+1) s s0 hb;have p:(0:Int)<2^k:=eg (by decide);have e2:(2:Int)^(k+1)=2*2^k:=by rw[Int.pow_succ];omega
  rw[Q16.l3];simp only[w1,w2];have c0:decide ((2:Int)^(k+1)>0)=true:=by simp;omega
  have e0:aA (Int.tdiv (2^(k+1)) 2)=2^k:=by rw[e2,hL _ (by decide)];exact mA (by omega) (by omega)
  simp only[c0,cond_true,e0];by_cases hc:(s+2^(k+1))*(s+2^(k+1))≤d
  ·simp only[hc,decide_true,cond_true];have ht:=taken s (2^(k+1)) s0 w3 hc;refine ih n _ (by omega) (by omega) (by omega) hc ?_ (by omega);have e:s+2^(k+1)+2*2^k=s+2*2^(k+1):=by omega
   rw[e];exact hi
  ·simp only[hc,decide_false,cond_false];refine ih n _ (by omega) (by omega) s0 lo ?_ (by omega);rw[←e2];omega
theorem gT {m n:Nat}(h:m≤n):(2:Int)^m≤2^n:=by
 have:=Nat.pow_le_pow_right (show 0<2 by decide) h;have e:∀k:Nat,(2:Int)^k=((2^k:Nat):Int):=fun k=>by simp
 rw[e,e];omega
theorem vD {N:Nat}(hN:8589934600<N){d:Int}(h1:1≤d)(h2:d<1152921504606846976):∃s,uH d s∧Q1.f N d=some s∧Q16.f N d=some s:=by
 have e31:((0:Int)+2*2^31)*(0+2*2^31)=18446744073709551616:=by decide
 have l31:d<((0:Int)+2*2^31)*(0+2*2^31):=by omega
 obtain⟨s,hr,hs⟩:=kj N h1 h2 (K:=fun y=>some y) 31 N 0 (by omega) (by omega) (by omega) (by omega) l31 (by decide);refine⟨s,hr,?_,?_⟩
 ·unfold Q1.f;have c0:(d==0)=false:=by simp;omega
  obtain⟨l,l1,l2,l3,l4⟩:=o6 N h1 h2;have et:Int.tdiv (l+1) 2=(l+1)/2:=k5 (by omega);rw[c0,fe (by omega) (by omega),l1];simp only[cond_false,hA];rw[mA (n:=l+1) (by omega) (by omega),et,mA (n:=(l+1)/2) (by omega) (by omega)];have c1:decide (0≤(l+1)/2)=true:=by simp;omega
  rw[c1];simp only[cond_true];obtain⟨m,hm⟩:∃m:Nat,(l+1)/2=(m:Int):=⟨((l+1)/2).toNat,by omega⟩
  have hm2:min ((l+1)/2).toNat 64=m:=by omega
  rw[hm2,Int.one_mul];have hmb:m≤30:=by omega
  have hpow:(2:Int)^m≤1073741824:=by
   have:(2:Int)^m≤2^30:=gT hmb;have e:(2:Int)^30=1073741824:=by decide
   omega
  have hp0:(0:Int)<2^m:=eg (by decide);rw[mA (by omega) (by omega)];have hbig:d<2^m*2^m:=by rw[←Int.pow_add];have:(2:Int)^l.toNat≤2^(m+m):=gT (by omega);omega
  have hlt:=qR hr.s0 (by omega) (Int.lt_of_le_of_lt hr.lo hbig);exact gl N hr h1 h2 _ N _ (by omega) (by omega) (by omega) (by have:=hr.s0;omega)
 ·unfold Q16.f;exact hs
def ab (x:Int):Int:=if x<0 then-x else x
theorem gD (x:Int):0≤ab x:=by unfold ab;split<;>omega
theorem wA (x:Int):(0≤x∧ab x=x)∨(x<0∧ab x= -x):=by unfold ab;split<;>omega
theorem dZ (x:Int):ab x*ab x=x*x:=by unfold ab;split<;>grind
theorem lI (x y:Int):ab (x*y)=ab x*ab y:=by
 rcases wA x with⟨h,e⟩|⟨h,e⟩<;>rcases wA y with⟨k,f⟩|⟨k,f⟩<;>rw[e,f]
 ·have:=hE h k;rcases wA (x*y)with⟨_,g⟩|⟨_,g⟩<;>omega
 ·have:=hE h (show 0≤ -y by omega);have e1:x* -y= -(x*y):=by grind
  rcases wA (x*y)with⟨_,g⟩|⟨_,g⟩<;>omega
 ·have:=hE (show 0≤ -x by omega) k;have e1: -x*y= -(x*y):=by grind
  rcases wA (x*y)with⟨_,g⟩|⟨_,g⟩<;>omega
 ·have:=hE (show 0≤ -x by omega) (show 0≤ -y by omega);have e1: -x* -y=x*y:=by grind
  rcases wA (x*y)with⟨_,g⟩|⟨_,g⟩<;>omega
structure rB (d s:Int):Prop where
 d1:1≤d
 d2:d<1152921504606846976
 root:uH d s
 ne:s*s≠d
structure zF (d a b c:Int):Prop where
 a0: -1073741824≤a
 a1:a≤1073741824
 b0: -1073741824≤b
 b1:b≤1073741824
 c0: -1073741824≤c
 c1:c≤1073741824
 disc:b*b-4*a*c=d
theorem rB.nosq {d s:Int}(h:rB d s)(x:Int):x*x≠d:=by
 intro e;have h1:uH d (ab x):=by
  have h2:=gD x;have h3:=dZ x;refine⟨h2,by omega,?_⟩;have e2:(ab x+1)*(ab x+1)=ab x*ab x+2*ab x+1:=by grind
  omega
 have:=h.root.unique h1;exact h.ne (by rw[this,dZ];exact e)
theorem zF.ane {d s a b c:Int}(hd:rB d s)(h:zF d a b c):a≠0∧c≠0:=by
 have:=h.disc;refine⟨fun e=>?_,fun e=>?_⟩
 ·subst e;exact hd.nosq b (by simpa using this)
 ·subst e;exact hd.nosq b (by simpa using this)
def vA (s c:Int):Int:=if ab c>s then ab c else s
def nB (s b c:Int):Int:=vA s c- (vA s c+b)%(2*ab c)
def nK (s b c:Int):Int:=(b+nB s b c)/(2*c)
def nC (s a b c:Int):Int:=a-b*nK s b c+c*nK s b c*nK s b c
theorem xI (s b c:Int)(hc:c≠0):vA s c-2*ab c<nB s b c∧nB s b c≤vA s c∧nB s b c=2*c*nK s b c-b:=by
 have ha:0<ab c:=by rcases wA c with⟨h,e⟩|⟨h,e⟩<;>omega
 have h1:=w0 (vA s c+b) (2*ab c);have h2:=r5 (vA s c+b) (b:=2*ab c) (by omega);have h3:=r0 (vA s c+b) (b:=2*ab c) (by omega);refine⟨by unfold nB;omega,by unfold nB;omega,?_⟩;have hk:b+nB s b c=2*ab c*((vA s c+b)/(2*ab c)):=by unfold nB;omega
 have:(2*c)∣(b+nB s b c):=by
  rw[hk];rcases wA c with⟨h,e⟩|⟨h,e⟩
  ·rw[e];exact Int.dvd_mul_right _ _
  ·rw[e];exact⟨-((vA s c+b)/(2* -c)),by grind⟩
 unfold nK;have:=Int.mul_ediv_cancel' this;omega
theorem rU (d s a b c:Int)(hc:c≠0)(hd:b*b-4*a*c=d):nB s b c*nB s b c-d=4*c*nC s a b c:=by
 rw[(xI s b c hc).2.2,←hd];unfold nC;grind
theorem zF.next {d s a b c:Int}(hd:rB d s)(h:zF d a b c):zF d c (nB s b c) (nC s a b c)∧(ab c≤s→ -s≤nB s b c∧nB s b c≤s∧ab (nC s a b c)≤s)∧(ab c>s→ -(ab c)<nB s b c∧nB s b c≤ab c∧4*ab (nC s a b c)≤ab c):=by
 obtain⟨hne,hce⟩:=h.ane hd;obtain⟨n1,n2,n3⟩:=xI s b c hce;have n4:=rU d s a b c hce h.disc;have ha:0<ab c:=by rcases wA c with⟨h,e⟩|⟨h,e⟩<;>omega
 have hr:=hd.root;have s0:=hr.s0;have slt:=hr.lt hd.d2;generalize hb':nB s b c=b' at*;generalize hc':nC s a b c=c' at*;have n5:ab (b'*b'-d)=4*(ab c*ab c'):=by rw[n4,lI,lI];have:ab 4=4:=rfl;rw[this];grind
 have hlo:=hr.lo;have hhi:=hr.hi;have hac':=gD c';have caseA:ab c>s→ -(ab c)<b'∧b'≤ab c∧4*ab c'≤ab c:=by
  intro hc1;have ht:vA s c=ab c:=by unfold vA;rw[if_pos hc1]
  rw[ht]at n1 n2;refine⟨by omega,n2,?_⟩;have p1:=qH (show 0≤s+1 by omega) (show s+1≤ab c by omega);have p2:b'*b'≤ab c*ab c:=by rw[←dZ b'];exact qH (gD _) (by rcases wA b' with⟨_,e⟩|⟨_,e⟩<;>omega)
  have p3:=nG b';have p4:ab (b'*b'-d)≤ab c*ab c:=by have:=hd.d1;rcases wA (b'*b'-d)with⟨_,e⟩|⟨_,e⟩<;>omega
  rw[n5]at p4;rcases aE (ab c) (4*ab c')with h|h
  ·exfalso;have:=Int.mul_lt_mul_of_pos_left h ha;have e:ab c*(4*ab c')=4*(ab c*ab c'):=by grind
   omega
  ·exact h
 have caseB:ab c≤s→ -s≤b'∧b'≤s∧ab c'≤s:=by
  intro hc1;have ht:vA s c=s:=by unfold vA;rw[if_neg (by omega)]
  rw[ht]at n1 n2;refine⟨by omega,n2,?_⟩;have p2:b'*b'≤s*s:=by rw[←dZ b'];exact qH (gD _) (by rcases wA b' with⟨_,e⟩|⟨_,e⟩<;>omega)
  have p4:ab (b'*b'-d)=d-b'*b':=by rcases wA (b'*b'-d)with⟨_,e⟩|⟨_,e⟩<;>omega
  rw[n5]at p4;rcases aE s (ab c')with h|h
  ·exfalso;have q1:=hC (show s+1≤ab c' by omega) (show 0≤ab c by omega);have q2:=hE (show 0≤2*ab c- (s+1-b') by omega) (show 0≤s+1+b' by omega);have q3:(s+1)*(s+1)-b'*b'=(s+1-b')*(s+1+b'):=by grind
   have q4:=hE (show 0≤2*ab c by omega) (show 0≤2*(s+1)- (s+1+b') by omega);have q5:(2*ab c- (s+1-b'))*(s+1+b')+2*ab c*(2*(s+1)- (s+1+b'))=4*(ab c*(s+1))- (s+1-b')*(s+1+b'):=by grind
   omega
  ·exact h
 have hcb:ab c≤1073741824:=by have:=h.c0;have:=h.c1;rcases wA c with⟨_,e⟩|⟨_,e⟩<;>omega
 refine⟨⟨h.c0,h.c1,?_,?_,?_,?_,by have e:4*c*c'=b'*b'-d:=n4.symm;omega⟩,caseB,caseA⟩
 all_goals rcases aE s (ab c)with h1|h1
 all_goals first|have:=caseA h1|have:=caseB h1
 all_goals rcases wA c' with⟨_,e⟩|⟨_,e⟩<;>omega
theorem xD (N:Nat){x:Int}(h0: -4611686018427387904≤x)(h1:x≤4611686018427387904):Q2.f N x=some (ab x)∧Q17.f N x=some (ab x):=by
 unfold Q2.f Q17.f kf ab;rw[mA (n:=0-x) (by omega) (by omega)];by_cases h:x<0
 ·rw[if_pos (show 0-x>x by omega),if_pos h];have e:0-x= -x:=by omega
  simp[h,e]
 ·rw[if_neg (show ¬0-x>x by omega),if_neg h];simp[h]
theorem eP {d a b c:Int}(h:zF d a b c):aA (aA (b*b)-aA (aA (4*a)*c))=d:=by
 obtain⟨a0,a1,b0,b1,c0,c1,hd⟩:=h;have m1:=mG (X:=1073741824) (Y:=1073741824) b0 b1 b0 b1;have m2:=mG (x:=4*a) (X:=4294967296) (Y:=1073741824) (by omega) (by omega) c0 c1;have k1:(1073741824:Int)*1073741824=1152921504606846976:=by decide
 have k2:(4294967296:Int)*1073741824=4611686018427387904:=by decide
 rw[mA (n:=b*b) (by omega) (by omega),mA (n:=4*a) (by omega) (by omega),mA (n:=4*a*c) (by omega) (by omega),mA (by omega) (by omega),hd]
theorem jX {x y:Int}(hy:0<y):(Int.tmod x y<0→Int.tmod x y+y=x%y)∧(¬Int.tmod x y<0→Int.tmod x y=x%y):=by
 have h1:=bb x y;have h2:=Int.tmod_lt_of_pos x hy;have h3:=Int.lt_tmod_of_pos x hy;refine⟨fun h=>?_,fun h=>?_⟩
 ·have:=(ch (a:=x) (r:=Int.tmod x y+y) (q:=Int.tdiv x y-1) hy).mpr ⟨by rw[Int.mul_sub,Int.mul_one];omega,by omega,by omega⟩;exact this.2.symm
 ·have:=(ch (a:=x) (r:=Int.tmod x y) (q:=Int.tdiv x y) hy).mpr ⟨by omega,by omega,by omega⟩;exact this.2.symm
theorem oT {d s a b c:Int}(hd:rB d s)(h:zF d a b c):aA (Int.tdiv (aA (aA (nB s b c*nB s b c)-d)) (aA (4*c)))=nC s a b c∧aA (Int.tdiv (aA (b+nB s b c)) (aA (2*c)))=nK s b c∧(aA (4*c)==0)=false∧(aA (2*c)==0)=false:=by
 obtain⟨hne,hce⟩:=h.ane hd;obtain⟨g,_⟩:=h.next hd;obtain⟨n1,n2,n3⟩:=xI s b c hce;have n4:=rU d s a b c hce h.disc;obtain⟨ga0,ga1,gb0,gb1,gc0,gc1,_⟩:=g;have:=h.b0;have:=h.b1;have:=h.c0;have:=h.c1;have:=hd.d1;have:=hd.d2;have m1:=mG (X:=1073741824) (Y:=1073741824) gb0 gb1 gb0 gb1;have k1:(1073741824:Int)*1073741824=1152921504606846976:=by decide
 have w4:aA (4*c)=4*c:=mA (by omega) (by omega);have w2:aA (2*c)=2*c:=mA (by omega) (by omega);rw[mA (n:=nB s b c*nB s b c) (by omega) (by omega),mA (n:=nB s b c*nB s b c-d) (by omega) (by omega),mA (n:=b+nB s b c) (by omega) (by omega),w4,w2];have e1:Int.tdiv (nB s b c*nB s b c-d) (4*c)=nC s a b c:=by rw[n4];exact hL _ (by omega)
 have e2:Int.tdiv (b+nB s b c) (2*c)=nK s b c:=by
  have:b+nB s b c=2*c*nK s b c:=by omega
  rw[this];exact hL _ (by omega)
 have hk: -2147483648≤nK s b c∧nK s b c≤2147483648:=by
  have e:b+nB s b c=2*c*nK s b c:=by omega
  have e3:ab (b+nB s b c)=2*(ab c*ab (nK s b c)):=by rw[e,lI,lI];have:ab 2=2:=rfl;rw[this];grind
  have h1:ab (b+nB s b c)≤2147483648:=by rcases wA (b+nB s b c)with⟨_,e⟩|⟨_,e⟩<;>omega
  have hc1:1≤ab c:=by rcases wA c with⟨_,e⟩|⟨_,e⟩<;>omega
  have p:=n0 hc1 (gD (nK s b c));rcases wA (nK s b c)with⟨_,e⟩|⟨_,e⟩<;>omega
 rw[e1,e2];exact⟨mA (by omega) (by omega),mA (by omega) (by omega),by simp;omega,by simp;omega⟩
theorem lL (N:Nat){d s a b c:Int}(hd:rB d s)(h:zF d a b c):Q8.f N a b c d s=some (c,nB s b c,nC s a b c,0, -1,1,nK s b c):=by
 obtain⟨e1,e2,e3,e4⟩:=oT hd h;obtain⟨hne,hce⟩:=h.ane hd;have:=h.b0;have:=h.b1;have:=h.c0;have:=h.c1;have ha:0<ab c∧ab c≤1073741824:=by rcases wA c with⟨h,e⟩|⟨h,e⟩<;>omega
 have s0:=hd.root.s0;have slt:=hd.root.lt hd.d2;have w1:aA (2*ab c)=2*ab c:=mA (by omega) (by omega);have w2:aA (Int.tdiv (2*ab c) 2)=ab c:=by rw[hL _ (by decide)];exact mA (by omega) (by omega)
 have w3:(2*ab c==0)=false:=by simp;omega
 have key:∀t,t=vA s c→0≤t→t≤1073741824→(bif decide (Int.tmod (aA (t+b)) (2*ab c)<0)then some (aA (t-aA (Int.tmod (aA (t+b)) (2*ab c)+2*ab c)))else some (aA (t-Int.tmod (aA (t+b)) (2*ab c))))=some (nB s b c):=by
  intro t ht t0 t1;rw[mA (n:=t+b) (by omega) (by omega)];have p1:=r5 (t+b) (b:=2*ab c) (by omega);have p2:=r0 (t+b) (b:=2*ab c) (by omega);by_cases hm:Int.tmod (t+b) (2*ab c)<0
  ·have:=(jX (x:=t+b) (y:=2*ab c) (by omega)).1 hm;simp only[hm,decide_true,cond_true,this];rw[mA (n:=(t+b)%(2*ab c)) (by omega) (by omega),mA (by omega) (by omega)];unfold nB;rw[ht]
  ·have:=(jX (x:=t+b) (y:=2*ab c) (by omega)).2 hm;simp only[hm,decide_false,cond_false];rw[this,mA (by omega) (by omega)];unfold nB;rw[ht]
 unfold Q8.f;rw[(xD N (by omega) (by omega)).1];simp only[hA,w1,w2,w3,e3,e4,hI,cond_true];by_cases hc:ab c>s
 ·have k:=key (ab c) (by unfold vA;rw[if_pos hc]) (by omega) (by omega);simp only[hc,decide_true,cond_true];cases hm:decide (Int.tmod (aA (ab c+b)) (2*ab c)<0)<;>rw[hm]at k<;>simp only[cond_true,cond_false,Option.some.injEq]at k⊢
  ·rw[k,e1,e2]
  ·rw[k,e1,e2]
 ·have k:=key s (by unfold vA;rw[if_neg hc]) (by omega) (by omega);simp only[hc,decide_false,cond_false];cases hm:decide (Int.tmod (aA (s+b)) (2*ab c)<0)<;>rw[hm]at k<;>simp only[cond_true,cond_false,Option.some.injEq]at k⊢
  ·rw[k,e1,e2]
  ·rw[k,e1,e2]
theorem oX {N:Nat}(hN:8589934600<N){d s a b c:Int}(hd:rB d s)(h:zF d a b c):Q21.f N a b c=some (c,nB s b c,nC s a b c,0, -1,1,nK s b c):=by
 obtain⟨e1,e2,e3,e4⟩:=oT hd h;obtain⟨hne,hce⟩:=h.ane hd;obtain⟨r,hr,r1,r2⟩:=vD hN hd.d1 hd.d2;have hrs:=hr.unique hd.root;subst hrs;have:=h.b0;have:=h.b1;have:=h.c0;have:=h.c1;have ha:0<ab c∧ab c≤1073741824:=by rcases wA c with⟨h,e⟩|⟨h,e⟩<;>omega
 have s0:=hd.root.s0;have slt:=hd.root.lt hd.d2;have w1:aA (2*ab c)=2*ab c:=mA (by omega) (by omega);have w3:(2*ab c==0)=false:=by simp;omega
 have w4:aA (0-b)= -b:=by rw[mA (by omega) (by omega)];omega
 have w5:aA (0-ab c)=ab c-2*ab c:=by rw[mA (by omega) (by omega)];omega
 have w6:aA (r-2*ab c)=r-2*ab c:=mA (by omega) (by omega);obtain⟨n1,n2,n3⟩:=xI r b c hce;have key:∀t,t=vA r c→0≤t→t≤1073741824→(bif decide (Int.tmod (aA (-b- (t-2*ab c))) (2*ab c)≤0)then some (aA (aA (Int.tmod (aA (-b- (t-2*ab c))) (2*ab c)+2*ab c)+(t-2*ab c)))else some (aA (Int.tmod (aA (-b- (t-2*ab c))) (2*ab c)+(t-2*ab c))))=some (nB r b c):=by
  intro t ht t0 t1;rw[mA (n:= -b- (t-2*ab c)) (by omega) (by omega)];have q1:=Int.tmod_lt_of_pos (-b- (t-2*ab c)) (show 0<2*ab c by omega);have q2:=Int.lt_tmod_of_pos (-b- (t-2*ab c)) (show 0<2*ab c by omega);have q3:=bb (-b- (t-2*ab c)) (2*ab c);have p3:=w0 (t+b) (2*ab c);have uniq:∀x q:Int,t-2*ab c<x→x≤t→x+b=2*ab c*q→x=nB r b c:=by
   intro x q x1 x2 x3;rw[←ht]at n1 n2;have hn:nB r b c+b=2*ab c*((t+b)/(2*ab c)):=by unfold nB;rw[←ht];omega
   generalize(t+b)/(2*ab c)=q' at hn;generalize nB r b c=y at*;rcases Int.lt_trichotomy q q' with hq|hq|hq
   ·exfalso;have:=hC (show q+1≤q' by omega) (show 0≤2*ab c by omega);have e:2*ab c*(q+1)=2*ab c*q+2*ab c:=by grind
    omega
   ·subst hq;omega
   ·exfalso;have:=hC (show q'+1≤q by omega) (show 0≤2*ab c by omega);have e:2*ab c*(q'+1)=2*ab c*q'+2*ab c:=by grind
    omega
  by_cases hm:Int.tmod (-b- (t-2*ab c)) (2*ab c)≤0
  ·simp only[hm,decide_true,cond_true];rw[mA (n:=Int.tmod (-b- (t-2*ab c)) (2*ab c)+2*ab c) (by omega) (by omega),mA (by omega) (by omega)];congr 1;refine uniq _ (1-Int.tdiv (-b- (t-2*ab c)) (2*ab c)) (by omega) (by omega) ?_;have e:2*ab c*(1-Int.tdiv (-b- (t-2*ab c)) (2*ab c))=2*ab c-2*ab c*Int.tdiv (-b- (t-2*ab c)) (2*ab c):=by grind
   omega
  ·simp only[hm,decide_false,cond_false];rw[mA (by omega) (by omega)];congr 1;refine uniq _ (-Int.tdiv (-b- (t-2*ab c)) (2*ab c)) (by omega) (by omega) ?_;have e:2*ab c*(-Int.tdiv (-b- (t-2*ab c)) (2*ab c))= - (2*ab c*Int.tdiv (-b- (t-2*ab c)) (2*ab c)):=by grind
   omega
 unfold Q21.f;rw[eP h,r2,(xD N (by omega) (by omega)).2];simp only[hA,w1,w3,w4,w5,w6,e3,e4,hI,cond_true];by_cases hc:ab c>r
 ·have k:=key (ab c) (by unfold vA;rw[if_pos hc]) (by omega) (by omega);simp only[hc,decide_true,cond_true];cases hm:decide (Int.tmod (aA (-b- (ab c-2*ab c))) (2*ab c)≤0)<;>rw[hm]at k<;>simp only[cond_true,cond_false,Option.some.injEq]at k⊢
  ·rw[k,e1,e2]
  ·rw[k,e1,e2]
 ·have k:=key r (by unfold vA;rw[if_neg hc]) (by omega) (by omega);simp only[hc,decide_false,cond_false];cases hm:decide (Int.tmod (aA (-b- (r-2*ab c))) (2*ab c)≤0)<;>rw[hm]at k<;>simp only[cond_true,cond_false,Option.some.injEq]at k⊢
  ·rw[k,e1,e2]
  ·rw[k,e1,e2]
theorem wV {N:Nat}(hN:8589934600<N)(d:Int):∃r,Q4.f N d=some r∧Q18.f N d=some r∧(r=true↔∃s,rB d s)∨(∃r,Q4.f N d=some r∧Q18.f N d=some r∧r=false):=by
 unfold Q4.f Q18.f;by_cases h1:d<1
 ·exact⟨false,.inr ⟨false,by simp[h1],by simp[h1],rfl⟩⟩
 ·by_cases h2:d≥1152921504606846976
  ·exact⟨false,.inr ⟨false,by simp[h1,h2],by simp[h1,h2],rfl⟩⟩
  ·by_cases h3:Int.tmod d 4>1
   ·exact⟨false,.inr ⟨false,by simp[h1,h2,h3],by simp[h1,h2,h3],rfl⟩⟩
   ·obtain⟨s,hr,r1,r2⟩:=vD hN (show 1≤d by omega) (by omega);have slt:=hr.lt (by omega);have s0:=hr.s0;have m1:=mG (x:=s) (y:=s) (X:=1073741824) (Y:=1073741824) (by omega) (by omega) (by omega) (by omega);have k1:(1073741824:Int)*1073741824=1152921504606846976:=by decide
    have w:aA (s*s)=s*s:=mA (by omega) (by omega);refine⟨s*s != d,.inl ⟨by simp[h1,h2,h3,r1,w],by simp[h1,h2,h3,r2,w],?_⟩⟩;constructor
    ·intro h;exact⟨s,⟨by omega,by omega,hr,by simpa using h⟩⟩
    ·rintro⟨t,ht⟩;have:=ht.root.unique hr;subst this;simpa using ht.ne
theorem xV {d a b c:Int}(h:zF d a b c)(h0:0≤d):¬Int.tmod d 4>1:=by
 rw[hM h0];have:=h.disc;have e:d=4* -(a*c)+b*b:=by grind
 rcases(show b%2=0∨b%2=1 by omega)with hb|hb
 ·have e2:b=2*(b/2):=by omega
  have e3:b*b=4*((b/2)*(b/2)):=by generalize b/2=q at*;subst e2;grind
  omega
 ·have e2:b=2*(b/2)+1:=by omega
  have e3:b*b=4*((b/2)*(b/2)+b/2)+1:=by generalize b/2=q at*;subst e2;grind
  omega
theorem tG {N:Nat}(hN:8589934600<N){d s a b c:Int}(hd:rB d s)(h:zF d a b c):Q4.f N d=some true∧Q18.f N d=some true:=by
 unfold Q4.f Q18.f;obtain⟨r,hr,r1,r2⟩:=vD hN hd.d1 hd.d2;have:=hr.unique hd.root;subst this;have h1:¬d<1:=by have:=hd.d1;omega
 have h2:¬d≥1152921504606846976:=by have:=hd.d2;omega
 have h3:=xV h (by omega);have slt:=hr.lt (by omega);have s0:=hr.s0;have m1:=mG (x:=r) (y:=r) (X:=1073741824) (Y:=1073741824) (by omega) (by omega) (by omega) (by omega);have k1:(1073741824:Int)*1073741824=1152921504606846976:=by decide
 have w:aA (r*r)=r*r:=mA (by omega) (by omega);have:=hd.ne;exact⟨by simp[h1,h2,h3,r1,w,this],by simp[h1,h2,h3,r2,w,this]⟩
theorem vX {N:Nat}(hN:8589934600<N){d s a b c:Int}(hd:rB d s)(h:zF d a b c):Q5.f N a b c=some 0∧Q19.f N a b c=some 0:=by
 obtain⟨c1,c2⟩:=tG hN hd h;have hi:=eP h;obtain⟨a0,a1,b0,b1,c0,c1',_⟩:=h;have n1:¬a< -1073741824:=by omega
 have n2:¬a>1073741824:=by omega
 have n3:¬b< -1073741824:=by omega
 have n4:¬b>1073741824:=by omega
 have n5:¬c< -1073741824:=by omega
 have n6:¬c>1073741824:=by omega
 unfold Q5.f Q19.f Q3.f;rw[hi];exact⟨by simp[n1,n2,n3,n4,n5,n6,c1],by simp[n1,n2,n3,n4,n5,n6,c2]⟩
def tL (s a b:Int):Prop:=1≤b∧b≤s∧s<b+2*ab a∧2*ab a-b≤s
instance (s a b:Int):Decidable (tL s a b):=inferInstanceAs (Decidable (_∧_))
theorem xH {N:Nat}(hN:8589934600<N){d s a b c:Int}(hd:rB d s)(h:zF d a b c):Q6.f N a b c s=some (decide (tL s a b))∧Q20.f N a b c=some (decide (tL s a b))∧Q7.f N a b c=some (decide (tL s a b)):=by
 obtain⟨r,hr,r1,r2⟩:=vD hN hd.d1 hd.d2;have:=hr.unique hd.root;subst this;have k:=(vX hN hd h).1;have hi:=eP h;obtain⟨a0,a1,b0,b1,c0,c1,_⟩:=h;have hab:0≤ab a∧ab a≤1073741824:=by rcases wA a with⟨_,e⟩|⟨_,e⟩<;>omega
 obtain⟨z1,z2⟩:=xD N (x:=a) (by omega) (by omega);have w1:aA (2*ab a)=2*ab a:=mA (by omega) (by omega);have w2:aA (b+2*ab a)=b+2*ab a:=mA (by omega) (by omega);have w3:aA (2*ab a-b)=2*ab a-b:=mA (by omega) (by omega);have main:Q6.f N a b c r=some (decide (tL r a b))∧Q20.f N a b c=some (decide (tL r a b)):=by
  unfold Q6.f Q20.f tL;rw[hi,r2,z1,z2];simp only[hA,w1,w2,w3];by_cases h1:b≥1
  ·by_cases h2:b≤r
   ·by_cases h3:r<b+2*ab a
    ·have h1':1≤b:=h1;simp[h1,h2,h3,h1']
    ·simp[h1,h2,h3]
   ·simp[h1,h2]
  ·have h1':¬1≤b:=h1;simp[h1,h1']
 refine⟨main.1,main.2,?_⟩;unfold Q7.f Q3.f;rw[k,hi];simp[r1,main.1]
def fx (s a b:Int):Prop:=(ab a>s∧ -(ab a)<b∧b≤ab a)∨(ab a≤s∧s-2*ab a<b∧b≤s∧ -s≤b)
instance (s a b:Int):Decidable (fx s a b):=inferInstanceAs (Decidable (_∨_))
abbrev W:=BitVec 64
def wd (x:Int):W:=BitVec.ofInt 64 x
theorem dc (x y:Int):wd (x+y)=wd x+wd y:=BitVec.ofInt_add ..
theorem vR (x y:Int):wd (x*y)=wd x*wd y:=BitVec.ofInt_mul ..
theorem ig (x:Int):wd (-x)= -wd x:=by simp[wd,BitVec.ofInt_neg]
theorem de (x y:Int):wd (x-y)=wd x-wd y:=by rw[Int.sub_eq_add_neg,dc,ig,BitVec.sub_eq_add_neg]
structure oJ (a0 b0 c0 a b c p q r t:W):Prop where
 ea:a=a0*p*p+b0*p*r+c0*r*r
 eb:b=2*a0*p*q+b0*(p*t+q*r)+2*c0*r*t
 ec:c=a0*q*q+b0*q*t+c0*t*t
 det:p*t-q*r=1
theorem oJ.step {a0 b0 c0 a b c p q r t k:W}(h:oJ a0 b0 c0 a b c p q r t):oJ a0 b0 c0 c (2*c*k-b) (a-b*k+c*k*k) q (-p+q*k) t (-r+t*k):=by
 obtain⟨ea,eb,ec,det⟩:=h;subst ea eb ec;exact⟨by grind,by grind,by grind,by grind⟩
theorem oJ.one (a b c:W):oJ a b c a b c 1 0 0 1:=⟨by grind,by grind,by grind,by grind⟩
theorem zY:Q28.f 8589934700=some true:=by kernel_rfl
theorem oJ.next {d s a b c:Int}(hd:rB d s)(h:zF d a b c):oJ (wd a) (wd b) (wd c) (wd c) (wd (nB s b c)) (wd (nC s a b c)) (wd 0) (wd (-1)) (wd 1) (wd (nK s b c)):=by
 have hs:=(oJ.one (wd a) (wd b) (wd c)).step (k:=wd (nK s b c));have e1:wd (nB s b c)=2*wd c*wd (nK s b c)-wd b:=by rw[(xI s b c (h.ane hd).2).2.2,de,vR,vR];rfl
 have e2:wd (nC s a b c)=wd a-wd b*wd (nK s b c)+wd c*wd (nK s b c)*wd (nK s b c):=by unfold nC;rw[dc,de,vR,vR,vR]
 have z0:wd 0=0:=rfl;have z1:wd 1=1:=rfl;have zm:wd (-1)= -1:=rfl;rw[e1,e2,z0,z1,zm];have f2: -(1:W)+0*wd (nK s b c)= -1:=by grind
 have f4: -(0:W)+1*wd (nK s b c)=wd (nK s b c):=by grind
 rw[f2,f4]at hs;exact hs
theorem eG {n:Nat}(h:n≤2000000):kB n 24=true:=by
 unfold kB;exact decide_eq_true (by omega)
theorem pP {x:Int}(h:x≠0):1≤ab x:=by rcases wA x with⟨_,e⟩|⟨_,e⟩<;>omega
theorem fu {d s a b c:Int}(hd:rB d s)(h:zF d a b c)(hr:tL s a b):4*(ab a*ab c)=d-b*b∧b*b<d∧((0<a∧c<0)∨(a<0∧0<c)):=by
 obtain⟨r1,r2,r3,r4⟩:=hr;obtain⟨ha,hc⟩:=h.ane hd;have p:=qH (show 0≤b by omega) r2;have lo:=hd.root.lo;have hne:=hd.ne;have hdd:=h.disc;have hlt:b*b<d:=by omega
 have e1:4*a*c=4*(a*c):=by grind
 have e2:a*c<0:=by omega
 have e3:ab (a*c)= -(a*c):=by rcases wA (a*c)with⟨_,e⟩|⟨_,e⟩<;>omega
 rw[lI]at e3;refine⟨by omega,hlt,?_⟩;rcases aE 0 a with h1|h1
 ·left;refine⟨h1,?_⟩;rcases aE c 0 with h2|h2
  ·exact h2
  ·have:=hE (show 0≤a by omega) h2;omega
 ·right;refine⟨by omega,?_⟩;rcases aE 0 c with h2|h2
  ·exact h2
  ·have:=hE (show 0≤ -a by omega) (show 0≤ -c by omega);have e: -a* -c=a*c:=by grind
   omega
theorem jT {d s a b c:Int}(hd:rB d s)(h:zF d a b c)(hr:tL s a b):tL s c b:=by
 obtain⟨e1,e2,_⟩:=fu hd h hr;obtain⟨r1,r2,r3,r4⟩:=hr;have lo:=hd.root.lo;have hi:=hd.root.hi;have hne:=hd.ne;have ha:=gD a;have hc:=gD c;refine⟨r1,r2,?_,?_⟩
 ·rcases aE s (b+2*ab c)with h1|h1
  ·exact h1
  ·exfalso;have p:=hC (show 2*ab c≤s-b by omega) (show 0≤2*ab a by omega);have q:=n0 (show 2*ab a≤s+b by omega) (show 0≤s-b by omega);have g1:2*ab a*(2*ab c)=4*(ab a*ab c):=by grind
   have g2:(s+b)*(s-b)=s*s-b*b:=by grind
   omega
 ·rcases aE s (2*ab c-b)with h1|h1
  ·exfalso;have p:=hC (show s+1+b≤2*ab c by omega) (show 0≤2*ab a by omega);have q:=n0 (show s+1-b≤2*ab a by omega) (show 0≤s+1+b by omega);have g1:2*ab a*(2*ab c)=4*(ab a*ab c):=by grind
   have g2:(s+1-b)*(s+1+b)=(s+1)*(s+1)-b*b:=by grind
   omega
  ·exact h1
theorem kb (s c x y p q b:Int)(hc:c≠0)(x1:s-2*ab c<x)(x2:x≤s)(y1:s-2*ab c<y)(y2:y≤s)(hx:x=2*c*p+b)(hy:y=2*c*q+b):x=y:=by
 have hp:=pP hc;have e:x-y=2*c*(p-q):=by rw[hx,hy];grind
 have e2:ab (x-y)=2*ab c*ab (p-q):=by rw[e,lI,lI];rfl
 rcases aE 0 (ab (p-q))with h|h
 ·have:=hC (show 1≤ab (p-q) by omega) (show 0≤2*ab c by omega);rcases wA (x-y)with⟨_,g⟩|⟨_,g⟩<;>omega
 ·have h0:ab (p-q)=0:=by have:=gD (p-q);omega
  rw[h0]at e2;rcases wA (x-y)with⟨_,g⟩|⟨_,g⟩<;>omega
theorem wW {d s a b c:Int}(hd:rB d s)(h:zF d a b c)(hr:tL s a b):tL s c (nB s b c)∧nB s (nB s b c) c=b∧nC s (nC s a b c) (nB s b c) c=a:=by
 obtain⟨o1,o2,o3,o4⟩:=jT hd h hr;obtain⟨_,hc⟩:=h.ane hd;have hp:=pP hc;have ht:vA s c=s:=by unfold vA;rw[if_neg (by omega)]
 obtain⟨n1,n2,n3⟩:=xI s b c hc;rw[ht]at n1 n2;have hk:nB s b c≥2*ab c-b:=by
  rcases aE (nB s b c) (2*ab c-b)with h1|h1
  ·exfalso;have e:nB s b c+b=2*c*nK s b c:=by omega
   have e2:ab (nB s b c+b)=2*ab c*ab (nK s b c):=by rw[e,lI,lI];rfl
   have e3:ab (nB s b c+b)=nB s b c+b:=by rcases wA (nB s b c+b)with⟨_,g⟩|⟨_,g⟩<;>omega
   have hkn:=gD (nK s b c);rcases aE 0 (ab (nK s b c))with h2|h2
   ·have:=hC (show 1≤ab (nK s b c) by omega) (show 0≤2*ab c by omega);omega
   ·have h0:ab (nK s b c)=0:=by omega
    rw[h0]at e2;omega
  ·exact h1
 have hred:tL s c (nB s b c):=by refine⟨?_,n2,by omega,by omega⟩;omega
 have hb:nB s (nB s b c) c=b:=by obtain⟨m1,m2,m3⟩:=xI s (nB s b c) c hc;rw[ht]at m1 m2;refine kb s c _ _ (nK s (nB s b c) c-nK s b c) 0 b hc m1 m2 (by omega) (by omega) ?_ (by omega);rw[m3,n3];grind
 refine⟨hred,hb,?_⟩;have g1:=rU d s a b c hc h.disc;have g2:=rU d s (nC s a b c) (nB s b c) c hc (by
   have e:4*nC s a b c*c=4*c*nC s a b c:=by grind
   omega)
 rw[hb]at g2;have:=h.disc;have e:4*a*c=4*c*a:=by grind
 have e2:4*c*nC s (nC s a b c) (nB s b c) c=4*c*a:=by omega
 exact b6 (by omega) e2
abbrev T3:=Int×Int×Int
def fv (s:Int)(x:T3):T3:=(x.2.2,nB s x.2.1 x.2.2,nC s x.1 x.2.1 x.2.2)
def fD (s:Int)(x:T3):Nat→T3
 |0=>x
 |n+1=>fv s (fD s x n)
def kV (d s:Int)(x:T3):Prop:=zF d x.1 x.2.1 x.2.2∧tL s x.1 x.2.1
def bk (s:Int)(x:T3):T3:=(nC s x.2.2 x.2.1 x.1,nB s x.2.1 x.1,x.1)
theorem gp {d s:Int}(hd:rB d s){x:T3}(h:kV d s x):kV d s (fv s x):=⟨(h.1.next hd).1,(wW hd h.1 h.2).1⟩
theorem e9 {d s:Int}(hd:rB d s){x:T3}(h:kV d s x):bk s (fv s x)=x:=by
 obtain⟨_,h1,h2⟩:=wW hd h.1 h.2;unfold bk fv;exact Prod.ext h2 (Prod.ext h1 rfl)
theorem eo {d s:Int}(hd:rB d s){x y:T3}(h:kV d s x)(k:kV d s y)(e:fv s x=fv s y):x=y:=by
 rw[←e9 hd h,←e9 hd k,e]
theorem zI {d s:Int}(hd:rB d s){x:T3}(h:kV d s x):∀n,kV d s (fD s x n)
 |0=>h
 |n+1=>gp hd (zI hd h n)
theorem yI (s:Int)(x:T3)(m:Nat):∀n,fD s x (m+n)=fD s (fD s x m) n
 |0=>rfl
 |n+1=>by rw[←dd];simp only[fD];rw[yI s x m n]
theorem hP {d s:Int}(hd:rB d s){x y:T3}(h:kV d s x)(k:kV d s y):∀n,fD s x n=fD s y n→x=y
 |0,e=>e
 |n+1,e=>hP hd h k n (eo hd (zI hd h n) (zI hd k n) e)
structure kE (s:Int)(x:T3)(n:Nat):Prop where
 pos:1≤n
 back:fD s x n=x
 least:∀k,1≤k→k<n→fD s x k≠x
theorem kE.ne {d s:Int}(hd:rB d s){x:T3}(h:kV d s x){n:Nat}(hr:kE s x n){i j:Nat}(hi:i<j)(hj:j<n):fD s x i≠fD s x j:=by
 intro e;have:j=(j-i)+i:=by omega
 rw[this,yI]at e;exact hr.least (j-i) (by omega) (by omega) (hP hd h (zI hd h _) i e).symm
theorem kE.wrap {s:Int}{x:T3}{n:Nat}(hr:kE s x n)(k:Nat):fD s x (n+k)=fD s x k:=by rw[yI,hr.back]
def gE (s:Int)(x:T3):Nat→List Int
 |0=>[]
 |n+1=>gE s x n++[(fD s x n).1,(fD s x n).2.1,(fD s x n).2.2]
theorem vG (s:Int)(x:T3):∀n,(gE s x n).length=n*3
 |0=>rfl
 |n+1=>by simp[gE,vG s x n];omega
theorem aW (s:Int)(x:T3):∀(n i:Nat),i<n→(gE s x n).getD (i*3) 0=(fD s x i).1∧(gE s x n).getD (i*3+1) 0=(fD s x i).2.1∧(gE s x n).getD (i*3+2) 0=(fD s x i).2.2
 |0,i,h=>by omega
 |n+1,i,h=>by
  have hl:=vG s x n;simp only[gE];by_cases hi:i<n
  ·have ih:=aW s x n i hi;simp only[hB]at ih⊢;rw[b4 (by omega),b4 (by omega),b4 (by omega)];exact ih
  ·have:i=n:=by omega
   subst this;simp only[hB];rw[u1 (by omega),u1 (by omega),u1 (by omega),hl];simp[Nat.add_sub_cancel_left]
theorem ir (x y:T3):((x.1==y.1)&&((x.2.1==y.2.1)&&(x.2.2==y.2.2)))=decide (x=y):=by
 rw[b9];simp only[k6,beq_iff_eq,decide_eq_true_eq];exact⟨fun h=>Prod.ext h.1 (Prod.ext h.2.1 h.2.2),fun h=>by subst h;exact⟨rfl,rfl,rfl⟩⟩
theorem ck {N:Nat}(hN:8589934600<N){d s:Int}(hd:rB d s){x:T3}(h:kV d s x):∀(n k:Nat),1≤k→k≤4096→4096-k<n→(∀j,1≤j→j≤k→fD s x j≠x)→
  (∃m,m≤4096∧kE s x m∧∀{R:Type} (K:Bool→List Int→Option R),Q11.l1000001 N n d s x.1 x.2.1 x.2.2 (gE s x k) (fD s x k).1 (fD s x k).2.1 (fD s x k).2.2 K=K false (gE s x m))∨
  ((∀m,kE s x m→4096<m)∧∀{R:Type} (K:Bool→List Int→Option R),Q11.l1000001 N n d s x.1 x.2.1 x.2.2 (gE s x k) (fD s x k).1 (fD s x k).2.1 (fD s x k).2.2 K=K true (gE s x 4096)):=by
 intro n;induction n with
 |zero=>intro k _ _ h;omega
 |succ n ih=>
  intro k k1 k2 hf hne;have hl:=vG s x k;have ho:=zI hd h k;by_cases hk:k=4096
  ·subst hk;right;refine⟨fun m hm=>?_,fun K=>?_⟩
   ·rcases b8 4096 m with h1|h1
    ·exact h1
    ·exact absurd hm.back (hne m hm.pos h1)
   ·have e1:(((gE s x 4096).length/3:Int)==4096)=true:=by simp;omega
    rw[Q11.l1000001,e1];rfl
  ·have e1:(((gE s x k).length/3:Int)==4096)=false:=by simp;omega
   have e2:kB (((gE s x k).length+3)/3) 24=true:=eG (by omega);have e3:((fD s x k).2.2==x.1&&(nB s (fD s x k).2.1 (fD s x k).2.2==x.2.1&&nC s (fD s x k).1 (fD s x k).2.1 (fD s x k).2.2==x.2.2))=decide (fD s x (k+1)=x):=ir (fv s (fD s x k)) x;by_cases hq:fD s x (k+1)=x
   ·left;refine⟨k+1,by omega,⟨by omega,hq,fun j j1 j2=>hne j j1 (by omega)⟩,fun K=>?_⟩;rw[Q11.l1000001,e1,e2,lL N hd ho.1];simp only[cond_true,cond_false,hA,e3,hq,decide_true,hV];rfl
   ·have key:∀{R:Type} (K:Bool→List Int→Option R),Q11.l1000001 N (n+1) d s x.1 x.2.1 x.2.2 (gE s x k) (fD s x k).1 (fD s x k).2.1 (fD s x k).2.2 K=Q11.l1000001 N n d s x.1 x.2.1 x.2.2 (gE s x (k+1)) (fD s x (k+1)).1 (fD s x (k+1)).2.1 (fD s x (k+1)).2.2 K:=fun K=>by
     rw[Q11.l1000001,e1,e2,lL N hd ho.1];simp only[cond_true,cond_false,hA,e3,hq,decide_false,hI];rfl
    rcases ih (k+1) (by omega) (by omega) (by omega) (fun j j1 j2=>by
     rcases b8 j (k+1)with h1|h1
     ·exact hne j j1 (by omega)
     ·have:j=k+1:=by omega
      subst this;exact hq)with⟨m,m1,m2,m3⟩|⟨m1,m2⟩
    ·exact .inl ⟨m,m1,m2,fun K=>by rw[key];exact m3 K⟩
    ·exact .inr ⟨m1,fun K=>by rw[key];exact m2 K⟩
theorem zW {N:Nat}(hN:8589934600<N){d s:Int}(hd:rB d s){x:T3}(h:kV d s x):
  (∃m,m≤4096∧kE s x m∧Q11.f N x.1 x.2.1 x.2.2=some (gE s x m,false))∨((∀m,kE s x m→4096<m)∧Q11.f N x.1 x.2.1 x.2.2=some (gE s x 4096,true)):=by
 obtain⟨r,hr,r1,r2⟩:=vD hN hd.d1 hd.d2;have:=hr.unique hd.root;subst this;have e3:(x.2.2==x.1&&(nB r x.2.1 x.2.2==x.2.1&&nC r x.1 x.2.1 x.2.2==x.2.2))=decide (fD r x 1=x):=ir (fv r x) x;unfold Q11.f Q11.s1000001 Q3.f;rw[eP h.1];have e1:((([]:List Int).length/3:Int)==4096)=false:=by decide
 have e2:kB ((([]:List Int).length+3)/3) 24=true:=by decide
 simp only[hA,r1,lL N hd h.1,e1,e2,cond_true,cond_false,e3];by_cases hq:fD r x 1=x
 ·simp only[hq,decide_true,hV,cond_false];exact .inl ⟨1,by omega,⟨by omega,hq,fun j j1 j2=>by omega⟩,rfl⟩
 ·simp only[hq,decide_false,hI,cond_true];rcases ck hN hd h N 1 (by omega) (by omega) (by omega) (fun j j1 j2=>by
   have:j=1:=by omega
   subst this;exact hq)with⟨m,m1,m2,m3⟩|⟨m1,m2⟩
  ·exact .inl ⟨m,m1,m2,m3 _⟩
  ·exact .inr ⟨m1,m2 _⟩
theorem iH:∀(a b:List Int),cM a b=true↔a=b
 | [],[]=>by simp[cM]
 | [],_::_=>by simp[cM]
 |_::_,[]=>by simp[cM]
 |a::r,b::s=>by simp[cM,iH r s]
def zU (x:T3):List Int:=[x.1,x.2.1,x.2.2]
theorem cm {x y:T3}(h:zU x=zU y):x=y:=by
 simp only[zU,List.cons.injEq,and_true]at h;exact Prod.ext h.1 (Prod.ext h.2.1 h.2.2)
end Go.Proofs.Ytlofhdoefjmabaa.Pure
namespace Go.Proofs.Ytlofhdoefjmabaa.Cnt
def cn (a r:Nat):Nat→Nat
 |0=>0
 |b+1=>cn a r b+if b*b%(4*a)=r then 1 else 0
def dW (a:Nat):Nat→Nat
 |0=>0
 |b+1=>dW a b+65536^(b*b%(4*a))
def low (a m:Nat):Nat→Nat
 |0=>0
 |b+1=>low a m b+if b*b%(4*a)<m then 65536^(b*b%(4*a))else 0
theorem u9 (a r:Nat):∀n,cn a r n≤n
 |0=>s4 _
 |n+1=>by have:=u9 a r n;simp only[cn];split<;>omega
theorem vQ (a m:Nat):∀n,low a (m+1) n=low a m n+cn a m n*65536^m
 |0=>by simp[low,cn]
 |n+1=>by
  simp only[low,cn];rw[vQ a m n,Nat.add_mul];by_cases h:n*n%(4*a)=m
  ·rw[if_pos (by omega),if_neg (by omega),if_pos h,h];omega
  ·rw[if_neg h];by_cases h2:n*n%(4*a)<m
   ·rw[if_pos (by omega),if_pos h2];omega
   ·rw[if_neg (by omega),if_neg h2];omega
theorem oW (a:Nat):∀n,low a 0 n=0
 |0=>rfl
 |n+1=>by simp[low,oW a n]
theorem ax (a n:Nat)(hn:n<65536):∀m,low a m n<65536^m
 |0=>by rw[oW];exact Nat.one_pos
 |m+1=>by rw[vQ,Nat.pow_succ];have h1:=ax a n hn m;have h2:=u9 a m n;have h3:cn a m n*65536^m≤65535*65536^m:=cz _ (by omega);omega
theorem eW (a m:Nat):∀n,∃q,dW a n=low a m n+q*65536^m
 |0=>⟨0,by simp[dW,low]⟩
 |n+1=>by
  obtain⟨q,hq⟩:=eW a m n;simp only[dW,low];by_cases h:n*n%(4*a)<m
  ·exact⟨q,by rw[if_pos h,hq];omega⟩
  ·refine⟨q+65536^(n*n%(4*a)-m),?_⟩;rw[if_neg h,hq,Nat.add_mul,←Nat.pow_add,Nat.sub_add_cancel (by omega)];omega
theorem dp (a m n:Nat)(hn:n<65536):cn a m n=dW a n/65536^m%65536:=by
 obtain⟨q,hq⟩:=eW a (m+1) n;have hp:0<65536^m:=Nat.pow_pos (by decide);have h1:dW a n=low a m n+65536^m*(cn a m n+65536*q):=by rw[hq,vQ,Nat.pow_succ];rw[Nat.mul_add,Nat.mul_comm (65536^m) (cn a m n),dd];congr 2;rw[Nat.mul_comm q,Nat.mul_assoc]
 rw[h1,Nat.add_mul_div_left _ _ hp,Nat.div_eq_of_lt (ax a n hn m),ds,Nat.add_mul_mod_self_left,Nat.mod_eq_of_lt];have:=u9 a m n;omega
def kc (R:Nat):Nat→Nat→Bool
 |0,_=>true
 |_+1,0=>true
 |m+1,h+1=>Nat.ble ((h+1)%65536) R&&kc R m ((h+1)/65536)
theorem sV (R:Nat):∀(m H:Nat),kc R m H=true→∀i,i<m→H/65536^i%65536≤R
 |0,_,_,i,hi=>absurd hi (Nat.not_lt_zero i)
 |m+1,0,_,i,_=>by simp
 |m+1,h+1,hc,i,hi=>by
  simp only[kc,k6]at hc;cases i with
  |zero=>simpa using Nat.le_of_ble_eq_true hc.1
  |succ i=>have:=sV R m _ hc.2 i (by omega);rwa[Nat.div_div_eq_div_mul,←Nat.pow_succ']at this
def fB:List (Nat×Nat)→Bool
 | []=>true
 |(a,r)::l=>kc r (4*a) (dW a (2*a))&&fB l
theorem vN:∀(l:List (Nat×Nat)),fB l=true→∀p∈l,∀i,i<4*p.1→dW p.1 (2*p.1)/65536^i%65536≤p.2
 | [],_,p,hp=>by cases hp
 |(a,r)::l,h,p,hp=>by
  simp only[fB,k6]at h;rcases p5.mp hp with e|hp
  ·subst e;intro i hi;exact sV r _ _ h.1 i hi
  ·exact vN l h.2 p hp
theorem rA:∀{l m:List (Nat×Nat)},fB l=true→fB m=true→fB (l++m)=true
 | [],_,_,h=>h
 |(a,r)::l,m,h,h2=>by simp only[fB,k6,List.cons_append]at h⊢;exact⟨h.1,rA h.2 h2⟩
def me:List (Nat×Nat):=[(1,1),(2,2),(3,2),(4,2)]
theorem mv:fB me=true:=by decide+kernel
def mf:List (Nat×Nat):=[(5,2),(6,4),(7,2),(8,4)]
theorem mw:fB mf=true:=by decide+kernel
def mg:List (Nat×Nat):=[(9,3),(10,4),(11,2),(12,4)]
theorem my:fB mg=true:=by decide+kernel
def mh:List (Nat×Nat):=[(13,2),(14,4),(15,4),(16,4)]
theorem mz:fB mh=true:=by decide+kernel
def mi:List (Nat×Nat):=[(17,2),(18,6),(19,2),(20,4)]
theorem na:fB mi=true:=by decide+kernel
def mj:List (Nat×Nat):=[(21,4),(22,4),(23,2),(24,8)]
theorem nd:fB mj=true:=by decide+kernel
def ml:List (Nat×Nat):=[(25,5),(26,4),(27,6),(28,4)]
theorem nf:fB ml=true:=by decide+kernel
def mm:List (Nat×Nat):=[(29,2),(30,8),(31,2),(32,8)]
theorem ng:fB mm=true:=by decide+kernel
def mn:List (Nat×Nat):=[(33,4),(34,4),(35,4),(36,6)]
theorem nh:fB mn=true:=by decide+kernel
def mo:List (Nat×Nat):=[(37,2),(38,4),(39,4),(40,8)]
theorem ni:fB mo=true:=by decide+kernel
def jb:List (Nat×Nat):=[(41,2),(42,8),(43,2),(44,4)]
theorem km:fB jb=true:=by decide+kernel
def jc:List (Nat×Nat):=[(45,6),(46,4),(47,2),(48,8)]
theorem kn:fB jc=true:=by decide+kernel
def jd:List (Nat×Nat):=[(49,7),(50,10),(51,4),(52,4)]
theorem ko:fB jd=true:=by decide+kernel
def je:List (Nat×Nat):=[(53,2),(54,12),(55,4),(56,8)]
theorem kp:fB je=true:=by decide+kernel
def jf:List (Nat×Nat):=[(57,4),(58,4),(59,2),(60,8)]
theorem kq:fB jf=true:=by decide+kernel
def jg:List (Nat×Nat):=[(61,2),(62,4),(63,6),(64,8)]
theorem ku:fB jg=true:=by decide+kernel
def jh:List (Nat×Nat):=[(65,4),(66,8),(67,2),(68,4)]
theorem kv:fB jh=true:=by decide+kernel
def ji:List (Nat×Nat):=[(69,4),(70,8),(71,2),(72,12)]
theorem kx:fB ji=true:=by decide+kernel
def jj:List (Nat×Nat):=[(73,2),(74,4),(75,10),(76,4)]
theorem ky:fB jj=true:=by decide+kernel
def jk:List (Nat×Nat):=[(77,4),(78,8),(79,2),(80,8)]
theorem kz:fB jk=true:=by decide+kernel
def jl:List (Nat×Nat):=[(81,9),(82,4),(83,2),(84,8)]
theorem la:fB jl=true:=by decide+kernel
def jm:List (Nat×Nat):=[(85,4),(86,4),(87,4),(88,8)]
theorem lb:fB jm=true:=by decide+kernel
def jn:List (Nat×Nat):=[(89,2),(90,12),(91,4),(92,4)]
theorem lf:fB jn=true:=by decide+kernel
def jo:List (Nat×Nat):=[(93,4),(94,4),(95,4),(96,16)]
theorem lg:fB jo=true:=by decide+kernel
def jq:List (Nat×Nat):=[(97,2),(98,14),(99,6),(100,10)]
theorem lh:fB jq=true:=by decide+kernel
def jr:List (Nat×Nat):=[(101,2),(102,8),(103,2),(104,8)]
theorem lj:fB jr=true:=by decide+kernel
def js:List (Nat×Nat):=[(105,8),(106,4),(107,2),(108,12)]
theorem lk:fB js=true:=by decide+kernel
def jt:List (Nat×Nat):=[(109,2),(110,8),(111,4),(112,8)]
theorem ll:fB jt=true:=by decide+kernel
def ju:List (Nat×Nat):=[(113,2),(114,8),(115,4),(116,4)]
theorem ln:fB ju=true:=by decide+kernel
def jv:List (Nat×Nat):=[(117,6),(118,4),(119,4),(120,16)]
theorem lp:fB jv=true:=by decide+kernel
def jw:List (Nat×Nat):=[(121,11),(122,4),(123,4),(124,4)]
theorem lq:fB jw=true:=by decide+kernel
def jx:List (Nat×Nat):=[(125,10),(126,12),(127,2),(128,16)]
theorem lr:fB jx=true:=by decide+kernel
def tab:List (Nat×Nat):=me++(mf++(mg++(mh++(mi++(mj++(ml++(mm++(mn++(mo++(jb++(jc++(jd++(je++(jf++(jg++(jh++(ji++(jj++(jk++(jl++(jm++(jn++(jo++(jq++(jr++(js++(jt++(ju++(jv++(jw++(jx)))))))))))))))))))))))))))))))
theorem gr:fB tab=true:=rA mv (rA mw (rA my (rA mz (rA na (rA nd (rA nf (rA ng (rA nh (rA ni (rA km (rA kn (rA ko (rA kp (rA kq (rA ku (rA kv (rA kx (rA ky (rA kz (rA la (rA lb (rA lf (rA lg (rA lh (rA lj (rA lk (rA ll (rA ln (rA lp (rA lq lr))))))))))))))))))))))))))))))
theorem gh {p:Nat×Nat}(hp:p∈tab)(h2:p.1≤128){r:Nat}(hr:r<4*p.1):cn p.1 r (2*p.1)≤p.2:=by
 rw[dp p.1 r (2*p.1) (by omega)];exact vN tab gr p hp r hr
theorem j4:tab.map (·.1)=List.range' 1 128:=by decide+kernel
theorem ep:(tab.map (·.2)).sum=668:=by decide+kernel
end Go.Proofs.Ytlofhdoefjmabaa.Cnt
namespace Go.Proofs.Ytlofhdoefjmabaa.Pure
open Go Go.Proofs.Ytlofhdoefjmabaa.Ev Go.Proofs.Ytlofhdoefjmabaa.Cnt
theorem sU {α:Type} [DecidableEq α]:∀(l m:List α),l.Nodup→(∀x∈l,x∈m)→l.length≤m.length
 | [],m,_,_=>Nat.zero_le _
 |x::l,m,hn,hs=>by obtain⟨h1,h2⟩:=List.nodup_cons.mp hn;have hx:=hs x (by simp);have ih:=sU l (m.erase x) h2 (fun y hy=>(List.mem_erase_of_ne (fun(e:y=x)=>h1 (by rw[←e];exact hy))).mpr (hs y (by simp[hy])));rw[List.length_erase_of_mem hx]at ih;have:=List.length_pos_of_mem hx;simp only[List.length_cons];omega
def iu (a r n:Nat):List Nat:=(List.range n).filter fun t=>Nat.beq (t*t%(4*a)) r
theorem yZ (a r:Nat):∀n,(iu a r n).length=cn a r n
 |0=>rfl
 |n+1=>by
  have ih:=yZ a r n;unfold iu at ih⊢;rw[List.range_succ,List.filter_append,r6,ih];simp only[cn];congr 1;by_cases h:n*n%(4*a)=r
  ·rw[if_pos h];have:Nat.beq (n*n%(4*a)) r=true:=by rw[h];exact Nat.beq_refl r
   simp[this]
  ·rw[if_neg h];have:Nat.beq (n*n%(4*a)) r=false:=by
    cases hb:Nat.beq (n*n%(4*a)) r
    ·rfl
    ·exact absurd (Nat.eq_of_beq_eq_true hb) h
   simp[this]
def bw (s:Int)(a t:Nat):Int:=s- (s- (t:Int))%(2*(a:Int))
def ak (d s:Int)(a t:Nat):List T3:=
 [((a:Int),bw s a t,(bw s a t*bw s a t-d)/(4*(a:Int))),(-(a:Int),bw s a t, -((bw s a t*bw s a t-d)/(4*(a:Int)))),
  ((bw s a t*bw s a t-d)/(4*(a:Int)),bw s a t,(a:Int)),(-((bw s a t*bw s a t-d)/(4*(a:Int))),bw s a t, -(a:Int))]
def rV (d s:Int):List T3:=tab.flatMap fun p=>(iu p.1 ((d%(4*(p.1:Int))).toNat) (2*p.1)).flatMap fun t=>ak d s p.1 t
theorem gq:∀p∈tab,1≤p.1∧p.1≤128:=by
 intro p hp;have h:p.1∈tab.map (·.1):=List.mem_map_of_mem hp;rw[j4,List.mem_range'_1]at h;omega
theorem uS {α β:Type}(f:α→List β)(hf:∀x,(f x).length=4):∀l:List α,(l.flatMap f).length=4*l.length
 | []=>rfl
 |x::l=>by rw[List.flatMap_cons,r6,hf,uS f hf l,List.length_cons];omega
theorem xP (d s:Int):(rV d s).length≤2672:=by
 have key:∀l:List (Nat×Nat),(∀p∈l,p∈tab)→(l.flatMap fun p=>(iu p.1 ((d%(4*(p.1:Int))).toNat) (2*p.1)).flatMap fun t=>ak d s p.1 t).length≤4*(l.map (·.2)).sum:=by
  intro l;induction l with
  |nil=>intro _;exact s4 _
  |cons p l ih=>
   intro hl;have hp:=hl p (by simp);obtain⟨h1,h2⟩:=gq p hp;have h3:((d%(4*(p.1:Int))).toNat)<4*p.1:=by have:=r0 d (show 0<4*(p.1:Int) by omega);have:=r5 d (show 4*(p.1:Int)≠0 by omega);omega
   have h4:=gh hp h2 h3;have ih:=ih (fun q hq=>hl q (by simp[hq]));rw[List.flatMap_cons,r6,uS _ (fun t=>rfl),yZ,List.map_cons,List.sum_cons];omega
 have:=key tab (fun _ h=>h);rw[ep]at this;exact this
theorem iw {s b:Int}{a t:Nat}(ha:1≤a)(h1:s-2*(a:Int)<b)(h2:b≤s)(ht:(t:Int)=b%(2*(a:Int))):bw s a t=b:=by
 unfold bw;rw[ht];have e:(s-b%(2*(a:Int)))%(2*(a:Int))=(s-b)%(2*(a:Int)):=by rw[Int.sub_emod,Int.emod_emod_of_dvd _ (Int.dvd_refl _),←Int.sub_emod]
 rw[e,Int.emod_eq_of_lt (by omega) (by omega)];omega
theorem gn {b d:Int}{a:Nat}{c:Int}(ha:1≤a)(h:b*b-4*(a:Int)*c=d):∃t:Nat,t<2*a∧(t:Int)=b%(2*(a:Int))∧t*t%(4*a)=(d%(4*(a:Int))).toNat:=by
 have p0:=r5 b (show 2*(a:Int)≠0 by omega);have p1:=r0 b (show 0<2*(a:Int) by omega);refine⟨(b%(2*(a:Int))).toNat,by omega,by omega,?_⟩;generalize hm:b%(2*(a:Int))=m at p0 p1;have hb:b=2*(a:Int)*(b/(2*(a:Int)))+m:=by rw[←hm];exact(w0 b _).symm
 generalize b/(2*(a:Int))=q at hb;have e:d=m*m+4*(a:Int)*((a:Int)*q*q+q*m-c):=by subst hb;rw[←h];grind
 have e2:d%(4*(a:Int))=m*m%(4*(a:Int)):=by rw[e,c7]
 rw[e2];obtain⟨k,rfl⟩:=e6 p0;simp only[pC];have:((k:Int)*(k:Int)%(4*(a:Int)))=((k*k%(4*a):Nat):Int):=by push_cast;rfl
 rw[this,pC]
theorem yP {d s:Int}(hd:rB d s)(hs:d≤65536){y:T3}(h:kV d s y):y∈rV d s:=by
 obtain⟨a,b,c⟩:=y;obtain⟨hg,hr⟩:=h;dsimp only at hg hr;obtain⟨o1,o2,o3⟩:=fu hd hg hr;have hr2:=jT hd hg hr;have hdisc:=hg.disc;have b0:=nG b;have pa:=gD a;have pc:=gD c;obtain⟨ha,hc⟩:=hg.ane hd;have qa:=pP ha;have qc:=pP hc;have main:∀(α:Nat) (e f:Int),1≤α→α≤128→ab e=(α:Int)→tL s e b→b*b-4*e*f=d→(e,b,f)∈rV d s∧(f,b,e)∈rV d s:=by
  intro α e f h1 h2 he hred hdf;obtain⟨r1,r2,r3,r4⟩:=hred;rw[he]at r3 r4;obtain⟨p,hp,hp1⟩:∃p∈tab,p.1=α:=by
   have:α∈tab.map (·.1):=by rw[j4,List.mem_range'_1];omega
   obtain⟨p,hp,e⟩:=r7.mp this;exact⟨p,hp,e⟩
  subst hp1;have hf:∃g:Int,b*b-4*(p.1:Int)*g=d∧((e=(p.1:Int)∧f=g)∨(e= -(p.1:Int)∧f= -g)):=by
   rcases wA e with⟨_,q⟩|⟨_,q⟩
   ·exact⟨f,by rw[←he,q];exact hdf,.inl ⟨by omega,rfl⟩⟩
   ·refine⟨-f,?_,.inr ⟨by omega,by omega⟩⟩;rw[←he,q];rw[←hdf];grind
  obtain⟨g,hg,hcase⟩:=hf;obtain⟨t,t1,t2,t3⟩:=gn h1 hg;have hb:=iw h1 (by omega) r2 t2;have hq:(b*b-d)/(4*(p.1:Int))=g:=by
   have:b*b-d=4*(p.1:Int)*g:=by omega
   rw[this,Int.mul_ediv_cancel_left _ (by omega)]
  have htm:t∈iu p.1 ((d%(4*(p.1:Int))).toNat) (2*p.1):=by unfold iu;rw[List.mem_filter];exact⟨List.mem_range.mpr t1,by rw[t3];exact Nat.beq_refl _⟩
  have inn:∀x∈ak d s p.1 t,x∈rV d s:=fun x hx=>List.mem_flatMap.mpr ⟨p,hp,List.mem_flatMap.mpr ⟨t,htm,hx⟩⟩;have hfour:ak d s p.1 t=[((p.1:Int),b,g),(-(p.1:Int),b, -g),(g,b,(p.1:Int)),(-g,b, -(p.1:Int))]:=by unfold ak;rw[hb,hq]
  rw[hfour]at inn;rcases hcase with⟨e1,e2⟩|⟨e1,e2⟩<;>subst e1<;>subst e2
  ·exact⟨inn _ (by simp),inn _ (by simp)⟩
  ·exact⟨inn _ (by simp),inn _ (by simp)⟩
 rcases aE 128 (ab a)with h1|h1
 ·rcases aE 128 (ab c)with h2|h2
  ·exfalso;have:=Int.mul_le_mul (show 129≤ab a by omega) (show 129≤ab c by omega) (by omega) (by omega);omega
  ·exact(main (ab c).toNat c a (by omega) (by omega) (by omega) hr2 (by rw[←hdisc];grind)).2
 ·exact(main (ab a).toNat a c (by omega) (by omega) (by omega) hr hdisc).1
theorem aX {d s:Int}(hd:rB d s)(hs:d≤65536){x:T3}(h:kV d s x):∃m,m≤2672∧kE s x m:=by
 have ex:∃k,1≤k∧k≤2672∧fD s x k=x:=by
  apply Classical.byContradiction;intro hno;have hno:∀k,1≤k→k≤2672→fD s x k≠x:=fun k h1 h2 e=>hno ⟨k,h1,h2,e⟩;have hnd:((List.range 2673).map (fD s x)).Nodup:=by
   rw[List.Nodup,List.pairwise_map];refine List.Pairwise.imp_of_mem ?_ List.nodup_range;intro i j hi hj hne e;rw[List.mem_range]at hi hj;rcases Nat.lt_or_gt_of_ne hne with hlt|hlt
   ·have hj':j=(j-i)+i:=by omega
    rw[hj',yI]at e;exact hno (j-i) (by omega) (by omega) (hP hd h (zI hd h _) i e).symm
   ·have hi':i=(i-j)+j:=by omega
    rw[hi',yI]at e;exact hno (i-j) (by omega) (by omega) (hP hd (zI hd h _) h j e)
  have hsub:∀y∈(List.range 2673).map (fD s x),y∈rV d s:=by intro y hy;obtain⟨i,_,rfl⟩:=r7.mp hy;exact yP hd hs (zI hd h i)
  have:=sU _ _ hnd hsub;rw[c9,List.length_range]at this;have:=xP d s;omega
 have least:∀n k,k≤n→1≤k→fD s x k=x→∃m,m≤k∧kE s x m:=by
  intro n;induction n with
  |zero=>intro k h1 h2;omega
  |succ n ih=>
   intro k h1 h2 h3;by_cases hq:∃j,1≤j∧j<k∧fD s x j=x
   ·obtain⟨j,j1,j2,j3⟩:=hq;obtain⟨m,m1,m2⟩:=ih j (by omega) j1 j3;exact⟨m,by omega,m2⟩
   ·exact⟨k,s4 _,⟨h2,h3,fun j j1 j2 e=>hq ⟨j,j1,j2,e⟩⟩⟩
 obtain⟨k,k1,k2,k3⟩:=ex;obtain⟨m,m1,m2⟩:=least k k (s4 _) k1 k3;exact⟨m,by omega,m2⟩
theorem nO {N:Nat}(hN:8589934600<N){d s:Int}(hd:rB d s)(hs:d≤65536){x:T3}(h:kV d s x):∃m,m≤2672∧kE s x m∧Q11.f N x.1 x.2.1 x.2.2=some (gE s x m,false):=by
 obtain⟨m,m1,m2⟩:=aX hd hs h;rcases zW hN hd h with⟨n,n1,n2,n3⟩|⟨n1,_⟩
 ·have:n=m:=by
   rcases Nat.lt_trichotomy n m with q|q|q
   ·exact absurd n2.back (m2.least n n2.pos q)
   ·exact q
   ·exact absurd m2.back (n2.least m m2.pos q)
  subst this;exact⟨n,m1,m2,n3⟩
 ·have:=n1 m m2;omega
open Go Go.Proofs.Ytlofhdoefjmabaa.Ev
def aI (a b c:Int):Prop:=∀g:Int,g∣a→g∣b→g∣c→g∣1
def fO {α:Type}(z:α)(l:List Int)(ks:List (List Int))(vs:List α):α:=match aD l ks 0 with
 |some j=>vs.getD j z
 |none=>z
theorem sW (l:List Int)(ks:List (List Int))(vs:List Bool):rW l ks vs=fO false l ks vs:=rfl
theorem pK:∀(l:List Int) (ks:List (List Int)) (n j:Nat),aD l ks n=some j→n≤j∧j-n<ks.length∧ks.getD (j-n) []=l
 |l,[],n,j,h=>by cases h
 |l,k::ks,n,j,h=>by
  simp only[aD]at h;cases hb:cM l k<;>rw[hb]at h<;>simp only[cond_true,cond_false]at h
  ·obtain⟨h1,h2,h3⟩:=pK l ks (n+1) j h;have e:j-n=(j- (n+1))+1:=by omega
   exact⟨by omega,by simp;omega,by rw[e];simpa using h3⟩
  ·simp only[Option.some.injEq]at h;subst h;have:=(iH l k).mp hb;subst this;exact⟨s4 _,by simp,by simp⟩
theorem vW:∀(l m:List Int) (ks:List (List Int)) (n:Nat),aD l (ks++[m]) n=match aD l ks n with
  |some j=>some j
  |none=>if l=m then some (n+ks.length)else none
 |l,m,[],n=>by
  simp only[List.nil_append,aD];by_cases h:l=m
  ·subst h;rw[(iH l l).mpr rfl];simp
  ·have:cM l m=false:=by
    cases hb:cM l m
    ·rfl
    ·exact absurd ((iH l m).mp hb) h
   rw[this];simp[h]
 |l,m,k::ks,n=>by
  simp only[List.cons_append,aD];cases hb:cM l k<;>simp only[cond_true,cond_false];rw[vW l m ks (n+1)];have e:n+1+ks.length=n+(k::ks).length:=by simp;omega
  rw[e]
theorem kM {α:Type}(l:List Int)(x:α)(ks:List (List Int))(vs:List α)(h:ks.length=vs.length):(zB l ks).length=(aK l x ks vs).length:=by
 unfold zB aK kL;cases aD l ks 0<;>simp[h]
theorem ba {α:Type}(z:α)(l l':List Int)(x:α)(ks:List (List Int))(vs:List α)(h:ks.length=vs.length):fO z l' (zB l ks) (aK l x ks vs)=if l'=l then x else fO z l' ks vs:=by
 unfold zB aK kL fO;cases hp:aD l ks 0 with
 |some j=>
  obtain⟨_,h1,h2⟩:=pK l ks 0 j hp;simp only[Option.isSome_some,cond_true,dk]at h1 h2⊢;by_cases e:l'=l
  ·subst e;rw[if_pos rfl,hp];simp only[hB];rw[List.getElem?_set_self (by omega)];rfl
  ·rw[if_neg e];cases hq:aD l' ks 0 with
   |none=>rfl
   |some j'=>
    obtain⟨_,h3,h4⟩:=pK l' ks 0 j' hq;simp only[dk]at h3 h4;have hne:j≠j':=by rintro rfl;rw[h2]at h4;exact e h4.symm
    simp only[hB];rw[cx hne]
 |none=>
  simp only[Option.isSome_none,cond_false];rw[vW];cases hq:aD l' ks 0 with
  |some j'=>
   obtain⟨_,h3,h4⟩:=pK l' ks 0 j' hq;simp only[dk]at h3 h4;have e:l'≠l:=by rintro rfl;rw[hp]at hq;cases hq
   simp only[if_neg e,hB];rw[b4 (by omega)]
  |none=>
   by_cases e:l'=l
   ·simp only[if_pos e,ds];simp only[hB];rw[h,u1 (s4 _)];simp
   ·simp only[if_neg e]
theorem lK (N:Nat):∀(n m k:Nat),k<n→∀{R:Type} (x y z w:Int) (K:Int→Int→Int→Int→Int→Option R),Q42.l6 N n (m:Int) (k:Int) x y z w K=K (Nat.gcd m k:Nat) x y z w
 |0,m,k,h,R,x,y,z,w,K=>by omega
 |n+1,m,k,h,R,x,y,z,w,K=>by
  rw[Q42.l6];cases k with
  |zero=>simp
  |succ k=>
   have h1:decide (((k+1:Nat):Int)>0)=true:=decide_eq_true (by omega);have h2:(((k+1:Nat):Int)==0)=false:=by simp;omega
   have h3:Int.tmod (m:Int) ((k+1:Nat):Int)=((m%(k+1):Nat):Int):=by rw[hM (by omega)];rfl
   rw[h1,h2,cond_true,hI,cond_true,h3,lK N n (k+1) (m%(k+1)) (by have:=Nat.mod_lt m (show 0<k+1 by omega);omega)];rw[x7 m (k+1),Nat.gcd_rec (k+1) m,x7]
def g3 (a b c:Int):Nat:=Nat.gcd (Nat.gcd a.natAbs b.natAbs) c.natAbs
theorem gU (a b c:Int):g3 a b c=1↔aI a b c:=by
 unfold g3 aI;constructor
 ·intro h g h1 h2 h3;have p:g.natAbs∣Nat.gcd (Nat.gcd a.natAbs b.natAbs) c.natAbs:=Nat.dvd_gcd (Nat.dvd_gcd (hQ.mpr h1) (hQ.mpr h2)) (hQ.mpr h3);rw[h]at p;exact hQ.mp (by simpa using p)
 ·intro h;have:=h ((Nat.gcd (Nat.gcd a.natAbs b.natAbs) c.natAbs:Nat):Int) (hQ.mp (by simpa using Nat.dvd_trans (p6 _ _) (p6 _ _)))
   (hQ.mp (by simpa using Nat.dvd_trans (p6 _ _) (Nat.gcd_dvd_right _ _))) (hQ.mp (by simpa using Nat.gcd_dvd_right _ _))
  have h2:=hQ.mpr this;simpa using h2
instance (a b c:Int):Decidable (aI a b c):=decidable_of_iff _ (gU a b c)
theorem vM (x:Int):ab x=(x.natAbs:Int):=by rcases wA x with⟨_,e⟩|⟨_,e⟩<;>omega
theorem jO {N:Nat}(hN:8589934600<N){a b c:Int}(a0: -1073741824≤a)(a1:a≤1073741824)(b0: -1073741824≤b)(b1:b≤1073741824)(c0: -1073741824≤c)(c1:c≤1073741824):Q42.f N a b c=some (decide (aI a b c)):=by
 obtain⟨n,rfl⟩:∃m,N=m+4:=⟨N-4,by omega⟩
 unfold Q42.f;have z:(0:Int)=((0:Nat):Int):=rfl;have w1:aA (0+1)=1:=by decide
 have w2:aA (1+1)=2:=by decide
 have w3:aA (2+1)=3:=by decide
 have sa:=(xD (n+4) (x:=a) (by omega) (by omega)).1;have sb:=(xD (n+4) (x:=b) (by omega) (by omega)).1;have sc:=(xD (n+4) (x:=c) (by omega) (by omega)).1;rw[vM]at sa sb sc;have e0:[a,b,c].getD (0:Int).toNat 0=a:=rfl;have e1:[a,b,c].getD (1:Int).toNat 0=b:=rfl;have e2:[a,b,c].getD (2:Int).toNat 0=c:=rfl;have d0:decide ((0:Int)<3)=true:=by decide
 have d1:decide ((1:Int)<3)=true:=by decide
 have d2:decide ((2:Int)<3)=true:=by decide
 have d3:decide ((3:Int)<3)=false:=by decide
 have q0:decide ((0:Int)≤0)=true:=by decide
 have q1:decide ((0:Int)≤1)=true:=by decide
 have q2:decide ((0:Int)≤2)=true:=by decide
 rw[Q42.l3,d0,q0,cond_true,zE,cond_true,e0,sa,hA];have z0:Q42.l6 (R:=Bool) (n+4) (n+4) 0=Q42.l6 (n+4) (n+4) ((0:Nat):Int):=rfl;rw[z0,lK (n+4) (n+4) 0 a.natAbs (by omega)];rw[Q42.l3,w1,d1,q1,cond_true,zE,cond_true,e1,sb,hA,lK (n+4) (n+4) _ b.natAbs (by omega)];rw[Q42.l3,w2,d2,q2,cond_true,zE,cond_true,e2,sc,hA,lK (n+4) (n+4) _ c.natAbs (by omega)];rw[Q42.l3,w3,d3,cond_false];congr 1;rw[b9,beq_iff_eq,decide_eq_true_eq,←gU];unfold g3;rw[Nat.gcd_zero_left];omega
def PF (d s:Int)(x:T3):Prop:=kV d s x∧aI x.1 x.2.1 x.2.2
theorem fz (x:Int):ab (-x)=ab x:=by rcases wA x with⟨_,e⟩|⟨_,e⟩<;>rcases wA (-x)with⟨_,e'⟩|⟨_,e'⟩<;>omega
theorem cf {a b c:Int}:aI (-a) b (-c)↔aI a b c:=by
 unfold aI;constructor
 ·intro h g h1 h2 h3;exact h g (x9.mpr h1) h2 (x9.mpr h3)
 ·intro h g h1 h2 h3;exact h g (x9.mp h1) h2 (x9.mp h3)
theorem ga {N:Nat}(hN:8589934600<N){d s b nn:Int}(hd:rB d s)(hs:d≤65536)(hs2:s≤256)(hb1:1≤b)(hb2:b≤s)(hnn:4*nn=d-b*b):∀(q:Nat) (a:Int) (X:List T3),1≤a→a≤s+1→s+1-a<q→(X.length:Int)+2*(s+1-a)≤1000000→
  ∃Y:List T3,(∀y∈Y,PF d s y)∧(∀y,PF d s y→y.2.1=b→a≤ab y.1→y∈Y)∧(Y.length:Int)≤2*(s+1-a)∧∀{R:Type} (K:Int→Int→Int→List Int→Option R),Q43.l10 N q d s b nn a (iB X) K=K d s b (iB (X++Y)):=by
 have hd1:=hd.d1;have lo:=hd.root.lo;have hbb:=qH (show 0≤b by omega) hb2;have hnd:b*b≠d:=hd.nosq b;have hn0:1≤nn:=by omega
 have hn1:nn≤16384:=by have:=nG b;omega
 intro q;induction q with
 |zero=>intro a X h1 h2 h3 h4;omega
 |succ q ih=>
  intro a X h1 h2 h3 h4;by_cases hle:a≤s
  ·have c1:decide (a≤s)=true:=decide_eq_true hle;have c2:(a==0)=false:=by simp;omega
   have c3:Int.tmod nn a=nn%a:=hM (by omega);have w1:aA (a+1)=a+1:=mA (by omega) (by omega);by_cases hdv:nn%a=0
   ·obtain⟨m,hm⟩:=c6 hdv;subst hm;have hm1:1≤m:=by
     rcases aE 0 m with h|h
     ·omega
     ·have:=hE (show 0≤a by omega) (show 0≤ -m by omega);have e:a* -m= -(a*m):=by grind
      omega
    have hm2:m≤a*m:=by have:=n0 h1 (show 0≤m by omega);omega
    have w2:aA (0-a*m)=a*(-m):=by rw[mA (by omega) (by omega)];grind
    have w3:aA (Int.tdiv (a*(-m)) a)= -m:=by rw[hL _ (by omega),mA (by omega) (by omega)]
    have w4:aA (Int.tdiv (a*m) a)=m:=by rw[hL _ (by omega),mA (by omega) (by omega)]
    have w5:aA (0-a)= -a:=by rw[mA (by omega) (by omega)];omega
    have ge1:4*a* -m= -(4*(a*m)):=by grind
    have ge2:4* -a*m= -(4*(a*m)):=by grind
    have g1:zF d a b (-m):=⟨by omega,by omega,by omega,by omega,by omega,by omega,by omega⟩
    have g2:zF d (-a) b m:=⟨by omega,by omega,by omega,by omega,by omega,by omega,by omega⟩
    have r1:=(xH hN hd g1).1;have r2:=(xH hN hd g2).1;have hrr:tL s (-a) b↔tL s a b:=by unfold tL;rw[fz]
    have p1:=jO hN g1.a0 g1.a1 g1.b0 g1.b1 g1.c0 g1.c1;have p2:=jO hN g2.a0 g2.a1 g2.b0 g2.b1 g2.c0 g2.c1;have hpp:aI (-a) b m↔aI a b (-m):=by have:=cf (a:=a) (b:=b) (c:= -m);rwa[Int.neg_neg]at this
    have inv:∀y:T3,PF d s y→y.2.1=b→ab y.1=a→(tL s a b∧aI a b (-m))∧(y=(a,b, -m)∨y=(-a,b,m)):=by
     intro y hy hyb hya;obtain⟨y1,y2,y3⟩:=y;dsimp only at hyb hya;subst hyb;have hdc:=hy.1.1.disc;dsimp only at hdc;rcases wA y1 with⟨_,e⟩|⟨_,e⟩
     ·have e1:y1=a:=by omega
      subst e1;have e2:y1*(y3+m)=0:=by grind
      have e3:y3= -m:=by rcases Int.mul_eq_zero.mp e2 with h|h<;>omega
      subst e3;exact⟨⟨hy.1.2,hy.2⟩,.inl rfl⟩
     ·have e1:y1= -a:=by omega
      subst e1;have e2:a*(y3-m)=0:=by grind
      have e3:y3=m:=by rcases Int.mul_eq_zero.mp e2 with h|h<;>omega
      subst e3;exact⟨⟨hrr.mp hy.1.2,hpp.mp hy.2⟩,.inr rfl⟩
    by_cases hR:tL s a b∧aI a b (-m)
    ·obtain⟨Y,y1,y2,y3,y4⟩:=ih (a+1) (X++[(a,b, -m),(-a,b,m)]) (by omega) (by omega) (by omega) (by simp;omega);refine⟨[(a,b, -m),(-a,b,m)]++Y,?_,?_,by simp;omega,fun K=>?_⟩
     ·intro y hy;rcases hK.mp hy with h|h
      ·rcases p5.mp h with h|h
       ·subst h;exact⟨⟨g1,hR.1⟩,hR.2⟩
       ·have:=hS.mp h;subst this;exact⟨⟨g2,hrr.mpr hR.1⟩,hpp.mpr hR.2⟩
      ·exact y1 y h
     ·intro y hy hyb hya;by_cases ha:ab y.1=a
      ·rcases(inv y hy hyb ha).2 with h|h<;>simp[h]
      ·exact hK.mpr (.inr (y2 y hy hyb (by omega)))
     ·have l0:=bC X;have f1:kB (((iB X).length+3)/3) 24=true:=eG (by omega);have f2:kB (((iB X++[a,b, -m]).length+3)/3) 24=true:=eG (by simp;omega);have k1:decide (tL s a b)=true:=decide_eq_true hR.1;have k2:decide (tL s (-a) b)=true:=decide_eq_true (hrr.mpr hR.1);have k3:decide (aI a b (-m))=true:=decide_eq_true hR.2;have k4:decide (aI (-a) b m)=true:=decide_eq_true (hpp.mpr hR.2);rw[Q43.l10];simp only[c1,c2,c3,hdv,hI,cond_true,bne_self_eq_false,cond_false,w1,w2,w3,w4,w5,r1,r2,p1,p2,hA,k1,k2,k3,k4,f1,f2];have y4:=y4 K;rw[uI]at y4;rw[h7 (iB X)];rw[←h7 X];exact y4
    ·obtain⟨Y,y1,y2,y3,y4⟩:=ih (a+1) X (by omega) (by omega) (by omega) (by omega);refine⟨Y,y1,fun y hy hyb hya=>?_,by omega,fun K=>?_⟩
     ·by_cases ha:ab y.1=a
      ·exact absurd (inv y hy hyb ha).1 hR
      ·exact y2 y hy hyb (by omega)
     ·rw[Q43.l10];by_cases hr:tL s a b
      ·have hp:¬aI a b (-m):=fun h=>hR ⟨hr,h⟩;have k1:decide (tL s a b)=true:=decide_eq_true hr;have k2:decide (tL s (-a) b)=true:=decide_eq_true (hrr.mpr hr);have k3:decide (aI a b (-m))=false:=decide_eq_false hp;have k4:decide (aI (-a) b m)=false:=decide_eq_false (fun h=>hp (hpp.mp h));simp only[c1,c2,c3,hdv,hI,cond_true,bne_self_eq_false,cond_false,w1,w2,w3,w4,w5,r1,r2,p1,p2,hA,k1,k2,k3,k4];exact y4 K
      ·have k1:decide (tL s a b)=false:=decide_eq_false hr;have k2:decide (tL s (-a) b)=false:=decide_eq_false (fun h=>hr (hrr.mp h));simp only[c1,c2,c3,hdv,hI,cond_true,bne_self_eq_false,cond_false,w1,w2,w3,w4,w5,r1,r2,hA,k1,k2];exact y4 K
   ·obtain⟨Y,y1,y2,y3,y4⟩:=ih (a+1) X (by omega) (by omega) (by omega) (by omega);refine⟨Y,y1,fun y hy hyb hya=>?_,by omega,fun K=>?_⟩
    ·by_cases ha:ab y.1=a
     ·exfalso;have hdc:=hy.1.1.disc;rw[hyb]at hdc;apply hdv;apply k8;rcases wA y.1 with⟨_,e⟩|⟨_,e⟩
      ·exact⟨-y.2.2,by rw[←ha,e];grind⟩
      ·exact⟨y.2.2,by rw[←ha,e];grind⟩
     ·exact y2 y hy hyb (by omega)
    ·have c4:(nn%a != 0)=true:=by simpa using hdv
     rw[Q43.l10];simp only[c1,c2,c3,c4,hI,cond_true,w1];exact y4 K
  ·refine⟨[],(fun y hy=>(List.not_mem_nil hy).elim),fun y hy hyb hya=>?_,(by simp;omega),fun K=>?_⟩
   ·exfalso;have hr:=hy.1.2;rw[hyb]at hr;obtain⟨_,_,_,r4⟩:=hr;omega
   ·rw[Q43.l10,decide_eq_false hle,cond_false,List.append_nil]
theorem di {N:Nat}(hN:8589934600<N){d s:Int}(hd:rB d s)(hs:d≤65536)(hs2:s≤256):∀(q:Nat) (b:Int) (X:List T3),1≤b→(d-b*b)%4=0→s+2-b<2*q→b≤s+2→(X.length:Int)+300*(s+2-b)≤200000→
  ∃Y:List T3,(∀y∈Y,PF d s y)∧(∀y,PF d s y→b≤y.2.1→y∈Y)∧(Y.length:Int)≤300*(s+2-b)∧∀{R:Type} (K:List Int→Option R),Q43.l6 N q d s b (iB X) K=K (iB (X++Y)):=by
 have hd1:=hd.d1;have lo:=hd.root.lo;intro q;induction q with
 |zero=>intro b X h1 hp h2 h3 h4;omega
 |succ q ih=>
  intro b X h1 hp h2 h3 h4;by_cases hle:b≤s
  ·have hbb:=qH (show 0≤b by omega) hle;have hb0:=nG b;obtain⟨nn,hnn⟩:=c6 hp;have w1:aA (b*b)=b*b:=mA (by omega) (by omega);have w2:aA (d-b*b)=4*nn:=by rw[mA (by omega) (by omega)];exact hnn
   have w3:aA (Int.tdiv (4*nn) 4)=nn:=by rw[hL _ (by omega),mA (by omega) (by omega)]
   have w4:aA (b+2)=b+2:=mA (by omega) (by omega);obtain⟨Y,y1,y2,y3,y4⟩:=ga hN hd hs hs2 h1 hle (show 4*nn=d-b*b by omega) N 1 X (by omega) (by omega) (by omega) (by omega);obtain⟨Z,z1,z2,z3,z4⟩:=ih (b+2) (X++Y) (by omega) (by
    have e:d- (b+2)*(b+2)=(d-b*b)+4*(-(b+1)):=by grind
    rw[e,c7];exact hp) (by omega) (by omega) (by simp;omega)
   refine⟨Y++Z,?_,?_,by simp;omega,fun K=>?_⟩
   ·intro y hy;rcases hK.mp hy with h|h
    ·exact y1 y h
    ·exact z1 y h
   ·intro y hy hyb;by_cases hq:y.2.1=b
    ·exact hK.mpr (.inl (y2 y hy hq (pP (hy.1.1.ane hd).1)))
    ·refine hK.mpr (.inr (z2 y hy ?_));have hdc:=hy.1.1.disc;have e1:(d-y.2.1*y.2.1)%4=0:=by
      have e:d-y.2.1*y.2.1=4*(-(y.1*y.2.2)):=by rw[←hdc];grind
      rw[e,Int.mul_emod_right]
     rcases aE y.2.1 (b+2)with h|h
     ·exfalso;have e2:y.2.1=b+1:=by omega
      rw[e2]at e1;have e:d- (b+1)*(b+1)=(d-b*b)-2*b-1:=by grind
      omega
     ·exact h
   ·rw[Q43.l6,decide_eq_true hle,cond_true,w1,w2,w3,y4,w4,z4,h7]
  ·refine⟨[],(fun y hy=>(List.not_mem_nil hy).elim),fun y hy hyb=>?_,(by simp;omega),fun K=>?_⟩
   ·exfalso;obtain⟨_,r2,_⟩:=hy.1.2;omega
   ·rw[Q43.l6,decide_eq_false hle,cond_false,List.append_nil]
theorem gZ {X:List T3}{i:Nat}(h:i<X.length):(iB X).getD (i*3) 0=X[i].1∧(iB X).getD (i*3+1) 0=X[i].2.1∧(iB X).getD (i*3+2) 0=X[i].2.2:=by
 have g0:=fI X (i*3) (by omega);have g1:=fI X (i*3+1) (by omega);have g2:=fI X (i*3+2) (by omega);have a0:i*3%3=0:=by omega
 have a1:(i*3+1)%3=1:=by omega
 have a2:(i*3+2)%3=2:=by omega
 have b0:i*3/3=i:=by omega
 have b1:(i*3+1)/3=i:=by omega
 have b2:(i*3+2)/3=i:=by omega
 rw[a0,b0]at g0;rw[a1,b1]at g1;rw[a2,b2]at g2;simp only[b5 h,Option.map_some]at g0 g1 g2;simp only[hB,g0,g1,g2];exact⟨rfl,rfl,rfl⟩
theorem ej (N:Nat){s:Int}{z:T3}{m:Nat}(hm:m≤4096):∀(q k:Nat) (ks:List (List Int)) (vs:List Bool),k≤m→m-k<q→ks.length=vs.length→
  ∃ks' vs',ks'.length=vs'.length∧(∀l,fO false l ks' vs'=true↔(fO false l ks vs=true∨∃j,k≤j∧j<m∧l=zU (fD s z j)))∧
   ∀{R:Type} (x40 x41:Int) (x46:List (List Int)) (x48:List Int) (K:Int→Int→List (List Int)→List Bool→List (List Int)→List Int→List Int→Option R),Q43.l28 N q x40 x41 (m:Int) (k:Int) ks vs x46 (gE s z m) x48 K=K x40 x41 ks' vs' x46 (gE s z m) x48:=by
 intro q;induction q with
 |zero=>intro k ks vs h1 h2 h3;omega
 |succ q ih=>
  intro k ks vs h1 h2 h3;by_cases hk:k<m
  ·have hl:=vG s z m;obtain⟨g1,g2,g3⟩:=aW s z m k hk;have c1:decide ((k:Int)<(m:Int))=true:=decide_eq_true (by omega);have c2:decide (0≤(k:Int))=true:=decide_eq_true (by omega);have c3:decide ((k:Int)<((gE s z m).length/3:Int))=true:=decide_eq_true (by omega);have w:aA ((k:Int)+1)=((k+1:Nat):Int):=by rw[mA (by omega) (by omega)];simp
   obtain⟨ks',vs',r1,r2,r3⟩:=ih (k+1) (zB (zU (fD s z k)) ks) (aK (zU (fD s z k)) true ks vs) (by omega) (by omega) (kM _ _ _ _ h3);refine⟨ks',vs',r1,fun l=>?_,fun x40 x41 x46 x48 K=>?_⟩
   ·rw[r2,ba _ _ _ _ _ _ h3];constructor
    ·rintro(h|⟨j,j1,j2,j3⟩)
     ·split at h
      ·rename_i e;exact .inr ⟨k,s4 _,hk,e⟩
      ·exact .inl h
     ·exact .inr ⟨j,by omega,j2,j3⟩
    ·rintro(h|⟨j,j1,j2,j3⟩)
     ·left;split<;>simp[h]
     ·by_cases e:j=k
      ·subst e;left;rw[if_pos j3]
      ·exact .inr ⟨j,by omega,j2,j3⟩
   ·rw[Q43.l28];simp only[c1,c2,c3,cond_true,zE,pC,g1,g2,g3,w];exact r3 x40 x41 x46 x48 K
  ·have:k=m:=by omega
   subst this;refine⟨ks,vs,h3,fun l=>⟨.inl,?_⟩,fun x40 x41 x46 x48 K=>?_⟩
   ·rintro(h|⟨j,j1,j2,_⟩)
    ·exact h
    ·omega
   ·rw[Q43.l28,decide_eq_false (by omega),cond_false]
theorem vZ {s:Int}{z:T3}{n:Nat}(hr:kE s z n):∀k,fD s z k=fD s z (k%n):=by
 intro k;have h:∀q r,fD s z (n*q+r)=fD s z r:=by
  intro q;induction q with
  |zero=>intro r;rw[Nat.mul_zero,ds]
  |succ q ih=>intro r;rw[Nat.mul_succ,dd,ih,hr.wrap]
 have:=h (k/n) (k%n);rw[Nat.div_add_mod]at this;exact this
theorem kk {s:Int}{x z:T3}{n m i j:Nat}(hx:kE s x n)(hz:kE s z m)(e:fD s z i=fD s x j):∃t,t<m∧fD s z t=x:=by
 have hp:=hx.pos;have h1:fD s x (j+(n*j-j))=x:=by
  have:j≤n*j:=by have:=cz j hp;omega
  rw[show j+(n*j-j)=n*j by omega,vZ hx,Nat.mul_mod_right];rfl
 rw[yI,←e,←yI]at h1;exact⟨(i+(n*j-j))%m,Nat.mod_lt _ hz.pos,by rw[←vZ hz];exact h1⟩
structure vO (d s:Int)(cs:List (T3×Nat)):Prop where
 pf:∀p∈cs,PF d s p.1
 rnd:∀p∈cs,kE s p.1 p.2
 le:∀p∈cs,p.2≤2672
 apart:cs.Pairwise fun p q=>∀i j,fD s p.1 i≠fD s q.1 j
def zP (s:Int)(cs:List (T3×Nat)):List (List Int):=cs.map fun p=>gE s p.1 p.2
def kS (s:Int)(cs:List (T3×Nat))(x:T3):Prop:=∃p∈cs,∃j,j<p.2∧x=fD s p.1 j
theorem vO.short {d s:Int}(hd:rB d s)(hs:d≤65536){cs:List (T3×Nat)}(h:vO d s cs):cs.length≤2672:=by
 have hnd:(cs.map (·.1)).Nodup:=by rw[List.Nodup,List.pairwise_map];exact h.apart.imp fun hpq=>hpq 0 0
 have hsub:∀y∈cs.map (·.1),y∈rV d s:=by intro y hy;obtain⟨p,hp,rfl⟩:=r7.mp hy;exact yP hd hs (h.pf p hp).1
 have:=sU _ _ hnd hsub;rw[c9]at this;have:=xP d s;omega
theorem vO.add {d s:Int}(hd:rB d s){cs:List (T3×Nat)}(h:vO d s cs){x:T3}{m:Nat}(hx:PF d s x)(hr:kE s x m)(hm:m≤2672)(hn:¬kS s cs x):vO d s (cs++[(x,m)]) where
 pf p hp:=by
  rcases hK.mp hp with hp|hp
  ·exact h.pf p hp
  ·rw[hS.mp hp];exact hx
 rnd p hp:=by
  rcases hK.mp hp with hp|hp
  ·exact h.rnd p hp
  ·rw[hS.mp hp];exact hr
 le p hp:=by
  rcases hK.mp hp with hp|hp
  ·exact h.le p hp
  ·rw[hS.mp hp];exact hm
 apart:=by rw[cy];refine⟨h.apart,x8 _ _,fun p hp q hq i j e=>?_⟩;rw[hS.mp hq]at e;obtain⟨t,t1,t2⟩:=kk hr (h.rnd p hp) e;exact hn ⟨p,hp,t,t1,t2.symm⟩
inductive Tl (s:Int):List T3→List (T3×Nat)→List (T3×Nat)→Prop
 |nil {cs}:Tl s [] cs cs
 |skip {x X cs cs'} (h:kS s cs x) (k:Tl s X cs cs'):Tl s (x::X) cs cs'
 |add {x X cs cs' m} (h:¬kS s cs x) (hr:kE s x m) (k:Tl s X (cs++[(x,m)]) cs'):Tl s (x::X) cs cs'
theorem er {N:Nat}(hN:8589934600<N){d s:Int}(hd:rB d s)(hs:d≤65536){X:List T3}(hX:∀x∈X,PF d s x)(hXl:X.length≤1000000):∀(q i:Nat) (cs:List (T3×Nat)) (ks:List (List Int)) (vs:List Bool),i≤X.length→X.length-i<q→ks.length=vs.length→vO d s cs→
  (∀x,fO false (zU x) ks vs=true↔kS s cs x)→(∀x∈X.take i,kS s cs x)→
  ∃cs',vO d s cs'∧(∀x∈X,kS s cs' x)∧Tl s (X.drop i) cs cs'∧∀{R:Type} (K:List (List Int)→Option R),Q43.l23 N q (X.length:Int) (i:Int) ks vs (zP s cs) (iB X) K=K (zP s cs'):=by
 intro q;induction q with
 |zero=>intro i cs ks vs h1 h2;omega
 |succ q ih=>
  intro i cs ks vs h1 h2 h3 hT hseen hdone;by_cases hi:i<X.length
  ·obtain⟨g1,g2,g3⟩:=gZ hi;have hl:=bC X;have c1:decide ((i:Int)<(X.length:Int))=true:=decide_eq_true (by omega);have c2:decide (0≤(i:Int))=true:=decide_eq_true (by omega);have c3:decide ((i:Int)<((iB X).length/3:Int))=true:=decide_eq_true (by omega);have w:aA ((i:Int)+1)=((i+1:Nat):Int):=by rw[mA (by omega) (by omega)];simp
   have htake:∀cs':List (T3×Nat),(∀x,kS s cs x→kS s cs' x)→kS s cs' X[i]→∀x∈X.take (i+1),kS s cs' x:=by
    intro cs' hsub hx x hxm;rw[List.take_add_one,b5 hi]at hxm;rcases hK.mp hxm with h|h
    ·exact hsub x (hdone x h)
    ·simp at h;rw[h];exact hx
   have hrow:([X[i].1,X[i].2.1,X[i].2.2]:List Int)=zU X[i]:=rfl;cases hb:fO false (zU X[i]) ks vs with
   |true=>obtain⟨cs',r1,r2,r4,r3⟩:=ih (i+1) cs ks vs (by omega) (by omega) h3 hT hseen (htake cs (fun _ h=>h) ((hseen _).mp hb));refine⟨cs',r1,r2,by rw[u2 hi];exact Tl.skip ((hseen _).mp hb) r4,fun K=>?_⟩;rw[Q43.l23];simp only[c1,c2,c3,cond_true,zE,pC,g1,g2,g3,hrow,sW,hb,w];exact r3 K
   |false=>
    have hx:=hX X[i] (q7 hi);obtain⟨m,m1,m2,m3⟩:=nO hN hd hs hx.1;have hno:¬kS s cs X[i]:=fun h=>by rw[(hseen _).mpr h]at hb;cases hb
    have hT':=hT.add hd hx m2 m1 hno;obtain⟨ks',vs',s1,s2,s3⟩:=ej N (s:=s) (z:=X[i]) (m:=m) (by omega) N 0 ks vs (by omega) (by omega) h3;have hin:∀x,kS s (cs++[(X[i],m)]) x↔kS s cs x∨∃j,0≤j∧j<m∧x=fD s X[i] j:=by
     intro x;constructor
     ·rintro⟨p,hp,j,j1,j2⟩;rcases hK.mp hp with hp|hp
      ·exact .inl ⟨p,hp,j,j1,j2⟩
      ·rw[hS.mp hp]at j1 j2;exact .inr ⟨j,Nat.zero_le _,j1,j2⟩
     ·rintro(⟨p,hp,j,j1,j2⟩|⟨j,_,j1,j2⟩)
      ·exact⟨p,hK.mpr (.inl hp),j,j1,j2⟩
      ·exact⟨(X[i],m),by simp,j,j1,j2⟩
    obtain⟨cs',r1,r2,r4,r3⟩:=ih (i+1) (cs++[(X[i],m)]) ks' vs' (by omega) (by omega) s1 hT' (fun x=>by
     rw[s2,hseen,hin];constructor
     ·rintro(h|⟨j,j0,j1,j2⟩)
      ·exact .inl h
      ·exact .inr ⟨j,j0,j1,cm j2⟩
     ·rintro(h|⟨j,j0,j1,j2⟩)
      ·exact .inl h
      ·exact .inr ⟨j,j0,j1,by rw[j2]⟩) (htake _ (fun x h=>(hin x).mpr (.inl h)) ((hin _).mpr (.inr ⟨0,s4 _,m2.pos,rfl⟩)))
    refine⟨cs',r1,r2,by rw[u2 hi];exact Tl.add hno m2 r4,fun K=>?_⟩;have hfl:=vG s X[i] m;have e0:((gE s X[i] m).length/3:Int)=(m:Int):=by omega
    have hcl:=hT.short hd hs;have hro:kB ((zP s cs).length+1) 24=true:=eG (by unfold zP;simp;omega);have ec:zP s cs++[gE s X[i] m]=zP s (cs++[(X[i],m)]):=by unfold zP;simp
    rw[Q43.l23];simp only[c1,c2,c3,cond_true,zE,pC,g1,g2,g3,hrow,sW,hb,cond_false,m3,hA,e0];have s3':=s3 (R:=_) (X.length:Int) (i:Int) (zP s cs) (iB X) (fun y56 y57 y58 y59 y60 y61 y62=>
      bif kB (y60.length+1) 24 then
       Q43.l23 N q y56 (aA (y57+1)) y58 y59 (y60++[y61]) y62 K
      else none)
    rw[p7]at s3';rw[s3'];simp only[hro,cond_true,w,ec];exact r3 K
  ·refine⟨cs,hT,fun x hx=>hdone x ?_,by rw[ae (by omega)];exact Tl.nil,fun K=>?_⟩
   ·rw[List.take_of_length_le (by omega)];exact hx
   ·rw[Q43.l23,decide_eq_false (by omega),cond_false]
theorem pL {d s:Int}(hd:rB d s)(hs:d≤65536):0≤s∧s≤256:=by
 have h0:=hd.root.s0;refine⟨h0,?_⟩;have lo:=hd.root.lo;have:=qR h0 (show(0:Int)≤257 by decide) (show s*s<257*257 by omega);omega
theorem iy {d s a b c:Int}(hd:rB d s)(h:zF d a b c):d%4=0∨d%4=1:=by
 have h1:=hd.d1;have h2:=xV h (by omega);rw[hM (by omega)]at h2;omega
theorem xZ {N:Nat}(hN:8589934600<N){d s:Int}(hd:rB d s):Q1.f N d=some s:=by
 obtain⟨r,hr,r1,_⟩:=vD hN hd.d1 hd.d2;have:=hr.unique hd.root;subst this;exact r1
theorem gb {N:Nat}(hN:8589934600<N){d s a b c:Int}(hd:rB d s)(hg:zF d a b c)(hs:d≤65536):∃cs Z,vO d s cs∧(∀x,PF d s x→kS s cs x)∧Z.Pairwise (fun a b=>gP a b=true)∧(∀x,x∈Z↔PF d s x)∧Tl s Z [] cs∧Q43.f N d=some (zP s cs,0):=by
 obtain⟨s0,s1⟩:=pL hd hs;have h4:=iy hd hg;have hd1:=hd.d1;have t:Int.tmod d 2=d%2:=hM (by omega);have w:aA (2-Int.tmod d 2)=2-d%2:=by rw[t,mA (by omega) (by omega)]
 have hi:=hd.root.hi;have s2:1≤s:=by
  rcases aE 0 s with h|h
  ·omega
  ·have:s=0:=by omega
   subst this;omega
 obtain⟨Y,y1,y2,y3,y4⟩:=di hN hd hs s1 N (2-d%2) [] (by omega) (by
  rcases(show d%2=0∨d%2=1 by omega)with e|e
  ·rw[e];omega
  ·rw[e];omega) (by omega) (by omega) (by simp;omega)
 have hmem:∀x,x∈kG Y↔x∈Y:=fun x=>(sK Y).mem_iff;have hlen:=gK Y;obtain⟨cs,c1,c2,c4,c3⟩:=er hN hd hs (X:=kG Y) (fun x hx=>y1 x ((hmem x).mp hx)) (by omega) N 0 [] [] [] (by omega) (by omega) rfl ⟨by simp,by simp,by simp,List.Pairwise.nil⟩ (fun x=>by
  constructor
  ·intro h;cases h
  ·rintro⟨p,hp,_⟩;cases hp) (by simp)
 have hpf:∀x,PF d s x→x∈kG Y:=fun x hx=>(hmem x).mpr (y2 x hx (by
  have hr:=hx.1.2.1;have hdc:=hx.1.1.disc;rcases(show d%2=0∨d%2=1 by omega)with e|e
  ·rcases(show x.2.1=1∨2≤x.2.1 by omega)with q|q
   ·rw[q]at hdc;have e2:4*x.1*x.2.2=4*(x.1*x.2.2):=by grind
    omega
   ·omega
  ·omega))
 rw[List.drop_zero]at c4;refine⟨cs,kG Y,c1,fun x hx=>c2 x (hpf x hx),iK Y,fun x=>⟨fun h=>y1 x ((hmem x).mp h),hpf x⟩,c4,?_⟩
 ·unfold Q43.f;rw[decide_eq_false (show ¬d>65536 by omega),cond_false,(tG hN hd hg).1,hA,hV,cond_false,xZ hN hd,hA,w];have y4':=y4 (R:=List (List Int)×Int) (fun y31=>
   (Q41.f N y31).bind fun r32=>
   Q43.l23 N N (r32.length/3:Int) 0 [] [] [] r32
    (fun y64=>
     some (y64,0)))
  have e0:iB ([]:List T3)=[]:=rfl;rw[e0,List.nil_append]at y4';rw[y4'];have hb:Nat.blt (iB Y).length 4611686018427387904=true:=by rw[bC];exact Nat.ble_eq_true_of_le (show Y.length*3+1≤4611686018427387904 by omega)
  have hsort:Q41.f N (iB Y)=some (iB (kG Y)):=by unfold Q41.f;rw[hb,cond_true];unfold qO;rw[kR]
  rw[hsort,hA];have el:((iB (kG Y)).length/3:Int)=((kG Y).length:Int):=by rw[bC];omega
  have c3':=c3 (R:=List (List Int)×Int) (fun y64=>some (y64,0));have e1:zP s []=[]:=rfl;rw[e1,p7]at c3';rw[el,c3']
theorem ff {x y:Int}(x0:0≤x)(x1:x≤65536)(y0:0≤y)(y1:y≤65536):dP .i64 (vL .i64 x y) 1=(x+y)%2:=by
 obtain⟨a,rfl⟩:=e6 x0;obtain⟨b,rfl⟩:=e6 y0;have t1:(BitVec.ofInt 64 (a:Int)).toNat=a:=by simp[q6];omega
 have t2:(BitVec.ofInt 64 (b:Int)).toNat=b:=by simp[q6];omega
 have e:(BitVec.ofInt 64 (a:Int)^^^BitVec.ofInt 64 (b:Int)).toNat=a^^^b:=by rw[BitVec.toNat_xor,t1,t2]
 have hlt:a^^^b<2^17:=Nat.xor_lt_two_pow (by omega) (by omega);have hx:vL .i64 (a:Int) (b:Int)=((a^^^b:Nat):Int):=by show IntKind.wrap .i64 ((BitVec.ofInt 64 (a:Int)^^^BitVec.ofInt 64 (b:Int)).toNat:Int)=_;rw[e];have w:IntKind.wrap .i64 ((a^^^b:Nat):Int)=aA ((a^^^b:Nat):Int):=rfl;rw[w,mA (by omega) (by omega)]
 rw[hx];have hm:(a^^^b)%2=(a+b)%2:=by
  have h:=Nat.xor_mod_two_pow (a:=a) (b:=b) (n:=1);rw[Nat.pow_one]at h;rw[h];rcases(show a%2=0∨a%2=1 by omega)with e1|e1<;>rcases(show b%2=0∨b%2=1 by omega)with e2|e2<;>rw[e1,e2]
  ·show 0=_;omega
  ·show 1=_;omega
  ·show 1=_;omega
  ·show 0=_;omega
 generalize a^^^b=v at hlt hm;have t3:(BitVec.ofInt 64 (v:Int)).toNat=v:=by simp[q6];omega
 have t4:(BitVec.ofInt 64 (1:Int)).toNat=1:=by decide
 have e2:(BitVec.ofInt 64 (v:Int)&&& BitVec.ofInt 64 (1:Int)).toNat=v%2:=by rw[BitVec.toNat_and,t3,t4,Nat.and_one_is_mod]
 show IntKind.wrap .i64 ((BitVec.ofInt 64 (v:Int)&&& BitVec.ofInt 64 (1:Int)).toNat:Int)=_;rw[e2,hm];have w:IntKind.wrap .i64 (((a+b)%2:Nat):Int)=aA (((a+b)%2:Nat):Int):=rfl;rw[w,mA (by omega) (by omega)];omega
theorem al {s:Int}{cs:List (T3×Nat)}{x:T3}{m:Nat}(hr:kE s x m):kS s (cs++[(x,m)]) x:=⟨(x,m),by simp,0,hr.pos,rfl⟩
theorem j7 {s:Int}{x:T3}{m n:Nat}(h:kE s x m)(k:kE s x n):m=n:=by
 rcases Nat.lt_trichotomy m n with q|q|q
 ·exact absurd h.back (k.least m h.pos q)
 ·exact q
 ·exact absurd k.back (h.least n k.pos q)
theorem Tl.dup {s:Int}{x:T3}{X:List T3}{cs c1:List (T3×Nat)}(h:Tl s (x::x::X) cs c1):Tl s (x::X) cs c1:=by
 cases h with
 |skip h k=>exact k
 |add h hr k=>
  cases k with
  |skip h2 k2=>exact .add h hr k2
  |add h2 hr2 k2=>exact absurd (al hr) h2
def gk (x y:T3):Prop:=x.1<y.1∨x.1=y.1∧x.2.1<y.2.1
theorem dV {s:Int}:∀(Z W:List T3) (cs c1 c2:List (T3×Nat)),Z.Pairwise (fun a b=>gP a b=true)→W.Pairwise gk→(∀x,x∈Z↔x∈W)→Tl s Z cs c1→Tl s W cs c2→c1=c2
 | [],W,cs,c1,c2,_,_,hm,h,k=>by
  have:W=[]:=by
   cases W with
   |nil=>rfl
   |cons w W=>have:=(hm w).mpr (by simp);cases this
  subst this;cases h;cases k;rfl
 |z::Z,[],cs,c1,c2,_,_,hm,h,k=>by have:=(hm z).mp (by simp);cases this
 |z::Z,w::W,cs,c1,c2,hz,hw,hm,h,k=>by
  have z1:=b7.mp hz;have w1:=b7.mp hw;have e:z=w:=by
   have h1:=(hm z).mp (by simp);have h2:=(hm w).mpr (by simp);rcases p5.mp h1 with h1|h1
   ·exact h1
   ·rcases p5.mp h2 with h2|h2
    ·exact h2.symm
    ·have a1:=(wF _ _).mp (z1.1 w h2);have a2:=w1.1 z h1;unfold gk at a2;omega
  subst e;by_cases hzz:z∈Z
  ·obtain⟨Z',rfl⟩:∃Z',Z=z::Z':=by
    cases Z with
    |nil=>cases hzz
    |cons y Z'=>
     have a1:=z1.1 y (by simp);have a2:gP y z=true:=by
      rcases p5.mp hzz with q|q
      ·subst q;rw[wF];omega
      ·exact(b7.mp z1.2).1 z q
     rw[rQ a1 a2];exact⟨Z',rfl⟩
   exact dV (z::Z') (z::W) cs c1 c2 z1.2 hw (fun x=>by rw[←hm];simp) h.dup k
  ·have hm':∀x,x∈Z↔x∈W:=fun x=>by
    have h0:=hm x;simp only[p5]at h0;have hzw:z∉W:=fun q=>by have:=w1.1 z q;unfold gk at this;omega
    constructor
    ·intro q;rcases h0.mp (.inr q)with r|r
     ·subst r;exact absurd q hzz
     ·exact r
    ·intro q;rcases h0.mpr (.inr q)with r|r
     ·subst r;exact absurd q hzw
     ·exact r
   cases h with
   |skip h1 k1=>
    cases k with
    |skip h2 k2=>exact dV Z W cs c1 c2 z1.2 w1.2 hm' k1 k2
    |add h2 r2 k2=>exact absurd h1 h2
   |add h1 r1 k1=>
    cases k with
    |skip h2 k2=>exact absurd h2 h1
    |add h2 r2 k2=>rw[j7 r1 r2]at k1;exact dV Z W _ c1 c2 z1.2 w1.2 hm' k1 k2
theorem dQ (N:Nat):∀(n m k:Nat),k<n→∀{R:Type} (K:Int→Option R),Q46.l3 N n (m:Int) (k:Int) K=K (Nat.gcd m k:Nat)
 |0,m,k,h,R,K=>by omega
 |n+1,m,k,h,R,K=>by
  rw[Q46.l3];cases k with
  |zero=>simp
  |succ k=>
   have h1:decide (((k+1:Nat):Int)>0)=true:=decide_eq_true (by omega);have h2:(((k+1:Nat):Int)==0)=false:=by simp;omega
   have h3:Int.tmod (m:Int) ((k+1:Nat):Int)=((m%(k+1):Nat):Int):=by rw[hM (by omega)];rfl
   rw[h1,h2,cond_true,hI,cond_true,h3,dQ N n (k+1) (m%(k+1)) (by have:=Nat.mod_lt m (show 0<k+1 by omega);omega)];rw[x7 m (k+1),Nat.gcd_rec (k+1) m,x7]
theorem jR {N:Nat}(hN:8589934600<N){a b:Int}(a0: -1073741824≤a)(a1:a≤1073741824)(b0: -1073741824≤b)(b1:b≤1073741824):Q46.f N a b=some ((Nat.gcd a.natAbs b.natAbs:Nat):Int):=by
 unfold Q46.f;rw[(xD N (x:=a) (by omega) (by omega)).2,(xD N (x:=b) (by omega) (by omega)).2];simp only[hA];rw[vM,vM,dQ N N _ _ (by omega)]
theorem dX {N:Nat}(hN:8589934600<N){a b c:Int}(a0: -1073741824≤a)(a1:a≤1073741824)(b0: -1073741824≤b)(b1:b≤1073741824)(c0: -1073741824≤c)(c1:c≤1073741824)(ha:a≠0):
  ∃g:Int,Q46.f N a b=some g∧∃h:Int,Q46.f N g c=some h∧(h==1)=decide (aI a b c):=by
 have hle:Nat.gcd a.natAbs b.natAbs≤a.natAbs:=Nat.le_of_dvd (by omega) (p6 _ _);refine⟨_,jR hN a0 a1 b0 b1,_,jR hN (by omega) (by omega) c0 c1,?_⟩;rw[Int.natAbs_natCast];have:=gU a b c;unfold g3 at this;rw[b9,beq_iff_eq,decide_eq_true_eq,←this];omega
theorem PF.bd {d s:Int}{x:T3}(h:PF d s x): -s≤x.1∧x.1≤s∧1≤x.2.1∧x.2.1≤s:=by
 obtain⟨r1,r2,r3,r4⟩:=h.1.2;rcases wA x.1 with⟨_,e⟩|⟨_,e⟩<;>rw[e]at r3 r4<;>omega
theorem PF.one {d s:Int}(hd:rB d s){x y:T3}(h:PF d s x)(k:PF d s y)(e1:x.1=y.1)(e2:x.2.1=y.2.1):x=y:=by
 have h1:=h.1.1.disc;have h2:=k.1.1.disc;have ha:=(h.1.1.ane hd).1;refine Prod.ext e1 (Prod.ext e2 ?_);rw[e1,e2]at h1;rw[e1]at ha;have:4*y.1*x.2.2=4*y.1*y.2.2:=by omega
 exact b6 (by omega) this
structure vK (d s a b:Int)(X:List T3):Prop where
 mem:∀x,x∈X↔PF d s x∧(x.1<a∨x.1=a∧x.2.1<b)
 up:X.Pairwise gk
theorem vK.len {d s a b:Int}(hd:rB d s)(hs:d≤65536){X:List T3}(h:vK d s a b X):X.length≤2672:=by
 have hn:X.Nodup:=h.up.imp fun{x y} q e=>by subst e;unfold gk at q;omega
 have:=sU X (rV d s) hn fun x hx=>yP hd hs ((h.mem x).mp hx).1.1;have:=xP d s;omega
theorem vK.skip {d s a b:Int}{X:List T3}(h:vK d s a b X)(hno:∀x,PF d s x→x.1=a→x.2.1=b→False):vK d s a (b+1) X where
 mem x:=by
  rw[h.mem];constructor
  ·rintro⟨h1,h2⟩;exact⟨h1,by omega⟩
  ·rintro⟨h1,h2⟩;refine⟨h1,?_⟩;rcases h2 with q|⟨q1,q2⟩
   ·exact .inl q
   ·refine .inr ⟨q1,?_⟩;by_cases e:x.2.1=b
    ·exact(hno x h1 q1 e).elim
    ·omega
 up:=h.up
theorem vK.add {d s a b c:Int}(hd:rB d s){X:List T3}(h:vK d s a b X)(hp:PF d s (a,b,c)):vK d s a (b+1) (X++[(a,b,c)]) where
 mem x:=by
  rw[hK,hS,h.mem];constructor
  ·rintro(⟨h1,h2⟩|rfl)
   ·exact⟨h1,by omega⟩
   ·exact⟨hp,.inr ⟨rfl,by simp only;omega⟩⟩
  ·rintro⟨h1,h2⟩;by_cases q:x.1=a∧x.2.1=b
   ·exact .inr (h1.one hd hp q.1 q.2)
   ·exact .inl ⟨h1,by omega⟩
 up:=by rw[cy];refine⟨h.up,x8 _ _,fun x hx y hy=>?_⟩;rw[hS.mp hy];have:=((h.mem x).mp hx).2;unfold gk;simp only;omega
theorem vK.next {d s a:Int}{X:List T3}(h:vK d s a (s+1) X):vK d s (a+1) 1 X where
 mem x:=by
  rw[h.mem];constructor
  ·rintro⟨h1,h2⟩;exact⟨h1,by omega⟩
  ·rintro⟨h1,h2⟩;have:=h1.bd;exact⟨h1,by omega⟩
 up:=h.up
theorem s6 {N:Nat}(hN:8589934600<N){d s a:Int}(hd:rB d s)(hs:d≤65536)(hs2:s≤256)(ha:a≠0)(ha1: -s≤a)(ha2:a≤s):∀(q:Nat) (b:Int) (X:List T3),1≤b→b≤s+1→s+1-b<q→vK d s a b X→
  ∃Y,vK d s a (s+1) Y∧∀{R:Type} (K:Int→Int→Int→List Int→Option R),Q48.l7 N q d s a b (iB X) K=K d s a (iB Y):=by
 intro q;induction q with
 |zero=>intro b X h1 h2 h3;omega
 |succ q ih=>
  intro b X h1 h2 h3 hX;by_cases hb:b≤s
  ·have hd1:=hd.d1;have hbb:=qH (show 0≤b by omega) hb;have lo:=hd.root.lo;have b0:=nG b;have w1:aA (b*b)=b*b:=mA (by omega) (by omega);have w2:aA (b*b-d)=b*b-d:=mA (by omega) (by omega);have w3:aA (4*a)=4*a:=mA (by omega) (by omega);have w4:aA (b+1)=b+1:=mA (by omega) (by omega);have c1:(a != 0)=true:=by rw[bne_iff_ne];exact ha
   have c2:(4*a==0)=false:=beq_eq_false_iff_ne.mpr (by omega);have hlen:=hX.len hd hs;by_cases hdv:4*a∣b*b-d
   ·obtain⟨c,hc⟩:=hdv;have e1:(Int.tmod (b*b-d) (4*a) != 0)=false:=by
     rw[bne_eq_false_iff_eq];exact r8 ⟨c,hc⟩
    have hcb: -65536≤c∧c≤65536:=by
     have h5:(4*a*c).natAbs≤65536:=by rw[←hc];omega
     rw[Int.natAbs_mul]at h5;have h6:c.natAbs≤(4*a).natAbs*c.natAbs:=Nat.le_mul_of_pos_left _ (by omega);omega
    have e2:aA (Int.tdiv (b*b-d) (4*a))=c:=by rw[hc,hL _ (by omega),mA (by omega) (by omega)]
    have hg:zF d a b c:=⟨by omega,by omega,by omega,by omega,by omega,by omega,by omega⟩
    have hrm:=(xH hN hd hg).2.1;obtain⟨g,hg1,h',hg2,hg3⟩:=dX hN (a:=a) (b:=b) (c:=c) (by omega) (by omega) (by omega) (by omega) (by omega) (by omega) ha;by_cases hp:PF d s (a,b,c)
    ·obtain⟨Y,y1,y2⟩:=ih (b+1) _ (by omega) (by omega) (by omega) (hX.add hd hp);refine⟨Y,y1,fun K=>?_⟩;have hred:decide (tL s a b)=true:=decide_eq_true hp.1.2;have hpr:decide (aI a b c)=true:=decide_eq_true hp.2;have hro:kB (((iB X).length+3)/3) 24=true:=eG (by rw[bC];omega);rw[Q48.l7];simp only[decide_eq_true hb,c1,w1,w2,w3,c2,e1,e2,hrm,hred,hA,hg1,hg2,hg3,hpr,hro,cond_true,cond_false,hI,w4];have ea:iB X++[a,b,c]=iB (X++[(a,b,c)]):=by rw[uI];rfl
     rw[ea];exact y2 K
    ·obtain⟨Y,y1,y2⟩:=ih (b+1) X (by omega) (by omega) (by omega) (hX.skip fun x hx e1 e2=>by
      have h5:=hx.1.1.disc;rw[e1,e2]at h5;have:4*a*x.2.2=4*a*c:=by omega
      have h6:=b6 (by omega) this;have:x=(a,b,c):=Prod.ext e1 (Prod.ext e2 h6);rw[this]at hx;exact hp hx)
     refine⟨Y,y1,fun K=>?_⟩;rw[Q48.l7];simp only[decide_eq_true hb,c1,w1,w2,w3,c2,e1,e2,hrm,hA,hg1,hg2,hg3,cond_true,cond_false,hI,w4];by_cases hr:tL s a b
     ·have hpr:decide (aI a b c)=false:=decide_eq_false fun k=>hp ⟨⟨hg,hr⟩,k⟩;rw[decide_eq_true hr,hpr];exact y2 K
     ·rw[decide_eq_false hr];exact y2 K
   ·obtain⟨Y,y1,y2⟩:=ih (b+1) X (by omega) (by omega) (by omega) (hX.skip fun x hx e1 e2=>by
     have h5:=hx.1.1.disc;rw[e1,e2]at h5;exact hdv ⟨x.2.2,by omega⟩)
    refine⟨Y,y1,fun K=>?_⟩;have e1:(Int.tmod (b*b-d) (4*a) != 0)=true:=by rw[bne_iff_ne];intro k;exact hdv (c8 k)
    rw[Q48.l7];simp only[decide_eq_true hb,c1,w1,w2,w3,c2,e1,cond_true,hI,w4];exact y2 K
  ·refine⟨X,?_,fun K=>?_⟩
   ·have:b=s+1:=by omega
    rw[←this];exact hX
   ·rw[Q48.l7,decide_eq_false hb,cond_false]
theorem jY {N:Nat}(hN:8589934600<N){d s:Int}(hd:rB d s)(hs:d≤65536)(hs2:s≤256)(hs0:1≤s):∀(q:Nat) (a:Int) (X:List T3), -s≤a→a≤s+1→s+1-a<q→vK d s a 1 X→
  ∃Y,vK d s (s+1) 1 Y∧∀{R:Type} (K:List Int→Option R),Q48.l4 N q d s a (iB X) K=K (iB Y):=by
 intro q;induction q with
 |zero=>intro a X h1 h2 h3;omega
 |succ q ih=>
  intro a X h1 h2 h3 hX;by_cases ha:a≤s
  ·have w:aA (a+1)=a+1:=mA (by omega) (by omega);by_cases h0:a=0
   ·subst h0;have hX1:vK d s 0 (s+1) X:=⟨fun x=>by
     rw[hX.mem];constructor
     ·rintro⟨k1,k2⟩;exact⟨k1,by omega⟩
     ·rintro⟨k1,k2⟩;have:=(k1.1.1.ane hd).1;exact⟨k1,by omega⟩,hX.up⟩
    obtain⟨Y,y1,y2⟩:=ih 1 X (by omega) (by omega) (by omega) (by have:=hX1.next;rwa[show(0:Int)+1=1 from rfl]at this);refine⟨Y,y1,fun K=>?_⟩;obtain⟨n,rfl⟩:∃n,N=n+1:=⟨N-1,by omega⟩
    rw[Q48.l4,decide_eq_true ha,cond_true,Q48.l7,decide_eq_true hs0];simp only[cond_true,bne_self_eq_false,cond_false,w];exact y2 K
   ·obtain⟨Z,z1,z2⟩:=s6 hN hd hs hs2 h0 h1 ha N 1 X (by omega) (by omega) (by omega) hX;obtain⟨Y,y1,y2⟩:=ih (a+1) Z (by omega) (by omega) (by omega) z1.next;refine⟨Y,y1,fun K=>?_⟩;rw[Q48.l4,decide_eq_true ha,cond_true,z2];simp only[w];exact y2 K
  ·refine⟨X,?_,fun K=>?_⟩
   ·have:a=s+1:=by omega
    rw[←this];exact hX
   ·rw[Q48.l4,decide_eq_false ha,cond_false]
theorem kW {N:Nat}(hN:8589934600<N){d s:Int}(hd:rB d s)(hs:d≤65536):∃W,W.Pairwise gk∧(∀x,x∈W↔PF d s x)∧W.length≤2672∧Q48.f N d=some (iB W):=by
 obtain⟨s0,s1⟩:=pL hd hs;have hd1:=hd.d1;have s2:1≤s:=by
  have hi:=hd.root.hi;rcases aE 0 s with h|h
  ·omega
  ·have:s=0:=by omega
   subst this;omega
 obtain⟨r,hr,_,r1⟩:=vD hN hd.d1 hd.d2;have:=hr.unique hd.root;subst this;have w:aA (0-r)= -r:=by rw[mA (by omega) (by omega)];omega
 obtain⟨W,h1,h2⟩:=jY hN hd hs s1 s2 N (-r) [] (by omega) (by omega) (by omega) ⟨fun x=>by
  constructor
  ·intro h;cases h
  ·rintro⟨k1,k2⟩;have:=k1.bd;omega,List.Pairwise.nil⟩
 refine⟨W,h1.up,fun x=>?_,h1.len hd hs,?_⟩
 ·rw[h1.mem];exact⟨fun h=>h.1,fun h=>⟨h,by have:=h.bd;omega⟩⟩
 ·unfold Q48.f;rw[r1];simp only[hA,w];exact h2 _
def Fl (s:Int)(W:List T3)(fs:List Bool)(S:T3→Prop):Prop:=fs.length=W.length∧∀j (h:j<W.length),fs.getD j false=true↔S W[j]
theorem dx (N:Nat){W:List T3}(hW:W.length≤2672){s:Int}{x:T3}:∀(q j:Nat) (fs:List Bool) (S:T3→Prop),j≤W.length→W.length-j<q→(fs.length=W.length∧∀k (h:k<W.length),fs.getD k false=true↔S W[k]∨(k<j∧W[k]=x))→
  ∃fs',Fl s W fs' (fun y=>S y∨y=x)∧∀{R:Type} (i:Int) (gs:List (List Int)) (cur:List Int) (K:List Int→Int→List (List Int)→List Bool→List Int→Int→Int→Int→Option R),Q49.l16 N q (iB W) i (j:Int) gs fs cur x.1 x.2.1 x.2.2 K=K (iB W) i gs fs' cur x.1 x.2.1 x.2.2:=by
 intro q;induction q with
 |zero=>intro j fs S h1 h2;omega
 |succ q ih=>
  intro j fs S h1 h2 hF;have el:((iB W).length/3:Int)=(W.length:Int):=by rw[bC];omega
  by_cases hj:j<W.length
  ·obtain⟨g1,g2,g3⟩:=gZ hj;have c1:decide ((j:Int)<(W.length:Int))=true:=decide_eq_true (by omega);have c2:decide (0≤(j:Int))=true:=decide_eq_true (by omega);have c3:decide ((j:Int)<(fs.length:Int))=true:=decide_eq_true (by rw[hF.1];omega);have w:aA ((j:Int)+1)=((j+1:Nat):Int):=by rw[mA (by omega) (by omega)];simp
   by_cases e:W[j]=x
   ·obtain⟨fs',f1,f2⟩:=ih (j+1) (fs.set j true) S (by omega) (by omega) ⟨by rw[k9];exact hF.1,fun k hk=>by
     rw[hB,k7];by_cases ejk:j=k
     ·subst ejk;rw[if_pos rfl,if_pos (by rw[hF.1];exact hj)];simp only[Option.getD_some,true_iff];exact .inr ⟨by omega,e⟩
     ·rw[if_neg ejk,←hB,hF.2 k hk];constructor
      ·rintro(h|⟨h1,h2⟩)
       ·exact .inl h
       ·exact .inr ⟨by omega,h2⟩
      ·rintro(h|⟨h1,h2⟩)
       ·exact .inl h
       ·exact .inr ⟨by omega,h2⟩⟩
    refine⟨fs',f1,fun i gs cur K=>?_⟩;rw[Q49.l16];simp only[el,c1,c2,c3,cond_true,zE,pC,g1,g2,g3,ir,decide_eq_true e,w];exact f2 i gs cur K
   ·obtain⟨fs',f1,f2⟩:=ih (j+1) fs S (by omega) (by omega) ⟨hF.1,fun k hk=>by
     rw[hF.2 k hk];constructor
     ·rintro(h|⟨h1,h2⟩)
      ·exact .inl h
      ·exact .inr ⟨by omega,h2⟩
     ·rintro(h|⟨h8,h9⟩)
      ·exact .inl h
      ·refine .inr ⟨?_,h9⟩;rcases b8 k j with q|q
       ·exact q
       ·have:k=j:=by omega
        subst this;exact absurd h9 e⟩
    refine⟨fs',f1,fun i gs cur K=>?_⟩;rw[Q49.l16];simp only[el,c1,c2,c3,cond_true,zE,pC,g1,g2,g3,ir,decide_eq_false e,cond_false,w];exact f2 i gs cur K
  ·refine⟨fs,⟨hF.1,fun k hk=>?_⟩,fun i gs cur K=>?_⟩
   ·rw[hF.2 k hk];constructor
    ·rintro(h|⟨h1,h2⟩)
     ·exact .inl h
     ·exact .inr h2
    ·rintro(h|h2)
     ·exact .inl h
     ·exact .inr ⟨by omega,h2⟩
   ·rw[Q49.l16,el,decide_eq_false (by omega),cond_false]
theorem fb {N:Nat}(hN:8589934600<N){d s:Int}(hd:rB d s)(hs:d≤65536){W:List T3}(hW:W.length≤2672){z:T3}(hz:kV d s z){i m:Nat}(hi:i<W.length)(hiz:W[i]=z)(hr:kE s z m)(hm:m≤2672):∀(q k:Nat) (fs:List Bool) (S:T3→Prop),k≤m→m-k<q→Fl s W fs (fun y=>S y∨∃t,t<k∧y=fD s z t)→
  ∃fs',Fl s W fs' (fun y=>S y∨∃t,t<m∧y=fD s z t)∧∀{R:Type} (gs:List (List Int)) (K:List Int→Int→List (List Int)→List Bool→List Int→Option R),Q49.l13 N q (iB W) (i:Int) gs fs (gE s z k) (fD s z k).1 (fD s z k).2.1 (fD s z k).2.2 K=K (iB W) (i:Int) gs fs' (gE s z m):=by
 intro q;induction q with
 |zero=>intro k fs S h1 h2;omega
 |succ q ih=>
  intro k fs S h1 h2 hF;have hl:=vG s z k;have el:((iB W).length/3:Int)=(W.length:Int):=by rw[bC];omega
  have ek:((gE s z k).length/3:Int)=(k:Int):=by rw[hl];omega
  have c1:decide ((i:Int)<(W.length:Int))=true:=decide_eq_true (by omega);have c2:decide (0≤(i:Int))=true:=decide_eq_true (by omega);obtain⟨g1,g2,g3⟩:=gZ hi;rw[hiz]at g1 g2 g3;have hro:kB (((gE s z k).length+3)/3) 24=true:=eG (by rw[hl];omega);have stay:k<m→∃fs',Fl s W fs' (fun y=>S y∨∃t,t<m∧y=fD s z t)∧∀{R:Type} (gs:List (List Int)) (K:List Int→Int→List (List Int)→List Bool→List Int→Option R),(Q49.l16 N N (iB W) (i:Int) 0 gs fs (gE s z k++[(fD s z k).1,(fD s z k).2.1,(fD s z k).2.2]) (fD s z k).1 (fD s z k).2.1 (fD s z k).2.2
     (fun y33 y34 y35 y36 y37 y38 y39 y40=>
      (Q21.f N y38 y39 y40).bind fun r41=>
      Q49.l13 N q y33 y34 y35 y36 y37 r41.1 r41.2.1 r41.2.2.1 K))=K (iB W) (i:Int) gs fs' (gE s z m):=by
   intro hk;obtain⟨fs1,f1,f2⟩:=dx N hW (s:=s) (x:=fD s z k) N 0 fs (fun y=>S y∨∃t,t<k∧y=fD s z t) (by omega) (by omega) ⟨hF.1,fun j hj=>by rw[hF.2 j hj];exact⟨.inl,fun h=>h.resolve_right fun q=>by omega⟩⟩;obtain⟨fs',f3,f4⟩:=ih (k+1) fs1 S (by omega) (by omega) ⟨f1.1,fun j hj=>by
    rw[f1.2 j hj];constructor
    ·rintro((h|⟨t,t1,t2⟩)|h)
     ·exact .inl h
     ·exact .inr ⟨t,by omega,t2⟩
     ·exact .inr ⟨k,by omega,h⟩
    ·rintro(h|⟨t,t1,t2⟩)
     ·exact .inl (.inl h)
     ·rcases b8 t k with q|q
      ·exact .inl (.inr ⟨t,q,t2⟩)
      ·have:t=k:=by omega
       subst this;exact .inr t2⟩
   refine⟨fs',f3,fun gs K=>?_⟩;have f2':=f2 (R:=_) (i:Int) gs (gE s z k++[(fD s z k).1,(fD s z k).2.1,(fD s z k).2.2]) (fun y33 y34 y35 y36 y37 y38 y39 y40=>
      (Q21.f N y38 y39 y40).bind fun r41=>
      Q49.l13 N q y33 y34 y35 y36 y37 r41.1 r41.2.1 r41.2.2.1 K)
   rw[p7]at f2';rw[f2',oX hN hd (zI hd hz k).1];simp only[hA];exact f4 gs K
  by_cases hk0:k=0
  ·obtain⟨fs',f1,f2⟩:=stay (by have:=hr.pos;omega);refine⟨fs',f1,fun gs K=>?_⟩;rw[Q49.l13];have:((k:Int)==0)=true:=by rw[hk0];rfl
   simp only[ek,this,cond_true,hro];exact f2 gs K
  ·have c3:((k:Int)==0)=false:=beq_eq_false_iff_ne.mpr (by omega);by_cases hkm:k<m
   ·obtain⟨fs',f1,f2⟩:=stay hkm;refine⟨fs',f1,fun gs K=>?_⟩;have hne:decide (fD s z k=z)=false:=decide_eq_false (hr.least k (by omega) hkm);rw[Q49.l13];simp only[ek,c3,cond_false,el,c1,c2,zE,cond_true,pC,g1,g2,g3,ir,hne,hI,hro];exact f2 gs K
   ·have e:k=m:=by omega
    subst e;refine⟨fs,hF,fun gs K=>?_⟩;have hne:decide (fD s z k=z)=true:=decide_eq_true hr.back;rw[Q49.l13];simp only[ek,c3,cond_false,el,c1,c2,zE,cond_true,pC,g1,g2,g3,ir,hne,hV]
theorem ee {N:Nat}(hN:8589934600<N){d s:Int}(hd:rB d s)(hs:d≤65536){W:List T3}(hW:W.length≤2672)(hWp:∀x∈W,PF d s x):∀(q i:Nat) (cs:List (T3×Nat)) (fs:List Bool),i≤W.length→W.length-i<q→vO d s cs→Fl s W fs (kS s cs)→
  ∃cs',vO d s cs'∧Tl s (W.drop i) cs cs'∧∀{R:Type} (K:List (List Int)→Option R),Q49.l8 N q (iB W) (i:Int) (zP s cs) fs K=K (zP s cs'):=by
 intro q;induction q with
 |zero=>intro i cs fs h1 h2;omega
 |succ q ih=>
  intro i cs fs h1 h2 hT hF;have el:((iB W).length/3:Int)=(W.length:Int):=by rw[bC];omega
  by_cases hi:i<W.length
  ·obtain⟨g1,g2,g3⟩:=gZ hi;have c1:decide ((i:Int)<(W.length:Int))=true:=decide_eq_true (by omega);have c2:decide (0≤(i:Int))=true:=decide_eq_true (by omega);have c3:decide ((i:Int)<(fs.length:Int))=true:=decide_eq_true (by rw[hF.1];omega);have w:aA ((i:Int)+1)=((i+1:Nat):Int):=by rw[mA (by omega) (by omega)];simp
   cases hb:fs.getD i false with
   |true=>obtain⟨cs',r1,r2,r3⟩:=ih (i+1) cs fs (by omega) (by omega) hT hF;refine⟨cs',r1,by rw[u2 hi];exact Tl.skip ((hF.2 i hi).mp hb) r2,fun K=>?_⟩;rw[Q49.l8];simp only[el,c1,c2,c3,cond_true,zE,pC,hb,w];exact r3 K
   |false=>
    have hx:=hWp W[i] (q7 hi);obtain⟨m,m1,m2,m3⟩:=nO hN hd hs hx.1;have hno:¬kS s cs W[i]:=fun h=>by rw[(hF.2 i hi).mpr h]at hb;cases hb
    have hT':=hT.add hd hx m2 m1 hno;obtain⟨fs',f1,f2⟩:=fb hN hd hs hW hx.1 hi rfl m2 m1 N 0 fs (kS s cs) (by omega) (by omega) ⟨hF.1,fun j hj=>by rw[hF.2 j hj];exact⟨.inl,fun h=>h.resolve_right fun⟨t,t1,_⟩=>by omega⟩⟩;have hin:∀x,kS s (cs++[(W[i],m)]) x↔kS s cs x∨∃j,j<m∧x=fD s W[i] j:=by
     intro x;constructor
     ·rintro⟨p,hp,j,j1,j2⟩;rcases hK.mp hp with hp|hp
      ·exact .inl ⟨p,hp,j,j1,j2⟩
      ·rw[hS.mp hp]at j1 j2;exact .inr ⟨j,j1,j2⟩
     ·rintro(⟨p,hp,j,j1,j2⟩|⟨j,j1,j2⟩)
      ·exact⟨p,hK.mpr (.inl hp),j,j1,j2⟩
      ·exact⟨(W[i],m),by simp,j,j1,j2⟩
    obtain⟨cs',r1,r2,r3⟩:=ih (i+1) (cs++[(W[i],m)]) fs' (by omega) (by omega) hT' ⟨f1.1,fun j hj=>by rw[f1.2 j hj,hin]⟩;refine⟨cs',r1,by rw[u2 hi];exact Tl.add hno m2 r2,fun K=>?_⟩;have hcl:=hT.short hd hs;have hro:kB ((zP s cs).length+1) 24=true:=eG (by unfold zP;simp;omega);have ec:zP s cs++[gE s W[i] m]=zP s (cs++[(W[i],m)]):=by unfold zP;simp
    have f2':=f2 (R:=_) (zP s cs) (fun y56 y57 y58 y59 y60=>
       bif kB (y58.length+1) 24 then
        Q49.l8 N q y56 (aA (y57+1)) (y58++[y60]) y59 K
       else none)
    rw[Q49.l8];simp only[el,c1,c2,c3,cond_true,zE,pC,hb,cond_false,g1,g2,g3];refine Eq.trans f2' ?_;simp only[hro,cond_true,w,ec];exact r3 K
  ·refine⟨cs,hT,by rw[ae (by omega)];exact Tl.nil,fun K=>?_⟩;rw[Q49.l8,el,decide_eq_false (by omega),cond_false]
theorem ef {n:Nat}(h:n≤2000000):kB n 1=true:=by simp only[kB,decide_eq_true_eq];omega
theorem w8 {N:Nat}(hN:8589934600<N){d s a b c:Int}(hd:rB d s)(hg:zF d a b c)(hs:d≤65536):∃cs,vO d s cs∧Q43.f N d=some (zP s cs,0)∧Q49.f N d=some (zP s cs,0):=by
 obtain⟨cs,Z,h1,h2,h3,h4,h5,h6⟩:=gb hN hd hg hs;obtain⟨W,w1,w2,w3,w4⟩:=kW hN hd hs;obtain⟨cs',r1,r2,r3⟩:=ee hN hd hs w3 (fun x hx=>(w2 x).mp hx) N 0 [] (List.replicate W.length false) (by omega) (by omega) ⟨by simp,by simp,by simp,List.Pairwise.nil⟩ ⟨by simp,fun j hj=>by
  constructor
  ·intro h;rw[hB,List.getElem?_replicate]at h;split at h<;>cases h
  ·rintro⟨p,hp,_⟩;cases hp⟩
 rw[List.drop_zero]at r2;have e:=dV Z W [] cs cs' h3 w1 (fun x=>by rw[h4,w2]) h5 r2;subst e;refine⟨cs,h1,h6,?_⟩;have el:((iB W).length/3:Int)=(W.length:Int):=by rw[bC];omega
 unfold Q49.f;rw[(tG hN hd hg).2,w4];simp only[hA,hV,cond_false,decide_eq_false (show ¬d>65536 by omega),el,pC];have c:(decide True&&decide (0≤(W.length:Int))&&decide ((W.length:Int)≤9223372036854775807)&&kB W.length 1)=true:=by rw[ef (by omega),decide_eq_true (show 0≤(W.length:Int) by omega),decide_eq_true (show(W.length:Int)≤9223372036854775807 by omega)];simp
 rw[c,cond_true];have r3':=r3 (R:=List (List Int)×Int) (fun y62=>some (y62,0));exact r3'
theorem iR {N:Nat}(hN:8589934600<N){d s a b c:Int}(hd:rB d s)(hg:zF d a b c)(hs:d≤65536):∃b c:Int,Q44.f N d=some (1,b,c,0)∧Q47.f N d=some (1,b,c,0):=by
 obtain⟨s0,s1⟩:=pL hd hs;have hd1:=hd.d1;obtain⟨r,hr,_,r1⟩:=vD hN hd.d1 hd.d2;have:=hr.unique hd.root;subst this;have hx:=ff s0 (by omega) (show 0≤d by omega) hs;have ws:aA (r-d)=r-d:=mA (by omega) (by omega);have cyc1:Q44.f N d=some (1,r- (r+d)%2,aA (Int.tdiv (aA (aA ((r- (r+d)%2)*(r- (r+d)%2))-d)) 4),0):=by have w1:aA (r- (r+d)%2)=r- (r+d)%2:=mA (by omega) (by omega);unfold Q44.f;rw[decide_eq_false (show ¬d>65536 by omega),cond_false,(tG hN hd hg).1,hA,hV,cond_false,xZ hN hd,hA,hx,w1]
 refine⟨_,_,cyc1,?_⟩;unfold Q47.f;rw[(tG hN hd hg).2];simp only[hA,hV,cond_false,decide_eq_false (show ¬d>65536 by omega),r1,ws];by_cases hp:(r-d)%2=0
 ·have:(Int.tmod (r-d) 2 != 0)=false:=by
   rw[bne_eq_false_iff_eq];exact r8 (c6 hp)
  rw[this,cond_false,show(r+d)%2=0 by omega,Int.sub_zero]
 ·have:(Int.tmod (r-d) 2 != 0)=true:=by
   rw[bne_iff_ne];intro k;exact hp (k8 (c8 k))
  rw[this,cond_true,show(r+d)%2=1 by omega,mA (n:=r-1) (by omega) (by omega)]
theorem cW (N:Nat){l:List Int}{m:Nat}(hl:l.length=m*3)(hm:m≤100000){T:Type}(k0:Unit→Option T)(kr:Bool→Option T):∀(n i:Nat),i≤m→m-i<n→Q27.l4 N n l l (m:Int) (i:Int) k0 kr=k0 ()
 |0,i,_,h=>by omega
 |n+1,i,hi,hn=>by
  have el:((l.length)/3:Int)=(m:Int):=by rw[hl];omega
  rw[Q27.l4];by_cases h:i<m
  ·have c0:decide (0≤(i:Int))=true:=decide_eq_true (by omega);have c1:decide ((i:Int)<(m:Int))=true:=decide_eq_true (by omega);have w:aA ((i:Int)+1)=((i+1:Nat):Int):=by rw[mA (by omega) (by omega)];simp
   simp only[el,c0,c1,zE,cond_true,beq_self_eq_true,hV,cond_false,w];exact cW N hl hm k0 kr n (i+1) (by omega) (by omega)
  ·rw[decide_eq_false (show ¬(i:Int)<(m:Int) by omega),cond_false]
theorem fm {N:Nat}(hN:1000000<N){l:List Int}{m:Nat}(hl:l.length=m*3)(hm:m≤100000):Q27.f N l l=some true:=by
 have el:((l.length)/3:Int)=(m:Int):=by rw[hl];omega
 unfold Q27.f;rw[el];simp only[bne_self_eq_false,cond_false];exact cW N hl hm _ _ N 0 (by omega) (by omega)
structure tN (G:List (List Int)):Prop where
 len:G.length≤100000
 row:∀r∈G,∃m,m≤100000∧r.length=m*3
theorem tN.at {G:List (List Int)}(h:tN G){i:Nat}(hi:i<G.length):∃m,m≤100000∧(G.getD i []).length=m*3:=by
 rw[hB,b5 hi];exact h.row _ (q7 hi)
theorem eK (G:List (List Int))(i:Nat):G.set i (G.getD i [])=G:=by
 refine List.ext_getElem? fun j=>?_;rw[k7];by_cases e:i=j
 ·subst e;rw[if_pos rfl,hB];by_cases h:i<G.length
  ·rw[if_pos h,b5 h];rfl
  ·rw[if_neg h,bs (by omega)]
 ·rw[if_neg e]
structure sT (G Z:List (List Int))(i:Nat):Prop where
 len:Z.length=G.length
 each:∀j,(Z.getD j []).length=(G.getD j []).length
 same:∀j,i≤j→Z.getD j []=G.getD j []
theorem sT.set {G Z:List (List Int)}{i:Nat}(h:sT G Z (i+1)){r:List Int}(hr:r.length=(Z.getD i []).length):sT G (Z.set i r) (i+1) where
 len:=by rw[k9];exact h.len
 each j:=by
  rw[←h.each j];simp only[hB]at hr⊢;rw[k7];by_cases e:i=j
  ·subst e;rw[if_pos rfl];by_cases hi:i<Z.length
   ·rw[if_pos hi,Option.getD_some,hr]
   ·rw[if_neg hi,bs (by omega)]
  ·rw[if_neg e]
 same j hj:=by rw[←h.same j hj];simp only[hB];rw[cx (by omega)]
theorem sT.drop {G Z:List (List Int)}{i:Nat}(h:sT G Z i):sT G Z (i+1):=⟨h.len,h.each,fun j hj=>h.same j (by omega)⟩
theorem cg (N:Nat){G:List (List Int)}{i m:Nat}(hi:i<G.length)(hG:tN G)(hm:m≤100000)(hl:(G.getD i []).length=m*3)(A:List (List Int))(n1 n2:Int)(Y:List (List Int)){T:Type}(k2:List (List Int)→Int→Int→Int→List (List Int)→List (List Int)→Option T)(r:T)(hk:∀Z,sT G Z (i+1)→k2 A (i:Int) n1 n2 Z Y=some r):∀(n j:Nat) (Z:List (List Int)),sT G Z (i+1)→j≤m→m-j<n→
  Q50.l14 N n A (i:Int) n1 n2 (m:Int) (j:Int) Z Y k2=some r
 |0,j,_,_,_,h=>by omega
 |n+1,j,Z,hZ,hj,hn=>by
  have:=hG.len;rw[Q50.l14];by_cases h:j<m
  ·have c0:decide (0≤(i:Int))=true:=decide_eq_true (by omega);have c1:decide ((i:Int)<(Z.length:Int))=true:=decide_eq_true (by rw[hZ.len];omega);have c2:decide (0≤(j:Int))=true:=decide_eq_true (by omega);have c3:decide ((j:Int)<(m:Int))=true:=decide_eq_true (by omega);have el:(((Z.getD i []).length)/3:Int)=(m:Int):=by rw[hZ.each,hl];omega
   have w:aA ((j:Int)+1)=((j+1:Nat):Int):=by rw[mA (by omega) (by omega)];simp
   simp only[c0,c1,c2,c3,zE,cond_true,pC,el,w];exact cg N hi hG hm hl A n1 n2 Y k2 r hk n (j+1) _ (hZ.set (by simp only[k9])) (by omega) (by omega)
  ·rw[decide_eq_false (show ¬(j:Int)<(m:Int) by omega),cond_false];exact hk Z hZ
theorem lW {N:Nat}(hN:1000000<N){G:List (List Int)}(hG:tN G){T:Type}(k0:List (List Int)→List (List Int)→List (List Int)→Option T)(kr:Bool→Option T)(r:T)(hk:∀Z:List (List Int),Z.length=G.length→k0 G Z G=some r):∀(n i:Nat) (Z:List (List Int)),sT G Z i→i≤G.length→G.length-i<n→
  Q50.l9 N n G (G.length:Int) (i:Int) Z G k0 kr=some r
 |0,i,_,_,_,h=>by omega
 |n+1,i,Z,hZ,hi,hn=>by
  have hgl:=hG.len;rw[Q50.l9];by_cases h:i<G.length
  ·have c0:decide (0≤(i:Int))=true:=decide_eq_true (by omega);have c1:decide ((i:Int)<(G.length:Int))=true:=decide_eq_true (by omega);have c2:decide ((i:Int)<(Z.length:Int))=true:=decide_eq_true (by rw[hZ.len];omega);obtain⟨m,hm,hl⟩:=hG.at h;have hs:=fm hN hl hm;have hz:Z.getD i []=G.getD i []:=hZ.same i (s4 _);have e4:(((G.getD i []).length)/3:Int)=(m:Int):=by rw[hl];omega
   have w:aA ((i:Int)+1)=((i+1:Nat):Int):=by rw[mA (by omega) (by omega)];simp
   have e3:aA ((m:Int)+1)=(m:Int)+1:=mA (by omega) (by omega);rw[eK,eK,eK];simp only[c0,c1,c2,zE,cond_true,pC,hz,hs,hA,hV,cond_false,e4];have:=cg N h hG hm hl G (G.length:Int) (i:Int) G (fun y30 y31 y32 y33 y34 y35=>
          bif (decide (0≤y31))&&(decide (y31<(y34.length:Int)))then
           bif kB ((((y34.getD y31.toNat []).length)+3)/3) 24 then
            bif (decide (0≤y31))&&(decide (y31<(y30.length:Int)))then
             bif ((((y34.getD y31.toNat []).length)+3)/3:Int) != (aA ((((y30.getD y31.toNat []).length)/3:Int)+1))then
              kr false
             else
             bif (decide (0≤y31))&&(decide (y31<(y35.length:Int)))then
              bif (decide (0≤y31))&&(decide (y31<(y30.length:Int)))then
               (Q27.f N (y35.getD y31.toNat []) (y30.getD y31.toNat [])).bind fun r36=>
               bif !r36 then
                kr false
               else
               Q50.l9 N n y30 y32 (aA (y33+1)) (y34.set y31.toNat (y34.getD y31.toNat [])) (y35.set y31.toNat (y35.getD y31.toNat [])) k0 kr
              else none
             else none
            else none
           else none
          else none) r (fun Z' hZ'=>by
    have d2:decide ((i:Int)<(Z'.length:Int))=true:=decide_eq_true (by rw[hZ'.len];omega);have hz':=hZ'.each i;rw[hl]at hz';have hro:kB (((Z'.getD i []).length+3)/3) 24=true:=eG (by rw[hz'];omega);have e1:((((Z'.getD i []).length)+3)/3:Int)=(m:Int)+1:=by rw[hz'];omega
    simp only[c0,c1,d2,zE,cond_true,pC,hro,e1,e4,e3,bne_self_eq_false,cond_false,hs,hA,hV,w,eK];exact lW hN hG k0 kr r hk n (i+1) Z' hZ' (by omega) (by omega)) N 0 Z hZ.drop (by omega) (by omega)
   exact this
  ·rw[decide_eq_false (show ¬(i:Int)<(G.length:Int) by omega),cond_false];exact hk Z hZ.len
theorem bT {N:Nat}(hN:1000000<N){G:List (List Int)}(hG:tN G){T:Type}(k4:Unit→Option T)(kr:Bool→Option T):∀(n i:Nat),i≤G.length→G.length-i<n→
  Q50.l23 N n G (G.length:Int) (i:Int) G k4 kr=k4 ()
 |0,i,_,h=>by omega
 |n+1,i,hi,hn=>by
  have hgl:=hG.len;rw[Q50.l23];by_cases h:i<G.length
  ·have c0:decide (0≤(i:Int))=true:=decide_eq_true (by omega);have c1:decide ((i:Int)<(G.length:Int))=true:=decide_eq_true (by omega);obtain⟨m,hm,hl⟩:=hG.at h;have hs:=fm hN hl hm;have w:aA ((i:Int)+1)=((i+1:Nat):Int):=by rw[mA (by omega) (by omega)];simp
   simp only[c0,c1,zE,cond_true,pC,hs,hA,hV,cond_false,w,eK];exact bT hN hG k4 kr n (i+1) (by omega) (by omega)
  ·rw[decide_eq_false (show ¬(i:Int)<(G.length:Int) by omega),cond_false]
theorem y9 {d s:Int}(hd:rB d s)(hs:d≤65536){cs:List (T3×Nat)}(h:vO d s cs):tN (zP s cs):=by
 refine⟨by unfold zP;rw[c9];have:=h.short hd hs;omega,fun r hr=>?_⟩;unfold zP at hr;obtain⟨p,hp,rfl⟩:=r7.mp hr;exact⟨p.2,by have:=h.le p hp;omega,vG _ _ _⟩
abbrev NN:Nat:=8589934700
theorem kN {d:Int}{G:List (List Int)}{e b1 b2 b3:Int}(hG:tN G)(h1:Q44.f NN d=some (b1,b2,b3,e))(h2:Q47.f NN d=some (b1,b2,b3,e))(h3:Q43.f NN d=some (G,e))(h4:Q49.f NN d=some (G,e)):Q50.f NN d=some true:=by
 unfold Q50.f;rw[h1,h2,h3,h4];simp only[hA,beq_self_eq_true,zE,hV,cond_false,bne_self_eq_false,zY];have:=lW (N:=NN) (by decide) hG (fun y40 y41 y42=>
   Q50.l23 NN NN y40 (y41.length:Int) 0 y42
    (fun(_:Unit)=>
     some true)
    (fun y49=>
     some y49)) (fun y50=>some y50) true (fun Z hz=>by
  simp only[hz];exact bT (by decide) hG _ _ NN 0 (by omega) (by have:=hG.len;unfold NN;omega)) NN 0 G ⟨rfl,fun _=>rfl,fun _ _=>rfl⟩ (by omega) (by have:=hG.len;unfold NN;omega)
 exact this
theorem CycleLists (d:Int)(w1:(Lit.int .i64 d).wf=true):∃N,Q50.f N d=some true:=by
 refine⟨NN,?_⟩;have hN:8589934600<NN:=by decide
 have hnil:tN []:=⟨by simp,fun r hr=>by cases hr⟩
 have bad:Q4.f NN d=some false→Q18.f NN d=some false→Q50.f NN d=some true:=fun k1 k2=>by
  refine kN (e:=80) (b1:=0) (b2:=0) (b3:=0) hnil ?_ ?_ ?_ ?_
  ·unfold Q44.f;rw[k1];by_cases h:d>65536
   ·rw[decide_eq_true h];rfl
   ·rw[decide_eq_false h];rfl
  ·unfold Q47.f;rw[k2];rfl
  ·unfold Q43.f;rw[k1];by_cases h:d>65536
   ·rw[decide_eq_true h];rfl
   ·rw[decide_eq_false h];rfl
  ·unfold Q49.f;rw[k2];rfl
 obtain⟨r,h|⟨r',k1,k2,rfl⟩⟩:=wV hN d
 ·obtain⟨k1,k2,k3⟩:=h;cases r with
  |false=>exact bad k1 k2
  |true=>
   obtain⟨s,hd⟩:=k3.mp rfl;by_cases hs:d>65536
   ·refine kN (e:=80) (b1:=0) (b2:=0) (b3:=0) hnil ?_ ?_ ?_ ?_
    ·unfold Q44.f;rw[decide_eq_true hs];rfl
    ·unfold Q47.f;rw[k2,decide_eq_true hs];rfl
    ·unfold Q43.f;rw[decide_eq_true hs];rfl
    ·unfold Q49.f;rw[k2,decide_eq_true hs];rfl
   ·have hd1:=hd.d1;have h4:d%4=0∨d%4=1:=by
     have hm:Int.tmod d 4=d%4:=hM (by omega);by_cases q:d%4≤1
     ·omega
     ·exfalso;unfold Q4.f at k1;rw[decide_eq_false (show ¬d<1 by omega),decide_eq_false (show ¬d≥1152921504606846976 by omega),hm,decide_eq_true (show d%4>1 by omega)]at k1;simp only[cond_false,cond_true]at k1;cases k1
    have hg:zF d 1 (d%4) ((d%4-d)/4):=by refine⟨by omega,by omega,by omega,by omega,by omega,by omega,?_⟩;rcases h4 with q|q<;>rw[q]<;>omega
    obtain⟨cs,c1,c2,c3⟩:=w8 hN hd hg (by omega);obtain⟨b,c,p1,p2⟩:=iR hN hd hg (by omega);exact kN (y9 hd (by omega) c1) p1 p2 c2 c3
 ·exact bad k1 k2
end Go.Proofs.Ytlofhdoefjmabaa.Pure
