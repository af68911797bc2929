import Derived.Test.YtijigofaaefldaaGreatA5
import Derived.KernelRfl
open Option renaming bind_some→pC
open Int renaming toNat_natCast→aE,natCast_zero→hJ,toNat_of_nonneg→x0,le_of_lt→q5
open Nat renaming le_refl→hE,zero_le→u2,pow_succ→w5
open Bool renaming true_and→zE,and_self→hV,not_true→j1,and_eq_true→u1
open Rat renaming intCast_le_intCast→hG,mul_le_mul_of_nonneg_right→hK,intCast_mul→xK,mul_le_mul_of_nonneg_left→pR,le_trans→hT,le_of_lt→b0,intCast_sub→p0,intCast_lt_intCast→s0,mul_nonneg→u0,intCast_inj→j3,intCast_add→n3,intCast_neg→o3,intCast_natCast→j4,le_of_mul_le_mul_left→o4,natCast_le_natCast→j5,num_intCast→b6,mul_pos→j6,mul_lt_mul_of_pos_left→s6,lt_of_mul_lt_mul_left→k7,le_refl→c8
open List renaming getD_eq_getElem?_getD→yK,replicate→hR,length_replicate→n0,length_map→q0,length_set→y0,mem_filter→o1,getElem?_eq_none→j2,length_append→o2,mem_map→u3,getElem?_append_right→x3,getElem?_append_left→n4,getElem?_eq_getElem→u4,nodup_append→w4,ext_getElem→k5,pairwise_iff_forall_sublist→n5,mem_append→r5,mem_singleton→r6,append_assoc→w6,getElem?_set→b7,drop_eq_getElem_cons→c7,getElem_map→p7,getElem_mem→r7,replicate_succ'→s7,map_cons→w7,map_congr_left→b8
open Classical renaming byContradiction→o0
open Array renaming length_toList→c6
set_option linter.unusedVariables false
set_option linter.unusedSimpArgs false
namespace Go.Proofs.YtijigofaaefldaaGreat.Law
open Go Go.Proofs.YtijigofaaefldaaGreat.Ev
open Go.Proofs.YtijigofaaefldaaGreat.NatL
open Go.Proofs.YtijigofaaefldaaGreat.Lat (sm iB jD zA Wh tE oV el dp kK gH zW yt bi fS ri)
section
variable {T E:Type}(e:T→E)
def row (m:Nat)(f:Nat→T):List E:=(List.range m).map fun j=>e (f j)
theorem bC (m:Nat)(f:Nat→T):(row e m f).length=m:=by simp[row]
theorem wE {m j:Nat}(f:Nat→T)(d:E)(h:j<m):(row e m f).getD j d=e (f j):=by
 unfold row;rw[yK,List.getElem?_map,List.getElem?_range h];rfl
theorem mB {m:Nat}{f g:Nat→T}(h:∀j,j<m→f j=g j):row e m f=row e m g:=
 b8 fun j hj=>by rw[h j (List.mem_range.1 hj)]
theorem lG {m j:Nat}(f:Nat→T)(v:T):(row e m f).set j (e v)=row e m fun t=>if t=j then v else f t:=by
 refine k5 (by simp[row]) fun t h1 h2=>?_;rw[List.getElem_set];simp only[row,p7,List.getElem_range];by_cases h:t=j
 ·subst h;rw[if_pos rfl,if_pos rfl]
 ·rw[if_neg fun q=>h q.symm,if_neg h]
theorem nH (m:Nat)(v:T):hR m (e v)=row e m fun _=>v:=by
 refine k5 (by simp[row]) fun t h1 h2=>?_;simp[row]
theorem B9 (m:Nat)(f:Nat→T):row e (m+1) f=row e m f++[e (f m)]:=by simp[row,List.range_succ]
structure Mx (n:Nat)(len:Nat→Nat)(P:List (List E))(pi:W7)(M:Nat→Nat→T):Prop where
 pl:pi.length=n
 at_:∀i,i<n→P.getD (pi.getD i 0) []=row e (len i) (M i)
 in_:∀i,i<n→pi.getD i 0<P.length
 inj:∀i j,i<n→j<n→pi.getD i 0=pi.getD j 0→i=j
variable {e}{n:Nat}{ln:Nat→Nat}{P:List (List E)}{pi:W7}{M:Nat→Nat→T}
theorem Mx.len (h:Mx e n ln P pi M){i:Nat}(hi:i<n):(P.getD (pi.getD i 0) []).length=ln i:=by rw[h.at_ i hi,bC]
theorem Mx.get (h:Mx e n ln P pi M){i j:Nat}(hi:i<n)(hj:j<ln i)(d:E):(P.getD (pi.getD i 0) []).getD j d=e (M i j):=by rw[h.at_ i hi,wE _ _ _ hj]
theorem Mx.ext (h:Mx e n ln P pi M){M':Nat→Nat→T}(h':∀i j,i<n→j<ln i→M i j=M' i j):Mx e n ln P pi M':=
 ⟨h.pl,fun i hi=>by rw[h.at_ i hi];exact mB e fun j hj=>h' i j hi hj,h.in_,h.inj⟩
theorem aI {X:Type}(l:List X)(i j:Nat)(v d:X):(l.set i v).getD j d=if i=j∧j<l.length then v else l.getD j d:=by
 simp only[yK,b7];by_cases h:i=j
 ·subst h;by_cases hl:i<l.length
  ·rw[if_pos rfl,if_pos hl,if_pos ⟨rfl,hl⟩];rfl
  ·rw[if_pos rfl,if_neg hl,if_neg fun q=>hl q.2,j2 (by omega)]
 ·rw[if_neg h,if_neg fun q=>h q.1]
theorem Mx.set (h:Mx e n ln P pi M){i:Nat}(hi:i<n)(j:Nat)(v:T):
  Mx e n ln (P.set (pi.getD i 0) ((P.getD (pi.getD i 0) []).set j (e v))) pi (fun a b=>if a=i∧b=j then v else M a b):=by
 refine⟨h.pl,fun a ha=>?_,fun a ha=>by rw[y0];exact h.in_ a ha,h.inj⟩;rw[aI];by_cases hai:a=i
 ·subst hai;rw[if_pos ⟨rfl,h.in_ a ha⟩,h.at_ a ha,lG];exact mB e fun t ht=>by
   by_cases htj:t=j
   ·rw[if_pos htj,if_pos ⟨rfl,htj⟩]
   ·rw[if_neg htj,if_neg fun q=>htj q.2]
 ·rw[if_neg fun q=>hai (h.inj i a hi ha q.1).symm,h.at_ a ha];exact mB e fun t ht=>by rw[if_neg fun q=>hai q.1]
theorem Mx.push (h:Mx e n ln P pi M)(m:Nat)(f:Nat→T):Mx e (n+1) (fun i=>if i=n then m else ln i) (P++[row e m f]) (pi++[P.length]) (fun i=>if i=n then f else M i):=by
 have hp:∀i,i<n→(pi++[P.length]).getD i 0=pi.getD i 0:=fun i hi=>by rw[yK,n4 (by rw[h.pl];exact hi),yK]
 have hpn:(pi++[P.length]).getD n 0=P.length:=by rw[yK,x3 (by rw[h.pl];exact hE _),h.pl];simp
 refine⟨by rw[o2,h.pl];rfl,fun i hi=>?_,fun i hi=>?_,fun i j hi hj hq=>?_⟩
 ·by_cases hn:i=n
  ·subst hn;rw[hpn,yK,x3 (hE _),if_pos rfl,if_pos rfl];simp
  ·have hi':i<n:=by omega
   rw[hp i hi',if_neg hn,if_neg hn,←h.at_ i hi',yK,n4 (h.in_ i hi'),←yK]
 ·rw[o2];by_cases hn:i=n
  ·subst hn;rw[hpn];simp
  ·rw[hp i (by omega)];have:=h.in_ i (by omega);omega
 ·by_cases hn:i=n
  ·by_cases hm:j=n
   ·omega
   ·rw[hn,hpn,hp j (by omega)]at hq;have:=h.in_ j (by omega);omega
  ·by_cases hm:j=n
   ·rw[hm,hpn,hp i (by omega)]at hq;have:=h.in_ i (by omega);omega
   ·rw[hp i (by omega),hp j (by omega)]at hq;exact h.inj i j (by omega) (by omega) hq
theorem Mx.cast (h:Mx e n ln P pi M){len':Nat→Nat}{M':Nat→Nat→T}(hl:∀i,i<n→ln i=len' i)(hM:∀i j,i<n→j<len' i→M i j=M' i j):Mx e n len' P pi M':=
 ⟨h.pl,fun i hi=>by rw[h.at_ i hi,hl i hi];exact mB e fun j hj=>hM i j hi hj,h.in_,h.inj⟩
end
noncomputable def zq (x:Int):Bool×W6:=(sg x,pB x)
theorem lb:zq 0=(false,[]):=by unfold zq;rw[ra];rfl
theorem K3 (i n:Nat):(decide (0≤(i:Int))&&decide ((i:Int)<(n:Int)))=decide (i<n):=by
 rw[decide_eq_true (show 0≤(i:Int) by omega),zE];by_cases h:i<n
 ·rw[decide_eq_true h,decide_eq_true (by omega)]
 ·rw[decide_eq_false h,decide_eq_false (by omega)]
theorem lD (i n:Nat):decide ((i:Int)<(n:Int))=decide (i<n):=by
 by_cases h:i<n
 ·rw[decide_eq_true h,decide_eq_true (by omega)]
 ·rw[decide_eq_false h,decide_eq_false (by omega)]
theorem iC (i:Nat):decide (0≤(i:Int))=true:=decide_eq_true (by omega)
theorem It (i n:Nat):decide ((i:Int)≤(n:Int))=decide (i≤n):=by
 by_cases h:i≤n
 ·rw[decide_eq_true h,decide_eq_true (by omega)]
 ·rw[decide_eq_false h,decide_eq_false (by omega)]
theorem qB {i:Nat}(h:i<1000000):fA ((i:Int)+1)=((i+1:Nat):Int):=by rw[aB (by omega) (by omega)];omega
theorem an {i:Nat}(h:i<1000000):fA (((i+1:Nat):Int)-1)=(i:Int):=by rw[aB (by omega) (by omega)];omega
theorem dC {m w:Nat}(h:m≤1000)(hw:w≤1000):lB m w=true:=by
 unfold lB;have:=Nat.mul_le_mul h hw;simp;omega
theorem tD (x:Int):dG x x=true:=by simp[dG]
theorem eQ {m:Nat}(h:m≤1000):decide ((m:Int)≤9223372036854775807)=true:=decide_eq_true (by omega)
def mr (a:Nat→Nat→Int):Nat→Nat→Rat:=fun i j=>(a i j:Rat)
theorem lQ (a:Nat→Nat→Int)(i j:Nat):Wh (mr a i j):=tE _
def bz (a:Nat→Nat→Int)(r i k:Nat):Int:=(dp (mr a) r*el (mr a) r i k).num
def dz (a:Nat→Nat→Int)(r:Nat):Int:=(dp (mr a) r).num
theorem Ik {q:Rat}:Wh q→((q.num:Int):Rat)=q
 |⟨z,hz⟩=>by rw[hz,b6]
section
variable {a:Nat→Nat→Int}
theorem vE {r i k:Nat}(h:∀l,l<r→el (mr a) l l l≠0)(hi:r≤i)(hk:r≤k):((bz a r i k:Int):Rat)=dp (mr a) r*el (mr a) r i k:=
 Ik (yt (n:=i+k+1) (fun i j _ _=>lQ a i j) hi hk (by omega) (by omega) h)
theorem zR:dz a 0=1:=rfl
theorem tJ (r:Nat):dz a (r+1)=bz a r r r:=rfl
theorem xD {r:Nat}(h:∀l,l<r→el (mr a) l l l≠0):((dz a r:Int):Rat)=dp (mr a) r:=by
 cases r with
 |zero=>rfl
 |succ r=>rw[tJ,vE (fun l hl=>h l (by omega)) (hE _) (hE _)];rfl
theorem bn (i k:Nat):bz a 0 i k=a i k:=by
 unfold bz;show((1:Rat)*((a i k:Int):Rat)).num=_;rw[Rat.one_mul,b6]
theorem v7 {r:Nat}(h:∀l,l<r→el (mr a) l l l≠0):dz a r≠0:=fun e=>by
 have h1:=xD h;have h2:=Lat.Hq h;rw[e]at h1;exact h2 h1.symm
theorem Cz {r i k:Nat}(h:∀l,l<r+1→el (mr a) l l l≠0)(hi:r<i)(hk:r<k):bz a r r r*bz a r i k-bz a r i r*bz a r r k=bz a (r+1) i k*dz a r:=by
 have h':∀l,l<r→el (mr a) l l l≠0:=fun l hl=>h l (by omega);refine j3.1 ?_;rw[p0,xK,xK,xK,vE h' (hE _) (hE _),vE h' (by omega) (by omega),vE h' (by omega) (hE _),vE h' (hE _) (by omega),vE h (by omega) (by omega),xD h'];show _=(dp (mr a) r*el (mr a) r r r)*(el (mr a) r i k-el (mr a) r i r*el (mr a) r r k/el (mr a) r r r)*dp (mr a) r;have:=h r (by omega);grind
theorem nO {r i k:Nat}(h:∀l,l<r+1→el (mr a) l l l≠0)(hi:r<i)(hk:r<k):(bz a r r r*bz a r i k-bz a r i r*bz a r r k)%dz a r=0∧(bz a r r r*bz a r i k-bz a r i r*bz a r r k)/dz a r=bz a (r+1) i k:=by
 have h0:=v7 (a:=a) (r:=r) fun l hl=>h l (by omega);rw[Cz h hi hk];exact⟨Int.mul_emod_left _ _,Int.mul_ediv_cancel _ h0⟩
end
def G9 (B:Rat):Nat→Rat
 |0=>1
 |n+1=>(n+1:Nat)*(B*G9 B n)
theorem oq {f:Nat→Rat}{c:Rat}:∀{n:Nat},(∀i,i<n→ -c≤f i∧f i≤c)→ -((n:Nat)*c)≤sm n f∧sm n f≤(n:Nat)*c
 |0,_=>by rw[jD];constructor<;>simp
 |n+1,h=>by have h1:=oq (n:=n) fun i hi=>h i (by omega);have h2:=h n (by omega);rw[iB,show((n+1:Nat):Rat)=(n:Rat)+1 by rw[Rat.natCast_add];simp];constructor<;>grind
theorem dh {x y B C:Rat}(hx: -B≤x∧x≤B)(hy: -C≤y∧y≤C): -(B*C)≤x*y∧x*y≤B*C:=by
 have h1:=u0 (show(0:Rat)≤B-x by grind) (show(0:Rat)≤C-y by grind);have h2:=u0 (show(0:Rat)≤B+x by grind) (show(0:Rat)≤C+y by grind);have h3:=u0 (show(0:Rat)≤B-x by grind) (show(0:Rat)≤C+y by grind);have h4:=u0 (show(0:Rat)≤B+x by grind) (show(0:Rat)≤C-y by grind);constructor<;>grind
theorem qe {B:Rat}(hB:0≤B):∀{n:Nat} {M:Nat→Nat→Rat},(∀i j,i<n→j<n→ -B≤M i j∧M i j≤B)→ -(G9 B n)≤kK n M∧kK n M≤G9 B n
 |0,M,_=>by show-(1:Rat)≤1∧(1:Rat)≤1;constructor<;>decide+kernel
 |n+1,M,h=>by
  rw[gH];refine oq fun i hi=>?_;have h1:=qe hB (n:=n) (M:=fun a b=>M (Lat.sk i a) (b+1)) fun a b ha hb=>h _ _ (ri ha) (by omega);have h2:=dh (h i 0 hi (by omega)) h1;unfold Lat.wu;split
  ·rw[Rat.one_mul];exact h2
  ·constructor<;>grind
theorem xu {a:Nat→Nat→Int}{n r i k:Nat}{B:Rat}(hB:0≤B)(hM:∀i j,i<n→j<n→ -B≤mr a i j∧mr a i j≤B)(h:∀l,l<r→el (mr a) l l l≠0)(hi:r≤i)(hk:r≤k)(hin:i<n)(hkn:k<n): -(G9 B (r+1))≤(bz a r i k:Rat)∧(bz a r i k:Rat)≤G9 B (r+1):=by
 rw[vE h hi hk,←zW r (mr a) i k hi hk h];exact qe hB fun x y hx hy=>hM _ _ (by unfold bi;split<;>omega) (by unfold bi;split<;>omega)
theorem bg {k:Nat}{x:Int}{c:Rat}(h: -c≤(x:Rat)∧(x:Rat)≤c)(hc:c<((2^k:Nat):Rat)):Bd k x:=by
 have e:((2^k:Nat):Rat)=(((2^k:Nat):Int):Rat):=(j4 _).symm;rw[e]at hc;have h1:(x:Rat)<(((2^k:Nat):Int):Rat):=by grind
 have h2:((-((2^k:Nat):Int):Int):Rat)<(x:Rat):=by rw[o3];grind
 have h3:=s0.1 h1;have h4:=s0.1 h2;unfold Bd;omega
theorem D7:∀r,r≤8→G9 16384 r<((2^128:Nat):Rat):=by
 intro r hr;have:r=0∨r=1∨r=2∨r=3∨r=4∨r=5∨r=6∨r=7∨r=8:=by omega
 rcases this with rfl|rfl|rfl|rfl|rfl|rfl|rfl|rfl|rfl<;>decide+kernel
theorem iM {a:Nat→Nat→Int}{n r i k:Nat}(hn:n≤8)(hM:∀i j,i<n→j<n→ -16384≤a i j∧a i j≤16384)(h:∀l,l<r→el (mr a) l l l≠0)(hi:r≤i)(hk:r≤k)(hin:i<n)(hkn:k<n):Bd 128 (bz a r i k):=
 bg (xu (n:=n) (B:=16384) (by decide+kernel) (fun i j hi hj=>by have h1:=hM i j hi hj;have h2:((-16384:Int):Rat)≤(a i j:Rat):=hG.2 h1.1;have h3:(a i j:Rat)≤((16384:Int):Rat):=hG.2 h1.2;exact⟨h2,h3⟩) h hi hk hin hkn) (D7 _ (by omega))
theorem im {a:Nat→Nat→Int}{n r:Nat}(hn:n≤8)(hM:∀i j,i<n→j<n→ -16384≤a i j∧a i j≤16384)(h:∀l,l<r→el (mr a) l l l≠0)(hr:r≤n):Bd 128 (dz a r):=by
 cases r with
 |zero=>rw[zR];exact oR (by omega)
 |succ r=>rw[tJ];exact iM hn hM (fun l hl=>h l (by omega)) (hE _) (hE _) (by omega) (by omega)
def oF (p:Nat→Bool):Nat→Nat→Bool
 |0,_=>true
 |k+1,i=>p i&&oF p k (i+1)
theorem rD {p:Nat→Bool}:∀{k i:Nat},oF p k i=true↔∀j,i≤j→j<i+k→p j=true
 |0,i=>⟨fun _ j _ _=>by omega,fun _=>rfl⟩
 |k+1,i=>by
  show(p i&&oF p k (i+1))=true↔_;rw[u1,rD];constructor
  ·rintro⟨h1,h2⟩ j hj hk;by_cases e:j=i
   ·rw[e];exact h1
   ·exact h2 j (by omega) (by omega)
  ·intro h;exact⟨h i (hE _) (by omega),fun j hj hk=>h j (by omega) (by omega)⟩
def av (a:W5)(i j:Nat):Int:=(a.getD i []).getD j 0
theorem ou (N:Nat)(x:Int):Q59.f N x=some (decide (-16384≤x)&&decide (x≤16384)):=by
 unfold Q59.f;by_cases h: -16384≤x
 ·rw[show decide (x≥ -16384)=true from decide_eq_true h];rfl
 ·rw[show decide (x≥ -16384)=false from decide_eq_false h];rfl
def wL (x:Int):Bool:=decide (-16384≤x)&&decide (x≤16384)
section
variable {N:Nat}(hN:1000000001<N){R:Type}
include hN
omit hN in
theorem Gf (x5:W5)(x6 x7 x8:Int)(l:W6)(hl:l.length≤1000)(k2:W5→Int→Int→Option R)(kr:Bool→Option R):∀(k i n:Nat),i+k=l.length→k<n→
  Q64.l5 N n x5 x6 x7 x8 l (l.length:Int) (i:Int) k2 kr=bif oF (fun j=>wL (l.getD j 0)) k i then k2 x5 x7 x8 else kr false:=by
 intro k;induction k with
 |zero=>
  intro i n hi hn;obtain⟨n,rfl⟩:∃m,n=m+1:=⟨n-1,by omega⟩
  rw[Q64.l5,lD,decide_eq_false (by omega)];rfl
 |succ k ih=>
  intro i n hi hn;obtain⟨n,rfl⟩:∃m,n=m+1:=⟨n-1,by omega⟩
  rw[Q64.l5,lD,iC,zE,decide_eq_true (show i<l.length by omega),qB (by omega),ih (i+1) n (by omega) (by omega)];simp only[Q61.f,ou,pC,cond_true,aE];show(bif !(wL (l.getD i 0))then _ else _)=bif wL (l.getD i 0)&&oF _ k (i+1)then _ else _;cases wL (l.getD i 0)<;>simp
theorem Da (a:W5)(ha:a.length≤1000)(hl:∀i,(a.getD i []).length≤1000)(k0:Unit→Option R)(kr:Bool→Option R):∀(k i n:Nat),i+k=a.length→k<n→
  Q64.l2 N n a (a.length:Int) (i:Int) k0 kr=bif oF (fun i=>oF (fun j=>wL (av a i j)) (a.getD i []).length 0) k i then k0 ()else kr false:=by
 intro k;induction k with
 |zero=>
  intro i n hi hn;obtain⟨n,rfl⟩:∃m,n=m+1:=⟨n-1,by omega⟩
  rw[Q64.l2,lD,decide_eq_false (by omega)];rfl
 |succ k ih=>
  intro i n hi hn;obtain⟨n,rfl⟩:∃m,n=m+1:=⟨n-1,by omega⟩
  rw[Q64.l2,lD,iC,zE,decide_eq_true (show i<a.length by omega)];simp only[cond_true,aE];have:=hl i;rw[show(0:Int)=((0:Nat):Int)from rfl,Gf _ _ _ _ _ this _ _ (a.getD i []).length 0 N (by omega) (by omega),qB (by omega),ih (i+1) n (by omega) (by omega)];show _=bif oF _ _ 0&&oF _ k (i+1)then _ else _;show(bif oF (fun j=>wL (av a i j)) (a.getD i []).length 0 then _ else _)=_;cases oF (fun j=>wL (av a i j)) (a.getD i []).length 0<;>rfl
omit hN in
theorem Ge (x5:W5)(m x7 x8:Int)(p:Nat)(hm:m=(p:Int))(l:W6)(hl:l.length≤1000)(k2:W5→Int→Int→Option R)(kr:Bool→Option R):∀(k i n:Nat),i+k=l.length→k<n→
  Q63.l5 N n x5 m x7 x8 l (l.length:Int) (i:Int) k2 kr=bif oF (fun j=>decide (p≠j)||(Int.tmod (l.getD j 0) 2==0)) k i then k2 x5 x7 x8 else kr false:=by
 subst hm;intro k;induction k with
 |zero=>
  intro i n hi hn;obtain⟨n,rfl⟩:∃m,n=m+1:=⟨n-1,by omega⟩
  rw[Q63.l5,lD,decide_eq_false (by omega)];rfl
 |succ k ih=>
  intro i n hi hn;obtain⟨n,rfl⟩:∃m,n=m+1:=⟨n-1,by omega⟩
  rw[Q63.l5,lD,iC,zE,decide_eq_true (show i<l.length by omega),qB (by omega),ih (i+1) n (by omega) (by omega)];simp only[Q60.f,pC,cond_true,aE];show _=bif (decide (p≠i)||(Int.tmod (l.getD i 0) 2==0))&&oF _ k (i+1)then _ else _;by_cases h:p=i
  ·subst h;simp only[bne_self_eq_false,cond_false,pC];cases(Int.tmod (l.getD p 0) 2==0)<;>simp
  ·have:((p:Int) != (i:Int))=true:=by simp;omega
   rw[this,decide_eq_true h];simp
theorem D9 (a:W5)(ha:a.length≤1000)(hl:∀i,(a.getD i []).length≤1000)(k0:Unit→Option R)(kr:Bool→Option R):∀(k i n:Nat),i+k=a.length→k<n→
  Q63.l2 N n a (a.length:Int) (i:Int) k0 kr=bif oF (fun i=>oF (fun j=>decide (i≠j)||(Int.tmod (av a i j) 2==0)) (a.getD i []).length 0) k i then k0 ()else kr false:=by
 intro k;induction k with
 |zero=>
  intro i n hi hn;obtain⟨n,rfl⟩:∃m,n=m+1:=⟨n-1,by omega⟩
  rw[Q63.l2,lD,decide_eq_false (by omega)];rfl
 |succ k ih=>
  intro i n hi hn;obtain⟨n,rfl⟩:∃m,n=m+1:=⟨n-1,by omega⟩
  rw[Q63.l2,lD,iC,zE,decide_eq_true (show i<a.length by omega)];simp only[cond_true,aE];have:=hl i;rw[show(0:Int)=((0:Nat):Int)from rfl,Ge _ _ _ _ i rfl _ this _ _ (a.getD i []).length 0 N (by omega) (by omega),qB (by omega),ih (i+1) n (by omega) (by omega)];show _=bif oF _ _ 0&&oF _ k (i+1)then _ else _;show(bif oF (fun j=>decide (i≠j)||(Int.tmod (av a i j) 2==0)) (a.getD i []).length 0 then _ else _)=_;cases oF (fun j=>decide (i≠j)||(Int.tmod (av a i j) 2==0)) (a.getD i []).length 0<;>rfl
def Sq (n:Nat)(a:W5):Prop:=a.length=n∧∀i,i<n→(a.getD i []).length=n
omit hN in
theorem Gg {m:Nat}{a:W5}(hs:Sq m a)(hm:m≤1000){p:Nat}(hp:p<m)(x7:W5)(x9 x10:Int)(k2:W5→Int→Int→W5→Option R)(kr:Bool→W5→Option R):∀(k i n:Nat),i+k=m→k<n→
  Q65.l5 N n x7 (p:Int) x9 x10 (a.getD p []) (m:Int) (i:Int) a k2 kr=bif oF (fun j=>av a p j==av a j p) k i then k2 x7 x9 x10 a else kr false a:=by
 intro k;induction k with
 |zero=>
  intro i n hi hn;obtain⟨n,rfl⟩:∃m,n=m+1:=⟨n-1,by omega⟩
  rw[Q65.l5,lD,decide_eq_false (by omega)];rfl
 |succ k ih=>
  intro i n hi hn;obtain⟨n,rfl⟩:∃m,n=m+1:=⟨n-1,by omega⟩
  rw[Q65.l5,hs.2 p hp,lD,iC,zE,decide_eq_true (show i<m by omega),qB (by omega)];simp only[Q62.f,cond_true,aE,K3,hs.1,hs.2 i (by omega),decide_eq_true (show i<m by omega),decide_eq_true hp,pC];rw[ih (i+1) n (by omega) (by omega)];show(bif !(av a p i==av a i p)then _ else _)=bif (av a p i==av a i p)&&oF _ k (i+1)then _ else _;cases(av a p i==av a i p)<;>simp
theorem Db {m:Nat}{a:W5}(hs:Sq m a)(hm:m≤1000)(k0:W5→Option R)(kr:Bool→W5→Option R):∀(k i n:Nat),i+k=m→k<n→
  Q65.l2 N n a (m:Int) (i:Int) a k0 kr=bif oF (fun i=>oF (fun j=>av a i j==av a j i) m 0) k i then k0 a else kr false a:=by
 intro k;induction k with
 |zero=>
  intro i n hi hn;obtain⟨n,rfl⟩:∃m,n=m+1:=⟨n-1,by omega⟩
  rw[Q65.l2,lD,decide_eq_false (by omega)];rfl
 |succ k ih=>
  intro i n hi hn;obtain⟨n,rfl⟩:∃m,n=m+1:=⟨n-1,by omega⟩
  rw[Q65.l2,hs.1,lD,iC,zE,decide_eq_true (show i<m by omega)];simp only[cond_true,aE,hs.2 i (show i<m by omega)];rw[show(0:Int)=((0:Nat):Int)from rfl,Gg hs hm (show i<m by omega) _ _ _ _ _ m 0 N (by omega) (by omega),qB (by omega),ih (i+1) n (by omega) (by omega)];show _=bif oF _ _ 0&&oF _ k (i+1)then _ else _;show(bif oF (fun j=>av a i j==av a j i) m 0 then _ else _)=_;cases oF (fun j=>av a i j==av a j i) m 0<;>rfl
omit hN in
theorem uf (m:Nat)(a:W5)(ha:a.length≤1000)(k0:W5→Option R)(kr:Int→Option R):∀(k i n:Nat),i+k=a.length→k<n→
  Q69.l5 N n (m:Int) (a.length:Int) (i:Int) a k0 kr=bif oF (fun i=>(a.getD i []).length==m) k i then k0 a else kr 5:=by
 intro k;induction k with
 |zero=>
  intro i n hi hn;obtain⟨n,rfl⟩:∃m,n=m+1:=⟨n-1,by omega⟩
  rw[Q69.l5,lD,decide_eq_false (by omega)];rfl
 |succ k ih=>
  intro i n hi hn;obtain⟨n,rfl⟩:∃m,n=m+1:=⟨n-1,by omega⟩
  rw[Q69.l5,lD,iC,zE,decide_eq_true (show i<a.length by omega),qB (by omega),ih (i+1) n (by omega) (by omega)];simp only[cond_true,aE];show _=bif ((a.getD i []).length==m)&&oF _ k (i+1)then _ else _;by_cases h:(a.getD i []).length=m
  ·rw[h];simp
  ·have h1:(((a.getD i []).length:Int) != (m:Int))=true:=bne_iff_ne.2 (by omega);have h2:((a.getD i []).length==m)=false:=beq_eq_false_iff_ne.2 h;rw[h1,h2];rfl
end
open Go.Proofs.YtijigofaaefldaaGreat.Lat (el dp PD dD)
theorem bK (x:Int):(zq x).1=sg x:=rfl
theorem cK (x:Int):(zq x).2=pB x:=rfl
theorem bR {T E:Type}(e:T→E)(ln:Nat→Nat)(M:Nat→Nat→T):Mx e 0 ln [] [] M:=⟨rfl,fun i hi=>by omega,fun i hi=>by omega,fun i j hi=>by omega⟩
section
variable {N:Nat}(hN:1000000001<N){R:Type}{m:Nat}(hm:m≤16)
include hN hm
theorem Jp {a:W5}(hs:Sq m a)(hb:∀i j,i<m→j<m→Bd 63 (av a i j)){i:Nat}(hi:i<m)(x9 x11 x12:Int)(P:W2)(pi:W7)(k2:Int→Int→Int→W5→W2→W7→W3→Option R):∀k j n,j+k=m→k<n→
  Q67.l7 N n x9 (i:Int) x11 x12 (m:Int) (j:Int) a P pi (row zq m fun t=>if t<j then av a i t else 0) k2=k2 x9 x11 x12 a P pi (row zq m (av a i)):=by
 intro k;induction k with
 |zero=>
  intro j n hj hn;obtain⟨n,rfl⟩:∃q,n=q+1:=⟨n-1,by omega⟩
  rw[Q67.l7,lD,decide_eq_false (by omega),mB zq (g:=av a i) fun t ht=>if_pos (by omega)];rfl
 |succ k ih=>
  intro j n hj hn;obtain⟨n,rfl⟩:∃q,n=q+1:=⟨n-1,by omega⟩
  have d1:decide (j<m)=true:=decide_eq_true (by omega);have d2:decide (i<m)=true:=decide_eq_true (by omega);have e1:=lg hN (hb i j hi (by omega)) (hE _);unfold av at e1;rw[Q67.l7];simp only[Q66.f,lD,iC,zE,aE,hs.1,hs.2 i hi,d1,d2,cond_true,e1,pC,bC,qB (show j<1000000 by omega)];rw[show(sg ((a.getD i []).getD j 0),pB ((a.getD i []).getD j 0))=zq (av a i j)from rfl,lG,←ih (j+1) n (by omega) (by omega)];congr 1;refine mB zq fun t ht=>?_;by_cases h:t=j
  ·subst h;rw[if_pos rfl,if_pos (by omega)]
  ·rw[if_neg h];by_cases h':t<j
   ·rw[if_pos h',if_pos (by omega)]
   ·rw[if_neg h',if_neg (by omega)]
theorem Jo {a:W5}(hs:Sq m a)(hb:∀i j,i<m→j<m→Bd 63 (av a i j))(k0:W5→W2→W7→Option R):∀k i n P pi,i+k=m→k<n→Mx zq i (fun _=>m) P pi (av a)→
  ∃P' pi',Mx zq m (fun _=>m) P' pi' (av a)∧Q67.l3 N n (m:Int) (m:Int) (i:Int) a P pi k0=k0 a P' pi':=by
 intro k;induction k with
 |zero=>
  intro i n P pi hi hn hM;obtain⟨n,rfl⟩:∃q,n=q+1:=⟨n-1,by omega⟩
  rw[Q67.l3,lD,decide_eq_false (by omega)];obtain rfl:i=m:=by omega
  exact⟨P,pi,hM,rfl⟩
 |succ k ih=>
  intro i n P pi hi hn hM;obtain⟨n,rfl⟩:∃q,n=q+1:=⟨n-1,by omega⟩
  have d1:decide (i<m)=true:=decide_eq_true (by omega);have h2:=ih (i+1) n _ _ (by omega) (by omega) ((hM.push m (av a i)).cast (len':=fun _=>m) (M':=av a) (fun x _=>by by_cases h:x=i<;>simp[h]) fun x y _ _=>by by_cases h:x=i<;>simp[h]);rw[Q67.l3];simp only[lD,d1,cond_true,tD,iC,eQ (show m≤1000 by omega),dC (show m≤1000 by omega) (show 32≤1000 by omega),hV,aE,n0];rw[←lb,nH zq m 0,mB zq (g:=fun t=>if t<0 then av a i t else 0) fun t _=>(if_neg (by omega)).symm];have e7:=fun P pi k2=>Jp (R:=R) hN hm hs hb (i:=i) (by omega) (m:Int) (m:Int) (i:Int) P pi k2 m 0 N (by omega) (by omega);simp only[hJ]at e7;rw[e7];simp only[hM.pl,dC (show i+1≤1000 by omega) (show 24≤1000 by omega),cond_true,qB (show i<1000000 by omega)];exact h2
theorem Bl {a:W5}(hs:Sq m a)(hb:∀i j,i<m→j<m→Bd 63 (av a i j)):∃P pi,Mx zq m (fun _=>m) P pi (av a)∧Q67.f N (m:Int) a=some (P,pi,a):=by
 obtain⟨P,pi,h1,h2⟩:=Jo hN hm hs hb (fun y37 y38 y39=>some (y38,y39,y37)) m 0 N [] [] (by omega) (by omega) ⟨rfl,fun i hi=>by omega,fun i hi=>by omega,fun i j hi=>by omega⟩;exact⟨P,pi,h1,h2⟩
end
section
variable {N:Nat}(hN:1000000001<N){R:Type}{m:Nat}(hm:m≤8){a:Nat→Nat→Int}(hb:∀i j,i<m→j<m→ -16384≤a i j∧a i j≤16384)
include hN hm hb
theorem I1 {r i:Nat}(hri:r<i)(hi:i<m)(hp:∀l,l<r+1→el (mr a) l l l≠0){pi:W7}(x26 x27:Int)(k4:Int→Int→Int→Int→Int→W2→W7→Bool→W6→Option R):∀k j n P (M:Nat→Nat→Int),j+k=m→r<j→k<n→Mx zq m (fun _=>m) P pi M→
  (∀b,r≤b→b<m→M r b=bz a r r b)→M i r=bz a r i r→(∀b,j≤b→b<m→M i b=bz a r i b)→
  ∃P',Mx zq m (fun _=>m) P' pi (fun x y=>if x=i∧j≤y then bz a (r+1) x y else M x y)∧Q68.l13 N n (m:Int) (r:Int) (i:Int) (j:Int) x26 x27 P pi (sg (dz a r)) (pB (dz a r)) k4=k4 (m:Int) (r:Int) (i:Int) x26 x27 P' pi (sg (dz a r)) (pB (dz a r)):=by
 intro k;induction k with
 |zero=>
  intro j n P M hj hrj hn hM h1 h2 h3;obtain⟨n,rfl⟩:∃q,n=q+1:=⟨n-1,by omega⟩
  rw[Q68.l13,lD,decide_eq_false (by omega)];exact⟨P,hM.ext fun x y _ hy=>by rw[if_neg (by omega)],rfl⟩
 |succ k ih=>
  intro j n P M hj hrj hn hM h1 h2 h3;obtain⟨n,rfl⟩:∃q,n=q+1:=⟨n-1,by omega⟩
  have hp':∀l,l<r→el (mr a) l l l≠0:=fun l hl=>hp l (by omega);have d1:decide (j<m)=true:=decide_eq_true (by omega);have d2:decide (r<m)=true:=decide_eq_true (by omega);have d3:decide (i<m)=true:=decide_eq_true (by omega);have b1:Bd 128 (bz a r r r):=iM hm hb hp' (hE _) (hE _) (by omega) (by omega);have b2:Bd 128 (bz a r i j):=iM hm hb hp' (by omega) (by omega) (by omega) (by omega);have b3:Bd 128 (bz a r i r):=iM hm hb hp' (by omega) (hE _) (by omega) (by omega);have b4:Bd 128 (bz a r r j):=iM hm hb hp' (hE _) (by omega) (by omega) (by omega);have b5:Bd 128 (dz a r):=im hm hb hp' (by omega);have e1:=kz hN b1 b2 (by omega);have e2:=kz hN b3 b4 (by omega);have e3:=Es hN (b1.mul b2) (b3.mul b4) (by omega);have e4:=fv hN ((b1.mul b2).sub (b3.mul b4)) b5 (by omega) (by omega) (v7 hp') (nO hp hri hrj).1;rw[(nO hp hri hrj).2]at e4;have g1:=hM.get (i:=r) (j:=r) (by omega) (by omega) (false,([]:W6));have g2:=hM.get (i:=i) (j:=j) (by omega) (by omega) (false,([]:W6));have g3:=hM.get (i:=i) (j:=r) (by omega) (by omega) (false,([]:W6));have g4:=hM.get (i:=r) (j:=j) (by omega) (by omega) (false,([]:W6));rw[h1 r (hE _) (by omega)]at g1;rw[h3 j (hE _) (by omega)]at g2;rw[h2]at g3;rw[h1 j (by omega) (by omega)]at g4;obtain⟨P',q1,q2⟩:=ih (j+1) n _ _ (by omega) (by omega) (by omega) (hM.set hi j (bz a (r+1) i j)) (fun b hb1 hb2=>by rw[if_neg (by omega)];exact h1 b hb1 hb2) (by rw[if_neg (by omega)];exact h2) (fun b hb1 hb2=>by rw[if_neg (by omega)];exact h3 b (by omega) hb2);refine⟨P',q1.ext fun x y _ _=>?_,?_⟩
  ·by_cases hx:x=i
   ·subst hx;by_cases hy:y=j
    ·subst hy;rw[if_neg (by omega),if_pos ⟨rfl,rfl⟩,if_pos ⟨rfl,hE _⟩]
    ·by_cases hy':j+1≤y
     ·rw[if_pos ⟨rfl,hy'⟩,if_pos ⟨rfl,by omega⟩]
     ·rw[if_neg (by omega),if_neg (by omega),if_neg (by omega)]
   ·rw[if_neg (by omega),if_neg (by omega),if_neg (by omega)]
  ·rw[Q68.l13];simp only[lD,iC,zE,aE,hM.pl,hM.len hi,hM.len (show r<m by omega),d1,d2,d3,cond_true,g1,g2,g3,g4,bK,cK,e1,e2,e3,e4,pC,qB (show j<1000000 by omega)];exact q2
theorem I0 {r:Nat}(hr:r<m)(hp:∀l,l<r+1→el (mr a) l l l≠0){pi:W7}(x16 x17:Int)(k2:Int→Int→Int→Int→W2→W7→Bool→W6→Option R):∀k i n P (M:Nat→Nat→Int),i+k=m→r<i→k<n→Mx zq m (fun _=>m) P pi M→
  (∀b,r≤b→b<m→M r b=bz a r r b)→(∀x y,i≤x→x<m→r≤y→y<m→M x y=bz a r x y)→
  ∃P',Mx zq m (fun _=>m) P' pi (fun x y=>if i≤x∧r<y then bz a (r+1) x y else M x y)∧Q68.l10 N n (m:Int) (r:Int) (i:Int) x16 x17 P pi (sg (dz a r)) (pB (dz a r)) k2=k2 (m:Int) (r:Int) x16 x17 P' pi (sg (dz a r)) (pB (dz a r)):=by
 intro k;induction k with
 |zero=>
  intro i n P M hi hri hn hM h1 h2;obtain⟨n,rfl⟩:∃q,n=q+1:=⟨n-1,by omega⟩
  rw[Q68.l10,lD,decide_eq_false (by omega)];exact⟨P,hM.ext fun x y hx _=>by rw[if_neg (by omega)],rfl⟩
 |succ k ih=>
  intro i n P M hi hri hn hM h1 h2;obtain⟨n,rfl⟩:∃q,n=q+1:=⟨n-1,by omega⟩
  have d1:decide (i<m)=true:=decide_eq_true (by omega);rw[Q68.l10];simp only[lD,d1,cond_true,qB (show r<1000000 by omega)];obtain⟨P1,q1,e1⟩:=I1 hN hm hb hri (by omega) hp (pi:=pi) x16 x17 (fun y45 y46 y47 y48 y49 y50 y51 y52 y53=>Q68.l10 N n y45 y46 (fA (y47+1)) y48 y49 y50 y51 y52 y53 k2) (m- (r+1)) (r+1) N P M (by omega) (by omega) (by omega) hM h1 (h2 i r (hE _) (by omega) (hE _) (by omega)) (fun b hb1 hb2=>h2 i b (hE _) (by omega) (by omega) hb2);rw[e1];obtain⟨P2,q2,e2⟩:=ih (i+1) n P1 _ (by omega) (by omega) (by omega) q1 (fun b hb1 hb2=>by rw[if_neg (by omega)];exact h1 b hb1 hb2) (fun x y hx hxm hy hym=>by rw[if_neg (by omega)];exact h2 x y (by omega) hxm hy hym);refine⟨P2,q2.ext fun x y _ _=>?_,?_⟩
  ·by_cases hx:i+1≤x∧r<y
   ·rw[if_pos hx,if_pos ⟨by omega,hx.2⟩]
   ·rw[if_neg hx];by_cases hx':x=i∧r+1≤y
    ·rw[if_pos hx',if_pos ⟨by omega,by omega⟩]
    ·rw[if_neg hx',if_neg (by omega)]
  ·simp only[qB (show i<1000000 by omega)];exact e2
theorem Jg {pi:W7}(k0:Unit→Option R)(kr:Bool→Option R):∀k r n P (M:Nat→Nat→Int),r+k=m→k<n→PD r (mr a)→Mx zq m (fun _=>m) P pi M→
  (∀x y,r≤x→x<m→r≤y→y<m→M x y=bz a r x y)→
  ∃b:Bool,(b=true↔PD m (mr a))∧Q68.l5 N n (m:Int) (m:Int) (r:Int) P pi (sg (dz a r)) (pB (dz a r)) k0 kr=bif b then k0 ()else kr false:=by
 intro k;induction k with
 |zero=>
  intro r n P M hr hn hpd hM h1;obtain⟨n,rfl⟩:∃q,n=q+1:=⟨n-1,by omega⟩
  rw[Q68.l5,lD,decide_eq_false (by omega)];exact⟨true,by rw[show m=r by omega];exact⟨fun _=>hpd,fun _=>rfl⟩,rfl⟩
 |succ k ih=>
  intro r n P M hr hn hpd hM h1;obtain⟨n,rfl⟩:∃q,n=q+1:=⟨n-1,by omega⟩
  have hp':∀l,l<r→el (mr a) l l l≠0:=fun l hl=>hpd.ne hl;have hd:=dD hpd;have d1:decide (r<m)=true:=decide_eq_true (by omega);have b1:Bd 128 (bz a r r r):=iM hm hb hp' (hE _) (hE _) (by omega) (by omega);have g1:=hM.get (i:=r) (j:=r) (by omega) (by omega) (false,([]:W6));rw[h1 r r (hE _) (by omega) (hE _) (by omega)]at g1;have hc:=vE (a:=a) hp' (hE r) (hE r);rw[Q68.l5];simp only[lD,iC,zE,aE,hM.pl,hM.len (show r<m by omega),d1,cond_true,g1,bK,cK,ao b1 (show 128≤4096 by omega),pC,I8,qB (show r<1000000 by omega)];by_cases hs:bz a r r r≤0
  ·rw[decide_eq_true hs];refine⟨false,⟨fun h=>(by cases h),fun h=>?_⟩,rfl⟩;have h2:=j6 hd (h r (by omega));rw[←hc]at h2;have h3:(0:Int)<bz a r r r:=by rw[←s0];simpa using h2
   omega
  ·rw[decide_eq_false hs];simp only[cond_false];have hel:0<el (mr a) r r r:=by
    have h2:((0:Int):Rat)<(bz a r r r:Rat):=s0.2 (by omega);rw[hc]at h2;have h3:dp (mr a) r*0<dp (mr a) r*el (mr a) r r r:=by simpa using h2
    exact k7 h3 (b0 hd)
   have hpd':PD (r+1) (mr a):=fun l hl=>by
    by_cases e:l=r
    ·rw[e];exact hel
    ·exact hpd l (by omega)
   obtain⟨P1,q1,e1⟩:=I0 hN hm hb (show r<m by omega) (fun l hl=>hpd'.ne hl) (pi:=pi) (m:Int) (r:Int) (fun y62 y63 y64 y65 y66 y67 y68 y69=>bif decide (0≤y63)&&decide (y63<(y67.length:Int))then(bif decide (0≤y63)&&decide (y63<((y66.getD (y67.getD y63.toNat 0) []).length:Int))then Q68.l5 N n y62 y64 (fA (y65+1)) y66 y67 (((y66.getD (y67.getD y63.toNat 0) []).getD y63.toNat (false,([]:W6))).1) (((y66.getD (y67.getD y63.toNat 0) []).getD y63.toNat (false,([]:W6))).2) k0 kr else none)else none) (m- (r+1)) (r+1) N P M (by omega) (by omega) (by omega) hM (fun b hb1 hb2=>h1 r b (hE _) (by omega) hb1 hb2) (fun x y hx hxm hy hym=>h1 x y (by omega) hxm hy hym);rw[e1];have g2:=q1.get (i:=r) (j:=r) (by omega) (by omega) (false,([]:W6));rw[if_neg (by omega),h1 r r (hE _) (by omega) (hE _) (by omega),←tJ]at g2;simp only[lD,iC,zE,aE,q1.pl,q1.len (show r<m by omega),d1,cond_true,g2,bK,cK,qB (show r<1000000 by omega)];exact ih (r+1) n P1 _ (by omega) (by omega) hpd' q1 (fun x y hx hxm hy hym=>by rw[if_pos ⟨by omega,by omega⟩])
end
section
variable {N:Nat}(hN:1000000001<N){m:Nat}(hm:m≤8){a:W5}(hs:Sq m a)(hb:∀i j,i<m→j<m→ -16384≤av a i j∧av a i j≤16384)
theorem eM {x:Int}(h: -16384≤x∧x≤16384):Bd 15 x:=by unfold Bd;rw[show 2^15=32768 from rfl];omega
include hN hm hs hb
theorem wZ:∃b:Bool,(b=true↔PD m (mr (av a)))∧Q68.f N a=some b:=by
 obtain⟨P,pi,q1,e1⟩:=Bl hN (show m≤16 by omega) hs fun i j hi hj=>(eM (hb i j hi hj)).mono (by omega);obtain⟨b,h1,h2⟩:=Jg (R:=Bool) hN hm hb (pi:=pi) (fun _=>some true) (fun y=>some y) m 0 N P _ (by omega) (by omega) (fun r hr=>by omega) q1 (fun x y _ _ _ _=>(bn x y).symm);refine⟨b,h1,?_⟩;unfold Q68.f;rw[hs.1,e1];simp only[pC];rw[lg hN (oR (show 0<63 by omega)) (hE _)];simp only[pC];rw[zR,hJ]at h2;rw[h2];cases b<;>rfl
end
structure lW (m:Nat)(a:W5):Prop where
 lo:1≤m
 hi:m≤8
 sq:Sq m a
 bd:∀i j,i<m→j<m→ -16384≤av a i j∧av a i j≤16384
 sym:∀i j,i<m→j<m→av a i j=av a j i
 pd:PD m (mr (av a))
theorem vW {N:Nat}(hN:1000000001<N){a:W5}(h1:a.length≤100)(h2:∀i,(a.getD i []).length≤100):∃c,Q69.f N a=some c∧(c=0↔lW a.length a):=by
 unfold Q69.f;by_cases c1:(a.length:Int)<1
 ·rw[decide_eq_true c1];exact⟨5,rfl,⟨fun h=>(by cases h),fun h=>by have:=h.lo;omega⟩⟩
 rw[decide_eq_false c1];by_cases c2:(a.length:Int)>8
 ·rw[decide_eq_true c2];exact⟨5,rfl,⟨fun h=>(by cases h),fun h=>by have:=h.hi;omega⟩⟩
 rw[decide_eq_false c2];simp only[cond_false];have e1:=fun k0 kr=>uf (N:=N) (R:=Int) a.length a (by omega) k0 kr a.length 0 N (by omega) (by omega);simp only[hJ]at e1;rw[e1];cases c3:oF (fun i=>(a.getD i []).length==a.length) a.length 0 with
 |false=>refine⟨5,rfl,⟨fun h=>(by cases h),fun h=>?_⟩⟩;rw[rD.2 fun j _ hj=>beq_iff_eq.2 (h.sq.2 j (by omega))]at c3;cases c3
 |true=>
  have hs:Sq a.length a:=⟨rfl,fun i hi=>beq_iff_eq.1 (rD.1 c3 i (by omega) (by omega))⟩
  simp only[cond_true];have e2:=fun k0 kr=>Da (R:=Bool×W5) hN a (by omega) (fun i=>by have:=h2 i;omega) k0 kr a.length 0 N (by omega) (by omega);simp only[hJ]at e2;unfold Q64.f;rw[e2];cases c4:oF (fun i=>oF (fun j=>wL (av a i j)) (a.getD i []).length 0) a.length 0 with
  |false=>refine⟨3,rfl,⟨fun h=>(by cases h),fun h=>?_⟩⟩;rw[rD.2 fun i _ hi=>rD.2 fun j _ hj=>by have:=h.bd i j (by omega) (by rw[hs.2 i (by omega)]at hj;omega);unfold wL;rw[decide_eq_true this.1,decide_eq_true this.2];rfl]at c4;cases c4
  |true=>
   have hb:∀i j,i<a.length→j<a.length→ -16384≤av a i j∧av a i j≤16384:=fun i j hi hj=>by have:=rD.1 (rD.1 c4 i (by omega) (by omega)) j (by omega) (by rw[hs.2 i hi];omega);unfold wL at this;simpa using this
   simp only[cond_true,pC,j1,cond_false];have e3:=fun k0 kr=>Db (R:=Bool×W5) hN hs (by omega) k0 kr a.length 0 N (by omega) (by omega);simp only[hJ]at e3;unfold Q65.f;rw[e3];cases c5:oF (fun i=>oF (fun j=>av a i j==av a j i) a.length 0) a.length 0 with
   |false=>refine⟨6,rfl,⟨fun h=>(by cases h),fun h=>?_⟩⟩;rw[rD.2 fun i _ hi=>rD.2 fun j _ hj=>beq_iff_eq.2 (h.sym i j (by omega) (by omega))]at c5;cases c5
   |true=>
    have hsy:∀i j,i<a.length→j<a.length→av a i j=av a j i:=fun i j hi hj=>beq_iff_eq.1 (rD.1 (rD.1 c5 i (by omega) (by omega)) j (by omega) (by omega));simp only[cond_true,pC,j1,cond_false];obtain⟨b,hb1,hb2⟩:=wZ hN (show a.length≤8 by omega) hs hb;rw[hb2];simp only[pC];cases b with
    |false=>exact⟨6,rfl,⟨fun h=>(by cases h),fun h=>by have:=hb1.2 h.pd;cases this⟩⟩
    |true=>exact⟨0,rfl,⟨fun _=>⟨by omega,by omega,hs,hb,hsy,hb1.1 rfl⟩,fun _=>rfl⟩⟩
theorem pI {N:Nat}(hN:1000000001<N){m:Nat}{a:W5}(h:lW m a):Q69.f N a=some 0:=by
 have hl:=h.sq.1;have hm:=h.hi;obtain⟨c,h1,h2⟩:=vW hN (a:=a) (by omega) fun i=>by
  by_cases hi:i<m
  ·have:=h.sq.2 i hi;omega
  ·rw[yK,j2 (by omega)];simp
 rw[h1,h2.2 (by rw[hl];exact h)]
theorem Fi (x:Int):Int.tmod x 2=0↔x%2=0:=by rw[←Int.dvd_iff_tmod_eq_zero,Int.dvd_iff_emod_eq_zero]
theorem th {N:Nat}(hN:1000000001<N){m:Nat}{a:W5}(h:lW m a):∃b:Bool,Q70.f N a=some (b,0)∧(b=true↔∀i,i<m→av a i i%2=0):=by
 have hl:=h.sq.1;have hm:=h.hi;unfold Q70.f;rw[pI hN h];simp only[pC,bne_self_eq_false,cond_false];have e:=fun k0 kr=>D9 (R:=Bool×W5) hN a (by omega) (fun i=>by
  by_cases hi:i<m
  ·have:=h.sq.2 i hi;omega
  ·rw[yK,j2 (by omega)];simp) k0 kr a.length 0 N (by omega) (by omega)
 simp only[hJ]at e;unfold Q63.f;rw[e];refine⟨oF (fun i=>oF (fun j=>decide (i≠j)||(Int.tmod (av a i j) 2==0)) (a.getD i []).length 0) a.length 0,?_,?_⟩
 ·cases oF (fun i=>oF (fun j=>decide (i≠j)||(Int.tmod (av a i j) 2==0)) (a.getD i []).length 0) a.length 0<;>rfl
 ·rw[rD];constructor
  ·intro h' i hi;have h1:=rD.1 (h' i (by omega) (by omega)) i (by omega) (by rw[h.sq.2 i hi];omega);simp only[ne_eq,not_true_eq_false,decide_false,Bool.false_or,beq_iff_eq]at h1;exact(Fi _).1 h1
  ·intro h' i _ hi;refine rD.2 fun j _ hj=>?_;by_cases hij:i=j
   ·subst hij;have:=h' i (by omega);simp only[ne_eq,not_true_eq_false,decide_false,Bool.false_or,beq_iff_eq];exact(Fi _).2 this
   ·simp[hij]
section
variable {N:Nat}(hN:1000000001<N){R:Type}{m:Nat}(hm:m≤16)
include hN hm
omit hm in
theorem nz {a:W5}(hs:Sq m a)(hb:∀i j,i<m→j<m→Bd 63 (av a i j)){i j:Nat}(hi:i<m)(hj:j<m):Q74.f N (i:Int) (j:Int) a=some (sg (av a i j),pB (av a i j),a):=by
 have e1:=lg hN (hb i j hi hj) (hE _);unfold av at e1;simp only[Q74.f,lD,iC,zE,aE,hs.1,hs.2 i hi,decide_eq_true hi,decide_eq_true hj,cond_true,e1,pC];rfl
theorem Je {a:W5}(hs:Sq m a)(hb:∀i j,i<m→j<m→Bd 63 (av a i j)){i:Nat}(hi:i<m)(x9 x11 x12:Int)(P:W2)(pi:W7)(k2:Int→Int→Int→W5→W2→W7→W3→Option R):∀k j n,j+k=m→k<n→
  Q79.l7 N n x9 (i:Int) x11 x12 (m:Int) (j:Int) a P pi (row zq m fun t=>if t<j then(av a) i t else 0) k2=k2 x9 x11 x12 a P pi (row zq m ((av a) i)):=by
 intro k;induction k with
 |zero=>
  intro j n hj hn;obtain⟨n,rfl⟩:∃q,n=q+1:=⟨n-1,by omega⟩
  rw[Q79.l7,lD,decide_eq_false (by omega),mB zq (g:=(av a) i) fun t ht=>if_pos (by omega)];rfl
 |succ k ih=>
  intro j n hj hn;obtain⟨n,rfl⟩:∃q,n=q+1:=⟨n-1,by omega⟩
  have d1:decide (j<m)=true:=decide_eq_true (by omega);have e1:=nz hN hs hb hi (show j<m by omega);rw[Q79.l7];simp only[e1,lD,iC,zE,aE,d1,cond_true,pC,bC,qB (show j<1000000 by omega)];rw[show(sg ((av a) i j),pB ((av a) i j))=zq ((av a) i j)from rfl,lG,←ih (j+1) n (by omega) (by omega)];congr 1;refine mB zq fun t ht=>?_;by_cases h:t=j
  ·subst h;rw[if_pos rfl,if_pos (by omega)]
  ·rw[if_neg h];by_cases h':t<j
   ·rw[if_pos h',if_pos (by omega)]
   ·rw[if_neg h',if_neg (by omega)]
theorem Jd {a:W5}(hs:Sq m a)(hb:∀i j,i<m→j<m→Bd 63 (av a i j))(k0:W5→W2→W7→Option R):∀k i n P pi,i+k=m→k<n→Mx zq i (fun _=>m) P pi (av a)→
  ∃P' pi',Mx zq m (fun _=>m) P' pi' (av a)∧Q79.l3 N n (m:Int) (m:Int) (i:Int) a P pi k0=k0 a P' pi':=by
 intro k;induction k with
 |zero=>
  intro i n P pi hi hn hM;obtain⟨n,rfl⟩:∃q,n=q+1:=⟨n-1,by omega⟩
  rw[Q79.l3,lD,decide_eq_false (by omega)];obtain rfl:i=m:=by omega
  exact⟨P,pi,hM,rfl⟩
 |succ k ih=>
  intro i n P pi hi hn hM;obtain⟨n,rfl⟩:∃q,n=q+1:=⟨n-1,by omega⟩
  have d1:decide (i<m)=true:=decide_eq_true (by omega);have h2:=ih (i+1) n _ _ (by omega) (by omega) ((hM.push m ((av a) i)).cast (len':=fun _=>m) (M':=(av a)) (fun x _=>by by_cases h:x=i<;>simp[h]) fun x y _ _=>by by_cases h:x=i<;>simp[h]);rw[Q79.l3];simp only[lD,d1,cond_true,tD,iC,eQ (show m≤1000 by omega),dC (show m≤1000 by omega) (show 32≤1000 by omega),hV,aE,n0];rw[←lb,nH zq m 0,mB zq (g:=fun t=>if t<0 then(av a) i t else 0) fun t _=>(if_neg (by omega)).symm];have e7:=fun P pi k2=>Je (R:=R) hN hm hs hb (i:=i) (by omega) (m:Int) (m:Int) (i:Int) P pi k2 m 0 N (by omega) (by omega);simp only[hJ]at e7;rw[e7];simp only[hM.pl,dC (show i+1≤1000 by omega) (show 24≤1000 by omega),cond_true,qB (show i<1000000 by omega)];exact h2
theorem Ae {a:W5}(hs:Sq m a)(hb:∀i j,i<m→j<m→Bd 63 (av a i j)):∃P pi,Mx zq m (fun _=>m) P pi (av a)∧Q79.f N (m:Int) (m:Int) a=some (P,pi,a):=by
 obtain⟨P,pi,h1,h2⟩:=Jd hN hm hs hb _ m 0 N [] [] (by omega) (by omega) (bR zq _ _);exact⟨P,pi,h1,h2⟩
theorem bQ {P:W2}{pi:W7}{M:Nat→Nat→Int}(hM:Mx zq m (fun _=>m) P pi M)(h1:1≤m):Q77.f N pi P=some ((m:Int),(m:Int),pi,P):=by
 have _:=hN;unfold Q77.f;have e1:((m:Int)==0)=false:=beq_eq_false_iff_ne.2 (by omega);rw[hM.pl,e1,decide_eq_true (show(0:Int)<(m:Int) by omega),hM.len (show 0<m by omega)];rfl
theorem Cu {P:W2}{pi:W7}{M:Nat→Nat→Int}(hM:Mx zq m (fun _=>m) P pi M){i j:Nat}(hi:i<m)(hj:j<m):Q78.f N (i:Int) (j:Int) pi P=some (sg (M i j),pB (M i j),pi,P):=by
 unfold Q78.f;rw[bQ hN hm hM (by omega)];have f1:decide ((i:Int)<0)=false:=decide_eq_false (by omega);have f2:decide ((j:Int)<0)=false:=decide_eq_false (by omega);have f3:decide ((i:Int)≥(m:Int))=false:=decide_eq_false (by omega);have f4:decide ((j:Int)≥(m:Int))=false:=decide_eq_false (by omega);have g:=hM.get hi hj (false,([]:W6));simp only[pC,f1,f2,f3,f4,cond_false,hM.pl,lD,iC,zE,aE,decide_eq_true hi,decide_eq_true hj,cond_true,hM.len hi,g,bK,cK]
theorem Ja {Q:W2}{po:W7}{M:Nat→Nat→Int}(hQ:Mx zq m (fun _=>m) Q po M){i:Nat}(hi:i<m)(x9 x11 x12:Int)(P:W2)(pi:W7)(k2:Int→Int→Int→W7→W2→W2→W7→W3→Option R):∀k j n,j+k=m→k<n→
  Q82.l7 N n x9 (i:Int) x11 x12 (m:Int) (j:Int) po Q P pi (row zq m fun t=>if t<j then M i t else 0) k2=k2 x9 x11 x12 po Q P pi (row zq m (M i)):=by
 intro k;induction k with
 |zero=>
  intro j n hj hn;obtain⟨n,rfl⟩:∃q,n=q+1:=⟨n-1,by omega⟩
  rw[Q82.l7,lD,decide_eq_false (by omega),mB zq (g:=M i) fun t ht=>if_pos (by omega)];rfl
 |succ k ih=>
  intro j n hj hn;obtain⟨n,rfl⟩:∃q,n=q+1:=⟨n-1,by omega⟩
  have d1:decide (j<m)=true:=decide_eq_true (by omega);have e1:=Cu hN hm hQ hi (show j<m by omega);rw[Q82.l7];simp only[e1,lD,iC,zE,aE,d1,cond_true,pC,bC,qB (show j<1000000 by omega)];rw[show(sg (M i j),pB (M i j))=zq (M i j)from rfl,lG,←ih (j+1) n (by omega) (by omega)];congr 1;refine mB zq fun t ht=>?_;by_cases h:t=j
  ·subst h;rw[if_pos rfl,if_pos (by omega)]
  ·rw[if_neg h];by_cases h':t<j
   ·rw[if_pos h',if_pos (by omega)]
   ·rw[if_neg h',if_neg (by omega)]
theorem J9 {Q:W2}{po:W7}{M:Nat→Nat→Int}(hQ:Mx zq m (fun _=>m) Q po M)(k0:W7→W2→W2→W7→Option R):∀k i n P pi,i+k=m→k<n→Mx zq i (fun _=>m) P pi M→
  ∃P' pi',Mx zq m (fun _=>m) P' pi' M∧Q82.l3 N n (m:Int) (m:Int) (i:Int) po Q P pi k0=k0 po Q P' pi':=by
 intro k;induction k with
 |zero=>
  intro i n P pi hi hn hM;obtain⟨n,rfl⟩:∃q,n=q+1:=⟨n-1,by omega⟩
  rw[Q82.l3,lD,decide_eq_false (by omega)];obtain rfl:i=m:=by omega
  exact⟨P,pi,hM,rfl⟩
 |succ k ih=>
  intro i n P pi hi hn hM;obtain⟨n,rfl⟩:∃q,n=q+1:=⟨n-1,by omega⟩
  have d1:decide (i<m)=true:=decide_eq_true (by omega);have h2:=ih (i+1) n _ _ (by omega) (by omega) ((hM.push m (M i)).cast (len':=fun _=>m) (M':=M) (fun x _=>by by_cases h:x=i<;>simp[h]) fun x y _ _=>by by_cases h:x=i<;>simp[h]);rw[Q82.l3];simp only[lD,d1,cond_true,tD,iC,eQ (show m≤1000 by omega),dC (show m≤1000 by omega) (show 32≤1000 by omega),hV,aE,n0];rw[←lb,nH zq m 0,mB zq (g:=fun t=>if t<0 then M i t else 0) fun t _=>(if_neg (by omega)).symm];have e7:=fun P pi k2=>Ja (R:=R) hN hm hQ (i:=i) (by omega) (m:Int) (m:Int) (i:Int) P pi k2 m 0 N (by omega) (by omega);simp only[hJ]at e7;rw[e7];simp only[hM.pl,dC (show i+1≤1000 by omega) (show 24≤1000 by omega),cond_true,qB (show i<1000000 by omega)];exact h2
theorem Ab {Q:W2}{po:W7}{M:Nat→Nat→Int}(hQ:Mx zq m (fun _=>m) Q po M):∃P pi,Mx zq m (fun _=>m) P pi M∧Q82.f N (m:Int) (m:Int) po Q=some (P,pi,po,Q):=by
 obtain⟨P,pi,h1,h2⟩:=J9 hN hm hQ _ m 0 N [] [] (by omega) (by omega) (bR zq _ _);exact⟨P,pi,h1,h2⟩
end
section
variable {N:Nat}(hN:1000000001<N){R:Type}{m:Nat}(hm:m≤8){a:Nat→Nat→Int}(hb:∀i j,i<m→j<m→ -16384≤a i j∧a i j≤16384)
include hN hm hb
theorem Jr {r i:Nat}(hri:r<i)(hi:i<m)(hp:∀l,l<r+1→el (mr a) l l l≠0){pi:W7}(s:Int)(po:W7)(Q:W2)(w:Bool)(k6:Int→Int→Int→Int→Int→Int→W7→W2→Bool→W2→W7→Bool→W6→Option R):∀k j n P (M:Nat→Nat→Int),j+k=m→r<j→k<n→Mx zq m (fun _=>m) P pi M→
  (∀b,r≤b→b<m→M r b=bz a r r b)→M i r=bz a r i r→(∀b,j≤b→b<m→M i b=bz a r i b)→
  ∃P',Mx zq m (fun _=>m) P' pi (fun x y=>if x=i∧j≤y then bz a (r+1) x y else M x y)∧Q88.l18 N n (m:Int) (m:Int) s (r:Int) (r:Int) (i:Int) (j:Int) po Q w P pi (sg (dz a r)) (pB (dz a r)) k6=k6 (m:Int) (m:Int) s (r:Int) (r:Int) (i:Int) po Q w P' pi (sg (dz a r)) (pB (dz a r)):=by
 intro k;induction k with
 |zero=>
  intro j n P M hj hrj hn hM h1 h2 h3;obtain⟨n,rfl⟩:∃q,n=q+1:=⟨n-1,by omega⟩
  rw[Q88.l18,lD,decide_eq_false (by omega)];exact⟨P,hM.ext fun x y _ hy=>by rw[if_neg (by omega)],rfl⟩
 |succ k ih=>
  intro j n P M hj hrj hn hM h1 h2 h3;obtain⟨n,rfl⟩:∃q,n=q+1:=⟨n-1,by omega⟩
  have hp':∀l,l<r→el (mr a) l l l≠0:=fun l hl=>hp l (by omega);have d1:decide (j<m)=true:=decide_eq_true (by omega);have d2:decide (r<m)=true:=decide_eq_true (by omega);have d3:decide (i<m)=true:=decide_eq_true (by omega);have b1:Bd 128 (bz a r r r):=iM hm hb hp' (hE _) (hE _) (by omega) (by omega);have b2:Bd 128 (bz a r i j):=iM hm hb hp' (by omega) (by omega) (by omega) (by omega);have b3:Bd 128 (bz a r i r):=iM hm hb hp' (by omega) (hE _) (by omega) (by omega);have b4:Bd 128 (bz a r r j):=iM hm hb hp' (hE _) (by omega) (by omega) (by omega);have b5:Bd 128 (dz a r):=im hm hb hp' (by omega);have e1:=kz hN b1 b2 (by omega);have e2:=kz hN b3 b4 (by omega);have e3:=Es hN (b1.mul b2) (b3.mul b4) (by omega);have e4:=fv hN ((b1.mul b2).sub (b3.mul b4)) b5 (by omega) (by omega) (v7 hp') (nO hp hri hrj).1;rw[(nO hp hri hrj).2]at e4;have g1:=hM.get (i:=r) (j:=r) (by omega) (by omega) (false,([]:W6));have g2:=hM.get (i:=i) (j:=j) (by omega) (by omega) (false,([]:W6));have g3:=hM.get (i:=i) (j:=r) (by omega) (by omega) (false,([]:W6));have g4:=hM.get (i:=r) (j:=j) (by omega) (by omega) (false,([]:W6));rw[h1 r (hE _) (by omega)]at g1;rw[h3 j (hE _) (by omega)]at g2;rw[h2]at g3;rw[h1 j (by omega) (by omega)]at g4;obtain⟨P',q1,q2⟩:=ih (j+1) n _ _ (by omega) (by omega) (by omega) (hM.set hi j (bz a (r+1) i j)) (fun b hb1 hb2=>by rw[if_neg (by omega)];exact h1 b hb1 hb2) (by rw[if_neg (by omega)];exact h2) (fun b hb1 hb2=>by rw[if_neg (by omega)];exact h3 b (by omega) hb2);refine⟨P',q1.ext fun x y _ _=>?_,?_⟩
  ·by_cases hx:x=i
   ·subst hx;by_cases hy:y=j
    ·subst hy;rw[if_neg (by omega),if_pos ⟨rfl,rfl⟩,if_pos ⟨rfl,hE _⟩]
    ·by_cases hy':j+1≤y
     ·rw[if_pos ⟨rfl,hy'⟩,if_pos ⟨rfl,by omega⟩]
     ·rw[if_neg (by omega),if_neg (by omega),if_neg (by omega)]
   ·rw[if_neg (by omega),if_neg (by omega),if_neg (by omega)]
  ·rw[Q88.l18];simp only[lD,iC,zE,aE,hM.pl,hM.len hi,hM.len (show r<m by omega),d1,d2,d3,cond_true,g1,g2,g3,g4,bK,cK,e1,e2,e3,e4,pC,qB (show j<1000000 by omega)];exact q2
theorem Jq {r:Nat}(hr:r<m)(hp:∀l,l<r+1→el (mr a) l l l≠0){pi:W7}(s:Int)(po:W7)(Q:W2)(w:Bool)(k4:Int→Int→Int→Int→Int→W7→W2→Bool→W2→W7→Bool→W6→Option R):∀k i n P (M:Nat→Nat→Int),i+k=m→r<i→k<n→Mx zq m (fun _=>m) P pi M→
  (∀b,r≤b→b<m→M r b=bz a r r b)→(∀x y,i≤x→x<m→r≤y→y<m→M x y=bz a r x y)→
  ∃P' M',Mx zq m (fun _=>m) P' pi M'∧(∀x y,x<i→M' x y=M x y)∧(∀x y,i≤x→x<m→r<y→y<m→M' x y=bz a (r+1) x y)∧Q88.l15 N n (m:Int) (m:Int) s (r:Int) (r:Int) (i:Int) po Q w P pi (sg (dz a r)) (pB (dz a r)) k4=k4 (m:Int) (m:Int) s (r:Int) (r:Int) po Q w P' pi (sg (dz a r)) (pB (dz a r)):=by
 intro k;induction k with
 |zero=>
  intro i n P M hi hri hn hM h1 h2;obtain⟨n,rfl⟩:∃q,n=q+1:=⟨n-1,by omega⟩
  rw[Q88.l15,lD,decide_eq_false (by omega)];exact⟨P,M,hM,fun _ _ _=>rfl,fun x y hx hxm=>by omega,rfl⟩
 |succ k ih=>
  intro i n P M hi hri hn hM h1 h2;obtain⟨n,rfl⟩:∃q,n=q+1:=⟨n-1,by omega⟩
  have d1:decide (i<m)=true:=decide_eq_true (by omega);have d2:decide (r<m)=true:=decide_eq_true hr;have him:i<m:=by omega
  rw[Q88.l15];simp only[lD,d1,cond_true,qB (show r<1000000 by omega)];obtain⟨P1,q1,e1⟩:=Jr (R:=R) hN hm hb hri him hp (pi:=pi) s po Q w (fun y102 y103 y104 y105 y106 y107 y108 y109 y110 y111 y112 y113 y114=>bif decide (0≤y107)&&decide (y107<(y112.length:Int))then(bif decide (0≤y106)&&decide (y106<((y111.getD (y112.getD y107.toNat 0) []).length:Int))then Q88.l15 N n y102 y103 y104 y105 y106 (fA (y107+1)) y108 y109 y110 (y111.set (y112.getD y107.toNat 0) ((y111.getD (y112.getD y107.toNat 0) []).set y106.toNat (false,[]))) y112 y113 y114 k4 else none)else none) (m- (r+1)) (r+1) N P M (by omega) (by omega) (by omega) hM h1 (h2 i r (hE _) him (hE _) hr) (fun b hb1 hb2=>h2 i b (hE _) him (by omega) hb2);rw[e1];have q2:=q1.set him r 0;rw[lb]at q2;obtain⟨P2,M2,q3,f1,f2,e2⟩:=ih (i+1) n _ _ (by omega) (by omega) (by omega) q2 (fun b hb1 hb2=>by rw[if_neg (by omega),if_neg (by omega)];exact h1 b hb1 hb2) (fun x y hx hxm hy hym=>by rw[if_neg (by omega),if_neg (by omega)];exact h2 x y (by omega) hxm hy hym);refine⟨P2,M2,q3,fun x y hx=>by rw[f1 x y (by omega),if_neg (by omega),if_neg (by omega)],fun x y hx hxm hy hym=>?_,?_⟩
  ·by_cases h:x=i
   ·subst h;rw[f1 x y (by omega),if_neg (by omega),if_pos ⟨rfl,by omega⟩]
   ·exact f2 x y (by omega) hxm hy hym
  ·simp only[lD,iC,zE,aE,q1.pl,q1.len him,d1,d2,cond_true,qB (show i<1000000 by omega)];exact e2
theorem Kg {pi:W7}(po:W7)(Q:W2)(w:Bool)(hpd:PD m (mr a))(k0:Int→Int→Int→W7→W2→Bool→Bool→W6→Option R):∀k r n P (M:Nat→Nat→Int),r+k=m→k<n→Mx zq m (fun _=>m) P pi M→
  (∀x y,r≤x→x<m→r≤y→y<m→M x y=bz a r x y)→
  Q88.l5 N n (m:Int) (m:Int) 1 (r:Int) (r:Int) po Q w P pi (sg (dz a r)) (pB (dz a r)) k0=k0 (m:Int) 1 (m:Int) po Q w (sg (dz a m)) (pB (dz a m)):=by
 intro k;induction k with
 |zero=>
  intro r n P M hr hn hM h1;obtain⟨n,rfl⟩:∃q,n=q+1:=⟨n-1,by omega⟩
  obtain rfl:r=m:=by omega
  rw[Q88.l5,lD,decide_eq_false (by omega)];rfl
 |succ k ih=>
  intro r n P M hr hn hM h1;obtain⟨n,rfl⟩:∃q,n=q+1:=⟨n-1,by omega⟩
  obtain⟨N',hN'⟩:∃q,N=q+1:=⟨N-1,by omega⟩
  have hrm:r<m:=by omega
  have hp':∀l,l<r→el (mr a) l l l≠0:=fun l hl=>hpd.ne (by omega);have d1:decide (r<m)=true:=decide_eq_true hrm;have b1:Bd 128 (bz a r r r):=iM hm hb hp' (hE _) (hE _) hrm hrm;have g1:=hM.get (i:=r) (j:=r) hrm hrm (false,([]:W6));rw[h1 r r (hE _) hrm (hE _) hrm]at g1;have hne:bz a r r r≠0:=by have:=v7 (a:=a) (r:=r+1) fun l hl=>hpd.ne (by omega);rwa[tJ]at this
  have c1:(((r:Nat):Int)==(m:Int))=false:=beq_eq_false_iff_ne.2 (by omega);rw[Q88.l5];simp only[lD,d1,cond_true];rw[show Q88.l8 (R:=R) N N=Q88.l8 N (N'+1) by rw[←hN'],Q88.l8];simp only[lD,iC,zE,aE,hM.pl,hM.len hrm,d1,cond_true,g1,bK,cK,ao b1 (show 128≤4096 by omega),pC,I7,decide_eq_false hne,cond_false,c1,bne_self_eq_false,qB (show r<1000000 by omega)];obtain⟨P1,M1,q1,f1,f2,e1⟩:=Jq (R:=R) hN hm hb hrm (fun l hl=>hpd.ne (by omega)) (pi:=pi) 1 po Q w (fun y139 y140 y141 y142 y143 y144 y145 y146 y147 y148 y149 y150=>bif decide (0≤y142)&&decide (y142<(y148.length:Int))then(bif decide (0≤y143)&&decide (y143<((y147.getD (y148.getD y142.toNat 0) []).length:Int))then Q88.l5 N n y139 y140 y141 (fA (y142+1)) (fA (y143+1)) y144 y145 y146 y147 y148 (((y147.getD (y148.getD y142.toNat 0) []).getD y143.toNat (false,([]:W6))).1) (((y147.getD (y148.getD y142.toNat 0) []).getD y143.toNat (false,([]:W6))).2) k0 else none)else none) (m- (r+1)) (r+1) N P M (by omega) (by omega) (by omega) hM (fun b hb1 hb2=>h1 r b (hE _) hrm hb1 hb2) (fun x y hx hxm hy hym=>h1 x y (by omega) hxm hy hym);rw[e1];have g2:=q1.get (i:=r) (j:=r) hrm hrm (false,([]:W6));rw[f1 r r (by omega),h1 r r (hE _) hrm (hE _) hrm,←tJ]at g2;simp only[lD,iC,zE,aE,q1.pl,q1.len hrm,d1,cond_true,g2,bK,cK,qB (show r<1000000 by omega)];exact ih (r+1) n P1 M1 (by omega) (by omega) q1 (fun x y hx hxm hy hym=>f2 x y (by omega) hxm (by omega) hym)
omit hm hb in
theorem Im (hM16:m≤16){i:Nat}(hi:i<m){P:W2}{pi:W7}{M:Nat→Nat→Int}(hM:Mx zq m (fun _=>m) P pi M)(hb:∀i j,i<m→j<m→Bd 15 (M i j))(x9 x10:Int)(k2:Int→Int→Int→W7→W2→Option R):∀k j n w,j+k=m→k<n→0≤w→w≤15→
  ∃w',0≤w'∧w'≤15∧Q86.l6 N n w x9 x10 (pi.getD i 0) (m:Int) (j:Int) pi P k2=k2 w' x9 x10 pi P:=by
 have _:=hN;intro k;induction k with
 |zero=>
  intro j n w hj hn h0 h1;obtain⟨n,rfl⟩:∃q,n=q+1:=⟨n-1,by omega⟩
  rw[Q86.l6,lD,decide_eq_false (by omega)];exact⟨w,h0,h1,rfl⟩
 |succ k ih=>
  intro j n w hj hn h0 h1;obtain⟨n,rfl⟩:∃q,n=q+1:=⟨n-1,by omega⟩
  have hjm:j<m:=by omega
  have g:=hM.get hi hjm (false,([]:W6));have hbj:=hb i j hi hjm;have hz:=hbj.zr (show 15≤4096 by omega);have e1:=mO (N:=N) hz;have hbl:sD (ab (M i j))≤15:=fK hz.lo 15 (by
    rw[cM];unfold Bd at hbj;have:(2:Int)^15=((2^15:Nat):Int):=by simp
    rw[this];omega)
  have hb0:=vC (ab (M i j));obtain⟨w',a1,a2,a3⟩:=ih (j+1) n (Dp w (sD (ab (M i j)))) (by omega) (by omega) (by unfold Dp;split<;>omega) (by unfold Dp;split<;>omega);refine⟨w',a1,a2,?_⟩;rw[Q86.l6];simp only[lD,iC,zE,aE,hM.len hi,decide_eq_true hjm,cond_true,g,bK,cK,Hd,pC,qB (show j<1000000 by omega)];rw[show Q6.f N (pB (M i j))=_ from e1];exact a3
omit hm hb in
theorem Il (hM16:m≤16){P:W2}{pi:W7}{M:Nat→Nat→Int}(hM:Mx zq m (fun _=>m) P pi M)(hb:∀i j,i<m→j<m→Bd 15 (M i j))(k0:Int→W7→W2→Option R):∀k i n w,i+k=m→k<n→0≤w→w≤15→
  ∃w',0≤w'∧w'≤15∧Q86.l3 N n w (m:Int) (i:Int) pi P k0=k0 w' pi P:=by
 intro k;induction k with
 |zero=>
  intro i n w hj hn h0 h1;obtain⟨n,rfl⟩:∃q,n=q+1:=⟨n-1,by omega⟩
  rw[Q86.l3,lD,decide_eq_false (by omega)];exact⟨w,h0,h1,rfl⟩
 |succ k ih=>
  intro i n w hi hn h0 h1;obtain⟨n,rfl⟩:∃q,n=q+1:=⟨n-1,by omega⟩
  have him:i<m:=by omega
  rw[Q86.l3];simp only[lD,iC,zE,aE,hM.pl,hM.len him,decide_eq_true him,cond_true];obtain⟨w1,a1,a2,a3⟩:=Im (R:=R) hN hM16 him hM hb (m:Int) (i:Int) (fun y23 y24 y25 y26 y27=>Q86.l3 N n y23 y24 (fA (y25+1)) y26 y27 k0) m 0 N w (by omega) (by omega) h0 h1;simp only[hJ]at a3;rw[a3];simp only[qB (show i<1000000 by omega)];exact ih (i+1) n w1 (by omega) (by omega) a1 a2
end
theorem ue (N:Nat):∀m:Nat,1≤m→m≤8→∃v,Q2.f N (dB (m:Int))=some v∧0≤v∧v≤4:=by
 intro m h1 h8;have:m=1∨m=2∨m=3∨m=4∨m=5∨m=6∨m=7∨m=8:=by omega
 rcases this with rfl|rfl|rfl|rfl|rfl|rfl|rfl|rfl
 ·exact⟨1,by kernel_rfl,by omega,by omega⟩
 ·exact⟨2,by kernel_rfl,by omega,by omega⟩
 ·exact⟨2,by kernel_rfl,by omega,by omega⟩
 ·exact⟨3,by kernel_rfl,by omega,by omega⟩
 ·exact⟨3,by kernel_rfl,by omega,by omega⟩
 ·exact⟨3,by kernel_rfl,by omega,by omega⟩
 ·exact⟨3,by kernel_rfl,by omega,by omega⟩
 ·exact⟨4,by kernel_rfl,by omega,by omega⟩
section
variable {N:Nat}(hN:1000000001<N){m:Nat}
include hN
theorem kg (h1:1≤m)(h8:m≤8){P:W2}{pi:W7}{M:Nat→Nat→Int}(hM:Mx zq m (fun _=>m) P pi M)(hb:∀i j,i<m→j<m→Bd 15 (M i j)):Q87.f N pi P=some (0,pi,P):=by
 unfold Q87.f Q86.f;rw[bQ hN (show m≤16 by omega) hM h1];simp only[pC,bne_self_eq_false,cond_false];obtain⟨w,w0,w1,e1⟩:=Il (R:=Bool×W7×W2) hN (show m≤16 by omega) hM hb (fun y31 y32 y33=>(Q77.f N y32 y33).bind fun r34=>(Q2.f N (dB (Fc r34.1 r34.2.1))).bind fun r35=>some (decide ((fA ((fA (2*(Fc r34.1 r34.2.1)))*(fA (y31+r35))))>4096),r34.2.2.1,r34.2.2.2)) m 0 N 0 (by omega) (by omega) (by omega) (by omega);simp only[hJ]at e1;rw[hM.pl,e1,bQ hN (show m≤16 by omega) hM h1];obtain⟨v,v1,v2,v3⟩:=ue N m h1 h8;have em:Fc (m:Int) (m:Int)=(m:Int):=by unfold Fc;rw[if_neg (by omega)]
 simp only[pC,em,v1];rw[aB (n:=2*(m:Int)) (by omega) (by omega),aB (n:=w+v) (by omega) (by omega)];have hmul:2*(m:Int)*(w+v)≤16*19:=Int.mul_le_mul (by omega) (by omega) (by omega) (by omega);have hmul0:0≤2*(m:Int)*(w+v):=Int.mul_nonneg (by omega) (by omega);rw[aB (by omega) (by omega),decide_eq_false (by omega)];rfl
theorem uk (h1:1≤m)(h8:m≤8){P:W2}{pi:W7}{M:Nat→Nat→Int}(hM:Mx zq m (fun _=>m) P pi M)(hb:∀i j,i<m→j<m→ -16384≤M i j∧M i j≤16384)(hpd:PD m (mr M)):Q89.f N pi P=some (sg (dz M m),pB (dz M m),0,pi,P):=by
 unfold Q89.f;rw[kg hN h1 h8 hM fun i j hi hj=>eM (hb i j hi hj)];simp only[pC,bne_self_eq_false,cond_false];unfold Q88.f;rw[bQ hN (show m≤16 by omega) hM h1];simp only[pC];obtain⟨P1,pi1,q1,e1⟩:=Ab hN (show m≤16 by omega) hM;rw[e1];simp only[pC];rw[lg hN (oR (show 0<63 by omega)) (hE _)];simp only[pC];have e5:=Kg (R:=Int×Bool×W6×W7×W2) hN h8 hb (pi:=pi1) pi P false hpd (fun y159 y160 y161 y162 y163 y164 y165 y166=>bif decide (y161<y159)then some (y161,false,[],y162,y163)else bif decide (y160<0)then(Q27.f N y165 y166).bind fun r169=>some (y161,r169.1,r169.2,y162,y163)else some (y161,y165,y166,y162,y163)) m 0 N P1 M (by omega) (by omega) q1 (fun x y _ _ _ _=>(bn x y).symm);rw[zR,hJ]at e5;rw[e5,lD,decide_eq_false (Nat.lt_irrefl m),decide_eq_false (show ¬(1:Int)<0 by omega)];rfl
omit hN in
theorem ka (hm:1≤m)(h16:m≤16){R:Type}(k0:Unit→Option R)(kr:Bool→Option R):∀k i n,i+k=m→k<n→
  Q71.l2 N n (hR m (m:Int)) (hR m (m:Int)) (m:Int) (i:Int) k0 kr=k0 ():=by
 intro k;induction k with
 |zero=>
  intro i n hi hn;obtain⟨n,rfl⟩:∃q,n=q+1:=⟨n-1,by omega⟩
  rw[Q71.l2,lD,decide_eq_false (by omega)];rfl
 |succ k ih=>
  intro i n hi hn;obtain⟨n,rfl⟩:∃q,n=q+1:=⟨n-1,by omega⟩
  have g:∀t,t<m→(hR m (m:Int)).getD t 0=(m:Int):=fun t ht=>by rw[yK,List.getElem?_replicate,if_pos ht];rfl
  rw[Q71.l2];simp only[n0,lD,iC,zE,aE,decide_eq_true (show i<m by omega),cond_true,g i (by omega),g 0 (by omega),decide_eq_false (show ¬((m:Int)>16) by omega),decide_eq_false (show ¬((m:Int)<1) by omega),cond_false,bne_self_eq_false,qB (show i<1000000 by omega)];rw[decide_eq_true (show(0:Int)<(m:Int) by omega)];exact ih (i+1) n (by omega) (by omega)
theorem zU (hm:1≤m)(h16:m≤16):Q71.f N (hR m (m:Int))=some true:=by
 unfold Q71.f;have:=ka (N:=N) hm h16 (R:=Bool) (fun _=>some true) (fun y=>some y) m 0 N (by omega) (by omega);rw[n0];exact this
omit hN in
theorem db {a:W5}(hs:Sq m a)(h16:m≤16){R:Type}(k0:W6→Option R):∀k i n,i+k=m→k<n→
  Q72.l3 N n a (m:Int) (i:Int) (hR i (m:Int)) k0=k0 (hR m (m:Int)):=by
 intro k;induction k with
 |zero=>
  intro i n hi hn;obtain⟨n,rfl⟩:∃q,n=q+1:=⟨n-1,by omega⟩
  rw[Q72.l3,lD,decide_eq_false (by omega),show i=m by omega];rfl
 |succ k ih=>
  intro i n hi hn;obtain⟨n,rfl⟩:∃q,n=q+1:=⟨n-1,by omega⟩
  rw[Q72.l3];simp only[n0,lD,iC,zE,aE,hs.1,hs.2 i (show i<m by omega),decide_eq_true (show i<m by omega),cond_true,dC (show i+1≤1000 by omega) (show 8≤1000 by omega),qB (show i<1000000 by omega)];rw[show hR i (m:Int)++[(m:Int)]=hR (i+1) (m:Int) by rw[s7]];exact ih (i+1) n (by omega) (by omega)
theorem Dm {a:W5}(h1:1≤m)(h16:m≤16)(hs:Sq m a)(hb:∀i j,i<m→j<m→Bd 63 (av a i j)):∃P pi,Mx zq m (fun _=>m) P pi (av a)∧Q83.f N a=some (P,pi,0):=by
 obtain⟨P,pi,q,e⟩:=Ae hN h16 hs hb;refine⟨P,pi,q,?_⟩;unfold Q83.f Q72.f;have el:=db (N:=N) hs h16 (R:=W6) (fun y7=>some y7) m 0 N (by omega) (by omega);rw[hs.1];have e0:((m:Int)==0)=false:=beq_eq_false_iff_ne.2 (by omega);rw[show Q72.l3 N N a (m:Int) 0 [] (fun y7=>some y7)=some (hR m (m:Int))from el];simp only[pC,zU hN h1 h16,j1,cond_false,e0,decide_eq_true (show(0:Int)<(m:Int) by omega),cond_true,hs.2 0 (by omega),e]
end
theorem tu {N:Nat}(hN:1000000001<N){m:Nat}{a:W5}(h:lW m a):Q91.f N a=some (pB (dz (av a) m),0):=by
 unfold Q91.f;rw[pI hN h];obtain⟨P,pi,q,e⟩:=Dm hN h.lo (show m≤16 by have:=h.hi;omega) h.sq fun i j hi hj=>(eM (h.bd i j hi hj)).mono (by omega);simp only[pC,bne_self_eq_false,cond_false,e,uk hN h.lo h.hi q h.bd h.pd,Hd]
open Go.Proofs.YtijigofaaefldaaGreat.Lat (el dp PD dD pE)
structure Mp {T E:Type}(e:T→E)(k n:Nat)(len:Nat→Nat)(P:List (List E))(pi:W7)(M:Nat→Nat→T):Prop where
 pl:pi.length=n
 at_:∀i,i<k→P.getD (pi.getD i 0) []=row e (len i) (M i)
 in_:∀i,i<k→pi.getD i 0<P.length
 inj:∀i j,i<k→j<k→pi.getD i 0=pi.getD j 0→i=j
section
variable {T E:Type}{e:T→E}{k n:Nat}{ln:Nat→Nat}{P:List (List E)}{pi:W7}{M:Nat→Nat→T}
theorem Mx.mp (h:Mx e n ln P pi M):Mp e n n ln P pi M:=⟨h.pl,h.at_,h.in_,h.inj⟩
theorem Mp.mx (h:Mp e n n ln P pi M):Mx e n ln P pi M:=⟨h.pl,h.at_,h.in_,h.inj⟩
theorem Mp.len (h:Mp e k n ln P pi M){i:Nat}(hi:i<k):(P.getD (pi.getD i 0) []).length=ln i:=by rw[h.at_ i hi,bC]
theorem Mp.get (h:Mp e k n ln P pi M){i j:Nat}(hi:i<k)(hj:j<ln i)(d:E):(P.getD (pi.getD i 0) []).getD j d=e (M i j):=by rw[h.at_ i hi,wE _ _ _ hj]
theorem Mp.ext (h:Mp e k n ln P pi M){M':Nat→Nat→T}(h':∀i j,i<k→j<ln i→M i j=M' i j):Mp e k n ln P pi M':=
 ⟨h.pl,fun i hi=>by rw[h.at_ i hi];exact mB e fun j hj=>h' i j hi hj,h.in_,h.inj⟩
theorem Mp.less (h:Mp e k n ln P pi M){l:Nat}(hl:l≤k):Mp e l n ln P pi M:=⟨h.pl,fun i hi=>h.at_ i (by omega),fun i hi=>h.in_ i (by omega),fun i j hi hj=>h.inj i j (by omega) (by omega)⟩
theorem Mp.set (h:Mp e k n ln P pi M){i:Nat}(hi:i<k)(j:Nat)(v:T):
  Mp e k n ln (P.set (pi.getD i 0) ((P.getD (pi.getD i 0) []).set j (e v))) pi (fun a b=>if a=i∧b=j then v else M a b):=by
 refine⟨h.pl,fun a ha=>?_,fun a ha=>by rw[y0];exact h.in_ a ha,h.inj⟩;rw[aI];by_cases hai:a=i
 ·subst hai;rw[if_pos ⟨rfl,h.in_ a ha⟩,h.at_ a ha,lG];exact mB e fun t ht=>by
   by_cases htj:t=j
   ·rw[if_pos htj,if_pos ⟨rfl,htj⟩]
   ·rw[if_neg htj,if_neg fun q=>htj q.2]
 ·rw[if_neg fun q=>hai (h.inj i a hi ha q.1).symm,h.at_ a ha];exact mB e fun t ht=>by rw[if_neg fun q=>hai q.1]
theorem Mp.fresh (h:Mp e k n ln P pi M)(hk:k<n)(f:Nat→T):Mp e (k+1) n ln (P++[row e (ln k) f]) (pi.set k P.length) (fun i=>if i=k then f else M i):=by
 have hp:∀i,i<k→(pi.set k P.length).getD i 0=pi.getD i 0:=fun i hi=>by rw[aI,if_neg (by omega)]
 have hpk:(pi.set k P.length).getD k 0=P.length:=by rw[aI,if_pos ⟨rfl,by rw[h.pl];exact hk⟩]
 refine⟨by rw[y0,h.pl],fun i hi=>?_,fun i hi=>?_,fun i j hi hj hq=>?_⟩
 ·by_cases hn:i=k
  ·subst hn;rw[hpk,yK,x3 (hE _),if_pos rfl];simp
  ·have hi':i<k:=by omega
   rw[hp i hi',if_neg hn,←h.at_ i hi',yK,n4 (h.in_ i hi'),←yK]
 ·rw[o2];by_cases hn:i=k
  ·subst hn;rw[hpk];simp
  ·rw[hp i (by omega)];have:=h.in_ i (by omega);omega
 ·by_cases hn:i=k
  ·by_cases hm:j=k
   ·omega
   ·rw[hn,hpk,hp j (by omega)]at hq;have:=h.in_ j (by omega);omega
  ·by_cases hm:j=k
   ·rw[hm,hpk,hp i (by omega)]at hq;have:=h.in_ i (by omega);omega
   ·rw[hp i (by omega),hp j (by omega)]at hq;exact h.inj i j (by omega) (by omega) hq
end
section
variable {N:Nat}(hN:1000000001<N){p q r s:Int}
include hN
theorem kV (hp:Bd 2010 p)(hq:Bd 2010 q):Q97.f N (sg p) (pB p) (sg q) (pB q)=some (sg (p*q),pB (p*q)):=by
 unfold Q97.f;rw[kz hN hp hq (by omega)];rfl
theorem ma {k:Nat}(hp:Bd k p)(hq:Bd k q)(hk:k≤4095):Q98.f N (sg p) (pB p) (sg q) (pB q)=some (sg (p-q),pB (p-q)):=by
 unfold Q98.f;rw[Es hN hp hq hk];rfl
end
section
variable {m:Nat}{A:Nat→Nat→Int}(hs:Lat.qQ (mr A))(hp:PD m (mr A))(hB:∀r i k,r≤i→r≤k→i<m→k<m→Bd 1000 (bz A r i k))
theorem bl (hs:Lat.qQ (mr A))(r i k:Nat):bz A r i k=bz A r k i:=by unfold bz;rw[pE hs]
include hB in
theorem rT {r:Nat}(hr:r≤m):Bd 1000 (dz A r):=by
 cases r with
 |zero=>rw[zR];exact oR (by omega)
 |succ r=>rw[tJ];exact hB r r r (hE _) (hE _) (by omega) (by omega)
structure Dv (m k:Nat)(A:Nat→Nat→Int)(D:W3):Prop where
 len:D.length=m+1
 at_:∀i,i≤k→D.getD i (false,([]:W6))=zq (dz A i)
variable {N:Nat}(hN:1000000001<N)(hm:m≤8){R:Type}
include hN hm hs hp hB
theorem Jh {k j:Nat}(hjk:j≤k)(hk:k<m){piA piU piL:W7}{D:W3}{PA PU PL:W2}(hD:Dv m k A D){M:Nat→Nat→Int}(hL:Mp zq (k+1) m (fun i=>i) PL piL M)(hM:∀x t,t<x→(x<k∨(x=k∧t<j))→M x t=bz A t x t)
  (k4:Int→Int→W7→W7→W3→W7→W2→W2→W2→Bool→W6→Option R):∀c i n,i+c=j→c<n→
  Q99.l10 N n (k:Int) (j:Int) (i:Int) piA piU D piL PA PU PL (sg (bz A i k j)) (pB (bz A i k j)) k4=k4 (k:Int) (j:Int) piA piU D piL PA PU PL (sg (bz A j k j)) (pB (bz A j k j)):=by
 intro c;induction c with
 |zero=>
  intro i n hi hn;obtain⟨n,rfl⟩:∃q,n=q+1:=⟨n-1,by omega⟩
  rw[Q99.l10,lD,decide_eq_false (by omega),show i=j by omega];rfl
 |succ c ih=>
  intro i n hi hn;obtain⟨n,rfl⟩:∃q,n=q+1:=⟨n-1,by omega⟩
  have hij:i<j:=by omega
  have hpv:∀l,l<i+1→el (mr A) l l l≠0:=fun l hl=>hp.ne (by omega);have d1:decide (i<j)=true:=decide_eq_true hij;have d2:decide (k<m)=true:=decide_eq_true hk;have d3:decide (i<k)=true:=decide_eq_true (by omega);have d4:decide (i+1<m+1)=true:=decide_eq_true (by omega);have d5:decide (i<m+1)=true:=decide_eq_true (by omega);have g1:=hL.get (i:=k) (j:=i) (by omega) (by omega) (false,([]:W6));rw[hM k i (by omega) (Or.inr ⟨rfl,hij⟩)]at g1;have gd1:=hD.at_ (i+1) (by omega);have gd0:=hD.at_ i (by omega);rw[tJ]at gd1;have b1:Bd 1000 (bz A i k i):=hB i k i (by omega) (hE _) hk (by omega);have b2:Bd 1000 (bz A i j i):=hB i j i (by omega) (hE _) (by omega) (by omega);have b3:Bd 1000 (bz A i i i):=hB i i i (hE _) (hE _) (by omega) (by omega);have b4:Bd 1000 (bz A i k j):=hB i k j (by omega) (by omega) hk (by omega);have b5:Bd 1000 (dz A i):=rT hB (by omega);have e1:=kV hN (b1.mono (show 1000≤2010 by omega)) (b1.mono (show 1000≤2010 by omega));have e3:=kV hN (b3.mono (show 1000≤2010 by omega)) (b4.mono (show 1000≤2010 by omega));have hx:=nO (a:=A) (r:=i) (i:=k) (k:=j) hpv (by omega) hij;have ih':=ih (i+1) n (by omega) (by omega);rw[Q99.l10];simp only[lD,iC,zE,aE,hL.pl,hD.len,hL.len (show k<k+1 by omega),d1,d2,d3,d4,d5,cond_true,g1,bK,cK,e1,pC,qB (show i<1000000 by omega),gd1,gd0,e3];by_cases hjk':j<k
  ·have d6:decide (j<m)=true:=decide_eq_true (by omega);have g2:=hL.get (i:=j) (j:=i) (by omega) hij (false,([]:W6));rw[hM j i hij (Or.inl hjk')]at g2;have e2:=kV hN (b1.mono (show 1000≤2010 by omega)) (b2.mono (show 1000≤2010 by omega));have e4:=ma hN (b3.mul b4) (b1.mul b2) (by omega);have e5:Q35.f N (sg (bz A i i i*bz A i k j-bz A i k i*bz A i j i)) (pB (bz A i i i*bz A i k j-bz A i k i*bz A i j i)) (sg (dz A i)) (pB (dz A i))=_:=fv hN ((b3.mul b4).sub (b1.mul b2)) b5 (by omega) (by omega) (v7 fun l hl=>hpv l (by omega)) (by rw[bl hs i j i];exact hx.1);rw[show(bz A i i i*bz A i k j-bz A i k i*bz A i j i)/dz A i=bz A (i+1) k j by rw[bl hs i j i];exact hx.2]at e5;simp only[decide_eq_true hjk',cond_true,d6,hL.len (show j<k+1 by omega),d1,g2,bK,cK,e2,e4,e5,pC,Q96.f];exact ih'
  ·obtain rfl:j=k:=by omega
   have e4:=ma hN (b3.mul b4) (b1.mul b1) (by omega);have e5:Q35.f N (sg (bz A i i i*bz A i j j-bz A i j i*bz A i j i)) (pB (bz A i i i*bz A i j j-bz A i j i*bz A i j i)) (sg (dz A i)) (pB (dz A i))=_:=fv hN ((b3.mul b4).sub (b1.mul b1)) b5 (by omega) (by omega) (v7 fun l hl=>hpv l (by omega)) (by have:=hx.1;rw[bl hs i i j]at this;exact this);rw[show(bz A i i i*bz A i j j-bz A i j i*bz A i j i)/dz A i=bz A (i+1) j j by have:=hx.2;rw[bl hs i i j]at this;exact this]at e5;simp only[decide_eq_false hjk',cond_false,e4,e5,pC,Q96.f];exact ih'
theorem Kb {k:Nat}(hk:k<m){piA piU piL:W7}{PA PU:W2}(hA:Mx zq m (fun _=>m) PA piA A)
  (k2:Int→W7→W7→W3→W7→W2→W2→W2→Option R):∀c j n D PL M,j+c=k+1→c<n→Dv m (if j=k+1 then k+1 else k) A D→Mp zq (k+1) m (fun i=>i) PL piL M→(∀x t,t<x→(x<k∨(x=k∧t<j))→M x t=bz A t x t)→
  ∃D' PL',Dv m (k+1) A D'∧Mp zq (k+1) m (fun i=>i) PL' piL (fun x t=>bz A t x t)∧
   Q99.l6 N n (k:Int) (j:Int) piA piU D piL PA PU PL k2=k2 (k:Int) piA piU D' piL PA PU PL':=by
 intro c;induction c with
 |zero=>
  intro j n D PL M hj hn hD hL hM;obtain⟨n,rfl⟩:∃q,n=q+1:=⟨n-1,by omega⟩
  obtain rfl:j=k+1:=by omega
  rw[if_pos rfl]at hD;rw[Q99.l6,It,decide_eq_false (by omega)];exact⟨D,PL,hD,hL.ext fun x t hx ht=>hM x t ht (by omega),rfl⟩
 |succ c ih=>
  intro j n D PL M hj hn hD hL hM;obtain⟨n,rfl⟩:∃q,n=q+1:=⟨n-1,by omega⟩
  rw[if_neg (by omega)]at hD;have hjk:j≤k:=by omega
  have d1:decide (j≤k)=true:=decide_eq_true hjk;have d2:decide (k<m)=true:=decide_eq_true hk;have d3:decide (j<m)=true:=decide_eq_true (by omega);have d4:decide (k+1<m+1)=true:=decide_eq_true (by omega);have g1:=hA.get (i:=k) (j:=j) hk (by omega) (false,([]:W6));rw[←bn (a:=A) k j]at g1;have e0:=fun(k4:Int→Int→W7→W7→W3→W7→W2→W2→W2→Bool→W6→Option R)=>Jh hs hp hB hN hm hjk hk (piA:=piA) (piU:=piU) (PA:=PA) (PU:=PU) hD hL hM k4 j 0 N (by omega) (by omega);simp only[hJ]at e0;rw[Q99.l6];simp only[It,lD,iC,zE,aE,d1,d2,d3,hA.pl,hA.len hk,cond_true,g1,bK,cK];rw[e0];by_cases hjk':j<k
  ·obtain⟨D',PL',f1,f2,f3⟩:=ih (j+1) n D _ _ (by omega) (by omega) (by rw[if_neg (by omega)];exact hD) (hL.set (show k<k+1 by omega) j (bz A j k j)) (fun x t ht hx=>by
    by_cases h:x=k∧t=j
    ·rw[if_pos h,h.1,h.2]
    ·rw[if_neg h];exact hM x t ht (by omega))
   refine⟨D',PL',f1,f2,?_⟩;simp only[It,lD,iC,zE,aE,decide_eq_true hjk',hL.pl,hL.len (show k<k+1 by omega),d2,cond_true,qB (show j<1000000 by omega)];exact f3
  ·obtain rfl:j=k:=by omega
   obtain⟨D',PL',f1,f2,f3⟩:=ih (j+1) n (D.set (j+1) (zq (bz A j j j))) PL M (by omega) (by omega) (by
    rw[if_pos rfl];refine⟨by rw[y0,hD.len],fun i hi=>?_⟩;rw[aI];by_cases h:i=j+1
    ·rw[if_pos ⟨h.symm,by rw[hD.len];omega⟩,h,tJ]
    ·rw[if_neg (by omega)];exact hD.at_ i (by omega)) hL (fun x t ht hx=>hM x t ht (by omega))
   refine⟨D',PL',f1,f2,?_⟩;simp only[It,lD,iC,zE,aE,decide_eq_false (Nat.lt_irrefl j),cond_false,qB (show j<1000000 by omega),hD.len,d4,cond_true];exact f3
theorem Ka {piA piU:W7}{PA PU:W2}(hA:Mx zq m (fun _=>m) PA piA A)
  (k0:W7→W7→W3→W7→W2→W2→W2→Option R):∀c k n D piL PL,k+c=m→c<n→Dv m k A D→Mp zq k m (fun i=>i) PL piL (fun x t=>bz A t x t)→
  ∃D' piL' PL',Dv m m A D'∧Mx zq m (fun i=>i) PL' piL' (fun x t=>bz A t x t)∧
   Q99.l2 N n (k:Int) piA piU D piL PA PU PL k0=k0 piA piU D' piL' PA PU PL':=by
 intro c;induction c with
 |zero=>
  intro k n D piL PL hk hn hD hL;obtain⟨n,rfl⟩:∃q,n=q+1:=⟨n-1,by omega⟩
  obtain rfl:k=m:=by omega
  rw[Q99.l2,hA.pl,lD,decide_eq_false (by omega)];exact⟨D,piL,PL,hD,hL.mx,rfl⟩
 |succ c ih=>
  intro k n D piL PL hk hn hD hL;obtain⟨n,rfl⟩:∃q,n=q+1:=⟨n-1,by omega⟩
  have hkm:k<m:=by omega
  have d1:decide (k<m)=true:=decide_eq_true hkm;have hf:=hL.fresh hkm (fun _=>0);obtain⟨D1,PL1,f1,f2,f3⟩:=Kb hs hp hB hN hm hkm (piU:=piU) (PU:=PU) hA (fun y79 y80 y81 y82 y83 y84 y85 y86=>Q99.l2 N n (fA (y79+1)) y80 y81 y82 y83 y84 y85 y86 k0) (k+1) 0 N D _ _ (by omega) (by omega) (by rw[if_neg (by omega)];exact hD) hf (fun x t ht hx=>by rw[if_neg (by omega)]);obtain⟨D2,piL2,PL2,h1,h2,h3⟩:=ih (k+1) n D1 _ PL1 (by omega) (by omega) f1 f2;refine⟨D2,piL2,PL2,h1,h2,?_⟩;rw[Q99.l2];simp only[hJ,←nH,lb]at f3;simp only[hA.pl,lD,iC,zE,aE,d1,hL.pl,cond_true,tD,eQ (show k≤1000 by omega),dC (show k≤1000 by omega) (show 32≤1000 by omega),hV];rw[f3];simp only[qB (show k<1000000 by omega)];exact h3
theorem oY {piA piU piL:W7}{D:W3}{PA PU PL:W2}(hA:Mx zq m (fun _=>m) PA piA A){k:Nat}(hk:k≤m)(hD:Dv m k A D)(hL:Mp zq k m (fun i=>i) PL piL (fun x t=>bz A t x t)):
  ∃D' piL' PL',Dv m m A D'∧Mx zq m (fun i=>i) PL' piL' (fun x t=>bz A t x t)∧Q99.f N (k:Int) piA piU D piL PA PU PL=some (piA,piU,D',piL',PA,PU,PL'):=by
 have e1:zq 1=zq (dz A 0):=rfl;obtain⟨D',piL',PL',h1,h2,h3⟩:=Ka hs hp hB hN hm (R:=W7×W7×W3×W7×W2×W2×W2) (piU:=piU) (PU:=PU) hA (fun y94 y95 y96 y97 y98 y99 y100=>some (y94,y95,y96,y97,y98,y99,y100)) (m-k) k N (D.set 0 (zq 1)) piL PL (by omega) (by omega) ⟨by rw[y0,hD.len],fun i hi=>by
  rw[aI];by_cases h:i=0
  ·rw[if_pos ⟨h.symm,by rw[hD.len];omega⟩,h];exact e1
  ·rw[if_neg (by omega)];exact hD.at_ i hi⟩ hL
 refine⟨D',piL',PL',h1,h2,?_⟩;unfold Q99.f;rw[lg hN (oR (show 0<63 by omega)) (hE _),hD.len,decide_eq_true (show(0:Int)<((m+1:Nat):Int) by omega)];simp only[pC,cond_true];exact h3
end
open Go.Proofs.YtijigofaaefldaaGreat.Lat (el dp PD dD pE sh w9 pM vS lI qG lK mU)
structure LS (m:Nat)(A U:Nat→Nat→Int)(piA piU:W7)(D:W3)(piL:W7)(PA PU PL:W2):Prop where
 a:Mx zq m (fun _=>m) PA piA A
 u:Mx zq m (fun _=>m) PU piU U
 d:Dv m m A D
 l:Mx zq m (fun i=>i) PL piL (fun x t=>bz A t x t)
def lf (i j:Nat)(q:Int)(A:Nat→Nat→Int):Nat→Nat→Int:=fun a b=>
 if a=i then if b=i then A i i-q*A j i-q*A i j+q*q*A j j else A i b-q*A j b
 else if b=i then A a i-q*A a j else A a b
def rh (i j:Nat)(q:Int)(U:Nat→Nat→Int):Nat→Nat→Int:=fun a b=>if a=i then U i b-q*U j b else U a b
theorem Be (i j:Nat)(A:Nat→Nat→Int):lf i j 0 A=A:=by
 funext a b;unfold lf;by_cases ha:a=i
 ·by_cases hb:b=i
  ·rw[if_pos ha,if_pos hb,ha,hb];omega
  ·rw[if_pos ha,if_neg hb,ha];omega
 ·by_cases hb:b=i
  ·rw[if_neg ha,if_pos hb,hb];omega
  ·rw[if_neg ha,if_neg hb]
theorem Bc (i j:Nat)(U:Nat→Nat→Int):rh i j 0 U=U:=by
 funext a b;unfold rh;by_cases ha:a=i
 ·rw[if_pos ha,ha];omega
 ·rw[if_neg ha]
theorem qK (i j:Nat)(q:Int)(A:Nat→Nat→Int):mr (lf i j q A)=sh i j (q:Rat) (mr A):=by
 funext a b;unfold mr lf sh;by_cases ha:a=i
 ·by_cases hb:b=i
  ·rw[if_pos ha,if_pos hb,if_pos ha,if_pos hb,n3,p0,p0,xK,xK,xK,xK]
  ·rw[if_pos ha,if_neg hb,if_pos ha,if_neg hb,p0,xK]
 ·by_cases hb:b=i
  ·rw[if_neg ha,if_pos hb,if_neg ha,if_pos hb,p0,xK]
  ·rw[if_neg ha,if_neg hb,if_neg ha,if_neg hb]
section
variable {m:Nat}{A:Nat→Nat→Int}(hp:PD m (mr A)){i j:Nat}(hji:j<i)(him:i<m)(q:Int)
include hp hji him
omit him in
theorem Gd {r:Nat}(hr:r≤m):dz (lf i j q A) r=dz A r:=by
 unfold dz;rw[qK,mU hji fun l hl=>hp.ne (by omega)]
theorem G5 {x t:Nat}(htx:t<x)(hxm:x<m):bz (lf i j q A) t x t=if x=i then(if t<j then bz A t i t-q*bz A t j t else if t=j then bz A j i j-q*dz A (j+1)else bz A t i t)else bz A t x t:=by
 have hne:∀r,r≤m→∀l,l<r→el (mr A) l l l≠0:=fun r hr l hl=>hp.ne (by omega);have hd:dp (mr (lf i j q A)) t=dp (mr A) t:=by rw[qK,mU hji fun l hl=>hp.ne (by omega)]
 unfold bz;rw[hd];rw[qK];by_cases hx:x=i
 ·subst hx;rw[if_pos rfl];by_cases h1:t<j
  ·rw[if_pos h1,qG hji t (by omega) (hne t (by omega)),pM _ _ _ (by omega)];have c1:=vE (a:=A) (hne t (by omega)) (show t≤x by omega) (hE t);have c2:=vE (a:=A) (hne t (by omega)) (show t≤j by omega) (hE t);have:dp (mr A) t*(el (mr A) t x t- (q:Rat)*el (mr A) t j t)=((bz A t x t-q*bz A t j t:Int):Rat):=by
    rw[p0,xK,c1,c2];grind
   rw[this,b6];rfl
  ·rw[if_neg h1];by_cases h2:t=j
   ·subst h2;rw[if_pos rfl,qG hji t (hE _) (hne t (by omega)),pM _ _ _ (by omega)];have c1:=vE (a:=A) (hne t (by omega)) (show t≤x by omega) (hE t);have c2:=xD (a:=A) (r:=t+1) (hne (t+1) (by omega));have:dp (mr A) t*(el (mr A) t x t- (q:Rat)*el (mr A) t t t)=((bz A t x t-q*dz A (t+1):Int):Rat):=by
     rw[p0,xK,c1,c2];show _=_- (q:Rat)*(dp (mr A) t*el (mr A) t t t);grind
    rw[this,b6];rfl
   ·rw[if_neg h2,lK hji (fun l hl=>hp.ne (by omega)) t (by omega)]
 ·rw[if_neg hx];by_cases h1:t≤j
  ·rw[qG hji t h1 (hne t (by omega)),lI _ _ _ hx (by omega)]
  ·rw[lK hji (fun l hl=>hp.ne (by omega)) t (by omega)]
end
theorem G7 (u v:Int):decide (tQ u v>0)=decide (v<u):=by
 unfold tQ;by_cases h:u=v
 ·rw[if_pos h,decide_eq_false (by omega),decide_eq_false (by omega)]
 ·by_cases h2:u<v
  ·rw[if_neg h,if_pos h2,decide_eq_false (by omega),decide_eq_false (by omega)]
  ·rw[if_neg h,if_neg h2,decide_eq_true (by omega),decide_eq_true (by omega)]
structure Ir (m:Nat)(A U:Nat→Nat→Int):Prop where
 a:∀i j,i<m→j<m→Bd 1000 (A i j)
 u:∀i j,i<m→j<m→Bd 1000 (U i j)
 b:∀r i k,r≤i→r≤k→i<m→k<m→Bd 1000 (bz A r i k)
section
variable {N:Nat}(hN:1000000001<N){R:Type}{m:Nat}(hm:m≤8){A U:Nat→Nat→Int}{piA piU piL:W7}{D:W3}{PA PU PL:W2}
include hN hm
theorem wc (h:LS m A U piA piU D piL PA PU PL)(hb:Ir m A U){i j:Nat}(hji:j<i)(him:i<m):Q101.f N (i:Int) (j:Int) piA piU D piL PA PU PL=some (decide (dz A (j+1)<ab (bz A j i j)+ab (bz A j i j)),piA,piU,D,piL,PA,PU,PL):=by
 have g1:=h.l.get (i:=i) (j:=j) him hji (false,([]:W6));have g2:=h.d.at_ (j+1) (by omega);have b1:Bd 1000 (bz A j i j):=hb.b j i j (by omega) (hE _) him (by omega);have b2:Bd 1000 (dz A (j+1)):=rT hb.b (by omega);have b3:Bd 1000 (ab (bz A j i j)):=by unfold Bd at*;rw[cM,Int.natAbs_natCast];exact b1
 have hz:=(b1.zr (show 1000≤4096 by omega))
 have e1:=rz (N:=N) false hz;have e2:=pt hN b3 b3 (by omega);have e3:=Er hN (b3.add b3) b2 (show 1000+1≤4096 by omega) (show 1000≤4096 by omega);unfold Q101.f;simp only[lD,iC,zE,aE,h.l.pl,h.l.len him,decide_eq_true him,decide_eq_true hji,cond_true,g1,bK,cK,Hd,pC,e1];show((Q31.f N (sg (ab (bz A j i j))) (pB (ab (bz A j i j))) (sg (ab (bz A j i j))) (pB (ab (bz A j i j)))).bind _)=_;simp only[e2,pC,Q96.f,qB (show j<1000000 by omega),h.d.len,lD,iC,zE,decide_eq_true (show j+1<m+1 by omega),cond_true,aE,g2,bK,cK,e3,G7]
theorem Kf {i j:Nat}(hi:i<m)(hj:j<m)(hij:i≠j){q:Int}(hq:Bd 1010 q)(hA:∀x y,x<m→y<m→Bd 1000 (A x y))(hU:∀x y,x<m→y<m→Bd 1000 (U x y))(hUM:Mx zq m (fun _=>m) PU piU U)(hAM:Mx zq m (fun _=>m) PA piA A)(x36:Bool)(x37:W6)
  (k0:Int→Int→W7→W7→W3→W7→W2→W2→W2→Bool→W6→Bool→W6→Option R):∀c k n PA PU,k+c=m→c<n→Mx zq m (fun _=>m) PA piA (fun x y=>if x=i∧y<k then A i y-q*A j y else A x y)→Mx zq m (fun _=>m) PU piU (fun x y=>if x=i∧y<k then U i y-q*U j y else U x y)→
  ∃PA' PU',Mx zq m (fun _=>m) PA' piA (rh i j q A)∧Mx zq m (fun _=>m) PU' piU (rh i j q U)∧
   Q102.l5 N n (i:Int) (j:Int) (m:Int) (k:Int) piA piU D piL PA PU PL x36 x37 (sg q) (pB q) k0=k0 (i:Int) (j:Int) piA piU D piL PA' PU' PL x36 x37 (sg q) (pB q):=by
 intro c;induction c with
 |zero=>
  intro k n PA PU hk hn h1 h2;obtain⟨n,rfl⟩:∃q,n=q+1:=⟨n-1,by omega⟩
  rw[Q102.l5,lD,decide_eq_false (by omega)];refine⟨PA,PU,h1.ext fun x y hx hy=>?_,h2.ext fun x y hx hy=>?_,rfl⟩
  ·unfold rh;by_cases e:x=i
   ·rw[if_pos ⟨e,by omega⟩,if_pos e]
   ·rw[if_neg (fun q=>e q.1),if_neg e]
  ·unfold rh;by_cases e:x=i
   ·rw[if_pos ⟨e,by omega⟩,if_pos e]
   ·rw[if_neg (fun q=>e q.1),if_neg e]
 |succ c ih=>
  intro k n PA PU hk hn h1 h2;obtain⟨n,rfl⟩:∃q,n=q+1:=⟨n-1,by omega⟩
  have hkm:k<m:=by omega
  have d1:decide (k<m)=true:=decide_eq_true hkm;have d2:decide (i<m)=true:=decide_eq_true hi;have d3:decide (j<m)=true:=decide_eq_true hj;have ga1:=h1.get (i:=i) (j:=k) hi hkm (false,([]:W6));have ga2:=h1.get (i:=j) (j:=k) hj hkm (false,([]:W6));have gu1:=h2.get (i:=i) (j:=k) hi hkm (false,([]:W6));have gu2:=h2.get (i:=j) (j:=k) hj hkm (false,([]:W6));rw[if_neg (by omega)]at ga1 ga2 gu1 gu2;have ea1:=kV hN (hq.mono (show 1010≤2010 by omega)) ((hA j k hj hkm).mono (show 1000≤2010 by omega));have eu1:=kV hN (hq.mono (show 1010≤2010 by omega)) ((hU j k hj hkm).mono (show 1000≤2010 by omega));have ea2:=ma hN ((hA i k hi hkm).mono (show 1000≤1010+1000 by omega)) (hq.mul (hA j k hj hkm)) (by omega);have eu2:=ma hN ((hU i k hi hkm).mono (show 1000≤1010+1000 by omega)) (hq.mul (hU j k hj hkm)) (by omega);obtain⟨PA',PU',f1,f2,f3⟩:=ih (k+1) n _ _ (by omega) (by omega) ((h1.set hi k (A i k-q*A j k)).ext fun x y _ _=>by
    by_cases e:x=i
    ·by_cases e2:y=k
     ·rw[if_pos ⟨e,e2⟩,if_pos ⟨e,by omega⟩,e2]
     ·rw[if_neg (fun q=>e2 q.2)];by_cases e3:y<k
      ·rw[if_pos ⟨e,e3⟩,if_pos ⟨e,by omega⟩]
      ·rw[if_neg (fun q=>e3 q.2),if_neg (by omega)]
    ·rw[if_neg (fun q=>e q.1),if_neg (fun q=>e q.1),if_neg (fun q=>e q.1)]) ((h2.set hi k (U i k-q*U j k)).ext fun x y _ _=>by
    by_cases e:x=i
    ·by_cases e2:y=k
     ·rw[if_pos ⟨e,e2⟩,if_pos ⟨e,by omega⟩,e2]
     ·rw[if_neg (fun q=>e2 q.2)];by_cases e3:y<k
      ·rw[if_pos ⟨e,e3⟩,if_pos ⟨e,by omega⟩]
      ·rw[if_neg (fun q=>e3 q.2),if_neg (by omega)]
    ·rw[if_neg (fun q=>e q.1),if_neg (fun q=>e q.1),if_neg (fun q=>e q.1)])
  refine⟨PA',PU',f1,f2,?_⟩;rw[Q102.l5];simp only[lD,iC,zE,aE,h1.pl,h2.pl,h1.len hi,h1.len hj,h2.len hi,h2.len hj,d1,d2,d3,cond_true,ga1,ga2,gu1,gu2,bK,cK,ea1,eu1,ea2,eu2,pC,qB (show k<1000000 by omega)];exact f3
theorem Jk {i j:Nat}(hi:i<m)(hj:j<m)(hij:i≠j){q:Int}(hq:Bd 1010 q){B:Nat→Nat→Int}(hB:∀x y,x<m→y<m→Bd 2020 (B x y))(x82:Bool)(x83:W6)
  (k2:Int→Int→W7→W7→W3→W7→W2→W2→W2→Bool→W6→Bool→W6→Option R):∀c k n PA,k+c=m→c<n→Mx zq m (fun _=>m) PA piA (fun x y=>if y=i∧x<k then B x i-q*B x j else B x y)→
  ∃PA',Mx zq m (fun _=>m) PA' piA (fun x y=>if y=i then B x i-q*B x j else B x y)∧
   Q102.l11 N n (i:Int) (j:Int) (m:Int) (k:Int) piA piU D piL PA PU PL x82 x83 (sg q) (pB q) k2=k2 (i:Int) (j:Int) piA piU D piL PA' PU PL x82 x83 (sg q) (pB q):=by
 intro c;induction c with
 |zero=>
  intro k n PA hk hn h1;obtain⟨n,rfl⟩:∃q,n=q+1:=⟨n-1,by omega⟩
  rw[Q102.l11,lD,decide_eq_false (by omega)];refine⟨PA,h1.ext fun x y hx hy=>?_,rfl⟩;by_cases e:y=i
  ·rw[if_pos ⟨e,by omega⟩,if_pos e]
  ·rw[if_neg (fun q=>e q.1),if_neg e]
 |succ c ih=>
  intro k n PA hk hn h1;obtain⟨n,rfl⟩:∃q,n=q+1:=⟨n-1,by omega⟩
  have hkm:k<m:=by omega
  have d1:decide (k<m)=true:=decide_eq_true hkm;have d2:decide (i<m)=true:=decide_eq_true hi;have d3:decide (j<m)=true:=decide_eq_true hj;have g1:=h1.get (i:=k) (j:=i) hkm hi (false,([]:W6));have g2:=h1.get (i:=k) (j:=j) hkm hj (false,([]:W6));rw[if_neg (by omega)]at g1 g2;have e1:Q97.f N (sg q) (pB q) (sg (B k j)) (pB (B k j))=some (sg (q*B k j),pB (q*B k j)):=by unfold Q97.f;rw[kz hN hq (hB k j hkm hj) (by omega)];rfl
  have e2:=ma hN ((hB k i hkm hi).mono (show 2020≤1010+2020 by omega)) (hq.mul (hB k j hkm hj)) (by omega);obtain⟨PA',f1,f3⟩:=ih (k+1) n _ (by omega) (by omega) ((h1.set hkm i (B k i-q*B k j)).ext fun x y _ _=>by
    by_cases e:y=i
    ·by_cases e2:x=k
     ·rw[if_pos ⟨e2,e⟩,if_pos ⟨e,by omega⟩,e2]
     ·rw[if_neg (fun q=>e2 q.1)];by_cases e3:x<k
      ·rw[if_pos ⟨e,e3⟩,if_pos ⟨e,by omega⟩]
      ·rw[if_neg (fun q=>e3 q.2),if_neg (by omega)]
    ·rw[if_neg (fun q=>e q.2),if_neg (fun q=>e q.1),if_neg (fun q=>e q.1)])
  refine⟨PA',f1,?_⟩;rw[Q102.l11];simp only[lD,iC,zE,aE,h1.pl,h1.len hkm,d1,d2,d3,cond_true,g1,g2,bK,cK,e1,e2,pC,qB (show k<1000000 by omega)];exact f3
theorem Jl {i j:Nat}(hji:j<i)(hi:i<m){q:Int}(hq:Bd 1010 q){L:Nat→Nat→Int}(hL:∀x y,x<m→y<x→Bd 1000 (L x y))(x126:Bool)(x127:W6)
  (k4:Int→Int→W7→W7→W3→W7→W2→W2→W2→Bool→W6→Bool→W6→Option R):∀c k n PL,k+c=j→c<n→Mx zq m (fun i=>i) PL piL (fun x y=>if x=i∧y<k then L i y-q*L j y else L x y)→
  ∃PL',Mx zq m (fun i=>i) PL' piL (fun x y=>if x=i∧y<j then L i y-q*L j y else L x y)∧
   Q102.l16 N n (i:Int) (j:Int) (j:Int) (k:Int) piA piU D piL PA PU PL x126 x127 (sg q) (pB q) k4=k4 (i:Int) (j:Int) piA piU D piL PA PU PL' x126 x127 (sg q) (pB q):=by
 intro c;induction c with
 |zero=>
  intro k n PL hk hn h1;obtain⟨n,rfl⟩:∃q,n=q+1:=⟨n-1,by omega⟩
  obtain rfl:k=j:=by omega
  rw[Q102.l16,lD,decide_eq_false (by omega)];exact⟨PL,h1,rfl⟩
 |succ c ih=>
  intro k n PL hk hn h1;obtain⟨n,rfl⟩:∃q,n=q+1:=⟨n-1,by omega⟩
  have hkj:k<j:=by omega
  have d1:decide (k<j)=true:=decide_eq_true hkj;have d2:decide (i<m)=true:=decide_eq_true hi;have d3:decide (j<m)=true:=decide_eq_true (by omega);have d4:decide (k<i)=true:=decide_eq_true (by omega);have g1:=h1.get (i:=i) (j:=k) hi (by omega) (false,([]:W6));have g2:=h1.get (i:=j) (j:=k) (by omega) hkj (false,([]:W6));rw[if_neg (by omega)]at g1 g2;have e1:=kV hN (hq.mono (show 1010≤2010 by omega)) ((hL j k (by omega) hkj).mono (show 1000≤2010 by omega));have e2:=ma hN ((hL i k hi (by omega)).mono (show 1000≤1010+1000 by omega)) (hq.mul (hL j k (by omega) hkj)) (by omega);obtain⟨PL',f1,f3⟩:=ih (k+1) n _ (by omega) (by omega) ((h1.set hi k (L i k-q*L j k)).ext fun x y _ _=>by
    by_cases e:x=i
    ·by_cases e2:y=k
     ·rw[if_pos ⟨e,e2⟩,if_pos ⟨e,by omega⟩,e2]
     ·rw[if_neg (fun q=>e2 q.2)];by_cases e3:y<k
      ·rw[if_pos ⟨e,e3⟩,if_pos ⟨e,by omega⟩]
      ·rw[if_neg (fun q=>e3 q.2),if_neg (by omega)]
    ·rw[if_neg (fun q=>e q.1),if_neg (fun q=>e q.1),if_neg (fun q=>e q.1)])
  refine⟨PL',f1,?_⟩;rw[Q102.l16];simp only[lD,iC,zE,aE,h1.pl,h1.len hi,h1.len (show j<m by omega),d1,d2,d3,d4,cond_true,g1,g2,bK,cK,e1,e2,pC,qB (show k<1000000 by omega)];exact f3
theorem wS (hp:PD m (mr A))(h:LS m A U piA piU D piL PA PU PL)(hb:Ir m A U){i j:Nat}(hji:j<i)(him:i<m):
  ∃(q:Int) (PA' PU' PL':W2), -(dz A (j+1))≤2*(bz A j i j-q*dz A (j+1))∧2*(bz A j i j-q*dz A (j+1))≤dz A (j+1)∧LS m (lf i j q A) (rh i j q U) piA piU D piL PA' PU' PL'∧Q102.f N (i:Int) (j:Int) piA piU D piL PA PU PL=some (piA,piU,D,piL,PA',PU',PL'):=by
 have hd0:0<dz A (j+1):=by have h1:=xD (a:=A) (r:=j+1) fun l hl=>hp.ne (by omega);have h2:=dD (M:=mr A) (r:=j+1) fun l hl=>hp l (by omega);rw[←h1]at h2;rw[←s0];simpa using h2
 unfold Q102.f;rw[wc hN hm h hb hji him];simp only[pC];by_cases hw:dz A (j+1)<ab (bz A j i j)+ab (bz A j i j)
 ·rw[decide_eq_true hw];have g1:=h.l.get (i:=i) (j:=j) him hji (false,([]:W6));have g2:=h.d.at_ (j+1) (by omega);have b1:Bd 1000 (bz A j i j):=hb.b j i j (by omega) (hE _) him (by omega);have b2:Bd 1000 (dz A (j+1)):=rT hb.b (by omega);have e1:=pt hN b1 b1 (by omega);have e2:=pt hN (b1.add b1) (b2.mono (show 1000≤1000+1 by omega)) (by omega);have e3:=pt hN b2 b2 (by omega);have b4:Bd 1002 (bz A j i j+bz A j i j+dz A (j+1)):=(b1.add b1).add (b2.mono (show 1000≤1000+1 by omega));have e4:=Jy hN b4 (b2.add b2) (by omega) (by omega) (by omega);generalize hq:(bz A j i j+bz A j i j+dz A (j+1))/(dz A (j+1)+dz A (j+1))=q at e4;have bq:Bd 1010 q:=by rw[←hq];exact(b4.div _).mono (by omega)
  have r0:=Int.emod_nonneg (bz A j i j+bz A j i j+dz A (j+1)) (show dz A (j+1)+dz A (j+1)≠0 by omega);have r1:=Int.emod_lt_of_pos (bz A j i j+bz A j i j+dz A (j+1)) (show 0<dz A (j+1)+dz A (j+1) by omega);have r2:=Int.emod_add_mul_ediv (bz A j i j+bz A j i j+dz A (j+1)) (dz A (j+1)+dz A (j+1));rw[hq]at r2;have r3:(dz A (j+1)+dz A (j+1))*q=2*(q*dz A (j+1)):=by rw[Int.add_mul,Int.mul_comm (dz A (j+1)) q];omega
  obtain⟨PA1,PU1,f1,f2,f3⟩:=Kf (R:=W7×W7×W3×W7×W2×W2×W2) hN hm him (show j<m by omega) (show i≠j by omega) bq hb.a hb.u h.u h.a (D:=D) (piL:=piL) (PL:=PL) (sg (dz A (j+1))) (pB (dz A (j+1))) _ m 0 N PA PU (by omega) (by omega) (h.a.ext fun x y _ _=>by rw[if_neg (by omega)]) (h.u.ext fun x y _ _=>by rw[if_neg (by omega)]);have hB1:∀x y,x<m→y<m→Bd 2020 (rh i j q A x y):=fun x y hx hy=>by
   unfold rh;split
   ·exact((((hb.a i y him hy).mono (show 1000≤1010+1000 by omega))).sub (bq.mul (hb.a j y (by omega) hy))).mono (by omega)
   ·exact(hb.a x y hx hy).mono (by omega)
  obtain⟨PA2,k1,k3⟩:=Jk (R:=W7×W7×W3×W7×W2×W2×W2) hN hm him (show j<m by omega) (show i≠j by omega) bq hB1 (piU:=piU) (D:=D) (piL:=piL) (PU:=PU1) (PL:=PL) (sg (dz A (j+1))) (pB (dz A (j+1))) _ m 0 N PA1 (by omega) (by omega) (f1.ext fun x y _ _=>by rw[if_neg (by omega)]);obtain⟨PL1,l1,l3⟩:=Jl (R:=W7×W7×W3×W7×W2×W2×W2) hN hm hji him bq (L:=fun x t=>bz A t x t) (fun x y hx hy=>hb.b y x y (by omega) (hE _) hx (by omega)) (piA:=piA) (piU:=piU) (D:=D) (PA:=PA2) (PU:=PU1) (sg (dz A (j+1))) (pB (dz A (j+1))) _ j 0 N PL (by omega) (by omega) (h.l.ext fun x y _ _=>by rw[if_neg (by omega)]);have g5:=l1.get (i:=i) (j:=j) him hji (false,([]:W6));rw[if_neg (by omega)]at g5;have e5:=kV hN (bq.mono (show 1010≤2010 by omega)) (b2.mono (show 1000≤2010 by omega));have e6:=ma hN (b1.mono (show 1000≤1010+1000 by omega)) (bq.mul b2) (by omega);simp only[hJ]at f3 k3 l3;refine⟨q,PA2,PU1,_,by omega,by omega,⟨k1.ext fun x y hx hy=>?_,f2,?_,(l1.set him j (bz A j i j-q*dz A (j+1))).ext fun x y hx hy=>?_⟩,?_⟩
  ·unfold rh lf;by_cases hyi:y=i
   ·rw[if_pos hyi];by_cases hxi:x=i
    ·rw[if_pos hxi,if_pos hxi,if_pos hxi,if_pos hyi,Int.mul_sub,Int.mul_assoc];omega
    ·rw[if_neg hxi,if_neg hxi,if_neg hxi,if_pos hyi]
   ·rw[if_neg hyi];by_cases hxi:x=i
    ·rw[if_pos hxi,if_pos hxi,if_neg hyi]
    ·rw[if_neg hxi,if_neg hxi,if_neg hyi]
  ·exact⟨h.d.len,fun r hr=>by rw[h.d.at_ r hr,Gd hp hji q hr]⟩
  ·rw[G5 hp hji him q hy hx];by_cases hxi:x=i
   ·subst hxi;by_cases hyj:y=j
    ·subst hyj;rw[if_pos ⟨rfl,rfl⟩,if_pos rfl,if_neg (by omega),if_pos rfl]
    ·rw[if_neg (fun q=>hyj q.2),if_pos rfl];by_cases hyj':y<j
     ·rw[if_pos ⟨rfl,hyj'⟩,if_pos hyj']
     ·rw[if_neg (fun q=>hyj' q.2),if_neg hyj',if_neg hyj]
   ·rw[if_neg (fun q=>hxi q.1),if_neg (fun q=>hxi q.1),if_neg hxi]
  ·simp only[j1,cond_false,qB (show j<1000000 by omega),lD,iC,zE,aE,h.d.len,h.l.pl,h.l.len him,decide_eq_true him,decide_eq_true hji,decide_eq_true (show j+1<m+1 by omega),cond_true,g1,g2,bK,cK,e1,e2,e3,e4,pC,Q96.f,h.a.pl];rw[f3];simp only[h.a.pl];rw[k3,l3];simp only[lD,iC,zE,aE,h.l.pl,l1.len him,decide_eq_true him,decide_eq_true hji,cond_true,g5,bK,cK,e5,e6,pC];rfl
 ·rw[decide_eq_false hw];refine⟨0,PA,PU,PL,?_,?_,by rw[Be,Bc];exact h,rfl⟩
  ·rcases aG (bz A j i j)with⟨h1,h2⟩|⟨h1,h2⟩<;>omega
  ·rcases aG (bz A j i j)with⟨h1,h2⟩|⟨h1,h2⟩<;>omega
theorem mw (h:LS m A U piA piU D piL PA PU PL)(hb:Ir m A U){k:Nat}(hk:k+1<m):Q103.f N ((k+1:Nat):Int) piA piU D piL PA PU PL=some (decide (4*(dz A (k+2)*dz A k+bz A k (k+1) k*bz A k (k+1) k)<3*(dz A (k+1)*dz A (k+1))),piA,piU,D,piL,PA,PU,PL):=by
 have g1:=h.l.get (i:=k+1) (j:=k) hk (by omega) (false,([]:W6));have g2:=h.d.at_ (k+2) (by omega);have g3:=h.d.at_ k (by omega);have g4:=h.d.at_ (k+1) (by omega);have b1:Bd 1000 (bz A k (k+1) k):=hb.b k (k+1) k (by omega) (hE _) hk (by omega);have b2:Bd 1000 (dz A (k+2)):=rT hb.b (by omega);have b3:Bd 1000 (dz A k):=rT hb.b (by omega);have b4:Bd 1000 (dz A (k+1)):=rT hb.b (by omega);have e1:=kV hN (b2.mono (show 1000≤2010 by omega)) (b3.mono (show 1000≤2010 by omega));have e2:=kV hN (b1.mono (show 1000≤2010 by omega)) (b1.mono (show 1000≤2010 by omega));have e3:=pt hN (b2.mul b3) (b1.mul b1) (by omega);have e4:=lg hN (x:=4) (i:=63) (by unfold Bd;decide) (hE _);have e5:=lg hN (x:=3) (i:=63) (by unfold Bd;decide) (hE _);have c4:Bd 3 4:=by unfold Bd;decide
 have c3:Bd 3 3:=by unfold Bd;decide
 have e6:=kV hN (c4.mono (show 3≤2010 by omega)) (((b2.mul b3).add (b1.mul b1)).mono (show 1000+1000+1≤2010 by omega));have e7:=kV hN (b4.mono (show 1000≤2010 by omega)) (b4.mono (show 1000≤2010 by omega));have e8:=kV hN (c3.mono (show 3≤2010 by omega)) ((b4.mul b4).mono (show 1000+1000≤2010 by omega));have e9:=Er hN (c4.mul ((b2.mul b3).add (b1.mul b1))) (c3.mul (b4.mul b4)) (by omega) (by omega);unfold Q103.f;simp only[an (show k<1000000 by omega),qB (show k+1<1000000 by omega),lD,iC,zE,aE,h.d.len,h.l.pl,h.l.len hk,decide_eq_true hk,decide_eq_true (show k<k+1 by omega),decide_eq_true (show k+1+1<m+1 by omega),decide_eq_true (show k<m+1 by omega),decide_eq_true (show k+1<m+1 by omega),cond_true,g1,g2,g3,g4,bK,cK,e1,e2,e3,e4,e5,e6,e7,e8,e9,pC,Q96.f,br]
end
open Go.Proofs.YtijigofaaefldaaGreat.Lat (el dp PD dD pE tr j0 oQ kH ko zK sw cG aJ)
section
variable {T E:Type}{e:T→E}{n m:Nat}{P:List (List E)}{pi:W7}{M:Nat→Nat→T}
theorem Bp {pi:W7}{k:Nat}(h:k+1<pi.length)(i:Nat):((pi.set (k+1) (pi.getD k 0)).set k (pi.getD (k+1) 0)).getD i 0=pi.getD (tr k i) 0:=by
 rw[aI,aI];by_cases h1:i=k
 ·subst h1;rw[if_pos ⟨rfl,by rw[y0];omega⟩,j0]
 ·rw[if_neg (fun q=>h1 q.1.symm)];by_cases h2:i=k+1
  ·subst h2;rw[if_pos ⟨rfl,h⟩,oQ]
  ·rw[if_neg (fun q=>h2 q.1.symm),kH h1 h2]
theorem Mx.swap (h:Mx e n (fun _=>m) P pi M){k:Nat}(hk:k+1<n):Mx e n (fun _=>m) P ((pi.set (k+1) (pi.getD k 0)).set k (pi.getD (k+1) 0)) (fun i=>M (tr k i)):=by
 have hg:=fun i=>Bp (pi:=pi) (k:=k) (by rw[h.pl];exact hk) i;refine⟨by rw[y0,y0,h.pl],fun i hi=>?_,fun i hi=>?_,fun i j hi hj hq=>?_⟩
 ·rw[hg];exact h.at_ _ (zK hk hi)
 ·rw[hg];exact h.in_ _ (zK hk hi)
 ·rw[hg,hg]at hq;have:=h.inj _ _ (zK hk hi) (zK hk hj) hq;rw[←ko k i,this,ko]
end
def Cl (k:Nat)(A:Nat→Nat→Int):Nat→Nat→Int:=fun a b=>A (tr k a) (tr k b)
theorem zO (k:Nat)(A:Nat→Nat→Int):mr (Cl k A)=sw k (mr A):=rfl
section
variable {N:Nat}(hN:1000000001<N){R:Type}{m:Nat}(hm:m≤8)
include hN hm
omit hN in
theorem Kh {k:Nat}(hk:k+1<m){B:Nat→Nat→Int}{piA piU piL:W7}{D:W3}{PU PL:W2}
  (k0:Int→W7→W7→W3→W7→W2→W2→W2→Option R):∀c i n PA,i+c=m→c<n→Mx zq m (fun _=>m) PA piA (fun x y=>if x<i then B x (tr k y)else B x y)→
  ∃PA',Mx zq m (fun _=>m) PA' piA (fun x y=>B x (tr k y))∧Q104.l3 N n ((k+1:Nat):Int) (m:Int) (i:Int) piA piU D piL PA PU PL k0=k0 ((k+1:Nat):Int) piA piU D piL PA' PU PL:=by
 intro c;induction c with
 |zero=>
  intro i n PA hi hn h1;obtain⟨n,rfl⟩:∃q,n=q+1:=⟨n-1,by omega⟩
  rw[Q104.l3,lD,decide_eq_false (by omega)];exact⟨PA,h1.ext fun x y hx hy=>by rw[if_pos (by omega)],rfl⟩
 |succ c ih=>
  intro i n PA hi hn h1;obtain⟨n,rfl⟩:∃q,n=q+1:=⟨n-1,by omega⟩
  have him:i<m:=by omega
  have d1:decide (i<m)=true:=decide_eq_true him;have d2:decide (k<m)=true:=decide_eq_true (by omega);have d3:decide (k+1<m)=true:=decide_eq_true hk;have g1:=h1.get (i:=i) (j:=k) him (by omega) (false,([]:W6));have g2:=h1.get (i:=i) (j:=k+1) him hk (false,([]:W6));rw[if_neg (by omega)]at g1 g2;have h2:=h1.set him (k+1) (B i k);have h3:=h2.set him k (B i (k+1));obtain⟨PA',f1,f2⟩:=ih (i+1) n _ (by omega) (by omega) (h3.ext fun x y _ _=>by
   by_cases hx:x=i
   ·subst hx;by_cases hy:y=k
    ·subst hy;rw[if_pos ⟨rfl,rfl⟩,if_pos (by omega),j0]
    ·rw[if_neg (fun q=>hy q.2)];by_cases hy1:y=k+1
     ·subst hy1;rw[if_pos ⟨rfl,rfl⟩,if_pos (by omega),oQ]
     ·rw[if_neg (fun q=>hy1 q.2),if_neg (by omega),if_pos (by omega),kH hy hy1]
   ·rw[if_neg (fun q=>hx q.1),if_neg (fun q=>hx q.1)];by_cases hx':x<i
    ·rw[if_pos hx',if_pos (by omega)]
    ·rw[if_neg hx',if_neg (by omega)])
  refine⟨PA',f1,?_⟩;have hl2:=h2.len him;rw[show zq (B i k)=(sg (B i k),pB (B i k))from rfl]at hl2;rw[Q104.l3];simp only[an (show k<1000000 by omega),lD,iC,zE,aE,h1.pl,h1.len him,d1,d2,d3,cond_true,g1,g2,bK,cK,hl2,qB (show i<1000000 by omega)];exact f2
theorem vn {A U:Nat→Nat→Int}(hs:Lat.qQ (mr A))(hp:PD m (mr A)){piA piU piL:W7}{D:W3}{PA PU PL:W2}(h:LS m A U piA piU D piL PA PU PL){k:Nat}(hk:k+1<m)(hB:∀r i j,r≤i→r≤j→i<m→j<m→Bd 1000 (bz (Cl k A) r i j)):
  ∃piA' piU' D' piL' PA' PL',LS m (Cl k A) (fun a=>U (tr k a)) piA' piU' D' piL' PA' PU PL'∧Q104.f N ((k+1:Nat):Int) piA piU D piL PA PU PL=some (piA',piU',D',piL',PA',PU,PL'):=by
 have hA:=h.a.swap hk;have hU:=h.u.swap hk;obtain⟨PA1,f1,f2⟩:=Kh (N:=N) hm hk (B:=fun i=>A (tr k i)) (piU:=(piU.set (k+1) (piU.getD k 0)).set k (piU.getD (k+1) 0)) (D:=D) (piL:=piL) (PU:=PU) (PL:=PL) (fun y27 y28 y29 y30 y31 y32 y33 y34=>(Q99.f N (fA (y27-1)) y28 y29 y30 y31 y32 y33 y34).bind fun r35=>some (r35.1,r35.2.1,r35.2.2.1,r35.2.2.2.1,r35.2.2.2.2.1,r35.2.2.2.2.2.1,r35.2.2.2.2.2.2)) m 0 N PA (by omega) (by omega) (hA.ext fun x y _ _=>by rw[if_neg (by omega)]);have hdp:∀r,r≤k→dz (Cl k A) r=dz A r:=fun r hr=>by unfold dz;rw[zO,aJ r hr]
 obtain⟨D',piL',PL',q1,q2,q3⟩:=oY (A:=Cl k A) (hs.sw k) (hp.sw hs hk) hB hN hm (piU:=(piU.set (k+1) (piU.getD k 0)).set k (piU.getD (k+1) 0)) (PU:=PU) f1 (k:=k) (by omega) ⟨h.d.len,fun i hi=>by rw[h.d.at_ i (by omega),hdp i hi]⟩ ((h.l.mp.less (show k≤m by omega)).ext fun x t hx ht=>by unfold bz;rw[zO,aJ t (by omega),cG t (by omega),kH (a:=x) (by omega) (by omega),kH (a:=t) (by omega) (by omega)]);refine⟨_,_,D',piL',PA1,PL',⟨f1,hU,q1,q2⟩,?_⟩;simp only[hJ]at f2;have d2:decide (k<m)=true:=decide_eq_true (by omega);have d3:decide (k+1<m)=true:=decide_eq_true hk;unfold Q104.f;simp only[an (show k<1000000 by omega),lD,iC,zE,aE,h.a.pl,h.u.pl,y0,d2,d3,cond_true];rw[f2];simp only[an (show k<1000000 by omega),q3,pC]
def xH (m:Nat)(A:Nat→Nat→Int):Nat→Nat→Int:=fun i j=>if i<m∧j<m then A i j else 0
def rX:Nat→Nat→Int:=fun i j=>if i=j then 1 else 0
theorem K9 {a:W5}(hs:Sq m a)(hb:∀i j,i<m→j<m→Bd 63 (av a i j)){i:Nat}(hi:i<m)(x11 x12:Int)(PA PU:W2)(piA piU:W7)(z:W3)(k2:W5→Int→Int→Int→W2→W7→W2→W7→W3→W3→Option R):∀k j n,j+k=m→k<n→
  Q100.l7 N n a (i:Int) x11 x12 (m:Int) (j:Int) PA piA PU piU (row zq m fun t=>if t<j then av a i t else 0) z k2=k2 a (i:Int) x11 x12 PA piA PU piU (row zq m (av a i)) z:=by
 intro k;induction k with
 |zero=>
  intro j n hj hn;obtain⟨n,rfl⟩:∃q,n=q+1:=⟨n-1,by omega⟩
  rw[Q100.l7,lD,decide_eq_false (by omega),mB zq (g:=av a i) fun t ht=>if_pos (by omega)];rfl
 |succ k ih=>
  intro j n hj hn;obtain⟨n,rfl⟩:∃q,n=q+1:=⟨n-1,by omega⟩
  have d1:decide (j<m)=true:=decide_eq_true (by omega);have d2:decide (i<m)=true:=decide_eq_true hi;have e1:=lg hN (hb i j hi (by omega)) (hE _);unfold av at e1;rw[Q100.l7];simp only[lD,iC,zE,aE,hs.1,hs.2 i hi,d1,d2,cond_true,e1,pC,bC,qB (show j<1000000 by omega)];rw[show(sg ((a.getD i []).getD j 0),pB ((a.getD i []).getD j 0))=zq (av a i j)from rfl,lG,←ih (j+1) n (by omega) (by omega)];congr 1;refine mB zq fun t ht=>?_;by_cases h:t=j
  ·subst h;rw[if_pos rfl,if_pos (by omega)]
  ·rw[if_neg h];by_cases h':t<j
   ·rw[if_pos h',if_pos (by omega)]
   ·rw[if_neg h',if_neg (by omega)]
theorem K8 {a:W5}(hs:Sq m a)(hb:∀i j,i<m→j<m→Bd 63 (av a i j))(k0:W5→W2→W7→W2→W7→Option R):∀k i n PA piA PU piU,i+k=m→k<n→Mx zq i (fun _=>m) PA piA (av a)→Mx zq i (fun _=>m) PU piU rX→
  ∃PA' piA' PU' piU',Mx zq m (fun _=>m) PA' piA' (av a)∧Mx zq m (fun _=>m) PU' piU' rX∧Q100.l3 N n a (m:Int) (i:Int) PA piA PU piU k0=k0 a PA' piA' PU' piU':=by
 intro k;induction k with
 |zero=>
  intro i n PA piA PU piU hi hn h1 h2;obtain⟨n,rfl⟩:∃q,n=q+1:=⟨n-1,by omega⟩
  obtain rfl:i=m:=by omega
  rw[Q100.l3,lD,decide_eq_false (by omega)];exact⟨PA,piA,PU,piU,h1,h2,rfl⟩
 |succ k ih=>
  intro i n PA piA PU piU hi hn h1 h2;obtain⟨n,rfl⟩:∃q,n=q+1:=⟨n-1,by omega⟩
  have him:i<m:=by omega
  have d1:decide (i<m)=true:=decide_eq_true him;have p1:=(h1.push m (av a i)).cast (len':=fun _=>m) (M':=av a) (fun x _=>by by_cases h:x=i<;>simp[h]) fun x y _ _=>by by_cases h:x=i<;>simp[h]
  have p2:=(h2.push m (rX i)).cast (len':=fun _=>m) (M':=rX) (fun x _=>by by_cases h:x=i<;>simp[h]) fun x y _ _=>by by_cases h:x=i<;>simp[h]
  obtain⟨PA',piA',PU',piU',f1,f2,f3⟩:=ih (i+1) n _ _ _ _ (by omega) (by omega) p1 p2;refine⟨PA',piA',PU',piU',f1,f2,?_⟩;have e7:=fun z k2=>K9 (R:=R) hN hm hs hb (i:=i) him (m:Int) (i:Int) PA PU piA piU z k2 m 0 N (by omega) (by omega);simp only[hJ]at e7;rw[Q100.l3];simp only[hs.1,lD,d1,cond_true,tD,iC,eQ (show m≤1000 by omega),dC (show m≤1000 by omega) (show 32≤1000 by omega),hV,aE];rw[←lb,nH zq m 0];have e8:=mB zq (m:=m) (f:=fun _=>0) (g:=fun t=>if t<0 then av a i t else 0) fun t _=>(if_neg (by omega)).symm;generalize hz:row zq m (fun _=>(0:Int))=z at*;rw[show Q100.l7 (R:=R) N N a (i:Int) (m:Int) (i:Int) (m:Int) 0 PA piA PU piU z z=Q100.l7 N N a (i:Int) (m:Int) (i:Int) (m:Int) 0 PA piA PU piU (row zq m fun t=>if t<0 then av a i t else 0) z by rw[e8],e7];simp only[lg hN (x:=1) (i:=63) (oR (by omega)) (hE _),pC];rw[←hz];simp only[bC,lD,iC,zE,aE,d1,cond_true,h1.pl,h2.pl,dC (show i+1≤1000 by omega) (show 24≤1000 by omega),qB (show i<1000000 by omega)];have e9:(row zq m fun _=>(0:Int)).set i (zq 1)=row zq m (rX i):=by
   rw[lG];refine mB zq fun t _=>?_;unfold rX;by_cases h:t=i
   ·rw[if_pos h,if_pos h.symm]
   ·rw[if_neg h,if_neg fun q=>h q.symm]
  rw[show(sg 1,pB 1)=zq 1 from rfl,e9];exact f3
theorem Aj {a:W5}(h1:1≤m)(hs:Sq m a)(hb:∀i j,i<m→j<m→Bd 63 (av a i j))(hsym:Lat.qQ (mr (xH m (av a))))(hp:PD m (mr (xH m (av a))))(hB:∀r i k,r≤i→r≤k→i<m→k<m→Bd 1000 (bz (xH m (av a)) r i k)):
  ∃piA piU D piL PA PU PL,LS m (xH m (av a)) rX piA piU D piL PA PU PL∧Q100.f N a=some (PA,piA,PU,piU,D,PL,piL):=by
 obtain⟨PA,piA,PU,piU,f1,f2,f3⟩:=K8 hN hm hs hb (fun y48 y49 y50 y51 y52=>bif dG (y48.length:Int) (y48.length:Int)&&decide (0≤(y48.length:Int))&&decide ((y48.length:Int)≤9223372036854775807)&&lB ((y48.length:Int).toNat) 24 then bif dG (fA ((y48.length:Int)+1)) (fA ((y48.length:Int)+1))&&decide (0≤fA ((y48.length:Int)+1))&&decide (fA ((y48.length:Int)+1)≤9223372036854775807)&&lB ((fA ((y48.length:Int)+1)).toNat) 32 then(Q99.f N 0 y50 y52 (hR ((fA ((y48.length:Int)+1)).toNat) (false,([]:W6))) (hR ((y48.length:Int).toNat) 0) y49 y51 [[]]).bind fun r53=>some (r53.2.2.2.2.1,r53.1,r53.2.2.2.2.2.1,r53.2.1,r53.2.2.1,r53.2.2.2.2.2.2,r53.2.2.2.1)else none else none) m 0 N [] [] [] [] (by omega) (by omega) (bR zq _ _) (bR zq _ _);have f1':Mx zq m (fun _=>m) PA piA (xH m (av a)):=f1.ext fun i j hi hj=>by unfold xH;rw[if_pos ⟨hi,hj⟩]
 obtain⟨D',piL',PL',q1,q2,q3⟩:=oY (A:=xH m (av a)) hsym hp hB hN hm (piU:=piU) (PU:=PU) f1' (k:=0) (piL:=hR m 0) (D:=(hR (m+1) (false,([]:W6))).set 0 (zq 1)) (PL:=[[]]) (by omega) ⟨by simp,fun i hi=>by
  obtain rfl:i=0:=by omega
  rw[aI,if_pos ⟨rfl,by simp⟩];rfl⟩ ⟨by simp,fun i hi=>by omega,fun i hi=>by omega,fun i j hi=>by omega⟩
 refine⟨piA,piU,D',piL',PA,PU,PL',⟨f1',f2,q1,q2⟩,?_⟩;simp only[hJ]at f3 q3;have q4:Q99.f N 0 piA piU (hR (m+1) (false,([]:W6))) (hR m 0) PA PU [[]]=some (piA,piU,D',piL',PA,PU,PL'):=by rw[←q3];unfold Q99.f;rw[lg hN (oR (show 0<63 by omega)) (hE _)];simp only[pC,y0,List.set_set]
 unfold Q100.f;rw[hs.1,f3];simp only[hs.1,qB (show m<1000000 by omega),tD,iC,eQ (show m≤1000 by omega),eQ (show m+1≤1000 by omega),aE,dC (show m≤1000 by omega) (show 24≤1000 by omega),dC (show m+1≤1000 by omega) (show 32≤1000 by omega),hV,cond_true,q4,pC]
end
open Go.Proofs.YtijigofaaefldaaGreat.Lat (sm iB jD Wh tE el dp PD dD pE tr j0 oQ kH zK sw sh Rw Lt gr ip pX pp jo jq nN o9 gZ rf pH mU cG wK bS sO aJ wR pO aS qh vR qT uR ij F6 I2 Hs gv ke yO al ml yE jF)
def Wv (x:Nat→Rat):Prop:=∀t,t<8→Wh (x t)
theorem sd:Lat.jT Wv:=fun x y q hx hy hq t ht=>Lat.fm (hx t ht) (Lat.mE hq (hy t ht))
structure H0 (a:Nat→Nat→Int):Prop where
 sym:Lat.qQ (mr a)
 pd:PD 8 (mr a)
 dd:dp (mr a) 8=1
 bd:∀i j,i<8→j<8→ -16384≤a i j∧a i j≤16384
structure LI (a A U:Nat→Nat→Int)(k t:Nat)(C:Rat):Prop where
 sym:Lat.qQ (mr A)
 lt:Lt (mr a) 8 8 Wv (mr U)
 eq:∀i j,i<8→j<8→mr A i j=gr (mr a) 8 (mr U) i j
 dd:dp (mr A) 8=1
 bm:∀i,i<8→el (mr A) i i i≤16384
 sr:∀i,i<k→∀j,j<i→Rw (mr A) i j (1/2)
 lv:∀i,i+1<k→3/4*el (mr A) i i i≤el (mr A) (i+1) (i+1) (i+1)+el (mr A) i (i+1) i*el (mr A) i (i+1) i/el (mr A) i i i
 gd:∀i,i<8→k<i→mr A i i≤65536
 wk:∀j,j<k→k<8→Rw (mr A) k j (if j<t then C else 1/2)
section
variable {a A U:Nat→Nat→Int}{k t:Nat}{C:Rat}
theorem LI.pd (h:LI a A U k t C):PD 8 (mr A):=h.lt.pd.up fun i j hi hj=>(h.eq i j hi hj).symm
theorem LI.wh (h:LI a A U k t C){r:Nat}(hr:r≤8):Wh (dp (mr A) r):=by
 have:=xD (a:=A) (r:=r) fun l hl=>h.pd.ne (by omega);rw[←this];exact tE _
theorem LI.el_lo (h:LI a A U k t C){r:Nat}(hr:r<8):1≤(16384:Rat)^7*el (mr A) r r r:=by
 have h1:=F6 h.pd (fun r hr=>h.wh hr) (B:=16384) (fun t ht=>h.bm t ht) (by decide+kernel) hr;have h2:(16384:Rat)^r≤16384^7:=by
  have:r=0∨r=1∨r=2∨r=3∨r=4∨r=5∨r=6∨r=7:=by omega
  rcases this with rfl|rfl|rfl|rfl|rfl|rfl|rfl|rfl<;>decide+kernel
 exact hT h1 (hK h2 (b0 (h.pd r hr)))
theorem di {i:Nat}(h:i≤8):((i:Nat):Rat)≤8:=by
 rw[show(8:Rat)=((8:Nat):Rat)from rfl];exact j5.2 h
theorem LI.diag (h:LI a A U k t C)(hC:1≤C)(hC':C≤2^80){i:Nat}(hi:i<8):mr A i i≤2^180:=by
 have key:∀c:Rat,0≤c→c≤2^80→(∀t,t<i→Rw (mr A) i t c)→mr A i i≤2^180:=fun c h0 hc hr=>by
  have h1:=uR h.sym h.pd hi (B:=16384) h.bm h0 hr;have h2:c*c≤2^160:=by
   have e:(2:Rat)^80*2^80=2^160:=by decide+kernel
   have e1:=hK hc h0;have e2:=pR hc (show(0:Rat)≤2^80 by decide+kernel);rw[←e];exact hT e1 e2
  have h3:=hK h2 (show(0:Rat)≤16384 by decide+kernel);have h4:(0:Rat)≤c*c*16384:=u0 (u0 h0 h0) (by decide+kernel);have h5:=hK (di (show i≤8 by omega)) h4;have h6:=pR h3 (show(0:Rat)≤8 by decide+kernel);have h7:(16384:Rat)+8*(2^160*16384)≤2^180:=by decide+kernel
  grind
 rcases Nat.lt_trichotomy i k with hk|hk|hk
 ·exact key (1/2) (by decide+kernel) (by decide+kernel) (h.sr i hk)
 ·subst hk;refine key C (by grind) hC' fun j hj=>?_;have:=h.wk j hj hi;split at this
  ·exact this
  ·exact this.up (by grind) (h.pd j (by omega))
 ·exact hT (h.gd i hi hk) (by decide+kernel)
theorem qR {k:Nat}{x:Int}{c:Rat}(hc:0≤c)(h:(x:Rat)*x≤c*c)(hk:c<((2^k:Nat):Rat)):Bd k x:=bg (yO hc h) hk
theorem LI.sml (h:LI a A U k t C)(ha:H0 a)(hC:1≤C)(hC':C≤2^80):Ir 8 A U:=by
 have hd:=fun{i} (hi:i<8)=>h.diag hC hC' hi;have hpos:∀{r i:Nat},r≤i→i<8→0<el (mr A) r i i:=fun hr hi=>h.pd.diag h.sym hr hi;have hel:∀{r i:Nat},r≤i→i<8→el (mr A) r i i≤2^180:=fun{r i} hr hi=>hT (Lat.rO h.sym h.pd i (u2 r) (by omega)) (hd hi);have hsq:∀{r i j:Nat},r≤i→r≤j→i<8→j<8→el (mr A) r i j*el (mr A) r i j≤2^180*2^180:=fun{r i j} hr hr' hi hj=>by have h1:=qh h.sym h.pd hr hr' hi hj;have h2:=hK (hel hr hi) (b0 (hpos hr' hj));have h3:=pR (hel hr' hj) (show(0:Rat)≤2^180 by decide+kernel);exact hT h1 (hT h2 h3)
 have h2:(2:Rat)^180<((2^1000:Nat):Rat):=by decide+kernel
 refine⟨fun i j hi hj=>?_,fun i j hi hj=>?_,fun r i j hr hr' hi hj=>?_⟩
 ·exact qR (c:=2^180) (by decide+kernel) (hsq (r:=0) (u2 _) (u2 _) hi hj) h2
 ·have h1:=gv (B:=16384) (by decide+kernel) (7-j) j (mr a) (mr U i) (n:=8) (by omega) ha.sym ha.pd ha.dd (fun t ht=>by
   have:=(ha.bd t t ht ht).2;exact hG.2 this)
  have e:(sm 8 fun x=>sm 8 fun y=>mr U i x*mr U i y*mr a x y)=mr A i i:=(h.eq i i hi hi).symm;rw[e]at h1;have h3:=pR (hd hi) (show(0:Rat)≤16384^(8-1) by decide+kernel);exact qR (c:=2^180) (by decide+kernel) (hT h1 (hT h3 (by decide+kernel))) h2
 ·have hdp:=ij h.pd (B:=16384) h.bm (by decide+kernel) r (by omega);have hdp0:=dD (M:=mr A) (r:=r) fun l hl=>h.pd l (by omega);have hdp2:dp (mr A) r≤2^112:=hT hdp (by
   have:r=0∨r=1∨r=2∨r=3∨r=4∨r=5∨r=6∨r=7:=by omega
   rcases this with rfl|rfl|rfl|rfl|rfl|rfl|rfl|rfl<;>decide+kernel)
  have hc:=vE (a:=A) (r:=r) (fun l hl=>h.pd.ne (by omega)) hr hr';have h3:=yO (show(0:Rat)≤2^180 by decide+kernel) (hsq hr hr' hi hj);have h4:=Lat.yE (dp (mr A) r);have h5: -((2:Rat)^112*2^180)≤(bz A r i j:Rat)∧(bz A r i j:Rat)≤2^112*2^180:=by
   rw[hc];exact dh ⟨by
     have:(0:Rat)≤2^112:=by decide+kernel
     grind,hdp2⟩ h3
  exact bg h5 (by decide+kernel)
theorem Af (i j:Nat)(q:Int)(U:Nat→Nat→Int):mr (rh i j q U)=Lat.fy i j (q:Rat) (mr U):=by
 funext x y;unfold mr rh Lat.fy;by_cases h:x=i
 ·rw[if_pos h,if_pos h,p0,xK]
 ·rw[if_neg h,if_neg h]
theorem LI.short {j:Nat}(h:LI a A U k (j+1) C)(hC:1≤C)(hjk:j<k)(hk:k<8){q:Int}(hq1: -(dz A (j+1))≤2*(bz A j k j-q*dz A (j+1)))(hq2:2*(bz A j k j-q*dz A (j+1))≤dz A (j+1)):LI a (lf k j q A) (rh k j q U) k j (2*C):=by
 have hp:=h.pd;have hdj:=hp j (by omega);have hq: -(1/2*el (mr A) j j j)≤el (mr A) j k j-q*el (mr A) j j j∧el (mr A) j k j-q*el (mr A) j j j≤1/2*el (mr A) j j j:=by
  have c1:=vE (a:=A) (r:=j) (i:=k) (k:=j) (fun l hl=>hp.ne (by omega)) (by omega) (hE _);have c2:=xD (a:=A) (r:=j+1) (fun l hl=>hp.ne (by omega));have hd:=dD (M:=mr A) (r:=j) fun l hl=>hp l (by omega);have e1:((-(dz A (j+1)):Int):Rat)≤((2*(bz A j k j-q*dz A (j+1)):Int):Rat):=hG.2 hq1;have e2:((2*(bz A j k j-q*dz A (j+1)):Int):Rat)≤((dz A (j+1):Int):Rat):=hG.2 hq2;rw[o3,xK,p0,xK,c1,c2]at e1;rw[xK,p0,xK,c1,c2]at e2;have e3:dp (mr A) (j+1)=dp (mr A) j*el (mr A) j j j:=rfl;rw[e3]at e1 e2;have e4:(((2:Int):Int):Rat)=2:=rfl;rw[e4]at e1 e2;constructor
  ·refine o4 (c:=dp (mr A) j) ?_ hd;grind
  ·refine o4 (c:=dp (mr A) j) ?_ hd;grind
 have hwj:=h.wk j hjk hk;rw[if_pos (by omega)]at hwj;have hqc:=I2 hdj hwj hq;have hdiag:∀r,r<8→el (mr (lf k j q A)) r r r=el (mr A) r r r:=fun r hr=>by rw[qK];exact pH hjk fun l hl=>hp.ne (by omega)
 have hel:∀{x s},s<x→x<8→el (mr (lf k j q A)) s x s=if x=k then(if s<j then el (mr A) s k s-q*el (mr A) s j s else if s=j then el (mr A) j k j-q*el (mr A) j j j else el (mr A) s k s)else el (mr A) s x s:=fun hs hx=>by rw[qK];exact rf hp _ hjk hk hs hx
 refine⟨by rw[qK];exact h.sym.sh _ _ _,by rw[Af];exact h.lt.sh sd hjk hk (tE _),fun x y hx hy=>?_,by rw[qK,mU hjk fun l hl=>hp.ne (by omega)];exact h.dd,fun i hi=>by rw[hdiag i hi];exact h.bm i hi,fun i hi s hs=>?_,fun i hi=>?_,fun i hi hki=>?_,fun s hs _=>?_⟩
 ·rw[qK,Af,Lat.ni];unfold sh;rw[h.eq k k hk hk,h.eq j k (by omega) hk,h.eq k j hk (by omega),h.eq j j (by omega) (by omega),h.eq k y hk hy,h.eq j y (by omega) hy,h.eq x k hx hk,h.eq x j hx (by omega),h.eq x y hx hy]
 ·have:=h.sr i hi s hs;unfold Rw at*;rw[hdiag s (by omega),hel hs (by omega),if_neg (by omega)];exact this
 ·have:=h.lv i hi;rw[hdiag i (by omega),hdiag (i+1) (by omega),hel (by omega) (by omega),if_neg (by omega)];exact this
 ·have:=h.gd i hi hki;have e:mr (lf k j q A) i i=mr A i i:=by rw[qK,Lat.lI _ _ _ (by omega) (by omega)]
  rw[e];exact this
 ·unfold Rw;rw[hdiag s (by omega),hel hs hk,if_pos rfl];by_cases h1:s<j
  ·rw[if_pos h1,if_pos h1];have g1:=h.wk s hs hk;rw[if_pos (by omega)]at g1;exact Hs hC (hp s (by omega)) g1 (h.sr j hjk s h1) hqc
  ·rw[if_neg h1,if_neg h1];by_cases h2:s=j
   ·subst h2;rw[if_pos rfl];exact hq
   ·rw[if_neg h2];have g1:=h.wk s hs hk;rw[if_neg (by omega)]at g1;exact g1
theorem LI.swap (h:LI a A U (k+1) k C)(ha:H0 a)(hC:1≤C)(hk:k+1<8)(hf:el (mr A) (k+1) (k+1) (k+1)+el (mr A) k (k+1) k*el (mr A) k (k+1) k/el (mr A) k k k<3/4*el (mr A) k k k):LI a (Cl k A) (fun x=>U (tr k x)) (max 1 k) (max 1 k) (if k=0 then 2^57 else C)∧dp (mr (Cl k A)) (k+1)<dp (mr A) (k+1)∧∀r,r≤8→r≠k+1→dp (mr (Cl k A)) r=dp (mr A) r:=by
 have hp:=h.pd;have hsy:=h.sym;have h0:=hp k (by omega);have h1:=hp.diag hsy (r:=k) (a:=k+1) (by omega) hk;have h2:=hp.pair hk;have h3:=hp (k+1) hk;have hpiv:el (mr A) k (k+1) (k+1)=el (mr A) (k+1) (k+1) (k+1)+el (mr A) k (k+1) k*el (mr A) k (k+1) k/el (mr A) k k k:=by show _=el (mr A) k (k+1) (k+1)-el (mr A) k (k+1) k*el (mr A) k k (k+1)/el (mr A) k k k+_;rw[pE hsy k k (k+1)];grind
 have hk1:el (sw k (mr A)) (k+1) (k+1) (k+1)≤el (mr A) k k k:=by
  have e1:=bS (M:=mr A) (k:=k) (by grind);rw[←aS (hp.ne (by omega))]at e1;refine o4 (c:=el (mr A) k (k+1) (k+1)) ?_ h1;rw[e1];have e2:el (mr A) (k+1) (k+1) (k+1)≤el (mr A) k (k+1) (k+1):=by rw[hpiv];have:=jF (yE (el (mr A) k (k+1) k)) h0;grind
  have:=hK e2 (b0 h0);grind
 have hpk:el (sw k (mr A)) k k k=el (mr A) k (k+1) (k+1):=wK;have hlow:∀{x s},s<x→x<k→el (sw k (mr A)) s x s=el (mr A) s x s:=fun{x s} hs hx=>by rw[cG s (by omega),kH (a:=x) (by omega) (by omega),kH (a:=s) (by omega) (by omega)]
 have hdlow:∀{s},s<k→el (sw k (mr A)) s s s=el (mr A) s s s:=fun{s} hs=>by rw[cG s (by omega),kH (a:=s) (by omega) (by omega)]
 have hd:∀r,r≤8→r≠k+1→dp (mr (Cl k A)) r=dp (mr A) r:=fun r hr hne=>by
  rw[zO];by_cases e:r≤k
  ·exact aJ r e
  ·exact pO (by grind) (by grind) (by grind) r (by omega)
 have hpd':PD 8 (sw k (mr A)):=hp.sw hsy hk;refine⟨⟨hsy.sw k,?_,fun x y hx hy=>?_,?_,fun i hi=>?_,fun i hi s hs=>?_,fun i hi=>?_,fun i hi hki=>?_,fun s hs hk8=>?_⟩,?_,hd⟩
 ·exact h.lt.sw ha.sym hk
 ·exact h.eq _ _ (zK hk hx) (zK hk hy)
 ·rw[hd 8 (hE _) (by omega)];exact h.dd
 ·rw[zO];rcases Nat.lt_trichotomy i k with e|e|e
  ·rw[hdlow e];exact h.bm i hi
  ·subst e;rw[hpk,hpiv];have:=h.bm i (by omega);grind
  ·by_cases e':i=k+1
   ·subst e';exact hT hk1 (h.bm k (by omega))
   ·rw[sO (by grind) (by grind) (by grind) i (by omega),kH (by omega) (by omega)];exact h.bm i hi
 ·have hik:i<k:=by omega
  have:=h.sr i (by omega) s hs;unfold Rw at*;rw[zO,hdlow (by omega),hlow hs hik];exact this
 ·have:=h.lv i (by omega);rw[zO,hdlow (by omega),hdlow (by omega),hlow (by omega) (by omega)];exact this
 ·show mr A (tr k i) (tr k i)≤65536;by_cases e:i=k+1
  ·subst e;rw[oQ];have h4:=uR hsy hp (i:=k) (by omega) (B:=16384) h.bm (c:=1/2) (by decide+kernel) (h.sr k (by omega));have h5:=hK (di (show k≤8 by omega)) (show(0:Rat)≤1/2*(1/2)*16384 by decide+kernel);have h6:(16384:Rat)+8*(1/2*(1/2)*16384)≤65536:=by decide+kernel
   grind
  ·rw[kH (by omega) e];exact h.gd i hi (by omega)
 ·rw[if_pos hs];by_cases e:k=0
  ·subst e;rw[if_pos rfl];obtain rfl:s=0:=by omega
   show Rw (sw 0 (mr A)) 1 0 (2^57);have t1:=qT (hsy.sw 0) hpd' (i:=1) (t:=0) (by omega) (by omega);have e1:sw 0 (mr A) 1 1=mr A 0 0:=rfl;have e2:mr A 0 0≤16384:=h.bm 0 (by omega);have e3:=hpd' 0 (by omega);have e4:1≤el (sw 0 (mr A)) 0 0 0:=by have w:Wh (el (sw 0 (mr A)) 0 0 0):=lQ A _ _;exact al w e3
   rw[e1]at t1;unfold Rw;refine yO (by have:=u0 (show(0:Rat)≤2^57 by decide+kernel) (b0 e3);exact this) ?_;have f1:=hK e2 (b0 e3);have f2:=hK e4 (b0 e3);have f3:(16384:Rat)*el (sw 0 (mr A)) 0 0 0≤2^57*2^57*(el (sw 0 (mr A)) 0 0 0*el (sw 0 (mr A)) 0 0 0):=by have f4:=pR f2 (show(0:Rat)≤2^57*2^57 by decide+kernel);have f5:(16384:Rat)*el (sw 0 (mr A)) 0 0 0≤2^57*2^57*el (sw 0 (mr A)) 0 0 0:=hK (by decide+kernel) (b0 e3);grind
   grind
  ·rw[if_neg e];have em:max 1 k=k:=by omega
   rw[em]at hs⊢;have g:=h.wk s (by omega) hk;rw[if_pos hs]at g;unfold Rw at*;rw[zO,hdlow hs,cG s (by omega),j0,kH (a:=s) (by omega) (by omega)];exact g
 ·rw[zO,wR];show _<dp (mr A) k*el (mr A) k k k;refine s6 ?_ (dD fun l hl=>hp l (by omega));rw[hpiv];grind
theorem LI.done (h:LI a A U (k+1) 0 C)(hk:k+1<8)(hl:3/4*el (mr A) k k k≤el (mr A) (k+1) (k+1) (k+1)+el (mr A) k (k+1) k*el (mr A) k (k+1) k/el (mr A) k k k):LI a A U (k+2) (k+2) (2^57):=by
 have hp:=h.pd;refine⟨h.sym,h.lt,h.eq,h.dd,h.bm,fun i hi s hs=>?_,fun i hi=>?_,fun i hi hki=>h.gd i hi (by omega),fun s hs hk8=>?_⟩
 ·by_cases e:i=k+1
  ·subst e;have:=h.wk s hs hk;rw[if_neg (by omega)]at this;exact this
  ·exact h.sr i (by omega) s hs
 ·by_cases e:i=k
  ·subst e;exact hl
  ·exact h.lv i (by omega)
 ·rw[if_pos hs];have t1:=qT h.sym hp hk8 hs;have e2:=h.gd (k+2) hk8 (by omega);have e3:=hp s (by omega);have e4:=h.el_lo (r:=s) (by omega);unfold Rw;refine yO (u0 (by decide+kernel) (b0 e3)) ?_;have f1:=hK e2 (b0 e3);have f2:=hK e4 (b0 e3);have f3:(65536:Rat)*el (mr A) s s s≤65536*(16384^7*el (mr A) s s s*el (mr A) s s s):=by grind
  have f4:(65536:Rat)*16384^7≤2^57*2^57:=by decide+kernel
  have f5:=hK f4 (Lat.yE (el (mr A) s s s));grind
end
open Go.Proofs.YtijigofaaefldaaGreat.Lat (sm iB jD Wh tE el dp PD dD pE tr sw sh Rw Lt gr pp jo jq nN o9 gZ rf pH mU)
section
variable {a A U:Nat→Nat→Int}{k t:Nat}{C:Rat}
theorem LI.up (h:LI a A U k t C){C':Rat}(hC:C≤C'):LI a A U k t C':=by
 refine⟨h.sym,h.lt,h.eq,h.dd,h.bm,h.sr,h.lv,h.gd,fun j hj hk=>?_⟩;have:=h.wk j hj hk;split
 ·rw[if_pos ‹_›]at this;exact this.up hC (h.pd j (by omega))
 ·rw[if_neg ‹_›]at this;exact this
theorem LI.pp_nat (h:LI a A U k t C):∃w:Nat,pp (mr A) 8=(w:Rat):=
 gZ (o9 (m:=8) (fun i j _ _=>lQ A i j) h.pd (hE _)) (nN h.pd)
def Ey (A:Nat→Nat→Int)(k:Nat):Prop:=3/4*el (mr A) k k k≤el (mr A) (k+1) (k+1) (k+1)+el (mr A) k (k+1) k*el (mr A) k (k+1) k/el (mr A) k k k
theorem B0 (hp:PD 8 (mr A)){i j:Nat}(hji:j<i)(q:Int):pp (mr (lf i j q A)) 8=pp (mr A) 8:=by
 rw[qK];exact jq fun r hr=>mU hji fun l hl=>hp.ne (by omega)
theorem Dl (hp:PD 8 (mr A)){k j:Nat}(hj:j<k)(hk:k+1<8)(q:Int)(h:Ey A k):Ey (lf (k+1) j q A) k:=by
 unfold Ey at*;rw[qK,pH (by omega) (fun l hl=>hp.ne (by omega)),pH (by omega) (fun l hl=>hp.ne (by omega)),rf hp _ (by omega) hk (by omega) hk,if_pos rfl,if_neg (by omega),if_neg (by omega)];exact h
theorem tj (hp:PD 8 (mr A)){k:Nat}(hk:k+1<8):4*(dz A (k+2)*dz A k+bz A k (k+1) k*bz A k (k+1) k)<3*(dz A (k+1)*dz A (k+1))↔¬Ey A k:=by
 have c0:=xD (a:=A) (r:=k) (fun l hl=>hp.ne (by omega));have c1:=xD (a:=A) (r:=k+1) (fun l hl=>hp.ne (by omega));have c2:=xD (a:=A) (r:=k+2) (fun l hl=>hp.ne (by omega));have c3:=vE (a:=A) (r:=k) (i:=k+1) (k:=k) (fun l hl=>hp.ne (by omega)) (by omega) (hE _);have e1:dp (mr A) (k+1)=dp (mr A) k*el (mr A) k k k:=rfl;have e2:dp (mr A) (k+2)=dp (mr A) k*el (mr A) k k k*el (mr A) (k+1) (k+1) (k+1):=rfl;have hd:=dD (M:=mr A) (r:=k) fun l hl=>hp l (by omega);have h0:=hp k (by omega);rw[←s0,xK,xK,n3,xK,xK,xK,c0,c1,c2,c3,e1,e2];rw[show(((4:Int):Int):Rat)=4 from rfl,show(((3:Int):Int):Rat)=3 from rfl];unfold Ey;generalize el (mr A) (k+1) (k+1) (k+1)=y at*;generalize el (mr A) k (k+1) k=x at*;generalize el (mr A) k k k=e at*;generalize dp (mr A) k=d at*;have hdd:=j6 (j6 hd hd) h0;have key:3*(d*e*(d*e))-4*(d*e*y*d+d*x*(d*x))=d*d*e*(4*(3/4*e- (y+x*x/e))):=by
  have hne:e≠0:=by grind
  grind
 rw[Rat.not_le];constructor
 ·intro h;have h1:d*d*e*0<d*d*e*(4*(3/4*e- (y+x*x/e))):=by grind
  have h2:=k7 h1 (b0 hdd);grind
 ·intro h;have h1:(0:Rat)<4*(3/4*e- (y+x*x/e)):=by grind
  have h2:=j6 hdd h1;grind
variable {N:Nat}(hN:1000000001<N)(ha:H0 a){R:Type}
include hN ha
theorem Jj {k:Nat}(hk:k+1<8){piA piU piL:W7}{D:W3}(k2:Int→W7→W7→W3→W7→W2→W2→W2→Option R):
  ∀t n A U PA PU PL C,t<n→t≤k→LS 8 A U piA piU D piL PA PU PL→LI a A U (k+1) t C→1≤C→C*2^t≤2^79→Ey A k→
  ∃A' U' PA' PU' PL' C',LS 8 A' U' piA piU D piL PA' PU' PL'∧LI a A' U' (k+1) 0 C'∧Ey A' k∧pp (mr A') 8=pp (mr A) 8∧
   Q105.l8 N n ((k+1:Nat):Int) ((t:Int)-1) piA piU D piL PA PU PL k2=k2 ((k+1:Nat):Int) piA piU D piL PA' PU' PL':=by
 intro t;induction t with
 |zero=>
  intro n A U PA PU PL C hn ht hS hI hC hC' hl;obtain⟨n,rfl⟩:∃q,n=q+1:=⟨n-1,by omega⟩
  refine⟨A,U,PA,PU,PL,C,hS,hI,hl,rfl,?_⟩;rw[Q105.l8,decide_eq_false (by omega)];rfl
 |succ t ih=>
  intro n A U PA PU PL C hn ht hS hI hC hC' hl;obtain⟨n,rfl⟩:∃q,n=q+1:=⟨n-1,by omega⟩
  have h2t:(1:Rat)≤2^t:=by
   have:t=0∨t=1∨t=2∨t=3∨t=4∨t=5∨t=6∨t=7:=by omega
   rcases this with rfl|rfl|rfl|rfl|rfl|rfl|rfl|rfl<;>decide+kernel
  have hCC:2*C*2^t≤2^79:=by rw[Rat.pow_succ]at hC';grind
  have hC80:C≤2^80:=by
   have h1:=pR h2t (show(0:Rat)≤2*C by grind);have h2:(2:Rat)^79≤2^80:=by decide+kernel
   grind
  obtain⟨q,PA1,PU1,PL1,q1,q2,hS1,e1⟩:=wS hN (show 8≤8 by omega) hI.pd hS (hI.sml ha hC hC80) (i:=k+1) (j:=t) (by omega) hk;have hI1:=hI.short hC (by omega) hk q1 q2;obtain⟨A2,U2,PA2,PU2,PL2,C2,s1,s2,s3,s4,s5⟩:=ih n _ _ PA1 PU1 PL1 (2*C) (by omega) (by omega) hS1 hI1 (by grind) hCC (Dl hI.pd (by omega) hk q hl);refine⟨A2,U2,PA2,PU2,PL2,C2,s1,s2,s3,by rw[s4,B0 hI.pd (by omega)],?_⟩;rw[Q105.l8,show((t+1:Nat):Int)-1=(t:Int) by omega,show decide ((t:Int)≥0)=true from decide_eq_true (by omega)];simp only[cond_true,e1,pC];rw[aB (n:=(t:Int)-1) (by omega) (by omega)];exact s5
theorem Ji (k0:W7→W7→W3→W7→W2→W2→W2→Option R):
  ∀n k A U piA piU D piL PA PU PL (w:Nat),LS 8 A U piA piU D piL PA PU PL→1≤k→k≤8→LI a A U k k (2^57*2^(8-k))→pp (mr A) 8=(w:Rat)→8*w+(8-k)<n→
  ∃A' U' piA' piU' D' piL' PA' PU' PL',LS 8 A' U' piA' piU' D' piL' PA' PU' PL'∧LI a A' U' 8 8 (2^57)∧
   Q105.l2 N n (k:Int) piA piU D piL PA PU PL k0=k0 piA' piU' D' piL' PA' PU' PL':=by
 intro n;induction n with
 |zero=>intro k A U piA piU D piL PA PU PL w _ _ _ _ _ h;omega
 |succ n ih=>
  intro k A U piA piU D piL PA PU PL w hS hk1 hk8 hI hw hn;by_cases hk:k<8
  ·obtain⟨k,rfl⟩:∃q,k=q+1:=⟨k-1,by omega⟩
   have hpow:((2:Rat)^57*2^(8- (k+1)))≤2^64∧1≤(2:Rat)^57*2^(8- (k+1))∧2*((2:Rat)^57*2^(8- (k+1)))≤2^57*2^(8-k)∧2*(2^57*2^(8- (k+1)))*2^k≤(2:Rat)^79∧(2:Rat)^57≤2^57*2^(8- (k+2))∧(2:Rat)^57≤2^57*2^7:=by
    have:k=0∨k=1∨k=2∨k=3∨k=4∨k=5∨k=6:=by omega
    rcases this with rfl|rfl|rfl|rfl|rfl|rfl|rfl<;>decide+kernel
   obtain⟨p1,p2,p3,p4,p5,p6⟩:=hpow;generalize hCdef:(2:Rat)^57*2^(8- (k+1))=C at*;have hC80:C≤2^80:=hT p1 (by decide+kernel);have h2C80:2*C≤2^80:=by
     have:(2:Rat)*2^64≤2^80:=by decide+kernel
     grind
   obtain⟨q,PA1,PU1,PL1,q1,q2,hS1,e1⟩:=wS hN (show 8≤8 by omega) hI.pd hS (hI.sml ha p2 hC80) (i:=k+1) (j:=k) (by omega) hk;have hI1:=hI.short p2 (by omega) hk q1 q2;have e2:=mw hN (show 8≤8 by omega) hS1 (hI1.sml ha (by grind) h2C80) hk;have hpp:=B0 hI.pd (show k<k+1 by omega) q;rw[hw]at hpp;have hfi:=tj hI1.pd hk;rw[Q105.l2,hS.a.pl,decide_eq_true (show((k+1:Nat):Int)<((8:Nat):Int) by omega)];simp only[cond_true,an (show k<1000000 by omega),e1,e2,pC];generalize lf (k+1) k q A=A1 at*;generalize rh (k+1) k q U=U1 at*;by_cases hf:Ey A1 k
   ·rw[decide_eq_false (by rw[hfi];exact fun h=>h hf)];obtain⟨A2,U2,PA2,PU2,PL2,C2,s1,s2,s3,s4,s5⟩:=Jj hN ha hk (R:=R) (fun y37 y38 y39 y40 y41 y42 y43 y44=>Q105.l2 N n (fA (y37+1)) y38 y39 y40 y41 y42 y43 y44 k0) k N A1 U1 PA1 PU1 PL1 (2*C) (by omega) (hE _) hS1 hI1 (by grind) p4 hf;have hI2:=(s2.done hk s3).up p5;obtain⟨A3,U3,piA3,piU3,D3,piL3,PA3,PU3,PL3,t1,t2,t3⟩:=ih (k+2) A2 U2 piA piU D piL PA2 PU2 PL2 w s1 (by omega) (by omega) hI2 (by rw[s4,hpp]) (by omega);refine⟨A3,U3,piA3,piU3,D3,piL3,PA3,PU3,PL3,t1,t2,?_⟩;simp only[cond_false];rw[show fA (((k+1:Nat):Int)-2)=(k:Int)-1 by rw[aB (by omega) (by omega)];omega,s5];simp only[qB (show k+1<1000000 by omega)];exact t3
   ·rw[decide_eq_true (hfi.2 hf)];have hlt:el (mr A1) (k+1) (k+1) (k+1)+el (mr A1) k (k+1) k*el (mr A1) k (k+1) k/el (mr A1) k k k<3/4*el (mr A1) k k k:=Rat.not_le.1 hf;obtain⟨hI2,hd1,hd2⟩:=hI1.swap ha (by grind) hk hlt;have hC2:(if k=0 then(2:Rat)^57 else 2*C)≤2^57*2^(8-max 1 k):=by
     by_cases e:k=0
     ·rw[if_pos e,e];exact p6
     ·rw[if_neg e,show max 1 k=k by omega];exact p3
    have hC1:(1:Rat)≤(if k=0 then(2:Rat)^57 else 2*C):=by
     by_cases e:k=0
     ·rw[if_pos e];decide+kernel
     ·rw[if_neg e];grind
    have hC3:(if k=0 then(2:Rat)^57 else 2*C)≤2^80:=by
     by_cases e:k=0
     ·rw[if_pos e];decide+kernel
     ·rw[if_neg e];exact h2C80
    obtain⟨piA2,piU2,D2,piL2,PA2,PL2,s1,s2⟩:=vn hN (show 8≤8 by omega) hI1.sym hI1.pd hS1 hk (hI2.sml ha hC1 hC3).b;obtain⟨w2,hw2⟩:=hI2.pp_nat;have hwlt:w2<w:=by have hat:=jo (M:=mr A1) (P:=mr (Cl k A1)) (k:=k) (n:=8) (fun r hr hne=>hd2 r hr hne) (by omega);have h1:=nN hI1.pd;have h2:=dD (M:=mr A1) (r:=k+1) fun l hl=>hI1.pd l (by omega);have h3:=s6 hd1 h1;rw[←hat]at h3;have h4:=Rat.lt_of_mul_lt_mul_right h3 (b0 h2);rw[hw2,hpp]at h4;exact Rat.natCast_lt_natCast.1 h4
    obtain⟨A3,U3,piA3,piU3,D3,piL3,PA3,PU3,PL3,t1,t2,t3⟩:=ih (max 1 k) _ _ piA2 piU2 D2 piL2 PA2 PU1 PL2 w2 s1 (by omega) (by omega) (hI2.up hC2) hw2 (by omega);refine⟨A3,U3,piA3,piU3,D3,piL3,PA3,PU3,PL3,t1,t2,?_⟩;simp only[cond_true,s2,pC,an (show k<1000000 by omega)];rw[show Dp 1 (k:Int)=((max 1 k:Nat):Int) by unfold Dp;split<;>omega];exact t3
  ·obtain rfl:k=8:=by omega
   refine⟨A,U,piA,piU,D,piL,PA,PU,PL,hS,hI.up (by decide+kernel),?_⟩;rw[Q105.l2,hS.a.pl,decide_eq_false (by omega)];rfl
end
open Go.Proofs.YtijigofaaefldaaGreat.Lat (sm iB jD lE wC zA Wh tE ph oV al el dp PD dD pE Rw Lt gr ip pX pp rO uR yO qh Cj az mR bx)
theorem yd {m:Nat}{A:Nat→Nat→Int}{i j:Nat}(hi:i<m)(hj:j<m):mr (xH m A) i j=mr A i j:=by
 unfold mr xH;rw[if_pos ⟨hi,hj⟩]
theorem mg {m:Nat}{A:Nat→Nat→Int}{r i j:Nat}(hr:r≤m)(hi:i<m)(hj:j<m):el (mr (xH m A)) r i j=el (mr A) r i j:=Lat.z7 (fun a b ha hb=>yd ha hb) r i j hr hi hj
theorem G8 {m:Nat}{A:Nat→Nat→Int}{r:Nat}(hr:r≤m):dp (mr (xH m A)) r=dp (mr A) r:=Lat.yn (fun a b ha hb=>yd ha hb) r hr
theorem qo {a:W5}(h:lW 8 a)(hd:dp (mr (av a)) 8=1):H0 (xH 8 (av a)):=by
 refine⟨fun i j=>?_,fun r hr=>by rw[mg (by omega) hr hr];exact h.pd r hr,by rw[G8 (hE _)];exact hd,fun i j hi hj=>by unfold xH;rw[if_pos ⟨hi,hj⟩];exact h.bd i j hi hj⟩;unfold mr xH;by_cases hij:i<8∧j<8
 ·rw[if_pos hij,if_pos ⟨hij.2,hij.1⟩,h.sym i j hij.1 hij.2]
 ·rw[if_neg hij,if_neg fun q=>hij ⟨q.2,q.1⟩]
theorem zv (A:Nat→Nat→Rat){i j:Nat}(hi:i<8)(hj:j<8):gr A 8 (mr rX) i j=A i j:=by
 show(sm 8 fun a=>sm 8 fun b=>mr rX i a*mr rX j b*A a b)=_;have e1:∀{a},a≠i→mr rX i a=0:=fun{a} ha=>by unfold mr rX;rw[if_neg fun q=>ha q.symm];rfl
 have e2:∀{b},b≠j→mr rX j b=0:=fun{b} hb=>by unfold mr rX;rw[if_neg fun q=>hb q.symm];rfl
 have e3:∀i,mr rX i i=1:=fun i=>by unfold mr rX;rw[if_pos rfl];rfl
 rw[lE i hi fun a _ ha=>wC fun b _=>by rw[e1 ha];grind,lE j hj fun b _ hb=>by rw[e2 hb];grind,e3,e3];grind
theorem Gk {a:Nat→Nat→Int}(ha:H0 a):Lt (mr a) 8 8 Wv (mr rX):=by
 have e3:∀i,mr rX i i=1:=fun i=>by unfold mr rX;rw[if_pos rfl];rfl
 have e1:∀{i t},i≠t→mr rX i t=0:=fun{i t} h=>by unfold mr rX;rw[if_neg h];rfl
 refine⟨fun i hi t ht=>lQ _ _ _,fun i hi t ht=>lQ _ _ _,fun x hx=>⟨x,hx,fun t ht=>?_⟩,ha.pd.up fun x y hx hy=>(zv (mr a) hx hy).symm,Cj 8 (mr a),fun j _ t _=>az (fun i j _ _=>lQ a i j) j t,fun i j hi hj=>?_⟩
 ·rw[lE t ht fun i _ hi=>by rw[e1 hi];grind,e3];grind
 ·have:=mR (mr a) (i:=i) (j:=j) hi hj;rw[bx (n:=7) fun l hl=>ha.pd.ne (by omega),ha.dd]at this;rw[←this];show(sm 8 fun x=>sm 8 fun y=>mr rX i x*Cj 8 (mr a) j y*mr a x y)=_;rw[lE i hi fun x _ hx=>wC fun y _=>by rw[e1 fun q=>hx q.symm];grind];exact zA fun y _=>by rw[e3];grind
theorem Ia {a:Nat→Nat→Int}(ha:H0 a):LI a a rX 1 1 (2^57*2^(8-1)):=by
 have hdiag:∀i,i<8→mr a i i≤16384:=fun i hi=>hG.2 (ha.bd i i hi hi).2;refine⟨ha.sym,Gk ha,fun i j hi hj=>(zv (mr a) hi hj).symm,ha.dd,fun i hi=>hT (rO ha.sym ha.pd i (u2 i) (by omega)) (hdiag i hi),fun i hi j hj=>by omega,fun i hi=>by omega,fun i hi _=>hT (hdiag i hi) (by decide+kernel),fun j hj _=>?_⟩;obtain rfl:j=0:=by omega
 rw[if_pos (by omega)];have h0:0<mr a 0 0:=ha.pd 0 (by omega);have h1:1≤mr a 0 0:=al (lQ a 0 0) h0;have b:=ha.bd 1 0 (by omega) (by omega);have b1:((-16384:Int):Rat)≤mr a 1 0:=hG.2 b.1;have b2:mr a 1 0≤((16384:Int):Rat):=hG.2 b.2;have b3: -(16384:Rat)≤mr a 1 0:=b1;have b4:mr a 1 0≤(16384:Rat):=b2;have h2:=pR h1 (show(0:Rat)≤2^57*2^(8-1) by decide+kernel);have h3:(16384:Rat)≤2^57*2^(8-1)*1:=by decide+kernel
 show-(2^57*2^(8-1)*mr a 0 0)≤mr a 1 0∧mr a 1 0≤2^57*2^(8-1)*mr a 0 0;constructor<;>grind
def t2:Nat→Rat
 |0=>1
 |s+1=>t2 s*(16/2^s)
theorem Br:∀s,0<t2 s
 |0=>by show(0:Rat)<1;decide+kernel
 |s+1=>j6 (Br s) (Lat.D8 (by decide+kernel) (Rat.pow_pos (by decide+kernel)))
section
variable {a A U:Nat→Nat→Int}{C:Rat}(h:LI a A U 8 8 C)
include h
theorem B6 {i:Nat}(hi:i+1<8):1/2*el (mr A) i i i≤el (mr A) (i+1) (i+1) (i+1):=by
 have h1:=h.lv i hi;have h2:=h.sr (i+1) hi i (by omega);have h0:=h.pd i (by omega);have h3:=Lat.ke h2;have h4:el (mr A) i (i+1) i*el (mr A) i (i+1) i/el (mr A) i i i≤1/4*el (mr A) i i i:=Lat.ml h0 (by grind);grind
theorem Ff {i:Nat}(hi:i<8):el (mr A) i i i≤16:=by
 rcases Rat.le_total (a:=el (mr A) i i i) (b:=16)with h1|h1
 ·exact h1
 ·exfalso;have s1:∀s,i+s<8→16/2^s≤el (mr A) (i+s) (i+s) (i+s):=by
   intro s;induction s with
   |zero=>intro _;show 16/2^0≤el (mr A) i i i;rw[Rat.pow_zero];grind
   |succ s ih=>
    intro hs;have e1:=ih (by omega);have e2:=B6 h (i:=i+s) (by omega);have e3:(16:Rat)/2^(s+1)=1/2*(16/2^s):=by
     rw[Rat.pow_succ];have:(0:Rat)<2^s:=Rat.pow_pos (by decide+kernel);have hne:(2:Rat)^s≠0:=by grind
     grind
    rw[e3];have e4:=pR e1 (show(0:Rat)≤1/2 by decide+kernel);exact hT e4 e2
  have hd0:=dD (M:=mr A) (r:=i) fun l hl=>h.pd l (by omega);have hd1:1≤dp (mr A) i:=al (h.wh (by omega)) hd0;have s2:∀s,i+s≤8→t2 s≤dp (mr A) (i+s):=by
   intro s;induction s with
   |zero=>intro _;exact hd1
   |succ s ih=>intro hs;show t2 s*(16/2^s)≤dp (mr A) (i+s)*el (mr A) (i+s) (i+s) (i+s);have e1:=ih (by omega);have e2:=s1 s (by omega);have e3:=pR e2 (b0 (Br s));have e4:=hK e1 (b0 (h.pd (i+s) (by omega)));exact hT e3 e4
  have s3:=s2 (8-i) (by omega);rw[show i+(8-i)=8 by omega,h.dd]at s3;have:i=0∨i=1∨i=2∨i=3∨i=4∨i=5∨i=6∨i=7:=by omega
  rcases this with rfl|rfl|rfl|rfl|rfl|rfl|rfl|rfl<;>exact absurd s3 (by decide+kernel)
theorem rY {i:Nat}(hi:i<8):mr A i i≤64:=by
 have h1:=uR h.sym h.pd hi (B:=16) (fun t ht=>Ff h ht) (c:=1/2) (by decide+kernel) (h.sr i hi);have h5:=hK (di (show i≤8 by omega)) (show(0:Rat)≤1/2*(1/2)*16 by decide+kernel);have h6:(16:Rat)+8*(1/2*(1/2)*16)≤64:=by decide+kernel
 grind
theorem dU {i j:Nat}(hi:i<8)(hj:j<8): -64≤A i j∧A i j≤64:=by
 have h1:=qh h.sym h.pd (r:=0) (u2 i) (u2 j) hi hj;have p1:0<mr A i i:=h.pd.diag h.sym (r:=0) (u2 i) hi;have h2:=pR (rY h hj) (b0 p1);have h3:=hK (rY h hi) (show(0:Rat)≤64 by decide+kernel);have h4:mr A i j*mr A i j≤64*64:=hT h1 (hT h2 h3);have h5:=yO (show(0:Rat)≤64 by decide+kernel) h4;constructor
 ·have:((-64:Int):Rat)≤(A i j:Rat):=h5.1;exact hG.1 this
 ·have:(A i j:Rat)≤((64:Int):Rat):=h5.2;exact hG.1 this
theorem I3 (ha:H0 a){i j:Nat}(hi:i<8)(hj:j<8):Bd 60 (U i j):=by
 have h1:=Lat.gv (B:=16384) (by decide+kernel) (7-j) j (mr a) (mr U i) (n:=8) (by omega) ha.sym ha.pd ha.dd (fun t ht=>hG.2 (ha.bd t t ht ht).2);have e:(sm 8 fun x=>sm 8 fun y=>mr U i x*mr U i y*mr a x y)=mr A i i:=(h.eq i i hi hi).symm;rw[e]at h1;have h3:=pR (rY h hi) (show(0:Rat)≤16384^(8-1) by decide+kernel);exact qR (c:=2^52) (by decide+kernel) (hT h1 (hT h3 (by decide+kernel))) (by decide+kernel)
end
theorem uj {N:Nat}(hN:1000000001<N){a:W5}(hg:lW 8 a)(hd:dp (mr (av a)) 8=1)(hw:∀w:Nat,pp (mr (xH 8 (av a))) 8=(w:Rat)→8*w+8<N):
  ∃A U piA piU D piL PA PU PL,LS 8 A U piA piU D piL PA PU PL∧LI (xH 8 (av a)) A U 8 8 (2^57)∧Q107.f N a=some (PA,piA,PU,piU,D,PL,piL,0):=by
 have ha:=qo hg hd;have hs:=Ia ha;obtain⟨piA,piU,D,piL,PA,PU,PL,s1,s2⟩:=Aj hN (show 8≤8 by omega) (by omega) hg.sq (fun i j hi hj=>(eM (hg.bd i j hi hj)).mono (by omega)) ha.sym ha.pd (hs.sml ha (by decide+kernel) (by decide+kernel)).b;obtain⟨w,hw'⟩:=hs.pp_nat;obtain⟨A,U,piA',piU',D',piL',PA',PU',PL',t1,t2,t3⟩:=Ji hN ha (R:=W7×W7×W3×W7×W2×W2×W2) (fun y52 y53 y54 y55 y56 y57 y58=>some (y52,y53,y54,y55,y56,y57,y58)) N 1 _ _ piA piU D piL PA PU PL w s1 (by omega) (by omega) hs hw' (by have:=hw w hw';omega);refine⟨A,U,piA',piU',D',piL',PA',PU',PL',t1,t2,?_⟩;unfold Q107.f Q105.f;rw[pI hN hg,s2];simp only[pC,bne_self_eq_false,cond_false];rw[show(1:Int)=((1:Nat):Int)from rfl,t3];rfl
open Go.Proofs.YtijigofaaefldaaGreat.Lat (el dp PD pp)
section
variable {N:Nat}(hN:1000000001<N){R:Type}{m:Nat}(hm:m≤16)
include hN hm
omit hN hm in
theorem nu {P:W2}{pi:W7}{M:Nat→Nat→Int}(hM:Mx zq m (fun _=>m) P pi M){i j:Nat}(hi:i<m)(hj:j<m):Q76.f N (i:Int) (j:Int) pi P=some (sg (M i j),pB (M i j),pi,P):=by
 have g:=hM.get hi hj (false,([]:W6));unfold Q76.f;simp only[hM.pl,lD,iC,zE,aE,decide_eq_true hi,decide_eq_true hj,cond_true,hM.len hi,g,bK,cK]
theorem Jc {Q:W2}{po:W7}{M:Nat→Nat→Int}(hQ:Mx zq m (fun _=>m) Q po M){i:Nat}(hi:i<m)(x9 x11 x12:Int)(P:W2)(pi:W7)(k2:Int→Int→Int→W7→W2→W2→W7→W3→Option R):∀k j n,j+k=m→k<n→
  Q81.l7 N n x9 (i:Int) x11 x12 (m:Int) (j:Int) po Q P pi (row zq m fun t=>if t<j then M i t else 0) k2=k2 x9 x11 x12 po Q P pi (row zq m (M i)):=by
 have _:=hN;intro k;induction k with
 |zero=>
  intro j n hj hn;obtain⟨n,rfl⟩:∃q,n=q+1:=⟨n-1,by omega⟩
  rw[Q81.l7,lD,decide_eq_false (by omega),mB zq (g:=M i) fun t ht=>if_pos (by omega)];rfl
 |succ k ih=>
  intro j n hj hn;obtain⟨n,rfl⟩:∃q,n=q+1:=⟨n-1,by omega⟩
  have d1:decide (j<m)=true:=decide_eq_true (by omega);have e1:=nu (N:=N) hQ hi (show j<m by omega);rw[Q81.l7];simp only[e1,lD,iC,zE,aE,d1,cond_true,pC,bC,qB (show j<1000000 by omega)];rw[show(sg (M i j),pB (M i j))=zq (M i j)from rfl,lG,←ih (j+1) n (by omega) (by omega)];congr 1;refine mB zq fun t ht=>?_;by_cases h:t=j
  ·subst h;rw[if_pos rfl,if_pos (by omega)]
  ·rw[if_neg h];by_cases h':t<j
   ·rw[if_pos h',if_pos (by omega)]
   ·rw[if_neg h',if_neg (by omega)]
theorem Jb {Q:W2}{po:W7}{M:Nat→Nat→Int}(hQ:Mx zq m (fun _=>m) Q po M)(k0:W7→W2→W2→W7→Option R):∀k i n P pi,i+k=m→k<n→Mx zq i (fun _=>m) P pi M→
  ∃P' pi',Mx zq m (fun _=>m) P' pi' M∧Q81.l3 N n (m:Int) (m:Int) (i:Int) po Q P pi k0=k0 po Q P' pi':=by
 intro k;induction k with
 |zero=>
  intro i n P pi hi hn hM;obtain⟨n,rfl⟩:∃q,n=q+1:=⟨n-1,by omega⟩
  rw[Q81.l3,lD,decide_eq_false (by omega)];obtain rfl:i=m:=by omega
  exact⟨P,pi,hM,rfl⟩
 |succ k ih=>
  intro i n P pi hi hn hM;obtain⟨n,rfl⟩:∃q,n=q+1:=⟨n-1,by omega⟩
  have d1:decide (i<m)=true:=decide_eq_true (by omega);have h2:=ih (i+1) n _ _ (by omega) (by omega) ((hM.push m (M i)).cast (len':=fun _=>m) (M':=M) (fun x _=>by by_cases h:x=i<;>simp[h]) fun x y _ _=>by by_cases h:x=i<;>simp[h]);rw[Q81.l3];simp only[lD,d1,cond_true,tD,iC,eQ (show m≤1000 by omega),dC (show m≤1000 by omega) (show 32≤1000 by omega),hV,aE,n0];rw[←lb,nH zq m 0,mB zq (g:=fun t=>if t<0 then M i t else 0) fun t _=>(if_neg (by omega)).symm];have e7:=fun P pi k2=>Jc (R:=R) hN hm hQ (i:=i) (by omega) (m:Int) (m:Int) (i:Int) P pi k2 m 0 N (by omega) (by omega);simp only[hJ]at e7;rw[e7];simp only[hM.pl,dC (show i+1≤1000 by omega) (show 24≤1000 by omega),cond_true,qB (show i<1000000 by omega)];exact h2
theorem Ad {Q:W2}{po:W7}{M:Nat→Nat→Int}(hQ:Mx zq m (fun _=>m) Q po M):∃P pi,Mx zq m (fun _=>m) P pi M∧Q81.f N (m:Int) (m:Int) po Q=some (P,pi,po,Q):=by
 obtain⟨P,pi,h1,h2⟩:=Jb hN hm hQ _ m 0 N [] [] (by omega) (by omega) (bR zq _ _);exact⟨P,pi,h1,h2⟩
end
def yH:Int→Int:=fun x=>x
theorem s9 {m:Nat}{P:W5}{pi:W7}{M:Nat→Nat→Int}(h:Mx yH m (fun _=>m) P pi M):Sq m (pi.map fun q=>(P.getD q []:W6))∧∀i j,i<m→j<m→av (pi.map fun q=>(P.getD q []:W6)) i j=M i j:=by
 have key:∀i,i<m→(pi.map fun q=>(P.getD q []:W6)).getD i []=row yH m (M i):=fun i hi=>by
  have hl:i<pi.length:=by rw[h.pl];exact hi
  rw[←h.at_ i hi,yK,List.getElem?_map,u4 hl,Lat.fS hl];rfl
 refine⟨⟨by rw[q0,h.pl],fun i hi=>by rw[key i hi,bC]⟩,fun i j hi hj=>?_⟩;unfold av;rw[key i hi,wE _ _ _ hj];rfl
section
variable {N:Nat}(hN:1000000001<N){R:Type}{m:Nat}(hm:m≤16){P:W2}{pi:W7}{M:Nat→Nat→Int}(hM:Mx zq m (fun _=>m) P pi M)(hb:∀i j,i<m→j<m→Bd 63 (M i j))
include hN hm hM hb
omit hN in
theorem K7 {i:Nat}(hi:i<m)(x10 x11:Int){opi:W7}(k2:Int→Int→W7→W2→W5→W7→Option R):∀c j n OP,j+c=m→c<n→Mp yH (i+1) m (fun _=>m) OP opi (fun x y=>if x<i∨y<j then M x y else 0)→
  ∃OP',Mp yH (i+1) m (fun _=>m) OP' opi M∧Q106.l7 N n (i:Int) x10 x11 (m:Int) (j:Int) pi P OP opi k2=k2 x10 x11 pi P OP' opi:=by
 intro c;induction c with
 |zero=>
  intro j n OP hj hn h;obtain⟨n,rfl⟩:∃q,n=q+1:=⟨n-1,by omega⟩
  rw[Q106.l7,lD,decide_eq_false (by omega)];exact⟨OP,h.ext fun x y _ hy=>if_pos (Or.inr (by omega)),rfl⟩
 |succ c ih=>
  intro j n OP hj hn h;obtain⟨n,rfl⟩:∃q,n=q+1:=⟨n-1,by omega⟩
  have hjm:j<m:=by omega
  have g:=hM.get hi hjm (false,([]:W6));have bi:=(hb i j hi hjm).i64 (hE _);have e1:=fw (N:=N) (hb i j hi hjm) (show 63≤4096 by omega);rw[if_pos ⟨bi.1,bi.2⟩]at e1;obtain⟨OP',f1,f2⟩:=ih (j+1) n _ (by omega) (by omega) ((h.set (show i<i+1 by omega) j (M i j)).ext fun x y hx _=>by
   by_cases hxi:x=i
   ·subst hxi;by_cases hyj:y=j
    ·subst hyj;rw[if_pos ⟨rfl,rfl⟩,if_pos (Or.inr (by omega))]
    ·rw[if_neg (fun q=>hyj q.2)];by_cases hyj':y<j
     ·rw[if_pos (Or.inr hyj'),if_pos (Or.inr (by omega))]
     ·rw[if_neg (by omega),if_neg (by omega)]
   ·rw[if_neg (fun q=>hxi q.1),if_pos (Or.inl (by omega)),if_pos (Or.inl (by omega))])
  refine⟨OP',f1,?_⟩;rw[Q106.l7];simp only[lD,iC,zE,aE,hM.pl,hM.len hi,h.pl,h.len (show i<i+1 by omega),decide_eq_true hi,decide_eq_true hjm,cond_true,g,bK,cK,e1,pC,qB (show j<1000000 by omega)];exact f2
theorem K6 (k0:W7→W2→W5→W7→Option R):∀c i n OP opi,i+c=m→c<n→Mp yH i m (fun _=>m) OP opi M→
  ∃OP' opi',Mx yH m (fun _=>m) OP' opi' M∧Q106.l3 N n (m:Int) (i:Int) pi P OP opi k0=k0 pi P OP' opi':=by
 intro c;induction c with
 |zero=>
  intro i n OP opi hi hn h;obtain⟨n,rfl⟩:∃q,n=q+1:=⟨n-1,by omega⟩
  obtain rfl:i=m:=by omega
  rw[Q106.l3,lD,decide_eq_false (by omega)];exact⟨OP,opi,h.mx,rfl⟩
 |succ c ih=>
  intro i n OP opi hi hn h;obtain⟨n,rfl⟩:∃q,n=q+1:=⟨n-1,by omega⟩
  have him:i<m:=by omega
  have hf:=h.fresh him (fun _=>(0:Int));obtain⟨OP1,f1,f2⟩:=K7 (N:=N) hm hM hb him (m:Int) (i:Int) (fun y25 y26 y27 y28 y29 y30=>Q106.l3 N n y25 (fA (y26+1)) y27 y28 y29 y30 k0) m 0 N _ (by omega) (by omega) (hf.ext fun x y hx _=>by
   by_cases hxi:x=i
   ·rw[if_pos hxi,if_neg (by omega)]
   ·rw[if_neg hxi,if_pos (Or.inl (by omega))])
  obtain⟨OP2,opi2,g1,g2⟩:=ih (i+1) n OP1 _ (by omega) (by omega) f1;refine⟨OP2,opi2,g1,?_⟩;rw[←nH,hJ]at f2;rw[Q106.l3];simp only[lD,iC,zE,aE,hM.pl,hM.len him,h.pl,decide_eq_true him,cond_true,tD,eQ (show m≤1000 by omega),dC (show m≤1000 by omega) (show 8≤1000 by omega),hV];rw[show(hR m (0:Int))=hR m (yH 0)from rfl,f2];simp only[qB (show i<1000000 by omega)];exact g2
theorem dm:∃r,Sq m r∧(∀i j,i<m→j<m→av r i j=M i j)∧Q106.f N pi P=some (r,pi,P):=by
 obtain⟨OP,opi,f1,f2⟩:=K6 hN hm hM hb (fun y35 y36 y37 y38=>some (y38.map fun q=>(y37.getD q []:W6),y35,y36)) m 0 N [[]] (hR m 0) (by omega) (by omega) ⟨by simp,fun i hi=>by omega,fun i hi=>by omega,fun i j hi=>by omega⟩;obtain⟨r1,r2⟩:=s9 f1;refine⟨_,r1,r2,?_⟩;unfold Q106.f;rw[hJ]at f2;simp only[hM.pl,tD,iC,eQ (show m≤1000 by omega),aE,dC (show m≤1000 by omega) (show 24≤1000 by omega),hV,cond_true];rw[f2]
omit hN in
theorem i7 {i:Nat}(hi:i<m)(x9 x10:Int)(OP:W5)(opi:W7)(k2:Int→Int→W7→W2→W5→W7→W6→Option R)(kr:W5→Bool→W7→W2→Option R):∀c j n,j+c=m→c<n→
  Q90.l7 N n x9 x10 (pi.getD i 0) (m:Int) (j:Int) pi P OP opi (row yH j (M i)) k2 kr=k2 x9 x10 pi P OP opi (row yH m (M i)):=by
 intro c;induction c with
 |zero=>
  intro j n hj hn;obtain⟨n,rfl⟩:∃q,n=q+1:=⟨n-1,by omega⟩
  obtain rfl:j=m:=by omega
  rw[Q90.l7,lD,decide_eq_false (by omega)];rfl
 |succ c ih=>
  intro j n hj hn;obtain⟨n,rfl⟩:∃q,n=q+1:=⟨n-1,by omega⟩
  have hjm:j<m:=by omega
  have g:=hM.get hi hjm (false,([]:W6));have bi:=(hb i j hi hjm).i64 (hE _);have e1:=fw (N:=N) (hb i j hi hjm) (show 63≤4096 by omega);rw[if_pos ⟨bi.1,bi.2⟩]at e1;have h2:=ih (j+1) n (by omega) (by omega);rw[B9]at h2;rw[Q90.l7];simp only[lD,iC,zE,aE,hM.len hi,decide_eq_true hjm,cond_true,g,bK,cK,e1,pC,j1,cond_false,bC,dC (show j+1≤1000 by omega) (show 8≤1000 by omega),qB (show j<1000000 by omega)];exact h2
theorem i3 (k0:W7→W2→W5→W7→Option R)(kr:W5→Bool→W7→W2→Option R):∀c i n OP opi,i+c=m→c<n→Mx yH i (fun _=>m) OP opi M→
  ∃OP' opi',Mx yH m (fun _=>m) OP' opi' M∧Q90.l3 N n (m:Int) (i:Int) pi P OP opi k0 kr=k0 pi P OP' opi':=by
 intro c;induction c with
 |zero=>
  intro i n OP opi hi hn h;obtain⟨n,rfl⟩:∃q,n=q+1:=⟨n-1,by omega⟩
  obtain rfl:i=m:=by omega
  rw[Q90.l3,lD,decide_eq_false (by omega)];exact⟨OP,opi,h,rfl⟩
 |succ c ih=>
  intro i n OP opi hi hn h;obtain⟨n,rfl⟩:∃q,n=q+1:=⟨n-1,by omega⟩
  have him:i<m:=by omega
  obtain⟨OP2,opi2,g1,g2⟩:=ih (i+1) n _ _ (by omega) (by omega) ((h.push m (M i)).cast (len':=fun _=>m) (M':=M) (fun x _=>by by_cases h:x=i<;>simp[h]) fun x y _ _=>by by_cases h:x=i<;>simp[h]);refine⟨OP2,opi2,g1,?_⟩;have e7:=i7 (N:=N) hm hM hb him (m:Int) (i:Int) OP opi (fun y31 y32 y33 y34 y35 y36 y37=>bif lB (y36.length+1) 24 then Q90.l3 N n y31 (fA (y32+1)) y33 y34 (y35++[y37]) (y36++[y35.length]) k0 kr else none) (fun y38 y39 y40 y41=>kr y38 y39 y40 y41) m 0 N (by omega) (by omega);rw[show row yH 0 (M i)=([]:W6)from rfl,hJ]at e7;rw[Q90.l3];simp only[lD,iC,zE,aE,hM.pl,hM.len him,decide_eq_true him,cond_true];rw[e7];simp only[h.pl,dC (show i+1≤1000 by omega) (show 24≤1000 by omega),cond_true,qB (show i<1000000 by omega)];exact g2
theorem uo:∃r,Sq m r∧(∀i j,i<m→j<m→av r i j=M i j)∧Q90.f N pi P=some (r,true,pi,P):=by
 obtain⟨OP,opi,f1,f2⟩:=i3 hN hm hM hb (fun y50 y51 y52 y53=>some (y53.map fun q=>(y52.getD q []:W6),true,y50,y51)) (fun y56 y57 y58 y59=>some (y56,y57,y58,y59)) m 0 N [] [] (by omega) (by omega) (bR yH _ _);obtain⟨r1,r2⟩:=s9 f1;refine⟨_,r1,r2,?_⟩;unfold Q90.f;rw[hJ]at f2;rw[hM.pl,f2]
omit hN hb in
theorem wg (k0:W7→W2→W6→Option R):∀k i n,i+k=m→k<n→
  Q73.l3 N n (m:Int) (i:Int) pi P (hR i (m:Int)) k0=k0 pi P (hR m (m:Int)):=by
 intro k;induction k with
 |zero=>
  intro i n hi hn;obtain⟨n,rfl⟩:∃q,n=q+1:=⟨n-1,by omega⟩
  rw[Q73.l3,lD,decide_eq_false (by omega),show i=m by omega];rfl
 |succ k ih=>
  intro i n hi hn;obtain⟨n,rfl⟩:∃q,n=q+1:=⟨n-1,by omega⟩
  rw[Q73.l3];simp only[n0,lD,iC,zE,aE,hM.pl,hM.len (show i<m by omega),decide_eq_true (show i<m by omega),cond_true,dC (show i+1≤1000 by omega) (show 8≤1000 by omega),qB (show i<1000000 by omega)];rw[show hR i (m:Int)++[(m:Int)]=hR (i+1) (m:Int) by rw[s7]];exact ih (i+1) n (by omega) (by omega)
omit hb in
theorem nx (h1:1≤m):∃P' pi',Mx zq m (fun _=>m) P' pi' M∧Q85.f N pi P=some (P',pi',0,pi,P):=by
 obtain⟨P',pi',q,e⟩:=Ad hN hm hM;refine⟨P',pi',q,?_⟩;have el:=wg (N:=N) hm hM (fun y11 y12 y13=>some (y13,y11,y12)) m 0 N (by omega) (by omega);rw[hJ]at el;unfold Q85.f Q73.f;have e0:((m:Int)==0)=false:=beq_eq_false_iff_ne.2 (by omega);rw[hM.pl,show Q73.l3 N N (m:Int) 0 pi P [] (fun y11 y12 y13=>some (y13,y11,y12))=some (hR m (m:Int),pi,P)from el];simp only[pC,zU hN h1 hm,j1,cond_false,hM.pl,e0,decide_eq_true (show(0:Int)<(m:Int) by omega),cond_true,hM.len (show 0<m by omega),e]
end
section
variable {N:Nat}(hN:1000000001<N){R:Type}{m:Nat}(hm:m≤16){r:W5}(hs:Sq m r)(hb:∀i j,i<m→j<m→ -16384≤av r i j∧av r i j≤16384)
include hN hm hs hb
omit hN in
theorem Kd {i:Nat}(hi:i<m)(x15 x16:W5)(x17 x18:Int)(x22:W2)(x23:W7)(x24:W2)(x25:W7)(x26:W3)(x27:W2)(x28:W7)(k2:W5→W5→Int→Int→W2→W7→W2→W7→W3→W2→W7→Option R)(kr:W5→Int→W2→W7→Option R):∀c j n,j+c=m→c<n→
  Q108.l9 N n x15 x16 x17 x18 (r.getD i []) (m:Int) (j:Int) x22 x23 x24 x25 x26 x27 x28 k2 kr=k2 x15 x16 x17 x18 x22 x23 x24 x25 x26 x27 x28:=by
 intro c;induction c with
 |zero=>
  intro j n hj hn;obtain⟨n,rfl⟩:∃q,n=q+1:=⟨n-1,by omega⟩
  rw[Q108.l9,lD,decide_eq_false (by omega)];rfl
 |succ c ih=>
  intro j n hj hn;obtain⟨n,rfl⟩:∃q,n=q+1:=⟨n-1,by omega⟩
  have b:=hb i j hi (by omega);unfold av at b;rw[Q108.l9];simp only[lD,iC,zE,aE,hs.2 i hi,decide_eq_true (show j<m by omega),cond_true,decide_eq_false (show ¬((r.getD i []).getD j 0>16384) by omega),decide_eq_false (show ¬((r.getD i []).getD j 0< -16384) by omega),cond_false,qB (show j<1000000 by omega)];exact ih (j+1) n (by omega) (by omega)
theorem Kc (x8:W2)(x9:W7)(x10:W2)(x11:W7)(x12:W3)(x13:W2)(x14:W7)(k0:W5→W2→W7→W2→W7→W3→W2→W7→Option R)(kr:W5→Int→W2→W7→Option R):∀c i n,i+c=m→c<n→
  Q108.l6 N n r r (m:Int) (i:Int) x8 x9 x10 x11 x12 x13 x14 k0 kr=k0 r x8 x9 x10 x11 x12 x13 x14:=by
 intro c;induction c with
 |zero=>
  intro i n hi hn;obtain⟨n,rfl⟩:∃q,n=q+1:=⟨n-1,by omega⟩
  rw[Q108.l6,lD,decide_eq_false (by omega)];rfl
 |succ c ih=>
  intro i n hi hn;obtain⟨n,rfl⟩:∃q,n=q+1:=⟨n-1,by omega⟩
  have him:i<m:=by omega
  have e9:=fun k2 kr=>Kd (N:=N) (R:=R) hm hs hb him r r (m:Int) (i:Int) x8 x9 x10 x11 x12 x13 x14 k2 kr m 0 N (by omega) (by omega);simp only[hJ]at e9;rw[Q108.l6];simp only[lD,iC,zE,aE,hs.1,hs.2 i him,decide_eq_true him,cond_true];rw[e9];simp only[qB (show i<1000000 by omega)];exact ih (i+1) n (by omega) (by omega)
end
theorem lz {N:Nat}(hN:1000000001<N){a:W5}(hg:lW 8 a)(hd:dp (mr (av a)) 8=1)(hw:∀w:Nat,pp (mr (xH 8 (av a))) 8=(w:Rat)→8*w+8<N):
  ∃A U r P pi,LI (xH 8 (av a)) A U 8 8 (2^57)∧Sq 8 r∧(∀i j,i<8→j<8→av r i j=A i j)∧Mx zq 8 (fun _=>8) P pi U∧Q109.f N a=some (r,P,pi):=by
 obtain⟨A,U,piA,piU,D,piL,PA,PU,PL,s1,s2,s3⟩:=uj hN hg hd hw;have ha:=qo hg hd;have hbA:∀i j,i<8→j<8→ -64≤A i j∧A i j≤64:=fun i j hi hj=>dU s2 hi hj;obtain⟨r,r1,r2,r3⟩:=dm hN (show 8≤16 by omega) s1.a (fun i j hi hj=>by have:=hbA i j hi hj;exact(eM (by omega)).mono (by omega));obtain⟨P,pi,q1,q2⟩:=nx hN (show 8≤16 by omega) s1.u (by omega);refine⟨A,U,r,P,pi,s2,r1,r2,q1,?_⟩;have e6:=fun k0 kr=>Kc (R:=W5×W2×W7×Int) hN (show 8≤16 by omega) r1 (fun i j hi hj=>by rw[r2 i j hi hj];have:=hbA i j hi hj;omega) PA piA PU piU D PL piL k0 kr 8 0 N (by omega) (by omega);simp only[hJ]at e6;unfold Q109.f Q108.f;rw[s3];simp only[pC,bne_self_eq_false,cond_false];rw[r3];simp only[pC];rw[r1.1,e6];simp only[q2,pC,bne_self_eq_false,cond_false]
theorem zn {a:Nat→Nat→Int}{A U:Nat→Nat→Int}{C:Rat}(h:LI a A U 8 8 C){r:W5}(hr:Sq 8 r)(he:∀i j,i<8→j<8→av r i j=A i j):lW 8 r:=by
 refine⟨by omega,by omega,hr,fun i j hi hj=>?_,fun i j hi hj=>?_,h.pd.up fun i j hi hj=>?_⟩
 ·rw[he i j hi hj];have:=dU h hi hj;omega
 ·rw[he i j hi hj,he j i hj hi];exact j3.1 (h.sym i j)
 ·unfold mr;rw[he i j hi hj]
noncomputable def rq (q:Rat):Bool×W6×W6:=(qs q,qn q,ql q)
theorem E4 (x:Rat):(rq x).1=qs x:=rfl
theorem E5 (x:Rat):(rq x).2.1=qn x:=rfl
theorem E6 (x:Rat):(rq x).2.2=ql x:=rfl
theorem E3:rq 0=(false,[],[]):=by
 unfold rq qs qn ql;rw[show(0:Rat).num=0 from rfl,show(0:Rat).den=1 from rfl,ra,show((1:Nat):Int)-1=0 from rfl,bJ B2];rfl
def cp:Nat→Nat→Rat:=fun i j=>if i=j then 1 else 0
section
variable {N:Nat}(hN:1000000001<N){R:Type}{m:Nat}(hm:m≤16)
include hN hm
omit hN hm in
theorem ud {i j:Nat}(hi:i<m)(hj:j<m):Q92.f N (i:Int) (j:Int) (qs 1) (qn 1) (ql 1)=some (qs (cp i j),qn (cp i j),ql (cp i j),qs 1,qn 1,ql 1):=by
 unfold Q92.f cp;by_cases h:i=j
 ·subst h;simp
 ·have:(((i:Nat):Int)==(j:Int))=false:=beq_eq_false_iff_ne.2 (by omega);rw[this,if_neg h];have e:=E3;unfold rq at e;simp only[Prod.mk.injEq]at e;rw[e.1,e.2.1,e.2.2];rfl
theorem Jn {i:Nat}(hi:i<m)(x9 x11 x12:Int)(P:W0)(pi:W7)(k2:Int→Int→Int→Bool→W6→W6→W0→W7→W1→Option R):∀k j n,j+k=m→k<n→
  Q93.l7 N n x9 (i:Int) x11 x12 (m:Int) (j:Int) (qs 1) (qn 1) (ql 1) P pi (row rq m fun t=>if t<j then cp i t else 0) k2=k2 x9 x11 x12 (qs 1) (qn 1) (ql 1) P pi (row rq m (cp i)):=by
 have _:=hN;intro k;induction k with
 |zero=>
  intro j n hj hn;obtain⟨n,rfl⟩:∃q,n=q+1:=⟨n-1,by omega⟩
  rw[Q93.l7,lD,decide_eq_false (by omega),mB rq (g:=cp i) fun t ht=>if_pos (by omega)];rfl
 |succ k ih=>
  intro j n hj hn;obtain⟨n,rfl⟩:∃q,n=q+1:=⟨n-1,by omega⟩
  have d1:decide (j<m)=true:=decide_eq_true (by omega);have e1:=ud (N:=N) (m:=m) hi (show j<m by omega);rw[Q93.l7];simp only[e1,lD,iC,zE,aE,d1,cond_true,pC,bC,qB (show j<1000000 by omega)];rw[show(qs (cp i j),qn (cp i j),ql (cp i j))=rq (cp i j)from rfl,lG,←ih (j+1) n (by omega) (by omega)];congr 1;refine mB rq fun t ht=>?_;by_cases h:t=j
  ·subst h;rw[if_pos rfl,if_pos (by omega)]
  ·rw[if_neg h];by_cases h':t<j
   ·rw[if_pos h',if_pos (by omega)]
   ·rw[if_neg h',if_neg (by omega)]
theorem Jm (k0:Bool→W6→W6→W0→W7→Option R):∀k i n P pi,i+k=m→k<n→Mx rq i (fun _=>m) P pi cp→
  ∃P' pi',Mx rq m (fun _=>m) P' pi' cp∧Q93.l3 N n (m:Int) (m:Int) (i:Int) (qs 1) (qn 1) (ql 1) P pi k0=k0 (qs 1) (qn 1) (ql 1) P' pi':=by
 intro k;induction k with
 |zero=>
  intro i n P pi hi hn hM;obtain⟨n,rfl⟩:∃q,n=q+1:=⟨n-1,by omega⟩
  rw[Q93.l3,lD,decide_eq_false (by omega)];obtain rfl:i=m:=by omega
  exact⟨P,pi,hM,rfl⟩
 |succ k ih=>
  intro i n P pi hi hn hM;obtain⟨n,rfl⟩:∃q,n=q+1:=⟨n-1,by omega⟩
  have d1:decide (i<m)=true:=decide_eq_true (by omega);have h2:=ih (i+1) n _ _ (by omega) (by omega) ((hM.push m (cp i)).cast (len':=fun _=>m) (M':=cp) (fun x _=>by by_cases h:x=i<;>simp[h]) fun x y _ _=>by by_cases h:x=i<;>simp[h]);rw[Q93.l3];simp only[lD,d1,cond_true,tD,iC,eQ (show m≤1000 by omega),dC (show m≤1000 by omega) (show 56≤1000 by omega),hV,aE,n0];rw[←E3,nH rq m 0,mB rq (g:=fun t=>if t<0 then cp i t else 0) fun t _=>(if_neg (by omega)).symm];have e7:=fun P pi k2=>Jn (R:=R) hN hm (i:=i) (by omega) (m:Int) (m:Int) (i:Int) P pi k2 m 0 N (by omega) (by omega);simp only[hJ]at e7;rw[e7];simp only[hM.pl,dC (show i+1≤1000 by omega) (show 24≤1000 by omega),cond_true,qB (show i<1000000 by omega)];exact h2
theorem Bi:∃P pi,Mx rq m (fun _=>m) P pi cp∧Q93.f N (m:Int) (qs 1) (qn 1) (ql 1)=some (P,pi,qs 1,qn 1,ql 1):=by
 obtain⟨P,pi,h1,h2⟩:=Jm hN hm _ m 0 N [] [] (by omega) (by omega) (bR rq _ _);exact⟨P,pi,h1,h2⟩
end
theorem aN {A:Nat→Nat→Int}{m r:Nat}(hp:PD m (mr A))(hr:r≤m):0<dz A r:=by
 have h1:=xD (a:=A) (r:=r) fun l hl=>hp.ne (by omega);have h2:=dD (M:=mr A) (r:=r) fun l hl=>hp l (by omega);rw[←h1]at h2;rw[←s0];simpa using h2
theorem aR (x y:Int)(hy:0<y):mkRat x y.toNat=(x:Rat)/(y:Rat):=by
 rw[Rat.mkRat_eq_div];congr 1;rw[←j4,x0 (by omega)]
section
variable {A:Nat→Nat→Int}{m:Nat}(hm:m≤8)(hb:∀i j,i<m→j<m→ -16384≤A i j∧A i j≤16384)(hp:PD m (mr A))
include hm hb hp
theorem iw {r i j:Nat}(hi:r≤i)(hj:r≤j)(him:i<m)(hjm:j<m):Fq 128 (el (mr A) r i j):=by
 have hne:∀l,l<r→el (mr A) l l l≠0:=fun l hl=>hp.ne (by omega);have h0:=aN hp (r:=r) (by omega);have c1:=vE (a:=A) hne hi hj;have c2:=xD (a:=A) hne;have hd:=dD (M:=mr A) (r:=r) fun l hl=>hp l (by omega);have e:el (mr A) r i j=mkRat (bz A r i j) (dz A r).toNat:=by
  rw[aR _ _ h0,c1,c2];have:dp (mr A) r≠0:=by grind
  grind
 rw[e];refine fN (iM hm hb hne hi hj him hjm) ?_ (by omega);rw[x0 (by omega)];exact im hm hb hne (by omega)
theorem zg {i j:Nat}(hj:j<i)(him:i<m):Fq 128 (el (mr A) j i j/el (mr A) j j j):=by
 have hne:∀l,l<j→el (mr A) l l l≠0:=fun l hl=>hp.ne (by omega);have h0:=aN hp (r:=j+1) (by omega);have c1:=vE (a:=A) hne (show j≤i by omega) (hE j);have c2:=xD (a:=A) (r:=j+1) (fun l hl=>hp.ne (by omega));have hd:=dD (M:=mr A) (r:=j) fun l hl=>hp l (by omega);have he:=hp j (by omega);have e:el (mr A) j i j/el (mr A) j j j=mkRat (bz A j i j) (dz A (j+1)).toNat:=by
  rw[aR _ _ h0,c1,c2];show _=_/(dp (mr A) j*el (mr A) j j j);have h1:dp (mr A) j≠0:=by grind
  have h2:el (mr A) j j j≠0:=by grind
  grind
 rw[e];refine fN (iM hm hb hne (by omega) (hE _) him (by omega)) ?_ (by omega);rw[x0 (by omega)];exact im hm hb (fun l hl=>hp.ne (by omega)) (by omega)
end
def wX (A:Nat→Nat→Int)(i j:Nat):Rat:=if j<i then el (mr A) j i j/el (mr A) j j j else cp i j
def dg (A:Nat→Nat→Int)(i:Nat):Rat:=el (mr A) i i i
def yT (A:Nat→Nat→Int)(i j:Nat):Nat→Nat→Rat:=fun x y=>if x<i∨(x=i∧y<j)then wX A x y else cp x y
section
variable {N:Nat}(hN:1000000001<N){R:Type}{m:Nat}{a:W5}(hg:lW m a)
include hN hg
theorem J6 {i j:Nat}(hji:j≤i)(him:i<m)(x26 x27 x28 x29:Int){P:W0}{pi:W7}(hM:Mx rq m (fun _=>m) P pi (yT (av a) i j)){d:W1}(hd:d=row rq m (fun t=>if t<i then dg (av a) t else 0))
  (k4:W5→Int→Int→Int→Int→Int→Int→W0→W7→W1→Bool→W6→W6→Option R):∀c k n,k+c=j→c<n→
  Q94.l16 N n a (i:Int) (j:Int) x26 x27 x28 x29 (j:Int) (k:Int) P pi d (qs (el (mr (av a)) k i j)) (qn (el (mr (av a)) k i j)) (ql (el (mr (av a)) k i j)) k4=k4 a (i:Int) (j:Int) x26 x27 x28 x29 P pi d (qs (el (mr (av a)) j i j)) (qn (el (mr (av a)) j i j)) (ql (el (mr (av a)) j i j)):=by
 have hm:=hg.hi;intro c;induction c with
 |zero=>
  intro k n hk hn;obtain⟨n,rfl⟩:∃q,n=q+1:=⟨n-1,by omega⟩
  obtain rfl:k=j:=by omega
  rw[Q94.l16,lD,decide_eq_false (by omega)];rfl
 |succ c ih=>
  intro k n hk hn;obtain⟨n,rfl⟩:∃q,n=q+1:=⟨n-1,by omega⟩
  have hkj:k<j:=by omega
  have d1:decide (k<j)=true:=decide_eq_true hkj;have d2:decide (i<m)=true:=decide_eq_true him;have d3:decide (j<m)=true:=decide_eq_true (by omega);have d4:decide (k<m)=true:=decide_eq_true (by omega);have g1:=hM.get (i:=i) (j:=k) him (by omega) (false,([]:W6),([]:W6));have g2:=hM.get (i:=j) (j:=k) (by omega) (by omega) (false,([]:W6),([]:W6));have gd:d.getD k (false,([]:W6),([]:W6))=rq (dg (av a) k):=by rw[hd,wE _ _ _ (by omega),if_pos (by omega)]
  have l1:yT (av a) i j i k=el (mr (av a)) k i k/el (mr (av a)) k k k:=by unfold yT wX;rw[if_pos (Or.inr ⟨rfl,hkj⟩),if_pos (by omega)]
  have l2:yT (av a) i j j k=el (mr (av a)) k j k/el (mr (av a)) k k k:=by unfold yT wX;rw[if_pos (by omega),if_pos hkj]
  rw[l1]at g1;rw[l2]at g2;have hs:Lat.qQ (mr (xH m (av a))):=fun x y=>by
   unfold mr xH;by_cases hxy:x<m∧y<m
   ·rw[if_pos hxy,if_pos ⟨hxy.2,hxy.1⟩,hg.sym x y hxy.1 hxy.2]
   ·rw[if_neg hxy,if_neg fun q=>hxy ⟨q.2,q.1⟩]
  have hsy:el (mr (av a)) k k j=el (mr (av a)) k j k:=by have c1:=mg (m:=m) (A:=av a) (r:=k) (i:=k) (j:=j) (by omega) (by omega) (by omega);have c2:=mg (m:=m) (A:=av a) (r:=k) (i:=j) (j:=k) (by omega) (by omega) (by omega);have c3:=pE hs k k j;rw[c1,c2]at c3;exact c3
  have h0:=hg.pd k (by omega);have hne:el (mr (av a)) k k k≠0:=by grind
  have f1:Fq 128 (el (mr (av a)) k i k/el (mr (av a)) k k k):=zg hm hg.bd hg.pd (by omega) him;have f2:Fq 128 (el (mr (av a)) k j k/el (mr (av a)) k k k):=zg hm hg.bd hg.pd hkj (by omega);have f3:Fq 128 (dg (av a) k):=iw hm hg.bd hg.pd (hE _) (hE _) (by omega) (by omega);have f4:Fq 128 (el (mr (av a)) k i k):=iw hm hg.bd hg.pd (by omega) (hE _) him (by omega);have f5:Fq 128 (el (mr (av a)) k i j):=iw hm hg.bd hg.pd (by omega) (by omega) him (by omega);have e1:=oM hN f1 f3 (by omega);have v1:el (mr (av a)) k i k/el (mr (av a)) k k k*dg (av a) k=el (mr (av a)) k i k:=by unfold dg;grind
  rw[v1]at e1;have e2:=oM hN f4 f2 (by omega);have e3:=u9 hN (f5.mono (show 128≤256 by omega)) (f4.mul f2) (by omega);have v3:el (mr (av a)) k i j-el (mr (av a)) k i k*(el (mr (av a)) k j k/el (mr (av a)) k k k)=el (mr (av a)) (k+1) i j:=by show _=el (mr (av a)) k i j-el (mr (av a)) k i k*el (mr (av a)) k k j/el (mr (av a)) k k k;rw[hsy];grind
  rw[v3]at e3;have hdl:d.length=m:=by rw[hd,bC]
  rw[Q94.l16];simp only[lD,iC,zE,aE,hM.pl,hM.len him,hM.len (show j<m by omega),hdl,d1,d2,d3,d4,cond_true,g1,g2,gd,E4,E5,E6,e1,e2,e3,pC,qB (show k<1000000 by omega)];exact ih (k+1) n (by omega) (by omega)
theorem J5 {i:Nat}(him:i<m)(x14 x15:Int){pi:W7}(k2:W5→Int→Int→W0→W7→W1→Option R):∀c j n P d,j+c=i+1→c<n→Mx rq m (fun _=>m) P pi (yT (av a) i j)→d=row rq m (fun t=>if t<(if j=i+1 then i+1 else i)then dg (av a) t else 0)→
  ∃P',Mx rq m (fun _=>m) P' pi (yT (av a) (i+1) 0)∧Q94.l12 N n a (i:Int) x14 x15 ((i+1:Nat):Int) (j:Int) P pi d k2=k2 a x14 x15 P' pi (row rq m (fun t=>if t<i+1 then dg (av a) t else 0)):=by
 have hm:=hg.hi;intro c;induction c with
 |zero=>
  intro j n P d hj hn hM hd;obtain⟨n,rfl⟩:∃q,n=q+1:=⟨n-1,by omega⟩
  obtain rfl:j=i+1:=by omega
  rw[if_pos rfl]at hd;rw[Q94.l12,lD,decide_eq_false (by omega),hd];refine⟨P,hM.ext fun x y _ _=>?_,rfl⟩;unfold yT;by_cases h:x<i∨(x=i∧y<i+1)
  ·rw[if_pos h,if_pos (by omega)]
  ·rw[if_neg h];by_cases h2:x<i+1∨(x=i+1∧y<0)
   ·rw[if_pos h2];unfold wX;rw[if_neg (by omega)]
   ·rw[if_neg h2]
 |succ c ih=>
  intro j n P d hj hn hM hd;obtain⟨n,rfl⟩:∃q,n=q+1:=⟨n-1,by omega⟩
  have hji:j≤i:=by omega
  rw[if_neg (by omega)]at hd;have d1:decide (j<i+1)=true:=decide_eq_true (by omega);have d2:decide (i<m)=true:=decide_eq_true him;have d3:decide (j<m)=true:=decide_eq_true (by omega);have hdl:d.length=m:=by rw[hd,bC]
  have e0:=lg hN (eM (hg.bd i j him (by omega))) (show 15≤63 by omega);have e1:Q38.f N (sg (av a i j)) (pB (av a i j))=some (qs (el (mr (av a)) 0 i j),qn (el (mr (av a)) 0 i j),ql (el (mr (av a)) 0 i j)):=tY;have e16:=fun k4=>J6 hN hg hji him (R:=R) x14 x15 ((i+1:Nat):Int) (j:Int) hM hd k4 j 0 N (by omega) (by omega);simp only[hJ]at e16;unfold av at e0;rw[Q94.l12];simp only[lD,iC,zE,aE,hg.sq.1,hg.sq.2 i him,d1,d2,d3,cond_true,e0,pC];rw[show Q38.f N (sg ((a.getD i []).getD j 0)) (pB ((a.getD i []).getD j 0))=_ from e1];simp only[pC];rw[e16];by_cases hij:i=j
  ·subst hij;have hb:(((i:Nat):Int)==(i:Int))=true:=by simp
   obtain⟨P',q1,q2⟩:=ih (i+1) n P (d.set i (rq (el (mr (av a)) i i i))) (by omega) (by omega) (hM.ext fun x y _ _=>by
    unfold yT;by_cases h:x<i∨(x=i∧y<i)
    ·rw[if_pos h,if_pos (by omega)]
    ·rw[if_neg h];by_cases h2:x<i∨(x=i∧y<i+1)
     ·rw[if_pos h2];unfold wX;rw[if_neg (by omega)]
     ·rw[if_neg h2]) (by
    rw[hd,lG,if_pos rfl];refine mB rq fun t _=>?_;by_cases h:t=i
    ·subst h;rw[if_pos rfl,if_pos (by omega)];rfl
    ·rw[if_neg h];by_cases h':t<i
     ·rw[if_pos h',if_pos (by omega)]
     ·rw[if_neg h',if_neg (by omega)])
   refine⟨P',q1,?_⟩;simp only[hb,cond_true,lD,iC,zE,aE,hdl,d2,qB (show i<1000000 by omega)];exact q2
  ·have hb:(((i:Nat):Int)==(j:Int))=false:=beq_eq_false_iff_ne.2 (by omega);have hjl:j<i:=by omega
   have gd:d.getD j (false,([]:W6),([]:W6))=rq (dg (av a) j):=by rw[hd,wE _ _ _ (by omega),if_pos hjl]
   have f1:Fq 128 (el (mr (av a)) j i j):=iw hm hg.bd hg.pd hji (hE _) him (by omega);have f2:Fq 128 (dg (av a) j):=iw hm hg.bd hg.pd (hE _) (hE _) (by omega) (by omega);have h0:=hg.pd j (by omega);have e5:=uz hN f1 f2 (by omega) (by unfold dg;grind);obtain⟨P',q1,q2⟩:=ih (j+1) n _ d (by omega) (by omega) ((hM.set him j (el (mr (av a)) j i j/dg (av a) j)).ext fun x y _ _=>by
    unfold yT;by_cases h:x=i∧y=j
    ·rw[if_pos h,h.1,h.2,if_pos (Or.inr ⟨rfl,by omega⟩)];unfold wX dg;rw[if_pos hjl]
    ·rw[if_neg h];by_cases h1:x<i∨(x=i∧y<j)
     ·rw[if_pos h1,if_pos (by omega)]
     ·rw[if_neg h1,if_neg (by omega)]) (by rw[if_neg (by omega)];exact hd)
   refine⟨P',q1,?_⟩;simp only[hb,cond_false,cond_true,lD,iC,zE,aE,hM.pl,hM.len him,hdl,d2,d3,gd,E4,E5,E6,e5,pC,qB (show j<1000000 by omega)];exact q2
theorem K4 {pi:W7}(k0:W0→W7→W1→Option R):∀c i n P,i+c=m→c<n→Mx rq m (fun _=>m) P pi (yT (av a) i 0)→
  ∃P',Mx rq m (fun _=>m) P' pi (wX (av a))∧Q94.l9 N n a (m:Int) (i:Int) P pi (row rq m (fun t=>if t<i then dg (av a) t else 0)) k0=k0 P' pi (row rq m (dg (av a))):=by
 have hm:=hg.hi;intro c;induction c with
 |zero=>
  intro i n P hi hn hM;obtain⟨n,rfl⟩:∃q,n=q+1:=⟨n-1,by omega⟩
  rw[Q94.l9,lD,decide_eq_false (by omega),mB rq (g:=dg (av a)) fun t ht=>if_pos (by omega)];exact⟨P,hM.ext fun x y hx _=>by unfold yT;rw[if_pos (Or.inl (by omega))],rfl⟩
 |succ c ih=>
  intro i n P hi hn hM;obtain⟨n,rfl⟩:∃q,n=q+1:=⟨n-1,by omega⟩
  have him:i<m:=by omega
  obtain⟨P1,q1,q2⟩:=J5 hN hg him (m:Int) (i:Int) (pi:=pi) (fun y74 y75 y76 y77 y78 y79=>Q94.l9 N n y74 y75 (fA (y76+1)) y77 y78 y79 k0) (i+1) 0 N P _ (by omega) (by omega) hM (by rw[if_neg (by omega)]);obtain⟨P2,r1,r2⟩:=ih (i+1) n P1 (by omega) (by omega) q1;refine⟨P2,r1,?_⟩;rw[hJ]at q2;rw[Q94.l9];simp only[lD,decide_eq_true him,cond_true,qB (show i<1000000 by omega)];rw[q2];simp only[qB (show i<1000000 by omega)];exact r2
theorem A5:∃P pi,Mx rq m (fun _=>m) P pi (wX (av a))∧Q94.f N a=some (P,pi,row rq m (dg (av a)),0):=by
 have hm:=hg.hi;obtain⟨P,pi,q1,q2⟩:=Bi hN (show m≤16 by omega);obtain⟨P',r1,r2⟩:=K4 hN hg (pi:=pi) (fun y83 y84 y85=>some (y83,y84,y85,(0:Int))) m 0 N P (by omega) (by omega) (q1.ext fun x y _ _=>by unfold yT;rw[if_neg (by omega)]);refine⟨P',pi,r1,?_⟩;rw[hJ]at r2;unfold Q94.f;rw[pI hN hg];have e1:Q38.f N (sg 1) (pB 1)=some (qs 1,qn 1,ql 1):=tY (x:=1);simp only[pC,bne_self_eq_false,cond_false,lg hN (oR (show 0<63 by omega)) (hE _),e1,hg.sq.1,q2,tD,iC,eQ (show m≤1000 by omega),aE,dC (show m≤1000 by omega) (show 56≤1000 by omega),hV,cond_true];rw[←E3,nH rq m 0,mB rq (g:=fun t=>if t<0 then dg (av a) t else 0) fun t _=>(if_neg (by omega)).symm];exact r2
end
open Go.Proofs.YtijigofaaefldaaGreat.Lat (sm iB jD lE wC zA iP tH qN gU gW Wh tE el dp PD dD pE uJ Rw Lt gr ip xV jF ml yE ke yO)
def bI:Nat→(Nat→Int)→Int
 |0,_=>0
 |n+1,f=>bI n f+f n
theorem xO (f:Nat→Int):∀n,((bI n f:Int):Rat)=sm n fun i=>(f i:Rat)
 |0=>rfl
 |n+1=>by show((bI n f+f n:Int):Rat)=_;rw[n3,xO f n,iB]
theorem ns {f:Nat→Int}{k:Nat}:∀{n:Nat},n≤8→(∀i,i<n→Bd k (f i))→Bd (k+n) (bI n f)
 |0,_,_=>Cw _
 |n+1,hn,h=>by have h1:=ns (n:=n) (by omega) fun i hi=>h i (by omega);have h2:=h n (by omega);exact h1.add (h2.mono (by omega))
def tl (A:Nat→Nat→Int)(l:Nat)(x:Nat→Int):Rat:=sm 8 fun a=>(x a:Rat)*el (mr A) l a l
def St (A:Nat→Nat→Int)(l:Nat)(x:Nat→Int):Rat:=tl A l x*tl A l x/el (mr A) l l l
def Qf (A:Nat→Nat→Int)(x:Nat→Int):Rat:=sm 8 fun l=>St A l x
def hi (A:Nat→Nat→Int)(s:Nat)(x:Nat→Int):Rat:=sm 8 fun l=>if s≤l then St A l x else 0
def cc (A:Nat→Nat→Int)(j:Nat)(x:Nat→Int)(i:Nat):Rat:=sm i fun t=>if j<t then(x t:Rat)*wX A t j else 0
def wq (x:Nat→Int)(j:Nat)(v:Int):Nat→Int:=fun t=>if t=j then v else x t
theorem pY (x:Nat→Int)(j:Nat)(v:Int):wq x j v j=v:=if_pos rfl
theorem qY (x:Nat→Int){j t:Nat}(v:Int)(h:t≠j):wq x j v t=x t:=if_neg h
section
variable {A:Nat→Nat→Int}(hs:Lat.qQ (mr A))(hp:PD 8 (mr A))
include hp
theorem Bt {l:Nat}(hl:l<8){x y:Nat→Int}(h:∀t,l≤t→t<8→x t=y t):tl A l x=tl A l y:=by
 refine zA fun a ha=>?_;by_cases hal:a<l
 ·rw[(uJ hal (fun b hb=>hp.ne (by omega)) l).2];grind
 ·rw[h a (by omega) ha]
theorem lR {l:Nat}(hl:l<8){x y:Nat→Int}(h:∀t,l≤t→t<8→x t=y t):St A l x=St A l y:=by
 unfold St;rw[Bt hp hl h]
theorem kM {s:Nat}{x y:Nat→Int}(h:∀t,s≤t→t<8→x t=y t):hi A s x=hi A s y:=zA fun l hl=>by
 by_cases hsl:s≤l
 ·rw[if_pos hsl,if_pos hsl,lR hp hl fun t ht h8=>h t (by omega) h8]
 ·rw[if_neg hsl,if_neg hsl]
theorem o5 {l:Nat}(hl:l<8)(x:Nat→Int):0≤St A l x:=jF (yE _) (hp l hl)
omit hp in
theorem Gj (x:Nat→Int):hi A 8 x=0:=wC fun l hl=>if_neg (by omega)
omit hp in
theorem nV (x:Nat→Int):hi A 0 x=Qf A x:=zA fun l hl=>if_pos (u2 l)
omit hp in
theorem aW {j:Nat}(hj:j<8)(x:Nat→Int):hi A j x=hi A (j+1) x+St A j x:=by
 have:hi A j x=sm 8 fun l=>(if j+1≤l then St A l x else 0)+(if l=j then St A j x else 0):=zA fun l hl=>by
  by_cases h1:j+1≤l
  ·rw[if_pos (by omega),if_pos h1,if_neg (by omega)];grind
  ·by_cases h2:l=j
   ·subst h2;rw[if_pos (hE _),if_neg h1,if_pos rfl];grind
   ·rw[if_neg (by omega),if_neg h1,if_neg h2];grind
 rw[this,iP,Lat.ot (fun _=>St A j x) hj];rfl
theorem Ht {s:Nat}(x:Nat→Int):hi A s x≤Qf A x:=Lat.Bg fun l hl=>by
 by_cases h:s≤l
 ·rw[if_pos h];exact c8
 ·rw[if_neg h];exact o5 hp hl x
include hs in
theorem tM (x:Nat→Int):Qf A x=sm 8 fun a=>sm 8 fun b=>(x a:Rat)*(x b:Rat)*mr A a b:=(xV hs hp fun t=>(x t:Rat)).symm
theorem F4 {j:Nat}(hj:j<8)(x:Nat→Int):(x j:Rat)+cc A j x 8=tl A j x/el (mr A) j j j:=by
 have h0:=hp.ne hj;have e:tl A j x=sm 8 fun t=>(if j<t then(x t:Rat)*wX A t j else 0)*el (mr A) j j j+(if t=j then(x j:Rat)*el (mr A) j j j else 0):=zA fun t ht=>by
  by_cases h1:j<t
  ·rw[if_pos h1,if_neg (by omega)];unfold wX;rw[if_pos h1];grind
  ·rw[if_neg h1];by_cases h2:t=j
   ·subst h2;rw[if_pos rfl];grind
   ·rw[if_neg h2,(uJ (r:=j) (l:=t) (by omega) (fun b hb=>hp.ne (by omega)) j).2];grind
 rw[e,iP,qN,Lat.ot (fun _=>(x j:Rat)*el (mr A) j j j) hj];show _=(cc A j x 8*el (mr A) j j j+_)/_;grind
theorem F1 {j:Nat}(hj:j<8)(x:Nat→Int):St A j x=((x j:Rat)+cc A j x 8)*((x j:Rat)+cc A j x 8)*dg A j:=by
 rw[F4 hp hj];unfold St dg;have h0:=hp.ne hj;grind
end
section
variable {A:Nat→Nat→Int}(hp:PD 8 (mr A))(he:∀i j,i<8→j<8→ -64≤A i j∧A i j≤64)
include hp he
theorem Ga:∀r,r≤8→Lat.qQ (mr A)→G9 64 r<((2^64:Nat):Rat):=by
 have _:=hp;have _:=he;intro r hr _;have:r=0∨r=1∨r=2∨r=3∨r=4∨r=5∨r=6∨r=7∨r=8:=by omega
 rcases this with rfl|rfl|rfl|rfl|rfl|rfl|rfl|rfl|rfl<;>decide+kernel
theorem qa (hs:Lat.qQ (mr A)){r i k:Nat}(hi:r≤i)(hk:r≤k)(hin:i<8)(hkn:k<8):Bd 64 (bz A r i k):=
 bg (xu (n:=8) (B:=64) (by decide+kernel) (fun i j hi hj=>by have h1:=he i j hi hj;have h2:((-64:Int):Rat)≤(A i j:Rat):=hG.2 h1.1;have h3:(A i j:Rat)≤((64:Int):Rat):=hG.2 h1.2;exact⟨h2,h3⟩) (fun l hl=>hp.ne (by omega)) hi hk hin hkn) (Ga hp he _ (by omega) hs)
theorem dX (hs:Lat.qQ (mr A)){r:Nat}(hr:r≤8):Bd 64 (dz A r):=by
 cases r with
 |zero=>rw[zR];exact oR (by omega)
 |succ r=>rw[tJ];exact qa hp he hs (hE _) (hE _) (by omega) (by omega)
theorem A4 {t j:Nat}(hj:j<t)(ht:t<8):wX A t j=(bz A j t j:Rat)/(dz A (j+1):Rat):=by
 have _:=he;unfold wX;have c1:=vE (a:=A) (r:=j) (fun l hl=>hp.ne (by omega)) (show j≤t by omega) (hE j);have c2:=xD (a:=A) (r:=j+1) (fun l hl=>hp.ne (by omega));have hd:=dD (M:=mr A) (r:=j) fun l hl=>hp l (by omega);have hh:=hp j (by omega);rw[if_pos hj,c1,c2];show _=_/(dp (mr A) j*el (mr A) j j j);have h1:dp (mr A) j≠0:=by grind
 have h2:el (mr A) j j j≠0:=by grind
 grind
theorem zh (hs:Lat.qQ (mr A)){t j:Nat}(hj:j<t)(ht:t<8):Fq 64 (wX A t j):=by
 have h0:=aN hp (r:=j+1) (by omega);rw[A4 hp he hj ht,←aR _ _ h0];refine fN (qa hp he hs (by omega) (hE _) ht (by omega)) ?_ (by omega);rw[x0 (by omega)];exact dX hp he hs (by omega)
theorem Dg (hs:Lat.qQ (mr A)){j:Nat}(hj:j<8):Fq 64 (dg A j):=by
 have h0:=aN hp (r:=j) (by omega);have c1:=xD (a:=A) (r:=j) (fun l hl=>hp.ne (by omega));have c2:=xD (a:=A) (r:=j+1) (fun l hl=>hp.ne (by omega));have hd:=dD (M:=mr A) (r:=j) fun l hl=>hp l (by omega);have e:dg A j=mkRat (dz A (j+1)) (dz A j).toNat:=by
  rw[aR _ _ h0,c1,c2];show el (mr A) j j j=(dp (mr A) j*el (mr A) j j j)/_;have:dp (mr A) j≠0:=by grind
  grind
 rw[e];refine fN (dX hp he hs (by omega)) ?_ (by omega);rw[x0 (by omega)];exact dX hp he hs (by omega)
theorem zb (hs:Lat.qQ (mr A)){j:Nat}(hj:j<8){x:Nat→Int}(hx:∀t,j<t→t<8→Bd 40 (x t)){i:Nat}(hi:i≤8):Fq 115 (cc A j x i):=by
 have h0:=aN hp (r:=j+1) (by omega);have e:cc A j x i=mkRat (bI i fun t=>if j<t then x t*bz A j t j else 0) (dz A (j+1)).toNat:=by
  rw[aR _ _ h0,xO,Rat.div_def,←qN];refine zA fun t ht=>?_;by_cases h:j<t
  ·rw[if_pos h,if_pos h,A4 hp he h (by omega),xK];grind
  ·rw[if_neg h,if_neg h];rw[show(((0:Int):Int):Rat)=0 from rfl];grind
 rw[e];refine fN ((ns (k:=104) hi fun t ht=>?_).mono (by omega)) ?_ (by omega)
 ·by_cases h:j<t
  ·rw[if_pos h];exact(hx t h (by omega)).mul (qa hp he hs (by omega) (hE _) (by omega) hj)
  ·rw[if_neg h];exact Cw _
 ·rw[x0 (by omega)];exact(dX hp he hs (by omega)).mono (by omega)
theorem Bu {j:Nat}(hj:j<8)(x:Nat→Int):tl A j x=(bI 8 (fun t=>if j≤t then x t*bz A j t j else 0):Rat)/(dz A j:Rat):=by
 have _:=he;have c2:=xD (a:=A) (r:=j) (fun l hl=>hp.ne (by omega));have hd:=dD (M:=mr A) (r:=j) fun l hl=>hp l (by omega);rw[xO,Rat.div_def,←qN];refine zA fun t ht=>?_;by_cases h:j≤t
 ·have c1:=vE (a:=A) (r:=j) (fun l hl=>hp.ne (by omega)) h (hE j);rw[if_pos h,xK,c1,c2];have:dp (mr A) j≠0:=by grind
  grind
 ·rw[if_neg h,(uJ (r:=j) (l:=t) (by omega) (fun b hb=>hp.ne (by omega)) j).2,show(((0:Int):Int):Rat)=0 from rfl];grind
theorem Hp (hs:Lat.qQ (mr A)){j:Nat}(hj:j<8){x:Nat→Int}(hx:∀t,j≤t→t<8→Bd 40 (x t)):Bd 112 (bI 8 (fun t=>if j≤t then x t*bz A j t j else 0)):=
 ns (k:=104) (hE 8) fun t ht=>by
  by_cases h:j≤t
  ·rw[if_pos h];exact(hx t h ht).mul (qa hp he hs h (hE _) ht hj)
  ·rw[if_neg h];exact Cw _
theorem J4 (hs:Lat.qQ (mr A)){j:Nat}(hj:j<8){x:Nat→Int}(hx:∀t,j≤t→t<8→Bd 40 (x t)):Fq 115 ((x j:Rat)+cc A j x 8):=by
 have h0:=aN hp (r:=j+1) (by omega);have c1:=xD (a:=A) (r:=j) (fun l hl=>hp.ne (by omega));have c2:=xD (a:=A) (r:=j+1) (fun l hl=>hp.ne (by omega));have hd:=dD (M:=mr A) (r:=j) fun l hl=>hp l (by omega);have hh:=hp j hj;have e:(x j:Rat)+cc A j x 8=mkRat (bI 8 (fun t=>if j≤t then x t*bz A j t j else 0)) (dz A (j+1)).toNat:=by
  rw[aR _ _ h0,F4 hp hj,Bu hp he hj,c1,c2];show _=_/(dp (mr A) j*el (mr A) j j j);have h1:dp (mr A) j≠0:=by grind
  have h2:el (mr A) j j j≠0:=by grind
  grind
 rw[e];refine fN ((Hp hp he hs hj hx).mono (by omega)) ?_ (by omega);rw[x0 (by omega)];exact(dX hp he hs (by omega)).mono (by omega)
theorem F7 (hs:Lat.qQ (mr A)){j:Nat}(hj:j<8){x:Nat→Int}(hx:∀t,j≤t→t<8→Bd 40 (x t)):Fq 224 (St A j x):=by
 have h0:=aN hp (r:=j) (by omega);have h1:=aN hp (r:=j+1) (by omega);have c1:=xD (a:=A) (r:=j) (fun l hl=>hp.ne (by omega));have c2:=xD (a:=A) (r:=j+1) (fun l hl=>hp.ne (by omega));have hd:=dD (M:=mr A) (r:=j) fun l hl=>hp l (by omega);have hh:=hp j hj;have hb:=Hp hp he hs hj hx;have e:St A j x=mkRat (bI 8 (fun t=>if j≤t then x t*bz A j t j else 0)*bI 8 (fun t=>if j≤t then x t*bz A j t j else 0)) (dz A j*dz A (j+1)).toNat:=by
  rw[aR _ _ (Int.mul_pos h0 h1),xK,xK];unfold St;rw[Bu hp he hj,c1,c2];show _=_/(dp (mr A) j*(dp (mr A) j*el (mr A) j j j));have h1:dp (mr A) j≠0:=by grind
  have h2:el (mr A) j j j≠0:=by grind
  grind
 rw[e];refine fN ((hb.mul hb).mono (by omega)) ?_ (by omega);rw[x0 (q5 (Int.mul_pos h0 h1))];exact((dX hp he hs (by omega)).mul (dX hp he hs (by omega))).mono (by omega)
end
open Go.Proofs.YtijigofaaefldaaGreat.Lat (sm iB jD zA Wh el dp PD Rw Bg yO ke)
abbrev GT:Type:=Int→Bool→W6→W6→W5→Int→W6→vF→W4→W7→W0→W1→Option (Bool×W5×Int×W6×vF×W4×W7×W0×W1)
def zf (z:W6):Nat→Int:=fun t=>z.getD t 0
def xs (x:Nat→Int):W6:=row yH 8 x
theorem aL (x:Nat→Int):(xs x).length=8:=bC _ _ _
theorem lU (x:Nat→Int){j:Nat}(h:j<8):(xs x).getD j 0=x j:=wE yH x 0 h
theorem pr (x:Nat→Int)(j:Nat)(v:Int):(xs x).set j v=xs (wq x j v):=lG yH x v
theorem kx (x:Nat→Int){t:Nat}(h:t<8):zf (xs x) t=x t:=lU x h
theorem rv {z:W6}(h:z.length=8):xs (zf z)=z:=by
 refine k5 (by rw[aL,h]) fun t h1 h2=>?_;have e:=lU (zf z) (j:=t) (by rw[←h];exact h2);rw[Lat.fS h1]at e;rw[e];unfold zf;rw[Lat.fS h2]
theorem pq {x y:Nat→Int}(h:∀t,t<8→x t=y t):xs x=xs y:=mB yH h
def yl (U:Nat→Nat→Int)(x:Nat→Int):W6:=row yH 8 fun k=>bI 8 fun i=>x i*U i k
def Qn (A:Nat→Nat→Int)(x:Nat→Int):Int:=4- (4-Qf A x).floor
def vZ (A U:Nat→Nat→Int)(z:W6):W6×Int:=(yl U (zf z),Qn A (zf z))
def wz (A:Nat→Nat→Int)(s:Nat)(x:Nat→Int)(z:W6):Prop:=z.length=8∧(∀t,s≤t→t<8→zf z t=x t)∧Qf A (zf z)≤4
def Iq (P:W6→Prop)(pre:W4):Prop:=∀Z:W5,Z.Nodup→(∀z,z∈Z→P z)→pre.length+Z.length≤8192
def Xb (s:Nat):Int:=2^17*5^(8-s)
def Eu (s:Nat)(x:Nat→Int):Prop:=∀t,s≤t→t<8→ -(Xb s)≤x t∧x t≤Xb s
theorem dT {j:Nat}(hj:j<8):Xb j=5*Xb (j+1)∧2^17≤Xb (j+1)∧Xb j≤2^36:=by
 have:j=0∨j=1∨j=2∨j=3∨j=4∨j=5∨j=6∨j=7:=by omega
 rcases this with rfl|rfl|rfl|rfl|rfl|rfl|rfl|rfl<;>decide+kernel
theorem nr {s:Nat}(hs:s≤8){x:Nat→Int}(h:Eu s x):∀t,s≤t→t<8→Bd 40 (x t):=fun t ht h8=>by
 have h1:=h t ht h8;have h2:Xb s≤2^36:=by
  by_cases e:s<8
  ·exact(dT e).2.2
  ·rw[show s=8 by omega];decide+kernel
 have e33:(2:Int)^36=68719476736:=by decide
 unfold Bd;rw[show 2^40=1099511627776 from rfl];omega
def kf (s:Nat):Nat:=3+(8-s)*225
structure WA (A:Nat→Nat→Int):Prop where
 sym:Lat.qQ (mr A)
 pd:PD 8 (mr A)
 en:∀i j,i<8→j<8→ -64≤A i j∧A i j≤64
 lm:∀i j,i<8→j<i→ -(1/2)≤wX A i j∧wX A i j≤1/2
 lo:∀j,j<8→1≤2^28*dg A j
section
variable {A:Nat→Nat→Int}(hW:WA A)
include hW
theorem ck {x:Nat→Int}:∀d s,s+d=8→(∀t,s≤t→t<8→Bd 40 (x t))→Fq (kf s) (4-hi A s x)
 |0,s,hd,_=>by
  obtain rfl:s=8:=by omega
  rw[Gj];have:(4:Rat)-0=((4:Int):Rat):=by rw[show(((4:Int):Int):Rat)=4 from rfl];grind
  rw[this];exact na (by unfold Bd kf;decide) (by unfold kf;omega)
 |d+1,s,hd,hb=>by
  have h1:=ck d (s+1) (by omega) fun t ht h8=>hb t (by omega) h8;have h2:=F7 hW.pd hW.en hW.sym (show s<8 by omega) hb;have h3:=h1.add h2.neg;rw[aW (show s<8 by omega) x];have e:4- (hi A (s+1) x+St A s x)=(4-hi A (s+1) x)+ -(St A s x):=by grind
  rw[e];exact h3.mono (by unfold kf;omega)
theorem F3 {j:Nat}(hj:j<8){x:Nat→Int}(hx:Eu (j+1) x):∀i,i≤8→ -((i:Nat)*(1/2*(Xb (j+1):Rat)))≤cc A j x i∧cc A j x i≤(i:Nat)*(1/2*(Xb (j+1):Rat)):=fun i hi=>by
 refine oq fun t ht=>?_;have hX:(0:Rat)≤(Xb (j+1):Rat):=by
  have:=(dT hj).2.1;have h3:(0:Int)≤2^17:=by decide
  have h2:((0:Int):Rat)≤(Xb (j+1):Rat):=hG.2 (by omega);exact h2
 by_cases h:j<t
 ·rw[if_pos h];have h1:=hx t (by omega) (by omega);have h2:((-(Xb (j+1)):Int):Rat)≤(x t:Rat):=hG.2 h1.1;have h3:(x t:Rat)≤(Xb (j+1):Rat):=hG.2 h1.2;rw[o3]at h2;have h4:=dh ⟨h2,h3⟩ (hW.lm t j (by omega) h);constructor<;>grind
 ·rw[if_neg h];have:(0:Rat)≤1/2*(Xb (j+1):Rat):=u0 (by decide+kernel) hX;constructor<;>grind
def wj (A:Nat→Nat→Int)(j:Nat)(x:Nat→Int)(v:Int):Prop:=St A j (wq x j v)≤4-hi A (j+1) x
omit hW in
theorem G6 {j:Nat}(x:Nat→Int)(v:Int)(i:Nat):cc A j (wq x j v) i=cc A j x i:=zA fun t _=>by
 by_cases h:j<t
 ·rw[if_pos h,if_pos h,qY _ _ (by omega)]
 ·rw[if_neg h,if_neg h]
theorem xc {j:Nat}(hj:j<8)(x:Nat→Int)(v:Int):St A j (wq x j v)=((v:Rat)+cc A j x 8)*((v:Rat)+cc A j x 8)*dg A j:=by
 rw[F1 hW.pd hj,pY,G6]
theorem yj {j:Nat}(hj:j<8):0<dg A j:=hW.pd j hj
theorem vT (s:Nat)(x:Nat→Int):0≤hi A s x:=Lat.gU fun l hl=>by
 by_cases h:s≤l
 ·rw[if_pos h];exact o5 hW.pd hl x
 ·rw[if_neg h];exact c8
theorem gg {j:Nat}(hj:j<8){x:Nat→Int}{v:Int}(h:wj A j x v): -(2^15)≤(v:Rat)+cc A j x 8∧(v:Rat)+cc A j x 8≤2^15:=by
 unfold wj at h;rw[xc hW hj]at h;have h0:=vT hW (j+1) x;have h1:=yj hW hj;have h2:=hW.lo j hj;refine yO (by decide+kernel) ?_;have h3:((v:Rat)+cc A j x 8)*((v:Rat)+cc A j x 8)*dg A j≤4:=by grind
 have h4:=pR h2 (Lat.yE ((v:Rat)+cc A j x 8));have h5:=pR h3 (show(0:Rat)≤2^28 by decide+kernel);have h6:(2:Rat)^28*4≤2^15*2^15:=by decide+kernel
 grind
theorem gf {j:Nat}(hj:j<8){x:Nat→Int}{u v:Int}(h:wj A j x v)(huv:((u:Rat)+cc A j x 8)*((u:Rat)+cc A j x 8)≤((v:Rat)+cc A j x 8)*((v:Rat)+cc A j x 8)):wj A j x u:=by
 unfold wj at*;rw[xc hW hj]at*;have:=hK huv (b0 (yj hW hj));exact hT this h
end
theorem D4 (x y:Rat):decide (vQ x y>0)=decide (y<x):=by
 unfold vQ;by_cases h:x=y
 ·rw[if_pos h,h,decide_eq_false (by omega),decide_eq_false (by grind)]
 ·by_cases h2:x<y
  ·rw[if_neg h,if_pos h2,decide_eq_false (by omega),decide_eq_false (by grind)]
  ·rw[if_neg h,if_neg h2,decide_eq_true (by omega),decide_eq_true (by grind)]
section
variable {N:Nat}(hN:1000000001<N)(hN2:2^224<N){A U:Nat→Nat→Int}(hW:WA A){rows:W5}{Pl:W0}{pil:W7}{Am:vF}(g:GT)
include hN hN2 hW
theorem kp {j:Nat}(hj:j<8){x:Nat→Int}(hx:Eu j x)(pre:W4):
  Q110.f g N (j:Int) (qs (cc A j x 8)) (qn (cc A j x 8)) (ql (cc A j x 8)) (qs (4-hi A (j+1) x)) (qn (4-hi A (j+1) x)) (ql (4-hi A (j+1) x)) (xs x) (row rq 8 (dg A)) rows 4 Am pre pil Pl=
   if 4-hi A (j+1) x<St A j x then some (false,true,xs x,row rq 8 (dg A),rows,4,Am,pre,pil,Pl)
   else(g ((j:Int)-1) (qs (4-hi A j x)) (qn (4-hi A j x)) (ql (4-hi A j x)) rows 4 (xs x) Am pre pil Pl (row rq 8 (dg A))).bind fun r30=>some (true,r30.1,r30.2.2.2.1,r30.2.2.2.2.2.2.2.2,r30.2.1,r30.2.2.1,r30.2.2.2.2.1,r30.2.2.2.2.2.1,r30.2.2.2.2.2.2.1,r30.2.2.2.2.2.2.2.1):=by
 have hb:=nr (show j≤8 by omega) hx;have b1:Bd 40 (x j):=hb j (hE _) hj;have e1:=jR hN (b1.mono (show 40≤63 by omega));have f1:Fq 115 (x j:Rat):=(na b1 (by omega)).mono (by omega);have f2:Fq 115 (cc A j x 8):=zb hW.pd hW.en hW.sym hj (fun t ht h8=>hb t (by omega) h8) (hE 8);have e2:=q9 hN f1 f2 (by omega);have f3:Fq 115 ((x j:Rat)+cc A j x 8):=J4 hW.pd hW.en hW.sym hj hb;have e3:=oM hN f3 f3 (by omega);have f4:Fq 230 (dg A j):=(Dg hW.pd hW.en hW.sym hj).mono (by omega);have e4:=oM hN (f3.mul f3) f4 (by omega);rw[←F1 hW.pd hj x]at e4;have f5:Fq 224 (St A j x):=F7 hW.pd hW.en hW.sym hj hb;have f6:Fq (kf (j+1)) (4-hi A (j+1) x):=ck hW (8- (j+1)) (j+1) (by omega) fun t ht h8=>hb t (by omega) h8;have hkf:kf (j+1)≤1800:=by unfold kf;omega
 have hden:(St A j x).den<N:=by have h1:=f5.2;unfold Bd at h1;rw[Int.natAbs_natCast]at h1;omega
 have e5:=uy hN (f5.mono (show 224≤4095 by omega)) (f6.mono (show kf (j+1)≤4095 by omega)) hden;have e6:=u9 hN (f6.mono hkf) (f5.mono (show 224≤1800 by omega)) (by omega);have ehi:4-hi A (j+1) x-St A j x=4-hi A j x:=by rw[aW hj x];grind
 rw[ehi]at e6;have ed:(row rq 8 (dg A)).getD j (false,([]:W6),([]:W6))=rq (dg A j):=wE rq _ _ hj;unfold Q110.f;simp only[aL,bC,lD,iC,zE,aE,decide_eq_true hj,cond_true,show((8:Nat):Int)=8 from rfl];have d8:decide ((j:Int)<8)=true:=decide_eq_true (by omega);simp only[d8,cond_true,lU x hj,e1,e2,e3,ed,E4,E5,E6,e4,e5,pC,D4];by_cases hc:4-hi A (j+1) x<St A j x
 ·rw[decide_eq_true hc,if_pos hc];rfl
 ·rw[decide_eq_false hc,if_neg hc];simp only[cond_false,e6,pC];rw[aB (n:=(j:Int)-1) (by omega) (by omega)]
end
def aw (A:Nat→Nat→Int)(j:Nat)(x:Nat→Int)(v w:Int)(k:Nat)(z:W6):Prop:=z.length=8∧(∀t,j<t→t<8→zf z t=x t)∧(∃i:Nat,i<k∧zf z j=v+(i:Int)*w)∧Qf A (zf z)≤4
def WK (N:Nat)(A U:Nat→Nat→Int)(rows:W5)(pil:W7)(Pl:W0)(g:GT)(s:Nat):Prop:=∀(x:Nat→Int) (pre:W4),Eu s x→hi A s x≤4→Iq (wz A s x) pre→
 ∃(Z:W5) (x':Nat→Int),Z.Nodup∧(∀z,z∈Z↔wz A s x z)∧(∀t,s≤t→t<8→x' t=x t)∧∀Am:vF,Am.cap=8192→
  g ((s:Int)-1) (qs (4-hi A s x)) (qn (4-hi A s x)) (ql (4-hi A s x)) rows 4 (xs x) Am pre pil Pl (row rq 8 (dg A))=some (true,rows,4,xs x',Am,pre++Z.map (vZ A U),pil,Pl,row rq 8 (dg A))
theorem gq {A:Nat→Nat→Int}{j:Nat}{x y:Nat→Int}(h:∀t,j<t→t<8→x t=y t):cc A j x 8=cc A j y 8:=zA fun t ht=>by
 by_cases h1:j<t
 ·rw[if_pos h1,if_pos h1,h t h1 ht]
 ·rw[if_neg h1,if_neg h1]
theorem kl (v w:Int)(i:Nat):v+((i+1:Nat):Int)*w=(v+w)+(i:Int)*w:=by
 rw[Int.natCast_add,Int.add_mul];simp;omega
section
variable {N:Nat}(hN:1000000001<N)(hN2:2^224<N){A U:Nat→Nat→Int}(hW:WA A){rows:W5}{Pl:W0}{pil:W7}(g:GT)
include hN hN2 hW
theorem Fg {R:Type}{j:Nat}(hj:j<8)(hg:WK N A U rows pil Pl g j){x:Nat→Int}(hx:Eu (j+1) x){w:Int}(hw:w=1∨w= -1)(mid wi:Int):
  ∀k v n x1 pre,(∀t,j<t→t<8→x1 t=x t)→x1 j=v→(∀i:Nat,i≤k→ -(Xb j)≤v+(i:Int)*w∧v+(i:Int)*w≤Xb j)→(∀i:Nat,i<k→wj A j x (v+(i:Int)*w))→¬wj A j x (v+(k:Int)*w)→k<n→Iq (aw A j x v w k) pre→
  ∃(Z:W5) (x2:Nat→Int),Z.Nodup∧(∀z,z∈Z↔aw A j x v w k z)∧(∀t,j<t→t<8→x2 t=x t)∧∀(Am:vF) (_:Am.cap=8192) (k8:Int→Int→Int→W5→Int→W6→vF→W4→W7→W0→W1→Bool→W6→W6→Bool→W6→W6→Option R) (kr:Bool→W5→Int→W6→vF→W4→W7→W0→W1→Option R),
   Q111.l26 g N n (j:Int) mid w wi rows 4 (xs x1) Am pre pil Pl (row rq 8 (dg A)) (qs (4-hi A (j+1) x)) (qn (4-hi A (j+1) x)) (ql (4-hi A (j+1) x)) (qs (cc A j x 8)) (qn (cc A j x 8)) (ql (cc A j x 8)) k8 kr=
    k8 (j:Int) mid wi rows 4 (xs x2) Am (pre++Z.map (vZ A U)) pil Pl (row rq 8 (dg A)) (qs (4-hi A (j+1) x)) (qn (4-hi A (j+1) x)) (ql (4-hi A (j+1) x)) (qs (cc A j x 8)) (qn (cc A j x 8)) (ql (cc A j x 8)):=by
 have hXX:=dT hj;intro k;induction k with
 |zero=>
  intro v n x1 pre h1 h2 h3 h4 h5 hn hcap;obtain⟨n,rfl⟩:∃q,n=q+1:=⟨n-1,by omega⟩
  have hv:=h3 0 (hE _);rw[show v+((0:Nat):Int)*w=v by simp]at hv h5;have hx1:Eu j x1:=fun t ht h8=>by
   by_cases e:t=j
   ·rw[e,h2];exact hv
   ·rw[h1 t (by omega) h8];have:=hx t (by omega) h8;omega
  have e:=fun Am=>kp hN hN2 hW (rows:=rows) (Pl:=Pl) (pil:=pil) (Am:=Am) g hj hx1 pre;have ec:cc A j x1 8=cc A j x 8:=gq h1;have eh:hi A (j+1) x1=hi A (j+1) x:=kM hW.pd fun t ht h8=>h1 t (by omega) h8;have es:St A j x1=St A j (wq x j v):=lR hW.pd hj fun t ht h8=>by
   by_cases e:t=j
   ·rw[e,h2,pY]
   ·rw[qY _ _ e,h1 t (by omega) h8]
  simp only[ec,eh,es,if_pos (Rat.not_le.1 h5)]at e;refine⟨[],x1,by simp,fun z=>?_,h1,?_⟩
  ·constructor
   ·intro h;cases h
   ·rintro⟨_,_,⟨i,hi,_⟩,_⟩;omega
  ·intro Am _ k8 kr;rw[Q111.l26,e];simp
 |succ k ih=>
  intro v n x1 pre h1 h2 h3 h4 h5 hn hcap;obtain⟨n,rfl⟩:∃q,n=q+1:=⟨n-1,by omega⟩
  have hv:=h3 0 (by omega);have hav:=h4 0 (by omega);rw[show v+((0:Nat):Int)*w=v by simp]at hv hav;have hx1:Eu j x1:=fun t ht h8=>by
   by_cases e:t=j
   ·rw[e,h2];exact hv
   ·rw[h1 t (by omega) h8];have:=hx t (by omega) h8;omega
  have e:=fun Am=>kp hN hN2 hW (rows:=rows) (Pl:=Pl) (pil:=pil) (Am:=Am) g hj hx1 pre;have ec:cc A j x1 8=cc A j x 8:=gq h1;have eh:hi A (j+1) x1=hi A (j+1) x:=kM hW.pd fun t ht h8=>h1 t (by omega) h8;have es:St A j x1=St A j (wq x j v):=lR hW.pd hj fun t ht h8=>by
   by_cases e:t=j
   ·rw[e,h2,pY]
   ·rw[qY _ _ e,h1 t (by omega) h8]
  have hle:hi A j x1≤4:=by rw[aW hj x1,eh,es];unfold wj at hav;grind
  have memZ:∀z,wz A j x1 z→aw A j x v w (k+1) z:=fun z ⟨z1,z2,z3⟩=>⟨z1,fun t ht h8=>by rw[z2 t (by omega) h8,h1 t ht h8],⟨0,by omega,by rw[z2 j (hE _) hj,h2];simp⟩,z3⟩
  obtain⟨Z1,x1',n1,m1,a1,e1⟩:=hg x1 pre hx1 hle (fun Z hZ hm=>hcap Z hZ fun z hz=>memZ z (hm z hz));simp only[ec,eh,es,if_neg (Rat.not_lt.2 hav)]at e;have hdis:∀z,z∈Z1→∀y,aw A j x (v+w) w k y→z≠y:=fun z hz y hy hzy=>by subst hzy;have q1:=((m1 z).1 hz).2.1 j (hE _) hj;obtain⟨i,_,q2⟩:=hy.2.2.1;rw[q1,h2]at q2;rcases hw with rfl|rfl<;>omega
  have memR':∀z,aw A j x (v+w) w k z→aw A j x v w (k+1) z:=fun z ⟨z1,z2,⟨i,hi,z3⟩,z4⟩=>⟨z1,z2,⟨i+1,by omega,by rw[z3,kl]⟩,z4⟩
  obtain⟨Z2,x2,n2,m2,a2,e2⟩:=ih (v+w) n (wq x1' j (v+w)) (pre++Z1.map (vZ A U)) (fun t ht h8=>by rw[qY _ _ (by omega),a1 t (by omega) h8,h1 t ht h8]) (pY _ _ _) (fun i hi=>by rw[←kl];exact h3 (i+1) (by omega)) (fun i hi=>by rw[←kl];exact h4 (i+1) (by omega)) (by rw[←kl];exact h5) (by omega) (fun Z hZ hm=>by
   have:=hcap (Z1++Z) (w4.2 ⟨n1,hZ,fun z hz y hy=>hdis z hz y (hm y hy)⟩) fun z hz=>by
    rcases r5.1 hz with hz|hz
    ·exact memZ z ((m1 z).1 hz)
    ·exact memR' z (hm z hz)
   rw[o2]at this;rw[o2,q0];omega)
  refine⟨Z1++Z2,x2,w4.2 ⟨n1,n2,fun z hz y hy=>hdis z hz y ((m2 y).1 hy)⟩,fun z=>?_,a2,?_⟩
  ·rw[r5];constructor
   ·rintro(hz|hz)
    ·exact memZ z ((m1 z).1 hz)
    ·exact memR' z ((m2 z).1 hz)
   ·rintro⟨z1,z2,⟨i,hi,z3⟩,z4⟩;cases i with
    |zero=>
     refine Or.inl ((m1 z).2 ⟨z1,fun t ht h8=>?_,z4⟩);by_cases e:t=j
     ·rw[e,z3,h2];simp
     ·rw[z2 t (by omega) h8,h1 t (by omega) h8]
    |succ i=>exact Or.inr ((m2 z).2 ⟨z1,z2,⟨i,by omega,by rw[z3,kl]⟩,z4⟩)
  ·intro Am hAm k8 kr;have hvw:=h3 1 (by omega);rw[show v+((1:Nat):Int)*w=v+w by simp]at hvw;have hX33:=hXX.2.2;have e33:(2:Int)^36=68719476736:=by decide
   have hx1j:x1' j=v:=by rw[a1 j (hE _) hj,h2]
   have hwv:fA (x1' j+w)=v+w:=by rw[hx1j,aB (by omega) (by omega)]
   have d8:decide ((j:Int)<8)=true:=decide_eq_true (by omega);rw[Q111.l26,e,e1 Am hAm];simp only[pC,j1,cond_false,aL,iC,zE,aE,show((8:Nat):Int)=8 from rfl,d8,cond_true,lU _ hj,hwv];rw[pr,e2 Am hAm,List.map_append,w6]
end
theorem Fa {P:Nat→Prop}:∀{B:Nat},(∃k,k≤B∧¬P k)→∃K,K≤B∧¬P K∧∀i,i<K→P i
 |B,h=>by
  have key:∀k,¬P k→∃K,K≤k∧¬P K∧∀i,i<K→P i:=by
   intro k;induction k using Nat.strongRecOn with
   |ind k ih=>
    intro hk;by_cases h:∀i,i<k→P i
    ·exact⟨k,hE _,hk,h⟩
    ·have⟨i,hi⟩:∃i,¬(i<k→P i):=o0 fun hc=>h fun i=>o0 fun hc'=>hc ⟨i,hc'⟩;have hik:i<k:=o0 fun hc=>hi fun h=>absurd h hc;obtain⟨K,h1,h2,h3⟩:=ih i hik fun hp=>hi fun _=>hp;exact⟨K,by omega,h2,h3⟩
  obtain⟨k,hk,hp⟩:=h;obtain⟨K,h1,h2,h3⟩:=key k hp;exact⟨K,by omega,h2,h3⟩
theorem wa (a b:Int):fA (fA a+fA b)=fA (a+b):=by
 simp only[fA,IntKind.wrap];simp[IntKind.bits,IntKind.signed];omega
theorem Cf {A:Nat→Nat→Int}(hp:PD 8 (mr A)){x:Nat→Int}(h:Qf A x≤4)(z:W6):z∈[xs x]↔wz A 0 x z:=by
 have hq:Qf A (zf (xs x))=Qf A x:=by rw[←nV,←nV];exact kM hp fun t _ h8=>kx x h8
 constructor
 ·intro hz;obtain rfl:=r6.1 hz;exact⟨aL x,fun t _ h8=>kx x h8,by rw[hq];exact h⟩
 ·rintro⟨h1,h2,h3⟩;rw[r6,←rv h1];exact pq fun t ht=>h2 t (u2 t) ht
section
variable {N:Nat}(hN:1000000001<N)(hN2:2^224<N){A U:Nat→Nat→Int}(hW:WA A){rows:W5}(hr:Sq 8 rows)(hrU:∀i k,i<8→k<8→av rows i k=U i k)(hY:∀x:Nat→Int,Qf A x≤4→∀t,t<8→Bd 60 (bI 8 fun i=>x i*U i t)){Pl:W0}{pil:W7}(hL:Mx rq 8 (fun _=>8) Pl pil (wX A)){Am:vF}(hcap8:Am.cap=8192)(g:GT){R:Type}
section
include hN hN2 hW
theorem H6 {j:Nat}(hj:j<8)(hg:WK N A U rows pil Pl g j){x:Nat→Int}(hx:Eu (j+1) x){mid:Int}(hm1:(mid:Rat)-1/2≤ -cc A j x 8)(hm2: -cc A j x 8≤(mid:Rat)+1/2){pre:W4}(hcap:Iq (wz A (j+1) x) pre):
  ∃(Z:W5) (x2:Nat→Int),Z.Nodup∧(∀z,z∈Z↔wz A (j+1) x z)∧(∀t,j<t→t<8→x2 t=x t)∧∀(Am:vF) (_:Am.cap=8192) (k6:W5→Int→W6→vF→W4→W7→W0→W1→Option R) (kr:Bool→W5→Int→W6→vF→W4→W7→W0→W1→Option R),
   Q111.l22 g N N (j:Int) mid 0 rows 4 (xs x) Am pre pil Pl (row rq 8 (dg A)) (qs (4-hi A (j+1) x)) (qn (4-hi A (j+1) x)) (ql (4-hi A (j+1) x)) (qs (cc A j x 8)) (qn (cc A j x 8)) (ql (cc A j x 8)) k6 kr=k6 rows 4 (xs x2) Am (pre++Z.map (vZ A U)) pil Pl (row rq 8 (dg A)):=by
 have hXX:=dT hj;have hX17:(131072:Int)≤Xb (j+1):=hXX.2.1;have hX36:Xb j≤68719476736:=hXX.2.2;have hmid: -(4*Xb (j+1)+1)≤mid∧mid≤4*Xb (j+1)+1:=by
  have hc:=F3 hW hj hx 8 (hE 8);rw[show(((8:Nat):Nat):Rat)=8 from rfl]at hc;have e4:((4*Xb (j+1)+1:Int):Rat)=4*(Xb (j+1):Rat)+1:=by rw[n3,xK];rfl
  constructor
  ·refine hG.1 ?_;rw[o3,e4];grind
  ·refine hG.1 ?_;rw[e4];grind
 have c1:∀i:Nat,((mid+(i:Int)*1:Int):Rat)=(mid:Rat)+(i:Rat):=fun i=>by rw[Int.mul_one,n3,j4]
 have c2:∀i:Nat,((mid-1+(i:Int)* -1:Int):Rat)=(mid:Rat)-1- (i:Rat):=fun i=>by rw[show mid-1+(i:Int)* -1=mid-1- (i:Int) by omega,p0,p0,j4];rfl
 have ek:(((32769:Nat):Nat):Rat)=32769:=rfl;obtain⟨K1,k1le,k1n,k1a⟩:=Fa (P:=fun i=>wj A j x (mid+(i:Int)*1)) (B:=32769) ⟨32769,hE _,fun h=>by
  have:=gg hW hj h;rw[c1,ek]at this;have e15:(2:Rat)^15=32768:=by decide+kernel
  grind⟩
 obtain⟨K2,k2le,k2n,k2a⟩:=Fa (P:=fun i=>wj A j x (mid-1+(i:Int)* -1)) (B:=32769) ⟨32769,hE _,fun h=>by
  have:=gg hW hj h;rw[c2,ek]at this;have e15:(2:Rat)^15=32768:=by decide+kernel
  grind⟩
 have memU:∀z,aw A j x mid 1 K1 z→wz A (j+1) x z:=fun z ⟨z1,z2,_,z4⟩=>⟨z1,fun t ht h8=>z2 t (by omega) h8,z4⟩
 have memD:∀z,aw A j x (mid-1) (-1) K2 z→wz A (j+1) x z:=fun z ⟨z1,z2,_,z4⟩=>⟨z1,fun t ht h8=>z2 t (by omega) h8,z4⟩
 obtain⟨N3,hN3⟩:∃q,N=q+3:=⟨N-3,by omega⟩
 obtain⟨Z1,x1,n1,m1,a1,e1⟩:=Fg hN hN2 hW g (R:=R) hj hg hx (w:=1) (Or.inl rfl) mid 0 K1 mid N (wq x j mid) pre (fun t ht _=>qY _ _ (by omega)) (pY _ _ _) (fun i hi=>by rw[Int.mul_one];omega) k1a k1n (by omega) (fun Z hZ hm=>hcap Z hZ fun z hz=>memU z (hm z hz));have hdis:∀z,z∈Z1→∀y,aw A j x (mid-1) (-1) K2 y→z≠y:=fun z hz y hy hzy=>by subst hzy;obtain⟨i,_,q1⟩:=((m1 z).1 hz).2.2.1;obtain⟨i',_,q2⟩:=hy.2.2.1;omega
 obtain⟨Z2,x2,n2,m2,a2,e2⟩:=Fg hN hN2 hW g (R:=R) hj hg hx (w:= -1) (Or.inr rfl) mid 1 K2 (mid-1) N (wq x1 j (mid-1)) (pre++Z1.map (vZ A U)) (fun t ht h8=>by rw[qY _ _ (by omega),a1 t ht h8]) (pY _ _ _) (fun i hi=>by omega) k2a k2n (by omega) (fun Z hZ hm=>by
  have:=hcap (Z1++Z) (w4.2 ⟨n1,hZ,fun z hz y hy=>hdis z hz y (hm y hy)⟩) fun z hz=>by
   rcases r5.1 hz with hz|hz
   ·exact memU z ((m1 z).1 hz)
   ·exact memD z (hm z hz)
  rw[o2]at this;rw[o2,q0];omega)
 refine⟨Z1++Z2,x2,w4.2 ⟨n1,n2,fun z hz y hy=>hdis z hz y ((m2 y).1 hy)⟩,fun z=>?_,a2,?_⟩
 ·rw[r5];constructor
  ·rintro(hz|hz)
   ·exact memU z ((m1 z).1 hz)
   ·exact memD z ((m2 z).1 hz)
  ·rintro⟨z1,z2,z3⟩;have had:wj A j x (zf z j):=by
    unfold wj;have h1:=Ht hW.pd (s:=j) (zf z);rw[aW hj,kM hW.pd (s:=j+1) (y:=x) fun t ht h8=>z2 t (by omega) h8]at h1;have h2:St A j (wq x j (zf z j))=St A j (zf z):=lR hW.pd hj fun t ht h8=>by
     by_cases e:t=j
     ·rw[e,pY]
     ·rw[qY _ _ e,z2 t (by omega) h8]
    rw[h2];grind
   by_cases hv:mid≤zf z j
   ·refine Or.inl ((m1 z).2 ⟨z1,fun t ht h8=>z2 t (by omega) h8,⟨(zf z j-mid).toNat,?_,by omega⟩,z3⟩);refine o0 fun hc=>k1n ?_;refine gf hW hj had ?_;rw[c1];have q1:(mid:Rat)+(K1:Rat)≤(zf z j:Rat):=by
     rw[←c1];exact hG.2 (by omega)
    have q2:(0:Rat)≤(K1:Rat):=by rw[show(0:Rat)=((0:Nat):Rat)from rfl];exact j5.2 (u2 _)
    by_cases e:zf z j=mid+(K1:Int)*1
    ·rw[e,c1];exact c8
    ·have q3:(mid:Rat)+(K1:Rat)+1≤(zf z j:Rat):=by
      have:=hG.2 (show mid+(K1:Int)*1+1≤zf z j by omega);rw[n3,c1]at this;exact this
     have q4:0≤((zf z j:Rat)- ((mid:Rat)+(K1:Rat)))*((zf z j:Rat)+((mid:Rat)+(K1:Rat))+2*cc A j x 8):=u0 (by grind) (by grind);grind
   ·refine Or.inr ((m2 z).2 ⟨z1,fun t ht h8=>z2 t (by omega) h8,⟨(mid-1-zf z j).toNat,?_,by omega⟩,z3⟩);refine o0 fun hc=>k2n ?_;refine gf hW hj had ?_;rw[c2];have q1:(zf z j:Rat)≤(mid:Rat)-1- (K2:Rat):=by
     rw[←c2];exact hG.2 (by omega)
    have q2:(0:Rat)≤(K2:Rat):=by rw[show(0:Rat)=((0:Nat):Rat)from rfl];exact j5.2 (u2 _)
    have q4:0≤(((mid:Rat)-1- (K2:Rat))- (zf z j:Rat))*(-((zf z j:Rat)+((mid:Rat)-1- (K2:Rat))+2*cc A j x 8)):=u0 (by grind) (by grind);grind
 ·intro Am hAm k6 kr;have d8:decide ((j:Int)<8)=true:=decide_eq_true (by omega);have w0:fA (mid+fA (Int.tdiv (fA (1-1)) 2))=mid:=by
   rw[show fA (1-1)=0 from by decide,show Int.tdiv 0 2=0 from rfl,show fA 0=0 from by decide,Int.add_zero,aB (by omega) (by omega)]
  have w1:fA (mid+fA (Int.tdiv (fA (-1-1)) 2))=mid-1:=by rw[show fA (-1-1)= -2 from by decide,show Int.tdiv (-2) 2= -1 from by decide,show fA (-1)= -1 from by decide,aB (by omega) (by omega)];omega
  have l0:([1,(-1)]:W6).getD (0:Int).toNat 0=1:=rfl;have l1:([1,(-1)]:W6).getD (1:Int).toNat 0= -1:=rfl;have t0:decide ((0:Int)<2)=true:=rfl;have t1:decide ((1:Int)<2)=true:=rfl;have t2:decide ((2:Int)<2)=false:=rfl;have t3:decide ((0:Int)≤0)=true:=rfl;have t4:decide ((0:Int)≤1)=true:=rfl;have s1:fA (0+1)=1:=by decide
  have s2:fA (1+1)=2:=by decide
  rw[show Q111.l22 (R:=R) g N N=Q111.l22 g N (N3+2+1) by rw[hN3],Q111.l22];simp only[t0,t3,hV,cond_true,aL,iC,zE,aE,show((8:Nat):Int)=8 from rfl,d8,l0,w0];rw[pr,e1 Am hAm];simp only[s1];rw[Q111.l22];simp only[t1,t4,hV,cond_true,aL,iC,zE,aE,show((8:Nat):Int)=8 from rfl,d8,l1,w1];rw[pr,e2 Am hAm];simp only[s2];rw[Q111.l22];simp only[t2,cond_false,List.map_append,w6]
end
section
include hN hW hL
theorem Ie {j:Nat}(hj:j<8){x:Nat→Int}(hb:∀t,j<t→t<8→Bd 40 (x t))(pre:W4)(b:Bool)(l1 l2:W6)(k4:Int→W5→Int→W6→vF→W4→W7→W0→W1→Bool→W6→W6→Bool→W6→W6→Option R):∀(k i n:Nat),i+k=8→j<i→k<n→
  Q111.l16 g N n (j:Int) (i:Int) rows 4 (xs x) Am pre pil Pl (row rq 8 (dg A)) b l1 l2 (qs (cc A j x i)) (qn (cc A j x i)) (ql (cc A j x i)) k4=k4 (j:Int) rows 4 (xs x) Am pre pil Pl (row rq 8 (dg A)) b l1 l2 (qs (cc A j x 8)) (qn (cc A j x 8)) (ql (cc A j x 8)):=by
 intro k;induction k with
 |zero=>
  intro i n hi hji hn;obtain⟨n,rfl⟩:∃q,n=q+1:=⟨n-1,by omega⟩
  obtain rfl:i=8:=by omega
  rw[Q111.l16,aL,lD,decide_eq_false (by omega)];rfl
 |succ k ih=>
  intro i n hi hji hn;obtain⟨n,rfl⟩:∃q,n=q+1:=⟨n-1,by omega⟩
  have hi8:i<8:=by omega
  have d1:decide (i<8)=true:=decide_eq_true hi8;have d2:decide (j<8)=true:=decide_eq_true hj;have g1:=hL.get (i:=i) (j:=j) hi8 hj (false,([]:W6),([]:W6));have b1:=hb i hji hi8;have e1:=jR hN (b1.mono (show 40≤63 by omega));have f1:Fq 115 (x i:Rat):=(na b1 (by omega)).mono (by omega);have f2:Fq 115 (wX A i j):=(zh hW.pd hW.en hW.sym hji hi8).mono (by omega);have e2:=oM hN f1 f2 (by omega);have f3:Fq 230 (cc A j x i):=(zb hW.pd hW.en hW.sym hj hb (by omega)).mono (by omega);have e3:=q9 hN f3 (f1.mul f2) (by omega);have ec:cc A j x i+(x i:Rat)*wX A i j=cc A j x (i+1):=by unfold cc;rw[iB,if_pos hji]
  rw[ec]at e3;rw[Q111.l16];simp only[aL,hL.pl,hL.len hi8,lD,iC,zE,aE,d1,d2,cond_true,lU x hi8,g1,E4,E5,E6,e1,e2,e3,pC,qB (show i<1000000 by omega)];exact ih (i+1) n (by omega) (by omega) (by omega)
end
section
include hr hrU
theorem Hw {i:Nat}(hi:i<8)(x:Nat→Int)(x28 x29:Int)(pre:W4)(dl:W1)(b:Bool)(l1 l2:W6)(k2:Int→Int→W5→Int→W6→vF→W4→W7→W0→W1→Bool→W6→W6→W6→Option R):∀(k t n:Nat),t+k=8→k<n→
  Q111.l7 g N n (i:Int) x28 x29 8 (t:Int) rows 4 (xs x) Am pre pil Pl dl b l1 l2 (row yH 8 fun s=>fA (bI (if s<t then i+1 else i) fun a=>x a*U a s)) k2=k2 x28 x29 rows 4 (xs x) Am pre pil Pl dl b l1 l2 (row yH 8 fun s=>fA (bI (i+1) fun a=>x a*U a s)):=by
 intro k;induction k with
 |zero=>
  intro t n ht hn;obtain⟨n,rfl⟩:∃q,n=q+1:=⟨n-1,by omega⟩
  obtain rfl:t=8:=by omega
  rw[Q111.l7,decide_eq_false (by omega),mB yH (g:=fun s=>fA (bI (i+1) fun a=>x a*U a s)) fun s hs=>by rw[if_pos hs]];rfl
 |succ k ih=>
  intro t n ht hn;obtain⟨n,rfl⟩:∃q,n=q+1:=⟨n-1,by omega⟩
  have ht8:t<8:=by omega
  have d0:decide ((t:Int)<8)=true:=decide_eq_true (by omega);have d1:decide (t<8)=true:=decide_eq_true ht8;have d2:decide (i<8)=true:=decide_eq_true hi;have eg:(row yH 8 fun s=>fA (bI (if s<t then i+1 else i) fun a=>x a*U a s)).getD t 0=fA (bI i fun a=>x a*U a t):=by rw[wE yH _ _ ht8,if_neg (by omega)];rfl
  have eu:(rows.getD i []).getD t 0=U i t:=hrU i t hi ht8;have ih':=ih (t+1) n (by omega) (by omega);rw[Q111.l7];simp only[d0,bC,aL,hr.1,hr.2 i hi,lD,iC,zE,aE,d1,d2,cond_true,lU x hi,eg,eu,wa,qB (show t<1000000 by omega)];rw[←ih'];congr 1;have es:=lG yH (m:=8) (j:=t) (fun s=>fA (bI (if s<t then i+1 else i) fun a=>x a*U a s)) (fA (bI i (fun a=>x a*U a t)+x i*U i t));rw[show(row yH 8 fun s=>fA (bI (if s<t then i+1 else i) fun a=>x a*U a s)).set t (fA (bI i (fun a=>x a*U a t)+x i*U i t))=_ from es];refine mB yH fun s hs=>?_;by_cases e:s=t
  ·subst e;rw[if_pos rfl,if_pos (by omega)];rfl
  ·rw[if_neg e];by_cases e':s<t
   ·rw[if_pos e',if_pos (by omega)]
   ·rw[if_neg e',if_neg (by omega)]
theorem Hv (hN:1000000001<N)(x:Nat→Int)(pre:W4)(dl:W1)(b:Bool)(l1 l2:W6)(k0:W5→Int→W6→vF→W4→W7→W0→W1→Bool→W6→W6→W6→Option R):∀(k i n:Nat),i+k=8→k<n→
  Q111.l4 g N n 8 (i:Int) rows 4 (xs x) Am pre pil Pl dl b l1 l2 (row yH 8 fun s=>fA (bI i fun a=>x a*U a s)) k0=k0 rows 4 (xs x) Am pre pil Pl dl b l1 l2 (row yH 8 fun s=>fA (bI 8 fun a=>x a*U a s)):=by
 intro k;induction k with
 |zero=>
  intro i n hi hn;obtain⟨n,rfl⟩:∃q,n=q+1:=⟨n-1,by omega⟩
  obtain rfl:i=8:=by omega
  rw[Q111.l4,decide_eq_false (by omega)];rfl
 |succ k ih=>
  intro i n hi hn;obtain⟨n,rfl⟩:∃q,n=q+1:=⟨n-1,by omega⟩
  have hi8:i<8:=by omega
  have e7:=fun k2=>Hw (N:=N) hr hrU g (R:=R) (Am:=Am) (pil:=pil) (Pl:=Pl) hi8 x 8 (i:Int) pre dl b l1 l2 k2 8 0 N (by omega) (by omega);simp only[hJ]at e7;rw[Q111.l4,decide_eq_true (show(i:Int)<8 by omega)];simp only[cond_true,bC,show((8:Nat):Int)=8 from rfl];rw[mB yH (g:=fun s=>fA (bI (if s<0 then i+1 else i) fun a=>x a*U a s)) fun s _=>by rw[if_neg (by omega)],e7];simp only[qB (show i<1000000 by omega)];exact ih (i+1) n (by omega) (by omega)
end
end
open Go.Proofs.YtijigofaaefldaaGreat.Lat (sm iB jD lE wC zA tH ee Wh tE el dp PD Rw Bg yO ke Lt gr ip yQ mJ yC gv pp)
theorem Ez {A:Nat→Nat→Int}(hp:PD 8 (mr A))(x:Nat→Int):Qf A (zf (xs x))=Qf A x:=by
 rw[←nV,←nV];exact kM hp fun t _ h8=>kx x h8
theorem gN {f g:Nat→Int}:∀{n:Nat},(∀i,i<n→f i=g i)→bI n f=bI n g
 |0,_=>rfl
 |n+1,h=>by show bI n f+f n=bI n g+g n;rw[gN fun i hi=>h i (by omega),h n (by omega)]
section
variable {N:Nat}(hN:1000000001<N)(hN2:2^224<N){A U:Nat→Nat→Int}(hW:WA A){rows:W5}(hr:Sq 8 rows)(hrU:∀i k,i<8→k<8→av rows i k=U i k)(hY:∀x:Nat→Int,Qf A x≤4→∀t,t<8→Bd 60 (bI 8 fun i=>x i*U i t)){Pl:W0}{pil:W7}(hL:Mx rq 8 (fun _=>8) Pl pil (wX A))
include hN hN2 hW hr hrU hY hL
omit hN2 hL in
theorem Ej (g:GT):WK N A U rows pil Pl (fun a1 a2 a3 a4 a5 a6 a7 a8 a9 a10 a11 a12=>Q111.step g N a1 a2 a3 a4 a5 a6 a7 a8 a9 a10 a11 a12) 0:=by
 intro x pre hx hle hcap;have hq:Qf A x≤4:=by rw[←nV];exact hle
 refine⟨[xs x],x,by simp,fun z=>Cf hW.pd hq z,fun t _ _=>rfl,fun Am hAm=>?_⟩;have hpre:pre.length<8192:=by have:=hcap [xs x] (by simp) fun z hz=>(Cf hW.pd hq z).1 hz;simp at this;omega
 have e4:=fun(k0:W5→Int→W6→vF→W4→W7→W0→W1→Bool→W6→W6→W6→Option (Bool×W5×Int×W6×vF×W4×W7×W0×W1))=>Hv (N:=N) hr hrU g hN (Am:=Am) (pil:=pil) (Pl:=Pl) x pre (row rq 8 (dg A)) (qs (4-hi A 0 x)) (qn (4-hi A 0 x)) (ql (4-hi A 0 x)) k0 8 0 N (by omega) (by omega);simp only[hJ]at e4;have hfq:Fq (kf 0) (4-hi A 0 x):=ck hW 8 0 (by omega) (nr (by omega) hx);have hkf:kf 0≤1803:=by unfold kf;omega
 have e5:=eN hN hfq (by omega);have hqn:0≤Qf A x:=by rw[←nV];exact vT hW 0 x
 have hf0:0≤(4-hi A 0 x).floor:=by refine Rat.le_floor_iff.2 ?_;rw[nV,show(((0:Int):Int):Rat)=0 from rfl];grind
 have hf4:(4-hi A 0 x).floor≤4:=by
  have h1:(4-hi A 0 x).floor<5:=by refine Rat.floor_lt_iff.2 ?_;rw[nV,show(((5:Int):Int):Rat)=5 from rfl];grind
  omega
 have e6:=fw (N:=N) (jM hfq) (show kf 0≤4096 by omega);rw[if_pos ⟨by omega,by omega⟩]at e6;have hbl:(Nat.blt pre.length 8192)=true:=by rw[Nat.blt_eq];exact hpre
 have hfit:(row yH 8 fun s=>fA (bI 8 fun a=>x a*U a s))=yl U x:=mB yH fun t ht=>by have:=(hY x hq t ht).i64 (show 60≤63 by omega);exact aB this.1 this.2
 show Q111.step g N _ _ _ _ _ _ _ _ _ _ _ _=_;unfold Q111.step;rw[decide_eq_true (show((0:Nat):Int)-1<0 by omega)];simp only[cond_true,aL,tD,iC,eQ (show 8≤1000 by omega),aE,dC (show 8≤1000 by omega) (show 8≤1000 by omega),hV];rw[show hR 8 (0:Int)=row yH 8 (fun s=>fA (bI 0 fun a=>x a*U a s))from nH yH 8 0,show((8:Nat):Int)=8 from rfl,e4];simp only[e5,pC,e6,bC,hAm,hbl,show Nat.blt 0 8=true from rfl,show Nat.blt 8 1000=true from rfl,hV,cond_true];rw[hfit,aB (n:=4- (4-hi A 0 x).floor) (by omega) (by omega)];have eo:vZ A U (xs x)=(yl U x,4- (4-hi A 0 x).floor):=by unfold vZ Qn;rw[Ez hW.pd,nV];rw[show yl U (zf (xs x))=yl U x from mB yH fun k _=>gN fun i hi=>by rw[kx x hi]]
 rw[w7,List.map_nil,eo]
omit hr hrU hY in
theorem Ek (g:GT){j:Nat}(hj:j<8)(hg:WK N A U rows pil Pl g j):WK N A U rows pil Pl (fun a1 a2 a3 a4 a5 a6 a7 a8 a9 a10 a11 a12=>Q111.step g N a1 a2 a3 a4 a5 a6 a7 a8 a9 a10 a11 a12) (j+1):=by
 intro x pre hx hle hcap;have hb:∀t,j<t→t<8→Bd 40 (x t):=fun t ht h8=>nr (by omega) hx t (by omega) h8;have hfc:Fq 115 (cc A j x 8):=zb hW.pd hW.en hW.sym hj hb (hE 8);have e1:=vg (N:=N) hfc (show 115≤4096 by omega);obtain⟨mid,r1,r2,r3,r4⟩:=og hN hfc.neg (show 115≤4095 by omega);obtain⟨Z,x2,n1,m1,a1,w1⟩:=H6 hN hN2 hW g (R:=Bool×W5×Int×W6×vF×W4×W7×W0×W1) hj hg hx r3 r4 hcap;refine⟨Z,x2,n1,m1,fun t ht h8=>a1 t (by omega) h8,fun Am hAm=>?_⟩;have hmid: -9223372036854775808≤mid∧mid<9223372036854775808:=by
  have hXX:=dT hj;have hX17:(131072:Int)≤Xb (j+1):=hXX.2.1;have hX36:Xb j≤68719476736:=hXX.2.2;have hc:=F3 hW hj hx 8 (hE 8);rw[show(((8:Nat):Nat):Rat)=8 from rfl]at hc;have e4:((4*Xb (j+1)+1:Int):Rat)=4*(Xb (j+1):Rat)+1:=by rw[n3,xK];rfl
  have q1: -(4*Xb (j+1)+1)≤mid:=by refine hG.1 ?_;rw[o3,e4];grind
  have q2:mid≤4*Xb (j+1)+1:=by refine hG.1 ?_;rw[e4];grind
  omega
 have e2:=fw (N:=N) r2 (show 115+1≤4096 by omega);rw[if_pos hmid]at e2;have e16:=fun(k4:Int→W5→Int→W6→vF→W4→W7→W0→W1→Bool→W6→W6→Bool→W6→W6→Option (Bool×W5×Int×W6×vF×W4×W7×W0×W1))=>Ie hN hW hL g (rows:=rows) (Am:=Am) hj hb pre (qs (4-hi A (j+1) x)) (qn (4-hi A (j+1) x)) (ql (4-hi A (j+1) x)) k4 (8- (j+1)) (j+1) N (by omega) (by omega) (by omega);have ez:cc A j x (j+1)=0:=wC fun t ht=>if_neg (by omega);have z0:=E3;unfold rq at z0;simp only[Prod.mk.injEq]at z0;rw[ez,z0.1,z0.2.1,z0.2.2]at e16;show Q111.step g N _ _ _ _ _ _ _ _ _ _ _ _=_;unfold Q111.step;rw[show((j+1:Nat):Int)-1=(j:Int) by omega,decide_eq_false (show ¬(j:Int)<0 by omega)];simp only[cond_false,qB (show j<1000000 by omega),e16,e1,r1,e2,pC];rw[w1 Am hAm]
theorem H9:∀s,s≤8→∀n,s<n→WK N A U rows pil Pl (fun a1 a2 a3 a4 a5 a6 a7 a8 a9 a10 a11 a12=>Q111.g N n a1 a2 a3 a4 a5 a6 a7 a8 a9 a10 a11 a12) s:=by
 intro s;induction s with
 |zero=>
  intro _ n hn;obtain⟨n,rfl⟩:∃q,n=q+1:=⟨n-1,by omega⟩
  exact Ej hN hW hr hrU hY (fun a1 a2 a3 a4 a5 a6 a7 a8 a9 a10 a11 a12=>Q111.g N n a1 a2 a3 a4 a5 a6 a7 a8 a9 a10 a11 a12)
 |succ s ih=>
  intro hs n hn;obtain⟨n,rfl⟩:∃q,n=q+1:=⟨n-1,by omega⟩
  exact Ek hN hN2 hW hL (fun a1 a2 a3 a4 a5 a6 a7 a8 a9 a10 a11 a12=>Q111.g N n a1 a2 a3 a4 a5 a6 a7 a8 a9 a10 a11 a12) (by omega) (ih (by omega) n (by omega))
end
theorem Fo {a A U:Nat→Nat→Int}{C:Rat}(h:LI a A U 8 8 C):WA A:=by
 refine⟨h.sym,h.pd,fun i j hi hj=>dU h hi hj,fun i j hi hj=>?_,fun j hj=>?_⟩
 ·have h1:=h.sr i hi j hj;have h0:=h.pd j (by omega);unfold wX Rw at*;rw[if_pos hj];constructor
  ·refine Rat.le_of_mul_le_mul_right (c:=el (mr A) j j j) ?_ h0;have:el (mr A) j i j/el (mr A) j j j*el (mr A) j j j=el (mr A) j i j:=by grind
   rw[this];grind
  ·exact Lat.ml h0 h1.2
 ·have h1:=Lat.F6 h.pd (fun r hr=>h.wh hr) (B:=16) (fun t ht=>Ff h ht) (by decide+kernel) hj;have h2:(16:Rat)^j≤2^28:=by
   have:j=0∨j=1∨j=2∨j=3∨j=4∨j=5∨j=6∨j=7:=by omega
   rcases this with rfl|rfl|rfl|rfl|rfl|rfl|rfl|rfl<;>decide+kernel
  exact hT h1 (hK h2 (b0 (h.pd j hj)))
section
variable {a A U:Nat→Nat→Int}{C:Rat}(h:LI a A U 8 8 C)(ha:H0 a)
include h
theorem xa (x:Nat→Int):Qf A x=ip (mr a) 8 (fun t=>((bI 8 fun i=>x i*U i t:Int):Rat)) (fun t=>((bI 8 fun i=>x i*U i t:Int):Rat)):=by
 have e:∀t,((bI 8 fun i=>x i*U i t:Int):Rat)=sm 8 fun i=>(x i:Rat)*mr U i t:=fun t=>by rw[xO];exact zA fun i _=>by rw[xK];rfl
 rw[tM h.sym h.pd,yC (u:=fun t=>sm 8 fun i=>(x i:Rat)*mr U i t) (v:=fun t=>sm 8 fun i=>(x i:Rat)*mr U i t) (fun t _=>e t) (fun t _=>e t),yQ];refine zA fun i hi=>?_;have hsa:Lat.qQ (mr a)∨True:=Or.inr trivial;have e2:ip (mr a) 8 (mr U i) (fun t=>sm 8 fun i=>(x i:Rat)*mr U i t)=sm 8 fun b=>(x b:Rat)*mr A i b:=by
  have key:∀n,n≤8→ip (mr a) 8 (mr U i) (fun t=>sm n fun i=>(x i:Rat)*mr U i t)=sm n fun b=>(x b:Rat)*mr A i b:=by
   intro n;induction n with
   |zero=>intro _;exact wC fun p _=>wC fun q _=>by show mr U i p*(0:Rat)*mr a p q=0;grind
   |succ n ih=>intro hn;have h1:=Lat.tP (mr a) 8 (fun t=>sm n fun i=>(x i:Rat)*mr U i t) (mr U n) (mr U i) (-(x n:Rat));rw[yC (u:=mr U i) (v:=fun t=>(sm n fun i=>(x i:Rat)*mr U i t)- -(x n:Rat)*mr U n t) (fun _ _=>rfl) (fun t _=>by rw[iB];grind),h1,ih (by omega),iB,h.eq i n hi (by omega)];show _=_+(x n:Rat)*ip (mr a) 8 (mr U i) (mr U n);grind
  exact key 8 (hE 8)
 rw[e2,←tH];exact zA fun b _=>by grind
include ha
theorem Ha {x:Nat→Int}(hq:Qf A x≤4){t:Nat}(ht:t<8):Bd 60 (bI 8 fun i=>x i*U i t):=by
 have h1:=gv (B:=16384) (by decide+kernel) (7-t) t (mr a) (fun t=>((bI 8 fun i=>x i*U i t:Int):Rat)) (n:=8) (by omega) ha.sym ha.pd ha.dd (fun t ht=>hG.2 (ha.bd t t ht ht).2);have e:(sm 8 fun p=>sm 8 fun q=>((bI 8 fun i=>x i*U i p:Int):Rat)*((bI 8 fun i=>x i*U i q:Int):Rat)*mr a p q)=Qf A x:=(xa h x).symm;rw[e]at h1;have h3:=pR hq (show(0:Rat)≤16384^(8-1) by decide+kernel);exact qR (c:=2^50) (by decide+kernel) (hT h1 (hT h3 (by decide+kernel))) (by decide+kernel)
end
open Go.Proofs.YtijigofaaefldaaGreat.Lat (sm iB jD lE wC zA tH vL Bh Wh tE cO mE el dp PD Lt gr ip gS yC iS vx jg dc kU oO pS qP)
theorem qu (f g:Nat→Int):∀n,bI n (fun i=>f i-g i)=bI n f-bI n g
 |0=>rfl
 |n+1=>by show bI n (fun i=>f i-g i)+(f n-g n)=(bI n f+f n)- (bI n g+g n);rw[qu f g n];omega
theorem qt (f:Nat→Int):∀n,bI n (fun i=> -f i)= -bI n f
 |0=>rfl
 |n+1=>by show bI n (fun i=> -f i)+ -f n= -(bI n f+f n);rw[qt f n];omega
theorem jb:∀n,bI n (fun _=>0)=0
 |0=>rfl
 |n+1=>by show bI n (fun _=>0)+0=0;rw[jb n];rfl
theorem p8:∀{l:W6},(∃v,v∈l∧v≠0)→nB (l.map fun v=> -v)= !nB l
 | [],h=>by obtain⟨v,hv,_⟩:=h;cases hv
 |v::l,h=>by
  by_cases e:v=0
  ·subst e;have ih:=p8 (l:=l) (by
    obtain⟨u,hu,hne⟩:=h;rcases List.mem_cons.1 hu with e|hu
    ·exact absurd e hne
    ·exact⟨u,hu,hne⟩)
   simp only[w7,nB];rw[show((-0:Int) != 0)=false from rfl,show((0:Int) != 0)=false from rfl];exact ih
  ·have h1:((-v) != 0)=true:=bne_iff_ne.2 (by omega);have h2:(v != 0)=true:=bne_iff_ne.2 e;simp only[w7,nB,h1,h2,cond_true];by_cases hp:v>0
   ·rw[decide_eq_true hp,decide_eq_false (by omega)];rfl
   ·rw[decide_eq_false hp,decide_eq_true (by omega)];rfl
theorem mX:∀{l:W6},(∀v,v∈l→v=0)→nB l=false
 | [],_=>rfl
 |v::l,h=>by have e:=h v (by simp);subst e;show(bif ((0:Int) != 0)then _ else nB l)=false;exact mX fun u hu=>h u (by simp[hu])
section
variable {a A U:Nat→Nat→Int}{C:Rat}(h:LI a A U 8 8 C)(ha:H0 a)
include h
theorem w8 (z:Nat→Int):ip (mr a) 8 (vx (yl U z)) (vx (yl U z))=Qf A z:=by
 rw[xa h];exact yC (fun t ht=>by unfold vx yl;rw[wE yH _ _ ht];rfl) (fun t ht=>by unfold vx yl;rw[wE yH _ _ ht];rfl)
theorem Hb {x y:Nat→Int}(e:yl U x=yl U y):∀i,i<8→x i=y i:=by
 have hd:∀t,t<8→(bI 8 fun i=>(x i-y i)*U i t)=0:=fun t ht=>by
  have e1:=congrArg (fun l:W6=>l.getD t 0) e;have e2:(bI 8 fun i=>x i*U i t)=bI 8 fun i=>y i*U i t:=by have g1:(yl U x).getD t 0=bI 8 fun i=>x i*U i t:=wE yH _ _ ht;have g2:(yl U y).getD t 0=bI 8 fun i=>y i*U i t:=wE yH _ _ ht;rw[←g1,←g2];exact e1
  rw[gN (g:=fun i=>x i*U i t-y i*U i t) fun i _=>Int.sub_mul _ _ _,qu,e2];omega
 have hq:Qf A (fun i=>x i-y i)=0:=by rw[xa h,yC (u:=fun _=>0) (v:=fun _=>0) (fun t ht=>by rw[hd t ht];rfl) (fun t ht=>by rw[hd t ht];rfl),iS]
 rw[tM h.sym h.pd]at hq;intro i hi;have:=qP h.sym h.pd (fun i=>((x i-y i:Int):Rat)) hq i hi;have h0:x i-y i=0:=j3.1 this;omega
theorem En {y:W6}(hy:y.length=8):∃x:Nat→Int,yl U x=y:=by
 obtain⟨c,hc,e⟩:=h.lt.span (vx y) (fun t _=>tE _);refine⟨fun i=>(c i).num,?_⟩;refine Lat.C8 (n:=8) (bC _ _ _) hy fun t ht=>?_;rw[e t ht];unfold vx yl;rw[wE yH _ _ ht];show((bI 8 fun i=>(c i).num*U i t:Int):Rat)=_;rw[xO];exact zA fun i hi=>by rw[xK,Lat.H7 (hc i hi)];rfl
theorem Hm (x:Nat→Int):Wh (Qf A x):=by
 rw[tM h.sym h.pd];exact cO fun i _=>cO fun j _=>mE (mE (tE _) (tE _)) (tE _)
theorem tN (x:Nat→Int):((Qn A x:Int):Rat)=Qf A x:=by
 obtain⟨z,hz⟩:=Hm h x;unfold Qn;rw[hz,show(4:Rat)- (z:Rat)=((4-z:Int):Rat) by rw[p0];rfl,Rat.floor_intCast];congr 1;omega
theorem Fw (x:Nat→Int):Qf A (fun t=> -x t)=Qf A x:=by
 rw[tM h.sym h.pd,tM h.sym h.pd];refine zA fun i _=>zA fun j _=>?_;rw[o3,o3];grind
theorem Hc (x:Nat→Int):yl U (fun t=> -x t)=(yl U x).map fun v=> -v:=by
 have _:=h;refine k5 (by rw[q0,show(yl U x).length=8 from bC _ _ _,show(yl U fun t=> -x t).length=8 from bC _ _ _]) fun t h1 h2=>?_;have ht:t<8:=by rw[show(yl U fun t=> -x t).length=8 from bC _ _ _]at h1;exact h1
 have g1:(yl U fun t=> -x t).getD t 0=bI 8 fun i=> -x i*U i t:=wE yH _ _ ht;have g2:(yl U x).getD t 0=bI 8 fun i=>x i*U i t:=wE yH _ _ ht;rw[p7,←Lat.fS (d:=0) h1,g1,←Lat.fS (d:=0) (by rw[q0]at h2;exact h2),g2,←qt];exact gN fun i _=>Int.neg_mul _ _
include ha
variable (he:∀i,i<8→a i i%2=0)
include he
theorem Cp (x:Nat→Int):Qn A x%2=0:=by
 obtain⟨z,⟨w,hw⟩,e⟩:=gS (A:=mr a) (x:=vx (yl U x)) (d:=8) ha.sym (fun i j _ _=>lQ a i j) (fun i hi=>⟨((a i i/2:Int):Rat),tE _,by unfold mr;have:=he i hi;rw[show(2:Rat)=((2:Int):Rat)from rfl,←xK];congr 1;omega⟩) (fun t _=>tE _);rw[w8 h,←tN h,hw]at e;have e2:((Qn A x:Int):Rat)=((2*w:Int):Rat):=by rw[e,xK];rfl
 have:=j3.1 e2;omega
theorem sc (x:Nat→Int):0≤Qn A x:=by
 have _:=ha;have _:=he;have:(0:Rat)≤((Qn A x:Int):Rat):=by rw[tN h,←nV];exact vT (Fo h) 0 x
 exact hG.1 this
theorem Fb (x:Nat→Int):Qf A x≤4↔Qn A x=0∨Qn A x=2∨Qn A x=4:=by
 have h1:=Cp h ha he x;have h2:=sc h ha he x;rw[←tN h x,show(4:Rat)=((4:Int):Rat)from rfl,hG];omega
theorem jY {Z:W5}(hZ:Z.Nodup)(hl:∀z,z∈Z→z.length=8):(Z.map fun z=>yl U (zf z)).Nodup:=by
 have _:=ha;have _:=he;have:List.Pairwise (fun a b=>a∈Z∧b∈Z∧a≠b) Z:=(n5.2 fun{a b} hab=>⟨hab.subset (by simp),hab.subset (by simp),(n5.1 hZ) hab⟩)
 unfold List.Nodup;rw[List.pairwise_map];exact this.imp fun{p q} ⟨hp,hq,hne⟩ e=>hne (by rw[←rv (hl p hp),←rv (hl q hq)];exact pq fun t ht=>Hb h e t ht)
theorem gm:Iq (wz A 8 fun _=>0) []:=by
 intro Z hZ hm;have hlen:∀k:Int,∀z,z∈Z.filter (fun z=>decide (Qn A (zf z)=k))→z∈Z∧Qn A (zf z)=k:=fun k z hz=>by rw[o1]at hz;exact⟨hz.1,of_decide_eq_true hz.2⟩
 have hc:=fun k:Int=>oO (A:=mr a) ha.sym (fun i j _ _=>lQ a i j) (fun i hi=>⟨((a i i/2:Int):Rat),tE _,by unfold mr;have:=he i hi;rw[show(2:Rat)=((2:Int):Rat)from rfl,←xK];congr 1;omega⟩) ha.pd ha.dd (jY h ha he (hZ.filter fun z=>decide (Qn A (zf z)=k)) fun z hz=>(hm z (hlen k z hz).1).1);have c2:=(hc 2).2.2.1 fun y hy=>by rw[u3]at hy;obtain⟨z,hz,rfl⟩:=hy;exact⟨bC _ _ _,by rw[w8 h,←tN h,(hlen 2 z hz).2];rfl⟩
 have c4:=(hc 4).2.2.2 fun y hy=>by rw[u3]at hy;obtain⟨z,hz,rfl⟩:=hy;exact⟨bC _ _ _,by rw[w8 h,←tN h,(hlen 4 z hz).2];rfl⟩
 have c0:(Z.filter fun z=>decide (Qn A (zf z)=0)).length≤1:=by
  have:=pS (m:=[xs fun _=>0]) (hZ.filter fun z=>decide (Qn A (zf z)=0)) fun z hz=>by
   have hz':=hlen 0 z hz;have hq:Qf A (zf z)=0:=by rw[←tN h,hz'.2];rfl
   rw[tM h.sym h.pd]at hq;have hz0:=qP h.sym h.pd (fun i=>((zf z i:Int):Rat)) hq;rw[r6,←rv (hm z hz'.1).1];exact pq fun t ht=>j3.1 (hz0 t ht)
  simpa using this
 rw[q0]at c2 c4;have hsplit:∀l:W5,(∀z,z∈l→Qn A (zf z)=0∨Qn A (zf z)=2∨Qn A (zf z)=4)→l.length=(l.filter fun z=>decide (Qn A (zf z)=0)).length+(l.filter fun z=>decide (Qn A (zf z)=2)).length+(l.filter fun z=>decide (Qn A (zf z)=4)).length:=by
  intro l;induction l with
  |nil=>intro _;rfl
  |cons z l ih=>intro hl;have:=ih fun y hy=>hl y (by simp[hy]);simp only[List.filter_cons,List.length_cons];rcases hl z (by simp)with e|e|e<;>simp[e]<;>omega
 have:=hsplit Z fun z hz=>(Fb h ha he _).1 (hm z hz).2.2;simp only[List.length_nil];omega
variable {Z:W5}(hZ:Z.Nodup)(hm:∀z,z∈Z↔wz A 8 (fun _=>0) z)
include hZ hm
theorem Ch {z:W6}(hz:z∈Z):z.length=8:=by have _:=h;have _:=ha;have _:=he;have _:=hZ;exact((hm z).1 hz).1
theorem F2 {k:Int}(hk:k=2∨k=4)(y:W6):y∈(Z.filter fun z=>decide (Qn A (zf z)=k)).map (fun z=>yl U (zf z))↔y.length=8∧ip (mr a) 8 (vx y) (vx y)=(k:Rat):=by
 have _:=ha;have _:=he;have _:=hZ;rw[u3];constructor
 ·rintro⟨z,hz,rfl⟩;rw[o1]at hz;exact⟨bC _ _ _,by rw[w8 h,←tN h,of_decide_eq_true hz.2]⟩
 ·rintro⟨h1,h2⟩;obtain⟨x,hx⟩:=En h h1;have hq:Qf A x=(k:Rat):=by rw[←w8 h,hx,h2]
  have hq2:Qf A (zf (xs x))=(k:Rat):=by rw[Ez h.pd,hq]
  have hqn:Qn A (zf (xs x))=k:=j3.1 (by rw[tN h,hq2]);refine⟨xs x,o1.2 ⟨(hm _).2 ⟨aL x,fun t ht h8=>by omega,by rw[hq2];rcases hk with rfl|rfl<;>decide+kernel⟩,decide_eq_true hqn⟩,?_⟩;rw[←hx];exact mB yH fun t _=>gN fun i hi=>by rw[kx x hi]
theorem Hy:(Z.filter fun z=>decide (Qn A (zf z)=2)).length=240∧(Z.filter fun z=>decide (Qn A (zf z)=4)).length=2160:=by
 have hc:=fun k:Int=>oO (A:=mr a) ha.sym (fun i j _ _=>lQ a i j) (fun i hi=>⟨((a i i/2:Int):Rat),tE _,by unfold mr;have:=he i hi;rw[show(2:Rat)=((2:Int):Rat)from rfl,←xK];congr 1;omega⟩) ha.pd ha.dd (jY h ha he (hZ.filter fun z=>decide (Qn A (zf z)=k)) fun z hz=>Ch h ha he hZ hm (o1.1 hz).1);have c2:=(hc 2).1 fun y=>F2 h ha he hZ hm (Or.inl rfl) y;have c4:=(hc 4).2.1 fun y=>F2 h ha he hZ hm (Or.inr rfl) y;rw[q0]at c2 c4;exact⟨c2,c4⟩
theorem zp {k:Int}(hk:k=2∨k=4):2*(Z.filter fun z=>decide (Qn A (zf z)=k)&&nB (yl U (zf z))).length=(Z.filter fun z=>decide (Qn A (zf z)=k)).length:=by
 have hneg:∀z:W6,z.length=8→∀t,t<8→zf (z.map fun v=> -v) t= -zf z t:=fun z hz t ht=>by unfold zf;rw[Lat.fS (by rw[q0];omega),Lat.fS (by omega),p7]
 have hQ:∀z:W6,z.length=8→Qf A (zf (z.map fun v=> -v))=Qf A (zf z):=fun z hz=>by rw[←Fw h (zf z),←nV,←nV];exact kM h.pd fun t _ h8=>hneg z hz t h8
 have hQn:∀z:W6,z.length=8→Qn A (zf (z.map fun v=> -v))=Qn A (zf z):=fun z hz=>j3.1 (by rw[tN h,tN h,hQ z hz]);have hyl:∀z:W6,z.length=8→yl U (zf (z.map fun v=> -v))=(yl U (zf z)).map fun v=> -v:=fun z hz=>by rw[←Hc h];exact mB yH fun t _=>gN fun i hi=>by rw[hneg z hz i hi]
 have hnz:∀z:W6,Qn A (zf z)=k→∃v,v∈yl U (zf z)∧v≠0:=fun z hq=>o0 fun hc=>by
  have h0:∀v,v∈yl U (zf z)→v=0:=fun v hv=>o0 fun hne=>hc ⟨v,hv,hne⟩;have:Qf A (zf z)=0:=by
   rw[←w8 h,yC (u:=fun _=>0) (v:=fun _=>0),iS]
   ·intro t ht;unfold vx;have hl:t<(yl U (zf z)).length:=by rw[show(yl U (zf z)).length=8 from bC _ _ _];exact ht
    rw[Lat.fS hl,h0 _ (r7 hl)];rfl
   ·intro t ht;unfold vx;have hl:t<(yl U (zf z)).length:=by rw[show(yl U (zf z)).length=8 from bC _ _ _];exact ht
    rw[Lat.fS hl,h0 _ (r7 hl)];rfl
  rw[←tN h,hq]at this;rcases hk with rfl|rfl<;>exact absurd this (by decide+kernel)
 have hfn:∀z:W6,z.length=8→Qn A (zf z)=k→nB (yl U (zf (z.map fun v=> -v)))= !nB (yl U (zf z)):=fun z hz hq=>by rw[hyl z hz];exact p8 (hnz z hq)
 have hdd:∀z:W6,(z.map fun v=> -v).map (fun v=> -v)=z:=fun z=>by
  rw[List.map_map]
  conv=>rhs;rw[←List.map_id z]
  exact b8 fun v _=>by simp
 have hperm:((Z.filter fun z=>decide (Qn A (zf z)=k)&&nB (yl U (zf z))).map fun z=>z.map fun v=> -v).Perm (Z.filter fun z=>decide (Qn A (zf z)=k)&& !nB (yl U (zf z))):=by
  refine(List.perm_ext_iff_of_nodup ?_ (hZ.filter _)).2 fun y=>?_
  ·unfold List.Nodup;rw[List.pairwise_map];exact(hZ.filter _).imp fun{p q} hne e=>hne (by rw[←hdd p,e,hdd q])
  ·rw[u3,o1];constructor
   ·rintro⟨z,hz,rfl⟩;rw[o1]at hz;obtain⟨z1,z2⟩:=hz;rw[u1]at z2;have zl:=Ch h ha he hZ hm z1;have zq:=of_decide_eq_true z2.1;refine⟨(hm _).2 ⟨by rw[q0];exact zl,fun t ht h8=>by omega,by rw[hQ z zl];exact((hm z).1 z1).2.2⟩,?_⟩;rw[u1];exact⟨decide_eq_true (by rw[hQn z zl];exact zq),by rw[hfn z zl zq,z2.2];rfl⟩
   ·rintro⟨y1,y2⟩;rw[u1]at y2;have yl':=Ch h ha he hZ hm y1;have yq:=of_decide_eq_true y2.1;refine⟨y.map fun v=> -v,o1.2 ⟨(hm _).2 ⟨by rw[q0];exact yl',fun t ht h8=>by omega,by rw[hQ y yl'];exact((hm y).1 y1).2.2⟩,?_⟩,hdd y⟩;rw[u1];exact⟨decide_eq_true (by rw[hQn y yl'];exact yq),by rw[hfn y yl' yq];exact y2.2⟩
 have hl:=hperm.length_eq;rw[q0]at hl;have hs:∀l:W5,(l.filter fun z=>decide (Qn A (zf z)=k)).length=(l.filter fun z=>decide (Qn A (zf z)=k)&&nB (yl U (zf z))).length+(l.filter fun z=>decide (Qn A (zf z)=k)&& !nB (yl U (zf z))).length:=by
  intro l;induction l with
  |nil=>rfl
  |cons z l ih=>simp only[List.filter_cons];cases decide (Qn A (zf z)=k)<;>cases nB (yl U (zf z))<;>simp<;>omega
 rw[hs Z];omega
theorem Gm:(∀z,z∈Z→nB (yl U (zf z))=true→Qn A (zf z)=2∨Qn A (zf z)=4)∧(Z.filter fun z=>decide (Qn A (zf z)=2)&&nB (yl U (zf z))).length=120∧(Z.filter fun z=>decide (Qn A (zf z)=4)&&nB (yl U (zf z))).length=1080:=by
 have h1:=Hy h ha he hZ hm;have h2:=zp h ha he hZ hm (k:=2) (Or.inl rfl);have h4:=zp h ha he hZ hm (k:=4) (Or.inr rfl);refine⟨fun z hz hf=>?_,by omega,by omega⟩;rcases(Fb h ha he _).1 ((hm z).1 hz).2.2 with e|e
 ·exfalso;have hq:Qf A (zf z)=0:=by rw[←tN h,e];rfl
  rw[tM h.sym h.pd]at hq;have hz0:=qP h.sym h.pd (fun i=>((zf z i:Int):Rat)) hq;have:nB (yl U (zf z))=false:=mX fun v hv=>by unfold yl row at hv;rw[u3]at hv;obtain⟨t,ht,rfl⟩:=hv;show(bI 8 fun i=>zf z i*U i t)=0;rw[gN (g:=fun _=>0) fun i hi=>by rw[show zf z i=0 from j3.1 (hz0 i hi),Int.zero_mul],jb]
  rw[this]at hf;cases hf
 ·exact e
end
end Go.Proofs.YtijigofaaefldaaGreat.Law
namespace Go.Proofs.YtijigofaaefldaaGreat.NatL
open Go Go.Proofs.YtijigofaaefldaaGreat.Ev
theorem kn (s:ByteArray):∀(n i:Nat) (r:List UInt8),s.size-i=n→ByteArray.toList.loop s i r=r.reverse++s.data.toList.drop i:=by
 intro n;induction n with
 |zero=>
  intro i r h;unfold ByteArray.toList.loop;have hsz:s.data.toList.length=s.size:=by rw[c6];rfl
  rw[if_neg (by omega),List.drop_eq_nil_iff.mpr (by omega),List.append_nil]
 |succ n ih=>
  intro i r h;have hsz:s.data.toList.length=s.size:=by rw[c6];rfl
  unfold ByteArray.toList.loop;rw[if_pos (by omega),ih (i+1) _ (by omega),List.reverse_cons,w6,c7 (show i<s.data.toList.length by omega)];congr 1;simp only[List.singleton_append];congr 1;show s.data[i]! =_;rw[getElem!_pos s.data i (by rw[c6]at hsz;omega)];rfl
theorem ah (s:ByteArray):s.toList=s.data.toList:=by
 unfold ByteArray.toList;rw[kn s _ 0 [] rfl];simp
theorem Iy:K<10^1300:=by unfold K;decide+kernel
def rd (v:Nat):W6:=if h:v=0 then []else(48+(v%10:Nat))::rd (v/10)
termination_by v
decreasing_by omega
theorem cW:rd 0=[]:=by unfold rd;rfl
theorem du {v:Nat}(h:v≠0):rd v=(48+((v%10:Nat):Int))::rd (v/10):=by
 rw[rd];simp[h]
theorem Gs:∀(k v:Nat),v<10^k→(rd v).length≤k:=by
 intro k;induction k with
 |zero=>
   intro v h;have:v=0:=by omega
   subst this;rw[cW];simp
 |succ k ih=>
  intro v h;by_cases h0:v=0
  ·subst h0;rw[cW];simp
  ·rw[du h0,List.length_cons];have:=ih (v/10) (by rw[w5]at h;omega);omega
theorem vp (N:Nat){R:Type}(m:Nat)(l:W6)(w:Nat)(hw:m=0↔w=0)(K0:Nat→Nat→W6→W6→Option R):∀(n i:Nat) (r:Nat) (o:W6),i≤9→9-i<n→r<10^(9-i)→(o++rd (w*10^(9-i)+r)).length≤1000000→
  ∃o',o'++rd w=o++rd (w*10^(9-i)+r)∧Q10.l9 N n 0 m (r:Int) (i:Int) l o K0=K0 0 m l o':=by
 intro n;induction n with
 |zero=>intro i r o _ h;omega
 |succ n ih=>
  intro i r o hi hn hr hlen;rw[Q10.l9];by_cases hi9:i<9
  ·have e0:decide ((i:Int)<9)=true:=decide_eq_true (by omega);have e3:fA ((i:Int)+1)=((i+1:Nat):Int):=by rw[aB (by omega) (by omega)];omega
   obtain⟨k,hk⟩:∃k,9-i=k+1:=⟨8-i,by omega⟩
   have hk2:9- (i+1)=k:=by omega
   have hr9:r<1000000000:=by
    have:=Nat.pow_le_pow_right (show 0<10 by decide) (show 9-i≤9 by omega);have:(10:Nat)^9=1000000000:=by decide
    omega
   rw[hk]at hr hlen⊢;rw[w5]at hr;have etd:oE (Int.tdiv (r:Int) 10)=((r/10:Nat):Int):=by rw[fc (by omega),sN (by omega) (by omega)];omega
   have etm:fL (oE (48+(Int.tmod (r:Int) 10)))=48+((r%10:Nat):Int):=by rw[fe (by omega),sN (by omega) (by omega),Ce (by omega) (by omega)];omega
   have hmod:(w*10^(k+1)+r)%10=r%10:=by rw[w5,←Nat.mul_assoc,Nat.add_mod,Nat.mul_mod_left];simp
   have hdiv:(w*10^(k+1)+r)/10=w*10^k+r/10:=by rw[w5,←Nat.mul_assoc,Nat.add_comm,Nat.add_mul_div_right _ _ (by decide),Nat.add_comm]
   have step:w*10^(k+1)+r≠0→∃o',o'++rd w=o++rd (w*10^(k+1)+r)∧(bif lB (o.length+1) 1 then Q10.l9 N n 0 m (oE (Int.tdiv (r:Int) 10)) (fA ((i:Int)+1)) l (o++[fL (oE (48+(Int.tmod (r:Int) 10)))]) K0 else none)=K0 0 m l o':=by
    intro hne;have hrd:=du hne;rw[hmod,hdiv]at hrd;rw[hrd]at hlen⊢;have hroom:lB (o.length+1) 1=true:=by unfold lB;refine decide_eq_true ?_;simp at hlen;omega
    rw[hroom,etd,etm,e3];simp only[cond_true];have h10:r/10<10^k:=by omega
    obtain⟨o',g1,g2⟩:=ih (i+1) (r/10) (o++[48+((r%10:Nat):Int)]) (by omega) (by omega) (by rw[hk2];exact h10) (by rw[hk2];simpa using hlen);rw[hk2]at g1;exact⟨o',by rw[g1];simp,g2⟩
   rw[e0];simp only[cond_true];by_cases hm0:m=0
   ·have hw0:=hw.mp hm0;have c1:decide (((m:Nat):Int)>0)=false:=decide_eq_false (by omega);rw[c1];simp only[cond_false];by_cases hr0:r=0
    ·have c2:decide ((r:Int)>0)=false:=decide_eq_false (by omega);rw[c2];refine⟨o,?_,rfl⟩;subst hw0;subst hr0;simp
    ·have c2:decide ((r:Int)>0)=true:=decide_eq_true (by omega);rw[c2];simp only[cond_true];exact step (by omega)
   ·have c1:decide (((m:Nat):Int)>0)=true:=decide_eq_true (by omega);rw[c1];simp only[cond_true];refine step ?_;have hw1:w≠0:=fun h=>hm0 (hw.mpr h);have:=Nat.mul_pos (show 0<w by omega) (show 0<10^(k+1)from Nat.pow_pos (by decide));omega
  ·have e0:decide ((i:Int)<9)=false:=decide_eq_false (by omega);have hi':9-i=0:=by omega
   rw[e0];rw[hi']at hr⊢;have:r=0:=by omega
   subst this;exact⟨o,by simp,rfl⟩
theorem vo {N:Nat}(hN:1000000001<N){R:Type}(K0:W6→Option R):∀(n k m:Nat) (l o:W6) (w:Nat),qD (4294967296:Int) l→m≤l.length→l.length≤1000000000→nv (4294967296:Int) (l.take m)=w→(m=0↔w=0)→w<10^k→k<n→(o++rd w).length≤1000000→
  Q10.l5 N n 0 m l o K0=K0 (o++rd w):=by
 intro n;induction n with
 |zero=>intro k m l o w _ _ _ _ _ _ h;omega
 |succ n ih=>
  intro k m l o w hd hm hl hw hmw hwk hn hlen;rw[Q10.l5];by_cases hm0:m=0
  ·have c1:decide (((m:Nat):Int)>0)=false:=decide_eq_false (by omega);rw[c1,hmw.mp hm0,cW];simp
  ·have c1:decide (((m:Nat):Int)>0)=true:=decide_eq_true (by omega);have hw0:w≠0:=fun h=>hm0 (hmw.mpr h);obtain⟨l',g1,g2,g3,g4⟩:=bV hN hd hm (by omega) (show(0:Int)<1000000000 by decide) (by decide);rw[hw]at g3 g4;rw[c1,g4];simp only[cond_true,pC];rw[o7 hN l' m (by omega) (by omega)];simp only[pC];have hcv:=bu (4294967296:Int) l' m (by omega);have hcle:=uV l' m;have hw':((w/1000000000:Nat):Int)=(w:Int)/1000000000:=by omega
   have hwr:((w%1000000000:Nat):Int)=(w:Int)%1000000000:=by omega
   have hz:rI l' m=0↔w/1000000000=0:=by
    constructor
    ·intro h;rw[h]at hcv;simp only[List.take_zero,nv]at hcv;omega
    ·intro h;rcases Nat.eq_zero_or_pos (rI l' m)with h1|h1
     ·exact h1
     ·exfalso;have htop:=xW l' m h1;have h0:nv (4294967296:Int) (l'.take (rI l' m))=0:=by rw[hcv,g3];omega
      have hcan:gQ (4294967296:Int) (l'.take (rI l' m)):=⟨g1.take _,fun _=>by rw[List.length_take,Nat.min_eq_left (by omega),uT (by omega)];exact htop⟩
      have hne:=(hcan.pos (by decide)).mp h0;have:(l'.take (rI l' m)).length=0:=by rw[hne];rfl
      rw[List.length_take]at this;omega
   have hsplit:w/1000000000*10^(9-0)+w%1000000000=w:=by
    have:(10:Nat)^(9-0)=1000000000:=by decide
    rw[this];omega
   have hr9:w%1000000000<10^(9-0):=by
    have:(10:Nat)^(9-0)=1000000000:=by decide
    rw[this];omega
   obtain⟨o',q1,q2⟩:=vp N (rI l' m) l' (w/1000000000) hz (fun y18 y19 y20 y21=>Q10.l5 N n y18 y19 y20 y21 K0) N 0 (w%1000000000) o (by omega) (by omega) hr9 (by rw[hsplit];exact hlen);rw[hsplit]at q1;rw[hwr]at q2;have ez:((0:Nat):Int)=0:=rfl;rw[ez]at q2;have hk1:k≠0:=fun h=>by subst h;simp at hwk;omega
   obtain⟨k,rfl⟩:∃q,k=q+1:=⟨k-1,by omega⟩
   rw[w5]at hwk;rw[q2,ih k (rI l' m) l' o' (w/1000000000) g1 (by omega) (by omega) (by rw[hcv,g3];omega) hz (by omega) (by omega) (by rw[q1];exact hlen),q1]
theorem vq (N:Nat){R:Type}(o:W6)(ho:o.length≤1000000)(K0:W6→Option R):∀(n i j:Nat) (l:W6),i+j+1=o.length+1→l.length=o.length→(∀k,k<o.length→l.getD k 0=if k<i∨j≤k then o.getD (o.length-1-k) 0 else o.getD k 0)→o.length-i<n→
  Q10.l14 N n (i:Int) ((j:Int)-1) l K0=K0 o.reverse:=by
 intro n;induction n with
 |zero=>intro i j l _ _ _ h;omega
 |succ n ih=>
  intro i j l hij hl hk hn;rw[Q10.l14];by_cases hlt:i+1<j
  ·have c0:decide ((i:Int)<(j:Int)-1)=true:=decide_eq_true (by omega);have c1:(decide (0≤(j:Int)-1)&&decide ((j:Int)-1<(l.length:Int)))=true:=by simp;omega
   have c2:(decide (0≤(i:Int))&&decide ((i:Int)<(l.length:Int)))=true:=by simp;omega
   have e1:((j:Int)-1).toNat=j-1:=by omega
   have e2:(i:Int).toNat=i:=by omega
   have c3:(decide (0≤(j:Int)-1)&&decide ((j:Int)-1<((l.set i (l.getD (j-1) 0)).length:Int)))=true:=by simp;omega
   have e3:fA ((i:Int)+1)=((i+1:Nat):Int):=by rw[aB (by omega) (by omega)];omega
   have e4:fA ((j:Int)-1-1)=((j-1:Nat):Int)-1:=by rw[aB (by omega) (by omega)];omega
   rw[c1,c2,c0,e1,e2,c3,e3,e4];simp only[cond_true];refine ih (i+1) (j-1) _ (by omega) (by simpa using hl) (fun k hko=>?_) (by omega);have ki:=hk i (by omega);have kj:=hk (j-1) (by omega);have kk:=hk k hko;rw[if_neg (by omega)]at ki kj;simp only[yK]at ki kj kk⊢;rw[b7,b7];by_cases h1:j-1=k
   ·subst h1;rw[if_pos rfl,if_pos (by simp;omega),if_pos (by omega)];have e:o.length-1- (j-1)=i:=by omega
    rw[e];simpa using ki
   ·rw[if_neg h1];by_cases h2:i=k
    ·subst h2;rw[if_pos rfl,if_pos (by omega),if_pos (by omega)];have e:o.length-1-i=j-1:=by omega
     rw[e];simpa using kj
    ·rw[if_neg h2,kk];by_cases h3:k<i∨j≤k
     ·rw[if_pos h3,if_pos (by omega)]
     ·rw[if_neg h3,if_neg (by omega)]
  ·have c0:decide ((i:Int)<(j:Int)-1)=false:=decide_eq_false (by omega);rw[c0];have:l=o.reverse:=by
    apply List.ext_getElem?;intro k;by_cases hko:k<o.length
    ·have h:=hk k hko;have hr:l.getD k 0=o.getD (o.length-1-k) 0:=by
      rw[h];by_cases h3:k<i∨j≤k
      ·rw[if_pos h3]
      ·rw[if_neg h3];have:k=o.length-1-k:=by omega
       rw[←this]
     rw[List.getElem?_reverse hko];simp only[yK]at hr;rw[u4 (by omega),u4 (by omega)]at hr⊢;simpa using hr
    ·rw[j2 (by omega),j2 (by simp;omega)]
   rw[this];rfl
noncomputable def dec (v:Int):ByteArray:=if v=0 then zD [48]else zD (rd v.toNat).reverse
theorem Ic:Ib=zD [48]:=by decide+kernel
theorem ob (k:Nat):(10:Int)^k=((10^k:Nat):Int):=by simp
theorem A7 {v:Int}{k:Nat}(h0:0≤v)(hk:v<10^k):v.toNat<10^k:=by
 rw[ob]at hk;omega
theorem qw {v:Int}(h0:0≤v)(hk:v<K):v.toNat<10^1300:=by
 have h:=Iy;generalize 1300=k at h⊢;exact A7 h0 (Int.lt_trans hk h)
theorem B3 {v:Int}(h0:0≤v)(hk:v<K):(rd v.toNat).length≤1300:=Gs 1300 v.toNat (qw h0 hk)
theorem ox {N:Nat}(hN:1000000001<N){v:Int}(h0:0≤v)(hk:v<K):Q10.f N (enc (4294967296:Int) v)=some (dec v):=by
 obtain⟨h1,h2⟩:=bD B2 h0;have hl:=fD h0 hk;unfold Q10.f dec;by_cases hv:v=0
 ·subst hv;rw[bJ B2,if_pos rfl,←Ic];rfl
 ·have hne:enc (4294967296:Int) v≠ []:=fun h=>hv ((ca B2 h0).mp h);have hpos:0<(enc (4294967296:Int) v).length:=List.length_pos_iff.mpr hne;have c:(((enc (4294967296:Int) v).length:Int)==0)=false:=by simp;omega
  rw[c,if_neg hv,dx (by omega)];simp only[cond_true,cond_false];have hlen:=B3 h0 hk;rw[vo hN _ N 1300 _ _ [] v.toNat h1.dig (hE _) (by omega) (by rw[List.take_length,h2];omega) (by omega) (qw h0 hk) (by omega) (by simpa using Nat.le_trans hlen (by decide))];simp only[List.nil_append];have e:fA (((rd v.toNat).length:Int)-1)=((rd v.toNat).length:Int)-1:=aB (by omega) (by omega);rw[e];have:=vq N (rd v.toNat) (by omega) (fun y28=>some (zD y28)) N 0 (rd v.toNat).length (rd v.toNat) (by omega) rfl (fun k hk=>by rw[if_neg (by omega)]) (by omega);exact this
end Go.Proofs.YtijigofaaefldaaGreat.NatL
namespace Go.Proofs.YtijigofaaefldaaGreat.Law
open Go Go.Proofs.YtijigofaaefldaaGreat.Ev
open Go.Proofs.YtijigofaaefldaaGreat.NatL
open Go.Proofs.YtijigofaaefldaaGreat.Lat (el dp PD pp)
section
variable {N:Nat}(hN:1000000001<N)(hN2:2^224<N){a:W5}(hg:lW 8 a)(hd:dp (mr (av a)) 8=1)(he:∀i,i<8→av a i i%2=0)(hw:∀w:Nat,pp (mr (xH 8 (av a))) 8=(w:Rat)→8*w+8<N)
include hN hN2 hg hd he hw
theorem pf:∃(A U:Nat→Nat→Int) (Z:W5),LI (xH 8 (av a)) A U 8 8 (2^57)∧Z.Nodup∧(∀z,z∈Z↔wz A 8 (fun _=>0) z)∧∀Am:vF,Am.cap=8192→Q112.f N Am [] a 4=some (Am,Z.map (vZ A U),a,4):=by
 obtain⟨A,U,r,P,pi,hI,r1,r2,hP,e1⟩:=lz hN hg hd hw;have ha:=qo hg hd;have hgr:=zn hI r1 r2;obtain⟨Pl,pil,l1,e2⟩:=A5 hN hgr;have hrA:∀i j,i<8→j<8→mr (av r) i j=mr A i j:=fun i j hi hj=>by unfold mr;rw[r2 i j hi hj]
 have hL:Mx rq 8 (fun _=>8) Pl pil (wX A):=l1.ext fun i j hi hj=>by
  unfold wX;by_cases h:j<i
  ·rw[if_pos h,if_pos h,Lat.z7 hrA j i j (by omega) hi hj,Lat.z7 hrA j j j (by omega) hj hj]
  ·rw[if_neg h,if_neg h]
 have hdl:row rq 8 (dg (av r))=row rq 8 (dg A):=mB rq fun t ht=>by unfold dg;rw[Lat.z7 hrA t t t (by omega) ht ht]
 obtain⟨rows,s1,s2,e3⟩:=uo hN (show 8≤16 by omega) hP fun i j hi hj=>(I3 hI ha hi hj).mono (by omega);have heven:∀i,i<8→xH 8 (av a) i i%2=0:=fun i hi=>by unfold xH;rw[if_pos ⟨hi,hi⟩];exact he i hi
 obtain⟨Z,x',n1,m1,_,w1⟩:=H9 hN hN2 (Fo hI) s1 s2 (fun x hq t ht=>Ha hI ha hq ht) hL 8 (hE 8) N (by omega) (fun _=>0) [] (fun t ht h8=>by omega) (by rw[Gj];decide+kernel) (gm hI ha heven);refine⟨A,U,Z,hI,n1,m1,fun Am hAm=>?_⟩;have w2:=w1 Am hAm;have e4:(4:Rat)-hi A 8 (fun _=>0)=((4:Int):Rat):=by rw[Gj,show(((4:Int):Int):Rat)=4 from rfl];grind
 have e5:xs (fun _=>0)=hR 8 (0:Int):=(nH yH 8 0).symm;rw[e4,e5]at w2;have w3:Q111.g N N (((8:Nat):Int)-1) (qs ((4:Int):Rat)) (qn ((4:Int):Rat)) (ql ((4:Int):Rat)) rows 4 (hR 8 (0:Int)) Am [] pil Pl (row rq 8 (dg A))=_:=w2;have e6:=jR hN (x:=4) (show Bd 63 4 by unfold Bd;decide);have e7:fA (((8:Nat):Int)-1)=((8:Nat):Int)-1:=by rw[aB (by omega) (by omega)]
 unfold Q112.f;simp only[e1,e2,e3,pC,j1,cond_false,r1.1,tD,iC,eQ (show 8≤1000 by omega),aE,dC (show 8≤1000 by omega) (show 8≤1000 by omega),hV,cond_true,e6,n0,e7,Q111.f,hdl];rw[w3];simp only[pC,List.nil_append]
theorem xi:∃F:W4,Q118.f N a 4=some (F,0)∧(∀e,e∈F→e.2=2∨e.2=4)∧F.countP (fun e=>decide (e.2=2))=120∧F.countP (fun e=>decide (e.2=4))=1080∧F.length≤8192:=by
 obtain⟨A,U,Z,hI,hZ,hm,hwk⟩:=pf hN hN2 hg hd he hw;have ha:=qo hg hd;have heven:∀i,i<8→xH 8 (av a) i i%2=0:=fun i hi=>by unfold xH;rw[if_pos ⟨hi,hi⟩];exact he i hi
 obtain⟨k1,k2,k3⟩:=Gm hI ha heven hZ hm;generalize hL:Z.map (vZ A U)=L at*;have hlen:Z.length≤8192:=by have:=gm hI ha heven Z hZ fun z hz=>(hm z).1 hz;simpa using this
 generalize hF0:(L.filter fun x=>nB x.1)=F0;have hcnt:∀k:Int,F0.countP (fun e=>decide (e.2=k))=(Z.filter fun z=>decide (Qn A (zf z)=k)&&nB (yl U (zf z))).length:=fun k=>by rw[←hF0,←hL,List.filter_map,List.countP_map,List.countP_filter,←List.countP_eq_length_filter];refine List.countP_congr fun z _=>?_;simp only[Function.comp,vZ,u1];exact Iff.rfl
 have hne:F0≠ []:=fun h0=>by have:=hcnt 2;rw[h0,k2]at this;simp at this
 have hmem:∀e,e∈F0→e.2=2∨e.2=4:=fun e hee=>by rw[←hF0,o1,←hL,u3]at hee;obtain⟨⟨z,hz,rfl⟩,hf⟩:=hee;exact k1 z hz hf
 have hF0l:F0.length≤8192:=by rw[←hF0];refine Nat.le_trans (List.length_filter_le _ _) ?_;rw[←hL,q0];exact hlen
 have hok:ei F0=true:=by
  unfold ei;rw[u1,u1];refine⟨decide_eq_true ?_,decide_eq_true (by omega),List.all_eq_true.2 fun e hee=>decide_eq_true ?_⟩
  ·have h1:(L.map (·.1)).Nodup:=by
    rw[←hL,List.map_map];exact jY hI ha heven hZ fun z hz=>((hm z).1 hz).1
   rw[←hF0];exact(List.Sublist.map (·.1) (List.filter_sublist (l:=L) (p:=fun x=>nB x.1))).nodup h1
  ·rw[←hF0,o1,←hL,u3]at hee;obtain⟨⟨z,hz,rfl⟩,_⟩:=hee;show(yl U (zf z)).length<1000;rw[show(yl U (zf z)).length=8 from bC _ _ _];omega
 have hex:∃L:W4,(∀A:vF,A.cap=8192→Q112.f N A [] a 4=some (A,L,a,4))∧(L.filter fun x=>nB x.1)≠ []∧1000<N:=⟨L,hwk,by rw[hF0];exact hne,by omega⟩
 have hch:hex.choose=L:=by have h1:=hex.choose_spec.1 ⟨0,8192,fun _ _ _=>True⟩ rfl;have h2:=hwk ⟨0,8192,fun _ _ _=>True⟩ rfl;rw[h1]at h2;exact congrArg (fun p:vF×W4×W5×Int=>p.2.1) (Option.some.inj h2)
 have hw':Q118.w N a 4=some F0:=by unfold Q118.w;rw[dif_pos hex,hch,hF0]
 refine⟨xL F0,?_,fun e hee=>hmem e ((wH F0).mem_iff.1 hee),by rw[(wH F0).countP_eq,hcnt,k2],by rw[(wH F0).countP_eq,hcnt,k3],by rw[(wH F0).length_eq];exact hF0l⟩;unfold Q118.f kF.f Q117.f;rw[pI hN hg];simp only[pC,bne_self_eq_false,cond_false,decide_eq_false (show ¬((4:Int)<0) by omega),decide_eq_false (show ¬((4:Int)>4096) by omega),hw',hok,cond_true]
end
section
variable {N:Nat}{R:Type}
theorem Jt (l:W4)(hl:∀e,e∈l→0≤e.2∧e.2<5)(hlen:l.length≤8192)(k0:W6→Option R):∀(k i n:Nat) (c:Nat→Int),i+k=l.length→k<n→(∀t,0≤c t∧c t+2*(k:Int)≤1000000)→
  Q119.l14 N n (l.length:Int) (i:Int) (row yH 5 c) l k0=k0 (row yH 5 fun t=>c t+2*((l.drop i).countP (fun e=>decide (e.2=(t:Int))):Int)):=by
 intro k;induction k with
 |zero=>
  intro i n c hi hn hc;obtain⟨n,rfl⟩:∃q,n=q+1:=⟨n-1,by omega⟩
  rw[Q119.l14,lD,decide_eq_false (by omega),List.drop_eq_nil_of_le (by omega)];simp
 |succ k ih=>
  intro i n c hi hn hc;obtain⟨n,rfl⟩:∃q,n=q+1:=⟨n-1,by omega⟩
  have hil:i<l.length:=by omega
  have hdrop:l.drop i=l[i]::l.drop (i+1):=c7 hil;have hg:l.getD i (([]:W6),(0:Int))=l[i]:=Lat.fS hil;obtain⟨h0,h5⟩:=hl l[i] (r7 hil);obtain⟨s,hs⟩:∃s:Nat,l[i].2=(s:Int):=⟨l[i].2.toNat,by omega⟩
  have hs5:s<5:=by omega
  have d1:decide (i<l.length)=true:=decide_eq_true hil;have d2:decide ((s:Int)<5)=true:=decide_eq_true (by omega);have hcs:=hc s;have ec:(row yH 5 c).getD s 0=c s:=wE yH c 0 hs5;have ew:fA (c s+2)=c s+2:=aB (by omega) (by omega);have es:(row yH 5 c).set s (c s+2)=row yH 5 fun t=>if t=s then c s+2 else c t:=lG yH c (c s+2)
  rw[Q119.l14];simp only[lD,iC,zE,aE,d1,cond_true,hg,hs,bC,show((5:Nat):Int)=5 from rfl,d2,ec,ew,es,qB (show i<1000000 by omega)];rw[ih (i+1) n _ (by omega) (by omega) fun t=>by
   have:=hc t;by_cases e:t=s
   ·subst e;rw[if_pos rfl];omega
   ·rw[if_neg e];omega]
  congr 1;refine mB yH fun t ht=>?_;rw[hdrop,List.countP_cons];by_cases e:t=s
  ·subst e;rw[if_pos rfl,if_pos (by rw[hs];simp)];omega
  ·rw[if_neg e,if_neg (by rw[hs];simp;omega)];omega
theorem Hu (hN:1000000001<N){c:Nat→Int}(hc:∀t,t<5→Bd 63 (c t))(k0:W3→Option R):∀(k i n:Nat),i+k=5→k<n→
  Q58.l3 N n (row yH 5 c) 5 (i:Int) (row zq 5 fun t=>if t<i then c t else 0) k0=k0 (row zq 5 c):=by
 intro k;induction k with
 |zero=>
  intro i n hi hn;obtain⟨n,rfl⟩:∃q,n=q+1:=⟨n-1,by omega⟩
  rw[Q58.l3,decide_eq_false (by omega),mB zq (g:=c) fun t ht=>if_pos (by omega)];rfl
 |succ k ih=>
  intro i n hi hn;obtain⟨n,rfl⟩:∃q,n=q+1:=⟨n-1,by omega⟩
  have hi5:i<5:=by omega
  have d1:decide ((i:Int)<5)=true:=decide_eq_true (by omega);have e1:=lg hN (hc i hi5) (hE _);have eg:(row yH 5 c).getD i 0=c i:=wE yH c 0 hi5;rw[Q58.l3];simp only[bC,show((5:Nat):Int)=5 from rfl,iC,zE,aE,d1,cond_true,eg,e1,pC,qB (show i<1000000 by omega)];rw[show(sg (c i),pB (c i))=zq (c i)from rfl,lG,←ih (i+1) n (by omega) (by omega)];congr 1;refine mB zq fun t ht=>?_;by_cases h:t=i
  ·subst h;rw[if_pos rfl,if_pos (by omega)]
  ·rw[if_neg h];by_cases h':t<i
   ·rw[if_pos h',if_pos (by omega)]
   ·rw[if_neg h',if_neg (by omega)]
end
def rl (t:Nat):Int:=[1,0,240,0,2160].getD t 0
theorem oy {N:Nat}(hN:1000000001<N)(hN2:2^224<N){a:W5}(hg:lW 8 a)(hd:dp (mr (av a)) 8=1)(he:∀i,i<8→av a i i%2=0)(hw:∀w:Nat,pp (mr (xH 8 (av a))) 8=(w:Rat)→8*w+8<N):Q119.f N a 5=some (row zq 5 rl,0):=by
 obtain⟨F,e1,f1,f2,f3,f4⟩:=xi hN hN2 hg hd he hw;have hF:∀e,e∈F→0≤e.2∧e.2<5:=fun e hee=>by rcases f1 e hee with h|h<;>omega
 have h14:=Jt (N:=N) (R:=W3×Int) F hF f4 (fun y11=>(Q58.f N y11).bind fun r12=>some (r12,0)) F.length 0 N (fun t=>if t=0 then 1 else 0) (by omega) (by omega) fun t=>by split<;>omega
 have hcnt:(row yH 5 fun t=>(if t=0 then(1:Int)else 0)+2*((F.drop 0).countP (fun e=>decide (e.2=(t:Int))):Int))=row yH 5 rl:=mB yH fun t ht=>by
  have hz:∀k:Int,k≠2→k≠4→F.countP (fun e=>decide (e.2=k))=0:=fun k h2 h4=>by rw[List.countP_eq_zero];intro e hee;have:=f1 e hee;simp only[decide_eq_true_eq];omega
  rw[List.drop_zero];have:t=0∨t=1∨t=2∨t=3∨t=4:=by omega
  rcases this with rfl|rfl|rfl|rfl|rfl
  ·rw[hz _ (by omega) (by omega)];rfl
  ·rw[hz _ (by omega) (by omega)];rfl
  ·rw[show(((2:Nat):Int))=2 from rfl,f2];rfl
  ·rw[hz _ (by omega) (by omega)];rfl
  ·rw[show(((4:Nat):Int))=4 from rfl,f3];rfl
 rw[hcnt,hJ]at h14;have h5:∀t,t<5→Bd 63 (rl t):=fun t ht=>by
  have:t=0∨t=1∨t=2∨t=3∨t=4:=by omega
  rcases this with rfl|rfl|rfl|rfl|rfl<;>(unfold Bd rl;decide)
 have h3:=Hu (R:=W3) hN h5 (fun y8=>some y8) 5 0 N (by omega) (by omega);have hti:Q58.f N (row yH 5 rl)=some (row zq 5 rl):=by unfold Q58.f;simp only[bC,tD,iC,eQ (show 5≤1000 by omega),aE,dC (show 5≤1000 by omega) (show 32≤1000 by omega),hV,cond_true];rw[←lb,nH zq 5 0,mB zq (g:=fun t=>if t<0 then rl t else 0) fun t _=>(if_neg (by omega)).symm];rw[hJ]at h3;exact h3
 rw[hti]at h14;unfold Q119.f;rw[pI hN hg];have et:Q57.f N 5=some true:=rfl;have e5:fA (5-1)=4:=by decide
 simp only[pC,bne_self_eq_false,cond_false,et,j1,show((5:Int)==0)=false from rfl,e5,e1];have erep:(hR 5 (0:Int)).set 0 1=row yH 5 fun t=>if t=0 then 1 else 0:=rfl
 show(bif dG ((5:Nat):Int) ((5:Nat):Int)&&decide (0≤((5:Nat):Int))&&decide (((5:Nat):Int)≤9223372036854775807)&&lB 5 8 then(bif decide (0<((hR 5 (0:Int)).length:Int))then Q119.l14 N N (F.length:Int) 0 ((hR 5 (0:Int)).set 0 1) F _ else none)else none)=_;rw[erep,tD,iC,eQ (show 5≤1000 by omega),dC (show 5≤1000 by omega) (show 8≤1000 by omega)];exact h14
theorem As {v:Int}(h0:0≤v)(ht:((dec v).toList==Bo.toList)=true):v=1:=by
 have h1:(dec v).toList=Bo.toList:=by simpa using ht
 rw[ah,ah]at h1;have h2:Bo.data.toList=[49]:=rfl;rw[h2]at h1;unfold dec at h1;by_cases hv:v=0
 ·rw[if_pos hv]at h1;exact absurd h1 (by decide)
 ·rw[if_neg hv]at h1;have h3:((rd v.toNat).reverse.map fun n=>UInt8.ofNat n.toNat)=[49]:=by simpa[zD]using h1
  have h4:(rd v.toNat).length=1:=by have:=congrArg List.length h3;simpa using this
  have hvn:v.toNat≠0:=by omega
  rw[du hvn]at h3 h4;have h5:v.toNat/10=0:=o0 fun hc=>by rw[du hc]at h4;simp at h4
  rw[h5,cW]at h3;have h6:UInt8.ofNat (48+((v.toNat%10:Nat):Int)).toNat=49:=by simpa using h3
  have h7:v.toNat<10:=by omega
  have h8:=congrArg UInt8.toNat h6;rw[UInt8.toNat_ofNat']at h8;have h9:(49:UInt8).toNat=49:=rfl;rw[h9]at h8;omega
theorem gh {N:Nat}(hN:1000000001<N)(a:W5):∃b,Q95.f N a=some b∧(b=false→a.length≤100∧∀i,(a.getD i []).length≤100):=by
 unfold Q95.f;by_cases h:(a.length:Int)>100
 ·rw[decide_eq_true h];exact⟨true,rfl,fun h=>by cases h⟩
 ·rw[decide_eq_false h];have key:∀(k i n:Nat),i+k=a.length→k<n→Q95.l7 N n (a.length:Int) (i:Int) a (fun _=>some false) (fun y9 _=>some y9)=some (!oF (fun i=>decide ((a.getD i []).length≤100)) k i):=by
   intro k;induction k with
   |zero=>
    intro i n hi hn;obtain⟨n,rfl⟩:∃q,n=q+1:=⟨n-1,by omega⟩
    rw[Q95.l7,lD,decide_eq_false (by omega)];rfl
   |succ k ih=>
    intro i n hi hn;obtain⟨n,rfl⟩:∃q,n=q+1:=⟨n-1,by omega⟩
    rw[Q95.l7];simp only[lD,iC,zE,aE,decide_eq_true (show i<a.length by omega),cond_true,qB (show i<1000000 by omega)];rw[ih (i+1) n (by omega) (by omega)];show _=some (!(decide ((a.getD i []).length≤100)&&oF _ k (i+1)));by_cases h2:(a.getD i []).length≤100
    ·rw[decide_eq_true h2,decide_eq_false (by omega)];simp
    ·rw[decide_eq_false h2,decide_eq_true (by omega)];rfl
  have hk:=key a.length 0 N (by omega) (by omega);rw[hJ]at hk;refine⟨_,hk,fun hb=>⟨by omega,fun i=>?_⟩⟩;have hall:oF (fun i=>decide ((a.getD i []).length≤100)) a.length 0=true:=by simpa using hb
  by_cases hi:i<a.length
  ·exact of_decide_eq_true (rD.1 hall i (by omega) (by omega))
  ·rw[yK,j2 (by omega)];simp
theorem ff {N:Nat}(hN:1000000001<N)(hN2:2^224<N)(a:W5)(hw:∀w:Nat,pp (mr (xH 8 (av a))) 8=(w:Rat)→8*w+8<N):Q120.f N a=some true:=by
 unfold Q120.f;obtain⟨b,eb,hb⟩:=gh hN a;rw[eb];simp only[pC];cases b with
 |true=>rfl
 |false=>
  obtain⟨l1,l2⟩:=hb rfl;obtain⟨c,ec,hc⟩:=vW hN l1 l2;simp only[cond_false];by_cases h0:c=0
  ·have hg:=hc.1 h0;obtain⟨v,ev,hv⟩:=th hN hg;rw[tu hN hg,ev];simp only[pC,bne_self_eq_false,cond_false];have hdp:0<dz (av a) a.length:=aN hg.pd (hE _);have hbd:=(im hg.hi hg.bd (fun l hl=>hg.pd.ne (by omega)) (hE a.length)).zr (show 128≤4096 by omega);have hk:=hbd.hi;rw[uN (q5 hdp)]at hk;rw[Hz (q5 hdp),ox hN (q5 hdp) hk];simp only[pC];cases ht:((dec (dz (av a) a.length)).toList==Bo.toList)with
   |false=>rfl
   |true=>
    have hd1:=As (q5 hdp) ht;simp only[j1,cond_false];by_cases h8:a.length=8
    ·rw[h8]at hg hd1 hv⊢;have hb8:((((8:Nat):Int)) != 8)=false:=rfl;rw[hb8];simp only[cond_false];cases v with
     |false=>rfl
     |true=>
      have hdd:dp (mr (av a)) 8=1:=by rw[←xD (fun l hl=>hg.pd.ne (by omega)),hd1];rfl
      simp only[j1,cond_false];rw[oy hN hN2 hg hdd (hv.1 rfl) hw];simp only[pC,bne_self_eq_false,cond_false,bC,show(((5:Nat):Int) != 5)=false from rfl];have key:∀(k i n:Nat),i+k=5→k<n→Q120.l13 (R:=Bool) N n 1 0 240 0 2160 (i:Int) (row zq 5 rl) (fun _=>some true) (fun y=>some y)=some true:=by
       intro k;induction k with
       |zero=>
        intro i n hi hn;obtain⟨n,rfl⟩:∃q,n=q+1:=⟨n-1,by omega⟩
        rw[Q120.l13,decide_eq_false (by omega)];rfl
       |succ k ih=>
        intro i n hi hn;obtain⟨n,rfl⟩:∃q,n=q+1:=⟨n-1,by omega⟩
        have hi5:i<5:=by omega
        have d1:decide ((i:Int)<5)=true:=decide_eq_true (by omega);have hbt:Bd 63 (rl i):=by
         have:i=0∨i=1∨i=2∨i=3∨i=4:=by omega
         rcases this with rfl|rfl|rfl|rfl|rfl<;>(unfold Bd rl;decide)
        have e1:=lg hN hbt (hE _);have e2:=Er hN hbt hbt (show 63≤4096 by omega) (show 63≤4096 by omega);rw[xz]at e2;have eg:(row zq 5 rl).getD i (false,([]:W6))=zq (rl i):=wE zq rl _ hi5;have e0:([1,0,240,0,2160]:W6).getD i 0=rl i:=rfl;rw[Q120.l13];simp only[bC,show((5:Nat):Int)=5 from rfl,iC,zE,aE,d1,cond_true,e0,e1,eg,bK,cK,e2,pC,bne_self_eq_false,cond_false,qB (show i<1000000 by omega)];exact ih (i+1) n (by omega) (by omega)
      have:=key 5 0 N (by omega) (by omega);rw[hJ]at this;exact this
    ·have:(((a.length:Nat):Int) != 8)=true:=bne_iff_ne.2 (by omega);rw[this];rfl
  ·have e1:Q91.f N a=some ([],c):=by
    unfold Q91.f;rw[ec];have:(c != 0)=true:=bne_iff_ne.2 h0;simp only[pC,this,cond_true]
   have e2:Q70.f N a=some (false,c):=by unfold Q70.f;rw[ec];have:(c != 0)=true:=bne_iff_ne.2 h0;simp only[pC,this,cond_true]
   rw[e1,e2];have:(c != 0)=true:=bne_iff_ne.2 h0;simp only[pC,this,cond_true,beq_self_eq_true]
theorem Cm (a:W5):∃N,Q120.f N a=some true:=by
 obtain⟨w0,hw0⟩:∃w0:Nat,∀w:Nat,pp (mr (xH 8 (av a))) 8=(w:Rat)→w≤w0:=by
  by_cases h:∃w:Nat,pp (mr (xH 8 (av a))) 8=(w:Rat)
  ·obtain⟨w,hw⟩:=h;exact⟨w,fun w' hw'=>by rw[hw]at hw';exact Nat.le_of_eq (Rat.natCast_inj.1 hw').symm⟩
  ·exact⟨0,fun w hw=>absurd ⟨w,hw⟩ h⟩
 obtain⟨N,hN⟩:∃N:Nat,N=8*w0+2^224+1000000010:=⟨_,rfl⟩
 exact⟨N,ff (by omega) (by omega) a fun w h=>by have:=hw0 w h;omega⟩
end Go.Proofs.YtijigofaaefldaaGreat.Law
