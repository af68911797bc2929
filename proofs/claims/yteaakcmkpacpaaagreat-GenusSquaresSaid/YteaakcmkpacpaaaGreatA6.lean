import Derived.Test.YteaakcmkpacpaaaGreatA5
import Derived.KernelRfl
open Nat renaming lt_or_ge→pC,dvd_of_mod_eq_zero→xK,mod_eq_of_lt→yK,mul_comm→hW,mod_eq_zero_of_dvd→o1,dvd_trans→o2,pow_succ→j3,pos_of_ne_zero→n4,mul_assoc→o4,le_of_dvd→p5,le_refl→a6,mod_two_eq_zero_or_one→x6,le_mul_of_pos_left→a7,gcd_comm→b7,mul_le_mul→c7,mul_mod→k7,mod_lt→q7,pos_of_dvd_of_pos→c9,sub_mod_eq_zero_of_mod_eq→aa,one_mul→bn,gcd_dvd_right→bw,mul_mod_right→bx,blt_eq→cc,eq_of_mul_eq_mul_left→cd,dvd_refl→cy,gcd_dvd_left→cz,xor_assoc→eh,pow_pos→fo,add_mod→gw,add_mul_mod_self_left→iv,add_sub_cancel→kt,le_mul_of_pos_right→lu,mul_div_cancel_left→lv,dvd_one→nw,and_two_pow_sub_one_eq_mod→sl,div_add_mod→sq,pow_zero→sr,mul_one→tc,lt_trichotomy→tx,add_zero→va,gcd_pos_of_pos_right→vc,le_of_not_lt→vd,sub_self→vm,xor_self→vt,zero_add→vx,mul_add_mod→xo,mul_add→yo,mul_sub→yp,pow_one→ys,div_lt_iff_lt_mul→zc,eq_of_beq_eq_true→zd,pow_le_pow_right→zg,dvd_zero→zm,mod_self→zs,sub_zero→zu,add_mul→zx,gcd_rec→zy,mod_mod→zz,zero_le→C1
open Option renaming bind_some→aE
open Int renaming tmod_eq_emod_of_nonneg→hE,toNat_natCast→y0,natCast_dvd_natCast→w4,dvd_mul_of_dvd_right→s5,mul_nonneg→c6,toNat_of_nonneg→r7,lt_or_le→a8,dvd_of_emod_eq_zero→c8,tdiv_eq_ediv_of_nonneg→w8,emod_eq_zero_of_dvd→ae,mul_emod→bs,add_mul_emod_self_left→bt,eq_of_mul_eq_mul_left→bz,mul_ediv_cancel_left→cp,natCast_zero→cu,dvd_mul_of_dvd_left→dd,natCast_mul→eu,mul_le_mul_of_nonneg_left→fp,mul_ediv_add_emod→fs,natCast_emod→gg,emod_eq_emod_iff_emod_sub_eq_zero→kd,ofNat_dvd_left→ki,dvd_add→mm,mul_neg→mx,dvd_trans→oj,le_of_dvd→pb,dvd_coe_gcd→rj,mul_le_mul_of_nonneg_right→rm,mul_le_mul→sw,dvd_sub→ta,emod_lt_of_pos→te,mul_emod_right→ti,le_total→uc,emod_nonneg→wi,dvd_neg→zv,mul_pos→zw
open List renaming getD_eq_getElem?_getD→zE,mem_singleton→hU,mem_cons_of_mem→hV,length_map→l0,mem_map→o0,getElem?_eq_getElem→u0,mem_append→o3,length_cons→u4,mem_range'_1→x4,pairwise_map→y4,take_succ_eq_append_getElem→w5,map_cons→p6,mem_cons→w6,length_append→p7,map_congr_left→w7,drop_eq_getElem_cons→x7,getElem_mem→b8,nodup_range'→k8,map_append→r8,pairwise_cons→b9,length_erase_of_mem→e9,length_nil→k9,mem_erase_of_ne→w9,filter_cons→ba,drop_eq_nil_of_le→bb,length_pos_of_mem→bc,append_assoc→bu,pairwise_append→cb,all_eq_true→cv,map_nil→cx,take_of_length_le→ew,range'_1_concat→gp,perm_ext_iff_of_nodup→gr,append_nil→gx,getElem?_eq_some_iff→gy,nil_append→gz,nodup_cons→il,mem_range→la,nodup_append→mb,sum_cons→pn,length_take→px,length_filter_le→py,set_append_right→qs,take_append_drop→qv,mem_filter→ry,mem_of_getElem?→sh,drop_zero→sz,getElem?_append_right→tr,getElem?_map→ts,pairwise_iff_getElem→ua,not_mem_nil→um,filter_cons_of_neg→vy,filter_cons_of_pos→vz,foldl_cons→wm,filter_eq_nil_iff→yk,getElem?_eq_none→za,prod_cons→zb
open Bool renaming and_self→b6,not_false→au,and_eq_true→ch,decide_or→ss,not_true→tp,or_eq_true→wb
open BitVec renaming toNat_ofInt→td
set_option linter.unusedVariables false
set_option linter.unusedSimpArgs false
namespace Go.Proofs.YteaakcmkpacpaaaGreat.Pure
open Go Go.Proofs.YteaakcmkpacpaaaGreat.Ev
open Go.Proofs.YteaakcmkpacpaaaGreat.NatL (ab fB qB cD yG GT cC iD wC bC pP bO tA tB sA oM xI tC)
open Go.Proofs.YteaakcmkpacpaaaGreat.Mod (Fo Hm PM E)
def Id (d:Int)(M:E→Prop):Prop:=Cl d (Pr d Oo M) M
theorem Id.prod {d:Int}(hd:Dn d){M L:E→Prop}(h:Id d M):Id d (Pr d M L):=(Mod.Hm.assoc (s:=sd d) (m:=md d) Oo M L).symm.trans hd.m (h.left L)
theorem Id.cl {d:Int}(hd:Dn d){M L:E→Prop}(h:Id d M)(k:Cl d M L):Id d L:=
 (Mod.Hm.prod hd.m (Mod.Hm.refl (sd d) (md d) Oo) k.symm).trans hd.m (Mod.Hm.trans hd.m h k)
theorem Id.right {d:Int}(hd:Dn d){M:E→Prop}(h:Id d M):Cl d (Pr d M Oo) M:=(Mod.Hm.comm M Oo).trans hd.m h
theorem qH.id {d a b c:Int}{M:E→Prop}(hd:Dn d)(h:qH d M a b c):Id d M:=Id.cl hd (h.red.of.one hd) h.cl.symm
theorem tj {d:Int}(hd:Dn d){M A B:E→Prop}(hA:Cl d (Pr d M A) Oo)(hB:Cl d (Pr d M B) Oo)(iA:Id d A)(iB:Id d B):Cl d A B:=by
 have h1:Cl d A (Pr d (Pr d M B) A):=(Mod.Hm.symm (Mod.Hm.trans hd.m (hB.left A) iA))
 have h2:Cl d (Pr d (Pr d M B) A) (Pr d (Pr d M A) B):=(Mod.Hm.assoc (s:=sd d) (m:=md d) M B A).trans hd.m ((Mod.Hm.prod hd.m (Mod.Hm.refl (sd d) (md d) M) (Mod.Hm.comm B A)).trans hd.m (Mod.Hm.assoc M A B).symm);exact h1.trans hd.m (h2.trans hd.m (Mod.Hm.trans hd.m (hA.left B) iB))
def Pw (d:Int)(M:E→Prop):Nat→E→Prop
 |0=>Oo
 |n+1=>Pr d (Pw d M n) M
theorem Pw.id {d:Int}(hd:Dn d)(ho:Id d Oo)(M:E→Prop):∀n,Id d (Pw d M n)
 |0=>ho
 |n+1=>Id.prod hd (Pw.id hd ho M n)
theorem Pw.cl {d:Int}(hd:Dn d){M L:E→Prop}(h:Cl d M L):∀n,Cl d (Pw d M n) (Pw d L n)
 |0=>Mod.Hm.refl _ _ _
 |n+1=>Mod.Hm.prod hd.m (Pw.cl hd h n) h
theorem Pw.two {d:Int}(hd:Dn d)(M:E→Prop):∀n,Cl d (Pw d (Pr d M M) n) (Pw d M (2*n))
 |0=>Mod.Hm.refl _ _ _
 |n+1=>(((Pw.two hd M n).left (Pr d M M))).trans hd.m (Mod.Hm.assoc (s:=sd d) (m:=md d) (Pw d M (2*n)) M M).symm
theorem Pw.front {d:Int}(hd:Dn d)(ho:Id d Oo){M:E→Prop}(hM:Id d M):∀n,Cl d (Pr d M (Pw d M n)) (Pw d M (n+1))
 |0=>(hM.right hd).trans hd.m hM.symm
 |n+1=>(Mod.Hm.assoc (s:=sd d) (m:=md d) M (Pw d M n) M).symm.trans hd.m ((Pw.front hd ho hM n).left M)
def zp (d:Int)(M X:E→Prop)(n:Int):E→Prop:=if 0≤n then Pw d M n.toNat else Pw d X (-n).toNat
theorem zp.id {d:Int}(hd:Dn d)(ho:Id d Oo)(M X:E→Prop)(n:Int):Id d (zp d M X n):=by
 unfold zp;split<;>exact Pw.id hd ho _ _
theorem zp.up {d:Int}(hd:Dn d)(ho:Id d Oo){M X:E→Prop}(hX:Cl d (Pr d M X) Oo)(n:Int):Cl d (Pr d (zp d M X n) M) (zp d M X (n+1)):=by
 by_cases h:0≤n
 ·have e:(n+1).toNat=n.toNat+1:=by omega
  unfold zp;rw[if_pos h,if_pos (by omega),e];exact Mod.Hm.refl _ _ _
 ·obtain⟨k,hk⟩:∃k:Nat,(-n).toNat=k+1:=⟨(-n).toNat-1,by omega⟩
  have h1:Cl d (Pr d (Pw d X (k+1)) M) (Pw d X k):=
   (Mod.Hm.assoc (s:=sd d) (m:=md d) (Pw d X k) X M).trans hd.m ((Mod.Hm.prod hd.m (Mod.Hm.refl (sd d) (md d) (Pw d X k)) ((Mod.Hm.comm X M).trans hd.m hX)).trans hd.m ((Pw.id hd ho X k).right hd))
  unfold zp;rw[if_neg h,hk];by_cases h2:0≤n+1
  ·have e:(n+1).toNat=0:=by omega
   have e2:k=0:=by omega
   rw[if_pos h2,e];rw[e2]at h1⊢;exact h1
  ·have e:(-(n+1)).toNat=k:=by omega
   rw[if_neg h2,e];exact h1
theorem zp.down {d:Int}(hd:Dn d)(ho:Id d Oo){M X:E→Prop}(hX:Cl d (Pr d M X) Oo)(n:Int):Cl d (Pr d (zp d M X n) X) (zp d M X (n-1)):=by
 have h1:=zp.up hd ho hX (n-1);have e:n-1+1=n:=by omega
 rw[e]at h1;have h2:=(h1.symm.left X).trans hd.m (Mod.Hm.assoc (s:=sd d) (m:=md d) (zp d M X (n-1)) M X);exact h2.trans hd.m ((Mod.Hm.prod hd.m (Mod.Hm.refl _ _ _) hX).trans hd.m ((zp.id hd ho M X (n-1)).right hd))
theorem zp.add {d:Int}(hd:Dn d)(ho:Id d Oo){M X:E→Prop}(hX:Cl d (Pr d M X) Oo)(i j:Int):Cl d (Pr d (zp d M X i) (zp d M X j)) (zp d M X (i+j)):=by
 have up:∀k:Nat,Cl d (Pr d (zp d M X i) (Pw d M k)) (zp d M X (i+k)):=by
  intro k;induction k with
  |zero=>
    have e:i+((0:Nat):Int)=i:=by omega
    rw[e];exact(zp.id hd ho M X i).right hd
  |succ k ih=>
   have e:i+((k+1:Nat):Int)=i+k+1:=by omega
   rw[e];exact(Mod.Hm.assoc (s:=sd d) (m:=md d) (zp d M X i) (Pw d M k) M).symm.trans hd.m ((ih.left M).trans hd.m (zp.up hd ho hX _))
 have down:∀k:Nat,Cl d (Pr d (zp d M X i) (Pw d X k)) (zp d M X (i-k)):=by
  intro k;induction k with
  |zero=>
    have e:i- ((0:Nat):Int)=i:=by omega
    rw[e];exact(zp.id hd ho M X i).right hd
  |succ k ih=>
   have e:i- ((k+1:Nat):Int)=i-k-1:=by omega
   rw[e];exact(Mod.Hm.assoc (s:=sd d) (m:=md d) (zp d M X i) (Pw d X k) X).symm.trans hd.m ((ih.left X).trans hd.m (zp.down hd ho hX _))
 by_cases h:0≤j
 ·have e:zp d M X j=Pw d M j.toNat:=if_pos h;have:=up j.toNat;rw[e];have e2:i+(j.toNat:Int)=i+j:=by omega
  rw[e2]at this;exact this
 ·have e:zp d M X j=Pw d X (-j).toNat:=if_neg h;have:=down (-j).toNat;rw[e];have e2:i- ((-j).toNat:Int)=i+j:=by omega
  rw[e2]at this;exact this
theorem zp.turn {d:Int}(hd:Dn d){M X Y:E→Prop}(h:Cl d X Y)(n:Int):Cl d (zp d M X n) (zp d M Y n):=by
 unfold zp;split
 ·exact Mod.Hm.refl _ _ _
 ·exact Pw.cl hd h _
theorem Mw {x:Int}(h0:0≤x)(h1:x<18446744073709551616):mB .u64 x 1=x%2:=by
 obtain⟨a,rfl⟩:=Int.eq_ofNat_of_zero_le h0;have t1:(BitVec.ofInt 64 (a:Int)).toNat=a:=by simp[td];omega
 have t2:(BitVec.ofInt 64 (1:Int)).toNat=2^1-1:=by decide
 have e:(BitVec.ofInt 64 (a:Int)&&& BitVec.ofInt 64 (1:Int)).toNat=a%2:=by rw[BitVec.toNat_and,t1,t2,sl]
 show IntKind.wrap .u64 ((BitVec.ofInt 64 (a:Int)&&& BitVec.ofInt 64 (1:Int)).toNat:Int)=_;rw[e];have:IntKind.wrap .u64 ((a%2:Nat):Int)=nA ((a%2:Nat):Int):=rfl;rw[this,sA (by omega) (by omega)];omega
theorem Ni (x:Int):Int.fdiv x (2^1)=x/2:=by
 rw[tC];have:(2:Int)^1=2:=by decide
 rw[this]
theorem uj {N:Nat}(hN:4294967400<N){R:Type}{d:Int}(hd:Dn d)(hd1: -4294967296≤d)(ho:Id d Oo)(x5 x8 x9 x10 x11 x12 x13:Int)(kr:Int→Int→Int→Int→Option R):∀(j n k:Nat) (G S:E→Prop) (ga gb gc sa sb sc:Int),k<2^j→j<n→k<18446744073709551616→qH d G ga gb gc→qH d S sa sb sc→
  ∃a b c,qH d (Pr d S (Pw d G k)) a b c∧Q54.l1000001 N n x5 (k:Int) d x8 x9 x10 x11 x12 x13 ga gb gc sa sb sc kr=kr a b c 0:=by
 intro j;induction j with
 |zero=>
  intro n k G S ga gb gc sa sb sc hk hn _ hG hS;obtain⟨n',rfl⟩:∃n',n=n'+1:=⟨n-1,by omega⟩
  have hk0:k=0:=by simpa using hk
  subst hk0;exact⟨sa,sb,sc,hS.turn hd ((hS.id hd).right hd),by rw[Q54.l1000001];rfl⟩
 |succ j ih=>
  intro n k G S ga gb gc sa sb sc hk hn h64 hG hS;obtain⟨n',rfl⟩:∃n',n=n'+1:=⟨n-1,by omega⟩
  by_cases hk0:k=0
  ·subst hk0;exact⟨sa,sb,sc,hS.turn hd ((hS.id hd).right hd),by rw[Q54.l1000001];rfl⟩
  ·have c0:((k:Int)==0)=false:=beq_eq_false_iff_ne.mpr (by omega);have hb:mB .u64 (k:Int) 1=((k%2:Nat):Int):=by rw[Mw (by omega) (by omega)];omega
   have hh:Int.fdiv (k:Int) (2^1)=((k/2:Nat):Int):=by rw[Ni];omega
   have hp:2^(j+1)=2*2^j:=by rw[j3];omega
   obtain⟨g1,g2,g3,eg,rg⟩:=xQ hN hd hd1 hG hG;have tw:=Pw.two hd G (k/2);rw[Q54.l1000001,c0,hb,hh];simp only[cond_false];by_cases ho2:k%2=1
   ·have c1:(((k%2:Nat):Int)==1)=true:=by rw[ho2];rfl
    obtain⟨s1,s2,s3,es,rs⟩:=xQ hN hd hd1 hS hG;rw[c1];simp only[cond_true];rw[es];simp only[aE];rw[eg];simp only[aE];obtain⟨a,b,c,r,e⟩:=ih n' (k/2) (Pr d G G) (Pr d S G) g1 g2 g3 s1 s2 s3 (by omega) (by omega) (by omega) rg rs;refine⟨a,b,c,r.turn hd ?_,e⟩;have hk2:k=2*(k/2)+1:=by omega
    have h1:Cl d (Pr d (Pr d S G) (Pw d (Pr d G G) (k/2))) (Pr d S (Pr d G (Pw d G (2*(k/2))))):=
     (Mod.Hm.prod hd.m (Mod.Hm.refl _ _ _) tw).trans hd.m (Mod.Hm.assoc S G _)
    have h2:Cl d (Pr d S (Pr d G (Pw d G (2*(k/2))))) (Pr d S (Pw d G k)):=by have:=Pw.front hd ho (hG.id hd) (2*(k/2));rw[←hk2]at this;exact Mod.Hm.prod hd.m (Mod.Hm.refl _ _ _) this
    exact(h1.trans hd.m h2).symm
   ·have c1:(((k%2:Nat):Int)==1)=false:=beq_eq_false_iff_ne.mpr (by omega);rw[c1];simp only[cond_false];rw[eg];simp only[aE];obtain⟨a,b,c,r,e⟩:=ih n' (k/2) (Pr d G G) S g1 g2 g3 sa sb sc (by omega) (by omega) (by omega) rg hS;refine⟨a,b,c,r.turn hd ?_,e⟩;have hk2:2*(k/2)=k:=by omega
    rw[hk2]at tw;exact(Mod.Hm.prod hd.m (Mod.Hm.refl (sd d) (md d) S) tw).symm
theorem vO (N:Nat){d:Int}(hd:d<0)(hd1: -4294967296≤d)(hd4:d%4=0∨d%4=1):∃b c,Q50.f N d=some (1,b,c,0)∧qH d Oo 1 b c:=by
 obtain⟨a,b,c,e,h1,_,h3⟩:=B4 N d;have he:e=0:=by
  have ne:d≤ -3:=by omega
  have w:aA (0-d)= -d:=by rw[gA (by omega) (by omega)];omega
  have a3:mB .i64 (-d) 3=(-d)%4:=uK (by omega) (by omega) 2 (by decide);unfold Q50.f at h1;rw[decide_eq_false (show ¬d> -3 by omega),decide_eq_false (show ¬d< -4294967296 by omega),w,a3]at h1;have c1:((-d)%4==1)=false:=beq_eq_false_iff_ne.mpr (by omega);have c2:((-d)%4==2)=false:=beq_eq_false_iff_ne.mpr (by omega);rw[c1,c2]at h1;simp only[cond_false,Option.some.injEq,Prod.mk.injEq]at h1;omega
 subst he;obtain⟨g1,g2,g3,g4,g5⟩:=h3 rfl;subst g1;refine⟨b,c,h1,⟨⟨by decide,⟨g3⟩,⟨by omega,by omega⟩,fun q=>?_,⟨1,0,0,by omega⟩⟩,?_⟩⟩
 ·unfold gC at q;rcases g2 with g2|g2<;>subst g2<;>omega
 ·exact Mod.Hm.same (fun z=>(S0 _ z).symm)
theorem lT.d4 {d a b c:Int}(h:lT d a b c):d%4=0∨d%4=1:=by
 have:=h.of.par;omega
theorem uZ {N:Nat}(hN:8589934600<N){d a b c:Int}(h:lT d a b c){X:E→Prop}(hX:Cl d (Pr d (La d a b) X) Oo)(iX:Id d X){n:Int}(n0: -9223372036854775808≤n)(n1:n<9223372036854775808):
  ∃x y z,Q54.f N a b c n=some (x,y,z,0)∧qH d (zp d (La d a b) X n) x y z:=by
 have dn:=h.dn;obtain⟨hd,hd1⟩:=h.d;obtain⟨ga,gb,gc,e1,r1,f1,_⟩:=wH hN h;obtain⟨ob,oc,eo,ro⟩:=vO N hd hd1 h.d4;have ho:Id d Oo:=ro.id dn;have c00:((0:Int) != 0)=false:=rfl;have run:∀(k:Nat) (G:E→Prop) (g1 g2 g3 x27 x28 x29 x30:Int),k<18446744073709551616→qH d G g1 g2 g3→∃x y z,qH d (Pw d G k) x y z∧
   (bif (k:Int)==0 then
    some ((1:Int),ob,oc,(0:Int))
   else
   bif (mB .u64 (k:Int) 1)==1 then
    (Q52.f N 1 ob oc g1 g2 g3 d).bind fun r43=>
    (Q52.f N g1 g2 g3 g1 g2 g3 d).bind fun r44=>
    Q54.l1000001 N N x27 (Int.fdiv (k:Int) (2^1)) d x28 x29 x30 0 0 0 r44.1 r44.2.1 r44.2.2 r43.1 r43.2.1 r43.2.2 (fun y46 y47 y48 y49=>some (y46,y47,y48,y49))
   else
   (Q52.f N g1 g2 g3 g1 g2 g3 d).bind fun r45=>
   Q54.l1000001 N N x27 (Int.fdiv (k:Int) (2^1)) d x28 x29 x30 0 0 0 r45.1 r45.2.1 r45.2.2 1 ob oc (fun y46 y47 y48 y49=>some (y46,y47,y48,y49)))=some (x,y,z,0):=by
  intro k G g1 g2 g3 x27 x28 x29 x30 hk hG;obtain⟨x,y,z,r,e⟩:=uj (N:=N) (by omega) dn hd1 ho x27 x28 x29 x30 0 0 0 (fun y46 y47 y48 y49=>some (y46,y47,y48,y49)) 64 (N+1) k G Oo g1 g2 g3 1 ob oc (by omega) (by omega) hk hG ro;refine⟨x,y,z,r.turn dn (Pw.id dn ho G k).symm,?_⟩;rw[Q54.l1000001]at e;exact e
 unfold Q54.f Q54.s1000001;rw[e1];simp only[aE,c00,cond_false];by_cases hn:n<0
 ·obtain⟨x,y,z,ei,ri,ci⟩:=iN hN (r1.red.val hd hd1);have vi:=ri.val hd hd1;rw[decide_eq_true hn];simp only[cond_true];rw[ei];simp only[aE];rw[pR N vi];simp only[aE];rw[eo];simp only[aE];have ek:nA (0-nA n)=(((-n).toNat:Nat):Int):=by rw[oM,oM];omega
  rw[ek];have hXi:Cl d (La d x y) X:=by refine tj dn ci ?_ (ri.of.one dn) iX;exact(r1.cl.symm.left X).trans dn.m hX
  obtain⟨p,q,r,rr,er⟩:=run (-n).toNat (La d x y) x y z n a b c (by omega) ⟨ri,Mod.Hm.refl _ _ _⟩;refine⟨p,q,r,er,?_⟩;have:zp d (La d a b) X n=Pw d X (-n).toNat:=if_neg (by omega);rw[this];exact rr.turn dn (Pw.cl dn hXi.symm _)
 ·have v1:=r1.red.val hd hd1;rw[decide_eq_false hn];simp only[cond_false];rw[pR N v1];simp only[aE];rw[eo];simp only[aE];have ek:nA n=((n.toNat:Nat):Int):=by rw[sA (by omega) (by omega)];omega
  rw[ek];obtain⟨p,q,r,rr,er⟩:=run n.toNat (La d a b) ga gb gc n a b c (by omega) r1;refine⟨p,q,r,er,?_⟩;have:zp d (La d a b) X n=Pw d (La d a b) n.toNat:=if_pos (by omega);rw[this];exact rr
end Go.Proofs.YteaakcmkpacpaaaGreat.Pure
namespace Go.Proofs.YteaakcmkpacpaaaGreat.Pure
open Go Go.Proofs.YteaakcmkpacpaaaGreat.Ev
open Go.Proofs.YteaakcmkpacpaaaGreat.NatL (ab fB qB cC iD wC bC xI fX kx zq ky)
open Go.Proofs.YteaakcmkpacpaaaGreat.Mod (Fo Hm PM E Sc ml nm ze)
theorem Ub {s m a t c:Int}(hc:t*t+s*t-m=a*c)(z:E){x:E}(h:Fo a t x):Fo a t (ml s m z x):=by
 obtain⟨k,hk⟩:=h;refine⟨(z.re-z.im*t)*k-z.im*x.im*c,?_⟩;have e:a*((z.re-z.im*t)*k-z.im*x.im*c)=(z.re-z.im*t)*(a*k)-z.im*x.im*(a*c):=by grind
 rw[e,←hk,←hc];simp only[ml];grind
theorem Ug {s m a t c:Int}{L:E→Prop}(hc:t*t+s*t-m=a*c)(z:E){x:E}(h:PM s m (Fo a t) L x):PM s m (Fo a t) L (ml s m z x):=by
 induction h with
 |zero=>rw[Mod.xv];exact Mod.Sp.zero
 |mem h=>obtain⟨u,v,hu,hv,rfl⟩:=h;rw[←Mod.rO];exact Mod.Sp.mem ⟨_,v,Ub hc z hu,hv,rfl⟩
 |add _ _ p q=>rw[Mod.dr];exact Mod.Sp.add p q
 |neg _ p=>rw[Mod.ow];exact Mod.Sp.neg p
theorem Ts {d a1 b1 c1 a2 b2 c2:Int}(h1:Of d a1 b1 c1)(h2:Of d a2 b2 c2)(p1:0<a1)(p2:0<a2)(hp:cQ a1 b1 c1):
  ∃e A t C,0<e∧0<A∧a1*a2=e*e*A∧t*t+sd d*t-md d=A*C∧∀u,PM (sd d) (md d) (La d a1 b1) (La d a2 b2) u↔Sc (sd d) (md d) ⟨e,0⟩ (Fo A t) u:=by
 obtain⟨q1,q2,_,_⟩:=h1.t;obtain⟨q5,q6,_,_⟩:=h2.t;obtain⟨pp,pq,pr,hpr⟩:=hp;unfold La;generalize(b1-sd d)/2=t1 at*;generalize(b2-sd d)/2=t2 at*;obtain⟨y1,z1,hk⟩:=fz a2 a1;have kp:0<cC a2 a1:=NatL.tY (by omega);have d2:=bC a2 a1;have d1:=wC a2 a1;generalize cC a2 a1=k at*;obtain⟨x2,y2,he⟩:=fz (t1+t2+sd d) k;have ep:0<cC (t1+t2+sd d) k:=NatL.tY (by omega);have d3:=wC (t1+t2+sd d) k;have d4:=bC (t1+t2+sd d) k;generalize cC (t1+t2+sd d) k=e at*;obtain⟨s',hs⟩:=d3;obtain⟨v1,hv1⟩:=oj d4 d2;obtain⟨v2,hv2⟩:=oj d4 d1;have pos:∀v a:Int,0<a→a=e*v→0<v:=fun v a ha h=>by
  rcases a8 0 v with q|q
  ·exact q
  ·have:=c6 (Int.le_of_lt ep) (show 0≤ -v by omega);rw[mx]at this;omega
 have v1p:=pos v1 a1 p1 hv1;have v2p:=pos v2 a2 p2 hv2;have hun:=fun u=>Mm (s:=sd d) (m:=md d) (v1:=v1) (v2:=v2) (c1:=c1) (c2:=c2) (t1:=t1) (t2:=t2) (k:=k) (y1:=y1) (z1:=z1) (e:=e) (x2:=x2) (y2:=y2) (s':=s') (j:=0) (p:=pp) (q:=pq) (r:=pr) (by omega) (by rw[←hv2,←hv1];exact hk) he hs (by rw[←hv1];exact q2) (by rw[←hv2];exact q6) (by rw[←hv1,←q1];exact hpr) u;rw[←hv1,←hv2]at hun;generalize t2+v2*(y1*(-y2*(t2-t1))-x2*c2+v1*0)=t at*;have hC:v1*v2∣t*t+sd d*t-md d:=by
  have m1:PM (sd d) (md d) (Fo a1 t1) (Fo a2 t2) (ml (sd d) (md d) ⟨e,0⟩ ⟨t,1⟩):=(hun _).mpr ⟨_,Fo.t _ _,rfl⟩;obtain⟨w,hw,e1⟩:=(hun _).mp (Ug q2 ⟨0,1⟩ m1);have e2:ml (sd d) (md d) ⟨0,1⟩ ⟨t,1⟩=w:=by
   have h3:ml (sd d) (md d) ⟨e,0⟩ (ml (sd d) (md d) ⟨0,1⟩ ⟨t,1⟩)=ml (sd d) (md d) ⟨e,0⟩ w:=by rw[←e1,←Mod.rO,←Mod.rO,Mod.bL _ _ ⟨e,0⟩ ⟨0,1⟩]
   have r1:=congrArg E.re h3;have r2:=congrArg E.im h3;simp only[ml]at r1 r2;refine Mod.E.ext' ?_ ?_
   ·simp only[ml];have:e*(0*t+md d*(1*1))=e*w.re:=by
     have a1':md d*(0*(0*1+1*t+sd d*(1*1)))=0:=by grind
     have a2':md d*(0*w.im)=0:=by grind
     omega
    exact bz (by omega) this
   ·simp only[ml];have:e*(0*1+1*t+sd d*(1*1))=e*w.im:=by
     have a1':sd d*(0*(0*1+1*t+sd d*(1*1)))=0:=by grind
     have a2':sd d*(0*w.im)=0:=by grind
     have a3':0*(0*t+md d*(1*1))=0:=by grind
     omega
    exact bz (by omega) this
  rw[←e2]at hw;obtain⟨q,hq⟩:=hw;simp only[ml]at hq;exact⟨-q,by rw[mx,←hq];grind⟩
 obtain⟨C,hC⟩:=hC;exact⟨e,v1*v2,t,C,ep,zw v1p v2p,by rw[hv1,hv2];grind,hC,hun⟩
def val (a b c x y:Int):Int:=a*x*x+b*x*y+c*y*y
theorem Th (K a P b Q:Int):K*(a*P*(b*Q))=K*(a*b)*(P*Q):=by grind
theorem zl {d a1 b1 c1 a2 b2 c2 a b c:Int}(hd:Dn d)(h1:lT d a1 b1 c1)(h2:lT d a2 b2 c2)(h:qH d (Pr d (La d a1 b1) (La d a2 b2)) a b c)(x y u v:Int):
  ∃X Y,val a b c X Y=val a1 b1 c1 x y*val a2 b2 c2 u v:=by
 obtain⟨e,A,t,C,ep,Ap,hA,hC,hun⟩:=Ts h1.of h2.of h1.fine.pos h2.fine.pos h1.pr;obtain⟨k,l,hk,hl,hkl⟩:=h.cl;obtain⟨q1,q2,_,_⟩:=h1.of.t;obtain⟨q3,q4,_,_⟩:=h2.of.t;obtain⟨q5,q6,_,_⟩:=h.red.of.t;unfold La at hun hkl;generalize(b1-sd d)/2=t1 at*;generalize(b2-sd d)/2=t2 at*;generalize(b-sd d)/2=t3 at*;have ne:(⟨e,0⟩:E)≠ze:=fun h=>by have:=congrArg E.re h;simp[ze]at this;omega
 have hkl':∀z,Sc (sd d) (md d) (ml (sd d) (md d) k ⟨e,0⟩) (Fo A t) z↔Sc (sd d) (md d) l (Fo a t3) z:=fun z=>by rw[←hkl z,←Mod.Sc.sc];exact Mod.Sc.congr (fun z=>(hun z).symm)
 have hnm:=(Mod.C9 hd.m Ap h.red.a0 hC q6 (Mod.Dx hd.m hk ne) hl hkl').1;rw[Mod.Eb]at hnm;have hne:nm (sd d) (md d) ⟨e,0⟩=e*e:=by simp only[nm];grind
 rw[hne]at hnm;have hnm2:nm (sd d) (md d) k*(a1*a2)=nm (sd d) (md d) l*a:=by rw[hA,←hnm];grind
 have m1:Fo a1 t1 ⟨x*a1+t1*y,y⟩:=⟨x,by simp only;grind⟩
 have m2:Fo a2 t2 ⟨u*a2+t2*v,v⟩:=⟨u,by simp only;grind⟩
 obtain⟨g,hg,e1⟩:=(hkl _).mp ⟨_,Mod.Sp.mem ⟨_,_,m1,m2,rfl⟩,rfl⟩;obtain⟨X,hX⟩:=hg.gen;have e2:=congrArg (nm (sd d) (md d)) e1;rw[hX,Mod.Eb,Mod.Eb,Mod.Eb,Mod.yc q2,Mod.yc q4,Mod.yc q6,←q1,←q3,←q5]at e2;refine⟨X,g.im,?_⟩;have lp:0<nm (sd d) (md d) l*a:=zw (Mod.ji hd.m hl) h.red.a0;have e3:nm (sd d) (md d) l*a*val a b c X g.im=nm (sd d) (md d) l*a*(val a1 b1 c1 x y*val a2 b2 c2 u v):=by
  have f1:nm (sd d) (md d) l*a*val a b c X g.im=nm (sd d) (md d) l*(a*(a*X*X+b*X*g.im+c*g.im*g.im)):=by unfold val;grind
  rw[f1,←e2,←hnm2];exact Th ..
 exact bz (by omega) e3
end Go.Proofs.YteaakcmkpacpaaaGreat.Pure
namespace Go.Proofs.YteaakcmkpacpaaaGreat
open Go Go.Proofs.YteaakcmkpacpaaaGreat.Ev
noncomputable def aG.f (N:Nat)(a1:Int):=(Q63.f N a1).bind fun r2=>some ((r2.1.length/3:Int),r2.2)
end Go.Proofs.YteaakcmkpacpaaaGreat
namespace Go.Proofs.YteaakcmkpacpaaaGreat.Cls
open Go Go.Proofs.YteaakcmkpacpaaaGreat.Ev
structure Rd (d a b c:Int):Prop where
 eq:b*b-4*a*c=d
 pos:0<a
 lo: -a<b
 hi:b≤a
 last:a<c∨(a=c∧0≤b)
def cC (a b:Int):Int:=(Int.gcd a b:Int)
def jF (a b c:Int):Int:=cC (cC a b) c
theorem aY (a b c:Int):jF a (-b) c=jF a b c:=by simp[jF,cC]
theorem fe {x y:Int}(h0:0≤x)(h:x≤y):x*x≤y*y:=sw h h h0 (by omega)
theorem fc {b a:Int}(h1: -a≤b)(h2:b≤a):b*b≤a*a:=by
 rcases uc 0 b with h|h
 ·exact fe h h2
 ·have:=fe (x:= -b) (y:=a) (by omega) (by omega);have e: -b* -b=b*b:=by grind
  omega
theorem Rd.cge {d a b c:Int}(h:Rd d a b c):a≤c:=by have:=h.last;omega
theorem Rd.three {d a b c:Int}(h:Rd d a b c):3*a*a≤ -d:=by
 have h1:=h.eq;have h2:=fc (show-a≤b by have:=h.lo;omega) h.hi;have h3:=fp h.cge (show 0≤a by have:=h.pos;omega);have e:4*a*c=4*(a*c):=by grind
 have e2:3*a*a=3*(a*a):=by grind
 omega
theorem jL {x M:Int}(hM:0≤M)(h:x*x<(M+1)*(M+1)):x≤M:=by
 rcases a8 M x with h1|h1
 ·have:=fe (x:=M+1) (y:=x) (by omega) (by omega);omega
 ·exact h1
theorem Rd.small {d a b c:Int}(h:Rd d a b c)(hd: -65536≤d):a≤147:=by
 have:=h.three;have e2:3*a*a=3*(a*a):=by grind
 exact jL (by omega) (by omega)
theorem Rd.parity {d a b c:Int}(h:Rd d a b c):b%2=d%2:=by
 have h1:=h.eq;have e:4*a*c=2*(2*a*c):=by grind
 rcases(show b%2=0∨b%2=1 by omega)with hb|hb
 ·have e2:b=2*(b/2):=by omega
  have e3:b*b=2*(2*((b/2)*(b/2))):=by generalize b/2=q at*;subst e2;grind
  omega
 ·have e2:b=2*(b/2)+1:=by omega
  have e3:b*b=2*(2*((b/2)*(b/2))+2*(b/2))+1:=by generalize b/2=q at*;subst e2;grind
  omega
theorem zM:∀(a b:List Int),rQ a b=true↔a=b
 | [],[]=>by simp[rQ]
 | [],_::_=>by simp[rQ]
 |_::_,[]=>by simp[rQ]
 |a::r,b::s=>by simp[rQ,zM r s]
theorem rJ:∀(l:List Int) (ks:List (List Int)) (i:Nat),sD l ks i=none→l∉ks
 |_,[],_,_=>by simp
 |l,x::r,i,h=>by
  simp only[sD]at h;cases hq:rQ l x with
  |true=>rw[hq]at h;cases h
  |false=>
   rw[hq]at h;have:=rJ l r (i+1) h;have hne:l≠x:=fun e=>by rw[(zM l x).2 e]at hq;cases hq
   simp[hne,this]
theorem sJ:∀(l:List Int) (ks:List (List Int)) (i j:Nat),sD l ks i=some j→i≤j∧ks[j-i]?=some l
 |_,[],_,_,h=>by cases h
 |l,x::r,i,j,h=>by
  simp only[sD]at h;cases hq:rQ l x with
  |true=>rw[hq]at h;simp only[cond_true,Option.some.injEq]at h;subst h;simp[(zM l x).1 hq]
  |false=>
   rw[hq]at h;obtain⟨h1,h2⟩:=sJ l r (i+1) j h;refine⟨by omega,?_⟩;have:j-i=(j- (i+1))+1:=by omega
   rw[this];simpa using h2
structure tF (S:Int→Int→Int→Prop)(ks:List (List Int))(vs:List Int):Prop where
 len:vs.length=ks.length
 nd:ks.Nodup
 sound:∀r∈ks,∃a b c,r=[a,b,c]∧S a b c
 full:∀a b c,S a b c→[a,b,c]∈ks
 val:∀(j:Nat) a b c,ks[j]?=some [a,b,c]→vs[j]?=some (jF a b c)
theorem tF.congr {S S':Int→Int→Int→Prop}{ks:List (List Int)}{vs:List Int}(h:tF S ks vs)(hs:∀a b c,S a b c↔S' a b c):tF S' ks vs:=
 ⟨h.len,h.nd,fun r hr=>by obtain⟨a,b,c,h1,h2⟩:=h.sound r hr;exact⟨a,b,c,h1,(hs a b c).1 h2⟩,fun a b c h1=>h.full a b c ((hs a b c).2 h1),h.val⟩
theorem tF.nil {S:Int→Int→Int→Prop}(hs:∀a b c,¬S a b c):tF S [] []:=
 ⟨rfl,.nil,fun r hr=>by simp at hr,fun a b c h=>absurd h (hs a b c),fun j a b c h=>by simp at h⟩
theorem tF.put {S:Int→Int→Int→Prop}{ks:List (List Int)}{vs:List Int}(h:tF S ks vs)(a b c:Int):tF (fun x y z=>S x y z∨(x=a∧y=b∧z=c)) (oB [a,b,c] ks) (iH [a,b,c] (jF a b c) ks vs):=by
 unfold oB hJ iH;cases hm:sD [a,b,c] ks 0 with
 |none=>
  have hn:=rJ _ _ _ hm;simp only[Option.isSome_none,cond_false];refine⟨by simp[h.len],?_,fun r hr=>?_,fun x y z hs=>?_,fun j x y z hj=>?_⟩
  ·exact mb.2 ⟨h.nd,by simp,fun x hx y hy=>by simp only[hU]at hy;subst hy;rintro rfl;exact hn hx⟩
  ·simp only[o3,hU]at hr;rcases hr with hr|hr
   ·obtain⟨x,y,z,h1,h2⟩:=h.sound r hr;exact⟨x,y,z,h1,.inl h2⟩
   ·exact⟨a,b,c,hr,.inr ⟨rfl,rfl,rfl⟩⟩
  ·simp only[o3,hU];rcases hs with hs|⟨rfl,rfl,rfl⟩
   ·exact .inl (h.full x y z hs)
   ·exact .inr rfl
  ·rw[List.getElem?_append]at hj⊢;rw[h.len];split at hj
   ·rename_i hlt;rw[if_pos hlt];exact h.val j x y z hj
   ·rename_i hlt;rw[if_neg hlt];have h0:j-ks.length=0:=by
     rcases Nat.eq_zero_or_pos (j-ks.length)with h0|h0
     ·exact h0
     ·rw[za (by simp;omega)]at hj;cases hj
    rw[h0]at hj⊢;simp at hj⊢;obtain⟨rfl,rfl,rfl⟩:=hj;rfl
 |some j0=>
  obtain⟨_,hj0⟩:=sJ _ _ _ _ hm;simp only[zu]at hj0;simp only[Option.isSome_some,cond_true];have hv:=h.val j0 a b c hj0;have hset:vs.set j0 (jF a b c)=vs:=by obtain⟨hlt,hv⟩:=gy.mp hv;rw[←hv,List.set_getElem_self]
  rw[hset];have hmem:[a,b,c]∈ks:=sh hj0;refine⟨h.len,h.nd,fun r hr=>?_,fun x y z hs=>?_,h.val⟩
  ·obtain⟨x,y,z,h1,h2⟩:=h.sound r hr;exact⟨x,y,z,h1,.inl h2⟩
  ·rcases hs with hs|⟨rfl,rfl,rfl⟩
   ·exact h.full x y z hs
   ·exact hmem
theorem tF.get {S:Int→Int→Int→Prop}{ks:List (List Int)}{vs:List Int}(h:tF S ks vs){a b c:Int}(hs:S a b c):mD [a,b,c] ks vs=jF a b c:=by
 unfold mD;cases hm:sD [a,b,c] ks 0 with
 |none=>exact absurd (h.full a b c hs) (rJ _ _ _ hm)
 |some j=>obtain⟨_,hj⟩:=sJ _ _ _ _ hm;simp only[zu]at hj;have:=h.val j a b c hj;simp[zE,this]
def Qp (x y:R3):Prop:=x.1<y.1∨x.1=y.1∧(x.2.1<y.2.1∨x.2.1=y.2.1∧x.2.2<y.2.2)
theorem Rv {x y:R3}(h:Qp x y):uW x y=true:=by
 rw[nJ];unfold Qp at h;omega
theorem Ds {x y:R3}(h:Qp x y):x≠y:=by
 rintro rfl;unfold Qp at h;omega
structure nT (S:Int→Int→Int→Prop)(R:List R3):Prop where
 up:R.Pairwise Qp
 mem:∀x,x∈R↔S x.1 x.2.1 x.2.2
theorem nT.congr {S S':Int→Int→Int→Prop}{R:List R3}(h:nT S R)(hs:∀a b c,S a b c↔S' a b c):nT S' R:=
 ⟨h.up,fun x=>by rw[h.mem,hs]⟩
theorem nT.nodup {S:Int→Int→Int→Prop}{R:List R3}(h:nT S R):R.Nodup:=h.up.imp (fun hx=>Ds hx)
theorem nT.sorted {S:Int→Int→Int→Prop}{R:List R3}(h:nT S R):R.Pairwise (fun a b=>uW a b=true):=h.up.imp (fun hx=>Rv hx)
theorem nT.add {S:Int→Int→Int→Prop}{R:List R3}(h:nT S R){a b c:Int}(hl:∀x y z,S x y z→Qp (x,y,z) (a,b,c)):nT (fun x y z=>S x y z∨(x=a∧y=b∧z=c)) (R++[(a,b,c)]):=by
 refine⟨cb.mpr ⟨h.up,by simp,fun x hx y hy=>?_⟩,fun x=>?_⟩
 ·simp only[hU]at hy;subst hy;exact hl _ _ _ ((h.mem x).1 hx)
 ·simp only[o3,hU];rw[h.mem];constructor
  ·rintro(h1|rfl)
   ·exact .inl h1
   ·exact .inr ⟨rfl,rfl,rfl⟩
  ·rintro(h1|⟨h1,h2,h3⟩)
   ·exact .inl h1
   ·exact .inr (Prod.ext h1 (Prod.ext h2 h3))
def row (r:List Int):R3:=(r.getD 0 0,r.getD 1 0,r.getD 2 0)
theorem tF.perm {S:Int→Int→Int→Prop}{ks:List (List Int)}{vs:List Int}{R:List R3}(h:tF S ks vs)(k:nT S R):(ks.map row).Perm R:=by
 refine(gr ?_ k.nodup).mpr (fun x=>?_)
 ·rw[List.Nodup,y4];refine h.nd.imp_of_mem (fun{r s} hr hs hne e=>hne ?_);obtain⟨a,b,c,rfl,_⟩:=h.sound r hr;obtain⟨a',b',c',rfl,_⟩:=h.sound s hs;simp only[row,List.getD_cons_zero,List.getD_cons_succ,Prod.mk.injEq]at e;obtain⟨rfl,rfl,rfl⟩:=e;rfl
 ·rw[k.mem,o0];constructor
  ·rintro⟨r,hr,rfl⟩;obtain⟨a,b,c,rfl,hs⟩:=h.sound r hr;exact hs
  ·intro hs;exact⟨_,h.full _ _ _ hs,rfl⟩
open Go.Proofs.YteaakcmkpacpaaaGreat.Pure (gA)
theorem Rd.iff {d a b c:Int}(ha:0<a)(h1: -a<b)(h2:b≤a):Rd d a b c↔((b*b-d)%(4*a)=0∧c=(b*b-d)/(4*a)∧(a<c∨(a=c∧0≤b))):=by
 constructor
 ·intro h;have e:b*b-d=4*a*c:=by have:=h.eq;omega
  refine⟨by rw[e,ti],?_,h.last⟩;rw[e,cp _ (by omega)]
 ·rintro⟨k1,k2,k3⟩;have e:=fs (b*b-d) (4*a);rw[k1,←k2]at e;exact⟨by omega,ha,h1,h2,k3⟩
theorem mM {b M:Int}(h1: -M≤b)(h2:b≤M):0≤b*b∧b*b≤M*M:=by
 refine⟨?_,fc h1 h2⟩;rcases uc 0 b with h|h
 ·exact c6 h h
 ·have:=c6 (show 0≤ -b by omega) (show 0≤ -b by omega);have e: -b* -b=b*b:=by grind
  omega
theorem sQ (R:List R3)(a b c:Int):rB R++[a,b,c]=rB (R++[(a,b,c)]):=by rw[mJ];rfl
theorem bR {R:List R3}(h:(R.length:Int)≤60000):cB (((rB R).length+3)/3) 24=true:=by
 rw[wE];simp only[cB,decide_eq_true_eq];omega
def Up (d a b:Int)(x y z:Int):Prop:=Rd d x y z∧(x<a∨(x=a∧y<b))
theorem ni (N:Nat){d a:Int}(hd: -65536≤d)(hd0:d<0)(ha:0<a)(ha2:a≤147):∀(n:Nat) (b:Int) (R:List R3),1-a≤b→b≤a+1→a+1-b<n→nT (Up d a b) R→(R.length:Int)≤300*(a-1)+(b+a)→
  ∃R',nT (Up d a (a+1)) R'∧(R'.length:Int)≤300*a∧∀{T:Type} (K:Int→Int→List Int→Option T),Q96.l6 N n d a b (rB R) K=K d a (rB R')
 |0,b,R,_,_,h,_,_=>by omega
 |n+1,b,R,h1,h2,h3,hR,hl=>by
  by_cases hb:b≤a
  ·have hs:=mM (b:=b) (M:=147) (by omega) (by omega);have e1:aA (b*b)=b*b:=gA (by omega) (by omega);have e2:aA (b*b-d)=b*b-d:=gA (by omega) (by omega);have e3:aA (4*a)=4*a:=gA (by omega) (by omega);have e4:aA (b+1)=b+1:=gA (by omega) (by omega);have n0:0≤b*b-d:=by omega
   have e5:Int.tmod (b*b-d) (4*a)=(b*b-d)%(4*a):=hE n0;have hq0:0≤(b*b-d)/(4*a):=Int.ediv_nonneg n0 (by omega);have hq1:(b*b-d)/(4*a)≤b*b-d:=Int.ediv_le_self _ n0;have e6:aA (Int.tdiv (b*b-d) (4*a))=(b*b-d)/(4*a):=by rw[w8 n0];exact gA (by omega) (by omega)
   have c0:decide (b≤a)=true:=decide_eq_true hb;have c1:(!(4*a==0))=true:=by simp;omega
   have hiff:=fun c=>Rd.iff (d:=d) (c:=c) ha (show-a<b by omega) hb;have hnext:∀R',nT (Up d a (b+1)) R'→(R'.length:Int)≤300*(a-1)+(b+1+a)→∃R'',nT (Up d a (a+1)) R''∧(R''.length:Int)≤300*a∧∀{T:Type} (K:Int→Int→List Int→Option T),Q96.l6 N n d a (b+1) (rB R') K=K d a (rB R''):=
    fun R' k1 k2=>ni N hd hd0 ha ha2 n (b+1) R' (by omega) (by omega) (by omega) k1 k2
   have hskip:(∀c,¬Rd d a b c)→nT (Up d a (b+1)) R:=fun hno=>hR.congr fun x y z=>by
    unfold Up;constructor
    ·rintro⟨k1,k2⟩;exact⟨k1,by omega⟩
    ·rintro⟨k1,k2⟩;refine⟨k1,?_⟩;rcases k2 with k2|⟨rfl,k2⟩
     ·exact .inl k2
     ·by_cases hy:y=b
      ·subst hy;exact absurd k1 (hno z)
      ·exact .inr ⟨rfl,by omega⟩
   have hput:Rd d a b ((b*b-d)/(4*a))→nT (Up d a (b+1)) (R++[(a,b,(b*b-d)/(4*a))]):=fun hq=>(hR.add (a:=a) (b:=b) (c:=(b*b-d)/(4*a)) (fun x y z hx=>by
     unfold Qp;simp only;have:=hx.2;omega)).congr fun x y z=>by
    unfold Up;constructor
    ·rintro(⟨k1,k2⟩|⟨rfl,rfl,rfl⟩)
     ·exact⟨k1,by omega⟩
     ·exact⟨hq,by omega⟩
    ·rintro⟨k1,k2⟩;rcases k2 with k2|⟨rfl,k2⟩
     ·exact .inl ⟨k1,.inl k2⟩
     ·by_cases hy:y=b
      ·subst hy;exact .inr ⟨rfl,rfl,((hiff z).1 k1).2.1⟩
      ·exact .inl ⟨k1,.inr ⟨rfl,by omega⟩⟩
   have hroom:=bR (R:=R) (by omega);simp only[Q96.l6,c0,cond_true,e1,e2,e3,e4,e5,e6,c1,hroom,sQ];by_cases hm:(b*b-d)%(4*a)=0
   ·have c2:((b*b-d)%(4*a) != 0)=false:=by simp[hm]
    rw[c2];simp only[cond_false];by_cases hc:(b*b-d)/(4*a)>a
    ·obtain⟨R'',r1,r2,r3⟩:=hnext _ (hput ((hiff _).2 ⟨hm,rfl,.inl hc⟩)) (by simp;omega);refine⟨R'',r1,r2,fun K=>?_⟩;rw[decide_eq_true hc];exact r3 K
    ·by_cases hc2:(b*b-d)/(4*a)=a
     ·by_cases hb0:b≥0
      ·obtain⟨R'',r1,r2,r3⟩:=hnext _ (hput ((hiff _).2 ⟨hm,rfl,.inr ⟨hc2.symm,hb0⟩⟩)) (by simp;omega);refine⟨R'',r1,r2,fun K=>?_⟩;rw[decide_eq_false hc,beq_iff_eq.mpr hc2,decide_eq_true hb0];exact r3 K
      ·obtain⟨R'',r1,r2,r3⟩:=hnext _ (hskip fun c hq=>by have:=(hiff c).1 hq;omega) (by omega);refine⟨R'',r1,r2,fun K=>?_⟩;rw[decide_eq_false hc,beq_iff_eq.mpr hc2,decide_eq_false hb0];exact r3 K
     ·obtain⟨R'',r1,r2,r3⟩:=hnext _ (hskip fun c hq=>by have:=(hiff c).1 hq;omega) (by omega);refine⟨R'',r1,r2,fun K=>?_⟩;rw[decide_eq_false hc,beq_eq_false_iff_ne.mpr hc2];exact r3 K
   ·have c2:((b*b-d)%(4*a) != 0)=true:=by simp[hm]
    rw[c2];obtain⟨R'',r1,r2,r3⟩:=hnext _ (hskip fun c hq=>hm ((hiff c).1 hq).1) (by omega);exact⟨R'',r1,r2,fun K=>r3 K⟩
  ·have e:b=a+1:=by omega
   subst e;refine⟨R,hR,by omega,fun K=>?_⟩;rw[Q96.l6,decide_eq_false hb];rfl
theorem cn {N:Nat}(hN:1000<N){d:Int}(hd: -65536≤d)(hd0:d<0):∀(n:Nat) (a:Int) (R:List R3),1≤a→a≤148→149-a<n→nT (Up d a (-a)) R→(R.length:Int)≤300*(a-1)→
  ∃R',nT (Rd d) R'∧(R'.length:Int)≤45000∧∀{T:Type} (K:List Int→Option T),Q96.l3 N n d a (rB R) K=K (rB R')
 |0,a,R,_,_,h,_,_=>by omega
 |n+1,a,R,h1,h2,h3,hR,hl=>by
  have hs:=mM (b:=a) (M:=148) (by omega) (by omega);have e0:3*a*a=3*(a*a):=by grind
  have e1:aA (3*a)=3*a:=gA (by omega) (by omega);have e2:aA (3*a*a)=3*a*a:=gA (by omega) (by omega);have e3:aA (0-d)= -d:=by rw[show 0-d= -d by omega];exact gA (by omega) (by omega)
  have e4:aA (1-a)=1-a:=gA (by omega) (by omega);have e5:aA (a+1)=a+1:=gA (by omega) (by omega);by_cases hc:3*a*a≤ -d
  ·have ha:a≤147:=jL (by omega) (by omega);obtain⟨R1,r1,r2,r3⟩:=ni N hd hd0 (show 0<a by omega) ha N (1-a) R (by omega) (by omega) (by omega) (hR.congr fun x y z=>by
    unfold Up;constructor
    ·rintro⟨k1,k2⟩;exact⟨k1,by omega⟩
    ·rintro⟨k1,k2⟩;exact⟨k1,by have:=k1.lo;omega⟩) (by omega)
   obtain⟨R2,s1,s2,s3⟩:=cn hN hd hd0 n (a+1) R1 (by omega) (by omega) (by omega) (r1.congr fun x y z=>by
    unfold Up;constructor
    ·rintro⟨k1,k2⟩;exact⟨k1,by omega⟩
    ·rintro⟨k1,k2⟩;exact⟨k1,by have:=k1.lo;have:=k1.hi;omega⟩) (by omega)
   refine⟨R2,s1,s2,fun K=>?_⟩;rw[Q96.l3,e1,e2,e3,decide_eq_true hc,e4,cond_true,r3];simp only[e5];exact s3 K
  ·refine⟨R,hR.congr fun x y z=>⟨fun h=>h.1,fun h=>⟨h,.inl ?_⟩⟩,by omega,fun K=>?_⟩
   ·have h4:=h.three;have e6:3*x*x=3*(x*x):=by grind
    rcases a8 x a with h5|h5
    ·exact h5
    ·have:=fe (x:=a) (y:=x) (by omega) h5;omega
   ·rw[Q96.l3,e1,e2,e3,decide_eq_false hc];rfl
theorem rY {N:Nat}(hN:1000<N){d:Int}(hd: -65536≤d)(hd0:d<0):∃R,nT (Rd d) R∧(R.length:Int)≤45000∧Q96.f N d=some (rB R):=by
 obtain⟨R,r1,r2,r3⟩:=cn hN hd hd0 N 1 [] (by omega) (by omega) (by omega) ⟨.nil,fun x=>by simp only[um,false_iff];rintro⟨h,h2⟩;have:=h.pos;have:=h.lo;omega⟩ (by simp);refine⟨R,r1,r2,?_⟩;unfold Q96.f;exact r3 _
theorem nT.one {S:Int→Int→Int→Prop}{R R':List R3}(h:nT S R)(k:nT S R'):R=R':=by
 have p:R.Perm R':=(gr h.nodup k.nodup).mpr fun x=>by rw[h.mem,k.mem]
 exact(lL p h.sorted).trans (lL (List.Perm.refl _) k.sorted).symm
theorem wR (N:Nat){R:Type}(K:Int→Option R):∀(n:Nat) (x y:Int),0≤x→0≤y→y<n→Q94.l1 N n x y K=K (cC x y)
 |0,x,y,_,h,h2=>by omega
 |n+1,x,y,h0,h1,h2=>by
  rw[Q94.l1];by_cases hy:y>0
  ·have e:Int.tmod x y=x%y:=hE h0;have c1:(!(y==0))=true:=by simp;omega
   rw[decide_eq_true hy,c1,cond_true,cond_true,e,wR N K n y (x%y) h1 (wi _ (by omega)) (by have:=te x hy;omega)];rw[show cC y (x%y)=cC x y from NatL.uY h0 hy]
  ·have:y=0:=by omega
   subst this;rw[decide_eq_false hy,show cC x 0=x from NatL.zR h0];rfl
theorem pt {N:Nat}{x y:Int}(h0:0≤x)(h1:0≤y)(h2:y<N):Q94.f N x y=some (cC x y):=by
 unfold Q94.f;rw[wR N _ N x y h0 h1 h2]
theorem xb (a b:Int):0≤cC a b:=by unfold cC;omega
theorem Db (a b:Int):cC a (-b)=cC a b:=by simp[cC]
theorem zZ {N:Nat}{a b c:Int}(ha:0≤a)(hb: -N<b)(hb2:b<N)(hc:0≤c)(hc2:c<N)(hb3: -1000000000<b):Q95.f N a b c=some (jF a b c):=by
 unfold Q95.f jF;by_cases h:b<0
 ·have e:aA (0-b)= -b:=by rw[show 0-b= -b by omega];exact gA (by omega) (by omega)
  rw[decide_eq_true h,e,cond_true,pt ha (by omega) (by omega)];simp only[aE];rw[pt (xb _ _) hc hc2,Db];rfl
 ·rw[decide_eq_false h,cond_false,pt ha (by omega) hb2];simp only[aE];rw[pt (xb _ _) hc hc2];rfl
structure C4 (R:List R3):Prop where
 len:(R.length:Int)≤45000
 el:∀x∈R,0<x.1∧x.1≤147∧ -148<x.2.1∧x.2.1<148∧0<x.2.2∧x.2.2≤100000
theorem Rd.csmall {d a b c:Int}(h:Rd d a b c)(hd: -65536≤d):0<c∧c≤100000:=by
 have h0:=h.small hd;have h1:=h.cge;have h2:=h.pos;have h3:=mM (b:=b) (M:=147) (by have:=h.lo;omega) (by have:=h.hi;omega);have h4:=h.eq;have h5:1*c≤a*c:=rm (by omega) (by omega);have e:4*a*c=4*(a*c):=by grind
 omega
theorem Rd.tame {d:Int}(hd: -65536≤d){R:List R3}(h:nT (Rd d) R)(hl:(R.length:Int)≤45000):C4 R:=
 ⟨hl,fun x hx=>by have k:=(h.mem x).1 hx;have k1:=k.csmall hd;have k2:=k.small hd;have k3:=k.pos;have k4:=k.lo;have k5:=k.hi;omega⟩
theorem bJ {R:List R3}{i:Nat}(h:i<R.length):(rB R).getD (i*3) 0=R[i].1∧(rB R).getD (i*3+1) 0=R[i].2.1∧(rB R).getD (i*3+2) 0=R[i].2.2:=by
 simp only[zE];refine⟨?_,?_,?_⟩
 ·rw[dM R (i*3) (by omega),show i*3%3=0 by omega,show i*3/3=i by omega];simp[u0 h]
 ·rw[dM R (i*3+1) (by omega),show(i*3+1)%3=1 by omega,show(i*3+1)/3=i by omega];simp[u0 h]
 ·rw[dM R (i*3+2) (by omega),show(i*3+2)%3=2 by omega,show(i*3+2)/3=i by omega];simp[u0 h]
theorem zD (R:List R3):((rB R).length/3:Int)=R.length:=by rw[wE];omega
def aP (x:R3):Bool:=jF x.1 x.2.1 x.2.2==1
def wt (x:R3):Int:=if x.2.1=0∧x.1=x.2.2 then 6 else if x.1=x.2.1∧x.1=x.2.2 then 4 else 12
theorem ca {R:List R3}{i:Nat}(h:i<R.length):R.drop i=R[i]::R.drop (i+1):=by rw[x7 h]
theorem qU {N:Nat}(hN:200000<N){R:List R3}(hR:C4 R){T:Type}(K:List Int→Option T):∀(n i:Nat) (X:List R3),i≤R.length→R.length-i<n→X.length≤i→
  Q97.l4 N n (rB R) i (rB X) K=K (rB (X++(R.drop i).filter aP))
 |0,i,X,_,h,_=>by omega
 |n+1,i,X,h1,h2,h3=>by
  have hl:=hR.len;rw[Q97.l4,zD];by_cases hi:i<R.length
  ·obtain⟨e1,e2,e3⟩:=bJ hi;obtain⟨k1,k2,k3,k4,k5,k6⟩:=hR.el R[i] (b8 hi);have c0:decide ((i:Int)<R.length)=true:=decide_eq_true (by omega);have c1:decide ((0:Int)≤i)=true:=decide_eq_true (by omega);have w1:aA ((i:Int)+1)=((i+1:Nat):Int):=by rw[gA (by omega) (by omega)];omega
   have hroom:=bR (R:=X) (by omega);have hg:Q95.f N R[i].1 R[i].2.1 R[i].2.2=some (jF R[i].1 R[i].2.1 R[i].2.2):=zZ (by omega) (by omega) (by omega) (by omega) (by omega) (by omega);simp only[c0,c1,cond_true,b6,y0,e1,e2,e3,hg,aE,hroom,w1,sQ];rw[ca hi];cases hp:jF R[i].1 R[i].2.1 R[i].2.2==1 with
   |true=>rw[cond_true,qU hN hR K n (i+1) _ (by omega) (by omega) (by simp;omega),vz (by exact hp)];simp
   |false=>rw[cond_false,qU hN hR K n (i+1) _ (by omega) (by omega) (by omega),vy (by unfold aP;rw[hp];simp)]
  ·have:i=R.length:=by omega
   subst this;rw[decide_eq_false (by omega)];simp
theorem B7 {N:Nat}(hN:200000<N){d:Int}(hd: -65536≤d)(hd0:d<0){R:List R3}(hR:nT (Rd d) R):Q97.f N d=some (rB (R.filter aP))∧C4 R:=by
 obtain⟨R',h1,h2,h3⟩:=rY (N:=N) (by omega) hd hd0;obtain rfl:=hR.one h1;have ht:=Rd.tame hd hR h2;refine⟨?_,ht⟩;unfold Q97.f;rw[h3];simp only[aE];have:=qU hN ht (fun y8=>some y8) N 0 [] (by omega) (by have:=ht.len;omega) (by simp);rw[sz,gz]at this;exact this
def Sb (d b a:Int)(x y z:Int):Prop:=Rd d x y z∧((-b<y∧y<b)∨((y=b∨y= -b)∧x<a))
def Sf (d b:Int)(x y z:Int):Prop:=Rd d x y z∧ -b≤y∧y≤b
theorem gi {N:Nat}(hN:1000000001<N){a b c:Int}(ha: -100000<a)(ha2:a<100000)(hb: -100000<b)(hb2:b<100000)(hc: -100000<c)(hc2:c<100000):Q41.f N a b c=some (jF a b c):=
 Pure.qI hN ⟨by omega,by omega,by omega⟩
section
variable {d b nn:Int}
theorem j4 (hn:4*nn=b*b-d){a y z:Int}(hy:y*y=b*b):y*y-4*a*z=d↔a*z=nn:=by
 have e:4*a*z=4*(a*z):=by grind
 rw[hy,e];omega
theorem Uh (hn:4*nn=b*b-d)(hb:0≤b){a z:Int}(ha:1≤a)(hab:b≤a)(hs:a*a≤nn):Rd d a b z↔(nn%a=0∧z=nn/a):=by
 constructor
 ·intro h;have e:=(j4 hn (a:=a) (z:=z) rfl).1 h.eq;rw[←e];exact⟨ti _ _,(cp _ (by omega)).symm⟩
 ·rintro⟨h1,rfl⟩;have e:a*(nn/a)=nn:=by have:=fs nn a;omega
  have hle:a≤nn/a:=Int.le_ediv_of_mul_le (by omega) hs;exact⟨(j4 hn rfl).2 e,by omega,by omega,hab,by omega⟩
theorem Ui (hn:4*nn=b*b-d)(hb:0<b){a z:Int}(ha:1≤a)(hab:b≤a)(hs:a*a≤nn):Rd d a (-b) z↔(nn%a=0∧z=nn/a∧b<a∧a<z):=by
 have hq: -b* -b=b*b:=by grind
 constructor
 ·intro h;have e:=(j4 hn (a:=a) (z:=z) hq).1 h.eq;rw[←e];have:=h.lo;have:=h.last;exact⟨ti _ _,(cp _ (by omega)).symm,by omega,by omega⟩
 ·rintro⟨h1,rfl,h2,h3⟩;have e:a*(nn/a)=nn:=by have:=fs nn a;omega
  exact⟨(j4 hn hq).2 e,by omega,by omega,by omega,.inl h3⟩
theorem Qg {N:Nat}(hN:1000000001<N)(hd: -65536≤d)(hd0:d<0)(hb:0≤b)(hb2:b≤147)(hn:4*nn=b*b-d):∀(n:Nat) (a:Int) (ks:List (List Int)) (vs:List Int),b≤a→1≤a→a≤256→257-a<n→tF (Sb d b a) ks vs→
  ∃ks' vs',tF (Sf d b) ks' vs'∧∀{T:Type} (K:Int→Int→List (List Int)→List Int→Option T),Q60.l7 N n d b nn a ks vs K=K d b ks' vs'
 |0,a,ks,vs,_,_,_,h,_=>by omega
 |n+1,a,ks,vs,h1,h2,h3,h4,hI=>by
  have hs:=mM (b:=b) (M:=147) (by omega) (by omega);have ha:=mM (b:=a) (M:=256) (by omega) (by omega);have e1:aA (a*a)=a*a:=gA (by omega) (by omega);have e2:aA (a+1)=a+1:=gA (by omega) (by omega);have e3:aA (0-b)= -b:=by rw[show 0-b= -b by omega];exact gA (by omega) (by omega)
  have n0:0≤nn:=by omega
  have hq0:0≤nn/a:=Int.ediv_nonneg n0 (by omega);have hq1:nn/a≤nn:=Int.ediv_le_self _ n0;have e4:aA (Int.tdiv nn a)=nn/a:=by rw[w8 n0];exact gA (by omega) (by omega)
  have e5:Int.tmod nn a=nn%a:=hE n0;by_cases hc:a*a≤nn
  ·have ha2:a≤255:=jL (by omega) (by omega);have c1:(!(a==0))=true:=by simp;omega
   have hnext:∀ks' vs',tF (Sb d b (a+1)) ks' vs'→∃ks'' vs'',tF (Sf d b) ks'' vs''∧∀{T:Type} (K:Int→Int→List (List Int)→List Int→Option T),Q60.l7 N n d b nn (a+1) ks' vs' K=K d b ks'' vs'':=
    fun ks' vs' hI'=>Qg hN hd hd0 hb hb2 hn n (a+1) ks' vs' (by omega) (by omega) (by omega) (by omega) hI'
   have hB:=fun z=>Uh (d:=d) (z:=z) hn hb h2 h1 hc;have hM:=fun(h0:0<b) z=>Ui (d:=d) (z:=z) hn h0 h2 h1 hc;have hg:Q41.f N a b (nn/a)=some (jF a b (nn/a)):=gi hN (by omega) (by omega) (by omega) (by omega) (by omega) (by omega);simp only[Q60.l7,e1,e2,e3,e4,e5,decide_eq_true hc,cond_true,c1,hg,aE];by_cases hm:nn%a=0
   ·rw[show(nn%a != 0)=false by simp[hm]];simp only[cond_false];have p1:=hI.put a b (nn/a);have hget:=p1.get (a:=a) (b:=b) (c:=nn/a) (.inr ⟨rfl,rfl,rfl⟩);rw[hget];have one:(¬(0<b∧b<a∧a<nn/a))→tF (Sb d b (a+1)) (oB [a,b,nn/a] ks) (iH [a,b,nn/a] (jF a b (nn/a)) ks vs):=fun hno=>p1.congr fun x y z=>by
     unfold Sb;constructor
     ·rintro(⟨k1,k2⟩|⟨rfl,rfl,rfl⟩)
      ·exact⟨k1,by omega⟩
      ·exact⟨(hB _).2 ⟨hm,rfl⟩,by omega⟩
     ·rintro⟨k1,k2|⟨k2,k3⟩⟩
      ·exact .inl ⟨k1,.inl k2⟩
      ·by_cases hx:x=a
       ·subst hx;rcases k2 with rfl|rfl
        ·exact .inr ⟨rfl,rfl,((hB z).1 k1).2⟩
        ·by_cases h0:0<b
         ·obtain⟨q1,q2,q3,q4⟩:=(hM h0 z).1 k1;rw[q2]at q4;exact absurd ⟨h0,q3,q4⟩ hno
         ·have:b=0:=by omega
          subst this;exact .inr ⟨rfl,rfl,((hB z).1 k1).2⟩
       ·exact .inl ⟨k1,.inr ⟨k2,by omega⟩⟩
    by_cases q1:b>0
    ·by_cases q2:b<a
     ·by_cases q3:a<nn/a
      ·have p2:=p1.put a (-b) (nn/a);rw[aY]at p2;obtain⟨k1,k2,k3,k4⟩:=hnext _ _ (p2.congr (S':=Sb d b (a+1)) fun x y z=>by
        unfold Sb;constructor
        ·rintro((⟨k1,k2⟩|⟨rfl,rfl,rfl⟩)|⟨rfl,rfl,rfl⟩)
         ·exact⟨k1,by omega⟩
         ·exact⟨(hB _).2 ⟨hm,rfl⟩,by omega⟩
         ·exact⟨(hM q1 _).2 ⟨hm,rfl,q2,q3⟩,by omega⟩
        ·rintro⟨k1,k2|⟨k2,k3⟩⟩
         ·exact .inl (.inl ⟨k1,.inl k2⟩)
         ·by_cases hx:x=a
          ·subst hx;rcases k2 with rfl|rfl
           ·exact .inl (.inr ⟨rfl,rfl,((hB z).1 k1).2⟩)
           ·exact .inr ⟨rfl,rfl,((hM q1 z).1 k1).2.1⟩
          ·exact .inl (.inl ⟨k1,.inr ⟨k2,by omega⟩⟩))
       refine⟨k1,k2,k3,fun K=>?_⟩;rw[decide_eq_true q1,decide_eq_true q2,decide_eq_true q3];exact k4 K
      ·obtain⟨k1,k2,k3,k4⟩:=hnext _ _ (one fun h=>q3 h.2.2);refine⟨k1,k2,k3,fun K=>?_⟩;rw[decide_eq_true q1,decide_eq_true q2,decide_eq_false q3];exact k4 K
     ·obtain⟨k1,k2,k3,k4⟩:=hnext _ _ (one fun h=>q2 h.2.1);refine⟨k1,k2,k3,fun K=>?_⟩;rw[decide_eq_true q1,decide_eq_false q2];exact k4 K
    ·obtain⟨k1,k2,k3,k4⟩:=hnext _ _ (one fun h=>q1 h.1);refine⟨k1,k2,k3,fun K=>?_⟩;rw[decide_eq_false q1];exact k4 K
   ·rw[show(nn%a != 0)=true by simp[hm]];simp only[cond_true];exact hnext _ _ (hI.congr fun x y z=>by
     unfold Sb;constructor
     ·rintro⟨k1,k2⟩;exact⟨k1,by omega⟩
     ·rintro⟨k1,k2|⟨k2,k3⟩⟩
      ·exact⟨k1,.inl k2⟩
      ·by_cases hx:x=a
       ·subst hx;rcases k2 with rfl|rfl
        ·exact absurd ((hB z).1 k1).1 hm
        ·by_cases h0:0<b
         ·exact absurd ((hM h0 z).1 k1).1 hm
         ·have:b=0:=by omega
          subst this;exact absurd ((hB z).1 k1).1 hm
       ·exact⟨k1,.inr ⟨k2,by omega⟩⟩)
  ·refine⟨ks,vs,hI.congr fun x y z=>?_,fun K=>?_⟩
   ·unfold Sb Sf;constructor
    ·rintro⟨k1,k2⟩;exact⟨k1,by omega⟩
    ·rintro⟨k1,k2,k3⟩;refine⟨k1,?_⟩;by_cases hy:y=b∨y= -b
     ·refine .inr ⟨hy,?_⟩;have hyy:y*y=b*b:=by rcases hy with rfl|rfl<;>grind
      have e:=(j4 hn hyy).1 k1.eq;have h5:=k1.cge;have h6:=k1.pos;rcases a8 x a with h7|h7
      ·exact h7
      ·have g1:=fe (x:=a) (y:=x) (by omega) h7;have g2:x*x≤x*z:=fp h5 (by omega);omega
     ·exact .inl (by omega)
   ·rw[Q60.l7,e1,decide_eq_false hc];rfl
end
theorem Co {N:Nat}(hN:1000000001<N){d:Int}(hd: -65536≤d)(hd0:d<0)(hd4:d%4=0∨d%4=1):∀(n:Nat) (b:Int) (ks:List (List Int)) (vs:List Int),0≤b→b%2=d%2→b≤149→150-b<n→tF (fun x y z=>Rd d x y z∧ -b<y∧y<b) ks vs→
  ∃ks' vs',tF (Rd d) ks' vs'∧∀{T:Type} (K:List (List Int)→List Int→Option T),Q60.l3 N n d b ks vs K=K ks' vs'
 |0,b,ks,vs,_,_,_,h,_=>by omega
 |n+1,b,ks,vs,h1,h2,h3,h4,hI=>by
  have hs:=mM (b:=b) (M:=149) (by omega) (by omega);have e0:3*b*b=3*(b*b):=by grind
  have e1:aA (3*b)=3*b:=gA (by omega) (by omega);have e2:aA (3*b*b)=3*b*b:=gA (by omega) (by omega);have e3:aA (0-d)= -d:=by rw[show 0-d= -d by omega];exact gA (by omega) (by omega)
  have e4:aA (b*b)=b*b:=gA (by omega) (by omega);have e5:aA (b*b-d)=b*b-d:=gA (by omega) (by omega);have e6:aA (b+2)=b+2:=gA (by omega) (by omega);have e7:aA (Int.tdiv (b*b-d) 4)=(b*b-d)/4:=by rw[w8 (by omega)];exact gA (by omega) (by omega)
  by_cases hc:3*b*b≤ -d
  ·have hb:b≤147:=jL (by omega) (by omega);have hn:4*((b*b-d)/4)=b*b-d:=by
    have hp:(b*b)%4=d%4:=by
     have e:b=2*(b/2)+b%2:=by omega
     generalize b/2=q at e;have hb2:b%2=0∨b%2=1:=by omega
     rcases hb2 with hb2|hb2<;>rw[hb2]at e
     ·have:b*b=4*(q*q):=by rw[e];grind
      omega
     ·have:b*b=4*(q*q+q)+1:=by rw[e];grind
      omega
    omega
   have hmx:E6 b 1=if b<1 then 1 else b:=rfl
   obtain⟨k1,v1,r1,r2⟩:=Qg hN hd hd0 h1 hb hn N (E6 b 1) ks vs (by rw[hmx];split<;>omega) (by rw[hmx];split<;>omega) (by rw[hmx];split<;>omega) (by rw[hmx];split<;>omega) (hI.congr fun x y z=>by
    unfold Sb;constructor
    ·rintro⟨k1,k2⟩;exact⟨k1,.inl k2⟩
    ·rintro⟨k1,k2|⟨k2,k3⟩⟩
     ·exact⟨k1,k2⟩
     ·have:=k1.lo;have:=k1.hi;have:=k1.pos;rw[hmx]at k3;split at k3<;>omega)
   obtain⟨k2,v2,s1,s2⟩:=Co hN hd hd0 hd4 n (b+2) k1 v1 (by omega) (by omega) (by omega) (by omega) (r1.congr fun x y z=>by
    unfold Sf;constructor
    ·rintro⟨k1,k2⟩;exact⟨k1,by omega⟩
    ·rintro⟨k1,k2⟩;have:=k1.parity;exact⟨k1,by omega⟩)
   refine⟨k2,v2,s1,fun K=>?_⟩;rw[Q60.l3,e1,e2,e3,decide_eq_true hc,cond_true,e4,e5,e7,r2];simp only[e6];exact s2 K
  ·refine⟨ks,vs,hI.congr fun x y z=>⟨fun h=>h.1,fun h=>⟨h,?_⟩⟩,fun K=>?_⟩
   ·have h5:=h.three;have e8:3*x*x=3*(x*x):=by grind
    have h6:=h.lo;have h7:=h.hi;have h8:=h.pos;rcases a8 x b with h9|h9
    ·omega
    ·have:=fe (x:=b) (y:=x) (by omega) h9;omega
   ·rw[Q60.l3,e1,e2,e3,decide_eq_false hc];rfl
theorem N6 {N:Nat}(hN:1000000001<N){d:Int}(hd: -65536≤d)(hd0:d<0)(hd4:d%4=0∨d%4=1):∃ks vs,tF (Rd d) ks vs∧Q60.f N d=some (ks,vs):=by
 have e1:aA (0-d)= -d:=by rw[show 0-d= -d by omega];exact gA (by omega) (by omega)
 have e2:Int.tmod (-d) 2=(-d)%2:=hE (by omega);obtain⟨ks,vs,h1,h2⟩:=Co hN hd hd0 hd4 N ((-d)%2) [] [] (by omega) (by omega) (by omega) (by omega) (tF.nil fun x y z h=>by have:=h.1.parity;omega);refine⟨ks,vs,h1,?_⟩;unfold Q60.f;rw[e1,e2];exact h2 _
end Go.Proofs.YteaakcmkpacpaaaGreat.Cls
namespace Go.Proofs.YteaakcmkpacpaaaGreat.Cls
open Go Go.Proofs.YteaakcmkpacpaaaGreat.Ev
open Go.Proofs.YteaakcmkpacpaaaGreat.Pure (gA)
theorem Ah {R:Type}{n:Nat}{f:Nat→Option R}{r:R}(h0:0<n)(h:∀i,i<n→f i=some r):bp n f=some r:=by
 unfold bp;have hx:0<n∧∃r,∀i,i<n→f i=some r:=⟨h0,r,h⟩
 rw[dif_pos hx];have:=Classical.choose_spec hx.2 0 h0;rw[←this,h 0 h0]
theorem gY {α:Type}:∀(l:List α) (i:Nat) (h:i<l.length),(l[i]::l.eraseIdx i).Perm l
 | [],i,h=>by simp at h
 |a::l,0,_=>.refl _
 |a::l,i+1,h=>by
  have h':i<l.length:=by simpa using h
  exact(List.Perm.swap a l[i] _).trans ((gY l i h').cons a)
theorem vp {n:Int}(h:(Lit.int .i64 n).wf=true): -9223372036854775808≤n∧n<9223372036854775808:=by
 simp only[Lit.wf,IntKind.min,IntKind.max,IntKind.signed,IntKind.bits,if_true,ch,decide_eq_true_eq]at h;omega
def nx (ks:List (List Int))(j:Nat):R3:=row (ks.getD j [])
theorem Av (ks:List (List Int)):(List.range ks.length).map (nx ks)=ks.map row:=by
 apply List.ext_getElem?;intro i;by_cases h:i<ks.length
 ·simp[nx,u0 h,zE,h]
 ·simp[h]
section
variable {d:Int}{ks:List (List Int)}{vs:List Int}
theorem tF.at (h:tF (Rd d) ks vs){j:Nat}(hj:j<ks.length):(ks.getD j []).getD 0 0=(nx ks j).1∧(ks.getD j []).getD 1 0=(nx ks j).2.1∧(ks.getD j []).getD 2 0=(nx ks j).2.2∧vs.getD j 0=jF (nx ks j).1 (nx ks j).2.1 (nx ks j).2.2:=by
 refine⟨rfl,rfl,rfl,?_⟩;obtain⟨a,b,c,h1,h2⟩:=h.sound ks[j] (b8 hj);have h3:ks[j]?=some [a,b,c]:=by rw[u0 hj,h1]
 have:=h.val j a b c h3;simp[nx,row,zE,h3,this]
theorem sX {N:Nat}(h:tF (Rd d) ks vs){T:Type}(K:List Int→Option T)(r:T):∀(n:Nat) (rem:List Nat) (X:List R3) (cur:Nat),(∀j∈rem,j<ks.length)→rem.length<n→X.length+rem.length≤45000→
  (∀Y:List R3,Y.Perm (X++(rem.map (nx ks)).filter aP)→K (rB Y)=some r)→Q62.l3 N n (rB X) ks vs ks.length rem cur K=some r
 |0,rem,X,cur,_,h2,_,_=>by omega
 |n+1,rem,X,cur,h1,h2,h3,hK=>by
  rw[Q62.l3];simp only[show Nat.beq ks.length ks.length=true from by simp,cond_true,Bool.true_and];cases hr:rem with
  |nil=>subst hr;simp only[List.isEmpty_nil,cond_true];exact hK X (by simp)
  |cons x0 r0=>
   rw[←hr];have hne:rem.isEmpty=false:=by rw[hr];rfl
   rw[hne,cond_false];refine Ah (by rw[hr];simp) fun p hp=>?_;have hg:rem.getD p 0=rem[p]:=by simp[zE,u0 hp]
   have hj:=h1 rem[p] (b8 hp);obtain⟨e1,e2,e3,e4⟩:=h.at hj;have hperm:(nx ks rem[p]::(rem.eraseIdx p).map (nx ks)).Perm (rem.map (nx ks)):=by have:=(gY _ _ hp).map (nx ks);simpa using this
   have hlen:(rem.eraseIdx p).length+1=rem.length:=by rw[List.length_eraseIdx];simp[hp];omega
   have hsub:∀j∈rem.eraseIdx p,j<ks.length:=fun j hj=>h1 j (List.mem_of_mem_eraseIdx hj);have hroom:=bR (R:=X) (by omega);have hblt:Nat.blt rem[p] ks.length=true:=by simpa[cc]using hj
   simp only[hg,hblt,cond_true,e1,e2,e3,e4,hroom,sQ];have hf:=hperm.filter aP;cases hq:jF (nx ks rem[p]).1 (nx ks rem[p]).2.1 (nx ks rem[p]).2.2==1 with
   |true=>rw[cond_true];rw[vz (by exact hq)]at hf;refine sX h K r n _ _ _ hsub (by omega) (by simp;omega) fun Y hY=>hK Y (hY.trans ?_);rw[bu];exact List.Perm.append_left X hf
   |false=>rw[cond_false];rw[vy (by unfold aP;rw[hq];simp)]at hf;exact sX h K r n _ _ _ hsub (by omega) (by omega) fun Y hY=>hK Y (hY.trans (List.Perm.append_left X hf))
end
theorem Bf {N:Nat}{Y R:List R3}(hp:Y.Perm R)(hs:R.Pairwise (fun a b=>uW a b=true))(hl:Y.length≤45000):Q61.f N (rB Y)=some (rB R):=by
 unfold Q61.f cW;rw[u5,←lL hp.symm hs];have:Nat.blt (rB Y).length 4611686018427387904=true:=by rw[wE];simp[cc];omega
 rw[this];rfl
def oG (d:Int):Prop:= -65536≤d∧d≤ -3∧(d%4=0∨d%4=1)
theorem lq {N:Nat}(hN:1000000001<N){d:Int}(hd:oG d):∃R,nT (Rd d) R∧C4 R∧Q62.f N d=some (rB (R.filter aP))∧Q97.f N d=some (rB (R.filter aP)):=by
 obtain⟨h1,h2,h3⟩:=hd;obtain⟨R,r1,r2,r3⟩:=rY (N:=N) (by omega) h1 (by omega);obtain⟨s1,s2⟩:=B7 (N:=N) (by omega) h1 (by omega) r1;obtain⟨ks,vs,k1,k2⟩:=N6 hN h1 (by omega) h3;have hp:=k1.perm r1;have hl:ks.length=R.length:=by have:=hp.length_eq;simpa using this
 have hl2:=s2.len;refine⟨R,r1,s2,?_,s1⟩;unfold Q62.f;rw[k2];simp only[aE];refine sX k1 _ _ N _ [] _ (fun j hj=>la.mp hj) (by simp;omega) (by simp;omega) fun Y hY=>?_;rw[Av,gz]at hY;have hY2:=hY.trans (hp.filter aP);have:=hY2.length_eq;have:=py aP R;rw[Bf hY2 (r1.sorted.filter _) (by omega)];rfl
theorem zL (N:Nat)(d:Int)(hd: -9223372036854775808≤d)(hd1:d<9223372036854775808):(oG d∧Q59.f N d=some 0∧Q93.f N d=some 0)∨(¬oG d∧Q59.f N d=some 80∧Q93.f N d=some 80):=by
 unfold Q59.f Q93.f oG;by_cases q1:d< -65536
 ·refine .inr ⟨by omega,?_,?_⟩
  ·rw[decide_eq_true q1];rfl
  ·rw[decide_eq_true q1,decide_eq_false (by omega)];rfl
 by_cases q2:d> -3
 ·refine .inr ⟨by omega,?_,?_⟩
  ·rw[decide_eq_false q1,decide_eq_true q2];rfl
  ·rw[decide_eq_true q2];rfl
 have e1:aA (0-d)= -d:=by rw[show 0-d= -d by omega];exact gA (by omega) (by omega)
 have e2:Int.tmod (-d) 4=(-d)%4:=hE (by omega);rw[decide_eq_false q1,decide_eq_false q2,e1,e2];simp only[cond_false];have hm:(-d)%4=0∨(-d)%4=1∨(-d)%4=2∨(-d)%4=3:=by omega
 rcases hm with hm|hm|hm|hm<;>rw[hm]
 ·exact .inl ⟨by omega,rfl,rfl⟩
 ·exact .inr ⟨by omega,rfl,rfl⟩
 ·exact .inr ⟨by omega,rfl,rfl⟩
 ·exact .inl ⟨by omega,rfl,rfl⟩
theorem gX {N:Nat}(hN:1000000001<N){d:Int}(hd:oG d):∃R,nT (Rd d) R∧C4 R∧Q63.f N d=some (rB (R.filter aP),0)∧Q97.f N d=some (rB (R.filter aP))∧aG.f N d=some (((R.filter aP).length:Int),0):=by
 obtain⟨R,r1,r2,r3,r4⟩:=lq hN hd;obtain⟨_,h2,_⟩|⟨h1,_⟩:=zL N d (by have:=hd.1;omega) (by have:=hd.2.1;omega)
 ·have hA:Q63.f N d=some (rB (R.filter aP),0):=by
   unfold Q63.f;rw[h2,r3];rfl
  refine⟨R,r1,r2,hA,r4,?_⟩;unfold aG.f;rw[hA];simp only[aE,zD]
 ·exact absurd hd h1
theorem fi {N:Nat}{d:Int}(hd0: -9223372036854775808≤d)(hd1:d<9223372036854775808)(hd:¬oG d):Q63.f N d=some ([],80)∧aG.f N d=some (0,80)∧Q59.f N d=some 80∧Q93.f N d=some 80:=by
 obtain⟨h1,_⟩|⟨_,h2,h3⟩:=zL N d hd0 hd1
 ·exact absurd h1 hd
 ·have hA:Q63.f N d=some ([],80):=by
   unfold Q63.f;rw[h2];rfl
  refine⟨hA,?_,h2,h3⟩;unfold aG.f;rw[hA];rfl
abbrev N0:Nat:=8589934700
end Go.Proofs.YteaakcmkpacpaaaGreat.Cls
namespace Go.Proofs.YteaakcmkpacpaaaGreat.Pure
open Go Go.Proofs.YteaakcmkpacpaaaGreat.Ev Go.Proofs.YteaakcmkpacpaaaGreat.Cls
end Go.Proofs.YteaakcmkpacpaaaGreat.Pure
namespace Go.Proofs.YteaakcmkpacpaaaGreat.Cls
open Go Go.Proofs.YteaakcmkpacpaaaGreat.Ev
open Go.Proofs.YteaakcmkpacpaaaGreat.Pure (gA fJ ik qK gC cH yM uS oH j5 jt gV zF)
theorem sW {d a b c:Int}(h:fJ a b c)(hr:qK a b)(hs:¬gC a b c)(hd:b*b-4*a*c=d):Rd d a b c:=by
 unfold qK at hr;unfold gC at hs;exact⟨hd,h.pos,hr.1,hr.2,by omega⟩
theorem xW {d a b c:Int}(hd:oG d)(h:Rd d a b c):fJ a b c∧qK a b∧¬gC a b c:=by
 have h1:=h.small hd.1;have h2:=h.csmall hd.1;have h3:=h.pos;have h4:=h.lo;have h5:=h.hi;have h6:=h.eq;have h7:=h.last;obtain⟨g1,g2,g3⟩:=hd;exact⟨⟨⟨by omega,by omega,by omega⟩,h3,by omega,by omega⟩,⟨h4,h5⟩,by unfold gC;omega⟩
theorem V0 (b:Int):(b*b)%4=0∨(b*b)%4=1:=by
 rcases(show b%2=0∨b%2=1 by omega)with hb|hb
 ·have e2:b=2*(b/2):=by omega
  have e3:b*b=4*((b/2)*(b/2)):=by generalize b/2=q at*;subst e2;grind
  omega
 ·have e2:b=2*(b/2)+1:=by omega
  have e3:b*b=4*((b/2)*(b/2)+(b/2))+1:=by generalize b/2=q at*;subst e2;grind
  omega
theorem nY {a b c:Int}(h:fJ a b c)(h2: -65536≤b*b-4*a*c):oG (b*b-4*a*c):=by
 have e:4*a*c=4*(a*c):=by grind
 have:=V0 b;have:=h.d0;exact⟨h2,by omega,by omega⟩
theorem yT (N:Nat){a b c:Int}(h:fJ a b c):Q37.f N a b c=some (b*b-4*a*c)∧Q87.f N a b c=some (b*b-4*a*c):=by
 have:=cH N a b c;rw[if_pos h.inb,yM h.inb]at this;exact this
structure Cl (d:Int)(L:List R3):Prop where
 up:L.Pairwise Qp
 mem:∀x,x∈L↔Rd d x.1 x.2.1 x.2.2∧jF x.1 x.2.1 x.2.2=1
 len:L.length≤45000
theorem Cl.nodup {d:Int}{L:List R3}(h:Cl d L):L.Nodup:=h.up.imp (fun hx=>Ds hx)
theorem me {N:Nat}(hN:1000000001<N){d:Int}(hd:oG d):∃L,Cl d L∧Q62.f N d=some (rB L)∧Q97.f N d=some (rB L)∧Q63.f N d=some (rB L,0)∧aG.f N d=some ((L.length:Int),0):=by
 obtain⟨R,r1,r2,r3,r4,r5⟩:=gX hN hd;obtain⟨R',s1,s2,s3,s4⟩:=lq hN hd;obtain rfl:=r1.one s1;refine⟨R.filter aP,⟨r1.up.filter _,fun x=>?_,by have:=r2.len;have:=py aP R;omega⟩,s3,s4,r3,r5⟩;rw[ry,r1.mem];unfold aP;rw[beq_iff_eq]
end Go.Proofs.YteaakcmkpacpaaaGreat.Cls
namespace Go.Proofs.YteaakcmkpacpaaaGreat.Pure
open Go Go.Proofs.YteaakcmkpacpaaaGreat.Ev Go.Proofs.YteaakcmkpacpaaaGreat.Cls
end Go.Proofs.YteaakcmkpacpaaaGreat.Pure
namespace Go.Proofs.YteaakcmkpacpaaaGreat.Gen
open Go Go.Proofs.YteaakcmkpacpaaaGreat.Ev
open Go.Proofs.YteaakcmkpacpaaaGreat.Pure (gA uK)
def rC (p:Nat):Prop:=1<p∧∀m,m∣p→m=1∨m=p
theorem rC.cop {p a:Nat}(h:rC p)(ha:¬p∣a):Nat.gcd a p=1:=by
 rcases h.2 _ (bw a p)with e|e
 ·exact e
 ·exact absurd (by have:=cz a p;rwa[e]at this) ha
abbrev PL:=List (Nat×Nat)
def r9:PL→List Int
 | []=>[]
 |x::l=>(x.1:Int)::(x.2:Int)::r9 l
def bE:PL→Nat
 | []=>1
 |x::l=>x.1^x.2*bE l
theorem wz:∀a b:PL,r9 (a++b)=r9 a++r9 b
 | [],b=>rfl
 |x::a,b=>by simp[r9,wz a b]
theorem ib:∀a:PL,(r9 a).length=2*a.length
 | []=>rfl
 |x::a=>by simp only[r9,u4,ib a];omega
theorem my (a:PL):((r9 a).length/2:Int)=(a.length:Int):=by rw[ib];omega
theorem D9:∀{a:PL} {i:Nat} (h:i<a.length),(r9 a).getD (i*2) 0=(a[i].1:Int)∧(r9 a).getD (i*2+1) 0=(a[i].2:Int)
 |x::a,0,_=>⟨rfl,rfl⟩
 |x::a,i+1,h=>by
  have:=D9 (a:=a) (i:=i) (by simpa using h);have e1:(i+1)*2=i*2+1+1:=by omega
  have e2:(i+1)*2+1=i*2+1+1+1:=by omega
  rw[e2,e1];exact this
theorem pU:∀a b:PL,bE (a++b)=bE a*bE b
 | [],b=>(bn _).symm
 |x::a,b=>by simp only[List.cons_append,bE];rw[pU a b,o4]
structure Fz (n:Nat)(l:PL):Prop where
 up:l.Pairwise (fun a b=>a.1<b.1)
 pr:∀x∈l,rC x.1∧0<x.2
 prod:bE l=n
theorem xZ:∀{l:PL},(∀x∈l,rC x.1∧0<x.2)→l.length<bE l
 | [],_=>by simp[bE]
 |x::l,h=>by have ih:=xZ (l:=l) (fun y hy=>h y (hV _ hy));obtain⟨h1,h2⟩:=h x (by simp);have h3:1<x.1^x.2:=Nat.one_lt_pow (by omega) h1.1;simp only[bE,u4];have:=c7 (show 2≤x.1^x.2 by omega) (a6 (bE l));omega
def Fr (p n:Nat):Prop:=∀m,1<m→m∣n→p≤m
theorem Fr.prime {p n:Nat}(h:Fr p n)(hp:1<p)(hd:p∣n):rC p:=
 ⟨hp,fun m hm=>by
  have h0:0<m:=c9 hm (by omega);rcases pC 1 m with h1|h1
  ·have:=h m h1 (o2 hm hd);have:=p5 (by omega) hm;exact .inr (by omega)
  ·exact .inl (by omega)⟩
theorem Fr.last {p n:Nat}(h:Fr p n)(hn:1<n)(hs:n<p*p):rC n:=
 ⟨hn,fun m hm=>by
  obtain⟨k,rfl⟩:=hm;have hm0:0<m:=n4 fun e=>by subst e;simp at hn
  have hk0:0<k:=n4 fun e=>by subst e;simp at hn
  rcases pC 1 m with h1|h1
  ·rcases pC 1 k with h2|h2
   ·have a1:=h m h1 ⟨k,rfl⟩;have a2:=h k h2 ⟨m,hW _ _⟩;have:=c7 a1 a2;omega
   ·have:k=1:=by omega
    subst this;exact .inr (by omega)
  ·exact .inl (by omega)⟩
theorem Fr.dvd {p n m:Nat}(h:Fr p n)(hm:m∣n):Fr p m:=fun k h1 h2=>h k h1 (o2 h2 hm)
theorem Fr.succ {p n:Nat}(h:Fr p n)(hd:¬p∣n):Fr (p+1) n:=fun m h1 h2=>by
 have:=h m h1 h2;rcases pC p m with h3|h3
 ·omega
 ·have:m=p:=by omega
  subst this;exact absurd h2 hd
theorem eT {p:Nat}(hp:1<p):∀(f n:Nat),0<n→n<f→∃j m,n=p^j*m∧¬p∣m
 |0,n,_,h=>by omega
 |f+1,n,hn,h=>by
  by_cases hd:p∣n
  ·obtain⟨k,rfl⟩:=hd;have hk:0<k:=n4 fun e=>by subst e;simp at hn
   have:k<p*k:=by have:=c7 (show 2≤p by omega) (a6 k);omega
   obtain⟨j,m,e,hm⟩:=eT hp f k hk (by omega);exact⟨j+1,m,by rw[e,j3,hW (p^j) p,o4],hm⟩
  ·exact⟨0,n,by simp,hd⟩
theorem N1 {p:Nat}(h:0<p):(!((p:Int)==0))=true:=by
 have:((p:Int)==0)=false:=beq_eq_false_iff_ne.mpr (by omega);rw[this];rfl
theorem Me (a b:Nat):Int.tmod (a:Int) (b:Int)=((a%b:Nat):Int):=Int.ofNat_tmod a b
theorem R6 (a b:Nat):Int.tdiv (a:Int) (b:Int)=((a/b:Nat):Int):=Int.ofNat_tdiv a b
theorem Qf (a:Nat):((a:Int)==0)=decide (a=0):=by
 by_cases h:a=0
 ·subst h;rfl
 ·rw[decide_eq_false h];exact beq_eq_false_iff_ne.mpr (by omega)
theorem Sx {a:Nat}(h:a<9223372036854775808):aA (a:Int)=(a:Int):=gA (by omega) (by omega)
theorem oL {a:Nat}(h:a<9223372036854775807):aA ((a:Int)+1)=((a+1:Nat):Int):=by rw[gA (by omega) (by omega)];omega
theorem E0 (N:Nat){R:Type}{p:Nat}(hp:1<p)(l:List Int)(K:Int→Int→Int→List Int→Option R):∀(f k j m:Nat),¬p∣m→0<m→j<f→k+j<1000000→p^j*m<1000000→
  Q64.l1 N f (p:Int) (k:Int) ((p^j*m:Nat):Int) l K=K (p:Int) ((k+j:Nat):Int) (m:Int) l
 |0,k,j,m,_,_,h,_,_=>by omega
 |f+1,k,j,m,hd,hm,h,hk,hb=>by
  rw[Q64.l1];simp only[N1 (show 0<p by omega),cond_true];rw[Me,Qf];cases j with
  |zero=>rw[sr,bn,decide_eq_false (fun e=>hd (xK e)),cond_false];rfl
  |succ j=>
   have e:p^(j+1)*m=p*(p^j*m):=by rw[j3,hW (p^j) p,o4]
   have hlt:p^j*m≤p^(j+1)*m:=by rw[e];exact a7 _ (by omega)
   rw[decide_eq_true (by rw[e];exact bx _ _),cond_true,R6,e,lv _ (by omega),Sx (by omega),oL (by omega)];have:=E0 N hp l K f (k+1) j m hd hm (by omega) (by omega) (by omega);rw[this];congr 2;omega
theorem S5 {l:List Int}(h:l.length≤1000000):cB ((l.length+2)/2) 16=true:=by
 simp only[cB,decide_eq_true_eq];omega
theorem yh {p j:Nat}(hp:1<p):j<p^j:=Nat.lt_pow_self hp
theorem Qs {N:Nat}(hN:1000000<N){p j m:Nat}(hp:1<p)(hd:¬p∣m)(hm:0<m)(hb:p^j*m<1000000){l:PL}(hl:l.length<100000):
  Q64.f N (p:Int) ((p^j*m:Nat):Int) (r9 l)=some (decide (0<j),(m:Int),if 0<j then r9 (l++[(p,j)])else r9 l):=by
 unfold Q64.f;have hj:j<1000000:=by have:=yh (j:=j) hp;have:=lu (p^j) hm;omega
 have:=E0 N hp (r9 l) (fun y12 y13 y14 y15=>bif decide (y13>0)then bif cB ((y15.length+2)/2) 16 then some (true,y14,y15++[y12,y13])else none else some (false,y14,y15)) N 0 j m hd hm (by omega) (by omega) hb;rw[cu]at this;rw[this];simp only[vx];rw[S5 (by rw[ib];omega)];by_cases h0:0<j
 ·rw[decide_eq_true (show(j:Int)>0 by omega),decide_eq_true h0,if_pos h0,wz];rfl
 ·rw[decide_eq_false (show ¬(j:Int)>0 by omega),decide_eq_false h0,if_neg h0];rfl
structure St (n0 p n:Nat)(l:PL):Prop where
 up:l.Pairwise (fun a b=>a.1<b.1)
 pr:∀x∈l,rC x.1∧0<x.2∧x.1<p
 prod:bE l*n=n0
 fr:Fr p n
 pos:0<n
theorem St.len {n0 p n:Nat}{l:PL}(h:St n0 p n l):l.length<n0+1∧n≤n0:=by
 have h1:=xZ (l:=l) (fun x hx=>⟨(h.pr x hx).1,(h.pr x hx).2.1⟩);have h2:=h.prod;have h3:=h.pos;have:=lu (bE l) h3;have:=a7 n (show 0<bE l by omega);omega
theorem St.step {n0 p j m:Nat}{l:PL}(h:St n0 p (p^j*m) l)(hp:1<p)(hd:¬p∣m):St n0 (p+1) m (if 0<j then l++[(p,j)]else l):=by
 have hm:0<m:=n4 fun e=>by subst e;exact hd (zm _)
 by_cases h0:0<j
 ·rw[if_pos h0];have hpp:rC p:=h.fr.prime hp (o2 (o2 (by simp) (Nat.pow_dvd_pow p (show 1≤j by omega))) ⟨m,rfl⟩);refine⟨?_,fun x hx=>?_,?_,(h.fr.dvd ⟨p^j,hW _ _⟩).succ hd,hm⟩
  ·rw[cb];exact⟨h.up,by simp,fun a ha b hb=>by simp only[hU]at hb;subst hb;exact(h.pr a ha).2.2⟩
  ·simp only[o3,hU]at hx;rcases hx with hx|rfl
   ·exact⟨(h.pr x hx).1,(h.pr x hx).2.1,by have:=(h.pr x hx).2.2;omega⟩
   ·exact⟨hpp,h0,by simp⟩
  ·rw[pU];simp only[bE,tc];rw[o4];exact h.prod
 ·rw[if_neg h0];have:j=0:=by omega
  subst this;have hf:=h.prod;rw[sr,bn]at hf;exact⟨h.up,fun x hx=>⟨(h.pr x hx).1,(h.pr x hx).2.1,by have:=(h.pr x hx).2.2;omega⟩,hf,(h.fr.dvd ⟨p^0,hW _ _⟩).succ hd,hm⟩
theorem St.end {n0 p n:Nat}{l:PL}(h:St n0 p n l)(hs:n<p*p):Fz n0 (if 1<n then l++[(n,1)]else l):=by
 by_cases h1:1<n
 ·rw[if_pos h1];have hq:=h.fr.last h1 hs;refine⟨?_,fun x hx=>?_,?_⟩
  ·rw[cb];refine⟨h.up,by simp,fun a ha b hb=>?_⟩;simp only[hU]at hb;subst hb;have:=(h.pr a ha).2.2;have:=h.fr n h1 (cy _);simp only;omega
  ·simp only[o3,hU]at hx;rcases hx with hx|rfl
   ·exact⟨(h.pr x hx).1,(h.pr x hx).2.1⟩
   ·exact⟨hq,by simp⟩
  ·rw[pU];simp only[bE,tc,ys];exact h.prod
 ·rw[if_neg h1];have:=h.pos;have:n=1:=by omega
  subst this;exact⟨h.up,fun x hx=>⟨(h.pr x hx).1,(h.pr x hx).2.1⟩,by have:=h.prod;omega⟩
theorem St.skip {n0 p n:Nat}{l:PL}(h:St n0 p n l)(hp:2<p)(he:p%2=0):St n0 (p+1) n l:=
 ⟨h.up,fun x hx=>⟨(h.pr x hx).1,(h.pr x hx).2.1,by have:=(h.pr x hx).2.2;omega⟩,h.prod,h.fr.succ fun hd=>by have:=h.fr 2 (by omega) (o2 (xK he) hd);omega,h.pos⟩
theorem Af {α:Type}(b:Bool)(x:α):(bif b then x else x)=x:=by cases b<;>rfl
theorem Si {p n:Nat}(hp:p≤1000000):decide (aA ((p:Int)*(p:Int))≤(n:Int))=decide (p*p≤n):=by
 have h1:p*p≤1000000*1000000:=c7 hp hp;rw[←eu,Sx (by omega),decide_eq_decide];omega
theorem Ue {p:Nat}(hp:p<1000000):mB .i64 (p:Int) 1=((p%2:Nat):Int):=by
 have:=uK (x:=(p:Int)) (by omega) (by omega) 1 (by decide);simp only[Int.reducePow,Int.reduceSub]at this;rw[this];omega
theorem Dy {N:Nat}(hN:1000000<N){n0:Nat}(hn:n0≤65536){R:Type}(K:Int→List Int→Option R):∀(f p n:Nat) (l:PL),St n0 p n l→1<p→(p=2∨p%2=1)→p≤n0+4→n0+5-p<f→
  ∃n' l' p',St n0 p' n' l'∧n'<p'*p'∧Q65.l8 N f (p:Int) (n:Int) (r9 l) K=K (n':Int) (r9 l')
 |0,p,n,l,_,_,_,_,h=>by omega
 |f+1,p,n,l,h,hp,hodd,hpn,hf=>by
  obtain⟨hl1,hl2⟩:=h.len;rw[Q65.l8,Si (by omega)];by_cases hs:p*p≤n
  ·rw[decide_eq_true hs,cond_true];obtain⟨j,m,rfl,hd⟩:=eT hp (n+1) n h.pos (by omega);have hm:0<m:=n4 fun e=>by subst e;exact hd (zm _)
   rw[Qs hN hp hd hm (by omega) (by omega)];have hst:=h.step hp hd;have hpn2:p≤n0:=by have:=c7 (show 1≤p by omega) (a6 p);omega
   simp only[aE,Af];have e1:aA ((p:Int)+aA (1+mB .i64 (p:Int) 1))=((p+(1+p%2):Nat):Int):=by have e3:aA (1+((p%2:Nat):Int))=1+((p%2:Nat):Int):=gA (by omega) (by omega);rw[Ue (by omega),e3,gA (by omega) (by omega)];omega
   rw[e1];have e2:(if 0<j then r9 (l++[(p,j)])else r9 l)=r9 (if 0<j then l++[(p,j)]else l):=by split<;>rfl
   rw[e2];rcases hodd with rfl|hodd
   ·exact Dy hN hn K f 3 m _ hst (by omega) (by omega) (by omega) (by omega)
   ·have hst2:=hst.skip (by omega) (by omega);rw[hodd];exact Dy hN hn K f (p+2) m _ hst2 (by omega) (by omega) (by omega) (by omega)
  ·rw[decide_eq_false hs,cond_false];exact⟨n,l,p,h,by omega,rfl⟩
theorem iV {N:Nat}(hN:1000000<N){n:Nat}(h0:0<n)(h1:n≤65536):∃l,Fz n l∧Q65.f N (n:Int)=some (r9 l,0):=by
 unfold Q65.f;rw[decide_eq_false (show ¬(n:Int)<1 by omega),decide_eq_false (show ¬(n:Int)>1099511627776 by omega)];simp only[cond_false];obtain⟨n',l',p',hst,hs,e⟩:=Dy hN h1 (fun y8 y9=>bif decide (y8>1)then(Q64.f N y8 y8 y9).bind fun r10=>bif r10.1 then some (r10.2.2,0)else some (r10.2.2,(0:Int))else some (y9,0)) N 2 n [] ⟨.nil,fun x hx=>(by cases hx),(by simp[bE]),fun m h2 _=>h2,h0⟩ (by omega) (.inl rfl) (by omega) (by omega);obtain⟨q1,q2⟩:=hst.len;refine⟨_,hst.end hs,e.trans ?_⟩;by_cases hn:1<n'
 ·rw[decide_eq_true (show(n':Int)>1 by omega),if_pos hn,cond_true];have:=Qs hN hn (j:=1) (m:=1) (by intro hd;have:=nw.mp hd;omega) (by omega) (by simp;omega) (l:=l') (by omega);rw[ys,tc]at this;rw[this];rfl
 ·rw[decide_eq_false (show ¬(n':Int)>1 by omega),if_neg hn,cond_false]
theorem rC.dvd_mul {p a b:Nat}(h:rC p)(hd:p∣a*b):p∣a∨p∣b:=by
 by_cases ha:p∣a
 ·exact .inl ha
 ·exact .inr ((Nat.Coprime.symm (h.cop ha)).dvd_of_dvd_mul_left hd)
theorem rC.dvd_pow {p a:Nat}(h:rC p):∀{k:Nat},p∣a^k→p∣a
 |0,hd=>by have:=h.1;have:=nw.mp (by simpa using hd);omega
 |k+1,hd=>by
  rw[j3]at hd;rcases h.dvd_mul hd with h1|h1
  ·exact rC.dvd_pow h h1
  ·exact h1
theorem rC.eq {p q:Nat}(h:rC p)(k:rC q)(hd:p∣q):p=q:=(k.2 p hd).resolve_left (by have:=h.1;omega)
theorem rC.in_prod {p:Nat}(h:rC p):∀{l:PL},(∀x∈l,rC x.1∧0<x.2)→p∣bE l→∃x∈l,x.1=p
 | [],_,hd=>by have:=h.1;have:=nw.mp hd;omega
 |x::l,hl,hd=>by
  rcases h.dvd_mul hd with h1|h1
  ·exact⟨x,by simp,(h.eq (hl x (by simp)).1 (h.dvd_pow h1)).symm⟩
  ·obtain⟨y,h2,h3⟩:=rC.in_prod h (fun y hy=>hl y (hV _ hy)) h1;exact⟨y,hV _ h2,h3⟩
end Go.Proofs.YteaakcmkpacpaaaGreat.Gen
namespace Go.Proofs.YteaakcmkpacpaaaGreat.Jac
def sm (f:Nat→Nat):Nat→Nat
 |0=>0
 |n+1=>sm f n+f (n+1)
theorem dJ {f g:Nat→Nat}:∀n,(∀k,1≤k→k≤n→f k=g k)→sm f n=sm g n
 |0,_=>rfl
 |n+1,h=>by simp only[sm];rw[dJ n (fun k h1 h2=>h k h1 (by omega)),h (n+1) (by omega) (a6 _)]
theorem gP (f g:Nat→Nat):∀n,sm (fun k=>f k+g k) n=sm f n+sm g n
 |0=>rfl
 |n+1=>by simp only[sm];rw[gP f g n];omega
theorem M1 (c:Nat)(f:Nat→Nat):∀n,sm (fun k=>c*f k) n=c*sm f n
 |0=>by simp[sm]
 |n+1=>by simp only[sm];rw[M1 c f n,yo]
theorem vg {f g:Nat→Nat}:∀n,(∀k,1≤k→k≤n→f k%2=g k%2)→sm f n%2=sm g n%2
 |0,_=>rfl
 |n+1,h=>by simp only[sm];have h1:=vg n (fun k h1 h2=>h k h1 (by omega));have h2:=h (n+1) (by omega) (a6 _);omega
theorem oK (c:Nat):∀n,sm (fun _=>c) n=c*n
 |0=>rfl
 |n+1=>by simp only[sm];rw[oK c n,Nat.mul_succ]
theorem yr (f:Nat→Nat→Nat)(m:Nat):∀n,sm (fun k=>sm (fun j=>f k j) m) n=sm (fun j=>sm (fun k=>f k j) n) m
 |0=>by
  have:∀m,sm (fun _=>0) m=0:=fun m=>by rw[oK];simp
  simp only[sm];rw[this]
 |n+1=>by simp only[sm];rw[yr f m n,←gP]
theorem kc (f:Nat→Nat):∀n,sm f n=((List.range' 1 n).map f).sum
 |0=>rfl
 |n+1=>by rw[gp,r8,List.sum_append];simp only[sm,p6,cx,pn,List.sum_nil];rw[kc f n,Nat.add_comm 1 n];simp
theorem lU:∀(l m:List Nat),l.Nodup→(∀x∈l,x∈m)→l.length≤m.length
 | [],m,_,_=>C1 _
 |x::l,m,hn,hs=>by obtain⟨h1,h2⟩:=il.mp hn;have hx:=hs x (by simp);have ih:=lU l (m.erase x) h2 (fun y hy=>(w9 (fun(e:y=x)=>h1 (by rw[←e];exact hy))).mpr (hs y (by simp[hy])));rw[e9 hx]at ih;have:=bc hx;simp only[u4];omega
theorem jh {l m:List Nat}(h1:l.Nodup)(h2:m.Nodup)(hs:∀x∈l,x∈m)(hl:m.length≤l.length):l.Perm m:=by
 rw[List.perm_iff_count];have back:∀y∈m,y∈l:=by intro y hy;apply Classical.byContradiction;intro hn;have:=lU l (m.erase y) h1 (fun x hx=>(w9 (fun(e:x=y)=>hn (by rw[←e];exact hx))).mpr (hs x hx));rw[e9 hy]at this;have:=bc hy;omega
 intro a;by_cases ha:a∈l
 ·rw[List.Nodup.count h1,List.Nodup.count h2,if_pos ha,if_pos (hs a ha)]
 ·rw[List.count_eq_zero.mpr ha,List.count_eq_zero.mpr (fun h=>ha (back a h))]
theorem yq {r:Nat→Nat}(f:Nat→Nat)(n:Nat)(h1:∀k,1≤k→k≤n→1≤r k∧r k≤n)(h2:∀j k,1≤j→j≤n→1≤k→k≤n→r j=r k→j=k):sm (fun k=>f (r k)) n=sm f n:=by
 have hp:((List.range' 1 n).map r).Perm (List.range' 1 n):=by
  refine jh ?_ k8 (fun x hx=>?_) (by simp)
  ·rw[List.Nodup,y4];refine List.Pairwise.imp_of_mem ?_ (k8 (s:=1) (n:=n));intro a b ha hb hne e;rw[x4]at ha hb;exact hne (h2 a b (by omega) (by omega) (by omega) (by omega) e)
  ·obtain⟨k,hk,rfl⟩:=o0.mp hx;rw[x4]at hk⊢;have:=h1 k (by omega) (by omega);omega
 rw[kc,kc];have:=(hp.map f).sum_nat;rw[List.map_map]at this;exact this
def neg (n x:Nat):Nat:=if n<2*(x%n)then 1 else 0
def ro (n x:Nat):Nat:=if n<2*(x%n)then n-x%n else x%n
def mu (a n:Nat):Nat:=sm (fun k=>neg n (a*k)) (n/2)
theorem uf {a n k:Nat}(hc:Nat.gcd a n=1)(h1:1≤k)(h2:k<n):(a*k)%n≠0:=by
 intro h;have hd:=xK h;have:=Nat.Coprime.dvd_of_dvd_mul_left (show Nat.Coprime n a by rw[Nat.Coprime,b7];exact hc) hd;have:=p5 (by omega) this;omega
theorem zS {a n k:Nat}(hn:n%2=1)(hc:Nat.gcd a n=1)(h1:1≤k)(h2:k≤n/2):1≤ro n (a*k)∧ro n (a*k)≤n/2:=by
 have h3:=uf hc h1 (show k<n by omega);have h4:=q7 (a*k) (show 0<n by omega);unfold ro;split<;>omega
theorem uq {a n j k:Nat}(hn:n%2=1)(hc:Nat.gcd a n=1)(j1:1≤j)(j2:j≤n/2)(k1:1≤k)(k2:k≤n/2)(e:ro n (a*j)=ro n (a*k)):j=k:=by
 have hcop:Nat.Coprime n a:=by rw[Nat.Coprime,b7];exact hc
 have m1:=q7 (a*j) (show 0<n by omega);have m2:=q7 (a*k) (show 0<n by omega);have sumc:(a*j)%n+(a*k)%n≠n:=by
  intro h;have:(a*(j+k))%n=0:=by rw[yo,gw,h,zs]
  exact uf hc (show 1≤j+k by omega) (by omega) this
 have same:(a*j)%n=(a*k)%n→j=k:=by
  intro h;rcases tx j k with q|q|q
  ·exfalso;have:(a*(k-j))%n=0:=by
    rw[yp];exact aa h.symm
   exact uf hc (show 1≤k-j by omega) (by omega) this
  ·exact q
  ·exfalso;have:(a*(j-k))%n=0:=by
    rw[yp];exact aa h
   exact uf hc (show 1≤j-k by omega) (by omega) this
 unfold ro at e;split at e<;>split at e
 ·exact same (by omega)
 ·exfalso;exact sumc (by omega)
 ·exfalso;exact sumc (by omega)
 ·exact same e
theorem mZ {a n:Nat}(hn:n%2=1)(hc:Nat.gcd a n=1):(mu a n+sm (fun k=>a*k/n) (n/2)+(a+1)*sm (fun k=>k) (n/2))%2=0:=by
 have key:sm (fun k=>a*k+(a*k/n+(neg n (a*k)+ro n (a*k)))) (n/2)%2=sm (fun _=>0) (n/2)%2:=by
  apply vg;intro k h1 h2;have hm:=sq (a*k) n;have hlt:=q7 (a*k) (show 0<n by omega);have hr:(neg n (a*k)+ro n (a*k))%2=((a*k)%n)%2:=by unfold neg ro;split<;>omega
  generalize hq:a*k/n=q at*;generalize hr2:(a*k)%n=r at*;generalize neg n (a*k)+ro n (a*k)=v at*;have e:(n*q)%2=q%2:=by rw[k7,hn];simp
  omega
 rw[gP,gP,gP,oK]at key;have e1:sm (fun k=>a*k) (n/2)=a*sm (fun k=>k) (n/2):=M1 a (fun k=>k) _;have e2:sm (fun k=>ro n (a*k)) (n/2)=sm (fun k=>k) (n/2):=yq (r:=fun k=>ro n (a*k)) (fun k=>k) (n/2) (fun k h1 h2=>zS hn hc h1 h2) (fun j k j1 j2 k1 k2 e=>uq hn hc j1 j2 k1 k2 e);rw[e1,e2]at key;unfold mu;rw[zx,bn];omega
theorem Nt {n a x:Nat}(hn:n%2=1)(hx:(a*ro n x)%n≠0):neg n (a*x)%2=(neg n x+neg n (a*ro n x))%2:=by
 have hp:0<n:=by omega
 have hx2:=q7 x hp;have e0:(a*x)%n=(a*(x%n))%n:=by rw[k7,k7 a (x%n),zz]
 by_cases h:n<2*(x%n)
 ·have hr:ro n x=n-x%n:=by unfold ro;rw[if_pos h]
  have h1:neg n x=1:=by unfold neg;rw[if_pos h]
  rw[hr]at hx⊢;have hs:((a*(x%n))%n+(a*(n-x%n))%n)%n=0:=by rw[←gw,←yo,show x%n+(n-x%n)=n by omega,Nat.mul_mod_left]
  have l1:=q7 (a*(x%n)) hp;have l2:=q7 (a*(n-x%n)) hp;have hsum:(a*(x%n))%n+(a*(n-x%n))%n=n:=by
   rcases pC ((a*(x%n))%n+(a*(n-x%n))%n) n with q|q
   ·rw[yK q]at hs;omega
   ·rw[Nat.mod_eq_sub_mod q,yK (by omega)]at hs;omega
  rw[h1];unfold neg;rw[e0];split<;>split<;>omega
 ·have hr:ro n x=x%n:=by unfold ro;rw[if_neg h]
  have h1:neg n x=0:=by unfold neg;rw[if_neg h]
  rw[hr,h1,vx];unfold neg;rw[e0]
theorem iK {a b n:Nat}(hn:n%2=1)(ha:Nat.gcd a n=1)(hb:Nat.gcd b n=1):mu (a*b) n%2=(mu a n+mu b n)%2:=by
 have h1:mu (a*b) n%2=sm (fun k=>neg n (b*k)+neg n (a*ro n (b*k))) (n/2)%2:=by unfold mu;apply vg;intro k k1 k2;rw[o4];apply Nt hn;have:=zS hn hb k1 k2;exact uf ha this.1 (by omega)
 rw[h1,gP];have h2:sm (fun k=>neg n (a*ro n (b*k))) (n/2)=sm (fun k=>neg n (a*k)) (n/2):=yq (r:=fun k=>ro n (b*k)) (fun x=>neg n (a*x)) (n/2) (fun k h1 h2=>zS hn hb h1 h2) (fun j k j1 j2 k1 k2 e=>uq hn hb j1 j2 k1 k2 e);rw[h2];unfold mu;omega
theorem iJ (a n:Nat):mu (a%n) n=mu a n:=by
 unfold mu;apply dJ;intro k _ _;unfold neg;rw[k7,zz,←k7]
theorem R0:∀n,2*sm (fun k=>k) n=n*(n+1)
 |0=>rfl
 |n+1=>by simp only[sm];rw[yo,R0 n,←zx,hW]
theorem fN {n:Nat}(hn:n%2=1):Nat.gcd 2 n=1:=by rw[zy,hn];rfl
theorem Ry {n:Nat}(hn:n%2=1):mu 2 n%2=sm (fun k=>k) (n/2)%2:=by
 have h:=mZ (a:=2) hn (fN hn);have e:sm (fun k=>2*k/n) (n/2)=sm (fun _=>0) (n/2):=dJ _ (fun k h1 h2=>Nat.div_eq_of_lt (by omega));rw[e,oK]at h;omega
theorem jf {n:Nat}(hn:n%2=1):mu 2 n%2=if n%8=1∨n%8=7 then 0 else 1:=by
 rw[Ry hn];have h:=R0 (n/2);generalize sm (fun k=>k) (n/2)=t at h;obtain⟨q,r,hq,hr⟩:∃q r,n=8*q+r∧r<8:=⟨n/8,n%8,by omega,by omega⟩
 have hodd:r%2=1:=by omega
 have hn2:n/2=4*q+r/2:=by omega
 rw[hn2]at h;have e8:n%8=r:=by omega
 rw[e8];have e:(4*q+r/2)*(4*q+r/2+1)=4*(4*(q*q)+2*(q*(r/2))+q)+(r/2)*(r/2+1):=by grind
 rw[e]at h;rcases(show r=1∨r=3∨r=5∨r=7 by omega)with k|k|k|k<;>subst k<;>simp at h⊢ <;>omega
theorem R7 {n x:Nat}(hn:0<n)(hx:x%n≠0):∀g,sm (fun j=>if n*j<x then 1 else 0) g=min g (x/n)
 |0=>by simp[sm]
 |g+1=>by
  simp only[sm];rw[R7 hn hx g];have hd:=sq x n;have hl:=q7 x hn;by_cases h:n*(g+1)<x
  ·rw[if_pos h];have:g+1≤x/n:=(Nat.le_div_iff_mul_le hn).mpr (by rw[hW];omega);omega
  ·rw[if_neg h];have:x/n<g+1:=(zc hn).mpr (by
    rw[hW];have hne:x≠n*(g+1):=fun e=>hx (by rw[e,bx]);omega)
   omega
theorem No {m n:Nat}(hm:m%2=1)(hn:n%2=1)(hc:Nat.gcd m n=1):sm (fun k=>m*k/n) (n/2)+sm (fun j=>n*j/m) (m/2)=(m/2)*(n/2):=by
 have half:∀{a b:Nat},a%2=1→b%2=1→Nat.gcd a b=1→∀k,1≤k→k≤b/2→a*k/b=sm (fun j=>if b*j<a*k then 1 else 0) (a/2):=by
  intro a b ha hb hab k k1 k2;rw[R7 (by omega) (uf hab k1 (by omega))];have:a*k/b<a/2+1:=(zc (by omega)).mpr (by
   have h1:a*k≤a*(b/2):=Nat.mul_le_mul_left _ k2;have h2:a*b=2*(a*(b/2))+a:=by
    have:b=2*(b/2)+1:=by omega
    generalize b/2=h at*;subst this;grind
   have h3:(a/2+1)*b*2=a*b+b:=by
    have:a=2*(a/2)+1:=by omega
    generalize a/2=g at*;subst this;grind
   omega)
  omega
 have e1:sm (fun k=>m*k/n) (n/2)=sm (fun k=>sm (fun j=>if n*j<m*k then 1 else 0) (m/2)) (n/2):=dJ _ (fun k h1 h2=>half hm hn hc k h1 h2);have e2:sm (fun j=>n*j/m) (m/2)=sm (fun j=>sm (fun k=>if m*k<n*j then 1 else 0) (n/2)) (m/2):=dJ _ (fun k h1 h2=>half hn hm (by rw[b7];exact hc) k h1 h2);rw[e1,e2,yr,←gP];have e3:sm (fun j=>sm (fun k=>if n*j<m*k then 1 else 0) (n/2)+sm (fun k=>if m*k<n*j then 1 else 0) (n/2)) (m/2)=sm (fun _=>n/2) (m/2):=by
  apply dJ;intro j j1 j2;rw[←gP];have:sm (fun k=>(if n*j<m*k then 1 else 0)+(if m*k<n*j then 1 else 0)) (n/2)=sm (fun _=>1) (n/2):=by apply dJ;intro k k1 k2;have hne:m*k≠n*j:=fun e=>uf hc k1 (show k<n by omega) (by rw[e,bx]);split<;>split<;>omega
  rw[this,oK,bn]
 rw[e3,oK,hW]
theorem E3 {m n:Nat}(hm:m%2=1)(hn:n%2=1)(hc:Nat.gcd m n=1):(mu m n+mu n m)%2=((m/2)*(n/2))%2:=by
 have h1:=mZ (a:=m) hn hc;have h2:=mZ (a:=n) hm (by rw[b7];exact hc);have h3:=No hm hn hc;have e1:((m+1)*sm (fun k=>k) (n/2))%2=0:=by rw[k7,show(m+1)%2=0 by omega];simp
 have e2:((n+1)*sm (fun k=>k) (m/2))%2=0:=by rw[k7,show(n+1)%2=0 by omega];simp
 omega
theorem rP {m n:Nat}(hm:m%2=1)(hn:n%2=1)(hc:Nat.gcd m n=1):(mu m n+mu n m)%2=if m%4=3∧n%4=3 then 1 else 0:=by
 rw[E3 hm hn hc,k7];rcases(show m%4=1∨m%4=3 by omega)with a|a<;>rcases(show n%4=1∨n%4=3 by omega)with b|b
 ·have:m/2%2=0:=by omega
  simp[a,b,this]
 ·have:m/2%2=0:=by omega
  simp[a,b,this]
 ·have:n/2%2=0:=by omega
  simp[a,b,this]
 ·have h1:m/2%2=1:=by omega
  have h2:n/2%2=1:=by omega
  simp[a,b,h1,h2]
theorem Rx {n:Nat}(hn:n%2=1):mu (n-1) n=n/2:=by
 unfold mu;have:sm (fun k=>neg n ((n-1)*k)) (n/2)=sm (fun _=>1) (n/2):=dJ _ (fun k h1 h2=>by
  unfold neg;have e:(n-1)*k=n*(k-1)+(n-k):=by
   obtain⟨j,rfl⟩:∃j,k=j+1:=⟨k-1,by omega⟩
   obtain⟨i,rfl⟩:∃i,n=i+1:=⟨n-1,by omega⟩
   simp only[kt];have:i+1- (j+1)=i-j:=by omega
   rw[this];have hij:j≤i:=by omega
   obtain⟨d,rfl⟩:=Nat.le.dest hij;rw[Nat.add_sub_cancel_left];grind
  rw[e,xo,yK (by omega),if_pos (by omega)])
 rw[this,oK,bn]
def Pr (p:Nat):Prop:=2≤p∧∀d,d∣p→d=1∨d=p
theorem Pr.cop {p x:Nat}(hp:Pr p)(h:x%p≠0):Nat.gcd x p=1:=by
 rcases hp.2 _ (bw x p)with e|e
 ·exact e
 ·exact absurd (o1 (by have:=cz x p;rwa[e]at this)) h
theorem Pr.unit {p x:Nat}(hp:Pr p)(h1:1≤x)(h2:x<p):x%p≠0:=by rw[yK h2];omega
theorem Pr.mul {p x y:Nat}(hp:Pr p)(hx:x%p≠0)(hy:y%p≠0):(x*y)%p≠0:=by
 intro h;have hd:=xK h;have:=Nat.Coprime.dvd_of_dvd_mul_left (show Nat.Coprime p x by rw[Nat.Coprime,b7];exact hp.cop hx) hd;exact hy (o1 this)
theorem Pr.cancel {p x y z:Nat}(hp:Pr p)(hx:x%p≠0)(h:(x*y)%p=(x*z)%p):y%p=z%p:=by
 have hcop:Nat.Coprime p x:=by rw[Nat.Coprime,b7];exact hp.cop hx
 rcases Nat.le_total y z with q|q
 ·have:(x*(z-y))%p=0:=by rw[yp];exact aa h.symm
  have hd:=Nat.Coprime.dvd_of_dvd_mul_left hcop (xK this);obtain⟨k,hk⟩:=hd;have:z=y+p*k:=by omega
  rw[this,iv]
 ·have:(x*(y-z))%p=0:=by rw[yp];exact aa h
  have hd:=Nat.Coprime.dvd_of_dvd_mul_left hcop (xK this);obtain⟨k,hk⟩:=hd;have:y=z+p*k:=by omega
  rw[this,iv]
theorem Pr.div {p x c:Nat}(hp:Pr p)(hx:x%p≠0)(hc:c%p≠0):∃y,1≤y∧y<p∧(x*y)%p=c%p:=by
 have h2:=hp.1;have hperm:((List.range' 1 (p-1)).map fun y=>(x*y)%p).Perm (List.range' 1 (p-1)):=by
  refine jh ?_ k8 (fun z hz=>?_) (by simp)
  ·rw[List.Nodup,y4];refine List.Pairwise.imp_of_mem ?_ (k8 (s:=1) (n:=p-1));intro a b ha hb hne e;rw[x4]at ha hb;have:=hp.cancel hx e;rw[yK (by omega),yK (by omega)]at this;exact hne this
  ·obtain⟨y,hy,rfl⟩:=o0.mp hz;rw[x4]at hy⊢;have h:=hp.mul hx (hp.unit (x:=y) (by omega) (by omega));have:=q7 (x*y) (show 0<p by omega);omega
 have hm:c%p∈List.range' 1 (p-1):=by rw[x4];have:=q7 c (show 0<p by omega);omega
 obtain⟨y,hy,e⟩:=o0.mp (hperm.mem_iff.mpr hm);rw[x4]at hy;exact⟨y,by omega,by omega,e⟩
theorem Eu {p c:Nat}(σ:Nat→Nat):∀(m:Nat) (L:List Nat),L.length≤m→L.Nodup→(∀x∈L,σ x∈L∧σ x≠x∧σ (σ x)=x∧(x*σ x)%p=c%p)→L.length%2=0∧L.prod%p=c^(L.length/2)%p
 |_,[],_,_,_=>by simp
 |0,x::L,h,_,_=>by simp at h
 |m+1,x::T,hm,hn,hs=>by
  obtain⟨hx,hT⟩:=il.mp hn;obtain⟨s1,s2,s3,s4⟩:=hs x (by simp);have hy:σ x∈T:=by
   rcases w6.mp s1 with h|h
   ·exact absurd h s2
   ·exact h
  have hle:(T.erase (σ x)).length=T.length-1:=e9 hy;have hpos:=bc hy;have hnd:(T.erase (σ x)).Nodup:=hT.erase _;have hmem:∀z∈T.erase (σ x),z∈T∧z≠σ x:=fun z hz=>⟨List.mem_of_mem_erase hz,fun e=>by subst e;exact(List.Nodup.not_mem_erase hT) hz⟩
  obtain⟨i1,i2⟩:=Eu (p:=p) (c:=c) σ m (T.erase (σ x)) (by simp at hm;omega) hnd (fun z hz=>by
   obtain⟨z1,z2⟩:=hmem z hz;obtain⟨t1,t2,t3,t4⟩:=hs z (by simp[z1]);refine⟨?_,t2,t3,t4⟩;have n1:σ z≠x:=fun e=>z2 (by rw[←e,t3]);have n2:σ z≠σ x:=fun e=>hx (by have:=congrArg σ e;rw[t3,s3]at this;rw[←this];exact z1);rcases w6.mp t1 with h|h
   ·exact absurd h n1
   ·exact(w9 n2).mpr h)
  have hprod:(x::T).prod=(x*σ x)*(T.erase (σ x)).prod:=by have:=(List.perm_cons_erase hy).prod_nat;rw[zb,this,zb,o4]
  have hl:(x::T).length=(T.erase (σ x)).length+2:=by simp;omega
  rw[hl,hprod];refine⟨by omega,?_⟩;rw[k7,s4,i2,←k7,show((T.erase (σ x)).length+2)/2=(T.erase (σ x)).length/2+1 by omega,j3,hW]
theorem bP (a b:List Nat):(a++b).prod=a.prod*b.prod:=by
 induction a with
 |nil=>simp
 |cons x a ih=>simp[ih,o4]
theorem Sw {p:Nat}(hp:Pr p)(h3:3≤p):(List.range' 1 (p-1)).prod%p=(p-1)%p:=by
 have inv:∀x,2≤x→x≤p-2→∃y,2≤y∧y≤p-2∧y≠x∧(x*y)%p=1%p:=by
  intro x h1 h2;obtain⟨y,y1,y2,y3⟩:=hp.div (hp.unit (x:=x) (by omega) (by omega)) (hp.unit (x:=1) (by omega) (by omega));have n1:y≠1:=by rintro rfl;rw[tc,yK (by omega),yK (by omega)]at y3;omega
  have n2:y≠p-1:=by
   rintro rfl;have e:x*(p-1)+x=x*p:=by
    obtain⟨q,rfl⟩:∃q,p=q+1:=⟨p-1,by omega⟩
    simp[Nat.mul_succ]
   have e2:(x*(p-1)+x)%p=0:=by rw[e,Nat.mul_mod_left]
   rw[gw,y3,yK (show 1<p by omega),yK (show x<p by omega),yK (by omega)]at e2;omega
  have n3:y≠x:=by
   rintro rfl;have e:(y-1)*(y+1)+1=y*y:=by
    obtain⟨q,rfl⟩:∃q,y=q+1:=⟨y-1,by omega⟩
    simp only[kt];grind
   have e2:((y-1)*(y+1))%p≠0:=hp.mul (hp.unit (by omega) (by omega)) (hp.unit (by omega) (by omega));rw[←e]at y3;have:=q7 ((y-1)*(y+1)) (show 0<p by omega);rw[gw,yK (show 1<p by omega)]at y3;rcases pC ((y-1)*(y+1)%p+1) p with q|q
   ·rw[yK q]at y3;omega
   ·have:(y-1)*(y+1)%p+1=p:=by omega
    rw[this,zs]at y3;omega
  exact⟨y,by omega,by omega,n3,y3⟩
 have hu:∀x y z,2≤x→x≤p-2→2≤y→y≤p-2→2≤z→z≤p-2→(x*y)%p=1%p→(x*z)%p=1%p→y=z:=by intro x y z x1 x2 y1 y2 z1 z2 e1 e2;have:=hp.cancel (hp.unit (x:=x) (by omega) (by omega)) (e1.trans e2.symm);rwa[yK (by omega),yK (by omega)]at this
 let σ:Nat→Nat:=fun x=>if h:2≤x∧x≤p-2 then Classical.choose (inv x h.1 h.2)else 0
 have hσ:∀x,2≤x→x≤p-2→2≤σ x∧σ x≤p-2∧σ x≠x∧(x*σ x)%p=1%p:=by intro x h1 h2;have:=Classical.choose_spec (inv x h1 h2);simp only[σ,dif_pos (And.intro h1 h2)];exact this
 have hmid:=(Eu (p:=p) (c:=1) σ _ (List.range' 2 (p-3)) (a6 _) k8 (fun x hx=>by rw[x4]at hx;obtain⟨a1,a2,a3,a4⟩:=hσ x (by omega) (by omega);obtain⟨b1,b2,b3,b4⟩:=hσ (σ x) a1 a2;refine⟨by rw[x4];omega,a3,?_,a4⟩;exact hu (σ x) _ _ a1 a2 b1 b2 (by omega) (by omega) b4 (by rw[hW];exact a4))).2;rw[Nat.one_pow]at hmid;have hsplit:List.range' 1 (p-1)=1::(List.range' 2 (p-3)++[p-1]):=by
  obtain⟨q,rfl⟩:∃q,p=q+3:=⟨p-3,by omega⟩
  have e1:q+3-1=(q+1)+1:=by omega
  rw[e1,List.range'_succ,gp];have e2:q+3-3=q:=by omega
  rw[e2];congr 2;congr 1;omega
 rw[hsplit,zb,bP,bn,k7,hmid];simp
theorem yZ (f:Nat→Nat):∀n,((List.range' 1 (n+1)).map f).prod=((List.range' 1 n).map f).prod*f (n+1):=by
 intro n;rw[gp,r8,bP,Nat.add_comm 1 n];simp
theorem xa {p n:Nat}(hp:Pr p)(h3:3≤p)(hodd:p%2=1)(hn:n%p≠0):n^(p/2)%p=(p-1)^mu n p%p:=by
 have hc:=hp.cop hn;have step:∀h,h≤p/2→(n^h*((List.range' 1 h).map fun k=>k).prod)%p=((p-1)^sm (fun k=>neg p (n*k)) h*((List.range' 1 h).map fun k=>ro p (n*k)).prod)%p:=by
  intro h;induction h with
  |zero=>intro _;rfl
  |succ h ih=>
   intro hh;have ih:=ih (by omega);rw[yZ,yZ];simp only[sm];have hlt:=q7 (n*(h+1)) (show 0<p by omega);have e1:n^(h+1)*((List.map (fun k=>k) (List.range' 1 h)).prod*(h+1))=(n^h*(List.map (fun k=>k) (List.range' 1 h)).prod)*(n*(h+1)):=by rw[j3];grind
   have e2:(p-1)^(sm (fun k=>neg p (n*k)) h+neg p (n*(h+1)))*((List.map (fun k=>ro p (n*k)) (List.range' 1 h)).prod*ro p (n*(h+1)))=((p-1)^sm (fun k=>neg p (n*k)) h*(List.map (fun k=>ro p (n*k)) (List.range' 1 h)).prod)*((p-1)^neg p (n*(h+1))*ro p (n*(h+1))):=by rw[Nat.pow_add];grind
   rw[e1,e2,k7,ih];have e3:(n*(h+1))%p=((p-1)^neg p (n*(h+1))*ro p (n*(h+1)))%p:=by
    unfold neg ro;split
    ·rw[ys];generalize(n*(h+1))%p=r at*;have e4:(p-1)*(p-r)=p*(p-r-1)+r:=by
      obtain⟨q,rfl⟩:∃q,p=q+r+1:=⟨p-r-1,by omega⟩
      have a1:q+r+1-r=q+1:=by omega
      rw[a1];simp only[kt];grind
     rw[e4,xo,yK hlt]
    ·rw[sr,bn,zz]
   rw[e3,←k7]
 have h:=step (p/2) (a6 _);have hperm:((List.range' 1 (p/2)).map fun k=>ro p (n*k)).Perm (List.range' 1 (p/2)):=by
  refine jh ?_ k8 (fun x hx=>?_) (by simp)
  ·rw[List.Nodup,y4];refine List.Pairwise.imp_of_mem ?_ (k8 (s:=1) (n:=p/2));intro a b ha hb hne e;rw[x4]at ha hb;exact hne (uq hodd hc (by omega) (by omega) (by omega) (by omega) e)
  ·obtain⟨k,hk,rfl⟩:=o0.mp hx;rw[x4]at hk⊢;have:=zS hodd hc (show 1≤k by omega) (by omega);omega
 rw[hperm.prod_nat,List.map_id']at h;have hu:∀h,h<p→((List.range' 1 h).prod)%p≠0:=by
  intro h;induction h with
  |zero=>intro _;simp;omega
  |succ h ih=>intro hh;rw[gp,bP];exact hp.mul (ih (by omega)) (by simpa using hp.unit (x:=1+h) (by omega) (by omega))
 exact hp.cancel (hu (p/2) (by omega)) (by rw[hW,h,hW];rfl)
theorem nN {p n:Nat}(hp:Pr p)(h3:3≤p)(hodd:p%2=1)(hn:n%p≠0):(∃x,1≤x∧x<p∧(x*x)%p=n%p)↔mu n p%2=0:=by
 constructor
 ·rintro⟨x,x1,x2,x3⟩;have hx:=hp.cop (hp.unit x1 x2);have:=iK hodd hx hx;rw[←iJ,x3,iJ]at this;omega
 ·intro hm;apply Classical.byContradiction;intro hno;have inv:∀x,1≤x→x<p→∃y,1≤y∧y<p∧(x*y)%p=n%p:=fun x h1 h2=>hp.div (hp.unit h1 h2) hn
  let σ:Nat→Nat:=fun x=>if h:1≤x∧x<p then Classical.choose (inv x h.1 h.2)else 0
  have hσ:∀x,1≤x→x<p→1≤σ x∧σ x<p∧(x*σ x)%p=n%p:=by intro x h1 h2;have:=Classical.choose_spec (inv x h1 h2);simp only[σ,dif_pos (And.intro h1 h2)];exact this
  have hprod:=(Eu (p:=p) (c:=n) σ _ (List.range' 1 (p-1)) (a6 _) k8 (fun x hx=>by rw[x4]at hx;obtain⟨a1,a2,a3⟩:=hσ x (by omega) (by omega);obtain⟨b1,b2,b3⟩:=hσ (σ x) a1 a2;refine⟨by rw[x4];omega,fun e=>hno ⟨x,by omega,by omega,by rw[e]at a3;exact a3⟩,?_,a3⟩;have:=hp.cancel (hp.unit a1 a2) (b3.trans (by rw[hW];exact a3.symm));rwa[yK b2,yK (by omega)]at this)).2;rw[Sw hp h3,List.length_range',show(p-1)/2=p/2 by omega,xa hp h3 hodd hn]at hprod;obtain⟨k,hk⟩:∃k,mu n p=2*k:=⟨mu n p/2,by omega⟩
  have hsq:(p-1)*(p-1)=p*(p-2)+1:=by
   obtain⟨q,rfl⟩:∃q,p=q+2:=⟨p-2,by omega⟩
   have a1:q+2-1=q+1:=by omega
   have a2:q+2-2=q:=by omega
   rw[a1,a2];grind
  have hone:∀k,(p-1)^(2*k)%p=1%p:=by
   intro k;induction k with
   |zero=>rfl
   |succ k ih=>rw[show 2*(k+1)=2*k+1+1 by omega,j3,j3,o4,k7,ih,hsq,xo,←k7]
  rw[hk,hone,yK (show p-1<p by omega),yK (show 1<p by omega)]at hprod;omega
open Go Go.Proofs.YteaakcmkpacpaaaGreat.Ev
theorem gA {n:Int}(h1: -9223372036854775808≤n)(h2:n<9223372036854775808):aA n=n:=by
 simp only[aA,IntKind.wrap];simp[IntKind.bits,IntKind.signed];omega
theorem sA {n:Int}(h1:0≤n)(h2:n<18446744073709551616):nA n=n:=by
 simp only[nA,IntKind.wrap];simp[IntKind.bits,IntKind.signed];omega
theorem Cc {x:Nat}(h:x<18446744073709551616)(k:Nat)(hk:k≤32):mB .u64 (x:Int) ((2^k-1:Nat):Int)=((x%2^k:Nat):Int):=by
 have hp:(2:Nat)^k≤2^32:=zg (by decide) hk;have hp0:0<(2:Nat)^k:=fo (by decide);have t1:(BitVec.ofInt 64 (x:Int)).toNat=x:=by simp[td];omega
 have t2:(BitVec.ofInt 64 ((2^k-1:Nat):Int)).toNat=2^k-1:=by rw[td];omega
 have e:(BitVec.ofInt 64 (x:Int)&&& BitVec.ofInt 64 ((2^k-1:Nat):Int)).toNat=x%2^k:=by rw[BitVec.toNat_and,t1,t2,sl]
 have hlt:x%2^k<2^k:=q7 _ hp0;show IntKind.wrap .u64 ((BitVec.ofInt 64 (x:Int)&&& BitVec.ofInt 64 ((2^k-1:Nat):Int)).toNat:Int)=_;rw[e];have w:IntKind.wrap .u64 ((x%2^k:Nat):Int)=nA ((x%2^k:Nat):Int):=rfl;rw[w,sA (by omega) (by omega)]
theorem Ri {x:Nat}(h:x<18446744073709551616):mB .u64 (x:Int) 1=((x%2:Nat):Int):=Cc h 1 (by decide)
theorem T9 {x:Nat}(h:x<18446744073709551616):mB .u64 (x:Int) 3=((x%4:Nat):Int):=Cc h 2 (by decide)
theorem U9 {x:Nat}(h:x<18446744073709551616):mB .u64 (x:Int) 7=((x%8:Nat):Int):=Cc h 3 (by decide)
def tL (m:Nat):Int:=if m%2=0 then 1 else-1
theorem jz (a b:Nat):tL (a+b)=tL a*tL b:=by
 unfold tL;rw[gw];rcases(show a%2=0∨a%2=1 by omega)with h|h<;>rcases(show b%2=0∨b%2=1 by omega)with k|k<;>rw[h,k]<;>decide
theorem wP {a b:Nat}(h:a%2=b%2):tL a=tL b:=by unfold tL;rw[h]
theorem ka (m:Nat):tL m=1∨tL m= -1:=by unfold tL;split<;>simp
theorem Bm (N:Nat){k:Nat}(h:k<18446744073709551616)(hk:k%2=1):Q66.f N (k:Int)=some (tL (mu 2 k)):=by
 unfold Q66.f;rw[U9 h];have hm:=jf hk;unfold tL;rw[hm];rcases(show k%8=1∨k%8=3∨k%8=5∨k%8=7 by omega)with e|e|e|e<;>rw[e]<;>rfl
theorem Ph (N:Nat){k:Nat}(hk:k%2=1)(hk2:k<18446744073709551616):∀(n b:Nat) (s:Int),1≤b→b<n→b<18446744073709551616→Nat.gcd b k=1→(s=1∨s= -1)→
  ∃(s':Int) (b':Nat),(s'=1∨s'= -1)∧b'%2=1∧b'≤b∧Nat.gcd b' k=1∧s'*tL (mu b' k)=s*tL (mu b k)∧∀{R:Type} (K:Int→Int→Int→Option R),Q67.l19 N n s (k:Int) (b:Int) K=K s' (k:Int) (b':Int):=by
 intro n;induction n with
 |zero=>intro b s h1 h2;omega
 |succ n ih=>
  intro b s h1 h2 h3 hc hs;rcases(show b%2=1∨b%2=0 by omega)with e|e
  ·refine⟨s,b,hs,e,a6 _,hc,rfl,fun K=>?_⟩;rw[Q67.l19,Ri h3,e];rfl
  ·obtain⟨c,rfl⟩:∃c,b=2*c:=⟨b/2,by omega⟩
   have hcc:Nat.gcd c k=1:=Nat.Coprime.coprime_mul_left hc;have h2k:=fN hk;have hst:s*tL (mu 2 k)=1∨s*tL (mu 2 k)= -1:=by rcases hs with q|q<;>rcases ka (mu 2 k)with w|w<;>rw[q,w]<;>simp
   obtain⟨s',b',r1,r2,r3,r4,r5,r6⟩:=ih c (s*tL (mu 2 k)) (by omega) (by omega) (by omega) hcc hst;refine⟨s',b',r1,r2,by omega,r4,?_,fun K=>?_⟩
   ·rw[r5,wP (iK hk h2k hcc),jz];grind
   ·rw[Q67.l19,Ri h3,e];have w:aA (s*tL (mu 2 k))=s*tL (mu 2 k):=gA (by omega) (by omega);have e1:Int.fdiv ((2*c:Nat):Int) (2^1)=(c:Int):=by
     rw[Int.fdiv_eq_ediv_of_nonneg _ (by decide)];omega
    have e2:(((0:Nat):Int)==0)=true:=rfl;rw[e2,cond_true,Bm N hk2 hk,aE,w,e1];exact r6 K
theorem Nn (N:Nat)(hN:8589934600<N):∀(n b k:Nat) (s:Int),b<n→b<k→k%2=1→k<4294967296→Nat.gcd b k=1→(s=1∨s= -1)→∀{R:Type} (K:Int→Int→Option R),Q67.l18 N n s (k:Int) (b:Int) K=K (s*tL (mu b k)) 1:=by
 intro n;induction n with
 |zero=>intro b k s h1;omega
 |succ n ih=>
  intro b k s h1 h2 h3 h4 hc hs R K;by_cases hb:b=0
  ·subst hb;rw[Nat.gcd_zero_left]at hc;subst hc;have:mu 0 1=0:=rfl;rw[Q67.l18,this];have e:tL 0=1:=rfl;rw[e,Int.mul_one];rfl
  ·obtain⟨s',b',r1,r2,r3,r4,r5,r6⟩:=Ph N h3 (by omega) N b s (by omega) (by omega) (by omega) hc hs;have c1:((b:Int) != 0)=true:=by simp;omega
   have c2:((b':Int)==0)=false:=by simp;omega
   have hcb:Nat.gcd k b'=1:=by rw[b7];exact r4
   have hmod:Nat.gcd (k%b') b'=1:=by rw[←zy,b7];exact hcb
   have hlt:=q7 k (show 0<b' by omega);have et:Int.tmod (k:Int) (b':Int)=((k%b':Nat):Int):=by rw[hE (by omega)];rfl
   have hrec:=rP r2 h3 r4;have hmm:=iJ k b';rw[Q67.l18,c1,cond_true,r6];rw[T9 (show b'<18446744073709551616 by omega),T9 (show k<18446744073709551616 by omega)];by_cases hq:b'%4=3∧k%4=3
   ·rw[if_pos hq]at hrec;have hw:aA (0-s')= -s':=by rw[gA (by omega) (by omega)];omega
    have f1:(((b'%4:Nat):Int)==3)=true:=by rw[hq.1];rfl
    have f2:(((k%4:Nat):Int)==3)=true:=by rw[hq.2];rfl
    rw[f1,cond_true,f2,cond_true,c2,au,cond_true,hw,et];rw[ih (k%b') b' (-s') (by omega) (by omega) r2 (by omega) hmod (by omega),hmm,←r5];congr 1;have:tL (mu b' k)= -tL (mu k b'):=by unfold tL;split<;>split<;>omega
    rw[this];grind
   ·rw[if_neg hq]at hrec;have hsame:tL (mu b' k)=tL (mu k b'):=wP (by omega);have bN:Q67.l18 N n s' (b':Int) ((k%b':Nat):Int) K=K (s*tL (mu b k)) 1:=by
     rw[ih (k%b') b' s' (by omega) (by omega) r2 (by omega) hmod r1,hmm,←r5,hsame]
    by_cases f1:b'%4=3
    ·have f2:¬k%4=3:=fun e=>hq ⟨f1,e⟩;have g1:(((b'%4:Nat):Int)==3)=true:=by rw[f1];rfl
     have g2:(((k%4:Nat):Int)==3)=false:=by simp;omega
     rw[g1,cond_true,g2,cond_false,c2,au,cond_true,et];exact bN
    ·have g1:(((b'%4:Nat):Int)==3)=false:=by simp;omega
     rw[g1,cond_false,c2,au,cond_true,et];exact bN
def rs (a:Int)(n:Nat):Nat:=(a%(n:Int)).toNat
theorem uI (a:Int){n:Nat}(hn:0<n):((rs a n:Nat):Int)=a%(n:Int):=by
 have:=wi a (show(n:Int)≠0 by omega);unfold rs;omega
theorem ey (a:Int){n:Nat}(hn:0<n):rs a n<n:=by
 have h1:=uI a hn;have h2:=te a (show 0<(n:Int) by omega);omega
theorem eS {N:Nat}(hN:8589934600<N){a:Int}{n:Nat}(a0: -4611686018427387904≤a)(a1:a≤4611686018427387904)(hn:n%2=1)(hn2:n<4294967296)(hc:Nat.gcd (rs a n) n=1):Q67.f N a (n:Int)=some (tL (mu (rs a n) n)):=by
 have hp:0<n:=by omega
 have hr:=uI a hp;have hlt:=ey a hp;obtain⟨m,rfl⟩:∃m,N=m+1:=⟨N-1,by omega⟩
 unfold Q67.f;have c1:((n:Int)==0)=false:=by simp;omega
 have c2:decide ((n:Int)<0)=false:=decide_eq_false (by omega);have w:nA (n:Int)=(n:Int):=sA (by omega) (by omega);have c3:(((n%2:Nat):Int)==0)=false:=by rw[hn];rfl
 have c4:((1:Int)==0)=false:=rfl;have c5:((1:Int) != 1)=false:=rfl;rw[c1,cond_false,c2,cond_false,w,Q67.l10,Ri (show n<18446744073709551616 by omega),c3,cond_false,c4,cond_false,c1,au,cond_true];have key:∀r:Int,r=((rs a n:Nat):Int)→(Q67.l18 (m+1) (m+1) 1 (n:Int) r (fun y44 y45=>bif y45 != 1 then some 0 else some y44))=some (tL (mu (rs a n) n)):=by intro r e;subst e;rw[Nn (m+1) hN (m+1) (rs a n) n 1 (by omega) hlt hn hn2 hc (.inl rfl),c5,cond_false,Int.one_mul]
 by_cases ha:a<0
 ·have wa:nA a=a+18446744073709551616:=by
   simp only[nA,IntKind.wrap];simp[IntKind.bits,IntKind.signed];omega
  have wn:nA (0- (a+18446744073709551616))= -a:=by simp only[nA,IntKind.wrap];simp[IntKind.bits,IntKind.signed];omega
  have t1:Int.tmod (-a) (n:Int)=(-a)%(n:Int):=hE (by omega);have p0:=wi (-a) (show(n:Int)≠0 by omega);have p1:=te (-a) (show 0<(n:Int) by omega);have w2:nA ((n:Int)- (-a)%(n:Int))=(n:Int)- (-a)%(n:Int):=sA (by omega) (by omega);have t2:Int.tmod ((n:Int)- (-a)%(n:Int)) (n:Int)=a%(n:Int):=by
   rw[hE (by omega)];have e:(n:Int)- (-a)%(n:Int)=a+(n:Int)*((-a)/(n:Int)+1):=by
    have:=fs (-a) (n:Int);have e2:(n:Int)*((-a)/(n:Int)+1)=(n:Int)*((-a)/(n:Int))+n:=by grind
    omega
   rw[e,bt]
  rw[decide_eq_true ha,cond_true,wa,wn,t1,w2,t2];exact key _ hr.symm
 ·have wa:nA a=a:=sA (by omega) (by omega);have t1:Int.tmod a (n:Int)=a%(n:Int):=hE (by omega);rw[decide_eq_false ha,cond_false,wa,t1];exact key _ hr.symm
theorem cR {N:Nat}(hN:8589934600<N){a:Int}{p:Nat}(a0:0<a)(a1:a≤4611686018427387904)(hp:Pr p)(h3:3≤p)(hodd:p%2=1)(hp2:p≤65536)(h8:p≠8)(hc:rs a p≠0):Q99.f N a (p:Int)=some (tL (mu (rs a p) p)):=by
 have hpp:0<p:=by omega
 have hr:=uI a hpp;have hlt:=ey a hpp;have hu:rs a p%p≠0:=by rw[yK hlt];exact hc
 have hsq:=nN hp h3 hodd hu;unfold Q99.f;have c1:((p:Int)== -4)=false:=by simp<;>omega
 have c2:((p:Int)==8)=false:=by simp<;>omega
 have c3:((p:Int)== -8)=false:=by simp<;>omega
 rw[c1,cond_false,c2,cond_false,c3,cond_false];have test:∀x:Nat,x<p→((Int.tmod (aA (aA ((x:Int)*(x:Int))-a)) (p:Int)==0)=true↔(x*x)%p=rs a p%p):=by
  intro x hx;have hxx:(x:Int)*(x:Int)≤65536*65536:=sw (by omega) (by omega) (by omega) (by omega);have hx0:0≤(x:Int)*(x:Int):=c6 (by omega) (by omega);have w1:aA ((x:Int)*(x:Int))=(x:Int)*(x:Int):=gA (by omega) (by omega);have w2:aA ((x:Int)*(x:Int)-a)=(x:Int)*(x:Int)-a:=gA (by omega) (by omega);rw[w1,w2,beq_iff_eq,←Int.dvd_iff_tmod_eq_zero];have e1:((x*x:Nat):Int)=(x:Int)*(x:Int):=by simp
  rw[←e1];constructor
  ·intro h;have:=kd.mpr (ae h);rw[←hr]at this;have e2:((rs a p:Nat):Int)=((rs a p%p:Nat):Int):=by rw[yK hlt]
   rw[e2]at this;exact Int.ofNat_inj.mp (by rw[gg];exact this)
  ·intro h;have h2:((x*x%p:Nat):Int)=((rs a p%p:Nat):Int):=by rw[h]
   rw[yK hlt,hr,gg]at h2;exact c8 (kd.mp h2)
 have loop:∀(n k:Nat),k≤p→p-k<n→1≤k→(∀x,1≤x→x<k→(x*x)%p≠rs a p%p)→Q99.l15 (R:=Int) N n a (p:Int) (k:Int) (fun(_:Unit)=>some (-1)) (fun y7=>some y7)=some (tL (mu (rs a p) p)):=by
  intro n;induction n with
  |zero=>intro k _ h;omega
  |succ n ih=>
   intro k h1 h2 h3' h4;have c4:((p:Int)==0)=false:=by simp;omega
   by_cases hk:k<p
   ·have w:aA ((k:Int)+1)=((k+1:Nat):Int):=by rw[gA (by omega) (by omega)];simp
    rw[Q99.l15,decide_eq_true (show(k:Int)<(p:Int) by omega),cond_true,c4,au,cond_true];by_cases hq:(k*k)%p=rs a p%p
    ·rw[(test k hk).mpr hq,cond_true];have:mu (rs a p) p%2=0:=hsq.mp ⟨k,h3',hk,hq⟩;unfold tL;rw[if_pos this]
    ·have hf:(Int.tmod (aA (aA ((k:Int)*(k:Int))-a)) (p:Int)==0)=false:=by
      cases hb:(Int.tmod (aA (aA ((k:Int)*(k:Int))-a)) (p:Int)==0)
      ·rfl
      ·exact absurd ((test k hk).mp hb) hq
     rw[hf,cond_false,w];exact ih (k+1) (by omega) (by omega) (by omega) (fun x x1 x2=>by
      by_cases e:x=k
      ·subst e;exact hq
      ·exact h4 x x1 (by omega))
   ·rw[Q99.l15,decide_eq_false (show ¬(k:Int)<(p:Int) by omega),cond_false];have:¬mu (rs a p) p%2=0:=fun h=>by
     obtain⟨x,x1,x2,x3⟩:=hsq.mpr h;exact h4 x x1 (by omega) x3
    unfold tL;rw[if_neg this]
 exact loop N 1 (by omega) (by omega) (a6 _) (fun x x1 x2=>by omega)
theorem ux {N:Nat}(hN:8589934600<N){a:Int}{p:Nat}(a0:0<a)(a1:a≤4611686018427387904)(hp:Pr p)(h3:3≤p)(hodd:p%2=1)(hp2:p≤65536)(hc:rs a p≠0):Q67.f N a (p:Int)=Q99.f N a (p:Int):=by
 have hlt:=ey a (show 0<p by omega);rw[cR hN a0 a1 hp h3 hodd hp2 (by omega) hc,eS hN (by omega) a1 hodd (by omega) (hp.cop (by rw[yK hlt];exact hc))]
theorem xz {n:Nat}(hn:n%2=1):mu (n-1) n%2=if n%4=1 then 0 else 1:=by
 rw[Rx hn];rcases(show n%4=1∨n%4=3 by omega)with e|e
 ·rw[if_pos e];omega
 ·rw[if_neg (by omega)];omega
theorem yR {n:Nat}(hn:1≤n):Nat.gcd (n-1) n=1:=by
 obtain⟨m,rfl⟩:∃m,n=m+1:=⟨n-1,by omega⟩
 simp
theorem sk {x n:Nat}{a:Int}(hn:0<n)(hc:Nat.gcd x n=1)(h:(x:Int)%(n:Int)=a%(n:Int)):rs a n=x%n∧Nat.gcd (rs a n) n=1:=by
 have hr:=uI a hn;have e:rs a n=x%n:=by
  have:((rs a n:Nat):Int)=((x%n:Nat):Int):=by rw[hr,←h,gg]
  exact Int.ofNat_inj.mp this
 refine⟨e,?_⟩;rw[e,←zy,b7];exact hc
theorem Pa {N:Nat}(hN:8589934600<N){n:Nat}(hn:n%2=1)(hn2:n<4294967296):Q67.f N (-4) (n:Int)=Q99.f N (n:Int) (-4):=by
 have h1:1≤n:=by omega
 have h2:=fN hn;have h22:Nat.gcd (2*2) n=1:=Nat.Coprime.mul_left h2 h2;have hc:Nat.gcd ((2*2)*(n-1)) n=1:=Nat.Coprime.mul_left h22 (yR h1);obtain⟨e1,e2⟩:=sk (a:= -4) (show 0<n by omega) hc (by
  have e:(((2*2)*(n-1):Nat):Int)= -4+(n:Int)*4:=by
   obtain⟨m,rfl⟩:∃m,n=m+1:=⟨n-1,by omega⟩
   simp;omega
  rw[e,bt])
 rw[eS hN (by omega) (by omega) hn hn2 e2,e1,iJ];have m1:=iK hn h22 (yR h1);have m2:=iK hn h2 h2;have m3:=xz hn;unfold Q99.f tL;have t:Int.tmod (n:Int) 4=((n%4:Nat):Int):=by rw[hE (by omega)];rfl
 have c:((-4:Int)== -4)=true:=rfl;rw[c,cond_true,t];rcases(show n%4=1∨n%4=3 by omega)with e|e
 ·rw[if_pos e]at m3;rw[e,if_pos (by omega)];rfl
 ·rw[if_neg (by omega)]at m3;rw[e,if_neg (by omega)];rfl
theorem S9 {N:Nat}(hN:8589934600<N){n:Nat}(hn:n%2=1)(hn2:n<4294967296):Q67.f N 8 (n:Int)=Q99.f N (n:Int) 8:=by
 have h2:=fN hn;have h22:Nat.gcd (2*2) n=1:=Nat.Coprime.mul_left h2 h2;have hc:Nat.gcd ((2*2)*2) n=1:=Nat.Coprime.mul_left h22 h2;obtain⟨e1,e2⟩:=sk (a:=8) (show 0<n by omega) hc rfl;rw[eS hN (by omega) (by omega) hn hn2 e2,e1,iJ];have m1:=iK hn h22 h2;have m2:=iK hn h2 h2;have m3:=jf hn;unfold Q99.f tL;have t:Int.tmod (n:Int) 8=((n%8:Nat):Int):=by rw[hE (by omega)];rfl
 have c:((8:Int)== -4)=false:=rfl;have c':((8:Int)==8)=true:=rfl;rw[c,cond_false,c',cond_true,t];rcases(show n%8=1∨n%8=3∨n%8=5∨n%8=7 by omega)with e|e|e|e
 ·rw[if_pos (by omega)]at m3;rw[e,if_pos (by omega)];rfl
 ·rw[if_neg (by omega)]at m3;rw[e,if_neg (by omega)];rfl
 ·rw[if_neg (by omega)]at m3;rw[e,if_neg (by omega)];rfl
 ·rw[if_pos (by omega)]at m3;rw[e,if_pos (by omega)];rfl
theorem Pb {N:Nat}(hN:8589934600<N){n:Nat}(hn:n%2=1)(hn2:n<4294967296):Q67.f N (-8) (n:Int)=Q99.f N (n:Int) (-8):=by
 have h1:1≤n:=by omega
 have h2:=fN hn;have h22:Nat.gcd (2*2) n=1:=Nat.Coprime.mul_left h2 h2;have h222:Nat.gcd ((2*2)*2) n=1:=Nat.Coprime.mul_left h22 h2;have hc:Nat.gcd ((2*2)*2*(n-1)) n=1:=Nat.Coprime.mul_left h222 (yR h1);obtain⟨e1,e2⟩:=sk (a:= -8) (show 0<n by omega) hc (by
  have e:(((2*2)*2*(n-1):Nat):Int)= -8+(n:Int)*8:=by
   obtain⟨m,rfl⟩:∃m,n=m+1:=⟨n-1,by omega⟩
   simp;omega
  rw[e,bt])
 rw[eS hN (by omega) (by omega) hn hn2 e2,e1,iJ];have m0:=iK hn h222 (yR h1);have m1:=iK hn h22 h2;have m2:=iK hn h2 h2;have m3:=jf hn;have m4:=xz hn;unfold Q99.f tL;have t:Int.tmod (n:Int) 8=((n%8:Nat):Int):=by rw[hE (by omega)];rfl
 have c:((-8:Int)== -4)=false:=rfl;have c':((-8:Int)==8)=false:=rfl;have c'':((-8:Int)== -8)=true:=rfl;rw[c,cond_false,c',cond_false,c'',cond_true,t];rcases(show n%8=1∨n%8=3∨n%8=5∨n%8=7 by omega)with e|e|e|e
 ·rw[if_pos (by omega)]at m3 m4;rw[e,if_pos (by omega)];rfl
 ·rw[if_neg (by omega)]at m3 m4;rw[e,if_pos (by omega)];rfl
 ·rw[if_neg (by omega)]at m3;rw[if_pos (by omega)]at m4;rw[e,if_neg (by omega)];rfl
 ·rw[if_pos (by omega)]at m3;rw[if_neg (by omega)]at m4;rw[e,if_neg (by omega)];rfl
inductive Sy:Int→Prop
 |m4:Sy (-4)
 |p8:Sy 8
 |m8:Sy (-8)
 |pr (p:Nat) (hp:Pr p) (h3:3≤p) (ho:p%2=1) (hb:p≤65536):Sy (p:Int)
noncomputable def Tx (N:Nat)(n q:Int):Option Int:=if q= -4∨q=8∨q= -8 then Q67.f N q n else Q67.f N n q
theorem tO {n q:Int}(n0:0<n)(hq:q= -4∨q=8∨q= -8)(hc:Int.gcd n q=1):n.toNat%2=1:=by
 rcases(show n%2=0∨n%2=1 by omega)with e|e
 ·exfalso;have h1:(2:Int)∣n:=c8 e;have h2:(2:Int)∣q:=by rcases hq with h|h|h<;>subst h<;>decide
  have h3:(2:Int)∣((Int.gcd n q:Nat):Int):=rj h1 h2;rw[hc]at h3;exact absurd h3 (by decide)
 ·omega
theorem xX {N:Nat}(hN:8589934600<N){n q:Int}(hq:Sy q)(n0:0<n)(n1:n<4294967296)(hc:Int.gcd n q=1):Tx N n q=Q99.f N n q:=by
 have en:((n.toNat:Nat):Int)=n:=by omega
 unfold Tx;cases hq with
 |m4=>have ho:=tO n0 (.inl rfl) hc;rw[if_pos (.inl rfl)];have:=Pa hN ho (show n.toNat<4294967296 by omega);rwa[en]at this
 |p8=>have ho:=tO n0 (.inr (.inl rfl)) hc;rw[if_pos (.inr (.inl rfl))];have:=S9 hN ho (show n.toNat<4294967296 by omega);rwa[en]at this
 |m8=>have ho:=tO n0 (.inr (.inr rfl)) hc;rw[if_pos (.inr (.inr rfl))];have:=Pb hN ho (show n.toNat<4294967296 by omega);rwa[en]at this
 |pr p hp h3 ho hb=>
  have hne:¬((p:Int)= -4∨(p:Int)=8∨(p:Int)= -8):=by omega
  rw[if_neg hne];refine ux hN n0 (by omega) hp h3 ho hb (fun h=>?_);have hr:=uI n (show 0<p by omega);rw[h]at hr;have hd:(p:Int)∣n:=c8 hr.symm;have h4:(p:Int)∣((Int.gcd n (p:Int):Nat):Int):=rj hd (Int.dvd_refl _);rw[hc]at h4;have:=pb (by decide) h4;omega
noncomputable def zO (a c s q:Int):Int:=if Int.gcd a q=1 then a else if Int.gcd c q=1 then c else s
theorem vU (N:Nat){R:Type}{n:Nat}{q a c s:Int}(hq:Sy q){i:Nat}(hi:i<3){v:Int}(hv:[a,c,s].getD i 0=v){u w:Int}(hg:Q35.f N v q=some (((Int.gcd v q:Nat):Int),u,w))(k0:Unit→Option R)(kr:Int→Option R):
  Q72.l2 N (n+1) q a c s (i:Int) k0 kr=if Int.gcd v q=1 then(Tx N v q).bind kr else Q72.l2 N n q a c s ((i+1:Nat):Int) k0 kr:=by
 have c1:decide ((i:Int)<3)=true:=decide_eq_true (by omega);have c2:decide (0≤(i:Int))=true:=decide_eq_true (by omega);have w1:aA ((i:Int)+1)=((i+1:Nat):Int):=by rw[gA (by omega) (by omega)];simp
 rw[Q72.l2];simp only[c1,c2,cond_true,b6,y0,hv,hg,aE,w1];by_cases h:Int.gcd v q=1
 ·have h1:(((Int.gcd v q:Nat):Int) != 1)=false:=by rw[h];rfl
  rw[h1,cond_false,if_pos h];unfold Tx;by_cases e1:q= -4
  ·have f1:(q== -4)=true:=by simpa using e1
   rw[f1,cond_true,cond_true,if_pos (.inl e1)]
  ·have f1:(q== -4)=false:=by simpa using e1
   by_cases e2:q=8
   ·have f2:(q==8)=true:=by simpa using e2
    rw[f1,cond_false,f2,cond_true,cond_true,if_pos (.inr (.inl e2))]
   ·have f2:(q==8)=false:=by simpa using e2
    by_cases e3:q= -8
    ·have f3:(q== -8)=true:=by simpa using e3
     rw[f1,cond_false,f2,cond_false,f3,cond_true,if_pos (.inr (.inr e3))]
    ·have f3:(q== -8)=false:=by simpa using e3
     rw[f1,cond_false,f2,cond_false,f3,cond_false,if_neg (by omega)]
 ·have h1:(((Int.gcd v q:Nat):Int) != 1)=true:=by simp;omega
  rw[h1,cond_true,if_neg h]
theorem wU {N:Nat}(hN:8589934600<N){q a b c:Int}(hq:Sy q)(ha:0<a)(hc:0<c)(hs:0<a+b+c)(a1:a<4294967296)(c1:c<4294967296)(b0: -4294967296≤b)(b1:b≤4294967296)(s1:a+b+c<4294967296)
  (hg:∀v,v=a∨v=c∨v=a+b+c→∃u w,Q35.f N v q=some (((Int.gcd v q:Nat):Int),u,w))(hone:Int.gcd a q=1∨Int.gcd c q=1∨Int.gcd (a+b+c) q=1):
  Q72.f N a b c q=Q99.f N (zO a c (a+b+c) q) q:=by
 obtain⟨m,rfl⟩:∃m,N=m+4:=⟨N-4,by omega⟩
 obtain⟨u1,v1,g1⟩:=hg a (.inl rfl);obtain⟨u2,v2,g2⟩:=hg c (.inr (.inl rfl));obtain⟨u3,v3,g3⟩:=hg (a+b+c) (.inr (.inr rfl));have w:aA (aA (a+b)+c)=a+b+c:=by rw[gA (n:=a+b) (by omega) (by omega),gA (by omega) (by omega)]
 have bN:∀o:Option Int,o.bind (fun y18=>some y18)=o:=fun o=>by cases o<;>rfl
 unfold Q72.f zO;rw[w];have z:(0:Int)=((0:Nat):Int):=rfl;rw[show Q72.l2 (R:=Int) (m+4) (m+4) q a c (a+b+c) 0=Q72.l2 (m+4) (m+3+1) q a c (a+b+c) ((0:Nat):Int)from rfl];rw[vU (m+4) hq (show 0<3 by omega) (v:=a) rfl g1];by_cases h1:Int.gcd a q=1
 ·rw[if_pos h1,if_pos h1,bN,xX hN hq ha a1 h1]
 ·rw[if_neg h1,if_neg h1];rw[show Q72.l2 (R:=Int) (m+4) (m+3)=Q72.l2 (m+4) (m+2+1)from rfl,vU (m+4) hq (show 1<3 by omega) (v:=c) rfl g2];by_cases h2:Int.gcd c q=1
  ·rw[if_pos h2,if_pos h2,bN,xX hN hq hc c1 h2]
  ·rw[if_neg h2,if_neg h2];have h3:Int.gcd (a+b+c) q=1:=by rcases hone with h|h|h<;>first|exact absurd h h1|exact absurd h h2|exact h
   rw[show Q72.l2 (R:=Int) (m+4) (m+2)=Q72.l2 (m+4) (m+1+1)from rfl,vU (m+4) hq (show 2<3 by omega) (v:=a+b+c) rfl g3,if_pos h3,bN,xX hN hq hs s1 h3]
end Go.Proofs.YteaakcmkpacpaaaGreat.Jac
namespace Go.Proofs.YteaakcmkpacpaaaGreat.Gen
open Go Go.Proofs.YteaakcmkpacpaaaGreat.Ev
open Go.Proofs.YteaakcmkpacpaaaGreat.Cls (oG gX)
abbrev N0:Nat:=8589934700
theorem Re {d:Int}{l:List Int}(hd:oG d)(h:Q97.f N0 d=some l):Q63.f N0 d=some (l,0):=by
 obtain⟨R,r1,r2,r3,r4,r5⟩:=gX (N:=N0) (by decide) hd;rw[r4]at h;obtain rfl:=Option.some.inj h;exact r3
theorem T8:Q63.f N0 (-20)=some ([1,0,5,2,2,3],0):=Re (d:= -20) (l:=[1,0,5,2,2,3]) ⟨by decide,by decide,by decide⟩ (by kernel_rfl)
theorem Td:Q76.f N0 (-20)=some ([[1,0,5],[2,2,3]],0):=by
 unfold Q76.f;rw[T8]
 kernel_rfl
theorem j8:Q82.f N0=some true:=by
 unfold Q82.f;rw[Td]
 kernel_rfl
open Go.Proofs.YteaakcmkpacpaaaGreat.Pure (gA uK)
open Go.Proofs.YteaakcmkpacpaaaGreat.Cls (oG)
open Go.Proofs.YteaakcmkpacpaaaGreat.Jac (Sy)
theorem yS:∀{a b:List Nat},a.Pairwise (· < ·)→b.Pairwise (· < ·)→(∀x,x∈a↔x∈b)→a=b
 | [],[],_,_,_=>rfl
 | [],y::b,_,_,h=>by have:=(h y).mpr (by simp);simp at this
 |x::a,[],_,_,h=>by have:=(h x).mp (by simp);simp at this
 |x::a,y::b,ha,hb,h=>by
  have a1:=b9.mp ha;have b1:=b9.mp hb;have e:x=y:=by
   have h1:=(h x).mp (by simp);have h2:=(h y).mpr (by simp);simp only[w6]at h1 h2;rcases h1 with h1|h1
   ·exact h1
   ·rcases h2 with h2|h2
    ·exact h2.symm
    ·have:=a1.1 y h2;have:=b1.1 x h1;omega
  subst e;rw[yS a1.2 b1.2 fun z=>?_];constructor
  ·intro hz;have:=a1.1 z hz;have h1:=(h z).mp (hV _ hz);simp only[w6]at h1;rcases h1 with h1|h1
   ·omega
   ·exact h1
  ·intro hz;have:=b1.1 z hz;have h1:=(h z).mpr (hV _ hz);simp only[w6]at h1;rcases h1 with h1|h1
   ·omega
   ·exact h1
theorem xt:∀{l:PL} {x:Nat×Nat},x∈l→0<x.2→x.1∣bE l
 |y::l,x,h,h0=>by
  simp only[bE];rcases w6.mp h with rfl|h
  ·obtain⟨k,hk⟩:∃k,x.2=k+1:=⟨x.2-1,by omega⟩
   rw[hk,j3,o4];exact o2 ⟨bE l,rfl⟩ ⟨_,hW _ _⟩
  ·exact o2 (xt h h0) ⟨_,hW _ _⟩
theorem Fz.mem {n:Nat}{l:PL}(h:Fz n l)(p:Nat):p∈l.map (·.1)↔rC p∧p∣n:=by
 rw[o0];constructor
 ·rintro⟨x,hx,rfl⟩;exact⟨(h.pr x hx).1,h.prod▸xt hx (h.pr x hx).2⟩
 ·rintro⟨hp,hd⟩;rw[←h.prod]at hd;obtain⟨x,h1,h2⟩:=hp.in_prod h.pr hd;exact⟨x,h1,h2⟩
def fF (l:PL):List Nat:=(l.map (·.1)).filter (2< ·)
def ints (l:List Nat):List Int:=l.map fun(x:Nat)=>(x:Int)
theorem Dj (a b:List Nat):ints (a++b)=ints a++ints b:=by simp[ints]
theorem eM (a:List Nat):(ints a).length=a.length:=by simp[ints]
theorem oU (N:Nat){d:Int}{l:PL}(hl:l.length<100000){R:Type}(K:Int→List Int→Option R):∀(n i:Nat) (X:List Nat),i≤l.length→l.length-i<n→X.length≤i→
  Q71.l4 N n d (r9 l) (l.length:Int) (i:Int) (ints X) K=K d (ints (X++fF (l.drop i)))
 |0,i,X,_,h,_=>by omega
 |n+1,i,X,hi,hn,hX=>by
  rw[Q71.l4,my];by_cases h:i<l.length
  ·have c1:decide ((i:Int)<(l.length:Int))=true:=decide_eq_true (by omega);have c2:decide (0≤(i:Int))=true:=decide_eq_true (by omega);have e:=(D9 h).1;have w:aA ((i:Int)+1)=((i+1:Nat):Int):=oL (by omega);have hr:cB ((ints X).length+1) 8=true:=by rw[eM];simp only[cB,decide_eq_true_eq];omega
   have hd:l.drop i=l[i]::l.drop (i+1):=x7 h;simp only[c1,c2,cond_true,b6,y0,e,w,hr];by_cases hp:2<l[i].1
   ·rw[decide_eq_true (show(l[i].1:Int)>2 by omega),cond_true];have ea:ints X++[(l[i].1:Int)]=ints (X++[l[i].1]):=by rw[Dj];rfl
    rw[ea,oU N hl K n (i+1) (X++[l[i].1]) (by omega) (by omega) (by simp;omega),hd];have:fF (l[i]::l.drop (i+1))=l[i].1::fF (l.drop (i+1)):=by unfold fF;rw[p6,ba,if_pos (by simpa using hp)]
    rw[this,bu];rfl
   ·rw[decide_eq_false (show ¬(l[i].1:Int)>2 by omega),cond_false,oU N hl K n (i+1) X (by omega) (by omega) (by omega),hd];have:fF (l[i]::l.drop (i+1))=fF (l.drop (i+1)):=by unfold fF;rw[p6,ba,if_neg (by simpa using hp)]
    rw[this]
  ·have c1:decide ((i:Int)<(l.length:Int))=false:=decide_eq_false (by omega);rw[c1,cond_false];have:l.drop i=[]:=bb (by omega);rw[this];simp[fF]
theorem Cy (N:Nat){R:Type}{p:Nat}(hp:1<p)(d:Int)(X:List Int)(K:Int→Int→Int→List Int→Option R):∀(f j m:Nat),¬p∣m→0<m→j<f→p^j*m<1000000→
  Q98.l8 N f d ((p^j*m:Nat):Int) (p:Int) X K=K d (m:Int) (p:Int) X
 |0,j,m,_,_,h,_=>by omega
 |f+1,j,m,hd,hm,h,hb=>by
  rw[Q98.l8];simp only[N1 (show 0<p by omega),cond_true];rw[Me,Qf];cases j with
  |zero=>rw[sr,bn,decide_eq_false (fun e=>hd (xK e)),cond_false]
  |succ j=>
   have e:p^(j+1)*m=p*(p^j*m):=by rw[j3,hW (p^j) p,o4]
   have hlt:p^j*m≤p^(j+1)*m:=by rw[e];exact a7 _ (by omega)
   rw[decide_eq_true (by rw[e];exact bx _ _),cond_true,R6,e,lv _ (by omega),Sx (by omega)];exact Cy N hp d X K f j m hd hm (by omega) (by omega)
def kW (l:PL):List Nat:=l.map (·.1)
theorem Cx {N:Nat}(hN:1000000<N){n0 m0 e:Nat}(hn:n0≤65536)(he:n0=2^e*m0){R:Type}(d:Int)(K:Int→List Int→Option R):∀(f p m:Nat) (l:PL),St m0 p m l→3≤p→p%2=1→(∀x∈l,2<x.1)→p≤n0+4→n0+5-p<f→
  ∃l',Fz m0 l'∧(∀x∈l',2<x.1)∧Q98.l4 N f d ((2^e*m:Nat):Int) (p:Int) (ints (kW l)) K=K d (ints (kW l'))
 |0,p,m,l,_,_,_,_,_,h=>by omega
 |f+1,p,m,l,h,hp,hodd,h2,hpn,hf=>by
  obtain⟨hl1,hl2⟩:=h.len;have hm0:m0≤n0:=by rw[he];exact a7 _ (fo (by decide))
  have hmb:2^e*m≤n0:=by rw[he];exact c7 (a6 _) hl2
  rw[Q98.l4];by_cases hs:p≤2^e*m
  ·rw[decide_eq_true (show(p:Int)≤((2^e*m:Nat):Int) by omega),cond_true,N1 (show 0<p by omega),cond_true,Me];have hcop:Nat.Coprime p (2^e):=Nat.Coprime.pow_right e (by
    unfold Nat.Coprime;rcases p5 (by decide) (bw p 2)|>fun h=>(show Nat.gcd p 2=0∨Nat.gcd p 2=1∨Nat.gcd p 2=2 by omega)with g|g|g
    ·have:=vc p (show 0<2 by decide);omega
    ·exact g
    ·have h3:=cz p 2;rw[g]at h3;have:=o1 h3;omega)
   obtain⟨j,m',rfl,hd⟩:=eT (show 1<p by omega) (m+1) m h.pos (by omega);have hm':0<m':=n4 fun e=>by subst e;exact hd (zm _)
   have hst:=h.step (by omega) hd;have hst2:=hst.skip (by omega) (by omega);have w:aA ((p:Int)+2)=((p+2:Nat):Int):=by rw[gA (by omega) (by omega)];omega
   have hd2:¬p∣2^e*m':=fun q=>hd (hcop.dvd_of_dvd_mul_left q);have em:2^e*(p^j*m')=p^j*(2^e*m'):=by rw[←o4,←o4,hW (2^e)]
   rw[em];by_cases h0:0<j
   ·rw[if_pos h0]at hst2;have c:((((p^j*(2^e*m'))%p:Nat):Int) != 0)=false:=by
     rw[bne_eq_false_iff_eq];have:(p^j*(2^e*m'))%p=0:=by
      obtain⟨k,rfl⟩:∃k,j=k+1:=⟨j-1,by omega⟩
      rw[j3,hW (p^k) p,o4];exact bx _ _
     rw[this];rfl
    have hr:cB ((ints (kW l)).length+1) 8=true:=by rw[eM];simp only[kW,l0,cB,decide_eq_true_eq];omega
    have hj:j<1000000:=by have:=yh (j:=j) (show 1<p by omega);have:=lu (p^j) hm';omega
    rw[c,cond_false,hr,cond_true,Cy N (by omega) d _ _ N j (2^e*m') hd2 (Nat.mul_pos (fo (by decide)) hm') (by omega) (by rw[←em];omega),w];have ea:ints (kW l)++[(p:Int)]=ints (kW (l++[(p,j)])):=by simp[ints,kW]
    rw[ea];refine Cx hN hn he d K f (p+2) m' _ hst2 (by omega) (by omega) (fun x hx=>?_) (by omega) (by omega);simp only[o3,hU]at hx;rcases hx with hx|rfl
    ·exact h2 x hx
    ·simp only;omega
   ·rw[if_neg h0]at hst2;have j0:j=0:=by omega
    subst j0;rw[sr,bn];have c:((((2^e*m')%p:Nat):Int) != 0)=true:=by rw[bne_iff_ne];intro q;exact hd2 (xK (by omega))
    rw[c,cond_true,w];exact Cx hN hn he d K f (p+2) m' _ hst2 (by omega) (by omega) h2 (by omega) (by omega)
  ·rw[decide_eq_false (show ¬(p:Int)≤((2^e*m:Nat):Int) by omega),cond_false];have hm1:m≤2^e*m:=a7 _ (fo (by decide));have hone:¬1<m:=fun q=>by have:=h.fr m q (cy _);omega
   have hpp:p≤p*p:=a7 _ (by omega);have:=h.end (by omega);rw[if_neg hone]at this;exact⟨l,this,h2,rfl⟩
def mI (d:Int):List Int:=
 if d%2≠0 then []else if(-d/4)%4=3 then []else if(-d/4)%4=1∨(-d/4)%8=4 then [-4]else if(-d/4)%8=2 then [-8]else if(-d/4)%8=6 then [8]else [-4,8]
theorem dG {n:Nat}{l:PL}(h:Fz n l)(p:Nat):p∈fF l↔rC p∧p∣n∧2<p:=by
 unfold fF;rw[ry,h.mem];simp[and_assoc]
theorem An {l:PL}(h:∀x∈l,2<x.1):kW l=fF l:=by
 unfold kW fF;rw[List.filter_eq_self.mpr];intro p hp;obtain⟨x,hx,rfl⟩:=o0.mp hp;simpa using h x hx
theorem tP {n:Nat}{l:PL}(h:Fz n l):(fF l).Pairwise (· < ·):=(y4.mpr h.up).filter _
def rf:Nat→Nat→Nat
 |_,0=>1
 |k,n+1=>k*rf (k+1) n
theorem Qx:∀(n k:Nat) (l:PL),l.Pairwise (fun a b=>a.1<b.1)→(∀x∈l,k≤x.1∧0<x.2)→n≤((l.map (·.1)).length)→0<k→rf k n≤bE l
 |0,k,l,_,h,_,hk=>by
  simp only[rf];have:∀l:PL,(∀x∈l,k≤x.1∧0<x.2)→1≤bE l:=by
   intro l;induction l with
   |nil=>intro _;simp[bE]
   |cons x l ih=>intro h;have h1:=(h x (by simp)).1;have:=ih fun y hy=>h y (hV _ hy);exact Nat.mul_pos (fo (by omega)) this
  exact this l h
 |n+1,k,[],_,_,h,_=>by simp at h
 |n+1,k,x::l,hu,h,hn,hk=>by
  simp only[rf,bE];have h1:=h x (by simp);have hu2:=b9.mp hu;have ih:=Qx n (k+1) l hu2.2 (fun y hy=>⟨by have:=hu2.1 y hy;omega,(h y (hV _ hy)).2⟩) (by simp at hn⊢;omega) (by omega);refine c7 ?_ ih;obtain⟨j,hj⟩:∃j,x.2=j+1:=⟨x.2-1,by omega⟩
  rw[hj,j3];have:0<x.1^j:=fo (by omega);exact Nat.le_trans h1.1 (a7 _ this)
theorem O3 (N:Nat)(hN:10<N):Q70.f N=some ([3],4,[1,5,4],8,[-4],[2],8,[-8],[6],8,[8],[0],8,[-4,8]):=rfl
theorem o5 {N:Nat}(hN:10<N)(m c:Int)(hc:0<c):∀X∈[[3],[1,5,4],[2],[6],[0]],Q69.f N m X c=some (X.any (fun x=>Int.tmod m c==x),X,c):=by
 obtain⟨k,rfl⟩:∃k,N=k+6:=⟨N-6,by omega⟩
 have hc0:(c==0)=false:=beq_eq_false_iff_ne.mpr (by omega);have w1:aA 1=1:=by decide
 have w2:aA 2=2:=by decide
 have w3:aA 3=3:=by decide
 intro X hX;simp only[w6,um,or_false]at hX;unfold Q69.f;rcases hX with rfl|rfl|rfl|rfl|rfl
 ·rcases q:Int.tmod m c==3<;>simp[Q69.l2,hc0,w1,q]
 ·rcases q:Int.tmod m c==1<;>rcases q2:Int.tmod m c==5<;>rcases q3:Int.tmod m c==4<;>simp[Q69.l2,hc0,w1,w2,w3,q,q2,q3]
 ·rcases q:Int.tmod m c==2<;>simp[Q69.l2,hc0,w1,q]
 ·rcases q:Int.tmod m c==6<;>simp[Q69.l2,hc0,w1,q]
 ·rcases q:Int.tmod m c==0<;>simp[Q69.l2,hc0,w1,q]
open Go.Proofs.YteaakcmkpacpaaaGreat.Pure (gA uK fJ sY)
open Go.Proofs.YteaakcmkpacpaaaGreat.Cls (oG jF pt)
open Go.Proofs.YteaakcmkpacpaaaGreat.Jac (Sy Pr zO wU)
theorem pd {n:Nat}{l:PL}(h:Fz n l)(hn:n≤65536):(fF l).length≤6:=by
 rcases pC 6 (fF l).length with q|q
 ·exfalso;have e:fF l=(l.filter (fun x=>decide (2<x.1))).map (·.1):=by
   unfold fF;rw[List.filter_map];rfl
  have h1:=Qx 7 3 (l.filter (fun x=>decide (2<x.1))) (h.up.filter _) (fun x hx=>by
   have h1:=ry.mp hx;have h2:2<x.1:=by simpa using h1.2
   exact⟨by omega,(h.pr x h1.1).2⟩) (by rw[←e];omega) (by decide)
  have h2:∀l:PL,(∀x∈l,0<x.1)→bE (l.filter (fun x=>decide (2<x.1)))≤bE l:=by
   intro l;induction l with
   |nil=>intro _;simp[bE]
   |cons x l ih=>
    intro h;have i:=ih fun y hy=>h y (hV _ hy);rw[ba];split
    ·exact c7 (a6 _) i
    ·exact Nat.le_trans i (a7 _ (fo (h x (by simp))))
  have h3:=h2 l fun x hx=>by have:=(h.pr x hx).1.1;omega
  rw[h.prod]at h3;have h4:rf 3 7=181440:=by decide
  omega
 ·exact q
theorem Bn:∀(f n:Nat),0<n→n<f→∃e m,n=2^e*m∧m%2=1:=fun f n h hf=>by
 obtain⟨j,m,e,hd⟩:=eT (p:=2) (by decide) f n h hf;exact⟨j,m,e,by
  rcases x6 m with q|q
  ·exact absurd (xK q) hd
  ·exact q⟩
theorem vj (d:Int):mI d=[]∨mI d=[-4]∨mI d=[-8]∨mI d=[8]∨mI d=[-4,8]:=by
 unfold mI;(repeat' split)<;>simp
theorem Mb (d:Int):(mI d).length≤2:=by
 rcases vj d with h|h|h|h|h<;>rw[h]<;>decide
theorem U4 (n:Nat):Int.tmod (-(n:Int)) 2= -((n%2:Nat):Int):=by
 rw[Int.neg_tmod];rfl
theorem Pf {d q:Int}(h:q∈mI d):Sy q:=by
 unfold mI at h
 repeat' split at h
 all_goals simp at h
 all_goals first|(subst h;constructor)|(rcases h with rfl|rfl<;>constructor)
theorem xH {l:List Int}(h:l.length≤100){k:Nat}(hk:k≤10):cB (l.length+k) 8=true:=by
 simp only[cB,decide_eq_true_eq];omega
structure qq (d:Int)(X:List Int):Prop where
 ex:∃l,Fz (-d).toNat l∧X=ints (fF l)++mI d
theorem gT {N:Nat}(hN:8589934600<N){d:Int}(hd:oG d):∃X,qq d X∧Q71.f N d=some X∧Q98.f N d=some X:=by
 obtain⟨d0,d1,d4⟩:=hd;obtain⟨n,rfl⟩:∃n:Nat,d= -(n:Int):=⟨(-d).toNat,by omega⟩
 have w0:aA (0- -(n:Int))=(n:Int):=by rw[gA (by omega) (by omega)];omega
 obtain⟨l,hl,ef⟩:=iV (N:=N) (by omega) (n:=n) (by omega) (by omega);have hll:l.length<n+1:=by have:=xZ (l:=l) (fun x hx=>⟨(hl.pr x hx).1,(hl.pr x hx).2⟩);rw[hl.prod]at this;omega
 obtain⟨e,m,en,hm⟩:=Bn (n+1) n (by omega) (by omega);have hm0:0<m:=by omega
 have hst:St m 3 m []:=⟨.nil,fun x hx=>(by cases hx),by simp[bE],fun k h1 h2=>by
  rcases pC 2 k with q|q
  ·omega
  ·have:k=2:=by omega
   subst this;have:=o1 h2;omega,hm0⟩
 have ho6:=pd hl (by omega);have hodd:∀l',Fz m l'→(∀x∈l',2<x.1)→ints (kW l')=ints (fF l):=fun l' h1 h2=>by
  rw[An h2];congr 1;refine yS (tP h1) (tP hl) fun p=>?_;rw[dG h1,dG hl];constructor
  ·rintro⟨a,b,c⟩;exact⟨a,en▸o2 b ⟨_,hW _ _⟩,c⟩
  ·rintro⟨a,b,c⟩;refine⟨a,?_,c⟩;rw[en]at b;rcases a.dvd_mul b with h|h
   ·have:=p5 (by decide) (a.dvd_pow h);omega
   ·exact h
 refine⟨ints (fF l)++mI (-(n:Int)),⟨l,by rw[show(-(-(n:Int))).toNat=n by omega];exact hl,rfl⟩,?_,?_⟩
 ·unfold Q71.f;rw[w0,ef];simp only[aE];rw[my];have h1:=fun K=>oU N (d:= -(n:Int)) (l:=l) (by omega) (R:=List Int) K N 0 [] (by omega) (by omega) (by simp);simp only[cu,sz,gz]at h1;rw[show ints []=[]from rfl]at h1;rw[h1];have ho:(ints (fF l)).length≤100:=by rw[eM];omega
  have hr0:cB (ints (fF l)).length 8=true:=xH ho (C1 10);generalize ints (fF l)=X at*;unfold mI;by_cases h2: -(n:Int)%2≠0
  ·rw[if_pos h2];have:(Int.tmod (-(n:Int)) 2 != 0)=true:=by rw[bne_iff_ne,U4];omega
   rw[this,cond_true,gx]
  ·rw[if_neg h2];have:(Int.tmod (-(n:Int)) 2 != 0)=false:=by rw[bne_eq_false_iff_eq,U4];omega
   rw[this,cond_false,w0,O3 N (by omega)];simp only[aE];have wd:aA (Int.tdiv (n:Int) 4)= -(-(n:Int))/4:=by rw[w8 (by omega),gA (by omega) (by omega)];omega
   rw[wd];generalize hk: -(-(n:Int))/4=k;have k0:0≤k:=by omega
   rw[o5 (by omega) k 4 (by decide) [3] (by simp),o5 (by omega) k 8 (by decide) [1,5,4] (by simp),o5 (by omega) k 8 (by decide) [2] (by simp),o5 (by omega) k 8 (by decide) [6] (by simp),o5 (by omega) k 8 (by decide) [0] (by simp)];have t4:Int.tmod k 4=k%4:=hE k0;have t8:Int.tmod k 8=k%8:=hE k0;simp only[t4,t8,aE];have hh:k%8=0∨k%8=1∨k%8=2∨k%8=3∨k%8=4∨k%8=5∨k%8=6∨k%8=7:=by omega
   rcases hh with h|h|h|h|h|h|h|h
   ·rw[h,show k%4=0 by omega];simp[xH ho]
   ·rw[h,show k%4=1 by omega];simp[xH ho]
   ·rw[h,show k%4=2 by omega];simp[xH ho]
   ·rw[h,show k%4=3 by omega];simp[hr0]
   ·rw[h,show k%4=0 by omega];simp[xH ho]
   ·rw[h,show k%4=1 by omega];simp[xH ho]
   ·rw[h,show k%4=2 by omega];simp[xH ho]
   ·rw[h,show k%4=3 by omega];simp[hr0]
 ·unfold Q98.f;rw[w0];have h1:=fun K=>Cx (N:=N) (n0:=n) (m0:=m) (e:=e) (by omega) (by omega) en (R:=List Int) (-(n:Int)) K N 3 m [] hst (by omega) (by omega) (by simp) (by omega) (by omega);simp only[kW,cx,ints]at h1;obtain⟨l',g1,g2,g3⟩:=h1 (fun y20 y21=>
   bif (Int.tmod y20 2) != 0 then
    some y21
   else
   bif (Int.tmod (aA (Int.tdiv (aA (0-y20)) 4)) 4)==3 then
    some y21
   else
   bif (Int.tmod (aA (Int.tdiv (aA (0-y20)) 4)) 4)==1 then
    bif cB (y21.length+1) 8 then
     some (y21++[(-4)])
    else none
   else
   bif (Int.tmod (aA (Int.tdiv (aA (0-y20)) 4)) 8)==4 then
    bif cB (y21.length+1) 8 then
     some (y21++[(-4)])
    else none
   else
   bif (Int.tmod (aA (Int.tdiv (aA (0-y20)) 4)) 8)==2 then
    bif cB (y21.length+1) 8 then
     some (y21++[(-8)])
    else none
   else
   bif (Int.tmod (aA (Int.tdiv (aA (0-y20)) 4)) 8)==6 then
    bif cB (y21.length+1) 8 then
     some (y21++[8])
    else none
   else
   bif cB (y21.length+2) 8 then
    some (y21++[(-4),8])
   else none)
  rw[←en,show((3:Nat):Int)=3 from rfl]at g3;rw[g3];have g4:=hodd l' g1 g2;rw[show(l'.map fun x=>x.1).map (fun(x:Nat)=>(x:Int))=ints (kW l')from rfl,g4];have ho:(ints (fF l)).length≤100:=by rw[eM];omega
  generalize ints (fF l)=X at*;unfold mI;by_cases h2: -(n:Int)%2≠0
  ·rw[if_pos h2];have:(Int.tmod (-(n:Int)) 2 != 0)=true:=by rw[bne_iff_ne,U4];omega
   rw[this,cond_true,gx]
  ·rw[if_neg h2];have:(Int.tmod (-(n:Int)) 2 != 0)=false:=by rw[bne_eq_false_iff_eq,U4];omega
   rw[this,cond_false,w0];have wd:aA (Int.tdiv (n:Int) 4)= -(-(n:Int))/4:=by rw[w8 (by omega),gA (by omega) (by omega)];omega
   rw[wd];generalize hk: -(-(n:Int))/4=k;have k0:0≤k:=by omega
   have t4:Int.tmod k 4=k%4:=hE k0;have t8:Int.tmod k 8=k%8:=hE k0;simp only[t4,t8];have hh:k%8=0∨k%8=1∨k%8=2∨k%8=3∨k%8=4∨k%8=5∨k%8=6∨k%8=7:=by omega
   rcases hh with h|h|h|h|h|h|h|h
   ·rw[h,show k%4=0 by omega];simp[xH ho]
   ·rw[h,show k%4=1 by omega];simp[xH ho]
   ·rw[h,show k%4=2 by omega];simp[xH ho]
   ·rw[h,show k%4=3 by omega];simp
   ·rw[h,show k%4=0 by omega];simp[xH ho]
   ·rw[h,show k%4=1 by omega];simp[xH ho]
   ·rw[h,show k%4=2 by omega];simp[xH ho]
   ·rw[h,show k%4=3 by omega];simp
theorem qq.sy {d:Int}{X:List Int}(h:qq d X)(hd: -65536≤d)(h0:d<0){q:Int}(hq:q∈X):Sy q:=by
 obtain⟨l,hl,rfl⟩:=h.ex;rcases o3.mp hq with h|h
 ·obtain⟨p,hp,rfl⟩:=o0.mp h;obtain⟨a,b,c⟩:=(dG hl p).mp hp;have hle:=p5 (by omega) b;refine .pr p ⟨by have:=a.1;omega,a.2⟩ (by omega) ?_ (by omega);rcases x6 p with q|q
  ·have:=a.2 2 (xK q);omega
  ·exact q
 ·exact Pf h
theorem qq.len {d:Int}{X:List Int}(h:qq d X)(hd: -65536≤d):X.length≤8:=by
 obtain⟨l,hl,rfl⟩:=h.ex;have:=pd hl (by omega);have:=Mb d;rw[p7,eM];omega
open Go.Proofs.YteaakcmkpacpaaaGreat.Pure (gA uK fJ sY lT cQ yM cH zF qI z8 ik)
open Go.Proofs.YteaakcmkpacpaaaGreat.NatL (ab fB)
open Go.Proofs.YteaakcmkpacpaaaGreat.Cls (oG jF pt zZ nY yT)
open Go.Proofs.YteaakcmkpacpaaaGreat.Jac (Sy Pr zO wU fN)
theorem M7 {q:Int}(h:Sy q): -8≤q∧q≤65536∧q≠0:=by
 cases h with
 |pr p hp h3 ho hb=>omega
 |_=>decide
theorem Pd {N:Nat}(hN:8589934600<N)(n:Int){q:Int}(hq:Sy q):∃s,Q99.f N n q=some s∧(s=1∨s= -1):=by
 have bN:∀(o:Option Int) (f:Int→Option Int),True:=fun _ _=>trivial;cases hq with
 |m4=>
  unfold Q99.f;cases e:Int.tmod n 4==1
  ·exact⟨-1,by simp[e],.inr rfl⟩
  ·exact⟨1,by simp[e],.inl rfl⟩
 |p8=>
  unfold Q99.f;cases e:Int.tmod n 8==1
  ·cases e2:Int.tmod n 8==7
   ·exact⟨-1,by simp[e,e2],.inr rfl⟩
   ·exact⟨1,by simp[e,e2],.inl rfl⟩
  ·exact⟨1,by simp[e],.inl rfl⟩
 |m8=>
  unfold Q99.f;cases e:Int.tmod n 8==1
  ·cases e2:Int.tmod n 8==3
   ·exact⟨-1,by simp[e,e2],.inr rfl⟩
   ·exact⟨1,by simp[e,e2],.inl rfl⟩
  ·exact⟨1,by simp[e],.inl rfl⟩
 |pr p hp h3 ho hb=>
  unfold Q99.f;have c1:((p:Int)== -4)=false:=beq_eq_false_iff_ne.mpr (by omega);have c2:((p:Int)==8)=false:=beq_eq_false_iff_ne.mpr (by omega);have c3:((p:Int)== -8)=false:=beq_eq_false_iff_ne.mpr (by omega);rw[c1,c2,c3];simp only[cond_false];have go:∀(f x:Nat),x≤p→p-x<f→∃s,Q99.l15 (R:=Int) N f n (p:Int) (x:Int) (fun(_:Unit)=>some (-1)) (fun y7=>some y7)=some s∧(s=1∨s= -1):=by
   intro f;induction f with
   |zero=>intro x _ h;omega
   |succ f ih=>
    intro x hx hf;rw[Q99.l15];by_cases h:x<p
    ·rw[decide_eq_true (show(x:Int)<(p:Int) by omega),N1 (show 0<p by omega)];simp only[cond_true];cases e:Int.tmod (aA (aA ((x:Int)*(x:Int))-n)) (p:Int)==0
     ·rw[cond_false,oL (by omega)];exact ih (x+1) (by omega) (by omega)
     ·exact⟨1,rfl,.inl rfl⟩
    ·rw[decide_eq_false (show ¬(x:Int)<(p:Int) by omega)];exact⟨-1,rfl,.inr rfl⟩
  exact go N 1 (by omega) (by omega)
noncomputable def sv (N:Nat)(a b c q:Int):Int:=(Q99.f N (zO a c (a+b+c) q) q).getD 0
theorem Sl {q:Int}(hq:Sy q):∃π:Int,2≤π∧∀v,Int.gcd v q≠1→π∣v:=by
 have two:∀q:Int,(q.natAbs=2*2∨q.natAbs=2*2*2)→∃π:Int,2≤π∧∀v,Int.gcd v q≠1→π∣v:=by
  intro q hq;refine⟨2,by decide,fun v hv=>?_⟩;rcases x6 v.natAbs with h|h
  ·omega
  ·exfalso;have h2:=fN h;have h22:Nat.gcd (2*2) v.natAbs=1:=Nat.Coprime.mul_left h2 h2;have h222:Nat.gcd (2*2*2) v.natAbs=1:=Nat.Coprime.mul_left h22 h2;apply hv;unfold Int.gcd;rw[b7];rcases hq with e|e<;>rw[e]<;>assumption
 cases hq with
 |m4=>exact two _ (.inl rfl)
 |p8=>exact two _ (.inr rfl)
 |m8=>exact two _ (.inr rfl)
 |pr p hp h3 ho hb=>
  refine⟨p,by omega,fun v hv=>?_⟩;rcases hp.2 _ (bw v.natAbs p)with e|e
  ·exact absurd e hv
  ·have:=cz v.natAbs p;rw[e]at this;exact ki.mpr this
theorem Em {a b c q:Int}(hq:Sy q)(hp:cQ a b c):Int.gcd a q=1∨Int.gcd c q=1∨Int.gcd (a+b+c) q=1:=by
 obtain⟨π,h2,hd⟩:=Sl hq;by_cases h1:Int.gcd a q=1
 ·exact .inl h1
 ·by_cases h3:Int.gcd c q=1
  ·exact .inr (.inl h3)
  ·by_cases h4:Int.gcd (a+b+c) q=1
   ·exact .inr (.inr h4)
   ·exfalso;have da:=hd a h1;have dc:=hd c h3;have ds:=hd _ h4;have db:π∣b:=by
     have:=ta (ta ds da) dc;rwa[show a+b+c-a-c=b by omega]at this
    obtain⟨x,y,z,e⟩:=hp;have:π∣1:=by rw[←e];exact mm (mm (s5 da) (s5 db)) (s5 dc)
    have:=pb (by decide) this;omega
structure Fm (d a b c:Int):Prop where
 val:lT d a b c
 lo: -65536≤d
theorem Fm.bd {d a b c:Int}(h:Fm d a b c):(0<a∧a≤1073741824)∧(-1073741824≤b∧b≤1073741824)∧(0<c∧c≤1073741824)∧0<a+b+c:=by
 obtain⟨⟨⟨a0,a1⟩,⟨b0,b1⟩,c0,c1⟩,ap,d0,d1⟩:=h.val.fine;have hbb:0≤b*b:=by
  rcases uc 0 b with q|q
  ·exact c6 q q
  ·have:=c6 (show 0≤ -b by omega) (show 0≤ -b by omega);rwa[Int.neg_mul_neg]at this
 have hac:0<a*c:=by
  have:4*a*c=4*(a*c):=by grind
  omega
 have hc:0<c:=by
  rcases a8 0 c with q|q
  ·exact q
  ·have:=c6 (show 0≤a by omega) (show 0≤ -c by omega);rw[mx]at this;omega
 refine⟨⟨ap,a1⟩,⟨b0,b1⟩,⟨hc,c1⟩,?_⟩;have h3:4*a*(a+b+c)=(2*a+b)*(2*a+b)- (b*b-4*a*c):=by grind
 have hsq:0≤(2*a+b)*(2*a+b):=by
  rcases uc 0 (2*a+b)with q|q
  ·exact c6 q q
  ·have:=c6 (show 0≤ -(2*a+b) by omega) (show 0≤ -(2*a+b) by omega);rwa[Int.neg_mul_neg]at this
 rcases a8 0 (a+b+c)with q|q
 ·exact q
 ·have h4:=c6 (show 0≤4*a by omega) (show 0≤ -(a+b+c) by omega);rw[mx]at h4;omega
theorem Fm.lst {d a b c:Int}(h:Fm d a b c):oG d:=by
 have:=nY h.val.fine (by rw[h.val.of.eq];exact h.lo);rwa[h.val.of.eq]at this
theorem fT {N:Nat}(hN:8589934600<N){d a b c q:Int}(h:Fm d a b c)(hq:Sy q):Q72.f N a b c q=some (sv N a b c q)∧Q99.f N (zO a c (a+b+c) q) q=some (sv N a b c q)∧(sv N a b c q=1∨sv N a b c q= -1):=by
 obtain⟨⟨a0,a1⟩,⟨b0,b1⟩,⟨c0,c1⟩,s0⟩:=h.bd;obtain⟨s,e,hs⟩:=Pd hN (zO a c (a+b+c) q) hq;obtain⟨q0,q1,_⟩:=M7 hq;have hsv:sv N a b c q=s:=by unfold sv;rw[e];rfl
 rw[hsv];refine⟨?_,e,hs⟩;rw[←e];refine wU hN hq a0 c0 s0 (by omega) (by omega) (by omega) (by omega) (by omega) (fun v hv=>?_) (Em hq h.val.pr);have hv2:0<v∧v≤4294967296:=by rcases hv with rfl|rfl|rfl<;>omega
 have av:ab v≤1099511627776:=by rcases fB v with⟨_,e⟩|⟨_,e⟩<;>rw[e]<;>omega
 have aq:ab q≤1099511627776:=by rcases fB q with⟨_,e⟩|⟨_,e⟩<;>rw[e]<;>omega
 obtain⟨g,x,y,k1,_,_,k2⟩:=sY (N:=N) (by omega) av aq;rw[k1.eg]at k2;exact⟨x,y,k2⟩
def vn (Y:List Int):Int×Int×Int×Int×Int×Int×Int×Int:=(Y.getD 0 0,Y.getD 1 0,Y.getD 2 0,Y.getD 3 0,Y.getD 4 0,Y.getD 5 0,Y.getD 6 0,Y.getD 7 0)
def lB (Y:List Int):List Int:=[Y.getD 0 0,Y.getD 1 0,Y.getD 2 0,Y.getD 3 0,Y.getD 4 0,Y.getD 5 0,Y.getD 6 0,Y.getD 7 0]
theorem Mc:∀(Y:List Int),Y.length≤8→(lB Y).take Y.length=Y
 | [],_=>rfl
 | [_],_=>rfl
 | [_,_],_=>rfl
 | [_,_,_],_=>rfl
 | [_,_,_,_],_=>rfl
 | [_,_,_,_,_],_=>rfl
 | [_,_,_,_,_,_],_=>rfl
 | [_,_,_,_,_,_,_],_=>rfl
 | [_,_,_,_,_,_,_,_],_=>rfl
 |_::_::_::_::_::_::_::_::_::_,h=>by simp at h
theorem yg {Y Z:List Int}(hy:Y.length≤8)(hl:Y.length=Z.length)(h:lB Y=lB Z):Y=Z:=by
 rw[←Mc Y hy,←Mc Z (by omega),h,hl]
theorem y6 {N:Nat}{a b c:Int}{X:List Int}{g:Int→Int}(hg:∀q∈X,Q72.f N a b c q=some (g q))(hl:X.length≤8){R:Type}(K:List Int→List Int→Option R)(Z:List Int):∀(f i:Nat),i≤X.length→X.length-i<f→
  Q73.l3 N f X (X.length:Int) (i:Int) a b c Z ((X.take i).map g++List.replicate (8-i) 0) K=K Z (X.map g++List.replicate (8-X.length) 0)
 |0,i,_,h=>by omega
 |f+1,i,hi,hf=>by
  rw[Q73.l3];by_cases h:i<X.length
  ·have c1:decide ((i:Int)<(X.length:Int))=true:=decide_eq_true (by omega);have c2:decide (0≤(i:Int))=true:=decide_eq_true (by omega);have c3:decide ((i:Int)<8)=true:=decide_eq_true (by omega);have e:X.getD i 0=X[i]:=by rw[zE,u0 h];rfl
   have w:aA ((i:Int)+1)=((i+1:Nat):Int):=oL (by omega);simp only[c1,c2,c3,cond_true,b6,y0,e,hg _ (b8 h),aE,w,vx];have es:((X.take i).map g++List.replicate (8-i) 0).set i (g X[i])=(X.take (i+1)).map g++List.replicate (8- (i+1)) 0:=by
    have l1:((X.take i).map g).length=i:=by rw[l0,px];omega
    rw[qs _ _ (by omega),l1,vm];have l2:List.replicate (8-i) (0:Int)=0::List.replicate (8- (i+1)) 0:=by rw[show 8-i=(8- (i+1))+1 by omega];rfl
    rw[l2,List.set_cons_zero,w5 h,r8,bu];rfl
   rw[es];exact y6 hg hl K Z f (i+1) (by omega) (by omega)
  ·have c1:decide ((i:Int)<(X.length:Int))=false:=decide_eq_false (by omega);rw[c1,cond_false,ew (by omega),show i=X.length by omega]
theorem O0 (Y:List Int)(n i:Nat):(Y++List.replicate n 0).getD i 0=Y.getD i 0:=by
 rw[zE,zE];rcases pC i Y.length with h|h
 ·rw[List.getElem?_append_left h]
 ·rw[tr h,za h,List.getElem?_replicate];split<;>rfl
theorem vf {N:Nat}(hN:100<N){a b c:Int}{X:List Int}{g:Int→Int}(hg:∀q∈X,Q72.f N a b c q=some (g q))(hl:X.length≤8):Q73.f N a b c X=some (vn (X.map g)):=by
 unfold Q73.f;have:=y6 hg hl (fun y16 y17=>some (((((((((y16.set 0 (y17.getD 0 0)).set 1 (y17.getD 1 0)).set 2 (y17.getD 2 0)).set 3 (y17.getD 3 0)).set 4 (y17.getD 4 0)).set 5 (y17.getD 5 0)).set 6 (y17.getD 6 0)).set 7 (y17.getD 7 0)).getD 0 0,((((((((y16.set 0 (y17.getD 0 0)).set 1 (y17.getD 1 0)).set 2 (y17.getD 2 0)).set 3 (y17.getD 3 0)).set 4 (y17.getD 4 0)).set 5 (y17.getD 5 0)).set 6 (y17.getD 6 0)).set 7 (y17.getD 7 0)).getD 1 0,((((((((y16.set 0 (y17.getD 0 0)).set 1 (y17.getD 1 0)).set 2 (y17.getD 2 0)).set 3 (y17.getD 3 0)).set 4 (y17.getD 4 0)).set 5 (y17.getD 5 0)).set 6 (y17.getD 6 0)).set 7 (y17.getD 7 0)).getD 2 0,((((((((y16.set 0 (y17.getD 0 0)).set 1 (y17.getD 1 0)).set 2 (y17.getD 2 0)).set 3 (y17.getD 3 0)).set 4 (y17.getD 4 0)).set 5 (y17.getD 5 0)).set 6 (y17.getD 6 0)).set 7 (y17.getD 7 0)).getD 3 0,((((((((y16.set 0 (y17.getD 0 0)).set 1 (y17.getD 1 0)).set 2 (y17.getD 2 0)).set 3 (y17.getD 3 0)).set 4 (y17.getD 4 0)).set 5 (y17.getD 5 0)).set 6 (y17.getD 6 0)).set 7 (y17.getD 7 0)).getD 4 0,((((((((y16.set 0 (y17.getD 0 0)).set 1 (y17.getD 1 0)).set 2 (y17.getD 2 0)).set 3 (y17.getD 3 0)).set 4 (y17.getD 4 0)).set 5 (y17.getD 5 0)).set 6 (y17.getD 6 0)).set 7 (y17.getD 7 0)).getD 5 0,((((((((y16.set 0 (y17.getD 0 0)).set 1 (y17.getD 1 0)).set 2 (y17.getD 2 0)).set 3 (y17.getD 3 0)).set 4 (y17.getD 4 0)).set 5 (y17.getD 5 0)).set 6 (y17.getD 6 0)).set 7 (y17.getD 7 0)).getD 6 0,((((((((y16.set 0 (y17.getD 0 0)).set 1 (y17.getD 1 0)).set 2 (y17.getD 2 0)).set 3 (y17.getD 3 0)).set 4 (y17.getD 4 0)).set 5 (y17.getD 5 0)).set 6 (y17.getD 6 0)).set 7 (y17.getD 7 0)).getD 7 0)) [0,0,0,0,0,0,0,0] N 0 (by omega) (by omega);rw[List.take_zero,cx,gz,cu]at this;rw[show List.replicate (8-0) (0:Int)=[0,0,0,0,0,0,0,0]from rfl]at this;rw[this];generalize hY:X.map g++List.replicate (8-X.length) 0=Y;have hy:vn (X.map g)=vn Y:=by rw[←hY];simp only[vn,O0]
 rw[hy];rfl
theorem wZ {N:Nat}(hN:8589934600<N){v q:Int}(hv:0<v)(hq:Sy q):Q100.f N v q=some (decide (Int.gcd v q=1)):=by
 obtain⟨q0,q1,q2⟩:=M7 hq;have key:∀g:Nat,(((g:Nat):Int)==1)=decide (g=1):=fun g=>by
  by_cases h:g=1
  ·subst h;rfl
  ·rw[decide_eq_false h];exact beq_eq_false_iff_ne.mpr (by omega)
 unfold Q100.f;by_cases h:q<0
 ·rw[decide_eq_true h,gA (by omega) (by omega),pt (by omega) (by omega) (by omega),show(0:Int)-q= -q by omega,Cls.Db];simp only[cond_true,aE];unfold Cls.cC;rw[key]
 ·rw[decide_eq_false h,cond_false,pt (by omega) (by omega) (by omega)];simp only[aE];unfold Cls.cC;rw[key]
theorem yd {N:Nat}(hN:8589934600<N){d a b c:Int}(h:Fm d a b c){X:List Int}(hX:∀q∈X,Sy q)(hl:X.length≤8){R:Type}(K:List Int→Option R):∀(f i:Nat) (A:List Int),i≤X.length→X.length-i<f→A.length≤i→
  Q101.l4 N f X (i:Int) a b c A K=K (A++(X.drop i).map (sv N a b c))
 |0,i,_,_,h,_=>by omega
 |f+1,i,A,hi,hf,hA=>by
  rw[Q101.l4];by_cases hlt:i<X.length
  ·have c1:decide ((i:Int)<(X.length:Int))=true:=decide_eq_true (by omega);have c2:decide (0≤(i:Int))=true:=decide_eq_true (by omega);have e:X.getD i 0=X[i]:=by rw[zE,u0 hlt];rfl
   have w:aA ((i:Int)+1)=((i+1:Nat):Int):=oL (by omega);have hq:=hX _ (b8 hlt);obtain⟨⟨a0,a1⟩,⟨b0,b1⟩,⟨c0,c1'⟩,s0⟩:=h.bd;have ws:aA (aA (a+b)+c)=a+b+c:=by rw[gA (n:=a+b) (by omega) (by omega),gA (by omega) (by omega)]
   have hr:cB (A.length+1) 8=true:=xH (by omega) (by omega);simp only[c1,c2,cond_true,b6,y0,e,aE,w,ws,hr,wZ hN a0 hq,wZ hN c0 hq];have hs:=(fT hN h hq).2.1;have hd:X.drop i=X[i]::X.drop (i+1):=x7 hlt;have next:∀s,s=sv N a b c X[i]→Q101.l4 N f X ((i+1:Nat):Int) a b c (A++[s]) K=K (A++(X.drop i).map (sv N a b c)):=fun s hs=>by rw[yd hN h hX hl K f (i+1) (A++[s]) (by omega) (by omega) (by simp;omega),hd,hs,bu];rfl
   unfold zO at hs;by_cases h1:Int.gcd a X[i]=1
   ·rw[if_pos h1]at hs;rw[decide_eq_true h1,hs];simp only[tp,cond_false,aE];exact next _ rfl
   ·rw[if_neg h1]at hs;rw[decide_eq_false h1];by_cases h2:Int.gcd c X[i]=1
    ·rw[if_pos h2]at hs;rw[decide_eq_true h2,hs];simp only[tp,au,cond_true,cond_false,aE];exact next _ rfl
    ·rw[if_neg h2]at hs;rw[decide_eq_false h2,hs];simp only[au,cond_true,aE];exact next _ rfl
  ·have c1:decide ((i:Int)<(X.length:Int))=false:=decide_eq_false (by omega);rw[c1,cond_false,bb (by omega),cx,gx]
theorem Nx {N:Nat}(hN:8589934600<N){d a b c:Int}(h:Fm d a b c):∃X,qq d X∧X.length≤8∧(∀q∈X,Sy q)∧Q71.f N d=some X∧
  Q73.f N a b c X=some (vn (X.map (sv N a b c)))∧Q74.f N a b c=some (X.map (sv N a b c),0)∧
  Q104.f N a b c=some (0,X.length,lB (X.map (sv N a b c)),0)∧Q101.f N a b c=some (X.map (sv N a b c)):=by
 have hL:=h.lst;obtain⟨X,hX,e1,e2⟩:=gT hN hL;have h8:=hX.len hL.1;have hsy:∀q∈X,Sy q:=fun q hq=>hX.sy hL.1 (by have:=hL.2.1;omega) hq;have es:=vf (N:=N) (by omega) (g:=sv N a b c) (fun q hq=>(fT hN h (hsy q hq)).1) h8;have ck:Q38.f N a b c=some 0:=by
  rcases zF N a b c with⟨_,k⟩|⟨k,_⟩
  ·exact k
  ·exact absurd h.val.fine k
 have dk:=(yT N h.val.fine).1;rw[h.val.of.eq]at dk;have co:=qI (N:=N) (by omega) h.val.fine.inb;rw[(Pure.jE a b c).mp h.val.pr]at co;have dlo:decide (d< -65536)=false:=decide_eq_false (by have:=h.lo;omega);have hlen:((decide (0≤(X.length:Int))&&decide ((X.length:Int)≤(X.length:Int)))&&decide ((X.length:Int)≤8))=true:=by simp;omega
 have tk:=Mc (X.map (sv N a b c)) (by rw[l0];exact h8);rw[l0]at tk;refine⟨X,hX,h8,hsy,e1,es,?_,?_,?_⟩
 ·unfold Q74.f;rw[ck];simp only[aE,bne_self_eq_false,cond_false,dk,dlo,co,e1,es,hlen,cond_true,y0];exact congrArg (fun l=>some (l,(0:Int))) tk
 ·unfold Q104.f;rw[ck];simp only[aE,bne_self_eq_false,cond_false,dk,dlo,co,e1,es,hlen,cond_true,y0];rfl
 ·unfold Q101.f;have:=yM h.val.fine.inb;rw[h.val.of.eq]at this;rw[this,e2];simp only[aE];have:=yd hN h hsy h8 (fun y17=>some y17) N 0 [] (by omega) (by omega) (by simp);rw[cu]at this;rw[this];rfl
open Go.Proofs.YteaakcmkpacpaaaGreat.Pure (gA fJ lT cQ jE zF qI z8 oH j5 uS qK gC)
open Go.Proofs.YteaakcmkpacpaaaGreat.NatL (tA tB)
open Go.Proofs.YteaakcmkpacpaaaGreat.Cls (oG jF zZ nY yT sW Rd)
theorem D2 {a b c a' b' c':Int}(h:z8 a b c a' b' c')(hp:cQ a' b' c'):cQ a b c:=by
 obtain⟨t,u,v,w,hd,rfl,rfl,rfl⟩:=h;obtain⟨x,y,z,e⟩:=hp;refine⟨x*t*t+y*(2*t*u)+z*u*u,x*t*v+y*(t*w+u*v)+z*u*w,x*v*v+y*(2*v*w)+z*w*w,?_⟩;rw[←e];unfold tA tB;grind
open Go.Proofs.YteaakcmkpacpaaaGreat.Pure (gA fJ lT cQ jE)
open Go.Proofs.YteaakcmkpacpaaaGreat.Cls (oG jF Rd Cl me xW bJ zD sJ rJ ca)
theorem kS (l:List Int)(ks:List (List Int)):hJ l ks=true↔l∈ks:=by
 unfold hJ;cases h:sD l ks 0 with
 |none=>simpa using rJ l ks 0 h
 |some j=>simpa using sh (sJ l ks 0 j h).2
theorem tJ {l:List Int}{ks:List (List Int)}(h:l∈ks):oB l ks=ks:=by unfold oB;rw[(kS l ks).mpr h];rfl
theorem jI {l:List Int}{ks:List (List Int)}(h:l∉ks):oB l ks=ks++[l]:=by
 unfold oB;cases hb:hJ l ks
 ·rfl
 ·exact absurd ((kS l ks).mp hb) h
theorem B0 (k l:List Int)(ks:List (List Int)):k∈oB l ks↔k∈ks∨k=l:=by
 by_cases h:l∈ks
 ·rw[tJ h];constructor
  ·exact .inl
  ·rintro(h1|rfl)
   ·exact h1
   ·exact h
 ·rw[jI h];simp
theorem pc {α:Type}{l:List α}(h:l.Nodup){i j:Nat}(hi:i<l.length)(hj:j<l.length)(e:l[i]=l[j]):i=j:=by
 rcases tx i j with h1|h1|h1
 ·exact absurd e (ua.mp h i j hi hj h1)
 ·exact h1
 ·exact absurd e.symm (ua.mp h j i hj hi h1)
section
variable (key:R3→List Int)
def xB (P:List R3):List (List Int):=P.foldl (fun ks x=>oB (key x) ks) []
theorem iM (P:List R3)(x:R3):xB key (P++[x])=oB (key x) (xB key P):=by simp[xB,List.foldl_append]
theorem nf:∀(P:List R3) (acc:List (List Int)) (k:List Int),k∈P.foldl (fun ks x=>oB (key x) ks) acc↔k∈acc∨∃x∈P,key x=k
 | [],acc,k=>by simp
 |y::P,acc,k=>by
  rw[wm,nf P,B0];constructor
  ·rintro((h|rfl)|⟨x,h1,h2⟩)
   ·exact .inl h
   ·exact .inr ⟨y,by simp,rfl⟩
   ·exact .inr ⟨x,by simp[h1],h2⟩
  ·rintro(h|⟨x,h1,h2⟩)
   ·exact .inl (.inl h)
   ·rcases w6.mp h1 with rfl|h1
    ·exact .inl (.inr h2.symm)
    ·exact .inr ⟨x,h1,h2⟩
theorem gM (P:List R3)(k:List Int):k∈xB key P↔∃x∈P,key x=k:=by
 unfold xB;rw[nf];simp
theorem qY:∀(P:List R3) (acc:List (List Int)),acc.Nodup→(P.foldl (fun ks x=>oB (key x) ks) acc).Nodup
 | [],acc,h=>h
 |y::P,acc,h=>by
  rw[wm];refine qY P _ ?_;by_cases hm:key y∈acc
  ·rw[tJ hm];exact h
  ·rw[jI hm];rw[mb];exact⟨h,by simp,fun a ha b hb=>by simp only[hU]at hb;subst hb;rintro rfl;exact hm ha⟩
theorem gK (P:List R3):(xB key P).Nodup:=qY key P [] List.nodup_nil
theorem na:∀(P:List R3) (acc:List (List Int)),(P.foldl (fun ks x=>oB (key x) ks) acc).length≤acc.length+P.length
 | [],acc=>by simp
 |y::P,acc=>by
  rw[wm];have:=na P (oB (key y) acc);have h2:(oB (key y) acc).length≤acc.length+1:=by unfold oB;cases hJ (key y) acc<;>simp
  simp only[u4];omega
theorem oO (P:List R3):(xB key P).length≤P.length:=by have:=na key P [];simpa[xB]using this
def qM (P:List R3)(k:List Int):List R3:=P.filter (fun x=>decide (key x=k))
def rG (P:List R3):List (List Int):=(xB key P).map fun k=>rB (qM key P k)
theorem fP {P:List R3}{x:R3}{k:List Int}(h:key x≠k):qM key (P++[x]) k=qM key P k:=by
 unfold qM;rw[List.filter_append,ba,if_neg (by simpa using h)];simp
theorem eP (P:List R3)(x:R3):qM key (P++[x]) (key x)=qM key P (key x)++[x]:=by
 unfold qM;rw[List.filter_append,ba,if_pos (by simp)];simp
theorem qb {P:List R3}{k:List Int}(h:k∉xB key P):qM key P k=[]:=by
 unfold qM;rw[yk];intro x hx;simp only[decide_eq_true_eq];intro e;exact h ((gM key P k).mpr ⟨x,hx,e⟩)
theorem cm (x:R3):rB [x]=[x.1,x.2.1,x.2.2]:=rfl
theorem Ng {P:List R3}{x:R3}(h:key x∉xB key P):rG key (P++[x])=rG key P++[[x.1,x.2.1,x.2.2]]:=by
 unfold rG;rw[iM,jI h,r8,p6,cx,eP,qb key h];congr 1;refine w7 fun k hk=>?_;rw[fP];rintro rfl;exact h hk
theorem Nh {P:List R3}{x:R3}{j:Nat}(h:(xB key P)[j]?=some (key x)):rG key (P++[x])=(rG key P).set j ((rG key P).getD j []++[x.1,x.2.1,x.2.2]):=by
 have hm:key x∈xB key P:=sh h;obtain⟨hj,hk⟩:=gy.mp h;have e:rG key (P++[x])=(xB key P).map fun k=>rB (qM key (P++[x]) k):=by unfold rG;rw[iM,tJ hm]
 rw[e];refine List.ext_getElem (by simp[rG]) fun i h1 h2=>?_;rw[List.getElem_map,List.getElem_set];by_cases hij:j=i
 ·subst hij;rw[if_pos rfl,hk,eP,mJ,cm];congr 1;rw[zE];unfold rG;rw[ts,h];rfl
 ·rw[if_neg hij];unfold rG;rw[List.getElem_map,fP];intro e2;exact hij (pc (gK key P) hj (by simpa[rG]using h2) (by rw[hk,e2]))
theorem bS (P:List R3):(rG key P).length=(xB key P).length:=by simp[rG]
theorem jw (P:List R3)(k:List Int):(qM key P k).length≤P.length:=py _ _
end
def ij (n:Nat):List Int:=(List.range n).map fun(i:Nat)=>(i:Int)
theorem As (n:Nat):ij n++[(n:Int)]=ij (n+1):=by simp[ij,List.range_succ]
theorem Nk {n j:Nat}(h:j<n):(ij n).getD j 0=(j:Int):=by
 rw[zE];simp[ij,List.getElem?_range h]
theorem aT {n:Nat}(h:n≤60000):cB n 24=true:=by simp only[cB,decide_eq_true_eq];omega
theorem lV {N:Nat}{X:List Int}{L:List R3}{s:R3→List Int}(hs:∀x∈L,Q73.f N x.1 x.2.1 x.2.2 X=some (vn (s x)))(hl:L.length≤45000){R:Type}(K:List (List Int)→Option R):∀(f i:Nat),i≤L.length→L.length-i<f→
  Q105.l8 N f X (L.length:Int) (i:Int) (xB (fun x=>lB (s x)) (L.take i)) (ij (xB (fun x=>lB (s x)) (L.take i)).length) (rG (fun x=>lB (s x)) (L.take i)) (rB L) K=K (rG (fun x=>lB (s x)) L)
 |0,i,_,h=>by omega
 |f+1,i,hi,hf=>by
  rw[Q105.l8];by_cases h:i<L.length
  ·have c1:decide ((i:Int)<(L.length:Int))=true:=decide_eq_true (by omega);have c2:decide (0≤(i:Int))=true:=decide_eq_true (by omega);obtain⟨e1,e2,e3⟩:=bJ h;have w:aA ((i:Int)+1)=((i+1:Nat):Int):=oL (by omega);have et:L.take (i+1)=L.take i++[L[i]]:=w5 h;have ih:=lV hs hl K f (i+1) (by omega) (by omega);simp only[c1,c2,cond_true,b6,y0,zD,e1,e2,e3,w];generalize hkey:(fun x=>lB (s x))=key at*;obtain⟨t,ht,hk⟩:∃t,Q73.f N L[i].1 L[i].2.1 L[i].2.2 X=some t∧ [t.1,t.2.1,t.2.2.1,t.2.2.2.1,t.2.2.2.2.1,t.2.2.2.2.2.1,t.2.2.2.2.2.2.1,t.2.2.2.2.2.2.2]=key L[i]:=⟨_,hs _ (b8 h),by rw[←hkey];rfl⟩
   simp only[ht,aE,hk];have hkl:=oO key (L.take i);have htl:(L.take i).length=i:=by rw[px];omega
   rw[et,iM]at ih;by_cases hm:key L[i]∈xB key (L.take i)
   ·rw[(kS _ _).mpr hm];obtain⟨j,hj⟩:∃j,sD (key L[i]) (xB key (L.take i)) 0=some j:=by
     cases hp:sD (key L[i]) (xB key (L.take i)) 0 with
     |none=>exact absurd hm (rJ _ _ _ hp)
     |some j=>exact⟨j,rfl⟩
    have hj2:(xB key (L.take i))[j]?=some (key L[i]):=by have:=(sJ _ _ _ _ hj).2;rwa[zu]at this
    obtain⟨hjl,_⟩:=gy.mp hj2;have hg:mD (key L[i]) (xB key (L.take i)) (ij (xB key (L.take i)).length)=(j:Int):=by unfold mD;rw[hj];exact Nk hjl
    have c3:decide ((j:Int)<((rG key (L.take i)).length:Int))=true:=decide_eq_true (by rw[bS];omega);have c4:decide (0≤(j:Int))=true:=decide_eq_true (by omega);have hrow:(((rG key (L.take i)).getD j []).length+3)/3≤60000:=by
     have:(rG key (L.take i)).getD j []=rB (qM key (L.take i) (key L[i])):=by rw[zE];unfold rG;rw[ts,hj2];rfl
     rw[this,wE];have:=jw key (L.take i) (key L[i]);omega
    simp only[tp,cond_false,hg,c3,c4,b6,cond_true,y0,aT hrow,show Nat.beq j j=true from by simp];rw[tJ hm,Nh key hj2]at ih;exact ih
   ·have hmf:hJ (key L[i]) (xB key (L.take i))=false:=by
     cases hb:hJ (key L[i]) (xB key (L.take i))
     ·rfl
     ·exact absurd ((kS _ _).mp hb) hm
    have hgl:=bS key (L.take i);have hg1:(rG key (L.take i)++[[]]).getD (rG key (L.take i)).length []=[]:=by rw[zE,tr (by omega),vm];rfl
    have hg2:∀v,(rG key (L.take i)++[[]]).set (rG key (L.take i)).length v=rG key (L.take i)++[v]:=fun v=>by rw[qs _ _ (by omega),vm];rfl
    have c3:decide (((rG key (L.take i)).length:Int)<((rG key (L.take i)++[[]]).length:Int))=true:=decide_eq_true (by rw[p7];simp only[u4,k9];omega);have c4:decide (0≤((rG key (L.take i)).length:Int))=true:=decide_eq_true (by omega);have hput:iH (key L[i]) ((rG key (L.take i)).length:Int) (xB key (L.take i)) (ij (xB key (L.take i)).length)=ij (oB (key L[i]) (xB key (L.take i))).length:=by
     unfold iH;rw[jI hm,hgl];unfold hJ at hmf;cases hp:sD (key L[i]) (xB key (L.take i)) 0 with
     |none=>simp only;rw[As,p7];rfl
     |some j=>rw[hp]at hmf;cases hmf
    simp only[hmf,au,cond_true,aT (show(rG key (L.take i)).length+1≤60000 by omega),c3,c4,b6,y0,hg1,hg2,k9,aT (show(0+3)/3≤60000 by decide),show Nat.beq (rG key (L.take i)).length (rG key (L.take i)).length=true from by simp,gz,hput];rw[Ng key hm]at ih;exact ih
  ·have c1:decide ((i:Int)<(L.length:Int))=false:=decide_eq_false (by omega);rw[c1,cond_false,ew (by omega)]
theorem xl (N:Nat){R:Type}:∀(f:Nat) (X:List Int) (a b:Int) (ks:List (List Int)) (vs:List Int) (gs:List (List Int)) (l:List Int) (K:List (List Int)→Option R),Q76.l8 N f X a b ks vs gs l K=Q105.l8 N f X a b ks vs gs l K
 |0,_,_,_,_,_,_,_,_=>rfl
 |f+1,X,a,b,ks,vs,gs,l,K=>by rw[Q76.l8,Q105.l8];simp only[xl N f]
theorem nj (N:Nat)(d:Int):Q76.f N d=Q105.f N d:=by
 unfold Q76.f Q105.f;simp only[xl]
theorem rX (N:Nat){a b:List Int}(hab:a.length=b.length)(hl:a.length≤100){T:Type}(k0:List Int→List Int→Option T)(kr:Bool→Option T):∀(n i:Nat),i≤a.length→a.length-i<n→
  Q102.l2 N n a b (i:Int) k0 kr=if a.drop i=b.drop i then k0 a b else kr false
 |0,i,_,h=>by omega
 |n+1,i,hi,hn=>by
  rw[Q102.l2];by_cases h:i<a.length
  ·have hb:i<b.length:=by omega
   have c1:decide ((i:Int)<(a.length:Int))=true:=decide_eq_true (by omega);have c3:decide ((i:Int)<(b.length:Int))=true:=decide_eq_true (by omega);have c2:decide (0≤(i:Int))=true:=decide_eq_true (by omega);have ea:a.getD i 0=a[i]:=by rw[zE,u0 h];rfl
   have eb:b.getD i 0=b[i]:=by rw[zE,u0 hb];rfl
   simp only[c1,c2,c3,cond_true,b6,y0,ea,eb];rw[x7 h,x7 hb];by_cases e:a[i]=b[i]
   ·have:(a[i] != b[i])=false:=by rw[bne_eq_false_iff_eq];exact e
    rw[this,cond_false,oL (by omega),rX N hab hl k0 kr n (i+1) (by omega) (by omega)];by_cases e2:a.drop (i+1)=b.drop (i+1)
    ·rw[if_pos e2,if_pos (by rw[e,e2])]
    ·rw[if_neg e2,if_neg fun q=>e2 (List.cons.inj q).2]
   ·have:(a[i] != b[i])=true:=by rw[bne_iff_ne];exact e
    rw[this,cond_true,if_neg fun q=>e (List.cons.inj q).1]
  ·rw[decide_eq_false (show ¬(i:Int)<(a.length:Int) by omega),cond_false,bb (by omega),bb (by omega),if_pos rfl]
theorem qu {N:Nat}(hN:1000<N){a b:List Int}(hab:a.length=b.length)(hl:a.length≤100):Q102.f N a b=some (decide (a=b)):=by
 unfold Q102.f;have:=rX N hab hl (T:=Bool) (fun y9 y10=>some ((y9.length:Int)==(y10.length:Int))) (fun y11=>some y11) N 0 (by omega) (by omega);rw[cu]at this;rw[this,sz,sz];by_cases e:a=b
 ·rw[if_pos e,decide_eq_true e,hab];simp
 ·rw[if_neg e,decide_eq_false e]
section
variable {N:Nat}{L:List R3}{s:R3→List Int}{m:Nat}
theorem aj (key:R3→List Int){j:Nat}(h:j<L.length)(k:List Int):qM key (L.take (j+1)) k=if key L[j]=k then qM key (L.take j) k++[L[j]]else qM key (L.take j) k:=by
 rw[w5 h];by_cases e:key L[j]=k
 ·rw[if_pos e,←e,eP]
 ·rw[if_neg e,fP key e]
theorem oR (hN:100000<N)(hs:∀x∈L,Q101.f N x.1 x.2.1 x.2.2=some (s x))(hm:∀x∈L,(s x).length=m)(hm8:m≤8)(hl:L.length≤45000)(ks:List (List Int))(x0:R3)(hx0:x0∈L)(i:Int)(gs:List (List Int)){R:Type}(K:List Int→Int→List (List Int)→List Bool→List Int→Option R):∀(f j:Nat),j≤L.length→L.length-j<f→
  Q103.l11 N f (rB L) i (s x0) (j:Int) gs ((L.take j).map (fun x=>decide (lB (s x)∈ks∨lB (s x)=lB (s x0)))++(L.drop j).map (fun x=>decide (lB (s x)∈ks))) (rB (qM (fun x=>lB (s x)) (L.take j) (lB (s x0)))) K=
   K (rB L) i gs (L.map (fun x=>decide (lB (s x)∈ks∨lB (s x)=lB (s x0)))) (rB (qM (fun x=>lB (s x)) L (lB (s x0))))
 |0,j,_,h=>by omega
 |f+1,j,hj,hf=>by
  rw[Q103.l11,zD];by_cases h:j<L.length
  ·have c1:decide ((j:Int)<(L.length:Int))=true:=decide_eq_true (by omega);have c2:decide (0≤(j:Int))=true:=decide_eq_true (by omega);obtain⟨e1,e2,e3⟩:=bJ h;have w:aA ((j:Int)+1)=((j+1:Nat):Int):=oL (by omega);have hmem:=b8 h;have hal:=qu (N:=N) (by omega) (a:=s L[j]) (b:=s x0) (by rw[hm _ hmem,hm _ hx0]) (by rw[hm _ hmem];omega);have ih:=oR hN hs hm hm8 hl ks x0 hx0 i gs K f (j+1) (by omega) (by omega);have hd:L.drop j=L[j]::L.drop (j+1):=x7 h;have htl:(L.take j).length=j:=by rw[px];omega
   have hsl:=jw (fun x=>lB (s x)) (L.take j) (lB (s x0));simp only[c1,c2,cond_true,b6,y0,e1,e2,e3,hs _ hmem,aE,hal,w];rw[aj _ h]at ih;by_cases e:s L[j]=s x0
   ·have ep:lB (s L[j])=lB (s x0):=by rw[e]
    have c4:decide ((j:Int)<(((L.take j).map (fun x=>decide (lB (s x)∈ks∨lB (s x)=lB (s x0)))++(L.drop j).map (fun x=>decide (lB (s x)∈ks))).length:Int))=true:=decide_eq_true (by rw[p7,l0,l0,htl,List.length_drop];omega);have c5:cB (((rB (qM (fun x=>lB (s x)) (L.take j) (lB (s x0)))).length+3)/3) 24=true:=aT (by rw[wE];omega);rw[decide_eq_true e,cond_true,c4,c5];simp only[cond_true];have es:((L.take j).map (fun x=>decide (lB (s x)∈ks∨lB (s x)=lB (s x0)))++(L.drop j).map (fun x=>decide (lB (s x)∈ks))).set j true=(L.take (j+1)).map (fun x=>decide (lB (s x)∈ks∨lB (s x)=lB (s x0)))++(L.drop (j+1)).map (fun x=>decide (lB (s x)∈ks)):=by
     have l1:((L.take j).map (fun x=>decide (lB (s x)∈ks∨lB (s x)=lB (s x0)))).length=j:=by rw[l0,htl]
     rw[qs _ _ (by omega),l1,vm,hd,p6,List.set_cons_zero,w5 h,r8,bu,p6,cx];rw[decide_eq_true (show lB (s L[j])∈ks∨lB (s L[j])=lB (s x0)from .inr ep)];rfl
    rw[es];rw[if_pos ep,mJ,cm]at ih;exact ih
   ·have ep:lB (s L[j])≠lB (s x0):=fun q=>e (yg (by rw[hm _ hmem];omega) (by rw[hm _ hmem,hm _ hx0]) q);rw[decide_eq_false e,cond_false];rw[if_neg ep]at ih;have es:(L.take j).map (fun x=>decide (lB (s x)∈ks∨lB (s x)=lB (s x0)))++(L.drop j).map (fun x=>decide (lB (s x)∈ks))=(L.take (j+1)).map (fun x=>decide (lB (s x)∈ks∨lB (s x)=lB (s x0)))++(L.drop (j+1)).map (fun x=>decide (lB (s x)∈ks)):=by
     rw[hd,p6,w5 h,r8,bu,p6,cx];have:decide (lB (s L[j])∈ks)=decide (lB (s L[j])∈ks∨lB (s L[j])=lB (s x0)):=by rw[decide_eq_decide];exact⟨.inl,fun q=>q.resolve_right ep⟩
     rw[this];rfl
    rw[es];exact ih
  ·have c1:decide ((j:Int)<(L.length:Int))=false:=decide_eq_false (by omega);rw[c1,cond_false,ew (by omega),bb (by omega),cx,gx]
theorem xS (hN:100000<N)(hs:∀x∈L,Q101.f N x.1 x.2.1 x.2.2=some (s x))(hm:∀x∈L,(s x).length=m)(hm8:m≤8)(hl:L.length≤45000){R:Type}(K:List (List Int)→Option R):∀(f i:Nat),i≤L.length→L.length-i<f→
  Q103.l5 N f (rB L) (i:Int) ((xB (fun x=>lB (s x)) (L.take i)).map fun k=>rB (qM (fun x=>lB (s x)) L k)) (L.map (fun x=>decide (lB (s x)∈xB (fun x=>lB (s x)) (L.take i)))) K=K (rG (fun x=>lB (s x)) L)
 |0,i,_,h=>by omega
 |f+1,i,hi,hf=>by
  rw[Q103.l5,zD];by_cases h:i<L.length
  ·have c1:decide ((i:Int)<(L.length:Int))=true:=decide_eq_true (by omega);have c2:decide (0≤(i:Int))=true:=decide_eq_true (by omega);have c3:decide ((i:Int)<((L.map (fun x=>decide (lB (s x)∈xB (fun x=>lB (s x)) (L.take i)))).length:Int))=true:=decide_eq_true (by rw[l0];omega);obtain⟨e1,e2,e3⟩:=bJ h;have w:aA ((i:Int)+1)=((i+1:Nat):Int):=oL (by omega);have hmem:=b8 h;have eg:(L.map (fun x=>decide (lB (s x)∈xB (fun x=>lB (s x)) (L.take i)))).getD i false=decide (lB (s L[i])∈xB (fun x=>lB (s x)) (L.take i)):=by
    rw[zE,ts,u0 h];rfl
   have ih:=xS hN hs hm hm8 hl K f (i+1) (by omega) (by omega);have et:L.take (i+1)=L.take i++[L[i]]:=w5 h;rw[et,iM]at ih;simp only[c1,c2,c3,cond_true,b6,y0,e1,e2,e3,eg,hs _ hmem,aE];have hkl:=oO (fun x=>lB (s x)) (L.take i);have htl:(L.take i).length=i:=by rw[px];omega
   by_cases hk:lB (s L[i])∈xB (fun x=>lB (s x)) (L.take i)
   ·rw[decide_eq_true hk,cond_true,w];rw[tJ hk]at ih;exact ih
   ·rw[decide_eq_false hk,cond_false];have hsel:qM (fun x=>lB (s x)) (L.take i) (lB (s L[i]))=[]:=qb _ hk;have hfl:L.map (fun x=>decide (lB (s x)∈xB (fun x=>lB (s x)) (L.take i)))=(L.take i).map (fun x=>decide (lB (s x)∈xB (fun x=>lB (s x)) (L.take i)∨lB (s x)=lB (s L[i])))++(L.drop i).map (fun x=>decide (lB (s x)∈xB (fun x=>lB (s x)) (L.take i))):=by
     conv=>lhs;rw[←qv i L,r8]
     congr 1
     ·rw[qv];refine w7 fun x hx=>?_;rw[decide_eq_decide];exact⟨.inl,fun _=>(gM _ _ _).mpr ⟨x,hx,rfl⟩⟩
     ·rw[qv]
    have hc:=oR hN hs hm hm8 hl (xB (fun x=>lB (s x)) (L.take i)) L[i] hmem (i:Int) ((xB (fun x=>lB (s x)) (L.take i)).map fun k=>rB (qM (fun x=>lB (s x)) L k)) (fun y22 y23 y24 y25 y26=>
       bif cB (y24.length+1) 24 then
        Q103.l5 N f y22 (aA (y23+1)) (y24++[y26]) y25 K
       else none) N i (by omega) (by omega)
    rw[hsel,←hfl]at hc;refine Eq.trans hc ?_;rw[aT (by rw[l0];omega),cond_true,w];rw[jI hk,r8]at ih;have hf2:L.map (fun x=>decide (lB (s x)∈xB (fun x=>lB (s x)) (L.take i)∨lB (s x)=lB (s L[i])))=L.map (fun x=>decide (lB (s x)∈xB (fun x=>lB (s x)) (L.take i)++[lB (s L[i])])):=by refine w7 fun x hx=>?_;rw[decide_eq_decide];simp
    rw[hf2];exact ih
  ·have c1:decide ((i:Int)<(L.length:Int))=false:=decide_eq_false (by omega);rw[c1,cond_false,ew (by omega)];rfl
end
theorem S4 {n:Nat}(h:n≤60000):cB n 1=true:=by simp only[cB,decide_eq_true_eq];omega
theorem mc {d:Int}(hd:oG d){x:R3}(h:Rd d x.1 x.2.1 x.2.2∧jF x.1 x.2.1 x.2.2=1):Fm d x.1 x.2.1 x.2.2:=
 ⟨⟨(xW hd h.1).1,⟨h.1.eq⟩,(jE _ _ _).mpr h.2⟩,hd.1⟩
theorem Qh {d:Int}(hd:oG d){L:List R3}(h:Cl d L):L≠ []:=by
 obtain⟨d0,d1,d4⟩:=hd;rintro rfl;rcases d4 with d4|d4
 ·have:=(h.mem (1,0, -d/4)).mpr ⟨⟨by simp only;omega,by simp only;omega,by simp only;omega,by simp only;omega,by simp only;omega⟩,by simp[jF,Cls.cC]⟩;simp at this
 ·have:=(h.mem (1,1,(1-d)/4)).mpr ⟨⟨by simp only;omega,by simp only;omega,by simp only;omega,by simp only;omega,by simp only;omega⟩,by simp[jF,Cls.cC]⟩;simp at this
theorem nk {N:Nat}(hN:8589934600<N){d:Int}(hd:oG d):∃(X:List Int) (L:List R3) (s:R3→List Int),qq d X∧X.length≤8∧Q71.f N d=some X∧Q98.f N d=some X∧Cl d L∧
  (∀x∈L,s x=X.map (sv N x.1 x.2.1 x.2.2))∧Q105.f N d=some (rG (fun x=>lB (s x)) L,0)∧Q103.f N d=some (rG (fun x=>lB (s x)) L):=by
 obtain⟨X,hX,e1,e2⟩:=gT hN hd;obtain⟨L,hL,k1,k2,k3,k4⟩:=me (N:=N) (by omega) hd;have h8:=hX.len hd.1;have hof:∀x∈L,Q73.f N x.1 x.2.1 x.2.2 X=some (vn (X.map (sv N x.1 x.2.1 x.2.2)))∧Q101.f N x.1 x.2.1 x.2.2=some (X.map (sv N x.1 x.2.1 x.2.2)):=fun x hx=>by obtain⟨X',_,_,_,f1,f2,_,_,f3⟩:=Nx hN (mc hd ((hL.mem x).mp hx));rw[e1]at f1;obtain rfl:=Option.some.inj f1;exact⟨f2,f3⟩
 refine⟨X,L,fun x=>X.map (sv N x.1 x.2.1 x.2.2),hX,h8,e1,e2,hL,fun x _=>rfl,?_,?_⟩
 ·unfold Q105.f;rw[k3];simp only[aE,bne_self_eq_false,cond_false,e1,zD];have:=lV (N:=N) (X:=X) (L:=L) (s:=fun x=>X.map (sv N x.1 x.2.1 x.2.2)) (fun x hx=>(hof x hx).1) hL.len (fun y13=>some (y13,(0:Int))) N 0 (by omega) (by have:=hL.len;omega);exact this
 ·unfold Q103.f;rw[k2];simp only[aE,zD,y0];have c:(decide True&&decide (0≤(L.length:Int))&&decide ((L.length:Int)≤9223372036854775807)&&cB L.length 1)=true:=by
   have:=hL.len;rw[S4 (by omega),decide_eq_true (show 0≤(L.length:Int) by omega),decide_eq_true (show(L.length:Int)≤9223372036854775807 by omega)];simp
  rw[c,cond_true];have:=xS (N:=N) (L:=L) (s:=fun x=>X.map (sv N x.1 x.2.1 x.2.2)) (m:=X.length) (by omega) (fun x hx=>(hof x hx).2) (fun x hx=>by simp) h8 hL.len (fun y28=>some y28) N 0 (by omega) (by have:=hL.len;omega);rw[show L.map (fun x=>decide (lB (X.map (sv N x.1 x.2.1 x.2.2))∈xB (fun x=>lB (X.map (sv N x.1 x.2.1 x.2.2))) (L.take 0)))=List.replicate L.length false from by rw[List.eq_replicate_iff];refine⟨by simp,fun b hb=>?_⟩;obtain⟨x,_,rfl⟩:=o0.mp hb;simp[xB]]at this;exact this
open Go.Proofs.YteaakcmkpacpaaaGreat.Pure (gA)
open Go.Proofs.YteaakcmkpacpaaaGreat.Cls (oG Cl zL fi vp)
structure ao (G:List (List Int)):Prop where
 len:G.length≤45000
 row:∀r∈G,∃m,m≤45000∧r.length=m*3
theorem ao.at {G:List (List Int)}(h:ao G){i:Nat}(hi:i<G.length):∃m,m≤45000∧(G.getD i []).length=m*3:=by
 rw[zE,u0 hi];exact h.row _ (b8 hi)
theorem yl (N:Nat){G:List (List Int)}{i m:Nat}(hi:i<G.length)(hG:G.length≤45000)(hm:m≤45000)(hl:(G.getD i []).length=m*3){T:Type}(k2:List (List Int)→List (List Int)→Int→Option T)(kr:Bool→Option T):∀(n j:Nat),j≤m→m-j<n→Q78.l9 N n G G (i:Int) (j:Int) k2 kr=k2 G G (i:Int)
 |0,j,_,h=>by omega
 |n+1,j,hj,hn=>by
  have c0:decide (0≤(i:Int))=true:=decide_eq_true (by omega);have c1:decide ((i:Int)<(G.length:Int))=true:=decide_eq_true (by omega);have c2:decide (0≤(j:Int))=true:=decide_eq_true (by omega);have el:(((G.getD i []).length)/3:Int)=(m:Int):=by rw[hl];omega
  rw[Q78.l9];simp only[c0,c1,c2,b6,cond_true,y0,el];by_cases h:j<m
  ·simp only[decide_eq_true (show(j:Int)<(m:Int) by omega),cond_true,beq_self_eq_true,b6,tp,cond_false];rw[oL (by omega)];exact yl N hi hG hm hl k2 kr n (j+1) (by omega) (by omega)
  ·rw[decide_eq_false (show ¬(j:Int)<(m:Int) by omega),cond_false]
theorem qa {N:Nat}(hN:100000<N){G:List (List Int)}(hG:ao G){T:Type}(k0:Unit→Option T)(kr:Bool→Option T):∀(n i:Nat),i≤G.length→G.length-i<n→Q78.l4 N n G G (i:Int) k0 kr=k0 ()
 |0,i,_,h=>by omega
 |n+1,i,hi,hn=>by
  have:=hG.len;rw[Q78.l4];by_cases h:i<G.length
  ·have c0:decide (0≤(i:Int))=true:=decide_eq_true (by omega);have c1:decide ((i:Int)<(G.length:Int))=true:=decide_eq_true (by omega);obtain⟨m,hm,hl⟩:=hG.at h;simp only[c0,c1,b6,cond_true,bne_self_eq_false,cond_false];have:=yl N h hG.len hm hl (fun y15 y16 y17=>Q78.l4 N n y15 y16 (aA (y17+1)) k0 kr) (fun y18=>kr y18) N 0 (by omega) (by omega);rw[cu]at this;rw[this,oL (by omega)];exact qa hN hG k0 kr n (i+1) (by omega) (by omega)
  ·rw[decide_eq_false (show ¬(i:Int)<(G.length:Int) by omega),cond_false]
theorem Bb {N:Nat}(hN:100000<N){G:List (List Int)}(hG:ao G):Q78.f N G G=some true:=by
 unfold Q78.f;simp only[bne_self_eq_false,cond_false];exact qa hN hG _ _ N 0 (by omega) (by have:=hG.len;omega)
theorem Dd (key:R3→List Int){L:List R3}(hl:L.length≤45000):ao (rG key L):=by
 refine⟨by rw[bS];have:=oO key L;omega,fun r hr=>?_⟩;unfold rG at hr;obtain⟨k,_,rfl⟩:=o0.mp hr;have:=jw key L k;exact⟨(qM key L k).length,by omega,by rw[wE]⟩
open Go.Proofs.YteaakcmkpacpaaaGreat.Pure (gA fJ lT cQ jE z8 val zl qH vE oH)
open Go.Proofs.YteaakcmkpacpaaaGreat.Cls (oG jF)
open Go.Proofs.YteaakcmkpacpaaaGreat.Jac (Sy Pr zO tL mu rs jz ka wP uI ey iK iJ cR)
def zN (q n:Int):Int:=if q= -4 then(if n%4=1 then 1 else-1)else if q=8 then(if n%8=1∨n%8=7 then 1 else-1)else if q= -8 then(if n%8=1∨n%8=3 then 1 else-1)else tL (mu (rs n q.toNat) q.toNat)
theorem gf (q n:Int):zN q n=1∨zN q n= -1:=by
 unfold zN
 repeat' split
 all_goals first|exact .inl rfl|exact .inr rfl|exact ka _
theorem qQ {p:Nat}(h3:3≤p)(ho:p%2=1)(n:Int):zN (p:Int) n=tL (mu (rs n p) p):=by
 unfold zN;rw[if_neg (by omega),if_neg (by omega),if_neg (by omega),y0]
theorem rI {p:Nat}(hp:Pr p)(n:Int):Int.gcd n p=1↔¬(p:Int)∣n:=by
 constructor
 ·intro h hd;have:(p:Int)∣((Int.gcd n (p:Int):Nat):Int):=rj hd (Int.dvd_refl _);rw[h]at this;have:=pb (by decide) this;have:=hp.1;omega
 ·intro h;rcases hp.2 _ (bw n.natAbs p)with e|e
  ·exact e
  ·exact absurd (ki.mpr (by have:=cz n.natAbs p;rwa[e]at this)) h
theorem F4 {p:Nat}(hp:Pr p){n:Int}(h:¬(p:Int)∣n):rs n p≠0:=fun e=>by
 have hr:=uI n (show 0<p by have:=hp.1;omega);rw[e]at hr;exact h (c8 hr.symm)
theorem eL {n q:Int}(hq:q= -4∨q=8∨q= -8):Int.gcd n q=1↔n%2=1:=by
 constructor
 ·intro h;rcases(show n%2=0∨n%2=1 by omega)with e|e
  ·exfalso;have h1:(2:Int)∣n:=c8 e;have h2:(2:Int)∣q:=by rcases hq with h|h|h<;>subst h<;>decide
   have h3:(2:Int)∣((Int.gcd n q:Nat):Int):=rj h1 h2;rw[h]at h3;exact absurd h3 (by decide)
  ·exact e
 ·intro h;have ho:n.natAbs%2=1:=by omega
  have h2:=Jac.fN ho;have h22:Nat.gcd (2*2) n.natAbs=1:=Nat.Coprime.mul_left h2 h2;have h222:Nat.gcd (2*2*2) n.natAbs=1:=Nat.Coprime.mul_left h22 h2;unfold Int.gcd;rw[b7];rcases hq with rfl|rfl|rfl
  ·exact h22
  ·exact h222
  ·exact h222
theorem M0 {N:Nat}(hN:8589934600<N){n q:Int}(hq:Sy q)(n0:0<n)(n1:n≤4611686018427387904)(hc:Int.gcd n q=1):Q99.f N n q=some (zN q n):=by
 have t4:Int.tmod n 4=n%4:=hE (by omega);have t8:Int.tmod n 8=n%8:=hE (by omega);cases hq with
 |m4=>
  unfold Q99.f zN;rw[t4,if_pos rfl];by_cases h:n%4=1
  ·simp[h]
  ·rw[if_neg h];simp[beq_eq_false_iff_ne.mpr h]
 |p8=>
  unfold Q99.f zN;rw[t8,if_neg (by decide),if_pos rfl];by_cases h:n%8=1
  ·simp[h]
  ·by_cases h7:n%8=7
   ·simp[h7]
   ·rw[if_neg (by omega)];simp[beq_eq_false_iff_ne.mpr h,beq_eq_false_iff_ne.mpr h7]
 |m8=>
  unfold Q99.f zN;rw[t8,if_neg (by decide),if_neg (by decide),if_pos rfl];by_cases h:n%8=1
  ·simp[h]
  ·by_cases h7:n%8=3
   ·simp[h7]
   ·rw[if_neg (by omega)];simp[beq_eq_false_iff_ne.mpr h,beq_eq_false_iff_ne.mpr h7]
 |pr p hp h3 ho hb=>rw[qQ h3 ho,cR hN n0 n1 hp h3 ho hb (by omega) (F4 hp ((rI hp n).mp hc))]
theorem xR {n m q:Int}(h:Int.gcd n q=1)(k:Int.gcd m q=1):Int.gcd (n*m) q=1:=by
 unfold Int.gcd at*;rw[Int.natAbs_mul];exact Nat.Coprime.mul_left h k
theorem mR {n m q:Int}(hq:Sy q)(h:Int.gcd n q=1)(k:Int.gcd m q=1):zN q (n*m)=zN q n*zN q m:=by
 have ev:q= -4∨q=8∨q= -8→zN q (n*m)=zN q n*zN q m:=by
  intro e;have ho:=(eL e).mp h;have ko:=(eL e).mp k;have e8:(n*m)%8=((n%8)*(m%8))%8:=bs n m 8;have e4:(n*m)%4=((n%4)*(m%4))%4:=bs n m 4;have c1:n%8=1∨n%8=3∨n%8=5∨n%8=7:=by omega
  have c2:m%8=1∨m%8=3∨m%8=5∨m%8=7:=by omega
  unfold zN;rw[e8,e4];rcases c1 with c1|c1|c1|c1<;>rcases c2 with c2|c2|c2|c2<;>rcases e with rfl|rfl|rfl<;>
   simp[c1,c2,show n%4=(n%8)%4 by omega,show m%4=(m%8)%4 by omega]
 cases hq with
 |m4=>exact ev (.inl rfl)
 |p8=>exact ev (.inr (.inl rfl))
 |m8=>exact ev (.inr (.inr rfl))
 |pr p hp h3 ho hb=>
  have p0:0<p:=by omega
  have hn:=F4 hp ((rI hp n).mp h);have hm:=F4 hp ((rI hp m).mp k);have ln:=ey n p0;have lm:=ey m p0;rw[qQ h3 ho,qQ h3 ho,qQ h3 ho,←jz];have e:rs (n*m) p=(rs n p*rs m p)%p:=by
   have:((rs (n*m) p:Nat):Int)=(((rs n p*rs m p)%p:Nat):Int):=by rw[uI _ p0,gg,eu,uI _ p0,uI _ p0,←bs]
   exact_mod_cast this
  rw[e,iJ];refine wP (iK ho (hp.cop (by rw[yK ln];exact hn)) (hp.cop (by rw[yK lm];exact hm)))
inductive fh (d:Int):Int→Prop
 |pr (p:Nat) (hp:Pr p) (h3:3≤p) (ho:p%2=1) (hb:p≤65536) (hd:(p:Int)∣d):fh d (p:Int)
 |m4 (h:d%4=0) (hk:(-d/4)%4=1∨(-d/4)%8=4∨(-d/4)%8=0):fh d (-4)
 |p8 (h:d%4=0) (hk:(-d/4)%8=6∨(-d/4)%8=0):fh d 8
 |m8 (h:d%4=0) (hk:(-d/4)%8=2):fh d (-8)
theorem fh.sy {d q:Int}(h:fh d q):Sy q:=by
 cases h with
 |pr p hp h3 ho hb hd=>exact .pr p hp h3 ho hb
 |m4=>exact .m4
 |p8=>exact .p8
 |m8=>exact .m8
theorem qq.adm {d:Int}{X:List Int}(h:qq d X)(hL:oG d){q:Int}(hq:q∈X):fh d q:=by
 obtain⟨d0,d1,d4⟩:=hL;obtain⟨l,hl,rfl⟩:=h.ex;rcases o3.mp hq with h|h
 ·obtain⟨p,hp,rfl⟩:=o0.mp h;obtain⟨a,b,c⟩:=(dG hl p).mp hp;have hle:=p5 (by omega) b;refine .pr p ⟨by have:=a.1;omega,a.2⟩ (by omega) ?_ (by omega) ?_
  ·rcases x6 p with q|q
   ·have:=a.2 2 (xK q);omega
   ·exact q
  ·have:=w4.mpr b;rw[show(((-d).toNat:Nat):Int)= -d by omega]at this;exact zv.mp this
 ·unfold mI at h;by_cases h2:d%2≠0
  ·rw[if_pos h2]at h;cases h
  ·rw[if_neg h2]at h;by_cases h3:(-d/4)%4=3
   ·rw[if_pos h3]at h;cases h
   ·rw[if_neg h3]at h;by_cases h4:(-d/4)%4=1∨(-d/4)%8=4
    ·rw[if_pos h4]at h;simp only[hU]at h;subst h;exact .m4 (by omega) (by omega)
    ·rw[if_neg h4]at h;by_cases h5:(-d/4)%8=2
     ·rw[if_pos h5]at h;simp only[hU]at h;subst h;exact .m8 (by omega) h5
     ·rw[if_neg h5]at h;by_cases h6:(-d/4)%8=6
      ·rw[if_pos h6]at h;simp only[hU]at h;subst h;exact .p8 (by omega) (.inl h6)
      ·rw[if_neg h6]at h;simp only[w6,um,or_false]at h;rcases h with rfl|rfl
       ·exact .m4 (by omega) (by omega)
       ·exact .p8 (by omega) (by omega)
theorem U0 (x:Int):(x*x)%8=0∨(x*x)%8=1∨(x*x)%8=4:=by
 have e:(x*x)%8=((x%8)*(x%8))%8:=bs x x 8;have c:x%8=0∨x%8=1∨x%8=2∨x%8=3∨x%8=4∨x%8=5∨x%8=6∨x%8=7:=by omega
 rw[e];rcases c with c|c|c|c|c|c|c|c<;>rw[c]<;>decide
theorem Cn {d a b c q:Int}(hof:b*b-4*a*c=d)(hA:fh d q)(x y u v:Int)(h:Int.gcd (val a b c x y) q=1)(k:Int.gcd (val a b c u v) q=1):zN q (val a b c x y*val a b c u v)=1:=by
 have hrq:=xR h k;have key:4*(val a b c x y*val a b c u v)=(2*a*x*u+b*(x*v+y*u)+2*c*y*v)*(2*a*x*u+b*(x*v+y*u)+2*c*y*v)-d*((x*v-y*u)*(x*v-y*u)):=by rw[←hof];unfold val;grind
 have evn:d%4=0→∃P,val a b c x y*val a b c u v=P*P+(-d/4)*((x*v-y*u)*(x*v-y*u)):=by
  intro h4;have hb:b%2=0:=by
   have e:(b*b)%2=((b%2)*(b%2))%2:=bs b b 2;have e2:4*a*c=4*(a*c):=by grind
   rcases(show b%2=0∨b%2=1 by omega)with q|q
   ·exact q
   ·rw[q]at e;omega
  obtain⟨b',rfl⟩:∃b',b=2*b':=⟨b/2,by omega⟩
  obtain⟨k',rfl⟩:∃k',d= -(4*k'):=⟨-d/4,by omega⟩
  refine⟨a*x*u+b'*(x*v+y*u)+c*y*v,?_⟩;have ek: -(-(4*k'))/4=k':=by omega
  rw[ek];have e3:4*(val a (2*b') c x y*val a (2*b') c u v)=4*((a*x*u+b'*(x*v+y*u)+c*y*v)*(a*x*u+b'*(x*v+y*u)+c*y*v)+k'*((x*v-y*u)*(x*v-y*u))):=by rw[key];grind
  omega
 generalize val a b c x y*val a b c u v=r at*;generalize hQ:(x*v-y*u)*(x*v-y*u)=t at*;have ht:t%8=0∨t%8=1∨t%8=4:=hQ▸U0 _;have Ru:∀k0:Int,(-d/4)%8=k0→∃w,(-d/4)*t=8*w+k0*t:=fun k0 hk=>⟨(-d/4)/8*t,by
  have:(-d/4)=8*((-d/4)/8)+k0:=by omega
  generalize(-d/4)/8=j at*;rw[this,Int.add_mul,Int.mul_assoc]⟩
 cases hA with
 |pr p hp h3 ho hb hd=>
  generalize 2*a*x*u+b*(x*v+y*u)+2*c*y*v=P at*;have hr:=(rI hp r).mp hrq;have h2:¬(p:Int)∣2:=fun q=>by have:=pb (by decide) q;omega
  have c2:=(rI hp 2).mpr h2;have hmulp:∀x y:Int,¬(p:Int)∣x→¬(p:Int)∣y→¬(p:Int)∣x*y:=fun x y hx hy=>(rI hp _).mp (xR ((rI hp x).mpr hx) ((rI hp y).mpr hy));have h4r:¬(p:Int)∣4*r:=hmulp 4 r (by have:=hmulp 2 2 h2 h2;rwa[show(2:Int)*2=4 from rfl]at this) hr;have hP:¬(p:Int)∣P:=fun q=>h4r (by rw[key];exact ta (dd q) (dd hd));have sy:Sy (p:Int):=.pr p hp h3 ho hb;have e1:zN (p:Int) (4*r)=zN (p:Int) r:=by rw[mR sy (by rw[show(4:Int)=2*2 from rfl];exact xR c2 c2) hrq,show(4:Int)=2*2 from rfl,mR sy c2 c2];rcases gf (p:Int) 2 with q|q<;>rw[q]<;>omega
  have e2:zN (p:Int) (4*r)=zN (p:Int) (P*P):=by
   rw[qQ h3 ho,qQ h3 ho];have:rs (4*r) p=rs (P*P) p:=by unfold rs;congr 1;rw[key];obtain⟨e,he⟩:=hd;rw[he,show P*P- (p:Int)*e*t=P*P+(p:Int)*(-(e*t)) by grind,bt]
   rw[this]
  have cP:=(rI hp P).mpr hP;rw[←e1,e2,mR sy cP cP];rcases gf (p:Int) P with q|q<;>rw[q]<;>rfl
 |m4 h4 hk=>
  have hr:=(eL (.inl rfl)).mp hrq;obtain⟨P,hP⟩:=evn h4;have hs:=U0 P;generalize P*P=s at*;have:r%4=1:=by
   have hk8:(-d/4)%8=1∨(-d/4)%8=5∨(-d/4)%8=4∨(-d/4)%8=0:=by omega
   rcases hk8 with q|q|q|q
   all_goals (obtain⟨w,hw⟩:=Ru _ q;rw[hw]at hP;omega)
  unfold zN;rw[if_pos rfl,if_pos this]
 |p8 h4 hk=>
  have hr:=(eL (.inr (.inl rfl))).mp hrq;obtain⟨P,hP⟩:=evn h4;have hs:=U0 P;generalize P*P=s at*;have:r%8=1∨r%8=7:=by
   rcases hk with q|q
   all_goals (obtain⟨w,hw⟩:=Ru _ q;rw[hw]at hP;omega)
  unfold zN;rw[if_neg (by decide),if_pos rfl,if_pos this]
 |m8 h4 hk=>
  have hr:=(eL (.inr (.inr rfl))).mp hrq;obtain⟨P,hP⟩:=evn h4;have hs:=U0 P;generalize P*P=s at*;have:r%8=1∨r%8=3:=by obtain⟨w,hw⟩:=Ru _ hk;rw[hw]at hP;omega
  unfold zN;rw[if_neg (by decide),if_neg (by decide),if_pos rfl,if_pos this]
theorem Aa {d a b c q:Int}(hof:b*b-4*a*c=d)(hA:fh d q)(x y u v:Int)(h:Int.gcd (val a b c x y) q=1)(k:Int.gcd (val a b c u v) q=1):zN q (val a b c x y)=zN q (val a b c u v):=by
 have e:=Cn hof hA x y u v h k;rw[mR hA.sy h k]at e;rcases gf q (val a b c x y)with h1|h1<;>rcases gf q (val a b c u v)with h2|h2<;>rw[h1,h2]at e⊢ <;>first|rfl|(exfalso;revert e;decide)
theorem dV {N:Nat}(hN:8589934600<N){d a b c q:Int}(h:Fm d a b c)(hA:fh d q):∃x y,sv N a b c q=zN q (val a b c x y)∧Int.gcd (val a b c x y) q=1∧(∀u v,Int.gcd (val a b c u v) q=1→sv N a b c q=zN q (val a b c u v)):=by
 obtain⟨⟨a0,a1⟩,⟨b0,b1⟩,⟨c0,c1⟩,s0⟩:=h.bd;obtain⟨_,e,_⟩:=fT hN h hA.sy;have hp:∃x y,zO a c (a+b+c) q=val a b c x y∧Int.gcd (val a b c x y) q=1∧0<val a b c x y∧val a b c x y≤4611686018427387904:=by
  have v1:val a b c 1 0=a:=by unfold val;grind
  have v2:val a b c 0 1=c:=by unfold val;grind
  have v3:val a b c 1 1=a+b+c:=by unfold val;grind
  unfold zO;by_cases h1:Int.gcd a q=1
  ·rw[if_pos h1];exact⟨1,0,v1.symm,by rw[v1];exact h1,by rw[v1];omega,by rw[v1];omega⟩
  ·rw[if_neg h1];by_cases h2:Int.gcd c q=1
   ·rw[if_pos h2];exact⟨0,1,v2.symm,by rw[v2];exact h2,by rw[v2];omega,by rw[v2];omega⟩
   ·rw[if_neg h2];have h3:=((Em hA.sy h.val.pr).resolve_left h1).resolve_left h2;exact⟨1,1,v3.symm,by rw[v3];exact h3,by rw[v3];omega,by rw[v3];omega⟩
 obtain⟨x,y,p1,p2,p3,p4⟩:=hp;rw[p1,M0 hN hA.sy p3 p4 p2]at e;have e':sv N a b c q=zN q (val a b c x y):=(Option.some.inj e).symm;exact⟨x,y,e',p2,fun u v k=>by rw[e'];exact Aa h.val.of.eq hA x y u v p2 k⟩
theorem Sj {N:Nat}(hN:8589934600<N){d a b c a' b' c' q:Int}(h:Fm d a b c)(h':Fm d a' b' c')(hA:fh d q)(he:z8 a b c a' b' c'):sv N a' b' c' q=sv N a b c q:=by
 obtain⟨t,u,v,w,hd,rfl,rfl,rfl⟩:=he;obtain⟨x,y,e1,e2,_⟩:=dV hN h' hA;obtain⟨_,_,_,_,e3⟩:=dV hN h hA;have ev:val (tA a b c t v) (tB a b c t u v w) (tA a b c u w) x y=val a b c (t*x+u*y) (v*x+w*y):=by unfold val tA tB;grind
 rw[ev]at e1 e2;rw[e1,e3 _ _ e2]
theorem kh {N:Nat}(hN:8589934600<N){d a1 b1 c1 a2 b2 c2 a b c q:Int}(h1:Fm d a1 b1 c1)(h2:Fm d a2 b2 c2)(h:Fm d a b c)(hr:qH d (Pure.Pr d (Pure.La d a1 b1) (Pure.La d a2 b2)) a b c)(hA:fh d q):sv N a b c q=sv N a1 b1 c1 q*sv N a2 b2 c2 q:=by
 obtain⟨x,y,e1,e2,_⟩:=dV hN h1 hA;obtain⟨u,v,e3,e4,_⟩:=dV hN h2 hA;obtain⟨_,_,_,_,e5⟩:=dV hN h hA;obtain⟨X,Y,eX⟩:=zl h1.val.dn h1.val h2.val hr x y u v;rw[e5 X Y (by rw[eX];exact xR e2 e4),eX,e1,e3,mR hA.sy e2 e4]
theorem qq.ne {d:Int}{X:List Int}(h:qq d X)(hL:oG d):X≠ []:=by
 obtain⟨d0,d1,d4⟩:=hL;obtain⟨l,hl,rfl⟩:=h.ex;have odd:∀n:Nat,n%2=1→1<n→(n∣(-d).toNat)→fF l≠ []:=fun n hn h1 hd he=>by
  have hx:∃p,rC p∧p∣n:=by
   have:∀f k,1<k→k∣n→k≤f→∃p,1<p∧p∣n∧∀k,1<k→k∣n→p≤k:=by
    intro f;induction f with
    |zero=>intro k h1 _ h2;omega
    |succ f ih=>
     intro k h1 h2 h3;by_cases hx:∃k',1<k'∧k'∣n∧k'<k
     ·obtain⟨k',a1,a2,a3⟩:=hx;exact ih k' a1 a2 (by omega)
     ·exact⟨k,h1,h2,fun k' a1 a2=>vd fun a3=>hx ⟨k',a1,a2,a3⟩⟩
   obtain⟨p,hp1,hp2,hp3⟩:=this n n h1 (cy _) (a6 _);exact⟨p,Fr.prime (p:=p) (n:=n) hp3 hp1 hp2,hp2⟩
  obtain⟨p,hp,hpn⟩:=hx;have h2:2<p:=by
   have:=hp.1;rcases pC 2 p with q|q
   ·exact q
   ·have:p=2:=by omega
    subst this;have:=o1 hpn;omega
  have:=(dG hl p).mpr ⟨hp,o2 hpn hd,h2⟩;rw[he]at this;cases this
 intro he;obtain⟨he1,he2⟩:=List.append_eq_nil_iff.mp he;have he1':fF l=[]:=by
  cases ho:fF l with
  |nil=>rfl
  |cons x xs=>rw[ho]at he1;simp[ints]at he1
 by_cases h2:d%2≠0
 ·exact odd (-d).toNat (by omega) (by omega) (cy _) he1'
 ·by_cases h3:(-d/4)%4=3
  ·refine odd (-d/4).toNat (by omega) (by omega) ⟨4,by omega⟩ he1'
  ·unfold mI at he2;rw[if_neg h2,if_neg h3]at he2;revert he2
   repeat' split
   all_goals simp
end Go.Proofs.YteaakcmkpacpaaaGreat.Gen
namespace Go.Proofs.YteaakcmkpacpaaaGreat.Grp
structure AG (G:Type) where
 mul:G→G→G
 one:G
 inv:G→G
 assoc:∀x y z,mul (mul x y) z=mul x (mul y z)
 comm:∀x y,mul x y=mul y x
 one_mul:∀x,mul one x=x
 inv_mul:∀x,mul (inv x) x=one
section
variable {G:Type}{A:AG G}
theorem AG.mul_one (A:AG G)(x:G):A.mul x A.one=x:=by rw[A.comm,A.one_mul]
theorem AG.left (A:AG G){x y z:G}(h:A.mul x y=A.mul x z):y=z:=by
 have:=congrArg (A.mul (A.inv x)) h;rwa[←A.assoc,←A.assoc,A.inv_mul,A.one_mul,A.one_mul]at this
theorem AG.four (A:AG G)(x y z w:G):A.mul (A.mul x y) (A.mul z w)=A.mul (A.mul x z) (A.mul y w):=by
 rw[A.assoc,A.assoc,←A.assoc y,A.comm y z,A.assoc z]
def pw (A:AG G)(x:G):Nat→G
 |0=>A.one
 |n+1=>A.mul (pw A x n) x
theorem F1 (x:G):pw A x 1=x:=A.one_mul x
theorem uk (x:G)(m:Nat):∀n,pw A x (m+n)=A.mul (pw A x m) (pw A x n)
 |0=>(A.mul_one _).symm
 |n+1=>by show A.mul (pw A x (m+n)) x=A.mul (pw A x m) (A.mul (pw A x n) x);rw[uk x m n,A.assoc]
theorem Ew {L:List G}(hn:L.Nodup){f:G→G}(hf:∀x∈L,f x∈L)(hi:∀x y,f x=f y→x=y):(L.map f).Perm L:=by
 have hnd:(L.map f).Nodup:=by rw[List.Nodup,y4];exact hn.imp (fun hne e=>hne (hi _ _ e))
 have hsub:∀(l m:List G),l.Nodup→(∀x∈l,x∈m)→m.length≤l.length→∀x∈m,x∈l:=by
  classical
  intro l;induction l with
  |nil=>intro m _ _ h3 x hx;have:m=[]:=List.length_eq_zero_iff.mp (by simpa using h3);subst this;exact hx
  |cons a l ih=>
   intro m h1 h2 h3 x hx;have ha:a∈m:=h2 a (by simp);rw[il]at h1;by_cases hxa:x=a
   ·subst hxa;simp
   ·refine hV _ (ih (m.erase a) h1.2 (fun y hy=>?_) ?_ x ?_)
    ·have:y≠a:=fun e=>h1.1 (e▸hy);exact(w9 this).mpr (h2 y (hV _ hy))
    ·rw[e9 ha];simp only[u4]at h3;omega
    ·exact(w9 hxa).mpr hx
 refine(gr hnd hn).mpr fun x=>⟨fun hx=>?_,fun hx=>?_⟩
 ·obtain⟨y,hy,rfl⟩:=o0.mp hx;exact hf y hy
 ·refine hsub (L.map f) L hnd (fun y hy=>?_) (by simp) x hx;obtain⟨z,hz,rfl⟩:=o0.mp hy;exact hf z hz
structure Pz (L:List G):Prop where
 nd:L.Nodup
 all:∀x:G,x∈L
theorem Pz.pos {L:List G}(A:AG G)(h:Pz L):0<L.length:=bc (h.all A.one)
def Us (A:AG G)(x:G)(n:Nat):Prop:=0<n∧∀k,pw A x k=A.one↔n∣k
theorem Us.kill {x:G}{n:Nat}(h:Us A x n):pw A x n=A.one:=(h.2 n).mpr (cy n)
def U6 (ps:List Nat)(n:Nat):Prop:=∀m,1<m→m∣n→∃p∈ps,p∣m
theorem U6.dvd {ps:List Nat}{n m:Nat}(h:U6 ps n)(hm:m∣n):U6 ps m:=fun k h1 h2=>h k h1 (o2 h2 hm)
end
section
open Go Go.Proofs.YteaakcmkpacpaaaGreat.Ev
open Go.Proofs.YteaakcmkpacpaaaGreat.Pure (Dn lg qH La Pr Oo lT Pw zp fJ vE vO uZ iN jE)
open Go.Proofs.YteaakcmkpacpaaaGreat.Cls (Rd jF oG xW)
abbrev Ms (d:Int)(M L:Mod.E→Prop):Prop:=Pure.Cl d M L
def Kl (d:Int)(x:R3):Prop:=Rd d x.1 x.2.1 x.2.2∧jF x.1 x.2.1 x.2.2=1
abbrev K (d:Int):={x:R3//Kl d x}
variable {d:Int}
theorem cG (hd:oG d):Dn d:=by
 refine⟨by have:=hd.2.1;omega,?_⟩;have h:=hd.2.2;unfold Pure.sd Pure.md;rcases h with h|h
 ·have:d%2=0:=by omega
  rw[this];have:=hd.2.1;omega
 ·have:d%2=1:=by omega
  rw[this];have:=hd.2.1;omega
theorem vW (hd:oG d): -4294967296≤d:=by have:=hd.1;omega
theorem K.red (hd:oG d)(x:K d):lg d x.1.1 x.1.2.1 x.1.2.2:=by
 obtain⟨h1,h2⟩:=x.2;obtain⟨f,i,s⟩:=xW hd h1;exact⟨h1.pos,⟨h1.eq⟩,i,s,(jE _ _ _).mpr h2⟩
theorem Qw {a b c:Int}(h:lg d a b c):Kl d (a,b,c):=by
 have h1:=h.inr;have h2:=h.sm;unfold Pure.qK at h1;unfold Pure.gC at h2;exact⟨⟨h.of.eq,h.a0,h1.1,h1.2,by simp only;omega⟩,(jE _ _ _).mp h.pr⟩
theorem K.val (hd:oG d)(x:K d):lT d x.1.1 x.1.2.1 x.1.2.2:=(x.red hd).val (cG hd).neg (vW hd)
def Lc (x:K d):Mod.E→Prop:=La d x.1.1 x.1.2.1
theorem uR (hd:oG d){x y:K d}(h:Ms d (Lc x) (Lc y)):x=y:=by
 obtain⟨h1,h2,h3⟩:=(x.red hd).same (cG hd) (y.red hd) h;apply Subtype.ext;obtain⟨⟨a,b,c⟩,hx⟩:=x;obtain⟨⟨a',b',c'⟩,hy⟩:=y;simp only at h1 h2 h3;subst h1 h2 h3;rfl
theorem rS {a b c:Int}{M:Mod.E→Prop}(h:qH d M a b c):∃z:K d,z.1=(a,b,c)∧Ms d M (Lc z):=⟨⟨_,Qw h.red⟩,rfl,h.cl⟩
theorem E4 (hd:oG d)(x y:K d):∃z:K d,Ms d (Pr d (Lc x) (Lc y)) (Lc z):=by
 obtain⟨a,b,c,_,h⟩:=vE (N:=8589934700) (by decide) (x.val hd) (y.val hd);obtain⟨z,_,h⟩:=rS h;exact⟨z,h⟩
theorem El (hd:oG d):∃z:K d,Ms d Oo (Lc z):=by
 obtain⟨b,c,_,h⟩:=vO 0 (cG hd).neg (vW hd) hd.2.2;obtain⟨z,_,h⟩:=rS h;exact⟨z,h⟩
theorem Dl (hd:oG d)(x:K d):∃z:K d,Ms d (Pr d (Lc x) (Lc z)) Oo:=by
 obtain⟨a,b,c,_,h1,h2⟩:=iN (N:=8589934700) (by decide) (x.val hd);exact⟨⟨_,Qw h1⟩,h2⟩
noncomputable def mul (hd:oG d)(x y:K d):K d:=Classical.choose (E4 hd x y)
noncomputable def one (hd:oG d):K d:=Classical.choose (El hd)
noncomputable def inv (hd:oG d)(x:K d):K d:=Classical.choose (Dl hd x)
theorem kI (hd:oG d)(x y:K d):Ms d (Pr d (Lc x) (Lc y)) (Lc (mul hd x y)):=Classical.choose_spec (E4 hd x y)
theorem wQ (hd:oG d):Ms d Oo (Lc (one hd)):=Classical.choose_spec (El hd)
theorem Dk (hd:oG d)(x:K d):Ms d (Pr d (Lc x) (Lc (inv hd x))) Oo:=Classical.choose_spec (Dl hd x)
noncomputable def rG (hd:oG d):AG (K d) where
 mul:=mul hd
 one:=one hd
 inv:=inv hd
 assoc x y z:=by have dm:=(cG hd).m;refine uR hd ?_;have h1:=(kI hd (mul hd x y) z).symm.trans dm (((kI hd x y).symm.left (Lc z)));have h2:=(kI hd x (mul hd y z)).symm.trans dm (Mod.Hm.prod dm (Mod.Hm.refl _ _ (Lc x)) (kI hd y z).symm);exact h1.trans dm ((Mod.Hm.assoc (s:=Pure.sd d) (m:=Pure.md d) (Lc x) (Lc y) (Lc z)).trans dm h2.symm)
 comm x y:=by have dm:=(cG hd).m;exact uR hd ((kI hd x y).symm.trans dm ((Mod.Hm.comm (Lc x) (Lc y)).trans dm (kI hd y x)))
 one_mul x:=by have dm:=(cG hd).m;refine uR hd ((kI hd (one hd) x).symm.trans dm (((wQ hd).symm.left (Lc x)).trans dm ?_));exact(x.red hd).of.one (cG hd)
 inv_mul x:=by have dm:=(cG hd).m;refine uR hd ((kI hd (inv hd x) x).symm.trans dm ((Mod.Hm.comm (Lc (inv hd x)) (Lc x)).trans dm ((Dk hd x).trans dm (wQ hd))))
theorem Qu (hd:oG d)(x:K d):∀n,Ms d (Pw d (Lc x) n) (Lc (pw (rG hd) x n))
 |0=>wQ hd
 |n+1=>((Qu hd x n).left (Lc x)).trans (cG hd).m (kI hd _ x)
theorem Rq {a b c:Int}{z:K d}(h:z.1=(a,b,c)):a=z.1.1∧b=z.1.2.1∧c=z.1.2.2:=by rw[h];exact⟨rfl,rfl,rfl⟩
theorem bk {N:Nat}(hN:8589934600<N)(hd:oG d)(x y:K d):Q92.f N x.1.1 x.1.2.1 x.1.2.2 y.1.1 y.1.2.1 y.1.2.2=some ((mul hd x y).1.1,(mul hd x y).1.2.1,(mul hd x y).1.2.2,0):=by
 obtain⟨a,b,c,e,h⟩:=vE hN (x.val hd) (y.val hd);obtain⟨z,hz,h⟩:=rS h;have:z=mul hd x y:=uR hd (h.symm.trans (cG hd).m (kI hd x y));subst this;obtain⟨rfl,rfl,rfl⟩:=Rq hz;exact e
theorem lX (N:Nat)(hd:oG d):Q50.f N d=some ((one hd).1.1,(one hd).1.2.1,(one hd).1.2.2,0):=by
 obtain⟨b,c,e,h⟩:=vO N (cG hd).neg (vW hd) hd.2.2;obtain⟨z,hz,h⟩:=rS h;have:z=one hd:=uR hd (h.symm.trans (cG hd).m (wQ hd));subst this;obtain⟨h1,rfl,rfl⟩:=Rq hz;rw[e,←h1]
theorem mX {N:Nat}(hN:8589934600<N)(hd:oG d)(x:K d){n:Int}(n0:0≤n)(n1:n<9223372036854775808):
  Q54.f N x.1.1 x.1.2.1 x.1.2.2 n=some ((pw (rG hd) x n.toNat).1.1,(pw (rG hd) x n.toNat).1.2.1,(pw (rG hd) x n.toNat).1.2.2,0):=by
 have iX:Pure.Id d (Lc (inv hd x)):=((inv hd x).red hd).of.one (cG hd);obtain⟨a,b,c,e,h⟩:=uZ hN (x.val hd) (Dk hd x) iX (n:=n) (by omega) n1;obtain⟨z,hz,h⟩:=rS h;have hzp:zp d (La d x.1.1 x.1.2.1) (Lc (inv hd x)) n=Pw d (Lc x) n.toNat:=if_pos n0;rw[hzp]at h;have:z=pw (rG hd) x n.toNat:=uR hd (h.symm.trans (cG hd).m (Qu hd x n.toNat));subst this;obtain⟨rfl,rfl,rfl⟩:=Rq hz;exact e
theorem Dq:∀(L:List R3),(∀x∈L,Kl d x)→∃KL:List (K d),KL.map (·.1)=L
 | [],_=>⟨[],rfl⟩
 |x::L,h=>by obtain⟨KL,hK⟩:=Dq L (fun y hy=>h y (hV _ hy));exact⟨⟨x,h x (by simp)⟩::KL,by simp[hK]⟩
theorem Ca {L:List R3}(h:Cls.Cl d L):∃KL:List (K d),KL.map (·.1)=L∧Pz KL:=by
 obtain⟨KL,rfl⟩:=Dq L (fun x hx=>(h.mem x).mp hx);refine⟨KL,rfl,?_,fun x=>?_⟩
 ·have:=h.nodup;rw[List.Nodup,y4]at this;exact this.imp fun hne e=>hne (by rw[e])
 ·obtain⟨y,hy,e⟩:=o0.mp ((h.mem x.1).mpr x.2);rw[←Subtype.ext e];exact hy
end
section
open Go Go.Proofs.YteaakcmkpacpaaaGreat.Ev
open Go.Proofs.YteaakcmkpacpaaaGreat.Pure (gA jl La Pr Oo)
open Go.Proofs.YteaakcmkpacpaaaGreat.Cls (oG Rd jF aY)
variable {d:Int}
theorem wg (hd:oG d)(z:K d):mul hd z z=one hd↔z.1.2.1=0∨z.1.1=z.1.2.1∨z.1.1=z.1.2.2:=by
 have dm:=(cG hd).m;have hO:=jl (z.red hd) (cG hd) (vW hd) (M:=Lc z) (Mod.Hm.refl _ _ _);have back:Ms d (Lc z) (La d z.1.1 (-z.1.2.1))→mul hd z z=one hd:=fun h=>by refine uR hd ((kI hd z z).symm.trans dm (Mod.Hm.trans dm ?_ (wQ hd)));exact(Mod.Hm.prod dm (Mod.Hm.refl _ _ (Lc z)) h).trans dm hO
 constructor
 ·intro h;apply Classical.byContradiction;intro hn;simp only[not_or]at hn;obtain⟨n1,n2,n3⟩:=hn;have hr:=z.2.1;have hk:Kl d (z.1.1, -z.1.2.1,z.1.2.2):=by
   refine⟨⟨?_,hr.pos,?_,?_,?_⟩,?_⟩
   ·have e: -z.1.2.1* -z.1.2.1=z.1.2.1*z.1.2.1:=by grind
    rw[e];exact hr.eq
   ·have:=hr.hi;simp only;omega
   ·have:=hr.lo;simp only;omega
   ·have:=hr.last;simp only;omega
   ·rw[aY];exact z.2.2
  let k:K d:=⟨_,hk⟩
  have h1:mul hd z k=one hd:=uR hd ((kI hd z k).symm.trans dm (Mod.Hm.trans dm hO (wQ hd)));have h2:k=z:=(rG hd).left (x:=z) (h1.trans h.symm);have h3: -z.1.2.1=z.1.2.1:=congrArg (fun t:K d=>t.1.2.1) h2;omega
 ·rintro(h|h|h)
  ·apply back;unfold Lc;rw[h];exact Mod.Hm.refl _ _ _
  ·apply back;refine Mod.Hm.same fun t=>?_;have:=Pure.La.shift d z.1.1 (-z.1.2.1) 1 t;rw[show-z.1.2.1+2*z.1.1*1=z.1.2.1 by omega]at this;exact this.symm
  ·apply back;have:=(z.red hd).of.swap (cG hd).neg (by have:=z.2.1.pos;omega);rw[←h]at this;exact this
end
section
variable {G:Type}{A:AG G}{T:Type}
def Mt (A:AG G)(f:G→T):Prop:=∀x y z,f x=f y→f (A.mul z x)=f (A.mul z y)
theorem Mt.iff {f:G→T}(h:Mt A f)(x y z:G):f (A.mul z x)=f (A.mul z y)↔f x=f y:=by
 constructor
 ·intro e;have:=h _ _ (A.inv z) e;rwa[←A.assoc,←A.assoc,A.inv_mul,A.one_mul,A.one_mul]at this
 ·exact h x y z
theorem yw (f g:T→Nat):∀D:List T,(D.map fun v=>f v+g v).sum=(D.map f).sum+(D.map g).sum
 | []=>rfl
 |d::D=>by simp only[p6,pn,yw f g D];omega
theorem cV (c:Nat):∀D:List T,(D.map fun _=>c).sum=D.length*c
 | []=>by simp
 |d::D=>by rw[p6,pn,cV c D,u4,zx];omega
variable [DecidableEq T]
theorem Mt.fibre {f:G→T}(h:Mt A f){L:List G}(hL:Pz L)(y:G):L.countP (fun x=>decide (f x=f y))=L.countP (fun x=>decide (f x=f A.one)):=by
 have hp:=Ew (f:=A.mul y) hL.nd (fun x _=>hL.all _) (fun a b e=>A.left e);rw[←hp.countP_eq,List.countP_map];refine List.countP_congr fun x _=>?_;simp only[Function.comp,decide_eq_true_eq];have:=h.iff x A.one y;rw[A.mul_one]at this;exact this
theorem yx (a:T):∀{D:List T},D.Nodup→a∈D→(D.map fun v=>if a=v then 1 else 0).sum=1
 | [],_,h=>by cases h
 |d::D,hn,h=>by
  obtain⟨h1,h2⟩:=il.mp hn;rw[p6,pn];by_cases e:a=d
  ·subst e;rw[if_pos rfl];have:∀l:List T,a∉l→(l.map fun v=>if a=v then 1 else 0).sum=0:=by
    intro l;induction l with
    |nil=>intro _;rfl
    |cons b l ih=>intro hb;rw[p6,pn,if_neg (fun e=>hb (by simp[e])),ih fun q=>hb (hV _ q)]
   rw[this D h1]
  ·rw[if_neg e,yx a h2 ((w6.mp h).resolve_left e)]
theorem bm {f:G→T}{D:List T}(hn:D.Nodup):∀(L:List G),(∀x∈L,f x∈D)→(D.map fun v=>L.countP (fun x=>decide (f x=v))).sum=L.length
 | [],_=>by have:=cV (T:=T) 0 D;simpa using this
 |y::L,h=>by
  have ih:=bm (f:=f) hn L fun x hx=>h x (hV _ hx);have e:(fun v=>(y::L).countP (fun x=>decide (f x=v)))=fun v=>L.countP (fun x=>decide (f x=v))+(if f y=v then 1 else 0):=by funext v;rw[List.countP_cons];simp
  rw[e,yw,ih,yx _ hn (h y (by simp)),u4]
theorem Mt.count {f:G→T}(h:Mt A f){L:List G}(hL:Pz L){D:List T}(hn:D.Nodup)(hD:∀v,v∈D↔∃x,f x=v):D.length*L.countP (fun x=>decide (f x=f A.one))=L.length:=by
 rw[←bm (f:=f) hn L fun x _=>(hD _).mpr ⟨x,rfl⟩,←cV];congr 1;refine w7 fun v hv=>?_;obtain⟨y,rfl⟩:=(hD v).mp hv;exact(h.fibre hL y).symm
end
theorem xa {g c s t k n:Nat}(h1:g*c=n)(h2:s*t=n)(h3:s≤c)(h4:t≤k)(h5:k≤g)(hn:0<n):g=k∧s=c:=by
 have c0:0<c:=n4 fun e=>by subst e;simp at h1;omega
 have t0:0<t:=n4 fun e=>by subst e;simp at h2;omega
 have e1:s*t≤c*k:=c7 h3 h4;have e2:g≤k:=by apply Nat.le_of_mul_le_mul_right (c:=c) _ c0;rw[h1,←h2,hW k c];exact e1
 have e3:g=k:=by omega
 refine⟨e3,?_⟩;rcases pC s c with q|q
 ·exfalso;have:s*t<c*t:=Nat.mul_lt_mul_of_pos_right q t0;have:c*t≤c*g:=c7 (a6 _) (by omega);rw[hW c g]at this;omega
 ·omega
end Go.Proofs.YteaakcmkpacpaaaGreat.Grp
namespace Go.Proofs.YteaakcmkpacpaaaGreat.Gen
open Go Go.Proofs.YteaakcmkpacpaaaGreat.Ev
open Go.Proofs.YteaakcmkpacpaaaGreat.Cls (oG jF Rd Cl)
open Go.Proofs.YteaakcmkpacpaaaGreat.Jac (lU)
theorem vZ {n:Nat}(h1:1<n):∃p,rC p∧p∣n:=by
 have:∀f k,1<k→k∣n→k≤f→∃p,1<p∧p∣n∧∀k,1<k→k∣n→p≤k:=by
  intro f;induction f with
  |zero=>intro k h1 _ h2;omega
  |succ f ih=>
   intro k h1 h2 h3;by_cases hx:∃k',1<k'∧k'∣n∧k'<k
   ·obtain⟨k',a1,a2,a3⟩:=hx;exact ih k' a1 a2 (by omega)
   ·exact⟨k,h1,h2,fun k' a1 a2=>vd fun a3=>hx ⟨k',a1,a2,a3⟩⟩
 obtain⟨p,hp1,hp2,hp3⟩:=this n n h1 (cy _) (a6 _);exact⟨p,Fr.prime (p:=p) (n:=n) hp3 hp1 hp2,hp2⟩
theorem Rm {a b:Nat}(hb:0<b)(h:∀p,rC p→p∣a→p∣b→False):Nat.gcd a b=1:=by
 have hg:=vc a hb;rcases pC 1 (Nat.gcd a b)with q|q
 ·obtain⟨p,hp,hd⟩:=vZ q;exact(h p hp (o2 hd (cz a b)) (o2 hd (bw a b))).elim
 ·omega
def ud:PL→List Nat
 | []=>[1]
 |x::l=>ud l++(ud l).map fun u=>x.1^x.2*u
theorem Mj:∀l:PL,(ud l).length=2^l.length
 | []=>rfl
 |x::l=>by simp only[ud,p7,l0,Mj l,u4,j3];omega
theorem ku:∀{l:PL} {u v:Nat},(∀x∈l,rC x.1∧0<x.2)→u*v=bE l→Nat.gcd u v=1→u∈ud l
 | [],u,v,_,h,_=>by have:=Nat.eq_one_of_mul_eq_one_right (show u*v=1 from h);simp[ud,this]
 |x::l,u,v,hp,h,hc=>by
  obtain⟨h1,h2⟩:=hp x (by simp);have hl:=fun y hy=>hp y (hV x hy);simp only[bE]at h;have hpos:0<x.1^x.2:=fo (by have:=h1.1;omega);have hdv:x.1∣u*v:=by
   rw[h];obtain⟨k,hk⟩:∃k,x.2=k+1:=⟨x.2-1,by omega⟩
   rw[hk,j3,o4];exact o2 ⟨bE l,rfl⟩ ⟨_,hW _ _⟩
  have cop:∀w,¬x.1∣w→Nat.Coprime (x.1^x.2) w:=fun w hw=>Nat.Coprime.pow_left _ (by have:=h1.cop hw;unfold Nat.Coprime;rw[b7];exact this);simp only[ud,o3,o0];rcases h1.dvd_mul hdv with q|q
  ·have hv:¬x.1∣v:=fun r=>by
    have:=Nat.dvd_gcd q r;rw[hc]at this;have:=nw.mp this;have:=h1.1;omega
   obtain⟨u',rfl⟩:=(cop v hv).dvd_of_dvd_mul_right (show x.1^x.2∣u*v from⟨_,h⟩);have e:u'*v=bE l:=by rw[o4]at h;exact cd hpos h
   exact .inr ⟨u',ku hl e (Nat.Coprime.coprime_mul_left hc),rfl⟩
  ·have hu:¬x.1∣u:=fun r=>by
    have:=Nat.dvd_gcd r q;rw[hc]at this;have:=nw.mp this;have:=h1.1;omega
   obtain⟨v',rfl⟩:=(cop u hu).dvd_of_dvd_mul_left (show x.1^x.2∣u*v from⟨_,h⟩);have e:u*v'=bE l:=by
    have:x.1^x.2*(u*v')=x.1^x.2*bE l:=by rw[←h,Nat.mul_left_comm]
    exact cd hpos this
   exact .inl (ku hl e (Nat.Coprime.coprime_mul_left_right hc))
theorem pf {M:Nat}{l:PL}(hl:Fz M l)(hM:0<M){P:List (Nat×Nat)}(hn:P.Nodup)(hP:∀x∈P,x.1*x.2=M∧Nat.gcd x.1 x.2=1∧x.1<x.2):2*P.length≤2^l.length:=by
 have key:∀x∈P,∀y∈P,x.1=y.1→x=y:=fun x hx y hy e=>by obtain⟨a1,_,_⟩:=hP x hx;obtain⟨b1,_,_⟩:=hP y hy;refine Prod.ext e ?_;rw[e,←b1]at a1;exact cd (n4 fun q=>by rw[q]at b1;simp at b1;omega) a1
 have key2:∀x∈P,∀y∈P,x.2=y.2→x=y:=fun x hx y hy e=>by obtain⟨a1,_,_⟩:=hP x hx;obtain⟨b1,_,_⟩:=hP y hy;refine Prod.ext ?_ e;rw[e,←b1]at a1;exact Nat.eq_of_mul_eq_mul_right (n4 fun q=>by rw[q]at b1;simp at b1;omega) a1
 have n1:(P.map (·.1)).Nodup:=by rw[List.Nodup,y4];exact hn.imp_of_mem fun hx hy hne e=>hne (key _ hx _ hy e)
 have n2:(P.map (·.2)).Nodup:=by rw[List.Nodup,y4];exact hn.imp_of_mem fun hx hy hne e=>hne (key2 _ hx _ hy e)
 have n3:(P.map (·.1)++P.map (·.2)).Nodup:=by rw[mb];refine⟨n1,n2,fun a ha b hb e=>?_⟩;obtain⟨x,hx,rfl⟩:=o0.mp ha;obtain⟨y,hy,rfl⟩:=o0.mp hb;obtain⟨a1,_,a3⟩:=hP x hx;obtain⟨b1,_,b3⟩:=hP y hy;rw[←b1,e,hW y.1]at a1;have:=cd (show 0<y.2 by omega) a1;omega
 have:=lU _ (ud l) n3 fun u hu=>by
  rcases o3.mp hu with h|h
  ·obtain⟨x,hx,rfl⟩:=o0.mp h;obtain⟨a1,a2,_⟩:=hP x hx;exact ku hl.pr (a1.trans hl.prod.symm) a2
  ·obtain⟨x,hx,rfl⟩:=o0.mp h;obtain⟨a1,a2,_⟩:=hP x hx;exact ku hl.pr ((hW _ _).trans (a1.trans hl.prod.symm)) (by rw[b7];exact a2)
 rw[Mj,p7,l0,l0]at this;omega
theorem sj {M:Nat}{l:PL}(h:Fz M l):l.length=(fF l).length+if M%2=0 then 1 else 0:=by
 have h2:rC 2:=⟨by decide,fun k hk=>by have:=p5 (by decide) hk;have:=c9 hk (by decide);omega⟩
 have e:l.map (·.1)=(if M%2=0 then [2]else [])++fF l:=by
  refine yS (y4.mpr h.up) ?_ fun p=>?_
  ·rw[cb];refine⟨by split<;>simp,tP h,fun a ha b hb=>?_⟩;have:=((dG h b).mp hb).2.2;split at ha
   ·simp only[hU]at ha;omega
   ·cases ha
  ·rw[h.mem,o3,dG h];constructor
   ·rintro⟨a,b⟩;rcases pC 2 p with q|q
    ·exact .inr ⟨a,b,q⟩
    ·have:p=2:=by have:=a.1;omega
     subst this;rw[if_pos (o1 b)];exact .inl (by simp)
   ·rintro(h|⟨a,b,_⟩)
    ·split at h
     ·rename_i hm;simp only[hU]at h;subst h;exact⟨h2,xK hm⟩
     ·cases h
    ·exact⟨a,b⟩
 have:=congrArg List.length e;rw[l0,p7]at this;rw[this];split<;>simp<;>omega
theorem dx {M M':Nat}{l l':PL}(h:Fz M l)(h':Fz M' l')(hs:∀p,rC p→2<p→(p∣M↔p∣M')):fF l=fF l':=
 yS (tP h) (tP h') fun p=>by
  rw[dG h,dG h'];constructor
  ·rintro⟨a,b,c⟩;exact⟨a,(hs p a c).mp b,c⟩
  ·rintro⟨a,b,c⟩;exact⟨a,(hs p a c).mpr b,c⟩
open Go.Proofs.YteaakcmkpacpaaaGreat.Pure (jE)
theorem ue {α:Type} [DecidableEq α]:∀{l m:List α},l.Nodup→(∀x∈l,x∈m)→l.length≤m.length
 | [],m,_,_=>C1 _
 |x::l,m,hn,hs=>by obtain⟨h1,h2⟩:=il.mp hn;have hx:=hs x (by simp);have ih:=ue (l:=l) (m:=m.erase x) h2 (fun y hy=>(w9 (fun(e:y=x)=>h1 (by rw[←e];exact hy))).mpr (hs y (by simp[hy])));rw[e9 hx]at ih;have:=bc hx;simp only[u4];omega
def Rf (x:R3):Bool:=decide (x.2.1=0∨x.1=x.2.1∨x.1=x.2.2)
def Qe (x:R3):Bool:=decide (x.2.1=0)
def qx (x:R3):Bool:=decide (x.2.1≠0∧(x.1=x.2.1∨x.1=x.2.2))
theorem rT:∀L:List R3,L.countP Rf=(L.filter Qe).length+(L.filter qx).length
 | []=>rfl
 |x::L=>by
  rw[List.countP_cons,rT L,ba,ba];unfold Rf Qe qx;by_cases h:x.2.1=0
  ·rw[decide_eq_true (show x.2.1=0∨x.1=x.2.1∨x.1=x.2.2 from .inl h),decide_eq_true h,decide_eq_false (show ¬(x.2.1≠0∧(x.1=x.2.1∨x.1=x.2.2))from fun q=>q.1 h)];simp;omega
  ·by_cases h2:x.1=x.2.1∨x.1=x.2.2
   ·rw[decide_eq_true (show x.2.1=0∨x.1=x.2.1∨x.1=x.2.2 from .inr h2),decide_eq_false h,decide_eq_true (show x.2.1≠0∧(x.1=x.2.1∨x.1=x.2.2)from⟨h,h2⟩)];simp;omega
   ·rw[decide_eq_false (show ¬(x.2.1=0∨x.1=x.2.1∨x.1=x.2.2)from fun q=>q.elim h h2),decide_eq_false h,decide_eq_false (show ¬(x.2.1≠0∧(x.1=x.2.1∨x.1=x.2.2))from fun q=>h2 q.2)];simp
theorem uP {a b c:Int}(h:jF a b c=1){p:Nat}(hp:rC p)(ha:(p:Int)∣a)(hb:(p:Int)∣b)(hc:(p:Int)∣c):False:=by
 obtain⟨x,y,z,e⟩:=(jE a b c).mpr h;have:(p:Int)∣1:=by rw[←e];exact mm (mm (s5 ha) (s5 hb)) (s5 hc)
 have:=pb (by decide) this;have:=hp.1;omega
theorem oS {p:Nat}(hp:rC p)(h2:2<p){x:Int}:(p:Int)∣2*x→(p:Int)∣x:=fun h=>by
 have:=ki.mp h;rw[Int.natAbs_mul]at this;rcases hp.dvd_mul this with q|q
 ·have:=p5 (by decide) q;simp at this;omega
 ·exact ki.mpr q
def fu (x:R3):Int:=if x.1=x.2.1 then x.1 else 2*x.1-x.2.1
def fv (x:R3):Int:=if x.1=x.2.1 then 4*x.2.2-x.1 else 2*x.1+x.2.1
def fw (x:R3):Int:=if x.1=x.2.1 then x.2.2 else x.1
theorem wy {d:Int}{x:R3}(h:Rd d x.1 x.2.1 x.2.2)(hc:jF x.1 x.2.1 x.2.2=1)(ha:qx x=true):
  fu x*fv x= -d∧0<fu x∧fu x<fv x∧fu x+fv x=4*fw x∧(∀p:Nat,rC p→2<p→(p:Int)∣fu x→(p:Int)∣fv x→False)∧
  (d%2=0→fu x%2=0∧fv x%2=0∧fw x%2=1):=by
 obtain⟨a,b,c⟩:=x;simp only[qx,decide_eq_true_eq]at ha;obtain⟨hb0,ht⟩:=ha;have h0:=h.eq;have hp:=h.pos;have hpar:=h.parity;obtain⟨_,_,l1,l2,l3⟩:=h;simp only[fu,fv,fw]at*;have e4:4*a*c=4*(a*c):=by grind
 have odd2:∀q:Int,q%2=0→(2:Int)∣q:=fun q h=>c8 h;have pr2:rC 2:=⟨by decide,fun k hk=>by have:=p5 (by decide) hk;have:=c9 hk (by decide);omega⟩
 by_cases hab:a=b
 ·subst hab;simp only[if_true];refine⟨?_,hp,by omega,by omega,fun p hpp h2 d1 d2=>?_,fun hd=>?_⟩
  ·rw[Int.mul_sub,show a*(4*c)=4*a*c by grind];omega
  ·have:(p:Int)∣2*(2*c):=by
    have:=mm d2 d1;rwa[show 4*c-a+a=2*(2*c) by omega]at this
   exact uP hc hpp d1 d1 (oS hpp h2 (oS hpp h2 this))
  ·have ha2:a%2=0:=by omega
   refine⟨ha2,by omega,?_⟩;rcases(show c%2=0∨c%2=1 by omega)with q|q
   ·exact(uP hc pr2 (odd2 a ha2) (odd2 a ha2) (odd2 c q)).elim
   ·exact q
 ·have hac:a=c:=ht.resolve_left hab;subst hac;rw[if_neg hab,if_neg hab,if_neg hab];have hbp:0<b:=by omega
  refine⟨?_,by omega,by omega,by omega,fun p hpp h2 d1 d2=>?_,fun hd=>?_⟩
  ·rw[←h0];grind
  ·have s1:(p:Int)∣2*(2*a):=by
    have:=mm d1 d2;rwa[show 2*a-b+(2*a+b)=2*(2*a) by omega]at this
   have s2:(p:Int)∣2*b:=by have:=ta d2 d1;rwa[show 2*a+b- (2*a-b)=2*b by omega]at this
   have da:=oS hpp h2 (oS hpp h2 s1);exact uP hc hpp da (oS hpp h2 s2) da
  ·have hb2:b%2=0:=by omega
   refine⟨by omega,by omega,?_⟩;rcases(show a%2=0∨a%2=1 by omega)with q|q
   ·exact(uP hc pr2 (odd2 a q) (odd2 b hb2) (odd2 a q)).elim
   ·exact q
theorem Tc {d:Int}{x y:R3}(h:Rd d x.1 x.2.1 x.2.2)(k:Rd d y.1 y.2.1 y.2.2)(ha:qx x=true)(hb:qx y=true)(e1:fu x=fu y)(e2:fv x=fv y):x=y:=by
 obtain⟨a,b,c⟩:=x;obtain⟨a',b',c'⟩:=y;simp only[qx,decide_eq_true_eq]at ha hb;obtain⟨_,p1,l1,l2,l3⟩:=h;obtain⟨_,p2,k1,k2,k3⟩:=k;simp only[fu,fv]at*;have:a=a'∧b=b'∧c=c':=by
  by_cases q:a=b<;>by_cases r:a'=b'
  ·rw[if_pos q,if_pos r]at e1 e2;omega
  ·rw[if_pos q,if_neg r]at e1 e2;omega
  ·rw[if_neg q,if_pos r]at e1 e2;omega
  ·rw[if_neg q,if_neg r]at e1 e2;omega
 obtain⟨rfl,rfl,rfl⟩:=this;rfl
theorem dH {d:Int}{L:List R3}(hL:Cl d L){p:R3→Bool}{x:R3}(h:x∈L.filter p):Rd d x.1 x.2.1 x.2.2∧jF x.1 x.2.1 x.2.2=1∧p x=true:=by
 obtain⟨h1,h2⟩:=ry.mp h;obtain⟨h3,h4⟩:=(hL.mem x).mp h1;exact⟨h3,h4,h2⟩
theorem dj {α β:Type}{f:α→β}{l:List α}(hn:l.Nodup)(hi:∀x∈l,∀y∈l,f x=f y→x=y):(l.map f).Nodup:=by
 rw[List.Nodup,y4];exact hn.imp_of_mem fun hx hy hne e=>hne (hi _ hx _ hy e)
theorem xy {u v:Int}(hv:0<v)(h:∀p:Nat,rC p→(p:Int)∣u→(p:Int)∣v→False)(hu:0≤u):Nat.gcd u.toNat v.toNat=1:=
 Rm (by omega) fun p hp d1 d2=>h p hp (by have:=w4.mpr d1;rwa[r7 hu]at this) (by have:=w4.mpr d2;rwa[r7 (by omega)]at this)
theorem D7 {d:Int}{k:Nat}{L:List R3}(hL:Cl d L)(hk:d= -(4*(k:Int)))(hk1:1<k){l:PL}(hl:Fz k l):2*(L.filter Qe).length≤2^l.length:=by
 have hb:∀x∈L.filter Qe,x.2.1=0∧0<x.1∧x.1<x.2.2∧x.1*x.2.2=(k:Int)∧jF x.1 x.2.1 x.2.2=1:=fun x hx=>by
  obtain⟨h1,h2,h3⟩:=dH hL hx;have h0:=h1.eq;have hp:=h1.pos;obtain⟨_,_,l1,l2,l3⟩:=h1;have hb:x.2.1=0:=by simpa[Qe]using h3
  have e:x.1*x.2.2=(k:Int):=by
   rw[hb]at h0;have:4*x.1*x.2.2=4*(x.1*x.2.2):=by grind
   omega
  refine⟨hb,hp,?_,e,h2⟩;rcases l3 with q|⟨q,_⟩
  ·exact q
  ·exfalso;rw[hb,←q]at h2;have h1:x.1=1:=by
    rcases a8 1 x.1 with r|r
    ·obtain⟨p,hpp,hpd⟩:=vZ (n:=x.1.toNat) (by omega);have:=w4.mpr hpd;rw[r7 (by omega)]at this;exact(uP h2 hpp this (Int.dvd_zero _) this).elim
    ·omega
   rw[←q,h1]at e;omega
 have:=pf hl (by omega) (P:=(L.filter Qe).map fun x=>(x.1.toNat,x.2.2.toNat)) (dj (hL.nodup.filter _) fun x hx y hy e=>by
  obtain⟨b1,b2,b3,b4,_⟩:=hb x hx;obtain⟨c1,c2,c3,c4,_⟩:=hb y hy;simp only[Prod.mk.injEq]at e;exact Prod.ext (by omega) (Prod.ext (by omega) (by omega))) (fun z hz=>by
  obtain⟨x,hx,rfl⟩:=o0.mp hz;obtain⟨b1,b2,b3,b4,b5⟩:=hb x hx;refine⟨?_,xy (by omega) (fun p hp d1 d2=>uP b5 hp d1 (by rw[b1];exact Int.dvd_zero _) d2) (by omega),by simp only;omega⟩;have:((x.1.toNat*x.2.2.toNat:Nat):Int)=(k:Int):=by rw[eu,r7 (by omega),r7 (by omega)];exact b4
  exact_mod_cast this)
 rwa[l0]at this
theorem tU {d:Int}{M s:Nat}{L:List R3}(hL:Cl d L)(hs:0<s)(hM:0<M)(hd: -d=(s:Int)*s*M){l:PL}(hl:Fz M l)
  (hdv:∀x∈L.filter qx,(s:Int)∣fu x∧(s:Int)∣fv x∧∀u v:Int,fu x=s*u→fv x=s*v→(2:Int)∣u→(2:Int)∣v→False):2*(L.filter qx).length≤2^l.length:=by
 have hb:∀x∈L.filter qx,∃u v:Int,fu x=s*u∧fv x=s*v∧0<u∧u<v∧u*v=(M:Int)∧∀p:Nat,rC p→(p:Int)∣u→(p:Int)∣v→False:=fun x hx=>by
  obtain⟨h1,h2,h3⟩:=dH hL hx;obtain⟨f1,f2,f3,f4,f5,f6⟩:=wy h1 h2 h3;obtain⟨⟨u,hu⟩,⟨v,hv⟩,h22⟩:=hdv x hx;have hs':(0:Int)<s:=by omega
  have up:0<u:=by
   rcases a8 0 u with q|q
   ·exact q
   ·have:=c6 (show(0:Int)≤s by omega) (show 0≤ -u by omega);rw[mx]at this;omega
  have uv:u<v:=by
   rcases a8 u v with q|q
   ·exact q
   ·have:=fp q (show(0:Int)≤s by omega);omega
  refine⟨u,v,hu,hv,up,uv,?_,fun p hp d1 d2=>?_⟩
  ·rw[hu,hv,hd]at f1;have:(s:Int)*s*(u*v)=(s:Int)*s*M:=by rw[←f1];grind
   exact bz (by have:=zw hs' hs';omega) this
  ·rcases pC 2 p with q|q
   ·exact f5 p hp q (by rw[hu];exact s5 d1) (by rw[hv];exact s5 d2)
   ·have:p=2:=by have:=hp.1;omega
    subst this;exact h22 u v hu hv d1 d2
 have dv:∀u:Int,((s:Int)*u)/s=u:=fun u=>cp _ (by omega);have:=pf hl hM (P:=(L.filter qx).map fun x=>((fu x/s).toNat,(fv x/s).toNat)) (dj (hL.nodup.filter _) fun x hx y hy e=>by
  obtain⟨u,v,h1,h2,h3,h4,_,_⟩:=hb x hx;obtain⟨u',v',k1,k2,k3,k4,_,_⟩:=hb y hy;obtain⟨r1,_,r3⟩:=dH hL hx;obtain⟨t1,_,t3⟩:=dH hL hy;simp only[h1,h2,k1,k2,dv,Prod.mk.injEq]at e;have e1:u=u':=by omega
  have e2:v=v':=by omega
  exact Tc r1 t1 r3 t3 (by rw[h1,k1,e1]) (by rw[h2,k2,e2])) (fun z hz=>by
  obtain⟨x,hx,rfl⟩:=o0.mp hz;obtain⟨u,v,h1,h2,h3,h4,h5,h6⟩:=hb x hx;simp only[h1,h2,dv];refine⟨?_,xy (by omega) h6 (by omega),by omega⟩;have:((u.toNat*v.toNat:Nat):Int)=(M:Int):=by rw[eu,r7 (by omega),r7 (by omega)];exact h5
  exact_mod_cast this)
 rwa[l0]at this
theorem Ql {n:Nat}(h0:0<n)(h1:n≤65536):∃l,Fz n l:=by
 obtain⟨l,hl,_⟩:=iV (N:=8589934700) (by decide) h0 h1;exact⟨l,hl⟩
theorem Rh {d:Int}{X:List Int}{L:List R3}(hd:oG d)(hX:qq d X)(hL:Cl d L):2*L.countP Rf≤2^X.length:=by
 obtain⟨d0,d1,d4⟩:=hd;obtain⟨ln,hln,rfl⟩:=hX.ex;rw[rT,p7,eM];have fct:=fun x hx=>wy (dH hL (p:=qx) (x:=x) hx).1 (dH hL hx).2.1 (dH hL hx).2.2;by_cases h2:d%2=1
 ·
  have e0:(L.filter Qe)=[]:=yk.mpr fun x hx hb=>by
   have h1:=((hL.mem x).mp hx).1.parity;have:x.2.1=0:=by simpa[Qe]using hb
   omega
  have ht:mI d=[]:=by unfold mI;rw[if_pos (by omega)]
  have hl2:=sj hln;rw[if_neg (by omega)]at hl2;have:=tU hL (s:=1) (M:=(-d).toNat) (by decide) (by omega) (by omega) hln (fun x hx=>⟨⟨fu x,by omega⟩,⟨fv x,by omega⟩,fun u v hu hv e1 e2=>by
   obtain⟨f1,_⟩:=fct x hx;have hu':fu x=u:=by omega
   have:(2:Int)∣fu x*fv x:=by rw[hu'];exact dd e1
   rw[f1]at this;have:=ae this;omega⟩)
  rw[e0,ht,k9,k9,vx,va,←va (fF ln).length,←hl2];exact this
 ·obtain⟨k,hk⟩:∃k:Nat,d= -(4*(k:Int)):=⟨(-d/4).toNat,by omega⟩
  have hkk: -d/4=(k:Int):=by omega
  have hn:(-d).toNat=4*k:=by omega
  rw[hn]at hln;have hk0:0<k:=by omega
  by_cases hk1:k=1
  ·
   subst hk1;have hsub:∀x∈L,x∈[((1:Int),(0:Int),(1:Int))]:=fun x hx=>by
    have h1:=((hL.mem x).mp hx).1;have h3:=h1.three;have hp:=h1.pos;have hq:=h1.parity;have h0:=h1.eq;obtain⟨_,_,l1,l2,l3⟩:=h1;have ha:x.1=1:=by
     rcases a8 x.1 2 with q|q
     ·omega
     ·have:=sw q q (by omega) (by omega);have e:3*x.1*x.1=3*(x.1*x.1):=by grind
      omega
    have hb:x.2.1=0:=by omega
    rw[ha,hb]at h0;have hc:x.2.2=1:=by omega
    simp only[hU];exact Prod.ext ha (Prod.ext hb hc)
   have hlen:=ue hL.nodup hsub;have hle:L.countP Rf≤L.length:=List.countP_le_length;rw[rT]at hle;have ht:mI d=[-4]:=by unfold mI;rw[if_neg (by omega),if_neg (by omega),if_pos (by omega)]
   rw[ht];have:2^1≤2^((fF ln).length+ [(-4:Int)].length):=zg (by decide) (by simp);simp only[u4,k9]at hlen;omega
  ·obtain⟨lk,hlk⟩:=Ql (n:=k) hk0 (by omega);have h1:=D7 hL hk (by omega) hlk;have hlk2:=sj hlk;have ho:fF ln=fF lk:=dx hln hlk fun p hp h2=>by
    constructor
    ·intro h;rcases hp.dvd_mul h with q|q
     ·have h4:p∣2*2:=q;rcases hp.dvd_mul h4 with r|r<;>(have:=p5 (by decide) r;omega)
     ·exact q
    ·intro h;exact o2 h ⟨4,hW _ _⟩
   have halves:∀x∈L.filter qx,∃u v:Int,fu x=2*u∧fv x=2*v∧u*v=(k:Int)∧(u+v)%4=2:=fun x hx=>by
    obtain⟨f1,f2,f3,f4,f5,f6⟩:=fct x hx;obtain⟨g1,g2,g3⟩:=f6 (by omega);refine⟨fu x/2,fv x/2,by omega,by omega,?_,by omega⟩;have e1:fu x=2*(fu x/2):=by omega
    have e2:fv x=2*(fv x/2):=by omega
    rw[e1,e2]at f1;generalize fu x/2=u at*;generalize fv x/2=v at*;have:2*u*(2*v)=4*(u*v):=by grind
    omega
   have modk:∀u v:Int,u*v=(k:Int)→(u+v)%4=2→(u%2=1∧v%2=1∧(k:Int)%4=1)∨(u%2=0∧v%2=0∧(k:Int)%8=0∧(u/2+v/2)%2=1):=fun u v e s=>by
    rcases(show u%2=1∨u%2=0 by omega)with q|q
    ·refine .inl ⟨q,by omega,?_⟩;have em:(u*v)%4=((u%4)*(v%4))%4:=bs u v 4;rw[e]at em;rcases(show(u%4=1∧v%4=1)∨(u%4=3∧v%4=3) by omega)with⟨a,b⟩|⟨a,b⟩<;>rw[a,b]at em<;>omega
    ·refine .inr ⟨q,by omega,?_,by omega⟩;have e1:u=2*(u/2):=by omega
     have e2:v=2*(v/2):=by omega
     have hs:(u/2+v/2)%2=1:=by omega
     rw[e1,e2]at e;generalize u/2=u' at*;generalize v/2=v' at*;have e3:2*u'*(2*v')=4*(u'*v'):=by grind
     have em:(u'*v')%2=((u'%2)*(v'%2))%2:=bs u' v' 2;rcases(show(u'%2=0∧v'%2=1)∨(u'%2=1∧v'%2=0) by omega)with⟨a,b⟩|⟨a,b⟩<;>rw[a,b]at em<;>omega
   by_cases c1:k%4=1
   ·have ht:mI d=[-4]:=by unfold mI;rw[if_neg (by omega),hkk,if_neg (by omega),if_pos (by omega)]
    have h3:=tU hL (s:=2) (M:=k) (by decide) hk0 (by omega) hlk (fun x hx=>by obtain⟨u,v,e1,e2,e3,e4⟩:=halves x hx;refine⟨⟨u,by omega⟩,⟨v,by omega⟩,fun u' v' e5 e6 e7 e8=>?_⟩;have:=ae e7;rcases modk u v e3 e4 with⟨q,_⟩|⟨_,_,q,_⟩<;>omega);rw[if_neg (by omega)]at hlk2;rw[ht,ho];simp only[u4,k9];rw[hlk2,va]at h1 h3;rw[j3];omega
   ·by_cases c2:k%8=0
    ·have ht:mI d=[-4,8]:=by unfold mI;rw[if_neg (by omega),hkk,if_neg (by omega),if_neg (by omega),if_neg (by omega),if_neg (by omega)]
     obtain⟨lm,hlm⟩:=Ql (n:=k/4) (by omega) (by omega);have hlm2:=sj hlm;have hom:fF lm=fF lk:=dx hlm hlk fun p hp h2=>by
      constructor
      ·intro h;exact o2 h ⟨4,by omega⟩
      ·intro h;have e:k=4*(k/4):=by omega
       rw[e]at h;rcases hp.dvd_mul h with q|q
       ·have h4:p∣2*2:=q;rcases hp.dvd_mul h4 with r|r<;>(have:=p5 (by decide) r;omega)
       ·exact q
     have h3:=tU hL (s:=4) (M:=k/4) (by decide) (by omega) (by omega) hlm (fun x hx=>by
      obtain⟨u,v,e1,e2,e3,e4⟩:=halves x hx;rcases modk u v e3 e4 with⟨_,_,q⟩|⟨q1,q2,_,q3⟩
      ·omega
      ·refine⟨⟨u/2,by omega⟩,⟨v/2,by omega⟩,fun u' v' e5 e6 e7 e8=>?_⟩;have a1:=ae e7;have a2:=ae e8;omega)
     rw[if_pos (by omega)]at hlk2 hlm2;rw[hom]at hlm2;rw[ht,ho];simp only[u4,k9];rw[hlk2]at h1;rw[hlm2]at h3;rw[j3]at h1 h3;rw[j3,j3];omega
    ·have e0:L.filter qx=[]:=by
      cases hf:L.filter qx with
      |nil=>rfl
      |cons x xs=>exfalso;obtain⟨u,v,e1,e2,e3,e4⟩:=halves x (by rw[hf];simp);rcases modk u v e3 e4 with⟨_,_,q⟩|⟨_,_,q,_⟩<;>omega
     have htl:(fF lk).length+(mI d).length=lk.length:=by
      rw[hlk2];unfold mI;rw[if_neg (by omega),hkk];by_cases q3:(k:Int)%4=3
      ·rw[if_pos q3,if_neg (by omega)];rfl
      ·rw[if_neg q3,if_pos (show k%2=0 by omega)];by_cases q4:(k:Int)%4=1∨(k:Int)%8=4
       ·rw[if_pos q4];rfl
       ·rw[if_neg q4];by_cases q5:(k:Int)%8=2
        ·rw[if_pos q5];rfl
        ·rw[if_neg q5,if_pos (by omega)];rfl
     rw[e0,ho,htl];simp only[k9,va];exact h1
def PT:List (Nat×Nat):=[(3,4),(5,12),(7,104),(11,1476),(13,2532),(17,23784),(19,324876),(23,8047776),(29,204397836),(31,1843574856),(37,41370444132),(41,328519579848),(43,5117392458156),(47,136111353015328),(53,3697175711994156),(59,420134283961986372),(61,642916798280633796),(67,85765845717156641196),(71,2341131200001827039360),(73,384875580742593342624),(79,514530376159922758013128),(83,6760295319107447612563812),(89,92163013807473543562719432),(97,6380052750319376475725948064),(101,984868415575749434490170416524),(103,8380836455856367035149074832488),(107,112179985842924846443223265477092),(109,176014145500707040523653282164036),(113,1797644397492755318821822240789608),(127,139350668167779336761820312993065358568),(131,1985662940215119874157143234197945468228)]
def QL:List Nat:=[3,5,7,11,13,17,19,23,29,31,37,41,43,47,53,59,61,67,71,73,79,83,89,97,101,103,107,109,113,127,131,137,139,149,151,157,163,167,173,179,181,191,193,197,199,211,223,227,229,233,239,241,251]
def kP (p:Nat):Nat→Nat→Nat
 |0,m=>m
 |f+1,m=>bif Nat.beq (m%p) 0 then kP p f (m/p)else m
def Nb:List Nat→Nat→List Nat
 | [],m=>bif Nat.beq m 1 then []else [m]
 |p::ps,m=>bif Nat.blt m (p*p)then(bif Nat.beq m 1 then []else [m])else bif Nat.beq (m%p) 0 then p::Nb ps (kP p 17 m)else Nb ps m
def ax (p t q:Nat):Bool:=bif Nat.beq (q%2) 1 then xor (Nat.testBit t (q%p)) (Nat.beq (p%4) 3&&Nat.beq (q%4) 3)else bif Nat.beq q 4 then Nat.beq (p%4) 3 else bif Nat.beq q 8 then Nat.beq (p%8) 3||Nat.beq (p%8) 5 else Nat.beq (p%8) 5||Nat.beq (p%8) 7
def Mn (p t:Nat):List Nat→Nat
 | []=>0
 |q::X=>(bif ax p t q then 1 else 0)+2*Mn p t X
def Nj (v:Nat):List Nat→Bool
 | []=>false
 |s::S=>bif Nat.beq s v then true else Nj v S
def go (n:Nat)(X:List Nat):List (Nat×Nat)→List Nat→Nat→Bool
 | [],_,k=>Nat.beq k 0
 |x::l,S,k=>bif Nat.beq k 0 then true else bif Nat.beq (n%x.1) 0 then go n X l S k else bif Nat.testBit x.2 (x.1-n%x.1)then go n X l S k else bif Nj (Mn x.1 x.2 X) S then go n X l S k else go n X l (S++S.map (fun s=>Nat.xor (Mn x.1 x.2 X) s)) (k-1)
def tl (n:Nat):List Nat:=bif Nat.beq (n%2) 1 then []else bif Nat.beq (n/4%4) 3 then []else bif Nat.beq (n/4%4) 1||Nat.beq (n/4%8) 4 then [4]else bif Nat.beq (n/4%8) 2 then [2]else bif Nat.beq (n/4%8) 6 then [8]else [4,8]
def ak (n:Nat):List Nat:=Nb QL (kP 2 17 n)++tl n
def Bv (n:Nat):Bool:=bif Nat.beq (n%4) 0||Nat.beq (n%4) 3 then go n (ak n) PT [0] ((ak n).length-1)else true
noncomputable def aV (p:Nat):Nat→Nat→Nat:=fun f=>Nat.rec (motive:=fun _=>Nat→Nat) (fun m=>m) (fun _ ih m=>Bool.rec (motive:=fun _=>Nat) m (ih (m/p)) (Nat.beq (m%p) 0)) f
noncomputable def oa (m:Nat):List Nat:=Bool.rec (motive:=fun _=>List Nat) [m] [] (Nat.beq m 1)
noncomputable def D3:List Nat→Nat→List Nat:=fun l=>List.rec (motive:=fun _=>Nat→List Nat) oa (fun p _ ih m=>Bool.rec (motive:=fun _=>List Nat) (Bool.rec (motive:=fun _=>List Nat) (ih m) (p::ih (aV p 17 m)) (Nat.beq (m%p) 0)) (oa m) (Nat.blt m (p*p))) l
noncomputable def ql (p t:Nat):List Nat→Nat:=fun l=>List.rec (motive:=fun _=>Nat) 0 (fun q _ ih=>Bool.rec (motive:=fun _=>Nat) (0+2*ih) (1+2*ih) (ax p t q)) l
noncomputable def Dg (v:Nat):List Nat→Bool:=fun l=>List.rec (motive:=fun _=>Bool) false (fun s _ ih=>Bool.rec (motive:=fun _=>Bool) ih true (Nat.beq s v)) l
noncomputable def Rr (n:Nat)(X:List Nat):List (Nat×Nat)→List Nat→Nat→Bool:=fun l=>List.rec (motive:=fun _=>List Nat→Nat→Bool) (fun _ k=>Nat.beq k 0)
 (fun x _ ih S k=>Bool.rec (motive:=fun _=>Bool) (Bool.rec (motive:=fun _=>Bool) (Bool.rec (motive:=fun _=>Bool) (Bool.rec (motive:=fun _=>Bool) (ih (S++S.map (fun s=>Nat.xor (ql x.1 x.2 X) s)) (k-1)) (ih S k) (Dg (ql x.1 x.2 X) S)) (ih S k) (Nat.testBit x.2 (x.1-n%x.1))) (ih S k) (Nat.beq (n%x.1) 0)) true (Nat.beq k 0)) l
noncomputable def M8 (n:Nat):List Nat:=D3 QL (aV 2 17 n)++tl n
noncomputable def N3 (n:Nat):Bool:=bif Nat.beq (n%4) 0||Nat.beq (n%4) 3 then Rr n (M8 n) PT [0] ((M8 n).length-1)else true
noncomputable def pA:Nat→Nat→Bool:=fun c=>Nat.rec (motive:=fun _=>Nat→Bool) (fun _=>true) (fun c ih b=>Bool.rec (motive:=fun _=>Bool) false (ih b) (N3 (b+c))) c
theorem bV (p:Nat):∀f m,aV p f m=kP p f m
 |0,m=>rfl
 |f+1,m=>by have e:aV p (f+1) m=Bool.rec (motive:=fun _=>Nat) m (aV p f (m/p)) (Nat.beq (m%p) 0):=rfl;rw[e,kP,bV p f];cases Nat.beq (m%p) 0<;>rfl
theorem od (m:Nat):oa m=bif Nat.beq m 1 then []else [m]:=by
 unfold oa;cases Nat.beq m 1<;>rfl
theorem gv:∀l m,D3 l m=Nb l m
 | [],m=>od m
 |p::ps,m=>by have e:D3 (p::ps) m=Bool.rec (motive:=fun _=>List Nat) (Bool.rec (motive:=fun _=>List Nat) (D3 ps m) (p::D3 ps (aV p 17 m)) (Nat.beq (m%p) 0)) (oa m) (Nat.blt m (p*p)):=rfl;rw[e,Nb,gv ps,gv ps,bV,od];cases Nat.blt m (p*p)<;>cases Nat.beq (m%p) 0<;>rfl
theorem zn (p t:Nat):∀l,ql p t l=Mn p t l
 | []=>rfl
 |q::l=>by have e:ql p t (q::l)=Bool.rec (motive:=fun _=>Nat) (0+2*ql p t l) (1+2*ql p t l) (ax p t q):=rfl;rw[e,Mn,zn p t l];cases ax p t q<;>rfl
theorem xe (v:Nat):∀l,Dg v l=Nj v l
 | []=>rfl
 |s::l=>by have e:Dg v (s::l)=Bool.rec (motive:=fun _=>Bool) (Dg v l) true (Nat.beq s v):=rfl;rw[e,Nj,xe v l];cases Nat.beq s v<;>rfl
theorem su (n:Nat)(X:List Nat):∀l S k,Rr n X l S k=go n X l S k
 | [],S,k=>rfl
 |x::l,S,k=>by have e:Rr n X (x::l) S k=Bool.rec (motive:=fun _=>Bool) (Bool.rec (motive:=fun _=>Bool) (Bool.rec (motive:=fun _=>Bool) (Bool.rec (motive:=fun _=>Bool) (Rr n X l (S++S.map (fun s=>Nat.xor (ql x.1 x.2 X) s)) (k-1)) (Rr n X l S k) (Dg (ql x.1 x.2 X) S)) (Rr n X l S k) (Nat.testBit x.2 (x.1-n%x.1))) (Rr n X l S k) (Nat.beq (n%x.1) 0)) true (Nat.beq k 0):=rfl;rw[e,go,su n X l,su n X l,xe,zn];cases Nat.beq k 0<;>cases Nat.beq (n%x.1) 0<;>cases Nat.testBit x.2 (x.1-n%x.1)<;>cases Nj (Mn x.1 x.2 X) S<;>rfl
theorem N4 (n:Nat):N3 n=Bv n:=by
 unfold N3 Bv M8 ak;rw[gv,bV,su]
theorem bA:∀{c b:Nat},pA c b=true→∀n,b≤n→n<b+c→Bv n=true
 |0,b,_,n,h1,h2=>by omega
 |c+1,b,h,n,h1,h2=>by
  have e:pA (c+1) b=Bool.rec (motive:=fun _=>Bool) false (pA c b) (N3 (b+c)):=rfl;rw[e,N4]at h;cases hc:Bv (b+c)with
  |false=>rw[hc]at h;cases h
  |true=>
   rw[hc]at h;rcases pC n (b+c)with q|q
   ·exact bA h n h1 q
   ·have:n=b+c:=by omega
    rw[this];exact hc
open Go.Proofs.YteaakcmkpacpaaaGreat.Pure (fJ lT cQ jE z8 val qH vE oH ik qK gC)
open Go.Proofs.YteaakcmkpacpaaaGreat.Cls (oG jF Rd Cl sW)
open Go.Proofs.YteaakcmkpacpaaaGreat.Jac (Sy Pr tL mu rs iJ rP nN)
def jo (p:Nat):Bool:=Nat.blt 1 p&&(List.range p).all fun d=>Nat.blt d 2|| !(Nat.beq (p%d) 0)
theorem dy {p:Nat}(h:jo p=true):rC p:=by
 unfold jo at h;simp only[ch,cv,la,wb,Bool.not_eq_true',cc]at h;obtain⟨h1,h2⟩:=h;refine⟨h1,fun d hd=>?_⟩;have hle:=p5 (by omega) hd;have hpos:=c9 hd (by omega);rcases pC d p with q|q
 ·rcases h2 d q with r|r
  ·exact .inl (by omega)
  ·exfalso;have:=o1 hd;rw[this]at r;cases r
 ·exact .inr (by omega)
theorem T6:QL.Pairwise (· < ·):=by
 have h:(QL.zip QL.tail).all (fun x=>Nat.blt x.1 x.2)=true:=by kernel_rfl
 have key:∀(l:List Nat) (a:Nat),((a::l).zip l).all (fun x=>Nat.blt x.1 x.2)=true→(a::l).Pairwise (· < ·):=by
  intro l;induction l with
  |nil=>intro a _;simp
  |cons b l ih=>
   intro a h;simp only[List.zip_cons_cons,List.all_cons,ch,cc]at h;have h2:=ih b (by simpa using h.2);rw[b9];refine⟨fun x hx=>?_,h2⟩;rcases w6.mp hx with rfl|hx
   ·exact h.1
   ·have:=(b9.mp h2).1 x hx;omega
 exact key _ _ h
theorem C3:∀p∈QL,rC p∧2<p:=by
 have h:QL.all (fun p=>jo p&&Nat.blt 2 p)=true:=by kernel_rfl
 intro p hp;have:=cv.mp h p hp;simp only[ch,cc]at this;exact⟨dy this.1,this.2⟩
theorem C0:∀r,r<257→rC r→2<r→r∈QL:=by
 have h:(List.range 257).all (fun r=>Nat.blt r 3||QL.elem r||(List.range r).any fun d=>Nat.blt 1 d&&Nat.beq (r%d) 0)=true:=by kernel_rfl
 intro r h1 h2 h3;have:=cv.mp h r (la.mpr h1);simp only[wb,cc,List.elem_eq_mem,decide_eq_true_eq,List.any_eq_true,la,ch,Nat.beq_eq]at this;rcases this with(q|q)|⟨d,d1,d2,d3⟩
 ·omega
 ·exact q
 ·rcases h2.2 d (xK d3)with e|e<;>omega
theorem fR {p:Nat}(hp:1<p):∀(f m:Nat),0<m→m<2^f→∃j,m=p^j*kP p f m∧¬p∣kP p f m
 |0,m,h0,h=>by simp at h;omega
 |f+1,m,h0,h=>by
  unfold kP;by_cases hd:p∣m
  ·obtain⟨k,rfl⟩:=hd;have hk:0<k:=n4 fun e=>by subst e;simp at h0
   have hlt:k<2^f:=by have:2*k≤p*k:=c7 hp (a6 _);rw[j3]at h;omega
   have e:Nat.beq (p*k%p) 0=true:=by rw[bx];rfl
   rw[e,cond_true,lv _ (by omega)];obtain⟨j,h1,h2⟩:=fR hp f k hk hlt;exact⟨j+1,by rw[j3,o4,Nat.mul_left_comm,←h1],h2⟩
  ·have e:Nat.beq (m%p) 0=false:=by
    cases hb:Nat.beq (m%p) 0
    ·rfl
    ·exact absurd (xK (zd hb)) hd
   rw[e,cond_false];exact⟨0,by simp,hd⟩
theorem Ec {m b:Nat}(h1:1<m)(hb:m<b*b)(hno:∀r,r<b→rC r→¬r∣m):rC m:=by
 obtain⟨p,hp,hd⟩:∃p,(1<p∧p∣m∧∀k,1<k→k∣m→p≤k)∧p∣m:=by
  have:∀f k,1<k→k∣m→k≤f→∃p,1<p∧p∣m∧∀k,1<k→k∣m→p≤k:=by
   intro f;induction f with
   |zero=>intro k h1 _ h2;omega
   |succ f ih=>
    intro k h1 h2 h3;by_cases hx:∃k',1<k'∧k'∣m∧k'<k
    ·obtain⟨k',a1,a2,a3⟩:=hx;exact ih k' a1 a2 (by omega)
    ·exact⟨k,h1,h2,fun k' a1 a2=>vd fun a3=>hx ⟨k',a1,a2,a3⟩⟩
  obtain⟨p,h⟩:=this m m h1 (cy _) (a6 _);exact⟨p,h,h.2.1⟩
 have hpp:=Fr.prime (p:=p) (n:=m) hp.2.2 hp.1 hp.2.1;rcases pC p b with q|q
 ·exact absurd hd (hno p q hpp)
 ·obtain⟨k,rfl⟩:=hd;have hk0:0<k:=n4 fun e=>by subst e;simp at h1
  rcases pC 1 k with r|r
  ·have h5:=hp.2.2 k r ⟨p,hW _ _⟩;have h6:b*b≤p*k:=c7 q (by omega);omega
  ·have:k=1:=by omega
   subst this;rw[tc];exact hpp
theorem eO (a b:Nat):(Nat.beq a b=true)↔a=b:=⟨zd,fun h=>by subst h;exact Nat.beq_refl a⟩
theorem gG (a b:Nat):Nat.beq a b=decide (a=b):=by
 by_cases h:a=b
 ·rw[decide_eq_true h];exact(eO a b).mpr h
 ·rw[decide_eq_false h];cases hb:Nat.beq a b
  ·rfl
  ·exact absurd ((eO a b).mp hb) h
theorem D4:∀(ps done:List Nat) (m:Nat),QL=done++ps→0<m→m≤65536→m%2=1→(∀q∈done,¬q∣m)→(Nb ps m).Pairwise (· < ·)∧∀q,q∈Nb ps m↔rC q∧q∣m:=by
 intro ps;have leaf:∀(m b:Nat),0<m→m<b*b→(∀r,r<b→rC r→¬r∣m)→(bif Nat.beq m 1 then []else [m]).Pairwise (· < ·)∧∀q,q∈(bif Nat.beq m 1 then []else [m])↔rC q∧q∣m:=by
  intro m b h0 hb hno;by_cases h1:m=1
  ·subst h1;refine⟨List.Pairwise.nil,fun q=>⟨fun h=>(by cases h),fun h=>?_⟩⟩;have:=h.1.1;have:=nw.mp h.2;omega
  ·have e:Nat.beq m 1=false:=by rw[gG];exact decide_eq_false h1
   rw[e,cond_false];have hp:=Ec (show 1<m by omega) hb hno;refine⟨List.pairwise_singleton _ _,fun q=>?_⟩;rw[hU];constructor
   ·rintro rfl;exact⟨hp,cy _⟩
   ·rintro⟨h,hd⟩;exact h.eq hp hd
 have two:∀{m:Nat},m%2=1→¬2∣m:=fun h hd=>by have:=o1 hd;omega
 induction ps with
 |nil=>
  intro done m hP h0 h1 h2 hno;rw[gx]at hP;refine leaf m 257 h0 (by omega) fun r hr hp hd=>?_;rcases pC 2 r with q|q
  ·exact hno r (hP▸C0 r hr hp q) hd
  ·have:r=2:=by have:=hp.1;omega
   subst this;exact two h2 hd
 |cons p ps ih=>
  intro done m hP h0 h1 h2 hno;have hup:=T6;rw[hP]at hup;have hpp:=C3 p (by rw[hP];simp);have hbelow:∀r,r<p→rC r→¬r∣m:=fun r hr hrp hd=>by
   rcases pC 2 r with q|q
   ·have hp257:p<257:=by
     have:QL.all (fun p=>Nat.blt p 257)=true:=by kernel_rfl
     have:=cv.mp this p (by rw[hP];simp);simpa[cc]using this
    have hm:=C0 r (by omega) hrp q;rw[hP]at hm;rcases o3.mp hm with h|h
    ·exact hno r h hd
    ·have:=(cb.mp hup).2.1;rcases w6.mp h with e|h
     ·omega
     ·have:=(b9.mp this).1 r h;omega
   ·have:r=2:=by have:=hrp.1;omega
    subst this;exact two h2 hd
  unfold Nb;by_cases hlt:m<p*p
  ·have e:Nat.blt m (p*p)=true:=cc.mpr hlt;rw[e,cond_true];exact leaf m p h0 hlt hbelow
  ·have e:Nat.blt m (p*p)=false:=by
    cases hb:Nat.blt m (p*p)
    ·rfl
    ·exact absurd (cc.mp hb) hlt
   rw[e,cond_false];by_cases hd:p∣m
   ·have e2:Nat.beq (m%p) 0=true:=(eO _ _).mpr (o1 hd);rw[e2,cond_true];obtain⟨j,s1,s2⟩:=fR hpp.1.1 17 m h0 (by omega);generalize kP p 17 m=m' at*;have hm'd:m'∣m:=⟨p^j,by rw[s1,hW]⟩
    have hm0:0<m':=c9 hm'd h0;have hle:=p5 h0 hm'd;have hodd:m'%2=1:=by
     rcases x6 m' with q|q
     ·exact absurd (o2 (xK q) hm'd) (two h2)
     ·exact q
    obtain⟨r1,r2⟩:=ih (done++[p]) m' (by rw[hP];simp) hm0 (by omega) hodd (fun q hq hqd=>by
     rcases o3.mp hq with h|h
     ·exact hno q h (o2 hqd hm'd)
     ·simp only[hU]at h;subst h;exact s2 hqd)
    refine⟨b9.mpr ⟨fun q hq=>?_,r1⟩,fun q=>?_⟩
    ·obtain⟨q1,q2⟩:=(r2 q).mp hq;rcases tx p q with h|h|h
     ·exact h
     ·subst h;exact absurd q2 s2
     ·exact absurd (o2 q2 hm'd) (hbelow q h q1)
    ·rw[w6,r2];constructor
     ·rintro(rfl|⟨a,b⟩)
      ·exact⟨hpp.1,hd⟩
      ·exact⟨a,o2 b hm'd⟩
     ·rintro⟨a,b⟩;rw[s1]at b;rcases a.dvd_mul b with h|h
      ·exact .inl (a.eq hpp.1 (a.dvd_pow h))
      ·exact .inr ⟨a,h⟩
   ·have e2:Nat.beq (m%p) 0=false:=by rw[gG];exact decide_eq_false fun h=>hd (xK h)
    rw[e2,cond_false];exact ih (done++[p]) m (by rw[hP];simp) h0 h1 h2 (fun q hq hqd=>by
     rcases o3.mp hq with h|h
     ·exact hno q h hqd
     ·simp only[hU]at h;subst h;exact hd hqd)
theorem Ej {n:Nat}{l:PL}(h:Fz n l)(h0:0<n)(h1:n≤65536):fF l=Nb QL (kP 2 17 n):=by
 obtain⟨j,s1,s2⟩:=fR (p:=2) (by decide) 17 n h0 (by omega);generalize kP 2 17 n=m at*;have hmd:m∣n:=⟨2^j,by rw[s1,hW]⟩
 have hm0:=c9 hmd h0;have hle:=p5 h0 hmd;obtain⟨r1,r2⟩:=D4 QL [] m rfl hm0 (by omega) (by
  rcases x6 m with q|q
  ·exact absurd (xK q) s2
  ·exact q) (fun q hq=>by cases hq)
 refine yS (tP h) r1 fun p=>?_;rw[dG h,r2];constructor
 ·rintro⟨a,b,c⟩;rw[s1]at b;rcases a.dvd_mul b with q|q
  ·have:=p5 (by decide) (a.dvd_pow q);omega
  ·exact⟨a,q⟩
 ·rintro⟨a,b⟩;refine⟨a,o2 b hmd,?_⟩;have:=a.1;rcases pC 2 p with q|q
  ·exact q
  ·have:p=2:=by omega
   subst this;exact absurd b s2
open Go.Proofs.YteaakcmkpacpaaaGreat.Jac (Sy Pr tL mu rs iJ rP nN lU)
structure Tb (p t:Nat):Prop where
 pr:rC p
 h3:3≤p
 hi:p<132
 odd:p%2=1
 bit:∀a,0<a→a<p→Nat.testBit t a=decide (mu a p%2=1)
theorem Sm:∀x∈PT,Tb x.1 x.2:=by
 have h:PT.all (fun x=>jo x.1&&Nat.blt 2 x.1&&Nat.blt x.1 132&&Nat.beq (x.1%2) 1&&(List.range x.1).all fun a=>Nat.beq a 0||(Nat.testBit x.2 a==Nat.beq (mu a x.1%2) 1))=true:=by kernel_rfl
 intro x hx;have:=cv.mp h x hx;simp only[ch,cc,Nat.beq_eq,cv,la,wb,beq_iff_eq]at this;obtain⟨⟨⟨⟨h1,h2⟩,h3⟩,h4⟩,h5⟩:=this;refine⟨dy h1,by omega,h3,h4,fun a a0 a1=>?_⟩;rcases h5 a a1 with q|q
 ·omega
 ·rw[q,gG]
theorem Tb.p {p t:Nat}(h:Tb p t):Pr p:=⟨by have:=h.h3;omega,h.pr.2⟩
def dec (c:Nat):Int:=if c%2=1 then(c:Int)else if c=4 then-4 else if c=8 then 8 else-8
def jX (n c:Nat):Prop:=(rC c∧c%2=1∧c∣n)∨c=4∨c=8∨c=2
theorem Pc (x:Nat):tL x= -1↔x%2=1:=by
 unfold tL;by_cases h:x%2=0
 ·rw[if_pos h];constructor
  ·intro q;exact absurd q (by decide)
  ·intro q;omega
 ·rw[if_neg h];constructor
  ·intro _;omega
  ·intro _;rfl
theorem Ce {n p t c:Nat}(hx:Tb p t)(hn:n%p≠0)(hc:jX n c):ax p t c=decide (zN (dec c) (p:Int)= -1):=by
 have hodd:=hx.odd;unfold ax dec;rcases hc with⟨h1,h2,h3⟩|rfl|rfl|rfl
 ·have hne:¬p∣c:=fun h=>by
   have:=hx.pr.eq h1 h;subst this;exact hn (o1 h3)
  have hc3:3≤c:=by have:=h1.1;omega
  have e1:Nat.beq (c%2) 1=true:=(eO _ _).mpr h2;rw[e1,cond_true,if_pos h2,qQ hc3 h2];have hg:Nat.gcd p c=1:=by rw[b7];exact hx.pr.cop hne
  have hr:=rP hodd h2 hg;have hrs:rs (p:Int) c=p%c:=by unfold rs;rw[←gg];rfl
  have hm0:0<c%p:=n4 fun e=>hne (xK e);rw[hrs,iJ,hx.bit (c%p) hm0 (q7 _ (by have:=hx.h3;omega)),iJ,gG,gG];have hs:=Pc (mu p c);by_cases q:p%4=3∧c%4=3
  ·rw[if_pos q]at hr;rw[decide_eq_true q.1,decide_eq_true q.2];by_cases r:mu c p%2=1
   ·rw[decide_eq_true r,decide_eq_false (by rw[hs];omega)];rfl
   ·rw[decide_eq_false r,decide_eq_true (by rw[hs];omega)];rfl
  ·rw[if_neg q]at hr;have:(decide (p%4=3)&&decide (c%4=3))=false:=by
    rw[←Bool.decide_and];exact decide_eq_false q
   rw[this];by_cases r:mu c p%2=1
   ·rw[decide_eq_true r,decide_eq_true (by rw[hs];omega)];rfl
   ·rw[decide_eq_false r,decide_eq_false (by rw[hs];omega)];rfl
 ·have e:(p:Int)%4=((p%4:Nat):Int):=by omega
  unfold zN;simp only[show Nat.beq (4%2) 1=false from rfl,show Nat.beq 4 4=true from rfl,cond_false,cond_true,show ¬(4%2=1) by decide,if_false,if_true,gG];rw[decide_eq_decide];by_cases q:(p:Int)%4=1
  ·rw[if_pos q];constructor
   ·intro h;omega
   ·intro h;exact absurd h (by decide)
  ·rw[if_neg q];constructor
   ·intro _;rfl
   ·intro _;omega
 ·unfold zN;simp only[show Nat.beq (8%2) 1=false from rfl,show Nat.beq 8 4=false from rfl,show Nat.beq 8 8=true from rfl,cond_false,cond_true,show ¬(8%2=1) by decide,show ¬(8=4) by decide,if_false,if_true,gG,show ¬((8:Int)= -4) by decide];rw[←ss,decide_eq_decide];by_cases q:(p:Int)%8=1∨(p:Int)%8=7
  ·rw[if_pos q];constructor
   ·intro h;omega
   ·intro h;exact absurd h (by decide)
  ·rw[if_neg q];constructor
   ·intro _;rfl
   ·intro _;omega
 ·unfold zN;simp only[show Nat.beq (2%2) 1=false from rfl,show Nat.beq 2 4=false from rfl,show Nat.beq 2 8=false from rfl,cond_false,show ¬(2%2=1) by decide,show ¬(2=4) by decide,show ¬(2=8) by decide,if_false,if_true,gG,show ¬((-8:Int)= -4) by decide,show ¬((-8:Int)=8) by decide];rw[←ss,decide_eq_decide];by_cases q:(p:Int)%8=1∨(p:Int)%8=3
  ·rw[if_pos q];constructor
   ·intro h;omega
   ·intro h;exact absurd h (by decide)
  ·rw[if_neg q];constructor
   ·intro _;rfl
   ·intro _;omega
def bg:List Int→Nat
 | []=>0
 |s::r=>(if s= -1 then 1 else 0)+2*bg r
theorem qm {n p t:Nat}(hx:Tb p t)(hn:n%p≠0):∀cs:List Nat,(∀c∈cs,jX n c)→Mn p t cs=bg ((cs.map dec).map fun q=>zN q (p:Int))
 | [],_=>rfl
 |c::cs,h=>by
  simp only[Mn,p6,bg];rw[Ce hx hn (h c (by simp)),qm hx hn cs fun y hy=>h y (hV _ hy)];by_cases q:zN (dec c) (p:Int)= -1
  ·rw[decide_eq_true q,if_pos q];rfl
  ·rw[decide_eq_false q,if_neg q];rfl
theorem wk (Y:List Int)(hY:Y.length≤8):bg (lB Y)=bg Y:=by
 match Y,hY with
 | [],_=>rfl
 | [_],_=>rfl
 | [_,_],_=>rfl
 | [_,_,_],_=>rfl
 | [_,_,_,_],_=>rfl
 | [_,_,_,_,_],_=>rfl
 | [_,_,_,_,_,_],_=>rfl
 | [_,_,_,_,_,_,_],_=>rfl
 | [_,_,_,_,_,_,_,_],_=>rfl
 |_::_::_::_::_::_::_::_::_::_,h=>simp at h
theorem Py (a b v w:Nat)(ha:a<2)(hb:b<2):(a+2*v)^^^(b+2*w)=(if a=b then 0 else 1)+2*(v^^^w):=by
 have h1:((a+2*v)^^^(b+2*w))/2=v^^^w:=by rw[Nat.xor_div_two];congr 1<;>omega
 have h2:((a+2*v)^^^(b+2*w))%2=if a=b then 0 else 1:=by have h:=Nat.xor_mod_two_pow (a:=a+2*v) (b:=b+2*w) (n:=1);rw[ys]at h;rw[h,show(a+2*v)%2=a by omega,show(b+2*w)%2=b by omega];rcases(show a=0∨a=1 by omega)with rfl|rfl<;>rcases(show b=0∨b=1 by omega)with rfl|rfl<;>decide
 have:=sq ((a+2*v)^^^(b+2*w)) 2;rw[h1,h2]at this;omega
theorem wj {f g:Int→Int}:∀X:List Int,(∀q∈X,f q=1∨f q= -1)→(∀q∈X,g q=1∨g q= -1)→bg (X.map fun q=>f q*g q)=bg (X.map f)^^^bg (X.map g)
 | [],_,_=>by simp[bg]
 |x::X,hf,hg=>by simp only[p6,bg];rw[wj X (fun q hq=>hf q (hV _ hq)) fun q hq=>hg q (hV _ hq),Py _ _ _ _ (by split<;>omega) (by split<;>omega)];rcases hf x (by simp)with a|a<;>rcases hg x (by simp)with b|b<;>rw[a,b]<;>simp
theorem xf (v:Nat):∀S:List Nat,Nj v S=true↔v∈S
 | []=>by simp[Nj]
 |s::S=>by
  simp only[Nj,gG,w6];by_cases h:s=v
  ·rw[decide_eq_true h];simp[h]
  ·rw[decide_eq_false h,cond_false,xf v S];exact⟨.inr,fun q=>q.resolve_left fun e=>h e.symm⟩
theorem vr {v a b:Nat}(h:v^^^a=v^^^b):a=b:=by
 have:=congrArg (fun x=>v^^^x) h;simp only[←eh,vt,Nat.zero_xor]at this;exact this
theorem aS {n:Nat}{X:List Nat}{Rz:Nat→Prop}(hstep:∀x∈PT,n%x.1≠0→Nat.testBit x.2 (x.1-n%x.1)=false→Rz (Mn x.1 x.2 X))(hxor:∀a b,Rz a→Rz b→Rz (a^^^b)):∀(l:List (Nat×Nat)) (S:List Nat) (k:Nat),(∀x∈l,x∈PT)→S.Nodup→(∀a∈S,∀b∈S,a^^^b∈S)→(∀a∈S,Rz a)→go n X l S k=true→
  ∃S':List Nat,S'.Nodup∧(∀a∈S',Rz a)∧S'.length=S.length*2^k
 | [],S,k,_,h1,h2,h3,h=>by simp only[go]at h;have:=(eO _ _).mp h;subst this;exact⟨S,h1,h3,by simp⟩
 |x::l,S,k,hl,h1,h2,h3,h=>by
  have hl2:∀y∈l,y∈PT:=fun y hy=>hl y (hV _ hy);simp only[go,gG]at h;by_cases hk:k=0
  ·subst hk;exact⟨S,h1,h3,by simp⟩
  ·rw[decide_eq_false hk,cond_false]at h;by_cases hn:n%x.1=0
   ·rw[decide_eq_true hn,cond_true]at h;exact aS hstep hxor l S k hl2 h1 h2 h3 h
   ·rw[decide_eq_false hn,cond_false]at h;cases ht:Nat.testBit x.2 (x.1-n%x.1)with
    |true=>rw[ht,cond_true]at h;exact aS hstep hxor l S k hl2 h1 h2 h3 h
    |false=>
     rw[ht,cond_false]at h;have hv:=hstep x (hl x (by simp)) hn ht;generalize Mn x.1 x.2 X=v at*;cases hh:Nj v S with
     |true=>rw[hh,cond_true]at h;exact aS hstep hxor l S k hl2 h1 h2 h3 h
     |false=>
      rw[hh,cond_false]at h;have hvS:v∉S:=fun q=>by rw[(xf v S).mpr q]at hh;cases hh
      have hm:∀y,y∈S++S.map (fun s=>Nat.xor v s)↔y∈S∨∃s∈S,v^^^s=y:=fun y=>by rw[o3,o0];exact Iff.rfl
      obtain⟨S',r1,r2,r3⟩:=aS hstep hxor l (S++S.map (fun s=>Nat.xor v s)) (k-1) hl2 (by
       rw[mb];refine⟨h1,?_,fun a ha b hb e=>?_⟩
       ·rw[List.Nodup,y4];exact h1.imp fun hne e=>hne (vr e)
       ·obtain⟨s,hs,rfl⟩:=o0.mp hb;subst e;have:Nat.xor v s^^^s∈S:=h2 _ ha _ hs;rw[show Nat.xor v s=v^^^s from rfl,eh,vt,Nat.xor_zero]at this;exact hvS this) (fun a ha b hb=>by
       rw[hm]at ha hb⊢;rcases ha with ha|⟨s,hs,rfl⟩<;>rcases hb with hb|⟨r,hr,rfl⟩
       ·exact .inl (h2 a ha b hb)
       ·exact .inr ⟨a^^^r,h2 a ha r hr,by rw[←eh,←eh,Nat.xor_comm v a]⟩
       ·exact .inr ⟨s^^^b,h2 s hs b hb,by rw[eh]⟩
       ·refine .inl ?_;rw[show v^^^s^^^(v^^^r)=s^^^r by rw[Nat.xor_comm v s,eh,←eh v v,vt,Nat.zero_xor]];exact h2 s hs r hr) (fun a ha=>by
       rw[hm]at ha;rcases ha with ha|⟨s,hs,rfl⟩
       ·exact h3 a ha
       ·exact hxor _ _ hv (h3 s hs)) h
      refine⟨S',r1,r2,?_⟩;rw[r3,p7,l0];obtain⟨j,rfl⟩:∃j,k=j+1:=⟨k-1,by omega⟩
      rw[kt,j3,hW (2^j) 2,←o4];congr 1;omega
theorem dz {p:Nat}(h:rC p)(h2:2<p):p%2=1:=by
 rcases x6 p with q|q
 ·have:=h.2 2 (xK q);omega
 ·exact q
theorem Bl {d:Int}{X:List Int}(hd:oG d)(hX:qq d X):X=(ak (-d).toNat).map dec∧∀c∈ak (-d).toNat,jX (-d).toNat c:=by
 obtain⟨d0,d1,d4⟩:=hd;obtain⟨l,hl,rfl⟩:=hX.ex;have hf:=Ej hl (by omega) (by omega);have hmem:=fun c=>dG hl c;generalize hn:(-d).toNat=n at*;have htl:mI d=(tl n).map dec:=by
  unfold mI tl;simp only[gG];by_cases h2:n%2=1
  ·rw[if_pos (by omega),decide_eq_true h2];rfl
  ·rw[if_neg (by omega),decide_eq_false h2,cond_false];have e4:(-d/4)=((n/4:Nat):Int):=by omega
   rw[e4];by_cases h3:n/4%4=3
   ·rw[if_pos (by omega),decide_eq_true h3];rfl
   ·rw[if_neg (by omega),decide_eq_false h3,cond_false,←ss];by_cases h5:n/4%4=1∨n/4%8=4
    ·rw[if_pos (by omega),decide_eq_true h5];rfl
    ·rw[if_neg (by omega),decide_eq_false h5,cond_false];by_cases h6:n/4%8=2
     ·rw[if_pos (by omega),decide_eq_true h6];rfl
     ·rw[if_neg (by omega),decide_eq_false h6,cond_false];by_cases h7:n/4%8=6
      ·rw[if_pos (by omega),decide_eq_true h7];rfl
      ·rw[if_neg (by omega),decide_eq_false h7];rfl
 have htc:∀c∈tl n,jX n c:=fun c hc=>by unfold tl at hc;revert hc;cases Nat.beq (n%2) 1<;>cases Nat.beq (n/4%4) 3<;>cases(Nat.beq (n/4%4) 1||Nat.beq (n/4%8) 4)<;>cases Nat.beq (n/4%8) 2<;>cases Nat.beq (n/4%8) 6<;>simp[jX]<;>omega
 unfold ak;rw[←hf];refine⟨?_,fun c hc=>?_⟩
 ·rw[r8,htl];congr 1;unfold ints;refine w7 fun c hc=>?_;obtain⟨h1,h2,h3⟩:=(hmem c).mp hc;unfold dec;rw[if_pos (dz h1 h3)]
 ·rcases o3.mp hc with h|h
  ·obtain⟨h1,h2,h3⟩:=(hmem c).mp h;exact .inl ⟨h1,dz h1 h3,h2⟩
  ·exact htc c h
theorem Cp {N:Nat}(hN:8589934600<N){d a b c:Int}(h:Fm d a b c){L:List R3}(hL:Cl d L){X:List Int}(hX:∀q∈X,fh d q):∃x∈L,∀q∈X,sv N x.1 x.2.1 x.2.2 q=sv N a b c q:=by
 obtain⟨a',b',c',t,u,v,w,hdet,g1,g2,g3,hf',hr,hs,_,_,_,_,er⟩:=oH hN h.val.fine;have hev:z8 a b c a' b' c':=⟨t,u,v,w,hdet,g1,g2,g3⟩
 have hdi:b'*b'-4*a'*c'=d:=by rw[hev.disc];exact h.val.of.eq
 have h':Fm d a' b' c':=⟨⟨hf',⟨hdi⟩,D2 hev.symm h.val.pr⟩,h.lo⟩
 exact⟨(a',b',c'),(hL.mem _).mpr ⟨sW hf' hr hs hdi,(jE _ _ _).mp h'.val.pr⟩,fun q hq=>Sj hN h h' (hX q hq) hev⟩
theorem Ac {N:Nat}(hN:8589934600<N){d:Int}(hd:oG d){L:List R3}(hL:Cl d L){X:List Int}(hX:∀q∈X,fh d q){x y:R3}(hx:x∈L)(hy:y∈L):∃z∈L,∀q∈X,sv N z.1 z.2.1 z.2.2 q=sv N x.1 x.2.1 x.2.2 q*sv N y.1 y.2.1 y.2.2 q:=by
 have h1:=mc hd ((hL.mem x).mp hx);have h2:=mc hd ((hL.mem y).mp hy);obtain⟨a,b,c,ec,hr⟩:=vE hN h1.val h2.val;have h3:Fm d a b c:=⟨hr.red.val (by have:=hd.2.1;omega) (by have:=hd.1;omega),h1.lo⟩
 exact⟨(a,b,c),(hL.mem _).mpr ⟨sW h3.val.fine hr.red.inr hr.red.sm h3.val.of.eq,(jE _ _ _).mp h3.val.pr⟩,fun q hq=>kh hN h1 h2 h3 hr (hX q hq)⟩
theorem Nd {N:Nat}(hN:8589934600<N){d:Int}(hd:oG d){p t:Nat}(ht:Tb p t)(hn:(-d).toNat%p≠0)(hs:Nat.testBit t (p- (-d).toNat%p)=false):∃b c,Fm d p b c:=by
 obtain⟨d0,d1,d4⟩:=hd;obtain⟨n,hnd⟩:∃n:Nat,(-d).toNat=n:=⟨_,rfl⟩
 rw[hnd]at hn hs;have hdn:d= -(n:Int):=by omega
 have p0:0<p:=by have:=ht.h3;omega
 have hlt:=q7 n p0;rw[ht.bit _ (by omega) (by omega)]at hs;have hmu:mu (p-n%p) p%2=0:=by have:=of_decide_eq_false hs;omega
 have hpm:(p-n%p)%p≠0:=by rw[yK (by omega)];omega
 obtain⟨x,x1,x2,x3⟩:=(nN ht.p ht.h3 ht.odd hpm).mpr hmu;have hsum:(x*x+n)%p=0:=by
  rw[gw,x3,←gw];have e:p-n%p+n=p+p*(n/p):=by have:=sq n p;omega
  rw[e,iv,zs]
 obtain⟨b,hb1,hb2,hb3,hb4⟩:∃b:Int,0≤b∧b<264∧b%2=d%2∧(p:Int)∣b*b-d:=by
  obtain⟨y,hy⟩:=xK hsum;have hyi:(x:Int)*x-d=(p:Int)*y:=by rw[hdn,←eu,←eu,←hy];omega
  have hi:=ht.hi;have hpo:=ht.odd;by_cases hpar:(x:Int)%2=d%2
  ·exact⟨x,by omega,by omega,hpar,⟨y,hyi⟩⟩
  ·refine⟨(x:Int)+p,by omega,by omega,by omega,⟨y+2*x+p,?_⟩⟩;have:((x:Int)+p)*(x+p)-d=((x:Int)*x-d)+p*(2*x+p):=by grind
   rw[this,hyi];grind
 obtain⟨y,hy⟩:=hb4;have hpo:(p:Int)%2=1:=by have:=ht.odd;omega
 have h4:(b*b-d)%4=0:=by have e:(b*b)%4=((b%4)*(b%4))%4:=bs b b 4;rcases(show b%4=0∨b%4=1∨b%4=2∨b%4=3 by omega)with q|q|q|q<;>rw[q]at e<;>omega
 have hy4:y%4=0:=by rw[hy]at h4;have e:((p:Int)*y)%4=(((p:Int)%4)*(y%4))%4:=bs _ _ 4;rw[e]at h4;rcases(show(p:Int)%4=1∨(p:Int)%4=3 by omega)with q|q<;>rcases(show y%4=0∨y%4=1∨y%4=2∨y%4=3 by omega)with r|r|r|r<;>rw[q,r]at h4<;>omega
 obtain⟨c,rfl⟩:∃c,y=4*c:=⟨y/4,by omega⟩
 have heq:b*b-4*p*c=d:=by
  have:(p:Int)*(4*c)=4*p*c:=by grind
  omega
 have hbb:0≤b*b∧b*b≤69696:=⟨c6 hb1 hb1,by have:=sw (show b≤264 by omega) (show b≤264 by omega) hb1 (by decide);omega⟩
 have hc0:0<c:=by
  rcases a8 0 c with q|q
  ·exact q
  ·have:=c6 (show(0:Int)≤p by omega) (show 0≤ -(4*c) by omega);rw[mx]at this;omega
 have hc1:c≤140000:=by have:=rm (show(1:Int)≤p by omega) (show 0≤4*c by omega);omega
 refine⟨b,c,⟨⟨⟨?_,by omega,by omega,by omega⟩,⟨heq⟩,?_⟩,d0⟩⟩
 ·have hi:=ht.hi;exact⟨⟨by omega,by omega⟩,⟨by omega,by omega⟩,by omega,by omega⟩
 ·
  rw[jE];unfold NatL.cC;rcases pC 1 (Int.gcd ((Int.gcd (p:Int) b:Nat):Int) c)with q|q
  ·exfalso;obtain⟨r,hr,hrd⟩:=vZ q;have e1:(r:Int)∣((Int.gcd (p:Int) b:Nat):Int):=oj (w4.mpr hrd) (Int.gcd_dvd_left ..);have e2:(r:Int)∣(p:Int):=oj e1 (Int.gcd_dvd_left ..);have e3:(r:Int)∣b:=oj e1 (Int.gcd_dvd_right ..);have hrp:r=p:=hr.eq ht.pr (w4.mp e2);subst hrp;have e4:(r:Int)∣d:=by
    rw[←heq];exact ta (dd e3) ⟨4*c,by grind⟩
   have:(r:Int)∣(n:Int):=by rw[hdn]at e4;exact zv.mp e4
   exact hn (o1 (w4.mp this))
  ·have:0<Int.gcd ((Int.gcd (p:Int) b:Nat):Int) c:=by
    apply Int.gcd_pos_of_ne_zero_right;omega
   omega
theorem Ro {N:Nat}(hN:8589934600<N){d:Int}(hd:oG d){X:List Int}(hX:qq d X){L:List R3}(hL:Cl d L){s:R3→List Int}(hs:∀x∈L,s x=X.map (sv N x.1 x.2.1 x.2.2))(hc:Bv (-d).toNat=true):2^(X.length-1)≤(xB (fun x=>lB (s x)) L).length:=by
 have hadm:=fun q (hq:q∈X)=>hX.adm hd hq;have h8:=hX.len hd.1;obtain⟨e1,e2⟩:=Bl hd hX;have hnm:(-d).toNat%4=0∨(-d).toNat%4=3:=by have:=hd.2.2;have:=hd.2.1;omega
 have hgo:go (-d).toNat (ak (-d).toNat) PT [0] ((ak (-d).toNat).length-1)=true:=by unfold Bv at hc;rw[gG,gG,←ss,decide_eq_true hnm,cond_true]at hc;exact hc
 have hlen:(ak (-d).toNat).length=X.length:=by have:=congrArg List.length e1;rw[l0]at this;exact this.symm
 have hR:∀x∈L,bg (X.map (sv N x.1 x.2.1 x.2.2))∈(xB (fun x=>lB (s x)) L).map bg:=fun x hx=>by refine o0.mpr ⟨lB (s x),(gM _ _ _).mpr ⟨x,hx,rfl⟩,?_⟩;rw[wk _ (by rw[hs x hx,l0];exact h8),hs x hx]
 have hback:∀v,v∈(xB (fun x=>lB (s x)) L).map bg→∃x∈L,bg (X.map (sv N x.1 x.2.1 x.2.2))=v:=fun v hv=>by obtain⟨k,hk,rfl⟩:=o0.mp hv;obtain⟨x,hx,rfl⟩:=(gM _ _ _).mp hk;refine⟨x,hx,?_⟩;rw[wk _ (by rw[hs x hx,l0];exact h8),hs x hx]
 have hpm:∀x∈L,∀q∈X,sv N x.1 x.2.1 x.2.2 q=1∨sv N x.1 x.2.1 x.2.2 q= -1:=fun x hx q hq=>(fT hN (mc hd ((hL.mem x).mp hx)) (hadm q hq).sy).2.2;have hxor:∀a b,a∈(xB (fun x=>lB (s x)) L).map bg→b∈(xB (fun x=>lB (s x)) L).map bg→a^^^b∈(xB (fun x=>lB (s x)) L).map bg:=fun a b ha hb=>by obtain⟨x,hx,rfl⟩:=hback a ha;obtain⟨y,hy,rfl⟩:=hback b hb;obtain⟨z,hz,ez⟩:=Ac hN hd hL hadm hx hy;have:=hR z hz;rw[w7 ez,wj X (hpm x hx) (hpm y hy)]at this;exact this
 have hstep:∀x∈PT,(-d).toNat%x.1≠0→Nat.testBit x.2 (x.1- (-d).toNat%x.1)=false→Mn x.1 x.2 (ak (-d).toNat)∈(xB (fun x=>lB (s x)) L).map bg:=fun y hy hn ht=>by
  have hT:=Sm y hy;obtain⟨b,c,hF⟩:=Nd hN hd hT hn ht;obtain⟨x,hx,ex⟩:=Cp hN hF hL hadm;have:=hR x hx;rw[w7 ex]at this;rw[qm hT hn _ e2,←e1];have e3:∀q∈X,sv N (y.1:Int) b c q=zN q (y.1:Int):=fun q hq=>by
   obtain⟨_,_,_,_,e⟩:=dV hN hF (hadm q hq);have v1:Pure.val (y.1:Int) b c 1 0=(y.1:Int):=by unfold Pure.val;grind
   have:=e 1 0 (by
    rw[v1];cases hadm q hq with
    |pr r hr h3 ho hb hd2=>
     rw[rI hr];intro h;have h4:=w4.mp h;have hrp:rC r:=⟨by have:=hr.1;omega,hr.2⟩
     have:=hrp.eq hT.pr h4;subst this;have h5:(y.1:Int)∣(((-d).toNat:Nat):Int):=by rw[r7 (by have:=hd.2.1;omega)];exact zv.mpr hd2
     exact hn (o1 (w4.mp h5))
    |m4=>rw[eL (.inl rfl)];have:=hT.odd;omega
    |p8=>rw[eL (.inr (.inl rfl))];have:=hT.odd;omega
    |m8=>rw[eL (.inr (.inr rfl))];have:=hT.odd;omega)
   rw[this,v1]
  rw[w7 e3]at this;exact this
 have h0:(0:Nat)∈(xB (fun x=>lB (s x)) L).map bg:=by
  obtain⟨x,hx⟩:∃x,x∈L:=by
   cases L with
   |nil=>exact absurd rfl (Qh hd hL)
   |cons x L=>exact⟨x,by simp⟩
  have:=hxor _ _ (hR x hx) (hR x hx);rwa[vt]at this
 obtain⟨S,s1,s2,s3⟩:=aS (Rz:=fun v=>v∈(xB (fun x=>lB (s x)) L).map bg) hstep hxor PT [0] _ (fun _ h=>h) (by simp) (fun a ha b hb=>by
  simp only[hU]at ha hb⊢;subst ha;subst hb;rfl) (fun a ha=>by
  simp only[hU]at ha;subst ha;exact h0) hgo
 have:=lU S _ s1 s2;rw[l0,s3,hlen]at this;simpa using this
set_option maxRecDepth 100000
theorem Uj:pA 255 1=true:=by kernel_rfl
theorem S6:pA 256 256=true:=by kernel_rfl
theorem S7:pA 256 512=true:=by kernel_rfl
theorem S8:pA 256 768=true:=by kernel_rfl
theorem O4:pA 256 1024=true:=by kernel_rfl
theorem O5:pA 256 1280=true:=by kernel_rfl
theorem O6:pA 256 1536=true:=by kernel_rfl
theorem O7:pA 256 1792=true:=by kernel_rfl
theorem O8:pA 256 2048=true:=by kernel_rfl
theorem O9:pA 256 2304=true:=by kernel_rfl
theorem Oa:pA 256 2560=true:=by kernel_rfl
theorem Ob:pA 256 2816=true:=by kernel_rfl
theorem Oc:pA 256 3072=true:=by kernel_rfl
theorem Od:pA 256 3328=true:=by kernel_rfl
theorem Oe:pA 256 3584=true:=by kernel_rfl
theorem Og:pA 256 3840=true:=by kernel_rfl
theorem Oh:pA 256 4096=true:=by kernel_rfl
theorem Oi:pA 256 4352=true:=by kernel_rfl
theorem Oj:pA 256 4608=true:=by kernel_rfl
theorem Ol:pA 256 4864=true:=by kernel_rfl
theorem Om:pA 256 5120=true:=by kernel_rfl
theorem On:pA 256 5376=true:=by kernel_rfl
theorem Oq:pA 256 5632=true:=by kernel_rfl
theorem Ot:pA 256 5888=true:=by kernel_rfl
theorem Ou:pA 256 6144=true:=by kernel_rfl
theorem Ov:pA 256 6400=true:=by kernel_rfl
theorem Ow:pA 256 6656=true:=by kernel_rfl
theorem Ox:pA 256 6912=true:=by kernel_rfl
theorem Oy:pA 256 7168=true:=by kernel_rfl
theorem Oz:pA 256 7424=true:=by kernel_rfl
theorem P0:pA 256 7680=true:=by kernel_rfl
theorem P1:pA 256 7936=true:=by kernel_rfl
theorem P2:pA 256 8192=true:=by kernel_rfl
theorem P3:pA 256 8448=true:=by kernel_rfl
theorem P4:pA 256 8704=true:=by kernel_rfl
theorem P5:pA 256 8960=true:=by kernel_rfl
theorem P6:pA 256 9216=true:=by kernel_rfl
theorem P7:pA 256 9472=true:=by kernel_rfl
theorem P8:pA 256 9728=true:=by kernel_rfl
theorem P9:pA 256 9984=true:=by kernel_rfl
theorem F5:pA 256 10240=true:=by kernel_rfl
theorem F6:pA 256 10496=true:=by kernel_rfl
theorem F7:pA 256 10752=true:=by kernel_rfl
theorem F8:pA 256 11008=true:=by kernel_rfl
theorem F9:pA 256 11264=true:=by kernel_rfl
theorem Fa:pA 256 11520=true:=by kernel_rfl
theorem Fb:pA 256 11776=true:=by kernel_rfl
theorem Fc:pA 256 12032=true:=by kernel_rfl
theorem Fe:pA 256 12288=true:=by kernel_rfl
theorem Ff:pA 256 12544=true:=by kernel_rfl
theorem Fg:pA 256 12800=true:=by kernel_rfl
theorem Fh:pA 256 13056=true:=by kernel_rfl
theorem Fi:pA 256 13312=true:=by kernel_rfl
theorem Fj:pA 256 13568=true:=by kernel_rfl
theorem Fk:pA 256 13824=true:=by kernel_rfl
theorem Fq:pA 256 14080=true:=by kernel_rfl
theorem Fs:pA 256 14336=true:=by kernel_rfl
theorem Ft:pA 256 14592=true:=by kernel_rfl
theorem Fu:pA 256 14848=true:=by kernel_rfl
theorem Fv:pA 256 15104=true:=by kernel_rfl
theorem Fw:pA 256 15360=true:=by kernel_rfl
theorem Fx:pA 256 15616=true:=by kernel_rfl
theorem Fy:pA 256 15872=true:=by kernel_rfl
theorem G0:pA 256 16128=true:=by kernel_rfl
theorem Ab (n:Nat)(h1:1≤n)(h2:n<16384):Bv n=true:=by
 rcases pC n 256 with q|q
 ·exact bA Uj n (by omega) (by omega)
 clear h1;have h1:=q;clear q;rcases pC n 512 with q|q
 ·exact bA S6 n (by omega) (by omega)
 clear h1;have h1:=q;clear q;rcases pC n 768 with q|q
 ·exact bA S7 n (by omega) (by omega)
 clear h1;have h1:=q;clear q;rcases pC n 1024 with q|q
 ·exact bA S8 n (by omega) (by omega)
 clear h1;have h1:=q;clear q;rcases pC n 1280 with q|q
 ·exact bA O4 n (by omega) (by omega)
 clear h1;have h1:=q;clear q;rcases pC n 1536 with q|q
 ·exact bA O5 n (by omega) (by omega)
 clear h1;have h1:=q;clear q;rcases pC n 1792 with q|q
 ·exact bA O6 n (by omega) (by omega)
 clear h1;have h1:=q;clear q;rcases pC n 2048 with q|q
 ·exact bA O7 n (by omega) (by omega)
 clear h1;have h1:=q;clear q;rcases pC n 2304 with q|q
 ·exact bA O8 n (by omega) (by omega)
 clear h1;have h1:=q;clear q;rcases pC n 2560 with q|q
 ·exact bA O9 n (by omega) (by omega)
 clear h1;have h1:=q;clear q;rcases pC n 2816 with q|q
 ·exact bA Oa n (by omega) (by omega)
 clear h1;have h1:=q;clear q;rcases pC n 3072 with q|q
 ·exact bA Ob n (by omega) (by omega)
 clear h1;have h1:=q;clear q;rcases pC n 3328 with q|q
 ·exact bA Oc n (by omega) (by omega)
 clear h1;have h1:=q;clear q;rcases pC n 3584 with q|q
 ·exact bA Od n (by omega) (by omega)
 clear h1;have h1:=q;clear q;rcases pC n 3840 with q|q
 ·exact bA Oe n (by omega) (by omega)
 clear h1;have h1:=q;clear q;rcases pC n 4096 with q|q
 ·exact bA Og n (by omega) (by omega)
 clear h1;have h1:=q;clear q;rcases pC n 4352 with q|q
 ·exact bA Oh n (by omega) (by omega)
 clear h1;have h1:=q;clear q;rcases pC n 4608 with q|q
 ·exact bA Oi n (by omega) (by omega)
 clear h1;have h1:=q;clear q;rcases pC n 4864 with q|q
 ·exact bA Oj n (by omega) (by omega)
 clear h1;have h1:=q;clear q;rcases pC n 5120 with q|q
 ·exact bA Ol n (by omega) (by omega)
 clear h1;have h1:=q;clear q;rcases pC n 5376 with q|q
 ·exact bA Om n (by omega) (by omega)
 clear h1;have h1:=q;clear q;rcases pC n 5632 with q|q
 ·exact bA On n (by omega) (by omega)
 clear h1;have h1:=q;clear q;rcases pC n 5888 with q|q
 ·exact bA Oq n (by omega) (by omega)
 clear h1;have h1:=q;clear q;rcases pC n 6144 with q|q
 ·exact bA Ot n (by omega) (by omega)
 clear h1;have h1:=q;clear q;rcases pC n 6400 with q|q
 ·exact bA Ou n (by omega) (by omega)
 clear h1;have h1:=q;clear q;rcases pC n 6656 with q|q
 ·exact bA Ov n (by omega) (by omega)
 clear h1;have h1:=q;clear q;rcases pC n 6912 with q|q
 ·exact bA Ow n (by omega) (by omega)
 clear h1;have h1:=q;clear q;rcases pC n 7168 with q|q
 ·exact bA Ox n (by omega) (by omega)
 clear h1;have h1:=q;clear q;rcases pC n 7424 with q|q
 ·exact bA Oy n (by omega) (by omega)
 clear h1;have h1:=q;clear q;rcases pC n 7680 with q|q
 ·exact bA Oz n (by omega) (by omega)
 clear h1;have h1:=q;clear q;rcases pC n 7936 with q|q
 ·exact bA P0 n (by omega) (by omega)
 clear h1;have h1:=q;clear q;rcases pC n 8192 with q|q
 ·exact bA P1 n (by omega) (by omega)
 clear h1;have h1:=q;clear q;rcases pC n 8448 with q|q
 ·exact bA P2 n (by omega) (by omega)
 clear h1;have h1:=q;clear q;rcases pC n 8704 with q|q
 ·exact bA P3 n (by omega) (by omega)
 clear h1;have h1:=q;clear q;rcases pC n 8960 with q|q
 ·exact bA P4 n (by omega) (by omega)
 clear h1;have h1:=q;clear q;rcases pC n 9216 with q|q
 ·exact bA P5 n (by omega) (by omega)
 clear h1;have h1:=q;clear q;rcases pC n 9472 with q|q
 ·exact bA P6 n (by omega) (by omega)
 clear h1;have h1:=q;clear q;rcases pC n 9728 with q|q
 ·exact bA P7 n (by omega) (by omega)
 clear h1;have h1:=q;clear q;rcases pC n 9984 with q|q
 ·exact bA P8 n (by omega) (by omega)
 clear h1;have h1:=q;clear q;rcases pC n 10240 with q|q
 ·exact bA P9 n (by omega) (by omega)
 clear h1;have h1:=q;clear q;rcases pC n 10496 with q|q
 ·exact bA F5 n (by omega) (by omega)
 clear h1;have h1:=q;clear q;rcases pC n 10752 with q|q
 ·exact bA F6 n (by omega) (by omega)
 clear h1;have h1:=q;clear q;rcases pC n 11008 with q|q
 ·exact bA F7 n (by omega) (by omega)
 clear h1;have h1:=q;clear q;rcases pC n 11264 with q|q
 ·exact bA F8 n (by omega) (by omega)
 clear h1;have h1:=q;clear q;rcases pC n 11520 with q|q
 ·exact bA F9 n (by omega) (by omega)
 clear h1;have h1:=q;clear q;rcases pC n 11776 with q|q
 ·exact bA Fa n (by omega) (by omega)
 clear h1;have h1:=q;clear q;rcases pC n 12032 with q|q
 ·exact bA Fb n (by omega) (by omega)
 clear h1;have h1:=q;clear q;rcases pC n 12288 with q|q
 ·exact bA Fc n (by omega) (by omega)
 clear h1;have h1:=q;clear q;rcases pC n 12544 with q|q
 ·exact bA Fe n (by omega) (by omega)
 clear h1;have h1:=q;clear q;rcases pC n 12800 with q|q
 ·exact bA Ff n (by omega) (by omega)
 clear h1;have h1:=q;clear q;rcases pC n 13056 with q|q
 ·exact bA Fg n (by omega) (by omega)
 clear h1;have h1:=q;clear q;rcases pC n 13312 with q|q
 ·exact bA Fh n (by omega) (by omega)
 clear h1;have h1:=q;clear q;rcases pC n 13568 with q|q
 ·exact bA Fi n (by omega) (by omega)
 clear h1;have h1:=q;clear q;rcases pC n 13824 with q|q
 ·exact bA Fj n (by omega) (by omega)
 clear h1;have h1:=q;clear q;rcases pC n 14080 with q|q
 ·exact bA Fk n (by omega) (by omega)
 clear h1;have h1:=q;clear q;rcases pC n 14336 with q|q
 ·exact bA Fq n (by omega) (by omega)
 clear h1;have h1:=q;clear q;rcases pC n 14592 with q|q
 ·exact bA Fs n (by omega) (by omega)
 clear h1;have h1:=q;clear q;rcases pC n 14848 with q|q
 ·exact bA Ft n (by omega) (by omega)
 clear h1;have h1:=q;clear q;rcases pC n 15104 with q|q
 ·exact bA Fu n (by omega) (by omega)
 clear h1;have h1:=q;clear q;rcases pC n 15360 with q|q
 ·exact bA Fv n (by omega) (by omega)
 clear h1;have h1:=q;clear q;rcases pC n 15616 with q|q
 ·exact bA Fw n (by omega) (by omega)
 clear h1;have h1:=q;clear q;rcases pC n 15872 with q|q
 ·exact bA Fx n (by omega) (by omega)
 clear h1;have h1:=q;clear q;rcases pC n 16128 with q|q
 ·exact bA Fy n (by omega) (by omega)
 clear h1;have h1:=q;clear q;exact bA G0 n (by omega) (by omega)
end Go.Proofs.YteaakcmkpacpaaaGreat.Gen
