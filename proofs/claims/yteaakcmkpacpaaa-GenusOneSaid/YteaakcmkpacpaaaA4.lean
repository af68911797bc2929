import Derived.Test.YteaakcmkpacpaaaA3
import Derived.KernelRfl
open Option renaming bind_some→hB
open Int renaming mul_le_mul_of_nonneg_left→pC,le_of_lt→aE,mul_le_mul_of_nonneg_right→hE,mul_nonneg→zE,lt_or_le→hI,emod_lt_of_pos→hL,mul_ediv_add_emod→cP,emod_nonneg→hQ,eq_of_mul_eq_mul_left→eX,pow_succ→j0,mul_ediv_cancel_left→j1,pow_pos→o2,ediv_nonneg→j3,mul_neg→c5,dvd_trans→b7,mul_eq_zero→c7,eq_ofNat_of_zero_le→q7,pow_add→b8,le_of_dvd→c8,add_zero→l8,ediv_emod_unique→p8,mul_zero→r8,mul_pos→y8,mul_comm→ae,mul_lt_mul_of_pos_left→aq,tdiv_eq_ediv_of_nonneg→bd,mul_tdiv_cancel_left→ch,zero_add→ck,dvd_mul_right→da,lt_trichotomy→db,tmod_eq_emod_of_nonneg→dc,le_total→dd,dvd_add→ds,ediv_lt_iff_lt_mul→dx,le_ediv_iff_mul_le→dy,one_dvd→ef,mul_assoc→ek,ediv_le_self→en,add_mul_ediv_left→eo,emod_emod_of_dvd→fo,zero_dvd→fp,zero_mul→fr,lt_ediv_add_one_mul_self→gx,mul_le_mul→gy,le_refl→iv,mul_one→ki,neg_mul→ko,one_mul→ks,add_mul_emod_self_left→kt,emod_eq_of_lt→ln,dvd_mul_left→mb,emod_eq_zero_of_dvd→nn,dvd_neg→oj,ediv_eq_zero_of_lt→pb,ediv_lt_of_lt_mul→pn,natAbs_dvd_natAbs→ps,mul_dvd_mul_left→py,mul_ediv_cancel'→qs,dvd_refl→ry,mul_emod→sh
open List renaming drop_eq_nil_iff→hT,getD_eq_getElem?_getD→hV,length_take→j2,length_pos_iff→y7,take_length→cx,take_of_length_le→cy,getElem?_set→dk,getD_cons_succ→gw,drop_zero→il,getElem?_replicate→nw
open Nat renaming le_refl→c6,pow_le_pow_right→p7,and_two_pow_sub_one_eq_mod→fs,shiftLeft_add_eq_or_of_lt→gg,lt_or_ge→mx,shiftLeft_eq→nd
open BitVec renaming toNat_ofInt→h9,msb_eq_decide→px
open Bool renaming not_false→bs,not_true→eh
set_option linter.unusedVariables false
set_option linter.unusedSimpArgs false
namespace Go.Proofs.Yteaakcmkpacpaaa.NatL
open Go Go.Proofs.Yteaakcmkpacpaaa.Ev
theorem dA {n:Int}(h1: -9223372036854775808≤n)(h2:n<9223372036854775808):aA n=n:=by
 simp only[aA,IntKind.wrap];simp[IntKind.bits,IntKind.signed];omega
theorem pA {n:Int}(h1:0≤n)(h2:n<18446744073709551616):lA n=n:=by
 simp only[lA,IntKind.wrap];simp[IntKind.bits,IntKind.signed];omega
theorem dR {n:Int}(h1:0≤n)(h2:n<4294967296):rE n=n:=by
 simp only[rE,IntKind.wrap];simp[IntKind.bits,IntKind.signed];omega
theorem bE (n:Int):rE n=n%4294967296:=by
 simp only[rE,IntKind.wrap];simp[IntKind.bits,IntKind.signed]
theorem eR (n:Int):lA n=n%18446744073709551616:=by
 simp only[lA,IntKind.wrap];simp[IntKind.bits,IntKind.signed]
theorem E8 {n:Int}(h1:0≤n)(h2:n<256):gL n=n:=by
 simp only[gL,IntKind.wrap];simp[IntKind.bits,IntKind.signed];omega
theorem eC (y:Int)(k:Nat):Int.fdiv y (2^k)=y/2^k:=Int.fdiv_eq_ediv_of_nonneg _ (aE (o2 (by decide)))
theorem dO {x y:Int}(h:0≤x):Int.tdiv x y=x/y:=bd h
theorem xH {x y:Int}(h:0≤x):Int.tmod x y=x%y:=dc h
def nv (b:Int):List Int→Int
 | []=>0
 |x::r=>x+b*nv b r
def fD (b:Int)(l:List Int):Prop:=∀x∈l,0≤x∧x<b
theorem fD.nil (b:Int):fD b []:=fun _ h=>by cases h
theorem fD.cons {b x:Int}{l:List Int}(h0:0≤x)(h1:x<b)(h:fD b l):fD b (x::l):=fun y hy=>by
 rcases List.mem_cons.mp hy with rfl|hy
 ·exact⟨h0,h1⟩
 ·exact h y hy
theorem fD.tail {b x:Int}{l:List Int}(h:fD b (x::l)):fD b l:=fun y hy=>h y (List.mem_cons_of_mem _ hy)
theorem fD.head {b x:Int}{l:List Int}(h:fD b (x::l)):0≤x∧x<b:=h x List.mem_cons_self
theorem fD.append {b:Int}{l m:List Int}(h:fD b l)(k:fD b m):fD b (l++m):=fun y hy=>by
 rcases List.mem_append.mp hy with hy|hy
 ·exact h y hy
 ·exact k y hy
theorem fD.take {b:Int}{l:List Int}(h:fD b l)(n:Nat):fD b (l.take n):=fun y hy=>h y (List.mem_of_mem_take hy)
theorem fD.drop {b:Int}{l:List Int}(h:fD b l)(n:Nat):fD b (l.drop n):=fun y hy=>h y (List.mem_of_mem_drop hy)
theorem fD.set {b v:Int}{l:List Int}(h:fD b l)(i:Nat)(h0:0≤v)(h1:v<b):fD b (l.set i v):=fun y hy=>by
 rcases List.mem_or_eq_of_mem_set hy with hy|rfl
 ·exact h y hy
 ·exact⟨h0,h1⟩
theorem fD.get {b:Int}{l:List Int}(h:fD b l)(hb:0<b)(i:Nat):0≤l.getD i 0∧l.getD i 0<b:=by
 rw[hV];cases hi:l[i]? with
 |none=>exact⟨iv _,hb⟩
 |some x=>exact h x (List.mem_of_getElem? hi)
theorem iS (b:Int):∀l m:List Int,nv b (l++m)=nv b l+b^l.length*nv b m
 | [],m=>by simp[nv]
 |x::l,m=>by simp only[List.cons_append,nv,List.length_cons,iS b l m,j0];grind
theorem zB {b:Int}(hb:0<b):∀{l:List Int},fD b l→0≤nv b l∧nv b l<b^l.length
 | [],_=>by simp[nv]
 |x::l,h=>by
  obtain⟨h1,h2⟩:=zB hb h.tail;obtain⟨h3,h4⟩:=h.head;simp only[nv,List.length_cons,j0];have p1:=zE (aE hb) h1;have p2:=pC (show nv b l+1≤b^l.length by omega) (aE hb);have e1:b*(nv b l+1)=b*nv b l+b:=by grind
  have e2:b^l.length*b=b*b^l.length:=ae _ _;omega
theorem jK (b v:Int):∀(l:List Int) (i:Nat),i<l.length→nv b (l.set i v)=nv b l+b^i*(v-l.getD i 0)
 | [],i,h=>by simp at h
 |x::l,0,_=>by simp[nv];omega
 |x::l,i+1,h=>by have:=jK b v l i (by simpa using h);simp only[List.set_cons_succ,nv,this,j0,gw];grind
theorem gE (b:Int):∀(l:List Int) (i:Nat),i<l.length→nv b (l.take (i+1))=nv b (l.take i)+b^i*l.getD i 0
 | [],i,h=>by simp at h
 |x::l,0,_=>by simp[nv]
 |x::l,i+1,h=>by have:=gE b l i (by simpa using h);simp only[List.take_succ_cons,nv,this,j0,gw];grind
theorem yE (b:Int):∀(l:List Int) (i:Nat),i<l.length→nv b (l.drop i)=l.getD i 0+b*nv b (l.drop (i+1))
 | [],i,h=>by simp at h
 |x::l,0,_=>by simp[nv]
 |x::l,i+1,h=>by have:=yE b l i (by simpa using h);simpa using this
theorem lQ (b:Int)(l:List Int)(i:Nat)(h:i≤l.length):nv b l=nv b (l.take i)+b^i*nv b (l.drop i):=by
 have:=iS b (l.take i) (l.drop i);rw[List.take_append_drop,j2,Nat.min_eq_left h]at this;exact this
theorem pF (b:Int):∀n,nv b (List.replicate n 0)=0
 |0=>rfl
 |n+1=>by simp[List.replicate_succ,nv,pF b n]
theorem fD.replicate {b:Int}(hb:0<b)(n:Nat):fD b (List.replicate n 0):=fun x hx=>by
 have:=List.eq_of_mem_replicate hx;subst this;exact⟨iv _,hb⟩
structure qO (b:Int)(l:List Int):Prop where
 dig:fD b l
 top:l≠ []→l.getD (l.length-1) 0≠0
theorem qO.nil (b:Int):qO b []:=⟨fD.nil b,fun h=>absurd rfl h⟩
theorem qO.lower {b:Int}(hb:0<b){l:List Int}(h:qO b l)(hne:l≠ []):b^(l.length-1)≤nv b l:=by
 have hl:0<l.length:=y7.mpr hne;have h1:=gE b l (l.length-1) (by omega);have e:l.length-1+1=l.length:=by omega
 rw[e,cx]at h1;have h2:=(zB hb (h.dig.take (l.length-1))).1;have h3:=h.dig.get hb (l.length-1);have h4:=h.top hne;have h5:=pC (show 1≤l.getD (l.length-1) 0 by omega) (show 0≤b^(l.length-1)from aE (o2 hb));omega
theorem qO.pos {b:Int}(hb:0<b){l:List Int}(h:qO b l):nv b l=0↔l=[]:=by
 cases l with
 |nil=>simp[nv]
 |cons x l=>have h1:=h.lower hb (by simp);have h2:0<b^((x::l).length-1):=o2 hb;refine⟨fun _=>?_,fun h=>by cases h⟩;omega
theorem qO.tail {b x:Int}{l:List Int}(h:qO b (x::l)):qO b l:=by
 refine⟨h.dig.tail,fun hne=>?_⟩;have hl:0<l.length:=y7.mpr hne;have:=h.top (by simp);have e:(x::l).length-1=(l.length-1)+1:=by simp;omega
 rw[e,gw]at this;exact this
theorem jv {b x y n m:Int}(hb:0<b)(hx0:0≤x)(hx1:x<b)(hy0:0≤y)(hy1:y<b)(h:x+b*n=y+b*m):x=y∧n=m:=by
 rcases db n m with hq|hq|hq
 ·exfalso;have:=pC (show n+1≤m by omega) (aE hb);have e:b*(n+1)=b*n+b:=by grind
  omega
 ·subst hq;exact⟨by omega,rfl⟩
 ·exfalso;have:=pC (show m+1≤n by omega) (aE hb);have e:b*(m+1)=b*m+b:=by grind
  omega
theorem qO.unique {b:Int}(hb:0<b):∀{l m:List Int},qO b l→qO b m→nv b l=nv b m→l=m
 | [],m,_,hm,h=>((hm.pos hb).mp h.symm).symm
 |x::l,[],hl,_,h=>by have:=(hl.pos hb).mp h;exact this
 |x::l,y::m,hl,hm,h=>by simp only[nv]at h;obtain⟨h1,h2⟩:=jv hb hl.dig.head.1 hl.dig.head.2 hm.dig.head.1 hm.dig.head.2 h;rw[h1,qO.unique hb hl.tail hm.tail h2]
def qK (l:List Int):Nat→Nat
 |0=>0
 |n+1=>if l.getD n 0=0 then qK l n else n+1
theorem j7 (l:List Int):∀n,qK l n≤n
 |0=>c6 _
 |n+1=>by
  unfold qK;split
  ·exact Nat.le_succ_of_le (j7 l n)
  ·exact c6 _
theorem nr (b:Int)(l:List Int):∀n,n≤l.length→nv b (l.take (qK l n))=nv b (l.take n)
 |0,_=>rfl
 |n+1,h=>by
  unfold qK;split
  ·rename_i h0;rw[nr b l n (by omega),gE b l n (by omega),h0];simp
  ·rfl
theorem dz (l:List Int):∀n,0<qK l n→l.getD (qK l n-1) 0≠0
 |0,h=>by simp[qK]at h
 |n+1,h=>by
  unfold qK at h⊢;split
  ·rename_i h0;rw[if_pos h0]at h;exact dz l n h
  ·rename_i h0;simpa using h0
def dE (l:List Int):List Int:=l.take (qK l l.length)
theorem nq (b:Int)(l:List Int):nv b (dE l)=nv b l:=by
 unfold dE;rw[nr b l _ (c6 _),cx]
theorem cZ {l:List Int}{n i:Nat}(h:i<n):(l.take n).getD i 0=l.getD i 0:=by
 simp[hV,List.getElem?_take,h]
theorem dw {b:Int}{l:List Int}(h:fD b l):qO b (dE l):=by
 refine⟨h.take _,fun hne=>?_⟩;have hle:=j7 l l.length;have hlen:(dE l).length=qK l l.length:=by unfold dE;rw[j2];omega
 have hpos:0<(dE l).length:=y7.mpr hne;rw[hlen]at hpos⊢;have:=dz l l.length hpos;unfold dE;rw[cZ (by omega)];exact this
theorem wk (l:List Int):(dE l).length≤l.length:=by unfold dE;rw[j2];omega
theorem kb {b:Int}(hb:2≤b):∀n:Nat,∃l,qO b l∧nv b l=n:=by
 intro n;induction n using Nat.strongRecOn with
 |_ n ih=>
  by_cases h0:n=0
  ·subst h0;exact⟨[],qO.nil b,rfl⟩
  ·have h1:=cP (n:Int) b;have h2:=hQ (n:Int) (b:=b) (by omega);have h3:=hL (n:Int) (b:=b) (by omega);have h4:0≤(n:Int)/b:=j3 (by omega) (by omega);have h5:(n:Int)/b<n:=Int.ediv_lt_self_of_pos_of_ne_one (by omega) (by omega);obtain⟨l,hl,hv⟩:=ih ((n:Int)/b).toNat (by omega);have hv':nv b l=(n:Int)/b:=by omega
   refine⟨(n:Int)%b::l,⟨fD.cons h2 h3 hl.dig,fun _=>?_⟩,by simp only[nv,hv'];omega⟩;cases l with
   |nil=>
    simp only[nv]at hv';simp;intro h;have:(n:Int)%b=0:=by omega
    rw[←hv']at h1;simp at h1;omega
   |cons x l=>have:=hl.top (by simp);simpa using this
open Classical in
noncomputable def enc (b v:Int):List Int:=if h:∃l,qO b l∧nv b l=v then Classical.choose h else []
theorem jx {b:Int}(hb:2≤b){l:List Int}{v:Int}(h:qO b l)(hv:nv b l=v):l=enc b v:=by
 have hx:∃l,qO b l∧nv b l=v:=⟨l,h,hv⟩
 unfold enc;rw[dif_pos hx];obtain⟨h1,h2⟩:=Classical.choose_spec hx;exact qO.unique (by omega) h h1 (by omega)
theorem bD {b:Int}(hb:2≤b){v:Int}(hv:0≤v):qO b (enc b v)∧nv b (enc b v)=v:=by
 obtain⟨l,h1,h2⟩:=kb hb v.toNat;have h3:nv b l=v:=by omega
 rw[←jx hb h1 h3];exact⟨h1,h3⟩
theorem xM {b:Int}(hb:2≤b):enc b 0=[]:=(jx hb (qO.nil b) rfl).symm
theorem nu {b:Int}(hb:2≤b){v:Int}(hv:0≤v):enc b v=[]↔v=0:=by
 obtain⟨h1,h2⟩:=bD hb hv;rw[←h1.pos (by omega),h2]
def wD (v:Int):Int:=if v≤0 then 0 else(Nat.log2 v.toNat:Int)+1
theorem cD (k:Nat):(2:Int)^k=((2^k:Nat):Int):=by simp
theorem mF {v:Int}(h:0≤v)(k:Nat):wD v≤k↔v<2^k:=by
 unfold wD;have hp:(0:Int)<2^k:=o2 (by decide);split
 ·have:v=0:=by omega
  subst this;constructor<;>intro<;>omega
 ·have:=Nat.log2_lt (n:=v.toNat) (k:=k) (by omega);rw[cD];constructor
  ·intro h1;have:=this.mp (by omega);omega
  ·intro h1;have:=this.mpr (by omega);omega
theorem xC (v:Int):0≤wD v:=by unfold wD;split<;>omega
theorem dp {v r:Int}(h:0≤v)(h0:0≤r)(hr:∀k:Nat,r≤k↔v<2^k):r=wD v:=by
 have h1:=(mF h r.toNat).mpr ((hr r.toNat).mp (by omega));have h2:=(hr (wD v).toNat).mpr ((mF h (wD v).toNat).mp (by have:=xC v;omega));have:=xC v;omega
theorem kL {v:Int}(k:Nat)(h:2^k≤v):wD v=k+wD (v/2^k):=by
 have hp:(0:Int)<2^k:=o2 (by decide);have hq:0≤v/2^k:=j3 (by omega) (by omega);refine(dp (by omega) (by have:=xC (v/2^k);omega) fun j=>?_).symm;by_cases hj:k≤j
 ·have e:(2:Int)^j=2^(j-k)*2^k:=by rw[←b8];congr 1;omega
  have h1:=mF hq (j-k);have h2:v/2^k<2^(j-k)↔v<2^(j-k)*2^k:=dx hp;rw[e,←h2,←h1];constructor<;>intro<;>omega
 ·have h1:=xC (v/2^k);have e:(2:Int)^j≤2^k:=by
   have:=p7 (show 0<2 by decide) (show j≤k by omega);rw[cD,cD];omega
  constructor
  ·intro;omega
  ·intro;omega
theorem A9:∀i:Nat,i<256→gF kH i=wD i:=by decide+kernel
theorem ue:kH.size=256:=by decide+kernel
theorem jL {v:Int}(h:0≤v)(k:Nat)(hk:v<2^k):wD v≤k:=(mF h k).mpr hk
theorem eQ {x o:Int}(h0:0≤x)(h1:x<256)(o0:0≤o)(o1:o≤56):(bif (decide (0≤(gL x)))&&(decide ((gL x)<(kH.size:Int)))then some (aA (o+(aA (gF kH ((gL x).toNat)))))else none)=some (o+wD x):=by
 have t:=A9 x.toNat (by omega);have e:((x.toNat:Nat):Int)=x:=by omega
 rw[e]at t;have hb:=jL h0 8 (by omega);have hn:=xC x;rw[E8 h0 h1,ue];have c:(decide (0≤x)&&decide (x<((256:Nat):Int)))=true:=by simp;omega
 rw[c,t,dA (n:=wD x) (by omega) (by omega),dA (by omega) (by omega)];rfl
theorem eT (N:Nat){x:Int}(h0:0≤x)(h1:x<4294967296):Q0.f N x=some (wD x):=by
 unfold Q0.f;simp only[eC];have e16:(2:Int)^16=65536:=by decide
 have e8:(2:Int)^8=256:=by decide
 simp only[e16,e8];by_cases c1:x≥65536
 ·simp only[c1,decide_true,cond_true];have b1:=kL (v:=x) 16 (by omega);rw[e16]at b1;by_cases c2:x/65536≥256
  ·simp only[c2,decide_true,cond_true];have b2:=kL (v:=x/65536) 8 (by omega);rw[e8]at b2;rw[eQ (by omega) (by omega) (by omega) (by omega),b1,b2];congr 1;omega
  ·simp only[c2,decide_false,cond_false];rw[eQ (by omega) (by omega) (by omega) (by omega),b1];rfl
 ·simp only[c1,decide_false,cond_false];by_cases c2:x≥256
  ·simp only[c2,decide_true,cond_true];have b2:=kL (v:=x) 8 (by omega);rw[e8]at b2;rw[eQ (by omega) (by omega) (by omega) (by omega),b2];rfl
  ·simp only[c2,decide_false,cond_false];rw[eQ (by omega) (by omega) (by omega) (by omega)];simp
theorem B2:(2:Int)≤(4294967296:Int):=by decide
theorem zZ (k:Nat):(4294967296:Int)^k=2^(32*k):=by rw[Int.pow_mul];rfl
theorem vv {l:List Int}(h:qO (4294967296:Int) l)(hne:l≠ []):wD (nv (4294967296:Int) l)=32*((l.length:Int)-1)+wD (l.getD (l.length-1) 0):=by
 have hl:0<l.length:=y7.mpr hne;have h1:=gE (4294967296:Int) l (l.length-1) (by omega);have e:l.length-1+1=l.length:=by omega
 rw[e,cx]at h1;have h2:=zB (show 0<(4294967296:Int) by decide) (h.dig.take (l.length-1));have e3:(l.take (l.length-1)).length=l.length-1:=by rw[j2];omega
 rw[e3]at h2;have h4:=h.lower (by decide) hne;have hp:(0:Int)<(4294967296:Int)^(l.length-1):=o2 (by decide);have hq:nv (4294967296:Int) l/(4294967296:Int)^(l.length-1)=l.getD (l.length-1) 0:=by rw[h1,eo _ _ (by omega),pb h2.1 h2.2];simp
 rw[kL (32*(l.length-1)) (by rw[←zZ];exact h4),←zZ,hq];omega
theorem fG (N:Nat){l:List Int}(h:qO (4294967296:Int) l)(hlen:l.length≤100000000):Q3.f N l=some (wD (nv (4294967296:Int) l)):=by
 unfold Q3.f;by_cases hne:l=[]
 ·subst hne;rfl
 ·have hl:0<l.length:=y7.mpr hne;have c0:((l.length:Int)==0)=false:=by simp;omega
  have e1:aA ((l.length:Int)-1)=(l.length:Int)-1:=dA (by omega) (by omega);have e2:((l.length:Int)-1).toNat=l.length-1:=by omega
  have hd:=h.dig.get (by decide) (l.length-1);have hb:=jL hd.1 32 hd.2;have hn:=xC (l.getD (l.length-1) 0);rw[c0,e1,e2,eT N hd.1 hd.2];have c1:(decide (0≤(l.length:Int)-1)&&decide ((l.length:Int)-1<(l.length:Int)))=true:=by simp;omega
  rw[c1,vv h hne];simp only[cond_true,cond_false,hB];rw[dA (n:=32*((l.length:Int)-1)) (by omega) (by omega),dA (by omega) (by omega)]
def K:Int:=2^4096
theorem pV (N:Nat){l:List Int}(h:qO (4294967296:Int) l)(hlen:l.length≤100000000):Q4.f N l=some (if nv (4294967296:Int) l<K then(l,0)else([],3)):=by
 unfold Q4.f;rw[fG N h hlen];simp only[hB];have:=mF (zB (show 0<(4294967296:Int) by decide) h.dig).1 4096;by_cases hk:nv (4294967296:Int) l<K
 ·have h1:=this.mpr hk;have c:decide (wD (nv (4294967296:Int) l)>4096)=false:=by simp;omega
  rw[c,if_pos hk];rfl
 ·have h1:¬wD (nv (4294967296:Int) l)≤(4096:Nat):=fun h=>hk (this.mp h);have c:decide (wD (nv (4294967296:Int) l)>4096)=true:=by simp;omega
  rw[c,if_neg hk];rfl
theorem eV (N:Nat){R:Type}(l:List Int)(m:Nat)(hm:m≤l.length)(hm2:m≤1000000000)(k:Nat→Nat→Int→List Int→Option R):∀(n i:Nat),i≤m→i<n→Q2.l2 N n 0 m (i:Int) l k=k 0 m (qK l i:Nat) l:=by
 intro n;induction n with
 |zero=>intro i _ h;omega
 |succ n ih=>
  intro i hi hn;rw[Q2.l2];cases i with
  |zero=>rfl
  |succ i=>
   have e1:aA (((i+1:Nat):Int)-1)=(i:Int):=by rw[dA (by omega) (by omega)];omega
   have c0:decide (((i+1:Nat):Int)>0)=true:=decide_eq_true (by omega);have c1:(decide (0≤(i:Int))&&decide ((i:Int)<(m:Int)))=true:=by simp;omega
   rw[e1,c1,c0];simp only[cond_true];have e2:0+(i:Int).toNat=i:=by omega
   rw[e2];unfold qK;by_cases hz:l.getD i 0=0
   ·rw[if_pos hz];have:(l.getD i 0==0)=true:=by simpa using hz
    rw[this];exact ih i (by omega) (by omega)
   ·rw[if_neg hz];have:(l.getD i 0==0)=false:=by simpa using hz
    rw[this];rfl
theorem rp {N:Nat}(hN:1000000001<N)(l:List Int)(m:Nat)(hm:m≤l.length)(hm2:m≤1000000000):Q2.f N 0 m l=some (0,qK l m,l):=by
 unfold Q2.f;rw[eV N l m hm hm2 _ N m (c6 _) (by omega)];have:=j7 l m;have c:((decide (0≤((qK l m:Nat):Int))&&decide (((qK l m:Nat):Int)≤((qK l m:Nat):Int)))&&decide (((qK l m:Nat):Int)≤(m:Int)))=true:=by simp;omega
 rw[c];simp
theorem oL {N:Nat}(hN:1000000001<N)(l:List Int)(hl:l.length≤1000000000):Q2.f N 0 l.length l=some (0,qK l l.length,l)∧(l.drop 0).take (qK l l.length)=dE l:=
 ⟨rp hN l _ (c6 _) hl,by simp[dE]⟩
theorem sI {l:List Int}(h:fD (4294967296:Int) l):dE l=enc (4294967296:Int) (nv (4294967296:Int) l):=jx B2 (dw h) (nq (4294967296:Int) l)
theorem nt {v:Int}(h:0≤v){k:Nat}(hk:v<(4294967296:Int)^k):(enc (4294967296:Int) v).length≤k:=by
 obtain⟨h1,h2⟩:=bD B2 h;by_cases hne:enc (4294967296:Int) v=[]
 ·rw[hne];simp
 ·have h3:=h1.lower (by decide) hne;rw[h2]at h3;rcases mx k (enc (4294967296:Int) v).length with h|h
  ·exfalso;have:(4294967296:Int)^k≤(4294967296:Int)^((enc (4294967296:Int) v).length-1):=by
    rw[zZ,zZ,cD,cD];have:=p7 (show 0<2 by decide) (show 32*k≤32*((enc (4294967296:Int) v).length-1) by omega);omega
   omega
  ·exact h
theorem Ee:K=(4294967296:Int)^128:=by unfold K;rw[zZ]
theorem pD {v:Int}(h:0≤v)(hk:v<K):(enc (4294967296:Int) v).length≤128:=nt h (by rw[←Ee];exact hk)
theorem pQ {N:Nat}(hN:1000000001<N){n:Int}(h0:0≤n)(h1:n<18446744073709551616):Q5.f N n=some (enc (4294967296:Int) n):=by
 unfold Q5.f;have e32:(2:Int)^32=4294967296:=by decide
 rw[eC,e32,bE,bE];have hd:fD (4294967296:Int) [n%4294967296,n/4294967296%4294967296]:=fD.cons (by omega) (by omega) (fD.cons (by omega) (by omega) (fD.nil (4294967296:Int)));obtain⟨c1,c2⟩:=oL hN [n%4294967296,n/4294967296%4294967296] (by simp);have hv:nv (4294967296:Int) [n%4294967296,n/4294967296%4294967296]=n:=by simp only[nv];omega
 have:=sI hd;rw[hv]at this;rw[←this,←c2];have hl:[n%4294967296,n/4294967296%4294967296].length=2:=rfl;rw[hl]at c1⊢;rw[c1];rfl
theorem wg (N:Nat){R:Type}(a c:List Int)(hl:a.length=c.length)(ha:fD (4294967296:Int) a)(hc:fD (4294967296:Int) c)(hs:a.length≤1000000000)(K0:Unit→Option R)(Kr:Int→Option R):∀(n i:Nat),i≤a.length→i<n→
  Q7.l6 N n ((i:Int)-1) a c K0 Kr=if nv (4294967296:Int) (a.take i)=nv (4294967296:Int) (c.take i)then K0 ()else Kr (if nv (4294967296:Int) (a.take i)<nv (4294967296:Int) (c.take i)then-1 else 1):=by
 intro n;induction n with
 |zero=>intro i _ h;omega
 |succ n ih=>
  intro i hi hn;rw[Q7.l6];cases i with
  |zero=>rfl
  |succ i=>
   have e0:((i+1:Nat):Int)-1=(i:Int):=by omega
   have e1:aA ((i:Int)-1)=(i:Int)-1:=dA (by omega) (by omega);rw[e0,e1];have c0:decide ((i:Int)≥0)=true:=decide_eq_true (by omega);have c1:(decide (0≤(i:Int))&&decide ((i:Int)<(a.length:Int)))=true:=by simp;omega
   have c2:(decide (0≤(i:Int))&&decide ((i:Int)<(c.length:Int)))=true:=by simp;omega
   have e2:(i:Int).toNat=i:=by omega
   rw[c1,c2,c0,e2];simp only[cond_true];have ta:=gE (4294967296:Int) a i (by omega);have tc:=gE (4294967296:Int) c i (by omega);have ba:=zB (show 0<(4294967296:Int) by decide) (ha.take i);have bc:=zB (show 0<(4294967296:Int) by decide) (hc.take i);have la:(a.take i).length=i:=by rw[j2];omega
   have lc:(c.take i).length=i:=by rw[j2];omega
   rw[la]at ba;rw[lc]at bc;have hp:(0:Int)<(4294967296:Int)^i:=o2 (by decide);by_cases h1:a.getD i 0<c.getD i 0
   ·simp only[h1,decide_true,cond_true];have:=pC (show a.getD i 0+1≤c.getD i 0 by omega) (aE hp);have e:(4294967296:Int)^i*(a.getD i 0+1)=(4294967296:Int)^i*a.getD i 0+(4294967296:Int)^i:=by grind
    rw[if_neg (by omega),if_pos (by omega)]
   ·simp only[h1,decide_false,cond_false];by_cases h2:a.getD i 0>c.getD i 0
    ·simp only[h2,decide_true,cond_true];have:=pC (show c.getD i 0+1≤a.getD i 0 by omega) (aE hp);have e:(4294967296:Int)^i*(c.getD i 0+1)=(4294967296:Int)^i*c.getD i 0+(4294967296:Int)^i:=by grind
     rw[if_neg (by omega),if_neg (by omega)]
    ·simp only[h2,decide_false,cond_false];have heq:a.getD i 0=c.getD i 0:=by omega
     rw[ih i (by omega) (by omega),ta,tc,heq];generalize(4294967296:Int)^i*c.getD i 0=p;generalize nv (4294967296:Int) (a.take i)=x;generalize nv (4294967296:Int) (c.take i)=y;by_cases h3:x=y
     ·rw[if_pos h3,if_pos (by rw[h3])]
     ·have n1:¬(x+p=y+p):=by omega
      rw[if_neg h3,if_neg n1];by_cases h4:x<y
      ·have n2:x+p<y+p:=by omega
       rw[if_pos h4,if_pos n2]
      ·have n2:¬x+p<y+p:=by omega
       rw[if_neg h4,if_neg n2]
def uu (u v:Int):Int:=if u=v then 0 else if u<v then-1 else 1
theorem kJ {a c:List Int}(ha:qO (4294967296:Int) a)(hc:qO (4294967296:Int) c)(h:a.length<c.length):nv (4294967296:Int) a<nv (4294967296:Int) c:=by
 have hne:c≠ []:=by intro e;subst e;simp at h
 have h1:=hc.lower (by decide) hne;have h2:=(zB (show 0<(4294967296:Int) by decide) ha.dig).2;have:(4294967296:Int)^a.length≤(4294967296:Int)^(c.length-1):=by rw[zZ,zZ,cD,cD];have:=p7 (show 0<2 by decide) (show 32*a.length≤32*(c.length-1) by omega);omega
 omega
theorem rk {N:Nat}(hN:1000000001<N){a c:List Int}(ha:qO (4294967296:Int) a)(hc:qO (4294967296:Int) c)(hs:a.length≤1000000000):Q7.f N a c=some (uu (nv (4294967296:Int) a) (nv (4294967296:Int) c)):=by
 unfold Q7.f uu;by_cases hl:a.length=c.length
 ·have c0:((a.length:Int) != (c.length:Int))=false:=by simp;omega
  have e1:aA ((a.length:Int)-1)=(a.length:Int)-1:=dA (by omega) (by omega);rw[c0,e1];simp only[cond_false];rw[wg N a c hl ha.dig hc.dig hs _ _ N a.length (c6 _) (by omega),cx,hl,cx];split
  ·rfl
  ·rfl
 ·have c0:((a.length:Int) != (c.length:Int))=true:=by simp;omega
  rw[c0];simp only[cond_true];rcases Nat.lt_or_gt_of_ne hl with h|h
  ·have:=kJ ha hc h;have c1:decide ((a.length:Int)<(c.length:Int))=true:=decide_eq_true (by omega);rw[c1,if_neg (by omega),if_pos this];rfl
  ·have:=kJ hc ha h;have c1:decide ((a.length:Int)<(c.length:Int))=false:=decide_eq_false (by omega);rw[c1,if_neg (by omega),if_neg (by omega)];rfl
theorem u6 {N:Nat}(hN:1000000001<N){u v:Int}(hu:0≤u)(hk:u<K)(hv:0≤v):Q7.f N (enc (4294967296:Int) u) (enc (4294967296:Int) v)=some (uu u v):=by
 obtain⟨h1,h2⟩:=bD B2 hu;obtain⟨h3,h4⟩:=bD B2 hv;rw[rk hN h1 h3 (by have:=pD hu hk;omega),h2,h4]
theorem iP (s:Int):s%(4294967296:Int)+(4294967296:Int)*(s/(4294967296:Int))=s:=by
 have:=cP s (4294967296:Int);omega
theorem vf (N:Nat){R:Type}(b:List Int)(hb:fD (4294967296:Int) b)(K0:List Int→Option R):∀(n i:Nat) (c:Int) (out:List Int),fD (4294967296:Int) out→b.length<out.length→out.length≤1000000000→i≤out.length→out.length-i<n→0≤c→c≤1→
  nv (4294967296:Int) out+(4294967296:Int)^i*c+(4294967296:Int)^i*nv (4294967296:Int) (b.drop i)<(4294967296:Int)^out.length→
  ∃r,fD (4294967296:Int) r∧r.length=out.length∧nv (4294967296:Int) r=nv (4294967296:Int) out+(4294967296:Int)^i*c+(4294967296:Int)^i*nv (4294967296:Int) (b.drop i)∧Q8.l7 N n c (out.length:Int) (i:Int) b out K0=K0 r:=by
 intro n;induction n with
 |zero=>intro i c out _ _ _ _ h;omega
 |succ n ih=>
  intro i c out ho hlb hlo hi hn c0 c1 hlt;rw[Q8.l7];by_cases hil:i<out.length
  ·have e0:decide ((i:Int)<(out.length:Int))=true:=decide_eq_true (by omega);have e1:(decide (0≤(i:Int))&&decide ((i:Int)<(out.length:Int)))=true:=by simp;omega
   have e2:(i:Int).toNat=i:=by omega
   have e3:aA ((i:Int)+1)=((i+1:Nat):Int):=by rw[dA (by omega) (by omega)];omega
   have hd:=ho.get (by decide) i;have p32:(2:Int)^32=(4294967296:Int):=by decide
   have hp:(0:Int)<(4294967296:Int)^i:=o2 (by decide);have go:∀s y:Int,s=c+out.getD i 0+y→0≤y→y<(4294967296:Int)→nv (4294967296:Int) (b.drop i)=y+(4294967296:Int)*nv (4294967296:Int) (b.drop (i+1))→(out.set i (s%(4294967296:Int))).length=out.length∧fD (4294967296:Int) (out.set i (s%(4294967296:Int)))∧0≤s/(4294967296:Int)∧s/(4294967296:Int)≤1∧
     nv (4294967296:Int) (out.set i (s%(4294967296:Int)))+(4294967296:Int)^(i+1)*(s/(4294967296:Int))+(4294967296:Int)^(i+1)*nv (4294967296:Int) (b.drop (i+1))=nv (4294967296:Int) out+(4294967296:Int)^i*c+(4294967296:Int)^i*nv (4294967296:Int) (b.drop i):=by
    intro s y hs y0 y1 hdr;refine⟨by simp,ho.set i (by omega) (by omega),by omega,by omega,?_⟩;rw[jK (4294967296:Int) _ out i hil,hdr,j0];have:=iP s;generalize s%(4294967296:Int)=m at*;generalize s/(4294967296:Int)=q at*;have e:m=s- (4294967296:Int)*q:=by omega
    subst e;subst hs;grind
   rw[e1,e0,e2,e3];simp only[cond_true];by_cases hib:i<b.length
   ·have f0:decide ((i:Int)<(b.length:Int))=true:=decide_eq_true (by omega);have f1:(decide (0≤(i:Int))&&decide ((i:Int)<(b.length:Int)))=true:=by simp;omega
    have hbd:=hb.get (by decide) i;rw[f1,f0];simp only[cond_true];obtain⟨g1,g2,g3,g4,g5⟩:=go (c+out.getD i 0+b.getD i 0) (b.getD i 0) rfl hbd.1 hbd.2 (yE (4294967296:Int) b i hib);rw[pA (n:=out.getD i 0) (by omega) (by omega),pA (n:=c+out.getD i 0) (by omega) (by omega),pA (n:=b.getD i 0) (by omega) (by omega),pA (n:=c+out.getD i 0+b.getD i 0) (by omega) (by omega),eC,p32,bE];obtain⟨r,r1,r2,r3,r4⟩:=ih (i+1) _ _ g2 (by omega) (by omega) (by omega) (by omega) g3 g4 (by rw[g5,g1];exact hlt);refine⟨r,r1,by omega,by rw[r3,g5],?_⟩;rw[g1]at r4;exact r4
   ·have f0:decide ((i:Int)<(b.length:Int))=false:=decide_eq_false (by omega);rw[f0];simp only[cond_false];have hz:b.drop i=[]:=hT.mpr (by omega);have hz2:b.drop (i+1)=[]:=hT.mpr (by omega);obtain⟨g1,g2,g3,g4,g5⟩:=go (c+out.getD i 0) 0 (by omega) (by omega) (by decide) (by rw[hz,hz2];simp[nv]);rw[pA (n:=out.getD i 0) (by omega) (by omega),pA (n:=c+out.getD i 0) (by omega) (by omega),eC,p32,bE];obtain⟨r,r1,r2,r3,r4⟩:=ih (i+1) _ _ g2 (by omega) (by omega) (by omega) (by omega) g3 g4 (by rw[g5,g1];exact hlt);refine⟨r,r1,by omega,by rw[r3,g5],?_⟩;rw[g1]at r4;exact r4
  ·have e0:decide ((i:Int)<(out.length:Int))=false:=decide_eq_false (by omega);have hie:i=out.length:=by omega
   have hz:b.drop i=[]:=hT.mpr (by omega);rw[e0];refine⟨out,ho,rfl,?_,rfl⟩;rw[hz,hie]at hlt⊢;have:=(zB (show 0<(4294967296:Int) by decide) ho).1;have hc:c=0:=by
    rcases hI 0 c with h|h
    ·have:c=1:=by omega
     subst this;simp only[nv]at hlt;omega
    ·omega
   subst hc;simp[nv]
theorem nX (a:List Int)(m:Nat)(h:a.length≤m):uE (List.replicate m (0:Int)) 0 (a.take (min a.length (List.replicate m (0:Int)).length))=a++List.replicate (m-a.length) 0:=by
 unfold uE;have e:min a.length (List.replicate m (0:Int)).length=a.length:=by simp;omega
 rw[e,cx];simp
theorem Dk (b:Int)(a:List Int)(k:Nat):nv b (a++List.replicate k 0)=nv b a:=by rw[iS,pF];simp
theorem ia {i j:Nat}(h:i≤j):(4294967296:Int)^i≤(4294967296:Int)^j:=by
 rw[zZ,zZ,cD,cD];have:=p7 (show 0<2 by decide) (show 32*i≤32*j by omega);omega
noncomputable def out (v:Int):List Int×Int:=if v<K then(enc (4294967296:Int) v,0)else([],3)
theorem xb {N:Nat}(hN:1000000001<N){l:List Int}(h:fD (4294967296:Int) l)(hl:l.length≤100000000):((Q2.f N 0 l.length l).bind fun r=>(Q4.f N ((r.2.2.drop r.1).take r.2.1)).bind fun r2=>some (r2.1,r2.2))=some (out (nv (4294967296:Int) l)):=by
 obtain⟨c1,c2⟩:=oL hN l (by omega);rw[c1];simp only[hB,c2];have hc:=dw h;have:=wk l;rw[pV N hc (by omega),nq,sI h];unfold out;split<;>rfl
theorem lz {n:Nat}(h:n≤1000000000):zA n 4=true:=by unfold zA;exact decide_eq_true (by omega)
theorem p9 {m:Int}(h0:0≤m)(h1:m≤1000000000):(decide (m=m)&&decide (0≤m)&&decide (m≤9223372036854775807)&&zA m.toNat 4)=true:=by
 rw[lz (by omega)];simp;omega
theorem ga {m:Int}(h0:0≤m)(h1:m≤1000000000):(decide True&&decide (0≤m)&&decide (m≤9223372036854775807)&&zA m.toNat 4)=true:=by
 rw[lz (by omega)];simp;omega
theorem dg {N:Nat}(hN:1000000001<N){a b:List Int}(ha:fD (4294967296:Int) a)(hb:fD (4294967296:Int) b)(h:b.length≤a.length)(hs:a.length≤90000000):
  (bif decide (aA ((a.length:Int)+1)=aA ((a.length:Int)+1))&&decide (0≤aA ((a.length:Int)+1))&&decide (aA ((a.length:Int)+1)≤9223372036854775807)&&zA ((aA ((a.length:Int)+1)).toNat) 4 then
  Q8.l7 N N 0 ((uE (List.replicate ((aA ((a.length:Int)+1)).toNat) (0:Int)) 0 (a.take (min a.length ((List.replicate ((aA ((a.length:Int)+1)).toNat) (0:Int)).length)))).length:Int) 0 b (uE (List.replicate ((aA ((a.length:Int)+1)).toNat) (0:Int)) 0 (a.take (min a.length ((List.replicate ((aA ((a.length:Int)+1)).toNat) (0:Int)).length))))
   (fun y12=>
    (Q2.f N 0 y12.length y12).bind fun r13=>
    (Q4.f N ((r13.2.2.drop r13.1).take r13.2.1)).bind fun r14=>
    some (r14.1,r14.2))
 else none)=some (out (nv (4294967296:Int) a+nv (4294967296:Int) b)):=by
 have w:aA ((a.length:Int)+1)=(a.length:Int)+1:=dA (by omega) (by omega);have wt:((a.length:Int)+1).toNat=a.length+1:=by omega
 rw[w,p9 (by omega) (by omega),wt,nX a _ (by omega)];simp only[cond_true];have e1:a.length+1-a.length=1:=by omega
 rw[e1];have hd:fD (4294967296:Int) (a++List.replicate 1 0):=ha.append (fD.replicate (by decide) 1);have hl:(a++List.replicate 1 (0:Int)).length=a.length+1:=by simp
 have hv:=Dk (4294967296:Int) a 1;have ba:=zB (show 0<(4294967296:Int) by decide) ha;have bb:=zB (show 0<(4294967296:Int) by decide) hb;have hm:=ia h;have hpow:(4294967296:Int)^(a.length+1)=(4294967296:Int)*(4294967296:Int)^a.length:=by rw[j0];grind
 have hpos:(0:Int)<(4294967296:Int)^a.length:=o2 (by decide);obtain⟨r,r1,r2,r3,r4⟩:=vf N b hb (fun y12=>(Q2.f N 0 y12.length y12).bind fun r13=>(Q4.f N ((r13.2.2.drop r13.1).take r13.2.1)).bind fun r14=>some (r14.1,r14.2)) N 0 0 (a++List.replicate 1 0) hd (by omega) (by omega) (by omega) (by omega) (by omega) (by omega) (by rw[hl,hpow,hv];simp;omega);have e0:((0:Nat):Int)=0:=rfl;rw[e0]at r4;rw[r4,xb hN r1 (by omega),r3,hv];simp
theorem qz {N:Nat}(hN:1000000001<N){a b:List Int}(ha:fD (4294967296:Int) a)(hb:fD (4294967296:Int) b)(hs:a.length≤90000000)(hs':b.length≤90000000):Q8.f N a b=some (out (nv (4294967296:Int) a+nv (4294967296:Int) b)):=by
 unfold Q8.f;by_cases h:a.length<b.length
 ·have c:decide ((a.length:Int)<(b.length:Int))=true:=decide_eq_true (by omega);rw[c];have:=dg hN hb ha (by omega) hs';rw[Int.add_comm (nv (4294967296:Int) a)];exact this
 ·have c:decide ((a.length:Int)<(b.length:Int))=false:=decide_eq_false (by omega);rw[c];exact dg hN ha hb (by omega) hs
theorem As {N:Nat}(hN:1000000001<N){u v:Int}(hu:0≤u)(hk:u<K)(hv:0≤v)(hk':v<K):Q8.f N (enc (4294967296:Int) u) (enc (4294967296:Int) v)=some (out (u+v)):=by
 obtain⟨h1,h2⟩:=bD B2 hu;obtain⟨h3,h4⟩:=bD B2 hv;have:=pD hu hk;have:=pD hv hk';rw[qz hN h1.dig h3.dig (by omega) (by omega),h2,h4]
theorem cS {x:Int}(h0:0≤x)(h1:x<4294967296):(BitVec.ofInt 32 x).msb=decide (2147483648≤x):=by
 rw[px];have:(BitVec.ofInt 32 x).toNat=x.toNat:=by
  rw[h9];have:x%((2^32:Nat):Int)=x:=by omega
  rw[this]
 rw[this];have e:2^(32-1)=2147483648:=by decide
 rw[e];by_cases h:2147483648≤x
 ·simp[h];omega
 ·simp[h];omega
theorem cR (x:BitVec 32):IntKind.wrap .u32 x.toNat=(x.toNat:Int):=by
 have hx:=x.isLt;simp only[IntKind.wrap];simp[IntKind.bits,IntKind.signed];omega
theorem oQ (x:BitVec 32):BitVec.ofInt 32 (IntKind.wrap .u32 x.toNat)=x:=by
 have hx:=x.isLt;rw[cR];apply BitVec.eq_of_toNat_eq;rw[h9];omega
theorem kT (a b:Int):BitVec.ofInt 32 (iB .u32 a b)=BitVec.ofInt 32 a&&& BitVec.ofInt 32 b:=oQ (BitVec.ofInt 32 a&&& BitVec.ofInt 32 b)
theorem gN (a b:Int):BitVec.ofInt 32 (fU .u32 a b)=BitVec.ofInt 32 a^^^BitVec.ofInt 32 b:=oQ (BitVec.ofInt 32 a^^^BitVec.ofInt 32 b)
theorem Bx (x:BitVec 32):Int.fdiv (IntKind.wrap .u32 x.toNat) (2^31)=if x.msb then 1 else 0:=by
 rw[cR,eC,px];have hx:=x.isLt;have e:(2:Int)^31=2147483648:=by decide
 have e2:2^(32-1)=2147483648:=by decide
 rw[e,e2];by_cases h:2147483648≤x.toNat
 ·simp[h];omega
 ·simp[h];omega
theorem xJ (N:Nat){a b c:Int}(a0:0≤a)(a1:a<(4294967296:Int))(b0:0≤b)(b1:b<(4294967296:Int))(c0:0≤c)(c1:c≤1):Q1.f N a b c=some ((a-b-c)%(4294967296:Int),if a<b+c then 1 else 0):=by
 unfold Q1.f;have hd:rE (rE (a-b)-c)=(a-b-c)%(4294967296:Int):=by rw[bE,bE];omega
 rw[hd];have d0:0≤(a-b-c)%(4294967296:Int):=by omega
 have d1:(a-b-c)%(4294967296:Int)<(4294967296:Int):=by omega
 generalize hdd:(a-b-c)%(4294967296:Int)=d at*;congr 2;have hfull:BitVec.ofInt 32 4294967295=BitVec.allOnes 32:=by decide
 have e:∀x y:Int,oD .u32 x y=IntKind.wrap .u32 ((BitVec.ofInt 32 x|||BitVec.ofInt 32 y).toNat:Int):=fun _ _=>rfl;rw[e,Bx,kT,kT,gN,gN,gN,hfull];simp only[BitVec.msb_or,BitVec.msb_and,BitVec.msb_xor,cS a0 a1,cS b0 b1,cS d0 d1];have hones:(BitVec.allOnes 32).msb=true:=by decide
 rw[hones];by_cases ha:2147483648≤a<;>by_cases hb:2147483648≤b<;>by_cases hd:2147483648≤d<;>simp[ha,hb,hd]<;>omega
theorem sk (N:Nat){R:Type}(b:List Int)(hb:fD (4294967296:Int) b)(K0:List Int→Option R):∀(n i:Nat) (c:Int) (out:List Int),fD (4294967296:Int) out→b.length≤out.length→out.length≤1000000000→i≤out.length→out.length-i<n→0≤c→c≤1→
  0≤nv (4294967296:Int) out- (4294967296:Int)^i*c- (4294967296:Int)^i*nv (4294967296:Int) (b.drop i)→
  ∃r,fD (4294967296:Int) r∧r.length=out.length∧nv (4294967296:Int) r=nv (4294967296:Int) out- (4294967296:Int)^i*c- (4294967296:Int)^i*nv (4294967296:Int) (b.drop i)∧Q9.l2 N n 0 out.length b c (out.length:Int) (i:Int) out K0=K0 r:=by
 intro n;induction n with
 |zero=>intro i c out _ _ _ _ h;omega
 |succ n ih=>
  intro i c out ho hlb hlo hi hn c0 c1 hlt;rw[Q9.l2];by_cases hil:i<out.length
  ·have e0:decide ((i:Int)<(out.length:Int))=true:=decide_eq_true (by omega);have e1:(decide (0≤(i:Int))&&decide ((i:Int)<(out.length:Int)))=true:=by simp;omega
   have e2:(i:Int).toNat=i:=by omega
   have e3:aA ((i:Int)+1)=((i+1:Nat):Int):=by rw[dA (by omega) (by omega)];omega
   have hd:=ho.get (by decide) i;have go:∀y:Int,0≤y→y<(4294967296:Int)→nv (4294967296:Int) (b.drop i)=y+(4294967296:Int)*nv (4294967296:Int) (b.drop (i+1))→(out.set i ((out.getD i 0-y-c)%(4294967296:Int))).length=out.length∧fD (4294967296:Int) (out.set i ((out.getD i 0-y-c)%(4294967296:Int)))∧
     nv (4294967296:Int) (out.set i ((out.getD i 0-y-c)%(4294967296:Int)))- (4294967296:Int)^(i+1)*(if out.getD i 0<y+c then 1 else 0)- (4294967296:Int)^(i+1)*nv (4294967296:Int) (b.drop (i+1))=nv (4294967296:Int) out- (4294967296:Int)^i*c- (4294967296:Int)^i*nv (4294967296:Int) (b.drop i):=by
    intro y y0 y1 hdr;refine⟨by simp,ho.set i (by omega) (by omega),?_⟩;rw[jK (4294967296:Int) _ out i hil,hdr,j0];have:(out.getD i 0-y-c)%(4294967296:Int)=out.getD i 0-y-c+(4294967296:Int)*(if out.getD i 0<y+c then 1 else 0):=by split<;>omega
    rw[this];generalize(if out.getD i 0<y+c then(1:Int)else 0)=q;grind
   rw[e1,e0,e2,e3];simp only[cond_true,Nat.zero_add];have hq:∀y:Int,(0:Int)≤(if out.getD i 0<y+c then 1 else 0)∧(if out.getD i 0<y+c then 1 else 0:Int)≤1:=fun y=>by split<;>omega
   by_cases hib:i<b.length
   ·have f0:decide ((i:Int)<(b.length:Int))=true:=decide_eq_true (by omega);have f1:(decide (0≤(i:Int))&&decide ((i:Int)<(b.length:Int)))=true:=by simp;omega
    have hbd:=hb.get (by decide) i;rw[f1,f0,xJ N hd.1 hd.2 hbd.1 hbd.2 c0 c1];simp only[cond_true,hB];obtain⟨g1,g2,g5⟩:=go (b.getD i 0) hbd.1 hbd.2 (yE (4294967296:Int) b i hib);obtain⟨r,r1,r2,r3,r4⟩:=ih (i+1) _ _ g2 (by omega) (by omega) (by omega) (by omega) (hq _).1 (hq _).2 (by rw[g5];exact hlt);refine⟨r,r1,by omega,by rw[r3,g5],?_⟩;rw[g1]at r4;exact r4
   ·have f0:decide ((i:Int)<(b.length:Int))=false:=decide_eq_false (by omega);rw[f0];simp only[cond_false];have hz:b.drop i=[]:=hT.mpr (by omega);have hz2:b.drop (i+1)=[]:=hT.mpr (by omega);by_cases hc:c=0
    ·subst hc;refine⟨out,ho,rfl,?_,rfl⟩;rw[hz];simp[nv]
    ·have hc1:(c==0)=false:=by simpa using hc
     rw[hc1,xJ N hd.1 hd.2 (by omega) (by decide) c0 c1];simp only[cond_false,hB];obtain⟨g1,g2,g5⟩:=go 0 (by omega) (by decide) (by rw[hz,hz2];simp[nv]);obtain⟨r,r1,r2,r3,r4⟩:=ih (i+1) _ _ g2 (by omega) (by omega) (by omega) (by omega) (hq 0).1 (hq 0).2 (by rw[g5];exact hlt);refine⟨r,r1,by omega,by rw[r3,g5],?_⟩;rw[g1]at r4;exact r4
  ·have e0:decide ((i:Int)<(out.length:Int))=false:=decide_eq_false (by omega);have hie:i=out.length:=by omega
   have hz:b.drop i=[]:=hT.mpr (by omega);rw[e0];refine⟨out,ho,rfl,?_,rfl⟩;rw[hz,hie]at hlt⊢;have:=(zB (show 0<(4294967296:Int) by decide) ho).2;have hc:c=0:=by
    rcases hI 0 c with h|h
    ·have:c=1:=by omega
     subst this;simp only[nv]at hlt;omega
    ·omega
   subst hc;simp[nv]
theorem ix (a:List Int):uE (List.replicate ((a.length:Int).toNat) (0:Int)) 0 (a.take (min a.length ((List.replicate ((a.length:Int).toNat) (0:Int)).length)))=a:=by
 have e:(a.length:Int).toNat=a.length:=by omega
 rw[e,nX a _ (c6 _)];simp
theorem bl {N:Nat}(hN:1000000001<N){u v:Int}(hu:0≤u)(hk:u<K)(hv:0≤v):Q10.f N (enc (4294967296:Int) u) (enc (4294967296:Int) v)=some (if u<v then([],10)else(enc (4294967296:Int) (u-v),0)):=by
 obtain⟨h1,h2⟩:=bD B2 hu;obtain⟨h3,h4⟩:=bD B2 hv;have hl:=pD hu hk;unfold Q10.f;rw[u6 hN hu hk hv];simp only[hB];have hc:decide (uu u v<0)=decide (u<v):=by
  unfold uu;by_cases h1:u=v
  ·subst h1;simp
  ·by_cases h2:u<v<;>simp[h1,h2]
 rw[hc];by_cases h:u<v
 ·simp only[h,decide_true,if_true,cond_true]
 ·rw[if_neg h,ga (by omega) (by omega),ix];simp only[h,decide_false,cond_true,cond_false];have hle:(enc (4294967296:Int) v).length≤(enc (4294967296:Int) u).length:=by
   rcases mx (enc (4294967296:Int) u).length (enc (4294967296:Int) v).length with hq|hq
   ·have:=kJ h1 h3 hq;omega
   ·exact hq
  obtain⟨r,r1,r2,r3,r4⟩:=sk N (enc (4294967296:Int) v) h3.dig (fun y=>some y) N 0 0 (enc (4294967296:Int) u) h1.dig hle (by omega) (by omega) (by omega) (by omega) (by omega) (by simp[h2,h4];omega);have e0:((0:Nat):Int)=0:=rfl;rw[e0]at r4;unfold Q9.f;rw[r4];simp only[hB];obtain⟨c1,c2⟩:=oL hN r (by omega);rw[c1];simp only[hB,c2];rw[sI r1,r3,h2,il,h4];simp
theorem sx (N:Nat){R:Type}(i:Nat)(x:Int)(x0:0≤x)(x1:x<(4294967296:Int))(p q:Int)(P:List Int)(b:List Int)(hb:fD (4294967296:Int) b)(hbl:b.length≤100000000)(hi:i≤100000000)(K0:Int→Int→List Int→Int→Int→List Int→List Int→Option R):∀(n j:Nat) (c:Int) (out:List Int),fD (4294967296:Int) out→i+b.length<out.length→out.length≤1000000000→j≤b.length→b.length-j<n→0≤c→c<(4294967296:Int)→
  ∃r c',fD (4294967296:Int) r∧0≤c'∧c'<(4294967296:Int)∧r.length=out.length∧nv (4294967296:Int) r+(4294967296:Int)^(i+b.length)*c'=nv (4294967296:Int) out+(4294967296:Int)^(i+j)*c+(4294967296:Int)^(i+j)*x*nv (4294967296:Int) (b.drop j)∧(∀k,i+b.length≤k→r.getD k 0=out.getD k 0)∧
   Q11.l7 N n (i:Int) x c P p q b (b.length:Int) (j:Int) b out K0=K0 (i:Int) c' P p q b r:=by
 intro n;induction n with
 |zero=>intro j c out _ _ _ _ h;omega
 |succ n ih=>
  intro j c out ho hlb hlo hj hn c0 c1;rw[Q11.l7];by_cases hjl:j<b.length
  ·have e0:decide ((j:Int)<(b.length:Int))=true:=decide_eq_true (by omega);have e1:(decide (0≤(j:Int))&&decide ((j:Int)<(b.length:Int)))=true:=by simp;omega
   have e2:(j:Int).toNat=j:=by omega
   have e3:aA ((j:Int)+1)=((j+1:Nat):Int):=by rw[dA (by omega) (by omega)];omega
   have e4:aA ((i:Int)+(j:Int))=((i+j:Nat):Int):=by rw[dA (by omega) (by omega)];omega
   have e5:(((i+j:Nat):Int)).toNat=i+j:=by omega
   have e6:(decide (0≤((i+j:Nat):Int))&&decide (((i+j:Nat):Int)<(out.length:Int)))=true:=by simp;omega
   have hd:=ho.get (by decide) (i+j);have hbd:=hb.get (by decide) j;rw[e1,e0,e2,e3,e4,e5,e6];simp only[cond_true];have m0:=zE x0 hbd.1;have m1:x*b.getD j 0≤((4294967296:Int)-1)*((4294967296:Int)-1):=by have h1:=pC (show b.getD j 0≤(4294967296:Int)-1 by omega) x0;have h2:=hE (show x≤(4294967296:Int)-1 by omega) (show(0:Int)≤(4294967296:Int)-1 by decide);omega
   have m2:((4294967296:Int)-1)*((4294967296:Int)-1)=18446744065119617025:=by decide
   have p32:(2:Int)^32=(4294967296:Int):=by decide
   rw[pA (n:=x) (by omega) (by omega),pA (n:=b.getD j 0) (by omega) (by omega),pA (n:=x*b.getD j 0) (by omega) (by omega),pA (n:=out.getD (i+j) 0) (by omega) (by omega),pA (n:=x*b.getD j 0+out.getD (i+j) 0) (by omega) (by omega),pA (n:=c+(x*b.getD j 0+out.getD (i+j) 0)) (by omega) (by omega),eC,p32,bE];generalize hs:c+(x*b.getD j 0+out.getD (i+j) 0)=s;have hsd:=iP s;obtain⟨r,c',r1,r2,r3,r4,r5,r6,r7⟩:=ih (j+1) (s/(4294967296:Int)) (out.set (i+j) (s%(4294967296:Int))) (ho.set _ (by omega) (by omega)) (by simpa using hlb) (by simpa using hlo) (by omega) (by omega) (by omega) (by omega);refine⟨r,c',r1,r2,r3,by simpa using r4,?_,fun k hk=>?_,r7⟩
   ·rw[r5,jK (4294967296:Int) _ out (i+j) (by omega),yE (4294967296:Int) b j hjl];have e:i+(j+1)=i+j+1:=by omega
    rw[e,j0];generalize s%(4294967296:Int)=m at*;generalize s/(4294967296:Int)=z at*;have em:m=s- (4294967296:Int)*z:=by omega
    subst em;subst hs;grind
   ·rw[r6 k hk];simp only[hV,dk];rw[if_neg (by omega)]
  ·have e0:decide ((j:Int)<(b.length:Int))=false:=decide_eq_false (by omega);have hje:j=b.length:=by omega
   rw[e0];have hz:b.drop j=[]:=hT.mpr (by omega);refine⟨out,c,ho,c0,c1,rfl,?_,fun _ _=>rfl,rfl⟩;rw[hz,hje];simp[nv]
theorem tb {N:Nat}(hN:1000000001<N){R:Type}(a b:List Int)(ha:fD (4294967296:Int) a)(hb:fD (4294967296:Int) b)(hal:a.length≤10000000)(hbl:b.length≤10000000)(K0:List Int→Option R):∀(n i:Nat) (out:List Int),fD (4294967296:Int) out→out.length=a.length+b.length→i≤a.length→a.length-i<n→(∀k,i+b.length≤k→out.getD k 0=0)→
  ∃r,fD (4294967296:Int) r∧r.length=out.length∧nv (4294967296:Int) r=nv (4294967296:Int) out+(4294967296:Int)^i*nv (4294967296:Int) (a.drop i)*nv (4294967296:Int) b∧Q11.l3 N n a (a.length:Int) (i:Int) b out K0=K0 r:=by
 intro n;induction n with
 |zero=>intro i out _ _ _ h;omega
 |succ n ih=>
  intro i out ho hlo hi hn hz;rw[Q11.l3];by_cases hil:i<a.length
  ·have e0:decide ((i:Int)<(a.length:Int))=true:=decide_eq_true (by omega);have e1:(decide (0≤(i:Int))&&decide ((i:Int)<(a.length:Int)))=true:=by simp;omega
   have e2:(i:Int).toNat=i:=by omega
   have e3:aA ((i:Int)+1)=((i+1:Nat):Int):=by rw[dA (by omega) (by omega)];omega
   have hd:=ha.get (by decide) i;rw[e1,e0,e2];simp only[cond_true];obtain⟨r,c',r1,r2,r3,r4,r5,r6,r7⟩:=sx N i (a.getD i 0) hd.1 hd.2 (a.length:Int) (i:Int) a b hb (by omega) (by omega) (fun y26 y27 y28 y29 y30 y31 y32=>
      bif (decide (0≤(aA (y26+(y31.length:Int)))))&&(decide ((aA (y26+(y31.length:Int)))<(y32.length:Int)))then
       Q11.l3 N n y28 y29 (aA (y30+1)) y31 (y32.set ((aA (y26+(y31.length:Int))).toNat) (rE y27)) K0
      else none) N 0 0 out ho (by omega) (by omega) (by omega) (by omega) (by omega) (by decide)
   have ez:((0:Nat):Int)=0:=rfl;rw[ez]at r7;rw[r7];have e4:aA ((i:Int)+(b.length:Int))=((i+b.length:Nat):Int):=by rw[dA (by omega) (by omega)];omega
   have e5:(((i+b.length:Nat):Int)).toNat=i+b.length:=by omega
   have e6:(decide (0≤((i+b.length:Nat):Int))&&decide (((i+b.length:Nat):Int)<(r.length:Int)))=true:=by simp;omega
   rw[e4,e5,e6,e3,dR r2 r3];simp only[cond_true];obtain⟨t,t1,t2,t3,t4⟩:=ih (i+1) (r.set (i+b.length) c') (r1.set _ r2 r3) (by simpa using r4.trans hlo) (by omega) (by omega) (fun k hk=>by simp only[hV,dk];rw[if_neg (by omega),←hV,r6 k (by omega)];exact hz k (by omega));refine⟨t,t1,by rw[t2];simpa using r4,?_,t4⟩;rw[t3,jK (4294967296:Int) _ r _ (by omega),r6 _ (c6 _),hz _ (c6 _),yE (4294967296:Int) a i hil,j0];have:nv (4294967296:Int) r=nv (4294967296:Int) out+(4294967296:Int)^i*a.getD i 0*nv (4294967296:Int) b- (4294967296:Int)^(i+b.length)*c':=by simp only[Nat.add_zero,il,r8,l8]at r5;omega
   rw[this];grind
  ·have e0:decide ((i:Int)<(a.length:Int))=false:=decide_eq_false (by omega);rw[e0];have hze:a.drop i=[]:=hT.mpr (by omega);refine⟨out,ho,rfl,?_,rfl⟩;rw[hze];simp[nv]
theorem eY {N:Nat}(hN:1000000001<N){a b:List Int}(ha:fD (4294967296:Int) a)(hb:fD (4294967296:Int) b)(hal:a.length≤10000000)(hbl:b.length≤10000000):Q11.f N a b=some (enc (4294967296:Int) (nv (4294967296:Int) a*nv (4294967296:Int) b)):=by
 unfold Q11.f;have w:aA ((a.length:Int)+(b.length:Int))=(a.length:Int)+(b.length:Int):=dA (by omega) (by omega);have wt:((a.length:Int)+(b.length:Int)).toNat=a.length+b.length:=by omega
 rw[w,p9 (by omega) (by omega),wt];simp only[cond_true];have hz:∀k,(List.replicate (a.length+b.length) (0:Int)).getD k 0=0:=fun k=>by rw[hV,nw];split<;>rfl
 obtain⟨r,r1,r2,r3,r4⟩:=tb hN a b ha hb hal hbl (fun y34=>(Q2.f N 0 y34.length y34).bind fun r35=>some ((r35.2.2.drop r35.1).take r35.2.1)) N 0 (List.replicate (a.length+b.length) 0) (fD.replicate (by decide) _) (by simp) (by omega) (by omega) (fun k _=>hz k);have ez:((0:Nat):Int)=0:=rfl;rw[ez]at r4;rw[r4];have hl:r.length=a.length+b.length:=by simpa using r2
 obtain⟨c1,c2⟩:=oL hN r (by omega);rw[c1];simp only[hB,c2];rw[sI r1,r3,pF];simp
theorem Bg {N:Nat}(hN:1000000001<N){u v:Int}(hu:0≤u)(hk:u<K)(hv:0≤v)(hk':v<K):Q12.f N (enc (4294967296:Int) u) (enc (4294967296:Int) v)=some (out (u*v)):=by
 obtain⟨h1,h2⟩:=bD B2 hu;obtain⟨h3,h4⟩:=bD B2 hv;have l1:=pD hu hk;have l2:=pD hv hk';unfold Q12.f;rw[fG N h1 (by omega),fG N h3 (by omega),h2,h4];simp only[hB];have b1:=xC u;have b2:=xC v;have b3:=jL hu 4096 hk;have b4:=jL hv 4096 hk';rw[dA (n:=wD u+wD v) (by omega) (by omega)];by_cases hb:wD u+wD v>4097
 ·simp only[hb,decide_true,cond_true];have hu1:(2:Int)^((wD u).toNat-1)≤u:=by
   rcases hI u (2^((wD u).toNat-1))with h|h
   ·have:=(mF hu ((wD u).toNat-1)).mpr h;omega
   ·exact h
  have hv1:(2:Int)^((wD v).toNat-1)≤v:=by
   rcases hI v (2^((wD v).toNat-1))with h|h
   ·have:=(mF hv ((wD v).toNat-1)).mpr h;omega
   ·exact h
  have hp1:(0:Int)<2^((wD u).toNat-1):=o2 (by decide);have hp2:(0:Int)<2^((wD v).toNat-1):=o2 (by decide);have m1:=pC hv1 (aE hp1);have m2:=hE hu1 hv;have m3:K≤2^((wD u).toNat-1)*2^((wD v).toNat-1):=by rw[←b8];unfold K;rw[cD,cD];have:=p7 (show 0<2 by decide) (show 4096≤(wD u).toNat-1+((wD v).toNat-1) by omega);omega
  unfold out;rw[if_neg (by omega)]
 ·simp only[hb,decide_false,cond_false];rw[eY hN h1.dig h3.dig (by omega) (by omega),h2,h4];simp only[hB];have hm:=zE hu hv;obtain⟨h5,h6⟩:=bD B2 hm;have hlen:(enc (4294967296:Int) (u*v)).length≤256:=by
   refine nt hm ?_;have m1:=pC (show v≤K by omega) hu;have m2:=Int.mul_lt_mul_of_pos_right hk (show 0<K by unfold K;exact o2 (by decide));have e:(4294967296:Int)^256=K*K:=by rw[Ee,←b8]
   omega
  rw[pV N h5 (by omega),h6];unfold out;split<;>rfl
theorem uH {x:Int}(h0:0≤x)(h1:x<18446744073709551616):(BitVec.ofInt 64 x).toNat=x.toNat:=by
 rw[h9];have:x%((2^64:Nat):Int)=x:=by omega
 rw[this]
theorem iN {r d:Int}(r0:0≤r)(r1:r<4294967296)(d0:0≤d)(d1:d<4294967296):oD .u64 (r*4294967296) d=r*4294967296+d:=by
 have e:oD .u64 (r*4294967296) d=IntKind.wrap .u64 ((BitVec.ofInt 64 (r*4294967296)|||BitVec.ofInt 64 d).toNat:Int):=rfl;rw[e,BitVec.toNat_or,uH (by omega) (by omega),uH (by omega) (by omega)];have h1:(r*4294967296).toNat=r.toNat<<<32:=by rw[nd];omega
 rw[h1,←gg (show d.toNat<2^32 by omega),nd];have:IntKind.wrap .u64 ((r.toNat*2^32+d.toNat:Nat):Int)=((r.toNat*2^32+d.toNat:Nat):Int):=by show lA _=_;exact pA (by omega) (by omega)
 rw[this];omega
theorem mi (N:Nat){R:Type}(by_:Int)(b0:0<by_)(b1:by_<4294967296)(m:Nat)(hm:m≤1000000000)(K0:Int→List Int→Option R):∀(n j:Nat) (r:Int) (l:List Int),fD (4294967296:Int) l→m≤l.length→j≤m→j<n→0≤r→r<by_→
  ∃r' l',fD (4294967296:Int) l'∧l'.length=l.length∧0≤r'∧r'<by_∧
   by_*nv (4294967296:Int) (l'.take m)+r'=by_*(4294967296:Int)^j*nv (4294967296:Int) ((l.take m).drop j)+r*(4294967296:Int)^j+nv (4294967296:Int) ((l.take m).take j)∧
   Q14.l3 N n 0 m by_ r ((j:Int)-1) l K0=K0 r' l':=by
 intro n;induction n with
 |zero=>intro j r l _ _ _ h;omega
 |succ n ih=>
  intro j r l hd hl hj hn r0 r1;rw[Q14.l3];cases j with
  |zero=>refine⟨r,l,hd,rfl,r0,r1,by simp[nv],rfl⟩
  |succ j=>
   have e0:((j+1:Nat):Int)-1=(j:Int):=by omega
   have e3:aA ((j:Int)-1)=(j:Int)-1:=dA (by omega) (by omega);have c1:(decide (0≤(j:Int))&&decide ((j:Int)<(m:Int)))=true:=by simp;omega
   have c0:decide ((j:Int)≥0)=true:=decide_eq_true (by omega);have e2:0+(j:Int).toNat=j:=by omega
   have hx:=hd.get (by decide) j;have p32:(2:Int)^32=4294967296:=by decide
   rw[e0,c1,c0,e2,e3,p32];simp only[cond_true];have wb:lA by_=by_:=pA (by omega) (by omega);have cb:(by_==0)=false:=by simp;omega
   rw[wb,cb];simp only[bs,cond_true];rw[pA (n:=r*4294967296) (by omega) (by omega),pA (n:=l.getD j 0) (by omega) (by omega),iN r0 (by omega) hx.1 hx.2];generalize hxx:r*4294967296+l.getD j 0=x;have x0:0≤x:=by omega
   have h1:=cP x by_;have h2:=hQ x (b:=by_) (by omega);have h3:=hL x b0;have hq0:0≤x/by_:=j3 x0 (by omega);have hq1:x/by_<4294967296:=by rw[dx b0];have:=pC (show r+1≤by_ by omega) (show(0:Int)≤4294967296 by decide);omega
   rw[dO x0,xH x0,pA (n:=x/by_) hq0 (by omega),dR hq0 hq1];obtain⟨r',l',g1,g2,g3,g4,g5,g6⟩:=ih j (x%by_) (l.set j (x/by_)) (hd.set _ hq0 hq1) (by simpa using hl) (by omega) (by omega) h2 h3;refine⟨r',l',g1,by simpa using g2,g3,g4,?_,g6⟩;have hlen:(l.take m).length=m:=by rw[j2];omega
   have hset:(l.set j (x/by_)).take m=(l.take m).set j (x/by_):=List.take_set ..;have hdrop:((l.take m).set j (x/by_)).drop (j+1)=(l.take m).drop (j+1):=by simp[List.drop_set]
   have htake:((l.take m).set j (x/by_)).take j=(l.take m).take j:=by rw[List.take_set,List.set_eq_of_length_le (by rw[j2];omega)]
   have hget:((l.take m).set j (x/by_)).getD j 0=x/by_:=by rw[hV,List.getElem?_set_self (by omega)];rfl
   have hn1:=yE (4294967296:Int) ((l.take m).set j (x/by_)) j (by simp;omega);have hn2:=gE (4294967296:Int) (l.take m) j (by omega);have hg2:(l.take m).getD j 0=l.getD j 0:=cZ (by omega);rw[hdrop,hget]at hn1;rw[hg2]at hn2;rw[g5,hset,hn1,htake,hn2,j0];generalize x/by_=q at*;generalize x%by_=z at*;have ez:z=x-by_*q:=by omega
   subst ez;subst hxx;grind
theorem iw {N:Nat}(hN:1000000001<N){l:List Int}(hd:fD (4294967296:Int) l){m:Nat}(hm:m≤l.length)(hm2:m≤1000000000){by_:Int}(b0:0<by_)(b1:by_<4294967296):
  ∃l',fD (4294967296:Int) l'∧l'.length=l.length∧nv (4294967296:Int) (l'.take m)=nv (4294967296:Int) (l.take m)/by_∧Q14.f N 0 m by_ l=some (nv (4294967296:Int) (l.take m)%by_,l'):=by
 obtain⟨r',l',g1,g2,g3,g4,g5,g6⟩:=mi N by_ b0 b1 m hm2 (fun y13 y14=>some (rE y13,y14)) N m 0 l hd hm (c6 _) (by omega) (iv _) b0;have hlen:(l.take m).length=m:=by rw[j2];omega
 have e1:(l.take m).drop m=[]:=hT.mpr (by omega);have e2:(l.take m).take m=l.take m:=cy (by omega);rw[e1,e2]at g5;simp only[nv,r8,fr,ck]at g5;have hu:=(p8 (a:=nv (4294967296:Int) (l.take m)) (r:=r') (q:=nv (4294967296:Int) (l'.take m)) b0).mpr ⟨by omega,g3,g4⟩;refine⟨l',g1,g2,hu.1.symm,?_⟩;unfold Q14.f;rw[dA (n:=(m:Int)-1) (by omega) (by omega),g6,dR g3 (by omega),hu.2]
theorem uy:0<K:=by unfold K;exact o2 (by decide)
theorem Cb:18446744073709551616<K:=by unfold K;decide+kernel
def ov (x:Int):Int:=if x<K then x else 0
def oe (x:Int):Int:=if x<K then 0 else 3
structure Rg (x:Int):Prop where
 lo:0≤x
 hi:x<K
theorem Rg.ov {x:Int}(h:0≤x):Rg (ov x):=by
 unfold NatL.ov;have:=uy;split
 ·exact⟨h,by assumption⟩
 ·exact⟨iv _,by omega⟩
theorem yx (x:Int):out x=(enc (4294967296:Int) (ov x),oe x):=by
 unfold out ov oe;by_cases h:x<K
 ·rw[if_pos h,if_pos h,if_pos h]
 ·rw[if_neg h,if_neg h,if_neg h,xM B2]
theorem Ef {N:Nat}(hN:1000000001<N){u v:Int}(hu:Rg u)(hv:Rg v):Q8.f N (enc (4294967296:Int) u) (enc (4294967296:Int) v)=some (enc (4294967296:Int) (ov (u+v)),oe (u+v)):=by
 rw[As hN hu.lo hu.hi hv.lo hv.hi,yx]
theorem Ft {N:Nat}(hN:1000000001<N){u v:Int}(hu:Rg u)(hv:Rg v):Q12.f N (enc (4294967296:Int) u) (enc (4294967296:Int) v)=some (enc (4294967296:Int) (ov (u*v)),oe (u*v)):=by
 rw[Bg hN hu.lo hu.hi hv.lo hv.hi,yx]
theorem Fi {N:Nat}(hN:1000000001<N){u v:Int}(hu:Rg u)(hv:Rg v):Q7.f N (enc (4294967296:Int) u) (enc (4294967296:Int) v)=some (uu u v):=u6 hN hu.lo hu.hi hv.lo
theorem ui (N:Nat){v:Int}(h0:0≤v):Q6.f N (enc (4294967296:Int) v)=some (if v<18446744073709551616 then(v,true)else(0,false)):=by
 obtain⟨h1,h2⟩:=bD B2 h0;generalize enc (4294967296:Int) v=l at*;unfold Q6.f
 match l,h1,h2 with
 | [],h1,h2=>simp only[nv]at h2;subst h2;rfl
 | [x],h1,h2=>
  have hx:=h1.dig.head;simp only[nv]at h2;have:x=v:=by omega
  subst this;simp[pA (n:=x) (by omega) (by omega)];omega
 | [x,y],h1,h2=>
  have hx:=h1.dig.head;have hy:=h1.dig.tail.head;simp only[nv]at h2;have p32:(2:Int)^32=4294967296:=by decide
  simp;rw[pA (n:=x) (by omega) (by omega),pA (n:=y) (by omega) (by omega),pA (n:=y*4294967296) (by omega) (by omega),iN hy.1 hy.2 hx.1 hx.2];rw[if_pos (by omega)];congr 1;omega
 |x::y::z::l,h1,h2=>
  have hlow:=h1.lower (by decide) (by simp);have hp:(4294967296:Int)^2≤(4294967296:Int)^((x::y::z::l).length-1):=ia (by simp);have e:(4294967296:Int)^2=18446744073709551616:=by decide
  rw[if_neg (by omega)];have c0:(((x::y::z::l).length:Int)==0)=false:=by simp;omega
  have c1:(((x::y::z::l).length:Int)==1)=false:=by simp;omega
  have c2:(((x::y::z::l).length:Int)==2)=false:=by simp;omega
  rw[c0,c1,c2];rfl
theorem zM {l:List Int}{i:Nat}(h:l.length≤i):l.getD i 0=0:=by
 rw[hV,List.getElem?_eq_none h];rfl
theorem rW (b:Int)(l:List Int)(i:Nat):nv b (l.drop i)=l.getD i 0+b*nv b (l.drop (i+1)):=by
 rcases mx i l.length with h|h
 ·exact yE b l i h
 ·rw[hT.mpr h,hT.mpr (by omega),zM h];simp[nv]
theorem kN (k:Nat):(0:Int)<2^k:=o2 (by decide)
theorem Bm {i j:Nat}(h:i≤j):(2:Int)^i≤2^j:=by
 have:=p7 (show 0<2 by decide) h;rw[cD,cD];omega
theorem pk {k:Nat}(h:k≤31):(2:Int)^k≤2147483648:=by
 have:=Bm h;have e:(2:Int)^31=2147483648:=by decide
 omega
theorem yy {k:Nat}(h:k≤31):(4294967296:Int)=2^k*2^(32-k):=by
 rw[←b8];have:k+(32-k)=32:=by omega
 rw[this];rfl
theorem Dj {c d:Int}{k:Nat}(hk:k≤31)(c0:0≤c)(c1:c<2^k)(d0:0≤d)(d1:d<4294967296):oD .u64 c (d*2^k)=c+d*2^k:=by
 have hp:=pk hk;have hpp:=kN k;have m1:=zE d0 (aE hpp);have m2:=hE (show d≤4294967295 by omega) (aE hpp);have e:oD .u64 c (d*2^k)=IntKind.wrap .u64 ((BitVec.ofInt 64 c|||BitVec.ofInt 64 (d*2^k)).toNat:Int):=rfl;rw[e,BitVec.toNat_or,uH c0 (by omega),uH m1 (by omega)];have h1:(d*2^k).toNat=d.toNat<<<k:=by
  rw[nd,Int.toNat_mul d0 (aE hpp)];have hpk:((2:Int)^k).toNat=2^k:=by rw[cD];exact Int.toNat_natCast _
  rw[hpk]
 have hc:c.toNat<2^k:=by rw[cD]at c1;omega
 rw[h1,Nat.or_comm,←gg hc,←h1];have:IntKind.wrap .u64 (((d*2^k).toNat+c.toNat:Nat):Int)=(((d*2^k).toNat+c.toNat:Nat):Int):=by show lA _=_;exact pA (by omega) (by omega)
 rw[this];omega
theorem C7 (N:Nat){R:Type}{d:List Int}(hd:fD (4294967296:Int) d)(k:Nat)(hk:k≤31)(K0:List Int→Option R):∀(n i:Nat) (c:Int) (o:List Int),fD (4294967296:Int) o→o.length≤1000000000→i≤o.length→o.length-i<n→0≤c→c<2^k→(∀j,i≤j→o.getD j 0=0)→
  ∃r c',fD (4294967296:Int) r∧r.length=o.length∧0≤c'∧nv (4294967296:Int) r+(4294967296:Int)^o.length*(c'+2^k*nv (4294967296:Int) (d.drop o.length))=nv (4294967296:Int) o+(4294967296:Int)^i*(c+2^k*nv (4294967296:Int) (d.drop i))∧
   Q15.l4 N n d (k:Int) c (o.length:Int) (i:Int) o K0=K0 r:=by
 intro n;induction n with
 |zero=>intro i c o _ _ _ h;omega
 |succ n ih=>
  intro i c o ho hol hi hn c0 c1 hz;rw[Q15.l4];by_cases hil:i<o.length
  ·have e0:decide ((i:Int)<(o.length:Int))=true:=decide_eq_true (by omega);have e1:(decide (0≤(i:Int))&&decide ((i:Int)<(o.length:Int)))=true:=by simp;omega
   have e2:(i:Int).toNat=i:=by omega
   have e3:aA ((i:Int)+1)=((i+1:Nat):Int):=by rw[dA (by omega) (by omega)];omega
   have hp:=pk hk;have hpp:=kN k;have p32:(2:Int)^32=4294967296:=by decide
   have go:∀x:Int,x=c+d.getD i 0*2^k→∃r c',fD (4294967296:Int) r∧r.length=o.length∧0≤c'∧nv (4294967296:Int) r+(4294967296:Int)^o.length*(c'+2^k*nv (4294967296:Int) (d.drop o.length))=nv (4294967296:Int) o+(4294967296:Int)^i*(c+2^k*nv (4294967296:Int) (d.drop i))∧
     Q15.l4 N n d (k:Int) (x/4294967296) (o.length:Int) ((i+1:Nat):Int) (o.set i (x%4294967296)) K0=K0 r:=by
    intro x hx;have hdg:=hd.get (by decide) i;have m1:=zE hdg.1 (aE hpp);have m2:=hE (show d.getD i 0≤4294967295 by omega) (aE hpp);obtain⟨r,c',r1,r2,r3,r4,r5⟩:=ih (i+1) (x/4294967296) (o.set i (x%4294967296)) (ho.set _ (by omega) (by omega)) (by simpa using hol) (by simp;omega) (by simp;omega) (by omega) (by omega) (fun j hj=>by have:=hz j (by omega);simp only[hV,dk]at this⊢;rw[if_neg (by omega)];exact this);have hl:(o.set i (x%4294967296)).length=o.length:=by simp
    rw[hl]at r2 r4 r5;refine⟨r,c',r1,r2,r3,?_,r5⟩;rw[r4,jK _ _ o i hil,rW _ d i,hz i (c6 _),j0];have hsd:=iP x;generalize x%4294967296=m at*;generalize x/4294967296=z at*;have em:m=x-4294967296*z:=by omega
    subst em;subst hx;grind
   rw[e1,e0,e2,e3];simp only[cond_true];by_cases hid:i<d.length
   ·have f0:decide ((i:Int)<(d.length:Int))=true:=decide_eq_true (by omega);have f1:(decide (0≤(i:Int))&&decide ((i:Int)<(d.length:Int)))=true:=by simp;omega
    have f2:decide (0≤(k:Int))=true:=decide_eq_true (by omega);have hdg:=hd.get (by decide) i;have m1:=zE hdg.1 (aE hpp);have m2:=hE (show d.getD i 0≤4294967295 by omega) (aE hpp);have hm:min (k:Int).toNat 64=k:=by omega
    rw[f1,f0,f2,hm,pA (n:=d.getD i 0) (by omega) (by omega),pA (n:=d.getD i 0*2^k) m1 (by omega),Dj hk c0 c1 hdg.1 hdg.2,eC,p32,bE];exact go _ rfl
   ·have f0:decide ((i:Int)<(d.length:Int))=false:=decide_eq_false (by omega);have zd:d.getD i 0=0:=zM (by omega);have:=go c (by rw[zd];simp);rw[f0];simp only[cond_false];rw[eC,p32,bE];exact this
  ·have e0:decide ((i:Int)<(o.length:Int))=false:=decide_eq_false (by omega);have:i=o.length:=by omega
   subst this;rw[e0];exact⟨o,c,ho,rfl,c0,rfl,rfl⟩
theorem jW {m:Nat}(h1:m≤1000000000):(decide ((m:Int)=(m:Int))&&decide (0≤(m:Int))&&decide ((m:Int)≤9223372036854775807)&&zA (m:Int).toNat 4)=true:=p9 (by omega) (by omega)
theorem gb {m:Nat}(h1:m≤1000000000):(decide True&&decide (0≤(m:Int))&&decide ((m:Int)≤9223372036854775807)&&zA (m:Int).toNat 4)=true:=ga (by omega) (by omega)
theorem az (n j:Nat):(List.replicate n (0:Int)).getD j 0=0:=by
 rw[hV,nw];split<;>rfl
theorem jd {N:Nat}(hN:1000000001<N){d:List Int}(hd:fD (4294967296:Int) d){k:Nat}(hk:k≤31){m:Nat}(hm:m≤1000000000)(hdm:d.length≤m)(hfit:2^k*nv (4294967296:Int) d<(4294967296:Int)^m):
  ∃r,fD (4294967296:Int) r∧r.length=m∧nv (4294967296:Int) r=2^k*nv (4294967296:Int) d∧Q15.f N d (k:Int) (m:Int)=some r:=by
 unfold Q15.f;have et:((m:Nat):Int).toNat=m:=by omega
 rw[jW hm,et];simp only[cond_true];obtain⟨r,c',r1,r2,r3,r4,r5⟩:=C7 N hd k hk (fun y11=>some y11) N 0 0 (List.replicate m 0) (fD.replicate (by decide) _) (by simpa using hm) (by omega) (by simp;omega) (by omega) (kN k) (fun j _=>az m j);have hl:(List.replicate m (0:Int)).length=m:=by simp
 have ez:((0:Nat):Int)=0:=rfl;rw[hl]at r2 r4 r5;rw[ez]at r5;rw[hl,r5];rw[hT.mpr hdm,pF]at r4;simp only[nv,r8,l8,ck,Int.pow_zero,ks,il]at r4;have hb:=(zB (show(0:Int)<4294967296 by decide) r1).1;have hp:(0:Int)<(4294967296:Int)^m:=o2 (by decide);have hc:c'=0:=by
  rcases hI 0 c' with h|h
  ·have:=pC (show 1≤c' by omega) (aE hp);omega
  ·omega
 subst hc;exact⟨r,r1,r2,by simpa using r4,rfl⟩
theorem rr (N:Nat){R:Type}{d:List Int}(hd:fD (4294967296:Int) d)(hdl:d.length≤1000000000)(k:Nat)(hk:k≤31)(K0:List Int→Option R):∀(n i:Nat) (o:List Int),fD (4294967296:Int) o→o.length=d.length→i≤d.length→d.length-i<n→(∀j,i≤j→o.getD j 0=0)→
  ∃r,fD (4294967296:Int) r∧r.length=d.length∧nv (4294967296:Int) r=nv (4294967296:Int) o+(4294967296:Int)^i*(nv (4294967296:Int) (d.drop i)/2^k)∧
   Q16.l3 N n d (k:Int) (d.length:Int) (i:Int) o K0=K0 r:=by
 intro n;induction n with
 |zero=>intro i o _ _ _ h;omega
 |succ n ih=>
  intro i o ho hol hi hn hz;rw[Q16.l3];by_cases hil:i<d.length
  ·have e0:decide ((i:Int)<(d.length:Int))=true:=decide_eq_true (by omega);have e1:(decide (0≤(i:Int))&&decide ((i:Int)<(d.length:Int)))=true:=by simp;omega
   have e1o:(decide (0≤(i:Int))&&decide ((i:Int)<(o.length:Int)))=true:=by simp;omega
   have e2:(i:Int).toNat=i:=by omega
   have e3:aA ((i:Int)+1)=((i+1:Nat):Int):=by rw[dA (by omega) (by omega)];omega
   have e4:(((i+1:Nat):Int)).toNat=i+1:=by omega
   have f2:decide (0≤(k:Int))=true:=decide_eq_true (by omega);have hm:min (k:Int).toNat 64=k:=by omega
   have hpp:=kN k;have hp31:=pk hk;have hsp:=yy hk;have hpp2:=kN (32-k);have hx:=hd.get (by decide) i;have hy:=hd.get (by decide) (i+1);have p32:(2:Int)^32=4294967296:=by decide
   have hnd:=rW (4294967296:Int) d i;have key:∀x:Int,x=d.getD i 0+4294967296*d.getD (i+1) 0→nv (4294967296:Int) (d.drop i)/2^k=(x/2^k)%4294967296+4294967296*(nv (4294967296:Int) (d.drop (i+1))/2^k):=by
    intro x hxx;have hnd2:=rW (4294967296:Int) d (i+1);generalize hY:nv (4294967296:Int) (d.drop (i+1))=Y at*;generalize nv (4294967296:Int) (d.drop (i+1+1))=Z at*;have d1:=cP Y (2^k);have d2:=hQ Y (b:=2^k) (by omega);have d3:=hL Y hpp;have d4:=cP (d.getD (i+1) 0) (2^k);have d5:=hQ (d.getD (i+1) 0) (b:=2^k) (by omega);have d6:=hL (d.getD (i+1) 0) hpp;have hrest:Y%2^k=d.getD (i+1) 0%2^k:=by
     have:Y=d.getD (i+1) 0+2^k*(2^(32-k)*Z):=by rw[hnd2,←ek,←hsp]
     rw[this,kt]
    generalize Y/2^k=q at*;generalize hs:Y%2^k=s at*;generalize d.getD (i+1) 0/2^k=q' at*;rw[←hrest]at d4;have h1:nv (4294967296:Int) (d.drop i)=d.getD i 0+4294967296*s+2^k*(4294967296*q):=by rw[hnd,←d1];grind
    have h2:x=d.getD i 0+4294967296*s+2^k*(4294967296*q'):=by rw[hxx,←d4];grind
    rw[h1,h2,eo _ _ (by omega),eo _ _ (by omega),kt];have hlt:(d.getD i 0+4294967296*s)/2^k<4294967296:=by rw[dx hpp];have:=pC (show s+1≤2^k by omega) (show(0:Int)≤4294967296 by decide);omega
    have hge:0≤(d.getD i 0+4294967296*s)/2^k:=j3 (by omega) (by omega);rw[ln hge hlt]
   have go:∀x:Int,x=d.getD i 0+4294967296*d.getD (i+1) 0→∃r,fD (4294967296:Int) r∧r.length=d.length∧nv (4294967296:Int) r=nv (4294967296:Int) o+(4294967296:Int)^i*(nv (4294967296:Int) (d.drop i)/2^k)∧
     Q16.l3 N n d (k:Int) (d.length:Int) ((i+1:Nat):Int) (o.set i ((x/2^k)%4294967296)) K0=K0 r:=by
    intro x hxx;obtain⟨r,r1,r2,r3,r4⟩:=ih (i+1) (o.set i ((x/2^k)%4294967296)) (ho.set _ (by omega) (by omega)) (by simpa using hol) (by omega) (by omega) (fun j hj=>by have:=hz j (by omega);simp only[hV,dk]at this⊢;rw[if_neg (by omega)];exact this);refine⟨r,r1,r2,?_,r4⟩;rw[r3,jK _ _ o i (by omega),hz i (c6 _),key x hxx,j0];grind
   rw[e1,e0,e3,e4,f2,e1o,e2,hm];simp only[cond_true];by_cases hid:i+1<d.length
   ·have f0:decide (((i+1:Nat):Int)<(d.length:Int))=true:=decide_eq_true (by omega);have f1:(decide (0≤((i+1:Nat):Int))&&decide (((i+1:Nat):Int)<(d.length:Int)))=true:=by simp;omega
    rw[f1,f0,pA (n:=d.getD i 0) (by omega) (by omega),pA (n:=d.getD (i+1) 0) (by omega) (by omega),p32,pA (n:=d.getD (i+1) 0*4294967296) (by omega) (by omega)];have hor:oD .u64 (d.getD i 0) (d.getD (i+1) 0*4294967296)=d.getD i 0+4294967296*d.getD (i+1) 0:=by
     have e:∀a b:Int,oD .u64 a b=oD .u64 b a:=fun a b=>by unfold oD;rw[BitVec.or_comm]
     rw[e,iN hy.1 hy.2 hx.1 hx.2];omega
    rw[hor,eC,bE];exact go _ rfl
   ·have f0:decide (((i+1:Nat):Int)<(d.length:Int))=false:=decide_eq_false (by omega);have zd:d.getD (i+1) 0=0:=zM (by omega);have:=go (d.getD i 0) (by rw[zd];simp);rw[f0,pA (n:=d.getD i 0) (by omega) (by omega)];simp only[cond_false];rw[eC,bE];exact this
  ·have e0:decide ((i:Int)<(d.length:Int))=false:=decide_eq_false (by omega);rw[e0,hT.mpr (by omega)];exact⟨o,ho,hol,by simp[nv],rfl⟩
theorem jw {N:Nat}(hN:1000000001<N){d:List Int}(hd:fD (4294967296:Int) d)(hdl:d.length≤1000000000){k:Nat}(hk:k≤31):Q16.f N d (k:Int)=some (enc (4294967296:Int) (nv (4294967296:Int) d/2^k)):=by
 unfold Q16.f;have et:((d.length:Nat):Int).toNat=d.length:=by omega
 rw[jW hdl,et];simp only[cond_true];obtain⟨r,r1,r2,r3,r4⟩:=rr N hd hdl k hk (fun y9=>(Q2.f N 0 y9.length y9).bind fun r10=>some ((r10.2.2.drop r10.1).take r10.2.1)) N 0 (List.replicate d.length 0) (fD.replicate (by decide) _) (by simp) (by omega) (by omega) (fun j _=>az _ j);have ez:((0:Nat):Int)=0:=rfl;rw[ez]at r4;rw[r4];obtain⟨c1,c2⟩:=oL hN r (by omega);rw[c1];simp only[hB,c2];rw[sI r1,r3,pF];simp
theorem dK {v:Int}(h:0≤v):wD v=0↔v=0:=by
 have h0:=mF h 0;have e0:(2:Int)^0=1:=rfl;rw[e0]at h0;have:=xC v;constructor
 ·intro hq;have:=h0.mp (by omega);omega
 ·intro hq;have:=h0.mpr (by omega);omega
theorem tN:(2:Int)^32=4294967296:=by decide
theorem fV {x y:Int}(x0:0≤x)(x1:x<(4294967296:Int))(y0:0≤y)(y1:y<(4294967296:Int)):0≤x*y∧x*y≤18446744065119617025:=by
 have h:=gy (show x≤4294967295 by omega) (show y≤4294967295 by omega) y0 (by decide);exact⟨zE x0 y0,by omega⟩
theorem ei {l:List Int}{i k:Nat}(h:i<k)(x:Int):(l.set i x).drop k=l.drop k:=List.drop_set_of_lt h
theorem rb (N:Nat){R:Type}(off:Nat)(v:List Int)(hv:fD (4294967296:Int) v)(hvl:v.length≤100000000)(d:Int)(d0:0≤d)(d1:d<(4294967296:Int))(K0:Int→List Int→Option R):∀(n i:Nat) (c w:Int) (u:List Int),fD (4294967296:Int) u→off+(v.length+1)≤u.length→u.length≤1000000000→i≤v.length+1→v.length+1-i<n→0≤c→c<(4294967296:Int)→0≤w→w≤1→(i=v.length+1→c=0)→
  ∃u' w',fD (4294967296:Int) u'∧u'.length=u.length∧0≤w'∧w'≤1∧nv (4294967296:Int) u'=nv (4294967296:Int) u- (4294967296:Int)^(off+i)*(c+w)- (4294967296:Int)^(off+i)*(d*nv (4294967296:Int) (v.drop i))+(4294967296:Int)^(off+(v.length+1))*w'∧u'.drop (off+(v.length+1))=u.drop (off+(v.length+1))∧
   Q17.l3 N n off (v.length+1) v d c w ((v.length+1:Nat):Int) (i:Int) u K0=K0 w' u':=by
 intro n;induction n with
 |zero=>intro i c w u _ _ _ _ h;omega
 |succ n ih=>
  intro i c w u hu hul hul2 hi hn c0 c1 w0 w1 hc;rw[Q17.l3];by_cases hil:i<v.length+1
  ·have e0:decide ((i:Int)<((v.length+1:Nat):Int))=true:=decide_eq_true (by omega);have e1:(decide (0≤(i:Int))&&decide ((i:Int)<((v.length+1:Nat):Int)))=true:=by simp;omega
   have e2:(i:Int).toNat=i:=by omega
   have e3:aA ((i:Int)+1)=((i+1:Nat):Int):=by rw[dA (by omega) (by omega)];omega
   have ha:=hu.get (by decide) (off+i);generalize hae:u.getD (off+i) 0=a at ha;have go:∀t dv:Int,0≤t→t≤18446744073709551615→t=c+d*dv→nv (4294967296:Int) (v.drop i)=dv+(4294967296:Int)*nv (4294967296:Int) (v.drop (i+1))→(i+1=v.length+1→t<(4294967296:Int))→
     ∀u1,u1=u.set (off+i) ((a-t%(4294967296:Int)-w)%(4294967296:Int))→
     ∃u' w',fD (4294967296:Int) u'∧u'.length=u.length∧0≤w'∧w'≤1∧nv (4294967296:Int) u'=nv (4294967296:Int) u- (4294967296:Int)^(off+i)*(c+w)- (4294967296:Int)^(off+i)*(d*nv (4294967296:Int) (v.drop i))+(4294967296:Int)^(off+(v.length+1))*w'∧u'.drop (off+(v.length+1))=u.drop (off+(v.length+1))∧
      Q17.l3 N n off (v.length+1) v d (t/(4294967296:Int)) (if a<t%(4294967296:Int)+w then 1 else 0) ((v.length+1:Nat):Int) ((i+1:Nat):Int) u1 K0=K0 w' u':=by
    intro t dv t0 t1 ht hdr hlast u1 hu1;subst hu1;obtain⟨u',w',g1,g2,g3,g4,g5,g6,g7⟩:=ih (i+1) (t/(4294967296:Int)) (if a<t%(4294967296:Int)+w then 1 else 0) (u.set (off+i) ((a-t%(4294967296:Int)-w)%(4294967296:Int))) (hu.set (off+i) (by omega) (by omega)) (by simp;omega) (by simpa using hul2) (by omega) (by omega) (by omega) (by omega) (by split<;>omega) (by split<;>omega) (fun h=>by have:=hlast h;omega);refine⟨u',w',g1,by simpa using g2,g3,g4,?_,by rw[g6,ei (by omega)],g7⟩;rw[g5,jK (4294967296:Int) _ u (off+i) (by omega),hae,hdr];have hx:(a-t%(4294967296:Int)-w)%(4294967296:Int)=a-t%(4294967296:Int)-w+(4294967296:Int)*(if a<t%(4294967296:Int)+w then 1 else 0):=by split<;>omega
    have htt:t=t%(4294967296:Int)+(4294967296:Int)*(t/(4294967296:Int)):=by omega
    rw[hx];generalize(if a<t%(4294967296:Int)+w then(1:Int)else 0)=z at*;have hp:(4294967296:Int)^(off+(i+1))=(4294967296:Int)^(off+i)*(4294967296:Int):=by rw[←Nat.add_assoc,j0]
    rw[hp];generalize(4294967296:Int)^(off+i)=P at*;generalize nv (4294967296:Int) (v.drop (i+1))=V1 at*;generalize(4294967296:Int)^(off+(v.length+1))*w'=Q at*;generalize t%(4294967296:Int)=lo at*;generalize t/(4294967296:Int)=hi' at*;have hcd:c=lo+(4294967296:Int)*hi'-d*dv:=by omega
    rw[hcd];grind
   rw[e1,e0,e2,e3];simp only[cond_true,hae];by_cases hiv:i<v.length
   ·have f0:decide ((i:Int)<(v.length:Int))=true:=decide_eq_true (by omega);have f1:(decide (0≤(i:Int))&&decide ((i:Int)<(v.length:Int)))=true:=by simp;omega
    have hvd:=hv.get (by decide) i;generalize hve:v.getD i 0=dv at hvd;obtain⟨m1,m2⟩:=fV hvd.1 hvd.2 d0 d1;have ew:lA (c+lA (lA dv*lA d))=c+dv*d:=by rw[pA hvd.1 (by omega),pA d0 (by omega),pA m1 (by omega),pA (by omega) (by omega)]
    rw[f1,f0];simp only[cond_true,hve,ew];rw[bE,eC,tN,xJ N ha.1 ha.2 (by omega) (by omega) w0 w1];simp only[hB];exact go (c+dv*d) dv (by omega) (by omega) (by rw[ae dv d]) (by rw[yE (4294967296:Int) v i hiv,hve]) (fun h=>by omega) _ rfl
   ·have f0:decide ((i:Int)<(v.length:Int))=false:=decide_eq_false (by omega);have hz:v.drop i=[]:=hT.mpr (by omega);have hz2:v.drop (i+1)=[]:=hT.mpr (by omega);rw[f0];simp only[cond_false];rw[bE,eC,tN,xJ N ha.1 ha.2 (by omega) (by omega) w0 w1];simp only[hB];exact go c 0 c0 (by omega) (by omega) (by rw[hz,hz2];simp[nv]) (fun h=>c1) _ rfl
  ·have hie:i=v.length+1:=by omega
   have e0:decide ((i:Int)<((v.length+1:Nat):Int))=false:=decide_eq_false (by omega);have hz:v.drop i=[]:=hT.mpr (by omega);have:=hc hie;subst this;rw[e0];refine⟨u,w,hu,rfl,w0,w1,?_,rfl,rfl⟩;rw[hz,hie];simp only[nv,r8,Int.sub_zero,ck];omega
theorem jm {N:Nat}(hN:1000000001<N){off:Nat}{v:List Int}(hv:fD (4294967296:Int) v)(hvl:v.length≤100000000){d:Int}(d0:0≤d)(d1:d<(4294967296:Int)){u:List Int}(hu:fD (4294967296:Int) u)(hul:off+(v.length+1)≤u.length)(hul2:u.length≤1000000000):
  ∃u' w',fD (4294967296:Int) u'∧u'.length=u.length∧0≤w'∧w'≤1∧nv (4294967296:Int) u'=nv (4294967296:Int) u- (4294967296:Int)^off*(d*nv (4294967296:Int) v)+(4294967296:Int)^(off+(v.length+1))*w'∧u'.drop (off+(v.length+1))=u.drop (off+(v.length+1))∧
   Q17.f N off (v.length+1) v d u=some (w' != 0,u'):=by
 obtain⟨u',w',g1,g2,g3,g4,g5,g6,g7⟩:=rb N off v hv hvl d d0 d1 (fun y19 y20=>some (y19 != 0,y20)) N 0 0 0 u hu hul hul2 (by omega) (by omega) (by omega) (by decide) (by omega) (by omega) (fun h=>rfl);refine⟨u',w',g1,g2,g3,g4,?_,g6,?_⟩
 ·rw[g5];simp
 ·unfold Q17.f;exact g7
theorem rh (N:Nat){R:Type}(off:Nat)(v:List Int)(hv:fD (4294967296:Int) v)(hvl:v.length≤100000000)(s j:Int)(out:List Int)(K0:Int→Int→Int→List Int→List Int→List Int→Option R):∀(n i:Nat) (c:Int) (u:List Int),fD (4294967296:Int) u→off+(v.length+1)≤u.length→u.length≤1000000000→i≤v.length+1→v.length+1-i<n→0≤c→c≤1→
  ∃u' c',fD (4294967296:Int) u'∧u'.length=u.length∧0≤c'∧c'≤1∧nv (4294967296:Int) u'=nv (4294967296:Int) u+(4294967296:Int)^(off+i)*c+(4294967296:Int)^(off+i)*nv (4294967296:Int) (v.drop i)- (4294967296:Int)^(off+(v.length+1))*c'∧u'.drop (off+(v.length+1))=u.drop (off+(v.length+1))∧
   Q18.l21 N n (v.length:Int) s j off (v.length+1) c ((v.length+1:Nat):Int) (i:Int) v u out K0=K0 (v.length:Int) s j v u' out:=by
 intro n;induction n with
 |zero=>intro i c u _ _ _ _ h;omega
 |succ n ih=>
  intro i c u hu hul hul2 hi hn c0 c1;rw[Q18.l21];by_cases hil:i<v.length+1
  ·have e0:decide ((i:Int)<((v.length+1:Nat):Int))=true:=decide_eq_true (by omega);have e1:(decide (0≤(i:Int))&&decide ((i:Int)<((v.length+1:Nat):Int)))=true:=by simp;omega
   have e2:(i:Int).toNat=i:=by omega
   have e3:aA ((i:Int)+1)=((i+1:Nat):Int):=by rw[dA (by omega) (by omega)];omega
   have ha:=hu.get (by decide) (off+i);generalize hae:u.getD (off+i) 0=a at ha;have go:∀t dv:Int,0≤dv→dv<(4294967296:Int)→t=c+a+dv→nv (4294967296:Int) (v.drop i)=dv+(4294967296:Int)*nv (4294967296:Int) (v.drop (i+1))→
     ∀u1,u1=u.set (off+i) (t%(4294967296:Int))→
     ∃u' c',fD (4294967296:Int) u'∧u'.length=u.length∧0≤c'∧c'≤1∧nv (4294967296:Int) u'=nv (4294967296:Int) u+(4294967296:Int)^(off+i)*c+(4294967296:Int)^(off+i)*nv (4294967296:Int) (v.drop i)- (4294967296:Int)^(off+(v.length+1))*c'∧u'.drop (off+(v.length+1))=u.drop (off+(v.length+1))∧
      Q18.l21 N n (v.length:Int) s j off (v.length+1) (t/(4294967296:Int)) ((v.length+1:Nat):Int) ((i+1:Nat):Int) v u1 out K0=K0 (v.length:Int) s j v u' out:=by
    intro t dv dv0 dv1 ht hdr u1 hu1;subst hu1;obtain⟨u',c',g1,g2,g3,g4,g5,g6,g7⟩:=ih (i+1) (t/(4294967296:Int)) (u.set (off+i) (t%(4294967296:Int))) (hu.set (off+i) (by omega) (by omega)) (by simp;omega) (by simpa using hul2) (by omega) (by omega) (by omega) (by omega);refine⟨u',c',g1,by simpa using g2,g3,g4,?_,by rw[g6,ei (by omega)],g7⟩;rw[g5,jK (4294967296:Int) _ u (off+i) (by omega),hae,hdr];have htt:t=t%(4294967296:Int)+(4294967296:Int)*(t/(4294967296:Int)):=by omega
    have hp:(4294967296:Int)^(off+(i+1))=(4294967296:Int)^(off+i)*(4294967296:Int):=by rw[←Nat.add_assoc,j0]
    rw[hp];generalize(4294967296:Int)^(off+i)=P at*;generalize nv (4294967296:Int) (v.drop (i+1))=V1 at*;generalize(4294967296:Int)^(off+(v.length+1))*c'=Q at*;generalize t%(4294967296:Int)=lo at*;generalize t/(4294967296:Int)=hi' at*;have hlo:lo=c+a+dv- (4294967296:Int)*hi':=by omega
    rw[hlo];grind
   rw[e1,e0,e2,e3];simp only[cond_true,hae];by_cases hiv:i<v.length
   ·have f0:decide ((i:Int)<(v.length:Int))=true:=decide_eq_true (by omega);have f1:(decide (0≤(i:Int))&&decide ((i:Int)<(v.length:Int)))=true:=by simp;omega
    have hvd:=hv.get (by decide) i;generalize hve:v.getD i 0=dv at hvd;have ew:lA (lA (c+lA a)+lA dv)=c+a+dv:=by rw[pA hvd.1 (by omega),pA ha.1 (by omega),pA (n:=c+a) (by omega) (by omega),pA (by omega) (by omega)]
    rw[f1,f0];simp only[cond_true,hve,ew];rw[bE,eC,tN];exact go (c+a+dv) dv hvd.1 hvd.2 rfl (by rw[yE (4294967296:Int) v i hiv,hve]) _ rfl
   ·have f0:decide ((i:Int)<(v.length:Int))=false:=decide_eq_false (by omega);have hz:v.drop i=[]:=hT.mpr (by omega);have hz2:v.drop (i+1)=[]:=hT.mpr (by omega);have ew:lA (c+lA a)=c+a+0:=by
     rw[pA ha.1 (by omega),pA (by omega) (by omega)];omega
    rw[f0];simp only[cond_false,ew];rw[bE,eC,tN];exact go (c+a+0) 0 (by omega) (by decide) rfl (by rw[hz,hz2];simp[nv]) _ rfl
  ·have hie:i=v.length+1:=by omega
   have e0:decide ((i:Int)<((v.length+1:Nat):Int))=false:=decide_eq_false (by omega);have hz:v.drop i=[]:=hT.mpr (by omega);rw[e0];refine⟨u,c,hu,rfl,c0,c1,?_,rfl,rfl⟩;rw[hz,hie];simp only[nv,r8,l8];omega
theorem kg (N:Nat){R:Type}(v u out:List Int)(n j:Nat)(s X:Int)(hn2:2≤n)(hnl:n=v.length)(hl:u.length≤1000000000)(hvl:v.length≤100000000)(hju:j+n≤u.length)(hv:fD (4294967296:Int) v)(hu:fD (4294967296:Int) u)(vt vs u2:Int)(hvt:v.getD (n-1) 0=vt)(hvs:v.getD (n-2) 0=vs)(hu2:u.getD (j+n-2) 0=u2)(htop:2147483648≤vt)(hX:X≤vt*(4294967296:Int)+(4294967296:Int)-1)
  (K0:Int→Int→Int→Int→List Int→List Int→List Int→Option R):∀(fuel:Nat) (d rest:Int),0≤d→d≤4294967297→0≤rest→rest<(4294967296:Int)→d*vt+rest=X→(4294967296:Int)-rest≤((fuel:Int)-1)*2147483648→(∀q,0≤q→q<(4294967296:Int)→q*(vt*(4294967296:Int)+vs)≤X*(4294967296:Int)+u2→q≤d)→
   ∃d',0≤d'∧d'<(4294967296:Int)∧d'*(vt*(4294967296:Int)+vs)≤X*(4294967296:Int)+u2∧(∀q,0≤q→q<(4294967296:Int)→q*(vt*(4294967296:Int)+vs)≤X*(4294967296:Int)+u2→q≤d')∧Q18.l11 N fuel (n:Int) s (j:Int) d rest v u out K0=K0 (n:Int) s (j:Int) d' v u out:=by
 have hvt':0≤vt∧vt<(4294967296:Int):=by rw[←hvt];exact hv.get (by decide) _
 have hvs':0≤vs∧vs<(4294967296:Int):=by rw[←hvs];exact hv.get (by decide) _
 have hu2':0≤u2∧u2<(4294967296:Int):=by rw[←hu2];exact hu.get (by decide) _
 have a1:aA ((n:Int)-1)=((n-1:Nat):Int):=by rw[dA (by omega) (by omega)];omega
 have a2:aA ((n:Int)-2)=((n-2:Nat):Int):=by rw[dA (by omega) (by omega)];omega
 have a3:aA (aA ((j:Int)+(n:Int))-2)=((j+n-2:Nat):Int):=by rw[dA (n:=(j:Int)+n) (by omega) (by omega),dA (by omega) (by omega)];omega
 have b1:(decide (0≤((n-1:Nat):Int))&&decide (((n-1:Nat):Int)<(v.length:Int)))=true:=by simp;omega
 have b2:(decide (0≤((n-2:Nat):Int))&&decide (((n-2:Nat):Int)<(v.length:Int)))=true:=by simp;omega
 have b3:(decide (0≤((j+n-2:Nat):Int))&&decide (((j+n-2:Nat):Int)<(u.length:Int)))=true:=by simp;omega
 have t1:((n-1:Nat):Int).toNat=n-1:=by omega
 have t2:((n-2:Nat):Int).toNat=n-2:=by omega
 have t3:((j+n-2:Nat):Int).toNat=j+n-2:=by omega
 intro fuel;induction fuel with
 |zero=>intro d rest d0 d1 r0 r1 hd hf;omega
 |succ fuel ih=>
  intro d rest d0 d1 r0 r1 hd hf hq;rw[Q18.l11];simp only[a1,a2,a3,b1,b2,b3,cond_true,t1,t2,t3,hvt,hvs,hu2];have ewv:lA vt=vt:=pA hvt'.1 (by omega);have ews:lA vs=vs:=pA hvs'.1 (by omega);have ewu:lA u2=u2:=pA hu2'.1 (by omega);have ewr:lA (rest+vt)=rest+vt:=pA (by omega) (by omega);have hdvB:d*vt*(4294967296:Int)+rest*(4294967296:Int)=X*(4294967296:Int):=by rw[←hd];grind
  have less:1≤d→(∀q,0≤q→q<(4294967296:Int)→q*(vt*(4294967296:Int)+vs)≤X*(4294967296:Int)+u2→q≤d-1)→
    ∃d',0≤d'∧d'<(4294967296:Int)∧d'*(vt*(4294967296:Int)+vs)≤X*(4294967296:Int)+u2∧(∀q,0≤q→q<(4294967296:Int)→q*(vt*(4294967296:Int)+vs)≤X*(4294967296:Int)+u2→q≤d')∧
     (bif (Int.fdiv (lA (rest+(lA vt))) (2^32)) != 0 then K0 (n:Int) s (j:Int) (lA (d-1)) v u out
      else Q18.l11 N fuel (n:Int) s (j:Int) (lA (d-1)) (lA (rest+(lA vt))) v u out K0)=K0 (n:Int) s (j:Int) d' v u out:=by
   intro hd1 hq1;rw[ewv,ewr,pA (n:=d-1) (by omega) (by omega),eC,tN];have hd':(d-1)*vt+(rest+vt)=X:=by rw[←hd];grind
   by_cases hr:rest+vt<(4294967296:Int)
   ·have:((rest+vt)/(4294967296:Int) != 0)=false:=by simp;omega
    rw[this];simp only[cond_false];exact ih (d-1) (rest+vt) (by omega) (by omega) (by omega) hr hd' (by omega) hq1
   ·have:((rest+vt)/(4294967296:Int) != 0)=true:=by simp;omega
    rw[this];simp only[cond_true];have hlt:d-1<(4294967296:Int):=by
     rcases hI (d-1) (4294967296:Int)with h|h
     ·exact h
     ·exfalso;have:=hE h hvt'.1;have e:(4294967296:Int)*vt=vt*(4294967296:Int):=ae _ _;omega
    refine⟨d-1,by omega,hlt,?_,hq1,rfl⟩;obtain⟨m1,m2⟩:=fV (show 0≤d-1 by omega) hlt hvs'.1 hvs'.2;have e:(d-1)*(vt*(4294967296:Int)+vs)=(X- (rest+vt))*(4294967296:Int)+(d-1)*vs:=by rw[←hd'];grind
    have e2:(X- (rest+vt))*(4294967296:Int)=X*(4294967296:Int)- (rest+vt)*(4294967296:Int):=by grind
    omega
  by_cases hdB:(4294967296:Int)≤d
  ·have c1:((Int.fdiv d (2^32)) != 0)=true:=by rw[eC,tN];simp;omega
   rw[c1];simp only[cond_true];exact less (by omega) (fun q q0 q1 hh=>by omega)
  ·have c1:((Int.fdiv d (2^32)) != 0)=false:=by rw[eC,tN];simp;omega
   obtain⟨m1,m2⟩:=fV d0 (show d<(4294967296:Int) by omega) hvs'.1 hvs'.2;have er:oD .u64 (lA (rest*2^32)) (lA u2)=rest*(4294967296:Int)+u2:=by rw[tN,pA (n:=rest*4294967296) (by omega) (by omega),ewu,iN r0 r1 hu2'.1 hu2'.2]
   rw[c1,er,ews,pA m1 (by omega)];simp only[cond_false];have key:d*(vt*(4294967296:Int)+vs)=X*(4294967296:Int)-rest*(4294967296:Int)+d*vs:=by
    have:d*(vt*(4294967296:Int)+vs)=d*vt*(4294967296:Int)+d*vs:=by grind
    omega
   by_cases ht:d*vs>rest*(4294967296:Int)+u2
   ·rw[decide_eq_true ht];simp only[cond_true];refine less ?_ (fun q q0 q1 hh=>?_)
    ·rcases hI 0 d with h|h
     ·omega
     ·have:d=0:=by omega
      subst this;simp at ht;omega
    ·have h1:=hq q q0 q1 hh;rcases hI q d with h|h
     ·omega
     ·have:q=d:=by omega
      subst this;omega
   ·rw[decide_eq_false ht];simp only[cond_false];exact⟨d,d0,by omega,by omega,hq,rfl⟩
theorem oE (i:Nat):0<(4294967296:Int)^i:=o2 (by decide)
theorem Bk {u:List Int}(hu:fD (4294967296:Int) u){p:Nat}(hp:p+3≤u.length)(hb:nv (4294967296:Int) u<(4294967296:Int)^(p+3)):
  nv (4294967296:Int) u=nv (4294967296:Int) (u.take p)+(4294967296:Int)^p*(u.getD p 0+(4294967296:Int)*(u.getD (p+1) 0+(4294967296:Int)*u.getD (p+2) 0))∧0≤nv (4294967296:Int) (u.take p)∧nv (4294967296:Int) (u.take p)<(4294967296:Int)^p:=by
 have h1:=lQ (4294967296:Int) u p (by omega);have h2:=yE (4294967296:Int) u p (by omega);have h3:=yE (4294967296:Int) u (p+1) (by omega);have h4:=yE (4294967296:Int) u (p+1+1) (by omega);have ht:=zB (show(0:Int)<(4294967296:Int) by decide) (hu.take p);have hd:=zB (show(0:Int)<(4294967296:Int) by decide) (hu.drop (p+1+1+1));have hl:(u.take p).length=p:=by rw[j2];omega
 rw[hl]at ht;have g0:=hu.get (by decide) p;have g1:=hu.get (by decide) (p+1);have g2:=hu.get (by decide) (p+1+1);have hz:nv (4294967296:Int) (u.drop (p+1+1+1))=0:=by
  rcases hI 0 (nv (4294967296:Int) (u.drop (p+1+1+1)))with h|h
  ·exfalso;have hpp:=oE p;have e:nv (4294967296:Int) u=nv (4294967296:Int) (u.take p)+(4294967296:Int)^p*(u.getD p 0+(4294967296:Int)*(u.getD (p+1) 0+(4294967296:Int)*u.getD (p+1+1) 0))+(4294967296:Int)^(p+3)*nv (4294967296:Int) (u.drop (p+1+1+1)):=by
    rw[h1,h2,h3,h4,b8];have:(4294967296:Int)^3=(4294967296:Int)*(4294967296:Int)*(4294967296:Int):=by decide
    rw[this];grind
   have q1:=zE (aE hpp) (show 0≤u.getD p 0+(4294967296:Int)*(u.getD (p+1) 0+(4294967296:Int)*u.getD (p+1+1) 0) by omega);have q2:=pC (show 1≤nv (4294967296:Int) (u.drop (p+1+1+1)) by omega) (aE (oE (p+3)));omega
  ·omega
 refine⟨?_,ht.1,ht.2⟩;rw[h1,h2,h3,h4,hz];simp
theorem fj {U W P XX vt vs lo lo2 d:Int}(hP:0<P)(hU:U=XX*P+lo)(hW:W=(vt*(4294967296:Int)+vs)*P+lo2)(l0:0≤lo)(l1:lo<P)(m0:0≤lo2)(m1:lo2<P)(hvt:1≤vt)(hvs:0≤vs)(d0:0≤d)(d1:d<(4294967296:Int))(hd:d*(vt*(4294967296:Int)+vs)≤XX)
  (hq:∀q,0≤q→q<(4294967296:Int)→q*(vt*(4294967296:Int)+vs)≤XX→q≤d)(hU0:0≤U)(hUW:U<(4294967296:Int)*W):
  (d-1)*W≤U∧∃q,0≤q∧q<(4294967296:Int)∧q*W≤U∧U<(q+1)*W∧(d=q∨d=q+1):=by
 have hVV:(4294967296:Int)≤vt*(4294967296:Int)+vs:=by omega
 have hWP:(4294967296:Int)*P≤W:=by have:=hE hVV (aE hP);omega
 have hWpos:0<W:=by omega
 have h1:(d-1)*W≤U:=by
  have e1:d*W=d*(vt*(4294967296:Int)+vs)*P+d*lo2:=by rw[hW];grind
  have e2:=hE hd (aE hP);have e3:=gy (show d≤(4294967296:Int) by omega) (aE m1) m0 (by decide);have e4:(d-1)*W=d*W-W:=by grind
  omega
 refine⟨h1,U/W,j3 hU0 (aE hWpos),?_,?_,?_,?_⟩
 ·exact pn hWpos hUW
 ·exact Int.ediv_mul_le U (by omega)
 ·exact gx U hWpos
 ·have q0:0≤U/W:=j3 hU0 (aE hWpos);have q1:U/W<(4294967296:Int):=pn hWpos hUW;have q2:=Int.ediv_mul_le U (b:=W) (by omega);have q3:=gx U hWpos;generalize U/W=q at*;have up:q≤d:=by
   refine hq q q0 q1 ?_;have f1:q*W=q*(vt*(4294967296:Int)+vs)*P+q*lo2:=by rw[hW];grind
   have f2:=zE q0 m0;rcases hI XX (q*(vt*(4294967296:Int)+vs))with h|h
   ·exfalso;have:=hE (show XX+1≤q*(vt*(4294967296:Int)+vs) by omega) (aE hP);have f3:(XX+1)*P=XX*P+P:=by grind
    omega
   ·exact h
  have lw:d≤q+1:=by
   rcases hI (q+1) d with h|h
   ·exfalso;have:=hE (show q+1≤d-1 by omega) (aE hWpos);omega
   ·exact h
  omega
theorem Cs {u z:List Int}{k:Nat}(hu:fD (4294967296:Int) u)(hub:nv (4294967296:Int) u<(4294967296:Int)^k)(hk:k≤u.length)(hz:fD (4294967296:Int) z)(hzl:z.length=u.length)(hzd:z.drop k=u.drop k):0≤nv (4294967296:Int) z∧nv (4294967296:Int) z<(4294967296:Int)^k:=by
 have hzb:=zB (show(0:Int)<(4294967296:Int) by decide) hz;have s1:=lQ (4294967296:Int) z k (by omega);have s2:=lQ (4294967296:Int) u k (by omega);have ht:=zB (show(0:Int)<(4294967296:Int) by decide) (hz.take k);have htu:=zB (show(0:Int)<(4294967296:Int) by decide) (hu.take k);have hl1:(z.take k).length=k:=by rw[j2];omega
 rw[hl1]at ht;rw[hzd]at s1;have hdb:=zB (show(0:Int)<(4294967296:Int) by decide) (hu.drop k);have hzero:nv (4294967296:Int) (u.drop k)=0:=by
  rcases hI 0 (nv (4294967296:Int) (u.drop k))with h|h
  ·exfalso;have:=pC (show 1≤nv (4294967296:Int) (u.drop k) by omega) (aE (oE k));omega
  ·omega
 rw[hzero]at s1;omega
theorem A3 {N:Nat}(hN:1000000001<N){R:Type}(v:List Int)(hv:fD (4294967296:Int) v)(hvl:v.length≤10000000)(s:Int)(K0:Int→List Int→List Int→Option R)(f j:Nat)(u out:List Int)(hu:fD (4294967296:Int) u)(hl:u.length=out.length+v.length)(hul:u.length≤100000000)(hj:j<out.length)
  (hUb:nv (4294967296:Int) u<(4294967296:Int)^(j+(v.length+1)))(d q:Int)(d0:0≤d)(d1:d<(4294967296:Int))(q0:0≤q)(q1:q<(4294967296:Int))(q2:q*((4294967296:Int)^j*nv (4294967296:Int) v)≤nv (4294967296:Int) u)(q3:nv (4294967296:Int) u<(q+1)*((4294967296:Int)^j*nv (4294967296:Int) v))(q4:d=q∨d=q+1):
  ∃z,fD (4294967296:Int) z∧z.length=u.length∧nv (4294967296:Int) z=nv (4294967296:Int) u-q*((4294967296:Int)^j*nv (4294967296:Int) v)∧
   (bif (((decide (0≤(j:Int)))&&(decide ((j:Int)≤(aA ((aA ((j:Int)+(v.length:Int)))+1)))))&&(decide ((aA ((aA ((j:Int)+(v.length:Int)))+1))≤(aA ((aA ((j:Int)+(v.length:Int)))+1)))))&&(decide ((aA ((aA ((j:Int)+(v.length:Int)))+1))≤(u.length:Int)))then
     (Q17.f N (j:Int).toNat (((aA ((aA ((j:Int)+(v.length:Int)))+1)).toNat)- (j:Int).toNat) v (rE d) u).bind fun r34=>
     bif !r34.1 then
      bif (decide (0≤(j:Int)))&&(decide ((j:Int)<(out.length:Int)))then
       Q18.l7 N f (v.length:Int) s (aA ((j:Int)-1)) v r34.2 (out.set (j:Int).toNat (rE d)) K0
      else none
     else
     bif (decide (0≤(j:Int)))&&(decide ((j:Int)<(out.length:Int)))then
      Q18.l21 N N (v.length:Int) s (j:Int) (j:Int).toNat (((aA ((aA ((j:Int)+(v.length:Int)))+1)).toNat)- (j:Int).toNat) 0 ((((aA ((aA ((j:Int)+(v.length:Int)))+1)).toNat)- (j:Int).toNat:Nat):Int) 0 v r34.2 (out.set (j:Int).toNat (rE ((rE d)-1)))
       (fun y52 y53 y54 y55 y56 y57=>
        Q18.l7 N f y52 y53 (aA (y54-1)) y55 y56 y57 K0)
     else none
    else none)=Q18.l7 N f (v.length:Int) s ((j:Int)-1) v z (out.set j q) K0:=by
 have w5:aA ((j:Int)+(v.length:Int))=((j+v.length:Nat):Int):=by rw[dA (by omega) (by omega)];omega
 have w6:aA (((j+v.length:Nat):Int)+1)=((j+(v.length+1):Nat):Int):=by rw[dA (by omega) (by omega)];omega
 have w7:aA ((j:Int)-1)=(j:Int)-1:=dA (by omega) (by omega);have t4:(j:Int).toNat=j:=by omega
 have t5:((j+(v.length+1):Nat):Int).toNat-j=v.length+1:=by omega
 simp only[w5,w6,t4,t5,w7];have b5:(decide (0≤(j:Int))&&decide ((j:Int)≤((j+(v.length+1):Nat):Int))&&decide (((j+(v.length+1):Nat):Int)≤((j+(v.length+1):Nat):Int))&&decide (((j+(v.length+1):Nat):Int)≤(u.length:Int)))=true:=by simp;omega
 have b6:(decide (0≤(j:Int))&&decide ((j:Int)<(out.length:Int)))=true:=by simp;omega
 rw[b5,b6,dR d0 d1];simp only[cond_true];obtain⟨u',w',a1,a2,a3,a4,a5,a6,a7⟩:=jm hN hv (by omega) d0 d1 hu (off:=j) (by omega) (by omega);rw[a7];simp only[hB];obtain⟨n0,n1⟩:=Cs hu hUb (by omega) a1 a2 a6;have hdW:(4294967296:Int)^j*(d*nv (4294967296:Int) v)=d*((4294967296:Int)^j*nv (4294967296:Int) v):=by grind
 rw[hdW]at a5;generalize hWW:(4294967296:Int)^j*nv (4294967296:Int) v=W at*;rcases q4 with hdq'|hdq'
 ·subst hdq';have hw0:w'=0:=by
   rcases hI 0 w' with h|h
   ·have:w'=1:=by omega
    subst this;omega
   ·omega
  subst hw0;simp only[bne_self_eq_false,bs,cond_true];exact⟨u',a1,a2,by omega,rfl⟩
 ·subst hdq';have hq1:(q+1)*W=q*W+W:=by grind
  have hw1:w'=1:=by
   rcases hI 0 w' with h|h
   ·omega
   ·have:w'=0:=by omega
    subst this;omega
  subst hw1;have c1:(!((1:Int) != 0))=false:=by decide
  rw[c1];simp only[cond_false];rw[dR (n:=q+1-1) (by omega) (by omega)];have e1:q+1-1=q:=by omega
  rw[e1];obtain⟨u'',c',k1,k2,k3,k4,k5,k6,k7⟩:=rh N j v hv (by omega) s (j:Int) (out.set j q) (fun y52 y53 y54 y55 y56 y57=>Q18.l7 N f y52 y53 (aA (y54-1)) y55 y56 y57 K0) N 0 0 u' a1 (by omega) (by omega) (by omega) (by omega) (by omega) (by omega);have hz0:((0:Nat):Int)=0:=rfl;rw[hz0]at k7;rw[k7];simp only[w7];obtain⟨n2,n3⟩:=Cs hu hUb (by omega) k1 (by omega) (by rw[k6,a6]);simp only[Nat.add_zero,il,r8,l8,hWW]at k5;have hc1:c'=1:=by
   rcases hI 0 c' with h|h
   ·omega
   ·have:c'=0:=by omega
    subst this;omega
  subst hc1;exact⟨u'',k1,by omega,by omega,rfl⟩
theorem su {N:Nat}(hN:1000000001<N){R:Type}(v:List Int)(hv:fD (4294967296:Int) v)(n:Nat)(hn:v.length=n+2)(hvl:v.length≤10000000)(htop':2147483648≤v.getD (n+1) 0)(s:Int)(K0:Int→List Int→List Int→Option R)(f j:Nat)(u out:List Int)(hu:fD (4294967296:Int) u)(hl:u.length=out.length+v.length)(hul:u.length≤100000000)(hj:j<out.length)
  (hUW:nv (4294967296:Int) u<(4294967296:Int)*((4294967296:Int)^j*nv (4294967296:Int) v)):
  ∃q z,0≤q∧q<(4294967296:Int)∧nv (4294967296:Int) u<(q+1)*((4294967296:Int)^j*nv (4294967296:Int) v)∧fD (4294967296:Int) z∧z.length=u.length∧nv (4294967296:Int) z=nv (4294967296:Int) u-q*((4294967296:Int)^j*nv (4294967296:Int) v)∧Q18.l7 N (f+1) (v.length:Int) s (j:Int) v u out K0=Q18.l7 N f (v.length:Int) s ((j:Int)-1) v z (out.set j q) K0:=by
 have hvb:=zB (show(0:Int)<(4294967296:Int) by decide) hv;have hub:=zB (show(0:Int)<(4294967296:Int) by decide) hu;have hPj:=oE j;have hUb:nv (4294967296:Int) u<(4294967296:Int)^(j+n+3):=by
  have:=pC (aE hvb.2) (aE (oE (j+1)));rw[←b8,hn]at this;have e:j+1+(n+2)=j+n+3:=by omega
  have e2:(4294967296:Int)*((4294967296:Int)^j*nv (4294967296:Int) v)=(4294967296:Int)^(j+1)*nv (4294967296:Int) v:=by rw[j0];grind
  rw[e]at this;omega
 obtain⟨U1,U2,U3⟩:=Bk hu (p:=j+n) (by omega) hUb;have hvs1:=lQ (4294967296:Int) v n (by omega);have hvs2:=yE (4294967296:Int) v n (by omega);have hvs3:=yE (4294967296:Int) v (n+1) (by omega);have hvs4:v.drop (n+1+1)=[]:=hT.mpr (by omega);rw[hvs4]at hvs3;have hlo2:=zB (show(0:Int)<(4294967296:Int) by decide) (hv.take n);have hlen2:(v.take n).length=n:=by rw[j2];omega
 rw[hlen2]at hlo2;have gt:=hv.get (by decide) (n+1);have gs:=hv.get (by decide) n;have g0:=hu.get (by decide) (j+n+2);have g1:=hu.get (by decide) (j+n+1);have g2:=hu.get (by decide) (j+n);generalize hvt:v.getD (n+1) 0=vt at*;generalize hvs:v.getD n 0=vs at*;generalize hu0:u.getD (j+n+2) 0=u0 at*;generalize hu1:u.getD (j+n+1) 0=u1 at*;generalize hu2:u.getD (j+n) 0=u2 at*;have hW:(4294967296:Int)^j*nv (4294967296:Int) v=(vt*(4294967296:Int)+vs)*(4294967296:Int)^(j+n)+(4294967296:Int)^j*nv (4294967296:Int) (v.take n):=by rw[hvs1,hvs2,hvs3,b8];simp only[nv];grind
 have hU:nv (4294967296:Int) u=((u0*(4294967296:Int)+u1)*(4294967296:Int)+u2)*(4294967296:Int)^(j+n)+nv (4294967296:Int) (u.take (j+n)):=by rw[U1];grind
 have hlow:0≤(4294967296:Int)^j*nv (4294967296:Int) (v.take n)∧(4294967296:Int)^j*nv (4294967296:Int) (v.take n)<(4294967296:Int)^(j+n):=by refine⟨zE (aE hPj) hlo2.1,?_⟩;have:=aq hlo2.2 hPj;rw[←b8]at this;exact this
 have hXle:u0*(4294967296:Int)+u1≤vt*(4294967296:Int)+(4294967296:Int)-1:=by
  rcases hI (vt*(4294967296:Int)+(4294967296:Int)-1) (u0*(4294967296:Int)+u1)with h|h
  ·exfalso;have hpp:=oE (j+n);have q1:=hE (show(vt*(4294967296:Int)+(4294967296:Int))*(4294967296:Int)≤(u0*(4294967296:Int)+u1)*(4294967296:Int)+u2 by omega) (aE hpp);have q2:=hE (show vt*(4294967296:Int)+vs+1≤vt*(4294967296:Int)+(4294967296:Int) by omega) (aE hpp);have e1:(vt*(4294967296:Int)+(4294967296:Int))*(4294967296:Int)*(4294967296:Int)^(j+n)=(4294967296:Int)*((vt*(4294967296:Int)+(4294967296:Int))*(4294967296:Int)^(j+n)):=by grind
   have e2:(vt*(4294967296:Int)+vs+1)*(4294967296:Int)^(j+n)=(vt*(4294967296:Int)+vs)*(4294967296:Int)^(j+n)+(4294967296:Int)^(j+n):=by grind
   omega
  ·exact h
 have hX0:0≤u0*(4294967296:Int)+u1:=by omega
 have hdm:=cP (u0*(4294967296:Int)+u1) vt;have hm0:=hQ (u0*(4294967296:Int)+u1) (b:=vt) (by omega);have hm1:=hL (u0*(4294967296:Int)+u1) (b:=vt) (by omega);have hd0:0≤(u0*(4294967296:Int)+u1)/vt:=j3 hX0 (by omega);have hd1:(u0*(4294967296:Int)+u1)/vt≤4294967297:=by
  rcases hI 4294967297 ((u0*(4294967296:Int)+u1)/vt)with h|h
  ·exfalso;have:=pC (show 4294967298≤(u0*(4294967296:Int)+u1)/vt by omega) (show 0≤vt by omega);omega
  ·exact h
 have hX:lA (u0*(4294967296:Int)+u1)=u0*(4294967296:Int)+u1:=pA hX0 (by omega);have hguess0:∀q,0≤q→q<(4294967296:Int)→q*(vt*(4294967296:Int)+vs)≤(u0*(4294967296:Int)+u1)*(4294967296:Int)+u2→q≤(u0*(4294967296:Int)+u1)/vt:=by
  intro q q0 q1 hq;have f1:q*(vt*(4294967296:Int)+vs)=q*vt*(4294967296:Int)+q*vs:=by grind
  have f2:=zE q0 gs.1;have f3:q*vt≤u0*(4294967296:Int)+u1:=by
   rcases hI (u0*(4294967296:Int)+u1) (q*vt)with h|h
   ·omega
   ·exact h
  exact(dy (by omega)).mpr f3
 have hdm':(u0*(4294967296:Int)+u1)/vt*vt+(u0*(4294967296:Int)+u1)%vt=u0*(4294967296:Int)+u1:=by rw[ae];exact hdm
 have w2:aA ((v.length:Int)-1)=((n+1:Nat):Int):=by rw[dA (by omega) (by omega)];omega
 have w3:aA (((j+n+2:Nat):Int)-1)=((j+n+1:Nat):Int):=by rw[dA (by omega) (by omega)];omega
 have w5:aA ((j:Int)+(v.length:Int))=((j+n+2:Nat):Int):=by rw[dA (by omega) (by omega)];omega
 have t1:((j+n+2:Nat):Int).toNat=j+n+2:=by omega
 have t2:((j+n+1:Nat):Int).toNat=j+n+1:=by omega
 have t3:((n+1:Nat):Int).toNat=n+1:=by omega
 have b0:decide ((j:Int)≥0)=true:=decide_eq_true (by omega);have b1:(decide (0≤((j+n+2:Nat):Int))&&decide (((j+n+2:Nat):Int)<(u.length:Int)))=true:=by simp;omega
 have b2:(decide (0≤((j+n+1:Nat):Int))&&decide (((j+n+1:Nat):Int)<(u.length:Int)))=true:=by simp;omega
 have b3:(decide (0≤((n+1:Nat):Int))&&decide (((n+1:Nat):Int)<(v.length:Int)))=true:=by simp;omega
 have evt:lA vt=vt:=pA (by omega) (by omega);have b4:(vt==0)=false:=by simp;omega
 have er:oD .u64 (lA (lA u0*2^32)) (lA u1)=u0*(4294967296:Int)+u1:=by rw[pA g0.1 (by omega),pA g1.1 (by omega),tN,pA (n:=u0*4294967296) (by omega) (by omega),iN g0.1 g0.2 g1.1 g1.2]
 rw[Q18.l7];simp only[b0,w5,w3,w2,b1,b2,b3,cond_true,t1,t2,t3,hvt,hu0,hu1,evt,b4,bs,er,dO hX0,xH hX0];rw[pA hd0 (by omega)];obtain⟨d,d0,d1,hdle,hdq,hgo⟩:=kg N v u out (n+2) j s (u0*(4294967296:Int)+u1) (by omega) hn.symm (by omega) (by omega) (by omega) hv hu vt vs u2 hvt hvs hu2 htop' hXle
  (fun y27 y28 y29 y30 y31 y32 y33=>
   bif (((decide (0≤y29))&&(decide (y29≤(aA ((aA (y29+y27))+1)))))&&(decide ((aA ((aA (y29+y27))+1))≤(aA ((aA (y29+y27))+1)))))&&(decide ((aA ((aA (y29+y27))+1))≤(y32.length:Int)))then
    (Q17.f N y29.toNat (((aA ((aA (y29+y27))+1)).toNat)-y29.toNat) y31 (rE y30) y32).bind fun r34=>
    bif !r34.1 then
     bif (decide (0≤y29))&&(decide (y29<(y33.length:Int)))then
      Q18.l7 N f y27 y28 (aA (y29-1)) y31 r34.2 (y33.set y29.toNat (rE y30)) K0
     else none
    else
    bif (decide (0≤y29))&&(decide (y29<(y33.length:Int)))then
     Q18.l21 N N y27 y28 y29 y29.toNat (((aA ((aA (y29+y27))+1)).toNat)-y29.toNat) 0 ((((aA ((aA (y29+y27))+1)).toNat)-y29.toNat:Nat):Int) 0 y31 r34.2 (y33.set y29.toNat (rE ((rE y30)-1)))
      (fun y52 y53 y54 y55 y56 y57=>
       Q18.l7 N f y52 y53 (aA (y54-1)) y55 y56 y57 K0)
    else none
   else none) N ((u0*(4294967296:Int)+u1)/vt) ((u0*(4294967296:Int)+u1)%vt) hd0 hd1 hm0 (by omega) hdm' (by omega) hguess0
 have hn':(v.length:Int)=((n+2:Nat):Int):=by omega
 have hgo':=hgo;rw[←hn']at hgo';rw[hgo'];obtain⟨_,q,q0,q1,q2,q3,q4⟩:=fj (oE (j+n)) hU hW U2 U3 hlow.1 hlow.2 (by omega) gs.1 d0 d1 hdle hdq hub.1 hUW;have hUb':nv (4294967296:Int) u<(4294967296:Int)^(j+(v.length+1)):=by
  have e:j+(v.length+1)=j+n+3:=by omega
  rw[e];exact hUb
 obtain⟨z,z1,z2,z3,z4⟩:=A3 hN v hv hvl s K0 f j u out hu hl hul hj hUb' d q d0 d1 q0 q1 q2 q3 q4;exact⟨q,z,q0,q1,q3,z1,z2,z3,z4⟩
theorem so {N:Nat}(hN:1000000001<N){R:Type}(v:List Int)(hv:fD (4294967296:Int) v)(h2:2≤v.length)(hvl:v.length≤10000000)(htop:2147483648≤v.getD (v.length-1) 0)(s:Int)(K0:Int→List Int→List Int→Option R):
  ∀(m fuel:Nat) (u out:List Int),fD (4294967296:Int) u→fD (4294967296:Int) out→u.length=out.length+v.length→u.length≤100000000→m≤out.length→m<fuel→nv (4294967296:Int) u<(4294967296:Int)^m*nv (4294967296:Int) v→(∀k,k<m→out.getD k 0=0)→
   ∃u' out',fD (4294967296:Int) u'∧fD (4294967296:Int) out'∧u'.length=u.length∧out'.length=out.length∧nv (4294967296:Int) out'*nv (4294967296:Int) v+nv (4294967296:Int) u'=nv (4294967296:Int) out*nv (4294967296:Int) v+nv (4294967296:Int) u∧nv (4294967296:Int) u'<nv (4294967296:Int) v∧Q18.l7 N fuel (v.length:Int) s ((m:Int)-1) v u out K0=K0 s u' out':=by
 intro m;induction m with
 |zero=>
  intro fuel u out hu ho hl hul hm hf hlt hz;obtain⟨f,rfl⟩:∃f,fuel=f+1:=⟨fuel-1,by omega⟩
  refine⟨u,out,hu,ho,rfl,rfl,rfl,by simpa using hlt,?_⟩;rw[Q18.l7];have:decide (((0:Nat):Int)-1≥0)=false:=by decide
  rw[this];rfl
 |succ j ih=>
  intro fuel u out hu ho hl hul hm hf hlt hz;obtain⟨f,rfl⟩:∃f,fuel=f+1:=⟨fuel-1,by omega⟩
  obtain⟨n,hn⟩:∃n,v.length=n+2:=⟨v.length-2,by omega⟩
  have hUW:nv (4294967296:Int) u<(4294967296:Int)*((4294967296:Int)^j*nv (4294967296:Int) v):=by
   have e:(4294967296:Int)^(j+1)*nv (4294967296:Int) v=(4294967296:Int)*((4294967296:Int)^j*nv (4294967296:Int) v):=by rw[j0];grind
   omega
  obtain⟨q,z,q0,q1,q3,z1,z2,z3,z4⟩:=su hN v hv n hn hvl (by rw[hn]at htop;exact htop) s K0 f j u out hu hl hul (by omega) hUW;have o3:nv (4294967296:Int) (out.set j q)=nv (4294967296:Int) out+(4294967296:Int)^j*q:=by rw[jK (4294967296:Int) q out j (by omega),hz j (by omega)];simp
  have o4:∀k,k<j→(out.set j q).getD k 0=0:=fun k hk=>by rw[hV,List.getElem?_set_ne (by omega),←hV];exact hz k (by omega)
  have ol:(out.set j q).length=out.length:=by simp
  obtain⟨u'',out'',r1,r2,r3,r4,r5,r6,r7⟩:=ih f z (out.set j q) z1 (ho.set j q0 q1) (by omega) (by omega) (by omega) (by omega) (by
   have:(q+1)*((4294967296:Int)^j*nv (4294967296:Int) v)=q*((4294967296:Int)^j*nv (4294967296:Int) v)+(4294967296:Int)^j*nv (4294967296:Int) v:=by grind
   omega) o4
  have w4:((j+1:Nat):Int)-1=(j:Int):=by omega
  refine⟨u'',out'',r1,r2,by omega,by omega,?_,r6,by rw[w4,z4,r7]⟩;rw[r5,o3,z3];grind
theorem xZ {l:List Int}(h:fD (4294967296:Int) l){n:Nat}(hn:l.length=n+1):nv (4294967296:Int) l=nv (4294967296:Int) (l.take n)+(4294967296:Int)^n*l.getD n 0∧0≤nv (4294967296:Int) (l.take n)∧nv (4294967296:Int) (l.take n)<(4294967296:Int)^n:=by
 have h1:=gE (4294967296:Int) l n (by omega);have h2:l.take (n+1)=l:=cy (by omega);rw[h2]at h1;have h3:=zB (show(0:Int)<(4294967296:Int) by decide) (h.take n);have h4:(l.take n).length=n:=by rw[j2];omega
 rw[h4]at h3;exact⟨h1,h3.1,h3.2⟩
theorem Fq {x:Int}(h0:0<x)(h1:x<(4294967296:Int)):∃k:Nat,k≤31∧aA (32-wD x)=(k:Int)∧2147483648≤2^k*x∧2^k*(x+1)≤(4294967296:Int):=by
 have b0:=xC x;have b1:wD x≤(32:Nat):=(mF (aE h0) 32).mpr (by rw[show(2:Int)^32=(4294967296:Int)from tN];exact h1);have b2:¬wD x≤(0:Nat):=fun h=>by have:=(mF (aE h0) 0).mp h;simp at this;omega
 obtain⟨m,hm⟩:∃m:Nat,wD x=(m:Int)+1:=⟨(wD x).toNat-1,by omega⟩
 have hm31:m≤31:=by omega
 have u1:x<2^(m+1):=(mF (aE h0) (m+1)).mp (by omega);have u2:¬x<2^m:=fun h=>by have:=(mF (aE h0) m).mpr h;omega
 refine⟨31-m,by omega,by rw[dA (by omega) (by omega)];omega,?_,?_⟩
 ·have:=pC (show(2:Int)^m≤x by omega) (aE (kN (31-m)));rw[←b8]at this;have e:31-m+m=31:=by omega
  rw[e]at this;have e2:(2:Int)^31=2147483648:=by decide
  omega
 ·have:=pC (show x+1≤(2:Int)^(m+1) by omega) (aE (kN (31-m)));rw[←b8]at this;have e:31-m+(m+1)=32:=by omega
  rw[e,tN]at this;exact this
theorem kv {N:Nat}(hN:1000000001<N){a b:List Int}(ha:qO (4294967296:Int) a)(hb:qO (4294967296:Int) b)(h2:2≤b.length)(hle:b.length≤a.length)(hs:a.length≤1000000):
  Q18.f N a b=some (enc (4294967296:Int) (nv (4294967296:Int) a/nv (4294967296:Int) b),enc (4294967296:Int) (nv (4294967296:Int) a%nv (4294967296:Int) b)):=by
 obtain⟨n,hn⟩:∃n,b.length=n+1:=⟨b.length-1,by omega⟩
 have hbne:b≠ []:=fun h=>by rw[h]at h2;simp at h2
 have htop:=hb.top hbne;have hbl:=hb.lower (by decide) hbne;have w1:aA ((b.length:Int)-1)=(n:Int):=by rw[dA (by omega) (by omega)];omega
 have t1:(n:Int).toNat=n:=by omega
 have b1:(decide (0≤(n:Int))&&decide ((n:Int)<(b.length:Int)))=true:=by simp;omega
 have e1:b.length-1=n:=by omega
 rw[e1]at htop hbl;have gt:=hb.dig.get (by decide) n;obtain⟨s1,s2,s3⟩:=xZ hb.dig hn;generalize htp:b.getD n 0=tp at*;obtain⟨k,k0,k1,k2,k3⟩:=Fq (x:=tp) (by omega) gt.2;have hp2:=kN k;have hPn:=oE n;have fitb:2^k*nv (4294967296:Int) b<(4294967296:Int)^b.length:=by
  have q1:2^k*nv (4294967296:Int) b<2^k*((4294967296:Int)^n*(tp+1)):=aq (by rw[s1];grind) hp2;have q2:=pC k3 (aE hPn);have e:2^k*((4294967296:Int)^n*(tp+1))=(4294967296:Int)^n*(2^k*(tp+1)):=by grind
  rw[hn,j0];omega
 have hab:=zB (show(0:Int)<(4294967296:Int) by decide) ha.dig;have hbb:=zB (show(0:Int)<(4294967296:Int) by decide) hb.dig;have fita:2^k*nv (4294967296:Int) a<(4294967296:Int)^(a.length+1):=by have q1:=aq hab.2 hp2;have q2:=hE (show(2:Int)^k≤(4294967296:Int) by have:=pk k0;omega) (aE (oE a.length));rw[j0];have e:(4294967296:Int)^a.length*(4294967296:Int)=(4294967296:Int)*(4294967296:Int)^a.length:=ae _ _;omega
 obtain⟨v,v1,v2,v3,v4⟩:=jd hN hb.dig k0 (m:=b.length) (by omega) (c6 _) fitb;obtain⟨u,u1,u2,u3,u4⟩:=jd hN ha.dig k0 (m:=a.length+1) (by omega) (by omega) fita;have w2:aA ((a.length:Int)+1)=((a.length+1:Nat):Int):=by rw[dA (by omega) (by omega)];omega
 obtain⟨m,hm⟩:∃m,a.length+1=b.length+m:=⟨a.length+1-b.length,by omega⟩
 have w3:aA ((u.length:Int)- (b.length:Int))=(m:Int):=by rw[dA (by omega) (by omega)];omega
 have w4:aA ((m:Int)-1)=(m:Int)-1:=dA (by omega) (by omega);have t2:(m:Int).toNat=m:=by omega
 unfold Q18.f Q13.f;rw[w1,b1,t1,htp,eT N gt.1 gt.2];simp only[cond_true,hB];rw[k1,v4,w2,u4];simp only[hB];rw[w3,gb (by omega),t2,w4];simp only[cond_true];have hvt:2147483648≤v.getD (v.length-1) 0:=by
  obtain⟨x1,x2,x3⟩:=xZ v1 (n:=n) (by omega);have e2:v.length-1=n:=by omega
  rw[e2];rcases hI (v.getD n 0) 2147483648 with h|h
  ·exfalso;have q1:=pC (show v.getD n 0+1≤2147483648 by omega) (aE hPn);have q2:=pC k2 (aE hPn);have q3:=zE (aE hp2) s2;have e3:2^k*nv (4294967296:Int) b=2^k*nv (4294967296:Int) (b.take n)+(4294967296:Int)^n*(2^k*tp):=by rw[s1];grind
   have e4:(4294967296:Int)^n*(v.getD n 0+1)=(4294967296:Int)^n*v.getD n 0+(4294967296:Int)^n:=by grind
   omega
  ·exact h
 have hVpos:0<nv (4294967296:Int) b:=by have:=oE n;omega
 have hlt:nv (4294967296:Int) u<(4294967296:Int)^m*nv (4294967296:Int) v:=by
  rw[u3,v3];have q1:=pC hbl (aE (oE m));rw[←b8]at q1;have e5:m+n=a.length:=by omega
  rw[e5]at q1;have q2:=aq (show nv (4294967296:Int) a<(4294967296:Int)^m*nv (4294967296:Int) b by omega) hp2;have e6:(4294967296:Int)^m*(2^k*nv (4294967296:Int) b)=2^k*((4294967296:Int)^m*nv (4294967296:Int) b):=by grind
  omega
 obtain⟨u',out',r1,r2,r3,r4,r5,r6,r7⟩:=so hN v v1 (by omega) (by omega) hvt (k:Int) (fun y61 y62 y63=>
     (Q2.f N 0 y63.length y63).bind fun r64=>
     (Q16.f N y62 y61).bind fun r65=>
     some ((r64.2.2.drop r64.1).take r64.2.1,r65)) m N u (List.replicate m 0) u1 (fD.replicate (by decide) m) (by simp;omega) (by omega) (by simp) (by omega) hlt (fun k _=>az m k)
 rw[v2]at r7;rw[r7];have hol:out'.length=m:=by rw[r4];simp
 obtain⟨c1,c2⟩:=oL hN out' (by omega);rw[c1];simp only[hB,c2];rw[jw hN r1 (by omega) k0,sI r2];simp only[hB];rw[pF,fr,ck,u3,v3]at r5;rw[v3]at r6;have hub:=zB (show(0:Int)<(4294967296:Int) by decide) r1;have hdvd:nv (4294967296:Int) u'=2^k*(nv (4294967296:Int) a-nv (4294967296:Int) out'*nv (4294967296:Int) b):=by
  have:nv (4294967296:Int) out'*(2^k*nv (4294967296:Int) b)=2^k*(nv (4294967296:Int) out'*nv (4294967296:Int) b):=by grind
  rw[Int.mul_sub];omega
 have hdiv:nv (4294967296:Int) u'/2^k=nv (4294967296:Int) a-nv (4294967296:Int) out'*nv (4294967296:Int) b:=by rw[hdvd];exact j1 _ (by omega)
 have lo:0≤nv (4294967296:Int) a-nv (4294967296:Int) out'*nv (4294967296:Int) b:=by rw[←hdiv];exact j3 hub.1 (aE hp2)
 have hi:nv (4294967296:Int) a-nv (4294967296:Int) out'*nv (4294967296:Int) b<nv (4294967296:Int) b:=by rw[hdvd]at r6;exact Int.lt_of_mul_lt_mul_left r6 (aE hp2)
 have hu:=(p8 (a:=nv (4294967296:Int) a) (r:=nv (4294967296:Int) a-nv (4294967296:Int) out'*nv (4294967296:Int) b) (q:=nv (4294967296:Int) out') hVpos).mpr ⟨by grind,lo,hi⟩;rw[hdiv,hu.1,hu.2]
theorem uY {N:Nat}(hN:1000000001<N){u v:Int}(hu:Rg u)(hv:Rg v):Q19.f N (enc (4294967296:Int) u) (enc (4294967296:Int) v)=some (if v=0 then([],[],11)else(enc (4294967296:Int) (u/v),enc (4294967296:Int) (u%v),0)):=by
 obtain⟨hu0,huK⟩:=hu;obtain⟨hv0,hvK⟩:=hv;obtain⟨cu,eu⟩:=bD B2 hu0;obtain⟨cv,ev⟩:=bD B2 hv0;have lu:=pD hu0 huK;have lv:=pD hv0 hvK;unfold Q19.f;by_cases hz:v=0
 ·subst hz;rw[xM B2];simp
 ·rw[if_neg hz];have hne:enc (4294967296:Int) v≠ []:=fun h=>hz ((nu B2 hv0).mp h);have hlen:0<(enc (4294967296:Int) v).length:=y7.mpr hne;have c0:(((enc (4294967296:Int) v).length:Int)==0)=false:=by simp;omega
  rw[c0,u6 hN hu0 huK hv0];simp only[cond_false,hB];by_cases hlt:u<v
  ·have:decide (uu u v<0)=true:=by unfold uu;rw[if_neg (by omega),if_pos hlt];rfl
   rw[this,pb hu0 hlt,ln hu0 hlt,xM B2];rfl
  ·have:decide (uu u v<0)=false:=by
    unfold uu;by_cases h:u=v
    ·rw[if_pos h];rfl
    ·rw[if_neg h,if_neg hlt];rfl
   rw[this];simp only[cond_false];have hvp:0<v:=by omega
   by_cases h1:(enc (4294967296:Int) v).length=1
   ·have c1:(((enc (4294967296:Int) v).length:Int)==1)=true:=by simp;omega
    have c2:decide (0<((enc (4294967296:Int) v).length:Int))=true:=decide_eq_true (by omega);obtain⟨x,hx⟩:∃x,enc (4294967296:Int) v=[x]:=by
     match hh:enc (4294967296:Int) v,h1 with
     | [x],_=>exact⟨x,rfl⟩
    have hxv:x=v:=by rw[hx]at ev;simpa[nv]using ev
    subst hxv;have hxb:x<(4294967296:Int):=by have:=cv.dig x (by rw[hx];simp);exact this.2
    rw[c1,c2,lz (by omega)];simp only[cond_true];have hg:(enc (4294967296:Int) x).getD 0 0=x:=by rw[hx];rfl
    obtain⟨l',g1,g2,g3,g4⟩:=iw hN cu.dig (m:=(enc (4294967296:Int) u).length) (c6 _) (by omega) hvp hxb;rw[cy (c6 _),eu]at g3 g4;have g3':nv (4294967296:Int) l'=u/x:=by rw[←g3,cy (by omega)]
    rw[hg,g4];simp only[hB];obtain⟨k1,k2⟩:=oL hN l' (by omega);have m0:=hQ u (b:=x) (by omega);have m1:=hL u (b:=x) hvp;rw[k1,pA m0 (by omega),pQ hN m0 (by omega)];simp only[hB,k2];rw[sI g1,g3']
   ·have c1:(((enc (4294967296:Int) v).length:Int)==1)=false:=by simp;omega
    have hle:(enc (4294967296:Int) v).length≤(enc (4294967296:Int) u).length:=by
     rcases mx (enc (4294967296:Int) u).length (enc (4294967296:Int) v).length with h|h
     ·have:=kJ cu cv h;omega
     ·exact h
    rw[c1,kv hN cu cv (by omega) hle (by omega),eu,ev];rfl
def rB (a b:Int):Int:=(Int.gcd a b:Int)
theorem uV {a b:Int}(ha:0≤a)(hb:0<b):rB b (a%b)=rB a b:=by
 unfold rB;obtain⟨m,rfl⟩:=q7 ha;obtain⟨n,rfl⟩:=q7 (aE hb);have e:((m:Int)%(n:Int))=((m%n:Nat):Int):=by simp
 rw[e];show((Nat.gcd n (m%n):Nat):Int)=((Nat.gcd m n:Nat):Int);rw[Nat.gcd_comm n,←Nat.gcd_rec,Nat.gcd_comm]
theorem aQ {a:Int}(ha:0≤a):rB a 0=a:=by
 unfold rB;rw[Int.gcd_zero_right];omega
theorem se {v r:Int}(hr:0<r)(hv:r<v):2*(v%r)<v:=by
 have h1:=cP v r;have h2:=hL v hr;have h3:1≤v/r:=(dy hr).mpr (by omega);have h4:=pC h3 (aE hr);omega
theorem xP {N:Nat}(hN:1000000001<N){R:Type}(K0:List Int→Option R):∀(k n:Nat) (u v:Int),Rg u→Rg v→v<2^k→2*k+1≤n→Q20.l1 N n (enc (4294967296:Int) u) (enc (4294967296:Int) v) K0=K0 (enc (4294967296:Int) (rB u v)):=by
 have stop:∀(n:Nat) (u:Int),Rg u→Q20.l1 N (n+1) (enc (4294967296:Int) u) (enc (4294967296:Int) 0) K0=K0 (enc (4294967296:Int) (rB u 0)):=by intro n u hu;rw[Q20.l1,xM B2,aQ hu.1];rfl
 have one:∀(n:Nat) (u v:Int),Rg u→Rg v→v≠0→Q20.l1 N (n+1) (enc (4294967296:Int) u) (enc (4294967296:Int) v) K0=Q20.l1 N n (enc (4294967296:Int) v) (enc (4294967296:Int) (u%v)) K0:=by intro n u v hu hv hz;rw[Q20.l1];have hne:enc (4294967296:Int) v≠ []:=fun h=>hz ((nu B2 hv.1).mp h);have hlen:0<(enc (4294967296:Int) v).length:=y7.mpr hne;have c:decide (((enc (4294967296:Int) v).length:Int)>0)=true:=decide_eq_true (by omega);rw[c,uY hN hu hv,if_neg hz];rfl
 have rem:∀(u v:Int),Rg u→Rg v→v≠0→Rg (u%v)∧u%v<v:=by
  intro u v hu hv hz;have hp:0<v:=by have:=hv.1;omega
  have h0:=hQ u hz;have h1:=hL u hp;exact⟨⟨h0,by have:=hv.2;omega⟩,h1⟩
 intro k;induction k with
 |zero=>
  intro n u v hu hv hk hn;obtain⟨n',rfl⟩:∃n',n=n'+1:=⟨n-1,by omega⟩
  have hv0:=hv.1;have:v=0:=by simp at hk;omega
  subst this;exact stop n' u hu
 |succ k ih=>
  intro n u v hu hv hk hn;obtain⟨n',rfl⟩:∃n',n=n'+1+1:=⟨n-2,by omega⟩
  have hu0:=hu.1;have hv0:=hv.1;by_cases hz:v=0
  ·subst hz;exact stop _ u hu
  ·obtain⟨r1,r2⟩:=rem u v hu hv hz;have g1:=uV hu0 (show 0<v by omega);rw[one _ u v hu hv hz,←g1];generalize u%v=r at*;by_cases hr:r=0
   ·subst hr;exact stop _ v hv
   ·have hr0:=r1.1;obtain⟨q1,q2⟩:=rem v r hv r1 hr;have g2:=uV hv0 (show 0<r by omega);rw[one _ v r hv r1 hr,←g2];have hh:=se (show 0<r by omega) r2;have hp:(2:Int)^(k+1)=2*2^k:=by rw[j0];omega
    exact ih n' r (v%r) r1 q1 (by omega) (by omega)
theorem sb {N:Nat}(hN:1000000001<N){u v:Int}(hu:Rg u)(hv:Rg v):Q20.f N (enc (4294967296:Int) u) (enc (4294967296:Int) v)=some (enc (4294967296:Int) (rB u v)):=by
 unfold Q20.f;exact xP hN _ 4096 N u v hu hv (by have:=hv.2;unfold K at this;exact this) (by omega)
theorem B7 {u v:Int}(hu:Rg u)(hv:Rg v):Rg (rB u v):=by
 have h0:0≤rB u v:=by unfold rB;omega
 refine⟨h0,?_⟩;by_cases hz:u=0
 ·subst hz;have:rB 0 v=v:=by unfold rB;rw[Int.gcd_zero_left];have:=hv.1;omega
  rw[this];exact hv.2
 ·have:=c8 (by have:=hu.1;omega) (Int.gcd_dvd_left u v);have h2:=hu.2;unfold rB;omega
def ab (x:Int):Int:=if x<0 then-x else x
theorem fB (x:Int):0≤ab x:=by unfold ab;split<;>omega
theorem xA (x:Int):(0≤x∧ab x=x)∨(x<0∧ab x= -x):=by unfold ab;split<;>omega
theorem bG {x:Int}:ab x=0↔x=0:=by rcases xA x with⟨h,e⟩|⟨h,e⟩<;>omega
def sg (x:Int):Bool:=decide (x<0)
theorem kz (N:Nat){v:Int}(b:Bool)(h:Rg v):Q21.f N b (enc (4294967296:Int) v)=some (b&&decide (0<v),enc (4294967296:Int) v):=by
 obtain⟨h1,h2⟩:=bD B2 h.lo;have hl:=pD h.lo h.hi;unfold Q21.f;rw[fG N h1 (by omega),h2];cases b
 ·rfl
 ·have:=xC v;have hz:=mF h.lo 0;have e0:(2:Int)^0=1:=rfl;rw[e0]at hz;have:decide (wD v>0)=decide (0<v):=by
   refine decide_eq_decide.mpr ⟨fun q=>?_,fun q=>?_⟩
   ·rcases hI 0 v with p|p
    ·exact p
    ·have:=hz.mpr (by omega);omega
   ·rcases hI 0 (wD v)with p|p
    ·exact p
    ·have:=hz.mp (by omega);omega
  simp[this]
noncomputable def pB (x:Int):List Int:=enc (4294967296:Int) (ab x)
def sv (b:Bool)(v:Int):Int:=if b then-v else v
abbrev Zr (x:Int):Prop:=Rg (ab x)
theorem po:pB 0=[]:=xM B2
theorem qa:sg 0=false:=rfl
theorem rC {v:Int}(h:0≤v):ab v=v:=by unfold ab;rw[if_neg (by omega)]
theorem Cf (x:Int):ab (ab x)=ab x:=rC (fB x)
theorem rO (x:Int):ab (-x)=ab x:=by unfold ab;split<;>split<;>omega
theorem Et (b:Bool){v:Int}(h:0≤v):sg (sv b v)=(b&&decide (0<v)):=by
 unfold sg sv;cases b
 ·simp;omega
 ·rw[if_pos rfl];by_cases h1:0<v
  ·rw[decide_eq_true h1,decide_eq_true (by omega)];rfl
  ·rw[decide_eq_false h1,decide_eq_false (by omega)];rfl
theorem nk (b:Bool){v:Int}(h:0≤v):ab (sv b v)=v:=by
 unfold ab sv;cases b
 ·simp;omega
 ·rw[if_pos rfl];split<;>omega
theorem Ew (x:Int):sv (sg x) (ab x)=x:=by
 unfold sv sg ab;by_cases h:x<0<;>simp[h]
theorem Dt (x:Int):sv (!sg x) (ab x)= -x:=by
 unfold sv sg ab;by_cases h:x<0<;>simp[h]
theorem zD (x:Int):(sg x=true∧x<0∧ab x= -x)∨(sg x=false∧0≤x∧ab x=x):=by
 unfold sg ab;by_cases h:x<0
 ·left;exact⟨decide_eq_true h,h,if_pos h⟩
 ·right;exact⟨decide_eq_false h,by omega,if_neg h⟩
theorem bm (b:Bool):sv b 0=0:=by cases b<;>rfl
theorem eE {x:Int}(h:ab x<K):Zr x:=⟨fB x,h⟩
theorem qu:Zr 0:=eE uy
theorem Ea {x:Int}(h:Zr x):Zr (-x):=eE (by rw[rO];exact h.hi)
theorem F6 {x:Int}(h:Zr x):Zr (ab x):=eE (by rw[Cf];exact h.hi)
def zo (r:Int):Int:=if ab r<K then r else 0
def ze (r:Int):Int:=if ab r<K then 0 else 3
theorem jg {r:Int}(h:Zr r):zo r=r:=if_pos h.hi
theorem F5 {r:Int}(h:Zr r):ze r=0:=if_pos h.hi
theorem lK {N:Nat}{v:Int}(b:Bool)(h:Rg v):Q21.f N b (enc (4294967296:Int) v)=some (sg (sv b v),pB (sv b v)):=by
 rw[kz N b h,Et b h.lo];unfold pB;rw[nk b h.lo]
theorem cn {N:Nat}{x:Int}(b:Bool)(h:Zr x):Q21.f N b (pB x)=some (sg (sv b (ab x)),pB (sv b (ab x))):=lK b h
theorem B1 (u v:Int):decide (uu u v<0)=decide (u<v):=by
 unfold uu;by_cases h:u=v
 ·rw[if_pos h,decide_eq_false (show ¬u<v by omega)];rfl
 ·by_cases h1:u<v
  ·rw[if_neg h,if_pos h1,decide_eq_true h1];rfl
  ·rw[if_neg h,if_neg h1,decide_eq_false h1];rfl
theorem vg {x y:Int}(h:sg x=sg y):sv (sg x) (ov (ab x+ab y))=zo (x+y)∧oe (ab x+ab y)=ze (x+y):=by
 have e:ab (x+y)=ab x+ab y:=by
  rcases zD x with⟨a1,a2,a3⟩|⟨a1,a2,a3⟩<;>rcases zD y with⟨b1,b2,b3⟩|⟨b1,b2,b3⟩<;>rw[a1,b1]at h
  ·rw[a3,b3];unfold ab;rw[if_pos (by omega)];omega
  ·cases h
  ·cases h
  ·rw[a3,b3];unfold ab;rw[if_neg (by omega)]
 have e2:sg (x+y)=sg x∨x+y=0:=by
  rcases zD x with⟨a1,a2,a3⟩|⟨a1,a2,a3⟩<;>rcases zD y with⟨b1,b2,b3⟩|⟨b1,b2,b3⟩<;>rw[a1,b1]at h
  ·left;rw[a1];exact decide_eq_true (by omega)
  ·cases h
  ·cases h
  ·left;rw[a1];exact decide_eq_false (by omega)
 unfold zo ze ov oe;rw[e];refine⟨?_,rfl⟩;split
 ·rw[←e];rcases e2 with e2|e2
  ·rw[←e2];exact Ew _
  ·rw[e2];exact bm _
 ·exact bm _
theorem ve {x y:Int}(hx:Zr x)(hy:Zr y)(h:sg x≠sg y):Zr (x+y)∧(ab x<ab y→sv (sg y) (ab y-ab x)=x+y)∧(ab y≤ab x→sv (sg x) (ab x-ab y)=x+y):=by
 have hx1:=hx.hi;have hy1:=hy.hi;rcases zD x with⟨a1,a2,a3⟩|⟨a1,a2,a3⟩<;>rcases zD y with⟨b1,b2,b3⟩|⟨b1,b2,b3⟩<;>rw[a1,b1]at h
 ·exact absurd rfl h
 ·refine⟨eE ?_,?_,?_⟩
  ·rcases xA (x+y)with⟨c1,c2⟩|⟨c1,c2⟩<;>omega
  ·intro _;rw[b1,a3,b3];unfold sv;simp;omega
  ·intro _;rw[a1,a3,b3];unfold sv;simp;omega
 ·refine⟨eE ?_,?_,?_⟩
  ·rcases xA (x+y)with⟨c1,c2⟩|⟨c1,c2⟩<;>omega
  ·intro _;rw[b1,a3,b3];unfold sv;simp;omega
  ·intro _;rw[a1,a3,b3];unfold sv;simp
 ·exact absurd rfl h
theorem D2 {N:Nat}(hN:1000000001<N){x y:Int}(hx:Zr x)(hy:Zr y):Q24.f N (sg x) (pB x) (sg y) (pB y)=some (sg (zo (x+y)),pB (zo (x+y)),ze (x+y)):=by
 unfold Q24.f;by_cases h:sg x=sg y
 ·have c:(sg x==sg y)=true:=by rw[h];exact beq_self_eq_true _
  obtain⟨e1,e2⟩:=vg h;rw[c];simp only[cond_true];unfold pB;rw[Ef hN hx hy];simp only[hB];rw[lK _ (Rg.ov (by have:=hx.lo;have:=hy.lo;omega)),e1,e2];rfl
 ·have c:(sg x==sg y)=false:=beq_eq_false_iff_ne.mpr h;obtain⟨e1,e2,e3⟩:=ve hx hy h;rw[c,jg e1,F5 e1];simp only[cond_false];unfold pB;rw[Fi hN hx hy];simp only[hB];rw[B1];by_cases hl:ab x<ab y
  ·rw[decide_eq_true hl];simp only[cond_true];rw[bl hN hy.lo hy.hi hx.lo,if_neg (by omega)];simp only[hB];rw[lK _ ⟨by omega,by have:=hy.hi;have:=hx.lo;omega⟩,e2 hl];rfl
  ·rw[decide_eq_false hl];simp only[cond_false];rw[bl hN hx.lo hx.hi hy.lo,if_neg hl];simp only[hB];rw[lK _ ⟨by omega,by have:=hx.hi;have:=hy.lo;omega⟩,e3 (by omega)];rfl
theorem D3 {N:Nat}{x:Int}(hx:Zr x):Q27.f N (sg x) (pB x)=some (sg (-x),pB (-x)):=by
 unfold Q27.f;rw[cn _ hx,Dt];rfl
theorem D4 {N:Nat}(hN:1000000001<N){x y:Int}(hx:Zr x)(hy:Zr y):Q28.f N (sg x) (pB x) (sg y) (pB y)=some (sg (zo (x-y)),pB (zo (x-y)),ze (x-y)):=by
 unfold Q28.f;rw[D3 hy];simp only[hB];rw[D2 hN hx (Ea hy),Int.sub_eq_add_neg];rfl
theorem ji (x y:Int):ab (x*y)=ab x*ab y:=by
 rcases xA x with⟨a2,a3⟩|⟨a2,a3⟩<;>rcases xA y with⟨b2,b3⟩|⟨b2,b3⟩<;>rw[a3,b3]
 ·exact rC (zE a2 b2)
 ·rw[c5,←rO,rC (by have:=zE a2 (show 0≤ -y by omega);rw[c5]at this;exact this)]
 ·rw[ko,←rO,rC (by have:=zE (show 0≤ -x by omega) b2;rw[ko]at this;exact this)]
 ·rw[Int.neg_mul_neg];exact rC (aE (Int.mul_pos_of_neg_of_neg a2 b2))
theorem A6 (x y:Int):sv (!(sg x==sg y)) (ab x*ab y)=x*y:=by
 rcases zD x with⟨a1,a2,a3⟩|⟨a1,a2,a3⟩<;>rcases zD y with⟨b1,b2,b3⟩|⟨b1,b2,b3⟩<;>rw[a1,b1,a3,b3]<;>unfold sv
 ·simp[Int.neg_mul_neg]
 ·simp[ko]
 ·simp[c5]
 ·simp
theorem xz (x y:Int):sv (!(sg x==sg y)) (ov (ab x*ab y))=zo (x*y)∧oe (ab x*ab y)=ze (x*y):=by
 unfold zo ze ov oe;rw[ji];refine⟨?_,rfl⟩;split
 ·exact A6 x y
 ·exact bm _
theorem F3 {N:Nat}(hN:1000000001<N){x y:Int}(hx:Zr x)(hy:Zr y):Q25.f N (sg x) (pB x) (sg y) (pB y)=some (sg (zo (x*y)),pB (zo (x*y)),ze (x*y)):=by
 unfold Q25.f;obtain⟨e1,e2⟩:=xz x y;unfold pB;rw[Ft hN hx hy];simp only[hB];rw[lK _ (Rg.ov (zE hx.lo hy.lo)),e1,e2];rfl
def sn (x:Int):Int:=if ab x=0 then 0 else if sg x then-1 else 1
theorem cL (x:Int):(x=0∧sn x=0)∨(x<0∧sn x= -1)∨(0<x∧sn x=1):=by
 unfold sn;by_cases h:x=0
 ·left;exact⟨h,if_pos (bG.mpr h)⟩
 ·rw[if_neg (fun q=>h (bG.mp q))];rcases zD x with⟨a1,a2,a3⟩|⟨a1,a2,a3⟩
  ·right;left;rw[a1];exact⟨a2,rfl⟩
  ·right;right;rw[a1];exact⟨by omega,rfl⟩
theorem Dr (x:Int):decide (sn x<0)=decide (x<0):=by
 rcases cL x with⟨s1,s2⟩|⟨s1,s2⟩|⟨s1,s2⟩<;>rw[s2]
 ·rw[decide_eq_false (show ¬x<0 by omega)];rfl
 ·rw[decide_eq_true s1];rfl
 ·rw[decide_eq_false (show ¬x<0 by omega)];rfl
theorem lP {N:Nat}{x:Int}(hx:Zr x):Q26.f N (sg x) (pB x)=some (sn x):=by
 obtain⟨h1,h2⟩:=bD B2 hx.lo;have hl:=pD hx.lo hx.hi;unfold Q26.f pB;rw[fG N h1 (by omega),h2];simp only[hB];have hz:=dK hx.lo;unfold sn;by_cases h:ab x=0
 ·rw[if_pos h,hz.mpr h];rfl
 ·have c:(wD (ab x)==0)=false:=beq_eq_false_iff_ne.mpr (fun q=>h (hz.mp q));rw[if_neg h,c];cases sg x<;>rfl
theorem F4 {N:Nat}(hN:1000000001<N){n:Int}(h0: -9223372036854775808≤n)(h1:n<9223372036854775808):Q22.f N n=some (sg n,pB n):=by
 unfold Q22.f pB;rcases zD n with⟨a1,a2,a3⟩|⟨a1,a2,a3⟩
 ·have e:lA (0-lA n)= -n:=by rw[eR,eR];omega
  rw[decide_eq_true a2,e,pQ hN (by omega) (by omega),a1,a3];rfl
 ·have d:decide (n<0)=false:=decide_eq_false (by omega);rw[d,pA (n:=n) (by omega) (by omega),a1,a3];simp only[cond_false];rw[pQ hN (by omega) (by omega)];rfl
theorem E9 {n:Int}(h0: -9223372036854775808≤n)(h1:n<9223372036854775808):Zr n:=eE (by have:=Cb;rcases xA n with⟨c1,c2⟩|⟨c1,c2⟩<;>omega)
theorem zk {x y:Int}(hy:y≠0):
  ((sg x=true∧0<ab x%ab y)→sv (!(sg x==sg y)) (ab x/ab y+1)=x/y∧ab y-ab x%ab y=x%y)∧
  (¬(sg x=true∧0<ab x%ab y)→sv (!(sg x==sg y)) (ab x/ab y)=x/y∧ab x%ab y=x%y):=by
 have yp:0<ab y:=by have:=fB y;have:ab y≠0:=fun q=>hy (bG.mp q);omega
 have e1:x/y=sv (sg y) (x/ab y)∧x%y=x%ab y:=by
  rcases zD y with⟨b1,b2,b3⟩|⟨b1,b2,b3⟩
  ·rw[b1,b3,Int.emod_neg,Int.ediv_neg];unfold sv;simp
  ·rw[b1,b3];exact⟨rfl,rfl⟩
 obtain⟨e2,e3⟩:=e1;rw[e2,e3];generalize ab y=d at*;rcases zD x with⟨a1,a2,a3⟩|⟨a1,a2,a3⟩
 ·rw[a1,a3];have d1:=cP (-x) d;have d2:=hQ (-x) (show d≠0 by omega);have d3:=hL (-x) yp;generalize-x/d=q at*;generalize-x%d=r at*;refine⟨fun h=>?_,fun h=>?_⟩
  ·have u:=(p8 (a:=x) (r:=d-r) (q:= -(q+1)) yp).mpr ⟨by grind,by omega,by omega⟩;rw[u.1,u.2];refine⟨?_,rfl⟩;cases sg y<;>simp[sv]
  ·have hr:r=0:=by
    rcases hI 0 r with h1|h1
    ·exact absurd ⟨rfl,h1⟩ h
    ·omega
   subst hr;have u:=(p8 (a:=x) (r:=0) (q:= -q) yp).mpr ⟨by grind,by omega,by omega⟩;rw[u.1,u.2];refine⟨?_,rfl⟩;cases sg y<;>simp[sv]
 ·rw[a1,a3];refine⟨fun h=>(by cases h.1),fun _=>⟨?_,rfl⟩⟩;cases sg y<;>simp[sv]
theorem Am {N:Nat}(hN:1000000001<N){x y:Int}(hx:Zr x)(hy:Zr y)(h:y≠0):Q29.f N (sg x) (pB x) (sg y) (pB y)=some (sg (x/y),pB (x/y),sg (x%y),pB (x%y),0)∧Zr (x/y)∧Zr (x%y):=by
 obtain⟨t1,t2⟩:=zk (x:=x) h;have x0:=hx.lo;have y0:=hy.lo;have xK:=hx.hi;have yK:=hy.hi;have hyz:ab y≠0:=fun q=>h (bG.mp q);have yp:0<ab y:=by omega
 have q0:0≤ab x/ab y:=j3 x0 y0;have q1:ab x/ab y≤ab x:=en _ x0;have r0:=hQ (ab x) hyz;have r1:=hL (ab x) yp;have hq:Rg (ab x/ab y):=⟨q0,by omega⟩
 have hr:Rg (ab x%ab y):=⟨r0,by omega⟩
 unfold Q29.f;unfold pB;rw[uY hN hx hy,if_neg hyz];have c0:((0:Int) != 0)=false:=rfl;simp only[hB,c0,cond_false];by_cases hc:sg x=true∧0<ab x%ab y
 ·obtain⟨u1,u2⟩:=t1 hc;obtain⟨c1,c2⟩:=hr.lo,hr.hi;obtain⟨h1,h2⟩:=bD B2 hr.lo;have hl:=pD hr.lo hr.hi;have hbit:=fG N h1 (by omega);rw[h2]at hbit;have hbz:=dK hr.lo;have hbn:=xC (ab x%ab y);have c3:decide (wD (ab x%ab y)>0)=true:=decide_eq_true (by
   have:wD (ab x%ab y)≠0:=fun q=>by have:=hbz.mp q;omega
   omega)
  rw[hc.1];simp only[cond_true];rw[hbit];simp only[hB,c3,cond_true];rw[pQ hN (by decide) (by decide)];simp only[hB];have one:Rg 1:=⟨by decide,by have:=Cb;omega⟩
  have hq1:ab x/ab y+1<K:=by
   by_cases h2:ab y=1
   ·rw[h2,Int.emod_one]at hc;omega
   ·have d1:=cP (ab x) (ab y);have d2:=hE (show 2≤ab y by omega) q0;omega
  have hq1':Rg (ab x/ab y+1):=⟨by omega,hq1⟩
  rw[Ef hN hq one];simp only[hB];have ho:ov (ab x/ab y+1)=ab x/ab y+1:=if_pos hq1;rw[ho,bl hN y0 yK r0,if_neg (by omega)];simp only[hB];have hr':Rg (ab y-ab x%ab y):=⟨by omega,by omega⟩
  rw[lK _ hq1'];simp only[hB];rw[lK _ hr'];simp only[hB];rw[hc.1]at u1;have u3:sv false (ab y-ab x%ab y)=x%y:=u2;rw[u1,u3];refine⟨rfl,eE ?_,eE ?_⟩
  ·rw[←u1,nk _ (by omega)];exact hq1
  ·rw[←u2,rC (by omega)];omega
 ·obtain⟨u1,u2⟩:=t2 hc;have u3:sv false (ab x%ab y)=x%y:=u2;have rL:((Q21.f N (!(sg x==sg y)) (enc (4294967296:Int) (ab x/ab y))).bind fun r12=>
    (Q21.f N false (enc (4294967296:Int) (ab x%ab y))).bind fun r13=>
    some (r12.1,r12.2,r13.1,r13.2,(0:Int)))=some (sg (x/y),enc (4294967296:Int) (ab (x/y)),sg (x%y),enc (4294967296:Int) (ab (x%y)),0):=by
   rw[lK _ hq];simp only[hB];rw[lK _ hr];simp only[hB];rw[u1,u3];rfl
  refine⟨?_,eE ?_,eE ?_⟩
  ·by_cases hs:sg x=true
   ·obtain⟨h1,h2⟩:=bD B2 hr.lo;have hl:=pD hr.lo hr.hi;have hbit:=fG N h1 (by omega);rw[h2]at hbit;have hrz:ab x%ab y=0:=by
     rcases hI 0 (ab x%ab y)with h3|h3
     ·exact absurd ⟨hs,h3⟩ hc
     ·omega
    have c3:decide (wD (ab x%ab y)>0)=false:=by rw[(dK hr.lo).mpr hrz];rfl
    rw[hs]at rL⊢;simp only[cond_true];rw[hbit];simp only[hB,c3,cond_false];exact rL
   ·have hs':sg x=false:=by cases hq:sg x<;>simp_all
    rw[hs']at rL⊢;exact rL
  ·rw[←u1,nk _ q0];omega
  ·rw[←u2,rC r0];omega
theorem qt {N:Nat}(hN:1000000001<N){x y:Int}(hx:Zr x)(hy:Zr y)(h:y≠0):Q30.f N (sg x) (pB x) (sg y) (pB y)=some (if x%y=0 then(sg (x/y),pB (x/y),0)else(false,[],2)):=by
 obtain⟨q1,q2,q3⟩:=Am hN hx hy h;unfold Q30.f;rw[q1];have c0:((0:Int) != 0)=false:=rfl;simp only[hB,c0,cond_false];rw[lP q3];simp only[hB];rcases cL (x%y)with⟨s1,s2⟩|⟨s1,s2⟩|⟨s1,s2⟩<;>rw[s2]
 ·rw[if_pos s1];rfl
 ·rw[if_neg (by omega)];rfl
 ·rw[if_neg (by omega)];rfl
theorem qx (x y:Int):ab (x+y)≤ab x+ab y:=by
 rcases xA x with⟨a1,a2⟩|⟨a1,a2⟩<;>rcases xA y with⟨b1,b2⟩|⟨b1,b2⟩<;>rcases xA (x+y)with⟨c1,c2⟩|⟨c1,c2⟩<;>omega
theorem vN (x y:Int):ab (x-y)≤ab x+ab y:=by
 have:=qx x (-y);rw[rO,←Int.sub_eq_add_neg]at this;exact this
theorem Aj {n:Int}(h1:9223372036854775808≤n)(h2:n<18446744073709551616):aA n=n-18446744073709551616:=by
 simp only[aA,IntKind.wrap];simp[IntKind.bits,IntKind.signed];omega
theorem Fc {N:Nat}{x:Int}(hx:Zr x):Q23.f N (sg x) (pB x)=some (if-9223372036854775808≤x∧x<9223372036854775808 then(x,true)else(0,false)):=by
 unfold Q23.f pB;rw[ui N hx.lo];simp only[hB];have x0:=hx.lo;by_cases h:ab x<18446744073709551616
 ·rw[if_pos h];simp only[eh,cond_false];by_cases h1:ab x>9223372036854775808
  ·rw[decide_eq_true h1,if_neg (by rcases xA x with⟨c1,c2⟩|⟨c1,c2⟩<;>omega)];rfl
  ·rw[decide_eq_false h1];simp only[cond_false];rcases zD x with⟨a1,a2,a3⟩|⟨a1,a2,a3⟩
   ·have e:aA (lA (0-ab x))=x:=by
     rw[eR];have:(0-ab x)%18446744073709551616=x+18446744073709551616:=by omega
     rw[this,Aj (by omega) (by omega)];omega
    rw[a1,e,if_pos (by omega)];by_cases h2:ab x=9223372036854775808
    ·have c2:(ab x==9223372036854775808)=true:=by rw[h2];rfl
     rw[c2];rfl
    ·have c2:(ab x==9223372036854775808)=false:=beq_eq_false_iff_ne.mpr h2;rw[c2];rfl
   ·rw[a1];by_cases h2:ab x=9223372036854775808
    ·have c2:(ab x==9223372036854775808)=true:=by rw[h2];rfl
     rw[c2,if_neg (by omega)];rfl
    ·have c2:(ab x==9223372036854775808)=false:=beq_eq_false_iff_ne.mpr h2;rw[c2,if_pos (by omega),a3,dA (n:=x) (by omega) (by omega)];rfl
 ·rw[if_neg h,if_neg (by rcases xA x with⟨c1,c2⟩|⟨c1,c2⟩<;>omega)];rfl
structure cF (c m r s u v w z:Int):Prop where
 r0:0<r
 s0:0≤s
 sr:s<r
 rm:r≤m
 er:r=u*c+w*m
 es:s=v*c+z*m
 det:ab u*s+ab v*r=m
 op:(u≤0∧0≤v)∨(0≤u∧v≤0)
 half:2*ab u≤m
theorem qy {w m b:Int}(hm:0<m)(h:ab (w*m)≤b*m):ab w≤b:=by
 rw[ji,rC (show 0≤m by omega)]at h;exact Int.le_of_mul_le_mul_right h hm
theorem gv {c m r u w:Int}(hm:0<m)(r0:0≤r)(rm:r≤m)(er:r=u*c+w*m)(hu:ab u≤m):ab w≤1+ab c:=by
 refine qy hm ?_;have e:w*m=r-u*c:=by omega
 rw[e];have h1:=vN r (u*c);rw[ji,rC r0]at h1;have h2:=hE hu (fB c);have e2:(1+ab c)*m=m+m*ab c:=by grind
 omega
theorem cF.vm {c m r s u v w z:Int}(h:cF c m r s u v w z):ab v≤m:=by
 have h1:=h.det;have h2:=zE (fB u) h.s0;have h3:=pC (show 1≤r by have:=h.r0;omega) (fB v);omega
theorem cF.m0 {c m r s u v w z:Int}(h:cF c m r s u v w z):0<m:=by have:=h.r0;have:=h.rm;omega
theorem cF.um {c m r s u v w z:Int}(h:cF c m r s u v w z):ab u≤m:=by
 have:=h.m0;have:=h.half;have:=fB u;omega
theorem cF.w1 {c m r s u v w z:Int}(h:cF c m r s u v w z):ab w≤1+ab c:=gv h.m0 (by have:=h.r0;omega) h.rm h.er h.um
theorem cF.z1 {c m r s u v w z:Int}(h:cF c m r s u v w z):ab z≤1+ab c:=gv h.m0 h.s0 (by have:=h.sr;have:=h.rm;omega) h.es h.vm
theorem cF.step {c m r s u v w z:Int}(h:cF c m r s u v w z)(hs:s≠0):cF c m s (r%s) v (u-r/s*v) z (w-r/s*z):=by
 have s0:0<s:=by have:=h.s0;omega
 have d1:=cP r s;have d2:=hQ r hs;have d3:=hL r s0;have q0:0≤r/s:=j3 (aE h.r0) h.s0;generalize r%s=t at*;generalize r/s=q at*;have ev:ab (u-q*v)=ab u+q*ab v∧((v≤0∧0≤u-q*v)∨(0≤v∧u-q*v≤0)):=by
  rcases h.op with⟨a,b⟩|⟨a,b⟩
  ·have hqv:=zE q0 b;have e1:ab v=v:=rC b;have e2:ab u= -u:=by rw[←rO];exact rC (by omega)
   have e3:ab (u-q*v)= -(u-q*v):=by rw[←rO];exact rC (by omega)
   rw[e1,e2,e3];exact⟨by omega,Or.inr ⟨b,by omega⟩⟩
  ·have hqv:=zE q0 (show 0≤ -v by omega);rw[c5]at hqv;have e1:ab v= -v:=by rw[←rO];exact rC (by omega)
   have e2:ab u=u:=rC a;have e3:ab (u-q*v)=u-q*v:=rC (by omega);rw[e1,e2,e3,c5];exact⟨by omega,Or.inl ⟨b,by omega⟩⟩
 have hdet:=h.det;refine⟨s0,d2,d3,by have:=h.sr;have:=h.rm;omega,h.es,?_,?_,?_,?_⟩
 ·have e1:=h.er;have e2:=h.es;grind
 ·rw[ev.1];grind
 ·rcases ev.2 with⟨a,b⟩|⟨a,b⟩
  ·exact Or.inl ⟨a,b⟩
  ·exact Or.inr ⟨a,b⟩
 ·have hu:=zE (fB u) h.s0;have hr:2≤r:=by have:=h.sr;omega
  have h3:=pC hr (fB v);omega
theorem cF.first {c m:Int}(hm:0<m):cF c m m (c%m) 0 1 1 (-(c/m)):=by
 have d1:=cP c m;have d2:=hQ c (show m≠0 by omega);have d3:=hL c hm;have e0:ab 0=0:=rfl;have e1:ab 1=1:=rfl;have e2:c/m*m=m*(c/m):=ae _ _;refine⟨hm,d2,d3,iv _,by omega,?_,by rw[e0,e1];omega,Or.inl ⟨by decide,by decide⟩,by rw[e0];omega⟩;rw[ko];omega
theorem cF.qv {c m r s u v w z:Int}(h:cF c m r s u v w z)(hs:s≠0):ab (r/s*v)≤2*m∧ab (r/s*z)≤2+2*ab c:=by
 have g:=h.step hs;have a1:=g.vm;have a2:=h.um;have a3:=g.z1;have a4:=h.w1;have e1:r/s*v=u- (u-r/s*v):=by omega
 have e2:r/s*z=w- (w-r/s*z):=by omega
 have b1:=vN u (u-r/s*v);have b2:=vN w (w-r/s*z);rw[←e1]at b1;rw[←e2]at b2;exact⟨by omega,by omega⟩
theorem cF.fall {c m r s u v w z:Int}(h:cF c m r s u v w z)(hs:s≠0):2*(s*(r%s))≤r*s:=by
 have s0:0<s:=by have:=h.s0;omega
 have d1:=cP r s;have d2:=hQ r hs;have d3:=hL r s0;have h3:1≤r/s:=(dy s0).mpr (by have:=h.sr;omega);have h4:=pC h3 (aE s0);have h5:=pC (show 2*(r%s)≤r by omega) (aE s0);have e:s*(2*(r%s))=2*(s*(r%s)):=by grind
 have e2:s*r=r*s:=ae _ _;omega
theorem cF.gcd {c m r s u v w z:Int}(h:cF c m r s u v w z)(hs:s≠0):rB s (r%s)=rB r s:=uV (aE h.r0) (by have:=h.s0;omega)
theorem zO (N:Nat)(b:Bool)(l:List Int)(e:Int):Q31.f N b l e=some (b,l):=rfl
theorem eW {N:Nat}(hN:1000000001<N){a q b:Int}(ha:Zr a)(hq:Zr q)(hb:Zr b)(h1:Zr (q*b))(h2:Zr (a-q*b)):Q32.f N (sg a) (pB a) (sg q) (pB q) (sg b) (pB b)=some (sg (a-q*b),pB (a-q*b)):=by
 unfold Q32.f;rw[F3 hN hq hb,jg h1];simp only[hB,zO];rw[D4 hN ha h1,jg h2];rfl
theorem wi {N:Nat}(hN:1000000001<N){R:Type}{c m:Int}(hc:2+2*ab c<K)(hm:2*m<K)(x9:Bool)(x10:List Int)(x11:Bool)(x12:List Int)(x13 x14:Bool)(K0:Bool→List Int→Bool→List Int→Bool→Bool→Bool→List Int→Bool→List Int→Option R):
  ∀(k n:Nat) (r s u v w z:Int),cF c m r s u v w z→r*s<2^k→k<n→∃u' w',u'*c+w'*m=rB r s∧2*ab u'≤m∧ab w'≤1+ab c∧
   Q33.l5 N n x9 x10 x11 x12 x13 x14 (sg s) (pB s) (sg r) (pB r) (sg u) (pB u) (sg v) (pB v) (sg w) (pB w) (sg z) (pB z) K0=K0 x9 x10 x11 x12 x13 x14 (sg u') (pB u') (sg w') (pB w'):=by
 intro k;induction k with
 |zero=>
  intro n r s u v w z h hk hn;obtain⟨n',rfl⟩:∃n',n=n'+1:=⟨n-1,by omega⟩
  have hs:s=0:=by
   rcases hI 0 s with h1|h1
   ·have:=y8 h.r0 h1;simp at hk;omega
   ·have:=h.s0;omega
  subst hs;refine⟨u,w,?_,h.half,h.w1,?_⟩
  ·rw[aQ (aE h.r0)];exact h.er.symm
  ·rw[Q33.l5,lP qu];rfl
 |succ k ih=>
  intro n r s u v w z h hk hn;obtain⟨n',rfl⟩:∃n',n=n'+1:=⟨n-1,by omega⟩
  by_cases hs:s=0
  ·subst hs;refine⟨u,w,?_,h.half,h.w1,?_⟩
   ·rw[aQ (aE h.r0)];exact h.er.symm
   ·rw[Q33.l5,lP qu];rfl
  ·have g:=h.step hs;have hr:Zr r:=eE (by rw[rC (aE h.r0)];have:=h.rm;have:=h.m0;omega);have hs':Zr s:=eE (by rw[rC h.s0];have:=h.rm;have:=h.sr;have:=h.m0;omega);have hm0:=h.m0;have zu:Zr u:=eE (by have:=h.um;omega);have zv:Zr v:=eE (by have:=h.vm;omega);have ac:=fB c;have zw:Zr w:=eE (by have:=h.w1;omega);have zz:Zr z:=eE (by have:=h.z1;omega);have zv':Zr (u-r/s*v):=eE (by have:=g.vm;omega);have zz':Zr (w-r/s*z):=eE (by have:=g.z1;omega);obtain⟨b1,b2⟩:=h.qv hs;have zqv:Zr (r/s*v):=eE (by omega);have zqz:Zr (r/s*z):=eE (by omega);obtain⟨q1,q2,q3⟩:=Am hN hr hs' hs;have hp:(2:Int)^(k+1)=2*2^k:=by rw[j0];omega
   obtain⟨u',w',e1,e2,e3,e4⟩:=ih n' s (r%s) v (u-r/s*v) z (w-r/s*z) g (by have:=h.fall hs;omega) (by omega);refine⟨u',w',by rw[e1];exact h.gcd hs,e2,e3,?_⟩;rw[Q33.l5,lP hs'];simp only[hB];have c0:(sn s==0)=false:=by
    rcases cL s with⟨s1,s2⟩|⟨s1,s2⟩|⟨s1,s2⟩<;>rw[s2]
    ·exact absurd s1 hs
    ·rfl
    ·rfl
   rw[c0];simp only[cond_false];rw[q1];simp only[hB];rw[eW hN zu q2 zv zqv zv'];simp only[hB];rw[eW hN zw q2 zz zqz zz'];simp only[hB];exact e4
theorem rl {N:Nat}(hN:1000000001<N){c m:Int}(hc:3*ab c+3<K)(hm:2*m<K)(m0:0<m):∃x y,x*c+y*m=rB m (c%m)∧0≤x∧x<m∧ab y≤1+2*ab c∧Q33.f N (sg c) (pB c) (sg m) (pB m)=some (sg x,pB x,sg y,pB y):=by
 have ac:=fB c;have zc:Zr c:=eE (by omega);have am:ab m=m:=rC (by omega);have zm:Zr m:=eE (by omega);have one:Zr 1:=E9 (by decide) (by decide);obtain⟨q1,q2,q3⟩:=Am hN zc zm (by omega);have h:=cF.first (c:=c) m0;have big:m*(c%m)<2^8192:=by
  have h1:=h.s0;have h2:=h.sr;have k1:=pC (show c%m≤m by omega) (aE m0);have k2:=pC (show m≤K-1 by omega) (aE m0);have k3:=hE (show m≤K-1 by omega) (show 0≤K-1 by omega);have e:(2:Int)^8192=K*K:=by unfold K;rw[←b8]
  have k4:(K-1)*(K-1)<K*K:=by
   have:(K-1)*(K-1)=K*K-2*K+1:=by grind
   have:=uy;omega
  omega
 unfold Q33.f;rw[q1,F4 hN (by decide) (by decide)];simp only[hB];rw[D3 q2];simp only[hB];obtain⟨u,w,e1,e2,e3,e4⟩:=wi hN (c:=c) (m:=m) (by omega) hm (sg c) (pB c) (sg m) (pB m) false false (fun y41 y42 y43 y44 y45 y46 y47 y48 y49 y50=>
   (Q26.f N y47 y48).bind fun r51=>
   bif decide (r51<0)then
    (Q24.f N y47 y48 y43 y44).bind fun r52=>
    (Q31.f N r52.1 r52.2.1 r52.2.2).bind fun r53=>
    (Q28.f N y49 y50 y41 y42).bind fun r54=>
    (Q31.f N r54.1 r54.2.1 r54.2.2).bind fun r55=>
    some (r53.1,r53.2,r55.1,r55.2)
   else
   some (y47,y48,y49,y50)) 8192 N m (c%m) 0 1 1 (-(c/m)) h big (by omega)
 rw[qa,po]at e4;rw[e4];have zu:Zr u:=eE (by omega);have zw:Zr w:=eE (by omega);rw[lP zu];simp only[hB];rw[Dr];by_cases hu:u<0
 ·have au:ab u= -u:=by unfold ab;rw[if_pos hu]
  have zum:Zr (u+m):=eE (by rw[rC (by omega)];omega);have k1:=vN w c;have zwc:Zr (w-c):=eE (by omega);refine⟨u+m,w-c,by rw[←e1];grind,by omega,by omega,by omega,?_⟩;rw[decide_eq_true hu];simp only[cond_true];rw[D2 hN zu zm,jg zum];simp only[hB,zO];rw[D4 hN zw zc,jg zwc];rfl
 ·have au:ab u=u:=rC (by omega);refine⟨u,w,e1,by omega,by omega,by omega,?_⟩;rw[decide_eq_false hu];rfl
structure GT (a b g x y:Int):Prop where
 eg:g=rB a b
 sum:a*x+b*y=g
 bz:b=0→x=sn a∧y=0
 lo:b≠0→0≤x∧x<ab b/g
theorem kY (a:Int):(ab a).natAbs=a.natAbs:=by
 rcases xA a with⟨c1,c2⟩|⟨c1,c2⟩<;>rw[c2];omega
theorem s8 (a b:Int):rB (ab a) (ab b)=rB a b:=by
 unfold rB Int.gcd;rw[kY,kY]
theorem yC (a b:Int):0≤rB a b:=by unfold rB;omega
theorem kC (a b:Int):rB a b∣a:=Int.gcd_dvd_left a b
theorem qB (a b:Int):rB a b∣b:=Int.gcd_dvd_right a b
theorem tV {a b:Int}(h:b≠0):0<rB a b:=by
 rcases hI 0 (rB a b)with h1|h1
 ·exact h1
 ·have h2:=yC a b;have h3:rB a b=0:=by omega
  have h4:=qB a b;rw[h3]at h4;exact absurd (fp.mp h4) h
theorem oM {d a:Int}(h:d∣a):d∣ab a:=by
 rcases xA a with⟨c1,c2⟩|⟨c1,c2⟩<;>rw[c2]
 ·exact h
 ·exact oj.mpr h
theorem nz {a b:Int}(h:b≠0):rB (ab b/rB a b) ((a/rB a b)%(ab b/rB a b))=1:=by
 have gp:=tV (a:=a) h;have h1:=kC a b;have h2:=oM (qB a b);have h2':=qB a b;obtain⟨m,hm⟩:=h2;obtain⟨c,hc⟩:=h1;have all:∀d,d∣a→d∣b→d∣rB a b:=fun d p q=>Int.dvd_coe_gcd p q;generalize rB a b=g at*;have e1:ab b/g=m:=by rw[hm];exact j1 _ (by omega)
 have e2:a/g=c:=by rw[hc];exact j1 _ (by omega)
 rw[e1,e2];have k1:=kC m (c%m);have k2:=qB m (c%m);have k3:=yC m (c%m);generalize rB m (c%m)=G at*;have k4:G∣c:=by have:=cP c m;rw[←this];exact ds (b7 k1 (da m _)) k2
 have k5:g*G∣a:=by rw[hc];exact py g k4
 have k6:g*G∣b:=by
  have:g*G∣ab b:=by rw[hm];exact py g k1
  rcases xA b with⟨c1,c2⟩|⟨c1,c2⟩<;>rw[c2]at this
  ·exact this
  ·exact oj.mp this
 have k7:=c8 gp (all _ k5 k6);by_cases hG:G=0
 ·subst hG;have k8:=all _ k5 k6;rw[r8]at k8;have:=fp.mp k8;omega
 ·by_cases hG1:G=1
  ·exact hG1
  ·have:=pC (show 2≤G by omega) (aE gp);omega
theorem A5 (y b:Int):b*sv (!(sg y==sg b)) (ab y)=y*ab b:=by
 rcases zD y with⟨a1,a2,a3⟩|⟨a1,a2,a3⟩<;>rcases zD b with⟨b1,b2,b3⟩|⟨b1,b2,b3⟩<;>rw[a1,b1,a3,b3]<;>unfold sv<;>simp[c5,ko,ae]
theorem GT.of {a b g c m x y:Int}(hb:b≠0)(hg:g=rB a b)(gp:0<g)(hc:a=g*c)(hm:ab b=g*m)(h1:x*c+y*m=1)(x0:0≤x)(x1:x<m):GT a b g x (sv (!(sg y==sg b)) (ab y)):=by
 refine⟨hg,?_,fun h=>absurd h hb,fun _=>⟨x0,?_⟩⟩
 ·rw[A5,hm,hc];have:g*c*x+y*(g*m)=g*(x*c+y*m):=by grind
  rw[this,h1];omega
 ·have:ab b/g=m:=by rw[hm];exact j1 _ (by omega)
  rw[this];exact x1
theorem GT.unique {a b g x y g' x' y':Int}(h:GT a b g x y)(k:GT a b g' x' y'):g=g'∧x=x'∧y=y':=by
 have e1:g=g':=by rw[h.eg,k.eg]
 subst e1;refine⟨rfl,?_⟩;by_cases hb:b=0
 ·obtain⟨p1,p2⟩:=h.bz hb;obtain⟨q1,q2⟩:=k.bz hb;exact⟨by rw[p1,q1],by rw[p2,q2]⟩
 ·obtain⟨p1,p2⟩:=h.lo hb;obtain⟨q1,q2⟩:=k.lo hb;have gp:=tV (a:=a) hb;rw[←h.eg]at gp;have hg1:g∣a:=by rw[h.eg];exact kC a b
  have hg2:g∣ab b:=by rw[h.eg];exact oM (qB a b)
  have hone:=nz (a:=a) hb;rw[←h.eg]at hone;have m1:=h.sum;have m2:=k.sum;obtain⟨m,hm⟩:=hg2;obtain⟨c,hc⟩:=hg1;have em:ab b/g=m:=by rw[hm];exact j1 _ (by omega)
  have ec:a/g=c:=by rw[hc];exact j1 _ (by omega)
  rw[em,ec]at hone;rw[em]at p2 q2;have hx:x=x':=by
   have s1:c*(x-x')=m*(c*(x-x')/m):=by
    have d:m∣c*(x-x'):=by
     have e2:a*(x-x')=b*(y'-y):=by grind
     have e3:∃t,b=ab b*t:=by
      rcases xA b with⟨c1,c2⟩|⟨c1,c2⟩
      ·exact⟨1,by rw[c2];omega⟩
      ·exact⟨-1,by rw[c2];omega⟩
     obtain⟨t,ht⟩:=e3;refine⟨t*(y'-y),?_⟩;have e4:g*(c*(x-x'))=g*(m*(t*(y'-y))):=by
      have:g*(c*(x-x'))=a*(x-x'):=by rw[hc];grind
      rw[this,e2,ht,hm];grind
     exact eX (by omega) e4
    exact(qs d).symm
   have d:m∣c*(x-x'):=⟨_,s1⟩
   have d2:m∣(c%m)*(x-x'):=by
    have e:=cP c m;have:(c%m)*(x-x')=c*(x-x')-m*(c/m*(x-x')):=by
     have:c%m=c-m*(c/m):=by omega
     rw[this];grind
    rw[this];exact Int.dvd_sub d (da m _)
   have d3:m∣x-x':=by
    have hcop:Int.gcd m (c%m)=1:=by unfold rB at hone;omega
    have d4:=ps.mpr d2;rw[Int.natAbs_mul]at d4;exact ps.mp (Nat.Coprime.dvd_of_dvd_mul_left hcop d4)
   rcases db x x' with hlt|heq|hgt
   ·have d4:m∣x'-x:=by
     have:x'-x= -(x-x'):=by omega
     rw[this];exact oj.mpr d3
    have:=c8 (by omega) d4;omega
   ·exact heq
   ·have:=c8 (by omega) d3;omega
  subst hx;refine⟨rfl,?_⟩;have:b*y=b*y':=by omega
  exact eX hb this
theorem Em (x:Int):pB (ab x)=pB x:=by unfold pB;rw[Cf]
theorem wN (a:Int):rB a 0=ab a:=by
 rw[←s8];exact aQ (fB a)
theorem GT.zero (a:Int):GT a 0 (ab a) (sn a) 0:=by
 refine⟨(wN a).symm,?_,fun _=>⟨rfl,rfl⟩,fun h=>absurd rfl h⟩;rcases cL a with⟨s1,s2⟩|⟨s1,s2⟩|⟨s1,s2⟩<;>rw[s2]
 ·rw[s1];decide
 ·unfold ab;rw[if_pos s1];omega
 ·rw[rC (by omega)];omega
theorem A2 (a:Int): -9223372036854775808≤sn a∧sn a<9223372036854775808:=by
 rcases cL a with⟨s1,s2⟩|⟨s1,s2⟩|⟨s1,s2⟩<;>rw[s2]<;>exact⟨by decide,by decide⟩
theorem wq {g a:Int}(gp:0<g):ab (a/g)≤ab a+1∧ab (ab a/g)≤ab a:=by
 have d1:=cP a g;have d2:=hQ a (show g≠0 by omega);have d3:=hL a gp;have a0:=fB a;constructor
 ·rcases xA (a/g)with⟨c1,c2⟩|⟨c1,c2⟩<;>rw[c2]
  ·have:=hE (show 1≤g by omega) c1;rcases xA a with⟨e1,e2⟩|⟨e1,e2⟩<;>omega
  ·have:=hE (show 1≤g by omega) (show 0≤ -(a/g)-1 by omega);have e:g*(-(a/g)-1)= -(g*(a/g))-g:=by grind
   rcases xA a with⟨e1,e2⟩|⟨e1,e2⟩<;>omega
 ·rw[rC (j3 a0 (by omega))];exact en _ a0
theorem G9 {N:Nat}(hN:1000000001<N){a b:Int}(ha:3*ab a+6<K)(hb:2*ab b<K):∃g x y,GT a b g x y∧ab y≤3+2*ab a∧Q34.f N (sg a) (pB a) (sg b) (pB b)=some (pB g,sg x,pB x,sg y,pB y):=by
 have a0:=fB a;have b0:=fB b;have za:Zr a:=eE (by omega);have zb:Zr b:=eE (by omega);unfold Q34.f;rw[lP zb];simp only[hB];by_cases h:b=0
 ·subst h;obtain⟨k1,k2⟩:=A2 a;refine⟨ab a,sn a,0,GT.zero a,by have:ab 0=0:=rfl;omega,?_⟩;have c0:(sn 0==0)=true:=rfl;rw[c0];simp only[cond_true];rw[lP za];simp only[hB];rw[F4 hN k1 k2,Em,po,qa];rfl
 ·have c0:(sn b==0)=false:=by
   rcases cL b with⟨s1,s2⟩|⟨s1,s2⟩|⟨s1,s2⟩<;>rw[s2]
   ·exact absurd s1 h
   ·rfl
   ·rfl
  rw[c0];simp only[cond_false];have hg:=sb hN za zb;rw[s8]at hg;have gr:=B7 za zb;rw[s8]at gr;have gp:=tV (a:=a) h;have h1:=kC a b;have h2:=oM (qB a b);have hone:=nz (a:=a) h;obtain⟨l1,l2⟩:=wq (a:=a) gp;obtain⟨l3,l4⟩:=wq (a:=b) gp;have hgg:rB a b=rB a b:=rfl;generalize hge:rB a b=g at*;have zg:Zr g:=eE (by rw[rC (by omega)];exact gr.hi);have em:=nn h1;have em2:=nn h2;obtain⟨m,hm⟩:=h2;obtain⟨c,hc⟩:=h1;have edm:ab b/g=m:=by rw[hm];exact j1 _ (by omega)
  have edc:a/g=c:=by have:g*c/g=c:=j1 _ (by omega);rw[←hc]at this;exact this
  have hbp:0<ab b:=by have:ab b≠0:=fun q=>h (bG.mp q);omega
  have mp:0<m:=by
   rcases hI 0 m with q|q
   ·exact q
   ·have:=zE (aE gp) (show 0≤ -m by omega);rw[c5]at this;omega
  unfold pB;rw[hg];simp only[hB];rw[lK _ gr];have e0:sv false g=g:=rfl;rw[e0];simp only[hB];have fold:∀z:Int,enc (4294967296:Int) (ab z)=pB z:=fun z=>rfl;simp only[fold];rw[qt hN za zg (by omega),if_pos em];simp only[hB,zO];rw[cn _ zb];have e1:sv false (ab b)=ab b:=rfl;rw[e1];simp only[hB];rw[qt hN (F6 zb) zg (by omega),if_pos em2];simp only[hB];rw[edm,edc]at hone;rw[edc]at l1;rw[edm]at l4;rw[edm,edc];have abm:ab m=m:=rC (by omega);obtain⟨x,y,p1,p2,p3,p4,p5⟩:=rl hN (c:=c) (m:=m) (by omega) (by omega) mp;rw[p5];simp only[hB];have zy:Zr y:=eE (by omega);rw[cn _ zy];have hgt:=GT.of h hge.symm gp hc hm (by rw[p1];exact hone) p2 p3;refine⟨g,x,_,hgt,by rw[nk _ (fB y)];omega,?_⟩;have e3:enc (4294967296:Int) g=pB g:=by unfold pB;rw[rC (by omega)]
  rw[e3];rfl
def Fg (n:Int):Prop:= -9223372036854775808≤n∧n<9223372036854775808
def Bd (x X:Int):Prop:= -X≤x∧x≤X
theorem Bd.mul {x y X Y:Int}(hx:Bd x X)(hy:Bd y Y):Bd (x*y) (X*Y):=by
 obtain⟨h1,h2⟩:=hx;obtain⟨h3,h4⟩:=hy;have p1:=zE (show 0≤X-x by omega) (show 0≤Y-y by omega);have p2:=zE (show 0≤X+x by omega) (show 0≤Y+y by omega);have p3:=zE (show 0≤X-x by omega) (show 0≤Y+y by omega);have p4:=zE (show 0≤X+x by omega) (show 0≤Y-y by omega);have e1:(X-x)*(Y-y)+(X+x)*(Y+y)=2*(X*Y)+2*(x*y):=by grind
 have e2:(X-x)*(Y+y)+(X+x)*(Y-y)=2*(X*Y)-2*(x*y):=by grind
 unfold Bd;omega
theorem Bd.add {x y X Y:Int}(hx:Bd x X)(hy:Bd y Y):Bd (x+y) (X+Y):=by
 unfold Bd at*;omega
theorem Fe:1000000000000000000000000000000000000000000000000000000000000<K:=by unfold K;decide+kernel
theorem fO (n:Int):aA n=Int.bmod n 18446744073709551616:=by
 simp only[aA,IntKind.wrap];simp[IntKind.bits,IntKind.signed,Int.bmod];omega
theorem pU (x y:Int):aA (aA x+y)=aA (x+y):=by simp only[fO,Int.bmod_add_bmod]
theorem cg (x y:Int):aA (x+aA y)=aA (x+y):=by simp only[fO,Int.add_bmod_bmod]
theorem C9 (x y:Int):aA (aA x-y)=aA (x-y):=by simp only[fO,Int.bmod_sub_bmod]
theorem qo (x y:Int):aA (x-aA y)=aA (x-y):=by simp only[fO,Int.sub_bmod_bmod]
theorem qn (x y:Int):aA (aA x*y)=aA (x*y):=by simp only[fO,Int.bmod_mul_bmod]
theorem cm (x y:Int):aA (x*aA y)=aA (x*y):=by simp only[fO,Int.mul_bmod_bmod]
theorem Gd (x:Int):aA (aA x)=aA x:=by have:=pU x 0;rwa[l8,l8]at this
theorem Bd.le {x X Y:Int}(h:Bd x X)(hx:X≤Y):Bd x Y:=by unfold Bd at*;omega
theorem Bd.neg {x X:Int}(h:Bd x X):Bd (-x) X:=by unfold Bd at*;omega
theorem Bd.w {x X:Int}(h:Bd x X)(hX:X<9223372036854775808):aA x=x:=by unfold Bd at h;exact dA (by omega) (by omega)
def tA (a b c p r:Int):Int:=a*p*p+b*p*r+c*r*r
def tB (a b c p q r s:Int):Int:=2*a*p*q+b*p*s+b*q*r+2*c*r*s
theorem rG (a b c p q r s t u v w x y:Int):
  tA (tA a b c p r) (tB a b c p q r s) (tA a b c q s) t v=tA a b c (p*t+q*v) (r*t+s*v)∧
  tB (tA a b c p r) (tB a b c p q r s) (tA a b c q s) t u v w=tB a b c (p*t+q*v) (p*u+q*w) (r*t+s*v) (r*u+s*w)∧
  tA a b c p r*x*x+tB a b c p q r s*x*y+tA a b c q s*y*y=a*(p*x+q*y)*(p*x+q*y)+b*(p*x+q*y)*(r*x+s*y)+c*(r*x+s*y)*(r*x+s*y):=by
 unfold tA tB;refine⟨?_,?_,?_⟩<;>grind
end Go.Proofs.Yteaakcmkpacpaaa.NatL
namespace Go.Proofs.Yteaakcmkpacpaaa.Pure
open Go Go.Proofs.Yteaakcmkpacpaaa.Ev
theorem dA {n:Int}(h1: -9223372036854775808≤n)(h2:n<9223372036854775808):aA n=n:=by
 simp only[aA,IntKind.wrap];simp[IntKind.bits,IntKind.signed];omega
structure bK (a b c:Int):Prop where
 a0:0<a
 a1:a≤2147483648
 b0: -2147483648≤b
 b1:b≤2147483648
 c0:0<c
 c1:c≤2147483648
 d0:b*b-4*a*c<0
 d1: -4294967296≤b*b-4*a*c
theorem fl {x y:Int}(hy:0<y):(Int.tmod x y<0→x/y=Int.tdiv x y-1∧x%y=Int.tmod x y+y)∧(¬Int.tmod x y<0→x/y=Int.tdiv x y∧x%y=Int.tmod x y):=by
 have h1:=Int.mul_tdiv_add_tmod x y;have h2:=Int.tmod_lt_of_pos x hy;have h3:=Int.lt_tmod_of_pos x hy;refine⟨fun h=>(p8 hy).mpr ⟨?_,by omega,by omega⟩,fun h=>(p8 hy).mpr ⟨by omega,by omega,by omega⟩⟩;rw[Int.mul_sub,ki];omega
theorem bK.shift {a b c:Int}(h:bK a b c):bK a (b+2*((a-b)/(2*a))*a) ((a*((a-b)/(2*a))+b)*((a-b)/(2*a))+c)∧ -a<b+2*((a-b)/(2*a))*a∧b+2*((a-b)/(2*a))*a≤a:=by
 have h1:=cP (a-b) (2*a);have h2:=hQ (a-b) (b:=2*a) (by have:=h.a0;omega);have h3:=hL (a-b) (b:=2*a) (by have:=h.a0;omega);generalize(a-b)/(2*a)=k at*;generalize(a-b)%(2*a)=r at*;have e:b+2*k*a=a-r:=by
  have:2*a*k=2*k*a:=by grind
  omega
 have hd:(b+2*k*a)*(b+2*k*a)-4*a*((a*k+b)*k+c)=b*b-4*a*c:=by grind
 rw[e]at hd⊢;obtain⟨a0,a1,b0,b1,c0,c1,d0,d1⟩:=h;have hsq:(a-r)*(a-r)≤a*a:=by
  have p1:0≤r*(2*a-r):=zE h2 (by omega);have p2:(a-r)*(a-r)+r*(2*a-r)=a*a:=by grind
  omega
 have hsq0:0≤(a-r)*(a-r):=by
  rcases dd 0 (a-r)with h|h
  ·exact zE h h
  ·have:=zE (show(0:Int)≤ -(a-r) by omega) (show(0:Int)≤ -(a-r) by omega);have e2: -(a-r)* -(a-r)=(a-r)*(a-r):=by grind
   omega
 generalize(a*k+b)*k+c=c' at*;have hpos:0<c':=by
  rcases hI 0 c' with h|h
  ·exact h
  ·exfalso;have:=zE (show(0:Int)≤4*a by omega) (show(0:Int)≤ -c' by omega);have e2:4*a* -c'= -(4*a*c'):=by grind
   omega
 have hle:c'≤2147483648:=by
  rcases hI 2147483648 c' with h|h
  ·exfalso;have p1:=pC (show(2147483649:Int)≤c' by omega) (show(0:Int)≤4*a by omega);have p2:=pC a1 (show(0:Int)≤a by omega);have e3:a*2147483648=2147483648*a:=by grind
   have e4:4*a*2147483649=8589934596*a:=by grind
   omega
  ·exact h
 exact⟨⟨a0,a1,by omega,by omega,hpos,hle,by omega,by omega⟩,by omega,by omega⟩
theorem bK.swap {a b c:Int}(h:bK a b c):bK c (-b) a:=by
 obtain⟨a0,a1,b0,b1,c0,c1,d0,d1⟩:=h;have e: -b* -b-4*c*a=b*b-4*a*c:=by grind
 exact⟨c0,c1,by omega,by omega,a0,a1,by omega,by omega⟩
theorem l9 {a b:Int}(a0:0<a)(a1:a≤2147483648)(b0: -2147483648≤b)(b1:b≤2147483648): -4294967296≤(a-b)/(2*a)∧(a-b)/(2*a)≤4294967296∧ -8589934592≤a*((a-b)/(2*a))∧a*((a-b)/(2*a))≤8589934592:=by
 have h1:=cP (a-b) (2*a);have h2:=hQ (a-b) (b:=2*a) (by omega);have h3:=hL (a-b) (b:=2*a) (by omega);generalize(a-b)/(2*a)=k at*;generalize(a-b)%(2*a)=r at*;have e:2*a*k=2*(a*k):=by grind
 have hk: -8589934592≤a*k∧a*k≤8589934592:=by omega
 refine⟨?_,?_,hk.1,hk.2⟩
 ·rcases hI k (-4294967296)with h|h
  ·exfalso;have p:=hE (show(1:Int)≤a by omega) (show(0:Int)≤ -k by omega);have e2:a* -k= -(a*k):=by grind
   omega
  ·exact h
 ·rcases hI 4294967296 k with h|h
  ·exfalso;have p:=hE (show(1:Int)≤a by omega) (show(0:Int)≤k by omega);omega
  ·exact h
def kk (a b:Int):Int:=(a-b)/(2*a)
def sB (a b:Int):Int:=b+2*kk a b*a
def sC (a b c:Int):Int:=(a*kk a b+b)*kk a b+c
def gK (a b:Int):Prop:= -a<b∧b≤a
def aC (a b c:Int):Prop:=c<a∨(a=c∧b<0)
instance (a b:Int):Decidable (gK a b):=inferInstanceAs (Decidable (_∧_))
instance (a b c:Int):Decidable (aC a b c):=inferInstanceAs (Decidable (_∨_))
theorem B8 {a b c:Int}(h:bK a b c):aA (Int.tdiv (aA (a-b)) (aA (2*a)))=Int.tdiv (a-b) (2*a)∧Int.tmod (aA (a-b)) (aA (2*a))=Int.tmod (a-b) (2*a)∧
  (Int.tmod (a-b) (2*a)<0→aA (Int.tdiv (a-b) (2*a)-1)=kk a b)∧(¬Int.tmod (a-b) (2*a)<0→Int.tdiv (a-b) (2*a)=kk a b):=by
 obtain⟨a0,a1,b0,b1,_⟩:=h;have hf:=fl (x:=a-b) (y:=2*a) (by omega);obtain⟨k1,k2,_⟩:=l9 a0 a1 b0 b1;have e1:aA (a-b)=a-b:=dA (by omega) (by omega);have e2:aA (2*a)=2*a:=dA (by omega) (by omega);rw[e1,e2];have hb: -4294967297≤Int.tdiv (a-b) (2*a)∧Int.tdiv (a-b) (2*a)≤4294967298:=by
  by_cases hm:Int.tmod (a-b) (2*a)<0
  ·have:=(hf.1 hm).1;omega
  ·have:=(hf.2 hm).1;omega
 refine⟨dA (by omega) (by omega),rfl,fun hm=>?_,fun hm=>?_⟩
 ·have:=(hf.1 hm).1;rw[dA (by omega) (by omega)];unfold kk;omega
 ·have:=(hf.2 hm).1;unfold kk;omega
theorem pz {a b c:Int}(h:bK a b c):aA (b+aA (aA (2*kk a b)*a))=sB a b∧aA (aA (aA (aA (a*kk a b)+b)*kk a b)+c)=sC a b c:=by
 obtain⟨hg,hb1,hb2⟩:=h.shift;obtain⟨a0,a1,b0,b1,c0,c1,d0,d1⟩:=h;obtain⟨k1,k2,k3,k4⟩:=l9 a0 a1 b0 b1;obtain⟨_,_,_,_,g1,g2,_,_⟩:=hg;unfold sB sC kk;generalize(a-b)/(2*a)=k at*;have e:2*k*a=2*(a*k):=by grind
 refine⟨?_,?_⟩
 ·rw[dA (n:=2*k) (by omega) (by omega),dA (n:=2*k*a) (by omega) (by omega),dA (by omega) (by omega)]
 ·rw[dA (n:=a*k) (by omega) (by omega),dA (n:=a*k+b) (by omega) (by omega),dA (n:=(a*k+b)*k) (by omega) (by omega),dA (by omega) (by omega)]
theorem mG (N:Nat){a b c:Int}(h:bK a b c)(p q r s:Int):Q39.f N a b c p q r s=
  if gK a b then(if aC a b c then some (true,c, -b,a,q,aA (0-p),s,aA (0-r))else some (false,a,b,c,p,q,r,s))
  else some (true,a,sB a b,sC a b c,p,aA (aA (kk a b*p)+q),r,aA (aA (kk a b*r)+s)):=by
 obtain⟨m1,m2,m3,m4⟩:=B8 h;obtain⟨s1,s2⟩:=pz h;have e0:aA (0-a)= -a:=by obtain⟨a0,a1,_⟩:=h;rw[dA (by omega) (by omega)];omega
 have e1:aA (0-b)= -b:=by obtain⟨_,_,b0,b1,_⟩:=h;rw[dA (by omega) (by omega)];omega
 have e2:(aA (2*a)==0)=false:=by obtain⟨a0,a1,_⟩:=h;rw[dA (by omega) (by omega)];simp;omega
 unfold Q39.f;simp only[e0,e1,e2,m1,m2,bs,cond_true];by_cases hr:gK a b
 ·rw[if_pos hr];obtain⟨r1,r2⟩:=hr;have c1:decide (b≤ -a)=false:=by simp;omega
  have c2:decide (b>a)=false:=by simp;omega
  simp only[c1,c2,cond_false];unfold aC;by_cases h1:a>c
  ·simp[h1]
  ·by_cases h2:a=c
   ·subst h2;by_cases h3:b<0<;>simp[h3]
   ·have h3:(a==c)=false:=by simpa using h2
    simp[h1,h2,h3]
 ·rw[if_neg hr];unfold gK at hr;by_cases hm:Int.tmod (a-b) (2*a)<0
  ·simp only[hm,m3 hm,decide_true,cond_true,s1,s2];by_cases h1:b≤ -a
   ·simp[h1]
   ·have:b>a:=by omega
    simp[h1,this]
  ·simp only[hm,m4 hm,decide_false,cond_false,s1,s2];by_cases h1:b≤ -a
   ·simp[h1]
   ·have:b>a:=by omega
    simp[h1,this]
theorem fg (N:Nat){a b c:Int}(h:bK a b c):Q48.f N (aA (a-b)) (aA (2*a))=some (kk a b):=by
 obtain⟨a0,a1,b0,b1,_⟩:=h;have hf:=fl (x:=a-b) (y:=2*a) (by omega);obtain⟨k1,k2,_⟩:=l9 a0 a1 b0 b1;have e1:aA (a-b)=a-b:=dA (by omega) (by omega);have e2:aA (2*a)=2*a:=dA (by omega) (by omega);have hne:(2*a==0)=false:=by simp;omega
 have h1:=cP (a-b) (2*a);have h2:=hQ (a-b) (b:=2*a) (by omega);have h3:=hL (a-b) (b:=2*a) (by omega);have hdiv:Int.tdiv (2*a*((a-b)/(2*a))) (2*a)=(a-b)/(2*a):=ch _ (by omega);unfold Q48.f Q42.f;rw[e1,e2];simp only[hne,bs,cond_true];by_cases hm:Int.tmod (a-b) (2*a)<0
 ·have q:=(hf.1 hm).2;simp only[hm,decide_true,cond_true,←q,hB];rw[dA (n:=(a-b)%(2*a)) (by omega) (by omega),dA (n:=a-b- (a-b)%(2*a)) (by omega) (by omega)];have e:a-b- (a-b)%(2*a)=2*a*((a-b)/(2*a)):=by omega
  rw[e,hdiv,dA (by omega) (by omega)];rfl
 ·have q:=(hf.2 hm).2;have hm':¬(a-b)%(2*a)<0:=by omega
  rw[←q];simp only[hm',decide_false,cond_false,hB];rw[dA (n:=a-b- (a-b)%(2*a)) (by omega) (by omega)];have e:a-b- (a-b)%(2*a)=2*a*((a-b)/(2*a)):=by omega
  rw[e,hdiv,dA (by omega) (by omega)];rfl
theorem aW (N:Nat){a b c:Int}(h:bK a b c):Q47.f N a b c=some (decide (gK a b∧¬aC a b c)):=by
 have e0:aA (0-a)= -a:=by obtain⟨a0,a1,_⟩:=h;rw[dA (by omega) (by omega)];omega
 have main:∃x,Q47.f N a b c=some x∧(x=true↔(gK a b∧¬aC a b c)):=by
  unfold Q47.f gK aC;rw[e0];by_cases h1: -a<b
  ·by_cases h2:b≤a
   ·by_cases h3:a≤c
    ·by_cases h4:b≥0
     ·exact⟨true,by simp[h1,h2,h3,h4],fun _=>⟨⟨h1,h2⟩,by rintro(h|⟨h,h'⟩)<;>omega⟩,fun _=>rfl⟩
     ·refine⟨a != c,by simp[h1,h2,h3,h4],fun h=>⟨⟨h1,h2⟩,?_⟩,fun h=>?_⟩
      ·simp at h;rintro(h'|⟨h',h''⟩)<;>omega
      ·have:=h.2;simp;intro e;exact this (.inr ⟨e,by omega⟩)
    ·exact⟨false,by simp[h1,h2,h3],fun h=>by simp at h,fun h=>(h.2 (.inl (by omega))).elim⟩
   ·exact⟨false,by simp[h1,h2],fun h=>by simp at h,fun h=>(h2 h.1.2).elim⟩
  ·exact⟨false,by simp[h1],fun h=>by simp at h,fun h=>(h1 h.1.1).elim⟩
 obtain⟨x,h1,h2⟩:=main;rw[h1];by_cases hp:gK a b∧¬aC a b c
 ·simp[hp,h2.mpr hp]
 ·simp only[hp,decide_false];cases x<;>simp_all
def mu (a b c:Int):Int:=4*a+(if gK a b then(if a=c∧b<0 then 1 else 0)else 3)
theorem gk {a b c:Int}(h:bK a b c)(hr:¬gK a b):mu a (sB a b) (sC a b c)<mu a b c:=by
 have hs:gK a (sB a b):=h.shift.2;unfold mu;rw[if_pos hs,if_neg hr];split<;>omega
theorem pa {a b c:Int}(h:bK a b c)(hr:gK a b)(hs:aC a b c):mu c (-b) a<mu a b c:=by
 unfold mu;rw[if_pos hr];obtain⟨a0,a1,b0,b1,c0,c1,_⟩:=h;rcases hs with hs|⟨hs,hb⟩
 ·have:(if gK c (-b)then(if c=a∧ -b<0 then 1 else 0)else 3:Int)≤3:=by split<;>(try split)<;>omega
  have h2:(0:Int)≤(if a=c∧b<0 then 1 else 0):=by split<;>omega
  omega
 ·subst hs;have h2:gK a (-b):=by unfold gK at*;omega
  rw[if_pos h2,if_neg (show ¬(a=a∧ -b<0) by omega),if_pos ⟨rfl,hb⟩];omega
theorem s9 {a b c:Int}(h:bK a b c):0<mu a b c∧mu a b c≤8589934600:=by
 unfold mu;have:=h.a0;have:=h.a1;split<;>(try split)<;>omega
theorem ax (N M:Nat):∀(n:Nat) (a b c p q r s:Int),bK a b c→mu a b c<n→∃a' b' c' p' q' r' s',bK a' b' c'∧gK a' b'∧¬aC a' b' c'∧b'*b'-4*a'*c'=b*b-4*a*c∧
  (∀{R:Type} x1 x2 x3 x4 x5 x6 x7 (K:Int→Int→Int→Int→Int→Int→Int→Int→Int→Int→Int→Int→Int→Int→Option R),Q40.l6 N n x1 x2 x3 x4 x5 x6 x7 a b c p q r s K=K x1 x2 x3 x4 x5 x6 x7 a' b' c' p' q' r' s')∧
  (∀{R:Type} x1 x2 x3 x4 x5 x6 x7 (K:Int→Int→Int→Int→Int→Int→Int→Int→Int→Int→Int→Int→Int→Int→Option R),Q49.l5 M n a b c x1 x2 x3 x4 x5 x6 x7 p q r s K=K a' b' c' x1 x2 x3 x4 x5 x6 x7 p' q' r' s'):=by
 intro n;induction n with
 |zero=>intro a b c p q r s h hm;have:=(s9 h).1;omega
 |succ n ih=>
  intro a b c p q r s h hm;have e0:aA (0-a)= -a:=by obtain⟨a0,a1,_⟩:=h;rw[dA (by omega) (by omega)];omega
  have e1:aA (0-b)= -b:=by obtain⟨_,_,b0,b1,_⟩:=h;rw[dA (by omega) (by omega)];omega
  by_cases hr:gK a b
  ·by_cases hs:aC a b c
   ·have hlt:=pa h hr hs;obtain⟨a',b',c',p',q',r',s',g1,g2,g3,g4,g5,g6⟩:=ih c (-b) a q (aA (0-p)) s (aA (0-r)) h.swap (by omega);refine⟨a',b',c',p',q',r',s',g1,g2,g3,?_,fun x1 x2 x3 x4 x5 x6 x7 K=>?_,fun x1 x2 x3 x4 x5 x6 x7 K=>?_⟩
    ·rw[g4];grind
    ·rw[Q40.l6,mG N h,if_pos hr,if_pos hs];exact g5 _ _ _ _ _ _ _ K
    ·rw[Q49.l5,aW M h];have hc1:decide (gK a b∧¬aC a b c)=false:=by simp[hs]
     have hc2:decide (-a≥b)=false:=by unfold gK at hr;simp;omega
     have hc3:decide (b>a)=false:=by unfold gK at hr;simp;omega
     simp only[hB,hc1,e0,e1,hc2,hc3,bs,cond_true,cond_false];exact g6 _ _ _ _ _ _ _ K
   ·refine⟨a,b,c,p,q,r,s,h,hr,hs,rfl,fun x1 x2 x3 x4 x5 x6 x7 K=>?_,fun x1 x2 x3 x4 x5 x6 x7 K=>?_⟩
    ·rw[Q40.l6,mG N h,if_pos hr,if_neg hs];rfl
    ·rw[Q49.l5,aW M h];have hc1:decide (gK a b∧¬aC a b c)=true:=by simp[hs,hr]
     simp only[hB,hc1,eh,cond_false]
  ·have hlt:=gk h hr;have hd:sB a b*sB a b-4*a*sC a b c=b*b-4*a*c:=by unfold sB sC;grind
   obtain⟨s1,s2⟩:=pz h;obtain⟨a',b',c',p',q',r',s',g1,g2,g3,g4,g5,g6⟩:=ih a (sB a b) (sC a b c) p (aA (aA (kk a b*p)+q)) r (aA (aA (kk a b*r)+s)) h.shift.1 (by omega);refine⟨a',b',c',p',q',r',s',g1,g2,g3,by rw[g4,hd],fun x1 x2 x3 x4 x5 x6 x7 K=>?_,fun x1 x2 x3 x4 x5 x6 x7 K=>?_⟩
   ·rw[Q40.l6,mG N h,if_neg hr];exact g5 _ _ _ _ _ _ _ K
   ·rw[Q49.l5,aW M h];have hc1:decide (gK a b∧¬aC a b c)=false:=by simp[hr]
    simp only[hB,hc1,e0,bs,cond_true,fg M h,s1,s2];by_cases h1: -a≥b
    ·simp only[h1,decide_true,cond_true];exact g6 _ _ _ _ _ _ _ K
    ·have h2:b>a:=by unfold gK at hr;omega
     simp only[h1,h2,decide_true,cond_true,decide_false,cond_false];exact g6 _ _ _ _ _ _ _ K
def ct (a b c:Int):Prop:=(-1073741824≤a∧a≤1073741824)∧(-1073741824≤b∧b≤1073741824)∧(-1073741824≤c∧c≤1073741824)
instance (a b c:Int):Decidable (ct a b c):=inferInstanceAs (Decidable (_∧_))
theorem kI (N:Nat)(a b c:Int):Q36.f N a b c=some (decide (ct a b c)):=by
 unfold Q36.f ya Cq;have key:∀{x:Bool} {p:Prop} [Decidable p],(x=true↔p)→x=decide p:=fun{x p _} hp=>by
  by_cases h:p
  ·simp[h,hp.mpr h]
  ·simp only[h,decide_false];cases x<;>simp_all
 cases hc:decide ((if c>(if b>a then b else a)then c else(if b>a then b else a))≤1073741824)
 ·simp only[cond_false,Option.some.injEq];have hc:=of_decide_eq_false hc;refine key ⟨fun h=>by simp at h,fun h=>?_⟩;unfold ct at h;exfalso;split at hc<;>split at hc<;>omega
 ·simp only[cond_true,Option.some.injEq];have hc:=of_decide_eq_true hc;refine key ⟨fun h=>?_,fun h=>?_⟩
  ·have h:=of_decide_eq_true h;unfold ct;split at hc<;>split at hc<;>split at h<;>split at h<;>omega
  ·unfold ct at h;refine decide_eq_true ?_;split<;>split<;>omega
theorem fm (N:Nat)(a b c:Int):Q44.f N a b c=some (decide (ct a b c)):=by
 unfold Q44.f Q43.f ct;by_cases h1:a≥ -1073741824<;>by_cases h2:a≤1073741824<;>by_cases h3:b≥ -1073741824<;>by_cases h4:b≤1073741824<;>by_cases h5:c≥ -1073741824<;>by_cases h6:c≤1073741824<;>simp[h1,h2,h3,h4,h5,h6]
theorem iG (N:Nat)(a b c:Int):Q37.f N a b c=some (if ct a b c then aA (aA (b*b)-aA (aA (4*a)*c))else 0)∧Q45.f N a b c=some (if ct a b c then aA (aA (b*b)-aA (aA (4*a)*c))else 0):=by
 unfold Q37.f Q45.f;rw[kI,fm];by_cases h:ct a b c<;>simp[h]
theorem dS {x y X Y:Int}(h1: -X≤x)(h2:x≤X)(h3: -Y≤y)(h4:y≤Y): -(X*Y)≤x*y∧x*y≤X*Y:=by
 have p1:=zE (show 0≤X-x by omega) (show 0≤Y-y by omega);have p2:=zE (show 0≤X+x by omega) (show 0≤Y+y by omega);have p3:=zE (show 0≤X-x by omega) (show 0≤Y+y by omega);have p4:=zE (show 0≤X+x by omega) (show 0≤Y-y by omega);have e1:(X-x)*(Y-y)+(X+x)*(Y+y)=2*(X*Y)+2*(x*y):=by grind
 have e2:(X-x)*(Y+y)+(X+x)*(Y-y)=2*(X*Y)-2*(x*y):=by grind
 omega
theorem pL {a b c:Int}(h:ct a b c):aA (aA (b*b)-aA (aA (4*a)*c))=b*b-4*a*c:=by
 obtain⟨⟨a0,a1⟩,⟨b0,b1⟩,c0,c1⟩:=h;have m1:=dS (X:=1073741824) (Y:=1073741824) b0 b1 b0 b1;have m2:=dS (x:=4*a) (X:=4294967296) (Y:=1073741824) (by omega) (by omega) c0 c1;have k1:(1073741824:Int)*1073741824=1152921504606846976:=by decide
 have k2:(4294967296:Int)*1073741824=4611686018427387904:=by decide
 rw[dA (n:=b*b) (by omega) (by omega),dA (n:=4*a) (by omega) (by omega),dA (n:=4*a*c) (by omega) (by omega),dA (by omega) (by omega)]
theorem wS (N:Nat)(a b c:Int):∃e,Q38.f N a b c=some e∧Q46.f N a b c=some e∧(e=0→bK a b c):=by
 unfold Q38.f Q46.f;rw[(iG N a b c).1,(iG N a b c).2,kI,fm];by_cases h:ct a b c
 ·have hd:=pL h;simp only[h,decide_true,if_true,hB,eh,cond_false,hd];by_cases h1:a≤0
  ·exact⟨81,by simp[h1],by simp[h1],by intro e;cases e⟩
  ·by_cases h2:b*b-4*a*c≥0
   ·exact⟨81,by simp only[h1,h2,decide_true,decide_false,cond_true,cond_false],by simp only[h1,h2,decide_true,decide_false,cond_true,cond_false],by intro e;cases e⟩
   ·by_cases h3:b*b-4*a*c< -4294967296
    ·exact⟨80,by simp only[h1,h2,h3,decide_true,decide_false,cond_true,cond_false],by simp only[h1,h2,h3,decide_true,decide_false,cond_true,cond_false],by intro e;cases e⟩
    ·refine⟨0,by simp only[h1,h2,h3,decide_true,decide_false,cond_true,cond_false],by simp only[h1,h2,h3,decide_true,decide_false,cond_true,cond_false],fun _=>?_⟩;obtain⟨⟨a0,a1⟩,⟨b0,b1⟩,c0,c1⟩:=h;have hsq:0≤b*b:=by
      rcases dd 0 b with h|h
      ·exact zE h h
      ·have:=zE (show(0:Int)≤ -b by omega) (show(0:Int)≤ -b by omega);have e2: -b* -b=b*b:=by grind
       omega
     have hc:0<c:=by
      rcases hI 0 c with h|h
      ·exact h
      ·exfalso;have:=zE (show(0:Int)≤4*a by omega) (show(0:Int)≤ -c by omega);have e2:4*a* -c= -(4*a*c):=by grind
       omega
     exact⟨by omega,by omega,by omega,by omega,hc,by omega,by omega,by omega⟩
 ·exact⟨3,by simp[h],by simp[h],by intro e;cases e⟩
theorem ay {N:Nat}(hN:8589934600<N)(a b c:Int):∃a' b' c' p q r s e,Q40.f N a b c=some (a',b',c',p,q,r,s,e)∧Q49.f N a b c=some (a',b',c',p,q,r,s,e)∧
  (e=0→bK a' b' c'∧gK a' b'∧¬aC a' b' c'):=by
 obtain⟨e,h1,h2,h3⟩:=wS N a b c;unfold Q40.f Q49.f;rw[h1,h2];by_cases he:e=0
 ·subst he;have hg:=h3 rfl;obtain⟨a',b',c',p,q,r,s,g1,g2,g3,g4,g5,g6⟩:=ax N N N a b c 1 0 0 1 hg (by have:=(s9 hg).2;omega);refine⟨a',b',c',p,q,r,s,0,?_,?_,fun _=>⟨g1,g2,g3⟩⟩
  ·simp only[hB,bne_self_eq_false,cond_false];exact g5 _ _ _ _ _ _ _ _
  ·simp only[hB,bne_self_eq_false,cond_false];exact g6 _ _ _ _ _ _ _ _
 ·have:(e != 0)=true:=by simpa using he
  exact⟨0,0,0,0,0,0,0,e,by simp[this],by simp[this],fun h=>absurd h he⟩
open Go.Proofs.Yteaakcmkpacpaaa.NatL (tA tB rG Fg Bd pU cg C9 qo qn cm Gd)
def cq (a b c a' b' c':Int):Prop:=∃t u v w:Int,t*w-u*v=1∧a'=tA a b c t v∧b'=tB a b c t u v w∧c'=tA a b c u w
theorem cq.trans {a b c a' b' c' a'' b'' c'':Int}(h:cq a b c a' b' c')(k:cq a' b' c' a'' b'' c''):cq a b c a'' b'' c'':=by
 obtain⟨p,q,r,s,hd,rfl,rfl,rfl⟩:=h;obtain⟨t,u,v,w,kd,rfl,rfl,rfl⟩:=k;obtain⟨k1,k2,_⟩:=rG a b c p q r s t u v w 0 0;obtain⟨k3,_,_⟩:=rG a b c p q r s u u w w 0 0;exact⟨p*t+q*v,p*u+q*w,r*t+s*v,r*u+s*w,by grind,k1,k2,k3⟩
theorem cq.symm {a b c a' b' c':Int}(h:cq a b c a' b' c'):cq a' b' c' a b c:=by
 obtain⟨p,q,r,s,hd,rfl,rfl,rfl⟩:=h;refine⟨s, -q, -r,p,by grind,?_,?_,?_⟩
 ·rw[(rG a b c p q r s s (-q) (-r) p 0 0).1];have e1:p*s+q* -r=1:=by grind
  have e2:r*s+s* -r=0:=by grind
  rw[e1,e2];unfold tA;grind
 ·rw[(rG a b c p q r s s (-q) (-r) p 0 0).2.1];have e1:p*s+q* -r=1:=by grind
  have e2:r*s+s* -r=0:=by grind
  have e3:p* -q+q*p=0:=by grind
  have e4:r* -q+s*p=1:=by grind
  rw[e1,e2,e3,e4];unfold tB;grind
 ·rw[(rG a b c p q r s (-q) (-q) p p 0 0).1];have e3:p* -q+q*p=0:=by grind
  have e4:r* -q+s*p=1:=by grind
  rw[e3,e4];unfold tA;grind
theorem cq.disc {a b c a' b' c':Int}(h:cq a b c a' b' c'):b'*b'-4*a'*c'=b*b-4*a*c:=by
 obtain⟨t,u,v,w,hd,rfl,rfl,rfl⟩:=h;have e:tB a b c t u v w*tB a b c t u v w-4*tA a b c t v*tA a b c u w=(b*b-4*a*c)*((t*w-u*v)*(t*w-u*v)):=by unfold tA tB;grind
 rw[e,hd];grind
theorem fE (x:Int):0≤x*x:=by
 rcases dd 0 x with h|h
 ·exact zE h h
 ·have:=zE (show(0:Int)≤ -x by omega) (show(0:Int)≤ -x by omega);have e2: -x* -x=x*x:=by grind
  omega
theorem A8 {a b c x y:Int}(a0:0<a)(h1: -a≤b)(h2:b≤a)(h3:a≤c):3*(x*x)≤4*tA a b c x y∧3*(y*y)≤4*tA a b c x y:=by
 have hb:0≤(a-b)*(a+b):=zE (by omega) (by omega);have hac:0≤a*(c-a):=zE (by omega) (by omega);have hx:=fE x;have hy:=fE y;have i1:4*a*tA a b c x y-3*a*c*(y*y)=(2*a*x+b*y)*(2*a*x+b*y)+((a-b)*(a+b))*(y*y)+(a*(c-a))*(y*y):=by unfold tA;grind
 have i2:4*c*tA a b c x y-3*a*c*(x*x)=(2*c*y+b*x)*(2*c*y+b*x)+((a-b)*(a+b))*(x*x)+(a*(c-a))*(x*x):=by unfold tA;grind
 have p1:=fE (2*a*x+b*y);have p2:=fE (2*c*y+b*x);have p3:=zE hb hy;have p4:=zE hb hx;have p5:=zE hac hy;have p6:=zE hac hx;have f1:a*(4*tA a b c x y-3*(c*(y*y)))=4*a*tA a b c x y-3*a*c*(y*y):=by grind
 have f2:c*(4*tA a b c x y-3*(a*(x*x)))=4*c*tA a b c x y-3*a*c*(x*x):=by grind
 have g1:0≤4*tA a b c x y-3*(c*(y*y)):=by
  rcases hI (4*tA a b c x y-3*(c*(y*y))) 0 with h|h
  ·have:=y8 a0 (show 0< -(4*tA a b c x y-3*(c*(y*y))) by omega);have e:a* -(4*tA a b c x y-3*(c*(y*y)))= -(a*(4*tA a b c x y-3*(c*(y*y)))):=by grind
   omega
  ·exact h
 have g2:0≤4*tA a b c x y-3*(a*(x*x)):=by
  rcases hI (4*tA a b c x y-3*(a*(x*x))) 0 with h|h
  ·have:=y8 (show 0<c by omega) (show 0< -(4*tA a b c x y-3*(a*(x*x))) by omega);have e:c* -(4*tA a b c x y-3*(a*(x*x)))= -(c*(4*tA a b c x y-3*(a*(x*x)))):=by grind
   omega
  ·exact h
 have k1:=hE (show(1:Int)≤a by omega) hx;have k2:=hE (show(1:Int)≤c by omega) hy;omega
theorem qd {x:Int}(h:3*(x*x)≤4294967296): -65536≤x∧x≤65536:=by
 constructor
 ·rcases hI x (-65536)with g|g
  ·exfalso;have:=gy (show(65537:Int)≤ -x by omega) (show(65537:Int)≤ -x by omega) (by decide) (by omega);have e: -x* -x=x*x:=by grind
   omega
  ·exact g
 ·rcases hI 65536 x with g|g
  ·exfalso;have:=gy (show(65537:Int)≤x by omega) (show(65537:Int)≤x by omega) (by decide) (by omega);omega
  ·exact g
theorem jc {x y:Int}(hx:0<x)(h:x*y=1):x=1∧y=1:=by
 have hy:0<y:=by
  rcases hI 0 y with g|g
  ·exact g
  ·have:=zE (aE hx) (show 0≤ -y by omega);have e:x* -y= -(x*y):=by grind
   omega
 have h1:=pC (show 1≤y by omega) (aE hx);have h2:=hE (show 1≤x by omega) (aE hy);omega
theorem C6 {x y:Int}(h:x*y=1):(x=1∧y=1)∨(x= -1∧y= -1):=by
 rcases db x 0 with g|g|g
 ·have:=jc (x:= -x) (y:= -y) (by omega) (by grind);omega
 ·subst g;simp at h
 ·have:=jc g h;omega
theorem bX {a b c a' b' c':Int}(a0:0<a)(r1:gK a b)(r2:¬aC a b c)(s1:gK a' b')(s2:¬aC a' b' c')(h:cq a b c a' b' c')(hle:a'≤a):a'=a∧b'=b∧c'=c:=by
 obtain⟨t,u,v,w,hd,ha,hb,hc⟩:=h;unfold gK aC at*;have hac:a≤c:=by omega
 have unit:∀{x y:Int},x*y=1→(x=1∧y=1)∨(x= -1∧y= -1):=fun h=>C6 h;by_cases hv:v=0
 ·subst hv;have htw:t*w=1:=by omega
  rcases unit htw with⟨rfl,rfl⟩|⟨rfl,rfl⟩
  ·have e1:a'=a:=by rw[ha];unfold tA;grind
   have e2:b'=2*(a*u)+b:=by rw[hb];unfold tB;grind
   have hu:u=0:=by
    rcases db u 0 with h|h|h
    ·have:=pC (show u≤ -1 by omega) (aE a0);omega
    ·exact h
    ·have:=pC (show 1≤u by omega) (aE a0);omega
   subst hu;exact⟨e1,by omega,by rw[hc];unfold tA;grind⟩
  ·have e1:a'=a:=by rw[ha];unfold tA;grind
   have e2:b'=2*(a* -u)+b:=by rw[hb];unfold tB;grind
   have hu:u=0:=by
    rcases db u 0 with h|h|h
    ·have:=pC (show 1≤ -u by omega) (aE a0);omega
    ·exact h
    ·have:=pC (show-u≤ -1 by omega) (aE a0);omega
   subst hu;exact⟨e1,by omega,by rw[hc];unfold tA;grind⟩
 ·by_cases ht:t=0
  ·subst ht;have huv:u* -v=1:=by grind
   have e1:a'=c:=by
    rcases unit huv with⟨rfl,h⟩|⟨rfl,h⟩
    ·obtain rfl:v= -1:=by omega
     rw[ha];unfold tA;grind
    ·obtain rfl:v=1:=by omega
     rw[ha];unfold tA;grind
   have eca:c=a:=by omega
   have hb0:0≤b:=by omega
   subst eca;have e2:b'=2*(c*(v*w))-b:=by rw[hb];unfold tB;grind
   have hvw:v*w=0∨v*w=1:=by
    rcases hI (v*w) 0 with h|h
    ·have:=pC (show v*w≤ -1 by omega) (aE a0);omega
    ·rcases hI 1 (v*w)with g|g
     ·have:=pC (show 2≤v*w by omega) (aE a0);omega
     ·omega
   rcases hvw with h0|h0
   ·have hw:w=0:=by rcases c7.mp h0 with h|h;exact absurd h hv;exact h
    subst hw;rw[h0]at e2;have e3:c'=c:=by rcases unit huv with⟨rfl,h⟩|⟨rfl,h⟩<;>(rw[hc];unfold tA;grind)
    have e4:b'= -b:=by omega
    have:¬b'<0:=fun h=>s2 (.inr ⟨by omega,h⟩);exact⟨e1,by omega,e3⟩
   ·rw[h0]at e2;have e4:b=c∧b'=c:=by omega
    have e3:c'=c:=by
     rcases unit h0 with⟨rfl,rfl⟩|⟨rfl,rfl⟩
     ·obtain rfl:u= -1:=by omega
      rw[hc,e4.1];unfold tA;grind
     ·obtain rfl:u=1:=by omega
      rw[hc,e4.1];unfold tA;grind
    exact⟨e1,by omega,e3⟩
  ·have hq:t*v≠0:=fun e=>by rcases c7.mp e with e|e;exact ht e;exact hv e
   have n1:=zE (show 0≤c-a by omega) (fE v);rcases hI 0 (t*v)with hp|hp
   ·exfalso;have n2:=zE (aE a0) (fE (t-v));have n3:=zE (show 0≤b+a-1 by omega) (aE hp);have n4:=zE (aE a0) (show 0≤t*v-1 by omega);have e:tA a b c t v=a*((t-v)*(t-v))+(c-a)*(v*v)+(b+a-1)*(t*v)+a*(t*v-1)+a+t*v:=by unfold tA;grind
    omega
   ·have n2:=zE (aE a0) (fE (t+v));have n3:=zE (show 0≤a-b by omega) (show 0≤ -(t*v) by omega);have n4:=zE (aE a0) (show 0≤ -(t*v)-1 by omega);have e:tA a b c t v=a*((t+v)*(t+v))+(c-a)*(v*v)+(a-b)* -(t*v)+a*(-(t*v)-1)+a:=by unfold tA;grind
    have z2:a*((t+v)*(t+v))=0:=by omega
    have z1:(c-a)*(v*v)=0:=by omega
    have z3:(a-b)* -(t*v)=0:=by omega
    have z4:a*(-(t*v)-1)=0:=by omega
    have y4: -(t*v)=1:=by rcases c7.mp z4 with h|h<;>omega
    have y2:t+v=0:=by
     rcases c7.mp z2 with h|h
     ·omega
     ·rcases c7.mp h with h|h<;>exact h
    have y1:c=a:=by
     rcases c7.mp z1 with h|h
     ·omega
     ·rcases c7.mp h with h|h<;>exact absurd h hv
    have y3:b=a:=by rcases c7.mp z3 with h|h<;>omega
    subst y1 y3;have e1:a'=b:=by omega
    have hvt:v= -t:=by omega
    subst hvt;have htt:t*t=1:=by grind
    rcases unit htt with⟨rfl,_⟩|⟨rfl,_⟩
    ·obtain rfl:w=1-u:=by omega
     have e2:b'=b*(2*u-1):=by rw[hb];unfold tB;grind
     have hu:u=1:=by
      rcases hI u 1 with h|h
      ·have:=pC (show 2*u-1≤ -1 by omega) (aE a0);omega
      ·rcases hI 1 u with g|g
       ·have:=pC (show 3≤2*u-1 by omega) (aE a0);omega
       ·omega
     subst hu;exact⟨e1,by omega,by rw[hc];unfold tA;grind⟩
    ·obtain rfl:w= -1-u:=by omega
     have e2:b'=b*(-1-2*u):=by rw[hb];unfold tB;grind
     have hu:u= -1:=by
      rcases hI (-1) u with h|h
      ·have:=pC (show-1-2*u≤ -1 by omega) (aE a0);omega
      ·rcases hI u (-1)with g|g
       ·have:=pC (show 3≤ -1-2*u by omega) (aE a0);omega
       ·omega
     subst hu;exact⟨e1,by omega,by rw[hc];unfold tA;grind⟩
theorem ig {a b c a' b' c':Int}(a0:0<a)(b0:0<a')(r1:gK a b)(r2:¬aC a b c)(s1:gK a' b')(s2:¬aC a' b' c')(h:cq a b c a' b' c'):a'=a∧b'=b∧c'=c:=by
 rcases dd a' a with hle|hle
 ·exact bX a0 r1 r2 s1 s2 h hle
 ·obtain⟨h1,h2,h3⟩:=bX b0 s1 s2 r1 r2 h.symm hle;exact⟨h1.symm,h2.symm,h3.symm⟩
theorem ie (N:Nat):∀(n:Nat) (a b c:Int),bK a b c→mu a b c<n→∃a' b' c' t u v w:Int,t*w-u*v=1∧a'=tA a b c t v∧b'=tB a b c t u v w∧c'=tA a b c u w∧bK a' b' c'∧gK a' b'∧¬aC a' b' c'∧
  (∀{R:Type} x1 x2 x3 x4 x5 x6 x7 (P Q R' S:Int) (K:Int→Int→Int→Int→Int→Int→Int→Int→Int→Int→Int→Int→Int→Int→Option R),Q40.l6 N n x1 x2 x3 x4 x5 x6 x7 a b c (aA P) (aA Q) (aA R') (aA S) K=
   K x1 x2 x3 x4 x5 x6 x7 a' b' c' (aA (P*t+Q*v)) (aA (P*u+Q*w)) (aA (R'*t+S*v)) (aA (R'*u+S*w))):=by
 intro n;induction n with
 |zero=>intro a b c h hm;have:=(s9 h).1;omega
 |succ n ih=>
  intro a b c h hm;by_cases hr:gK a b
  ·by_cases hs:aC a b c
   ·have hlt:=pa h hr hs;obtain⟨a',b',c',t,u,v,w,hd,g1,g2,g3,g4,g5,g6,g7⟩:=ih c (-b) a h.swap (by omega);refine⟨a',b',c', -v, -w,t,u,by grind,?_,?_,?_,g4,g5,g6,fun x1 x2 x3 x4 x5 x6 x7 P Q R' S K=>?_⟩
    ·rw[g1];unfold tA;grind
    ·rw[g2];unfold tB;grind
    ·rw[g3];unfold tA;grind
    ·rw[Q40.l6,mG N h,if_pos hr,if_pos hs];simp only[hB,cond_true,qo];simp only[Int.zero_sub];rw[g7];have e1:Q*t+ -P*v=P* -v+Q*t:=by grind
     have e2:Q*u+ -P*w=P* -w+Q*u:=by grind
     have e3:S*t+ -R'*v=R'* -v+S*t:=by grind
     have e4:S*u+ -R'*w=R'* -w+S*u:=by grind
     rw[e1,e2,e3,e4]
   ·refine⟨a,b,c,1,0,0,1,by decide,by unfold tA;grind,by unfold tB;grind,by unfold tA;grind,h,hr,hs,fun x1 x2 x3 x4 x5 x6 x7 P Q R' S K=>?_⟩;rw[Q40.l6,mG N h,if_pos hr,if_neg hs];simp only[hB,cond_false,ki,r8,l8,ck]
  ·have hlt:=gk h hr;obtain⟨a',b',c',t,u,v,w,hd,g1,g2,g3,g4,g5,g6,g7⟩:=ih a (sB a b) (sC a b c) h.shift.1 (by omega);refine⟨a',b',c',t+kk a b*v,u+kk a b*w,v,w,by grind,?_,?_,?_,g4,g5,g6,fun x1 x2 x3 x4 x5 x6 x7 P Q R' S K=>?_⟩
   ·rw[g1];unfold tA sB sC;grind
   ·rw[g2];unfold tB sB sC;grind
   ·rw[g3];unfold tA sB sC;grind
   ·rw[Q40.l6,mG N h,if_neg hr];simp only[hB,cond_true,cm,pU,cg];rw[g7];have e1:P*t+(kk a b*P+Q)*v=P*(t+kk a b*v)+Q*v:=by grind
    have e2:P*u+(kk a b*P+Q)*w=P*(u+kk a b*w)+Q*w:=by grind
    have e3:R'*t+(kk a b*R'+S)*v=R'*(t+kk a b*v)+S*v:=by grind
    have e4:R'*u+(kk a b*R'+S)*w=R'*(u+kk a b*w)+S*w:=by grind
    rw[e1,e2,e3,e4]
structure nI (a b c:Int):Prop where
 inb:ct a b c
 pos:0<a
 d0:b*b-4*a*c<0
 d1: -4294967296≤b*b-4*a*c
theorem nI.good {a b c:Int}(h:nI a b c):bK a b c:=by
 obtain⟨⟨⟨a0,a1⟩,⟨b0,b1⟩,c0,c1⟩,a2,d0,d1⟩:=h;have hsq:=fE b;have hc:0<c:=by
  rcases hI 0 c with h|h
  ·exact h
  ·exfalso;have:=zE (show(0:Int)≤4*a by omega) (show(0:Int)≤ -c by omega);have e2:4*a* -c= -(4*a*c):=by grind
   omega
 exact⟨by omega,by omega,by omega,by omega,hc,by omega,by omega,by omega⟩
theorem gG (N:Nat)(a b c:Int):(nI a b c∧Q38.f N a b c=some 0)∨(¬nI a b c∧∃e,e≠0∧Q38.f N a b c=some e):=by
 unfold Q38.f;rw[(iG N a b c).1,kI];by_cases h:ct a b c
 ·have hd:=pL h;simp only[h,decide_true,if_true,hB,eh,cond_false,hd];by_cases h1:a≤0
  ·exact .inr ⟨fun f=>by have:=f.pos;omega,81,by decide,by simp[h1]⟩
  ·by_cases h2:b*b-4*a*c≥0
   ·exact .inr ⟨fun f=>by have:=f.d0;omega,81,by decide,by simp only[h1,h2,decide_true,decide_false,cond_true,cond_false]⟩
   ·by_cases h3:b*b-4*a*c< -4294967296
    ·exact .inr ⟨fun f=>by have:=f.d1;omega,80,by decide,by simp only[h1,h2,h3,decide_true,decide_false,cond_true,cond_false]⟩
    ·exact .inl ⟨⟨h,by omega,by omega,by omega⟩,by simp only[h1,h2,h3,decide_true,decide_false,cond_true,cond_false]⟩
 ·exact .inr ⟨fun f=>h f.inb,3,by decide,by simp[h]⟩
theorem oN {N:Nat}(hN:8589934600<N){a b c:Int}(h:nI a b c):∃a' b' c' t u v w:Int,t*w-u*v=1∧a'=tA a b c t v∧b'=tB a b c t u v w∧c'=tA a b c u w∧nI a' b' c'∧gK a' b'∧¬aC a' b' c'∧
  Bd t 65536∧Bd u 65536∧Bd v 65536∧Bd w 65536∧Q40.f N a b c=some (a',b',c',t,u,v,w,0):=by
 have hg:=h.good;obtain⟨a',b',c',t,u,v,w,hd,g1,g2,g3,g4,g5,g6,g7⟩:=ie N N a b c hg (by have:=(s9 hg).2;omega);have he:cq a b c a' b' c':=⟨t,u,v,w,hd,g1,g2,g3⟩
 have hdisc:=he.disc;have hr:=g5;unfold gK at hr;have hs:=g6;unfold aC at hs;have hca:a'≤c':=by omega
 have ba:tA a' b' c' w (-v)=a:=by
  rw[g1,g2,g3,(rG a b c t u v w w (-u) (-v) t 0 0).1];have e1:t*w+u* -v=1:=by grind
  have e2:v*w+w* -v=0:=by grind
  rw[e1,e2];unfold tA;grind
 have bc:tA a' b' c' (-u) t=c:=by
  rw[g1,g2,g3,(rG a b c t u v w (-u) (-u) t t 0 0).1];have e1:t* -u+u*t=0:=by grind
  have e2:v* -u+w*t=1:=by grind
  rw[e1,e2];unfold tA;grind
 obtain⟨⟨⟨i0,i1⟩,⟨i2,i3⟩,i4,i5⟩,_⟩:=id h;obtain⟨l1,l2⟩:=A8 (x:=w) (y:= -v) g4.a0 (by omega) hr.2 hca;obtain⟨l3,l4⟩:=A8 (x:= -u) (y:=t) g4.a0 (by omega) hr.2 hca;rw[ba]at l1 l2;rw[bc]at l3 l4;have e5: -v* -v=v*v:=by grind
 have e6: -u* -u=u*u:=by grind
 have bw:=qd (x:=w) (by omega);have bv:=qd (x:=v) (by omega);have bu:=qd (x:=u) (by omega);have bt:=qd (x:=t) (by omega);have d4:=g4.d0;have d5:=g4.d1;have hb':b'*b'≤a'*c':=by
  have p1:=zE (show 0≤a'-b' by omega) (show 0≤a'+b' by omega);have e:(a'-b')*(a'+b')=a'*a'-b'*b':=by grind
  have p2:=pC hca (aE g4.a0);omega
 have hac:3*(a'*c')≤4294967296:=by
  have e:4*a'*c'=4*(a'*c'):=by grind
  omega
 have hsq:=fE b';have k1:=hE (show(1:Int)≤a' by have:=g4.a0;omega) (show 0≤c' by have:=g4.c0;omega);have fin':nI a' b' c':=by
  refine⟨?_,g4.a0,d4,d5⟩;have hc1:c'≤1073741824:=by
   have q1:=fE (a'-b');rcases hI 1 a' with h|h
   ·have:=hE (show(2:Int)≤a' by omega) (show 0≤c' by have:=g4.c0;omega);omega
   ·obtain rfl:a'=1:=by have:=g4.a0;omega
    have:b'=0∨b'=1:=by omega
    rcases this with rfl|rfl<;>omega
  have hc0:=g4.c0;have ha0:=g4.a0;unfold ct;refine⟨⟨by omega,by omega⟩,⟨by omega,by omega⟩,by omega,hc1⟩
 refine⟨a',b',c',t,u,v,w,hd,g1,g2,g3,fin',g5,g6,bt,bu,bv,bw,?_⟩;have hck:Q38.f N a b c=some 0:=by
  rcases gG N a b c with⟨_,h2⟩|⟨h2,_⟩
  ·exact h2
  ·exact absurd h h2
 unfold Q40.f;rw[hck];have e0:((0:Int) != 0)=false:=rfl;simp only[hB,e0,cond_false];have h1:aA 1=1:=by decide
 have h0:aA 0=0:=by decide
 have:=fun x1 x2 x3 x4 x5 x6 x7=>@g7 (Int×Int×Int×Int×Int×Int×Int×Int) x1 x2 x3 x4 x5 x6 x7 1 0 0 1;simp only[h1,h0,ks,fr,l8,ck]at this;rw[this];have wb:∀{x:Int},Bd x 65536→aA x=x:=fun h=>NatL.Bd.w h (by decide);rw[wb bt,wb bu,wb bv,wb bw]
theorem lr {N:Nat}{a b c:Int}(h:¬nI a b c):∃e,e≠0∧Q38.f N a b c=some e∧Q40.f N a b c=some (0,0,0,0,0,0,0,e):=by
 rcases gG N a b c with⟨h2,_⟩|⟨_,e,he,h2⟩
 ·exact absurd h2 h
 ·refine⟨e,he,h2,?_⟩;unfold Q40.f;rw[h2];have:(e != 0)=true:=by simpa using he
  simp[this]
theorem aw {N:Nat}(hN:8589934600<N){a b c:Int}(h:nI a b c)(hr:gK a b)(hs:¬aC a b c):Q40.f N a b c=some (a,b,c,1,0,0,1,0):=by
 have hck:Q38.f N a b c=some 0:=by
  rcases gG N a b c with⟨_,h2⟩|⟨h2,_⟩
  ·exact h2
  ·exact absurd h h2
 unfold Q40.f;rw[hck];have e0:((0:Int) != 0)=false:=rfl;simp only[hB,e0,cond_false];obtain⟨n,rfl⟩:∃m,N=m+1:=⟨N-1,by omega⟩
 rw[Q40.l6,mG (n+1) h.good,if_pos hr,if_neg hs];rfl
open Go.Proofs.Yteaakcmkpacpaaa.NatL (ab xA fB rC bG GT rB yC kC qB oM wN sg sn pB Zr pA xH dO eC Fg)
theorem sV {N:Nat}(hN:1000000001<N){a b:Int}(ha:ab a≤1099511627776)(hb:ab b≤1099511627776):∃g x y,GT a b g x y∧0≤g∧g≤1099511627776∧Q35.f N a b=some (g,x,y):=by
 have hK:=NatL.Cb;have hH:=NatL.Fe;have a0:=fB a;have b0:=fB b;obtain⟨g,x,y,h1,h2,h3⟩:=NatL.G9 hN (a:=a) (b:=b) (by omega) (by omega);have g0:=yC a b;have gle:rB a b≤1099511627776:=by
  by_cases h:b=0
  ·subst h;rw[wN];exact ha
  ·have:=c8 (by have:ab b≠0:=fun q=>h (bG.mp q);omega) (oM (qB a b));omega
 rw[←h1.eg]at g0 gle;have gz:Zr g:=NatL.eE (by rw[rC g0];omega);have bx: -9223372036854775808≤x∧x<9223372036854775808:=by
  by_cases hy:b=0
  ·obtain⟨k1,k2⟩:=h1.bz hy;rw[k1];exact NatL.A2 a
  ·obtain⟨k1,k2⟩:=h1.lo hy;have:=en g b0;omega
 have by': -9223372036854775808≤y∧y<9223372036854775808:=by rcases xA y with⟨c1,c2⟩|⟨c1,c2⟩<;>omega
 have zx:Zr x:=NatL.E9 bx.1 bx.2;have zy:Zr y:=NatL.E9 by'.1 by'.2;have wa: -9223372036854775808≤a∧a<9223372036854775808:=by rcases xA a with⟨c1,c2⟩|⟨c1,c2⟩<;>omega
 have wb: -9223372036854775808≤b∧b<9223372036854775808:=by rcases xA b with⟨c1,c2⟩|⟨c1,c2⟩<;>omega
 have c1:decide (ya a b>4611686018427387904)=false:=by refine decide_eq_false ?_;unfold ya;rcases xA a with⟨c1,c2⟩|⟨c1,c2⟩<;>rcases xA b with⟨c3,c4⟩|⟨c3,c4⟩<;>split<;>omega
 have c2:decide (Cq a b< -4611686018427387904)=false:=by refine decide_eq_false ?_;unfold Cq;rcases xA a with⟨c1,c2⟩|⟨c1,c2⟩<;>rcases xA b with⟨c3,c4⟩|⟨c3,c4⟩<;>split<;>omega
 refine⟨g,x,y,h1,g0,gle,?_⟩;unfold Q35.f;rw[c1,c2];simp only[cond_false];rw[NatL.F4 hN wa.1 wa.2];simp only[hB];rw[NatL.F4 hN wb.1 wb.2];simp only[hB];rw[h3];simp only[hB];rw[NatL.cn false gz,rC g0];have sf:NatL.sv false g=g:=rfl;rw[sf];simp only[hB];rw[NatL.Fc gz,if_pos (by omega),NatL.Fc zx,if_pos bx,NatL.Fc zy,if_pos by'];rfl
theorem eK {N:Nat}(hN:1000000001<N){a b c:Int}(h:ct a b c):Q41.f N a b c=some (rB (rB a b) c):=by
 have ha:ab a≤1073741824:=by obtain⟨h1,_⟩:=h;rcases xA a with⟨c1,c2⟩|⟨c1,c2⟩<;>omega
 have hb:ab b≤1073741824:=by obtain⟨_,h1,_⟩:=h;rcases xA b with⟨c1,c2⟩|⟨c1,c2⟩<;>omega
 have hc:ab c≤1073741824:=by obtain⟨_,_,h1⟩:=h;rcases xA c with⟨c1,c2⟩|⟨c1,c2⟩<;>omega
 obtain⟨g,x,y,h1,h2,h3,h4⟩:=sV hN (a:=a) (b:=b) (by omega) (by omega);obtain⟨g',x',y',h5,h6,h7,h8⟩:=sV hN (a:=g) (b:=c) (by rw[rC h2];omega) (by omega);unfold Q41.f;rw[kI,decide_eq_true h];simp only[hB,eh,cond_false];rw[h4];simp only[hB];rw[h8,h5.eg,h1.eg];rfl
end Go.Proofs.Yteaakcmkpacpaaa.Pure
namespace Go.Proofs.Yteaakcmkpacpaaa.Mod
structure E where
 re:Int
 im:Int
theorem E.ext' {x y:E}(h1:x.re=y.re)(h2:x.im=y.im):x=y:=by cases x;cases y;simp_all
def ad (x y:E):E:=⟨x.re+y.re,x.im+y.im⟩
def ng (x:E):E:=⟨-x.re, -x.im⟩
def ze:E:=⟨0,0⟩
def sm (n:Int)(x:E):E:=⟨n*x.re,n*x.im⟩
def cj (s:Int)(x:E):E:=⟨x.re+s*x.im, -x.im⟩
def ml (s m:Int)(x y:E):E:=⟨x.re*y.re+m*(x.im*y.im),x.re*y.im+x.im*y.re+s*(x.im*y.im)⟩
def nm (s m:Int)(x:E):Int:=x.re*x.re+s*(x.re*x.im)-m*(x.im*x.im)
theorem nJ (s m:Int)(x y:E):ml s m x y=ml s m y x:=E.ext' (by simp only[ml];grind) (by simp only[ml];grind)
theorem dN (s m:Int)(x y z:E):ml s m (ml s m x y) z=ml s m x (ml s m y z):=E.ext' (by simp only[ml];grind) (by simp only[ml];grind)
theorem mZ (s m:Int)(x y z:E):ml s m x (ad y z)=ad (ml s m x y) (ml s m x z):=E.ext' (by simp only[ml,ad];grind) (by simp only[ml,ad];grind)
theorem gi (s m:Int)(x y:E):ml s m x (ng y)=ng (ml s m x y):=E.ext' (by simp only[ml,ng];grind) (by simp only[ml,ng];grind)
theorem ow (s m:Int)(x:E):ml s m x ze=ze:=E.ext' (by simp only[ml,ze];grind) (by simp only[ml,ze];grind)
theorem Cp (s m n:Int)(x y:E):ml s m x (sm n y)=sm n (ml s m x y):=E.ext' (by simp only[ml,sm];grind) (by simp only[ml,sm];grind)
theorem yg (s m:Int)(x y:E):nm s m (ml s m x y)=nm s m x*nm s m y:=by simp only[nm,ml];grind
theorem Cx (x:Int):0≤x*x:=by
 rcases dd 0 x with h|h
 ·exact zE h h
 ·exact Int.mul_nonneg_of_nonpos_of_nonpos h h
theorem Cy {x:Int}(h:x≠0):0<x*x:=by
 have:=Cx x;have:x*x≠0:=fun e=>by rcases c7.mp e with e|e<;>exact h e
 omega
theorem ah {s m:Int}(hd:s*s+4*m<0){x:E}(h:x≠ze):0<nm s m x:=by
 have e:4*nm s m x=(2*x.re+s*x.im)*(2*x.re+s*x.im)+ -(s*s+4*m)*(x.im*x.im):=by simp only[nm];grind
 have h1:=Cx (2*x.re+s*x.im);by_cases hi:x.im=0
 ·have hr:x.re≠0:=fun q=>h (E.ext' q hi);have:=Cy (x:=2*x.re+s*x.im) (by rw[hi];omega);rw[hi]at e this;omega
 ·have h2:=y8 (show 0< -(s*s+4*m) by omega) (Cy hi);omega
theorem Bj (s m:Int):nm s m ze=0:=by simp only[nm,ze];grind
theorem xt {s m:Int}(hd:s*s+4*m<0){x y:E}(hx:x≠ze)(hy:y≠ze):ml s m x y≠ze:=fun h=>by
 have h1:=y8 (ah hd hx) (ah hd hy);rw[←yg,h,Bj]at h1;omega
theorem ou {s m:Int}(hd:s*s+4*m<0){x y z:E}(hx:x≠ze)(h:ml s m x y=ml s m x z):y=z:=by
 have e:ml s m x (ad y (ng z))=ze:=by rw[mZ,gi,h];exact E.ext' (by simp only[ad,ng,ze];omega) (by simp only[ad,ng,ze];omega)
 by_cases hw:ad y (ng z)=ze
 ·have h1:=congrArg E.re hw;have h2:=congrArg E.im hw;simp only[ad,ng,ze]at h1 h2;exact E.ext' (by omega) (by omega)
 ·exact absurd e (xt hd hx hw)
inductive Sp (S:E→Prop):E→Prop
 |zero:Sp S ze
 |mem {x:E}:S x→Sp S x
 |add {x y:E}:Sp S x→Sp S y→Sp S (ad x y)
 |neg {x:E}:Sp S x→Sp S (ng x)
theorem Dq (n:Int)(x:E):sm (-n) x=ng (sm n x):=E.ext' (by simp only[sm,ng];grind) (by simp only[sm,ng];grind)
theorem Sp.smul {S:E→Prop}{x:E}(h:Sp S x)(n:Int):Sp S (sm n x):=by
 have nat:∀k:Nat,Sp S (sm (k:Int) x):=by
  intro k;induction k with
  |zero=>have e:sm ((0:Nat):Int) x=ze:=E.ext' (by simp[sm,ze]) (by simp[sm,ze]);rw[e];exact Sp.zero
  |succ k ih=>have e:sm ((k+1:Nat):Int) x=ad (sm (k:Int) x) x:=E.ext' (by simp only[sm,ad];grind) (by simp only[sm,ad];grind);rw[e];exact Sp.add ih h
 rcases dd 0 n with h0|h0
 ·obtain⟨k,rfl⟩:=q7 h0;exact nat k
 ·obtain⟨k,hk⟩:=q7 (show 0≤ -n by omega);have e:n= -(k:Int):=by omega
  rw[e,Dq];exact Sp.neg (nat k)
theorem Sp.mono {S T:E→Prop}(h:∀x,S x→Sp T x){x:E}(hx:Sp S x):Sp T x:=by
 induction hx with
 |zero=>exact Sp.zero
 |mem hx=>exact h _ hx
 |add _ _ a b=>exact Sp.add a b
 |neg _ a=>exact Sp.neg a
def PM (s m:Int)(M L:E→Prop):E→Prop:=Sp (fun z=>∃x y,M x∧L y∧z=ml s m x y)
theorem PM.comm {s m:Int}{M L:E→Prop}{z:E}(h:PM s m M L z):PM s m L M z:=
 Sp.mono (fun z ⟨x,y,hx,hy,e⟩=>Sp.mem ⟨y,x,hy,hx,by rw[e,nJ]⟩) h
theorem PM.mono {s m:Int}{M M' L L':E→Prop}(h1:∀x,M x→M' x)(h2:∀x,L x→L' x){z:E}(h:PM s m M L z):PM s m M' L' z:=
 Sp.mono (fun z ⟨x,y,hx,hy,e⟩=>Sp.mem ⟨x,y,h1 x hx,h2 y hy,e⟩) h
theorem PM.left {s m:Int}{M L:E→Prop}{x:E}(hx:M x):∀{y:E},Sp L y→PM s m M L (ml s m x y):=by
 intro y hy;induction hy with
 |zero=>rw[ow];exact Sp.zero
 |mem hy=>exact Sp.mem ⟨x,_,hx,hy,rfl⟩
 |add _ _ a b=>rw[mZ];exact Sp.add a b
 |neg _ a=>rw[gi];exact Sp.neg a
theorem PM.assoc {s m:Int}{M L Q:E→Prop}{z:E}(h:PM s m (PM s m M L) Q z):PM s m M (PM s m L Q) z:=by
 refine Sp.mono (fun z ⟨x,y,hx,hy,e⟩=>?_) h;subst e;have key:∀{x:E},PM s m M L x→PM s m M (PM s m L Q) (ml s m x y):=by
  intro x hx;induction hx with
  |zero=>rw[nJ,ow];exact Sp.zero
  |mem hx=>obtain⟨u,v,hu,hv,rfl⟩:=hx;rw[dN];exact Sp.mem ⟨u,ml s m v y,hu,Sp.mem ⟨v,y,hv,hy,rfl⟩,rfl⟩
  |add _ _ a b=>rw[nJ,mZ,nJ s m y,nJ s m y];exact Sp.add a b
  |neg _ a=>rw[nJ,gi,nJ s m y];exact Sp.neg a
 exact key hx
theorem PM.assoc' {s m:Int}{M L Q:E→Prop}{z:E}(h:PM s m M (PM s m L Q) z):PM s m (PM s m M L) Q z:=by
 have h1:=PM.comm h;have h2:PM s m (PM s m Q L) M z:=h1.mono (fun x hx=>PM.comm hx) (fun x hx=>hx);have h3:=PM.comm (PM.assoc h2);exact h3.mono (fun x hx=>PM.comm hx) (fun x hx=>hx)
def Sc (s m:Int)(l:E)(M:E→Prop):E→Prop:=fun z=>∃x,M x∧z=ml s m l x
theorem Sc.prod {s m:Int}{l:E}{M L:E→Prop}{z:E}:PM s m (Sc s m l M) L z↔Sc s m l (PM s m M L) z:=by
 constructor
 ·intro h;induction h with
  |zero=>exact⟨ze,Sp.zero,(ow s m l).symm⟩
  |mem h=>obtain⟨x,y,⟨u,hu,rfl⟩,hy,rfl⟩:=h;exact⟨ml s m u y,Sp.mem ⟨u,y,hu,hy,rfl⟩,dN s m l u y⟩
  |add _ _ a b=>obtain⟨x,hx,rfl⟩:=a;obtain⟨y,hy,rfl⟩:=b;exact⟨ad x y,Sp.add hx hy,(mZ s m l x y).symm⟩
  |neg _ a=>obtain⟨x,hx,rfl⟩:=a;exact⟨ng x,Sp.neg hx,(gi s m l x).symm⟩
 ·rintro⟨x,hx,rfl⟩;have key:∀{x:E},PM s m M L x→PM s m (Sc s m l M) L (ml s m l x):=by
   intro x hx;induction hx with
   |zero=>rw[ow];exact Sp.zero
   |mem h=>obtain⟨u,v,hu,hv,rfl⟩:=h;rw[←dN];exact Sp.mem ⟨_,v,⟨u,hu,rfl⟩,hv,rfl⟩
   |add _ _ a b=>rw[mZ];exact Sp.add a b
   |neg _ a=>rw[gi];exact Sp.neg a
  exact key hx
theorem Sc.sc {s m:Int}{k l:E}{M:E→Prop}{z:E}:Sc s m k (Sc s m l M) z↔Sc s m (ml s m k l) M z:=by
 constructor
 ·rintro⟨x,⟨y,hy,rfl⟩,rfl⟩;exact⟨y,hy,(dN s m k l y).symm⟩
 ·rintro⟨y,hy,rfl⟩;exact⟨ml s m l y,⟨y,hy,rfl⟩,dN s m k l y⟩
theorem Sc.congr {s m:Int}{k:E}{M L:E→Prop}(h:∀z,M z↔L z){z:E}:Sc s m k M z↔Sc s m k L z:=
 ⟨fun⟨x,hx,e⟩=>⟨x,(h x).mp hx,e⟩,fun⟨x,hx,e⟩=>⟨x,(h x).mpr hx,e⟩⟩
def Hm (s m:Int)(M L:E→Prop):Prop:=∃k l:E,k≠ze∧l≠ze∧∀z,Sc s m k M z↔Sc s m l L z
theorem lj:(⟨1,0⟩:E)≠ze:=fun h=>by have:=congrArg E.re h;simp[ze]at this
theorem Hm.same {s m:Int}{M L:E→Prop}(h:∀z,M z↔L z):Hm s m M L:=⟨⟨1,0⟩,⟨1,0⟩,lj,lj,fun z=>Sc.congr h⟩
theorem Hm.refl (s m:Int)(M:E→Prop):Hm s m M M:=Hm.same (fun z=>Iff.rfl)
theorem Hm.symm {s m:Int}{M L:E→Prop}(h:Hm s m M L):Hm s m L M:=by
 obtain⟨k,l,hk,hl,h⟩:=h;exact⟨l,k,hl,hk,fun z=>(h z).symm⟩
theorem Hm.trans {s m:Int}(hd:s*s+4*m<0){M L Q:E→Prop}(h:Hm s m M L)(g:Hm s m L Q):Hm s m M Q:=by
 obtain⟨k,l,hk,hl,h⟩:=h;obtain⟨p,q,hp,hq,g⟩:=g;refine⟨ml s m p k,ml s m l q,xt hd hp hk,xt hd hl hq,fun z=>?_⟩;have h1:Sc s m (ml s m p k) M z↔Sc s m (ml s m p l) L z:=by rw[←Sc.sc,←Sc.sc];exact Sc.congr h
 have h2:Sc s m (ml s m l p) L z↔Sc s m (ml s m l q) Q z:=by rw[←Sc.sc,←Sc.sc];exact Sc.congr g
 rw[h1,nJ s m p l];exact h2
theorem Hm.scaled {s m:Int}{k:E}(hk:k≠ze){M L:E→Prop}(h:∀z,M z↔Sc s m k L z):Hm s m M L:=by
 refine⟨⟨1,0⟩,k,lj,hk,fun z=>?_⟩;have e:∀x:E,ml s m ⟨1,0⟩ x=x:=fun x=>E.ext' (by simp[ml]) (by simp[ml]);constructor
 ·rintro⟨x,hx,rfl⟩;rw[e];exact(h x).mp hx
 ·intro hz;exact⟨z,(h z).mpr hz,(e z).symm⟩
theorem Hm.left {s m:Int}{M M':E→Prop}(L:E→Prop)(h:Hm s m M M'):Hm s m (PM s m M L) (PM s m M' L):=by
 obtain⟨k,l,hk,hl,h⟩:=h;refine⟨k,l,hk,hl,fun z=>?_⟩;rw[←Sc.prod,←Sc.prod];exact⟨fun hz=>hz.mono (fun x hx=>(h x).mp hx) (fun x hx=>hx),fun hz=>hz.mono (fun x hx=>(h x).mpr hx) (fun x hx=>hx)⟩
theorem Hm.comm {s m:Int}(M L:E→Prop):Hm s m (PM s m M L) (PM s m L M):=Hm.same (fun z=>⟨PM.comm,PM.comm⟩)
theorem Hm.assoc {s m:Int}(M L Q:E→Prop):Hm s m (PM s m (PM s m M L) Q) (PM s m M (PM s m L Q)):=Hm.same (fun z=>⟨PM.assoc,PM.assoc'⟩)
theorem Hm.prod {s m:Int}(hd:s*s+4*m<0){M M' L L':E→Prop}(h:Hm s m M M')(g:Hm s m L L'):Hm s m (PM s m M L) (PM s m M' L'):=
 (h.left L).trans hd ((Hm.comm M' L).trans hd ((g.left M').trans hd (Hm.comm L' M')))
def Fo (a t:Int):E→Prop:=fun z=>a∣z.re-t*z.im
theorem Fo.zero (a t:Int):Fo a t ze:=by simp only[Fo,ze];exact⟨0,by omega⟩
theorem Fo.add {a t:Int}{x y:E}(hx:Fo a t x)(hy:Fo a t y):Fo a t (ad x y):=by
 have:=ds hx hy;simp only[Fo,ad];have e:x.re+y.re-t*(x.im+y.im)=x.re-t*x.im+(y.re-t*y.im):=by grind
 rw[e];exact this
theorem Fo.neg {a t:Int}{x:E}(hx:Fo a t x):Fo a t (ng x):=by
 have:=oj.mpr hx;simp only[Fo,ng];have e: -x.re-t* -x.im= -(x.re-t*x.im):=by grind
 rw[e];exact this
theorem Fo.gen {a t:Int}{z:E}(h:Fo a t z):∃k:Int,z=⟨k*a+t*z.im,z.im⟩:=by
 obtain⟨k,hk⟩:=h;exact⟨k,E.ext' (by simp only;have:a*k=k*a:=ae _ _;omega) rfl⟩
theorem Fo.a (a t:Int):Fo a t ⟨a,0⟩:=by simp only[Fo];exact⟨1,by omega⟩
theorem Fo.t (a t:Int):Fo a t ⟨t,1⟩:=by simp only[Fo];exact⟨0,by omega⟩
theorem Ep (k1 k2 i1 i2 e v1 v2 t s' d1 d2 d3:Int):k1*k2*v1*(e*v2)+k1*v1*(t-v2*d2)*i2+k2*v2*(t-v1*d1)*i1+i1*i2*(s'*t+v1*v2*d3)-t*(k1*v1*i2+k2*v2*i1+s'*i1*i2)=v1*v2*(k1*k2*e-k1*i2*d2-k2*i1*d1+i1*i2*d3):=by grind
theorem Gb {s m e v1 v2 t1 t2 t s' n4 c1 x y z p q r:Int}(he:e≠0)
  (hs:t1+t2+s=e*s')(hn:m+t1*t2=e*n4)(hc:t1*t1+s*t1-m=e*v1*c1)
  (h1:v1∣t-t1)(h2:v2∣t-t2)(h3:v1*v2∣n4-s'*t)
  (hb:x*(e*v1)+y*(e*v2)+z*(e*s')=e)(hp:p*(e*v1)+q*(2*t1+s)+r*c1=1)(u:E):
  PM s m (Fo (e*v1) t1) (Fo (e*v2) t2) u↔Sc s m ⟨e,0⟩ (Fo (v1*v2) t) u:=by
 have sub:∀u,PM s m (Fo (e*v1) t1) (Fo (e*v2) t2) u→∃w,Fo (v1*v2) t w∧u=⟨e*w.re,e*w.im⟩:=by
  intro u hu;induction hu with
  |zero=>exact⟨ze,Fo.zero _ _,E.ext' (by simp[ze]) (by simp[ze])⟩
  |mem h=>
   obtain⟨a,b,ha,hb',rfl⟩:=h;obtain⟨k1,e1⟩:=ha.gen;obtain⟨k2,e2⟩:=hb'.gen;generalize a.im=i1 at*;generalize b.im=i2 at*;subst e1;subst e2;refine⟨⟨k1*k2*v1*(e*v2)+k1*v1*t2*i2+k2*v2*t1*i1+i1*i2*n4,k1*v1*i2+k2*v2*i1+s'*i1*i2⟩,?_,?_⟩
   ·simp only[Fo];obtain⟨d1,hd1⟩:=h1;obtain⟨d2,hd2⟩:=h2;obtain⟨d3,hd3⟩:=h3;refine⟨k1*k2*e-k1*i2*d2-k2*i1*d1+i1*i2*d3,?_⟩;have q1:t1=t-v1*d1:=by omega
    have q2:t2=t-v2*d2:=by omega
    have q3:n4=s'*t+v1*v2*d3:=by omega
    rw[q1,q2,q3];exact Ep ..
   ·refine E.ext' ?_ ?_
    ·simp only[ml];grind
    ·simp only[ml];grind
  |add _ _ a b=>obtain⟨w,hw,rfl⟩:=a;obtain⟨w',hw',rfl⟩:=b;exact⟨ad w w',hw.add hw',E.ext' (by simp only[ad];grind) (by simp only[ad];grind)⟩
  |neg _ a=>obtain⟨w,hw,rfl⟩:=a;exact⟨ng w,hw.neg,E.ext' (by simp only[ng];grind) (by simp only[ng];grind)⟩
 have el:∀w:E,ml s m ⟨e,0⟩ w=⟨e*w.re,e*w.im⟩:=fun w=>E.ext' (by simp only[ml];grind) (by simp only[ml];grind);constructor
 ·intro hu;obtain⟨w,hw,rfl⟩:=sub u hu;exact⟨w,hw,(el w).symm⟩
 ·rintro⟨w,hw,rfl⟩;rw[el];have g1:PM s m (Fo (e*v1) t1) (Fo (e*v2) t2) ⟨e*v1*(e*v2),0⟩:=Sp.mem ⟨⟨e*v1,0⟩,⟨e*v2,0⟩,Fo.a _ _,Fo.a _ _,E.ext' (by simp only[ml];grind) (by simp only[ml];grind)⟩;have g2:PM s m (Fo (e*v1) t1) (Fo (e*v2) t2) ⟨e*v1*t2,e*v1⟩:=Sp.mem ⟨⟨e*v1,0⟩,⟨t2,1⟩,Fo.a _ _,Fo.t _ _,E.ext' (by simp only[ml];grind) (by simp only[ml];grind)⟩;have g3:PM s m (Fo (e*v1) t1) (Fo (e*v2) t2) ⟨e*v2*t1,e*v2⟩:=Sp.mem ⟨⟨t1,1⟩,⟨e*v2,0⟩,Fo.t _ _,Fo.a _ _,E.ext' (by simp only[ml];grind) (by simp only[ml];grind)⟩;have g4:PM s m (Fo (e*v1) t1) (Fo (e*v2) t2) ⟨m+t1*t2,t1+t2+s⟩:=Sp.mem ⟨⟨t1,1⟩,⟨t2,1⟩,Fo.t _ _,Fo.t _ _,E.ext' (by simp only[ml];grind) (by simp only[ml];grind)⟩;have f1:PM s m (Fo (e*v1) t1) (Fo (e*v2) t2) ⟨e*(v1*v2),0⟩:=by
   have a1:=Sp.smul g1 (p*v1+q*s');have a2:=Sp.smul g3 (q*v1+r*s');have a3:=Sp.smul g2 (-(q*v2));have a4:=Sp.smul g4 (-(r*v2));have:=Sp.add (Sp.add a1 a2) (Sp.add a3 a4);refine(?_:(⟨e*(v1*v2),0⟩:E)=_)▸this;refine E.ext' ?_ ?_
   ·simp only[ad,sm];have k:e*(v1*v2)=e*(v1*v2)*(p*(e*v1)+q*(2*t1+s)+r*c1):=by rw[hp];omega
    rw[k];have k2:2*t1+s=e*s'+(t1-t2):=by omega
    rw[k2];have k3:e*(v1*v2)*(r*c1)=r*v2*(e*v1*c1):=by grind
    have k4:e*(v1*v2)*(p*(e*v1)+q*(e*s'+(t1-t2))+r*c1)=e*(v1*v2)*(p*(e*v1)+q*(e*s'+(t1-t2)))+r*v2*(e*v1*c1):=by grind
    rw[k4,←hc];grind
   ·simp only[ad,sm];grind
  obtain⟨w0,hw0,e0⟩:=sub _ (Sp.add (Sp.add (Sp.smul g2 x) (Sp.smul g3 y)) (Sp.smul g4 z));have i0:w0.im=1:=by
   have:=congrArg E.im e0;simp only[ad,sm]at this;rw[hs]at this;have h5:e*w0.im=e*1:=by rw[←this];omega
   exact eX he h5
  have f2:PM s m (Fo (e*v1) t1) (Fo (e*v2) t2) ⟨e*w0.re,e*w0.im⟩:=by rw[←e0];exact Sp.add (Sp.add (Sp.smul g2 x) (Sp.smul g3 y)) (Sp.smul g4 z)
  obtain⟨k,hk⟩:=hw;obtain⟨k0,hk0⟩:=hw0;rw[i0]at hk0;have:=Sp.add (Sp.smul f1 (k-w.im*k0)) (Sp.smul f2 w.im);refine(?_:(⟨e*w.re,e*w.im⟩:E)=_)▸this;refine E.ext' ?_ ?_
  ·simp only[ad,sm];have k5:w.re=v1*v2*k+t*w.im:=by omega
   have k6:w0.re=v1*v2*k0+t:=by omega
   rw[k5,k6];grind
  ·simp only[ad,sm,i0];grind
theorem G0 {s m a t c p q r u:Int}(hd:s*s+4*m<0)(ha:a≠0)(hc:t*t+s*t-m=a*c)(hdet:p*u-q*r=1):
  Hm s m (Fo a t) (Fo (a*p*p+(2*t+s)*p*r+c*r*r) (a*p*q+(2*t+s)*q*r+c*r*u+t)):=by
 have hk:cj s ⟨p*a+r*t,r⟩≠ze:=fun h=>by
  have h1:=congrArg E.im h;have h2:=congrArg E.re h;simp only[cj,ze]at h1 h2;have hr:r=0:=by omega
  subst hr;have:p*a=0:=by omega
  rcases c7.mp this with h3|h3
  ·subst h3;omega
  ·exact ha h3
 have hl:(⟨a,0⟩:E)≠ze:=fun h=>ha (by have:=congrArg E.re h;simpa[ze]using this);refine⟨cj s ⟨p*a+r*t,r⟩,⟨a,0⟩,hk,hl,fun z=>?_⟩;constructor
 ·rintro⟨x,hx,rfl⟩;obtain⟨k,hx⟩:=hx.gen;generalize x.im=i at*;subst hx;refine⟨⟨(k*u-i*q)*(a*p*p+(2*t+s)*p*r+c*r*r)+(i*p-k*r)*(a*p*q+(2*t+s)*q*r+c*r*u+t),i*p-k*r⟩,?_,?_⟩
  ·simp only[Fo];exact⟨k*u-i*q,by grind⟩
  ·refine E.ext' ?_ ?_
   ·simp only[ml,cj];grind
   ·simp only[ml,cj];grind
 ·rintro⟨x,hx,rfl⟩;obtain⟨k,hx⟩:=hx.gen;generalize x.im=i at*;subst hx;refine⟨⟨(k*p+i*q)*a+(k*r+i*u)*t,k*r+i*u⟩,?_,?_⟩
  ·simp only[Fo];exact⟨k*p+i*q,by grind⟩
  ·refine E.ext' ?_ ?_
   ·simp only[ml,cj];grind
   ·simp only[ml,cj];grind
theorem bS (s m:Int)(k:E)(x y:Int)(u v:E):ml s m k (ad (sm x u) (sm y v))=ad (sm x (ml s m k u)) (sm y (ml s m k v)):=by rw[mZ,Cp,Cp]
theorem Dd (x y a t:Int):(⟨x*a+t*y,y⟩:E)=ad (sm x ⟨a,0⟩) (sm y ⟨t,1⟩):=E.ext' (by simp only[ad,sm];grind) (by simp only[ad,sm];grind)
theorem pf {s m a t c:Int}(hc:t*t+s*t-m=a*c)(X Y:Int):nm s m ⟨X*a+t*Y,Y⟩=a*(a*X*X+(2*t+s)*X*Y+c*Y*Y):=by
 have e:nm s m ⟨X*a+t*Y,Y⟩=a*(a*X*X+(2*t+s)*X*Y)+(t*t+s*t-m)*(Y*Y):=by simp only[nm];grind
 rw[e,hc];grind
theorem Cv (s m k l x y u v:Int):(ml s m (cj s (ml s m ⟨k,l⟩ ⟨x,y⟩)) (ml s m ⟨k,l⟩ ⟨u,v⟩)).im=nm s m ⟨k,l⟩*(x*v-y*u):=by simp only[ml,cj,nm];grind
theorem vh {s m a t c a' t' c':Int}(hd:s*s+4*m<0)(ha:0<a)(ha':0<a')(hc:t*t+s*t-m=a*c)(hc':t'*t'+s*t'-m=a'*c')
  {k l:E}(hk:k≠ze)(hl:l≠ze)(h:∀z,Sc s m k (Fo a t) z↔Sc s m l (Fo a' t') z):nm s m k*a=nm s m l*a'∧∃p q r u:Int,p*u-q*r=1∧a=a'*p*p+(2*t'+s)*p*r+c'*r*r∧2*t+s=2*a'*p*q+(2*t'+s)*p*u+(2*t'+s)*q*r+2*c'*r*u∧
   c=a'*q*q+(2*t'+s)*q*u+c'*u*u:=by
 obtain⟨X1,m1,e1⟩:=(h _).mp ⟨_,Fo.a a t,rfl⟩;obtain⟨X2,m2,e2⟩:=(h _).mp ⟨_,Fo.t a t,rfl⟩;obtain⟨Y1,m3,e3⟩:=(h _).mpr ⟨_,Fo.a a' t',rfl⟩;obtain⟨Y2,m4,e4⟩:=(h _).mpr ⟨_,Fo.t a' t',rfl⟩;obtain⟨p,g1⟩:=m1.gen;obtain⟨q,g2⟩:=m2.gen;obtain⟨z1,g3⟩:=m3.gen;obtain⟨z2,g4⟩:=m4.gen;generalize X1.im=r at*;generalize X2.im=u at*;generalize Y1.im=w1 at*;generalize Y2.im=w2 at*;subst g1;subst g2;subst g3;subst g4;have b1:(⟨a,0⟩:E)=ad (sm p ⟨z1*a+t*w1,w1⟩) (sm r ⟨z2*a+t*w2,w2⟩):=by refine ou hd hk (s:=s) (m:=m) ?_;rw[bS,←e3,←e4,←bS,←Dd];exact e1
 have b2:(⟨t,1⟩:E)=ad (sm q ⟨z1*a+t*w1,w1⟩) (sm u ⟨z2*a+t*w2,w2⟩):=by refine ou hd hk (s:=s) (m:=m) ?_;rw[bS,←e3,←e4,←bS,←Dd];exact e2
 have i1:p*w1+r*w2=0:=by have:=congrArg E.im b1;simp only[ad,sm]at this;omega
 have i2:q*w1+u*w2=1:=by have:=congrArg E.im b2;simp only[ad,sm]at this;omega
 have i3:p*z1+r*z2=1:=by
  have:=congrArg E.re b1;simp only[ad,sm]at this;have e:a*(p*z1+r*z2)=a*1:=by
   have e5:p*(z1*a+t*w1)+r*(z2*a+t*w2)=a*(p*z1+r*z2)+t*(p*w1+r*w2):=by grind
   rw[e5,i1]at this;omega
  exact eX (by omega) e
 have i4:q*z1+u*z2=0:=by
  have:=congrArg E.re b2;simp only[ad,sm]at this;have e:a*(q*z1+u*z2)=a*0:=by
   have e5:q*(z1*a+t*w1)+u*(z2*a+t*w2)=a*(q*z1+u*z2)+t*(q*w1+u*w2):=by grind
   rw[e5,i2]at this;omega
  exact eX (by omega) e
 have det:(p*u-q*r)*(z1*w2-z2*w1)=1:=by
  have e5:(p*u-q*r)*(z1*w2-z2*w1)=(p*z1+r*z2)*(q*w1+u*w2)- (p*w1+r*w2)*(q*z1+u*z2):=by grind
  rw[e5,i1,i2,i3,i4];decide
 have hnk:=ah hd hk;have hnl:=ah hd hl;have dir:nm s m k*a=nm s m l*a'*(p*u-q*r):=by
  have r1:=Cv s m k.re k.im a 0 t 1;have r2:=Cv s m l.re l.im (p*a'+t'*r) r (q*a'+t'*u) u;have hk':(⟨k.re,k.im⟩:E)=k:=rfl;have hl':(⟨l.re,l.im⟩:E)=l:=rfl;rw[hk']at r1;rw[hl']at r2;rw[e1,e2,r2]at r1;have e6:(p*a'+t'*r)*u-r*(q*a'+t'*u)=a'*(p*u-q*r):=by grind
  rw[e6]at r1;have e7:a*1-0*t=a:=by omega
  rw[e7,←ek]at r1;exact r1.symm
 have la:0<nm s m k*a:=y8 hnk ha;have la':0<nm s m l*a':=y8 hnl ha';have D1:p*u-q*r=1:=by
  have hD:0<p*u-q*r:=by
   rcases hI 0 (p*u-q*r)with h|h
   ·exact h
   ·have:=zE (aE la') (show 0≤ -(p*u-q*r) by omega);rw[c5]at this;omega
  have hdv:(p*u-q*r)∣1:=⟨_,det.symm⟩
  have:=c8 (by decide) hdv;omega
 have same:nm s m k*a=nm s m l*a':=by rw[dir,D1];omega
 have all:∀X Y:Int,a*X*X+(2*t+s)*X*Y+c*Y*Y=a'*(X*p+Y*q)*(X*p+Y*q)+(2*t'+s)*(X*p+Y*q)*(X*r+Y*u)+c'*(X*r+Y*u)*(X*r+Y*u):=by
  intro X Y;have e5:ml s m k ⟨X*a+t*Y,Y⟩=ml s m l ⟨(X*p+Y*q)*a'+t'*(X*r+Y*u),X*r+Y*u⟩:=by rw[Dd X Y a t,bS,e1,e2,←bS];congr 1;exact E.ext' (by simp only[ad,sm];grind) (by simp only[ad,sm])
  have e6:=congrArg (nm s m) e5;rw[yg,yg,pf hc,pf hc',←ek,←ek,same]at e6;exact eX (by omega) e6
 have f1:=all 1 0;have f2:=all 0 1;have f3:=all 1 1;simp only[ki,r8,ks,fr,l8,ck]at f1 f2 f3;refine⟨same,p,q,r,u,D1,?_,?_,?_⟩
 ·exact f1
 ·have e8:2*t+s=(a+(2*t+s)+c)-a-c:=by omega
  rw[e8,f3,f1,f2];grind
 ·exact f2
theorem G6 {s m a t c a' t' c':Int}(hd:s*s+4*m<0)(ha:0<a)(ha':0<a')(hc:t*t+s*t-m=a*c)(hc':t'*t'+s*t'-m=a'*c')
  (h:Hm s m (Fo a t) (Fo a' t')):∃p q r u:Int,p*u-q*r=1∧a=a'*p*p+(2*t'+s)*p*r+c'*r*r∧2*t+s=2*a'*p*q+(2*t'+s)*p*u+(2*t'+s)*q*r+2*c'*r*u∧
   c=a'*q*q+(2*t'+s)*q*u+c'*u*u:=by
 obtain⟨k,l,hk,hl,h⟩:=h;exact(vh hd ha ha' hc hc' hk hl h).2
end Go.Proofs.Yteaakcmkpacpaaa.Mod
namespace Go.Proofs.Yteaakcmkpacpaaa.Pure
open Go Go.Proofs.Yteaakcmkpacpaaa.Ev
theorem hJ {x:Int}(h0:0≤x)(h1:x<9223372036854775808)(k:Nat)(hk:k≤32):iB .i64 x (2^k-1)=x%2^k:=by
 have hp:(2:Nat)^k≤2^32:=p7 (by decide) hk;have hp0:0<(2:Nat)^k:=Nat.pow_pos (by decide);have e2:((2:Int)^k)=((2^k:Nat):Int):=by simp
 obtain⟨a,rfl⟩:=q7 h0;have m:((2:Int)^k-1)=((2^k-1:Nat):Int):=by rw[e2];omega
 have t1:(BitVec.ofInt 64 (a:Int)).toNat=a:=by simp[h9];omega
 have t2:(BitVec.ofInt 64 ((2^k-1:Nat):Int)).toNat=2^k-1:=by rw[h9];omega
 have e:(BitVec.ofInt 64 (a:Int)&&& BitVec.ofInt 64 ((2^k-1:Nat):Int)).toNat=a%2^k:=by rw[BitVec.toNat_and,t1,t2,fs]
 have hlt:a%2^k<2^k:=Nat.mod_lt _ hp0;rw[m,e2];show IntKind.wrap .i64 ((BitVec.ofInt 64 (a:Int)&&& BitVec.ofInt 64 ((2^k-1:Nat):Int)).toNat:Int)=_;rw[e];have w:IntKind.wrap .i64 ((a%2^k:Nat):Int)=aA ((a%2^k:Nat):Int):=rfl;rw[w,dA (by omega) (by omega)];simp
theorem tf (N:Nat)(d:Int):∃a b c e,Q58.f N d=some (a,b,c,e)∧True∧(e=0→a=1∧(b=0∨b=1)∧b*b-4*a*c=d∧ -4294967296≤d∧d≤ -3):=by
 unfold Q58.f;by_cases h1:d> -3
 ·rw[decide_eq_true h1];exact⟨0,0,0,80,rfl,trivial,fun h=>absurd h (by decide)⟩
 ·by_cases h2:d< -4294967296
  ·rw[decide_eq_false h1,decide_eq_true h2];exact⟨0,0,0,80,rfl,trivial,fun h=>absurd h (by decide)⟩
  ·have w:aA (0-d)= -d:=by rw[dA (by omega) (by omega)];omega
   have a3:iB .i64 (-d) 3=(-d)%4:=hJ (by omega) (by omega) 2 (by decide);have a1:iB .i64 (-d) 1=(-d)%2:=hJ (by omega) (by omega) 1 (by decide);rw[decide_eq_false h1,decide_eq_false h2,w,a3,a1];simp only[cond_false];have hcase:(-d)%4=0∨(-d)%4=1∨(-d)%4=2∨(-d)%4=3:=by omega
   rcases hcase with h|h|h|h
   ·have e2:(-d)%2=0:=by omega
    have e3:aA (Int.tdiv (-d) 4)= -d/4:=by rw[bd (by omega),dA (by omega) (by omega)]
    rw[h,e2,w,e3];exact⟨1,0, -d/4,0,rfl,trivial,fun _=>⟨rfl,Or.inl rfl,by omega,by omega,by omega⟩⟩
   ·rw[h];exact⟨0,0,0,80,rfl,trivial,fun h=>absurd h (by decide)⟩
   ·rw[h];exact⟨0,0,0,80,rfl,trivial,fun h=>absurd h (by decide)⟩
   ·have e2:(-d)%2=1:=by omega
    have e3:aA (Int.tdiv (aA (1-d)) 4)=(1-d)/4:=by rw[dA (n:=1-d) (by omega) (by omega),bd (by omega),dA (by omega) (by omega)]
    rw[h,e2,e3];exact⟨1,1,(1-d)/4,0,rfl,trivial,fun _=>⟨rfl,Or.inr rfl,by omega,by omega,by omega⟩⟩
open Go.Proofs.Yteaakcmkpacpaaa.NatL (ab xA fB rC bG GT rB yC kC qB oM wN sg sn pB Zr pA xH dO eC Fg)
open Go.Proofs.Yteaakcmkpacpaaa.Mod (Fo Hm PM)
theorem mR {x:Int}(h0:0≤x)(h1:x<4294967296):iB .u64 x 4294967295=x:=by
 obtain⟨a,rfl⟩:=q7 h0;have t1:(BitVec.ofInt 64 (a:Int)).toNat=a:=by simp[h9];omega
 have t2:(BitVec.ofInt 64 (4294967295:Int)).toNat=2^32-1:=by decide
 have e:(BitVec.ofInt 64 (a:Int)&&& BitVec.ofInt 64 (4294967295:Int)).toNat=a:=by rw[BitVec.toNat_and,t1,t2,fs,Nat.mod_eq_of_lt (by omega)]
 show IntKind.wrap .u64 ((BitVec.ofInt 64 (a:Int)&&& BitVec.ofInt 64 (4294967295:Int)).toNat:Int)=_;rw[e];exact pA (by omega) (by omega)
theorem B6 {x:Int}(h0:0≤x)(h1:x<4294967296):Int.fdiv x (2^32)=0:=by
 rw[eC];have:(2:Int)^32=4294967296:=by decide
 rw[this];omega
theorem gl (N:Nat){x y:Int}(x0:0≤x)(x1:x<4294967296)(y0:0≤y)(y1:y<4294967296):Q52.f N x y=some (0,x*y):=by
 have m0:=zE x0 y0;have m1:=pC (show y≤4294967295 by omega) x0;have m2:=hE (show x≤4294967295 by omega) (show(0:Int)≤4294967295 by omega);have hm:x*y≤18446744065119617025:=by omega
 have e32:(2:Int)^32=4294967296:=by decide
 have w0:lA (x*y)=x*y:=pA m0 (by omega);have z0:lA 0=0:=rfl;have f1:=B6 x0 x1;have f2:=B6 y0 y1;have t0:0≤Int.fdiv (x*y) (2^32)∧Int.fdiv (x*y) (2^32)<4294967296:=by rw[eC,e32];omega
 unfold Q52.f;rw[mR x0 x1,mR y0 y1,f1,f2,w0];simp only[fr,r8,ck,z0];rw[pA t0.1 (by omega),mR t0.1 t0.2,B6 t0.1 t0.2];simp only[l8,z0];rw[pA t0.1 (by omega),B6 t0.1 t0.2];rfl
theorem ee (N:Nat){x y:Int}(y0:0<y):Q53.f N 0 x y=some (lA (Int.tdiv x y),Int.tmod x y):=by
 unfold Q53.f;have c1:(y==0)=false:=beq_eq_false_iff_ne.mpr (by omega);have c2:decide (y≤0)=false:=decide_eq_false (by omega);have c3:((0:Int)==0)=true:=rfl;rw[c1,c2,c3];rfl
theorem nZ (N:Nat){a m:Int}(m0:0<m)(m1:m<9223372036854775808):Q54.f N a m=some (a%m):=by
 unfold Q54.f;have c1:(!(m==0))=true:=by have:(m==0)=false:=beq_eq_false_iff_ne.mpr (by omega);rw[this];rfl
 rw[c1];simp only[cond_true];have hf:=fl (x:=a) m0;have e0:=hQ a (show m≠0 by omega);have e1:=hL a m0;by_cases h:Int.tmod a m<0
 ·rw[decide_eq_true h];obtain⟨_,q⟩:=hf.1 h;simp only[cond_true];rw[←q,dA (by omega) (by omega)]
 ·rw[decide_eq_false h];obtain⟨_,q⟩:=hf.2 h;simp only[cond_false];rw[q]
theorem fS {N:Nat}{a b m:Int}(m0:0<m)(m1:m≤2147483648):Q57.f N a b m=some ((a*b)%m):=by
 have a0:=hQ a (show m≠0 by omega);have a1:=hL a m0;have b0:=hQ b (show m≠0 by omega);have b1:=hL b m0;have p0:=zE a0 b0;unfold Q57.f Q56.f Q55.f;rw[decide_eq_false (show ¬m<1 by omega),decide_eq_false (show ¬m>4611686018427387904 by omega),nZ N m0 (by omega),nZ N m0 (by omega)];simp only[cond_false,hB];rw[pA a0 (by omega),pA b0 (by omega),pA (n:=m) (by omega) (by omega),gl N a0 (by omega) b0 (by omega)];simp only[hB];rw[ee N m0];simp only[hB];rw[xH p0,←sh,dA (by have:=hQ (a*b) (show m≠0 by omega);omega) (by have:=hL (a*b) m0;omega)]
open Go.Proofs.Yteaakcmkpacpaaa.NatL (ab xA fB rC bG GT rB yC kC qB xH dO)
def sd (d:Int):Int:=d%2
def md (d:Int):Int:=(d-d%2)/4
def La (d a b:Int):Mod.E→Prop:=Fo a ((b-sd d)/2)
abbrev Cl (d:Int)(M L:Mod.E→Prop):Prop:=Hm (sd d) (md d) M L
abbrev Pr (d:Int)(M L:Mod.E→Prop):Mod.E→Prop:=PM (sd d) (md d) M L
structure Of (d a b c:Int):Prop where
 eq:b*b-4*a*c=d
theorem Of.par {d a b c:Int}(h:Of d a b c):b%2=d%2∧d%4=d%2:=by
 have h1:=h.eq;have e:4*a*c=4*(a*c):=by grind
 have hb:b=2*(b/2)+b%2:=by omega
 have h2:b*b=4*(b/2*(b/2)+b/2*(b%2))+b%2*(b%2):=by
  have:b*b=(2*(b/2)+b%2)*(2*(b/2)+b%2):=by rw[←hb]
  rw[this];grind
 have h3:b%2=0∨b%2=1:=by omega
 rcases h3 with h3|h3<;>rw[h3]at h2<;>constructor<;>omega
theorem Of.t {d a b c:Int}(h:Of d a b c):b=2*((b-sd d)/2)+sd d∧((b-sd d)/2)*((b-sd d)/2)+sd d*((b-sd d)/2)-md d=a*c∧sd d*sd d+4*md d=d∧(sd d=0∨sd d=1):=by
 obtain⟨p1,p2⟩:=h.par;have h1:=h.eq;unfold sd md;have hs:d%2=0∨d%2=1:=by omega
 have hb:b=2*((b-d%2)/2)+d%2:=by omega
 have hm:d=4*((d-d%2)/4)+d%2:=by omega
 generalize(b-d%2)/2=t at*;generalize(d-d%2)/4=m at*;have hss:d%2*(d%2)=d%2:=by rcases hs with h|h<;>rw[h]<;>decide
 generalize d%2=s at*;refine⟨hb,?_,by omega,hs⟩;have e:b*b=4*(t*t)+4*(s*t)+s*s:=by rw[hb];grind
 have e2:4*a*c=4*(a*c):=by grind
 omega
theorem La.shift (d a b k:Int)(z:Mod.E):La d a b z↔La d a (b+2*a*k) z:=by
 unfold La Fo;have e0:b+2*a*k-sd d=b-sd d+a*k*2:=by grind
 have e:(b+2*a*k-sd d)/2=(b-sd d)/2+a*k:=by rw[e0,Int.add_mul_ediv_right _ _ (by decide)]
 rw[e];have e2:z.re- ((b-sd d)/2+a*k)*z.im=z.re- (b-sd d)/2*z.im-a*(k*z.im):=by grind
 rw[e2];constructor
 ·intro h;exact Int.dvd_sub h (da a _)
 ·intro h;have:=ds h (da a (k*z.im));have e3:z.re- (b-sd d)/2*z.im-a*(k*z.im)+a*(k*z.im)=z.re- (b-sd d)/2*z.im:=by omega
  rw[e3]at this;exact this
theorem Of.cl {d a b c p q r u:Int}(h:Of d a b c)(hd:d<0)(ha:a≠0)(hdet:p*u-q*r=1):
  Cl d (La d a b) (La d (a*p*p+b*p*r+c*r*r) (2*a*p*q+b*p*u+b*q*r+2*c*r*u)):=by
 obtain⟨t1,t2,t3,t4⟩:=h.t;have k:=Mod.G0 (s:=sd d) (m:=md d) (by omega) ha t2 hdet;rw[←t1]at k;unfold Cl La;have e:(2*a*p*q+b*p*u+b*q*r+2*c*r*u-sd d)/2=a*p*q+b*q*r+c*r*u+(b-sd d)/2:=by
  have e1:2*a*p*q+b*p*u+b*q*r+2*c*r*u-sd d=2*(a*p*q+b*q*r+c*r*u+(b-sd d)/2):=by
   have e2:b*p*u=b*(1+q*r):=by
    have:p*u=1+q*r:=by omega
    rw[ek,this]
   have e3:2*(a*p*q+b*q*r+c*r*u+(b-sd d)/2)=2*a*p*q+2*(b*q*r)+2*c*r*u+2*((b-sd d)/2):=by grind
   rw[e3,e2];have e4:b*(1+q*r)=b+b*q*r:=by grind
   rw[e4];omega
  rw[e1,j1 _ (by decide)]
 rw[e];exact k
theorem Of.swap {d a b c:Int}(h:Of d a b c)(hd:d<0)(ha:a≠0):Cl d (La d a b) (La d c (-b)):=by
 have:=h.cl hd ha (p:=0) (q:= -1) (r:=1) (u:=0) (by decide);have e1:a*0*0+b*0*1+c*1*1=c:=by grind
 have e2:2*a*0* -1+b*0*0+b* -1*1+2*c*1*0= -b:=by grind
 rw[e1,e2]at this;exact this
def nb (a b:Int):Int:=if b%(2*a)>a then b%(2*a)-2*a else b%(2*a)
theorem af {a:Int}(b:Int)(a0:0<a): -a<nb a b∧nb a b≤a∧∃k,nb a b=b+2*a*k:=by
 have e0:=hQ b (show 2*a≠0 by omega);have e1:=hL b (show 0<2*a by omega);have e2:=cP b (2*a);unfold nb;split
 ·refine⟨by omega,by omega, -(b/(2*a))-1,?_⟩;have:2*a*(-(b/(2*a))-1)= -(2*a*(b/(2*a)))-2*a:=by grind
  omega
 ·refine⟨by omega,by omega, -(b/(2*a)),?_⟩;have:2*a*(-(b/(2*a)))= -(2*a*(b/(2*a))):=by grind
  omega
def nc (d a b:Int):Int:=(nb a b*nb a b-d)/(4*a)
structure Lp (d a b:Int):Prop where
 a0:0<a
 a1:a≤2147483648
 b0: -17179869184≤b
 b1:b≤17179869184
 dv:4*a∣b*b-d
theorem Lp.dvd {d a b:Int}(h:Lp d a b):4*a∣nb a b*nb a b-d:=by
 obtain⟨_,_,k,hk⟩:=af b h.a0;have:nb a b*nb a b-d=b*b-d+4*a*(b*k+a*k*k):=by rw[hk];grind
 rw[this];exact ds h.dv (da _ _)
theorem Lp.of {d a b:Int}(h:Lp d a b):Of d a (nb a b) (nc d a b):=by
 refine⟨?_⟩;unfold nc;have:=qs h.dvd;omega
theorem Lp.sizes {d a b:Int}(h:Lp d a b)(hd:d<0)(hd1: -4294967296≤d):nb a b*nb a b≤a*a∧0<nc d a b∧nc d a b≤2147483648∧nb a b*nb a b≤4611686018427387904∧0≤nb a b*nb a b:=by
 have a0:=h.a0;have a1:=h.a1;obtain⟨n1,n2,_⟩:=af b a0;have sq:nb a b*nb a b≤a*a:=by
  have:=zE (show 0≤a-nb a b by omega) (show 0≤a+nb a b by omega);have e:(a-nb a b)*(a+nb a b)=a*a-nb a b*nb a b:=by grind
  omega
 have sqn:=fE (nb a b);have m1:=pC a1 (aE a0);have of:=h.of.eq;have e4:4*a*nc d a b=4*(a*nc d a b):=by grind
 have cp:0<nc d a b:=by
  rcases hI 0 (nc d a b)with q|q
  ·exact q
  ·have:=zE (aE a0) (show 0≤ -nc d a b by omega);rw[c5]at this;omega
 refine⟨sq,cp,?_,by omega,sqn⟩;rcases hI 2147483648 (nc d a b)with q|q
 ·exfalso;have:=pC (show 2147483649≤nc d a b by omega) (aE a0);omega
 ·exact q
def mv (a b:Int):Int:=2*a+(if nb a b<0 then 1 else 0)
theorem Bv {a b:Int}(d:Int)(h:Lp d a b)(hd:d<0)(hd1: -4294967296≤d):
  aA (2*a)=2*a∧aA (4*a)=4*a∧Int.tmod (aA (Int.tmod b (2*a)+2*a)) (2*a)=b%(2*a)∧
  (b%(2*a)>a→aA (b%(2*a)-2*a)=nb a b)∧aA (Int.tdiv (aA (aA (nb a b*nb a b)-d)) (4*a))=nc d a b:=by
 obtain⟨s1,s2,s3,s4,s5⟩:=h.sizes hd hd1;obtain⟨a0,a1,b0,b1,_⟩:=h;have e0:=hQ b (show 2*a≠0 by omega);have e1:=hL b (show 0<2*a by omega);refine⟨dA (by omega) (by omega),dA (by omega) (by omega),?_,?_,?_⟩
 ·have hf:=fl (x:=b) (show 0<2*a by omega);by_cases h:Int.tmod b (2*a)<0
  ·obtain⟨_,q⟩:=hf.1 h;rw[←q,dA (by omega) (by omega),Int.tmod_eq_of_lt e0 e1]
  ·obtain⟨_,q⟩:=hf.2 h;rw[←q,dA (by omega) (by omega),dc (by omega),Int.add_emod_right,fo _ (ry _)]
 ·intro hg;unfold nb;rw[if_pos hg,dA (by omega) (by omega)]
 ·unfold nc at*;rw[dA (n:=nb a b*nb a b) (by omega) (by omega),dA (n:=nb a b*nb a b-d) (by omega) (by omega),bd (by omega),dA (by omega) (by omega)]
theorem mo {N:Nat}{R:Type}{d:Int}(hd:d<0)(hd1: -4294967296≤d)(kr:Int→Int→Int→Option R):∀(n:Nat) (a b x16 x17 x18:Int),Lp d a b→mv a b<n→
  ∃a' b' c',0<a'∧a'≤2147483648∧Of d a' b' c'∧gK a' b'∧¬aC a' b' c'∧Cl d (La d a b) (La d a' b')∧Q60.l12 N n d a b x16 x17 x18 kr=kr a' b' c':=by
 intro n;induction n with
 |zero=>intro a b x16 x17 x18 h hn;exfalso;have:=h.a0;unfold mv at hn;split at hn<;>omega
 |succ n ih=>
  intro a b x16 x17 x18 h hn;obtain⟨e1,e2,e3,e4,e5⟩:=Bv d h hd hd1;obtain⟨s1,s2,s3,s4,s5⟩:=h.sizes hd hd1;have hof:=h.of;have a0:=h.a0;have a1:=h.a1;obtain⟨n1,n2,k,hk⟩:=af b a0;have cl1:Cl d (La d a b) (La d a (nb a b)):=by rw[hk];exact Mod.Hm.same (La.shift d a b k)
  have cz:(!(2*a==0))=true:=by have:(2*a==0)=false:=beq_eq_false_iff_ne.mpr (by omega);rw[this];rfl
  have cz4:(!(4*a==0))=true:=by have:(4*a==0)=false:=beq_eq_false_iff_ne.mpr (by omega);rw[this];rfl
  have hneg:aA (0-nb a b)= -nb a b:=by rw[dA (by omega) (by omega)];omega
  obtain⟨t1,t2,t3,t4⟩:=hof.t;have hdm:sd d*sd d+4*md d<0:=by omega
  have rest:∀x16 x17 x18,∃a' b' c',0<a'∧a'≤2147483648∧Of d a' b' c'∧gK a' b'∧¬aC a' b' c'∧Cl d (La d a b) (La d a' b')∧
    (bif decide (a<nc d a b)then kr a (nb a b) (nc d a b)
     else bif a==nc d a b then bif decide (nb a b≥0)then kr a (nb a b) (nc d a b)else Q60.l12 N n d (nc d a b) (-nb a b) x16 x17 x18 kr
     else Q60.l12 N n d (nc d a b) (-nb a b) x16 x17 x18 kr)=kr a' b' c':=by
   intro x16 x17 x18;have hl:Lp d (nc d a b) (-nb a b):=by
    refine⟨s2,s3,by omega,by omega,?_⟩;have:=hof.eq;exact⟨a,by
      have e: -nb a b* -nb a b=nb a b*nb a b:=by grind
      have e2:4*nc d a b*a=4*a*nc d a b:=by grind
      omega⟩
   have cl2:Cl d (La d a b) (La d (nc d a b) (-nb a b)):=cl1.trans hdm (hof.swap hd (by omega));by_cases h1:a<nc d a b
   ·rw[decide_eq_true h1];exact⟨a,nb a b,nc d a b,a0,a1,hof,⟨n1,n2⟩,fun q=>by unfold aC at q;omega,cl1,rfl⟩
   ·rw[decide_eq_false h1];simp only[cond_false];by_cases h2:a=nc d a b
    ·have c3:(a==nc d a b)=true:=beq_iff_eq.mpr h2;rw[c3];simp only[cond_true];by_cases h3:nb a b≥0
     ·rw[decide_eq_true h3];exact⟨a,nb a b,nc d a b,a0,a1,hof,⟨n1,n2⟩,fun q=>by unfold aC at q;omega,cl1,rfl⟩
     ·rw[decide_eq_false h3];simp only[cond_false];have hmv:mv (nc d a b) (-nb a b)<n:=by
       have q1:nb (nc d a b) (-nb a b)= -nb a b:=by unfold nb;rw[←h2];have:(-nb a b)%(2*a)= -nb a b:=ln (by omega) (by omega);unfold nb at this;rw[this];unfold nb at h3 n1 n2;rw[if_neg (by omega)]
       unfold mv at hn⊢;rw[if_pos (by omega)]at hn;rw[q1,if_neg (by omega),←h2];omega
      obtain⟨a',b',c',g1,g2,g3,g4,g5,g6,g7⟩:=ih (nc d a b) (-nb a b) x16 x17 x18 hl hmv;exact⟨a',b',c',g1,g2,g3,g4,g5,cl2.trans hdm g6,g7⟩
    ·have c3:(a==nc d a b)=false:=beq_eq_false_iff_ne.mpr h2;rw[c3];simp only[cond_false];have hmv:mv (nc d a b) (-nb a b)<n:=by
      unfold mv at hn⊢;split at hn<;>split<;>omega
     obtain⟨a',b',c',g1,g2,g3,g4,g5,g6,g7⟩:=ih (nc d a b) (-nb a b) x16 x17 x18 hl hmv;exact⟨a',b',c',g1,g2,g3,g4,g5,cl2.trans hdm g6,g7⟩
  rw[Q60.l12,e1,cz,e2,cz4,e3];simp only[cond_true];by_cases hg:b%(2*a)>a
  ·rw[decide_eq_true hg,e4 hg,e5,hneg];simp only[cond_true];exact rest x16 x17 x18
  ·have hb:b%(2*a)=nb a b:=by unfold nb;rw[if_neg hg]
   rw[decide_eq_false hg,hb,e5,hneg];simp only[cond_false];exact rest x16 x17 x18
def nP (a b c:Int):Prop:=∃p q r:Int,p*a+q*b+r*c=1
theorem Ct {a1 a2 c1 c2 s t1 t2 k y1 z1 e x2 y2 m:Int}(hk:a2*y1+a1*z1=k)(he:(t1+t2+s)*x2+k*y2=e)
  (h1:t1*t1+s*t1-m=a1*c1)(h2:t2*t2+s*t2-m=a2*c2):
  a2*(y1*(-y2*(t2-t1))-x2*c2)+e*(t2-t1)=a1*(z1*y2*(t2-t1)-x2*c1)∧
  (t1+t2+s)*(y1*(-y2*(t2-t1))-x2*c2)+e*c2=a1*(y2*(c2*z1+c1*y1)):=by
 have hs:(t1+t2+s)*(t2-t1)=a2*c2-a1*c1:=by rw[←h1,←h2];grind
 constructor
 ·have e1:a2*(y1*(-y2*(t2-t1))-x2*c2)+e*(t2-t1)= -(y2*(t2-t1))*(a2*y1)-x2*(a2*c2)+e*(t2-t1):=by grind
  have e2:e*(t2-t1)=x2*((t1+t2+s)*(t2-t1))+y2*(t2-t1)*k:=by rw[←he];grind
  rw[e1,e2,hs,←hk];grind
 ·have e1:(t1+t2+s)*(y1*(-y2*(t2-t1))-x2*c2)+e*c2= -(y1*y2)*((t1+t2+s)*(t2-t1))+c2*(e- (t1+t2+s)*x2):=by grind
  have e2:e- (t1+t2+s)*x2=k*y2:=by omega
  rw[e1,e2,hs,←hk];grind
theorem Ai {s m v1 v2 c1 c2 t1 t2 k y1 z1 e x2 y2 s' j p q r:Int}(he0:e≠0)(hk:e*v2*y1+e*v1*z1=k)(he:(t1+t2+s)*x2+k*y2=e)(hs:t1+t2+s=e*s')
  (h1:t1*t1+s*t1-m=e*v1*c1)(h2:t2*t2+s*t2-m=e*v2*c2)(hp:p*(e*v1)+q*(2*t1+s)+r*c1=1)(u:Mod.E):
  PM s m (Fo (e*v1) t1) (Fo (e*v2) t2) u↔Mod.Sc s m ⟨e,0⟩ (Fo (v1*v2) (t2+v2*(y1*(-y2*(t2-t1))-x2*c2+v1*j))) u:=by
 obtain⟨k1,k2⟩:=Ct (a1:=e*v1) (a2:=e*v2) hk he h1 h2;generalize hR:y1*(-y2*(t2-t1))-x2*c2=R at*;have w1:v2*R+(t2-t1)=v1*(z1*y2*(t2-t1)-x2*c1):=by
  have:e*(v2*R+(t2-t1))=e*(v1*(z1*y2*(t2-t1)-x2*c1)):=by
   have a1:e*(v2*R+(t2-t1))=e*v2*R+e*(t2-t1):=by grind
   rw[a1,k1];grind
  exact eX he0 this
 have w2:s'*R+c2=v1*(y2*(c2*z1+c1*y1)):=by
  have:e*(s'*R+c2)=e*(v1*(y2*(c2*z1+c1*y1))):=by
   have a1:e*(s'*R+c2)=(t1+t2+s)*R+e*c2:=by rw[hs];grind
   rw[a1,k2];grind
  exact eX he0 this
 refine Mod.Gb (n4:=s'*t2-v2*c2) (c1:=c1) (s':=s') (x:=z1*y2) (y:=y1*y2) (z:=x2) (p:=p) (q:=q) (r:=r) he0 hs ?_ h1 ?_ ?_ ?_ ?_ hp u
 ·have:e*(s'*t2-v2*c2)=(e*s')*t2-e*v2*c2:=by grind
  rw[this,←hs,←h2];grind
 ·refine⟨z1*y2*(t2-t1)-x2*c1+v2*j,?_⟩;have:v1*(z1*y2*(t2-t1)-x2*c1+v2*j)=v1*(z1*y2*(t2-t1)-x2*c1)+v1*(v2*j):=Int.mul_add ..;rw[this,←w1];grind
 ·exact⟨R+v1*j,by grind⟩
 ·refine⟨-(y2*(c2*z1+c1*y1))-s'*j,?_⟩;have:v1*v2*(-(y2*(c2*z1+c1*y1))-s'*j)= -(v2*(v1*(y2*(c2*z1+c1*y1))))-v1*v2*s'*j:=by grind
  rw[this,←w2];grind
 ·rw[←hs];have:z1*y2*(e*v1)+y1*y2*(e*v2)+x2*(t1+t2+s)=(t1+t2+s)*x2+(e*v2*y1+e*v1*z1)*y2:=by grind
  rw[this,hk,he]
theorem mX {d a b c:Int}(h:Of d a b c)(a0:0<a)(hr:gK a b)(hs:¬aC a b c)(hd1: -4294967296≤d):a≤37838∧a≤c∧c≤1073741824∧nI a b c∨¬d<0:=by
 by_cases hd:d<0
 ·left;obtain⟨r1,r2⟩:=hr;have hac:a≤c:=by
   rcases hI c a with q|q
   ·exact absurd (Or.inl q) hs
   ·exact q
  have he:=h.eq;have e4:4*a*c=4*(a*c):=by grind
  have bb:b*b≤a*a:=by
   have:=zE (show 0≤a-b by omega) (show 0≤a+b by omega);have e:(a-b)*(a+b)=a*a-b*b:=by grind
   omega
  have aa:a*a≤a*c:=pC hac (aE a0);have bn:=fE b;have a1:a≤37838:=by
   rcases hI 37838 a with q|q
   ·exfalso;have:=pC (show 37839≤a by omega) (show(0:Int)≤37839 by decide);have:=hE (show 37839≤a by omega) (aE a0);omega
   ·exact q
  have c1:c≤1073741824:=by
   by_cases h1:a=1
   ·subst h1;have:b=0∨b=1:=by omega
    rcases this with q|q<;>subst q<;>omega
   ·rcases hI 1073741824 c with q|q
    ·exfalso;have:=hE (show 2≤a by omega) (show 0≤c by omega);omega
    ·exact q
  refine⟨a1,hac,c1,⟨⟨⟨by omega,by omega⟩,⟨by omega,by omega⟩,by omega,c1⟩,a0,by omega,by omega⟩⟩
 ·right;exact hd
structure An (d a b c:Int):Prop where
 a0:0<a
 of:Of d a b c
 inr:gK a b
 sm:¬aC a b c
 pr:nP a b c
theorem xf {a b g x y:Int}(h:GT a b g x y):g∣a∧g∣b:=by
 rw[h.eg];exact⟨kC a b,qB a b⟩
theorem xg {d b1 b2:Int}(h1:b1%2=d%2)(h2:b2%2=d%2):Int.tdiv (b1+b2) 2=(b1-sd d)/2+(b2-sd d)/2+sd d:=by
 have e:b1+b2=2*((b1-sd d)/2+(b2-sd d)/2+sd d):=by unfold sd;omega
 rw[e,ch _ (by decide)]
theorem rQ {N:Nat}(hN:4294967400<N){R:Type}{d a1 b1 c1 a2 b2 c2:Int}(hd:d<0)(hd1: -4294967296≤d)(h1:An d a1 b1 c1)(h2:An d a2 b2 c2)(kr:Int→Int→Int→Option R):
  ∃a b c,0<a∧a≤2147483648∧Of d a b c∧gK a b∧¬aC a b c∧Cl d (Pr d (La d a1 b1) (La d a2 b2)) (La d a b)∧
  ((Q35.f N a2 a1).bind fun r25=>
   (Q35.f N (aA (Int.tdiv (aA (b1+b2)) 2)) r25.1).bind fun r26=>
   bif !(r26.1==0)then
    bif !(r26.1==0)then
     (Q57.f N (aA (0-r26.2.2)) (aA (b2- (aA (Int.tdiv (aA (b1+b2)) 2)))) (aA (Int.tdiv a1 r26.1))).bind fun r27=>
     (Q57.f N r25.2.1 r27 (aA (Int.tdiv a1 r26.1))).bind fun r28=>
     (Q57.f N r26.2.1 c2 (aA (Int.tdiv a1 r26.1))).bind fun r29=>
     bif !((aA (Int.tdiv a1 r26.1))==0)then
      bif !((aA (Int.tdiv a1 r26.1))==0)then
       Q60.l12 N N d (aA ((aA (Int.tdiv a1 r26.1))*(aA (Int.tdiv a2 r26.1)))) (aA (b2+(aA ((aA (2*(aA (Int.tdiv a2 r26.1))))*(Int.tmod (aA ((Int.tmod (aA (r28-r29)) (aA (Int.tdiv a1 r26.1)))+(aA (Int.tdiv a1 r26.1)))) (aA (Int.tdiv a1 r26.1))))))) 0 0 0 kr
      else none
     else none
    else none
   else none)=kr a b c:=by
 obtain⟨f1,_,f2,f3⟩:=(mX h1.of h1.a0 h1.inr h1.sm hd1).resolve_right (fun q=>q hd);obtain⟨g1,_,g2,g3⟩:=(mX h2.of h2.a0 h2.inr h2.sm hd1).resolve_right (fun q=>q hd);have a10:=h1.a0;have a20:=h2.a0;obtain⟨i1,i2⟩:=h1.inr;obtain⟨i3,i4⟩:=h2.inr;obtain⟨q1,q2,q3,q4⟩:=h1.of.t;obtain⟨q5,q6,_,_⟩:=h2.of.t;obtain⟨p1,_⟩:=h1.of.par;obtain⟨p2,_⟩:=h2.of.par;have hsum:=xg p1 p2;generalize ht1:(b1-sd d)/2=t1 at*;generalize ht2:(b2-sd d)/2=t2 at*;have hsd:sd d=0∨sd d=1:=q4;generalize hs:t1+t2+sd d=S at*;have hS: -38000≤S∧S≤38000:=by omega
 have w1:aA (b1+b2)=b1+b2:=dA (by omega) (by omega);have w2:aA (Int.tdiv (aA (b1+b2)) 2)=S:=by rw[w1,hsum,dA (by omega) (by omega)]
 obtain⟨k,y1,z1,G1,k0,k1,E1⟩:=sV (N:=N) (by omega) (a:=a2) (b:=a1) (by rw[rC (by omega)];omega) (by rw[rC (by omega)];omega);have kp:0<k:=by rw[G1.eg];exact NatL.tV (by omega)
 obtain⟨d1,d2⟩:=xf G1;have kle:k≤a1:=c8 a10 d2;obtain⟨e,x2,y2,G2,e0,e1,E2⟩:=sV (N:=N) (by omega) (a:=S) (b:=k) (by rcases xA S with⟨c1,c2⟩|⟨c1,c2⟩<;>omega) (by rw[rC (by omega)];omega);have ep:0<e:=by rw[G2.eg];exact NatL.tV (by omega)
 obtain⟨d3,d4⟩:=xf G2;obtain⟨s',hs'⟩:=d3;obtain⟨v1,hv1⟩:=b7 d4 d2;obtain⟨v2,hv2⟩:=b7 d4 d1;have ele:e≤k:=c8 kp d4;have v1p:0<v1:=by
  rcases hI 0 v1 with q|q
  ·exact q
  ·have:=zE (aE ep) (show 0≤ -v1 by omega);rw[c5]at this;omega
 have v2p:0<v2:=by
  rcases hI 0 v2 with q|q
  ·exact q
  ·have:=zE (aE ep) (show 0≤ -v2 by omega);rw[c5]at this;omega
 have v1le:v1≤37838:=by have:=hE (show 1≤e by omega) (aE v1p);omega
 have v2le:v2≤37838:=by have:=hE (show 1≤e by omega) (aE v2p);omega
 have w3:aA (Int.tdiv a1 e)=v1:=by rw[hv1,ch _ (by omega),dA (by omega) (by omega)]
 have w4:aA (Int.tdiv a2 e)=v2:=by rw[hv2,ch _ (by omega),dA (by omega) (by omega)]
 have w5:aA (b2-S)=t2-t1:=by rw[dA (by omega) (by omega)];omega
 have ez:(!(e==0))=true:=by have:(e==0)=false:=beq_eq_false_iff_ne.mpr (by omega);rw[this];rfl
 have vz:(!(v1==0))=true:=by have:(v1==0)=false:=beq_eq_false_iff_ne.mpr (by omega);rw[this];rfl
 have by2:aA (0-y2)= -y2:=by
  have hx:=G2.lo (by omega);have hxk:x2<k:=by have:=en e (show 0≤ab k from fB k);rw[rC k0]at this;rw[rC k0]at hx;omega
  have hsm:=G2.sum;have m1: -(38000*37838)≤S*x2∧S*x2≤38000*37838:=dS (by omega) (by omega) (by omega) (by omega);have e2:k*y2=e-S*x2:=by omega
  have m3:(38000:Int)*37838=1437844000:=by decide
  have: -1437900000≤y2∧y2≤1437900000:=by
   constructor
   ·rcases hI y2 (-1437900000)with q|q
    ·have:=hE (show 1≤k by omega) (show 0≤ -y2 by omega);have e9:k* -y2= -(k*y2):=c5 ..;omega
    ·exact q
   ·rcases hI 1437900000 y2 with q|q
    ·have:=hE (show 1≤k by omega) (show 0≤y2 by omega);omega
    ·exact q
  rw[dA (by omega) (by omega)];omega
 rw[E1];simp only[hB];rw[w2,E2];simp only[hB,ez,cond_true];rw[w3,w4,w5,by2,fS v1p (by omega)];simp only[hB];rw[fS v1p (by omega)];simp only[hB];rw[fS v1p (by omega)];simp only[hB,vz,cond_true];have m0:=hQ (y1*(-y2*(t2-t1)%v1)) (show v1≠0 by omega);have m1:=hL (y1*(-y2*(t2-t1)%v1)) v1p;have m2:=hQ (x2*c2) (show v1≠0 by omega);have m3:=hL (x2*c2) v1p;have hr:Int.tmod (aA (Int.tmod (aA (y1*(-y2*(t2-t1)%v1)%v1-x2*c2%v1)) v1+v1)) v1=(y1*(-y2*(t2-t1))-x2*c2)%v1:=by
  rw[dA (n:=y1*(-y2*(t2-t1)%v1)%v1-x2*c2%v1) (by omega) (by omega)];have hf:=fl (x:=y1*(-y2*(t2-t1)%v1)%v1-x2*c2%v1) v1p;have z0:=hQ (y1*(-y2*(t2-t1)%v1)%v1-x2*c2%v1) (show v1≠0 by omega);have z1':=hL (y1*(-y2*(t2-t1)%v1)%v1-x2*c2%v1) v1p;have same:(y1*(-y2*(t2-t1)%v1)%v1-x2*c2%v1)%v1=(y1*(-y2*(t2-t1))-x2*c2)%v1:=by
   have mm:y1*(-y2*(t2-t1)%v1)%v1=y1*(-y2*(t2-t1))%v1:=by rw[sh,fo _ (ry _),←sh]
   rw[mm,←Int.sub_emod]
  rw[←same];generalize y1*(-y2*(t2-t1)%v1)%v1-x2*c2%v1=X at*;by_cases h:Int.tmod X v1<0
  ·obtain⟨_,q⟩:=hf.1 h;rw[←q,dA (by omega) (by omega),Int.tmod_eq_of_lt z0 z1']
  ·obtain⟨_,q⟩:=hf.2 h;rw[←q,dA (by omega) (by omega),dc (by omega),Int.add_emod_right,fo _ (ry _)]
 rw[hr];have r0:=hQ (y1*(-y2*(t2-t1))-x2*c2) (show v1≠0 by omega);have r1:=hL (y1*(-y2*(t2-t1))-x2*c2) v1p;have rd:=cP (y1*(-y2*(t2-t1))-x2*c2) v1;have rj:(y1*(-y2*(t2-t1))-x2*c2)%v1=y1*(-y2*(t2-t1))-x2*c2+v1*(-((y1*(-y2*(t2-t1))-x2*c2)/v1)):=by rw[c5];omega
 generalize hj: -((y1*(-y2*(t2-t1))-x2*c2)/v1)=j at*;obtain⟨pp,pq,prr,hpr⟩:=h1.pr;have hk:e*v2*y1+e*v1*z1=k:=by rw[←hv2,←hv1];exact G1.sum
 have hun:=fun u=>Ai (s:=sd d) (m:=md d) (v1:=v1) (v2:=v2) (c1:=c1) (c2:=c2) (t1:=t1) (t2:=t2) (k:=k) (y1:=y1) (z1:=z1) (e:=e) (x2:=x2) (y2:=y2) (s':=s') (j:=j) (p:=pp) (q:=pq) (r:=prr) (by omega) hk (by rw[hs];exact G2.sum) (by rw[hs];exact hs') (by rw[←hv1];exact q2) (by rw[←hv2];exact q6) (by rw[←hv1,←q1];exact hpr) u;rw[←hv1,←hv2,←rj]at hun;have hdm:sd d*sd d+4*md d<0:=by omega
 have rr0:=r0;have rr1:=r1;generalize(y1*(-y2*(t2-t1))-x2*c2)%v1=r at*;have bv:v2*r≤37838*37838:=by have a:=pC (show r≤37838 by omega) (aE v2p);omega
 have bv0:=zE (aE v2p) rr0;have k3:(37838:Int)*37838=1431714244:=by decide
 have vv0:=y8 v1p v2p;have vv1:v1*v2≤37838*37838:=by have a:=pC v2le (aE v1p);omega
 have w6:aA (v1*v2)=v1*v2:=dA (by omega) (by omega);have w7:aA (2*v2)=2*v2:=dA (by omega) (by omega);have e2r:2*v2*r=2*(v2*r):=by grind
 have w8:aA (2*v2*r)=2*v2*r:=dA (by omega) (by omega);have w9:aA (b2+2*v2*r)=b2+2*v2*r:=dA (by omega) (by omega);rw[w6,w7,w8,w9];have hlat:La d (v1*v2) (b2+2*v2*r)=Fo (v1*v2) (t2+v2*r):=by
  unfold La;have:b2+2*v2*r-sd d=(t2+v2*r)*2:=by omega
  rw[this,Int.mul_ediv_cancel _ (by decide)]
 have hdv:4*(v1*v2)∣(b2+2*v2*r)*(b2+2*v2*r)-d:=by
  obtain⟨kk1,kk2⟩:=Ct (a1:=a1) (a2:=a2) (c1:=c1) (c2:=c2) (s:=sd d) (t1:=t1) (t2:=t2) (k:=k) (y1:=y1) (z1:=z1) (e:=e) (x2:=x2) (y2:=y2) (m:=md d) G1.sum (by rw[hs];exact G2.sum) q2 q6;rw[hs]at kk2;have rjj:y1*(-y2*(t2-t1))-x2*c2=r-v1*j:=by omega
  rw[rjj]at kk1 kk2;have u1:∃W,v2*r+(t2-t1)=v1*W:=by
   refine⟨z1*y2*(t2-t1)-x2*c1+v2*j,?_⟩;have:e*(v2*r+(t2-t1))=e*(v1*(z1*y2*(t2-t1)-x2*c1+v2*j)):=by
    have a3:e*(v2*r+(t2-t1))=a2*(r-v1*j)+e*(t2-t1)+a2*v1*j:=by rw[hv2];grind
    rw[a3,kk1,hv1,hv2];grind
   exact eX (by omega) this
  have u2:∃W,s'*r+c2=v1*W:=by
   refine⟨y2*(c2*z1+c1*y1)+s'*j,?_⟩;have:e*(s'*r+c2)=e*(v1*(y2*(c2*z1+c1*y1)+s'*j)):=by
    have a3:e*(s'*r+c2)=S*(r-v1*j)+e*c2+S*v1*j:=by rw[hs'];grind
    rw[a3,kk2,hv1,hs'];grind
   exact eX (by omega) this
  obtain⟨W1,hW1⟩:=u1;obtain⟨W2,hW2⟩:=u2;have hq:(t2+v2*r)*(t2+v2*r)+sd d*(t2+v2*r)-md d=v1*v2*(e*W2+r*W1):=by
   have a4:(t2+v2*r)*(t2+v2*r)+sd d*(t2+v2*r)-md d=(t2*t2+sd d*t2-md d)+v2*r*(t1+t2+sd d)+v2*r*(v2*r+(t2-t1)):=by grind
   rw[a4,q6,hs,hs',hW1,hv2];have a5:e*v2*c2+v2*r*(e*s')+v2*r*(v1*W1)=e*v2*(s'*r+c2)+v2*r*(v1*W1):=by grind
   rw[a5,hW2];grind
  refine⟨e*W2+r*W1,?_⟩;have a6:(b2+2*v2*r)*(b2+2*v2*r)-d=4*((t2+v2*r)*(t2+v2*r)+sd d*(t2+v2*r)-md d):=by
   have a7:b2+2*v2*r=2*(t2+v2*r)+sd d:=by omega
   rw[a7];have hss:sd d*sd d=sd d:=by rcases hsd with h|h<;>rw[h]<;>decide
   have a8:(2*(t2+v2*r)+sd d)*(2*(t2+v2*r)+sd d)=4*((t2+v2*r)*(t2+v2*r)+sd d*(t2+v2*r))+sd d*sd d:=by grind
   omega
  rw[a6,hq];grind
 have hlp:Lp d (v1*v2) (b2+2*v2*r):=⟨vv0,by omega,by omega,by omega,hdv⟩
 obtain⟨a,b,c,l1,l2,l3,l4,l5,l6,l7⟩:=mo (N:=N) hd hd1 kr N (v1*v2) (b2+2*v2*r) 0 0 0 hlp (by unfold mv;split<;>omega);refine⟨a,b,c,l1,l2,l3,l4,l5,?_,l7⟩;have hcl:Cl d (Pr d (La d a1 b1) (La d a2 b2)) (La d (v1*v2) (b2+2*v2*r)):=by
  rw[hlat];have e1':La d a1 b1=Fo a1 t1:=by unfold La;rw[ht1]
  have e2':La d a2 b2=Fo a2 t2:=by unfold La;rw[ht2]
  rw[e1',e2'];exact Mod.Hm.scaled (k:=⟨e,0⟩) (fun h=>by have:=congrArg Mod.E.re h;simp[Mod.ze]at this;omega) hun
 exact hcl.trans hdm l6
open Go.Proofs.Yteaakcmkpacpaaa.NatL (ab xA fB rC bG GT rB yC kC qB xH dO tA tB)
open Go.Proofs.Yteaakcmkpacpaaa.Mod (Fo Hm PM E ml ad sm ze)
def Oo:E→Prop:=Fo 1 0
theorem Oo.all (z:E):Oo z:=by unfold Oo Fo;exact ef _
theorem Di (t:Int)(z:E):Fo 1 t z↔Oo z:=⟨fun _=>Oo.all z,fun _=>by unfold Fo;exact ef _⟩
structure Dn (d:Int):Prop where
 neg:d<0
 m:sd d*sd d+4*md d<0
theorem Dn.of {d a b c:Int}(h:Of d a b c)(hd:d<0):Dn d:=⟨hd,by have:=h.t.2.2.1;omega⟩
theorem Of.one {d a b c:Int}(h:Of d a b c)(hd:Dn d):Cl d (Pr d Oo (La d a b)) (La d a b):=by
 obtain⟨t1,t2,t3,t4⟩:=h.t;unfold La;generalize(b-sd d)/2=t at*;refine Mod.Hm.scaled (k:=⟨1,0⟩) Mod.lj (fun z=>?_);have k:=Mod.Gb (s:=sd d) (m:=md d) (e:=1) (v1:=1) (v2:=a) (t1:=0) (t2:=t) (t:=t) (s':=t+sd d) (n4:=md d) (c1:= -md d) (x:=1) (y:=0) (z:=0) (p:=1) (q:=0) (r:=0) (by decide) (by omega) (by omega) (by omega) (ef _) ⟨0,by omega⟩ ⟨-c,by
  have e:(t+sd d)*t=t*t+sd d*t:=by grind
  have e2:1*a* -c= -(a*c):=by grind
  omega⟩ (by omega) (by omega) z
 rw[ks,ks]at k;exact k
theorem Of.inv {d a b c:Int}(h:Of d a b c)(hd:Dn d)(ha:a≠0)(hp:nP a b c):Cl d (Pr d (La d a b) (La d a (-b))) Oo:=by
 obtain⟨t1,t2,t3,t4⟩:=h.t;obtain⟨p,q,r,hp⟩:=hp;unfold La;have e:(-b-sd d)/2= -((b-sd d)/2)-sd d:=by omega
 rw[e];rw[t1]at hp;generalize(b-sd d)/2=t at*;refine Mod.Hm.scaled (k:=⟨a,0⟩) (fun h=>ha (by have:=congrArg E.re h;simpa[ze]using this)) (fun z=>?_);have k:=Mod.Gb (s:=sd d) (m:=md d) (e:=a) (v1:=1) (v2:=1) (t1:=t) (t2:= -t-sd d) (t:=0) (s':=0) (n4:= -c) (c1:=c) (x:=1) (y:=0) (z:=0) (p:=p) (q:=q) (r:=r) ha (by omega) (by
  have e1:t*(-t-sd d)= -(t*t+sd d*t):=by grind
  have e2:a* -c= -(a*c):=by grind
  omega) (by
    have e3:a*1*c=a*c:=by grind
    omega) (ef _) (ef _) (by
      have:(1:Int)*1=1:=by decide
      rw[this];exact ef _) (by omega) (by rw[ki];exact hp) z
 rw[ki]at k;exact k
def Un (d:Int)(M:E→Prop):Prop:=∃X,Cl d (Pr d M X) Oo
theorem Un.cl {d:Int}(hd:Dn d){M L:E→Prop}(h:Un d M)(k:Cl d M L):Un d L:=by
 obtain⟨X,hX⟩:=h;exact⟨X,(k.symm.left X).trans hd.m hX⟩
theorem El {d a b c:Int}(h:Of d a b c)(hd:Dn d):Cl d (Pr d Oo Oo) Oo:=by
 obtain⟨t1,t2,t3,t4⟩:=h.t;have h1:Of d 1 (sd d) (-md d):=⟨by omega⟩
 have:=h1.one hd;have e:La d 1 (sd d)=Oo:=by
   unfold La Oo;have:(sd d-sd d)/2=0:=by omega
   rw[this]
 rw[e]at this;exact this
theorem Fk {d:Int}(hd:Dn d)(A B C D:E→Prop):Cl d (Pr d (Pr d A B) (Pr d C D)) (Pr d (Pr d A C) (Pr d B D)):=by
 have h1:=Mod.Hm.assoc (s:=sd d) (m:=md d) A B (Pr d C D);have h2:Cl d (Pr d B (Pr d C D)) (Pr d C (Pr d B D)):=
  (Mod.Hm.assoc (s:=sd d) (m:=md d) B C D).symm.trans hd.m (((Mod.Hm.comm B C).left D).trans hd.m (Mod.Hm.assoc C B D))
 have h3:=Mod.Hm.prod hd.m (Mod.Hm.refl (sd d) (md d) A) h2;exact h1.trans hd.m (h3.trans hd.m (Mod.Hm.assoc A C (Pr d B D)).symm)
theorem Un.prod {d:Int}(hd:Dn d)(ho:Cl d (Pr d Oo Oo) Oo){M L:E→Prop}(h:Un d M)(k:Un d L):Un d (Pr d M L):=by
 obtain⟨X,hX⟩:=h;obtain⟨Y,hY⟩:=k;exact⟨Pr d X Y,(Fk hd M L X Y).trans hd.m ((Mod.Hm.prod hd.m hX hY).trans hd.m ho)⟩
theorem Ga:∀(n:Nat) (a b:Int),0≤a→0≤b→b<n→∃x y,a*x+b*y=rB a b:=by
 intro n;induction n with
 |zero=>intro a b _ _ h;omega
 |succ n ih=>
  intro a b a0 b0 h;by_cases hb:b=0
  ·subst hb;exact⟨1,0,by rw[NatL.aQ a0];omega⟩
  ·have d1:=cP a b;have d2:=hQ a hb;have d3:=hL a (show 0<b by omega);obtain⟨x,y,hxy⟩:=ih b (a%b) b0 d2 (by omega);refine⟨y,x-a/b*y,?_⟩;rw[←NatL.uV a0 (by omega),←hxy];have:a%b=a-b*(a/b):=by omega
   rw[this];grind
theorem oR (a b:Int):∃x y,a*x+b*y=rB a b:=by
 obtain⟨x,y,h⟩:=Ga ((ab b).toNat+1) (ab a) (ab b) (fB a) (fB b) (by have:=fB b;omega);rw[NatL.s8]at h;have ea:∃s,ab a=a*s:=by
  rcases xA a with⟨c1,c2⟩|⟨c1,c2⟩
  ·exact⟨1,by omega⟩
  ·exact⟨-1,by omega⟩
 have eb:∃s,ab b=b*s:=by
  rcases xA b with⟨c1,c2⟩|⟨c1,c2⟩
  ·exact⟨1,by omega⟩
  ·exact⟨-1,by omega⟩
 obtain⟨s,hs⟩:=ea;obtain⟨t,ht⟩:=eb;exact⟨s*x,t*y,by rw[←h,hs,ht];grind⟩
theorem bL (a b c:Int):nP a b c↔rB (rB a b) c=1:=by
 constructor
 ·rintro⟨p,q,r,h⟩;have g1:=kC (rB a b) c;have g2:=qB (rB a b) c;have g3:=b7 g1 (kC a b);have g4:=b7 g1 (qB a b);have g0:=yC (rB a b) c;generalize rB (rB a b) c=g at*;have:g∣1:=by
   rw[←h];exact ds (ds (b7 g3 (mb _ _)) (b7 g4 (mb _ _))) (b7 g2 (mb _ _))
  have:=c8 (by decide) this;have hg:g≠0:=fun h=>by subst h;have h1:=fp.mp g3;have h2:=fp.mp g4;have h3:=fp.mp g2;subst h1;subst h2;subst h3;omega
  omega
 ·intro h;obtain⟨x,y,h1⟩:=oR a b;obtain⟨z,w,h2⟩:=oR (rB a b) c;exact⟨x*z,y*z,w,by rw[←h,←h2,←h1];grind⟩
theorem Of.prim {d a b c:Int}(h:Of d a b c)(hd:Dn d)(hu:Un d (La d a b)):nP a b c:=by
 obtain⟨t1,t2,t3,t4⟩:=h.t;obtain⟨X,k,l,hk,hl,hX⟩:=hu;rw[bL];have g1:=kC (rB a b) c;have g2:=qB (rB a b) c;have g3:=b7 g1 (kC a b);have g4:=b7 g1 (qB a b);have g0:=yC (rB a b) c;generalize rB (rB a b) c=g at*;obtain⟨a0,ha⟩:=g3;obtain⟨b0,hb⟩:=g4;obtain⟨c0,hc⟩:=g2;unfold La at hX;generalize(b-sd d)/2=t at*;have key:∀x,Fo a t x→∃y,Fo a t y∧ml (sd d) (md d) ⟨t,1⟩ x=sm g y:=by
  intro x hx;obtain⟨i,hx⟩:=hx.gen;generalize x.im=j at*;subst hx;refine⟨⟨-(j*c0)*a+t*(i*a0+j*b0),i*a0+j*b0⟩,?_,?_⟩
  ·simp only[Fo];exact⟨-(j*c0),by grind⟩
  ·refine Mod.E.ext' ?_ ?_
   ·simp only[ml,sm];have e1:t*(i*a+t*j)+md d*(1*j)=i*a*t+j*(t*t+md d):=by grind
    have e2:t*t+md d=t*(2*t+sd d)-a*c:=by rw[←t2];grind
    rw[e1,e2,←t1,hb];have e3:g*(-(j*c0)*a+t*(i*a0+j*b0))= -(j*(g*c0)*a)+t*(i*(g*a0)+j*(g*b0)):=by grind
    rw[e3,←hc,←ha];grind
   ·simp only[ml,sm];have e1:t*j+1*(i*a+t*j)+sd d*(1*j)=i*a+j*(2*t+sd d):=by grind
    rw[e1,←t1,hb];have e3:g*(i*a0+j*b0)=i*(g*a0)+j*(g*b0):=by grind
    rw[e3,←ha]
 have all:∀z,Pr d (Fo a t) X z→∃y,Pr d (Fo a t) X y∧ml (sd d) (md d) ⟨t,1⟩ z=sm g y:=by
  intro z hz;induction hz with
  |zero=>exact⟨ze,Mod.Sp.zero,by rw[Mod.ow];exact Mod.E.ext' (by simp[sm,ze]) (by simp[sm,ze])⟩
  |mem h=>obtain⟨u,v,hu,hv,rfl⟩:=h;obtain⟨y,hy,e⟩:=key u hu;refine⟨ml (sd d) (md d) y v,Mod.Sp.mem ⟨y,v,hy,hv,rfl⟩,?_⟩;rw[←Mod.dN,e,Mod.nJ,Mod.Cp,Mod.nJ _ _ v y]
  |add _ _ p q=>obtain⟨y,hy,e⟩:=p;obtain⟨y',hy',e'⟩:=q;exact⟨ad y y',Mod.Sp.add hy hy',by rw[Mod.mZ,e,e'];exact Mod.E.ext' (by simp only[sm,ad];grind) (by simp only[sm,ad];grind)⟩
  |neg _ p=>obtain⟨y,hy,e⟩:=p;exact⟨Mod.ng y,Mod.Sp.neg hy,by rw[Mod.gi,e];exact Mod.E.ext' (by simp only[sm,Mod.ng];grind) (by simp only[sm,Mod.ng];grind)⟩
 obtain⟨z0,hz0,e0⟩:=(hX _).mpr ⟨⟨1,0⟩,Oo.all _,rfl⟩;obtain⟨y,hy,e1⟩:=all z0 hz0;obtain⟨u,_,e2⟩:=(hX _).mp ⟨y,hy,rfl⟩;have e3:ml (sd d) (md d) l ⟨t,1⟩=ml (sd d) (md d) l (sm g u):=by
  have q1:ml (sd d) (md d) l ⟨1,0⟩=l:=Mod.E.ext' (by simp only[ml];grind) (by simp only[ml];grind);rw[q1]at e0;rw[Mod.Cp,←e2];have q2:ml (sd d) (md d) l ⟨t,1⟩=ml (sd d) (md d) k (ml (sd d) (md d) ⟨t,1⟩ z0):=by
   have:ml (sd d) (md d) l ⟨t,1⟩=ml (sd d) (md d) (ml (sd d) (md d) k z0) ⟨t,1⟩:=by rw[←e0]
   rw[this,Mod.dN,Mod.nJ _ _ z0]
  rw[q2,e1,Mod.Cp]
 have e4:=Mod.ou hd.m hl e3;have e5:=congrArg E.im e4;simp only[sm]at e5;have hdv:g∣1:=⟨_,e5⟩
 have:=c8 (by decide) hdv;have hg:g≠0:=fun h=>by subst h;omega
 omega
theorem An.same {d a b c a' b' c':Int}(hd:Dn d)(h:An d a b c)(k:An d a' b' c')(hc:Cl d (La d a b) (La d a' b')):a=a'∧b=b'∧c=c':=by
 obtain⟨t1,t2,t3,t4⟩:=h.of.t;obtain⟨u1,u2,_,_⟩:=k.of.t;obtain⟨p,q,r,u,hdet,e1,e2,e3⟩:=Mod.G6 hd.m h.a0 k.a0 t2 u2 hc;rw[←t1]at e2;rw[←u1]at e1 e2 e3;have he:cq a' b' c' a b c:=⟨p,q,r,u,hdet,e1,e2,e3⟩
 exact ig k.a0 h.a0 k.inr k.sm h.inr h.sm he
open Go.Proofs.Yteaakcmkpacpaaa.NatL (ab xA fB rC bG GT rB yC kC qB wN oM tA tB pA xH)
open Go.Proofs.Yteaakcmkpacpaaa.Mod (Fo Hm PM E)
structure n5 (d a b c:Int):Prop where
 fine:nI a b c
 of:Of d a b c
 pr:nP a b c
theorem n5.d {d a b c:Int}(h:n5 d a b c):d<0∧ -4294967296≤d:=by
 have:=h.of.eq;have:=h.fine.d0;have:=h.fine.d1;omega
theorem n5.dn {d a b c:Int}(h:n5 d a b c):Dn d:=Dn.of h.of h.d.1
theorem n5.un {d a b c:Int}(h:n5 d a b c):Un d (La d a b):=⟨_,h.of.inv h.dn (by have:=h.fine.pos;omega) h.pr⟩
theorem An.val {d a b c:Int}(h:An d a b c)(hd:d<0)(hd1: -4294967296≤d):n5 d a b c:=
 ⟨((mX h.of h.a0 h.inr h.sm hd1).resolve_right (fun q=>q hd)).2.2.2,h.of,h.pr⟩
structure cK (d:Int)(M:E→Prop)(a b c:Int):Prop where
 red:An d a b c
 cl:Cl d M (La d a b)
theorem cK.same {d a b c a' b' c':Int}{M L:E→Prop}(hd:Dn d)(h:cK d M a b c)(k:cK d L a' b' c')(hc:Cl d M L):a=a'∧b=b'∧c=c':=
 h.red.same hd k.red (h.cl.symm.trans hd.m (hc.trans hd.m k.cl))
theorem cK.turn {d a b c:Int}{M L:E→Prop}(hd:Dn d)(h:cK d M a b c)(hc:Cl d L M):cK d L a b c:=⟨h.red,hc.trans hd.m h.cl⟩
theorem cK.un {d a b c:Int}{M:E→Prop}(hd:Dn d)(hd1: -4294967296≤d)(h:cK d M a b c):Un d M:=Un.cl hd (h.red.val hd.neg hd1).un h.cl.symm
theorem sQ {N:Nat}(hN:8589934600<N){d a b c:Int}(h:n5 d a b c):∃a' b' c',Q59.f N a b c=some (a',b',c',0)∧cK d (La d a b) a' b' c'∧nI a' b' c'∧∃p q r u,Q40.f N a b c=some (a',b',c',p,q,r,u,0):=by
 obtain⟨hd,hd1⟩:=h.d;obtain⟨a',b',c',t,u,v,w,k1,k2,k3,k4,k5,k6,k7,k8,k9,k10,k11,k12⟩:=oN hN h.fine;have cl:=h.of.cl hd (by have:=h.fine.pos;omega) k1;have hof:Of d a' b' c':=by
  refine⟨?_⟩;have:cq a b c a' b' c':=⟨t,u,v,w,k1,k2,k3,k4⟩
  rw[this.disc];exact h.of.eq
 have cl':Cl d (La d a b) (La d a' b'):=by rw[k2,k3];exact cl
 have pr:nP a' b' c':=hof.prim h.dn (Un.cl h.dn h.un cl');refine⟨a',b',c',?_,⟨⟨k5.pos,hof,k6,k7,pr⟩,cl'⟩,k5,t,u,v,w,k12⟩;unfold Q59.f;rw[k12];have c0:((0:Int) != 0)=false:=rfl;have c1:((1:Int) != 1)=false:=rfl;simp only[hB,c0,cond_false];rw[eK (by omega) h.fine.inb,(bL a b c).mp h.pr];simp only[hB,c1,cond_false]
theorem qY {N:Nat}{d a b c:Int}(h:n5 d a b c):Q38.f N a b c=some 0:=by
 rcases gG N a b c with⟨_,h2⟩|⟨h2,_⟩
 ·exact h2
 ·exact absurd h.fine h2
theorem ed (N:Nat){d a b c:Int}(h:n5 d a b c):Q37.f N a b c=some d:=by
 rw[(iG N a b c).1,if_pos h.fine.inb,pL h.fine.inb,h.of.eq]
theorem an {N:Nat}(hN:4294967400<N){d a1 b1 c1 a2 b2 c2:Int}(hd:d<0)(hd1: -4294967296≤d)(h1:An d a1 b1 c1)(h2:An d a2 b2 c2):
  ∃a b c,Q60.f N a1 b1 c1 a2 b2 c2 d=some (a,b,c)∧cK d (Pr d (La d a1 b1) (La d a2 b2)) a b c:=by
 have dn:Dn d:=Dn.of h1.of hd;have u1:=(h1.val hd hd1).un;have u2:=(h2.val hd hd1).un;have ho:=El h1.of dn;unfold Q60.f;by_cases hs:a1>a2
 ·obtain⟨a,b,c,k1,k2,k3,k4,k5,k6,k7⟩:=rQ hN hd hd1 h2 h1 (fun y30 y31 y32=>some (y30,y31,y32));rw[decide_eq_true hs];have cl:=(Mod.Hm.comm (s:=sd d) (m:=md d) (La d a1 b1) (La d a2 b2)).trans dn.m k6;exact⟨a,b,c,k7,⟨k1,k3,k4,k5,k3.prim dn (Un.cl dn (Un.prod dn ho u1 u2) cl)⟩,cl⟩
 ·obtain⟨a,b,c,k1,k2,k3,k4,k5,k6,k7⟩:=rQ hN hd hd1 h1 h2 (fun y30 y31 y32=>some (y30,y31,y32));rw[decide_eq_false hs];exact⟨a,b,c,k7,⟨k1,k3,k4,k5,k3.prim dn (Un.cl dn (Un.prod dn ho u1 u2) k6)⟩,k6⟩
theorem lq {N:Nat}(hN:4294967400<N){d a1 b1 c1 a2 b2 c2:Int}{M L:E→Prop}(hd:Dn d)(hd1: -4294967296≤d)(h1:cK d M a1 b1 c1)(h2:cK d L a2 b2 c2):
  ∃a b c,Q60.f N a1 b1 c1 a2 b2 c2 d=some (a,b,c)∧cK d (Pr d M L) a b c:=by
 obtain⟨a,b,c,e,h⟩:=an hN hd.neg hd1 h1.red h2.red;exact⟨a,b,c,e,h.turn hd (Mod.Hm.prod hd.m h1.cl h2.cl)⟩
theorem y6 {N:Nat}(hN:8589934600<N){d a1 b1 c1 a2 b2 c2:Int}(h1:n5 d a1 b1 c1)(h2:n5 d a2 b2 c2):
  ∃a b c,Q61.f N a1 b1 c1 a2 b2 c2=some (a,b,c,0)∧cK d (Pr d (La d a1 b1) (La d a2 b2)) a b c:=by
 obtain⟨x1,y1,z1,e1,r1,_⟩:=sQ hN h1;obtain⟨x2,y2,z2,e2,r2,_⟩:=sQ hN h2;obtain⟨a,b,c,e,h⟩:=lq (N:=N) (by omega) h1.dn h1.d.2 r1 r2;refine⟨a,b,c,?_,h⟩;have c0:((0:Int) != 0)=false:=rfl;have cd:(d != d)=false:=by simp
 unfold Q61.f;rw[qY h1];simp only[hB,c0,cond_false];rw[qY h2];simp only[hB,c0,cond_false];rw[e1];simp only[hB,c0,cond_false];rw[e2];simp only[hB,c0,cond_false];rw[ed N h1];simp only[hB];rw[ed N h2];simp only[hB,cd,cond_false];rw[e];rfl
open Go.Proofs.Yteaakcmkpacpaaa.NatL (ab xA fB rC bG GT rB yC kC qB wN oM tA tB pA eR xH eC)
def Id (d:Int)(M:E→Prop):Prop:=Cl d (Pr d Oo M) M
theorem Id.prod {d:Int}(hd:Dn d){M L:E→Prop}(h:Id d M):Id d (Pr d M L):=(Mod.Hm.assoc (s:=sd d) (m:=md d) Oo M L).symm.trans hd.m (h.left L)
theorem Id.cl {d:Int}(hd:Dn d){M L:E→Prop}(h:Id d M)(k:Cl d M L):Id d L:=
 (Mod.Hm.prod hd.m (Mod.Hm.refl (sd d) (md d) Oo) k.symm).trans hd.m (Mod.Hm.trans hd.m h k)
theorem Id.right {d:Int}(hd:Dn d){M:E→Prop}(h:Id d M):Cl d (Pr d M Oo) M:=(Mod.Hm.comm M Oo).trans hd.m h
theorem cK.id {d a b c:Int}{M:E→Prop}(hd:Dn d)(h:cK d M a b c):Id d M:=Id.cl hd (h.red.of.one hd) h.cl.symm
def Pw (d:Int)(M:E→Prop):Nat→E→Prop
 |0=>Oo
 |n+1=>Pr d (Pw d M n) M
theorem Pw.id {d:Int}(hd:Dn d)(ho:Id d Oo)(M:E→Prop):∀n,Id d (Pw d M n)
 |0=>ho
 |n+1=>Id.prod hd (Pw.id hd ho M n)
theorem Pw.cl {d:Int}(hd:Dn d){M L:E→Prop}(h:Cl d M L):∀n,Cl d (Pw d M n) (Pw d L n)
 |0=>Mod.Hm.refl _ _ _
 |n+1=>Mod.Hm.prod hd.m (Pw.cl hd h n) h
theorem Pw.two {d:Int}(hd:Dn d)(M:E→Prop):∀n,Cl d (Pw d (Pr d M M) n) (Pw d M (2*n))
 |0=>Mod.Hm.refl _ _ _
 |n+1=>(((Pw.two hd M n).left (Pr d M M))).trans hd.m (Mod.Hm.assoc (s:=sd d) (m:=md d) (Pw d M (2*n)) M M).symm
theorem Pw.front {d:Int}(hd:Dn d)(ho:Id d Oo){M:E→Prop}(hM:Id d M):∀n,Cl d (Pr d M (Pw d M n)) (Pw d M (n+1))
 |0=>(hM.right hd).trans hd.m hM.symm
 |n+1=>(Mod.Hm.assoc (s:=sd d) (m:=md d) M (Pw d M n) M).symm.trans hd.m ((Pw.front hd ho hM n).left M)
def zp (d:Int)(M X:E→Prop)(n:Int):E→Prop:=if 0≤n then Pw d M n.toNat else Pw d X (-n).toNat
theorem zp.id {d:Int}(hd:Dn d)(ho:Id d Oo)(M X:E→Prop)(n:Int):Id d (zp d M X n):=by
 unfold zp;split<;>exact Pw.id hd ho _ _
theorem zp.up {d:Int}(hd:Dn d)(ho:Id d Oo){M X:E→Prop}(hX:Cl d (Pr d M X) Oo)(n:Int):Cl d (Pr d (zp d M X n) M) (zp d M X (n+1)):=by
 by_cases h:0≤n
 ·have e:(n+1).toNat=n.toNat+1:=by omega
  unfold zp;rw[if_pos h,if_pos (by omega),e];exact Mod.Hm.refl _ _ _
 ·obtain⟨k,hk⟩:∃k:Nat,(-n).toNat=k+1:=⟨(-n).toNat-1,by omega⟩
  have h1:Cl d (Pr d (Pw d X (k+1)) M) (Pw d X k):=
   (Mod.Hm.assoc (s:=sd d) (m:=md d) (Pw d X k) X M).trans hd.m ((Mod.Hm.prod hd.m (Mod.Hm.refl (sd d) (md d) (Pw d X k)) ((Mod.Hm.comm X M).trans hd.m hX)).trans hd.m ((Pw.id hd ho X k).right hd))
  unfold zp;rw[if_neg h,hk];by_cases h2:0≤n+1
  ·have e:(n+1).toNat=0:=by omega
   have e2:k=0:=by omega
   rw[if_pos h2,e];rw[e2]at h1⊢;exact h1
  ·have e:(-(n+1)).toNat=k:=by omega
   rw[if_neg h2,e];exact h1
theorem zp.down {d:Int}(hd:Dn d)(ho:Id d Oo){M X:E→Prop}(hX:Cl d (Pr d M X) Oo)(n:Int):Cl d (Pr d (zp d M X n) X) (zp d M X (n-1)):=by
 have h1:=zp.up hd ho hX (n-1);have e:n-1+1=n:=by omega
 rw[e]at h1;have h2:=(h1.symm.left X).trans hd.m (Mod.Hm.assoc (s:=sd d) (m:=md d) (zp d M X (n-1)) M X);exact h2.trans hd.m ((Mod.Hm.prod hd.m (Mod.Hm.refl _ _ _) hX).trans hd.m ((zp.id hd ho M X (n-1)).right hd))
theorem zp.add {d:Int}(hd:Dn d)(ho:Id d Oo){M X:E→Prop}(hX:Cl d (Pr d M X) Oo)(i j:Int):Cl d (Pr d (zp d M X i) (zp d M X j)) (zp d M X (i+j)):=by
 have up:∀k:Nat,Cl d (Pr d (zp d M X i) (Pw d M k)) (zp d M X (i+k)):=by
  intro k;induction k with
  |zero=>
    have e:i+((0:Nat):Int)=i:=by omega
    rw[e];exact(zp.id hd ho M X i).right hd
  |succ k ih=>
   have e:i+((k+1:Nat):Int)=i+k+1:=by omega
   rw[e];exact(Mod.Hm.assoc (s:=sd d) (m:=md d) (zp d M X i) (Pw d M k) M).symm.trans hd.m ((ih.left M).trans hd.m (zp.up hd ho hX _))
 have down:∀k:Nat,Cl d (Pr d (zp d M X i) (Pw d X k)) (zp d M X (i-k)):=by
  intro k;induction k with
  |zero=>
    have e:i- ((0:Nat):Int)=i:=by omega
    rw[e];exact(zp.id hd ho M X i).right hd
  |succ k ih=>
   have e:i- ((k+1:Nat):Int)=i-k-1:=by omega
   rw[e];exact(Mod.Hm.assoc (s:=sd d) (m:=md d) (zp d M X i) (Pw d X k) X).symm.trans hd.m ((ih.left X).trans hd.m (zp.down hd ho hX _))
 by_cases h:0≤j
 ·have e:zp d M X j=Pw d M j.toNat:=if_pos h;have:=up j.toNat;rw[e];have e2:i+(j.toNat:Int)=i+j:=by omega
  rw[e2]at this;exact this
 ·have e:zp d M X j=Pw d X (-j).toNat:=if_neg h;have:=down (-j).toNat;rw[e];have e2:i- ((-j).toNat:Int)=i+j:=by omega
  rw[e2]at this;exact this
theorem zp.turn {d:Int}(hd:Dn d){M X Y:E→Prop}(h:Cl d X Y)(n:Int):Cl d (zp d M X n) (zp d M Y n):=by
 unfold zp;split
 ·exact Mod.Hm.refl _ _ _
 ·exact Pw.cl hd h _
theorem gu (N:Nat){d:Int}(hd:d<0)(hd1: -4294967296≤d)(hd4:d%4=0∨d%4=1):∃b c,Q58.f N d=some (1,b,c,0)∧cK d Oo 1 b c:=by
 obtain⟨a,b,c,e,h1,_,h3⟩:=tf N d;have he:e=0:=by
  have ne:d≤ -3:=by omega
  have w:aA (0-d)= -d:=by rw[dA (by omega) (by omega)];omega
  have a3:iB .i64 (-d) 3=(-d)%4:=hJ (by omega) (by omega) 2 (by decide);unfold Q58.f at h1;rw[decide_eq_false (show ¬d> -3 by omega),decide_eq_false (show ¬d< -4294967296 by omega),w,a3]at h1;have c1:((-d)%4==1)=false:=beq_eq_false_iff_ne.mpr (by omega);have c2:((-d)%4==2)=false:=beq_eq_false_iff_ne.mpr (by omega);rw[c1,c2]at h1;simp only[cond_false,Option.some.injEq,Prod.mk.injEq]at h1;omega
 subst he;obtain⟨g1,g2,g3,g4,g5⟩:=h3 rfl;subst g1;refine⟨b,c,h1,⟨⟨by decide,⟨g3⟩,⟨by omega,by omega⟩,fun q=>?_,⟨1,0,0,by omega⟩⟩,?_⟩⟩
 ·unfold aC at q;rcases g2 with g2|g2<;>subst g2<;>omega
 ·exact Mod.Hm.same (fun z=>(Di _ z).symm)
end Go.Proofs.Yteaakcmkpacpaaa.Pure
namespace Go.Proofs.Yteaakcmkpacpaaa.Pure
open Go Go.Proofs.Yteaakcmkpacpaaa.Ev
open Go.Proofs.Yteaakcmkpacpaaa.NatL (ab xA fB rB yC kC qB xH pU cg qn cm)
open Go.Proofs.Yteaakcmkpacpaaa.Mod (Fo Hm PM E Sc ml nm ze)
theorem Fj {s m a t c:Int}(hc:t*t+s*t-m=a*c)(z:E){x:E}(h:Fo a t x):Fo a t (ml s m z x):=by
 obtain⟨k,hk⟩:=h;refine⟨(z.re-z.im*t)*k-z.im*x.im*c,?_⟩;have e:a*((z.re-z.im*t)*k-z.im*x.im*c)=(z.re-z.im*t)*(a*k)-z.im*x.im*(a*c):=by grind
 rw[e,←hk,←hc];simp only[ml];grind
theorem Fu {s m a t c:Int}{L:E→Prop}(hc:t*t+s*t-m=a*c)(z:E){x:E}(h:PM s m (Fo a t) L x):PM s m (Fo a t) L (ml s m z x):=by
 induction h with
 |zero=>rw[Mod.ow];exact Mod.Sp.zero
 |mem h=>obtain⟨u,v,hu,hv,rfl⟩:=h;rw[←Mod.dN];exact Mod.Sp.mem ⟨_,v,Fj hc z hu,hv,rfl⟩
 |add _ _ p q=>rw[Mod.mZ];exact Mod.Sp.add p q
 |neg _ p=>rw[Mod.gi];exact Mod.Sp.neg p
theorem F2 {d a1 b1 c1 a2 b2 c2:Int}(h1:Of d a1 b1 c1)(h2:Of d a2 b2 c2)(p1:0<a1)(p2:0<a2)(hp:nP a1 b1 c1):
  ∃e A t C,0<e∧0<A∧a1*a2=e*e*A∧t*t+sd d*t-md d=A*C∧∀u,PM (sd d) (md d) (La d a1 b1) (La d a2 b2) u↔Sc (sd d) (md d) ⟨e,0⟩ (Fo A t) u:=by
 obtain⟨q1,q2,_,_⟩:=h1.t;obtain⟨q5,q6,_,_⟩:=h2.t;obtain⟨pp,pq,pr,hpr⟩:=hp;unfold La;generalize(b1-sd d)/2=t1 at*;generalize(b2-sd d)/2=t2 at*;obtain⟨y1,z1,hk⟩:=oR a2 a1;have kp:0<rB a2 a1:=NatL.tV (by omega);have d2:=qB a2 a1;have d1:=kC a2 a1;generalize rB a2 a1=k at*;obtain⟨x2,y2,he⟩:=oR (t1+t2+sd d) k;have ep:0<rB (t1+t2+sd d) k:=NatL.tV (by omega);have d3:=kC (t1+t2+sd d) k;have d4:=qB (t1+t2+sd d) k;generalize rB (t1+t2+sd d) k=e at*;obtain⟨s',hs⟩:=d3;obtain⟨v1,hv1⟩:=b7 d4 d2;obtain⟨v2,hv2⟩:=b7 d4 d1;have pos:∀v a:Int,0<a→a=e*v→0<v:=fun v a ha h=>by
  rcases hI 0 v with q|q
  ·exact q
  ·have:=zE (aE ep) (show 0≤ -v by omega);rw[c5]at this;omega
 have v1p:=pos v1 a1 p1 hv1;have v2p:=pos v2 a2 p2 hv2;have hun:=fun u=>Ai (s:=sd d) (m:=md d) (v1:=v1) (v2:=v2) (c1:=c1) (c2:=c2) (t1:=t1) (t2:=t2) (k:=k) (y1:=y1) (z1:=z1) (e:=e) (x2:=x2) (y2:=y2) (s':=s') (j:=0) (p:=pp) (q:=pq) (r:=pr) (by omega) (by rw[←hv2,←hv1];exact hk) he hs (by rw[←hv1];exact q2) (by rw[←hv2];exact q6) (by rw[←hv1,←q1];exact hpr) u;rw[←hv1,←hv2]at hun;generalize t2+v2*(y1*(-y2*(t2-t1))-x2*c2+v1*0)=t at*;have hC:v1*v2∣t*t+sd d*t-md d:=by
  have m1:PM (sd d) (md d) (Fo a1 t1) (Fo a2 t2) (ml (sd d) (md d) ⟨e,0⟩ ⟨t,1⟩):=(hun _).mpr ⟨_,Fo.t _ _,rfl⟩;obtain⟨w,hw,e1⟩:=(hun _).mp (Fu q2 ⟨0,1⟩ m1);have e2:ml (sd d) (md d) ⟨0,1⟩ ⟨t,1⟩=w:=by
   have h3:ml (sd d) (md d) ⟨e,0⟩ (ml (sd d) (md d) ⟨0,1⟩ ⟨t,1⟩)=ml (sd d) (md d) ⟨e,0⟩ w:=by rw[←e1,←Mod.dN,←Mod.dN,Mod.nJ _ _ ⟨e,0⟩ ⟨0,1⟩]
   have r1:=congrArg E.re h3;have r2:=congrArg E.im h3;simp only[ml]at r1 r2;refine Mod.E.ext' ?_ ?_
   ·simp only[ml];have:e*(0*t+md d*(1*1))=e*w.re:=by
     have a1':md d*(0*(0*1+1*t+sd d*(1*1)))=0:=by grind
     have a2':md d*(0*w.im)=0:=by grind
     omega
    exact eX (by omega) this
   ·simp only[ml];have:e*(0*1+1*t+sd d*(1*1))=e*w.im:=by
     have a1':sd d*(0*(0*1+1*t+sd d*(1*1)))=0:=by grind
     have a2':sd d*(0*w.im)=0:=by grind
     have a3':0*(0*t+md d*(1*1))=0:=by grind
     omega
    exact eX (by omega) this
  rw[←e2]at hw;obtain⟨q,hq⟩:=hw;simp only[ml]at hq;exact⟨-q,by rw[c5,←hq];grind⟩
 obtain⟨C,hC⟩:=hC;exact⟨e,v1*v2,t,C,ep,y8 v1p v2p,by rw[hv1,hv2];grind,hC,hun⟩
def val (a b c x y:Int):Int:=a*x*x+b*x*y+c*y*y
theorem Er (K a P b Q:Int):K*(a*P*(b*Q))=K*(a*b)*(P*Q):=by grind
theorem qm {d a1 b1 c1 a2 b2 c2 a b c:Int}(hd:Dn d)(h1:n5 d a1 b1 c1)(h2:n5 d a2 b2 c2)(h:cK d (Pr d (La d a1 b1) (La d a2 b2)) a b c)(x y u v:Int):
  ∃X Y,val a b c X Y=val a1 b1 c1 x y*val a2 b2 c2 u v:=by
 obtain⟨e,A,t,C,ep,Ap,hA,hC,hun⟩:=F2 h1.of h2.of h1.fine.pos h2.fine.pos h1.pr;obtain⟨k,l,hk,hl,hkl⟩:=h.cl;obtain⟨q1,q2,_,_⟩:=h1.of.t;obtain⟨q3,q4,_,_⟩:=h2.of.t;obtain⟨q5,q6,_,_⟩:=h.red.of.t;unfold La at hun hkl;generalize(b1-sd d)/2=t1 at*;generalize(b2-sd d)/2=t2 at*;generalize(b-sd d)/2=t3 at*;have ne:(⟨e,0⟩:E)≠ze:=fun h=>by have:=congrArg E.re h;simp[ze]at this;omega
 have hkl':∀z,Sc (sd d) (md d) (ml (sd d) (md d) k ⟨e,0⟩) (Fo A t) z↔Sc (sd d) (md d) l (Fo a t3) z:=fun z=>by rw[←hkl z,←Mod.Sc.sc];exact Mod.Sc.congr (fun z=>(hun z).symm)
 have hnm:=(Mod.vh hd.m Ap h.red.a0 hC q6 (Mod.xt hd.m hk ne) hl hkl').1;rw[Mod.yg]at hnm;have hne:nm (sd d) (md d) ⟨e,0⟩=e*e:=by simp only[nm];grind
 rw[hne]at hnm;have hnm2:nm (sd d) (md d) k*(a1*a2)=nm (sd d) (md d) l*a:=by rw[hA,←hnm];grind
 have m1:Fo a1 t1 ⟨x*a1+t1*y,y⟩:=⟨x,by simp only;grind⟩
 have m2:Fo a2 t2 ⟨u*a2+t2*v,v⟩:=⟨u,by simp only;grind⟩
 obtain⟨g,hg,e1⟩:=(hkl _).mp ⟨_,Mod.Sp.mem ⟨_,_,m1,m2,rfl⟩,rfl⟩;obtain⟨X,hX⟩:=hg.gen;have e2:=congrArg (nm (sd d) (md d)) e1;rw[hX,Mod.yg,Mod.yg,Mod.yg,Mod.pf q2,Mod.pf q4,Mod.pf q6,←q1,←q3,←q5]at e2;refine⟨X,g.im,?_⟩;have lp:0<nm (sd d) (md d) l*a:=y8 (Mod.ah hd.m hl) h.red.a0;have e3:nm (sd d) (md d) l*a*val a b c X g.im=nm (sd d) (md d) l*a*(val a1 b1 c1 x y*val a2 b2 c2 u v):=by
  have f1:nm (sd d) (md d) l*a*val a b c X g.im=nm (sd d) (md d) l*(a*(a*X*X+b*X*g.im+c*g.im*g.im)):=by unfold val;grind
  rw[f1,←e2,←hnm2];exact Er ..
 exact eX (by omega) e3
end Go.Proofs.Yteaakcmkpacpaaa.Pure
namespace Go.Proofs.Yteaakcmkpacpaaa
open Go Go.Proofs.Yteaakcmkpacpaaa.Ev
noncomputable def iF.f (N:Nat)(a1:Int):=(Q75.f N a1).bind fun r2=>some ((r2.1.length/3:Int),r2.2)
end Go.Proofs.Yteaakcmkpacpaaa
