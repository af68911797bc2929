import Derived.Test.YtjpdjdhdchjcgaaGreatA3
import Derived.KernelRfl
open Option renaming bind_some→hA
open Int renaming mul_le_mul_of_nonneg_left→iA,le_of_lt→zA,mul_le_mul_of_nonneg_right→hB,mul_nonneg→iB,lt_or_le→zB,mul_ediv_add_emod→pC,emod_lt_of_pos→hD,pow_succ→aE,emod_nonneg→hE,mul_ediv_cancel_left→hI,pow_pos→hL,ediv_nonneg→hM,add_zero→hQ,mul_eq_zero→hR,pow_add→hS,ediv_emod_unique→sS,mul_lt_mul_of_pos_left→hT,mul_comm→j0,mul_zero→p0,eq_ofNat_of_zero_le→c4,ediv_lt_iff_lt_mul→s4,mul_neg→c5,lt_trichotomy→n5,add_mul_ediv_left→u5,zero_add→c6,le_refl→u6,mul_pos→b7,le_total→c7,sub_eq_add_neg→e7,ediv_eq_zero_of_lt→u7,le_ediv_iff_mul_le→a8,ediv_le_self→c8,lt_ediv_add_one_mul_self→w8,mul_le_mul→y8,neg_mul→b9,add_mul_emod_self_left→e9,le_of_dvd→h9,eq_of_mul_eq_mul_left→k9,emod_eq_zero_of_dvd→w9,ediv_lt_of_lt_mul→ae,natAbs_dvd_natAbs→bd,mul_dvd_mul_left→bp,zero_mul→bs,dvd_neg→cd
open List renaming drop_eq_nil_iff→hC,getD_eq_getElem?_getD→cD,length_take→zE,length_pos_iff→dQ,take_length→hV,drop_zero→j1,take_of_length_le→o2,getElem?_set→s5,getElem?_replicate→h7,getD_cons_succ→l8,getElem?_set_self→aa
open Nat renaming le_refl→hK,pow_le_pow_right→iX,lt_or_ge→j3,shiftLeft_add_eq_or_of_lt→h8,shiftLeft_eq→r9,add_zero→bx,le_trans→cc
open Bool renaming not_false→j2,not_true→b8
open BitVec renaming toNat_ofInt→c9,msb_eq_decide→bn
set_option linter.unusedVariables false
set_option linter.unusedSimpArgs false
namespace Go.Proofs.YtjpdjdhdchjcgaaGreat.NatL
open Go Go.Proofs.YtjpdjdhdchjcgaaGreat.Ev
theorem fA {n:Int}(h1: -9223372036854775808≤n)(h2:n<9223372036854775808):aA n=n:=by
 simp only[aA,IntKind.wrap];simp[IntKind.bits,IntKind.signed];omega
theorem xA {n:Int}(h1:0≤n)(h2:n<18446744073709551616):jA n=n:=by
 simp only[jA,IntKind.wrap];simp[IntKind.bits,IntKind.signed];omega
theorem bE {n:Int}(h1:0≤n)(h2:n<4294967296):rB n=n:=by
 simp only[rB,IntKind.wrap];simp[IntKind.bits,IntKind.signed];omega
theorem sE (n:Int):rB n=n%4294967296:=by
 simp only[rB,IntKind.wrap];simp[IntKind.bits,IntKind.signed]
theorem bG (n:Int):jA n=n%18446744073709551616:=by
 simp only[jA,IntKind.wrap];simp[IntKind.bits,IntKind.signed]
theorem Ik {n:Int}(h1:0≤n)(h2:n<256):cN n=n:=by
 simp only[cN,IntKind.wrap];simp[IntKind.bits,IntKind.signed];omega
theorem rC (y:Int)(k:Nat):Int.fdiv y (2^k)=y/2^k:=Int.fdiv_eq_ediv_of_nonneg _ (zA (hL (by decide)))
theorem mE {x y:Int}(h:0≤x):Int.tdiv x y=x/y:=Int.tdiv_eq_ediv_of_nonneg h
theorem yD {x y:Int}(h:0≤x):Int.tmod x y=x%y:=Int.tmod_eq_emod_of_nonneg h
def nv (b:Int):List Int→Int
 | []=>0
 |x::r=>x+b*nv b r
def qC (b:Int)(l:List Int):Prop:=∀x∈l,0≤x∧x<b
theorem qC.nil (b:Int):qC b []:=fun _ h=>by cases h
theorem qC.cons {b x:Int}{l:List Int}(h0:0≤x)(h1:x<b)(h:qC b l):qC b (x::l):=fun y hy=>by
 rcases List.mem_cons.mp hy with rfl|hy
 ·exact⟨h0,h1⟩
 ·exact h y hy
theorem qC.tail {b x:Int}{l:List Int}(h:qC b (x::l)):qC b l:=fun y hy=>h y (List.mem_cons_of_mem _ hy)
theorem qC.head {b x:Int}{l:List Int}(h:qC b (x::l)):0≤x∧x<b:=h x List.mem_cons_self
theorem qC.append {b:Int}{l m:List Int}(h:qC b l)(k:qC b m):qC b (l++m):=fun y hy=>by
 rcases List.mem_append.mp hy with hy|hy
 ·exact h y hy
 ·exact k y hy
theorem qC.take {b:Int}{l:List Int}(h:qC b l)(n:Nat):qC b (l.take n):=fun y hy=>h y (List.mem_of_mem_take hy)
theorem qC.drop {b:Int}{l:List Int}(h:qC b l)(n:Nat):qC b (l.drop n):=fun y hy=>h y (List.mem_of_mem_drop hy)
theorem qC.set {b v:Int}{l:List Int}(h:qC b l)(i:Nat)(h0:0≤v)(h1:v<b):qC b (l.set i v):=fun y hy=>by
 rcases List.mem_or_eq_of_mem_set hy with hy|rfl
 ·exact h y hy
 ·exact⟨h0,h1⟩
theorem qC.get {b:Int}{l:List Int}(h:qC b l)(hb:0<b)(i:Nat):0≤l.getD i 0∧l.getD i 0<b:=by
 rw[cD];cases hi:l[i]? with
 |none=>exact⟨u6 _,hb⟩
 |some x=>exact h x (List.mem_of_getElem? hi)
theorem uM (b:Int):∀l m:List Int,nv b (l++m)=nv b l+b^l.length*nv b m
 | [],m=>by simp[nv]
 |x::l,m=>by simp only[List.cons_append,nv,List.length_cons,uM b l m,aE];grind
theorem kB {b:Int}(hb:0<b):∀{l:List Int},qC b l→0≤nv b l∧nv b l<b^l.length
 | [],_=>by simp[nv]
 |x::l,h=>by
  obtain⟨h1,h2⟩:=kB hb h.tail;obtain⟨h3,h4⟩:=h.head;simp only[nv,List.length_cons,aE];have p1:=iB (zA hb) h1;have p2:=iA (show nv b l+1≤b^l.length by omega) (zA hb);have e1:b*(nv b l+1)=b*nv b l+b:=by grind
  have e2:b^l.length*b=b*b^l.length:=j0 _ _;omega
theorem pK (b v:Int):∀(l:List Int) (i:Nat),i<l.length→nv b (l.set i v)=nv b l+b^i*(v-l.getD i 0)
 | [],i,h=>by simp at h
 |x::l,0,_=>by simp[nv];omega
 |x::l,i+1,h=>by have:=pK b v l i (by simpa using h);simp only[List.set_cons_succ,nv,this,aE,l8];grind
theorem fD (b:Int):∀(l:List Int) (i:Nat),i<l.length→nv b (l.take (i+1))=nv b (l.take i)+b^i*l.getD i 0
 | [],i,h=>by simp at h
 |x::l,0,_=>by simp[nv]
 |x::l,i+1,h=>by have:=fD b l i (by simpa using h);simp only[List.take_succ_cons,nv,this,aE,l8];grind
theorem tF (b:Int):∀(l:List Int) (i:Nat),i<l.length→nv b (l.drop i)=l.getD i 0+b*nv b (l.drop (i+1))
 | [],i,h=>by simp at h
 |x::l,0,_=>by simp[nv]
 |x::l,i+1,h=>by have:=tF b l i (by simpa using h);simpa using this
theorem xS (b:Int)(l:List Int)(i:Nat)(h:i≤l.length):nv b l=nv b (l.take i)+b^i*nv b (l.drop i):=by
 have:=uM b (l.take i) (l.drop i);rw[List.take_append_drop,zE,Nat.min_eq_left h]at this;exact this
theorem uF (b:Int):∀n,nv b (List.replicate n 0)=0
 |0=>rfl
 |n+1=>by simp[List.replicate_succ,nv,uF b n]
theorem qC.replicate {b:Int}(hb:0<b)(n:Nat):qC b (List.replicate n 0):=fun x hx=>by
 have:=List.eq_of_mem_replicate hx;subst this;exact⟨u6 _,hb⟩
structure zP (b:Int)(l:List Int):Prop where
 dig:qC b l
 top:l≠ []→l.getD (l.length-1) 0≠0
theorem zP.nil (b:Int):zP b []:=⟨qC.nil b,fun h=>absurd rfl h⟩
theorem zP.lower {b:Int}(hb:0<b){l:List Int}(h:zP b l)(hne:l≠ []):b^(l.length-1)≤nv b l:=by
 have hl:0<l.length:=dQ.mpr hne;have h1:=fD b l (l.length-1) (by omega);have e:l.length-1+1=l.length:=by omega
 rw[e,hV]at h1;have h2:=(kB hb (h.dig.take (l.length-1))).1;have h3:=h.dig.get hb (l.length-1);have h4:=h.top hne;have h5:=iA (show 1≤l.getD (l.length-1) 0 by omega) (show 0≤b^(l.length-1)from zA (hL hb));omega
theorem zP.pos {b:Int}(hb:0<b){l:List Int}(h:zP b l):nv b l=0↔l=[]:=by
 cases l with
 |nil=>simp[nv]
 |cons x l=>have h1:=h.lower hb (by simp);have h2:0<b^((x::l).length-1):=hL hb;refine⟨fun _=>?_,fun h=>by cases h⟩;omega
theorem zP.tail {b x:Int}{l:List Int}(h:zP b (x::l)):zP b l:=by
 refine⟨h.dig.tail,fun hne=>?_⟩;have hl:0<l.length:=dQ.mpr hne;have:=h.top (by simp);have e:(x::l).length-1=(l.length-1)+1:=by simp;omega
 rw[e,l8]at this;exact this
theorem rq {b x y n m:Int}(hb:0<b)(hx0:0≤x)(hx1:x<b)(hy0:0≤y)(hy1:y<b)(h:x+b*n=y+b*m):x=y∧n=m:=by
 rcases n5 n m with hq|hq|hq
 ·exfalso;have:=iA (show n+1≤m by omega) (zA hb);have e:b*(n+1)=b*n+b:=by grind
  omega
 ·subst hq;exact⟨by omega,rfl⟩
 ·exfalso;have:=iA (show m+1≤n by omega) (zA hb);have e:b*(m+1)=b*m+b:=by grind
  omega
theorem zP.unique {b:Int}(hb:0<b):∀{l m:List Int},zP b l→zP b m→nv b l=nv b m→l=m
 | [],m,_,hm,h=>((hm.pos hb).mp h.symm).symm
 |x::l,[],hl,_,h=>by have:=(hl.pos hb).mp h;exact this
 |x::l,y::m,hl,hm,h=>by simp only[nv]at h;obtain⟨h1,h2⟩:=rq hb hl.dig.head.1 hl.dig.head.2 hm.dig.head.1 hm.dig.head.2 h;rw[h1,zP.unique hb hl.tail hm.tail h2]
def pI (l:List Int):Nat→Nat
 |0=>0
 |n+1=>if l.getD n 0=0 then pI l n else n+1
theorem pW (l:List Int):∀n,pI l n≤n
 |0=>hK _
 |n+1=>by
  unfold pI;split
  ·exact Nat.le_succ_of_le (pW l n)
  ·exact hK _
theorem wg (b:Int)(l:List Int):∀n,n≤l.length→nv b (l.take (pI l n))=nv b (l.take n)
 |0,_=>rfl
 |n+1,h=>by
  unfold pI;split
  ·rename_i h0;rw[wg b l n (by omega),fD b l n (by omega),h0];simp
  ·rfl
theorem lz (l:List Int):∀n,0<pI l n→l.getD (pI l n-1) 0≠0
 |0,h=>by simp[pI]at h
 |n+1,h=>by
  unfold pI at h⊢;split
  ·rename_i h0;rw[if_pos h0]at h;exact lz l n h
  ·rename_i h0;simpa using h0
def dC (l:List Int):List Int:=l.take (pI l l.length)
theorem fx (b:Int)(l:List Int):nv b (dC l)=nv b l:=by
 unfold dC;rw[wg b l _ (hK _),hV]
theorem br {l:List Int}{n i:Nat}(h:i<n):(l.take n).getD i 0=l.getD i 0:=by
 simp[cD,List.getElem?_take,h]
theorem zX {b:Int}{l:List Int}(h:qC b l):zP b (dC l):=by
 refine⟨h.take _,fun hne=>?_⟩;have hle:=pW l l.length;have hlen:(dC l).length=pI l l.length:=by unfold dC;rw[zE];omega
 have hpos:0<(dC l).length:=dQ.mpr hne;rw[hlen]at hpos⊢;have:=lz l l.length hpos;unfold dC;rw[br (by omega)];exact this
theorem ly (l:List Int):(dC l).length≤l.length:=by unfold dC;rw[zE];omega
theorem si {b:Int}(hb:2≤b):∀n:Nat,∃l,zP b l∧nv b l=n:=by
 intro n;induction n using Nat.strongRecOn with
 |_ n ih=>
  by_cases h0:n=0
  ·subst h0;exact⟨[],zP.nil b,rfl⟩
  ·have h1:=pC (n:Int) b;have h2:=hE (n:Int) (b:=b) (by omega);have h3:=hD (n:Int) (b:=b) (by omega);have h4:0≤(n:Int)/b:=hM (by omega) (by omega);have h5:(n:Int)/b<n:=Int.ediv_lt_self_of_pos_of_ne_one (by omega) (by omega);obtain⟨l,hl,hv⟩:=ih ((n:Int)/b).toNat (by omega);have hv':nv b l=(n:Int)/b:=by omega
   refine⟨(n:Int)%b::l,⟨qC.cons h2 h3 hl.dig,fun _=>?_⟩,by simp only[nv,hv'];omega⟩;cases l with
   |nil=>
    simp only[nv]at hv';simp;intro h;have:(n:Int)%b=0:=by omega
    rw[←hv']at h1;simp at h1;omega
   |cons x l=>have:=hl.top (by simp);simpa using this
open Classical in
noncomputable def enc (b v:Int):List Int:=if h:∃l,zP b l∧nv b l=v then Classical.choose h else []
theorem eY {b:Int}(hb:2≤b){l:List Int}{v:Int}(h:zP b l)(hv:nv b l=v):l=enc b v:=by
 have hx:∃l,zP b l∧nv b l=v:=⟨l,h,hv⟩
 unfold enc;rw[dif_pos hx];obtain⟨h1,h2⟩:=Classical.choose_spec hx;exact zP.unique (by omega) h h1 (by omega)
theorem oB {b:Int}(hb:2≤b){v:Int}(hv:0≤v):zP b (enc b v)∧nv b (enc b v)=v:=by
 obtain⟨l,h1,h2⟩:=si hb v.toNat;have h3:nv b l=v:=by omega
 rw[←eY hb h1 h3];exact⟨h1,h3⟩
theorem vG {b:Int}(hb:2≤b):enc b 0=[]:=(eY hb (zP.nil b) rfl).symm
theorem qW {b:Int}(hb:2≤b){v:Int}(hv:0≤v):enc b v=[]↔v=0:=by
 obtain⟨h1,h2⟩:=oB hb hv;rw[←h1.pos (by omega),h2]
def bD (v:Int):Int:=if v≤0 then 0 else(Nat.log2 v.toNat:Int)+1
theorem kD (k:Nat):(2:Int)^k=((2^k:Nat):Int):=by simp
theorem qF {v:Int}(h:0≤v)(k:Nat):bD v≤k↔v<2^k:=by
 unfold bD;have hp:(0:Int)<2^k:=hL (by decide);split
 ·have:v=0:=by omega
  subst this;constructor<;>intro<;>omega
 ·have:=Nat.log2_lt (n:=v.toNat) (k:=k) (by omega);rw[kD];constructor
  ·intro h1;have:=this.mp (by omega);omega
  ·intro h1;have:=this.mpr (by omega);omega
theorem gC (v:Int):0≤bD v:=by unfold bD;split<;>omega
theorem ky {v r:Int}(h:0≤v)(h0:0≤r)(hr:∀k:Nat,r≤k↔v<2^k):r=bD v:=by
 have h1:=(qF h r.toNat).mpr ((hr r.toNat).mp (by omega));have h2:=(hr (bD v).toNat).mpr ((qF h (bD v).toNat).mp (by have:=gC v;omega));have:=gC v;omega
theorem nI {v:Int}(k:Nat)(h:2^k≤v):bD v=k+bD (v/2^k):=by
 have hp:(0:Int)<2^k:=hL (by decide);have hq:0≤v/2^k:=hM (by omega) (by omega);refine(ky (by omega) (by have:=gC (v/2^k);omega) fun j=>?_).symm;by_cases hj:k≤j
 ·have e:(2:Int)^j=2^(j-k)*2^k:=by rw[←hS];congr 1;omega
  have h1:=qF hq (j-k);have h2:v/2^k<2^(j-k)↔v<2^(j-k)*2^k:=s4 hp;rw[e,←h2,←h1];constructor<;>intro<;>omega
 ·have h1:=gC (v/2^k);have e:(2:Int)^j≤2^k:=by
   have:=iX (show 0<2 by decide) (show j≤k by omega);rw[kD,kD];omega
  constructor
  ·intro;omega
  ·intro;omega
theorem En:∀i:Nat,i<256→iG kI i=bD i:=by decide+kernel
theorem B9:kI.size=256:=by decide+kernel
theorem mI {v:Int}(h:0≤v)(k:Nat)(hk:v<2^k):bD v≤k:=(qF h k).mpr hk
theorem qS {x o:Int}(h0:0≤x)(h1:x<256)(o0:0≤o)(o1:o≤56):(bif (decide (0≤(cN x)))&&(decide ((cN x)<(kI.size:Int)))then some (aA (o+(aA (iG kI ((cN x).toNat)))))else none)=some (o+bD x):=by
 have t:=En x.toNat (by omega);have e:((x.toNat:Nat):Int)=x:=by omega
 rw[e]at t;have hb:=mI h0 8 (by omega);have hn:=gC x;rw[Ik h0 h1,B9];have c:(decide (0≤x)&&decide (x<((256:Nat):Int)))=true:=by simp;omega
 rw[c,t,fA (n:=bD x) (by omega) (by omega),fA (by omega) (by omega)];rfl
theorem lV (N:Nat){x:Int}(h0:0≤x)(h1:x<4294967296):Q0.f N x=some (bD x):=by
 unfold Q0.f;simp only[rC];have e16:(2:Int)^16=65536:=by decide
 have e8:(2:Int)^8=256:=by decide
 simp only[e16,e8];by_cases c1:x≥65536
 ·simp only[c1,decide_true,cond_true];have b1:=nI (v:=x) 16 (by omega);rw[e16]at b1;by_cases c2:x/65536≥256
  ·simp only[c2,decide_true,cond_true];have b2:=nI (v:=x/65536) 8 (by omega);rw[e8]at b2;rw[qS (by omega) (by omega) (by omega) (by omega),b1,b2];congr 1;omega
  ·simp only[c2,decide_false,cond_false];rw[qS (by omega) (by omega) (by omega) (by omega),b1];rfl
 ·simp only[c1,decide_false,cond_false];by_cases c2:x≥256
  ·simp only[c2,decide_true,cond_true];have b2:=nI (v:=x) 8 (by omega);rw[e8]at b2;rw[qS (by omega) (by omega) (by omega) (by omega),b2];rfl
  ·simp only[c2,decide_false,cond_false];rw[qS (by omega) (by omega) (by omega) (by omega)];simp
theorem B2:(2:Int)≤(4294967296:Int):=by decide
theorem ff (k:Nat):(4294967296:Int)^k=2^(32*k):=by rw[Int.pow_mul];rfl
theorem C5 {l:List Int}(h:zP (4294967296:Int) l)(hne:l≠ []):bD (nv (4294967296:Int) l)=32*((l.length:Int)-1)+bD (l.getD (l.length-1) 0):=by
 have hl:0<l.length:=dQ.mpr hne;have h1:=fD (4294967296:Int) l (l.length-1) (by omega);have e:l.length-1+1=l.length:=by omega
 rw[e,hV]at h1;have h2:=kB (show 0<(4294967296:Int) by decide) (h.dig.take (l.length-1));have e3:(l.take (l.length-1)).length=l.length-1:=by rw[zE];omega
 rw[e3]at h2;have h4:=h.lower (by decide) hne;have hp:(0:Int)<(4294967296:Int)^(l.length-1):=hL (by decide);have hq:nv (4294967296:Int) l/(4294967296:Int)^(l.length-1)=l.getD (l.length-1) 0:=by rw[h1,u5 _ _ (by omega),u7 h2.1 h2.2];simp
 rw[nI (32*(l.length-1)) (by rw[←ff];exact h4),←ff,hq];omega
theorem aH (N:Nat){l:List Int}(h:zP (4294967296:Int) l)(hlen:l.length≤100000000):Q3.f N l=some (bD (nv (4294967296:Int) l)):=by
 unfold Q3.f;by_cases hne:l=[]
 ·subst hne;rfl
 ·have hl:0<l.length:=dQ.mpr hne;have c0:((l.length:Int)==0)=false:=by simp;omega
  have e1:aA ((l.length:Int)-1)=(l.length:Int)-1:=fA (by omega) (by omega);have e2:((l.length:Int)-1).toNat=l.length-1:=by omega
  have hd:=h.dig.get (by decide) (l.length-1);have hb:=mI hd.1 32 hd.2;have hn:=gC (l.getD (l.length-1) 0);rw[c0,e1,e2,lV N hd.1 hd.2];have c1:(decide (0≤(l.length:Int)-1)&&decide ((l.length:Int)-1<(l.length:Int)))=true:=by simp;omega
  rw[c1,C5 h hne];simp only[cond_true,cond_false,hA];rw[fA (n:=32*((l.length:Int)-1)) (by omega) (by omega),fA (by omega) (by omega)]
def K:Int:=2^4096
theorem pY (N:Nat){l:List Int}(h:zP (4294967296:Int) l)(hlen:l.length≤100000000):Q4.f N l=some (if nv (4294967296:Int) l<K then(l,0)else([],3)):=by
 unfold Q4.f;rw[aH N h hlen];simp only[hA];have:=qF (kB (show 0<(4294967296:Int) by decide) h.dig).1 4096;by_cases hk:nv (4294967296:Int) l<K
 ·have h1:=this.mpr hk;have c:decide (bD (nv (4294967296:Int) l)>4096)=false:=by simp;omega
  rw[c,if_pos hk];rfl
 ·have h1:¬bD (nv (4294967296:Int) l)≤(4096:Nat):=fun h=>hk (this.mp h);have c:decide (bD (nv (4294967296:Int) l)>4096)=true:=by simp;omega
  rw[c,if_neg hk];rfl
theorem aY (N:Nat){R:Type}(l:List Int)(m:Nat)(hm:m≤l.length)(hm2:m≤1000000000)(k:Nat→Nat→Int→List Int→Option R):∀(n i:Nat),i≤m→i<n→Q2.l2 N n 0 m (i:Int) l k=k 0 m (pI l i:Nat) l:=by
 intro n;induction n with
 |zero=>intro i _ h;omega
 |succ n ih=>
  intro i hi hn;rw[Q2.l2];cases i with
  |zero=>rfl
  |succ i=>
   have e1:aA (((i+1:Nat):Int)-1)=(i:Int):=by rw[fA (by omega) (by omega)];omega
   have c0:decide (((i+1:Nat):Int)>0)=true:=decide_eq_true (by omega);have c1:(decide (0≤(i:Int))&&decide ((i:Int)<(m:Int)))=true:=by simp;omega
   rw[e1,c1,c0];simp only[cond_true];have e2:0+(i:Int).toNat=i:=by omega
   rw[e2];unfold pI;by_cases hz:l.getD i 0=0
   ·rw[if_pos hz];have:(l.getD i 0==0)=true:=by simpa using hz
    rw[this];exact ih i (by omega) (by omega)
   ·rw[if_neg hz];have:(l.getD i 0==0)=false:=by simpa using hz
    rw[this];rfl
theorem zi {N:Nat}(hN:1000000001<N)(l:List Int)(m:Nat)(hm:m≤l.length)(hm2:m≤1000000000):Q2.f N 0 m l=some (0,pI l m,l):=by
 unfold Q2.f;rw[aY N l m hm hm2 _ N m (hK _) (by omega)];have:=pW l m;have c:((decide (0≤((pI l m:Nat):Int))&&decide (((pI l m:Nat):Int)≤((pI l m:Nat):Int)))&&decide (((pI l m:Nat):Int)≤(m:Int)))=true:=by simp;omega
 rw[c];simp
theorem nN {N:Nat}(hN:1000000001<N)(l:List Int)(hl:l.length≤1000000000):Q2.f N 0 l.length l=some (0,pI l l.length,l)∧(l.drop 0).take (pI l l.length)=dC l:=
 ⟨zi hN l _ (hK _) hl,by simp[dC]⟩
theorem fK {l:List Int}(h:qC (4294967296:Int) l):dC l=enc (4294967296:Int) (nv (4294967296:Int) l):=eY B2 (zX h) (fx (4294967296:Int) l)
theorem wi {v:Int}(h:0≤v){k:Nat}(hk:v<(4294967296:Int)^k):(enc (4294967296:Int) v).length≤k:=by
 obtain⟨h1,h2⟩:=oB B2 h;by_cases hne:enc (4294967296:Int) v=[]
 ·rw[hne];simp
 ·have h3:=h1.lower (by decide) hne;rw[h2]at h3;rcases j3 k (enc (4294967296:Int) v).length with h|h
  ·exfalso;have:(4294967296:Int)^k≤(4294967296:Int)^((enc (4294967296:Int) v).length-1):=by
    rw[ff,ff,kD,kD];have:=iX (show 0<2 by decide) (show 32*k≤32*((enc (4294967296:Int) v).length-1) by omega);omega
   omega
  ·exact h
theorem Io:K=(4294967296:Int)^128:=by unfold K;rw[ff]
theorem gE {v:Int}(h:0≤v)(hk:v<K):(enc (4294967296:Int) v).length≤128:=wi h (by rw[←Io];exact hk)
theorem zS {N:Nat}(hN:1000000001<N){n:Int}(h0:0≤n)(h1:n<18446744073709551616):Q5.f N n=some (enc (4294967296:Int) n):=by
 unfold Q5.f;have e32:(2:Int)^32=4294967296:=by decide
 rw[rC,e32,sE,sE];have hd:qC (4294967296:Int) [n%4294967296,n/4294967296%4294967296]:=qC.cons (by omega) (by omega) (qC.cons (by omega) (by omega) (qC.nil (4294967296:Int)));obtain⟨c1,c2⟩:=nN hN [n%4294967296,n/4294967296%4294967296] (by simp);have hv:nv (4294967296:Int) [n%4294967296,n/4294967296%4294967296]=n:=by simp only[nv];omega
 have:=fK hd;rw[hv]at this;rw[←this,←c2];have hl:[n%4294967296,n/4294967296%4294967296].length=2:=rfl;rw[hl]at c1⊢;rw[c1];rfl
theorem C8 (N:Nat){R:Type}(a c:List Int)(hl:a.length=c.length)(ha:qC (4294967296:Int) a)(hc:qC (4294967296:Int) c)(hs:a.length≤1000000000)(K0:Unit→Option R)(Kr:Int→Option R):∀(n i:Nat),i≤a.length→i<n→
  Q7.l6 N n ((i:Int)-1) a c K0 Kr=if nv (4294967296:Int) (a.take i)=nv (4294967296:Int) (c.take i)then K0 ()else Kr (if nv (4294967296:Int) (a.take i)<nv (4294967296:Int) (c.take i)then-1 else 1):=by
 intro n;induction n with
 |zero=>intro i _ h;omega
 |succ n ih=>
  intro i hi hn;rw[Q7.l6];cases i with
  |zero=>rfl
  |succ i=>
   have e0:((i+1:Nat):Int)-1=(i:Int):=by omega
   have e1:aA ((i:Int)-1)=(i:Int)-1:=fA (by omega) (by omega);rw[e0,e1];have c0:decide ((i:Int)≥0)=true:=decide_eq_true (by omega);have c1:(decide (0≤(i:Int))&&decide ((i:Int)<(a.length:Int)))=true:=by simp;omega
   have c2:(decide (0≤(i:Int))&&decide ((i:Int)<(c.length:Int)))=true:=by simp;omega
   have e2:(i:Int).toNat=i:=by omega
   rw[c1,c2,c0,e2];simp only[cond_true];have ta:=fD (4294967296:Int) a i (by omega);have tc:=fD (4294967296:Int) c i (by omega);have ba:=kB (show 0<(4294967296:Int) by decide) (ha.take i);have bc:=kB (show 0<(4294967296:Int) by decide) (hc.take i);have la:(a.take i).length=i:=by rw[zE];omega
   have lc:(c.take i).length=i:=by rw[zE];omega
   rw[la]at ba;rw[lc]at bc;have hp:(0:Int)<(4294967296:Int)^i:=hL (by decide);by_cases h1:a.getD i 0<c.getD i 0
   ·simp only[h1,decide_true,cond_true];have:=iA (show a.getD i 0+1≤c.getD i 0 by omega) (zA hp);have e:(4294967296:Int)^i*(a.getD i 0+1)=(4294967296:Int)^i*a.getD i 0+(4294967296:Int)^i:=by grind
    rw[if_neg (by omega),if_pos (by omega)]
   ·simp only[h1,decide_false,cond_false];by_cases h2:a.getD i 0>c.getD i 0
    ·simp only[h2,decide_true,cond_true];have:=iA (show c.getD i 0+1≤a.getD i 0 by omega) (zA hp);have e:(4294967296:Int)^i*(c.getD i 0+1)=(4294967296:Int)^i*c.getD i 0+(4294967296:Int)^i:=by grind
     rw[if_neg (by omega),if_neg (by omega)]
    ·simp only[h2,decide_false,cond_false];have heq:a.getD i 0=c.getD i 0:=by omega
     rw[ih i (by omega) (by omega),ta,tc,heq];generalize(4294967296:Int)^i*c.getD i 0=p;generalize nv (4294967296:Int) (a.take i)=x;generalize nv (4294967296:Int) (c.take i)=y;by_cases h3:x=y
     ·rw[if_pos h3,if_pos (by rw[h3])]
     ·have n1:¬(x+p=y+p):=by omega
      rw[if_neg h3,if_neg n1];by_cases h4:x<y
      ·have n2:x+p<y+p:=by omega
       rw[if_pos h4,if_pos n2]
      ·have n2:¬x+p<y+p:=by omega
       rw[if_neg h4,if_neg n2]
def bS (u v:Int):Int:=if u=v then 0 else if u<v then-1 else 1
theorem dL {a c:List Int}(ha:zP (4294967296:Int) a)(hc:zP (4294967296:Int) c)(h:a.length<c.length):nv (4294967296:Int) a<nv (4294967296:Int) c:=by
 have hne:c≠ []:=by intro e;subst e;simp at h
 have h1:=hc.lower (by decide) hne;have h2:=(kB (show 0<(4294967296:Int) by decide) ha.dig).2;have:(4294967296:Int)^a.length≤(4294967296:Int)^(c.length-1):=by rw[ff,ff,kD,kD];have:=iX (show 0<2 by decide) (show 32*a.length≤32*(c.length-1) by omega);omega
 omega
theorem yz {N:Nat}(hN:1000000001<N){a c:List Int}(ha:zP (4294967296:Int) a)(hc:zP (4294967296:Int) c)(hs:a.length≤1000000000):Q7.f N a c=some (bS (nv (4294967296:Int) a) (nv (4294967296:Int) c)):=by
 unfold Q7.f bS;by_cases hl:a.length=c.length
 ·have c0:((a.length:Int) != (c.length:Int))=false:=by simp;omega
  have e1:aA ((a.length:Int)-1)=(a.length:Int)-1:=fA (by omega) (by omega);rw[c0,e1];simp only[cond_false];rw[C8 N a c hl ha.dig hc.dig hs _ _ N a.length (hK _) (by omega),hV,hl,hV];split
  ·rfl
  ·rfl
 ·have c0:((a.length:Int) != (c.length:Int))=true:=by simp;omega
  rw[c0];simp only[cond_true];rcases Nat.lt_or_gt_of_ne hl with h|h
  ·have:=dL ha hc h;have c1:decide ((a.length:Int)<(c.length:Int))=true:=decide_eq_true (by omega);rw[c1,if_neg (by omega),if_pos this];rfl
  ·have:=dL hc ha h;have c1:decide ((a.length:Int)<(c.length:Int))=false:=decide_eq_false (by omega);rw[c1,if_neg (by omega),if_neg (by omega)];rfl
theorem fv {N:Nat}(hN:1000000001<N){u v:Int}(hu:0≤u)(hk:u<K)(hv:0≤v):Q7.f N (enc (4294967296:Int) u) (enc (4294967296:Int) v)=some (bS u v):=by
 obtain⟨h1,h2⟩:=oB B2 hu;obtain⟨h3,h4⟩:=oB B2 hv;rw[yz hN h1 h3 (by have:=gE hu hk;omega),h2,h4]
theorem uR (s:Int):s%(4294967296:Int)+(4294967296:Int)*(s/(4294967296:Int))=s:=by
 have:=pC s (4294967296:Int);omega
theorem qX (N:Nat){R:Type}(b:List Int)(hb:qC (4294967296:Int) b)(K0:List Int→Option R):∀(n i:Nat) (c:Int) (out:List Int),qC (4294967296:Int) out→b.length<out.length→out.length≤1000000000→i≤out.length→out.length-i<n→0≤c→c≤1→
  nv (4294967296:Int) out+(4294967296:Int)^i*c+(4294967296:Int)^i*nv (4294967296:Int) (b.drop i)<(4294967296:Int)^out.length→
  ∃r,qC (4294967296:Int) r∧r.length=out.length∧nv (4294967296:Int) r=nv (4294967296:Int) out+(4294967296:Int)^i*c+(4294967296:Int)^i*nv (4294967296:Int) (b.drop i)∧Q8.l7 N n c (out.length:Int) (i:Int) b out K0=K0 r:=by
 intro n;induction n with
 |zero=>intro i c out _ _ _ _ h;omega
 |succ n ih=>
  intro i c out ho hlb hlo hi hn c0 c1 hlt;rw[Q8.l7];by_cases hil:i<out.length
  ·have e0:decide ((i:Int)<(out.length:Int))=true:=decide_eq_true (by omega);have e1:(decide (0≤(i:Int))&&decide ((i:Int)<(out.length:Int)))=true:=by simp;omega
   have e2:(i:Int).toNat=i:=by omega
   have e3:aA ((i:Int)+1)=((i+1:Nat):Int):=by rw[fA (by omega) (by omega)];omega
   have hd:=ho.get (by decide) i;have p32:(2:Int)^32=(4294967296:Int):=by decide
   have hp:(0:Int)<(4294967296:Int)^i:=hL (by decide);have go:∀s y:Int,s=c+out.getD i 0+y→0≤y→y<(4294967296:Int)→nv (4294967296:Int) (b.drop i)=y+(4294967296:Int)*nv (4294967296:Int) (b.drop (i+1))→(out.set i (s%(4294967296:Int))).length=out.length∧qC (4294967296:Int) (out.set i (s%(4294967296:Int)))∧0≤s/(4294967296:Int)∧s/(4294967296:Int)≤1∧
     nv (4294967296:Int) (out.set i (s%(4294967296:Int)))+(4294967296:Int)^(i+1)*(s/(4294967296:Int))+(4294967296:Int)^(i+1)*nv (4294967296:Int) (b.drop (i+1))=nv (4294967296:Int) out+(4294967296:Int)^i*c+(4294967296:Int)^i*nv (4294967296:Int) (b.drop i):=by
    intro s y hs y0 y1 hdr;refine⟨by simp,ho.set i (by omega) (by omega),by omega,by omega,?_⟩;rw[pK (4294967296:Int) _ out i hil,hdr,aE];have:=uR s;generalize s%(4294967296:Int)=m at*;generalize s/(4294967296:Int)=q at*;have e:m=s- (4294967296:Int)*q:=by omega
    subst e;subst hs;grind
   rw[e1,e0,e2,e3];simp only[cond_true];by_cases hib:i<b.length
   ·have f0:decide ((i:Int)<(b.length:Int))=true:=decide_eq_true (by omega);have f1:(decide (0≤(i:Int))&&decide ((i:Int)<(b.length:Int)))=true:=by simp;omega
    have hbd:=hb.get (by decide) i;rw[f1,f0];simp only[cond_true];obtain⟨g1,g2,g3,g4,g5⟩:=go (c+out.getD i 0+b.getD i 0) (b.getD i 0) rfl hbd.1 hbd.2 (tF (4294967296:Int) b i hib);rw[xA (n:=out.getD i 0) (by omega) (by omega),xA (n:=c+out.getD i 0) (by omega) (by omega),xA (n:=b.getD i 0) (by omega) (by omega),xA (n:=c+out.getD i 0+b.getD i 0) (by omega) (by omega),rC,p32,sE];obtain⟨r,r1,r2,r3,r4⟩:=ih (i+1) _ _ g2 (by omega) (by omega) (by omega) (by omega) g3 g4 (by rw[g5,g1];exact hlt);refine⟨r,r1,by omega,by rw[r3,g5],?_⟩;rw[g1]at r4;exact r4
   ·have f0:decide ((i:Int)<(b.length:Int))=false:=decide_eq_false (by omega);rw[f0];simp only[cond_false];have hz:b.drop i=[]:=hC.mpr (by omega);have hz2:b.drop (i+1)=[]:=hC.mpr (by omega);obtain⟨g1,g2,g3,g4,g5⟩:=go (c+out.getD i 0) 0 (by omega) (by omega) (by decide) (by rw[hz,hz2];simp[nv]);rw[xA (n:=out.getD i 0) (by omega) (by omega),xA (n:=c+out.getD i 0) (by omega) (by omega),rC,p32,sE];obtain⟨r,r1,r2,r3,r4⟩:=ih (i+1) _ _ g2 (by omega) (by omega) (by omega) (by omega) g3 g4 (by rw[g5,g1];exact hlt);refine⟨r,r1,by omega,by rw[r3,g5],?_⟩;rw[g1]at r4;exact r4
  ·have e0:decide ((i:Int)<(out.length:Int))=false:=decide_eq_false (by omega);have hie:i=out.length:=by omega
   have hz:b.drop i=[]:=hC.mpr (by omega);rw[e0];refine⟨out,ho,rfl,?_,rfl⟩;rw[hz,hie]at hlt⊢;have:=(kB (show 0<(4294967296:Int) by decide) ho).1;have hc:c=0:=by
    rcases zB 0 c with h|h
    ·have:c=1:=by omega
     subst this;simp only[nv]at hlt;omega
    ·omega
   subst hc;simp[nv]
theorem q8 (a:List Int)(m:Nat)(h:a.length≤m):vF (List.replicate m (0:Int)) 0 (a.take (min a.length (List.replicate m (0:Int)).length))=a++List.replicate (m-a.length) 0:=by
 unfold vF;have e:min a.length (List.replicate m (0:Int)).length=a.length:=by simp;omega
 rw[e,hV];simp
theorem I7 (b:Int)(a:List Int)(k:Nat):nv b (a++List.replicate k 0)=nv b a:=by rw[uM,uF];simp
theorem ny {i j:Nat}(h:i≤j):(4294967296:Int)^i≤(4294967296:Int)^j:=by
 rw[ff,ff,kD,kD];have:=iX (show 0<2 by decide) (show 32*i≤32*j by omega);omega
noncomputable def out (v:Int):List Int×Int:=if v<K then(enc (4294967296:Int) v,0)else([],3)
theorem Ck {N:Nat}(hN:1000000001<N){l:List Int}(h:qC (4294967296:Int) l)(hl:l.length≤100000000):((Q2.f N 0 l.length l).bind fun r=>(Q4.f N ((r.2.2.drop r.1).take r.2.1)).bind fun r2=>some (r2.1,r2.2))=some (out (nv (4294967296:Int) l)):=by
 obtain⟨c1,c2⟩:=nN hN l (by omega);rw[c1];simp only[hA,c2];have hc:=zX h;have:=ly l;rw[pY N hc (by omega),fx,fK h];unfold out;split<;>rfl
theorem sK {n:Nat}(h:n≤1000000000):jB n 4=true:=by unfold jB;exact decide_eq_true (by omega)
theorem uS {m:Int}(h0:0≤m)(h1:m≤1000000000):(decide (m=m)&&decide (0≤m)&&decide (m≤9223372036854775807)&&jB m.toNat 4)=true:=by
 rw[sK (by omega)];simp;omega
theorem nh {m:Int}(h0:0≤m)(h1:m≤1000000000):(decide True&&decide (0≤m)&&decide (m≤9223372036854775807)&&jB m.toNat 4)=true:=by
 rw[sK (by omega)];simp;omega
theorem kq {N:Nat}(hN:1000000001<N){a b:List Int}(ha:qC (4294967296:Int) a)(hb:qC (4294967296:Int) b)(h:b.length≤a.length)(hs:a.length≤90000000):
  (bif decide (aA ((a.length:Int)+1)=aA ((a.length:Int)+1))&&decide (0≤aA ((a.length:Int)+1))&&decide (aA ((a.length:Int)+1)≤9223372036854775807)&&jB ((aA ((a.length:Int)+1)).toNat) 4 then
  Q8.l7 N N 0 ((vF (List.replicate ((aA ((a.length:Int)+1)).toNat) (0:Int)) 0 (a.take (min a.length ((List.replicate ((aA ((a.length:Int)+1)).toNat) (0:Int)).length)))).length:Int) 0 b (vF (List.replicate ((aA ((a.length:Int)+1)).toNat) (0:Int)) 0 (a.take (min a.length ((List.replicate ((aA ((a.length:Int)+1)).toNat) (0:Int)).length))))
   (fun y12=>
    (Q2.f N 0 y12.length y12).bind fun r13=>
    (Q4.f N ((r13.2.2.drop r13.1).take r13.2.1)).bind fun r14=>
    some (r14.1,r14.2))
 else none)=some (out (nv (4294967296:Int) a+nv (4294967296:Int) b)):=by
 have w:aA ((a.length:Int)+1)=(a.length:Int)+1:=fA (by omega) (by omega);have wt:((a.length:Int)+1).toNat=a.length+1:=by omega
 rw[w,uS (by omega) (by omega),wt,q8 a _ (by omega)];simp only[cond_true];have e1:a.length+1-a.length=1:=by omega
 rw[e1];have hd:qC (4294967296:Int) (a++List.replicate 1 0):=ha.append (qC.replicate (by decide) 1);have hl:(a++List.replicate 1 (0:Int)).length=a.length+1:=by simp
 have hv:=I7 (4294967296:Int) a 1;have ba:=kB (show 0<(4294967296:Int) by decide) ha;have bb:=kB (show 0<(4294967296:Int) by decide) hb;have hm:=ny h;have hpow:(4294967296:Int)^(a.length+1)=(4294967296:Int)*(4294967296:Int)^a.length:=by rw[aE];grind
 have hpos:(0:Int)<(4294967296:Int)^a.length:=hL (by decide);obtain⟨r,r1,r2,r3,r4⟩:=qX N b hb (fun y12=>(Q2.f N 0 y12.length y12).bind fun r13=>(Q4.f N ((r13.2.2.drop r13.1).take r13.2.1)).bind fun r14=>some (r14.1,r14.2)) N 0 0 (a++List.replicate 1 0) hd (by omega) (by omega) (by omega) (by omega) (by omega) (by omega) (by rw[hl,hpow,hv];simp;omega);have e0:((0:Nat):Int)=0:=rfl;rw[e0]at r4;rw[r4,Ck hN r1 (by omega),r3,hv];simp
theorem yu {N:Nat}(hN:1000000001<N){a b:List Int}(ha:qC (4294967296:Int) a)(hb:qC (4294967296:Int) b)(hs:a.length≤90000000)(hs':b.length≤90000000):Q8.f N a b=some (out (nv (4294967296:Int) a+nv (4294967296:Int) b)):=by
 unfold Q8.f;by_cases h:a.length<b.length
 ·have c:decide ((a.length:Int)<(b.length:Int))=true:=decide_eq_true (by omega);rw[c];have:=kq hN hb ha (by omega) hs';rw[Int.add_comm (nv (4294967296:Int) a)];exact this
 ·have c:decide ((a.length:Int)<(b.length:Int))=false:=decide_eq_false (by omega);rw[c];exact kq hN ha hb (by omega) hs
theorem F3 {N:Nat}(hN:1000000001<N){u v:Int}(hu:0≤u)(hk:u<K)(hv:0≤v)(hk':v<K):Q8.f N (enc (4294967296:Int) u) (enc (4294967296:Int) v)=some (out (u+v)):=by
 obtain⟨h1,h2⟩:=oB B2 hu;obtain⟨h3,h4⟩:=oB B2 hv;have:=gE hu hk;have:=gE hv hk';rw[yu hN h1.dig h3.dig (by omega) (by omega),h2,h4]
theorem jU {x:Int}(h0:0≤x)(h1:x<4294967296):(BitVec.ofInt 32 x).msb=decide (2147483648≤x):=by
 rw[bn];have:(BitVec.ofInt 32 x).toNat=x.toNat:=by
  rw[c9];have:x%((2^32:Nat):Int)=x:=by omega
  rw[this]
 rw[this];have e:2^(32-1)=2147483648:=by decide
 rw[e];by_cases h:2147483648≤x
 ·simp[h];omega
 ·simp[h];omega
theorem mT (x:BitVec 32):IntKind.wrap .u32 x.toNat=(x.toNat:Int):=by
 have hx:=x.isLt;simp only[IntKind.wrap];simp[IntKind.bits,IntKind.signed];omega
theorem yS (x:BitVec 32):BitVec.ofInt 32 (IntKind.wrap .u32 x.toNat)=x:=by
 have hx:=x.isLt;rw[mT];apply BitVec.eq_of_toNat_eq;rw[c9];omega
theorem pV (a b:Int):BitVec.ofInt 32 (mC .u32 a b)=BitVec.ofInt 32 a&&& BitVec.ofInt 32 b:=yS (BitVec.ofInt 32 a&&& BitVec.ofInt 32 b)
theorem mP (a b:Int):BitVec.ofInt 32 (nW .u32 a b)=BitVec.ofInt 32 a^^^BitVec.ofInt 32 b:=yS (BitVec.ofInt 32 a^^^BitVec.ofInt 32 b)
theorem Gc (x:BitVec 32):Int.fdiv (IntKind.wrap .u32 x.toNat) (2^31)=if x.msb then 1 else 0:=by
 rw[mT,rC,bn];have hx:=x.isLt;have e:(2:Int)^31=2147483648:=by decide
 have e2:2^(32-1)=2147483648:=by decide
 rw[e,e2];by_cases h:2147483648≤x.toNat
 ·simp[h];omega
 ·simp[h];omega
theorem pL (N:Nat){a b c:Int}(a0:0≤a)(a1:a<(4294967296:Int))(b0:0≤b)(b1:b<(4294967296:Int))(c0:0≤c)(c1:c≤1):Q1.f N a b c=some ((a-b-c)%(4294967296:Int),if a<b+c then 1 else 0):=by
 unfold Q1.f;have hd:rB (rB (a-b)-c)=(a-b-c)%(4294967296:Int):=by rw[sE,sE];omega
 rw[hd];have d0:0≤(a-b-c)%(4294967296:Int):=by omega
 have d1:(a-b-c)%(4294967296:Int)<(4294967296:Int):=by omega
 generalize hdd:(a-b-c)%(4294967296:Int)=d at*;congr 2;have hfull:BitVec.ofInt 32 4294967295=BitVec.allOnes 32:=by decide
 have e:∀x y:Int,fE .u32 x y=IntKind.wrap .u32 ((BitVec.ofInt 32 x|||BitVec.ofInt 32 y).toNat:Int):=fun _ _=>rfl;rw[e,Gc,pV,pV,mP,mP,mP,hfull];simp only[BitVec.msb_or,BitVec.msb_and,BitVec.msb_xor,jU a0 a1,jU b0 b1,jU d0 d1];have hones:(BitVec.allOnes 32).msb=true:=by decide
 rw[hones];by_cases ha:2147483648≤a<;>by_cases hb:2147483648≤b<;>by_cases hd:2147483648≤d<;>simp[ha,hb,hd]<;>omega
theorem Ae (N:Nat){R:Type}(b:List Int)(hb:qC (4294967296:Int) b)(K0:List Int→Option R):∀(n i:Nat) (c:Int) (out:List Int),qC (4294967296:Int) out→b.length≤out.length→out.length≤1000000000→i≤out.length→out.length-i<n→0≤c→c≤1→
  0≤nv (4294967296:Int) out- (4294967296:Int)^i*c- (4294967296:Int)^i*nv (4294967296:Int) (b.drop i)→
  ∃r,qC (4294967296:Int) r∧r.length=out.length∧nv (4294967296:Int) r=nv (4294967296:Int) out- (4294967296:Int)^i*c- (4294967296:Int)^i*nv (4294967296:Int) (b.drop i)∧Q9.l2 N n 0 out.length b c (out.length:Int) (i:Int) out K0=K0 r:=by
 intro n;induction n with
 |zero=>intro i c out _ _ _ _ h;omega
 |succ n ih=>
  intro i c out ho hlb hlo hi hn c0 c1 hlt;rw[Q9.l2];by_cases hil:i<out.length
  ·have e0:decide ((i:Int)<(out.length:Int))=true:=decide_eq_true (by omega);have e1:(decide (0≤(i:Int))&&decide ((i:Int)<(out.length:Int)))=true:=by simp;omega
   have e2:(i:Int).toNat=i:=by omega
   have e3:aA ((i:Int)+1)=((i+1:Nat):Int):=by rw[fA (by omega) (by omega)];omega
   have hd:=ho.get (by decide) i;have go:∀y:Int,0≤y→y<(4294967296:Int)→nv (4294967296:Int) (b.drop i)=y+(4294967296:Int)*nv (4294967296:Int) (b.drop (i+1))→(out.set i ((out.getD i 0-y-c)%(4294967296:Int))).length=out.length∧qC (4294967296:Int) (out.set i ((out.getD i 0-y-c)%(4294967296:Int)))∧
     nv (4294967296:Int) (out.set i ((out.getD i 0-y-c)%(4294967296:Int)))- (4294967296:Int)^(i+1)*(if out.getD i 0<y+c then 1 else 0)- (4294967296:Int)^(i+1)*nv (4294967296:Int) (b.drop (i+1))=nv (4294967296:Int) out- (4294967296:Int)^i*c- (4294967296:Int)^i*nv (4294967296:Int) (b.drop i):=by
    intro y y0 y1 hdr;refine⟨by simp,ho.set i (by omega) (by omega),?_⟩;rw[pK (4294967296:Int) _ out i hil,hdr,aE];have:(out.getD i 0-y-c)%(4294967296:Int)=out.getD i 0-y-c+(4294967296:Int)*(if out.getD i 0<y+c then 1 else 0):=by split<;>omega
    rw[this];generalize(if out.getD i 0<y+c then(1:Int)else 0)=q;grind
   rw[e1,e0,e2,e3];simp only[cond_true,Nat.zero_add];have hq:∀y:Int,(0:Int)≤(if out.getD i 0<y+c then 1 else 0)∧(if out.getD i 0<y+c then 1 else 0:Int)≤1:=fun y=>by split<;>omega
   by_cases hib:i<b.length
   ·have f0:decide ((i:Int)<(b.length:Int))=true:=decide_eq_true (by omega);have f1:(decide (0≤(i:Int))&&decide ((i:Int)<(b.length:Int)))=true:=by simp;omega
    have hbd:=hb.get (by decide) i;rw[f1,f0,pL N hd.1 hd.2 hbd.1 hbd.2 c0 c1];simp only[cond_true,hA];obtain⟨g1,g2,g5⟩:=go (b.getD i 0) hbd.1 hbd.2 (tF (4294967296:Int) b i hib);obtain⟨r,r1,r2,r3,r4⟩:=ih (i+1) _ _ g2 (by omega) (by omega) (by omega) (by omega) (hq _).1 (hq _).2 (by rw[g5];exact hlt);refine⟨r,r1,by omega,by rw[r3,g5],?_⟩;rw[g1]at r4;exact r4
   ·have f0:decide ((i:Int)<(b.length:Int))=false:=decide_eq_false (by omega);rw[f0];simp only[cond_false];have hz:b.drop i=[]:=hC.mpr (by omega);have hz2:b.drop (i+1)=[]:=hC.mpr (by omega);by_cases hc:c=0
    ·subst hc;refine⟨out,ho,rfl,?_,rfl⟩;rw[hz];simp[nv]
    ·have hc1:(c==0)=false:=by simpa using hc
     rw[hc1,pL N hd.1 hd.2 (by omega) (by decide) c0 c1];simp only[cond_false,hA];obtain⟨g1,g2,g5⟩:=go 0 (by omega) (by decide) (by rw[hz,hz2];simp[nv]);obtain⟨r,r1,r2,r3,r4⟩:=ih (i+1) _ _ g2 (by omega) (by omega) (by omega) (by omega) (hq 0).1 (hq 0).2 (by rw[g5];exact hlt);refine⟨r,r1,by omega,by rw[r3,g5],?_⟩;rw[g1]at r4;exact r4
  ·have e0:decide ((i:Int)<(out.length:Int))=false:=decide_eq_false (by omega);have hie:i=out.length:=by omega
   have hz:b.drop i=[]:=hC.mpr (by omega);rw[e0];refine⟨out,ho,rfl,?_,rfl⟩;rw[hz,hie]at hlt⊢;have:=(kB (show 0<(4294967296:Int) by decide) ho).2;have hc:c=0:=by
    rcases zB 0 c with h|h
    ·have:c=1:=by omega
     subst this;simp only[nv]at hlt;omega
    ·omega
   subst hc;simp[nv]
theorem pd (a:List Int):vF (List.replicate ((a.length:Int).toNat) (0:Int)) 0 (a.take (min a.length ((List.replicate ((a.length:Int).toNat) (0:Int)).length)))=a:=by
 have e:(a.length:Int).toNat=a.length:=by omega
 rw[e,q8 a _ (hK _)];simp
theorem jm {N:Nat}(hN:1000000001<N){u v:Int}(hu:0≤u)(hk:u<K)(hv:0≤v):Q10.f N (enc (4294967296:Int) u) (enc (4294967296:Int) v)=some (if u<v then([],10)else(enc (4294967296:Int) (u-v),0)):=by
 obtain⟨h1,h2⟩:=oB B2 hu;obtain⟨h3,h4⟩:=oB B2 hv;have hl:=gE hu hk;unfold Q10.f;rw[fv hN hu hk hv];simp only[hA];have hc:decide (bS u v<0)=decide (u<v):=by
  unfold bS;by_cases h1:u=v
  ·subst h1;simp
  ·by_cases h2:u<v<;>simp[h1,h2]
 rw[hc];by_cases h:u<v
 ·simp only[h,decide_true,if_true,cond_true]
 ·rw[if_neg h,nh (by omega) (by omega),pd];simp only[h,decide_false,cond_true,cond_false];have hle:(enc (4294967296:Int) v).length≤(enc (4294967296:Int) u).length:=by
   rcases j3 (enc (4294967296:Int) u).length (enc (4294967296:Int) v).length with hq|hq
   ·have:=dL h1 h3 hq;omega
   ·exact hq
  obtain⟨r,r1,r2,r3,r4⟩:=Ae N (enc (4294967296:Int) v) h3.dig (fun y=>some y) N 0 0 (enc (4294967296:Int) u) h1.dig hle (by omega) (by omega) (by omega) (by omega) (by omega) (by simp[h2,h4];omega);have e0:((0:Nat):Int)=0:=rfl;rw[e0]at r4;unfold Q9.f;rw[r4];simp only[hA];obtain⟨c1,c2⟩:=nN hN r (by omega);rw[c1];simp only[hA,c2];rw[fK r1,r3,h2,j1,h4];simp
theorem Ai (N:Nat){R:Type}(i:Nat)(x:Int)(x0:0≤x)(x1:x<(4294967296:Int))(p q:Int)(P:List Int)(b:List Int)(hb:qC (4294967296:Int) b)(hbl:b.length≤100000000)(hi:i≤100000000)(K0:Int→Int→List Int→Int→Int→List Int→List Int→Option R):∀(n j:Nat) (c:Int) (out:List Int),qC (4294967296:Int) out→i+b.length<out.length→out.length≤1000000000→j≤b.length→b.length-j<n→0≤c→c<(4294967296:Int)→
  ∃r c',qC (4294967296:Int) r∧0≤c'∧c'<(4294967296:Int)∧r.length=out.length∧nv (4294967296:Int) r+(4294967296:Int)^(i+b.length)*c'=nv (4294967296:Int) out+(4294967296:Int)^(i+j)*c+(4294967296:Int)^(i+j)*x*nv (4294967296:Int) (b.drop j)∧(∀k,i+b.length≤k→r.getD k 0=out.getD k 0)∧
   Q11.l7 N n (i:Int) x c P p q b (b.length:Int) (j:Int) b out K0=K0 (i:Int) c' P p q b r:=by
 intro n;induction n with
 |zero=>intro j c out _ _ _ _ h;omega
 |succ n ih=>
  intro j c out ho hlb hlo hj hn c0 c1;rw[Q11.l7];by_cases hjl:j<b.length
  ·have e0:decide ((j:Int)<(b.length:Int))=true:=decide_eq_true (by omega);have e1:(decide (0≤(j:Int))&&decide ((j:Int)<(b.length:Int)))=true:=by simp;omega
   have e2:(j:Int).toNat=j:=by omega
   have e3:aA ((j:Int)+1)=((j+1:Nat):Int):=by rw[fA (by omega) (by omega)];omega
   have e4:aA ((i:Int)+(j:Int))=((i+j:Nat):Int):=by rw[fA (by omega) (by omega)];omega
   have e5:(((i+j:Nat):Int)).toNat=i+j:=by omega
   have e6:(decide (0≤((i+j:Nat):Int))&&decide (((i+j:Nat):Int)<(out.length:Int)))=true:=by simp;omega
   have hd:=ho.get (by decide) (i+j);have hbd:=hb.get (by decide) j;rw[e1,e0,e2,e3,e4,e5,e6];simp only[cond_true];have m0:=iB x0 hbd.1;have m1:x*b.getD j 0≤((4294967296:Int)-1)*((4294967296:Int)-1):=by have h1:=iA (show b.getD j 0≤(4294967296:Int)-1 by omega) x0;have h2:=hB (show x≤(4294967296:Int)-1 by omega) (show(0:Int)≤(4294967296:Int)-1 by decide);omega
   have m2:((4294967296:Int)-1)*((4294967296:Int)-1)=18446744065119617025:=by decide
   have p32:(2:Int)^32=(4294967296:Int):=by decide
   rw[xA (n:=x) (by omega) (by omega),xA (n:=b.getD j 0) (by omega) (by omega),xA (n:=x*b.getD j 0) (by omega) (by omega),xA (n:=out.getD (i+j) 0) (by omega) (by omega),xA (n:=x*b.getD j 0+out.getD (i+j) 0) (by omega) (by omega),xA (n:=c+(x*b.getD j 0+out.getD (i+j) 0)) (by omega) (by omega),rC,p32,sE];generalize hs:c+(x*b.getD j 0+out.getD (i+j) 0)=s;have hsd:=uR s;obtain⟨r,c',r1,r2,r3,r4,r5,r6,r7⟩:=ih (j+1) (s/(4294967296:Int)) (out.set (i+j) (s%(4294967296:Int))) (ho.set _ (by omega) (by omega)) (by simpa using hlb) (by simpa using hlo) (by omega) (by omega) (by omega) (by omega);refine⟨r,c',r1,r2,r3,by simpa using r4,?_,fun k hk=>?_,r7⟩
   ·rw[r5,pK (4294967296:Int) _ out (i+j) (by omega),tF (4294967296:Int) b j hjl];have e:i+(j+1)=i+j+1:=by omega
    rw[e,aE];generalize s%(4294967296:Int)=m at*;generalize s/(4294967296:Int)=z at*;have em:m=s- (4294967296:Int)*z:=by omega
    subst em;subst hs;grind
   ·rw[r6 k hk];simp only[cD,s5];rw[if_neg (by omega)]
  ·have e0:decide ((j:Int)<(b.length:Int))=false:=decide_eq_false (by omega);have hje:j=b.length:=by omega
   rw[e0];have hz:b.drop j=[]:=hC.mpr (by omega);refine⟨out,c,ho,c0,c1,rfl,?_,fun _ _=>rfl,rfl⟩;rw[hz,hje];simp[nv]
theorem Aj {N:Nat}(hN:1000000001<N){R:Type}(a b:List Int)(ha:qC (4294967296:Int) a)(hb:qC (4294967296:Int) b)(hal:a.length≤10000000)(hbl:b.length≤10000000)(K0:List Int→Option R):∀(n i:Nat) (out:List Int),qC (4294967296:Int) out→out.length=a.length+b.length→i≤a.length→a.length-i<n→(∀k,i+b.length≤k→out.getD k 0=0)→
  ∃r,qC (4294967296:Int) r∧r.length=out.length∧nv (4294967296:Int) r=nv (4294967296:Int) out+(4294967296:Int)^i*nv (4294967296:Int) (a.drop i)*nv (4294967296:Int) b∧Q11.l3 N n a (a.length:Int) (i:Int) b out K0=K0 r:=by
 intro n;induction n with
 |zero=>intro i out _ _ _ h;omega
 |succ n ih=>
  intro i out ho hlo hi hn hz;rw[Q11.l3];by_cases hil:i<a.length
  ·have e0:decide ((i:Int)<(a.length:Int))=true:=decide_eq_true (by omega);have e1:(decide (0≤(i:Int))&&decide ((i:Int)<(a.length:Int)))=true:=by simp;omega
   have e2:(i:Int).toNat=i:=by omega
   have e3:aA ((i:Int)+1)=((i+1:Nat):Int):=by rw[fA (by omega) (by omega)];omega
   have hd:=ha.get (by decide) i;rw[e1,e0,e2];simp only[cond_true];obtain⟨r,c',r1,r2,r3,r4,r5,r6,r7⟩:=Ai N i (a.getD i 0) hd.1 hd.2 (a.length:Int) (i:Int) a b hb (by omega) (by omega) (fun y26 y27 y28 y29 y30 y31 y32=>
      bif (decide (0≤(aA (y26+(y31.length:Int)))))&&(decide ((aA (y26+(y31.length:Int)))<(y32.length:Int)))then
       Q11.l3 N n y28 y29 (aA (y30+1)) y31 (y32.set ((aA (y26+(y31.length:Int))).toNat) (rB y27)) K0
      else none) N 0 0 out ho (by omega) (by omega) (by omega) (by omega) (by omega) (by decide)
   have ez:((0:Nat):Int)=0:=rfl;rw[ez]at r7;rw[r7];have e4:aA ((i:Int)+(b.length:Int))=((i+b.length:Nat):Int):=by rw[fA (by omega) (by omega)];omega
   have e5:(((i+b.length:Nat):Int)).toNat=i+b.length:=by omega
   have e6:(decide (0≤((i+b.length:Nat):Int))&&decide (((i+b.length:Nat):Int)<(r.length:Int)))=true:=by simp;omega
   rw[e4,e5,e6,e3,bE r2 r3];simp only[cond_true];obtain⟨t,t1,t2,t3,t4⟩:=ih (i+1) (r.set (i+b.length) c') (r1.set _ r2 r3) (by simpa using r4.trans hlo) (by omega) (by omega) (fun k hk=>by simp only[cD,s5];rw[if_neg (by omega),←cD,r6 k (by omega)];exact hz k (by omega));refine⟨t,t1,by rw[t2];simpa using r4,?_,t4⟩;rw[t3,pK (4294967296:Int) _ r _ (by omega),r6 _ (hK _),hz _ (hK _),tF (4294967296:Int) a i hil,aE];have:nv (4294967296:Int) r=nv (4294967296:Int) out+(4294967296:Int)^i*a.getD i 0*nv (4294967296:Int) b- (4294967296:Int)^(i+b.length)*c':=by simp only[bx,j1,p0,hQ]at r5;omega
   rw[this];grind
  ·have e0:decide ((i:Int)<(a.length:Int))=false:=decide_eq_false (by omega);rw[e0];have hze:a.drop i=[]:=hC.mpr (by omega);refine⟨out,ho,rfl,?_,rfl⟩;rw[hze];simp[nv]
theorem ai {N:Nat}(hN:1000000001<N){a b:List Int}(ha:qC (4294967296:Int) a)(hb:qC (4294967296:Int) b)(hal:a.length≤10000000)(hbl:b.length≤10000000):Q11.f N a b=some (enc (4294967296:Int) (nv (4294967296:Int) a*nv (4294967296:Int) b)):=by
 unfold Q11.f;have w:aA ((a.length:Int)+(b.length:Int))=(a.length:Int)+(b.length:Int):=fA (by omega) (by omega);have wt:((a.length:Int)+(b.length:Int)).toNat=a.length+b.length:=by omega
 rw[w,uS (by omega) (by omega),wt];simp only[cond_true];have hz:∀k,(List.replicate (a.length+b.length) (0:Int)).getD k 0=0:=fun k=>by rw[cD,h7];split<;>rfl
 obtain⟨r,r1,r2,r3,r4⟩:=Aj hN a b ha hb hal hbl (fun y34=>(Q2.f N 0 y34.length y34).bind fun r35=>some ((r35.2.2.drop r35.1).take r35.2.1)) N 0 (List.replicate (a.length+b.length) 0) (qC.replicate (by decide) _) (by simp) (by omega) (by omega) (fun k _=>hz k);have ez:((0:Nat):Int)=0:=rfl;rw[ez]at r4;rw[r4];have hl:r.length=a.length+b.length:=by simpa using r2
 obtain⟨c1,c2⟩:=nN hN r (by omega);rw[c1];simp only[hA,c2];rw[fK r1,r3,uF];simp
theorem Ft {N:Nat}(hN:1000000001<N){u v:Int}(hu:0≤u)(hk:u<K)(hv:0≤v)(hk':v<K):Q12.f N (enc (4294967296:Int) u) (enc (4294967296:Int) v)=some (out (u*v)):=by
 obtain⟨h1,h2⟩:=oB B2 hu;obtain⟨h3,h4⟩:=oB B2 hv;have l1:=gE hu hk;have l2:=gE hv hk';unfold Q12.f;rw[aH N h1 (by omega),aH N h3 (by omega),h2,h4];simp only[hA];have b1:=gC u;have b2:=gC v;have b3:=mI hu 4096 hk;have b4:=mI hv 4096 hk';rw[fA (n:=bD u+bD v) (by omega) (by omega)];by_cases hb:bD u+bD v>4097
 ·simp only[hb,decide_true,cond_true];have hu1:(2:Int)^((bD u).toNat-1)≤u:=by
   rcases zB u (2^((bD u).toNat-1))with h|h
   ·have:=(qF hu ((bD u).toNat-1)).mpr h;omega
   ·exact h
  have hv1:(2:Int)^((bD v).toNat-1)≤v:=by
   rcases zB v (2^((bD v).toNat-1))with h|h
   ·have:=(qF hv ((bD v).toNat-1)).mpr h;omega
   ·exact h
  have hp1:(0:Int)<2^((bD u).toNat-1):=hL (by decide);have hp2:(0:Int)<2^((bD v).toNat-1):=hL (by decide);have m1:=iA hv1 (zA hp1);have m2:=hB hu1 hv;have m3:K≤2^((bD u).toNat-1)*2^((bD v).toNat-1):=by rw[←hS];unfold K;rw[kD,kD];have:=iX (show 0<2 by decide) (show 4096≤(bD u).toNat-1+((bD v).toNat-1) by omega);omega
  unfold out;rw[if_neg (by omega)]
 ·simp only[hb,decide_false,cond_false];rw[ai hN h1.dig h3.dig (by omega) (by omega),h2,h4];simp only[hA];have hm:=iB hu hv;obtain⟨h5,h6⟩:=oB B2 hm;have hlen:(enc (4294967296:Int) (u*v)).length≤256:=by
   refine wi hm ?_;have m1:=iA (show v≤K by omega) hu;have m2:=Int.mul_lt_mul_of_pos_right hk (show 0<K by unfold K;exact hL (by decide));have e:(4294967296:Int)^256=K*K:=by rw[Io,←hS]
   omega
  rw[pY N h5 (by omega),h6];unfold out;split<;>rfl
theorem xI {x:Int}(h0:0≤x)(h1:x<18446744073709551616):(BitVec.ofInt 64 x).toNat=x.toNat:=by
 rw[c9];have:x%((2^64:Nat):Int)=x:=by omega
 rw[this]
theorem nP {r d:Int}(r0:0≤r)(r1:r<4294967296)(d0:0≤d)(d1:d<4294967296):fE .u64 (r*4294967296) d=r*4294967296+d:=by
 have e:fE .u64 (r*4294967296) d=IntKind.wrap .u64 ((BitVec.ofInt 64 (r*4294967296)|||BitVec.ofInt 64 d).toNat:Int):=rfl;rw[e,BitVec.toNat_or,xI (by omega) (by omega),xI (by omega) (by omega)];have h1:(r*4294967296).toNat=r.toNat<<<32:=by rw[r9];omega
 rw[h1,←h8 (show d.toNat<2^32 by omega),r9];have:IntKind.wrap .u64 ((r.toNat*2^32+d.toNat:Nat):Int)=((r.toNat*2^32+d.toNat:Nat):Int):=by show jA _=_;exact xA (by omega) (by omega)
 rw[this];omega
theorem vf (N:Nat){R:Type}(by_:Int)(b0:0<by_)(b1:by_<4294967296)(m:Nat)(hm:m≤1000000000)(K0:Int→List Int→Option R):∀(n j:Nat) (r:Int) (l:List Int),qC (4294967296:Int) l→m≤l.length→j≤m→j<n→0≤r→r<by_→
  ∃r' l',qC (4294967296:Int) l'∧l'.length=l.length∧0≤r'∧r'<by_∧
   by_*nv (4294967296:Int) (l'.take m)+r'=by_*(4294967296:Int)^j*nv (4294967296:Int) ((l.take m).drop j)+r*(4294967296:Int)^j+nv (4294967296:Int) ((l.take m).take j)∧
   Q14.l3 N n 0 m by_ r ((j:Int)-1) l K0=K0 r' l':=by
 intro n;induction n with
 |zero=>intro j r l _ _ _ h;omega
 |succ n ih=>
  intro j r l hd hl hj hn r0 r1;rw[Q14.l3];cases j with
  |zero=>refine⟨r,l,hd,rfl,r0,r1,by simp[nv],rfl⟩
  |succ j=>
   have e0:((j+1:Nat):Int)-1=(j:Int):=by omega
   have e3:aA ((j:Int)-1)=(j:Int)-1:=fA (by omega) (by omega);have c1:(decide (0≤(j:Int))&&decide ((j:Int)<(m:Int)))=true:=by simp;omega
   have c0:decide ((j:Int)≥0)=true:=decide_eq_true (by omega);have e2:0+(j:Int).toNat=j:=by omega
   have hx:=hd.get (by decide) j;have p32:(2:Int)^32=4294967296:=by decide
   rw[e0,c1,c0,e2,e3,p32];simp only[cond_true];have wb:jA by_=by_:=xA (by omega) (by omega);have cb:(by_==0)=false:=by simp;omega
   rw[wb,cb];simp only[j2,cond_true];rw[xA (n:=r*4294967296) (by omega) (by omega),xA (n:=l.getD j 0) (by omega) (by omega),nP r0 (by omega) hx.1 hx.2];generalize hxx:r*4294967296+l.getD j 0=x;have x0:0≤x:=by omega
   have h1:=pC x by_;have h2:=hE x (b:=by_) (by omega);have h3:=hD x b0;have hq0:0≤x/by_:=hM x0 (by omega);have hq1:x/by_<4294967296:=by rw[s4 b0];have:=iA (show r+1≤by_ by omega) (show(0:Int)≤4294967296 by decide);omega
   rw[mE x0,yD x0,xA (n:=x/by_) hq0 (by omega),bE hq0 hq1];obtain⟨r',l',g1,g2,g3,g4,g5,g6⟩:=ih j (x%by_) (l.set j (x/by_)) (hd.set _ hq0 hq1) (by simpa using hl) (by omega) (by omega) h2 h3;refine⟨r',l',g1,by simpa using g2,g3,g4,?_,g6⟩;have hlen:(l.take m).length=m:=by rw[zE];omega
   have hset:(l.set j (x/by_)).take m=(l.take m).set j (x/by_):=List.take_set ..;have hdrop:((l.take m).set j (x/by_)).drop (j+1)=(l.take m).drop (j+1):=by simp[List.drop_set]
   have htake:((l.take m).set j (x/by_)).take j=(l.take m).take j:=by rw[List.take_set,List.set_eq_of_length_le (by rw[zE];omega)]
   have hget:((l.take m).set j (x/by_)).getD j 0=x/by_:=by rw[cD,aa (by omega)];rfl
   have hn1:=tF (4294967296:Int) ((l.take m).set j (x/by_)) j (by simp;omega);have hn2:=fD (4294967296:Int) (l.take m) j (by omega);have hg2:(l.take m).getD j 0=l.getD j 0:=br (by omega);rw[hdrop,hget]at hn1;rw[hg2]at hn2;rw[g5,hset,hn1,htake,hn2,aE];generalize x/by_=q at*;generalize x%by_=z at*;have ez:z=x-by_*q:=by omega
   subst ez;subst hxx;grind
theorem pa {N:Nat}(hN:1000000001<N){l:List Int}(hd:qC (4294967296:Int) l){m:Nat}(hm:m≤l.length)(hm2:m≤1000000000){by_:Int}(b0:0<by_)(b1:by_<4294967296):
  ∃l',qC (4294967296:Int) l'∧l'.length=l.length∧nv (4294967296:Int) (l'.take m)=nv (4294967296:Int) (l.take m)/by_∧Q14.f N 0 m by_ l=some (nv (4294967296:Int) (l.take m)%by_,l'):=by
 obtain⟨r',l',g1,g2,g3,g4,g5,g6⟩:=vf N by_ b0 b1 m hm2 (fun y13 y14=>some (rB y13,y14)) N m 0 l hd hm (hK _) (by omega) (u6 _) b0;have hlen:(l.take m).length=m:=by rw[zE];omega
 have e1:(l.take m).drop m=[]:=hC.mpr (by omega);have e2:(l.take m).take m=l.take m:=o2 (by omega);rw[e1,e2]at g5;simp only[nv,p0,bs,c6]at g5;have hu:=(sS (a:=nv (4294967296:Int) (l.take m)) (r:=r') (q:=nv (4294967296:Int) (l'.take m)) b0).mpr ⟨by omega,g3,g4⟩;refine⟨l',g1,g2,hu.1.symm,?_⟩;unfold Q14.f;rw[fA (n:=(m:Int)-1) (by omega) (by omega),g6,bE g3 (by omega),hu.2]
theorem wc:0<K:=by unfold K;exact hL (by decide)
theorem Gq:18446744073709551616<K:=by unfold K;decide+kernel
def ov (x:Int):Int:=if x<K then x else 0
def oe (x:Int):Int:=if x<K then 0 else 3
structure Rg (x:Int):Prop where
 lo:0≤x
 hi:x<K
theorem Rg.ov {x:Int}(h:0≤x):Rg (ov x):=by
 unfold NatL.ov;have:=wc;split
 ·exact⟨h,by assumption⟩
 ·exact⟨u6 _,by omega⟩
theorem Ds (x:Int):out x=(enc (4294967296:Int) (ov x),oe x):=by
 unfold out ov oe;by_cases h:x<K
 ·rw[if_pos h,if_pos h,if_pos h]
 ·rw[if_neg h,if_neg h,if_neg h,vG B2]
theorem Ip {N:Nat}(hN:1000000001<N){u v:Int}(hu:Rg u)(hv:Rg v):Q8.f N (enc (4294967296:Int) u) (enc (4294967296:Int) v)=some (enc (4294967296:Int) (ov (u+v)),oe (u+v)):=by
 rw[F3 hN hu.lo hu.hi hv.lo hv.hi,Ds]
theorem Jk {N:Nat}(hN:1000000001<N){u v:Int}(hu:Rg u)(hv:Rg v):Q12.f N (enc (4294967296:Int) u) (enc (4294967296:Int) v)=some (enc (4294967296:Int) (ov (u*v)),oe (u*v)):=by
 rw[Ft hN hu.lo hu.hi hv.lo hv.hi,Ds]
theorem Jf {N:Nat}(hN:1000000001<N){u v:Int}(hu:Rg u)(hv:Rg v):Q7.f N (enc (4294967296:Int) u) (enc (4294967296:Int) v)=some (bS u v):=fv hN hu.lo hu.hi hv.lo
theorem Bb (N:Nat){v:Int}(h0:0≤v):Q6.f N (enc (4294967296:Int) v)=some (if v<18446744073709551616 then(v,true)else(0,false)):=by
 obtain⟨h1,h2⟩:=oB B2 h0;generalize enc (4294967296:Int) v=l at*;unfold Q6.f
 match l,h1,h2 with
 | [],h1,h2=>simp only[nv]at h2;subst h2;rfl
 | [x],h1,h2=>
  have hx:=h1.dig.head;simp only[nv]at h2;have:x=v:=by omega
  subst this;simp[xA (n:=x) (by omega) (by omega)];omega
 | [x,y],h1,h2=>
  have hx:=h1.dig.head;have hy:=h1.dig.tail.head;simp only[nv]at h2;have p32:(2:Int)^32=4294967296:=by decide
  simp;rw[xA (n:=x) (by omega) (by omega),xA (n:=y) (by omega) (by omega),xA (n:=y*4294967296) (by omega) (by omega),nP hy.1 hy.2 hx.1 hx.2];rw[if_pos (by omega)];congr 1;omega
 |x::y::z::l,h1,h2=>
  have hlow:=h1.lower (by decide) (by simp);have hp:(4294967296:Int)^2≤(4294967296:Int)^((x::y::z::l).length-1):=ny (by simp);have e:(4294967296:Int)^2=18446744073709551616:=by decide
  rw[if_neg (by omega)];have c0:(((x::y::z::l).length:Int)==0)=false:=by simp;omega
  have c1:(((x::y::z::l).length:Int)==1)=false:=by simp;omega
  have c2:(((x::y::z::l).length:Int)==2)=false:=by simp;omega
  rw[c0,c1,c2];rfl
theorem H2:(2:Int)≤(65536:Int):=by decide
theorem Bp (k:Nat):(65536:Int)^k=2^(16*k):=by rw[Int.pow_mul];rfl
theorem rI {i j:Nat}(h:i≤j):(65536:Int)^i≤(65536:Int)^j:=by
 rw[Bp,Bp,kD,kD];have:=iX (show 0<2 by decide) (show 16*i≤16*j by omega);omega
theorem Fj {i j:Nat}(h:(65536:Int)^i<(65536:Int)^j):i<j:=by
 rcases j3 i j with h1|h1
 ·exact h1
 ·have:=rI h1;omega
theorem vj (s:Int):s%(65536:Int)+(65536:Int)*(s/(65536:Int))=s:=by
 have:=pC s (65536:Int);omega
theorem nE {l:List Int}{i:Nat}(h:l.length≤i):l.getD i 0=0:=by
 rw[cD,List.getElem?_eq_none h];rfl
theorem xG (b:Int)(l:List Int)(i:Nat):nv b (l.drop i)=l.getD i 0+b*nv b (l.drop (i+1)):=by
 rcases j3 i l.length with h|h
 ·exact tF b l i h
 ·rw[hC.mpr h,hC.mpr (by omega),nE h];simp[nv]
theorem Av (N:Nat){R:Type}(l:List Int)(m:Nat)(hm:m≤l.length)(hm2:m≤1000000000)(k:Nat→Nat→Int→List Int→Option R):∀(n i:Nat),i≤m→i<n→Q21.l2 N n 0 m (i:Int) l k=k 0 m (pI l i:Nat) l:=by
 intro n;induction n with
 |zero=>intro i _ h;omega
 |succ n ih=>
  intro i hi hn;rw[Q21.l2];cases i with
  |zero=>rfl
  |succ i=>
   have e1:aA (((i+1:Nat):Int)-1)=(i:Int):=by rw[fA (by omega) (by omega)];omega
   have c0:decide (((i+1:Nat):Int)>0)=true:=decide_eq_true (by omega);have c1:(decide (0≤(i:Int))&&decide ((i:Int)<(m:Int)))=true:=by simp;omega
   rw[e1,c1,c0];simp only[cond_true];have e2:0+(i:Int).toNat=i:=by omega
   rw[e2];unfold pI;by_cases hz:l.getD i 0=0
   ·rw[if_pos hz];have:(l.getD i 0==0)=true:=by simpa using hz
    rw[this];exact ih i (by omega) (by omega)
   ·rw[if_neg hz];have:(l.getD i 0==0)=false:=by simpa using hz
    rw[this];rfl
theorem oR {N:Nat}(hN:1000000001<N)(l:List Int)(m:Nat)(hm:m≤l.length)(hm2:m≤1000000000):Q21.f N 0 m l=some (0,pI l m,l):=by
 unfold Q21.f;rw[Av N l m hm hm2 _ N m (hK _) (by omega)];have:=pW l m;have c:((decide (0≤((pI l m:Nat):Int))&&decide (((pI l m:Nat):Int)≤(m:Int)))&&decide ((m:Int)≤(m:Int)))=true:=by simp;omega
 rw[c];simp
theorem yX {l:List Int}(h:qC (65536:Int) l):dC l=enc (65536:Int) (nv (65536:Int) l):=eY H2 (zX h) (fx (65536:Int) l)
theorem o6 {N:Nat}(hN:1000000001<N){l:List Int}(h:qC (65536:Int) l)(hl:l.length≤1000000000):((Q21.f N 0 l.length l).bind fun r=>some ((r.2.2.drop r.1).take r.2.1))=some (enc (65536:Int) (nv (65536:Int) l)):=by
 rw[oR hN l _ (hK _) hl,←yX h];simp[dC]
theorem bJ {v:Int}(h:0≤v){k:Nat}(hk:v<(65536:Int)^k):(enc (65536:Int) v).length≤k:=by
 obtain⟨h1,h2⟩:=oB H2 h;by_cases hne:enc (65536:Int) v=[]
 ·rw[hne];simp
 ·have h3:=h1.lower (by decide) hne;rw[h2]at h3;rcases j3 k (enc (65536:Int) v).length with h|h
  ·exfalso;have:=rI (show k≤(enc (65536:Int) v).length-1 by omega);omega
  ·exact h
theorem Jd:K=(65536:Int)^256:=by unfold K;rw[Bp]
theorem kQ {N:Nat}(hN:1000000001<N){v:Int}(h0:0≤v)(h1:v<18446744073709551616):Q22.f N v=some (enc (65536:Int) v):=by
 unfold Q22.f;have key:∀(n:Nat) (v:Int) (o:List Int),0≤v→v<18446744073709551616→∀k:Nat,v.toNat<65536^k→k<n→o.length+k≤1000000→Q22.l2 N n v o (fun y5=>some y5)=some (o++enc (65536:Int) v):=by
  intro n;induction n with
  |zero=>intro v o _ _ k _ h;omega
  |succ n ih=>
   intro v o h0 h1 k hk hkn hl;rw[Q22.l2];by_cases hv:v=0
   ·subst hv;rw[vG H2];simp
   ·have hk0:k≠0:=fun h=>by subst h;simp at hk;omega
    obtain⟨k,rfl⟩:∃q,k=q+1:=⟨k-1,by omega⟩
    rw[Nat.pow_succ]at hk;have c0:decide (v>0)=true:=decide_eq_true (by omega);rw[c0,sK (by omega),mE h0,yD h0,xA (by omega) (by omega),bE (by omega) (by omega)];simp only[cond_true];rw[ih (v/65536) (o++[v%65536]) (by omega) (by omega) k (by omega) (by omega) (by simp;omega)];congr 1;obtain⟨e1,e2⟩:=oB H2 (show 0≤v/65536 by omega);have:(v%65536)::enc (65536:Int) (v/65536)=enc (65536:Int) v:=by
     refine eY H2 ⟨qC.cons (by omega) (by omega) e1.dig,fun _=>?_⟩ (by simp only[nv,e2];omega);cases hh:enc (65536:Int) (v/65536)with
     |nil=>have:=(qW H2 (show 0≤v/65536 by omega)).mp hh;simp;omega
     |cons x l=>have:=e1.top (by rw[hh];simp);rw[hh]at this;simpa using this
    rw[←this];simp
 have:=key N v [] h0 h1 4 (by
   have:65536^4=18446744073709551616:=by decide
   omega) (by omega) (by simp)
 simpa using this
theorem Aq (N n:Nat){R:Type}{a b:List Int}(ha:qC (65536:Int) a)(hb:qC (65536:Int) b)(hal:a.length≤1000000)(hbl:b.length≤1000000)(c:Int)(c0:0≤c)(c1:c≤1)(i:Nat)(hi:i≤1000001)(o:List Int)(ho:o.length≤1000001)(K0:List Int→Option R):
  Q26.l4 N (n+1) a b c (i:Int) o K0=if i<a.length∨i<b.length∨0<c then Q26.l4 N n a b ((c+a.getD i 0+b.getD i 0)/(65536:Int)) ((i+1:Nat):Int) (o++[(c+a.getD i 0+b.getD i 0)%(65536:Int)]) K0 else K0 o:=by
 have hx:=ha.get (by decide) i;have hy:=hb.get (by decide) i;have e2:(i:Int).toNat=i:=by omega
 have e3:aA ((i:Int)+1)=((i+1:Nat):Int):=by rw[fA (by omega) (by omega)];omega
 have hr:=sK (n:=o.length+1) (by omega);have m:∀s:Int,0≤s→s<4294967296→rB (Int.tdiv (rB s) 65536)=s/65536∧Int.tmod (rB s) 65536=s%65536:=fun s h0 h1=>by rw[bE h0 h1,mE h0,yD h0,bE (by omega) (by omega)];exact⟨rfl,rfl⟩
 have w1:rB (c+a.getD i 0)=c+a.getD i 0:=bE (by omega) (by omega);rw[Q26.l4];by_cases h1:i<a.length
 ·have d1:decide ((i:Int)<(a.length:Int))=true:=decide_eq_true (by omega);have q1:(decide (0≤(i:Int))&&decide ((i:Int)<(a.length:Int)))=true:=by simp;omega
  rw[if_pos (.inl h1),q1,d1,e2,e3,hr];simp only[cond_true];by_cases h2:i<b.length
  ·have d2:decide ((i:Int)<(b.length:Int))=true:=decide_eq_true (by omega);have q2:(decide (0≤(i:Int))&&decide ((i:Int)<(b.length:Int)))=true:=by simp;omega
   rw[q2,d2,w1,(m (c+a.getD i 0+b.getD i 0) (by omega) (by omega)).1,(m (c+a.getD i 0+b.getD i 0) (by omega) (by omega)).2];rfl
  ·have d2:decide ((i:Int)<(b.length:Int))=false:=decide_eq_false (by omega);have z:b.getD i 0=0:=nE (by omega);rw[d2,z,(m (c+a.getD i 0) (by omega) (by omega)).1,(m (c+a.getD i 0) (by omega) (by omega)).2];simp only[cond_false,hQ]
 ·have d1:decide ((i:Int)<(a.length:Int))=false:=decide_eq_false (by omega);have za:a.getD i 0=0:=nE (by omega);rw[d1,e2,e3,hr];simp only[cond_true,cond_false];by_cases h2:i<b.length
  ·have d2:decide ((i:Int)<(b.length:Int))=true:=decide_eq_true (by omega);have q2:(decide (0≤(i:Int))&&decide ((i:Int)<(b.length:Int)))=true:=by simp;omega
   rw[if_pos (.inr (.inl h2)),q2,d2,za,(m (c+b.getD i 0) (by omega) (by omega)).1,(m (c+b.getD i 0) (by omega) (by omega)).2];simp only[cond_true,hQ]
  ·have d2:decide ((i:Int)<(b.length:Int))=false:=decide_eq_false (by omega);have zb:b.getD i 0=0:=nE (by omega);rw[d2,za,zb];simp only[cond_false];by_cases h3:0<c
   ·have d3:decide (c>0)=true:=decide_eq_true h3;rw[if_pos (.inr (.inr h3)),d3,mE c0,yD c0,bE (n:=c/65536) (by omega) (by omega)];simp only[cond_true,hQ]
   ·have d3:decide (c>0)=false:=decide_eq_false h3;rw[if_neg (by omega),d3];rfl
theorem Ap (N:Nat){R:Type}{a b:List Int}(ha:qC (65536:Int) a)(hb:qC (65536:Int) b)(hal:a.length≤1000000)(hbl:b.length≤1000000)(K0:List Int→Option R):∀(n i:Nat) (c:Int) (o:List Int),qC (65536:Int) o→o.length=i→i≤1000001→0≤c→c≤1→max a.length b.length+2-i<n→i≤max a.length b.length+1→(i=max a.length b.length+1→c=0)→
  ∃r,qC (65536:Int) r∧r.length≤1000001∧nv (65536:Int) r=nv (65536:Int) o+(65536:Int)^i*(c+nv (65536:Int) (a.drop i)+nv (65536:Int) (b.drop i))∧Q26.l4 N n a b c (i:Int) o K0=K0 r:=by
 intro n;induction n with
 |zero=>intro i c o _ _ _ _ _ h;omega
 |succ n ih=>
  intro i c o hd hol hi c0 c1 hn him hlast;rw[Aq N n ha hb hal hbl c c0 c1 i hi o (by omega)];have hx:=ha.get (by decide) i;have hy:=hb.get (by decide) i;by_cases hc:i<a.length∨i<b.length∨0<c
  ·rw[if_pos hc];generalize hs:c+a.getD i 0+b.getD i 0=s;have hsd:=vj s;obtain⟨r,r1,r2,r3,r4⟩:=ih (i+1) (s/(65536:Int)) (o++[s%(65536:Int)]) (hd.append (qC.cons (by omega) (by omega) (qC.nil _))) (by simp[hol]) (by omega) (by omega) (by omega) (by omega) (by omega) (fun h=>by
    have z1:a.getD i 0=0:=nE (by omega);have z2:b.getD i 0=0:=nE (by omega);omega)
   refine⟨r,r1,r2,?_,r4⟩;rw[r3,uM,hol,xG (65536:Int) a i,xG (65536:Int) b i,aE];simp only[nv,p0,hQ];generalize s%(65536:Int)=m at*;generalize s/(65536:Int)=z at*;have em:m=s- (65536:Int)*z:=by omega
   subst em;subst hs;grind
  ·rw[if_neg hc];refine⟨o,hd,by omega,?_,rfl⟩;have hc0:c=0:=by omega
   rw[hc0,hC.mpr (by omega),hC.mpr (by omega)];simp[nv]
theorem ui {N:Nat}(hN:1000000001<N){a b:List Int}(ha:qC (65536:Int) a)(hb:qC (65536:Int) b)(hal:a.length≤1000000)(hbl:b.length≤1000000):Q26.f N a b=some (enc (65536:Int) (nv (65536:Int) a+nv (65536:Int) b)):=by
 unfold Q26.f;obtain⟨r,r1,r2,r3,r4⟩:=Ap N ha hb hal hbl (fun y9=>(Q21.f N 0 y9.length y9).bind fun r10=>some ((r10.2.2.drop r10.1).take r10.2.1)) N 0 0 [] (qC.nil _) rfl (by omega) (by omega) (by omega) (by omega) (by omega) (fun _=>rfl);have ez:((0:Nat):Int)=0:=rfl;rw[ez]at r4;rw[r4,o6 hN r1 (by omega),r3];simp[nv]
theorem B3 (N:Nat){R:Type}{a b:List Int}(ha:qC (65536:Int) a)(hb:qC (65536:Int) b)(hal:a.length≤1000000)(hle:b.length≤a.length)(K0:List Int→Option R):∀(n i:Nat) (c:Int) (o:List Int),qC (65536:Int) o→o.length=i→i≤a.length→0≤c→c≤1→a.length-i<n→
  0≤nv (65536:Int) o+(65536:Int)^i*(nv (65536:Int) (a.drop i)-nv (65536:Int) (b.drop i)-c)→
  ∃r,qC (65536:Int) r∧r.length≤1000000∧nv (65536:Int) r=nv (65536:Int) o+(65536:Int)^i*(nv (65536:Int) (a.drop i)-nv (65536:Int) (b.drop i)-c)∧Q27.l4 N n a b c (i:Int) o K0=K0 r:=by
 intro n;induction n with
 |zero=>intro i c o _ _ _ _ _ h;omega
 |succ n ih=>
  intro i c o hd hol hi c0 c1 hn hpos;have hx:=ha.get (by decide) i;have hy:=hb.get (by decide) i;rw[Q27.l4];by_cases h1:i<a.length
  ·have e2:(i:Int).toNat=i:=by omega
   have e3:aA ((i:Int)+1)=((i+1:Nat):Int):=by rw[fA (by omega) (by omega)];omega
   have hr:=sK (n:=o.length+1) (by omega);have d1:decide ((i:Int)<(a.length:Int))=true:=decide_eq_true (by omega);have q1:(decide (0≤(i:Int))&&decide ((i:Int)<(a.length:Int)))=true:=by simp;omega
   have w1:rB (a.getD i 0+65536)=a.getD i 0+65536:=bE (by omega) (by omega);have w2:rB (a.getD i 0+65536-c)=a.getD i 0+65536-c:=bE (by omega) (by omega);have m:∀s:Int,0≤s→s<131072→rB (1- (rB (Int.tdiv (rB s) 65536)))=1-s/65536∧Int.tmod (rB s) 65536=s%65536:=fun s h0 h1=>by rw[bE h0 (by omega),mE h0,yD h0,bE (n:=s/65536) (by omega) (by omega),bE (by omega) (by omega)];exact⟨rfl,rfl⟩
   have go:∃r,qC (65536:Int) r∧r.length≤1000000∧nv (65536:Int) r=nv (65536:Int) o+(65536:Int)^i*(nv (65536:Int) (a.drop i)-nv (65536:Int) (b.drop i)-c)∧Q27.l4 N n a b (1- (a.getD i 0+65536-c-b.getD i 0)/65536) ((i+1:Nat):Int) (o++[(a.getD i 0+65536-c-b.getD i 0)%65536]) K0=K0 r:=by
    generalize hs:a.getD i 0+65536-c-b.getD i 0=s;have hval:nv (65536:Int) (o++[s%65536])+(65536:Int)^(i+1)*(nv (65536:Int) (a.drop (i+1))-nv (65536:Int) (b.drop (i+1))- (1-s/65536))=nv (65536:Int) o+(65536:Int)^i*(nv (65536:Int) (a.drop i)-nv (65536:Int) (b.drop i)-c):=by
     rw[uM,hol,xG (65536:Int) a i,xG (65536:Int) b i,aE];simp only[nv,p0,hQ];have hsd:=vj s;generalize s%(65536:Int)=m at*;generalize s/(65536:Int)=z at*;have em:m=s- (65536:Int)*z:=by omega
     subst em;have:b.getD i 0=a.getD i 0+65536-c-s:=by omega
     rw[this];grind
    obtain⟨r,r1,r2,r3,r4⟩:=ih (i+1) (1-s/65536) (o++[s%65536]) (hd.append (qC.cons (by omega) (by omega) (qC.nil _))) (by simp[hol]) (by omega) (by omega) (by omega) (by omega) (by rw[hval];exact hpos);exact⟨r,r1,r2,by rw[r3,hval],r4⟩
   rw[q1,d1,e2,e3,hr,w1,w2];simp only[cond_true];by_cases h2:i<b.length
   ·have d2:decide ((i:Int)<(b.length:Int))=true:=decide_eq_true (by omega);have q2:(decide (0≤(i:Int))&&decide ((i:Int)<(b.length:Int)))=true:=by simp;omega
    obtain⟨m1,m2⟩:=m (a.getD i 0+65536-c-b.getD i 0) (by omega) (by omega);rw[q2,d2,m1,m2];exact go
   ·have d2:decide ((i:Int)<(b.length:Int))=false:=decide_eq_false (by omega);have zb:b.getD i 0=0:=nE (by omega);rw[zb,Int.sub_zero]at go;have s0:0≤a.getD i 0+65536-c:=by omega
    rw[d2,mE s0,yD s0,bE (n:=(a.getD i 0+65536-c)/65536) (by omega) (by omega),bE (n:=1- (a.getD i 0+65536-c)/65536) (by omega) (by omega)];exact go
  ·have d1:decide ((i:Int)<(a.length:Int))=false:=decide_eq_false (by omega);rw[d1];have hi':i=a.length:=by omega
   have z1:a.drop i=[]:=hC.mpr (by omega);have z2:b.drop i=[]:=hC.mpr (by omega);rw[z1,z2]at hpos⊢;have hb2:=(kB (show 0<(65536:Int) by decide) hd).2;rw[hol]at hb2;have hc0:c=0:=by
    rcases zB 0 c with h|h
    ·have:c=1:=by omega
     subst this;simp[nv]at hpos;omega
    ·omega
   subst hc0;exact⟨o,hd,by omega,by simp[nv],rfl⟩
theorem xX {a c:List Int}(ha:zP (65536:Int) a)(hc:zP (65536:Int) c)(h:a.length<c.length):nv (65536:Int) a<nv (65536:Int) c:=by
 have hne:c≠ []:=by intro e;subst e;simp at h
 have h1:=hc.lower (by decide) hne;have h2:=(kB (show 0<(65536:Int) by decide) ha.dig).2;have:=rI (show a.length≤c.length-1 by omega);omega
theorem y7 {N:Nat}(hN:1000000001<N){u v:Int}(hv:0≤v)(huv:v≤u)(hl:(enc (65536:Int) u).length≤1000000):Q27.f N (enc (65536:Int) u) (enc (65536:Int) v)=some (enc (65536:Int) (u-v)):=by
 obtain⟨h1,h2⟩:=oB H2 (show 0≤u by omega);obtain⟨h3,h4⟩:=oB H2 hv;have hle:(enc (65536:Int) v).length≤(enc (65536:Int) u).length:=by
  rcases j3 (enc (65536:Int) u).length (enc (65536:Int) v).length with hq|hq
  ·have:=xX h1 h3 hq;omega
  ·exact hq
 unfold Q27.f;obtain⟨r,r1,r2,r3,r4⟩:=B3 N h1.dig h3.dig hl hle (fun y9=>(Q21.f N 0 y9.length y9).bind fun r10=>some ((r10.2.2.drop r10.1).take r10.2.1)) N 0 0 [] (qC.nil _) rfl (by omega) (by omega) (by omega) (by omega) (by simp[nv,h2,h4];omega);have ez:((0:Nat):Int)=0:=rfl;rw[ez]at r4;rw[r4,o6 hN r1 (by omega),r3];simp[nv,h2,h4]
theorem B0 (N n:Nat){R:Type}{a b o:List Int}(ha:qC (65536:Int) a)(hb:qC (65536:Int) b)(ho:qC (65536:Int) o)(hal:a.length≤1000000)(hbl:b.length≤1000000)(c:Int)(c0:0≤c)(c1:c<(65536:Int))(i k:Nat)(hi:i<a.length)(hk:k≤b.length+1)(hok:(k<b.length∨0<c)→i+k<o.length)(hol:o.length≤2000000)(K0:List Int→List Int→Int→List Int→Option R):
  Q28.l7 N (n+1) a b (i:Int) c (k:Int) o K0=if k<b.length∨0<c then Q28.l7 N n a b (i:Int) ((o.getD (i+k) 0+c+a.getD i 0*b.getD k 0)/(65536:Int)) ((k+1:Nat):Int) (o.set (i+k) ((o.getD (i+k) 0+c+a.getD i 0*b.getD k 0)%(65536:Int))) K0 else K0 a b (i:Int) o:=by
 have hx:=ha.get (by decide) i;have hy:=hb.get (by decide) k;have hz:=ho.get (by decide) (i+k);have m0:=iB hx.1 hy.1;have m1:a.getD i 0*b.getD k 0≤65535*65535:=by have h1:=iA (show b.getD k 0≤65535 by omega) hx.1;have h2:=hB (show a.getD i 0≤65535 by omega) (show(0:Int)≤65535 by decide);omega
 have e2:(i:Int).toNat=i:=by omega
 have e2':(k:Int).toNat=k:=by omega
 have e3:aA ((k:Int)+1)=((k+1:Nat):Int):=by rw[fA (by omega) (by omega)];omega
 have e4:aA ((i:Int)+(k:Int))=((i+k:Nat):Int):=by rw[fA (by omega) (by omega)];omega
 have e5:(((i+k:Nat):Int)).toNat=i+k:=by omega
 have qa:(decide (0≤(i:Int))&&decide ((i:Int)<(a.length:Int)))=true:=by simp;omega
 have m:∀s:Int,0≤s→s<4294967296→jA (Int.tdiv (jA s) 65536)=s/65536∧rB (Int.tmod (jA s) 65536)=s%65536:=fun s h0 h1=>by rw[xA h0 (by omega),mE h0,yD h0,xA (by omega) (by omega),bE (by omega) (by omega)];exact⟨rfl,rfl⟩
 have wz:jA (o.getD (i+k) 0)=o.getD (i+k) 0:=xA (by omega) (by omega);have wzc:jA (o.getD (i+k) 0+c)=o.getD (i+k) 0+c:=xA (by omega) (by omega);have wa:jA (a.getD i 0)=a.getD i 0:=xA (by omega) (by omega);have wb:jA (b.getD k 0)=b.getD k 0:=xA (by omega) (by omega);have wab:jA (a.getD i 0*b.getD k 0)=a.getD i 0*b.getD k 0:=xA (by omega) (by omega);rw[Q28.l7];by_cases h1:k<b.length
 ·have d1:decide ((k:Int)<(b.length:Int))=true:=decide_eq_true (by omega);have qb:(decide (0≤(k:Int))&&decide ((k:Int)<(b.length:Int)))=true:=by simp;omega
  have hlt:=hok (.inl h1);have qo:(decide (0≤((i+k:Nat):Int))&&decide (((i+k:Nat):Int)<(o.length:Int)))=true:=by simp;omega
  obtain⟨s1,s2⟩:=m (o.getD (i+k) 0+c+a.getD i 0*b.getD k 0) (by omega) (by omega);rw[if_pos (.inl h1),qb,qa,e4,qo,d1,e2,e2',e3,e5,wz,wzc,wa,wb,wab,s1,s2];rfl
 ·have d1:decide ((k:Int)<(b.length:Int))=false:=decide_eq_false (by omega);have zb:b.getD k 0=0:=nE (by omega);rw[d1];simp only[cond_false];by_cases h2:0<c
  ·have hlt:=hok (.inr h2);have qo:(decide (0≤((i+k:Nat):Int))&&decide (((i+k:Nat):Int)<(o.length:Int)))=true:=by simp;omega
   have d2:decide (c>0)=true:=decide_eq_true h2;obtain⟨s1,s2⟩:=m (o.getD (i+k) 0+c) (by omega) (by omega);rw[if_pos (.inr h2),e4,qo,d2,e3,e5,wz,s1,s2,zb];simp only[cond_true,p0,hQ]
  ·have d2:decide (c>0)=false:=decide_eq_false h2;rw[if_neg (by omega),d2];rfl
theorem ur (N:Nat){R:Type}{a b:List Int}(ha:qC (65536:Int) a)(hb:qC (65536:Int) b)(hal:a.length≤1000000)(hbl:b.length≤1000000)(i:Nat)(hi:i<a.length)(K0:List Int→List Int→Int→List Int→Option R):∀(n k:Nat) (c:Int) (o:List Int),qC (65536:Int) o→o.length=a.length+b.length→k≤b.length+1→0≤c→c<(65536:Int)→b.length+2-k<n→
  nv (65536:Int) o+(65536:Int)^(i+k)*(c+a.getD i 0*nv (65536:Int) (b.drop k))<(65536:Int)^(i+1+b.length)→
  ∃r,qC (65536:Int) r∧r.length=o.length∧nv (65536:Int) r=nv (65536:Int) o+(65536:Int)^(i+k)*(c+a.getD i 0*nv (65536:Int) (b.drop k))∧Q28.l7 N n a b (i:Int) c (k:Int) o K0=K0 a b (i:Int) r:=by
 intro n;induction n with
 |zero=>intro k c o _ _ _ _ _ h;omega
 |succ n ih=>
  intro k c o ho hol hk c0 c1 hn hlt;have hx:=ha.get (by decide) i;have hy:=hb.get (by decide) k;have hz:=ho.get (by decide) (i+k);have nvo:=(kB (show 0<(65536:Int) by decide) ho).1;have nvb:=(kB (show 0<(65536:Int) by decide) (hb.drop k)).1;have hpk:(0:Int)<(65536:Int)^(i+k):=hL (by decide);have kb:0<c→k≤b.length:=fun h=>by have m0:=iB hx.1 nvb;have m1:=iA (show 1≤c+a.getD i 0*nv (65536:Int) (b.drop k) by omega) (zA hpk);have:=Fj (i:=i+k) (j:=i+1+b.length) (by omega);omega
  have hok:(k<b.length∨0<c)→i+k<o.length:=fun h=>by
   rcases h with h|h
   ·omega
   ·have:=kb h;omega
  rw[B0 N n ha hb ho hal hbl c c0 c1 i k hi hk hok (by omega)];by_cases hc:k<b.length∨0<c
  ·rw[if_pos hc];have hkb:k≤b.length:=by
    rcases hc with h|h
    ·omega
    ·exact kb h
   have m0:=iB hx.1 hy.1;have m1:a.getD i 0*b.getD k 0≤65535*65535:=by have h1:=iA (show b.getD k 0≤65535 by omega) hx.1;have h2:=hB (show a.getD i 0≤65535 by omega) (show(0:Int)≤65535 by decide);omega
   generalize hs:o.getD (i+k) 0+c+a.getD i 0*b.getD k 0=s;have hval:nv (65536:Int) (o.set (i+k) (s%(65536:Int)))+(65536:Int)^(i+(k+1))*(s/(65536:Int)+a.getD i 0*nv (65536:Int) (b.drop (k+1)))=nv (65536:Int) o+(65536:Int)^(i+k)*(c+a.getD i 0*nv (65536:Int) (b.drop k)):=by
    rw[pK (65536:Int) _ o (i+k) (by omega),xG (65536:Int) b k];have e:i+(k+1)=i+k+1:=by omega
    rw[e,aE];have hsd:=vj s;generalize s%(65536:Int)=m at*;generalize s/(65536:Int)=z at*;have em:m=s- (65536:Int)*z:=by omega
    subst em;subst hs;grind
   obtain⟨r,r1,r2,r3,r4⟩:=ih (k+1) (s/(65536:Int)) (o.set (i+k) (s%(65536:Int))) (ho.set _ (by omega) (by omega)) (by simpa using hol) (by omega) (by omega) (by omega) (by omega) (by rw[hval];exact hlt);exact⟨r,r1,by simpa using r2,by rw[r3,hval],r4⟩
  ·rw[if_neg hc];refine⟨o,ho,rfl,?_,rfl⟩;have hc0:c=0:=by omega
   rw[hc0,hC.mpr (by omega)];simp[nv]
theorem uv {N:Nat}(hN:1000000001<N){R:Type}{a b:List Int}(ha:qC (65536:Int) a)(hb:qC (65536:Int) b)(hal:a.length≤1000000)(hbl:b.length≤1000000)(K0:List Int→Option R):∀(n i:Nat) (o:List Int),qC (65536:Int) o→o.length=a.length+b.length→i≤a.length→a.length-i<n→nv (65536:Int) o=nv (65536:Int) (a.take i)*nv (65536:Int) b→
  ∃r,qC (65536:Int) r∧r.length=o.length∧nv (65536:Int) r=nv (65536:Int) a*nv (65536:Int) b∧Q28.l3 N n a b (i:Int) o K0=K0 r:=by
 intro n;induction n with
 |zero=>intro i o _ _ _ h;omega
 |succ n ih=>
  intro i o ho hol hi hn hv;rw[Q28.l3];by_cases h1:i<a.length
  ·have d1:decide ((i:Int)<(a.length:Int))=true:=decide_eq_true (by omega);have e3:aA ((i:Int)+1)=((i+1:Nat):Int):=by rw[fA (by omega) (by omega)];omega
   have hval:nv (65536:Int) o+(65536:Int)^(i+0)*(0+a.getD i 0*nv (65536:Int) (b.drop 0))=nv (65536:Int) (a.take (i+1))*nv (65536:Int) b:=by rw[hv,fD (65536:Int) a i h1,j1];simp only[bx,c6];grind
   have b1:=kB (show 0<(65536:Int) by decide) (ha.take (i+1));have b2:=kB (show 0<(65536:Int) by decide) hb;have l1:(a.take (i+1)).length=i+1:=by rw[zE];omega
   rw[l1]at b1;have hlt:nv (65536:Int) o+(65536:Int)^(i+0)*(0+a.getD i 0*nv (65536:Int) (b.drop 0))<(65536:Int)^(i+1+b.length):=by rw[hval,hS];have hp:(0:Int)<(65536:Int)^(i+1):=hL (by decide);have m1:=hB (show nv (65536:Int) (a.take (i+1))≤(65536:Int)^(i+1) by omega) b2.1;have m2:=hT b2.2 hp;omega
   obtain⟨r,r1,r2,r3,r4⟩:=ur N ha hb hal hbl i h1 (fun y17 y18 y19 y20=>Q28.l3 N n y17 y18 (aA (y19+1)) y20 K0) N 0 0 o ho hol (by omega) (by omega) (by decide) (by omega) hlt;have ez:((0:Nat):Int)=0:=rfl;rw[ez]at r4;rw[d1,r4,e3];simp only[cond_true];obtain⟨t,t1,t2,t3,t4⟩:=ih (i+1) r r1 (by omega) (by omega) (by omega) (by rw[r3,hval]);exact⟨t,t1,by omega,t3,t4⟩
  ·have d1:decide ((i:Int)<(a.length:Int))=false:=decide_eq_false (by omega);rw[d1];refine⟨o,ho,rfl,?_,rfl⟩;rw[hv,o2 (by omega)]
theorem uu {N:Nat}(hN:1000000001<N){a b:List Int}(ha:qC (65536:Int) a)(hb:qC (65536:Int) b)(hal:a.length≤1000000)(hbl:b.length≤1000000):Q28.f N a b=some (enc (65536:Int) (nv (65536:Int) a*nv (65536:Int) b)):=by
 unfold Q28.f;have w:aA ((a.length:Int)+(b.length:Int))=(a.length:Int)+(b.length:Int):=fA (by omega) (by omega);have wt:((a.length:Int)+(b.length:Int)).toNat=a.length+b.length:=by omega
 rw[w,uS (by omega) (by omega),wt];simp only[cond_true];obtain⟨r,r1,r2,r3,r4⟩:=uv hN ha hb hal hbl (fun y22=>(Q21.f N 0 y22.length y22).bind fun r23=>some ((r23.2.2.drop r23.1).take r23.2.1)) N 0 (List.replicate (a.length+b.length) 0) (qC.replicate (by decide) _) (by simp) (by omega) (by omega) (by rw[uF];simp[nv]);have ez:((0:Nat):Int)=0:=rfl;rw[ez]at r4;have hl:r.length=a.length+b.length:=by simpa using r2
 rw[r4,o6 hN r1 (by omega),r3]
theorem E0 {N:Nat}(hN:1000000001<N){u v:Int}(hu:0≤u)(hv:0≤v)(hl:(enc (65536:Int) u).length≤1000000)(hl':(enc (65536:Int) v).length≤1000000):Q26.f N (enc (65536:Int) u) (enc (65536:Int) v)=some (enc (65536:Int) (u+v)):=by
 obtain⟨h1,h2⟩:=oB H2 hu;obtain⟨h3,h4⟩:=oB H2 hv;rw[ui hN h1.dig h3.dig hl hl',h2,h4]
theorem p7 {N:Nat}(hN:1000000001<N){u v:Int}(hu:0≤u)(hv:0≤v)(hl:(enc (65536:Int) u).length≤1000000)(hl':(enc (65536:Int) v).length≤1000000):Q28.f N (enc (65536:Int) u) (enc (65536:Int) v)=some (enc (65536:Int) (u*v)):=by
 obtain⟨h1,h2⟩:=oB H2 hu;obtain⟨h3,h4⟩:=oB H2 hv;rw[uu hN h1.dig h3.dig hl hl',h2,h4]
theorem ck {x:Int}(h:0<x):bD x=bD (x/2)+1:=by
 rcases zB x 2 with h1|h1
 ·have:x=1:=by omega
  subst this;decide+kernel
 ·have:=nI (v:=x) 1 (by simpa using h1);have e:(2:Int)^1=2:=by decide
  rw[e]at this;omega
theorem uj (N:Nat){R:Type}(K0:Int→Option R):∀(n:Nat) (x c:Int),0≤x→x<4294967296→bD x<n→0≤c→c≤4000000000→Q24.l5 N n c x K0=K0 (c+bD x):=by
 intro n;induction n with
 |zero=>intro x c _ _ h;have:=gC x;omega
 |succ n ih=>
  intro x c x0 x1 hn c0 c1;rw[Q24.l5];by_cases hx:x>0
  ·have d:decide (x>0)=true:=decide_eq_true hx;have hb:=ck hx;have hbb:=mI x0 32 (by omega);rw[d,mE x0,bE (by omega) (by omega),fA (by omega) (by omega)];simp only[cond_true];by_cases hc:c+1≤4000000000
   ·rw[ih (x/2) (c+1) (by omega) (by omega) (by omega) (by omega) hc,hb];congr 1;omega
   ·
    have hn0:=gC (x/2);have key:∀(n:Nat) (x c:Int),0≤x→x<4294967296→bD x<n→0≤c→c+bD x≤5000000000→Q24.l5 N n c x K0=K0 (c+bD x):=by
     intro n;induction n with
     |zero=>intro x c _ _ h;have:=gC x;omega
     |succ n ih=>
      intro x c x0 x1 hn c0 c1;have hn1:=gC x;rw[Q24.l5];by_cases hx:x>0
      ·have d:decide (x>0)=true:=decide_eq_true hx;have hb:=ck hx;rw[d,mE x0,bE (by omega) (by omega),fA (by omega) (by omega)];simp only[cond_true];rw[ih (x/2) (c+1) (by omega) (by omega) (by omega) (by omega) (by omega),hb];congr 1;omega
      ·have d:decide (x>0)=false:=decide_eq_false hx;have:x=0:=by omega
       subst this;rw[d];have:bD 0=0:=by decide+kernel
       rw[this];simp
    rw[key n (x/2) (c+1) (by omega) (by omega) (by omega) (by omega) (by omega),hb];congr 1;omega
  ·have d:decide (x>0)=false:=decide_eq_false hx;have:x=0:=by omega
   subst this;rw[d];have:bD 0=0:=by decide+kernel
   rw[this];simp
theorem yy {l:List Int}(h:zP (65536:Int) l)(hne:l≠ []):bD (nv (65536:Int) l)=16*((l.length:Int)-1)+bD (l.getD (l.length-1) 0):=by
 have hl:0<l.length:=dQ.mpr hne;have h1:=fD (65536:Int) l (l.length-1) (by omega);have e:l.length-1+1=l.length:=by omega
 rw[e,hV]at h1;have h2:=kB (show 0<(65536:Int) by decide) (h.dig.take (l.length-1));have e3:(l.take (l.length-1)).length=l.length-1:=by rw[zE];omega
 rw[e3]at h2;have h4:=h.lower (by decide) hne;have hp:(0:Int)<(65536:Int)^(l.length-1):=hL (by decide);have hq:nv (65536:Int) l/(65536:Int)^(l.length-1)=l.getD (l.length-1) 0:=by rw[h1,u5 _ _ (by omega),u7 h2.1 h2.2];simp
 rw[nI (16*(l.length-1)) (by rw[←Bp];exact h4),←Bp,hq];omega
theorem dr {N:Nat}(hN:1000000001<N){v:Int}(hv:0≤v)(hl:(enc (65536:Int) v).length≤100000000):Q24.f N (enc (65536:Int) v)=some (bD v):=by
 obtain⟨h1,h2⟩:=oB H2 hv;have h2':=h2;generalize enc (65536:Int) v=l at*;rw[←h2'];unfold Q24.f;by_cases hne:l=[]
 ·subst hne;rfl
 ·have hlp:0<l.length:=dQ.mpr hne;have c0:((l.length:Int)==0)=false:=by simp;omega
  have e1:aA ((l.length:Int)-1)=(l.length:Int)-1:=fA (by omega) (by omega);have e2:((l.length:Int)-1).toNat=l.length-1:=by omega
  have hd:=h1.dig.get (by decide) (l.length-1);have hb:=mI hd.1 16 (by omega);have c1:(decide (0≤(l.length:Int)-1)&&decide ((l.length:Int)-1<(l.length:Int)))=true:=by simp;omega
  rw[c0,e1,e2,c1,fA (by omega) (by omega)];simp only[cond_true,cond_false];rw[uj N _ N _ _ hd.1 (by omega) (by omega) (by omega) (by omega),yy h1 hne]
theorem Au (N:Nat){R:Type}(a c:List Int)(hl:a.length=c.length)(ha:qC (65536:Int) a)(hc:qC (65536:Int) c)(hs:a.length≤1000000000)(K0:Unit→Option R)(Kr:Int→Option R):∀(n i:Nat),i≤a.length→i<n→
  Q25.l6 N n a c ((i:Int)-1) K0 Kr=if nv (65536:Int) (a.take i)=nv (65536:Int) (c.take i)then K0 ()else Kr (if nv (65536:Int) (a.take i)<nv (65536:Int) (c.take i)then-1 else 1):=by
 intro n;induction n with
 |zero=>intro i _ h;omega
 |succ n ih=>
  intro i hi hn;rw[Q25.l6];cases i with
  |zero=>rfl
  |succ i=>
   have e0:((i+1:Nat):Int)-1=(i:Int):=by omega
   have e1:aA ((i:Int)-1)=(i:Int)-1:=fA (by omega) (by omega);rw[e0,e1];have c0:decide ((i:Int)≥0)=true:=decide_eq_true (by omega);have c1:(decide (0≤(i:Int))&&decide ((i:Int)<(a.length:Int)))=true:=by simp;omega
   have c2:(decide (0≤(i:Int))&&decide ((i:Int)<(c.length:Int)))=true:=by simp;omega
   have e2:(i:Int).toNat=i:=by omega
   rw[c1,c2,c0,e2];simp only[cond_true];have ta:=fD (65536:Int) a i (by omega);have tc:=fD (65536:Int) c i (by omega);have ba:=kB (show 0<(65536:Int) by decide) (ha.take i);have bc:=kB (show 0<(65536:Int) by decide) (hc.take i);have la:(a.take i).length=i:=by rw[zE];omega
   have lc:(c.take i).length=i:=by rw[zE];omega
   rw[la]at ba;rw[lc]at bc;have hp:(0:Int)<(65536:Int)^i:=hL (by decide);by_cases h1:a.getD i 0<c.getD i 0
   ·simp only[h1,decide_true,cond_true];have:=iA (show a.getD i 0+1≤c.getD i 0 by omega) (zA hp);have e:(65536:Int)^i*(a.getD i 0+1)=(65536:Int)^i*a.getD i 0+(65536:Int)^i:=by grind
    rw[if_neg (by omega),if_pos (by omega)]
   ·simp only[h1,decide_false,cond_false];by_cases h2:a.getD i 0>c.getD i 0
    ·simp only[h2,decide_true,cond_true];have:=iA (show c.getD i 0+1≤a.getD i 0 by omega) (zA hp);have e:(65536:Int)^i*(c.getD i 0+1)=(65536:Int)^i*c.getD i 0+(65536:Int)^i:=by grind
     rw[if_neg (by omega),if_neg (by omega)]
    ·simp only[h2,decide_false,cond_false];have heq:a.getD i 0=c.getD i 0:=by omega
     rw[ih i (by omega) (by omega),ta,tc,heq];generalize(65536:Int)^i*c.getD i 0=p;generalize nv (65536:Int) (a.take i)=x;generalize nv (65536:Int) (c.take i)=y;by_cases h3:x=y
     ·rw[if_pos h3,if_pos (by rw[h3])]
     ·have n1:¬(x+p=y+p):=by omega
      rw[if_neg h3,if_neg n1];by_cases h4:x<y
      ·have n2:x+p<y+p:=by omega
       rw[if_pos h4,if_pos n2]
      ·have n2:¬x+p<y+p:=by omega
       rw[if_neg h4,if_neg n2]
theorem o5 {N:Nat}(hN:1000000001<N){u v:Int}(hu:0≤u)(hv:0≤v)(hs:(enc (65536:Int) u).length≤1000000000):Q25.f N (enc (65536:Int) u) (enc (65536:Int) v)=some (bS u v):=by
 obtain⟨ha,hu'⟩:=oB H2 hu;obtain⟨hc,hv'⟩:=oB H2 hv;generalize enc (65536:Int) u=a at*;generalize enc (65536:Int) v=c at*;subst hu';subst hv';unfold Q25.f bS;by_cases hl:a.length=c.length
 ·have c0:((a.length:Int) != (c.length:Int))=false:=by simp;omega
  have e1:aA ((a.length:Int)-1)=(a.length:Int)-1:=fA (by omega) (by omega);rw[c0,e1];simp only[cond_false];rw[Au N a c hl ha.dig hc.dig hs _ _ N a.length (hK _) (by omega),hV,hl,hV];split
  ·rfl
  ·rfl
 ·have c0:((a.length:Int) != (c.length:Int))=true:=by simp;omega
  rw[c0];simp only[cond_true];rcases Nat.lt_or_gt_of_ne hl with h|h
  ·have:=xX ha hc h;have c1:decide ((a.length:Int)<(c.length:Int))=true:=decide_eq_true (by omega);rw[c1,if_neg (by omega),if_pos this];rfl
  ·have:=xX hc ha h;have c1:decide ((a.length:Int)<(c.length:Int))=false:=decide_eq_false (by omega);rw[c1,if_neg (by omega),if_neg (by omega)];rfl
theorem oy (N:Nat){R:Type}(l:List Int)(hd:qC (65536:Int) l)(hl:l.length≤4)(K0:Int→Option R):∀(n j:Nat),j≤l.length→j<n→
  Q23.l5 N n l (nv (65536:Int) (l.drop j)) ((j:Int)-1) K0=K0 (nv (65536:Int) l):=by
 intro n;induction n with
 |zero=>intro j _ h;omega
 |succ n ih=>
  intro j hj hn;rw[Q23.l5];cases j with
  |zero=>rfl
  |succ j=>
   have e0:((j+1:Nat):Int)-1=(j:Int):=by omega
   have e1:aA ((j:Int)-1)=(j:Int)-1:=fA (by omega) (by omega);have c0:decide ((j:Int)≥0)=true:=decide_eq_true (by omega);have c1:(decide (0≤(j:Int))&&decide ((j:Int)<(l.length:Int)))=true:=by simp;omega
   have e2:(j:Int).toNat=j:=by omega
   have hb:=kB (show 0<(65536:Int) by decide) (hd.drop (j+1));have hm:=rI (show(l.drop (j+1)).length≤3 by rw[List.length_drop];omega);have h3:(65536:Int)^3=281474976710656:=by decide
   have hx:=hd.get (by decide) j;have hdr:=tF (65536:Int) l j (by omega);rw[e0,e1,c1,c0,e2];simp only[cond_true];rw[xA (n:=l.getD j 0) (by omega) (by omega),xA (n:=nv (65536:Int) (l.drop (j+1))*65536) (by omega) (by omega),xA (by omega) (by omega)];have:nv (65536:Int) (l.drop (j+1))*65536+l.getD j 0=nv (65536:Int) (l.drop j):=by omega
   rw[this];exact ih j (by omega) (by omega)
theorem uz {N:Nat}(hN:1000000001<N){v:Int}(hv:0≤v):Q23.f N (enc (65536:Int) v)=some (if v<18446744073709551616 then(v,true)else(0,false)):=by
 obtain⟨h1,h2⟩:=oB H2 hv;have h4:(65536:Int)^4=18446744073709551616:=by decide
 unfold Q23.f;by_cases hb:v<18446744073709551616
 ·have hl:=bJ hv (k:=4) (by omega);have c:decide (((enc (65536:Int) v).length:Int)>4)=false:=decide_eq_false (by omega);have e1:aA (((enc (65536:Int) v).length:Int)-1)=((enc (65536:Int) v).length:Int)-1:=fA (by omega) (by omega);rw[c,if_pos hb,e1];have:=oy N (enc (65536:Int) v) h1.dig hl (fun y6=>some (y6,true)) N (enc (65536:Int) v).length (hK _) (by omega);rw[List.drop_length]at this;simp only[nv,h2]at this;exact this
 ·have hl:4<(enc (65536:Int) v).length:=by
   rcases j3 4 (enc (65536:Int) v).length with h|h
   ·exact h
   ·have:=kB (show 0<(65536:Int) by decide) h1.dig;have:=rI h;omega
  have c:decide (((enc (65536:Int) v).length:Int)>4)=true:=decide_eq_true (by omega);rw[c,if_neg hb];rfl
theorem oN {u v:Int}(hu:0≤u)(hv:0≤v):(enc (65536:Int) (u*v)).length≤(enc (65536:Int) u).length+(enc (65536:Int) v).length:=by
 obtain⟨h1,h2⟩:=oB H2 hu;obtain⟨h3,h4⟩:=oB H2 hv;refine bJ (iB hu hv) ?_;have b1:=kB (show 0<(65536:Int) by decide) h1.dig;have b2:=kB (show 0<(65536:Int) by decide) h3.dig;rw[h2]at b1;rw[h4]at b2;rw[hS];have hp:(0:Int)<(65536:Int)^(enc (65536:Int) u).length:=hL (by decide);have m1:=hB (show u≤(65536:Int)^(enc (65536:Int) u).length by omega) hv;have m2:=hT b2.2 hp;omega
theorem wJ {u v:Int}(hu:0≤u)(h:u≤v):(enc (65536:Int) u).length≤(enc (65536:Int) v).length:=by
 obtain⟨h3,h4⟩:=oB H2 (show 0≤v by omega);have b2:=kB (show 0<(65536:Int) by decide) h3.dig;exact bJ hu (by omega)
theorem oz {N:Nat}(hN:1000000001<N){R:Type}{b r:Int}(hb:0<b)(hr:0≤r)(hbl:(enc (65536:Int) b).length≤900000)(hrl:(enc (65536:Int) r).length≤900000)(a:List Int)(m:Nat)(w:List Int)(hw:(w.drop 0).take m=enc (65536:Int) r)(i:Int)(q:List Int)(K0:List Int→List Int→Nat→Nat→Int→Int→List Int→List Int→Option R):∀(n:Nat) (lo hi:Int),0≤lo→lo<hi→hi≤65536→lo*b≤r→r<hi*b→hi-lo<n→
  Q29.l9 N n a (enc (65536:Int) b) 0 m i lo hi q w K0=K0 a (enc (65536:Int) b) 0 m i (r/b) q w:=by
 intro n;induction n with
 |zero=>intro lo hi _ _ _ _ _ h;omega
 |succ n ih=>
  intro lo hi l0 lh h1 g1 g2 hn;rw[Q29.l9];rw[xA (n:=hi-lo) (by omega) (by omega)];by_cases hc:hi-lo>1
  ·have d:decide (hi-lo>1)=true:=decide_eq_true hc;rw[d,xA (n:=lo+hi) (by omega) (by omega),mE (by omega),xA (n:=(lo+hi)/2) (by omega) (by omega),kQ hN (by omega) (by omega)];simp only[cond_true,hA];have hm0:0≤(lo+hi)/2:=by omega
   have p2:(65536:Int)^2=4294967296:=by decide
   have hml:(enc (65536:Int) ((lo+hi)/2)).length≤2:=bJ hm0 (by omega);have hp0:=iB hm0 (zA hb);have hpl:=oN hm0 (zA hb);rw[p7 hN hm0 (by omega) (by omega) (by omega)];simp only[hA];rw[hw,o5 hN hp0 hr (by omega)];simp only[hA];by_cases hle:(lo+hi)/2*b≤r
   ·have d2:decide (bS ((lo+hi)/2*b) r≤0)=true:=by
     refine decide_eq_true ?_;unfold bS;split
     ·omega
     ·split<;>omega
    rw[d2];exact ih ((lo+hi)/2) hi hm0 (by omega) h1 hle g2 (by omega)
   ·have d2:decide (bS ((lo+hi)/2*b) r≤0)=false:=by
     refine decide_eq_false ?_;unfold bS;split
     ·omega
     ·split<;>omega
    rw[d2];exact ih lo ((lo+hi)/2) l0 (by omega) (by omega) g1 (by omega) (by omega)
  ·have d:decide (hi-lo>1)=false:=decide_eq_false hc;rw[d];have:hi=lo+1:=by omega
   subst this;have:r/b=lo:=by
    have e:(lo+1)*b=lo*b+b:=by grind
    have:=(sS (a:=r) (r:=r-lo*b) (q:=lo) hb).mpr ⟨by rw[j0 b lo];omega,by omega,by omega⟩;exact this.1
   rw[this];rfl
theorem Ax {N:Nat}(hN:1000000001<N){R:Type}{b:Int}(hb:0<b)(hbl:(enc (65536:Int) b).length≤800000){a:List Int}(ha:qC (65536:Int) a)(hal:a.length≤800000)(K0:List Int→List Int→Option R):∀(n j:Nat) (r:Int) (q:List Int),j≤a.length→j<n→0≤r→r<b→qC (65536:Int) q→q.length=a.length→nv (65536:Int) (a.drop j)=b*nv (65536:Int) (q.drop j)+r→(∀k,k<j→q.getD k 0=0)→
  ∃q',qC (65536:Int) q'∧q'.length=a.length∧nv (65536:Int) q'=nv (65536:Int) a/b∧Q29.l4 N n a (enc (65536:Int) b) (enc (65536:Int) r) ((j:Int)-1) q K0=K0 (enc (65536:Int) (nv (65536:Int) a%b)) q':=by
 intro n;induction n with
 |zero=>intro j r q _ h;omega
 |succ n ih=>
  intro j r q hj hn r0 r1 hq hql hv hz;rw[Q29.l4];cases j with
  |zero=>simp only[j1]at hv;have hu:=(sS (a:=nv (65536:Int) a) (r:=r) (q:=nv (65536:Int) q) hb).mpr ⟨by omega,r0,r1⟩;refine⟨q,hq,hql,hu.1.symm,?_⟩;rw[hu.2];rfl
  |succ j=>
   have e0:((j+1:Nat):Int)-1=(j:Int):=by omega
   have e1:aA ((j:Int)-1)=(j:Int)-1:=fA (by omega) (by omega);have c0:decide ((j:Int)≥0)=true:=decide_eq_true (by omega);have c1:(decide (0≤(j:Int))&&decide ((j:Int)<(a.length:Int)))=true:=by simp;omega
   have c2:(decide (0≤(j:Int))&&decide ((j:Int)<(q.length:Int)))=true:=by simp;omega
   have e2:(j:Int).toNat=j:=by omega
   have hx:=ha.get (by decide) j;obtain⟨h1,h2⟩:=oB H2 r0;have hrl:=wJ r0 (zA r1);rw[e0,c1,c0,e2,sK (by omega)];simp only[cond_true];have hd:qC (65536:Int) ([a.getD j 0]++enc (65536:Int) r):=qC.cons hx.1 hx.2 h1.dig;have hnv:nv (65536:Int) ([a.getD j 0]++enc (65536:Int) r)=r*65536+a.getD j 0:=by simp only[List.singleton_append,nv,h2];omega
   have hlen:([a.getD j 0]++enc (65536:Int) r).length=(enc (65536:Int) r).length+1:=by simp
   rw[oR hN _ _ (hK _) (by omega)];simp only[hA];have hcut:=yX hd;rw[hnv]at hcut;generalize hs:r*65536+a.getD j 0=s at*;have s0:0≤s:=by omega
   have hsl:(enc (65536:Int) s).length≤800001:=by rw[←hcut];have:=ly ([a.getD j 0]++enc (65536:Int) r);omega
   have hub:s<65536*b:=by have:=iA (show r+1≤b by omega) (show(0:Int)≤65536 by decide);omega
   rw[oz hN hb s0 (by omega) (by omega) a (pI ([a.getD j 0]++enc (65536:Int) r) ([a.getD j 0]++enc (65536:Int) r).length) ([a.getD j 0]++enc (65536:Int) r) (by rw[j1];exact hcut) (j:Int) q _ N 0 65536 (by omega) (by omega) (by omega) (by omega) hub (by omega)];rw[c2];simp only[cond_true];have d1:=pC s b;have d2:=hE s (b:=b) (by omega);have d3:=hD s hb;have q0:0≤s/b:=hM s0 (by omega);have q1:s/b<65536:=by rw[s4 hb];omega
   rw[kQ hN q0 (by omega)];simp only[hA];have p1:(65536:Int)^1=65536:=by decide
   have hqll:(enc (65536:Int) (s/b)).length≤1:=bJ q0 (by omega);have hp0:=iB q0 (zA hb);rw[p7 hN q0 (by omega) (by omega) (by omega)];simp only[hA,j1];have hcut':List.take (pI ([a.getD j 0]++enc (65536:Int) r) ([a.getD j 0]++enc (65536:Int) r).length) ([a.getD j 0]++enc (65536:Int) r)=enc (65536:Int) s:=hcut;rw[hcut',j0 (s/b) b,y7 hN (by rw[j0];exact hp0) (by omega) (by omega)];simp only[hA];have hrest:s-b*(s/b)=s%b:=by omega
   rw[hrest,e1,bE q0 (by omega)];refine ih j (s%b) (q.set j (s/b)) (by omega) (by omega) d2 d3 (hq.set _ q0 q1) (by simpa using hql) ?_ (fun k hk=>?_)
   ·have hdrop:(q.set j (s/b)).drop (j+1)=q.drop (j+1):=by simp[List.drop_set]
    have hget:(q.set j (s/b)).getD j 0=s/b:=by rw[cD,aa (by omega)];rfl
    rw[xG (65536:Int) a j,xG (65536:Int) (q.set j (s/b)) j,hdrop,hget,hv];generalize s/b=z at*;generalize s%b=m at*;have em:m=s-b*z:=by omega
    subst em;subst hs;grind
   ·have:=hz k (by omega);simp only[cD,s5]at this⊢;rw[if_neg (by omega)];exact this
theorem oa {N:Nat}(hN:1000000001<N){u v:Int}(hu:0≤u)(hv:0<v)(hl:(enc (65536:Int) u).length≤800000)(hl':(enc (65536:Int) v).length≤800000):Q29.f N (enc (65536:Int) u) (enc (65536:Int) v)=some (enc (65536:Int) (u/v),enc (65536:Int) (u%v)):=by
 obtain⟨h1,h2⟩:=oB H2 hu;unfold Q29.f;have et:((enc (65536:Int) u).length:Int).toNat=(enc (65536:Int) u).length:=by omega
 have e1:aA (((enc (65536:Int) u).length:Int)-1)=((enc (65536:Int) u).length:Int)-1:=fA (by omega) (by omega);rw[uS (by omega) (by omega),et,e1];simp only[cond_true];obtain⟨q,q1,q2,q3,q4⟩:=Ax hN hv hl' h1.dig hl (fun y42 y43=>(Q21.f N 0 y43.length y43).bind fun r44=>some ((r44.2.2.drop r44.1).take r44.2.1,y42)) N (enc (65536:Int) u).length 0 (List.replicate (enc (65536:Int) u).length 0) (hK _) (by omega) (by omega) hv (qC.replicate (by decide) _) (by simp) (by rw[List.drop_length,hC.mpr (by simp)];simp[nv]) (fun k hk=>by rw[cD,h7];split<;>rfl);rw[vG H2]at q4;rw[q4,oR hN q _ (hK _) (by omega)];have:=yX q1;rw[q3,h2]at this;rw[h2];simp only[hA,j1];rw[←this];rfl
theorem oP (k:Nat):(0:Int)<2^k:=hL (by decide)
theorem G5 {i j:Nat}(h:i≤j):(2:Int)^i≤2^j:=by
 have:=iX (show 0<2 by decide) h;rw[kD,kD];omega
theorem xr {k:Nat}(h:k≤31):(2:Int)^k≤2147483648:=by
 have:=G5 h;have e:(2:Int)^31=2147483648:=by decide
 omega
theorem Dt {k:Nat}(h:k≤31):(4294967296:Int)=2^k*2^(32-k):=by
 rw[←hS];have:k+(32-k)=32:=by omega
 rw[this];rfl
theorem I5 {c d:Int}{k:Nat}(hk:k≤31)(c0:0≤c)(c1:c<2^k)(d0:0≤d)(d1:d<4294967296):fE .u64 c (d*2^k)=c+d*2^k:=by
 have hp:=xr hk;have hpp:=oP k;have m1:=iB d0 (zA hpp);have m2:=hB (show d≤4294967295 by omega) (zA hpp);have e:fE .u64 c (d*2^k)=IntKind.wrap .u64 ((BitVec.ofInt 64 c|||BitVec.ofInt 64 (d*2^k)).toNat:Int):=rfl;rw[e,BitVec.toNat_or,xI c0 (by omega),xI m1 (by omega)];have h1:(d*2^k).toNat=d.toNat<<<k:=by
  rw[r9,Int.toNat_mul d0 (zA hpp)];have hpk:((2:Int)^k).toNat=2^k:=by rw[kD];exact Int.toNat_natCast _
  rw[hpk]
 have hc:c.toNat<2^k:=by rw[kD]at c1;omega
 rw[h1,Nat.or_comm,←h8 hc,←h1];have:IntKind.wrap .u64 (((d*2^k).toNat+c.toNat:Nat):Int)=(((d*2^k).toNat+c.toNat:Nat):Int):=by show jA _=_;exact xA (by omega) (by omega)
 rw[this];omega
theorem eX (N:Nat){R:Type}{d:List Int}(hd:qC (4294967296:Int) d)(k:Nat)(hk:k≤31)(K0:List Int→Option R):∀(n i:Nat) (c:Int) (o:List Int),qC (4294967296:Int) o→o.length≤1000000000→i≤o.length→o.length-i<n→0≤c→c<2^k→(∀j,i≤j→o.getD j 0=0)→
  ∃r c',qC (4294967296:Int) r∧r.length=o.length∧0≤c'∧nv (4294967296:Int) r+(4294967296:Int)^o.length*(c'+2^k*nv (4294967296:Int) (d.drop o.length))=nv (4294967296:Int) o+(4294967296:Int)^i*(c+2^k*nv (4294967296:Int) (d.drop i))∧
   Q15.l4 N n d (k:Int) c (o.length:Int) (i:Int) o K0=K0 r:=by
 intro n;induction n with
 |zero=>intro i c o _ _ _ h;omega
 |succ n ih=>
  intro i c o ho hol hi hn c0 c1 hz;rw[Q15.l4];by_cases hil:i<o.length
  ·have e0:decide ((i:Int)<(o.length:Int))=true:=decide_eq_true (by omega);have e1:(decide (0≤(i:Int))&&decide ((i:Int)<(o.length:Int)))=true:=by simp;omega
   have e2:(i:Int).toNat=i:=by omega
   have e3:aA ((i:Int)+1)=((i+1:Nat):Int):=by rw[fA (by omega) (by omega)];omega
   have hp:=xr hk;have hpp:=oP k;have p32:(2:Int)^32=4294967296:=by decide
   have go:∀x:Int,x=c+d.getD i 0*2^k→∃r c',qC (4294967296:Int) r∧r.length=o.length∧0≤c'∧nv (4294967296:Int) r+(4294967296:Int)^o.length*(c'+2^k*nv (4294967296:Int) (d.drop o.length))=nv (4294967296:Int) o+(4294967296:Int)^i*(c+2^k*nv (4294967296:Int) (d.drop i))∧
     Q15.l4 N n d (k:Int) (x/4294967296) (o.length:Int) ((i+1:Nat):Int) (o.set i (x%4294967296)) K0=K0 r:=by
    intro x hx;have hdg:=hd.get (by decide) i;have m1:=iB hdg.1 (zA hpp);have m2:=hB (show d.getD i 0≤4294967295 by omega) (zA hpp);obtain⟨r,c',r1,r2,r3,r4,r5⟩:=ih (i+1) (x/4294967296) (o.set i (x%4294967296)) (ho.set _ (by omega) (by omega)) (by simpa using hol) (by simp;omega) (by simp;omega) (by omega) (by omega) (fun j hj=>by have:=hz j (by omega);simp only[cD,s5]at this⊢;rw[if_neg (by omega)];exact this);have hl:(o.set i (x%4294967296)).length=o.length:=by simp
    rw[hl]at r2 r4 r5;refine⟨r,c',r1,r2,r3,?_,r5⟩;rw[r4,pK _ _ o i hil,xG _ d i,hz i (hK _),aE];have hsd:=uR x;generalize x%4294967296=m at*;generalize x/4294967296=z at*;have em:m=x-4294967296*z:=by omega
    subst em;subst hx;grind
   rw[e1,e0,e2,e3];simp only[cond_true];by_cases hid:i<d.length
   ·have f0:decide ((i:Int)<(d.length:Int))=true:=decide_eq_true (by omega);have f1:(decide (0≤(i:Int))&&decide ((i:Int)<(d.length:Int)))=true:=by simp;omega
    have f2:decide (0≤(k:Int))=true:=decide_eq_true (by omega);have hdg:=hd.get (by decide) i;have m1:=iB hdg.1 (zA hpp);have m2:=hB (show d.getD i 0≤4294967295 by omega) (zA hpp);have hm:min (k:Int).toNat 64=k:=by omega
    rw[f1,f0,f2,hm,xA (n:=d.getD i 0) (by omega) (by omega),xA (n:=d.getD i 0*2^k) m1 (by omega),I5 hk c0 c1 hdg.1 hdg.2,rC,p32,sE];exact go _ rfl
   ·have f0:decide ((i:Int)<(d.length:Int))=false:=decide_eq_false (by omega);have zd:d.getD i 0=0:=nE (by omega);have:=go c (by rw[zd];simp);rw[f0];simp only[cond_false];rw[rC,p32,sE];exact this
  ·have e0:decide ((i:Int)<(o.length:Int))=false:=decide_eq_false (by omega);have:i=o.length:=by omega
   subst this;rw[e0];exact⟨o,c,ho,rfl,c0,rfl,rfl⟩
theorem lZ {m:Nat}(h1:m≤1000000000):(decide ((m:Int)=(m:Int))&&decide (0≤(m:Int))&&decide ((m:Int)≤9223372036854775807)&&jB (m:Int).toNat 4)=true:=uS (by omega) (by omega)
theorem ni {m:Nat}(h1:m≤1000000000):(decide True&&decide (0≤(m:Int))&&decide ((m:Int)≤9223372036854775807)&&jB (m:Int).toNat 4)=true:=nh (by omega) (by omega)
theorem jk (n j:Nat):(List.replicate n (0:Int)).getD j 0=0:=by
 rw[cD,h7];split<;>rfl
theorem qe {N:Nat}(hN:1000000001<N){d:List Int}(hd:qC (4294967296:Int) d){k:Nat}(hk:k≤31){m:Nat}(hm:m≤1000000000)(hdm:d.length≤m)(hfit:2^k*nv (4294967296:Int) d<(4294967296:Int)^m):
  ∃r,qC (4294967296:Int) r∧r.length=m∧nv (4294967296:Int) r=2^k*nv (4294967296:Int) d∧Q15.f N d (k:Int) (m:Int)=some r:=by
 unfold Q15.f;have et:((m:Nat):Int).toNat=m:=by omega
 rw[lZ hm,et];simp only[cond_true];obtain⟨r,c',r1,r2,r3,r4,r5⟩:=eX N hd k hk (fun y11=>some y11) N 0 0 (List.replicate m 0) (qC.replicate (by decide) _) (by simpa using hm) (by omega) (by simp;omega) (by omega) (oP k) (fun j _=>jk m j);have hl:(List.replicate m (0:Int)).length=m:=by simp
 have ez:((0:Nat):Int)=0:=rfl;rw[hl]at r2 r4 r5;rw[ez]at r5;rw[hl,r5];rw[hC.mpr hdm,uF]at r4;simp only[nv,p0,hQ,c6,Int.pow_zero,Int.one_mul,j1]at r4;have hb:=(kB (show(0:Int)<4294967296 by decide) r1).1;have hp:(0:Int)<(4294967296:Int)^m:=hL (by decide);have hc:c'=0:=by
  rcases zB 0 c' with h|h
  ·have:=iA (show 1≤c' by omega) (zA hp);omega
  ·omega
 subst hc;exact⟨r,r1,r2,by simpa using r4,rfl⟩
theorem vJ (N:Nat){R:Type}{d:List Int}(hd:qC (4294967296:Int) d)(hdl:d.length≤1000000000)(k:Nat)(hk:k≤31)(K0:List Int→Option R):∀(n i:Nat) (o:List Int),qC (4294967296:Int) o→o.length=d.length→i≤d.length→d.length-i<n→(∀j,i≤j→o.getD j 0=0)→
  ∃r,qC (4294967296:Int) r∧r.length=d.length∧nv (4294967296:Int) r=nv (4294967296:Int) o+(4294967296:Int)^i*(nv (4294967296:Int) (d.drop i)/2^k)∧
   Q16.l3 N n d (k:Int) (d.length:Int) (i:Int) o K0=K0 r:=by
 intro n;induction n with
 |zero=>intro i o _ _ _ h;omega
 |succ n ih=>
  intro i o ho hol hi hn hz;rw[Q16.l3];by_cases hil:i<d.length
  ·have e0:decide ((i:Int)<(d.length:Int))=true:=decide_eq_true (by omega);have e1:(decide (0≤(i:Int))&&decide ((i:Int)<(d.length:Int)))=true:=by simp;omega
   have e1o:(decide (0≤(i:Int))&&decide ((i:Int)<(o.length:Int)))=true:=by simp;omega
   have e2:(i:Int).toNat=i:=by omega
   have e3:aA ((i:Int)+1)=((i+1:Nat):Int):=by rw[fA (by omega) (by omega)];omega
   have e4:(((i+1:Nat):Int)).toNat=i+1:=by omega
   have f2:decide (0≤(k:Int))=true:=decide_eq_true (by omega);have hm:min (k:Int).toNat 64=k:=by omega
   have hpp:=oP k;have hp31:=xr hk;have hsp:=Dt hk;have hpp2:=oP (32-k);have hx:=hd.get (by decide) i;have hy:=hd.get (by decide) (i+1);have p32:(2:Int)^32=4294967296:=by decide
   have hnd:=xG (4294967296:Int) d i;have key:∀x:Int,x=d.getD i 0+4294967296*d.getD (i+1) 0→nv (4294967296:Int) (d.drop i)/2^k=(x/2^k)%4294967296+4294967296*(nv (4294967296:Int) (d.drop (i+1))/2^k):=by
    intro x hxx;have hnd2:=xG (4294967296:Int) d (i+1);generalize hY:nv (4294967296:Int) (d.drop (i+1))=Y at*;generalize nv (4294967296:Int) (d.drop (i+1+1))=Z at*;have d1:=pC Y (2^k);have d2:=hE Y (b:=2^k) (by omega);have d3:=hD Y hpp;have d4:=pC (d.getD (i+1) 0) (2^k);have d5:=hE (d.getD (i+1) 0) (b:=2^k) (by omega);have d6:=hD (d.getD (i+1) 0) hpp;have hrest:Y%2^k=d.getD (i+1) 0%2^k:=by
     have:Y=d.getD (i+1) 0+2^k*(2^(32-k)*Z):=by rw[hnd2,←Int.mul_assoc,←hsp]
     rw[this,e9]
    generalize Y/2^k=q at*;generalize hs:Y%2^k=s at*;generalize d.getD (i+1) 0/2^k=q' at*;rw[←hrest]at d4;have h1:nv (4294967296:Int) (d.drop i)=d.getD i 0+4294967296*s+2^k*(4294967296*q):=by rw[hnd,←d1];grind
    have h2:x=d.getD i 0+4294967296*s+2^k*(4294967296*q'):=by rw[hxx,←d4];grind
    rw[h1,h2,u5 _ _ (by omega),u5 _ _ (by omega),e9];have hlt:(d.getD i 0+4294967296*s)/2^k<4294967296:=by rw[s4 hpp];have:=iA (show s+1≤2^k by omega) (show(0:Int)≤4294967296 by decide);omega
    have hge:0≤(d.getD i 0+4294967296*s)/2^k:=hM (by omega) (by omega);rw[Int.emod_eq_of_lt hge hlt]
   have go:∀x:Int,x=d.getD i 0+4294967296*d.getD (i+1) 0→∃r,qC (4294967296:Int) r∧r.length=d.length∧nv (4294967296:Int) r=nv (4294967296:Int) o+(4294967296:Int)^i*(nv (4294967296:Int) (d.drop i)/2^k)∧
     Q16.l3 N n d (k:Int) (d.length:Int) ((i+1:Nat):Int) (o.set i ((x/2^k)%4294967296)) K0=K0 r:=by
    intro x hxx;obtain⟨r,r1,r2,r3,r4⟩:=ih (i+1) (o.set i ((x/2^k)%4294967296)) (ho.set _ (by omega) (by omega)) (by simpa using hol) (by omega) (by omega) (fun j hj=>by have:=hz j (by omega);simp only[cD,s5]at this⊢;rw[if_neg (by omega)];exact this);refine⟨r,r1,r2,?_,r4⟩;rw[r3,pK _ _ o i (by omega),hz i (hK _),key x hxx,aE];grind
   rw[e1,e0,e3,e4,f2,e1o,e2,hm];simp only[cond_true];by_cases hid:i+1<d.length
   ·have f0:decide (((i+1:Nat):Int)<(d.length:Int))=true:=decide_eq_true (by omega);have f1:(decide (0≤((i+1:Nat):Int))&&decide (((i+1:Nat):Int)<(d.length:Int)))=true:=by simp;omega
    rw[f1,f0,xA (n:=d.getD i 0) (by omega) (by omega),xA (n:=d.getD (i+1) 0) (by omega) (by omega),p32,xA (n:=d.getD (i+1) 0*4294967296) (by omega) (by omega)];have hor:fE .u64 (d.getD i 0) (d.getD (i+1) 0*4294967296)=d.getD i 0+4294967296*d.getD (i+1) 0:=by
     have e:∀a b:Int,fE .u64 a b=fE .u64 b a:=fun a b=>by unfold fE;rw[BitVec.or_comm]
     rw[e,nP hy.1 hy.2 hx.1 hx.2];omega
    rw[hor,rC,sE];exact go _ rfl
   ·have f0:decide (((i+1:Nat):Int)<(d.length:Int))=false:=decide_eq_false (by omega);have zd:d.getD (i+1) 0=0:=nE (by omega);have:=go (d.getD i 0) (by rw[zd];simp);rw[f0,xA (n:=d.getD i 0) (by omega) (by omega)];simp only[cond_false];rw[rC,sE];exact this
  ·have e0:decide ((i:Int)<(d.length:Int))=false:=decide_eq_false (by omega);rw[e0,hC.mpr (by omega)];exact⟨o,ho,hol,by simp[nv],rfl⟩
theorem rv {N:Nat}(hN:1000000001<N){d:List Int}(hd:qC (4294967296:Int) d)(hdl:d.length≤1000000000){k:Nat}(hk:k≤31):Q16.f N d (k:Int)=some (enc (4294967296:Int) (nv (4294967296:Int) d/2^k)):=by
 unfold Q16.f;have et:((d.length:Nat):Int).toNat=d.length:=by omega
 rw[lZ hdl,et];simp only[cond_true];obtain⟨r,r1,r2,r3,r4⟩:=vJ N hd hdl k hk (fun y9=>(Q2.f N 0 y9.length y9).bind fun r10=>some ((r10.2.2.drop r10.1).take r10.2.1)) N 0 (List.replicate d.length 0) (qC.replicate (by decide) _) (by simp) (by omega) (by omega) (fun j _=>jk _ j);have ez:((0:Nat):Int)=0:=rfl;rw[ez]at r4;rw[r4];obtain⟨c1,c2⟩:=nN hN r (by omega);rw[c1];simp only[hA,c2];rw[fK r1,r3,uF];simp
theorem wL {v:Int}(h:0≤v):bD v=0↔v=0:=by
 have h0:=qF h 0;have e0:(2:Int)^0=1:=rfl;rw[e0]at h0;have:=gC v;constructor
 ·intro hq;have:=h0.mp (by omega);omega
 ·intro hq;have:=h0.mpr (by omega);omega
theorem wP:(2:Int)^32=4294967296:=by decide
theorem cY {x y:Int}(x0:0≤x)(x1:x<(4294967296:Int))(y0:0≤y)(y1:y<(4294967296:Int)):0≤x*y∧x*y≤18446744065119617025:=by
 have h:=y8 (show x≤4294967295 by omega) (show y≤4294967295 by omega) y0 (by decide);exact⟨iB x0 y0,by omega⟩
theorem me {l:List Int}{i k:Nat}(h:i<k)(x:Int):(l.set i x).drop k=l.drop k:=List.drop_set_of_lt h
theorem yv (N:Nat){R:Type}(off:Nat)(v:List Int)(hv:qC (4294967296:Int) v)(hvl:v.length≤100000000)(d:Int)(d0:0≤d)(d1:d<(4294967296:Int))(K0:Int→List Int→Option R):∀(n i:Nat) (c w:Int) (u:List Int),qC (4294967296:Int) u→off+(v.length+1)≤u.length→u.length≤1000000000→i≤v.length+1→v.length+1-i<n→0≤c→c<(4294967296:Int)→0≤w→w≤1→(i=v.length+1→c=0)→
  ∃u' w',qC (4294967296:Int) u'∧u'.length=u.length∧0≤w'∧w'≤1∧nv (4294967296:Int) u'=nv (4294967296:Int) u- (4294967296:Int)^(off+i)*(c+w)- (4294967296:Int)^(off+i)*(d*nv (4294967296:Int) (v.drop i))+(4294967296:Int)^(off+(v.length+1))*w'∧u'.drop (off+(v.length+1))=u.drop (off+(v.length+1))∧
   Q17.l3 N n off (v.length+1) v d c w ((v.length+1:Nat):Int) (i:Int) u K0=K0 w' u':=by
 intro n;induction n with
 |zero=>intro i c w u _ _ _ _ h;omega
 |succ n ih=>
  intro i c w u hu hul hul2 hi hn c0 c1 w0 w1 hc;rw[Q17.l3];by_cases hil:i<v.length+1
  ·have e0:decide ((i:Int)<((v.length+1:Nat):Int))=true:=decide_eq_true (by omega);have e1:(decide (0≤(i:Int))&&decide ((i:Int)<((v.length+1:Nat):Int)))=true:=by simp;omega
   have e2:(i:Int).toNat=i:=by omega
   have e3:aA ((i:Int)+1)=((i+1:Nat):Int):=by rw[fA (by omega) (by omega)];omega
   have ha:=hu.get (by decide) (off+i);generalize hae:u.getD (off+i) 0=a at ha;have go:∀t dv:Int,0≤t→t≤18446744073709551615→t=c+d*dv→nv (4294967296:Int) (v.drop i)=dv+(4294967296:Int)*nv (4294967296:Int) (v.drop (i+1))→(i+1=v.length+1→t<(4294967296:Int))→
     ∀u1,u1=u.set (off+i) ((a-t%(4294967296:Int)-w)%(4294967296:Int))→
     ∃u' w',qC (4294967296:Int) u'∧u'.length=u.length∧0≤w'∧w'≤1∧nv (4294967296:Int) u'=nv (4294967296:Int) u- (4294967296:Int)^(off+i)*(c+w)- (4294967296:Int)^(off+i)*(d*nv (4294967296:Int) (v.drop i))+(4294967296:Int)^(off+(v.length+1))*w'∧u'.drop (off+(v.length+1))=u.drop (off+(v.length+1))∧
      Q17.l3 N n off (v.length+1) v d (t/(4294967296:Int)) (if a<t%(4294967296:Int)+w then 1 else 0) ((v.length+1:Nat):Int) ((i+1:Nat):Int) u1 K0=K0 w' u':=by
    intro t dv t0 t1 ht hdr hlast u1 hu1;subst hu1;obtain⟨u',w',g1,g2,g3,g4,g5,g6,g7⟩:=ih (i+1) (t/(4294967296:Int)) (if a<t%(4294967296:Int)+w then 1 else 0) (u.set (off+i) ((a-t%(4294967296:Int)-w)%(4294967296:Int))) (hu.set (off+i) (by omega) (by omega)) (by simp;omega) (by simpa using hul2) (by omega) (by omega) (by omega) (by omega) (by split<;>omega) (by split<;>omega) (fun h=>by have:=hlast h;omega);refine⟨u',w',g1,by simpa using g2,g3,g4,?_,by rw[g6,me (by omega)],g7⟩;rw[g5,pK (4294967296:Int) _ u (off+i) (by omega),hae,hdr];have hx:(a-t%(4294967296:Int)-w)%(4294967296:Int)=a-t%(4294967296:Int)-w+(4294967296:Int)*(if a<t%(4294967296:Int)+w then 1 else 0):=by split<;>omega
    have htt:t=t%(4294967296:Int)+(4294967296:Int)*(t/(4294967296:Int)):=by omega
    rw[hx];generalize(if a<t%(4294967296:Int)+w then(1:Int)else 0)=z at*;have hp:(4294967296:Int)^(off+(i+1))=(4294967296:Int)^(off+i)*(4294967296:Int):=by rw[←Nat.add_assoc,aE]
    rw[hp];generalize(4294967296:Int)^(off+i)=P at*;generalize nv (4294967296:Int) (v.drop (i+1))=V1 at*;generalize(4294967296:Int)^(off+(v.length+1))*w'=Q at*;generalize t%(4294967296:Int)=lo at*;generalize t/(4294967296:Int)=hi' at*;have hcd:c=lo+(4294967296:Int)*hi'-d*dv:=by omega
    rw[hcd];grind
   rw[e1,e0,e2,e3];simp only[cond_true,hae];by_cases hiv:i<v.length
   ·have f0:decide ((i:Int)<(v.length:Int))=true:=decide_eq_true (by omega);have f1:(decide (0≤(i:Int))&&decide ((i:Int)<(v.length:Int)))=true:=by simp;omega
    have hvd:=hv.get (by decide) i;generalize hve:v.getD i 0=dv at hvd;obtain⟨m1,m2⟩:=cY hvd.1 hvd.2 d0 d1;have ew:jA (c+jA (jA dv*jA d))=c+dv*d:=by rw[xA hvd.1 (by omega),xA d0 (by omega),xA m1 (by omega),xA (by omega) (by omega)]
    rw[f1,f0];simp only[cond_true,hve,ew];rw[sE,rC,wP,pL N ha.1 ha.2 (by omega) (by omega) w0 w1];simp only[hA];exact go (c+dv*d) dv (by omega) (by omega) (by rw[j0 dv d]) (by rw[tF (4294967296:Int) v i hiv,hve]) (fun h=>by omega) _ rfl
   ·have f0:decide ((i:Int)<(v.length:Int))=false:=decide_eq_false (by omega);have hz:v.drop i=[]:=hC.mpr (by omega);have hz2:v.drop (i+1)=[]:=hC.mpr (by omega);rw[f0];simp only[cond_false];rw[sE,rC,wP,pL N ha.1 ha.2 (by omega) (by omega) w0 w1];simp only[hA];exact go c 0 c0 (by omega) (by omega) (by rw[hz,hz2];simp[nv]) (fun h=>c1) _ rfl
  ·have hie:i=v.length+1:=by omega
   have e0:decide ((i:Int)<((v.length+1:Nat):Int))=false:=decide_eq_false (by omega);have hz:v.drop i=[]:=hC.mpr (by omega);have:=hc hie;subst this;rw[e0];refine⟨u,w,hu,rfl,w0,w1,?_,rfl,rfl⟩;rw[hz,hie];simp only[nv,p0,Int.sub_zero,c6];omega
theorem qx {N:Nat}(hN:1000000001<N){off:Nat}{v:List Int}(hv:qC (4294967296:Int) v)(hvl:v.length≤100000000){d:Int}(d0:0≤d)(d1:d<(4294967296:Int)){u:List Int}(hu:qC (4294967296:Int) u)(hul:off+(v.length+1)≤u.length)(hul2:u.length≤1000000000):
  ∃u' w',qC (4294967296:Int) u'∧u'.length=u.length∧0≤w'∧w'≤1∧nv (4294967296:Int) u'=nv (4294967296:Int) u- (4294967296:Int)^off*(d*nv (4294967296:Int) v)+(4294967296:Int)^(off+(v.length+1))*w'∧u'.drop (off+(v.length+1))=u.drop (off+(v.length+1))∧
   Q17.f N off (v.length+1) v d u=some (w' != 0,u'):=by
 obtain⟨u',w',g1,g2,g3,g4,g5,g6,g7⟩:=yv N off v hv hvl d d0 d1 (fun y19 y20=>some (y19 != 0,y20)) N 0 0 0 u hu hul hul2 (by omega) (by omega) (by omega) (by decide) (by omega) (by omega) (fun h=>rfl);refine⟨u',w',g1,g2,g3,g4,?_,g6,?_⟩
 ·rw[g5];simp
 ·unfold Q17.f;exact g7
theorem yw (N:Nat){R:Type}(off:Nat)(v:List Int)(hv:qC (4294967296:Int) v)(hvl:v.length≤100000000)(s j:Int)(out:List Int)(K0:Int→Int→Int→List Int→List Int→List Int→Option R):∀(n i:Nat) (c:Int) (u:List Int),qC (4294967296:Int) u→off+(v.length+1)≤u.length→u.length≤1000000000→i≤v.length+1→v.length+1-i<n→0≤c→c≤1→
  ∃u' c',qC (4294967296:Int) u'∧u'.length=u.length∧0≤c'∧c'≤1∧nv (4294967296:Int) u'=nv (4294967296:Int) u+(4294967296:Int)^(off+i)*c+(4294967296:Int)^(off+i)*nv (4294967296:Int) (v.drop i)- (4294967296:Int)^(off+(v.length+1))*c'∧u'.drop (off+(v.length+1))=u.drop (off+(v.length+1))∧
   Q18.l21 N n (v.length:Int) s j off (v.length+1) c ((v.length+1:Nat):Int) (i:Int) v u out K0=K0 (v.length:Int) s j v u' out:=by
 intro n;induction n with
 |zero=>intro i c u _ _ _ _ h;omega
 |succ n ih=>
  intro i c u hu hul hul2 hi hn c0 c1;rw[Q18.l21];by_cases hil:i<v.length+1
  ·have e0:decide ((i:Int)<((v.length+1:Nat):Int))=true:=decide_eq_true (by omega);have e1:(decide (0≤(i:Int))&&decide ((i:Int)<((v.length+1:Nat):Int)))=true:=by simp;omega
   have e2:(i:Int).toNat=i:=by omega
   have e3:aA ((i:Int)+1)=((i+1:Nat):Int):=by rw[fA (by omega) (by omega)];omega
   have ha:=hu.get (by decide) (off+i);generalize hae:u.getD (off+i) 0=a at ha;have go:∀t dv:Int,0≤dv→dv<(4294967296:Int)→t=c+a+dv→nv (4294967296:Int) (v.drop i)=dv+(4294967296:Int)*nv (4294967296:Int) (v.drop (i+1))→
     ∀u1,u1=u.set (off+i) (t%(4294967296:Int))→
     ∃u' c',qC (4294967296:Int) u'∧u'.length=u.length∧0≤c'∧c'≤1∧nv (4294967296:Int) u'=nv (4294967296:Int) u+(4294967296:Int)^(off+i)*c+(4294967296:Int)^(off+i)*nv (4294967296:Int) (v.drop i)- (4294967296:Int)^(off+(v.length+1))*c'∧u'.drop (off+(v.length+1))=u.drop (off+(v.length+1))∧
      Q18.l21 N n (v.length:Int) s j off (v.length+1) (t/(4294967296:Int)) ((v.length+1:Nat):Int) ((i+1:Nat):Int) v u1 out K0=K0 (v.length:Int) s j v u' out:=by
    intro t dv dv0 dv1 ht hdr u1 hu1;subst hu1;obtain⟨u',c',g1,g2,g3,g4,g5,g6,g7⟩:=ih (i+1) (t/(4294967296:Int)) (u.set (off+i) (t%(4294967296:Int))) (hu.set (off+i) (by omega) (by omega)) (by simp;omega) (by simpa using hul2) (by omega) (by omega) (by omega) (by omega);refine⟨u',c',g1,by simpa using g2,g3,g4,?_,by rw[g6,me (by omega)],g7⟩;rw[g5,pK (4294967296:Int) _ u (off+i) (by omega),hae,hdr];have htt:t=t%(4294967296:Int)+(4294967296:Int)*(t/(4294967296:Int)):=by omega
    have hp:(4294967296:Int)^(off+(i+1))=(4294967296:Int)^(off+i)*(4294967296:Int):=by rw[←Nat.add_assoc,aE]
    rw[hp];generalize(4294967296:Int)^(off+i)=P at*;generalize nv (4294967296:Int) (v.drop (i+1))=V1 at*;generalize(4294967296:Int)^(off+(v.length+1))*c'=Q at*;generalize t%(4294967296:Int)=lo at*;generalize t/(4294967296:Int)=hi' at*;have hlo:lo=c+a+dv- (4294967296:Int)*hi':=by omega
    rw[hlo];grind
   rw[e1,e0,e2,e3];simp only[cond_true,hae];by_cases hiv:i<v.length
   ·have f0:decide ((i:Int)<(v.length:Int))=true:=decide_eq_true (by omega);have f1:(decide (0≤(i:Int))&&decide ((i:Int)<(v.length:Int)))=true:=by simp;omega
    have hvd:=hv.get (by decide) i;generalize hve:v.getD i 0=dv at hvd;have ew:jA (jA (c+jA a)+jA dv)=c+a+dv:=by rw[xA hvd.1 (by omega),xA ha.1 (by omega),xA (n:=c+a) (by omega) (by omega),xA (by omega) (by omega)]
    rw[f1,f0];simp only[cond_true,hve,ew];rw[sE,rC,wP];exact go (c+a+dv) dv hvd.1 hvd.2 rfl (by rw[tF (4294967296:Int) v i hiv,hve]) _ rfl
   ·have f0:decide ((i:Int)<(v.length:Int))=false:=decide_eq_false (by omega);have hz:v.drop i=[]:=hC.mpr (by omega);have hz2:v.drop (i+1)=[]:=hC.mpr (by omega);have ew:jA (c+jA a)=c+a+0:=by
     rw[xA ha.1 (by omega),xA (by omega) (by omega)];omega
    rw[f0];simp only[cond_false,ew];rw[sE,rC,wP];exact go (c+a+0) 0 (by omega) (by decide) rfl (by rw[hz,hz2];simp[nv]) _ rfl
  ·have hie:i=v.length+1:=by omega
   have e0:decide ((i:Int)<((v.length+1:Nat):Int))=false:=decide_eq_false (by omega);have hz:v.drop i=[]:=hC.mpr (by omega);rw[e0];refine⟨u,c,hu,rfl,c0,c1,?_,rfl,rfl⟩;rw[hz,hie];simp only[nv,p0,hQ];omega
theorem sy (N:Nat){R:Type}(v u out:List Int)(n j:Nat)(s X:Int)(hn2:2≤n)(hnl:n=v.length)(hl:u.length≤1000000000)(hvl:v.length≤100000000)(hju:j+n≤u.length)(hv:qC (4294967296:Int) v)(hu:qC (4294967296:Int) u)(vt vs u2:Int)(hvt:v.getD (n-1) 0=vt)(hvs:v.getD (n-2) 0=vs)(hu2:u.getD (j+n-2) 0=u2)(htop:2147483648≤vt)(hX:X≤vt*(4294967296:Int)+(4294967296:Int)-1)
  (K0:Int→Int→Int→Int→List Int→List Int→List Int→Option R):∀(fuel:Nat) (d rest:Int),0≤d→d≤4294967297→0≤rest→rest<(4294967296:Int)→d*vt+rest=X→(4294967296:Int)-rest≤((fuel:Int)-1)*2147483648→(∀q,0≤q→q<(4294967296:Int)→q*(vt*(4294967296:Int)+vs)≤X*(4294967296:Int)+u2→q≤d)→
   ∃d',0≤d'∧d'<(4294967296:Int)∧d'*(vt*(4294967296:Int)+vs)≤X*(4294967296:Int)+u2∧(∀q,0≤q→q<(4294967296:Int)→q*(vt*(4294967296:Int)+vs)≤X*(4294967296:Int)+u2→q≤d')∧Q18.l11 N fuel (n:Int) s (j:Int) d rest v u out K0=K0 (n:Int) s (j:Int) d' v u out:=by
 have hvt':0≤vt∧vt<(4294967296:Int):=by rw[←hvt];exact hv.get (by decide) _
 have hvs':0≤vs∧vs<(4294967296:Int):=by rw[←hvs];exact hv.get (by decide) _
 have hu2':0≤u2∧u2<(4294967296:Int):=by rw[←hu2];exact hu.get (by decide) _
 have a1:aA ((n:Int)-1)=((n-1:Nat):Int):=by rw[fA (by omega) (by omega)];omega
 have a2:aA ((n:Int)-2)=((n-2:Nat):Int):=by rw[fA (by omega) (by omega)];omega
 have a3:aA (aA ((j:Int)+(n:Int))-2)=((j+n-2:Nat):Int):=by rw[fA (n:=(j:Int)+n) (by omega) (by omega),fA (by omega) (by omega)];omega
 have b1:(decide (0≤((n-1:Nat):Int))&&decide (((n-1:Nat):Int)<(v.length:Int)))=true:=by simp;omega
 have b2:(decide (0≤((n-2:Nat):Int))&&decide (((n-2:Nat):Int)<(v.length:Int)))=true:=by simp;omega
 have b3:(decide (0≤((j+n-2:Nat):Int))&&decide (((j+n-2:Nat):Int)<(u.length:Int)))=true:=by simp;omega
 have t1:((n-1:Nat):Int).toNat=n-1:=by omega
 have t2:((n-2:Nat):Int).toNat=n-2:=by omega
 have t3:((j+n-2:Nat):Int).toNat=j+n-2:=by omega
 intro fuel;induction fuel with
 |zero=>intro d rest d0 d1 r0 r1 hd hf;omega
 |succ fuel ih=>
  intro d rest d0 d1 r0 r1 hd hf hq;rw[Q18.l11];simp only[a1,a2,a3,b1,b2,b3,cond_true,t1,t2,t3,hvt,hvs,hu2];have ewv:jA vt=vt:=xA hvt'.1 (by omega);have ews:jA vs=vs:=xA hvs'.1 (by omega);have ewu:jA u2=u2:=xA hu2'.1 (by omega);have ewr:jA (rest+vt)=rest+vt:=xA (by omega) (by omega);have hdvB:d*vt*(4294967296:Int)+rest*(4294967296:Int)=X*(4294967296:Int):=by rw[←hd];grind
  have less:1≤d→(∀q,0≤q→q<(4294967296:Int)→q*(vt*(4294967296:Int)+vs)≤X*(4294967296:Int)+u2→q≤d-1)→
    ∃d',0≤d'∧d'<(4294967296:Int)∧d'*(vt*(4294967296:Int)+vs)≤X*(4294967296:Int)+u2∧(∀q,0≤q→q<(4294967296:Int)→q*(vt*(4294967296:Int)+vs)≤X*(4294967296:Int)+u2→q≤d')∧
     (bif (Int.fdiv (jA (rest+(jA vt))) (2^32)) != 0 then K0 (n:Int) s (j:Int) (jA (d-1)) v u out
      else Q18.l11 N fuel (n:Int) s (j:Int) (jA (d-1)) (jA (rest+(jA vt))) v u out K0)=K0 (n:Int) s (j:Int) d' v u out:=by
   intro hd1 hq1;rw[ewv,ewr,xA (n:=d-1) (by omega) (by omega),rC,wP];have hd':(d-1)*vt+(rest+vt)=X:=by rw[←hd];grind
   by_cases hr:rest+vt<(4294967296:Int)
   ·have:((rest+vt)/(4294967296:Int) != 0)=false:=by simp;omega
    rw[this];simp only[cond_false];exact ih (d-1) (rest+vt) (by omega) (by omega) (by omega) hr hd' (by omega) hq1
   ·have:((rest+vt)/(4294967296:Int) != 0)=true:=by simp;omega
    rw[this];simp only[cond_true];have hlt:d-1<(4294967296:Int):=by
     rcases zB (d-1) (4294967296:Int)with h|h
     ·exact h
     ·exfalso;have:=hB h hvt'.1;have e:(4294967296:Int)*vt=vt*(4294967296:Int):=j0 _ _;omega
    refine⟨d-1,by omega,hlt,?_,hq1,rfl⟩;obtain⟨m1,m2⟩:=cY (show 0≤d-1 by omega) hlt hvs'.1 hvs'.2;have e:(d-1)*(vt*(4294967296:Int)+vs)=(X- (rest+vt))*(4294967296:Int)+(d-1)*vs:=by rw[←hd'];grind
    have e2:(X- (rest+vt))*(4294967296:Int)=X*(4294967296:Int)- (rest+vt)*(4294967296:Int):=by grind
    omega
  by_cases hdB:(4294967296:Int)≤d
  ·have c1:((Int.fdiv d (2^32)) != 0)=true:=by rw[rC,wP];simp;omega
   rw[c1];simp only[cond_true];exact less (by omega) (fun q q0 q1 hh=>by omega)
  ·have c1:((Int.fdiv d (2^32)) != 0)=false:=by rw[rC,wP];simp;omega
   obtain⟨m1,m2⟩:=cY d0 (show d<(4294967296:Int) by omega) hvs'.1 hvs'.2;have er:fE .u64 (jA (rest*2^32)) (jA u2)=rest*(4294967296:Int)+u2:=by rw[wP,xA (n:=rest*4294967296) (by omega) (by omega),ewu,nP r0 r1 hu2'.1 hu2'.2]
   rw[c1,er,ews,xA m1 (by omega)];simp only[cond_false];have key:d*(vt*(4294967296:Int)+vs)=X*(4294967296:Int)-rest*(4294967296:Int)+d*vs:=by
    have:d*(vt*(4294967296:Int)+vs)=d*vt*(4294967296:Int)+d*vs:=by grind
    omega
   by_cases ht:d*vs>rest*(4294967296:Int)+u2
   ·rw[decide_eq_true ht];simp only[cond_true];refine less ?_ (fun q q0 q1 hh=>?_)
    ·rcases zB 0 d with h|h
     ·omega
     ·have:d=0:=by omega
      subst this;simp at ht;omega
    ·have h1:=hq q q0 q1 hh;rcases zB q d with h|h
     ·omega
     ·have:q=d:=by omega
      subst this;omega
   ·rw[decide_eq_false ht];simp only[cond_false];exact⟨d,d0,by omega,by omega,hq,rfl⟩
theorem kF (i:Nat):0<(4294967296:Int)^i:=hL (by decide)
theorem Fy {u:List Int}(hu:qC (4294967296:Int) u){p:Nat}(hp:p+3≤u.length)(hb:nv (4294967296:Int) u<(4294967296:Int)^(p+3)):
  nv (4294967296:Int) u=nv (4294967296:Int) (u.take p)+(4294967296:Int)^p*(u.getD p 0+(4294967296:Int)*(u.getD (p+1) 0+(4294967296:Int)*u.getD (p+2) 0))∧0≤nv (4294967296:Int) (u.take p)∧nv (4294967296:Int) (u.take p)<(4294967296:Int)^p:=by
 have h1:=xS (4294967296:Int) u p (by omega);have h2:=tF (4294967296:Int) u p (by omega);have h3:=tF (4294967296:Int) u (p+1) (by omega);have h4:=tF (4294967296:Int) u (p+1+1) (by omega);have ht:=kB (show(0:Int)<(4294967296:Int) by decide) (hu.take p);have hd:=kB (show(0:Int)<(4294967296:Int) by decide) (hu.drop (p+1+1+1));have hl:(u.take p).length=p:=by rw[zE];omega
 rw[hl]at ht;have g0:=hu.get (by decide) p;have g1:=hu.get (by decide) (p+1);have g2:=hu.get (by decide) (p+1+1);have hz:nv (4294967296:Int) (u.drop (p+1+1+1))=0:=by
  rcases zB 0 (nv (4294967296:Int) (u.drop (p+1+1+1)))with h|h
  ·exfalso;have hpp:=kF p;have e:nv (4294967296:Int) u=nv (4294967296:Int) (u.take p)+(4294967296:Int)^p*(u.getD p 0+(4294967296:Int)*(u.getD (p+1) 0+(4294967296:Int)*u.getD (p+1+1) 0))+(4294967296:Int)^(p+3)*nv (4294967296:Int) (u.drop (p+1+1+1)):=by
    rw[h1,h2,h3,h4,hS];have:(4294967296:Int)^3=(4294967296:Int)*(4294967296:Int)*(4294967296:Int):=by decide
    rw[this];grind
   have q1:=iB (zA hpp) (show 0≤u.getD p 0+(4294967296:Int)*(u.getD (p+1) 0+(4294967296:Int)*u.getD (p+1+1) 0) by omega);have q2:=iA (show 1≤nv (4294967296:Int) (u.drop (p+1+1+1)) by omega) (zA (kF (p+3)));omega
  ·omega
 refine⟨?_,ht.1,ht.2⟩;rw[h1,h2,h3,h4,hz];simp
theorem mo {U W P XX vt vs lo lo2 d:Int}(hP:0<P)(hU:U=XX*P+lo)(hW:W=(vt*(4294967296:Int)+vs)*P+lo2)(l0:0≤lo)(l1:lo<P)(m0:0≤lo2)(m1:lo2<P)(hvt:1≤vt)(hvs:0≤vs)(d0:0≤d)(d1:d<(4294967296:Int))(hd:d*(vt*(4294967296:Int)+vs)≤XX)
  (hq:∀q,0≤q→q<(4294967296:Int)→q*(vt*(4294967296:Int)+vs)≤XX→q≤d)(hU0:0≤U)(hUW:U<(4294967296:Int)*W):
  (d-1)*W≤U∧∃q,0≤q∧q<(4294967296:Int)∧q*W≤U∧U<(q+1)*W∧(d=q∨d=q+1):=by
 have hVV:(4294967296:Int)≤vt*(4294967296:Int)+vs:=by omega
 have hWP:(4294967296:Int)*P≤W:=by have:=hB hVV (zA hP);omega
 have hWpos:0<W:=by omega
 have h1:(d-1)*W≤U:=by
  have e1:d*W=d*(vt*(4294967296:Int)+vs)*P+d*lo2:=by rw[hW];grind
  have e2:=hB hd (zA hP);have e3:=y8 (show d≤(4294967296:Int) by omega) (zA m1) m0 (by decide);have e4:(d-1)*W=d*W-W:=by grind
  omega
 refine⟨h1,U/W,hM hU0 (zA hWpos),?_,?_,?_,?_⟩
 ·exact ae hWpos hUW
 ·exact Int.ediv_mul_le U (by omega)
 ·exact w8 U hWpos
 ·have q0:0≤U/W:=hM hU0 (zA hWpos);have q1:U/W<(4294967296:Int):=ae hWpos hUW;have q2:=Int.ediv_mul_le U (b:=W) (by omega);have q3:=w8 U hWpos;generalize U/W=q at*;have up:q≤d:=by
   refine hq q q0 q1 ?_;have f1:q*W=q*(vt*(4294967296:Int)+vs)*P+q*lo2:=by rw[hW];grind
   have f2:=iB q0 m0;rcases zB XX (q*(vt*(4294967296:Int)+vs))with h|h
   ·exfalso;have:=hB (show XX+1≤q*(vt*(4294967296:Int)+vs) by omega) (zA hP);have f3:(XX+1)*P=XX*P+P:=by grind
    omega
   ·exact h
  have lw:d≤q+1:=by
   rcases zB (q+1) d with h|h
   ·exfalso;have:=hB (show q+1≤d-1 by omega) (zA hWpos);omega
   ·exact h
  omega
theorem H7 {u z:List Int}{k:Nat}(hu:qC (4294967296:Int) u)(hub:nv (4294967296:Int) u<(4294967296:Int)^k)(hk:k≤u.length)(hz:qC (4294967296:Int) z)(hzl:z.length=u.length)(hzd:z.drop k=u.drop k):0≤nv (4294967296:Int) z∧nv (4294967296:Int) z<(4294967296:Int)^k:=by
 have hzb:=kB (show(0:Int)<(4294967296:Int) by decide) hz;have s1:=xS (4294967296:Int) z k (by omega);have s2:=xS (4294967296:Int) u k (by omega);have ht:=kB (show(0:Int)<(4294967296:Int) by decide) (hz.take k);have htu:=kB (show(0:Int)<(4294967296:Int) by decide) (hu.take k);have hl1:(z.take k).length=k:=by rw[zE];omega
 rw[hl1]at ht;rw[hzd]at s1;have hdb:=kB (show(0:Int)<(4294967296:Int) by decide) (hu.drop k);have hzero:nv (4294967296:Int) (u.drop k)=0:=by
  rcases zB 0 (nv (4294967296:Int) (u.drop k))with h|h
  ·exfalso;have:=iA (show 1≤nv (4294967296:Int) (u.drop k) by omega) (zA (kF k));omega
  ·omega
 rw[hzero]at s1;omega
theorem Ef {N:Nat}(hN:1000000001<N){R:Type}(v:List Int)(hv:qC (4294967296:Int) v)(hvl:v.length≤10000000)(s:Int)(K0:Int→List Int→List Int→Option R)(f j:Nat)(u out:List Int)(hu:qC (4294967296:Int) u)(hl:u.length=out.length+v.length)(hul:u.length≤100000000)(hj:j<out.length)
  (hUb:nv (4294967296:Int) u<(4294967296:Int)^(j+(v.length+1)))(d q:Int)(d0:0≤d)(d1:d<(4294967296:Int))(q0:0≤q)(q1:q<(4294967296:Int))(q2:q*((4294967296:Int)^j*nv (4294967296:Int) v)≤nv (4294967296:Int) u)(q3:nv (4294967296:Int) u<(q+1)*((4294967296:Int)^j*nv (4294967296:Int) v))(q4:d=q∨d=q+1):
  ∃z,qC (4294967296:Int) z∧z.length=u.length∧nv (4294967296:Int) z=nv (4294967296:Int) u-q*((4294967296:Int)^j*nv (4294967296:Int) v)∧
   (bif (((decide (0≤(j:Int)))&&(decide ((j:Int)≤(aA ((aA ((j:Int)+(v.length:Int)))+1)))))&&(decide ((aA ((aA ((j:Int)+(v.length:Int)))+1))≤(aA ((aA ((j:Int)+(v.length:Int)))+1)))))&&(decide ((aA ((aA ((j:Int)+(v.length:Int)))+1))≤(u.length:Int)))then
     (Q17.f N (j:Int).toNat (((aA ((aA ((j:Int)+(v.length:Int)))+1)).toNat)- (j:Int).toNat) v (rB d) u).bind fun r34=>
     bif !r34.1 then
      bif (decide (0≤(j:Int)))&&(decide ((j:Int)<(out.length:Int)))then
       Q18.l7 N f (v.length:Int) s (aA ((j:Int)-1)) v r34.2 (out.set (j:Int).toNat (rB d)) K0
      else none
     else
     bif (decide (0≤(j:Int)))&&(decide ((j:Int)<(out.length:Int)))then
      Q18.l21 N N (v.length:Int) s (j:Int) (j:Int).toNat (((aA ((aA ((j:Int)+(v.length:Int)))+1)).toNat)- (j:Int).toNat) 0 ((((aA ((aA ((j:Int)+(v.length:Int)))+1)).toNat)- (j:Int).toNat:Nat):Int) 0 v r34.2 (out.set (j:Int).toNat (rB ((rB d)-1)))
       (fun y52 y53 y54 y55 y56 y57=>
        Q18.l7 N f y52 y53 (aA (y54-1)) y55 y56 y57 K0)
     else none
    else none)=Q18.l7 N f (v.length:Int) s ((j:Int)-1) v z (out.set j q) K0:=by
 have w5:aA ((j:Int)+(v.length:Int))=((j+v.length:Nat):Int):=by rw[fA (by omega) (by omega)];omega
 have w6:aA (((j+v.length:Nat):Int)+1)=((j+(v.length+1):Nat):Int):=by rw[fA (by omega) (by omega)];omega
 have w7:aA ((j:Int)-1)=(j:Int)-1:=fA (by omega) (by omega);have t4:(j:Int).toNat=j:=by omega
 have t5:((j+(v.length+1):Nat):Int).toNat-j=v.length+1:=by omega
 simp only[w5,w6,t4,t5,w7];have b5:(decide (0≤(j:Int))&&decide ((j:Int)≤((j+(v.length+1):Nat):Int))&&decide (((j+(v.length+1):Nat):Int)≤((j+(v.length+1):Nat):Int))&&decide (((j+(v.length+1):Nat):Int)≤(u.length:Int)))=true:=by simp;omega
 have b6:(decide (0≤(j:Int))&&decide ((j:Int)<(out.length:Int)))=true:=by simp;omega
 rw[b5,b6,bE d0 d1];simp only[cond_true];obtain⟨u',w',a1,a2,a3,a4,a5,a6,a7⟩:=qx hN hv (by omega) d0 d1 hu (off:=j) (by omega) (by omega);rw[a7];simp only[hA];obtain⟨n0,n1⟩:=H7 hu hUb (by omega) a1 a2 a6;have hdW:(4294967296:Int)^j*(d*nv (4294967296:Int) v)=d*((4294967296:Int)^j*nv (4294967296:Int) v):=by grind
 rw[hdW]at a5;generalize hWW:(4294967296:Int)^j*nv (4294967296:Int) v=W at*;rcases q4 with hdq'|hdq'
 ·subst hdq';have hw0:w'=0:=by
   rcases zB 0 w' with h|h
   ·have:w'=1:=by omega
    subst this;omega
   ·omega
  subst hw0;simp only[bne_self_eq_false,j2,cond_true];exact⟨u',a1,a2,by omega,rfl⟩
 ·subst hdq';have hq1:(q+1)*W=q*W+W:=by grind
  have hw1:w'=1:=by
   rcases zB 0 w' with h|h
   ·omega
   ·have:w'=0:=by omega
    subst this;omega
  subst hw1;have c1:(!((1:Int) != 0))=false:=by decide
  rw[c1];simp only[cond_false];rw[bE (n:=q+1-1) (by omega) (by omega)];have e1:q+1-1=q:=by omega
  rw[e1];obtain⟨u'',c',k1,k2,k3,k4,k5,k6,k7⟩:=yw N j v hv (by omega) s (j:Int) (out.set j q) (fun y52 y53 y54 y55 y56 y57=>Q18.l7 N f y52 y53 (aA (y54-1)) y55 y56 y57 K0) N 0 0 u' a1 (by omega) (by omega) (by omega) (by omega) (by omega) (by omega);have hz0:((0:Nat):Int)=0:=rfl;rw[hz0]at k7;rw[k7];simp only[w7];obtain⟨n2,n3⟩:=H7 hu hUb (by omega) k1 (by omega) (by rw[k6,a6]);simp only[bx,j1,p0,hQ,hWW]at k5;have hc1:c'=1:=by
   rcases zB 0 c' with h|h
   ·omega
   ·have:c'=0:=by omega
    subst this;omega
  subst hc1;exact⟨u'',k1,by omega,by omega,rfl⟩
theorem Ag {N:Nat}(hN:1000000001<N){R:Type}(v:List Int)(hv:qC (4294967296:Int) v)(n:Nat)(hn:v.length=n+2)(hvl:v.length≤10000000)(htop':2147483648≤v.getD (n+1) 0)(s:Int)(K0:Int→List Int→List Int→Option R)(f j:Nat)(u out:List Int)(hu:qC (4294967296:Int) u)(hl:u.length=out.length+v.length)(hul:u.length≤100000000)(hj:j<out.length)
  (hUW:nv (4294967296:Int) u<(4294967296:Int)*((4294967296:Int)^j*nv (4294967296:Int) v)):
  ∃q z,0≤q∧q<(4294967296:Int)∧nv (4294967296:Int) u<(q+1)*((4294967296:Int)^j*nv (4294967296:Int) v)∧qC (4294967296:Int) z∧z.length=u.length∧nv (4294967296:Int) z=nv (4294967296:Int) u-q*((4294967296:Int)^j*nv (4294967296:Int) v)∧Q18.l7 N (f+1) (v.length:Int) s (j:Int) v u out K0=Q18.l7 N f (v.length:Int) s ((j:Int)-1) v z (out.set j q) K0:=by
 have hvb:=kB (show(0:Int)<(4294967296:Int) by decide) hv;have hub:=kB (show(0:Int)<(4294967296:Int) by decide) hu;have hPj:=kF j;have hUb:nv (4294967296:Int) u<(4294967296:Int)^(j+n+3):=by
  have:=iA (zA hvb.2) (zA (kF (j+1)));rw[←hS,hn]at this;have e:j+1+(n+2)=j+n+3:=by omega
  have e2:(4294967296:Int)*((4294967296:Int)^j*nv (4294967296:Int) v)=(4294967296:Int)^(j+1)*nv (4294967296:Int) v:=by rw[aE];grind
  rw[e]at this;omega
 obtain⟨U1,U2,U3⟩:=Fy hu (p:=j+n) (by omega) hUb;have hvs1:=xS (4294967296:Int) v n (by omega);have hvs2:=tF (4294967296:Int) v n (by omega);have hvs3:=tF (4294967296:Int) v (n+1) (by omega);have hvs4:v.drop (n+1+1)=[]:=hC.mpr (by omega);rw[hvs4]at hvs3;have hlo2:=kB (show(0:Int)<(4294967296:Int) by decide) (hv.take n);have hlen2:(v.take n).length=n:=by rw[zE];omega
 rw[hlen2]at hlo2;have gt:=hv.get (by decide) (n+1);have gs:=hv.get (by decide) n;have g0:=hu.get (by decide) (j+n+2);have g1:=hu.get (by decide) (j+n+1);have g2:=hu.get (by decide) (j+n);generalize hvt:v.getD (n+1) 0=vt at*;generalize hvs:v.getD n 0=vs at*;generalize hu0:u.getD (j+n+2) 0=u0 at*;generalize hu1:u.getD (j+n+1) 0=u1 at*;generalize hu2:u.getD (j+n) 0=u2 at*;have hW:(4294967296:Int)^j*nv (4294967296:Int) v=(vt*(4294967296:Int)+vs)*(4294967296:Int)^(j+n)+(4294967296:Int)^j*nv (4294967296:Int) (v.take n):=by rw[hvs1,hvs2,hvs3,hS];simp only[nv];grind
 have hU:nv (4294967296:Int) u=((u0*(4294967296:Int)+u1)*(4294967296:Int)+u2)*(4294967296:Int)^(j+n)+nv (4294967296:Int) (u.take (j+n)):=by rw[U1];grind
 have hlow:0≤(4294967296:Int)^j*nv (4294967296:Int) (v.take n)∧(4294967296:Int)^j*nv (4294967296:Int) (v.take n)<(4294967296:Int)^(j+n):=by refine⟨iB (zA hPj) hlo2.1,?_⟩;have:=hT hlo2.2 hPj;rw[←hS]at this;exact this
 have hXle:u0*(4294967296:Int)+u1≤vt*(4294967296:Int)+(4294967296:Int)-1:=by
  rcases zB (vt*(4294967296:Int)+(4294967296:Int)-1) (u0*(4294967296:Int)+u1)with h|h
  ·exfalso;have hpp:=kF (j+n);have q1:=hB (show(vt*(4294967296:Int)+(4294967296:Int))*(4294967296:Int)≤(u0*(4294967296:Int)+u1)*(4294967296:Int)+u2 by omega) (zA hpp);have q2:=hB (show vt*(4294967296:Int)+vs+1≤vt*(4294967296:Int)+(4294967296:Int) by omega) (zA hpp);have e1:(vt*(4294967296:Int)+(4294967296:Int))*(4294967296:Int)*(4294967296:Int)^(j+n)=(4294967296:Int)*((vt*(4294967296:Int)+(4294967296:Int))*(4294967296:Int)^(j+n)):=by grind
   have e2:(vt*(4294967296:Int)+vs+1)*(4294967296:Int)^(j+n)=(vt*(4294967296:Int)+vs)*(4294967296:Int)^(j+n)+(4294967296:Int)^(j+n):=by grind
   omega
  ·exact h
 have hX0:0≤u0*(4294967296:Int)+u1:=by omega
 have hdm:=pC (u0*(4294967296:Int)+u1) vt;have hm0:=hE (u0*(4294967296:Int)+u1) (b:=vt) (by omega);have hm1:=hD (u0*(4294967296:Int)+u1) (b:=vt) (by omega);have hd0:0≤(u0*(4294967296:Int)+u1)/vt:=hM hX0 (by omega);have hd1:(u0*(4294967296:Int)+u1)/vt≤4294967297:=by
  rcases zB 4294967297 ((u0*(4294967296:Int)+u1)/vt)with h|h
  ·exfalso;have:=iA (show 4294967298≤(u0*(4294967296:Int)+u1)/vt by omega) (show 0≤vt by omega);omega
  ·exact h
 have hX:jA (u0*(4294967296:Int)+u1)=u0*(4294967296:Int)+u1:=xA hX0 (by omega);have hguess0:∀q,0≤q→q<(4294967296:Int)→q*(vt*(4294967296:Int)+vs)≤(u0*(4294967296:Int)+u1)*(4294967296:Int)+u2→q≤(u0*(4294967296:Int)+u1)/vt:=by
  intro q q0 q1 hq;have f1:q*(vt*(4294967296:Int)+vs)=q*vt*(4294967296:Int)+q*vs:=by grind
  have f2:=iB q0 gs.1;have f3:q*vt≤u0*(4294967296:Int)+u1:=by
   rcases zB (u0*(4294967296:Int)+u1) (q*vt)with h|h
   ·omega
   ·exact h
  exact(a8 (by omega)).mpr f3
 have hdm':(u0*(4294967296:Int)+u1)/vt*vt+(u0*(4294967296:Int)+u1)%vt=u0*(4294967296:Int)+u1:=by rw[j0];exact hdm
 have w2:aA ((v.length:Int)-1)=((n+1:Nat):Int):=by rw[fA (by omega) (by omega)];omega
 have w3:aA (((j+n+2:Nat):Int)-1)=((j+n+1:Nat):Int):=by rw[fA (by omega) (by omega)];omega
 have w5:aA ((j:Int)+(v.length:Int))=((j+n+2:Nat):Int):=by rw[fA (by omega) (by omega)];omega
 have t1:((j+n+2:Nat):Int).toNat=j+n+2:=by omega
 have t2:((j+n+1:Nat):Int).toNat=j+n+1:=by omega
 have t3:((n+1:Nat):Int).toNat=n+1:=by omega
 have b0:decide ((j:Int)≥0)=true:=decide_eq_true (by omega);have b1:(decide (0≤((j+n+2:Nat):Int))&&decide (((j+n+2:Nat):Int)<(u.length:Int)))=true:=by simp;omega
 have b2:(decide (0≤((j+n+1:Nat):Int))&&decide (((j+n+1:Nat):Int)<(u.length:Int)))=true:=by simp;omega
 have b3:(decide (0≤((n+1:Nat):Int))&&decide (((n+1:Nat):Int)<(v.length:Int)))=true:=by simp;omega
 have evt:jA vt=vt:=xA (by omega) (by omega);have b4:(vt==0)=false:=by simp;omega
 have er:fE .u64 (jA (jA u0*2^32)) (jA u1)=u0*(4294967296:Int)+u1:=by rw[xA g0.1 (by omega),xA g1.1 (by omega),wP,xA (n:=u0*4294967296) (by omega) (by omega),nP g0.1 g0.2 g1.1 g1.2]
 rw[Q18.l7];simp only[b0,w5,w3,w2,b1,b2,b3,cond_true,t1,t2,t3,hvt,hu0,hu1,evt,b4,j2,er,mE hX0,yD hX0];rw[xA hd0 (by omega)];obtain⟨d,d0,d1,hdle,hdq,hgo⟩:=sy N v u out (n+2) j s (u0*(4294967296:Int)+u1) (by omega) hn.symm (by omega) (by omega) (by omega) hv hu vt vs u2 hvt hvs hu2 htop' hXle
  (fun y27 y28 y29 y30 y31 y32 y33=>
   bif (((decide (0≤y29))&&(decide (y29≤(aA ((aA (y29+y27))+1)))))&&(decide ((aA ((aA (y29+y27))+1))≤(aA ((aA (y29+y27))+1)))))&&(decide ((aA ((aA (y29+y27))+1))≤(y32.length:Int)))then
    (Q17.f N y29.toNat (((aA ((aA (y29+y27))+1)).toNat)-y29.toNat) y31 (rB y30) y32).bind fun r34=>
    bif !r34.1 then
     bif (decide (0≤y29))&&(decide (y29<(y33.length:Int)))then
      Q18.l7 N f y27 y28 (aA (y29-1)) y31 r34.2 (y33.set y29.toNat (rB y30)) K0
     else none
    else
    bif (decide (0≤y29))&&(decide (y29<(y33.length:Int)))then
     Q18.l21 N N y27 y28 y29 y29.toNat (((aA ((aA (y29+y27))+1)).toNat)-y29.toNat) 0 ((((aA ((aA (y29+y27))+1)).toNat)-y29.toNat:Nat):Int) 0 y31 r34.2 (y33.set y29.toNat (rB ((rB y30)-1)))
      (fun y52 y53 y54 y55 y56 y57=>
       Q18.l7 N f y52 y53 (aA (y54-1)) y55 y56 y57 K0)
    else none
   else none) N ((u0*(4294967296:Int)+u1)/vt) ((u0*(4294967296:Int)+u1)%vt) hd0 hd1 hm0 (by omega) hdm' (by omega) hguess0
 have hn':(v.length:Int)=((n+2:Nat):Int):=by omega
 have hgo':=hgo;rw[←hn']at hgo';rw[hgo'];obtain⟨_,q,q0,q1,q2,q3,q4⟩:=mo (kF (j+n)) hU hW U2 U3 hlow.1 hlow.2 (by omega) gs.1 d0 d1 hdle hdq hub.1 hUW;have hUb':nv (4294967296:Int) u<(4294967296:Int)^(j+(v.length+1)):=by
  have e:j+(v.length+1)=j+n+3:=by omega
  rw[e];exact hUb
 obtain⟨z,z1,z2,z3,z4⟩:=Ef hN v hv hvl s K0 f j u out hu hl hul hj hUb' d q d0 d1 q0 q1 q2 q3 q4;exact⟨q,z,q0,q1,q3,z1,z2,z3,z4⟩
theorem Af {N:Nat}(hN:1000000001<N){R:Type}(v:List Int)(hv:qC (4294967296:Int) v)(h2:2≤v.length)(hvl:v.length≤10000000)(htop:2147483648≤v.getD (v.length-1) 0)(s:Int)(K0:Int→List Int→List Int→Option R):
  ∀(m fuel:Nat) (u out:List Int),qC (4294967296:Int) u→qC (4294967296:Int) out→u.length=out.length+v.length→u.length≤100000000→m≤out.length→m<fuel→nv (4294967296:Int) u<(4294967296:Int)^m*nv (4294967296:Int) v→(∀k,k<m→out.getD k 0=0)→
   ∃u' out',qC (4294967296:Int) u'∧qC (4294967296:Int) out'∧u'.length=u.length∧out'.length=out.length∧nv (4294967296:Int) out'*nv (4294967296:Int) v+nv (4294967296:Int) u'=nv (4294967296:Int) out*nv (4294967296:Int) v+nv (4294967296:Int) u∧nv (4294967296:Int) u'<nv (4294967296:Int) v∧Q18.l7 N fuel (v.length:Int) s ((m:Int)-1) v u out K0=K0 s u' out':=by
 intro m;induction m with
 |zero=>
  intro fuel u out hu ho hl hul hm hf hlt hz;obtain⟨f,rfl⟩:∃f,fuel=f+1:=⟨fuel-1,by omega⟩
  refine⟨u,out,hu,ho,rfl,rfl,rfl,by simpa using hlt,?_⟩;rw[Q18.l7];have:decide (((0:Nat):Int)-1≥0)=false:=by decide
  rw[this];rfl
 |succ j ih=>
  intro fuel u out hu ho hl hul hm hf hlt hz;obtain⟨f,rfl⟩:∃f,fuel=f+1:=⟨fuel-1,by omega⟩
  obtain⟨n,hn⟩:∃n,v.length=n+2:=⟨v.length-2,by omega⟩
  have hUW:nv (4294967296:Int) u<(4294967296:Int)*((4294967296:Int)^j*nv (4294967296:Int) v):=by
   have e:(4294967296:Int)^(j+1)*nv (4294967296:Int) v=(4294967296:Int)*((4294967296:Int)^j*nv (4294967296:Int) v):=by rw[aE];grind
   omega
  obtain⟨q,z,q0,q1,q3,z1,z2,z3,z4⟩:=Ag hN v hv n hn hvl (by rw[hn]at htop;exact htop) s K0 f j u out hu hl hul (by omega) hUW;have o3:nv (4294967296:Int) (out.set j q)=nv (4294967296:Int) out+(4294967296:Int)^j*q:=by rw[pK (4294967296:Int) q out j (by omega),hz j (by omega)];simp
  have o4:∀k,k<j→(out.set j q).getD k 0=0:=fun k hk=>by rw[cD,List.getElem?_set_ne (by omega),←cD];exact hz k (by omega)
  have ol:(out.set j q).length=out.length:=by simp
  obtain⟨u'',out'',r1,r2,r3,r4,r5,r6,r7⟩:=ih f z (out.set j q) z1 (ho.set j q0 q1) (by omega) (by omega) (by omega) (by omega) (by
   have:(q+1)*((4294967296:Int)^j*nv (4294967296:Int) v)=q*((4294967296:Int)^j*nv (4294967296:Int) v)+(4294967296:Int)^j*nv (4294967296:Int) v:=by grind
   omega) o4
  have w4:((j+1:Nat):Int)-1=(j:Int):=by omega
  refine⟨u'',out'',r1,r2,by omega,by omega,?_,r6,by rw[w4,z4,r7]⟩;rw[r5,o3,z3];grind
theorem fb {l:List Int}(h:qC (4294967296:Int) l){n:Nat}(hn:l.length=n+1):nv (4294967296:Int) l=nv (4294967296:Int) (l.take n)+(4294967296:Int)^n*l.getD n 0∧0≤nv (4294967296:Int) (l.take n)∧nv (4294967296:Int) (l.take n)<(4294967296:Int)^n:=by
 have h1:=fD (4294967296:Int) l n (by omega);have h2:l.take (n+1)=l:=o2 (by omega);rw[h2]at h1;have h3:=kB (show(0:Int)<(4294967296:Int) by decide) (h.take n);have h4:(l.take n).length=n:=by rw[zE];omega
 rw[h4]at h3;exact⟨h1,h3.1,h3.2⟩
theorem Hy {x:Int}(h0:0<x)(h1:x<(4294967296:Int)):∃k:Nat,k≤31∧aA (32-bD x)=(k:Int)∧2147483648≤2^k*x∧2^k*(x+1)≤(4294967296:Int):=by
 have b0:=gC x;have b1:bD x≤(32:Nat):=(qF (zA h0) 32).mpr (by rw[show(2:Int)^32=(4294967296:Int)from wP];exact h1);have b2:¬bD x≤(0:Nat):=fun h=>by have:=(qF (zA h0) 0).mp h;simp at this;omega
 obtain⟨m,hm⟩:∃m:Nat,bD x=(m:Int)+1:=⟨(bD x).toNat-1,by omega⟩
 have hm31:m≤31:=by omega
 have u1:x<2^(m+1):=(qF (zA h0) (m+1)).mp (by omega);have u2:¬x<2^m:=fun h=>by have:=(qF (zA h0) m).mpr h;omega
 refine⟨31-m,by omega,by rw[fA (by omega) (by omega)];omega,?_,?_⟩
 ·have:=iA (show(2:Int)^m≤x by omega) (zA (oP (31-m)));rw[←hS]at this;have e:31-m+m=31:=by omega
  rw[e]at this;have e2:(2:Int)^31=2147483648:=by decide
  omega
 ·have:=iA (show x+1≤(2:Int)^(m+1) by omega) (zA (oP (31-m)));rw[←hS]at this;have e:31-m+(m+1)=32:=by omega
  rw[e,wP]at this;exact this
theorem tn {N:Nat}(hN:1000000001<N){a b:List Int}(ha:zP (4294967296:Int) a)(hb:zP (4294967296:Int) b)(h2:2≤b.length)(hle:b.length≤a.length)(hs:a.length≤1000000):
  Q18.f N a b=some (enc (4294967296:Int) (nv (4294967296:Int) a/nv (4294967296:Int) b),enc (4294967296:Int) (nv (4294967296:Int) a%nv (4294967296:Int) b)):=by
 obtain⟨n,hn⟩:∃n,b.length=n+1:=⟨b.length-1,by omega⟩
 have hbne:b≠ []:=fun h=>by rw[h]at h2;simp at h2
 have htop:=hb.top hbne;have hbl:=hb.lower (by decide) hbne;have w1:aA ((b.length:Int)-1)=(n:Int):=by rw[fA (by omega) (by omega)];omega
 have t1:(n:Int).toNat=n:=by omega
 have b1:(decide (0≤(n:Int))&&decide ((n:Int)<(b.length:Int)))=true:=by simp;omega
 have e1:b.length-1=n:=by omega
 rw[e1]at htop hbl;have gt:=hb.dig.get (by decide) n;obtain⟨s1,s2,s3⟩:=fb hb.dig hn;generalize htp:b.getD n 0=tp at*;obtain⟨k,k0,k1,k2,k3⟩:=Hy (x:=tp) (by omega) gt.2;have hp2:=oP k;have hPn:=kF n;have fitb:2^k*nv (4294967296:Int) b<(4294967296:Int)^b.length:=by
  have q1:2^k*nv (4294967296:Int) b<2^k*((4294967296:Int)^n*(tp+1)):=hT (by rw[s1];grind) hp2;have q2:=iA k3 (zA hPn);have e:2^k*((4294967296:Int)^n*(tp+1))=(4294967296:Int)^n*(2^k*(tp+1)):=by grind
  rw[hn,aE];omega
 have hab:=kB (show(0:Int)<(4294967296:Int) by decide) ha.dig;have hbb:=kB (show(0:Int)<(4294967296:Int) by decide) hb.dig;have fita:2^k*nv (4294967296:Int) a<(4294967296:Int)^(a.length+1):=by have q1:=hT hab.2 hp2;have q2:=hB (show(2:Int)^k≤(4294967296:Int) by have:=xr k0;omega) (zA (kF a.length));rw[aE];have e:(4294967296:Int)^a.length*(4294967296:Int)=(4294967296:Int)*(4294967296:Int)^a.length:=j0 _ _;omega
 obtain⟨v,v1,v2,v3,v4⟩:=qe hN hb.dig k0 (m:=b.length) (by omega) (hK _) fitb;obtain⟨u,u1,u2,u3,u4⟩:=qe hN ha.dig k0 (m:=a.length+1) (by omega) (by omega) fita;have w2:aA ((a.length:Int)+1)=((a.length+1:Nat):Int):=by rw[fA (by omega) (by omega)];omega
 obtain⟨m,hm⟩:∃m,a.length+1=b.length+m:=⟨a.length+1-b.length,by omega⟩
 have w3:aA ((u.length:Int)- (b.length:Int))=(m:Int):=by rw[fA (by omega) (by omega)];omega
 have w4:aA ((m:Int)-1)=(m:Int)-1:=fA (by omega) (by omega);have t2:(m:Int).toNat=m:=by omega
 unfold Q18.f Q13.f;rw[w1,b1,t1,htp,lV N gt.1 gt.2];simp only[cond_true,hA];rw[k1,v4,w2,u4];simp only[hA];rw[w3,ni (by omega),t2,w4];simp only[cond_true];have hvt:2147483648≤v.getD (v.length-1) 0:=by
  obtain⟨x1,x2,x3⟩:=fb v1 (n:=n) (by omega);have e2:v.length-1=n:=by omega
  rw[e2];rcases zB (v.getD n 0) 2147483648 with h|h
  ·exfalso;have q1:=iA (show v.getD n 0+1≤2147483648 by omega) (zA hPn);have q2:=iA k2 (zA hPn);have q3:=iB (zA hp2) s2;have e3:2^k*nv (4294967296:Int) b=2^k*nv (4294967296:Int) (b.take n)+(4294967296:Int)^n*(2^k*tp):=by rw[s1];grind
   have e4:(4294967296:Int)^n*(v.getD n 0+1)=(4294967296:Int)^n*v.getD n 0+(4294967296:Int)^n:=by grind
   omega
  ·exact h
 have hVpos:0<nv (4294967296:Int) b:=by have:=kF n;omega
 have hlt:nv (4294967296:Int) u<(4294967296:Int)^m*nv (4294967296:Int) v:=by
  rw[u3,v3];have q1:=iA hbl (zA (kF m));rw[←hS]at q1;have e5:m+n=a.length:=by omega
  rw[e5]at q1;have q2:=hT (show nv (4294967296:Int) a<(4294967296:Int)^m*nv (4294967296:Int) b by omega) hp2;have e6:(4294967296:Int)^m*(2^k*nv (4294967296:Int) b)=2^k*((4294967296:Int)^m*nv (4294967296:Int) b):=by grind
  omega
 obtain⟨u',out',r1,r2,r3,r4,r5,r6,r7⟩:=Af hN v v1 (by omega) (by omega) hvt (k:Int) (fun y61 y62 y63=>
     (Q2.f N 0 y63.length y63).bind fun r64=>
     (Q16.f N y62 y61).bind fun r65=>
     some ((r64.2.2.drop r64.1).take r64.2.1,r65)) m N u (List.replicate m 0) u1 (qC.replicate (by decide) m) (by simp;omega) (by omega) (by simp) (by omega) hlt (fun k _=>jk m k)
 rw[v2]at r7;rw[r7];have hol:out'.length=m:=by rw[r4];simp
 obtain⟨c1,c2⟩:=nN hN out' (by omega);rw[c1];simp only[hA,c2];rw[rv hN r1 (by omega) k0,fK r2];simp only[hA];rw[uF,bs,c6,u3,v3]at r5;rw[v3]at r6;have hub:=kB (show(0:Int)<(4294967296:Int) by decide) r1;have hdvd:nv (4294967296:Int) u'=2^k*(nv (4294967296:Int) a-nv (4294967296:Int) out'*nv (4294967296:Int) b):=by
  have:nv (4294967296:Int) out'*(2^k*nv (4294967296:Int) b)=2^k*(nv (4294967296:Int) out'*nv (4294967296:Int) b):=by grind
  rw[Int.mul_sub];omega
 have hdiv:nv (4294967296:Int) u'/2^k=nv (4294967296:Int) a-nv (4294967296:Int) out'*nv (4294967296:Int) b:=by rw[hdvd];exact hI _ (by omega)
 have lo:0≤nv (4294967296:Int) a-nv (4294967296:Int) out'*nv (4294967296:Int) b:=by rw[←hdiv];exact hM hub.1 (zA hp2)
 have hi:nv (4294967296:Int) a-nv (4294967296:Int) out'*nv (4294967296:Int) b<nv (4294967296:Int) b:=by rw[hdvd]at r6;exact Int.lt_of_mul_lt_mul_left r6 (zA hp2)
 have hu:=(sS (a:=nv (4294967296:Int) a) (r:=nv (4294967296:Int) a-nv (4294967296:Int) out'*nv (4294967296:Int) b) (q:=nv (4294967296:Int) out') hVpos).mpr ⟨by grind,lo,hi⟩;rw[hdiv,hu.1,hu.2]
theorem bk {N:Nat}(hN:1000000001<N){u v:Int}(hu:Rg u)(hv:Rg v):Q19.f N (enc (4294967296:Int) u) (enc (4294967296:Int) v)=some (if v=0 then([],[],11)else(enc (4294967296:Int) (u/v),enc (4294967296:Int) (u%v),0)):=by
 obtain⟨hu0,huK⟩:=hu;obtain⟨hv0,hvK⟩:=hv;obtain⟨cu,eu⟩:=oB B2 hu0;obtain⟨cv,ev⟩:=oB B2 hv0;have lu:=gE hu0 huK;have lv:=gE hv0 hvK;unfold Q19.f;by_cases hz:v=0
 ·subst hz;rw[vG B2];simp
 ·rw[if_neg hz];have hne:enc (4294967296:Int) v≠ []:=fun h=>hz ((qW B2 hv0).mp h);have hlen:0<(enc (4294967296:Int) v).length:=dQ.mpr hne;have c0:(((enc (4294967296:Int) v).length:Int)==0)=false:=by simp;omega
  rw[c0,fv hN hu0 huK hv0];simp only[cond_false,hA];by_cases hlt:u<v
  ·have:decide (bS u v<0)=true:=by unfold bS;rw[if_neg (by omega),if_pos hlt];rfl
   rw[this,u7 hu0 hlt,Int.emod_eq_of_lt hu0 hlt,vG B2];rfl
  ·have:decide (bS u v<0)=false:=by
    unfold bS;by_cases h:u=v
    ·rw[if_pos h];rfl
    ·rw[if_neg h,if_neg hlt];rfl
   rw[this];simp only[cond_false];have hvp:0<v:=by omega
   by_cases h1:(enc (4294967296:Int) v).length=1
   ·have c1:(((enc (4294967296:Int) v).length:Int)==1)=true:=by simp;omega
    have c2:decide (0<((enc (4294967296:Int) v).length:Int))=true:=decide_eq_true (by omega);obtain⟨x,hx⟩:∃x,enc (4294967296:Int) v=[x]:=by
     match hh:enc (4294967296:Int) v,h1 with
     | [x],_=>exact⟨x,rfl⟩
    have hxv:x=v:=by rw[hx]at ev;simpa[nv]using ev
    subst hxv;have hxb:x<(4294967296:Int):=by have:=cv.dig x (by rw[hx];simp);exact this.2
    rw[c1,c2,sK (by omega)];simp only[cond_true];have hg:(enc (4294967296:Int) x).getD 0 0=x:=by rw[hx];rfl
    obtain⟨l',g1,g2,g3,g4⟩:=pa hN cu.dig (m:=(enc (4294967296:Int) u).length) (hK _) (by omega) hvp hxb;rw[o2 (hK _),eu]at g3 g4;have g3':nv (4294967296:Int) l'=u/x:=by rw[←g3,o2 (by omega)]
    rw[hg,g4];simp only[hA];obtain⟨k1,k2⟩:=nN hN l' (by omega);have m0:=hE u (b:=x) (by omega);have m1:=hD u (b:=x) hvp;rw[k1,xA m0 (by omega),zS hN m0 (by omega)];simp only[hA,k2];rw[fK g1,g3']
   ·have c1:(((enc (4294967296:Int) v).length:Int)==1)=false:=by simp;omega
    have hle:(enc (4294967296:Int) v).length≤(enc (4294967296:Int) u).length:=by
     rcases j3 (enc (4294967296:Int) u).length (enc (4294967296:Int) v).length with h|h
     ·have:=dL cu cv h;omega
     ·exact h
    rw[c1,tn hN cu cv (by omega) hle (by omega),eu,ev];rfl
def fB (a b:Int):Int:=(Int.gcd a b:Int)
theorem fP {a b:Int}(ha:0≤a)(hb:0<b):fB b (a%b)=fB a b:=by
 unfold fB;obtain⟨m,rfl⟩:=c4 ha;obtain⟨n,rfl⟩:=c4 (zA hb);have e:((m:Int)%(n:Int))=((m%n:Nat):Int):=by simp
 rw[e];show((Nat.gcd n (m%n):Nat):Int)=((Nat.gcd m n:Nat):Int);rw[Nat.gcd_comm n,←Nat.gcd_rec,Nat.gcd_comm]
theorem mK {a:Int}(ha:0≤a):fB a 0=a:=by
 unfold fB;rw[Int.gcd_zero_right];omega
theorem cm {v r:Int}(hr:0<r)(hv:r<v):2*(v%r)<v:=by
 have h1:=pC v r;have h2:=hD v hr;have h3:1≤v/r:=(a8 hr).mpr (by omega);have h4:=iA h3 (zA hr);omega
theorem mS {N:Nat}(hN:1000000001<N){R:Type}(K0:List Int→Option R):∀(k n:Nat) (u v:Int),Rg u→Rg v→v<2^k→2*k+1≤n→Q20.l1 N n (enc (4294967296:Int) u) (enc (4294967296:Int) v) K0=K0 (enc (4294967296:Int) (fB u v)):=by
 have stop:∀(n:Nat) (u:Int),Rg u→Q20.l1 N (n+1) (enc (4294967296:Int) u) (enc (4294967296:Int) 0) K0=K0 (enc (4294967296:Int) (fB u 0)):=by intro n u hu;rw[Q20.l1,vG B2,mK hu.1];rfl
 have one:∀(n:Nat) (u v:Int),Rg u→Rg v→v≠0→Q20.l1 N (n+1) (enc (4294967296:Int) u) (enc (4294967296:Int) v) K0=Q20.l1 N n (enc (4294967296:Int) v) (enc (4294967296:Int) (u%v)) K0:=by intro n u v hu hv hz;rw[Q20.l1];have hne:enc (4294967296:Int) v≠ []:=fun h=>hz ((qW B2 hv.1).mp h);have hlen:0<(enc (4294967296:Int) v).length:=dQ.mpr hne;have c:decide (((enc (4294967296:Int) v).length:Int)>0)=true:=decide_eq_true (by omega);rw[c,bk hN hu hv,if_neg hz];rfl
 have rem:∀(u v:Int),Rg u→Rg v→v≠0→Rg (u%v)∧u%v<v:=by
  intro u v hu hv hz;have hp:0<v:=by have:=hv.1;omega
  have h0:=hE u hz;have h1:=hD u hp;exact⟨⟨h0,by have:=hv.2;omega⟩,h1⟩
 intro k;induction k with
 |zero=>
  intro n u v hu hv hk hn;obtain⟨n',rfl⟩:∃n',n=n'+1:=⟨n-1,by omega⟩
  have hv0:=hv.1;have:v=0:=by simp at hk;omega
  subst this;exact stop n' u hu
 |succ k ih=>
  intro n u v hu hv hk hn;obtain⟨n',rfl⟩:∃n',n=n'+1+1:=⟨n-2,by omega⟩
  have hu0:=hu.1;have hv0:=hv.1;by_cases hz:v=0
  ·subst hz;exact stop _ u hu
  ·obtain⟨r1,r2⟩:=rem u v hu hv hz;have g1:=fP hu0 (show 0<v by omega);rw[one _ u v hu hv hz,←g1];generalize u%v=r at*;by_cases hr:r=0
   ·subst hr;exact stop _ v hv
   ·have hr0:=r1.1;obtain⟨q1,q2⟩:=rem v r hv r1 hr;have g2:=fP hv0 (show 0<r by omega);rw[one _ v r hv r1 hr,←g2];have hh:=cm (show 0<r by omega) r2;have hp:(2:Int)^(k+1)=2*2^k:=by rw[aE];omega
    exact ih n' r (v%r) r1 q1 (by omega) (by omega)
theorem Aa {N:Nat}(hN:1000000001<N){u v:Int}(hu:Rg u)(hv:Rg v):Q20.f N (enc (4294967296:Int) u) (enc (4294967296:Int) v)=some (enc (4294967296:Int) (fB u v)):=by
 unfold Q20.f;exact mS hN _ 4096 N u v hu hv (by have:=hv.2;unfold K at this;exact this) (by omega)
theorem wq {u v:Int}(hu:Rg u)(hv:Rg v):Rg (fB u v):=by
 have h0:0≤fB u v:=by unfold fB;omega
 refine⟨h0,?_⟩;by_cases hz:u=0
 ·subst hz;have:fB 0 v=v:=by unfold fB;rw[Int.gcd_zero_left];have:=hv.1;omega
  rw[this];exact hv.2
 ·have:=h9 (by have:=hu.1;omega) (Int.gcd_dvd_left u v);have h2:=hu.2;unfold fB;omega
theorem Az {N:Nat}(hN:1000000001<N){R:Type}(K0:List Int→Option R):∀(k n:Nat) (u v:Int),Rg u→Rg v→v<2^k→2*k+1≤n→Q30.l1 N n (enc (65536:Int) u) (enc (65536:Int) v) K0=K0 (enc (65536:Int) (fB u v)):=by
 have stop:∀(n:Nat) (u:Int),Rg u→Q30.l1 N (n+1) (enc (65536:Int) u) (enc (65536:Int) 0) K0=K0 (enc (65536:Int) (fB u 0)):=by intro n u hu;rw[Q30.l1,vG H2,mK hu.1];rfl
 have len:∀(u:Int),Rg u→(enc (65536:Int) u).length≤256:=fun u hu=>bJ hu.lo (by rw[←Jd];exact hu.hi);have one:∀(n:Nat) (u v:Int),Rg u→Rg v→v≠0→Q30.l1 N (n+1) (enc (65536:Int) u) (enc (65536:Int) v) K0=Q30.l1 N n (enc (65536:Int) v) (enc (65536:Int) (u%v)) K0:=by intro n u v hu hv hz;rw[Q30.l1];have hne:enc (65536:Int) v≠ []:=fun h=>hz ((qW H2 hv.1).mp h);have hlen:0<(enc (65536:Int) v).length:=dQ.mpr hne;have c:decide (((enc (65536:Int) v).length:Int)>0)=true:=decide_eq_true (by omega);have hu0:=len u hu;have hv0:=len v hv;have hvl:=hv.lo;rw[c,oa hN hu.lo (by omega) (by omega) (by omega)];rfl
 have rem:∀(u v:Int),Rg u→Rg v→v≠0→Rg (u%v)∧u%v<v:=by
  intro u v hu hv hz;have hp:0<v:=by have:=hv.1;omega
  have h0:=hE u hz;have h1:=hD u hp;exact⟨⟨h0,by have:=hv.2;omega⟩,h1⟩
 intro k;induction k with
 |zero=>
  intro n u v hu hv hk hn;obtain⟨n',rfl⟩:∃n',n=n'+1:=⟨n-1,by omega⟩
  have hv0:=hv.1;have:v=0:=by simp at hk;omega
  subst this;exact stop n' u hu
 |succ k ih=>
  intro n u v hu hv hk hn;obtain⟨n',rfl⟩:∃n',n=n'+1+1:=⟨n-2,by omega⟩
  have hu0:=hu.1;have hv0:=hv.1;by_cases hz:v=0
  ·subst hz;exact stop _ u hu
  ·obtain⟨r1,r2⟩:=rem u v hu hv hz;have g1:=fP hu0 (show 0<v by omega);rw[one _ u v hu hv hz,←g1];generalize u%v=r at*;by_cases hr:r=0
   ·subst hr;exact stop _ v hv
   ·have hr0:=r1.1;obtain⟨q1,q2⟩:=rem v r hv r1 hr;have g2:=fP hv0 (show 0<r by omega);rw[one _ v r hv r1 hr,←g2];have hh:=cm (show 0<r by omega) r2;have hp:(2:Int)^(k+1)=2*2^k:=by rw[aE];omega
    exact ih n' r (v%r) r1 q1 (by omega) (by omega)
theorem uo {N:Nat}(hN:1000000001<N){u v:Int}(hu:Rg u)(hv:Rg v):Q30.f N (enc (65536:Int) u) (enc (65536:Int) v)=some (enc (65536:Int) (fB u v)):=by
 unfold Q30.f;exact Az hN _ 4096 N u v hu hv (by have:=hv.2;unfold K at this;exact this) (by omega)
def ab (x:Int):Int:=if x<0 then-x else x
theorem wA (x:Int):0≤ab x:=by unfold ab;split<;>omega
theorem cB (x:Int):(0≤x∧ab x=x)∨(x<0∧ab x= -x):=by unfold ab;split<;>omega
theorem uE {x:Int}:ab x=0↔x=0:=by rcases cB x with⟨h,e⟩|⟨h,e⟩<;>omega
def sg (x:Int):Bool:=decide (x<0)
theorem tt (N:Nat){v:Int}(b:Bool)(h:Rg v):Q31.f N b (enc (4294967296:Int) v)=some (b&&decide (0<v),enc (4294967296:Int) v):=by
 obtain⟨h1,h2⟩:=oB B2 h.lo;have hl:=gE h.lo h.hi;unfold Q31.f;rw[aH N h1 (by omega),h2];cases b
 ·rfl
 ·have:=gC v;have hz:=qF h.lo 0;have e0:(2:Int)^0=1:=rfl;rw[e0]at hz;have:decide (bD v>0)=decide (0<v):=by
   refine decide_eq_decide.mpr ⟨fun q=>?_,fun q=>?_⟩
   ·rcases zB 0 v with p|p
    ·exact p
    ·have:=hz.mpr (by omega);omega
   ·rcases zB 0 (bD v)with p|p
    ·exact p
    ·have:=hz.mp (by omega);omega
  simp[this]
noncomputable def pB (x:Int):List Int:=enc (4294967296:Int) (ab x)
noncomputable def pH (x:Int):List Int:=enc (65536:Int) (ab x)
def sv (b:Bool)(v:Int):Int:=if b then-v else v
abbrev Zr (x:Int):Prop:=Rg (ab x)
theorem xt:pB 0=[]:=vG B2
theorem xu:pH 0=[]:=vG H2
theorem zW:sg 0=false:=rfl
theorem uB {v:Int}(h:0≤v):ab v=v:=by unfold ab;rw[if_neg (by omega)]
theorem we (x:Int):ab (ab x)=ab x:=uB (wA x)
theorem yO (x:Int):ab (-x)=ab x:=by unfold ab;split<;>split<;>omega
theorem He (b:Bool){v:Int}(h:0≤v):sg (sv b v)=(b&&decide (0<v)):=by
 unfold sg sv;cases b
 ·simp;omega
 ·rw[if_pos rfl];by_cases h1:0<v
  ·rw[decide_eq_true h1,decide_eq_true (by omega)];rfl
  ·rw[decide_eq_false h1,decide_eq_false (by omega)];rfl
theorem nX (b:Bool){v:Int}(h:0≤v):ab (sv b v)=v:=by
 unfold ab sv;cases b
 ·simp;omega
 ·rw[if_pos rfl];split<;>omega
theorem J1 (x:Int):sv (sg x) (ab x)=x:=by
 unfold sv sg ab;by_cases h:x<0<;>simp[h]
theorem Ej (x:Int):sv (!sg x) (ab x)= -x:=by
 unfold sv sg ab;by_cases h:x<0<;>simp[h]
theorem eD (x:Int):(sg x=true∧x<0∧ab x= -x)∨(sg x=false∧0≤x∧ab x=x):=by
 unfold sg ab;by_cases h:x<0
 ·left;exact⟨decide_eq_true h,h,if_pos h⟩
 ·right;exact⟨decide_eq_false h,by omega,if_neg h⟩
theorem bX (b:Bool):sv b 0=0:=by cases b<;>rfl
theorem tE {x:Int}(h:ab x<K):Zr x:=⟨wA x,h⟩
theorem fX:Zr 0:=tE wc
theorem Il {x:Int}(h:Zr x):Zr (-x):=tE (by rw[yO];exact h.hi)
theorem J7 {x:Int}(h:Zr x):Zr (ab x):=tE (by rw[we];exact h.hi)
def zo (r:Int):Int:=if ab r<K then r else 0
def ze (r:Int):Int:=if ab r<K then 0 else 3
theorem qk {r:Int}(h:Zr r):zo r=r:=if_pos h.hi
theorem J6 {r:Int}(h:Zr r):ze r=0:=if_pos h.hi
theorem gM {N:Nat}{v:Int}(b:Bool)(h:Rg v):Q31.f N b (enc (4294967296:Int) v)=some (sg (sv b v),pB (sv b v)):=by
 rw[tt N b h,He b h.lo];unfold pB;rw[nX b h.lo]
theorem jx {N:Nat}{x:Int}(b:Bool)(h:Zr x):Q31.f N b (pB x)=some (sg (sv b (ab x)),pB (sv b (ab x))):=gM b h
theorem Fa (u v:Int):decide (bS u v<0)=decide (u<v):=by
 unfold bS;by_cases h:u=v
 ·rw[if_pos h,decide_eq_false (show ¬u<v by omega)];rfl
 ·by_cases h1:u<v
  ·rw[if_neg h,if_pos h1,decide_eq_true h1];rfl
  ·rw[if_neg h,if_neg h1,decide_eq_false h1];rfl
theorem C9 (u v:Int):decide (bS u v≥0)=decide (v≤u):=by
 unfold bS;by_cases h:u=v
 ·rw[if_pos h,decide_eq_true (show v≤u by omega)];rfl
 ·by_cases h1:u<v
  ·rw[if_neg h,if_pos h1,decide_eq_false (show ¬v≤u by omega)];rfl
  ·rw[if_neg h,if_neg h1,decide_eq_true (show v≤u by omega)];rfl
theorem Bs {x y:Int}(h:sg x=sg y):sv (sg x) (ov (ab x+ab y))=zo (x+y)∧oe (ab x+ab y)=ze (x+y):=by
 have e:ab (x+y)=ab x+ab y:=by
  rcases eD x with⟨a1,a2,a3⟩|⟨a1,a2,a3⟩<;>rcases eD y with⟨b1,b2,b3⟩|⟨b1,b2,b3⟩<;>rw[a1,b1]at h
  ·rw[a3,b3];unfold ab;rw[if_pos (by omega)];omega
  ·cases h
  ·cases h
  ·rw[a3,b3];unfold ab;rw[if_neg (by omega)]
 have e2:sg (x+y)=sg x∨x+y=0:=by
  rcases eD x with⟨a1,a2,a3⟩|⟨a1,a2,a3⟩<;>rcases eD y with⟨b1,b2,b3⟩|⟨b1,b2,b3⟩<;>rw[a1,b1]at h
  ·left;rw[a1];exact decide_eq_true (by omega)
  ·cases h
  ·cases h
  ·left;rw[a1];exact decide_eq_false (by omega)
 unfold zo ze ov oe;rw[e];refine⟨?_,rfl⟩;split
 ·rw[←e];rcases e2 with e2|e2
  ·rw[←e2];exact J1 _
  ·rw[e2];exact bX _
 ·exact bX _
theorem Br {x y:Int}(hx:Zr x)(hy:Zr y)(h:sg x≠sg y):Zr (x+y)∧(ab x<ab y→sv (sg y) (ab y-ab x)=x+y)∧(ab y≤ab x→sv (sg x) (ab x-ab y)=x+y):=by
 have hx1:=hx.hi;have hy1:=hy.hi;rcases eD x with⟨a1,a2,a3⟩|⟨a1,a2,a3⟩<;>rcases eD y with⟨b1,b2,b3⟩|⟨b1,b2,b3⟩<;>rw[a1,b1]at h
 ·exact absurd rfl h
 ·refine⟨tE ?_,?_,?_⟩
  ·rcases cB (x+y)with⟨c1,c2⟩|⟨c1,c2⟩<;>omega
  ·intro _;rw[b1,a3,b3];unfold sv;simp;omega
  ·intro _;rw[a1,a3,b3];unfold sv;simp;omega
 ·refine⟨tE ?_,?_,?_⟩
  ·rcases cB (x+y)with⟨c1,c2⟩|⟨c1,c2⟩<;>omega
  ·intro _;rw[b1,a3,b3];unfold sv;simp;omega
  ·intro _;rw[a1,a3,b3];unfold sv;simp
 ·exact absurd rfl h
theorem Hi {N:Nat}(hN:1000000001<N){x y:Int}(hx:Zr x)(hy:Zr y):Q34.f N (sg x) (pB x) (sg y) (pB y)=some (sg (zo (x+y)),pB (zo (x+y)),ze (x+y)):=by
 unfold Q34.f;by_cases h:sg x=sg y
 ·have c:(sg x==sg y)=true:=by rw[h];exact beq_self_eq_true _
  obtain⟨e1,e2⟩:=Bs h;rw[c];simp only[cond_true];unfold pB;rw[Ip hN hx hy];simp only[hA];rw[gM _ (Rg.ov (by have:=hx.lo;have:=hy.lo;omega)),e1,e2];rfl
 ·have c:(sg x==sg y)=false:=beq_eq_false_iff_ne.mpr h;obtain⟨e1,e2,e3⟩:=Br hx hy h;rw[c,qk e1,J6 e1];simp only[cond_false];unfold pB;rw[Jf hN hx hy];simp only[hA];rw[Fa];by_cases hl:ab x<ab y
  ·rw[decide_eq_true hl];simp only[cond_true];rw[jm hN hy.lo hy.hi hx.lo,if_neg (by omega)];simp only[hA];rw[gM _ ⟨by omega,by have:=hy.hi;have:=hx.lo;omega⟩,e2 hl];rfl
  ·rw[decide_eq_false hl];simp only[cond_false];rw[jm hN hx.lo hx.hi hy.lo,if_neg hl];simp only[hA];rw[gM _ ⟨by omega,by have:=hx.hi;have:=hy.lo;omega⟩,e3 (by omega)];rfl
theorem Hj {N:Nat}{x:Int}(hx:Zr x):Q37.f N (sg x) (pB x)=some (sg (-x),pB (-x)):=by
 unfold Q37.f;rw[jx _ hx,Ej];rfl
theorem Hk {N:Nat}(hN:1000000001<N){x y:Int}(hx:Zr x)(hy:Zr y):Q38.f N (sg x) (pB x) (sg y) (pB y)=some (sg (zo (x-y)),pB (zo (x-y)),ze (x-y)):=by
 unfold Q38.f;rw[Hj hy];simp only[hA];rw[Hi hN hx (Il hy),e7];rfl
theorem fi (x y:Int):ab (x*y)=ab x*ab y:=by
 rcases cB x with⟨a2,a3⟩|⟨a2,a3⟩<;>rcases cB y with⟨b2,b3⟩|⟨b2,b3⟩<;>rw[a3,b3]
 ·exact uB (iB a2 b2)
 ·rw[c5,←yO,uB (by have:=iB a2 (show 0≤ -y by omega);rw[c5]at this;exact this)]
 ·rw[b9,←yO,uB (by have:=iB (show 0≤ -x by omega) b2;rw[b9]at this;exact this)]
 ·rw[Int.neg_mul_neg];exact uB (zA (Int.mul_pos_of_neg_of_neg a2 b2))
theorem Ei (x y:Int):sv (!(sg x==sg y)) (ab x*ab y)=x*y:=by
 rcases eD x with⟨a1,a2,a3⟩|⟨a1,a2,a3⟩<;>rcases eD y with⟨b1,b2,b3⟩|⟨b1,b2,b3⟩<;>rw[a1,b1,a3,b3]<;>unfold sv
 ·simp[Int.neg_mul_neg]
 ·simp[b9]
 ·simp[c5]
 ·simp
theorem De (x y:Int):sv (!(sg x==sg y)) (ov (ab x*ab y))=zo (x*y)∧oe (ab x*ab y)=ze (x*y):=by
 unfold zo ze ov oe;rw[fi];refine⟨?_,rfl⟩;split
 ·exact Ei x y
 ·exact bX _
theorem J4 {N:Nat}(hN:1000000001<N){x y:Int}(hx:Zr x)(hy:Zr y):Q35.f N (sg x) (pB x) (sg y) (pB y)=some (sg (zo (x*y)),pB (zo (x*y)),ze (x*y)):=by
 unfold Q35.f;obtain⟨e1,e2⟩:=De x y;unfold pB;rw[Jk hN hx hy];simp only[hA];rw[gM _ (Rg.ov (iB hx.lo hy.lo)),e1,e2];rfl
def sn (x:Int):Int:=if ab x=0 then 0 else if sg x then-1 else 1
theorem dI (x:Int):(x=0∧sn x=0)∨(x<0∧sn x= -1)∨(0<x∧sn x=1):=by
 unfold sn;by_cases h:x=0
 ·left;exact⟨h,if_pos (uE.mpr h)⟩
 ·rw[if_neg (fun q=>h (uE.mp q))];rcases eD x with⟨a1,a2,a3⟩|⟨a1,a2,a3⟩
  ·right;left;rw[a1];exact⟨a2,rfl⟩
  ·right;right;rw[a1];exact⟨by omega,rfl⟩
theorem vh (x:Int):decide (sn x<0)=decide (x<0):=by
 rcases dI x with⟨s1,s2⟩|⟨s1,s2⟩|⟨s1,s2⟩<;>rw[s2]
 ·rw[decide_eq_false (show ¬x<0 by omega)];rfl
 ·rw[decide_eq_true s1];rfl
 ·rw[decide_eq_false (show ¬x<0 by omega)];rfl
theorem xR {N:Nat}{x:Int}(hx:Zr x):Q36.f N (sg x) (pB x)=some (sn x):=by
 obtain⟨h1,h2⟩:=oB B2 hx.lo;have hl:=gE hx.lo hx.hi;unfold Q36.f pB;rw[aH N h1 (by omega),h2];simp only[hA];have hz:=wL hx.lo;unfold sn;by_cases h:ab x=0
 ·rw[if_pos h,hz.mpr h];rfl
 ·have c:(bD (ab x)==0)=false:=beq_eq_false_iff_ne.mpr (fun q=>h (hz.mp q));rw[if_neg h,c];cases sg x<;>rfl
theorem J5 {N:Nat}(hN:1000000001<N){n:Int}(h0: -9223372036854775808≤n)(h1:n<9223372036854775808):Q32.f N n=some (sg n,pB n):=by
 unfold Q32.f pB;rcases eD n with⟨a1,a2,a3⟩|⟨a1,a2,a3⟩
 ·have e:jA (0-jA n)= -n:=by rw[bG,bG];omega
  rw[decide_eq_true a2,e,zS hN (by omega) (by omega),a1,a3];rfl
 ·have d:decide (n<0)=false:=decide_eq_false (by omega);rw[d,xA (n:=n) (by omega) (by omega),a1,a3];simp only[cond_false];rw[zS hN (by omega) (by omega)];rfl
theorem lO {n:Int}(h0: -9223372036854775808≤n)(h1:n<9223372036854775808):Zr n:=tE (by have:=Gq;rcases cB n with⟨c1,c2⟩|⟨c1,c2⟩<;>omega)
theorem nz {x y:Int}(hy:y≠0):
  ((sg x=true∧0<ab x%ab y)→sv (!(sg x==sg y)) (ab x/ab y+1)=x/y∧ab y-ab x%ab y=x%y)∧
  (¬(sg x=true∧0<ab x%ab y)→sv (!(sg x==sg y)) (ab x/ab y)=x/y∧ab x%ab y=x%y):=by
 have yp:0<ab y:=by have:=wA y;have:ab y≠0:=fun q=>hy (uE.mp q);omega
 have e1:x/y=sv (sg y) (x/ab y)∧x%y=x%ab y:=by
  rcases eD y with⟨b1,b2,b3⟩|⟨b1,b2,b3⟩
  ·rw[b1,b3,Int.emod_neg,Int.ediv_neg];unfold sv;simp
  ·rw[b1,b3];exact⟨rfl,rfl⟩
 obtain⟨e2,e3⟩:=e1;rw[e2,e3];generalize ab y=d at*;rcases eD x with⟨a1,a2,a3⟩|⟨a1,a2,a3⟩
 ·rw[a1,a3];have d1:=pC (-x) d;have d2:=hE (-x) (show d≠0 by omega);have d3:=hD (-x) yp;generalize-x/d=q at*;generalize-x%d=r at*;refine⟨fun h=>?_,fun h=>?_⟩
  ·have u:=(sS (a:=x) (r:=d-r) (q:= -(q+1)) yp).mpr ⟨by grind,by omega,by omega⟩;rw[u.1,u.2];refine⟨?_,rfl⟩;cases sg y<;>simp[sv]
  ·have hr:r=0:=by
    rcases zB 0 r with h1|h1
    ·exact absurd ⟨rfl,h1⟩ h
    ·omega
   subst hr;have u:=(sS (a:=x) (r:=0) (q:= -q) yp).mpr ⟨by grind,by omega,by omega⟩;rw[u.1,u.2];refine⟨?_,rfl⟩;cases sg y<;>simp[sv]
 ·rw[a1,a3];refine⟨fun h=>(by cases h.1),fun _=>⟨?_,rfl⟩⟩;cases sg y<;>simp[sv]
theorem F0 {N:Nat}(hN:1000000001<N){x y:Int}(hx:Zr x)(hy:Zr y)(h:y≠0):Q39.f N (sg x) (pB x) (sg y) (pB y)=some (sg (x/y),pB (x/y),sg (x%y),pB (x%y),0)∧Zr (x/y)∧Zr (x%y):=by
 obtain⟨t1,t2⟩:=nz (x:=x) h;have x0:=hx.lo;have y0:=hy.lo;have xK:=hx.hi;have yK:=hy.hi;have hyz:ab y≠0:=fun q=>h (uE.mp q);have yp:0<ab y:=by omega
 have q0:0≤ab x/ab y:=hM x0 y0;have q1:ab x/ab y≤ab x:=c8 _ x0;have r0:=hE (ab x) hyz;have r1:=hD (ab x) yp;have hq:Rg (ab x/ab y):=⟨q0,by omega⟩
 have hr:Rg (ab x%ab y):=⟨r0,by omega⟩
 unfold Q39.f;unfold pB;rw[bk hN hx hy,if_neg hyz];have c0:((0:Int) != 0)=false:=rfl;simp only[hA,c0,cond_false];by_cases hc:sg x=true∧0<ab x%ab y
 ·obtain⟨u1,u2⟩:=t1 hc;obtain⟨c1,c2⟩:=hr.lo,hr.hi;obtain⟨h1,h2⟩:=oB B2 hr.lo;have hl:=gE hr.lo hr.hi;have hbit:=aH N h1 (by omega);rw[h2]at hbit;have hbz:=wL hr.lo;have hbn:=gC (ab x%ab y);have c3:decide (bD (ab x%ab y)>0)=true:=decide_eq_true (by
   have:bD (ab x%ab y)≠0:=fun q=>by have:=hbz.mp q;omega
   omega)
  rw[hc.1];simp only[cond_true];rw[hbit];simp only[hA,c3,cond_true];rw[zS hN (by decide) (by decide)];simp only[hA];have one:Rg 1:=⟨by decide,by have:=Gq;omega⟩
  have hq1:ab x/ab y+1<K:=by
   by_cases h2:ab y=1
   ·rw[h2,Int.emod_one]at hc;omega
   ·have d1:=pC (ab x) (ab y);have d2:=hB (show 2≤ab y by omega) q0;omega
  have hq1':Rg (ab x/ab y+1):=⟨by omega,hq1⟩
  rw[Ip hN hq one];simp only[hA];have ho:ov (ab x/ab y+1)=ab x/ab y+1:=if_pos hq1;rw[ho,jm hN y0 yK r0,if_neg (by omega)];simp only[hA];have hr':Rg (ab y-ab x%ab y):=⟨by omega,by omega⟩
  rw[gM _ hq1'];simp only[hA];rw[gM _ hr'];simp only[hA];rw[hc.1]at u1;have u3:sv false (ab y-ab x%ab y)=x%y:=u2;rw[u1,u3];refine⟨rfl,tE ?_,tE ?_⟩
  ·rw[←u1,nX _ (by omega)];exact hq1
  ·rw[←u2,uB (by omega)];omega
 ·obtain⟨u1,u2⟩:=t2 hc;have u3:sv false (ab x%ab y)=x%y:=u2;have fin:((Q31.f N (!(sg x==sg y)) (enc (4294967296:Int) (ab x/ab y))).bind fun r12=>
    (Q31.f N false (enc (4294967296:Int) (ab x%ab y))).bind fun r13=>
    some (r12.1,r12.2,r13.1,r13.2,(0:Int)))=some (sg (x/y),enc (4294967296:Int) (ab (x/y)),sg (x%y),enc (4294967296:Int) (ab (x%y)),0):=by
   rw[gM _ hq];simp only[hA];rw[gM _ hr];simp only[hA];rw[u1,u3];rfl
  refine⟨?_,tE ?_,tE ?_⟩
  ·by_cases hs:sg x=true
   ·obtain⟨h1,h2⟩:=oB B2 hr.lo;have hl:=gE hr.lo hr.hi;have hbit:=aH N h1 (by omega);rw[h2]at hbit;have hrz:ab x%ab y=0:=by
     rcases zB 0 (ab x%ab y)with h3|h3
     ·exact absurd ⟨hs,h3⟩ hc
     ·omega
    have c3:decide (bD (ab x%ab y)>0)=false:=by rw[(wL hr.lo).mpr hrz];rfl
    rw[hs]at fin⊢;simp only[cond_true];rw[hbit];simp only[hA,c3,cond_false];exact fin
   ·have hs':sg x=false:=by cases hq:sg x<;>simp_all
    rw[hs']at fin⊢;exact fin
  ·rw[←u1,nX _ q0];omega
  ·rw[←u2,uB r0];omega
theorem ym {N:Nat}(hN:1000000001<N){x y:Int}(hx:Zr x)(hy:Zr y)(h:y≠0):Q40.f N (sg x) (pB x) (sg y) (pB y)=some (if x%y=0 then(sg (x/y),pB (x/y),0)else(false,[],2)):=by
 obtain⟨q1,q2,q3⟩:=F0 hN hx hy h;unfold Q40.f;rw[q1];have c0:((0:Int) != 0)=false:=rfl;simp only[hA,c0,cond_false];rw[xR q3];simp only[hA];rcases dI (x%y)with⟨s1,s2⟩|⟨s1,s2⟩|⟨s1,s2⟩<;>rw[s2]
 ·rw[if_pos s1];rfl
 ·rw[if_neg (by omega)];rfl
 ·rw[if_neg (by omega)];rfl
theorem ar (x y:Int):ab (x+y)≤ab x+ab y:=by
 rcases cB x with⟨a1,a2⟩|⟨a1,a2⟩<;>rcases cB y with⟨b1,b2⟩|⟨b1,b2⟩<;>rcases cB (x+y)with⟨c1,c2⟩|⟨c1,c2⟩<;>omega
theorem aQ (x y:Int):ab (x-y)≤ab x+ab y:=by
 have:=ar x (-y);rw[yO,←e7]at this;exact this
theorem qi {n:Int}(h1:9223372036854775808≤n)(h2:n<18446744073709551616):aA n=n-18446744073709551616:=by
 simp only[aA,IntKind.wrap];simp[IntKind.bits,IntKind.signed];omega
theorem Jb {N:Nat}{x:Int}(hx:Zr x):Q33.f N (sg x) (pB x)=some (if-9223372036854775808≤x∧x<9223372036854775808 then(x,true)else(0,false)):=by
 unfold Q33.f pB;rw[Bb N hx.lo];simp only[hA];have x0:=hx.lo;by_cases h:ab x<18446744073709551616
 ·rw[if_pos h];simp only[b8,cond_false];by_cases h1:ab x>9223372036854775808
  ·rw[decide_eq_true h1,if_neg (by rcases cB x with⟨c1,c2⟩|⟨c1,c2⟩<;>omega)];rfl
  ·rw[decide_eq_false h1];simp only[cond_false];rcases eD x with⟨a1,a2,a3⟩|⟨a1,a2,a3⟩
   ·have e:aA (jA (0-ab x))=x:=by
     rw[bG];have:(0-ab x)%18446744073709551616=x+18446744073709551616:=by omega
     rw[this,qi (by omega) (by omega)];omega
    rw[a1,e,if_pos (by omega)];by_cases h2:ab x=9223372036854775808
    ·have c2:(ab x==9223372036854775808)=true:=by rw[h2];rfl
     rw[c2];rfl
    ·have c2:(ab x==9223372036854775808)=false:=beq_eq_false_iff_ne.mpr h2;rw[c2];rfl
   ·rw[a1];by_cases h2:ab x=9223372036854775808
    ·have c2:(ab x==9223372036854775808)=true:=by rw[h2];rfl
     rw[c2,if_neg (by omega)];rfl
    ·have c2:(ab x==9223372036854775808)=false:=beq_eq_false_iff_ne.mpr h2;rw[c2,if_pos (by omega),a3,fA (n:=x) (by omega) (by omega)];rfl
 ·rw[if_neg h,if_neg (by rcases cB x with⟨c1,c2⟩|⟨c1,c2⟩<;>omega)];rfl
structure qG (c m r s u v w z:Int):Prop where
 r0:0<r
 s0:0≤s
 sr:s<r
 rm:r≤m
 er:r=u*c+w*m
 es:s=v*c+z*m
 det:ab u*s+ab v*r=m
 op:(u≤0∧0≤v)∨(0≤u∧v≤0)
 half:2*ab u≤m
theorem yt {w m b:Int}(hm:0<m)(h:ab (w*m)≤b*m):ab w≤b:=by
 rw[fi,uB (show 0≤m by omega)]at h;exact Int.le_of_mul_le_mul_right h hm
theorem nx {c m r u w:Int}(hm:0<m)(r0:0≤r)(rm:r≤m)(er:r=u*c+w*m)(hu:ab u≤m):ab w≤1+ab c:=by
 refine yt hm ?_;have e:w*m=r-u*c:=by omega
 rw[e];have h1:=aQ r (u*c);rw[fi,uB r0]at h1;have h2:=hB hu (wA c);have e2:(1+ab c)*m=m+m*ab c:=by grind
 omega
theorem qG.vm {c m r s u v w z:Int}(h:qG c m r s u v w z):ab v≤m:=by
 have h1:=h.det;have h2:=iB (wA u) h.s0;have h3:=iA (show 1≤r by have:=h.r0;omega) (wA v);omega
theorem qG.m0 {c m r s u v w z:Int}(h:qG c m r s u v w z):0<m:=by have:=h.r0;have:=h.rm;omega
theorem qG.um {c m r s u v w z:Int}(h:qG c m r s u v w z):ab u≤m:=by
 have:=h.m0;have:=h.half;have:=wA u;omega
theorem qG.w1 {c m r s u v w z:Int}(h:qG c m r s u v w z):ab w≤1+ab c:=nx h.m0 (by have:=h.r0;omega) h.rm h.er h.um
theorem qG.z1 {c m r s u v w z:Int}(h:qG c m r s u v w z):ab z≤1+ab c:=nx h.m0 h.s0 (by have:=h.sr;have:=h.rm;omega) h.es h.vm
theorem qG.step {c m r s u v w z:Int}(h:qG c m r s u v w z)(hs:s≠0):qG c m s (r%s) v (u-r/s*v) z (w-r/s*z):=by
 have s0:0<s:=by have:=h.s0;omega
 have d1:=pC r s;have d2:=hE r hs;have d3:=hD r s0;have q0:0≤r/s:=hM (zA h.r0) h.s0;generalize r%s=t at*;generalize r/s=q at*;have ev:ab (u-q*v)=ab u+q*ab v∧((v≤0∧0≤u-q*v)∨(0≤v∧u-q*v≤0)):=by
  rcases h.op with⟨a,b⟩|⟨a,b⟩
  ·have hqv:=iB q0 b;have e1:ab v=v:=uB b;have e2:ab u= -u:=by rw[←yO];exact uB (by omega)
   have e3:ab (u-q*v)= -(u-q*v):=by rw[←yO];exact uB (by omega)
   rw[e1,e2,e3];exact⟨by omega,Or.inr ⟨b,by omega⟩⟩
  ·have hqv:=iB q0 (show 0≤ -v by omega);rw[c5]at hqv;have e1:ab v= -v:=by rw[←yO];exact uB (by omega)
   have e2:ab u=u:=uB a;have e3:ab (u-q*v)=u-q*v:=uB (by omega);rw[e1,e2,e3,c5];exact⟨by omega,Or.inl ⟨b,by omega⟩⟩
 have hdet:=h.det;refine⟨s0,d2,d3,by have:=h.sr;have:=h.rm;omega,h.es,?_,?_,?_,?_⟩
 ·have e1:=h.er;have e2:=h.es;grind
 ·rw[ev.1];grind
 ·rcases ev.2 with⟨a,b⟩|⟨a,b⟩
  ·exact Or.inl ⟨a,b⟩
  ·exact Or.inr ⟨a,b⟩
 ·have hu:=iB (wA u) h.s0;have hr:2≤r:=by have:=h.sr;omega
  have h3:=iA hr (wA v);omega
theorem qG.first {c m:Int}(hm:0<m):qG c m m (c%m) 0 1 1 (-(c/m)):=by
 have d1:=pC c m;have d2:=hE c (show m≠0 by omega);have d3:=hD c hm;have e0:ab 0=0:=rfl;have e1:ab 1=1:=rfl;have e2:c/m*m=m*(c/m):=j0 _ _;refine⟨hm,d2,d3,u6 _,by omega,?_,by rw[e0,e1];omega,Or.inl ⟨by decide,by decide⟩,by rw[e0];omega⟩;rw[b9];omega
theorem qG.qv {c m r s u v w z:Int}(h:qG c m r s u v w z)(hs:s≠0):ab (r/s*v)≤2*m∧ab (r/s*z)≤2+2*ab c:=by
 have g:=h.step hs;have a1:=g.vm;have a2:=h.um;have a3:=g.z1;have a4:=h.w1;have e1:r/s*v=u- (u-r/s*v):=by omega
 have e2:r/s*z=w- (w-r/s*z):=by omega
 have b1:=aQ u (u-r/s*v);have b2:=aQ w (w-r/s*z);rw[←e1]at b1;rw[←e2]at b2;exact⟨by omega,by omega⟩
theorem qG.fall {c m r s u v w z:Int}(h:qG c m r s u v w z)(hs:s≠0):2*(s*(r%s))≤r*s:=by
 have s0:0<s:=by have:=h.s0;omega
 have d1:=pC r s;have d2:=hE r hs;have d3:=hD r s0;have h3:1≤r/s:=(a8 s0).mpr (by have:=h.sr;omega);have h4:=iA h3 (zA s0);have h5:=iA (show 2*(r%s)≤r by omega) (zA s0);have e:s*(2*(r%s))=2*(s*(r%s)):=by grind
 have e2:s*r=r*s:=j0 _ _;omega
theorem qG.gcd {c m r s u v w z:Int}(h:qG c m r s u v w z)(hs:s≠0):fB s (r%s)=fB r s:=fP (zA h.r0) (by have:=h.s0;omega)
theorem iR (N:Nat)(b:Bool)(l:List Int)(e:Int):Q41.f N b l e=some (b,l):=rfl
theorem hZ {N:Nat}(hN:1000000001<N){a q b:Int}(ha:Zr a)(hq:Zr q)(hb:Zr b)(h1:Zr (q*b))(h2:Zr (a-q*b)):Q42.f N (sg a) (pB a) (sg q) (pB q) (sg b) (pB b)=some (sg (a-q*b),pB (a-q*b)):=by
 unfold Q42.f;rw[J4 hN hq hb,qk h1];simp only[hA,iR];rw[Hk hN ha h1,qk h2];rfl
theorem Cc {N:Nat}(hN:1000000001<N){R:Type}{c m:Int}(hc:2+2*ab c<K)(hm:2*m<K)(x9:Bool)(x10:List Int)(x11:Bool)(x12:List Int)(x13 x14:Bool)(K0:Bool→List Int→Bool→List Int→Bool→Bool→Bool→List Int→Bool→List Int→Option R):
  ∀(k n:Nat) (r s u v w z:Int),qG c m r s u v w z→r*s<2^k→k<n→∃u' w',u'*c+w'*m=fB r s∧2*ab u'≤m∧ab w'≤1+ab c∧
   Q43.l5 N n x9 x10 x11 x12 x13 x14 (sg s) (pB s) (sg r) (pB r) (sg u) (pB u) (sg v) (pB v) (sg w) (pB w) (sg z) (pB z) K0=K0 x9 x10 x11 x12 x13 x14 (sg u') (pB u') (sg w') (pB w'):=by
 intro k;induction k with
 |zero=>
  intro n r s u v w z h hk hn;obtain⟨n',rfl⟩:∃n',n=n'+1:=⟨n-1,by omega⟩
  have hs:s=0:=by
   rcases zB 0 s with h1|h1
   ·have:=b7 h.r0 h1;simp at hk;omega
   ·have:=h.s0;omega
  subst hs;refine⟨u,w,?_,h.half,h.w1,?_⟩
  ·rw[mK (zA h.r0)];exact h.er.symm
  ·rw[Q43.l5,xR fX];rfl
 |succ k ih=>
  intro n r s u v w z h hk hn;obtain⟨n',rfl⟩:∃n',n=n'+1:=⟨n-1,by omega⟩
  by_cases hs:s=0
  ·subst hs;refine⟨u,w,?_,h.half,h.w1,?_⟩
   ·rw[mK (zA h.r0)];exact h.er.symm
   ·rw[Q43.l5,xR fX];rfl
  ·have g:=h.step hs;have hr:Zr r:=tE (by rw[uB (zA h.r0)];have:=h.rm;have:=h.m0;omega);have hs':Zr s:=tE (by rw[uB h.s0];have:=h.rm;have:=h.sr;have:=h.m0;omega);have hm0:=h.m0;have zu:Zr u:=tE (by have:=h.um;omega);have zv:Zr v:=tE (by have:=h.vm;omega);have ac:=wA c;have zw:Zr w:=tE (by have:=h.w1;omega);have zz:Zr z:=tE (by have:=h.z1;omega);have zv':Zr (u-r/s*v):=tE (by have:=g.vm;omega);have zz':Zr (w-r/s*z):=tE (by have:=g.z1;omega);obtain⟨b1,b2⟩:=h.qv hs;have zqv:Zr (r/s*v):=tE (by omega);have zqz:Zr (r/s*z):=tE (by omega);obtain⟨q1,q2,q3⟩:=F0 hN hr hs' hs;have hp:(2:Int)^(k+1)=2*2^k:=by rw[aE];omega
   obtain⟨u',w',e1,e2,e3,e4⟩:=ih n' s (r%s) v (u-r/s*v) z (w-r/s*z) g (by have:=h.fall hs;omega) (by omega);refine⟨u',w',by rw[e1];exact h.gcd hs,e2,e3,?_⟩;rw[Q43.l5,xR hs'];simp only[hA];have c0:(sn s==0)=false:=by
    rcases dI s with⟨s1,s2⟩|⟨s1,s2⟩|⟨s1,s2⟩<;>rw[s2]
    ·exact absurd s1 hs
    ·rfl
    ·rfl
   rw[c0];simp only[cond_false];rw[q1];simp only[hA];rw[hZ hN zu q2 zv zqv zv'];simp only[hA];rw[hZ hN zw q2 zz zqz zz'];simp only[hA];exact e4
theorem zf {N:Nat}(hN:1000000001<N){c m:Int}(hc:3*ab c+3<K)(hm:2*m<K)(m0:0<m):∃x y,x*c+y*m=fB m (c%m)∧0≤x∧x<m∧ab y≤1+2*ab c∧Q43.f N (sg c) (pB c) (sg m) (pB m)=some (sg x,pB x,sg y,pB y):=by
 have ac:=wA c;have zc:Zr c:=tE (by omega);have am:ab m=m:=uB (by omega);have zm:Zr m:=tE (by omega);have one:Zr 1:=lO (by decide) (by decide);obtain⟨q1,q2,q3⟩:=F0 hN zc zm (by omega);have h:=qG.first (c:=c) m0;have big:m*(c%m)<2^8192:=by
  have h1:=h.s0;have h2:=h.sr;have k1:=iA (show c%m≤m by omega) (zA m0);have k2:=iA (show m≤K-1 by omega) (zA m0);have k3:=hB (show m≤K-1 by omega) (show 0≤K-1 by omega);have e:(2:Int)^8192=K*K:=by unfold K;rw[←hS]
  have k4:(K-1)*(K-1)<K*K:=by
   have:(K-1)*(K-1)=K*K-2*K+1:=by grind
   have:=wc;omega
  omega
 unfold Q43.f;rw[q1,J5 hN (by decide) (by decide)];simp only[hA];rw[Hj q2];simp only[hA];obtain⟨u,w,e1,e2,e3,e4⟩:=Cc hN (c:=c) (m:=m) (by omega) hm (sg c) (pB c) (sg m) (pB m) false false (fun y41 y42 y43 y44 y45 y46 y47 y48 y49 y50=>
   (Q36.f N y47 y48).bind fun r51=>
   bif decide (r51<0)then
    (Q34.f N y47 y48 y43 y44).bind fun r52=>
    (Q41.f N r52.1 r52.2.1 r52.2.2).bind fun r53=>
    (Q38.f N y49 y50 y41 y42).bind fun r54=>
    (Q41.f N r54.1 r54.2.1 r54.2.2).bind fun r55=>
    some (r53.1,r53.2,r55.1,r55.2)
   else
   some (y47,y48,y49,y50)) 8192 N m (c%m) 0 1 1 (-(c/m)) h big (by omega)
 rw[zW,xt]at e4;rw[e4];have zu:Zr u:=tE (by omega);have zw:Zr w:=tE (by omega);rw[xR zu];simp only[hA];rw[vh];by_cases hu:u<0
 ·have au:ab u= -u:=by unfold ab;rw[if_pos hu]
  have zum:Zr (u+m):=tE (by rw[uB (by omega)];omega);have k1:=aQ w c;have zwc:Zr (w-c):=tE (by omega);refine⟨u+m,w-c,by rw[←e1];grind,by omega,by omega,by omega,?_⟩;rw[decide_eq_true hu];simp only[cond_true];rw[Hi hN zu zm,qk zum];simp only[hA,iR];rw[Hk hN zw zc,qk zwc];rfl
 ·have au:ab u=u:=uB (by omega);refine⟨u,w,e1,by omega,by omega,by omega,?_⟩;rw[decide_eq_false hu];rfl
theorem oq {N:Nat}(hN:1000000001<N){v:Int}(b:Bool)(h0:0≤v)(hl:(enc (65536:Int) v).length≤1000000):Q52.f N b (enc (65536:Int) v)=some (b&&decide (0<v),enc (65536:Int) v):=by
 unfold Q52.f;rw[dr hN h0 (by omega)];simp only[hA];have:=gC v;have hz:=qF h0 0;have e0:(2:Int)^0=1:=rfl;rw[e0]at hz;by_cases hv:v=0
 ·subst hv;have:bD 0=0:=by decide+kernel
  rw[this,vG H2];simp
 ·have hb:¬bD v=0:=fun q=>by have:=hz.mp (by omega);omega
  have c:(bD v==0)=false:=by simpa using hb
  have d:decide (0<v)=true:=decide_eq_true (by omega);rw[c,d];simp
theorem ox {N:Nat}(hN:1000000001<N){v:Int}(b:Bool)(h0:0≤v)(hl:(enc (65536:Int) v).length≤1000000):Q54.f N b (enc (65536:Int) v)=some (if v=0 then 0 else if b then-1 else 1):=by
 unfold Q54.f;rw[dr hN h0 (by omega)];simp only[hA];have:=gC v;have hz:=qF h0 0;have e0:(2:Int)^0=1:=rfl;rw[e0]at hz;by_cases hv:v=0
 ·subst hv;have:bD 0=0:=by decide+kernel
  rw[this];rfl
 ·have hb:¬bD v=0:=fun q=>by have:=hz.mp (by omega);omega
  have c:(bD v==0)=false:=by simpa using hb
  rw[c,if_neg hv];cases b<;>rfl
def Zl (k:Nat)(x:Int):Prop:=(pH x).length≤k
theorem Zl.mono {j k:Nat}{x:Int}(h:Zl j x)(hk:j≤k):Zl k x:=cc h hk
theorem Zl.len {k:Nat}{x:Int}(h:Zl k x)(j:Nat)(hk:k≤j):(enc (65536:Int) (ab x)).length≤j:=cc h hk
theorem Zl.le {k:Nat}{x y:Int}(h:Zl k y)(hxy:ab x≤ab y):Zl k x:=cc (wJ (wA x) hxy) h
theorem Zl.neg {k:Nat}{x:Int}(h:Zl k x):Zl k (-x):=h.le (by rw[yO];exact u6 _)
theorem Zl.ab {k:Nat}{x:Int}(h:Zl k x):Zl k (ab x):=h.le (by rw[we];exact u6 _)
theorem dN {x:Int}(h:Zr x):Zl 256 x:=bJ h.lo (by rw[←Jd];exact h.hi)
theorem Fg {v:Int}(h:0≤v):v<(65536:Int)^(enc (65536:Int) v).length:=by
 obtain⟨h1,h2⟩:=oB H2 h;have:=(kB (show(0:Int)<65536 by decide) h1.dig).2;rw[h2]at this;exact this
theorem Zl.lt {k:Nat}{x:Int}(h:Zl k x):NatL.ab x<(65536:Int)^k:=by
 have h1:=Fg (wA x);have h2:=rI h;unfold pH at h2;omega
theorem Zl.of {k:Nat}{x:Int}(h:NatL.ab x<(65536:Int)^k):Zl k x:=bJ (wA x) h
theorem Zl.add {k:Nat}{x y:Int}(h:Zl k x)(g:Zl k y):Zl (k+1) (x+y):=Zl.of (by
 have:=h.lt;have:=g.lt;have:=ar x y;have:=wA x;rw[aE];omega)
theorem Zl.sub {k:Nat}{x y:Int}(h:Zl k x)(g:Zl k y):Zl (k+1) (x-y):=by rw[e7];exact h.add g.neg
theorem Zl.mul {j k:Nat}{x y:Int}(h:Zl j x)(g:Zl k y):Zl (j+k) (x*y):=by
 unfold Zl pH;rw[fi];have:=oN (wA x) (wA y);unfold Zl pH at h g;omega
theorem aM {N:Nat}(hN:1000000001<N){v:Int}(b:Bool)(h0:0≤v)(hl:(enc (65536:Int) v).length≤1000000):Q52.f N b (enc (65536:Int) v)=some (sg (sv b v),pH (sv b v)):=by
 rw[oq hN b h0 hl,He b h0];unfold pH;rw[nX b h0]
theorem jf {N:Nat}(hN:1000000001<N){k:Nat}{x:Int}(b:Bool)(h:Zl k x)(hk:k≤1000000):Q52.f N b (pH x)=some (sg (sv b (ab x)),pH (sv b (ab x))):=aM hN b (wA x) (h.len _ hk)
theorem pU {N:Nat}(hN:1000000001<N){k:Nat}{x:Int}(h:Zl k x)(hk:k≤1000000):Q54.f N (sg x) (pH x)=some (sn x):=by
 unfold pH;rw[ox hN _ (wA x) (h.len _ hk)];rfl
theorem jg {N:Nat}(hN:1000000001<N){k:Nat}{x:Int}(h:Zl k x)(hk:k≤1000000):Q55.f N (sg x) (pH x)=some (decide (x=0)):=by
 unfold Q55.f;rw[pU hN h hk];simp only[hA];rcases dI x with⟨s1,s2⟩|⟨s1,s2⟩|⟨s1,s2⟩<;>rw[s2]
 ·rw[decide_eq_true s1];rfl
 ·rw[decide_eq_false (by omega)];rfl
 ·rw[decide_eq_false (by omega)];rfl
theorem Dy {N:Nat}(hN:1000000001<N){k:Nat}{x y:Int}(hx:Zl k x)(hy:Zl k y)(hk:k≤100000):Q59.f N (sg x) (pH x) (sg y) (pH y)=some (sg (x+y),pH (x+y)):=by
 have hx':=hx.len 100000 hk;have hy':=hy.len 100000 hk;have x0:=wA x;have y0:=wA y;unfold Q59.f;by_cases h:sg x=sg y
 ·have c:(sg x==sg y)=true:=by rw[h];exact beq_self_eq_true _
  rw[c];simp only[cond_true];have e:ab (x+y)=ab x+ab y∧sv (sg x) (ab x+ab y)=x+y:=by
   rcases eD x with⟨a1,a2,a3⟩|⟨a1,a2,a3⟩<;>rcases eD y with⟨b1,b2,b3⟩|⟨b1,b2,b3⟩<;>rw[a1,b1]at h
   ·rw[a1,a3,b3];unfold ab sv;rw[if_pos (by omega),if_pos rfl];omega
   ·cases h
   ·cases h
   ·rw[a1,a3,b3];unfold ab sv;rw[if_neg (by omega)];simp
  have hl:=(hx.add hy).len 100001 (by omega);rw[e.1]at hl;unfold pH;rw[E0 hN x0 y0 (by omega) (by omega)];simp only[hA];rw[aM hN _ (by omega) (by omega),e.2];rfl
 ·have c:(sg x==sg y)=false:=beq_eq_false_iff_ne.mpr h;have e:(ab x<ab y→sv (sg y) (ab y-ab x)=x+y)∧(ab y≤ab x→sv (sg x) (ab x-ab y)=x+y):=by
   rcases eD x with⟨a1,a2,a3⟩|⟨a1,a2,a3⟩<;>rcases eD y with⟨b1,b2,b3⟩|⟨b1,b2,b3⟩<;>rw[a1,b1]at h
   ·exact absurd rfl h
   ·refine⟨?_,?_⟩
    ·intro _;rw[b1,a3,b3];unfold sv;simp;omega
    ·intro _;rw[a1,a3,b3];unfold sv;simp;omega
   ·refine⟨?_,?_⟩
    ·intro _;rw[b1,a3,b3];unfold sv;simp;omega
    ·intro _;rw[a1,a3,b3];unfold sv;simp
   ·exact absurd rfl h
  rw[c];simp only[cond_false];unfold pH;rw[o5 hN x0 y0 (by omega)];simp only[hA];rw[C9];by_cases hl:ab y≤ab x
  ·have l1:=wJ (u:=ab x-ab y) (v:=ab x) (by omega) (by omega);rw[decide_eq_true hl];simp only[cond_true];rw[y7 hN y0 hl (by omega)];simp only[hA];rw[aM hN _ (by omega) (by omega),e.2 hl];rfl
  ·have l1:=wJ (u:=ab y-ab x) (v:=ab y) (by omega) (by omega);rw[decide_eq_false hl];simp only[cond_false];rw[y7 hN x0 (by omega) (by omega)];simp only[hA];rw[aM hN _ (by omega) (by omega),e.1 (by omega)];rfl
theorem Ix {N:Nat}(hN:1000000001<N){k:Nat}{x:Int}(h:Zl k x)(hk:k≤1000000):Q58.f N (sg x) (pH x)=some (sg (-x),pH (-x)):=by
 unfold Q58.f;rw[jf hN _ h hk,Ej];rfl
theorem Dz {N:Nat}(hN:1000000001<N){k:Nat}{x y:Int}(hx:Zl k x)(hy:Zl k y)(hk:k≤100000):Q60.f N (sg x) (pH x) (sg y) (pH y)=some (sg (x-y),pH (x-y)):=by
 unfold Q60.f;rw[Ix hN hy (by omega)];simp only[hA];rw[Dy hN hx hy.neg hk,e7];rfl
theorem Hc {N:Nat}(hN:1000000001<N){j k:Nat}{x y:Int}(hx:Zl j x)(hy:Zl k y)(hj:j≤100000)(hk:k≤100000):Q61.f N (sg x) (pH x) (sg y) (pH y)=some (sg (x*y),pH (x*y)):=by
 have hx':=hx.len 100000 hj;have hy':=hy.len 100000 hk;have hl:=oN (wA x) (wA y);unfold Q61.f;unfold pH;rw[p7 hN (wA x) (wA y) (by omega) (by omega)];simp only[hA];rw[aM hN _ (iB (wA x) (wA y)) (by omega),Ei];rfl
theorem I8 {N:Nat}(hN:1000000001<N){n:Int}(h0: -9223372036854775808≤n)(h1:n<9223372036854775808):Q53.f N n=some (sg n,pH n):=by
 have hl:=(dN (lO h0 h1)).len 256 (by omega);unfold Q53.f;rcases eD n with⟨a1,a2,a3⟩|⟨a1,a2,a3⟩
 ·have e:jA (0-jA n)=ab n:=by rw[bG,bG];omega
  have e2:sv true (ab n)=n:=by rw[a3];unfold sv;simp
  rw[decide_eq_true a2,e];simp only[cond_true];rw[kQ hN (by omega) (by omega)];simp only[hA];rw[aM hN _ (wA n) (by omega),e2];rfl
 ·have d:decide (n<0)=false:=decide_eq_false (by omega);have e:jA n=ab n:=by rw[xA (by omega) (by omega),a3]
  have e2:sv false (ab n)=n:=by rw[a3];unfold sv;simp
  rw[d,e];simp only[cond_false];rw[kQ hN (by omega) (by omega)];simp only[hA];rw[aM hN _ (wA n) (by omega),e2];rfl
theorem Jv {N:Nat}(hN:1000000001<N){k:Nat}{x y:Int}(hx:Zl k x)(hy:Zl k y)(hk:k≤100000):Q57.f N (sg x) (pH x) (sg y) (pH y)=some (bS x y):=by
 have hx':=hx.len 100000 hk;have hy':=hy.len 100000 hk;unfold Q57.f;rw[pU hN hx (by omega),pU hN hy (by omega)];simp only[hA];have rc:∀u v:Int,(enc (65536:Int) (ab u)).length≤100000→Q25.f N (pH u) (pH v)=some (bS (ab u) (ab v)):=fun u v h=>o5 hN (wA u) (wA v) (by omega);rcases dI x with⟨s1,s2⟩|⟨s1,s2⟩|⟨s1,s2⟩<;>rcases dI y with⟨t1,t2⟩|⟨t1,t2⟩|⟨t1,t2⟩<;>rw[s2,t2]
 ·rw[rc x y hx',s1,t1];rfl
 ·unfold bS;rw[if_neg (by omega),if_neg (by omega)];rfl
 ·unfold bS;rw[if_neg (by omega),if_pos (by omega)];rfl
 ·unfold bS;rw[if_neg (by omega),if_pos (by omega)];rfl
 ·have d1:decide ((-1:Int)< -1)=false:=rfl;have d3:decide ((-1:Int)<0)=true:=rfl;rw[d1,d3];simp only[cond_false,cond_true];rw[rc y x hy'];have a3:ab x= -x:=by unfold ab;rw[if_pos s1]
  have b3:ab y= -y:=by unfold ab;rw[if_pos t1]
  rw[a3,b3];simp only[hA];unfold bS;by_cases h:x=y
  ·rw[if_pos h,if_pos (by omega)]
  ·rw[if_neg h,if_neg (by omega)];by_cases h1:x<y
   ·rw[if_pos h1,if_pos (by omega)]
   ·rw[if_neg h1,if_neg (by omega)]
 ·unfold bS;rw[if_neg (by omega),if_pos (by omega)];rfl
 ·unfold bS;rw[if_neg (by omega),if_neg (by omega)];rfl
 ·unfold bS;rw[if_neg (by omega),if_neg (by omega)];rfl
 ·rw[rc x y hx',uB (by omega),uB (by omega)];rfl
theorem dq {N:Nat}(hN:1000000001<N){k:Nat}{x y:Int}(hx:Zl k x)(hy:Zl k y)(hk1:1≤k)(hk:k≤100000)(h:y≠0):Q62.f N (sg x) (pH x) (sg y) (pH y)=some (sg (x/y),pH (x/y),sg (x%y),pH (x%y))∧Zl (k+1) (x/y)∧Zl k (x%y):=by
 obtain⟨t1,t2⟩:=nz (x:=x) h;have hx':=hx.len 100000 hk;have hy':=hy.len 100000 hk;have x0:=wA x;have y0:=wA y;have hyz:ab y≠0:=fun q=>h (uE.mp q);have yp:0<ab y:=by omega
 have q0:0≤ab x/ab y:=hM x0 y0;have q1:ab x/ab y≤ab x:=c8 _ x0;have r0:=hE (ab x) hyz;have r1:=hD (ab x) yp;have lq:=wJ q0 q1;have lr:=wJ r0 (zA r1);have zq:∀b,Zl k (sv b (ab x/ab y)):=fun b=>hx.le (by rw[nX b q0];exact q1);have zr:∀b,Zl k (sv b (ab x%ab y)):=fun b=>hy.le (by rw[nX b r0];omega);unfold Q62.f;unfold pH;rw[oa hN x0 yp (by omega) (by omega)];simp only[hA];rw[aM hN _ q0 (by omega)];simp only[hA];rw[aM hN _ r0 (by omega)];simp only[hA];rw[pU hN (zr _) (by omega)];simp only[hA];rw[vh];have z1:Zl k 1:=Zl.of (by have e:ab 1=1:=rfl;rw[e];have:=rI hk1;simp at this;omega);have za:Zl k (ab y):=hy.ab;by_cases hc:sg x=true∧0<ab x%ab y
 ·obtain⟨u1,u2⟩:=t1 hc;have c1:decide (sv (sg x) (ab x%ab y)<0)=true:=by
   rw[hc.1];unfold sv;rw[if_pos rfl];exact decide_eq_true (by omega)
  rw[c1];simp only[cond_true];have fold:∀z:Int,enc (65536:Int) (ab z)=pH z:=fun z=>rfl;simp only[fold];rw[jf hN false hy (by omega)];have e0:sv false (ab y)=ab y:=rfl;rw[e0];simp only[hA];rw[Dy hN (zr _) za hk];simp only[hA];have e1:sv (sg x) (ab x%ab y)+ab y=x%y:=by rw[←u2,hc.1];unfold sv;rw[if_pos rfl];omega
  rw[e1,I8 hN (by decide) (by decide)];simp only[hA];have l2:Zl k (x%y):=hy.le (by rw[←u2,uB (by omega)];omega);by_cases hs:sg y=true
  ·have e2:sv (!(sg x==sg y)) (ab x/ab y)+1=x/y:=by
    rw[←u1,hc.1,hs];unfold sv;simp
   refine⟨?_,?_,l2⟩
   ·rw[hs]at e2⊢;simp only[cond_true];rw[Dy hN (zq _) z1 hk];simp only[hA];rw[e2]
   ·rw[←e2];exact(zq _).add z1
  ·have hs':sg y=false:=by cases hq:sg y<;>simp_all
   have e2:sv (!(sg x==sg y)) (ab x/ab y)-1=x/y:=by rw[←u1,hc.1,hs'];unfold sv;simp;omega
   refine⟨?_,?_,l2⟩
   ·rw[hs']at e2⊢;simp only[cond_false];rw[Dz hN (zq _) z1 hk];simp only[hA];rw[e2]
   ·rw[←e2];exact(zq _).sub z1
 ·obtain⟨u1,u2⟩:=t2 hc;have e1:sv (sg x) (ab x%ab y)=x%y:=by
   rw[←u2];by_cases hs:sg x=true
   ·have hrz:ab x%ab y=0:=by
     rcases zB 0 (ab x%ab y)with h3|h3
     ·exact absurd ⟨hs,h3⟩ hc
     ·omega
    rw[hrz,bX]
   ·have hs':sg x=false:=by cases hq:sg x<;>simp_all
    rw[hs'];rfl
  have c1:decide (x%y<0)=false:=decide_eq_false (by rw[←u2];omega);rw[e1,c1,u1];have l1:=zq (!(sg x==sg y));have l2:=zr (sg x);rw[u1]at l1;rw[e1]at l2;exact⟨rfl,l1.mono (by omega),l2⟩
theorem J9 {N:Nat}(hN:1000000001<N){k:Nat}{x:Int}(h:Zl k x)(hk:k≤1000000):Q56.f N (sg x) (pH x)=some (if-9223372036854775808≤x∧x<9223372036854775808 then(x,true)else(0,false)):=by
 have hs:=pU hN h hk;unfold Q56.f;have hsm:=uz hN (wA x);have e0:enc (65536:Int) (ab x)=pH x:=rfl;rw[e0]at hsm;rw[hsm];simp only[hA];have x0:=wA x;by_cases h:ab x<18446744073709551616
 ·rw[if_pos h];simp only[b8,cond_false];by_cases h1:ab x>9223372036854775808
  ·rw[decide_eq_true h1,if_neg (by rcases cB x with⟨c1,c2⟩|⟨c1,c2⟩<;>omega)];rfl
  ·rw[decide_eq_false h1,hs];simp only[cond_false,hA];rw[vh];rcases eD x with⟨a1,a2,a3⟩|⟨a1,a2,a3⟩
   ·have e:aA (jA (0-ab x))=x:=by
     rw[bG];have:(0-ab x)%18446744073709551616=x+18446744073709551616:=by omega
     rw[this,qi (by omega) (by omega)];omega
    rw[a1,e,if_pos (by omega),decide_eq_true a2];by_cases h2:ab x=9223372036854775808
    ·have c2:(ab x==9223372036854775808)=true:=by rw[h2];rfl
     rw[c2];rfl
    ·have c2:(ab x==9223372036854775808)=false:=beq_eq_false_iff_ne.mpr h2;rw[c2];rfl
   ·have d:decide (x<0)=false:=decide_eq_false (by omega);rw[a1,d];by_cases h2:ab x=9223372036854775808
    ·have c2:(ab x==9223372036854775808)=true:=by rw[h2];rfl
     rw[c2,if_neg (by omega)];rfl
    ·have c2:(ab x==9223372036854775808)=false:=beq_eq_false_iff_ne.mpr h2;rw[c2,if_pos (by omega),a3,fA (n:=x) (by omega) (by omega)];rfl
 ·rw[if_neg h,if_neg (by rcases cB x with⟨c1,c2⟩|⟨c1,c2⟩<;>omega)];rfl
structure GT (a b g x y:Int):Prop where
 eg:g=fB a b
 sum:a*x+b*y=g
 bz:b=0→x=sn a∧y=0
 lo:b≠0→0≤x∧x<ab b/g
theorem aw (a:Int):(ab a).natAbs=a.natAbs:=by
 rcases cB a with⟨c1,c2⟩|⟨c1,c2⟩<;>rw[c2];omega
theorem kS (a b:Int):fB (ab a) (ab b)=fB a b:=by
 unfold fB Int.gcd;rw[aw,aw]
theorem iC (a b:Int):0≤fB a b:=by unfold fB;omega
theorem eC (a b:Int):fB a b∣a:=Int.gcd_dvd_left a b
theorem lB (a b:Int):fB a b∣b:=Int.gcd_dvd_right a b
theorem lS {a b:Int}(h:b≠0):0<fB a b:=by
 rcases zB 0 (fB a b)with h1|h1
 ·exact h1
 ·have h2:=iC a b;have h3:fB a b=0:=by omega
  have h4:=lB a b;rw[h3]at h4;exact absurd (Int.zero_dvd.mp h4) h
theorem gJ {d a:Int}(h:d∣a):d∣ab a:=by
 rcases cB a with⟨c1,c2⟩|⟨c1,c2⟩<;>rw[c2]
 ·exact h
 ·exact cd.mpr h
theorem gq {a b:Int}(h:b≠0):fB (ab b/fB a b) ((a/fB a b)%(ab b/fB a b))=1:=by
 have gp:=lS (a:=a) h;have h1:=eC a b;have h2:=gJ (lB a b);have h2':=lB a b;obtain⟨m,hm⟩:=h2;obtain⟨c,hc⟩:=h1;have all:∀d,d∣a→d∣b→d∣fB a b:=fun d p q=>Int.dvd_coe_gcd p q;generalize fB a b=g at*;have e1:ab b/g=m:=by rw[hm];exact hI _ (by omega)
 have e2:a/g=c:=by rw[hc];exact hI _ (by omega)
 rw[e1,e2];have k1:=eC m (c%m);have k2:=lB m (c%m);have k3:=iC m (c%m);generalize fB m (c%m)=G at*;have k4:G∣c:=by have:=pC c m;rw[←this];exact Int.dvd_add (Int.dvd_trans k1 (Int.dvd_mul_right m _)) k2
 have k5:g*G∣a:=by rw[hc];exact bp g k4
 have k6:g*G∣b:=by
  have:g*G∣ab b:=by rw[hm];exact bp g k1
  rcases cB b with⟨c1,c2⟩|⟨c1,c2⟩<;>rw[c2]at this
  ·exact this
  ·exact cd.mp this
 have k7:=h9 gp (all _ k5 k6);by_cases hG:G=0
 ·subst hG;have k8:=all _ k5 k6;rw[p0]at k8;have:=Int.zero_dvd.mp k8;omega
 ·by_cases hG1:G=1
  ·exact hG1
  ·have:=iA (show 2≤G by omega) (zA gp);omega
theorem Eh (y b:Int):b*sv (!(sg y==sg b)) (ab y)=y*ab b:=by
 rcases eD y with⟨a1,a2,a3⟩|⟨a1,a2,a3⟩<;>rcases eD b with⟨b1,b2,b3⟩|⟨b1,b2,b3⟩<;>rw[a1,b1,a3,b3]<;>unfold sv<;>simp[c5,b9,j0]
theorem GT.of {a b g c m x y:Int}(hb:b≠0)(hg:g=fB a b)(gp:0<g)(hc:a=g*c)(hm:ab b=g*m)(h1:x*c+y*m=1)(x0:0≤x)(x1:x<m):GT a b g x (sv (!(sg y==sg b)) (ab y)):=by
 refine⟨hg,?_,fun h=>absurd h hb,fun _=>⟨x0,?_⟩⟩
 ·rw[Eh,hm,hc];have:g*c*x+y*(g*m)=g*(x*c+y*m):=by grind
  rw[this,h1];omega
 ·have:ab b/g=m:=by rw[hm];exact hI _ (by omega)
  rw[this];exact x1
theorem GT.unique {a b g x y g' x' y':Int}(h:GT a b g x y)(k:GT a b g' x' y'):g=g'∧x=x'∧y=y':=by
 have e1:g=g':=by rw[h.eg,k.eg]
 subst e1;refine⟨rfl,?_⟩;by_cases hb:b=0
 ·obtain⟨p1,p2⟩:=h.bz hb;obtain⟨q1,q2⟩:=k.bz hb;exact⟨by rw[p1,q1],by rw[p2,q2]⟩
 ·obtain⟨p1,p2⟩:=h.lo hb;obtain⟨q1,q2⟩:=k.lo hb;have gp:=lS (a:=a) hb;rw[←h.eg]at gp;have hg1:g∣a:=by rw[h.eg];exact eC a b
  have hg2:g∣ab b:=by rw[h.eg];exact gJ (lB a b)
  have hone:=gq (a:=a) hb;rw[←h.eg]at hone;have m1:=h.sum;have m2:=k.sum;obtain⟨m,hm⟩:=hg2;obtain⟨c,hc⟩:=hg1;have em:ab b/g=m:=by rw[hm];exact hI _ (by omega)
  have ec:a/g=c:=by rw[hc];exact hI _ (by omega)
  rw[em,ec]at hone;rw[em]at p2 q2;have hx:x=x':=by
   have s1:c*(x-x')=m*(c*(x-x')/m):=by
    have d:m∣c*(x-x'):=by
     have e2:a*(x-x')=b*(y'-y):=by grind
     have e3:∃t,b=ab b*t:=by
      rcases cB b with⟨c1,c2⟩|⟨c1,c2⟩
      ·exact⟨1,by rw[c2];omega⟩
      ·exact⟨-1,by rw[c2];omega⟩
     obtain⟨t,ht⟩:=e3;refine⟨t*(y'-y),?_⟩;have e4:g*(c*(x-x'))=g*(m*(t*(y'-y))):=by
      have:g*(c*(x-x'))=a*(x-x'):=by rw[hc];grind
      rw[this,e2,ht,hm];grind
     exact k9 (by omega) e4
    exact(Int.mul_ediv_cancel' d).symm
   have d:m∣c*(x-x'):=⟨_,s1⟩
   have d2:m∣(c%m)*(x-x'):=by
    have e:=pC c m;have:(c%m)*(x-x')=c*(x-x')-m*(c/m*(x-x')):=by
     have:c%m=c-m*(c/m):=by omega
     rw[this];grind
    rw[this];exact Int.dvd_sub d (Int.dvd_mul_right m _)
   have d3:m∣x-x':=by
    have hcop:Int.gcd m (c%m)=1:=by unfold fB at hone;omega
    have d4:=bd.mpr d2;rw[Int.natAbs_mul]at d4;exact bd.mp (Nat.Coprime.dvd_of_dvd_mul_left hcop d4)
   rcases n5 x x' with hlt|heq|hgt
   ·have d4:m∣x'-x:=by
     have:x'-x= -(x-x'):=by omega
     rw[this];exact cd.mpr d3
    have:=h9 (by omega) d4;omega
   ·exact heq
   ·have:=h9 (by omega) d3;omega
  subst hx;refine⟨rfl,?_⟩;have:b*y=b*y':=by omega
  exact k9 hb this
theorem Iv (x:Int):pB (ab x)=pB x:=by unfold pB;rw[we]
theorem Iw (x:Int):pH (ab x)=pH x:=by unfold pH;rw[we]
theorem oJ (a:Int):fB a 0=ab a:=by
 rw[←kS];exact mK (wA a)
theorem GT.zero (a:Int):GT a 0 (ab a) (sn a) 0:=by
 refine⟨(oJ a).symm,?_,fun _=>⟨rfl,rfl⟩,fun h=>absurd rfl h⟩;rcases dI a with⟨s1,s2⟩|⟨s1,s2⟩|⟨s1,s2⟩<;>rw[s2]
 ·rw[s1];decide
 ·unfold ab;rw[if_pos s1];omega
 ·rw[uB (by omega)];omega
theorem pc (a:Int): -9223372036854775808≤sn a∧sn a<9223372036854775808:=by
 rcases dI a with⟨s1,s2⟩|⟨s1,s2⟩|⟨s1,s2⟩<;>rw[s2]<;>exact⟨by decide,by decide⟩
theorem fz {g a:Int}(gp:0<g):ab (a/g)≤ab a+1∧ab (ab a/g)≤ab a:=by
 have d1:=pC a g;have d2:=hE a (show g≠0 by omega);have d3:=hD a gp;have a0:=wA a;constructor
 ·rcases cB (a/g)with⟨c1,c2⟩|⟨c1,c2⟩<;>rw[c2]
  ·have:=hB (show 1≤g by omega) c1;rcases cB a with⟨e1,e2⟩|⟨e1,e2⟩<;>omega
  ·have:=hB (show 1≤g by omega) (show 0≤ -(a/g)-1 by omega);have e:g*(-(a/g)-1)= -(g*(a/g))-g:=by grind
   rcases cB a with⟨e1,e2⟩|⟨e1,e2⟩<;>omega
 ·rw[uB (hM a0 (by omega))];exact c8 _ a0
theorem K1 {N:Nat}(hN:1000000001<N){a b:Int}(ha:3*ab a+6<K)(hb:2*ab b<K):∃g x y,GT a b g x y∧ab y≤3+2*ab a∧Q44.f N (sg a) (pB a) (sg b) (pB b)=some (pB g,sg x,pB x,sg y,pB y):=by
 have a0:=wA a;have b0:=wA b;have za:Zr a:=tE (by omega);have zb:Zr b:=tE (by omega);unfold Q44.f;rw[xR zb];simp only[hA];by_cases h:b=0
 ·subst h;obtain⟨k1,k2⟩:=pc a;refine⟨ab a,sn a,0,GT.zero a,by have:ab 0=0:=rfl;omega,?_⟩;have c0:(sn 0==0)=true:=rfl;rw[c0];simp only[cond_true];rw[xR za];simp only[hA];rw[J5 hN k1 k2,Iv,xt,zW];rfl
 ·have c0:(sn b==0)=false:=by
   rcases dI b with⟨s1,s2⟩|⟨s1,s2⟩|⟨s1,s2⟩<;>rw[s2]
   ·exact absurd s1 h
   ·rfl
   ·rfl
  rw[c0];simp only[cond_false];have hg:=Aa hN za zb;rw[kS]at hg;have gr:=wq za zb;rw[kS]at gr;have gp:=lS (a:=a) h;have h1:=eC a b;have h2:=gJ (lB a b);have hone:=gq (a:=a) h;obtain⟨l1,l2⟩:=fz (a:=a) gp;obtain⟨l3,l4⟩:=fz (a:=b) gp;have hgg:fB a b=fB a b:=rfl;generalize hge:fB a b=g at*;have zg:Zr g:=tE (by rw[uB (by omega)];exact gr.hi);have em:=w9 h1;have em2:=w9 h2;obtain⟨m,hm⟩:=h2;obtain⟨c,hc⟩:=h1;have edm:ab b/g=m:=by rw[hm];exact hI _ (by omega)
  have edc:a/g=c:=by have:g*c/g=c:=hI _ (by omega);rw[←hc]at this;exact this
  have hbp:0<ab b:=by have:ab b≠0:=fun q=>h (uE.mp q);omega
  have mp:0<m:=by
   rcases zB 0 m with q|q
   ·exact q
   ·have:=iB (zA gp) (show 0≤ -m by omega);rw[c5]at this;omega
  unfold pB;rw[hg];simp only[hA];rw[gM _ gr];have e0:sv false g=g:=rfl;rw[e0];simp only[hA];have fold:∀z:Int,enc (4294967296:Int) (ab z)=pB z:=fun z=>rfl;simp only[fold];rw[ym hN za zg (by omega),if_pos em];simp only[hA,iR];rw[jx _ zb];have e1:sv false (ab b)=ab b:=rfl;rw[e1];simp only[hA];rw[ym hN (J7 zb) zg (by omega),if_pos em2];simp only[hA];rw[edm,edc]at hone;rw[edc]at l1;rw[edm]at l4;rw[edm,edc];have abm:ab m=m:=uB (by omega);obtain⟨x,y,p1,p2,p3,p4,p5⟩:=zf hN (c:=c) (m:=m) (by omega) (by omega) mp;rw[p5];simp only[hA];have zy:Zr y:=tE (by omega);rw[jx _ zy];have hgt:=GT.of h hge.symm gp hc hm (by rw[p1];exact hone) p2 p3;refine⟨g,x,_,hgt,by rw[nX _ (wA y)];omega,?_⟩;have e3:enc (4294967296:Int) g=pB g:=by unfold pB;rw[uB (by omega)]
  rw[e3];rfl
theorem pz {N:Nat}(hN:1000000001<N){R:Type}{c m:Int}{k0:Nat}(hm:Zl k0 (2*m))(hk1:1≤k0)(hk:k0≤100000)(x7:Bool)(x8:List Int)(x9:Bool)(K0:Bool→List Int→Bool→Bool→List Int→Option R):
  ∀(k n:Nat) (r s u v w z:Int),qG c m r s u v w z→r*s<2^k→k<n→∃u' w',u'*c+w'*m=fB r s∧2*ab u'≤m∧
   Q63.l5 N n x7 x8 x9 (sg r) (pH r) (sg s) (pH s) (sg u) (pH u) (sg v) (pH v) K0=K0 x7 x8 x9 (sg u') (pH u'):=by
 intro k;induction k with
 |zero=>
  intro n r s u v w z h hk' hn;obtain⟨n',rfl⟩:∃n',n=n'+1:=⟨n-1,by omega⟩
  have hs:s=0:=by
   rcases zB 0 s with h1|h1
   ·have:=b7 h.r0 h1;simp at hk';omega
   ·have:=h.s0;omega
  subst hs;refine⟨u,w,?_,h.half,?_⟩
  ·rw[mK (zA h.r0)];exact h.er.symm
  ·rw[Q63.l5,jg hN (dN fX) (by omega)];rfl
 |succ k ih=>
  intro n r s u v w z h hk' hn;obtain⟨n',rfl⟩:∃n',n=n'+1:=⟨n-1,by omega⟩
  by_cases hs:s=0
  ·subst hs;refine⟨u,w,?_,h.half,?_⟩
   ·rw[mK (zA h.r0)];exact h.er.symm
   ·rw[Q63.l5,jg hN (dN fX) (by omega)];rfl
  ·have g:=h.step hs;have hm0:=h.m0;have am:ab (2*m)=2*m:=uB (by omega);have zr:Zl k0 r:=hm.le (by rw[am,uB (zA h.r0)];have:=h.rm;omega);have zs:Zl k0 s:=hm.le (by rw[am,uB h.s0];have:=h.rm;have:=h.sr;omega);have zu:Zl k0 u:=hm.le (by rw[am];have:=h.um;omega);have zv:Zl k0 v:=hm.le (by rw[am];have:=h.vm;omega);obtain⟨b1,b2⟩:=h.qv hs;have zqv:Zl k0 (r/s*v):=hm.le (by rw[am];omega);obtain⟨q1,q2,q3⟩:=dq hN zr zs hk1 hk hs;have hp:(2:Int)^(k+1)=2*2^k:=by rw[aE];omega
   obtain⟨u',w',e1,e2,e4⟩:=ih n' s (r%s) v (u-r/s*v) z (w-r/s*z) g (by have:=h.fall hs;omega) (by omega);refine⟨u',w',by rw[e1];exact h.gcd hs,e2,?_⟩;have qz:Zl k0 (r/s):=zr.le (by have q0:0≤r/s:=hM (zA h.r0) h.s0;rw[uB q0,uB (zA h.r0)];exact c8 _ (zA h.r0));rw[Q63.l5,jg hN zs (by omega),decide_eq_false hs];simp only[hA,j2,cond_true];rw[q1];simp only[hA];rw[Hc hN qz zv hk hk];simp only[hA];rw[Dz hN zu zqv hk];simp only[hA];exact e4
theorem jn {N:Nat}(hN:1000000001<N){c m:Int}{k:Nat}(hc:Zl k c)(hm:Zl k (2*m))(hk1:1≤k)(hk:k≤90000)(m0:0<m)(hmK:m<K):∃x y,x*c+y*m=fB m (c%m)∧0≤x∧x<m∧Q63.f N (sg c) (pH c) (sg m) (pH m)=some (sg x,pH x):=by
 have h:=qG.first (c:=c) m0;have am:ab (2*m)=2*m:=uB (by omega);have zm:Zl k m:=hm.le (by rw[am,uB (by omega)];omega);have big:m*(c%m)<2^8192:=by
  have h1:=h.s0;have h2:=h.sr;have k1:=iA (show c%m≤m by omega) (zA m0);have k2:=iA (show m≤K-1 by omega) (zA m0);have k3:=hB (show m≤K-1 by omega) (show 0≤K-1 by omega);have e:(2:Int)^8192=K*K:=by unfold K;rw[←hS]
  have k4:(K-1)*(K-1)<K*K:=by
   have:(K-1)*(K-1)=K*K-2*K+1:=by grind
   have:=wc;omega
  omega
 obtain⟨q1,q2,q3⟩:=dq hN hc zm hk1 (by omega) (show m≠0 by omega);unfold Q63.f;rw[q1,I8 hN (by decide) (by decide)];simp only[hA];obtain⟨u,w,e1,e2,e4⟩:=pz hN (c:=c) (m:=m) hm hk1 (by omega) (sg m) (pH m) false (fun y27 y28 y29 y30 y31=>
   (Q62.f N y30 y31 y27 y28).bind fun r32=>
   some (r32.2.2.1,r32.2.2.2)) 8192 N m (c%m) 0 1 1 (-(c/m)) h big (by omega)
 rw[zW,xu]at e4;rw[e4];have zu:Zl k u:=zm.le (by rw[uB (show 0≤m by omega)];have:=wA u;omega);obtain⟨t1,t2,t3⟩:=dq hN zu zm hk1 (by omega) (show m≠0 by omega);rw[t1];have d1:=pC u m;refine⟨u%m,w+u/m*c,?_,hE u (by omega),hD u m0,rfl⟩;rw[←e1];have:u%m=u-m*(u/m):=by omega
 rw[this];grind
theorem Jw {N:Nat}(hN:1000000001<N){a b:Int}(za:Zr a)(zb:Zr b):∃g x y,GT a b g x y∧Q64.f N (sg a) (pH a) (sg b) (pH b)=some (pH g,sg x,pH x,sg y,pH y):=by
 have a0:=wA a;have b0:=wA b;have la:=dN za;have lb:=dN zb;unfold Q64.f;rw[jg hN lb (by omega)];simp only[hA];by_cases h:b=0
 ·subst h;obtain⟨k1,k2⟩:=pc a;refine⟨ab a,sn a,0,GT.zero a,?_⟩;rw[decide_eq_true rfl];simp only[cond_true];rw[pU hN la (by omega)];simp only[hA];rw[I8 hN k1 k2,Iw,xu,zW];rfl
 ·rw[decide_eq_false h];simp only[cond_false];have hg:=uo hN za zb;rw[kS]at hg;have gr:=wq za zb;rw[kS]at gr;have gp:=lS (a:=a) h;have h1:=eC a b;have h2:=gJ (lB a b);have hone:=gq (a:=a) h;obtain⟨l1,l2⟩:=fz (a:=a) gp;obtain⟨l3,l4⟩:=fz (a:=b) gp;generalize hge:fB a b=g at*;have zg:Zr g:=tE (by rw[uB (by omega)];exact gr.hi);have lg:=dN zg;obtain⟨m,hm⟩:=h2;obtain⟨c,hc⟩:=h1;have edm:ab b/g=m:=by rw[hm];exact hI _ (by omega)
  have edc:a/g=c:=by have:g*c/g=c:=hI _ (by omega);rw[←hc]at this;exact this
  have hbp:0<ab b:=by have:ab b≠0:=fun q=>h (uE.mp q);omega
  have mp:0<m:=by
   rcases zB 0 m with q|q
   ·exact q
   ·have:=iB (zA gp) (show 0≤ -m by omega);rw[c5]at this;omega
  unfold pH;rw[hg];simp only[hA];have gl:(enc (65536:Int) g).length≤256:=by have:=lg.len 256 (by omega);rw[uB (show 0≤g by omega)]at this;exact this
  rw[aM hN _ (by omega) (by omega)];have e0:sv false g=g:=rfl;rw[e0];simp only[hA];have fold:∀z:Int,enc (65536:Int) (ab z)=pH z:=fun z=>rfl;simp only[fold];rw[jf hN false lb (by omega)];have e1:sv false (ab b)=ab b:=rfl;rw[e1];simp only[hA];obtain⟨q1,q2,q3⟩:=dq hN lb.ab lg (by omega) (by omega) (show g≠0 by omega);rw[q1];simp only[hA];obtain⟨q4,q5,q6⟩:=dq hN la lg (by omega) (by omega) (show g≠0 by omega);rw[q4];simp only[hA];rw[edm,edc]at hone;rw[edc]at l1 q5;rw[edm]at l4;rw[edm,edc];have abm:ab m=m:=uB (by omega);have abm2:ab (2*m)=2*m:=uB (by omega);have hbK:=zb.hi;have z2m:Zl 257 (2*m):=Zl.of (by rw[abm2,aE,←Jd];omega);obtain⟨x,y,p1,p2,p3,p5⟩:=jn hN (c:=c) (m:=m) (k:=257) q5 z2m (by omega) (by omega) mp (by omega);rw[p5];simp only[hA];have hgt:=GT.of h hge.symm gp hc hm (by rw[p1];exact hone) p2 p3;have lx:Zl 257 x:=z2m.le (by rw[abm2,uB p2];omega);rw[Hc hN la lx (by omega) (by omega)];simp only[hA];have lax:=la.mul lx;rw[Dz hN (lg.mono (by omega)) lax (by omega)];simp only[hA];have lsub:=(lg.mono (show 256≤256+257 by omega)).sub lax;obtain⟨t1,t2,t3⟩:=dq hN lsub (lb.mono (by omega)) (by omega) (by omega) h;rw[t1];have hy:(g-a*x)/b=sv (!(sg y==sg b)) (ab y):=by
   have e:=hgt.sum;have e2:g-a*x=b*sv (!(sg y==sg b)) (ab y):=by omega
   rw[e2];exact hI _ h
  rw[hy];refine⟨g,x,_,hgt,?_⟩;have e3:enc (65536:Int) g=pH g:=by unfold pH;rw[uB (by omega)]
  rw[e3];rfl
def Ju (n:Int):Prop:= -9223372036854775808≤n∧n<9223372036854775808
def Bd (x X:Int):Prop:= -X≤x∧x≤X
theorem Bd.mul {x y X Y:Int}(hx:Bd x X)(hy:Bd y Y):Bd (x*y) (X*Y):=by
 obtain⟨h1,h2⟩:=hx;obtain⟨h3,h4⟩:=hy;have p1:=iB (show 0≤X-x by omega) (show 0≤Y-y by omega);have p2:=iB (show 0≤X+x by omega) (show 0≤Y+y by omega);have p3:=iB (show 0≤X-x by omega) (show 0≤Y+y by omega);have p4:=iB (show 0≤X+x by omega) (show 0≤Y-y by omega);have e1:(X-x)*(Y-y)+(X+x)*(Y+y)=2*(X*Y)+2*(x*y):=by grind
 have e2:(X-x)*(Y+y)+(X+x)*(Y-y)=2*(X*Y)-2*(x*y):=by grind
 unfold Bd;omega
theorem Bd.add {x y X Y:Int}(hx:Bd x X)(hy:Bd y Y):Bd (x+y) (X+Y):=by
 unfold Bd at*;omega
theorem Je:1000000000000000000000000000000000000000000000000000000000000<K:=by unfold K;decide+kernel
theorem mQ (n:Int):aA n=Int.bmod n 18446744073709551616:=by
 simp only[aA,IntKind.wrap];simp[IntKind.bits,IntKind.signed,Int.bmod];omega
theorem jw (x y:Int):aA (aA x+y)=aA (x+y):=by simp only[mQ,Int.bmod_add_bmod]
theorem yg (x y:Int):aA (x+aA y)=aA (x+y):=by simp only[mQ,Int.add_bmod_bmod]
theorem Gl (x y:Int):aA (aA x-y)=aA (x-y):=by simp only[mQ,Int.bmod_sub_bmod]
theorem yi (x y:Int):aA (x-aA y)=aA (x-y):=by simp only[mQ,Int.sub_bmod_bmod]
theorem Gk (x y:Int):aA (aA x*y)=aA (x*y):=by simp only[mQ,Int.bmod_mul_bmod]
theorem yh (x y:Int):aA (x*aA y)=aA (x*y):=by simp only[mQ,Int.mul_bmod_bmod]
theorem K9 (x:Int):aA (aA x)=aA x:=by have:=jw x 0;rwa[hQ,hQ]at this
theorem Bd.le {x X Y:Int}(h:Bd x X)(hx:X≤Y):Bd x Y:=by unfold Bd at*;omega
theorem Bd.neg {x X:Int}(h:Bd x X):Bd (-x) X:=by unfold Bd at*;omega
theorem Bd.w {x X:Int}(h:Bd x X)(hX:X<9223372036854775808):aA x=x:=by unfold Bd at h;exact fA (by omega) (by omega)
def tA (a b c p r:Int):Int:=a*p*p+b*p*r+c*r*r
def tB (a b c p q r s:Int):Int:=2*a*p*q+b*p*s+b*q*r+2*c*r*s
theorem rH (a b c p q r s t u v w x y:Int):
  tA (tA a b c p r) (tB a b c p q r s) (tA a b c q s) t v=tA a b c (p*t+q*v) (r*t+s*v)∧
  tB (tA a b c p r) (tB a b c p q r s) (tA a b c q s) t u v w=tB a b c (p*t+q*v) (p*u+q*w) (r*t+s*v) (r*u+s*w)∧
  tA a b c p r*x*x+tB a b c p q r s*x*y+tA a b c q s*y*y=a*(p*x+q*y)*(p*x+q*y)+b*(p*x+q*y)*(r*x+s*y)+c*(r*x+s*y)*(r*x+s*y):=by
 unfold tA tB;refine⟨?_,?_,?_⟩<;>grind
end Go.Proofs.YtjpdjdhdchjcgaaGreat.NatL
namespace Go.Proofs.YtjpdjdhdchjcgaaGreat.Pure
open Go Go.Proofs.YtjpdjdhdchjcgaaGreat.Ev
theorem fA {n:Int}(h1: -9223372036854775808≤n)(h2:n<9223372036854775808):aA n=n:=by
 simp only[aA,IntKind.wrap];simp[IntKind.bits,IntKind.signed];omega
structure vL (a b c:Int):Prop where
 a0:0<a
 a1:a≤2147483648
 b0: -2147483648≤b
 b1:b≤2147483648
 c0:0<c
 c1:c≤2147483648
 d0:b*b-4*a*c<0
 d1: -4294967296≤b*b-4*a*c
theorem fl {x y:Int}(hy:0<y):(Int.tmod x y<0→x/y=Int.tdiv x y-1∧x%y=Int.tmod x y+y)∧(¬Int.tmod x y<0→x/y=Int.tdiv x y∧x%y=Int.tmod x y):=by
 have h1:=Int.mul_tdiv_add_tmod x y;have h2:=Int.tmod_lt_of_pos x hy;have h3:=Int.lt_tmod_of_pos x hy;refine⟨fun h=>(sS hy).mpr ⟨?_,by omega,by omega⟩,fun h=>(sS hy).mpr ⟨by omega,by omega,by omega⟩⟩;rw[Int.mul_sub,Int.mul_one];omega
theorem vL.shift {a b c:Int}(h:vL a b c):vL a (b+2*((a-b)/(2*a))*a) ((a*((a-b)/(2*a))+b)*((a-b)/(2*a))+c)∧ -a<b+2*((a-b)/(2*a))*a∧b+2*((a-b)/(2*a))*a≤a:=by
 have h1:=pC (a-b) (2*a);have h2:=hE (a-b) (b:=2*a) (by have:=h.a0;omega);have h3:=hD (a-b) (b:=2*a) (by have:=h.a0;omega);generalize(a-b)/(2*a)=k at*;generalize(a-b)%(2*a)=r at*;have e:b+2*k*a=a-r:=by
  have:2*a*k=2*k*a:=by grind
  omega
 have hd:(b+2*k*a)*(b+2*k*a)-4*a*((a*k+b)*k+c)=b*b-4*a*c:=by grind
 rw[e]at hd⊢;obtain⟨a0,a1,b0,b1,c0,c1,d0,d1⟩:=h;have hsq:(a-r)*(a-r)≤a*a:=by
  have p1:0≤r*(2*a-r):=iB h2 (by omega);have p2:(a-r)*(a-r)+r*(2*a-r)=a*a:=by grind
  omega
 have hsq0:0≤(a-r)*(a-r):=by
  rcases c7 0 (a-r)with h|h
  ·exact iB h h
  ·have:=iB (show(0:Int)≤ -(a-r) by omega) (show(0:Int)≤ -(a-r) by omega);have e2: -(a-r)* -(a-r)=(a-r)*(a-r):=by grind
   omega
 generalize(a*k+b)*k+c=c' at*;have hpos:0<c':=by
  rcases zB 0 c' with h|h
  ·exact h
  ·exfalso;have:=iB (show(0:Int)≤4*a by omega) (show(0:Int)≤ -c' by omega);have e2:4*a* -c'= -(4*a*c'):=by grind
   omega
 have hle:c'≤2147483648:=by
  rcases zB 2147483648 c' with h|h
  ·exfalso;have p1:=iA (show(2147483649:Int)≤c' by omega) (show(0:Int)≤4*a by omega);have p2:=iA a1 (show(0:Int)≤a by omega);have e3:a*2147483648=2147483648*a:=by grind
   have e4:4*a*2147483649=8589934596*a:=by grind
   omega
  ·exact h
 exact⟨⟨a0,a1,by omega,by omega,hpos,hle,by omega,by omega⟩,by omega,by omega⟩
theorem vL.swap {a b c:Int}(h:vL a b c):vL c (-b) a:=by
 obtain⟨a0,a1,b0,b1,c0,c1,d0,d1⟩:=h;have e: -b* -b-4*c*a=b*b-4*a*c:=by grind
 exact⟨c0,c1,by omega,by omega,a0,a1,by omega,by omega⟩
theorem ig {a b:Int}(a0:0<a)(a1:a≤2147483648)(b0: -2147483648≤b)(b1:b≤2147483648): -4294967296≤(a-b)/(2*a)∧(a-b)/(2*a)≤4294967296∧ -8589934592≤a*((a-b)/(2*a))∧a*((a-b)/(2*a))≤8589934592:=by
 have h1:=pC (a-b) (2*a);have h2:=hE (a-b) (b:=2*a) (by omega);have h3:=hD (a-b) (b:=2*a) (by omega);generalize(a-b)/(2*a)=k at*;generalize(a-b)%(2*a)=r at*;have e:2*a*k=2*(a*k):=by grind
 have hk: -8589934592≤a*k∧a*k≤8589934592:=by omega
 refine⟨?_,?_,hk.1,hk.2⟩
 ·rcases zB k (-4294967296)with h|h
  ·exfalso;have p:=hB (show(1:Int)≤a by omega) (show(0:Int)≤ -k by omega);have e2:a* -k= -(a*k):=by grind
   omega
  ·exact h
 ·rcases zB 4294967296 k with h|h
  ·exfalso;have p:=hB (show(1:Int)≤a by omega) (show(0:Int)≤k by omega);omega
  ·exact h
def kk (a b:Int):Int:=(a-b)/(2*a)
def sB (a b:Int):Int:=b+2*kk a b*a
def sC (a b c:Int):Int:=(a*kk a b+b)*kk a b+c
def fL (a b:Int):Prop:= -a<b∧b≤a
def lC (a b c:Int):Prop:=c<a∨(a=c∧b<0)
instance (a b:Int):Decidable (fL a b):=inferInstanceAs (Decidable (_∧_))
instance (a b c:Int):Decidable (lC a b c):=inferInstanceAs (Decidable (_∨_))
theorem Fm {a b c:Int}(h:vL a b c):aA (Int.tdiv (aA (a-b)) (aA (2*a)))=Int.tdiv (a-b) (2*a)∧Int.tmod (aA (a-b)) (aA (2*a))=Int.tmod (a-b) (2*a)∧
  (Int.tmod (a-b) (2*a)<0→aA (Int.tdiv (a-b) (2*a)-1)=kk a b)∧(¬Int.tmod (a-b) (2*a)<0→Int.tdiv (a-b) (2*a)=kk a b):=by
 obtain⟨a0,a1,b0,b1,_⟩:=h;have hf:=fl (x:=a-b) (y:=2*a) (by omega);obtain⟨k1,k2,_⟩:=ig a0 a1 b0 b1;have e1:aA (a-b)=a-b:=fA (by omega) (by omega);have e2:aA (2*a)=2*a:=fA (by omega) (by omega);rw[e1,e2];have hb: -4294967297≤Int.tdiv (a-b) (2*a)∧Int.tdiv (a-b) (2*a)≤4294967298:=by
  by_cases hm:Int.tmod (a-b) (2*a)<0
  ·have:=(hf.1 hm).1;omega
  ·have:=(hf.2 hm).1;omega
 refine⟨fA (by omega) (by omega),rfl,fun hm=>?_,fun hm=>?_⟩
 ·have:=(hf.1 hm).1;rw[fA (by omega) (by omega)];unfold kk;omega
 ·have:=(hf.2 hm).1;unfold kk;omega
theorem xz {a b c:Int}(h:vL a b c):aA (b+aA (aA (2*kk a b)*a))=sB a b∧aA (aA (aA (aA (a*kk a b)+b)*kk a b)+c)=sC a b c:=by
 obtain⟨hg,hb1,hb2⟩:=h.shift;obtain⟨a0,a1,b0,b1,c0,c1,d0,d1⟩:=h;obtain⟨k1,k2,k3,k4⟩:=ig a0 a1 b0 b1;obtain⟨_,_,_,_,g1,g2,_,_⟩:=hg;unfold sB sC kk;generalize(a-b)/(2*a)=k at*;have e:2*k*a=2*(a*k):=by grind
 refine⟨?_,?_⟩
 ·rw[fA (n:=2*k) (by omega) (by omega),fA (n:=2*k*a) (by omega) (by omega),fA (by omega) (by omega)]
 ·rw[fA (n:=a*k) (by omega) (by omega),fA (n:=a*k+b) (by omega) (by omega),fA (n:=(a*k+b)*k) (by omega) (by omega),fA (by omega) (by omega)]
theorem wF (N:Nat){a b c:Int}(h:vL a b c)(p q r s:Int):Q49.f N a b c p q r s=
  if fL a b then(if lC a b c then some (true,c, -b,a,q,aA (0-p),s,aA (0-r))else some (false,a,b,c,p,q,r,s))
  else some (true,a,sB a b,sC a b c,p,aA (aA (kk a b*p)+q),r,aA (aA (kk a b*r)+s)):=by
 obtain⟨m1,m2,m3,m4⟩:=Fm h;obtain⟨s1,s2⟩:=xz h;have e0:aA (0-a)= -a:=by obtain⟨a0,a1,_⟩:=h;rw[fA (by omega) (by omega)];omega
 have e1:aA (0-b)= -b:=by obtain⟨_,_,b0,b1,_⟩:=h;rw[fA (by omega) (by omega)];omega
 have e2:(aA (2*a)==0)=false:=by obtain⟨a0,a1,_⟩:=h;rw[fA (by omega) (by omega)];simp;omega
 unfold Q49.f;simp only[e0,e1,e2,m1,m2,j2,cond_true];by_cases hr:fL a b
 ·rw[if_pos hr];obtain⟨r1,r2⟩:=hr;have c1:decide (b≤ -a)=false:=by simp;omega
  have c2:decide (b>a)=false:=by simp;omega
  simp only[c1,c2,cond_false];unfold lC;by_cases h1:a>c
  ·simp[h1]
  ·by_cases h2:a=c
   ·subst h2;by_cases h3:b<0<;>simp[h3]
   ·have h3:(a==c)=false:=by simpa using h2
    simp[h1,h2,h3]
 ·rw[if_neg hr];unfold fL at hr;by_cases hm:Int.tmod (a-b) (2*a)<0
  ·simp only[hm,m3 hm,decide_true,cond_true,s1,s2];by_cases h1:b≤ -a
   ·simp[h1]
   ·have:b>a:=by omega
    simp[h1,this]
  ·simp only[hm,m4 hm,decide_false,cond_false,s1,s2];by_cases h1:b≤ -a
   ·simp[h1]
   ·have:b>a:=by omega
    simp[h1,this]
theorem mi (N:Nat){a b c:Int}(h:vL a b c):Q72.f N (aA (a-b)) (aA (2*a))=some (kk a b):=by
 obtain⟨a0,a1,b0,b1,_⟩:=h;have hf:=fl (x:=a-b) (y:=2*a) (by omega);obtain⟨k1,k2,_⟩:=ig a0 a1 b0 b1;have e1:aA (a-b)=a-b:=fA (by omega) (by omega);have e2:aA (2*a)=2*a:=fA (by omega) (by omega);have hne:(2*a==0)=false:=by simp;omega
 have h1:=pC (a-b) (2*a);have h2:=hE (a-b) (b:=2*a) (by omega);have h3:=hD (a-b) (b:=2*a) (by omega);have hdiv:Int.tdiv (2*a*((a-b)/(2*a))) (2*a)=(a-b)/(2*a):=Int.mul_tdiv_cancel_left _ (by omega);unfold Q72.f Q65.f;rw[e1,e2];simp only[hne,j2,cond_true];by_cases hm:Int.tmod (a-b) (2*a)<0
 ·have q:=(hf.1 hm).2;simp only[hm,decide_true,cond_true,←q,hA];rw[fA (n:=(a-b)%(2*a)) (by omega) (by omega),fA (n:=a-b- (a-b)%(2*a)) (by omega) (by omega)];have e:a-b- (a-b)%(2*a)=2*a*((a-b)/(2*a)):=by omega
  rw[e,hdiv,fA (by omega) (by omega)];rfl
 ·have q:=(hf.2 hm).2;have hm':¬(a-b)%(2*a)<0:=by omega
  rw[←q];simp only[hm',decide_false,cond_false,hA];rw[fA (n:=a-b- (a-b)%(2*a)) (by omega) (by omega)];have e:a-b- (a-b)%(2*a)=2*a*((a-b)/(2*a)):=by omega
  rw[e,hdiv,fA (by omega) (by omega)];rfl
theorem dZ (N:Nat){a b c:Int}(h:vL a b c):Q71.f N a b c=some (decide (fL a b∧¬lC a b c)):=by
 have e0:aA (0-a)= -a:=by obtain⟨a0,a1,_⟩:=h;rw[fA (by omega) (by omega)];omega
 have main:∃x,Q71.f N a b c=some x∧(x=true↔(fL a b∧¬lC a b c)):=by
  unfold Q71.f fL lC;rw[e0];by_cases h1: -a<b
  ·by_cases h2:b≤a
   ·by_cases h3:a≤c
    ·by_cases h4:b≥0
     ·exact⟨true,by simp[h1,h2,h3,h4],fun _=>⟨⟨h1,h2⟩,by rintro(h|⟨h,h'⟩)<;>omega⟩,fun _=>rfl⟩
     ·refine⟨a != c,by simp[h1,h2,h3,h4],fun h=>⟨⟨h1,h2⟩,?_⟩,fun h=>?_⟩
      ·simp at h;rintro(h'|⟨h',h''⟩)<;>omega
      ·have:=h.2;simp;intro e;exact this (.inr ⟨e,by omega⟩)
    ·exact⟨false,by simp[h1,h2,h3],fun h=>by simp at h,fun h=>(h.2 (.inl (by omega))).elim⟩
   ·exact⟨false,by simp[h1,h2],fun h=>by simp at h,fun h=>(h2 h.1.2).elim⟩
  ·exact⟨false,by simp[h1],fun h=>by simp at h,fun h=>(h1 h.1.1).elim⟩
 obtain⟨x,h1,h2⟩:=main;rw[h1];by_cases hp:fL a b∧¬lC a b c
 ·simp[hp,h2.mpr hp]
 ·simp only[hp,decide_false];cases x<;>simp_all
def mu (a b c:Int):Int:=4*a+(if fL a b then(if a=c∧b<0 then 1 else 0)else 3)
theorem ns {a b c:Int}(h:vL a b c)(hr:¬fL a b):mu a (sB a b) (sC a b c)<mu a b c:=by
 have hs:fL a (sB a b):=h.shift.2;unfold mu;rw[if_pos hs,if_neg hr];split<;>omega
theorem xk {a b c:Int}(h:vL a b c)(hr:fL a b)(hs:lC a b c):mu c (-b) a<mu a b c:=by
 unfold mu;rw[if_pos hr];obtain⟨a0,a1,b0,b1,c0,c1,_⟩:=h;rcases hs with hs|⟨hs,hb⟩
 ·have:(if fL c (-b)then(if c=a∧ -b<0 then 1 else 0)else 3:Int)≤3:=by split<;>(try split)<;>omega
  have h2:(0:Int)≤(if a=c∧b<0 then 1 else 0):=by split<;>omega
  omega
 ·subst hs;have h2:fL a (-b):=by unfold fL at*;omega
  rw[if_pos h2,if_neg (show ¬(a=a∧ -b<0) by omega),if_pos ⟨rfl,hb⟩];omega
theorem iw {a b c:Int}(h:vL a b c):0<mu a b c∧mu a b c≤8589934600:=by
 unfold mu;have:=h.a0;have:=h.a1;split<;>(try split)<;>omega
theorem jj (N M:Nat):∀(n:Nat) (a b c p q r s:Int),vL a b c→mu a b c<n→∃a' b' c' p' q' r' s',vL a' b' c'∧fL a' b'∧¬lC a' b' c'∧b'*b'-4*a'*c'=b*b-4*a*c∧
  (∀{R:Type} x1 x2 x3 x4 x5 x6 x7 (K:Int→Int→Int→Int→Int→Int→Int→Int→Int→Int→Int→Int→Int→Int→Option R),Q50.l6 N n x1 x2 x3 x4 x5 x6 x7 a b c p q r s K=K x1 x2 x3 x4 x5 x6 x7 a' b' c' p' q' r' s')∧
  (∀{R:Type} x1 x2 x3 x4 x5 x6 x7 (K:Int→Int→Int→Int→Int→Int→Int→Int→Int→Int→Int→Int→Int→Int→Option R),Q73.l5 M n a b c x1 x2 x3 x4 x5 x6 x7 p q r s K=K a' b' c' x1 x2 x3 x4 x5 x6 x7 p' q' r' s'):=by
 intro n;induction n with
 |zero=>intro a b c p q r s h hm;have:=(iw h).1;omega
 |succ n ih=>
  intro a b c p q r s h hm;have e0:aA (0-a)= -a:=by obtain⟨a0,a1,_⟩:=h;rw[fA (by omega) (by omega)];omega
  have e1:aA (0-b)= -b:=by obtain⟨_,_,b0,b1,_⟩:=h;rw[fA (by omega) (by omega)];omega
  by_cases hr:fL a b
  ·by_cases hs:lC a b c
   ·have hlt:=xk h hr hs;obtain⟨a',b',c',p',q',r',s',g1,g2,g3,g4,g5,g6⟩:=ih c (-b) a q (aA (0-p)) s (aA (0-r)) h.swap (by omega);refine⟨a',b',c',p',q',r',s',g1,g2,g3,?_,fun x1 x2 x3 x4 x5 x6 x7 K=>?_,fun x1 x2 x3 x4 x5 x6 x7 K=>?_⟩
    ·rw[g4];grind
    ·rw[Q50.l6,wF N h,if_pos hr,if_pos hs];exact g5 _ _ _ _ _ _ _ K
    ·rw[Q73.l5,dZ M h];have hc1:decide (fL a b∧¬lC a b c)=false:=by simp[hs]
     have hc2:decide (-a≥b)=false:=by unfold fL at hr;simp;omega
     have hc3:decide (b>a)=false:=by unfold fL at hr;simp;omega
     simp only[hA,hc1,e0,e1,hc2,hc3,j2,cond_true,cond_false];exact g6 _ _ _ _ _ _ _ K
   ·refine⟨a,b,c,p,q,r,s,h,hr,hs,rfl,fun x1 x2 x3 x4 x5 x6 x7 K=>?_,fun x1 x2 x3 x4 x5 x6 x7 K=>?_⟩
    ·rw[Q50.l6,wF N h,if_pos hr,if_neg hs];rfl
    ·rw[Q73.l5,dZ M h];have hc1:decide (fL a b∧¬lC a b c)=true:=by simp[hs,hr]
     simp only[hA,hc1,b8,cond_false]
  ·have hlt:=ns h hr;have hd:sB a b*sB a b-4*a*sC a b c=b*b-4*a*c:=by unfold sB sC;grind
   obtain⟨s1,s2⟩:=xz h;obtain⟨a',b',c',p',q',r',s',g1,g2,g3,g4,g5,g6⟩:=ih a (sB a b) (sC a b c) p (aA (aA (kk a b*p)+q)) r (aA (aA (kk a b*r)+s)) h.shift.1 (by omega);refine⟨a',b',c',p',q',r',s',g1,g2,g3,by rw[g4,hd],fun x1 x2 x3 x4 x5 x6 x7 K=>?_,fun x1 x2 x3 x4 x5 x6 x7 K=>?_⟩
   ·rw[Q50.l6,wF N h,if_neg hr];exact g5 _ _ _ _ _ _ _ K
   ·rw[Q73.l5,dZ M h];have hc1:decide (fL a b∧¬lC a b c)=false:=by simp[hr]
    simp only[hA,hc1,e0,j2,cond_true,mi M h,s1,s2];by_cases h1: -a≥b
    ·simp only[h1,decide_true,cond_true];exact g6 _ _ _ _ _ _ _ K
    ·have h2:b>a:=by unfold fL at hr;omega
     simp only[h1,h2,decide_true,cond_true,decide_false,cond_false];exact g6 _ _ _ _ _ _ _ K
def ke (a b c:Int):Prop:=(-1073741824≤a∧a≤1073741824)∧(-1073741824≤b∧b≤1073741824)∧(-1073741824≤c∧c≤1073741824)
instance (a b c:Int):Decidable (ke a b c):=inferInstanceAs (Decidable (_∧_))
theorem uJ (N:Nat)(a b c:Int):Q46.f N a b c=some (decide (ke a b c)):=by
 unfold Q46.f tv H5;have key:∀{x:Bool} {p:Prop} [Decidable p],(x=true↔p)→x=decide p:=fun{x p _} hp=>by
  by_cases h:p
  ·simp[h,hp.mpr h]
  ·simp only[h,decide_false];cases x<;>simp_all
 cases hc:decide ((if c>(if b>a then b else a)then c else(if b>a then b else a))≤1073741824)
 ·simp only[cond_false,Option.some.injEq];have hc:=of_decide_eq_false hc;refine key ⟨fun h=>by simp at h,fun h=>?_⟩;unfold ke at h;exfalso;split at hc<;>split at hc<;>omega
 ·simp only[cond_true,Option.some.injEq];have hc:=of_decide_eq_true hc;refine key ⟨fun h=>?_,fun h=>?_⟩
  ·have h:=of_decide_eq_true h;unfold ke;split at hc<;>split at hc<;>split at h<;>split at h<;>omega
  ·unfold ke at h;refine decide_eq_true ?_;split<;>split<;>omega
theorem zY (N:Nat)(a b c:Int):Q68.f N a b c=some (decide (ke a b c)):=by
 unfold Q68.f Q67.f ke;by_cases h1:a≥ -1073741824<;>by_cases h2:a≤1073741824<;>by_cases h3:b≥ -1073741824<;>by_cases h4:b≤1073741824<;>by_cases h5:c≥ -1073741824<;>by_cases h6:c≤1073741824<;>simp[h1,h2,h3,h4,h5,h6]
theorem bH (N:Nat)(a b c:Int):Q47.f N a b c=some (if ke a b c then aA (aA (b*b)-aA (aA (4*a)*c))else 0)∧Q69.f N a b c=some (if ke a b c then aA (aA (b*b)-aA (aA (4*a)*c))else 0):=by
 unfold Q47.f Q69.f;rw[uJ,zY];by_cases h:ke a b c<;>simp[h]
theorem rD {x y X Y:Int}(h1: -X≤x)(h2:x≤X)(h3: -Y≤y)(h4:y≤Y): -(X*Y)≤x*y∧x*y≤X*Y:=by
 have p1:=iB (show 0≤X-x by omega) (show 0≤Y-y by omega);have p2:=iB (show 0≤X+x by omega) (show 0≤Y+y by omega);have p3:=iB (show 0≤X-x by omega) (show 0≤Y+y by omega);have p4:=iB (show 0≤X+x by omega) (show 0≤Y-y by omega);have e1:(X-x)*(Y-y)+(X+x)*(Y+y)=2*(X*Y)+2*(x*y):=by grind
 have e2:(X-x)*(Y+y)+(X+x)*(Y-y)=2*(X*Y)-2*(x*y):=by grind
 omega
theorem eQ {a b c:Int}(h:ke a b c):aA (aA (b*b)-aA (aA (4*a)*c))=b*b-4*a*c:=by
 obtain⟨⟨a0,a1⟩,⟨b0,b1⟩,c0,c1⟩:=h;have m1:=rD (X:=1073741824) (Y:=1073741824) b0 b1 b0 b1;have m2:=rD (x:=4*a) (X:=4294967296) (Y:=1073741824) (by omega) (by omega) c0 c1;have k1:(1073741824:Int)*1073741824=1152921504606846976:=by decide
 have k2:(4294967296:Int)*1073741824=4611686018427387904:=by decide
 rw[fA (n:=b*b) (by omega) (by omega),fA (n:=4*a) (by omega) (by omega),fA (n:=4*a*c) (by omega) (by omega),fA (by omega) (by omega)]
theorem cP (N:Nat)(a b c:Int):∃e,Q48.f N a b c=some e∧Q70.f N a b c=some e∧(e=0→vL a b c):=by
 unfold Q48.f Q70.f;rw[(bH N a b c).1,(bH N a b c).2,uJ,zY];by_cases h:ke a b c
 ·have hd:=eQ h;simp only[h,decide_true,if_true,hA,b8,cond_false,hd];by_cases h1:a≤0
  ·exact⟨81,by simp[h1],by simp[h1],by intro e;cases e⟩
  ·by_cases h2:b*b-4*a*c≥0
   ·exact⟨81,by simp only[h1,h2,decide_true,decide_false,cond_true,cond_false],by simp only[h1,h2,decide_true,decide_false,cond_true,cond_false],by intro e;cases e⟩
   ·by_cases h3:b*b-4*a*c< -4294967296
    ·exact⟨80,by simp only[h1,h2,h3,decide_true,decide_false,cond_true,cond_false],by simp only[h1,h2,h3,decide_true,decide_false,cond_true,cond_false],by intro e;cases e⟩
    ·refine⟨0,by simp only[h1,h2,h3,decide_true,decide_false,cond_true,cond_false],by simp only[h1,h2,h3,decide_true,decide_false,cond_true,cond_false],fun _=>?_⟩;obtain⟨⟨a0,a1⟩,⟨b0,b1⟩,c0,c1⟩:=h;have hsq:0≤b*b:=by
      rcases c7 0 b with h|h
      ·exact iB h h
      ·have:=iB (show(0:Int)≤ -b by omega) (show(0:Int)≤ -b by omega);have e2: -b* -b=b*b:=by grind
       omega
     have hc:0<c:=by
      rcases zB 0 c with h|h
      ·exact h
      ·exfalso;have:=iB (show(0:Int)≤4*a by omega) (show(0:Int)≤ -c by omega);have e2:4*a* -c= -(4*a*c):=by grind
       omega
     exact⟨by omega,by omega,by omega,by omega,hc,by omega,by omega,by omega⟩
 ·exact⟨3,by simp[h],by simp[h],by intro e;cases e⟩
theorem bO {N:Nat}(hN:8589934600<N)(a b c:Int):∃a' b' c' p q r s e,Q50.f N a b c=some (a',b',c',p,q,r,s,e)∧Q73.f N a b c=some (a',b',c',p,q,r,s,e)∧
  (e=0→vL a' b' c'∧fL a' b'∧¬lC a' b' c'):=by
 obtain⟨e,h1,h2,h3⟩:=cP N a b c;unfold Q50.f Q73.f;rw[h1,h2];by_cases he:e=0
 ·subst he;have hg:=h3 rfl;obtain⟨a',b',c',p,q,r,s,g1,g2,g3,g4,g5,g6⟩:=jj N N N a b c 1 0 0 1 hg (by have:=(iw hg).2;omega);refine⟨a',b',c',p,q,r,s,0,?_,?_,fun _=>⟨g1,g2,g3⟩⟩
  ·simp only[hA,bne_self_eq_false,cond_false];exact g5 _ _ _ _ _ _ _ _
  ·simp only[hA,bne_self_eq_false,cond_false];exact g6 _ _ _ _ _ _ _ _
 ·have:(e != 0)=true:=by simpa using he
  exact⟨0,0,0,0,0,0,0,e,by simp[this],by simp[this],fun h=>absurd h he⟩
open Go.Proofs.YtjpdjdhdchjcgaaGreat.NatL (tA tB rH Ju Bd jw yg Gl yi Gk yh K9)
def ql (a b c a' b' c':Int):Prop:=∃t u v w:Int,t*w-u*v=1∧a'=tA a b c t v∧b'=tB a b c t u v w∧c'=tA a b c u w
theorem ql.trans {a b c a' b' c' a'' b'' c'':Int}(h:ql a b c a' b' c')(k:ql a' b' c' a'' b'' c''):ql a b c a'' b'' c'':=by
 obtain⟨p,q,r,s,hd,rfl,rfl,rfl⟩:=h;obtain⟨t,u,v,w,kd,rfl,rfl,rfl⟩:=k;obtain⟨k1,k2,_⟩:=rH a b c p q r s t u v w 0 0;obtain⟨k3,_,_⟩:=rH a b c p q r s u u w w 0 0;exact⟨p*t+q*v,p*u+q*w,r*t+s*v,r*u+s*w,by grind,k1,k2,k3⟩
theorem ql.symm {a b c a' b' c':Int}(h:ql a b c a' b' c'):ql a' b' c' a b c:=by
 obtain⟨p,q,r,s,hd,rfl,rfl,rfl⟩:=h;refine⟨s, -q, -r,p,by grind,?_,?_,?_⟩
 ·rw[(rH a b c p q r s s (-q) (-r) p 0 0).1];have e1:p*s+q* -r=1:=by grind
  have e2:r*s+s* -r=0:=by grind
  rw[e1,e2];unfold tA;grind
 ·rw[(rH a b c p q r s s (-q) (-r) p 0 0).2.1];have e1:p*s+q* -r=1:=by grind
  have e2:r*s+s* -r=0:=by grind
  have e3:p* -q+q*p=0:=by grind
  have e4:r* -q+s*p=1:=by grind
  rw[e1,e2,e3,e4];unfold tB;grind
 ·rw[(rH a b c p q r s (-q) (-q) p p 0 0).1];have e3:p* -q+q*p=0:=by grind
  have e4:r* -q+s*p=1:=by grind
  rw[e3,e4];unfold tA;grind
theorem ql.disc {a b c a' b' c':Int}(h:ql a b c a' b' c'):b'*b'-4*a'*c'=b*b-4*a*c:=by
 obtain⟨t,u,v,w,hd,rfl,rfl,rfl⟩:=h;have e:tB a b c t u v w*tB a b c t u v w-4*tA a b c t v*tA a b c u w=(b*b-4*a*c)*((t*w-u*v)*(t*w-u*v)):=by unfold tA tB;grind
 rw[e,hd];grind
theorem xD (x:Int):0≤x*x:=by
 rcases c7 0 x with h|h
 ·exact iB h h
 ·have:=iB (show(0:Int)≤ -x by omega) (show(0:Int)≤ -x by omega);have e2: -x* -x=x*x:=by grind
  omega
theorem Ee {x:Int}(h:x≠0):0<x*x:=by
 have:=xD x;have:x*x≠0:=fun e=>by rcases hR.mp e with e|e<;>exact h e
 omega
theorem Ic {a b c t v:Int}(a0:0<a)(d0:b*b-4*a*c<0)(h:t≠0∨v≠0):0<tA a b c t v:=by
 have e:4*a*tA a b c t v=(2*a*t+b*v)*(2*a*t+b*v)+(4*a*c-b*b)*(v*v):=by unfold tA;grind
 have h1:=xD (2*a*t+b*v);have h2:0<(2*a*t+b*v)*(2*a*t+b*v)+(4*a*c-b*b)*(v*v):=by
  by_cases hv:v=0
  ·subst hv;have ht:t≠0:=h.elim id (fun h=>absurd rfl h);have:=Ee (x:=2*a*t+b*0) (by
    have:a*t≠0:=fun e=>by rcases hR.mp e with e|e<;>omega
    have e3:2*a*t=2*(a*t):=by grind
    omega)
   omega
  ·have:=b7 (show 0<4*a*c-b*b by omega) (Ee hv);omega
 rcases zB 0 (tA a b c t v)with h|h
 ·exact h
 ·exfalso;have:=iB (show(0:Int)≤4*a by omega) (show 0≤ -tA a b c t v by omega);have e3:4*a* -tA a b c t v= -(4*a*tA a b c t v):=by grind
  omega
theorem Em {a b c x y:Int}(a0:0<a)(h1: -a≤b)(h2:b≤a)(h3:a≤c):3*(x*x)≤4*tA a b c x y∧3*(y*y)≤4*tA a b c x y:=by
 have hb:0≤(a-b)*(a+b):=iB (by omega) (by omega);have hac:0≤a*(c-a):=iB (by omega) (by omega);have hx:=xD x;have hy:=xD y;have i1:4*a*tA a b c x y-3*a*c*(y*y)=(2*a*x+b*y)*(2*a*x+b*y)+((a-b)*(a+b))*(y*y)+(a*(c-a))*(y*y):=by unfold tA;grind
 have i2:4*c*tA a b c x y-3*a*c*(x*x)=(2*c*y+b*x)*(2*c*y+b*x)+((a-b)*(a+b))*(x*x)+(a*(c-a))*(x*x):=by unfold tA;grind
 have p1:=xD (2*a*x+b*y);have p2:=xD (2*c*y+b*x);have p3:=iB hb hy;have p4:=iB hb hx;have p5:=iB hac hy;have p6:=iB hac hx;have f1:a*(4*tA a b c x y-3*(c*(y*y)))=4*a*tA a b c x y-3*a*c*(y*y):=by grind
 have f2:c*(4*tA a b c x y-3*(a*(x*x)))=4*c*tA a b c x y-3*a*c*(x*x):=by grind
 have g1:0≤4*tA a b c x y-3*(c*(y*y)):=by
  rcases zB (4*tA a b c x y-3*(c*(y*y))) 0 with h|h
  ·have:=b7 a0 (show 0< -(4*tA a b c x y-3*(c*(y*y))) by omega);have e:a* -(4*tA a b c x y-3*(c*(y*y)))= -(a*(4*tA a b c x y-3*(c*(y*y)))):=by grind
   omega
  ·exact h
 have g2:0≤4*tA a b c x y-3*(a*(x*x)):=by
  rcases zB (4*tA a b c x y-3*(a*(x*x))) 0 with h|h
  ·have:=b7 (show 0<c by omega) (show 0< -(4*tA a b c x y-3*(a*(x*x))) by omega);have e:c* -(4*tA a b c x y-3*(a*(x*x)))= -(c*(4*tA a b c x y-3*(a*(x*x)))):=by grind
   omega
  ·exact h
 have k1:=hB (show(1:Int)≤a by omega) hx;have k2:=hB (show(1:Int)≤c by omega) hy;omega
theorem ya {x:Int}(h:3*(x*x)≤4294967296): -65536≤x∧x≤65536:=by
 constructor
 ·rcases zB x (-65536)with g|g
  ·exfalso;have:=y8 (show(65537:Int)≤ -x by omega) (show(65537:Int)≤ -x by omega) (by decide) (by omega);have e: -x* -x=x*x:=by grind
   omega
  ·exact g
 ·rcases zB 65536 x with g|g
  ·exfalso;have:=y8 (show(65537:Int)≤x by omega) (show(65537:Int)≤x by omega) (by decide) (by omega);omega
  ·exact g
theorem qd {x y:Int}(hx:0<x)(h:x*y=1):x=1∧y=1:=by
 have hy:0<y:=by
  rcases zB 0 y with g|g
  ·exact g
  ·have:=iB (zA hx) (show 0≤ -y by omega);have e:x* -y= -(x*y):=by grind
   omega
 have h1:=iA (show 1≤y by omega) (zA hx);have h2:=hB (show 1≤x by omega) (zA hy);omega
theorem Gg {x y:Int}(h:x*y=1):(x=1∧y=1)∨(x= -1∧y= -1):=by
 rcases n5 x 0 with g|g|g
 ·have:=qd (x:= -x) (y:= -y) (by omega) (by grind);omega
 ·subst g;simp at h
 ·have:=qd g h;omega
theorem j7 {a b c a' b' c':Int}(a0:0<a)(r1:fL a b)(r2:¬lC a b c)(s1:fL a' b')(s2:¬lC a' b' c')(h:ql a b c a' b' c')(hle:a'≤a):a'=a∧b'=b∧c'=c:=by
 obtain⟨t,u,v,w,hd,ha,hb,hc⟩:=h;unfold fL lC at*;have hac:a≤c:=by omega
 have unit:∀{x y:Int},x*y=1→(x=1∧y=1)∨(x= -1∧y= -1):=fun h=>Gg h;by_cases hv:v=0
 ·subst hv;have htw:t*w=1:=by omega
  rcases unit htw with⟨rfl,rfl⟩|⟨rfl,rfl⟩
  ·have e1:a'=a:=by rw[ha];unfold tA;grind
   have e2:b'=2*(a*u)+b:=by rw[hb];unfold tB;grind
   have hu:u=0:=by
    rcases n5 u 0 with h|h|h
    ·have:=iA (show u≤ -1 by omega) (zA a0);omega
    ·exact h
    ·have:=iA (show 1≤u by omega) (zA a0);omega
   subst hu;exact⟨e1,by omega,by rw[hc];unfold tA;grind⟩
  ·have e1:a'=a:=by rw[ha];unfold tA;grind
   have e2:b'=2*(a* -u)+b:=by rw[hb];unfold tB;grind
   have hu:u=0:=by
    rcases n5 u 0 with h|h|h
    ·have:=iA (show 1≤ -u by omega) (zA a0);omega
    ·exact h
    ·have:=iA (show-u≤ -1 by omega) (zA a0);omega
   subst hu;exact⟨e1,by omega,by rw[hc];unfold tA;grind⟩
 ·by_cases ht:t=0
  ·subst ht;have huv:u* -v=1:=by grind
   have e1:a'=c:=by
    rcases unit huv with⟨rfl,h⟩|⟨rfl,h⟩
    ·obtain rfl:v= -1:=by omega
     rw[ha];unfold tA;grind
    ·obtain rfl:v=1:=by omega
     rw[ha];unfold tA;grind
   have eca:c=a:=by omega
   have hb0:0≤b:=by omega
   subst eca;have e2:b'=2*(c*(v*w))-b:=by rw[hb];unfold tB;grind
   have hvw:v*w=0∨v*w=1:=by
    rcases zB (v*w) 0 with h|h
    ·have:=iA (show v*w≤ -1 by omega) (zA a0);omega
    ·rcases zB 1 (v*w)with g|g
     ·have:=iA (show 2≤v*w by omega) (zA a0);omega
     ·omega
   rcases hvw with h0|h0
   ·have hw:w=0:=by rcases hR.mp h0 with h|h;exact absurd h hv;exact h
    subst hw;rw[h0]at e2;have e3:c'=c:=by rcases unit huv with⟨rfl,h⟩|⟨rfl,h⟩<;>(rw[hc];unfold tA;grind)
    have e4:b'= -b:=by omega
    have:¬b'<0:=fun h=>s2 (.inr ⟨by omega,h⟩);exact⟨e1,by omega,e3⟩
   ·rw[h0]at e2;have e4:b=c∧b'=c:=by omega
    have e3:c'=c:=by
     rcases unit h0 with⟨rfl,rfl⟩|⟨rfl,rfl⟩
     ·obtain rfl:u= -1:=by omega
      rw[hc,e4.1];unfold tA;grind
     ·obtain rfl:u=1:=by omega
      rw[hc,e4.1];unfold tA;grind
    exact⟨e1,by omega,e3⟩
  ·have hq:t*v≠0:=fun e=>by rcases hR.mp e with e|e;exact ht e;exact hv e
   have n1:=iB (show 0≤c-a by omega) (xD v);rcases zB 0 (t*v)with hp|hp
   ·exfalso;have n2:=iB (zA a0) (xD (t-v));have n3:=iB (show 0≤b+a-1 by omega) (zA hp);have n4:=iB (zA a0) (show 0≤t*v-1 by omega);have e:tA a b c t v=a*((t-v)*(t-v))+(c-a)*(v*v)+(b+a-1)*(t*v)+a*(t*v-1)+a+t*v:=by unfold tA;grind
    omega
   ·have n2:=iB (zA a0) (xD (t+v));have n3:=iB (show 0≤a-b by omega) (show 0≤ -(t*v) by omega);have n4:=iB (zA a0) (show 0≤ -(t*v)-1 by omega);have e:tA a b c t v=a*((t+v)*(t+v))+(c-a)*(v*v)+(a-b)* -(t*v)+a*(-(t*v)-1)+a:=by unfold tA;grind
    have z2:a*((t+v)*(t+v))=0:=by omega
    have z1:(c-a)*(v*v)=0:=by omega
    have z3:(a-b)* -(t*v)=0:=by omega
    have z4:a*(-(t*v)-1)=0:=by omega
    have y4: -(t*v)=1:=by rcases hR.mp z4 with h|h<;>omega
    have y2:t+v=0:=by
     rcases hR.mp z2 with h|h
     ·omega
     ·rcases hR.mp h with h|h<;>exact h
    have y1:c=a:=by
     rcases hR.mp z1 with h|h
     ·omega
     ·rcases hR.mp h with h|h<;>exact absurd h hv
    have y3:b=a:=by rcases hR.mp z3 with h|h<;>omega
    subst y1 y3;have e1:a'=b:=by omega
    have hvt:v= -t:=by omega
    subst hvt;have htt:t*t=1:=by grind
    rcases unit htt with⟨rfl,_⟩|⟨rfl,_⟩
    ·obtain rfl:w=1-u:=by omega
     have e2:b'=b*(2*u-1):=by rw[hb];unfold tB;grind
     have hu:u=1:=by
      rcases zB u 1 with h|h
      ·have:=iA (show 2*u-1≤ -1 by omega) (zA a0);omega
      ·rcases zB 1 u with g|g
       ·have:=iA (show 3≤2*u-1 by omega) (zA a0);omega
       ·omega
     subst hu;exact⟨e1,by omega,by rw[hc];unfold tA;grind⟩
    ·obtain rfl:w= -1-u:=by omega
     have e2:b'=b*(-1-2*u):=by rw[hb];unfold tB;grind
     have hu:u= -1:=by
      rcases zB (-1) u with h|h
      ·have:=iA (show-1-2*u≤ -1 by omega) (zA a0);omega
      ·rcases zB u (-1)with g|g
       ·have:=iA (show 3≤ -1-2*u by omega) (zA a0);omega
       ·omega
     subst hu;exact⟨e1,by omega,by rw[hc];unfold tA;grind⟩
theorem og {a b c a' b' c':Int}(a0:0<a)(b0:0<a')(r1:fL a b)(r2:¬lC a b c)(s1:fL a' b')(s2:¬lC a' b' c')(h:ql a b c a' b' c'):a'=a∧b'=b∧c'=c:=by
 rcases c7 a' a with hle|hle
 ·exact j7 a0 r1 r2 s1 s2 h hle
 ·obtain⟨h1,h2,h3⟩:=j7 b0 s1 s2 r1 r2 h.symm hle;exact⟨h1.symm,h2.symm,h3.symm⟩
theorem od (N:Nat):∀(n:Nat) (a b c:Int),vL a b c→mu a b c<n→∃a' b' c' t u v w:Int,t*w-u*v=1∧a'=tA a b c t v∧b'=tB a b c t u v w∧c'=tA a b c u w∧vL a' b' c'∧fL a' b'∧¬lC a' b' c'∧
  (∀{R:Type} x1 x2 x3 x4 x5 x6 x7 (P Q R' S:Int) (K:Int→Int→Int→Int→Int→Int→Int→Int→Int→Int→Int→Int→Int→Int→Option R),Q50.l6 N n x1 x2 x3 x4 x5 x6 x7 a b c (aA P) (aA Q) (aA R') (aA S) K=
   K x1 x2 x3 x4 x5 x6 x7 a' b' c' (aA (P*t+Q*v)) (aA (P*u+Q*w)) (aA (R'*t+S*v)) (aA (R'*u+S*w))):=by
 intro n;induction n with
 |zero=>intro a b c h hm;have:=(iw h).1;omega
 |succ n ih=>
  intro a b c h hm;by_cases hr:fL a b
  ·by_cases hs:lC a b c
   ·have hlt:=xk h hr hs;obtain⟨a',b',c',t,u,v,w,hd,g1,g2,g3,g4,g5,g6,g7⟩:=ih c (-b) a h.swap (by omega);refine⟨a',b',c', -v, -w,t,u,by grind,?_,?_,?_,g4,g5,g6,fun x1 x2 x3 x4 x5 x6 x7 P Q R' S K=>?_⟩
    ·rw[g1];unfold tA;grind
    ·rw[g2];unfold tB;grind
    ·rw[g3];unfold tA;grind
    ·rw[Q50.l6,wF N h,if_pos hr,if_pos hs];simp only[hA,cond_true,yi];simp only[Int.zero_sub];rw[g7];have e1:Q*t+ -P*v=P* -v+Q*t:=by grind
     have e2:Q*u+ -P*w=P* -w+Q*u:=by grind
     have e3:S*t+ -R'*v=R'* -v+S*t:=by grind
     have e4:S*u+ -R'*w=R'* -w+S*u:=by grind
     rw[e1,e2,e3,e4]
   ·refine⟨a,b,c,1,0,0,1,by decide,by unfold tA;grind,by unfold tB;grind,by unfold tA;grind,h,hr,hs,fun x1 x2 x3 x4 x5 x6 x7 P Q R' S K=>?_⟩;rw[Q50.l6,wF N h,if_pos hr,if_neg hs];simp only[hA,cond_false,Int.mul_one,p0,hQ,c6]
  ·have hlt:=ns h hr;obtain⟨a',b',c',t,u,v,w,hd,g1,g2,g3,g4,g5,g6,g7⟩:=ih a (sB a b) (sC a b c) h.shift.1 (by omega);refine⟨a',b',c',t+kk a b*v,u+kk a b*w,v,w,by grind,?_,?_,?_,g4,g5,g6,fun x1 x2 x3 x4 x5 x6 x7 P Q R' S K=>?_⟩
   ·rw[g1];unfold tA sB sC;grind
   ·rw[g2];unfold tB sB sC;grind
   ·rw[g3];unfold tA sB sC;grind
   ·rw[Q50.l6,wF N h,if_neg hr];simp only[hA,cond_true,yh,jw,yg];rw[g7];have e1:P*t+(kk a b*P+Q)*v=P*(t+kk a b*v)+Q*v:=by grind
    have e2:P*u+(kk a b*P+Q)*w=P*(u+kk a b*w)+Q*w:=by grind
    have e3:R'*t+(kk a b*R'+S)*v=R'*(t+kk a b*v)+S*v:=by grind
    have e4:R'*u+(kk a b*R'+S)*w=R'*(u+kk a b*w)+S*w:=by grind
    rw[e1,e2,e3,e4]
structure zJ (a b c:Int):Prop where
 inb:ke a b c
 pos:0<a
 d0:b*b-4*a*c<0
 d1: -4294967296≤b*b-4*a*c
theorem zJ.good {a b c:Int}(h:zJ a b c):vL a b c:=by
 obtain⟨⟨⟨a0,a1⟩,⟨b0,b1⟩,c0,c1⟩,a2,d0,d1⟩:=h;have hsq:=xD b;have hc:0<c:=by
  rcases zB 0 c with h|h
  ·exact h
  ·exfalso;have:=iB (show(0:Int)≤4*a by omega) (show(0:Int)≤ -c by omega);have e2:4*a* -c= -(4*a*c):=by grind
   omega
 exact⟨by omega,by omega,by omega,by omega,hc,by omega,by omega,by omega⟩
theorem jG (N:Nat)(a b c:Int):(zJ a b c∧Q48.f N a b c=some 0)∨(¬zJ a b c∧∃e,e≠0∧Q48.f N a b c=some e):=by
 unfold Q48.f;rw[(bH N a b c).1,uJ];by_cases h:ke a b c
 ·have hd:=eQ h;simp only[h,decide_true,if_true,hA,b8,cond_false,hd];by_cases h1:a≤0
  ·exact .inr ⟨fun f=>by have:=f.pos;omega,81,by decide,by simp[h1]⟩
  ·by_cases h2:b*b-4*a*c≥0
   ·exact .inr ⟨fun f=>by have:=f.d0;omega,81,by decide,by simp only[h1,h2,decide_true,decide_false,cond_true,cond_false]⟩
   ·by_cases h3:b*b-4*a*c< -4294967296
    ·exact .inr ⟨fun f=>by have:=f.d1;omega,80,by decide,by simp only[h1,h2,h3,decide_true,decide_false,cond_true,cond_false]⟩
    ·exact .inl ⟨⟨h,by omega,by omega,by omega⟩,by simp only[h1,h2,h3,decide_true,decide_false,cond_true,cond_false]⟩
 ·exact .inr ⟨fun f=>h f.inb,3,by decide,by simp[h]⟩
theorem sV {N:Nat}(hN:8589934600<N){a b c:Int}(h:zJ a b c):∃a' b' c' t u v w:Int,t*w-u*v=1∧a'=tA a b c t v∧b'=tB a b c t u v w∧c'=tA a b c u w∧zJ a' b' c'∧fL a' b'∧¬lC a' b' c'∧
  Bd t 65536∧Bd u 65536∧Bd v 65536∧Bd w 65536∧Q50.f N a b c=some (a',b',c',t,u,v,w,0):=by
 have hg:=h.good;obtain⟨a',b',c',t,u,v,w,hd,g1,g2,g3,g4,g5,g6,g7⟩:=od N N a b c hg (by have:=(iw hg).2;omega);have he:ql a b c a' b' c':=⟨t,u,v,w,hd,g1,g2,g3⟩
 have hdisc:=he.disc;have hr:=g5;unfold fL at hr;have hs:=g6;unfold lC at hs;have hca:a'≤c':=by omega
 have ba:tA a' b' c' w (-v)=a:=by
  rw[g1,g2,g3,(rH a b c t u v w w (-u) (-v) t 0 0).1];have e1:t*w+u* -v=1:=by grind
  have e2:v*w+w* -v=0:=by grind
  rw[e1,e2];unfold tA;grind
 have bc:tA a' b' c' (-u) t=c:=by
  rw[g1,g2,g3,(rH a b c t u v w (-u) (-u) t t 0 0).1];have e1:t* -u+u*t=0:=by grind
  have e2:v* -u+w*t=1:=by grind
  rw[e1,e2];unfold tA;grind
 obtain⟨⟨⟨i0,i1⟩,⟨i2,i3⟩,i4,i5⟩,_⟩:=id h;obtain⟨l1,l2⟩:=Em (x:=w) (y:= -v) g4.a0 (by omega) hr.2 hca;obtain⟨l3,l4⟩:=Em (x:= -u) (y:=t) g4.a0 (by omega) hr.2 hca;rw[ba]at l1 l2;rw[bc]at l3 l4;have e5: -v* -v=v*v:=by grind
 have e6: -u* -u=u*u:=by grind
 have bw:=ya (x:=w) (by omega);have bv:=ya (x:=v) (by omega);have bu:=ya (x:=u) (by omega);have bt:=ya (x:=t) (by omega);have d4:=g4.d0;have d5:=g4.d1;have hb':b'*b'≤a'*c':=by
  have p1:=iB (show 0≤a'-b' by omega) (show 0≤a'+b' by omega);have e:(a'-b')*(a'+b')=a'*a'-b'*b':=by grind
  have p2:=iA hca (zA g4.a0);omega
 have hac:3*(a'*c')≤4294967296:=by
  have e:4*a'*c'=4*(a'*c'):=by grind
  omega
 have hsq:=xD b';have k1:=hB (show(1:Int)≤a' by have:=g4.a0;omega) (show 0≤c' by have:=g4.c0;omega);have fin':zJ a' b' c':=by
  refine⟨?_,g4.a0,d4,d5⟩;have hc1:c'≤1073741824:=by
   have q1:=xD (a'-b');rcases zB 1 a' with h|h
   ·have:=hB (show(2:Int)≤a' by omega) (show 0≤c' by have:=g4.c0;omega);omega
   ·obtain rfl:a'=1:=by have:=g4.a0;omega
    have:b'=0∨b'=1:=by omega
    rcases this with rfl|rfl<;>omega
  have hc0:=g4.c0;have ha0:=g4.a0;unfold ke;refine⟨⟨by omega,by omega⟩,⟨by omega,by omega⟩,by omega,hc1⟩
 refine⟨a',b',c',t,u,v,w,hd,g1,g2,g3,fin',g5,g6,bt,bu,bv,bw,?_⟩;have hck:Q48.f N a b c=some 0:=by
  rcases jG N a b c with⟨_,h2⟩|⟨h2,_⟩
  ·exact h2
  ·exact absurd h h2
 unfold Q50.f;rw[hck];have e0:((0:Int) != 0)=false:=rfl;simp only[hA,e0,cond_false];have h1:aA 1=1:=by decide
 have h0:aA 0=0:=by decide
 have:=fun x1 x2 x3 x4 x5 x6 x7=>@g7 (Int×Int×Int×Int×Int×Int×Int×Int) x1 x2 x3 x4 x5 x6 x7 1 0 0 1;simp only[h1,h0,Int.one_mul,bs,hQ,c6]at this;rw[this];have wb:∀{x:Int},Bd x 65536→aA x=x:=fun h=>NatL.Bd.w h (by decide);rw[wb bt,wb bu,wb bv,wb bw]
theorem z6 {N:Nat}{a b c:Int}(h:¬zJ a b c):∃e,e≠0∧Q48.f N a b c=some e∧Q50.f N a b c=some (0,0,0,0,0,0,0,e):=by
 rcases jG N a b c with⟨h2,_⟩|⟨_,e,he,h2⟩
 ·exact absurd h2 h
 ·refine⟨e,he,h2,?_⟩;unfold Q50.f;rw[h2];have:(e != 0)=true:=by simpa using he
  simp[this]
theorem ji {N:Nat}(hN:8589934600<N){a b c:Int}(h:zJ a b c)(hr:fL a b)(hs:¬lC a b c):Q50.f N a b c=some (a,b,c,1,0,0,1,0):=by
 have hck:Q48.f N a b c=some 0:=by
  rcases jG N a b c with⟨_,h2⟩|⟨h2,_⟩
  ·exact h2
  ·exact absurd h h2
 unfold Q50.f;rw[hck];have e0:((0:Int) != 0)=false:=rfl;simp only[hA,e0,cond_false];obtain⟨n,rfl⟩:∃m,N=m+1:=⟨N-1,by omega⟩
 rw[Q50.l6,wF (n+1) h.good,if_pos hr,if_neg hs];rfl
end Go.Proofs.YtjpdjdhdchjcgaaGreat.Pure
namespace Go.Proofs.YtjpdjdhdchjcgaaGreat.Mod
structure E where
 re:Int
 im:Int
theorem E.ext' {x y:E}(h1:x.re=y.re)(h2:x.im=y.im):x=y:=by cases x;cases y;simp_all
def ad (x y:E):E:=⟨x.re+y.re,x.im+y.im⟩
def ng (x:E):E:=⟨-x.re, -x.im⟩
def ze:E:=⟨0,0⟩
def sm (n:Int)(x:E):E:=⟨n*x.re,n*x.im⟩
def cj (s:Int)(x:E):E:=⟨x.re+s*x.im, -x.im⟩
def ml (s m:Int)(x y:E):E:=⟨x.re*y.re+m*(x.im*y.im),x.re*y.im+x.im*y.re+s*(x.im*y.im)⟩
def nm (s m:Int)(x:E):Int:=x.re*x.re+s*(x.re*x.im)-m*(x.im*x.im)
theorem gL (s m:Int)(x y:E):ml s m x y=ml s m y x:=E.ext' (by simp only[ml];grind) (by simp only[ml];grind)
theorem kP (s m:Int)(x y z:E):ml s m (ml s m x y) z=ml s m x (ml s m y z):=E.ext' (by simp only[ml];grind) (by simp only[ml];grind)
theorem de (s m:Int)(x y z:E):ml s m x (ad y z)=ad (ml s m x y) (ml s m x z):=E.ext' (by simp only[ml,ad];grind) (by simp only[ml,ad];grind)
theorem nk (s m:Int)(x y:E):ml s m x (ng y)=ng (ml s m x y):=E.ext' (by simp only[ml,ng];grind) (by simp only[ml,ng];grind)
theorem xh (s m:Int)(x:E):ml s m x ze=ze:=E.ext' (by simp only[ml,ze];grind) (by simp only[ml,ze];grind)
theorem H3 (s m n:Int)(x y:E):ml s m x (sm n y)=sm n (ml s m x y):=E.ext' (by simp only[ml,sm];grind) (by simp only[ml,sm];grind)
theorem Dj (s m:Int)(x y:E):nm s m (ml s m x y)=nm s m x*nm s m y:=by simp only[nm,ml];grind
theorem Hf (x:Int):0≤x*x:=by
 rcases c7 0 x with h|h
 ·exact iB h h
 ·exact Int.mul_nonneg_of_nonpos_of_nonpos h h
theorem Hg {x:Int}(h:x≠0):0<x*x:=by
 have:=Hf x;have:x*x≠0:=fun e=>by rcases hR.mp e with e|e<;>exact h e
 omega
theorem ix {s m:Int}(hd:s*s+4*m<0){x:E}(h:x≠ze):0<nm s m x:=by
 have e:4*nm s m x=(2*x.re+s*x.im)*(2*x.re+s*x.im)+ -(s*s+4*m)*(x.im*x.im):=by simp only[nm];grind
 have h1:=Hf (2*x.re+s*x.im);by_cases hi:x.im=0
 ·have hr:x.re≠0:=fun q=>h (E.ext' q hi);have:=Hg (x:=2*x.re+s*x.im) (by rw[hi];omega);rw[hi]at e this;omega
 ·have h2:=b7 (show 0< -(s*s+4*m) by omega) (Hg hi);omega
theorem Fw (s m:Int):nm s m ze=0:=by simp only[nm,ze];grind
theorem Da {s m:Int}(hd:s*s+4*m<0){x y:E}(hx:x≠ze)(hy:y≠ze):ml s m x y≠ze:=fun h=>by
 have h1:=b7 (ix hd hx) (ix hd hy);rw[←Dj,h,Fw]at h1;omega
theorem xg {s m:Int}(hd:s*s+4*m<0){x y z:E}(hx:x≠ze)(h:ml s m x y=ml s m x z):y=z:=by
 have e:ml s m x (ad y (ng z))=ze:=by rw[de,nk,h];exact E.ext' (by simp only[ad,ng,ze];omega) (by simp only[ad,ng,ze];omega)
 by_cases hw:ad y (ng z)=ze
 ·have h1:=congrArg E.re hw;have h2:=congrArg E.im hw;simp only[ad,ng,ze]at h1 h2;exact E.ext' (by omega) (by omega)
 ·exact absurd e (Da hd hx hw)
inductive Sp (S:E→Prop):E→Prop
 |zero:Sp S ze
 |mem {x:E}:S x→Sp S x
 |add {x y:E}:Sp S x→Sp S y→Sp S (ad x y)
 |neg {x:E}:Sp S x→Sp S (ng x)
theorem Ia (n:Int)(x:E):sm (-n) x=ng (sm n x):=E.ext' (by simp only[sm,ng];grind) (by simp only[sm,ng];grind)
theorem Sp.smul {S:E→Prop}{x:E}(h:Sp S x)(n:Int):Sp S (sm n x):=by
 have nat:∀k:Nat,Sp S (sm (k:Int) x):=by
  intro k;induction k with
  |zero=>have e:sm ((0:Nat):Int) x=ze:=E.ext' (by simp[sm,ze]) (by simp[sm,ze]);rw[e];exact Sp.zero
  |succ k ih=>have e:sm ((k+1:Nat):Int) x=ad (sm (k:Int) x) x:=E.ext' (by simp only[sm,ad];grind) (by simp only[sm,ad];grind);rw[e];exact Sp.add ih h
 rcases c7 0 n with h0|h0
 ·obtain⟨k,rfl⟩:=c4 h0;exact nat k
 ·obtain⟨k,hk⟩:=c4 (show 0≤ -n by omega);have e:n= -(k:Int):=by omega
  rw[e,Ia];exact Sp.neg (nat k)
theorem Sp.mono {S T:E→Prop}(h:∀x,S x→Sp T x){x:E}(hx:Sp S x):Sp T x:=by
 induction hx with
 |zero=>exact Sp.zero
 |mem hx=>exact h _ hx
 |add _ _ a b=>exact Sp.add a b
 |neg _ a=>exact Sp.neg a
def PM (s m:Int)(M L:E→Prop):E→Prop:=Sp (fun z=>∃x y,M x∧L y∧z=ml s m x y)
theorem PM.comm {s m:Int}{M L:E→Prop}{z:E}(h:PM s m M L z):PM s m L M z:=
 Sp.mono (fun z ⟨x,y,hx,hy,e⟩=>Sp.mem ⟨y,x,hy,hx,by rw[e,gL]⟩) h
theorem PM.mono {s m:Int}{M M' L L':E→Prop}(h1:∀x,M x→M' x)(h2:∀x,L x→L' x){z:E}(h:PM s m M L z):PM s m M' L' z:=
 Sp.mono (fun z ⟨x,y,hx,hy,e⟩=>Sp.mem ⟨x,y,h1 x hx,h2 y hy,e⟩) h
theorem PM.left {s m:Int}{M L:E→Prop}{x:E}(hx:M x):∀{y:E},Sp L y→PM s m M L (ml s m x y):=by
 intro y hy;induction hy with
 |zero=>rw[xh];exact Sp.zero
 |mem hy=>exact Sp.mem ⟨x,_,hx,hy,rfl⟩
 |add _ _ a b=>rw[de];exact Sp.add a b
 |neg _ a=>rw[nk];exact Sp.neg a
theorem PM.assoc {s m:Int}{M L Q:E→Prop}{z:E}(h:PM s m (PM s m M L) Q z):PM s m M (PM s m L Q) z:=by
 refine Sp.mono (fun z ⟨x,y,hx,hy,e⟩=>?_) h;subst e;have key:∀{x:E},PM s m M L x→PM s m M (PM s m L Q) (ml s m x y):=by
  intro x hx;induction hx with
  |zero=>rw[gL,xh];exact Sp.zero
  |mem hx=>obtain⟨u,v,hu,hv,rfl⟩:=hx;rw[kP];exact Sp.mem ⟨u,ml s m v y,hu,Sp.mem ⟨v,y,hv,hy,rfl⟩,rfl⟩
  |add _ _ a b=>rw[gL,de,gL s m y,gL s m y];exact Sp.add a b
  |neg _ a=>rw[gL,nk,gL s m y];exact Sp.neg a
 exact key hx
theorem PM.assoc' {s m:Int}{M L Q:E→Prop}{z:E}(h:PM s m M (PM s m L Q) z):PM s m (PM s m M L) Q z:=by
 have h1:=PM.comm h;have h2:PM s m (PM s m Q L) M z:=h1.mono (fun x hx=>PM.comm hx) (fun x hx=>hx);have h3:=PM.comm (PM.assoc h2);exact h3.mono (fun x hx=>PM.comm hx) (fun x hx=>hx)
def Sc (s m:Int)(l:E)(M:E→Prop):E→Prop:=fun z=>∃x,M x∧z=ml s m l x
theorem Sc.prod {s m:Int}{l:E}{M L:E→Prop}{z:E}:PM s m (Sc s m l M) L z↔Sc s m l (PM s m M L) z:=by
 constructor
 ·intro h;induction h with
  |zero=>exact⟨ze,Sp.zero,(xh s m l).symm⟩
  |mem h=>obtain⟨x,y,⟨u,hu,rfl⟩,hy,rfl⟩:=h;exact⟨ml s m u y,Sp.mem ⟨u,y,hu,hy,rfl⟩,kP s m l u y⟩
  |add _ _ a b=>obtain⟨x,hx,rfl⟩:=a;obtain⟨y,hy,rfl⟩:=b;exact⟨ad x y,Sp.add hx hy,(de s m l x y).symm⟩
  |neg _ a=>obtain⟨x,hx,rfl⟩:=a;exact⟨ng x,Sp.neg hx,(nk s m l x).symm⟩
 ·rintro⟨x,hx,rfl⟩;have key:∀{x:E},PM s m M L x→PM s m (Sc s m l M) L (ml s m l x):=by
   intro x hx;induction hx with
   |zero=>rw[xh];exact Sp.zero
   |mem h=>obtain⟨u,v,hu,hv,rfl⟩:=h;rw[←kP];exact Sp.mem ⟨_,v,⟨u,hu,rfl⟩,hv,rfl⟩
   |add _ _ a b=>rw[de];exact Sp.add a b
   |neg _ a=>rw[nk];exact Sp.neg a
  exact key hx
theorem Sc.sc {s m:Int}{k l:E}{M:E→Prop}{z:E}:Sc s m k (Sc s m l M) z↔Sc s m (ml s m k l) M z:=by
 constructor
 ·rintro⟨x,⟨y,hy,rfl⟩,rfl⟩;exact⟨y,hy,(kP s m k l y).symm⟩
 ·rintro⟨y,hy,rfl⟩;exact⟨ml s m l y,⟨y,hy,rfl⟩,kP s m k l y⟩
theorem Sc.congr {s m:Int}{k:E}{M L:E→Prop}(h:∀z,M z↔L z){z:E}:Sc s m k M z↔Sc s m k L z:=
 ⟨fun⟨x,hx,e⟩=>⟨x,(h x).mp hx,e⟩,fun⟨x,hx,e⟩=>⟨x,(h x).mpr hx,e⟩⟩
def Hm (s m:Int)(M L:E→Prop):Prop:=∃k l:E,k≠ze∧l≠ze∧∀z,Sc s m k M z↔Sc s m l L z
theorem ub:(⟨1,0⟩:E)≠ze:=fun h=>by have:=congrArg E.re h;simp[ze]at this
theorem Hm.same {s m:Int}{M L:E→Prop}(h:∀z,M z↔L z):Hm s m M L:=⟨⟨1,0⟩,⟨1,0⟩,ub,ub,fun z=>Sc.congr h⟩
theorem Hm.refl (s m:Int)(M:E→Prop):Hm s m M M:=Hm.same (fun z=>Iff.rfl)
theorem Hm.symm {s m:Int}{M L:E→Prop}(h:Hm s m M L):Hm s m L M:=by
 obtain⟨k,l,hk,hl,h⟩:=h;exact⟨l,k,hl,hk,fun z=>(h z).symm⟩
theorem Hm.trans {s m:Int}(hd:s*s+4*m<0){M L Q:E→Prop}(h:Hm s m M L)(g:Hm s m L Q):Hm s m M Q:=by
 obtain⟨k,l,hk,hl,h⟩:=h;obtain⟨p,q,hp,hq,g⟩:=g;refine⟨ml s m p k,ml s m l q,Da hd hp hk,Da hd hl hq,fun z=>?_⟩;have h1:Sc s m (ml s m p k) M z↔Sc s m (ml s m p l) L z:=by rw[←Sc.sc,←Sc.sc];exact Sc.congr h
 have h2:Sc s m (ml s m l p) L z↔Sc s m (ml s m l q) Q z:=by rw[←Sc.sc,←Sc.sc];exact Sc.congr g
 rw[h1,gL s m p l];exact h2
theorem Hm.scaled {s m:Int}{k:E}(hk:k≠ze){M L:E→Prop}(h:∀z,M z↔Sc s m k L z):Hm s m M L:=by
 refine⟨⟨1,0⟩,k,ub,hk,fun z=>?_⟩;have e:∀x:E,ml s m ⟨1,0⟩ x=x:=fun x=>E.ext' (by simp[ml]) (by simp[ml]);constructor
 ·rintro⟨x,hx,rfl⟩;rw[e];exact(h x).mp hx
 ·intro hz;exact⟨z,(h z).mpr hz,(e z).symm⟩
theorem Hm.left {s m:Int}{M M':E→Prop}(L:E→Prop)(h:Hm s m M M'):Hm s m (PM s m M L) (PM s m M' L):=by
 obtain⟨k,l,hk,hl,h⟩:=h;refine⟨k,l,hk,hl,fun z=>?_⟩;rw[←Sc.prod,←Sc.prod];exact⟨fun hz=>hz.mono (fun x hx=>(h x).mp hx) (fun x hx=>hx),fun hz=>hz.mono (fun x hx=>(h x).mpr hx) (fun x hx=>hx)⟩
theorem Hm.comm {s m:Int}(M L:E→Prop):Hm s m (PM s m M L) (PM s m L M):=Hm.same (fun z=>⟨PM.comm,PM.comm⟩)
theorem Hm.assoc {s m:Int}(M L Q:E→Prop):Hm s m (PM s m (PM s m M L) Q) (PM s m M (PM s m L Q)):=Hm.same (fun z=>⟨PM.assoc,PM.assoc'⟩)
theorem Hm.prod {s m:Int}(hd:s*s+4*m<0){M M' L L':E→Prop}(h:Hm s m M M')(g:Hm s m L L'):Hm s m (PM s m M L) (PM s m M' L'):=
 (h.left L).trans hd ((Hm.comm M' L).trans hd ((g.left M').trans hd (Hm.comm L' M')))
end Go.Proofs.YtjpdjdhdchjcgaaGreat.Mod
