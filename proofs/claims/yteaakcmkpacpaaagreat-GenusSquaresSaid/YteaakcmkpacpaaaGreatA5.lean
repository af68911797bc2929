import Derived.Test.YteaakcmkpacpaaaGreatA4
import Derived.KernelRfl
open Option renaming bind_some→hA
open Int renaming mul_le_mul_of_nonneg_left→iA,le_of_lt→hB,mul_le_mul_of_nonneg_right→iB,mul_nonneg→hC,lt_or_le→pC,emod_lt_of_pos→aE,mul_ediv_add_emod→hE,emod_nonneg→zE,eq_of_mul_eq_mul_left→hL,pow_succ→cP,mul_ediv_cancel_left→hQ,pow_pos→hV,ediv_nonneg→eX,mul_eq_zero→j0,mul_neg→j1,eq_ofNat_of_zero_le→o2,pow_add→c5,dvd_trans→c6,le_of_dvd→b7,add_zero→c7,ediv_emod_unique→p7,mul_zero→q7,mul_comm→b8,mul_lt_mul_of_pos_left→c8,tdiv_eq_ediv_of_nonneg→l8,mul_tdiv_cancel_left→r8,zero_add→x8,mul_pos→b9,dvd_mul_right→h9,lt_trichotomy→l9,tmod_eq_emod_of_nonneg→ae,le_total→aq,dvd_add→bs,ediv_lt_iff_lt_mul→cc,le_ediv_iff_mul_le→ch,one_dvd→ck,mul_assoc→cy,ediv_le_self→da,add_mul_ediv_left→db,emod_emod_of_dvd→dc,zero_dvd→dd,zero_mul→dk,lt_ediv_add_one_mul_self→eh,mul_le_mul→ei,le_refl→en,mul_one→eo,neg_mul→fo,one_mul→fp,add_mul_emod_self_left→fr,emod_eq_of_lt→fs,dvd_mul_left→ga,emod_eq_zero_of_dvd→gw,dvd_neg→gy,ediv_eq_zero_of_lt→il,ediv_lt_of_lt_mul→iv,natAbs_dvd_natAbs→ki,mul_dvd_mul_left→ks,mul_ediv_cancel'→kt,dvd_refl→lk,mul_emod→ln
open List renaming drop_eq_nil_iff→hF,getD_eq_getElem?_getD→hI,length_take→hT,length_pos_iff→j3,take_length→y8,take_of_length_le→c9,getElem?_set→bd,getD_cons_succ→ef,drop_zero→ek,getElem?_replicate→gx
open Nat renaming le_refl→iX,pow_le_pow_right→j2,and_two_pow_sub_one_eq_mod→dm,shiftLeft_add_eq_or_of_lt→ds,lt_or_ge→gb,shiftLeft_eq→gg
open BitVec renaming toNat_ofInt→y7,msb_eq_decide→ko
open Bool renaming not_false→p8,not_true→cx
set_option linter.unusedVariables false
set_option linter.unusedSimpArgs false
namespace Go.Proofs.YteaakcmkpacpaaaGreat.NatL
open Go Go.Proofs.YteaakcmkpacpaaaGreat.Ev
theorem gA {n:Int}(h1: -9223372036854775808≤n)(h2:n<9223372036854775808):aA n=n:=by
 simp only[aA,IntKind.wrap];simp[IntKind.bits,IntKind.signed];omega
theorem sA {n:Int}(h1:0≤n)(h2:n<18446744073709551616):nA n=n:=by
 simp only[nA,IntKind.wrap];simp[IntKind.bits,IntKind.signed];omega
theorem jT {n:Int}(h1:0≤n)(h2:n<4294967296):gF n=n:=by
 simp only[gF,IntKind.wrap];simp[IntKind.bits,IntKind.signed];omega
theorem rE (n:Int):gF n=n%4294967296:=by
 simp only[gF,IntKind.wrap];simp[IntKind.bits,IntKind.signed]
theorem oM (n:Int):nA n=n%18446744073709551616:=by
 simp only[nA,IntKind.wrap];simp[IntKind.bits,IntKind.signed]
theorem Sz {n:Int}(h1:0≤n)(h2:n<256):pM n=n:=by
 simp only[pM,IntKind.wrap];simp[IntKind.bits,IntKind.signed];omega
theorem tC (y:Int)(k:Nat):Int.fdiv y (2^k)=y/2^k:=Int.fdiv_eq_ediv_of_nonneg _ (hB (hV (by decide)))
theorem yP {x y:Int}(h:0≤x):Int.tdiv x y=x/y:=l8 h
theorem xI {x y:Int}(h:0≤x):Int.tmod x y=x%y:=ae h
def nv (b:Int):List Int→Int
 | []=>0
 |x::r=>x+b*nv b r
def qD (b:Int)(l:List Int):Prop:=∀x∈l,0≤x∧x<b
theorem qD.nil (b:Int):qD b []:=fun _ h=>by cases h
theorem qD.cons {b x:Int}{l:List Int}(h0:0≤x)(h1:x<b)(h:qD b l):qD b (x::l):=fun y hy=>by
 rcases List.mem_cons.mp hy with rfl|hy
 ·exact⟨h0,h1⟩
 ·exact h y hy
theorem qD.tail {b x:Int}{l:List Int}(h:qD b (x::l)):qD b l:=fun y hy=>h y (List.mem_cons_of_mem _ hy)
theorem qD.head {b x:Int}{l:List Int}(h:qD b (x::l)):0≤x∧x<b:=h x List.mem_cons_self
theorem qD.append {b:Int}{l m:List Int}(h:qD b l)(k:qD b m):qD b (l++m):=fun y hy=>by
 rcases List.mem_append.mp hy with hy|hy
 ·exact h y hy
 ·exact k y hy
theorem qD.take {b:Int}{l:List Int}(h:qD b l)(n:Nat):qD b (l.take n):=fun y hy=>h y (List.mem_of_mem_take hy)
theorem qD.drop {b:Int}{l:List Int}(h:qD b l)(n:Nat):qD b (l.drop n):=fun y hy=>h y (List.mem_of_mem_drop hy)
theorem qD.set {b v:Int}{l:List Int}(h:qD b l)(i:Nat)(h0:0≤v)(h1:v<b):qD b (l.set i v):=fun y hy=>by
 rcases List.mem_or_eq_of_mem_set hy with hy|rfl
 ·exact h y hy
 ·exact⟨h0,h1⟩
theorem qD.get {b:Int}{l:List Int}(h:qD b l)(hb:0<b)(i:Nat):0≤l.getD i 0∧l.getD i 0<b:=by
 rw[hI];cases hi:l[i]? with
 |none=>exact⟨en _,hb⟩
 |some x=>exact h x (List.mem_of_getElem? hi)
theorem nU (b:Int):∀l m:List Int,nv b (l++m)=nv b l+b^l.length*nv b m
 | [],m=>by simp[nv]
 |x::l,m=>by simp only[List.cons_append,nv,List.length_cons,nU b l m,cP];grind
theorem jC {b:Int}(hb:0<b):∀{l:List Int},qD b l→0≤nv b l∧nv b l<b^l.length
 | [],_=>by simp[nv]
 |x::l,h=>by
  obtain⟨h1,h2⟩:=jC hb h.tail;obtain⟨h3,h4⟩:=h.head;simp only[nv,List.length_cons,cP];have p1:=hC (hB hb) h1;have p2:=iA (show nv b l+1≤b^l.length by omega) (hB hb);have e1:b*(nv b l+1)=b*nv b l+b:=by grind
  have e2:b^l.length*b=b*b^l.length:=b8 _ _;omega
theorem sL (b v:Int):∀(l:List Int) (i:Nat),i<l.length→nv b (l.set i v)=nv b l+b^i*(v-l.getD i 0)
 | [],i,h=>by simp at h
 |x::l,0,_=>by simp[nv];omega
 |x::l,i+1,h=>by have:=sL b v l i (by simpa using h);simp only[List.set_cons_succ,nv,this,cP,ef];grind
theorem xE (b:Int):∀(l:List Int) (i:Nat),i<l.length→nv b (l.take (i+1))=nv b (l.take i)+b^i*l.getD i 0
 | [],i,h=>by simp at h
 |x::l,0,_=>by simp[nv]
 |x::l,i+1,h=>by have:=xE b l i (by simpa using h);simp only[List.take_succ_cons,nv,this,cP,ef];grind
theorem rF (b:Int):∀(l:List Int) (i:Nat),i<l.length→nv b (l.drop i)=l.getD i 0+b*nv b (l.drop (i+1))
 | [],i,h=>by simp at h
 |x::l,0,_=>by simp[nv]
 |x::l,i+1,h=>by have:=rF b l i (by simpa using h);simpa using this
theorem nS (b:Int)(l:List Int)(i:Nat)(h:i≤l.length):nv b l=nv b (l.take i)+b^i*nv b (l.drop i):=by
 have:=nU b (l.take i) (l.drop i);rw[List.take_append_drop,hT,Nat.min_eq_left h]at this;exact this
theorem lG (b:Int):∀n,nv b (List.replicate n 0)=0
 |0=>rfl
 |n+1=>by simp[List.replicate_succ,nv,lG b n]
theorem qD.replicate {b:Int}(hb:0<b)(n:Nat):qD b (List.replicate n 0):=fun x hx=>by
 have:=List.eq_of_mem_replicate hx;subst this;exact⟨en _,hb⟩
structure mQ (b:Int)(l:List Int):Prop where
 dig:qD b l
 top:l≠ []→l.getD (l.length-1) 0≠0
theorem mQ.nil (b:Int):mQ b []:=⟨qD.nil b,fun h=>absurd rfl h⟩
theorem mQ.lower {b:Int}(hb:0<b){l:List Int}(h:mQ b l)(hne:l≠ []):b^(l.length-1)≤nv b l:=by
 have hl:0<l.length:=j3.mpr hne;have h1:=xE b l (l.length-1) (by omega);have e:l.length-1+1=l.length:=by omega
 rw[e,y8]at h1;have h2:=(jC hb (h.dig.take (l.length-1))).1;have h3:=h.dig.get hb (l.length-1);have h4:=h.top hne;have h5:=iA (show 1≤l.getD (l.length-1) 0 by omega) (show 0≤b^(l.length-1)from hB (hV hb));omega
theorem mQ.pos {b:Int}(hb:0<b){l:List Int}(h:mQ b l):nv b l=0↔l=[]:=by
 cases l with
 |nil=>simp[nv]
 |cons x l=>have h1:=h.lower hb (by simp);have h2:0<b^((x::l).length-1):=hV hb;refine⟨fun _=>?_,fun h=>by cases h⟩;omega
theorem mQ.tail {b x:Int}{l:List Int}(h:mQ b (x::l)):mQ b l:=by
 refine⟨h.dig.tail,fun hne=>?_⟩;have hl:0<l.length:=j3.mpr hne;have:=h.top (by simp);have e:(x::l).length-1=(l.length-1)+1:=by simp;omega
 rw[e,ef]at this;exact this
theorem rp {b x y n m:Int}(hb:0<b)(hx0:0≤x)(hx1:x<b)(hy0:0≤y)(hy1:y<b)(h:x+b*n=y+b*m):x=y∧n=m:=by
 rcases l9 n m with hq|hq|hq
 ·exfalso;have:=iA (show n+1≤m by omega) (hB hb);have e:b*(n+1)=b*n+b:=by grind
  omega
 ·subst hq;exact⟨by omega,rfl⟩
 ·exfalso;have:=iA (show m+1≤n by omega) (hB hb);have e:b*(m+1)=b*m+b:=by grind
  omega
theorem mQ.unique {b:Int}(hb:0<b):∀{l m:List Int},mQ b l→mQ b m→nv b l=nv b m→l=m
 | [],m,_,hm,h=>((hm.pos hb).mp h.symm).symm
 |x::l,[],hl,_,h=>by have:=(hl.pos hb).mp h;exact this
 |x::l,y::m,hl,hm,h=>by simp only[nv]at h;obtain⟨h1,h2⟩:=rp hb hl.dig.head.1 hl.dig.head.2 hm.dig.head.1 hm.dig.head.2 h;rw[h1,mQ.unique hb hl.tail hm.tail h2]
def aM (l:List Int):Nat→Nat
 |0=>0
 |n+1=>if l.getD n 0=0 then aM l n else n+1
theorem gj (l:List Int):∀n,aM l n≤n
 |0=>iX _
 |n+1=>by
  unfold aM;split
  ·exact Nat.le_succ_of_le (gj l n)
  ·exact iX _
theorem wq (b:Int)(l:List Int):∀n,n≤l.length→nv b (l.take (aM l n))=nv b (l.take n)
 |0,_=>rfl
 |n+1,h=>by
  unfold aM;split
  ·rename_i h0;rw[wq b l n (by omega),xE b l n (by omega),h0];simp
  ·rfl
theorem mj (l:List Int):∀n,0<aM l n→l.getD (aM l n-1) 0≠0
 |0,h=>by simp[aM]at h
 |n+1,h=>by
  unfold aM at h⊢;split
  ·rename_i h0;rw[if_pos h0]at h;exact mj l n h
  ·rename_i h0;simpa using h0
def vD (l:List Int):List Int:=l.take (aM l l.length)
theorem wo (b:Int)(l:List Int):nv b (vD l)=nv b l:=by
 unfold vD;rw[wq b l _ (iX _),y8]
theorem cr {l:List Int}{n i:Nat}(h:i<n):(l.take n).getD i 0=l.getD i 0:=by
 simp[hI,List.getElem?_take,h]
theorem mi {b:Int}{l:List Int}(h:qD b l):mQ b (vD l):=by
 refine⟨h.take _,fun hne=>?_⟩;have hle:=gj l l.length;have hlen:(vD l).length=aM l l.length:=by unfold vD;rw[hT];omega
 have hpos:0<(vD l).length:=j3.mpr hne;rw[hlen]at hpos⊢;have:=mj l l.length hpos;unfold vD;rw[cr (by omega)];exact this
theorem Ct (l:List Int):(vD l).length≤l.length:=by unfold vD;rw[hT];omega
theorem se {b:Int}(hb:2≤b):∀n:Nat,∃l,mQ b l∧nv b l=n:=by
 intro n;induction n using Nat.strongRecOn with
 |_ n ih=>
  by_cases h0:n=0
  ·subst h0;exact⟨[],mQ.nil b,rfl⟩
  ·have h1:=hE (n:Int) b;have h2:=zE (n:Int) (b:=b) (by omega);have h3:=aE (n:Int) (b:=b) (by omega);have h4:0≤(n:Int)/b:=eX (by omega) (by omega);have h5:(n:Int)/b<n:=Int.ediv_lt_self_of_pos_of_ne_one (by omega) (by omega);obtain⟨l,hl,hv⟩:=ih ((n:Int)/b).toNat (by omega);have hv':nv b l=(n:Int)/b:=by omega
   refine⟨(n:Int)%b::l,⟨qD.cons h2 h3 hl.dig,fun _=>?_⟩,by simp only[nv,hv'];omega⟩;cases l with
   |nil=>
    simp only[nv]at hv';simp;intro h;have:(n:Int)%b=0:=by omega
    rw[←hv']at h1;simp at h1;omega
   |cons x l=>have:=hl.top (by simp);simpa using this
open Classical in
noncomputable def enc (b v:Int):List Int:=if h:∃l,mQ b l∧nv b l=v then Classical.choose h else []
theorem ru {b:Int}(hb:2≤b){l:List Int}{v:Int}(h:mQ b l)(hv:nv b l=v):l=enc b v:=by
 have hx:∃l,mQ b l∧nv b l=v:=⟨l,h,hv⟩
 unfold enc;rw[dif_pos hx];obtain⟨h1,h2⟩:=Classical.choose_spec hx;exact mQ.unique (by omega) h h1 (by omega)
theorem lD {b:Int}(hb:2≤b){v:Int}(hv:0≤v):mQ b (enc b v)∧nv b (enc b v)=v:=by
 obtain⟨l,h1,h2⟩:=se hb v.toNat;have h3:nv b l=v:=by omega
 rw[←ru hb h1 h3];exact⟨h1,h3⟩
theorem lO {b:Int}(hb:2≤b):enc b 0=[]:=(ru hb (mQ.nil b) rfl).symm
theorem wx {b:Int}(hb:2≤b){v:Int}(hv:0≤v):enc b v=[]↔v=0:=by
 obtain⟨h1,h2⟩:=lD hb hv;rw[←h1.pos (by omega),h2]
def nE (v:Int):Int:=if v≤0 then 0 else(Nat.log2 v.toNat:Int)+1
theorem nD (k:Nat):(2:Int)^k=((2^k:Nat):Int):=by simp
theorem iG {v:Int}(h:0≤v)(k:Nat):nE v≤k↔v<2^k:=by
 unfold nE;have hp:(0:Int)<2^k:=hV (by decide);split
 ·have:v=0:=by omega
  subst this;constructor<;>intro<;>omega
 ·have:=Nat.log2_lt (n:=v.toNat) (k:=k) (by omega);rw[nD];constructor
  ·intro h1;have:=this.mp (by omega);omega
  ·intro h1;have:=this.mpr (by omega);omega
theorem gD (v:Int):0≤nE v:=by unfold nE;split<;>omega
theorem lz {v r:Int}(h:0≤v)(h0:0≤r)(hr:∀k:Nat,r≤k↔v<2^k):r=nE v:=by
 have h1:=(iG h r.toNat).mpr ((hr r.toNat).mp (by omega));have h2:=(hr (nE v).toNat).mpr ((iG h (nE v).toNat).mp (by have:=gD v;omega));have:=gD v;omega
theorem tM {v:Int}(k:Nat)(h:2^k≤v):nE v=k+nE (v/2^k):=by
 have hp:(0:Int)<2^k:=hV (by decide);have hq:0≤v/2^k:=eX (by omega) (by omega);refine(lz (by omega) (by have:=gD (v/2^k);omega) fun j=>?_).symm;by_cases hj:k≤j
 ·have e:(2:Int)^j=2^(j-k)*2^k:=by rw[←c5];congr 1;omega
  have h1:=iG hq (j-k);have h2:v/2^k<2^(j-k)↔v<2^(j-k)*2^k:=cc hp;rw[e,←h2,←h1];constructor<;>intro<;>omega
 ·have h1:=gD (v/2^k);have e:(2:Int)^j≤2^k:=by
   have:=j2 (show 0<2 by decide) (show j≤k by omega);rw[nD,nD];omega
  constructor
  ·intro;omega
  ·intro;omega
theorem Ma:∀i:Nat,i<256→xF eI i=nE i:=by decide+kernel
theorem Bk:eI.size=256:=by decide+kernel
theorem sM {v:Int}(h:0≤v)(k:Nat)(hk:v<2^k):nE v≤k:=(iG h k).mpr hk
theorem fS {x o:Int}(h0:0≤x)(h1:x<256)(o0:0≤o)(o1:o≤56):(bif (decide (0≤(pM x)))&&(decide ((pM x)<(eI.size:Int)))then some (aA (o+(aA (xF eI ((pM x).toNat)))))else none)=some (o+nE x):=by
 have t:=Ma x.toNat (by omega);have e:((x.toNat:Nat):Int)=x:=by omega
 rw[e]at t;have hb:=sM h0 8 (by omega);have hn:=gD x;rw[Sz h0 h1,Bk];have c:(decide (0≤x)&&decide (x<((256:Nat):Int)))=true:=by simp;omega
 rw[c,t,gA (n:=nE x) (by omega) (by omega),gA (by omega) (by omega)];rfl
theorem rV (N:Nat){x:Int}(h0:0≤x)(h1:x<4294967296):Q0.f N x=some (nE x):=by
 unfold Q0.f;simp only[tC];have e16:(2:Int)^16=65536:=by decide
 have e8:(2:Int)^8=256:=by decide
 simp only[e16,e8];by_cases c1:x≥65536
 ·simp only[c1,decide_true,cond_true];have b1:=tM (v:=x) 16 (by omega);rw[e16]at b1;by_cases c2:x/65536≥256
  ·simp only[c2,decide_true,cond_true];have b2:=tM (v:=x/65536) 8 (by omega);rw[e8]at b2;rw[fS (by omega) (by omega) (by omega) (by omega),b1,b2];congr 1;omega
  ·simp only[c2,decide_false,cond_false];rw[fS (by omega) (by omega) (by omega) (by omega),b1];rfl
 ·simp only[c1,decide_false,cond_false];by_cases c2:x≥256
  ·simp only[c2,decide_true,cond_true];have b2:=tM (v:=x) 8 (by omega);rw[e8]at b2;rw[fS (by omega) (by omega) (by omega) (by omega),b2];rfl
  ·simp only[c2,decide_false,cond_false];rw[fS (by omega) (by omega) (by omega) (by omega)];simp
theorem B2:(2:Int)≤(4294967296:Int):=by decide
theorem fj (k:Nat):(4294967296:Int)^k=2^(32*k):=by rw[Int.pow_mul];rfl
theorem Cm {l:List Int}(h:mQ (4294967296:Int) l)(hne:l≠ []):nE (nv (4294967296:Int) l)=32*((l.length:Int)-1)+nE (l.getD (l.length-1) 0):=by
 have hl:0<l.length:=j3.mpr hne;have h1:=xE (4294967296:Int) l (l.length-1) (by omega);have e:l.length-1+1=l.length:=by omega
 rw[e,y8]at h1;have h2:=jC (show 0<(4294967296:Int) by decide) (h.dig.take (l.length-1));have e3:(l.take (l.length-1)).length=l.length-1:=by rw[hT];omega
 rw[e3]at h2;have h4:=h.lower (by decide) hne;have hp:(0:Int)<(4294967296:Int)^(l.length-1):=hV (by decide);have hq:nv (4294967296:Int) l/(4294967296:Int)^(l.length-1)=l.getD (l.length-1) 0:=by rw[h1,db _ _ (by omega),il h2.1 h2.2];simp
 rw[tM (32*(l.length-1)) (by rw[←fj];exact h4),←fj,hq];omega
theorem bH (N:Nat){l:List Int}(h:mQ (4294967296:Int) l)(hlen:l.length≤100000000):Q3.f N l=some (nE (nv (4294967296:Int) l)):=by
 unfold Q3.f;by_cases hne:l=[]
 ·subst hne;rfl
 ·have hl:0<l.length:=j3.mpr hne;have c0:((l.length:Int)==0)=false:=by simp;omega
  have e1:aA ((l.length:Int)-1)=(l.length:Int)-1:=gA (by omega) (by omega);have e2:((l.length:Int)-1).toNat=l.length-1:=by omega
  have hd:=h.dig.get (by decide) (l.length-1);have hb:=sM hd.1 32 hd.2;have hn:=gD (l.getD (l.length-1) 0);rw[c0,e1,e2,rV N hd.1 hd.2];have c1:(decide (0≤(l.length:Int)-1)&&decide ((l.length:Int)-1<(l.length:Int)))=true:=by simp;omega
  rw[c1,Cm h hne];simp only[cond_true,cond_false,hA];rw[gA (n:=32*((l.length:Int)-1)) (by omega) (by omega),gA (by omega) (by omega)]
def K:Int:=2^4096
theorem oY (N:Nat){l:List Int}(h:mQ (4294967296:Int) l)(hlen:l.length≤100000000):Q4.f N l=some (if nv (4294967296:Int) l<K then(l,0)else([],3)):=by
 unfold Q4.f;rw[bH N h hlen];simp only[hA];have:=iG (jC (show 0<(4294967296:Int) by decide) h.dig).1 4096;by_cases hk:nv (4294967296:Int) l<K
 ·have h1:=this.mpr hk;have c:decide (nE (nv (4294967296:Int) l)>4096)=false:=by simp;omega
  rw[c,if_pos hk];rfl
 ·have h1:¬nE (nv (4294967296:Int) l)≤(4096:Nat):=fun h=>hk (this.mp h);have c:decide (nE (nv (4294967296:Int) l)>4096)=true:=by simp;omega
  rw[c,if_neg hk];rfl
theorem bY (N:Nat){R:Type}(l:List Int)(m:Nat)(hm:m≤l.length)(hm2:m≤1000000000)(k:Nat→Nat→Int→List Int→Option R):∀(n i:Nat),i≤m→i<n→Q2.l2 N n 0 m (i:Int) l k=k 0 m (aM l i:Nat) l:=by
 intro n;induction n with
 |zero=>intro i _ h;omega
 |succ n ih=>
  intro i hi hn;rw[Q2.l2];cases i with
  |zero=>rfl
  |succ i=>
   have e1:aA (((i+1:Nat):Int)-1)=(i:Int):=by rw[gA (by omega) (by omega)];omega
   have c0:decide (((i+1:Nat):Int)>0)=true:=decide_eq_true (by omega);have c1:(decide (0≤(i:Int))&&decide ((i:Int)<(m:Int)))=true:=by simp;omega
   rw[e1,c1,c0];simp only[cond_true];have e2:0+(i:Int).toNat=i:=by omega
   rw[e2];unfold aM;by_cases hz:l.getD i 0=0
   ·rw[if_pos hz];have:(l.getD i 0==0)=true:=by simpa using hz
    rw[this];exact ih i (by omega) (by omega)
   ·rw[if_neg hz];have:(l.getD i 0==0)=false:=by simpa using hz
    rw[this];rfl
theorem Ag {N:Nat}(hN:1000000001<N)(l:List Int)(m:Nat)(hm:m≤l.length)(hm2:m≤1000000000):Q2.f N 0 m l=some (0,aM l m,l):=by
 unfold Q2.f;rw[bY N l m hm hm2 _ N m (iX _) (by omega)];have:=gj l m;have c:((decide (0≤((aM l m:Nat):Int))&&decide (((aM l m:Nat):Int)≤((aM l m:Nat):Int)))&&decide (((aM l m:Nat):Int)≤(m:Int)))=true:=by simp;omega
 rw[c];simp
theorem xM {N:Nat}(hN:1000000001<N)(l:List Int)(hl:l.length≤1000000000):Q2.f N 0 l.length l=some (0,aM l l.length,l)∧(l.drop 0).take (aM l l.length)=vD l:=
 ⟨Ag hN l _ (iX _) hl,by simp[vD]⟩
theorem aK {l:List Int}(h:qD (4294967296:Int) l):vD l=enc (4294967296:Int) (nv (4294967296:Int) l):=ru B2 (mi h) (wo (4294967296:Int) l)
theorem wv {v:Int}(h:0≤v){k:Nat}(hk:v<(4294967296:Int)^k):(enc (4294967296:Int) v).length≤k:=by
 obtain⟨h1,h2⟩:=lD B2 h;by_cases hne:enc (4294967296:Int) v=[]
 ·rw[hne];simp
 ·have h3:=h1.lower (by decide) hne;rw[h2]at h3;rcases gb k (enc (4294967296:Int) v).length with h|h
  ·exfalso;have:(4294967296:Int)^k≤(4294967296:Int)^((enc (4294967296:Int) v).length-1):=by
    rw[fj,fj,nD,nD];have:=j2 (show 0<2 by decide) (show 32*k≤32*((enc (4294967296:Int) v).length-1) by omega);omega
   omega
  ·exact h
theorem T5:K=(4294967296:Int)^128:=by unfold K;rw[fj]
theorem eE {v:Int}(h:0≤v)(hk:v<K):(enc (4294967296:Int) v).length≤128:=wv h (by rw[←T5];exact hk)
theorem qS {N:Nat}(hN:1000000001<N){n:Int}(h0:0≤n)(h1:n<18446744073709551616):Q5.f N n=some (enc (4294967296:Int) n):=by
 unfold Q5.f;have e32:(2:Int)^32=4294967296:=by decide
 rw[tC,e32,rE,rE];have hd:qD (4294967296:Int) [n%4294967296,n/4294967296%4294967296]:=qD.cons (by omega) (by omega) (qD.cons (by omega) (by omega) (qD.nil (4294967296:Int)));obtain⟨c1,c2⟩:=xM hN [n%4294967296,n/4294967296%4294967296] (by simp);have hv:nv (4294967296:Int) [n%4294967296,n/4294967296%4294967296]=n:=by simp only[nv];omega
 have:=aK hd;rw[hv]at this;rw[←this,←c2];have hl:[n%4294967296,n/4294967296%4294967296].length=2:=rfl;rw[hl]at c1⊢;rw[c1];rfl
theorem Cq (N:Nat){R:Type}(a c:List Int)(hl:a.length=c.length)(ha:qD (4294967296:Int) a)(hc:qD (4294967296:Int) c)(hs:a.length≤1000000000)(K0:Unit→Option R)(Kr:Int→Option R):∀(n i:Nat),i≤a.length→i<n→
  Q7.l6 N n ((i:Int)-1) a c K0 Kr=if nv (4294967296:Int) (a.take i)=nv (4294967296:Int) (c.take i)then K0 ()else Kr (if nv (4294967296:Int) (a.take i)<nv (4294967296:Int) (c.take i)then-1 else 1):=by
 intro n;induction n with
 |zero=>intro i _ h;omega
 |succ n ih=>
  intro i hi hn;rw[Q7.l6];cases i with
  |zero=>rfl
  |succ i=>
   have e0:((i+1:Nat):Int)-1=(i:Int):=by omega
   have e1:aA ((i:Int)-1)=(i:Int)-1:=gA (by omega) (by omega);rw[e0,e1];have c0:decide ((i:Int)≥0)=true:=decide_eq_true (by omega);have c1:(decide (0≤(i:Int))&&decide ((i:Int)<(a.length:Int)))=true:=by simp;omega
   have c2:(decide (0≤(i:Int))&&decide ((i:Int)<(c.length:Int)))=true:=by simp;omega
   have e2:(i:Int).toNat=i:=by omega
   rw[c1,c2,c0,e2];simp only[cond_true];have ta:=xE (4294967296:Int) a i (by omega);have tc:=xE (4294967296:Int) c i (by omega);have ba:=jC (show 0<(4294967296:Int) by decide) (ha.take i);have bc:=jC (show 0<(4294967296:Int) by decide) (hc.take i);have la:(a.take i).length=i:=by rw[hT];omega
   have lc:(c.take i).length=i:=by rw[hT];omega
   rw[la]at ba;rw[lc]at bc;have hp:(0:Int)<(4294967296:Int)^i:=hV (by decide);by_cases h1:a.getD i 0<c.getD i 0
   ·simp only[h1,decide_true,cond_true];have:=iA (show a.getD i 0+1≤c.getD i 0 by omega) (hB hp);have e:(4294967296:Int)^i*(a.getD i 0+1)=(4294967296:Int)^i*a.getD i 0+(4294967296:Int)^i:=by grind
    rw[if_neg (by omega),if_pos (by omega)]
   ·simp only[h1,decide_false,cond_false];by_cases h2:a.getD i 0>c.getD i 0
    ·simp only[h2,decide_true,cond_true];have:=iA (show c.getD i 0+1≤a.getD i 0 by omega) (hB hp);have e:(4294967296:Int)^i*(c.getD i 0+1)=(4294967296:Int)^i*c.getD i 0+(4294967296:Int)^i:=by grind
     rw[if_neg (by omega),if_neg (by omega)]
    ·simp only[h2,decide_false,cond_false];have heq:a.getD i 0=c.getD i 0:=by omega
     rw[ih i (by omega) (by omega),ta,tc,heq];generalize(4294967296:Int)^i*c.getD i 0=p;generalize nv (4294967296:Int) (a.take i)=x;generalize nv (4294967296:Int) (c.take i)=y;by_cases h3:x=y
     ·rw[if_pos h3,if_pos (by rw[h3])]
     ·have n1:¬(x+p=y+p):=by omega
      rw[if_neg h3,if_neg n1];by_cases h4:x<y
      ·have n2:x+p<y+p:=by omega
       rw[if_pos h4,if_pos n2]
      ·have n2:¬x+p<y+p:=by omega
       rw[if_neg h4,if_neg n2]
def Bw (u v:Int):Int:=if u=v then 0 else if u<v then-1 else 1
theorem wK {a c:List Int}(ha:mQ (4294967296:Int) a)(hc:mQ (4294967296:Int) c)(h:a.length<c.length):nv (4294967296:Int) a<nv (4294967296:Int) c:=by
 have hne:c≠ []:=by intro e;subst e;simp at h
 have h1:=hc.lower (by decide) hne;have h2:=(jC (show 0<(4294967296:Int) by decide) ha.dig).2;have:(4294967296:Int)^a.length≤(4294967296:Int)^(c.length-1):=by rw[fj,fj,nD,nD];have:=j2 (show 0<2 by decide) (show 32*a.length≤32*(c.length-1) by omega);omega
 omega
theorem Ad {N:Nat}(hN:1000000001<N){a c:List Int}(ha:mQ (4294967296:Int) a)(hc:mQ (4294967296:Int) c)(hs:a.length≤1000000000):Q7.f N a c=some (Bw (nv (4294967296:Int) a) (nv (4294967296:Int) c)):=by
 unfold Q7.f Bw;by_cases hl:a.length=c.length
 ·have c0:((a.length:Int) != (c.length:Int))=false:=by simp;omega
  have e1:aA ((a.length:Int)-1)=(a.length:Int)-1:=gA (by omega) (by omega);rw[c0,e1];simp only[cond_false];rw[Cq N a c hl ha.dig hc.dig hs _ _ N a.length (iX _) (by omega),y8,hl,y8];split
  ·rfl
  ·rfl
 ·have c0:((a.length:Int) != (c.length:Int))=true:=by simp;omega
  rw[c0];simp only[cond_true];rcases Nat.lt_or_gt_of_ne hl with h|h
  ·have:=wK ha hc h;have c1:decide ((a.length:Int)<(c.length:Int))=true:=decide_eq_true (by omega);rw[c1,if_neg (by omega),if_pos this];rfl
  ·have:=wK hc ha h;have c1:decide ((a.length:Int)<(c.length:Int))=false:=decide_eq_false (by omega);rw[c1,if_neg (by omega),if_neg (by omega)];rfl
theorem gh {N:Nat}(hN:1000000001<N){u v:Int}(hu:0≤u)(hk:u<K)(hv:0≤v):Q7.f N (enc (4294967296:Int) u) (enc (4294967296:Int) v)=some (Bw u v):=by
 obtain⟨h1,h2⟩:=lD B2 hu;obtain⟨h3,h4⟩:=lD B2 hv;rw[Ad hN h1 h3 (by have:=eE hu hk;omega),h2,h4]
theorem eR (s:Int):s%(4294967296:Int)+(4294967296:Int)*(s/(4294967296:Int))=s:=by
 have:=hE s (4294967296:Int);omega
theorem C7 (N:Nat){R:Type}(b:List Int)(hb:qD (4294967296:Int) b)(K0:List Int→Option R):∀(n i:Nat) (c:Int) (out:List Int),qD (4294967296:Int) out→b.length<out.length→out.length≤1000000000→i≤out.length→out.length-i<n→0≤c→c≤1→
  nv (4294967296:Int) out+(4294967296:Int)^i*c+(4294967296:Int)^i*nv (4294967296:Int) (b.drop i)<(4294967296:Int)^out.length→
  ∃r,qD (4294967296:Int) r∧r.length=out.length∧nv (4294967296:Int) r=nv (4294967296:Int) out+(4294967296:Int)^i*c+(4294967296:Int)^i*nv (4294967296:Int) (b.drop i)∧Q8.l7 N n c (out.length:Int) (i:Int) b out K0=K0 r:=by
 intro n;induction n with
 |zero=>intro i c out _ _ _ _ h;omega
 |succ n ih=>
  intro i c out ho hlb hlo hi hn c0 c1 hlt;rw[Q8.l7];by_cases hil:i<out.length
  ·have e0:decide ((i:Int)<(out.length:Int))=true:=decide_eq_true (by omega);have e1:(decide (0≤(i:Int))&&decide ((i:Int)<(out.length:Int)))=true:=by simp;omega
   have e2:(i:Int).toNat=i:=by omega
   have e3:aA ((i:Int)+1)=((i+1:Nat):Int):=by rw[gA (by omega) (by omega)];omega
   have hd:=ho.get (by decide) i;have p32:(2:Int)^32=(4294967296:Int):=by decide
   have hp:(0:Int)<(4294967296:Int)^i:=hV (by decide);have go:∀s y:Int,s=c+out.getD i 0+y→0≤y→y<(4294967296:Int)→nv (4294967296:Int) (b.drop i)=y+(4294967296:Int)*nv (4294967296:Int) (b.drop (i+1))→(out.set i (s%(4294967296:Int))).length=out.length∧qD (4294967296:Int) (out.set i (s%(4294967296:Int)))∧0≤s/(4294967296:Int)∧s/(4294967296:Int)≤1∧
     nv (4294967296:Int) (out.set i (s%(4294967296:Int)))+(4294967296:Int)^(i+1)*(s/(4294967296:Int))+(4294967296:Int)^(i+1)*nv (4294967296:Int) (b.drop (i+1))=nv (4294967296:Int) out+(4294967296:Int)^i*c+(4294967296:Int)^i*nv (4294967296:Int) (b.drop i):=by
    intro s y hs y0 y1 hdr;refine⟨by simp,ho.set i (by omega) (by omega),by omega,by omega,?_⟩;rw[sL (4294967296:Int) _ out i hil,hdr,cP];have:=eR s;generalize s%(4294967296:Int)=m at*;generalize s/(4294967296:Int)=q at*;have e:m=s- (4294967296:Int)*q:=by omega
    subst e;subst hs;grind
   rw[e1,e0,e2,e3];simp only[cond_true];by_cases hib:i<b.length
   ·have f0:decide ((i:Int)<(b.length:Int))=true:=decide_eq_true (by omega);have f1:(decide (0≤(i:Int))&&decide ((i:Int)<(b.length:Int)))=true:=by simp;omega
    have hbd:=hb.get (by decide) i;rw[f1,f0];simp only[cond_true];obtain⟨g1,g2,g3,g4,g5⟩:=go (c+out.getD i 0+b.getD i 0) (b.getD i 0) rfl hbd.1 hbd.2 (rF (4294967296:Int) b i hib);rw[sA (n:=out.getD i 0) (by omega) (by omega),sA (n:=c+out.getD i 0) (by omega) (by omega),sA (n:=b.getD i 0) (by omega) (by omega),sA (n:=c+out.getD i 0+b.getD i 0) (by omega) (by omega),tC,p32,rE];obtain⟨r,r1,r2,r3,r4⟩:=ih (i+1) _ _ g2 (by omega) (by omega) (by omega) (by omega) g3 g4 (by rw[g5,g1];exact hlt);refine⟨r,r1,by omega,by rw[r3,g5],?_⟩;rw[g1]at r4;exact r4
   ·have f0:decide ((i:Int)<(b.length:Int))=false:=decide_eq_false (by omega);rw[f0];simp only[cond_false];have hz:b.drop i=[]:=hF.mpr (by omega);have hz2:b.drop (i+1)=[]:=hF.mpr (by omega);obtain⟨g1,g2,g3,g4,g5⟩:=go (c+out.getD i 0) 0 (by omega) (by omega) (by decide) (by rw[hz,hz2];simp[nv]);rw[sA (n:=out.getD i 0) (by omega) (by omega),sA (n:=c+out.getD i 0) (by omega) (by omega),tC,p32,rE];obtain⟨r,r1,r2,r3,r4⟩:=ih (i+1) _ _ g2 (by omega) (by omega) (by omega) (by omega) g3 g4 (by rw[g5,g1];exact hlt);refine⟨r,r1,by omega,by rw[r3,g5],?_⟩;rw[g1]at r4;exact r4
  ·have e0:decide ((i:Int)<(out.length:Int))=false:=decide_eq_false (by omega);have hie:i=out.length:=by omega
   have hz:b.drop i=[]:=hF.mpr (by omega);rw[e0];refine⟨out,ho,rfl,?_,rfl⟩;rw[hz,hie]at hlt⊢;have:=(jC (show 0<(4294967296:Int) by decide) ho).1;have hc:c=0:=by
    rcases pC 0 c with h|h
    ·have:c=1:=by omega
     subst this;simp only[nv]at hlt;omega
    ·omega
   subst hc;simp[nv]
theorem j7 (a:List Int)(m:Nat)(h:a.length≤m):lF (List.replicate m (0:Int)) 0 (a.take (min a.length (List.replicate m (0:Int)).length))=a++List.replicate (m-a.length) 0:=by
 unfold lF;have e:min a.length (List.replicate m (0:Int)).length=a.length:=by simp;omega
 rw[e,y8];simp
theorem S2 (b:Int)(a:List Int)(k:Nat):nv b (a++List.replicate k 0)=nv b a:=by rw[nU,lG];simp
theorem pg {i j:Nat}(h:i≤j):(4294967296:Int)^i≤(4294967296:Int)^j:=by
 rw[fj,fj,nD,nD];have:=j2 (show 0<2 by decide) (show 32*i≤32*j by omega);omega
noncomputable def out (v:Int):List Int×Int:=if v<K then(enc (4294967296:Int) v,0)else([],3)
theorem D8 {N:Nat}(hN:1000000001<N){l:List Int}(h:qD (4294967296:Int) l)(hl:l.length≤100000000):((Q2.f N 0 l.length l).bind fun r=>(Q4.f N ((r.2.2.drop r.1).take r.2.1)).bind fun r2=>some (r2.1,r2.2))=some (out (nv (4294967296:Int) l)):=by
 obtain⟨c1,c2⟩:=xM hN l (by omega);rw[c1];simp only[hA,c2];have hc:=mi h;have:=Ct l;rw[oY N hc (by omega),wo,aK h];unfold out;split<;>rfl
theorem ur {n:Nat}(h:n≤1000000000):cB n 4=true:=by unfold cB;exact decide_eq_true (by omega)
theorem jb {m:Int}(h0:0≤m)(h1:m≤1000000000):(decide (m=m)&&decide (0≤m)&&decide (m≤9223372036854775807)&&cB m.toNat 4)=true:=by
 rw[ur (by omega)];simp;omega
theorem om {m:Int}(h0:0≤m)(h1:m≤1000000000):(decide True&&decide (0≤m)&&decide (m≤9223372036854775807)&&cB m.toNat 4)=true:=by
 rw[ur (by omega)];simp;omega
theorem ll {N:Nat}(hN:1000000001<N){a b:List Int}(ha:qD (4294967296:Int) a)(hb:qD (4294967296:Int) b)(h:b.length≤a.length)(hs:a.length≤90000000):
  (bif decide (aA ((a.length:Int)+1)=aA ((a.length:Int)+1))&&decide (0≤aA ((a.length:Int)+1))&&decide (aA ((a.length:Int)+1)≤9223372036854775807)&&cB ((aA ((a.length:Int)+1)).toNat) 4 then
  Q8.l7 N N 0 ((lF (List.replicate ((aA ((a.length:Int)+1)).toNat) (0:Int)) 0 (a.take (min a.length ((List.replicate ((aA ((a.length:Int)+1)).toNat) (0:Int)).length)))).length:Int) 0 b (lF (List.replicate ((aA ((a.length:Int)+1)).toNat) (0:Int)) 0 (a.take (min a.length ((List.replicate ((aA ((a.length:Int)+1)).toNat) (0:Int)).length))))
   (fun y12=>
    (Q2.f N 0 y12.length y12).bind fun r13=>
    (Q4.f N ((r13.2.2.drop r13.1).take r13.2.1)).bind fun r14=>
    some (r14.1,r14.2))
 else none)=some (out (nv (4294967296:Int) a+nv (4294967296:Int) b)):=by
 have w:aA ((a.length:Int)+1)=(a.length:Int)+1:=gA (by omega) (by omega);have wt:((a.length:Int)+1).toNat=a.length+1:=by omega
 rw[w,jb (by omega) (by omega),wt,j7 a _ (by omega)];simp only[cond_true];have e1:a.length+1-a.length=1:=by omega
 rw[e1];have hd:qD (4294967296:Int) (a++List.replicate 1 0):=ha.append (qD.replicate (by decide) 1);have hl:(a++List.replicate 1 (0:Int)).length=a.length+1:=by simp
 have hv:=S2 (4294967296:Int) a 1;have ba:=jC (show 0<(4294967296:Int) by decide) ha;have bb:=jC (show 0<(4294967296:Int) by decide) hb;have hm:=pg h;have hpow:(4294967296:Int)^(a.length+1)=(4294967296:Int)*(4294967296:Int)^a.length:=by rw[cP];grind
 have hpos:(0:Int)<(4294967296:Int)^a.length:=hV (by decide);obtain⟨r,r1,r2,r3,r4⟩:=C7 N b hb (fun y12=>(Q2.f N 0 y12.length y12).bind fun r13=>(Q4.f N ((r13.2.2.drop r13.1).take r13.2.1)).bind fun r14=>some (r14.1,r14.2)) N 0 0 (a++List.replicate 1 0) hd (by omega) (by omega) (by omega) (by omega) (by omega) (by omega) (by rw[hl,hpow,hv];simp;omega);have e0:((0:Nat):Int)=0:=rfl;rw[e0]at r4;rw[r4,D8 hN r1 (by omega),r3,hv];simp
theorem A6 {N:Nat}(hN:1000000001<N){a b:List Int}(ha:qD (4294967296:Int) a)(hb:qD (4294967296:Int) b)(hs:a.length≤90000000)(hs':b.length≤90000000):Q8.f N a b=some (out (nv (4294967296:Int) a+nv (4294967296:Int) b)):=by
 unfold Q8.f;by_cases h:a.length<b.length
 ·have c:decide ((a.length:Int)<(b.length:Int))=true:=decide_eq_true (by omega);rw[c];have:=ll hN hb ha (by omega) hs';rw[Int.add_comm (nv (4294967296:Int) a)];exact this
 ·have c:decide ((a.length:Int)<(b.length:Int))=false:=decide_eq_false (by omega);rw[c];exact ll hN ha hb (by omega) hs
theorem Mv {N:Nat}(hN:1000000001<N){u v:Int}(hu:0≤u)(hk:u<K)(hv:0≤v)(hk':v<K):Q8.f N (enc (4294967296:Int) u) (enc (4294967296:Int) v)=some (out (u+v)):=by
 obtain⟨h1,h2⟩:=lD B2 hu;obtain⟨h3,h4⟩:=lD B2 hv;have:=eE hu hk;have:=eE hv hk';rw[A6 hN h1.dig h3.dig (by omega) (by omega),h2,h4]
theorem gU {x:Int}(h0:0≤x)(h1:x<4294967296):(BitVec.ofInt 32 x).msb=decide (2147483648≤x):=by
 rw[ko];have:(BitVec.ofInt 32 x).toNat=x.toNat:=by
  rw[y7];have:x%((2^32:Nat):Int)=x:=by omega
  rw[this]
 rw[this];have e:2^(32-1)=2147483648:=by decide
 rw[e];by_cases h:2147483648≤x
 ·simp[h];omega
 ·simp[h];omega
theorem iT (x:BitVec 32):IntKind.wrap .u32 x.toNat=(x.toNat:Int):=by
 have hx:=x.isLt;simp only[IntKind.wrap];simp[IntKind.bits,IntKind.signed];omega
theorem pS (x:BitVec 32):BitVec.ofInt 32 (IntKind.wrap .u32 x.toNat)=x:=by
 have hx:=x.isLt;rw[iT];apply BitVec.eq_of_toNat_eq;rw[y7];omega
theorem wV (a b:Int):BitVec.ofInt 32 (mB .u32 a b)=BitVec.ofInt 32 a&&& BitVec.ofInt 32 b:=pS (BitVec.ofInt 32 a&&& BitVec.ofInt 32 b)
theorem uO (a b:Int):BitVec.ofInt 32 (rW .u32 a b)=BitVec.ofInt 32 a^^^BitVec.ofInt 32 b:=pS (BitVec.ofInt 32 a^^^BitVec.ofInt 32 b)
theorem Pg (x:BitVec 32):Int.fdiv (IntKind.wrap .u32 x.toNat) (2^31)=if x.msb then 1 else 0:=by
 rw[iT,tC,ko];have hx:=x.isLt;have e:(2:Int)^31=2147483648:=by decide
 have e2:2^(32-1)=2147483648:=by decide
 rw[e,e2];by_cases h:2147483648≤x.toNat
 ·simp[h];omega
 ·simp[h];omega
theorem mL (N:Nat){a b c:Int}(a0:0≤a)(a1:a<(4294967296:Int))(b0:0≤b)(b1:b<(4294967296:Int))(c0:0≤c)(c1:c≤1):Q1.f N a b c=some ((a-b-c)%(4294967296:Int),if a<b+c then 1 else 0):=by
 unfold Q1.f;have hd:gF (gF (a-b)-c)=(a-b-c)%(4294967296:Int):=by rw[rE,rE];omega
 rw[hd];have d0:0≤(a-b-c)%(4294967296:Int):=by omega
 have d1:(a-b-c)%(4294967296:Int)<(4294967296:Int):=by omega
 generalize hdd:(a-b-c)%(4294967296:Int)=d at*;congr 2;have hfull:BitVec.ofInt 32 4294967295=BitVec.allOnes 32:=by decide
 have e:∀x y:Int,dE .u32 x y=IntKind.wrap .u32 ((BitVec.ofInt 32 x|||BitVec.ofInt 32 y).toNat:Int):=fun _ _=>rfl;rw[e,Pg,wV,wV,uO,uO,uO,hfull];simp only[BitVec.msb_or,BitVec.msb_and,BitVec.msb_xor,gU a0 a1,gU b0 b1,gU d0 d1];have hones:(BitVec.allOnes 32).msb=true:=by decide
 rw[hones];by_cases ha:2147483648≤a<;>by_cases hb:2147483648≤b<;>by_cases hd:2147483648≤d<;>simp[ha,hb,hd]<;>omega
theorem Ax (N:Nat){R:Type}(b:List Int)(hb:qD (4294967296:Int) b)(K0:List Int→Option R):∀(n i:Nat) (c:Int) (out:List Int),qD (4294967296:Int) out→b.length≤out.length→out.length≤1000000000→i≤out.length→out.length-i<n→0≤c→c≤1→
  0≤nv (4294967296:Int) out- (4294967296:Int)^i*c- (4294967296:Int)^i*nv (4294967296:Int) (b.drop i)→
  ∃r,qD (4294967296:Int) r∧r.length=out.length∧nv (4294967296:Int) r=nv (4294967296:Int) out- (4294967296:Int)^i*c- (4294967296:Int)^i*nv (4294967296:Int) (b.drop i)∧Q9.l2 N n 0 out.length b c (out.length:Int) (i:Int) out K0=K0 r:=by
 intro n;induction n with
 |zero=>intro i c out _ _ _ _ h;omega
 |succ n ih=>
  intro i c out ho hlb hlo hi hn c0 c1 hlt;rw[Q9.l2];by_cases hil:i<out.length
  ·have e0:decide ((i:Int)<(out.length:Int))=true:=decide_eq_true (by omega);have e1:(decide (0≤(i:Int))&&decide ((i:Int)<(out.length:Int)))=true:=by simp;omega
   have e2:(i:Int).toNat=i:=by omega
   have e3:aA ((i:Int)+1)=((i+1:Nat):Int):=by rw[gA (by omega) (by omega)];omega
   have hd:=ho.get (by decide) i;have go:∀y:Int,0≤y→y<(4294967296:Int)→nv (4294967296:Int) (b.drop i)=y+(4294967296:Int)*nv (4294967296:Int) (b.drop (i+1))→(out.set i ((out.getD i 0-y-c)%(4294967296:Int))).length=out.length∧qD (4294967296:Int) (out.set i ((out.getD i 0-y-c)%(4294967296:Int)))∧
     nv (4294967296:Int) (out.set i ((out.getD i 0-y-c)%(4294967296:Int)))- (4294967296:Int)^(i+1)*(if out.getD i 0<y+c then 1 else 0)- (4294967296:Int)^(i+1)*nv (4294967296:Int) (b.drop (i+1))=nv (4294967296:Int) out- (4294967296:Int)^i*c- (4294967296:Int)^i*nv (4294967296:Int) (b.drop i):=by
    intro y y0 y1 hdr;refine⟨by simp,ho.set i (by omega) (by omega),?_⟩;rw[sL (4294967296:Int) _ out i hil,hdr,cP];have:(out.getD i 0-y-c)%(4294967296:Int)=out.getD i 0-y-c+(4294967296:Int)*(if out.getD i 0<y+c then 1 else 0):=by split<;>omega
    rw[this];generalize(if out.getD i 0<y+c then(1:Int)else 0)=q;grind
   rw[e1,e0,e2,e3];simp only[cond_true,Nat.zero_add];have hq:∀y:Int,(0:Int)≤(if out.getD i 0<y+c then 1 else 0)∧(if out.getD i 0<y+c then 1 else 0:Int)≤1:=fun y=>by split<;>omega
   by_cases hib:i<b.length
   ·have f0:decide ((i:Int)<(b.length:Int))=true:=decide_eq_true (by omega);have f1:(decide (0≤(i:Int))&&decide ((i:Int)<(b.length:Int)))=true:=by simp;omega
    have hbd:=hb.get (by decide) i;rw[f1,f0,mL N hd.1 hd.2 hbd.1 hbd.2 c0 c1];simp only[cond_true,hA];obtain⟨g1,g2,g5⟩:=go (b.getD i 0) hbd.1 hbd.2 (rF (4294967296:Int) b i hib);obtain⟨r,r1,r2,r3,r4⟩:=ih (i+1) _ _ g2 (by omega) (by omega) (by omega) (by omega) (hq _).1 (hq _).2 (by rw[g5];exact hlt);refine⟨r,r1,by omega,by rw[r3,g5],?_⟩;rw[g1]at r4;exact r4
   ·have f0:decide ((i:Int)<(b.length:Int))=false:=decide_eq_false (by omega);rw[f0];simp only[cond_false];have hz:b.drop i=[]:=hF.mpr (by omega);have hz2:b.drop (i+1)=[]:=hF.mpr (by omega);by_cases hc:c=0
    ·subst hc;refine⟨out,ho,rfl,?_,rfl⟩;rw[hz];simp[nv]
    ·have hc1:(c==0)=false:=by simpa using hc
     rw[hc1,mL N hd.1 hd.2 (by omega) (by decide) c0 c1];simp only[cond_false,hA];obtain⟨g1,g2,g5⟩:=go 0 (by omega) (by decide) (by rw[hz,hz2];simp[nv]);obtain⟨r,r1,r2,r3,r4⟩:=ih (i+1) _ _ g2 (by omega) (by omega) (by omega) (by omega) (hq 0).1 (hq 0).2 (by rw[g5];exact hlt);refine⟨r,r1,by omega,by rw[r3,g5],?_⟩;rw[g1]at r4;exact r4
  ·have e0:decide ((i:Int)<(out.length:Int))=false:=decide_eq_false (by omega);have hie:i=out.length:=by omega
   have hz:b.drop i=[]:=hF.mpr (by omega);rw[e0];refine⟨out,ho,rfl,?_,rfl⟩;rw[hz,hie]at hlt⊢;have:=(jC (show 0<(4294967296:Int) by decide) ho).2;have hc:c=0:=by
    rcases pC 0 c with h|h
    ·have:c=1:=by omega
     subst this;simp only[nv]at hlt;omega
    ·omega
   subst hc;simp[nv]
theorem qd (a:List Int):lF (List.replicate ((a.length:Int).toNat) (0:Int)) 0 (a.take (min a.length ((List.replicate ((a.length:Int).toNat) (0:Int)).length)))=a:=by
 have e:(a.length:Int).toNat=a.length:=by omega
 rw[e,j7 a _ (iX _)];simp
theorem kg {N:Nat}(hN:1000000001<N){u v:Int}(hu:0≤u)(hk:u<K)(hv:0≤v):Q10.f N (enc (4294967296:Int) u) (enc (4294967296:Int) v)=some (if u<v then([],10)else(enc (4294967296:Int) (u-v),0)):=by
 obtain⟨h1,h2⟩:=lD B2 hu;obtain⟨h3,h4⟩:=lD B2 hv;have hl:=eE hu hk;unfold Q10.f;rw[gh hN hu hk hv];simp only[hA];have hc:decide (Bw u v<0)=decide (u<v):=by
  unfold Bw;by_cases h1:u=v
  ·subst h1;simp
  ·by_cases h2:u<v<;>simp[h1,h2]
 rw[hc];by_cases h:u<v
 ·simp only[h,decide_true,if_true,cond_true]
 ·rw[if_neg h,om (by omega) (by omega),qd];simp only[h,decide_false,cond_true,cond_false];have hle:(enc (4294967296:Int) v).length≤(enc (4294967296:Int) u).length:=by
   rcases gb (enc (4294967296:Int) u).length (enc (4294967296:Int) v).length with hq|hq
   ·have:=wK h1 h3 hq;omega
   ·exact hq
  obtain⟨r,r1,r2,r3,r4⟩:=Ax N (enc (4294967296:Int) v) h3.dig (fun y=>some y) N 0 0 (enc (4294967296:Int) u) h1.dig hle (by omega) (by omega) (by omega) (by omega) (by omega) (by simp[h2,h4];omega);have e0:((0:Nat):Int)=0:=rfl;rw[e0]at r4;unfold Q9.f;rw[r4];simp only[hA];obtain⟨c1,c2⟩:=xM hN r (by omega);rw[c1];simp only[hA,c2];rw[aK r1,r3,h2,ek,h4];simp
theorem B1 (N:Nat){R:Type}(i:Nat)(x:Int)(x0:0≤x)(x1:x<(4294967296:Int))(p q:Int)(P:List Int)(b:List Int)(hb:qD (4294967296:Int) b)(hbl:b.length≤100000000)(hi:i≤100000000)(K0:Int→Int→List Int→Int→Int→List Int→List Int→Option R):∀(n j:Nat) (c:Int) (out:List Int),qD (4294967296:Int) out→i+b.length<out.length→out.length≤1000000000→j≤b.length→b.length-j<n→0≤c→c<(4294967296:Int)→
  ∃r c',qD (4294967296:Int) r∧0≤c'∧c'<(4294967296:Int)∧r.length=out.length∧nv (4294967296:Int) r+(4294967296:Int)^(i+b.length)*c'=nv (4294967296:Int) out+(4294967296:Int)^(i+j)*c+(4294967296:Int)^(i+j)*x*nv (4294967296:Int) (b.drop j)∧(∀k,i+b.length≤k→r.getD k 0=out.getD k 0)∧
   Q11.l7 N n (i:Int) x c P p q b (b.length:Int) (j:Int) b out K0=K0 (i:Int) c' P p q b r:=by
 intro n;induction n with
 |zero=>intro j c out _ _ _ _ h;omega
 |succ n ih=>
  intro j c out ho hlb hlo hj hn c0 c1;rw[Q11.l7];by_cases hjl:j<b.length
  ·have e0:decide ((j:Int)<(b.length:Int))=true:=decide_eq_true (by omega);have e1:(decide (0≤(j:Int))&&decide ((j:Int)<(b.length:Int)))=true:=by simp;omega
   have e2:(j:Int).toNat=j:=by omega
   have e3:aA ((j:Int)+1)=((j+1:Nat):Int):=by rw[gA (by omega) (by omega)];omega
   have e4:aA ((i:Int)+(j:Int))=((i+j:Nat):Int):=by rw[gA (by omega) (by omega)];omega
   have e5:(((i+j:Nat):Int)).toNat=i+j:=by omega
   have e6:(decide (0≤((i+j:Nat):Int))&&decide (((i+j:Nat):Int)<(out.length:Int)))=true:=by simp;omega
   have hd:=ho.get (by decide) (i+j);have hbd:=hb.get (by decide) j;rw[e1,e0,e2,e3,e4,e5,e6];simp only[cond_true];have m0:=hC x0 hbd.1;have m1:x*b.getD j 0≤((4294967296:Int)-1)*((4294967296:Int)-1):=by have h1:=iA (show b.getD j 0≤(4294967296:Int)-1 by omega) x0;have h2:=iB (show x≤(4294967296:Int)-1 by omega) (show(0:Int)≤(4294967296:Int)-1 by decide);omega
   have m2:((4294967296:Int)-1)*((4294967296:Int)-1)=18446744065119617025:=by decide
   have p32:(2:Int)^32=(4294967296:Int):=by decide
   rw[sA (n:=x) (by omega) (by omega),sA (n:=b.getD j 0) (by omega) (by omega),sA (n:=x*b.getD j 0) (by omega) (by omega),sA (n:=out.getD (i+j) 0) (by omega) (by omega),sA (n:=x*b.getD j 0+out.getD (i+j) 0) (by omega) (by omega),sA (n:=c+(x*b.getD j 0+out.getD (i+j) 0)) (by omega) (by omega),tC,p32,rE];generalize hs:c+(x*b.getD j 0+out.getD (i+j) 0)=s;have hsd:=eR s;obtain⟨r,c',r1,r2,r3,r4,r5,r6,r7⟩:=ih (j+1) (s/(4294967296:Int)) (out.set (i+j) (s%(4294967296:Int))) (ho.set _ (by omega) (by omega)) (by simpa using hlb) (by simpa using hlo) (by omega) (by omega) (by omega) (by omega);refine⟨r,c',r1,r2,r3,by simpa using r4,?_,fun k hk=>?_,r7⟩
   ·rw[r5,sL (4294967296:Int) _ out (i+j) (by omega),rF (4294967296:Int) b j hjl];have e:i+(j+1)=i+j+1:=by omega
    rw[e,cP];generalize s%(4294967296:Int)=m at*;generalize s/(4294967296:Int)=z at*;have em:m=s- (4294967296:Int)*z:=by omega
    subst em;subst hs;grind
   ·rw[r6 k hk];simp only[hI,bd];rw[if_neg (by omega)]
  ·have e0:decide ((j:Int)<(b.length:Int))=false:=decide_eq_false (by omega);have hje:j=b.length:=by omega
   rw[e0];have hz:b.drop j=[]:=hF.mpr (by omega);refine⟨out,c,ho,c0,c1,rfl,?_,fun _ _=>rfl,rfl⟩;rw[hz,hje];simp[nv]
theorem B3 {N:Nat}(hN:1000000001<N){R:Type}(a b:List Int)(ha:qD (4294967296:Int) a)(hb:qD (4294967296:Int) b)(hal:a.length≤10000000)(hbl:b.length≤10000000)(K0:List Int→Option R):∀(n i:Nat) (out:List Int),qD (4294967296:Int) out→out.length=a.length+b.length→i≤a.length→a.length-i<n→(∀k,i+b.length≤k→out.getD k 0=0)→
  ∃r,qD (4294967296:Int) r∧r.length=out.length∧nv (4294967296:Int) r=nv (4294967296:Int) out+(4294967296:Int)^i*nv (4294967296:Int) (a.drop i)*nv (4294967296:Int) b∧Q11.l3 N n a (a.length:Int) (i:Int) b out K0=K0 r:=by
 intro n;induction n with
 |zero=>intro i out _ _ _ h;omega
 |succ n ih=>
  intro i out ho hlo hi hn hz;rw[Q11.l3];by_cases hil:i<a.length
  ·have e0:decide ((i:Int)<(a.length:Int))=true:=decide_eq_true (by omega);have e1:(decide (0≤(i:Int))&&decide ((i:Int)<(a.length:Int)))=true:=by simp;omega
   have e2:(i:Int).toNat=i:=by omega
   have e3:aA ((i:Int)+1)=((i+1:Nat):Int):=by rw[gA (by omega) (by omega)];omega
   have hd:=ha.get (by decide) i;rw[e1,e0,e2];simp only[cond_true];obtain⟨r,c',r1,r2,r3,r4,r5,r6,r7⟩:=B1 N i (a.getD i 0) hd.1 hd.2 (a.length:Int) (i:Int) a b hb (by omega) (by omega) (fun y26 y27 y28 y29 y30 y31 y32=>
      bif (decide (0≤(aA (y26+(y31.length:Int)))))&&(decide ((aA (y26+(y31.length:Int)))<(y32.length:Int)))then
       Q11.l3 N n y28 y29 (aA (y30+1)) y31 (y32.set ((aA (y26+(y31.length:Int))).toNat) (gF y27)) K0
      else none) N 0 0 out ho (by omega) (by omega) (by omega) (by omega) (by omega) (by decide)
   have ez:((0:Nat):Int)=0:=rfl;rw[ez]at r7;rw[r7];have e4:aA ((i:Int)+(b.length:Int))=((i+b.length:Nat):Int):=by rw[gA (by omega) (by omega)];omega
   have e5:(((i+b.length:Nat):Int)).toNat=i+b.length:=by omega
   have e6:(decide (0≤((i+b.length:Nat):Int))&&decide (((i+b.length:Nat):Int)<(r.length:Int)))=true:=by simp;omega
   rw[e4,e5,e6,e3,jT r2 r3];simp only[cond_true];obtain⟨t,t1,t2,t3,t4⟩:=ih (i+1) (r.set (i+b.length) c') (r1.set _ r2 r3) (by simpa using r4.trans hlo) (by omega) (by omega) (fun k hk=>by simp only[hI,bd];rw[if_neg (by omega),←hI,r6 k (by omega)];exact hz k (by omega));refine⟨t,t1,by rw[t2];simpa using r4,?_,t4⟩;rw[t3,sL (4294967296:Int) _ r _ (by omega),r6 _ (iX _),hz _ (iX _),rF (4294967296:Int) a i hil,cP];have:nv (4294967296:Int) r=nv (4294967296:Int) out+(4294967296:Int)^i*a.getD i 0*nv (4294967296:Int) b- (4294967296:Int)^(i+b.length)*c':=by simp only[Nat.add_zero,ek,q7,c7]at r5;omega
   rw[this];grind
  ·have e0:decide ((i:Int)<(a.length:Int))=false:=decide_eq_false (by omega);rw[e0];have hze:a.drop i=[]:=hF.mpr (by omega);refine⟨out,ho,rfl,?_,rfl⟩;rw[hze];simp[nv]
theorem ag {N:Nat}(hN:1000000001<N){a b:List Int}(ha:qD (4294967296:Int) a)(hb:qD (4294967296:Int) b)(hal:a.length≤10000000)(hbl:b.length≤10000000):Q11.f N a b=some (enc (4294967296:Int) (nv (4294967296:Int) a*nv (4294967296:Int) b)):=by
 unfold Q11.f;have w:aA ((a.length:Int)+(b.length:Int))=(a.length:Int)+(b.length:Int):=gA (by omega) (by omega);have wt:((a.length:Int)+(b.length:Int)).toNat=a.length+b.length:=by omega
 rw[w,jb (by omega) (by omega),wt];simp only[cond_true];have hz:∀k,(List.replicate (a.length+b.length) (0:Int)).getD k 0=0:=fun k=>by rw[hI,gx];split<;>rfl
 obtain⟨r,r1,r2,r3,r4⟩:=B3 hN a b ha hb hal hbl (fun y34=>(Q2.f N 0 y34.length y34).bind fun r35=>some ((r35.2.2.drop r35.1).take r35.2.1)) N 0 (List.replicate (a.length+b.length) 0) (qD.replicate (by decide) _) (by simp) (by omega) (by omega) (fun k _=>hz k);have ez:((0:Nat):Int)=0:=rfl;rw[ez]at r4;rw[r4];have hl:r.length=a.length+b.length:=by simpa using r2
 obtain⟨c1,c2⟩:=xM hN r (by omega);rw[c1];simp only[hA,c2];rw[aK r1,r3,lG];simp
theorem Ns {N:Nat}(hN:1000000001<N){u v:Int}(hu:0≤u)(hk:u<K)(hv:0≤v)(hk':v<K):Q12.f N (enc (4294967296:Int) u) (enc (4294967296:Int) v)=some (out (u*v)):=by
 obtain⟨h1,h2⟩:=lD B2 hu;obtain⟨h3,h4⟩:=lD B2 hv;have l1:=eE hu hk;have l2:=eE hv hk';unfold Q12.f;rw[bH N h1 (by omega),bH N h3 (by omega),h2,h4];simp only[hA];have b1:=gD u;have b2:=gD v;have b3:=sM hu 4096 hk;have b4:=sM hv 4096 hk';rw[gA (n:=nE u+nE v) (by omega) (by omega)];by_cases hb:nE u+nE v>4097
 ·simp only[hb,decide_true,cond_true];have hu1:(2:Int)^((nE u).toNat-1)≤u:=by
   rcases pC u (2^((nE u).toNat-1))with h|h
   ·have:=(iG hu ((nE u).toNat-1)).mpr h;omega
   ·exact h
  have hv1:(2:Int)^((nE v).toNat-1)≤v:=by
   rcases pC v (2^((nE v).toNat-1))with h|h
   ·have:=(iG hv ((nE v).toNat-1)).mpr h;omega
   ·exact h
  have hp1:(0:Int)<2^((nE u).toNat-1):=hV (by decide);have hp2:(0:Int)<2^((nE v).toNat-1):=hV (by decide);have m1:=iA hv1 (hB hp1);have m2:=iB hu1 hv;have m3:K≤2^((nE u).toNat-1)*2^((nE v).toNat-1):=by rw[←c5];unfold K;rw[nD,nD];have:=j2 (show 0<2 by decide) (show 4096≤(nE u).toNat-1+((nE v).toNat-1) by omega);omega
  unfold out;rw[if_neg (by omega)]
 ·simp only[hb,decide_false,cond_false];rw[ag hN h1.dig h3.dig (by omega) (by omega),h2,h4];simp only[hA];have hm:=hC hu hv;obtain⟨h5,h6⟩:=lD B2 hm;have hlen:(enc (4294967296:Int) (u*v)).length≤256:=by
   refine wv hm ?_;have m1:=iA (show v≤K by omega) hu;have m2:=Int.mul_lt_mul_of_pos_right hk (show 0<K by unfold K;exact hV (by decide));have e:(4294967296:Int)^256=K*K:=by rw[T5,←c5]
   omega
  rw[oY N h5 (by omega),h6];unfold out;split<;>rfl
theorem tI {x:Int}(h0:0≤x)(h1:x<18446744073709551616):(BitVec.ofInt 64 x).toNat=x.toNat:=by
 rw[y7];have:x%((2^64:Nat):Int)=x:=by omega
 rw[this]
theorem wO {r d:Int}(r0:0≤r)(r1:r<4294967296)(d0:0≤d)(d1:d<4294967296):dE .u64 (r*4294967296) d=r*4294967296+d:=by
 have e:dE .u64 (r*4294967296) d=IntKind.wrap .u64 ((BitVec.ofInt 64 (r*4294967296)|||BitVec.ofInt 64 d).toNat:Int):=rfl;rw[e,BitVec.toNat_or,tI (by omega) (by omega),tI (by omega) (by omega)];have h1:(r*4294967296).toNat=r.toNat<<<32:=by rw[gg];omega
 rw[h1,←ds (show d.toNat<2^32 by omega),gg];have:IntKind.wrap .u64 ((r.toNat*2^32+d.toNat:Nat):Int)=((r.toNat*2^32+d.toNat:Nat):Int):=by show nA _=_;exact sA (by omega) (by omega)
 rw[this];omega
theorem ve (N:Nat){R:Type}(by_:Int)(b0:0<by_)(b1:by_<4294967296)(m:Nat)(hm:m≤1000000000)(K0:Int→List Int→Option R):∀(n j:Nat) (r:Int) (l:List Int),qD (4294967296:Int) l→m≤l.length→j≤m→j<n→0≤r→r<by_→
  ∃r' l',qD (4294967296:Int) l'∧l'.length=l.length∧0≤r'∧r'<by_∧
   by_*nv (4294967296:Int) (l'.take m)+r'=by_*(4294967296:Int)^j*nv (4294967296:Int) ((l.take m).drop j)+r*(4294967296:Int)^j+nv (4294967296:Int) ((l.take m).take j)∧
   Q14.l3 N n 0 m by_ r ((j:Int)-1) l K0=K0 r' l':=by
 intro n;induction n with
 |zero=>intro j r l _ _ _ h;omega
 |succ n ih=>
  intro j r l hd hl hj hn r0 r1;rw[Q14.l3];cases j with
  |zero=>refine⟨r,l,hd,rfl,r0,r1,by simp[nv],rfl⟩
  |succ j=>
   have e0:((j+1:Nat):Int)-1=(j:Int):=by omega
   have e3:aA ((j:Int)-1)=(j:Int)-1:=gA (by omega) (by omega);have c1:(decide (0≤(j:Int))&&decide ((j:Int)<(m:Int)))=true:=by simp;omega
   have c0:decide ((j:Int)≥0)=true:=decide_eq_true (by omega);have e2:0+(j:Int).toNat=j:=by omega
   have hx:=hd.get (by decide) j;have p32:(2:Int)^32=4294967296:=by decide
   rw[e0,c1,c0,e2,e3,p32];simp only[cond_true];have wb:nA by_=by_:=sA (by omega) (by omega);have cb:(by_==0)=false:=by simp;omega
   rw[wb,cb];simp only[p8,cond_true];rw[sA (n:=r*4294967296) (by omega) (by omega),sA (n:=l.getD j 0) (by omega) (by omega),wO r0 (by omega) hx.1 hx.2];generalize hxx:r*4294967296+l.getD j 0=x;have x0:0≤x:=by omega
   have h1:=hE x by_;have h2:=zE x (b:=by_) (by omega);have h3:=aE x b0;have hq0:0≤x/by_:=eX x0 (by omega);have hq1:x/by_<4294967296:=by rw[cc b0];have:=iA (show r+1≤by_ by omega) (show(0:Int)≤4294967296 by decide);omega
   rw[yP x0,xI x0,sA (n:=x/by_) hq0 (by omega),jT hq0 hq1];obtain⟨r',l',g1,g2,g3,g4,g5,g6⟩:=ih j (x%by_) (l.set j (x/by_)) (hd.set _ hq0 hq1) (by simpa using hl) (by omega) (by omega) h2 h3;refine⟨r',l',g1,by simpa using g2,g3,g4,?_,g6⟩;have hlen:(l.take m).length=m:=by rw[hT];omega
   have hset:(l.set j (x/by_)).take m=(l.take m).set j (x/by_):=List.take_set ..;have hdrop:((l.take m).set j (x/by_)).drop (j+1)=(l.take m).drop (j+1):=by simp[List.drop_set]
   have htake:((l.take m).set j (x/by_)).take j=(l.take m).take j:=by rw[List.take_set,List.set_eq_of_length_le (by rw[hT];omega)]
   have hget:((l.take m).set j (x/by_)).getD j 0=x/by_:=by rw[hI,List.getElem?_set_self (by omega)];rfl
   have hn1:=rF (4294967296:Int) ((l.take m).set j (x/by_)) j (by simp;omega);have hn2:=xE (4294967296:Int) (l.take m) j (by omega);have hg2:(l.take m).getD j 0=l.getD j 0:=cr (by omega);rw[hdrop,hget]at hn1;rw[hg2]at hn2;rw[g5,hset,hn1,htake,hn2,cP];generalize x/by_=q at*;generalize x%by_=z at*;have ez:z=x-by_*q:=by omega
   subst ez;subst hxx;grind
theorem qc {N:Nat}(hN:1000000001<N){l:List Int}(hd:qD (4294967296:Int) l){m:Nat}(hm:m≤l.length)(hm2:m≤1000000000){by_:Int}(b0:0<by_)(b1:by_<4294967296):
  ∃l',qD (4294967296:Int) l'∧l'.length=l.length∧nv (4294967296:Int) (l'.take m)=nv (4294967296:Int) (l.take m)/by_∧Q14.f N 0 m by_ l=some (nv (4294967296:Int) (l.take m)%by_,l'):=by
 obtain⟨r',l',g1,g2,g3,g4,g5,g6⟩:=ve N by_ b0 b1 m hm2 (fun y13 y14=>some (gF y13,y14)) N m 0 l hd hm (iX _) (by omega) (en _) b0;have hlen:(l.take m).length=m:=by rw[hT];omega
 have e1:(l.take m).drop m=[]:=hF.mpr (by omega);have e2:(l.take m).take m=l.take m:=c9 (by omega);rw[e1,e2]at g5;simp only[nv,q7,dk,x8]at g5;have hu:=(p7 (a:=nv (4294967296:Int) (l.take m)) (r:=r') (q:=nv (4294967296:Int) (l'.take m)) b0).mpr ⟨by omega,g3,g4⟩;refine⟨l',g1,g2,hu.1.symm,?_⟩;unfold Q14.f;rw[gA (n:=(m:Int)-1) (by omega) (by omega),g6,jT g3 (by omega),hu.2]
theorem Bz:0<K:=by unfold K;exact hV (by decide)
theorem Qa:18446744073709551616<K:=by unfold K;decide+kernel
def ov (x:Int):Int:=if x<K then x else 0
def oe (x:Int):Int:=if x<K then 0 else 3
structure Rg (x:Int):Prop where
 lo:0≤x
 hi:x<K
theorem Rg.ov {x:Int}(h:0≤x):Rg (ov x):=by
 unfold NatL.ov;have:=Bz;split
 ·exact⟨h,by assumption⟩
 ·exact⟨en _,by omega⟩
theorem Es (x:Int):out x=(enc (4294967296:Int) (ov x),oe x):=by
 unfold out ov oe;by_cases h:x<K
 ·rw[if_pos h,if_pos h,if_pos h]
 ·rw[if_neg h,if_neg h,if_neg h,lO B2]
theorem T7 {N:Nat}(hN:1000000001<N){u v:Int}(hu:Rg u)(hv:Rg v):Q8.f N (enc (4294967296:Int) u) (enc (4294967296:Int) v)=some (enc (4294967296:Int) (ov (u+v)),oe (u+v)):=by
 rw[Mv hN hu.lo hu.hi hv.lo hv.hi,Es]
theorem Uf {N:Nat}(hN:1000000001<N){u v:Int}(hu:Rg u)(hv:Rg v):Q12.f N (enc (4294967296:Int) u) (enc (4294967296:Int) v)=some (enc (4294967296:Int) (ov (u*v)),oe (u*v)):=by
 rw[Ns hN hu.lo hu.hi hv.lo hv.hi,Es]
theorem Ua {N:Nat}(hN:1000000001<N){u v:Int}(hu:Rg u)(hv:Rg v):Q7.f N (enc (4294967296:Int) u) (enc (4294967296:Int) v)=some (Bw u v):=gh hN hu.lo hu.hi hv.lo
theorem Bq (N:Nat){v:Int}(h0:0≤v):Q6.f N (enc (4294967296:Int) v)=some (if v<18446744073709551616 then(v,true)else(0,false)):=by
 obtain⟨h1,h2⟩:=lD B2 h0;generalize enc (4294967296:Int) v=l at*;unfold Q6.f
 match l,h1,h2 with
 | [],h1,h2=>simp only[nv]at h2;subst h2;rfl
 | [x],h1,h2=>
  have hx:=h1.dig.head;simp only[nv]at h2;have:x=v:=by omega
  subst this;simp[sA (n:=x) (by omega) (by omega)];omega
 | [x,y],h1,h2=>
  have hx:=h1.dig.head;have hy:=h1.dig.tail.head;simp only[nv]at h2;have p32:(2:Int)^32=4294967296:=by decide
  simp;rw[sA (n:=x) (by omega) (by omega),sA (n:=y) (by omega) (by omega),sA (n:=y*4294967296) (by omega) (by omega),wO hy.1 hy.2 hx.1 hx.2];rw[if_pos (by omega)];congr 1;omega
 |x::y::z::l,h1,h2=>
  have hlow:=h1.lower (by decide) (by simp);have hp:(4294967296:Int)^2≤(4294967296:Int)^((x::y::z::l).length-1):=pg (by simp);have e:(4294967296:Int)^2=18446744073709551616:=by decide
  rw[if_neg (by omega)];have c0:(((x::y::z::l).length:Int)==0)=false:=by simp;omega
  have c1:(((x::y::z::l).length:Int)==1)=false:=by simp;omega
  have c2:(((x::y::z::l).length:Int)==2)=false:=by simp;omega
  rw[c0,c1,c2];rfl
theorem nO {l:List Int}{i:Nat}(h:l.length≤i):l.getD i 0=0:=by
 rw[hI,List.getElem?_eq_none h];rfl
theorem pZ (b:Int)(l:List Int)(i:Nat):nv b (l.drop i)=l.getD i 0+b*nv b (l.drop (i+1)):=by
 rcases gb i l.length with h|h
 ·exact rF b l i h
 ·rw[hF.mpr h,hF.mpr (by omega),nO h];simp[nv]
theorem yO (k:Nat):(0:Int)<2^k:=hV (by decide)
theorem Nz {i j:Nat}(h:i≤j):(2:Int)^i≤2^j:=by
 have:=j2 (show 0<2 by decide) h;rw[nD,nD];omega
theorem ye {k:Nat}(h:k≤31):(2:Int)^k≤2147483648:=by
 have:=Nz h;have e:(2:Int)^31=2147483648:=by decide
 omega
theorem Et {k:Nat}(h:k≤31):(4294967296:Int)=2^k*2^(32-k):=by
 rw[←c5];have:k+(32-k)=32:=by omega
 rw[this];rfl
theorem S1 {c d:Int}{k:Nat}(hk:k≤31)(c0:0≤c)(c1:c<2^k)(d0:0≤d)(d1:d<4294967296):dE .u64 c (d*2^k)=c+d*2^k:=by
 have hp:=ye hk;have hpp:=yO k;have m1:=hC d0 (hB hpp);have m2:=iB (show d≤4294967295 by omega) (hB hpp);have e:dE .u64 c (d*2^k)=IntKind.wrap .u64 ((BitVec.ofInt 64 c|||BitVec.ofInt 64 (d*2^k)).toNat:Int):=rfl;rw[e,BitVec.toNat_or,tI c0 (by omega),tI m1 (by omega)];have h1:(d*2^k).toNat=d.toNat<<<k:=by
  rw[gg,Int.toNat_mul d0 (hB hpp)];have hpk:((2:Int)^k).toNat=2^k:=by rw[nD];exact Int.toNat_natCast _
  rw[hpk]
 have hc:c.toNat<2^k:=by rw[nD]at c1;omega
 rw[h1,Nat.or_comm,←ds hc,←h1];have:IntKind.wrap .u64 (((d*2^k).toNat+c.toNat:Nat):Int)=(((d*2^k).toNat+c.toNat:Nat):Int):=by show nA _=_;exact sA (by omega) (by omega)
 rw[this];omega
theorem Pt (N:Nat){R:Type}{d:List Int}(hd:qD (4294967296:Int) d)(k:Nat)(hk:k≤31)(K0:List Int→Option R):∀(n i:Nat) (c:Int) (o:List Int),qD (4294967296:Int) o→o.length≤1000000000→i≤o.length→o.length-i<n→0≤c→c<2^k→(∀j,i≤j→o.getD j 0=0)→
  ∃r c',qD (4294967296:Int) r∧r.length=o.length∧0≤c'∧nv (4294967296:Int) r+(4294967296:Int)^o.length*(c'+2^k*nv (4294967296:Int) (d.drop o.length))=nv (4294967296:Int) o+(4294967296:Int)^i*(c+2^k*nv (4294967296:Int) (d.drop i))∧
   Q15.l4 N n d (k:Int) c (o.length:Int) (i:Int) o K0=K0 r:=by
 intro n;induction n with
 |zero=>intro i c o _ _ _ h;omega
 |succ n ih=>
  intro i c o ho hol hi hn c0 c1 hz;rw[Q15.l4];by_cases hil:i<o.length
  ·have e0:decide ((i:Int)<(o.length:Int))=true:=decide_eq_true (by omega);have e1:(decide (0≤(i:Int))&&decide ((i:Int)<(o.length:Int)))=true:=by simp;omega
   have e2:(i:Int).toNat=i:=by omega
   have e3:aA ((i:Int)+1)=((i+1:Nat):Int):=by rw[gA (by omega) (by omega)];omega
   have hp:=ye hk;have hpp:=yO k;have p32:(2:Int)^32=4294967296:=by decide
   have go:∀x:Int,x=c+d.getD i 0*2^k→∃r c',qD (4294967296:Int) r∧r.length=o.length∧0≤c'∧nv (4294967296:Int) r+(4294967296:Int)^o.length*(c'+2^k*nv (4294967296:Int) (d.drop o.length))=nv (4294967296:Int) o+(4294967296:Int)^i*(c+2^k*nv (4294967296:Int) (d.drop i))∧
     Q15.l4 N n d (k:Int) (x/4294967296) (o.length:Int) ((i+1:Nat):Int) (o.set i (x%4294967296)) K0=K0 r:=by
    intro x hx;have hdg:=hd.get (by decide) i;have m1:=hC hdg.1 (hB hpp);have m2:=iB (show d.getD i 0≤4294967295 by omega) (hB hpp);obtain⟨r,c',r1,r2,r3,r4,r5⟩:=ih (i+1) (x/4294967296) (o.set i (x%4294967296)) (ho.set _ (by omega) (by omega)) (by simpa using hol) (by simp;omega) (by simp;omega) (by omega) (by omega) (fun j hj=>by have:=hz j (by omega);simp only[hI,bd]at this⊢;rw[if_neg (by omega)];exact this);have hl:(o.set i (x%4294967296)).length=o.length:=by simp
    rw[hl]at r2 r4 r5;refine⟨r,c',r1,r2,r3,?_,r5⟩;rw[r4,sL _ _ o i hil,pZ _ d i,hz i (iX _),cP];have hsd:=eR x;generalize x%4294967296=m at*;generalize x/4294967296=z at*;have em:m=x-4294967296*z:=by omega
    subst em;subst hx;grind
   rw[e1,e0,e2,e3];simp only[cond_true];by_cases hid:i<d.length
   ·have f0:decide ((i:Int)<(d.length:Int))=true:=decide_eq_true (by omega);have f1:(decide (0≤(i:Int))&&decide ((i:Int)<(d.length:Int)))=true:=by simp;omega
    have f2:decide (0≤(k:Int))=true:=decide_eq_true (by omega);have hdg:=hd.get (by decide) i;have m1:=hC hdg.1 (hB hpp);have m2:=iB (show d.getD i 0≤4294967295 by omega) (hB hpp);have hm:min (k:Int).toNat 64=k:=by omega
    rw[f1,f0,f2,hm,sA (n:=d.getD i 0) (by omega) (by omega),sA (n:=d.getD i 0*2^k) m1 (by omega),S1 hk c0 c1 hdg.1 hdg.2,tC,p32,rE];exact go _ rfl
   ·have f0:decide ((i:Int)<(d.length:Int))=false:=decide_eq_false (by omega);have zd:d.getD i 0=0:=nO (by omega);have:=go c (by rw[zd];simp);rw[f0];simp only[cond_false];rw[tC,p32,rE];exact this
  ·have e0:decide ((i:Int)<(o.length:Int))=false:=decide_eq_false (by omega);have:i=o.length:=by omega
   subst this;rw[e0];exact⟨o,c,ho,rfl,c0,rfl,rfl⟩
theorem iZ {m:Nat}(h1:m≤1000000000):(decide ((m:Int)=(m:Int))&&decide (0≤(m:Int))&&decide ((m:Int)≤9223372036854775807)&&cB (m:Int).toNat 4)=true:=jb (by omega) (by omega)
theorem oo {m:Nat}(h1:m≤1000000000):(decide True&&decide (0≤(m:Int))&&decide ((m:Int)≤9223372036854775807)&&cB (m:Int).toNat 4)=true:=om (by omega) (by omega)
theorem jv (n j:Nat):(List.replicate n (0:Int)).getD j 0=0:=by
 rw[hI,gx];split<;>rfl
theorem qj {N:Nat}(hN:1000000001<N){d:List Int}(hd:qD (4294967296:Int) d){k:Nat}(hk:k≤31){m:Nat}(hm:m≤1000000000)(hdm:d.length≤m)(hfit:2^k*nv (4294967296:Int) d<(4294967296:Int)^m):
  ∃r,qD (4294967296:Int) r∧r.length=m∧nv (4294967296:Int) r=2^k*nv (4294967296:Int) d∧Q15.f N d (k:Int) (m:Int)=some r:=by
 unfold Q15.f;have et:((m:Nat):Int).toNat=m:=by omega
 rw[iZ hm,et];simp only[cond_true];obtain⟨r,c',r1,r2,r3,r4,r5⟩:=Pt N hd k hk (fun y11=>some y11) N 0 0 (List.replicate m 0) (qD.replicate (by decide) _) (by simpa using hm) (by omega) (by simp;omega) (by omega) (yO k) (fun j _=>jv m j);have hl:(List.replicate m (0:Int)).length=m:=by simp
 have ez:((0:Nat):Int)=0:=rfl;rw[hl]at r2 r4 r5;rw[ez]at r5;rw[hl,r5];rw[hF.mpr hdm,lG]at r4;simp only[nv,q7,c7,x8,Int.pow_zero,fp,ek]at r4;have hb:=(jC (show(0:Int)<4294967296 by decide) r1).1;have hp:(0:Int)<(4294967296:Int)^m:=hV (by decide);have hc:c'=0:=by
  rcases pC 0 c' with h|h
  ·have:=iA (show 1≤c' by omega) (hB hp);omega
  ·omega
 subst hc;exact⟨r,r1,r2,by simpa using r4,rfl⟩
theorem Ai (N:Nat){R:Type}{d:List Int}(hd:qD (4294967296:Int) d)(hdl:d.length≤1000000000)(k:Nat)(hk:k≤31)(K0:List Int→Option R):∀(n i:Nat) (o:List Int),qD (4294967296:Int) o→o.length=d.length→i≤d.length→d.length-i<n→(∀j,i≤j→o.getD j 0=0)→
  ∃r,qD (4294967296:Int) r∧r.length=d.length∧nv (4294967296:Int) r=nv (4294967296:Int) o+(4294967296:Int)^i*(nv (4294967296:Int) (d.drop i)/2^k)∧
   Q16.l3 N n d (k:Int) (d.length:Int) (i:Int) o K0=K0 r:=by
 intro n;induction n with
 |zero=>intro i o _ _ _ h;omega
 |succ n ih=>
  intro i o ho hol hi hn hz;rw[Q16.l3];by_cases hil:i<d.length
  ·have e0:decide ((i:Int)<(d.length:Int))=true:=decide_eq_true (by omega);have e1:(decide (0≤(i:Int))&&decide ((i:Int)<(d.length:Int)))=true:=by simp;omega
   have e1o:(decide (0≤(i:Int))&&decide ((i:Int)<(o.length:Int)))=true:=by simp;omega
   have e2:(i:Int).toNat=i:=by omega
   have e3:aA ((i:Int)+1)=((i+1:Nat):Int):=by rw[gA (by omega) (by omega)];omega
   have e4:(((i+1:Nat):Int)).toNat=i+1:=by omega
   have f2:decide (0≤(k:Int))=true:=decide_eq_true (by omega);have hm:min (k:Int).toNat 64=k:=by omega
   have hpp:=yO k;have hp31:=ye hk;have hsp:=Et hk;have hpp2:=yO (32-k);have hx:=hd.get (by decide) i;have hy:=hd.get (by decide) (i+1);have p32:(2:Int)^32=4294967296:=by decide
   have hnd:=pZ (4294967296:Int) d i;have key:∀x:Int,x=d.getD i 0+4294967296*d.getD (i+1) 0→nv (4294967296:Int) (d.drop i)/2^k=(x/2^k)%4294967296+4294967296*(nv (4294967296:Int) (d.drop (i+1))/2^k):=by
    intro x hxx;have hnd2:=pZ (4294967296:Int) d (i+1);generalize hY:nv (4294967296:Int) (d.drop (i+1))=Y at*;generalize nv (4294967296:Int) (d.drop (i+1+1))=Z at*;have d1:=hE Y (2^k);have d2:=zE Y (b:=2^k) (by omega);have d3:=aE Y hpp;have d4:=hE (d.getD (i+1) 0) (2^k);have d5:=zE (d.getD (i+1) 0) (b:=2^k) (by omega);have d6:=aE (d.getD (i+1) 0) hpp;have hrest:Y%2^k=d.getD (i+1) 0%2^k:=by
     have:Y=d.getD (i+1) 0+2^k*(2^(32-k)*Z):=by rw[hnd2,←cy,←hsp]
     rw[this,fr]
    generalize Y/2^k=q at*;generalize hs:Y%2^k=s at*;generalize d.getD (i+1) 0/2^k=q' at*;rw[←hrest]at d4;have h1:nv (4294967296:Int) (d.drop i)=d.getD i 0+4294967296*s+2^k*(4294967296*q):=by rw[hnd,←d1];grind
    have h2:x=d.getD i 0+4294967296*s+2^k*(4294967296*q'):=by rw[hxx,←d4];grind
    rw[h1,h2,db _ _ (by omega),db _ _ (by omega),fr];have hlt:(d.getD i 0+4294967296*s)/2^k<4294967296:=by rw[cc hpp];have:=iA (show s+1≤2^k by omega) (show(0:Int)≤4294967296 by decide);omega
    have hge:0≤(d.getD i 0+4294967296*s)/2^k:=eX (by omega) (by omega);rw[fs hge hlt]
   have go:∀x:Int,x=d.getD i 0+4294967296*d.getD (i+1) 0→∃r,qD (4294967296:Int) r∧r.length=d.length∧nv (4294967296:Int) r=nv (4294967296:Int) o+(4294967296:Int)^i*(nv (4294967296:Int) (d.drop i)/2^k)∧
     Q16.l3 N n d (k:Int) (d.length:Int) ((i+1:Nat):Int) (o.set i ((x/2^k)%4294967296)) K0=K0 r:=by
    intro x hxx;obtain⟨r,r1,r2,r3,r4⟩:=ih (i+1) (o.set i ((x/2^k)%4294967296)) (ho.set _ (by omega) (by omega)) (by simpa using hol) (by omega) (by omega) (fun j hj=>by have:=hz j (by omega);simp only[hI,bd]at this⊢;rw[if_neg (by omega)];exact this);refine⟨r,r1,r2,?_,r4⟩;rw[r3,sL _ _ o i (by omega),hz i (iX _),key x hxx,cP];grind
   rw[e1,e0,e3,e4,f2,e1o,e2,hm];simp only[cond_true];by_cases hid:i+1<d.length
   ·have f0:decide (((i+1:Nat):Int)<(d.length:Int))=true:=decide_eq_true (by omega);have f1:(decide (0≤((i+1:Nat):Int))&&decide (((i+1:Nat):Int)<(d.length:Int)))=true:=by simp;omega
    rw[f1,f0,sA (n:=d.getD i 0) (by omega) (by omega),sA (n:=d.getD (i+1) 0) (by omega) (by omega),p32,sA (n:=d.getD (i+1) 0*4294967296) (by omega) (by omega)];have hor:dE .u64 (d.getD i 0) (d.getD (i+1) 0*4294967296)=d.getD i 0+4294967296*d.getD (i+1) 0:=by
     have e:∀a b:Int,dE .u64 a b=dE .u64 b a:=fun a b=>by unfold dE;rw[BitVec.or_comm]
     rw[e,wO hy.1 hy.2 hx.1 hx.2];omega
    rw[hor,tC,rE];exact go _ rfl
   ·have f0:decide (((i+1:Nat):Int)<(d.length:Int))=false:=decide_eq_false (by omega);have zd:d.getD (i+1) 0=0:=nO (by omega);have:=go (d.getD i 0) (by rw[zd];simp);rw[f0,sA (n:=d.getD i 0) (by omega) (by omega)];simp only[cond_false];rw[tC,rE];exact this
  ·have e0:decide ((i:Int)<(d.length:Int))=false:=decide_eq_false (by omega);rw[e0,hF.mpr (by omega)];exact⟨o,ho,hol,by simp[nv],rfl⟩
theorem rq {N:Nat}(hN:1000000001<N){d:List Int}(hd:qD (4294967296:Int) d)(hdl:d.length≤1000000000){k:Nat}(hk:k≤31):Q16.f N d (k:Int)=some (enc (4294967296:Int) (nv (4294967296:Int) d/2^k)):=by
 unfold Q16.f;have et:((d.length:Nat):Int).toNat=d.length:=by omega
 rw[iZ hdl,et];simp only[cond_true];obtain⟨r,r1,r2,r3,r4⟩:=Ai N hd hdl k hk (fun y9=>(Q2.f N 0 y9.length y9).bind fun r10=>some ((r10.2.2.drop r10.1).take r10.2.1)) N 0 (List.replicate d.length 0) (qD.replicate (by decide) _) (by simp) (by omega) (by omega) (fun j _=>jv _ j);have ez:((0:Nat):Int)=0:=rfl;rw[ez]at r4;rw[r4];obtain⟨c1,c2⟩:=xM hN r (by omega);rw[c1];simp only[hA,c2];rw[aK r1,r3,lG];simp
theorem qL {v:Int}(h:0≤v):nE v=0↔v=0:=by
 have h0:=iG h 0;have e0:(2:Int)^0=1:=rfl;rw[e0]at h0;have:=gD v;constructor
 ·intro hq;have:=h0.mp (by omega);omega
 ·intro hq;have:=h0.mpr (by omega);omega
theorem lP:(2:Int)^32=4294967296:=by decide
theorem cY {x y:Int}(x0:0≤x)(x1:x<(4294967296:Int))(y0:0≤y)(y1:y<(4294967296:Int)):0≤x*y∧x*y≤18446744065119617025:=by
 have h:=ei (show x≤4294967295 by omega) (show y≤4294967295 by omega) y0 (by decide);exact⟨hC x0 y0,by omega⟩
theorem mo {l:List Int}{i k:Nat}(h:i<k)(x:Int):(l.set i x).drop k=l.drop k:=List.drop_set_of_lt h
theorem A8 (N:Nat){R:Type}(off:Nat)(v:List Int)(hv:qD (4294967296:Int) v)(hvl:v.length≤100000000)(d:Int)(d0:0≤d)(d1:d<(4294967296:Int))(K0:Int→List Int→Option R):∀(n i:Nat) (c w:Int) (u:List Int),qD (4294967296:Int) u→off+(v.length+1)≤u.length→u.length≤1000000000→i≤v.length+1→v.length+1-i<n→0≤c→c<(4294967296:Int)→0≤w→w≤1→(i=v.length+1→c=0)→
  ∃u' w',qD (4294967296:Int) u'∧u'.length=u.length∧0≤w'∧w'≤1∧nv (4294967296:Int) u'=nv (4294967296:Int) u- (4294967296:Int)^(off+i)*(c+w)- (4294967296:Int)^(off+i)*(d*nv (4294967296:Int) (v.drop i))+(4294967296:Int)^(off+(v.length+1))*w'∧u'.drop (off+(v.length+1))=u.drop (off+(v.length+1))∧
   Q17.l3 N n off (v.length+1) v d c w ((v.length+1:Nat):Int) (i:Int) u K0=K0 w' u':=by
 intro n;induction n with
 |zero=>intro i c w u _ _ _ _ h;omega
 |succ n ih=>
  intro i c w u hu hul hul2 hi hn c0 c1 w0 w1 hc;rw[Q17.l3];by_cases hil:i<v.length+1
  ·have e0:decide ((i:Int)<((v.length+1:Nat):Int))=true:=decide_eq_true (by omega);have e1:(decide (0≤(i:Int))&&decide ((i:Int)<((v.length+1:Nat):Int)))=true:=by simp;omega
   have e2:(i:Int).toNat=i:=by omega
   have e3:aA ((i:Int)+1)=((i+1:Nat):Int):=by rw[gA (by omega) (by omega)];omega
   have ha:=hu.get (by decide) (off+i);generalize hae:u.getD (off+i) 0=a at ha;have go:∀t dv:Int,0≤t→t≤18446744073709551615→t=c+d*dv→nv (4294967296:Int) (v.drop i)=dv+(4294967296:Int)*nv (4294967296:Int) (v.drop (i+1))→(i+1=v.length+1→t<(4294967296:Int))→
     ∀u1,u1=u.set (off+i) ((a-t%(4294967296:Int)-w)%(4294967296:Int))→
     ∃u' w',qD (4294967296:Int) u'∧u'.length=u.length∧0≤w'∧w'≤1∧nv (4294967296:Int) u'=nv (4294967296:Int) u- (4294967296:Int)^(off+i)*(c+w)- (4294967296:Int)^(off+i)*(d*nv (4294967296:Int) (v.drop i))+(4294967296:Int)^(off+(v.length+1))*w'∧u'.drop (off+(v.length+1))=u.drop (off+(v.length+1))∧
      Q17.l3 N n off (v.length+1) v d (t/(4294967296:Int)) (if a<t%(4294967296:Int)+w then 1 else 0) ((v.length+1:Nat):Int) ((i+1:Nat):Int) u1 K0=K0 w' u':=by
    intro t dv t0 t1 ht hdr hlast u1 hu1;subst hu1;obtain⟨u',w',g1,g2,g3,g4,g5,g6,g7⟩:=ih (i+1) (t/(4294967296:Int)) (if a<t%(4294967296:Int)+w then 1 else 0) (u.set (off+i) ((a-t%(4294967296:Int)-w)%(4294967296:Int))) (hu.set (off+i) (by omega) (by omega)) (by simp;omega) (by simpa using hul2) (by omega) (by omega) (by omega) (by omega) (by split<;>omega) (by split<;>omega) (fun h=>by have:=hlast h;omega);refine⟨u',w',g1,by simpa using g2,g3,g4,?_,by rw[g6,mo (by omega)],g7⟩;rw[g5,sL (4294967296:Int) _ u (off+i) (by omega),hae,hdr];have hx:(a-t%(4294967296:Int)-w)%(4294967296:Int)=a-t%(4294967296:Int)-w+(4294967296:Int)*(if a<t%(4294967296:Int)+w then 1 else 0):=by split<;>omega
    have htt:t=t%(4294967296:Int)+(4294967296:Int)*(t/(4294967296:Int)):=by omega
    rw[hx];generalize(if a<t%(4294967296:Int)+w then(1:Int)else 0)=z at*;have hp:(4294967296:Int)^(off+(i+1))=(4294967296:Int)^(off+i)*(4294967296:Int):=by rw[←Nat.add_assoc,cP]
    rw[hp];generalize(4294967296:Int)^(off+i)=P at*;generalize nv (4294967296:Int) (v.drop (i+1))=V1 at*;generalize(4294967296:Int)^(off+(v.length+1))*w'=Q at*;generalize t%(4294967296:Int)=lo at*;generalize t/(4294967296:Int)=hi' at*;have hcd:c=lo+(4294967296:Int)*hi'-d*dv:=by omega
    rw[hcd];grind
   rw[e1,e0,e2,e3];simp only[cond_true,hae];by_cases hiv:i<v.length
   ·have f0:decide ((i:Int)<(v.length:Int))=true:=decide_eq_true (by omega);have f1:(decide (0≤(i:Int))&&decide ((i:Int)<(v.length:Int)))=true:=by simp;omega
    have hvd:=hv.get (by decide) i;generalize hve:v.getD i 0=dv at hvd;obtain⟨m1,m2⟩:=cY hvd.1 hvd.2 d0 d1;have ew:nA (c+nA (nA dv*nA d))=c+dv*d:=by rw[sA hvd.1 (by omega),sA d0 (by omega),sA m1 (by omega),sA (by omega) (by omega)]
    rw[f1,f0];simp only[cond_true,hve,ew];rw[rE,tC,lP,mL N ha.1 ha.2 (by omega) (by omega) w0 w1];simp only[hA];exact go (c+dv*d) dv (by omega) (by omega) (by rw[b8 dv d]) (by rw[rF (4294967296:Int) v i hiv,hve]) (fun h=>by omega) _ rfl
   ·have f0:decide ((i:Int)<(v.length:Int))=false:=decide_eq_false (by omega);have hz:v.drop i=[]:=hF.mpr (by omega);have hz2:v.drop (i+1)=[]:=hF.mpr (by omega);rw[f0];simp only[cond_false];rw[rE,tC,lP,mL N ha.1 ha.2 (by omega) (by omega) w0 w1];simp only[hA];exact go c 0 c0 (by omega) (by omega) (by rw[hz,hz2];simp[nv]) (fun h=>c1) _ rfl
  ·have hie:i=v.length+1:=by omega
   have e0:decide ((i:Int)<((v.length+1:Nat):Int))=false:=decide_eq_false (by omega);have hz:v.drop i=[]:=hF.mpr (by omega);have:=hc hie;subst this;rw[e0];refine⟨u,w,hu,rfl,w0,w1,?_,rfl,rfl⟩;rw[hz,hie];simp only[nv,q7,Int.sub_zero,x8];omega
theorem ra {N:Nat}(hN:1000000001<N){off:Nat}{v:List Int}(hv:qD (4294967296:Int) v)(hvl:v.length≤100000000){d:Int}(d0:0≤d)(d1:d<(4294967296:Int)){u:List Int}(hu:qD (4294967296:Int) u)(hul:off+(v.length+1)≤u.length)(hul2:u.length≤1000000000):
  ∃u' w',qD (4294967296:Int) u'∧u'.length=u.length∧0≤w'∧w'≤1∧nv (4294967296:Int) u'=nv (4294967296:Int) u- (4294967296:Int)^off*(d*nv (4294967296:Int) v)+(4294967296:Int)^(off+(v.length+1))*w'∧u'.drop (off+(v.length+1))=u.drop (off+(v.length+1))∧
   Q17.f N off (v.length+1) v d u=some (w' != 0,u'):=by
 obtain⟨u',w',g1,g2,g3,g4,g5,g6,g7⟩:=A8 N off v hv hvl d d0 d1 (fun y19 y20=>some (y19 != 0,y20)) N 0 0 0 u hu hul hul2 (by omega) (by omega) (by omega) (by decide) (by omega) (by omega) (fun h=>rfl);refine⟨u',w',g1,g2,g3,g4,?_,g6,?_⟩
 ·rw[g5];simp
 ·unfold Q17.f;exact g7
theorem A9 (N:Nat){R:Type}(off:Nat)(v:List Int)(hv:qD (4294967296:Int) v)(hvl:v.length≤100000000)(s j:Int)(out:List Int)(K0:Int→Int→Int→List Int→List Int→List Int→Option R):∀(n i:Nat) (c:Int) (u:List Int),qD (4294967296:Int) u→off+(v.length+1)≤u.length→u.length≤1000000000→i≤v.length+1→v.length+1-i<n→0≤c→c≤1→
  ∃u' c',qD (4294967296:Int) u'∧u'.length=u.length∧0≤c'∧c'≤1∧nv (4294967296:Int) u'=nv (4294967296:Int) u+(4294967296:Int)^(off+i)*c+(4294967296:Int)^(off+i)*nv (4294967296:Int) (v.drop i)- (4294967296:Int)^(off+(v.length+1))*c'∧u'.drop (off+(v.length+1))=u.drop (off+(v.length+1))∧
   Q18.l21 N n (v.length:Int) s j off (v.length+1) c ((v.length+1:Nat):Int) (i:Int) v u out K0=K0 (v.length:Int) s j v u' out:=by
 intro n;induction n with
 |zero=>intro i c u _ _ _ _ h;omega
 |succ n ih=>
  intro i c u hu hul hul2 hi hn c0 c1;rw[Q18.l21];by_cases hil:i<v.length+1
  ·have e0:decide ((i:Int)<((v.length+1:Nat):Int))=true:=decide_eq_true (by omega);have e1:(decide (0≤(i:Int))&&decide ((i:Int)<((v.length+1:Nat):Int)))=true:=by simp;omega
   have e2:(i:Int).toNat=i:=by omega
   have e3:aA ((i:Int)+1)=((i+1:Nat):Int):=by rw[gA (by omega) (by omega)];omega
   have ha:=hu.get (by decide) (off+i);generalize hae:u.getD (off+i) 0=a at ha;have go:∀t dv:Int,0≤dv→dv<(4294967296:Int)→t=c+a+dv→nv (4294967296:Int) (v.drop i)=dv+(4294967296:Int)*nv (4294967296:Int) (v.drop (i+1))→
     ∀u1,u1=u.set (off+i) (t%(4294967296:Int))→
     ∃u' c',qD (4294967296:Int) u'∧u'.length=u.length∧0≤c'∧c'≤1∧nv (4294967296:Int) u'=nv (4294967296:Int) u+(4294967296:Int)^(off+i)*c+(4294967296:Int)^(off+i)*nv (4294967296:Int) (v.drop i)- (4294967296:Int)^(off+(v.length+1))*c'∧u'.drop (off+(v.length+1))=u.drop (off+(v.length+1))∧
      Q18.l21 N n (v.length:Int) s j off (v.length+1) (t/(4294967296:Int)) ((v.length+1:Nat):Int) ((i+1:Nat):Int) v u1 out K0=K0 (v.length:Int) s j v u' out:=by
    intro t dv dv0 dv1 ht hdr u1 hu1;subst hu1;obtain⟨u',c',g1,g2,g3,g4,g5,g6,g7⟩:=ih (i+1) (t/(4294967296:Int)) (u.set (off+i) (t%(4294967296:Int))) (hu.set (off+i) (by omega) (by omega)) (by simp;omega) (by simpa using hul2) (by omega) (by omega) (by omega) (by omega);refine⟨u',c',g1,by simpa using g2,g3,g4,?_,by rw[g6,mo (by omega)],g7⟩;rw[g5,sL (4294967296:Int) _ u (off+i) (by omega),hae,hdr];have htt:t=t%(4294967296:Int)+(4294967296:Int)*(t/(4294967296:Int)):=by omega
    have hp:(4294967296:Int)^(off+(i+1))=(4294967296:Int)^(off+i)*(4294967296:Int):=by rw[←Nat.add_assoc,cP]
    rw[hp];generalize(4294967296:Int)^(off+i)=P at*;generalize nv (4294967296:Int) (v.drop (i+1))=V1 at*;generalize(4294967296:Int)^(off+(v.length+1))*c'=Q at*;generalize t%(4294967296:Int)=lo at*;generalize t/(4294967296:Int)=hi' at*;have hlo:lo=c+a+dv- (4294967296:Int)*hi':=by omega
    rw[hlo];grind
   rw[e1,e0,e2,e3];simp only[cond_true,hae];by_cases hiv:i<v.length
   ·have f0:decide ((i:Int)<(v.length:Int))=true:=decide_eq_true (by omega);have f1:(decide (0≤(i:Int))&&decide ((i:Int)<(v.length:Int)))=true:=by simp;omega
    have hvd:=hv.get (by decide) i;generalize hve:v.getD i 0=dv at hvd;have ew:nA (nA (c+nA a)+nA dv)=c+a+dv:=by rw[sA hvd.1 (by omega),sA ha.1 (by omega),sA (n:=c+a) (by omega) (by omega),sA (by omega) (by omega)]
    rw[f1,f0];simp only[cond_true,hve,ew];rw[rE,tC,lP];exact go (c+a+dv) dv hvd.1 hvd.2 rfl (by rw[rF (4294967296:Int) v i hiv,hve]) _ rfl
   ·have f0:decide ((i:Int)<(v.length:Int))=false:=decide_eq_false (by omega);have hz:v.drop i=[]:=hF.mpr (by omega);have hz2:v.drop (i+1)=[]:=hF.mpr (by omega);have ew:nA (c+nA a)=c+a+0:=by
     rw[sA ha.1 (by omega),sA (by omega) (by omega)];omega
    rw[f0];simp only[cond_false,ew];rw[rE,tC,lP];exact go (c+a+0) 0 (by omega) (by decide) rfl (by rw[hz,hz2];simp[nv]) _ rfl
  ·have hie:i=v.length+1:=by omega
   have e0:decide ((i:Int)<((v.length+1:Nat):Int))=false:=decide_eq_false (by omega);have hz:v.drop i=[]:=hF.mpr (by omega);rw[e0];refine⟨u,c,hu,rfl,c0,c1,?_,rfl,rfl⟩;rw[hz,hie];simp only[nv,q7,c7];omega
theorem sx (N:Nat){R:Type}(v u out:List Int)(n j:Nat)(s X:Int)(hn2:2≤n)(hnl:n=v.length)(hl:u.length≤1000000000)(hvl:v.length≤100000000)(hju:j+n≤u.length)(hv:qD (4294967296:Int) v)(hu:qD (4294967296:Int) u)(vt vs u2:Int)(hvt:v.getD (n-1) 0=vt)(hvs:v.getD (n-2) 0=vs)(hu2:u.getD (j+n-2) 0=u2)(htop:2147483648≤vt)(hX:X≤vt*(4294967296:Int)+(4294967296:Int)-1)
  (K0:Int→Int→Int→Int→List Int→List Int→List Int→Option R):∀(fuel:Nat) (d rest:Int),0≤d→d≤4294967297→0≤rest→rest<(4294967296:Int)→d*vt+rest=X→(4294967296:Int)-rest≤((fuel:Int)-1)*2147483648→(∀q,0≤q→q<(4294967296:Int)→q*(vt*(4294967296:Int)+vs)≤X*(4294967296:Int)+u2→q≤d)→
   ∃d',0≤d'∧d'<(4294967296:Int)∧d'*(vt*(4294967296:Int)+vs)≤X*(4294967296:Int)+u2∧(∀q,0≤q→q<(4294967296:Int)→q*(vt*(4294967296:Int)+vs)≤X*(4294967296:Int)+u2→q≤d')∧Q18.l11 N fuel (n:Int) s (j:Int) d rest v u out K0=K0 (n:Int) s (j:Int) d' v u out:=by
 have hvt':0≤vt∧vt<(4294967296:Int):=by rw[←hvt];exact hv.get (by decide) _
 have hvs':0≤vs∧vs<(4294967296:Int):=by rw[←hvs];exact hv.get (by decide) _
 have hu2':0≤u2∧u2<(4294967296:Int):=by rw[←hu2];exact hu.get (by decide) _
 have a1:aA ((n:Int)-1)=((n-1:Nat):Int):=by rw[gA (by omega) (by omega)];omega
 have a2:aA ((n:Int)-2)=((n-2:Nat):Int):=by rw[gA (by omega) (by omega)];omega
 have a3:aA (aA ((j:Int)+(n:Int))-2)=((j+n-2:Nat):Int):=by rw[gA (n:=(j:Int)+n) (by omega) (by omega),gA (by omega) (by omega)];omega
 have b1:(decide (0≤((n-1:Nat):Int))&&decide (((n-1:Nat):Int)<(v.length:Int)))=true:=by simp;omega
 have b2:(decide (0≤((n-2:Nat):Int))&&decide (((n-2:Nat):Int)<(v.length:Int)))=true:=by simp;omega
 have b3:(decide (0≤((j+n-2:Nat):Int))&&decide (((j+n-2:Nat):Int)<(u.length:Int)))=true:=by simp;omega
 have t1:((n-1:Nat):Int).toNat=n-1:=by omega
 have t2:((n-2:Nat):Int).toNat=n-2:=by omega
 have t3:((j+n-2:Nat):Int).toNat=j+n-2:=by omega
 intro fuel;induction fuel with
 |zero=>intro d rest d0 d1 r0 r1 hd hf;omega
 |succ fuel ih=>
  intro d rest d0 d1 r0 r1 hd hf hq;rw[Q18.l11];simp only[a1,a2,a3,b1,b2,b3,cond_true,t1,t2,t3,hvt,hvs,hu2];have ewv:nA vt=vt:=sA hvt'.1 (by omega);have ews:nA vs=vs:=sA hvs'.1 (by omega);have ewu:nA u2=u2:=sA hu2'.1 (by omega);have ewr:nA (rest+vt)=rest+vt:=sA (by omega) (by omega);have hdvB:d*vt*(4294967296:Int)+rest*(4294967296:Int)=X*(4294967296:Int):=by rw[←hd];grind
  have less:1≤d→(∀q,0≤q→q<(4294967296:Int)→q*(vt*(4294967296:Int)+vs)≤X*(4294967296:Int)+u2→q≤d-1)→
    ∃d',0≤d'∧d'<(4294967296:Int)∧d'*(vt*(4294967296:Int)+vs)≤X*(4294967296:Int)+u2∧(∀q,0≤q→q<(4294967296:Int)→q*(vt*(4294967296:Int)+vs)≤X*(4294967296:Int)+u2→q≤d')∧
     (bif (Int.fdiv (nA (rest+(nA vt))) (2^32)) != 0 then K0 (n:Int) s (j:Int) (nA (d-1)) v u out
      else Q18.l11 N fuel (n:Int) s (j:Int) (nA (d-1)) (nA (rest+(nA vt))) v u out K0)=K0 (n:Int) s (j:Int) d' v u out:=by
   intro hd1 hq1;rw[ewv,ewr,sA (n:=d-1) (by omega) (by omega),tC,lP];have hd':(d-1)*vt+(rest+vt)=X:=by rw[←hd];grind
   by_cases hr:rest+vt<(4294967296:Int)
   ·have:((rest+vt)/(4294967296:Int) != 0)=false:=by simp;omega
    rw[this];simp only[cond_false];exact ih (d-1) (rest+vt) (by omega) (by omega) (by omega) hr hd' (by omega) hq1
   ·have:((rest+vt)/(4294967296:Int) != 0)=true:=by simp;omega
    rw[this];simp only[cond_true];have hlt:d-1<(4294967296:Int):=by
     rcases pC (d-1) (4294967296:Int)with h|h
     ·exact h
     ·exfalso;have:=iB h hvt'.1;have e:(4294967296:Int)*vt=vt*(4294967296:Int):=b8 _ _;omega
    refine⟨d-1,by omega,hlt,?_,hq1,rfl⟩;obtain⟨m1,m2⟩:=cY (show 0≤d-1 by omega) hlt hvs'.1 hvs'.2;have e:(d-1)*(vt*(4294967296:Int)+vs)=(X- (rest+vt))*(4294967296:Int)+(d-1)*vs:=by rw[←hd'];grind
    have e2:(X- (rest+vt))*(4294967296:Int)=X*(4294967296:Int)- (rest+vt)*(4294967296:Int):=by grind
    omega
  by_cases hdB:(4294967296:Int)≤d
  ·have c1:((Int.fdiv d (2^32)) != 0)=true:=by rw[tC,lP];simp;omega
   rw[c1];simp only[cond_true];exact less (by omega) (fun q q0 q1 hh=>by omega)
  ·have c1:((Int.fdiv d (2^32)) != 0)=false:=by rw[tC,lP];simp;omega
   obtain⟨m1,m2⟩:=cY d0 (show d<(4294967296:Int) by omega) hvs'.1 hvs'.2;have er:dE .u64 (nA (rest*2^32)) (nA u2)=rest*(4294967296:Int)+u2:=by rw[lP,sA (n:=rest*4294967296) (by omega) (by omega),ewu,wO r0 r1 hu2'.1 hu2'.2]
   rw[c1,er,ews,sA m1 (by omega)];simp only[cond_false];have key:d*(vt*(4294967296:Int)+vs)=X*(4294967296:Int)-rest*(4294967296:Int)+d*vs:=by
    have:d*(vt*(4294967296:Int)+vs)=d*vt*(4294967296:Int)+d*vs:=by grind
    omega
   by_cases ht:d*vs>rest*(4294967296:Int)+u2
   ·rw[decide_eq_true ht];simp only[cond_true];refine less ?_ (fun q q0 q1 hh=>?_)
    ·rcases pC 0 d with h|h
     ·omega
     ·have:d=0:=by omega
      subst this;simp at ht;omega
    ·have h1:=hq q q0 q1 hh;rcases pC q d with h|h
     ·omega
     ·have:q=d:=by omega
      subst this;omega
   ·rw[decide_eq_false ht];simp only[cond_false];exact⟨d,d0,by omega,by omega,hq,rfl⟩
theorem eF (i:Nat):0<(4294967296:Int)^i:=hV (by decide)
theorem Nw {u:List Int}(hu:qD (4294967296:Int) u){p:Nat}(hp:p+3≤u.length)(hb:nv (4294967296:Int) u<(4294967296:Int)^(p+3)):
  nv (4294967296:Int) u=nv (4294967296:Int) (u.take p)+(4294967296:Int)^p*(u.getD p 0+(4294967296:Int)*(u.getD (p+1) 0+(4294967296:Int)*u.getD (p+2) 0))∧0≤nv (4294967296:Int) (u.take p)∧nv (4294967296:Int) (u.take p)<(4294967296:Int)^p:=by
 have h1:=nS (4294967296:Int) u p (by omega);have h2:=rF (4294967296:Int) u p (by omega);have h3:=rF (4294967296:Int) u (p+1) (by omega);have h4:=rF (4294967296:Int) u (p+1+1) (by omega);have ht:=jC (show(0:Int)<(4294967296:Int) by decide) (hu.take p);have hd:=jC (show(0:Int)<(4294967296:Int) by decide) (hu.drop (p+1+1+1));have hl:(u.take p).length=p:=by rw[hT];omega
 rw[hl]at ht;have g0:=hu.get (by decide) p;have g1:=hu.get (by decide) (p+1);have g2:=hu.get (by decide) (p+1+1);have hz:nv (4294967296:Int) (u.drop (p+1+1+1))=0:=by
  rcases pC 0 (nv (4294967296:Int) (u.drop (p+1+1+1)))with h|h
  ·exfalso;have hpp:=eF p;have e:nv (4294967296:Int) u=nv (4294967296:Int) (u.take p)+(4294967296:Int)^p*(u.getD p 0+(4294967296:Int)*(u.getD (p+1) 0+(4294967296:Int)*u.getD (p+1+1) 0))+(4294967296:Int)^(p+3)*nv (4294967296:Int) (u.drop (p+1+1+1)):=by
    rw[h1,h2,h3,h4,c5];have:(4294967296:Int)^3=(4294967296:Int)*(4294967296:Int)*(4294967296:Int):=by decide
    rw[this];grind
   have q1:=hC (hB hpp) (show 0≤u.getD p 0+(4294967296:Int)*(u.getD (p+1) 0+(4294967296:Int)*u.getD (p+1+1) 0) by omega);have q2:=iA (show 1≤nv (4294967296:Int) (u.drop (p+1+1+1)) by omega) (hB (eF (p+3)));omega
  ·omega
 refine⟨?_,ht.1,ht.2⟩;rw[h1,h2,h3,h4,hz];simp
theorem nq {U W P XX vt vs lo lo2 d:Int}(hP:0<P)(hU:U=XX*P+lo)(hW:W=(vt*(4294967296:Int)+vs)*P+lo2)(l0:0≤lo)(l1:lo<P)(m0:0≤lo2)(m1:lo2<P)(hvt:1≤vt)(hvs:0≤vs)(d0:0≤d)(d1:d<(4294967296:Int))(hd:d*(vt*(4294967296:Int)+vs)≤XX)
  (hq:∀q,0≤q→q<(4294967296:Int)→q*(vt*(4294967296:Int)+vs)≤XX→q≤d)(hU0:0≤U)(hUW:U<(4294967296:Int)*W):
  (d-1)*W≤U∧∃q,0≤q∧q<(4294967296:Int)∧q*W≤U∧U<(q+1)*W∧(d=q∨d=q+1):=by
 have hVV:(4294967296:Int)≤vt*(4294967296:Int)+vs:=by omega
 have hWP:(4294967296:Int)*P≤W:=by have:=iB hVV (hB hP);omega
 have hWpos:0<W:=by omega
 have h1:(d-1)*W≤U:=by
  have e1:d*W=d*(vt*(4294967296:Int)+vs)*P+d*lo2:=by rw[hW];grind
  have e2:=iB hd (hB hP);have e3:=ei (show d≤(4294967296:Int) by omega) (hB m1) m0 (by decide);have e4:(d-1)*W=d*W-W:=by grind
  omega
 refine⟨h1,U/W,eX hU0 (hB hWpos),?_,?_,?_,?_⟩
 ·exact iv hWpos hUW
 ·exact Int.ediv_mul_le U (by omega)
 ·exact eh U hWpos
 ·have q0:0≤U/W:=eX hU0 (hB hWpos);have q1:U/W<(4294967296:Int):=iv hWpos hUW;have q2:=Int.ediv_mul_le U (b:=W) (by omega);have q3:=eh U hWpos;generalize U/W=q at*;have up:q≤d:=by
   refine hq q q0 q1 ?_;have f1:q*W=q*(vt*(4294967296:Int)+vs)*P+q*lo2:=by rw[hW];grind
   have f2:=hC q0 m0;rcases pC XX (q*(vt*(4294967296:Int)+vs))with h|h
   ·exfalso;have:=iB (show XX+1≤q*(vt*(4294967296:Int)+vs) by omega) (hB hP);have f3:(XX+1)*P=XX*P+P:=by grind
    omega
   ·exact h
  have lw:d≤q+1:=by
   rcases pC (q+1) d with h|h
   ·exfalso;have:=iB (show q+1≤d-1 by omega) (hB hWpos);omega
   ·exact h
  omega
theorem Qt {u z:List Int}{k:Nat}(hu:qD (4294967296:Int) u)(hub:nv (4294967296:Int) u<(4294967296:Int)^k)(hk:k≤u.length)(hz:qD (4294967296:Int) z)(hzl:z.length=u.length)(hzd:z.drop k=u.drop k):0≤nv (4294967296:Int) z∧nv (4294967296:Int) z<(4294967296:Int)^k:=by
 have hzb:=jC (show(0:Int)<(4294967296:Int) by decide) hz;have s1:=nS (4294967296:Int) z k (by omega);have s2:=nS (4294967296:Int) u k (by omega);have ht:=jC (show(0:Int)<(4294967296:Int) by decide) (hz.take k);have htu:=jC (show(0:Int)<(4294967296:Int) by decide) (hu.take k);have hl1:(z.take k).length=k:=by rw[hT];omega
 rw[hl1]at ht;rw[hzd]at s1;have hdb:=jC (show(0:Int)<(4294967296:Int) by decide) (hu.drop k);have hzero:nv (4294967296:Int) (u.drop k)=0:=by
  rcases pC 0 (nv (4294967296:Int) (u.drop k))with h|h
  ·exfalso;have:=iA (show 1≤nv (4294967296:Int) (u.drop k) by omega) (hB (eF k));omega
  ·omega
 rw[hzero]at s1;omega
theorem M4 {N:Nat}(hN:1000000001<N){R:Type}(v:List Int)(hv:qD (4294967296:Int) v)(hvl:v.length≤10000000)(s:Int)(K0:Int→List Int→List Int→Option R)(f j:Nat)(u out:List Int)(hu:qD (4294967296:Int) u)(hl:u.length=out.length+v.length)(hul:u.length≤100000000)(hj:j<out.length)
  (hUb:nv (4294967296:Int) u<(4294967296:Int)^(j+(v.length+1)))(d q:Int)(d0:0≤d)(d1:d<(4294967296:Int))(q0:0≤q)(q1:q<(4294967296:Int))(q2:q*((4294967296:Int)^j*nv (4294967296:Int) v)≤nv (4294967296:Int) u)(q3:nv (4294967296:Int) u<(q+1)*((4294967296:Int)^j*nv (4294967296:Int) v))(q4:d=q∨d=q+1):
  ∃z,qD (4294967296:Int) z∧z.length=u.length∧nv (4294967296:Int) z=nv (4294967296:Int) u-q*((4294967296:Int)^j*nv (4294967296:Int) v)∧
   (bif (((decide (0≤(j:Int)))&&(decide ((j:Int)≤(aA ((aA ((j:Int)+(v.length:Int)))+1)))))&&(decide ((aA ((aA ((j:Int)+(v.length:Int)))+1))≤(aA ((aA ((j:Int)+(v.length:Int)))+1)))))&&(decide ((aA ((aA ((j:Int)+(v.length:Int)))+1))≤(u.length:Int)))then
     (Q17.f N (j:Int).toNat (((aA ((aA ((j:Int)+(v.length:Int)))+1)).toNat)- (j:Int).toNat) v (gF d) u).bind fun r34=>
     bif !r34.1 then
      bif (decide (0≤(j:Int)))&&(decide ((j:Int)<(out.length:Int)))then
       Q18.l7 N f (v.length:Int) s (aA ((j:Int)-1)) v r34.2 (out.set (j:Int).toNat (gF d)) K0
      else none
     else
     bif (decide (0≤(j:Int)))&&(decide ((j:Int)<(out.length:Int)))then
      Q18.l21 N N (v.length:Int) s (j:Int) (j:Int).toNat (((aA ((aA ((j:Int)+(v.length:Int)))+1)).toNat)- (j:Int).toNat) 0 ((((aA ((aA ((j:Int)+(v.length:Int)))+1)).toNat)- (j:Int).toNat:Nat):Int) 0 v r34.2 (out.set (j:Int).toNat (gF ((gF d)-1)))
       (fun y52 y53 y54 y55 y56 y57=>
        Q18.l7 N f y52 y53 (aA (y54-1)) y55 y56 y57 K0)
     else none
    else none)=Q18.l7 N f (v.length:Int) s ((j:Int)-1) v z (out.set j q) K0:=by
 have w5:aA ((j:Int)+(v.length:Int))=((j+v.length:Nat):Int):=by rw[gA (by omega) (by omega)];omega
 have w6:aA (((j+v.length:Nat):Int)+1)=((j+(v.length+1):Nat):Int):=by rw[gA (by omega) (by omega)];omega
 have w7:aA ((j:Int)-1)=(j:Int)-1:=gA (by omega) (by omega);have t4:(j:Int).toNat=j:=by omega
 have t5:((j+(v.length+1):Nat):Int).toNat-j=v.length+1:=by omega
 simp only[w5,w6,t4,t5,w7];have b5:(decide (0≤(j:Int))&&decide ((j:Int)≤((j+(v.length+1):Nat):Int))&&decide (((j+(v.length+1):Nat):Int)≤((j+(v.length+1):Nat):Int))&&decide (((j+(v.length+1):Nat):Int)≤(u.length:Int)))=true:=by simp;omega
 have b6:(decide (0≤(j:Int))&&decide ((j:Int)<(out.length:Int)))=true:=by simp;omega
 rw[b5,b6,jT d0 d1];simp only[cond_true];obtain⟨u',w',a1,a2,a3,a4,a5,a6,a7⟩:=ra hN hv (by omega) d0 d1 hu (off:=j) (by omega) (by omega);rw[a7];simp only[hA];obtain⟨n0,n1⟩:=Qt hu hUb (by omega) a1 a2 a6;have hdW:(4294967296:Int)^j*(d*nv (4294967296:Int) v)=d*((4294967296:Int)^j*nv (4294967296:Int) v):=by grind
 rw[hdW]at a5;generalize hWW:(4294967296:Int)^j*nv (4294967296:Int) v=W at*;rcases q4 with hdq'|hdq'
 ·subst hdq';have hw0:w'=0:=by
   rcases pC 0 w' with h|h
   ·have:w'=1:=by omega
    subst this;omega
   ·omega
  subst hw0;simp only[bne_self_eq_false,p8,cond_true];exact⟨u',a1,a2,by omega,rfl⟩
 ·subst hdq';have hq1:(q+1)*W=q*W+W:=by grind
  have hw1:w'=1:=by
   rcases pC 0 w' with h|h
   ·omega
   ·have:w'=0:=by omega
    subst this;omega
  subst hw1;have c1:(!((1:Int) != 0))=false:=by decide
  rw[c1];simp only[cond_false];rw[jT (n:=q+1-1) (by omega) (by omega)];have e1:q+1-1=q:=by omega
  rw[e1];obtain⟨u'',c',k1,k2,k3,k4,k5,k6,k7⟩:=A9 N j v hv (by omega) s (j:Int) (out.set j q) (fun y52 y53 y54 y55 y56 y57=>Q18.l7 N f y52 y53 (aA (y54-1)) y55 y56 y57 K0) N 0 0 u' a1 (by omega) (by omega) (by omega) (by omega) (by omega) (by omega);have hz0:((0:Nat):Int)=0:=rfl;rw[hz0]at k7;rw[k7];simp only[w7];obtain⟨n2,n3⟩:=Qt hu hUb (by omega) k1 (by omega) (by rw[k6,a6]);simp only[Nat.add_zero,ek,q7,c7,hWW]at k5;have hc1:c'=1:=by
   rcases pC 0 c' with h|h
   ·omega
   ·have:c'=0:=by omega
    subst this;omega
  subst hc1;exact⟨u'',k1,by omega,by omega,rfl⟩
theorem Az {N:Nat}(hN:1000000001<N){R:Type}(v:List Int)(hv:qD (4294967296:Int) v)(n:Nat)(hn:v.length=n+2)(hvl:v.length≤10000000)(htop':2147483648≤v.getD (n+1) 0)(s:Int)(K0:Int→List Int→List Int→Option R)(f j:Nat)(u out:List Int)(hu:qD (4294967296:Int) u)(hl:u.length=out.length+v.length)(hul:u.length≤100000000)(hj:j<out.length)
  (hUW:nv (4294967296:Int) u<(4294967296:Int)*((4294967296:Int)^j*nv (4294967296:Int) v)):
  ∃q z,0≤q∧q<(4294967296:Int)∧nv (4294967296:Int) u<(q+1)*((4294967296:Int)^j*nv (4294967296:Int) v)∧qD (4294967296:Int) z∧z.length=u.length∧nv (4294967296:Int) z=nv (4294967296:Int) u-q*((4294967296:Int)^j*nv (4294967296:Int) v)∧Q18.l7 N (f+1) (v.length:Int) s (j:Int) v u out K0=Q18.l7 N f (v.length:Int) s ((j:Int)-1) v z (out.set j q) K0:=by
 have hvb:=jC (show(0:Int)<(4294967296:Int) by decide) hv;have hub:=jC (show(0:Int)<(4294967296:Int) by decide) hu;have hPj:=eF j;have hUb:nv (4294967296:Int) u<(4294967296:Int)^(j+n+3):=by
  have:=iA (hB hvb.2) (hB (eF (j+1)));rw[←c5,hn]at this;have e:j+1+(n+2)=j+n+3:=by omega
  have e2:(4294967296:Int)*((4294967296:Int)^j*nv (4294967296:Int) v)=(4294967296:Int)^(j+1)*nv (4294967296:Int) v:=by rw[cP];grind
  rw[e]at this;omega
 obtain⟨U1,U2,U3⟩:=Nw hu (p:=j+n) (by omega) hUb;have hvs1:=nS (4294967296:Int) v n (by omega);have hvs2:=rF (4294967296:Int) v n (by omega);have hvs3:=rF (4294967296:Int) v (n+1) (by omega);have hvs4:v.drop (n+1+1)=[]:=hF.mpr (by omega);rw[hvs4]at hvs3;have hlo2:=jC (show(0:Int)<(4294967296:Int) by decide) (hv.take n);have hlen2:(v.take n).length=n:=by rw[hT];omega
 rw[hlen2]at hlo2;have gt:=hv.get (by decide) (n+1);have gs:=hv.get (by decide) n;have g0:=hu.get (by decide) (j+n+2);have g1:=hu.get (by decide) (j+n+1);have g2:=hu.get (by decide) (j+n);generalize hvt:v.getD (n+1) 0=vt at*;generalize hvs:v.getD n 0=vs at*;generalize hu0:u.getD (j+n+2) 0=u0 at*;generalize hu1:u.getD (j+n+1) 0=u1 at*;generalize hu2:u.getD (j+n) 0=u2 at*;have hW:(4294967296:Int)^j*nv (4294967296:Int) v=(vt*(4294967296:Int)+vs)*(4294967296:Int)^(j+n)+(4294967296:Int)^j*nv (4294967296:Int) (v.take n):=by rw[hvs1,hvs2,hvs3,c5];simp only[nv];grind
 have hU:nv (4294967296:Int) u=((u0*(4294967296:Int)+u1)*(4294967296:Int)+u2)*(4294967296:Int)^(j+n)+nv (4294967296:Int) (u.take (j+n)):=by rw[U1];grind
 have hlow:0≤(4294967296:Int)^j*nv (4294967296:Int) (v.take n)∧(4294967296:Int)^j*nv (4294967296:Int) (v.take n)<(4294967296:Int)^(j+n):=by refine⟨hC (hB hPj) hlo2.1,?_⟩;have:=c8 hlo2.2 hPj;rw[←c5]at this;exact this
 have hXle:u0*(4294967296:Int)+u1≤vt*(4294967296:Int)+(4294967296:Int)-1:=by
  rcases pC (vt*(4294967296:Int)+(4294967296:Int)-1) (u0*(4294967296:Int)+u1)with h|h
  ·exfalso;have hpp:=eF (j+n);have q1:=iB (show(vt*(4294967296:Int)+(4294967296:Int))*(4294967296:Int)≤(u0*(4294967296:Int)+u1)*(4294967296:Int)+u2 by omega) (hB hpp);have q2:=iB (show vt*(4294967296:Int)+vs+1≤vt*(4294967296:Int)+(4294967296:Int) by omega) (hB hpp);have e1:(vt*(4294967296:Int)+(4294967296:Int))*(4294967296:Int)*(4294967296:Int)^(j+n)=(4294967296:Int)*((vt*(4294967296:Int)+(4294967296:Int))*(4294967296:Int)^(j+n)):=by grind
   have e2:(vt*(4294967296:Int)+vs+1)*(4294967296:Int)^(j+n)=(vt*(4294967296:Int)+vs)*(4294967296:Int)^(j+n)+(4294967296:Int)^(j+n):=by grind
   omega
  ·exact h
 have hX0:0≤u0*(4294967296:Int)+u1:=by omega
 have hdm:=hE (u0*(4294967296:Int)+u1) vt;have hm0:=zE (u0*(4294967296:Int)+u1) (b:=vt) (by omega);have hm1:=aE (u0*(4294967296:Int)+u1) (b:=vt) (by omega);have hd0:0≤(u0*(4294967296:Int)+u1)/vt:=eX hX0 (by omega);have hd1:(u0*(4294967296:Int)+u1)/vt≤4294967297:=by
  rcases pC 4294967297 ((u0*(4294967296:Int)+u1)/vt)with h|h
  ·exfalso;have:=iA (show 4294967298≤(u0*(4294967296:Int)+u1)/vt by omega) (show 0≤vt by omega);omega
  ·exact h
 have hX:nA (u0*(4294967296:Int)+u1)=u0*(4294967296:Int)+u1:=sA hX0 (by omega);have hguess0:∀q,0≤q→q<(4294967296:Int)→q*(vt*(4294967296:Int)+vs)≤(u0*(4294967296:Int)+u1)*(4294967296:Int)+u2→q≤(u0*(4294967296:Int)+u1)/vt:=by
  intro q q0 q1 hq;have f1:q*(vt*(4294967296:Int)+vs)=q*vt*(4294967296:Int)+q*vs:=by grind
  have f2:=hC q0 gs.1;have f3:q*vt≤u0*(4294967296:Int)+u1:=by
   rcases pC (u0*(4294967296:Int)+u1) (q*vt)with h|h
   ·omega
   ·exact h
  exact(ch (by omega)).mpr f3
 have hdm':(u0*(4294967296:Int)+u1)/vt*vt+(u0*(4294967296:Int)+u1)%vt=u0*(4294967296:Int)+u1:=by rw[b8];exact hdm
 have w2:aA ((v.length:Int)-1)=((n+1:Nat):Int):=by rw[gA (by omega) (by omega)];omega
 have w3:aA (((j+n+2:Nat):Int)-1)=((j+n+1:Nat):Int):=by rw[gA (by omega) (by omega)];omega
 have w5:aA ((j:Int)+(v.length:Int))=((j+n+2:Nat):Int):=by rw[gA (by omega) (by omega)];omega
 have t1:((j+n+2:Nat):Int).toNat=j+n+2:=by omega
 have t2:((j+n+1:Nat):Int).toNat=j+n+1:=by omega
 have t3:((n+1:Nat):Int).toNat=n+1:=by omega
 have b0:decide ((j:Int)≥0)=true:=decide_eq_true (by omega);have b1:(decide (0≤((j+n+2:Nat):Int))&&decide (((j+n+2:Nat):Int)<(u.length:Int)))=true:=by simp;omega
 have b2:(decide (0≤((j+n+1:Nat):Int))&&decide (((j+n+1:Nat):Int)<(u.length:Int)))=true:=by simp;omega
 have b3:(decide (0≤((n+1:Nat):Int))&&decide (((n+1:Nat):Int)<(v.length:Int)))=true:=by simp;omega
 have evt:nA vt=vt:=sA (by omega) (by omega);have b4:(vt==0)=false:=by simp;omega
 have er:dE .u64 (nA (nA u0*2^32)) (nA u1)=u0*(4294967296:Int)+u1:=by rw[sA g0.1 (by omega),sA g1.1 (by omega),lP,sA (n:=u0*4294967296) (by omega) (by omega),wO g0.1 g0.2 g1.1 g1.2]
 rw[Q18.l7];simp only[b0,w5,w3,w2,b1,b2,b3,cond_true,t1,t2,t3,hvt,hu0,hu1,evt,b4,p8,er,yP hX0,xI hX0];rw[sA hd0 (by omega)];obtain⟨d,d0,d1,hdle,hdq,hgo⟩:=sx N v u out (n+2) j s (u0*(4294967296:Int)+u1) (by omega) hn.symm (by omega) (by omega) (by omega) hv hu vt vs u2 hvt hvs hu2 htop' hXle
  (fun y27 y28 y29 y30 y31 y32 y33=>
   bif (((decide (0≤y29))&&(decide (y29≤(aA ((aA (y29+y27))+1)))))&&(decide ((aA ((aA (y29+y27))+1))≤(aA ((aA (y29+y27))+1)))))&&(decide ((aA ((aA (y29+y27))+1))≤(y32.length:Int)))then
    (Q17.f N y29.toNat (((aA ((aA (y29+y27))+1)).toNat)-y29.toNat) y31 (gF y30) y32).bind fun r34=>
    bif !r34.1 then
     bif (decide (0≤y29))&&(decide (y29<(y33.length:Int)))then
      Q18.l7 N f y27 y28 (aA (y29-1)) y31 r34.2 (y33.set y29.toNat (gF y30)) K0
     else none
    else
    bif (decide (0≤y29))&&(decide (y29<(y33.length:Int)))then
     Q18.l21 N N y27 y28 y29 y29.toNat (((aA ((aA (y29+y27))+1)).toNat)-y29.toNat) 0 ((((aA ((aA (y29+y27))+1)).toNat)-y29.toNat:Nat):Int) 0 y31 r34.2 (y33.set y29.toNat (gF ((gF y30)-1)))
      (fun y52 y53 y54 y55 y56 y57=>
       Q18.l7 N f y52 y53 (aA (y54-1)) y55 y56 y57 K0)
    else none
   else none) N ((u0*(4294967296:Int)+u1)/vt) ((u0*(4294967296:Int)+u1)%vt) hd0 hd1 hm0 (by omega) hdm' (by omega) hguess0
 have hn':(v.length:Int)=((n+2:Nat):Int):=by omega
 have hgo':=hgo;rw[←hn']at hgo';rw[hgo'];obtain⟨_,q,q0,q1,q2,q3,q4⟩:=nq (eF (j+n)) hU hW U2 U3 hlow.1 hlow.2 (by omega) gs.1 d0 d1 hdle hdq hub.1 hUW;have hUb':nv (4294967296:Int) u<(4294967296:Int)^(j+(v.length+1)):=by
  have e:j+(v.length+1)=j+n+3:=by omega
  rw[e];exact hUb
 obtain⟨z,z1,z2,z3,z4⟩:=M4 hN v hv hvl s K0 f j u out hu hl hul hj hUb' d q d0 d1 q0 q1 q2 q3 q4;exact⟨q,z,q0,q1,q3,z1,z2,z3,z4⟩
theorem Ay {N:Nat}(hN:1000000001<N){R:Type}(v:List Int)(hv:qD (4294967296:Int) v)(h2:2≤v.length)(hvl:v.length≤10000000)(htop:2147483648≤v.getD (v.length-1) 0)(s:Int)(K0:Int→List Int→List Int→Option R):
  ∀(m fuel:Nat) (u out:List Int),qD (4294967296:Int) u→qD (4294967296:Int) out→u.length=out.length+v.length→u.length≤100000000→m≤out.length→m<fuel→nv (4294967296:Int) u<(4294967296:Int)^m*nv (4294967296:Int) v→(∀k,k<m→out.getD k 0=0)→
   ∃u' out',qD (4294967296:Int) u'∧qD (4294967296:Int) out'∧u'.length=u.length∧out'.length=out.length∧nv (4294967296:Int) out'*nv (4294967296:Int) v+nv (4294967296:Int) u'=nv (4294967296:Int) out*nv (4294967296:Int) v+nv (4294967296:Int) u∧nv (4294967296:Int) u'<nv (4294967296:Int) v∧Q18.l7 N fuel (v.length:Int) s ((m:Int)-1) v u out K0=K0 s u' out':=by
 intro m;induction m with
 |zero=>
  intro fuel u out hu ho hl hul hm hf hlt hz;obtain⟨f,rfl⟩:∃f,fuel=f+1:=⟨fuel-1,by omega⟩
  refine⟨u,out,hu,ho,rfl,rfl,rfl,by simpa using hlt,?_⟩;rw[Q18.l7];have:decide (((0:Nat):Int)-1≥0)=false:=by decide
  rw[this];rfl
 |succ j ih=>
  intro fuel u out hu ho hl hul hm hf hlt hz;obtain⟨f,rfl⟩:∃f,fuel=f+1:=⟨fuel-1,by omega⟩
  obtain⟨n,hn⟩:∃n,v.length=n+2:=⟨v.length-2,by omega⟩
  have hUW:nv (4294967296:Int) u<(4294967296:Int)*((4294967296:Int)^j*nv (4294967296:Int) v):=by
   have e:(4294967296:Int)^(j+1)*nv (4294967296:Int) v=(4294967296:Int)*((4294967296:Int)^j*nv (4294967296:Int) v):=by rw[cP];grind
   omega
  obtain⟨q,z,q0,q1,q3,z1,z2,z3,z4⟩:=Az hN v hv n hn hvl (by rw[hn]at htop;exact htop) s K0 f j u out hu hl hul (by omega) hUW;have o3:nv (4294967296:Int) (out.set j q)=nv (4294967296:Int) out+(4294967296:Int)^j*q:=by rw[sL (4294967296:Int) q out j (by omega),hz j (by omega)];simp
  have o4:∀k,k<j→(out.set j q).getD k 0=0:=fun k hk=>by rw[hI,List.getElem?_set_ne (by omega),←hI];exact hz k (by omega)
  have ol:(out.set j q).length=out.length:=by simp
  obtain⟨u'',out'',r1,r2,r3,r4,r5,r6,r7⟩:=ih f z (out.set j q) z1 (ho.set j q0 q1) (by omega) (by omega) (by omega) (by omega) (by
   have:(q+1)*((4294967296:Int)^j*nv (4294967296:Int) v)=q*((4294967296:Int)^j*nv (4294967296:Int) v)+(4294967296:Int)^j*nv (4294967296:Int) v:=by grind
   omega) o4
  have w4:((j+1:Nat):Int)-1=(j:Int):=by omega
  refine⟨u'',out'',r1,r2,by omega,by omega,?_,r6,by rw[w4,z4,r7]⟩;rw[r5,o3,z3];grind
theorem ff {l:List Int}(h:qD (4294967296:Int) l){n:Nat}(hn:l.length=n+1):nv (4294967296:Int) l=nv (4294967296:Int) (l.take n)+(4294967296:Int)^n*l.getD n 0∧0≤nv (4294967296:Int) (l.take n)∧nv (4294967296:Int) (l.take n)<(4294967296:Int)^n:=by
 have h1:=xE (4294967296:Int) l n (by omega);have h2:l.take (n+1)=l:=c9 (by omega);rw[h2]at h1;have h3:=jC (show(0:Int)<(4294967296:Int) by decide) (h.take n);have h4:(l.take n).length=n:=by rw[hT];omega
 rw[h4]at h3;exact⟨h1,h3.1,h3.2⟩
theorem Ud {x:Int}(h0:0<x)(h1:x<(4294967296:Int)):∃k:Nat,k≤31∧aA (32-nE x)=(k:Int)∧2147483648≤2^k*x∧2^k*(x+1)≤(4294967296:Int):=by
 have b0:=gD x;have b1:nE x≤(32:Nat):=(iG (hB h0) 32).mpr (by rw[show(2:Int)^32=(4294967296:Int)from lP];exact h1);have b2:¬nE x≤(0:Nat):=fun h=>by have:=(iG (hB h0) 0).mp h;simp at this;omega
 obtain⟨m,hm⟩:∃m:Nat,nE x=(m:Int)+1:=⟨(nE x).toNat-1,by omega⟩
 have hm31:m≤31:=by omega
 have u1:x<2^(m+1):=(iG (hB h0) (m+1)).mp (by omega);have u2:¬x<2^m:=fun h=>by have:=(iG (hB h0) m).mpr h;omega
 refine⟨31-m,by omega,by rw[gA (by omega) (by omega)];omega,?_,?_⟩
 ·have:=iA (show(2:Int)^m≤x by omega) (hB (yO (31-m)));rw[←c5]at this;have e:31-m+m=31:=by omega
  rw[e]at this;have e2:(2:Int)^31=2147483648:=by decide
  omega
 ·have:=iA (show x+1≤(2:Int)^(m+1) by omega) (hB (yO (31-m)));rw[←c5]at this;have e:31-m+(m+1)=32:=by omega
  rw[e,lP]at this;exact this
theorem tt {N:Nat}(hN:1000000001<N){a b:List Int}(ha:mQ (4294967296:Int) a)(hb:mQ (4294967296:Int) b)(h2:2≤b.length)(hle:b.length≤a.length)(hs:a.length≤1000000):
  Q18.f N a b=some (enc (4294967296:Int) (nv (4294967296:Int) a/nv (4294967296:Int) b),enc (4294967296:Int) (nv (4294967296:Int) a%nv (4294967296:Int) b)):=by
 obtain⟨n,hn⟩:∃n,b.length=n+1:=⟨b.length-1,by omega⟩
 have hbne:b≠ []:=fun h=>by rw[h]at h2;simp at h2
 have htop:=hb.top hbne;have hbl:=hb.lower (by decide) hbne;have w1:aA ((b.length:Int)-1)=(n:Int):=by rw[gA (by omega) (by omega)];omega
 have t1:(n:Int).toNat=n:=by omega
 have b1:(decide (0≤(n:Int))&&decide ((n:Int)<(b.length:Int)))=true:=by simp;omega
 have e1:b.length-1=n:=by omega
 rw[e1]at htop hbl;have gt:=hb.dig.get (by decide) n;obtain⟨s1,s2,s3⟩:=ff hb.dig hn;generalize htp:b.getD n 0=tp at*;obtain⟨k,k0,k1,k2,k3⟩:=Ud (x:=tp) (by omega) gt.2;have hp2:=yO k;have hPn:=eF n;have fitb:2^k*nv (4294967296:Int) b<(4294967296:Int)^b.length:=by
  have q1:2^k*nv (4294967296:Int) b<2^k*((4294967296:Int)^n*(tp+1)):=c8 (by rw[s1];grind) hp2;have q2:=iA k3 (hB hPn);have e:2^k*((4294967296:Int)^n*(tp+1))=(4294967296:Int)^n*(2^k*(tp+1)):=by grind
  rw[hn,cP];omega
 have hab:=jC (show(0:Int)<(4294967296:Int) by decide) ha.dig;have hbb:=jC (show(0:Int)<(4294967296:Int) by decide) hb.dig;have fita:2^k*nv (4294967296:Int) a<(4294967296:Int)^(a.length+1):=by have q1:=c8 hab.2 hp2;have q2:=iB (show(2:Int)^k≤(4294967296:Int) by have:=ye k0;omega) (hB (eF a.length));rw[cP];have e:(4294967296:Int)^a.length*(4294967296:Int)=(4294967296:Int)*(4294967296:Int)^a.length:=b8 _ _;omega
 obtain⟨v,v1,v2,v3,v4⟩:=qj hN hb.dig k0 (m:=b.length) (by omega) (iX _) fitb;obtain⟨u,u1,u2,u3,u4⟩:=qj hN ha.dig k0 (m:=a.length+1) (by omega) (by omega) fita;have w2:aA ((a.length:Int)+1)=((a.length+1:Nat):Int):=by rw[gA (by omega) (by omega)];omega
 obtain⟨m,hm⟩:∃m,a.length+1=b.length+m:=⟨a.length+1-b.length,by omega⟩
 have w3:aA ((u.length:Int)- (b.length:Int))=(m:Int):=by rw[gA (by omega) (by omega)];omega
 have w4:aA ((m:Int)-1)=(m:Int)-1:=gA (by omega) (by omega);have t2:(m:Int).toNat=m:=by omega
 unfold Q18.f Q13.f;rw[w1,b1,t1,htp,rV N gt.1 gt.2];simp only[cond_true,hA];rw[k1,v4,w2,u4];simp only[hA];rw[w3,oo (by omega),t2,w4];simp only[cond_true];have hvt:2147483648≤v.getD (v.length-1) 0:=by
  obtain⟨x1,x2,x3⟩:=ff v1 (n:=n) (by omega);have e2:v.length-1=n:=by omega
  rw[e2];rcases pC (v.getD n 0) 2147483648 with h|h
  ·exfalso;have q1:=iA (show v.getD n 0+1≤2147483648 by omega) (hB hPn);have q2:=iA k2 (hB hPn);have q3:=hC (hB hp2) s2;have e3:2^k*nv (4294967296:Int) b=2^k*nv (4294967296:Int) (b.take n)+(4294967296:Int)^n*(2^k*tp):=by rw[s1];grind
   have e4:(4294967296:Int)^n*(v.getD n 0+1)=(4294967296:Int)^n*v.getD n 0+(4294967296:Int)^n:=by grind
   omega
  ·exact h
 have hVpos:0<nv (4294967296:Int) b:=by have:=eF n;omega
 have hlt:nv (4294967296:Int) u<(4294967296:Int)^m*nv (4294967296:Int) v:=by
  rw[u3,v3];have q1:=iA hbl (hB (eF m));rw[←c5]at q1;have e5:m+n=a.length:=by omega
  rw[e5]at q1;have q2:=c8 (show nv (4294967296:Int) a<(4294967296:Int)^m*nv (4294967296:Int) b by omega) hp2;have e6:(4294967296:Int)^m*(2^k*nv (4294967296:Int) b)=2^k*((4294967296:Int)^m*nv (4294967296:Int) b):=by grind
  omega
 obtain⟨u',out',r1,r2,r3,r4,r5,r6,r7⟩:=Ay hN v v1 (by omega) (by omega) hvt (k:Int) (fun y61 y62 y63=>
     (Q2.f N 0 y63.length y63).bind fun r64=>
     (Q16.f N y62 y61).bind fun r65=>
     some ((r64.2.2.drop r64.1).take r64.2.1,r65)) m N u (List.replicate m 0) u1 (qD.replicate (by decide) m) (by simp;omega) (by omega) (by simp) (by omega) hlt (fun k _=>jv m k)
 rw[v2]at r7;rw[r7];have hol:out'.length=m:=by rw[r4];simp
 obtain⟨c1,c2⟩:=xM hN out' (by omega);rw[c1];simp only[hA,c2];rw[rq hN r1 (by omega) k0,aK r2];simp only[hA];rw[lG,dk,x8,u3,v3]at r5;rw[v3]at r6;have hub:=jC (show(0:Int)<(4294967296:Int) by decide) r1;have hdvd:nv (4294967296:Int) u'=2^k*(nv (4294967296:Int) a-nv (4294967296:Int) out'*nv (4294967296:Int) b):=by
  have:nv (4294967296:Int) out'*(2^k*nv (4294967296:Int) b)=2^k*(nv (4294967296:Int) out'*nv (4294967296:Int) b):=by grind
  rw[Int.mul_sub];omega
 have hdiv:nv (4294967296:Int) u'/2^k=nv (4294967296:Int) a-nv (4294967296:Int) out'*nv (4294967296:Int) b:=by rw[hdvd];exact hQ _ (by omega)
 have lo:0≤nv (4294967296:Int) a-nv (4294967296:Int) out'*nv (4294967296:Int) b:=by rw[←hdiv];exact eX hub.1 (hB hp2)
 have hi:nv (4294967296:Int) a-nv (4294967296:Int) out'*nv (4294967296:Int) b<nv (4294967296:Int) b:=by rw[hdvd]at r6;exact Int.lt_of_mul_lt_mul_left r6 (hB hp2)
 have hu:=(p7 (a:=nv (4294967296:Int) a) (r:=nv (4294967296:Int) a-nv (4294967296:Int) out'*nv (4294967296:Int) b) (q:=nv (4294967296:Int) out') hVpos).mpr ⟨by grind,lo,hi⟩;rw[hdiv,hu.1,hu.2]
theorem bq {N:Nat}(hN:1000000001<N){u v:Int}(hu:Rg u)(hv:Rg v):Q19.f N (enc (4294967296:Int) u) (enc (4294967296:Int) v)=some (if v=0 then([],[],11)else(enc (4294967296:Int) (u/v),enc (4294967296:Int) (u%v),0)):=by
 obtain⟨hu0,huK⟩:=hu;obtain⟨hv0,hvK⟩:=hv;obtain⟨cu,eu⟩:=lD B2 hu0;obtain⟨cv,ev⟩:=lD B2 hv0;have lu:=eE hu0 huK;have lv:=eE hv0 hvK;unfold Q19.f;by_cases hz:v=0
 ·subst hz;rw[lO B2];simp
 ·rw[if_neg hz];have hne:enc (4294967296:Int) v≠ []:=fun h=>hz ((wx B2 hv0).mp h);have hlen:0<(enc (4294967296:Int) v).length:=j3.mpr hne;have c0:(((enc (4294967296:Int) v).length:Int)==0)=false:=by simp;omega
  rw[c0,gh hN hu0 huK hv0];simp only[cond_false,hA];by_cases hlt:u<v
  ·have:decide (Bw u v<0)=true:=by unfold Bw;rw[if_neg (by omega),if_pos hlt];rfl
   rw[this,il hu0 hlt,fs hu0 hlt,lO B2];rfl
  ·have:decide (Bw u v<0)=false:=by
    unfold Bw;by_cases h:u=v
    ·rw[if_pos h];rfl
    ·rw[if_neg h,if_neg hlt];rfl
   rw[this];simp only[cond_false];have hvp:0<v:=by omega
   by_cases h1:(enc (4294967296:Int) v).length=1
   ·have c1:(((enc (4294967296:Int) v).length:Int)==1)=true:=by simp;omega
    have c2:decide (0<((enc (4294967296:Int) v).length:Int))=true:=decide_eq_true (by omega);obtain⟨x,hx⟩:∃x,enc (4294967296:Int) v=[x]:=by
     match hh:enc (4294967296:Int) v,h1 with
     | [x],_=>exact⟨x,rfl⟩
    have hxv:x=v:=by rw[hx]at ev;simpa[nv]using ev
    subst hxv;have hxb:x<(4294967296:Int):=by have:=cv.dig x (by rw[hx];simp);exact this.2
    rw[c1,c2,ur (by omega)];simp only[cond_true];have hg:(enc (4294967296:Int) x).getD 0 0=x:=by rw[hx];rfl
    obtain⟨l',g1,g2,g3,g4⟩:=qc hN cu.dig (m:=(enc (4294967296:Int) u).length) (iX _) (by omega) hvp hxb;rw[c9 (iX _),eu]at g3 g4;have g3':nv (4294967296:Int) l'=u/x:=by rw[←g3,c9 (by omega)]
    rw[hg,g4];simp only[hA];obtain⟨k1,k2⟩:=xM hN l' (by omega);have m0:=zE u (b:=x) (by omega);have m1:=aE u (b:=x) hvp;rw[k1,sA m0 (by omega),qS hN m0 (by omega)];simp only[hA,k2];rw[aK g1,g3']
   ·have c1:(((enc (4294967296:Int) v).length:Int)==1)=false:=by simp;omega
    have hle:(enc (4294967296:Int) v).length≤(enc (4294967296:Int) u).length:=by
     rcases gb (enc (4294967296:Int) u).length (enc (4294967296:Int) v).length with h|h
     ·have:=wK cu cv h;omega
     ·exact h
    rw[c1,tt hN cu cv (by omega) hle (by omega),eu,ev];rfl
def cC (a b:Int):Int:=(Int.gcd a b:Int)
theorem uY {a b:Int}(ha:0≤a)(hb:0<b):cC b (a%b)=cC a b:=by
 unfold cC;obtain⟨m,rfl⟩:=o2 ha;obtain⟨n,rfl⟩:=o2 (hB hb);have e:((m:Int)%(n:Int))=((m%n:Nat):Int):=by simp
 rw[e];show((Nat.gcd n (m%n):Nat):Int)=((Nat.gcd m n:Nat):Int);rw[Nat.gcd_comm n,←Nat.gcd_rec,Nat.gcd_comm]
theorem zR {a:Int}(ha:0≤a):cC a 0=a:=by
 unfold cC;rw[Int.gcd_zero_right];omega
theorem Aq {v r:Int}(hr:0<r)(hv:r<v):2*(v%r)<v:=by
 have h1:=hE v r;have h2:=aE v hr;have h3:1≤v/r:=(ch hr).mpr (by omega);have h4:=iA h3 (hB hr);omega
theorem wR {N:Nat}(hN:1000000001<N){R:Type}(K0:List Int→Option R):∀(k n:Nat) (u v:Int),Rg u→Rg v→v<2^k→2*k+1≤n→Q20.l1 N n (enc (4294967296:Int) u) (enc (4294967296:Int) v) K0=K0 (enc (4294967296:Int) (cC u v)):=by
 have stop:∀(n:Nat) (u:Int),Rg u→Q20.l1 N (n+1) (enc (4294967296:Int) u) (enc (4294967296:Int) 0) K0=K0 (enc (4294967296:Int) (cC u 0)):=by intro n u hu;rw[Q20.l1,lO B2,zR hu.1];rfl
 have one:∀(n:Nat) (u v:Int),Rg u→Rg v→v≠0→Q20.l1 N (n+1) (enc (4294967296:Int) u) (enc (4294967296:Int) v) K0=Q20.l1 N n (enc (4294967296:Int) v) (enc (4294967296:Int) (u%v)) K0:=by intro n u v hu hv hz;rw[Q20.l1];have hne:enc (4294967296:Int) v≠ []:=fun h=>hz ((wx B2 hv.1).mp h);have hlen:0<(enc (4294967296:Int) v).length:=j3.mpr hne;have c:decide (((enc (4294967296:Int) v).length:Int)>0)=true:=decide_eq_true (by omega);rw[c,bq hN hu hv,if_neg hz];rfl
 have rem:∀(u v:Int),Rg u→Rg v→v≠0→Rg (u%v)∧u%v<v:=by
  intro u v hu hv hz;have hp:0<v:=by have:=hv.1;omega
  have h0:=zE u hz;have h1:=aE u hp;exact⟨⟨h0,by have:=hv.2;omega⟩,h1⟩
 intro k;induction k with
 |zero=>
  intro n u v hu hv hk hn;obtain⟨n',rfl⟩:∃n',n=n'+1:=⟨n-1,by omega⟩
  have hv0:=hv.1;have:v=0:=by simp at hk;omega
  subst this;exact stop n' u hu
 |succ k ih=>
  intro n u v hu hv hk hn;obtain⟨n',rfl⟩:∃n',n=n'+1+1:=⟨n-2,by omega⟩
  have hu0:=hu.1;have hv0:=hv.1;by_cases hz:v=0
  ·subst hz;exact stop _ u hu
  ·obtain⟨r1,r2⟩:=rem u v hu hv hz;have g1:=uY hu0 (show 0<v by omega);rw[one _ u v hu hv hz,←g1];generalize u%v=r at*;by_cases hr:r=0
   ·subst hr;exact stop _ v hv
   ·have hr0:=r1.1;obtain⟨q1,q2⟩:=rem v r hv r1 hr;have g2:=uY hv0 (show 0<r by omega);rw[one _ v r hv r1 hr,←g2];have hh:=Aq (show 0<r by omega) r2;have hp:(2:Int)^(k+1)=2*2^k:=by rw[cP];omega
    exact ih n' r (v%r) r1 q1 (by omega) (by omega)
theorem Ao {N:Nat}(hN:1000000001<N){u v:Int}(hu:Rg u)(hv:Rg v):Q20.f N (enc (4294967296:Int) u) (enc (4294967296:Int) v)=some (enc (4294967296:Int) (cC u v)):=by
 unfold Q20.f;exact wR hN _ 4096 N u v hu hv (by have:=hv.2;unfold K at this;exact this) (by omega)
theorem Nf {u v:Int}(hu:Rg u)(hv:Rg v):Rg (cC u v):=by
 have h0:0≤cC u v:=by unfold cC;omega
 refine⟨h0,?_⟩;by_cases hz:u=0
 ·subst hz;have:cC 0 v=v:=by unfold cC;rw[Int.gcd_zero_left];have:=hv.1;omega
  rw[this];exact hv.2
 ·have:=b7 (by have:=hu.1;omega) (Int.gcd_dvd_left u v);have h2:=hu.2;unfold cC;omega
def ab (x:Int):Int:=if x<0 then-x else x
theorem qB (x:Int):0≤ab x:=by unfold ab;split<;>omega
theorem fB (x:Int):(0≤x∧ab x=x)∨(x<0∧ab x= -x):=by unfold ab;split<;>omega
theorem yG {x:Int}:ab x=0↔x=0:=by rcases fB x with⟨h,e⟩|⟨h,e⟩<;>omega
def sg (x:Int):Bool:=decide (x<0)
theorem tz (N:Nat){v:Int}(b:Bool)(h:Rg v):Q21.f N b (enc (4294967296:Int) v)=some (b&&decide (0<v),enc (4294967296:Int) v):=by
 obtain⟨h1,h2⟩:=lD B2 h.lo;have hl:=eE h.lo h.hi;unfold Q21.f;rw[bH N h1 (by omega),h2];cases b
 ·rfl
 ·have:=gD v;have hz:=iG h.lo 0;have e0:(2:Int)^0=1:=rfl;rw[e0]at hz;have:decide (nE v>0)=decide (0<v):=by
   refine decide_eq_decide.mpr ⟨fun q=>?_,fun q=>?_⟩
   ·rcases pC 0 v with p|p
    ·exact p
    ·have:=hz.mpr (by omega);omega
   ·rcases pC 0 (nE v)with p|p
    ·exact p
    ·have:=hz.mp (by omega);omega
  simp[this]
noncomputable def pB (x:Int):List Int:=enc (4294967296:Int) (ab x)
def sv (b:Bool)(v:Int):Int:=if b then-v else v
abbrev Zr (x:Int):Prop:=Rg (ab x)
theorem yf:pB 0=[]:=lO B2
theorem yn:sg 0=false:=rfl
theorem cD {v:Int}(h:0≤v):ab v=v:=by unfold ab;rw[if_neg (by omega)]
theorem Qd (x:Int):ab (ab x)=ab x:=cD (qB x)
theorem nQ (x:Int):ab (-x)=ab x:=by unfold ab;split<;>split<;>omega
theorem Ti (b:Bool){v:Int}(h:0≤v):sg (sv b v)=(b&&decide (0<v)):=by
 unfold sg sv;cases b
 ·simp;omega
 ·rw[if_pos rfl];by_cases h1:0<v
  ·rw[decide_eq_true h1,decide_eq_true (by omega)];rfl
  ·rw[decide_eq_false h1,decide_eq_false (by omega)];rfl
theorem we (b:Bool){v:Int}(h:0≤v):ab (sv b v)=v:=by
 unfold ab sv;cases b
 ·simp;omega
 ·rw[if_pos rfl];split<;>omega
theorem Tk (x:Int):sv (sg x) (ab x)=x:=by
 unfold sv sg ab;by_cases h:x<0<;>simp[h]
theorem Sk (x:Int):sv (!sg x) (ab x)= -x:=by
 unfold sv sg ab;by_cases h:x<0<;>simp[h]
theorem qE (x:Int):(sg x=true∧x<0∧ab x= -x)∨(sg x=false∧0≤x∧ab x=x):=by
 unfold sg ab;by_cases h:x<0
 ·left;exact⟨decide_eq_true h,h,if_pos h⟩
 ·right;exact⟨decide_eq_false h,by omega,if_neg h⟩
theorem kj (b:Bool):sv b 0=0:=by cases b<;>rfl
theorem tE {x:Int}(h:ab x<K):Zr x:=⟨qB x,h⟩
theorem A2:Zr 0:=tE Bz
theorem T2 {x:Int}(h:Zr x):Zr (-x):=tE (by rw[nQ];exact h.hi)
theorem Tw {x:Int}(h:Zr x):Zr (ab x):=tE (by rw[Qd];exact h.hi)
def zo (r:Int):Int:=if ab r<K then r else 0
def ze (r:Int):Int:=if ab r<K then 0 else 3
theorem qo {r:Int}(h:Zr r):zo r=r:=if_pos h.hi
theorem Tv {r:Int}(h:Zr r):ze r=0:=if_pos h.hi
theorem uL {N:Nat}{v:Int}(b:Bool)(h:Rg v):Q21.f N b (enc (4294967296:Int) v)=some (sg (sv b v),pB (sv b v)):=by
 rw[tz N b h,Ti b h.lo];unfold pB;rw[we b h.lo]
theorem kz {N:Nat}{x:Int}(b:Bool)(h:Zr x):Q21.f N b (pB x)=some (sg (sv b (ab x)),pB (sv b (ab x))):=uL b h
theorem N7 (u v:Int):decide (Bw u v<0)=decide (u<v):=by
 unfold Bw;by_cases h:u=v
 ·rw[if_pos h,decide_eq_false (show ¬u<v by omega)];rfl
 ·by_cases h1:u<v
  ·rw[if_neg h,if_pos h1,decide_eq_true h1];rfl
  ·rw[if_neg h,if_neg h1,decide_eq_false h1];rfl
theorem C8 {x y:Int}(h:sg x=sg y):sv (sg x) (ov (ab x+ab y))=zo (x+y)∧oe (ab x+ab y)=ze (x+y):=by
 have e:ab (x+y)=ab x+ab y:=by
  rcases qE x with⟨a1,a2,a3⟩|⟨a1,a2,a3⟩<;>rcases qE y with⟨b1,b2,b3⟩|⟨b1,b2,b3⟩<;>rw[a1,b1]at h
  ·rw[a3,b3];unfold ab;rw[if_pos (by omega)];omega
  ·cases h
  ·cases h
  ·rw[a3,b3];unfold ab;rw[if_neg (by omega)]
 have e2:sg (x+y)=sg x∨x+y=0:=by
  rcases qE x with⟨a1,a2,a3⟩|⟨a1,a2,a3⟩<;>rcases qE y with⟨b1,b2,b3⟩|⟨b1,b2,b3⟩<;>rw[a1,b1]at h
  ·left;rw[a1];exact decide_eq_true (by omega)
  ·cases h
  ·cases h
  ·left;rw[a1];exact decide_eq_false (by omega)
 unfold zo ze ov oe;rw[e];refine⟨?_,rfl⟩;split
 ·rw[←e];rcases e2 with e2|e2
  ·rw[←e2];exact Tk _
  ·rw[e2];exact kj _
 ·exact kj _
theorem C6 {x y:Int}(hx:Zr x)(hy:Zr y)(h:sg x≠sg y):Zr (x+y)∧(ab x<ab y→sv (sg y) (ab y-ab x)=x+y)∧(ab y≤ab x→sv (sg x) (ab x-ab y)=x+y):=by
 have hx1:=hx.hi;have hy1:=hy.hi;rcases qE x with⟨a1,a2,a3⟩|⟨a1,a2,a3⟩<;>rcases qE y with⟨b1,b2,b3⟩|⟨b1,b2,b3⟩<;>rw[a1,b1]at h
 ·exact absurd rfl h
 ·refine⟨tE ?_,?_,?_⟩
  ·rcases fB (x+y)with⟨c1,c2⟩|⟨c1,c2⟩<;>omega
  ·intro _;rw[b1,a3,b3];unfold sv;simp;omega
  ·intro _;rw[a1,a3,b3];unfold sv;simp;omega
 ·refine⟨tE ?_,?_,?_⟩
  ·rcases fB (x+y)with⟨c1,c2⟩|⟨c1,c2⟩<;>omega
  ·intro _;rw[b1,a3,b3];unfold sv;simp;omega
  ·intro _;rw[a1,a3,b3];unfold sv;simp
 ·exact absurd rfl h
theorem R8 {N:Nat}(hN:1000000001<N){x y:Int}(hx:Zr x)(hy:Zr y):Q24.f N (sg x) (pB x) (sg y) (pB y)=some (sg (zo (x+y)),pB (zo (x+y)),ze (x+y)):=by
 unfold Q24.f;by_cases h:sg x=sg y
 ·have c:(sg x==sg y)=true:=by rw[h];exact beq_self_eq_true _
  obtain⟨e1,e2⟩:=C8 h;rw[c];simp only[cond_true];unfold pB;rw[T7 hN hx hy];simp only[hA];rw[uL _ (Rg.ov (by have:=hx.lo;have:=hy.lo;omega)),e1,e2];rfl
 ·have c:(sg x==sg y)=false:=beq_eq_false_iff_ne.mpr h;obtain⟨e1,e2,e3⟩:=C6 hx hy h;rw[c,qo e1,Tv e1];simp only[cond_false];unfold pB;rw[Ua hN hx hy];simp only[hA];rw[N7];by_cases hl:ab x<ab y
  ·rw[decide_eq_true hl];simp only[cond_true];rw[kg hN hy.lo hy.hi hx.lo,if_neg (by omega)];simp only[hA];rw[uL _ ⟨by omega,by have:=hy.hi;have:=hx.lo;omega⟩,e2 hl];rfl
  ·rw[decide_eq_false hl];simp only[cond_false];rw[kg hN hx.lo hx.hi hy.lo,if_neg hl];simp only[hA];rw[uL _ ⟨by omega,by have:=hx.hi;have:=hy.lo;omega⟩,e3 (by omega)];rfl
theorem R9 {N:Nat}{x:Int}(hx:Zr x):Q27.f N (sg x) (pB x)=some (sg (-x),pB (-x)):=by
 unfold Q27.f;rw[kz _ hx,Sk];rfl
theorem Ra {N:Nat}(hN:1000000001<N){x y:Int}(hx:Zr x)(hy:Zr y):Q28.f N (sg x) (pB x) (sg y) (pB y)=some (sg (zo (x-y)),pB (zo (x-y)),ze (x-y)):=by
 unfold Q28.f;rw[R9 hy];simp only[hA];rw[R8 hN hx (T2 hy),Int.sub_eq_add_neg];rfl
theorem qt (x y:Int):ab (x*y)=ab x*ab y:=by
 rcases fB x with⟨a2,a3⟩|⟨a2,a3⟩<;>rcases fB y with⟨b2,b3⟩|⟨b2,b3⟩<;>rw[a3,b3]
 ·exact cD (hC a2 b2)
 ·rw[j1,←nQ,cD (by have:=hC a2 (show 0≤ -y by omega);rw[j1]at this;exact this)]
 ·rw[fo,←nQ,cD (by have:=hC (show 0≤ -x by omega) b2;rw[fo]at this;exact this)]
 ·rw[Int.neg_mul_neg];exact cD (hB (Int.mul_pos_of_neg_of_neg a2 b2))
theorem kh (x y:Int):sv (!(sg x==sg y)) (ab x*ab y)=x*y:=by
 rcases qE x with⟨a1,a2,a3⟩|⟨a1,a2,a3⟩<;>rcases qE y with⟨b1,b2,b3⟩|⟨b1,b2,b3⟩<;>rw[a1,b1,a3,b3]<;>unfold sv
 ·simp[Int.neg_mul_neg]
 ·simp[fo]
 ·simp[j1]
 ·simp
theorem E5 (x y:Int):sv (!(sg x==sg y)) (ov (ab x*ab y))=zo (x*y)∧oe (ab x*ab y)=ze (x*y):=by
 unfold zo ze ov oe;rw[qt];refine⟨?_,rfl⟩;split
 ·exact kh x y
 ·exact kj _
theorem Tt {N:Nat}(hN:1000000001<N){x y:Int}(hx:Zr x)(hy:Zr y):Q25.f N (sg x) (pB x) (sg y) (pB y)=some (sg (zo (x*y)),pB (zo (x*y)),ze (x*y)):=by
 unfold Q25.f;obtain⟨e1,e2⟩:=E5 x y;unfold pB;rw[Uf hN hx hy];simp only[hA];rw[uL _ (Rg.ov (hC hx.lo hy.lo)),e1,e2];rfl
def sn (x:Int):Int:=if ab x=0 then 0 else if sg x then-1 else 1
theorem lM (x:Int):(x=0∧sn x=0)∨(x<0∧sn x= -1)∨(0<x∧sn x=1):=by
 unfold sn;by_cases h:x=0
 ·left;exact⟨h,if_pos (yG.mpr h)⟩
 ·rw[if_neg (fun q=>h (yG.mp q))];rcases qE x with⟨a1,a2,a3⟩|⟨a1,a2,a3⟩
  ·right;left;rw[a1];exact⟨a2,rfl⟩
  ·right;right;rw[a1];exact⟨by omega,rfl⟩
theorem Sg (x:Int):decide (sn x<0)=decide (x<0):=by
 rcases lM x with⟨s1,s2⟩|⟨s1,s2⟩|⟨s1,s2⟩<;>rw[s2]
 ·rw[decide_eq_false (show ¬x<0 by omega)];rfl
 ·rw[decide_eq_true s1];rfl
 ·rw[decide_eq_false (show ¬x<0 by omega)];rfl
theorem jR {N:Nat}{x:Int}(hx:Zr x):Q26.f N (sg x) (pB x)=some (sn x):=by
 obtain⟨h1,h2⟩:=lD B2 hx.lo;have hl:=eE hx.lo hx.hi;unfold Q26.f pB;rw[bH N h1 (by omega),h2];simp only[hA];have hz:=qL hx.lo;unfold sn;by_cases h:ab x=0
 ·rw[if_pos h,hz.mpr h];rfl
 ·have c:(nE (ab x)==0)=false:=beq_eq_false_iff_ne.mpr (fun q=>h (hz.mp q));rw[if_neg h,c];cases sg x<;>rfl
theorem Tu {N:Nat}(hN:1000000001<N){n:Int}(h0: -9223372036854775808≤n)(h1:n<9223372036854775808):Q22.f N n=some (sg n,pB n):=by
 unfold Q22.f pB;rcases qE n with⟨a1,a2,a3⟩|⟨a1,a2,a3⟩
 ·have e:nA (0-nA n)= -n:=by rw[oM,oM];omega
  rw[decide_eq_true a2,e,qS hN (by omega) (by omega),a1,a3];rfl
 ·have d:decide (n<0)=false:=decide_eq_false (by omega);rw[d,sA (n:=n) (by omega) (by omega),a1,a3];simp only[cond_false];rw[qS hN (by omega) (by omega)];rfl
theorem T0 {n:Int}(h0: -9223372036854775808≤n)(h1:n<9223372036854775808):Zr n:=tE (by have:=Qa;rcases fB n with⟨c1,c2⟩|⟨c1,c2⟩<;>omega)
theorem F2 {x y:Int}(hy:y≠0):
  ((sg x=true∧0<ab x%ab y)→sv (!(sg x==sg y)) (ab x/ab y+1)=x/y∧ab y-ab x%ab y=x%y)∧
  (¬(sg x=true∧0<ab x%ab y)→sv (!(sg x==sg y)) (ab x/ab y)=x/y∧ab x%ab y=x%y):=by
 have yp:0<ab y:=by have:=qB y;have:ab y≠0:=fun q=>hy (yG.mp q);omega
 have e1:x/y=sv (sg y) (x/ab y)∧x%y=x%ab y:=by
  rcases qE y with⟨b1,b2,b3⟩|⟨b1,b2,b3⟩
  ·rw[b1,b3,Int.emod_neg,Int.ediv_neg];unfold sv;simp
  ·rw[b1,b3];exact⟨rfl,rfl⟩
 obtain⟨e2,e3⟩:=e1;rw[e2,e3];generalize ab y=d at*;rcases qE x with⟨a1,a2,a3⟩|⟨a1,a2,a3⟩
 ·rw[a1,a3];have d1:=hE (-x) d;have d2:=zE (-x) (show d≠0 by omega);have d3:=aE (-x) yp;generalize-x/d=q at*;generalize-x%d=r at*;refine⟨fun h=>?_,fun h=>?_⟩
  ·have u:=(p7 (a:=x) (r:=d-r) (q:= -(q+1)) yp).mpr ⟨by grind,by omega,by omega⟩;rw[u.1,u.2];refine⟨?_,rfl⟩;cases sg y<;>simp[sv]
  ·have hr:r=0:=by
    rcases pC 0 r with h1|h1
    ·exact absurd ⟨rfl,h1⟩ h
    ·omega
   subst hr;have u:=(p7 (a:=x) (r:=0) (q:= -q) yp).mpr ⟨by grind,by omega,by omega⟩;rw[u.1,u.2];refine⟨?_,rfl⟩;cases sg y<;>simp[sv]
 ·rw[a1,a3];refine⟨fun h=>(by cases h.1),fun _=>⟨?_,rfl⟩⟩;cases sg y<;>simp[sv]
theorem Mr {N:Nat}(hN:1000000001<N){x y:Int}(hx:Zr x)(hy:Zr y)(h:y≠0):Q29.f N (sg x) (pB x) (sg y) (pB y)=some (sg (x/y),pB (x/y),sg (x%y),pB (x%y),0)∧Zr (x/y)∧Zr (x%y):=by
 obtain⟨t1,t2⟩:=F2 (x:=x) h;have x0:=hx.lo;have y0:=hy.lo;have xK:=hx.hi;have yK:=hy.hi;have hyz:ab y≠0:=fun q=>h (yG.mp q);have yp:0<ab y:=by omega
 have q0:0≤ab x/ab y:=eX x0 y0;have q1:ab x/ab y≤ab x:=da _ x0;have r0:=zE (ab x) hyz;have r1:=aE (ab x) yp;have hq:Rg (ab x/ab y):=⟨q0,by omega⟩
 have hr:Rg (ab x%ab y):=⟨r0,by omega⟩
 unfold Q29.f;unfold pB;rw[bq hN hx hy,if_neg hyz];have c0:((0:Int) != 0)=false:=rfl;simp only[hA,c0,cond_false];by_cases hc:sg x=true∧0<ab x%ab y
 ·obtain⟨u1,u2⟩:=t1 hc;obtain⟨c1,c2⟩:=hr.lo,hr.hi;obtain⟨h1,h2⟩:=lD B2 hr.lo;have hl:=eE hr.lo hr.hi;have hbit:=bH N h1 (by omega);rw[h2]at hbit;have hbz:=qL hr.lo;have hbn:=gD (ab x%ab y);have c3:decide (nE (ab x%ab y)>0)=true:=decide_eq_true (by
   have:nE (ab x%ab y)≠0:=fun q=>by have:=hbz.mp q;omega
   omega)
  rw[hc.1];simp only[cond_true];rw[hbit];simp only[hA,c3,cond_true];rw[qS hN (by decide) (by decide)];simp only[hA];have one:Rg 1:=⟨by decide,by have:=Qa;omega⟩
  have hq1:ab x/ab y+1<K:=by
   by_cases h2:ab y=1
   ·rw[h2,Int.emod_one]at hc;omega
   ·have d1:=hE (ab x) (ab y);have d2:=iB (show 2≤ab y by omega) q0;omega
  have hq1':Rg (ab x/ab y+1):=⟨by omega,hq1⟩
  rw[T7 hN hq one];simp only[hA];have ho:ov (ab x/ab y+1)=ab x/ab y+1:=if_pos hq1;rw[ho,kg hN y0 yK r0,if_neg (by omega)];simp only[hA];have hr':Rg (ab y-ab x%ab y):=⟨by omega,by omega⟩
  rw[uL _ hq1'];simp only[hA];rw[uL _ hr'];simp only[hA];rw[hc.1]at u1;have u3:sv false (ab y-ab x%ab y)=x%y:=u2;rw[u1,u3];refine⟨rfl,tE ?_,tE ?_⟩
  ·rw[←u1,we _ (by omega)];exact hq1
  ·rw[←u2,cD (by omega)];omega
 ·obtain⟨u1,u2⟩:=t2 hc;have u3:sv false (ab x%ab y)=x%y:=u2;have bN:((Q21.f N (!(sg x==sg y)) (enc (4294967296:Int) (ab x/ab y))).bind fun r12=>
    (Q21.f N false (enc (4294967296:Int) (ab x%ab y))).bind fun r13=>
    some (r12.1,r12.2,r13.1,r13.2,(0:Int)))=some (sg (x/y),enc (4294967296:Int) (ab (x/y)),sg (x%y),enc (4294967296:Int) (ab (x%y)),0):=by
   rw[uL _ hq];simp only[hA];rw[uL _ hr];simp only[hA];rw[u1,u3];rfl
  refine⟨?_,tE ?_,tE ?_⟩
  ·by_cases hs:sg x=true
   ·obtain⟨h1,h2⟩:=lD B2 hr.lo;have hl:=eE hr.lo hr.hi;have hbit:=bH N h1 (by omega);rw[h2]at hbit;have hrz:ab x%ab y=0:=by
     rcases pC 0 (ab x%ab y)with h3|h3
     ·exact absurd ⟨hs,h3⟩ hc
     ·omega
    have c3:decide (nE (ab x%ab y)>0)=false:=by rw[(qL hr.lo).mpr hrz];rfl
    rw[hs]at bN⊢;simp only[cond_true];rw[hbit];simp only[hA,c3,cond_false];exact bN
   ·have hs':sg x=false:=by cases hq:sg x<;>simp_all
    rw[hs']at bN⊢;exact bN
  ·rw[←u1,we _ q0];omega
  ·rw[←u2,cD r0];omega
theorem A1 {N:Nat}(hN:1000000001<N){x y:Int}(hx:Zr x)(hy:Zr y)(h:y≠0):Q30.f N (sg x) (pB x) (sg y) (pB y)=some (if x%y=0 then(sg (x/y),pB (x/y),0)else(false,[],2)):=by
 obtain⟨q1,q2,q3⟩:=Mr hN hx hy h;unfold Q30.f;rw[q1];have c0:((0:Int) != 0)=false:=rfl;simp only[hA,c0,cond_false];rw[jR q3];simp only[hA];rcases lM (x%y)with⟨s1,s2⟩|⟨s1,s2⟩|⟨s1,s2⟩<;>rw[s2]
 ·rw[if_pos s1];rfl
 ·rw[if_neg (by omega)];rfl
 ·rw[if_neg (by omega)];rfl
theorem A4 (x y:Int):ab (x+y)≤ab x+ab y:=by
 rcases fB x with⟨a1,a2⟩|⟨a1,a2⟩<;>rcases fB y with⟨b1,b2⟩|⟨b1,b2⟩<;>rcases fB (x+y)with⟨c1,c2⟩|⟨c1,c2⟩<;>omega
theorem oP (x y:Int):ab (x-y)≤ab x+ab y:=by
 have:=A4 x (-y);rw[nQ,←Int.sub_eq_add_neg]at this;exact this
theorem Mo {n:Int}(h1:9223372036854775808≤n)(h2:n<18446744073709551616):aA n=n-18446744073709551616:=by
 simp only[aA,IntKind.wrap];simp[IntKind.bits,IntKind.signed];omega
theorem U5 {N:Nat}{x:Int}(hx:Zr x):Q23.f N (sg x) (pB x)=some (if-9223372036854775808≤x∧x<9223372036854775808 then(x,true)else(0,false)):=by
 unfold Q23.f pB;rw[Bq N hx.lo];simp only[hA];have x0:=hx.lo;by_cases h:ab x<18446744073709551616
 ·rw[if_pos h];simp only[cx,cond_false];by_cases h1:ab x>9223372036854775808
  ·rw[decide_eq_true h1,if_neg (by rcases fB x with⟨c1,c2⟩|⟨c1,c2⟩<;>omega)];rfl
  ·rw[decide_eq_false h1];simp only[cond_false];rcases qE x with⟨a1,a2,a3⟩|⟨a1,a2,a3⟩
   ·have e:aA (nA (0-ab x))=x:=by
     rw[oM];have:(0-ab x)%18446744073709551616=x+18446744073709551616:=by omega
     rw[this,Mo (by omega) (by omega)];omega
    rw[a1,e,if_pos (by omega)];by_cases h2:ab x=9223372036854775808
    ·have c2:(ab x==9223372036854775808)=true:=by rw[h2];rfl
     rw[c2];rfl
    ·have c2:(ab x==9223372036854775808)=false:=beq_eq_false_iff_ne.mpr h2;rw[c2];rfl
   ·rw[a1];by_cases h2:ab x=9223372036854775808
    ·have c2:(ab x==9223372036854775808)=true:=by rw[h2];rfl
     rw[c2,if_neg (by omega)];rfl
    ·have c2:(ab x==9223372036854775808)=false:=beq_eq_false_iff_ne.mpr h2;rw[c2,if_pos (by omega),a3,gA (n:=x) (by omega) (by omega)];rfl
 ·rw[if_neg h,if_neg (by rcases fB x with⟨c1,c2⟩|⟨c1,c2⟩<;>omega)];rfl
structure tF (c m r s u v w z:Int):Prop where
 r0:0<r
 s0:0≤s
 sr:s<r
 rm:r≤m
 er:r=u*c+w*m
 es:s=v*c+z*m
 det:ab u*s+ab v*r=m
 op:(u≤0∧0≤v)∨(0≤u∧v≤0)
 half:2*ab u≤m
theorem A5 {w m b:Int}(hm:0<m)(h:ab (w*m)≤b*m):ab w≤b:=by
 rw[qt,cD (show 0≤m by omega)]at h;exact Int.le_of_mul_le_mul_right h hm
theorem pe {c m r u w:Int}(hm:0<m)(r0:0≤r)(rm:r≤m)(er:r=u*c+w*m)(hu:ab u≤m):ab w≤1+ab c:=by
 refine A5 hm ?_;have e:w*m=r-u*c:=by omega
 rw[e];have h1:=oP r (u*c);rw[qt,cD r0]at h1;have h2:=iB hu (qB c);have e2:(1+ab c)*m=m+m*ab c:=by grind
 omega
theorem tF.vm {c m r s u v w z:Int}(h:tF c m r s u v w z):ab v≤m:=by
 have h1:=h.det;have h2:=hC (qB u) h.s0;have h3:=iA (show 1≤r by have:=h.r0;omega) (qB v);omega
theorem tF.m0 {c m r s u v w z:Int}(h:tF c m r s u v w z):0<m:=by have:=h.r0;have:=h.rm;omega
theorem tF.um {c m r s u v w z:Int}(h:tF c m r s u v w z):ab u≤m:=by
 have:=h.m0;have:=h.half;have:=qB u;omega
theorem tF.w1 {c m r s u v w z:Int}(h:tF c m r s u v w z):ab w≤1+ab c:=pe h.m0 (by have:=h.r0;omega) h.rm h.er h.um
theorem tF.z1 {c m r s u v w z:Int}(h:tF c m r s u v w z):ab z≤1+ab c:=pe h.m0 h.s0 (by have:=h.sr;have:=h.rm;omega) h.es h.vm
theorem tF.step {c m r s u v w z:Int}(h:tF c m r s u v w z)(hs:s≠0):tF c m s (r%s) v (u-r/s*v) z (w-r/s*z):=by
 have s0:0<s:=by have:=h.s0;omega
 have d1:=hE r s;have d2:=zE r hs;have d3:=aE r s0;have q0:0≤r/s:=eX (hB h.r0) h.s0;generalize r%s=t at*;generalize r/s=q at*;have ev:ab (u-q*v)=ab u+q*ab v∧((v≤0∧0≤u-q*v)∨(0≤v∧u-q*v≤0)):=by
  rcases h.op with⟨a,b⟩|⟨a,b⟩
  ·have hqv:=hC q0 b;have e1:ab v=v:=cD b;have e2:ab u= -u:=by rw[←nQ];exact cD (by omega)
   have e3:ab (u-q*v)= -(u-q*v):=by rw[←nQ];exact cD (by omega)
   rw[e1,e2,e3];exact⟨by omega,Or.inr ⟨b,by omega⟩⟩
  ·have hqv:=hC q0 (show 0≤ -v by omega);rw[j1]at hqv;have e1:ab v= -v:=by rw[←nQ];exact cD (by omega)
   have e2:ab u=u:=cD a;have e3:ab (u-q*v)=u-q*v:=cD (by omega);rw[e1,e2,e3,j1];exact⟨by omega,Or.inl ⟨b,by omega⟩⟩
 have hdet:=h.det;refine⟨s0,d2,d3,by have:=h.sr;have:=h.rm;omega,h.es,?_,?_,?_,?_⟩
 ·have e1:=h.er;have e2:=h.es;grind
 ·rw[ev.1];grind
 ·rcases ev.2 with⟨a,b⟩|⟨a,b⟩
  ·exact Or.inl ⟨a,b⟩
  ·exact Or.inr ⟨a,b⟩
 ·have hu:=hC (qB u) h.s0;have hr:2≤r:=by have:=h.sr;omega
  have h3:=iA hr (qB v);omega
theorem tF.first {c m:Int}(hm:0<m):tF c m m (c%m) 0 1 1 (-(c/m)):=by
 have d1:=hE c m;have d2:=zE c (show m≠0 by omega);have d3:=aE c hm;have e0:ab 0=0:=rfl;have e1:ab 1=1:=rfl;have e2:c/m*m=m*(c/m):=b8 _ _;refine⟨hm,d2,d3,en _,by omega,?_,by rw[e0,e1];omega,Or.inl ⟨by decide,by decide⟩,by rw[e0];omega⟩;rw[fo];omega
theorem tF.qv {c m r s u v w z:Int}(h:tF c m r s u v w z)(hs:s≠0):ab (r/s*v)≤2*m∧ab (r/s*z)≤2+2*ab c:=by
 have g:=h.step hs;have a1:=g.vm;have a2:=h.um;have a3:=g.z1;have a4:=h.w1;have e1:r/s*v=u- (u-r/s*v):=by omega
 have e2:r/s*z=w- (w-r/s*z):=by omega
 have b1:=oP u (u-r/s*v);have b2:=oP w (w-r/s*z);rw[←e1]at b1;rw[←e2]at b2;exact⟨by omega,by omega⟩
theorem tF.fall {c m r s u v w z:Int}(h:tF c m r s u v w z)(hs:s≠0):2*(s*(r%s))≤r*s:=by
 have s0:0<s:=by have:=h.s0;omega
 have d1:=hE r s;have d2:=zE r hs;have d3:=aE r s0;have h3:1≤r/s:=(ch s0).mpr (by have:=h.sr;omega);have h4:=iA h3 (hB s0);have h5:=iA (show 2*(r%s)≤r by omega) (hB s0);have e:s*(2*(r%s))=2*(s*(r%s)):=by grind
 have e2:s*r=r*s:=b8 _ _;omega
theorem tF.gcd {c m r s u v w z:Int}(h:tF c m r s u v w z)(hs:s≠0):cC s (r%s)=cC r s:=uY (hB h.r0) (by have:=h.s0;omega)
theorem vQ (N:Nat)(b:Bool)(l:List Int)(e:Int):Q31.f N b l e=some (b,l):=rfl
theorem eZ {N:Nat}(hN:1000000001<N){a q b:Int}(ha:Zr a)(hq:Zr q)(hb:Zr b)(h1:Zr (q*b))(h2:Zr (a-q*b)):Q32.f N (sg a) (pB a) (sg q) (pB q) (sg b) (pB b)=some (sg (a-q*b),pB (a-q*b)):=by
 unfold Q32.f;rw[Tt hN hq hb,qo h1];simp only[hA,vQ];rw[Ra hN ha h1,qo h2];rfl
theorem Cs {N:Nat}(hN:1000000001<N){R:Type}{c m:Int}(hc:2+2*ab c<K)(hm:2*m<K)(x9:Bool)(x10:List Int)(x11:Bool)(x12:List Int)(x13 x14:Bool)(K0:Bool→List Int→Bool→List Int→Bool→Bool→Bool→List Int→Bool→List Int→Option R):
  ∀(k n:Nat) (r s u v w z:Int),tF c m r s u v w z→r*s<2^k→k<n→∃u' w',u'*c+w'*m=cC r s∧2*ab u'≤m∧ab w'≤1+ab c∧
   Q33.l5 N n x9 x10 x11 x12 x13 x14 (sg s) (pB s) (sg r) (pB r) (sg u) (pB u) (sg v) (pB v) (sg w) (pB w) (sg z) (pB z) K0=K0 x9 x10 x11 x12 x13 x14 (sg u') (pB u') (sg w') (pB w'):=by
 intro k;induction k with
 |zero=>
  intro n r s u v w z h hk hn;obtain⟨n',rfl⟩:∃n',n=n'+1:=⟨n-1,by omega⟩
  have hs:s=0:=by
   rcases pC 0 s with h1|h1
   ·have:=b9 h.r0 h1;simp at hk;omega
   ·have:=h.s0;omega
  subst hs;refine⟨u,w,?_,h.half,h.w1,?_⟩
  ·rw[zR (hB h.r0)];exact h.er.symm
  ·rw[Q33.l5,jR A2];rfl
 |succ k ih=>
  intro n r s u v w z h hk hn;obtain⟨n',rfl⟩:∃n',n=n'+1:=⟨n-1,by omega⟩
  by_cases hs:s=0
  ·subst hs;refine⟨u,w,?_,h.half,h.w1,?_⟩
   ·rw[zR (hB h.r0)];exact h.er.symm
   ·rw[Q33.l5,jR A2];rfl
  ·have g:=h.step hs;have hr:Zr r:=tE (by rw[cD (hB h.r0)];have:=h.rm;have:=h.m0;omega);have hs':Zr s:=tE (by rw[cD h.s0];have:=h.rm;have:=h.sr;have:=h.m0;omega);have hm0:=h.m0;have zu:Zr u:=tE (by have:=h.um;omega);have zv:Zr v:=tE (by have:=h.vm;omega);have ac:=qB c;have zw:Zr w:=tE (by have:=h.w1;omega);have zz:Zr z:=tE (by have:=h.z1;omega);have zv':Zr (u-r/s*v):=tE (by have:=g.vm;omega);have zz':Zr (w-r/s*z):=tE (by have:=g.z1;omega);obtain⟨b1,b2⟩:=h.qv hs;have zqv:Zr (r/s*v):=tE (by omega);have zqz:Zr (r/s*z):=tE (by omega);obtain⟨q1,q2,q3⟩:=Mr hN hr hs' hs;have hp:(2:Int)^(k+1)=2*2^k:=by rw[cP];omega
   obtain⟨u',w',e1,e2,e3,e4⟩:=ih n' s (r%s) v (u-r/s*v) z (w-r/s*z) g (by have:=h.fall hs;omega) (by omega);refine⟨u',w',by rw[e1];exact h.gcd hs,e2,e3,?_⟩;rw[Q33.l5,jR hs'];simp only[hA];have c0:(sn s==0)=false:=by
    rcases lM s with⟨s1,s2⟩|⟨s1,s2⟩|⟨s1,s2⟩<;>rw[s2]
    ·exact absurd s1 hs
    ·rfl
    ·rfl
   rw[c0];simp only[cond_false];rw[q1];simp only[hA];rw[eZ hN zu q2 zv zqv zv'];simp only[hA];rw[eZ hN zw q2 zz zqz zz'];simp only[hA];exact e4
theorem Ae {N:Nat}(hN:1000000001<N){c m:Int}(hc:3*ab c+3<K)(hm:2*m<K)(m0:0<m):∃x y,x*c+y*m=cC m (c%m)∧0≤x∧x<m∧ab y≤1+2*ab c∧Q33.f N (sg c) (pB c) (sg m) (pB m)=some (sg x,pB x,sg y,pB y):=by
 have ac:=qB c;have zc:Zr c:=tE (by omega);have am:ab m=m:=cD (by omega);have zm:Zr m:=tE (by omega);have one:Zr 1:=T0 (by decide) (by decide);obtain⟨q1,q2,q3⟩:=Mr hN zc zm (by omega);have h:=tF.first (c:=c) m0;have big:m*(c%m)<2^8192:=by
  have h1:=h.s0;have h2:=h.sr;have k1:=iA (show c%m≤m by omega) (hB m0);have k2:=iA (show m≤K-1 by omega) (hB m0);have k3:=iB (show m≤K-1 by omega) (show 0≤K-1 by omega);have e:(2:Int)^8192=K*K:=by unfold K;rw[←c5]
  have k4:(K-1)*(K-1)<K*K:=by
   have:(K-1)*(K-1)=K*K-2*K+1:=by grind
   have:=Bz;omega
  omega
 unfold Q33.f;rw[q1,Tu hN (by decide) (by decide)];simp only[hA];rw[R9 q2];simp only[hA];obtain⟨u,w,e1,e2,e3,e4⟩:=Cs hN (c:=c) (m:=m) (by omega) hm (sg c) (pB c) (sg m) (pB m) false false (fun y41 y42 y43 y44 y45 y46 y47 y48 y49 y50=>
   (Q26.f N y47 y48).bind fun r51=>
   bif decide (r51<0)then
    (Q24.f N y47 y48 y43 y44).bind fun r52=>
    (Q31.f N r52.1 r52.2.1 r52.2.2).bind fun r53=>
    (Q28.f N y49 y50 y41 y42).bind fun r54=>
    (Q31.f N r54.1 r54.2.1 r54.2.2).bind fun r55=>
    some (r53.1,r53.2,r55.1,r55.2)
   else
   some (y47,y48,y49,y50)) 8192 N m (c%m) 0 1 1 (-(c/m)) h big (by omega)
 rw[yn,yf]at e4;rw[e4];have zu:Zr u:=tE (by omega);have zw:Zr w:=tE (by omega);rw[jR zu];simp only[hA];rw[Sg];by_cases hu:u<0
 ·have au:ab u= -u:=by unfold ab;rw[if_pos hu]
  have zum:Zr (u+m):=tE (by rw[cD (by omega)];omega);have k1:=oP w c;have zwc:Zr (w-c):=tE (by omega);refine⟨u+m,w-c,by rw[←e1];grind,by omega,by omega,by omega,?_⟩;rw[decide_eq_true hu];simp only[cond_true];rw[R8 hN zu zm,qo zum];simp only[hA,vQ];rw[Ra hN zw zc,qo zwc];rfl
 ·have au:ab u=u:=cD (by omega);refine⟨u,w,e1,by omega,by omega,by omega,?_⟩;rw[decide_eq_false hu];rfl
structure GT (a b g x y:Int):Prop where
 eg:g=cC a b
 sum:a*x+b*y=g
 bz:b=0→x=sn a∧y=0
 lo:b≠0→0≤x∧x<ab b/g
theorem ar (a:Int):(ab a).natAbs=a.natAbs:=by
 rcases fB a with⟨c1,c2⟩|⟨c1,c2⟩<;>rw[c2];omega
theorem ie (a b:Int):cC (ab a) (ab b)=cC a b:=by
 unfold cC Int.gcd;rw[ar,ar]
theorem iD (a b:Int):0≤cC a b:=by unfold cC;omega
theorem wC (a b:Int):cC a b∣a:=Int.gcd_dvd_left a b
theorem bC (a b:Int):cC a b∣b:=Int.gcd_dvd_right a b
theorem tY {a b:Int}(h:b≠0):0<cC a b:=by
 rcases pC 0 (cC a b)with h1|h1
 ·exact h1
 ·have h2:=iD a b;have h3:cC a b=0:=by omega
  have h4:=bC a b;rw[h3]at h4;exact absurd (dd.mp h4) h
theorem bO {d a:Int}(h:d∣a):d∣ab a:=by
 rcases fB a with⟨c1,c2⟩|⟨c1,c2⟩<;>rw[c2]
 ·exact h
 ·exact gy.mpr h
theorem xc {a b:Int}(h:b≠0):cC (ab b/cC a b) ((a/cC a b)%(ab b/cC a b))=1:=by
 have gp:=tY (a:=a) h;have h1:=wC a b;have h2:=bO (bC a b);have h2':=bC a b;obtain⟨m,hm⟩:=h2;obtain⟨c,hc⟩:=h1;have all:∀d,d∣a→d∣b→d∣cC a b:=fun d p q=>Int.dvd_coe_gcd p q;generalize cC a b=g at*;have e1:ab b/g=m:=by rw[hm];exact hQ _ (by omega)
 have e2:a/g=c:=by rw[hc];exact hQ _ (by omega)
 rw[e1,e2];have k1:=wC m (c%m);have k2:=bC m (c%m);have k3:=iD m (c%m);generalize cC m (c%m)=G at*;have k4:G∣c:=by have:=hE c m;rw[←this];exact bs (c6 k1 (h9 m _)) k2
 have k5:g*G∣a:=by rw[hc];exact ks g k4
 have k6:g*G∣b:=by
  have:g*G∣ab b:=by rw[hm];exact ks g k1
  rcases fB b with⟨c1,c2⟩|⟨c1,c2⟩<;>rw[c2]at this
  ·exact this
  ·exact gy.mp this
 have k7:=b7 gp (all _ k5 k6);by_cases hG:G=0
 ·subst hG;have k8:=all _ k5 k6;rw[q7]at k8;have:=dd.mp k8;omega
 ·by_cases hG1:G=1
  ·exact hG1
  ·have:=iA (show 2≤G by omega) (hB gp);omega
theorem M6 (y b:Int):b*sv (!(sg y==sg b)) (ab y)=y*ab b:=by
 rcases qE y with⟨a1,a2,a3⟩|⟨a1,a2,a3⟩<;>rcases qE b with⟨b1,b2,b3⟩|⟨b1,b2,b3⟩<;>rw[a1,b1,a3,b3]<;>unfold sv<;>simp[j1,fo,b8]
theorem GT.of {a b g c m x y:Int}(hb:b≠0)(hg:g=cC a b)(gp:0<g)(hc:a=g*c)(hm:ab b=g*m)(h1:x*c+y*m=1)(x0:0≤x)(x1:x<m):GT a b g x (sv (!(sg y==sg b)) (ab y)):=by
 refine⟨hg,?_,fun h=>absurd h hb,fun _=>⟨x0,?_⟩⟩
 ·rw[M6,hm,hc];have:g*c*x+y*(g*m)=g*(x*c+y*m):=by grind
  rw[this,h1];omega
 ·have:ab b/g=m:=by rw[hm];exact hQ _ (by omega)
  rw[this];exact x1
theorem GT.unique {a b g x y g' x' y':Int}(h:GT a b g x y)(k:GT a b g' x' y'):g=g'∧x=x'∧y=y':=by
 have e1:g=g':=by rw[h.eg,k.eg]
 subst e1;refine⟨rfl,?_⟩;by_cases hb:b=0
 ·obtain⟨p1,p2⟩:=h.bz hb;obtain⟨q1,q2⟩:=k.bz hb;exact⟨by rw[p1,q1],by rw[p2,q2]⟩
 ·obtain⟨p1,p2⟩:=h.lo hb;obtain⟨q1,q2⟩:=k.lo hb;have gp:=tY (a:=a) hb;rw[←h.eg]at gp;have hg1:g∣a:=by rw[h.eg];exact wC a b
  have hg2:g∣ab b:=by rw[h.eg];exact bO (bC a b)
  have hone:=xc (a:=a) hb;rw[←h.eg]at hone;have m1:=h.sum;have m2:=k.sum;obtain⟨m,hm⟩:=hg2;obtain⟨c,hc⟩:=hg1;have em:ab b/g=m:=by rw[hm];exact hQ _ (by omega)
  have ec:a/g=c:=by rw[hc];exact hQ _ (by omega)
  rw[em,ec]at hone;rw[em]at p2 q2;have hx:x=x':=by
   have s1:c*(x-x')=m*(c*(x-x')/m):=by
    have d:m∣c*(x-x'):=by
     have e2:a*(x-x')=b*(y'-y):=by grind
     have e3:∃t,b=ab b*t:=by
      rcases fB b with⟨c1,c2⟩|⟨c1,c2⟩
      ·exact⟨1,by rw[c2];omega⟩
      ·exact⟨-1,by rw[c2];omega⟩
     obtain⟨t,ht⟩:=e3;refine⟨t*(y'-y),?_⟩;have e4:g*(c*(x-x'))=g*(m*(t*(y'-y))):=by
      have:g*(c*(x-x'))=a*(x-x'):=by rw[hc];grind
      rw[this,e2,ht,hm];grind
     exact hL (by omega) e4
    exact(kt d).symm
   have d:m∣c*(x-x'):=⟨_,s1⟩
   have d2:m∣(c%m)*(x-x'):=by
    have e:=hE c m;have:(c%m)*(x-x')=c*(x-x')-m*(c/m*(x-x')):=by
     have:c%m=c-m*(c/m):=by omega
     rw[this];grind
    rw[this];exact Int.dvd_sub d (h9 m _)
   have d3:m∣x-x':=by
    have hcop:Int.gcd m (c%m)=1:=by unfold cC at hone;omega
    have d4:=ki.mpr d2;rw[Int.natAbs_mul]at d4;exact ki.mp (Nat.Coprime.dvd_of_dvd_mul_left hcop d4)
   rcases l9 x x' with hlt|heq|hgt
   ·have d4:m∣x'-x:=by
     have:x'-x= -(x-x'):=by omega
     rw[this];exact gy.mpr d3
    have:=b7 (by omega) d4;omega
   ·exact heq
   ·have:=b7 (by omega) d3;omega
  subst hx;refine⟨rfl,?_⟩;have:b*y=b*y':=by omega
  exact hL hb this
theorem Tf (x:Int):pB (ab x)=pB x:=by unfold pB;rw[Qd]
theorem pP (a:Int):cC a 0=ab a:=by
 rw[←ie];exact zR (qB a)
theorem GT.zero (a:Int):GT a 0 (ab a) (sn a) 0:=by
 refine⟨(pP a).symm,?_,fun _=>⟨rfl,rfl⟩,fun h=>absurd rfl h⟩;rcases lM a with⟨s1,s2⟩|⟨s1,s2⟩|⟨s1,s2⟩<;>rw[s2]
 ·rw[s1];decide
 ·unfold ab;rw[if_pos s1];omega
 ·rw[cD (by omega)];omega
theorem M3 (a:Int): -9223372036854775808≤sn a∧sn a<9223372036854775808:=by
 rcases lM a with⟨s1,s2⟩|⟨s1,s2⟩|⟨s1,s2⟩<;>rw[s2]<;>exact⟨by decide,by decide⟩
theorem Cw {g a:Int}(gp:0<g):ab (a/g)≤ab a+1∧ab (ab a/g)≤ab a:=by
 have d1:=hE a g;have d2:=zE a (show g≠0 by omega);have d3:=aE a gp;have a0:=qB a;constructor
 ·rcases fB (a/g)with⟨c1,c2⟩|⟨c1,c2⟩<;>rw[c2]
  ·have:=iB (show 1≤g by omega) c1;rcases fB a with⟨e1,e2⟩|⟨e1,e2⟩<;>omega
  ·have:=iB (show 1≤g by omega) (show 0≤ -(a/g)-1 by omega);have e:g*(-(a/g)-1)= -(g*(a/g))-g:=by grind
   rcases fB a with⟨e1,e2⟩|⟨e1,e2⟩<;>omega
 ·rw[cD (eX a0 (by omega))];exact da _ a0
theorem Uw {N:Nat}(hN:1000000001<N){a b:Int}(ha:3*ab a+6<K)(hb:2*ab b<K):∃g x y,GT a b g x y∧ab y≤3+2*ab a∧Q34.f N (sg a) (pB a) (sg b) (pB b)=some (pB g,sg x,pB x,sg y,pB y):=by
 have a0:=qB a;have b0:=qB b;have za:Zr a:=tE (by omega);have zb:Zr b:=tE (by omega);unfold Q34.f;rw[jR zb];simp only[hA];by_cases h:b=0
 ·subst h;obtain⟨k1,k2⟩:=M3 a;refine⟨ab a,sn a,0,GT.zero a,by have:ab 0=0:=rfl;omega,?_⟩;have c0:(sn 0==0)=true:=rfl;rw[c0];simp only[cond_true];rw[jR za];simp only[hA];rw[Tu hN k1 k2,Tf,yf,yn];rfl
 ·have c0:(sn b==0)=false:=by
   rcases lM b with⟨s1,s2⟩|⟨s1,s2⟩|⟨s1,s2⟩<;>rw[s2]
   ·exact absurd s1 h
   ·rfl
   ·rfl
  rw[c0];simp only[cond_false];have hg:=Ao hN za zb;rw[ie]at hg;have gr:=Nf za zb;rw[ie]at gr;have gp:=tY (a:=a) h;have h1:=wC a b;have h2:=bO (bC a b);have hone:=xc (a:=a) h;obtain⟨l1,l2⟩:=Cw (a:=a) gp;obtain⟨l3,l4⟩:=Cw (a:=b) gp;have hgg:cC a b=cC a b:=rfl;generalize hge:cC a b=g at*;have zg:Zr g:=tE (by rw[cD (by omega)];exact gr.hi);have em:=gw h1;have em2:=gw h2;obtain⟨m,hm⟩:=h2;obtain⟨c,hc⟩:=h1;have edm:ab b/g=m:=by rw[hm];exact hQ _ (by omega)
  have edc:a/g=c:=by have:g*c/g=c:=hQ _ (by omega);rw[←hc]at this;exact this
  have hbp:0<ab b:=by have:ab b≠0:=fun q=>h (yG.mp q);omega
  have mp:0<m:=by
   rcases pC 0 m with q|q
   ·exact q
   ·have:=hC (hB gp) (show 0≤ -m by omega);rw[j1]at this;omega
  unfold pB;rw[hg];simp only[hA];rw[uL _ gr];have e0:sv false g=g:=rfl;rw[e0];simp only[hA];have fold:∀z:Int,enc (4294967296:Int) (ab z)=pB z:=fun z=>rfl;simp only[fold];rw[A1 hN za zg (by omega),if_pos em];simp only[hA,vQ];rw[kz _ zb];have e1:sv false (ab b)=ab b:=rfl;rw[e1];simp only[hA];rw[A1 hN (Tw zb) zg (by omega),if_pos em2];simp only[hA];rw[edm,edc]at hone;rw[edc]at l1;rw[edm]at l4;rw[edm,edc];have abm:ab m=m:=cD (by omega);obtain⟨x,y,p1,p2,p3,p4,p5⟩:=Ae hN (c:=c) (m:=m) (by omega) (by omega) mp;rw[p5];simp only[hA];have zy:Zr y:=tE (by omega);rw[kz _ zy];have hgt:=GT.of h hge.symm gp hc hm (by rw[p1];exact hone) p2 p3;refine⟨g,x,_,hgt,by rw[we _ (qB y)];omega,?_⟩;have e3:enc (4294967296:Int) g=pB g:=by unfold pB;rw[cD (by omega)]
  rw[e3];rfl
def U8 (n:Int):Prop:= -9223372036854775808≤n∧n<9223372036854775808
def Bd (x X:Int):Prop:= -X≤x∧x≤X
theorem Bd.mul {x y X Y:Int}(hx:Bd x X)(hy:Bd y Y):Bd (x*y) (X*Y):=by
 obtain⟨h1,h2⟩:=hx;obtain⟨h3,h4⟩:=hy;have p1:=hC (show 0≤X-x by omega) (show 0≤Y-y by omega);have p2:=hC (show 0≤X+x by omega) (show 0≤Y+y by omega);have p3:=hC (show 0≤X-x by omega) (show 0≤Y+y by omega);have p4:=hC (show 0≤X+x by omega) (show 0≤Y-y by omega);have e1:(X-x)*(Y-y)+(X+x)*(Y+y)=2*(X*Y)+2*(x*y):=by grind
 have e2:(X-x)*(Y+y)+(X+x)*(Y-y)=2*(X*Y)-2*(x*y):=by grind
 unfold Bd;omega
theorem Bd.add {x y X Y:Int}(hx:Bd x X)(hy:Bd y Y):Bd (x+y) (X+Y):=by
 unfold Bd at*;omega
theorem U7:1000000000000000000000000000000000000000000000000000000000000<K:=by unfold K;decide+kernel
theorem bQ (n:Int):aA n=Int.bmod n 18446744073709551616:=by
 simp only[aA,IntKind.wrap];simp[IntKind.bits,IntKind.signed,Int.bmod];omega
theorem fX (x y:Int):aA (aA x+y)=aA (x+y):=by simp only[bQ,Int.bmod_add_bmod]
theorem kx (x y:Int):aA (x+aA y)=aA (x+y):=by simp only[bQ,Int.add_bmod_bmod]
theorem Pv (x y:Int):aA (aA x-y)=aA (x-y):=by simp only[bQ,Int.bmod_sub_bmod]
theorem zr (x y:Int):aA (x-aA y)=aA (x-y):=by simp only[bQ,Int.sub_bmod_bmod]
theorem zq (x y:Int):aA (aA x*y)=aA (x*y):=by simp only[bQ,Int.bmod_mul_bmod]
theorem ky (x y:Int):aA (x*aA y)=aA (x*y):=by simp only[bQ,Int.mul_bmod_bmod]
theorem V2 (x:Int):aA (aA x)=aA x:=by have:=fX x 0;rwa[c7,c7]at this
theorem Bd.le {x X Y:Int}(h:Bd x X)(hx:X≤Y):Bd x Y:=by unfold Bd at*;omega
theorem Bd.neg {x X:Int}(h:Bd x X):Bd (-x) X:=by unfold Bd at*;omega
theorem Bd.w {x X:Int}(h:Bd x X)(hX:X<9223372036854775808):aA x=x:=by unfold Bd at h;exact gA (by omega) (by omega)
def tA (a b c p r:Int):Int:=a*p*p+b*p*r+c*r*r
def tB (a b c p q r s:Int):Int:=2*a*p*q+b*p*s+b*q*r+2*c*r*s
theorem pH (a b c p q r s t u v w x y:Int):
  tA (tA a b c p r) (tB a b c p q r s) (tA a b c q s) t v=tA a b c (p*t+q*v) (r*t+s*v)∧
  tB (tA a b c p r) (tB a b c p q r s) (tA a b c q s) t u v w=tB a b c (p*t+q*v) (p*u+q*w) (r*t+s*v) (r*u+s*w)∧
  tA a b c p r*x*x+tB a b c p q r s*x*y+tA a b c q s*y*y=a*(p*x+q*y)*(p*x+q*y)+b*(p*x+q*y)*(r*x+s*y)+c*(r*x+s*y)*(r*x+s*y):=by
 unfold tA tB;refine⟨?_,?_,?_⟩<;>grind
end Go.Proofs.YteaakcmkpacpaaaGreat.NatL
namespace Go.Proofs.YteaakcmkpacpaaaGreat.Pure
open Go Go.Proofs.YteaakcmkpacpaaaGreat.Ev
theorem gA {n:Int}(h1: -9223372036854775808≤n)(h2:n<9223372036854775808):aA n=n:=by
 simp only[aA,IntKind.wrap];simp[IntKind.bits,IntKind.signed];omega
structure pL (a b c:Int):Prop where
 a0:0<a
 a1:a≤2147483648
 b0: -2147483648≤b
 b1:b≤2147483648
 c0:0<c
 c1:c≤2147483648
 d0:b*b-4*a*c<0
 d1: -4294967296≤b*b-4*a*c
theorem fl {x y:Int}(hy:0<y):(Int.tmod x y<0→x/y=Int.tdiv x y-1∧x%y=Int.tmod x y+y)∧(¬Int.tmod x y<0→x/y=Int.tdiv x y∧x%y=Int.tmod x y):=by
 have h1:=Int.mul_tdiv_add_tmod x y;have h2:=Int.tmod_lt_of_pos x hy;have h3:=Int.lt_tmod_of_pos x hy;refine⟨fun h=>(p7 hy).mpr ⟨?_,by omega,by omega⟩,fun h=>(p7 hy).mpr ⟨by omega,by omega,by omega⟩⟩;rw[Int.mul_sub,eo];omega
theorem pL.shift {a b c:Int}(h:pL a b c):pL a (b+2*((a-b)/(2*a))*a) ((a*((a-b)/(2*a))+b)*((a-b)/(2*a))+c)∧ -a<b+2*((a-b)/(2*a))*a∧b+2*((a-b)/(2*a))*a≤a:=by
 have h1:=hE (a-b) (2*a);have h2:=zE (a-b) (b:=2*a) (by have:=h.a0;omega);have h3:=aE (a-b) (b:=2*a) (by have:=h.a0;omega);generalize(a-b)/(2*a)=k at*;generalize(a-b)%(2*a)=r at*;have e:b+2*k*a=a-r:=by
  have:2*a*k=2*k*a:=by grind
  omega
 have hd:(b+2*k*a)*(b+2*k*a)-4*a*((a*k+b)*k+c)=b*b-4*a*c:=by grind
 rw[e]at hd⊢;obtain⟨a0,a1,b0,b1,c0,c1,d0,d1⟩:=h;have hsq:(a-r)*(a-r)≤a*a:=by
  have p1:0≤r*(2*a-r):=hC h2 (by omega);have p2:(a-r)*(a-r)+r*(2*a-r)=a*a:=by grind
  omega
 have hsq0:0≤(a-r)*(a-r):=by
  rcases aq 0 (a-r)with h|h
  ·exact hC h h
  ·have:=hC (show(0:Int)≤ -(a-r) by omega) (show(0:Int)≤ -(a-r) by omega);have e2: -(a-r)* -(a-r)=(a-r)*(a-r):=by grind
   omega
 generalize(a*k+b)*k+c=c' at*;have hpos:0<c':=by
  rcases pC 0 c' with h|h
  ·exact h
  ·exfalso;have:=hC (show(0:Int)≤4*a by omega) (show(0:Int)≤ -c' by omega);have e2:4*a* -c'= -(4*a*c'):=by grind
   omega
 have hle:c'≤2147483648:=by
  rcases pC 2147483648 c' with h|h
  ·exfalso;have p1:=iA (show(2147483649:Int)≤c' by omega) (show(0:Int)≤4*a by omega);have p2:=iA a1 (show(0:Int)≤a by omega);have e3:a*2147483648=2147483648*a:=by grind
   have e4:4*a*2147483649=8589934596*a:=by grind
   omega
  ·exact h
 exact⟨⟨a0,a1,by omega,by omega,hpos,hle,by omega,by omega⟩,by omega,by omega⟩
theorem pL.swap {a b c:Int}(h:pL a b c):pL c (-b) a:=by
 obtain⟨a0,a1,b0,b1,c0,c1,d0,d1⟩:=h;have e: -b* -b-4*c*a=b*b-4*a*c:=by grind
 exact⟨c0,c1,by omega,by omega,a0,a1,by omega,by omega⟩
theorem iy {a b:Int}(a0:0<a)(a1:a≤2147483648)(b0: -2147483648≤b)(b1:b≤2147483648): -4294967296≤(a-b)/(2*a)∧(a-b)/(2*a)≤4294967296∧ -8589934592≤a*((a-b)/(2*a))∧a*((a-b)/(2*a))≤8589934592:=by
 have h1:=hE (a-b) (2*a);have h2:=zE (a-b) (b:=2*a) (by omega);have h3:=aE (a-b) (b:=2*a) (by omega);generalize(a-b)/(2*a)=k at*;generalize(a-b)%(2*a)=r at*;have e:2*a*k=2*(a*k):=by grind
 have hk: -8589934592≤a*k∧a*k≤8589934592:=by omega
 refine⟨?_,?_,hk.1,hk.2⟩
 ·rcases pC k (-4294967296)with h|h
  ·exfalso;have p:=iB (show(1:Int)≤a by omega) (show(0:Int)≤ -k by omega);have e2:a* -k= -(a*k):=by grind
   omega
  ·exact h
 ·rcases pC 4294967296 k with h|h
  ·exfalso;have p:=iB (show(1:Int)≤a by omega) (show(0:Int)≤k by omega);omega
  ·exact h
def kk (a b:Int):Int:=(a-b)/(2*a)
def sB (a b:Int):Int:=b+2*kk a b*a
def sC (a b c:Int):Int:=(a*kk a b+b)*kk a b+c
def qK (a b:Int):Prop:= -a<b∧b≤a
def gC (a b c:Int):Prop:=c<a∨(a=c∧b<0)
instance (a b:Int):Decidable (qK a b):=inferInstanceAs (Decidable (_∧_))
instance (a b c:Int):Decidable (gC a b c):=inferInstanceAs (Decidable (_∨_))
theorem Nl {a b c:Int}(h:pL a b c):aA (Int.tdiv (aA (a-b)) (aA (2*a)))=Int.tdiv (a-b) (2*a)∧Int.tmod (aA (a-b)) (aA (2*a))=Int.tmod (a-b) (2*a)∧
  (Int.tmod (a-b) (2*a)<0→aA (Int.tdiv (a-b) (2*a)-1)=kk a b)∧(¬Int.tmod (a-b) (2*a)<0→Int.tdiv (a-b) (2*a)=kk a b):=by
 obtain⟨a0,a1,b0,b1,_⟩:=h;have hf:=fl (x:=a-b) (y:=2*a) (by omega);obtain⟨k1,k2,_⟩:=iy a0 a1 b0 b1;have e1:aA (a-b)=a-b:=gA (by omega) (by omega);have e2:aA (2*a)=2*a:=gA (by omega) (by omega);rw[e1,e2];have hb: -4294967297≤Int.tdiv (a-b) (2*a)∧Int.tdiv (a-b) (2*a)≤4294967298:=by
  by_cases hm:Int.tmod (a-b) (2*a)<0
  ·have:=(hf.1 hm).1;omega
  ·have:=(hf.2 hm).1;omega
 refine⟨gA (by omega) (by omega),rfl,fun hm=>?_,fun hm=>?_⟩
 ·have:=(hf.1 hm).1;rw[gA (by omega) (by omega)];unfold kk;omega
 ·have:=(hf.2 hm).1;unfold kk;omega
theorem ym {a b c:Int}(h:pL a b c):aA (b+aA (aA (2*kk a b)*a))=sB a b∧aA (aA (aA (aA (a*kk a b)+b)*kk a b)+c)=sC a b c:=by
 obtain⟨hg,hb1,hb2⟩:=h.shift;obtain⟨a0,a1,b0,b1,c0,c1,d0,d1⟩:=h;obtain⟨k1,k2,k3,k4⟩:=iy a0 a1 b0 b1;obtain⟨_,_,_,_,g1,g2,_,_⟩:=hg;unfold sB sC kk;generalize(a-b)/(2*a)=k at*;have e:2*k*a=2*(a*k):=by grind
 refine⟨?_,?_⟩
 ·rw[gA (n:=2*k) (by omega) (by omega),gA (n:=2*k*a) (by omega) (by omega),gA (by omega) (by omega)]
 ·rw[gA (n:=a*k) (by omega) (by omega),gA (n:=a*k+b) (by omega) (by omega),gA (n:=(a*k+b)*k) (by omega) (by omega),gA (by omega) (by omega)]
theorem jH (N:Nat){a b c:Int}(h:pL a b c)(p q r s:Int):Q39.f N a b c p q r s=
  if qK a b then(if gC a b c then some (true,c, -b,a,q,aA (0-p),s,aA (0-r))else some (false,a,b,c,p,q,r,s))
  else some (true,a,sB a b,sC a b c,p,aA (aA (kk a b*p)+q),r,aA (aA (kk a b*r)+s)):=by
 obtain⟨m1,m2,m3,m4⟩:=Nl h;obtain⟨s1,s2⟩:=ym h;have e0:aA (0-a)= -a:=by obtain⟨a0,a1,_⟩:=h;rw[gA (by omega) (by omega)];omega
 have e1:aA (0-b)= -b:=by obtain⟨_,_,b0,b1,_⟩:=h;rw[gA (by omega) (by omega)];omega
 have e2:(aA (2*a)==0)=false:=by obtain⟨a0,a1,_⟩:=h;rw[gA (by omega) (by omega)];simp;omega
 unfold Q39.f;simp only[e0,e1,e2,m1,m2,p8,cond_true];by_cases hr:qK a b
 ·rw[if_pos hr];obtain⟨r1,r2⟩:=hr;have c1:decide (b≤ -a)=false:=by simp;omega
  have c2:decide (b>a)=false:=by simp;omega
  simp only[c1,c2,cond_false];unfold gC;by_cases h1:a>c
  ·simp[h1]
  ·by_cases h2:a=c
   ·subst h2;by_cases h3:b<0<;>simp[h3]
   ·have h3:(a==c)=false:=by simpa using h2
    simp[h1,h2,h3]
 ·rw[if_neg hr];unfold qK at hr;by_cases hm:Int.tmod (a-b) (2*a)<0
  ·simp only[hm,m3 hm,decide_true,cond_true,s1,s2];by_cases h1:b≤ -a
   ·simp[h1]
   ·have:b>a:=by omega
    simp[h1,this]
  ·simp only[hm,m4 hm,decide_false,cond_false,s1,s2];by_cases h1:b≤ -a
   ·simp[h1]
   ·have:b>a:=by omega
    simp[h1,this]
theorem mz (N:Nat){a b c:Int}(h:pL a b c):Q90.f N (aA (a-b)) (aA (2*a))=some (kk a b):=by
 obtain⟨a0,a1,b0,b1,_⟩:=h;have hf:=fl (x:=a-b) (y:=2*a) (by omega);obtain⟨k1,k2,_⟩:=iy a0 a1 b0 b1;have e1:aA (a-b)=a-b:=gA (by omega) (by omega);have e2:aA (2*a)=2*a:=gA (by omega) (by omega);have hne:(2*a==0)=false:=by simp;omega
 have h1:=hE (a-b) (2*a);have h2:=zE (a-b) (b:=2*a) (by omega);have h3:=aE (a-b) (b:=2*a) (by omega);have hdiv:Int.tdiv (2*a*((a-b)/(2*a))) (2*a)=(a-b)/(2*a):=r8 _ (by omega);unfold Q90.f Q84.f;rw[e1,e2];simp only[hne,p8,cond_true];by_cases hm:Int.tmod (a-b) (2*a)<0
 ·have q:=(hf.1 hm).2;simp only[hm,decide_true,cond_true,←q,hA];rw[gA (n:=(a-b)%(2*a)) (by omega) (by omega),gA (n:=a-b- (a-b)%(2*a)) (by omega) (by omega)];have e:a-b- (a-b)%(2*a)=2*a*((a-b)/(2*a)):=by omega
  rw[e,hdiv,gA (by omega) (by omega)];rfl
 ·have q:=(hf.2 hm).2;have hm':¬(a-b)%(2*a)<0:=by omega
  rw[←q];simp only[hm',decide_false,cond_false,hA];rw[gA (n:=a-b- (a-b)%(2*a)) (by omega) (by omega)];have e:a-b- (a-b)%(2*a)=2*a*((a-b)/(2*a)):=by omega
  rw[e,hdiv,gA (by omega) (by omega)];rfl
theorem aZ (N:Nat){a b c:Int}(h:pL a b c):Q89.f N a b c=some (decide (qK a b∧¬gC a b c)):=by
 have e0:aA (0-a)= -a:=by obtain⟨a0,a1,_⟩:=h;rw[gA (by omega) (by omega)];omega
 have main:∃x,Q89.f N a b c=some x∧(x=true↔(qK a b∧¬gC a b c)):=by
  unfold Q89.f qK gC;rw[e0];by_cases h1: -a<b
  ·by_cases h2:b≤a
   ·by_cases h3:a≤c
    ·by_cases h4:b≥0
     ·exact⟨true,by simp[h1,h2,h3,h4],fun _=>⟨⟨h1,h2⟩,by rintro(h|⟨h,h'⟩)<;>omega⟩,fun _=>rfl⟩
     ·refine⟨a != c,by simp[h1,h2,h3,h4],fun h=>⟨⟨h1,h2⟩,?_⟩,fun h=>?_⟩
      ·simp at h;rintro(h'|⟨h',h''⟩)<;>omega
      ·have:=h.2;simp;intro e;exact this (.inr ⟨e,by omega⟩)
    ·exact⟨false,by simp[h1,h2,h3],fun h=>by simp at h,fun h=>(h.2 (.inl (by omega))).elim⟩
   ·exact⟨false,by simp[h1,h2],fun h=>by simp at h,fun h=>(h2 h.1.2).elim⟩
  ·exact⟨false,by simp[h1],fun h=>by simp at h,fun h=>(h1 h.1.1).elim⟩
 obtain⟨x,h1,h2⟩:=main;rw[h1];by_cases hp:qK a b∧¬gC a b c
 ·simp[hp,h2.mpr hp]
 ·simp only[hp,decide_false];cases x<;>simp_all
def mu (a b c:Int):Int:=4*a+(if qK a b then(if a=c∧b<0 then 1 else 0)else 3)
theorem oz {a b c:Int}(h:pL a b c)(hr:¬qK a b):mu a (sB a b) (sC a b c)<mu a b c:=by
 have hs:qK a (sB a b):=h.shift.2;unfold mu;rw[if_pos hs,if_neg hr];split<;>omega
theorem xx {a b c:Int}(h:pL a b c)(hr:qK a b)(hs:gC a b c):mu c (-b) a<mu a b c:=by
 unfold mu;rw[if_pos hr];obtain⟨a0,a1,b0,b1,c0,c1,_⟩:=h;rcases hs with hs|⟨hs,hb⟩
 ·have:(if qK c (-b)then(if c=a∧ -b<0 then 1 else 0)else 3:Int)≤3:=by split<;>(try split)<;>omega
  have h2:(0:Int)≤(if a=c∧b<0 then 1 else 0):=by split<;>omega
  omega
 ·subst hs;have h2:qK a (-b):=by unfold qK at*;omega
  rw[if_pos h2,if_neg (show ¬(a=a∧ -b<0) by omega),if_pos ⟨rfl,hb⟩];omega
theorem je {a b c:Int}(h:pL a b c):0<mu a b c∧mu a b c≤8589934600:=by
 unfold mu;have:=h.a0;have:=h.a1;split<;>(try split)<;>omega
theorem ju (N M:Nat):∀(n:Nat) (a b c p q r s:Int),pL a b c→mu a b c<n→∃a' b' c' p' q' r' s',pL a' b' c'∧qK a' b'∧¬gC a' b' c'∧b'*b'-4*a'*c'=b*b-4*a*c∧
  (∀{R:Type} x1 x2 x3 x4 x5 x6 x7 (K:Int→Int→Int→Int→Int→Int→Int→Int→Int→Int→Int→Int→Int→Int→Option R),Q40.l6 N n x1 x2 x3 x4 x5 x6 x7 a b c p q r s K=K x1 x2 x3 x4 x5 x6 x7 a' b' c' p' q' r' s')∧
  (∀{R:Type} x1 x2 x3 x4 x5 x6 x7 (K:Int→Int→Int→Int→Int→Int→Int→Int→Int→Int→Int→Int→Int→Int→Option R),Q91.l5 M n a b c x1 x2 x3 x4 x5 x6 x7 p q r s K=K a' b' c' x1 x2 x3 x4 x5 x6 x7 p' q' r' s'):=by
 intro n;induction n with
 |zero=>intro a b c p q r s h hm;have:=(je h).1;omega
 |succ n ih=>
  intro a b c p q r s h hm;have e0:aA (0-a)= -a:=by obtain⟨a0,a1,_⟩:=h;rw[gA (by omega) (by omega)];omega
  have e1:aA (0-b)= -b:=by obtain⟨_,_,b0,b1,_⟩:=h;rw[gA (by omega) (by omega)];omega
  by_cases hr:qK a b
  ·by_cases hs:gC a b c
   ·have hlt:=xx h hr hs;obtain⟨a',b',c',p',q',r',s',g1,g2,g3,g4,g5,g6⟩:=ih c (-b) a q (aA (0-p)) s (aA (0-r)) h.swap (by omega);refine⟨a',b',c',p',q',r',s',g1,g2,g3,?_,fun x1 x2 x3 x4 x5 x6 x7 K=>?_,fun x1 x2 x3 x4 x5 x6 x7 K=>?_⟩
    ·rw[g4];grind
    ·rw[Q40.l6,jH N h,if_pos hr,if_pos hs];exact g5 _ _ _ _ _ _ _ K
    ·rw[Q91.l5,aZ M h];have hc1:decide (qK a b∧¬gC a b c)=false:=by simp[hs]
     have hc2:decide (-a≥b)=false:=by unfold qK at hr;simp;omega
     have hc3:decide (b>a)=false:=by unfold qK at hr;simp;omega
     simp only[hA,hc1,e0,e1,hc2,hc3,p8,cond_true,cond_false];exact g6 _ _ _ _ _ _ _ K
   ·refine⟨a,b,c,p,q,r,s,h,hr,hs,rfl,fun x1 x2 x3 x4 x5 x6 x7 K=>?_,fun x1 x2 x3 x4 x5 x6 x7 K=>?_⟩
    ·rw[Q40.l6,jH N h,if_pos hr,if_neg hs];rfl
    ·rw[Q91.l5,aZ M h];have hc1:decide (qK a b∧¬gC a b c)=true:=by simp[hs,hr]
     simp only[hA,hc1,cx,cond_false]
  ·have hlt:=oz h hr;have hd:sB a b*sB a b-4*a*sC a b c=b*b-4*a*c:=by unfold sB sC;grind
   obtain⟨s1,s2⟩:=ym h;obtain⟨a',b',c',p',q',r',s',g1,g2,g3,g4,g5,g6⟩:=ih a (sB a b) (sC a b c) p (aA (aA (kk a b*p)+q)) r (aA (aA (kk a b*r)+s)) h.shift.1 (by omega);refine⟨a',b',c',p',q',r',s',g1,g2,g3,by rw[g4,hd],fun x1 x2 x3 x4 x5 x6 x7 K=>?_,fun x1 x2 x3 x4 x5 x6 x7 K=>?_⟩
   ·rw[Q40.l6,jH N h,if_neg hr];exact g5 _ _ _ _ _ _ _ K
   ·rw[Q91.l5,aZ M h];have hc1:decide (qK a b∧¬gC a b c)=false:=by simp[hr]
    simp only[hA,hc1,e0,p8,cond_true,mz M h,s1,s2];by_cases h1: -a≥b
    ·simp only[h1,decide_true,cond_true];exact g6 _ _ _ _ _ _ _ K
    ·have h2:b>a:=by unfold qK at hr;omega
     simp only[h1,h2,decide_true,cond_true,decide_false,cond_false];exact g6 _ _ _ _ _ _ _ K
def ik (a b c:Int):Prop:=(-1073741824≤a∧a≤1073741824)∧(-1073741824≤b∧b≤1073741824)∧(-1073741824≤c∧c≤1073741824)
instance (a b c:Int):Decidable (ik a b c):=inferInstanceAs (Decidable (_∧_))
theorem qJ (N:Nat)(a b c:Int):Q36.f N a b c=some (decide (ik a b c)):=by
 unfold Q36.f E6 Qr;have key:∀{x:Bool} {p:Prop} [Decidable p],(x=true↔p)→x=decide p:=fun{x p _} hp=>by
  by_cases h:p
  ·simp[h,hp.mpr h]
  ·simp only[h,decide_false];cases x<;>simp_all
 cases hc:decide ((if c>(if b>a then b else a)then c else(if b>a then b else a))≤1073741824)
 ·simp only[cond_false,Option.some.injEq];have hc:=of_decide_eq_false hc;refine key ⟨fun h=>by simp at h,fun h=>?_⟩;unfold ik at h;exfalso;split at hc<;>split at hc<;>omega
 ·simp only[cond_true,Option.some.injEq];have hc:=of_decide_eq_true hc;refine key ⟨fun h=>?_,fun h=>?_⟩
  ·have h:=of_decide_eq_true h;unfold ik;split at hc<;>split at hc<;>split at h<;>split at h<;>omega
  ·unfold ik at h;refine decide_eq_true ?_;split<;>split<;>omega
theorem ns (N:Nat)(a b c:Int):Q86.f N a b c=some (decide (ik a b c)):=by
 unfold Q86.f Q85.f ik;by_cases h1:a≥ -1073741824<;>by_cases h2:a≤1073741824<;>by_cases h3:b≥ -1073741824<;>by_cases h4:b≤1073741824<;>by_cases h5:c≥ -1073741824<;>by_cases h6:c≤1073741824<;>simp[h1,h2,h3,h4,h5,h6]
theorem cH (N:Nat)(a b c:Int):Q37.f N a b c=some (if ik a b c then aA (aA (b*b)-aA (aA (4*a)*c))else 0)∧Q87.f N a b c=some (if ik a b c then aA (aA (b*b)-aA (aA (4*a)*c))else 0):=by
 unfold Q37.f Q87.f;rw[qJ,ns];by_cases h:ik a b c<;>simp[h]
theorem iU {x y X Y:Int}(h1: -X≤x)(h2:x≤X)(h3: -Y≤y)(h4:y≤Y): -(X*Y)≤x*y∧x*y≤X*Y:=by
 have p1:=hC (show 0≤X-x by omega) (show 0≤Y-y by omega);have p2:=hC (show 0≤X+x by omega) (show 0≤Y+y by omega);have p3:=hC (show 0≤X-x by omega) (show 0≤Y+y by omega);have p4:=hC (show 0≤X+x by omega) (show 0≤Y-y by omega);have e1:(X-x)*(Y-y)+(X+x)*(Y+y)=2*(X*Y)+2*(x*y):=by grind
 have e2:(X-x)*(Y+y)+(X+x)*(Y-y)=2*(X*Y)-2*(x*y):=by grind
 omega
theorem yM {a b c:Int}(h:ik a b c):aA (aA (b*b)-aA (aA (4*a)*c))=b*b-4*a*c:=by
 obtain⟨⟨a0,a1⟩,⟨b0,b1⟩,c0,c1⟩:=h;have m1:=iU (X:=1073741824) (Y:=1073741824) b0 b1 b0 b1;have m2:=iU (x:=4*a) (X:=4294967296) (Y:=1073741824) (by omega) (by omega) c0 c1;have k1:(1073741824:Int)*1073741824=1152921504606846976:=by decide
 have k2:(4294967296:Int)*1073741824=4611686018427387904:=by decide
 rw[gA (n:=b*b) (by omega) (by omega),gA (n:=4*a) (by omega) (by omega),gA (n:=4*a*c) (by omega) (by omega),gA (by omega) (by omega)]
theorem gV (N:Nat)(a b c:Int):∃e,Q38.f N a b c=some e∧Q88.f N a b c=some e∧(e=0→pL a b c):=by
 unfold Q38.f Q88.f;rw[(cH N a b c).1,(cH N a b c).2,qJ,ns];by_cases h:ik a b c
 ·have hd:=yM h;simp only[h,decide_true,if_true,hA,cx,cond_false,hd];by_cases h1:a≤0
  ·exact⟨81,by simp[h1],by simp[h1],by intro e;cases e⟩
  ·by_cases h2:b*b-4*a*c≥0
   ·exact⟨81,by simp only[h1,h2,decide_true,decide_false,cond_true,cond_false],by simp only[h1,h2,decide_true,decide_false,cond_true,cond_false],by intro e;cases e⟩
   ·by_cases h3:b*b-4*a*c< -4294967296
    ·exact⟨80,by simp only[h1,h2,h3,decide_true,decide_false,cond_true,cond_false],by simp only[h1,h2,h3,decide_true,decide_false,cond_true,cond_false],by intro e;cases e⟩
    ·refine⟨0,by simp only[h1,h2,h3,decide_true,decide_false,cond_true,cond_false],by simp only[h1,h2,h3,decide_true,decide_false,cond_true,cond_false],fun _=>?_⟩;obtain⟨⟨a0,a1⟩,⟨b0,b1⟩,c0,c1⟩:=h;have hsq:0≤b*b:=by
      rcases aq 0 b with h|h
      ·exact hC h h
      ·have:=hC (show(0:Int)≤ -b by omega) (show(0:Int)≤ -b by omega);have e2: -b* -b=b*b:=by grind
       omega
     have hc:0<c:=by
      rcases pC 0 c with h|h
      ·exact h
      ·exfalso;have:=hC (show(0:Int)≤4*a by omega) (show(0:Int)≤ -c by omega);have e2:4*a* -c= -(4*a*c):=by grind
       omega
     exact⟨by omega,by omega,by omega,by omega,hc,by omega,by omega,by omega⟩
 ·exact⟨3,by simp[h],by simp[h],by intro e;cases e⟩
theorem uS {N:Nat}(hN:8589934600<N)(a b c:Int):∃a' b' c' p q r s e,Q40.f N a b c=some (a',b',c',p,q,r,s,e)∧Q91.f N a b c=some (a',b',c',p,q,r,s,e)∧
  (e=0→pL a' b' c'∧qK a' b'∧¬gC a' b' c'):=by
 obtain⟨e,h1,h2,h3⟩:=gV N a b c;unfold Q40.f Q91.f;rw[h1,h2];by_cases he:e=0
 ·subst he;have hg:=h3 rfl;obtain⟨a',b',c',p,q,r,s,g1,g2,g3,g4,g5,g6⟩:=ju N N N a b c 1 0 0 1 hg (by have:=(je hg).2;omega);refine⟨a',b',c',p,q,r,s,0,?_,?_,fun _=>⟨g1,g2,g3⟩⟩
  ·simp only[hA,bne_self_eq_false,cond_false];exact g5 _ _ _ _ _ _ _ _
  ·simp only[hA,bne_self_eq_false,cond_false];exact g6 _ _ _ _ _ _ _ _
 ·have:(e != 0)=true:=by simpa using he
  exact⟨0,0,0,0,0,0,0,e,by simp[this],by simp[this],fun h=>absurd h he⟩
open Go.Proofs.YteaakcmkpacpaaaGreat.NatL (tA tB pH U8 Bd fX kx Pv zr zq ky V2)
def z8 (a b c a' b' c':Int):Prop:=∃t u v w:Int,t*w-u*v=1∧a'=tA a b c t v∧b'=tB a b c t u v w∧c'=tA a b c u w
theorem z8.trans {a b c a' b' c' a'' b'' c'':Int}(h:z8 a b c a' b' c')(k:z8 a' b' c' a'' b'' c''):z8 a b c a'' b'' c'':=by
 obtain⟨p,q,r,s,hd,rfl,rfl,rfl⟩:=h;obtain⟨t,u,v,w,kd,rfl,rfl,rfl⟩:=k;obtain⟨k1,k2,_⟩:=pH a b c p q r s t u v w 0 0;obtain⟨k3,_,_⟩:=pH a b c p q r s u u w w 0 0;exact⟨p*t+q*v,p*u+q*w,r*t+s*v,r*u+s*w,by grind,k1,k2,k3⟩
theorem z8.symm {a b c a' b' c':Int}(h:z8 a b c a' b' c'):z8 a' b' c' a b c:=by
 obtain⟨p,q,r,s,hd,rfl,rfl,rfl⟩:=h;refine⟨s, -q, -r,p,by grind,?_,?_,?_⟩
 ·rw[(pH a b c p q r s s (-q) (-r) p 0 0).1];have e1:p*s+q* -r=1:=by grind
  have e2:r*s+s* -r=0:=by grind
  rw[e1,e2];unfold tA;grind
 ·rw[(pH a b c p q r s s (-q) (-r) p 0 0).2.1];have e1:p*s+q* -r=1:=by grind
  have e2:r*s+s* -r=0:=by grind
  have e3:p* -q+q*p=0:=by grind
  have e4:r* -q+s*p=1:=by grind
  rw[e1,e2,e3,e4];unfold tB;grind
 ·rw[(pH a b c p q r s (-q) (-q) p p 0 0).1];have e3:p* -q+q*p=0:=by grind
  have e4:r* -q+s*p=1:=by grind
  rw[e3,e4];unfold tA;grind
theorem z8.disc {a b c a' b' c':Int}(h:z8 a b c a' b' c'):b'*b'-4*a'*c'=b*b-4*a*c:=by
 obtain⟨t,u,v,w,hd,rfl,rfl,rfl⟩:=h;have e:tB a b c t u v w*tB a b c t u v w-4*tA a b c t v*tA a b c u w=(b*b-4*a*c)*((t*w-u*v)*(t*w-u*v)):=by unfold tA tB;grind
 rw[e,hd];grind
theorem uE (x:Int):0≤x*x:=by
 rcases aq 0 x with h|h
 ·exact hC h h
 ·have:=hC (show(0:Int)≤ -x by omega) (show(0:Int)≤ -x by omega);have e2: -x* -x=x*x:=by grind
  omega
theorem M9 {a b c x y:Int}(a0:0<a)(h1: -a≤b)(h2:b≤a)(h3:a≤c):3*(x*x)≤4*tA a b c x y∧3*(y*y)≤4*tA a b c x y:=by
 have hb:0≤(a-b)*(a+b):=hC (by omega) (by omega);have hac:0≤a*(c-a):=hC (by omega) (by omega);have hx:=uE x;have hy:=uE y;have i1:4*a*tA a b c x y-3*a*c*(y*y)=(2*a*x+b*y)*(2*a*x+b*y)+((a-b)*(a+b))*(y*y)+(a*(c-a))*(y*y):=by unfold tA;grind
 have i2:4*c*tA a b c x y-3*a*c*(x*x)=(2*c*y+b*x)*(2*c*y+b*x)+((a-b)*(a+b))*(x*x)+(a*(c-a))*(x*x):=by unfold tA;grind
 have p1:=uE (2*a*x+b*y);have p2:=uE (2*c*y+b*x);have p3:=hC hb hy;have p4:=hC hb hx;have p5:=hC hac hy;have p6:=hC hac hx;have f1:a*(4*tA a b c x y-3*(c*(y*y)))=4*a*tA a b c x y-3*a*c*(y*y):=by grind
 have f2:c*(4*tA a b c x y-3*(a*(x*x)))=4*c*tA a b c x y-3*a*c*(x*x):=by grind
 have g1:0≤4*tA a b c x y-3*(c*(y*y)):=by
  rcases pC (4*tA a b c x y-3*(c*(y*y))) 0 with h|h
  ·have:=b9 a0 (show 0< -(4*tA a b c x y-3*(c*(y*y))) by omega);have e:a* -(4*tA a b c x y-3*(c*(y*y)))= -(a*(4*tA a b c x y-3*(c*(y*y)))):=by grind
   omega
  ·exact h
 have g2:0≤4*tA a b c x y-3*(a*(x*x)):=by
  rcases pC (4*tA a b c x y-3*(a*(x*x))) 0 with h|h
  ·have:=b9 (show 0<c by omega) (show 0< -(4*tA a b c x y-3*(a*(x*x))) by omega);have e:c* -(4*tA a b c x y-3*(a*(x*x)))= -(c*(4*tA a b c x y-3*(a*(x*x)))):=by grind
   omega
  ·exact h
 have k1:=iB (show(1:Int)≤a by omega) hx;have k2:=iB (show(1:Int)≤c by omega) hy;omega
theorem yt {x:Int}(h:3*(x*x)≤4294967296): -65536≤x∧x≤65536:=by
 constructor
 ·rcases pC x (-65536)with g|g
  ·exfalso;have:=ei (show(65537:Int)≤ -x by omega) (show(65537:Int)≤ -x by omega) (by decide) (by omega);have e: -x* -x=x*x:=by grind
   omega
  ·exact g
 ·rcases pC 65536 x with g|g
  ·exfalso;have:=ei (show(65537:Int)≤x by omega) (show(65537:Int)≤x by omega) (by decide) (by omega);omega
  ·exact g
theorem qi {x y:Int}(hx:0<x)(h:x*y=1):x=1∧y=1:=by
 have hy:0<y:=by
  rcases pC 0 y with g|g
  ·exact g
  ·have:=hC (hB hx) (show 0≤ -y by omega);have e:x* -y= -(x*y):=by grind
   omega
 have h1:=iA (show 1≤y by omega) (hB hx);have h2:=iB (show 1≤x by omega) (hB hy);omega
theorem Ps {x y:Int}(h:x*y=1):(x=1∧y=1)∨(x= -1∧y= -1):=by
 rcases l9 x 0 with g|g|g
 ·have:=qi (x:= -x) (y:= -y) (by omega) (by grind);omega
 ·subst g;simp at h
 ·have:=qi g h;omega
theorem n5 {a b c a' b' c':Int}(a0:0<a)(r1:qK a b)(r2:¬gC a b c)(s1:qK a' b')(s2:¬gC a' b' c')(h:z8 a b c a' b' c')(hle:a'≤a):a'=a∧b'=b∧c'=c:=by
 obtain⟨t,u,v,w,hd,ha,hb,hc⟩:=h;unfold qK gC at*;have hac:a≤c:=by omega
 have unit:∀{x y:Int},x*y=1→(x=1∧y=1)∨(x= -1∧y= -1):=fun h=>Ps h;by_cases hv:v=0
 ·subst hv;have htw:t*w=1:=by omega
  rcases unit htw with⟨rfl,rfl⟩|⟨rfl,rfl⟩
  ·have e1:a'=a:=by rw[ha];unfold tA;grind
   have e2:b'=2*(a*u)+b:=by rw[hb];unfold tB;grind
   have hu:u=0:=by
    rcases l9 u 0 with h|h|h
    ·have:=iA (show u≤ -1 by omega) (hB a0);omega
    ·exact h
    ·have:=iA (show 1≤u by omega) (hB a0);omega
   subst hu;exact⟨e1,by omega,by rw[hc];unfold tA;grind⟩
  ·have e1:a'=a:=by rw[ha];unfold tA;grind
   have e2:b'=2*(a* -u)+b:=by rw[hb];unfold tB;grind
   have hu:u=0:=by
    rcases l9 u 0 with h|h|h
    ·have:=iA (show 1≤ -u by omega) (hB a0);omega
    ·exact h
    ·have:=iA (show-u≤ -1 by omega) (hB a0);omega
   subst hu;exact⟨e1,by omega,by rw[hc];unfold tA;grind⟩
 ·by_cases ht:t=0
  ·subst ht;have huv:u* -v=1:=by grind
   have e1:a'=c:=by
    rcases unit huv with⟨rfl,h⟩|⟨rfl,h⟩
    ·obtain rfl:v= -1:=by omega
     rw[ha];unfold tA;grind
    ·obtain rfl:v=1:=by omega
     rw[ha];unfold tA;grind
   have eca:c=a:=by omega
   have hb0:0≤b:=by omega
   subst eca;have e2:b'=2*(c*(v*w))-b:=by rw[hb];unfold tB;grind
   have hvw:v*w=0∨v*w=1:=by
    rcases pC (v*w) 0 with h|h
    ·have:=iA (show v*w≤ -1 by omega) (hB a0);omega
    ·rcases pC 1 (v*w)with g|g
     ·have:=iA (show 2≤v*w by omega) (hB a0);omega
     ·omega
   rcases hvw with h0|h0
   ·have hw:w=0:=by rcases j0.mp h0 with h|h;exact absurd h hv;exact h
    subst hw;rw[h0]at e2;have e3:c'=c:=by rcases unit huv with⟨rfl,h⟩|⟨rfl,h⟩<;>(rw[hc];unfold tA;grind)
    have e4:b'= -b:=by omega
    have:¬b'<0:=fun h=>s2 (.inr ⟨by omega,h⟩);exact⟨e1,by omega,e3⟩
   ·rw[h0]at e2;have e4:b=c∧b'=c:=by omega
    have e3:c'=c:=by
     rcases unit h0 with⟨rfl,rfl⟩|⟨rfl,rfl⟩
     ·obtain rfl:u= -1:=by omega
      rw[hc,e4.1];unfold tA;grind
     ·obtain rfl:u=1:=by omega
      rw[hc,e4.1];unfold tA;grind
    exact⟨e1,by omega,e3⟩
  ·have hq:t*v≠0:=fun e=>by rcases j0.mp e with e|e;exact ht e;exact hv e
   have n1:=hC (show 0≤c-a by omega) (uE v);rcases pC 0 (t*v)with hp|hp
   ·exfalso;have n2:=hC (hB a0) (uE (t-v));have n3:=hC (show 0≤b+a-1 by omega) (hB hp);have n4:=hC (hB a0) (show 0≤t*v-1 by omega);have e:tA a b c t v=a*((t-v)*(t-v))+(c-a)*(v*v)+(b+a-1)*(t*v)+a*(t*v-1)+a+t*v:=by unfold tA;grind
    omega
   ·have n2:=hC (hB a0) (uE (t+v));have n3:=hC (show 0≤a-b by omega) (show 0≤ -(t*v) by omega);have n4:=hC (hB a0) (show 0≤ -(t*v)-1 by omega);have e:tA a b c t v=a*((t+v)*(t+v))+(c-a)*(v*v)+(a-b)* -(t*v)+a*(-(t*v)-1)+a:=by unfold tA;grind
    have z2:a*((t+v)*(t+v))=0:=by omega
    have z1:(c-a)*(v*v)=0:=by omega
    have z3:(a-b)* -(t*v)=0:=by omega
    have z4:a*(-(t*v)-1)=0:=by omega
    have y4: -(t*v)=1:=by rcases j0.mp z4 with h|h<;>omega
    have y2:t+v=0:=by
     rcases j0.mp z2 with h|h
     ·omega
     ·rcases j0.mp h with h|h<;>exact h
    have y1:c=a:=by
     rcases j0.mp z1 with h|h
     ·omega
     ·rcases j0.mp h with h|h<;>exact absurd h hv
    have y3:b=a:=by rcases j0.mp z3 with h|h<;>omega
    subst y1 y3;have e1:a'=b:=by omega
    have hvt:v= -t:=by omega
    subst hvt;have htt:t*t=1:=by grind
    rcases unit htt with⟨rfl,_⟩|⟨rfl,_⟩
    ·obtain rfl:w=1-u:=by omega
     have e2:b'=b*(2*u-1):=by rw[hb];unfold tB;grind
     have hu:u=1:=by
      rcases pC u 1 with h|h
      ·have:=iA (show 2*u-1≤ -1 by omega) (hB a0);omega
      ·rcases pC 1 u with g|g
       ·have:=iA (show 3≤2*u-1 by omega) (hB a0);omega
       ·omega
     subst hu;exact⟨e1,by omega,by rw[hc];unfold tA;grind⟩
    ·obtain rfl:w= -1-u:=by omega
     have e2:b'=b*(-1-2*u):=by rw[hb];unfold tB;grind
     have hu:u= -1:=by
      rcases pC (-1) u with h|h
      ·have:=iA (show-1-2*u≤ -1 by omega) (hB a0);omega
      ·rcases pC u (-1)with g|g
       ·have:=iA (show 3≤ -1-2*u by omega) (hB a0);omega
       ·omega
     subst hu;exact⟨e1,by omega,by rw[hc];unfold tA;grind⟩
theorem pj {a b c a' b' c':Int}(a0:0<a)(b0:0<a')(r1:qK a b)(r2:¬gC a b c)(s1:qK a' b')(s2:¬gC a' b' c')(h:z8 a b c a' b' c'):a'=a∧b'=b∧c'=c:=by
 rcases aq a' a with hle|hle
 ·exact n5 a0 r1 r2 s1 s2 h hle
 ·obtain⟨h1,h2,h3⟩:=n5 b0 s1 s2 r1 r2 h.symm hle;exact⟨h1.symm,h2.symm,h3.symm⟩
theorem ph (N:Nat):∀(n:Nat) (a b c:Int),pL a b c→mu a b c<n→∃a' b' c' t u v w:Int,t*w-u*v=1∧a'=tA a b c t v∧b'=tB a b c t u v w∧c'=tA a b c u w∧pL a' b' c'∧qK a' b'∧¬gC a' b' c'∧
  (∀{R:Type} x1 x2 x3 x4 x5 x6 x7 (P Q R' S:Int) (K:Int→Int→Int→Int→Int→Int→Int→Int→Int→Int→Int→Int→Int→Int→Option R),Q40.l6 N n x1 x2 x3 x4 x5 x6 x7 a b c (aA P) (aA Q) (aA R') (aA S) K=
   K x1 x2 x3 x4 x5 x6 x7 a' b' c' (aA (P*t+Q*v)) (aA (P*u+Q*w)) (aA (R'*t+S*v)) (aA (R'*u+S*w))):=by
 intro n;induction n with
 |zero=>intro a b c h hm;have:=(je h).1;omega
 |succ n ih=>
  intro a b c h hm;by_cases hr:qK a b
  ·by_cases hs:gC a b c
   ·have hlt:=xx h hr hs;obtain⟨a',b',c',t,u,v,w,hd,g1,g2,g3,g4,g5,g6,g7⟩:=ih c (-b) a h.swap (by omega);refine⟨a',b',c', -v, -w,t,u,by grind,?_,?_,?_,g4,g5,g6,fun x1 x2 x3 x4 x5 x6 x7 P Q R' S K=>?_⟩
    ·rw[g1];unfold tA;grind
    ·rw[g2];unfold tB;grind
    ·rw[g3];unfold tA;grind
    ·rw[Q40.l6,jH N h,if_pos hr,if_pos hs];simp only[hA,cond_true,zr];simp only[Int.zero_sub];rw[g7];have e1:Q*t+ -P*v=P* -v+Q*t:=by grind
     have e2:Q*u+ -P*w=P* -w+Q*u:=by grind
     have e3:S*t+ -R'*v=R'* -v+S*t:=by grind
     have e4:S*u+ -R'*w=R'* -w+S*u:=by grind
     rw[e1,e2,e3,e4]
   ·refine⟨a,b,c,1,0,0,1,by decide,by unfold tA;grind,by unfold tB;grind,by unfold tA;grind,h,hr,hs,fun x1 x2 x3 x4 x5 x6 x7 P Q R' S K=>?_⟩;rw[Q40.l6,jH N h,if_pos hr,if_neg hs];simp only[hA,cond_false,eo,q7,c7,x8]
  ·have hlt:=oz h hr;obtain⟨a',b',c',t,u,v,w,hd,g1,g2,g3,g4,g5,g6,g7⟩:=ih a (sB a b) (sC a b c) h.shift.1 (by omega);refine⟨a',b',c',t+kk a b*v,u+kk a b*w,v,w,by grind,?_,?_,?_,g4,g5,g6,fun x1 x2 x3 x4 x5 x6 x7 P Q R' S K=>?_⟩
   ·rw[g1];unfold tA sB sC;grind
   ·rw[g2];unfold tB sB sC;grind
   ·rw[g3];unfold tA sB sC;grind
   ·rw[Q40.l6,jH N h,if_neg hr];simp only[hA,cond_true,ky,fX,kx];rw[g7];have e1:P*t+(kk a b*P+Q)*v=P*(t+kk a b*v)+Q*v:=by grind
    have e2:P*u+(kk a b*P+Q)*w=P*(u+kk a b*w)+Q*w:=by grind
    have e3:R'*t+(kk a b*R'+S)*v=R'*(t+kk a b*v)+S*v:=by grind
    have e4:R'*u+(kk a b*R'+S)*w=R'*(u+kk a b*w)+S*w:=by grind
    rw[e1,e2,e3,e4]
structure fJ (a b c:Int):Prop where
 inb:ik a b c
 pos:0<a
 d0:b*b-4*a*c<0
 d1: -4294967296≤b*b-4*a*c
theorem fJ.good {a b c:Int}(h:fJ a b c):pL a b c:=by
 obtain⟨⟨⟨a0,a1⟩,⟨b0,b1⟩,c0,c1⟩,a2,d0,d1⟩:=h;have hsq:=uE b;have hc:0<c:=by
  rcases pC 0 c with h|h
  ·exact h
  ·exfalso;have:=hC (show(0:Int)≤4*a by omega) (show(0:Int)≤ -c by omega);have e2:4*a* -c= -(4*a*c):=by grind
   omega
 exact⟨by omega,by omega,by omega,by omega,hc,by omega,by omega,by omega⟩
theorem zF (N:Nat)(a b c:Int):(fJ a b c∧Q38.f N a b c=some 0)∨(¬fJ a b c∧∃e,e≠0∧Q38.f N a b c=some e):=by
 unfold Q38.f;rw[(cH N a b c).1,qJ];by_cases h:ik a b c
 ·have hd:=yM h;simp only[h,decide_true,if_true,hA,cx,cond_false,hd];by_cases h1:a≤0
  ·exact .inr ⟨fun f=>by have:=f.pos;omega,81,by decide,by simp[h1]⟩
  ·by_cases h2:b*b-4*a*c≥0
   ·exact .inr ⟨fun f=>by have:=f.d0;omega,81,by decide,by simp only[h1,h2,decide_true,decide_false,cond_true,cond_false]⟩
   ·by_cases h3:b*b-4*a*c< -4294967296
    ·exact .inr ⟨fun f=>by have:=f.d1;omega,80,by decide,by simp only[h1,h2,h3,decide_true,decide_false,cond_true,cond_false]⟩
    ·exact .inl ⟨⟨h,by omega,by omega,by omega⟩,by simp only[h1,h2,h3,decide_true,decide_false,cond_true,cond_false]⟩
 ·exact .inr ⟨fun f=>h f.inb,3,by decide,by simp[h]⟩
theorem oH {N:Nat}(hN:8589934600<N){a b c:Int}(h:fJ a b c):∃a' b' c' t u v w:Int,t*w-u*v=1∧a'=tA a b c t v∧b'=tB a b c t u v w∧c'=tA a b c u w∧fJ a' b' c'∧qK a' b'∧¬gC a' b' c'∧
  Bd t 65536∧Bd u 65536∧Bd v 65536∧Bd w 65536∧Q40.f N a b c=some (a',b',c',t,u,v,w,0):=by
 have hg:=h.good;obtain⟨a',b',c',t,u,v,w,hd,g1,g2,g3,g4,g5,g6,g7⟩:=ph N N a b c hg (by have:=(je hg).2;omega);have he:z8 a b c a' b' c':=⟨t,u,v,w,hd,g1,g2,g3⟩
 have hdisc:=he.disc;have hr:=g5;unfold qK at hr;have hs:=g6;unfold gC at hs;have hca:a'≤c':=by omega
 have ba:tA a' b' c' w (-v)=a:=by
  rw[g1,g2,g3,(pH a b c t u v w w (-u) (-v) t 0 0).1];have e1:t*w+u* -v=1:=by grind
  have e2:v*w+w* -v=0:=by grind
  rw[e1,e2];unfold tA;grind
 have bc:tA a' b' c' (-u) t=c:=by
  rw[g1,g2,g3,(pH a b c t u v w (-u) (-u) t t 0 0).1];have e1:t* -u+u*t=0:=by grind
  have e2:v* -u+w*t=1:=by grind
  rw[e1,e2];unfold tA;grind
 obtain⟨⟨⟨i0,i1⟩,⟨i2,i3⟩,i4,i5⟩,_⟩:=id h;obtain⟨l1,l2⟩:=M9 (x:=w) (y:= -v) g4.a0 (by omega) hr.2 hca;obtain⟨l3,l4⟩:=M9 (x:= -u) (y:=t) g4.a0 (by omega) hr.2 hca;rw[ba]at l1 l2;rw[bc]at l3 l4;have e5: -v* -v=v*v:=by grind
 have e6: -u* -u=u*u:=by grind
 have bw:=yt (x:=w) (by omega);have bv:=yt (x:=v) (by omega);have bu:=yt (x:=u) (by omega);have bt:=yt (x:=t) (by omega);have d4:=g4.d0;have d5:=g4.d1;have hb':b'*b'≤a'*c':=by
  have p1:=hC (show 0≤a'-b' by omega) (show 0≤a'+b' by omega);have e:(a'-b')*(a'+b')=a'*a'-b'*b':=by grind
  have p2:=iA hca (hB g4.a0);omega
 have hac:3*(a'*c')≤4294967296:=by
  have e:4*a'*c'=4*(a'*c'):=by grind
  omega
 have hsq:=uE b';have k1:=iB (show(1:Int)≤a' by have:=g4.a0;omega) (show 0≤c' by have:=g4.c0;omega);have fin':fJ a' b' c':=by
  refine⟨?_,g4.a0,d4,d5⟩;have hc1:c'≤1073741824:=by
   have q1:=uE (a'-b');rcases pC 1 a' with h|h
   ·have:=iB (show(2:Int)≤a' by omega) (show 0≤c' by have:=g4.c0;omega);omega
   ·obtain rfl:a'=1:=by have:=g4.a0;omega
    have:b'=0∨b'=1:=by omega
    rcases this with rfl|rfl<;>omega
  have hc0:=g4.c0;have ha0:=g4.a0;unfold ik;refine⟨⟨by omega,by omega⟩,⟨by omega,by omega⟩,by omega,hc1⟩
 refine⟨a',b',c',t,u,v,w,hd,g1,g2,g3,fin',g5,g6,bt,bu,bv,bw,?_⟩;have hck:Q38.f N a b c=some 0:=by
  rcases zF N a b c with⟨_,h2⟩|⟨h2,_⟩
  ·exact h2
  ·exact absurd h h2
 unfold Q40.f;rw[hck];have e0:((0:Int) != 0)=false:=rfl;simp only[hA,e0,cond_false];have h1:aA 1=1:=by decide
 have h0:aA 0=0:=by decide
 have:=fun x1 x2 x3 x4 x5 x6 x7=>@g7 (Int×Int×Int×Int×Int×Int×Int×Int) x1 x2 x3 x4 x5 x6 x7 1 0 0 1;simp only[h1,h0,fp,dk,c7,x8]at this;rw[this];have wb:∀{x:Int},Bd x 65536→aA x=x:=fun h=>NatL.Bd.w h (by decide);rw[wb bt,wb bu,wb bv,wb bw]
theorem j5 {N:Nat}{a b c:Int}(h:¬fJ a b c):∃e,e≠0∧Q38.f N a b c=some e∧Q40.f N a b c=some (0,0,0,0,0,0,0,e):=by
 rcases zF N a b c with⟨h2,_⟩|⟨_,e,he,h2⟩
 ·exact absurd h2 h
 ·refine⟨e,he,h2,?_⟩;unfold Q40.f;rw[h2];have:(e != 0)=true:=by simpa using he
  simp[this]
theorem jt {N:Nat}(hN:8589934600<N){a b c:Int}(h:fJ a b c)(hr:qK a b)(hs:¬gC a b c):Q40.f N a b c=some (a,b,c,1,0,0,1,0):=by
 have hck:Q38.f N a b c=some 0:=by
  rcases zF N a b c with⟨_,h2⟩|⟨h2,_⟩
  ·exact h2
  ·exact absurd h h2
 unfold Q40.f;rw[hck];have e0:((0:Int) != 0)=false:=rfl;simp only[hA,e0,cond_false];obtain⟨n,rfl⟩:∃m,N=m+1:=⟨N-1,by omega⟩
 rw[Q40.l6,jH (n+1) h.good,if_pos hr,if_neg hs];rfl
open Go.Proofs.YteaakcmkpacpaaaGreat.NatL (ab fB qB cD yG GT cC iD wC bC bO pP sg sn pB Zr sA xI yP tC U8)
theorem sY {N:Nat}(hN:1000000001<N){a b:Int}(ha:ab a≤1099511627776)(hb:ab b≤1099511627776):∃g x y,GT a b g x y∧0≤g∧g≤1099511627776∧Q35.f N a b=some (g,x,y):=by
 have hK:=NatL.Qa;have hH:=NatL.U7;have a0:=qB a;have b0:=qB b;obtain⟨g,x,y,h1,h2,h3⟩:=NatL.Uw hN (a:=a) (b:=b) (by omega) (by omega);have g0:=iD a b;have gle:cC a b≤1099511627776:=by
  by_cases h:b=0
  ·subst h;rw[pP];exact ha
  ·have:=b7 (by have:ab b≠0:=fun q=>h (yG.mp q);omega) (bO (bC a b));omega
 rw[←h1.eg]at g0 gle;have gz:Zr g:=NatL.tE (by rw[cD g0];omega);have bx: -9223372036854775808≤x∧x<9223372036854775808:=by
  by_cases hy:b=0
  ·obtain⟨k1,k2⟩:=h1.bz hy;rw[k1];exact NatL.M3 a
  ·obtain⟨k1,k2⟩:=h1.lo hy;have:=da g b0;omega
 have by': -9223372036854775808≤y∧y<9223372036854775808:=by rcases fB y with⟨c1,c2⟩|⟨c1,c2⟩<;>omega
 have zx:Zr x:=NatL.T0 bx.1 bx.2;have zy:Zr y:=NatL.T0 by'.1 by'.2;have wa: -9223372036854775808≤a∧a<9223372036854775808:=by rcases fB a with⟨c1,c2⟩|⟨c1,c2⟩<;>omega
 have wb: -9223372036854775808≤b∧b<9223372036854775808:=by rcases fB b with⟨c1,c2⟩|⟨c1,c2⟩<;>omega
 have c1:decide (E6 a b>4611686018427387904)=false:=by refine decide_eq_false ?_;unfold E6;rcases fB a with⟨c1,c2⟩|⟨c1,c2⟩<;>rcases fB b with⟨c3,c4⟩|⟨c3,c4⟩<;>split<;>omega
 have c2:decide (Qr a b< -4611686018427387904)=false:=by refine decide_eq_false ?_;unfold Qr;rcases fB a with⟨c1,c2⟩|⟨c1,c2⟩<;>rcases fB b with⟨c3,c4⟩|⟨c3,c4⟩<;>split<;>omega
 refine⟨g,x,y,h1,g0,gle,?_⟩;unfold Q35.f;rw[c1,c2];simp only[cond_false];rw[NatL.Tu hN wa.1 wa.2];simp only[hA];rw[NatL.Tu hN wb.1 wb.2];simp only[hA];rw[h3];simp only[hA];rw[NatL.kz false gz,cD g0];have sf:NatL.sv false g=g:=rfl;rw[sf];simp only[hA];rw[NatL.U5 gz,if_pos (by omega),NatL.U5 zx,if_pos bx,NatL.U5 zy,if_pos by'];rfl
theorem qI {N:Nat}(hN:1000000001<N){a b c:Int}(h:ik a b c):Q41.f N a b c=some (cC (cC a b) c):=by
 have ha:ab a≤1073741824:=by obtain⟨h1,_⟩:=h;rcases fB a with⟨c1,c2⟩|⟨c1,c2⟩<;>omega
 have hb:ab b≤1073741824:=by obtain⟨_,h1,_⟩:=h;rcases fB b with⟨c1,c2⟩|⟨c1,c2⟩<;>omega
 have hc:ab c≤1073741824:=by obtain⟨_,_,h1⟩:=h;rcases fB c with⟨c1,c2⟩|⟨c1,c2⟩<;>omega
 obtain⟨g,x,y,h1,h2,h3,h4⟩:=sY hN (a:=a) (b:=b) (by omega) (by omega);obtain⟨g',x',y',h5,h6,h7,h8⟩:=sY hN (a:=g) (b:=c) (by rw[cD h2];omega) (by omega);unfold Q41.f;rw[qJ,decide_eq_true h];simp only[hA,cx,cond_false];rw[h4];simp only[hA];rw[h8,h5.eg,h1.eg];rfl
end Go.Proofs.YteaakcmkpacpaaaGreat.Pure
namespace Go.Proofs.YteaakcmkpacpaaaGreat.Mod
structure E where
 re:Int
 im:Int
theorem E.ext' {x y:E}(h1:x.re=y.re)(h2:x.im=y.im):x=y:=by cases x;cases y;simp_all
def ad (x y:E):E:=⟨x.re+y.re,x.im+y.im⟩
def ng (x:E):E:=⟨-x.re, -x.im⟩
def ze:E:=⟨0,0⟩
def sm (n:Int)(x:E):E:=⟨n*x.re,n*x.im⟩
def cj (s:Int)(x:E):E:=⟨x.re+s*x.im, -x.im⟩
def ml (s m:Int)(x y:E):E:=⟨x.re*y.re+m*(x.im*y.im),x.re*y.im+x.im*y.re+s*(x.im*y.im)⟩
def nm (s m:Int)(x:E):Int:=x.re*x.re+s*(x.re*x.im)-m*(x.im*x.im)
theorem bL (s m:Int)(x y:E):ml s m x y=ml s m y x:=E.ext' (by simp only[ml];grind) (by simp only[ml];grind)
theorem rO (s m:Int)(x y z:E):ml s m (ml s m x y) z=ml s m x (ml s m y z):=E.ext' (by simp only[ml];grind) (by simp only[ml];grind)
theorem dr (s m:Int)(x y z:E):ml s m x (ad y z)=ad (ml s m x y) (ml s m x z):=E.ext' (by simp only[ml,ad];grind) (by simp only[ml,ad];grind)
theorem ow (s m:Int)(x y:E):ml s m x (ng y)=ng (ml s m x y):=E.ext' (by simp only[ml,ng];grind) (by simp only[ml,ng];grind)
theorem xv (s m:Int)(x:E):ml s m x ze=ze:=E.ext' (by simp only[ml,ze];grind) (by simp only[ml,ze];grind)
theorem Qq (s m n:Int)(x y:E):ml s m x (sm n y)=sm n (ml s m x y):=E.ext' (by simp only[ml,sm];grind) (by simp only[ml,sm];grind)
theorem Eb (s m:Int)(x y:E):nm s m (ml s m x y)=nm s m x*nm s m y:=by simp only[nm,ml];grind
theorem R4 (x:Int):0≤x*x:=by
 rcases aq 0 x with h|h
 ·exact hC h h
 ·exact Int.mul_nonneg_of_nonpos_of_nonpos h h
theorem R5 {x:Int}(h:x≠0):0<x*x:=by
 have:=R4 x;have:x*x≠0:=fun e=>by rcases j0.mp e with e|e<;>exact h e
 omega
theorem ji {s m:Int}(hd:s*s+4*m<0){x:E}(h:x≠ze):0<nm s m x:=by
 have e:4*nm s m x=(2*x.re+s*x.im)*(2*x.re+s*x.im)+ -(s*s+4*m)*(x.im*x.im):=by simp only[nm];grind
 have h1:=R4 (2*x.re+s*x.im);by_cases hi:x.im=0
 ·have hr:x.re≠0:=fun q=>h (E.ext' q hi);have:=R5 (x:=2*x.re+s*x.im) (by rw[hi];omega);rw[hi]at e this;omega
 ·have h2:=b9 (show 0< -(s*s+4*m) by omega) (R5 hi);omega
theorem Nv (s m:Int):nm s m ze=0:=by simp only[nm,ze];grind
theorem Dx {s m:Int}(hd:s*s+4*m<0){x y:E}(hx:x≠ze)(hy:y≠ze):ml s m x y≠ze:=fun h=>by
 have h1:=b9 (ji hd hx) (ji hd hy);rw[←Eb,h,Nv]at h1;omega
theorem xu {s m:Int}(hd:s*s+4*m<0){x y z:E}(hx:x≠ze)(h:ml s m x y=ml s m x z):y=z:=by
 have e:ml s m x (ad y (ng z))=ze:=by rw[dr,ow,h];exact E.ext' (by simp only[ad,ng,ze];omega) (by simp only[ad,ng,ze];omega)
 by_cases hw:ad y (ng z)=ze
 ·have h1:=congrArg E.re hw;have h2:=congrArg E.im hw;simp only[ad,ng,ze]at h1 h2;exact E.ext' (by omega) (by omega)
 ·exact absurd e (Dx hd hx hw)
inductive Sp (S:E→Prop):E→Prop
 |zero:Sp S ze
 |mem {x:E}:S x→Sp S x
 |add {x y:E}:Sp S x→Sp S y→Sp S (ad x y)
 |neg {x:E}:Sp S x→Sp S (ng x)
theorem Se (n:Int)(x:E):sm (-n) x=ng (sm n x):=E.ext' (by simp only[sm,ng];grind) (by simp only[sm,ng];grind)
theorem Sp.smul {S:E→Prop}{x:E}(h:Sp S x)(n:Int):Sp S (sm n x):=by
 have nat:∀k:Nat,Sp S (sm (k:Int) x):=by
  intro k;induction k with
  |zero=>have e:sm ((0:Nat):Int) x=ze:=E.ext' (by simp[sm,ze]) (by simp[sm,ze]);rw[e];exact Sp.zero
  |succ k ih=>have e:sm ((k+1:Nat):Int) x=ad (sm (k:Int) x) x:=E.ext' (by simp only[sm,ad];grind) (by simp only[sm,ad];grind);rw[e];exact Sp.add ih h
 rcases aq 0 n with h0|h0
 ·obtain⟨k,rfl⟩:=o2 h0;exact nat k
 ·obtain⟨k,hk⟩:=o2 (show 0≤ -n by omega);have e:n= -(k:Int):=by omega
  rw[e,Se];exact Sp.neg (nat k)
theorem Sp.mono {S T:E→Prop}(h:∀x,S x→Sp T x){x:E}(hx:Sp S x):Sp T x:=by
 induction hx with
 |zero=>exact Sp.zero
 |mem hx=>exact h _ hx
 |add _ _ a b=>exact Sp.add a b
 |neg _ a=>exact Sp.neg a
def PM (s m:Int)(M L:E→Prop):E→Prop:=Sp (fun z=>∃x y,M x∧L y∧z=ml s m x y)
theorem PM.comm {s m:Int}{M L:E→Prop}{z:E}(h:PM s m M L z):PM s m L M z:=
 Sp.mono (fun z ⟨x,y,hx,hy,e⟩=>Sp.mem ⟨y,x,hy,hx,by rw[e,bL]⟩) h
theorem PM.mono {s m:Int}{M M' L L':E→Prop}(h1:∀x,M x→M' x)(h2:∀x,L x→L' x){z:E}(h:PM s m M L z):PM s m M' L' z:=
 Sp.mono (fun z ⟨x,y,hx,hy,e⟩=>Sp.mem ⟨x,y,h1 x hx,h2 y hy,e⟩) h
theorem PM.left {s m:Int}{M L:E→Prop}{x:E}(hx:M x):∀{y:E},Sp L y→PM s m M L (ml s m x y):=by
 intro y hy;induction hy with
 |zero=>rw[xv];exact Sp.zero
 |mem hy=>exact Sp.mem ⟨x,_,hx,hy,rfl⟩
 |add _ _ a b=>rw[dr];exact Sp.add a b
 |neg _ a=>rw[ow];exact Sp.neg a
theorem PM.assoc {s m:Int}{M L Q:E→Prop}{z:E}(h:PM s m (PM s m M L) Q z):PM s m M (PM s m L Q) z:=by
 refine Sp.mono (fun z ⟨x,y,hx,hy,e⟩=>?_) h;subst e;have key:∀{x:E},PM s m M L x→PM s m M (PM s m L Q) (ml s m x y):=by
  intro x hx;induction hx with
  |zero=>rw[bL,xv];exact Sp.zero
  |mem hx=>obtain⟨u,v,hu,hv,rfl⟩:=hx;rw[rO];exact Sp.mem ⟨u,ml s m v y,hu,Sp.mem ⟨v,y,hv,hy,rfl⟩,rfl⟩
  |add _ _ a b=>rw[bL,dr,bL s m y,bL s m y];exact Sp.add a b
  |neg _ a=>rw[bL,ow,bL s m y];exact Sp.neg a
 exact key hx
theorem PM.assoc' {s m:Int}{M L Q:E→Prop}{z:E}(h:PM s m M (PM s m L Q) z):PM s m (PM s m M L) Q z:=by
 have h1:=PM.comm h;have h2:PM s m (PM s m Q L) M z:=h1.mono (fun x hx=>PM.comm hx) (fun x hx=>hx);have h3:=PM.comm (PM.assoc h2);exact h3.mono (fun x hx=>PM.comm hx) (fun x hx=>hx)
def Sc (s m:Int)(l:E)(M:E→Prop):E→Prop:=fun z=>∃x,M x∧z=ml s m l x
theorem Sc.prod {s m:Int}{l:E}{M L:E→Prop}{z:E}:PM s m (Sc s m l M) L z↔Sc s m l (PM s m M L) z:=by
 constructor
 ·intro h;induction h with
  |zero=>exact⟨ze,Sp.zero,(xv s m l).symm⟩
  |mem h=>obtain⟨x,y,⟨u,hu,rfl⟩,hy,rfl⟩:=h;exact⟨ml s m u y,Sp.mem ⟨u,y,hu,hy,rfl⟩,rO s m l u y⟩
  |add _ _ a b=>obtain⟨x,hx,rfl⟩:=a;obtain⟨y,hy,rfl⟩:=b;exact⟨ad x y,Sp.add hx hy,(dr s m l x y).symm⟩
  |neg _ a=>obtain⟨x,hx,rfl⟩:=a;exact⟨ng x,Sp.neg hx,(ow s m l x).symm⟩
 ·rintro⟨x,hx,rfl⟩;have key:∀{x:E},PM s m M L x→PM s m (Sc s m l M) L (ml s m l x):=by
   intro x hx;induction hx with
   |zero=>rw[xv];exact Sp.zero
   |mem h=>obtain⟨u,v,hu,hv,rfl⟩:=h;rw[←rO];exact Sp.mem ⟨_,v,⟨u,hu,rfl⟩,hv,rfl⟩
   |add _ _ a b=>rw[dr];exact Sp.add a b
   |neg _ a=>rw[ow];exact Sp.neg a
  exact key hx
theorem Sc.sc {s m:Int}{k l:E}{M:E→Prop}{z:E}:Sc s m k (Sc s m l M) z↔Sc s m (ml s m k l) M z:=by
 constructor
 ·rintro⟨x,⟨y,hy,rfl⟩,rfl⟩;exact⟨y,hy,(rO s m k l y).symm⟩
 ·rintro⟨y,hy,rfl⟩;exact⟨ml s m l y,⟨y,hy,rfl⟩,rO s m k l y⟩
theorem Sc.congr {s m:Int}{k:E}{M L:E→Prop}(h:∀z,M z↔L z){z:E}:Sc s m k M z↔Sc s m k L z:=
 ⟨fun⟨x,hx,e⟩=>⟨x,(h x).mp hx,e⟩,fun⟨x,hx,e⟩=>⟨x,(h x).mpr hx,e⟩⟩
def Hm (s m:Int)(M L:E→Prop):Prop:=∃k l:E,k≠ze∧l≠ze∧∀z,Sc s m k M z↔Sc s m l L z
theorem ui:(⟨1,0⟩:E)≠ze:=fun h=>by have:=congrArg E.re h;simp[ze]at this
theorem Hm.same {s m:Int}{M L:E→Prop}(h:∀z,M z↔L z):Hm s m M L:=⟨⟨1,0⟩,⟨1,0⟩,ui,ui,fun z=>Sc.congr h⟩
theorem Hm.refl (s m:Int)(M:E→Prop):Hm s m M M:=Hm.same (fun z=>Iff.rfl)
theorem Hm.symm {s m:Int}{M L:E→Prop}(h:Hm s m M L):Hm s m L M:=by
 obtain⟨k,l,hk,hl,h⟩:=h;exact⟨l,k,hl,hk,fun z=>(h z).symm⟩
theorem Hm.trans {s m:Int}(hd:s*s+4*m<0){M L Q:E→Prop}(h:Hm s m M L)(g:Hm s m L Q):Hm s m M Q:=by
 obtain⟨k,l,hk,hl,h⟩:=h;obtain⟨p,q,hp,hq,g⟩:=g;refine⟨ml s m p k,ml s m l q,Dx hd hp hk,Dx hd hl hq,fun z=>?_⟩;have h1:Sc s m (ml s m p k) M z↔Sc s m (ml s m p l) L z:=by rw[←Sc.sc,←Sc.sc];exact Sc.congr h
 have h2:Sc s m (ml s m l p) L z↔Sc s m (ml s m l q) Q z:=by rw[←Sc.sc,←Sc.sc];exact Sc.congr g
 rw[h1,bL s m p l];exact h2
theorem Hm.scaled {s m:Int}{k:E}(hk:k≠ze){M L:E→Prop}(h:∀z,M z↔Sc s m k L z):Hm s m M L:=by
 refine⟨⟨1,0⟩,k,ui,hk,fun z=>?_⟩;have e:∀x:E,ml s m ⟨1,0⟩ x=x:=fun x=>E.ext' (by simp[ml]) (by simp[ml]);constructor
 ·rintro⟨x,hx,rfl⟩;rw[e];exact(h x).mp hx
 ·intro hz;exact⟨z,(h z).mpr hz,(e z).symm⟩
theorem Hm.left {s m:Int}{M M':E→Prop}(L:E→Prop)(h:Hm s m M M'):Hm s m (PM s m M L) (PM s m M' L):=by
 obtain⟨k,l,hk,hl,h⟩:=h;refine⟨k,l,hk,hl,fun z=>?_⟩;rw[←Sc.prod,←Sc.prod];exact⟨fun hz=>hz.mono (fun x hx=>(h x).mp hx) (fun x hx=>hx),fun hz=>hz.mono (fun x hx=>(h x).mpr hx) (fun x hx=>hx)⟩
theorem Hm.comm {s m:Int}(M L:E→Prop):Hm s m (PM s m M L) (PM s m L M):=Hm.same (fun z=>⟨PM.comm,PM.comm⟩)
theorem Hm.assoc {s m:Int}(M L Q:E→Prop):Hm s m (PM s m (PM s m M L) Q) (PM s m M (PM s m L Q)):=Hm.same (fun z=>⟨PM.assoc,PM.assoc'⟩)
theorem Hm.prod {s m:Int}(hd:s*s+4*m<0){M M' L L':E→Prop}(h:Hm s m M M')(g:Hm s m L L'):Hm s m (PM s m M L) (PM s m M' L'):=
 (h.left L).trans hd ((Hm.comm M' L).trans hd ((g.left M').trans hd (Hm.comm L' M')))
def Fo (a t:Int):E→Prop:=fun z=>a∣z.re-t*z.im
theorem Fo.zero (a t:Int):Fo a t ze:=by simp only[Fo,ze];exact⟨0,by omega⟩
theorem Fo.add {a t:Int}{x y:E}(hx:Fo a t x)(hy:Fo a t y):Fo a t (ad x y):=by
 have:=bs hx hy;simp only[Fo,ad];have e:x.re+y.re-t*(x.im+y.im)=x.re-t*x.im+(y.re-t*y.im):=by grind
 rw[e];exact this
theorem Fo.neg {a t:Int}{x:E}(hx:Fo a t x):Fo a t (ng x):=by
 have:=gy.mpr hx;simp only[Fo,ng];have e: -x.re-t* -x.im= -(x.re-t*x.im):=by grind
 rw[e];exact this
theorem Fo.gen {a t:Int}{z:E}(h:Fo a t z):∃k:Int,z=⟨k*a+t*z.im,z.im⟩:=by
 obtain⟨k,hk⟩:=h;exact⟨k,E.ext' (by simp only;have:a*k=k*a:=b8 _ _;omega) rfl⟩
theorem Fo.a (a t:Int):Fo a t ⟨a,0⟩:=by simp only[Fo];exact⟨1,by omega⟩
theorem Fo.t (a t:Int):Fo a t ⟨t,1⟩:=by simp only[Fo];exact⟨0,by omega⟩
theorem Tg (k1 k2 i1 i2 e v1 v2 t s' d1 d2 d3:Int):k1*k2*v1*(e*v2)+k1*v1*(t-v2*d2)*i2+k2*v2*(t-v1*d1)*i1+i1*i2*(s'*t+v1*v2*d3)-t*(k1*v1*i2+k2*v2*i1+s'*i1*i2)=v1*v2*(k1*k2*e-k1*i2*d2-k2*i1*d1+i1*i2*d3):=by grind
theorem Uz {s m e v1 v2 t1 t2 t s' n4 c1 x y z p q r:Int}(he:e≠0)
  (hs:t1+t2+s=e*s')(hn:m+t1*t2=e*n4)(hc:t1*t1+s*t1-m=e*v1*c1)
  (h1:v1∣t-t1)(h2:v2∣t-t2)(h3:v1*v2∣n4-s'*t)
  (hb:x*(e*v1)+y*(e*v2)+z*(e*s')=e)(hp:p*(e*v1)+q*(2*t1+s)+r*c1=1)(u:E):
  PM s m (Fo (e*v1) t1) (Fo (e*v2) t2) u↔Sc s m ⟨e,0⟩ (Fo (v1*v2) t) u:=by
 have sub:∀u,PM s m (Fo (e*v1) t1) (Fo (e*v2) t2) u→∃w,Fo (v1*v2) t w∧u=⟨e*w.re,e*w.im⟩:=by
  intro u hu;induction hu with
  |zero=>exact⟨ze,Fo.zero _ _,E.ext' (by simp[ze]) (by simp[ze])⟩
  |mem h=>
   obtain⟨a,b,ha,hb',rfl⟩:=h;obtain⟨k1,e1⟩:=ha.gen;obtain⟨k2,e2⟩:=hb'.gen;generalize a.im=i1 at*;generalize b.im=i2 at*;subst e1;subst e2;refine⟨⟨k1*k2*v1*(e*v2)+k1*v1*t2*i2+k2*v2*t1*i1+i1*i2*n4,k1*v1*i2+k2*v2*i1+s'*i1*i2⟩,?_,?_⟩
   ·simp only[Fo];obtain⟨d1,hd1⟩:=h1;obtain⟨d2,hd2⟩:=h2;obtain⟨d3,hd3⟩:=h3;refine⟨k1*k2*e-k1*i2*d2-k2*i1*d1+i1*i2*d3,?_⟩;have q1:t1=t-v1*d1:=by omega
    have q2:t2=t-v2*d2:=by omega
    have q3:n4=s'*t+v1*v2*d3:=by omega
    rw[q1,q2,q3];exact Tg ..
   ·refine E.ext' ?_ ?_
    ·simp only[ml];grind
    ·simp only[ml];grind
  |add _ _ a b=>obtain⟨w,hw,rfl⟩:=a;obtain⟨w',hw',rfl⟩:=b;exact⟨ad w w',hw.add hw',E.ext' (by simp only[ad];grind) (by simp only[ad];grind)⟩
  |neg _ a=>obtain⟨w,hw,rfl⟩:=a;exact⟨ng w,hw.neg,E.ext' (by simp only[ng];grind) (by simp only[ng];grind)⟩
 have el:∀w:E,ml s m ⟨e,0⟩ w=⟨e*w.re,e*w.im⟩:=fun w=>E.ext' (by simp only[ml];grind) (by simp only[ml];grind);constructor
 ·intro hu;obtain⟨w,hw,rfl⟩:=sub u hu;exact⟨w,hw,(el w).symm⟩
 ·rintro⟨w,hw,rfl⟩;rw[el];have g1:PM s m (Fo (e*v1) t1) (Fo (e*v2) t2) ⟨e*v1*(e*v2),0⟩:=Sp.mem ⟨⟨e*v1,0⟩,⟨e*v2,0⟩,Fo.a _ _,Fo.a _ _,E.ext' (by simp only[ml];grind) (by simp only[ml];grind)⟩;have g2:PM s m (Fo (e*v1) t1) (Fo (e*v2) t2) ⟨e*v1*t2,e*v1⟩:=Sp.mem ⟨⟨e*v1,0⟩,⟨t2,1⟩,Fo.a _ _,Fo.t _ _,E.ext' (by simp only[ml];grind) (by simp only[ml];grind)⟩;have g3:PM s m (Fo (e*v1) t1) (Fo (e*v2) t2) ⟨e*v2*t1,e*v2⟩:=Sp.mem ⟨⟨t1,1⟩,⟨e*v2,0⟩,Fo.t _ _,Fo.a _ _,E.ext' (by simp only[ml];grind) (by simp only[ml];grind)⟩;have g4:PM s m (Fo (e*v1) t1) (Fo (e*v2) t2) ⟨m+t1*t2,t1+t2+s⟩:=Sp.mem ⟨⟨t1,1⟩,⟨t2,1⟩,Fo.t _ _,Fo.t _ _,E.ext' (by simp only[ml];grind) (by simp only[ml];grind)⟩;have f1:PM s m (Fo (e*v1) t1) (Fo (e*v2) t2) ⟨e*(v1*v2),0⟩:=by
   have a1:=Sp.smul g1 (p*v1+q*s');have a2:=Sp.smul g3 (q*v1+r*s');have a3:=Sp.smul g2 (-(q*v2));have a4:=Sp.smul g4 (-(r*v2));have:=Sp.add (Sp.add a1 a2) (Sp.add a3 a4);refine(?_:(⟨e*(v1*v2),0⟩:E)=_)▸this;refine E.ext' ?_ ?_
   ·simp only[ad,sm];have k:e*(v1*v2)=e*(v1*v2)*(p*(e*v1)+q*(2*t1+s)+r*c1):=by rw[hp];omega
    rw[k];have k2:2*t1+s=e*s'+(t1-t2):=by omega
    rw[k2];have k3:e*(v1*v2)*(r*c1)=r*v2*(e*v1*c1):=by grind
    have k4:e*(v1*v2)*(p*(e*v1)+q*(e*s'+(t1-t2))+r*c1)=e*(v1*v2)*(p*(e*v1)+q*(e*s'+(t1-t2)))+r*v2*(e*v1*c1):=by grind
    rw[k4,←hc];grind
   ·simp only[ad,sm];grind
  obtain⟨w0,hw0,e0⟩:=sub _ (Sp.add (Sp.add (Sp.smul g2 x) (Sp.smul g3 y)) (Sp.smul g4 z));have i0:w0.im=1:=by
   have:=congrArg E.im e0;simp only[ad,sm]at this;rw[hs]at this;have h5:e*w0.im=e*1:=by rw[←this];omega
   exact hL he h5
  have f2:PM s m (Fo (e*v1) t1) (Fo (e*v2) t2) ⟨e*w0.re,e*w0.im⟩:=by rw[←e0];exact Sp.add (Sp.add (Sp.smul g2 x) (Sp.smul g3 y)) (Sp.smul g4 z)
  obtain⟨k,hk⟩:=hw;obtain⟨k0,hk0⟩:=hw0;rw[i0]at hk0;have:=Sp.add (Sp.smul f1 (k-w.im*k0)) (Sp.smul f2 w.im);refine(?_:(⟨e*w.re,e*w.im⟩:E)=_)▸this;refine E.ext' ?_ ?_
  ·simp only[ad,sm];have k5:w.re=v1*v2*k+t*w.im:=by omega
   have k6:w0.re=v1*v2*k0+t:=by omega
   rw[k5,k6];grind
  ·simp only[ad,sm,i0];grind
theorem Um {s m a t c p q r u:Int}(hd:s*s+4*m<0)(ha:a≠0)(hc:t*t+s*t-m=a*c)(hdet:p*u-q*r=1):
  Hm s m (Fo a t) (Fo (a*p*p+(2*t+s)*p*r+c*r*r) (a*p*q+(2*t+s)*q*r+c*r*u+t)):=by
 have hk:cj s ⟨p*a+r*t,r⟩≠ze:=fun h=>by
  have h1:=congrArg E.im h;have h2:=congrArg E.re h;simp only[cj,ze]at h1 h2;have hr:r=0:=by omega
  subst hr;have:p*a=0:=by omega
  rcases j0.mp this with h3|h3
  ·subst h3;omega
  ·exact ha h3
 have hl:(⟨a,0⟩:E)≠ze:=fun h=>ha (by have:=congrArg E.re h;simpa[ze]using this);refine⟨cj s ⟨p*a+r*t,r⟩,⟨a,0⟩,hk,hl,fun z=>?_⟩;constructor
 ·rintro⟨x,hx,rfl⟩;obtain⟨k,hx⟩:=hx.gen;generalize x.im=i at*;subst hx;refine⟨⟨(k*u-i*q)*(a*p*p+(2*t+s)*p*r+c*r*r)+(i*p-k*r)*(a*p*q+(2*t+s)*q*r+c*r*u+t),i*p-k*r⟩,?_,?_⟩
  ·simp only[Fo];exact⟨k*u-i*q,by grind⟩
  ·refine E.ext' ?_ ?_
   ·simp only[ml,cj];grind
   ·simp only[ml,cj];grind
 ·rintro⟨x,hx,rfl⟩;obtain⟨k,hx⟩:=hx.gen;generalize x.im=i at*;subst hx;refine⟨⟨(k*p+i*q)*a+(k*r+i*u)*t,k*r+i*u⟩,?_,?_⟩
  ·simp only[Fo];exact⟨k*p+i*q,by grind⟩
  ·refine E.ext' ?_ ?_
   ·simp only[ml,cj];grind
   ·simp only[ml,cj];grind
theorem fU (s m:Int)(k:E)(x y:Int)(u v:E):ml s m k (ad (sm x u) (sm y v))=ad (sm x (ml s m k u)) (sm y (ml s m k v)):=by rw[dr,Qq,Qq]
theorem Ru (x y a t:Int):(⟨x*a+t*y,y⟩:E)=ad (sm x ⟨a,0⟩) (sm y ⟨t,1⟩):=E.ext' (by simp only[ad,sm];grind) (by simp only[ad,sm];grind)
theorem yc {s m a t c:Int}(hc:t*t+s*t-m=a*c)(X Y:Int):nm s m ⟨X*a+t*Y,Y⟩=a*(a*X*X+(2*t+s)*X*Y+c*Y*Y):=by
 have e:nm s m ⟨X*a+t*Y,Y⟩=a*(a*X*X+(2*t+s)*X*Y)+(t*t+s*t-m)*(Y*Y):=by simp only[nm];grind
 rw[e,hc];grind
theorem Qy (s m k l x y u v:Int):(ml s m (cj s (ml s m ⟨k,l⟩ ⟨x,y⟩)) (ml s m ⟨k,l⟩ ⟨u,v⟩)).im=nm s m ⟨k,l⟩*(x*v-y*u):=by simp only[ml,cj,nm];grind
theorem C9 {s m a t c a' t' c':Int}(hd:s*s+4*m<0)(ha:0<a)(ha':0<a')(hc:t*t+s*t-m=a*c)(hc':t'*t'+s*t'-m=a'*c')
  {k l:E}(hk:k≠ze)(hl:l≠ze)(h:∀z,Sc s m k (Fo a t) z↔Sc s m l (Fo a' t') z):nm s m k*a=nm s m l*a'∧∃p q r u:Int,p*u-q*r=1∧a=a'*p*p+(2*t'+s)*p*r+c'*r*r∧2*t+s=2*a'*p*q+(2*t'+s)*p*u+(2*t'+s)*q*r+2*c'*r*u∧
   c=a'*q*q+(2*t'+s)*q*u+c'*u*u:=by
 obtain⟨X1,m1,e1⟩:=(h _).mp ⟨_,Fo.a a t,rfl⟩;obtain⟨X2,m2,e2⟩:=(h _).mp ⟨_,Fo.t a t,rfl⟩;obtain⟨Y1,m3,e3⟩:=(h _).mpr ⟨_,Fo.a a' t',rfl⟩;obtain⟨Y2,m4,e4⟩:=(h _).mpr ⟨_,Fo.t a' t',rfl⟩;obtain⟨p,g1⟩:=m1.gen;obtain⟨q,g2⟩:=m2.gen;obtain⟨z1,g3⟩:=m3.gen;obtain⟨z2,g4⟩:=m4.gen;generalize X1.im=r at*;generalize X2.im=u at*;generalize Y1.im=w1 at*;generalize Y2.im=w2 at*;subst g1;subst g2;subst g3;subst g4;have b1:(⟨a,0⟩:E)=ad (sm p ⟨z1*a+t*w1,w1⟩) (sm r ⟨z2*a+t*w2,w2⟩):=by refine xu hd hk (s:=s) (m:=m) ?_;rw[fU,←e3,←e4,←fU,←Ru];exact e1
 have b2:(⟨t,1⟩:E)=ad (sm q ⟨z1*a+t*w1,w1⟩) (sm u ⟨z2*a+t*w2,w2⟩):=by refine xu hd hk (s:=s) (m:=m) ?_;rw[fU,←e3,←e4,←fU,←Ru];exact e2
 have i1:p*w1+r*w2=0:=by have:=congrArg E.im b1;simp only[ad,sm]at this;omega
 have i2:q*w1+u*w2=1:=by have:=congrArg E.im b2;simp only[ad,sm]at this;omega
 have i3:p*z1+r*z2=1:=by
  have:=congrArg E.re b1;simp only[ad,sm]at this;have e:a*(p*z1+r*z2)=a*1:=by
   have e5:p*(z1*a+t*w1)+r*(z2*a+t*w2)=a*(p*z1+r*z2)+t*(p*w1+r*w2):=by grind
   rw[e5,i1]at this;omega
  exact hL (by omega) e
 have i4:q*z1+u*z2=0:=by
  have:=congrArg E.re b2;simp only[ad,sm]at this;have e:a*(q*z1+u*z2)=a*0:=by
   have e5:q*(z1*a+t*w1)+u*(z2*a+t*w2)=a*(q*z1+u*z2)+t*(q*w1+u*w2):=by grind
   rw[e5,i2]at this;omega
  exact hL (by omega) e
 have det:(p*u-q*r)*(z1*w2-z2*w1)=1:=by
  have e5:(p*u-q*r)*(z1*w2-z2*w1)=(p*z1+r*z2)*(q*w1+u*w2)- (p*w1+r*w2)*(q*z1+u*z2):=by grind
  rw[e5,i1,i2,i3,i4];decide
 have hnk:=ji hd hk;have hnl:=ji hd hl;have dir:nm s m k*a=nm s m l*a'*(p*u-q*r):=by
  have r1:=Qy s m k.re k.im a 0 t 1;have r2:=Qy s m l.re l.im (p*a'+t'*r) r (q*a'+t'*u) u;have hk':(⟨k.re,k.im⟩:E)=k:=rfl;have hl':(⟨l.re,l.im⟩:E)=l:=rfl;rw[hk']at r1;rw[hl']at r2;rw[e1,e2,r2]at r1;have e6:(p*a'+t'*r)*u-r*(q*a'+t'*u)=a'*(p*u-q*r):=by grind
  rw[e6]at r1;have e7:a*1-0*t=a:=by omega
  rw[e7,←cy]at r1;exact r1.symm
 have la:0<nm s m k*a:=b9 hnk ha;have la':0<nm s m l*a':=b9 hnl ha';have D1:p*u-q*r=1:=by
  have hD:0<p*u-q*r:=by
   rcases pC 0 (p*u-q*r)with h|h
   ·exact h
   ·have:=hC (hB la') (show 0≤ -(p*u-q*r) by omega);rw[j1]at this;omega
  have hdv:(p*u-q*r)∣1:=⟨_,det.symm⟩
  have:=b7 (by decide) hdv;omega
 have same:nm s m k*a=nm s m l*a':=by rw[dir,D1];omega
 have all:∀X Y:Int,a*X*X+(2*t+s)*X*Y+c*Y*Y=a'*(X*p+Y*q)*(X*p+Y*q)+(2*t'+s)*(X*p+Y*q)*(X*r+Y*u)+c'*(X*r+Y*u)*(X*r+Y*u):=by
  intro X Y;have e5:ml s m k ⟨X*a+t*Y,Y⟩=ml s m l ⟨(X*p+Y*q)*a'+t'*(X*r+Y*u),X*r+Y*u⟩:=by rw[Ru X Y a t,fU,e1,e2,←fU];congr 1;exact E.ext' (by simp only[ad,sm];grind) (by simp only[ad,sm])
  have e6:=congrArg (nm s m) e5;rw[Eb,Eb,yc hc,yc hc',←cy,←cy,same]at e6;exact hL (by omega) e6
 have f1:=all 1 0;have f2:=all 0 1;have f3:=all 1 1;simp only[eo,q7,fp,dk,c7,x8]at f1 f2 f3;refine⟨same,p,q,r,u,D1,?_,?_,?_⟩
 ·exact f1
 ·have e8:2*t+s=(a+(2*t+s)+c)-a-c:=by omega
  rw[e8,f3,f1,f2];grind
 ·exact f2
theorem Uv {s m a t c a' t' c':Int}(hd:s*s+4*m<0)(ha:0<a)(ha':0<a')(hc:t*t+s*t-m=a*c)(hc':t'*t'+s*t'-m=a'*c')
  (h:Hm s m (Fo a t) (Fo a' t')):∃p q r u:Int,p*u-q*r=1∧a=a'*p*p+(2*t'+s)*p*r+c'*r*r∧2*t+s=2*a'*p*q+(2*t'+s)*p*u+(2*t'+s)*q*r+2*c'*r*u∧
   c=a'*q*q+(2*t'+s)*q*u+c'*u*u:=by
 obtain⟨k,l,hk,hl,h⟩:=h;exact(C9 hd ha ha' hc hc' hk hl h).2
end Go.Proofs.YteaakcmkpacpaaaGreat.Mod
namespace Go.Proofs.YteaakcmkpacpaaaGreat.Pure
open Go Go.Proofs.YteaakcmkpacpaaaGreat.Ev
theorem uK {x:Int}(h0:0≤x)(h1:x<9223372036854775808)(k:Nat)(hk:k≤32):mB .i64 x (2^k-1)=x%2^k:=by
 have hp:(2:Nat)^k≤2^32:=j2 (by decide) hk;have hp0:0<(2:Nat)^k:=Nat.pow_pos (by decide);have e2:((2:Int)^k)=((2^k:Nat):Int):=by simp
 obtain⟨a,rfl⟩:=o2 h0;have m:((2:Int)^k-1)=((2^k-1:Nat):Int):=by rw[e2];omega
 have t1:(BitVec.ofInt 64 (a:Int)).toNat=a:=by simp[y7];omega
 have t2:(BitVec.ofInt 64 ((2^k-1:Nat):Int)).toNat=2^k-1:=by rw[y7];omega
 have e:(BitVec.ofInt 64 (a:Int)&&& BitVec.ofInt 64 ((2^k-1:Nat):Int)).toNat=a%2^k:=by rw[BitVec.toNat_and,t1,t2,dm]
 have hlt:a%2^k<2^k:=Nat.mod_lt _ hp0;rw[m,e2];show IntKind.wrap .i64 ((BitVec.ofInt 64 (a:Int)&&& BitVec.ofInt 64 ((2^k-1:Nat):Int)).toNat:Int)=_;rw[e];have w:IntKind.wrap .i64 ((a%2^k:Nat):Int)=aA ((a%2^k:Nat):Int):=rfl;rw[w,gA (by omega) (by omega)];simp
theorem B4 (N:Nat)(d:Int):∃a b c e,Q50.f N d=some (a,b,c,e)∧True∧(e=0→a=1∧(b=0∨b=1)∧b*b-4*a*c=d∧ -4294967296≤d∧d≤ -3):=by
 unfold Q50.f;by_cases h1:d> -3
 ·rw[decide_eq_true h1];exact⟨0,0,0,80,rfl,trivial,fun h=>absurd h (by decide)⟩
 ·by_cases h2:d< -4294967296
  ·rw[decide_eq_false h1,decide_eq_true h2];exact⟨0,0,0,80,rfl,trivial,fun h=>absurd h (by decide)⟩
  ·have w:aA (0-d)= -d:=by rw[gA (by omega) (by omega)];omega
   have a3:mB .i64 (-d) 3=(-d)%4:=uK (by omega) (by omega) 2 (by decide);have a1:mB .i64 (-d) 1=(-d)%2:=uK (by omega) (by omega) 1 (by decide);rw[decide_eq_false h1,decide_eq_false h2,w,a3,a1];simp only[cond_false];have hcase:(-d)%4=0∨(-d)%4=1∨(-d)%4=2∨(-d)%4=3:=by omega
   rcases hcase with h|h|h|h
   ·have e2:(-d)%2=0:=by omega
    have e3:aA (Int.tdiv (-d) 4)= -d/4:=by rw[l8 (by omega),gA (by omega) (by omega)]
    rw[h,e2,w,e3];exact⟨1,0, -d/4,0,rfl,trivial,fun _=>⟨rfl,Or.inl rfl,by omega,by omega,by omega⟩⟩
   ·rw[h];exact⟨0,0,0,80,rfl,trivial,fun h=>absurd h (by decide)⟩
   ·rw[h];exact⟨0,0,0,80,rfl,trivial,fun h=>absurd h (by decide)⟩
   ·have e2:(-d)%2=1:=by omega
    have e3:aA (Int.tdiv (aA (1-d)) 4)=(1-d)/4:=by rw[gA (n:=1-d) (by omega) (by omega),l8 (by omega),gA (by omega) (by omega)]
    rw[h,e2,e3];exact⟨1,1,(1-d)/4,0,rfl,trivial,fun _=>⟨rfl,Or.inr rfl,by omega,by omega,by omega⟩⟩
open Go.Proofs.YteaakcmkpacpaaaGreat.NatL (ab fB qB cD yG GT cC iD wC bC bO pP sg sn pB Zr sA xI yP tC U8)
open Go.Proofs.YteaakcmkpacpaaaGreat.Mod (Fo Hm PM)
theorem sT {x:Int}(h0:0≤x)(h1:x<4294967296):mB .u64 x 4294967295=x:=by
 obtain⟨a,rfl⟩:=o2 h0;have t1:(BitVec.ofInt 64 (a:Int)).toNat=a:=by simp[y7];omega
 have t2:(BitVec.ofInt 64 (4294967295:Int)).toNat=2^32-1:=by decide
 have e:(BitVec.ofInt 64 (a:Int)&&& BitVec.ofInt 64 (4294967295:Int)).toNat=a:=by rw[BitVec.toNat_and,t1,t2,dm,Nat.mod_eq_of_lt (by omega)]
 show IntKind.wrap .u64 ((BitVec.ofInt 64 (a:Int)&&& BitVec.ofInt 64 (4294967295:Int)).toNat:Int)=_;rw[e];exact sA (by omega) (by omega)
theorem Nc {x:Int}(h0:0≤x)(h1:x<4294967296):Int.fdiv x (2^32)=0:=by
 rw[tC];have:(2:Int)^32=4294967296:=by decide
 rw[this];omega
theorem pa (N:Nat){x y:Int}(x0:0≤x)(x1:x<4294967296)(y0:0≤y)(y1:y<4294967296):Q44.f N x y=some (0,x*y):=by
 have m0:=hC x0 y0;have m1:=iA (show y≤4294967295 by omega) x0;have m2:=iB (show x≤4294967295 by omega) (show(0:Int)≤4294967295 by omega);have hm:x*y≤18446744065119617025:=by omega
 have e32:(2:Int)^32=4294967296:=by decide
 have w0:nA (x*y)=x*y:=sA m0 (by omega);have z0:nA 0=0:=rfl;have f1:=Nc x0 x1;have f2:=Nc y0 y1;have t0:0≤Int.fdiv (x*y) (2^32)∧Int.fdiv (x*y) (2^32)<4294967296:=by rw[tC,e32];omega
 unfold Q44.f;rw[sT x0 x1,sT y0 y1,f1,f2,w0];simp only[dk,q7,x8,z0];rw[sA t0.1 (by omega),sT t0.1 t0.2,Nc t0.1 t0.2];simp only[c7,z0];rw[sA t0.1 (by omega),Nc t0.1 t0.2];rfl
theorem mn (N:Nat){x y:Int}(y0:0<y):Q45.f N 0 x y=some (nA (Int.tdiv x y),Int.tmod x y):=by
 unfold Q45.f;have c1:(y==0)=false:=beq_eq_false_iff_ne.mpr (by omega);have c2:decide (y≤0)=false:=decide_eq_false (by omega);have c3:((0:Int)==0)=true:=rfl;rw[c1,c2,c3];rfl
theorem du (N:Nat){a m:Int}(m0:0<m)(m1:m<9223372036854775808):Q46.f N a m=some (a%m):=by
 unfold Q46.f;have c1:(!(m==0))=true:=by have:(m==0)=false:=beq_eq_false_iff_ne.mpr (by omega);rw[this];rfl
 rw[c1];simp only[cond_true];have hf:=fl (x:=a) m0;have e0:=zE a (show m≠0 by omega);have e1:=aE a m0;by_cases h:Int.tmod a m<0
 ·rw[decide_eq_true h];obtain⟨_,q⟩:=hf.1 h;simp only[cond_true];rw[←q,gA (by omega) (by omega)]
 ·rw[decide_eq_false h];obtain⟨_,q⟩:=hf.2 h;simp only[cond_false];rw[q]
theorem kU {N:Nat}{a b m:Int}(m0:0<m)(m1:m≤2147483648):Q49.f N a b m=some ((a*b)%m):=by
 have a0:=zE a (show m≠0 by omega);have a1:=aE a m0;have b0:=zE b (show m≠0 by omega);have b1:=aE b m0;have p0:=hC a0 b0;unfold Q49.f Q48.f Q47.f;rw[decide_eq_false (show ¬m<1 by omega),decide_eq_false (show ¬m>4611686018427387904 by omega),du N m0 (by omega),du N m0 (by omega)];simp only[cond_false,hA];rw[sA a0 (by omega),sA b0 (by omega),sA (n:=m) (by omega) (by omega),pa N a0 (by omega) b0 (by omega)];simp only[hA];rw[mn N m0];simp only[hA];rw[xI p0,←ln,gA (by have:=zE (a*b) (show m≠0 by omega);omega) (by have:=aE (a*b) m0;omega)]
open Go.Proofs.YteaakcmkpacpaaaGreat.NatL (ab fB qB cD yG GT cC iD wC bC xI yP)
def sd (d:Int):Int:=d%2
def md (d:Int):Int:=(d-d%2)/4
def La (d a b:Int):Mod.E→Prop:=Fo a ((b-sd d)/2)
abbrev Cl (d:Int)(M L:Mod.E→Prop):Prop:=Hm (sd d) (md d) M L
abbrev Pr (d:Int)(M L:Mod.E→Prop):Mod.E→Prop:=PM (sd d) (md d) M L
structure Of (d a b c:Int):Prop where
 eq:b*b-4*a*c=d
theorem Of.par {d a b c:Int}(h:Of d a b c):b%2=d%2∧d%4=d%2:=by
 have h1:=h.eq;have e:4*a*c=4*(a*c):=by grind
 have hb:b=2*(b/2)+b%2:=by omega
 have h2:b*b=4*(b/2*(b/2)+b/2*(b%2))+b%2*(b%2):=by
  have:b*b=(2*(b/2)+b%2)*(2*(b/2)+b%2):=by rw[←hb]
  rw[this];grind
 have h3:b%2=0∨b%2=1:=by omega
 rcases h3 with h3|h3<;>rw[h3]at h2<;>constructor<;>omega
theorem Of.t {d a b c:Int}(h:Of d a b c):b=2*((b-sd d)/2)+sd d∧((b-sd d)/2)*((b-sd d)/2)+sd d*((b-sd d)/2)-md d=a*c∧sd d*sd d+4*md d=d∧(sd d=0∨sd d=1):=by
 obtain⟨p1,p2⟩:=h.par;have h1:=h.eq;unfold sd md;have hs:d%2=0∨d%2=1:=by omega
 have hb:b=2*((b-d%2)/2)+d%2:=by omega
 have hm:d=4*((d-d%2)/4)+d%2:=by omega
 generalize(b-d%2)/2=t at*;generalize(d-d%2)/4=m at*;have hss:d%2*(d%2)=d%2:=by rcases hs with h|h<;>rw[h]<;>decide
 generalize d%2=s at*;refine⟨hb,?_,by omega,hs⟩;have e:b*b=4*(t*t)+4*(s*t)+s*s:=by rw[hb];grind
 have e2:4*a*c=4*(a*c):=by grind
 omega
theorem La.shift (d a b k:Int)(z:Mod.E):La d a b z↔La d a (b+2*a*k) z:=by
 unfold La Fo;have e0:b+2*a*k-sd d=b-sd d+a*k*2:=by grind
 have e:(b+2*a*k-sd d)/2=(b-sd d)/2+a*k:=by rw[e0,Int.add_mul_ediv_right _ _ (by decide)]
 rw[e];have e2:z.re- ((b-sd d)/2+a*k)*z.im=z.re- (b-sd d)/2*z.im-a*(k*z.im):=by grind
 rw[e2];constructor
 ·intro h;exact Int.dvd_sub h (h9 a _)
 ·intro h;have:=bs h (h9 a (k*z.im));have e3:z.re- (b-sd d)/2*z.im-a*(k*z.im)+a*(k*z.im)=z.re- (b-sd d)/2*z.im:=by omega
  rw[e3]at this;exact this
theorem Of.cl {d a b c p q r u:Int}(h:Of d a b c)(hd:d<0)(ha:a≠0)(hdet:p*u-q*r=1):
  Cl d (La d a b) (La d (a*p*p+b*p*r+c*r*r) (2*a*p*q+b*p*u+b*q*r+2*c*r*u)):=by
 obtain⟨t1,t2,t3,t4⟩:=h.t;have k:=Mod.Um (s:=sd d) (m:=md d) (by omega) ha t2 hdet;rw[←t1]at k;unfold Cl La;have e:(2*a*p*q+b*p*u+b*q*r+2*c*r*u-sd d)/2=a*p*q+b*q*r+c*r*u+(b-sd d)/2:=by
  have e1:2*a*p*q+b*p*u+b*q*r+2*c*r*u-sd d=2*(a*p*q+b*q*r+c*r*u+(b-sd d)/2):=by
   have e2:b*p*u=b*(1+q*r):=by
    have:p*u=1+q*r:=by omega
    rw[cy,this]
   have e3:2*(a*p*q+b*q*r+c*r*u+(b-sd d)/2)=2*a*p*q+2*(b*q*r)+2*c*r*u+2*((b-sd d)/2):=by grind
   rw[e3,e2];have e4:b*(1+q*r)=b+b*q*r:=by grind
   rw[e4];omega
  rw[e1,hQ _ (by decide)]
 rw[e];exact k
theorem Of.swap {d a b c:Int}(h:Of d a b c)(hd:d<0)(ha:a≠0):Cl d (La d a b) (La d c (-b)):=by
 have:=h.cl hd ha (p:=0) (q:= -1) (r:=1) (u:=0) (by decide);have e1:a*0*0+b*0*1+c*1*1=c:=by grind
 have e2:2*a*0* -1+b*0*0+b* -1*1+2*c*1*0= -b:=by grind
 rw[e1,e2]at this;exact this
def nb (a b:Int):Int:=if b%(2*a)>a then b%(2*a)-2*a else b%(2*a)
theorem jg {a:Int}(b:Int)(a0:0<a): -a<nb a b∧nb a b≤a∧∃k,nb a b=b+2*a*k:=by
 have e0:=zE b (show 2*a≠0 by omega);have e1:=aE b (show 0<2*a by omega);have e2:=hE b (2*a);unfold nb;split
 ·refine⟨by omega,by omega, -(b/(2*a))-1,?_⟩;have:2*a*(-(b/(2*a))-1)= -(2*a*(b/(2*a)))-2*a:=by grind
  omega
 ·refine⟨by omega,by omega, -(b/(2*a)),?_⟩;have:2*a*(-(b/(2*a)))= -(2*a*(b/(2*a))):=by grind
  omega
def nc (d a b:Int):Int:=(nb a b*nb a b-d)/(4*a)
structure Lp (d a b:Int):Prop where
 a0:0<a
 a1:a≤2147483648
 b0: -17179869184≤b
 b1:b≤17179869184
 dv:4*a∣b*b-d
theorem Lp.dvd {d a b:Int}(h:Lp d a b):4*a∣nb a b*nb a b-d:=by
 obtain⟨_,_,k,hk⟩:=jg b h.a0;have:nb a b*nb a b-d=b*b-d+4*a*(b*k+a*k*k):=by rw[hk];grind
 rw[this];exact bs h.dv (h9 _ _)
theorem Lp.of {d a b:Int}(h:Lp d a b):Of d a (nb a b) (nc d a b):=by
 refine⟨?_⟩;unfold nc;have:=kt h.dvd;omega
theorem Lp.sizes {d a b:Int}(h:Lp d a b)(hd:d<0)(hd1: -4294967296≤d):nb a b*nb a b≤a*a∧0<nc d a b∧nc d a b≤2147483648∧nb a b*nb a b≤4611686018427387904∧0≤nb a b*nb a b:=by
 have a0:=h.a0;have a1:=h.a1;obtain⟨n1,n2,_⟩:=jg b a0;have sq:nb a b*nb a b≤a*a:=by
  have:=hC (show 0≤a-nb a b by omega) (show 0≤a+nb a b by omega);have e:(a-nb a b)*(a+nb a b)=a*a-nb a b*nb a b:=by grind
  omega
 have sqn:=uE (nb a b);have m1:=iA a1 (hB a0);have of:=h.of.eq;have e4:4*a*nc d a b=4*(a*nc d a b):=by grind
 have cp:0<nc d a b:=by
  rcases pC 0 (nc d a b)with q|q
  ·exact q
  ·have:=hC (hB a0) (show 0≤ -nc d a b by omega);rw[j1]at this;omega
 refine⟨sq,cp,?_,by omega,sqn⟩;rcases pC 2147483648 (nc d a b)with q|q
 ·exfalso;have:=iA (show 2147483649≤nc d a b by omega) (hB a0);omega
 ·exact q
def mv (a b:Int):Int:=2*a+(if nb a b<0 then 1 else 0)
theorem Pe {a b:Int}(d:Int)(h:Lp d a b)(hd:d<0)(hd1: -4294967296≤d):
  aA (2*a)=2*a∧aA (4*a)=4*a∧Int.tmod (aA (Int.tmod b (2*a)+2*a)) (2*a)=b%(2*a)∧
  (b%(2*a)>a→aA (b%(2*a)-2*a)=nb a b)∧aA (Int.tdiv (aA (aA (nb a b*nb a b)-d)) (4*a))=nc d a b:=by
 obtain⟨s1,s2,s3,s4,s5⟩:=h.sizes hd hd1;obtain⟨a0,a1,b0,b1,_⟩:=h;have e0:=zE b (show 2*a≠0 by omega);have e1:=aE b (show 0<2*a by omega);refine⟨gA (by omega) (by omega),gA (by omega) (by omega),?_,?_,?_⟩
 ·have hf:=fl (x:=b) (show 0<2*a by omega);by_cases h:Int.tmod b (2*a)<0
  ·obtain⟨_,q⟩:=hf.1 h;rw[←q,gA (by omega) (by omega),Int.tmod_eq_of_lt e0 e1]
  ·obtain⟨_,q⟩:=hf.2 h;rw[←q,gA (by omega) (by omega),ae (by omega),Int.add_emod_right,dc _ (lk _)]
 ·intro hg;unfold nb;rw[if_pos hg,gA (by omega) (by omega)]
 ·unfold nc at*;rw[gA (n:=nb a b*nb a b) (by omega) (by omega),gA (n:=nb a b*nb a b-d) (by omega) (by omega),l8 (by omega),gA (by omega) (by omega)]
theorem vh {N:Nat}{R:Type}{d:Int}(hd:d<0)(hd1: -4294967296≤d)(kr:Int→Int→Int→Option R):∀(n:Nat) (a b x16 x17 x18:Int),Lp d a b→mv a b<n→
  ∃a' b' c',0<a'∧a'≤2147483648∧Of d a' b' c'∧qK a' b'∧¬gC a' b' c'∧Cl d (La d a b) (La d a' b')∧Q52.l12 N n d a b x16 x17 x18 kr=kr a' b' c':=by
 intro n;induction n with
 |zero=>intro a b x16 x17 x18 h hn;exfalso;have:=h.a0;unfold mv at hn;split at hn<;>omega
 |succ n ih=>
  intro a b x16 x17 x18 h hn;obtain⟨e1,e2,e3,e4,e5⟩:=Pe d h hd hd1;obtain⟨s1,s2,s3,s4,s5⟩:=h.sizes hd hd1;have hof:=h.of;have a0:=h.a0;have a1:=h.a1;obtain⟨n1,n2,k,hk⟩:=jg b a0;have cl1:Cl d (La d a b) (La d a (nb a b)):=by rw[hk];exact Mod.Hm.same (La.shift d a b k)
  have cz:(!(2*a==0))=true:=by have:(2*a==0)=false:=beq_eq_false_iff_ne.mpr (by omega);rw[this];rfl
  have cz4:(!(4*a==0))=true:=by have:(4*a==0)=false:=beq_eq_false_iff_ne.mpr (by omega);rw[this];rfl
  have hneg:aA (0-nb a b)= -nb a b:=by rw[gA (by omega) (by omega)];omega
  obtain⟨t1,t2,t3,t4⟩:=hof.t;have hdm:sd d*sd d+4*md d<0:=by omega
  have rest:∀x16 x17 x18,∃a' b' c',0<a'∧a'≤2147483648∧Of d a' b' c'∧qK a' b'∧¬gC a' b' c'∧Cl d (La d a b) (La d a' b')∧
    (bif decide (a<nc d a b)then kr a (nb a b) (nc d a b)
     else bif a==nc d a b then bif decide (nb a b≥0)then kr a (nb a b) (nc d a b)else Q52.l12 N n d (nc d a b) (-nb a b) x16 x17 x18 kr
     else Q52.l12 N n d (nc d a b) (-nb a b) x16 x17 x18 kr)=kr a' b' c':=by
   intro x16 x17 x18;have hl:Lp d (nc d a b) (-nb a b):=by
    refine⟨s2,s3,by omega,by omega,?_⟩;have:=hof.eq;exact⟨a,by
      have e: -nb a b* -nb a b=nb a b*nb a b:=by grind
      have e2:4*nc d a b*a=4*a*nc d a b:=by grind
      omega⟩
   have cl2:Cl d (La d a b) (La d (nc d a b) (-nb a b)):=cl1.trans hdm (hof.swap hd (by omega));by_cases h1:a<nc d a b
   ·rw[decide_eq_true h1];exact⟨a,nb a b,nc d a b,a0,a1,hof,⟨n1,n2⟩,fun q=>by unfold gC at q;omega,cl1,rfl⟩
   ·rw[decide_eq_false h1];simp only[cond_false];by_cases h2:a=nc d a b
    ·have c3:(a==nc d a b)=true:=beq_iff_eq.mpr h2;rw[c3];simp only[cond_true];by_cases h3:nb a b≥0
     ·rw[decide_eq_true h3];exact⟨a,nb a b,nc d a b,a0,a1,hof,⟨n1,n2⟩,fun q=>by unfold gC at q;omega,cl1,rfl⟩
     ·rw[decide_eq_false h3];simp only[cond_false];have hmv:mv (nc d a b) (-nb a b)<n:=by
       have q1:nb (nc d a b) (-nb a b)= -nb a b:=by unfold nb;rw[←h2];have:(-nb a b)%(2*a)= -nb a b:=fs (by omega) (by omega);unfold nb at this;rw[this];unfold nb at h3 n1 n2;rw[if_neg (by omega)]
       unfold mv at hn⊢;rw[if_pos (by omega)]at hn;rw[q1,if_neg (by omega),←h2];omega
      obtain⟨a',b',c',g1,g2,g3,g4,g5,g6,g7⟩:=ih (nc d a b) (-nb a b) x16 x17 x18 hl hmv;exact⟨a',b',c',g1,g2,g3,g4,g5,cl2.trans hdm g6,g7⟩
    ·have c3:(a==nc d a b)=false:=beq_eq_false_iff_ne.mpr h2;rw[c3];simp only[cond_false];have hmv:mv (nc d a b) (-nb a b)<n:=by
      unfold mv at hn⊢;split at hn<;>split<;>omega
     obtain⟨a',b',c',g1,g2,g3,g4,g5,g6,g7⟩:=ih (nc d a b) (-nb a b) x16 x17 x18 hl hmv;exact⟨a',b',c',g1,g2,g3,g4,g5,cl2.trans hdm g6,g7⟩
  rw[Q52.l12,e1,cz,e2,cz4,e3];simp only[cond_true];by_cases hg:b%(2*a)>a
  ·rw[decide_eq_true hg,e4 hg,e5,hneg];simp only[cond_true];exact rest x16 x17 x18
  ·have hb:b%(2*a)=nb a b:=by unfold nb;rw[if_neg hg]
   rw[decide_eq_false hg,hb,e5,hneg];simp only[cond_false];exact rest x16 x17 x18
def cQ (a b c:Int):Prop:=∃p q r:Int,p*a+q*b+r*c=1
theorem Qv {a1 a2 c1 c2 s t1 t2 k y1 z1 e x2 y2 m:Int}(hk:a2*y1+a1*z1=k)(he:(t1+t2+s)*x2+k*y2=e)
  (h1:t1*t1+s*t1-m=a1*c1)(h2:t2*t2+s*t2-m=a2*c2):
  a2*(y1*(-y2*(t2-t1))-x2*c2)+e*(t2-t1)=a1*(z1*y2*(t2-t1)-x2*c1)∧
  (t1+t2+s)*(y1*(-y2*(t2-t1))-x2*c2)+e*c2=a1*(y2*(c2*z1+c1*y1)):=by
 have hs:(t1+t2+s)*(t2-t1)=a2*c2-a1*c1:=by rw[←h1,←h2];grind
 constructor
 ·have e1:a2*(y1*(-y2*(t2-t1))-x2*c2)+e*(t2-t1)= -(y2*(t2-t1))*(a2*y1)-x2*(a2*c2)+e*(t2-t1):=by grind
  have e2:e*(t2-t1)=x2*((t1+t2+s)*(t2-t1))+y2*(t2-t1)*k:=by rw[←he];grind
  rw[e1,e2,hs,←hk];grind
 ·have e1:(t1+t2+s)*(y1*(-y2*(t2-t1))-x2*c2)+e*c2= -(y1*y2)*((t1+t2+s)*(t2-t1))+c2*(e- (t1+t2+s)*x2):=by grind
  have e2:e- (t1+t2+s)*x2=k*y2:=by omega
  rw[e1,e2,hs,←hk];grind
theorem Mm {s m v1 v2 c1 c2 t1 t2 k y1 z1 e x2 y2 s' j p q r:Int}(he0:e≠0)(hk:e*v2*y1+e*v1*z1=k)(he:(t1+t2+s)*x2+k*y2=e)(hs:t1+t2+s=e*s')
  (h1:t1*t1+s*t1-m=e*v1*c1)(h2:t2*t2+s*t2-m=e*v2*c2)(hp:p*(e*v1)+q*(2*t1+s)+r*c1=1)(u:Mod.E):
  PM s m (Fo (e*v1) t1) (Fo (e*v2) t2) u↔Mod.Sc s m ⟨e,0⟩ (Fo (v1*v2) (t2+v2*(y1*(-y2*(t2-t1))-x2*c2+v1*j))) u:=by
 obtain⟨k1,k2⟩:=Qv (a1:=e*v1) (a2:=e*v2) hk he h1 h2;generalize hR:y1*(-y2*(t2-t1))-x2*c2=R at*;have w1:v2*R+(t2-t1)=v1*(z1*y2*(t2-t1)-x2*c1):=by
  have:e*(v2*R+(t2-t1))=e*(v1*(z1*y2*(t2-t1)-x2*c1)):=by
   have a1:e*(v2*R+(t2-t1))=e*v2*R+e*(t2-t1):=by grind
   rw[a1,k1];grind
  exact hL he0 this
 have w2:s'*R+c2=v1*(y2*(c2*z1+c1*y1)):=by
  have:e*(s'*R+c2)=e*(v1*(y2*(c2*z1+c1*y1))):=by
   have a1:e*(s'*R+c2)=(t1+t2+s)*R+e*c2:=by rw[hs];grind
   rw[a1,k2];grind
  exact hL he0 this
 refine Mod.Uz (n4:=s'*t2-v2*c2) (c1:=c1) (s':=s') (x:=z1*y2) (y:=y1*y2) (z:=x2) (p:=p) (q:=q) (r:=r) he0 hs ?_ h1 ?_ ?_ ?_ ?_ hp u
 ·have:e*(s'*t2-v2*c2)=(e*s')*t2-e*v2*c2:=by grind
  rw[this,←hs,←h2];grind
 ·refine⟨z1*y2*(t2-t1)-x2*c1+v2*j,?_⟩;have:v1*(z1*y2*(t2-t1)-x2*c1+v2*j)=v1*(z1*y2*(t2-t1)-x2*c1)+v1*(v2*j):=Int.mul_add ..;rw[this,←w1];grind
 ·exact⟨R+v1*j,by grind⟩
 ·refine⟨-(y2*(c2*z1+c1*y1))-s'*j,?_⟩;have:v1*v2*(-(y2*(c2*z1+c1*y1))-s'*j)= -(v2*(v1*(y2*(c2*z1+c1*y1))))-v1*v2*s'*j:=by grind
  rw[this,←w2];grind
 ·rw[←hs];have:z1*y2*(e*v1)+y1*y2*(e*v2)+x2*(t1+t2+s)=(t1+t2+s)*x2+(e*v2*y1+e*v1*z1)*y2:=by grind
  rw[this,hk,he]
theorem z6 {d a b c:Int}(h:Of d a b c)(a0:0<a)(hr:qK a b)(hs:¬gC a b c)(hd1: -4294967296≤d):a≤37838∧a≤c∧c≤1073741824∧fJ a b c∨¬d<0:=by
 by_cases hd:d<0
 ·left;obtain⟨r1,r2⟩:=hr;have hac:a≤c:=by
   rcases pC c a with q|q
   ·exact absurd (Or.inl q) hs
   ·exact q
  have he:=h.eq;have e4:4*a*c=4*(a*c):=by grind
  have bb:b*b≤a*a:=by
   have:=hC (show 0≤a-b by omega) (show 0≤a+b by omega);have e:(a-b)*(a+b)=a*a-b*b:=by grind
   omega
  have aa:a*a≤a*c:=iA hac (hB a0);have bn:=uE b;have a1:a≤37838:=by
   rcases pC 37838 a with q|q
   ·exfalso;have:=iA (show 37839≤a by omega) (show(0:Int)≤37839 by decide);have:=iB (show 37839≤a by omega) (hB a0);omega
   ·exact q
  have c1:c≤1073741824:=by
   by_cases h1:a=1
   ·subst h1;have:b=0∨b=1:=by omega
    rcases this with q|q<;>subst q<;>omega
   ·rcases pC 1073741824 c with q|q
    ·exfalso;have:=iB (show 2≤a by omega) (show 0≤c by omega);omega
    ·exact q
  refine⟨a1,hac,c1,⟨⟨⟨by omega,by omega⟩,⟨by omega,by omega⟩,by omega,c1⟩,a0,by omega,by omega⟩⟩
 ·right;exact hd
structure lg (d a b c:Int):Prop where
 a0:0<a
 of:Of d a b c
 inr:qK a b
 sm:¬gC a b c
 pr:cQ a b c
theorem De {a b g x y:Int}(h:GT a b g x y):g∣a∧g∣b:=by
 rw[h.eg];exact⟨wC a b,bC a b⟩
theorem Df {d b1 b2:Int}(h1:b1%2=d%2)(h2:b2%2=d%2):Int.tdiv (b1+b2) 2=(b1-sd d)/2+(b2-sd d)/2+sd d:=by
 have e:b1+b2=2*((b1-sd d)/2+(b2-sd d)/2+sd d):=by unfold sd;omega
 rw[e,r8 _ (by decide)]
theorem tS {N:Nat}(hN:4294967400<N){R:Type}{d a1 b1 c1 a2 b2 c2:Int}(hd:d<0)(hd1: -4294967296≤d)(h1:lg d a1 b1 c1)(h2:lg d a2 b2 c2)(kr:Int→Int→Int→Option R):
  ∃a b c,0<a∧a≤2147483648∧Of d a b c∧qK a b∧¬gC a b c∧Cl d (Pr d (La d a1 b1) (La d a2 b2)) (La d a b)∧
  ((Q35.f N a2 a1).bind fun r25=>
   (Q35.f N (aA (Int.tdiv (aA (b1+b2)) 2)) r25.1).bind fun r26=>
   bif !(r26.1==0)then
    bif !(r26.1==0)then
     (Q49.f N (aA (0-r26.2.2)) (aA (b2- (aA (Int.tdiv (aA (b1+b2)) 2)))) (aA (Int.tdiv a1 r26.1))).bind fun r27=>
     (Q49.f N r25.2.1 r27 (aA (Int.tdiv a1 r26.1))).bind fun r28=>
     (Q49.f N r26.2.1 c2 (aA (Int.tdiv a1 r26.1))).bind fun r29=>
     bif !((aA (Int.tdiv a1 r26.1))==0)then
      bif !((aA (Int.tdiv a1 r26.1))==0)then
       Q52.l12 N N d (aA ((aA (Int.tdiv a1 r26.1))*(aA (Int.tdiv a2 r26.1)))) (aA (b2+(aA ((aA (2*(aA (Int.tdiv a2 r26.1))))*(Int.tmod (aA ((Int.tmod (aA (r28-r29)) (aA (Int.tdiv a1 r26.1)))+(aA (Int.tdiv a1 r26.1)))) (aA (Int.tdiv a1 r26.1))))))) 0 0 0 kr
      else none
     else none
    else none
   else none)=kr a b c:=by
 obtain⟨f1,_,f2,f3⟩:=(z6 h1.of h1.a0 h1.inr h1.sm hd1).resolve_right (fun q=>q hd);obtain⟨g1,_,g2,g3⟩:=(z6 h2.of h2.a0 h2.inr h2.sm hd1).resolve_right (fun q=>q hd);have a10:=h1.a0;have a20:=h2.a0;obtain⟨i1,i2⟩:=h1.inr;obtain⟨i3,i4⟩:=h2.inr;obtain⟨q1,q2,q3,q4⟩:=h1.of.t;obtain⟨q5,q6,_,_⟩:=h2.of.t;obtain⟨p1,_⟩:=h1.of.par;obtain⟨p2,_⟩:=h2.of.par;have hsum:=Df p1 p2;generalize ht1:(b1-sd d)/2=t1 at*;generalize ht2:(b2-sd d)/2=t2 at*;have hsd:sd d=0∨sd d=1:=q4;generalize hs:t1+t2+sd d=S at*;have hS: -38000≤S∧S≤38000:=by omega
 have w1:aA (b1+b2)=b1+b2:=gA (by omega) (by omega);have w2:aA (Int.tdiv (aA (b1+b2)) 2)=S:=by rw[w1,hsum,gA (by omega) (by omega)]
 obtain⟨k,y1,z1,G1,k0,k1,E1⟩:=sY (N:=N) (by omega) (a:=a2) (b:=a1) (by rw[cD (by omega)];omega) (by rw[cD (by omega)];omega);have kp:0<k:=by rw[G1.eg];exact NatL.tY (by omega)
 obtain⟨d1,d2⟩:=De G1;have kle:k≤a1:=b7 a10 d2;obtain⟨e,x2,y2,G2,e0,e1,E2⟩:=sY (N:=N) (by omega) (a:=S) (b:=k) (by rcases fB S with⟨c1,c2⟩|⟨c1,c2⟩<;>omega) (by rw[cD (by omega)];omega);have ep:0<e:=by rw[G2.eg];exact NatL.tY (by omega)
 obtain⟨d3,d4⟩:=De G2;obtain⟨s',hs'⟩:=d3;obtain⟨v1,hv1⟩:=c6 d4 d2;obtain⟨v2,hv2⟩:=c6 d4 d1;have ele:e≤k:=b7 kp d4;have v1p:0<v1:=by
  rcases pC 0 v1 with q|q
  ·exact q
  ·have:=hC (hB ep) (show 0≤ -v1 by omega);rw[j1]at this;omega
 have v2p:0<v2:=by
  rcases pC 0 v2 with q|q
  ·exact q
  ·have:=hC (hB ep) (show 0≤ -v2 by omega);rw[j1]at this;omega
 have v1le:v1≤37838:=by have:=iB (show 1≤e by omega) (hB v1p);omega
 have v2le:v2≤37838:=by have:=iB (show 1≤e by omega) (hB v2p);omega
 have w3:aA (Int.tdiv a1 e)=v1:=by rw[hv1,r8 _ (by omega),gA (by omega) (by omega)]
 have w4:aA (Int.tdiv a2 e)=v2:=by rw[hv2,r8 _ (by omega),gA (by omega) (by omega)]
 have w5:aA (b2-S)=t2-t1:=by rw[gA (by omega) (by omega)];omega
 have ez:(!(e==0))=true:=by have:(e==0)=false:=beq_eq_false_iff_ne.mpr (by omega);rw[this];rfl
 have vz:(!(v1==0))=true:=by have:(v1==0)=false:=beq_eq_false_iff_ne.mpr (by omega);rw[this];rfl
 have by2:aA (0-y2)= -y2:=by
  have hx:=G2.lo (by omega);have hxk:x2<k:=by have:=da e (show 0≤ab k from qB k);rw[cD k0]at this;rw[cD k0]at hx;omega
  have hsm:=G2.sum;have m1: -(38000*37838)≤S*x2∧S*x2≤38000*37838:=iU (by omega) (by omega) (by omega) (by omega);have e2:k*y2=e-S*x2:=by omega
  have m3:(38000:Int)*37838=1437844000:=by decide
  have: -1437900000≤y2∧y2≤1437900000:=by
   constructor
   ·rcases pC y2 (-1437900000)with q|q
    ·have:=iB (show 1≤k by omega) (show 0≤ -y2 by omega);have e9:k* -y2= -(k*y2):=j1 ..;omega
    ·exact q
   ·rcases pC 1437900000 y2 with q|q
    ·have:=iB (show 1≤k by omega) (show 0≤y2 by omega);omega
    ·exact q
  rw[gA (by omega) (by omega)];omega
 rw[E1];simp only[hA];rw[w2,E2];simp only[hA,ez,cond_true];rw[w3,w4,w5,by2,kU v1p (by omega)];simp only[hA];rw[kU v1p (by omega)];simp only[hA];rw[kU v1p (by omega)];simp only[hA,vz,cond_true];have m0:=zE (y1*(-y2*(t2-t1)%v1)) (show v1≠0 by omega);have m1:=aE (y1*(-y2*(t2-t1)%v1)) v1p;have m2:=zE (x2*c2) (show v1≠0 by omega);have m3:=aE (x2*c2) v1p;have hr:Int.tmod (aA (Int.tmod (aA (y1*(-y2*(t2-t1)%v1)%v1-x2*c2%v1)) v1+v1)) v1=(y1*(-y2*(t2-t1))-x2*c2)%v1:=by
  rw[gA (n:=y1*(-y2*(t2-t1)%v1)%v1-x2*c2%v1) (by omega) (by omega)];have hf:=fl (x:=y1*(-y2*(t2-t1)%v1)%v1-x2*c2%v1) v1p;have z0:=zE (y1*(-y2*(t2-t1)%v1)%v1-x2*c2%v1) (show v1≠0 by omega);have z1':=aE (y1*(-y2*(t2-t1)%v1)%v1-x2*c2%v1) v1p;have same:(y1*(-y2*(t2-t1)%v1)%v1-x2*c2%v1)%v1=(y1*(-y2*(t2-t1))-x2*c2)%v1:=by
   have mm:y1*(-y2*(t2-t1)%v1)%v1=y1*(-y2*(t2-t1))%v1:=by rw[ln,dc _ (lk _),←ln]
   rw[mm,←Int.sub_emod]
  rw[←same];generalize y1*(-y2*(t2-t1)%v1)%v1-x2*c2%v1=X at*;by_cases h:Int.tmod X v1<0
  ·obtain⟨_,q⟩:=hf.1 h;rw[←q,gA (by omega) (by omega),Int.tmod_eq_of_lt z0 z1']
  ·obtain⟨_,q⟩:=hf.2 h;rw[←q,gA (by omega) (by omega),ae (by omega),Int.add_emod_right,dc _ (lk _)]
 rw[hr];have r0:=zE (y1*(-y2*(t2-t1))-x2*c2) (show v1≠0 by omega);have r1:=aE (y1*(-y2*(t2-t1))-x2*c2) v1p;have rd:=hE (y1*(-y2*(t2-t1))-x2*c2) v1;have rj:(y1*(-y2*(t2-t1))-x2*c2)%v1=y1*(-y2*(t2-t1))-x2*c2+v1*(-((y1*(-y2*(t2-t1))-x2*c2)/v1)):=by rw[j1];omega
 generalize hj: -((y1*(-y2*(t2-t1))-x2*c2)/v1)=j at*;obtain⟨pp,pq,prr,hpr⟩:=h1.pr;have hk:e*v2*y1+e*v1*z1=k:=by rw[←hv2,←hv1];exact G1.sum
 have hun:=fun u=>Mm (s:=sd d) (m:=md d) (v1:=v1) (v2:=v2) (c1:=c1) (c2:=c2) (t1:=t1) (t2:=t2) (k:=k) (y1:=y1) (z1:=z1) (e:=e) (x2:=x2) (y2:=y2) (s':=s') (j:=j) (p:=pp) (q:=pq) (r:=prr) (by omega) hk (by rw[hs];exact G2.sum) (by rw[hs];exact hs') (by rw[←hv1];exact q2) (by rw[←hv2];exact q6) (by rw[←hv1,←q1];exact hpr) u;rw[←hv1,←hv2,←rj]at hun;have hdm:sd d*sd d+4*md d<0:=by omega
 have rr0:=r0;have rr1:=r1;generalize(y1*(-y2*(t2-t1))-x2*c2)%v1=r at*;have bv:v2*r≤37838*37838:=by have a:=iA (show r≤37838 by omega) (hB v2p);omega
 have bv0:=hC (hB v2p) rr0;have k3:(37838:Int)*37838=1431714244:=by decide
 have vv0:=b9 v1p v2p;have vv1:v1*v2≤37838*37838:=by have a:=iA v2le (hB v1p);omega
 have w6:aA (v1*v2)=v1*v2:=gA (by omega) (by omega);have w7:aA (2*v2)=2*v2:=gA (by omega) (by omega);have e2r:2*v2*r=2*(v2*r):=by grind
 have w8:aA (2*v2*r)=2*v2*r:=gA (by omega) (by omega);have w9:aA (b2+2*v2*r)=b2+2*v2*r:=gA (by omega) (by omega);rw[w6,w7,w8,w9];have hlat:La d (v1*v2) (b2+2*v2*r)=Fo (v1*v2) (t2+v2*r):=by
  unfold La;have:b2+2*v2*r-sd d=(t2+v2*r)*2:=by omega
  rw[this,Int.mul_ediv_cancel _ (by decide)]
 have hdv:4*(v1*v2)∣(b2+2*v2*r)*(b2+2*v2*r)-d:=by
  obtain⟨kk1,kk2⟩:=Qv (a1:=a1) (a2:=a2) (c1:=c1) (c2:=c2) (s:=sd d) (t1:=t1) (t2:=t2) (k:=k) (y1:=y1) (z1:=z1) (e:=e) (x2:=x2) (y2:=y2) (m:=md d) G1.sum (by rw[hs];exact G2.sum) q2 q6;rw[hs]at kk2;have rjj:y1*(-y2*(t2-t1))-x2*c2=r-v1*j:=by omega
  rw[rjj]at kk1 kk2;have u1:∃W,v2*r+(t2-t1)=v1*W:=by
   refine⟨z1*y2*(t2-t1)-x2*c1+v2*j,?_⟩;have:e*(v2*r+(t2-t1))=e*(v1*(z1*y2*(t2-t1)-x2*c1+v2*j)):=by
    have a3:e*(v2*r+(t2-t1))=a2*(r-v1*j)+e*(t2-t1)+a2*v1*j:=by rw[hv2];grind
    rw[a3,kk1,hv1,hv2];grind
   exact hL (by omega) this
  have u2:∃W,s'*r+c2=v1*W:=by
   refine⟨y2*(c2*z1+c1*y1)+s'*j,?_⟩;have:e*(s'*r+c2)=e*(v1*(y2*(c2*z1+c1*y1)+s'*j)):=by
    have a3:e*(s'*r+c2)=S*(r-v1*j)+e*c2+S*v1*j:=by rw[hs'];grind
    rw[a3,kk2,hv1,hs'];grind
   exact hL (by omega) this
  obtain⟨W1,hW1⟩:=u1;obtain⟨W2,hW2⟩:=u2;have hq:(t2+v2*r)*(t2+v2*r)+sd d*(t2+v2*r)-md d=v1*v2*(e*W2+r*W1):=by
   have a4:(t2+v2*r)*(t2+v2*r)+sd d*(t2+v2*r)-md d=(t2*t2+sd d*t2-md d)+v2*r*(t1+t2+sd d)+v2*r*(v2*r+(t2-t1)):=by grind
   rw[a4,q6,hs,hs',hW1,hv2];have a5:e*v2*c2+v2*r*(e*s')+v2*r*(v1*W1)=e*v2*(s'*r+c2)+v2*r*(v1*W1):=by grind
   rw[a5,hW2];grind
  refine⟨e*W2+r*W1,?_⟩;have a6:(b2+2*v2*r)*(b2+2*v2*r)-d=4*((t2+v2*r)*(t2+v2*r)+sd d*(t2+v2*r)-md d):=by
   have a7:b2+2*v2*r=2*(t2+v2*r)+sd d:=by omega
   rw[a7];have hss:sd d*sd d=sd d:=by rcases hsd with h|h<;>rw[h]<;>decide
   have a8:(2*(t2+v2*r)+sd d)*(2*(t2+v2*r)+sd d)=4*((t2+v2*r)*(t2+v2*r)+sd d*(t2+v2*r))+sd d*sd d:=by grind
   omega
  rw[a6,hq];grind
 have hlp:Lp d (v1*v2) (b2+2*v2*r):=⟨vv0,by omega,by omega,by omega,hdv⟩
 obtain⟨a,b,c,l1,l2,l3,l4,l5,l6,l7⟩:=vh (N:=N) hd hd1 kr N (v1*v2) (b2+2*v2*r) 0 0 0 hlp (by unfold mv;split<;>omega);refine⟨a,b,c,l1,l2,l3,l4,l5,?_,l7⟩;have hcl:Cl d (Pr d (La d a1 b1) (La d a2 b2)) (La d (v1*v2) (b2+2*v2*r)):=by
  rw[hlat];have e1':La d a1 b1=Fo a1 t1:=by unfold La;rw[ht1]
  have e2':La d a2 b2=Fo a2 t2:=by unfold La;rw[ht2]
  rw[e1',e2'];exact Mod.Hm.scaled (k:=⟨e,0⟩) (fun h=>by have:=congrArg Mod.E.re h;simp[Mod.ze]at this;omega) hun
 exact hcl.trans hdm l6
open Go.Proofs.YteaakcmkpacpaaaGreat.NatL (ab fB qB cD yG GT cC iD wC bC xI yP tA tB)
open Go.Proofs.YteaakcmkpacpaaaGreat.Mod (Fo Hm PM E ml ad sm ze)
def Oo:E→Prop:=Fo 1 0
theorem Oo.all (z:E):Oo z:=by unfold Oo Fo;exact ck _
theorem S0 (t:Int)(z:E):Fo 1 t z↔Oo z:=⟨fun _=>Oo.all z,fun _=>by unfold Fo;exact ck _⟩
structure Dn (d:Int):Prop where
 neg:d<0
 m:sd d*sd d+4*md d<0
theorem Dn.of {d a b c:Int}(h:Of d a b c)(hd:d<0):Dn d:=⟨hd,by have:=h.t.2.2.1;omega⟩
theorem Of.one {d a b c:Int}(h:Of d a b c)(hd:Dn d):Cl d (Pr d Oo (La d a b)) (La d a b):=by
 obtain⟨t1,t2,t3,t4⟩:=h.t;unfold La;generalize(b-sd d)/2=t at*;refine Mod.Hm.scaled (k:=⟨1,0⟩) Mod.ui (fun z=>?_);have k:=Mod.Uz (s:=sd d) (m:=md d) (e:=1) (v1:=1) (v2:=a) (t1:=0) (t2:=t) (t:=t) (s':=t+sd d) (n4:=md d) (c1:= -md d) (x:=1) (y:=0) (z:=0) (p:=1) (q:=0) (r:=0) (by decide) (by omega) (by omega) (by omega) (ck _) ⟨0,by omega⟩ ⟨-c,by
  have e:(t+sd d)*t=t*t+sd d*t:=by grind
  have e2:1*a* -c= -(a*c):=by grind
  omega⟩ (by omega) (by omega) z
 rw[fp,fp]at k;exact k
theorem Of.inv {d a b c:Int}(h:Of d a b c)(hd:Dn d)(ha:a≠0)(hp:cQ a b c):Cl d (Pr d (La d a b) (La d a (-b))) Oo:=by
 obtain⟨t1,t2,t3,t4⟩:=h.t;obtain⟨p,q,r,hp⟩:=hp;unfold La;have e:(-b-sd d)/2= -((b-sd d)/2)-sd d:=by omega
 rw[e];rw[t1]at hp;generalize(b-sd d)/2=t at*;refine Mod.Hm.scaled (k:=⟨a,0⟩) (fun h=>ha (by have:=congrArg E.re h;simpa[ze]using this)) (fun z=>?_);have k:=Mod.Uz (s:=sd d) (m:=md d) (e:=a) (v1:=1) (v2:=1) (t1:=t) (t2:= -t-sd d) (t:=0) (s':=0) (n4:= -c) (c1:=c) (x:=1) (y:=0) (z:=0) (p:=p) (q:=q) (r:=r) ha (by omega) (by
  have e1:t*(-t-sd d)= -(t*t+sd d*t):=by grind
  have e2:a* -c= -(a*c):=by grind
  omega) (by
    have e3:a*1*c=a*c:=by grind
    omega) (ck _) (ck _) (by
      have:(1:Int)*1=1:=by decide
      rw[this];exact ck _) (by omega) (by rw[eo];exact hp) z
 rw[eo]at k;exact k
def Un (d:Int)(M:E→Prop):Prop:=∃X,Cl d (Pr d M X) Oo
theorem Un.cl {d:Int}(hd:Dn d){M L:E→Prop}(h:Un d M)(k:Cl d M L):Un d L:=by
 obtain⟨X,hX⟩:=h;exact⟨X,(k.symm.left X).trans hd.m hX⟩
theorem Te {d a b c:Int}(h:Of d a b c)(hd:Dn d):Cl d (Pr d Oo Oo) Oo:=by
 obtain⟨t1,t2,t3,t4⟩:=h.t;have h1:Of d 1 (sd d) (-md d):=⟨by omega⟩
 have:=h1.one hd;have e:La d 1 (sd d)=Oo:=by
   unfold La Oo;have:(sd d-sd d)/2=0:=by omega
   rw[this]
 rw[e]at this;exact this
theorem Uc {d:Int}(hd:Dn d)(A B C D:E→Prop):Cl d (Pr d (Pr d A B) (Pr d C D)) (Pr d (Pr d A C) (Pr d B D)):=by
 have h1:=Mod.Hm.assoc (s:=sd d) (m:=md d) A B (Pr d C D);have h2:Cl d (Pr d B (Pr d C D)) (Pr d C (Pr d B D)):=
  (Mod.Hm.assoc (s:=sd d) (m:=md d) B C D).symm.trans hd.m (((Mod.Hm.comm B C).left D).trans hd.m (Mod.Hm.assoc C B D))
 have h3:=Mod.Hm.prod hd.m (Mod.Hm.refl (sd d) (md d) A) h2;exact h1.trans hd.m (h3.trans hd.m (Mod.Hm.assoc A C (Pr d B D)).symm)
theorem Un.prod {d:Int}(hd:Dn d)(ho:Cl d (Pr d Oo Oo) Oo){M L:E→Prop}(h:Un d M)(k:Un d L):Un d (Pr d M L):=by
 obtain⟨X,hX⟩:=h;obtain⟨Y,hY⟩:=k;exact⟨Pr d X Y,(Uc hd M L X Y).trans hd.m ((Mod.Hm.prod hd.m hX hY).trans hd.m ho)⟩
theorem Uy:∀(n:Nat) (a b:Int),0≤a→0≤b→b<n→∃x y,a*x+b*y=cC a b:=by
 intro n;induction n with
 |zero=>intro a b _ _ h;omega
 |succ n ih=>
  intro a b a0 b0 h;by_cases hb:b=0
  ·subst hb;exact⟨1,0,by rw[NatL.zR a0];omega⟩
  ·have d1:=hE a b;have d2:=zE a hb;have d3:=aE a (show 0<b by omega);obtain⟨x,y,hxy⟩:=ih b (a%b) b0 d2 (by omega);refine⟨y,x-a/b*y,?_⟩;rw[←NatL.uY a0 (by omega),←hxy];have:a%b=a-b*(a/b):=by omega
   rw[this];grind
theorem fz (a b:Int):∃x y,a*x+b*y=cC a b:=by
 obtain⟨x,y,h⟩:=Uy ((ab b).toNat+1) (ab a) (ab b) (qB a) (qB b) (by have:=qB b;omega);rw[NatL.ie]at h;have ea:∃s,ab a=a*s:=by
  rcases fB a with⟨c1,c2⟩|⟨c1,c2⟩
  ·exact⟨1,by omega⟩
  ·exact⟨-1,by omega⟩
 have eb:∃s,ab b=b*s:=by
  rcases fB b with⟨c1,c2⟩|⟨c1,c2⟩
  ·exact⟨1,by omega⟩
  ·exact⟨-1,by omega⟩
 obtain⟨s,hs⟩:=ea;obtain⟨t,ht⟩:=eb;exact⟨s*x,t*y,by rw[←h,hs,ht];grind⟩
theorem jE (a b c:Int):cQ a b c↔cC (cC a b) c=1:=by
 constructor
 ·rintro⟨p,q,r,h⟩;have g1:=wC (cC a b) c;have g2:=bC (cC a b) c;have g3:=c6 g1 (wC a b);have g4:=c6 g1 (bC a b);have g0:=iD (cC a b) c;generalize cC (cC a b) c=g at*;have:g∣1:=by
   rw[←h];exact bs (bs (c6 g3 (ga _ _)) (c6 g4 (ga _ _))) (c6 g2 (ga _ _))
  have:=b7 (by decide) this;have hg:g≠0:=fun h=>by subst h;have h1:=dd.mp g3;have h2:=dd.mp g4;have h3:=dd.mp g2;subst h1;subst h2;subst h3;omega
  omega
 ·intro h;obtain⟨x,y,h1⟩:=fz a b;obtain⟨z,w,h2⟩:=fz (cC a b) c;exact⟨x*z,y*z,w,by rw[←h,←h2,←h1];grind⟩
theorem Of.prim {d a b c:Int}(h:Of d a b c)(hd:Dn d)(hu:Un d (La d a b)):cQ a b c:=by
 obtain⟨t1,t2,t3,t4⟩:=h.t;obtain⟨X,k,l,hk,hl,hX⟩:=hu;rw[jE];have g1:=wC (cC a b) c;have g2:=bC (cC a b) c;have g3:=c6 g1 (wC a b);have g4:=c6 g1 (bC a b);have g0:=iD (cC a b) c;generalize cC (cC a b) c=g at*;obtain⟨a0,ha⟩:=g3;obtain⟨b0,hb⟩:=g4;obtain⟨c0,hc⟩:=g2;unfold La at hX;generalize(b-sd d)/2=t at*;have key:∀x,Fo a t x→∃y,Fo a t y∧ml (sd d) (md d) ⟨t,1⟩ x=sm g y:=by
  intro x hx;obtain⟨i,hx⟩:=hx.gen;generalize x.im=j at*;subst hx;refine⟨⟨-(j*c0)*a+t*(i*a0+j*b0),i*a0+j*b0⟩,?_,?_⟩
  ·simp only[Fo];exact⟨-(j*c0),by grind⟩
  ·refine Mod.E.ext' ?_ ?_
   ·simp only[ml,sm];have e1:t*(i*a+t*j)+md d*(1*j)=i*a*t+j*(t*t+md d):=by grind
    have e2:t*t+md d=t*(2*t+sd d)-a*c:=by rw[←t2];grind
    rw[e1,e2,←t1,hb];have e3:g*(-(j*c0)*a+t*(i*a0+j*b0))= -(j*(g*c0)*a)+t*(i*(g*a0)+j*(g*b0)):=by grind
    rw[e3,←hc,←ha];grind
   ·simp only[ml,sm];have e1:t*j+1*(i*a+t*j)+sd d*(1*j)=i*a+j*(2*t+sd d):=by grind
    rw[e1,←t1,hb];have e3:g*(i*a0+j*b0)=i*(g*a0)+j*(g*b0):=by grind
    rw[e3,←ha]
 have all:∀z,Pr d (Fo a t) X z→∃y,Pr d (Fo a t) X y∧ml (sd d) (md d) ⟨t,1⟩ z=sm g y:=by
  intro z hz;induction hz with
  |zero=>exact⟨ze,Mod.Sp.zero,by rw[Mod.xv];exact Mod.E.ext' (by simp[sm,ze]) (by simp[sm,ze])⟩
  |mem h=>obtain⟨u,v,hu,hv,rfl⟩:=h;obtain⟨y,hy,e⟩:=key u hu;refine⟨ml (sd d) (md d) y v,Mod.Sp.mem ⟨y,v,hy,hv,rfl⟩,?_⟩;rw[←Mod.rO,e,Mod.bL,Mod.Qq,Mod.bL _ _ v y]
  |add _ _ p q=>obtain⟨y,hy,e⟩:=p;obtain⟨y',hy',e'⟩:=q;exact⟨ad y y',Mod.Sp.add hy hy',by rw[Mod.dr,e,e'];exact Mod.E.ext' (by simp only[sm,ad];grind) (by simp only[sm,ad];grind)⟩
  |neg _ p=>obtain⟨y,hy,e⟩:=p;exact⟨Mod.ng y,Mod.Sp.neg hy,by rw[Mod.ow,e];exact Mod.E.ext' (by simp only[sm,Mod.ng];grind) (by simp only[sm,Mod.ng];grind)⟩
 obtain⟨z0,hz0,e0⟩:=(hX _).mpr ⟨⟨1,0⟩,Oo.all _,rfl⟩;obtain⟨y,hy,e1⟩:=all z0 hz0;obtain⟨u,_,e2⟩:=(hX _).mp ⟨y,hy,rfl⟩;have e3:ml (sd d) (md d) l ⟨t,1⟩=ml (sd d) (md d) l (sm g u):=by
  have q1:ml (sd d) (md d) l ⟨1,0⟩=l:=Mod.E.ext' (by simp only[ml];grind) (by simp only[ml];grind);rw[q1]at e0;rw[Mod.Qq,←e2];have q2:ml (sd d) (md d) l ⟨t,1⟩=ml (sd d) (md d) k (ml (sd d) (md d) ⟨t,1⟩ z0):=by
   have:ml (sd d) (md d) l ⟨t,1⟩=ml (sd d) (md d) (ml (sd d) (md d) k z0) ⟨t,1⟩:=by rw[←e0]
   rw[this,Mod.rO,Mod.bL _ _ z0]
  rw[q2,e1,Mod.Qq]
 have e4:=Mod.xu hd.m hl e3;have e5:=congrArg E.im e4;simp only[sm]at e5;have hdv:g∣1:=⟨_,e5⟩
 have:=b7 (by decide) hdv;have hg:g≠0:=fun h=>by subst h;omega
 omega
theorem lg.same {d a b c a' b' c':Int}(hd:Dn d)(h:lg d a b c)(k:lg d a' b' c')(hc:Cl d (La d a b) (La d a' b')):a=a'∧b=b'∧c=c':=by
 obtain⟨t1,t2,t3,t4⟩:=h.of.t;obtain⟨u1,u2,_,_⟩:=k.of.t;obtain⟨p,q,r,u,hdet,e1,e2,e3⟩:=Mod.Uv hd.m h.a0 k.a0 t2 u2 hc;rw[←t1]at e2;rw[←u1]at e1 e2 e3;have he:z8 a' b' c' a b c:=⟨p,q,r,u,hdet,e1,e2,e3⟩
 exact pj k.a0 h.a0 k.inr k.sm h.inr h.sm he
open Go.Proofs.YteaakcmkpacpaaaGreat.NatL (ab fB qB cD yG GT cC iD wC bC pP bO tA tB sA xI)
open Go.Proofs.YteaakcmkpacpaaaGreat.Mod (Fo Hm PM E)
structure lT (d a b c:Int):Prop where
 fine:fJ a b c
 of:Of d a b c
 pr:cQ a b c
theorem lT.d {d a b c:Int}(h:lT d a b c):d<0∧ -4294967296≤d:=by
 have:=h.of.eq;have:=h.fine.d0;have:=h.fine.d1;omega
theorem lT.dn {d a b c:Int}(h:lT d a b c):Dn d:=Dn.of h.of h.d.1
theorem lT.un {d a b c:Int}(h:lT d a b c):Un d (La d a b):=⟨_,h.of.inv h.dn (by have:=h.fine.pos;omega) h.pr⟩
theorem lg.val {d a b c:Int}(h:lg d a b c)(hd:d<0)(hd1: -4294967296≤d):lT d a b c:=
 ⟨((z6 h.of h.a0 h.inr h.sm hd1).resolve_right (fun q=>q hd)).2.2.2,h.of,h.pr⟩
structure qH (d:Int)(M:E→Prop)(a b c:Int):Prop where
 red:lg d a b c
 cl:Cl d M (La d a b)
theorem qH.same {d a b c a' b' c':Int}{M L:E→Prop}(hd:Dn d)(h:qH d M a b c)(k:qH d L a' b' c')(hc:Cl d M L):a=a'∧b=b'∧c=c':=
 h.red.same hd k.red (h.cl.symm.trans hd.m (hc.trans hd.m k.cl))
theorem qH.turn {d a b c:Int}{M L:E→Prop}(hd:Dn d)(h:qH d M a b c)(hc:Cl d L M):qH d L a b c:=⟨h.red,hc.trans hd.m h.cl⟩
theorem qH.un {d a b c:Int}{M:E→Prop}(hd:Dn d)(hd1: -4294967296≤d)(h:qH d M a b c):Un d M:=Un.cl hd (h.red.val hd.neg hd1).un h.cl.symm
theorem wH {N:Nat}(hN:8589934600<N){d a b c:Int}(h:lT d a b c):∃a' b' c',Q51.f N a b c=some (a',b',c',0)∧qH d (La d a b) a' b' c'∧fJ a' b' c'∧∃p q r u,Q40.f N a b c=some (a',b',c',p,q,r,u,0):=by
 obtain⟨hd,hd1⟩:=h.d;obtain⟨a',b',c',t,u,v,w,k1,k2,k3,k4,k5,k6,k7,k8,k9,k10,k11,k12⟩:=oH hN h.fine;have cl:=h.of.cl hd (by have:=h.fine.pos;omega) k1;have hof:Of d a' b' c':=by
  refine⟨?_⟩;have:z8 a b c a' b' c':=⟨t,u,v,w,k1,k2,k3,k4⟩
  rw[this.disc];exact h.of.eq
 have cl':Cl d (La d a b) (La d a' b'):=by rw[k2,k3];exact cl
 have pr:cQ a' b' c':=hof.prim h.dn (Un.cl h.dn h.un cl');refine⟨a',b',c',?_,⟨⟨k5.pos,hof,k6,k7,pr⟩,cl'⟩,k5,t,u,v,w,k12⟩;unfold Q51.f;rw[k12];have c0:((0:Int) != 0)=false:=rfl;have c1:((1:Int) != 1)=false:=rfl;simp only[hA,c0,cond_false];rw[qI (by omega) h.fine.inb,(jE a b c).mp h.pr];simp only[hA,c1,cond_false]
theorem bj {N:Nat}{d a b c:Int}(h:lT d a b c):Q38.f N a b c=some 0:=by
 rcases zF N a b c with⟨_,h2⟩|⟨h2,_⟩
 ·exact h2
 ·exact absurd h.fine h2
theorem pR (N:Nat){d a b c:Int}(h:lT d a b c):Q37.f N a b c=some d:=by
 rw[(cH N a b c).1,if_pos h.fine.inb,yM h.fine.inb,h.of.eq]
theorem jq {N:Nat}(hN:4294967400<N){d a1 b1 c1 a2 b2 c2:Int}(hd:d<0)(hd1: -4294967296≤d)(h1:lg d a1 b1 c1)(h2:lg d a2 b2 c2):
  ∃a b c,Q52.f N a1 b1 c1 a2 b2 c2 d=some (a,b,c)∧qH d (Pr d (La d a1 b1) (La d a2 b2)) a b c:=by
 have dn:Dn d:=Dn.of h1.of hd;have u1:=(h1.val hd hd1).un;have u2:=(h2.val hd hd1).un;have ho:=Te h1.of dn;unfold Q52.f;by_cases hs:a1>a2
 ·obtain⟨a,b,c,k1,k2,k3,k4,k5,k6,k7⟩:=tS hN hd hd1 h2 h1 (fun y30 y31 y32=>some (y30,y31,y32));rw[decide_eq_true hs];have cl:=(Mod.Hm.comm (s:=sd d) (m:=md d) (La d a1 b1) (La d a2 b2)).trans dn.m k6;exact⟨a,b,c,k7,⟨k1,k3,k4,k5,k3.prim dn (Un.cl dn (Un.prod dn ho u1 u2) cl)⟩,cl⟩
 ·obtain⟨a,b,c,k1,k2,k3,k4,k5,k6,k7⟩:=tS hN hd hd1 h1 h2 (fun y30 y31 y32=>some (y30,y31,y32));rw[decide_eq_false hs];exact⟨a,b,c,k7,⟨k1,k3,k4,k5,k3.prim dn (Un.cl dn (Un.prod dn ho u1 u2) k6)⟩,k6⟩
theorem xQ {N:Nat}(hN:4294967400<N){d a1 b1 c1 a2 b2 c2:Int}{M L:E→Prop}(hd:Dn d)(hd1: -4294967296≤d)(h1:qH d M a1 b1 c1)(h2:qH d L a2 b2 c2):
  ∃a b c,Q52.f N a1 b1 c1 a2 b2 c2 d=some (a,b,c)∧qH d (Pr d M L) a b c:=by
 obtain⟨a,b,c,e,h⟩:=jq hN hd.neg hd1 h1.red h2.red;exact⟨a,b,c,e,h.turn hd (Mod.Hm.prod hd.m h1.cl h2.cl)⟩
theorem vE {N:Nat}(hN:8589934600<N){d a1 b1 c1 a2 b2 c2:Int}(h1:lT d a1 b1 c1)(h2:lT d a2 b2 c2):
  ∃a b c,Q92.f N a1 b1 c1 a2 b2 c2=some (a,b,c,0)∧qH d (Pr d (La d a1 b1) (La d a2 b2)) a b c:=by
 obtain⟨x1,y1,z1,e1,r1,_⟩:=wH hN h1;obtain⟨x2,y2,z2,e2,r2,_⟩:=wH hN h2;obtain⟨a,b,c,e,h⟩:=xQ (N:=N) (by omega) h1.dn h1.d.2 r1 r2;refine⟨a,b,c,?_,h⟩;have c0:((0:Int) != 0)=false:=rfl;have cd:(d != d)=false:=by simp
 unfold Q92.f;rw[bj h1];simp only[hA,c0,cond_false];rw[bj h2];simp only[hA,c0,cond_false];rw[e1];simp only[hA,c0,cond_false];rw[e2];simp only[hA,c0,cond_false];rw[pR N h1];simp only[hA];rw[pR N h2];simp only[hA,cd,cond_false];rw[e];rfl
theorem lg.over {d a b c:Int}(h:lg d a b c)(hd:d<0)(hd1: -4294967296≤d):lT d a (-b) c:=by
 have v:=(h.val hd hd1).fine;obtain⟨⟨i1,i2,i3⟩,i4,i5,i6⟩:=v;have e: -b* -b=b*b:=by grind
 refine⟨⟨⟨i1,by omega,i3⟩,i4,by omega,by omega⟩,⟨by rw[e];exact h.of.eq⟩,?_⟩;obtain⟨p,q,r,k⟩:=h.pr;exact⟨p, -q,r,by rw[←k];grind⟩
theorem jl {d a b c:Int}(h:lg d a b c)(hd:Dn d)(hd1: -4294967296≤d){M:E→Prop}(hM:Cl d M (La d a b)):Cl d (Pr d M (La d a (-b))) Oo:=
 (hM.left _).trans hd.m (h.of.inv hd (by have:=h.a0;omega) h.pr)
theorem iN {N:Nat}(hN:8589934600<N){d a b c:Int}(h:lT d a b c):∃x y z,Q53.f N a b c=some (x,y,z,0)∧lg d x y z∧Cl d (Pr d (La d a b) (La d x y)) Oo:=by
 obtain⟨a',b',c',e1,r1,f1,_⟩:=wH hN h;have dn:=h.dn;have v:=r1.red.over h.d.1 h.d.2;obtain⟨x,y,z,e2,r2,f2,p,q,r,u,e3⟩:=wH hN v;refine⟨x,y,z,?_,r2.red,?_⟩
 ·have c0:((0:Int) != 0)=false:=rfl;have w:aA (0-b')= -b':=by
   have:=f1.inb.2.1;rw[gA (by omega) (by omega)];omega
  unfold Q53.f;rw[e1];simp only[hA,c0,cond_false];rw[w,e3];rfl
 ·have h1:=jl r1.red dn h.d.2 r1.cl;have h2:Cl d (Pr d (La d a b) (La d a' (-b'))) (Pr d (La d a b) (La d x y)):=Mod.Hm.prod dn.m (Mod.Hm.refl _ _ _) r2.cl;exact h2.symm.trans dn.m h1
end Go.Proofs.YteaakcmkpacpaaaGreat.Pure
