import Derived.Test.YtijigofaaefldaaGreatA4
import Derived.KernelRfl
open Option renaming bind_some→pC
open Int renaming mul_le_mul_of_nonneg_left→hD,le_of_lt→aE,mul_le_mul_of_nonneg_right→hI,emod_lt_of_pos→hL,emod_nonneg→hQ,lt_or_le→pR,mul_nonneg→hS,pow_succ→p0,mul_ediv_add_emod→j3,ediv_nonneg→p3,pow_pos→c4,emod_add_mul_ediv→j5,pow_add→q5,natCast_mul→x5,mul_lt_mul_of_pos_left→p7,mul_ediv_cancel_left→x7,mul_comm→r8,ediv_emod_unique→y8,ediv_le_self→b9,gcd_dvd_left→c9,add_mul_emod_self_left→e9,mul_zero→ad,ediv_lt_iff_lt_mul→bq,mul_neg→ch,add_mul_ediv_left→cx,neg_mul_neg→cy,lt_ediv_add_one_mul_self→ed,mul_le_mul→eg,le_refl→en,lt_of_le_of_lt→fl,natAbs_natCast→fo,emod_eq_of_lt→gi,add_zero→gx,zero_add→gy,dvd_mul_of_dvd_left→ln,eq_ofNat_of_zero_le→mx,ediv_eq_zero_of_lt→ng,le_ediv_iff_mul_le→nk,neg_neg→nn,ediv_lt_of_lt_mul→pg,natAbs_dvd_natAbs→pj,mul_one→rp,mul_sub→ry,neg_mul→sl
open Nat renaming le_refl→hE,pow_le_pow_right→p4,pos_of_ne_zero→c7,shiftLeft_add_eq_or_of_lt→ds,mod_two_eq_zero_or_one→fp,lt_succ_of_lt→gp,lt_trichotomy→gw,gcd_comm→iv,lt_or_ge→ki,shiftLeft_eq→kj,mul_pos→sq
open List renaming replicate→zE,getD_eq_getElem?_getD→hF,drop_eq_nil_iff→hJ,length_cons→j1,length_take→o2,pairwise_iff_forall_sublist→y2,length_map→l5,length_pos_iff→n5,sum_cons→j6,countP_cons→p6,take_length→y7,replicate_succ→c8,take_of_length_le→k8,mem_map→x8,map_cons→h9,perm_ext_iff_of_nodup→k9,getElem?_set→ae,nodup_append→bd,pairwise_map→bm,mem_append→cz,getD_cons_succ→eb,map_congr_left→ec,drop_zero→ek,countP_congr→gn,getElem?_eq_getElem→il,getElem?_replicate→nb,length_flatMap→ps,map_map→px
open Classical renaming byContradiction→hT
open Rat renaming mul_le_mul_of_nonneg_right→hV,mul_le_mul_of_nonneg_left→hZ,le_of_lt→j2,intCast_le_intCast→j4,mul_nonneg→n4,intCast_mul→c5,intCast_natCast→p5,intCast_add→c6,mul_pos→x6,num_intCast→e7,le_trans→a8,intCast_inj→h8,intCast_lt_intCast→l8,le_of_mul_le_mul_right→l9,mul_lt_mul_of_pos_left→r9,le_of_mul_le_mul_left→x9,le_refl→cq,lt_floor_add_one→dd,mul_eq_zero→dk,pow_pos→eo,floor_def→fs,mul_assoc→gd,le_total→kk,den_intCast→nc,div_def→oj,den_mkRat→pn,num_mkRat→po,floor_le→py,mul_comm→rm
open BitVec renaming toNat_ofInt→ep,msb_eq_decide→pk
open Bool renaming not_false→pb
set_option linter.unusedVariables false
set_option linter.unusedSimpArgs false
namespace Go.Proofs.YtijigofaaefldaaGreat.Lat
def sm:Nat→(Nat→Rat)→Rat
 |0,_=>0
 |n+1,f=>sm n f+f n
theorem jD (f:Nat→Rat):sm 0 f=0:=rfl
theorem iB (n:Nat)(f:Nat→Rat):sm (n+1) f=sm n f+f n:=rfl
theorem zA {f g:Nat→Rat}:∀{n:Nat},(∀i,i<n→f i=g i)→sm n f=sm n g
 |0,_=>rfl
 |n+1,h=>by rw[iB,iB,zA fun i hi=>h i (by omega),h n (by omega)]
theorem iP (f g:Nat→Rat):∀n:Nat,sm n (fun i=>f i+g i)=sm n f+sm n g
 |0=>by simp only[jD];grind
 |n+1=>by simp only[iB,iP f g n];grind
theorem vL (f g:Nat→Rat):∀n:Nat,sm n (fun i=>f i-g i)=sm n f-sm n g
 |0=>by simp only[jD];grind
 |n+1=>by simp only[iB,vL f g n];grind
theorem tH (c:Rat)(f:Nat→Rat):∀n:Nat,sm n (fun i=>c*f i)=c*sm n f
 |0=>by simp only[jD];grind
 |n+1=>by simp only[iB,tH c f n];grind
theorem qN (c:Rat)(f:Nat→Rat)(n:Nat):sm n (fun i=>f i*c)=sm n f*c:=by
 rw[rm,←tH];exact zA fun i _=>rm _ _
theorem wC {f:Nat→Rat}:∀{n:Nat},(∀i,i<n→f i=0)→sm n f=0
 |0,_=>rfl
 |n+1,h=>by rw[iB,wC fun i hi=>h i (by omega),h n (by omega)];grind
theorem lE {f:Nat→Rat}(p:Nat):∀{n:Nat},p<n→(∀i,i<n→i≠p→f i=0)→sm n f=f p
 |0,hp,_=>by omega
 |n+1,hp,h=>by
  rw[iB];by_cases e:p=n
  ·subst e;rw[wC fun i hi=>h i (by omega) (by omega)];grind
  ·rw[lE p (n:=n) (by omega) fun i hi ne=>h i (by omega) ne,h n (by omega) (by omega)];grind
theorem aZ (f:Nat→Rat):∀n:Nat,sm (n+1) f=f 0+sm n (fun i=>f (i+1))
 |0=>by simp only[iB,jD];grind
 |n+1=>by rw[iB,aZ f n,iB];grind
theorem ee (f:Nat→Nat→Rat)(m:Nat):∀n:Nat,sm n (fun i=>sm m (fun j=>f i j))=sm m (fun j=>sm n (fun i=>f i j))
 |0=>by rw[jD,wC];intro i _;rfl
 |n+1=>by rw[iB,ee f m n,←iP];exact zA fun i _=>rfl
theorem gU {f:Nat→Rat}:∀{n:Nat},(∀i,i<n→0≤f i)→0≤sm n f
 |0,_=>by rw[jD];grind
 |n+1,h=>by rw[iB];have:=gU fun i hi=>h i (gp hi);have:=h n (by omega);grind
theorem Bg {f g:Nat→Rat}:∀{n:Nat},(∀i,i<n→f i≤g i)→sm n f≤sm n g
 |0,_=>by rw[jD,jD];grind
 |n+1,h=>by rw[iB,iB];have:=Bg fun i hi=>h i (gp hi);have:=h n (by omega);grind
theorem gW {f:Nat→Rat}{n:Nat}(h:∀i,i<n→0≤f i){p:Nat}(hp:p<n):f p≤sm n f:=by
 induction n with
 |zero=>omega
 |succ n ih=>
  rw[iB];have h0:=gU fun i hi=>h i (gp hi);by_cases e:p=n
  ·subst e;grind
  ·have:=ih (fun i hi=>h i (by omega)) (by omega);have:=h n (by omega);grind
theorem Bh (f:Nat→Rat)(n:Nat):sm n (fun i=> -f i)= -sm n f:=by
 have:=tH (-1) f n;rw[show(-1:Rat)*sm n f= -sm n f by grind]at this;rw[←this];exact zA fun i _=>by grind
def Wh (q:Rat):Prop:=∃z:Int,q=(z:Rat)
theorem tE (z:Int):Wh (z:Rat):=⟨z,rfl⟩
theorem ph:Wh 0:=⟨0,by simp⟩
theorem oV:Wh 1:=⟨1,by simp⟩
theorem mP {a b:Rat}:Wh a→Wh b→Wh (a+b)
 |⟨x,hx⟩,⟨y,hy⟩=>⟨x+y,by rw[hx,hy,c6]⟩
theorem mE {a b:Rat}:Wh a→Wh b→Wh (a*b)
 |⟨x,hx⟩,⟨y,hy⟩=>⟨x*y,by rw[hx,hy,c5]⟩
theorem fk {a:Rat}:Wh a→Wh (-a)
 |⟨x,hx⟩=>⟨-x,by rw[hx,Rat.intCast_neg]⟩
theorem fm {a b:Rat}(ha:Wh a)(hb:Wh b):Wh (a-b):=by
 rw[show a-b=a+ -b by grind];exact mP ha (fk hb)
theorem cO {f:Nat→Rat}:∀{n:Nat},(∀i,i<n→Wh (f i))→Wh (sm n f)
 |0,_=>ph
 |n+1,h=>mP (cO fun i hi=>h i (by omega)) (h n (by omega))
theorem al {q:Rat}:Wh q→0<q→1≤q
 |⟨x,hx⟩,h=>by
  rw[hx]at h⊢;have h0:(0:Int)<x:=by rw[←l8];simpa using h
  have:((1:Int):Rat)≤(x:Rat):=by rw[j4];omega
  simpa using this
def sk (i a:Nat):Nat:=if a<i then a else a+1
def wu (i:Nat):Rat:=if i%2=0 then 1 else-1
theorem Ba (i:Nat):wu (i+1)= -wu i:=by
 unfold wu;by_cases h:i%2=0
 ·rw[if_pos h,if_neg (by omega)]
 ·rw[if_neg h,if_pos (by omega)];grind
theorem H8 (i:Nat):Wh (wu i):=by
 unfold wu;split
 ·exact oV
 ·exact fk oV
def kK:Nat→(Nat→Nat→Rat)→Rat
 |0,_=>1
 |n+1,M=>sm (n+1) fun i=>wu i*M i 0*kK n fun a b=>M (sk i a) (b+1)
theorem gH (n:Nat)(M:Nat→Nat→Rat):kK (n+1) M=sm (n+1) fun i=>wu i*M i 0*kK n fun a b=>M (sk i a) (b+1):=rfl
theorem ri {i a n:Nat}(h:a<n):sk i a<n+1:=by unfold sk;split<;>omega
theorem Fh (i a:Nat):sk i a≠i:=by unfold sk;split<;>omega
theorem wG:∀{n:Nat} {M P:Nat→Nat→Rat},(∀i j,i<n→j<n→M i j=P i j)→kK n M=kK n P
 |0,_,_,_=>rfl
 |n+1,M,P,h=>by rw[gH,gH];refine zA fun i hi=>?_;rw[h i 0 hi (by omega),wG (P:=fun a b=>P (sk i a) (b+1)) fun a b ha hb=>h _ _ (ri ha) (by omega)]
theorem mi:∀{n:Nat} {M:Nat→Nat→Rat},(∀i j,i<n→j<n→Wh (M i j))→Wh (kK n M)
 |0,_,_=>oV
 |n+1,M,h=>by rw[gH];exact cO fun i hi=>mE (mE (H8 i) (h i 0 hi (by omega))) (mi fun a b ha hb=>h _ _ (ri ha) (by omega))
theorem pP (c:Rat):∀{n p:Nat} {M U V:Nat→Nat→Rat},p<n→(∀i j,i≠p→M i j=U i j∧M i j=V i j)→(∀j,M p j=U p j+c*V p j)→kK n M=kK n U+c*kK n V
 |0,p,_,_,_,hp,_,_=>by omega
 |n+1,p,M,U,V,hp,h,e=>by
  rw[gH,gH,gH,←tH,←iP];refine zA fun i hi=>?_;by_cases hip:i=p
  ·subst hip;have e1:kK n (fun a b=>M (sk i a) (b+1))=kK n (fun a b=>U (sk i a) (b+1)):=wG fun a b _ _=>(h _ _ (Fh i a)).1;have e2:kK n (fun a b=>M (sk i a) (b+1))=kK n (fun a b=>V (sk i a) (b+1)):=wG fun a b _ _=>(h _ _ (Fh i a)).2;rw[←e2,←e1,e 0];grind
  ·have hr:=h i 0 hip;rw[pP (n:=n) c (p:=if p<i then p else p-1) (M:=fun a b=>M (sk i a) (b+1)) (U:=fun a b=>U (sk i a) (b+1)) (V:=fun a b=>V (sk i a) (b+1))
    (by split<;>omega) (fun a b ha=>h _ _ (by revert ha;((unfold sk;repeat' split)<;>omega)))
    (fun j=>by
     have:sk i (if p<i then p else p-1)=p:=by((unfold sk;repeat' split)<;>omega)
     simp only[this];exact e _)]
   rw[←hr.2,←hr.1];grind
theorem sR:∀{n p:Nat} {M:Nat→Nat→Rat},p+1<n→(∀j,M p j=M (p+1) j)→kK n M=0
 |0,_,_,h,_=>by omega
 |n+1,p,M,hp,e=>by
  rw[gH];have hz:∀i,i<n+1→i≠p→i≠p+1→wu i*M i 0*kK n (fun a b=>M (sk i a) (b+1))=0:=by
   intro i hi h1 h2;rw[sR (n:=n) (p:=if p<i then p else p-1) (by split<;>omega) (fun j=>by
    have a1:sk i (if p<i then p else p-1)=p:=by((unfold sk;repeat' split)<;>omega)
    have a2:sk i ((if p<i then p else p-1)+1)=p+1:=by((unfold sk;repeat' split)<;>omega)
    simp only[a1,a2];exact e _)]
   grind
  have hs:kK n (fun a b=>M (sk p a) (b+1))=kK n (fun a b=>M (sk (p+1) a) (b+1)):=wG fun a b _ _=>by
   by_cases ha:a=p
   ·subst ha;rw[show sk a a=a+1 by unfold sk;split<;>omega,show sk (a+1) a=a by unfold sk;split<;>omega];exact(e _).symm
   ·rw[show sk p a=sk (p+1) a by((unfold sk;repeat' split)<;>omega)]
  have key:∀m,p+1<m→m≤n+1→sm m (fun i=>wu i*M i 0*kK n (fun a b=>M (sk i a) (b+1)))=0:=by
   intro m;induction m with
   |zero=>intro h;omega
   |succ m ih=>
    intro h1 h2;rw[iB];by_cases hm:m=p+1
    ·subst hm;rw[iB,wC fun i hi=>hz i (by omega) (by omega) (by omega),hs,Ba,e 0];grind
    ·rw[ih (by omega) (by omega),hz m (by omega) (by omega) hm];grind
  exact key (n+1) (by omega) (hE _)
def rs (M:Nat→Nat→Rat)(p:Nat)(v:Nat→Rat):Nat→Nat→Rat:=fun i j=>if i=p then v j else M i j
theorem aH (M:Nat→Nat→Rat)(p:Nat)(v:Nat→Rat)(j:Nat):rs M p v p j=v j:=if_pos rfl
theorem eF (M:Nat→Nat→Rat){p i:Nat}(v:Nat→Rat)(j:Nat)(h:i≠p):rs M p v i j=M i j:=if_neg h
theorem yi {n p:Nat}{M P:Nat→Nat→Rat}(hp:p+1<n)(h:∀i j,i≠p→i≠p+1→P i j=M i j)(h1:∀j,P p j=M (p+1) j)(h2:∀j,P (p+1) j=M p j):kK n P= -kK n M:=by
 let s:Nat→Rat:=fun j=>M p j+1*M (p+1) j
 have e0:kK n (rs (rs M p s) (p+1) s)=0:=sR hp fun j=>by rw[aH,eF _ _ _ (by omega),aH]
 have e1:=pP (M:=rs (rs M p s) (p+1) s) (U:=rs (rs M p s) (p+1) (M p)) (V:=rs (rs M p s) (p+1) (M (p+1))) 1 (n:=n) (p:=p+1) hp
  (fun i j hi=>⟨by rw[eF _ _ _ hi,eF _ _ _ hi],by rw[eF _ _ _ hi,eF _ _ _ hi]⟩) (fun j=>by rw[aH,aH,aH])
 have e2:=pP (M:=rs (rs M p s) (p+1) (M p)) (U:=rs M (p+1) (M p)) (V:=P) 1 (n:=n) (p:=p) (by omega)
  (fun i j hi=>by
   by_cases hi2:i=p+1
   ·subst hi2;exact⟨by rw[aH,aH],by rw[aH,h2]⟩
   ·exact⟨by rw[eF _ _ _ hi2,eF _ _ _ hi,eF _ _ _ hi2],by rw[eF _ _ _ hi2,eF _ _ _ hi,h i j hi hi2]⟩)
  (fun j=>by rw[eF _ _ _ (by omega),aH,eF _ _ _ (by omega),h1])
 have e3:=pP (M:=rs (rs M p s) (p+1) (M (p+1))) (U:=M) (V:=rs M p (M (p+1))) 1 (n:=n) (p:=p) (by omega)
  (fun i j hi=>by
   by_cases hi2:i=p+1
   ·subst hi2;exact⟨by rw[aH],by rw[aH,eF _ _ _ hi]⟩
   ·exact⟨by rw[eF _ _ _ hi2,eF _ _ _ hi],by rw[eF _ _ _ hi2,eF _ _ _ hi,eF _ _ _ hi]⟩)
  (fun j=>by rw[eF _ _ _ (by omega),aH,aH])
 have e4:kK n (rs M (p+1) (M p))=0:=sR hp fun j=>by rw[aH,eF _ _ _ (by omega)]
 have e5:kK n (rs M p (M (p+1)))=0:=sR hp fun j=>by rw[aH,eF _ _ _ (by omega)]
 rw[e4]at e2;rw[e5]at e3;rw[e0,e2,e3]at e1;grind
theorem tR {n p:Nat}:∀{d:Nat} {M:Nat→Nat→Rat},p+d+1<n→(∀j,M p j=M (p+d+1) j)→kK n M=0
 |0,_,h,e=>sR h e
 |d+1,M,h,e=>by
  let P:Nat→Nat→Rat:=fun i j=>if i=p+d+1 then M (p+d+2) j else if i=p+d+2 then M (p+d+1) j else M i j
  have h1:=yi (P:=P) (M:=M) (n:=n) (p:=p+d+1) (by omega) (fun i j a b=>by show ite _ _ _=_;rw[if_neg a,if_neg b])
   (fun j=>by show ite _ _ _=_;rw[if_pos rfl]) (fun j=>by show ite _ _ _=_;rw[if_neg (by omega),if_pos rfl])
  have h2:=tR (n:=n) (p:=p) (d:=d) (M:=P) (by omega) (fun j=>by show ite _ _ _=ite _ _ _;rw[if_neg (by omega),if_neg (by omega),if_pos rfl];exact e j);rw[h2]at h1;grind
theorem mh {n q:Nat}{M P:Nat→Nat→Rat}(c:Rat)(hq:q<n)(h0:0<q)(h:∀i j,i≠q→P i j=M i j)(h1:∀j,P q j=M q j+c*M 0 j):kK n P=kK n M:=by
 have e:=pP (M:=P) (U:=M) (V:=rs M q (M 0)) c hq (fun i j hi=>⟨h i j hi,by rw[eF _ _ _ hi,h i j hi]⟩) (fun j=>by rw[aH];exact h1 j);have:kK n (rs M q (M 0))=0:=by
  obtain⟨d,rfl⟩:∃d,q=d+1:=⟨q-1,by omega⟩
  refine tR (p:=0) (d:=d) (by omega) fun j=>?_;rw[show 0+d+1=d+1 by omega,aH,eF _ _ _ (by omega)]
 rw[this]at e;grind
theorem q7 {n:Nat}(M:Nat→Nat→Rat)(c:Nat→Rat):∀k,k<n→kK n (fun i j=>if 0<i∧i≤k then M i j+c i*M 0 j else M i j)=kK n M
 |0,_=>wG fun i j _ _=>if_neg (by omega)
 |k+1,h=>by
  rw[←q7 M c k (by omega)];refine mh (q:=k+1) (c (k+1)) h (by omega) (fun i j hi=>?_) (fun j=>?_)
  ·by_cases h1:0<i∧i≤k
   ·rw[if_pos (by omega),if_pos h1]
   ·rw[if_neg (by omega),if_neg h1]
  ·rw[if_pos (by omega),if_neg (by omega),if_neg (by omega)]
theorem sy {n:Nat}{M:Nat→Nat→Rat}(h:M 0 0≠0):kK (n+1) M=M 0 0*kK n fun i j=>M (i+1) (j+1)-M (i+1) 0*M 0 (j+1)/M 0 0:=by
 rw[←q7 M (fun i=> - (M i 0/M 0 0)) n (by omega),gH,lE 0 (by omega)]
 ·rw[show wu 0=1 from rfl,if_neg (by omega)];rw[show(1:Rat)*M 0 0=M 0 0 by grind];congr 1;refine wG fun i j hi hj=>?_;rw[show sk 0 i=i+1 by unfold sk;rw[if_neg (by omega)],if_pos (by omega)];grind
 ·intro i hi h0;rw[if_pos (by omega)];have:M i 0+ -(M i 0/M 0 0)*M 0 0=0:=by grind
  rw[this];grind
def el (M:Nat→Nat→Rat):Nat→Nat→Nat→Rat
 |0=>M
 |r+1=>fun i j=>el M r i j-el M r i r*el M r r j/el M r r r
def dp (M:Nat→Nat→Rat):Nat→Rat
 |0=>1
 |r+1=>dp M r*el M r r r
def Dt (M:Nat→Nat→Rat):Nat→Nat→Rat:=fun i j=>M (i+1) (j+1)-M (i+1) 0*M 0 (j+1)/M 0 0
theorem wQ (M:Nat→Nat→Rat):∀r i j,el (Dt M) r i j=el M (r+1) (i+1) (j+1)
 |0,_,_=>rfl
 |r+1,i,j=>by show el (Dt M) r i j-el (Dt M) r i r*el (Dt M) r r j/el (Dt M) r r r=_;rw[wQ M r,wQ M r,wQ M r,wQ M r];rfl
theorem ym (M:Nat→Nat→Rat):∀r,M 0 0*dp (Dt M) r=dp M (r+1)
 |0=>by show M 0 0*1=1*M 0 0;grind
 |r+1=>by show M 0 0*(dp (Dt M) r*el (Dt M) r r r)=dp M (r+1)*el M (r+1) (r+1) (r+1);rw[←ym M r,wQ];grind
def bi (r i a:Nat):Nat:=if a<r then a else i
theorem zW:∀(r:Nat) (M:Nat→Nat→Rat) (i j:Nat),r≤i→r≤j→(∀l,l<r→el M l l l≠0)→kK (r+1) (fun a b=>M (bi r i a) (bi r j b))=dp M r*el M r i j
 |0,M,i,j,_,_,_=>by show sm 1 (fun _=>_)=_;rw[iB,jD];show 0+(wu 0*M i j*1)=1*M i j;rw[show wu 0=1 from rfl];grind
 |r+1,M,i,j,hi,hj,h=>by
  obtain⟨i,rfl⟩:∃k,i=k+1:=⟨i-1,by omega⟩
  obtain⟨j,rfl⟩:∃k,j=k+1:=⟨j-1,by omega⟩
  have h0:M 0 0≠0:=h 0 (by omega);rw[sy (by simp only[bi];rw[if_pos (by omega)];exact h0)];have:=zW r (Dt M) i j (by omega) (by omega) (fun l hl=>by rw[wQ];exact h (l+1) (by omega));rw[wQ]at this;rw[←ym,gd,←this];have b0:∀k,bi (r+1) k 0=0:=fun k=>if_pos (by omega);have bs:∀k a,bi (r+1) (k+1) (a+1)=bi r k a+1:=fun k a=>by unfold bi;split<;>split<;>omega
  simp only[b0,bs];rfl
theorem yt {M:Nat→Nat→Rat}{n r i j:Nat}(hM:∀i j,i<n→j<n→Wh (M i j))(hi:r≤i)(hj:r≤j)(hi':i<n)(hj':j<n)(h:∀l,l<r→el M l l l≠0):Wh (dp M r*el M r i j):=by
 rw[←zW r M i j hi hj h];exact mi fun a b ha hb=>hM _ _ (by unfold bi;split<;>omega) (by unfold bi;split<;>omega)
theorem Hq {M:Nat→Nat→Rat}:∀{r:Nat},(∀l,l<r→el M l l l≠0)→dp M r≠0
 |0,_=>by show(1:Rat)≠0;grind
 |r+1,h=>by
  have h1:=Hq (M:=M) (r:=r) fun l hl=>h l (by omega);have h2:=h r (by omega);show dp M r*el M r r r≠0;intro e;rcases dk.1 e with h|h
  ·exact h1 h
  ·exact h2 h
theorem dD {M:Nat→Nat→Rat}:∀{r:Nat},(∀l,l<r→0<el M l l l)→0<dp M r
 |0,_=>by show(0:Rat)<1;grind
 |r+1,h=>x6 (dD fun l hl=>h l (by omega)) (h r (by omega))
theorem Bx {t u v s w p e f g h:Rat}(hp:p≠0)(hh:h≠0)(eh:h=p*g-f*e):
  t-u*v/p- (s-u*e/p)*(w-f*v/p)/(g-f*e/p)=t- (u*v*g+s*w*p-s*f*v-u*e*w)/h:=by
 have h1:g-f*e/p=h/p:=by grind
 rw[h1];grind
theorem uJ {M:Nat→Nat→Rat}:∀{r l:Nat},l<r→(∀a,a<r→el M a a a≠0)→∀a,el M r a l=0∧el M r l a=0
 |r+1,l,hl,h,a=>by
  show el M r a l-el M r a r*el M r r l/el M r r r=0∧el M r l a-el M r l r*el M r r a/el M r r r=0;have hr:=h r (by omega);by_cases e:l=r
  ·subst e;constructor<;>grind
  ·have h0:=fun a=>uJ (r:=r) (l:=l) (by omega) (fun b hb=>h b (by omega)) a;rw[(h0 a).1,(h0 r).1,(h0 a).2,(h0 r).2];constructor<;>grind
theorem pE {M:Nat→Nat→Rat}(h:∀a b,M a b=M b a):∀r a b,el M r a b=el M r b a
 |0,a,b=>h a b
 |r+1,a,b=>by show el M r a b-el M r a r*el M r r b/el M r r r=el M r b a-el M r b r*el M r r a/el M r r r;rw[pE h r a b,pE h r a r,pE h r r b,rm]
theorem eX {M P:Nat→Nat→Rat}(h:∀a b,M a b=P a b):∀r a b,el M r a b=el P r a b
 |0,a,b=>h a b
 |r+1,a,b=>by show el M r a b-el M r a r*el M r r b/el M r r r=el P r a b-el P r a r*el P r r b/el P r r r;rw[eX h r a b,eX h r a r,eX h r r b,eX h r r r]
theorem z7 {M P:Nat→Nat→Rat}{n:Nat}(h:∀a b,a<n→b<n→M a b=P a b):∀r a b,r≤n→a<n→b<n→el M r a b=el P r a b
 |0,a,b,_,ha,hb=>h a b ha hb
 |r+1,a,b,hr,ha,hb=>by show el M r a b-el M r a r*el M r r b/el M r r r=el P r a b-el P r a r*el P r r b/el P r r r;rw[z7 h r a b (by omega) ha hb,z7 h r a r (by omega) ha (by omega),z7 h r r b (by omega) (by omega) hb,z7 h r r r (by omega) (by omega) (by omega)]
theorem yn {M P:Nat→Nat→Rat}{n:Nat}(h:∀a b,a<n→b<n→M a b=P a b):∀r,r≤n→dp M r=dp P r
 |0,_=>rfl
 |r+1,hr=>by show dp M r*el M r r r=dp P r*el P r r r;rw[yn h r (by omega),z7 h r r r (by omega) (by omega) (by omega)]
def sh (i j:Nat)(q:Rat)(M:Nat→Nat→Rat):Nat→Nat→Rat:=fun a b=>
 if a=i then if b=i then M i i-q*M j i-q*M i j+q*q*M j j else M i b-q*M j b
 else if b=i then M a i-q*M a j else M a b
theorem w9 (i j:Nat)(q:Rat)(M:Nat→Nat→Rat):sh i j q M i i=M i i-q*M j i-q*M i j+q*q*M j j:=by simp[sh]
theorem pM {i b:Nat}(j:Nat)(q:Rat)(M:Nat→Nat→Rat)(h:b≠i):sh i j q M i b=M i b-q*M j b:=by simp[sh,h]
theorem vS {i a:Nat}(j:Nat)(q:Rat)(M:Nat→Nat→Rat)(h:a≠i):sh i j q M a i=M a i-q*M a j:=by simp[sh,h]
theorem lI {i a b:Nat}(j:Nat)(q:Rat)(M:Nat→Nat→Rat)(ha:a≠i)(hb:b≠i):sh i j q M a b=M a b:=by simp[sh,ha,hb]
theorem qG {M:Nat→Nat→Rat}{i j:Nat}{q:Rat}(hj:j<i):∀r,r≤j→(∀l,l<r→el M l l l≠0)→∀a b,el (sh i j q M) r a b=sh i j q (el M r) a b
 |0,_,_,_,_=>rfl
 |r+1,hr,hp,a,b=>by
  have ih:=qG (q:=q) hj r (by omega) fun l hl=>hp l (by omega);show el (sh i j q M) r a b-el (sh i j q M) r a r*el (sh i j q M) r r b/el (sh i j q M) r r r=sh i j q (fun a b=>el M r a b-el M r a r*el M r r b/el M r r r) a b;have hri:r≠i:=by omega
  have h0:=hp r (by omega);rw[ih,ih,ih,ih,lI _ _ _ hri hri];by_cases ha:a=i
  ·subst ha;by_cases hb:b=a
   ·subst hb;rw[w9,w9,pM _ _ _ hri,vS _ _ _ hri];grind
   ·rw[pM _ _ _ hb,pM _ _ _ hb,pM _ _ _ hri,lI _ _ _ hri hb];grind
  ·by_cases hb:b=i
   ·subst hb;rw[vS _ _ _ ha,vS _ _ _ ha,vS _ _ _ hri,lI _ _ _ ha hri];grind
   ·rw[lI _ _ _ ha hb,lI _ _ _ ha hb,lI _ _ _ ha hri,lI _ _ _ hri hb]
theorem lK {M:Nat→Nat→Rat}{i j:Nat}{q:Rat}(hj:j<i)(hp:∀l,l≤j→el M l l l≠0):∀r,j<r→∀a b,el (sh i j q M) r a b=el M r a b
 |r+1,hr,a,b=>by
  by_cases e:r=j
  ·subst e;have ih:=qG (q:=q) hj r (hE _) fun l hl=>hp l (by omega);show el (sh i r q M) r a b-el (sh i r q M) r a r*el (sh i r q M) r r b/el (sh i r q M) r r r=el M r a b-el M r a r*el M r r b/el M r r r;have hri:r≠i:=by omega
   have h0:=hp r (by omega);rw[ih,ih,ih,ih,lI _ _ _ hri hri];by_cases ha:a=i
   ·subst ha;by_cases hb:b=a
    ·subst hb;rw[w9,pM _ _ _ hri,vS _ _ _ hri];grind
    ·rw[pM _ _ _ hb,pM _ _ _ hri,lI _ _ _ hri hb];grind
   ·by_cases hb:b=i
    ·subst hb;rw[vS _ _ _ ha,vS _ _ _ hri,lI _ _ _ ha hri];grind
    ·rw[lI _ _ _ ha hb,lI _ _ _ ha hri,lI _ _ _ hri hb]
  ·have ih:=lK (q:=q) hj hp r (by omega);show el (sh i j q M) r a b-el (sh i j q M) r a r*el (sh i j q M) r r b/el (sh i j q M) r r r=el M r a b-el M r a r*el M r r b/el M r r r;rw[ih,ih,ih,ih]
theorem pH {M:Nat→Nat→Rat}{i j:Nat}{q:Rat}(hj:j<i){r:Nat}(hp:∀l,l<r→el M l l l≠0):el (sh i j q M) r r r=el M r r r:=by
 by_cases h:r≤j
 ·rw[qG hj r h hp,lI _ _ _ (by omega) (by omega)]
 ·rw[lK hj (fun l hl=>hp l (by omega)) r (by omega)]
theorem mU {M:Nat→Nat→Rat}{i j:Nat}{q:Rat}(hj:j<i):∀{r:Nat},(∀l,l<r→el M l l l≠0)→dp (sh i j q M) r=dp M r
 |0,_=>rfl
 |r+1,h=>by show dp (sh i j q M) r*el (sh i j q M) r r r=dp M r*el M r r r;rw[mU hj fun l hl=>h l (by omega),pH hj fun l hl=>h l (by omega)]
def tr (k a:Nat):Nat:=if a=k then k+1 else if a=k+1 then k else a
theorem j0 (k:Nat):tr k k=k+1:=by simp[tr]
theorem oQ (k:Nat):tr k (k+1)=k:=by unfold tr;rw[if_neg (by omega),if_pos rfl]
theorem kH {k a:Nat}(h:a≠k)(h1:a≠k+1):tr k a=a:=by simp[tr,h,h1]
theorem ko (k a:Nat):tr k (tr k a)=a:=by
 unfold tr;repeat' split
 all_goals omega
theorem zK {k a n:Nat}(h:k+1<n)(ha:a<n):tr k a<n:=by
 unfold tr;repeat' split
 all_goals omega
def sw (k:Nat)(M:Nat→Nat→Rat):Nat→Nat→Rat:=fun a b=>M (tr k a) (tr k b)
theorem cG {M:Nat→Nat→Rat}{k:Nat}:∀r,r≤k→∀a b,el (sw k M) r a b=el M r (tr k a) (tr k b)
 |0,_,_,_=>rfl
 |r+1,hr,a,b=>by have ih:=cG (M:=M) (k:=k) r (by omega);show el (sw k M) r a b-el (sw k M) r a r*el (sw k M) r r b/el (sw k M) r r r=el M r (tr k a) (tr k b)-el M r (tr k a) r*el M r r (tr k b)/el M r r r;rw[ih,ih,ih,ih,kH (a:=r) (by omega) (by omega)]
def nY (k:Nat)(M:Nat→Nat→Rat):Rat:=el M k k k*el M k (k+1) (k+1)-el M k (k+1) k*el M k k (k+1)
theorem aS {M:Nat→Nat→Rat}{k:Nat}(h:el M k k k≠0):el M k k k*el M (k+1) (k+1) (k+1)=nY k M:=by
 show el M k k k*(el M k (k+1) (k+1)-el M k (k+1) k*el M k k (k+1)/el M k k k)=_;unfold nY;grind
theorem yr {M:Nat→Nat→Rat}{k:Nat}(h:el M k k k≠0)(h2:nY k M≠0)(a b:Nat):
  el M (k+2) a b=el M k a b- (el M k a k*el M k k b*el M k (k+1) (k+1)+el M k a (k+1)*el M k (k+1) b*el M k k k-el M k a (k+1)*el M k (k+1) k*el M k k b-el M k a k*el M k k (k+1)*el M k (k+1) b)/nY k M:=
 Bx h h2 rfl
theorem wK {M:Nat→Nat→Rat}{k:Nat}:el (sw k M) k k k=el M k (k+1) (k+1):=by
 rw[cG k (hE _),j0]
theorem fb {M:Nat→Nat→Rat}{k:Nat}:nY k (sw k M)=nY k M:=by
 unfold nY;simp only[cG k (hE _),j0,oQ];grind
theorem sO {M:Nat→Nat→Rat}{k:Nat}(h:el M k k k≠0)(h1:el M k (k+1) (k+1)≠0)(h2:nY k M≠0):∀r,k+2≤r→∀a b,el (sw k M) r a b=el M r (tr k a) (tr k b)
 |r+1,hr,a,b=>by
  by_cases e:r=k+1
  ·subst e;show el (sw k M) (k+2) a b=el M (k+2) (tr k a) (tr k b);rw[yr (by rw[wK];exact h1) (by rw[fb];exact h2),yr h h2,fb];simp only[cG k (hE _),j0,oQ];grind
  ·have ih:=sO h h1 h2 r (by omega);show el (sw k M) r a b-el (sw k M) r a r*el (sw k M) r r b/el (sw k M) r r r=el M r (tr k a) (tr k b)-el M r (tr k a) r*el M r r (tr k b)/el M r r r;rw[ih,ih,ih,ih,kH (a:=r) (by omega) (by omega)]
theorem bS {M:Nat→Nat→Rat}{k:Nat}(h1:el M k (k+1) (k+1)≠0):el M k (k+1) (k+1)*el (sw k M) (k+1) (k+1) (k+1)=nY k M:=by
 have:=aS (M:=sw k M) (k:=k) (by rw[wK];exact h1);rw[wK,fb]at this;exact this
theorem aJ {M:Nat→Nat→Rat}{k:Nat}:∀r,r≤k→dp (sw k M) r=dp M r
 |0,_=>rfl
 |r+1,h=>by show dp (sw k M) r*el (sw k M) r r r=dp M r*el M r r r;rw[aJ r (by omega),cG r (by omega),kH (by omega) (by omega)]
theorem wR {M:Nat→Nat→Rat}{k:Nat}:dp (sw k M) (k+1)=dp M k*el M k (k+1) (k+1):=by
 show dp (sw k M) k*el (sw k M) k k k=_;rw[aJ k (hE _),wK]
theorem pO {M:Nat→Nat→Rat}{k:Nat}(h:el M k k k≠0)(h1:el M k (k+1) (k+1)≠0)(h2:nY k M≠0):∀r,k+2≤r→dp (sw k M) r=dp M r
 |r+1,hr=>by
  show dp (sw k M) r*el (sw k M) r r r=dp M r*el M r r r;by_cases e:r=k+1
  ·subst e;rw[wR,gd,bS h1,←aS h];show _=dp M k*el M k k k*_;rw[gd]
  ·rw[pO h h1 h2 r (by omega),sO h h1 h2 r (by omega),kH (by omega) (by omega)]
def qQ (M:Nat→Nat→Rat):Prop:=∀a b,M a b=M b a
def PD (n:Nat)(M:Nat→Nat→Rat):Prop:=∀r,r<n→0<el M r r r
theorem PD.ne {n:Nat}{M:Nat→Nat→Rat}(h:PD n M){r:Nat}(hr:r<n):el M r r r≠0:=by have:=h r hr;grind
theorem PD.less {n m:Nat}{M:Nat→Nat→Rat}(h:PD n M)(hm:m≤n):PD m M:=fun r hr=>h r (by omega)
theorem PD.up {n:Nat}{M P:Nat→Nat→Rat}(hp:PD n M)(h:∀a b,a<n→b<n→M a b=P a b):PD n P:=fun r hr=>by
 rw[←z7 h r r r (by omega) hr hr];exact hp r hr
theorem yE (x:Rat):0≤x*x:=by
 rcases kk (a:=0) (b:=x)with h|h
 ·exact n4 h h
 ·have:0≤(-x)*(-x):=n4 (by grind) (by grind);grind
theorem jF {x y:Rat}(hx:0≤x)(hy:0<y):0≤x/y:=by
 rw[oj];exact n4 hx (j2 (Rat.inv_pos.2 hy))
theorem D8 {x y:Rat}(hx:0<x)(hy:0<y):0<x/y:=by
 rw[oj];exact x6 hx (Rat.inv_pos.2 hy)
theorem Dc {M:Nat→Nat→Rat}(hs:qQ M){r:Nat}(hr:0<el M r r r)(a:Nat):el M (r+1) a a≤el M r a a:=by
 show el M r a a-el M r a r*el M r r a/el M r r r≤_;rw[pE hs r r a];have:=jF (yE (el M r a r)) hr;grind
theorem rO {M:Nat→Nat→Rat}(hs:qQ M){n:Nat}(hp:PD n M)(a:Nat):∀{s r:Nat},r≤s→s≤n→el M s a a≤el M r a a
 |0,r,h,_=>by rw[show r=0 by omega];exact cq
 |s+1,r,h,hn=>by
  by_cases e:r=s+1
  ·rw[e];exact cq
  ·exact a8 (Dc hs (hp s (by omega)) a) (rO hs hp a (by omega) (by omega))
theorem PD.diag {n:Nat}{M:Nat→Nat→Rat}(hs:qQ M)(hp:PD n M){r a:Nat}(hr:r≤a)(ha:a<n):0<el M r a a:=
 by have h1:=hp a ha;have h2:=rO hs hp a hr (s:=a) (by omega);grind
theorem PD.pair {n:Nat}{M:Nat→Nat→Rat}(hp:PD n M){k:Nat}(hk:k+1<n):0<nY k M:=by
 rw[←aS (hp.ne (by omega))];exact x6 (hp k (by omega)) (hp (k+1) hk)
theorem PD.sh {n:Nat}{M:Nat→Nat→Rat}(hp:PD n M){i j:Nat}(q:Rat)(hj:j<i):PD n (sh i j q M):=fun r hr=>by
 rw[pH hj fun l hl=>hp.ne (by omega)];exact hp r hr
theorem PD.sw {n:Nat}{M:Nat→Nat→Rat}(hs:qQ M)(hp:PD n M){k:Nat}(hk:k+1<n):PD n (sw k M):=fun r hr=>by
 have h0:=hp.ne (r:=k) (by omega);have h1:=hp.diag hs (r:=k) (a:=k+1) (by omega) hk;have h2:=hp.pair hk;rcases gw r k with h|h|h
 ·rw[cG r (by omega),kH (by omega) (by omega)];exact hp r hr
 ·subst h;rw[wK];exact h1
 ·by_cases e:r=k+1
  ·subst e;have h3:=bS (M:=M) (k:=k) (by grind);rw[show el (Lat.sw k M) (k+1) (k+1) (k+1)=Lat.nY k M/el M k (k+1) (k+1) by grind];exact D8 h2 h1
  ·rw[sO h0 (by grind) (by grind) r (by omega),kH (by omega) (by omega)];exact hp r hr
theorem qQ.sh {M:Nat→Nat→Rat}(hs:qQ M)(i j:Nat)(q:Rat):qQ (sh i j q M):=fun a b=>by
 unfold Lat.sh;by_cases ha:a=i
 ·by_cases hb:b=i
  ·rw[ha,hb]
  ·rw[if_pos ha,if_neg hb,if_neg hb,if_pos ha,hs i b,hs j b]
 ·by_cases hb:b=i
  ·rw[if_neg ha,if_pos hb,if_pos hb,if_neg ha,hs a i,hs a j]
  ·rw[if_neg ha,if_neg hb,if_neg hb,if_neg ha,hs a b]
theorem qQ.sw {M:Nat→Nat→Rat}(hs:qQ M)(k:Nat):qQ (sw k M):=fun a b=>hs _ _
theorem qk {M:Nat→Nat→Rat}(hs:qQ M){n:Nat}(hp:PD n M)(x:Nat→Rat):∀r,r≤n→
  sm n (fun a=>sm n fun b=>x a*x b*M a b)=sm r (fun l=>sm n (fun a=>x a*el M l a l)*sm n (fun a=>x a*el M l a l)/el M l l l)+sm n (fun a=>sm n fun b=>x a*x b*el M r a b)
 |0,_=>by rw[jD];show sm n (fun a=>sm n fun b=>x a*x b*M a b)=0+sm n (fun a=>sm n fun b=>x a*x b*M a b);grind
 |r+1,hr=>by
  rw[qk hs hp x r (by omega),iB];have h0:=hp.ne (r:=r) (by omega);have e1:sm n (fun a=>sm n fun b=>x a*x b*el M (r+1) a b)=sm n (fun a=>sm n fun b=>x a*x b*el M r a b)-sm n (fun a=>x a*el M r a r)*sm n (fun a=>x a*el M r a r)/el M r r r:=by rw[oj,gd,←qN,←vL];refine zA fun a _=>?_;rw[show x a*el M r a r*(sm n (fun a=>x a*el M r a r)*(el M r r r)⁻¹)=sm n (fun b=>x b*el M r b r)*(x a*el M r a r*(el M r r r)⁻¹) by grind,←qN,←vL];refine zA fun b _=>?_;show x a*x b*(el M r a b-el M r a r*el M r r b/el M r r r)=_;rw[pE hs r r b];grind
  rw[e1];grind
theorem xV {M:Nat→Nat→Rat}(hs:qQ M){n:Nat}(hp:PD n M)(x:Nat→Rat):
  sm n (fun a=>sm n fun b=>x a*x b*M a b)=sm n (fun l=>sm n (fun a=>x a*el M l a l)*sm n (fun a=>x a*el M l a l)/el M l l l):=by
 rw[qk hs hp x n (hE _),wC (n:=n) (f:=fun a=>sm n fun b=>x a*x b*el M n a b)]
 ·grind
 ·intro a ha;exact wC fun b hb=>by rw[(uJ hb (fun l hl=>hp.ne hl) a).1];grind
theorem qP {M:Nat→Nat→Rat}(hs:qQ M){n:Nat}(hp:PD n M)(x:Nat→Rat)(h:sm n (fun a=>sm n fun b=>x a*x b*M a b)=0):∀i,i<n→x i=0:=by
 rw[xV hs hp x]at h;have hz:∀l,l<n→sm n (fun a=>x a*el M l a l)=0:=fun l hl=>by
  have h1:=gW (f:=fun l=>sm n (fun a=>x a*el M l a l)*sm n (fun a=>x a*el M l a l)/el M l l l) (n:=n) (fun l hl=>jF (yE _) (hp l hl)) hl;rw[h]at h1;have h2:0≤sm n (fun a=>x a*el M l a l)*sm n (fun a=>x a*el M l a l)/el M l l l:=jF (yE _) (hp l hl);have h3:=hp l hl;have h4:sm n (fun a=>x a*el M l a l)*sm n (fun a=>x a*el M l a l)=0:=by have h1':sm n (fun a=>x a*el M l a l)*sm n (fun a=>x a*el M l a l)/el M l l l=0:=Rat.le_antisymm h1 h2;grind
  rcases dk.1 h4 with h|h<;>exact h
 intro i hi;have key:∀d,∀i,i<n→n≤i+d→x i=0:=by
  intro d;induction d with
  |zero=>intro i hi hd;omega
  |succ d ih=>
   intro i hi hd;have h1:=hz i hi;rw[lE i hi]at h1
   ·rcases dk.1 h1 with h|h
    ·exact h
    ·exact absurd h (hp.ne hi)
   ·intro a ha hne;by_cases hai:a<i
    ·rw[(uJ hai (fun l hl=>hp.ne (by omega)) i).2];grind
    ·rw[ih a ha (by omega)];grind
 exact key n i hi (by omega)
theorem iq {M:Nat→Nat→Rat}{n:Nat}(x:Nat→Rat):∀{r:Nat},(∀l,l<r→sm n (fun a=>x a*M a l)=0)→∀j,sm n (fun a=>x a*el M r a j)=sm n (fun a=>x a*M a j)
 |0,_,_=>rfl
 |r+1,h,j=>by
  have ih:=iq (M:=M) (n:=n) x (r:=r) fun l hl=>h l (by omega);have e:sm n (fun a=>x a*el M (r+1) a j)=sm n (fun a=>x a*el M r a j)-sm n (fun a=>x a*el M r a r)*(el M r r j/el M r r r):=by rw[←qN,←vL];refine zA fun a _=>?_;show x a*(el M r a j-el M r a r*el M r r j/el M r r r)=_;grind
  rw[e,ih,ih,h r (by omega)];grind
theorem ot {n j:Nat}(f:Nat→Rat)(h:j<n):sm n (fun a=>if a=j then f a else 0)=f j:=by
 rw[lE j h fun i _ hi=>if_neg hi,if_pos rfl]
theorem rj (f:Nat→Rat)(k:Nat):∀{n:Nat},k+1<n→sm n (fun a=>f (tr k a))=sm n f
 |n+1,h=>by
  by_cases e:n=k+1
  ·subst e;rw[iB,iB,iB,iB,j0,oQ,zA (g:=f) fun i hi=>by rw[kH (by omega) (by omega)]];grind
  ·rw[iB,iB,rj f k (by omega),kH (by omega) (by omega)]
def ip (A:Nat→Nat→Rat)(d:Nat)(x y:Nat→Rat):Rat:=sm d fun a=>sm d fun b=>x a*y b*A a b
theorem yC {A:Nat→Nat→Rat}{d:Nat}{x y u v:Nat→Rat}(h1:∀t,t<d→x t=u t)(h2:∀t,t<d→y t=v t):ip A d x y=ip A d u v:=
 zA fun a ha=>zA fun b hb=>by rw[h1 a ha,h2 b hb]
theorem mJ {A:Nat→Nat→Rat}(hs:qQ A)(d:Nat)(x y:Nat→Rat):ip A d x y=ip A d y x:=by
 unfold ip;rw[ee];exact zA fun a _=>zA fun b _=>by rw[hs a b];grind
theorem sL (A:Nat→Nat→Rat)(d:Nat)(x u y:Nat→Rat)(q:Rat):ip A d (fun t=>x t-q*u t) y=ip A d x y-q*ip A d u y:=by
 unfold ip;rw[←tH,←vL];refine zA fun a _=>?_;rw[←tH,←vL];exact zA fun b _=>by grind
theorem tP (A:Nat→Nat→Rat)(d:Nat)(x u y:Nat→Rat)(q:Rat):ip A d y (fun t=>x t-q*u t)=ip A d y x-q*ip A d y u:=by
 unfold ip;rw[←tH,←vL];refine zA fun a _=>?_;rw[←tH,←vL];exact zA fun b _=>by grind
theorem yQ (A:Nat→Nat→Rat)(d:Nat)(c:Nat→Rat)(b:Nat→Nat→Rat)(y:Nat→Rat):∀n,ip A d (fun t=>sm n fun i=>c i*b i t) y=sm n fun i=>c i*ip A d (b i) y
 |0=>by refine wC fun a _=>wC fun e _=>?_;show(0:Rat)*y e*A a e=0;grind
 |n+1=>by rw[iB,←yQ A d c b y n];have h:=sL A d (fun t=>sm n fun i=>c i*b i t) (b n) y (-c n);rw[show ip A d (fun t=>sm n fun i=>c i*b i t) y+c n*ip A d (b n) y=ip A d (fun t=>sm n fun i=>c i*b i t) y- -c n*ip A d (b n) y by grind,←h];exact yC (fun t _=>by rw[iB];grind) (fun _ _=>rfl)
theorem v8 {A:Nat→Nat→Rat}{d:Nat}{x y:Nat→Rat}(hA:∀a b,a<d→b<d→Wh (A a b))(hx:∀t,t<d→Wh (x t))(hy:∀t,t<d→Wh (y t)):Wh (ip A d x y):=
 cO fun a ha=>cO fun b hb=>mE (mE (hx a ha) (hy b hb)) (hA a b ha hb)
theorem gS {A:Nat→Nat→Rat}{x:Nat→Rat}(hs:qQ A):∀{d:Nat},(∀a b,a<d→b<d→Wh (A a b))→(∀a,a<d→∃z:Rat,Wh z∧A a a=2*z)→(∀t,t<d→Wh (x t))→∃z:Rat,Wh z∧ip A d x x=2*z
 |0,_,_,_=>⟨0,ph,by show(0:Rat)=2*0;grind⟩
 |d+1,hA,he,hx=>by
  obtain⟨z,hz,ez⟩:=gS (x:=x) hs (d:=d) (fun a b ha hb=>hA a b (by omega) (by omega)) (fun a ha=>he a (by omega)) (fun t ht=>hx t (by omega));obtain⟨w,hw,ew⟩:=he d (by omega);refine⟨z+x d*sm d (fun a=>x a*A a d)+x d*x d*w,mP (mP hz (mE (hx d (by omega)) (cO fun a ha=>mE (hx a (by omega)) (hA a d (by omega) (by omega))))) (mE (mE (hx d (by omega)) (hx d (by omega))) hw),?_⟩;have e:ip A (d+1) x x=ip A d x x+x d*sm d (fun a=>x a*A a d)+x d*sm d (fun a=>x a*A a d)+x d*x d*A d d:=by
   unfold ip;rw[iB,iB,zA (g:=fun a=>sm d (fun b=>x a*x b*A a b)+x d*(x a*A a d)) fun a _=>by rw[iB];grind,iP,←tH,
    zA (f:=fun b=>x d*x b*A d b) (g:=fun a=>x d*(x a*A a d)) fun a _=>by rw[hs d a];grind]
   grind
  rw[e,ez,ew];grind
def gr (A:Nat→Nat→Rat)(d:Nat)(b:Nat→Nat→Rat):Nat→Nat→Rat:=fun i j=>ip A d (b i) (b j)
theorem pX {A:Nat→Nat→Rat}(hs:qQ A)(d:Nat)(b:Nat→Nat→Rat):qQ (gr A d b):=fun i j=>mJ hs d _ _
def fy (i j:Nat)(q:Rat)(b:Nat→Nat→Rat):Nat→Nat→Rat:=fun a=>if a=i then fun t=>b i t-q*b j t else b a
def Bq (k:Nat)(b:Nat→Nat→Rat):Nat→Nat→Rat:=fun a=>b (tr k a)
theorem aV (i j:Nat)(q:Rat)(b:Nat→Nat→Rat):fy i j q b i=fun t=>b i t-q*b j t:=if_pos rfl
theorem gP {i a:Nat}(j:Nat)(q:Rat)(b:Nat→Nat→Rat)(h:a≠i):fy i j q b a=b a:=if_neg h
theorem ni (A:Nat→Nat→Rat)(d:Nat)(i j:Nat)(q:Rat)(b:Nat→Nat→Rat):∀x y,gr A d (fy i j q b) x y=sh i j q (gr A d b) x y:=fun x y=>by
 unfold gr;by_cases hx:x=i
 ·subst hx;by_cases hy:y=x
  ·subst hy;rw[w9,aV,sL,tP,tP];grind
  ·rw[pM _ _ _ hy,aV,gP _ _ _ hy,sL]
 ·by_cases hy:y=i
  ·subst hy;rw[vS _ _ _ hx,aV,gP _ _ _ hx,tP]
  ·rw[lI _ _ _ hx hy,gP _ _ _ hx,gP _ _ _ hy]
theorem nj (A:Nat→Nat→Rat)(d:Nat)(k:Nat)(b:Nat→Nat→Rat):gr A d (Bq k b)=sw k (gr A d b):=rfl
structure Lt (A:Nat→Nat→Rat)(d n:Nat)(K:(Nat→Rat)→Prop)(b:Nat→Nat→Rat):Prop where
 wh:∀i,i<n→∀t,t<d→Wh (b i t)
 mem:∀i,i<n→K (b i)
 span:∀x,K x→∃c:Nat→Rat,(∀i,i<n→Wh (c i))∧∀t,t<d→x t=sm n fun i=>c i*b i t
 pd:PD n (gr A d b)
 dual:∃z:Nat→Nat→Rat,(∀j,j<n→∀t,t<d→Wh (z j t))∧∀i j,i<n→j<n→ip A d (b i) (z j)=if i=j then 1 else 0
def jT (K:(Nat→Rat)→Prop):Prop:=∀x y q,K x→K y→Wh q→K fun t=>x t-q*y t
section
variable {A:Nat→Nat→Rat}{d n:Nat}{K:(Nat→Rat)→Prop}{b:Nat→Nat→Rat}
theorem Lt.sh (h:Lt A d n K b)(hK:jT K){i j:Nat}{q:Rat}(hj:j<i)(hi:i<n)(hq:Wh q):Lt A d n K (fy i j q b) where
 wh:=fun a ha t ht=>by
  by_cases e:a=i
  ·subst e;rw[aV];exact fm (h.wh a ha t ht) (mE hq (h.wh j (by omega) t ht))
  ·rw[gP _ _ _ e];exact h.wh a ha t ht
 mem:=fun a ha=>by
  by_cases e:a=i
  ·subst e;rw[aV];exact hK _ _ _ (h.mem a ha) (h.mem j (by omega)) hq
  ·rw[gP _ _ _ e];exact h.mem a ha
 span:=fun x hx=>by
  obtain⟨c,hc,e⟩:=h.span x hx;refine⟨fun a=>if a=j then c j+q*c i else c a,fun a ha=>?_,fun t ht=>?_⟩
  ·show Wh (if a=j then c j+q*c i else c a);split
   ·exact mP (hc j (by omega)) (mE hq (hc i hi))
   ·exact hc a ha
  ·rw[e t ht];have h1:sm n (fun a=>(if a=j then c j+q*c i else c a)*fy i j q b a t)=sm n (fun a=>c a*b a t)+sm n (fun a=>if a=j then q*c i*b j t else 0)-sm n (fun a=>if a=i then q*c i*b j t else 0):=by
    rw[←iP,←vL];refine zA fun a _=>?_;by_cases h1:a=j
    ·subst h1;rw[if_pos rfl,if_pos rfl,if_neg (by omega),gP _ _ _ (by omega)];grind
    ·by_cases h2:a=i
     ·subst h2;rw[if_neg h1,if_neg h1,if_pos rfl,aV];grind
     ·rw[if_neg h1,if_neg h1,if_neg h2,gP _ _ _ h2];grind
   rw[h1,ot (fun _=>q*c i*b j t) (by omega),ot (fun _=>q*c i*b j t) hi];grind
 pd:=(h.pd.sh q hj).up fun x y _ _=>(ni A d i j q b x y).symm
 dual:=by
  obtain⟨z,hz,e⟩:=h.dual;refine⟨fun a=>if a=j then fun t=>z j t- (-q)*z i t else z a,fun a ha t ht=>?_,fun x y hx hy=>?_⟩
  ·show Wh ((if a=j then fun t=>z j t- (-q)*z i t else z a) t);split
   ·exact fm (hz j (by omega) t ht) (mE (fk hq) (hz i hi t ht))
   ·exact hz a ha t ht
  ·show ip A d (fy i j q b x) (if y=j then fun t=>z j t- (-q)*z i t else z y)=_;by_cases h1:x=i
   ·subst h1;rw[aV,sL];by_cases h2:y=j
    ·subst h2;rw[if_pos rfl,tP,tP,e _ _ hx hy,e _ _ hx hx,e _ _ hy hy,e _ _ hy hx,if_neg (by omega),if_pos rfl,if_pos rfl,if_neg (by omega)];grind
    ·rw[if_neg h2,e _ _ hx hy,e _ _ (by omega) hy,if_neg (show ¬j=y from fun h=>h2 h.symm)];grind
   ·rw[gP _ _ _ h1];by_cases h2:y=j
    ·subst h2;rw[if_pos rfl,tP,e _ _ hx hy,e _ _ hx hi,if_neg h1];grind
    ·rw[if_neg h2,e _ _ hx hy]
theorem Lt.sw (hs:qQ A)(h:Lt A d n K b){k:Nat}(hk:k+1<n):Lt A d n K (Bq k b) where
 wh:=fun a ha t ht=>h.wh _ (zK hk ha) t ht
 mem:=fun a ha=>h.mem _ (zK hk ha)
 span:=fun x hx=>by obtain⟨c,hc,e⟩:=h.span x hx;refine⟨fun a=>c (tr k a),fun a ha=>hc _ (zK hk ha),fun t ht=>?_⟩;rw[e t ht];exact(rj (fun a=>c a*b a t) k hk).symm
 pd:=by rw[nj];exact h.pd.sw (pX hs d b) hk
 dual:=by
  obtain⟨z,hz,e⟩:=h.dual;refine⟨fun a=>z (tr k a),fun a ha=>hz _ (zK hk ha),fun x y hx hy=>?_⟩;show ip A d (b (tr k x)) (z (tr k y))=_;rw[e _ _ (zK hk hx) (zK hk hy)];by_cases h:x=y
  ·subst h;rw[if_pos rfl,if_pos rfl]
  ·rw[if_neg h,if_neg fun h'=>h (by rw[←ko k x,h',ko])]
theorem Gc {M P:Nat→Nat→Rat}(h:∀a b,M a b=P a b)(r:Nat):dp M r=dp P r:=yn (n:=r) (fun a b _ _=>h a b) r (hE _)
theorem Lt.dp_sh (h:Lt A d n K b){i j:Nat}(q:Rat)(hj:j<i){r:Nat}(hr:r≤n):dp (gr A d (fy i j q b)) r=dp (gr A d b) r:=by
 rw[Gc (ni A d i j q b),Lat.mU hj fun l hl=>h.pd.ne (by omega)]
theorem Lt.dp_sw (hs:qQ A)(h:Lt A d n K b){k:Nat}(hk:k+1<n){r:Nat}(hr:r≠k+1):dp (gr A d (Bq k b)) r=dp (gr A d b) r:=by
 rw[nj];by_cases e:r≤k
 ·exact aJ r e
 ·have h1:=h.pd.diag (pX hs d b) (r:=k) (a:=k+1) (by omega) hk;have h2:=h.pd.pair hk;exact pO (h.pd.ne (by omega)) (by grind) (by grind) r (by omega)
end
theorem Jf (m:Rat):∃q:Int,(m-q)*(m-q)≤1/4:=by
 refine⟨(m+1/2).floor,?_⟩;have h1:=py (m+1/2);have h2:=dd (m+1/2);generalize((m+1/2).floor)=q at h1 h2;rw[c6]at h2;have h2:m+1/2<(q:Rat)+1:=by simpa using h2
 have h3:0≤(1/2- (m-q))*(1/2+(m-q)):=n4 (by grind) (by grind);grind
def pp (M:Nat→Nat→Rat):Nat→Rat
 |0=>1
 |n+1=>pp M n*dp M (n+1)
theorem nN {M:Nat→Nat→Rat}:∀{n:Nat},PD n M→0<pp M n
 |0,_=>by show(0:Rat)<1;grind
 |n+1,h=>x6 (nN (h.less (by omega))) (dD fun l hl=>h l hl)
theorem o9 {M:Nat→Nat→Rat}{m:Nat}(hM:∀i j,i<m→j<m→Wh (M i j))(hp:PD m M):∀{n:Nat},n≤m→Wh (pp M n)
 |0,_=>oV
 |n+1,h=>mE (o9 hM hp (by omega)) (yt hM (r:=n) (i:=n) (j:=n) (hE _) (hE _) (by omega) (by omega) fun l hl=>hp.ne (by omega))
theorem jq {M P:Nat→Nat→Rat}:∀{n:Nat},(∀r,r≤n→dp P r=dp M r)→pp P n=pp M n
 |0,_=>rfl
 |n+1,h=>by show pp P n*_=pp M n*_;rw[jq fun r hr=>h r (by omega),h (n+1) (hE _)]
theorem jo {M P:Nat→Nat→Rat}{k:Nat}:∀{n:Nat},(∀r,r≤n→r≠k+1→dp P r=dp M r)→k<n→pp P n*dp M (k+1)=pp M n*dp P (k+1)
 |n+1,h,hk=>by
  show pp P n*dp P (n+1)*_=pp M n*dp M (n+1)*_;by_cases e:n=k
  ·subst e;rw[jq (M:=M) (P:=P) fun r hr=>h r (by omega) (by omega)];grind
  ·have ih:=jo (M:=M) (P:=P) (k:=k) (n:=n) (fun r hr=>h r (by omega)) (by omega);rw[h (n+1) (hE _) (by omega)];grind
theorem gZ {q:Rat}:Wh q→0<q→∃m:Nat,q=m
 |⟨z,hz⟩,h=>by
  have:(0:Int)<z:=by rw[hz]at h;rw[←l8];simpa using h
  exact⟨z.toNat,by rw[hz,←p5,Int.toNat_of_nonneg (by omega)]⟩
theorem J3 {M:Nat→Nat→Rat}(hs:qQ M){n k:Nat}(hp:PD n M)(hk:k+1<n){q:Rat}(hq:(el M k (k+1) k/el M k k k-q)*(el M k (k+1) k/el M k k k-q)≤1/4)(h:el M (k+1) (k+1) (k+1)<3/4*el M k k k):
  el (sh (k+1) k q M) k (k+1) (k+1)<el M k k k:=by
 have h0:=hp k (by omega);have h1:=hp.ne (r:=k) (by omega);rw[qG (by omega) k (hE _) (fun l hl=>hp.ne (by omega)),w9,pE hs k k (k+1)];have e:el M k (k+1) (k+1)-q*el M k (k+1) k-q*el M k (k+1) k+q*q*el M k k k=el M (k+1) (k+1) (k+1)+(el M k (k+1) k/el M k k k-q)*(el M k (k+1) k/el M k k k-q)*el M k k k:=by show _=(el M k (k+1) (k+1)-el M k (k+1) k*el M k k (k+1)/el M k k k)+_;rw[pE hs k k (k+1)];grind
 rw[e];have:=hV hq (j2 h0);grind
theorem Dx {A:Nat→Nat→Rat}{d n:Nat}{K:(Nat→Rat)→Prop}(hs:qQ A)(hA:∀a b,a<d→b<d→Wh (A a b))(hK:jT K):
  ∀(m:Nat) (b:Nat→Nat→Rat),Lt A d n K b→pp (gr A d b) n=(m:Rat)→∃b',Lt A d n K b'∧dp (gr A d b') n=dp (gr A d b) n∧∀k,k+1<n→3/4*el (gr A d b') k k k≤el (gr A d b') (k+1) (k+1) (k+1):=by
 intro m;induction m using Nat.strongRecOn with
 |ind m ih=>
  intro b h hm;by_cases hr:∀k,k+1<n→3/4*el (gr A d b) k k k≤el (gr A d b) (k+1) (k+1) (k+1)
  ·exact⟨b,h,rfl,hr⟩
  ·have⟨k,hk⟩:∃k,¬(k+1<n→3/4*el (gr A d b) k k k≤el (gr A d b) (k+1) (k+1) (k+1)):=hT fun hc=>hr fun k=>hT fun hc'=>hc ⟨k,hc'⟩;have hk1:k+1<n:=hT fun hc=>hk fun h=>absurd h hc;have hk2:el (gr A d b) (k+1) (k+1) (k+1)<3/4*el (gr A d b) k k k:=by
    rcases Rat.not_le.1 (fun hc=>hk fun _=>hc)with h;exact h
   obtain⟨q,hq⟩:=Jf (el (gr A d b) k (k+1) k/el (gr A d b) k k k);have hf:=J3 (pX hs d b) h.pd hk1 hq hk2;have h1:=h.sh hK (i:=k+1) (j:=k) (q:=q) (by omega) hk1 (tE q);have h2:=h1.sw hs hk1;have hd:∀r,r≤n→r≠k+1→dp (gr A d (Bq k (fy (k+1) k q b))) r=dp (gr A d b) r:=fun r hr hne=>by rw[h1.dp_sw hs hk1 hne,h.dp_sh q (by omega) hr]
   have hd1:dp (gr A d (Bq k (fy (k+1) k q b))) (k+1)<dp (gr A d b) (k+1):=by rw[nj,wR,h.dp_sh q (by omega) (by omega),eX (ni A d (k+1) k q b)];show _<dp (gr A d b) k*el (gr A d b) k k k;exact r9 hf (dD fun l hl=>h.pd l (by omega))
   have hw2:∀i j,i<n→j<n→Wh (gr A d (Bq k (fy (k+1) k q b)) i j):=fun i j hi hj=>v8 hA (h2.wh i hi) (h2.wh j hj);obtain⟨m',hm'⟩:=gZ (o9 hw2 h2.pd (hE _)) (nN h2.pd);have hlt:pp (gr A d (Bq k (fy (k+1) k q b))) n<pp (gr A d b) n:=by
    have hp1:=nN h.pd;have hp2:=nN h2.pd;have hq1:0<dp (gr A d b) (k+1):=dD fun l hl=>h.pd l (by omega);have e:=jo hd (by omega);have h3:=r9 hd1 hp1;have h4:pp (gr A d (Bq k (fy (k+1) k q b))) n*dp (gr A d b) (k+1)<pp (gr A d b) n*dp (gr A d b) (k+1):=by rw[e];exact h3
    exact Rat.lt_of_mul_lt_mul_right h4 (j2 hq1)
   have hmm:m'<m:=by rw[hm,hm']at hlt;exact Rat.natCast_lt_natCast.1 hlt
   obtain⟨b',hb',e',hr'⟩:=ih m' hmm _ h2 hm';exact⟨b',hb',by rw[e',hd n (hE _) (by omega)],hr'⟩
section
variable {A:Nat→Nat→Rat}{d n:Nat}{K:(Nat→Rat)→Prop}{b:Nat→Nat→Rat}
theorem De (hs:qQ A)(hK:jT K)(r:Nat→Rat){m:Nat}(hm:m+1<n):∀(N:Nat) (b:Nat→Nat→Rat) (f g:Int),Lt A d n K b→(∀i,i<m→ip A d (b i) r=0)→ip A d (b m) r=f→ip A d (b (m+1)) r=g→f.natAbs=N→
  (∀i,m+1<i→i<n→Wh (ip A d (b i) r))→
  ∃b',Lt A d n K b'∧dp (gr A d b') n=dp (gr A d b) n∧(∀i,i<m+1→ip A d (b' i) r=0)∧∀i,i<n→Wh (ip A d (b' i) r):=by
 intro N;induction N using Nat.strongRecOn with
 |ind N ih=>
  intro b f g h h0 hf hg hN hw;by_cases e:f=0
  ·refine⟨b,h,rfl,fun i hi=>?_,fun i hi=>?_⟩
   ·by_cases e':i=m
    ·rw[e',hf,e];rfl
    ·exact h0 i (by omega)
   ·rcases gw i m with hl|hl|hl
    ·rw[h0 i hl];exact ph
    ·rw[hl,hf];exact tE _
    ·by_cases e':i=m+1
     ·rw[e',hg];exact tE _
     ·exact hw i (by omega) hi
  ·have h1:=h.sh hK (i:=m+1) (j:=m) (q:=((g/f:Int):Rat)) (by omega) hm (tE _);have h2:=h1.sw hs hm;have e1:ip A d (Bq m (fy (m+1) m ((g/f:Int):Rat) b) m) r=((g%f:Int):Rat):=by
    show ip A d (fy (m+1) m ((g/f:Int):Rat) b (tr m m)) r=_;rw[j0,aV,sL,hg,hf];have:=j5 g f;rw[show((g:Int):Rat)- ((g/f:Int):Rat)*(f:Rat)=((g-g/f*f:Int):Rat) by rw[Rat.intCast_sub,c5]];congr 1;have h3:f*(g/f)=g/f*f:=r8 _ _;omega
   have e2:ip A d (Bq m (fy (m+1) m ((g/f:Int):Rat) b) (m+1)) r=(f:Rat):=by show ip A d (fy (m+1) m ((g/f:Int):Rat) b (tr m (m+1))) r=_;rw[oQ,gP _ _ _ (by omega),hf]
   have e3:∀i,i≠m→i≠m+1→Bq m (fy (m+1) m ((g/f:Int):Rat) b) i=b i:=fun i hi hi1=>by show fy (m+1) m ((g/f:Int):Rat) b (tr m i)=_;rw[kH hi hi1,gP _ _ _ hi1]
   obtain⟨b',hb,hd,hz,hw'⟩:=ih (g%f).natAbs (by have h1:=hQ g e;have h2:=Int.emod_lt g e;omega) _ (g%f) f h2 (fun i hi=>by rw[e3 i (by omega) (by omega)];exact h0 i hi) e1 e2 rfl (fun i hi hn=>by rw[e3 i (by omega) (by omega)];exact hw i hi hn);exact⟨b',hb,by rw[hd,h1.dp_sw hs hm (by omega),h.dp_sh _ (by omega) (hE _)],hz,hw'⟩
theorem yx (hs:qQ A)(hK:jT K)(r:Nat→Rat)(hb:Lt A d n K b)(hw:∀i,i<n→Wh (ip A d (b i) r)):∀m,m<n→
  ∃b',Lt A d n K b'∧dp (gr A d b') n=dp (gr A d b) n∧(∀i,i<m→ip A d (b' i) r=0)∧∀i,i<n→Wh (ip A d (b' i) r)
 |0,_=>⟨b,hb,rfl,fun i hi=>by omega,hw⟩
 |m+1,hm=>by obtain⟨b1,h1,d1,z1,w1⟩:=yx hs hK r hb hw m (by omega);obtain⟨f,hf⟩:=w1 m (by omega);obtain⟨g,hg⟩:=w1 (m+1) hm;obtain⟨b2,h2,d2,z2,w2⟩:=De hs hK r hm f.natAbs b1 f g h1 z1 hf hg rfl (fun i _ hi=>w1 i hi);exact⟨b2,h2,d2.trans d1,z2,w2⟩
theorem qv (hs:qQ A)(h:Lt A d (n+1) K b){x:Nat→Rat}(hx:K x)(hr:∀l,l<n→ip A d x (b l)=0):∃c:Rat,Wh c∧c*el (gr A d b) n n n=ip A d x (b n)∧ip A d x x=c*ip A d x (b n):=by
 obtain⟨c,hc,e⟩:=h.span x hx;have e1:∀y,ip A d x y=sm (n+1) fun i=>c i*ip A d (b i) y:=fun y=>by rw[yC (u:=fun t=>sm (n+1) fun i=>c i*b i t) (v:=y) e (fun _ _=>rfl),yQ]
 refine⟨c n,hc n (by omega),?_,?_⟩
 ·have e2:=iq (M:=gr A d b) (n:=n+1) c (r:=n) (fun l hl=>by
   have:=e1 (b l);rw[hr l hl]at this;exact this.symm) n
  rw[show sm (n+1) (fun a=>c a*gr A d b a n)=ip A d x (b n)from(e1 (b n)).symm]at e2;rw[←e2,lE n (by omega)];intro i hi hne;rw[(uJ (r:=n) (l:=i) (by omega) (fun l hl=>h.pd.ne (by omega)) n).2];grind
 ·rw[e1 x,lE n (by omega)]
  ·rw[mJ hs d (b n) x]
  ·intro i hi hne;rw[mJ hs d (b i) x,hr i (by omega)];grind
theorem Lt.cut (hs:qQ A)(hK:jT K)(h:Lt A d (n+1) K b){r:Nat→Rat}(hr:K r)(h2:ip A d r r=2)(hw:∀x,K x→Wh (ip A d x r)):
  ∃b',Lt A d n (fun x=>K x∧ip A d x r=0) b'∧dp (gr A d b') n≤2*dp (gr A d b) (n+1):=by
 obtain⟨b',hb,hd,hz,_⟩:=yx hs hK r h (fun i hi=>hw _ (h.mem i hi)) n (by omega);obtain⟨c,hc,e1,e2⟩:=qv hs hb hr (fun l hl=>by rw[mJ hs];exact hz l hl);rw[h2]at e2;have hg:ip A d (b' n) r≠0:=fun h0=>by rw[mJ hs d r,h0]at e2;grind
 refine⟨b',⟨fun i hi=>hb.wh i (by omega),fun i hi=>⟨hb.mem i (by omega),hz i hi⟩,fun x hx=>?_,hb.pd.less (by omega),?_⟩,?_⟩
 ·obtain⟨a,ha,e⟩:=hb.span x hx.1;have h0:a n*ip A d (b' n) r=0:=by
   have:=hx.2;rw[yC (u:=fun t=>sm (n+1) fun i=>a i*b' i t) (v:=r) e (fun _ _=>rfl),yQ,iB,wC fun i hi=>by rw[hz i hi];grind]at this;grind
  have ha0:a n=0:=by
   rcases dk.1 h0 with h|h
   ·exact h
   ·exact absurd h hg
  exact⟨a,fun i hi=>ha i (by omega),fun t ht=>by rw[e t ht,iB,ha0];grind⟩
 ·obtain⟨z,hz',e⟩:=hb.dual;exact⟨z,fun j hj=>hz' j (by omega),fun i j hi hj=>e i j (by omega) (by omega)⟩
 ·rw[←hd];show dp (gr A d b') n≤2*(dp (gr A d b') n*el (gr A d b') n n n);have hp:=dD (M:=gr A d b') (r:=n) fun l hl=>hb.pd l (by omega);have hel:=hb.pd n (by omega);obtain⟨g,hgw⟩:=(show Wh (ip A d r (b' n)) by rw[mJ hs];exact hw _ (hb.mem n (by omega)))
  obtain⟨ci,hci⟩:=hc;rw[hgw,hci]at e1 e2;have e3:ci*g=2:=by
   have:((2:Int):Rat)=((ci*g:Int):Rat):=by rw[c5];simpa using e2
   exact(h8.1 this).symm
  have hcg:ci∣2:=⟨g,e3.symm⟩
  have hcn:ci.natAbs≤2:=by have:=pj.2 hcg;exact Nat.le_of_dvd (by omega) this
  have hhalf:1/2≤el (gr A d b') n n n:=by
   generalize el (gr A d b') n n n=E at*;have:ci=1∨ci= -1∨ci=2∨ci= -2:=by
    have:ci≠0:=by intro h;rw[h]at e3;omega
    omega
   rcases this with rfl|rfl|rfl|rfl
   ·have:g=2:=by omega
    subst this;simp at e1;grind
   ·have:g= -2:=by omega
    subst this;simp at e1;grind
   ·have:g=1:=by omega
    subst this;simp at e1;grind
   ·have:g= -1:=by omega
    subst this;simp at e1;grind
  have:=hZ hhalf (j2 hp);grind
end
theorem cZ {e:Nat→Rat}:∀{n:Nat},(∀k,k+1<n+1→3/4*e k≤e (k+1))→(3/4)^n*e 0≤e n
 |0,_=>by grind
 |n+1,h=>by have h1:=cZ (n:=n) fun k hk=>h k (by omega);have h2:=h n (by omega);rw[Rat.pow_succ];have:=hZ h1 (show(0:Rat)≤3/4 by grind);grind
def tt:Nat→Rat
 |0=>1
 |m+1=>tt m*((3/4)^m*4)
theorem Bw:∀m,0<tt m
 |0=>by show(0:Rat)<1;grind
 |m+1=>x6 (Bw m) (x6 (eo (by grind)) (by grind))
theorem Fj {M:Nat→Nat→Rat}{n:Nat}(hp:PD n M)(h:∀k,k+1<n→3/4*el M k k k≤el M (k+1) (k+1) (k+1))(h4:4≤el M 0 0 0):∀m,m≤n→tt m≤dp M m
 |0,_=>cq
 |m+1,hm=>by show tt m*((3/4)^m*4)≤dp M m*el M m m m;have h1:=Fj hp h h4 m (by omega);have h2:=cZ (e:=fun k=>el M k k k) (n:=m) fun k hk=>h k (by omega);have h3:(3/4)^m*4≤(3/4)^m*el M 0 0 0:=hZ h4 (j2 (eo (by grind)));have h5:(3/4)^m*4≤el M m m m:=a8 h3 h2;have h6:=hZ h5 (j2 (Bw m));have h7:=hV h1 (j2 (hp m (by omega)));exact a8 h6 h7
def KR (A:Nat→Nat→Rat)(d:Nat)(R:Nat→Nat→Rat)(k:Nat)(x:Nat→Rat):Prop:=(∀t,t<d→Wh (x t))∧∀i,i<k→ip A d x (R i)=0
theorem y4 (A:Nat→Nat→Rat)(d:Nat)(R:Nat→Nat→Rat)(k:Nat):jT (KR A d R k):=fun x y q hx hy hq=>
 ⟨fun t ht=>fm (hx.1 t ht) (mE hq (hy.1 t ht)),fun i hi=>by rw[sL,hx.2 i hi,hy.2 i hi];grind⟩
structure St (A:Nat→Nat→Rat)(d n k:Nat)(R b:Nat→Nat→Rat):Prop where
 wh:∀i,i<k→∀t,t<d→Wh (R i t)
 rt:∀i j,i<k→j<k→ip A d (R i) (R j)=if i=j then 2 else 0
 lt:Lt A d n (KR A d R k) b
theorem Lt.iff {A:Nat→Nat→Rat}{d n:Nat}{K K':(Nat→Rat)→Prop}{b:Nat→Nat→Rat}(h:Lt A d n K b)(e:∀x,K x↔K' x):Lt A d n K' b:=
 ⟨h.wh,fun i hi=>(e _).1 (h.mem i hi),fun x hx=>h.span x ((e x).2 hx),h.pd,h.dual⟩
section
variable {A:Nat→Nat→Rat}{d:Nat}(hs:qQ A)(hA:∀a b,a<d→b<d→Wh (A a b))(he:∀a,a<d→∃z:Rat,Wh z∧A a a=2*z)
include hs hA he
theorem St.next {n k:Nat}{R b:Nat→Nat→Rat}(h:St A d (n+1) k R b)(hsmall:∀b',Lt A d (n+1) (KR A d R k) b'→dp (gr A d b') (n+1)=dp (gr A d b) (n+1)→(∀k,k+1<n+1→3/4*el (gr A d b') k k k≤el (gr A d b') (k+1) (k+1) (k+1))→¬4≤el (gr A d b') 0 0 0):
  ∃R' b',St A d n (k+1) R' b'∧dp (gr A d b') n≤2*dp (gr A d b) (n+1):=by
 have hgw:∀i j,i<n+1→j<n+1→Wh (gr A d b i j):=fun i j hi hj=>v8 hA (h.lt.wh i hi) (h.lt.wh j hj);obtain⟨m,hm⟩:=gZ (o9 hgw h.lt.pd (hE _)) (nN h.lt.pd);obtain⟨b1,h1,d1,r1⟩:=Dx hs hA (y4 A d R k) m b h.lt hm;have h4:=hsmall b1 h1 d1 r1;have hp:=h1.pd 0 (by omega);obtain⟨z,hz,ez⟩:=gS hs hA he (h1.wh 0 (by omega));have e2:ip A d (b1 0) (b1 0)=2:=by
  have e0:el (gr A d b1) 0 0 0=ip A d (b1 0) (b1 0):=rfl;rw[e0,ez]at h4 hp;obtain⟨w,rfl⟩:=hz;rw[ez];have h0:(0:Int)<w:=by
   rw[←l8];have:(0:Rat)<w:=by grind
   simpa using this
  have h2:w<(2:Int):=by
   rw[←l8];have:(w:Rat)<2:=by grind
   simpa using this
  have:w=1:=by omega
  subst this;simp
 have hmem:=h1.mem 0 (by omega);obtain⟨b2,h2,d2⟩:=h1.cut hs (y4 A d R k) hmem e2 (fun x hx=>v8 hA hx.1 hmem.1);refine⟨fun i=>if i<k then R i else b1 0,b2,⟨fun i hi t ht=>?_,fun i j hi hj=>?_,h2.iff fun x=>⟨fun hx=>⟨hx.1.1,fun i hi=>?_⟩,fun hx=>⟨⟨hx.1,fun i hi=>?_⟩,?_⟩⟩⟩,by rw[←d1];exact d2⟩
 ·show Wh ((if i<k then R i else b1 0) t);split
  ·exact h.wh i ‹_› t ht
  ·exact h1.wh 0 (by omega) t ht
 ·show ip A d (if i<k then R i else b1 0) (if j<k then R j else b1 0)=_;by_cases hi':i<k
  ·by_cases hj':j<k
   ·rw[if_pos hi',if_pos hj'];exact h.rt i j hi' hj'
   ·rw[if_pos hi',if_neg hj',mJ hs,hmem.2 i hi',if_neg (by omega)]
  ·by_cases hj':j<k
   ·rw[if_neg hi',if_pos hj',hmem.2 j hj',if_neg (by omega)]
   ·rw[if_neg hi',if_neg hj',e2,if_pos (by omega)]
 ·show ip A d x (if i<k then R i else b1 0)=0;by_cases hi':i<k
  ·rw[if_pos hi'];exact hx.1.2 i hi'
  ·rw[if_neg hi'];exact hx.2
 ·have:ip A d x (if i<k then R i else b1 0)=0:=hx.2 i (by omega);rw[if_pos hi]at this;exact this
 ·have:ip A d x (if k<k then R k else b1 0)=0:=hx.2 k (by omega);rw[if_neg (by omega)]at this;exact this
omit he in
theorem St.last {n k:Nat}{R b:Nat→Nat→Rat}(h:St A d (n+1) k R b){b':Nat→Nat→Rat}(h':Lt A d (n+1) (KR A d R k) b'):el (gr A d b') n n n≤2:=by
 obtain⟨z,hz,e⟩:=h'.dual
 let y:Nat→Nat→Rat:=fun m t=>2*z n t-sm m fun i=>ip A d (z n) (R i)*R i t
 have ey:∀m v,ip A d (y m) v=2*ip A d (z n) v-sm m fun i=>ip A d (z n) (R i)*ip A d (R i) v:=fun m v=>by
  rw[←yQ A d (fun i=>ip A d (z n) (R i)) R v m];have h1:=sL A d (fun t=>2*z n t) (fun t=>sm m fun i=>ip A d (z n) (R i)*R i t) v 1;have h2:=sL A d (fun t=>0) (z n) v (-2);have h3:ip A d (fun _=>0) v=0:=wC fun a _=>wC fun b _=>by grind
  rw[yC (u:=fun t=>2*z n t) (v:=v) (fun t _=>by grind) (fun _ _=>rfl),h3]at h2;rw[yC (u:=fun t=>2*z n t-1*sm m fun i=>ip A d (z n) (R i)*R i t) (v:=v) (fun t _=>by show 2*z n t-_=_;grind) (fun _ _=>rfl),h1,h2];grind
 have hzw:=hz n (by omega);have hK:KR A d R k (y k):=by
  refine⟨fun t ht=>?_,fun i hi=>?_⟩
  ·refine fm (mE ⟨2,rfl⟩ (hzw t ht)) (cO fun i hi=>mE (v8 hA hzw (h.wh i hi)) (h.wh i hi t ht))
  ·rw[ey,lE i hi]
   ·rw[h.rt i i hi hi,if_pos rfl];grind
   ·intro j hj hne;rw[h.rt j i hj hi,if_neg hne];grind
 have hb:∀l,l<n+1→ip A d (y k) (b' l)=if l=n then 2 else 0:=fun l hl=>by rw[ey,wC fun i hi=>by rw[mJ hs d (R i),(h'.mem l hl).2 i hi];grind];rw[mJ hs d (z n),e l n hl (by omega)];split<;>grind
 obtain⟨c,⟨ci,hci⟩,e1,_⟩:=qv hs h' hK fun l hl=>by rw[hb l (by omega),if_neg (by omega)]
 rw[hb n (by omega),if_pos rfl,hci]at e1;have hp:=h'.pd n (by omega);generalize el (gr A d b') n n n=E at*;have hc:(0:Int)<ci:=by
  rcases pR 0 ci with h|h
  ·exact h
  ·exfalso;have h1:(ci:Rat)≤((0:Int):Rat):=j4.2 h;have h2:=hV h1 (j2 hp);rw[e1]at h2;have h3:(2:Rat)≤0:=by simpa using h2
   exact absurd h3 (by decide+kernel)
 have h1:((1:Int):Rat)≤ci:=j4.2 (by omega);have h2:=hV h1 (j2 hp);rw[e1]at h2;have h3:(1:Rat)*E≤2:=by simpa using h2
 grind
end
theorem Hr {A:Nat→Nat→Rat}(hs:qQ A)(hA:∀a b,a<8→b<8→Wh (A a b))(he:∀a,a<8→∃z:Rat,Wh z∧A a a=2*z)(hp:PD 8 A)(hd:dp A 8=1)
  (hz:∃z:Nat→Nat→Rat,(∀j,j<8→∀t,t<8→Wh (z j t))∧∀i j,i<8→j<8→(sm 8 fun t=>A i t*z j t)=if i=j then 1 else 0):
  ∃R:Nat→Nat→Rat,(∀i,i<8→∀t,t<8→Wh (R i t))∧(∀i j,i<8→j<8→ip A 8 (R i) (R j)=if i=j then 2 else 0)∧∀x:Nat→Rat,(∀t,t<8→Wh (x t))→(∀i,i<8→ip A 8 x (R i)=0)→∀t,t<8→x t=0:=by
 let u:Nat→Nat→Rat:=fun i t=>if t=i then 1 else 0
 have hu:∀i j,i<8→j<8→gr A 8 u i j=A i j:=fun i j hi hj=>by show(sm 8 fun a=>sm 8 fun b=>(if a=i then 1 else 0)*(if b=j then 1 else 0)*A a b)=_;rw[lE i hi fun a _ ha=>wC fun b _=>by rw[if_neg ha];grind,lE j hj fun b _ hb=>by rw[if_neg hb];grind,if_pos rfl,if_pos rfl];grind
 have s0:St A 8 8 0 u u:=by
  refine⟨fun i hi=>by omega,fun i j hi=>by omega,⟨fun i hi t ht=>?_,fun i hi=>⟨fun t ht=>?_,fun i hi=>by omega⟩,fun x hx=>⟨x,hx.1,fun t ht=>?_⟩,hp.up fun a b ha hb=>(hu a b ha hb).symm,?_⟩⟩
  ·show Wh (if t=i then 1 else 0);split
   ·exact oV
   ·exact ph
  ·show Wh (if t=i then 1 else 0);split
   ·exact oV
   ·exact ph
  ·rw[lE t ht fun i _ hi=>by show x i*(if t=i then 1 else 0)=0;rw[if_neg fun h=>hi h.symm];grind];show x t=x t*(if t=t then 1 else 0);rw[if_pos rfl];grind
  ·obtain⟨z,hzw,e⟩:=hz;refine⟨z,hzw,fun i j hi hj=>?_⟩;rw[←e i j hi hj];show(sm 8 fun a=>sm 8 fun b=>(if a=i then 1 else 0)*z j b*A a b)=_;rw[lE i hi fun a _ ha=>wC fun b _=>by rw[if_neg ha];grind];exact zA fun b _=>by rw[if_pos rfl];grind
 have d0:dp (gr A 8 u) 8≤1:=by rw[yn hu 8 (hE _),hd];exact cq
 have big:∀(n k:Nat) (R b:Nat→Nat→Rat) (B:Rat),St A 8 (n+1) k R b→dp (gr A 8 b) (n+1)≤B→B<tt (n+1)→∃R' b',St A 8 n (k+1) R' b'∧dp (gr A 8 b') n≤2*B:=fun n k R b B h hB ht=>by
  obtain⟨R',b',h',e'⟩:=h.next hs hA he fun b' h' e' r' h4=>by have:=Fj h'.pd r' h4 (n+1) (hE _);rw[e']at this;grind
  exact⟨R',b',h',by grind⟩
 obtain⟨R1,b1,s1,d1⟩:=big 7 0 u u 1 s0 d0 (by decide+kernel);obtain⟨R2,b2,s2,d2⟩:=big 6 1 R1 b1 _ s1 d1 (by decide+kernel);obtain⟨R3,b3,s3,d3⟩:=big 5 2 R2 b2 _ s2 d2 (by decide+kernel);obtain⟨R4,b4,s4,d4⟩:=big 4 3 R3 b3 _ s3 d3 (by decide+kernel);obtain⟨R5,b5,s5,d5⟩:=big 3 4 R4 b4 _ s4 d4 (by decide+kernel);have small:∀(n k:Nat) (R b:Nat→Nat→Rat),n<3→St A 8 (n+1) k R b→∃R' b',St A 8 n (k+1) R' b':=fun n k R b hn h=>by
  obtain⟨R',b',h',_⟩:=h.next hs hA he fun b' h' e' r' h4=>by
   have h1:=h.last hs hA h';have h2:=cZ (e:=fun k=>el (gr A 8 b') k k k) (n:=n) fun k hk=>r' k hk;have h3:=hZ h4 (show(0:Rat)≤(3/4)^n from j2 (eo (by grind)));have h5:(3/4:Rat)^n*4≤2:=a8 h3 (a8 h2 h1);have:n=0∨n=1∨n=2:=by omega
   rcases this with rfl|rfl|rfl
   ·exact absurd h5 (by decide+kernel)
   ·exact absurd h5 (by decide+kernel)
   ·exact absurd h5 (by decide+kernel)
  exact⟨R',b',h'⟩
 obtain⟨R6,b6,s6⟩:=small 2 5 R5 b5 (by omega) s5;obtain⟨R7,b7,s7⟩:=small 1 6 R6 b6 (by omega) s6;obtain⟨R8,b8,s8⟩:=small 0 7 R7 b7 (by omega) s7;refine⟨R8,s8.wh,s8.rt,fun x hx h t ht=>?_⟩;obtain⟨c,_,e⟩:=s8.lt.span x ⟨hx,h⟩;rw[e t ht];rfl
theorem aX {n p:Nat}(M:Nat→Nat→Rat)(u v:Nat→Rat)(c:Rat)(hp:p<n):kK n (rs M p fun j=>u j+c*v j)=kK n (rs M p u)+c*kK n (rs M p v):=
 pP c hp (fun i j hi=>⟨by rw[eF _ _ _ hi,eF _ _ _ hi],by rw[eF _ _ _ hi,eF _ _ _ hi]⟩) (fun j=>by rw[aH,aH,aH])
theorem ic {n p:Nat}(M:Nat→Nat→Rat)(hp:p<n):kK n (rs M p fun _=>0)=0:=by
 have h:=aX M (fun _=>0) (fun _=>0) 1 hp;rw[show(fun _:Nat=>(0:Rat)+1*0)=fun _=>0 from funext fun _=>by grind]at h;grind
theorem bX {n p:Nat}(M:Nat→Nat→Rat)(hp:p<n)(c:Nat→Rat)(E:Nat→Nat→Rat):∀m,kK n (rs M p fun j=>sm m fun t=>c t*E t j)=sm m fun t=>c t*kK n (rs M p (E t))
 |0=>ic M hp
 |m+1=>by rw[iB,←bX M hp c E m,←aX M _ _ _ hp];rfl
def Cj (n:Nat)(M:Nat→Nat→Rat)(j t:Nat):Rat:=kK n (rs M j fun s=>if s=t then 1 else 0)
theorem az {n:Nat}{M:Nat→Nat→Rat}(hM:∀i j,i<n→j<n→Wh (M i j))(j t:Nat):Wh (Cj n M j t):=mi fun a b ha hb=>by
 unfold rs;split
 ·show Wh (if b=t then 1 else 0);split
  ·exact oV
  ·exact ph
 ·exact hM a b ha hb
theorem yh {n p q:Nat}{M:Nat→Nat→Rat}(hpq:p≠q)(hp:p<n)(hq:q<n)(h:∀j,M p j=M q j):kK n M=0:=by
 rcases Nat.lt_or_gt_of_ne hpq with hl|hl
 ·obtain⟨e,rfl⟩:∃e,q=p+e+1:=⟨q-p-1,by omega⟩
  exact tR hq h
 ·obtain⟨e,rfl⟩:∃e,p=q+e+1:=⟨p-q-1,by omega⟩
  exact tR hp fun j=>(h j).symm
theorem mR {n:Nat}(M:Nat→Nat→Rat){i j:Nat}(hi:i<n)(hj:j<n):(sm n fun t=>M i t*Cj n M j t)=if i=j then kK n M else 0:=by
 unfold Cj;rw[←bX M hj (M i) (fun t s=>if s=t then 1 else 0) n];have e:kK n (rs M j fun s=>sm n fun t=>M i t*if s=t then 1 else 0)=kK n (rs M j (M i)):=wG fun a b ha hb=>by
  unfold rs;split
  ·show(sm n fun t=>M i t*if b=t then 1 else 0)=M i b;rw[lE b hb fun t _ ht=>by rw[if_neg fun h=>ht h.symm];grind,if_pos rfl];grind
  ·rfl
 rw[e];by_cases h:i=j
 ·subst h;rw[if_pos rfl];refine wG fun a b _ _=>?_;by_cases h:a=i
  ·subst h;rw[aH]
  ·rw[eF _ _ _ h]
 ·rw[if_neg h];refine yh h hi hj fun s=>?_;rw[eF _ _ _ h,aH]
theorem bx {n:Nat}{M:Nat→Nat→Rat}(h:∀l,l<n→el M l l l≠0):kK (n+1) M=dp M (n+1):=by
 have:=zW n M n n (hE _) (hE _) h;rw[wG (P:=M) fun a b ha hb=>by unfold bi;congr 1<;>(split<;>omega)]at this;exact this
theorem tb {A:Nat→Nat→Rat}(hs:qQ A)(hA:∀a b,a<8→b<8→Wh (A a b))(he:∀a,a<8→∃z:Rat,Wh z∧A a a=2*z)(hp:PD 8 A)(hd:dp A 8=1):
  ∃R:Nat→Nat→Rat,(∀i,i<8→∀t,t<8→Wh (R i t))∧(∀i j,i<8→j<8→ip A 8 (R i) (R j)=if i=j then 2 else 0)∧∀x:Nat→Rat,(∀t,t<8→Wh (x t))→(∀i,i<8→ip A 8 x (R i)=0)→∀t,t<8→x t=0:=
 Hr hs hA he hp hd ⟨Cj 8 A,fun j _ t _=>az hA j t,fun i j hi hj=>by rw[mR A hi hj,bx (n:=7) fun l hl=>hp.ne (by omega),hd]⟩
def gG:Nat→List (List Bool)
 |0=>[[]]
 |n+1=>(gG n).map (false:: ·)++(gG n).map (true:: ·)
theorem mM:∀{n:Nat} {c:List Bool},c∈gG n↔c.length=n
 |0,c=>by simp[gG]
 |n+1,[]=>by simp[gG]
 |n+1,b::c=>by have ih:=mM (n:=n) (c:=c);cases b<;>simp[gG,ih]
theorem qE {T:Type}(b:T){l:List (List T)}(h:l.Nodup):(l.map (b:: ·)).Nodup:=by
 unfold List.Nodup at*;rw[bm];exact h.imp fun hne e=>hne (List.cons.inj e).2
theorem mL:∀n,(gG n).Nodup
 |0=>by simp[gG]
 |n+1=>by refine bd.2 ⟨qE _ (mL n),qE _ (mL n),?_⟩;intro a ha b hb e;simp only[x8]at ha hb;obtain⟨x,_,rfl⟩:=ha;obtain⟨y,_,rfl⟩:=hb;exact absurd (List.cons.inj e).1 (by decide)
def wt:List Bool→Nat
 | []=>0
 |b::c=>(if b then 1 else 0)+wt c
def iT:List Bool→List Bool→Bool
 |a::x,b::y=>(a&&b)^^iT x y
 |_,_=>false
def ll:List Bool→List Bool→List Bool
 |a::x,b::y=>(a^^b)::ll x y
 |_,_=>[]
def um:List Bool→List Bool→List Bool
 |a::x,b::y=>(a&&b)::um x y
 |_,_=>[]
theorem sV:∀{x y:List Bool},x.length=y.length→ll x (ll x y)=y
 | [],[],_=>rfl
 |a::x,b::y,h=>by simp only[ll,j1]at h⊢;rw[sV (by omega)];cases a<;>cases b<;>rfl
theorem qf:∀{x c d:List Bool},x.length=c.length→c.length=d.length→iT x (ll c d)=(iT x c^^iT x d)
 | [],[],[],_,_=>rfl
 |a::x,b::y,e::z,h1,h2=>by simp only[ll,iT,j1]at h1 h2⊢;rw[qf (by omega) (by omega)];cases a<;>cases b<;>cases e<;>simp
theorem Cb:∀{x y:List Bool},x.length=y.length→wt (ll x y)+2*wt (um x y)=wt x+wt y
 | [],[],_=>rfl
 |a::x,b::y,h=>by simp only[ll,um,wt,j1]at h⊢;have:=Cb (x:=x) (y:=y) (by omega);cases a<;>cases b<;>simp<;>omega
theorem ie:∀{x y:List Bool},x.length=y.length→iT x y=decide (wt (um x y)%2=1)
 | [],[],_=>rfl
 |a::x,b::y,h=>by simp only[iT,um,wt,j1]at h⊢;rw[ie (by omega)];rcases fp (wt (um x y))with h|h<;>cases a<;>cases b<;>simp[Nat.add_mod,h]
theorem Cc:∀c:List Bool,wt c≤c.length
 | []=>hE _
 |b::c=>by have:=Cc c;simp only[wt,j1];split<;>omega
theorem ft:∀{c:List Bool},wt c=0→c=zE c.length false
 | [],_=>rfl
 |b::c,h=>by
  simp only[wt]at h;cases b with
  |true=>simp at h
  |false=>simp at h;rw[j1,c8,←ft h]
theorem ru:∀{c:List Bool},wt c=c.length→c=zE c.length true
 | [],_=>rfl
 |b::c,h=>by
  have:=Cc c;simp only[wt,j1]at h;cases b with
  |true=>simp at h;rw[j1,c8,←ru (by omega)]
  |false=>simp at h;omega
theorem fq:∀n,wt (zE n true)=n∧wt (zE n false)=0
 |0=>⟨rfl,rfl⟩
 |n+1=>by simp only[c8,wt,fq n];simp;omega
theorem ig:∀c:List Bool,iT (zE c.length true) c=decide (wt c%2=1)
 | []=>rfl
 |b::c=>by simp only[j1,c8,iT,wt,ig c];rcases fp (wt c)with h|h<;>cases b<;>simp[Nat.add_mod,h]
def rR (x c:List Bool):Int:=if iT x c then-1 else 1
theorem jP {T:Type}(f:T→Int):∀l:List T,(l.map fun x=> -f x).sum= - (l.map f).sum
 | []=>rfl
 |a::l=>by simp only[h9,j6,jP f l];omega
theorem fV {T:Type}(f g:T→Int):∀l:List T,(l.map fun x=>f x+g x).sum=(l.map f).sum+(l.map g).sum
 | []=>rfl
 |a::l=>by simp only[h9,j6,fV f g l];omega
theorem xS {T U:Type}(f:T→U→Int)(m:List U):∀l:List T,(l.map fun x=>(m.map fun y=>f x y).sum).sum=(m.map fun y=>(l.map fun x=>f x y).sum).sum
 | []=>by
  induction m with
  |nil=>rfl
  |cons a m ih=>simp only[List.map_nil,List.sum_nil,h9,j6]at ih⊢;omega
 |a::l=>by rw[h9,j6,xS f m l,←fV];rfl
theorem gR {T:Type}{f g:T→Int}{l:List T}(h:∀x,x∈l→f x=g x):(l.map f).sum=(l.map g).sum:=by
 rw[ec h]
theorem y6:∀(n:Nat) (c:List Bool),c.length=n→((gG n).map fun x=>rR x c).sum=if wt c=0 then 2^n else 0
 |0,[],_=>rfl
 |n+1,b::c,h=>by
  have ih:=y6 n c (by simpa using h);have e1:((gG n).map fun x=>rR (false::x) (b::c)).sum=((gG n).map fun x=>rR x c).sum:=gR fun x _=>by simp[rR,iT]
  have e2:((gG n).map fun x=>rR (true::x) (b::c)).sum=((gG n).map fun x=>(if b then-1 else 1)*rR x c).sum:=gR fun x _=>by cases b<;>cases hd:iT x c<;>simp[rR,iT,hd]
  have e3:((gG (n+1)).map fun x=>rR x (b::c)).sum=((gG n).map fun x=>rR (false::x) (b::c)).sum+((gG n).map fun x=>rR (true::x) (b::c)).sum:=by show(((gG n).map (false:: ·)++(gG n).map (true:: ·)).map fun x=>rR x (b::c)).sum=_;rw[List.map_append,List.sum_append,px,px];rfl
  rw[e3,e1,e2];cases b with
  |true=>rw[show(fun x=>(if true=true then-1 else 1)*rR x c)=fun x=> -rR x c from funext fun x=>by simp,jP];simp[wt];omega
  |false=>rw[show(fun x=>(if false=true then-1 else 1)*rR x c)=fun x=>rR x c from funext fun x=>by simp,ih];simp only[wt,Nat.pow_succ];simp only[Bool.false_eq_true,if_false,Nat.zero_add];split<;>simp[p0];omega
structure Cd (n:Nat)(C:List (List Bool)):Prop where
 nd:C.Nodup
 len:∀c,c∈C→c.length=n
 sum:∀c d,c∈C→d∈C→ll c d∈C
theorem Cd.perm {n:Nat}{C:List (List Bool)}(h:Cd n C){c:List Bool}(hc:c∈C):(C.map (ll c)).Perm C:=by
 refine(k9 ?_ h.nd).2 fun y=>?_
 ·have:List.Pairwise (fun a b=>a∈C∧b∈C∧a≠b) C:=(y2.2 fun{a b} hab=>⟨hab.subset (by simp),hab.subset (by simp),(y2.1 h.nd) hab⟩)
  unfold List.Nodup;rw[bm];refine this.imp fun{a b} ⟨ha,hb,hne⟩ e=>hne ?_;rw[←sV (x:=c) (y:=a) (by rw[h.len _ hc,h.len _ ha]),e,sV (by rw[h.len _ hc,h.len _ hb])]
 ·rw[x8];constructor
  ·rintro⟨x,hx,rfl⟩;exact h.sum _ _ hc hx
  ·intro hy;exact⟨ll c y,h.sum _ _ hc hy,sV (by rw[h.len _ hc,h.len _ hy])⟩
theorem Iz.sum_eq {l m:W6}(h:l.Perm m):l.sum=m.sum:=by
 induction h with
 |nil=>rfl
 |cons x _ ih=>rw[j6,j6,ih]
 |swap x y l=>simp only[j6];omega
 |trans _ _ h1 h2=>exact h1.trans h2
theorem Cd.chi_zero {n:Nat}{C:List (List Bool)}(h:Cd n C){x c:List Bool}(hx:x.length=n)(hc:c∈C)(hd:iT x c=true):(C.map fun y=>rR x y).sum=0:=by
 have h1:=Iz.sum_eq ((h.perm hc).map fun y=>rR x y);rw[px]at h1;have h2:(C.map ((fun y=>rR x y)∘ll c)).sum=(C.map fun y=> -rR x y).sum:=gR fun y hy=>by show rR x (ll c y)= -rR x y;unfold rR;rw[qf (by rw[hx,h.len _ hc]) (by rw[h.len _ hc,h.len _ hy]),hd];cases iT x y<;>simp
 rw[h2]at h1;have h3: - (C.map fun y=>rR x y).sum=(C.map fun y=>rR x y).sum:=(jP (fun y=>rR x y) C).symm.trans h1;omega
theorem yS {T:Type}(f:T→Int)(P:T→Bool)(k:Int):∀l:List T,(∀x,x∈l→f x=if P x then k else 0)→(l.map f).sum=(l.countP P:Int)*k
 | [],_=>by simp
 |a::l,h=>by
  rw[h9,j6,yS f P k l fun x hx=>h x (by simp[hx]),h a (by simp),p6];cases P a
  ·simp
  ·simp[Int.add_mul];omega
theorem Cd.square {n:Nat}{C:List (List Bool)}(h:Cd n C)(h0:zE n false∈C)(hd:∀x,x.length=n→((∀c,c∈C→iT x c=false)↔x∈C)):C.length*C.length=2^n:=by
 have e1:((gG n).map fun x=>(C.map fun c=>rR x c).sum).sum=((gG n).countP (fun x=>decide (x∈C)):Int)*(C.length:Int):=yS _ _ _ _ fun x hx=>by
  have hl:=mM.1 hx;by_cases hc:x∈C
  ·rw[if_pos (by simpa using hc)];have:=(hd x hl).2 hc;rw[yS (fun c=>rR x c) (fun _=>true) 1 C fun c hc=>by simp[rR,this c hc]];simp
  ·rw[if_neg (by simpa using hc)];have:¬ ∀c,c∈C→iT x c=false:=fun h'=>hc ((hd x hl).1 h');have⟨c,hc1⟩:∃c,¬(c∈C→iT x c=false):=hT fun h1=>this fun c=>hT fun h2=>h1 ⟨c,h2⟩;have hc2:c∈C:=hT fun h1=>hc1 fun h2=>absurd h2 h1;exact h.chi_zero hl hc2 (by cases hdd:iT x c with|true=>rfl|false=>exact absurd (fun _=>hdd) hc1)
 have e2:(C.map fun c=>((gG n).map fun x=>rR x c).sum).sum=(C.countP (fun c=>decide (wt c=0)):Int)*2^n:=yS _ _ _ _ fun c hc=>by rw[y6 n c (h.len c hc)];by_cases hw:wt c=0<;>simp[hw]
 have e3:(gG n).countP (fun x=>decide (x∈C))=C.length:=by rw[List.countP_eq_length_filter];refine List.Perm.length_eq ((k9 ((mL n).filter _) h.nd).2 fun x=>?_);simp only[List.mem_filter,decide_eq_true_eq,mM];exact⟨fun h=>h.2,fun hx=>⟨h.len x hx,hx⟩⟩
 have e4:C.countP (fun c=>decide (wt c=0))=1:=by
  have:C.countP (fun c=>decide (wt c=0))=C.count (zE n false):=by
   unfold List.count;refine gn fun c hc=>?_;simp only[decide_eq_true_eq,beq_iff_eq];constructor
   ·intro hw;rw[ft hw,h.len c hc]
   ·rintro rfl;exact(fq n).2
  rw[this,h.nd.count,if_pos h0]
 rw[xS,e2,e3,e4]at e1;have:((C.length*C.length:Nat):Int)=((2^n:Nat):Int):=by rw[x5,←e1];simp
 exact_mod_cast this
theorem Cd.eight {C:List (List Bool)}(h:Cd 8 C)(h0:zE 8 false∈C)(h4:∀c,c∈C→wt c%4=0)(hd:∀x,x.length=8→(∀c,c∈C→iT x c=false)→x∈C):
  C.countP (fun c=>decide (wt c=0))=1∧C.countP (fun c=>decide (wt c=4))=14∧C.countP (fun c=>decide (wt c=8))=1∧∀c,c∈C→wt c=0∨wt c=4∨wt c=8:=by
 have horth:∀c d,c∈C→d∈C→iT c d=false:=fun c d hc hd'=>by
  have hl:c.length=d.length:=by rw[h.len c hc,h.len d hd']
  have h1:=Cb hl;have h2:=h4 c hc;have h3:=h4 d hd';have h5:=h4 _ (h.sum c d hc hd');rw[ie hl];simp only[decide_eq_false_iff_not];omega
 have hsq:=h.square h0 fun x hx=>⟨hd x hx,fun hx c hc=>horth x c hx hc⟩
 have hlen:C.length=16:=by
  have h1:C.length<17:=hT fun hc=>by have:=Nat.mul_le_mul (show 17≤C.length by omega) (show 17≤C.length by omega);omega
  have h2:15<C.length:=hT fun hc=>by have:=Nat.mul_le_mul (show C.length≤15 by omega) (show C.length≤15 by omega);omega
  omega
 have hw:∀c,c∈C→wt c=0∨wt c=4∨wt c=8:=fun c hc=>by have h1:=h4 c hc;have h2:=Cc c;rw[h.len c hc]at h2;omega
 have hone:zE 8 true∈C:=hd _ (by simp) fun c hc=>by have:=ig c;rw[h.len c hc]at this;rw[this];have:=h4 c hc;simp only[decide_eq_false_iff_not];omega
 have e0:C.countP (fun c=>decide (wt c=0))=1:=by
  have:C.countP (fun c=>decide (wt c=0))=C.count (zE 8 false):=by
   unfold List.count;refine gn fun c hc=>?_;simp only[decide_eq_true_eq,beq_iff_eq];constructor
   ·intro hw;rw[ft hw,h.len c hc]
   ·rintro rfl;exact(fq 8).2
  rw[this,h.nd.count,if_pos h0]
 have e8:C.countP (fun c=>decide (wt c=8))=1:=by
  have:C.countP (fun c=>decide (wt c=8))=C.count (zE 8 true):=by
   unfold List.count;refine gn fun c hc=>?_;simp only[decide_eq_true_eq,beq_iff_eq];constructor
   ·intro hw;rw[ru (c:=c) (by rw[hw,h.len c hc]),h.len c hc]
   ·rintro rfl;exact(fq 8).1
  rw[this,h.nd.count,if_pos hone]
 refine⟨e0,?_,e8,hw⟩;have key:∀l:List (List Bool),(∀c,c∈l→wt c=0∨wt c=4∨wt c=8)→l.countP (fun c=>decide (wt c=0))+l.countP (fun c=>decide (wt c=4))+l.countP (fun c=>decide (wt c=8))=l.length:=by
  intro l;induction l with
  |nil=>intro _;rfl
  |cons a l ih=>intro hl;have:=ih fun c hc=>hl c (by simp[hc]);rw[p6,p6,p6,j1];rcases hl a (by simp)with h|h|h<;>simp[h]<;>omega
 have:=key C hw;omega
def yN (m:W6):List Bool:=m.map fun v=>decide (v%2=1)
def af:W6→Int
 | []=>0
 |v::m=>v*v+af m
theorem cR:∀m,0≤af m
 | []=>en _
 |v::m=>by
  have h1:=cR m;have h2:0≤v*v:=by
   rcases Int.le_total 0 v with h|h
   ·exact hS h h
   ·exact Int.mul_nonneg_of_nonpos_of_nonpos h h
  show 0≤v*v+af m;omega
def ef:List Bool→Int→W5
 | [],s=>if s=0 then [[]]else []
 |true::c,s=>(ef c (s-1)).map (1:: ·)++(ef c (s-1)).map (-1:: ·)
 |false::c,s=>(ef c s).map (0:: ·)++((ef c (s-4)).map (2:: ·)++(ef c (s-4)).map (-2:: ·))
theorem kb {v:Int}(h:v*v≤8):v=0∨v=1∨v= -1∨v=2∨v= -2:=by
 have h1:v<3:=hT fun hc=>by have:=eg (show(3:Int)≤v by omega) (show(3:Int)≤v by omega) (by omega) (by omega);omega
 have h2: -3<v:=hT fun hc=>by have:=eg (show(3:Int)≤ -v by omega) (show(3:Int)≤ -v by omega) (by omega) (by omega);rw[cy]at this;omega
 omega
theorem kN:∀{c:List Bool} {s:Int} {m:W6},s≤8→(m∈ef c s↔yN m=c∧af m=s)
 | [],s,m,_=>by
  cases m with
  |nil=>
   show []∈(if s=0 then [[]]else [])↔yN []=[]∧(0:Int)=s;by_cases h:s=0
   ·subst h;simp[yN]
   ·rw[if_neg h];simp[yN];omega
  |cons v m=>show v::m∈(if s=0 then [[]]else [])↔_;by_cases h:s=0<;>simp[h,yN]
 |b::c,s,[],_=>by
  constructor
  ·intro h;cases b<;>simp[ef]at h
  ·rintro⟨h,_⟩;simp[yN]at h
 |true::c,s,v::m,hs=>by
  have ih:=kN (c:=c) (s:=s-1) (m:=m) (by omega);simp only[ef,cz,x8,List.cons.injEq];constructor
  ·rintro(⟨x,hx,rfl,rfl⟩|⟨x,hx,rfl,rfl⟩)<;>
   ·rw[ih]at hx;refine⟨by show _::yN x=_;rw[hx.1];rfl,?_⟩;show _+af x=s;omega
  ·rintro⟨h1,h2⟩;have h3:v*v+af m=s:=h2;have h0:=cR m;have h4:decide (v%2=1)::yN m=true::c:=h1;obtain⟨h5,h6⟩:=List.cons.inj h4;have h7:=of_decide_eq_true h5;rcases kb (v:=v) (by omega)with rfl|rfl|rfl|rfl|rfl
   ·omega
   ·exact Or.inl ⟨m,ih.2 ⟨h6,by omega⟩,rfl,rfl⟩
   ·exact Or.inr ⟨m,ih.2 ⟨h6,by omega⟩,rfl,rfl⟩
   ·omega
   ·omega
 |false::c,s,v::m,hs=>by
  have ih:=kN (c:=c) (s:=s) (m:=m) hs;have ih':=kN (c:=c) (s:=s-4) (m:=m) (by omega);simp only[ef,cz,x8,List.cons.injEq];constructor
  ·rintro(⟨x,hx,rfl,rfl⟩|⟨x,hx,rfl,rfl⟩|⟨x,hx,rfl,rfl⟩)
   ·rw[ih]at hx;refine⟨by show _::yN x=_;rw[hx.1];rfl,?_⟩;show _+af x=s;omega
   ·rw[ih']at hx;refine⟨by show _::yN x=_;rw[hx.1];rfl,?_⟩;show _+af x=s;omega
   ·rw[ih']at hx;refine⟨by show _::yN x=_;rw[hx.1];rfl,?_⟩;show _+af x=s;omega
  ·rintro⟨h1,h2⟩;have h3:v*v+af m=s:=h2;have h0:=cR m;have h4:decide (v%2=1)::yN m=false::c:=h1;obtain⟨h5,h6⟩:=List.cons.inj h4;have h7:=of_decide_eq_false h5;rcases kb (v:=v) (by omega)with rfl|rfl|rfl|rfl|rfl
   ·exact Or.inl ⟨m,ih.2 ⟨h6,by omega⟩,rfl,rfl⟩
   ·omega
   ·omega
   ·exact Or.inr (Or.inl ⟨m,ih'.2 ⟨h6,by omega⟩,rfl,rfl⟩)
   ·exact Or.inr (Or.inr ⟨m,ih'.2 ⟨h6,by omega⟩,rfl,rfl⟩)
theorem pw {T:Type}{a b:T}(hab:a≠b)(l m:List (List T)):∀x,x∈l.map (a:: ·)→∀y,y∈m.map (b:: ·)→x≠y:=by
 intro x hx y hy e;simp only[x8]at hx hy;obtain⟨p,_,rfl⟩:=hx;obtain⟨q,_,rfl⟩:=hy;exact hab (List.cons.inj e).1
theorem vP:∀(c:List Bool) (s:Int),(ef c s).Nodup
 | [],s=>by show(if s=0 then [[]]else []:W5).Nodup;split<;>simp
 |true::c,s=>by have ih:=vP c (s-1);exact bd.2 ⟨qE _ ih,qE _ ih,pw (by decide) _ _⟩
 |false::c,s=>by
  have ih:=vP c s;have ih':=vP c (s-4);refine bd.2 ⟨qE _ ih,bd.2 ⟨qE _ ih',qE _ ih',pw (by decide) _ _⟩,fun x hx y hy=>?_⟩;rcases cz.1 hy with hy|hy
  ·exact pw (by decide) _ _ x hx y hy
  ·exact pw (by decide) _ _ x hx y hy
def pJ:List Bool→Int→Nat
 | [],s=>if s=0 then 1 else 0
 |true::c,s=>2*pJ c (s-1)
 |false::c,s=>pJ c s+2*pJ c (s-4)
theorem da:∀(c:List Bool) (s:Int),(ef c s).length=pJ c s
 | [],s=>by
  show(if s=0 then [[]]else []:W5).length=if s=0 then 1 else 0
  split<;>rfl
 |true::c,s=>by simp only[ef,pJ,List.length_append,l5,da c];omega
 |false::c,s=>by simp only[ef,pJ,List.length_append,l5,da c];omega
theorem sx:((gG 8).all fun c=>(wt c != 0||(pJ c 4==16&&pJ c 8==112))&&(wt c != 4||(pJ c 4==16&&pJ c 8==128))&&(wt c != 8||(pJ c 4==0&&pJ c 8==256)))=true:=by decide+kernel
theorem yb {c:List Bool}(h:c.length=8):(wt c=0→pJ c 4=16∧pJ c 8=112)∧(wt c=4→pJ c 4=16∧pJ c 8=128)∧(wt c=8→pJ c 4=0∧pJ c 8=256):=by
 have:=List.all_eq_true.1 sx c (mM.2 h);simp only[Bool.and_eq_true,Bool.or_eq_true,bne_iff_ne,beq_iff_eq]at this;refine⟨fun h=>?_,fun h=>?_,fun h=>?_⟩
 ·exact this.1.1.resolve_left (fun h'=>h' h)
 ·exact this.1.2.resolve_left (fun h'=>h' h)
 ·exact this.2.resolve_left (fun h'=>h' h)
theorem jU {f:List Bool→Nat}{a b e:Nat}:∀{l:List (List Bool)},(∀c,c∈l→(wt c=0∧f c=a)∨(wt c=4∧f c=b)∨(wt c=8∧f c=e))→
  (l.map f).sum=l.countP (fun c=>decide (wt c=0))*a+l.countP (fun c=>decide (wt c=4))*b+l.countP (fun c=>decide (wt c=8))*e
 | [],_=>by simp
 |c::l,h=>by have ih:=jU (f:=f) (a:=a) (b:=b) (e:=e) (l:=l) fun d hd=>h d (by simp[hd]);rw[h9,j6,ih,p6,p6,p6];rcases h c (by simp)with⟨h1,h2⟩|⟨h1,h2⟩|⟨h1,h2⟩<;>simp[h1,h2,Nat.add_mul]<;>omega
theorem Dj {C:List (List Bool)}(h:Cd 8 C)(h0:C.countP (fun c=>decide (wt c=0))=1∧C.countP (fun c=>decide (wt c=4))=14∧C.countP (fun c=>decide (wt c=8))=1∧∀c,c∈C→wt c=0∨wt c=4∨wt c=8):
  (C.flatMap fun c=>ef c 4).length=240∧(C.flatMap fun c=>ef c 8).length=2160:=by
 rw[ps,ps];simp only[da];rw[jU (f:=fun c=>pJ c 4) (a:=16) (b:=16) (e:=0) fun c hc=>?_,jU (f:=fun c=>pJ c 8) (a:=112) (b:=128) (e:=256) fun c hc=>?_,h0.1,h0.2.1,h0.2.2.1]
 ·exact⟨rfl,rfl⟩
 ·have:=yb (h.len c hc);rcases h0.2.2.2 c hc with hw|hw|hw
  ·exact Or.inl ⟨hw,(this.1 hw).2⟩
  ·exact Or.inr (Or.inl ⟨hw,(this.2.1 hw).2⟩)
  ·exact Or.inr (Or.inr ⟨hw,(this.2.2 hw).2⟩)
 ·have:=yb (h.len c hc);rcases h0.2.2.2 c hc with hw|hw|hw
  ·exact Or.inl ⟨hw,(this.1 hw).1⟩
  ·exact Or.inr (Or.inl ⟨hw,(this.2.1 hw).1⟩)
  ·exact Or.inr (Or.inr ⟨hw,(this.2.2 hw).1⟩)
theorem uu {C:List (List Bool)}(h:C.Nodup){s:Int}(hs:s≤8):(C.flatMap fun c=>ef c s).Nodup:=by
 unfold List.Nodup;rw[List.pairwise_flatMap];refine⟨fun c _=>vP c s,h.imp fun{a b} hne x hx y hy e=>hne ?_⟩;rw[←((kN hs).1 hx).1,e,((kN hs).1 hy).1]
theorem qx {C:List (List Bool)}{s:Int}(hs:s≤8){m:W6}:m∈(C.flatMap fun c=>ef c s)↔yN m∈C∧af m=s:=by
 rw[List.mem_flatMap];constructor
 ·rintro⟨c,hc,hm⟩;rw[kN hs]at hm;exact⟨by rw[hm.1];exact hc,hm.2⟩
 ·rintro⟨h1,h2⟩;exact⟨_,h1,(kN hs).2 ⟨rfl,h2⟩⟩
theorem Bk:∀m,af m%4=(wt (yN m):Int)%4
 | []=>rfl
 |v::m=>by
  have ih:=Bk m;have e:wt (yN (v::m))=(if decide (v%2=1)then 1 else 0)+wt (yN m):=rfl;have e2:af (v::m)=v*v+af m:=rfl;rw[e,e2];have h4:v%4=0∨v%4=1∨v%4=2∨v%4=3:=by omega
  have hv:=Int.mul_emod v v 4;rcases h4 with h|h|h|h
  ·rw[if_neg (by simp;omega)];rw[h]at hv;omega
  ·rw[if_pos (by simp;omega)];rw[h]at hv;omega
  ·rw[if_neg (by simp;omega)];rw[h]at hv;omega
  ·rw[if_pos (by simp;omega)];rw[h]at hv;omega
def vx (l:W6)(t:Nat):Rat:=((l.getD t 0:Int):Rat)
def jg (n:Nat)(v:Nat→Rat):W6:=(List.range n).map fun t=>(v t).num
theorem H7 {q:Rat}:Wh q→((q.num:Int):Rat)=q
 |⟨z,hz⟩=>by rw[hz,e7]
theorem dc (n:Nat)(v:Nat→Rat):(jg n v).length=n:=by simp[jg]
theorem Gp {n:Nat}(v:Nat→Rat){t:Nat}(h:t<n):(jg n v).getD t 0=(v t).num:=by
 unfold jg;rw[hF,List.getElem?_map,List.getElem?_range h];rfl
theorem kU {n:Nat}{v:Nat→Rat}{t:Nat}(h:t<n)(hw:Wh (v t)):vx (jg n v) t=v t:=by
 unfold vx;rw[Gp v h,H7 hw]
theorem fS {T:Type}{l:List T}{d:T}{t:Nat}(h:t<l.length):l.getD t d=l[t]:=by
 rw[hF,il h];rfl
theorem gV (l:W6)(t:Nat):Wh (vx l t):=tE _
theorem C8 {l m:W6}{n:Nat}(hl:l.length=n)(hm:m.length=n)(h:∀t,t<n→vx l t=vx m t):l=m:=by
 refine List.ext_getElem (by omega) fun t h1 h2=>?_;have:=h8.1 (h t (by omega));rwa[fS h1,fS h2]at this
theorem Bj:∀(m:W6),((af m:Int):Rat)=sm m.length fun i=>vx m i*vx m i
 | []=>rfl
 |v::m=>by rw[j1,aZ];show((v*v+af m:Int):Rat)=(v:Rat)*(v:Rat)+_;rw[c6,c5,Bj m];rfl
def xm (x:List Bool)(i:Nat):Rat:=if x.getD i false then 1 else 0
theorem Gb:∀{x:List Bool} {m:W6},x.length=m.length→iT x (yN m)=false→∃z:Int,sm x.length (fun i=>xm x i*vx m i)=((2*z:Int):Rat)
 |x,m,h,hd=>by
  have key:∀{x:List Bool} {m:W6},x.length=m.length→∃z:Int,sm x.length (fun i=>xm x i*vx m i)=((2*z+if iT x (yN m)then 1 else 0:Int):Rat):=by
   intro x;induction x with
   |nil=>intro m h;cases m with
    |nil=>exact⟨0,rfl⟩
    |cons=>simp at h
   |cons b x ih=>intro m h;cases m with
    |nil=>simp at h
    |cons v m=>
     obtain⟨z,hz⟩:=ih (m:=m) (by simpa using h);have e1:sm (b::x).length (fun i=>xm (b::x) i*vx (v::m) i)=(if b then 1 else 0)*(v:Rat)+sm x.length (fun i=>xm x i*vx m i):=by rw[j1,aZ];rfl
     rw[e1,hz];have e2:iT (b::x) (yN (v::m))=((b&&decide (v%2=1))^^iT x (yN m)):=rfl;rw[e2];cases b with
     |false=>refine⟨z,?_⟩;simp only[Bool.false_and,Bool.false_bne,Bool.false_xor];rw[show(if false=true then(1:Rat)else 0)=0 from rfl];grind
     |true=>
      rw[show(if true=true then(1:Rat)else 0)=1 from rfl,Rat.one_mul,←c6,Bool.true_and];by_cases hv:v%2=1
      ·have hv':v=2*(v/2)+1:=by omega
       cases hdd:iT x (yN m)with
       |false=>exact⟨z+v/2,by congr 1;simp[hv];omega⟩
       |true=>exact⟨z+v/2+1,by congr 1;simp[hv];omega⟩
      ·have hv':v=2*(v/2):=by omega
       cases hdd:iT x (yN m)with
       |false=>exact⟨z+v/2,by congr 1;simp[hv];omega⟩
       |true=>exact⟨z+v/2,by congr 1;simp[hv];omega⟩
  obtain⟨z,hz⟩:=key h;rw[hd]at hz;exact⟨z,by rw[hz];congr 1;simp⟩
theorem iS (A:Nat→Nat→Rat)(d:Nat)(v:Nat→Rat):ip A d (fun _=>0) v=0:=wC fun a _=>wC fun b _=>by grind
theorem sP (A:Nat→Nat→Rat)(d:Nat)(k:Rat)(x:Nat→Rat)(c:Nat→Rat)(R:Nat→Nat→Rat)(n:Nat)(v:Nat→Rat):ip A d (fun t=>k*x t+sm n fun i=>c i*R i t) v=k*ip A d x v+sm n fun i=>c i*ip A d (R i) v:=by
 rw[←yQ A d c R v n];have h1:=sL A d (fun t=>k*x t) (fun t=>sm n fun i=>c i*R i t) v (-1);have h2:=sL A d (fun t=>0) x v (-k);rw[yC (u:=fun t=>k*x t) (v:=v) (fun t _=>by grind) (fun _ _=>rfl),iS]at h2;rw[yC (u:=fun t=>k*x t- -1*sm n fun i=>c i*R i t) (v:=v) (fun t _=>by show k*x t+_=k*x t-_;grind) (fun _ _=>rfl),h1,h2];grind
theorem rb {f g:Nat→Int}:∀l:W7,ll (yN (l.map f)) (yN (l.map g))=yN (l.map fun i=>f i+g i)
 | []=>rfl
 |a::l=>by
  show((decide (f a%2=1)^^decide (g a%2=1))::ll (yN (l.map f)) (yN (l.map g)))=decide ((f a+g a)%2=1)::yN (l.map fun i=>f i+g i);rw[rb l];congr 1;rcases Int.emod_two_eq (f a)with h1|h1<;>rcases Int.emod_two_eq (g a)with h2|h2
  ·rw[show(f a+g a)%2=0 by omega,h1,h2];rfl
  ·rw[show(f a+g a)%2=1 by omega,h1,h2];rfl
  ·rw[show(f a+g a)%2=1 by omega,h1,h2];rfl
  ·rw[show(f a+g a)%2=0 by omega,h1,h2];rfl
theorem oa (m:W6){i:Nat}(h:i<m.length):(yN m).getD i false=decide (m.getD i 0%2=1):=by
 unfold yN;rw[hF,List.getElem?_map,hF,il h];rfl
theorem pS {T:Type} [DecidableEq T]:∀{l m:List T},l.Nodup→(∀x,x∈l→x∈m)→l.length≤m.length
 | [],_,_,_=>Nat.zero_le _
 |a::l,m,h,hs=>by obtain⟨h1,h2⟩:=List.nodup_cons.1 h;have ha:=hs a (by simp);have ih:=pS (l:=l) (m:=m.erase a) h2 fun x hx=>(List.mem_erase_of_ne (fun e=>h1 (by rw[←e];exact hx))).2 (hs x (by simp[hx]));rw[List.length_erase_of_mem ha]at ih;have:=List.length_pos_of_mem ha;rw[j1];omega
theorem oO {A:Nat→Nat→Rat}(hs:qQ A)(hA:∀a b,a<8→b<8→Wh (A a b))(he:∀a,a<8→∃z:Rat,Wh z∧A a a=2*z)(hp:PD 8 A)(hd:dp A 8=1){X:W5}(hX:X.Nodup):
  ((∀x,x∈X↔x.length=8∧ip A 8 (vx x) (vx x)=2)→X.length=240)∧((∀x,x∈X↔x.length=8∧ip A 8 (vx x) (vx x)=4)→X.length=2160)∧
  ((∀x,x∈X→x.length=8∧ip A 8 (vx x) (vx x)=2)→X.length≤240)∧((∀x,x∈X→x.length=8∧ip A 8 (vx x) (vx x)=4)→X.length≤2160):=by
 classical
 obtain⟨R,hR,hRR,hK⟩:=tb hs hA he hp hd
 let M:W6→W6:=fun x=>jg 8 fun i=>ip A 8 (vx x) (R i)
 have hMw:∀x i,i<8→Wh (ip A 8 (vx x) (R i)):=fun x i hi=>v8 hA (fun t _=>gV x t) (hR i hi);have hM:∀x i,i<8→vx (M x) i=ip A 8 (vx x) (R i):=fun x i hi=>kU hi (hMw x i hi);have hml:∀x,(M x).length=8:=fun x=>dc 8 _;have hsum:∀(v:Nat→Rat),(∀t,t<8→Wh (v t))→∀t,t<8→2*v t=sm 8 fun i=>ip A 8 v (R i)*R i t:=fun v hv t ht=>by
  have h0:=hK (fun t=>2*v t+sm 8 fun i=>(-ip A 8 v (R i))*R i t) (fun t ht=>mP (mE ⟨2,rfl⟩ (hv t ht)) (cO fun i hi=>mE (fk (v8 hA hv (hR i hi))) (hR i hi t ht))) (fun j hj=>by rw[sP,lE j hj fun i hi hne=>by rw[hRR i j hi hj,if_neg hne];grind,hRR j j hj hj,if_pos rfl];grind) t ht;have h1:(sm 8 fun i=>(-ip A 8 v (R i))*R i t)= -sm 8 fun i=>ip A 8 v (R i)*R i t:=by rw[←Bh];exact zA fun i _=>by grind
  have h0':2*v t+(sm 8 fun i=>(-ip A 8 v (R i))*R i t)=0:=h0;rw[h1]at h0';grind
 have hnorm:∀x,2*ip A 8 (vx x) (vx x)=((af (M x):Int):Rat):=fun x=>by have h1:=sP A 8 0 (fun _=>0) (fun i=>ip A 8 (vx x) (R i)) R 8 (vx x);rw[yC (u:=fun t=>2*vx x t) (v:=vx x) (fun t ht=>by show 0*0+_=_;rw[hsum _ (fun t _=>gV x t) t ht];grind) (fun _ _=>rfl)]at h1;have h2:=sP A 8 2 (vx x) (fun _=>0) R 0 (vx x);rw[yC (u:=fun t=>2*vx x t) (v:=vx x) (fun t ht=>by show 2*vx x t+0=_;grind) (fun _ _=>rfl),jD]at h2;rw[h2]at h1;rw[Bj,hml];rw[zA (f:=fun i=>vx (M x) i*vx (M x) i) (g:=fun i=>ip A 8 (vx x) (R i)*ip A 8 (R i) (vx x)) fun i hi=>by rw[hM x i hi,mJ hs 8 (R i)]];grind
 have hinj:∀x y,x.length=8→y.length=8→M x=M y→x=y:=fun x y hx hy e=>C8 hx hy fun t ht=>by have h1:=hsum _ (fun t _=>gV x t) t ht;have h2:=hsum _ (fun t _=>gV y t) t ht;rw[zA (g:=fun i=>ip A 8 (vx y) (R i)*R i t) fun i hi=>by rw[←hM x i hi,e,hM y i hi]]at h1;grind
 have hmove:∀x (m:W6),m.length=8→yN m=yN (M x)→∃y,y.length=8∧M y=m:=fun x m hm hpar=>by
  have hev:∀i,i<8→Wh ((vx m i-ip A 8 (vx x) (R i))/2):=fun i hi=>by
   have h1:=oa m (i:=i) (by omega);have h2:=oa (M x) (i:=i) (by rw[hml];exact hi);rw[hpar,h2]at h1;rw[←hM x i hi];unfold vx;have h3:((M x).getD i 0%2=1)↔(m.getD i 0%2=1):=by simpa using h1
   refine⟨(m.getD i 0- (M x).getD i 0)/2,?_⟩;have h4:m.getD i 0- (M x).getD i 0=2*((m.getD i 0- (M x).getD i 0)/2):=by omega
   rw[←Rat.intCast_sub];generalize(m.getD i 0- (M x).getD i 0)/2=z at h4⊢;rw[h4,c5];simp;grind
  let v:Nat→Rat:=fun t=>1*vx x t+sm 8 fun i=>((vx m i-ip A 8 (vx x) (R i))/2)*R i t
  have hv:∀t,t<8→Wh (v t):=fun t ht=>mP (mE oV (gV x t)) (cO fun i hi=>mE (hev i hi) (hR i hi t ht));refine⟨jg 8 v,dc 8 v,C8 (hml _) hm fun i hi=>?_⟩;rw[hM _ i hi,yC (u:=v) (v:=R i) (fun t ht=>kU ht (hv t ht)) (fun _ _=>rfl)];show ip A 8 (fun t=>1*vx x t+sm 8 fun i=>((vx m i-ip A 8 (vx x) (R i))/2)*R i t) (R i)=_;rw[sP,lE i hi fun j hj hne=>by rw[hRR j i hj hi,if_neg hne];grind,hRR i i hi hi,if_pos rfl];grind
 let C:List (List Bool):=(gG 8).filter fun c=>decide (∃x,yN (M x)=c)
 have hC:∀c,c∈C↔∃x,yN (M x)=c:=fun c=>by
  show c∈(gG 8).filter _↔_;rw[List.mem_filter,mM];constructor
  ·rintro⟨_,h⟩;exact of_decide_eq_true h
  ·intro h;obtain⟨x,hx⟩:=h;refine⟨by rw[←hx];unfold yN;rw[l5,hml],decide_eq_true ⟨x,hx⟩⟩
 have hcd:Cd 8 C:=⟨(mL 8).filter _,fun c hc=>by obtain⟨x,rfl⟩:=(hC c).1 hc;unfold yN;rw[l5,hml],fun c e hc he'=>by
  obtain⟨x,rfl⟩:=(hC c).1 hc;obtain⟨y,rfl⟩:=(hC e).1 he';refine(hC _).2 ⟨jg 8 fun t=>1*vx x t+sm 1 fun _=>1*vx y t,?_⟩;have:M (jg 8 fun t=>1*vx x t+sm 1 fun _=>1*vx y t)=(List.range 8).map fun i=>(ip A 8 (vx x) (R i)).num+(ip A 8 (vx y) (R i)).num:=by show(List.range 8).map _=_;refine ec fun i hi=>?_;have hi:i<8:=List.mem_range.1 hi;show(ip A 8 (vx (jg 8 fun t=>1*vx x t+sm 1 fun _=>1*vx y t)) (R i)).num=_;rw[yC (x:=vx (jg 8 fun t=>1*vx x t+sm 1 fun _=>1*vx y t)) (u:=fun t=>1*vx x t+sm 1 fun _=>1*vx y t) (v:=R i) (fun t ht=>kU (v:=fun t=>1*vx x t+sm 1 fun _=>1*vx y t) ht (mP (mE oV (gV x t)) (cO fun _ _=>mE oV (gV y t)))) (fun _ _=>rfl)];have h1:=sP A 8 1 (vx x) (fun _=>1) (fun _=>vx y) 1 (R i);rw[h1,iB,jD];obtain⟨p,hp⟩:=hMw x i hi;obtain⟨q,hq⟩:=hMw y i hi;rw[hp,hq,e7,e7,show(1:Rat)*(p:Rat)+(0+1*(q:Rat))=((p+q:Int):Rat) by rw[c6];grind,e7]
  rw[this];exact(rb (f:=fun i=>(ip A 8 (vx x) (R i)).num) (g:=fun i=>(ip A 8 (vx y) (R i)).num) (List.range 8)).symm⟩
 have h0:zE 8 false∈C:=(hC _).2 ⟨[],by
  have:M []=zE 8 0:=by show(List.range 8).map _=_;rw[ec (g:=fun _=>(0:Int)) fun i _=>by show(ip A 8 (vx []) (R i)).num=0;rw[yC (u:=fun _=>0) (v:=R i) (fun t _=>by simp[vx]) (fun _ _=>rfl),iS];rfl];rfl
  rw[this];rfl⟩
 have h4:∀c,c∈C→wt c%4=0:=fun c hc=>by
  obtain⟨x,rfl⟩:=(hC c).1 hc;have h1:=Bk (M x);obtain⟨z,⟨w,hw⟩,ez⟩:=gS (x:=vx x) hs hA he (fun t _=>gV x t);have h2:=hnorm x;rw[ez,hw]at h2;have h3:((4*w:Int):Rat)=((af (M x):Int):Rat):=by rw[←h2,c5];simp;grind
  have h4:=h8.1 h3;omega
 have hdual:∀x,x.length=8→(∀c,c∈C→iT x c=false)→x∈C:=fun x hx hxc=>by
  let w:Nat→Rat:=fun t=>0*0+sm 8 fun i=>(xm x i/2)*R i t
  have hipw:∀v,ip A 8 w v=sm 8 fun i=>(xm x i/2)*ip A 8 (R i) v:=fun v=>by have:=sP A 8 0 (fun _=>0) (fun i=>xm x i/2) R 8 v;show ip A 8 (fun t=>0*0+sm 8 fun i=>(xm x i/2)*R i t) v=_;rw[this];grind
  have hwy:∀l,Wh (ip A 8 w (vx l)):=fun l=>by
   obtain⟨z,hz⟩:=Gb (x:=x) (m:=M l) (by rw[hml,hx]) (hxc _ ((hC _).2 ⟨l,rfl⟩));refine⟨z,?_⟩;rw[hipw];rw[hx]at hz;have:(sm 8 fun i=>(xm x i/2)*ip A 8 (R i) (vx l))=1/2*sm 8 fun i=>xm x i*vx (M l) i:=by rw[←tH];exact zA fun i hi=>by rw[hM l i hi,mJ hs 8 (R i)];grind
   rw[this,hz,c5];simp;grind
  have hww:∀t,t<8→Wh (w t):=fun t ht=>by
   have h1:ip A 8 w (vx (jg 8 (Cj 8 A t)))=w t:=by
    rw[yC (u:=w) (v:=Cj 8 A t) (fun _ _=>rfl) (fun s hs'=>kU hs' (az hA t s))];unfold ip;rw[zA (g:=fun a=>if a=t then w t else 0) fun a ha=>?_,ot (fun _=>w t) ht];have e:=mR A (i:=a) (j:=t) ha ht;rw[bx (n:=7) fun l hl=>hp.ne (by omega),hd]at e;rw[zA (g:=fun b=>w a*(A a b*Cj 8 A t b)) fun b _=>by grind,tH,e];by_cases h:a=t
    ·subst h;rw[if_pos rfl,if_pos rfl];grind
    ·rw[if_neg h,if_neg h];grind
   rw[←h1];exact hwy _
  refine(hC _).2 ⟨jg 8 w,?_⟩;have hmw:∀i,i<8→(M (jg 8 w)).getD i 0=if x.getD i false then 1 else 0:=fun i hi=>by
   have h1:=hM (jg 8 w) i hi;rw[yC (u:=w) (v:=R i) (fun t ht=>kU ht (hww t ht)) (fun _ _=>rfl),hipw,lE i hi fun j hj hne=>by rw[hRR j i hj hi,if_neg hne];grind,hRR i i hi hi,if_pos rfl]at h1;unfold vx xm at h1;refine h8.1 ?_;rw[h1];by_cases hb:x.getD i false=true
   ·rw[if_pos hb,if_pos hb];simp;grind
   ·rw[if_neg hb,if_neg hb];simp;grind
  refine List.ext_getElem (by unfold yN;rw[l5,hml,hx]) fun i h1 h2=>?_;have hi:i<8:=by omega
  have h3:=oa (M (jg 8 w)) (i:=i) (by rw[hml];exact hi);rw[hmw i hi,fS h1,fS h2]at h3;rw[h3];cases x[i]<;>simp
 have hcount:=Dj hcd (hcd.eight h0 h4 hdual);have hlen:∀(s:Int),s≤8→(∀x,x∈X↔x.length=8∧2*ip A 8 (vx x) (vx x)=((s:Int):Rat))→X.length=(C.flatMap fun c=>ef c s).length:=fun s hs8 h=>by
  have hmem:∀x,x∈X↔x.length=8∧af (M x)=s:=fun x=>by rw[h x,hnorm x,h8]
  rw[←l5 (f:=M)];refine List.Perm.length_eq ((k9 ?_ (uu hcd.nd hs8)).2 fun m=>?_)
  ·have:List.Pairwise (fun a b=>a∈X∧b∈X∧a≠b) X:=(y2.2 fun{a b} hab=>⟨hab.subset (by simp),hab.subset (by simp),(y2.1 hX) hab⟩)
   unfold List.Nodup;rw[bm];exact this.imp fun{a b} ⟨ha,hb,hne⟩ e=>hne (hinj a b ((hmem a).1 ha).1 ((hmem b).1 hb).1 e)
  ·rw[x8,qx hs8];constructor
   ·rintro⟨x,hx,rfl⟩;exact⟨(hC _).2 ⟨x,rfl⟩,((hmem x).1 hx).2⟩
   ·rintro⟨h1,h2⟩;obtain⟨x,hx⟩:=(hC _).1 h1;have hm8:m.length=8:=by
     have:=congrArg List.length hx;unfold yN at this;rw[l5,l5,hml]at this;exact this.symm
    obtain⟨y,hy,rfl⟩:=hmove x m hm8 hx.symm;exact⟨y,(hmem y).2 ⟨hy,h2⟩,rfl⟩
 have hle:∀(s:Int),s≤8→(∀x,x∈X→x.length=8∧2*ip A 8 (vx x) (vx x)=((s:Int):Rat))→X.length≤(C.flatMap fun c=>ef c s).length:=fun s hs8 h=>by
  have hmem:∀x,x∈X→x.length=8∧af (M x)=s:=fun x hx=>by have:=h x hx;rw[hnorm x,h8]at this;exact this
  rw[←l5 (f:=M)];refine pS ?_ fun m hm=>?_
  ·have:List.Pairwise (fun a b=>a∈X∧b∈X∧a≠b) X:=(y2.2 fun{a b} hab=>⟨hab.subset (by simp),hab.subset (by simp),(y2.1 hX) hab⟩)
   unfold List.Nodup;rw[bm];exact this.imp fun{a b} ⟨ha,hb,hne⟩ e=>hne (hinj a b (hmem a ha).1 (hmem b hb).1 e)
  ·rw[x8]at hm;obtain⟨x,hx,rfl⟩:=hm;exact(qx hs8).2 ⟨(hC _).2 ⟨x,rfl⟩,(hmem x hx).2⟩
 refine⟨fun h=>?_,fun h=>?_,fun h=>?_,fun h=>?_⟩
 ·rw[hlen 4 (by omega) fun x=>by rw[h x];refine and_congr_right fun _=>?_;show _↔_=(4:Rat);constructor<;>intro h<;>grind];exact hcount.1
 ·rw[hlen 8 (by omega) fun x=>by rw[h x];refine and_congr_right fun _=>?_;show _↔_=(8:Rat);constructor<;>intro h<;>grind];exact hcount.2
 ·rw[←hcount.1];exact hle 4 (by omega) fun x hx=>⟨(h x hx).1,by rw[(h x hx).2];show(2:Rat)*2=4;grind⟩
 ·rw[←hcount.2];exact hle 8 (by omega) fun x hx=>⟨(h x hx).1,by rw[(h x hx).2];show(2:Rat)*4=8;grind⟩
def Rw (M:Nat→Nat→Rat)(i j:Nat)(c:Rat):Prop:= -(c*el M j j j)≤el M j i j∧el M j i j≤c*el M j j j
theorem Rw.up {M:Nat→Nat→Rat}{i j:Nat}{c d:Rat}(h:Rw M i j c)(hcd:c≤d)(h0:0<el M j j j):Rw M i j d:=by
 have:=hV hcd (j2 h0);unfold Rw at*;constructor<;>grind
theorem ke {x c:Rat}(h: -c≤x∧x≤c):x*x≤c*c:=by
 have h1:=n4 (show(0:Rat)≤c-x by grind) (show(0:Rat)≤c+x by grind);grind
theorem ml {x p c:Rat}(hp:0<p)(h:x≤c*p):x/p≤c:=by
 refine l9 (c:=p) ?_ hp;have:x/p*p=x:=by grind
 rw[this];exact h
theorem yO {x c:Rat}(hc:0≤c)(h:x*x≤c*c): -c≤x∧x≤c:=by
 constructor
 ·rcases kk (a:= -c) (b:=x)with h1|h1
  ·exact h1
  ·rcases kk (a:= -c) (b:=x)with h2|h2
   ·exact h2
   ·by_cases e:x= -c
    ·grind
    ·have h3:0< -x-c:=by grind
     have h4:0< -x+c:=by grind
     have:=x6 h3 h4;grind
 ·rcases kk (a:=x) (b:=c)with h1|h1
  ·exact h1
  ·by_cases e:x=c
   ·grind
   ·have h3:0<x-c:=by grind
    have h4:0<x+c:=by grind
    have:=x6 h3 h4;grind
section
variable {M:Nat→Nat→Rat}(hs:qQ M){n:Nat}(hp:PD n M)
include hs hp
omit hp in
theorem vR {i:Nat}(hi:i<n):∀r,r≤i→M i i=el M r i i+sm r fun t=>el M t i t*el M t i t/el M t t t
 |0,_=>by rw[jD];show M i i=M i i+0;grind
 |r+1,hr=>by rw[iB,vR hi r (by omega)];show _=el M r i i-el M r i r*el M r r i/el M r r r+_;rw[pE hs r r i];grind
theorem qT {i t:Nat}(hi:i<n)(ht:t<i):el M t i t*el M t i t≤M i i*el M t t t:=by
 have h1:=vR hs hi i (hE _);have h2:=hp i hi;have h3:=gW (f:=fun t=>el M t i t*el M t i t/el M t t t) (n:=i) (fun t ht=>jF (yE _) (hp t (by omega))) ht;have h4:=hp t (by omega);have h5:el M t i t*el M t i t/el M t t t≤M i i:=by grind
 have h6:=hV h5 (j2 h4);have h7:el M t i t*el M t i t/el M t t t*el M t t t=el M t i t*el M t i t:=by have:=hp.ne (r:=t) (by omega);grind
 rw[h7]at h6;exact h6
theorem uR {i:Nat}(hi:i<n){c B:Rat}(hB:∀t,t<n→el M t t t≤B)(hc:0≤c)(h:∀t,t<i→Rw M i t c):M i i≤B+(i:Nat)*(c*c*B):=by
 rw[vR hs hi i (hE _)];have h1:=hB i hi;have h2:sm i (fun t=>el M t i t*el M t i t/el M t t t)≤(i:Nat)*(c*c*B):=by
  have key:∀t,t<i→el M t i t*el M t i t/el M t t t≤c*c*B:=fun t ht=>by
   have h3:=ke (h t ht);have h4:=hp t (show t<n by omega);have h5:el M t i t*el M t i t/el M t t t≤c*c*el M t t t:=by refine ml h4 ?_;grind
   have h6:=hZ (hB t (by omega)) (n4 hc hc);exact a8 h5 h6
  clear h1;have:∀k,k≤i→sm k (fun t=>el M t i t*el M t i t/el M t t t)≤(k:Nat)*(c*c*B):=by
   intro k;induction k with
   |zero=>intro _;rw[jD];simp
   |succ k ih=>intro hk;have e1:=ih (by omega);have e2:=key k (by omega);rw[iB,show((k+1:Nat):Rat)=(k:Rat)+1 by rw[Rat.natCast_add];simp];grind
  exact this i (hE _)
 grind
theorem mn {i k:Nat}(hik:i<k)(hkn:k<n):∀d r,r+d=i→el M r i k*el M r i k≤el M r i i*el M r k k
 |0,r,hr=>by
  obtain rfl:r=i:=by omega
  have h1:=hp r (by omega);have h2:=hp.diag hs (r:=r+1) (a:=k) (by omega) hkn;have h3:el M r r r*el M (r+1) k k=el M r r r*el M r k k-el M r r k*el M r r k:=by show el M r r r*(el M r k k-el M r k r*el M r r k/el M r r r)=_;rw[pE hs r k r];grind
  have h4:=x6 h1 h2;grind
 |d+1,r,hr=>by
  have ih:=mn hik hkn d (r+1) (by omega);have hX:=hp.diag hs (r:=r+1) (a:=i) (by omega) (by omega);have hY:=hp.diag hs (r:=r+1) (a:=k) (by omega) hkn;have h0:=hp r (by omega);have e1:el M r i k=el M (r+1) i k+el M r i r*el M r k r/el M r r r:=by show _=el M r i k-el M r i r*el M r r k/el M r r r+_;rw[pE hs r r k];grind
  have e2:el M r i i=el M (r+1) i i+el M r i r*el M r i r/el M r r r:=by show _=el M r i i-el M r i r*el M r r i/el M r r r+_;rw[pE hs r r i];grind
  have e3:el M r k k=el M (r+1) k k+el M r k r*el M r k r/el M r r r:=by show _=el M r k k-el M r k r*el M r r k/el M r r r+_;rw[pE hs r r k];grind
  rw[e1,e2,e3];generalize el M (r+1) i i=X at*;generalize el M (r+1) k k=Y at*;generalize el M (r+1) i k=Z at*;generalize el M r i r=a at*;generalize el M r k r=b at*;generalize el M r r r=p at*;have q1:0≤X*(X*(b*b)+Y*(a*a)-2*Z*a*b):=by have f1:=yE (X*b-Z*a);have f2:=n4 (show(0:Rat)≤X*Y-Z*Z by grind) (yE a);grind
  have q2:0≤X*(b*b)+Y*(a*a)-2*Z*a*b:=by
   have:X*0≤X*(X*(b*b)+Y*(a*a)-2*Z*a*b):=by simpa using q1
   exact x9 this hX
  have q3:=jF q2 h0;have q4:(X+a*a/p)*(Y+b*b/p)- (Z+a*b/p)*(Z+a*b/p)=X*Y-Z*Z+(X*(b*b)+Y*(a*a)-2*Z*a*b)/p:=by
   have:=h0;have hne:p≠0:=by grind
   grind
  grind
theorem qh {r i k:Nat}(hi:r≤i)(hk:r≤k)(hin:i<n)(hkn:k<n):el M r i k*el M r i k≤el M r i i*el M r k k:=by
 rcases gw i k with h|h|h
 ·exact mn hs hp h hkn (i-r) r (by omega)
 ·subst h;exact cq
 ·have:=mn hs hp h hin (k-r) r (by omega);rw[pE hs r i k];grind
end
theorem ij {M:Nat→Nat→Rat}{n:Nat}(hp:PD n M){B:Rat}(hB:∀t,t<n→el M t t t≤B)(h0:0≤B):∀r,r≤n→dp M r≤B^r
 |0,_=>by show(1:Rat)≤B^0;rw[Rat.pow_zero];exact cq
 |r+1,hr=>by show dp M r*el M r r r≤B^(r+1);rw[Rat.pow_succ];have h1:=ij hp hB h0 r (by omega);have h2:=hB r (by omega);have h3:=hp r (by omega);have h4:=hV h1 (j2 h3);have h5:=hZ h2 (j2 (eo (n:=r) (show 0<B by grind)));exact a8 h4 h5
theorem F6 {M:Nat→Nat→Rat}{n:Nat}(hp:PD n M)(hw:∀r,r≤n→Wh (dp M r)){B:Rat}(hB:∀t,t<n→el M t t t≤B)(h0:1≤B){r:Nat}(hr:r<n):1≤B^r*el M r r r:=by
 have h1:=ij hp hB (by grind) r (by omega);have h2:1≤dp M (r+1):=al (hw (r+1) hr) (dD fun l hl=>hp l (by omega));have h3:=hV h1 (j2 (hp r hr));have h4:dp M (r+1)=dp M r*el M r r r:=rfl;grind
theorem rf {M:Nat→Nat→Rat}{n:Nat}(hp:PD n M){i j:Nat}(q:Rat)(hj:j<i)(hi:i<n){x t:Nat}(htx:t<x)(hx:x<n):el (sh i j q M) t x t=if x=i then(if t<j then el M t i t-q*el M t j t else if t=j then el M j i j-q*el M j j j else el M t i t)else el M t x t:=by
 by_cases hxi:x=i
 ·subst hxi;rw[if_pos rfl];by_cases h1:t<j
  ·rw[if_pos h1,qG hj t (by omega) (fun l hl=>hp.ne (by omega)),pM _ _ _ (by omega)]
  ·rw[if_neg h1];by_cases h2:t=j
   ·subst h2;rw[if_pos rfl,qG hj t (hE _) (fun l hl=>hp.ne (by omega)),pM _ _ _ (by omega)]
   ·rw[if_neg h2,lK hj (fun l hl=>hp.ne (by omega)) t (by omega)]
 ·rw[if_neg hxi];by_cases h1:t≤j
  ·rw[qG hj t h1 (fun l hl=>hp.ne (by omega)),lI _ _ _ hxi (by omega)]
  ·rw[lK hj (fun l hl=>hp.ne (by omega)) t (by omega)]
theorem I2 {e d q c:Rat}(hd:0<d)(h1: -(c*d)≤e∧e≤c*d)(h2: -(1/2*d)≤e-q*d∧e-q*d≤1/2*d): -(c+1/2)≤q∧q≤c+1/2:=
 ⟨l9 (by grind) hd,l9 (by grind) hd⟩
theorem Hs {x y q c d:Rat}(hc:1≤c)(hd:0<d)(hx: -(c*d)≤x∧x≤c*d)(hy: -(1/2*d)≤y∧y≤1/2*d)(hq: -(c+1/2)≤q∧q≤c+1/2): -(2*c*d)≤x-q*y∧x-q*y≤2*c*d:=by
 have h0:=n4 (show(0:Rat)≤c-1/2 by grind) (j2 hd);have h1:=n4 (show(0:Rat)≤c+1/2-q by grind) (show(0:Rat)≤1/2*d-y by grind);have h2:=n4 (show(0:Rat)≤c+1/2+q by grind) (show(0:Rat)≤1/2*d+y by grind);have h3:=n4 (show(0:Rat)≤c+1/2-q by grind) (show(0:Rat)≤1/2*d+y by grind);have h4:=n4 (show(0:Rat)≤c+1/2+q by grind) (show(0:Rat)≤1/2*d-y by grind);constructor<;>grind
theorem gv {B:Rat}(hB:1≤B){n:Nat}:∀(d j:Nat) (M:Nat→Nat→Rat) (x:Nat→Rat),j+d+1=n→qQ M→PD n M→dp M n=1→(∀t,t<n→M t t≤B)→x j*x j≤B^(n-1)*sm n fun a=>sm n fun b=>x a*x b*M a b
 |0,j,M,x,hj,hs,hp,hd,hm=>by
  obtain rfl:n=j+1:=by omega
  have hdp:dp M (j+1)=dp M j*el M j j j:=rfl;have hdl:=ij hp (B:=B) (fun t ht=>a8 (rO hs hp t (Nat.zero_le t) (by omega)) (hm t ht)) (by grind) j (by omega);have hej:=hp j (by omega);have h1:1≤B^j*el M j j j:=by have:=hV hdl (j2 hej);rw[←hdp,hd]at this;exact this
  rw[xV hs hp x];have h2:=gW (f:=fun l=>sm (j+1) (fun a=>x a*el M l a l)*sm (j+1) (fun a=>x a*el M l a l)/el M l l l) (n:=j+1) (fun l hl=>jF (yE _) (hp l hl)) (p:=j) (by omega);have h3:sm (j+1) (fun a=>x a*el M j a j)=x j*el M j j j:=lE j (by omega) fun i hi hne=>by rw[(uJ (r:=j) (l:=i) (by omega) (fun l hl=>hp.ne (by omega)) j).2];grind
  have h4:sm (j+1) (fun a=>x a*el M j a j)*sm (j+1) (fun a=>x a*el M j a j)/el M j j j=x j*x j*el M j j j:=by rw[h3];have:=hp.ne (r:=j) (by omega);grind
  have h5:x j*x j*el M j j j≤sm (j+1) fun l=>sm (j+1) (fun a=>x a*el M l a l)*sm (j+1) (fun a=>x a*el M l a l)/el M l l l:=by rw[←h4];exact h2
  have h6:=hZ h5 (j2 (eo (n:=j) (show 0<B by grind)));have h7:=hZ h1 (yE (x j));show _≤B^j*_;grind
 |d+1,j,M,x,hj,hs,hp,hd,hm=>by
  have h1:=hp.diag hs (r:=j) (a:=j+1) (by omega) (by omega);have h2:=hp.pair (k:=j) (by omega);have ih:=gv hB d (j+1) (sw j M) (fun a=>x (tr j a)) (by omega) (hs.sw j) (hp.sw hs (by omega)) (by rw[pO (hp.ne (by omega)) (by grind) (by grind) n (by omega)];exact hd) (fun t ht=>hm _ (zK (by omega) ht));simp only[oQ]at ih;have e:(sm n fun a=>sm n fun b=>x (tr j a)*x (tr j b)*sw j M a b)=sm n fun a=>sm n fun b=>x a*x b*M a b:=by rw[←rj (fun a=>sm n fun b=>x a*x b*M a b) j (by omega)];exact zA fun a _=>rj (fun b=>x (tr j a)*x b*M (tr j a) b) j (by omega)
  rw[e]at ih;exact ih
end Go.Proofs.YtijigofaaefldaaGreat.Lat
namespace Go.Proofs.YtijigofaaefldaaGreat.NatL
open Go Go.Proofs.YtijigofaaefldaaGreat.Ev
theorem aB {n:Int}(h1: -9223372036854775808≤n)(h2:n<9223372036854775808):fA n=n:=by
 simp only[fA,IntKind.wrap];simp[IntKind.bits,IntKind.signed];omega
theorem fB {n:Int}(h1:0≤n)(h2:n<18446744073709551616):dB n=n:=by
 simp only[dB,IntKind.wrap];simp[IntKind.bits,IntKind.signed];omega
theorem sN {n:Int}(h1:0≤n)(h2:n<4294967296):oE n=n:=by
 simp only[oE,IntKind.wrap];simp[IntKind.bits,IntKind.signed];omega
theorem uE (n:Int):oE n=n%4294967296:=by
 simp only[oE,IntKind.wrap];simp[IntKind.bits,IntKind.signed]
theorem mZ (n:Int):dB n=n%18446744073709551616:=by
 simp only[dB,IntKind.wrap];simp[IntKind.bits,IntKind.signed]
theorem Ce {n:Int}(h1:0≤n)(h2:n<256):fL n=n:=by
 simp only[fL,IntKind.wrap];simp[IntKind.bits,IntKind.signed];omega
theorem bE (y:Int)(k:Nat):Int.fdiv y (2^k)=y/2^k:=Int.fdiv_eq_ediv_of_nonneg _ (aE (c4 (by decide)))
theorem fc {x y:Int}(h:0≤x):Int.tdiv x y=x/y:=Int.tdiv_eq_ediv_of_nonneg h
theorem fe {x y:Int}(h:0≤x):Int.tmod x y=x%y:=Int.tmod_eq_emod_of_nonneg h
def nv (b:Int):W6→Int
 | []=>0
 |x::r=>x+b*nv b r
def qD (b:Int)(l:W6):Prop:=∀x∈l,0≤x∧x<b
theorem qD.nil (b:Int):qD b []:=fun _ h=>by cases h
theorem qD.cons {b x:Int}{l:W6}(h0:0≤x)(h1:x<b)(h:qD b l):qD b (x::l):=fun y hy=>by
 rcases List.mem_cons.mp hy with rfl|hy
 ·exact⟨h0,h1⟩
 ·exact h y hy
theorem qD.tail {b x:Int}{l:W6}(h:qD b (x::l)):qD b l:=fun y hy=>h y (List.mem_cons_of_mem _ hy)
theorem qD.head {b x:Int}{l:W6}(h:qD b (x::l)):0≤x∧x<b:=h x List.mem_cons_self
theorem qD.append {b:Int}{l m:W6}(h:qD b l)(k:qD b m):qD b (l++m):=fun y hy=>by
 rcases cz.mp hy with hy|hy
 ·exact h y hy
 ·exact k y hy
theorem qD.take {b:Int}{l:W6}(h:qD b l)(n:Nat):qD b (l.take n):=fun y hy=>h y (List.mem_of_mem_take hy)
theorem qD.drop {b:Int}{l:W6}(h:qD b l)(n:Nat):qD b (l.drop n):=fun y hy=>h y (List.mem_of_mem_drop hy)
theorem qD.set {b v:Int}{l:W6}(h:qD b l)(i:Nat)(h0:0≤v)(h1:v<b):qD b (l.set i v):=fun y hy=>by
 rcases List.mem_or_eq_of_mem_set hy with hy|rfl
 ·exact h y hy
 ·exact⟨h0,h1⟩
theorem qD.get {b:Int}{l:W6}(h:qD b l)(hb:0<b)(i:Nat):0≤l.getD i 0∧l.getD i 0<b:=by
 rw[hF];cases hi:l[i]? with
 |none=>exact⟨en _,hb⟩
 |some x=>exact h x (List.mem_of_getElem? hi)
theorem bU (b:Int):∀l m:W6,nv b (l++m)=nv b l+b^l.length*nv b m
 | [],m=>by simp[nv]
 |x::l,m=>by simp only[List.cons_append,nv,j1,bU b l m,p0];grind
theorem jC {b:Int}(hb:0<b):∀{l:W6},qD b l→0≤nv b l∧nv b l<b^l.length
 | [],_=>by simp[nv]
 |x::l,h=>by
  obtain⟨h1,h2⟩:=jC hb h.tail;obtain⟨h3,h4⟩:=h.head;simp only[nv,j1,p0];have p1:=hS (aE hb) h1;have p2:=hD (show nv b l+1≤b^l.length by omega) (aE hb);have e1:b*(nv b l+1)=b*nv b l+b:=by grind
  have e2:b^l.length*b=b*b^l.length:=r8 _ _;omega
theorem tL (b v:Int):∀(l:W6) (i:Nat),i<l.length→nv b (l.set i v)=nv b l+b^i*(v-l.getD i 0)
 | [],i,h=>by simp at h
 |x::l,0,_=>by simp[nv];omega
 |x::l,i+1,h=>by have:=tL b v l i (by simpa using h);simp only[List.set_cons_succ,nv,this,p0,eb];grind
theorem cF (b:Int):∀(l:W6) (i:Nat),i<l.length→nv b (l.take (i+1))=nv b (l.take i)+b^i*l.getD i 0
 | [],i,h=>by simp at h
 |x::l,0,_=>by simp[nv]
 |x::l,i+1,h=>by have:=cF b l i (by simpa using h);simp only[List.take_succ_cons,nv,this,p0,eb];grind
theorem jG (b:Int):∀(l:W6) (i:Nat),i<l.length→nv b (l.drop i)=l.getD i 0+b*nv b (l.drop (i+1))
 | [],i,h=>by simp at h
 |x::l,0,_=>by simp[nv]
 |x::l,i+1,h=>by have:=jG b l i (by simpa using h);simpa using this
theorem qS (b:Int)(l:W6)(i:Nat)(h:i≤l.length):nv b l=nv b (l.take i)+b^i*nv b (l.drop i):=by
 have:=bU b (l.take i) (l.drop i);rw[List.take_append_drop,o2,Nat.min_eq_left h]at this;exact this
theorem xG (b:Int):∀n,nv b (zE n 0)=0
 |0=>rfl
 |n+1=>by simp[c8,nv,xG b n]
theorem qD.replicate {b:Int}(hb:0<b)(n:Nat):qD b (zE n 0):=fun x hx=>by
 have:=List.eq_of_mem_replicate hx;subst this;exact⟨en _,hb⟩
structure gQ (b:Int)(l:W6):Prop where
 dig:qD b l
 top:l≠ []→l.getD (l.length-1) 0≠0
theorem gQ.nil (b:Int):gQ b []:=⟨qD.nil b,fun h=>absurd rfl h⟩
theorem gQ.lower {b:Int}(hb:0<b){l:W6}(h:gQ b l)(hne:l≠ []):b^(l.length-1)≤nv b l:=by
 have hl:0<l.length:=n5.mpr hne;have h1:=cF b l (l.length-1) (by omega);have e:l.length-1+1=l.length:=by omega
 rw[e,y7]at h1;have h2:=(jC hb (h.dig.take (l.length-1))).1;have h3:=h.dig.get hb (l.length-1);have h4:=h.top hne;have h5:=hD (show 1≤l.getD (l.length-1) 0 by omega) (show 0≤b^(l.length-1)from aE (c4 hb));omega
theorem gQ.pos {b:Int}(hb:0<b){l:W6}(h:gQ b l):nv b l=0↔l=[]:=by
 cases l with
 |nil=>simp[nv]
 |cons x l=>have h1:=h.lower hb (by simp);have h2:0<b^((x::l).length-1):=c4 hb;refine⟨fun _=>?_,fun h=>by cases h⟩;omega
theorem gQ.tail {b x:Int}{l:W6}(h:gQ b (x::l)):gQ b l:=by
 refine⟨h.dig.tail,fun hne=>?_⟩;have hl:0<l.length:=n5.mpr hne;have:=h.top (by simp);have e:(x::l).length-1=(l.length-1)+1:=by simp;omega
 rw[e,eb]at this;exact this
theorem mj {b x y n m:Int}(hb:0<b)(hx0:0≤x)(hx1:x<b)(hy0:0≤y)(hy1:y<b)(h:x+b*n=y+b*m):x=y∧n=m:=by
 rcases Int.lt_trichotomy n m with hq|hq|hq
 ·exfalso;have:=hD (show n+1≤m by omega) (aE hb);have e:b*(n+1)=b*n+b:=by grind
  omega
 ·subst hq;exact⟨by omega,rfl⟩
 ·exfalso;have:=hD (show m+1≤n by omega) (aE hb);have e:b*(m+1)=b*m+b:=by grind
  omega
theorem gQ.unique {b:Int}(hb:0<b):∀{l m:W6},gQ b l→gQ b m→nv b l=nv b m→l=m
 | [],m,_,hm,h=>((hm.pos hb).mp h.symm).symm
 |x::l,[],hl,_,h=>by have:=(hl.pos hb).mp h;exact this
 |x::l,y::m,hl,hm,h=>by simp only[nv]at h;obtain⟨h1,h2⟩:=mj hb hl.dig.head.1 hl.dig.head.2 hm.dig.head.1 hm.dig.head.2 h;rw[h1,gQ.unique hb hl.tail hm.tail h2]
def rI (l:W6):Nat→Nat
 |0=>0
 |n+1=>if l.getD n 0=0 then rI l n else n+1
theorem uV (l:W6):∀n,rI l n≤n
 |0=>hE _
 |n+1=>by
  unfold rI;split
  ·exact Nat.le_succ_of_le (uV l n)
  ·exact hE _
theorem bu (b:Int)(l:W6):∀n,n≤l.length→nv b (l.take (rI l n))=nv b (l.take n)
 |0,_=>rfl
 |n+1,h=>by
  unfold rI;split
  ·rename_i h0;rw[bu b l n (by omega),cF b l n (by omega),h0];simp
  ·rfl
theorem xW (l:W6):∀n,0<rI l n→l.getD (rI l n-1) 0≠0
 |0,h=>by simp[rI]at h
 |n+1,h=>by
  unfold rI at h⊢;split
  ·rename_i h0;rw[if_pos h0]at h;exact xW l n h
  ·rename_i h0;simpa using h0
def xB (l:W6):W6:=l.take (rI l l.length)
theorem qd (b:Int)(l:W6):nv b (xB l)=nv b l:=by
 unfold xB;rw[bu b l _ (hE _),y7]
theorem uT {l:W6}{n i:Nat}(h:i<n):(l.take n).getD i 0=l.getD i 0:=by
 simp[hF,List.getElem?_take,h]
theorem ib {b:Int}{l:W6}(h:qD b l):gQ b (xB l):=by
 refine⟨h.take _,fun hne=>?_⟩;have hle:=uV l l.length;have hlen:(xB l).length=rI l l.length:=by unfold xB;rw[o2];omega
 have hpos:0<(xB l).length:=n5.mpr hne;rw[hlen]at hpos⊢;have:=xW l l.length hpos;unfold xB;rw[uT (by omega)];exact this
theorem yc (l:W6):(xB l).length≤l.length:=by unfold xB;rw[o2];omega
theorem mu {b:Int}(hb:2≤b):∀n:Nat,∃l,gQ b l∧nv b l=n:=by
 intro n;induction n using Nat.strongRecOn with
 |_ n ih=>
  by_cases h0:n=0
  ·subst h0;exact⟨[],gQ.nil b,rfl⟩
  ·have h1:=j3 (n:Int) b;have h2:=hQ (n:Int) (b:=b) (by omega);have h3:=hL (n:Int) (b:=b) (by omega);have h4:0≤(n:Int)/b:=p3 (by omega) (by omega);have h5:(n:Int)/b<n:=Int.ediv_lt_self_of_pos_of_ne_one (by omega) (by omega);obtain⟨l,hl,hv⟩:=ih ((n:Int)/b).toNat (by omega);have hv':nv b l=(n:Int)/b:=by omega
   refine⟨(n:Int)%b::l,⟨qD.cons h2 h3 hl.dig,fun _=>?_⟩,by simp only[nv,hv'];omega⟩;cases l with
   |nil=>
    simp only[nv]at hv';simp;intro h;have:(n:Int)%b=0:=by omega
    rw[←hv']at h1;simp at h1;omega
   |cons x l=>have:=hl.top (by simp);simpa using this
open Classical in
noncomputable def enc (b v:Int):W6:=if h:∃l,gQ b l∧nv b l=v then Classical.choose h else []
theorem mo {b:Int}(hb:2≤b){l:W6}{v:Int}(h:gQ b l)(hv:nv b l=v):l=enc b v:=by
 have hx:∃l,gQ b l∧nv b l=v:=⟨l,h,hv⟩
 unfold enc;rw[dif_pos hx];obtain⟨h1,h2⟩:=Classical.choose_spec hx;exact gQ.unique (by omega) h h1 (by omega)
theorem bD {b:Int}(hb:2≤b){v:Int}(hv:0≤v):gQ b (enc b v)∧nv b (enc b v)=v:=by
 obtain⟨l,h1,h2⟩:=mu hb v.toNat;have h3:nv b l=v:=by omega
 rw[←mo hb h1 h3];exact⟨h1,h3⟩
theorem bJ {b:Int}(hb:2≤b):enc b 0=[]:=(mo hb (gQ.nil b) rfl).symm
theorem ca {b:Int}(hb:2≤b){v:Int}(hv:0≤v):enc b v=[]↔v=0:=by
 obtain⟨h1,h2⟩:=bD hb hv;rw[←h1.pos (by omega),h2]
def sD (v:Int):Int:=if v≤0 then 0 else(Nat.log2 v.toNat:Int)+1
theorem uD (k:Nat):(2:Int)^k=((2^k:Nat):Int):=by simp
theorem uG {v:Int}(h:0≤v)(k:Nat):sD v≤k↔v<2^k:=by
 unfold sD;have hp:(0:Int)<2^k:=c4 (by decide);split
 ·have:v=0:=by omega
  subst this;constructor<;>intro<;>omega
 ·have:=Nat.log2_lt (n:=v.toNat) (k:=k) (by omega);rw[uD];constructor
  ·intro h1;have:=this.mp (by omega);omega
  ·intro h1;have:=this.mpr (by omega);omega
theorem vC (v:Int):0≤sD v:=by unfold sD;split<;>omega
theorem gk {v r:Int}(h:0≤v)(h0:0≤r)(hr:∀k:Nat,r≤k↔v<2^k):r=sD v:=by
 have h1:=(uG h r.toNat).mpr ((hr r.toNat).mp (by omega));have h2:=(hr (sD v).toNat).mpr ((uG h (sD v).toNat).mp (by have:=vC v;omega));have:=vC v;omega
theorem yM {v:Int}(k:Nat)(h:2^k≤v):sD v=k+sD (v/2^k):=by
 have hp:(0:Int)<2^k:=c4 (by decide);have hq:0≤v/2^k:=p3 (by omega) (by omega);refine(gk (by omega) (by have:=vC (v/2^k);omega) fun j=>?_).symm;by_cases hj:k≤j
 ·have e:(2:Int)^j=2^(j-k)*2^k:=by rw[←q5];congr 1;omega
  have h1:=uG hq (j-k);have h2:v/2^k<2^(j-k)↔v<2^(j-k)*2^k:=bq hp;rw[e,←h2,←h1];constructor<;>intro<;>omega
 ·have h1:=vC (v/2^k);have e:(2:Int)^j≤2^k:=by
   have:=p4 (show 0<2 by decide) (show j≤k by omega);rw[uD,uD];omega
  constructor
  ·intro;omega
  ·intro;omega
theorem Bs:∀i:Nat,i<256→pG kI i=sD i:=by decide+kernel
theorem vm:kI.size=256:=by decide+kernel
theorem fK {v:Int}(h:0≤v)(k:Nat)(hk:v<2^k):sD v≤k:=(uG h k).mpr hk
theorem mS {x o:Int}(h0:0≤x)(h1:x<256)(o0:0≤o)(o1:o≤56):(bif (decide (0≤(fL x)))&&(decide ((fL x)<(kI.size:Int)))then some (fA (o+(fA (pG kI ((fL x).toNat)))))else none)=some (o+sD x):=by
 have t:=Bs x.toNat (by omega);have e:((x.toNat:Nat):Int)=x:=by omega
 rw[e]at t;have hb:=fK h0 8 (by omega);have hn:=vC x;rw[Ce h0 h1,vm];have c:(decide (0≤x)&&decide (x<((256:Nat):Int)))=true:=by simp;omega
 rw[c,t,aB (n:=sD x) (by omega) (by omega),aB (by omega) (by omega)];rfl
theorem rU (N:Nat){x:Int}(h0:0≤x)(h1:x<4294967296):Q0.f N x=some (sD x):=by
 unfold Q0.f;simp only[bE];have e16:(2:Int)^16=65536:=by decide
 have e8:(2:Int)^8=256:=by decide
 simp only[e16,e8];by_cases c1:x≥65536
 ·simp only[c1,decide_true,cond_true];have b1:=yM (v:=x) 16 (by omega);rw[e16]at b1;by_cases c2:x/65536≥256
  ·simp only[c2,decide_true,cond_true];have b2:=yM (v:=x/65536) 8 (by omega);rw[e8]at b2;rw[mS (by omega) (by omega) (by omega) (by omega),b1,b2];congr 1;omega
  ·simp only[c2,decide_false,cond_false];rw[mS (by omega) (by omega) (by omega) (by omega),b1];rfl
 ·simp only[c1,decide_false,cond_false];by_cases c2:x≥256
  ·simp only[c2,decide_true,cond_true];have b2:=yM (v:=x) 8 (by omega);rw[e8]at b2;rw[mS (by omega) (by omega) (by omega) (by omega),b2];rfl
  ·simp only[c2,decide_false,cond_false];rw[mS (by omega) (by omega) (by omega) (by omega)];simp
theorem B2:(2:Int)≤(4294967296:Int):=by decide
theorem ar (k:Nat):(4294967296:Int)^k=2^(32*k):=by rw[Int.pow_mul];rfl
theorem xw {l:W6}(h:gQ (4294967296:Int) l)(hne:l≠ []):sD (nv (4294967296:Int) l)=32*((l.length:Int)-1)+sD (l.getD (l.length-1) 0):=by
 have hl:0<l.length:=n5.mpr hne;have h1:=cF (4294967296:Int) l (l.length-1) (by omega);have e:l.length-1+1=l.length:=by omega
 rw[e,y7]at h1;have h2:=jC (show 0<(4294967296:Int) by decide) (h.dig.take (l.length-1));have e3:(l.take (l.length-1)).length=l.length-1:=by rw[o2];omega
 rw[e3]at h2;have h4:=h.lower (by decide) hne;have hp:(0:Int)<(4294967296:Int)^(l.length-1):=c4 (by decide);have hq:nv (4294967296:Int) l/(4294967296:Int)^(l.length-1)=l.getD (l.length-1) 0:=by rw[h1,cx _ _ (by omega),ng h2.1 h2.2];simp
 rw[yM (32*(l.length-1)) (by rw[←ar];exact h4),←ar,hq];omega
theorem oG (N:Nat){l:W6}(h:gQ (4294967296:Int) l)(hlen:l.length≤100000000):Q6.f N l=some (sD (nv (4294967296:Int) l)):=by
 unfold Q6.f;by_cases hne:l=[]
 ·subst hne;rfl
 ·have hl:0<l.length:=n5.mpr hne;have c0:((l.length:Int)==0)=false:=by simp;omega
  have e1:fA ((l.length:Int)-1)=(l.length:Int)-1:=aB (by omega) (by omega);have e2:((l.length:Int)-1).toNat=l.length-1:=by omega
  have hd:=h.dig.get (by decide) (l.length-1);have hb:=fK hd.1 32 hd.2;have hn:=vC (l.getD (l.length-1) 0);rw[c0,e1,e2,rU N hd.1 hd.2];have c1:(decide (0≤(l.length:Int)-1)&&decide ((l.length:Int)-1<(l.length:Int)))=true:=by simp;omega
  rw[c1,xw h hne];simp only[cond_true,cond_false,pC];rw[aB (n:=32*((l.length:Int)-1)) (by omega) (by omega),aB (by omega) (by omega)]
def K:Int:=2^4096
theorem nX (N:Nat){l:W6}(h:gQ (4294967296:Int) l)(hlen:l.length≤100000000):Q7.f N l=some (if nv (4294967296:Int) l<K then(l,0)else([],3)):=by
 unfold Q7.f;rw[oG N h hlen];simp only[pC];have:=uG (jC (show 0<(4294967296:Int) by decide) h.dig).1 4096;by_cases hk:nv (4294967296:Int) l<K
 ·have h1:=this.mpr hk;have c:decide (sD (nv (4294967296:Int) l)>4096)=false:=by simp;omega
  rw[c,if_pos hk];rfl
 ·have h1:¬sD (nv (4294967296:Int) l)≤(4096:Nat):=fun h=>hk (this.mp h);have c:decide (sD (nv (4294967296:Int) l)>4096)=true:=by simp;omega
  rw[c,if_neg hk];rfl
theorem yW (N:Nat){R:Type}(l:W6)(m:Nat)(hm:m≤l.length)(hm2:m≤1000000000)(k:Nat→Nat→Int→W6→Option R):∀(n i:Nat),i≤m→i<n→Q5.l2 N n 0 m (i:Int) l k=k 0 m (rI l i:Nat) l:=by
 intro n;induction n with
 |zero=>intro i _ h;omega
 |succ n ih=>
  intro i hi hn;rw[Q5.l2];cases i with
  |zero=>rfl
  |succ i=>
   have e1:fA (((i+1:Nat):Int)-1)=(i:Int):=by rw[aB (by omega) (by omega)];omega
   have c0:decide (((i+1:Nat):Int)>0)=true:=decide_eq_true (by omega);have c1:(decide (0≤(i:Int))&&decide ((i:Int)<(m:Int)))=true:=by simp;omega
   rw[e1,c1,c0];simp only[cond_true];have e2:0+(i:Int).toNat=i:=by omega
   rw[e2];unfold rI;by_cases hz:l.getD i 0=0
   ·rw[if_pos hz];have:(l.getD i 0==0)=true:=by simpa using hz
    rw[this];exact ih i (by omega) (by omega)
   ·rw[if_neg hz];have:(l.getD i 0==0)=false:=by simpa using hz
    rw[this];rfl
theorem o7 {N:Nat}(hN:1000000001<N)(l:W6)(m:Nat)(hm:m≤l.length)(hm2:m≤1000000000):Q5.f N 0 m l=some (0,rI l m,l):=by
 unfold Q5.f;rw[yW N l m hm hm2 _ N m (hE _) (by omega)];have:=uV l m;have c:((decide (0≤((rI l m:Nat):Int))&&decide (((rI l m:Nat):Int)≤((rI l m:Nat):Int)))&&decide (((rI l m:Nat):Int)≤(m:Int)))=true:=by simp;omega
 rw[c];simp
theorem zM {N:Nat}(hN:1000000001<N)(l:W6)(hl:l.length≤1000000000):Q5.f N 0 l.length l=some (0,rI l l.length,l)∧(l.drop 0).take (rI l l.length)=xB l:=
 ⟨o7 hN l _ (hE _) hl,by simp[xB]⟩
theorem jK {l:W6}(h:qD (4294967296:Int) l):xB l=enc (4294967296:Int) (nv (4294967296:Int) l):=mo B2 (ib h) (qd (4294967296:Int) l)
theorem qj {v:Int}(h:0≤v){k:Nat}(hk:v<(4294967296:Int)^k):(enc (4294967296:Int) v).length≤k:=by
 obtain⟨h1,h2⟩:=bD B2 h;by_cases hne:enc (4294967296:Int) v=[]
 ·rw[hne];simp
 ·have h3:=h1.lower (by decide) hne;rw[h2]at h3;rcases ki k (enc (4294967296:Int) v).length with h|h
  ·exfalso;have:(4294967296:Int)^k≤(4294967296:Int)^((enc (4294967296:Int) v).length-1):=by
    rw[ar,ar,uD,uD];have:=p4 (show 0<2 by decide) (show 32*k≤32*((enc (4294967296:Int) v).length-1) by omega);omega
   omega
  ·exact h
theorem Hi:K=(4294967296:Int)^128:=by unfold K;rw[ar]
theorem fD {v:Int}(h:0≤v)(hk:v<K):(enc (4294967296:Int) v).length≤128:=qj h (by rw[←Hi];exact hk)
theorem cP {N:Nat}(hN:1000000001<N){n:Int}(h0:0≤n)(h1:n<18446744073709551616):Q8.f N n=some (enc (4294967296:Int) n):=by
 unfold Q8.f;have e32:(2:Int)^32=4294967296:=by decide
 rw[bE,e32,uE,uE];have hd:qD (4294967296:Int) [n%4294967296,n/4294967296%4294967296]:=qD.cons (by omega) (by omega) (qD.cons (by omega) (by omega) (qD.nil (4294967296:Int)));obtain⟨c1,c2⟩:=zM hN [n%4294967296,n/4294967296%4294967296] (by simp);have hv:nv (4294967296:Int) [n%4294967296,n/4294967296%4294967296]=n:=by simp only[nv];omega
 have:=jK hd;rw[hv]at this;rw[←this,←c2];have hl:[n%4294967296,n/4294967296%4294967296].length=2:=rfl;rw[hl]at c1⊢;rw[c1];rfl
theorem wW (N:Nat){R:Type}(a c:W6)(hl:a.length=c.length)(ha:qD (4294967296:Int) a)(hc:qD (4294967296:Int) c)(hs:a.length≤1000000000)(K0:Unit→Option R)(Kr:Int→Option R):∀(n i:Nat),i≤a.length→i<n→
  Q12.l6 N n ((i:Int)-1) a c K0 Kr=if nv (4294967296:Int) (a.take i)=nv (4294967296:Int) (c.take i)then K0 ()else Kr (if nv (4294967296:Int) (a.take i)<nv (4294967296:Int) (c.take i)then-1 else 1):=by
 intro n;induction n with
 |zero=>intro i _ h;omega
 |succ n ih=>
  intro i hi hn;rw[Q12.l6];cases i with
  |zero=>rfl
  |succ i=>
   have e0:((i+1:Nat):Int)-1=(i:Int):=by omega
   have e1:fA ((i:Int)-1)=(i:Int)-1:=aB (by omega) (by omega);rw[e0,e1];have c0:decide ((i:Int)≥0)=true:=decide_eq_true (by omega);have c1:(decide (0≤(i:Int))&&decide ((i:Int)<(a.length:Int)))=true:=by simp;omega
   have c2:(decide (0≤(i:Int))&&decide ((i:Int)<(c.length:Int)))=true:=by simp;omega
   have e2:(i:Int).toNat=i:=by omega
   rw[c1,c2,c0,e2];simp only[cond_true];have ta:=cF (4294967296:Int) a i (by omega);have tc:=cF (4294967296:Int) c i (by omega);have ba:=jC (show 0<(4294967296:Int) by decide) (ha.take i);have bc:=jC (show 0<(4294967296:Int) by decide) (hc.take i);have la:(a.take i).length=i:=by rw[o2];omega
   have lc:(c.take i).length=i:=by rw[o2];omega
   rw[la]at ba;rw[lc]at bc;have hp:(0:Int)<(4294967296:Int)^i:=c4 (by decide);by_cases h1:a.getD i 0<c.getD i 0
   ·simp only[h1,decide_true,cond_true];have:=hD (show a.getD i 0+1≤c.getD i 0 by omega) (aE hp);have e:(4294967296:Int)^i*(a.getD i 0+1)=(4294967296:Int)^i*a.getD i 0+(4294967296:Int)^i:=by grind
    rw[if_neg (by omega),if_pos (by omega)]
   ·simp only[h1,decide_false,cond_false];by_cases h2:a.getD i 0>c.getD i 0
    ·simp only[h2,decide_true,cond_true];have:=hD (show c.getD i 0+1≤a.getD i 0 by omega) (aE hp);have e:(4294967296:Int)^i*(c.getD i 0+1)=(4294967296:Int)^i*c.getD i 0+(4294967296:Int)^i:=by grind
     rw[if_neg (by omega),if_neg (by omega)]
    ·simp only[h2,decide_false,cond_false];have heq:a.getD i 0=c.getD i 0:=by omega
     rw[ih i (by omega) (by omega),ta,tc,heq];generalize(4294967296:Int)^i*c.getD i 0=p;generalize nv (4294967296:Int) (a.take i)=x;generalize nv (4294967296:Int) (c.take i)=y;by_cases h3:x=y
     ·rw[if_pos h3,if_pos (by rw[h3])]
     ·have n1:¬(x+p=y+p):=by omega
      rw[if_neg h3,if_neg n1];by_cases h4:x<y
      ·have n2:x+p<y+p:=by omega
       rw[if_pos h4,if_pos n2]
      ·have n2:¬x+p<y+p:=by omega
       rw[if_neg h4,if_neg n2]
def tQ (u v:Int):Int:=if u=v then 0 else if u<v then-1 else 1
theorem kL {a c:W6}(ha:gQ (4294967296:Int) a)(hc:gQ (4294967296:Int) c)(h:a.length<c.length):nv (4294967296:Int) a<nv (4294967296:Int) c:=by
 have hne:c≠ []:=by intro e;subst e;simp at h
 have h1:=hc.lower (by decide) hne;have h2:=(jC (show 0<(4294967296:Int) by decide) ha.dig).2;have:(4294967296:Int)^a.length≤(4294967296:Int)^(c.length-1):=by rw[ar,ar,uD,uD];have:=p4 (show 0<2 by decide) (show 32*a.length≤32*(c.length-1) by omega);omega
 omega
theorem su {N:Nat}(hN:1000000001<N){a c:W6}(ha:gQ (4294967296:Int) a)(hc:gQ (4294967296:Int) c)(hs:a.length≤1000000000):Q12.f N a c=some (tQ (nv (4294967296:Int) a) (nv (4294967296:Int) c)):=by
 unfold Q12.f tQ;by_cases hl:a.length=c.length
 ·have c0:((a.length:Int) != (c.length:Int))=false:=by simp;omega
  have e1:fA ((a.length:Int)-1)=(a.length:Int)-1:=aB (by omega) (by omega);rw[c0,e1];simp only[cond_false];rw[wW N a c hl ha.dig hc.dig hs _ _ N a.length (hE _) (by omega),y7,hl,y7];split
  ·rfl
  ·rfl
 ·have c0:((a.length:Int) != (c.length:Int))=true:=by simp;omega
  rw[c0];simp only[cond_true];rcases Nat.lt_or_gt_of_ne hl with h|h
  ·have:=kL ha hc h;have c1:decide ((a.length:Int)<(c.length:Int))=true:=decide_eq_true (by omega);rw[c1,if_neg (by omega),if_pos this];rfl
  ·have:=kL hc ha h;have c1:decide ((a.length:Int)<(c.length:Int))=false:=decide_eq_false (by omega);rw[c1,if_neg (by omega),if_neg (by omega)];rfl
theorem bp {N:Nat}(hN:1000000001<N){u v:Int}(hu:0≤u)(hk:u<K)(hv:0≤v):Q12.f N (enc (4294967296:Int) u) (enc (4294967296:Int) v)=some (tQ u v):=by
 obtain⟨h1,h2⟩:=bD B2 hu;obtain⟨h3,h4⟩:=bD B2 hv;rw[su hN h1 h3 (by have:=fD hu hk;omega),h2,h4]
theorem eR (s:Int):s%(4294967296:Int)+(4294967296:Int)*(s/(4294967296:Int))=s:=by
 have:=j3 s (4294967296:Int);omega
theorem xg (N:Nat){R:Type}(b:W6)(hb:qD (4294967296:Int) b)(K0:W6→Option R):∀(n i:Nat) (c:Int) (out:W6),qD (4294967296:Int) out→b.length<out.length→out.length≤1000000000→i≤out.length→out.length-i<n→0≤c→c≤1→
  nv (4294967296:Int) out+(4294967296:Int)^i*c+(4294967296:Int)^i*nv (4294967296:Int) (b.drop i)<(4294967296:Int)^out.length→
  ∃r,qD (4294967296:Int) r∧r.length=out.length∧nv (4294967296:Int) r=nv (4294967296:Int) out+(4294967296:Int)^i*c+(4294967296:Int)^i*nv (4294967296:Int) (b.drop i)∧Q13.l7 N n c (out.length:Int) (i:Int) b out K0=K0 r:=by
 intro n;induction n with
 |zero=>intro i c out _ _ _ _ h;omega
 |succ n ih=>
  intro i c out ho hlb hlo hi hn c0 c1 hlt;rw[Q13.l7];by_cases hil:i<out.length
  ·have e0:decide ((i:Int)<(out.length:Int))=true:=decide_eq_true (by omega);have e1:(decide (0≤(i:Int))&&decide ((i:Int)<(out.length:Int)))=true:=by simp;omega
   have e2:(i:Int).toNat=i:=by omega
   have e3:fA ((i:Int)+1)=((i+1:Nat):Int):=by rw[aB (by omega) (by omega)];omega
   have hd:=ho.get (by decide) i;have p32:(2:Int)^32=(4294967296:Int):=by decide
   have hp:(0:Int)<(4294967296:Int)^i:=c4 (by decide);have go:∀s y:Int,s=c+out.getD i 0+y→0≤y→y<(4294967296:Int)→nv (4294967296:Int) (b.drop i)=y+(4294967296:Int)*nv (4294967296:Int) (b.drop (i+1))→(out.set i (s%(4294967296:Int))).length=out.length∧qD (4294967296:Int) (out.set i (s%(4294967296:Int)))∧0≤s/(4294967296:Int)∧s/(4294967296:Int)≤1∧
     nv (4294967296:Int) (out.set i (s%(4294967296:Int)))+(4294967296:Int)^(i+1)*(s/(4294967296:Int))+(4294967296:Int)^(i+1)*nv (4294967296:Int) (b.drop (i+1))=nv (4294967296:Int) out+(4294967296:Int)^i*c+(4294967296:Int)^i*nv (4294967296:Int) (b.drop i):=by
    intro s y hs y0 y1 hdr;refine⟨by simp,ho.set i (by omega) (by omega),by omega,by omega,?_⟩;rw[tL (4294967296:Int) _ out i hil,hdr,p0];have:=eR s;generalize s%(4294967296:Int)=m at*;generalize s/(4294967296:Int)=q at*;have e:m=s- (4294967296:Int)*q:=by omega
    subst e;subst hs;grind
   rw[e1,e0,e2,e3];simp only[cond_true];by_cases hib:i<b.length
   ·have f0:decide ((i:Int)<(b.length:Int))=true:=decide_eq_true (by omega);have f1:(decide (0≤(i:Int))&&decide ((i:Int)<(b.length:Int)))=true:=by simp;omega
    have hbd:=hb.get (by decide) i;rw[f1,f0];simp only[cond_true];obtain⟨g1,g2,g3,g4,g5⟩:=go (c+out.getD i 0+b.getD i 0) (b.getD i 0) rfl hbd.1 hbd.2 (jG (4294967296:Int) b i hib);rw[fB (n:=out.getD i 0) (by omega) (by omega),fB (n:=c+out.getD i 0) (by omega) (by omega),fB (n:=b.getD i 0) (by omega) (by omega),fB (n:=c+out.getD i 0+b.getD i 0) (by omega) (by omega),bE,p32,uE];obtain⟨r,r1,r2,r3,r4⟩:=ih (i+1) _ _ g2 (by omega) (by omega) (by omega) (by omega) g3 g4 (by rw[g5,g1];exact hlt);refine⟨r,r1,by omega,by rw[r3,g5],?_⟩;rw[g1]at r4;exact r4
   ·have f0:decide ((i:Int)<(b.length:Int))=false:=decide_eq_false (by omega);rw[f0];simp only[cond_false];have hz:b.drop i=[]:=hJ.mpr (by omega);have hz2:b.drop (i+1)=[]:=hJ.mpr (by omega);obtain⟨g1,g2,g3,g4,g5⟩:=go (c+out.getD i 0) 0 (by omega) (by omega) (by decide) (by rw[hz,hz2];simp[nv]);rw[fB (n:=out.getD i 0) (by omega) (by omega),fB (n:=c+out.getD i 0) (by omega) (by omega),bE,p32,uE];obtain⟨r,r1,r2,r3,r4⟩:=ih (i+1) _ _ g2 (by omega) (by omega) (by omega) (by omega) g3 g4 (by rw[g5,g1];exact hlt);refine⟨r,r1,by omega,by rw[r3,g5],?_⟩;rw[g1]at r4;exact r4
  ·have e0:decide ((i:Int)<(out.length:Int))=false:=decide_eq_false (by omega);have hie:i=out.length:=by omega
   have hz:b.drop i=[]:=hJ.mpr (by omega);rw[e0];refine⟨out,ho,rfl,?_,rfl⟩;rw[hz,hie]at hlt⊢;have:=(jC (show 0<(4294967296:Int) by decide) ho).1;have hc:c=0:=by
    rcases pR 0 c with h|h
    ·have:c=1:=by omega
     subst this;simp only[nv]at hlt;omega
    ·omega
   subst hc;simp[nv]
theorem bZ (a:W6)(m:Nat)(h:a.length≤m):zF (zE m (0:Int)) 0 (a.take (min a.length (zE m (0:Int)).length))=a++zE (m-a.length) 0:=by
 unfold zF;have e:min a.length (zE m (0:Int)).length=a.length:=by simp;omega
 rw[e,y7];simp
theorem Gr (b:Int)(a:W6)(k:Nat):nv b (a++zE k 0)=nv b a:=by rw[bU,xG];simp
theorem jn {i j:Nat}(h:i≤j):(4294967296:Int)^i≤(4294967296:Int)^j:=by
 rw[ar,ar,uD,uD];have:=p4 (show 0<2 by decide) (show 32*i≤32*j by omega);omega
noncomputable def out (v:Int):W6×Int:=if v<K then(enc (4294967296:Int) v,0)else([],3)
theorem za {N:Nat}(hN:1000000001<N){l:W6}(h:qD (4294967296:Int) l)(hl:l.length≤100000000):((Q5.f N 0 l.length l).bind fun r=>(Q7.f N ((r.2.2.drop r.1).take r.2.1)).bind fun r2=>some (r2.1,r2.2))=some (out (nv (4294967296:Int) l)):=by
 obtain⟨c1,c2⟩:=zM hN l (by omega);rw[c1];simp only[pC,c2];have hc:=ib h;have:=yc l;rw[nX N hc (by omega),qd,jK h];unfold out;split<;>rfl
theorem dx {n:Nat}(h:n≤1000000000):lB n 4=true:=by unfold lB;exact decide_eq_true (by omega)
theorem de {m:Int}(h0:0≤m)(h1:m≤1000000000):(dG m m&&decide (0≤m)&&decide (m≤9223372036854775807)&&lB m.toNat 4)=true:=by
 simp only[dG];rw[dx (by omega)];simp;omega
theorem jh {m:Int}(h0:0≤m)(h1:m≤1000000000):(dG m m&&decide (0≤m)&&decide (m≤9223372036854775807)&&lB m.toNat 4)=true:=by
 simp only[dG];rw[dx (by omega)];simp;omega
theorem gb {N:Nat}(hN:1000000001<N){a b:W6}(ha:qD (4294967296:Int) a)(hb:qD (4294967296:Int) b)(h:b.length≤a.length)(hs:a.length≤90000000):
  (bif dG (fA ((a.length:Int)+1)) (fA ((a.length:Int)+1))&&decide (0≤fA ((a.length:Int)+1))&&decide (fA ((a.length:Int)+1)≤9223372036854775807)&&lB ((fA ((a.length:Int)+1)).toNat) 4 then
  Q13.l7 N N 0 ((zF (zE ((fA ((a.length:Int)+1)).toNat) (0:Int)) 0 (a.take (min a.length ((zE ((fA ((a.length:Int)+1)).toNat) (0:Int)).length)))).length:Int) 0 b (zF (zE ((fA ((a.length:Int)+1)).toNat) (0:Int)) 0 (a.take (min a.length ((zE ((fA ((a.length:Int)+1)).toNat) (0:Int)).length))))
   (fun y12=>
    (Q5.f N 0 y12.length y12).bind fun r13=>
    (Q7.f N ((r13.2.2.drop r13.1).take r13.2.1)).bind fun r14=>
    some (r14.1,r14.2))
 else none)=some (out (nv (4294967296:Int) a+nv (4294967296:Int) b)):=by
 have w:fA ((a.length:Int)+1)=(a.length:Int)+1:=aB (by omega) (by omega);have wt:((a.length:Int)+1).toNat=a.length+1:=by omega
 rw[w,de (by omega) (by omega),wt,bZ a _ (by omega)];simp only[cond_true];have e1:a.length+1-a.length=1:=by omega
 rw[e1];have hd:qD (4294967296:Int) (a++zE 1 0):=ha.append (qD.replicate (by decide) 1);have hl:(a++zE 1 (0:Int)).length=a.length+1:=by simp
 have hv:=Gr (4294967296:Int) a 1;have ba:=jC (show 0<(4294967296:Int) by decide) ha;have bb:=jC (show 0<(4294967296:Int) by decide) hb;have hm:=jn h;have hpow:(4294967296:Int)^(a.length+1)=(4294967296:Int)*(4294967296:Int)^a.length:=by rw[p0];grind
 have hpos:(0:Int)<(4294967296:Int)^a.length:=c4 (by decide);obtain⟨r,r1,r2,r3,r4⟩:=xg N b hb (fun y12=>(Q5.f N 0 y12.length y12).bind fun r13=>(Q7.f N ((r13.2.2.drop r13.1).take r13.2.1)).bind fun r14=>some (r14.1,r14.2)) N 0 0 (a++zE 1 0) hd (by omega) (by omega) (by omega) (by omega) (by omega) (by omega) (by rw[hl,hpow,hv];simp;omega);have e0:((0:Nat):Int)=0:=rfl;rw[e0]at r4;rw[r4,za hN r1 (by omega),r3,hv];simp
theorem se {N:Nat}(hN:1000000001<N){a b:W6}(ha:qD (4294967296:Int) a)(hb:qD (4294967296:Int) b)(hs:a.length≤90000000)(hs':b.length≤90000000):Q13.f N a b=some (out (nv (4294967296:Int) a+nv (4294967296:Int) b)):=by
 unfold Q13.f;by_cases h:a.length<b.length
 ·have c:decide ((a.length:Int)<(b.length:Int))=true:=decide_eq_true (by omega);rw[c];have:=gb hN hb ha (by omega) hs';rw[Int.add_comm (nv (4294967296:Int) a)];exact this
 ·have c:decide ((a.length:Int)<(b.length:Int))=false:=decide_eq_false (by omega);rw[c];exact gb hN ha hb (by omega) hs
theorem Cs {N:Nat}(hN:1000000001<N){u v:Int}(hu:0≤u)(hk:u<K)(hv:0≤v)(hk':v<K):Q13.f N (enc (4294967296:Int) u) (enc (4294967296:Int) v)=some (out (u+v)):=by
 obtain⟨h1,h2⟩:=bD B2 hu;obtain⟨h3,h4⟩:=bD B2 hv;have:=fD hu hk;have:=fD hv hk';rw[se hN h1.dig h3.dig (by omega) (by omega),h2,h4]
theorem aU {x:Int}(h0:0≤x)(h1:x<4294967296):(BitVec.ofInt 32 x).msb=decide (2147483648≤x):=by
 rw[pk];have:(BitVec.ofInt 32 x).toNat=x.toNat:=by
  rw[ep];have:x%((2^32:Nat):Int)=x:=by omega
  rw[this]
 rw[this];have e:2^(32-1)=2147483648:=by decide
 rw[e];by_cases h:2147483648≤x
 ·simp[h];omega
 ·simp[h];omega
theorem cT (x:BitVec 32):IntKind.wrap .u32 x.toNat=(x.toNat:Int):=by
 have hx:=x.isLt;simp only[IntKind.wrap];simp[IntKind.bits,IntKind.signed];omega
theorem rS (x:BitVec 32):BitVec.ofInt 32 (IntKind.wrap .u32 x.toNat)=x:=by
 have hx:=x.isLt;rw[cT];apply BitVec.eq_of_toNat_eq;rw[ep];omega
theorem tU (a b:Int):BitVec.ofInt 32 (bj .u32 a b)=BitVec.ofInt 32 a&&& BitVec.ofInt 32 b:=rS (BitVec.ofInt 32 a&&& BitVec.ofInt 32 b)
theorem bP (a b:Int):BitVec.ofInt 32 (tV .u32 a b)=BitVec.ofInt 32 a^^^BitVec.ofInt 32 b:=rS (BitVec.ofInt 32 a^^^BitVec.ofInt 32 b)
theorem E9 (x:BitVec 32):Int.fdiv (IntKind.wrap .u32 x.toNat) (2^31)=if x.msb then 1 else 0:=by
 rw[cT,bE,pk];have hx:=x.isLt;have e:(2:Int)^31=2147483648:=by decide
 have e2:2^(32-1)=2147483648:=by decide
 rw[e,e2];by_cases h:2147483648≤x.toNat
 ·simp[h];omega
 ·simp[h];omega
theorem pL (N:Nat){a b c:Int}(a0:0≤a)(a1:a<(4294967296:Int))(b0:0≤b)(b1:b<(4294967296:Int))(c0:0≤c)(c1:c≤1):Q3.f N a b c=some ((a-b-c)%(4294967296:Int),if a<b+c then 1 else 0):=by
 unfold Q3.f;have hd:oE (oE (a-b)-c)=(a-b-c)%(4294967296:Int):=by rw[uE,uE];omega
 rw[hd];have d0:0≤(a-b-c)%(4294967296:Int):=by omega
 have d1:(a-b-c)%(4294967296:Int)<(4294967296:Int):=by omega
 generalize hdd:(a-b-c)%(4294967296:Int)=d at*;congr 2;have hfull:BitVec.ofInt 32 4294967295=BitVec.allOnes 32:=by decide
 have e:∀x y:Int,iF .u32 x y=IntKind.wrap .u32 ((BitVec.ofInt 32 x|||BitVec.ofInt 32 y).toNat:Int):=fun _ _=>rfl;rw[e,E9,tU,tU,bP,bP,bP,hfull];simp only[BitVec.msb_or,BitVec.msb_and,BitVec.msb_xor,aU a0 a1,aU b0 b1,aU d0 d1];have hones:(BitVec.allOnes 32).msb=true:=by decide
 rw[hones];by_cases ha:2147483648≤a<;>by_cases hb:2147483648≤b<;>by_cases hd:2147483648≤d<;>simp[ha,hb,hd]<;>omega
theorem ug (N:Nat){R:Type}(b:W6)(hb:qD (4294967296:Int) b)(K0:W6→Option R):∀(n i:Nat) (c:Int) (out:W6),qD (4294967296:Int) out→b.length≤out.length→out.length≤1000000000→i≤out.length→out.length-i<n→0≤c→c≤1→
  0≤nv (4294967296:Int) out- (4294967296:Int)^i*c- (4294967296:Int)^i*nv (4294967296:Int) (b.drop i)→
  ∃r,qD (4294967296:Int) r∧r.length=out.length∧nv (4294967296:Int) r=nv (4294967296:Int) out- (4294967296:Int)^i*c- (4294967296:Int)^i*nv (4294967296:Int) (b.drop i)∧Q14.l2 N n 0 out.length b c (out.length:Int) (i:Int) out K0=K0 r:=by
 intro n;induction n with
 |zero=>intro i c out _ _ _ _ h;omega
 |succ n ih=>
  intro i c out ho hlb hlo hi hn c0 c1 hlt;rw[Q14.l2];by_cases hil:i<out.length
  ·have e0:decide ((i:Int)<(out.length:Int))=true:=decide_eq_true (by omega);have e1:(decide (0≤(i:Int))&&decide ((i:Int)<(out.length:Int)))=true:=by simp;omega
   have e2:(i:Int).toNat=i:=by omega
   have e3:fA ((i:Int)+1)=((i+1:Nat):Int):=by rw[aB (by omega) (by omega)];omega
   have hd:=ho.get (by decide) i;have go:∀y:Int,0≤y→y<(4294967296:Int)→nv (4294967296:Int) (b.drop i)=y+(4294967296:Int)*nv (4294967296:Int) (b.drop (i+1))→(out.set i ((out.getD i 0-y-c)%(4294967296:Int))).length=out.length∧qD (4294967296:Int) (out.set i ((out.getD i 0-y-c)%(4294967296:Int)))∧
     nv (4294967296:Int) (out.set i ((out.getD i 0-y-c)%(4294967296:Int)))- (4294967296:Int)^(i+1)*(if out.getD i 0<y+c then 1 else 0)- (4294967296:Int)^(i+1)*nv (4294967296:Int) (b.drop (i+1))=nv (4294967296:Int) out- (4294967296:Int)^i*c- (4294967296:Int)^i*nv (4294967296:Int) (b.drop i):=by
    intro y y0 y1 hdr;refine⟨by simp,ho.set i (by omega) (by omega),?_⟩;rw[tL (4294967296:Int) _ out i hil,hdr,p0];have:(out.getD i 0-y-c)%(4294967296:Int)=out.getD i 0-y-c+(4294967296:Int)*(if out.getD i 0<y+c then 1 else 0):=by split<;>omega
    rw[this];generalize(if out.getD i 0<y+c then(1:Int)else 0)=q;grind
   rw[e1,e0,e2,e3];simp only[cond_true,Nat.zero_add];have hq:∀y:Int,(0:Int)≤(if out.getD i 0<y+c then 1 else 0)∧(if out.getD i 0<y+c then 1 else 0:Int)≤1:=fun y=>by split<;>omega
   by_cases hib:i<b.length
   ·have f0:decide ((i:Int)<(b.length:Int))=true:=decide_eq_true (by omega);have f1:(decide (0≤(i:Int))&&decide ((i:Int)<(b.length:Int)))=true:=by simp;omega
    have hbd:=hb.get (by decide) i;rw[f1,f0,pL N hd.1 hd.2 hbd.1 hbd.2 c0 c1];simp only[cond_true,pC];obtain⟨g1,g2,g5⟩:=go (b.getD i 0) hbd.1 hbd.2 (jG (4294967296:Int) b i hib);obtain⟨r,r1,r2,r3,r4⟩:=ih (i+1) _ _ g2 (by omega) (by omega) (by omega) (by omega) (hq _).1 (hq _).2 (by rw[g5];exact hlt);refine⟨r,r1,by omega,by rw[r3,g5],?_⟩;rw[g1]at r4;exact r4
   ·have f0:decide ((i:Int)<(b.length:Int))=false:=decide_eq_false (by omega);rw[f0];simp only[cond_false];have hz:b.drop i=[]:=hJ.mpr (by omega);have hz2:b.drop (i+1)=[]:=hJ.mpr (by omega);by_cases hc:c=0
    ·subst hc;refine⟨out,ho,rfl,?_,rfl⟩;rw[hz];simp[nv]
    ·have hc1:(c==0)=false:=by simpa using hc
     rw[hc1,pL N hd.1 hd.2 (by omega) (by decide) c0 c1];simp only[cond_false,pC];obtain⟨g1,g2,g5⟩:=go 0 (by omega) (by decide) (by rw[hz,hz2];simp[nv]);obtain⟨r,r1,r2,r3,r4⟩:=ih (i+1) _ _ g2 (by omega) (by omega) (by omega) (by omega) (hq 0).1 (hq 0).2 (by rw[g5];exact hlt);refine⟨r,r1,by omega,by rw[r3,g5],?_⟩;rw[g1]at r4;exact r4
  ·have e0:decide ((i:Int)<(out.length:Int))=false:=decide_eq_false (by omega);have hie:i=out.length:=by omega
   have hz:b.drop i=[]:=hJ.mpr (by omega);rw[e0];refine⟨out,ho,rfl,?_,rfl⟩;rw[hz,hie]at hlt⊢;have:=(jC (show 0<(4294967296:Int) by decide) ho).2;have hc:c=0:=by
    rcases pR 0 c with h|h
    ·have:c=1:=by omega
     subst this;simp only[nv]at hlt;omega
    ·omega
   subst hc;simp[nv]
theorem kd (a:W6):zF (zE ((a.length:Int).toNat) (0:Int)) 0 (a.take (min a.length ((zE ((a.length:Int).toNat) (0:Int)).length)))=a:=by
 have e:(a.length:Int).toNat=a.length:=by omega
 rw[e,bZ a _ (hE _)];simp
theorem cQ {N:Nat}(hN:1000000001<N){u v:Int}(hu:0≤u)(hk:u<K)(hv:0≤v):Q15.f N (enc (4294967296:Int) u) (enc (4294967296:Int) v)=some (if u<v then([],10)else(enc (4294967296:Int) (u-v),0)):=by
 obtain⟨h1,h2⟩:=bD B2 hu;obtain⟨h3,h4⟩:=bD B2 hv;have hl:=fD hu hk;unfold Q15.f;rw[bp hN hu hk hv];simp only[pC];have hc:decide (tQ u v<0)=decide (u<v):=by
  unfold tQ;by_cases h1:u=v
  ·subst h1;simp
  ·by_cases h2:u<v<;>simp[h1,h2]
 rw[hc];by_cases h:u<v
 ·simp only[h,decide_true,if_true,cond_true]
 ·rw[if_neg h,jh (by omega) (by omega),kd];simp only[h,decide_false,cond_true,cond_false];have hle:(enc (4294967296:Int) v).length≤(enc (4294967296:Int) u).length:=by
   rcases ki (enc (4294967296:Int) u).length (enc (4294967296:Int) v).length with hq|hq
   ·have:=kL h1 h3 hq;omega
   ·exact hq
  obtain⟨r,r1,r2,r3,r4⟩:=ug N (enc (4294967296:Int) v) h3.dig (fun y=>some y) N 0 0 (enc (4294967296:Int) u) h1.dig hle (by omega) (by omega) (by omega) (by omega) (by omega) (by simp[h2,h4];omega);have e0:((0:Nat):Int)=0:=rfl;rw[e0]at r4;unfold Q14.f;rw[r4];simp only[pC];obtain⟨c1,c2⟩:=zM hN r (by omega);rw[c1];simp only[pC,c2];rw[jK r1,r3,h2,ek,h4];simp
theorem uq (N:Nat){R:Type}(i:Nat)(x:Int)(x0:0≤x)(x1:x<(4294967296:Int))(p q:Int)(P:W6)(b:W6)(hb:qD (4294967296:Int) b)(hbl:b.length≤100000000)(hi:i≤100000000)(K0:Int→Int→W6→Int→Int→W6→W6→Option R):∀(n j:Nat) (c:Int) (out:W6),qD (4294967296:Int) out→i+b.length<out.length→out.length≤1000000000→j≤b.length→b.length-j<n→0≤c→c<(4294967296:Int)→
  ∃r c',qD (4294967296:Int) r∧0≤c'∧c'<(4294967296:Int)∧r.length=out.length∧nv (4294967296:Int) r+(4294967296:Int)^(i+b.length)*c'=nv (4294967296:Int) out+(4294967296:Int)^(i+j)*c+(4294967296:Int)^(i+j)*x*nv (4294967296:Int) (b.drop j)∧(∀k,i+b.length≤k→r.getD k 0=out.getD k 0)∧
   Q16.l7 N n (i:Int) x c P p q b (b.length:Int) (j:Int) b out K0=K0 (i:Int) c' P p q b r:=by
 intro n;induction n with
 |zero=>intro j c out _ _ _ _ h;omega
 |succ n ih=>
  intro j c out ho hlb hlo hj hn c0 c1;rw[Q16.l7];by_cases hjl:j<b.length
  ·have e0:decide ((j:Int)<(b.length:Int))=true:=decide_eq_true (by omega);have e1:(decide (0≤(j:Int))&&decide ((j:Int)<(b.length:Int)))=true:=by simp;omega
   have e2:(j:Int).toNat=j:=by omega
   have e3:fA ((j:Int)+1)=((j+1:Nat):Int):=by rw[aB (by omega) (by omega)];omega
   have e4:fA ((i:Int)+(j:Int))=((i+j:Nat):Int):=by rw[aB (by omega) (by omega)];omega
   have e5:(((i+j:Nat):Int)).toNat=i+j:=by omega
   have e6:(decide (0≤((i+j:Nat):Int))&&decide (((i+j:Nat):Int)<(out.length:Int)))=true:=by simp;omega
   have hd:=ho.get (by decide) (i+j);have hbd:=hb.get (by decide) j;rw[e1,e0,e2,e3,e4,e5,e6];simp only[cond_true];have m0:=hS x0 hbd.1;have m1:x*b.getD j 0≤((4294967296:Int)-1)*((4294967296:Int)-1):=by have h1:=hD (show b.getD j 0≤(4294967296:Int)-1 by omega) x0;have h2:=hI (show x≤(4294967296:Int)-1 by omega) (show(0:Int)≤(4294967296:Int)-1 by decide);omega
   have m2:((4294967296:Int)-1)*((4294967296:Int)-1)=18446744065119617025:=by decide
   have p32:(2:Int)^32=(4294967296:Int):=by decide
   rw[fB (n:=x) (by omega) (by omega),fB (n:=b.getD j 0) (by omega) (by omega),fB (n:=x*b.getD j 0) (by omega) (by omega),fB (n:=out.getD (i+j) 0) (by omega) (by omega),fB (n:=x*b.getD j 0+out.getD (i+j) 0) (by omega) (by omega),fB (n:=c+(x*b.getD j 0+out.getD (i+j) 0)) (by omega) (by omega),bE,p32,uE];generalize hs:c+(x*b.getD j 0+out.getD (i+j) 0)=s;have hsd:=eR s;obtain⟨r,c',r1,r2,r3,r4,r5,r6,r7⟩:=ih (j+1) (s/(4294967296:Int)) (out.set (i+j) (s%(4294967296:Int))) (ho.set _ (by omega) (by omega)) (by simpa using hlb) (by simpa using hlo) (by omega) (by omega) (by omega) (by omega);refine⟨r,c',r1,r2,r3,by simpa using r4,?_,fun k hk=>?_,r7⟩
   ·rw[r5,tL (4294967296:Int) _ out (i+j) (by omega),jG (4294967296:Int) b j hjl];have e:i+(j+1)=i+j+1:=by omega
    rw[e,p0];generalize s%(4294967296:Int)=m at*;generalize s/(4294967296:Int)=z at*;have em:m=s- (4294967296:Int)*z:=by omega
    subst em;subst hs;grind
   ·rw[r6 k hk];simp only[hF,ae];rw[if_neg (by omega)]
  ·have e0:decide ((j:Int)<(b.length:Int))=false:=decide_eq_false (by omega);have hje:j=b.length:=by omega
   rw[e0];have hz:b.drop j=[]:=hJ.mpr (by omega);refine⟨out,c,ho,c0,c1,rfl,?_,fun _ _=>rfl,rfl⟩;rw[hz,hje];simp[nv]
theorem ur {N:Nat}(hN:1000000001<N){R:Type}(a b:W6)(ha:qD (4294967296:Int) a)(hb:qD (4294967296:Int) b)(hal:a.length≤10000000)(hbl:b.length≤10000000)(K0:W6→Option R):∀(n i:Nat) (out:W6),qD (4294967296:Int) out→out.length=a.length+b.length→i≤a.length→a.length-i<n→(∀k,i+b.length≤k→out.getD k 0=0)→
  ∃r,qD (4294967296:Int) r∧r.length=out.length∧nv (4294967296:Int) r=nv (4294967296:Int) out+(4294967296:Int)^i*nv (4294967296:Int) (a.drop i)*nv (4294967296:Int) b∧Q16.l3 N n a (a.length:Int) (i:Int) b out K0=K0 r:=by
 intro n;induction n with
 |zero=>intro i out _ _ _ h;omega
 |succ n ih=>
  intro i out ho hlo hi hn hz;rw[Q16.l3];by_cases hil:i<a.length
  ·have e0:decide ((i:Int)<(a.length:Int))=true:=decide_eq_true (by omega);have e1:(decide (0≤(i:Int))&&decide ((i:Int)<(a.length:Int)))=true:=by simp;omega
   have e2:(i:Int).toNat=i:=by omega
   have e3:fA ((i:Int)+1)=((i+1:Nat):Int):=by rw[aB (by omega) (by omega)];omega
   have hd:=ha.get (by decide) i;rw[e1,e0,e2];simp only[cond_true];obtain⟨r,c',r1,r2,r3,r4,r5,r6,r7⟩:=uq N i (a.getD i 0) hd.1 hd.2 (a.length:Int) (i:Int) a b hb (by omega) (by omega) (fun y26 y27 y28 y29 y30 y31 y32=>
      bif (decide (0≤(fA (y26+(y31.length:Int)))))&&(decide ((fA (y26+(y31.length:Int)))<(y32.length:Int)))then
       Q16.l3 N n y28 y29 (fA (y30+1)) y31 (y32.set ((fA (y26+(y31.length:Int))).toNat) (oE y27)) K0
      else none) N 0 0 out ho (by omega) (by omega) (by omega) (by omega) (by omega) (by decide)
   have ez:((0:Nat):Int)=0:=rfl;rw[ez]at r7;rw[r7];have e4:fA ((i:Int)+(b.length:Int))=((i+b.length:Nat):Int):=by rw[aB (by omega) (by omega)];omega
   have e5:(((i+b.length:Nat):Int)).toNat=i+b.length:=by omega
   have e6:(decide (0≤((i+b.length:Nat):Int))&&decide (((i+b.length:Nat):Int)<(r.length:Int)))=true:=by simp;omega
   rw[e4,e5,e6,e3,sN r2 r3];simp only[cond_true];obtain⟨t,t1,t2,t3,t4⟩:=ih (i+1) (r.set (i+b.length) c') (r1.set _ r2 r3) (by simpa using r4.trans hlo) (by omega) (by omega) (fun k hk=>by simp only[hF,ae];rw[if_neg (by omega),←hF,r6 k (by omega)];exact hz k (by omega));refine⟨t,t1,by rw[t2];simpa using r4,?_,t4⟩;rw[t3,tL (4294967296:Int) _ r _ (by omega),r6 _ (hE _),hz _ (hE _),jG (4294967296:Int) a i hil,p0];have:nv (4294967296:Int) r=nv (4294967296:Int) out+(4294967296:Int)^i*a.getD i 0*nv (4294967296:Int) b- (4294967296:Int)^(i+b.length)*c':=by simp only[Nat.add_zero,ek,ad,gx]at r5;omega
   rw[this];grind
  ·have e0:decide ((i:Int)<(a.length:Int))=false:=decide_eq_false (by omega);rw[e0];have hze:a.drop i=[]:=hJ.mpr (by omega);refine⟨out,ho,rfl,?_,rfl⟩;rw[hze];simp[nv]
theorem xZ {N:Nat}(hN:1000000001<N){a b:W6}(ha:qD (4294967296:Int) a)(hb:qD (4294967296:Int) b)(hal:a.length≤10000000)(hbl:b.length≤10000000):Q16.f N a b=some (enc (4294967296:Int) (nv (4294967296:Int) a*nv (4294967296:Int) b)):=by
 unfold Q16.f;have w:fA ((a.length:Int)+(b.length:Int))=(a.length:Int)+(b.length:Int):=aB (by omega) (by omega);have wt:((a.length:Int)+(b.length:Int)).toNat=a.length+b.length:=by omega
 rw[w,de (by omega) (by omega),wt];simp only[cond_true];have hz:∀k,(zE (a.length+b.length) (0:Int)).getD k 0=0:=fun k=>by rw[hF,nb];split<;>rfl
 obtain⟨r,r1,r2,r3,r4⟩:=ur hN a b ha hb hal hbl (fun y34=>(Q5.f N 0 y34.length y34).bind fun r35=>some ((r35.2.2.drop r35.1).take r35.2.1)) N 0 (zE (a.length+b.length) 0) (qD.replicate (by decide) _) (by simp) (by omega) (by omega) (fun k _=>hz k);have ez:((0:Nat):Int)=0:=rfl;rw[ez]at r4;rw[r4];have hl:r.length=a.length+b.length:=by simpa using r2
 obtain⟨c1,c2⟩:=zM hN r (by omega);rw[c1];simp only[pC,c2];rw[jK r1,r3,xG];simp
theorem Do {N:Nat}(hN:1000000001<N){u v:Int}(hu:0≤u)(hk:u<K)(hv:0≤v)(hk':v<K):Q17.f N (enc (4294967296:Int) u) (enc (4294967296:Int) v)=some (out (u*v)):=by
 obtain⟨h1,h2⟩:=bD B2 hu;obtain⟨h3,h4⟩:=bD B2 hv;have l1:=fD hu hk;have l2:=fD hv hk';unfold Q17.f;rw[oG N h1 (by omega),oG N h3 (by omega),h2,h4];simp only[pC];have b1:=vC u;have b2:=vC v;have b3:=fK hu 4096 hk;have b4:=fK hv 4096 hk';rw[aB (n:=sD u+sD v) (by omega) (by omega)];by_cases hb:sD u+sD v>4097
 ·simp only[hb,decide_true,cond_true];have hu1:(2:Int)^((sD u).toNat-1)≤u:=by
   rcases pR u (2^((sD u).toNat-1))with h|h
   ·have:=(uG hu ((sD u).toNat-1)).mpr h;omega
   ·exact h
  have hv1:(2:Int)^((sD v).toNat-1)≤v:=by
   rcases pR v (2^((sD v).toNat-1))with h|h
   ·have:=(uG hv ((sD v).toNat-1)).mpr h;omega
   ·exact h
  have hp1:(0:Int)<2^((sD u).toNat-1):=c4 (by decide);have hp2:(0:Int)<2^((sD v).toNat-1):=c4 (by decide);have m1:=hD hv1 (aE hp1);have m2:=hI hu1 hv;have m3:K≤2^((sD u).toNat-1)*2^((sD v).toNat-1):=by rw[←q5];unfold K;rw[uD,uD];have:=p4 (show 0<2 by decide) (show 4096≤(sD u).toNat-1+((sD v).toNat-1) by omega);omega
  unfold out;rw[if_neg (by omega)]
 ·simp only[hb,decide_false,cond_false];rw[xZ hN h1.dig h3.dig (by omega) (by omega),h2,h4];simp only[pC];have hm:=hS hu hv;obtain⟨h5,h6⟩:=bD B2 hm;have hlen:(enc (4294967296:Int) (u*v)).length≤256:=by
   refine qj hm ?_;have m1:=hD (show v≤K by omega) hu;have m2:=Int.mul_lt_mul_of_pos_right hk (show 0<K by unfold K;exact c4 (by decide));have e:(4294967296:Int)^256=K*K:=by rw[Hi,←q5]
   omega
  rw[nX N h5 (by omega),h6];unfold out;split<;>rfl
theorem xI {x:Int}(h0:0≤x)(h1:x<18446744073709551616):(BitVec.ofInt 64 x).toNat=x.toNat:=by
 rw[ep];have:x%((2^64:Nat):Int)=x:=by omega
 rw[this]
theorem dP {r d:Int}(r0:0≤r)(r1:r<4294967296)(d0:0≤d)(d1:d<4294967296):iF .u64 (r*4294967296) d=r*4294967296+d:=by
 have e:iF .u64 (r*4294967296) d=IntKind.wrap .u64 ((BitVec.ofInt 64 (r*4294967296)|||BitVec.ofInt 64 d).toNat:Int):=rfl;rw[e,BitVec.toNat_or,xI (by omega) (by omega),xI (by omega) (by omega)];have h1:(r*4294967296).toNat=r.toNat<<<32:=by rw[kj];omega
 rw[h1,←ds (show d.toNat<2^32 by omega),kj];have:IntKind.wrap .u64 ((r.toNat*2^32+d.toNat:Nat):Int)=((r.toNat*2^32+d.toNat:Nat):Int):=by show dB _=_;exact fB (by omega) (by omega)
 rw[this];omega
theorem oo (N:Nat){R:Type}(by_:Int)(b0:0<by_)(b1:by_<4294967296)(m:Nat)(hm:m≤1000000000)(K0:Int→W6→Option R):∀(n j:Nat) (r:Int) (l:W6),qD (4294967296:Int) l→m≤l.length→j≤m→j<n→0≤r→r<by_→
  ∃r' l',qD (4294967296:Int) l'∧l'.length=l.length∧0≤r'∧r'<by_∧
   by_*nv (4294967296:Int) (l'.take m)+r'=by_*(4294967296:Int)^j*nv (4294967296:Int) ((l.take m).drop j)+r*(4294967296:Int)^j+nv (4294967296:Int) ((l.take m).take j)∧
   Q9.l3 N n 0 m by_ r ((j:Int)-1) l K0=K0 r' l':=by
 intro n;induction n with
 |zero=>intro j r l _ _ _ h;omega
 |succ n ih=>
  intro j r l hd hl hj hn r0 r1;rw[Q9.l3];cases j with
  |zero=>refine⟨r,l,hd,rfl,r0,r1,by simp[nv],rfl⟩
  |succ j=>
   have e0:((j+1:Nat):Int)-1=(j:Int):=by omega
   have e3:fA ((j:Int)-1)=(j:Int)-1:=aB (by omega) (by omega);have c1:(decide (0≤(j:Int))&&decide ((j:Int)<(m:Int)))=true:=by simp;omega
   have c0:decide ((j:Int)≥0)=true:=decide_eq_true (by omega);have e2:0+(j:Int).toNat=j:=by omega
   have hx:=hd.get (by decide) j;have p32:(2:Int)^32=4294967296:=by decide
   rw[e0,c1,c0,e2,e3,p32];simp only[cond_true];have wb:dB by_=by_:=fB (by omega) (by omega);have cb:(by_==0)=false:=by simp;omega
   rw[wb,cb];simp only[pb,cond_true];rw[fB (n:=r*4294967296) (by omega) (by omega),fB (n:=l.getD j 0) (by omega) (by omega),dP r0 (by omega) hx.1 hx.2];generalize hxx:r*4294967296+l.getD j 0=x;have x0:0≤x:=by omega
   have h1:=j3 x by_;have h2:=hQ x (b:=by_) (by omega);have h3:=hL x b0;have hq0:0≤x/by_:=p3 x0 (by omega);have hq1:x/by_<4294967296:=by rw[bq b0];have:=hD (show r+1≤by_ by omega) (show(0:Int)≤4294967296 by decide);omega
   rw[fc x0,fe x0,fB (n:=x/by_) hq0 (by omega),sN hq0 hq1];obtain⟨r',l',g1,g2,g3,g4,g5,g6⟩:=ih j (x%by_) (l.set j (x/by_)) (hd.set _ hq0 hq1) (by simpa using hl) (by omega) (by omega) h2 h3;refine⟨r',l',g1,by simpa using g2,g3,g4,?_,g6⟩;have hlen:(l.take m).length=m:=by rw[o2];omega
   have hset:(l.set j (x/by_)).take m=(l.take m).set j (x/by_):=List.take_set ..;have hdrop:((l.take m).set j (x/by_)).drop (j+1)=(l.take m).drop (j+1):=by simp[List.drop_set]
   have htake:((l.take m).set j (x/by_)).take j=(l.take m).take j:=by rw[List.take_set,List.set_eq_of_length_le (by rw[o2];omega)]
   have hget:((l.take m).set j (x/by_)).getD j 0=x/by_:=by rw[hF,List.getElem?_set_self (by omega)];rfl
   have hn1:=jG (4294967296:Int) ((l.take m).set j (x/by_)) j (by simp;omega);have hn2:=cF (4294967296:Int) (l.take m) j (by omega);have hg2:(l.take m).getD j 0=l.getD j 0:=uT (by omega);rw[hdrop,hget]at hn1;rw[hg2]at hn2;rw[g5,hset,hn1,htake,hn2,p0];generalize x/by_=q at*;generalize x%by_=z at*;have ez:z=x-by_*q:=by omega
   subst ez;subst hxx;grind
theorem bV {N:Nat}(hN:1000000001<N){l:W6}(hd:qD (4294967296:Int) l){m:Nat}(hm:m≤l.length)(hm2:m≤1000000000){by_:Int}(b0:0<by_)(b1:by_<4294967296):
  ∃l',qD (4294967296:Int) l'∧l'.length=l.length∧nv (4294967296:Int) (l'.take m)=nv (4294967296:Int) (l.take m)/by_∧Q9.f N 0 m by_ l=some (nv (4294967296:Int) (l.take m)%by_,l'):=by
 obtain⟨r',l',g1,g2,g3,g4,g5,g6⟩:=oo N by_ b0 b1 m hm2 (fun y13 y14=>some (oE y13,y14)) N m 0 l hd hm (hE _) (by omega) (en _) b0;have hlen:(l.take m).length=m:=by rw[o2];omega
 have e1:(l.take m).drop m=[]:=hJ.mpr (by omega);have e2:(l.take m).take m=l.take m:=k8 (by omega);rw[e1,e2]at g5;simp only[nv,ad,Int.zero_mul,gy]at g5;have hu:=(y8 (a:=nv (4294967296:Int) (l.take m)) (r:=r') (q:=nv (4294967296:Int) (l'.take m)) b0).mpr ⟨by omega,g3,g4⟩;refine⟨l',g1,g2,hu.1.symm,?_⟩;unfold Q9.f;rw[aB (n:=(m:Int)-1) (by omega) (by omega),g6,sN g3 (by omega),hu.2]
theorem Hj:0<K:=by unfold K;exact c4 (by decide)
theorem Ew:18446744073709551616<K:=by unfold K;decide+kernel
def ov (x:Int):Int:=if x<K then x else 0
def oe (x:Int):Int:=if x<K then 0 else 3
structure Rg (x:Int):Prop where
 lo:0≤x
 hi:x<K
theorem Rg.ov {x:Int}(h:0≤x):Rg (ov x):=by
 unfold NatL.ov;have:=Hj;split
 ·exact⟨h,by assumption⟩
 ·exact⟨en _,by omega⟩
theorem Av (x:Int):out x=(enc (4294967296:Int) (ov x),oe x):=by
 unfold out ov oe;by_cases h:x<K
 ·rw[if_pos h,if_pos h,if_pos h]
 ·rw[if_neg h,if_neg h,if_neg h,bJ B2]
theorem Cr {N:Nat}(hN:1000000001<N){u v:Int}(hu:Rg u)(hv:Rg v):Q13.f N (enc (4294967296:Int) u) (enc (4294967296:Int) v)=some (enc (4294967296:Int) (ov (u+v)),oe (u+v)):=by
 rw[Cs hN hu.lo hu.hi hv.lo hv.hi,Av]
theorem Dn {N:Nat}(hN:1000000001<N){u v:Int}(hu:Rg u)(hv:Rg v):Q17.f N (enc (4294967296:Int) u) (enc (4294967296:Int) v)=some (enc (4294967296:Int) (ov (u*v)),oe (u*v)):=by
 rw[Do hN hu.lo hu.hi hv.lo hv.hi,Av]
theorem xx {N:Nat}(hN:1000000001<N){u v:Int}(hu:Rg u)(hv:Rg v):Q12.f N (enc (4294967296:Int) u) (enc (4294967296:Int) v)=some (tQ u v):=bp hN hu.lo hu.hi hv.lo
theorem xz (u:Int):tQ u u=0:=by unfold tQ;simp
theorem vu (N:Nat){v:Int}(h0:0≤v):Q11.f N (enc (4294967296:Int) v)=some (if v<18446744073709551616 then(v,true)else(0,false)):=by
 obtain⟨h1,h2⟩:=bD B2 h0;generalize enc (4294967296:Int) v=l at*;unfold Q11.f
 match l,h1,h2 with
 | [],h1,h2=>simp only[nv]at h2;subst h2;rfl
 | [x],h1,h2=>
  have hx:=h1.dig.head;simp only[nv]at h2;have:x=v:=by omega
  subst this;simp[fB (n:=x) (by omega) (by omega)];omega
 | [x,y],h1,h2=>
  have hx:=h1.dig.head;have hy:=h1.dig.tail.head;simp only[nv]at h2;have p32:(2:Int)^32=4294967296:=by decide
  simp;rw[fB (n:=x) (by omega) (by omega),fB (n:=y) (by omega) (by omega),fB (n:=y*4294967296) (by omega) (by omega),dP hy.1 hy.2 hx.1 hx.2];rw[if_pos (by omega)];congr 1;omega
 |x::y::z::l,h1,h2=>
  have hlow:=h1.lower (by decide) (by simp);have hp:(4294967296:Int)^2≤(4294967296:Int)^((x::y::z::l).length-1):=jn (by simp);have e:(4294967296:Int)^2=18446744073709551616:=by decide
  rw[if_neg (by omega)];have c0:(((x::y::z::l).length:Int)==0)=false:=by simp;omega
  have c1:(((x::y::z::l).length:Int)==1)=false:=by simp;omega
  have c2:(((x::y::z::l).length:Int)==2)=false:=by simp;omega
  rw[c0,c1,c2];rfl
theorem H2:(2:Int)≤(65536:Int):=by decide
theorem wO {l:W6}{i:Nat}(h:l.length≤i):l.getD i 0=0:=by
 rw[hF,List.getElem?_eq_none h];rfl
theorem kY (b:Int)(l:W6)(i:Nat):nv b (l.drop i)=l.getD i 0+b*nv b (l.drop (i+1)):=by
 rcases ki i l.length with h|h
 ·exact jG b l i h
 ·rw[hJ.mpr h,hJ.mpr (by omega),wO h];simp[nv]
theorem eP (k:Nat):(0:Int)<2^k:=c4 (by decide)
theorem Du {i j:Nat}(h:i≤j):(2:Int)^i≤2^j:=by
 have:=p4 (show 0<2 by decide) h;rw[uD,uD];omega
theorem qz {k:Nat}(h:k≤31):(2:Int)^k≤2147483648:=by
 have:=Du h;have e:(2:Int)^31=2147483648:=by decide
 omega
theorem Aw {k:Nat}(h:k≤31):(4294967296:Int)=2^k*2^(32-k):=by
 rw[←q5];have:k+(32-k)=32:=by omega
 rw[this];rfl
theorem Gq {c d:Int}{k:Nat}(hk:k≤31)(c0:0≤c)(c1:c<2^k)(d0:0≤d)(d1:d<4294967296):iF .u64 c (d*2^k)=c+d*2^k:=by
 have hp:=qz hk;have hpp:=eP k;have m1:=hS d0 (aE hpp);have m2:=hI (show d≤4294967295 by omega) (aE hpp);have e:iF .u64 c (d*2^k)=IntKind.wrap .u64 ((BitVec.ofInt 64 c|||BitVec.ofInt 64 (d*2^k)).toNat:Int):=rfl;rw[e,BitVec.toNat_or,xI c0 (by omega),xI m1 (by omega)];have h1:(d*2^k).toNat=d.toNat<<<k:=by
  rw[kj,Int.toNat_mul d0 (aE hpp)];have hpk:((2:Int)^k).toNat=2^k:=by rw[uD];exact Int.toNat_natCast _
  rw[hpk]
 have hc:c.toNat<2^k:=by rw[uD]at c1;omega
 rw[h1,Nat.or_comm,←ds hc,←h1];have:IntKind.wrap .u64 (((d*2^k).toNat+c.toNat:Nat):Int)=(((d*2^k).toNat+c.toNat:Nat):Int):=by show dB _=_;exact fB (by omega) (by omega)
 rw[this];omega
theorem Eh (N:Nat){R:Type}{d:W6}(hd:qD (4294967296:Int) d)(k:Nat)(hk:k≤31)(K0:W6→Option R):∀(n i:Nat) (c:Int) (o:W6),qD (4294967296:Int) o→o.length≤1000000000→i≤o.length→o.length-i<n→0≤c→c<2^k→(∀j,i≤j→o.getD j 0=0)→
  ∃r c',qD (4294967296:Int) r∧r.length=o.length∧0≤c'∧nv (4294967296:Int) r+(4294967296:Int)^o.length*(c'+2^k*nv (4294967296:Int) (d.drop o.length))=nv (4294967296:Int) o+(4294967296:Int)^i*(c+2^k*nv (4294967296:Int) (d.drop i))∧
   Q18.l4 N n d (k:Int) c (o.length:Int) (i:Int) o K0=K0 r:=by
 intro n;induction n with
 |zero=>intro i c o _ _ _ h;omega
 |succ n ih=>
  intro i c o ho hol hi hn c0 c1 hz;rw[Q18.l4];by_cases hil:i<o.length
  ·have e0:decide ((i:Int)<(o.length:Int))=true:=decide_eq_true (by omega);have e1:(decide (0≤(i:Int))&&decide ((i:Int)<(o.length:Int)))=true:=by simp;omega
   have e2:(i:Int).toNat=i:=by omega
   have e3:fA ((i:Int)+1)=((i+1:Nat):Int):=by rw[aB (by omega) (by omega)];omega
   have hp:=qz hk;have hpp:=eP k;have p32:(2:Int)^32=4294967296:=by decide
   have go:∀x:Int,x=c+d.getD i 0*2^k→∃r c',qD (4294967296:Int) r∧r.length=o.length∧0≤c'∧nv (4294967296:Int) r+(4294967296:Int)^o.length*(c'+2^k*nv (4294967296:Int) (d.drop o.length))=nv (4294967296:Int) o+(4294967296:Int)^i*(c+2^k*nv (4294967296:Int) (d.drop i))∧
     Q18.l4 N n d (k:Int) (x/4294967296) (o.length:Int) ((i+1:Nat):Int) (o.set i (x%4294967296)) K0=K0 r:=by
    intro x hx;have hdg:=hd.get (by decide) i;have m1:=hS hdg.1 (aE hpp);have m2:=hI (show d.getD i 0≤4294967295 by omega) (aE hpp);obtain⟨r,c',r1,r2,r3,r4,r5⟩:=ih (i+1) (x/4294967296) (o.set i (x%4294967296)) (ho.set _ (by omega) (by omega)) (by simpa using hol) (by simp;omega) (by simp;omega) (by omega) (by omega) (fun j hj=>by have:=hz j (by omega);simp only[hF,ae]at this⊢;rw[if_neg (by omega)];exact this);have hl:(o.set i (x%4294967296)).length=o.length:=by simp
    rw[hl]at r2 r4 r5;refine⟨r,c',r1,r2,r3,?_,r5⟩;rw[r4,tL _ _ o i hil,kY _ d i,hz i (hE _),p0];have hsd:=eR x;generalize x%4294967296=m at*;generalize x/4294967296=z at*;have em:m=x-4294967296*z:=by omega
    subst em;subst hx;grind
   rw[e1,e0,e2,e3];simp only[cond_true];by_cases hid:i<d.length
   ·have f0:decide ((i:Int)<(d.length:Int))=true:=decide_eq_true (by omega);have f1:(decide (0≤(i:Int))&&decide ((i:Int)<(d.length:Int)))=true:=by simp;omega
    have f2:decide (0≤(k:Int))=true:=decide_eq_true (by omega);have hdg:=hd.get (by decide) i;have m1:=hS hdg.1 (aE hpp);have m2:=hI (show d.getD i 0≤4294967295 by omega) (aE hpp);have hm:min (k:Int).toNat 64=k:=by omega
    rw[f1,f0,f2,hm,fB (n:=d.getD i 0) (by omega) (by omega),fB (n:=d.getD i 0*2^k) m1 (by omega),Gq hk c0 c1 hdg.1 hdg.2,bE,p32,uE];exact go _ rfl
   ·have f0:decide ((i:Int)<(d.length:Int))=false:=decide_eq_false (by omega);have zd:d.getD i 0=0:=wO (by omega);have:=go c (by rw[zd];simp);rw[f0];simp only[cond_false];rw[bE,p32,uE];exact this
  ·have e0:decide ((i:Int)<(o.length:Int))=false:=decide_eq_false (by omega);have:i=o.length:=by omega
   subst this;rw[e0];exact⟨o,c,ho,rfl,c0,rfl,rfl⟩
theorem cY {m:Nat}(h1:m≤1000000000):(dG (m:Int) (m:Int)&&decide (0≤(m:Int))&&decide ((m:Int)≤9223372036854775807)&&lB (m:Int).toNat 4)=true:=de (by omega) (by omega)
theorem ji {m:Nat}(h1:m≤1000000000):(dG (m:Int) (m:Int)&&decide (0≤(m:Int))&&decide ((m:Int)≤9223372036854775807)&&lB (m:Int).toNat 4)=true:=jh (by omega) (by omega)
theorem dw (n j:Nat):(zE n (0:Int)).getD j 0=0:=by
 rw[hF,nb];split<;>rfl
theorem kt {N:Nat}(hN:1000000001<N){d:W6}(hd:qD (4294967296:Int) d){k:Nat}(hk:k≤31){m:Nat}(hm:m≤1000000000)(hdm:d.length≤m)(hfit:2^k*nv (4294967296:Int) d<(4294967296:Int)^m):
  ∃r,qD (4294967296:Int) r∧r.length=m∧nv (4294967296:Int) r=2^k*nv (4294967296:Int) d∧Q18.f N d (k:Int) (m:Int)=some r:=by
 unfold Q18.f;have et:((m:Nat):Int).toNat=m:=by omega
 rw[cY hm,et];simp only[cond_true];obtain⟨r,c',r1,r2,r3,r4,r5⟩:=Eh N hd k hk (fun y11=>some y11) N 0 0 (zE m 0) (qD.replicate (by decide) _) (by simpa using hm) (by omega) (by simp;omega) (by omega) (eP k) (fun j _=>dw m j);have hl:(zE m (0:Int)).length=m:=by simp
 have ez:((0:Nat):Int)=0:=rfl;rw[hl]at r2 r4 r5;rw[ez]at r5;rw[hl,r5];rw[hJ.mpr hdm,xG]at r4;simp only[nv,ad,gx,gy,Int.pow_zero,Int.one_mul,ek]at r4;have hb:=(jC (show(0:Int)<4294967296 by decide) r1).1;have hp:(0:Int)<(4294967296:Int)^m:=c4 (by decide);have hc:c'=0:=by
  rcases pR 0 c' with h|h
  ·have:=hD (show 1≤c' by omega) (aE hp);omega
  ·omega
 subst hc;exact⟨r,r1,r2,by simpa using r4,rfl⟩
theorem sz (N:Nat){R:Type}{d:W6}(hd:qD (4294967296:Int) d)(hdl:d.length≤1000000000)(k:Nat)(hk:k≤31)(K0:W6→Option R):∀(n i:Nat) (o:W6),qD (4294967296:Int) o→o.length=d.length→i≤d.length→d.length-i<n→(∀j,i≤j→o.getD j 0=0)→
  ∃r,qD (4294967296:Int) r∧r.length=d.length∧nv (4294967296:Int) r=nv (4294967296:Int) o+(4294967296:Int)^i*(nv (4294967296:Int) (d.drop i)/2^k)∧
   Q19.l3 N n d (k:Int) (d.length:Int) (i:Int) o K0=K0 r:=by
 intro n;induction n with
 |zero=>intro i o _ _ _ h;omega
 |succ n ih=>
  intro i o ho hol hi hn hz;rw[Q19.l3];by_cases hil:i<d.length
  ·have e0:decide ((i:Int)<(d.length:Int))=true:=decide_eq_true (by omega);have e1:(decide (0≤(i:Int))&&decide ((i:Int)<(d.length:Int)))=true:=by simp;omega
   have e1o:(decide (0≤(i:Int))&&decide ((i:Int)<(o.length:Int)))=true:=by simp;omega
   have e2:(i:Int).toNat=i:=by omega
   have e3:fA ((i:Int)+1)=((i+1:Nat):Int):=by rw[aB (by omega) (by omega)];omega
   have e4:(((i+1:Nat):Int)).toNat=i+1:=by omega
   have f2:decide (0≤(k:Int))=true:=decide_eq_true (by omega);have hm:min (k:Int).toNat 64=k:=by omega
   have hpp:=eP k;have hp31:=qz hk;have hsp:=Aw hk;have hpp2:=eP (32-k);have hx:=hd.get (by decide) i;have hy:=hd.get (by decide) (i+1);have p32:(2:Int)^32=4294967296:=by decide
   have hnd:=kY (4294967296:Int) d i;have key:∀x:Int,x=d.getD i 0+4294967296*d.getD (i+1) 0→nv (4294967296:Int) (d.drop i)/2^k=(x/2^k)%4294967296+4294967296*(nv (4294967296:Int) (d.drop (i+1))/2^k):=by
    intro x hxx;have hnd2:=kY (4294967296:Int) d (i+1);generalize hY:nv (4294967296:Int) (d.drop (i+1))=Y at*;generalize nv (4294967296:Int) (d.drop (i+1+1))=Z at*;have d1:=j3 Y (2^k);have d2:=hQ Y (b:=2^k) (by omega);have d3:=hL Y hpp;have d4:=j3 (d.getD (i+1) 0) (2^k);have d5:=hQ (d.getD (i+1) 0) (b:=2^k) (by omega);have d6:=hL (d.getD (i+1) 0) hpp;have hrest:Y%2^k=d.getD (i+1) 0%2^k:=by
     have:Y=d.getD (i+1) 0+2^k*(2^(32-k)*Z):=by rw[hnd2,←Int.mul_assoc,←hsp]
     rw[this,e9]
    generalize Y/2^k=q at*;generalize hs:Y%2^k=s at*;generalize d.getD (i+1) 0/2^k=q' at*;rw[←hrest]at d4;have h1:nv (4294967296:Int) (d.drop i)=d.getD i 0+4294967296*s+2^k*(4294967296*q):=by rw[hnd,←d1];grind
    have h2:x=d.getD i 0+4294967296*s+2^k*(4294967296*q'):=by rw[hxx,←d4];grind
    rw[h1,h2,cx _ _ (by omega),cx _ _ (by omega),e9];have hlt:(d.getD i 0+4294967296*s)/2^k<4294967296:=by rw[bq hpp];have:=hD (show s+1≤2^k by omega) (show(0:Int)≤4294967296 by decide);omega
    have hge:0≤(d.getD i 0+4294967296*s)/2^k:=p3 (by omega) (by omega);rw[gi hge hlt]
   have go:∀x:Int,x=d.getD i 0+4294967296*d.getD (i+1) 0→∃r,qD (4294967296:Int) r∧r.length=d.length∧nv (4294967296:Int) r=nv (4294967296:Int) o+(4294967296:Int)^i*(nv (4294967296:Int) (d.drop i)/2^k)∧
     Q19.l3 N n d (k:Int) (d.length:Int) ((i+1:Nat):Int) (o.set i ((x/2^k)%4294967296)) K0=K0 r:=by
    intro x hxx;obtain⟨r,r1,r2,r3,r4⟩:=ih (i+1) (o.set i ((x/2^k)%4294967296)) (ho.set _ (by omega) (by omega)) (by simpa using hol) (by omega) (by omega) (fun j hj=>by have:=hz j (by omega);simp only[hF,ae]at this⊢;rw[if_neg (by omega)];exact this);refine⟨r,r1,r2,?_,r4⟩;rw[r3,tL _ _ o i (by omega),hz i (hE _),key x hxx,p0];grind
   rw[e1,e0,e3,e4,f2,e1o,e2,hm];simp only[cond_true];by_cases hid:i+1<d.length
   ·have f0:decide (((i+1:Nat):Int)<(d.length:Int))=true:=decide_eq_true (by omega);have f1:(decide (0≤((i+1:Nat):Int))&&decide (((i+1:Nat):Int)<(d.length:Int)))=true:=by simp;omega
    rw[f1,f0,fB (n:=d.getD i 0) (by omega) (by omega),fB (n:=d.getD (i+1) 0) (by omega) (by omega),p32,fB (n:=d.getD (i+1) 0*4294967296) (by omega) (by omega)];have hor:iF .u64 (d.getD i 0) (d.getD (i+1) 0*4294967296)=d.getD i 0+4294967296*d.getD (i+1) 0:=by
     have e:∀a b:Int,iF .u64 a b=iF .u64 b a:=fun a b=>by unfold iF;rw[BitVec.or_comm]
     rw[e,dP hy.1 hy.2 hx.1 hx.2];omega
    rw[hor,bE,uE];exact go _ rfl
   ·have f0:decide (((i+1:Nat):Int)<(d.length:Int))=false:=decide_eq_false (by omega);have zd:d.getD (i+1) 0=0:=wO (by omega);have:=go (d.getD i 0) (by rw[zd];simp);rw[f0,fB (n:=d.getD i 0) (by omega) (by omega)];simp only[cond_false];rw[bE,uE];exact this
  ·have e0:decide ((i:Int)<(d.length:Int))=false:=decide_eq_false (by omega);rw[e0,hJ.mpr (by omega)];exact⟨o,ho,hol,by simp[nv],rfl⟩
theorem mm {N:Nat}(hN:1000000001<N){d:W6}(hd:qD (4294967296:Int) d)(hdl:d.length≤1000000000){k:Nat}(hk:k≤31):Q19.f N d (k:Int)=some (enc (4294967296:Int) (nv (4294967296:Int) d/2^k)):=by
 unfold Q19.f;have et:((d.length:Nat):Int).toNat=d.length:=by omega
 rw[cY hdl,et];simp only[cond_true];obtain⟨r,r1,r2,r3,r4⟩:=sz N hd hdl k hk (fun y9=>(Q5.f N 0 y9.length y9).bind fun r10=>some ((r10.2.2.drop r10.1).take r10.2.1)) N 0 (zE d.length 0) (qD.replicate (by decide) _) (by simp) (by omega) (by omega) (fun j _=>dw _ j);have ez:((0:Nat):Int)=0:=rfl;rw[ez]at r4;rw[r4];obtain⟨c1,c2⟩:=zM hN r (by omega);rw[c1];simp only[pC,c2];rw[jK r1,r3,xG];simp
theorem fH {v:Int}(h:0≤v):sD v=0↔v=0:=by
 have h0:=uG h 0;have e0:(2:Int)^0=1:=rfl;rw[e0]at h0;have:=vC v;constructor
 ·intro hq;have:=h0.mp (by omega);omega
 ·intro hq;have:=h0.mpr (by omega);omega
theorem lP:(2:Int)^32=4294967296:=by decide
theorem cX {x y:Int}(x0:0≤x)(x1:x<(4294967296:Int))(y0:0≤y)(y1:y<(4294967296:Int)):0≤x*y∧x*y≤18446744065119617025:=by
 have h:=eg (show x≤4294967295 by omega) (show y≤4294967295 by omega) y0 (by decide);exact⟨hS x0 y0,by omega⟩
theorem ik {l:W6}{i k:Nat}(h:i<k)(x:Int):(l.set i x).drop k=l.drop k:=List.drop_set_of_lt h
theorem sj (N:Nat){R:Type}(off:Nat)(v:W6)(hv:qD (4294967296:Int) v)(hvl:v.length≤100000000)(d:Int)(d0:0≤d)(d1:d<(4294967296:Int))(K0:Int→W6→Option R):∀(n i:Nat) (c w:Int) (u:W6),qD (4294967296:Int) u→off+(v.length+1)≤u.length→u.length≤1000000000→i≤v.length+1→v.length+1-i<n→0≤c→c<(4294967296:Int)→0≤w→w≤1→(i=v.length+1→c=0)→
  ∃u' w',qD (4294967296:Int) u'∧u'.length=u.length∧0≤w'∧w'≤1∧nv (4294967296:Int) u'=nv (4294967296:Int) u- (4294967296:Int)^(off+i)*(c+w)- (4294967296:Int)^(off+i)*(d*nv (4294967296:Int) (v.drop i))+(4294967296:Int)^(off+(v.length+1))*w'∧u'.drop (off+(v.length+1))=u.drop (off+(v.length+1))∧
   Q20.l3 N n off (v.length+1) v d c w ((v.length+1:Nat):Int) (i:Int) u K0=K0 w' u':=by
 intro n;induction n with
 |zero=>intro i c w u _ _ _ _ h;omega
 |succ n ih=>
  intro i c w u hu hul hul2 hi hn c0 c1 w0 w1 hc;rw[Q20.l3];by_cases hil:i<v.length+1
  ·have e0:decide ((i:Int)<((v.length+1:Nat):Int))=true:=decide_eq_true (by omega);have e1:(decide (0≤(i:Int))&&decide ((i:Int)<((v.length+1:Nat):Int)))=true:=by simp;omega
   have e2:(i:Int).toNat=i:=by omega
   have e3:fA ((i:Int)+1)=((i+1:Nat):Int):=by rw[aB (by omega) (by omega)];omega
   have ha:=hu.get (by decide) (off+i);generalize hae:u.getD (off+i) 0=a at ha;have go:∀t dv:Int,0≤t→t≤18446744073709551615→t=c+d*dv→nv (4294967296:Int) (v.drop i)=dv+(4294967296:Int)*nv (4294967296:Int) (v.drop (i+1))→(i+1=v.length+1→t<(4294967296:Int))→
     ∀u1,u1=u.set (off+i) ((a-t%(4294967296:Int)-w)%(4294967296:Int))→
     ∃u' w',qD (4294967296:Int) u'∧u'.length=u.length∧0≤w'∧w'≤1∧nv (4294967296:Int) u'=nv (4294967296:Int) u- (4294967296:Int)^(off+i)*(c+w)- (4294967296:Int)^(off+i)*(d*nv (4294967296:Int) (v.drop i))+(4294967296:Int)^(off+(v.length+1))*w'∧u'.drop (off+(v.length+1))=u.drop (off+(v.length+1))∧
      Q20.l3 N n off (v.length+1) v d (t/(4294967296:Int)) (if a<t%(4294967296:Int)+w then 1 else 0) ((v.length+1:Nat):Int) ((i+1:Nat):Int) u1 K0=K0 w' u':=by
    intro t dv t0 t1 ht hdr hlast u1 hu1;subst hu1;obtain⟨u',w',g1,g2,g3,g4,g5,g6,g7⟩:=ih (i+1) (t/(4294967296:Int)) (if a<t%(4294967296:Int)+w then 1 else 0) (u.set (off+i) ((a-t%(4294967296:Int)-w)%(4294967296:Int))) (hu.set (off+i) (by omega) (by omega)) (by simp;omega) (by simpa using hul2) (by omega) (by omega) (by omega) (by omega) (by split<;>omega) (by split<;>omega) (fun h=>by have:=hlast h;omega);refine⟨u',w',g1,by simpa using g2,g3,g4,?_,by rw[g6,ik (by omega)],g7⟩;rw[g5,tL (4294967296:Int) _ u (off+i) (by omega),hae,hdr];have hx:(a-t%(4294967296:Int)-w)%(4294967296:Int)=a-t%(4294967296:Int)-w+(4294967296:Int)*(if a<t%(4294967296:Int)+w then 1 else 0):=by split<;>omega
    have htt:t=t%(4294967296:Int)+(4294967296:Int)*(t/(4294967296:Int)):=by omega
    rw[hx];generalize(if a<t%(4294967296:Int)+w then(1:Int)else 0)=z at*;have hp:(4294967296:Int)^(off+(i+1))=(4294967296:Int)^(off+i)*(4294967296:Int):=by rw[←Nat.add_assoc,p0]
    rw[hp];generalize(4294967296:Int)^(off+i)=P at*;generalize nv (4294967296:Int) (v.drop (i+1))=V1 at*;generalize(4294967296:Int)^(off+(v.length+1))*w'=Q at*;generalize t%(4294967296:Int)=lo at*;generalize t/(4294967296:Int)=hi' at*;have hcd:c=lo+(4294967296:Int)*hi'-d*dv:=by omega
    rw[hcd];grind
   rw[e1,e0,e2,e3];simp only[cond_true,hae];by_cases hiv:i<v.length
   ·have f0:decide ((i:Int)<(v.length:Int))=true:=decide_eq_true (by omega);have f1:(decide (0≤(i:Int))&&decide ((i:Int)<(v.length:Int)))=true:=by simp;omega
    have hvd:=hv.get (by decide) i;generalize hve:v.getD i 0=dv at hvd;obtain⟨m1,m2⟩:=cX hvd.1 hvd.2 d0 d1;have ew:dB (c+dB (dB dv*dB d))=c+dv*d:=by rw[fB hvd.1 (by omega),fB d0 (by omega),fB m1 (by omega),fB (by omega) (by omega)]
    rw[f1,f0];simp only[cond_true,hve,ew];rw[uE,bE,lP,pL N ha.1 ha.2 (by omega) (by omega) w0 w1];simp only[pC];exact go (c+dv*d) dv (by omega) (by omega) (by rw[r8 dv d]) (by rw[jG (4294967296:Int) v i hiv,hve]) (fun h=>by omega) _ rfl
   ·have f0:decide ((i:Int)<(v.length:Int))=false:=decide_eq_false (by omega);have hz:v.drop i=[]:=hJ.mpr (by omega);have hz2:v.drop (i+1)=[]:=hJ.mpr (by omega);rw[f0];simp only[cond_false];rw[uE,bE,lP,pL N ha.1 ha.2 (by omega) (by omega) w0 w1];simp only[pC];exact go c 0 c0 (by omega) (by omega) (by rw[hz,hz2];simp[nv]) (fun h=>c1) _ rfl
  ·have hie:i=v.length+1:=by omega
   have e0:decide ((i:Int)<((v.length+1:Nat):Int))=false:=decide_eq_false (by omega);have hz:v.drop i=[]:=hJ.mpr (by omega);have:=hc hie;subst this;rw[e0];refine⟨u,w,hu,rfl,w0,w1,?_,rfl,rfl⟩;rw[hz,hie];simp only[nv,ad,Int.sub_zero,gy];omega
theorem ly {N:Nat}(hN:1000000001<N){off:Nat}{v:W6}(hv:qD (4294967296:Int) v)(hvl:v.length≤100000000){d:Int}(d0:0≤d)(d1:d<(4294967296:Int)){u:W6}(hu:qD (4294967296:Int) u)(hul:off+(v.length+1)≤u.length)(hul2:u.length≤1000000000):
  ∃u' w',qD (4294967296:Int) u'∧u'.length=u.length∧0≤w'∧w'≤1∧nv (4294967296:Int) u'=nv (4294967296:Int) u- (4294967296:Int)^off*(d*nv (4294967296:Int) v)+(4294967296:Int)^(off+(v.length+1))*w'∧u'.drop (off+(v.length+1))=u.drop (off+(v.length+1))∧
   Q20.f N off (v.length+1) v d u=some (w' != 0,u'):=by
 obtain⟨u',w',g1,g2,g3,g4,g5,g6,g7⟩:=sj N off v hv hvl d d0 d1 (fun y19 y20=>some (y19 != 0,y20)) N 0 0 0 u hu hul hul2 (by omega) (by omega) (by omega) (by decide) (by omega) (by omega) (fun h=>rfl);refine⟨u',w',g1,g2,g3,g4,?_,g6,?_⟩
 ·rw[g5];simp
 ·unfold Q20.f;exact g7
theorem so (N:Nat){R:Type}(off:Nat)(v:W6)(hv:qD (4294967296:Int) v)(hvl:v.length≤100000000)(s j:Int)(out:W6)(K0:Int→Int→Int→W6→W6→W6→Option R):∀(n i:Nat) (c:Int) (u:W6),qD (4294967296:Int) u→off+(v.length+1)≤u.length→u.length≤1000000000→i≤v.length+1→v.length+1-i<n→0≤c→c≤1→
  ∃u' c',qD (4294967296:Int) u'∧u'.length=u.length∧0≤c'∧c'≤1∧nv (4294967296:Int) u'=nv (4294967296:Int) u+(4294967296:Int)^(off+i)*c+(4294967296:Int)^(off+i)*nv (4294967296:Int) (v.drop i)- (4294967296:Int)^(off+(v.length+1))*c'∧u'.drop (off+(v.length+1))=u.drop (off+(v.length+1))∧
   Q21.l21 N n (v.length:Int) s j off (v.length+1) c ((v.length+1:Nat):Int) (i:Int) v u out K0=K0 (v.length:Int) s j v u' out:=by
 intro n;induction n with
 |zero=>intro i c u _ _ _ _ h;omega
 |succ n ih=>
  intro i c u hu hul hul2 hi hn c0 c1;rw[Q21.l21];by_cases hil:i<v.length+1
  ·have e0:decide ((i:Int)<((v.length+1:Nat):Int))=true:=decide_eq_true (by omega);have e1:(decide (0≤(i:Int))&&decide ((i:Int)<((v.length+1:Nat):Int)))=true:=by simp;omega
   have e2:(i:Int).toNat=i:=by omega
   have e3:fA ((i:Int)+1)=((i+1:Nat):Int):=by rw[aB (by omega) (by omega)];omega
   have ha:=hu.get (by decide) (off+i);generalize hae:u.getD (off+i) 0=a at ha;have go:∀t dv:Int,0≤dv→dv<(4294967296:Int)→t=c+a+dv→nv (4294967296:Int) (v.drop i)=dv+(4294967296:Int)*nv (4294967296:Int) (v.drop (i+1))→
     ∀u1,u1=u.set (off+i) (t%(4294967296:Int))→
     ∃u' c',qD (4294967296:Int) u'∧u'.length=u.length∧0≤c'∧c'≤1∧nv (4294967296:Int) u'=nv (4294967296:Int) u+(4294967296:Int)^(off+i)*c+(4294967296:Int)^(off+i)*nv (4294967296:Int) (v.drop i)- (4294967296:Int)^(off+(v.length+1))*c'∧u'.drop (off+(v.length+1))=u.drop (off+(v.length+1))∧
      Q21.l21 N n (v.length:Int) s j off (v.length+1) (t/(4294967296:Int)) ((v.length+1:Nat):Int) ((i+1:Nat):Int) v u1 out K0=K0 (v.length:Int) s j v u' out:=by
    intro t dv dv0 dv1 ht hdr u1 hu1;subst hu1;obtain⟨u',c',g1,g2,g3,g4,g5,g6,g7⟩:=ih (i+1) (t/(4294967296:Int)) (u.set (off+i) (t%(4294967296:Int))) (hu.set (off+i) (by omega) (by omega)) (by simp;omega) (by simpa using hul2) (by omega) (by omega) (by omega) (by omega);refine⟨u',c',g1,by simpa using g2,g3,g4,?_,by rw[g6,ik (by omega)],g7⟩;rw[g5,tL (4294967296:Int) _ u (off+i) (by omega),hae,hdr];have htt:t=t%(4294967296:Int)+(4294967296:Int)*(t/(4294967296:Int)):=by omega
    have hp:(4294967296:Int)^(off+(i+1))=(4294967296:Int)^(off+i)*(4294967296:Int):=by rw[←Nat.add_assoc,p0]
    rw[hp];generalize(4294967296:Int)^(off+i)=P at*;generalize nv (4294967296:Int) (v.drop (i+1))=V1 at*;generalize(4294967296:Int)^(off+(v.length+1))*c'=Q at*;generalize t%(4294967296:Int)=lo at*;generalize t/(4294967296:Int)=hi' at*;have hlo:lo=c+a+dv- (4294967296:Int)*hi':=by omega
    rw[hlo];grind
   rw[e1,e0,e2,e3];simp only[cond_true,hae];by_cases hiv:i<v.length
   ·have f0:decide ((i:Int)<(v.length:Int))=true:=decide_eq_true (by omega);have f1:(decide (0≤(i:Int))&&decide ((i:Int)<(v.length:Int)))=true:=by simp;omega
    have hvd:=hv.get (by decide) i;generalize hve:v.getD i 0=dv at hvd;have ew:dB (dB (c+dB a)+dB dv)=c+a+dv:=by rw[fB hvd.1 (by omega),fB ha.1 (by omega),fB (n:=c+a) (by omega) (by omega),fB (by omega) (by omega)]
    rw[f1,f0];simp only[cond_true,hve,ew];rw[uE,bE,lP];exact go (c+a+dv) dv hvd.1 hvd.2 rfl (by rw[jG (4294967296:Int) v i hiv,hve]) _ rfl
   ·have f0:decide ((i:Int)<(v.length:Int))=false:=decide_eq_false (by omega);have hz:v.drop i=[]:=hJ.mpr (by omega);have hz2:v.drop (i+1)=[]:=hJ.mpr (by omega);have ew:dB (c+dB a)=c+a+0:=by
     rw[fB ha.1 (by omega),fB (by omega) (by omega)];omega
    rw[f0];simp only[cond_false,ew];rw[uE,bE,lP];exact go (c+a+0) 0 (by omega) (by decide) rfl (by rw[hz,hz2];simp[nv]) _ rfl
  ·have hie:i=v.length+1:=by omega
   have e0:decide ((i:Int)<((v.length+1:Nat):Int))=false:=decide_eq_false (by omega);have hz:v.drop i=[]:=hJ.mpr (by omega);rw[e0];refine⟨u,c,hu,rfl,c0,c1,?_,rfl,rfl⟩;rw[hz,hie];simp only[nv,ad,gx];omega
theorem nm (N:Nat){R:Type}(v u out:W6)(n j:Nat)(s X:Int)(hn2:2≤n)(hnl:n=v.length)(hl:u.length≤1000000000)(hvl:v.length≤100000000)(hju:j+n≤u.length)(hv:qD (4294967296:Int) v)(hu:qD (4294967296:Int) u)(vt vs u2:Int)(hvt:v.getD (n-1) 0=vt)(hvs:v.getD (n-2) 0=vs)(hu2:u.getD (j+n-2) 0=u2)(htop:2147483648≤vt)(hX:X≤vt*(4294967296:Int)+(4294967296:Int)-1)
  (K0:Int→Int→Int→Int→W6→W6→W6→Option R):∀(fuel:Nat) (d rest:Int),0≤d→d≤4294967297→0≤rest→rest<(4294967296:Int)→d*vt+rest=X→(4294967296:Int)-rest≤((fuel:Int)-1)*2147483648→(∀q,0≤q→q<(4294967296:Int)→q*(vt*(4294967296:Int)+vs)≤X*(4294967296:Int)+u2→q≤d)→
   ∃d',0≤d'∧d'<(4294967296:Int)∧d'*(vt*(4294967296:Int)+vs)≤X*(4294967296:Int)+u2∧(∀q,0≤q→q<(4294967296:Int)→q*(vt*(4294967296:Int)+vs)≤X*(4294967296:Int)+u2→q≤d')∧Q21.l11 N fuel (n:Int) s (j:Int) d rest v u out K0=K0 (n:Int) s (j:Int) d' v u out:=by
 have hvt':0≤vt∧vt<(4294967296:Int):=by rw[←hvt];exact hv.get (by decide) _
 have hvs':0≤vs∧vs<(4294967296:Int):=by rw[←hvs];exact hv.get (by decide) _
 have hu2':0≤u2∧u2<(4294967296:Int):=by rw[←hu2];exact hu.get (by decide) _
 have a1:fA ((n:Int)-1)=((n-1:Nat):Int):=by rw[aB (by omega) (by omega)];omega
 have a2:fA ((n:Int)-2)=((n-2:Nat):Int):=by rw[aB (by omega) (by omega)];omega
 have a3:fA (fA ((j:Int)+(n:Int))-2)=((j+n-2:Nat):Int):=by rw[aB (n:=(j:Int)+n) (by omega) (by omega),aB (by omega) (by omega)];omega
 have b1:(decide (0≤((n-1:Nat):Int))&&decide (((n-1:Nat):Int)<(v.length:Int)))=true:=by simp;omega
 have b2:(decide (0≤((n-2:Nat):Int))&&decide (((n-2:Nat):Int)<(v.length:Int)))=true:=by simp;omega
 have b3:(decide (0≤((j+n-2:Nat):Int))&&decide (((j+n-2:Nat):Int)<(u.length:Int)))=true:=by simp;omega
 have t1:((n-1:Nat):Int).toNat=n-1:=by omega
 have t2:((n-2:Nat):Int).toNat=n-2:=by omega
 have t3:((j+n-2:Nat):Int).toNat=j+n-2:=by omega
 intro fuel;induction fuel with
 |zero=>intro d rest d0 d1 r0 r1 hd hf;omega
 |succ fuel ih=>
  intro d rest d0 d1 r0 r1 hd hf hq;rw[Q21.l11];simp only[a1,a2,a3,b1,b2,b3,cond_true,t1,t2,t3,hvt,hvs,hu2];have ewv:dB vt=vt:=fB hvt'.1 (by omega);have ews:dB vs=vs:=fB hvs'.1 (by omega);have ewu:dB u2=u2:=fB hu2'.1 (by omega);have ewr:dB (rest+vt)=rest+vt:=fB (by omega) (by omega);have hdvB:d*vt*(4294967296:Int)+rest*(4294967296:Int)=X*(4294967296:Int):=by rw[←hd];grind
  have less:1≤d→(∀q,0≤q→q<(4294967296:Int)→q*(vt*(4294967296:Int)+vs)≤X*(4294967296:Int)+u2→q≤d-1)→
    ∃d',0≤d'∧d'<(4294967296:Int)∧d'*(vt*(4294967296:Int)+vs)≤X*(4294967296:Int)+u2∧(∀q,0≤q→q<(4294967296:Int)→q*(vt*(4294967296:Int)+vs)≤X*(4294967296:Int)+u2→q≤d')∧
     (bif (Int.fdiv (dB (rest+(dB vt))) (2^32)) != 0 then K0 (n:Int) s (j:Int) (dB (d-1)) v u out
      else Q21.l11 N fuel (n:Int) s (j:Int) (dB (d-1)) (dB (rest+(dB vt))) v u out K0)=K0 (n:Int) s (j:Int) d' v u out:=by
   intro hd1 hq1;rw[ewv,ewr,fB (n:=d-1) (by omega) (by omega),bE,lP];have hd':(d-1)*vt+(rest+vt)=X:=by rw[←hd];grind
   by_cases hr:rest+vt<(4294967296:Int)
   ·have:((rest+vt)/(4294967296:Int) != 0)=false:=by simp;omega
    rw[this];simp only[cond_false];exact ih (d-1) (rest+vt) (by omega) (by omega) (by omega) hr hd' (by omega) hq1
   ·have:((rest+vt)/(4294967296:Int) != 0)=true:=by simp;omega
    rw[this];simp only[cond_true];have hlt:d-1<(4294967296:Int):=by
     rcases pR (d-1) (4294967296:Int)with h|h
     ·exact h
     ·exfalso;have:=hI h hvt'.1;have e:(4294967296:Int)*vt=vt*(4294967296:Int):=r8 _ _;omega
    refine⟨d-1,by omega,hlt,?_,hq1,rfl⟩;obtain⟨m1,m2⟩:=cX (show 0≤d-1 by omega) hlt hvs'.1 hvs'.2;have e:(d-1)*(vt*(4294967296:Int)+vs)=(X- (rest+vt))*(4294967296:Int)+(d-1)*vs:=by rw[←hd'];grind
    have e2:(X- (rest+vt))*(4294967296:Int)=X*(4294967296:Int)- (rest+vt)*(4294967296:Int):=by grind
    omega
  by_cases hdB:(4294967296:Int)≤d
  ·have c1:((Int.fdiv d (2^32)) != 0)=true:=by rw[bE,lP];simp;omega
   rw[c1];simp only[cond_true];exact less (by omega) (fun q q0 q1 hh=>by omega)
  ·have c1:((Int.fdiv d (2^32)) != 0)=false:=by rw[bE,lP];simp;omega
   obtain⟨m1,m2⟩:=cX d0 (show d<(4294967296:Int) by omega) hvs'.1 hvs'.2;have er:iF .u64 (dB (rest*2^32)) (dB u2)=rest*(4294967296:Int)+u2:=by rw[lP,fB (n:=rest*4294967296) (by omega) (by omega),ewu,dP r0 r1 hu2'.1 hu2'.2]
   rw[c1,er,ews,fB m1 (by omega)];simp only[cond_false];have key:d*(vt*(4294967296:Int)+vs)=X*(4294967296:Int)-rest*(4294967296:Int)+d*vs:=by
    have:d*(vt*(4294967296:Int)+vs)=d*vt*(4294967296:Int)+d*vs:=by grind
    omega
   by_cases ht:d*vs>rest*(4294967296:Int)+u2
   ·rw[decide_eq_true ht];simp only[cond_true];refine less ?_ (fun q q0 q1 hh=>?_)
    ·rcases pR 0 d with h|h
     ·omega
     ·have:d=0:=by omega
      subst this;simp at ht;omega
    ·have h1:=hq q q0 q1 hh;rcases pR q d with h|h
     ·omega
     ·have:q=d:=by omega
      subst this;omega
   ·rw[decide_eq_false ht];simp only[cond_false];exact⟨d,d0,by omega,by omega,hq,rfl⟩
theorem pF (i:Nat):0<(4294967296:Int)^i:=c4 (by decide)
theorem Dr {u:W6}(hu:qD (4294967296:Int) u){p:Nat}(hp:p+3≤u.length)(hb:nv (4294967296:Int) u<(4294967296:Int)^(p+3)):
  nv (4294967296:Int) u=nv (4294967296:Int) (u.take p)+(4294967296:Int)^p*(u.getD p 0+(4294967296:Int)*(u.getD (p+1) 0+(4294967296:Int)*u.getD (p+2) 0))∧0≤nv (4294967296:Int) (u.take p)∧nv (4294967296:Int) (u.take p)<(4294967296:Int)^p:=by
 have h1:=qS (4294967296:Int) u p (by omega);have h2:=jG (4294967296:Int) u p (by omega);have h3:=jG (4294967296:Int) u (p+1) (by omega);have h4:=jG (4294967296:Int) u (p+1+1) (by omega);have ht:=jC (show(0:Int)<(4294967296:Int) by decide) (hu.take p);have hd:=jC (show(0:Int)<(4294967296:Int) by decide) (hu.drop (p+1+1+1));have hl:(u.take p).length=p:=by rw[o2];omega
 rw[hl]at ht;have g0:=hu.get (by decide) p;have g1:=hu.get (by decide) (p+1);have g2:=hu.get (by decide) (p+1+1);have hz:nv (4294967296:Int) (u.drop (p+1+1+1))=0:=by
  rcases pR 0 (nv (4294967296:Int) (u.drop (p+1+1+1)))with h|h
  ·exfalso;have hpp:=pF p;have e:nv (4294967296:Int) u=nv (4294967296:Int) (u.take p)+(4294967296:Int)^p*(u.getD p 0+(4294967296:Int)*(u.getD (p+1) 0+(4294967296:Int)*u.getD (p+1+1) 0))+(4294967296:Int)^(p+3)*nv (4294967296:Int) (u.drop (p+1+1+1)):=by
    rw[h1,h2,h3,h4,q5];have:(4294967296:Int)^3=(4294967296:Int)*(4294967296:Int)*(4294967296:Int):=by decide
    rw[this];grind
   have q1:=hS (aE hpp) (show 0≤u.getD p 0+(4294967296:Int)*(u.getD (p+1) 0+(4294967296:Int)*u.getD (p+1+1) 0) by omega);have q2:=hD (show 1≤nv (4294967296:Int) (u.drop (p+1+1+1)) by omega) (aE (pF (p+3)));omega
  ·omega
 refine⟨?_,ht.1,ht.2⟩;rw[h1,h2,h3,h4,hz];simp
theorem iy {U W P XX vt vs lo lo2 d:Int}(hP:0<P)(hU:U=XX*P+lo)(hW:W=(vt*(4294967296:Int)+vs)*P+lo2)(l0:0≤lo)(l1:lo<P)(m0:0≤lo2)(m1:lo2<P)(hvt:1≤vt)(hvs:0≤vs)(d0:0≤d)(d1:d<(4294967296:Int))(hd:d*(vt*(4294967296:Int)+vs)≤XX)
  (hq:∀q,0≤q→q<(4294967296:Int)→q*(vt*(4294967296:Int)+vs)≤XX→q≤d)(hU0:0≤U)(hUW:U<(4294967296:Int)*W):
  (d-1)*W≤U∧∃q,0≤q∧q<(4294967296:Int)∧q*W≤U∧U<(q+1)*W∧(d=q∨d=q+1):=by
 have hVV:(4294967296:Int)≤vt*(4294967296:Int)+vs:=by omega
 have hWP:(4294967296:Int)*P≤W:=by have:=hI hVV (aE hP);omega
 have hWpos:0<W:=by omega
 have h1:(d-1)*W≤U:=by
  have e1:d*W=d*(vt*(4294967296:Int)+vs)*P+d*lo2:=by rw[hW];grind
  have e2:=hI hd (aE hP);have e3:=eg (show d≤(4294967296:Int) by omega) (aE m1) m0 (by decide);have e4:(d-1)*W=d*W-W:=by grind
  omega
 refine⟨h1,U/W,p3 hU0 (aE hWpos),?_,?_,?_,?_⟩
 ·exact pg hWpos hUW
 ·exact Int.ediv_mul_le U (by omega)
 ·exact ed U hWpos
 ·have q0:0≤U/W:=p3 hU0 (aE hWpos);have q1:U/W<(4294967296:Int):=pg hWpos hUW;have q2:=Int.ediv_mul_le U (b:=W) (by omega);have q3:=ed U hWpos;generalize U/W=q at*;have up:q≤d:=by
   refine hq q q0 q1 ?_;have f1:q*W=q*(vt*(4294967296:Int)+vs)*P+q*lo2:=by rw[hW];grind
   have f2:=hS q0 m0;rcases pR XX (q*(vt*(4294967296:Int)+vs))with h|h
   ·exfalso;have:=hI (show XX+1≤q*(vt*(4294967296:Int)+vs) by omega) (aE hP);have f3:(XX+1)*P=XX*P+P:=by grind
    omega
   ·exact h
  have lw:d≤q+1:=by
   rcases pR (q+1) d with h|h
   ·exfalso;have:=hI (show q+1≤d-1 by omega) (aE hWpos);omega
   ·exact h
  omega
theorem Fe {u z:W6}{k:Nat}(hu:qD (4294967296:Int) u)(hub:nv (4294967296:Int) u<(4294967296:Int)^k)(hk:k≤u.length)(hz:qD (4294967296:Int) z)(hzl:z.length=u.length)(hzd:z.drop k=u.drop k):0≤nv (4294967296:Int) z∧nv (4294967296:Int) z<(4294967296:Int)^k:=by
 have hzb:=jC (show(0:Int)<(4294967296:Int) by decide) hz;have s1:=qS (4294967296:Int) z k (by omega);have s2:=qS (4294967296:Int) u k (by omega);have ht:=jC (show(0:Int)<(4294967296:Int) by decide) (hz.take k);have htu:=jC (show(0:Int)<(4294967296:Int) by decide) (hu.take k);have hl1:(z.take k).length=k:=by rw[o2];omega
 rw[hl1]at ht;rw[hzd]at s1;have hdb:=jC (show(0:Int)<(4294967296:Int) by decide) (hu.drop k);have hzero:nv (4294967296:Int) (u.drop k)=0:=by
  rcases pR 0 (nv (4294967296:Int) (u.drop k))with h|h
  ·exfalso;have:=hD (show 1≤nv (4294967296:Int) (u.drop k) by omega) (aE (pF k));omega
  ·omega
 rw[hzero]at s1;omega
theorem Bm {N:Nat}(hN:1000000001<N){R:Type}(v:W6)(hv:qD (4294967296:Int) v)(hvl:v.length≤10000000)(s:Int)(K0:Int→W6→W6→Option R)(f j:Nat)(u out:W6)(hu:qD (4294967296:Int) u)(hl:u.length=out.length+v.length)(hul:u.length≤100000000)(hj:j<out.length)
  (hUb:nv (4294967296:Int) u<(4294967296:Int)^(j+(v.length+1)))(d q:Int)(d0:0≤d)(d1:d<(4294967296:Int))(q0:0≤q)(q1:q<(4294967296:Int))(q2:q*((4294967296:Int)^j*nv (4294967296:Int) v)≤nv (4294967296:Int) u)(q3:nv (4294967296:Int) u<(q+1)*((4294967296:Int)^j*nv (4294967296:Int) v))(q4:d=q∨d=q+1):
  ∃z,qD (4294967296:Int) z∧z.length=u.length∧nv (4294967296:Int) z=nv (4294967296:Int) u-q*((4294967296:Int)^j*nv (4294967296:Int) v)∧
   (bif (((decide (0≤(j:Int)))&&(decide ((j:Int)≤(fA ((fA ((j:Int)+(v.length:Int)))+1)))))&&(decide ((fA ((fA ((j:Int)+(v.length:Int)))+1))≤(fA ((fA ((j:Int)+(v.length:Int)))+1)))))&&(decide ((fA ((fA ((j:Int)+(v.length:Int)))+1))≤(u.length:Int)))then
     (Q20.f N (j:Int).toNat (((fA ((fA ((j:Int)+(v.length:Int)))+1)).toNat)- (j:Int).toNat) v (oE d) u).bind fun r34=>
     bif !r34.1 then
      bif (decide (0≤(j:Int)))&&(decide ((j:Int)<(out.length:Int)))then
       Q21.l7 N f (v.length:Int) s (fA ((j:Int)-1)) v r34.2 (out.set (j:Int).toNat (oE d)) K0
      else none
     else
     bif (decide (0≤(j:Int)))&&(decide ((j:Int)<(out.length:Int)))then
      Q21.l21 N N (v.length:Int) s (j:Int) (j:Int).toNat (((fA ((fA ((j:Int)+(v.length:Int)))+1)).toNat)- (j:Int).toNat) 0 ((((fA ((fA ((j:Int)+(v.length:Int)))+1)).toNat)- (j:Int).toNat:Nat):Int) 0 v r34.2 (out.set (j:Int).toNat (oE ((oE d)-1)))
       (fun y52 y53 y54 y55 y56 y57=>
        Q21.l7 N f y52 y53 (fA (y54-1)) y55 y56 y57 K0)
     else none
    else none)=Q21.l7 N f (v.length:Int) s ((j:Int)-1) v z (out.set j q) K0:=by
 have w5:fA ((j:Int)+(v.length:Int))=((j+v.length:Nat):Int):=by rw[aB (by omega) (by omega)];omega
 have w6:fA (((j+v.length:Nat):Int)+1)=((j+(v.length+1):Nat):Int):=by rw[aB (by omega) (by omega)];omega
 have w7:fA ((j:Int)-1)=(j:Int)-1:=aB (by omega) (by omega);have t4:(j:Int).toNat=j:=by omega
 have t5:((j+(v.length+1):Nat):Int).toNat-j=v.length+1:=by omega
 simp only[w5,w6,t4,t5,w7];have b5:(decide (0≤(j:Int))&&decide ((j:Int)≤((j+(v.length+1):Nat):Int))&&decide (((j+(v.length+1):Nat):Int)≤((j+(v.length+1):Nat):Int))&&decide (((j+(v.length+1):Nat):Int)≤(u.length:Int)))=true:=by simp;omega
 have b6:(decide (0≤(j:Int))&&decide ((j:Int)<(out.length:Int)))=true:=by simp;omega
 rw[b5,b6,sN d0 d1];simp only[cond_true];obtain⟨u',w',a1,a2,a3,a4,a5,a6,a7⟩:=ly hN hv (by omega) d0 d1 hu (off:=j) (by omega) (by omega);rw[a7];simp only[pC];obtain⟨n0,n1⟩:=Fe hu hUb (by omega) a1 a2 a6;have hdW:(4294967296:Int)^j*(d*nv (4294967296:Int) v)=d*((4294967296:Int)^j*nv (4294967296:Int) v):=by grind
 rw[hdW]at a5;generalize hWW:(4294967296:Int)^j*nv (4294967296:Int) v=W at*;rcases q4 with hdq'|hdq'
 ·subst hdq';have hw0:w'=0:=by
   rcases pR 0 w' with h|h
   ·have:w'=1:=by omega
    subst this;omega
   ·omega
  subst hw0;simp only[bne_self_eq_false,pb,cond_true];exact⟨u',a1,a2,by omega,rfl⟩
 ·subst hdq';have hq1:(q+1)*W=q*W+W:=by grind
  have hw1:w'=1:=by
   rcases pR 0 w' with h|h
   ·omega
   ·have:w'=0:=by omega
    subst this;omega
  subst hw1;have c1:(!((1:Int) != 0))=false:=by decide
  rw[c1];simp only[cond_false];rw[sN (n:=q+1-1) (by omega) (by omega)];have e1:q+1-1=q:=by omega
  rw[e1];obtain⟨u'',c',k1,k2,k3,k4,k5,k6,k7⟩:=so N j v hv (by omega) s (j:Int) (out.set j q) (fun y52 y53 y54 y55 y56 y57=>Q21.l7 N f y52 y53 (fA (y54-1)) y55 y56 y57 K0) N 0 0 u' a1 (by omega) (by omega) (by omega) (by omega) (by omega) (by omega);have hz0:((0:Nat):Int)=0:=rfl;rw[hz0]at k7;rw[k7];simp only[w7];obtain⟨n2,n3⟩:=Fe hu hUb (by omega) k1 (by omega) (by rw[k6,a6]);simp only[Nat.add_zero,ek,ad,gx,hWW]at k5;have hc1:c'=1:=by
   rcases pR 0 c' with h|h
   ·omega
   ·have:c'=0:=by omega
    subst this;omega
  subst hc1;exact⟨u'',k1,by omega,by omega,rfl⟩
theorem ui {N:Nat}(hN:1000000001<N){R:Type}(v:W6)(hv:qD (4294967296:Int) v)(n:Nat)(hn:v.length=n+2)(hvl:v.length≤10000000)(htop':2147483648≤v.getD (n+1) 0)(s:Int)(K0:Int→W6→W6→Option R)(f j:Nat)(u out:W6)(hu:qD (4294967296:Int) u)(hl:u.length=out.length+v.length)(hul:u.length≤100000000)(hj:j<out.length)
  (hUW:nv (4294967296:Int) u<(4294967296:Int)*((4294967296:Int)^j*nv (4294967296:Int) v)):
  ∃q z,0≤q∧q<(4294967296:Int)∧nv (4294967296:Int) u<(q+1)*((4294967296:Int)^j*nv (4294967296:Int) v)∧qD (4294967296:Int) z∧z.length=u.length∧nv (4294967296:Int) z=nv (4294967296:Int) u-q*((4294967296:Int)^j*nv (4294967296:Int) v)∧Q21.l7 N (f+1) (v.length:Int) s (j:Int) v u out K0=Q21.l7 N f (v.length:Int) s ((j:Int)-1) v z (out.set j q) K0:=by
 have hvb:=jC (show(0:Int)<(4294967296:Int) by decide) hv;have hub:=jC (show(0:Int)<(4294967296:Int) by decide) hu;have hPj:=pF j;have hUb:nv (4294967296:Int) u<(4294967296:Int)^(j+n+3):=by
  have:=hD (aE hvb.2) (aE (pF (j+1)));rw[←q5,hn]at this;have e:j+1+(n+2)=j+n+3:=by omega
  have e2:(4294967296:Int)*((4294967296:Int)^j*nv (4294967296:Int) v)=(4294967296:Int)^(j+1)*nv (4294967296:Int) v:=by rw[p0];grind
  rw[e]at this;omega
 obtain⟨U1,U2,U3⟩:=Dr hu (p:=j+n) (by omega) hUb;have hvs1:=qS (4294967296:Int) v n (by omega);have hvs2:=jG (4294967296:Int) v n (by omega);have hvs3:=jG (4294967296:Int) v (n+1) (by omega);have hvs4:v.drop (n+1+1)=[]:=hJ.mpr (by omega);rw[hvs4]at hvs3;have hlo2:=jC (show(0:Int)<(4294967296:Int) by decide) (hv.take n);have hlen2:(v.take n).length=n:=by rw[o2];omega
 rw[hlen2]at hlo2;have gt:=hv.get (by decide) (n+1);have gs:=hv.get (by decide) n;have g0:=hu.get (by decide) (j+n+2);have g1:=hu.get (by decide) (j+n+1);have g2:=hu.get (by decide) (j+n);generalize hvt:v.getD (n+1) 0=vt at*;generalize hvs:v.getD n 0=vs at*;generalize hu0:u.getD (j+n+2) 0=u0 at*;generalize hu1:u.getD (j+n+1) 0=u1 at*;generalize hu2:u.getD (j+n) 0=u2 at*;have hW:(4294967296:Int)^j*nv (4294967296:Int) v=(vt*(4294967296:Int)+vs)*(4294967296:Int)^(j+n)+(4294967296:Int)^j*nv (4294967296:Int) (v.take n):=by rw[hvs1,hvs2,hvs3,q5];simp only[nv];grind
 have hU:nv (4294967296:Int) u=((u0*(4294967296:Int)+u1)*(4294967296:Int)+u2)*(4294967296:Int)^(j+n)+nv (4294967296:Int) (u.take (j+n)):=by rw[U1];grind
 have hlow:0≤(4294967296:Int)^j*nv (4294967296:Int) (v.take n)∧(4294967296:Int)^j*nv (4294967296:Int) (v.take n)<(4294967296:Int)^(j+n):=by refine⟨hS (aE hPj) hlo2.1,?_⟩;have:=p7 hlo2.2 hPj;rw[←q5]at this;exact this
 have hXle:u0*(4294967296:Int)+u1≤vt*(4294967296:Int)+(4294967296:Int)-1:=by
  rcases pR (vt*(4294967296:Int)+(4294967296:Int)-1) (u0*(4294967296:Int)+u1)with h|h
  ·exfalso;have hpp:=pF (j+n);have q1:=hI (show(vt*(4294967296:Int)+(4294967296:Int))*(4294967296:Int)≤(u0*(4294967296:Int)+u1)*(4294967296:Int)+u2 by omega) (aE hpp);have q2:=hI (show vt*(4294967296:Int)+vs+1≤vt*(4294967296:Int)+(4294967296:Int) by omega) (aE hpp);have e1:(vt*(4294967296:Int)+(4294967296:Int))*(4294967296:Int)*(4294967296:Int)^(j+n)=(4294967296:Int)*((vt*(4294967296:Int)+(4294967296:Int))*(4294967296:Int)^(j+n)):=by grind
   have e2:(vt*(4294967296:Int)+vs+1)*(4294967296:Int)^(j+n)=(vt*(4294967296:Int)+vs)*(4294967296:Int)^(j+n)+(4294967296:Int)^(j+n):=by grind
   omega
  ·exact h
 have hX0:0≤u0*(4294967296:Int)+u1:=by omega
 have hdm:=j3 (u0*(4294967296:Int)+u1) vt;have hm0:=hQ (u0*(4294967296:Int)+u1) (b:=vt) (by omega);have hm1:=hL (u0*(4294967296:Int)+u1) (b:=vt) (by omega);have hd0:0≤(u0*(4294967296:Int)+u1)/vt:=p3 hX0 (by omega);have hd1:(u0*(4294967296:Int)+u1)/vt≤4294967297:=by
  rcases pR 4294967297 ((u0*(4294967296:Int)+u1)/vt)with h|h
  ·exfalso;have:=hD (show 4294967298≤(u0*(4294967296:Int)+u1)/vt by omega) (show 0≤vt by omega);omega
  ·exact h
 have hX:dB (u0*(4294967296:Int)+u1)=u0*(4294967296:Int)+u1:=fB hX0 (by omega);have hguess0:∀q,0≤q→q<(4294967296:Int)→q*(vt*(4294967296:Int)+vs)≤(u0*(4294967296:Int)+u1)*(4294967296:Int)+u2→q≤(u0*(4294967296:Int)+u1)/vt:=by
  intro q q0 q1 hq;have f1:q*(vt*(4294967296:Int)+vs)=q*vt*(4294967296:Int)+q*vs:=by grind
  have f2:=hS q0 gs.1;have f3:q*vt≤u0*(4294967296:Int)+u1:=by
   rcases pR (u0*(4294967296:Int)+u1) (q*vt)with h|h
   ·omega
   ·exact h
  exact(nk (by omega)).mpr f3
 have hdm':(u0*(4294967296:Int)+u1)/vt*vt+(u0*(4294967296:Int)+u1)%vt=u0*(4294967296:Int)+u1:=by rw[r8];exact hdm
 have w2:fA ((v.length:Int)-1)=((n+1:Nat):Int):=by rw[aB (by omega) (by omega)];omega
 have w3:fA (((j+n+2:Nat):Int)-1)=((j+n+1:Nat):Int):=by rw[aB (by omega) (by omega)];omega
 have w5:fA ((j:Int)+(v.length:Int))=((j+n+2:Nat):Int):=by rw[aB (by omega) (by omega)];omega
 have t1:((j+n+2:Nat):Int).toNat=j+n+2:=by omega
 have t2:((j+n+1:Nat):Int).toNat=j+n+1:=by omega
 have t3:((n+1:Nat):Int).toNat=n+1:=by omega
 have b0:decide ((j:Int)≥0)=true:=decide_eq_true (by omega);have b1:(decide (0≤((j+n+2:Nat):Int))&&decide (((j+n+2:Nat):Int)<(u.length:Int)))=true:=by simp;omega
 have b2:(decide (0≤((j+n+1:Nat):Int))&&decide (((j+n+1:Nat):Int)<(u.length:Int)))=true:=by simp;omega
 have b3:(decide (0≤((n+1:Nat):Int))&&decide (((n+1:Nat):Int)<(v.length:Int)))=true:=by simp;omega
 have evt:dB vt=vt:=fB (by omega) (by omega);have b4:(vt==0)=false:=by simp;omega
 have er:iF .u64 (dB (dB u0*2^32)) (dB u1)=u0*(4294967296:Int)+u1:=by rw[fB g0.1 (by omega),fB g1.1 (by omega),lP,fB (n:=u0*4294967296) (by omega) (by omega),dP g0.1 g0.2 g1.1 g1.2]
 rw[Q21.l7];simp only[b0,w5,w3,w2,b1,b2,b3,cond_true,t1,t2,t3,hvt,hu0,hu1,evt,b4,pb,er,fc hX0,fe hX0];rw[fB hd0 (by omega)];obtain⟨d,d0,d1,hdle,hdq,hgo⟩:=nm N v u out (n+2) j s (u0*(4294967296:Int)+u1) (by omega) hn.symm (by omega) (by omega) (by omega) hv hu vt vs u2 hvt hvs hu2 htop' hXle
  (fun y27 y28 y29 y30 y31 y32 y33=>
   bif (((decide (0≤y29))&&(decide (y29≤(fA ((fA (y29+y27))+1)))))&&(decide ((fA ((fA (y29+y27))+1))≤(fA ((fA (y29+y27))+1)))))&&(decide ((fA ((fA (y29+y27))+1))≤(y32.length:Int)))then
    (Q20.f N y29.toNat (((fA ((fA (y29+y27))+1)).toNat)-y29.toNat) y31 (oE y30) y32).bind fun r34=>
    bif !r34.1 then
     bif (decide (0≤y29))&&(decide (y29<(y33.length:Int)))then
      Q21.l7 N f y27 y28 (fA (y29-1)) y31 r34.2 (y33.set y29.toNat (oE y30)) K0
     else none
    else
    bif (decide (0≤y29))&&(decide (y29<(y33.length:Int)))then
     Q21.l21 N N y27 y28 y29 y29.toNat (((fA ((fA (y29+y27))+1)).toNat)-y29.toNat) 0 ((((fA ((fA (y29+y27))+1)).toNat)-y29.toNat:Nat):Int) 0 y31 r34.2 (y33.set y29.toNat (oE ((oE y30)-1)))
      (fun y52 y53 y54 y55 y56 y57=>
       Q21.l7 N f y52 y53 (fA (y54-1)) y55 y56 y57 K0)
    else none
   else none) N ((u0*(4294967296:Int)+u1)/vt) ((u0*(4294967296:Int)+u1)%vt) hd0 hd1 hm0 (by omega) hdm' (by omega) hguess0
 have hn':(v.length:Int)=((n+2:Nat):Int):=by omega
 have hgo':=hgo;rw[←hn']at hgo';rw[hgo'];obtain⟨_,q,q0,q1,q2,q3,q4⟩:=iy (pF (j+n)) hU hW U2 U3 hlow.1 hlow.2 (by omega) gs.1 d0 d1 hdle hdq hub.1 hUW;have hUb':nv (4294967296:Int) u<(4294967296:Int)^(j+(v.length+1)):=by
  have e:j+(v.length+1)=j+n+3:=by omega
  rw[e];exact hUb
 obtain⟨z,z1,z2,z3,z4⟩:=Bm hN v hv hvl s K0 f j u out hu hl hul hj hUb' d q d0 d1 q0 q1 q2 q3 q4;exact⟨q,z,q0,q1,q3,z1,z2,z3,z4⟩
theorem uh {N:Nat}(hN:1000000001<N){R:Type}(v:W6)(hv:qD (4294967296:Int) v)(h2:2≤v.length)(hvl:v.length≤10000000)(htop:2147483648≤v.getD (v.length-1) 0)(s:Int)(K0:Int→W6→W6→Option R):
  ∀(m fuel:Nat) (u out:W6),qD (4294967296:Int) u→qD (4294967296:Int) out→u.length=out.length+v.length→u.length≤100000000→m≤out.length→m<fuel→nv (4294967296:Int) u<(4294967296:Int)^m*nv (4294967296:Int) v→(∀k,k<m→out.getD k 0=0)→
   ∃u' out',qD (4294967296:Int) u'∧qD (4294967296:Int) out'∧u'.length=u.length∧out'.length=out.length∧nv (4294967296:Int) out'*nv (4294967296:Int) v+nv (4294967296:Int) u'=nv (4294967296:Int) out*nv (4294967296:Int) v+nv (4294967296:Int) u∧nv (4294967296:Int) u'<nv (4294967296:Int) v∧Q21.l7 N fuel (v.length:Int) s ((m:Int)-1) v u out K0=K0 s u' out':=by
 intro m;induction m with
 |zero=>
  intro fuel u out hu ho hl hul hm hf hlt hz;obtain⟨f,rfl⟩:∃f,fuel=f+1:=⟨fuel-1,by omega⟩
  refine⟨u,out,hu,ho,rfl,rfl,rfl,by simpa using hlt,?_⟩;rw[Q21.l7];have:decide (((0:Nat):Int)-1≥0)=false:=by decide
  rw[this];rfl
 |succ j ih=>
  intro fuel u out hu ho hl hul hm hf hlt hz;obtain⟨f,rfl⟩:∃f,fuel=f+1:=⟨fuel-1,by omega⟩
  obtain⟨n,hn⟩:∃n,v.length=n+2:=⟨v.length-2,by omega⟩
  have hUW:nv (4294967296:Int) u<(4294967296:Int)*((4294967296:Int)^j*nv (4294967296:Int) v):=by
   have e:(4294967296:Int)^(j+1)*nv (4294967296:Int) v=(4294967296:Int)*((4294967296:Int)^j*nv (4294967296:Int) v):=by rw[p0];grind
   omega
  obtain⟨q,z,q0,q1,q3,z1,z2,z3,z4⟩:=ui hN v hv n hn hvl (by rw[hn]at htop;exact htop) s K0 f j u out hu hl hul (by omega) hUW;have o3:nv (4294967296:Int) (out.set j q)=nv (4294967296:Int) out+(4294967296:Int)^j*q:=by rw[tL (4294967296:Int) q out j (by omega),hz j (by omega)];simp
  have o4:∀k,k<j→(out.set j q).getD k 0=0:=fun k hk=>by rw[hF,List.getElem?_set_ne (by omega),←hF];exact hz k (by omega)
  have ol:(out.set j q).length=out.length:=by simp
  obtain⟨u'',out'',r1,r2,r3,r4,r5,r6,r7⟩:=ih f z (out.set j q) z1 (ho.set j q0 q1) (by omega) (by omega) (by omega) (by omega) (by
   have:(q+1)*((4294967296:Int)^j*nv (4294967296:Int) v)=q*((4294967296:Int)^j*nv (4294967296:Int) v)+(4294967296:Int)^j*nv (4294967296:Int) v:=by grind
   omega) o4
  have w4:((j+1:Nat):Int)-1=(j:Int):=by omega
  refine⟨u'',out'',r1,r2,by omega,by omega,?_,r6,by rw[w4,z4,r7]⟩;rw[r5,o3,z3];grind
theorem ai {l:W6}(h:qD (4294967296:Int) l){n:Nat}(hn:l.length=n+1):nv (4294967296:Int) l=nv (4294967296:Int) (l.take n)+(4294967296:Int)^n*l.getD n 0∧0≤nv (4294967296:Int) (l.take n)∧nv (4294967296:Int) (l.take n)<(4294967296:Int)^n:=by
 have h1:=cF (4294967296:Int) l n (by omega);have h2:l.take (n+1)=l:=k8 (by omega);rw[h2]at h1;have h3:=jC (show(0:Int)<(4294967296:Int) by decide) (h.take n);have h4:(l.take n).length=n:=by rw[o2];omega
 rw[h4]at h3;exact⟨h1,h3.1,h3.2⟩
theorem J8 {x:Int}(h0:0<x)(h1:x<(4294967296:Int)):∃k:Nat,k≤31∧fA (32-sD x)=(k:Int)∧2147483648≤2^k*x∧2^k*(x+1)≤(4294967296:Int):=by
 have b0:=vC x;have b1:sD x≤(32:Nat):=(uG (aE h0) 32).mpr (by rw[show(2:Int)^32=(4294967296:Int)from lP];exact h1);have b2:¬sD x≤(0:Nat):=fun h=>by have:=(uG (aE h0) 0).mp h;simp at this;omega
 obtain⟨m,hm⟩:∃m:Nat,sD x=(m:Int)+1:=⟨(sD x).toNat-1,by omega⟩
 have hm31:m≤31:=by omega
 have u1:x<2^(m+1):=(uG (aE h0) (m+1)).mp (by omega);have u2:¬x<2^m:=fun h=>by have:=(uG (aE h0) m).mpr h;omega
 refine⟨31-m,by omega,by rw[aB (by omega) (by omega)];omega,?_,?_⟩
 ·have:=hD (show(2:Int)^m≤x by omega) (aE (eP (31-m)));rw[←q5]at this;have e:31-m+m=31:=by omega
  rw[e]at this;have e2:(2:Int)^31=2147483648:=by decide
  omega
 ·have:=hD (show x+1≤(2:Int)^(m+1) by omega) (aE (eP (31-m)));rw[←q5]at this;have e:31-m+(m+1)=32:=by omega
  rw[e,lP]at this;exact this
theorem nt {N:Nat}(hN:1000000001<N){a b:W6}(ha:gQ (4294967296:Int) a)(hb:gQ (4294967296:Int) b)(h2:2≤b.length)(hle:b.length≤a.length)(hs:a.length≤1000000):
  Q21.f N a b=some (enc (4294967296:Int) (nv (4294967296:Int) a/nv (4294967296:Int) b),enc (4294967296:Int) (nv (4294967296:Int) a%nv (4294967296:Int) b)):=by
 obtain⟨n,hn⟩:∃n,b.length=n+1:=⟨b.length-1,by omega⟩
 have hbne:b≠ []:=fun h=>by rw[h]at h2;simp at h2
 have htop:=hb.top hbne;have hbl:=hb.lower (by decide) hbne;have w1:fA ((b.length:Int)-1)=(n:Int):=by rw[aB (by omega) (by omega)];omega
 have t1:(n:Int).toNat=n:=by omega
 have b1:(decide (0≤(n:Int))&&decide ((n:Int)<(b.length:Int)))=true:=by simp;omega
 have e1:b.length-1=n:=by omega
 rw[e1]at htop hbl;have gt:=hb.dig.get (by decide) n;obtain⟨s1,s2,s3⟩:=ai hb.dig hn;generalize htp:b.getD n 0=tp at*;obtain⟨k,k0,k1,k2,k3⟩:=J8 (x:=tp) (by omega) gt.2;have hp2:=eP k;have hPn:=pF n;have fitb:2^k*nv (4294967296:Int) b<(4294967296:Int)^b.length:=by
  have q1:2^k*nv (4294967296:Int) b<2^k*((4294967296:Int)^n*(tp+1)):=p7 (by rw[s1];grind) hp2;have q2:=hD k3 (aE hPn);have e:2^k*((4294967296:Int)^n*(tp+1))=(4294967296:Int)^n*(2^k*(tp+1)):=by grind
  rw[hn,p0];omega
 have hab:=jC (show(0:Int)<(4294967296:Int) by decide) ha.dig;have hbb:=jC (show(0:Int)<(4294967296:Int) by decide) hb.dig;have fita:2^k*nv (4294967296:Int) a<(4294967296:Int)^(a.length+1):=by have q1:=p7 hab.2 hp2;have q2:=hI (show(2:Int)^k≤(4294967296:Int) by have:=qz k0;omega) (aE (pF a.length));rw[p0];have e:(4294967296:Int)^a.length*(4294967296:Int)=(4294967296:Int)*(4294967296:Int)^a.length:=r8 _ _;omega
 obtain⟨v,v1,v2,v3,v4⟩:=kt hN hb.dig k0 (m:=b.length) (by omega) (hE _) fitb;obtain⟨u,u1,u2,u3,u4⟩:=kt hN ha.dig k0 (m:=a.length+1) (by omega) (by omega) fita;have w2:fA ((a.length:Int)+1)=((a.length+1:Nat):Int):=by rw[aB (by omega) (by omega)];omega
 obtain⟨m,hm⟩:∃m,a.length+1=b.length+m:=⟨a.length+1-b.length,by omega⟩
 have w3:fA ((u.length:Int)- (b.length:Int))=(m:Int):=by rw[aB (by omega) (by omega)];omega
 have w4:fA ((m:Int)-1)=(m:Int)-1:=aB (by omega) (by omega);have t2:(m:Int).toNat=m:=by omega
 unfold Q21.f Q4.f;rw[w1,b1,t1,htp,rU N gt.1 gt.2];simp only[cond_true,pC];rw[k1,v4,w2,u4];simp only[pC];rw[w3,ji (by omega),t2,w4];simp only[cond_true];have hvt:2147483648≤v.getD (v.length-1) 0:=by
  obtain⟨x1,x2,x3⟩:=ai v1 (n:=n) (by omega);have e2:v.length-1=n:=by omega
  rw[e2];rcases pR (v.getD n 0) 2147483648 with h|h
  ·exfalso;have q1:=hD (show v.getD n 0+1≤2147483648 by omega) (aE hPn);have q2:=hD k2 (aE hPn);have q3:=hS (aE hp2) s2;have e3:2^k*nv (4294967296:Int) b=2^k*nv (4294967296:Int) (b.take n)+(4294967296:Int)^n*(2^k*tp):=by rw[s1];grind
   have e4:(4294967296:Int)^n*(v.getD n 0+1)=(4294967296:Int)^n*v.getD n 0+(4294967296:Int)^n:=by grind
   omega
  ·exact h
 have hVpos:0<nv (4294967296:Int) b:=by have:=pF n;omega
 have hlt:nv (4294967296:Int) u<(4294967296:Int)^m*nv (4294967296:Int) v:=by
  rw[u3,v3];have q1:=hD hbl (aE (pF m));rw[←q5]at q1;have e5:m+n=a.length:=by omega
  rw[e5]at q1;have q2:=p7 (show nv (4294967296:Int) a<(4294967296:Int)^m*nv (4294967296:Int) b by omega) hp2;have e6:(4294967296:Int)^m*(2^k*nv (4294967296:Int) b)=2^k*((4294967296:Int)^m*nv (4294967296:Int) b):=by grind
  omega
 obtain⟨u',out',r1,r2,r3,r4,r5,r6,r7⟩:=uh hN v v1 (by omega) (by omega) hvt (k:Int) (fun y61 y62 y63=>
     (Q5.f N 0 y63.length y63).bind fun r64=>
     (Q19.f N y62 y61).bind fun r65=>
     some ((r64.2.2.drop r64.1).take r64.2.1,r65)) m N u (zE m 0) u1 (qD.replicate (by decide) m) (by simp;omega) (by omega) (by simp) (by omega) hlt (fun k _=>dw m k)
 rw[v2]at r7;rw[r7];have hol:out'.length=m:=by rw[r4];simp
 obtain⟨c1,c2⟩:=zM hN out' (by omega);rw[c1];simp only[pC,c2];rw[mm hN r1 (by omega) k0,jK r2];simp only[pC];rw[xG,Int.zero_mul,gy,u3,v3]at r5;rw[v3]at r6;have hub:=jC (show(0:Int)<(4294967296:Int) by decide) r1;have hdvd:nv (4294967296:Int) u'=2^k*(nv (4294967296:Int) a-nv (4294967296:Int) out'*nv (4294967296:Int) b):=by
  have:nv (4294967296:Int) out'*(2^k*nv (4294967296:Int) b)=2^k*(nv (4294967296:Int) out'*nv (4294967296:Int) b):=by grind
  rw[ry];omega
 have hdiv:nv (4294967296:Int) u'/2^k=nv (4294967296:Int) a-nv (4294967296:Int) out'*nv (4294967296:Int) b:=by rw[hdvd];exact x7 _ (by omega)
 have lo:0≤nv (4294967296:Int) a-nv (4294967296:Int) out'*nv (4294967296:Int) b:=by rw[←hdiv];exact p3 hub.1 (aE hp2)
 have hi:nv (4294967296:Int) a-nv (4294967296:Int) out'*nv (4294967296:Int) b<nv (4294967296:Int) b:=by rw[hdvd]at r6;exact Int.lt_of_mul_lt_mul_left r6 (aE hp2)
 have hu:=(y8 (a:=nv (4294967296:Int) a) (r:=nv (4294967296:Int) a-nv (4294967296:Int) out'*nv (4294967296:Int) b) (q:=nv (4294967296:Int) out') hVpos).mpr ⟨by grind,lo,hi⟩;rw[hdiv,hu.1,hu.2]
theorem dK {N:Nat}(hN:1000000001<N){u v:Int}(hu:Rg u)(hv:Rg v):Q22.f N (enc (4294967296:Int) u) (enc (4294967296:Int) v)=some (if v=0 then([],[],11)else(enc (4294967296:Int) (u/v),enc (4294967296:Int) (u%v),0)):=by
 obtain⟨hu0,huK⟩:=hu;obtain⟨hv0,hvK⟩:=hv;obtain⟨cu,eu⟩:=bD B2 hu0;obtain⟨cv,ev⟩:=bD B2 hv0;have lu:=fD hu0 huK;have lv:=fD hv0 hvK;unfold Q22.f;by_cases hz:v=0
 ·subst hz;rw[bJ B2];simp
 ·rw[if_neg hz];have hne:enc (4294967296:Int) v≠ []:=fun h=>hz ((ca B2 hv0).mp h);have hlen:0<(enc (4294967296:Int) v).length:=n5.mpr hne;have c0:(((enc (4294967296:Int) v).length:Int)==0)=false:=by simp;omega
  rw[c0,bp hN hu0 huK hv0];simp only[cond_false,pC];by_cases hlt:u<v
  ·have:decide (tQ u v<0)=true:=by unfold tQ;rw[if_neg (by omega),if_pos hlt];rfl
   rw[this,ng hu0 hlt,gi hu0 hlt,bJ B2];rfl
  ·have:decide (tQ u v<0)=false:=by
    unfold tQ;by_cases h:u=v
    ·rw[if_pos h];rfl
    ·rw[if_neg h,if_neg hlt];rfl
   rw[this];simp only[cond_false];have hvp:0<v:=by omega
   by_cases h1:(enc (4294967296:Int) v).length=1
   ·have c1:(((enc (4294967296:Int) v).length:Int)==1)=true:=by simp;omega
    have c2:decide (0<((enc (4294967296:Int) v).length:Int))=true:=decide_eq_true (by omega);obtain⟨x,hx⟩:∃x,enc (4294967296:Int) v=[x]:=by
     match hh:enc (4294967296:Int) v,h1 with
     | [x],_=>exact⟨x,rfl⟩
    have hxv:x=v:=by rw[hx]at ev;simpa[nv]using ev
    subst hxv;have hxb:x<(4294967296:Int):=by have:=cv.dig x (by rw[hx];simp);exact this.2
    rw[c1,c2,dx (by omega)];simp only[cond_true];have hg:(enc (4294967296:Int) x).getD 0 0=x:=by rw[hx];rfl
    obtain⟨l',g1,g2,g3,g4⟩:=bV hN cu.dig (m:=(enc (4294967296:Int) u).length) (hE _) (by omega) hvp hxb;rw[k8 (hE _),eu]at g3 g4;have g3':nv (4294967296:Int) l'=u/x:=by rw[←g3,k8 (by omega)]
    rw[hg,g4];simp only[pC];obtain⟨k1,k2⟩:=zM hN l' (by omega);have m0:=hQ u (b:=x) (by omega);have m1:=hL u (b:=x) hvp;rw[k1,fB m0 (by omega),cP hN m0 (by omega)];simp only[pC,k2];rw[jK g1,g3']
   ·have c1:(((enc (4294967296:Int) v).length:Int)==1)=false:=by simp;omega
    have hle:(enc (4294967296:Int) v).length≤(enc (4294967296:Int) u).length:=by
     rcases ki (enc (4294967296:Int) u).length (enc (4294967296:Int) v).length with h|h
     ·have:=kL cu cv h;omega
     ·exact h
    rw[c1,nt hN cu cv (by omega) hle (by omega),eu,ev];rfl
def vO (a b:Int):Int:=(Int.gcd a b:Int)
theorem ix {a b:Int}(ha:0≤a)(hb:0<b):vO b (a%b)=vO a b:=by
 unfold vO;obtain⟨m,rfl⟩:=mx ha;obtain⟨n,rfl⟩:=mx (aE hb);have e:((m:Int)%(n:Int))=((m%n:Nat):Int):=by simp
 rw[e];show((Nat.gcd n (m%n):Nat):Int)=((Nat.gcd m n:Nat):Int);rw[iv n,←Nat.gcd_rec,iv]
theorem zm {a:Int}(ha:0≤a):vO a 0=a:=by
 unfold vO;rw[Int.gcd_zero_right];omega
theorem tv {v r:Int}(hr:0<r)(hv:r<v):2*(v%r)<v:=by
 have h1:=j3 v r;have h2:=hL v hr;have h3:1≤v/r:=(nk hr).mpr (by omega);have h4:=hD h3 (aE hr);omega
theorem zk {N:Nat}(hN:1000000001<N){R:Type}(K0:W6→Option R):∀(k n:Nat) (u v:Int),Rg u→Rg v→v<2^k→2*k+1≤n→Q23.l1 N n (enc (4294967296:Int) u) (enc (4294967296:Int) v) K0=K0 (enc (4294967296:Int) (vO u v)):=by
 have stop:∀(n:Nat) (u:Int),Rg u→Q23.l1 N (n+1) (enc (4294967296:Int) u) (enc (4294967296:Int) 0) K0=K0 (enc (4294967296:Int) (vO u 0)):=by intro n u hu;rw[Q23.l1,bJ B2,zm hu.1];rfl
 have one:∀(n:Nat) (u v:Int),Rg u→Rg v→v≠0→Q23.l1 N (n+1) (enc (4294967296:Int) u) (enc (4294967296:Int) v) K0=Q23.l1 N n (enc (4294967296:Int) v) (enc (4294967296:Int) (u%v)) K0:=by intro n u v hu hv hz;rw[Q23.l1];have hne:enc (4294967296:Int) v≠ []:=fun h=>hz ((ca B2 hv.1).mp h);have hlen:0<(enc (4294967296:Int) v).length:=n5.mpr hne;have c:decide (((enc (4294967296:Int) v).length:Int)>0)=true:=decide_eq_true (by omega);rw[c,dK hN hu hv,if_neg hz];rfl
 have rem:∀(u v:Int),Rg u→Rg v→v≠0→Rg (u%v)∧u%v<v:=by
  intro u v hu hv hz;have hp:0<v:=by have:=hv.1;omega
  have h0:=hQ u hz;have h1:=hL u hp;exact⟨⟨h0,by have:=hv.2;omega⟩,h1⟩
 intro k;induction k with
 |zero=>
  intro n u v hu hv hk hn;obtain⟨n',rfl⟩:∃n',n=n'+1:=⟨n-1,by omega⟩
  have hv0:=hv.1;have:v=0:=by simp at hk;omega
  subst this;exact stop n' u hu
 |succ k ih=>
  intro n u v hu hv hk hn;obtain⟨n',rfl⟩:∃n',n=n'+1+1:=⟨n-2,by omega⟩
  have hu0:=hu.1;have hv0:=hv.1;by_cases hz:v=0
  ·subst hz;exact stop _ u hu
  ·obtain⟨r1,r2⟩:=rem u v hu hv hz;have g1:=ix hu0 (show 0<v by omega);rw[one _ u v hu hv hz,←g1];generalize u%v=r at*;by_cases hr:r=0
   ·subst hr;exact stop _ v hv
   ·have hr0:=r1.1;obtain⟨q1,q2⟩:=rem v r hv r1 hr;have g2:=ix hv0 (show 0<r by omega);rw[one _ v r hv r1 hr,←g2];have hh:=tv (show 0<r by omega) r2;have hp:(2:Int)^(k+1)=2*2^k:=by rw[p0];omega
    exact ih n' r (v%r) r1 q1 (by omega) (by omega)
theorem tq {N:Nat}(hN:1000000001<N){u v:Int}(hu:Rg u)(hv:Rg v):Q23.f N (enc (4294967296:Int) u) (enc (4294967296:Int) v)=some (enc (4294967296:Int) (vO u v)):=by
 unfold Q23.f;exact zk hN _ 4096 N u v hu hv (by have:=hv.2;unfold K at this;exact this) (by omega)
theorem Dh {u v:Int}(hu:Rg u)(hv:Rg v):Rg (vO u v):=by
 have h0:0≤vO u v:=by unfold vO;omega
 refine⟨h0,?_⟩;by_cases hz:u=0
 ·subst hz;have:vO 0 v=v:=by unfold vO;rw[Int.gcd_zero_left];have:=hv.1;omega
  rw[this];exact hv.2
 ·have:=Int.le_of_dvd (by have:=hu.1;omega) (c9 u v);have h2:=hu.2;unfold vO;omega
def ab (x:Int):Int:=if x<0 then-x else x
theorem u5 (x:Int):0≤ab x:=by unfold ab;split<;>omega
theorem aG (x:Int):(0≤x∧ab x=x)∨(x<0∧ab x= -x):=by unfold ab;split<;>omega
theorem rV {x:Int}:ab x=0↔x=0:=by rcases aG x with⟨h,e⟩|⟨h,e⟩<;>omega
def sg (x:Int):Bool:=decide (x<0)
theorem nw (N:Nat){v:Int}(b:Bool)(h:Rg v):Q25.f N b (enc (4294967296:Int) v)=some (b&&decide (0<v),enc (4294967296:Int) v):=by
 obtain⟨h1,h2⟩:=bD B2 h.lo;have hl:=fD h.lo h.hi;unfold Q25.f;rw[oG N h1 (by omega),h2];cases b
 ·rfl
 ·have:=vC v;have hz:=uG h.lo 0;have e0:(2:Int)^0=1:=rfl;rw[e0]at hz;have:decide (sD v>0)=decide (0<v):=by
   refine decide_eq_decide.mpr ⟨fun q=>?_,fun q=>?_⟩
   ·rcases pR 0 v with p|p
    ·exact p
    ·have:=hz.mpr (by omega);omega
   ·rcases pR 0 (sD v)with p|p
    ·exact p
    ·have:=hz.mp (by omega);omega
  simp[this]
noncomputable def pB (x:Int):W6:=enc (4294967296:Int) (ab x)
def sv (b:Bool)(v:Int):Int:=if b then-v else v
abbrev Zr (x:Int):Prop:=Rg (ab x)
theorem ra:pB 0=[]:=bJ B2
theorem uN {v:Int}(h:0≤v):ab v=v:=by unfold ab;rw[if_neg (by omega)]
theorem lk (x:Int):ab (-x)=ab x:=by unfold ab;split<;>split<;>omega
theorem I6 (b:Bool){v:Int}(h:0≤v):sg (sv b v)=(b&&decide (0<v)):=by
 unfold sg sv;cases b
 ·simp;omega
 ·rw[if_pos rfl];by_cases h1:0<v
  ·rw[decide_eq_true h1,decide_eq_true (by omega)];rfl
  ·rw[decide_eq_false h1,decide_eq_false (by omega)];rfl
theorem xd (b:Bool){v:Int}(h:0≤v):ab (sv b v)=v:=by
 unfold ab sv;cases b
 ·simp;omega
 ·rw[if_pos rfl];split<;>omega
theorem If (x:Int):sv (sg x) (ab x)=x:=by
 unfold sv sg ab;by_cases h:x<0<;>simp[h]
theorem Gx (x:Int):sv (!sg x) (ab x)= -x:=by
 unfold sv sg ab;by_cases h:x<0<;>simp[h]
theorem rE (x:Int):(sg x=true∧x<0∧ab x= -x)∨(sg x=false∧0≤x∧ab x=x):=by
 unfold sg ab;by_cases h:x<0
 ·left;exact⟨decide_eq_true h,h,if_pos h⟩
 ·right;exact⟨decide_eq_false h,by omega,if_neg h⟩
theorem fa (b:Bool):sv b 0=0:=by cases b<;>rfl
theorem iV {x:Int}(h:ab x<K):Zr x:=⟨u5 x,h⟩
theorem He {x:Int}(h:Zr x):Zr (-x):=iV (by rw[lk];exact h.hi)
def zo (r:Int):Int:=if ab r<K then r else 0
def ze (r:Int):Int:=if ab r<K then 0 else 3
theorem sb {r:Int}(h:Zr r):zo r=r:=if_pos h.hi
theorem sa {r:Int}(h:Zr r):ze r=0:=if_pos h.hi
theorem dH {N:Nat}{v:Int}(b:Bool)(h:Rg v):Q25.f N b (enc (4294967296:Int) v)=some (sg (sv b v),pB (sv b v)):=by
 rw[nw N b h,I6 b h.lo];unfold pB;rw[xd b h.lo]
theorem rz {N:Nat}{x:Int}(b:Bool)(h:Zr x):Q25.f N b (pB x)=some (sg (sv b (ab x)),pB (sv b (ab x))):=dH b h
theorem br (u v:Int):decide (tQ u v<0)=decide (u<v):=by
 unfold tQ;by_cases h:u=v
 ·rw[if_pos h,decide_eq_false (show ¬u<v by omega)];rfl
 ·by_cases h1:u<v
  ·rw[if_neg h,if_pos h1,decide_eq_true h1];rfl
  ·rw[if_neg h,if_neg h1,decide_eq_false h1];rfl
theorem xh {x y:Int}(h:sg x=sg y):sv (sg x) (ov (ab x+ab y))=zo (x+y)∧oe (ab x+ab y)=ze (x+y):=by
 have e:ab (x+y)=ab x+ab y:=by
  rcases rE x with⟨a1,a2,a3⟩|⟨a1,a2,a3⟩<;>rcases rE y with⟨b1,b2,b3⟩|⟨b1,b2,b3⟩<;>rw[a1,b1]at h
  ·rw[a3,b3];unfold ab;rw[if_pos (by omega)];omega
  ·cases h
  ·cases h
  ·rw[a3,b3];unfold ab;rw[if_neg (by omega)]
 have e2:sg (x+y)=sg x∨x+y=0:=by
  rcases rE x with⟨a1,a2,a3⟩|⟨a1,a2,a3⟩<;>rcases rE y with⟨b1,b2,b3⟩|⟨b1,b2,b3⟩<;>rw[a1,b1]at h
  ·left;rw[a1];exact decide_eq_true (by omega)
  ·cases h
  ·cases h
  ·left;rw[a1];exact decide_eq_false (by omega)
 unfold zo ze ov oe;rw[e];refine⟨?_,rfl⟩;split
 ·rw[←e];rcases e2 with e2|e2
  ·rw[←e2];exact If _
  ·rw[e2];exact fa _
 ·exact fa _
theorem xf {x y:Int}(hx:Zr x)(hy:Zr y)(h:sg x≠sg y):Zr (x+y)∧(ab x<ab y→sv (sg y) (ab y-ab x)=x+y)∧(ab y≤ab x→sv (sg x) (ab x-ab y)=x+y):=by
 have hx1:=hx.hi;have hy1:=hy.hi;rcases rE x with⟨a1,a2,a3⟩|⟨a1,a2,a3⟩<;>rcases rE y with⟨b1,b2,b3⟩|⟨b1,b2,b3⟩<;>rw[a1,b1]at h
 ·exact absurd rfl h
 ·refine⟨iV ?_,?_,?_⟩
  ·rcases aG (x+y)with⟨c1,c2⟩|⟨c1,c2⟩<;>omega
  ·intro _;rw[b1,a3,b3];unfold sv;simp;omega
  ·intro _;rw[a1,a3,b3];unfold sv;simp;omega
 ·refine⟨iV ?_,?_,?_⟩
  ·rcases aG (x+y)with⟨c1,c2⟩|⟨c1,c2⟩<;>omega
  ·intro _;rw[b1,a3,b3];unfold sv;simp;omega
  ·intro _;rw[a1,a3,b3];unfold sv;simp
 ·exact absurd rfl h
theorem Fs {N:Nat}(hN:1000000001<N){x y:Int}(hx:Zr x)(hy:Zr y):Q31.f N (sg x) (pB x) (sg y) (pB y)=some (sg (zo (x+y)),pB (zo (x+y)),ze (x+y)):=by
 unfold Q31.f;by_cases h:sg x=sg y
 ·have c:(sg x==sg y)=true:=by rw[h];exact beq_self_eq_true _
  obtain⟨e1,e2⟩:=xh h;rw[c];simp only[cond_true];unfold pB;rw[Cr hN hx hy];simp only[pC];rw[dH _ (Rg.ov (by have:=hx.lo;have:=hy.lo;omega)),e1,e2];rfl
 ·have c:(sg x==sg y)=false:=beq_eq_false_iff_ne.mpr h;obtain⟨e1,e2,e3⟩:=xf hx hy h;rw[c,sb e1,sa e1];simp only[cond_false];unfold pB;rw[xx hN hx hy];simp only[pC];rw[br];by_cases hl:ab x<ab y
  ·rw[decide_eq_true hl];simp only[cond_true];rw[cQ hN hy.lo hy.hi hx.lo,if_neg (by omega)];simp only[pC];rw[dH _ ⟨by omega,by have:=hy.hi;have:=hx.lo;omega⟩,e2 hl];rfl
  ·rw[decide_eq_false hl];simp only[cond_false];rw[cQ hN hx.lo hx.hi hy.lo,if_neg hl];simp only[pC];rw[dH _ ⟨by omega,by have:=hx.hi;have:=hy.lo;omega⟩,e3 (by omega)];rfl
theorem Ft {N:Nat}{x:Int}(hx:Zr x):Q27.f N (sg x) (pB x)=some (sg (-x),pB (-x)):=by
 unfold Q27.f;rw[rz _ hx,Gx];rfl
theorem Ip {N:Nat}(hN:1000000001<N){x y:Int}(hx:Zr x)(hy:Zr y):Q32.f N (sg x) (pB x) (sg y) (pB y)=some (sg (zo (x-y)),pB (zo (x-y)),ze (x-y)):=by
 unfold Q32.f;rw[Ft hy];simp only[pC];rw[Fs hN hx (He hy),Int.sub_eq_add_neg];rfl
theorem lj (x y:Int):ab (x*y)=ab x*ab y:=by
 rcases aG x with⟨a2,a3⟩|⟨a2,a3⟩<;>rcases aG y with⟨b2,b3⟩|⟨b2,b3⟩<;>rw[a3,b3]
 ·exact uN (hS a2 b2)
 ·rw[ch,←lk,uN (by have:=hS a2 (show 0≤ -y by omega);rw[ch]at this;exact this)]
 ·rw[sl,←lk,uN (by have:=hS (show 0≤ -x by omega) b2;rw[sl]at this;exact this)]
 ·rw[cy];exact uN (aE (Int.mul_pos_of_neg_of_neg a2 b2))
theorem Gw (x y:Int):sv (!(sg x==sg y)) (ab x*ab y)=x*y:=by
 rcases rE x with⟨a1,a2,a3⟩|⟨a1,a2,a3⟩<;>rcases rE y with⟨b1,b2,b3⟩|⟨b1,b2,b3⟩<;>rw[a1,b1,a3,b3]<;>unfold sv
 ·simp[cy]
 ·simp[sl]
 ·simp[ch]
 ·simp
theorem Ag (x y:Int):sv (!(sg x==sg y)) (ov (ab x*ab y))=zo (x*y)∧oe (ab x*ab y)=ze (x*y):=by
 unfold zo ze ov oe;rw[lj];refine⟨?_,rfl⟩;split
 ·exact Gw x y
 ·exact fa _
theorem Io {N:Nat}(hN:1000000001<N){x y:Int}(hx:Zr x)(hy:Zr y):Q33.f N (sg x) (pB x) (sg y) (pB y)=some (sg (zo (x*y)),pB (zo (x*y)),ze (x*y)):=by
 unfold Q33.f;obtain⟨e1,e2⟩:=Ag x y;unfold pB;rw[Dn hN hx hy];simp only[pC];rw[dH _ (Rg.ov (hS hx.lo hy.lo)),e1,e2];rfl
def sn (x:Int):Int:=if ab x=0 then 0 else if sg x then-1 else 1
theorem qM (x:Int):(x=0∧sn x=0)∨(x<0∧sn x= -1)∨(0<x∧sn x=1):=by
 unfold sn;by_cases h:x=0
 ·left;exact⟨h,if_pos (rV.mpr h)⟩
 ·rw[if_neg (fun q=>h (rV.mp q))];rcases rE x with⟨a1,a2,a3⟩|⟨a1,a2,a3⟩
  ·right;left;rw[a1];exact⟨a2,rfl⟩
  ·right;right;rw[a1];exact⟨by omega,rfl⟩
theorem ow (x:Int):decide (sn x<0)=decide (x<0):=by
 rcases qM x with⟨s1,s2⟩|⟨s1,s2⟩|⟨s1,s2⟩<;>rw[s2]
 ·rw[decide_eq_false (show ¬x<0 by omega)];rfl
 ·rw[decide_eq_true s1];rfl
 ·rw[decide_eq_false (show ¬x<0 by omega)];rfl
theorem Ci {N:Nat}{x:Int}(hx:Zr x):Q24.f N (sg x) (pB x)=some (sn x):=by
 obtain⟨h1,h2⟩:=bD B2 hx.lo;have hl:=fD hx.lo hx.hi;unfold Q24.f pB;rw[oG N h1 (by omega),h2];simp only[pC];have hz:=fH hx.lo;unfold sn;by_cases h:ab x=0
 ·rw[if_pos h,hz.mpr h];rfl
 ·have c:(sD (ab x)==0)=false:=beq_eq_false_iff_ne.mpr (fun q=>h (hz.mp q));rw[if_neg h,c];cases sg x<;>rfl
theorem Jw {N:Nat}(hN:1000000001<N){n:Int}(h0: -9223372036854775808≤n)(h1:n<9223372036854775808):Q28.f N n=some (sg n,pB n):=by
 unfold Q28.f pB;rcases rE n with⟨a1,a2,a3⟩|⟨a1,a2,a3⟩
 ·have e:dB (0-dB n)= -n:=by rw[mZ,mZ];omega
  rw[decide_eq_true a2,e,cP hN (by omega) (by omega),a1,a3];rfl
 ·have d:decide (n<0)=false:=decide_eq_false (by omega);rw[d,fB (n:=n) (by omega) (by omega),a1,a3];simp only[cond_false];rw[cP hN (by omega) (by omega)];rfl
theorem B1 {x y:Int}(hy:y≠0):
  ((sg x=true∧0<ab x%ab y)→sv (!(sg x==sg y)) (ab x/ab y+1)=x/y∧ab y-ab x%ab y=x%y)∧
  (¬(sg x=true∧0<ab x%ab y)→sv (!(sg x==sg y)) (ab x/ab y)=x/y∧ab x%ab y=x%y):=by
 have yp:0<ab y:=by have:=u5 y;have:ab y≠0:=fun q=>hy (rV.mp q);omega
 have e1:x/y=sv (sg y) (x/ab y)∧x%y=x%ab y:=by
  rcases rE y with⟨b1,b2,b3⟩|⟨b1,b2,b3⟩
  ·rw[b1,b3,Int.emod_neg,Int.ediv_neg];unfold sv;simp
  ·rw[b1,b3];exact⟨rfl,rfl⟩
 obtain⟨e2,e3⟩:=e1;rw[e2,e3];generalize ab y=d at*;rcases rE x with⟨a1,a2,a3⟩|⟨a1,a2,a3⟩
 ·rw[a1,a3];have d1:=j3 (-x) d;have d2:=hQ (-x) (show d≠0 by omega);have d3:=hL (-x) yp;generalize-x/d=q at*;generalize-x%d=r at*;refine⟨fun h=>?_,fun h=>?_⟩
  ·have u:=(y8 (a:=x) (r:=d-r) (q:= -(q+1)) yp).mpr ⟨by grind,by omega,by omega⟩;rw[u.1,u.2];refine⟨?_,rfl⟩;cases sg y<;>simp[sv]
  ·have hr:r=0:=by
    rcases pR 0 r with h1|h1
    ·exact absurd ⟨rfl,h1⟩ h
    ·omega
   subst hr;have u:=(y8 (a:=x) (r:=0) (q:= -q) yp).mpr ⟨by grind,by omega,by omega⟩;rw[u.1,u.2];refine⟨?_,rfl⟩;cases sg y<;>simp[sv]
 ·rw[a1,a3];refine⟨fun h=>(by cases h.1),fun _=>⟨?_,rfl⟩⟩;cases sg y<;>simp[sv]
theorem Fu {N:Nat}(hN:1000000001<N){x y:Int}(hx:Zr x)(hy:Zr y)(h:y≠0):Q34.f N (sg x) (pB x) (sg y) (pB y)=some (sg (x/y),pB (x/y),sg (x%y),pB (x%y),0)∧Zr (x/y)∧Zr (x%y):=by
 obtain⟨t1,t2⟩:=B1 (x:=x) h;have x0:=hx.lo;have y0:=hy.lo;have xK:=hx.hi;have yK:=hy.hi;have hyz:ab y≠0:=fun q=>h (rV.mp q);have yp:0<ab y:=by omega
 have q0:0≤ab x/ab y:=p3 x0 y0;have q1:ab x/ab y≤ab x:=b9 _ x0;have r0:=hQ (ab x) hyz;have r1:=hL (ab x) yp;have hq:Rg (ab x/ab y):=⟨q0,by omega⟩
 have hr:Rg (ab x%ab y):=⟨r0,by omega⟩
 unfold Q34.f;unfold pB;rw[dK hN hx hy,if_neg hyz];have c0:((0:Int) != 0)=false:=rfl;simp only[pC,c0,cond_false];by_cases hc:sg x=true∧0<ab x%ab y
 ·obtain⟨u1,u2⟩:=t1 hc;obtain⟨c1,c2⟩:=hr.lo,hr.hi;obtain⟨h1,h2⟩:=bD B2 hr.lo;have hl:=fD hr.lo hr.hi;have hbit:=oG N h1 (by omega);rw[h2]at hbit;have hbz:=fH hr.lo;have hbn:=vC (ab x%ab y);have c3:decide (sD (ab x%ab y)>0)=true:=decide_eq_true (by
   have:sD (ab x%ab y)≠0:=fun q=>by have:=hbz.mp q;omega
   omega)
  rw[hc.1];simp only[cond_true];rw[hbit];simp only[pC,c3,cond_true];rw[cP hN (by decide) (by decide)];simp only[pC];have one:Rg 1:=⟨by decide,by have:=Ew;omega⟩
  have hq1:ab x/ab y+1<K:=by
   by_cases h2:ab y=1
   ·rw[h2,Int.emod_one]at hc;omega
   ·have d1:=j3 (ab x) (ab y);have d2:=hI (show 2≤ab y by omega) q0;omega
  have hq1':Rg (ab x/ab y+1):=⟨by omega,hq1⟩
  rw[Cr hN hq one];simp only[pC];have ho:ov (ab x/ab y+1)=ab x/ab y+1:=if_pos hq1;rw[ho,cQ hN y0 yK r0,if_neg (by omega)];simp only[pC];have hr':Rg (ab y-ab x%ab y):=⟨by omega,by omega⟩
  rw[dH _ hq1'];simp only[pC];rw[dH _ hr'];simp only[pC];rw[hc.1]at u1;have u3:sv false (ab y-ab x%ab y)=x%y:=u2;rw[u1,u3];refine⟨rfl,iV ?_,iV ?_⟩
  ·rw[←u1,xd _ (by omega)];exact hq1
  ·rw[←u2,uN (by omega)];omega
 ·obtain⟨u1,u2⟩:=t2 hc;have u3:sv false (ab x%ab y)=x%y:=u2;have wV:((Q25.f N (!(sg x==sg y)) (enc (4294967296:Int) (ab x/ab y))).bind fun r12=>
    (Q25.f N false (enc (4294967296:Int) (ab x%ab y))).bind fun r13=>
    some (r12.1,r12.2,r13.1,r13.2,(0:Int)))=some (sg (x/y),enc (4294967296:Int) (ab (x/y)),sg (x%y),enc (4294967296:Int) (ab (x%y)),0):=by
   rw[dH _ hq];simp only[pC];rw[dH _ hr];simp only[pC];rw[u1,u3];rfl
  refine⟨?_,iV ?_,iV ?_⟩
  ·by_cases hs:sg x=true
   ·obtain⟨h1,h2⟩:=bD B2 hr.lo;have hl:=fD hr.lo hr.hi;have hbit:=oG N h1 (by omega);rw[h2]at hbit;have hrz:ab x%ab y=0:=by
     rcases pR 0 (ab x%ab y)with h3|h3
     ·exact absurd ⟨hs,h3⟩ hc
     ·omega
    have c3:decide (sD (ab x%ab y)>0)=false:=by rw[(fH hr.lo).mpr hrz];rfl
    rw[hs]at wV⊢;simp only[cond_true];rw[hbit];simp only[pC,c3,cond_false];exact wV
   ·have hs':sg x=false:=by cases hq:sg x<;>simp_all
    rw[hs']at wV⊢;exact wV
  ·rw[←u1,xd _ q0];omega
  ·rw[←u2,uN r0];omega
theorem Eo {N:Nat}(hN:1000000001<N){x y:Int}(hx:Zr x)(hy:Zr y)(h:y≠0):Q35.f N (sg x) (pB x) (sg y) (pB y)=some (if x%y=0 then(sg (x/y),pB (x/y),0)else(false,[],2)):=by
 obtain⟨q1,q2,q3⟩:=Fu hN hx hy h;unfold Q35.f;rw[q1];have c0:((0:Int) != 0)=false:=rfl;simp only[pC,c0,cond_false];rw[Ci q3];simp only[pC];rcases qM (x%y)with⟨s1,s2⟩|⟨s1,s2⟩|⟨s1,s2⟩<;>rw[s2]
 ·rw[if_pos s1];rfl
 ·rw[if_neg (by omega)];rfl
 ·rw[if_neg (by omega)];rfl
theorem C9 {n:Int}(h1:9223372036854775808≤n)(h2:n<18446744073709551616):fA n=n-18446744073709551616:=by
 simp only[fA,IntKind.wrap];simp[IntKind.bits,IntKind.signed];omega
theorem Ep {N:Nat}{x:Int}(hx:Zr x):Q29.f N (sg x) (pB x)=some (if-9223372036854775808≤x∧x<9223372036854775808 then(x,true)else(0,false)):=by
 unfold Q29.f pB;rw[vu N hx.lo];simp only[pC];have x0:=hx.lo;by_cases h:ab x<18446744073709551616
 ·rw[if_pos h];simp only[Bool.not_true,cond_false];by_cases h1:ab x>9223372036854775808
  ·rw[decide_eq_true h1,if_neg (by rcases aG x with⟨c1,c2⟩|⟨c1,c2⟩<;>omega)];rfl
  ·rw[decide_eq_false h1];simp only[cond_false];rcases rE x with⟨a1,a2,a3⟩|⟨a1,a2,a3⟩
   ·have e:fA (dB (0-ab x))=x:=by
     rw[mZ];have:(0-ab x)%18446744073709551616=x+18446744073709551616:=by omega
     rw[this,C9 (by omega) (by omega)];omega
    rw[a1,e,if_pos (by omega)];by_cases h2:ab x=9223372036854775808
    ·have c2:(ab x==9223372036854775808)=true:=by rw[h2];rfl
     rw[c2];rfl
    ·have c2:(ab x==9223372036854775808)=false:=beq_eq_false_iff_ne.mpr h2;rw[c2];rfl
   ·rw[a1];by_cases h2:ab x=9223372036854775808
    ·have c2:(ab x==9223372036854775808)=true:=by rw[h2];rfl
     rw[c2,if_neg (by omega)];rfl
    ·have c2:(ab x==9223372036854775808)=false:=beq_eq_false_iff_ne.mpr h2;rw[c2,if_pos (by omega),a3,aB (n:=x) (by omega) (by omega)];rfl
 ·rw[if_neg h,if_neg (by rcases aG x with⟨c1,c2⟩|⟨c1,c2⟩<;>omega)];rfl
end Go.Proofs.YtijigofaaefldaaGreat.NatL
namespace Go.Proofs.YtijigofaaefldaaGreat.Law
open Go Go.Proofs.YtijigofaaefldaaGreat.Ev
open Go.Proofs.YtijigofaaefldaaGreat.NatL
def Bd (k:Nat)(x:Int):Prop:=x.natAbs<2^k
theorem cM (x:Int):ab x=(x.natAbs:Int):=by unfold ab;split<;>omega
theorem Bd.mono {k l:Nat}{x:Int}(h:Bd k x)(hk:k≤l):Bd l x:=Nat.lt_of_lt_of_le h (p4 (by omega) hk)
theorem Bd.ltN {k:Nat}{x:Int}(h:Bd k x):(x.natAbs:Int)<2^k:=by
 have h3:=Int.ofNat_lt.mpr h;rw[Int.natCast_pow]at h3;exact h3
theorem Bd.zr {k:Nat}{x:Int}(h:Bd k x)(hk:k≤4096):Zr x:=iV (by
 rw[cM];unfold K;have h2:Bd 4096 x:=h.mono hk;exact h2.ltN)
theorem Bd.mul {k l:Nat}{x y:Int}(hx:Bd k x)(hy:Bd l y):Bd (k+l) (x*y):=by
 unfold Bd at*;rw[Int.natAbs_mul,Nat.pow_add];exact Nat.mul_lt_mul'' hx hy
theorem Bd.add {k:Nat}{x y:Int}(hx:Bd k x)(hy:Bd k y):Bd (k+1) (x+y):=by
 unfold Bd at*;have:=Int.natAbs_add_le x y;rw[Nat.pow_succ];omega
theorem Bd.neg {k:Nat}{x:Int}(hx:Bd k x):Bd k (-x):=by unfold Bd at*;rwa[Int.natAbs_neg]
theorem Bd.sub {k:Nat}{x y:Int}(hx:Bd k x)(hy:Bd k y):Bd (k+1) (x-y):=by
 rw[Int.sub_eq_add_neg];exact hx.add hy.neg
theorem Bd.le {k:Nat}{x y:Int}(hx:Bd k x)(h:y.natAbs≤x.natAbs):Bd k y:=Nat.lt_of_le_of_lt h hx
theorem Bd.div {k:Nat}{x:Int}(hx:Bd k x)(y:Int):Bd k (x/y):=by
 unfold Bd at*;exact Nat.lt_of_le_of_lt (Int.natAbs_ediv_le_natAbs x y) hx
theorem Cw (k:Nat):Bd k 0:=by unfold Bd;simp;exact Nat.pow_pos (by omega)
theorem oR {k:Nat}(h:0<k):Bd k 1:=by unfold Bd;have:=p4 (show 0<2 by omega) h;simp;omega
theorem Bd.lt {k:Nat}{x:Int}(h:Bd k x): - (2:Int)^k<x∧x<(2:Int)^k:=by
 unfold Bd at h;have:((2^k:Nat):Int)=(2:Int)^k:=by simp
 omega
theorem Bd.i64 {k:Nat}{x:Int}(h:Bd k x)(hk:k≤63): -9223372036854775808≤x∧x<9223372036854775808:=by
 have:=(h.mono hk).lt;have e:(2:Int)^63=9223372036854775808:=by decide
 omega
section
variable {N:Nat}(hN:1000000001<N){i j:Nat}{x y:Int}
include hN
theorem kz (hx:Bd i x)(hy:Bd j y)(h:i+j≤4096):Q33.f N (sg x) (pB x) (sg y) (pB y)=some (sg (x*y),pB (x*y),0):=by
 have hz:=(hx.mul hy).zr h;rw[Io hN (hx.zr (by omega)) (hy.zr (by omega)),sb hz,sa hz]
theorem pt (hx:Bd i x)(hy:Bd i y)(h:i≤4095):Q31.f N (sg x) (pB x) (sg y) (pB y)=some (sg (x+y),pB (x+y),0):=by
 have hz:=(hx.add hy).zr (by omega);rw[Fs hN (hx.zr (by omega)) (hy.zr (by omega)),sb hz,sa hz]
theorem Es (hx:Bd i x)(hy:Bd i y)(h:i≤4095):Q32.f N (sg x) (pB x) (sg y) (pB y)=some (sg (x-y),pB (x-y),0):=by
 have hz:=(hx.sub hy).zr (by omega);rw[Ip hN (hx.zr (by omega)) (hy.zr (by omega)),sb hz,sa hz]
theorem fv (hx:Bd i x)(hy:Bd j y)(h:i≤4096)(h':j≤4096)(h0:y≠0)(hd:x%y=0):Q35.f N (sg x) (pB x) (sg y) (pB y)=some (sg (x/y),pB (x/y),0):=by
 rw[Eo hN (hx.zr h) (hy.zr h') h0,if_pos hd]
theorem Jy (hx:Bd i x)(hy:Bd j y)(h:i≤4096)(h':j≤4096)(h0:y≠0):Q34.f N (sg x) (pB x) (sg y) (pB y)=some (sg (x/y),pB (x/y),sg (x%y),pB (x%y),0):=(Fu hN (hx.zr h) (hy.zr h') h0).1
theorem lg (hx:Bd i x)(h:i≤63):Q28.f N x=some (sg x,pB x):=Jw hN (hx.i64 h).1 (hx.i64 h).2
omit hN in
theorem ao (hx:Bd i x)(h:i≤4096):Q24.f N (sg x) (pB x)=some (sn x):=Ci (hx.zr h)
omit hN in
theorem fw (hx:Bd i x)(h:i≤4096):Q29.f N (sg x) (pB x)=some (if-9223372036854775808≤x∧x<9223372036854775808 then(x,true)else(0,false)):=Ep (hx.zr h)
theorem Er (hx:Bd i x)(hy:Bd j y)(h:i≤4096)(h':j≤4096):Q30.f N (sg x) (pB x) (sg y) (pB y)=some (tQ x y):=by
 have hx:=hx.zr h;have hy:=hy.zr h';unfold Q30.f pB;rcases rE x with⟨a1,a2,a3⟩|⟨a1,a2,a3⟩<;>rcases rE y with⟨b1,b2,b3⟩|⟨b1,b2,b3⟩<;>rw[a1,b1]
 ·simp only[cond_true];rw[xx hN hy hx,a3,b3];unfold tQ;by_cases h1:x=y
  ·subst h1;simp
  ·by_cases h2:x<y
   ·rw[if_neg (by omega),if_pos (by omega),if_neg h1,if_pos h2];rfl
   ·rw[if_neg (by omega),if_neg (by omega),if_neg h1,if_neg h2];rfl
 ·simp only[cond_true,cond_false];unfold tQ;rw[if_neg (by omega),if_pos (by omega)]
 ·simp only[cond_true,cond_false];unfold tQ;rw[if_neg (by omega),if_neg (by omega)]
 ·simp only[cond_true,cond_false];rw[xx hN hx hy,a3,b3];rfl
omit hN in
theorem Hd:Q26.f N (sg x) (pB x)=some (pB x):=rfl
omit hN in
theorem Jx (hx:Bd i x)(h:i≤4096):Q27.f N (sg x) (pB x)=some (sg (-x),pB (-x)):=Ft (hx.zr h)
end
theorem I8 (x:Int):decide (sn x≤0)=decide (x≤0):=by
 rcases qM x with⟨h,e⟩|⟨h,e⟩|⟨h,e⟩<;>rw[e]
 ·rw[h]
 ·rw[decide_eq_true (by omega),decide_eq_true (by omega)]
 ·rw[decide_eq_false (by omega),decide_eq_false (by omega)]
theorem I7 (x:Int):(sn x==0)=decide (x=0):=by
 rcases qM x with⟨h,e⟩|⟨h,e⟩|⟨h,e⟩<;>rw[e]
 ·rw[h];rfl
 ·rw[decide_eq_false (by omega)];rfl
 ·rw[decide_eq_false (by omega)];rfl
theorem mO {N:Nat}{v:Int}(h:Rg v):Q6.f N (enc (4294967296:Int) v)=some (sD v):=by
 obtain⟨h1,h2⟩:=bD B2 h.lo;have hl:=fD h.lo h.hi;rw[oG N h1 (by omega),h2]
theorem Hz {v:Int}(h:0≤v):pB v=enc (4294967296:Int) v:=by unfold pB;rw[uN h]
theorem pz {v:Int}(h:0≤v):decide (sD v>0)=decide (v>0):=by
 have h1:=fH h;have h2:=vC v;by_cases e:v=0
 ·rw[h1.2 e,e]
 ·have:sD v≠0:=fun q=>e (h1.1 q);rw[decide_eq_true (by omega),decide_eq_true (by omega)]
theorem gj {v:Int}(h:0≤v):(sD v==0)=decide (v=0):=by
 have h1:=fH h;by_cases e:v=0
 ·rw[h1.2 e,e];rfl
 ·have:sD v≠0:=fun q=>e (h1.1 q);rw[decide_eq_false e];exact beq_eq_false_iff_ne.2 this
def Fq (k:Nat)(q:Rat):Prop:=Bd k q.num∧Bd k (q.den:Int)
noncomputable def qs (q:Rat):Bool:=sg q.num
noncomputable def qn (q:Rat):W6:=pB q.num
noncomputable def ql (q:Rat):W6:=enc (4294967296:Int) ((q.den:Int)-1)
theorem Bd.rg {k:Nat}{x:Int}(h:Bd k x)(h0:0≤x)(hk:k≤4096):Rg x:=by
 have:=h.zr hk;unfold Zr at this;rwa[uN h0]at this
theorem lH (q:Rat):(0:Int)<(q.den:Int):=by have:=q.den_nz;omega
theorem Fq.mono {k l:Nat}{q:Rat}(h:Fq k q)(hk:k≤l):Fq l q:=⟨h.1.mono hk,h.2.mono hk⟩
theorem Fq.den_rg {k:Nat}{q:Rat}(h:Fq k q)(hk:k≤4096):Rg (q.den:Int):=h.2.rg (aE (lH q)) hk
theorem Fq.less_rg {k:Nat}{q:Rat}(h:Fq k q)(hk:k≤4096):Rg ((q.den:Int)-1):=by
 have h1:=lH q;have h2:=h.den_rg hk;exact⟨by omega,by have:=h2.hi;omega⟩
theorem jz {n g:Int}(hg:0<g)(hd:g∣n):sv (decide (sn n<0)) (ab n/g)=n/g:=by
 obtain⟨m,rfl⟩:=hd;rw[ow,x7 m (by omega)];by_cases h:g*m<0
 ·have hm:m<0:=by
   rcases pR m 0 with h'|h'
   ·exact h'
   ·have:=hS (aE hg) h';omega
  rw[decide_eq_true h,lj,uN (aE hg),x7 _ (by omega)];rcases aG m with⟨a,b⟩|⟨a,b⟩
  ·omega
  ·rw[b];show- -m=m;omega
 ·have hm:0≤m:=by
   rcases pR m 0 with h'|h'
   ·have:=Int.mul_neg_of_pos_of_neg hg h';omega
   ·exact h'
  rw[decide_eq_false h,lj,uN (aE hg),x7 _ (by omega),uN hm];rfl
section
variable {N:Nat}(hN:1000000001<N)
include hN
theorem Au:Q8.f N 1=some (enc (4294967296:Int) 1):=cP hN (by omega) (by omega)
theorem zP:Q36.f N=some (enc (4294967296:Int) 1):=by unfold Q36.f;rw[Au hN];rfl
omit hN in
theorem Gu:Rg 1:=⟨by omega,by have:=Ew;omega⟩
theorem zT {v:Int}(h:Rg v)(h1:1≤v):Q15.f N (enc (4294967296:Int) v) (enc (4294967296:Int) 1)=some (enc (4294967296:Int) (v-1),0):=by
 rw[cQ hN h.lo h.hi (by omega),if_neg (by omega)]
theorem bY {n:Int}{d:Nat}(hn:Bd 4096 n)(hd:Bd 4096 (d:Int))(h0:0<d):Q37.f N (sg n) (pB n) (enc (4294967296:Int) (d:Int))=some (qs (mkRat n d),qn (mkRat n d),ql (mkRat n d)):=by
 have hz:=hn.zr (hE _);have hdr:Rg (d:Int):=hd.rg (by omega) (hE _);have hg:vO (ab n) (d:Int)=((d.gcd n.natAbs:Nat):Int):=by unfold vO;rw[cM,Int.gcd_natCast_natCast,iv]
 have hgp:0<d.gcd n.natAbs:=Nat.gcd_pos_of_pos_left _ h0;have hgr:Rg (vO (ab n) (d:Int)):=Dh hz hdr;have e0:Q26.f N (sg n) (pB n)=some (enc (4294967296:Int) (ab n)):=rfl;have e1:=tq hN hz hdr;have e2:=xx hN hgr Gu;have hnum:(mkRat n d).num=n/((d.gcd n.natAbs:Nat):Int):=by rw[po,if_neg (by omega)]
 have hden:((mkRat n d).den:Int)=(d:Int)/((d.gcd n.natAbs:Nat):Int):=by rw[pn,if_neg (by omega),Int.natCast_ediv]
 unfold Q37.f qs qn ql;rw[hnum,hden];simp only[e0,pC,e1,zP hN,e2,ao hn (hE _)];rw[hg]at hgr⊢;generalize hG:d.gcd n.natAbs=g at*;have hdn:(g:Int)∣n:=by rw[←hG];exact pj.1 (by rw[fo];exact Nat.gcd_dvd_right _ _)
 have hdd:(g:Int)∣(d:Int):=by rw[←hG];exact Int.natCast_dvd_natCast.2 (Nat.gcd_dvd_left _ _)
 by_cases h1:g=1
 ·have:decide (tQ (g:Int) 1>0)=false:=by rw[h1];rfl
  rw[this];simp only[cond_false];rw[zT hN hdr (by omega),h1];simp
 ·have:decide (tQ (g:Int) 1>0)=true:=by
   unfold tQ;rw[if_neg (by omega),if_neg (by omega)];rfl
  rw[this];simp only[cond_true];rw[dK hN hz hgr,dK hN hdr hgr,if_neg (by omega),if_neg (by omega)];simp only[pC];have hq:Rg (ab n/(g:Int)):=⟨p3 hz.lo (by omega),fl (b9 _ hz.lo) hz.hi⟩
  have hq2:Rg ((d:Int)/(g:Int)):=⟨p3 (by omega) (by omega),fl (b9 _ (by omega)) hdr.hi⟩
  have hq3:1≤(d:Int)/(g:Int):=by have:=Int.ediv_pos_of_pos_of_dvd (a:=(d:Int)) (b:=(g:Int)) (by omega) (by omega) hdd;omega
  rw[dH _ hq,zT hN hq2 hq3,jz (by omega) hdn];rfl
theorem bG {q:Rat}(h:Fq 4096 q):Q40.f N (qs q) (qn q) (ql q)=some (enc (4294967296:Int) (q.den:Int)):=by
 unfold Q40.f ql;have h1:=h.den_rg (hE _);rw[zP hN];simp only[pC];rw[Cr hN (h.less_rg (hE _)) Gu,show(q.den:Int)-1+1=(q.den:Int) by omega];unfold ov oe;rw[if_pos h1.hi,if_pos h1.hi];rfl
omit hN in
theorem tY {x:Int}:Q38.f N (sg x) (pB x)=some (qs (x:Rat),qn (x:Rat),ql (x:Rat)):=by
 unfold Q38.f qs qn ql;rw[e7,nc,show((1:Nat):Int)-1=0 from rfl,bJ B2]
theorem jR {x:Int}(h:Bd 63 x):Q55.f N x=some (qs (x:Rat),qn (x:Rat),ql (x:Rat)):=by
 unfold Q55.f;rw[lg hN h (hE _)];simp only[pC];rw[tY];rfl
omit hN in
theorem na {k:Nat}{x:Int}(h:Bd k x)(hk:0<k):Fq k (x:Rat):=⟨by rw[e7];exact h,by rw[nc];exact oR hk⟩
omit hN in
theorem fN {k:Nat}{n:Int}{d:Nat}(hn:Bd k n)(hd:Bd k (d:Int))(hk:0<k):Fq k (mkRat n d):=by
 by_cases h0:d=0
 ·subst h0;rw[Rat.mkRat_zero];exact⟨Cw k,oR hk⟩
 ·constructor
  ·rw[po,if_neg h0];exact hn.div _
  ·rw[pn,if_neg h0,Int.natCast_ediv];exact hd.div _
omit hN in
theorem Fq.pos {k:Nat}{q:Rat}(h:Fq k q):0<k:=hT fun hc=>by
 have h1:=h.2;have h2:=lH q;rw[show k=0 by omega]at h1;unfold Bd at h1;omega
omit hN in
theorem Fq.mul {k l:Nat}{p q:Rat}(hp:Fq k p)(hq:Fq l q):Fq (k+l) (p*q):=by
 have h0:=hp.pos;rw[Rat.mul_def'];exact fN (hp.1.mul hq.1) (by rw[x5];exact hp.2.mul hq.2) (by omega)
omit hN in
theorem Fq.add {k l:Nat}{p q:Rat}(hp:Fq k p)(hq:Fq l q):Fq (k+l+1) (p+q):=by
 rw[Rat.add_def'];refine fN ((hp.1.mul hq.2).add ?_) (by rw[x5];exact(hp.2.mul hq.2).mono (by omega)) (by omega);rw[Nat.add_comm k l];exact hq.1.mul hp.2
omit hN in
theorem Fq.neg {k:Nat}{p:Rat}(hp:Fq k p):Fq k (-p):=⟨hp.1.neg,hp.2⟩
section
variable {k:Nat}{p q:Rat}(hp:Fq k p)(hq:Fq k q)(hk:k≤2047)
include hp hq hk
omit hq in
theorem eZ {n:Int}{d:Nat}(hn:Bd k n)(hd:Bd k (d:Int))(h0:0<d):Q49.f N (qs p) (qn p) (ql p) (sg n) (pB n) (enc (4294967296:Int) (d:Int))=some (qs (mkRat (p.num*n) (p.den*d)),qn (mkRat (p.num*n) (p.den*d)),ql (mkRat (p.num*n) (p.den*d)),0):=by
 unfold Q49.f;have hm:Bd (k+k) ((p.den:Int)*(d:Int)):=hp.2.mul hd;have hmr:=hm.rg (hS (by omega) (by omega)) (by omega);have e1:Q33.f N (qs p) (qn p) (sg n) (pB n)=some (sg (p.num*n),pB (p.num*n),0):=kz hN hp.1 hn (by omega);have e2:=Dn hN (hp.den_rg (by omega)) (hd.rg (by omega) (by omega));rw[e1,bG hN (hp.mono (by omega))];simp only[pC];rw[e2];unfold ov oe;rw[if_pos hmr.hi,if_pos hmr.hi];simp only[pC];rw[←x5]at hm⊢;rw[bY hN ((hp.1.mul hn).mono (by omega)) (hm.mono (by omega)) (sq (c7 p.den_nz) h0)];rfl
theorem oM:Q52.f N (qs p) (qn p) (ql p) (qs q) (qn q) (ql q)=some (qs (p*q),qn (p*q),ql (p*q),0):=by
 unfold Q52.f;rw[bG hN (hq.mono (by omega))];simp only[pC];have:=eZ hN hp hk hq.1 hq.2 (c7 q.den_nz);unfold qs qn at this⊢;rw[this,Rat.mul_def'];rfl
omit hp hq in
theorem oP {n:Int}{d:Nat}(hn:Bd k n)(hd:Bd k (d:Int)):Q46.f N (sg n) (pB n) (enc (4294967296:Int) (d:Int))=some (sg (n*d),pB (n*d),0):=by
 unfold Q46.f;have hdr:Rg (d:Int):=hd.rg (by omega) (by omega);rw[dH false hdr];simp only[pC];show((Q33.f N (sg n) (pB n) (sg (d:Int)) (pB (d:Int))).bind _)=_;rw[kz hN hn hd (by omega)];rfl
theorem q9:Q50.f N (qs p) (qn p) (ql p) (qs q) (qn q) (ql q)=some (qs (p+q),qn (p+q),ql (p+q),0):=by
 unfold Q50.f Q47.f;have d1:=bG hN (hp.mono (show k≤4096 by omega));have d2:=bG hN (hq.mono (show k≤4096 by omega));have c1:Q46.f N (qs p) (qn p) (enc (4294967296:Int) (q.den:Int))=_:=oP hN hk hp.1 hq.2;have c2:Q46.f N (qs q) (qn q) (enc (4294967296:Int) (p.den:Int))=_:=oP hN hk hq.1 hp.2;have hm:Bd (k+k) ((p.den:Int)*(q.den:Int)):=hp.2.mul hq.2;have hmr:=hm.rg (hS (by omega) (by omega)) (by omega);have e2:=Dn hN (hp.den_rg (show k≤4096 by omega)) (hq.den_rg (show k≤4096 by omega));unfold ov oe at e2;rw[if_pos hmr.hi,if_pos hmr.hi]at e2;have e3:=pt hN (i:=k+k) (hp.1.mul hq.2) (hq.1.mul hp.2) (by omega);have hs:=(hp.1.mul hq.2).add (hq.1.mul hp.2);have e4:=bY hN (hs.mono (show k+k+1≤4096 by omega)) (d:=p.den*q.den) (by rw[x5];exact hm.mono (by omega)) (sq (c7 p.den_nz) (c7 q.den_nz));rw[x5]at e4;simp only[d1,d2,c1,c2,e2,pC,bne_self_eq_false,cond_false,e3,e4];rw[←Rat.add_def']
theorem u9:Q51.f N (qs p) (qn p) (ql p) (qs q) (qn q) (ql q)=some (qs (p-q),qn (p-q),ql (p-q),0):=by
 unfold Q51.f Q48.f;have d1:=bG hN (hp.mono (show k≤4096 by omega));have d2:=bG hN (hq.mono (show k≤4096 by omega));have c1:Q46.f N (qs p) (qn p) (enc (4294967296:Int) (q.den:Int))=_:=oP hN hk hp.1 hq.2;have c2:Q46.f N (qs q) (qn q) (enc (4294967296:Int) (p.den:Int))=_:=oP hN hk hq.1 hp.2;have hm:Bd (k+k) ((p.den:Int)*(q.den:Int)):=hp.2.mul hq.2;have hmr:=hm.rg (hS (by omega) (by omega)) (by omega);have e2:=Dn hN (hp.den_rg (show k≤4096 by omega)) (hq.den_rg (show k≤4096 by omega));unfold ov oe at e2;rw[if_pos hmr.hi,if_pos hmr.hi]at e2;have e3:=Es hN (i:=k+k) (hp.1.mul hq.2) (hq.1.mul hp.2) (by omega);have hs:=(hp.1.mul hq.2).sub (hq.1.mul hp.2);have e4:=bY hN (hs.mono (show k+k+1≤4096 by omega)) (d:=p.den*q.den) (by rw[x5];exact hm.mono (by omega)) (sq (c7 p.den_nz) (c7 q.den_nz));rw[x5]at e4;simp only[d1,d2,c1,c2,e2,pC,bne_self_eq_false,cond_false,e3,e4];rw[←Rat.sub_def']
theorem uz (h:q≠0):Q53.f N (qs p) (qn p) (ql p) (qs q) (qn q) (ql q)=some (qs (p/q),qn (p/q),ql (p/q),0):=by
 have hn0:q.num≠0:=fun e=>h (Rat.num_eq_zero.1 e);have e1:Q41.f N (qs q) (qn q) (ql q)=some (sn q.num):=by unfold Q41.f;rw[show Q24.f N (qs q) (qn q)=_ from ao hq.1 (show k≤4096 by omega)];rfl
 unfold Q53.f;have hdr:=hq.den_rg (show k≤4096 by omega);have e3:=dH (N:=N) (decide (sn q.num<0)) hdr;have hb:Bd k (sv (decide (sn q.num<0)) (q.den:Int)):=by
  unfold sv;split
  ·exact hq.2.neg
  ·exact hq.2
 have e4:=eZ hN hp hk hb (d:=q.num.natAbs) (by unfold Bd;rw[fo];exact hq.1) (by omega);rw[e1];simp only[pC,I7,decide_eq_false hn0,cond_false,bG hN (hq.mono (show k≤4096 by omega)),e3];have e5:Q26.f N (qs q) (qn q)=some (enc (4294967296:Int) (q.num.natAbs:Int)):=by show some (enc (4294967296:Int) (ab q.num))=_;rw[cM]
 have e6:mkRat (p.num*sv (decide (sn q.num<0)) (q.den:Int)) (p.den*q.num.natAbs)=p/q:=by
  rw[←Rat.mkRat_mul_mkRat,Rat.mkRat_self,oj];congr 1;rw[Rat.inv_def,ow];rcases pR q.num 0 with h|h
  ·rw[decide_eq_true h];show mkRat (-(q.den:Int)) q.num.natAbs=_;rw[←Rat.divInt_ofNat,←Rat.neg_divInt_neg,nn];congr 1;omega
  ·rw[decide_eq_false (by omega)];show mkRat (q.den:Int) q.num.natAbs=_;rw[←Rat.divInt_ofNat];congr 1;omega
 rw[e5];simp only[pC];rw[e4,e6];rfl
end
omit hN in
theorem vg {k:Nat}{p:Rat}(hp:Fq k p)(hk:k≤4096):Q45.f N (qs p) (qn p) (ql p)=some (qs (-p),qn (-p),ql (-p)):=by
 unfold Q45.f;rw[show Q27.f N (qs p) (qn p)=_ from Jx hp.1 hk];rfl
end
theorem kv {v:Int}(h:0≤v):v=0∨0<v:=by omega
theorem eY {a d:Int}(hd:0<d):(-a)%d=if a%d=0 then 0 else d-a%d:=by
 have h1:=hQ a (show d≠0 by omega);have h2:=hL a hd;have h3:=j5 a d;by_cases e:a%d=0
 ·rw[if_pos e];exact Int.emod_eq_zero_of_dvd (Int.dvd_neg.2 (Int.dvd_of_emod_eq_zero e))
 ·rw[if_neg e];have: -a=(d-a%d)+d*(-(a/d)-1):=by
   rw[ry,ch,rp];omega
  rw[this,e9,gi (by omega) (by omega)]
theorem Ah {a d:Int}(hd:0<d):(-a)/d=if a%d=0 then-(a/d)else-(a/d)-1:=by
 have h1:=eY (a:=a) hd;have h2:=j5 a d;have h3:=j5 (-a) d;have h5:=hQ a (show d≠0 by omega);have h6:=hL a hd;refine Int.eq_of_mul_eq_mul_left (show d≠0 by omega) ?_;by_cases e:a%d=0
 ·rw[if_pos e]at h1⊢;rw[ch];omega
 ·rw[if_neg e]at h1⊢;rw[ry,ch,rp];omega
section
variable {N:Nat}(hN:1000000001<N){k:Nat}{q:Rat}(hq:Fq k q)(hk:k≤4095)
include hN hq hk
theorem yP:Q42.f N (qs q) (qn q) (ql q)=some (enc (4294967296:Int) (q.num%q.den)):=by
 have hd:=lH q;have hdr:=hq.den_rg (show k≤4096 by omega);have hz:=hq.1.zr (show k≤4096 by omega);unfold Q42.f;have e0:Q26.f N (qs q) (qn q)=some (enc (4294967296:Int) (ab q.num)):=rfl;have e1:=bG hN (hq.mono (show k≤4096 by omega));have e2:=dK hN hz hdr;rw[if_neg (by omega)]at e2;have e3:Q24.f N (qs q) (qn q)=some (sn q.num):=ao hq.1 (by omega);have hr0:=hQ (ab q.num) (show(q.den:Int)≠0 by omega);have hr1:=hL (ab q.num) hd;have hrr:Rg (ab q.num%(q.den:Int)):=⟨hr0,by have:=hdr.hi;omega⟩
 simp only[e0,e1,e2,e3,pC,ow];rcases aG q.num with⟨a,b⟩|⟨a,b⟩
 ·rw[decide_eq_false (by omega),b];rfl
 ·rw[decide_eq_true a,b];rw[b]at hr0 hr1 hrr;simp only[cond_true,mO hrr,pC];have hne:=eY (a:= -q.num) hd;rw[nn]at hne;rw[hne,pz hr0];rcases kv hr0 with h|h
  ·rw[if_pos h,h,decide_eq_false (by omega)];rfl
  ·rw[if_neg (by omega),decide_eq_true h];simp only[cond_true];rw[cQ hN hdr.lo hdr.hi hr0,if_neg (by omega)];rfl
theorem eN:Q43.f N (qs q) (qn q) (ql q)=some (sg q.floor,pB q.floor):=by
 have hd:=lH q;have hdr:=hq.den_rg (show k≤4096 by omega);have hz:=hq.1.zr (show k≤4096 by omega);unfold Q43.f;have e0:Q26.f N (qs q) (qn q)=some (enc (4294967296:Int) (ab q.num)):=rfl;have e1:=bG hN (hq.mono (show k≤4096 by omega));have e2:=dK hN hz hdr;rw[if_neg (by omega)]at e2;have e3:Q24.f N (qs q) (qn q)=some (sn q.num):=ao hq.1 (by omega);have hq0:0≤ab q.num/(q.den:Int):=p3 hz.lo (by omega);have hqr:Rg (ab q.num/(q.den:Int)):=⟨hq0,fl (b9 _ hz.lo) hz.hi⟩
 simp only[e0,e1,e2,e3,pC,yP hN hq hk];rw[fs];rcases aG q.num with⟨a,b⟩|⟨a,b⟩
 ·have:decide (sn q.num≥0)=true:=by
   rcases qM q.num with⟨h,e⟩|⟨h,e⟩|⟨h,e⟩<;>rw[e]<;>first|rfl|omega
  rw[this];simp only[cond_true];rw[dH false hqr,b];rfl
 ·have:decide (sn q.num≥0)=false:=by
   rcases qM q.num with⟨h,e⟩|⟨h,e⟩|⟨h,e⟩<;>rw[e]<;>first|rfl|omega
  rw[this];simp only[cond_false];have hm0:=hQ q.num (show(q.den:Int)≠0 by omega);have hm1:=hL q.num hd;have hmr:Rg (q.num%(q.den:Int)):=⟨hm0,by have:=hdr.hi;omega⟩
  have hne:=eY (a:= -q.num) hd;rw[nn]at hne;have hnd:=Ah (a:= -q.num) hd;rw[nn]at hnd;have hb0:=hQ (-q.num) (show(q.den:Int)≠0 by omega);have hb1:=hL (-q.num) hd;rw[mO hmr];simp only[pC];rw[pz hm0,hnd];rw[b]at hq0 hqr;by_cases e:(-q.num)%(q.den:Int)=0
  ·rw[if_pos e]at hne⊢;rw[hne,decide_eq_false (by omega)];simp only[cond_false];rw[b,dH true hqr];rfl
  ·rw[if_neg e]at hne⊢;rw[decide_eq_true (by omega)];simp only[cond_true,zP hN,pC];rw[b,Cr hN hqr Gu];have hup: -q.num/(q.den:Int)+1<K:=by
    have h1:=(hq.1.mono hk).lt;have h2: -q.num/(q.den:Int)≤ -q.num:=b9 _ (by omega);have h3:(2:Int)^4096=2*2^4095:=by decide+kernel
    have h4:(1:Int)<2^4095:=by decide+kernel
    show _<(2:Int)^4096;rw[h3];generalize(2:Int)^4095=T at*;omega
   unfold ov;rw[if_pos hup];simp only[pC];rw[dH true ⟨by omega,hup⟩];show some (sg (-(-q.num/(q.den:Int)+1)),pB (-(-q.num/(q.den:Int)+1)))=_;rw[show-(-q.num/(q.den:Int)+1)= -(-q.num/(q.den:Int))-1 by omega]
omit hN hk in
theorem jM:Bd k q.floor:=by rw[fs];exact hq.1.div _
theorem og:∃z:Int,Q44.f N (qs q) (qn q) (ql q)=some (sg z,pB z)∧Bd (k+1) z∧(z:Rat)-1/2≤q∧q≤(z:Rat)+1/2:=by
 have hd:=lH q;have hdr:=hq.den_rg (show k≤4096 by omega);have hm0:=hQ q.num (show(q.den:Int)≠0 by omega);have hm1:=hL q.num hd;have hmr:Rg (q.num%(q.den:Int)):=⟨hm0,by have:=hdr.hi;omega⟩
 have hlr:Rg ((q.den:Int)-q.num%(q.den:Int)):=⟨by omega,by have:=hdr.hi;omega⟩
 have hem:=j5 q.num q.den;have hval:(q.den:Rat)*q=(q.num:Rat):=by
  have:=Rat.mkRat_self q;rw[Rat.mkRat_eq_div]at this;have hne:(q.den:Rat)≠0:=by
   have:(0:Rat)<(q.den:Rat):=by rw[←p5];exact_mod_cast hd
   grind
  grind
 have hdq:(0:Rat)<(q.den:Rat):=by rw[←p5];exact_mod_cast hd
 have hfl:(q.num:Rat)=((q.num%(q.den:Int):Int):Rat)+(q.den:Rat)*(q.floor:Rat):=by rw[fs,←p5,←c5,←c6];congr 1;omega
 unfold Q44.f;simp only[yP hN hq hk,eN hN hq hk,bG hN (hq.mono (show k≤4096 by omega)),pC];rw[cQ hN hdr.lo hdr.hi hm0,if_neg (by omega)];simp only[pC];rw[xx hN hmr hlr];simp only[pC];rw[br];have key:∀z:Int,(q.den:Rat)*(z:Rat)- (q.den:Rat)*(1/2)≤(q.den:Rat)*q→(q.den:Rat)*q≤(q.den:Rat)*(z:Rat)+(q.den:Rat)*(1/2)→(z:Rat)-1/2≤q∧q≤(z:Rat)+1/2:=fun z h1 h2=>
  ⟨x9 (by grind) hdq,x9 (by grind) hdq⟩
 by_cases h:q.num%(q.den:Int)<(q.den:Int)-q.num%(q.den:Int)
 ·rw[decide_eq_true h];refine⟨q.floor,rfl,(jM hq).mono (by omega),key _ ?_ ?_⟩
  ·rw[hval,hfl];have:(0:Rat)≤((q.num%(q.den:Int):Int):Rat):=by exact_mod_cast hm0
   grind
  ·rw[hval,hfl];have h2:((2*(q.num%(q.den:Int)):Int):Rat)≤((q.den:Int):Rat):=j4.2 (by omega);rw[c5,p5]at h2;have h2:2*((q.num%(q.den:Int):Int):Rat)≤(q.den:Rat):=by simpa using h2
   grind
 ·rw[decide_eq_false h];have e1:=lg (N:=N) hN (i:=63) (x:=1) (oR (by omega)) (by omega);have e2:=pt hN ((jM hq)) (oR hq.pos) (by omega);simp only[cond_false,e1,e2,pC];refine⟨q.floor+1,rfl,(jM hq).add (oR hq.pos),key _ ?_ ?_⟩
  ·rw[hval,hfl,c6];have h2:((q.den:Int):Rat)≤((2*(q.num%(q.den:Int)):Int):Rat):=j4.2 (by omega);rw[c5,p5]at h2;have h2:(q.den:Rat)≤2*((q.num%(q.den:Int):Int):Rat):=by simpa using h2
   have h3:((1:Int):Rat)=1:=by simp
   grind
  ·rw[hval,hfl,c6];have h2:((q.num%(q.den:Int):Int):Rat)≤((q.den:Int):Rat):=j4.2 (by omega);rw[p5]at h2;have h3:((1:Int):Rat)=1:=by simp
   grind
end
def vQ (x y:Rat):Int:=if x=y then 0 else if x<y then-1 else 1
def fr (x:Rat):Rat:=x- (x.floor:Rat)
theorem F8 (x:Rat):fr x=mkRat (x.num%x.den) x.den:=by
 unfold fr;rw[Rat.sub_def',e7,nc,fs];have hem:=j5 x.num x.den;congr 1
 ·rw[show((1:Nat):Int)=1 from rfl,rp,r8 (x.num/(x.den:Int))];omega
 ·omega
theorem zj (x:Rat):x.den.gcd (x.num%(x.den:Int)).natAbs=1:=by
 have h1:=x.reduced;unfold Nat.Coprime at h1;have h2:Int.gcd (x.num%(x.den:Int)) (x.den:Int)=Int.gcd x.num (x.den:Int):=by
  rw[Int.gcd_comm,Int.gcd_comm x.num];refine Nat.dvd_antisymm ?_ ?_
  ·refine Int.dvd_gcd (c9 _ _) ?_;have h1:=c9 (x.den:Int) (x.num%(x.den:Int));have h2:=Int.gcd_dvd_right (x.den:Int) (x.num%(x.den:Int));have:=Int.dvd_add h2 (ln (c:=x.num/(x.den:Int)) h1);rwa[j5]at this
  ·refine Int.dvd_gcd (c9 _ _) ?_;have h1:=c9 (x.den:Int) x.num;have h2:=Int.gcd_dvd_right (x.den:Int) x.num;rw[Int.emod_def];exact Int.dvd_sub h2 (ln h1)
 unfold Int.gcd at h2;rw[fo]at h2;rw[iv,h2,h1]
theorem cm (x:Rat):(fr x).num=x.num%x.den:=by
 rw[F8,po,if_neg x.den_nz,zj];simp
theorem Gi (x:Rat):(fr x).den=x.den:=by
 rw[F8,pn,if_neg x.den_nz,zj];simp
theorem tm (x:Rat):0≤fr x:=by
 rw[←Rat.num_nonneg,cm];exact hQ _ (by have:=lH x;omega)
theorem yV {x:Rat}:fr x=0↔x.num%x.den=0:=by rw[←cm,Rat.num_eq_zero]
theorem nf {x:Rat}(h:x.num%(x.den:Int)≠0):0<fr x:=by
 have h1:=tm x;have h2:fr x≠0:=fun e=>h (yV.1 e);grind
theorem cn {x:Rat}(h:x.num%(x.den:Int)≠0):(fr x)⁻¹.num=(x.den:Int):=by
 have h0:=hQ x.num (show(x.den:Int)≠0 by have:=lH x;omega);rw[Rat.num_inv,cm,Gi,Int.sign_eq_one_of_pos (by omega)];simp
theorem zV {x:Rat}(h:x.num%(x.den:Int)≠0):((fr x)⁻¹.den:Int)=x.num%(x.den:Int):=by
 have h0:=hQ x.num (show(x.den:Int)≠0 by have:=lH x;omega);rw[Rat.den_inv,cm,if_neg h];omega
theorem zy {a b:Rat}(ha:0<a)(hb:0<b):a⁻¹ <b⁻¹ ↔b<a:=by
 have h1:a*b*a⁻¹ =b:=by grind
 have h2:a*b*b⁻¹ =a:=by grind
 have hab:=x6 ha hb;constructor
 ·intro h;have:=r9 h hab;rwa[h1,h2]at this
 ·intro h;refine Rat.lt_of_mul_lt_mul_left (c:=a*b) ?_ (j2 hab);rwa[h1,h2]
theorem xy {a b:Rat}(ha:0<a)(hb:0<b):vQ a⁻¹ b⁻¹ = -vQ a b:=by
 have h1:=zy ha hb;have h2:=zy hb ha;unfold vQ;by_cases e:a=b
 ·subst e;simp
 ·have e':a⁻¹ ≠b⁻¹ :=fun h=>e (by
   have h3:¬b<a:=fun q=>by have:=h1.2 q;rw[h]at this;exact absurd this (Rat.lt_irrefl)
   have h4:¬a<b:=fun q=>by have:=h2.2 q;rw[h]at this;exact absurd this (Rat.lt_irrefl)
   grind)
  rw[if_neg e',if_neg e];by_cases h:a<b
  ·rw[if_pos h,if_neg (by rw[h1];grind)];rfl
  ·rw[if_neg h,if_pos (by rw[h1];grind)]
theorem D0 {x y:Rat}(h:x.floor=y.floor):vQ (fr x) (fr y)=vQ x y:=by
 unfold vQ fr;rw[h];by_cases e:x=y
 ·rw[if_pos e,e,if_pos rfl]
 ·rw[if_neg e,if_neg (by grind)];by_cases h:x<y
  ·rw[if_pos h,if_pos (by grind)]
  ·rw[if_neg h,if_neg (by grind)]
theorem mf {x y:Rat}(h:x.floor≠y.floor):vQ x y=tQ x.floor y.floor:=by
 have a1:=py x;have a2:=dd x;have b1:=py y;have b2:=dd y;unfold vQ tQ;rw[if_neg h,if_neg fun e=>h (by rw[e])];by_cases hl:x.floor<y.floor
 ·rw[if_pos hl];have h3:((x.floor+1:Int):Rat)≤(y.floor:Rat):=j4.2 (by omega);rw[if_pos (by grind)]
 ·rw[if_neg hl];have h3:((y.floor+1:Int):Rat)≤(x.floor:Rat):=j4.2 (by omega);rw[if_neg (by grind)]
theorem n9 {N:Nat}(hN:1000000001<N){x:Rat}(hx:Fq 4095 x)(h:x.num%(x.den:Int)≠0):
  Q39.f N (enc (4294967296:Int) (x.den:Int)) (enc (4294967296:Int) (x.num%(x.den:Int)))=some (qs (fr x)⁻¹,qn (fr x)⁻¹,ql (fr x)⁻¹):=by
 have hd:=lH x;have hdr:=hx.den_rg (show 4095≤4096 by omega);have hm0:=hQ x.num (show(x.den:Int)≠0 by omega);have hm1:=hL x.num hd;have hmr:Rg (x.num%(x.den:Int)):=⟨hm0,by have:=hdr.hi;omega⟩
 unfold Q39.f qs qn ql;rw[cn h,zV h,zP hN];simp only[pC];rw[zT hN hmr (by omega)];simp only[pC];rw[dH false hdr];rfl
theorem wW {N:Nat}(hN:1000000001<N){R:Type}(kr:Int→Option R):∀(n:Nat) (s:Int) (x y:Rat),Fq 4095 x→Fq 4095 y→(s=1∨s= -1)→x.den<n→
  Q54.l2 N n s (qs x) (qn x) (ql x) (qs y) (qn y) (ql y) kr=kr (s*vQ x y):=by
 intro n;induction n with
 |zero=>intro s x y _ _ _ h;omega
 |succ n ih=>
  intro s x y hx hy hs hn;have hdx:=lH x;have hdy:=lH y;have hm0:=hQ x.num (show(x.den:Int)≠0 by omega);have hm1:=hL x.num hdx;have hmr:Rg (x.num%(x.den:Int)):=⟨hm0,by have:=(hx.den_rg (show 4095≤4096 by omega)).hi;omega⟩
  have hn0:=hQ y.num (show(y.den:Int)≠0 by omega);have hn1:=hL y.num hdy;have hnr:Rg (y.num%(y.den:Int)):=⟨hn0,by have:=(hy.den_rg (show 4095≤4096 by omega)).hi;omega⟩
  have hw:fA (0-s)= -s:=by rcases hs with rfl|rfl<;>decide
  rw[Q54.l2];simp only[eN hN hx (by omega),eN hN hy (by omega),pC,Er hN (jM hx) (jM hy) (show 4095≤4096 by omega) (show 4095≤4096 by omega)];by_cases hf:x.floor=y.floor
  ·have:tQ x.floor y.floor=0:=by unfold tQ;rw[if_pos hf]
   rw[this];simp only[bne_self_eq_false,cond_false,yP hN hx (by omega),yP hN hy (by omega),pC,mO hmr,mO hnr,gj hm0,gj hn0,hw];have hfx:=D0 hf;by_cases e1:x.num%(x.den:Int)=0
   ·have f1:=yV.2 e1;by_cases e2:y.num%(y.den:Int)=0
    ·have f2:=yV.2 e2;rw[decide_eq_true e1,decide_eq_true e2];simp only[cond_true];rw[←hfx,f1,f2];simp[vQ]
    ·have f2:=nf e2;rw[decide_eq_true e1,decide_eq_false e2];simp only[cond_true,cond_false];rw[←hfx,f1];unfold vQ;rw[if_neg (by grind),if_pos f2];congr 1;omega
   ·have f1:=nf e1;by_cases e2:y.num%(y.den:Int)=0
    ·have f2:=yV.2 e2;rw[decide_eq_false e1,decide_eq_true e2];simp only[cond_true,cond_false];rw[←hfx,f2];unfold vQ;rw[if_neg (by grind),if_neg (by grind)];congr 1;omega
    ·have f2:=nf e2;rw[decide_eq_false e1,decide_eq_false e2];simp only[cond_false,bG hN (hx.mono (show 4095≤4096 by omega)),bG hN (hy.mono (show 4095≤4096 by omega)),pC,n9 hN hx e1,n9 hN hy e2];have hx':Fq 4095 (fr x)⁻¹ :=⟨by rw[cn e1];exact hx.2,by rw[zV e1];exact hx.2.le (by omega)⟩
     have hy':Fq 4095 (fr y)⁻¹ :=⟨by rw[cn e2];exact hy.2,by rw[zV e2];exact hy.2.le (by omega)⟩
     rw[ih (-s) _ _ hx' hy' (by rcases hs with rfl|rfl<;>simp) (by have:=zV e1;omega),xy f1 f2,hfx,cy]
  ·have hc:tQ x.floor y.floor=1∨tQ x.floor y.floor= -1:=by
    unfold tQ;rw[if_neg hf];split<;>simp
   have hne:(tQ x.floor y.floor != 0)=true:=by rcases hc with h|h<;>rw[h]<;>rfl
   rw[hne];simp only[cond_true];rw[mf hf];congr 1;rcases hs with rfl|rfl<;>rcases hc with h|h<;>rw[h]<;>decide
theorem uy {N:Nat}(hN:1000000001<N){x y:Rat}(hx:Fq 4095 x)(hy:Fq 4095 y)(hn:x.den<N):Q54.f N (qs x) (qn x) (ql x) (qs y) (qn y) (ql y)=some (vQ x y):=by
 unfold Q54.f;rw[wW hN _ N 1 x y hx hy (Or.inl rfl) hn,Int.one_mul]
end Go.Proofs.YtijigofaaefldaaGreat.Law
