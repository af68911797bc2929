import Derived.Test.YteaakcmkpacpaaaA4
import Derived.KernelRfl
open Nat renaming dvd_trans→hA,mul_comm→hC,pos_of_ne_zero→pC,lt_or_ge→hD,dvd_of_mod_eq_zero→aE,mod_eq_zero_of_dvd→hE,mul_assoc→zE
open List renaming mem_cons_of_mem→hB
set_option linter.unusedVariables false
set_option linter.unusedSimpArgs false
namespace Go.Proofs.Yteaakcmkpacpaaa.Gen
open Go Go.Proofs.Yteaakcmkpacpaaa.Ev
open Go.Proofs.Yteaakcmkpacpaaa.Pure (lA ed)
def sF (p:Nat):Prop:=1<p∧∀m,m∣p→m=1∨m=p
theorem sF.cop {p a:Nat}(h:sF p)(ha:¬p∣a):Nat.gcd a p=1:=by
 rcases h.2 _ (Nat.gcd_dvd_right a p)with e|e
 ·exact e
 ·exact absurd (by have:=Nat.gcd_dvd_left a p;rwa[e]at this) ha
abbrev PL:=List (Nat×Nat)
def cH:PL→Nat
 | []=>1
 |x::l=>x.1^x.2*cH l
theorem uW:∀a b:PL,cH (a++b)=cH a*cH b
 | [],b=>(Nat.one_mul _).symm
 |x::a,b=>by simp only[List.cons_append,cH];rw[uW a b,zE]
structure Fz (n:Nat)(l:PL):Prop where
 up:l.Pairwise (fun a b=>a.1<b.1)
 pr:∀x∈l,sF x.1∧0<x.2
 prod:cH l=n
theorem x8:∀{l:PL},(∀x∈l,sF x.1∧0<x.2)→l.length<cH l
 | [],_=>by simp[cH]
 |x::l,h=>by have ih:=x8 (l:=l) (fun y hy=>h y (hB _ hy));obtain⟨h1,h2⟩:=h x (by simp);have h3:1<x.1^x.2:=Nat.one_lt_pow (by omega) h1.1;simp only[cH,List.length_cons];have:=Nat.mul_le_mul (show 2≤x.1^x.2 by omega) (Nat.le_refl (cH l));omega
def Fr (p n:Nat):Prop:=∀m,1<m→m∣n→p≤m
theorem Fr.prime {p n:Nat}(h:Fr p n)(hp:1<p)(hd:p∣n):sF p:=
 ⟨hp,fun m hm=>by
  have h0:0<m:=Nat.pos_of_dvd_of_pos hm (by omega);rcases hD 1 m with h1|h1
  ·have:=h m h1 (hA hm hd);have:=Nat.le_of_dvd (by omega) hm;exact .inr (by omega)
  ·exact .inl (by omega)⟩
theorem Fr.last {p n:Nat}(h:Fr p n)(hn:1<n)(hs:n<p*p):sF n:=
 ⟨hn,fun m hm=>by
  obtain⟨k,rfl⟩:=hm;have hm0:0<m:=pC fun e=>by subst e;simp at hn
  have hk0:0<k:=pC fun e=>by subst e;simp at hn
  rcases hD 1 m with h1|h1
  ·rcases hD 1 k with h2|h2
   ·have a1:=h m h1 ⟨k,rfl⟩;have a2:=h k h2 ⟨m,hC _ _⟩;have:=Nat.mul_le_mul a1 a2;omega
   ·have:k=1:=by omega
    subst this;exact .inr (by omega)
  ·exact .inl (by omega)⟩
theorem Fr.dvd {p n m:Nat}(h:Fr p n)(hm:m∣n):Fr p m:=fun k h1 h2=>h k h1 (hA h2 hm)
theorem Fr.succ {p n:Nat}(h:Fr p n)(hd:¬p∣n):Fr (p+1) n:=fun m h1 h2=>by
 have:=h m h1 h2;rcases hD p m with h3|h3
 ·omega
 ·have:m=p:=by omega
  subst this;exact absurd h2 hd
structure St (n0 p n:Nat)(l:PL):Prop where
 up:l.Pairwise (fun a b=>a.1<b.1)
 pr:∀x∈l,sF x.1∧0<x.2∧x.1<p
 prod:cH l*n=n0
 fr:Fr p n
 pos:0<n
theorem St.len {n0 p n:Nat}{l:PL}(h:St n0 p n l):l.length<n0+1∧n≤n0:=by
 have h1:=x8 (l:=l) (fun x hx=>⟨(h.pr x hx).1,(h.pr x hx).2.1⟩);have h2:=h.prod;have h3:=h.pos;have:=Nat.le_mul_of_pos_right (cH l) h3;have:=Nat.le_mul_of_pos_left n (show 0<cH l by omega);omega
theorem St.step {n0 p j m:Nat}{l:PL}(h:St n0 p (p^j*m) l)(hp:1<p)(hd:¬p∣m):St n0 (p+1) m (if 0<j then l++[(p,j)]else l):=by
 have hm:0<m:=pC fun e=>by subst e;exact hd (Nat.dvd_zero _)
 by_cases h0:0<j
 ·rw[if_pos h0];have hpp:sF p:=h.fr.prime hp (hA (hA (by simp) (Nat.pow_dvd_pow p (show 1≤j by omega))) ⟨m,rfl⟩);refine⟨?_,fun x hx=>?_,?_,(h.fr.dvd ⟨p^j,hC _ _⟩).succ hd,hm⟩
  ·rw[List.pairwise_append];exact⟨h.up,by simp,fun a ha b hb=>by simp only[List.mem_singleton]at hb;subst hb;exact(h.pr a ha).2.2⟩
  ·simp only[List.mem_append,List.mem_singleton]at hx;rcases hx with hx|rfl
   ·exact⟨(h.pr x hx).1,(h.pr x hx).2.1,by have:=(h.pr x hx).2.2;omega⟩
   ·exact⟨hpp,h0,by simp⟩
  ·rw[uW];simp only[cH,Nat.mul_one];rw[zE];exact h.prod
 ·rw[if_neg h0];have:j=0:=by omega
  subst this;have hf:=h.prod;rw[Nat.pow_zero,Nat.one_mul]at hf;exact⟨h.up,fun x hx=>⟨(h.pr x hx).1,(h.pr x hx).2.1,by have:=(h.pr x hx).2.2;omega⟩,hf,(h.fr.dvd ⟨p^0,hC _ _⟩).succ hd,hm⟩
theorem St.skip {n0 p n:Nat}{l:PL}(h:St n0 p n l)(hp:2<p)(he:p%2=0):St n0 (p+1) n l:=
 ⟨h.up,fun x hx=>⟨(h.pr x hx).1,(h.pr x hx).2.1,by have:=(h.pr x hx).2.2;omega⟩,h.prod,h.fr.succ fun hd=>by have:=h.fr 2 (by omega) (hA (aE he) hd);omega,h.pos⟩
theorem sF.dvd_mul {p a b:Nat}(h:sF p)(hd:p∣a*b):p∣a∨p∣b:=by
 by_cases ha:p∣a
 ·exact .inl ha
 ·exact .inr ((Nat.Coprime.symm (h.cop ha)).dvd_of_dvd_mul_left hd)
theorem sF.dvd_pow {p a:Nat}(h:sF p):∀{k:Nat},p∣a^k→p∣a
 |0,hd=>by have:=h.1;have:=Nat.dvd_one.mp (by simpa using hd);omega
 |k+1,hd=>by
  rw[Nat.pow_succ]at hd;rcases h.dvd_mul hd with h1|h1
  ·exact sF.dvd_pow h h1
  ·exact h1
theorem sF.eq {p q:Nat}(h:sF p)(k:sF q)(hd:p∣q):p=q:=(k.2 p hd).resolve_left (by have:=h.1;omega)
theorem sF.in_prod {p:Nat}(h:sF p):∀{l:PL},(∀x∈l,sF x.1∧0<x.2)→p∣cH l→∃x∈l,x.1=p
 | [],_,hd=>by have:=h.1;have:=Nat.dvd_one.mp hd;omega
 |x::l,hl,hd=>by
  rcases h.dvd_mul hd with h1|h1
  ·exact⟨x,by simp,(h.eq (hl x (by simp)).1 (h.dvd_pow h1)).symm⟩
  ·obtain⟨y,h2,h3⟩:=sF.in_prod h (fun y hy=>hl y (hB _ hy)) h1;exact⟨y,hB _ h2,h3⟩
end Go.Proofs.Yteaakcmkpacpaaa.Gen
namespace Go.Proofs.Yteaakcmkpacpaaa.Jac
def sm (f:Nat→Nat):Nat→Nat
 |0=>0
 |n+1=>sm f n+f (n+1)
def neg (n x:Nat):Nat:=if n<2*(x%n)then 1 else 0
def mu (a n:Nat):Nat:=sm (fun k=>neg n (a*k)) (n/2)
def Pr (p:Nat):Prop:=2≤p∧∀d,d∣p→d=1∨d=p
theorem Pr.cop {p x:Nat}(hp:Pr p)(h:x%p≠0):Nat.gcd x p=1:=by
 rcases hp.2 _ (Nat.gcd_dvd_right x p)with e|e
 ·exact e
 ·exact absurd (hE (by have:=Nat.gcd_dvd_left x p;rwa[e]at this)) h
theorem Pr.unit {p x:Nat}(hp:Pr p)(h1:1≤x)(h2:x<p):x%p≠0:=by rw[Nat.mod_eq_of_lt h2];omega
theorem Pr.mul {p x y:Nat}(hp:Pr p)(hx:x%p≠0)(hy:y%p≠0):(x*y)%p≠0:=by
 intro h;have hd:=aE h;have:=Nat.Coprime.dvd_of_dvd_mul_left (show Nat.Coprime p x by rw[Nat.Coprime,Nat.gcd_comm];exact hp.cop hx) hd;exact hy (hE this)
open Go Go.Proofs.Yteaakcmkpacpaaa.Ev
theorem lA {n:Int}(h1: -9223372036854775808≤n)(h2:n<9223372036854775808):aA n=n:=by
 simp only[aA,IntKind.wrap];simp[IntKind.bits,IntKind.signed];omega
theorem rA {n:Int}(h1:0≤n)(h2:n<18446744073709551616):pA n=n:=by
 simp only[pA,IntKind.wrap];simp[IntKind.bits,IntKind.signed];omega
def rs (a:Int)(n:Nat):Nat:=(a%(n:Int)).toNat
inductive Sy:Int→Prop
 |m4:Sy (-4)
 |p8:Sy 8
 |m8:Sy (-8)
 |pr (p:Nat) (hp:Pr p) (h3:3≤p) (ho:p%2=1) (hb:p≤65536):Sy (p:Int)
end Go.Proofs.Yteaakcmkpacpaaa.Jac
namespace Go.Proofs.Yteaakcmkpacpaaa.Gen
open Go Go.Proofs.Yteaakcmkpacpaaa.Ev
open Go.Proofs.Yteaakcmkpacpaaa.Cls (th kZ)
abbrev N0:Nat:=8589934700
theorem al {d:Int}{l:List Int}(hd:th d)(h:Q72.f N0 d=some l):Q75.f N0 d=some (l,0):=by
 obtain⟨R,r1,r2,r3,r4,r5⟩:=kZ (N:=N0) (by decide) hd;rw[r4]at h;obtain rfl:=Option.some.inj h;exact r3
theorem wj:Q75.f N0 (-20)=some ([1,0,5,2,2,3],0):=al (d:= -20) (l:=[1,0,5,2,2,3]) ⟨by decide,by decide,by decide⟩ (by kernel_rfl)
theorem wq:Q93.f N0 (-20)=some ([[1,0,5],[2,2,3]],0):=by
 unfold Q93.f;rw[wj]
 kernel_rfl
theorem wk:Q75.f N0 (-23)=some ([1,1,6,2, -1,3,2,1,3],0):=al (d:= -23) (l:=[1,1,6,2, -1,3,2,1,3]) ⟨by decide,by decide,by decide⟩ (by kernel_rfl)
theorem wu:Q93.f N0 (-23)=some ([[1,1,6,2, -1,3,2,1,3]],0):=by
 unfold Q93.f;rw[wk]
 kernel_rfl
theorem wm:Q75.f N0 (-56)=some ([1,0,14,2,0,7,3, -2,5,3,2,5],0):=al (d:= -56) (l:=[1,0,14,2,0,7,3, -2,5,3,2,5]) ⟨by decide,by decide,by decide⟩ (by kernel_rfl)
theorem wv:Q93.f N0 (-56)=some ([[1,0,14,2,0,7],[3, -2,5,3,2,5]],0):=by
 unfold Q93.f;rw[wm]
 kernel_rfl
theorem du:Q100.f N0=some true:=by
 unfold Q100.f;rw[wq]
 kernel_rfl
theorem GenusKnown:∃N,Q102.f N=some true:=by
 refine⟨N0,?_⟩;unfold Q102.f Q94.f;rw[wv,wu,du]
 kernel_rfl
open Go.Proofs.Yteaakcmkpacpaaa.Pure (lA ed)
open Go.Proofs.Yteaakcmkpacpaaa.Cls (th)
open Go.Proofs.Yteaakcmkpacpaaa.Jac (Sy)
theorem fm:∀{l:PL} {x:Nat×Nat},x∈l→0<x.2→x.1∣cH l
 |y::l,x,h,h0=>by
  simp only[cH];rcases List.mem_cons.mp h with rfl|h
  ·obtain⟨k,hk⟩:∃k,x.2=k+1:=⟨x.2-1,by omega⟩
   rw[hk,Nat.pow_succ,zE];exact hA ⟨cH l,rfl⟩ ⟨_,hC _ _⟩
  ·exact hA (fm h h0) ⟨_,hC _ _⟩
theorem Fz.mem {n:Nat}{l:PL}(h:Fz n l)(p:Nat):p∈l.map (·.1)↔sF p∧p∣n:=by
 rw[List.mem_map];constructor
 ·rintro⟨x,hx,rfl⟩;exact⟨(h.pr x hx).1,h.prod▸fm hx (h.pr x hx).2⟩
 ·rintro⟨hp,hd⟩;rw[←h.prod]at hd;obtain⟨x,h1,h2⟩:=hp.in_prod h.pr hd;exact⟨x,h1,h2⟩
def ints (l:List Nat):List Int:=l.map fun(x:Nat)=>(x:Int)
end Go.Proofs.Yteaakcmkpacpaaa.Gen
