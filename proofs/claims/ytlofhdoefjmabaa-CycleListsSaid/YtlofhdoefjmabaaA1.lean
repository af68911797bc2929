import Derived.Test.YtlofhdoefjmabaaA0
import Derived.Orders
open List renaming getD_eq_getElem?_getD→hA,getElem?_singleton→hB,getElem?_append→zE,mem_cons→hF,mem_append→hN,getElem?_eq_some_iff→hR,getElem?_eq_none→hV,getElem?_eq_getElem→hX,getElem?_append_left→hZ,map_cons→c0,getElem?_append_right→n0,all_eq_true→o0,map_congr_left→r0,length_cons→x0,mem_filter→y0,append_assoc→j1,mem_cons_of_mem→u1,getElem?_take_of_lt→x1,mem_singleton→y1,length_singleton→z1,mem_append_right→u2,cons_append→x2,mem_of_getElem?→y2,not_mem_nil→j3,mem_map_of_mem→w3,mem_map→y3,mem_range→e4,length_eq_zero_iff→k4,getElem?_map→l4,singleton_append→e5,map_append→w5,mem_append_left→b6,nodup_cons→c6,pairwise_append→e6,filter_eq_self→k6,length_append→l6,pairwise_cons→q6,reverse_cons→w6,any_eq_true→c7,getElem_mem→k7,map_map→l7,length_set→r7,range_succ_eq_map→x7,sublist_cons_self→b8,mem_iff_getElem?→k8
open Bool renaming and_eq_true→aE,not_eq_true'→p0,false_eq_true→x3,not_true→n4,or_eq_true→q7
open Array renaming getD_eq_getD_getElem?→hW,getElem?_eq_some_iff→n3,getElem?_toList→y4
open Nat renaming lt_or_ge→e0,le_refl→q0,zero_add→c4,lt_irrefl→w4,add_mul_div_right→k5,ble_eq_true_of_le→n5,dvd_of_mod_eq_zero→c8,le_trans→l8
open Option renaming getD_some→j0
open Go.Result renaming andThen_ok→b7
open Go.Sem renaming run_bind→r8
set_option linter.unusedVariables false
set_option linter.unusedSimpArgs false
namespace Go.Proofs.Ytlofhdoefjmabaa.Ev
section
variable {P:Program}{F:Nat→Prop}{ρ:vB}{h:Nat→jA}{w:World}{nid:Nat}{ty:Nat→Option TI}{ev:Operand→V}{ae:Operand→Value}{out:oD}{M:Nat→Prop}
theorem yF {y:V}{tc:List Nat}{v:Value}{s:Sem Value}(hh:dA F ρ h w)(hr:s.run P w= .ok v w)(hv:gA ρ (av F (cA ρ h)) w y v):mC F ρ h w nid {val:=y,touch:=tc} ((do pure (.value (←s)):Sem Next).run P w):=
 mC.pure hh (v:=v) (by simp[hr]) hv
theorem eA.map_ev (he:∀x,gA ρ M w (ev x) (ae x)):∀(xs:List Operand),eA ρ M w (xs.map ev) (xs.map ae)
 | []=>by simp[eA]
 |x::xs=>by simp only[c0,eA];exact⟨he x,eA.map_ev he xs⟩
theorem s5 {ti:TI}{c:Array Value}(h:eA ρ M w (eE ti) c.toList):tB ρ M w (eE ti).length c (pX ti):=by
 have hv:tB ρ M w (eE ti).length c (.vals (eE ti)):=by have hlen:=h.length;refine⟨rfl,by simp at hlen;omega,?_⟩;rw[List.take_of_length_le (by simp at hlen⊢;omega)];exact h
 unfold pX;split
 ·split
  ·rename_i hm;exact uW hm h
  ·exact hv
 ·exact hv
theorem qX {ts:Array TypeId}{e:Nat}{te:TI}(hat:0<te.bytes→0<te.size→o5 P ts e te)(hh:dA F ρ h w){d s:V}{vd vx:Value}(hd:gA ρ (av F (cA ρ h)) w d vd)(hx:gA ρ (av F (cA ρ h)) w s vx)
  (ha:uF te h nid d s=some (true,out))(hn1:out.new.length=1→ρ nid=none)(t':TypeId)(cs:Array Bool):
  mC F ρ h w nid out ((builtin .append ts t' cs [vd,vx].toArray).run P w):=by
 have run_eq:∀{v:Value} {w':World},(Builtin.append_ ts t' #[vd,vx]).run P w= .ok v w'→(builtin .append ts t' cs [vd,vx].toArray).run P w= .ok (.value v) w':=by intro v w' h1;simp[builtin,h1]
 unfold uF at ha;cases hbs:(Nat.blt 0 te.bytes&&Nat.blt 0 te.size)with
 |false=>simp[hbs]at ha
 |true=>
 simp only[hbs,n4,cond_false]at ha;obtain⟨hb,hsz⟩:=oA hbs;have hb:=bB hb;have hsz:=bB hsz;have hat:=hat hb hsz;have fin0:∀{x:jA} {us:List Value} {m:Nat} {tc:List Nat},vd= .slice none 0 0→out={val:=.sw nid te.size,new:=[x],touch:=tc}→fh P w te.size m vx us→kB m te.bytes=true→(us=[]→(∃k,x= .ints k [])∨x= .vals []∨(∃_ _:Nat,x= .bls []))→
   (∀c:Array Value,us.length≤c.size→(∀j,j<us.length→c[j]?=us[j]?)→tB ρ (av F (cA ρ h)) w us.length c x)→mC F ρ h w nid out ((builtin .append ts t' cs [vd,vx].toArray).run P w):=by
  intro x us m tc hv hout hs hroom hx0 hxx;subst hout;obtain⟨v,w',ρ',r1,r2,r3,r4,r5,r6⟩:=tP hat t' hh (hn1 rfl) hs hroom hx0 hxx;subst hv;exact⟨v,w',ρ',.inl (run_eq r1),r2,fun id hid=>r3 id (by simp at hid;omega),r4,r5,r6⟩
 have fin1:∀{x:jA} {us:List Value} {m:Nat} {tc:List Nat} {id:Nat},gA ρ (av F (cA ρ h)) w (.sw id te.size) vd→(h id).live→(h id).flat→out={val:=.sw nid te.size,wr:=[(id,.dead)],new:=[x],touch:=tc}→fh P w te.size m vx us→
   (∀n:Nat,(∀{c},tB ρ (av F (cA ρ h)) w n c (h id)→kB (n/te.size+m) te.bytes=true∧
    ∀c c':Array Value,tB ρ (av F (cA ρ h)) w n c (h id)→n+us.length≤c'.size→(∀j,j<n→c'[j]?=c[j]?)→(∀j,j<us.length→c'[n+j]?=us[j]?)→tB ρ (av F (cA ρ h)) w (n+us.length) c' x))→
   ((∃k,h id= .ints k [])∨h id= .vals []∨(∃_ _:Nat,h id= .bls [])→kB m te.bytes=true∧(us=[]→(∃k,x= .ints k [])∨x= .vals []∨(∃_ _:Nat,x= .bls []))∧(∀c:Array Value,us.length≤c.size→(∀j,j<us.length→c[j]?=us[j]?)→tB ρ (av F (cA ρ h)) w us.length c x))→
   mC F ρ h w nid out ((builtin .append ts t' cs [vd,vx].toArray).run P w):=by
  intro x us m tc id hrel hl hfl hout hs hrow hemp;subst hout;obtain⟨_,⟨b,n,C,cap,c,h1,h2,h3,h4,h5,ho,hszc,hold⟩|⟨h1,h2,hk⟩⟩:=rE hh hrel hl hfl
  ·obtain⟨q1,q2⟩:=hrow n hold;subst h5;obtain⟨v,w',ρ',r1,r2,r3,r4,r5,r6⟩:=rX hat t' hh (hn1 rfl) hs hl h1 h2 h3 h4 ho hszc (by have:=hold.le;omega) q1 (x:=x) (fun c' a1 a2 a3=>q2 c c' hold a1 a2 a3);exact⟨v,w',ρ',.inl (run_eq r1),r2,fun id hid=>r3 id (by simp at hid;omega),r4,r5,r6⟩
  ·obtain⟨q1,q2,q3⟩:=hemp hk;subst h2;obtain⟨k1,k2⟩:=hh.kill id;obtain⟨v,w',ρ',r1,r2,r3,r4,r5,r6⟩:=tP hat t' k1 (hn1 rfl) hs q1 q2 (fun c a1 a2=>(q3 c a1 a2).mono (yH.refl _) k2);exact⟨v,w',ρ',.inl (run_eq r1),r2,fun id hid=>r3 id (by simp at hid;omega),r4,r5,k2.trans r6⟩
 split at ha
 ·rename_i k hk;split at ha
  ·cases ha
  ·rename_i src tc hs;obtain⟨m,m1,m2,m3⟩:=rO (P:=P) hh hsz hx hs;have hsrc:fh P w te.size m vx (src.map (Value.int k)):=⟨m1,by simpa using m2,rL _,m3⟩
   have hcells:∀c:Array Value,(src.map (Value.int k)).length≤c.size→(∀j,j<(src.map (Value.int k)).length→c[j]?=(src.map (Value.int k))[j]?)→tB ρ (av F (cA ρ h)) w (src.map (Value.int k)).length c (.ints k src):=by intro c a1 a2;refine⟨by simp,a1,fun i hi=>?_⟩;rw[a2 i (by simpa using hi),lQ k src hi]
   split at ha
   ·simp only[Option.some.injEq,Prod.mk.injEq]at ha;obtain⟨g1,g2⟩:=ha;rw[iD,m2,aC hsz]at g1;exact fin0 hd.c g2.symm hsrc g1 (fun e=>.inl ⟨k,by simp at e;rw[e]⟩) hcells
   ·rename_i id s1;split at ha
    ·rename_i k' l hid;obtain⟨h1,h2⟩:=bA ha;obtain⟨h3,h4⟩:=oA h1;have h3:=bD h3;have h4:=qA h4;subst h3;subst h4;simp only[Option.some.injEq,Prod.mk.injEq]at h2;obtain⟨g1,g2⟩:=h2;rw[iD]at g1;refine fin1 hd (by rw[hid];trivial) (by rw[hid];trivial) g2.symm hsrc (fun n {c} hc=>?_) (fun hk2=>?_)
     ·rw[hid]at hc;have e1:=hc.len;refine⟨by rw[e1,m2,k5 _ _ hsz]at g1;exact g1,fun c c' a0 a1 a2 a3=>?_⟩;rw[hid]at a0;exact a0.grow_ints (by simp) a1 a2 (fun j hj=>by rw[a3 j hj,lQ k src (by simpa using hj)])
     ·rw[hid]at hk2;have hl:l=[]:=by rcases hk2 with⟨k2,hk2⟩|hk2|⟨_,_,hk2⟩<;>cases hk2;rfl
      subst hl;refine⟨by simpa[m2,aC hsz]using g1,fun e=>.inl ⟨k,by simp at e;rw[e];rfl⟩,by simpa using hcells⟩
    ·cases ha
   ·cases ha
 ·split at ha
  ·cases ha
  ·rename_i src tc hs;obtain⟨m,us,m1,m2,m3,m4,m5⟩:=fX (P:=P) hh hsz hx hs;have hul:=m3.length;have hsrc:fh P w te.size m vx us:=⟨m1,by omega,m4,m5⟩
   have hcells:∀c:Array Value,us.length≤c.size→(∀j,j<us.length→c[j]?=us[j]?)→tB ρ (av F (cA ρ h)) w us.length c (.vals src):=by
    intro c a1 a2;refine⟨hul,a1,?_⟩;have:c.toList.take us.length=us:=by
     apply List.ext_getElem?;intro j;by_cases hj:j<us.length
     ·rw[x1 hj,y4,a2 j hj]
     ·rw[hV (by simp;omega),hV (by omega)]
    rw[this];exact m3
   have hemp:us=[]→(∃k,jA.vals src= .ints k [])∨jA.vals src= .vals []∨(∃_ _:Nat,jA.vals src= .bls []):=fun e=>.inr (.inl (by subst e;simp at hul;rw[hul]));split at ha
   ·simp only[Option.some.injEq,Prod.mk.injEq]at ha;obtain⟨g1,g2⟩:=ha;rw[iD,m2,aC hsz]at g1;exact fin0 hd.c g2.symm hsrc g1 hemp hcells
   ·rename_i id s1;split at ha
    ·rename_i l hid;obtain⟨h1,h2⟩:=bA ha;have h4:=qA h1;subst h4;simp only[Option.some.injEq,Prod.mk.injEq]at h2;obtain⟨g1,g2⟩:=h2;rw[iD]at g1;refine fin1 hd (by rw[hid];trivial) (by rw[hid];trivial) g2.symm hsrc (fun n {c} hc=>?_) (fun hk2=>?_)
     ·rw[hid]at hc;have e1:=hc.lenV;refine⟨by rw[e1,m2,k5 _ _ hsz]at g1;exact g1,fun c c' a0 a1 a2 a3=>?_⟩;rw[hid]at a0;exact a0.grow_vals m3 rfl a1 a2 a3
     ·rw[hid]at hk2;have hl:l=[]:=by rcases hk2 with⟨k2,hk2⟩|hk2|⟨_,_,hk2⟩<;>cases hk2;rfl
      subst hl;refine⟨by simpa[m2,aC hsz]using g1,by simpa using hemp,by simpa using hcells⟩
    ·cases ha
   ·cases ha
theorem ay (k:IntKind)(a b:Int):Builtin.max2 (.int k a) (.int k b)=pure (.int k (kf a b)):=rfl
theorem bc (k:IntKind)(a b:Int):Builtin.min2 (.int k a) (.int k b)=pure (.int k (mc a b)):=rfl
theorem tX (hty:sC P ty)(hh:dA F ρ h w){b:Builtin}{ts:Array TypeId}{xs:List V}{vs:List Value}(hr:eA ρ (av F (cA ρ h)) w xs vs)(ha:fF ty nid b ts.toList xs h=some (true,out))(hn1:out.new.length=1→ρ nid=none)(t':TypeId)(cs:Array Bool):
  mC F ρ h w nid out ((builtin b ts t' cs vs.toArray).run P w):=by
 unfold fF at ha;split at ha
 ·
  rename_i x;split at ha
  ·rename_i t r hts;split at ha
   ·rename_i ti n tc ht hl;obtain⟨h1,h2⟩:=bA ha;simp only[Option.some.injEq,Prod.mk.injEq,true_and]at h2;subst h2;cases vs with
    |nil=>simp[eA]at hr
    |cons v vs=>
     cases vs with
     |cons _ _=>simp[eA]at hr
     |nil=>
      simp only[eA]at hr;have hts0:ts[0]?=some t:=by
       have:ts.toList[0]?=some t:=by rw[hts];rfl
       simpa using this
      have:=gj (P:=P) hty hh ht hr.1 hl h1 ts hts0 t';exact mC.pure hh (v:=.int .i64 n) (by simp[builtin,this]) (gA.of_c _)
   ·cases ha
  ·cases ha
 ·obtain⟨x,r,v,h1,h2,h3⟩:=eT (P:=P) ay ha hr;subst h1;subst h2;exact mC.pure hh (v:=v) (by simp[builtin,Builtin.max_,h3]) (gA.of_c _)
 ·obtain⟨x,r,v,h1,h2,h3⟩:=eT (P:=P) bc ha hr;subst h1;subst h2;exact mC.pure hh (v:=v) (by simp[builtin,Builtin.min_,h3]) (gA.of_c _)
 ·
  rename_i d s;cases vs with
  |nil=>simp[eA]at hr
  |cons vd vs=>
   cases vs with
   |nil=>simp[eA]at hr
   |cons vx vs=>
    cases vs with
    |cons _ _=>simp[eA]at hr
    |nil=>
     simp only[eA]at hr;obtain⟨hd,hx,_⟩:=hr;split at ha
     ·rename_i t t2 r hts;have hts0:ts[0]?=some t:=by
       have:ts.toList[0]?=some t:=by rw[hts];rfl
       simpa using this
      have hts1:ts[1]?=some t2:=by
       have:ts.toList[1]?=some t2:=by rw[hts];rfl
       simpa using this
      split at ha
      ·rename_i e s0 b0 z0 tt2 ht ht2;have hu:=(hty _ _ ht).tk;simp only[tC]at hu;have key:((∃x,tt2.tk= .slice x)∨tt2.tk= .str)→(match ty e with|some ti=>uF ti h nid d s|none=>none)=some (true,out)→mC F ρ h w nid out ((builtin .append ts t' cs [vd,vx].toArray).run P w):=by
        intro htk2 ha;split at ha
        ·rename_i te hte;have hat:0<te.bytes→0<te.size→o5 P ts e te:=fun hb hs=>by
          refine⟨⟨t,hts0,hu⟩,?_,hty _ _ hte,hb,hs⟩;have hk2:=(hty _ _ ht2).tk;rcases htk2 with⟨x,htk2⟩|htk2<;>rw[htk2]at hk2<;>simp only[tC]at hk2
          ·exact⟨t2,_,hts1,hk2,.inl ⟨x,rfl⟩⟩
          ·exact⟨t2,_,hts1,hk2,.inr rfl⟩
         exact qX hat hh hd hx ha hn1 t' cs
        ·cases ha
       split at ha
       ·rename_i y hy;exact key (.inl ⟨y,hy⟩) ha
       ·rename_i hy;exact key (.inr hy) ha
       ·cases ha
      ·cases ha
     ·cases ha
 ·
  rename_i d s;cases vs with
  |nil=>simp[eA]at hr
  |cons vd vs=>
   cases vs with
   |nil=>simp[eA]at hr
   |cons vx vs=>
    cases vs with
    |cons _ _=>simp[eA]at hr
    |nil=>
     simp only[eA]at hr;obtain⟨hd,hx,_⟩:=hr;split at ha
     ·rename_i t r hts;have hts0:ts[0]?=some t:=by
       have:ts.toList[0]?=some t:=by rw[hts];rfl
       simpa using this
      split at ha
      ·rename_i e s0 b0 z0 ht;have hu:=(hty _ _ ht).tk;simp only[tC]at hu;split at ha
       ·rename_i te hte;unfold uV at ha;split at ha
        ·cases ha
        ·rename_i k hk;split at ha
         ·cases ha
         ·rename_i src tc hs;split at ha
          ·rename_i id s1;split at ha
           ·rename_i k' l hid;obtain⟨h1,h2⟩:=bA ha;obtain⟨h3,h4⟩:=oA h1;have h3:=bD h3;have h4:=qA h4;subst h3;subst h4;simp only[Option.some.injEq,Prod.mk.injEq,true_and]at h2;subst h2;exact dr hty hh hts0 hu hte t' hk hs hx hd hid
           ·cases ha
          ·cases ha
       ·cases ha
      ·cases ha
     ·cases ha
 ·cases ha
theorem wM (hty:sC P ty)(hh:dA F ρ h w)(he:∀x,gA ρ (av F (cA ρ h)) w (ev x) (ae x))(hn:∀id,nid≤id→id<nid+out.new.length→ρ id=none)(op:Op)(o:Oper)(hop:o.op=op)(ha:aG ty nid op ev h=some (true,out)):
  mC F ρ h w nid out ((execOp ae o).run P w):=by
 have hn1:out.new.length=1→ρ nid=none:=fun h=>hn nid (q0 _) (by omega);unfold execOp;rw[hop];cases op
 case move x=>have:=aB ha;subst this;exact mC.pure hh rfl (he x)
 case assign x=>have:=aB ha;subst this;exact mC.pure hh rfl (he x)
 case pick c a b=>
  simp only[aG]at ha;split at ha
  ·rename_i b' hc;have:=aB ha;subst this;have h1:=he c;rw[hc]at h1;have:=h1.bool;exact mC.pure hh (v:=if b' then ae a else ae b) (by simp[this,asBool]) (ed (he a) (he b))
  ·cases ha
 case alloc t=>
  simp only[aG]at ha;split at ha
  ·rename_i ti ht;simp only[Option.some.injEq,Prod.mk.injEq,true_and]at ha;subst ha;exact y8 (hty _ _ ht) hh (fun c hc=>s5 hc) (hn1 rfl)
  ·cases ha
 case box t x=>
  simp only[aG]at ha;split at ha
  ·rename_i ti ht;split at ha
   ·rename_i vs hvs;obtain⟨h1,h2⟩:=bA ha;simp only[Option.some.injEq,Prod.mk.injEq,true_and]at h2;subst h2;exact gf hh (hn1 rfl) (he x) hvs (qA h1)
   ·cases ha
  ·cases ha
 case build t ps=>
  simp only[aG]at ha;split at ha
  ·rename_i ti ht;have key:∀cs,((∃fs,ti.tk= .struct fs∧fs.all (fun p=>(ty p.1).isSome)=true∧uG (vF ty fs) (eE ti) (ps.toList.map fun p=>(p.1,ev p.2))=some cs)∨
     (∃n e te,ti.tk= .arr n e∧ty e=some te∧uG (fun i=>some (i*te.size,te.size)) (eE ti) (ps.toList.map fun p=>(p.1,ev p.2))=some cs))→out={val:=.agg cs}→mC F ρ h w nid out ((do pure (.value (←Instr.build t (ps.map fun(i,x)=>(i,ae x)))):Sem Next).run P w):=by
    intro cs hb hout;subst hout;obtain⟨v,h1,h2⟩:=p9 (P:=P) hty ht he hb;exact yF (nid:=nid) (tc:=[]) hh h1 h2
   split at ha
   ·rename_i fs htk;obtain⟨h1,h2⟩:=bA ha;split at h2
    ·rename_i cs hf;exact key cs (.inl ⟨fs,htk,h1,hf⟩) (aB h2)
    ·cases h2
   ·rename_i n e htk;split at ha
    ·rename_i te hte;split at ha
     ·rename_i cs hf;exact key cs (.inr ⟨n,e,te,htk,hte,hf⟩) (aB ha)
     ·cases ha
    ·cases ha
   ·cases ha
  ·cases ha
 case buildSlice t len ps=>
  simp only[aG]at ha;split at ha
  ·rename_i e s0 b0 z0 ht;split at ha
   ·rename_i te hte;obtain⟨h1,h2⟩:=bA ha;split at h2
    ·rename_i cs hf;split at h2
     ·rename_i b hm;simp only[Option.some.injEq,Prod.mk.injEq,true_and]at h2;subst h2;exact cS hty hh (hn1 rfl) he ht rfl hte h1 hf hm
     ·cases h2
    ·cases h2
   ·cases ha
  ·cases ha
 case load t a=>
  simp only[aG]at ha;cases ht:ty t with
  |none=>rw[ht]at ha;simp at ha
  |some ti=>rw[ht]at ha;obtain⟨y,tc,v,h1,h2,h3⟩:=dw (P:=P) (y:=.poison) hty hh (he a) ht ha;subst h1;exact yF hh h2 h3
 case store t a x=>
  simp only[aG]at ha;split at ha
  ·rename_i ti id off ext ht hp;split at ha
   ·rename_i vs hvs;obtain⟨h1,h2⟩:=bA ha;obtain⟨h3,h4⟩:=oA h1;split at h2
    ·rename_i b hb;simp only[Option.some.injEq,Prod.mk.injEq,true_and]at h2;subst h2;have hx:=he a;rw[hp]at hx;exact cu hty hh hx (he x) ht hvs (wC h3) (qA h4) hb
    ·cases h2
   ·cases ha
  ·cases ha
 case nilCheck x=>
  simp only[aG]at ha;have hx:=he x;split at ha
  ·rename_i id off ext hp;have:=aB ha;subst this;rw[hp]at hx;have hx':=hx;simp only[gA]at hx;obtain⟨b,n,C,_,_,hv⟩:=hx;exact mC.pure hh (v:=ae x) (by simp[hv]) hx'
  ·rename_i k l off ext hp;have:=aB ha;subst this;rw[hp]at hx;have hx':=hx;simp only[gA]at hx;obtain⟨b,o,hv,_⟩:=hx;exact mC.pure hh (v:=ae x) (by simp[hv]) hx'
  ·rename_i l off ext hp;have:=aB ha;subst this;rw[hp]at hx;have hx':=hx;simp only[gA]at hx;obtain⟨b,o,hv,_⟩:=hx;exact mC.pure hh (v:=ae x) (by simp[hv]) hx'
  ·rename_i k s rows i hp;have:=aB ha;subst this;rw[hp]at hx;have hx':=hx;simp only[gA]at hx;obtain⟨b,o,hv,_⟩:=hx;exact mC.pure hh (v:=ae x) (by simp[hv]) hx'
  ·cases ha
 case binOp op t x y t2=>simp only[aG]at ha;obtain⟨v,h1,h2⟩:=dm (P:=P) hty x y ha (he x) (he y);subst h1;exact yF (tc:=[]) hh h2 (gA.of_c _)
 case unOp op t x=>simp only[aG]at ha;obtain⟨v,h1,h2⟩:=ie (P:=P) ha (he x);subst h1;exact yF (tc:=[]) hh h2 (gA.of_c _)
 case convert s d x=>simp only[aG]at ha;exact dq hty hh (he x) ha hn1
 case makeFunc fn first cap=>
  cases fn with
  |func f=>simp only[aG]at ha;have:=aB ha;subst this;refine mC.pure hh (v:=.func (.func f) (first.map ae) (cap.map ae)) (by simp[Instr.makeFunc]) ?_;simp only[gA];exact⟨_,_,rfl,by simpa using eA.map_ev he first.toList,by simpa using eA.map_ev he cap.toList⟩
  |_=>cases ha
 case makeSlice t l c=>
  simp only[aG]at ha;split at ha
  ·rename_i e s0 b0 z0 n m ht hl hc;split at ha
   ·rename_i te hte;split at ha
    ·rename_i k hk;obtain⟨h1,h2⟩:=bA ha;simp only[Option.some.injEq,Prod.mk.injEq]at h2;obtain⟨h3,h4⟩:=h2;subst h4;have e1:=he l;have e2:=he c;rw[hl]at e1;rw[hc]at e2;have:=e1.int;have:=e2.int;simp only[*];exact oU hty hh (hn1 rfl) ht rfl hte hk h1 h3
    ·rename_i hz;obtain⟨h1,h2⟩:=bA ha;simp only[Option.some.injEq,Prod.mk.injEq]at h2;obtain⟨h3,h4⟩:=h2;subst h4;have e1:=he l;have e2:=he c;rw[hl]at e1;rw[hc]at e2;have:=e1.int;have:=e2.int;simp only[*];exact nU hty hh (hn1 rfl) ht rfl hte hz (qA h1) h3
    ·cases ha
   ·cases ha
  ·cases ha
 case slice t x lo hi mx=>simp only[aG]at ha;obtain⟨y,tc,v,h1,h2,h3⟩:=o7 (P:=P) hty hh (he x) (gG.of he) (gG.of he) (gG.of he) ha;subst h1;exact yF hh h2 h3
 case fieldAddr t x f=>
  simp only[aG]at ha;split at ha
  ·rename_i fs s0 b0 z0 ht;obtain⟨y,v,h1,h2,h3⟩:=eU (P:=P) hty ht rfl (he x) ha;subst h1;exact yF (tc:=[]) hh h2 h3
  ·cases ha
 case field t x f=>
  simp only[aG]at ha;split at ha
  ·rename_i fs s0 b0 z0 cs ht hp;split at ha
   ·rename_i t' fo hf;split at ha
    ·rename_i te hte;split at ha
     ·rename_i r hr;obtain⟨h1,h2⟩:=bA ha;have:=aB h2;subst this;have hx:=he x;rw[hp]at hx;obtain⟨v,h3,h4⟩:=ah (P:=P) hty ht rfl hx hf hte (bB h1) hr;exact yF (tc:=[]) hh h3 h4
     ·cases ha
    ·cases ha
   ·cases ha
  ·cases ha
 case indexAddr t x i=>simp only[aG]at ha;obtain⟨y,tc,v,h1,h2,h3⟩:=dY (P:=P) hty hh (he x) (he i) ha;subst h1;exact yF hh h2 h3
 case index t x i=>simp only[aG]at ha;obtain⟨y,v,h1,h2,h3⟩:=eY (P:=P) hty (he x) (he i) ha;subst h1;exact yF (tc:=[]) hh h2 h3
 case extract t i=>
  simp only[aG]at ha;split at ha
  ·rename_i vs hp;split at ha
   ·rename_i v hv;have:=aB ha;subst this;have hx:=he t;rw[hp]at hx;obtain⟨u,h1,h2⟩:=aY (P:=P) hx hv;exact yF (tc:=[]) hh h1 h2
   ·cases ha
  ·cases ha
 case call c=>
  obtain⟨callee,args,ts⟩:=c;cases callee with
  |value f=>simp[aG]at ha
  |invoke r m=>simp[aG]at ha
  |builtin b=>
   simp only[aG]at ha;have hr:=tX (P:=P) hty hh (eA.map_ev he args.toList) ha hn1 o.type (args.map fun| .const _=>true|_=>false);have e1:(args.map ae)=(args.toList.map ae).toArray:=by apply Array.ext';simp
   simp only[resolve,r8,Sem.run_pure,b7,invoke,e1];exact hr
 case makeMap t r=>
  cases r with
  |some r=>cases ha
  |none=>exact pW hh ha hn1
 case range t x=>exact z6 hty hh (he x) ha hn1
 case entry x=>exact u5 hh (he x) ha
 case lookup t m i ok=>exact lY hty hh (he m) (he i) ha
 case mapUpdate t m i x=>exact cL hty hh (he m) (he i) (he x) ha
 case insert t m i x=>exact cL hty hh (he m) (he i) (he x) ha
 case mapEntry t m i=>exact pU hty hh (he m) (he i) ha
 case entryStore t m s x=>exact bQ hh (he m) (he s) (he x) ha
 all_goals cases ha
end
section
variable {ty:Nat→Option TI}{nid:Nat}{h h':Nat→jA}
theorem oO {x:V}{k:IntKind}{s:Nat}{l:List Int}{t:List Nat}(hr:qM h x=some (k,s,l,t))(ht:∀id∈t,h' id=h id):qM h' x=some (k,s,l,t):=by
 cases x<;>simp only[qM]at hr⊢
 case sw id s'=>
  split at hr
  ·rename_i k' l' hid;simp only[Option.some.injEq,Prod.mk.injEq]at hr;obtain⟨rfl,rfl,rfl,rfl⟩:=hr;rw[ht id (by simp),hid]
  ·cases hr
 case sl id s' off len=>
  split at hr
  ·rename_i k' l' hid;simp only[Option.some.injEq,Prod.mk.injEq]at hr;obtain⟨rfl,rfl,rfl,rfl⟩:=hr;rw[ht id (by simp),hid]
  ·cases hr
 all_goals first|exact hr|cases hr
theorem rY {x:V}{s:Nat}{l:List V}{t:List Nat}(hr:qY h x=some (s,l,t))(ht:∀id∈t,h' id=h id):qY h' x=some (s,l,t):=by
 cases x<;>simp only[qY]at hr⊢
 case sw id s'=>
  split at hr
  ·rename_i l' hid;simp only[Option.some.injEq,Prod.mk.injEq]at hr;obtain⟨rfl,rfl,rfl⟩:=hr;rw[ht id (by simp),hid]
  ·cases hr
 all_goals first|exact hr|cases hr
theorem sQ {x:V}{n:Nat}{t:List Nat}(hr:iI h x=some (n,t))(ht:∀id∈t,h' id=h id):iI h' x=some (n,t):=by
 unfold iI at hr⊢;split at hr<;>first|exact hr|skip
 rename_i id s';split at hr
 all_goals first
  |cases hr;done
  |(simp only[Option.some.injEq,Prod.mk.injEq]at hr
    obtain⟨rfl,rfl⟩:=hr;rename_i hid
    try dsimp only
    rw[ht id (by simp),hid])
theorem nE {k:IntKind}{s:Nat}{x:V}{l:List Int}{t:List Nat}(hr:dE h k s x=some (l,t))(ht:∀id∈t,h' id=h id):dE h' k s x=some (l,t):=by
 unfold dE at hr⊢;split at hr<;>first|exact hr|skip
 rename_i h1 h2;split at hr
 ·rename_i k' w' l' t' hq;obtain⟨a1,a2⟩:=bA hr;simp only[Option.some.injEq,Prod.mk.injEq]at a2;obtain⟨rfl,rfl⟩:=a2;rw[oO hq ht];simp only[a1,cond_true]
 ·cases hr
theorem dL {s:Nat}{x:V}{l:List V}{t:List Nat}(hr:rH h s x=some (l,t))(ht:∀id∈t,h' id=h id):rH h' s x=some (l,t):=by
 unfold rH at hr⊢;split at hr<;>first|exact hr|skip
 rename_i h1;split at hr
 ·rename_i w' l' t' hq;obtain⟨a1,a2⟩:=bA hr;simp only[Option.some.injEq,Prod.mk.injEq]at a2;obtain⟨rfl,rfl⟩:=a2;rw[rY hq ht];simp only[a1,cond_true]
 ·cases hr
theorem zK {ti:TI}{d s:V}{b:Bool}{out:oD}(hr:uF ti h nid d s=some (b,out))(ht:∀id∈out.touch,h' id=h id):uF ti h' nid d s=some (b,out):=by
 unfold uF at hr⊢;cases hc:(!(Nat.blt 0 ti.bytes&&Nat.blt 0 ti.size))<;>rw[hc]at hr<;>simp only[cond_false,cond_true]at hr⊢
 ·split at hr
  ·rename_i k hk
   try rw[hk]
   try dsimp only
   split at hr
   ·cases hr
   ·rename_i src t hsrc;split at hr
    ·simp only[Option.some.injEq,Prod.mk.injEq]at hr;obtain⟨rfl,rfl⟩:=hr;rw[nE hsrc ht]
    ·rename_i id w';split at hr
     ·rename_i k' l hid;obtain⟨a1,a2⟩:=bA hr;simp only[Option.some.injEq,Prod.mk.injEq]at a2;obtain⟨rfl,rfl⟩:=a2;simp only[hF]at ht;rw[nE hsrc (fun id hid=>ht id (.inr hid))]
      try dsimp only
      rw[ht id (.inl rfl),hid];simp only[a1,cond_true]
     ·cases hr
    ·cases hr
  ·rename_i hk
   try rw[hk]
   try dsimp only
   split at hr
   ·cases hr
   ·rename_i src t hsrc;split at hr
    ·simp only[Option.some.injEq,Prod.mk.injEq]at hr;obtain⟨rfl,rfl⟩:=hr;rw[dL hsrc ht]
    ·rename_i id w';split at hr
     ·rename_i l hid;obtain⟨a1,a2⟩:=bA hr;simp only[Option.some.injEq,Prod.mk.injEq]at a2;obtain⟨rfl,rfl⟩:=a2;simp only[hF]at ht;rw[dL hsrc (fun id hid=>ht id (.inr hid))]
      try dsimp only
      rw[ht id (.inl rfl),hid];simp only[a1,cond_true]
     ·cases hr
    ·cases hr
 ·cases hr
theorem vV {ti:TI}{d s:V}{b:Bool}{out:oD}(hr:uV ti h d s=some (b,out))(ht:∀id∈out.touch,h' id=h id):uV ti h' d s=some (b,out):=by
 unfold uV at hr⊢;split at hr
 ·cases hr
 ·rename_i k hk
  try rw[hk]
  try dsimp only
  split at hr
  ·cases hr
  ·rename_i src t hsrc;split at hr
   ·rename_i id w';split at hr
    ·rename_i k' l hid;obtain⟨a1,a2⟩:=bA hr;simp only[Option.some.injEq,Prod.mk.injEq]at a2;obtain⟨rfl,rfl⟩:=a2;simp only[hF]at ht;rw[nE hsrc (fun id hid=>ht id (.inr hid))]
     try dsimp only
     rw[ht id (.inl rfl),hid];simp only[a1,cond_true]
    ·cases hr
   ·cases hr
theorem wP {b:Builtin}{ts:List Nat}{xs:List V}{ok:Bool}{out:oD}(hr:fF ty nid b ts xs h=some (ok,out))(ht:∀id∈out.touch,h' id=h id):fF ty nid b ts xs h'=some (ok,out):=by
 unfold fF at hr⊢;split at hr
 ·split at hr
  ·split at hr
   ·rename_i ti n tc hti hlen;obtain⟨a1,a2⟩:=bA hr;simp only[Option.some.injEq,Prod.mk.injEq]at a2;obtain⟨rfl,rfl⟩:=a2;simp only[hti,sQ hlen ht,a1,cond_true]
   ·cases hr
  ·cases hr
 ·exact hr
 ·exact hr
 ·split at hr
  ·split at hr
   ·rename_i e _ _ _ t2 hti ht2
    try simp only[hti,ht2]
    split at hr
    ·rename_i htk
     try simp only[htk]
     split at hr
     ·rename_i te hte
      try simp only[hte]
      exact zK hr ht
     ·cases hr
    ·rename_i htk
     try simp only[htk]
     split at hr
     ·rename_i te hte
      try simp only[hte]
      exact zK hr ht
     ·cases hr
    ·cases hr
   ·cases hr
  ·cases hr
 ·split at hr
  ·split at hr
   ·rename_i e _ _ _ hti
    try simp only[hti]
    split at hr
    ·rename_i te hte
     try simp only[hte]
     exact vV hr ht
    ·cases hr
   ·cases hr
  ·cases hr
 ·cases hr
theorem dS {t:Nat}{x i:V}{ok:Bool}{out:oD}(hr:kH ty t x i h=some (ok,out))(ht:∀id∈out.touch,h' id=h id):kH ty t x i h'=some (ok,out):=by
 unfold kH at hr⊢;split at hr
 ·rename_i e _ _ _ hti
  try simp only[hti]
  split at hr
  ·cases hr
  ·rename_i te hte
   try simp only[hte]
   split at hr
   ·rename_i id w';obtain⟨a1,a2⟩:=bA hr;split at a2
    all_goals first
     |cases a2;done
     |(rename_i hid
       simp only[Option.some.injEq,Prod.mk.injEq]at a2;obtain⟨rfl,rfl⟩:=a2;simp only[hF,j3,or_false]at ht;simp only[a1,cond_true,ht id rfl,hid])
   all_goals exact hr
 ·exact hr
 ·cases hr
theorem bV {t:Nat}{x:V}{lo hi mx:Option V}{ok:Bool}{out:oD}(hr:qN ty t x lo hi mx h=some (ok,out))(ht:∀id∈out.touch,h' id=h id):qN ty t x lo hi mx h'=some (ok,out):=by
 unfold qN at hr⊢;split at hr
 ·cases hr
 ·rename_i ti hti
  try simp only[hti]
  cases hc:(hi.isNone&&mx.isSome)<;>simp only[hc,cond_true,cond_false]at hr⊢
  ·split at hr
   ·rename_i hlen;split at hr
    ·rename_i htk;simp only[iI]
     try simp only[htk]
     exact hr
    ·cases hr
   ·rename_i len tc hlen;split at hr
    ·rename_i l h1 m hl hh1 hm;split at hr
     ·rename_i s htk;simp only[iI]at hlen⊢;simp only[Option.some.injEq,Prod.mk.injEq]at hlen;obtain⟨rfl,rfl⟩:=hlen;simp only[hl,hh1,hm,htk];exact hr
     ·rename_i e id w' htk;split at hr
      ·rename_i te hte;obtain⟨a1,a2⟩:=bA hr;simp only[Option.some.injEq,Prod.mk.injEq]at a2;obtain⟨rfl,rfl⟩:=a2;simp only[sQ hlen ht,hl,hh1,hm,htk,hte,a1,cond_true]
      ·cases hr
     ·rename_i e id w' off _ htk;simp only[iI]at hlen⊢;simp only[Option.some.injEq,Prod.mk.injEq]at hlen;obtain⟨rfl,rfl⟩:=hlen;simp only[hl,hh1,hm,htk];exact hr
     ·rename_i e k w' l0 htk;simp only[iI]at hlen⊢;simp only[Option.some.injEq,Prod.mk.injEq]at hlen;obtain⟨rfl,rfl⟩:=hlen;simp only[hl,hh1,hm,htk];exact hr
     ·rename_i e htk;simp only[iI]at hlen⊢;simp only[Option.some.injEq,Prod.mk.injEq]at hlen;obtain⟨rfl,rfl⟩:=hlen;simp only[hl,hh1,hm,htk];exact hr
     ·cases hr
    ·cases hr
  ·cases hr
theorem tV {s d:Nat}{x:V}{ok:Bool}{out:oD}(hr:qS ty nid s d x h=some (ok,out))(ht:∀id∈out.touch,h' id=h id):qS ty nid s d x h'=some (ok,out):=by
 unfold qS at hr⊢;split at hr
 ·rename_i ts td hts htd
  try simp only[hts,htd]
  split at hr
  ·rename_i htk;try simp only[htk]
   exact hr
  ·rename_i htk;try simp only[htk]
   exact hr
  ·rename_i htk;try simp only[htk]
   exact hr
  ·rename_i htk;try simp only[htk]
   exact hr
  ·rename_i htk _ _;split at hr
   ·rename_i e hts2;split at hr
    ·rename_i w' l t hte hrow;obtain⟨a1,a2⟩:=bA hr;simp only[Option.some.injEq,Prod.mk.injEq]at a2;obtain⟨rfl,rfl⟩:=a2;have hrow':=oO hrow ht;simp only[hts2,hte,hrow',a1,cond_true]
    ·cases hr
   ·cases hr
  ·cases hr
 ·cases hr
theorem nW {ti:TI}{a:V}{ok:Bool}{out:oD}(hr:hJ ti a h=some (ok,out))(ht:∀id∈out.touch,h' id=h id):hJ ti a h'=some (ok,out):=by
 unfold hJ at hr⊢;split at hr
 ·rename_i id off ext;obtain⟨a1,a2⟩:=bA hr;split at a2
  ·rename_i v hv;simp only[Option.some.injEq,Prod.mk.injEq]at a2;obtain⟨rfl,rfl⟩:=a2;simp only[hF,j3,or_false]at ht;simp only[a1,cond_true,ht id rfl,hv]
  ·cases a2
 ·exact hr
 ·exact hr
 ·exact hr
 ·cases hr
theorem fS {t:Nat}{m i:V}{c ok:Bool}{out:oD}(hr:jG ty t m i c h=some (ok,out))(ht:∀id∈out.touch,h' id=h id):jG ty t m i c h'=some (ok,out):=by
 unfold jG at hr⊢;split at hr
 ·rename_i kt et s0 b0 z0 id hti;split at hr
  ·rename_i k n ks vs tk te hid htk hte;have key:h' id=h id:=by
    refine ht id ?_;split at hr
    ·obtain⟨_,a2⟩:=bA hr;simp only[Option.some.injEq,Prod.mk.injEq]at a2;obtain⟨_,rfl⟩:=a2;simp
    ·cases hr
   simp only[key,hid];simp only[hti,htk,hte];exact hr
  ·cases hr
 ·cases hr
theorem yU {t:Nat}{m:V}{ok:Bool}{out:oD}(hr:nN ty nid t m h=some (ok,out))(ht:∀id∈out.touch,h' id=h id):nN ty nid t m h'=some (ok,out):=by
 unfold nN at hr⊢;split at hr
 ·rename_i kt et s0 b0 z0 id hti;split at hr
  ·rename_i k n ks vs hid;simp only[Option.some.injEq,Prod.mk.injEq]at hr;obtain⟨rfl,rfl⟩:=hr;have key:h' id=h id:=ht id (by simp);simp only[key,hid,hti]
  ·cases hr
 ·cases hr
theorem aU {m:V}{ok:Bool}{out:oD}(hr:dN m h=some (ok,out))(ht:∀id∈out.touch,h' id=h id):dN m h'=some (ok,out):=by
 unfold dN at hr⊢;split at hr
 ·rename_i id ext;split at hr
  ·rename_i mid vC rem cur hid;split at hr
   ·rename_i k n ks vs hmid;simp only[Option.some.injEq,Prod.mk.injEq]at hr;obtain⟨rfl,rfl⟩:=hr;have key:h' id=h id:=ht id (by simp);have key2:h' mid=h mid:=ht mid (by simp);simp only[key,hid,key2,hmid]
   ·cases hr
  ·cases hr
 ·cases hr
theorem jI {t:Nat}{m i x:V}{ok:Bool}{out:oD}(hr:xE ty t m i x h=some (ok,out))(ht:∀id∈out.touch,h' id=h id):xE ty t m i x h'=some (ok,out):=by
 unfold xE at hr⊢;split at hr
 ·rename_i kt et s0 b0 z0 id hti;split at hr
  ·rename_i k n ks vs tk hid htk;have key:h' id=h id:=by
    refine ht id ?_;split at hr
    ·split at hr
     ·obtain⟨_,a2⟩:=bA hr;simp only[Option.some.injEq,Prod.mk.injEq]at a2;obtain⟨_,rfl⟩:=a2;simp
     ·cases hr
    ·cases hr
   simp only[key,hid];simp only[hti,htk];exact hr
  ·cases hr
 ·cases hr
theorem zO {t:Nat}{m i:V}{ok:Bool}{out:oD}(hr:dF ty t m i h=some (ok,out))(ht:∀id∈out.touch,h' id=h id):dF ty t m i h'=some (ok,out):=by
 unfold dF at hr⊢;split at hr
 ·rename_i kt et s0 b0 z0 id hti;split at hr
  ·rename_i k n ks vs tk te hid htk hte;have key:h' id=h id:=by
    refine ht id ?_;split at hr
    ·split at hr
     ·obtain⟨_,a2⟩:=bA hr;simp only[Option.some.injEq,Prod.mk.injEq]at a2;obtain⟨_,rfl⟩:=a2;simp
     ·cases hr
    ·cases hr
   simp only[key,hid];simp only[hti,htk,hte];exact hr
  ·cases hr
 ·cases hr
theorem zL {m s x:V}{ok:Bool}{out:oD}(hr:bF m s x h=some (ok,out))(ht:∀id∈out.touch,h' id=h id):bF m s x h'=some (ok,out):=by
 unfold bF at hr⊢;split at hr
 ·rename_i id q;split at hr
  ·rename_i k n ks vs hid;have key:h' id=h id:=by
    refine ht id ?_;split at hr
    ·simp only[Option.some.injEq,Prod.mk.injEq]at hr;obtain⟨_,rfl⟩:=hr;simp
    ·cases hr
   simp only[key,hid];exact hr
  ·cases hr
 ·cases hr
theorem uN {ev:Operand→V}{op:Op}{ok:Bool}{out:oD}(hr:aG ty nid op ev h=some (ok,out))(ht:∀id∈out.touch,h' id=h id):aG ty nid op ev h'=some (ok,out):=by
 cases op
 case convert s d x=>exact tV hr ht
 case slice t x lo hi mx=>exact bV hr ht
 case indexAddr t x i=>exact dS hr ht
 case load t a=>
  simp only[aG]at hr⊢;split at hr
  ·exact nW hr ht
  ·cases hr
 case call c=>
  obtain⟨cl,args,ts⟩:=c;cases cl
  case builtin b=>exact wP hr ht
  all_goals exact hr
 case store t a x=>
  simp only[aG]at hr⊢;split at hr
  ·rename_i ti id off ext hti ha;split at hr
   ·rename_i vs hvs;obtain⟨a1,a2⟩:=bA hr;split at a2
    ·rename_i b hb;simp only[Option.some.injEq,Prod.mk.injEq]at a2;obtain⟨rfl,rfl⟩:=a2;simp only[hF,j3,or_false]at ht;simp only[hti,ha,hvs,a1,cond_true,ht id rfl,hb]
    ·cases a2
   ·cases hr
  ·cases hr
 case makeFunc f _ _=>cases f<;>exact hr
 case makeMap t r=>cases r<;>exact hr
 case range t x=>exact yU hr ht
 case entry x=>exact aU hr ht
 case lookup t m i c=>exact fS hr ht
 case mapUpdate t m i x=>exact jI hr ht
 case insert t m i x=>exact jI hr ht
 case mapEntry t m i=>exact zO hr ht
 case entryStore t m s x=>exact zL hr ht
 all_goals exact hr
theorem jM {ev ev':Operand→V}(ps:Array (Nat×Operand))(he:∀x∈(ps.toList.map (·.2)).toArray,ev' x=ev x):(ps.toList.map fun p=>(p.1,ev' p.2))=ps.toList.map fun p=>(p.1,ev p.2):=
 r0 fun p hp=>by rw[he p.2 (by simp only[List.mem_toArray,y3];exact⟨p,hp,rfl⟩)]
theorem vT {ev ev':Operand→V}{op:Op}{r:kK}(hr:aG ty nid op ev h=r)(he:∀x∈op.operands,ev' x=ev x):aG ty nid op ev' h=r:=by
 subst hr;cases op<;>simp only[Op.operands]at he<;>try rfl
 case build t ps=>simp only[aG,jM ps he]
 case buildSlice t n ps=>simp only[aG,jM ps he]
 case makeFunc fn first cap=>
  cases fn<;>try rfl
  simp only[aG];rw[r0 (l:=first.toList) (f:=ev') (g:=ev) fun x hx=>he x (by simp at hx;simp[hx]),r0 (l:=cap.toList) (f:=ev') (g:=ev) fun x hx=>he x (by simp at hx;simp[hx])]
 case call c=>
  obtain⟨cl,args,ts⟩:=c;cases cl<;>try rfl
  simp only[aG];rw[r0 (l:=args.toList) (f:=ev') (g:=ev) fun x hx=>he x (by simp at hx;simp[Call.operands,hx])]
 case slice t x lo hi mx=>simp only[aG];cases lo<;>cases hi<;>cases mx<;>simp_all
 case makeMap t r=>cases r<;>rfl
 all_goals (simp only[aG];simp_all)
theorem rR {ti:TI}{v:V}{k:IntKind}{s:Nat}{l:List Int}{gs:List Nat}(hr:w7 ty ti h v=some (k,s,l,gs))(ht:∀id∈gs,h' id=h id):w7 ty ti h' v=some (k,s,l,gs):=by
 unfold w7 at hr⊢;split at hr
 ·exact hr
 ·rename_i g s0;split at hr
  ·rename_i k0 l0 hg;simp only[Option.some.injEq,Prod.mk.injEq]at hr;obtain⟨rfl,rfl,rfl,rfl⟩:=hr;rw[ht g (by simp),hg]
  ·cases hr
 ·cases hr
theorem sP {ti:TI}{d s:V}{b:Bool}{out:oD}(hr:rG ty ti h nid d s=some (b,out))(ht:∀id∈out.touch,h' id=h id):rG ty ti h' nid d s=some (b,out):=by
 unfold rG at hr;split at hr
 ·rename_i ids w1;split at hr
  ·rename_i e hids;split at hr
   ·rename_i k w l gs hrow;obtain⟨hg,hr2⟩:=bA hr;clear hr;unfold rG;dsimp only;split at hr2
    ·simp only[Option.some.injEq,Prod.mk.injEq]at hr2;obtain⟨rfl,rfl⟩:=hr2;simp only[hF]at ht;rw[ht ids (.inl rfl),hids];dsimp only;rw[rR hrow (fun id hid=>ht id (.inr hid))];dsimp only;rw[hg,cond_true]
    ·rename_i id w2;split at hr2
     ·rename_i k' w' rows hid;obtain⟨hq,hr3⟩:=bA hr2;simp only[Option.some.injEq,Prod.mk.injEq]at hr3;obtain⟨rfl,rfl⟩:=hr3;simp only[hF]at ht;rw[ht ids (.inr (.inl rfl)),hids];dsimp only;rw[rR hrow (fun id hid=>ht id (.inr (.inr hid)))];dsimp only;rw[hg,cond_true,ht id (.inl rfl),hid];dsimp only;rw[hq,cond_true]
     ·cases hr2
    ·cases hr2
   ·cases hr
  ·cases hr
 ·cases hr
theorem zM {ti:TI}{d s:V}{b:Bool}{out:oD}(hr:qG ti h d s=some (b,out))(ht:∀id∈out.touch,h' id=h id):qG ti h' d s=some (b,out):=by
 unfold qG at hr⊢;cases hc:(!(Nat.blt 0 ti.bytes&&Nat.blt 0 ti.size))<;>rw[hc]at hr<;>simp only[cond_false,cond_true]at hr⊢
 ·split at hr
  ·rename_i k hk
   try rw[hk]
   try dsimp only
   split at hr
   ·cases hr
   ·rename_i src t hsrc;split at hr
    ·rename_i id w';split at hr
     ·rename_i k' l hid;obtain⟨a1,a2⟩:=bA hr;simp only[Option.some.injEq,Prod.mk.injEq]at a2;obtain⟨rfl,rfl⟩:=a2;simp only[hF]at ht;rw[nE hsrc (fun id hid=>ht id (.inr hid))]
      try dsimp only
      rw[ht id (.inl rfl),hid];simp only[a1,cond_true]
     ·cases hr
    ·cases hr
  ·cases hr
 ·cases hr
theorem mW {ti:TI}{id off ext:Nat}{k:IntKind}{s:Nat}{rows:List (List Int)}{hole:Option (Nat×Nat)}{b:Bool}{out:oD}(hr:cT ti nid id off ext k s rows hole h=some (b,out))(ht:∀i∈out.touch,h' i=h i):
  cT ti nid id off ext k s rows hole h'=some (b,out)∧id∈out.touch:=by
 unfold cT at hr⊢;obtain⟨hc,hr2⟩:=bA hr;clear hr;rw[hc,cond_true];cases hole with
 |none=>dsimp only at hr2⊢;refine⟨hr2,?_⟩;simp only[Option.some.injEq,Prod.mk.injEq]at hr2;obtain⟨_,rfl⟩:=hr2;simp
 |some p=>
  obtain⟨j,g⟩:=p;dsimp only at hr2⊢;split at hr2
  ·rename_i k' l hg;obtain⟨hk,hr3⟩:=bA hr2;have e:=hr3;simp only[Option.some.injEq,Prod.mk.injEq]at e;obtain⟨_,rfl⟩:=e;dsimp only at ht⊢;rw[ht g (by simp),hg];dsimp only;rw[hk,cond_true];exact⟨hr3,by simp⟩
  ·cases hr2
theorem cV {ti:TI}{id off ext:Nat}{k:IntKind}{s:Nat}{rows:List (List Int)}{hole:Option (Nat×Nat)}{x:V}{b:Bool}{out:oD}(hr:rN ti id off ext k s rows hole x h=some (b,out))(ht:∀i∈out.touch,h' i=h i):
  rN ti id off ext k s rows hole x h'=some (b,out)∧id∈out.touch:=by
 unfold rN at hr⊢;split at hr
 ·rename_i g s';split at hr
  ·rename_i k' l hg;obtain⟨hk,hr3⟩:=bA hr;have e:=hr3;simp only[Option.some.injEq,Prod.mk.injEq]at e;obtain⟨_,rfl⟩:=e;dsimp only at ht⊢;rw[ht g (by simp),hg];dsimp only;rw[hk,cond_true];exact⟨hr3,by simp⟩
  ·cases hr
 ·cases hr
theorem jU {t id w n:Nat}{i:V}{b:Bool}{out:oD}(hr:iU ty t id w n i=some (b,out)):id∈out.touch:=by
 unfold iU at hr;split at hr
 ·split at hr
  ·obtain⟨_,hr⟩:=bA hr;simp only[Option.some.injEq,Prod.mk.injEq]at hr;obtain⟨_,rfl⟩:=hr;simp
  ·cases hr
 ·cases hr
theorem iY {ts:List Nat}{id w n:Nat}{b:Bool}{out:oD}(hr:dv ty ts id w n=some (b,out)):id∈out.touch:=by
 unfold dv at hr;split at hr
 ·split at hr
  ·obtain⟨_,hr⟩:=bA hr;simp only[Option.some.injEq,Prod.mk.injEq]at hr;obtain⟨_,rfl⟩:=hr;simp
  ·cases hr
 ·cases hr
theorem qV {keep:Bool}{b:Builtin}{ts:List Nat}{xs:List V}{ok:Bool}{out:oD}(hr:pS keep ty nid b ts xs h=some (some (ok,out)))(ht:∀id∈out.touch,h' id=h id):pS keep ty nid b ts xs h'=some (some (ok,out)):=by
 unfold pS at hr⊢;split at hr
 ·rename_i id w;split at hr
  ·rename_i k s rows hole hid;simp only[Option.some.injEq]at hr;have:=ht id (iY hr);rw[this,hid];dsimp only;rw[hr]
  ·cases hr
 ·split at hr
  ·split at hr
   ·split at hr
    ·rename_i ti hti
     try simp only[*]
     cases hs:ti.isSl<;>rw[hs]at hr<;>simp only[cond_true,cond_false]at hr⊢
     ·cases keep<;>simp only[cond_true,cond_false,Option.some.injEq]at hr⊢
      ·cases hr
      ·exact zM hr ht
     ·simp only[Option.some.injEq]at hr⊢;exact sP hr ht
    ·cases hr
   ·cases hr
  ·cases hr
 ·cases hr
theorem uT {keep:Bool}{ev:Operand→V}{op:Op}{ok:Bool}{out:oD}(hr:qJ keep ty nid op ev h=some (some (ok,out)))(ht:∀id∈out.touch,h' id=h id):qJ keep ty nid op ev h'=some (some (ok,out)):=by
 unfold qJ at hr⊢;split at hr
 ·rename_i t x i;split at hr
  ·rename_i id w hx;split at hr
   ·rename_i k s rows hole hid;simp only[Option.some.injEq]at hr;have:=ht id (jU hr);simp only[hx,this,hid,hr]
   ·cases hr
  ·cases hr
 ·rename_i t a;split at hr
  ·rename_i id off ext ha;split at hr
   ·rename_i k s rows hole hid;simp only[Option.some.injEq]at hr;split at hr
    ·rename_i ti hti;obtain⟨e1,e2⟩:=mW hr ht;simp only[ha,ht id e2,hid,hti,e1]
    ·cases hr
   ·cases hr
  ·cases hr
 ·rename_i t a x;split at hr
  ·rename_i id off ext ha;split at hr
   ·rename_i k s rows hole hid;simp only[Option.some.injEq]at hr;split at hr
    ·rename_i ti hti;obtain⟨e1,e2⟩:=cV hr ht;simp only[ha,ht id e2,hid,hti,e1]
    ·cases hr
   ·cases hr
  ·cases hr
 ·exact qV hr ht
 ·cases hr
theorem wO {keep:Bool}{ev:Operand→V}{op:Op}{ok:Bool}{out:oD}(hr:qJ keep ty nid op ev h=none)(ha:aG ty nid op ev h=some (ok,out))(ht:∀id∈out.touch,h' id=h id):qJ keep ty nid op ev h'=none:=by
 unfold qJ at hr⊢;split at hr
 ·rename_i t x i;split at hr
  ·rename_i id w hx;have hm:id∈out.touch:=by
    simp only[aG,kH,hx]at ha;split at ha
    ·split at ha
     ·cases ha
     ·obtain⟨_,ha⟩:=bA ha;split at ha<;>first|(cases ha;done)|(simp only[Option.some.injEq,Prod.mk.injEq]at ha;obtain⟨_,rfl⟩:=ha;simp)
    ·split at ha
     ·cases ha
     ·rename_i h0;cases ha
    ·cases ha
   simp only[hx,ht id hm];split at hr
   ·cases hr
   ·exact hr
  ·rfl
 ·rename_i t a;split at hr
  ·rename_i id off ext hx;have hm:id∈out.touch:=by
    simp only[aG]at ha;split at ha
    ·simp only[hJ,hx]at ha;obtain⟨_,ha⟩:=bA ha;split at ha
     ·simp only[Option.some.injEq,Prod.mk.injEq]at ha;obtain⟨_,rfl⟩:=ha;simp
     ·cases ha
    ·cases ha
   simp only[hx,ht id hm];split at hr
   ·cases hr
   ·exact hr
  ·rfl
 ·rename_i t a x;split at hr
  ·rename_i id off ext hx;have hm:id∈out.touch:=by
    simp only[aG,hx]at ha;split at ha
    ·rename_i ti id' off' ext' hti e;cases e;split at ha
     ·obtain⟨_,ha⟩:=bA ha;split at ha
      ·simp only[Option.some.injEq,Prod.mk.injEq]at ha;obtain⟨_,rfl⟩:=ha;simp
      ·cases ha
     ·cases ha
    ·cases ha
   simp only[hx,ht id hm];split at hr
   ·cases hr
   ·exact hr
  ·rfl
 ·rename_i b args ts;simp only[aG]at ha;generalize args.toList.map ev=xs at*;unfold pS at hr⊢;split at hr
  ·rename_i id w;have hm:id∈out.touch:=by
    simp only[fF]at ha;split at ha
    ·split at ha
     ·rename_i ti n tc hti hl;obtain⟨_,ha⟩:=bA ha;simp only[Option.some.injEq,Prod.mk.injEq]at ha;obtain⟨_,rfl⟩:=ha;simp only[iI]at hl;split at hl<;>first|(cases hl;done)|(simp only[Option.some.injEq,Prod.mk.injEq]at hl;obtain⟨_,rfl⟩:=hl;simp)
     ·cases ha
    ·cases ha
   simp only[ht id hm];split at hr
   ·cases hr
   ·exact hr
  ·split at hr
   ·split at hr
    ·split at hr
     ·rename_i ti hti
      try simp only[*]
      cases hs:ti.isSl<;>rw[hs]at hr<;>simp only[cond_true,cond_false]at hr⊢
      ·cases keep<;>simp only[cond_true,cond_false]at hr⊢;cases hr
      ·cases hr
     ·try simp only[*]
    ·try simp only[*]
   ·try simp only[*]
  ·rfl
 ·rfl
theorem yK {keep:Bool}{ev ev':Operand→V}{op:Op}{r:Option kK}(hr:qJ keep ty nid op ev h=r)(he:∀x∈op.operands,ev' x=ev x):qJ keep ty nid op ev' h=r:=by
 subst hr;cases op<;>simp only[Op.operands]at he<;>try rfl
 case call c=>
  obtain⟨cl,args,ts⟩:=c;cases cl<;>try rfl
  simp only[qJ];rw[r0 (l:=args.toList) (f:=ev') (g:=ev) fun x hx=>he x (by simp at hx;simp[Call.operands,hx])]
 all_goals (simp only[qJ];simp_all)
end
theorem o8.go_pick {R:Type}(k:V→List jA→Option R):∀a:o8,a.go k=k a.pick.1 a.pick.2
 | .one _ _=>rfl
 | .two true _ _ _ _=>rfl
 | .two false _ _ _ _=>rfl
def jS (tab:Nat→Option jB)(nid f:Nat)(args:List V)(h:Nat→jA)(out:oD):Prop:=
 ∃e at_ σ enc a,tab f=some e∧gC h e.imm args=at_∧kO h 3 (mI [] (jD at_.1))=σ∧
  e.dec (oL (jF · σ 0) at_.1) (σ.map fun i=>pF (jF · σ 0) (h i))=some (some a,enc)∧
  (enc a).pick.2.length≤σ.length+e.fresh∧σ.length≤(enc a).pick.2.length∧nodup σ=true∧yQ σ at_.2=false∧(iM h σ=true∧at_.2.all (fun i=>Nat.blt i vA)=true∧(enc a).pick.2.all l5=true∧(enc a).pick.2.length≤vA)∧out=hD σ at_.2 nid (enc a).pick.1 (enc a).pick.2
theorem uX {R:Type}{tab:Nat→Option jB}{nid f:Nat}{args:List V}{h:Nat→jA}{k:oD→Option R}{r:R}
  (hr:r9 tab nid f args h k=some r):∃out,jS tab nid f args h out∧k out=some r:=by
 unfold r9 at hr;split at hr
 ·cases hr
 ·rename_i e he;dsimp only at hr;split at hr
  ·cases hr
  ·rename_i m enc hm;cases m with
   |none=>cases hr
   |some a=>dsimp only[Option.bind]at hr;rw[o8.go_pick]at hr;obtain⟨h1,h2⟩:=bA hr;simp only[aE,p0]at h1;obtain⟨⟨⟨⟨h3,h4⟩,h5⟩,h6⟩,h7,h8,h9,h10⟩:=h1;exact⟨_,⟨e,_,_,enc,a,he,rfl,rfl,hm,wC h3,wC h4,h5,h6,⟨h7,h8,h9,wC h10⟩,rfl⟩,h2⟩
theorem sF {i:Nat}:∀(r σ:List Nat),i∈σ→i∈mI σ r
 | [],σ,h=>h
 |j::r,σ,h=>by
  unfold mI;cases hc:σ.any (Nat.beq j)<;>simp only[cond_false,cond_true]
  ·exact sF r _ (by simp[h])
  ·exact sF r _ h
theorem xM {i:Nat}:∀(r σ:List Nat),i∈r→i∈mI σ r
 |j::r,σ,h=>by
  unfold mI;cases hc:σ.any (Nat.beq j)<;>simp only[cond_false,cond_true]
  ·rcases hF.mp h with rfl|h
   ·exact sF r _ (by simp)
   ·exact xM r _ h
  ·rcases hF.mp h with rfl|h
   ·simp only[c7]at hc;obtain⟨x,hx,hb⟩:=hc;have:=qA hb;subst this;exact sF r _ hx
   ·exact xM r _ h
theorem oN {h:Nat→jA}{i:Nat}:∀(n:Nat) (σ:List Nat),i∈σ→i∈kO h n σ
 |0,σ,hi=>hi
 |n+1,σ,hi=>oN n _ (sF _ _ hi)
theorem lO {h h':Nat→jA}:∀(n:Nat) (σ:List Nat),(∀id∈kO h n σ,h' id=h id)→kO h' n σ=kO h n σ
 |0,σ,_=>rfl
 |n+1,σ,he=>by
  unfold kO at he⊢;have h1:(σ.flatMap fun i=>oM (h' i))=σ.flatMap fun i=>oM (h i):=by
   have:∀i∈σ,oM (h' i)=oM (h i):=fun i hi=>by rw[he i (oN n _ (sF _ _ hi))]
   clear he;induction σ with
   |nil=>rfl
   |cons j σ ih=>simp only[List.flatMap_cons];rw[this j (by simp),ih (fun i hi=>this i (by simp[hi]))]
  rw[h1];exact lO n _ he
mutual
theorem oQ {h h':Nat→jA}:∀(v:V),(∀id,id∈dH (wE h v).1∨id∈(wE h v).2→h' id=h id)→wE h' v=wE h v
 | .sw id w,he=>by
  have:h' id=h id:=by
   refine he id ?_;unfold wE;split
   ·exact .inr (by simp)
   ·cases Nat.beq w 1
    ·exact .inl (by simp[dH])
    ·exact .inr (by simp)
   ·split
    ·cases Nat.beq w 1
     ·exact .inl (by simp[dH])
     ·exact .inr (by simp)
    ·exact .inl (by simp[dH])
   ·exact .inl (by simp[dH])
  unfold wE;rw[this]
 | .sl id w off len,he=>by
  have:h' id=h id:=by
   refine he id ?_;unfold wE;split
   ·exact .inr (by simp)
   ·exact .inl (by simp[dH])
  unfold wE;rw[this]
 | .agg cs,he=>by unfold wE at he⊢;rw[nQ cs (fun id hid=>he id (by simpa[dH]using hid))]
 | .c _,_=>rfl
 | .poison,_=>rfl
 | .ptr _ _ _,_=>rfl
 | .mref _,_=>rfl
 | .il _ _ _,_=>rfl
 | .iv _ _,_=>rfl
 | .ilp _ _ _ _,_=>rfl
 | .ivp _ _ _ _,_=>rfl
 | .inl _ _ _,_=>rfl
 | .inlp _ _ _ _,_=>rfl
 | .lv _,_=>rfl
 | .tup _,_=>rfl
 | .fn _ _ _,_=>rfl
theorem nQ {h h':Nat→jA}:∀(vs:List V),(∀id,id∈jD (iN h vs).1∨id∈(iN h vs).2→h' id=h id)→iN h' vs=iN h vs
 | [],_=>rfl
 |v::r,he=>by unfold iN at he⊢;rw[oQ v (fun id hid=>he id (by simp only[jD,hN];rcases hid with h|h<;>simp[h])),nQ r (fun id hid=>he id (by simp only[jD,hN];rcases hid with h|h<;>simp[h]))]
end
theorem wH {h h':Nat→jA}:∀(bs:List Bool) (vs:List V),(∀id,id∈jD (gC h bs vs).1∨id∈(gC h bs vs).2→h' id=h id)→gC h' bs vs=gC h bs vs
 | [],vs,_=>by simp[gC]
 |true::bs,[],_=>by simp[gC]
 |false::bs,[],_=>by simp[gC]
 |true::bs,v::r,he=>by unfold gC at he⊢;rw[oQ v (fun id hid=>he id (by simp only[jD,hN];rcases hid with h|h<;>simp[h])),wH bs r (fun id hid=>he id (by simp only[jD,hN];rcases hid with h|h<;>simp[h]))]
 |false::bs,v::r,he=>by unfold gC at he⊢;rw[wH bs r (fun id hid=>he id (by simp only[jD,hN];rcases hid with h|h<;>simp[h]))]
theorem eO {h h':Nat→jA}{l:List Nat}(ht:∀id∈l,h' id=h id)(hl:iM h l=true):iM h' l=true:=by
 unfold iM at hl⊢;rw[o0]at hl⊢;intro i hi;rw[ht i hi];exact hl i hi
theorem jS.congr_h {tab:Nat→Option jB}{nid f:Nat}{args:List V}{h h':Nat→jA}{out:oD}(hc:jS tab nid f args h out)(ht:∀id∈out.touch,h' id=h id):jS tab nid f args h' out:=by
 obtain⟨e,at_,σ,enc,a,h1,h2,h3,h4,h5,h6,h7,h8,h10,h9⟩:=hc;have ht':∀id,id∈σ∨id∈at_.2→h' id=h id:=fun id hid=>ht id (by subst h9;simpa[hD]using hid);have hσ:∀id∈jD at_.1,id∈σ:=fun id hid=>by subst h3;exact oN _ _ (xM _ _ hid)
 refine⟨e,at_,σ,enc,a,h1,?_,?_,?_,h5,h6,h7,h8,⟨eO (fun id hid=>ht' id (.inl hid)) h10.1,h10.2⟩,h9⟩
 ·rw[wH _ _ (fun id hid=>?_)]
  ·exact h2
  ·rw[h2]at hid;exact ht' id (hid.imp (hσ id) (fun x=>x))
 ·rw[lO _ _ (fun id hid=>ht' id (.inl (h3▸hid)))];exact h3
 ·rw[r0 (g:=fun i=>pF (jF · σ 0) (h i)) (fun i hi=>by rw[ht' i (.inl hi)])];exact h4
def nX (T:Nat→V):Operand→V
 | .tmp t=>T t
 | .const v=>gV v
 | .global _=>.poison
 | .func f=>.fn f [] []
theorem cU (T:List (Nat×V)):fk T=nX (uC T):=by funext x;cases x<;>rfl
def jV (E:nD)(nid:Nat)(o:Oper)(T:Nat→V)(h:Nat→jA)(out:oD):Prop:=
 (∃f args ts g first cap,o.op= .call ⟨.value f,args,ts⟩∧nX T f= .fn g first cap∧jS E.tab nid g (first++(args.toList.map (nX T)++cap)) h out)∨
 qJ E.keep E.ty nid o.op (nX T) h=some (some (true,out))∨
 (qJ E.keep E.ty nid o.op (nX T) h=none∧aG E.ty nid o.op (nX T) h=some (true,out)∧aP h out=true)
theorem zV {R:Type}{E:nD}{nid:Nat}{o:Oper}{T:List (Nat×V)}{h:Nat→jA}{k:oD→Option R}{r:R}(hr:bU E nid o T h k=some r):∃out,jV E nid o (uC T) h out∧k out=some r:=by
 unfold bU at hr;split at hr
 ·rename_i f args ts hop;rw[cU]at hr;split at hr
  ·rename_i g first cap hf
   obtain⟨out,h1,h2⟩:=uX hr;exact⟨out,.inl ⟨f,args,ts,g,first,cap,hop,hf,h1⟩,h2⟩
  ·cases hr
 ·rw[cU]at hr;split at hr
  ·rename_i r' hn;split at hr
   ·cases hr
   ·rename_i ok out;obtain⟨h1,h2⟩:=bA hr;subst h1;exact⟨out,.inr (.inl hn),h2⟩
  ·rename_i hn;split at hr
   ·cases hr
   ·rename_i ok out ha;obtain⟨h0,hr0⟩:=bA hr;obtain⟨h1,h2⟩:=bA hr0;subst h1;exact⟨out,.inr (.inr ⟨hn,ha,h0⟩),h2⟩
theorem wY {h h':Nat→jA}{out:oD}(ht:∀id∈out.touch,h' id=h id)(hl:aP h out=true):aP h' out=true:=by
 unfold aP at hl⊢;simp only[aE]at hl⊢;exact⟨eO ht hl.1,hl.2⟩
theorem jV.congr {E:nD}{nid:Nat}{o:Oper}{T T':Nat→V}{h h':Nat→jA}{out:oD}(hx:jV E nid o T h out)(hT:∀x∈o.op.operands,nX T' x=nX T x)(ht:∀id∈out.touch,h' id=h id):jV E nid o T' h' out:=by
 rcases hx with⟨f,args,ts,g,first,cap,h1,h2,h3⟩|ha|⟨ha1,ha2,ha3⟩
 ·rw[h1]at hT;refine .inl ⟨f,args,ts,g,first,cap,h1,?_,?_⟩
  ·rw[hT f (by simp[Op.operands,Call.operands])];exact h2
  ·rw[r0 (g:=nX T) (fun x hx=>hT x (by simp at hx;simp[Op.operands,Call.operands,hx]))];exact h3.congr_h ht
 ·exact .inr (.inl (yK (uT ha ht) hT))
 ·exact .inr (.inr ⟨yK (wO ha1 ha2 ht) hT,vT (uN ha2 ht) hT,wY ht ha3⟩)
def kI (all:List Oper)(T:Nat→V)(o:Oper):Option Bool:=match o.guard with
 |none=>some true
 |some (j,want)=>match(all[j]?).bind (·.dst)with
  |none=>none
  |some g=>match T g with
   | .c (.bool b)=>some (b==want)
   | .c (.tuple _)=>some false
   |_=>none
def tF (T:Nat→V)(d:Option Nat)(v:V):Nat→V:=match d with
 |some d=>fun t=>if t=d then v else T t
 |none=>T
theorem gM (T:List (Nat×V))(d:Option Nat)(v:V):uC (y6 T d v)=tF (uC T) d v:=by
 cases d with
 |none=>rfl
 |some d=>
  funext t;simp only[y6,tF,uC];cases hb:Nat.beq d t<;>simp only[cond_false,cond_true]
  ·rw[if_neg (fun e=>by subst e;simp at hb)]
  ·rw[if_pos (qA hb).symm]
theorem mK (T:List (Nat×V))(g:Nat)(v:V)(h:uC T g=v):uC ((g,v)::T)=uC T:=by
 funext t;simp only[uC];cases hb:Nat.beq g t<;>simp only[cond_false,cond_true];rw[←qA hb,h]
def aH (nid:Nat):List jA→List (Nat×jA)
 | []=>[]
 |b::r=>(nid,b)::aH (nid+1) r
theorem rC (h:Nat→jA):∀(a b:List (Nat×jA)),yB h (a++b)=yB (yB h a) b:=by
 intro a;induction a generalizing h with
 |nil=>intro b;rfl
 |cons p a ih=>intro b;obtain⟨i,x⟩:=p;funext j;simp only[x2,yB];rw[ih]
theorem fa (h:Nat→jA)(nid:Nat)(bs:List jA):lX h nid bs=yB h (aH nid bs):=by
 induction bs generalizing h nid with
 |nil=>rfl
 |cons b r ih=>funext j;simp only[aH,lX,yB];rw[ih]
theorem nH (h:Nat→jA)(nid:Nat)(out:oD):mE h nid out=yB h (out.wr++aH nid out.new):=by
 unfold mE;rw[fa,rC]
theorem lM (nid:Nat)(bs:List jA):(aH nid bs).map (·.1)=(List.range bs.length).map (nid+ ·):=by
 induction bs generalizing nid with
 |nil=>rfl
 |cons b r ih=>simp only[aH,c0,x0,x7,l7,ih];simp[Function.comp_def,Nat.add_assoc,Nat.add_comm 1]
theorem sA {h:Nat→jA}{ups:List (Nat×jA)}{j:Nat}(hj:j∉ups.map (·.1)):yB h ups j=h j:=by
 induction ups generalizing h with
 |nil=>rfl
 |cons p r ih=>obtain⟨i,b⟩:=p;simp only[c0,hF,not_or]at hj;simp only[yB];rw[ih hj.2,if_neg hj.1]
theorem tR {h h':Nat→jA}{ups:List (Nat×jA)}{j:Nat}(hj:j∈ups.map (·.1)):yB h ups j=yB h' ups j:=by
 induction ups generalizing h h' with
 |nil=>cases hj
 |cons p r ih=>
  obtain⟨i,b⟩:=p;simp only[yB];by_cases hr:j∈r.map (·.1)
  ·exact ih hr
  ·simp only[c0,hF,hr,or_false]at hj;rw[sA hr,sA hr,if_pos hj,if_pos hj]
theorem a8 {h:Nat→jA}{a b:List (Nat×jA)}(hd:∀j∈a.map (·.1),j∉b.map (·.1)):yB (yB h a) b=yB (yB h b) a:=by
 funext j;by_cases ha:j∈a.map (·.1)
 ·rw[sA (hd j ha)];exact tR ha
 ·rw[sA (ups:=a) ha];by_cases hb:j∈b.map (·.1)
  ·exact tR hb
  ·rw[sA hb,sA hb,sA ha]
theorem x6 {T:Nat→V}{x y:Option Nat}{v u:V}(h:∀d,x=some d→y≠some d):tF (tF T x v) y u=tF (tF T y u) x v:=by
 cases x with
 |none=>rfl
 |some d=>
  cases y with
  |none=>rfl
  |some e=>
   have hne:d≠e:=fun he=>h d rfl (he▸rfl);funext t;simp only[tF];by_cases h1:t=e
   ·subst h1;rw[if_pos rfl,if_neg (Ne.symm hne),if_pos rfl]
   ·rw[if_neg h1];by_cases h2:t=d
    ·rw[if_pos h2,if_pos h2]
    ·rw[if_neg h2,if_neg h2,if_neg h1]
structure nP where
 i:Nat
 v:V
 touch:List Nat
 ups:List (Nat×jA)
def nP.fp (r:nP):Fp:=⟨r.i,r.touch,r.ups.map (·.1)⟩
structure pG where
 i:Nat
 nid:Nat
 o:Oper
def yG (tab:Nat→Option jB):Nat→Nat→List Oper→List pG
 |_,_,[]=>[]
 |i,nid,o::r=>⟨i,nid,o⟩::yG tab (i+1) (nid+mJ tab o.op) r
def eF (E:nD)(all:List Oper)(len:Nat)(x:pG)(T:Nat→V)(h:Nat→jA)(r:nP):Prop:=
 r.i=x.i∧fZ E.ntmps x.o.dst=true∧
 ((kI all T x.o=some true∧∃out,jV E x.nid x.o T h out∧r=⟨x.i,out.val,out.touch,out.wr++aH x.nid out.new⟩∧out.new.length≤mJ E.tab x.o.op∧x.nid+mJ E.tab x.o.op≤len∧len≤vA∧∀p∈out.wr,p.1<len)∨
  (kI all T x.o=some false∧r=⟨x.i,nF,[],[]⟩))
def Tr (E:nD)(all:List Oper)(len:Nat):List pG→(Nat→V)→(Nat→jA)→List nP→(Nat→V)→(Nat→jA)→Prop
 | [],T,h,[],T',h'=>T'=T∧h'=h
 |x::xs,T,h,r::rs,T',h'=>eF E all len x T h r∧Tr E all len xs (tF T x.o.dst r.v) (yB h r.ups) rs T' h'
 |_,_,_,_,_,_=>False
theorem yA:∀(H:List jA) (i:Nat) (x:jA),(qB H i x).length=H.length
 | [],_,_=>rfl
 |_::_,0,_=>rfl
 |_::r,n+1,x=>by simp[qB,yA r]
theorem xR:∀(ups:List (Nat×jA)) (H:List jA),(j8 H ups).length=H.length
 | [],_=>rfl
 |(i,b)::r,H=>by simp[j8,xR r,yA]
theorem uZ:∀(bs:List jA) (H:List jA) (nid:Nat),bh H nid bs=j8 H (aH nid bs)
 | [],_,_=>rfl
 |b::r,H,nid=>by simp only[bh,aH,j8];exact uZ r _ _
theorem wR:∀(a b:List (Nat×jA)) (H:List jA),j8 (j8 H a) b=j8 H (a++b)
 | [],_,_=>rfl
 |(i,x)::r,b,H=>by simp only[j8,x2];exact wR r b _
theorem cI:∀(H:List jA) (i:Nat) (x:jA),i<H.length→kA (qB H i x)=fun j=>if j=i then x else kA H j
 | [],_,_,h=>by simp at h
 |b::r,0,x,_=>by funext j;cases j<;>simp[qB,kA]
 |b::r,n+1,x,h=>by
  funext j;cases j with
  |zero=>simp[qB,kA]
  |succ j=>simp[qB,kA,cI r n x (by simpa using h)]
theorem nS:∀(ups:List (Nat×jA)) (H:List jA),(∀p∈ups,p.1<H.length)→kA (j8 H ups)=yB (kA H) ups
 | [],_,_=>rfl
 |(i,b)::r,H,h=>by simp only[j8];rw[nS r _ (fun p hp=>by rw[yA];exact h p (by simp[hp])),cI _ _ _ (h (i,b) (by simp))];rfl
theorem tZ {nid:Nat}{bs:List jA}{p:Nat×jA}(hp:p∈aH nid bs):nid≤p.1∧p.1<nid+bs.length:=by
 have:p.1∈(aH nid bs).map (·.1):=w3 hp;rw[lM]at this;simp at this;obtain⟨a,h1,h2⟩:=this;omega
theorem zX {R:Type}{E:nD}{all:List Oper}{r:R}{k:St→List Fp→Option R}:∀(rest:List Oper) (i nid:Nat) (T:List (Nat×V)) (H:List jA) (fps:List Fp),eQ E all i rest nid T H fps k=some r→
  ∃rs T' H',Tr E all H.length (yG E.tab i nid rest) (uC T) (kA H) rs (uC T') (kA H')∧H'.length=H.length∧k ⟨T',H'⟩ ((rs.map nP.fp).reverse++fps)=some r:=by
 intro rest;induction rest with
 |nil=>intro i nid T H fps hr;exact⟨[],T,H,⟨rfl,rfl⟩,rfl,hr⟩
 |cons o rest ih=>
  intro i nid T H fps hr;unfold eQ at hr;dsimp only at hr;obtain⟨hd,hr⟩:=bA hr;have hgo:∀T1:List (Nat×V),uC T1=uC T→kI all (uC T) o=some true→(bU E nid o T1 (kA H) fun out=>bif bt H nid (mJ E.tab o.op) out then
    eQ E all (i+1) rest (nid+mJ E.tab o.op) (y6 T1 o.dst out.val) (bh (j8 H out.wr) nid out.new)
     (⟨i,out.touch,out.wr.map (·.1)++(List.range out.new.length).map (nid+ ·)⟩::fps) k
    else none)=some r→∃rs T' H',Tr E all H.length (yG E.tab i nid (o::rest)) (uC T) (kA H) rs (uC T') (kA H')∧H'.length=H.length∧k ⟨T',H'⟩ ((rs.map nP.fp).reverse++fps)=some r:=by
   intro T1 hT1 hw hr;obtain⟨out,hx,hr⟩:=zV hr;obtain⟨hok,hr⟩:=bA hr;simp only[bt,aE,o0]at hok;obtain⟨⟨o1,o2,o4⟩,o3⟩:=hok;have o1:=wC o1;have o2:=wC o2;have o4:=wC o4;rw[uZ,wR]at hr;obtain⟨rs,T',H',h1,h2,h3⟩:=ih _ _ _ _ _ hr;rw[xR]at h1 h2;rw[nS _ _ (fun p hp=>by
    rcases hN.mp hp with hp|hp
    ·exact bB (o3 p hp)
    ·have:=tZ hp;omega)]at h1
   rw[gM,hT1]at h1;refine⟨⟨i,out.val,out.touch,out.wr++aH nid out.new⟩::rs,T',H',⟨⟨rfl,hd,.inl ⟨hw,out,hT1▸hx,rfl,o1,o2,o4,fun p hp=>bB (o3 p hp)⟩⟩,h1⟩,h2,?_⟩;simp only[c0,w6,j1,e5];unfold nP.fp;simp only[w5,lM];exact h3
  have hskip:∀T1:List (Nat×V),uC T1=uC T→kI all (uC T) o=some false→eQ E all (i+1) rest (nid+mJ E.tab o.op) (y6 T1 o.dst nF) H (⟨i,[],[]⟩::fps) k=some r→
    ∃rs T' H',Tr E all H.length (yG E.tab i nid (o::rest)) (uC T) (kA H) rs (uC T') (kA H')∧H'.length=H.length∧k ⟨T',H'⟩ ((rs.map nP.fp).reverse++fps)=some r:=by
   intro T1 hT1 hw hr;obtain⟨rs,T',H',h1,h2,h3⟩:=ih _ _ _ _ _ hr;rw[gM,hT1]at h1;refine⟨⟨i,nF,[],[]⟩::rs,T',H',⟨⟨rfl,hd,.inr ⟨hw,rfl⟩⟩,h1⟩,h2,?_⟩;simp only[c0,w6,j1,e5];exact h3
  split at hr
  ·rename_i hg;exact hgo T rfl (by simp[kI,hg]) hr
  ·rename_i j want hg;split at hr
   ·cases hr
   ·rename_i g hgd;have hwant:∀b,uC T g= .c (.bool b)→kI all (uC T) o=some (b==want):=fun b hb=>by simp[kI,hg,hgd,hb]
    split at hr
    ·rename_i hb;cases want<;>simp only[cond_true,cond_false]at hr
     ·exact hskip _ (mK _ _ _ hb) (hwant _ hb) hr
     ·exact hgo _ (mK _ _ _ hb) (hwant _ hb) hr
    ·rename_i hb;cases want<;>simp only[cond_true,cond_false]at hr
     ·exact hgo _ (mK _ _ _ hb) (hwant _ hb) hr
     ·exact hskip _ (mK _ _ _ hb) (hwant _ hb) hr
    ·rename_i vs hb;exact hskip _ rfl (by simp[kI,hg,hgd,hb]) hr
    ·cases hr
section
theorem cP {d:Nat}{l:List Nat}:l.any (Nat.beq d)=true↔d∈l:=by
 simp only[c7];constructor
 ·rintro⟨x,hx,hb⟩;have:=qA hb;subst this;exact hx
 ·intro h;exact⟨d,h,by simp⟩
theorem mH {d:Nat}{l:List Nat}:(!(l.any (Nat.beq d)))=true↔d∉l:=by
 rw[p0,←Bool.not_eq_true,cP]
theorem qK {a b:List Nat}:(!yQ a b)=true↔∀j∈a,j∉b:=by
 unfold yQ;rw[p0,←Bool.not_eq_true,c7];simp only[not_exists,not_and];constructor
 ·intro h j hj hb;exact h j hj (cP.mpr hb)
 ·intro h j hj hb;exact h j hj (cP.mp hb)
variable {E:nD}{all:List Oper}{len:Nat}
theorem eF.congr {x:pG}{T T':Nat→V}{h h':Nat→jA}{r:nP}(hc:eF E all len x T h r)(hT:∀t∈dO all x.o,T' t=T t)(hh:∀id∈r.touch,h' id=h id):eF E all len x T' h' r:=by
 obtain⟨h1,h2,h3⟩:=hc;have hop:∀y∈x.o.op.operands,nX T' y=nX T y:=by
  intro y hy;cases y with
  |tmp t=>refine hT t ?_;unfold dO da;exact b6 _ (List.mem_filterMap.mpr ⟨.tmp t,by simpa using hy,rfl⟩)
  |_=>rfl
 have hw:kI all T' x.o=kI all T x.o:=by
  unfold kI;cases hg:x.o.guard with
  |none=>rfl
  |some gw=>
   obtain⟨j,want⟩:=gw;dsimp only;cases hd:(all[j]?).bind (·.dst)with
   |none=>rfl
   |some g=>dsimp only;rw[hT g (by unfold dO;rw[hg];simp only[hd];exact u2 _ (by simp))]
 refine⟨h1,h2,?_⟩;rw[hw];rcases h3 with⟨a1,out,a2,a3,a4⟩|h3
 ·exact .inl ⟨a1,out,a2.congr hop (by subst a3;exact hh),a3,a4⟩
 ·exact .inr h3
structure q8 (all:List Oper)(x y:pG)(rx ry:nP):Prop where
 a1:∀d,x.o.dst=some d→d∉dO all y.o
 a2:∀d,x.o.dst=some d→y.o.dst≠some d
 a3:∀d,y.o.dst=some d→d∉dO all x.o
 b1:(∀j∈rx.touch,j∉ry.ups.map (·.1))∨mU x.o.op y.o.op=true
 b2:∀j∈rx.ups.map (·.1),j∉ry.touch
 b3:∀j∈rx.ups.map (·.1),j∉ry.ups.map (·.1)
theorem iT {T:Nat→V}{dst:Option Nat}{v:V}{t:Nat}(h:∀d,dst=some d→d≠t):tF T dst v t=T t:=by
 cases dst with
 |none=>rfl
 |some d=>simp only[tF];rw[if_neg (fun e=>h d rfl e.symm)]
theorem sZ {l:List Int}:∀(ks:List (List Int)) (n:Nat) {j:Nat},aD l ks n=some j→n≤j∧j<n+ks.length
 | [],_,_,h=>by simp[aD]at h
 |k::r,n,j,h=>by
  simp only[aD]at h;cases hb:cM l k<;>rw[hb]at h
  ·obtain⟨a,b⟩:=sZ r (n+1) h;simp only[x0];omega
  ·simp only[cond_true,Option.some.injEq]at h;subst h;simp only[x0];omega
theorem yV:∀(l:List Int),cM l l=true
 | []=>rfl
 |a::r=>by simp[cM,yV r]
theorem iO {l:List Int}:∀(ks:List (List Int)) (n:Nat),aD l ks n=none→aD l (ks++[l]) n=some (n+ks.length)
 | [],n,_=>by simp[aD,yV]
 |k::r,n,h=>by
  simp only[aD]at h;cases hb:cM l k<;>rw[hb]at h
  ·simp only[x2,aD,hb,cond_false];rw[iO r (n+1) h];simp only[x0,Option.some.injEq];omega
  ·cases h
theorem zQ {α:Type}{d:α}{l:List Int}{ks:List (List Int)}{vs:List α}:
  (match aD l (zB l ks) 0 with|some j=>(aK l (match aD l ks 0 with|some j=>vs.getD j d|none=>d) ks (vs.take ks.length)).getD j d|none=>d)=
   (match aD l ks 0 with|some j=>vs.getD j d|none=>d):=by
 cases hm:aD l ks 0 with
 |none=>
  have hK:zB l ks=ks++[l]:=by simp[zB,kL,hm]
  rw[hK,iO ks 0 hm];simp only[aK,hm];rw[hA];by_cases hl:ks.length≤vs.length
  ·rw[n0 (by simp;omega)];simp[Nat.min_eq_left hl]
  ·rw[hV (by simp;omega)];rfl
 |some j=>
  have hj:=sZ ks 0 hm;have hK:zB l ks=ks:=by simp[zB,kL,hm]
  rw[hK,hm];simp only[aK,hm];rw[hA,hA];by_cases hv:j<vs.length
  ·rw[List.getElem?_set_self (by simp;omega)];rfl
  ·rw[hV (by simp;omega),hV (by omega)]
theorem hU {l:List Int}{ks:List (List Int)}{vs c:lJ}{v:V}(hv:vE l ks vs=some v)(hc:mL l ks (tK ks.length vs) v=some c):
  vE l (zB l ks) c=some v∧∀te,nI te c=nI te vs:=by
 cases vs with
 |strs _=>simp[vE]at hv
 |ints k vs=>simp only[vE,Option.some.injEq]at hv;subst hv;simp only[tK,mL]at hc;obtain⟨_,h2⟩:=bA hc;simp only[Option.some.injEq]at h2;subst h2;refine⟨?_,fun te=>rfl⟩;simp only[vE,Option.some.injEq];congr 2;exact zQ
 |bools vs=>simp only[vE,Option.some.injEq]at hv;subst hv;simp only[tK,mL,Option.some.injEq]at hc;subst hc;refine⟨?_,fun te=>rfl⟩;simp only[vE,Option.some.injEq];congr 2;exact zQ
theorem kY {ty:Nat→Option TI}{t:Nat}{m i:V}{h:Nat→jA}{out outy:oD}(hx:jG ty t m i false h=some (true,out))(hy:dF ty t m i h=some (true,outy)):
  outy.new=[]∧jG ty t m i false (yB h outy.wr)=some (true,out):=by
 unfold dF at hy;split at hy
 ·rename_i kt et s0 b0 z0 id ht;split at hy
  ·rename_i k n ks vs tk te hid htk hte;split at hy
   ·rename_i l v hl hv;split at hy
    ·rename_i c hcol;obtain⟨hc,h2⟩:=bA hy;simp only[Option.some.injEq,Prod.mk.injEq,true_and]at h2;subst h2;refine⟨rfl,?_⟩;rw[hl]at hv;simp only at hv;obtain⟨g1,g2⟩:=hU hv hcol;unfold jG at hx⊢;simp only[ht,hid,htk,hte,hl,hv]at hx;simp only[yB,ht,if_pos,htk,hte,hl,g1,g2];exact hx
    ·cases hy
   ·cases hy
  ·cases hy
 ·cases hy
theorem uR {h:Nat→jA}{ups:List (Nat×jA)}(hu:∀p∈ups,p.2.isNw=false){i:Nat}(hi:(h i).isNw=false):(yB h ups i).isNw=false:=by
 induction ups generalizing h with
 |nil=>exact hi
 |cons p r ih=>
  obtain⟨j,b⟩:=p;simp only[yB];refine ih (fun q hq=>hu q (by simp[hq])) ?_;split
  ·exact hu (j,b) (by simp)
  ·exact hi
theorem cw {h:Nat→jA}{ups:List (Nat×jA)}{out:oD}(hl:aP h out=true)(hu:∀p∈ups,p.2.isNw=false):aP (yB h ups) out=true:=by
 unfold aP iM at hl⊢;simp only[aE,o0,p0]at hl⊢;exact⟨fun i hi=>⟨(hl.1 i hi).1,uR hu (hl.1 i hi).2⟩,hl.2⟩
theorem bg {nid:Nat}:∀(bs:List jA),(aH nid bs).map (·.2)=bs:=by
 intro bs;induction bs generalizing nid with
 |nil=>rfl
 |cons b r ih=>simp only[aH,c0,ih]
theorem iX {h:Nat→jA}{nid:Nat}{out:oD}(hl:aP h out=true):∀p∈out.wr++aH nid out.new,p.2.isNw=false:=by
 unfold aP at hl;simp only[aE,o0,p0]at hl;intro p hp;rcases hN.mp hp with hp|hp
 ·exact(hl.2.1 p hp).2
 ·refine hl.2.2 p.2 ?_;have:p.2∈(aH nid out.new).map (·.2):=w3 hp;rw[bg]at this;exact this
theorem eF.look {x y:pG}{T:Nat→V}{h:Nat→jA}{rx ry:nP}(hx:eF E all len x T h rx)(hy:eF E all len y T h ry)(hl:mU x.o.op y.o.op=true):eF E all len x T (yB h ry.ups) rx:=by
 obtain⟨h1,h2,h3⟩:=hx;obtain⟨_,_,hy⟩:=hy;refine⟨h1,h2,?_⟩;rcases h3 with⟨a1,out,a2,a3,a4⟩|h3
 ·rcases hy with⟨b1,outy,b2,b3,b4⟩|⟨_,b3⟩
  ·refine .inl ⟨a1,out,?_,a3,a4⟩;unfold mU at hl;split at hl
   ·rename_i t a b t' a' b' e1 e2;simp only[aE]at hl;obtain⟨l1,l2,l3⟩:=hl;have l1:=qA l1;have l2:=qA l2;have l3:=qA l3;subst l1;subst l2;subst l3;rcases a2 with⟨_,_,_,_,_,_,e3,_⟩|a2|⟨_,a2,a5⟩
    ·rw[e1]at e3;cases e3
    ·rw[e1]at a2;simp[qJ]at a2
    ·rcases b2 with⟨_,_,_,_,_,_,e3,_⟩|b2|⟨_,b2,b5⟩
     ·rw[e2]at e3;cases e3
     ·rw[e2]at b2;simp[qJ]at b2
     ·rw[e1]at a2;rw[e2]at b2;refine .inr (.inr ⟨by rw[e1];rfl,?_,?_⟩)
      ·rw[e1];obtain⟨g1,g2⟩:=kY (ty:=E.ty) a2 b2;subst b3;simp only[g1,aH,List.append_nil];exact g2
      ·subst b3;exact cw a5 (iX b5)
   ·cases hl
  ·subst b3;exact .inl ⟨a1,out,a2,a3,a4⟩
 ·exact .inr h3
theorem eF.swap {x y:pG}{T:Nat→V}{h:Nat→jA}{rx ry:nP}(hx:eF E all len x T h rx)(hy:eF E all len y (tF T x.o.dst rx.v) (yB h rx.ups) ry)(ha:q8 all x y rx ry):
  eF E all len y T h ry∧eF E all len x (tF T y.o.dst ry.v) (yB h ry.ups) rx∧tF (tF T x.o.dst rx.v) y.o.dst ry.v=tF (tF T y.o.dst ry.v) x.o.dst rx.v∧yB (yB h rx.ups) ry.ups=yB (yB h ry.ups) rx.ups:=by
 have hy':eF E all len y T h ry:=hy.congr (fun t ht=>(iT (fun d hd he=>ha.a1 d hd (he▸ht))).symm) (fun id hid=>(sA (fun hm=>ha.b2 id hm hid)).symm);have hT:∀t∈dO all x.o,tF T y.o.dst ry.v t=T t:=fun t ht=>iT (fun d hd he=>ha.a3 d hd (he▸ht));refine⟨hy',?_,x6 ha.a2,a8 ha.b3⟩;rcases ha.b1 with hb|hl
 ·exact hx.congr hT (fun id hid=>sA (hb id hid))
 ·exact(hx.look hy' hl).congr hT (fun _ _=>rfl)
def p8 (E:nD)(all:List Oper)(len:Nat):List (pG×nP)→(Nat→V)→(Nat→jA)→(Nat→V)→(Nat→jA)→Prop
 | [],T,h,T',h'=>T'=T∧h'=h
 |p::xs,T,h,T',h'=>eF E all len p.1 T h p.2∧p8 E all len xs (tF T p.1.o.dst p.2.v) (yB h p.2.ups) T' h'
theorem Tr.pairs:∀{xs:List pG} {T:Nat→V} {h:Nat→jA} {rs:List nP} {T':Nat→V} {h':Nat→jA},Tr E all len xs T h rs T' h'→∃L:List (pG×nP),L.map (·.1)=xs∧L.map (·.2)=rs∧p8 E all len L T h T' h'
 | [],_,_,[],_,_,ht=>⟨[],rfl,rfl,ht⟩
 |x::xs,_,_,r::rs,_,_,ht=>by obtain⟨h1,h2⟩:=ht;obtain⟨L,a1,a2,a3⟩:=Tr.pairs h2;exact⟨(x,r)::L,by simp[a1],by simp[a2],h1,a3⟩
 | [],_,_,_::_,_,_,ht=>ht.elim
 |_::_,_,_,[],_,_,ht=>ht.elim
theorem p8.front {p:pG×nP}{L2:List (pG×nP)}{T':Nat→V}{h':Nat→jA}:∀(L1:List (pG×nP)) (T:Nat→V) (h:Nat→jA),p8 E all len (L1++p::L2) T h T' h'→(∀q∈L1,q8 all q.1 p.1 q.2 p.2)→
  eF E all len p.1 T h p.2∧p8 E all len (L1++L2) (tF T p.1.o.dst p.2.v) (yB h p.2.ups) T' h'
 | [],_,_,ht,_=>ht
 |q::L1,T,h,ht,ha=>by obtain⟨h1,h2⟩:=ht;obtain⟨h3,h4⟩:=p8.front L1 _ _ h2 (fun q hq=>ha q (by simp[hq]));obtain⟨s1,s2,s3,s4⟩:=h1.swap h3 (ha q (by simp));rw[s3,s4]at h4;exact⟨s1,s2,h4⟩
def zT (o:Oper):List Nat:=(o.after.toList.filter (Region.binds .any)).map (·.on)
theorem dT {accf:Nat→Nat}{x:Nat}:∀(ds:List Nat) (m:Nat),(ds.foldl (fun m d=>m|||(1<<<d)|||accf d) m).testBit x=true→
  m.testBit x=true∨x∈ds∨∃d∈ds,(accf d).testBit x=true
 | [],m,h=>Or.inl h
 |d::ds,m,h=>by
  rw[List.foldl_cons]at h;rcases dT ds _ h with h|h|⟨e,he,h⟩
  ·rw[Nat.testBit_or,Nat.testBit_or,Nat.testBit_shiftLeft]at h;simp only[q7,aE,decide_eq_true_eq]at h;rcases h with(h|⟨h1,h2⟩)|h
   ·exact Or.inl h
   ·have hz:x-d=0:=by
     rcases Nat.eq_zero_or_pos (x-d)with h|h
     ·exact h
     ·rw[Nat.testBit_lt_two_pow (Nat.one_lt_two_pow (by omega))]at h2;cases h2
    have:x=d:=by omega
    exact Or.inr (Or.inl (by simp[this]))
   ·exact Or.inr (Or.inr ⟨d,by simp,h⟩)
  ·exact Or.inr (Or.inl (u1 _ h))
  ·exact Or.inr (Or.inr ⟨e,u1 _ he,h⟩)
theorem xT {S:Nat→Prop}(hS:∀j o,S j→all[j]?=some o→∀d∈zT o,S d):
  ∀(rest:List Oper) (acc:List Nat),all=all.take acc.length++rest→acc.length≤all.length→(∀j o,j<acc.length→all[j]?=some o→(∀d∈zT o,S d)→∀x,(acc.reverse.getD j 0).testBit x=true→S x)→
   ∀j o,all[j]?=some o→(∀d∈zT o,S d)→∀x,((gH rest acc).getD j 0).testBit x=true→S x:=by
 intro rest;induction rest with
 |nil=>
  intro acc hall hle hinv j o hj hd x hx;simp only[gH]at hx;have:j<acc.length:=by have hjl:j<all.length:=(hR.mp hj).1;have:=congrArg List.length hall;simp at this;omega
  exact hinv j o this hj hd x hx
 |cons o rest ih=>
  intro acc hall hle hinv;have hlen:acc.length<all.length:=by have:=congrArg List.length hall;simp at this;omega
  have hat:all[acc.length]?=some o:=by
   have h2:(all.take acc.length++o::rest)[acc.length]?=some o:=by rw[n0 (by simp;omega)];simp[Nat.min_eq_left hle]
   rw[←hall]at h2;exact h2
  simp only[gH];refine ih _ ?_ (by simp;omega) ?_
  ·simp only[x0];rw[List.take_add_one,hat];simp only[Option.toList,j1,e5];exact hall
  ·intro j oj hj hoj hd x hx;simp only[w6]at hx;simp only[x0]at hj;rcases e0 j acc.length with hlt|hge
   ·refine hinv j oj hlt hoj hd x ?_;rw[hA,hZ (by simpa using hlt)]at hx;rw[hA];exact hx
   ·have:j=acc.length:=by omega
    subst this;rw[hat]at hoj;simp only[Option.some.injEq]at hoj;subst hoj;rw[hA,n0 (by simp)]at hx;simp only[List.length_reverse,Nat.sub_self,List.getElem?_cons_zero,j0]at hx;rcases dT _ _ hx with hx|hx|⟨d,hd1,hx⟩
    ·rw[Nat.zero_testBit]at hx;cases hx
    ·exact hd x hx
    ·have hSd:=hd d hd1;rcases e0 d acc.length with hlt|hge
     ·have hdl:d<all.length:=by omega
      exact hinv d _ hlt (hX hdl) (fun d' hd'=>hS d _ hSd (hX hdl) d' hd') x hx
     ·rw[hA,hV (by simpa using hge)]at hx;rw[Option.getD_none,Nat.zero_testBit]at hx;cases hx
theorem aL:∀(rest:List Oper) (k:Nat),bI k rest=true→∀j o,rest[j]?=some o→∀d∈zT o,d<k+j
 | [],_,_,j,o,hj=>by simp at hj
 |x::r,k,hb,0,o,hj=>by simp at hj;subst hj;simp only[bI,aE,o0]at hb;intro d hd;simp only[zT,y3,y0]at hd;obtain⟨e,⟨h1,h2⟩,rfl⟩:=hd;have:=hb.1 e h1;rw[h2]at this;simp at this;omega
 |x::r,k,hb,j+1,o,hj=>by simp only[bI,aE]at hb;intro d hd;have:=aL r (k+1) hb.2 j o (by simpa using hj) d hd;omega
theorem iJ {bef:List Nat}:∀(l:List Fp),tU all bef l=true→l.Pairwise (fun y x=>gW all bef x y=true)
 | [],_=>.nil
 |y::r,h=>by simp only[tU,aE,o0]at h;exact .cons h.1 (iJ r h.2)
section
variable {P:Program}{ops:Array Oper}{Q:Exit→Act→World→Prop}
theorem qW {o:Oper}{d:Nat}:d∈zT o↔∃e∈o.after,Region.binds .any e=true∧e.on=d:=by
 simp only[zT,y3,y0,Array.mem_toList_iff];constructor
 ·rintro⟨e,⟨h1,h2⟩,h3⟩;exact⟨e,h1,h2,h3⟩
 ·rintro⟨e,h1,h2,h3⟩;exact⟨e,⟨h1,h2⟩,h3⟩
theorem xO {l:Array Bool}{i:Nat}(h:l.getD i false=true):l.getD i true=true:=by
 rw[hW]at h⊢;cases hc:l[i]?<;>rw[hc]at h<;>simp_all
theorem yO {l:Array Bool}{i:Nat}(hi:i<l.size)(h:l.getD i true=true):l.getD i false=true:=by
 rw[hW,Array.getElem?_eq_getElem hi]at h⊢;exact h
theorem df (I:(Nat→V)→(Nat→jA)→List pG→Act→World→Prop){T':Nat→V}{h':Nat→jA}
  (hstep:∀T h pre x post r a w K,eF E ops.toList len x T h r→I T h (pre++x::post) a w→ops[x.i]?=some x.o→(∀a' w',I (tF T x.o.dst r.v) (yB h r.ups) (pre++post) a' w'→K a' w')→wpOp P ops Q x.i K a w)
  (hb:bI 0 ops.toList=true)(hQ:∀a w,I T' h' [] a w→Q .normal a w):
  ∀(fuel:Nat) (listed:Array Bool) (L:List (pG×nP)) (T:Nat→V) (h:Nat→jA) (a:Act) (w:World),p8 E ops.toList len L T h T' h'→I T h (L.map (·.1)) a w→L.length≤fuel→
   listed.size=ops.size→L.map (·.1.i)=(List.range ops.size).filter (fun i=>!listed.getD i true)→(∀p∈L,ops[p.1.i]?=some p.1.o)→(∀p∈L,p.2.i=p.1.i)→
   L.Pairwise (fun p q=>gW ops.toList (gH ops.toList []) p.2.fp q.2.fp=true)→
   (∀j o,listed.getD j false=true→ops[j]?=some o→∀d∈zT o,listed.getD d false=true)→
   wpAny P .any ops Q fuel listed a w:=by
 intro fuel;induction fuel with
 |zero=>
  intro listed L T h a w ht hI hlen hsz hL ho hri hpw hcl;have:L=[]:=k4.mp (by omega);subst this;obtain⟨rfl,rfl⟩:=ht;refine⟨?_,hQ a w hI⟩;rw[List.eq_nil_iff_forall_not_mem];intro j hj;rw[mem_ready]at hj;obtain⟨h0,o,hjo,_⟩:=hj;have hjl:j<ops.size:=(n3.mp hjo).1;have:j∈(List.range ops.size).filter (fun i=>!listed.getD i true):=by simp only[y0,e4];exact⟨hjl,by rw[h0];rfl⟩
  rw[←hL]at this;simp at this
 |succ fuel ih=>
  intro listed L T h a w ht hI hlen hsz hL ho hri hpw hcl;refine⟨fun hr=>?_,fun i hi=>?_⟩
  ·cases L with
   |nil=>obtain⟨rfl,rfl⟩:=ht;exact hQ a w hI
   |cons p L=>
    exfalso;have hpo:=ho p (by simp);have hpl:p.1.i<ops.size:=(n3.mp hpo).1;have hin:p.1.i∈(List.range ops.size).filter (fun i=>!listed.getD i true):=by rw[←hL];simp
    simp only[y0,e4,p0]at hin;have hfirst:∀j,j<p.1.i→listed.getD j true=true:=by
     intro j hj;cases hc:listed.getD j true with
     |true=>rfl
     |false=>
      exfalso;have hm:j∈(p::L).map (·.1.i):=by rw[hL];simp only[y0,e4];exact⟨by omega,by rw[hc];rfl⟩
      have hsorted:((p::L).map (·.1.i)).Pairwise (· < ·):=by rw[hL];exact List.Pairwise.filter _ List.pairwise_lt_range
      simp only[c0,q6,hF]at hsorted hm;rcases hm with rfl|hm
      ·omega
      ·have:=hsorted.1 j hm;omega
    have hrd:p.1.i∈Region.ready .any ops listed:=by rw[mem_ready];refine⟨hin.2,p.1.o,hpo,fun e he hbe=>?_⟩;have hlt:e.on<0+p.1.i:=aL _ _ hb p.1.i p.1.o (by simpa using hpo) e.on (qW.mpr ⟨e,he,hbe,rfl⟩);exact yO (by omega) (hfirst e.on (by omega))
    rw[hr]at hrd;cases hrd
  ·have hi':=hi;rw[mem_ready]at hi;obtain⟨h0,o,hio,hdeps⟩:=hi;have hil:i<ops.size:=(n3.mp hio).1;have hm:i∈L.map (·.1.i):=by rw[hL];simp only[y0,e4];exact⟨hil,by rw[h0];rfl⟩
   obtain⟨p,hpL,hpi⟩:=y3.mp hm;obtain⟨L1,L2,rfl⟩:=List.append_of_mem hpL;have hpo:=ho p hpL;have hd':∀d∈zT o,listed.getD d false=true:=fun d hd=>by obtain⟨e,he,hbe,rfl⟩:=qW.mp hd;exact hdeps e he hbe
   have hbef:∀x,((gH ops.toList []).getD i 0).testBit x=true→listed.getD x false=true:=
    xT (all:=ops.toList) (S:=fun j=>listed.getD j false=true) (fun j o hj hjo=>hcl j o hj (by simpa using hjo)) ops.toList [] (by simp) (by simp) (fun j o hj=>by simp at hj) i o (by simpa using hio) hd'
   have hap:∀q∈L1,q8 ops.toList q.1 p.1 q.2 p.2:=by
    intro q hq;have hind:gW ops.toList (gH ops.toList []) q.2.fp p.2.fp=true:=by rw[e6]at hpw;exact hpw.2.2 q hq p (by simp)
    have hqL:q∈L1++p::L2:=by simp[hq]
    have hqu:listed.getD q.1.i true=false:=by have:q.1.i∈(L1++p::L2).map (·.1.i):=w3 hqL;rw[hL]at this;simp only[y0,p0]at this;exact this.2
    simp only[gW,nP.fp]at hind;rw[hri q hqL,hri p hpL,hpi,q7,aE,aE,aE]at hind;rcases hind with hind|⟨⟨⟨h1,h2⟩,h3⟩,h4⟩
    ·have:=xO (hbef _ hind);rw[hqu]at this;cases this
    ·have e1:ops.toList.getD q.1.i default=q.1.o:=by rw[hA];have:=ho q hqL;simp[this]
     have e2:ops.toList.getD i default=p.1.o:=by rw[←hpi,hA];simp[hpo]
     rw[e1,e2]at h1 h2;simp only[z8,aE]at h1;refine⟨fun d hd=>?_,fun d hd he=>?_,fun d hd=>?_,((q7 _ _).mp h2).imp qK.mp id,qK.mp h3,qK.mp h4⟩
     ·have:=h1.1;rw[hd]at this;simp only[aE]at this;exact mH.mp this.1
     ·have:=h1.1;rw[hd]at this;simp only[aE]at this;exact mH.mp this.2 (by simp[he])
     ·have:=h1.2;rw[hd]at this;exact mH.mp this
   obtain⟨hc,ht'⟩:=p8.front L1 T h ht hap;rw[←hpi];refine hstep T h (L1.map (·.1)) p.1 (L2.map (·.1)) p.2 a w _ hc (by simpa using hI) hpo (fun a' w' hI'=>?_);refine ih _ (L1++L2) _ _ a' w' ht' (by simpa using hI') (by simp at hlen⊢;omega) (by simpa using hsz) ?_ ?_ ?_ ?_ ?_
   ·have hnd:((L1++p::L2).map (·.1.i)).Nodup:=by rw[hL];exact(List.nodup_range).filter _
    have hf:((List.range ops.size).filter fun j=>!(listed.setIfInBounds p.1.i true).getD j true)=(((List.range ops.size).filter fun j=>!listed.getD j true).filter fun j=>j != p.1.i):=by
     rw[List.filter_filter];refine List.filter_congr (fun j hj=>?_);by_cases hji:j=p.1.i
     ·subst hji;have:(listed.setIfInBounds p.1.i true).getD p.1.i true=true:=by
       rw[hW,Array.getElem?_setIfInBounds_self];split<;>rfl
      rw[this];simp
     ·rw[getD_set_ne true (Ne.symm hji)];simp[hji]
    rw[hf,←hL];simp only[w5,c0,List.filter_append,List.filter_cons,bne_self_eq_false,x3,if_false];simp only[w5,c0,List.nodup_append,c6,hF]at hnd;obtain⟨_,⟨hn1,_⟩,hn2⟩:=hnd;rw[k6.mpr,k6.mpr]
    ·intro x hx;simp only[bne_iff_ne,ne_eq];rintro rfl;exact hn1 hx
    ·intro x hx;simp only[bne_iff_ne,ne_eq];rintro rfl;exact hn2 _ hx _ (.inl rfl) rfl
   ·intro q hq;refine ho q ?_;simp only[hN,hF]at hq⊢;rcases hq with h|h<;>simp[h]
   ·intro q hq;refine hri q ?_;simp only[hN,hF]at hq⊢;rcases hq with h|h<;>simp[h]
   ·exact hpw.sublist (List.Sublist.append_left (b8 _ _) _)
   ·intro j oj hj hoj d hd;by_cases hji:j=p.1.i
    ·subst hji;rw[hpi,hio]at hoj;simp only[Option.some.injEq]at hoj;subst hoj;exact getD_set_true (hd' d hd)
    ·rw[getD_set_ne false (Ne.symm hji)]at hj;exact getD_set_true (hcl j oj hj hoj d hd)
theorem dg (I:(Nat→V)→(Nat→jA)→List pG→Act→World→Prop){T':Nat→V}{h':Nat→jA}
  (hstep:∀T h pre x post r a w K,eF E ops.toList len x T h r→I T h (pre++x::post) a w→ops[x.i]?=some x.o→(∀a' w',I (tF T x.o.dst r.v) (yB h r.ups) (pre++post) a' w'→K a' w')→wpOp P ops Q x.i K a w)
  (hQ:∀a w,I T' h' [] a w→Q .normal a w):
  ∀(L:List (pG×nP)) (T:Nat→V) (h:Nat→jA) (a:Act) (w:World),p8 E ops.toList len L T h T' h'→I T h (L.map (·.1)) a w→(∀p∈L,ops[p.1.i]?=some p.1.o)→wpOps P ops Q (L.map (·.1.i)) a w:=by
 intro L;induction L with
 |nil=>intro T h a w ht hI ho;obtain⟨rfl,rfl⟩:=ht;exact hQ a w hI
 |cons p L ih=>intro T h a w ht hI ho;simp only[c0];rw[wpOps_cons];exact hstep T h [] p.1 (L.map (·.1)) p.2 a w _ ht.1 (by simpa using hI) (ho p (by simp)) (fun a' w' hI'=>ih _ _ a' w' ht.2 (by simpa using hI') (fun q hq=>ho q (by simp[hq])))
end
end
theorem eB:∀(bs:List jA) (j:Nat),kA bs j=bs.getD j .dead
 | [],_=>by simp[kA]
 |_::_,0=>by simp[kA]
 |b::r,j+1=>by simp[kA,eB r j]
theorem yL:∀(bs:List jA) (n:Nat),rS bs n=bs.drop n
 |_,0=>by simp[rS]
 | [],_+1=>by simp[rS]
 |_::r,n+1=>by simp[rS,yL r n]
theorem mS {m:Nat→Option Nat}(bs:List jA)(j:Nat):kA (bs.map (pF m)) j=pF m (kA bs j):=by
 rw[eB,eB];simp only[hA,l4];cases bs[j]?<;>rfl
theorem sN {h:Nat→jA}{nid:Nat}{bs:List jA}{id:Nat}(h1:nid≤id)(h2:id<nid+bs.length):yB h (aH nid bs) id=kA bs (id-nid):=by
 induction bs generalizing h nid with
 |nil=>simp at h2;omega
 |cons b r ih=>
  simp only[aH,yB];by_cases he:id=nid
  ·subst he;rw[sA (fun hm=>by rw[lM]at hm;simp at hm;omega),if_pos rfl];simp[kA]
  ·rw[ih (by omega) (by simp at h2;omega)];have:id-nid=(id- (nid+1))+1:=by omega
   rw[this];rfl
theorem bK {nid:Nat}{bs:List jA}{id:Nat}(h:¬(nid≤id∧id<nid+bs.length)):id∉(aH nid bs).map (·.1):=by
 rw[lM];simp;intro x hx;omega
theorem tM:∀(σ:List Nat) (bs:List jA) (i:Nat),i∈(zR σ bs).map (·.1)→i∈σ
 | [],_,i,h=>by simp[zR]at h
 |_::_,[],i,h=>by simp[zR]at h
 |j::r,b::s,i,h=>by simp only[zR,c0,hF]at h⊢;exact h.imp id (tM r s i)
theorem cR:∀(σ:List Nat),nodup σ=true→σ.Nodup
 | [],_=>List.nodup_nil
 |i::r,h=>by simp only[nodup,aE]at h;exact c6.mpr ⟨mH.mp h.1,cR r h.2⟩
theorem qT:∀(σ:List Nat) (bs:List jA) (h:Nat→jA) (j i:Nat),σ.Nodup→σ.length≤bs.length→σ[j]?=some i→yB h (zR σ bs) i=kA bs j
 | [],_,_,_,_,_,_,hi=>by simp at hi
 |x::r,[],_,_,_,_,hl,_=>by simp at hl
 |x::r,b::s,h,0,i,hn,hl,hi=>by simp at hi;subst hi;simp only[zR,yB];rw[sA (fun hm=>(c6.mp hn).1 (tM _ _ _ hm)),if_pos rfl];rfl
 |x::r,b::s,h,j+1,i,hn,hl,hi=>by simp only[zR,yB];rw[qT r s _ j i (c6.mp hn).2 (by simpa using hl) (by simpa using hi)];rfl
theorem uK:∀(τ:List Nat) (h:Nat→jA) (i:Nat),i∈τ→yB h (τ.map fun i=>(i,jA.dead)) i= .dead
 |x::r,h,i,hi=>by
  simp only[c0,yB];by_cases hr:i∈r
  ·exact uK r _ i hr
  ·rw[sA (by simpa[Function.comp_def]using hr)];rcases hF.mp hi with rfl|hi
   ·rw[if_pos rfl]
   ·exact absurd hi hr
theorem fR:∀(σ:List Nat) (i n j:Nat),jF i σ n=some j→n≤j∧σ[j-n]?=some i
 | [],i,n,j,h=>by simp[jF]at h
 |x::r,i,n,j,h=>by
  simp only[jF]at h;cases hb:Nat.beq x i<;>rw[hb]at h<;>simp only[cond_true,cond_false]at h
  ·obtain⟨h1,h2⟩:=fR r i (n+1) j h;refine⟨by omega,?_⟩;have:j-n=(j- (n+1))+1:=by omega
   rw[this];simpa using h2
  ·simp only[Option.some.injEq]at h;subst h;have:=qA hb;subst this;simp
theorem eR {σ:List Nat}{nid j i:Nat}(h:σ[j]?=some i):pD σ nid j=some i:=by unfold pD;rw[h]
theorem dR {σ:List Nat}{nid j:Nat}(h:σ.length≤j)(ht:j<vA):pD σ nid j=some (nid+(j-σ.length)):=by
 unfold pD;rw[hV h];have:Nat.blt j vA=true:=n5 ht;rw[this];rfl
theorem uU {σ:List Nat}{nid j:Nat}(h:σ.length≤j)(ht:vA≤j):pD σ nid j=none:=by
 unfold pD;rw[hV h];have:Nat.blt j vA=false:=by
  cases hb:Nat.blt j vA with
  |false=>rfl
  |true=>have:=bB hb;omega
 rw[this];rfl
def aF (γ:Nat→Nat)(s:Nat)(hole:Option (Nat×Nat))(i:Nat):V:=match hole with
 |some (j,g)=>if i=j then .sw g s else .sw (γ i) s
 |none=>.sw (γ i) s
def fC (γ:Nat→Nat)(s:Nat)(hole:Option (Nat×Nat))(n:Nat):List V:=(List.range n).map (aF γ s hole)
def xA (h:Nat→jA)(j i:Nat):Prop:=∃k s rows hole,j<vA∧h j= .nw k s rows hole∧i<rows.length∧∀g,hole≠some (i,g)
structure gB (h:Nat→jA)(γ:Nat→Nat→Nat)(v:Nat→jA):Prop where
 plain:∀j,j<vA→(h j).isNw=false→v j=h j
 nest:∀j k s rows hole,j<vA→h j= .nw k s rows hole→v j= .vals (fC (γ j) s hole rows.length)
 row:∀j i k s rows hole,j<vA→h j= .nw k s rows hole→i<rows.length→(∀g,hole≠some (i,g))→vA≤γ j i∧v (γ j i)= .ints k (rows.getD i [])
 inj:∀j i j' i',xA h j i→xA h j' i'→γ j i=γ j' i'→j=j'∧i=i'
 rest:∀g,vA≤g→(v g).live→∃j i,xA h j i∧γ j i=g
 high:∀j,vA≤j→h j= .dead
def iq (h v:Nat→jA):Prop:=∃γ,gB h γ v
def Bd (ρ:vB):Prop:=∃G,∀g,G≤g→ρ g=none
theorem jA.dead_of {x:jA}(h:¬x.live):x= .dead:=by
 cases x<;>first|rfl|exact absurd trivial h
theorem pA (γ:Nat→Nat)(s:Nat)(hole:Option (Nat×Nat))(n:Nat):(fC γ s hole n).length=n:=by simp[fC]
theorem tD (γ:Nat→Nat)(s:Nat)(hole:Option (Nat×Nat)){n i:Nat}(h:i<n):(fC γ s hole n)[i]?=some (aF γ s hole i):=by
 simp[fC,h]
theorem gB.flat {h:Nat→jA}(hf:∀j,(h j).isNw=false)(ht:∀j,vA≤j→h j= .dead):gB h (fun _ i=>i) h where
 plain _ _ _:=rfl
 nest j k s rows hole _ hj:=by have:=hf j;rw[hj]at this;cases this
 row j i k s rows hole _ hj:=by have:=hf j;rw[hj]at this;cases this
 inj j i j' i' hl:=by obtain⟨k,s,rows,hole,_,hj,_⟩:=hl;have:=hf j;rw[hj]at this;cases this
 rest g hg hl:=by rw[ht g hg]at hl;exact hl.elim
 high:=ht
theorem fP {x:jA}(h:x.isNw=true):∃k s rows hole,x= .nw k s rows hole:=by
 match x,h with
 | .nw k s rows hole,_=>exact⟨k,s,rows,hole,rfl⟩
theorem gB.dead {h:Nat→jA}{γ:Nat→Nat→Nat}{v:Nat→jA}(ho:gB h γ v){j:Nat}(hj:j<vA)(hd:¬(v j).live):h j= .dead:=by
 cases hn:(h j).isNw with
 |true=>obtain⟨k,s,rows,hole,e⟩:=fP hn;rw[ho.nest j k s rows hole hj e]at hd;exact absurd trivial hd
 |false=>have:=ho.plain j hj hn;rw[this]at hd;exact jA.dead_of hd
theorem gB.upd {h:Nat→jA}{γ:Nat→Nat→Nat}{v:Nat→jA}(ho:gB h γ v){ups:List (Nat×jA)}(hlt:∀p∈ups,p.1<vA)(hold:∀p∈ups,(h p.1).isNw=false)(hnew:∀p∈ups,p.2.isNw=false):
  gB (yB h ups) γ (yB v ups):=by
 have hin:∀j,j∈ups.map (·.1)→j<vA∧(yB h ups j).isNw=false∧(h j).isNw=false:=by intro j hj;obtain⟨p,hp,e⟩:=y3.mp hj;subst e;exact⟨hlt p hp,uR hnew (hold p hp),hold p hp⟩
 have hnw:∀j k s rows hole,yB h ups j= .nw k s rows hole↔h j= .nw k s rows hole∧j∉ups.map (·.1):=by
  intro j k s rows hole;by_cases hj:j∈ups.map (·.1)
  ·constructor
   ·intro e;have:=(hin j hj).2.1;rw[e]at this;cases this
   ·intro e;exact absurd hj e.2
  ·rw[sA hj];exact⟨fun e=>⟨e,hj⟩,fun e=>e.1⟩
 have hlod:∀j i,xA (yB h ups) j i→xA h j i:=by rintro j i ⟨k,s,rows,hole,h1,h2,h3⟩;exact⟨k,s,rows,hole,h1,((hnw _ _ _ _ _).mp h2).1,h3⟩
 have hge:∀g,vA≤g→yB v ups g=v g:=fun g hg=>sA (fun hm=>by have:=(hin g hm).1;omega);refine⟨?_,?_,?_,?_,?_,fun j hj=>by rw[sA (fun hm=>by have:=(hin j hm).1;omega)];exact ho.high j hj⟩
 ·intro j hj hn;by_cases hm:j∈ups.map (·.1)
  ·exact tR hm
  ·rw[sA hm]at hn⊢;rw[sA hm];exact ho.plain j hj hn
 ·intro j k s rows hole hj e;obtain⟨e1,e2⟩:=(hnw _ _ _ _ _).mp e;rw[sA e2];exact ho.nest j k s rows hole hj e1
 ·intro j i k s rows hole hj e hi hh;obtain⟨e1,e2⟩:=(hnw _ _ _ _ _).mp e;obtain⟨q1,q2⟩:=ho.row j i k s rows hole hj e1 hi hh;exact⟨q1,by rw[hge _ q1];exact q2⟩
 ·intro j i j' i' h1 h2 e;exact ho.inj j i j' i' (hlod _ _ h1) (hlod _ _ h2) e
 ·intro g hg hl;rw[hge g hg]at hl;obtain⟨j,i,h1,h2⟩:=ho.rest g hg hl;obtain⟨k,s,rows,hole,q1,q2,q3⟩:=h1;refine⟨j,i,⟨k,s,rows,hole,q1,(hnw _ _ _ _ _).mpr ⟨q2,fun hm=>?_⟩,q3⟩,h2⟩;have:=(hin j hm).2.2;rw[q2]at this;cases this
theorem gB.lend {h:Nat→jA}{γ:Nat→Nat→Nat}{v:Nat→jA}(ho:gB h γ v){id off nid:Nat}{k:IntKind}{s:Nat}{rows:List (List Int)}(hid:h id= .nw k s rows none)(hlt:id<vA)(hoff:off<rows.length)(hnid:nid<vA)(hd:h nid= .dead)
  {h':Nat→jA}(e1:h' id= .nw k s rows (some (off,nid)))(e2:h' nid= .ints k (rows.getD off []))(e3:∀j,j≠id→j≠nid→h' j=h j):
  gB h' γ (fun x=>if x=nid then .ints k (rows.getD off [])else if x=γ id off then .dead else if x=id then .vals (fC (γ id) s (some (off,nid)) rows.length)else v x):=by
 have hne:id≠nid:=fun e=>by subst e;rw[hid]at hd;cases hd
 have hg0:=ho.row id off k s rows none hlt hid hoff (fun g e=>by cases e);have hlod:∀j i,xA h' j i→xA h j i∧¬(j=id∧i=off):=by
  rintro j i ⟨k1,s1,rows1,hole1,h1,h2,h3,h4⟩;by_cases hj:j=id
  ·subst hj;rw[e1]at h2;cases h2;exact⟨⟨k,s,rows,none,h1,hid,h3,fun g e=>by cases e⟩,fun⟨_,e⟩=>h4 nid (by rw[e])⟩
  ·by_cases hj2:j=nid
   ·subst hj2;rw[e2]at h2;cases h2
   ·rw[e3 j hj hj2]at h2;exact⟨⟨k1,s1,rows1,hole1,h1,h2,h3,h4⟩,fun⟨e,_⟩=>hj e⟩
 have hlod2:∀j i,xA h j i→¬(j=id∧i=off)→xA h' j i:=by
  rintro j i ⟨k1,s1,rows1,hole1,h1,h2,h3,h4⟩ hn;by_cases hj:j=id
  ·subst hj;rw[hid]at h2;cases h2;exact⟨k,s,rows,_,h1,e1,h3,fun g e=>by simp only[Option.some.injEq,Prod.mk.injEq]at e;exact hn ⟨rfl,e.1.symm⟩⟩
  ·by_cases hj2:j=nid
   ·subst hj2;rw[hd]at h2;cases h2
   ·exact⟨k1,s1,rows1,hole1,h1,by rw[e3 j hj hj2];exact h2,h3,h4⟩
 have hlo0:xA h id off:=⟨k,s,rows,none,hlt,hid,hoff,fun g e=>by cases e⟩
 refine⟨?_,?_,?_,?_,?_,fun j hj=>by rw[e3 j (by omega) (by omega)];exact ho.high j hj⟩
 ·intro j hj hn;by_cases hj1:j=nid
  ·subst hj1;simp only[if_true];exact e2.symm
  ·by_cases hj2:j=id
   ·subst hj2;rw[e1]at hn;cases hn
   ·rw[e3 j hj2 hj1]at hn⊢;have hj3:j≠γ id off:=fun e=>by have:=hg0.1;omega
    simp only[if_neg hj1,if_neg hj2,if_neg hj3];exact ho.plain j hj hn
 ·intro j k1 s1 rows1 hole1 hj e;by_cases hj1:j=id
  ·subst hj1;rw[e1]at e;cases e;have hj3:j≠γ j off:=fun e=>by have:=hg0.1;omega
   simp only[if_neg hne,if_neg hj3,if_true]
  ·by_cases hj2:j=nid
   ·subst hj2;rw[e2]at e;cases e
   ·rw[e3 j hj1 hj2]at e;have hj3:j≠γ id off:=fun e=>by have:=hg0.1;omega
    simp only[if_neg hj1,if_neg hj2,if_neg hj3];exact ho.nest j k1 s1 rows1 hole1 hj e
 ·intro j i k1 s1 rows1 hole1 hj e hi hh;have hl:xA h' j i:=⟨k1,s1,rows1,hole1,hj,e,hi,hh⟩
  obtain⟨hl1,hl2⟩:=hlod j i hl;have key:vA≤γ j i∧v (γ j i)= .ints k1 (rows1.getD i []):=by
   by_cases hj1:j=id
   ·subst hj1;rw[e1]at e;cases e;exact ho.row j i k s rows none hj hid hi (fun g e=>by cases e)
   ·by_cases hj2:j=nid
    ·subst hj2;rw[e2]at e;cases e
    ·rw[e3 j hj1 hj2]at e;exact ho.row j i k1 s1 rows1 hole1 hj e hi hh
  refine⟨key.1,?_⟩;have c1:γ j i≠nid:=fun e=>by have:=key.1;omega
  have c2:γ j i≠γ id off:=fun e=>hl2 (ho.inj j i id off hl1 hlo0 e);have c3:γ j i≠id:=fun e=>by have:=key.1;omega
  simp only[if_neg c1,if_neg c2,if_neg c3];exact key.2
 ·intro j i j' i' h1 h2 e;exact ho.inj j i j' i' (hlod _ _ h1).1 (hlod _ _ h2).1 e
 ·intro g hg hl;have c1:g≠nid:=fun e=>by omega
  have c3:g≠id:=fun e=>by omega
  simp only[if_neg c1,if_neg c3]at hl;by_cases c2:g=γ id off
  ·rw[if_pos c2]at hl;exact hl.elim
  ·rw[if_neg c2]at hl;obtain⟨j,i,h1,h2⟩:=ho.rest g hg hl;exact⟨j,i,hlod2 j i h1 (fun⟨a,b⟩=>c2 (by rw[←h2,a,b])),h2⟩
theorem gB.absorb {h:Nat→jA}{γ:Nat→Nat→Nat}{v:Nat→jA}(ho:gB h γ v){id j g γ0:Nat}{k:IntKind}{s:Nat}{rows:List (List Int)}{l:List Int}(hid:h id= .nw k s rows (some (j,g)))(hlt:id<vA)(hg:h g= .ints k l)(hglt:g<vA)(hγ:vA≤γ0)(hγ0:¬(v γ0).live)
  {h':Nat→jA}(e1:h' id= .nw k s (rows.set j l) none)(e2:h' g= .dead)(e3:∀x,x≠id→x≠g→h' x=h x):
  gB h' (fun a b=>if a=id∧b=j then γ0 else γ a b) (fun x=>if x=g then .dead else if x=γ0 then(if j<rows.length then .ints k l else .dead)else if x=id then .vals (fC (fun b=>if b=j then γ0 else γ id b) s none rows.length)else v x):=by
 have hne:id≠g:=fun e=>by subst e;rw[hid]at hg;cases hg
 have hlod:∀a i,xA h' a i→(a=id∧i=j∧j<rows.length)∨(xA h a i∧¬(a=id∧i=j)):=by
  rintro a i ⟨k1,s1,rows1,hole1,h1,h2,h3,h4⟩;by_cases hj:a=id
  ·subst hj;rw[e1]at h2;cases h2;rw[r7]at h3;by_cases hi:i=j
   ·exact .inl ⟨rfl,hi,by omega⟩
   ·exact .inr ⟨⟨k,s,rows,_,h1,hid,h3,fun g' e=>by simp only[Option.some.injEq,Prod.mk.injEq]at e;exact hi e.1.symm⟩,fun⟨_,e⟩=>hi e⟩
  ·by_cases hj2:a=g
   ·subst hj2;rw[e2]at h2;cases h2
   ·rw[e3 a hj hj2]at h2;exact .inr ⟨⟨k1,s1,rows1,hole1,h1,h2,h3,h4⟩,fun⟨e,_⟩=>hj e⟩
 have hγne:∀a i,xA h a i→γ a i≠γ0:=by rintro a i ⟨k1,s1,rows1,hole1,h1,h2,h3,h4⟩ e;have:=(ho.row a i k1 s1 rows1 hole1 h1 h2 h3 h4).2;rw[e]at this;rw[this]at hγ0;exact hγ0 trivial
 refine⟨?_,?_,?_,?_,?_,fun j hj=>by rw[e3 j (by omega) (by omega)];exact ho.high j hj⟩
 ·intro a ha hn;by_cases h1:a=g
  ·subst h1;simp only[if_true];exact e2.symm
  ·by_cases h2:a=id
   ·subst h2;rw[e1]at hn;cases hn
   ·rw[e3 a h2 h1]at hn⊢;have h3:a≠γ0:=by omega
    simp only[if_neg h1,if_neg h2,if_neg h3];exact ho.plain a ha hn
 ·intro a k1 s1 rows1 hole1 ha e;by_cases h1:a=id
  ·subst h1;rw[e1]at e;cases e;have h3:a≠γ0:=by omega
   simp only[if_neg hne,if_neg h3,if_true,true_and,r7]
  ·by_cases h2:a=g
   ·subst h2;rw[e2]at e;cases e
   ·rw[e3 a h1 h2]at e;have h3:a≠γ0:=by omega
    simp only[if_neg h1,if_neg h2,if_neg h3,h1,false_and,if_false];exact ho.nest a k1 s1 rows1 hole1 ha e
 ·intro a i k1 s1 rows1 hole1 ha e hi hh;rcases hlod a i ⟨k1,s1,rows1,hole1,ha,e,hi,hh⟩with⟨rfl,rfl,hlen⟩|⟨hl1,hl2⟩
  ·rw[e1]at e;cases e;have c1:γ0≠g:=by omega
   refine⟨by simpa using hγ,?_⟩;simp only[and_self,if_true,if_neg c1,if_pos hlen];simp[hA,hlen]
  ·have hγ1:(if a=id∧i=j then γ0 else γ a i)=γ a i:=if_neg hl2;rw[hγ1];have key:vA≤γ a i∧v (γ a i)= .ints k1 (rows1.getD i []):=by
    by_cases h1:a=id
    ·subst h1;rw[e1]at e;cases e;have hi2:i≠j:=fun e=>hl2 ⟨rfl,e⟩;obtain⟨q1,q2⟩:=ho.row a i k s rows _ ha hid (by simpa using hi) (fun g' e=>by simp only[Option.some.injEq,Prod.mk.injEq]at e;exact hi2 e.1.symm);refine⟨q1,?_⟩;rw[q2];simp[hA,List.getElem?_set_ne (Ne.symm hi2)]
    ·by_cases h2:a=g
     ·subst h2;rw[e2]at e;cases e
     ·rw[e3 a h1 h2]at e;exact ho.row a i k1 s1 rows1 hole1 ha e hi hh
   refine⟨key.1,?_⟩;have c1:γ a i≠g:=fun e=>by have:=key.1;omega
   have c2:γ a i≠γ0:=hγne a i hl1;have c3:γ a i≠id:=fun e=>by have:=key.1;omega
   simp only[if_neg c1,if_neg c2,if_neg c3];exact key.2
 ·intro a i a' i' h1 h2 e;rcases hlod a i h1 with⟨q1,q2,q3⟩|⟨q1,q2⟩<;>rcases hlod a' i' h2 with⟨q1',q2',q3'⟩|⟨q1',q2'⟩
  ·exact⟨q1.trans q1'.symm,q2.trans q2'.symm⟩
  ·rw[if_pos ⟨q1,q2⟩,if_neg q2']at e;exact absurd e.symm (hγne a' i' q1')
  ·rw[if_neg q2,if_pos ⟨q1',q2'⟩]at e;exact absurd e (hγne a i q1)
  ·rw[if_neg q2,if_neg q2']at e;exact ho.inj a i a' i' q1 q1' e
 ·intro x hx hl;have c1:x≠g:=by omega
  have c3:x≠id:=by omega
  simp only[if_neg c1,if_neg c3]at hl;by_cases c2:x=γ0
  ·rw[if_pos c2]at hl;by_cases hlen:j<rows.length
   ·exact⟨id,j,⟨k,s,rows.set j l,none,hlt,e1,by simpa using hlen,fun g' e=>by cases e⟩,by rw[if_pos ⟨rfl,rfl⟩,c2]⟩
   ·rw[if_neg hlen]at hl;exact hl.elim
  ·rw[if_neg c2]at hl;obtain⟨a,i,h1,h2⟩:=ho.rest x hx hl;have hn:¬(a=id∧i=j):=by
    rintro⟨rfl,rfl⟩;obtain⟨k1,s1,rows1,hole1,q1,q2,q3,q4⟩:=h1;rw[hid]at q2;cases q2;exact q4 g rfl
   refine⟨a,i,?_,by rw[if_neg hn];exact h2⟩;obtain⟨k1,s1,rows1,hole1,q1,q2,q3,q4⟩:=h1;by_cases h3:a=id
   ·subst h3;rw[hid]at q2;cases q2;exact⟨k,s,rows.set j l,none,q1,e1,by simpa using q3,fun g' e=>by cases e⟩
   ·have h4:a≠g:=fun e=>by subst e;rw[hg]at q2;cases q2
    exact⟨k1,s1,rows1,hole1,q1,by rw[e3 a h3 h4];exact q2,q3,q4⟩
open Classical in
theorem gB.point {h:Nat→jA}{γ:Nat→Nat→Nat}{v:Nat→jA}(ho:gB h γ v){id off g:Nat}{k:IntKind}{s:Nat}{rows:List (List Int)}{hole:Option (Nat×Nat)}(hid:h id= .nw k s rows hole)(hlt:id<vA)(hhole:hole=none∨∃g0,hole=some (off,g0))
  {h':Nat→jA}(e1:h' id= .nw k s rows (some (off,g)))(e3:∀j,j≠id→h' j=h j):
  gB h' γ (fun x=>if x=γ id off∧xA h id off then .dead else if x=id then .vals (fC (γ id) s (some (off,g)) rows.length)else v x):=by
 have hlod:∀j i,xA h' j i→xA h j i∧¬(j=id∧i=off):=by
  rintro j i ⟨k1,s1,rows1,hole1,h1,h2,h3,h4⟩;by_cases hj:j=id
  ·subst hj;rw[e1]at h2;cases h2;have hi:i≠off:=fun e=>h4 g (by rw[e]);exact⟨⟨k,s,rows,hole,h1,hid,h3,fun g' e=>by
    rcases hhole with q|⟨g0,q⟩<;>rw[q]at e
    ·cases e
    ·simp only[Option.some.injEq,Prod.mk.injEq]at e;exact hi e.1.symm⟩,fun⟨_,e⟩=>hi e⟩
  ·rw[e3 j hj]at h2;exact⟨⟨k1,s1,rows1,hole1,h1,h2,h3,h4⟩,fun⟨e,_⟩=>hj e⟩
 have hlod2:∀j i,xA h j i→¬(j=id∧i=off)→xA h' j i:=by
  rintro j i ⟨k1,s1,rows1,hole1,h1,h2,h3,h4⟩ hn;by_cases hj:j=id
  ·subst hj;rw[hid]at h2;cases h2;exact⟨k,s,rows,_,h1,e1,h3,fun g e=>by simp only[Option.some.injEq,Prod.mk.injEq]at e;exact hn ⟨rfl,e.1.symm⟩⟩
  ·exact⟨k1,s1,rows1,hole1,h1,by rw[e3 j hj];exact h2,h3,h4⟩
 have hge:∀j i,xA h j i→vA≤γ j i∧∃k1 s1 rows1 hole1,h j= .nw k1 s1 rows1 hole1∧v (γ j i)= .ints k1 (rows1.getD i []):=by rintro j i ⟨k1,s1,rows1,hole1,h1,h2,h3,h4⟩;obtain⟨q1,q2⟩:=ho.row j i k1 s1 rows1 hole1 h1 h2 h3 h4;exact⟨q1,k1,s1,rows1,hole1,h2,q2⟩
 have low:∀x,x<vA→¬(x=γ id off∧xA h id off):=fun x hx ⟨e,hl⟩=>by have:=(hge id off hl).1;omega
 refine⟨?_,?_,?_,?_,?_,fun j hj=>by rw[e3 j (by omega)];exact ho.high j hj⟩
 ·intro j hj hn;by_cases hj2:j=id
  ·subst hj2;rw[e1]at hn;cases hn
  ·rw[e3 j hj2]at hn⊢;simp only[if_neg (low j hj),if_neg hj2];exact ho.plain j hj hn
 ·intro j k1 s1 rows1 hole1 hj e;by_cases hj1:j=id
  ·subst hj1;rw[e1]at e;cases e;simp only[if_neg (low j hj),if_true]
  ·rw[e3 j hj1]at e;simp only[if_neg (low j hj),if_neg hj1];exact ho.nest j k1 s1 rows1 hole1 hj e
 ·intro j i k1 s1 rows1 hole1 hj e hi hh;have hl:xA h' j i:=⟨k1,s1,rows1,hole1,hj,e,hi,hh⟩
  obtain⟨hl1,hl2⟩:=hlod j i hl;obtain⟨q1,k2,s2,rows2,hole2,q2,q3⟩:=hge j i hl1;refine⟨q1,?_⟩;have c2:¬(γ j i=γ id off∧xA h id off):=fun⟨e,hlo⟩=>hl2 (ho.inj j i id off hl1 hlo e);have c3:γ j i≠id:=fun e=>by omega
  simp only[if_neg c2,if_neg c3];rw[q3];by_cases hj1:j=id
  ·subst hj1;rw[e1]at e;rw[hid]at q2;cases e;cases q2;rfl
  ·rw[e3 j hj1,q2]at e;cases e;rfl
 ·intro j i j' i' h1 h2 e;exact ho.inj j i j' i' (hlod _ _ h1).1 (hlod _ _ h2).1 e
 ·intro g' hg hl;have c3:g'≠id:=fun e=>by omega
  simp only[if_neg c3]at hl;by_cases c2:g'=γ id off∧xA h id off
  ·rw[if_pos c2]at hl;exact hl.elim
  ·rw[if_neg c2]at hl;obtain⟨j,i,h1,h2⟩:=ho.rest g' hg hl;exact⟨j,i,hlod2 j i h1 (fun⟨a,b⟩=>c2 (by subst a;subst b;exact⟨h2.symm,h1⟩)),h2⟩
theorem gB.snoc {h:Nat→jA}{γ:Nat→Nat→Nat}{v:Nat→jA}(ho:gB h γ v){nid γ0:Nat}{dd gg:Option Nat}{k:IntKind}{s:Nat}{rows:List (List Int)}{l:List Int}(hd:match dd with|none=>rows=[]|some id=>id<vA∧h id= .nw k s rows none)(hg:match gg with|none=>True|some g=>g<vA∧h g= .ints k l)
  (hnid:nid<vA)(hn:h nid= .dead)(hγ:vA≤γ0)(hγ0:¬(v γ0).live)
  {h':Nat→jA}(e1:h' nid= .nw k s (rows++[l]) none)(e2:∀x,x≠nid→dd=some x∨gg=some x→h' x= .dead)(e3:∀x,x≠nid→dd≠some x→gg≠some x→h' x=h x):
  gB h' (fun a b=>if a=nid then(if b<rows.length then γ (dd.getD 0) b else γ0)else γ a b)
   (fun x=>if x=γ0 then .ints k l else if x=nid then .vals (fC (fun b=>if b<rows.length then γ (dd.getD 0) b else γ0) s none (rows.length+1))else if dd=some x∨gg=some x then .dead else v x):=by
 have hγne:∀a i,xA h a i→γ a i≠γ0:=by rintro a i ⟨k1,s1,rows1,hole1,h1,h2,h3,h4⟩ e;have:=(ho.row a i k1 s1 rows1 hole1 h1 h2 h3 h4).2;rw[e]at this;rw[this]at hγ0;exact hγ0 trivial
 have hge:∀j i,xA h j i→vA≤γ j i∧∃k1 s1 rows1 hole1,h j= .nw k1 s1 rows1 hole1∧v (γ j i)= .ints k1 (rows1.getD i []):=by rintro j i ⟨k1,s1,rows1,hole1,h1,h2,h3,h4⟩;obtain⟨q1,q2⟩:=ho.row j i k1 s1 rows1 hole1 h1 h2 h3 h4;exact⟨q1,k1,s1,rows1,hole1,h2,q2⟩
 have hold:∀i,i<rows.length→∃id,dd=some id∧id<vA∧h id= .nw k s rows none∧xA h id i:=by
  intro i hi;cases hdd:dd with
  |none=>rw[hdd]at hd;rw[hd]at hi;simp at hi
  |some id=>rw[hdd]at hd;exact⟨id,rfl,hd.1,hd.2,k,s,rows,none,hd.1,hd.2,hi,fun g e=>by cases e⟩
 have hlod:∀a i,xA h' a i→(a=nid∧i=rows.length)∨(a=nid∧i<rows.length∧∃id,dd=some id∧xA h id i)∨(a≠nid∧dd≠some a∧xA h a i):=by
  rintro a i ⟨k1,s1,rows1,hole1,h1,h2,h3,h4⟩;by_cases ha:a=nid
  ·subst ha;rw[e1]at h2;cases h2;simp only[l6,z1]at h3;by_cases hi:i=rows.length
   ·exact .inl ⟨rfl,hi⟩
   ·obtain⟨id,q1,q2,q3,q4⟩:=hold i (by omega);exact .inr (.inl ⟨rfl,by omega,id,q1,q4⟩)
  ·by_cases hx:dd=some a∨gg=some a
   ·rw[e2 a ha hx]at h2;cases h2
   ·rw[e3 a ha (fun e=>hx (.inl e)) (fun e=>hx (.inr e))]at h2;exact .inr (.inr ⟨ha,fun e=>hx (.inl e),k1,s1,rows1,hole1,h1,h2,h3,h4⟩)
 refine⟨?_,?_,?_,?_,?_,fun j hj=>by rw[e3 j (by omega) (fun e=>by rw[e]at hd;have:=hd.1;omega) (fun e=>by rw[e]at hg;have:=hg.1;omega)];exact ho.high j hj⟩
 ·intro a ha hnn;have c1:a≠γ0:=by omega
  by_cases c2:a=nid
  ·subst c2;rw[e1]at hnn;cases hnn
  ·by_cases c3:dd=some a∨gg=some a
   ·simp only[if_neg c1,if_neg c2,if_pos c3];rw[e2 a c2 c3]
   ·have q:=e3 a c2 (fun e=>c3 (.inl e)) (fun e=>c3 (.inr e));rw[q]at hnn⊢;simp only[if_neg c1,if_neg c2,if_neg c3];exact ho.plain a ha hnn
 ·intro a k1 s1 rows1 hole1 ha e;have c1:a≠γ0:=by omega
  by_cases c2:a=nid
  ·subst c2;rw[e1]at e;cases e;simp only[if_neg c1,if_true,l6,z1]
  ·by_cases c3:dd=some a∨gg=some a
   ·rw[e2 a c2 c3]at e;cases e
   ·rw[e3 a c2 (fun e=>c3 (.inl e)) (fun e=>c3 (.inr e))]at e;simp only[if_neg c1,if_neg c2,if_neg c3];exact ho.nest a k1 s1 rows1 hole1 ha e
 ·intro a i k1 s1 rows1 hole1 ha e hi hh;rcases hlod a i ⟨k1,s1,rows1,hole1,ha,e,hi,hh⟩with⟨q1,q2⟩|⟨q1,q2,id,q3,q4⟩|⟨q1,q2,q3⟩
  ·subst q1;rw[e1]at e;cases e;subst q2;simp only[if_true,w4,if_false];exact⟨hγ,by simp⟩
  ·subst q1;rw[e1]at e;cases e;rw[q3]at hd;simp only[if_true,if_pos q2,q3,j0];obtain⟨r1,k2,s2,rows2,hole2,r2,r3⟩:=hge id i q4;rw[hd.2]at r2;cases r2;have c1:γ id i≠γ0:=hγne id i q4;have c2:γ id i≠a:=fun e=>by omega
   have c3:¬(id=γ id i∨gg=some (γ id i)):=by
    rintro(e|e)
    ·omega
    ·rw[e]at hg;have:=hg.1;omega
   refine⟨r1,?_⟩;simp only[if_neg c1,if_neg c2,Option.some.injEq,if_neg c3,r3];simp[hA,hZ q2]
  ·obtain⟨r1,k2,s2,rows2,hole2,r2,r3⟩:=hge a i q3;have hx:gg≠some a:=fun e=>by rw[e]at hg;rw[hg.2]at r2;cases r2
   rw[e3 a q1 q2 hx]at e;rw[r2]at e;cases e;have c1:γ a i≠γ0:=hγne a i q3;have c2:γ a i≠nid:=fun e=>by omega
   have c3:¬(dd=some (γ a i)∨gg=some (γ a i)):=by
    rintro(e|e)
    ·rw[e]at hd;have:=hd.1;omega
    ·rw[e]at hg;have:=hg.1;omega
   simp only[if_neg q1,if_neg c1,if_neg c2,if_neg c3];exact⟨r1,r3⟩
 ·intro a i a' i' h1 h2 e;rcases hlod a i h1 with⟨q1,q2⟩|⟨q1,q2,id,q3,q4⟩|⟨q1,q2,q3⟩<;>rcases hlod a' i' h2 with⟨p1,p2⟩|⟨p1,p2,id',p3,p4⟩|⟨p1,p2,p3⟩
  ·exact⟨q1.trans p1.symm,q2.trans p2.symm⟩
  ·simp only[q1,p1,q2,if_true,w4,if_false,if_pos p2,p3,j0]at e;exact absurd e.symm (hγne id' i' p4)
  ·simp only[q1,q2,if_true,w4,if_false,if_neg p1]at e;exact absurd e.symm (hγne a' i' p3)
  ·simp only[q1,p1,p2,if_true,w4,if_false,if_pos q2,q3,j0]at e;exact absurd e (hγne id i q4)
  ·simp only[q1,p1,if_true,if_pos q2,if_pos p2]at e;rw[q3]at p3;simp only[Option.some.injEq]at p3;subst p3;simp only[q3,j0]at e;exact⟨q1.trans p1.symm,(ho.inj id i id i' q4 p4 e).2⟩
  ·simp only[q1,if_true,if_pos q2,if_neg p1,q3,j0]at e;have:=(ho.inj id i a' i' q4 p3 e).1;subst this;exact absurd q3 p2
  ·simp only[p1,p2,if_true,w4,if_false,if_neg q1]at e;exact absurd e (hγne a i q3)
  ·simp only[p1,if_true,if_pos p2,if_neg q1,p3,j0]at e;have:=(ho.inj a i id' i' q3 p4 e).1;subst this;exact absurd p3 q2
  ·simp only[if_neg q1,if_neg p1]at e;exact ho.inj a i a' i' q3 p3 e
 ·intro x hx hl;have c2:x≠nid:=by omega
  by_cases c1:x=γ0
  ·exact⟨nid,rows.length,⟨k,s,rows++[l],none,hnid,e1,by simp,fun g' e=>by cases e⟩,by simp[c1]⟩
  ·simp only[if_neg c1,if_neg c2]at hl;have c3:¬(dd=some x∨gg=some x):=by
    intro hc;rw[if_pos hc]at hl;exact hl.elim
   rw[if_neg c3]at hl;obtain⟨a,i,h1,h2⟩:=ho.rest x hx hl;obtain⟨r1,k2,s2,rows2,hole2,r2,r3⟩:=hge a i h1;by_cases hda:dd=some a
   ·rw[hda]at hd;rw[hd.2]at r2;cases r2;obtain⟨k1,s1,rows1,hole1,q1,q2,q3,q4⟩:=h1;rw[hd.2]at q2;cases q2;exact⟨nid,i,⟨k,s,rows++[l],none,hnid,e1,by simp;omega,fun g' e=>by cases e⟩,by simp only[if_true,if_pos q3,hda,j0];exact h2⟩
   ·have han:a≠nid:=fun e=>by subst e;rw[hn]at r2;cases r2
    have hga:gg≠some a:=fun e=>by rw[e]at hg;rw[hg.2]at r2;cases r2
    obtain⟨k1,s1,rows1,hole1,q1,q2,q3,q4⟩:=h1;exact⟨a,i,⟨k1,s1,rows1,hole1,q1,by rw[e3 a han hda hga];exact q2,q3,q4⟩,by rw[if_neg han];exact h2⟩
theorem dA.shift {F:Nat→Prop}{ρ ρ':vB}{v v':Nat→jA}{w:World}(hh:dA F ρ v w)(hs:yH ρ ρ')(hwf:∀id p,ρ' id=some p→p.n≤p.C)(src:Nat→Nat)
  (hsrc:∀x,(v' x).live→((v (src x)).live∧ρ' x=ρ (src x)∧(v' x=v (src x)∨∃cs cs',v (src x)= .vals cs∧v' x= .vals cs'∧cs'.length=cs.length∧∀M us,eA ρ' M w cs us→eA ρ' M w cs' us))∨(ρ' x=some ⟨none,0,0⟩∧∃k,v' x= .ints k []))
  (hinj:∀x x',(v' x).live→(v' x').live→(v (src x)).live→src x=src x'→x=x'):
  dA F ρ' v' w∧iE (cA ρ v) w (cA ρ' v') w:=by
 have hM:∀b,cA ρ' v' b→cA ρ v b:=by
  rintro b ⟨x,n,C,hp,hl⟩;rcases hsrc x hl with⟨h1,h2,_⟩|⟨h2,_⟩
  ·rw[h2]at hp;exact⟨_,n,C,hp,h1⟩
  ·rw[h2]at hp;cases hp
 have hext:iE (cA ρ v) w (cA ρ' v') w:=⟨q0 _,fun _ _ _=>rfl,fun b hb=>.inl (hM b hb),.refl _⟩
 refine⟨⟨hwf,?_,?_,hh.low,fun b hb=>hh.out b (hM b hb)⟩,hext⟩
 ·intro x hl;rcases hsrc x hl with⟨h1,h2,h3⟩|⟨h2,k,h3⟩
  ·obtain⟨p,hp,hb⟩:=hh.rel _ h1;have hb':=tA.mono hs hext hb (fun _ _=>rfl);refine⟨p,by rw[h2];exact hp,?_⟩;rcases h3 with h3|⟨cs,cs',h3,h4,h5,h6⟩
   ·rw[h3];exact hb'
   ·rw[h3]at hb';rw[h4];obtain⟨g1,⟨g2,g3,g4⟩|⟨b,c,g2,g3,g4,g5⟩⟩:=hb'
    ·subst g3;have:cs'=[]:=k4.mp h5;subst this;exact⟨g1,.inl ⟨g2,rfl,g4⟩⟩
    ·exact⟨by rw[h5];exact g1,.inr ⟨b,c,g2,g3,g4,h6 _ _ g5⟩⟩
  ·exact⟨_,h2,by rw[h3];exact⟨rfl,.inl ⟨rfl,rfl,rfl⟩⟩⟩
 ·intro x x' b n C n' C' hx hx' hp hp';rcases hsrc x hx with⟨h1,h2,_⟩|⟨h2,_⟩
  ·rcases hsrc x' hx' with⟨h1',h2',_⟩|⟨h2',_⟩
   ·rw[h2]at hp;rw[h2']at hp';exact hinj x x' hx hx' h1 (hh.inj _ _ b _ _ _ _ h1 h1' hp hp')
   ·rw[h2']at hp';cases hp'
  ·rw[h2]at hp;cases hp
theorem gA.sw_as {ρ':vB}{M:Nat→Prop}{w:World}{id j s:Nat}(h:ρ' j=ρ' id){u:Value}(hr:gA ρ' M w (.sw id s) u):gA ρ' M w (.sw j s) u:=by
 simp only[gA]at hr⊢;rw[h];exact hr
theorem eA.pointwise {ρ:vB}{M:Nat→Prop}{w:World}:∀{xs ys:List V} {us:List Value},ys.length=xs.length→(∀(i:Nat) x y u,xs[i]?=some x→ys[i]?=some y→us[i]?=some u→gA ρ M w x u→gA ρ M w y u)→eA ρ M w xs us→eA ρ M w ys us
 | [],[],[],_,_,_=>by simp[eA]
 |x::xs,y::ys,u::us,hl,h,hr=>by simp only[eA]at hr⊢;exact⟨h 0 x y u rfl rfl rfl hr.1,eA.pointwise (by simpa using hl) (fun i x' y' u' h1 h2 h3=>h (i+1) x' y' u' (by simpa using h1) (by simpa using h2) (by simpa using h3)) hr.2⟩
 | [],_::_,_,hl,_,_=>by simp at hl
 |_::_,[],_,hl,_,_=>by simp at hl
 | [],[],_::_,_,_,hr=>by simp[eA]at hr
 |_::_,_::_,[],_,_,hr=>by simp[eA]at hr
structure eJ (F:Nat→Prop)(ρ:vB)(v:Nat→jA)(w:World)(nid n:Nat)(h':Nat→jA)(ρ':vB)(v':Nat→jA)(w':World):Prop where
 sub:yH ρ ρ'
 same:∀id,id<vA→(id<nid∨nid+n≤id)→ρ' id=ρ id
 bd:Bd ρ→Bd ρ'
 fresh:∀g,vA≤g→(v' g).live→(v g).live∨ρ g=none
 opn:iq h' v'
 heap:dA F ρ' v' w'
 ext:iE (cA ρ v) w (cA ρ' v') w'
theorem eJ.trans {F:Nat→Prop}{ρ ρ1 ρ2:vB}{v v1 v2:Nat→jA}{w w1 w2:World}{nid n:Nat}{h1 h2:Nat→jA}(a:eJ F ρ v w nid n h1 ρ1 v1 w1)(b:eJ F ρ1 v1 w1 nid n h2 ρ2 v2 w2):eJ F ρ v w nid n h2 ρ2 v2 w2 where
 sub:=a.sub.trans b.sub
 same id h h':=(b.same id h h').trans (a.same id h h')
 bd h:=b.bd (a.bd h)
 fresh g hg hl:=by
  rcases b.fresh g hg hl with h|h
  ·exact a.fresh g hg h
  ·refine .inr ?_;cases hr:ρ g with
   |none=>rfl
   |some p=>have:=a.sub g p hr;rw[h]at this;cases this
 opn:=b.opn
 heap:=b.heap
 ext:=a.ext.trans b.ext
section
variable {P:Program}{F:Nat→Prop}{ρ:vB}{h v:Nat→jA}{γ:Nat→Nat→Nat}{w:World}{nid:Nat}
def im (F:Nat→Prop)(ρ:vB)(h v:Nat→jA)(w:World)(nid:Nat)(out:oD)(r:Result Next):Prop:=
 ∃u w' ρ' v',(r= .ok (.value u) w'∨(r= .ok .skip w'∧u=undef))∧eJ F ρ v w nid out.new.length (mE h nid out) ρ' v' w'∧gA ρ' (av F (cA ρ' v')) w' out.val u
theorem xN (hb:Bd ρ)(hh:dA F ρ v w):∃γ0,vA≤γ0∧ρ γ0=none∧¬(v γ0).live:=by
 obtain⟨G,hG⟩:=hb;have h1:=hG (G+vA) (by omega);refine⟨G+vA,by omega,h1,fun hl=>?_⟩;obtain⟨p,hp,_⟩:=hh.rel _ hl;rw[h1]at hp;cases hp
theorem cH (hh:dA F ρ v w){i:Nat}(hn:ρ i=none):¬(v i).live:=fun hl=>by
 obtain⟨p,hp,_⟩:=hh.rel _ hl;rw[hn]at hp;cases hp
def eD (ρ:vB)(a b:Nat):vB:=fun x=>if x=a then ρ b else ρ x
theorem yM {a b:Nat}(hn:ρ a=none):yH ρ (eD ρ a b):=fun x p hp=>by
 unfold eD;rw[if_neg (fun e=>by subst e;rw[hn]at hp;cases hp)];exact hp
theorem rP {a b:Nat}(hw:∀id p,ρ id=some p→p.n≤p.C):∀id p,eD ρ a b id=some p→p.n≤p.C:=fun x p hp=>by
 unfold eD at hp;split at hp
 ·exact hw _ _ hp
 ·exact hw _ _ hp
theorem qP {a b:Nat}(hb:Bd ρ):Bd (eD ρ a b):=by
 obtain⟨G,hG⟩:=hb;refine⟨G+a+1,fun g hg=>?_⟩;unfold eD;rw[if_neg (by omega)];exact hG g (by omega)
theorem aT (ho:gB h γ v)(hh:dA F ρ v w){id off:Nat}{k:IntKind}{s:Nat}{rows:List (List Int)}(hid:h id= .nw k s rows none)(hlt:id<vA)(hoff:off<rows.length)(hnid:nid<vA)(hn:ρ nid=none)
  {h':Nat→jA}(e1:h' id= .nw k s rows (some (off,nid)))(e2:h' nid= .ints k (rows.getD off []))(e3:∀j,j≠id→j≠nid→h' j=h j):
  ∃ρ' v',eJ F ρ v w nid 1 h' ρ' v' w∧∀u,gA ρ (av F (cA ρ v)) w (.sw (γ id off) s) u→gA ρ' (av F (cA ρ' v')) w (.sw nid s) u:=by
 have hd:=ho.dead hnid (cH hh hn);have hrow:=ho.row id off k s rows none hlt hid hoff (fun g e=>by cases e);have hid2:=ho.nest id k s rows none hlt hid;have hne:id≠nid:=fun e=>by subst e;rw[hid]at hd;cases hd
 have c1:γ id off≠nid:=fun e=>by omega
 have c2:γ id off≠id:=fun e=>by omega
 have hop:=ho.lend hid hlt hoff hnid hd e1 e2 e3;have hsub:yH ρ (eD ρ nid (γ id off)):=yM hn;have hal:eD ρ nid (γ id off) nid=eD ρ nid (γ id off) (γ id off):=by simp[eD,c1]
 generalize hv':(fun x=>if x=nid then jA.ints k (rows.getD off [])else if x=γ id off then .dead else if x=id then .vals (fC (γ id) s (some (off,nid)) rows.length)else v x)=v' at hop;have hvx:∀x,v' x=if x=nid then jA.ints k (rows.getD off [])else if x=γ id off then .dead else if x=id then .vals (fC (γ id) s (some (off,nid)) rows.length)else v x:=fun x=>by rw[←hv']
 obtain⟨q1,q2⟩:=hh.shift (v':=v') hsub (rP hh.wf) (fun x=>if x=nid then γ id off else x) (fun x hl=>by
  refine .inl ?_;rw[hvx]at hl⊢;by_cases hx:x=nid
  ·subst hx;simp only[if_true];exact⟨by rw[hrow.2];trivial,by simp[eD],.inl hrow.2.symm⟩
  ·rw[if_neg hx]at hl⊢;simp only[if_neg hx];by_cases hx2:x=γ id off
   ·rw[if_pos hx2]at hl;exact hl.elim
   ·rw[if_neg hx2]at hl⊢;have ha:eD ρ nid (γ id off) x=ρ x:=by simp[eD,hx]
    by_cases hx3:x=id
    ·subst hx3;rw[if_pos rfl];refine⟨by rw[hid2];trivial,ha,.inr ⟨_,_,hid2,rfl,by rw[pA,pA],fun M us hr=>eA.pointwise (by rw[pA,pA]) (fun i a b u h1 h2 h3 hrel=>?_) hr⟩⟩;have hi:i<rows.length:=by have:=(hR.mp h1).1;rwa[pA]at this
     rw[tD _ _ _ hi]at h1 h2;simp only[Option.some.injEq]at h1 h2;subst h1;subst h2;unfold aF at hrel⊢;dsimp only at hrel⊢;by_cases hio:i=off
     ·subst hio;rw[if_pos rfl];exact hrel.sw_as hal
     ·rw[if_neg hio];exact hrel
    ·rw[if_neg hx3]at hl⊢;exact⟨hl,ha,.inl rfl⟩) (fun x x' hl hl' _ e=>by
  rw[hvx]at hl hl';by_cases hx:x=nid<;>by_cases hx':x'=nid
  ·rw[hx,hx']
  ·simp only[if_pos hx,if_neg hx']at e;rw[if_neg hx',if_pos e.symm]at hl';exact hl'.elim
  ·simp only[if_neg hx,if_pos hx']at e;rw[if_neg hx,if_pos e]at hl;exact hl.elim
  ·simp only[if_neg hx,if_neg hx']at e;exact e)
 refine⟨_,v',⟨hsub,fun x hx hx2=>by simp only[eD];rw[if_neg (by omega)],qP,fun g hg hl=>?_,⟨γ,hop⟩,q1,q2⟩,fun u hu=>(gA.mono hsub q2 _ _ hu).sw_as hal⟩;rw[hvx,if_neg (by omega)]at hl;split at hl
 ·exact hl.elim
 ·rw[if_neg (by omega)]at hl;exact .inl hl
theorem pJ (ho:gB h γ v)(hh:dA F ρ v w)(hb:Bd ρ){id j g:Nat}{k:IntKind}{s:Nat}{rows:List (List Int)}{l:List Int}(hid:h id= .nw k s rows (some (j,g)))(hlt:id<vA)(hg:h g= .ints k l)(hglt:g<vA)(n:Nat)
  {h':Nat→jA}(e1:h' id= .nw k s (rows.set j l) none)(e2:h' g= .dead)(e3:∀x,x≠id→x≠g→h' x=h x):
  ∃γ' ρ' v',gB h' γ' v'∧eJ F ρ v w nid n h' ρ' v' w∧(∀x,x<vA→ρ' x=ρ x)∧
   ∀i u,i<rows.length→gA ρ (av F (cA ρ v)) w (aF (γ id) s (some (j,g)) i) u→gA ρ' (av F (cA ρ' v')) w (.sw (γ' id i) s) u:=by
 obtain⟨γ0,g1,g2,g3⟩:=xN hb hh;have hid2:=ho.nest id k s rows _ hlt hid;have hgv:v g= .ints k l:=by rw[←hg];exact ho.plain g hglt (by rw[hg];rfl)
 have hne:id≠g:=fun e=>by subst e;rw[hid]at hg;cases hg
 have c1:γ0≠g:=by omega
 have c2:γ0≠id:=by omega
 have hop:=ho.absorb hid hlt hg hglt g1 g3 e1 e2 e3;have hsub:yH ρ (eD ρ γ0 g):=yM g2;have hal:eD ρ γ0 g γ0=eD ρ γ0 g g:=by simp[eD,Ne.symm c1]
 generalize hv':(fun x=>if x=g then jA.dead else if x=γ0 then(if j<rows.length then .ints k l else .dead)else if x=id then .vals (fC (fun b=>if b=j then γ0 else γ id b) s none rows.length)else v x)=v' at hop;have hvx:∀x,v' x=if x=g then jA.dead else if x=γ0 then(if j<rows.length then .ints k l else .dead)else if x=id then .vals (fC (fun b=>if b=j then γ0 else γ id b) s none rows.length)else v x:=fun x=>by rw[←hv']
 have hcell:∀i M u,gA (eD ρ γ0 g) M w (aF (γ id) s (some (j,g)) i) u→gA (eD ρ γ0 g) M w (.sw (if i=j then γ0 else γ id i) s) u:=by
  intro i M u hr;unfold aF at hr;dsimp only at hr;by_cases hij:i=j
  ·rw[if_pos hij]at hr⊢;exact hr.sw_as hal
  ·rw[if_neg hij]at hr⊢;exact hr
 obtain⟨q1,q2⟩:=hh.shift (v':=v') hsub (rP hh.wf) (fun x=>if x=γ0 then g else x) (fun x hl=>by
  refine .inl ?_;rw[hvx]at hl⊢;by_cases hx0:x=g
  ·rw[if_pos hx0]at hl;exact hl.elim
  rw[if_neg hx0]at hl⊢;by_cases hx:x=γ0
  ·subst hx;simp only[if_true]at hl⊢;by_cases hlen:j<rows.length
   ·rw[if_pos hlen];exact⟨by rw[hgv];trivial,by simp[eD],.inl hgv.symm⟩
   ·rw[if_neg hlen]at hl;exact hl.elim
  ·rw[if_neg hx]at hl⊢;simp only[if_neg hx];have ha:eD ρ γ0 g x=ρ x:=by simp[eD,hx]
   by_cases hx3:x=id
   ·subst hx3;rw[if_pos rfl];refine⟨by rw[hid2];trivial,ha,.inr ⟨_,_,hid2,rfl,by rw[pA,pA],fun M us hr=>eA.pointwise (by rw[pA,pA]) (fun i a b u h1 h2 h3 hrel=>?_) hr⟩⟩;have hi:i<rows.length:=by have:=(hR.mp h1).1;rwa[pA]at this
    rw[tD _ _ _ hi]at h1 h2;simp only[Option.some.injEq]at h1 h2;subst h1;subst h2;exact hcell i M u hrel
   ·rw[if_neg hx3]at hl⊢;exact⟨hl,ha,.inl rfl⟩) (fun x x' hl hl' _ e=>by
  rw[hvx]at hl hl';by_cases hx:x=γ0<;>by_cases hx':x'=γ0
  ·rw[hx,hx']
  ·simp only[if_pos hx,if_neg hx']at e;rw[if_pos e.symm]at hl';exact hl'.elim
  ·simp only[if_neg hx,if_pos hx']at e;rw[if_pos e]at hl;exact hl.elim
  ·simp only[if_neg hx,if_neg hx']at e;exact e)
 refine⟨_,_,v',hop,⟨hsub,fun x hx _=>by simp only[eD];rw[if_neg (by omega)],qP,fun x hx hl=>?_,⟨_,hop⟩,q1,q2⟩,fun x hx=>by simp only[eD];rw[if_neg (by omega)],fun i u hi hu=>?_⟩
 ·rw[hvx,if_neg (by omega)]at hl;by_cases hx0:x=γ0
  ·subst hx0;exact .inr g2
  ·rw[if_neg hx0,if_neg (by omega)]at hl;exact .inl hl
 ·have:=hcell i _ u (gA.mono hsub q2 _ _ hu);simpa using this
variable {ty:Nat→Option TI}{ev:Operand→V}{ae:Operand→Value}{out:oD}
theorem cK (h:Nat→jA)(nid:Nat)(out:oD):mE h nid out=yB h (out.wr++aH nid out.new):=nH h nid out
theorem cd (hty:sC P ty)(ho:gB h γ v)(hh:dA F ρ v w)(he:∀x,gA ρ (av F (cA ρ v)) w (ev x) (ae x))(hn:∀id,nid≤id→id<nid+out.new.length→ρ id=none)(hlt:nid+out.new.length≤vA)(o:Oper)
  (ha:aG ty nid o.op ev h=some (true,out))(ht:aP h out=true):im F ρ h v w nid out ((execOp ae o).run P w):=by
 have htm:=ht;unfold aP iM at htm;simp only[aE,o0,p0]at htm;have htouch:∀i∈out.touch,i<vA∧(h i).isNw=false:=fun i hi=>⟨bB (htm.1 i hi).1,(htm.1 i hi).2⟩
 have hav:aG ty nid o.op ev v=some (true,out):=uN ha (fun i hi=>ho.plain i (htouch i hi).1 (htouch i hi).2);obtain⟨u,w',ρ',r1,r2,r3,r4,r5,r6⟩:=wM (P:=P) hty hh he hn o.op o rfl hav;have hup:∀p∈out.wr++aH nid out.new,p.1<vA∧(h p.1).isNw=false:=by
  intro p hp;rcases hN.mp hp with hp|hp
  ·have:=(htm.2.1 p hp).1;exact htouch p.1 (cP.mp this)
  ·have hp':=tZ hp;refine⟨by omega,?_⟩;rw[ho.dead (j:=p.1) (by omega) (cH hh (hn p.1 hp'.1 (by omega)))];rfl
 have hop:=ho.upd (fun p hp=>(hup p hp).1) (fun p hp=>(hup p hp).2) (iX ht);rw[←nH,←nH]at hop;refine⟨u,w',ρ',mE v nid out,r1,⟨r2,fun id _ hid=>r3 id hid,fun hb=>?_,fun g hg hl=>?_,⟨γ,hop⟩,r4,r6⟩,r5⟩
 ·obtain⟨G,hG⟩:=hb;exact⟨G+nid+out.new.length,fun g hg=>by rw[r3 g (by omega)];exact hG g (by omega)⟩
 ·rw[nH,sA (fun hm=>by
   obtain⟨p,hp,e⟩:=y3.mp hm;have:=(hup p hp).1;omega)]at hl
  exact .inl hl
theorem pZ (hty:sC P ty)(ho:gB h γ v)(hh:dA F ρ v w)(he:∀x,gA ρ (av F (cA ρ v)) w (ev x) (ae x))(o:Oper){x:V}{tc:List Nat}(hav:aG ty nid o.op ev v=some (true,{val:=x,touch:=tc})){tc':List Nat}:
  im F ρ h v w nid {val:=x,touch:=tc'} ((execOp ae o).run P w):=by
 obtain⟨u,w',ρ',r1,r2,r3,r4,r5,r6⟩:=wM (P:=P) hty hh he (fun id h1 h2=>by simp at h2;omega) o.op o rfl hav;have e:ρ'=ρ:=funext fun id=>r3 id (by simp;omega);subst e;have e2:mE v nid {val:=x,touch:=tc}=v:=rfl;rw[e2]at r4 r5 r6;exact⟨u,w',ρ',v,r1,⟨r2,fun _ _ _=>rfl,fun hb=>hb,fun g _ hl=>.inl hl,⟨γ,ho⟩,r4,r6⟩,r5⟩
theorem lZ {ti:TI}(h:ti.isSl=true):∃e,ti.tk= .slice e:=by
 unfold TI.isSl at h;split at h
 ·exact⟨_,by assumption⟩
 ·cases h
theorem aq {ti:TI}(h:ti.isSl=true):ti.isAgg=false:=by
 obtain⟨e,he⟩:=lZ h;unfold TI.isAgg;rw[he]
theorem pO:∀(cs:List V) (i:Nat) (x:V),i<cs.length→uE cs i [x]=some (cs.set i x)
 | [],i,x,h=>by simp at h
 |c::cs,0,x,h=>by cases cs<;>simp[uE]
 |c::cs,i+1,x,h=>by simp[uE,pO cs i x (by simpa using h)]
theorem ja {cs:List V}{i:Nat}{x:V}(h:cs[i]?=some x):sH (fJ cs i) 1=some [x]:=by
 rw[vJ];obtain⟨h1,h2⟩:=hR.mp h;rw[List.drop_eq_getElem_cons h1,h2];simp[sH]
theorem fT (hty:sC P ty)(ho:gB h γ v)(hh:dA F ρ v w)(he:∀x,gA ρ (av F (cA ρ v)) w (ev x) (ae x))(o:Oper){t:Nat}{a:Operand}(hop:o.op= .load t a){ti:TI}(hti:ty t=some ti){id off ext:Nat}(hea:ev a= .ptr id off ext)
  (hsl:ti.isSl=true)(hsz:ti.size=1)(hext:0<ext){k:IntKind}{s:Nat}{rows:List (List Int)}{hole:Option (Nat×Nat)}(hid:h id= .nw k s rows hole)(hlt:id<vA):
  off<rows.length∧∃u w',(execOp ae o).run P w= .ok (.value u) w'∧dA F ρ v w'∧gA ρ (av F (cA ρ v)) w' (aF (γ id) s hole off) u∧iE (cA ρ v) w (cA ρ v) w':=by
 have hv:=ho.nest id k s rows hole hlt hid;have hra:=he a;rw[hea]at hra;simp only[gA]at hra;obtain⟨b,n,C,hp,hle,_⟩:=hra;have hoff:off<rows.length:=by obtain⟨p,hp',hb⟩:=hh.rel id (by rw[hv];trivial);rw[hp]at hp';simp only[Option.some.injEq]at hp';subst hp';rw[hv]at hb;have:=hb.1;rw[pA]at this;dsimp only at this;omega
 refine⟨hoff,?_⟩;have hav:aG ty 0 o.op ev v=some (true,{val:=aF (γ id) s hole off,touch:=[id]}):=by
  rw[hop];simp only[aG,hti,hJ,hea,hv,kD,hsz,aq hsl,nM,cond_false,Nat.ble_eq,ja (tD (γ id) s hole hoff)];have h1:(Nat.ble 1 ext&&Nat.blt 0 1)=true:=by rw[aE];exact⟨n5 hext,rfl⟩
  rw[h1];rfl
 obtain⟨u,w',ρ',r1,r2,r3,r4,r5,r6⟩:=wM (P:=P) hty hh he (fun id h1 h2=>by simp at h2) o.op o rfl hav;have e:ρ'=ρ:=funext fun id=>r3 id (by simp);subst e;have e2:mE v 0 {val:=aF (γ id) s hole off,touch:=[id]}=v:=rfl;rw[e2]at r4 r5 r6;rcases r1 with r1|⟨r1,rfl⟩
 ·exact⟨u,w',r1,r4,r5,r6⟩
 ·exfalso;have:=r1;unfold execOp at this;rw[hop]at this;simp only[r8]at this;cases hx:(Instr.loadAt t (ae a)).run P w with
  |ok x w2=>rw[hx]at this;simp at this
  |_=>rw[hx]at this;simp[Result.andThen]at this
theorem bx (h:Nat→jA)(nid:Nat){x:V}{tc:List Nat}{id:Nat}{b c:jA}(j:Nat):mE h nid {val:=x,wr:=[(id,b)],new:=[c],touch:=tc} j=if j=nid then c else if j=id then b else h j:=rfl
theorem bz (h:Nat→jA)(nid:Nat){x:V}{tc:List Nat}{id g:Nat}{a b c:jA}(j:Nat):mE h nid {val:=x,wr:=[(g,a),(id,b)],new:=[c],touch:=tc} j=if j=nid then c else if j=id then b else if j=g then a else h j:=rfl
theorem ca (h:Nat→jA)(nid:Nat){x:V}{tc:List Nat}{id g:Nat}{a b:jA}(j:Nat):mE h nid {val:=x,wr:=[(g,a),(id,b)],touch:=tc} j=if j=id then b else if j=g then a else h j:=rfl
theorem aw (hty:sC P ty)(ho:gB h γ v)(hh:dA F ρ v w)(hb:Bd ρ)(he:∀x,gA ρ (av F (cA ρ v)) w (ev x) (ae x))(o:Oper){t:Nat}{a:Operand}(hop:o.op= .load t a){ti:TI}(hti:ty t=some ti){id off ext:Nat}(hea:ev a= .ptr id off ext)
  {k:IntKind}{s:Nat}{rows:List (List Int)}{hole:Option (Nat×Nat)}(hid:h id= .nw k s rows hole)(hn:∀i,nid≤i→i<nid+out.new.length→ρ i=none)(hlt:nid+out.new.length≤vA)(hwr:∀p∈out.wr,p.1<vA)
  (ha:cT ti nid id off ext k s rows hole h=some (true,out)):im F ρ h v w nid out ((execOp ae o).run P w):=by
 unfold cT at ha;obtain⟨hc,ha2⟩:=bA ha;clear ha;obtain⟨hsl,hc2⟩:=oA hc;obtain⟨hsz,hext⟩:=oA hc2;have hsz:=qA hsz;have hext:=bB hext;cases hole with
 |none=>
  simp only[Option.some.injEq,Prod.mk.injEq,true_and]at ha2;subst ha2;have hidt:id<vA:=hwr _ (y1.mpr rfl);have hnt:nid<vA:=by simp at hlt;omega
  have hnn:ρ nid=none:=hn nid (q0 _) (by simp);obtain⟨hoff,u,w',r1,r2,r3,r4⟩:=fT (P:=P) hty ho hh he o hop hti hea hsl hsz hext hid hidt;have hne:id≠nid:=fun e=>by have:=ho.dead hnt (cH hh hnn);subst e;rw[hid]at this;cases this
  obtain⟨ρ',v',p,q⟩:=aT (h':=mE h nid {val:=.sw nid s,wr:=[(id,.nw k s rows (some (off,nid)))],new:=[.ints k (rows.getD off [])],touch:=[id]}) ho r2 hid hidt hoff hnt hnn (by rw[bx,if_neg hne,if_pos rfl]) (by rw[bx,if_pos rfl]) (fun j h1 h2=>by rw[bx,if_neg h2,if_neg h1]);exact⟨u,w',ρ',v',.inl r1,⟨p.sub,p.same,p.bd,p.fresh,p.opn,p.heap,r4.trans p.ext⟩,q u r3⟩
 |some pr=>
  obtain⟨j,g⟩:=pr;dsimp only at ha2;split at ha2
  ·rename_i k' l hg;obtain⟨hk,ha3⟩:=bA ha2;have hk:=bD hk;subst hk;simp only[Option.some.injEq,Prod.mk.injEq,true_and]at ha3;subst ha3;have hgt:g<vA:=hwr (g,.dead) (by simp);have hidt:id<vA:=hwr _ (u1 _ (y1.mpr rfl));have hnt:nid<vA:=by simp at hlt;omega
   have hnn:ρ nid=none:=hn nid (q0 _) (by simp);obtain⟨hoff,u,w',r1,r2,r3,r4⟩:=fT (P:=P) hty ho hh he o hop hti hea hsl hsz hext hid hidt;have hd:=ho.dead hnt (cH hh hnn);have hne:id≠nid:=fun e=>by subst e;rw[hid]at hd;cases hd
   have hne2:g≠nid:=fun e=>by subst e;rw[hg]at hd;cases hd
   have hne3:id≠g:=fun e=>by subst e;rw[hid]at hg;cases hg
   obtain⟨γ1,ρ1,v1,o1,p1,s1,q1⟩:=pJ (h':=fun x=>if x=id then .nw k s (rows.set j l) none else if x=g then .dead else h x) ho r2 hb hid hidt hg hgt 1 (by simp) (by simp[Ne.symm hne3]) (fun x h1 h2=>by simp[h1,h2]) (nid:=nid);obtain⟨ρ',v',p,q⟩:=aT (h':=mE h nid {val:=.sw nid s,wr:=[(g,.dead),(id,.nw k s (rows.set j l) (some (off,nid)))],new:=[.ints k ((rows.set j l).getD off [])],touch:=[id,g]}) o1 p1.heap (off:=off) (by rw[if_pos rfl]) hidt (by rw[r7];exact hoff) hnt (by rw[s1 nid hnt];exact hnn)
    (by rw[bz,if_neg hne,if_pos rfl]) (by rw[bz,if_pos rfl]) (fun x h1 h2=>by rw[bz,if_neg h2,if_neg h1];simp[h1])
   have pp:=p1.trans p;exact⟨u,w',ρ',v',.inl r1,⟨pp.sub,pp.same,pp.bd,pp.fresh,pp.opn,pp.heap,r4.trans pp.ext⟩,q u (q1 off u hoff r3)⟩
  ·cases ha2
theorem y7 (hty:sC P ty)(ho:gB h γ v)(hh:dA F ρ v w)(hb:Bd ρ)(he:∀x,gA ρ (av F (cA ρ v)) w (ev x) (ae x))(o:Oper){t:Nat}{a x:Operand}(hop:o.op= .store t a x){ti:TI}(hti:ty t=some ti){id off ext:Nat}(hea:ev a= .ptr id off ext)
  {k:IntKind}{s:Nat}{rows:List (List Int)}{hole:Option (Nat×Nat)}(hid:h id= .nw k s rows hole)(hwr:∀p∈out.wr,p.1<vA)
  (ha:rN ti id off ext k s rows hole (ev x) h=some (true,out)):im F ρ h v w nid out ((execOp ae o).run P w):=by
 unfold rN at ha;split at ha
 ·rename_i g s' hex;split at ha
  ·rename_i k' l hg;obtain⟨hc,ha2⟩:=bA ha;clear ha;obtain⟨hc1,hc2⟩:=oA hc;obtain⟨hle,hsz⟩:=oA hc1;obtain⟨hk,hs⟩:=oA hc2;have hk:=bD hk;have hs:=qA hs;have hsz:=qA hsz;subst hk;subst hs;simp only[Option.some.injEq,Prod.mk.injEq]at ha2;obtain⟨hhole,rfl⟩:=ha2;have hgt:g<vA:=hwr (g,.dead) (by simp);have hidt:id<vA:=hwr _ (u1 _ (y1.mpr rfl));have hne3:id≠g:=fun e=>by subst e;rw[hid]at hg;cases hg
   have hhole:hole=none∨∃g0,hole=some (off,g0):=by
    cases hole with
    |none=>exact .inl rfl
    |some pr=>obtain⟨j,g0⟩:=pr;dsimp only at hhole;have:=qA hhole;subst this;exact .inr ⟨g0,rfl⟩
   have hv:=ho.nest id k s rows hole hidt hid;have hra:=he a;rw[hea]at hra;simp only[gA]at hra;obtain⟨b,n,C,hp,hle2,_⟩:=hra;have hext:=wC hle;have hoff:off<rows.length:=by obtain⟨p,hp',hb⟩:=hh.rel id (by rw[hv];trivial);rw[hp]at hp';simp only[Option.some.injEq]at hp';subst hp';rw[hv]at hb;have:=hb.1;rw[pA]at this;dsimp only at this;omega
   have hcells:(fC (γ id) s hole rows.length).set off (.sw g s)=fC (γ id) s (some (off,g)) rows.length:=by
    apply List.ext_getElem?;intro i;rw[List.getElem?_set,pA];by_cases hi:i<rows.length
    ·rw[tD _ _ _ hi,tD _ _ _ hi];by_cases hio:off=i
     ·subst hio;simp[hoff,aF]
     ·rw[if_neg hio];congr 1;unfold aF;rcases hhole with q|⟨g0,q⟩<;>subst q<;>simp[Ne.symm hio]
    ·rw[hV (by rw[pA];omega),hV (by rw[pA];omega)];rw[if_neg (by omega)]
   have hav:aG ty 0 o.op ev v=some (true,{val:=nF,wr:=[(id,.vals (fC (γ id) s (some (off,g)) rows.length))],touch:=[id]}):=by
    rw[hop];have h1:(Nat.ble ti.size ext&&Nat.beq [V.sw g s].length ti.size)=true:=by rw[hle,hsz];rfl
    simp only[aG,hti,hea,hex,yC,h1,cond_true,hv,pE,List.all_cons,List.all_nil,gL,Bool.and_true,pO _ _ _ (show off<(fC (γ id) s hole rows.length).length by rw[pA];exact hoff),Option.map_some,hcells]
   obtain⟨u,w',ρ',r1,r2,r3,r4,r5,r6⟩:=wM (P:=P) hty hh he (fun id h1 h2=>by simp at h2) o.op o rfl hav;have e:ρ'=ρ:=funext fun id=>r3 id (by simp);subst e;have e2:mE v 0 {val:=nF,wr:=[(id,.vals (fC (γ id) s (some (off,g)) rows.length))],touch:=[id]}=uA v id (.vals (fC (γ id) s (some (off,g)) rows.length)):=rfl;rw[e2]at r4 r5 r6
   classical
   have hpt:=ho.point (g:=g) (h':=fun x=>if x=id then .nw k s rows (some (off,g))else h x) hid hidt hhole (by simp) (fun j hj=>by simp[hj]);have hheap:∃v1,(∀x,v1 x=if x=γ id off∧xA h id off then jA.dead else if x=id then .vals (fC (γ id) s (some (off,g)) rows.length)else v x)∧dA F ρ' v1 w'∧iE (cA ρ' v) w (cA ρ' v1) w':=by
    by_cases hlo:xA h id off
    ·obtain⟨k1,k2⟩:=r4.kill (γ id off);refine⟨_,fun x=>?_,k1,r6.trans k2⟩;by_cases hx:x=γ id off
     ·simp[uA,hx,hlo]
     ·simp[uA,hx]
    ·refine⟨_,fun x=>?_,r4,r6⟩;simp[uA,hlo]
   obtain⟨v1,hv1,k1,k2⟩:=hheap;rw[←(funext hv1:v1=_)]at hpt;obtain⟨γ1,ρ1,v2,o1,p1,s1,q1⟩:=pJ (h':=mE h nid {val:=nF,wr:=[(g,.dead),(id,.nw k s (rows.set off l) none)],touch:=[id,g]}) hpt k1 hb (id:=id) (by rw[if_pos rfl]) hidt (show(if g=id then _ else h g)=_ by rw[if_neg (Ne.symm hne3)];exact hg) hgt 0 (by rw[ca,if_pos rfl]) (by rw[ca,if_neg (Ne.symm hne3),if_pos rfl]) (fun x h1 h2=>by rw[ca,if_neg h1,if_neg h2,if_neg h1]) (nid:=nid);refine⟨u,w',ρ1,v2,r1,⟨p1.sub,fun x hx hx2=>p1.same x hx hx2,p1.bd,fun x hx hl=>?_,p1.opn,p1.heap,k2.trans p1.ext⟩,?_⟩
   ·rcases p1.fresh x hx hl with q|q
    ·rw[hv1]at q;split at q
     ·exact q.elim
     ·rw[if_neg (by omega)]at q;exact .inl q
    ·exact .inr q
   ·have:=r5.c;subst this;exact gA.of_c _
  ·cases ha
 ·cases ha
def aZ (e:V)(s:Nat)(l:List Int):Option Nat→Prop
 |none=>e= .c (.slice none 0 0)∧l=[]
 |some g=>e= .sw g s
theorem nT (ho:gB h γ v){v1:Nat→jA}(hh1:dA F ρ v1 w)(hb:Bd ρ){dd gg:Option Nat}{k:IntKind}{s:Nat}{rows:List (List Int)}{l:List Int}{e:V}(hd:match dd with|none=>rows=[]|some id=>id<vA∧h id= .nw k s rows none)(hg:match gg with|none=>True|some g=>g<vA∧h g= .ints k l)
  (hnid:nid<vA)(hn:h nid= .dead)(hs:0<s)(he:aZ e s l gg)
  (hv1:∀x,v1 x=if x=nid then .vals (fC (γ (dd.getD 0)) s none rows.length++[e])else if dd=some x then .dead else v x)
  {h':Nat→jA}(e1:h' nid= .nw k s (rows++[l]) none)(e2:∀x,x≠nid→dd=some x∨gg=some x→h' x= .dead)(e3:∀x,x≠nid→dd≠some x→gg≠some x→h' x=h x):
  ∃ρ' v',eJ F ρ v1 w nid 1 h' ρ' v' w∧∀u s',gA ρ (av F (cA ρ v1)) w (.sw nid s') u→gA ρ' (av F (cA ρ' v')) w (.sw nid s') u:=by
 obtain⟨γ0,g1,g2,g3⟩:=xN hb hh1;have hddlt:∀x,dd=some x→x<vA:=fun x e=>by subst e;exact hd.1
 have hgglt:∀x,gg=some x→x<vA∧h x= .ints k l:=fun x e=>by subst e;exact hg
 have c1:γ0≠nid:=by omega
 have c2:¬(dd=some γ0):=fun e=>by have:=hddlt _ e;omega
 have c3:¬(gg=some γ0):=fun e=>by have:=(hgglt _ e).1;omega
 have hv0:v1 γ0=v γ0:=by rw[hv1,if_neg c1,if_neg c2]
 have hop:=ho.snoc hd hg hnid hn g1 (by rw[←hv0];exact g3) e1 e2 e3;generalize hv':(fun x=>if x=γ0 then jA.ints k l else if x=nid then .vals (fC (fun b=>if b<rows.length then γ (dd.getD 0) b else γ0) s none (rows.length+1))else if dd=some x∨gg=some x then .dead else v x)=v' at hop;have hvx:∀x,v' x=if x=γ0 then jA.ints k l else if x=nid then .vals (fC (fun b=>if b<rows.length then γ (dd.getD 0) b else γ0) s none (rows.length+1))else if dd=some x∨gg=some x then .dead else v x:=fun x=>by rw[←hv']
 have hρ:∃ρ':vB,yH ρ ρ'∧(∀x,x≠γ0→ρ' x=ρ x)∧(∀id p,ρ' id=some p→p.n≤p.C)∧(Bd ρ→Bd ρ')∧(match gg with|some g=>ρ' γ0=ρ g|none=>ρ' γ0=some ⟨none,0,0⟩):=by
  cases gg with
  |some g=>exact⟨eD ρ γ0 g,yM g2,fun x hx=>by simp[eD,hx],rP hh1.wf,qP,by simp[eD]⟩
  |none=>exact⟨lB ρ γ0 ⟨none,0,0⟩,zC g2,fun x hx=>by simp[lB,hx],rK hh1.wf (q0 _),fun⟨G,hG⟩=>⟨G+γ0+1,fun g hg=>by simp only[lB];rw[if_neg (by omega)];exact hG g (by omega)⟩,by simp[lB]⟩
 obtain⟨ρ',hsub,hsame,hwf,hbd,hγ0⟩:=hρ;have hcell:∀M u,gA ρ' M w e u→gA ρ' M w (.sw γ0 s) u:=by
  intro M u hr;cases gg with
  |some g=>dsimp only[aZ]at he hγ0;rw[he]at hr;refine hr.sw_as ?_;rw[hγ0,hsame g (fun e=>c3 (by rw[e]))]
  |none=>dsimp only[aZ]at he hγ0;rw[he.1]at hr;have:=hr.c;subst this;simp only[gA];exact⟨hs,.inr ⟨hγ0,by first|rfl|trivial⟩⟩
 obtain⟨q1,q2⟩:=hh1.shift (v':=v') hsub hwf (fun x=>if x=γ0 then gg.getD γ0 else x) (fun x hl=>by
  rw[hvx]at hl⊢;by_cases hx:x=γ0
  ·subst hx;simp only[if_true]at hl⊢;cases gg with
   |none=>exact .inr ⟨hγ0,k,by rw[he.2]⟩
   |some g=>
    refine .inl ?_;have hgg:=hgglt g rfl;have a1:g≠nid:=fun e=>by subst e;rw[hn]at hgg;cases hgg.2
    have a2:¬(dd=some g):=fun e=>by subst e;rw[hd.2]at hgg;cases hgg.2
    have hvg:v1 g= .ints k l:=by rw[hv1,if_neg a1,if_neg a2,←hgg.2];exact ho.plain g hgg.1 (by rw[hgg.2];rfl)
    simp only[j0];exact⟨by rw[hvg];trivial,hγ0,.inl hvg.symm⟩
  ·refine .inl ?_;rw[if_neg hx]at hl⊢;simp only[if_neg hx];refine⟨?_,hsame x hx,?_⟩
   ·by_cases hx2:x=nid
    ·rw[hv1,if_pos hx2];trivial
    ·rw[if_neg hx2]at hl;by_cases hx3:dd=some x∨gg=some x
     ·rw[if_pos hx3]at hl;exact hl.elim
     ·rw[if_neg hx3]at hl;rw[hv1,if_neg hx2,if_neg (fun e=>hx3 (.inl e))];exact hl
   ·by_cases hx2:x=nid
    ·rw[if_pos hx2];refine .inr ⟨_,_,by rw[hv1,if_pos hx2],rfl,by simp[pA],fun M us hr=>eA.pointwise (by simp[pA]) (fun i a b u h1 h2 h3 hrel=>?_) hr⟩;have hi:i<rows.length+1:=by have:=(hR.mp h2).1;rwa[pA]at this
     rw[tD _ _ _ hi]at h2;simp only[Option.some.injEq]at h2;subst h2;unfold aF;dsimp only;by_cases hi2:i<rows.length
     ·rw[hZ (by rw[pA];exact hi2),tD _ _ _ hi2]at h1;simp only[Option.some.injEq]at h1;subst h1;rw[if_pos hi2];exact hrel
     ·have:i=rows.length:=by omega
      subst this;rw[n0 (by rw[pA];exact q0 _),pA]at h1;simp at h1;subst h1;rw[if_neg hi2];exact hcell M u hrel
    ·rw[if_neg hx2]at hl⊢;by_cases hx3:dd=some x∨gg=some x
     ·rw[if_pos hx3]at hl;exact hl.elim
     ·rw[if_neg hx3];exact .inl (by rw[hv1,if_neg hx2,if_neg (fun e=>hx3 (.inl e))])) (fun x x' hl hl' hlv e=>by
  have key:∀y,(v' y).live→y≠γ0→gg≠some y:=by
   intro y hy hne hgy;rw[hvx,if_neg hne]at hy;have a1:y≠nid:=fun e=>by subst e;have:=(hgglt _ hgy).2;rw[hn]at this;cases this
   rw[if_neg a1,if_pos (.inr hgy)]at hy;exact hy
  by_cases hx:x=γ0<;>by_cases hx':x'=γ0
  ·rw[hx,hx']
  ·simp only[if_pos hx,if_neg hx']at e;cases hgg:gg with
   |none=>rw[hgg]at e;exact absurd e.symm hx'
   |some g=>rw[hgg]at e;exact absurd (by rw[hgg,←e];rfl) (key x' hl' hx')
  ·simp only[if_neg hx,if_pos hx']at e;cases hgg:gg with
   |none=>rw[hgg]at e;exact absurd e hx
   |some g=>rw[hgg]at e;exact absurd (by rw[hgg,e];rfl) (key x hl hx)
  ·simp only[if_neg hx,if_neg hx']at e;exact e)
 refine⟨ρ',v',⟨hsub,fun x hx _=>hsame x (by omega),hbd,fun x hx hl=>?_,⟨_,hop⟩,q1,q2⟩,fun u s' hu=>?_⟩
 ·by_cases hx0:x=γ0
  ·subst hx0;exact .inr g2
  ·rw[hvx,if_neg hx0,if_neg (by omega)]at hl;by_cases hx3:dd=some x∨gg=some x
   ·rw[if_pos hx3]at hl;exact hl.elim
   ·rw[if_neg hx3]at hl;refine .inl ?_;rw[hv1,if_neg (by omega),if_neg (fun e=>hx3 (.inl e))];exact hl
 ·exact gA.mono hsub q2 _ _ hu
theorem zZ {ti:TI}{e:V}{k:IntKind}{s:Nat}{l:List Int}{gs:List Nat}(hr:w7 ty ti h e=some (k,s,l,gs)):(e= .c (.slice none 0 0)∧l=[]∧gs=[]∧0<s)∨∃g,e= .sw g s∧h g= .ints k l∧gs=[g]:=by
 unfold w7 at hr;split at hr
 ·split at hr
  ·split at hr
   ·split at hr
    ·obtain⟨h0,hr⟩:=bA hr;simp only[Option.some.injEq,Prod.mk.injEq]at hr;obtain⟨rfl,rfl,rfl,rfl⟩:=hr;exact .inl ⟨rfl,rfl,rfl,bB h0⟩
    ·cases hr
   ·cases hr
  ·cases hr
 ·rename_i g s0;split at hr
  ·rename_i k0 l0 hg;simp only[Option.some.injEq,Prod.mk.injEq]at hr;obtain⟨rfl,rfl,rfl,rfl⟩:=hr;exact .inr ⟨g,rfl,hg,rfl⟩
  ·cases hr
 ·cases hr
theorem nV (hty:sC P ty)(ho:gB h γ v)(hh:dA F ρ v w)(hb:Bd ρ)(he:∀x,gA ρ (av F (cA ρ v)) w (ev x) (ae x))(o:Oper){args:Array Operand}{ts:Array TypeId}(hop:o.op= .call ⟨.builtin .append,args,ts⟩){d s:V}(hds:args.toList.map ev=[d,s])
  {t t2:Nat}{tr:List Nat}(hts:ts.toList=t::t2::tr){e size bytes:Nat}{zero:List Value}{e2 size2 bytes2:Nat}{zero2:List Value}(ht:ty t=some ⟨.slice e,size,bytes,zero⟩)(ht2:ty t2=some ⟨.slice e2,size2,bytes2,zero2⟩){ti:TI}(hti:ty e=some ti)(hsl:ti.isSl=true)
  (hn:∀i,nid≤i→i<nid+out.new.length→ρ i=none)(hlt:nid+out.new.length≤vA)(hwr:∀p∈out.wr,p.1<vA)(htop:∀j,vA≤j→h j= .dead)
  (ha:rG ty ti h nid d s=some (true,out)):im F ρ h v w nid out ((execOp ae o).run P w):=by
 unfold rG at ha;split at ha
 ·rename_i ids w1;split at ha
  ·rename_i x hids;split at ha
   ·rename_i k w0 l gs hrow;obtain⟨hc,ha2⟩:=bA ha;clear ha;obtain⟨hw1,hc2⟩:=oA hc;obtain⟨hsz,hc3⟩:=oA hc2;obtain⟨hby,hhomo⟩:=oA hc3;have hw1:=qA hw1;subst hw1;have hsz:=qA hsz;have hby:=bB hby;have hhomo:wK ti=none:=by cases hq:wK ti with|none=>rfl|some _=>rw[hq]at hhomo;cases hhomo
    have hidst:ids<vA:=by
     rcases e0 ids vA with q|q
     ·exact q
     ·rw[htop ids q]at hids;cases hids
    have hvids:v ids= .vals [x]:=by rw[←hids];exact ho.plain ids hidst (by rw[hids];rfl)
    have hsrc:rH v 1 (.sw ids 1)=some ([x],[ids]):=by simp only[rH,qY,hvids];rcases zZ hrow with⟨rfl,_⟩|⟨g,rfl,_⟩<;>rfl
    obtain⟨hs0,hx2,hgs⟩:0<w0∧aZ x w0 l gs.head?∧(gs=[]∨∃g,gs=[g]∧g<vA∧h g= .ints k l):=by
     rcases zZ hrow with⟨rfl,rfl,rfl,q⟩|⟨g,rfl,q1,rfl⟩
     ·exact⟨q,⟨rfl,rfl⟩,.inl rfl⟩
     ·have hgt:g<vA:=by
       rcases e0 g vA with q|q
       ·exact q
       ·rw[htop g q]at q1;cases q1
      refine⟨?_,rfl,.inr ⟨g,rfl,hgt,q1⟩⟩;obtain⟨p,hp,hbr⟩:=hh.rel ids (by rw[hvids];trivial);rw[hvids]at hbr;obtain⟨_,⟨_,q3,_⟩|⟨b,c,_,_,_,q3⟩⟩:=hbr
      ·cases q3
      ·cases hcl:c.toList.take p.n with
       |nil=>rw[hcl]at q3;simp only[eA]at q3
       |cons u us=>rw[hcl]at q3;simp only[eA,gA]at q3;exact q3.1.1
    have happ:∀{out1:oD},uF ti v nid d (.sw ids 1)=some (true,out1)→aG ty nid o.op ev v=some (true,out1):=by intro out1 h1;rw[hop];simp only[aG,hds,fF,hts,ht,ht2,hti,h1]
    have hbs:(Nat.blt 0 ti.bytes&&Nat.blt 0 1)=true:=by rw[aE];exact⟨n5 hby,rfl⟩
    have hggc:match(gs.head?:Option Nat)with|none=>True|some g=>g<vA∧h g= .ints k l:=by
     rcases hgs with rfl|⟨g,rfl,q1,q2⟩
     ·trivial
     ·exact⟨q1,q2⟩
    have hgm:∀y,(gs.map fun i=>(i,jA.dead)).map (·.1)=gs∧(y∈gs↔gs.head?=some y):=by
     intro y;rcases hgs with rfl|⟨g,rfl,_⟩
     ·simp
     ·simp[eq_comm]
    split at ha2
    ·
     simp only[Option.some.injEq,Prod.mk.injEq]at ha2;obtain⟨hroom,rfl⟩:=ha2;have hnt:nid<vA:=by simp at hlt;omega
     have hnn:ρ nid=none:=hn nid (q0 _) (by simp);have hd0:=ho.dead hnt (cH hh hnn);have hav:=happ (out1:={val:=.sw nid 1,new:=[.vals [x]],touch:=[ids]}) (by simp only[uF,hbs,n4,cond_false,hhomo,hsrc,hsz,vC,z1,hroom]);obtain⟨u,w',ρ',r1,r2,r3,r4,r5,r6⟩:=wM (P:=P) hty hh he (fun id h1 h2=>hn id h1 (by simpa using h2)) o.op o rfl hav;have hbd:Bd ρ':=by obtain⟨G,hG⟩:=hb;exact⟨G+nid+1,fun g hg=>by rw[r3 g (by simp;omega)];exact hG g (by omega)⟩
     obtain⟨ρ2,v2,p2,q2⟩:=nT (h':=mE h nid {val:=.sw nid 1,wr:=gs.map fun i=>(i,jA.dead),new:=[.nw k w0 [l] none],touch:=ids::gs}) ho r4 hbd (dd:=none) (gg:=gs.head?) (rows:=[]) (l:=l) rfl hggc hnt hd0 hs0 hx2
      (fun y=>by
       simp only[mE,lX,yB];by_cases hy:y=nid
       ·simp[hy,fC]
       ·simp[hy])
      (by rw[cK,rC,sN (q0 _) (by simp)];simp[kA])
      (fun y hy hyy=>by
       rcases hyy with hyy|hyy
       ·cases hyy
       ·rw[cK,rC,sA (bK (by simp;omega)),uK _ _ _ ((hgm y).2.mpr hyy)])
      (fun y hy _ hyy=>by rw[cK,rC,sA (bK (by simp;omega)),sA (by rw[(hgm y).1];exact fun hm=>hyy ((hgm y).2.mp hm))])
     refine⟨u,w',ρ2,v2,r1,⟨r2.trans p2.sub,fun y hy hy2=>by rw[p2.same y hy hy2];exact r3 y hy2,fun _=>p2.bd hbd,fun y hy hl=>?_,p2.opn,p2.heap,r6.trans p2.ext⟩,q2 u 1 r5⟩;rcases p2.fresh y hy hl with q|q
     ·refine .inl ?_;simp only[mE,lX,yB]at q;rw[if_neg (by omega)]at q;exact q
     ·rw[r3 y (by simp;omega)]at q;exact .inr q
    ·rename_i id w2;split at ha2
     ·rename_i k' w' rows hid;obtain⟨hq,ha3⟩:=bA ha2;clear ha2;obtain⟨hq1,hq2⟩:=oA hq;obtain⟨hk,hw⟩:=oA hq1;have hk:=bD hk;have hw:=qA hw;have hq2:=qA hq2;subst hk;subst hw;subst hq2;simp only[Option.some.injEq,Prod.mk.injEq]at ha3;obtain⟨hroom,rfl⟩:=ha3;have hidt:id<vA:=hwr (id,.dead) (by simp);have hnt:nid<vA:=by simp at hlt;omega
      have hnn:ρ nid=none:=hn nid (q0 _) (by simp);have hd0:=ho.dead hnt (cH hh hnn);have hne:id≠nid:=fun e=>by subst e;rw[hid]at hd0;cases hd0
      have hvid:=ho.nest id k w0 rows none hidt hid;have hav:=happ (out1:={val:=.sw nid 1,wr:=[(id,.dead)],new:=[.vals (fC (γ id) w0 none rows.length++[x])],touch:=[id,ids]}) (by simp only[uF,hbs,n4,cond_false,hhomo,hsrc,hsz,hvid,Nat.beq_refl,cond_true,vC,pA,z1,hroom]);obtain⟨u,w',ρ',r1,r2,r3,r4,r5,r6⟩:=wM (P:=P) hty hh he (fun id h1 h2=>hn id h1 (by simpa using h2)) o.op o rfl hav;have hbd:Bd ρ':=by obtain⟨G,hG⟩:=hb;exact⟨G+nid+1,fun g hg=>by rw[r3 g (by simp;omega)];exact hG g (by omega)⟩
      have hwrm:∀y,y≠nid→mE h nid {val:=.sw nid 1,wr:=(gs.map fun i=>(i,jA.dead))++[(id,.dead)],new:=[.nw k w0 (rows++[l]) none],touch:=id::ids::gs} y=if y=id then .dead else yB h (gs.map fun i=>(i,jA.dead)) y:=by intro y hy;rw[cK,rC,sA (bK (by simp;omega)),rC];rfl
      obtain⟨ρ2,v2,p2,q2⟩:=nT (h':=mE h nid {val:=.sw nid 1,wr:=(gs.map fun i=>(i,jA.dead))++[(id,.dead)],new:=[.nw k w0 (rows++[l]) none],touch:=id::ids::gs}) ho r4 hbd (dd:=some id) (gg:=gs.head?) (rows:=rows) (l:=l) ⟨hidt,hid⟩ hggc hnt hd0 hs0 hx2
       (fun y=>by
        simp only[mE,lX,yB,j0,Option.some.injEq];by_cases hy:y=nid
        ·simp[hy]
        ·simp[hy,eq_comm])
       (by rw[cK,rC,sN (q0 _) (by simp)];simp[kA])
       (fun y hy hyy=>by
        rw[hwrm y hy];rcases hyy with hyy|hyy
        ·simp only[Option.some.injEq]at hyy;rw[if_pos hyy.symm]
        ·split
         ·rfl
         ·exact uK _ _ _ ((hgm y).2.mpr hyy))
       (fun y hy hy1 hyy=>by rw[hwrm y hy,if_neg (fun e=>hy1 (by rw[e])),sA (by rw[(hgm y).1];exact fun hm=>hyy ((hgm y).2.mp hm))])
      refine⟨u,w',ρ2,v2,r1,⟨r2.trans p2.sub,fun y hy hy2=>by rw[p2.same y hy hy2];exact r3 y hy2,fun _=>p2.bd hbd,fun y hy hl=>?_,p2.opn,p2.heap,r6.trans p2.ext⟩,q2 u 1 r5⟩;rcases p2.fresh y hy hl with q|q
      ·refine .inl ?_;simp only[mE,lX,yB]at q;rw[if_neg (by omega),if_neg (by omega)]at q;exact q
      ·rw[r3 y (by simp;omega)]at q;exact .inr q
     ·cases ha2
    ·cases ha2
   ·cases ha
  ·cases ha
 ·cases ha
theorem dA.more (hh:dA F ρ v w){x:Obj}{w':World}(hw:w'.heap=w.heap.push x)(hk:jE w w'):dA F ρ v w'∧iE (cA ρ v) w (cA ρ v) w':=by
 have hold:∀b,b<w.heap.size→w'.heap[b]?=w.heap[b]?:=by
  intro b hb;rw[hw,Array.getElem?_push];split
  ·omega
  ·rfl
 have hext:iE (cA ρ v) w (cA ρ v) w':=⟨by rw[hw];simp,fun b hb _=>hold b hb,fun b hb=>.inl hb,hk⟩
 refine⟨⟨hh.wf,fun id hl=>?_,hh.inj,hh.low' hext,hh.out⟩,hext⟩;obtain⟨p,hp,hb⟩:=hh.rel id hl;refine⟨p,hp,tA.mono (yH.refl _) hext hb ?_⟩;intro b hb';obtain⟨pb,pn,pC⟩:=p;dsimp only at hb';subst hb';exact hold b (cA.lt hh ⟨id,pn,pC,hp,hl⟩)
theorem oV {ts:Array TypeId}{e:Nat}{te:TI}(ht:o5 P ts e te)(t':TypeId)(hh:dA F ρ v w){vd vx:Value}{m:Nat}{us:List Value}(hs:fh P w te.size m vx us){id:Nat}{k:IntKind}{l:List Int}(hd:gA ρ (av F (cA ρ v)) w (.sw id te.size) vd)(hid:v id= .ints k l)
  (hroom:kB (l.length/te.size+m) te.bytes=true):
  ∃u w',(Builtin.append_ ts t' #[vd,vx]).run P w= .ok u w'∧dA F ρ v w'∧iE (cA ρ v) w (cA ρ v) w'∧∃a cap,u= .slice a (l.length/te.size+m) cap∧l.length/te.size+m≤cap:=by
 obtain⟨t,ts0,hu⟩:=ht.t;obtain⟨t2,d2,ts1,hd2,hd2i⟩:=ht.t2;obtain⟨_,⟨b,n,C,cap,c,hp,hmod,hcap,hC,rfl,ho,hcC,hold⟩|⟨hp,rfl,hk⟩⟩:=rE hh hd (by rw[hid];trivial) (by rw[hid];trivial)
 ·rw[hid]at hold;obtain⟨k1,k2,k3⟩:=hold;rw[k1]at hroom⊢;have hns:n/te.size*te.size=n:=Nat.div_mul_cancel (c8 hmod);have hus:=hs.size;have hsum:(n/te.size+m)*te.size=n+us.length:=by rw[Nat.add_mul,hns,hus]
  by_cases hle:n/te.size+m≤cap
  ·have h1:=xF (P:=P) (w:=w) t' hu ht.e ts0 ts1 hd2 hd2i (base:=some ⟨b,0,none⟩) (n:=n/te.size) (cap:=cap) hs.len (hs.cells w rfl) hle;have hroomC:n+us.length≤C:=by
    have:(n/te.size+m)*te.size≤cap*te.size:=Nat.mul_le_mul_right _ hle;omega
   obtain⟨w',c',r1,r2,r3,r4,r5,r6⟩:=wD (P:=P) (b:=b) us w n 0 C c ho (by omega) hs.one;subst hcC;rw[←r5]at r4 hp;obtain⟨q1,q2⟩:=dA.write (x:=v id) hh (by rw[hid];trivial) hp r2 r3 r4 (by rw[hid];exact⟨k1,by omega,fun i hi=>by rw[r6 i,if_neg (by omega)];exact k3 i hi⟩);rw[pN rfl]at q1 q2;refine⟨.slice (some ⟨b,0,none⟩) (n/te.size+m) cap,w',?_,q1,q2,_,cap,rfl,hle⟩;rw[h1];simp only[qD,c4,hns,r1,b7]
  ·have hos:∀w':World,w'.heap=w.heap→(Builtin.firstCells te.size (n/te.size) (.slice (some ⟨b,0,none⟩) (n/te.size) cap)).run P w'= .ok (c.toList.take n).toArray w':=by
    intro w' he;refine kF (by simp;omega) (.inr ⟨b,0,rfl,fun j hj=>?_⟩) (fun h=>by cases h);rw[xB (w:=w) (w':=w') (by rw[he]),c4,ho.cell];simp at hj;rw[x1 (by omega)];simp
   obtain⟨nc,w',zs,r1,r2,r3,r4⟩:=tE (P:=P) (w:=w) t' hu ht.e ts0 ts1 hd2 hd2i ht.bytes (base:=some ⟨b,0,none⟩) (n:=n/te.size) (cap:=cap) hs.len hs.cells hos (by omega) hroom;obtain⟨q1,q2⟩:=hh.more r3.1 r3.2;exact⟨_,w',r4,q1,q2,_,nc,rfl,r1⟩
 ·rw[hid]at hk;have hl:l=[]:=by rcases hk with⟨k2,hk2⟩|hk2|⟨_,_,hk2⟩<;>cases hk2;rfl
  subst hl;simp only[List.length_nil,Nat.zero_div,c4]at hroom⊢;by_cases hm:m=0
  ·subst hm;have:=xF (P:=P) (w:=w) t' hu ht.e ts0 ts1 hd2 hd2i (base:=none) (n:=0) (cap:=0) hs.len (hs.cells w rfl) (by omega);exact⟨_,w,this,hh,iE.refl _ _,none,0,rfl,q0 _⟩
  ·obtain⟨nc,w',zs,r1,r2,r3,r4⟩:=tE (P:=P) (w:=w) t' hu ht.e ts0 ts1 hd2 hd2i ht.bytes (base:=none) (n:=0) (cap:=0) (os:=[]) hs.len hs.cells (fun w' _=>by simp[Builtin.firstCells]) (by omega) (by simpa using hroom);obtain⟨q1,q2⟩:=hh.more r3.1 r3.2;exact⟨_,w',r4,q1,q2,_,nc,by rw[c4],by omega⟩
theorem eX {k:IntKind}{s:Nat}{x:V}{l:List Int}{tc:List Nat}(hr:dE h k s x=some (l,tc)):∀i∈tc,∃k l,h i= .ints k l:=by
 have key:∀{y:V} {k':IntKind} {w':Nat} {l':List Int} {t':List Nat},qM h y=some (k',w',l',t')→∀i∈t',∃k l,h i= .ints k l:=by
  intro y k' w' l' t' hy i hi;unfold qM at hy;split at hy
  ·split at hy
   ·rename_i hid;simp only[Option.some.injEq,Prod.mk.injEq]at hy;obtain⟨_,_,_,rfl⟩:=hy;simp only[y1]at hi;subst hi;exact⟨_,_,hid⟩
   ·cases hy
  ·split at hy
   ·rename_i hid;simp only[Option.some.injEq,Prod.mk.injEq]at hy;obtain⟨_,_,_,rfl⟩:=hy;simp only[y1]at hi;subst hi;exact⟨_,_,hid⟩
   ·cases hy
  ·simp only[Option.some.injEq,Prod.mk.injEq]at hy;obtain⟨_,_,_,rfl⟩:=hy;simp at hi
  ·cases hy
 unfold dE at hr;split at hr
 ·simp only[Option.some.injEq,Prod.mk.injEq]at hr;obtain⟨_,rfl⟩:=hr;intro i hi;simp at hi
 ·obtain⟨_,hr⟩:=bA hr;simp only[Option.some.injEq,Prod.mk.injEq]at hr;obtain⟨_,rfl⟩:=hr;intro i hi;simp at hi
 ·split at hr
  ·rename_i hq;obtain⟨_,hr⟩:=bA hr;simp only[Option.some.injEq,Prod.mk.injEq]at hr;obtain⟨_,rfl⟩:=hr;exact key hq
  ·cases hr
theorem gB.ints (ho:gB h γ v){i:Nat}{k:IntKind}{l:List Int}(hi:h i= .ints k l):v i= .ints k l:=by
 rw[←hi];refine ho.plain i ?_ (by rw[hi];rfl);rcases e0 i vA with q|q
 ·exact q
 ·rw[ho.high i q]at hi;cases hi
theorem dh (hty:sC P ty)(ho:gB h γ v)(hh:dA F ρ v w)(hb:Bd ρ)(he:∀x,gA ρ (av F (cA ρ v)) w (ev x) (ae x))(hn:∀id,nid≤id→id<nid+out.new.length→ρ id=none)(hlt:nid+out.new.length≤vA)(hwr:∀p∈out.wr,p.1<vA)(o:Oper){keep:Bool}
  (ha:qJ keep ty nid o.op ev h=some (some (true,out))):im F ρ h v w nid out ((execOp ae o).run P w):=by
 have hlow:∀j,(h j).isNw=true→j<vA:=fun j hj=>by
  rcases e0 j vA with q|q
  ·exact q
  ·rw[ho.high j q]at hj;cases hj
 generalize hop:o.op=op at ha;cases op<;>simp only[qJ]at ha<;>try (cases ha;done)
 case indexAddr t x i=>
  split at ha
  ·rename_i id w1 hx;split at ha
   ·rename_i k s rows hole hid;simp only[Option.some.injEq]at ha;have hidt:=hlow id (by rw[hid];rfl);have hv:=ho.nest id k s rows hole hidt hid;unfold iU at ha;split at ha
    ·rename_i ki m e s0 b0 z0 hi ht;split at ha
     ·rename_i te hte;obtain⟨hc,ha2⟩:=bA ha;obtain⟨hw,hw1⟩:=oA hc;have hw1':=qA hw1;subst hw1';simp only[Option.some.injEq,Prod.mk.injEq]at ha2;obtain⟨hok,rfl⟩:=ha2;refine pZ hty ho hh he o (tc:=[id]) ?_;rw[hop];simp only[aG,kH,hi,ht,hte,hx,hw,cond_true,hv,vC,bE,pA,hok]
     ·cases ha
    ·cases ha
   ·cases ha
  ·cases ha
 case load t a=>
  split at ha
  ·rename_i id off ext hea;split at ha
   ·rename_i k s rows hole hid;simp only[Option.some.injEq]at ha;split at ha
    ·rename_i ti hti;exact aw hty ho hh hb he o hop hti hea hid hn hlt hwr ha
    ·cases ha
   ·cases ha
  ·cases ha
 case store t a x=>
  split at ha
  ·rename_i id off ext hea;split at ha
   ·rename_i k s rows hole hid;simp only[Option.some.injEq]at ha;split at ha
    ·rename_i ti hti;exact y7 hty ho hh hb he o hop hti hea hid hwr ha
    ·cases ha
   ·cases ha
  ·cases ha
 case call c=>
  obtain⟨callee,args,ts⟩:=c;cases callee with
  |value f=>cases ha
  |invoke r m=>cases ha
  |builtin b=>
   dsimp only at ha;generalize hxs:args.toList.map ev=xs at ha;unfold pS at ha;split at ha
   ·rename_i id w1;split at ha
    ·rename_i k s rows hole hid;simp only[Option.some.injEq]at ha;have hidt:=hlow id (by rw[hid];rfl);have hv:=ho.nest id k s rows hole hidt hid;unfold dv at ha;split at ha
     ·rename_i t r hts;split at ha
      ·rename_i ti hti;obtain⟨hc,ha2⟩:=bA ha;obtain⟨hsl,hw1⟩:=oA hc;have hw1':=qA hw1;subst hw1';simp only[Option.some.injEq,Prod.mk.injEq,true_and]at ha2;subst ha2;obtain⟨e,hte⟩:=lZ hsl;refine pZ hty ho hh he o (tc:=[id]) ?_;rw[hop];simp only[aG,hxs,fF,hts,hti,iI,hv,vC,pA,hte,oZ,cond_true]
      ·cases ha
     ·cases ha
    ·cases ha
   ·rename_i d s;split at ha
    ·rename_i t t2 tr hts;split at ha
     ·rename_i e sz by_ z e2 sz2 by2 z2 ht ht2;split at ha
      ·rename_i ti hti;cases hsl:ti.isSl<;>rw[hsl]at ha<;>simp only[cond_true,cond_false]at ha
       ·cases keep<;>simp only[cond_true,cond_false]at ha
        ·cases ha
        ·simp only[Option.some.injEq]at ha;unfold qG at ha;cases hbs:(Nat.blt 0 ti.bytes&&Nat.blt 0 ti.size)with
         |false=>simp[hbs]at ha
         |true=>
         simp only[hbs,n4,cond_false]at ha;obtain⟨hbt,hsz⟩:=oA hbs;have hbt:=bB hbt;have hsz:=bB hsz;split at ha
         ·rename_i k hk;split at ha
          ·cases ha
          ·rename_i src tc hsrc;split at ha
           ·rename_i id w2;split at ha
            ·rename_i k' l hid;obtain⟨hc,ha2⟩:=bA ha;obtain⟨hk2,hw2⟩:=oA hc;have hk2:=bD hk2;have hw2:=qA hw2;subst hk2;subst hw2;simp only[Option.some.injEq,Prod.mk.injEq]at ha2;obtain⟨hroom,rfl⟩:=ha2;have hsv:dE v k ti.size s=some (src,tc):=nE hsrc (fun i hi=>by
              obtain⟨k3,l3,h3⟩:=eX hsrc i hi;rw[h3];exact ho.ints h3)
             have hrl:=eA.map_ev he args.toList;rw[hxs]at hrl;obtain⟨vd,vx,hvs⟩:∃vd vx,args.toList.map ae=[vd,vx]:=by
              have:=hrl.length
              match hq:args.toList.map ae,this with
              | [a,b],_=>exact⟨a,b,rfl⟩
             rw[hvs]at hrl;simp only[eA,and_true]at hrl;obtain⟨m,m1,m2,m3⟩:=rO (P:=P) hh hsz hrl.2 hsv;have hS:fh P w ti.size m vx (src.map (Value.int k)):=⟨m1,by simpa using m2,rL _,m3⟩
             have hts0:ts[0]?=some t:=by
              have:ts.toList[0]?=some t:=by rw[hts];rfl
              simpa using this
             have hts1:ts[1]?=some t2:=by
              have:ts.toList[1]?=some t2:=by rw[hts];rfl
              simpa using this
             have hu:=(hty _ _ ht).tk;have hu2:=(hty _ _ ht2).tk;simp only[tC]at hu hu2;have hat:o5 P ts e ti:=⟨⟨t,hts0,hu⟩,⟨t2,_,hts1,hu2,.inl ⟨_,rfl⟩⟩,hty _ _ hti,hbt,hsz⟩
             have hlen:vC ti.size (l.length+src.length)=l.length/ti.size+m:=by rw[iD,m2,k5 _ _ hsz]
             rw[hlen]at hroom;obtain⟨u,w',r1,r2,r3,r4⟩:=oV hat o.type hh hS hrl.1 (ho.ints hid) hroom;refine⟨u,w',ρ,v,.inl ?_,⟨yH.refl _,fun _ _ _=>rfl,fun hb=>hb,fun g _ hl=>.inl hl,⟨γ,ho⟩,r2,r3⟩,?_⟩
             ·unfold execOp;rw[hop];have e1:(args.map ae)= #[vd,vx]:=by apply Array.ext';simp[hvs]
              simp only[resolve,r8,Sem.run_pure,b7,invoke,e1];simp[builtin,r1]
             ·simp only[gA,hlen];exact r4
            ·cases ha
           ·cases ha
         ·cases ha
       ·simp only[Option.some.injEq]at ha;exact nV hty ho hh hb he o hop hxs hts ht ht2 hti hsl hn hlt hwr ho.high ha
      ·cases ha
     ·cases ha
    ·cases ha
   ·cases ha
end
mutual
theorem gA.avoid {ρ:vB}{M M':Nat→Prop}{w:World}(hM:∀b,M' b→M b):∀(x:V) (v:Value),gA ρ M w x v→gA ρ M' w x v
 | .c _,_,h=>by simpa only[gA]using h
 | .poison,_,_=>by simp only[gA]
 | .ptr _ _ _,_,h=>by simpa only[gA]using h
 | .sw _ _,_,h=>by simpa only[gA]using h
 | .sl _ _ _ _,_,h=>by simpa only[gA]using h
 | .mref _,_,h=>by simpa only[gA]using h
 | .il _ _ _,_,h=>by
  simp only[gA]at h⊢;obtain⟨h0,h1,h2|⟨b,o,cap,h2,h3,h4,h5,h6⟩⟩:=h
  ·exact⟨h0,h1,.inl h2⟩
  ·exact⟨h0,h1,.inr ⟨b,o,cap,h2,h3,h4,fun hm=>h5 (hM b hm),h6⟩⟩
 | .iv _ _,_,h=>by
  simp only[gA]at h⊢;obtain⟨h0,h2|⟨b,o,cap,h2,h3,h4,h5,h7⟩⟩:=h
  ·exact⟨h0,.inl h2⟩
  ·exact⟨h0,.inr ⟨b,o,cap,h2,h3,h4,fun hm=>h5 (hM b hm),h7⟩⟩
 | .ilp _ _ _ _,_,h=>by simp only[gA]at h⊢;obtain⟨b,o,h2,h3,h4,h5,h6⟩:=h;exact⟨b,o,h2,h3,h4,fun hm=>h5 (hM b hm),h6⟩
 | .ivp _ _ _ _,_,h=>by simp only[gA]at h⊢;obtain⟨b,o,h2,h3,h4,h5,h7⟩:=h;exact⟨b,o,h2,h3,h4,fun hm=>h5 (hM b hm),h7⟩
 | .inl _ _ _,_,h=>by
  simp only[gA]at h⊢;obtain h2|⟨b,o,cap,h2,h3,h4,h5,h6⟩:=h
  ·exact .inl h2
  ·exact .inr ⟨b,o,cap,h2,h3,h4,fun hm=>h5 (hM b hm),fun i hi=>by obtain⟨u,hu,hr⟩:=h6 i hi;exact⟨u,hu,hr.avoid hM⟩⟩
 | .inlp _ _ _ _,_,h=>by simp only[gA]at h⊢;obtain⟨b,o,h2,h3,h4,h5,h6⟩:=h;exact⟨b,o,h2,h3,h4,fun hm=>h5 (hM b hm),fun i hi=>by obtain⟨u,hu,hr⟩:=h6 i hi;exact⟨u,hu,hr.avoid hM⟩⟩
 | .lv _,_,h=>by simpa only[gA]using h
 | .agg cs,_,h=>by simp only[gA]at h⊢;obtain⟨vs,h1,h2⟩:=h;exact⟨vs,h1,eA.avoid hM cs _ h2⟩
 | .tup cs,_,h=>by simp only[gA]at h⊢;obtain⟨vs,h1,h2⟩:=h;exact⟨vs,h1,eA.avoid hM cs _ h2⟩
 | .fn _ a c,_,h=>by simp only[gA]at h⊢;obtain⟨va,vc,h1,h2,h3⟩:=h;exact⟨va,vc,h1,eA.avoid hM a _ h2,eA.avoid hM c _ h3⟩
theorem eA.avoid {ρ:vB}{M M':Nat→Prop}{w:World}(hM:∀b,M' b→M b):∀(x:List V) (v:List Value),eA ρ M w x v→eA ρ M' w x v
 | [],[],_=>by simp only[eA]
 |x::xs,v::vs,h=>by simp only[eA]at h⊢;exact⟨gA.avoid hM x v h.1,eA.avoid hM xs vs h.2⟩
 | [],_::_,h=>by simp only[eA]at h
 |_::_,[],h=>by simp only[eA]at h
end
mutual
theorem gA.ren {ρ ρ':vB}{M M':Nat→Prop}{w:World}{m:Nat→Option Nat}(hm:∀i j p,m i=some j→ρ i=some p→ρ' j=some p):∀(x:V) (v:Value),((∀b,M' b→M b)∨rF x=true)→gA ρ M w x v→gA ρ' M' w (kg m x) v
 | .c _,_,_,h=>by simpa only[gA,Ev.kg]using h
 | .poison,_,_,_=>by simp only[gA,Ev.kg]
 | .ptr id _ _,_,_,h=>by
  simp only[Ev.kg];cases hid:m id with
  |none=>simp only[gA]
  |some j=>simp only[gA]at h⊢;obtain⟨b,n,C,h1,h2,h3⟩:=h;exact⟨b,n,C,hm _ _ _ hid h1,h2,h3⟩
 | .sw id _,_,_,h=>by
  simp only[Ev.kg];cases hid:m id with
  |none=>simp only[gA]
  |some j=>
   simp only[gA]at h⊢;obtain⟨h0,⟨b,n,C,cap,h1,h2⟩|⟨h1,h2⟩⟩:=h
   ·exact⟨h0,.inl ⟨b,n,C,cap,hm _ _ _ hid h1,h2⟩⟩
   ·exact⟨h0,.inr ⟨hm _ _ _ hid h1,h2⟩⟩
 | .sl id _ _ _,_,_,h=>by
  simp only[Ev.kg];cases hid:m id with
  |none=>simp only[gA]
  |some j=>
   simp only[gA]at h⊢;obtain⟨h0,⟨b,n,C,cap,h1,h2⟩|⟨h1,h2⟩⟩:=h
   ·exact⟨h0,.inl ⟨b,n,C,cap,hm _ _ _ hid h1,h2⟩⟩
   ·exact⟨h0,.inr ⟨h1,h2⟩⟩
 | .mref id,_,_,h=>by
  simp only[Ev.kg];cases hid:m id with
  |none=>simp only[gA]
  |some j=>simp only[gA]at h⊢;obtain⟨b,h1,h2⟩:=h;exact⟨b,hm _ _ _ hid h1,h2⟩
 | .il k s l,v,hM,h=>by
  simp only[Ev.kg];rcases hM with hM|hM
  ·have:=gA.avoid hM _ _ h;simpa only[gA]using this
  ·simp[rF]at hM
 | .iv s l,v,hM,h=>by
  simp only[Ev.kg];rcases hM with hM|hM
  ·have:=gA.avoid hM _ _ h;simpa only[gA]using this
  ·simp[rF]at hM
 | .ilp k l off ext,v,hM,h=>by
  simp only[Ev.kg];rcases hM with hM|hM
  ·have:=gA.avoid hM _ _ h;simpa only[gA]using this
  ·simp[rF]at hM
 | .ivp l i off ext,v,hM,h=>by
  simp only[Ev.kg];rcases hM with hM|hM
  ·have:=gA.avoid hM _ _ h;simpa only[gA]using this
  ·simp[rF]at hM
 | .inl k s rows,v,hM,h=>by
  simp only[Ev.kg];rcases hM with hM|hM
  ·have:=gA.avoid hM _ _ h;simpa only[gA]using this
  ·simp[rF]at hM
 | .inlp k s rows i,v,hM,h=>by
  simp only[Ev.kg];rcases hM with hM|hM
  ·have:=gA.avoid hM _ _ h;simpa only[gA]using this
  ·simp[rF]at hM
 | .lv _,_,_,h=>by simp only[Ev.kg];simpa only[gA]using h
 | .agg cs,_,hM,h=>by simp only[gA,Ev.kg]at h⊢;obtain⟨vs,h1,h2⟩:=h;exact⟨vs,h1,eA.ren hm cs _ (by simpa only[rF]using hM) h2⟩
 | .tup cs,_,hM,h=>by simp only[gA,Ev.kg]at h⊢;obtain⟨vs,h1,h2⟩:=h;exact⟨vs,h1,eA.ren hm cs _ (by simpa only[rF]using hM) h2⟩
 | .fn _ a c,_,hM,h=>by simp only[gA,Ev.kg]at h⊢;obtain⟨va,vc,h1,h2,h3⟩:=h;exact⟨va,vc,h1,eA.ren hm a _ (hM.imp id (fun h=>by simp only[rF,aE]at h;exact h.1)) h2,eA.ren hm c _ (hM.imp id (fun h=>by simp only[rF,aE]at h;exact h.2)) h3⟩
theorem eA.ren {ρ ρ':vB}{M M':Nat→Prop}{w:World}{m:Nat→Option Nat}(hm:∀i j p,m i=some j→ρ i=some p→ρ' j=some p):∀(x:List V) (v:List Value),((∀b,M' b→M b)∨bH x=true)→eA ρ M w x v→eA ρ' M' w (oL m x) v
 | [],[],_,_=>by simp only[eA,oL]
 |x::xs,v::vs,hM,h=>by simp only[eA,oL]at h⊢;exact⟨gA.ren hm x v (hM.imp id (fun h=>by simp only[bH,aE]at h;exact h.1)) h.1,eA.ren hm xs vs (hM.imp id (fun h=>by simp only[bH,aE]at h;exact h.2)) h.2⟩
 | [],_::_,_,h=>by simp only[eA]at h
 |_::_,[],_,h=>by simp only[eA]at h
end
theorem mO (m:Nat→Option Nat):∀l:List V,(oL m l).length=l.length
 | []=>rfl
 |_::r=>by simp[oL,mO m r]
theorem tA.ren {ρ ρ':vB}{M M':Nat→Prop}{w:World}{m:Nat→Option Nat}(hm:∀i j p,m i=some j→ρ i=some p→ρ' j=some p){p:Pl}{x:jA}(hM:(∀b,M' b→M b)∨mN x=true)(h:tA ρ M w p x):tA ρ' M' w p (pF m x):=by
 cases x with
 |dead=>trivial
 |ints k l=>exact h
 |mp k n ks vs=>exact h
 |it mid vC rem cur=>
  obtain⟨h1,h2,b,mb,seen,h4,h5,h6,h7⟩:=h;refine⟨h1,h2,b,mb,seen,h4,h5,fun i hi=>?_,h7⟩;cases mid with
  |none=>cases hi
  |some j=>exact hm j i _ hi (h6 j rfl)
 |vals cs=>
  obtain⟨h1,⟨h2,h3,h4⟩|⟨b,c,h2,h3,h4,h5⟩⟩:=h
  ·subst h3;exact⟨h1,.inl ⟨h2,rfl,h4⟩⟩
  ·exact⟨by rw[mO];exact h1,.inr ⟨b,c,h2,h3,h4,eA.ren hm _ _ (by simpa only[mN]using hM) h5⟩⟩
 |nw _ _ _ _=>exact h.elim
 |bls l=>exact h
theorem kT {m:Nat→Option Nat}{x:jA}:(pF m x).live↔x.live:=by cases x<;>simp[pF,jA.live]
def uM (F:Nat→Prop)(ρ:vB)(bs:List jA)(w:World)(v:V)(bs':List jA)(v':Value)(w':World):Prop:=
 ∃ρ' h',(∀id,id<bs.length→ρ' id=ρ id)∧(∀g p,vA≤g→ρ g=some p→ρ' g=some p)∧(∀id,bs'.length≤id→id<vA→ρ' id=none)∧Bd ρ'∧bs'.length≤vA∧(∀g,vA≤g→(h' g).live→ρ g=none)∧iq (kA bs') h'∧
  dA F ρ' h' w'∧gA ρ' (av F (cA ρ' h')) w' v v'∧iE (cA ρ (kA bs)) w (cA ρ' h') w'
def nJ (P:Program)(f:Nat):Prop:=∃fn,P.funcs[f]?=some fn∧fn.body.isNone=false∧(fn.name== "runtime.NumGoroutine")=false
structure nA (P:Program)(f:Nat)(args:List V)(bs:List jA)(v:V)(bs':List jA):Prop where
 callable:nJ P f
 calls:∀F ρ w args',dA F ρ (kA bs) w→(∀id,bs.length≤id→id<vA→ρ id=none)→Bd ρ→bs.length≤vA→eA ρ (av F (cA ρ (kA bs))) w args args'→
  Calls P f args'.toArray w fun e w'=>∃v',e= .returned v'∧uM F ρ bs w v bs' v' w'
def oP (P:Program)(tab:Nat→Option jB):Prop:=∀f e,tab f=some e→∀args bs a enc,e.dec args bs=some (some a,enc)→nA P f args bs (enc a).pick.1 (enc a).pick.2
section
variable {P:Program}{F:Nat→Prop}{ρ:vB}{h v:Nat→jA}{γ:Nat→Nat→Nat}{w:World}{nid:Nat}
def mV (h:Nat→jA)(γ:Nat→Nat→Nat)(τ:List Nat)(g:Nat):Prop:=g∈τ∨∃j i,j∈τ∧xA h j i∧γ j i=g
theorem mV.mono {τ τ':List Nat}(hs:∀j∈τ,j∈τ'){g:Nat}(hg:mV h γ τ g):mV h γ τ' g:=by
 rcases hg with hg|⟨j,i,h1,h2,h3⟩
 ·exact .inl (hs g hg)
 ·exact .inr ⟨j,i,hs j h1,h2,h3⟩
theorem lU (hh:dA F ρ v w){Ml:Nat→Prop}{id s:Nat}{k:IntKind}{l:List Int}{u:Value}(hid:v id= .ints k l)(hτ:∀b n C,ρ id=some ⟨some b,n,C⟩→(v id).live→¬Ml b)(hr:gA ρ (av F (cA ρ v)) w (.sw id s) u):qF Ml w k s l u:=by
 have hl:(v id).live:=by rw[hid];trivial
 obtain⟨h0,⟨b,n,C,cap,c,h1,h2,h3,h4,h5,ho,hsz,hold⟩|⟨h1,h2,hk⟩⟩:=rE hh hr hl (by rw[hid];trivial)
 ·rw[hid]at hold;obtain⟨e1,e2,e3⟩:=hold;refine⟨h0,by rw[e1];exact h2,.inr ⟨b,0,cap,by rw[e1];exact h5,by rw[e1];exact h3,ho.lt,hτ b n C h1 hl,fun j hj=>?_⟩⟩;rw[c4,ho.cell];exact e3 j hj
 ·rw[hid]at hk;rcases hk with⟨k2,hk⟩|hk|⟨_,_,hk⟩<;>cases hk;exact⟨h0,by simp,.inl ⟨rfl,none,h2⟩⟩
theorem aO {k:IntKind}{s:Nat}:∀(cs:List V) (rows:List (List Int)),mQ k s cs=some rows→cs=rows.map (.il k s)
 | [],rows,h=>by simp only[mQ,Option.some.injEq]at h;subst h;rfl
 |c::r,rows,h=>by
  cases c<;>simp only[mQ]at h<;>try (cases h;done)
  obtain⟨hc,h2⟩:=bA h;obtain⟨hk,hs⟩:=oA hc;have hk:=bD hk;have hs:=qA hs;subst hk;subst hs;split at h2
  ·rename_i rows' hr;simp only[Option.some.injEq]at h2;subst h2;rw[aO r rows' hr];rfl
  ·cases h2
theorem fW {k:IntKind}{s:Nat}{cs:List V}{rows:List (List Int)}(h:cY cs=some (k,s,rows)):cs=rows.map (.il k s):=by
 unfold cY at h;split at h
 ·split at h
  ·rename_i rows' hr;simp only[Option.some.injEq,Prod.mk.injEq]at h;obtain⟨rfl,rfl,rfl⟩:=h;rw[aO _ _ hr];rfl
  ·cases h
 ·cases h
theorem cX (hh:dA F ρ v w){Ml:Nat→Prop}{id:Nat}{k:IntKind}{s:Nat}{rows:List (List Int)}{cs:List V}{u:Value}(hid:v id= .vals cs)(hlen:cs.length=rows.length)(hτ:∀b n C,ρ id=some ⟨some b,n,C⟩→(v id).live→¬Ml b)
  (hcs:∀i x y,cs[i]?=some x→gA ρ (av F (cA ρ v)) w x y→qF Ml w k s (rows.getD i []) y)(hr:gA ρ (av F (cA ρ v)) w (.sw id 1) u):gA ρ Ml w (.inl k s rows) u:=by
 have hl:(v id).live:=by rw[hid];trivial
 simp only[gA];obtain⟨h0,⟨b,n,C,cap,c,h1,h2,h3,h4,h5,ho,hsz,hold⟩|⟨h1,h2,hk⟩⟩:=rE hh hr hl (by rw[hid];trivial)
 ·rw[hid]at hold;obtain⟨e1,e2,e3⟩:=hold;have en:n/1=rows.length:=by rw[Nat.div_one];omega
  refine .inr ⟨b,0,cap,by rw[←en];exact h5,by rw[←en];exact h3,ho.lt,hτ b n C h1 hl,fun i hi=>?_⟩;have hci:cs[i]?=some cs[i]:=hX (by omega);obtain⟨y,hy,hry⟩:=e3.get hci;rw[x1 (by omega),y4]at hy;exact⟨y,by rw[c4,ho.cell];exact hy,hcs i _ y hci hry⟩
 ·rw[hid]at hk;have hrows:rows=[]:=by
   rcases hk with⟨_,hk⟩|hk|⟨_,_,hk⟩
   ·cases hk
   ·cases hk;exact k4.mp (by simpa using hlen.symm)
   ·cases hk
  exact .inl ⟨hrows,none,h2⟩
theorem gB.live_lt (ho:gB h γ v){i:Nat}(hl:(h i).live):i<vA:=by
 rcases e0 i vA with q|q
 ·exact q
 ·rw[ho.high i q]at hl;exact hl.elim
theorem br (ho:gB h γ v)(hh:dA F ρ v w){Ml:Nat→Prop}{id:Nat}{k:IntKind}{s:Nat}{rows:List (List Int)}{u:Value}(hid:h id= .nw k s rows none)(hτ:∀g,mV h γ [id] g→∀b n C,ρ g=some ⟨some b,n,C⟩→(v g).live→¬Ml b)(hr:gA ρ (av F (cA ρ v)) w (.sw id 1) u):gA ρ Ml w (.inl k s rows) u:=by
 have hlt:=ho.live_lt (i:=id) (by rw[hid];trivial);refine cX hh (ho.nest id k s rows none hlt hid) (pA _ _ _ _) (hτ id (.inl (by simp))) (fun i x y hx hy=>?_) hr;have hi:i<rows.length:=by have:=(hR.mp hx).1;rwa[pA]at this
 rw[tD _ _ _ hi]at hx;simp only[Option.some.injEq,aF]at hx;subst hx;have hlo:xA h id i:=⟨k,s,rows,none,hlt,hid,hi,fun g e=>by cases e⟩
 exact lU hh (ho.row id i k s rows none hlt hid hi (fun g e=>by cases e)).2 (hτ (γ id i) (.inr ⟨id,i,by simp,hlo,rfl⟩)) hy
mutual
theorem kZ (ho:gB h γ v)(hh:dA F ρ v w){Ml:Nat→Prop}(hM:∀b,Ml b→av F (cA ρ v) b):∀(x:V) (u:Value),(∀g,mV h γ (wE h x).2 g→∀b n C,ρ g=some ⟨some b,n,C⟩→(v g).live→¬Ml b)→gA ρ (av F (cA ρ v)) w x u→gA ρ Ml w (wE h x).1 u
 | .sw id s,u,hτ,hr=>by
  unfold wE at hτ⊢;split at hτ
  ·rename_i k l hid;exact(lU hh (ho.ints hid) (hτ id (.inl (by simp))) hr).rel
  ·rename_i k s' rows hid;cases hs:Nat.beq s 1<;>rw[hs]at hτ<;>simp only[cond_true,cond_false]at hτ⊢
   ·exact gA.avoid hM _ _ hr
   ·have hs:=qA hs;subst hs;exact br ho hh hid hτ hr
  ·rename_i cs hid;split at hτ
   ·rename_i k s' rows hrows;cases hs:Nat.beq s 1<;>rw[hs]at hτ<;>simp only[cond_true,cond_false]at hτ⊢
    ·exact gA.avoid hM _ _ hr
    ·have hs:=qA hs;subst hs;have hcs:=fW hrows;have hv:v id= .vals cs:=by rw[←hid];exact ho.plain id (ho.live_lt (by rw[hid];trivial)) (by rw[hid];rfl)
     refine cX hh hv (by rw[hcs];simp) (hτ id (.inl (by simp))) (fun i x y hx hy=>?_) hr;rw[hcs,l4]at hx;cases hq:rows[i]? with
     |none=>rw[hq]at hx;cases hx
     |some r=>rw[hq]at hx;simp only[Option.map_some,Option.some.injEq]at hx;subst hx;rw[hA,hq];exact(qF.of hy).avoid hM
   ·exact gA.avoid hM _ _ hr
  ·exact gA.avoid hM _ _ hr
 | .sl id s off len,u,hτ,hr=>by
  unfold wE at hτ⊢;split at hτ
  ·rename_i k l hid;have hv:=ho.ints hid;have hl:(v id).live:=by rw[hv];trivial
   simp only[gA]at hr⊢;obtain⟨h0,⟨b,n,C,cap,h1,h2,h3,h4,h5⟩|⟨h1,a,h2⟩⟩:=hr
   ·obtain⟨c,ho',hsz,hold⟩:=hh.own hl (by rw[hv];trivial) h1;rw[hv]at hold;obtain⟨e1,e2,e3⟩:=hold;have hlen:((l.drop off).take (bE s len)).length=len*s:=by rw[zA];simp;omega
    rw[hlen];refine⟨h0,Nat.mul_mod_left _ _,.inr ⟨b,off,cap,by rw[Nat.mul_div_cancel _ h0];exact h5,by rw[Nat.mul_div_cancel _ h0];exact h3,ho'.lt,hτ id (.inl (by simp)) b n C h1 hl,fun j hj=>?_⟩⟩;rw[ho'.cell,e3 _ (by omega)];congr 2;simp only[hA];rw[x1 (by rw[zA];omega),List.getElem?_drop]
   ·subst h1;have:(l.drop off).take (bE s 0)=[]:=by rw[zA];simp
    rw[this];exact⟨h0,by simp,.inl ⟨rfl,a,h2⟩⟩
  ·exact gA.avoid hM _ _ hr
 | .agg cs,u,hτ,hr=>by unfold wE at hτ⊢;simp only[gA]at hr⊢;obtain⟨vs,h1,h2⟩:=hr;exact⟨vs,h1,jZ ho hh hM cs _ hτ h2⟩
 | .c _,u,_,hr=>by simp only[wE];exact gA.avoid hM _ _ hr
 | .poison,u,_,hr=>by simp only[wE];exact gA.avoid hM _ _ hr
 | .ptr _ _ _,u,_,hr=>by simp only[wE];exact gA.avoid hM _ _ hr
 | .mref _,u,_,hr=>by simp only[wE];exact gA.avoid hM _ _ hr
 | .il _ _ _,u,_,hr=>by simp only[wE];exact gA.avoid hM _ _ hr
 | .iv _ _,u,_,hr=>by simp only[wE];exact gA.avoid hM _ _ hr
 | .ilp _ _ _ _,u,_,hr=>by simp only[wE];exact gA.avoid hM _ _ hr
 | .ivp _ _ _ _,u,_,hr=>by simp only[wE];exact gA.avoid hM _ _ hr
 | .inl _ _ _,u,_,hr=>by simp only[wE];exact gA.avoid hM _ _ hr
 | .inlp _ _ _ _,u,_,hr=>by simp only[wE];exact gA.avoid hM _ _ hr
 | .lv _,u,_,hr=>by simp only[wE];exact gA.avoid hM _ _ hr
 | .tup _,u,_,hr=>by simp only[wE];exact gA.avoid hM _ _ hr
 | .fn _ _ _,u,_,hr=>by simp only[wE];exact gA.avoid hM _ _ hr
theorem jZ (ho:gB h γ v)(hh:dA F ρ v w){Ml:Nat→Prop}(hM:∀b,Ml b→av F (cA ρ v) b):∀(xs:List V) (us:List Value),(∀g,mV h γ (iN h xs).2 g→∀b n C,ρ g=some ⟨some b,n,C⟩→(v g).live→¬Ml b)→eA ρ (av F (cA ρ v)) w xs us→eA ρ Ml w (iN h xs).1 us
 | [],[],_,_=>by simp only[iN,eA]
 |x::xs,u::us,hτ,hr=>by unfold iN at hτ⊢;simp only[eA]at hr⊢;exact⟨kZ ho hh hM x u (fun g hg=>hτ g (hg.mono fun j hj=>b6 _ hj)) hr.1,jZ ho hh hM xs us (fun g hg=>hτ g (hg.mono fun j hj=>u2 _ hj)) hr.2⟩
 | [],_::_,_,hr=>by simp only[eA]at hr
 |_::_,[],_,hr=>by simp only[eA]at hr
end
theorem iL (ho:gB h γ v)(hh:dA F ρ v w){Ml:Nat→Prop}(hM:∀b,Ml b→av F (cA ρ v) b):∀(bs:List Bool) (xs:List V) (us:List Value),(∀g,mV h γ (gC h bs xs).2 g→∀b n C,ρ g=some ⟨some b,n,C⟩→(v g).live→¬Ml b)→eA ρ (av F (cA ρ v)) w xs us→eA ρ Ml w (gC h bs xs).1 us
 | [],xs,us,_,hr=>by simp only[gC];exact eA.avoid hM _ _ hr
 |true::bs,[],us,_,hr=>by simp only[gC];exact eA.avoid hM _ _ hr
 |false::bs,[],us,_,hr=>by simp only[gC];exact eA.avoid hM _ _ hr
 |_::_,_::_,[],_,hr=>by simp only[eA]at hr
 |true::bs,x::xs,u::us,hτ,hr=>by unfold gC at hτ⊢;simp only[eA]at hr⊢;exact⟨kZ ho hh hM x u (fun g hg=>hτ g (hg.mono fun j hj=>b6 _ hj)) hr.1,iL ho hh hM bs xs us (fun g hg=>hτ g (hg.mono fun j hj=>u2 _ hj)) hr.2⟩
 |false::bs,x::xs,u::us,hτ,hr=>by unfold gC at hτ⊢;simp only[eA]at hr⊢;exact⟨gA.avoid hM _ _ hr.1,iL ho hh hM bs xs us hτ hr.2⟩
end
section
variable {P:Program}{F:Nat→Prop}{ρ:vB}{h v:Nat→jA}{γ:Nat→Nat→Nat}{w:World}{nid:Nat}
theorem mV.append {σ τ:List Nat}{g:Nat}(hg:mV h γ (σ++τ) g):mV h γ σ g∨mV h γ τ g:=by
 rcases hg with hg|⟨j,i,h1,h2,h3⟩
 ·exact(hN.mp hg).imp .inl .inl
 ·exact(hN.mp h1).imp (fun q=>.inr ⟨j,i,q,h2,h3⟩) (fun q=>.inr ⟨j,i,q,h2,h3⟩)
def gm (j:Nat):Option Nat:=if vA≤j then some j else none
theorem wZ {γ:Nat→Nat}{s:Nat}:∀(l:List Nat),(∀i∈l,vA≤γ i)→oL gm (l.map (aF γ s none))=l.map (aF γ s none)
 | [],_=>rfl
 |i::l,hl=>by have h1:gm (γ i)=some (γ i):=if_pos (hl i (by simp));simp only[c0,oL,wZ l (fun i hi=>hl i (by simp[hi])),aF,Ev.kg,h1]
theorem mM (γ:Nat→Nat)(s:Nat):∀l:List Nat,bH (l.map (aF γ s none))=true
 | []=>rfl
 |i::l=>by simp only[c0,bH,mM γ s l,aF,rF,Bool.and_self]
theorem yY {k:IntKind}{s:Nat}{rows:List (List Int)}{hole:Option (Nat×Nat)}(h:l5 (.nw k s rows hole)=true):hole=none:=by
 cases hole with
 |none=>rfl
 |some p=>cases h
theorem e7 {m:Nat→Option Nat}{x:jA}:(pF m x).isNw=x.isNw:=by cases x<;>rfl
theorem dj (ho:gB h γ v)(hh:dA F ρ v w){σ τ:List Nat}{v0:V}{bs0:List jA}
  (hn:∀id,nid≤id→id<nid+(bs0.length-σ.length)→ρ id=none)(hnt:nid+(bs0.length-σ.length)≤vA)(hσt:∀i∈σ,i<vA∧(h i).isNw=false)(hτt:∀i∈τ,i<vA)
  (hσ:σ.Nodup)(hle:σ.length≤bs0.length)(hbt:bs0.length≤vA)(hwh:∀b∈bs0,l5 b=true)(hdis:∀j∈σ,j∉τ)
  {ρ0:vB}{h0:Nat→jA}(hρ0:∀j i,σ[j]?=some i→ρ0 j=ρ i)(hρ0':∀j,σ.length≤j→j<vA→ρ0 j=none)(hρ0g:∀g,vA≤g→ρ0 g=ρ g)
  (hl0:∀j i,σ[j]?=some i→((h0 j).live↔(v i).live))(hl0':∀j,σ.length≤j→¬(h0 j).live)
  {Fl:Nat→Prop}(hFl:∀b,av F (cA ρ v) b→(∀g,mV h γ (σ++τ) g→∀n C,ρ g=some ⟨some b,n,C⟩→¬(v g).live)→Fl b)
  {u:Value}{w':World}{ρ':vB}{v':Nat→jA}{γ':Nat→Nat→Nat}(hr1:∀j,j<σ.length→ρ' j=ρ0 j)(hrg:∀g p,vA≤g→ρ0 g=some p→ρ' g=some p)(hr2:∀j,bs0.length≤j→j<vA→ρ' j=none)(hbd:Bd ρ')
  (hfr:∀g,vA≤g→(v' g).live→ρ0 g=none)(hO:gB (kA bs0) γ' v')(hH:dA Fl ρ' v' w')(hv:gA ρ' (av Fl (cA ρ' v')) w' v0 u)(he:iE (cA ρ0 h0) w (cA ρ' v') w'):
  ∃ρc vc,eJ F ρ v w nid (hD σ τ nid v0 bs0).new.length (mE h nid (hD σ τ nid v0 bs0)) ρc vc w'∧gA ρc (av F (cA ρc vc)) w' (hD σ τ nid v0 bs0).val u:=by
 classical
 let on:=pD σ nid
 let new:Nat→Prop:=fun id=>nid≤id∧id<nid+(bs0.length-σ.length)
 obtain⟨idx,hidx⟩:∃idx:Nat→Nat,∀id∈σ,σ[idx id]?=some id:=
  ⟨fun id=>if h:id∈σ then Classical.choose (k8.mp h)else 0,fun id hid=>by simp only[dif_pos hid];exact Classical.choose_spec (k8.mp hid)⟩
 have hnew:(hD σ τ nid v0 bs0).new.length=bs0.length-σ.length:=by simp[hD,yL]
 generalize hout:hD σ τ nid v0 bs0=out at*;have hwr:out.wr=zR σ (bs0.map (pF on))++(bif rF v0&&bs0.all mN then []else τ.map fun i=>(i,.dead)):=by subst hout;rfl
 have hnw:out.new=(bs0.map (pF on)).drop σ.length:=by subst hout;simp[hD,yL];rfl
 have hval:out.val=kg on v0:=by subst hout;rfl
 generalize himm:(rF v0&&bs0.all mN)=imm at*
 let K:Nat→Prop:=fun id=>imm=false∧id∈τ
 let pull:Nat→Option Nat:=fun id=>if new id then some (σ.length+(id-nid))else if id∈σ then some (idx id)else none
 have hidxlt:∀id∈σ,idx id<σ.length:=fun id hid=>(hR.mp (hidx id hid)).1;have hpull:∀id j,pull id=some j→j<bs0.length∧on j=some id:=by
  intro id j hp;simp only[pull]at hp;split at hp
  ·rename_i hr;simp only[Option.some.injEq]at hp;subst hp;obtain⟨r1,r2⟩:=hr;refine⟨by omega,?_⟩;show pD σ nid _=_;rw[dR (by omega) (by omega)];congr 1;omega
  ·split at hp
   ·rename_i hm;simp only[Option.some.injEq]at hp;subst hp;have:=hidxlt id hm;exact⟨by omega,eR (hidx id hm)⟩
   ·cases hp
 have hpnone:∀id,pull id=none→¬new id∧id∉σ:=by
  intro id hp;simp only[pull]at hp;split at hp
  ·cases hp
  ·split at hp
   ·cases hp
   ·exact⟨by assumption,by assumption⟩
 let ρc:vB:=fun id=>if vA≤id then ρ' id else if new id then ρ' (σ.length+(id-nid))else ρ id
 have hρcg:∀g,vA≤g→ρc g=ρ' g:=fun g hg=>if_pos hg;have hρcn:∀id,id<vA→¬new id→ρc id=ρ id:=fun id h1 h2=>by simp only[ρc];rw[if_neg (by omega),if_neg h2]
 have hρcp:∀id j,id<vA→pull id=some j→ρc id=ρ' j:=by
  intro id j h1 hp;simp only[pull]at hp;split at hp
  ·rename_i hr;simp only[Option.some.injEq]at hp;subst hp;simp only[ρc];rw[if_neg (by omega),if_pos hr]
  ·rename_i hr;split at hp
   ·rename_i hm;simp only[Option.some.injEq]at hp;subst hp;rw[hρcn id h1 hr,hr1 _ (hidxlt id hm),hρ0 _ _ (hidx id hm)]
   ·cases hp
 have hsub:yH ρ ρc:=by
  intro id p hp;by_cases ht:vA≤id
  ·rw[hρcg id ht];exact hrg id p ht (by rw[hρ0g id ht];exact hp)
  ·rw[hρcn id (by omega) (fun hr=>by rw[hn id hr.1 hr.2]at hp;cases hp)];exact hp
 have hren:∀j i p,on j=some i→ρ' j=some p→ρc i=some p:=by
  intro j i p hj hp;have hjt:j<vA:=by
   rcases e0 j vA with q|q
   ·exact q
   ·rcases e0 j σ.length with q2|q2
    ·omega
    ·rw[show on j=pD σ nid j from rfl,uU q2 q]at hj;cases hj
  have hjl:j<bs0.length:=by
   rcases e0 j bs0.length with q|q
   ·exact q
   ·rw[hr2 j q hjt]at hp;cases hp
  rcases e0 j σ.length with hlt|hge
  ·have hi:=hX hlt;have:i=σ[j]:=by have:=eR (nid:=nid) hi;rw[show pD σ nid j=on j from rfl,hj]at this;exact Option.some.inj this
   subst this;rw[hr1 j hlt,hρ0 j _ hi]at hp;exact hsub _ _ hp
  ·have:i=nid+(j-σ.length):=by have:=dR (nid:=nid) hge hjt;rw[show pD σ nid j=on j from rfl,hj]at this;exact Option.some.inj this
   subst this;have e:pull (nid+(j-σ.length))=some j:=by simp only[pull];rw[if_pos ⟨by omega,by omega⟩];congr 1;omega
   rw[hρcp _ j (by omega) e];exact hp
 have hHc:∀id,id<vA→mE h nid out id=match pull id with|some j=>pF on (kA bs0 j)|none=>if K id then .dead else h id:=by
  intro id hid;have Hx:¬new id→mE h nid out id=yB h out.wr id:=fun hr=>by rw[nH,rC,sA (bK (by rw[hnew];exact hr))]
  by_cases hr:new id
  ·have e:pull id=some (σ.length+(id-nid)):=by simp only[pull];rw[if_pos hr]
   rw[e];dsimp only;rw[nH,rC,sN hr.1 (by rw[hnew];exact hr.2),hnw,←mS];rw[eB,eB];simp only[hA,List.getElem?_drop]
  ·rw[Hx hr,hwr,rC];by_cases hm:id∈σ
   ·have e:pull id=some (idx id):=by simp only[pull];rw[if_neg hr,if_pos hm]
    rw[e];dsimp only;rw[sA,qT σ _ h (idx id) id hσ (by simpa using hle) (hidx id hm),mS];intro hx;cases hc:imm<;>rw[hc]at hx<;>simp only[cond_true,cond_false,List.map_nil,j3]at hx;simp at hx;exact hdis id hm hx
   ·have e:pull id=none:=by simp only[pull];rw[if_neg hr,if_neg hm]
    rw[e];dsimp only;have hz:yB h (zR σ (bs0.map (pF on))) id=h id:=sA (fun hx=>hm (tM _ _ _ hx));rcases(show imm=false∨imm=true by cases imm<;>simp)with hc|hc
    ·have hb:(bif imm then([]:List (Nat×jA))else τ.map fun i=>(i,.dead))=τ.map fun i=>(i,.dead):=by rw[hc];rfl
     rw[hb];by_cases hτ:id∈τ
     ·rw[uK _ _ _ hτ,if_pos ⟨hc,hτ⟩]
     ·rw[sA (by simpa[Function.comp_def]using hτ),hz,if_neg (fun hk=>hτ hk.2)]
    ·have hb:(bif imm then([]:List (Nat×jA))else τ.map fun i=>(i,.dead))=[]:=by rw[hc];rfl
     rw[hb];simp only[yB];rw[hz,if_neg (fun hk=>by have:=hk.1;rw[hc]at this;cases this)]
 let vc:Nat→jA:=fun id=>if vA≤id then(if(v' id).live then v' id else if ∃j i,K j∧xA h j i∧γ j i=id then .dead else v id)
  else match pull id with|some j=>(if(kA bs0 j).isNw then v' j else pF on (v' j))|none=>if K id then .dead else v id
 let γc:Nat→Nat→Nat:=fun id i=>match pull id with|some j=>γ' j i|none=>γ id i
 have hvg:∀g,vA≤g→vc g=if(v' g).live then v' g else if ∃j i,K j∧xA h j i∧γ j i=g then .dead else v g:=fun g hg=>if_pos hg
 have hvl:∀id,id<vA→vc id=match pull id with|some j=>(if(kA bs0 j).isNw then v' j else pF on (v' j))|none=>if K id then .dead else v id:=fun id hid=>if_neg (by omega)
 have hliveρ:∀g,(v g).live→ρ g≠none:=fun g hl e=>cH hh e hl;have hbl:∀j k s rows hole,kA bs0 j= .nw k s rows hole→j<bs0.length∧hole=none:=by
  intro j k s rows hole hj;have hjl:j<bs0.length:=by
   rcases e0 j bs0.length with q|q
   ·exact q
   ·rw[eB,hA,hV q]at hj;cases hj
  refine⟨hjl,yY (k:=k) (s:=s) (rows:=rows) ?_⟩;rw[←hj,eB,hA,hX hjl];exact hwh _ (k7 hjl)
 have hlodg:∀j i,xA h j i→vA≤γ j i∧(v (γ j i)).live∧pull j=none:=by
  rintro j i ⟨k,s,rows,hole,h1,h2,h3,h4⟩;obtain⟨q1,q2⟩:=ho.row j i k s rows hole h1 h2 h3 h4;refine⟨q1,by rw[q2];trivial,?_⟩;have hvj:(v j).live:=by rw[ho.nest j k s rows hole h1 h2];trivial
  simp only[pull];rw[if_neg (fun hr=>hliveρ j hvj (hn j hr.1 hr.2)),if_neg (fun hm=>by have:=(hσt j hm).2;rw[h2]at this;cases this)]
 have hlodc:∀j i,xA (mE h nid out) j i→(∃j',pull j=some j'∧xA (kA bs0) j' i)∨(pull j=none∧¬K j∧xA h j i):=by
  rintro j i ⟨k,s,rows,hole,h1,h2,h3,h4⟩;rw[hHc j h1]at h2;cases hp:pull j with
  |some j'=>
   rw[hp]at h2;dsimp only at h2;cases hb:kA bs0 j'<;>rw[hb]at h2<;>simp only[pF]at h2<;>try (cases h2;done)
   rename_i k1 s1 rows1 hole1;obtain⟨q1,q2⟩:=hbl _ _ _ _ _ hb;subst q2;cases h2;exact .inl ⟨j',rfl,k,s,rows,none,by omega,hb,h3,fun g e=>by cases e⟩
  |none=>
   rw[hp]at h2;dsimp only at h2;split at h2
   ·cases h2
   ·exact .inr ⟨rfl,by assumption,k,s,rows,hole,h1,h2,h3,h4⟩
 have hlod':∀j i,xA (kA bs0) j i→j<bs0.length∧vA≤γ' j i∧(v' (γ' j i)).live∧(v' j).live:=by rintro j i ⟨k,s,rows,hole,h1,h2,h3,h4⟩;obtain⟨q1,q2⟩:=hO.row j i k s rows hole h1 h2 h3 h4;exact⟨(hbl _ _ _ _ _ h2).1,q1,by rw[q2];trivial,by rw[hO.nest j k s rows hole h1 h2];trivial⟩
 have hpj:∀j,j<bs0.length→(v' j).live→∃id,id<vA∧pull id=some j:=by
  intro j hj hl;obtain⟨p,hp,_⟩:=hH.rel j hl;rcases e0 j σ.length with hlt|hge
  ·have hi:=hX hlt;rw[hr1 j hlt,hρ0 j _ hi]at hp;have hm:σ[j]∈σ:=k7 hlt;refine⟨σ[j],(hσt _ hm).1,?_⟩;simp only[pull];rw[if_neg (fun hr=>by rw[hn _ hr.1 hr.2]at hp;cases hp),if_pos hm];congr 1;exact(List.getElem?_inj (hidxlt _ hm) hσ).mp (by rw[hidx _ hm,hi])
  ·refine⟨nid+(j-σ.length),by omega,?_⟩;simp only[pull];rw[if_pos ⟨by omega,by omega⟩];congr 1;omega
 have hop:gB (mE h nid out) γc vc:=by
  refine⟨?_,?_,?_,?_,?_,?_⟩
  ·intro j hj hnn;rw[hvl j hj];have e:=hHc j hj;rw[e]at hnn⊢;cases hp:pull j with
   |some j'=>rw[hp]at hnn;dsimp only at hnn⊢;rw[e7]at hnn;rw[hnn];simp only[x3,if_false];rw[hO.plain j' (by have:=(hpull j j' hp).1;omega) hnn]
   |none=>
    rw[hp]at hnn;dsimp only at hnn⊢;by_cases hk:K j
    ·rw[if_pos hk,if_pos hk]
    ·rw[if_neg hk]at hnn;rw[if_neg hk,if_neg hk];exact ho.plain j hj hnn
  ·intro j k s rows hole hj e;rw[hvl j hj];rw[hHc j hj]at e;cases hp:pull j with
   |some j'=>
    rw[hp]at e;dsimp only at e⊢;cases hb:kA bs0 j'<;>rw[hb]at e<;>simp only[pF]at e<;>try (cases e;done)
    rename_i k1 s1 rows1 hole1;obtain⟨q1,q2⟩:=hbl _ _ _ _ _ hb;subst q2;cases e;simp only[jA.isNw,if_true];rw[hO.nest j' k s rows none (by omega) hb];have:γc j=γ' j':=by funext i;simp only[γc,hp]
    rw[this]
   |none=>
    rw[hp]at e;dsimp only at e⊢;split at e
    ·cases e
    ·rename_i hk;rw[if_neg hk];have:γc j=γ j:=by funext i;simp only[γc,hp]
     rw[this];exact ho.nest j k s rows hole hj e
  ·intro j i k s rows hole hj e hi hhole;rcases hlodc j i ⟨k,s,rows,hole,hj,e,hi,hhole⟩with⟨j',hp,hlo⟩|⟨hp,hk,hlo⟩
   ·have hγ:γc j i=γ' j' i:=by simp only[γc,hp]
    obtain⟨q1,q2,q3,_⟩:=hlod' j' i hlo;rw[hγ];refine⟨q2,?_⟩;rw[hvg _ q2,if_pos q3];obtain⟨k1,s1,rows1,hole1,r1,r2,r3,r4⟩:=hlo;rw[hHc j hj,hp]at e;dsimp only at e;rw[r2]at e;simp only[pF]at e;cases e;exact(hO.row j' i k s rows hole1 r1 r2 r3 r4).2
   ·have hγ:γc j i=γ j i:=by simp only[γc,hp]
    obtain⟨q1,q2,_⟩:=hlodg j i hlo;rw[hγ];refine⟨q1,?_⟩;rw[hvg _ q1,if_neg (fun hl=>hliveρ _ q2 (by rw[←hρ0g _ q1];exact hfr _ q1 hl)),if_neg (by rintro⟨j2,i2,r1,r2,r3⟩;have:=(ho.inj j2 i2 j i r2 hlo r3).1;subst this;exact hk r1)];obtain⟨k1,s1,rows1,hole1,r1,r2,r3,r4⟩:=hlo;rw[hHc j hj,hp]at e;dsimp only at e;rw[if_neg hk,r2]at e;cases e;exact(ho.row j i k s rows hole r1 r2 r3 r4).2
  ·intro j i j2 i2 h1 h2 e;rcases hlodc j i h1 with⟨j',hp,hlo⟩|⟨hp,hk,hlo⟩<;>rcases hlodc j2 i2 h2 with⟨j2',hp2,hlo2⟩|⟨hp2,hk2,hlo2⟩
   ·simp only[γc,hp,hp2]at e;obtain⟨q1,q2⟩:=hO.inj j' i j2' i2 hlo hlo2 e;subst q1;have a1:=(hpull j j' hp).2;have a2:=(hpull j2 j' hp2).2;rw[a1]at a2;exact⟨Option.some.inj a2,q2⟩
   ·simp only[γc,hp,hp2]at e;obtain⟨_,q2,q3,_⟩:=hlod' j' i hlo;obtain⟨_,q5,_⟩:=hlodg j2 i2 hlo2;rw[←e]at q5;exact absurd (by rw[←hρ0g _ q2];exact hfr _ q2 q3) (hliveρ _ q5)
   ·simp only[γc,hp,hp2]at e;obtain⟨_,q2,q3,_⟩:=hlod' j2' i2 hlo2;obtain⟨_,q5,_⟩:=hlodg j i hlo;rw[e]at q5;exact absurd (by rw[←hρ0g _ q2];exact hfr _ q2 q3) (hliveρ _ q5)
   ·simp only[γc,hp,hp2]at e;exact ho.inj j i j2 i2 hlo hlo2 e
  ·intro g hg hl;rw[hvg g hg]at hl;by_cases hl':(v' g).live
   ·obtain⟨j',i,q1,q2⟩:=hO.rest g hg hl';obtain⟨a1,a2,a3,a4⟩:=hlod' j' i q1;obtain⟨id,b1,b2⟩:=hpj j' a1 a4;obtain⟨k,s,rows,hole,r1,r2,r3,r4⟩:=q1;have hq:=(hbl _ _ _ _ _ r2).2;subst hq;refine⟨id,i,⟨k,s,rows,none,b1,by rw[hHc id b1,b2];dsimp only;rw[r2];rfl,r3,fun g e=>by cases e⟩,?_⟩;simp only[γc,b2];exact q2
   ·rw[if_neg hl']at hl;by_cases hK:∃j i,K j∧xA h j i∧γ j i=g
    ·rw[if_pos hK]at hl;exact hl.elim
    ·rw[if_neg hK]at hl;obtain⟨j,i,q1,q2⟩:=ho.rest g hg hl;have hkj:¬K j:=fun hk=>hK ⟨j,i,hk,q1,q2⟩;have hp:=(hlodg j i q1).2.2;obtain⟨k,s,rows,hole,r1,r2,r3,r4⟩:=q1;refine⟨j,i,⟨k,s,rows,hole,r1,by rw[hHc j r1,hp];dsimp only;rw[if_neg hkj];exact r2,r3,r4⟩,?_⟩;simp only[γc,hp];exact q2
  ·intro j hj;rw[nH,rC,sA (bK (by rw[hnew];omega)),sA,ho.high j hj];intro hx;rw[hwr,w5,hN]at hx;rcases hx with hx|hx
   ·have:=(hσt _ (tM _ _ _ hx)).1;omega
   ·cases hc:imm<;>rw[hc]at hx<;>simp only[cond_true,cond_false,List.map_nil,j3]at hx;simp at hx;have:=hτt _ hx;omega
 have src:∀id,(vc id).live→(∃j m,(∀i k p,m i=some k→ρ' i=some p→ρc k=some p)∧vc id=pF m (v' j)∧ρc id=ρ' j∧(v' j).live∧(imm=true→mN (v' j)=true)∧((id<vA∧pull id=some j)∨(vA≤id∧j=id)))∨
   (vc id=v id∧ρc id=ρ id∧(v id).live∧¬mV h γ σ id∧(imm=false→¬mV h γ τ id)):=by
  intro id hl;have hgmr:∀i k p,gm i=some k→ρ' i=some p→ρc k=some p:=by
   intro i k p h1 h2;unfold gm at h1;split at h1
   ·rename_i ht;simp only[Option.some.injEq]at h1;subst h1;rw[hρcg i ht];exact h2
   ·cases h1
  have hTσ:¬(id<vA∧id∈σ)→¬mV h γ σ id:=by
   rintro hx (hx2|⟨j,i,h1,⟨k,s,rows,hole,_,h2,_⟩,h3⟩)
   ·exact hx ⟨(hσt id hx2).1,hx2⟩
   ·have:=(hσt j h1).2;rw[h2]at this;cases this
  by_cases ht:vA≤id
  ·rw[hvg id ht]at hl;by_cases hl':(v' id).live
   ·refine .inl ⟨id,gm,hgmr,?_,hρcg id ht,hl',fun _=>?_,.inr ⟨ht,rfl⟩⟩
    ·rw[hvg id ht,if_pos hl'];obtain⟨j',i,⟨k,s,rows,hole,r1,r2,r3,r4⟩,q2⟩:=hO.rest id ht hl';rw[←q2,(hO.row j' i k s rows hole r1 r2 r3 r4).2];rfl
    ·obtain⟨j',i,⟨k,s,rows,hole,r1,r2,r3,r4⟩,q2⟩:=hO.rest id ht hl';rw[←q2,(hO.row j' i k s rows hole r1 r2 r3 r4).2];rfl
   ·rw[if_neg hl']at hl;by_cases hK:∃j i,K j∧xA h j i∧γ j i=id
    ·rw[if_pos hK]at hl;exact hl.elim
    ·rw[if_neg hK]at hl;refine .inr ⟨by rw[hvg id ht,if_neg hl',if_neg hK],?_,hl,hTσ (by omega),?_⟩
     ·rw[hρcg id ht];cases hr:ρ id with
      |none=>exact absurd hr (hliveρ id hl)
      |some p=>exact hrg id p ht (by rw[hρ0g id ht];exact hr)
     ·rintro hi (hx|⟨j,i,h1,h2,h3⟩)
      ·have:=hτt id hx;omega
      ·exact hK ⟨j,i,⟨hi,h1⟩,h2,h3⟩
  ·have ht':id<vA:=by omega
   rw[hvl id ht']at hl;cases hp:pull id with
   |some j=>
    rw[hp]at hl;dsimp only at hl;obtain⟨a1,a2⟩:=hpull id j hp;cases hb:(kA bs0 j).isNw with
    |true=>
     rw[hb,if_pos rfl]at hl;obtain⟨k,s,rows,hole,e⟩:=fP hb;obtain⟨_,q2⟩:=hbl _ _ _ _ _ e;subst q2;have hvj:=hO.nest j k s rows none (by omega) e;refine .inl ⟨j,gm,hgmr,?_,hρcp id j ht' hp,hl,fun _=>?_,.inl ⟨ht',rfl⟩⟩
     ·rw[hvl id ht',hp];dsimp only;rw[hb,if_pos rfl,hvj];simp only[pF,fC];rw[wZ _ (fun i hi=>(hO.row j i k s rows none (by omega) e (by simpa using hi) (fun g e=>by cases e)).1)]
     ·rw[hvj];exact mM _ _ _
    |false=>
     rw[hb]at hl;simp only[x3,if_false]at hl;refine .inl ⟨j,on,hren,?_,hρcp id j ht' hp,kT.mp hl,fun hi=>?_,.inl ⟨ht',rfl⟩⟩
     ·rw[hvl id ht',hp];dsimp only;rw[hb];rfl
     ·rw[hO.plain j (by omega) hb];have himm':=himm.trans hi;simp only[aE,o0]at himm';refine himm'.2 _ ?_;rw[eB,hA,hX a1];exact k7 a1
   |none=>
    rw[hp]at hl;dsimp only at hl;obtain⟨a1,a2⟩:=hpnone id hp;split at hl
    ·exact hl.elim
    ·rename_i hk;refine .inr ⟨by rw[hvl id ht',hp];dsimp only;rw[if_neg hk],hρcn id ht' a1,hl,hTσ (fun hx=>a2 hx.2),?_⟩;rintro hi (hx|⟨j,i,h1,h2,h3⟩)
     ·exact hk ⟨hi,hx⟩
     ·have:=(hlodg j i h2).1;omega
 have hliveM:∀b,cA ρ0 h0 b→∃i∈σ,∃n C,ρ i=some ⟨some b,n,C⟩∧(v i).live:=by
  rintro b ⟨j,n,C,h1,h2⟩;rcases e0 j σ.length with hj|hj
  ·have hi:=hX hj;rw[hρ0 j _ hi]at h1;exact⟨_,y2 hi,n,C,h1,(hl0 j _ hi).mp h2⟩
  ·exact absurd h2 (hl0' j hj)
 have hliveM':∀b,cA ρ0 h0 b→cA ρ v b:=fun b hb=>by obtain⟨i,_,n,C,h1,h2⟩:=hliveM b hb;exact⟨i,n,C,h1,h2⟩
 have hext:iE (cA ρ v) w (cA ρc vc) w':=by
  refine⟨he.size,fun b hb hm=>he.same b hb (fun hx=>hm (hliveM' b hx)),?_,he.keeps⟩;rintro b ⟨id,n,C,h1,h2⟩;rcases src id h2 with⟨j,m,_,_,h3,h4,_⟩|⟨_,h3,h4,_⟩
  ·rw[h3]at h1;exact(he.sub b ⟨j,n,C,h1,h4⟩).imp (hliveM' b) (fun x=>x)
  ·rw[h3]at h1;exact .inl ⟨id,n,C,h1,h4⟩
 have havoid:imm=true∨∀b,av F (cA ρc vc) b→av Fl (cA ρ' v') b:=by
  cases hc:imm with
  |true=>exact .inl rfl
  |false=>
   refine .inr (fun b hb=>?_);rcases hb with hb|⟨id,n,C,h1,h2⟩
   ·exact .inl (hFl b (.inl hb) (fun g _ n C hp hl=>hh.out b ⟨g,n,C,hp,hl⟩ hb))
   ·rcases src id h2 with⟨j,m,_,_,h3,h4,_⟩|⟨_,h3,h4,h5,h6⟩
    ·rw[h3]at h1;exact .inr ⟨j,n,C,h1,h4⟩
    ·rw[h3]at h1;refine .inl (hFl b (.inr ⟨id,n,C,h1,h4⟩) (fun g hg n' C' hp hl=>?_));have:=hh.inj g id b n' C' n C hl h4 hp h1;subst this;exact hg.append.elim h5 (h6 hc)
 have hav1:∀{x:V},(imm=true→rF x=true)→((∀b,av F (cA ρc vc) b→av Fl (cA ρ' v') b)∨rF x=true):=fun hx=>havoid.elim (fun hc=>.inr (hx hc)) .inl;refine⟨ρc,vc,⟨hsub,fun id hid hid2=>hρcn id hid (fun hr=>by rw[hnew]at hid2;obtain⟨r1,r2⟩:=hr;omega),fun _=>?_,fun g hg hl=>?_,⟨γc,hop⟩,⟨?_,?_,?_,hh.low' hext,hh.out' hext⟩,hext⟩,?_⟩
 ·obtain⟨G,hG⟩:=hbd;exact⟨G+vA,fun g hg=>by rw[hρcg g (by omega)];exact hG g (by omega)⟩
 ·rcases src g hl with⟨j,m,_,_,_,h4,_,⟨h5,_⟩|⟨_,h5⟩⟩|⟨_,_,h4,_⟩
  ·omega
  ·subst h5;exact .inr (by rw[←hρ0g j hg];exact hfr j hg h4)
  ·exact .inl h4
 ·intro id p hp;by_cases ht:vA≤id
  ·rw[hρcg id ht]at hp;exact hH.wf _ _ hp
  ·by_cases hr:new id
   ·simp only[ρc]at hp;rw[if_neg ht,if_pos hr]at hp;exact hH.wf _ _ hp
   ·rw[hρcn id (by omega) hr]at hp;exact hh.wf _ _ hp
 ·intro id hl;rcases src id hl with⟨j,m,hm,h2,h3,h4,h5,_⟩|⟨h2,h3,h4,h5,_⟩
  ·obtain⟨p,hp,hb⟩:=hH.rel j h4;refine⟨p,by rw[h3];exact hp,?_⟩;rw[h2];refine tA.ren hm ?_ hb;rcases havoid with hc|hc
   ·exact .inr (h5 hc)
   ·exact .inl hc
  ·obtain⟨p,hp,hb⟩:=hh.rel id h4;refine⟨p,by rw[h3];exact hp,?_⟩;rw[h2];refine tA.mono hsub hext hb (fun b hb'=>?_);obtain⟨pb,pn,pC⟩:=p;dsimp only at hb';subst hb';refine he.same b (cA.lt hh ⟨id,pn,pC,hp,h4⟩) (fun hx=>?_);obtain⟨i,hi,n,C,h7,h8⟩:=hliveM b hx;have:=hh.inj i id b _ _ _ _ h8 h4 h7 hp;subst this;exact h5 (.inl hi)
 ·intro i i' b n C n' C' hi hi' hpi hpi';have cross:∀{j id n C n' C'},(v' j).live→ρ' j=some ⟨some b,n,C⟩→¬mV h γ σ id→(v id).live→ρ id=some ⟨some b,n',C'⟩→False:=by
   intro j id n C n' C' h1 h2 h3 h4 h5;rcases he.sub b ⟨j,n,C,h2,h1⟩with hx|hx
   ·obtain⟨i,hi,n2,C2,h6,h7⟩:=hliveM b hx;have:=hh.inj i id b _ _ _ _ h7 h4 h6 h5;subst this;exact h3 (.inl hi)
   ·have:=cA.lt hh ⟨id,n',C',h5,h4⟩;omega
  rcases src i hi with⟨j,m,_,_,h3,h4,_,h5⟩|⟨_,h3,h4,hm,_⟩<;>rcases src i' hi' with⟨j',m',_,_,h3',h4',_,h5'⟩|⟨_,h3',h4',hm',_⟩<;>rw[h3]at hpi<;>rw[h3']at hpi'
  ·have:=hH.inj j j' b _ _ _ _ h4 h4' hpi hpi';subst this;rcases h5 with⟨q1,q2⟩|⟨q1,q2⟩<;>rcases h5' with⟨q1',q2'⟩|⟨q1',q2'⟩
   ·have a1:=(hpull i j q2).2;have a2:=(hpull i' j q2').2;rw[a1]at a2;exact Option.some.inj a2
   ·have:=(hpull i j q2).1;omega
   ·have:=(hpull i' j q2').1;omega
   ·omega
  ·exact(cross h4 hpi hm' h4' hpi').elim
  ·exact(cross h4' hpi' hm h4 hpi).elim
  ·exact hh.inj i i' b _ _ _ _ h4 h4' hpi hpi'
 ·rw[hval];exact gA.ren hren _ _ (hav1 (fun hc=>by have:=himm.trans hc;simp only[aE]at this;exact this.1)) hv
theorem dn {tab:Nat→Option jB}(htab:oP P tab)(ho:gB h γ v)(hh:dA F ρ v w)(hb:Bd ρ){f:Nat}{args:List V}{vs:List Value}{out:oD}(hc:jS tab nid f args h out)(hn:∀id,nid≤id→id<nid+out.new.length→ρ id=none)(hnt:nid+out.new.length≤vA)
  (hr:eA ρ (av F (cA ρ v)) w args vs):nJ P f∧Calls P f vs.toArray w fun e w'=>∃u ρ' v',e= .returned u∧eJ F ρ v w nid out.new.length (mE h nid out) ρ' v' w'∧gA ρ' (av F (cA ρ' v')) w' out.val u:=by
 obtain⟨e,at_,σ,enc,a,h1,h2,h3,h4,h5,h6,h7,h8,⟨h10,h11,h12,h13⟩,h9⟩:=hc;have hS:=htab f e h1 _ _ a enc h4;have hσ:=cR σ h7;have hdis:∀j∈σ,j∉at_.2:=qK.mp (by rw[h8];rfl);have hσt:∀i∈σ,i<vA∧(h i).isNw=false:=fun i hi=>by unfold iM at h10;rw[o0]at h10;have:=h10 i hi;simp only[aE,p0]at this;exact⟨bB this.1,this.2⟩
 have hτt:∀i∈at_.2,i<vA:=fun i hi=>bB (o0.mp h11 i hi);have hσl:σ.length≤vA:=l8 h6 h13;have hvh:∀i∈σ,v i=h i:=fun i hi=>ho.plain i (hσt i hi).1 (hσt i hi).2
 let ρ0:vB:=fun j=>if vA≤j then ρ j else match σ[j]? with|some i=>ρ i|none=>none
 let Fl:Nat→Prop:=fun b=>av F (cA ρ v) b∧∀g,mV h γ (σ++at_.2) g→∀n C,ρ g=some ⟨some b,n,C⟩→¬(v g).live
 have hρ0:∀j i,σ[j]?=some i→ρ0 j=ρ i:=fun j i hj=>by have:=(hR.mp hj).1;simp only[ρ0,hj];rw[if_neg (by omega)]
 have hρ0':∀j,σ.length≤j→j<vA→ρ0 j=none:=fun j hj hj2=>by simp only[ρ0,hV hj];rw[if_neg (by omega)]
 have hρ0g:∀g,vA≤g→ρ0 g=ρ g:=fun g hg=>if_pos hg;have hb0:∀j i,σ[j]?=some i→kA (σ.map fun i=>pF (jF · σ 0) (h i)) j=pF (jF · σ 0) (h i):=fun j i hj=>by rw[eB,hA,l4,hj];rfl
 have hb0':∀j,σ.length≤j→kA (σ.map fun i=>pF (jF · σ 0) (h i)) j= .dead:=fun j hj=>by rw[eB,hA,l4,hV hj];rfl
 have hl0:∀j i,σ[j]?=some i→((kA (σ.map fun i=>pF (jF · σ 0) (h i)) j).live↔(v i).live):=fun j i hj=>by rw[hb0 j i hj,hvh i (y2 hj)];exact kT
 have hl0':∀j,σ.length≤j→¬(kA (σ.map fun i=>pF (jF · σ 0) (h i)) j).live:=fun j hj=>by rw[hb0' j hj];exact id
 have hren:∀i j p,jF i σ 0=some j→ρ i=some p→ρ0 j=some p:=fun i j p hj hp=>by have:=(fR σ i 0 j hj).2;rw[hρ0 j i (by simpa using this)];exact hp
 generalize hbs:(σ.map fun i=>pF (jF · σ 0) (h i))=bs at*;have hlen:bs.length=σ.length:=by subst hbs;simp
 have hlm:∀b,cA ρ0 (kA bs) b→∃i∈σ,∃n C,ρ i=some ⟨some b,n,C⟩∧(v i).live:=by
  rintro b ⟨j,n,C,g1,g2⟩;rcases e0 j σ.length with hj|hj
  ·have hi:=hX hj;rw[hρ0 j _ hi]at g1;exact⟨_,y2 hi,n,C,g1,(hl0 j _ hi).mp g2⟩
  ·exact absurd g2 (hl0' j hj)
 have hM:∀b,av Fl (cA ρ0 (kA bs)) b→av F (cA ρ v) b:=by
  rintro b (hb|hb)
  ·exact hb.1
  ·obtain⟨i,_,n,C,g1,g2⟩:=hlm b hb;exact .inr ⟨i,n,C,g1,g2⟩
 have hH:dA Fl ρ0 (kA bs) w:=by
  have hex:∀j,(kA bs j).live→∃i,σ[j]?=some i:=fun j hl=>by
   rcases e0 j σ.length with hj|hj
   ·exact⟨_,hX hj⟩
   ·exact absurd hl (hl0' j hj)
  refine⟨?_,?_,?_,?_,?_⟩
  ·intro j p hp;by_cases ht:vA≤j
   ·rw[hρ0g j ht]at hp;exact hh.wf _ _ hp
   ·rcases e0 j σ.length with hj|hj
    ·rw[hρ0 j _ (hX hj)]at hp;exact hh.wf _ _ hp
    ·rw[hρ0' j hj (by omega)]at hp;cases hp
  ·intro j hl;obtain⟨i,hi⟩:=hex j hl;obtain⟨p,hp,hb⟩:=hh.rel i ((hl0 j i hi).mp hl);refine⟨p,by rw[hρ0 j i hi];exact hp,?_⟩;rw[hb0 j i hi,←hvh i (y2 hi)];exact tA.ren hren (.inl hM) hb
  ·intro j j' b n C n' C' hl hl' hp hp';obtain⟨i,hi⟩:=hex j hl;obtain⟨i',hi'⟩:=hex j' hl';rw[hρ0 j i hi]at hp;rw[hρ0 j' i' hi']at hp';have:=hh.inj i i' b _ _ _ _ ((hl0 j i hi).mp hl) ((hl0 j' i' hi').mp hl') hp hp';subst this;have hj:j<σ.length:=(hR.mp hi).1;exact(List.getElem?_inj hj hσ).mp (by rw[hi,hi'])
  ·rintro b ⟨hb,_⟩;rcases hb with hb|hb
   ·exact hh.low b hb
   ·exact cA.lt hh hb
  ·intro b hb hf;obtain⟨i,hi,n,C,g1,g2⟩:=hlm b hb;exact hf.2 i (.inl (by simp[hi])) n C g1 g2
 have hargs:eA ρ (av Fl (cA ρ0 (kA bs))) w at_.1 vs:=by
  have:=iL (Ml:=av Fl (cA ρ0 (kA bs))) ho hh hM e.imm args vs ?_ hr
  ·rw[h2]at this;exact this
  ·rw[h2];intro g hg b n C hp hl hx;rcases hx with hx|hx
   ·exact hx.2 g (hg.mono fun j hj=>u2 _ hj) n C hp hl
   ·obtain⟨i,hi,n',C',g1,g2⟩:=hlm b hx;have:=hh.inj i g b _ _ _ _ g2 hl g1 hp;subst this;rcases hg with hg|⟨j,i',q1,q2,q3⟩
    ·exact hdis i hi hg
    ·obtain⟨k,s,rows,hole,r1,r2,r3,r4⟩:=q2;have:=(ho.row j i' k s rows hole r1 r2 r3 r4).1;have:=(hσt i hi).1;omega
 have hbd0:Bd ρ0:=by obtain⟨G,hG⟩:=hb;exact⟨G+vA,fun g hg=>by rw[hρ0g g (by omega)];exact hG g (by omega)⟩
 refine⟨hS.callable,Calls.mono (hS.calls Fl ρ0 w vs hH (fun id hid hid2=>hρ0' id (by omega) hid2) hbd0 (by omega) (eA.ren hren _ _ (.inl (fun b hb=>hb)) hargs)) ?_⟩;rintro e' w' ⟨u,he',ρ',v',g1,g2,g3,g4,g5,g6,⟨γ',g7⟩,g8,g9,g10⟩;have hnew:out.new.length=(enc a).pick.2.length-σ.length:=by rw[h9];simp[hD,yL]
 obtain⟨ρc,vc,p1,p2⟩:=dj (nid:=nid) ho hh (v0:=(enc a).pick.1) (bs0:=(enc a).pick.2) (fun id k1 k2=>hn id k1 (by omega)) (by omega) hσt hτt hσ h6 g5 (fun b hb=>o0.mp h12 b hb) hdis hρ0 hρ0' hρ0g hl0 hl0' (Fl:=Fl) (fun b k1 k2=>⟨k1,k2⟩) (fun j hj=>g1 j (by omega)) g2 g3 g4 (fun g hg hl=>g6 g hg hl) g7 g8 g9 g10;rw[←h9]at p1 p2;exact⟨u,ρc,vc,he',p1,p2⟩
end
structure wB (P:Program)(E:nD):Prop where
 ty:sC P E.ty
 tab:oP P E.tab
structure lV (E:nD)(F:Nat→Prop)(ρ:vB)(T:Nat→V)(h v:Nat→jA)(a:Act)(w:World):Prop where
 opn:iq h v
 bd:Bd ρ
 heap:dA F ρ v w
 tmps:∀t,gA ρ (av F (cA ρ v)) w (T t) (a.eval (.tmp t))
 size:a.tmps.size=E.ntmps
 defers:a.defers=[]
theorem e8 {ρ:vB}{M:Nat→Prop}{w:World}(v:Value):gA ρ M w (gV v) v:=by
 unfold gV;split
 ·rename_i cs;simp only[gA];refine⟨cs,rfl,?_⟩;generalize cs.toList=l;induction l with
  |nil=>simp[eA]
  |cons x l ih=>simp only[c0,eA,gA];exact⟨trivial,ih⟩
 ·simp only[gA]
section
variable {P:Program}{E:nD}{F:Nat→Prop}{ρ:vB}{T:Nat→V}{h v:Nat→jA}{a:Act}{w:World}
theorem lV.ev (hr:lV E F ρ T h v a w)(x:Operand):gA ρ (av F (cA ρ v)) w (nX T x) (a.eval x):=by
 cases x with
 |tmp t=>exact hr.tmps t
 |const v=>exact e8 v
 |global g=>simp only[nX,gA]
 |func f=>simp only[nX,gA,Act.eval];exact⟨#[],#[],rfl,by simp[eA],by simp[eA]⟩
theorem lV.put {ρ':vB}{h' v':Nat→jA}{w':World}(hr:lV E F ρ T h v a w)(hs:yH ρ ρ')(ho:iq h' v')(hb:Bd ρ')(hh:dA F ρ' v' w')(he:iE (cA ρ v) w (cA ρ' v') w'){d:Option Nat}(hd:fZ E.ntmps d=true){x:V}{u:Value}(hx:gA ρ' (av F (cA ρ' v')) w' x u):
  lV E F ρ' (tF T d x) h' v' (a.put d u) w':=by
 have hm:∀t,gA ρ' (av F (cA ρ' v')) w' (T t) (a.eval (.tmp t)):=fun t=>gA.mono hs he _ _ (hr.tmps t);cases d with
 |none=>exact⟨ho,hb,hh,hm,hr.size,hr.defers⟩
 |some d=>
  have hlt:d<a.tmps.size:=by rw[hr.size];exact bB hd
  refine⟨ho,hb,hh,fun t=>?_,by simp[Act.put,hr.size],hr.defers⟩;simp only[tF,Act.put,Act.eval];by_cases ht:t=d
  ·subst ht;rw[if_pos rfl,hW,Array.getElem?_setIfInBounds_self_of_lt hlt];exact hx
  ·rw[if_neg ht,hW,Array.getElem?_setIfInBounds_ne (Ne.symm ht),←hW];exact hm t
theorem j5 {all:Array Oper}(hr:lV E F ρ T h v a w){o:Oper}{b:Bool}(hw:kI all.toList T o=some b):Region.wanted o (yielded all a.tmps)=b:=by
 unfold kI at hw;unfold Region.wanted;cases hg:o.guard with
 |none=>rw[hg]at hw;simp only[Option.some.injEq]at hw;exact hw
 |some gw=>
  obtain⟨j,want⟩:=gw;rw[hg]at hw;dsimp only at hw⊢;unfold yielded;rw[y4]at hw;cases hd:(all[j]?).bind (·.dst)with
  |none=>rw[hd]at hw;cases hw
  |some g=>
   rw[hd]at hw;dsimp only at hw;have hv:=hr.tmps g;simp only[Option.bind_some];split at hw
   ·rename_i b' hb;rw[hb]at hv;simp only[gA,Act.eval]at hv;simp only[Option.some.injEq]at hw;rw[hW]at hv;cases ht:a.tmps[g]? with
    |none=>rw[ht]at hv;cases hv
    |some u=>rw[ht]at hv;simp only[j0]at hv;subst hv;rw[←hw];cases b'<;>cases want<;>rfl
   ·rename_i vs hb;rw[hb]at hv;simp only[gA,Act.eval]at hv;simp only[Option.some.injEq]at hw;rw[hW]at hv;rw[←hw];cases ht:a.tmps[g]? with
    |none=>rfl
    |some u=>rw[ht]at hv;simp only[j0]at hv;subst hv;rfl
   ·cases hw
theorem eA.map_evF {xs:List Operand}(hr:lV E F ρ T h v a w):eA ρ (av F (cA ρ v)) w (xs.map (nX T)) (xs.map a.eval):=by
 induction xs with
 |nil=>simp[eA]
 |cons x xs ih=>simp only[c0,eA];exact⟨hr.ev x,ih⟩
theorem cp {o:Oper}{f:Operand}{args:Array Operand}{ts:Array TypeId}{g:FuncId}{va vc:Array Value}(ho:o.op= .call ⟨.value f,args,ts⟩)(hf:a.eval f= .func (.func g) va vc)(hc:nJ P g):
  (execOp a.eval o).run P w= .ok (.enter g (va++args.map a.eval++vc)) w:=by
 obtain⟨fn,h1,h2,h3⟩:=hc;have h4:fn.name≠ "runtime.NumGoroutine" :=by simpa using h3
 cases hb:fn.body with
 |none=>rw[hb]at h2;cases h2
 |some c=>unfold execOp;rw[ho];simp[resolve,Deferred.ofValue,hf,invoke,callFunc,h1,h4,hb]
def tT (E:nD)(F:Nat→Prop)(len base:Nat)(ρ0:vB)(v0:Nat→jA)(w0:World)(T:Nat→V)(h:Nat→jA)(rem:List pG)(a:Act)(w:World):Prop:=
 ∃ρ v,lV E F ρ T h v a w∧(∀x∈rem,∀id,x.nid≤id→id<x.nid+mJ E.tab x.o.op→id<vA→ρ id=none)∧rem.Pairwise (fun x y=>x.nid+mJ E.tab x.o.op≤y.nid)∧
  (∀id,len≤id→id<vA→ρ id=none)∧(∀id,id<base→id<vA→ρ id=ρ0 id)∧(∀x∈rem,base≤x.nid)∧(∀g p,vA≤g→ρ0 g=some p→ρ g=some p)∧(∀g,vA≤g→(v g).live→(v0 g).live∨ρ0 g=none)∧iE (cA ρ0 v0) w0 (cA ρ v) w
theorem tT.next {len base:Nat}{ρ0:vB}{v0:Nat→jA}{w0:World}{pre post:List pG}{x:pG}(hr:lV E F ρ T h v a w)
  (h1:∀y∈pre++x::post,∀id,y.nid≤id→id<y.nid+mJ E.tab y.o.op→id<vA→ρ id=none)(h2:(pre++x::post).Pairwise (fun x y=>x.nid+mJ E.tab x.o.op≤y.nid))
  (h3:∀id,len≤id→id<vA→ρ id=none)(h4:∀id,id<base→id<vA→ρ id=ρ0 id)(h5:∀y∈pre++x::post,base≤y.nid)(h7:∀g p,vA≤g→ρ0 g=some p→ρ g=some p)(h8:∀g,vA≤g→(v g).live→(v0 g).live∨ρ0 g=none)(h6:iE (cA ρ0 v0) w0 (cA ρ v) w)
  (hd:fZ E.ntmps x.o.dst=true){out:oD}(hn:out.new.length≤mJ E.tab x.o.op)(hl:x.nid+mJ E.tab x.o.op≤len){u:Value}{w':World}{ρ':vB}{v':Nat→jA}(hp:eJ F ρ v w x.nid out.new.length (mE h x.nid out) ρ' v' w')(hv:gA ρ' (av F (cA ρ' v')) w' out.val u):
  tT E F len base ρ0 v0 w0 (tF T x.o.dst out.val) (yB h (out.wr++aH x.nid out.new)) (pre++post) (a.put x.o.dst u) w':=by
 obtain⟨p1,p2,p3,p4,p5,p6,p7⟩:=hp;rw[nH]at p5;rw[e6]at h2;obtain⟨q1,q2,q3⟩:=h2;rw[q6]at q2;refine⟨ρ',v',hr.put p1 p5 (p3 hr.bd) p6 p7 hd hv,?_,?_,?_,?_,?_,?_,?_,h6.trans p7⟩
 ·intro y hy id k1 k2 k3;rcases hN.mp hy with hy|hy
  ·have:=q3 y hy x (by simp);rw[p2 id k3 (by omega)];exact h1 y (by simp[hy]) id k1 k2 k3
  ·have:=q2.1 y hy;rw[p2 id k3 (by omega)];exact h1 y (by simp[hy]) id k1 k2 k3
 ·rw[e6];exact⟨q1,q2.2,fun y hy z hz=>q3 y hy z (by simp[hz])⟩
 ·intro id hid hid2;rw[p2 id hid2 (by omega)];exact h3 id hid hid2
 ·intro id hid hid2;have:=h5 x (by simp);rw[p2 id hid2 (by omega)];exact h4 id hid hid2
 ·intro y hy;refine h5 y ?_;simp only[hN,hF]at hy⊢;rcases hy with hy|hy<;>simp[hy]
 ·intro g p hg hp;exact p1 g p (h7 g p hg hp)
 ·intro g hg hl;rcases p4 g hg hl with q|q
  ·exact h8 g hg q
  ·refine .inr ?_;cases hr:ρ0 g with
   |none=>rfl
   |some p=>have:=h7 g p hg hr;rw[q]at this;cases this
theorem u0 (hE:wB P E){ops:Array Oper}{Q:Exit→Act→World→Prop}{len base:Nat}{ρ0:vB}{v0:Nat→jA}{w0:World}{pre post:List pG}{x:pG}{r:nP}{K:Act→World→Prop}
  (hc:eF E ops.toList len x T h r)(hI:tT E F len base ρ0 v0 w0 T h (pre++x::post) a w)(hx:ops[x.i]?=some x.o)
  (hK:∀a' w',tT E F len base ρ0 v0 w0 (tF T x.o.dst r.v) (yB h r.ups) (pre++post) a' w'→K a' w'):wpOp P ops Q x.i K a w:=by
 obtain⟨ρ,v,hr,h1,h2,h3,h4,h5,h7,h8,h6⟩:=hI;obtain⟨c1,hd,⟨hw,out,hex,rfl,hn,hl,htop,hwl⟩|⟨hw,rfl⟩⟩:=hc
 ·unfold wpOp;rw[hx];dsimp only;rw[j5 hr hw,if_pos rfl];refine .inl ?_;unfold Oper.wp;have hslot:∀id,x.nid≤id→id<x.nid+out.new.length→ρ id=none:=fun id k1 k2=>h1 x (by simp) id k1 (by omega) (by omega);obtain⟨γ,ho⟩:=hr.opn;have xJ:∀{u:Value} {w':World} {ρ':vB} {v':Nat→jA},eJ F ρ v w x.nid out.new.length (mE h x.nid out) ρ' v' w'→gA ρ' (av F (cA ρ' v')) w' out.val u→K (a.put x.o.dst u) w':=
   fun hp hv=>hK _ _ (tT.next hr h1 h2 h3 h4 h5 h7 h8 h6 hd hn hl hp hv)
  rcases hex with⟨f,args,ts,g,first,cap,e1,e2,e3⟩|hact|⟨hnone,hact,htame⟩
  ·have hf:=hr.ev f;rw[e2]at hf;simp only[gA]at hf;obtain⟨va,vc,f1,f2,f3⟩:=hf;have hargs:eA ρ (av F (cA ρ v)) w (first++(args.toList.map (nX T)++cap)) (va.toList++(args.toList.map a.eval++vc.toList)):=
    f2.append ((eA.map_evF hr).append f3)
   obtain⟨hcal,hcalls⟩:=dn hE.tab ho hr.heap hr.bd e3 hslot (by omega) hargs;rw[cp e1 f1 hcal,Oper.upon_enter];have hav:(va++args.map a.eval++vc)=(va.toList++(args.toList.map a.eval++vc.toList)).toArray:=by apply Array.toList_inj.mp;simp
   rw[hav];refine Calls.mono hcalls ?_;rintro e w' ⟨u,ρ',v',rfl,p1,p2⟩;exact xJ p1 p2
  ·obtain⟨u,w',ρ',v',hrun,p1,p2⟩:=dh (P:=P) hE.ty ho hr.heap hr.bd hr.ev hslot (by omega) (fun p hp=>by have:=hwl p hp;omega) x.o hact;rcases hrun with hrun|⟨hrun,rfl⟩
   ·rw[hrun,Oper.upon_value];exact xJ p1 p2
   ·rw[hrun,Oper.upon_skip];exact xJ p1 p2
  ·obtain⟨u,w',ρ',v',hrun,p1,p2⟩:=cd (P:=P) hE.ty ho hr.heap hr.ev hslot (by omega) x.o hact htame;rcases hrun with hrun|⟨hrun,rfl⟩
   ·rw[hrun,Oper.upon_value];exact xJ p1 p2
   ·rw[hrun,Oper.upon_skip];exact xJ p1 p2
 ·unfold wpOp;rw[hx];dsimp only;rw[j5 hr hw];simp only[x3,if_false];refine hK _ _ ⟨ρ,v,hr.put (yH.refl _) hr.opn hr.bd hr.heap (iE.refl _ _) hd (by simp only[nF,gA];rfl),?_,?_,h3,h4,?_,h7,h8,h6⟩
  ·intro y hy;refine h1 y ?_;simp only[hN,hF]at hy⊢;rcases hy with hy|hy<;>simp[hy]
  ·exact h2.sublist (List.Sublist.append_left (b8 _ _) _)
  ·intro y hy;refine h5 y ?_;simp only[hN,hF]at hy⊢;rcases hy with hy|hy<;>simp[hy]
theorem mZ (tab:Nat→Option jB):∀(ops:List Oper) (i nid:Nat),(yG tab i nid ops).map (·.i)=(List.range ops.length).map (i+ ·)
 | [],_,_=>rfl
 |o::r,i,nid=>by simp only[yG,c0,x0,x7,l7,mZ tab r];simp[Function.comp_def,Nat.add_assoc,Nat.add_comm 1]
theorem nZ (tab:Nat→Option jB):∀(ops:List Oper) (i nid:Nat),∀x∈yG tab i nid ops,i≤x.i∧ops[x.i-i]?=some x.o
 | [],_,_,x,hx=>by simp[yG]at hx
 |o::r,i,nid,x,hx=>by
  simp only[yG,hF]at hx;rcases hx with rfl|hx
  ·simp
  ·obtain⟨h1,h2⟩:=nZ tab r _ _ x hx;refine⟨by omega,?_⟩;have:x.i-i=(x.i- (i+1))+1:=by omega
   rw[this];simpa using h2
theorem xS (tab:Nat→Option jB):∀(ops:List Oper) (i nid:Nat),(∀x∈yG tab i nid ops,nid≤x.nid)∧(yG tab i nid ops).Pairwise (fun x y=>x.nid+mJ tab x.o.op≤y.nid)
 | [],_,_=>⟨by simp[yG],by simp[yG]⟩
 |o::r,i,nid=>by
  obtain⟨h1,h2⟩:=xS tab r (i+1) (nid+mJ tab o.op);simp only[yG];refine⟨fun x hx=>?_,q6.mpr ⟨fun y hy=>h1 y hy,h2⟩⟩;rcases hF.mp hx with rfl|hx
  ·exact q0 _
  ·exact l8 (Nat.le_add_right _ _) (h1 x hx)
theorem lV.heq {w':World}(hr:lV E F ρ T h v a w)(he:w'.heap=w.heap):lV E F ρ T h v a w':=
 ⟨hr.opn,hr.bd,hr.heap.heq he,fun t=>gA.world he _ _ (hr.tmps t),hr.size,hr.defers⟩
theorem p8.rows {len:Nat}{all:List Oper}:∀(L:List (pG×nP)) (T:Nat→V) (h:Nat→jA) {T':Nat→V} {h':Nat→jA},p8 E all len L T h T' h'→∀p∈L,p.2.i=p.1.i
 | [],_,_,_,_,_,p,hp=>by simp at hp
 |q::L,T,h,_,_,ht,p,hp=>by
  rcases hF.mp hp with rfl|hp
  ·exact ht.1.1
  ·exact p8.rows L _ _ ht.2 p hp
theorem sX (H:List jA)(n:Nat):kA (H++List.replicate n .dead)=kA H:=by
 funext j;rw[eB,eB];simp only[hA,zE,List.getElem?_replicate];by_cases hj:j<H.length
 ·rw[if_pos hj]
 ·rw[if_neg hj,hV (by omega)];split<;>rfl
theorem a7 (hE:wB P E)(hmix:P.follows .mixedOrders=true){id:Nat}{ops:Array Oper}{draw:Bool}{s:St}{R:Type}{k:St→Option R}{r:R}(hr:fQ E ops draw s k=some r):
  ∃s',k s'=some r∧s.H.length≤s'.H.length∧s'.H.length≤vA∧∀F ρ v a w Q,lV E F ρ (uC s.T) (kA s.H) v a w→(∀j,s.H.length≤j→j<vA→ρ j=none)→
   (∀ρ' v' a' w',lV E F ρ' (uC s'.T) (kA s'.H) v' a' w'→(∀j,s'.H.length≤j→j<vA→ρ' j=none)→(∀j,j<s.H.length→j<vA→ρ' j=ρ j)→(∀g p,vA≤g→ρ g=some p→ρ' g=some p)→(∀g,vA≤g→(v' g).live→(v g).live∨ρ g=none)→iE (cA ρ v) w (cA ρ' v') w'→Q .normal a' w')→
   (Code.region id ops draw).wp P Q a w:=by
 unfold fQ at hr;obtain⟨rs,T',H',ht,hlen,hk⟩:=zX _ _ _ _ _ _ hr;obtain⟨hok0,hk⟩:=bA hk;obtain⟨hlt,hok⟩:=oA hok0;have hlt:=wC hlt;rw[sX]at ht;obtain⟨L,l1,l2,l3⟩:=ht.pairs;simp only[l6,List.length_replicate]at hlen l3;refine⟨⟨T',H'⟩,hk,by dsimp only;omega,hlt,?_⟩;intro F ρ v a w Q hrep hnone hQ;obtain⟨n1,n2⟩:=xS E.tab ops.toList 0 s.H.length;have ho:∀p∈L,ops[p.1.i]?=some p.1.o:=by
  intro p hp;have hm:p.1∈yG E.tab 0 s.H.length ops.toList:=by rw[←l1];exact w3 hp
  have:=(nZ _ _ _ _ _ hm).2;simpa using this
 have hI:∀w2:World,w2.heap=w.heap→jE w w2→tT E F (s.H.length+jP E.tab ops.toList) s.H.length ρ v w (uC s.T) (kA s.H) (L.map (·.1)) a w2:=by intro w2 hw2 hk2;rw[l1];exact⟨ρ,v,hrep.heq hw2,fun x hx id h1 h2 h3=>hnone id (l8 (n1 x hx) h1) h3,n2,fun id hid hid2=>hnone id (by omega) hid2,fun _ _ _=>rfl,n1,fun _ _ _ h=>h,fun _ _ h=>.inl h,iE.heq hw2 hk2⟩
 have hfin:∀a' w',tT E F (s.H.length+jP E.tab ops.toList) s.H.length ρ v w (uC T') (kA H') [] a' w'→Q .normal a' w':=by rintro a' w' ⟨ρ',v',r1,_,_,r2,r3,_,r5,r6,r4⟩;exact hQ ρ' v' a' w' r1 (fun j hj hj2=>r2 j (by dsimp only at hj;omega) hj2) r3 r5 r6 r4
 have hmi:L.map (·.1.i)=List.range ops.size:=by
  have:L.map (·.1.i)=(L.map (·.1)).map (·.i):=by simp[l7,Function.comp_def]
  rw[this,l1,mZ];simp
 cases draw with
 |false=>refine wp_region ?_;rw[←hmi];exact dg (tT E F _ s.H.length ρ v w) (fun T h pre x post r a w K hc hI hx hK=>u0 hE hc hI hx hK) hfin L _ _ a w l3 (hI w rfl (.refl _)) ho
 |true=>
  simp only[n4,Bool.false_or,aE]at hok;obtain⟨⟨k1,k2⟩,k3⟩:=hok;refine wp_region_any hmix ?_;refine df (tT E F _ s.H.length ρ v w) (fun T h pre x post r a w K hc hI hx hK=>u0 hE hc hI hx hK) k1 hfin ops.size _ L _ _ a _ l3 (hI _ rfl ⟨rfl,rfl,rfl,by first|exact q0 _|exact Nat.le_succ _|exact Nat.le_add_right _ _⟩) ?_ (by simp) ?_ ho (l3.rows) ?_ ?_
  ·have:=congrArg List.length hmi;simp at this;omega
  ·rw[hmi];symm;rw[k6];intro i hi;simp only[e4]at hi;simp[hW,hi]
  ·have hp:=iJ _ k3;rw[List.append_nil,List.pairwise_reverse,←l2,l7,List.pairwise_map]at hp;exact hp
  ·intro j o hj;rw[hW]at hj;simp[Array.getElem?_replicate]at hj;split at hj<;>simp_all
end
mutual
theorem gA.agree {ρ ρ':vB}{M:Nat→Prop}{w:World}:∀(x:V) (v:Value),(∀i∈dH x,∀p,ρ i=some p→ρ' i=some p)→gA ρ M w x v→gA ρ' M w x v
 | .c _,_,_,h=>by simpa only[gA]using h
 | .poison,_,_,_=>by simp only[gA]
 | .ptr id _ _,_,hm,h=>by simp only[gA]at h⊢;obtain⟨b,n,C,h1,h2,h3⟩:=h;exact⟨b,n,C,hm id (by simp[dH]) _ h1,h2,h3⟩
 | .sw id _,_,hm,h=>by
  simp only[gA]at h⊢;obtain⟨h0,⟨b,n,C,cap,h1,h2⟩|⟨h1,h2⟩⟩:=h
  ·exact⟨h0,.inl ⟨b,n,C,cap,hm id (by simp[dH]) _ h1,h2⟩⟩
  ·exact⟨h0,.inr ⟨hm id (by simp[dH]) _ h1,h2⟩⟩
 | .sl id _ _ _,_,hm,h=>by
  simp only[gA]at h⊢;obtain⟨h0,⟨b,n,C,cap,h1,h2⟩|⟨h1,h2⟩⟩:=h
  ·exact⟨h0,.inl ⟨b,n,C,cap,hm id (by simp[dH]) _ h1,h2⟩⟩
  ·exact⟨h0,.inr ⟨h1,h2⟩⟩
 | .mref id,_,hm,h=>by simp only[gA]at h⊢;obtain⟨b,h1,h2⟩:=h;exact⟨b,hm id (by simp[dH]) _ h1,h2⟩
 | .il _ _ _,_,_,h=>by simpa only[gA]using h
 | .iv _ _,_,_,h=>by simpa only[gA]using h
 | .ilp _ _ _ _,_,_,h=>by simpa only[gA]using h
 | .ivp _ _ _ _,_,_,h=>by simpa only[gA]using h
 | .inl _ _ _,_,_,h=>by simpa only[gA]using h
 | .inlp _ _ _ _,_,_,h=>by simpa only[gA]using h
 | .lv _,_,_,h=>by simpa only[gA]using h
 | .agg cs,_,hm,h=>by simp only[gA]at h⊢;obtain⟨vs,h1,h2⟩:=h;exact⟨vs,h1,eA.agree cs _ (fun i hi=>hm i (by simpa only[dH]using hi)) h2⟩
 | .tup cs,_,hm,h=>by simp only[gA]at h⊢;obtain⟨vs,h1,h2⟩:=h;exact⟨vs,h1,eA.agree cs _ (fun i hi=>hm i (by simpa only[dH]using hi)) h2⟩
 | .fn _ a c,_,hm,h=>by simp only[gA]at h⊢;obtain⟨va,vc,h1,h2,h3⟩:=h;exact⟨va,vc,h1,eA.agree a _ (fun i hi=>hm i (by simp only[dH,hN];exact .inl hi)) h2,eA.agree c _ (fun i hi=>hm i (by simp only[dH,hN];exact .inr hi)) h3⟩
theorem eA.agree {ρ ρ':vB}{M:Nat→Prop}{w:World}:∀(x:List V) (v:List Value),(∀i∈jD x,∀p,ρ i=some p→ρ' i=some p)→eA ρ M w x v→eA ρ' M w x v
 | [],[],_,_=>by simp only[eA]
 |x::xs,v::vs,hm,h=>by simp only[eA]at h⊢;exact⟨gA.agree x v (fun i hi=>hm i (by simp only[jD,hN];exact .inl hi)) h.1,eA.agree xs vs (fun i hi=>hm i (by simp only[jD,hN];exact .inr hi)) h.2⟩
 | [],_::_,_,h=>by simp only[eA]at h
 |_::_,[],_,h=>by simp only[eA]at h
end
theorem tA.agree {ρ ρ':vB}{M:Nat→Prop}{w:World}{p:Pl}{x:jA}(hm:∀i∈oM x,∀p,ρ i=some p→ρ' i=some p)(h:tA ρ M w p x):tA ρ' M w p x:=by
 cases x with
 |dead=>trivial
 |ints k l=>exact h
 |mp k n ks vs=>exact h
 |it mid vC rem cur=>obtain⟨h1,h2,b,mb,seen,h4,h5,h6,h7⟩:=h;exact⟨h1,h2,b,mb,seen,h4,h5,fun i hi=>hm i (by subst hi;simp[oM]) _ (h6 i hi),h7⟩
 |vals cs=>
  obtain⟨h1,h2|⟨b,c,h2,h3,h4,h5⟩⟩:=h
  ·exact⟨h1,.inl h2⟩
  ·exact⟨h1,.inr ⟨b,c,h2,h3,h4,eA.agree _ _ (fun i hi=>hm i hi) h5⟩⟩
 |nw _ _ _ _=>exact h.elim
 |bls l=>exact h
theorem tA.avoid {ρ:vB}{M M':Nat→Prop}{w:World}(hM:∀b,M' b→M b){p:Pl}{x:jA}(h:tA ρ M w p x):tA ρ M' w p x:=by
 cases x with
 |dead=>trivial
 |ints k l=>exact h
 |mp k n ks vs=>exact h
 |it mid vC rem cur=>exact h
 |vals cs=>
  obtain⟨h1,h2|⟨b,c,h2,h3,h4,h5⟩⟩:=h
  ·exact⟨h1,.inl h2⟩
  ·exact⟨h1,.inr ⟨b,c,h2,h3,h4,eA.avoid hM _ _ h5⟩⟩
 |nw _ _ _ _=>exact h.elim
 |bls l=>exact h
theorem eM {l:List Nat}(h:l.isEmpty=true):∀i,i∉l:=by
 intro i hi;cases l with
 |nil=>cases hi
 |cons=>cases h
structure tO (ρ ρ':vB)(src:List (Option Nat)):Prop where
 old:∀(j id:Nat),src[j]?=some (some id)→ρ' j=ρ id
 nil:∀j:Nat,src[j]?=some none→ρ' j=some ⟨none,0,0⟩
def s8 (x:jA):Prop:=(∃k,x= .ints k [])∨∃k s,x= .nw k s [] none
def mP (a x:jA):Prop:=a.live∧((x.isNw=false∧a.isNw=false)∨∃k s rows,x= .nw k s rows none∧a=x)
theorem mP.plain {a x y:jA}(h:a=y)(h1:y.live)(h2:y.isNw=false)(h3:x.isNw=false):mP a x:=by
 subst h;exact⟨h1,.inl ⟨h3,h2⟩⟩
theorem mP.nest {a:jA}{k:IntKind}{s:Nat}{rows:List (List Int)}(h:a= .nw k s rows none):mP a (.nw k s rows none):=by
 subst h;exact⟨trivial,.inr ⟨k,s,rows,rfl,rfl⟩⟩
structure zH (h:Nat→jA)(a:sL):Prop where
 len:a.src.length=a.blks.length
 nodup:∀(i j id:Nat),a.src[i]?=some (some id)→a.src[j]?=some (some id)→i=j
 virt:∀j:Nat,a.src[j]?=some none→∃x,a.blks[j]?=some x∧s8 x
 live:∀(j id:Nat) (x:jA),a.src[j]?=some (some id)→a.blks[j]?=some x→x.live→mP (h id) x
def oG (h:Nat→jA)(ρ ρ':vB)(M:Nat→Prop)(w:World)(a:sL):Prop:=
 ∀(j id:Nat) (x:jA) (p:Pl),a.src[j]?=some (some id)→a.blks[j]?=some x→ρ id=some p→tA ρ M w p (h id)→tA ρ' M w p x
theorem tI {id:Nat}:∀(src:List (Option Nat)) (n j:Nat),dB id src n=some j→n≤j∧src[j-n]?=some (some id)
 | [],n,j,h=>by simp[dB]at h
 |some x::r,n,j,h=>by
  simp only[dB]at h;cases hb:Nat.beq x id<;>rw[hb]at h<;>simp only[cond_true,cond_false]at h
  ·obtain⟨h1,h2⟩:=tI r (n+1) j h;have:j-n=(j- (n+1))+1:=by omega
   exact⟨by omega,by rw[this];simpa using h2⟩
  ·simp only[Option.some.injEq]at h;subst h;have:=qA hb;subst this;simp
 |none::r,n,j,h=>by
  simp only[dB]at h;obtain⟨h1,h2⟩:=tI r (n+1) j h;have:j-n=(j- (n+1))+1:=by omega
  exact⟨by omega,by rw[this];simpa using h2⟩
theorem sI {id mid:Nat}(hne:mid≠id):∀(src:List (Option Nat)) (n:Nat),dB id src n=none→dB id (src++[some mid]) n=none
 | [],n,_=>by
  simp only[List.nil_append,dB];cases hb:Nat.beq mid id
  ·rfl
  ·exact absurd (qA hb) hne
 |some x::r,n,h=>by
  simp only[dB,x2]at h⊢;cases hb:Nat.beq x id<;>rw[hb]at h<;>simp only[cond_true,cond_false]at h⊢
  ·exact sI hne r (n+1) h
  ·cases h
 |none::r,n,h=>by simp only[dB,x2]at h⊢;exact sI hne r (n+1) h
theorem rI {id:Nat}:∀(src:List (Option Nat)) (n:Nat),dB id src n=none→∀j:Nat,src[j]?≠some (some id)
 | [],n,_,j=>by simp
 |some x::r,n,h,j=>by
  simp only[dB]at h;cases hb:Nat.beq x id<;>rw[hb]at h<;>simp only[cond_true,cond_false]at h
  ·cases j with
   |zero=>intro e;simp at e;subst e;simp at hb
   |succ j=>simpa using rI r _ h j
  ·cases h
 |none::r,n,h,j=>by
  simp only[dB]at h;cases j with
  |zero=>simp
  |succ j=>simpa using rI r _ h j
theorem zH.push {h:Nat→jA}{a:sL}(ha:zH h a){id:Nat}{x:jA}(hf:dB id a.src 0=none)(hx:x.live→mP (h id) x):zH h ⟨a.src++[some id],a.blks++[x]⟩:=by
 have hno:=rI _ _ hf;refine⟨by simp[ha.len],?_,?_,?_⟩
 ·intro i j id' hi hj;dsimp only at hi hj;rw[zE]at hi hj;split at hi<;>split at hj
  ·exact ha.nodup i j id' hi hj
  ·rw[hB]at hj;split at hj
   ·simp only[Option.some.injEq]at hj;subst hj;exact absurd hi (hno i)
   ·cases hj
  ·rw[hB]at hi;split at hi
   ·simp only[Option.some.injEq]at hi;subst hi;exact absurd hj (hno j)
   ·cases hi
  ·rw[hB]at hi hj;split at hi<;>split at hj<;>first|omega|(cases hi;done)|(cases hj;done)
 ·intro j hj;dsimp only at hj⊢;rw[zE]at hj;split at hj
  ·rename_i hlt;obtain⟨k,hk,hho⟩:=ha.virt j hj;exact⟨k,by rw[hZ (by rw[←ha.len];exact hlt)];exact hk,hho⟩
  ·rw[hB]at hj;split at hj<;>simp at hj
 ·intro j id' y hj hy hl;dsimp only at hj hy;rw[zE]at hj hy;rw[←ha.len]at hy;split at hj
  ·rename_i hlt;rw[if_pos hlt]at hy;exact ha.live j id' y hj hy hl
  ·rename_i hge;rw[if_neg hge]at hy;rw[hB]at hj hy;split at hj
   ·rename_i h0;rw[if_pos h0]at hy;simp only[Option.some.injEq]at hj hy;subst hj;subst hy;exact hx hl
   ·cases hj
theorem oG.push {h:Nat→jA}{ρ ρ':vB}{M:Nat→Prop}{w:World}{a:sL}(ha:zH h a)(hb:oG h ρ ρ' M w a){id:Nat}{x:jA}(hx:∀p,tA ρ M w p (h id)→tA ρ' M w p x):oG h ρ ρ' M w ⟨a.src++[some id],a.blks++[x]⟩:=by
 intro j id' y p hj hy hp hr;dsimp only at hj hy;rw[zE]at hj hy;rw[←ha.len]at hy;split at hj
 ·rename_i hlt;rw[if_pos hlt]at hy;exact hb j id' y p hj hy hp hr
 ·rename_i hge;rw[if_neg hge]at hy;rw[hB]at hj hy;split at hj
  ·rename_i h0;rw[if_pos h0]at hy;simp only[Option.some.injEq]at hj hy;subst hj;subst hy;exact hx p hr
  ·cases hj
theorem tO.pre {ρ ρ':vB}{src more:List (Option Nat)}(hc:tO ρ ρ' (src++more)):tO ρ ρ' src:=by
 refine⟨fun j id hj=>hc.old j id ?_,fun j hj=>hc.nil j ?_⟩<;>
 ·have:j<src.length:=(hR.mp hj).1;rw[hZ this];exact hj
def HB (h:Nat→jA)(ρ:vB)(M:Nat→Prop)(w:World):Prop:=∀id p,(h id).live→(h id).isNw=false→ρ id=some p→tA ρ M w p (h id)
def sE (h:Nat→jA)(a a':sL)(Rn:vB→vB→(Nat→Prop)→World→Prop):Prop:=
 (∃more,a'.src=a.src++more)∧(zH h a→zH h a'∧∀ρ ρ' M w,HB h ρ M w→tO ρ ρ' a'.src→oG h ρ ρ' M w a→oG h ρ ρ' M w a'∧Rn ρ ρ' M w)
def ma (v v':V)(ρ ρ':vB)(M:Nat→Prop)(w:World):Prop:=∀u,gA ρ M w v u→gA ρ' M w v' u
def lz (v v':List V)(ρ ρ':vB)(M:Nat→Prop)(w:World):Prop:=∀u,eA ρ M w v u→eA ρ' M w v' u
theorem sE.same {h:Nat→jA}{a:sL}{Rn:vB→vB→(Nat→Prop)→World→Prop}(hr:∀ρ ρ' M w,tO ρ ρ' a.src→Rn ρ ρ' M w):sE h a a Rn:=
 ⟨⟨[],by simp⟩,fun ha=>⟨ha,fun ρ ρ' M w _ hc hb=>⟨hb,hr ρ ρ' M w hc⟩⟩⟩
theorem sE.new {h:Nat→jA}{a:sL}{id:Nat}{x:jA}{Rn:vB→vB→(Nat→Prop)→World→Prop}(hf:dB id a.src 0=none)(hx:x.live→mP (h id) x)(hb:∀ρ ρ' M w p,tA ρ M w p (h id)→tA ρ' M w p x)
  (hr:∀(ρ ρ':vB) M w,ρ' a.src.length=ρ id→Rn ρ ρ' M w):sE h a ⟨a.src++[some id],a.blks++[x]⟩ Rn:=
 ⟨⟨[some id],rfl⟩,fun ha=>⟨ha.push hf hx,fun ρ ρ' M w _ hc hk=>⟨hk.push ha (hb ρ ρ' M w),hr ρ ρ' M w (hc.old a.src.length id (by simp))⟩⟩⟩
theorem sE.sameq {h:Nat→jA}{a:sL}{Rn:vB→vB→(Nat→Prop)→World→Prop}(hr:∀ρ ρ' M w,HB h ρ M w→tO ρ ρ' a.src→Rn ρ ρ' M w):sE h a a Rn:=
 ⟨⟨[],by simp⟩,fun ha=>⟨ha,fun ρ ρ' M w hq hc hb=>⟨hb,hr ρ ρ' M w hq hc⟩⟩⟩
theorem sE.newq {h:Nat→jA}{a:sL}{id:Nat}{x:jA}{Rn:vB→vB→(Nat→Prop)→World→Prop}(hf:dB id a.src 0=none)(hx:x.live→mP (h id) x)(hb:∀ρ ρ' M w p,tA ρ M w p (h id)→tA ρ' M w p x)
  (hr:∀(ρ ρ':vB) M w,HB h ρ M w→ρ' a.src.length=ρ id→Rn ρ ρ' M w):sE h a ⟨a.src++[some id],a.blks++[x]⟩ Rn:=
 ⟨⟨[some id],rfl⟩,fun ha=>⟨ha.push hf hx,fun ρ ρ' M w hq hc hk=>⟨hk.push ha (hb ρ ρ' M w),hr ρ ρ' M w hq (hc.old a.src.length id (by simp))⟩⟩⟩
theorem u3 {h:Nat→jA}{ρ ρ':vB}{M:Nat→Prop}{w:World}{id j s:Nat}{k:IntKind}{l:List Int}(hid:h id= .ints k l)(hq:HB h ρ M w)(he:ρ' j=ρ id){u:Value}(hr:gA ρ M w (.sw id s) u):gA ρ' M w (.sl j s 0 (vC s l.length)) u:=by
 have hl:∀p,ρ id=some p→l.length=p.n:=fun p hp=>by have:=hq id p (by rw[hid];trivial) (by rw[hid];rfl) hp;rw[hid]at this;exact this.1
 simp only[gA]at hr⊢;obtain⟨h0,⟨b,n,C,cap,h1,h2,h3,h4,h5⟩|⟨h1,h2⟩⟩:=hr
 ·have e1:l.length=n:=hl _ h1;have hn:n/s*s=n:=Nat.div_mul_cancel (c8 h2);refine⟨h0,.inl ⟨b,n,C,cap,by rw[he];exact h1,?_,?_,by omega,?_⟩⟩
  ·rw[iD,e1];omega
  ·rw[iD,e1];exact h3
  ·rw[iD,e1];exact h5
 ·have e1:l.length=0:=hl _ h1;exact⟨h0,.inr ⟨by rw[iD,e1];simp,none,h2⟩⟩
theorem gA.ptr_name {ρ ρ':vB}{M:Nat→Prop}{w:World}{id j off ext:Nat}(h:ρ' j=ρ id){u:Value}(hr:gA ρ M w (.ptr id off ext) u):gA ρ' M w (.ptr j off ext) u:=by
 simp only[gA]at hr⊢;rw[h];exact hr
theorem gA.mref_name {ρ ρ':vB}{M:Nat→Prop}{w:World}{id j:Nat}(h:ρ' j=ρ id){u:Value}(hr:gA ρ M w (.mref id) u):gA ρ' M w (.mref j) u:=by
 simp only[gA]at hr⊢;rw[h];exact hr
theorem gA.sw_name {ρ ρ':vB}{M:Nat→Prop}{w:World}{id j s:Nat}(h:ρ' j=ρ id){u:Value}(hr:gA ρ M w (.sw id s) u):gA ρ' M w (.sw j s) u:=by
 simp only[gA]at hr⊢;rw[h];exact hr
theorem gA.sl_name {ρ ρ':vB}{M:Nat→Prop}{w:World}{id j s off len:Nat}(h:ρ' j=ρ id){u:Value}(hr:gA ρ M w (.sl id s off len) u):gA ρ' M w (.sl j s off len) u:=by
 simp only[gA]at hr⊢;rw[h];exact hr
theorem bG {ρ ρ':vB}{M:Nat→Prop}{w:World}{p:Pl}{k:IntKind}{l:List Int}(h:tA ρ M w p (.ints k l)):tA ρ' M w p (.ints k l):=h
theorem eZ {ρ ρ':vB}{M:Nat→Prop}{w:World}{p:Pl}{l:List Bool}(h:tA ρ M w p (.bls l)):tA ρ' M w p (.bls l):=h
theorem n9 {ρ ρ':vB}{M:Nat→Prop}{w:World}{p:Pl}{k:IntKind}{n:Nat}{ks:List (List Int)}{vs:lJ}(h:tA ρ M w p (.mp k n ks vs)):tA ρ' M w p (.mp k n ks vs):=h
theorem j9 {ρ ρ':vB}{M:Nat→Prop}{w:World}{p:Pl}{mid j vC:Nat}{rem:List Nat}{cur:Nat}(hj:ρ' j=ρ mid)(h:tA ρ M w p (.it (some mid) vC rem cur)):tA ρ' M w p (.it (some j) vC rem cur):=by
 obtain⟨h1,h2,b,mb,seen,h4,h5,h6,h7⟩:=h;refine⟨h1,h2,b,mb,seen,h4,h5,fun i hi=>?_,h7⟩;simp only[Option.some.injEq]at hi;subst hi;rw[hj];exact h6 mid rfl
theorem vP {ρ ρ':vB}{M:Nat→Prop}{w:World}{p:Pl}{cs:List V}(hc:(jD cs).isEmpty=true)(h:tA ρ M w p (.vals cs)):tA ρ' M w p (.vals cs):=
 h.agree (fun i hi=>absurd hi (eM hc i))
theorem jH {ρ ρ':vB}{src:List (Option Nat)}{id j:Nat}(hf:dB id src 0=some j)(hc:tO ρ ρ' src):ρ' j=ρ id:=hc.old j id (by have:=(tI src 0 j hf).2;simpa using this)
theorem lC:∀(H:List jA) (i j:Nat) (x:jA),i<H.length→(qB H i x)[j]?=if j=i then some x else H[j]?
 | [],_,_,_,h=>by simp at h
 |b::r,0,0,x,_=>by simp[qB]
 |b::r,0,j+1,x,_=>by simp[qB]
 |b::r,n+1,0,x,_=>by simp[qB]
 |b::r,n+1,j+1,x,h=>by simp[qB,lC r n j x (by simpa using h)]
theorem fU {ρ ρ':vB}{M:Nat→Prop}{w:World}{src:List (Option Nat)}(hc:tO ρ ρ' src):∀(vs vs':List V),y5 src vs=some vs'→∀us:List Value,eA ρ M w vs us→eA ρ' M w vs' us
 | [],vs',hs,us,hr=>by simp only[y5,Option.some.injEq]at hs;subst hs;cases us<;>simp_all[eA]
 |v::r,vs',hs,us,hr=>by
  cases us with
  |nil=>simp only[eA]at hr
  |cons u us=>
   cases v<;>simp only[y5]at hs<;>try cases hs
   split at hs
   ·rename_i j r' hf hr';simp only[Option.some.injEq]at hs;subst hs;simp only[eA]at hr⊢;exact⟨hr.1.ptr_name (jH hf hc),fU hc r r' hr' us hr.2⟩
   ·cases hs
theorem af {h:Nat→jA}{k:IntKind}{s:Nat}{v:V}{a:sL}{v':V}{a':sL}(hs:ad h k s v a=some (v',a')):sE h a a' (ma v v'):=by
 unfold ad at hs;split at hs
 ·simp only[Option.some.injEq,Prod.mk.injEq]at hs;obtain⟨rfl,rfl⟩:=hs;exact .same (fun ρ ρ' M w hc u hr=>by simpa only[gA]using hr)
 ·rename_i id s';obtain⟨h0,h2⟩:=bA hs;clear hs;have hs:=h2;clear h2;have h3:=qA h0;clear h0;subst h3;split at hs
  ·rename_i j hf;simp only[Option.some.injEq,Prod.mk.injEq]at hs;obtain⟨rfl,rfl⟩:=hs;exact .same (fun ρ ρ' M w hc u hr=>hr.sw_name (jH hf hc))
  ·rename_i hf;split at hs
   ·rename_i k' l hid;obtain⟨h1,hs⟩:=bA hs;simp only[Option.some.injEq,Prod.mk.injEq]at hs;obtain⟨rfl,rfl⟩:=hs;exact .new hf (fun _=>.plain hid trivial rfl rfl) (fun ρ ρ' M w p hb=>by rw[hid]at hb;exact bG hb) (fun ρ ρ' M w he u hr=>hr.sw_name he)
   ·cases hs
 ·cases hs
theorem sS {h:Nat→jA}{k:IntKind}{s:Nat}:∀(vs:List V) (a:sL) (vs':List V) (a':sL),aQ h k s vs a=some (vs',a')→sE h a a' (lz vs vs')
 | [],a,vs',a',hs=>by simp only[aQ,Option.some.injEq,Prod.mk.injEq]at hs;obtain⟨rfl,rfl⟩:=hs;exact .same (fun ρ ρ' M w hc u hr=>by cases u<;>simp_all[eA])
 |v::vs,a,vs',a',hs=>by
  unfold aQ at hs;split at hs
  ·rename_i v1 a1 h1;split at hs
   ·rename_i vs1 a2 h2;simp only[Option.some.injEq,Prod.mk.injEq]at hs;obtain⟨rfl,rfl⟩:=hs;obtain⟨⟨m1,e1⟩,k1⟩:=af h1;obtain⟨⟨m2,e2⟩,k2⟩:=sS vs a1 vs1 a2 h2;refine⟨⟨m1++m2,by rw[e2,e1,j1]⟩,fun ha=>?_⟩;obtain⟨p1,p2⟩:=k1 ha;obtain⟨q1,q2⟩:=k2 p1;refine⟨q1,fun ρ ρ' M w hq hc hb=>?_⟩;obtain⟨r1,r2⟩:=p2 ρ ρ' M w hq (by rw[e2]at hc;exact hc.pre) hb;obtain⟨t1,t2⟩:=q2 ρ ρ' M w hq hc r1;refine⟨t1,fun u hr=>?_⟩;cases u with
    |nil=>simp only[eA]at hr
    |cons u us=>simp only[eA]at hr⊢;exact⟨r2 u hr.1,t2 us hr.2⟩
   ·cases hs
  ·cases hs
mutual
theorem ct {h:Nat→jA}:∀(sh:Sh) (v:V) (a:sL) (v':V) (a':sL),pH h sh v a=some (v',a')→sE h a a' (ma v v')
 | .any,v,a,v',a',hs=>by
  unfold pH at hs;cases hc:(dH v).isEmpty<;>rw[hc]at hs<;>simp only[cond_true,cond_false]at hs
  ·split at hs
   ·rename_i id off ext;split at hs
    ·rename_i j hf;simp only[Option.some.injEq,Prod.mk.injEq]at hs;obtain⟨rfl,rfl⟩:=hs;exact .same (fun ρ ρ' M w hc u hr=>hr.ptr_name (jH hf hc))
    ·rename_i hf;split at hs
     ·rename_i k l hid;simp only[Option.some.injEq,Prod.mk.injEq]at hs;obtain⟨rfl,rfl⟩:=hs;exact .new hf (fun _=>.plain hid trivial rfl rfl) (fun ρ ρ' M w p hb=>by rw[hid]at hb;exact bG hb) (fun ρ ρ' M w he u hr=>hr.ptr_name he)
     ·rename_i l hid;simp only[Option.some.injEq,Prod.mk.injEq]at hs;obtain⟨rfl,rfl⟩:=hs;exact .new hf (fun _=>.plain hid trivial rfl rfl) (fun ρ ρ' M w p hb=>by rw[hid]at hb;exact eZ hb) (fun ρ ρ' M w he u hr=>hr.ptr_name he)
     ·rename_i cs hid;obtain⟨h1,h2⟩:=bA hs;simp only[Option.some.injEq,Prod.mk.injEq]at h2;obtain⟨rfl,rfl⟩:=h2;exact .new hf (fun _=>.plain hid trivial rfl rfl) (fun ρ ρ' M w p hb=>by rw[hid]at hb;exact vP h1 hb) (fun ρ ρ' M w he u hr=>hr.ptr_name he)
     ·cases hs
     ·cases hs
     ·cases hs
     ·rename_i mid vC rem cur hid;split at hs
      ·rename_i j hfm;simp only[Option.some.injEq,Prod.mk.injEq]at hs;obtain⟨rfl,rfl⟩:=hs;refine⟨⟨[some id],rfl⟩,fun ha=>⟨ha.push hf (fun _=>.plain hid trivial rfl rfl),fun ρ ρ' M w _ hc hk=>⟨hk.push ha (fun p hb=>by rw[hid]at hb;exact j9 (jH hfm hc.pre) hb),fun u hr=>hr.ptr_name (hc.old a.src.length id (by simp))⟩⟩⟩
      ·rename_i hfm;split at hs
       ·rename_i k n ks vs hmid;simp only[Option.some.injEq,Prod.mk.injEq]at hs;obtain⟨rfl,rfl⟩:=hs;have hne:mid≠id:=by rintro rfl;rw[hid]at hmid;cases hmid
        have hf2:dB id (a.src++[some mid]) 0=none:=sI hne _ _ hf;refine⟨⟨[some mid]++[some id],by simp⟩,fun ha=>?_⟩;have ha1:zH h ⟨a.src++[some mid],a.blks++[.mp k n ks vs]⟩:=ha.push hfm (fun _=>.plain hmid trivial rfl rfl);refine⟨ha1.push hf2 (fun _=>.plain hid trivial rfl rfl),fun ρ ρ' M w _ hc hk=>⟨?_,fun u hr=>hr.ptr_name (hc.old (a.src.length+1) id (by simp))⟩⟩;have hk1:oG h ρ ρ' M w ⟨a.src++[some mid],a.blks++[.mp k n ks vs]⟩:=hk.push ha (fun p hb=>by rw[hmid]at hb;exact n9 hb);exact hk1.push ha1 (fun p hb=>by rw[hid]at hb;exact j9 (hc.old a.src.length mid (by simp)) hb)
       ·cases hs
     ·cases hs
   ·rename_i id s;split at hs
    ·rename_i j hf;simp only[Option.some.injEq,Prod.mk.injEq]at hs;obtain⟨rfl,rfl⟩:=hs;exact .same (fun ρ ρ' M w hc u hr=>hr.sw_name (jH hf hc))
    ·rename_i hf;split at hs
     ·rename_i k l hid;simp only[Option.some.injEq,Prod.mk.injEq]at hs;obtain⟨rfl,rfl⟩:=hs;exact .new hf (fun _=>.plain hid trivial rfl rfl) (fun ρ ρ' M w p hb=>by rw[hid]at hb;exact bG hb) (fun ρ ρ' M w he u hr=>hr.sw_name he)
     ·rename_i l hid;simp only[Option.some.injEq,Prod.mk.injEq]at hs;obtain⟨rfl,rfl⟩:=hs;exact .new hf (fun _=>.plain hid trivial rfl rfl) (fun ρ ρ' M w p hb=>by rw[hid]at hb;exact eZ hb) (fun ρ ρ' M w he u hr=>hr.sw_name he)
     ·rename_i cs hid;obtain⟨h1,h2⟩:=bA hs;simp only[Option.some.injEq,Prod.mk.injEq]at h2;obtain⟨rfl,rfl⟩:=h2;exact .new hf (fun _=>.plain hid trivial rfl rfl) (fun ρ ρ' M w p hb=>by rw[hid]at hb;exact vP h1 hb) (fun ρ ρ' M w he u hr=>hr.sw_name he)
     ·rename_i k s0 rows hole hid;cases hole with
      |some _=>cases hs
      |none=>
      simp only[Option.some.injEq,Prod.mk.injEq]at hs;obtain⟨rfl,rfl⟩:=hs;exact .new hf (fun _=>.nest hid) (fun ρ ρ' M w p hb=>by rw[hid]at hb;exact hb.elim) (fun ρ ρ' M w he u hr=>hr.sw_name he)
     ·cases hs
     ·cases hs
     ·cases hs
   ·rename_i id s off len;split at hs
    ·rename_i j hf;simp only[Option.some.injEq,Prod.mk.injEq]at hs;obtain⟨rfl,rfl⟩:=hs;exact .same (fun ρ ρ' M w hc u hr=>hr.sl_name (jH hf hc))
    ·rename_i hf;split at hs
     ·rename_i k l hid;simp only[Option.some.injEq,Prod.mk.injEq]at hs;obtain⟨rfl,rfl⟩:=hs;exact .new hf (fun _=>.plain hid trivial rfl rfl) (fun ρ ρ' M w p hb=>by rw[hid]at hb;exact bG hb) (fun ρ ρ' M w he u hr=>hr.sl_name he)
     ·cases hs
     ·rename_i cs hid;obtain⟨h1,h2⟩:=bA hs;simp only[Option.some.injEq,Prod.mk.injEq]at h2;obtain⟨rfl,rfl⟩:=h2;exact .new hf (fun _=>.plain hid trivial rfl rfl) (fun ρ ρ' M w p hb=>by rw[hid]at hb;exact vP h1 hb) (fun ρ ρ' M w he u hr=>hr.sl_name he)
     ·cases hs
     ·cases hs
     ·cases hs
     ·cases hs
   ·rename_i id;split at hs
    ·rename_i j hf;simp only[Option.some.injEq,Prod.mk.injEq]at hs;obtain⟨rfl,rfl⟩:=hs;exact .same (fun ρ ρ' M w hc u hr=>hr.mref_name (jH hf hc))
    ·rename_i hf;split at hs
     ·rename_i k n ks vs hid;simp only[Option.some.injEq,Prod.mk.injEq]at hs;obtain⟨rfl,rfl⟩:=hs;exact .new hf (fun _=>.plain hid trivial rfl rfl) (fun ρ ρ' M w p hb=>by rw[hid]at hb;exact n9 hb) (fun ρ ρ' M w he u hr=>hr.mref_name he)
     ·cases hs
   ·rename_i f va vc;split at hs
    ·rename_i va' vc' ha hc;simp only[Option.some.injEq,Prod.mk.injEq]at hs;obtain⟨rfl,rfl⟩:=hs;refine .same (fun ρ ρ' M w hcons u hr=>?_);simp only[gA]at hr⊢;obtain⟨ua,uc,h1,h2,h3⟩:=hr;exact⟨ua,uc,h1,fU hcons va va' ha _ h2,fU hcons vc vc' hc _ h3⟩
    ·cases hs
   ·cases hs
  ·simp only[Option.some.injEq,Prod.mk.injEq]at hs;obtain⟨rfl,rfl⟩:=hs;exact .same (fun ρ ρ' M w _ u hr=>hr.agree _ _ (fun i hi=>absurd hi (eM hc i)))
 | .row k s,v,a,v',a',hs=>by
  unfold pH at hs;split at hs
  ·obtain⟨h0,hs⟩:=bA hs;have h0:=bB h0;simp only[Option.some.injEq,Prod.mk.injEq]at hs;obtain⟨rfl,rfl⟩:=hs;refine⟨⟨[none],rfl⟩,fun ha=>⟨⟨by simp[ha.len],?_,?_,?_⟩,fun ρ ρ' M w hq hc hb=>⟨?_,?_⟩⟩⟩
   ·intro i j id hi hj;dsimp only at hi hj;rw[zE]at hi hj;split at hi<;>split at hj<;>first
     |exact ha.nodup i j id hi hj
     |(rw[hB]at hi;split at hi<;>simp at hi)
     |(rw[hB]at hj;split at hj<;>simp at hj)
   ·intro j hj;dsimp only at hj⊢;rw[zE]at hj;split at hj
    ·rename_i hlt;obtain⟨k,hk,hho⟩:=ha.virt j hj;exact⟨k,by rw[hZ (by rw[←ha.len];exact hlt)];exact hk,hho⟩
    ·rename_i hge;rw[hB]at hj;split at hj
     ·refine⟨.ints k [],?_,.inl ⟨k,rfl⟩⟩;rw[n0 (by rw[←ha.len];omega),←ha.len];have:j-a.src.length=0:=by omega
      rw[this];rfl
     ·cases hj
   ·intro j id x hj hx hl;dsimp only at hj hx;rw[zE]at hj hx;rw[←ha.len]at hx;split at hj
    ·rename_i hlt;rw[if_pos hlt]at hx;exact ha.live j id x hj hx hl
    ·rw[hB]at hj;split at hj<;>simp at hj
   ·intro j id x p hj hx hp hr;dsimp only at hj hx;rw[zE]at hj hx;rw[←ha.len]at hx;split at hj
    ·rename_i hlt;rw[if_pos hlt]at hx;exact hb j id x p hj hx hp hr
    ·rw[hB]at hj;split at hj<;>simp at hj
   ·intro u hr;simp only[gA]at hr⊢;exact⟨h0,.inr ⟨hc.nil a.src.length (by simp),hr⟩⟩
  ·rename_i id s';obtain⟨h0,h2⟩:=bA hs;clear hs;have hs:=h2;clear h2;have h3:=qA h0;clear h0;subst h3;split at hs
   ·rename_i j hf;simp only[Option.some.injEq,Prod.mk.injEq]at hs;obtain⟨rfl,rfl⟩:=hs;exact .same (fun ρ ρ' M w hc u hr=>hr.sw_name (jH hf hc))
   ·rename_i hf;split at hs
    ·rename_i k' l hid;obtain⟨h1,hs⟩:=bA hs;simp only[Option.some.injEq,Prod.mk.injEq]at hs;obtain⟨rfl,rfl⟩:=hs;exact .new hf (fun _=>.plain hid trivial rfl rfl) (fun ρ ρ' M w p hb=>by rw[hid]at hb;exact bG hb) (fun ρ ρ' M w he u hr=>hr.sw_name he)
    ·cases hs
  ·cases hs
 | .nrow k s,v,a,v',a',hs=>by
  unfold pH at hs;split at hs
  ·have h0:0<1:=Nat.one_pos;simp only[Option.some.injEq,Prod.mk.injEq]at hs;obtain⟨rfl,rfl⟩:=hs;refine⟨⟨[none],rfl⟩,fun ha=>⟨⟨by simp[ha.len],?_,?_,?_⟩,fun ρ ρ' M w hq hc hb=>⟨?_,?_⟩⟩⟩
   ·intro i j id hi hj;dsimp only at hi hj;rw[zE]at hi hj;split at hi<;>split at hj<;>first
     |exact ha.nodup i j id hi hj
     |(rw[hB]at hi;split at hi<;>simp at hi)
     |(rw[hB]at hj;split at hj<;>simp at hj)
   ·intro j hj;dsimp only at hj⊢;rw[zE]at hj;split at hj
    ·rename_i hlt;obtain⟨k,hk,hho⟩:=ha.virt j hj;exact⟨k,by rw[hZ (by rw[←ha.len];exact hlt)];exact hk,hho⟩
    ·rename_i hge;rw[hB]at hj;split at hj
     ·refine⟨.nw k s [] none,?_,.inr ⟨k,s,rfl⟩⟩;rw[n0 (by rw[←ha.len];omega),←ha.len];have:j-a.src.length=0:=by omega
      rw[this];rfl
     ·cases hj
   ·intro j id x hj hx hl;dsimp only at hj hx;rw[zE]at hj hx;rw[←ha.len]at hx;split at hj
    ·rename_i hlt;rw[if_pos hlt]at hx;exact ha.live j id x hj hx hl
    ·rw[hB]at hj;split at hj<;>simp at hj
   ·intro j id x p hj hx hp hr;dsimp only at hj hx;rw[zE]at hj hx;rw[←ha.len]at hx;split at hj
    ·rename_i hlt;rw[if_pos hlt]at hx;exact hb j id x p hj hx hp hr
    ·rw[hB]at hj;split at hj<;>simp at hj
   ·intro u hr;simp only[gA]at hr⊢;exact⟨h0,.inr ⟨hc.nil a.src.length (by simp),hr⟩⟩
  ·rename_i id s';obtain⟨h0,h2⟩:=bA hs;clear hs;have hs:=h2;clear h2;have h3:=qA h0;clear h0;subst h3;split at hs
   ·rename_i j hf;simp only[Option.some.injEq,Prod.mk.injEq]at hs;obtain⟨rfl,rfl⟩:=hs;exact .same (fun ρ ρ' M w hc u hr=>hr.sw_name (jH hf hc))
   ·rename_i hf;split at hs
    ·rename_i k' s2 l hid;obtain⟨h1,hs⟩:=bA hs;simp only[Option.some.injEq,Prod.mk.injEq]at hs;obtain⟨rfl,rfl⟩:=hs;exact .new hf (fun _=>.nest hid) (fun ρ ρ' M w p hb=>by rw[hid]at hb;exact hb.elim) (fun ρ ρ' M w he u hr=>hr.sw_name he)
    ·cases hs
  ·cases hs
 | .part k s,v,a,v',a',hs=>by
  unfold pH at hs;split at hs
  ·obtain⟨h0,hs⟩:=bA hs;have h0:=bB h0;simp only[Option.some.injEq,Prod.mk.injEq]at hs;obtain⟨rfl,rfl⟩:=hs;refine⟨⟨[none],rfl⟩,fun ha=>⟨⟨by simp[ha.len],?_,?_,?_⟩,fun ρ ρ' M w hq hc hb=>⟨?_,?_⟩⟩⟩
   ·intro i j id hi hj;dsimp only at hi hj;rw[zE]at hi hj;split at hi<;>split at hj<;>first
     |exact ha.nodup i j id hi hj
     |(rw[hB]at hi;split at hi<;>simp at hi)
     |(rw[hB]at hj;split at hj<;>simp at hj)
   ·intro j hj;dsimp only at hj⊢;rw[zE]at hj;split at hj
    ·rename_i hlt;obtain⟨k,hk,hho⟩:=ha.virt j hj;exact⟨k,by rw[hZ (by rw[←ha.len];exact hlt)];exact hk,hho⟩
    ·rename_i hge;rw[hB]at hj;split at hj
     ·refine⟨.ints k [],?_,.inl ⟨k,rfl⟩⟩;rw[n0 (by rw[←ha.len];omega),←ha.len];have:j-a.src.length=0:=by omega
      rw[this];rfl
     ·cases hj
   ·intro j id x hj hx hl;dsimp only at hj hx;rw[zE]at hj hx;rw[←ha.len]at hx;split at hj
    ·rename_i hlt;rw[if_pos hlt]at hx;exact ha.live j id x hj hx hl
    ·rw[hB]at hj;split at hj<;>simp at hj
   ·intro j id x p hj hx hp hr;dsimp only at hj hx;rw[zE]at hj hx;rw[←ha.len]at hx;split at hj
    ·rename_i hlt;rw[if_pos hlt]at hx;exact hb j id x p hj hx hp hr
    ·rw[hB]at hj;split at hj<;>simp at hj
   ·intro u hr;simp only[gA]at hr⊢;exact⟨h0,.inr ⟨trivial,none,hr⟩⟩
  ·rename_i id s';obtain⟨h0,h2⟩:=bA hs;clear hs;have hs:=h2;clear h2;have h3:=qA h0;clear h0;subst h3;split at hs
   ·rename_i k' l hid;obtain⟨h1,hs2⟩:=bA hs;clear hs;have hs:=hs2;clear hs2;split at hs
    ·rename_i j hf;simp only[Option.some.injEq,Prod.mk.injEq]at hs;obtain⟨rfl,rfl⟩:=hs;exact .sameq (fun ρ ρ' M w hq hc u hr=>u3 hid hq (jH hf hc) hr)
    ·rename_i hf;simp only[Option.some.injEq,Prod.mk.injEq]at hs;obtain⟨rfl,rfl⟩:=hs;exact .newq hf (fun _=>.plain hid trivial rfl rfl) (fun ρ ρ' M w p hb=>by rw[hid]at hb;exact bG hb) (fun ρ ρ' M w hq he u hr=>u3 hid hq he hr)
   ·cases hs
  ·rename_i id s' off len;obtain⟨h0,h2⟩:=bA hs;clear hs;have hs:=h2;clear h2;split at hs
   ·rename_i k' l hid;obtain⟨h1,hs2⟩:=bA hs;clear hs;have hs:=hs2;clear hs2;split at hs
    ·rename_i j hf;simp only[Option.some.injEq,Prod.mk.injEq]at hs;obtain⟨rfl,rfl⟩:=hs;exact .same (fun ρ ρ' M w hc u hr=>hr.sl_name (jH hf hc))
    ·rename_i hf;simp only[Option.some.injEq,Prod.mk.injEq]at hs;obtain⟨rfl,rfl⟩:=hs;exact .new hf (fun _=>.plain hid trivial rfl rfl) (fun ρ ρ' M w p hb=>by rw[hid]at hb;exact bG hb) (fun ρ ρ' M w he u hr=>hr.sl_name he)
   ·cases hs
  ·cases hs
 | .il k s,v,a,v',a',hs=>by
  unfold pH at hs;split at hs
  ·obtain⟨h0,hs⟩:=bA hs;have h0:=bB h0;simp only[Option.some.injEq,Prod.mk.injEq]at hs;obtain⟨rfl,rfl⟩:=hs;refine .same (fun ρ ρ' M w hc u hr=>?_);simp only[gA]at hr⊢;exact⟨h0,by simp,.inl ⟨trivial,none,hr⟩⟩
  ·obtain⟨h0,hs⟩:=bA hs;simp only[Option.some.injEq,Prod.mk.injEq]at hs;obtain⟨rfl,rfl⟩:=hs;exact .same (fun ρ ρ' M w hc u hr=>by simpa only[gA]using hr)
  ·cases hs
 | .inl k s,v,a,v',a',hs=>by
  unfold pH at hs;split at hs
  ·obtain⟨h0,hs⟩:=bA hs;simp only[Option.some.injEq,Prod.mk.injEq]at hs;obtain⟨rfl,rfl⟩:=hs;refine .same (fun ρ ρ' M w hc u hr=>?_);simp only[gA]at hr⊢;exact .inl ⟨trivial,none,hr⟩
  ·obtain⟨h0,hs⟩:=bA hs;simp only[Option.some.injEq,Prod.mk.injEq]at hs;obtain⟨rfl,rfl⟩:=hs;exact .same (fun ρ ρ' M w hc u hr=>by simpa only[gA]using hr)
  ·cases hs
 | .box ss,v,a,v',a',hs=>by
  unfold pH at hs;split at hs
  ·rename_i id off ext;split at hs
   ·rename_i j hf;simp only[Option.some.injEq,Prod.mk.injEq]at hs;obtain⟨rfl,rfl⟩:=hs;exact .same (fun ρ ρ' M w hc u hr=>hr.ptr_name (jH hf hc))
   ·rename_i hf;split at hs
    ·rename_i cs hid;split at hs
     ·rename_i cs' a1 hL;simp only[Option.some.injEq,Prod.mk.injEq]at hs;obtain⟨rfl,rfl⟩:=hs;obtain⟨⟨more,hm⟩,hk⟩:=cE ss cs _ cs' a1 hL;refine⟨⟨[some id]++more,by rw[hm];simp⟩,fun ha=>?_⟩;obtain⟨k1,k2⟩:=hk (ha.push hf (fun hx=>hx.elim));have hsrc:a1.src[a.src.length]?=some (some id):=by rw[hm];simp
      have hlt:a.src.length<a1.blks.length:=by rw[←k1.len,hm];simp
      refine⟨⟨by rw[yA];exact k1.len,k1.nodup,?_,?_⟩,fun ρ ρ' M w hq hc hb=>?_⟩
      ·intro j hj;obtain⟨k,hk,hho⟩:=k1.virt j hj;refine⟨k,?_,hho⟩;dsimp only at hj⊢;rw[lC _ _ _ _ hlt,if_neg (fun e=>by subst e;rw[hsrc]at hj;cases hj)];exact hk
      ·intro j id' x hj hx hl;dsimp only at hj hx;rw[lC _ _ _ _ hlt]at hx;split at hx
       ·rename_i e;subst e;rw[hsrc]at hj;simp only[Option.some.injEq]at hj hx;subst hj;subst hx;exact .plain hid trivial rfl rfl
       ·exact k1.live j id' x hj hx hl
      ·obtain⟨b1,b2⟩:=k2 ρ ρ' M w hq hc (hb.push ha (fun p _=>trivial));refine⟨?_,fun u hr=>hr.ptr_name (hc.old _ _ hsrc)⟩;intro j id' x p hj hx hp hr;dsimp only at hj hx;rw[lC _ _ _ _ hlt]at hx;split at hx
       ·rename_i e;subst e;rw[hsrc]at hj;simp only[Option.some.injEq]at hj hx;subst hj;subst hx;rw[hid]at hr;obtain⟨h1,⟨h2,h3,h4⟩|⟨b,c,h2,h3,h4,h5⟩⟩:=hr
        ·subst h3;have:=b2 [] (by simp only[eA]);cases cs' with
         |nil=>exact⟨h1,.inl ⟨h2,rfl,h4⟩⟩
         |cons=>simp only[eA]at this
        ·have:=b2 _ h5;exact⟨by rw[←h1,this.length,h5.length],.inr ⟨b,c,h2,h3,h4,this⟩⟩
       ·exact b1 j id' x p hj hx hp hr
     ·cases hs
    ·cases hs
  ·cases hs
 | .vrow ss,v,a,v',a',hs=>by
  unfold pH at hs;split at hs
  ·rename_i id w0;split at hs
   ·rename_i j hf;simp only[Option.some.injEq,Prod.mk.injEq]at hs;obtain⟨rfl,rfl⟩:=hs;exact .same (fun ρ ρ' M w hc u hr=>hr.sw_name (jH hf hc))
   ·rename_i hf;split at hs
    ·rename_i cs hid;split at hs
     ·rename_i cs' a1 hL;simp only[Option.some.injEq,Prod.mk.injEq]at hs;obtain⟨rfl,rfl⟩:=hs;obtain⟨⟨more,hm⟩,hk⟩:=cE ss cs _ cs' a1 hL;refine⟨⟨[some id]++more,by rw[hm];simp⟩,fun ha=>?_⟩;obtain⟨k1,k2⟩:=hk (ha.push hf (fun hx=>hx.elim));have hsrc:a1.src[a.src.length]?=some (some id):=by rw[hm];simp
      have hlt:a.src.length<a1.blks.length:=by rw[←k1.len,hm];simp
      refine⟨⟨by rw[yA];exact k1.len,k1.nodup,?_,?_⟩,fun ρ ρ' M w hq hc hb=>?_⟩
      ·intro j hj;obtain⟨k,hk,hho⟩:=k1.virt j hj;refine⟨k,?_,hho⟩;dsimp only at hj⊢;rw[lC _ _ _ _ hlt,if_neg (fun e=>by subst e;rw[hsrc]at hj;cases hj)];exact hk
      ·intro j id' x hj hx hl;dsimp only at hj hx;rw[lC _ _ _ _ hlt]at hx;split at hx
       ·rename_i e;subst e;rw[hsrc]at hj;simp only[Option.some.injEq]at hj hx;subst hj;subst hx;exact .plain hid trivial rfl rfl
       ·exact k1.live j id' x hj hx hl
      ·obtain⟨b1,b2⟩:=k2 ρ ρ' M w hq hc (hb.push ha (fun p _=>trivial));refine⟨?_,fun u hr=>hr.sw_name (hc.old _ _ hsrc)⟩;intro j id' x p hj hx hp hr;dsimp only at hj hx;rw[lC _ _ _ _ hlt]at hx;split at hx
       ·rename_i e;subst e;rw[hsrc]at hj;simp only[Option.some.injEq]at hj hx;subst hj;subst hx;rw[hid]at hr;obtain⟨h1,⟨h2,h3,h4⟩|⟨b,c,h2,h3,h4,h5⟩⟩:=hr
        ·subst h3;have:=b2 [] (by simp only[eA]);cases cs' with
         |nil=>exact⟨h1,.inl ⟨h2,rfl,h4⟩⟩
         |cons=>simp only[eA]at this
        ·have:=b2 _ h5;exact⟨by rw[←h1,this.length,h5.length],.inr ⟨b,c,h2,h3,h4,this⟩⟩
       ·exact b1 j id' x p hj hx hp hr
     ·cases hs
    ·cases hs
  ·cases hs
 | .vrows k0 s0,v,a,v',a',hs=>by
  unfold pH at hs;split at hs
  ·simp only[Option.some.injEq,Prod.mk.injEq]at hs;obtain⟨rfl,rfl⟩:=hs;exact .same (fun ρ ρ' M w hc u hr=>by simpa only[gA]using hr)
  ·rename_i id w0;split at hs
   ·rename_i j hf;simp only[Option.some.injEq,Prod.mk.injEq]at hs;obtain⟨rfl,rfl⟩:=hs;exact .same (fun ρ ρ' M w hc u hr=>hr.sw_name (jH hf hc))
   ·rename_i hf;split at hs
    ·rename_i cs hid;split at hs
     ·rename_i cs' a1 hL;simp only[Option.some.injEq,Prod.mk.injEq]at hs;obtain⟨rfl,rfl⟩:=hs;obtain⟨⟨more,hm⟩,hk⟩:=sS cs _ cs' a1 hL;refine⟨⟨[some id]++more,by rw[hm];simp⟩,fun ha=>?_⟩;obtain⟨k1,k2⟩:=hk (ha.push hf (fun hx=>hx.elim));have hsrc:a1.src[a.src.length]?=some (some id):=by rw[hm];simp
      have hlt:a.src.length<a1.blks.length:=by rw[←k1.len,hm];simp
      refine⟨⟨by rw[yA];exact k1.len,k1.nodup,?_,?_⟩,fun ρ ρ' M w hq hc hb=>?_⟩
      ·intro j hj;obtain⟨k,hk,hho⟩:=k1.virt j hj;refine⟨k,?_,hho⟩;dsimp only at hj⊢;rw[lC _ _ _ _ hlt,if_neg (fun e=>by subst e;rw[hsrc]at hj;cases hj)];exact hk
      ·intro j id' x hj hx hl;dsimp only at hj hx;rw[lC _ _ _ _ hlt]at hx;split at hx
       ·rename_i e;subst e;rw[hsrc]at hj;simp only[Option.some.injEq]at hj hx;subst hj;subst hx;exact .plain hid trivial rfl rfl
       ·exact k1.live j id' x hj hx hl
      ·obtain⟨b1,b2⟩:=k2 ρ ρ' M w hq hc (hb.push ha (fun p _=>trivial));refine⟨?_,fun u hr=>hr.sw_name (hc.old _ _ hsrc)⟩;intro j id' x p hj hx hp hr;dsimp only at hj hx;rw[lC _ _ _ _ hlt]at hx;split at hx
       ·rename_i e;subst e;rw[hsrc]at hj;simp only[Option.some.injEq]at hj hx;subst hj;subst hx;rw[hid]at hr;obtain⟨h1,⟨h2,h3,h4⟩|⟨b,c,h2,h3,h4,h5⟩⟩:=hr
        ·subst h3;have:=b2 [] (by simp only[eA]);cases cs' with
         |nil=>exact⟨h1,.inl ⟨h2,rfl,h4⟩⟩
         |cons=>simp only[eA]at this
        ·have:=b2 _ h5;exact⟨by rw[←h1,this.length,h5.length],.inr ⟨b,c,h2,h3,h4,this⟩⟩
       ·exact b1 j id' x p hj hx hp hr
     ·cases hs
    ·cases hs
  ·cases hs
 | .fnc ss,v,a,v',a',hs=>by
  unfold pH at hs;split at hs
  ·rename_i f cs;split at hs
   ·rename_i cs' a1 hL;simp only[Option.some.injEq,Prod.mk.injEq]at hs;obtain⟨rfl,rfl⟩:=hs;obtain⟨h1,h2⟩:=cE ss cs a cs' a1 hL;refine⟨h1,fun ha=>?_⟩;obtain⟨h3,h4⟩:=h2 ha;refine⟨h3,fun ρ ρ' M w hq hc hb=>?_⟩;obtain⟨h5,h6⟩:=h4 ρ ρ' M w hq hc hb;refine⟨h5,fun u hr=>?_⟩;simp only[gA]at hr⊢;obtain⟨ua,uc,g1,g2,g3⟩:=hr;refine⟨ua,uc,g1,?_,h6 _ g3⟩;cases hx:ua.toList with
    |nil=>simp only[eA]
    |cons y r=>rw[hx]at g2;simp only[eA]at g2
   ·cases hs
  ·cases hs
 | .recd ss,v,a,v',a',hs=>by
  unfold pH at hs;split at hs
  ·rename_i cs;split at hs
   ·rename_i cs' a1 hL;simp only[Option.some.injEq,Prod.mk.injEq]at hs;obtain⟨rfl,rfl⟩:=hs;obtain⟨h1,hk⟩:=cE ss cs a cs' a1 hL;refine⟨h1,fun ha=>⟨(hk ha).1,fun ρ ρ' M w hq hc hb=>⟨((hk ha).2 ρ ρ' M w hq hc hb).1,fun u hr=>?_⟩⟩⟩;simp only[gA]at hr⊢;obtain⟨vs,e,hr⟩:=hr;exact⟨vs,e,((hk ha).2 ρ ρ' M w hq hc hb).2 _ hr⟩
   ·cases hs
  ·cases hs
 | .tup ss,v,a,v',a',hs=>by
  unfold pH at hs;split at hs
  ·rename_i cs;split at hs
   ·rename_i cs' a1 hL;simp only[Option.some.injEq,Prod.mk.injEq]at hs;obtain⟨rfl,rfl⟩:=hs;obtain⟨h1,hk⟩:=cE ss cs a cs' a1 hL;refine⟨h1,fun ha=>⟨(hk ha).1,fun ρ ρ' M w hq hc hb=>⟨((hk ha).2 ρ ρ' M w hq hc hb).1,fun u hr=>?_⟩⟩⟩;simp only[gA]at hr⊢;obtain⟨vs,e,hr⟩:=hr;exact⟨vs,e,((hk ha).2 ρ ρ' M w hq hc hb).2 _ hr⟩
   ·cases hs
  ·cases hs
theorem cE {h:Nat→jA}:∀(ss:List Sh) (vs:List V) (a:sL) (vs':List V) (a':sL),mF h ss vs a=some (vs',a')→sE h a a' (lz vs vs')
 | [],[],a,vs',a',hs=>by simp only[mF,Option.some.injEq,Prod.mk.injEq]at hs;obtain⟨rfl,rfl⟩:=hs;exact .same (fun ρ ρ' M w hc u hr=>by cases u<;>simp_all[eA])
 |s::ss,v::vs,a,vs',a',hs=>by
  unfold mF at hs;split at hs
  ·rename_i v1 a1 h1;split at hs
   ·rename_i vs1 a2 h2;simp only[Option.some.injEq,Prod.mk.injEq]at hs;obtain⟨rfl,rfl⟩:=hs;obtain⟨⟨m1,e1⟩,k1⟩:=ct s v a v1 a1 h1;obtain⟨⟨m2,e2⟩,k2⟩:=cE ss vs a1 vs1 a2 h2;refine⟨⟨m1++m2,by rw[e2,e1,j1]⟩,fun ha=>?_⟩;obtain⟨p1,p2⟩:=k1 ha;obtain⟨q1,q2⟩:=k2 p1;refine⟨q1,fun ρ ρ' M w hq hc hb=>?_⟩;obtain⟨r1,r2⟩:=p2 ρ ρ' M w hq (by rw[e2]at hc;exact hc.pre) hb;obtain⟨t1,t2⟩:=q2 ρ ρ' M w hq hc r1;refine⟨t1,fun u hr=>?_⟩;cases u with
    |nil=>simp only[eA]at hr
    |cons u us=>simp only[eA]at hr⊢;exact⟨r2 u hr.1,t2 us hr.2⟩
   ·cases hs
  ·cases hs
 | [],_::_,a,vs',a',hs=>by simp[mF]at hs
 |_::_,[],a,vs',a',hs=>by simp[mF]at hs
end
theorem rM:∀(H:List jA) (i:Nat) (x:jA) (j:Nat),(qB H i x)[j]?=H[j]?∨(qB H i x)[j]?=some x
 | [],_,_,_=>.inl (by simp[qB])
 |b::r,0,x,0=>.inr (by simp[qB])
 |b::r,0,x,j+1=>.inl (by simp[qB])
 |b::r,n+1,x,0=>.inl (by simp[qB])
 |b::r,n+1,x,j+1=>by simpa[qB]using rM r n x j
theorem fM:∀(bsh:List (Nat×List Sh)) (H:List jA),(gI bsh H).length=H.length
 | [],_=>rfl
 |p::r,H=>by simp only[gI];rw[fM r,yA]
theorem cO:∀(bsh:List (Nat×List Sh)) (H:List jA) (j:Nat),(gI bsh H)[j]?=H[j]?∨(gI bsh H)[j]?=some .dead
 | [],_,_=>.inl rfl
 |p::r,H,j=>by
  simp only[gI];rcases cO r (qB H p.1 .dead) j with h|h
  ·rcases rM H p.1 .dead j with g|g
   ·exact .inl (h.trans g)
   ·exact .inr (h.trans g)
  ·exact .inr h
theorem mT {h:Nat→jA}:∀(bsh:List (Nat×List Sh)) (a a':sL),oR h bsh a=some a'→(∃more,a'.src=a.src++more)∧(zH h a→(∀p∈bsh,a.src[p.1]?=some (some p.1))→zH h a'∧∀ρ ρ' M w,HB h ρ M w→tO ρ ρ' a'.src→oG h ρ ρ' M w a→oG h ρ ρ' M w a')
 | [],a,a',hs=>by simp only[oR,Option.some.injEq]at hs;subst hs;exact⟨⟨[],by simp⟩,fun ha _=>⟨ha,fun ρ ρ' M w _ _ hb=>hb⟩⟩
 |(i,ss)::r,a,a',hs=>by
  simp only[oR]at hs;split at hs
  ·rename_i cs hid;split at hs
   ·rename_i cs' a1 hL;obtain⟨⟨m1,e1⟩,hk⟩:=cE ss cs a cs' a1 hL;obtain⟨⟨m2,e2⟩,hk2⟩:=mT r _ a' hs;dsimp only at e2;refine⟨⟨m1++m2,by rw[e2,e1,j1]⟩,fun ha hp=>?_⟩;obtain⟨k1,k2⟩:=hk ha;have hi:=hp (i,ss) (by simp);dsimp only at hi;have hilt:i<a.src.length:=(hR.mp hi).1;have hsrc:a1.src[i]?=some (some i):=by rw[e1,hZ hilt];exact hi
    have hlt:i<a1.blks.length:=by rw[←k1.len,e1];simp;omega
    have hA2:zH h ⟨a1.src,qB a1.blks i (.vals cs')⟩:=by
     refine⟨by rw[yA];exact k1.len,k1.nodup,?_,?_⟩
     ·intro j hj;obtain⟨k,hk,hho⟩:=k1.virt j hj;refine⟨k,?_,hho⟩;dsimp only at hj⊢;rw[lC _ _ _ _ hlt,if_neg (fun e=>by subst e;rw[hsrc]at hj;cases hj)];exact hk
     ·intro j id' x hj hx hl;dsimp only at hj hx;rw[lC _ _ _ _ hlt]at hx;split at hx
      ·rename_i e;subst e;rw[hsrc]at hj;simp only[Option.some.injEq]at hj hx;subst hj;subst hx;exact .plain hid trivial rfl rfl
      ·exact k1.live j id' x hj hx hl
    obtain⟨q1,q2⟩:=hk2 hA2 (fun p hpr=>by have h0:=hp p (u1 _ hpr);have hlt0:p.1<a.src.length:=(hR.mp h0).1;dsimp only;rw[e1,hZ hlt0];exact h0);refine⟨q1,fun ρ ρ' M w hq hc hb=>q2 ρ ρ' M w hq hc ?_⟩;obtain⟨b1,b2⟩:=k2 ρ ρ' M w hq (by rw[e2]at hc;exact hc.pre) hb;intro j id' x p hj hx hp hr;dsimp only at hj hx;rw[lC _ _ _ _ hlt]at hx;split at hx
    ·rename_i e;subst e;rw[hsrc]at hj;simp only[Option.some.injEq]at hj hx;subst hj;subst hx;rw[hid]at hr;obtain⟨h1,⟨h2,h3,h4⟩|⟨b,c,h2,h3,h4,h5⟩⟩:=hr
     ·subst h3;have:=b2 [] (by simp only[eA]);cases cs' with
      |nil=>exact⟨h1,.inl ⟨h2,rfl,h4⟩⟩
      |cons=>simp only[eA]at this
     ·have:=b2 _ h5;exact⟨by rw[←h1,this.length,h5.length],.inr ⟨b,c,h2,h3,h4,this⟩⟩
    ·exact b1 j id' x p hj hx hp hr
   ·cases hs
  ·cases hs
end Go.Proofs.Ytlofhdoefjmabaa.Ev
