import Derived.Test.YteaakcmkpacpaaaGreatA0
import Derived.Orders
open List renaming getD_eq_getElem?_getD→hA,getElem?_singleton→iA,getElem?_append→iB,mem_cons→hD,mem_append→aE,getElem?_eq_some_iff→zE,getElem?_eq_none→hF,getElem?_eq_getElem→yK,getElem?_append_left→hN,map_cons→cP,getElem?_append_right→hU,all_eq_true→hV,map_congr_left→hX,length_cons→iX,mem_filter→hY,append_assoc→c0,mem_cons_of_mem→e0,getElem?_take_of_lt→j0,mem_singleton→n0,length_singleton→o0,mem_append_right→p0,cons_append→q0,mem_of_getElem?→r0,not_mem_nil→u0,mem_map_of_mem→y0,mem_map→u1,mem_range→y1,length_eq_zero_iff→z1,getElem?_map→u2,singleton_append→n3,map_append→x3,mem_append_left→y3,nodup_cons→c4,pairwise_append→e4,filter_eq_self→k4,length_append→l4,pairwise_cons→n4,reverse_cons→u4,any_eq_true→x4,getElem_mem→y4,map_map→c5,length_set→k5,range_succ_eq_map→l5,sublist_cons_self→s5,mem_iff_getElem?→x5
open Bool renaming and_eq_true→hB,not_eq_true'→hW,false_eq_true→j1,not_true→x2,or_eq_true→e5
open Array renaming getD_eq_getD_getElem?→xK,getElem?_eq_some_iff→x0,getElem?_toList→j3
open Nat renaming lt_or_ge→hP,le_refl→eX,zero_add→x1,lt_irrefl→y2,add_mul_div_right→u3,ble_eq_true_of_le→w3,dvd_of_mod_eq_zero→w5,le_trans→a6
open Option renaming getD_some→hR
open Go.Result renaming andThen_ok→w4
open Go.Sem renaming run_bind→b6
set_option linter.unusedVariables false
set_option linter.unusedSimpArgs false
namespace Go.Proofs.YteaakcmkpacpaaaGreat.Ev
section
variable {P:Program}{F:Nat→Prop}{ρ:xC}{h:Nat→qA}{w:World}{nid:Nat}{ty:Nat→Option TI}{ev:Operand→V}{ae:Operand→Value}{out:oF}{M:Nat→Prop}
theorem wI {y:V}{tc:List Nat}{v:Value}{s:Sem Value}(hh:kA F ρ h w)(hr:s.run P w= .ok v w)(hv:oA ρ (av F (fA ρ h)) w y v):rD F ρ h w nid {val:=y,touch:=tc} ((do pure (.value (←s)):Sem Next).run P w):=
 rD.pure hh (v:=v) (by simp[hr]) hv
theorem mA.map_ev (he:∀x,oA ρ M w (ev x) (ae x)):∀(xs:List Operand),mA ρ M w (xs.map ev) (xs.map ae)
 | []=>by simp[mA]
 |x::xs=>by simp only[cP,mA];exact⟨he x,mA.map_ev he xs⟩
theorem A7 {ti:TI}{c:Array Value}(h:mA ρ M w (pG ti) c.toList):uC ρ M w (pG ti).length c (qw ti):=by
 have hv:uC ρ M w (pG ti).length c (.vals (pG ti)):=by have hlen:=h.length;refine⟨rfl,by simp at hlen;omega,?_⟩;rw[List.take_of_length_le (by simp at hlen⊢;omega)];exact h
 unfold qw;split
 ·split
  ·rename_i hm;exact ou hm h
  ·exact hv
 ·exact hv
theorem qy {ts:Array TypeId}{e:Nat}{te:TI}(hat:0<te.bytes→0<te.size→A3 P ts e te)(hh:kA F ρ h w){d s:V}{vd vx:Value}(hd:oA ρ (av F (fA ρ h)) w d vd)(hx:oA ρ (av F (fA ρ h)) w s vx)
  (ha:pI te h nid d s=some (true,out))(hn1:out.new.length=1→ρ nid=none)(t':TypeId)(cs:Array Bool):
  rD F ρ h w nid out ((builtin .append ts t' cs [vd,vx].toArray).run P w):=by
 have run_eq:∀{v:Value} {w':World},(Builtin.append_ ts t' #[vd,vx]).run P w= .ok v w'→(builtin .append ts t' cs [vd,vx].toArray).run P w= .ok (.value v) w':=by intro v w' h1;simp[builtin,h1]
 unfold pI at ha;cases hbs:(Nat.blt 0 te.bytes&&Nat.blt 0 te.size)with
 |false=>simp[hbs]at ha
 |true=>
 simp only[hbs,x2,cond_false]at ha;obtain⟨hb,hsz⟩:=wA hbs;have hb:=aC hb;have hsz:=aC hsz;have hat:=hat hb hsz;have fin0:∀{x:qA} {us:List Value} {m:Nat} {tc:List Nat},vd= .slice none 0 0→out={val:=.sw nid te.size,new:=[x],touch:=tc}→Qc P w te.size m vx us→cB m te.bytes=true→(us=[]→(∃k,x= .ints k [])∨x= .vals []∨(∃_ _:Nat,x= .bls []))→
   (∀c:Array Value,us.length≤c.size→(∀j,j<us.length→c[j]?=us[j]?)→uC ρ (av F (fA ρ h)) w us.length c x)→rD F ρ h w nid out ((builtin .append ts t' cs [vd,vx].toArray).run P w):=by
  intro x us m tc hv hout hs hroom hx0 hxx;subst hout;obtain⟨v,w',ρ',r1,r2,r3,r4,r5,r6⟩:=uX hat t' hh (hn1 rfl) hs hroom hx0 hxx;subst hv;exact⟨v,w',ρ',.inl (run_eq r1),r2,fun id hid=>r3 id (by simp at hid;omega),r4,r5,r6⟩
 have fin1:∀{x:qA} {us:List Value} {m:Nat} {tc:List Nat} {id:Nat},oA ρ (av F (fA ρ h)) w (.sw id te.size) vd→(h id).live→(h id).flat→out={val:=.sw nid te.size,wr:=[(id,.dead)],new:=[x],touch:=tc}→Qc P w te.size m vx us→
   (∀n:Nat,(∀{c},uC ρ (av F (fA ρ h)) w n c (h id)→cB (n/te.size+m) te.bytes=true∧
    ∀c c':Array Value,uC ρ (av F (fA ρ h)) w n c (h id)→n+us.length≤c'.size→(∀j,j<n→c'[j]?=c[j]?)→(∀j,j<us.length→c'[n+j]?=us[j]?)→uC ρ (av F (fA ρ h)) w (n+us.length) c' x))→
   ((∃k,h id= .ints k [])∨h id= .vals []∨(∃_ _:Nat,h id= .bls [])→cB m te.bytes=true∧(us=[]→(∃k,x= .ints k [])∨x= .vals []∨(∃_ _:Nat,x= .bls []))∧(∀c:Array Value,us.length≤c.size→(∀j,j<us.length→c[j]?=us[j]?)→uC ρ (av F (fA ρ h)) w us.length c x))→
   rD F ρ h w nid out ((builtin .append ts t' cs [vd,vx].toArray).run P w):=by
  intro x us m tc id hrel hl hfl hout hs hrow hemp;subst hout;obtain⟨_,⟨b,n,C,cap,c,h1,h2,h3,h4,h5,ho,hszc,hold⟩|⟨h1,h2,hk⟩⟩:=fG hh hrel hl hfl
  ·obtain⟨q1,q2⟩:=hrow n hold;subst h5;obtain⟨v,w',ρ',r1,r2,r3,r4,r5,r6⟩:=qz hat t' hh (hn1 rfl) hs hl h1 h2 h3 h4 ho hszc (by have:=hold.le;omega) q1 (x:=x) (fun c' a1 a2 a3=>q2 c c' hold a1 a2 a3);exact⟨v,w',ρ',.inl (run_eq r1),r2,fun id hid=>r3 id (by simp at hid;omega),r4,r5,r6⟩
  ·obtain⟨q1,q2,q3⟩:=hemp hk;subst h2;obtain⟨k1,k2⟩:=hh.kill id;obtain⟨v,w',ρ',r1,r2,r3,r4,r5,r6⟩:=uX hat t' k1 (hn1 rfl) hs q1 q2 (fun c a1 a2=>(q3 c a1 a2).mono (vL.refl _) k2);exact⟨v,w',ρ',.inl (run_eq r1),r2,fun id hid=>r3 id (by simp at hid;omega),r4,r5,k2.trans r6⟩
 split at ha
 ·rename_i k hk;split at ha
  ·cases ha
  ·rename_i src tc hs;obtain⟨m,m1,m2,m3⟩:=dW (P:=P) hh hsz hx hs;have hsrc:Qc P w te.size m vx (src.map (Value.int k)):=⟨m1,by simpa using m2,gR _,m3⟩
   have hcells:∀c:Array Value,(src.map (Value.int k)).length≤c.size→(∀j,j<(src.map (Value.int k)).length→c[j]?=(src.map (Value.int k))[j]?)→uC ρ (av F (fA ρ h)) w (src.map (Value.int k)).length c (.ints k src):=by intro c a1 a2;refine⟨by simp,a1,fun i hi=>?_⟩;rw[a2 i (by simpa using hi),vY k src hi]
   split at ha
   ·simp only[Option.some.injEq,Prod.mk.injEq]at ha;obtain⟨g1,g2⟩:=ha;rw[mE,m2,dD hsz]at g1;exact fin0 hd.c g2.symm hsrc g1 (fun e=>.inl ⟨k,by simp at e;rw[e]⟩) hcells
   ·rename_i id s1;split at ha
    ·rename_i k' l hid;obtain⟨h1,h2⟩:=cA ha;obtain⟨h3,h4⟩:=wA h1;have h3:=yE h3;have h4:=aB h4;subst h3;subst h4;simp only[Option.some.injEq,Prod.mk.injEq]at h2;obtain⟨g1,g2⟩:=h2;rw[mE]at g1;refine fin1 hd (by rw[hid];trivial) (by rw[hid];trivial) g2.symm hsrc (fun n {c} hc=>?_) (fun hk2=>?_)
     ·rw[hid]at hc;have e1:=hc.len;refine⟨by rw[e1,m2,u3 _ _ hsz]at g1;exact g1,fun c c' a0 a1 a2 a3=>?_⟩;rw[hid]at a0;exact a0.grow_ints (by simp) a1 a2 (fun j hj=>by rw[a3 j hj,vY k src (by simpa using hj)])
     ·rw[hid]at hk2;have hl:l=[]:=by rcases hk2 with⟨k2,hk2⟩|hk2|⟨_,_,hk2⟩<;>cases hk2;rfl
      subst hl;refine⟨by simpa[m2,dD hsz]using g1,fun e=>.inl ⟨k,by simp at e;rw[e];rfl⟩,by simpa using hcells⟩
    ·cases ha
   ·cases ha
 ·split at ha
  ·cases ha
  ·rename_i src tc hs;obtain⟨m,us,m1,m2,m3,m4,m5⟩:=qf (P:=P) hh hsz hx hs;have hul:=m3.length;have hsrc:Qc P w te.size m vx us:=⟨m1,by omega,m4,m5⟩
   have hcells:∀c:Array Value,us.length≤c.size→(∀j,j<us.length→c[j]?=us[j]?)→uC ρ (av F (fA ρ h)) w us.length c (.vals src):=by
    intro c a1 a2;refine⟨hul,a1,?_⟩;have:c.toList.take us.length=us:=by
     apply List.ext_getElem?;intro j;by_cases hj:j<us.length
     ·rw[j0 hj,j3,a2 j hj]
     ·rw[hF (by simp;omega),hF (by omega)]
    rw[this];exact m3
   have hemp:us=[]→(∃k,qA.vals src= .ints k [])∨qA.vals src= .vals []∨(∃_ _:Nat,qA.vals src= .bls []):=fun e=>.inr (.inl (by subst e;simp at hul;rw[hul]));split at ha
   ·simp only[Option.some.injEq,Prod.mk.injEq]at ha;obtain⟨g1,g2⟩:=ha;rw[mE,m2,dD hsz]at g1;exact fin0 hd.c g2.symm hsrc g1 hemp hcells
   ·rename_i id s1;split at ha
    ·rename_i l hid;obtain⟨h1,h2⟩:=cA ha;have h4:=aB h1;subst h4;simp only[Option.some.injEq,Prod.mk.injEq]at h2;obtain⟨g1,g2⟩:=h2;rw[mE]at g1;refine fin1 hd (by rw[hid];trivial) (by rw[hid];trivial) g2.symm hsrc (fun n {c} hc=>?_) (fun hk2=>?_)
     ·rw[hid]at hc;have e1:=hc.lenV;refine⟨by rw[e1,m2,u3 _ _ hsz]at g1;exact g1,fun c c' a0 a1 a2 a3=>?_⟩;rw[hid]at a0;exact a0.grow_vals m3 rfl a1 a2 a3
     ·rw[hid]at hk2;have hl:l=[]:=by rcases hk2 with⟨k2,hk2⟩|hk2|⟨_,_,hk2⟩<;>cases hk2;rfl
      subst hl;refine⟨by simpa[m2,dD hsz]using g1,by simpa using hemp,by simpa using hcells⟩
    ·cases ha
   ·cases ha
theorem Dt (k:IntKind)(a b:Int):Builtin.max2 (.int k a) (.int k b)=pure (.int k (E6 a b)):=rfl
theorem Dw (k:IntKind)(a b:Int):Builtin.min2 (.int k a) (.int k b)=pure (.int k (Qr a b)):=rfl
theorem Nr (hty:uD P ty)(hh:kA F ρ h w){t kt et:Nat}{ti:TI}{x:V}{vx:Value}{n:Nat}{tc:List Nat}(ht:ty t=some ti)(htk:ti.tk= .map kt et)(hx:oA ρ (av F (fA ρ h)) w x vx)(hl:dt h x=some (n,tc))(ts:Array TypeId)(hts:ts[0]?=some t)(t':TypeId):
  (Builtin.len_ ts t' #[vx]).run P w= .ok (.int .i64 n) w:=by
 have h0:=(hty _ _ ht).tk;rw[htk]at h0;simp only[xD]at h0;unfold dt at hl;split at hl
 ·rename_i id;split at hl
  ·rename_i hid;simp only[Option.some.injEq,Prod.mk.injEq]at hl;obtain⟨rfl,rfl⟩:=hl;simp only[oA]at hx;obtain⟨b,hp,rfl⟩:=hx;obtain⟨_,_,_,es,clk,hb,hes,_⟩:=hh.ownMap hid hp;simp[Builtin.len_,hts,run_underlying h0.1,MapKept.run_getObj_map hb,goInt,hes]
  ·cases hl
 ·cases hl
theorem rh (hty:uD P ty)(hh:kA F ρ h w){b:Builtin}{ts:Array TypeId}{xs:List V}{vs:List Value}(hr:mA ρ (av F (fA ρ h)) w xs vs)(ha:sH ty nid b ts.toList xs h=some (true,out))(hn1:out.new.length=1→ρ nid=none)(t':TypeId)(cs:Array Bool):
  rD F ρ h w nid out ((builtin b ts t' cs vs.toArray).run P w):=by
 unfold sH at ha;split at ha
 ·
  rename_i x;split at ha
  ·rename_i t r hts;split at ha
   ·rename_i ti n tc ht hl;obtain⟨h1,h2⟩:=cA ha;simp only[Option.some.injEq,Prod.mk.injEq,true_and]at h2;subst h2;cases vs with
    |nil=>simp[mA]at hr
    |cons v vs=>
     cases vs with
     |cons _ _=>simp[mA]at hr
     |nil=>
      simp only[mA]at hr;have hts0:ts[0]?=some t:=by
       have:ts.toList[0]?=some t:=by rw[hts];rfl
       simpa using this
      have:=Rt (P:=P) hty hh ht hr.1 hl h1 ts hts0 t';exact rD.pure hh (v:=.int .i64 n) (by simp[builtin,this]) (oA.of_c _)
   ·rename_i ti ht hl0;split at ha
    ·rename_i kt et n tc htk hm;simp only[Option.some.injEq,Prod.mk.injEq,true_and]at ha;subst ha;cases vs with
     |nil=>simp[mA]at hr
     |cons v vs=>
      cases vs with
      |cons _ _=>simp[mA]at hr
      |nil=>
       simp only[mA]at hr;have hts0:ts[0]?=some t:=by
        have:ts.toList[0]?=some t:=by rw[hts];rfl
        simpa using this
       have:=Nr (P:=P) hty hh ht htk hr.1 hm ts hts0 t';exact rD.pure hh (v:=.int .i64 n) (by simp[builtin,this]) (oA.of_c _)
    ·cases ha
   ·cases ha
  ·cases ha
 ·obtain⟨x,r,v,h1,h2,h3⟩:=dq (P:=P) Dt ha hr;subst h1;subst h2;exact rD.pure hh (v:=v) (by simp[builtin,Builtin.max_,h3]) (oA.of_c _)
 ·obtain⟨x,r,v,h1,h2,h3⟩:=dq (P:=P) Dw ha hr;subst h1;subst h2;exact rD.pure hh (v:=v) (by simp[builtin,Builtin.min_,h3]) (oA.of_c _)
 ·
  rename_i d s;cases vs with
  |nil=>simp[mA]at hr
  |cons vd vs=>
   cases vs with
   |nil=>simp[mA]at hr
   |cons vx vs=>
    cases vs with
    |cons _ _=>simp[mA]at hr
    |nil=>
     simp only[mA]at hr;obtain⟨hd,hx,_⟩:=hr;split at ha
     ·rename_i t t2 r hts;have hts0:ts[0]?=some t:=by
       have:ts.toList[0]?=some t:=by rw[hts];rfl
       simpa using this
      have hts1:ts[1]?=some t2:=by
       have:ts.toList[1]?=some t2:=by rw[hts];rfl
       simpa using this
      split at ha
      ·rename_i e s0 b0 z0 tt2 ht ht2;have hu:=(hty _ _ ht).tk;simp only[xD]at hu;have key:((∃x,tt2.tk= .slice x)∨tt2.tk= .str)→(match ty e with|some ti=>pI ti h nid d s|none=>none)=some (true,out)→rD F ρ h w nid out ((builtin .append ts t' cs [vd,vx].toArray).run P w):=by
        intro htk2 ha;split at ha
        ·rename_i te hte;have hat:0<te.bytes→0<te.size→A3 P ts e te:=fun hb hs=>by
          refine⟨⟨t,hts0,hu⟩,?_,hty _ _ hte,hb,hs⟩;have hk2:=(hty _ _ ht2).tk;rcases htk2 with⟨x,htk2⟩|htk2<;>rw[htk2]at hk2<;>simp only[xD]at hk2
          ·exact⟨t2,_,hts1,hk2,.inl ⟨x,rfl⟩⟩
          ·exact⟨t2,_,hts1,hk2,.inr rfl⟩
         exact qy hat hh hd hx ha hn1 t' cs
        ·cases ha
       split at ha
       ·rename_i y hy;exact key (.inl ⟨y,hy⟩) ha
       ·rename_i hy;exact key (.inr hy) ha
       ·cases ha
      ·cases ha
     ·cases ha
 ·
  rename_i d s;cases vs with
  |nil=>simp[mA]at hr
  |cons vd vs=>
   cases vs with
   |nil=>simp[mA]at hr
   |cons vx vs=>
    cases vs with
    |cons _ _=>simp[mA]at hr
    |nil=>
     simp only[mA]at hr;obtain⟨hd,hx,_⟩:=hr;split at ha
     ·rename_i t r hts;have hts0:ts[0]?=some t:=by
       have:ts.toList[0]?=some t:=by rw[hts];rfl
       simpa using this
      split at ha
      ·rename_i e s0 b0 z0 ht;have hu:=(hty _ _ ht).tk;simp only[xD]at hu;split at ha
       ·rename_i te hte;unfold mg at ha;split at ha
        ·cases ha
        ·rename_i k hk;split at ha
         ·cases ha
         ·rename_i src tc hs;split at ha
          ·rename_i id s1;split at ha
           ·rename_i k' l hid;obtain⟨h1,h2⟩:=cA ha;obtain⟨h3,h4⟩:=wA h1;have h3:=yE h3;have h4:=aB h4;subst h3;subst h4;simp only[Option.some.injEq,Prod.mk.injEq,true_and]at h2;subst h2;exact N9 hty hh hts0 hu hte t' hk hs hx hd hid
           ·cases ha
          ·cases ha
       ·cases ha
      ·cases ha
     ·cases ha
 ·cases ha
theorem oT (hty:uD P ty)(hh:kA F ρ h w)(he:∀x,oA ρ (av F (fA ρ h)) w (ev x) (ae x))(hn:∀id,nid≤id→id<nid+out.new.length→ρ id=none)(op:Op)(o:Oper)(hop:o.op=op)(ha:yI ty nid op ev h=some (true,out)):
  rD F ρ h w nid out ((execOp ae o).run P w):=by
 have hn1:out.new.length=1→ρ nid=none:=fun h=>hn nid (eX _) (by omega);unfold execOp;rw[hop];cases op
 case move x=>have:=zB ha;subst this;exact rD.pure hh rfl (he x)
 case assign x=>have:=zB ha;subst this;exact rD.pure hh rfl (he x)
 case pick c a b=>
  simp only[yI]at ha;split at ha
  ·rename_i b' hc;have:=zB ha;subst this;have h1:=he c;rw[hc]at h1;have:=h1.bool;exact rD.pure hh (v:=if b' then ae a else ae b) (by simp[this,asBool]) (O1 (he a) (he b))
  ·cases ha
 case alloc t=>
  simp only[yI]at ha;split at ha
  ·rename_i ti ht;simp only[Option.some.injEq,Prod.mk.injEq,true_and]at ha;subst ha;exact Cb (hty _ _ ht) hh (fun c hc=>A7 hc) (hn1 rfl)
  ·cases ha
 case box t x=>
  simp only[yI]at ha;split at ha
  ·rename_i ti ht;split at ha
   ·rename_i vs hvs;obtain⟨h1,h2⟩:=cA ha;simp only[Option.some.injEq,Prod.mk.injEq,true_and]at h2;subst h2;exact Rl hh (hn1 rfl) (he x) hvs (aB h1)
   ·cases ha
  ·cases ha
 case build t ps=>
  simp only[yI]at ha;split at ha
  ·rename_i ti ht;have key:∀cs,((∃fs,ti.tk= .struct fs∧fs.all (fun p=>(ty p.1).isSome)=true∧bK (sI ty fs) (pG ti) (ps.toList.map fun p=>(p.1,ev p.2))=some cs)∨
     (∃n e te,ti.tk= .arr n e∧ty e=some te∧bK (fun i=>some (i*te.size,te.size)) (pG ti) (ps.toList.map fun p=>(p.1,ev p.2))=some cs))→out={val:=.agg cs}→rD F ρ h w nid out ((do pure (.value (←Instr.build t (ps.map fun(i,x)=>(i,ae x)))):Sem Next).run P w):=by
    intro cs hb hout;subst hout;obtain⟨v,h1,h2⟩:=Ci (P:=P) hty ht he hb;exact wI (nid:=nid) (tc:=[]) hh h1 h2
   split at ha
   ·rename_i fs htk;obtain⟨h1,h2⟩:=cA ha;split at h2
    ·rename_i cs hf;exact key cs (.inl ⟨fs,htk,h1,hf⟩) (zB h2)
    ·cases h2
   ·rename_i n e htk;split at ha
    ·rename_i te hte;split at ha
     ·rename_i cs hf;exact key cs (.inr ⟨n,e,te,htk,hte,hf⟩) (zB ha)
     ·cases ha
    ·cases ha
   ·cases ha
  ·cases ha
 case buildSlice t len ps=>
  simp only[yI]at ha;split at ha
  ·rename_i e s0 b0 z0 ht;split at ha
   ·rename_i te hte;obtain⟨h1,h2⟩:=cA ha;split at h2
    ·rename_i cs hf;split at h2
     ·rename_i b hm;simp only[Option.some.injEq,Prod.mk.injEq,true_and]at h2;subst h2;exact j9 hty hh (hn1 rfl) he ht rfl hte h1 hf hm
     ·cases h2
    ·cases h2
   ·cases ha
  ·cases ha
 case load t a=>
  simp only[yI]at ha;cases ht:ty t with
  |none=>rw[ht]at ha;simp at ha
  |some ti=>rw[ht]at ha;obtain⟨y,tc,v,h1,h2,h3⟩:=Nq (P:=P) (y:=.poison) hty hh (he a) ht ha;subst h1;exact wI hh h2 h3
 case store t a x=>
  simp only[yI]at ha;split at ha
  ·rename_i ti id off ext ht hp;split at ha
   ·rename_i vs hvs;obtain⟨h1,h2⟩:=cA ha;obtain⟨h3,h4⟩:=wA h1;split at h2
    ·rename_i b hb;simp only[Option.some.injEq,Prod.mk.injEq,true_and]at h2;subst h2;have hx:=he a;rw[hp]at hx;exact M5 hty hh hx (he x) ht hvs (lE h3) (aB h4) hb
    ·cases h2
   ·cases ha
  ·cases ha
 case nilCheck x=>
  simp only[yI]at ha;have hx:=he x;split at ha
  ·rename_i id off ext hp;have:=zB ha;subst this;rw[hp]at hx;have hx':=hx;simp only[oA]at hx;obtain⟨b,n,C,_,_,hv⟩:=hx;exact rD.pure hh (v:=ae x) (by simp[hv]) hx'
  ·rename_i k l off ext hp;have:=zB ha;subst this;rw[hp]at hx;have hx':=hx;simp only[oA]at hx;obtain⟨b,o,hv,_⟩:=hx;exact rD.pure hh (v:=ae x) (by simp[hv]) hx'
  ·rename_i l off ext hp;have:=zB ha;subst this;rw[hp]at hx;have hx':=hx;simp only[oA]at hx;obtain⟨b,o,hv,_⟩:=hx;exact rD.pure hh (v:=ae x) (by simp[hv]) hx'
  ·rename_i k s rows i hp;have:=zB ha;subst this;rw[hp]at hx;have hx':=hx;simp only[oA]at hx;obtain⟨b,o,hv,_⟩:=hx;exact rD.pure hh (v:=ae x) (by simp[hv]) hx'
  ·cases ha
 case binOp op t x y t2=>simp only[yI]at ha;obtain⟨v,h1,h2⟩:=Mz (P:=P) hty x y ha (he x) (he y);subst h1;exact wI (tc:=[]) hh h2 (oA.of_c _)
 case unOp op t x=>simp only[yI]at ha;obtain⟨v,h1,h2⟩:=Sv (P:=P) ha (he x);subst h1;exact wI (tc:=[]) hh h2 (oA.of_c _)
 case convert s d x=>simp only[yI]at ha;exact N8 hty hh (he x) ha hn1
 case makeFunc fn first cap=>
  cases fn with
  |func f=>simp only[yI]at ha;have:=zB ha;subst this;refine rD.pure hh (v:=.func (.func f) (first.map ae) (cap.map ae)) (by simp[Instr.makeFunc]) ?_;simp only[oA];exact⟨_,_,rfl,by simpa using mA.map_ev he first.toList,by simpa using mA.map_ev he cap.toList⟩
  |_=>cases ha
 case makeSlice t l c=>
  simp only[yI]at ha;split at ha
  ·rename_i e s0 b0 z0 n m ht hl hc;split at ha
   ·rename_i te hte;split at ha
    ·rename_i k hk;obtain⟨h1,h2⟩:=cA ha;simp only[Option.some.injEq,Prod.mk.injEq]at h2;obtain⟨h3,h4⟩:=h2;subst h4;have e1:=he l;have e2:=he c;rw[hl]at e1;rw[hc]at e2;have:=e1.int;have:=e2.int;simp only[*];exact ja hty hh (hn1 rfl) ht rfl hte hk h1 h3
    ·rename_i hz;obtain⟨h1,h2⟩:=cA ha;simp only[Option.some.injEq,Prod.mk.injEq]at h2;obtain⟨h3,h4⟩:=h2;subst h4;have e1:=he l;have e2:=he c;rw[hl]at e1;rw[hc]at e2;have:=e1.int;have:=e2.int;simp only[*];exact iz hty hh (hn1 rfl) ht rfl hte hz (aB h1) h3
    ·cases ha
   ·cases ha
  ·cases ha
 case slice t x lo hi mx=>simp only[yI]at ha;obtain⟨y,tc,v,h1,h2,h3⟩:=Bc (P:=P) hty hh (he x) (gJ.of he) (gJ.of he) (gJ.of he) ha;subst h1;exact wI hh h2 h3
 case fieldAddr t x f=>
  simp only[yI]at ha;split at ha
  ·rename_i fs s0 b0 z0 ht;obtain⟨y,v,h1,h2,h3⟩:=ia (P:=P) hty ht rfl (he x) ha;subst h1;exact wI (tc:=[]) hh h2 h3
  ·cases ha
 case field t x f=>
  simp only[yI]at ha;split at ha
  ·rename_i fs s0 b0 z0 cs ht hp;split at ha
   ·rename_i t' fo hf;split at ha
    ·rename_i te hte;split at ha
     ·rename_i r hr;obtain⟨h1,h2⟩:=cA ha;have:=zB h2;subst this;have hx:=he x;rw[hp]at hx;obtain⟨v,h3,h4⟩:=D5 (P:=P) hty ht rfl hx hf hte (aC h1) hr;exact wI (tc:=[]) hh h3 h4
     ·cases ha
    ·cases ha
   ·cases ha
  ·cases ha
 case indexAddr t x i=>simp only[yI]at ha;obtain⟨y,tc,v,h1,h2,h3⟩:=tf (P:=P) hty hh (he x) (he i) ha;subst h1;exact wI hh h2 h3
 case index t x i=>simp only[yI]at ha;obtain⟨y,v,h1,h2,h3⟩:=tg (P:=P) hty (he x) (he i) ha;subst h1;exact wI (tc:=[]) hh h2 h3
 case extract t i=>
  simp only[yI]at ha;split at ha
  ·rename_i vs hp;split at ha
   ·rename_i v hv;have:=zB ha;subst this;have hx:=he t;rw[hp]at hx;obtain⟨u,h1,h2⟩:=si (P:=P) hx hv;exact wI (tc:=[]) hh h1 h2
   ·cases ha
  ·cases ha
 case call c=>
  obtain⟨callee,args,ts⟩:=c;cases callee with
  |value f=>simp[yI]at ha
  |invoke r m=>simp[yI]at ha
  |builtin b=>
   simp only[yI]at ha;have hr:=rh (P:=P) hty hh (mA.map_ev he args.toList) ha hn1 o.type (args.map fun| .const _=>true|_=>false);have e1:(args.map ae)=(args.toList.map ae).toArray:=by apply Array.ext';simp
   simp only[resolve,b6,Sem.run_pure,w4,invoke,e1];exact hr
 case makeMap t r=>
  cases r with
  |some r=>cases ha
  |none=>exact oi hh ha hn1
 case range t x=>exact B8 hty hh (he x) ha hn1
 case entry x=>exact Aj hh (he x) ha
 case lookup t m i ok=>exact tv hty hh (he m) (he i) ha
 case mapUpdate t m i x=>exact kQ hty hh (he m) (he i) (he x) ha
 case insert t m i x=>exact kQ hty hh (he m) (he i) (he x) ha
 case mapEntry t m i=>exact jc hty hh (he m) (he i) ha
 case entryStore t m s x=>exact eY hh (he m) (he s) (he x) ha
 all_goals cases ha
end
section
variable {ty:Nat→Option TI}{nid:Nat}{h h':Nat→qA}
theorem aW {x:V}{k:IntKind}{s:Nat}{l:List Int}{t:List Nat}(hr:bT h x=some (k,s,l,t))(ht:∀id∈t,h' id=h id):bT h' x=some (k,s,l,t):=by
 cases x<;>simp only[bT]at hr⊢
 case sw id s'=>
  split at hr
  ·rename_i k' l' hid;simp only[Option.some.injEq,Prod.mk.injEq]at hr;obtain⟨rfl,rfl,rfl,rfl⟩:=hr;rw[ht id (by simp),hid]
  ·cases hr
 case sl id s' off len=>
  split at hr
  ·rename_i k' l' hid;simp only[Option.some.injEq,Prod.mk.injEq]at hr;obtain⟨rfl,rfl,rfl,rfl⟩:=hr;rw[ht id (by simp),hid]
  ·cases hr
 all_goals first|exact hr|cases hr
theorem uw {x:V}{s:Nat}{l:List V}{t:List Nat}(hr:uu h x=some (s,l,t))(ht:∀id∈t,h' id=h id):uu h' x=some (s,l,t):=by
 cases x<;>simp only[uu]at hr⊢
 case sw id s'=>
  split at hr
  ·rename_i l' hid;simp only[Option.some.injEq,Prod.mk.injEq]at hr;obtain⟨rfl,rfl,rfl⟩:=hr;rw[ht id (by simp),hid]
  ·cases hr
 all_goals first|exact hr|cases hr
theorem cZ {x:V}{n:Nat}{t:List Nat}(hr:rK h x=some (n,t))(ht:∀id∈t,h' id=h id):rK h' x=some (n,t):=by
 unfold rK at hr⊢;split at hr<;>first|exact hr|skip
 rename_i id s';split at hr
 all_goals first
  |cases hr;done
  |(simp only[Option.some.injEq,Prod.mk.injEq]at hr
    obtain⟨rfl,rfl⟩:=hr;rename_i hid
    try dsimp only
    rw[ht id (by simp),hid])
theorem uG {k:IntKind}{s:Nat}{x:V}{l:List Int}{t:List Nat}(hr:nG h k s x=some (l,t))(ht:∀id∈t,h' id=h id):nG h' k s x=some (l,t):=by
 unfold nG at hr⊢;split at hr<;>first|exact hr|skip
 rename_i h1 h2;split at hr
 ·rename_i k' w' l' t' hq;obtain⟨a1,a2⟩:=cA hr;simp only[Option.some.injEq,Prod.mk.injEq]at a2;obtain⟨rfl,rfl⟩:=a2;rw[aW hq ht];simp only[a1,cond_true]
 ·cases hr
theorem lQ {s:Nat}{x:V}{l:List V}{t:List Nat}(hr:kL h s x=some (l,t))(ht:∀id∈t,h' id=h id):kL h' s x=some (l,t):=by
 unfold kL at hr⊢;split at hr<;>first|exact hr|skip
 rename_i h1;split at hr
 ·rename_i w' l' t' hq;obtain⟨a1,a2⟩:=cA hr;simp only[Option.some.injEq,Prod.mk.injEq]at a2;obtain⟨rfl,rfl⟩:=a2;rw[uw hq ht];simp only[a1,cond_true]
 ·cases hr
theorem gQ {ti:TI}{d s:V}{b:Bool}{out:oF}(hr:pI ti h nid d s=some (b,out))(ht:∀id∈out.touch,h' id=h id):pI ti h' nid d s=some (b,out):=by
 unfold pI at hr⊢;cases hc:(!(Nat.blt 0 ti.bytes&&Nat.blt 0 ti.size))<;>rw[hc]at hr<;>simp only[cond_false,cond_true]at hr⊢
 ·split at hr
  ·rename_i k hk
   try rw[hk]
   try dsimp only
   split at hr
   ·cases hr
   ·rename_i src t hsrc;split at hr
    ·simp only[Option.some.injEq,Prod.mk.injEq]at hr;obtain⟨rfl,rfl⟩:=hr;rw[uG hsrc ht]
    ·rename_i id w';split at hr
     ·rename_i k' l hid;obtain⟨a1,a2⟩:=cA hr;simp only[Option.some.injEq,Prod.mk.injEq]at a2;obtain⟨rfl,rfl⟩:=a2;simp only[hD]at ht;rw[uG hsrc (fun id hid=>ht id (.inr hid))]
      try dsimp only
      rw[ht id (.inl rfl),hid];simp only[a1,cond_true]
     ·cases hr
    ·cases hr
  ·rename_i hk
   try rw[hk]
   try dsimp only
   split at hr
   ·cases hr
   ·rename_i src t hsrc;split at hr
    ·simp only[Option.some.injEq,Prod.mk.injEq]at hr;obtain⟨rfl,rfl⟩:=hr;rw[lQ hsrc ht]
    ·rename_i id w';split at hr
     ·rename_i l hid;obtain⟨a1,a2⟩:=cA hr;simp only[Option.some.injEq,Prod.mk.injEq]at a2;obtain⟨rfl,rfl⟩:=a2;simp only[hD]at ht;rw[lQ hsrc (fun id hid=>ht id (.inr hid))]
      try dsimp only
      rw[ht id (.inl rfl),hid];simp only[a1,cond_true]
     ·cases hr
    ·cases hr
 ·cases hr
theorem mh {ti:TI}{d s:V}{b:Bool}{out:oF}(hr:mg ti h d s=some (b,out))(ht:∀id∈out.touch,h' id=h id):mg ti h' d s=some (b,out):=by
 unfold mg at hr⊢;split at hr
 ·cases hr
 ·rename_i k hk
  try rw[hk]
  try dsimp only
  split at hr
  ·cases hr
  ·rename_i src t hsrc;split at hr
   ·rename_i id w';split at hr
    ·rename_i k' l hid;obtain⟨a1,a2⟩:=cA hr;simp only[Option.some.injEq,Prod.mk.injEq]at a2;obtain⟨rfl,rfl⟩:=a2;simp only[hD]at ht;rw[uG hsrc (fun id hid=>ht id (.inr hid))]
     try dsimp only
     rw[ht id (.inl rfl),hid];simp only[a1,cond_true]
    ·cases hr
   ·cases hr
theorem ox {x:V}{n:Nat}{t:List Nat}(hr:dt h x=some (n,t))(ht:∀id∈t,h' id=h id):dt h' x=some (n,t)∧rK h' x=none:=by
 unfold dt at hr⊢;split at hr
 ·rename_i id;split at hr
  ·rename_i hid;simp only[Option.some.injEq,Prod.mk.injEq]at hr;obtain⟨rfl,rfl⟩:=hr;have e:=ht id (by simp);rw[hid]at e;simp only[e,rK,and_self]
  ·cases hr
 ·cases hr
theorem zX {b:Builtin}{ts:List Nat}{xs:List V}{ok:Bool}{out:oF}(hr:sH ty nid b ts xs h=some (ok,out))(ht:∀id∈out.touch,h' id=h id):sH ty nid b ts xs h'=some (ok,out):=by
 unfold sH at hr⊢;split at hr
 ·split at hr
  ·split at hr
   ·rename_i ti n tc hti hlen;obtain⟨a1,a2⟩:=cA hr;simp only[Option.some.injEq,Prod.mk.injEq]at a2;obtain⟨rfl,rfl⟩:=a2;simp only[hti,cZ hlen ht,a1,cond_true]
   ·rename_i ti hti hlen;split at hr
    ·rename_i tk1 tk2 n tc htk hm;simp only[Option.some.injEq,Prod.mk.injEq]at hr;obtain⟨rfl,rfl⟩:=hr;obtain⟨m1,m2⟩:=ox hm ht;simp only[hti,m2,htk,m1]
    ·cases hr
   ·cases hr
  ·cases hr
 ·exact hr
 ·exact hr
 ·split at hr
  ·split at hr
   ·rename_i e _ _ _ t2 hti ht2
    try simp only[hti,ht2]
    split at hr
    ·rename_i htk
     try simp only[htk]
     split at hr
     ·rename_i te hte
      try simp only[hte]
      exact gQ hr ht
     ·cases hr
    ·rename_i htk
     try simp only[htk]
     split at hr
     ·rename_i te hte
      try simp only[hte]
      exact gQ hr ht
     ·cases hr
    ·cases hr
   ·cases hr
  ·cases hr
 ·split at hr
  ·split at hr
   ·rename_i e _ _ _ hti
    try simp only[hti]
    split at hr
    ·rename_i te hte
     try simp only[hte]
     exact mh hr ht
    ·cases hr
   ·cases hr
  ·cases hr
 ·cases hr
theorem s9 {t:Nat}{x i:V}{ok:Bool}{out:oF}(hr:aL ty t x i h=some (ok,out))(ht:∀id∈out.touch,h' id=h id):aL ty t x i h'=some (ok,out):=by
 unfold aL at hr⊢;split at hr
 ·rename_i e _ _ _ hti
  try simp only[hti]
  split at hr
  ·cases hr
  ·rename_i te hte
   try simp only[hte]
   split at hr
   ·rename_i id w';obtain⟨a1,a2⟩:=cA hr;split at a2
    all_goals first
     |cases a2;done
     |(rename_i hid
       simp only[Option.some.injEq,Prod.mk.injEq]at a2;obtain⟨rfl,rfl⟩:=a2;simp only[hD,u0,or_false]at ht;simp only[a1,cond_true,ht id rfl,hid])
   all_goals exact hr
 ·exact hr
 ·cases hr
theorem kb {t:Nat}{x:V}{lo hi mx:Option V}{ok:Bool}{out:oF}(hr:xU ty t x lo hi mx h=some (ok,out))(ht:∀id∈out.touch,h' id=h id):xU ty t x lo hi mx h'=some (ok,out):=by
 unfold xU at hr⊢;split at hr
 ·cases hr
 ·rename_i ti hti
  try simp only[hti]
  cases hc:(hi.isNone&&mx.isSome)<;>simp only[hc,cond_true,cond_false]at hr⊢
  ·split at hr
   ·rename_i hlen;split at hr
    ·rename_i htk;simp only[rK]
     try simp only[htk]
     exact hr
    ·cases hr
   ·rename_i len tc hlen;split at hr
    ·rename_i l h1 m hl hh1 hm;split at hr
     ·rename_i s htk;simp only[rK]at hlen⊢;simp only[Option.some.injEq,Prod.mk.injEq]at hlen;obtain⟨rfl,rfl⟩:=hlen;simp only[hl,hh1,hm,htk];exact hr
     ·rename_i e id w' htk;split at hr
      ·rename_i te hte;obtain⟨a1,a2⟩:=cA hr;simp only[Option.some.injEq,Prod.mk.injEq]at a2;obtain⟨rfl,rfl⟩:=a2;simp only[cZ hlen ht,hl,hh1,hm,htk,hte,a1,cond_true]
      ·cases hr
     ·rename_i e id w' off _ htk;simp only[rK]at hlen⊢;simp only[Option.some.injEq,Prod.mk.injEq]at hlen;obtain⟨rfl,rfl⟩:=hlen;simp only[hl,hh1,hm,htk];exact hr
     ·rename_i e k w' l0 htk;simp only[rK]at hlen⊢;simp only[Option.some.injEq,Prod.mk.injEq]at hlen;obtain⟨rfl,rfl⟩:=hlen;simp only[hl,hh1,hm,htk];exact hr
     ·rename_i e htk;simp only[rK]at hlen⊢;simp only[Option.some.injEq,Prod.mk.injEq]at hlen;obtain⟨rfl,rfl⟩:=hlen;simp only[hl,hh1,hm,htk];exact hr
     ·cases hr
    ·cases hr
  ·cases hr
theorem mf {s d:Nat}{x:V}{ok:Bool}{out:oF}(hr:bl ty nid s d x h=some (ok,out))(ht:∀id∈out.touch,h' id=h id):bl ty nid s d x h'=some (ok,out):=by
 unfold bl at hr⊢;split at hr
 ·rename_i ts td hts htd
  try simp only[hts,htd]
  split at hr
  ·rename_i htk;try simp only[htk]
   exact hr
  ·rename_i htk;try simp only[htk]
   exact hr
  ·rename_i htk;try simp only[htk]
   exact hr
  ·rename_i htk;try simp only[htk]
   exact hr
  ·rename_i htk _ _;split at hr
   ·rename_i e hts2;split at hr
    ·rename_i w' l t hte hrow;obtain⟨a1,a2⟩:=cA hr;simp only[Option.some.injEq,Prod.mk.injEq]at a2;obtain⟨rfl,rfl⟩:=a2;have hrow':=aW hrow ht;simp only[hts2,hte,hrow',a1,cond_true]
    ·cases hr
   ·cases hr
  ·cases hr
 ·cases hr
theorem oh {ti:TI}{a:V}{ok:Bool}{out:oF}(hr:tN ti a h=some (ok,out))(ht:∀id∈out.touch,h' id=h id):tN ti a h'=some (ok,out):=by
 unfold tN at hr⊢;split at hr
 ·rename_i id off ext;obtain⟨a1,a2⟩:=cA hr;split at a2
  ·rename_i v hv;simp only[Option.some.injEq,Prod.mk.injEq]at a2;obtain⟨rfl,rfl⟩:=a2;simp only[hD,u0,or_false]at ht;simp only[a1,cond_true,ht id rfl,hv]
  ·cases a2
 ·exact hr
 ·exact hr
 ·exact hr
 ·cases hr
theorem af {t:Nat}{m i:V}{c ok:Bool}{out:oF}(hr:oJ ty t m i c h=some (ok,out))(ht:∀id∈out.touch,h' id=h id):oJ ty t m i c h'=some (ok,out):=by
 unfold oJ at hr⊢;split at hr
 ·rename_i kt et s0 b0 z0 id hti;split at hr
  ·rename_i k n ks vs tk te hid htk hte;have key:h' id=h id:=by
    refine ht id ?_;split at hr
    ·obtain⟨_,a2⟩:=cA hr;simp only[Option.some.injEq,Prod.mk.injEq]at a2;obtain⟨_,rfl⟩:=a2;simp
    ·cases hr
   simp only[key,hid];simp only[hti,htk,hte];exact hr
  ·cases hr
 ·cases hr
theorem js {t:Nat}{m:V}{ok:Bool}{out:oF}(hr:rU ty nid t m h=some (ok,out))(ht:∀id∈out.touch,h' id=h id):rU ty nid t m h'=some (ok,out):=by
 unfold rU at hr⊢;split at hr
 ·rename_i kt et s0 b0 z0 id hti;split at hr
  ·rename_i k n ks vs hid;simp only[Option.some.injEq,Prod.mk.injEq]at hr;obtain⟨rfl,rfl⟩:=hr;have key:h' id=h id:=ht id (by simp);simp only[key,hid,hti]
  ·cases hr
 ·cases hr
theorem gl {m:V}{ok:Bool}{out:oF}(hr:zT m h=some (ok,out))(ht:∀id∈out.touch,h' id=h id):zT m h'=some (ok,out):=by
 unfold zT at hr⊢;split at hr
 ·rename_i id ext;split at hr
  ·rename_i mid gE rem cur hid;split at hr
   ·rename_i k n ks vs hmid;simp only[Option.some.injEq,Prod.mk.injEq]at hr;obtain⟨rfl,rfl⟩:=hr;have key:h' id=h id:=ht id (by simp);have key2:h' mid=h mid:=ht mid (by simp);simp only[key,hid,key2,hmid]
   ·cases hr
  ·cases hr
 ·cases hr
theorem kM {t:Nat}{m i x:V}{ok:Bool}{out:oF}(hr:gH ty t m i x h=some (ok,out))(ht:∀id∈out.touch,h' id=h id):gH ty t m i x h'=some (ok,out):=by
 unfold gH at hr⊢;split at hr
 ·rename_i kt et s0 b0 z0 id hti;split at hr
  ·rename_i k n ks vs tk hid htk;have key:h' id=h id:=by
    refine ht id ?_;split at hr
    ·split at hr
     ·obtain⟨_,a2⟩:=cA hr;simp only[Option.some.injEq,Prod.mk.injEq]at a2;obtain⟨_,rfl⟩:=a2;simp
     ·cases hr
    ·cases hr
   simp only[key,hid];simp only[hti,htk];exact hr
  ·cases hr
 ·cases hr
theorem nW {t:Nat}{m i:V}{ok:Bool}{out:oF}(hr:nH ty t m i h=some (ok,out))(ht:∀id∈out.touch,h' id=h id):nH ty t m i h'=some (ok,out):=by
 unfold nH at hr⊢;split at hr
 ·rename_i kt et s0 b0 z0 id hti;split at hr
  ·rename_i k n ks vs tk te hid htk hte;have key:h' id=h id:=by
    refine ht id ?_;split at hr
    ·split at hr
     ·obtain⟨_,a2⟩:=cA hr;simp only[Option.some.injEq,Prod.mk.injEq]at a2;obtain⟨_,rfl⟩:=a2;simp
     ·cases hr
    ·cases hr
   simp only[key,hid];simp only[hti,htk,hte];exact hr
  ·cases hr
 ·cases hr
theorem rR {m s x:V}{ok:Bool}{out:oF}(hr:lH m s x h=some (ok,out))(ht:∀id∈out.touch,h' id=h id):lH m s x h'=some (ok,out):=by
 unfold lH at hr⊢;split at hr
 ·rename_i id q;split at hr
  ·rename_i k n ks vs hid;have key:h' id=h id:=by
    refine ht id ?_;split at hr
    ·simp only[Option.some.injEq,Prod.mk.injEq]at hr;obtain⟨_,rfl⟩:=hr;simp
    ·cases hr
   simp only[key,hid];exact hr
  ·cases hr
 ·cases hr
theorem fV {ev:Operand→V}{op:Op}{ok:Bool}{out:oF}(hr:yI ty nid op ev h=some (ok,out))(ht:∀id∈out.touch,h' id=h id):yI ty nid op ev h'=some (ok,out):=by
 cases op
 case convert s d x=>exact mf hr ht
 case slice t x lo hi mx=>exact kb hr ht
 case indexAddr t x i=>exact s9 hr ht
 case load t a=>
  simp only[yI]at hr⊢;split at hr
  ·exact oh hr ht
  ·cases hr
 case call c=>
  obtain⟨cl,args,ts⟩:=c;cases cl
  case builtin b=>exact zX hr ht
  all_goals exact hr
 case store t a x=>
  simp only[yI]at hr⊢;split at hr
  ·rename_i ti id off ext hti ha;split at hr
   ·rename_i vs hvs;obtain⟨a1,a2⟩:=cA hr;split at a2
    ·rename_i b hb;simp only[Option.some.injEq,Prod.mk.injEq]at a2;obtain⟨rfl,rfl⟩:=a2;simp only[hD,u0,or_false]at ht;simp only[hti,ha,hvs,a1,cond_true,ht id rfl,hb]
    ·cases a2
   ·cases hr
  ·cases hr
 case makeFunc f _ _=>cases f<;>exact hr
 case makeMap t r=>cases r<;>exact hr
 case range t x=>exact js hr ht
 case entry x=>exact gl hr ht
 case lookup t m i c=>exact af hr ht
 case mapUpdate t m i x=>exact kM hr ht
 case insert t m i x=>exact kM hr ht
 case mapEntry t m i=>exact nW hr ht
 case entryStore t m s x=>exact rR hr ht
 all_goals exact hr
theorem jS {ev ev':Operand→V}(ps:Array (Nat×Operand))(he:∀x∈(ps.toList.map (·.2)).toArray,ev' x=ev x):(ps.toList.map fun p=>(p.1,ev' p.2))=ps.toList.map fun p=>(p.1,ev p.2):=
 hX fun p hp=>by rw[he p.2 (by simp only[List.mem_toArray,u1];exact⟨p,hp,rfl⟩)]
theorem ft {ev ev':Operand→V}{op:Op}{r:nP}(hr:yI ty nid op ev h=r)(he:∀x∈op.operands,ev' x=ev x):yI ty nid op ev' h=r:=by
 subst hr;cases op<;>simp only[Op.operands]at he<;>try rfl
 case build t ps=>simp only[yI,jS ps he]
 case buildSlice t n ps=>simp only[yI,jS ps he]
 case makeFunc fn first cap=>
  cases fn<;>try rfl
  simp only[yI];rw[hX (l:=first.toList) (f:=ev') (g:=ev) fun x hx=>he x (by simp at hx;simp[hx]),hX (l:=cap.toList) (f:=ev') (g:=ev) fun x hx=>he x (by simp at hx;simp[hx])]
 case call c=>
  obtain⟨cl,args,ts⟩:=c;cases cl<;>try rfl
  simp only[yI];rw[hX (l:=args.toList) (f:=ev') (g:=ev) fun x hx=>he x (by simp at hx;simp[Call.operands,hx])]
 case slice t x lo hi mx=>simp only[yI];cases lo<;>cases hi<;>cases mx<;>simp_all
 case makeMap t r=>cases r<;>rfl
 all_goals (simp only[yI];simp_all)
theorem s7 {ti:TI}{v:V}{k:IntKind}{s:Nat}{l:List Int}{gs:List Nat}(hr:Bi ty ti h v=some (k,s,l,gs))(ht:∀id∈gs,h' id=h id):Bi ty ti h' v=some (k,s,l,gs):=by
 unfold Bi at hr⊢;split at hr
 ·exact hr
 ·rename_i g s0;split at hr
  ·rename_i k0 l0 hg;simp only[Option.some.injEq,Prod.mk.injEq]at hr;obtain⟨rfl,rfl,rfl,rfl⟩:=hr;rw[ht g (by simp),hg]
  ·cases hr
 ·cases hr
theorem tX {ti:TI}{d s:V}{b:Bool}{out:oF}(hr:xJ ty ti h nid d s=some (b,out))(ht:∀id∈out.touch,h' id=h id):xJ ty ti h' nid d s=some (b,out):=by
 unfold xJ at hr;split at hr
 ·rename_i ids w1;split at hr
  ·rename_i e hids;split at hr
   ·rename_i k w l gs hrow;obtain⟨hg,hr2⟩:=cA hr;clear hr;unfold xJ;dsimp only;split at hr2
    ·simp only[Option.some.injEq,Prod.mk.injEq]at hr2;obtain⟨rfl,rfl⟩:=hr2;simp only[hD]at ht;rw[ht ids (.inl rfl),hids];dsimp only;rw[s7 hrow (fun id hid=>ht id (.inr hid))];dsimp only;rw[hg,cond_true]
    ·rename_i id w2;split at hr2
     ·rename_i k' w' rows hid;obtain⟨hq,hr3⟩:=cA hr2;simp only[Option.some.injEq,Prod.mk.injEq]at hr3;obtain⟨rfl,rfl⟩:=hr3;simp only[hD]at ht;rw[ht ids (.inr (.inl rfl)),hids];dsimp only;rw[s7 hrow (fun id hid=>ht id (.inr (.inr hid)))];dsimp only;rw[hg,cond_true,ht id (.inl rfl),hid];dsimp only;rw[hq,cond_true]
     ·cases hr2
    ·cases hr2
   ·cases hr
  ·cases hr
 ·cases hr
theorem tT {ti:TI}{d s:V}{b:Bool}{out:oF}(hr:wJ ti h d s=some (b,out))(ht:∀id∈out.touch,h' id=h id):wJ ti h' d s=some (b,out):=by
 unfold wJ at hr⊢;cases hc:(!(Nat.blt 0 ti.bytes&&Nat.blt 0 ti.size))<;>rw[hc]at hr<;>simp only[cond_false,cond_true]at hr⊢
 ·split at hr
  ·rename_i k hk
   try rw[hk]
   try dsimp only
   split at hr
   ·cases hr
   ·rename_i src t hsrc;split at hr
    ·rename_i id w';split at hr
     ·rename_i k' l hid;obtain⟨a1,a2⟩:=cA hr;simp only[Option.some.injEq,Prod.mk.injEq]at a2;obtain⟨rfl,rfl⟩:=a2;simp only[hD]at ht;rw[uG hsrc (fun id hid=>ht id (.inr hid))]
      try dsimp only
      rw[ht id (.inl rfl),hid];simp only[a1,cond_true]
     ·cases hr
    ·cases hr
  ·cases hr
 ·cases hr
theorem og {ti:TI}{id off ext:Nat}{k:IntKind}{s:Nat}{rows:List (List Int)}{hole:Option (Nat×Nat)}{b:Bool}{out:oF}(hr:di ti nid id off ext k s rows hole h=some (b,out))(ht:∀i∈out.touch,h' i=h i):
  di ti nid id off ext k s rows hole h'=some (b,out)∧id∈out.touch:=by
 unfold di at hr⊢;obtain⟨hc,hr2⟩:=cA hr;clear hr;rw[hc,cond_true];cases hole with
 |none=>dsimp only at hr2⊢;refine⟨hr2,?_⟩;simp only[Option.some.injEq,Prod.mk.injEq]at hr2;obtain⟨_,rfl⟩:=hr2;simp
 |some p=>
  obtain⟨j,g⟩:=p;dsimp only at hr2⊢;split at hr2
  ·rename_i k' l hg;obtain⟨hk,hr3⟩:=cA hr2;have e:=hr3;simp only[Option.some.injEq,Prod.mk.injEq]at e;obtain⟨_,rfl⟩:=e;dsimp only at ht⊢;rw[ht g (by simp),hg];dsimp only;rw[hk,cond_true];exact⟨hr3,by simp⟩
  ·cases hr2
theorem ke {ti:TI}{id off ext:Nat}{k:IntKind}{s:Nat}{rows:List (List Int)}{hole:Option (Nat×Nat)}{x:V}{b:Bool}{out:oF}(hr:zU ti id off ext k s rows hole x h=some (b,out))(ht:∀i∈out.touch,h' i=h i):
  zU ti id off ext k s rows hole x h'=some (b,out)∧id∈out.touch:=by
 unfold zU at hr⊢;split at hr
 ·rename_i g s';split at hr
  ·rename_i k' l hg;obtain⟨hk,hr3⟩:=cA hr;have e:=hr3;simp only[Option.some.injEq,Prod.mk.injEq]at e;obtain⟨_,rfl⟩:=e;dsimp only at ht⊢;rw[ht g (by simp),hg];dsimp only;rw[hk,cond_true];exact⟨hr3,by simp⟩
  ·cases hr
 ·cases hr
theorem ir {t id w n:Nat}{i:V}{b:Bool}{out:oF}(hr:iq ty t id w n i=some (b,out)):id∈out.touch:=by
 unfold iq at hr;split at hr
 ·split at hr
  ·obtain⟨_,hr⟩:=cA hr;simp only[Option.some.injEq,Prod.mk.injEq]at hr;obtain⟨_,rfl⟩:=hr;simp
  ·cases hr
 ·cases hr
theorem tq {ts:List Nat}{id w n:Nat}{b:Bool}{out:oF}(hr:Np ty ts id w n=some (b,out)):id∈out.touch:=by
 unfold Np at hr;split at hr
 ·split at hr
  ·obtain⟨_,hr⟩:=cA hr;simp only[Option.some.injEq,Prod.mk.injEq]at hr;obtain⟨_,rfl⟩:=hr;simp
  ·cases hr
 ·cases hr
theorem ma {keep:Bool}{b:Builtin}{ts:List Nat}{xs:List V}{ok:Bool}{out:oF}(hr:bh keep ty nid b ts xs h=some (some (ok,out)))(ht:∀id∈out.touch,h' id=h id):bh keep ty nid b ts xs h'=some (some (ok,out)):=by
 unfold bh at hr⊢;split at hr
 ·rename_i id w;split at hr
  ·rename_i k s rows hole hid;simp only[Option.some.injEq]at hr;have:=ht id (tq hr);rw[this,hid];dsimp only;rw[hr]
  ·cases hr
 ·split at hr
  ·split at hr
   ·split at hr
    ·rename_i ti hti
     try simp only[*]
     cases hs:ti.isSl<;>rw[hs]at hr<;>simp only[cond_true,cond_false]at hr⊢
     ·cases keep<;>simp only[cond_true,cond_false,Option.some.injEq]at hr⊢
      ·cases hr
      ·exact tT hr ht
     ·simp only[Option.some.injEq]at hr⊢;exact tX hr ht
    ·cases hr
   ·cases hr
  ·cases hr
 ·cases hr
theorem fq {keep:Bool}{ev:Operand→V}{op:Op}{ok:Bool}{out:oF}(hr:dO keep ty nid op ev h=some (some (ok,out)))(ht:∀id∈out.touch,h' id=h id):dO keep ty nid op ev h'=some (some (ok,out)):=by
 unfold dO at hr⊢;split at hr
 ·rename_i t x i;split at hr
  ·rename_i id w hx;split at hr
   ·rename_i k s rows hole hid;simp only[Option.some.injEq]at hr;have:=ht id (ir hr);simp only[hx,this,hid,hr]
   ·cases hr
  ·cases hr
 ·rename_i t a;split at hr
  ·rename_i id off ext ha;split at hr
   ·rename_i k s rows hole hid;simp only[Option.some.injEq]at hr;split at hr
    ·rename_i ti hti;obtain⟨e1,e2⟩:=og hr ht;simp only[ha,ht id e2,hid,hti,e1]
    ·cases hr
   ·cases hr
  ·cases hr
 ·rename_i t a x;split at hr
  ·rename_i id off ext ha;split at hr
   ·rename_i k s rows hole hid;simp only[Option.some.injEq]at hr;split at hr
    ·rename_i ti hti;obtain⟨e1,e2⟩:=ke hr ht;simp only[ha,ht id e2,hid,hti,e1]
    ·cases hr
   ·cases hr
  ·cases hr
 ·exact ma hr ht
 ·cases hr
theorem jW {keep:Bool}{ev:Operand→V}{op:Op}{ok:Bool}{out:oF}(hr:dO keep ty nid op ev h=none)(ha:yI ty nid op ev h=some (ok,out))(ht:∀id∈out.touch,h' id=h id):dO keep ty nid op ev h'=none:=by
 unfold dO at hr⊢;split at hr
 ·rename_i t x i;split at hr
  ·rename_i id w hx;have hm:id∈out.touch:=by
    simp only[yI,aL,hx]at ha;split at ha
    ·split at ha
     ·cases ha
     ·obtain⟨_,ha⟩:=cA ha;split at ha<;>first|(cases ha;done)|(simp only[Option.some.injEq,Prod.mk.injEq]at ha;obtain⟨_,rfl⟩:=ha;simp)
    ·split at ha
     ·cases ha
     ·rename_i h0;cases ha
    ·cases ha
   simp only[hx,ht id hm];split at hr
   ·cases hr
   ·exact hr
  ·rfl
 ·rename_i t a;split at hr
  ·rename_i id off ext hx;have hm:id∈out.touch:=by
    simp only[yI]at ha;split at ha
    ·simp only[tN,hx]at ha;obtain⟨_,ha⟩:=cA ha;split at ha
     ·simp only[Option.some.injEq,Prod.mk.injEq]at ha;obtain⟨_,rfl⟩:=ha;simp
     ·cases ha
    ·cases ha
   simp only[hx,ht id hm];split at hr
   ·cases hr
   ·exact hr
  ·rfl
 ·rename_i t a x;split at hr
  ·rename_i id off ext hx;have hm:id∈out.touch:=by
    simp only[yI,hx]at ha;split at ha
    ·rename_i ti id' off' ext' hti e;cases e;split at ha
     ·obtain⟨_,ha⟩:=cA ha;split at ha
      ·simp only[Option.some.injEq,Prod.mk.injEq]at ha;obtain⟨_,rfl⟩:=ha;simp
      ·cases ha
     ·cases ha
    ·cases ha
   simp only[hx,ht id hm];split at hr
   ·cases hr
   ·exact hr
  ·rfl
 ·rename_i b args ts;simp only[yI]at ha;generalize args.toList.map ev=xs at*;unfold bh at hr⊢;split at hr
  ·rename_i id w;have hm:id∈out.touch:=by
    simp only[sH]at ha;split at ha
    ·split at ha
     ·rename_i ti n tc hti hl;obtain⟨_,ha⟩:=cA ha;simp only[Option.some.injEq,Prod.mk.injEq]at ha;obtain⟨_,rfl⟩:=ha;simp only[rK]at hl;split at hl<;>first|(cases hl;done)|(simp only[Option.some.injEq,Prod.mk.injEq]at hl;obtain⟨_,rfl⟩:=hl;simp)
     ·split at ha
      ·rename_i hml;cases hml
      ·cases ha
     ·cases ha
    ·cases ha
   simp only[ht id hm];split at hr
   ·cases hr
   ·exact hr
  ·split at hr
   ·split at hr
    ·split at hr
     ·rename_i ti hti
      try simp only[*]
      cases hs:ti.isSl<;>rw[hs]at hr<;>simp only[cond_true,cond_false]at hr⊢
      ·cases keep<;>simp only[cond_true,cond_false]at hr⊢;cases hr
      ·cases hr
     ·try simp only[*]
    ·try simp only[*]
   ·try simp only[*]
  ·rfl
 ·rfl
theorem fQ {keep:Bool}{ev ev':Operand→V}{op:Op}{r:Option nP}(hr:dO keep ty nid op ev h=r)(he:∀x∈op.operands,ev' x=ev x):dO keep ty nid op ev' h=r:=by
 subst hr;cases op<;>simp only[Op.operands]at he<;>try rfl
 case call c=>
  obtain⟨cl,args,ts⟩:=c;cases cl<;>try rfl
  simp only[dO];rw[hX (l:=args.toList) (f:=ev') (g:=ev) fun x hx=>he x (by simp at hx;simp[Call.operands,hx])]
 all_goals (simp only[dO];simp_all)
end
theorem vu.go_pick {R:Type}(k:V→List qA→Option R):∀a:vu,a.go k=k a.pick.1 a.pick.2
 | .one _ _=>rfl
 | .two true _ _ _ _=>rfl
 | .two false _ _ _ _=>rfl
def an (tab:Nat→Option yA)(nid f:Nat)(args:List V)(h:Nat→qA)(out:oF):Prop:=
 ∃e at_ σ enc a,tab f=some e∧kD h e.imm args=at_∧xV h 3 (rM [] (iF at_.1))=σ∧
  e.dec (aR (vH · σ 0) at_.1) (σ.map fun i=>dI (vH · σ 0) (h i))=some (some a,enc)∧
  (enc a).pick.2.length≤σ.length+e.fresh∧σ.length≤(enc a).pick.2.length∧nodup σ=true∧jZ σ at_.2=false∧(iS h σ=true∧at_.2.all (fun i=>Nat.blt i top)=true∧(enc a).pick.2.all A0=true∧(enc a).pick.2.length≤top)∧out=cF σ at_.2 nid (enc a).pick.1 (enc a).pick.2
theorem rk {R:Type}{tab:Nat→Option yA}{nid f:Nat}{args:List V}{h:Nat→qA}{k:oF→Option R}{r:R}
  (hr:Ck tab nid f args h k=some r):∃out,an tab nid f args h out∧k out=some r:=by
 unfold Ck at hr;split at hr
 ·cases hr
 ·rename_i e he;dsimp only at hr;split at hr
  ·cases hr
  ·rename_i m enc hm;cases m with
   |none=>cases hr
   |some a=>dsimp only[Option.bind]at hr;rw[vu.go_pick]at hr;obtain⟨h1,h2⟩:=cA hr;simp only[hB,hW]at h1;obtain⟨⟨⟨⟨h3,h4⟩,h5⟩,h6⟩,h7,h8,h9,h10⟩:=h1;exact⟨_,⟨e,_,_,enc,a,he,rfl,rfl,hm,lE h3,lE h4,h5,h6,⟨h7,h8,h9,lE h10⟩,rfl⟩,h2⟩
theorem iI {i:Nat}:∀(r σ:List Nat),i∈σ→i∈rM σ r
 | [],σ,h=>h
 |j::r,σ,h=>by
  unfold rM;cases hc:σ.any (Nat.beq j)<;>simp only[cond_false,cond_true]
  ·exact iI r _ (by simp[h])
  ·exact iI r _ h
theorem pT {i:Nat}:∀(r σ:List Nat),i∈r→i∈rM σ r
 |j::r,σ,h=>by
  unfold rM;cases hc:σ.any (Nat.beq j)<;>simp only[cond_false,cond_true]
  ·rcases hD.mp h with rfl|h
   ·exact iI r _ (by simp)
   ·exact pT r _ h
  ·rcases hD.mp h with rfl|h
   ·simp only[x4]at hc;obtain⟨x,hx,hb⟩:=hc;have:=aB hb;subst this;exact iI r _ hx
   ·exact pT r _ h
theorem sU {h:Nat→qA}{i:Nat}:∀(n:Nat) (σ:List Nat),i∈σ→i∈xV h n σ
 |0,σ,hi=>hi
 |n+1,σ,hi=>sU n _ (iI _ _ hi)
theorem yV {h h':Nat→qA}:∀(n:Nat) (σ:List Nat),(∀id∈xV h n σ,h' id=h id)→xV h' n σ=xV h n σ
 |0,σ,_=>rfl
 |n+1,σ,he=>by
  unfold xV at he⊢;have h1:(σ.flatMap fun i=>vS (h' i))=σ.flatMap fun i=>vS (h i):=by
   have:∀i∈σ,vS (h' i)=vS (h i):=fun i hi=>by rw[he i (sU n _ (iI _ _ hi))]
   clear he;induction σ with
   |nil=>rfl
   |cons j σ ih=>simp only[List.flatMap_cons];rw[this j (by simp),ih (fun i hi=>this i (by simp[hi]))]
  rw[h1];exact yV n _ he
mutual
theorem yY {h h':Nat→qA}:∀(v:V),(∀id,id∈mK (fH h v).1∨id∈(fH h v).2→h' id=h id)→fH h' v=fH h v
 | .sw id w,he=>by
  have:h' id=h id:=by
   refine he id ?_;unfold fH;split
   ·exact .inr (by simp)
   ·cases Nat.beq w 1
    ·exact .inl (by simp[mK])
    ·exact .inr (by simp)
   ·split
    ·cases Nat.beq w 1
     ·exact .inl (by simp[mK])
     ·exact .inr (by simp)
    ·exact .inl (by simp[mK])
   ·exact .inl (by simp[mK])
  unfold fH;rw[this]
 | .sl id w off len,he=>by
  have:h' id=h id:=by
   refine he id ?_;unfold fH;split
   ·exact .inr (by simp)
   ·exact .inl (by simp[mK])
  unfold fH;rw[this]
 | .agg cs,he=>by unfold fH at he⊢;rw[xY cs (fun id hid=>he id (by simpa[mK]using hid))]
 | .c _,_=>rfl
 | .poison,_=>rfl
 | .ptr _ _ _,_=>rfl
 | .mref _,_=>rfl
 | .il _ _ _,_=>rfl
 | .iv _ _,_=>rfl
 | .ilp _ _ _ _,_=>rfl
 | .ivp _ _ _ _,_=>rfl
 | .inl _ _ _,_=>rfl
 | .inlp _ _ _ _,_=>rfl
 | .lv _,_=>rfl
 | .tup _,_=>rfl
 | .fn _ _ _,_=>rfl
theorem xY {h h':Nat→qA}:∀(vs:List V),(∀id,id∈iF (dU h vs).1∨id∈(dU h vs).2→h' id=h id)→dU h' vs=dU h vs
 | [],_=>rfl
 |v::r,he=>by unfold dU at he⊢;rw[yY v (fun id hid=>he id (by simp only[iF,aE];rcases hid with h|h<;>simp[h])),xY r (fun id hid=>he id (by simp only[iF,aE];rcases hid with h|h<;>simp[h]))]
end
theorem rL {h h':Nat→qA}:∀(bs:List Bool) (vs:List V),(∀id,id∈iF (kD h bs vs).1∨id∈(kD h bs vs).2→h' id=h id)→kD h' bs vs=kD h bs vs
 | [],vs,_=>by simp[kD]
 |true::bs,[],_=>by simp[kD]
 |false::bs,[],_=>by simp[kD]
 |true::bs,v::r,he=>by unfold kD at he⊢;rw[yY v (fun id hid=>he id (by simp only[iF,aE];rcases hid with h|h<;>simp[h])),rL bs r (fun id hid=>he id (by simp only[iF,aE];rcases hid with h|h<;>simp[h]))]
 |false::bs,v::r,he=>by unfold kD at he⊢;rw[rL bs r (fun id hid=>he id (by simp only[iF,aE];rcases hid with h|h<;>simp[h]))]
theorem tV {h h':Nat→qA}{l:List Nat}(ht:∀id∈l,h' id=h id)(hl:iS h l=true):iS h' l=true:=by
 unfold iS at hl⊢;rw[hV]at hl⊢;intro i hi;rw[ht i hi];exact hl i hi
theorem an.congr_h {tab:Nat→Option yA}{nid f:Nat}{args:List V}{h h':Nat→qA}{out:oF}(hc:an tab nid f args h out)(ht:∀id∈out.touch,h' id=h id):an tab nid f args h' out:=by
 obtain⟨e,at_,σ,enc,a,h1,h2,h3,h4,h5,h6,h7,h8,h10,h9⟩:=hc;have ht':∀id,id∈σ∨id∈at_.2→h' id=h id:=fun id hid=>ht id (by subst h9;simpa[cF]using hid);have hσ:∀id∈iF at_.1,id∈σ:=fun id hid=>by subst h3;exact sU _ _ (pT _ _ hid)
 refine⟨e,at_,σ,enc,a,h1,?_,?_,?_,h5,h6,h7,h8,⟨tV (fun id hid=>ht' id (.inl hid)) h10.1,h10.2⟩,h9⟩
 ·rw[rL _ _ (fun id hid=>?_)]
  ·exact h2
  ·rw[h2]at hid;exact ht' id (hid.imp (hσ id) (fun x=>x))
 ·rw[yV _ _ (fun id hid=>ht' id (.inl (h3▸hid)))];exact h3
 ·rw[hX (g:=fun i=>dI (vH · σ 0) (h i)) (fun i hi=>by rw[ht' i (.inl hi)])];exact h4
def qp (T:Nat→V):Operand→V
 | .tmp t=>T t
 | .const v=>kv v
 | .global _=>.poison
 | .func f=>.fn f [] []
theorem gq (T:List (Nat×V)):Qk T=qp (fE T):=by funext x;cases x<;>rfl
def lf (E:yC)(nid:Nat)(o:Oper)(T:Nat→V)(h:Nat→qA)(out:oF):Prop:=
 (∃f args ts g first cap,o.op= .call ⟨.value f,args,ts⟩∧qp T f= .fn g first cap∧an E.tab nid g (first++(args.toList.map (qp T)++cap)) h out)∨
 dO E.keep E.ty nid o.op (qp T) h=some (some (true,out))∨
 (dO E.keep E.ty nid o.op (qp T) h=none∧yI E.ty nid o.op (qp T) h=some (true,out)∧oW h out=true)
theorem mr {R:Type}{E:yC}{nid:Nat}{o:Oper}{T:List (Nat×V)}{h:Nat→qA}{k:oF→Option R}{r:R}(hr:gn E nid o T h k=some r):∃out,lf E nid o (fE T) h out∧k out=some r:=by
 unfold gn at hr;split at hr
 ·rename_i f args ts hop;rw[gq]at hr;split at hr
  ·rename_i g first cap hf
   obtain⟨out,h1,h2⟩:=rk hr;exact⟨out,.inl ⟨f,args,ts,g,first,cap,hop,hf,h1⟩,h2⟩
  ·cases hr
 ·rw[gq]at hr;split at hr
  ·rename_i r' hn;split at hr
   ·cases hr
   ·rename_i ok out;obtain⟨h1,h2⟩:=cA hr;subst h1;exact⟨out,.inr (.inl hn),h2⟩
  ·rename_i hn;split at hr
   ·cases hr
   ·rename_i ok out ha;obtain⟨h0,hr0⟩:=cA hr;obtain⟨h1,h2⟩:=cA hr0;subst h1;exact⟨out,.inr (.inr ⟨hn,ha,h0⟩),h2⟩
theorem vl {h h':Nat→qA}{out:oF}(ht:∀id∈out.touch,h' id=h id)(hl:oW h out=true):oW h' out=true:=by
 unfold oW at hl⊢;simp only[hB]at hl⊢;exact⟨tV ht hl.1,hl.2⟩
theorem lf.congr {E:yC}{nid:Nat}{o:Oper}{T T':Nat→V}{h h':Nat→qA}{out:oF}(hx:lf E nid o T h out)(hT:∀x∈o.op.operands,qp T' x=qp T x)(ht:∀id∈out.touch,h' id=h id):lf E nid o T' h' out:=by
 rcases hx with⟨f,args,ts,g,first,cap,h1,h2,h3⟩|ha|⟨ha1,ha2,ha3⟩
 ·rw[h1]at hT;refine .inl ⟨f,args,ts,g,first,cap,h1,?_,?_⟩
  ·rw[hT f (by simp[Op.operands,Call.operands])];exact h2
  ·rw[hX (g:=qp T) (fun x hx=>hT x (by simp at hx;simp[Op.operands,Call.operands,hx]))];exact h3.congr_h ht
 ·exact .inr (.inl (fQ (fq ha ht) hT))
 ·exact .inr (.inr ⟨fQ (jW ha1 ha2 ht) hT,ft (fV ha2 ht) hT,vl ht ha3⟩)
def nM (all:List Oper)(T:Nat→V)(o:Oper):Option Bool:=match o.guard with
 |none=>some true
 |some (j,want)=>match(all[j]?).bind (·.dst)with
  |none=>none
  |some g=>match T g with
   | .c (.bool b)=>some (b==want)
   | .c (.tuple _)=>some false
   |_=>none
def lI (T:Nat→V)(d:Option Nat)(v:V):Nat→V:=match d with
 |some d=>fun t=>if t=d then v else T t
 |none=>T
theorem gS (T:List (Nat×V))(d:Option Nat)(v:V):fE (B6 T d v)=lI (fE T) d v:=by
 cases d with
 |none=>rfl
 |some d=>
  funext t;simp only[B6,lI,fE];cases hb:Nat.beq d t<;>simp only[cond_false,cond_true]
  ·rw[if_neg (fun e=>by subst e;simp at hb)]
  ·rw[if_pos (aB hb).symm]
theorem qP (T:List (Nat×V))(g:Nat)(v:V)(h:fE T g=v):fE ((g,v)::T)=fE T:=by
 funext t;simp only[fE];cases hb:Nat.beq g t<;>simp only[cond_false,cond_true];rw[←aB hb,h]
def jK (nid:Nat):List qA→List (Nat×qA)
 | []=>[]
 |b::r=>(nid,b)::jK (nid+1) r
theorem yD (h:Nat→qA):∀(a b:List (Nat×qA)),bD h (a++b)=bD (bD h a) b:=by
 intro a;induction a generalizing h with
 |nil=>intro b;rfl
 |cons p a ih=>intro b;obtain⟨i,x⟩:=p;funext j;simp only[q0,bD];rw[ih]
theorem Pu (h:Nat→qA)(nid:Nat)(bs:List qA):qk h nid bs=bD h (jK nid bs):=by
 induction bs generalizing h nid with
 |nil=>rfl
 |cons b r ih=>funext j;simp only[jK,qk,bD];rw[ih]
theorem fL (h:Nat→qA)(nid:Nat)(out:oF):tG h nid out=bD h (out.wr++jK nid out.new):=by
 unfold tG;rw[Pu,yD]
theorem lS (nid:Nat)(bs:List qA):(jK nid bs).map (·.1)=(List.range bs.length).map (nid+ ·):=by
 induction bs generalizing nid with
 |nil=>rfl
 |cons b r ih=>simp only[jK,cP,iX,l5,c5,ih];simp[Function.comp_def,Nat.add_assoc,Nat.add_comm 1]
theorem gB {h:Nat→qA}{ups:List (Nat×qA)}{j:Nat}(hj:j∉ups.map (·.1)):bD h ups j=h j:=by
 induction ups generalizing h with
 |nil=>rfl
 |cons p r ih=>obtain⟨i,b⟩:=p;simp only[cP,hD,not_or]at hj;simp only[bD];rw[ih hj.2,if_neg hj.1]
theorem v7 {h h':Nat→qA}{ups:List (Nat×qA)}{j:Nat}(hj:j∈ups.map (·.1)):bD h ups j=bD h' ups j:=by
 induction ups generalizing h h' with
 |nil=>cases hj
 |cons p r ih=>
  obtain⟨i,b⟩:=p;simp only[bD];by_cases hr:j∈r.map (·.1)
  ·exact ih hr
  ·simp only[cP,hD,hr,or_false]at hj;rw[gB hr,gB hr,if_pos hj,if_pos hj]
theorem Br {h:Nat→qA}{a b:List (Nat×qA)}(hd:∀j∈a.map (·.1),j∉b.map (·.1)):bD (bD h a) b=bD (bD h b) a:=by
 funext j;by_cases ha:j∈a.map (·.1)
 ·rw[gB (hd j ha)];exact v7 ha
 ·rw[gB (ups:=a) ha];by_cases hb:j∈b.map (·.1)
  ·exact v7 hb
  ·rw[gB hb,gB hb,gB ha]
theorem B5 {T:Nat→V}{x y:Option Nat}{v u:V}(h:∀d,x=some d→y≠some d):lI (lI T x v) y u=lI (lI T y u) x v:=by
 cases x with
 |none=>rfl
 |some d=>
  cases y with
  |none=>rfl
  |some e=>
   have hne:d≠e:=fun he=>h d rfl (he▸rfl);funext t;simp only[lI];by_cases h1:t=e
   ·subst h1;rw[if_pos rfl,if_neg (Ne.symm hne),if_pos rfl]
   ·rw[if_neg h1];by_cases h2:t=d
    ·rw[if_pos h2,if_pos h2]
    ·rw[if_neg h2,if_neg h2,if_neg h1]
structure nX where
 i:Nat
 v:V
 touch:List Nat
 ups:List (Nat×qA)
def nX.fp (r:nX):Fp:=⟨r.i,r.touch,r.ups.map (·.1)⟩
structure vJ where
 i:Nat
 nid:Nat
 o:Oper
def eK (tab:Nat→Option yA):Nat→Nat→List Oper→List vJ
 |_,_,[]=>[]
 |i,nid,o::r=>⟨i,nid,o⟩::eK tab (i+1) (nid+yN tab o.op) r
def rH (E:yC)(all:List Oper)(len:Nat)(x:vJ)(T:Nat→V)(h:Nat→qA)(r:nX):Prop:=
 r.i=x.i∧wu E.ntmps x.o.dst=true∧
 ((nM all T x.o=some true∧∃out,lf E x.nid x.o T h out∧r=⟨x.i,out.val,out.touch,out.wr++jK x.nid out.new⟩∧out.new.length≤yN E.tab x.o.op∧x.nid+yN E.tab x.o.op≤len∧len≤top∧∀p∈out.wr,p.1<len)∨
  (nM all T x.o=some false∧r=⟨x.i,bI,[],[]⟩))
def Tr (E:yC)(all:List Oper)(len:Nat):List vJ→(Nat→V)→(Nat→qA)→List nX→(Nat→V)→(Nat→qA)→Prop
 | [],T,h,[],T',h'=>T'=T∧h'=h
 |x::xs,T,h,r::rs,T',h'=>rH E all len x T h r∧Tr E all len xs (lI T x.o.dst r.v) (bD h r.ups) rs T' h'
 |_,_,_,_,_,_=>False
theorem wB:∀(H:List qA) (i:Nat) (x:qA),(oC H i x).length=H.length
 | [],_,_=>rfl
 |_::_,0,_=>rfl
 |_::r,n+1,x=>by simp[oC,wB r]
theorem q8:∀(ups:List (Nat×qA)) (H:List qA),(Bt H ups).length=H.length
 | [],_=>rfl
 |(i,b)::r,H=>by simp[Bt,q8 r,wB]
theorem yb:∀(bs:List qA) (H:List qA) (nid:Nat),E9 H nid bs=Bt H (jK nid bs)
 | [],_,_=>rfl
 |b::r,H,nid=>by simp only[E9,jK,Bt];exact yb r _ _
theorem o8:∀(a b:List (Nat×qA)) (H:List qA),Bt (Bt H a) b=Bt H (a++b)
 | [],_,_=>rfl
 |(i,x)::r,b,H=>by simp only[Bt,q0];exact o8 r b _
theorem yL:∀(H:List qA) (i:Nat) (x:qA),i<H.length→rA (oC H i x)=fun j=>if j=i then x else rA H j
 | [],_,_,h=>by simp at h
 |b::r,0,x,_=>by funext j;cases j<;>simp[oC,rA]
 |b::r,n+1,x,h=>by
  funext j;cases j with
  |zero=>simp[oC,rA]
  |succ j=>simp[oC,rA,yL r n x (by simpa using h)]
theorem az:∀(ups:List (Nat×qA)) (H:List qA),(∀p∈ups,p.1<H.length)→rA (Bt H ups)=bD (rA H) ups
 | [],_,_=>rfl
 |(i,b)::r,H,h=>by simp only[Bt];rw[az r _ (fun p hp=>by rw[wB];exact h p (by simp[hp])),yL _ _ _ (h (i,b) (by simp))];rfl
theorem ya {nid:Nat}{bs:List qA}{p:Nat×qA}(hp:p∈jK nid bs):nid≤p.1∧p.1<nid+bs.length:=by
 have:p.1∈(jK nid bs).map (·.1):=y0 hp;rw[lS]at this;simp at this;obtain⟨a,h1,h2⟩:=this;omega
theorem rz {R:Type}{E:yC}{all:List Oper}{r:R}{k:St→List Fp→Option R}:∀(rest:List Oper) (i nid:Nat) (T:List (Nat×V)) (H:List qA) (fps:List Fp),iY E all i rest nid T H fps k=some r→
  ∃rs T' H',Tr E all H.length (eK E.tab i nid rest) (fE T) (rA H) rs (fE T') (rA H')∧H'.length=H.length∧k ⟨T',H'⟩ ((rs.map nX.fp).reverse++fps)=some r:=by
 intro rest;induction rest with
 |nil=>intro i nid T H fps hr;exact⟨[],T,H,⟨rfl,rfl⟩,rfl,hr⟩
 |cons o rest ih=>
  intro i nid T H fps hr;unfold iY at hr;dsimp only at hr;obtain⟨hd,hr⟩:=cA hr;have hgo:∀T1:List (Nat×V),fE T1=fE T→nM all (fE T) o=some true→(gn E nid o T1 (rA H) fun out=>bif Ek H nid (yN E.tab o.op) out then
    iY E all (i+1) rest (nid+yN E.tab o.op) (B6 T1 o.dst out.val) (E9 (Bt H out.wr) nid out.new)
     (⟨i,out.touch,out.wr.map (·.1)++(List.range out.new.length).map (nid+ ·)⟩::fps) k
    else none)=some r→∃rs T' H',Tr E all H.length (eK E.tab i nid (o::rest)) (fE T) (rA H) rs (fE T') (rA H')∧H'.length=H.length∧k ⟨T',H'⟩ ((rs.map nX.fp).reverse++fps)=some r:=by
   intro T1 hT1 hw hr;obtain⟨out,hx,hr⟩:=mr hr;obtain⟨hok,hr⟩:=cA hr;simp only[Ek,hB,hV]at hok;obtain⟨⟨o1,o2,o4⟩,o3⟩:=hok;have o1:=lE o1;have o2:=lE o2;have o4:=lE o4;rw[yb,o8]at hr;obtain⟨rs,T',H',h1,h2,h3⟩:=ih _ _ _ _ _ hr;rw[q8]at h1 h2;rw[az _ _ (fun p hp=>by
    rcases aE.mp hp with hp|hp
    ·exact aC (o3 p hp)
    ·have:=ya hp;omega)]at h1
   rw[gS,hT1]at h1;refine⟨⟨i,out.val,out.touch,out.wr++jK nid out.new⟩::rs,T',H',⟨⟨rfl,hd,.inl ⟨hw,out,hT1▸hx,rfl,o1,o2,o4,fun p hp=>aC (o3 p hp)⟩⟩,h1⟩,h2,?_⟩;simp only[cP,u4,c0,n3];unfold nX.fp;simp only[x3,lS];exact h3
  have hskip:∀T1:List (Nat×V),fE T1=fE T→nM all (fE T) o=some false→iY E all (i+1) rest (nid+yN E.tab o.op) (B6 T1 o.dst bI) H (⟨i,[],[]⟩::fps) k=some r→
    ∃rs T' H',Tr E all H.length (eK E.tab i nid (o::rest)) (fE T) (rA H) rs (fE T') (rA H')∧H'.length=H.length∧k ⟨T',H'⟩ ((rs.map nX.fp).reverse++fps)=some r:=by
   intro T1 hT1 hw hr;obtain⟨rs,T',H',h1,h2,h3⟩:=ih _ _ _ _ _ hr;rw[gS,hT1]at h1;refine⟨⟨i,bI,[],[]⟩::rs,T',H',⟨⟨rfl,hd,.inr ⟨hw,rfl⟩⟩,h1⟩,h2,?_⟩;simp only[cP,u4,c0,n3];exact h3
  split at hr
  ·rename_i hg;exact hgo T rfl (by simp[nM,hg]) hr
  ·rename_i j want hg;split at hr
   ·cases hr
   ·rename_i g hgd;have hwant:∀b,fE T g= .c (.bool b)→nM all (fE T) o=some (b==want):=fun b hb=>by simp[nM,hg,hgd,hb]
    split at hr
    ·rename_i hb;cases want<;>simp only[cond_true,cond_false]at hr
     ·exact hskip _ (qP _ _ _ hb) (hwant _ hb) hr
     ·exact hgo _ (qP _ _ _ hb) (hwant _ hb) hr
    ·rename_i hb;cases want<;>simp only[cond_true,cond_false]at hr
     ·exact hgo _ (qP _ _ _ hb) (hwant _ hb) hr
     ·exact hskip _ (qP _ _ _ hb) (hwant _ hb) hr
    ·rename_i vs hb;exact hskip _ rfl (by simp[nM,hg,hgd,hb]) hr
    ·cases hr
section
theorem qW {d:Nat}{l:List Nat}:l.any (Nat.beq d)=true↔d∈l:=by
 simp only[x4];constructor
 ·rintro⟨x,hx,hb⟩;have:=aB hb;subst this;exact hx
 ·intro h;exact⟨d,h,by simp⟩
theorem dL {d:Nat}{l:List Nat}:(!(l.any (Nat.beq d)))=true↔d∉l:=by
 rw[hW,←Bool.not_eq_true,qW]
theorem sP {a b:List Nat}:(!jZ a b)=true↔∀j∈a,j∉b:=by
 unfold jZ;rw[hW,←Bool.not_eq_true,x4];simp only[not_exists,not_and];constructor
 ·intro h j hj hb;exact h j hj (qW.mpr hb)
 ·intro h j hj hb;exact h j hj (qW.mp hb)
variable {E:yC}{all:List Oper}{len:Nat}
theorem rH.congr {x:vJ}{T T':Nat→V}{h h':Nat→qA}{r:nX}(hc:rH E all len x T h r)(hT:∀t∈sV all x.o,T' t=T t)(hh:∀id∈r.touch,h' id=h id):rH E all len x T' h' r:=by
 obtain⟨h1,h2,h3⟩:=hc;have hop:∀y∈x.o.op.operands,qp T' y=qp T y:=by
  intro y hy;cases y with
  |tmp t=>refine hT t ?_;unfold sV Mf;exact y3 _ (List.mem_filterMap.mpr ⟨.tmp t,by simpa using hy,rfl⟩)
  |_=>rfl
 have hw:nM all T' x.o=nM all T x.o:=by
  unfold nM;cases hg:x.o.guard with
  |none=>rfl
  |some gw=>
   obtain⟨j,want⟩:=gw;dsimp only;cases hd:(all[j]?).bind (·.dst)with
   |none=>rfl
   |some g=>dsimp only;rw[hT g (by unfold sV;rw[hg];simp only[hd];exact p0 _ (by simp))]
 refine⟨h1,h2,?_⟩;rw[hw];rcases h3 with⟨a1,out,a2,a3,a4⟩|h3
 ·exact .inl ⟨a1,out,a2.congr hop (by subst a3;exact hh),a3,a4⟩
 ·exact .inr h3
structure Bx (all:List Oper)(x y:vJ)(rx ry:nX):Prop where
 a1:∀d,x.o.dst=some d→d∉sV all y.o
 a2:∀d,x.o.dst=some d→y.o.dst≠some d
 a3:∀d,y.o.dst=some d→d∉sV all x.o
 b1:(∀j∈rx.touch,j∉ry.ups.map (·.1))∨ix x.o.op y.o.op=true
 b2:∀j∈rx.ups.map (·.1),j∉ry.touch
 b3:∀j∈rx.ups.map (·.1),j∉ry.ups.map (·.1)
theorem ed {T:Nat→V}{dst:Option Nat}{v:V}{t:Nat}(h:∀d,dst=some d→d≠t):lI T dst v t=T t:=by
 cases dst with
 |none=>rfl
 |some d=>simp only[lI];rw[if_neg (fun e=>h d rfl e.symm)]
theorem xw {l:List Int}:∀(ks:List (List Int)) (n:Nat) {j:Nat},sD l ks n=some j→n≤j∧j<n+ks.length
 | [],_,_,h=>by simp[sD]at h
 |k::r,n,j,h=>by
  simp only[sD]at h;cases hb:rQ l k<;>rw[hb]at h
  ·obtain⟨a,b⟩:=xw r (n+1) h;simp only[iX];omega
  ·simp only[cond_true,Option.some.injEq]at h;subst h;simp only[iX];omega
theorem mq:∀(l:List Int),rQ l l=true
 | []=>rfl
 |a::r=>by simp[rQ,mq r]
theorem vV {l:List Int}:∀(ks:List (List Int)) (n:Nat),sD l ks n=none→sD l (ks++[l]) n=some (n+ks.length)
 | [],n,_=>by simp[sD,mq]
 |k::r,n,h=>by
  simp only[sD]at h;cases hb:rQ l k<;>rw[hb]at h
  ·simp only[q0,sD,hb,cond_false];rw[vV r (n+1) h];simp only[iX,Option.some.injEq];omega
  ·cases h
theorem kZ {α:Type}{d:α}{l:List Int}{ks:List (List Int)}{vs:List α}:
  (match sD l (oB l ks) 0 with|some j=>(iH l (match sD l ks 0 with|some j=>vs.getD j d|none=>d) ks (vs.take ks.length)).getD j d|none=>d)=
   (match sD l ks 0 with|some j=>vs.getD j d|none=>d):=by
 cases hm:sD l ks 0 with
 |none=>
  have hK:oB l ks=ks++[l]:=by simp[oB,hJ,hm]
  rw[hK,vV ks 0 hm];simp only[iH,hm];rw[hA];by_cases hl:ks.length≤vs.length
  ·rw[hU (by simp;omega)];simp[Nat.min_eq_left hl]
  ·rw[hF (by simp;omega)];rfl
 |some j=>
  have hj:=xw ks 0 hm;have hK:oB l ks=ks:=by simp[oB,hJ,hm]
  rw[hK,hm];simp only[iH,hm];rw[hA,hA];by_cases hv:j<vs.length
  ·rw[List.getElem?_set_self (by simp;omega)];rfl
  ·rw[hF (by simp;omega),hF (by omega)]
theorem ig {l:List Int}{ks:List (List Int)}{vs c:xN}{v:V}(hv:eH l ks vs=some v)(hc:yQ l ks (xP ks.length vs) v=some c):
  eH l (oB l ks) c=some v∧∀te,uM te c=uM te vs:=by
 cases vs with
 |strs _=>simp[eH]at hv
 |ints k vs=>simp only[eH,Option.some.injEq]at hv;subst hv;simp only[xP,yQ]at hc;obtain⟨_,h2⟩:=cA hc;simp only[Option.some.injEq]at h2;subst h2;refine⟨?_,fun te=>rfl⟩;simp only[eH,Option.some.injEq];congr 2;exact kZ
 |bools vs=>simp only[eH,Option.some.injEq]at hv;subst hv;simp only[xP,yQ,Option.some.injEq]at hc;subst hc;refine⟨?_,fun te=>rfl⟩;simp only[eH,Option.some.injEq];congr 2;exact kZ
theorem tu {ty:Nat→Option TI}{t:Nat}{m i:V}{h:Nat→qA}{out outy:oF}(hx:oJ ty t m i false h=some (true,out))(hy:nH ty t m i h=some (true,outy)):
  outy.new=[]∧oJ ty t m i false (bD h outy.wr)=some (true,out):=by
 unfold nH at hy;split at hy
 ·rename_i kt et s0 b0 z0 id ht;split at hy
  ·rename_i k n ks vs tk te hid htk hte;split at hy
   ·rename_i l v hl hv;split at hy
    ·rename_i c hcol;obtain⟨hc,h2⟩:=cA hy;simp only[Option.some.injEq,Prod.mk.injEq,true_and]at h2;subst h2;refine⟨rfl,?_⟩;rw[hl]at hv;simp only at hv;obtain⟨g1,g2⟩:=ig hv hcol;unfold oJ at hx⊢;simp only[ht,hid,htk,hte,hl,hv]at hx;simp only[bD,ht,if_pos,htk,hte,hl,g1,g2];exact hx
    ·cases hy
   ·cases hy
  ·cases hy
 ·cases hy
theorem z7 {h:Nat→qA}{ups:List (Nat×qA)}(hu:∀p∈ups,p.2.isNw=false){i:Nat}(hi:(h i).isNw=false):(bD h ups i).isNw=false:=by
 induction ups generalizing h with
 |nil=>exact hi
 |cons p r ih=>
  obtain⟨j,b⟩:=p;simp only[bD];refine ih (fun q hq=>hu q (by simp[hq])) ?_;split
  ·exact hu (j,b) (by simp)
  ·exact hi
theorem Md {h:Nat→qA}{ups:List (Nat×qA)}{out:oF}(hl:oW h out=true)(hu:∀p∈ups,p.2.isNw=false):oW (bD h ups) out=true:=by
 unfold oW iS at hl⊢;simp only[hB,hV,hW]at hl⊢;exact⟨fun i hi=>⟨(hl.1 i hi).1,z7 hu (hl.1 i hi).2⟩,hl.2⟩
theorem E8 {nid:Nat}:∀(bs:List qA),(jK nid bs).map (·.2)=bs:=by
 intro bs;induction bs generalizing nid with
 |nil=>rfl
 |cons b r ih=>simp only[jK,cP,ih]
theorem qg {h:Nat→qA}{nid:Nat}{out:oF}(hl:oW h out=true):∀p∈out.wr++jK nid out.new,p.2.isNw=false:=by
 unfold oW at hl;simp only[hB,hV,hW]at hl;intro p hp;rcases aE.mp hp with hp|hp
 ·exact(hl.2.1 p hp).2
 ·refine hl.2.2 p.2 ?_;have:p.2∈(jK nid out.new).map (·.2):=y0 hp;rw[E8]at this;exact this
theorem rH.look {x y:vJ}{T:Nat→V}{h:Nat→qA}{rx ry:nX}(hx:rH E all len x T h rx)(hy:rH E all len y T h ry)(hl:ix x.o.op y.o.op=true):rH E all len x T (bD h ry.ups) rx:=by
 obtain⟨h1,h2,h3⟩:=hx;obtain⟨_,_,hy⟩:=hy;refine⟨h1,h2,?_⟩;rcases h3 with⟨a1,out,a2,a3,a4⟩|h3
 ·rcases hy with⟨b1,outy,b2,b3,b4⟩|⟨_,b3⟩
  ·refine .inl ⟨a1,out,?_,a3,a4⟩;unfold ix at hl;split at hl
   ·rename_i t a b t' a' b' e1 e2;simp only[hB]at hl;obtain⟨l1,l2,l3⟩:=hl;have l1:=aB l1;have l2:=aB l2;have l3:=aB l3;subst l1;subst l2;subst l3;rcases a2 with⟨_,_,_,_,_,_,e3,_⟩|a2|⟨_,a2,a5⟩
    ·rw[e1]at e3;cases e3
    ·rw[e1]at a2;simp[dO]at a2
    ·rcases b2 with⟨_,_,_,_,_,_,e3,_⟩|b2|⟨_,b2,b5⟩
     ·rw[e2]at e3;cases e3
     ·rw[e2]at b2;simp[dO]at b2
     ·rw[e1]at a2;rw[e2]at b2;refine .inr (.inr ⟨by rw[e1];rfl,?_,?_⟩)
      ·rw[e1];obtain⟨g1,g2⟩:=tu (ty:=E.ty) a2 b2;subst b3;simp only[g1,jK,List.append_nil];exact g2
      ·subst b3;exact Md a5 (qg b5)
   ·cases hl
  ·subst b3;exact .inl ⟨a1,out,a2,a3,a4⟩
 ·exact .inr h3
theorem rH.swap {x y:vJ}{T:Nat→V}{h:Nat→qA}{rx ry:nX}(hx:rH E all len x T h rx)(hy:rH E all len y (lI T x.o.dst rx.v) (bD h rx.ups) ry)(ha:Bx all x y rx ry):
  rH E all len y T h ry∧rH E all len x (lI T y.o.dst ry.v) (bD h ry.ups) rx∧lI (lI T x.o.dst rx.v) y.o.dst ry.v=lI (lI T y.o.dst ry.v) x.o.dst rx.v∧bD (bD h rx.ups) ry.ups=bD (bD h ry.ups) rx.ups:=by
 have hy':rH E all len y T h ry:=hy.congr (fun t ht=>(ed (fun d hd he=>ha.a1 d hd (he▸ht))).symm) (fun id hid=>(gB (fun hm=>ha.b2 id hm hid)).symm);have hT:∀t∈sV all x.o,lI T y.o.dst ry.v t=T t:=fun t ht=>ed (fun d hd he=>ha.a3 d hd (he▸ht));refine⟨hy',?_,B5 ha.a2,Br ha.b3⟩;rcases ha.b1 with hb|hl
 ·exact hx.congr hT (fun id hid=>gB (hb id hid))
 ·exact(hx.look hy' hl).congr hT (fun _ _=>rfl)
def Bu (E:yC)(all:List Oper)(len:Nat):List (vJ×nX)→(Nat→V)→(Nat→qA)→(Nat→V)→(Nat→qA)→Prop
 | [],T,h,T',h'=>T'=T∧h'=h
 |p::xs,T,h,T',h'=>rH E all len p.1 T h p.2∧Bu E all len xs (lI T p.1.o.dst p.2.v) (bD h p.2.ups) T' h'
theorem Tr.pairs:∀{xs:List vJ} {T:Nat→V} {h:Nat→qA} {rs:List nX} {T':Nat→V} {h':Nat→qA},Tr E all len xs T h rs T' h'→∃L:List (vJ×nX),L.map (·.1)=xs∧L.map (·.2)=rs∧Bu E all len L T h T' h'
 | [],_,_,[],_,_,ht=>⟨[],rfl,rfl,ht⟩
 |x::xs,_,_,r::rs,_,_,ht=>by obtain⟨h1,h2⟩:=ht;obtain⟨L,a1,a2,a3⟩:=Tr.pairs h2;exact⟨(x,r)::L,by simp[a1],by simp[a2],h1,a3⟩
 | [],_,_,_::_,_,_,ht=>ht.elim
 |_::_,_,_,[],_,_,ht=>ht.elim
theorem Bu.front {p:vJ×nX}{L2:List (vJ×nX)}{T':Nat→V}{h':Nat→qA}:∀(L1:List (vJ×nX)) (T:Nat→V) (h:Nat→qA),Bu E all len (L1++p::L2) T h T' h'→(∀q∈L1,Bx all q.1 p.1 q.2 p.2)→
  rH E all len p.1 T h p.2∧Bu E all len (L1++L2) (lI T p.1.o.dst p.2.v) (bD h p.2.ups) T' h'
 | [],_,_,ht,_=>ht
 |q::L1,T,h,ht,ha=>by obtain⟨h1,h2⟩:=ht;obtain⟨h3,h4⟩:=Bu.front L1 _ _ h2 (fun q hq=>ha q (by simp[hq]));obtain⟨s1,s2,s3,s4⟩:=h1.swap h3 (ha q (by simp));rw[s3,s4]at h4;exact⟨s1,s2,h4⟩
def gk (o:Oper):List Nat:=(o.after.toList.filter (Region.binds .any)).map (·.on)
theorem dp {accf:Nat→Nat}{x:Nat}:∀(ds:List Nat) (m:Nat),(ds.foldl (fun m d=>m|||(1<<<d)|||accf d) m).testBit x=true→
  m.testBit x=true∨x∈ds∨∃d∈ds,(accf d).testBit x=true
 | [],m,h=>Or.inl h
 |d::ds,m,h=>by
  rw[List.foldl_cons]at h;rcases dp ds _ h with h|h|⟨e,he,h⟩
  ·rw[Nat.testBit_or,Nat.testBit_or,Nat.testBit_shiftLeft]at h;simp only[e5,hB,decide_eq_true_eq]at h;rcases h with(h|⟨h1,h2⟩)|h
   ·exact Or.inl h
   ·have hz:x-d=0:=by
     rcases Nat.eq_zero_or_pos (x-d)with h|h
     ·exact h
     ·rw[Nat.testBit_lt_two_pow (Nat.one_lt_two_pow (by omega))]at h2;cases h2
    have:x=d:=by omega
    exact Or.inr (Or.inl (by simp[this]))
   ·exact Or.inr (Or.inr ⟨d,by simp,h⟩)
  ·exact Or.inr (Or.inl (e0 _ h))
  ·exact Or.inr (Or.inr ⟨e,e0 _ he,h⟩)
theorem fy {S:Nat→Prop}(hS:∀j o,S j→all[j]?=some o→∀d∈gk o,S d):
  ∀(rest:List Oper) (acc:List Nat),all=all.take acc.length++rest→acc.length≤all.length→(∀j o,j<acc.length→all[j]?=some o→(∀d∈gk o,S d)→∀x,(acc.reverse.getD j 0).testBit x=true→S x)→
   ∀j o,all[j]?=some o→(∀d∈gk o,S d)→∀x,((vK rest acc).getD j 0).testBit x=true→S x:=by
 intro rest;induction rest with
 |nil=>
  intro acc hall hle hinv j o hj hd x hx;simp only[vK]at hx;have:j<acc.length:=by have hjl:j<all.length:=(zE.mp hj).1;have:=congrArg List.length hall;simp at this;omega
  exact hinv j o this hj hd x hx
 |cons o rest ih=>
  intro acc hall hle hinv;have hlen:acc.length<all.length:=by have:=congrArg List.length hall;simp at this;omega
  have hat:all[acc.length]?=some o:=by
   have h2:(all.take acc.length++o::rest)[acc.length]?=some o:=by rw[hU (by simp;omega)];simp[Nat.min_eq_left hle]
   rw[←hall]at h2;exact h2
  simp only[vK];refine ih _ ?_ (by simp;omega) ?_
  ·simp only[iX];rw[List.take_add_one,hat];simp only[Option.toList,c0,n3];exact hall
  ·intro j oj hj hoj hd x hx;simp only[u4]at hx;simp only[iX]at hj;rcases hP j acc.length with hlt|hge
   ·refine hinv j oj hlt hoj hd x ?_;rw[hA,hN (by simpa using hlt)]at hx;rw[hA];exact hx
   ·have:j=acc.length:=by omega
    subst this;rw[hat]at hoj;simp only[Option.some.injEq]at hoj;subst hoj;rw[hA,hU (by simp)]at hx;simp only[List.length_reverse,Nat.sub_self,List.getElem?_cons_zero,hR]at hx;rcases dp _ _ hx with hx|hx|⟨d,hd1,hx⟩
    ·rw[Nat.zero_testBit]at hx;cases hx
    ·exact hd x hx
    ·have hSd:=hd d hd1;rcases hP d acc.length with hlt|hge
     ·have hdl:d<all.length:=by omega
      exact hinv d _ hlt (yK hdl) (fun d' hd'=>hS d _ hSd (yK hdl) d' hd') x hx
     ·rw[hA,hF (by simpa using hge)]at hx;rw[Option.getD_none,Nat.zero_testBit]at hx;cases hx
theorem iQ:∀(rest:List Oper) (k:Nat),xL k rest=true→∀j o,rest[j]?=some o→∀d∈gk o,d<k+j
 | [],_,_,j,o,hj=>by simp at hj
 |x::r,k,hb,0,o,hj=>by simp at hj;subst hj;simp only[xL,hB,hV]at hb;intro d hd;simp only[gk,u1,hY]at hd;obtain⟨e,⟨h1,h2⟩,rfl⟩:=hd;have:=hb.1 e h1;rw[h2]at this;simp at this;omega
 |x::r,k,hb,j+1,o,hj=>by simp only[xL,hB]at hb;intro d hd;have:=iQ r (k+1) hb.2 j o (by simpa using hj) d hd;omega
theorem uN {bef:List Nat}:∀(l:List Fp),jj all bef l=true→l.Pairwise (fun y x=>nt all bef x y=true)
 | [],_=>.nil
 |y::r,h=>by simp only[jj,hB,hV]at h;exact .cons h.1 (uN r h.2)
section
variable {P:Program}{ops:Array Oper}{Q:Exit→Act→World→Prop}
theorem oq {o:Oper}{d:Nat}:d∈gk o↔∃e∈o.after,Region.binds .any e=true∧e.on=d:=by
 simp only[gk,u1,hY,Array.mem_toList_iff];constructor
 ·rintro⟨e,⟨h1,h2⟩,h3⟩;exact⟨e,h1,h2,h3⟩
 ·rintro⟨e,h1,h2,h3⟩;exact⟨e,⟨h1,h2⟩,h3⟩
theorem lW {l:Array Bool}{i:Nat}(h:l.getD i false=true):l.getD i true=true:=by
 rw[xK]at h⊢;cases hc:l[i]?<;>rw[hc]at h<;>simp_all
theorem mW {l:Array Bool}{i:Nat}(hi:i<l.size)(h:l.getD i true=true):l.getD i false=true:=by
 rw[xK,Array.getElem?_eq_getElem hi]at h⊢;exact h
theorem Mp (I:(Nat→V)→(Nat→qA)→List vJ→Act→World→Prop){T':Nat→V}{h':Nat→qA}
  (hstep:∀T h pre x post r a w K,rH E ops.toList len x T h r→I T h (pre++x::post) a w→ops[x.i]?=some x.o→(∀a' w',I (lI T x.o.dst r.v) (bD h r.ups) (pre++post) a' w'→K a' w')→wpOp P ops Q x.i K a w)
  (hb:xL 0 ops.toList=true)(hQ:∀a w,I T' h' [] a w→Q .normal a w):
  ∀(fuel:Nat) (listed:Array Bool) (L:List (vJ×nX)) (T:Nat→V) (h:Nat→qA) (a:Act) (w:World),Bu E ops.toList len L T h T' h'→I T h (L.map (·.1)) a w→L.length≤fuel→
   listed.size=ops.size→L.map (·.1.i)=(List.range ops.size).filter (fun i=>!listed.getD i true)→(∀p∈L,ops[p.1.i]?=some p.1.o)→(∀p∈L,p.2.i=p.1.i)→
   L.Pairwise (fun p q=>nt ops.toList (vK ops.toList []) p.2.fp q.2.fp=true)→
   (∀j o,listed.getD j false=true→ops[j]?=some o→∀d∈gk o,listed.getD d false=true)→
   wpAny P .any ops Q fuel listed a w:=by
 intro fuel;induction fuel with
 |zero=>
  intro listed L T h a w ht hI hlen hsz hL ho hri hpw hcl;have:L=[]:=z1.mp (by omega);subst this;obtain⟨rfl,rfl⟩:=ht;refine⟨?_,hQ a w hI⟩;rw[List.eq_nil_iff_forall_not_mem];intro j hj;rw[mem_ready]at hj;obtain⟨h0,o,hjo,_⟩:=hj;have hjl:j<ops.size:=(x0.mp hjo).1;have:j∈(List.range ops.size).filter (fun i=>!listed.getD i true):=by simp only[hY,y1];exact⟨hjl,by rw[h0];rfl⟩
  rw[←hL]at this;simp at this
 |succ fuel ih=>
  intro listed L T h a w ht hI hlen hsz hL ho hri hpw hcl;refine⟨fun hr=>?_,fun i hi=>?_⟩
  ·cases L with
   |nil=>obtain⟨rfl,rfl⟩:=ht;exact hQ a w hI
   |cons p L=>
    exfalso;have hpo:=ho p (by simp);have hpl:p.1.i<ops.size:=(x0.mp hpo).1;have hin:p.1.i∈(List.range ops.size).filter (fun i=>!listed.getD i true):=by rw[←hL];simp
    simp only[hY,y1,hW]at hin;have hfirst:∀j,j<p.1.i→listed.getD j true=true:=by
     intro j hj;cases hc:listed.getD j true with
     |true=>rfl
     |false=>
      exfalso;have hm:j∈(p::L).map (·.1.i):=by rw[hL];simp only[hY,y1];exact⟨by omega,by rw[hc];rfl⟩
      have hsorted:((p::L).map (·.1.i)).Pairwise (· < ·):=by rw[hL];exact List.Pairwise.filter _ List.pairwise_lt_range
      simp only[cP,n4,hD]at hsorted hm;rcases hm with rfl|hm
      ·omega
      ·have:=hsorted.1 j hm;omega
    have hrd:p.1.i∈Region.ready .any ops listed:=by rw[mem_ready];refine⟨hin.2,p.1.o,hpo,fun e he hbe=>?_⟩;have hlt:e.on<0+p.1.i:=iQ _ _ hb p.1.i p.1.o (by simpa using hpo) e.on (oq.mpr ⟨e,he,hbe,rfl⟩);exact mW (by omega) (hfirst e.on (by omega))
    rw[hr]at hrd;cases hrd
  ·have hi':=hi;rw[mem_ready]at hi;obtain⟨h0,o,hio,hdeps⟩:=hi;have hil:i<ops.size:=(x0.mp hio).1;have hm:i∈L.map (·.1.i):=by rw[hL];simp only[hY,y1];exact⟨hil,by rw[h0];rfl⟩
   obtain⟨p,hpL,hpi⟩:=u1.mp hm;obtain⟨L1,L2,rfl⟩:=List.append_of_mem hpL;have hpo:=ho p hpL;have hd':∀d∈gk o,listed.getD d false=true:=fun d hd=>by obtain⟨e,he,hbe,rfl⟩:=oq.mp hd;exact hdeps e he hbe
   have hbef:∀x,((vK ops.toList []).getD i 0).testBit x=true→listed.getD x false=true:=
    fy (all:=ops.toList) (S:=fun j=>listed.getD j false=true) (fun j o hj hjo=>hcl j o hj (by simpa using hjo)) ops.toList [] (by simp) (by simp) (fun j o hj=>by simp at hj) i o (by simpa using hio) hd'
   have hap:∀q∈L1,Bx ops.toList q.1 p.1 q.2 p.2:=by
    intro q hq;have hind:nt ops.toList (vK ops.toList []) q.2.fp p.2.fp=true:=by rw[e4]at hpw;exact hpw.2.2 q hq p (by simp)
    have hqL:q∈L1++p::L2:=by simp[hq]
    have hqu:listed.getD q.1.i true=false:=by have:q.1.i∈(L1++p::L2).map (·.1.i):=y0 hqL;rw[hL]at this;simp only[hY,hW]at this;exact this.2
    simp only[nt,nX.fp]at hind;rw[hri q hqL,hri p hpL,hpi,e5,hB,hB,hB]at hind;rcases hind with hind|⟨⟨⟨h1,h2⟩,h3⟩,h4⟩
    ·have:=lW (hbef _ hind);rw[hqu]at this;cases this
    ·have e1:ops.toList.getD q.1.i default=q.1.o:=by rw[hA];have:=ho q hqL;simp[this]
     have e2:ops.toList.getD i default=p.1.o:=by rw[←hpi,hA];simp[hpo]
     rw[e1,e2]at h1 h2;simp only[Cd,hB]at h1;refine⟨fun d hd=>?_,fun d hd he=>?_,fun d hd=>?_,((e5 _ _).mp h2).imp sP.mp id,sP.mp h3,sP.mp h4⟩
     ·have:=h1.1;rw[hd]at this;simp only[hB]at this;exact dL.mp this.1
     ·have:=h1.1;rw[hd]at this;simp only[hB]at this;exact dL.mp this.2 (by simp[he])
     ·have:=h1.2;rw[hd]at this;exact dL.mp this
   obtain⟨hc,ht'⟩:=Bu.front L1 T h ht hap;rw[←hpi];refine hstep T h (L1.map (·.1)) p.1 (L2.map (·.1)) p.2 a w _ hc (by simpa using hI) hpo (fun a' w' hI'=>?_);refine ih _ (L1++L2) _ _ a' w' ht' (by simpa using hI') (by simp at hlen⊢;omega) (by simpa using hsz) ?_ ?_ ?_ ?_ ?_
   ·have hnd:((L1++p::L2).map (·.1.i)).Nodup:=by rw[hL];exact(List.nodup_range).filter _
    have hf:((List.range ops.size).filter fun j=>!(listed.setIfInBounds p.1.i true).getD j true)=(((List.range ops.size).filter fun j=>!listed.getD j true).filter fun j=>j != p.1.i):=by
     rw[List.filter_filter];refine List.filter_congr (fun j hj=>?_);by_cases hji:j=p.1.i
     ·subst hji;have:(listed.setIfInBounds p.1.i true).getD p.1.i true=true:=by
       rw[xK,Array.getElem?_setIfInBounds_self];split<;>rfl
      rw[this];simp
     ·rw[getD_set_ne true (Ne.symm hji)];simp[hji]
    rw[hf,←hL];simp only[x3,cP,List.filter_append,List.filter_cons,bne_self_eq_false,j1,if_false];simp only[x3,cP,List.nodup_append,c4,hD]at hnd;obtain⟨_,⟨hn1,_⟩,hn2⟩:=hnd;rw[k4.mpr,k4.mpr]
    ·intro x hx;simp only[bne_iff_ne,ne_eq];rintro rfl;exact hn1 hx
    ·intro x hx;simp only[bne_iff_ne,ne_eq];rintro rfl;exact hn2 _ hx _ (.inl rfl) rfl
   ·intro q hq;refine ho q ?_;simp only[aE,hD]at hq⊢;rcases hq with h|h<;>simp[h]
   ·intro q hq;refine hri q ?_;simp only[aE,hD]at hq⊢;rcases hq with h|h<;>simp[h]
   ·exact hpw.sublist (List.Sublist.append_left (s5 _ _) _)
   ·intro j oj hj hoj d hd;by_cases hji:j=p.1.i
    ·subst hji;rw[hpi,hio]at hoj;simp only[Option.some.injEq]at hoj;subst hoj;exact getD_set_true (hd' d hd)
    ·rw[getD_set_ne false (Ne.symm hji)]at hj;exact getD_set_true (hcl j oj hj hoj d hd)
theorem Mq (I:(Nat→V)→(Nat→qA)→List vJ→Act→World→Prop){T':Nat→V}{h':Nat→qA}
  (hstep:∀T h pre x post r a w K,rH E ops.toList len x T h r→I T h (pre++x::post) a w→ops[x.i]?=some x.o→(∀a' w',I (lI T x.o.dst r.v) (bD h r.ups) (pre++post) a' w'→K a' w')→wpOp P ops Q x.i K a w)
  (hQ:∀a w,I T' h' [] a w→Q .normal a w):
  ∀(L:List (vJ×nX)) (T:Nat→V) (h:Nat→qA) (a:Act) (w:World),Bu E ops.toList len L T h T' h'→I T h (L.map (·.1)) a w→(∀p∈L,ops[p.1.i]?=some p.1.o)→wpOps P ops Q (L.map (·.1.i)) a w:=by
 intro L;induction L with
 |nil=>intro T h a w ht hI ho;obtain⟨rfl,rfl⟩:=ht;exact hQ a w hI
 |cons p L ih=>intro T h a w ht hI ho;simp only[cP];rw[wpOps_cons];exact hstep T h [] p.1 (L.map (·.1)) p.2 a w _ ht.1 (by simpa using hI) (ho p (by simp)) (fun a' w' hI'=>ih _ _ a' w' ht.2 (by simpa using hI') (fun q hq=>ho q (by simp[hq])))
end
end
theorem eC:∀(bs:List qA) (j:Nat),rA bs j=bs.getD j .dead
 | [],_=>by simp[rA]
 |_::_,0=>by simp[rA]
 |b::r,j+1=>by simp[rA,eC r j]
theorem qR:∀(bs:List qA) (n:Nat),br bs n=bs.drop n
 |_,0=>by simp[br]
 | [],_+1=>by simp[br]
 |_::r,n+1=>by simp[br,qR r n]
theorem ay {m:Nat→Option Nat}(bs:List qA)(j:Nat):rA (bs.map (dI m)) j=dI m (rA bs j):=by
 rw[eC,eC];simp only[hA,u2];cases bs[j]?<;>rfl
theorem eV {h:Nat→qA}{nid:Nat}{bs:List qA}{id:Nat}(h1:nid≤id)(h2:id<nid+bs.length):bD h (jK nid bs) id=rA bs (id-nid):=by
 induction bs generalizing h nid with
 |nil=>simp at h2;omega
 |cons b r ih=>
  simp only[jK,bD];by_cases he:id=nid
  ·subst he;rw[gB (fun hm=>by rw[lS]at hm;simp at hm;omega),if_pos rfl];simp[rA]
  ·rw[ih (by omega) (by simp at h2;omega)];have:id-nid=(id- (nid+1))+1:=by omega
   rw[this];rfl
theorem sO {nid:Nat}{bs:List qA}{id:Nat}(h:¬(nid≤id∧id<nid+bs.length)):id∉(jK nid bs).map (·.1):=by
 rw[lS];simp;intro x hx;omega
theorem kT:∀(σ:List Nat) (bs:List qA) (i:Nat),i∈(v8 σ bs).map (·.1)→i∈σ
 | [],_,i,h=>by simp[v8]at h
 |_::_,[],i,h=>by simp[v8]at h
 |j::r,b::s,i,h=>by simp only[v8,cP,hD]at h⊢;exact h.imp id (kT r s i)
theorem oZ:∀(σ:List Nat),nodup σ=true→σ.Nodup
 | [],_=>List.nodup_nil
 |i::r,h=>by simp only[nodup,hB]at h;exact c4.mpr ⟨dL.mp h.1,oZ r h.2⟩
theorem fg:∀(σ:List Nat) (bs:List qA) (h:Nat→qA) (j i:Nat),σ.Nodup→σ.length≤bs.length→σ[j]?=some i→bD h (v8 σ bs) i=rA bs j
 | [],_,_,_,_,_,_,hi=>by simp at hi
 |x::r,[],_,_,_,_,hl,_=>by simp at hl
 |x::r,b::s,h,0,i,hn,hl,hi=>by simp at hi;subst hi;simp only[v8,bD];rw[gB (fun hm=>(c4.mp hn).1 (kT _ _ _ hm)),if_pos rfl];rfl
 |x::r,b::s,h,j+1,i,hn,hl,hi=>by simp only[v8,bD];rw[fg r s _ j i (c4.mp hn).2 (by simpa using hl) (by simpa using hi)];rfl
theorem aQ:∀(τ:List Nat) (h:Nat→qA) (i:Nat),i∈τ→bD h (τ.map fun i=>(i,qA.dead)) i= .dead
 |x::r,h,i,hi=>by
  simp only[cP,bD];by_cases hr:i∈r
  ·exact aQ r _ i hr
  ·rw[gB (by simpa[Function.comp_def]using hr)];rcases hD.mp hi with rfl|hi
   ·rw[if_pos rfl]
   ·exact absurd hi hr
theorem sZ:∀(σ:List Nat) (i n j:Nat),vH i σ n=some j→n≤j∧σ[j-n]?=some i
 | [],i,n,j,h=>by simp[vH]at h
 |x::r,i,n,j,h=>by
  simp only[vH]at h;cases hb:Nat.beq x i<;>rw[hb]at h<;>simp only[cond_true,cond_false]at h
  ·obtain⟨h1,h2⟩:=sZ r i (n+1) j h;refine⟨by omega,?_⟩;have:j-n=(j- (n+1))+1:=by omega
   rw[this];simpa using h2
  ·simp only[Option.some.injEq]at h;subst h;have:=aB hb;subst this;simp
theorem rZ {σ:List Nat}{nid j i:Nat}(h:σ[j]?=some i):sF σ nid j=some i:=by unfold sF;rw[h]
theorem qZ {σ:List Nat}{nid j:Nat}(h:σ.length≤j)(ht:j<top):sF σ nid j=some (nid+(j-σ.length)):=by
 unfold sF;rw[hF h];have:Nat.blt j top=true:=w3 ht;rw[this];rfl
theorem jk {σ:List Nat}{nid j:Nat}(h:σ.length≤j)(ht:top≤j):sF σ nid j=none:=by
 unfold sF;rw[hF h];have:Nat.blt j top=false:=by
  cases hb:Nat.blt j top with
  |false=>rfl
  |true=>have:=aC hb;omega
 rw[this];rfl
def kH (γ:Nat→Nat)(s:Nat)(hole:Option (Nat×Nat))(i:Nat):V:=match hole with
 |some (j,g)=>if i=j then .sw g s else .sw (γ i) s
 |none=>.sw (γ i) s
def jD (γ:Nat→Nat)(s:Nat)(hole:Option (Nat×Nat))(n:Nat):List V:=(List.range n).map (kH γ s hole)
def uB (h:Nat→qA)(j i:Nat):Prop:=∃k s rows hole,j<top∧h j= .nw k s rows hole∧i<rows.length∧∀g,hole≠some (i,g)
structure fC (h:Nat→qA)(γ:Nat→Nat→Nat)(v:Nat→qA):Prop where
 plain:∀j,j<top→(h j).isNw=false→v j=h j
 nest:∀j k s rows hole,j<top→h j= .nw k s rows hole→v j= .vals (jD (γ j) s hole rows.length)
 row:∀j i k s rows hole,j<top→h j= .nw k s rows hole→i<rows.length→(∀g,hole≠some (i,g))→top≤γ j i∧v (γ j i)= .ints k (rows.getD i [])
 inj:∀j i j' i',uB h j i→uB h j' i'→γ j i=γ j' i'→j=j'∧i=i'
 rest:∀g,top≤g→(v g).live→∃j i,uB h j i∧γ j i=g
 high:∀j,top≤j→h j= .dead
def T4 (h v:Nat→qA):Prop:=∃γ,fC h γ v
def Bd (ρ:xC):Prop:=∃G,∀g,G≤g→ρ g=none
theorem qA.dead_of {x:qA}(h:¬x.live):x= .dead:=by
 cases x<;>first|rfl|exact absurd trivial h
theorem xA (γ:Nat→Nat)(s:Nat)(hole:Option (Nat×Nat))(n:Nat):(jD γ s hole n).length=n:=by simp[jD]
theorem yF (γ:Nat→Nat)(s:Nat)(hole:Option (Nat×Nat)){n i:Nat}(h:i<n):(jD γ s hole n)[i]?=some (kH γ s hole i):=by
 simp[jD,h]
theorem fC.flat {h:Nat→qA}(hf:∀j,(h j).isNw=false)(ht:∀j,top≤j→h j= .dead):fC h (fun _ i=>i) h where
 plain _ _ _:=rfl
 nest j k s rows hole _ hj:=by have:=hf j;rw[hj]at this;cases this
 row j i k s rows hole _ hj:=by have:=hf j;rw[hj]at this;cases this
 inj j i j' i' hl:=by obtain⟨k,s,rows,hole,_,hj,_⟩:=hl;have:=hf j;rw[hj]at this;cases this
 rest g hg hl:=by rw[ht g hg]at hl;exact hl.elim
 high:=ht
theorem tW {x:qA}(h:x.isNw=true):∃k s rows hole,x= .nw k s rows hole:=by
 match x,h with
 | .nw k s rows hole,_=>exact⟨k,s,rows,hole,rfl⟩
theorem fC.dead {h:Nat→qA}{γ:Nat→Nat→Nat}{v:Nat→qA}(ho:fC h γ v){j:Nat}(hj:j<top)(hd:¬(v j).live):h j= .dead:=by
 cases hn:(h j).isNw with
 |true=>obtain⟨k,s,rows,hole,e⟩:=tW hn;rw[ho.nest j k s rows hole hj e]at hd;exact absurd trivial hd
 |false=>have:=ho.plain j hj hn;rw[this]at hd;exact qA.dead_of hd
theorem fC.upd {h:Nat→qA}{γ:Nat→Nat→Nat}{v:Nat→qA}(ho:fC h γ v){ups:List (Nat×qA)}(hlt:∀p∈ups,p.1<top)(hold:∀p∈ups,(h p.1).isNw=false)(hnew:∀p∈ups,p.2.isNw=false):
  fC (bD h ups) γ (bD v ups):=by
 have hin:∀j,j∈ups.map (·.1)→j<top∧(bD h ups j).isNw=false∧(h j).isNw=false:=by intro j hj;obtain⟨p,hp,e⟩:=u1.mp hj;subst e;exact⟨hlt p hp,z7 hnew (hold p hp),hold p hp⟩
 have hnw:∀j k s rows hole,bD h ups j= .nw k s rows hole↔h j= .nw k s rows hole∧j∉ups.map (·.1):=by
  intro j k s rows hole;by_cases hj:j∈ups.map (·.1)
  ·constructor
   ·intro e;have:=(hin j hj).2.1;rw[e]at this;cases this
   ·intro e;exact absurd hj e.2
  ·rw[gB hj];exact⟨fun e=>⟨e,hj⟩,fun e=>e.1⟩
 have hlod:∀j i,uB (bD h ups) j i→uB h j i:=by rintro j i ⟨k,s,rows,hole,h1,h2,h3⟩;exact⟨k,s,rows,hole,h1,((hnw _ _ _ _ _).mp h2).1,h3⟩
 have hge:∀g,top≤g→bD v ups g=v g:=fun g hg=>gB (fun hm=>by have:=(hin g hm).1;omega);refine⟨?_,?_,?_,?_,?_,fun j hj=>by rw[gB (fun hm=>by have:=(hin j hm).1;omega)];exact ho.high j hj⟩
 ·intro j hj hn;by_cases hm:j∈ups.map (·.1)
  ·exact v7 hm
  ·rw[gB hm]at hn⊢;rw[gB hm];exact ho.plain j hj hn
 ·intro j k s rows hole hj e;obtain⟨e1,e2⟩:=(hnw _ _ _ _ _).mp e;rw[gB e2];exact ho.nest j k s rows hole hj e1
 ·intro j i k s rows hole hj e hi hh;obtain⟨e1,e2⟩:=(hnw _ _ _ _ _).mp e;obtain⟨q1,q2⟩:=ho.row j i k s rows hole hj e1 hi hh;exact⟨q1,by rw[hge _ q1];exact q2⟩
 ·intro j i j' i' h1 h2 e;exact ho.inj j i j' i' (hlod _ _ h1) (hlod _ _ h2) e
 ·intro g hg hl;rw[hge g hg]at hl;obtain⟨j,i,h1,h2⟩:=ho.rest g hg hl;obtain⟨k,s,rows,hole,q1,q2,q3⟩:=h1;refine⟨j,i,⟨k,s,rows,hole,q1,(hnw _ _ _ _ _).mpr ⟨q2,fun hm=>?_⟩,q3⟩,h2⟩;have:=(hin j hm).2.2;rw[q2]at this;cases this
theorem fC.lend {h:Nat→qA}{γ:Nat→Nat→Nat}{v:Nat→qA}(ho:fC h γ v){id off nid:Nat}{k:IntKind}{s:Nat}{rows:List (List Int)}(hid:h id= .nw k s rows none)(hlt:id<top)(hoff:off<rows.length)(hnid:nid<top)(hd:h nid= .dead)
  {h':Nat→qA}(e1:h' id= .nw k s rows (some (off,nid)))(e2:h' nid= .ints k (rows.getD off []))(e3:∀j,j≠id→j≠nid→h' j=h j):
  fC h' γ (fun x=>if x=nid then .ints k (rows.getD off [])else if x=γ id off then .dead else if x=id then .vals (jD (γ id) s (some (off,nid)) rows.length)else v x):=by
 have hne:id≠nid:=fun e=>by subst e;rw[hid]at hd;cases hd
 have hg0:=ho.row id off k s rows none hlt hid hoff (fun g e=>by cases e);have hlod:∀j i,uB h' j i→uB h j i∧¬(j=id∧i=off):=by
  rintro j i ⟨k1,s1,rows1,hole1,h1,h2,h3,h4⟩;by_cases hj:j=id
  ·subst hj;rw[e1]at h2;cases h2;exact⟨⟨k,s,rows,none,h1,hid,h3,fun g e=>by cases e⟩,fun⟨_,e⟩=>h4 nid (by rw[e])⟩
  ·by_cases hj2:j=nid
   ·subst hj2;rw[e2]at h2;cases h2
   ·rw[e3 j hj hj2]at h2;exact⟨⟨k1,s1,rows1,hole1,h1,h2,h3,h4⟩,fun⟨e,_⟩=>hj e⟩
 have hlod2:∀j i,uB h j i→¬(j=id∧i=off)→uB h' j i:=by
  rintro j i ⟨k1,s1,rows1,hole1,h1,h2,h3,h4⟩ hn;by_cases hj:j=id
  ·subst hj;rw[hid]at h2;cases h2;exact⟨k,s,rows,_,h1,e1,h3,fun g e=>by simp only[Option.some.injEq,Prod.mk.injEq]at e;exact hn ⟨rfl,e.1.symm⟩⟩
  ·by_cases hj2:j=nid
   ·subst hj2;rw[hd]at h2;cases h2
   ·exact⟨k1,s1,rows1,hole1,h1,by rw[e3 j hj hj2];exact h2,h3,h4⟩
 have hlo0:uB h id off:=⟨k,s,rows,none,hlt,hid,hoff,fun g e=>by cases e⟩
 refine⟨?_,?_,?_,?_,?_,fun j hj=>by rw[e3 j (by omega) (by omega)];exact ho.high j hj⟩
 ·intro j hj hn;by_cases hj1:j=nid
  ·subst hj1;simp only[if_true];exact e2.symm
  ·by_cases hj2:j=id
   ·subst hj2;rw[e1]at hn;cases hn
   ·rw[e3 j hj2 hj1]at hn⊢;have hj3:j≠γ id off:=fun e=>by have:=hg0.1;omega
    simp only[if_neg hj1,if_neg hj2,if_neg hj3];exact ho.plain j hj hn
 ·intro j k1 s1 rows1 hole1 hj e;by_cases hj1:j=id
  ·subst hj1;rw[e1]at e;cases e;have hj3:j≠γ j off:=fun e=>by have:=hg0.1;omega
   simp only[if_neg hne,if_neg hj3,if_true]
  ·by_cases hj2:j=nid
   ·subst hj2;rw[e2]at e;cases e
   ·rw[e3 j hj1 hj2]at e;have hj3:j≠γ id off:=fun e=>by have:=hg0.1;omega
    simp only[if_neg hj1,if_neg hj2,if_neg hj3];exact ho.nest j k1 s1 rows1 hole1 hj e
 ·intro j i k1 s1 rows1 hole1 hj e hi hh;have hl:uB h' j i:=⟨k1,s1,rows1,hole1,hj,e,hi,hh⟩
  obtain⟨hl1,hl2⟩:=hlod j i hl;have key:top≤γ j i∧v (γ j i)= .ints k1 (rows1.getD i []):=by
   by_cases hj1:j=id
   ·subst hj1;rw[e1]at e;cases e;exact ho.row j i k s rows none hj hid hi (fun g e=>by cases e)
   ·by_cases hj2:j=nid
    ·subst hj2;rw[e2]at e;cases e
    ·rw[e3 j hj1 hj2]at e;exact ho.row j i k1 s1 rows1 hole1 hj e hi hh
  refine⟨key.1,?_⟩;have c1:γ j i≠nid:=fun e=>by have:=key.1;omega
  have c2:γ j i≠γ id off:=fun e=>hl2 (ho.inj j i id off hl1 hlo0 e);have c3:γ j i≠id:=fun e=>by have:=key.1;omega
  simp only[if_neg c1,if_neg c2,if_neg c3];exact key.2
 ·intro j i j' i' h1 h2 e;exact ho.inj j i j' i' (hlod _ _ h1).1 (hlod _ _ h2).1 e
 ·intro g hg hl;have c1:g≠nid:=fun e=>by omega
  have c3:g≠id:=fun e=>by omega
  simp only[if_neg c1,if_neg c3]at hl;by_cases c2:g=γ id off
  ·rw[if_pos c2]at hl;exact hl.elim
  ·rw[if_neg c2]at hl;obtain⟨j,i,h1,h2⟩:=ho.rest g hg hl;exact⟨j,i,hlod2 j i h1 (fun⟨a,b⟩=>c2 (by rw[←h2,a,b])),h2⟩
theorem fC.absorb {h:Nat→qA}{γ:Nat→Nat→Nat}{v:Nat→qA}(ho:fC h γ v){id j g γ0:Nat}{k:IntKind}{s:Nat}{rows:List (List Int)}{l:List Int}(hid:h id= .nw k s rows (some (j,g)))(hlt:id<top)(hg:h g= .ints k l)(hglt:g<top)(hγ:top≤γ0)(hγ0:¬(v γ0).live)
  {h':Nat→qA}(e1:h' id= .nw k s (rows.set j l) none)(e2:h' g= .dead)(e3:∀x,x≠id→x≠g→h' x=h x):
  fC h' (fun a b=>if a=id∧b=j then γ0 else γ a b) (fun x=>if x=g then .dead else if x=γ0 then(if j<rows.length then .ints k l else .dead)else if x=id then .vals (jD (fun b=>if b=j then γ0 else γ id b) s none rows.length)else v x):=by
 have hne:id≠g:=fun e=>by subst e;rw[hid]at hg;cases hg
 have hlod:∀a i,uB h' a i→(a=id∧i=j∧j<rows.length)∨(uB h a i∧¬(a=id∧i=j)):=by
  rintro a i ⟨k1,s1,rows1,hole1,h1,h2,h3,h4⟩;by_cases hj:a=id
  ·subst hj;rw[e1]at h2;cases h2;rw[k5]at h3;by_cases hi:i=j
   ·exact .inl ⟨rfl,hi,by omega⟩
   ·exact .inr ⟨⟨k,s,rows,_,h1,hid,h3,fun g' e=>by simp only[Option.some.injEq,Prod.mk.injEq]at e;exact hi e.1.symm⟩,fun⟨_,e⟩=>hi e⟩
  ·by_cases hj2:a=g
   ·subst hj2;rw[e2]at h2;cases h2
   ·rw[e3 a hj hj2]at h2;exact .inr ⟨⟨k1,s1,rows1,hole1,h1,h2,h3,h4⟩,fun⟨e,_⟩=>hj e⟩
 have hγne:∀a i,uB h a i→γ a i≠γ0:=by rintro a i ⟨k1,s1,rows1,hole1,h1,h2,h3,h4⟩ e;have:=(ho.row a i k1 s1 rows1 hole1 h1 h2 h3 h4).2;rw[e]at this;rw[this]at hγ0;exact hγ0 trivial
 refine⟨?_,?_,?_,?_,?_,fun j hj=>by rw[e3 j (by omega) (by omega)];exact ho.high j hj⟩
 ·intro a ha hn;by_cases h1:a=g
  ·subst h1;simp only[if_true];exact e2.symm
  ·by_cases h2:a=id
   ·subst h2;rw[e1]at hn;cases hn
   ·rw[e3 a h2 h1]at hn⊢;have h3:a≠γ0:=by omega
    simp only[if_neg h1,if_neg h2,if_neg h3];exact ho.plain a ha hn
 ·intro a k1 s1 rows1 hole1 ha e;by_cases h1:a=id
  ·subst h1;rw[e1]at e;cases e;have h3:a≠γ0:=by omega
   simp only[if_neg hne,if_neg h3,if_true,true_and,k5]
  ·by_cases h2:a=g
   ·subst h2;rw[e2]at e;cases e
   ·rw[e3 a h1 h2]at e;have h3:a≠γ0:=by omega
    simp only[if_neg h1,if_neg h2,if_neg h3,h1,false_and,if_false];exact ho.nest a k1 s1 rows1 hole1 ha e
 ·intro a i k1 s1 rows1 hole1 ha e hi hh;rcases hlod a i ⟨k1,s1,rows1,hole1,ha,e,hi,hh⟩with⟨rfl,rfl,hlen⟩|⟨hl1,hl2⟩
  ·rw[e1]at e;cases e;have c1:γ0≠g:=by omega
   refine⟨by simpa using hγ,?_⟩;simp only[and_self,if_true,if_neg c1,if_pos hlen];simp[hA,hlen]
  ·have hγ1:(if a=id∧i=j then γ0 else γ a i)=γ a i:=if_neg hl2;rw[hγ1];have key:top≤γ a i∧v (γ a i)= .ints k1 (rows1.getD i []):=by
    by_cases h1:a=id
    ·subst h1;rw[e1]at e;cases e;have hi2:i≠j:=fun e=>hl2 ⟨rfl,e⟩;obtain⟨q1,q2⟩:=ho.row a i k s rows _ ha hid (by simpa using hi) (fun g' e=>by simp only[Option.some.injEq,Prod.mk.injEq]at e;exact hi2 e.1.symm);refine⟨q1,?_⟩;rw[q2];simp[hA,List.getElem?_set_ne (Ne.symm hi2)]
    ·by_cases h2:a=g
     ·subst h2;rw[e2]at e;cases e
     ·rw[e3 a h1 h2]at e;exact ho.row a i k1 s1 rows1 hole1 ha e hi hh
   refine⟨key.1,?_⟩;have c1:γ a i≠g:=fun e=>by have:=key.1;omega
   have c2:γ a i≠γ0:=hγne a i hl1;have c3:γ a i≠id:=fun e=>by have:=key.1;omega
   simp only[if_neg c1,if_neg c2,if_neg c3];exact key.2
 ·intro a i a' i' h1 h2 e;rcases hlod a i h1 with⟨q1,q2,q3⟩|⟨q1,q2⟩<;>rcases hlod a' i' h2 with⟨q1',q2',q3'⟩|⟨q1',q2'⟩
  ·exact⟨q1.trans q1'.symm,q2.trans q2'.symm⟩
  ·rw[if_pos ⟨q1,q2⟩,if_neg q2']at e;exact absurd e.symm (hγne a' i' q1')
  ·rw[if_neg q2,if_pos ⟨q1',q2'⟩]at e;exact absurd e (hγne a i q1)
  ·rw[if_neg q2,if_neg q2']at e;exact ho.inj a i a' i' q1 q1' e
 ·intro x hx hl;have c1:x≠g:=by omega
  have c3:x≠id:=by omega
  simp only[if_neg c1,if_neg c3]at hl;by_cases c2:x=γ0
  ·rw[if_pos c2]at hl;by_cases hlen:j<rows.length
   ·exact⟨id,j,⟨k,s,rows.set j l,none,hlt,e1,by simpa using hlen,fun g' e=>by cases e⟩,by rw[if_pos ⟨rfl,rfl⟩,c2]⟩
   ·rw[if_neg hlen]at hl;exact hl.elim
  ·rw[if_neg c2]at hl;obtain⟨a,i,h1,h2⟩:=ho.rest x hx hl;have hn:¬(a=id∧i=j):=by
    rintro⟨rfl,rfl⟩;obtain⟨k1,s1,rows1,hole1,q1,q2,q3,q4⟩:=h1;rw[hid]at q2;cases q2;exact q4 g rfl
   refine⟨a,i,?_,by rw[if_neg hn];exact h2⟩;obtain⟨k1,s1,rows1,hole1,q1,q2,q3,q4⟩:=h1;by_cases h3:a=id
   ·subst h3;rw[hid]at q2;cases q2;exact⟨k,s,rows.set j l,none,q1,e1,by simpa using q3,fun g' e=>by cases e⟩
   ·have h4:a≠g:=fun e=>by subst e;rw[hg]at q2;cases q2
    exact⟨k1,s1,rows1,hole1,q1,by rw[e3 a h3 h4];exact q2,q3,q4⟩
open Classical in
theorem fC.point {h:Nat→qA}{γ:Nat→Nat→Nat}{v:Nat→qA}(ho:fC h γ v){id off g:Nat}{k:IntKind}{s:Nat}{rows:List (List Int)}{hole:Option (Nat×Nat)}(hid:h id= .nw k s rows hole)(hlt:id<top)(hhole:hole=none∨∃g0,hole=some (off,g0))
  {h':Nat→qA}(e1:h' id= .nw k s rows (some (off,g)))(e3:∀j,j≠id→h' j=h j):
  fC h' γ (fun x=>if x=γ id off∧uB h id off then .dead else if x=id then .vals (jD (γ id) s (some (off,g)) rows.length)else v x):=by
 have hlod:∀j i,uB h' j i→uB h j i∧¬(j=id∧i=off):=by
  rintro j i ⟨k1,s1,rows1,hole1,h1,h2,h3,h4⟩;by_cases hj:j=id
  ·subst hj;rw[e1]at h2;cases h2;have hi:i≠off:=fun e=>h4 g (by rw[e]);exact⟨⟨k,s,rows,hole,h1,hid,h3,fun g' e=>by
    rcases hhole with q|⟨g0,q⟩<;>rw[q]at e
    ·cases e
    ·simp only[Option.some.injEq,Prod.mk.injEq]at e;exact hi e.1.symm⟩,fun⟨_,e⟩=>hi e⟩
  ·rw[e3 j hj]at h2;exact⟨⟨k1,s1,rows1,hole1,h1,h2,h3,h4⟩,fun⟨e,_⟩=>hj e⟩
 have hlod2:∀j i,uB h j i→¬(j=id∧i=off)→uB h' j i:=by
  rintro j i ⟨k1,s1,rows1,hole1,h1,h2,h3,h4⟩ hn;by_cases hj:j=id
  ·subst hj;rw[hid]at h2;cases h2;exact⟨k,s,rows,_,h1,e1,h3,fun g e=>by simp only[Option.some.injEq,Prod.mk.injEq]at e;exact hn ⟨rfl,e.1.symm⟩⟩
  ·exact⟨k1,s1,rows1,hole1,h1,by rw[e3 j hj];exact h2,h3,h4⟩
 have hge:∀j i,uB h j i→top≤γ j i∧∃k1 s1 rows1 hole1,h j= .nw k1 s1 rows1 hole1∧v (γ j i)= .ints k1 (rows1.getD i []):=by rintro j i ⟨k1,s1,rows1,hole1,h1,h2,h3,h4⟩;obtain⟨q1,q2⟩:=ho.row j i k1 s1 rows1 hole1 h1 h2 h3 h4;exact⟨q1,k1,s1,rows1,hole1,h2,q2⟩
 have low:∀x,x<top→¬(x=γ id off∧uB h id off):=fun x hx ⟨e,hl⟩=>by have:=(hge id off hl).1;omega
 refine⟨?_,?_,?_,?_,?_,fun j hj=>by rw[e3 j (by omega)];exact ho.high j hj⟩
 ·intro j hj hn;by_cases hj2:j=id
  ·subst hj2;rw[e1]at hn;cases hn
  ·rw[e3 j hj2]at hn⊢;simp only[if_neg (low j hj),if_neg hj2];exact ho.plain j hj hn
 ·intro j k1 s1 rows1 hole1 hj e;by_cases hj1:j=id
  ·subst hj1;rw[e1]at e;cases e;simp only[if_neg (low j hj),if_true]
  ·rw[e3 j hj1]at e;simp only[if_neg (low j hj),if_neg hj1];exact ho.nest j k1 s1 rows1 hole1 hj e
 ·intro j i k1 s1 rows1 hole1 hj e hi hh;have hl:uB h' j i:=⟨k1,s1,rows1,hole1,hj,e,hi,hh⟩
  obtain⟨hl1,hl2⟩:=hlod j i hl;obtain⟨q1,k2,s2,rows2,hole2,q2,q3⟩:=hge j i hl1;refine⟨q1,?_⟩;have c2:¬(γ j i=γ id off∧uB h id off):=fun⟨e,hlo⟩=>hl2 (ho.inj j i id off hl1 hlo e);have c3:γ j i≠id:=fun e=>by omega
  simp only[if_neg c2,if_neg c3];rw[q3];by_cases hj1:j=id
  ·subst hj1;rw[e1]at e;rw[hid]at q2;cases e;cases q2;rfl
  ·rw[e3 j hj1,q2]at e;cases e;rfl
 ·intro j i j' i' h1 h2 e;exact ho.inj j i j' i' (hlod _ _ h1).1 (hlod _ _ h2).1 e
 ·intro g' hg hl;have c3:g'≠id:=fun e=>by omega
  simp only[if_neg c3]at hl;by_cases c2:g'=γ id off∧uB h id off
  ·rw[if_pos c2]at hl;exact hl.elim
  ·rw[if_neg c2]at hl;obtain⟨j,i,h1,h2⟩:=ho.rest g' hg hl;exact⟨j,i,hlod2 j i h1 (fun⟨a,b⟩=>c2 (by subst a;subst b;exact⟨h2.symm,h1⟩)),h2⟩
theorem fC.snoc {h:Nat→qA}{γ:Nat→Nat→Nat}{v:Nat→qA}(ho:fC h γ v){nid γ0:Nat}{dd gg:Option Nat}{k:IntKind}{s:Nat}{rows:List (List Int)}{l:List Int}(hd:match dd with|none=>rows=[]|some id=>id<top∧h id= .nw k s rows none)(hg:match gg with|none=>True|some g=>g<top∧h g= .ints k l)
  (hnid:nid<top)(hn:h nid= .dead)(hγ:top≤γ0)(hγ0:¬(v γ0).live)
  {h':Nat→qA}(e1:h' nid= .nw k s (rows++[l]) none)(e2:∀x,x≠nid→dd=some x∨gg=some x→h' x= .dead)(e3:∀x,x≠nid→dd≠some x→gg≠some x→h' x=h x):
  fC h' (fun a b=>if a=nid then(if b<rows.length then γ (dd.getD 0) b else γ0)else γ a b)
   (fun x=>if x=γ0 then .ints k l else if x=nid then .vals (jD (fun b=>if b<rows.length then γ (dd.getD 0) b else γ0) s none (rows.length+1))else if dd=some x∨gg=some x then .dead else v x):=by
 have hγne:∀a i,uB h a i→γ a i≠γ0:=by rintro a i ⟨k1,s1,rows1,hole1,h1,h2,h3,h4⟩ e;have:=(ho.row a i k1 s1 rows1 hole1 h1 h2 h3 h4).2;rw[e]at this;rw[this]at hγ0;exact hγ0 trivial
 have hge:∀j i,uB h j i→top≤γ j i∧∃k1 s1 rows1 hole1,h j= .nw k1 s1 rows1 hole1∧v (γ j i)= .ints k1 (rows1.getD i []):=by rintro j i ⟨k1,s1,rows1,hole1,h1,h2,h3,h4⟩;obtain⟨q1,q2⟩:=ho.row j i k1 s1 rows1 hole1 h1 h2 h3 h4;exact⟨q1,k1,s1,rows1,hole1,h2,q2⟩
 have hold:∀i,i<rows.length→∃id,dd=some id∧id<top∧h id= .nw k s rows none∧uB h id i:=by
  intro i hi;cases hdd:dd with
  |none=>rw[hdd]at hd;rw[hd]at hi;simp at hi
  |some id=>rw[hdd]at hd;exact⟨id,rfl,hd.1,hd.2,k,s,rows,none,hd.1,hd.2,hi,fun g e=>by cases e⟩
 have hlod:∀a i,uB h' a i→(a=nid∧i=rows.length)∨(a=nid∧i<rows.length∧∃id,dd=some id∧uB h id i)∨(a≠nid∧dd≠some a∧uB h a i):=by
  rintro a i ⟨k1,s1,rows1,hole1,h1,h2,h3,h4⟩;by_cases ha:a=nid
  ·subst ha;rw[e1]at h2;cases h2;simp only[l4,o0]at h3;by_cases hi:i=rows.length
   ·exact .inl ⟨rfl,hi⟩
   ·obtain⟨id,q1,q2,q3,q4⟩:=hold i (by omega);exact .inr (.inl ⟨rfl,by omega,id,q1,q4⟩)
  ·by_cases hx:dd=some a∨gg=some a
   ·rw[e2 a ha hx]at h2;cases h2
   ·rw[e3 a ha (fun e=>hx (.inl e)) (fun e=>hx (.inr e))]at h2;exact .inr (.inr ⟨ha,fun e=>hx (.inl e),k1,s1,rows1,hole1,h1,h2,h3,h4⟩)
 refine⟨?_,?_,?_,?_,?_,fun j hj=>by rw[e3 j (by omega) (fun e=>by rw[e]at hd;have:=hd.1;omega) (fun e=>by rw[e]at hg;have:=hg.1;omega)];exact ho.high j hj⟩
 ·intro a ha hnn;have c1:a≠γ0:=by omega
  by_cases c2:a=nid
  ·subst c2;rw[e1]at hnn;cases hnn
  ·by_cases c3:dd=some a∨gg=some a
   ·simp only[if_neg c1,if_neg c2,if_pos c3];rw[e2 a c2 c3]
   ·have q:=e3 a c2 (fun e=>c3 (.inl e)) (fun e=>c3 (.inr e));rw[q]at hnn⊢;simp only[if_neg c1,if_neg c2,if_neg c3];exact ho.plain a ha hnn
 ·intro a k1 s1 rows1 hole1 ha e;have c1:a≠γ0:=by omega
  by_cases c2:a=nid
  ·subst c2;rw[e1]at e;cases e;simp only[if_neg c1,if_true,l4,o0]
  ·by_cases c3:dd=some a∨gg=some a
   ·rw[e2 a c2 c3]at e;cases e
   ·rw[e3 a c2 (fun e=>c3 (.inl e)) (fun e=>c3 (.inr e))]at e;simp only[if_neg c1,if_neg c2,if_neg c3];exact ho.nest a k1 s1 rows1 hole1 ha e
 ·intro a i k1 s1 rows1 hole1 ha e hi hh;rcases hlod a i ⟨k1,s1,rows1,hole1,ha,e,hi,hh⟩with⟨q1,q2⟩|⟨q1,q2,id,q3,q4⟩|⟨q1,q2,q3⟩
  ·subst q1;rw[e1]at e;cases e;subst q2;simp only[if_true,y2,if_false];exact⟨hγ,by simp⟩
  ·subst q1;rw[e1]at e;cases e;rw[q3]at hd;simp only[if_true,if_pos q2,q3,hR];obtain⟨r1,k2,s2,rows2,hole2,r2,r3⟩:=hge id i q4;rw[hd.2]at r2;cases r2;have c1:γ id i≠γ0:=hγne id i q4;have c2:γ id i≠a:=fun e=>by omega
   have c3:¬(id=γ id i∨gg=some (γ id i)):=by
    rintro(e|e)
    ·omega
    ·rw[e]at hg;have:=hg.1;omega
   refine⟨r1,?_⟩;simp only[if_neg c1,if_neg c2,Option.some.injEq,if_neg c3,r3];simp[hA,hN q2]
  ·obtain⟨r1,k2,s2,rows2,hole2,r2,r3⟩:=hge a i q3;have hx:gg≠some a:=fun e=>by rw[e]at hg;rw[hg.2]at r2;cases r2
   rw[e3 a q1 q2 hx]at e;rw[r2]at e;cases e;have c1:γ a i≠γ0:=hγne a i q3;have c2:γ a i≠nid:=fun e=>by omega
   have c3:¬(dd=some (γ a i)∨gg=some (γ a i)):=by
    rintro(e|e)
    ·rw[e]at hd;have:=hd.1;omega
    ·rw[e]at hg;have:=hg.1;omega
   simp only[if_neg q1,if_neg c1,if_neg c2,if_neg c3];exact⟨r1,r3⟩
 ·intro a i a' i' h1 h2 e;rcases hlod a i h1 with⟨q1,q2⟩|⟨q1,q2,id,q3,q4⟩|⟨q1,q2,q3⟩<;>rcases hlod a' i' h2 with⟨p1,p2⟩|⟨p1,p2,id',p3,p4⟩|⟨p1,p2,p3⟩
  ·exact⟨q1.trans p1.symm,q2.trans p2.symm⟩
  ·simp only[q1,p1,q2,if_true,y2,if_false,if_pos p2,p3,hR]at e;exact absurd e.symm (hγne id' i' p4)
  ·simp only[q1,q2,if_true,y2,if_false,if_neg p1]at e;exact absurd e.symm (hγne a' i' p3)
  ·simp only[q1,p1,p2,if_true,y2,if_false,if_pos q2,q3,hR]at e;exact absurd e (hγne id i q4)
  ·simp only[q1,p1,if_true,if_pos q2,if_pos p2]at e;rw[q3]at p3;simp only[Option.some.injEq]at p3;subst p3;simp only[q3,hR]at e;exact⟨q1.trans p1.symm,(ho.inj id i id i' q4 p4 e).2⟩
  ·simp only[q1,if_true,if_pos q2,if_neg p1,q3,hR]at e;have:=(ho.inj id i a' i' q4 p3 e).1;subst this;exact absurd q3 p2
  ·simp only[p1,p2,if_true,y2,if_false,if_neg q1]at e;exact absurd e (hγne a i q3)
  ·simp only[p1,if_true,if_pos p2,if_neg q1,p3,hR]at e;have:=(ho.inj a i id' i' q3 p4 e).1;subst this;exact absurd p3 q2
  ·simp only[if_neg q1,if_neg p1]at e;exact ho.inj a i a' i' q3 p3 e
 ·intro x hx hl;have c2:x≠nid:=by omega
  by_cases c1:x=γ0
  ·exact⟨nid,rows.length,⟨k,s,rows++[l],none,hnid,e1,by simp,fun g' e=>by cases e⟩,by simp[c1]⟩
  ·simp only[if_neg c1,if_neg c2]at hl;have c3:¬(dd=some x∨gg=some x):=by
    intro hc;rw[if_pos hc]at hl;exact hl.elim
   rw[if_neg c3]at hl;obtain⟨a,i,h1,h2⟩:=ho.rest x hx hl;obtain⟨r1,k2,s2,rows2,hole2,r2,r3⟩:=hge a i h1;by_cases hda:dd=some a
   ·rw[hda]at hd;rw[hd.2]at r2;cases r2;obtain⟨k1,s1,rows1,hole1,q1,q2,q3,q4⟩:=h1;rw[hd.2]at q2;cases q2;exact⟨nid,i,⟨k,s,rows++[l],none,hnid,e1,by simp;omega,fun g' e=>by cases e⟩,by simp only[if_true,if_pos q3,hda,hR];exact h2⟩
   ·have han:a≠nid:=fun e=>by subst e;rw[hn]at r2;cases r2
    have hga:gg≠some a:=fun e=>by rw[e]at hg;rw[hg.2]at r2;cases r2
    obtain⟨k1,s1,rows1,hole1,q1,q2,q3,q4⟩:=h1;exact⟨a,i,⟨k1,s1,rows1,hole1,q1,by rw[e3 a han hda hga];exact q2,q3,q4⟩,by rw[if_neg han];exact h2⟩
theorem kA.shift {F:Nat→Prop}{ρ ρ':xC}{v v':Nat→qA}{w:World}(hh:kA F ρ v w)(hs:vL ρ ρ')(hwf:∀id p,ρ' id=some p→p.n≤p.C)(src:Nat→Nat)
  (hsrc:∀x,(v' x).live→((v (src x)).live∧ρ' x=ρ (src x)∧(v' x=v (src x)∨∃cs cs',v (src x)= .vals cs∧v' x= .vals cs'∧cs'.length=cs.length∧∀M us,mA ρ' M w cs us→mA ρ' M w cs' us))∨(ρ' x=some ⟨none,0,0⟩∧∃k,v' x= .ints k []))
  (hinj:∀x x',(v' x).live→(v' x').live→(v (src x)).live→src x=src x'→x=x'):
  kA F ρ' v' w∧qG (fA ρ v) w (fA ρ' v') w:=by
 have hM:∀b,fA ρ' v' b→fA ρ v b:=by
  rintro b ⟨x,n,C,hp,hl⟩;rcases hsrc x hl with⟨h1,h2,_⟩|⟨h2,_⟩
  ·rw[h2]at hp;exact⟨_,n,C,hp,h1⟩
  ·rw[h2]at hp;cases hp
 have hext:qG (fA ρ v) w (fA ρ' v') w:=⟨eX _,fun _ _ _=>rfl,fun b hb=>.inl (hM b hb),.refl _⟩
 refine⟨⟨hwf,?_,?_,hh.low,fun b hb=>hh.out b (hM b hb)⟩,hext⟩
 ·intro x hl;rcases hsrc x hl with⟨h1,h2,h3⟩|⟨h2,k,h3⟩
  ·obtain⟨p,hp,hb⟩:=hh.rel _ h1;have hb':=jB.mono hs hext hb (fun _ _=>rfl);refine⟨p,by rw[h2];exact hp,?_⟩;rcases h3 with h3|⟨cs,cs',h3,h4,h5,h6⟩
   ·rw[h3];exact hb'
   ·rw[h3]at hb';rw[h4];obtain⟨g1,⟨g2,g3,g4⟩|⟨b,c,g2,g3,g4,g5⟩⟩:=hb'
    ·subst g3;have:cs'=[]:=z1.mp h5;subst this;exact⟨g1,.inl ⟨g2,rfl,g4⟩⟩
    ·exact⟨by rw[h5];exact g1,.inr ⟨b,c,g2,g3,g4,h6 _ _ g5⟩⟩
  ·exact⟨_,h2,by rw[h3];exact⟨rfl,.inl ⟨rfl,rfl,rfl⟩⟩⟩
 ·intro x x' b n C n' C' hx hx' hp hp';rcases hsrc x hx with⟨h1,h2,_⟩|⟨h2,_⟩
  ·rcases hsrc x' hx' with⟨h1',h2',_⟩|⟨h2',_⟩
   ·rw[h2]at hp;rw[h2']at hp';exact hinj x x' hx hx' h1 (hh.inj _ _ b _ _ _ _ h1 h1' hp hp')
   ·rw[h2']at hp';cases hp'
  ·rw[h2]at hp;cases hp
theorem oA.sw_as {ρ':xC}{M:Nat→Prop}{w:World}{id j s:Nat}(h:ρ' j=ρ' id){u:Value}(hr:oA ρ' M w (.sw id s) u):oA ρ' M w (.sw j s) u:=by
 simp only[oA]at hr⊢;rw[h];exact hr
theorem mA.pointwise {ρ:xC}{M:Nat→Prop}{w:World}:∀{xs ys:List V} {us:List Value},ys.length=xs.length→(∀(i:Nat) x y u,xs[i]?=some x→ys[i]?=some y→us[i]?=some u→oA ρ M w x u→oA ρ M w y u)→mA ρ M w xs us→mA ρ M w ys us
 | [],[],[],_,_,_=>by simp[mA]
 |x::xs,y::ys,u::us,hl,h,hr=>by simp only[mA]at hr⊢;exact⟨h 0 x y u rfl rfl rfl hr.1,mA.pointwise (by simpa using hl) (fun i x' y' u' h1 h2 h3=>h (i+1) x' y' u' (by simpa using h1) (by simpa using h2) (by simpa using h3)) hr.2⟩
 | [],_::_,_,hl,_,_=>by simp at hl
 |_::_,[],_,hl,_,_=>by simp at hl
 | [],[],_::_,_,_,hr=>by simp[mA]at hr
 |_::_,_::_,[],_,_,hr=>by simp[mA]at hr
structure qN (F:Nat→Prop)(ρ:xC)(v:Nat→qA)(w:World)(nid n:Nat)(h':Nat→qA)(ρ':xC)(v':Nat→qA)(w':World):Prop where
 sub:vL ρ ρ'
 same:∀id,id<top→(id<nid∨nid+n≤id)→ρ' id=ρ id
 bd:Bd ρ→Bd ρ'
 fresh:∀g,top≤g→(v' g).live→(v g).live∨ρ g=none
 opn:T4 h' v'
 heap:kA F ρ' v' w'
 ext:qG (fA ρ v) w (fA ρ' v') w'
theorem qN.trans {F:Nat→Prop}{ρ ρ1 ρ2:xC}{v v1 v2:Nat→qA}{w w1 w2:World}{nid n:Nat}{h1 h2:Nat→qA}(a:qN F ρ v w nid n h1 ρ1 v1 w1)(b:qN F ρ1 v1 w1 nid n h2 ρ2 v2 w2):qN F ρ v w nid n h2 ρ2 v2 w2 where
 sub:=a.sub.trans b.sub
 same id h h':=(b.same id h h').trans (a.same id h h')
 bd h:=b.bd (a.bd h)
 fresh g hg hl:=by
  rcases b.fresh g hg hl with h|h
  ·exact a.fresh g hg h
  ·refine .inr ?_;cases hr:ρ g with
   |none=>rfl
   |some p=>have:=a.sub g p hr;rw[h]at this;cases this
 opn:=b.opn
 heap:=b.heap
 ext:=a.ext.trans b.ext
section
variable {P:Program}{F:Nat→Prop}{ρ:xC}{h v:Nat→qA}{γ:Nat→Nat→Nat}{w:World}{nid:Nat}
def T3 (F:Nat→Prop)(ρ:xC)(h v:Nat→qA)(w:World)(nid:Nat)(out:oF)(r:Result Next):Prop:=
 ∃u w' ρ' v',(r= .ok (.value u) w'∨(r= .ok .skip w'∧u=undef))∧qN F ρ v w nid out.new.length (tG h nid out) ρ' v' w'∧oA ρ' (av F (fA ρ' v')) w' out.val u
theorem kV (hb:Bd ρ)(hh:kA F ρ v w):∃γ0,top≤γ0∧ρ γ0=none∧¬(v γ0).live:=by
 obtain⟨G,hG⟩:=hb;have h1:=hG (G+top) (by omega);refine⟨G+top,by omega,h1,fun hl=>?_⟩;obtain⟨p,hp,_⟩:=hh.rel _ hl;rw[h1]at hp;cases hp
theorem lK (hh:kA F ρ v w){i:Nat}(hn:ρ i=none):¬(v i).live:=fun hl=>by
 obtain⟨p,hp,_⟩:=hh.rel _ hl;rw[hn]at hp;cases hp
def aF (ρ:xC)(a b:Nat):xC:=fun x=>if x=a then ρ b else ρ x
theorem qT {a b:Nat}(hn:ρ a=none):vL ρ (aF ρ a b):=fun x p hp=>by
 unfold aF;rw[if_neg (fun e=>by subst e;rw[hn]at hp;cases hp)];exact hp
theorem qX {a b:Nat}(hw:∀id p,ρ id=some p→p.n≤p.C):∀id p,aF ρ a b id=some p→p.n≤p.C:=fun x p hp=>by
 unfold aF at hp;split at hp
 ·exact hw _ _ hp
 ·exact hw _ _ hp
theorem pX {a b:Nat}(hb:Bd ρ):Bd (aF ρ a b):=by
 obtain⟨G,hG⟩:=hb;refine⟨G+a+1,fun g hg=>?_⟩;unfold aF;rw[if_neg (by omega)];exact hG g (by omega)
theorem dh (ho:fC h γ v)(hh:kA F ρ v w){id off:Nat}{k:IntKind}{s:Nat}{rows:List (List Int)}(hid:h id= .nw k s rows none)(hlt:id<top)(hoff:off<rows.length)(hnid:nid<top)(hn:ρ nid=none)
  {h':Nat→qA}(e1:h' id= .nw k s rows (some (off,nid)))(e2:h' nid= .ints k (rows.getD off []))(e3:∀j,j≠id→j≠nid→h' j=h j):
  ∃ρ' v',qN F ρ v w nid 1 h' ρ' v' w∧∀u,oA ρ (av F (fA ρ v)) w (.sw (γ id off) s) u→oA ρ' (av F (fA ρ' v')) w (.sw nid s) u:=by
 have hd:=ho.dead hnid (lK hh hn);have hrow:=ho.row id off k s rows none hlt hid hoff (fun g e=>by cases e);have hid2:=ho.nest id k s rows none hlt hid;have hne:id≠nid:=fun e=>by subst e;rw[hid]at hd;cases hd
 have c1:γ id off≠nid:=fun e=>by omega
 have c2:γ id off≠id:=fun e=>by omega
 have hop:=ho.lend hid hlt hoff hnid hd e1 e2 e3;have hsub:vL ρ (aF ρ nid (γ id off)):=qT hn;have hal:aF ρ nid (γ id off) nid=aF ρ nid (γ id off) (γ id off):=by simp[aF,c1]
 generalize hv':(fun x=>if x=nid then qA.ints k (rows.getD off [])else if x=γ id off then .dead else if x=id then .vals (jD (γ id) s (some (off,nid)) rows.length)else v x)=v' at hop;have hvx:∀x,v' x=if x=nid then qA.ints k (rows.getD off [])else if x=γ id off then .dead else if x=id then .vals (jD (γ id) s (some (off,nid)) rows.length)else v x:=fun x=>by rw[←hv']
 obtain⟨q1,q2⟩:=hh.shift (v':=v') hsub (qX hh.wf) (fun x=>if x=nid then γ id off else x) (fun x hl=>by
  refine .inl ?_;rw[hvx]at hl⊢;by_cases hx:x=nid
  ·subst hx;simp only[if_true];exact⟨by rw[hrow.2];trivial,by simp[aF],.inl hrow.2.symm⟩
  ·rw[if_neg hx]at hl⊢;simp only[if_neg hx];by_cases hx2:x=γ id off
   ·rw[if_pos hx2]at hl;exact hl.elim
   ·rw[if_neg hx2]at hl⊢;have ha:aF ρ nid (γ id off) x=ρ x:=by simp[aF,hx]
    by_cases hx3:x=id
    ·subst hx3;rw[if_pos rfl];refine⟨by rw[hid2];trivial,ha,.inr ⟨_,_,hid2,rfl,by rw[xA,xA],fun M us hr=>mA.pointwise (by rw[xA,xA]) (fun i a b u h1 h2 h3 hrel=>?_) hr⟩⟩;have hi:i<rows.length:=by have:=(zE.mp h1).1;rwa[xA]at this
     rw[yF _ _ _ hi]at h1 h2;simp only[Option.some.injEq]at h1 h2;subst h1;subst h2;unfold kH at hrel⊢;dsimp only at hrel⊢;by_cases hio:i=off
     ·subst hio;rw[if_pos rfl];exact hrel.sw_as hal
     ·rw[if_neg hio];exact hrel
    ·rw[if_neg hx3]at hl⊢;exact⟨hl,ha,.inl rfl⟩) (fun x x' hl hl' _ e=>by
  rw[hvx]at hl hl';by_cases hx:x=nid<;>by_cases hx':x'=nid
  ·rw[hx,hx']
  ·simp only[if_pos hx,if_neg hx']at e;rw[if_neg hx',if_pos e.symm]at hl';exact hl'.elim
  ·simp only[if_neg hx,if_pos hx']at e;rw[if_neg hx,if_pos e]at hl;exact hl.elim
  ·simp only[if_neg hx,if_neg hx']at e;exact e)
 refine⟨_,v',⟨hsub,fun x hx hx2=>by simp only[aF];rw[if_neg (by omega)],pX,fun g hg hl=>?_,⟨γ,hop⟩,q1,q2⟩,fun u hu=>(oA.mono hsub q2 _ _ hu).sw_as hal⟩;rw[hvx,if_neg (by omega)]at hl;split at hl
 ·exact hl.elim
 ·rw[if_neg (by omega)]at hl;exact .inl hl
theorem cO (ho:fC h γ v)(hh:kA F ρ v w)(hb:Bd ρ){id j g:Nat}{k:IntKind}{s:Nat}{rows:List (List Int)}{l:List Int}(hid:h id= .nw k s rows (some (j,g)))(hlt:id<top)(hg:h g= .ints k l)(hglt:g<top)(n:Nat)
  {h':Nat→qA}(e1:h' id= .nw k s (rows.set j l) none)(e2:h' g= .dead)(e3:∀x,x≠id→x≠g→h' x=h x):
  ∃γ' ρ' v',fC h' γ' v'∧qN F ρ v w nid n h' ρ' v' w∧(∀x,x<top→ρ' x=ρ x)∧
   ∀i u,i<rows.length→oA ρ (av F (fA ρ v)) w (kH (γ id) s (some (j,g)) i) u→oA ρ' (av F (fA ρ' v')) w (.sw (γ' id i) s) u:=by
 obtain⟨γ0,g1,g2,g3⟩:=kV hb hh;have hid2:=ho.nest id k s rows _ hlt hid;have hgv:v g= .ints k l:=by rw[←hg];exact ho.plain g hglt (by rw[hg];rfl)
 have hne:id≠g:=fun e=>by subst e;rw[hid]at hg;cases hg
 have c1:γ0≠g:=by omega
 have c2:γ0≠id:=by omega
 have hop:=ho.absorb hid hlt hg hglt g1 g3 e1 e2 e3;have hsub:vL ρ (aF ρ γ0 g):=qT g2;have hal:aF ρ γ0 g γ0=aF ρ γ0 g g:=by simp[aF,Ne.symm c1]
 generalize hv':(fun x=>if x=g then qA.dead else if x=γ0 then(if j<rows.length then .ints k l else .dead)else if x=id then .vals (jD (fun b=>if b=j then γ0 else γ id b) s none rows.length)else v x)=v' at hop;have hvx:∀x,v' x=if x=g then qA.dead else if x=γ0 then(if j<rows.length then .ints k l else .dead)else if x=id then .vals (jD (fun b=>if b=j then γ0 else γ id b) s none rows.length)else v x:=fun x=>by rw[←hv']
 have hcell:∀i M u,oA (aF ρ γ0 g) M w (kH (γ id) s (some (j,g)) i) u→oA (aF ρ γ0 g) M w (.sw (if i=j then γ0 else γ id i) s) u:=by
  intro i M u hr;unfold kH at hr;dsimp only at hr;by_cases hij:i=j
  ·rw[if_pos hij]at hr⊢;exact hr.sw_as hal
  ·rw[if_neg hij]at hr⊢;exact hr
 obtain⟨q1,q2⟩:=hh.shift (v':=v') hsub (qX hh.wf) (fun x=>if x=γ0 then g else x) (fun x hl=>by
  refine .inl ?_;rw[hvx]at hl⊢;by_cases hx0:x=g
  ·rw[if_pos hx0]at hl;exact hl.elim
  rw[if_neg hx0]at hl⊢;by_cases hx:x=γ0
  ·subst hx;simp only[if_true]at hl⊢;by_cases hlen:j<rows.length
   ·rw[if_pos hlen];exact⟨by rw[hgv];trivial,by simp[aF],.inl hgv.symm⟩
   ·rw[if_neg hlen]at hl;exact hl.elim
  ·rw[if_neg hx]at hl⊢;simp only[if_neg hx];have ha:aF ρ γ0 g x=ρ x:=by simp[aF,hx]
   by_cases hx3:x=id
   ·subst hx3;rw[if_pos rfl];refine⟨by rw[hid2];trivial,ha,.inr ⟨_,_,hid2,rfl,by rw[xA,xA],fun M us hr=>mA.pointwise (by rw[xA,xA]) (fun i a b u h1 h2 h3 hrel=>?_) hr⟩⟩;have hi:i<rows.length:=by have:=(zE.mp h1).1;rwa[xA]at this
    rw[yF _ _ _ hi]at h1 h2;simp only[Option.some.injEq]at h1 h2;subst h1;subst h2;exact hcell i M u hrel
   ·rw[if_neg hx3]at hl⊢;exact⟨hl,ha,.inl rfl⟩) (fun x x' hl hl' _ e=>by
  rw[hvx]at hl hl';by_cases hx:x=γ0<;>by_cases hx':x'=γ0
  ·rw[hx,hx']
  ·simp only[if_pos hx,if_neg hx']at e;rw[if_pos e.symm]at hl';exact hl'.elim
  ·simp only[if_neg hx,if_pos hx']at e;rw[if_pos e]at hl;exact hl.elim
  ·simp only[if_neg hx,if_neg hx']at e;exact e)
 refine⟨_,_,v',hop,⟨hsub,fun x hx _=>by simp only[aF];rw[if_neg (by omega)],pX,fun x hx hl=>?_,⟨_,hop⟩,q1,q2⟩,fun x hx=>by simp only[aF];rw[if_neg (by omega)],fun i u hi hu=>?_⟩
 ·rw[hvx,if_neg (by omega)]at hl;by_cases hx0:x=γ0
  ·subst hx0;exact .inr g2
  ·rw[if_neg hx0,if_neg (by omega)]at hl;exact .inl hl
 ·have:=hcell i _ u (oA.mono hsub q2 _ _ hu);simpa using this
variable {ty:Nat→Option TI}{ev:Operand→V}{ae:Operand→Value}{out:oF}
theorem xO (h:Nat→qA)(nid:Nat)(out:oF):tG h nid out=bD h (out.wr++jK nid out.new):=fL h nid out
theorem F0 (hty:uD P ty)(ho:fC h γ v)(hh:kA F ρ v w)(he:∀x,oA ρ (av F (fA ρ v)) w (ev x) (ae x))(hn:∀id,nid≤id→id<nid+out.new.length→ρ id=none)(hlt:nid+out.new.length≤top)(o:Oper)
  (ha:yI ty nid o.op ev h=some (true,out))(ht:oW h out=true):T3 F ρ h v w nid out ((execOp ae o).run P w):=by
 have htm:=ht;unfold oW iS at htm;simp only[hB,hV,hW]at htm;have htouch:∀i∈out.touch,i<top∧(h i).isNw=false:=fun i hi=>⟨aC (htm.1 i hi).1,(htm.1 i hi).2⟩
 have hav:yI ty nid o.op ev v=some (true,out):=fV ha (fun i hi=>ho.plain i (htouch i hi).1 (htouch i hi).2);obtain⟨u,w',ρ',r1,r2,r3,r4,r5,r6⟩:=oT (P:=P) hty hh he hn o.op o rfl hav;have hup:∀p∈out.wr++jK nid out.new,p.1<top∧(h p.1).isNw=false:=by
  intro p hp;rcases aE.mp hp with hp|hp
  ·have:=(htm.2.1 p hp).1;exact htouch p.1 (qW.mp this)
  ·have hp':=ya hp;refine⟨by omega,?_⟩;rw[ho.dead (j:=p.1) (by omega) (lK hh (hn p.1 hp'.1 (by omega)))];rfl
 have hop:=ho.upd (fun p hp=>(hup p hp).1) (fun p hp=>(hup p hp).2) (qg ht);rw[←fL,←fL]at hop;refine⟨u,w',ρ',tG v nid out,r1,⟨r2,fun id _ hid=>r3 id hid,fun hb=>?_,fun g hg hl=>?_,⟨γ,hop⟩,r4,r6⟩,r5⟩
 ·obtain⟨G,hG⟩:=hb;exact⟨G+nid+out.new.length,fun g hg=>by rw[r3 g (by omega)];exact hG g (by omega)⟩
 ·rw[fL,gB (fun hm=>by
   obtain⟨p,hp,e⟩:=u1.mp hm;have:=(hup p hp).1;omega)]at hl
  exact .inl hl
theorem xn (hty:uD P ty)(ho:fC h γ v)(hh:kA F ρ v w)(he:∀x,oA ρ (av F (fA ρ v)) w (ev x) (ae x))(o:Oper){x:V}{tc:List Nat}(hav:yI ty nid o.op ev v=some (true,{val:=x,touch:=tc})){tc':List Nat}:
  T3 F ρ h v w nid {val:=x,touch:=tc'} ((execOp ae o).run P w):=by
 obtain⟨u,w',ρ',r1,r2,r3,r4,r5,r6⟩:=oT (P:=P) hty hh he (fun id h1 h2=>by simp at h2;omega) o.op o rfl hav;have e:ρ'=ρ:=funext fun id=>r3 id (by simp;omega);subst e;have e2:tG v nid {val:=x,touch:=tc}=v:=rfl;rw[e2]at r4 r5 r6;exact⟨u,w',ρ',v,r1,⟨r2,fun _ _ _=>rfl,fun hb=>hb,fun g _ hl=>.inl hl,⟨γ,ho⟩,r4,r6⟩,r5⟩
theorem xi {ti:TI}(h:ti.isSl=true):∃e,ti.tk= .slice e:=by
 unfold TI.isSl at h;split at h
 ·exact⟨_,by assumption⟩
 ·cases h
theorem Dm {ti:TI}(h:ti.isSl=true):ti.isAgg=false:=by
 obtain⟨e,he⟩:=xi h;unfold TI.isAgg;rw[he]
theorem bW:∀(cs:List V) (i:Nat) (x:V),i<cs.length→aH cs i [x]=some (cs.set i x)
 | [],i,x,h=>by simp at h
 |c::cs,0,x,h=>by cases cs<;>simp[aH]
 |c::cs,i+1,x,h=>by simp[aH,bW cs i x (by simpa using h)]
theorem Tl {cs:List V}{i:Nat}{x:V}(h:cs[i]?=some x):nL (rN cs i) 1=some [x]:=by
 rw[kO];obtain⟨h1,h2⟩:=zE.mp h;rw[List.drop_eq_getElem_cons h1,h2];simp[nL]
theorem dw (hty:uD P ty)(ho:fC h γ v)(hh:kA F ρ v w)(he:∀x,oA ρ (av F (fA ρ v)) w (ev x) (ae x))(o:Oper){t:Nat}{a:Operand}(hop:o.op= .load t a){ti:TI}(hti:ty t=some ti){id off ext:Nat}(hea:ev a= .ptr id off ext)
  (hsl:ti.isSl=true)(hsz:ti.size=1)(hext:0<ext){k:IntKind}{s:Nat}{rows:List (List Int)}{hole:Option (Nat×Nat)}(hid:h id= .nw k s rows hole)(hlt:id<top):
  off<rows.length∧∃u w',(execOp ae o).run P w= .ok (.value u) w'∧kA F ρ v w'∧oA ρ (av F (fA ρ v)) w' (kH (γ id) s hole off) u∧qG (fA ρ v) w (fA ρ v) w':=by
 have hv:=ho.nest id k s rows hole hlt hid;have hra:=he a;rw[hea]at hra;simp only[oA]at hra;obtain⟨b,n,C,hp,hle,_⟩:=hra;have hoff:off<rows.length:=by obtain⟨p,hp',hb⟩:=hh.rel id (by rw[hv];trivial);rw[hp]at hp';simp only[Option.some.injEq]at hp';subst hp';rw[hv]at hb;have:=hb.1;rw[xA]at this;dsimp only at this;omega
 refine⟨hoff,?_⟩;have hav:yI ty 0 o.op ev v=some (true,{val:=kH (γ id) s hole off,touch:=[id]}):=by
  rw[hop];simp only[yI,hti,tN,hea,hv,kF,hsz,Dm hsl,sS,cond_false,Nat.ble_eq,Tl (yF (γ id) s hole hoff)];have h1:(Nat.ble 1 ext&&Nat.blt 0 1)=true:=by rw[hB];exact⟨w3 hext,rfl⟩
  rw[h1];rfl
 obtain⟨u,w',ρ',r1,r2,r3,r4,r5,r6⟩:=oT (P:=P) hty hh he (fun id h1 h2=>by simp at h2) o.op o rfl hav;have e:ρ'=ρ:=funext fun id=>r3 id (by simp);subst e;have e2:tG v 0 {val:=kH (γ id) s hole off,touch:=[id]}=v:=rfl;rw[e2]at r4 r5 r6;rcases r1 with r1|⟨r1,rfl⟩
 ·exact⟨u,w',r1,r4,r5,r6⟩
 ·exfalso;have:=r1;unfold execOp at this;rw[hop]at this;simp only[b6]at this;cases hx:(Instr.loadAt t (ae a)).run P w with
  |ok x w2=>rw[hx]at this;simp at this
  |_=>rw[hx]at this;simp[Result.andThen]at this
theorem Eo (h:Nat→qA)(nid:Nat){x:V}{tc:List Nat}{id:Nat}{b c:qA}(j:Nat):tG h nid {val:=x,wr:=[(id,b)],new:=[c],touch:=tc} j=if j=nid then c else if j=id then b else h j:=rfl
theorem Ep (h:Nat→qA)(nid:Nat){x:V}{tc:List Nat}{id g:Nat}{a b c:qA}(j:Nat):tG h nid {val:=x,wr:=[(g,a),(id,b)],new:=[c],touch:=tc} j=if j=nid then c else if j=id then b else if j=g then a else h j:=rfl
theorem Er (h:Nat→qA)(nid:Nat){x:V}{tc:List Nat}{id g:Nat}{a b:qA}(j:Nat):tG h nid {val:=x,wr:=[(g,a),(id,b)],touch:=tc} j=if j=id then b else if j=g then a else h j:=rfl
theorem Dr (hty:uD P ty)(ho:fC h γ v)(hh:kA F ρ v w)(hb:Bd ρ)(he:∀x,oA ρ (av F (fA ρ v)) w (ev x) (ae x))(o:Oper){t:Nat}{a:Operand}(hop:o.op= .load t a){ti:TI}(hti:ty t=some ti){id off ext:Nat}(hea:ev a= .ptr id off ext)
  {k:IntKind}{s:Nat}{rows:List (List Int)}{hole:Option (Nat×Nat)}(hid:h id= .nw k s rows hole)(hn:∀i,nid≤i→i<nid+out.new.length→ρ i=none)(hlt:nid+out.new.length≤top)(hwr:∀p∈out.wr,p.1<top)
  (ha:di ti nid id off ext k s rows hole h=some (true,out)):T3 F ρ h v w nid out ((execOp ae o).run P w):=by
 unfold di at ha;obtain⟨hc,ha2⟩:=cA ha;clear ha;obtain⟨hsl,hc2⟩:=wA hc;obtain⟨hsz,hext⟩:=wA hc2;have hsz:=aB hsz;have hext:=aC hext;cases hole with
 |none=>
  simp only[Option.some.injEq,Prod.mk.injEq,true_and]at ha2;subst ha2;have hidt:id<top:=hwr _ (n0.mpr rfl);have hnt:nid<top:=by simp at hlt;omega
  have hnn:ρ nid=none:=hn nid (eX _) (by simp);obtain⟨hoff,u,w',r1,r2,r3,r4⟩:=dw (P:=P) hty ho hh he o hop hti hea hsl hsz hext hid hidt;have hne:id≠nid:=fun e=>by have:=ho.dead hnt (lK hh hnn);subst e;rw[hid]at this;cases this
  obtain⟨ρ',v',p,q⟩:=dh (h':=tG h nid {val:=.sw nid s,wr:=[(id,.nw k s rows (some (off,nid)))],new:=[.ints k (rows.getD off [])],touch:=[id]}) ho r2 hid hidt hoff hnt hnn (by rw[Eo,if_neg hne,if_pos rfl]) (by rw[Eo,if_pos rfl]) (fun j h1 h2=>by rw[Eo,if_neg h2,if_neg h1]);exact⟨u,w',ρ',v',.inl r1,⟨p.sub,p.same,p.bd,p.fresh,p.opn,p.heap,r4.trans p.ext⟩,q u r3⟩
 |some pr=>
  obtain⟨j,g⟩:=pr;dsimp only at ha2;split at ha2
  ·rename_i k' l hg;obtain⟨hk,ha3⟩:=cA ha2;have hk:=yE hk;subst hk;simp only[Option.some.injEq,Prod.mk.injEq,true_and]at ha3;subst ha3;have hgt:g<top:=hwr (g,.dead) (by simp);have hidt:id<top:=hwr _ (e0 _ (n0.mpr rfl));have hnt:nid<top:=by simp at hlt;omega
   have hnn:ρ nid=none:=hn nid (eX _) (by simp);obtain⟨hoff,u,w',r1,r2,r3,r4⟩:=dw (P:=P) hty ho hh he o hop hti hea hsl hsz hext hid hidt;have hd:=ho.dead hnt (lK hh hnn);have hne:id≠nid:=fun e=>by subst e;rw[hid]at hd;cases hd
   have hne2:g≠nid:=fun e=>by subst e;rw[hg]at hd;cases hd
   have hne3:id≠g:=fun e=>by subst e;rw[hid]at hg;cases hg
   obtain⟨γ1,ρ1,v1,o1,p1,s1,q1⟩:=cO (h':=fun x=>if x=id then .nw k s (rows.set j l) none else if x=g then .dead else h x) ho r2 hb hid hidt hg hgt 1 (by simp) (by simp[Ne.symm hne3]) (fun x h1 h2=>by simp[h1,h2]) (nid:=nid);obtain⟨ρ',v',p,q⟩:=dh (h':=tG h nid {val:=.sw nid s,wr:=[(g,.dead),(id,.nw k s (rows.set j l) (some (off,nid)))],new:=[.ints k ((rows.set j l).getD off [])],touch:=[id,g]}) o1 p1.heap (off:=off) (by rw[if_pos rfl]) hidt (by rw[k5];exact hoff) hnt (by rw[s1 nid hnt];exact hnn)
    (by rw[Ep,if_neg hne,if_pos rfl]) (by rw[Ep,if_pos rfl]) (fun x h1 h2=>by rw[Ep,if_neg h2,if_neg h1];simp[h1])
   have pp:=p1.trans p;exact⟨u,w',ρ',v',.inl r1,⟨pp.sub,pp.same,pp.bd,pp.fresh,pp.opn,pp.heap,r4.trans pp.ext⟩,q u (q1 off u hoff r3)⟩
  ·cases ha2
theorem Bj (hty:uD P ty)(ho:fC h γ v)(hh:kA F ρ v w)(hb:Bd ρ)(he:∀x,oA ρ (av F (fA ρ v)) w (ev x) (ae x))(o:Oper){t:Nat}{a x:Operand}(hop:o.op= .store t a x){ti:TI}(hti:ty t=some ti){id off ext:Nat}(hea:ev a= .ptr id off ext)
  {k:IntKind}{s:Nat}{rows:List (List Int)}{hole:Option (Nat×Nat)}(hid:h id= .nw k s rows hole)(hwr:∀p∈out.wr,p.1<top)
  (ha:zU ti id off ext k s rows hole (ev x) h=some (true,out)):T3 F ρ h v w nid out ((execOp ae o).run P w):=by
 unfold zU at ha;split at ha
 ·rename_i g s' hex;split at ha
  ·rename_i k' l hg;obtain⟨hc,ha2⟩:=cA ha;clear ha;obtain⟨hc1,hc2⟩:=wA hc;obtain⟨hle,hsz⟩:=wA hc1;obtain⟨hk,hs⟩:=wA hc2;have hk:=yE hk;have hs:=aB hs;have hsz:=aB hsz;subst hk;subst hs;simp only[Option.some.injEq,Prod.mk.injEq]at ha2;obtain⟨hhole,rfl⟩:=ha2;have hgt:g<top:=hwr (g,.dead) (by simp);have hidt:id<top:=hwr _ (e0 _ (n0.mpr rfl));have hne3:id≠g:=fun e=>by subst e;rw[hid]at hg;cases hg
   have hhole:hole=none∨∃g0,hole=some (off,g0):=by
    cases hole with
    |none=>exact .inl rfl
    |some pr=>obtain⟨j,g0⟩:=pr;dsimp only at hhole;have:=aB hhole;subst this;exact .inr ⟨g0,rfl⟩
   have hv:=ho.nest id k s rows hole hidt hid;have hra:=he a;rw[hea]at hra;simp only[oA]at hra;obtain⟨b,n,C,hp,hle2,_⟩:=hra;have hext:=lE hle;have hoff:off<rows.length:=by obtain⟨p,hp',hb⟩:=hh.rel id (by rw[hv];trivial);rw[hp]at hp';simp only[Option.some.injEq]at hp';subst hp';rw[hv]at hb;have:=hb.1;rw[xA]at this;dsimp only at this;omega
   have hcells:(jD (γ id) s hole rows.length).set off (.sw g s)=jD (γ id) s (some (off,g)) rows.length:=by
    apply List.ext_getElem?;intro i;rw[List.getElem?_set,xA];by_cases hi:i<rows.length
    ·rw[yF _ _ _ hi,yF _ _ _ hi];by_cases hio:off=i
     ·subst hio;simp[hoff,kH]
     ·rw[if_neg hio];congr 1;unfold kH;rcases hhole with q|⟨g0,q⟩<;>subst q<;>simp[Ne.symm hio]
    ·rw[hF (by rw[xA];omega),hF (by rw[xA];omega)];rw[if_neg (by omega)]
   have hav:yI ty 0 o.op ev v=some (true,{val:=bI,wr:=[(id,.vals (jD (γ id) s (some (off,g)) rows.length))],touch:=[id]}):=by
    rw[hop];have h1:(Nat.ble ti.size ext&&Nat.beq [V.sw g s].length ti.size)=true:=by rw[hle,hsz];rfl
    simp only[yI,hti,hea,hex,oE,h1,cond_true,hv,wG,List.all_cons,List.all_nil,pQ,Bool.and_true,bW _ _ _ (show off<(jD (γ id) s hole rows.length).length by rw[xA];exact hoff),Option.map_some,hcells]
   obtain⟨u,w',ρ',r1,r2,r3,r4,r5,r6⟩:=oT (P:=P) hty hh he (fun id h1 h2=>by simp at h2) o.op o rfl hav;have e:ρ'=ρ:=funext fun id=>r3 id (by simp);subst e;have e2:tG v 0 {val:=bI,wr:=[(id,.vals (jD (γ id) s (some (off,g)) rows.length))],touch:=[id]}=nB v id (.vals (jD (γ id) s (some (off,g)) rows.length)):=rfl;rw[e2]at r4 r5 r6
   classical
   have hpt:=ho.point (g:=g) (h':=fun x=>if x=id then .nw k s rows (some (off,g))else h x) hid hidt hhole (by simp) (fun j hj=>by simp[hj]);have hheap:∃v1,(∀x,v1 x=if x=γ id off∧uB h id off then qA.dead else if x=id then .vals (jD (γ id) s (some (off,g)) rows.length)else v x)∧kA F ρ' v1 w'∧qG (fA ρ' v) w (fA ρ' v1) w':=by
    by_cases hlo:uB h id off
    ·obtain⟨k1,k2⟩:=r4.kill (γ id off);refine⟨_,fun x=>?_,k1,r6.trans k2⟩;by_cases hx:x=γ id off
     ·simp[nB,hx,hlo]
     ·simp[nB,hx]
    ·refine⟨_,fun x=>?_,r4,r6⟩;simp[nB,hlo]
   obtain⟨v1,hv1,k1,k2⟩:=hheap;rw[←(funext hv1:v1=_)]at hpt;obtain⟨γ1,ρ1,v2,o1,p1,s1,q1⟩:=cO (h':=tG h nid {val:=bI,wr:=[(g,.dead),(id,.nw k s (rows.set off l) none)],touch:=[id,g]}) hpt k1 hb (id:=id) (by rw[if_pos rfl]) hidt (show(if g=id then _ else h g)=_ by rw[if_neg (Ne.symm hne3)];exact hg) hgt 0 (by rw[Er,if_pos rfl]) (by rw[Er,if_neg (Ne.symm hne3),if_pos rfl]) (fun x h1 h2=>by rw[Er,if_neg h1,if_neg h2,if_neg h1]) (nid:=nid);refine⟨u,w',ρ1,v2,r1,⟨p1.sub,fun x hx hx2=>p1.same x hx hx2,p1.bd,fun x hx hl=>?_,p1.opn,p1.heap,k2.trans p1.ext⟩,?_⟩
   ·rcases p1.fresh x hx hl with q|q
    ·rw[hv1]at q;split at q
     ·exact q.elim
     ·rw[if_neg (by omega)]at q;exact .inl q
    ·exact .inr q
   ·have:=r5.c;subst this;exact oA.of_c _
  ·cases ha
 ·cases ha
def vv (e:V)(s:Nat)(l:List Int):Option Nat→Prop
 |none=>e= .c (.slice none 0 0)∧l=[]
 |some g=>e= .sw g s
theorem fb (ho:fC h γ v){v1:Nat→qA}(hh1:kA F ρ v1 w)(hb:Bd ρ){dd gg:Option Nat}{k:IntKind}{s:Nat}{rows:List (List Int)}{l:List Int}{e:V}(hd:match dd with|none=>rows=[]|some id=>id<top∧h id= .nw k s rows none)(hg:match gg with|none=>True|some g=>g<top∧h g= .ints k l)
  (hnid:nid<top)(hn:h nid= .dead)(hs:0<s)(he:vv e s l gg)
  (hv1:∀x,v1 x=if x=nid then .vals (jD (γ (dd.getD 0)) s none rows.length++[e])else if dd=some x then .dead else v x)
  {h':Nat→qA}(e1:h' nid= .nw k s (rows++[l]) none)(e2:∀x,x≠nid→dd=some x∨gg=some x→h' x= .dead)(e3:∀x,x≠nid→dd≠some x→gg≠some x→h' x=h x):
  ∃ρ' v',qN F ρ v1 w nid 1 h' ρ' v' w∧∀u s',oA ρ (av F (fA ρ v1)) w (.sw nid s') u→oA ρ' (av F (fA ρ' v')) w (.sw nid s') u:=by
 obtain⟨γ0,g1,g2,g3⟩:=kV hb hh1;have hddlt:∀x,dd=some x→x<top:=fun x e=>by subst e;exact hd.1
 have hgglt:∀x,gg=some x→x<top∧h x= .ints k l:=fun x e=>by subst e;exact hg
 have c1:γ0≠nid:=by omega
 have c2:¬(dd=some γ0):=fun e=>by have:=hddlt _ e;omega
 have c3:¬(gg=some γ0):=fun e=>by have:=(hgglt _ e).1;omega
 have hv0:v1 γ0=v γ0:=by rw[hv1,if_neg c1,if_neg c2]
 have hop:=ho.snoc hd hg hnid hn g1 (by rw[←hv0];exact g3) e1 e2 e3;generalize hv':(fun x=>if x=γ0 then qA.ints k l else if x=nid then .vals (jD (fun b=>if b<rows.length then γ (dd.getD 0) b else γ0) s none (rows.length+1))else if dd=some x∨gg=some x then .dead else v x)=v' at hop;have hvx:∀x,v' x=if x=γ0 then qA.ints k l else if x=nid then .vals (jD (fun b=>if b<rows.length then γ (dd.getD 0) b else γ0) s none (rows.length+1))else if dd=some x∨gg=some x then .dead else v x:=fun x=>by rw[←hv']
 have hρ:∃ρ':xC,vL ρ ρ'∧(∀x,x≠γ0→ρ' x=ρ x)∧(∀id p,ρ' id=some p→p.n≤p.C)∧(Bd ρ→Bd ρ')∧(match gg with|some g=>ρ' γ0=ρ g|none=>ρ' γ0=some ⟨none,0,0⟩):=by
  cases gg with
  |some g=>exact⟨aF ρ γ0 g,qT g2,fun x hx=>by simp[aF,hx],qX hh1.wf,pX,by simp[aF]⟩
  |none=>exact⟨iC ρ γ0 ⟨none,0,0⟩,pE g2,fun x hx=>by simp[iC,hx],vP hh1.wf (eX _),fun⟨G,hG⟩=>⟨G+γ0+1,fun g hg=>by simp only[iC];rw[if_neg (by omega)];exact hG g (by omega)⟩,by simp[iC]⟩
 obtain⟨ρ',hsub,hsame,hwf,hbd,hγ0⟩:=hρ;have hcell:∀M u,oA ρ' M w e u→oA ρ' M w (.sw γ0 s) u:=by
  intro M u hr;cases gg with
  |some g=>dsimp only[vv]at he hγ0;rw[he]at hr;refine hr.sw_as ?_;rw[hγ0,hsame g (fun e=>c3 (by rw[e]))]
  |none=>dsimp only[vv]at he hγ0;rw[he.1]at hr;have:=hr.c;subst this;simp only[oA];exact⟨hs,.inr ⟨hγ0,by first|rfl|trivial⟩⟩
 obtain⟨q1,q2⟩:=hh1.shift (v':=v') hsub hwf (fun x=>if x=γ0 then gg.getD γ0 else x) (fun x hl=>by
  rw[hvx]at hl⊢;by_cases hx:x=γ0
  ·subst hx;simp only[if_true]at hl⊢;cases gg with
   |none=>exact .inr ⟨hγ0,k,by rw[he.2]⟩
   |some g=>
    refine .inl ?_;have hgg:=hgglt g rfl;have a1:g≠nid:=fun e=>by subst e;rw[hn]at hgg;cases hgg.2
    have a2:¬(dd=some g):=fun e=>by subst e;rw[hd.2]at hgg;cases hgg.2
    have hvg:v1 g= .ints k l:=by rw[hv1,if_neg a1,if_neg a2,←hgg.2];exact ho.plain g hgg.1 (by rw[hgg.2];rfl)
    simp only[hR];exact⟨by rw[hvg];trivial,hγ0,.inl hvg.symm⟩
  ·refine .inl ?_;rw[if_neg hx]at hl⊢;simp only[if_neg hx];refine⟨?_,hsame x hx,?_⟩
   ·by_cases hx2:x=nid
    ·rw[hv1,if_pos hx2];trivial
    ·rw[if_neg hx2]at hl;by_cases hx3:dd=some x∨gg=some x
     ·rw[if_pos hx3]at hl;exact hl.elim
     ·rw[if_neg hx3]at hl;rw[hv1,if_neg hx2,if_neg (fun e=>hx3 (.inl e))];exact hl
   ·by_cases hx2:x=nid
    ·rw[if_pos hx2];refine .inr ⟨_,_,by rw[hv1,if_pos hx2],rfl,by simp[xA],fun M us hr=>mA.pointwise (by simp[xA]) (fun i a b u h1 h2 h3 hrel=>?_) hr⟩;have hi:i<rows.length+1:=by have:=(zE.mp h2).1;rwa[xA]at this
     rw[yF _ _ _ hi]at h2;simp only[Option.some.injEq]at h2;subst h2;unfold kH;dsimp only;by_cases hi2:i<rows.length
     ·rw[hN (by rw[xA];exact hi2),yF _ _ _ hi2]at h1;simp only[Option.some.injEq]at h1;subst h1;rw[if_pos hi2];exact hrel
     ·have:i=rows.length:=by omega
      subst this;rw[hU (by rw[xA];exact eX _),xA]at h1;simp at h1;subst h1;rw[if_neg hi2];exact hcell M u hrel
    ·rw[if_neg hx2]at hl⊢;by_cases hx3:dd=some x∨gg=some x
     ·rw[if_pos hx3]at hl;exact hl.elim
     ·rw[if_neg hx3];exact .inl (by rw[hv1,if_neg hx2,if_neg (fun e=>hx3 (.inl e))])) (fun x x' hl hl' hlv e=>by
  have key:∀y,(v' y).live→y≠γ0→gg≠some y:=by
   intro y hy hne hgy;rw[hvx,if_neg hne]at hy;have a1:y≠nid:=fun e=>by subst e;have:=(hgglt _ hgy).2;rw[hn]at this;cases this
   rw[if_neg a1,if_pos (.inr hgy)]at hy;exact hy
  by_cases hx:x=γ0<;>by_cases hx':x'=γ0
  ·rw[hx,hx']
  ·simp only[if_pos hx,if_neg hx']at e;cases hgg:gg with
   |none=>rw[hgg]at e;exact absurd e.symm hx'
   |some g=>rw[hgg]at e;exact absurd (by rw[hgg,←e];rfl) (key x' hl' hx')
  ·simp only[if_neg hx,if_pos hx']at e;cases hgg:gg with
   |none=>rw[hgg]at e;exact absurd e hx
   |some g=>rw[hgg]at e;exact absurd (by rw[hgg,e];rfl) (key x hl hx)
  ·simp only[if_neg hx,if_neg hx']at e;exact e)
 refine⟨ρ',v',⟨hsub,fun x hx _=>hsame x (by omega),hbd,fun x hx hl=>?_,⟨_,hop⟩,q1,q2⟩,fun u s' hu=>?_⟩
 ·by_cases hx0:x=γ0
  ·subst hx0;exact .inr g2
  ·rw[hvx,if_neg hx0,if_neg (by omega)]at hl;by_cases hx3:dd=some x∨gg=some x
   ·rw[if_pos hx3]at hl;exact hl.elim
   ·rw[if_neg hx3]at hl;refine .inl ?_;rw[hv1,if_neg (by omega),if_neg (fun e=>hx3 (.inl e))];exact hl
 ·exact oA.mono hsub q2 _ _ hu
theorem yu {ti:TI}{e:V}{k:IntKind}{s:Nat}{l:List Int}{gs:List Nat}(hr:Bi ty ti h e=some (k,s,l,gs)):(e= .c (.slice none 0 0)∧l=[]∧gs=[]∧0<s)∨∃g,e= .sw g s∧h g= .ints k l∧gs=[g]:=by
 unfold Bi at hr;split at hr
 ·split at hr
  ·split at hr
   ·split at hr
    ·obtain⟨h0,hr⟩:=cA hr;simp only[Option.some.injEq,Prod.mk.injEq]at hr;obtain⟨rfl,rfl,rfl,rfl⟩:=hr;exact .inl ⟨rfl,rfl,rfl,aC h0⟩
    ·cases hr
   ·cases hr
  ·cases hr
 ·rename_i g s0;split at hr
  ·rename_i k0 l0 hg;simp only[Option.some.injEq,Prod.mk.injEq]at hr;obtain⟨rfl,rfl,rfl,rfl⟩:=hr;exact .inr ⟨g,rfl,hg,rfl⟩
  ·cases hr
 ·cases hr
theorem lr (hty:uD P ty)(ho:fC h γ v)(hh:kA F ρ v w)(hb:Bd ρ)(he:∀x,oA ρ (av F (fA ρ v)) w (ev x) (ae x))(o:Oper){args:Array Operand}{ts:Array TypeId}(hop:o.op= .call ⟨.builtin .append,args,ts⟩){d s:V}(hds:args.toList.map ev=[d,s])
  {t t2:Nat}{tr:List Nat}(hts:ts.toList=t::t2::tr){e size bytes:Nat}{zero:List Value}{e2 size2 bytes2:Nat}{zero2:List Value}(ht:ty t=some ⟨.slice e,size,bytes,zero⟩)(ht2:ty t2=some ⟨.slice e2,size2,bytes2,zero2⟩){ti:TI}(hti:ty e=some ti)(hsl:ti.isSl=true)
  (hn:∀i,nid≤i→i<nid+out.new.length→ρ i=none)(hlt:nid+out.new.length≤top)(hwr:∀p∈out.wr,p.1<top)(htop:∀j,top≤j→h j= .dead)
  (ha:xJ ty ti h nid d s=some (true,out)):T3 F ρ h v w nid out ((execOp ae o).run P w):=by
 unfold xJ at ha;split at ha
 ·rename_i ids w1;split at ha
  ·rename_i x hids;split at ha
   ·rename_i k w0 l gs hrow;obtain⟨hc,ha2⟩:=cA ha;clear ha;obtain⟨hw1,hc2⟩:=wA hc;obtain⟨hsz,hc3⟩:=wA hc2;obtain⟨hby,hhomo⟩:=wA hc3;have hw1:=aB hw1;subst hw1;have hsz:=aB hsz;have hby:=aC hby;have hhomo:dQ ti=none:=by cases hq:dQ ti with|none=>rfl|some _=>rw[hq]at hhomo;cases hhomo
    have hidst:ids<top:=by
     rcases hP ids top with q|q
     ·exact q
     ·rw[htop ids q]at hids;cases hids
    have hvids:v ids= .vals [x]:=by rw[←hids];exact ho.plain ids hidst (by rw[hids];rfl)
    have hsrc:kL v 1 (.sw ids 1)=some ([x],[ids]):=by simp only[kL,uu,hvids];rcases yu hrow with⟨rfl,_⟩|⟨g,rfl,_⟩<;>rfl
    obtain⟨hs0,hx2,hgs⟩:0<w0∧vv x w0 l gs.head?∧(gs=[]∨∃g,gs=[g]∧g<top∧h g= .ints k l):=by
     rcases yu hrow with⟨rfl,rfl,rfl,q⟩|⟨g,rfl,q1,rfl⟩
     ·exact⟨q,⟨rfl,rfl⟩,.inl rfl⟩
     ·have hgt:g<top:=by
       rcases hP g top with q|q
       ·exact q
       ·rw[htop g q]at q1;cases q1
      refine⟨?_,rfl,.inr ⟨g,rfl,hgt,q1⟩⟩;obtain⟨p,hp,hbr⟩:=hh.rel ids (by rw[hvids];trivial);rw[hvids]at hbr;obtain⟨_,⟨_,q3,_⟩|⟨b,c,_,_,_,q3⟩⟩:=hbr
      ·cases q3
      ·cases hcl:c.toList.take p.n with
       |nil=>rw[hcl]at q3;simp only[mA]at q3
       |cons u us=>rw[hcl]at q3;simp only[mA,oA]at q3;exact q3.1.1
    have happ:∀{out1:oF},pI ti v nid d (.sw ids 1)=some (true,out1)→yI ty nid o.op ev v=some (true,out1):=by intro out1 h1;rw[hop];simp only[yI,hds,sH,hts,ht,ht2,hti,h1]
    have hbs:(Nat.blt 0 ti.bytes&&Nat.blt 0 1)=true:=by rw[hB];exact⟨w3 hby,rfl⟩
    have hggc:match(gs.head?:Option Nat)with|none=>True|some g=>g<top∧h g= .ints k l:=by
     rcases hgs with rfl|⟨g,rfl,q1,q2⟩
     ·trivial
     ·exact⟨q1,q2⟩
    have hgm:∀y,(gs.map fun i=>(i,qA.dead)).map (·.1)=gs∧(y∈gs↔gs.head?=some y):=by
     intro y;rcases hgs with rfl|⟨g,rfl,_⟩
     ·simp
     ·simp[eq_comm]
    split at ha2
    ·
     simp only[Option.some.injEq,Prod.mk.injEq]at ha2;obtain⟨hroom,rfl⟩:=ha2;have hnt:nid<top:=by simp at hlt;omega
     have hnn:ρ nid=none:=hn nid (eX _) (by simp);have hd0:=ho.dead hnt (lK hh hnn);have hav:=happ (out1:={val:=.sw nid 1,new:=[.vals [x]],touch:=[ids]}) (by simp only[pI,hbs,x2,cond_false,hhomo,hsrc,hsz,gE,o0,hroom]);obtain⟨u,w',ρ',r1,r2,r3,r4,r5,r6⟩:=oT (P:=P) hty hh he (fun id h1 h2=>hn id h1 (by simpa using h2)) o.op o rfl hav;have hbd:Bd ρ':=by obtain⟨G,hG⟩:=hb;exact⟨G+nid+1,fun g hg=>by rw[r3 g (by simp;omega)];exact hG g (by omega)⟩
     obtain⟨ρ2,v2,p2,q2⟩:=fb (h':=tG h nid {val:=.sw nid 1,wr:=gs.map fun i=>(i,qA.dead),new:=[.nw k w0 [l] none],touch:=ids::gs}) ho r4 hbd (dd:=none) (gg:=gs.head?) (rows:=[]) (l:=l) rfl hggc hnt hd0 hs0 hx2
      (fun y=>by
       simp only[tG,qk,bD];by_cases hy:y=nid
       ·simp[hy,jD]
       ·simp[hy])
      (by rw[xO,yD,eV (eX _) (by simp)];simp[rA])
      (fun y hy hyy=>by
       rcases hyy with hyy|hyy
       ·cases hyy
       ·rw[xO,yD,gB (sO (by simp;omega)),aQ _ _ _ ((hgm y).2.mpr hyy)])
      (fun y hy _ hyy=>by rw[xO,yD,gB (sO (by simp;omega)),gB (by rw[(hgm y).1];exact fun hm=>hyy ((hgm y).2.mp hm))])
     refine⟨u,w',ρ2,v2,r1,⟨r2.trans p2.sub,fun y hy hy2=>by rw[p2.same y hy hy2];exact r3 y hy2,fun _=>p2.bd hbd,fun y hy hl=>?_,p2.opn,p2.heap,r6.trans p2.ext⟩,q2 u 1 r5⟩;rcases p2.fresh y hy hl with q|q
     ·refine .inl ?_;simp only[tG,qk,bD]at q;rw[if_neg (by omega)]at q;exact q
     ·rw[r3 y (by simp;omega)]at q;exact .inr q
    ·rename_i id w2;split at ha2
     ·rename_i k' w' rows hid;obtain⟨hq,ha3⟩:=cA ha2;clear ha2;obtain⟨hq1,hq2⟩:=wA hq;obtain⟨hk,hw⟩:=wA hq1;have hk:=yE hk;have hw:=aB hw;have hq2:=aB hq2;subst hk;subst hw;subst hq2;simp only[Option.some.injEq,Prod.mk.injEq]at ha3;obtain⟨hroom,rfl⟩:=ha3;have hidt:id<top:=hwr (id,.dead) (by simp);have hnt:nid<top:=by simp at hlt;omega
      have hnn:ρ nid=none:=hn nid (eX _) (by simp);have hd0:=ho.dead hnt (lK hh hnn);have hne:id≠nid:=fun e=>by subst e;rw[hid]at hd0;cases hd0
      have hvid:=ho.nest id k w0 rows none hidt hid;have hav:=happ (out1:={val:=.sw nid 1,wr:=[(id,.dead)],new:=[.vals (jD (γ id) w0 none rows.length++[x])],touch:=[id,ids]}) (by simp only[pI,hbs,x2,cond_false,hhomo,hsrc,hsz,hvid,Nat.beq_refl,cond_true,gE,xA,o0,hroom]);obtain⟨u,w',ρ',r1,r2,r3,r4,r5,r6⟩:=oT (P:=P) hty hh he (fun id h1 h2=>hn id h1 (by simpa using h2)) o.op o rfl hav;have hbd:Bd ρ':=by obtain⟨G,hG⟩:=hb;exact⟨G+nid+1,fun g hg=>by rw[r3 g (by simp;omega)];exact hG g (by omega)⟩
      have hwrm:∀y,y≠nid→tG h nid {val:=.sw nid 1,wr:=(gs.map fun i=>(i,qA.dead))++[(id,.dead)],new:=[.nw k w0 (rows++[l]) none],touch:=id::ids::gs} y=if y=id then .dead else bD h (gs.map fun i=>(i,qA.dead)) y:=by intro y hy;rw[xO,yD,gB (sO (by simp;omega)),yD];rfl
      obtain⟨ρ2,v2,p2,q2⟩:=fb (h':=tG h nid {val:=.sw nid 1,wr:=(gs.map fun i=>(i,qA.dead))++[(id,.dead)],new:=[.nw k w0 (rows++[l]) none],touch:=id::ids::gs}) ho r4 hbd (dd:=some id) (gg:=gs.head?) (rows:=rows) (l:=l) ⟨hidt,hid⟩ hggc hnt hd0 hs0 hx2
       (fun y=>by
        simp only[tG,qk,bD,hR,Option.some.injEq];by_cases hy:y=nid
        ·simp[hy]
        ·simp[hy,eq_comm])
       (by rw[xO,yD,eV (eX _) (by simp)];simp[rA])
       (fun y hy hyy=>by
        rw[hwrm y hy];rcases hyy with hyy|hyy
        ·simp only[Option.some.injEq]at hyy;rw[if_pos hyy.symm]
        ·split
         ·rfl
         ·exact aQ _ _ _ ((hgm y).2.mpr hyy))
       (fun y hy hy1 hyy=>by rw[hwrm y hy,if_neg (fun e=>hy1 (by rw[e])),gB (by rw[(hgm y).1];exact fun hm=>hyy ((hgm y).2.mp hm))])
      refine⟨u,w',ρ2,v2,r1,⟨r2.trans p2.sub,fun y hy hy2=>by rw[p2.same y hy hy2];exact r3 y hy2,fun _=>p2.bd hbd,fun y hy hl=>?_,p2.opn,p2.heap,r6.trans p2.ext⟩,q2 u 1 r5⟩;rcases p2.fresh y hy hl with q|q
      ·refine .inl ?_;simp only[tG,qk,bD]at q;rw[if_neg (by omega),if_neg (by omega)]at q;exact q
      ·rw[r3 y (by simp;omega)]at q;exact .inr q
     ·cases ha2
    ·cases ha2
   ·cases ha
  ·cases ha
 ·cases ha
theorem kA.more (hh:kA F ρ v w){x:Obj}{w':World}(hw:w'.heap=w.heap.push x)(hk:sG w w'):kA F ρ v w'∧qG (fA ρ v) w (fA ρ v) w':=by
 have hold:∀b,b<w.heap.size→w'.heap[b]?=w.heap[b]?:=by
  intro b hb;rw[hw,Array.getElem?_push];split
  ·omega
  ·rfl
 have hext:qG (fA ρ v) w (fA ρ v) w':=⟨by rw[hw];simp,fun b hb _=>hold b hb,fun b hb=>.inl hb,hk⟩
 refine⟨⟨hh.wf,fun id hl=>?_,hh.inj,hh.low' hext,hh.out⟩,hext⟩;obtain⟨p,hp,hb⟩:=hh.rel id hl;refine⟨p,hp,jB.mono (vL.refl _) hext hb ?_⟩;intro b hb';obtain⟨pb,pn,pC⟩:=p;dsimp only at hb';subst hb';exact hold b (fA.lt hh ⟨id,pn,pC,hp,hl⟩)
theorem lx {ts:Array TypeId}{e:Nat}{te:TI}(ht:A3 P ts e te)(t':TypeId)(hh:kA F ρ v w){vd vx:Value}{m:Nat}{us:List Value}(hs:Qc P w te.size m vx us){id:Nat}{k:IntKind}{l:List Int}(hd:oA ρ (av F (fA ρ v)) w (.sw id te.size) vd)(hid:v id= .ints k l)
  (hroom:cB (l.length/te.size+m) te.bytes=true):
  ∃u w',(Builtin.append_ ts t' #[vd,vx]).run P w= .ok u w'∧kA F ρ v w'∧qG (fA ρ v) w (fA ρ v) w'∧∃a cap,u= .slice a (l.length/te.size+m) cap∧l.length/te.size+m≤cap:=by
 obtain⟨t,ts0,hu⟩:=ht.t;obtain⟨t2,d2,ts1,hd2,hd2i⟩:=ht.t2;obtain⟨_,⟨b,n,C,cap,c,hp,hmod,hcap,hC,rfl,ho,hcC,hold⟩|⟨hp,rfl,hk⟩⟩:=fG hh hd (by rw[hid];trivial) (by rw[hid];trivial)
 ·rw[hid]at hold;obtain⟨k1,k2,k3⟩:=hold;rw[k1]at hroom⊢;have hns:n/te.size*te.size=n:=Nat.div_mul_cancel (w5 hmod);have hus:=hs.size;have hsum:(n/te.size+m)*te.size=n+us.length:=by rw[Nat.add_mul,hns,hus]
  by_cases hle:n/te.size+m≤cap
  ·have h1:=vI (P:=P) (w:=w) t' hu ht.e ts0 ts1 hd2 hd2i (base:=some ⟨b,0,none⟩) (n:=n/te.size) (cap:=cap) hs.len (hs.cells w rfl) hle;have hroomC:n+us.length≤C:=by
    have:(n/te.size+m)*te.size≤cap*te.size:=Nat.mul_le_mul_right _ hle;omega
   obtain⟨w',c',r1,r2,r3,r4,r5,r6⟩:=eG (P:=P) (b:=b) us w n 0 C c ho (by omega) hs.one;subst hcC;rw[←r5]at r4 hp;obtain⟨q1,q2⟩:=kA.write (x:=v id) hh (by rw[hid];trivial) hp r2 r3 r4 (by rw[hid];exact⟨k1,by omega,fun i hi=>by rw[r6 i,if_neg (by omega)];exact k3 i hi⟩);rw[uU rfl]at q1 q2;refine⟨.slice (some ⟨b,0,none⟩) (n/te.size+m) cap,w',?_,q1,q2,_,cap,rfl,hle⟩;rw[h1];simp only[uF,x1,hns,r1,w4]
  ·have hos:∀w':World,w'.heap=w.heap→(Builtin.firstCells te.size (n/te.size) (.slice (some ⟨b,0,none⟩) (n/te.size) cap)).run P w'= .ok (c.toList.take n).toArray w':=by
    intro w' he;refine yH (by simp;omega) (.inr ⟨b,0,rfl,fun j hj=>?_⟩) (fun h=>by cases h);rw[zC (w:=w) (w':=w') (by rw[he]),x1,ho.cell];simp at hj;rw[j0 (by omega)];simp
   obtain⟨nc,w',zs,r1,r2,r3,r4⟩:=zG (P:=P) (w:=w) t' hu ht.e ts0 ts1 hd2 hd2i ht.bytes (base:=some ⟨b,0,none⟩) (n:=n/te.size) (cap:=cap) hs.len hs.cells hos (by omega) hroom;obtain⟨q1,q2⟩:=hh.more r3.1 r3.2;exact⟨_,w',r4,q1,q2,_,nc,rfl,r1⟩
 ·rw[hid]at hk;have hl:l=[]:=by rcases hk with⟨k2,hk2⟩|hk2|⟨_,_,hk2⟩<;>cases hk2;rfl
  subst hl;simp only[List.length_nil,Nat.zero_div,x1]at hroom⊢;by_cases hm:m=0
  ·subst hm;have:=vI (P:=P) (w:=w) t' hu ht.e ts0 ts1 hd2 hd2i (base:=none) (n:=0) (cap:=0) hs.len (hs.cells w rfl) (by omega);exact⟨_,w,this,hh,qG.refl _ _,none,0,rfl,eX _⟩
  ·obtain⟨nc,w',zs,r1,r2,r3,r4⟩:=zG (P:=P) (w:=w) t' hu ht.e ts0 ts1 hd2 hd2i ht.bytes (base:=none) (n:=0) (cap:=0) (os:=[]) hs.len hs.cells (fun w' _=>by simp[Builtin.firstCells]) (by omega) (by simpa using hroom);obtain⟨q1,q2⟩:=hh.more r3.1 r3.2;exact⟨_,w',r4,q1,q2,_,nc,by rw[x1],by omega⟩
theorem qe {k:IntKind}{s:Nat}{x:V}{l:List Int}{tc:List Nat}(hr:nG h k s x=some (l,tc)):∀i∈tc,∃k l,h i= .ints k l:=by
 have key:∀{y:V} {k':IntKind} {w':Nat} {l':List Int} {t':List Nat},bT h y=some (k',w',l',t')→∀i∈t',∃k l,h i= .ints k l:=by
  intro y k' w' l' t' hy i hi;unfold bT at hy;split at hy
  ·split at hy
   ·rename_i hid;simp only[Option.some.injEq,Prod.mk.injEq]at hy;obtain⟨_,_,_,rfl⟩:=hy;simp only[n0]at hi;subst hi;exact⟨_,_,hid⟩
   ·cases hy
  ·split at hy
   ·rename_i hid;simp only[Option.some.injEq,Prod.mk.injEq]at hy;obtain⟨_,_,_,rfl⟩:=hy;simp only[n0]at hi;subst hi;exact⟨_,_,hid⟩
   ·cases hy
  ·simp only[Option.some.injEq,Prod.mk.injEq]at hy;obtain⟨_,_,_,rfl⟩:=hy;simp at hi
  ·cases hy
 unfold nG at hr;split at hr
 ·simp only[Option.some.injEq,Prod.mk.injEq]at hr;obtain⟨_,rfl⟩:=hr;intro i hi;simp at hi
 ·obtain⟨_,hr⟩:=cA hr;simp only[Option.some.injEq,Prod.mk.injEq]at hr;obtain⟨_,rfl⟩:=hr;intro i hi;simp at hi
 ·split at hr
  ·rename_i hq;obtain⟨_,hr⟩:=cA hr;simp only[Option.some.injEq,Prod.mk.injEq]at hr;obtain⟨_,rfl⟩:=hr;exact key hq
  ·cases hr
theorem fC.ints (ho:fC h γ v){i:Nat}{k:IntKind}{l:List Int}(hi:h i= .ints k l):v i= .ints k l:=by
 rw[←hi];refine ho.plain i ?_ (by rw[hi];rfl);rcases hP i top with q|q
 ·exact q
 ·rw[ho.high i q]at hi;cases hi
theorem Mu (hty:uD P ty)(ho:fC h γ v)(hh:kA F ρ v w)(hb:Bd ρ)(he:∀x,oA ρ (av F (fA ρ v)) w (ev x) (ae x))(hn:∀id,nid≤id→id<nid+out.new.length→ρ id=none)(hlt:nid+out.new.length≤top)(hwr:∀p∈out.wr,p.1<top)(o:Oper){keep:Bool}
  (ha:dO keep ty nid o.op ev h=some (some (true,out))):T3 F ρ h v w nid out ((execOp ae o).run P w):=by
 have hlow:∀j,(h j).isNw=true→j<top:=fun j hj=>by
  rcases hP j top with q|q
  ·exact q
  ·rw[ho.high j q]at hj;cases hj
 generalize hop:o.op=op at ha;cases op<;>simp only[dO]at ha<;>try (cases ha;done)
 case indexAddr t x i=>
  split at ha
  ·rename_i id w1 hx;split at ha
   ·rename_i k s rows hole hid;simp only[Option.some.injEq]at ha;have hidt:=hlow id (by rw[hid];rfl);have hv:=ho.nest id k s rows hole hidt hid;unfold iq at ha;split at ha
    ·rename_i ki m e s0 b0 z0 hi ht;split at ha
     ·rename_i te hte;obtain⟨hc,ha2⟩:=cA ha;obtain⟨hw,hw1⟩:=wA hc;have hw1':=aB hw1;subst hw1';simp only[Option.some.injEq,Prod.mk.injEq]at ha2;obtain⟨hok,rfl⟩:=ha2;refine xn hty ho hh he o (tc:=[id]) ?_;rw[hop];simp only[yI,aL,hi,ht,hte,hx,hw,cond_true,hv,gE,kG,xA,hok]
     ·cases ha
    ·cases ha
   ·cases ha
  ·cases ha
 case load t a=>
  split at ha
  ·rename_i id off ext hea;split at ha
   ·rename_i k s rows hole hid;simp only[Option.some.injEq]at ha;split at ha
    ·rename_i ti hti;exact Dr hty ho hh hb he o hop hti hea hid hn hlt hwr ha
    ·cases ha
   ·cases ha
  ·cases ha
 case store t a x=>
  split at ha
  ·rename_i id off ext hea;split at ha
   ·rename_i k s rows hole hid;simp only[Option.some.injEq]at ha;split at ha
    ·rename_i ti hti;exact Bj hty ho hh hb he o hop hti hea hid hwr ha
    ·cases ha
   ·cases ha
  ·cases ha
 case call c=>
  obtain⟨callee,args,ts⟩:=c;cases callee with
  |value f=>cases ha
  |invoke r m=>cases ha
  |builtin b=>
   dsimp only at ha;generalize hxs:args.toList.map ev=xs at ha;unfold bh at ha;split at ha
   ·rename_i id w1;split at ha
    ·rename_i k s rows hole hid;simp only[Option.some.injEq]at ha;have hidt:=hlow id (by rw[hid];rfl);have hv:=ho.nest id k s rows hole hidt hid;unfold Np at ha;split at ha
     ·rename_i t r hts;split at ha
      ·rename_i ti hti;obtain⟨hc,ha2⟩:=cA ha;obtain⟨hsl,hw1⟩:=wA hc;have hw1':=aB hw1;subst hw1';simp only[Option.some.injEq,Prod.mk.injEq,true_and]at ha2;subst ha2;obtain⟨e,hte⟩:=xi hsl;refine xn hty ho hh he o (tc:=[id]) ?_;rw[hop];simp only[yI,hxs,sH,hts,hti,rK,hv,gE,xA,hte,xm,cond_true]
      ·cases ha
     ·cases ha
    ·cases ha
   ·rename_i d s;split at ha
    ·rename_i t t2 tr hts;split at ha
     ·rename_i e sz by_ z e2 sz2 by2 z2 ht ht2;split at ha
      ·rename_i ti hti;cases hsl:ti.isSl<;>rw[hsl]at ha<;>simp only[cond_true,cond_false]at ha
       ·cases keep<;>simp only[cond_true,cond_false]at ha
        ·cases ha
        ·simp only[Option.some.injEq]at ha;unfold wJ at ha;cases hbs:(Nat.blt 0 ti.bytes&&Nat.blt 0 ti.size)with
         |false=>simp[hbs]at ha
         |true=>
         simp only[hbs,x2,cond_false]at ha;obtain⟨hbt,hsz⟩:=wA hbs;have hbt:=aC hbt;have hsz:=aC hsz;split at ha
         ·rename_i k hk;split at ha
          ·cases ha
          ·rename_i src tc hsrc;split at ha
           ·rename_i id w2;split at ha
            ·rename_i k' l hid;obtain⟨hc,ha2⟩:=cA ha;obtain⟨hk2,hw2⟩:=wA hc;have hk2:=yE hk2;have hw2:=aB hw2;subst hk2;subst hw2;simp only[Option.some.injEq,Prod.mk.injEq]at ha2;obtain⟨hroom,rfl⟩:=ha2;have hsv:nG v k ti.size s=some (src,tc):=uG hsrc (fun i hi=>by
              obtain⟨k3,l3,h3⟩:=qe hsrc i hi;rw[h3];exact ho.ints h3)
             have hrl:=mA.map_ev he args.toList;rw[hxs]at hrl;obtain⟨vd,vx,hvs⟩:∃vd vx,args.toList.map ae=[vd,vx]:=by
              have:=hrl.length
              match hq:args.toList.map ae,this with
              | [a,b],_=>exact⟨a,b,rfl⟩
             rw[hvs]at hrl;simp only[mA,and_true]at hrl;obtain⟨m,m1,m2,m3⟩:=dW (P:=P) hh hsz hrl.2 hsv;have hS:Qc P w ti.size m vx (src.map (Value.int k)):=⟨m1,by simpa using m2,gR _,m3⟩
             have hts0:ts[0]?=some t:=by
              have:ts.toList[0]?=some t:=by rw[hts];rfl
              simpa using this
             have hts1:ts[1]?=some t2:=by
              have:ts.toList[1]?=some t2:=by rw[hts];rfl
              simpa using this
             have hu:=(hty _ _ ht).tk;have hu2:=(hty _ _ ht2).tk;simp only[xD]at hu hu2;have hat:A3 P ts e ti:=⟨⟨t,hts0,hu⟩,⟨t2,_,hts1,hu2,.inl ⟨_,rfl⟩⟩,hty _ _ hti,hbt,hsz⟩
             have hlen:gE ti.size (l.length+src.length)=l.length/ti.size+m:=by rw[mE,m2,u3 _ _ hsz]
             rw[hlen]at hroom;obtain⟨u,w',r1,r2,r3,r4⟩:=lx hat o.type hh hS hrl.1 (ho.ints hid) hroom;refine⟨u,w',ρ,v,.inl ?_,⟨vL.refl _,fun _ _ _=>rfl,fun hb=>hb,fun g _ hl=>.inl hl,⟨γ,ho⟩,r2,r3⟩,?_⟩
             ·unfold execOp;rw[hop];have e1:(args.map ae)= #[vd,vx]:=by apply Array.ext';simp[hvs]
              simp only[resolve,b6,Sem.run_pure,w4,invoke,e1];simp[builtin,r1]
             ·simp only[oA,hlen];exact r4
            ·cases ha
           ·cases ha
         ·cases ha
       ·simp only[Option.some.injEq]at ha;exact lr hty ho hh hb he o hop hxs hts ht ht2 hti hsl hn hlt hwr ho.high ha
      ·cases ha
     ·cases ha
    ·cases ha
   ·cases ha
end
mutual
theorem oA.avoid {ρ:xC}{M M':Nat→Prop}{w:World}(hM:∀b,M' b→M b):∀(x:V) (v:Value),oA ρ M w x v→oA ρ M' w x v
 | .c _,_,h=>by simpa only[oA]using h
 | .poison,_,_=>by simp only[oA]
 | .ptr _ _ _,_,h=>by simpa only[oA]using h
 | .sw _ _,_,h=>by simpa only[oA]using h
 | .sl _ _ _ _,_,h=>by simpa only[oA]using h
 | .mref _,_,h=>by simpa only[oA]using h
 | .il _ _ _,_,h=>by
  simp only[oA]at h⊢;obtain⟨h0,h1,h2|⟨b,o,cap,h2,h3,h4,h5,h6⟩⟩:=h
  ·exact⟨h0,h1,.inl h2⟩
  ·exact⟨h0,h1,.inr ⟨b,o,cap,h2,h3,h4,fun hm=>h5 (hM b hm),h6⟩⟩
 | .iv _ _,_,h=>by
  simp only[oA]at h⊢;obtain⟨h0,h2|⟨b,o,cap,h2,h3,h4,h5,h7⟩⟩:=h
  ·exact⟨h0,.inl h2⟩
  ·exact⟨h0,.inr ⟨b,o,cap,h2,h3,h4,fun hm=>h5 (hM b hm),h7⟩⟩
 | .ilp _ _ _ _,_,h=>by simp only[oA]at h⊢;obtain⟨b,o,h2,h3,h4,h5,h6⟩:=h;exact⟨b,o,h2,h3,h4,fun hm=>h5 (hM b hm),h6⟩
 | .ivp _ _ _ _,_,h=>by simp only[oA]at h⊢;obtain⟨b,o,h2,h3,h4,h5,h7⟩:=h;exact⟨b,o,h2,h3,h4,fun hm=>h5 (hM b hm),h7⟩
 | .inl _ _ _,_,h=>by
  simp only[oA]at h⊢;obtain h2|⟨b,o,cap,h2,h3,h4,h5,h6⟩:=h
  ·exact .inl h2
  ·exact .inr ⟨b,o,cap,h2,h3,h4,fun hm=>h5 (hM b hm),fun i hi=>by obtain⟨u,hu,hr⟩:=h6 i hi;exact⟨u,hu,hr.avoid hM⟩⟩
 | .inlp _ _ _ _,_,h=>by simp only[oA]at h⊢;obtain⟨b,o,h2,h3,h4,h5,h6⟩:=h;exact⟨b,o,h2,h3,h4,fun hm=>h5 (hM b hm),fun i hi=>by obtain⟨u,hu,hr⟩:=h6 i hi;exact⟨u,hu,hr.avoid hM⟩⟩
 | .lv _,_,h=>by simpa only[oA]using h
 | .agg cs,_,h=>by simp only[oA]at h⊢;obtain⟨vs,h1,h2⟩:=h;exact⟨vs,h1,mA.avoid hM cs _ h2⟩
 | .tup cs,_,h=>by simp only[oA]at h⊢;obtain⟨vs,h1,h2⟩:=h;exact⟨vs,h1,mA.avoid hM cs _ h2⟩
 | .fn _ a c,_,h=>by simp only[oA]at h⊢;obtain⟨va,vc,h1,h2,h3⟩:=h;exact⟨va,vc,h1,mA.avoid hM a _ h2,mA.avoid hM c _ h3⟩
theorem mA.avoid {ρ:xC}{M M':Nat→Prop}{w:World}(hM:∀b,M' b→M b):∀(x:List V) (v:List Value),mA ρ M w x v→mA ρ M' w x v
 | [],[],_=>by simp only[mA]
 |x::xs,v::vs,h=>by simp only[mA]at h⊢;exact⟨oA.avoid hM x v h.1,mA.avoid hM xs vs h.2⟩
 | [],_::_,h=>by simp only[mA]at h
 |_::_,[],h=>by simp only[mA]at h
end
mutual
theorem oA.ren {ρ ρ':xC}{M M':Nat→Prop}{w:World}{m:Nat→Option Nat}(hm:∀i j p,m i=some j→ρ i=some p→ρ' j=some p):∀(x:V) (v:Value),((∀b,M' b→M b)∨gI x=true)→oA ρ M w x v→oA ρ' M' w (Tz m x) v
 | .c _,_,_,h=>by simpa only[oA,Ev.Tz]using h
 | .poison,_,_,_=>by simp only[oA,Ev.Tz]
 | .ptr id _ _,_,_,h=>by
  simp only[Ev.Tz];cases hid:m id with
  |none=>simp only[oA]
  |some j=>simp only[oA]at h⊢;obtain⟨b,n,C,h1,h2,h3⟩:=h;exact⟨b,n,C,hm _ _ _ hid h1,h2,h3⟩
 | .sw id _,_,_,h=>by
  simp only[Ev.Tz];cases hid:m id with
  |none=>simp only[oA]
  |some j=>
   simp only[oA]at h⊢;obtain⟨h0,⟨b,n,C,cap,h1,h2⟩|⟨h1,h2⟩⟩:=h
   ·exact⟨h0,.inl ⟨b,n,C,cap,hm _ _ _ hid h1,h2⟩⟩
   ·exact⟨h0,.inr ⟨hm _ _ _ hid h1,h2⟩⟩
 | .sl id _ _ _,_,_,h=>by
  simp only[Ev.Tz];cases hid:m id with
  |none=>simp only[oA]
  |some j=>
   simp only[oA]at h⊢;obtain⟨h0,⟨b,n,C,cap,h1,h2⟩|⟨h1,h2⟩⟩:=h
   ·exact⟨h0,.inl ⟨b,n,C,cap,hm _ _ _ hid h1,h2⟩⟩
   ·exact⟨h0,.inr ⟨h1,h2⟩⟩
 | .mref id,_,_,h=>by
  simp only[Ev.Tz];cases hid:m id with
  |none=>simp only[oA]
  |some j=>simp only[oA]at h⊢;obtain⟨b,h1,h2⟩:=h;exact⟨b,hm _ _ _ hid h1,h2⟩
 | .il k s l,v,hM,h=>by
  simp only[Ev.Tz];rcases hM with hM|hM
  ·have:=oA.avoid hM _ _ h;simpa only[oA]using this
  ·simp[gI]at hM
 | .iv s l,v,hM,h=>by
  simp only[Ev.Tz];rcases hM with hM|hM
  ·have:=oA.avoid hM _ _ h;simpa only[oA]using this
  ·simp[gI]at hM
 | .ilp k l off ext,v,hM,h=>by
  simp only[Ev.Tz];rcases hM with hM|hM
  ·have:=oA.avoid hM _ _ h;simpa only[oA]using this
  ·simp[gI]at hM
 | .ivp l i off ext,v,hM,h=>by
  simp only[Ev.Tz];rcases hM with hM|hM
  ·have:=oA.avoid hM _ _ h;simpa only[oA]using this
  ·simp[gI]at hM
 | .inl k s rows,v,hM,h=>by
  simp only[Ev.Tz];rcases hM with hM|hM
  ·have:=oA.avoid hM _ _ h;simpa only[oA]using this
  ·simp[gI]at hM
 | .inlp k s rows i,v,hM,h=>by
  simp only[Ev.Tz];rcases hM with hM|hM
  ·have:=oA.avoid hM _ _ h;simpa only[oA]using this
  ·simp[gI]at hM
 | .lv _,_,_,h=>by simp only[Ev.Tz];simpa only[oA]using h
 | .agg cs,_,hM,h=>by simp only[oA,Ev.Tz]at h⊢;obtain⟨vs,h1,h2⟩:=h;exact⟨vs,h1,mA.ren hm cs _ (by simpa only[gI]using hM) h2⟩
 | .tup cs,_,hM,h=>by simp only[oA,Ev.Tz]at h⊢;obtain⟨vs,h1,h2⟩:=h;exact⟨vs,h1,mA.ren hm cs _ (by simpa only[gI]using hM) h2⟩
 | .fn _ a c,_,hM,h=>by simp only[oA,Ev.Tz]at h⊢;obtain⟨va,vc,h1,h2,h3⟩:=h;exact⟨va,vc,h1,mA.ren hm a _ (hM.imp id (fun h=>by simp only[gI,hB]at h;exact h.1)) h2,mA.ren hm c _ (hM.imp id (fun h=>by simp only[gI,hB]at h;exact h.2)) h3⟩
theorem mA.ren {ρ ρ':xC}{M M':Nat→Prop}{w:World}{m:Nat→Option Nat}(hm:∀i j p,m i=some j→ρ i=some p→ρ' j=some p):∀(x:List V) (v:List Value),((∀b,M' b→M b)∨kK x=true)→mA ρ M w x v→mA ρ' M' w (aR m x) v
 | [],[],_,_=>by simp only[mA,aR]
 |x::xs,v::vs,hM,h=>by simp only[mA,aR]at h⊢;exact⟨oA.ren hm x v (hM.imp id (fun h=>by simp only[kK,hB]at h;exact h.1)) h.1,mA.ren hm xs vs (hM.imp id (fun h=>by simp only[kK,hB]at h;exact h.2)) h.2⟩
 | [],_::_,_,h=>by simp only[mA]at h
 |_::_,[],_,h=>by simp only[mA]at h
end
theorem zV (m:Nat→Option Nat):∀l:List V,(aR m l).length=l.length
 | []=>rfl
 |_::r=>by simp[aR,zV m r]
theorem jB.ren {ρ ρ':xC}{M M':Nat→Prop}{w:World}{m:Nat→Option Nat}(hm:∀i j p,m i=some j→ρ i=some p→ρ' j=some p){p:Pl}{x:qA}(hM:(∀b,M' b→M b)∨mU x=true)(h:jB ρ M w p x):jB ρ' M' w p (dI m x):=by
 cases x with
 |dead=>trivial
 |ints k l=>exact h
 |mp k n ks vs=>exact h
 |it mid gE rem cur=>
  obtain⟨h1,h2,b,mb,seen,h4,h5,h6,h7⟩:=h;refine⟨h1,h2,b,mb,seen,h4,h5,fun i hi=>?_,h7⟩;cases mid with
  |none=>cases hi
  |some j=>exact hm j i _ hi (h6 j rfl)
 |vals cs=>
  obtain⟨h1,⟨h2,h3,h4⟩|⟨b,c,h2,h3,h4,h5⟩⟩:=h
  ·subst h3;exact⟨h1,.inl ⟨h2,rfl,h4⟩⟩
  ·exact⟨by rw[zV];exact h1,.inr ⟨b,c,h2,h3,h4,mA.ren hm _ _ (by simpa only[mU]using hM) h5⟩⟩
 |nw _ _ _ _=>exact h.elim
 |bls l=>exact h
theorem ee {m:Nat→Option Nat}{x:qA}:(dI m x).live↔x.live:=by cases x<;>simp[dI,qA.live]
def mT (F:Nat→Prop)(ρ:xC)(bs:List qA)(w:World)(v:V)(bs':List qA)(v':Value)(w':World):Prop:=
 ∃ρ' h',(∀id,id<bs.length→ρ' id=ρ id)∧(∀g p,top≤g→ρ g=some p→ρ' g=some p)∧(∀id,bs'.length≤id→id<top→ρ' id=none)∧Bd ρ'∧bs'.length≤top∧(∀g,top≤g→(h' g).live→ρ g=none)∧T4 (rA bs') h'∧
  kA F ρ' h' w'∧oA ρ' (av F (fA ρ' h')) w' v v'∧qG (fA ρ (rA bs)) w (fA ρ' h') w'
def aO (P:Program)(f:Nat):Prop:=∃fn,P.funcs[f]?=some fn∧fn.body.isNone=false∧(fn.name== "runtime.NumGoroutine")=false
structure lA (P:Program)(f:Nat)(args:List V)(bs:List qA)(v:V)(bs':List qA):Prop where
 callable:aO P f
 calls:∀F ρ w args',kA F ρ (rA bs) w→(∀id,bs.length≤id→id<top→ρ id=none)→Bd ρ→bs.length≤top→mA ρ (av F (fA ρ (rA bs))) w args args'→
  Calls P f args'.toArray w fun e w'=>∃v',e= .returned v'∧mT F ρ bs w v bs' v' w'
def oX (P:Program)(tab:Nat→Option yA):Prop:=∀f e,tab f=some e→∀args bs a enc,e.dec args bs=some (some a,enc)→lA P f args bs (enc a).pick.1 (enc a).pick.2
section
variable {P:Program}{F:Nat→Prop}{ρ:xC}{h v:Nat→qA}{γ:Nat→Nat→Nat}{w:World}{nid:Nat}
def lj (h:Nat→qA)(γ:Nat→Nat→Nat)(τ:List Nat)(g:Nat):Prop:=g∈τ∨∃j i,j∈τ∧uB h j i∧γ j i=g
theorem lj.mono {τ τ':List Nat}(hs:∀j∈τ,j∈τ'){g:Nat}(hg:lj h γ τ g):lj h γ τ' g:=by
 rcases hg with hg|⟨j,i,h1,h2,h3⟩
 ·exact .inl (hs g hg)
 ·exact .inr ⟨j,i,hs j h1,h2,h3⟩
theorem iw (hh:kA F ρ v w){Ml:Nat→Prop}{id s:Nat}{k:IntKind}{l:List Int}{u:Value}(hid:v id= .ints k l)(hτ:∀b n C,ρ id=some ⟨some b,n,C⟩→(v id).live→¬Ml b)(hr:oA ρ (av F (fA ρ v)) w (.sw id s) u):fI Ml w k s l u:=by
 have hl:(v id).live:=by rw[hid];trivial
 obtain⟨h0,⟨b,n,C,cap,c,h1,h2,h3,h4,h5,ho,hsz,hold⟩|⟨h1,h2,hk⟩⟩:=fG hh hr hl (by rw[hid];trivial)
 ·rw[hid]at hold;obtain⟨e1,e2,e3⟩:=hold;refine⟨h0,by rw[e1];exact h2,.inr ⟨b,0,cap,by rw[e1];exact h5,by rw[e1];exact h3,ho.lt,hτ b n C h1 hl,fun j hj=>?_⟩⟩;rw[x1,ho.cell];exact e3 j hj
 ·rw[hid]at hk;rcases hk with⟨k2,hk⟩|hk|⟨_,_,hk⟩<;>cases hk;exact⟨h0,by simp,.inl ⟨rfl,none,h2⟩⟩
theorem oV {k:IntKind}{s:Nat}:∀(cs:List V) (rows:List (List Int)),wY k s cs=some rows→cs=rows.map (.il k s)
 | [],rows,h=>by simp only[wY,Option.some.injEq]at h;subst h;rfl
 |c::r,rows,h=>by
  cases c<;>simp only[wY]at h<;>try (cases h;done)
  obtain⟨hc,h2⟩:=cA h;obtain⟨hk,hs⟩:=wA hc;have hk:=yE hk;have hs:=aB hs;subst hk;subst hs;split at h2
  ·rename_i rows' hr;simp only[Option.some.injEq]at h2;subst h2;rw[oV r rows' hr];rfl
  ·cases h2
theorem nr {k:IntKind}{s:Nat}{cs:List V}{rows:List (List Int)}(h:tb cs=some (k,s,rows)):cs=rows.map (.il k s):=by
 unfold tb at h;split at h
 ·split at h
  ·rename_i rows' hr;simp only[Option.some.injEq,Prod.mk.injEq]at h;obtain⟨rfl,rfl,rfl⟩:=h;rw[oV _ _ hr];rfl
  ·cases h
 ·cases h
theorem pz (hh:kA F ρ v w){Ml:Nat→Prop}{id:Nat}{k:IntKind}{s:Nat}{rows:List (List Int)}{cs:List V}{u:Value}(hid:v id= .vals cs)(hlen:cs.length=rows.length)(hτ:∀b n C,ρ id=some ⟨some b,n,C⟩→(v id).live→¬Ml b)
  (hcs:∀i x y,cs[i]?=some x→oA ρ (av F (fA ρ v)) w x y→fI Ml w k s (rows.getD i []) y)(hr:oA ρ (av F (fA ρ v)) w (.sw id 1) u):oA ρ Ml w (.inl k s rows) u:=by
 have hl:(v id).live:=by rw[hid];trivial
 simp only[oA];obtain⟨h0,⟨b,n,C,cap,c,h1,h2,h3,h4,h5,ho,hsz,hold⟩|⟨h1,h2,hk⟩⟩:=fG hh hr hl (by rw[hid];trivial)
 ·rw[hid]at hold;obtain⟨e1,e2,e3⟩:=hold;have en:n/1=rows.length:=by rw[Nat.div_one];omega
  refine .inr ⟨b,0,cap,by rw[←en];exact h5,by rw[←en];exact h3,ho.lt,hτ b n C h1 hl,fun i hi=>?_⟩;have hci:cs[i]?=some cs[i]:=yK (by omega);obtain⟨y,hy,hry⟩:=e3.get hci;rw[j0 (by omega),j3]at hy;exact⟨y,by rw[x1,ho.cell];exact hy,hcs i _ y hci hry⟩
 ·rw[hid]at hk;have hrows:rows=[]:=by
   rcases hk with⟨_,hk⟩|hk|⟨_,_,hk⟩
   ·cases hk
   ·cases hk;exact z1.mp (by simpa using hlen.symm)
   ·cases hk
  exact .inl ⟨hrows,none,h2⟩
theorem fC.live_lt (ho:fC h γ v){i:Nat}(hl:(h i).live):i<top:=by
 rcases hP i top with q|q
 ·exact q
 ·rw[ho.high i q]at hl;exact hl.elim
theorem Ei (ho:fC h γ v)(hh:kA F ρ v w){Ml:Nat→Prop}{id:Nat}{k:IntKind}{s:Nat}{rows:List (List Int)}{u:Value}(hid:h id= .nw k s rows none)(hτ:∀g,lj h γ [id] g→∀b n C,ρ g=some ⟨some b,n,C⟩→(v g).live→¬Ml b)(hr:oA ρ (av F (fA ρ v)) w (.sw id 1) u):oA ρ Ml w (.inl k s rows) u:=by
 have hlt:=ho.live_lt (i:=id) (by rw[hid];trivial);refine pz hh (ho.nest id k s rows none hlt hid) (xA _ _ _ _) (hτ id (.inl (by simp))) (fun i x y hx hy=>?_) hr;have hi:i<rows.length:=by have:=(zE.mp hx).1;rwa[xA]at this
 rw[yF _ _ _ hi]at hx;simp only[Option.some.injEq,kH]at hx;subst hx;have hlo:uB h id i:=⟨k,s,rows,none,hlt,hid,hi,fun g e=>by cases e⟩
 exact iw hh (ho.row id i k s rows none hlt hid hi (fun g e=>by cases e)).2 (hτ (γ id i) (.inr ⟨id,i,by simp,hlo,rfl⟩)) hy
mutual
theorem xh (ho:fC h γ v)(hh:kA F ρ v w){Ml:Nat→Prop}(hM:∀b,Ml b→av F (fA ρ v) b):∀(x:V) (u:Value),(∀g,lj h γ (fH h x).2 g→∀b n C,ρ g=some ⟨some b,n,C⟩→(v g).live→¬Ml b)→oA ρ (av F (fA ρ v)) w x u→oA ρ Ml w (fH h x).1 u
 | .sw id s,u,hτ,hr=>by
  unfold fH at hτ⊢;split at hτ
  ·rename_i k l hid;exact(iw hh (ho.ints hid) (hτ id (.inl (by simp))) hr).rel
  ·rename_i k s' rows hid;cases hs:Nat.beq s 1<;>rw[hs]at hτ<;>simp only[cond_true,cond_false]at hτ⊢
   ·exact oA.avoid hM _ _ hr
   ·have hs:=aB hs;subst hs;exact Ei ho hh hid hτ hr
  ·rename_i cs hid;split at hτ
   ·rename_i k s' rows hrows;cases hs:Nat.beq s 1<;>rw[hs]at hτ<;>simp only[cond_true,cond_false]at hτ⊢
    ·exact oA.avoid hM _ _ hr
    ·have hs:=aB hs;subst hs;have hcs:=nr hrows;have hv:v id= .vals cs:=by rw[←hid];exact ho.plain id (ho.live_lt (by rw[hid];trivial)) (by rw[hid];rfl)
     refine pz hh hv (by rw[hcs];simp) (hτ id (.inl (by simp))) (fun i x y hx hy=>?_) hr;rw[hcs,u2]at hx;cases hq:rows[i]? with
     |none=>rw[hq]at hx;cases hx
     |some r=>rw[hq]at hx;simp only[Option.map_some,Option.some.injEq]at hx;subst hx;rw[hA,hq];exact(fI.of hy).avoid hM
   ·exact oA.avoid hM _ _ hr
  ·exact oA.avoid hM _ _ hr
 | .sl id s off len,u,hτ,hr=>by
  unfold fH at hτ⊢;split at hτ
  ·rename_i k l hid;have hv:=ho.ints hid;have hl:(v id).live:=by rw[hv];trivial
   simp only[oA]at hr⊢;obtain⟨h0,⟨b,n,C,cap,h1,h2,h3,h4,h5⟩|⟨h1,a,h2⟩⟩:=hr
   ·obtain⟨c,ho',hsz,hold⟩:=hh.own hl (by rw[hv];trivial) h1;rw[hv]at hold;obtain⟨e1,e2,e3⟩:=hold;have hlen:((l.drop off).take (kG s len)).length=len*s:=by rw[yB];simp;omega
    rw[hlen];refine⟨h0,Nat.mul_mod_left _ _,.inr ⟨b,off,cap,by rw[Nat.mul_div_cancel _ h0];exact h5,by rw[Nat.mul_div_cancel _ h0];exact h3,ho'.lt,hτ id (.inl (by simp)) b n C h1 hl,fun j hj=>?_⟩⟩;rw[ho'.cell,e3 _ (by omega)];congr 2;simp only[hA];rw[j0 (by rw[yB];omega),List.getElem?_drop]
   ·subst h1;have:(l.drop off).take (kG s 0)=[]:=by rw[yB];simp
    rw[this];exact⟨h0,by simp,.inl ⟨rfl,a,h2⟩⟩
  ·exact oA.avoid hM _ _ hr
 | .agg cs,u,hτ,hr=>by unfold fH at hτ⊢;simp only[oA]at hr⊢;obtain⟨vs,h1,h2⟩:=hr;exact⟨vs,h1,xg ho hh hM cs _ hτ h2⟩
 | .c _,u,_,hr=>by simp only[fH];exact oA.avoid hM _ _ hr
 | .poison,u,_,hr=>by simp only[fH];exact oA.avoid hM _ _ hr
 | .ptr _ _ _,u,_,hr=>by simp only[fH];exact oA.avoid hM _ _ hr
 | .mref _,u,_,hr=>by simp only[fH];exact oA.avoid hM _ _ hr
 | .il _ _ _,u,_,hr=>by simp only[fH];exact oA.avoid hM _ _ hr
 | .iv _ _,u,_,hr=>by simp only[fH];exact oA.avoid hM _ _ hr
 | .ilp _ _ _ _,u,_,hr=>by simp only[fH];exact oA.avoid hM _ _ hr
 | .ivp _ _ _ _,u,_,hr=>by simp only[fH];exact oA.avoid hM _ _ hr
 | .inl _ _ _,u,_,hr=>by simp only[fH];exact oA.avoid hM _ _ hr
 | .inlp _ _ _ _,u,_,hr=>by simp only[fH];exact oA.avoid hM _ _ hr
 | .lv _,u,_,hr=>by simp only[fH];exact oA.avoid hM _ _ hr
 | .tup _,u,_,hr=>by simp only[fH];exact oA.avoid hM _ _ hr
 | .fn _ _ _,u,_,hr=>by simp only[fH];exact oA.avoid hM _ _ hr
theorem xg (ho:fC h γ v)(hh:kA F ρ v w){Ml:Nat→Prop}(hM:∀b,Ml b→av F (fA ρ v) b):∀(xs:List V) (us:List Value),(∀g,lj h γ (dU h xs).2 g→∀b n C,ρ g=some ⟨some b,n,C⟩→(v g).live→¬Ml b)→mA ρ (av F (fA ρ v)) w xs us→mA ρ Ml w (dU h xs).1 us
 | [],[],_,_=>by simp only[dU,mA]
 |x::xs,u::us,hτ,hr=>by unfold dU at hτ⊢;simp only[mA]at hr⊢;exact⟨xh ho hh hM x u (fun g hg=>hτ g (hg.mono fun j hj=>y3 _ hj)) hr.1,xg ho hh hM xs us (fun g hg=>hτ g (hg.mono fun j hj=>p0 _ hj)) hr.2⟩
 | [],_::_,_,hr=>by simp only[mA]at hr
 |_::_,[],_,hr=>by simp only[mA]at hr
end
theorem tQ (ho:fC h γ v)(hh:kA F ρ v w){Ml:Nat→Prop}(hM:∀b,Ml b→av F (fA ρ v) b):∀(bs:List Bool) (xs:List V) (us:List Value),(∀g,lj h γ (kD h bs xs).2 g→∀b n C,ρ g=some ⟨some b,n,C⟩→(v g).live→¬Ml b)→mA ρ (av F (fA ρ v)) w xs us→mA ρ Ml w (kD h bs xs).1 us
 | [],xs,us,_,hr=>by simp only[kD];exact mA.avoid hM _ _ hr
 |true::bs,[],us,_,hr=>by simp only[kD];exact mA.avoid hM _ _ hr
 |false::bs,[],us,_,hr=>by simp only[kD];exact mA.avoid hM _ _ hr
 |_::_,_::_,[],_,hr=>by simp only[mA]at hr
 |true::bs,x::xs,u::us,hτ,hr=>by unfold kD at hτ⊢;simp only[mA]at hr⊢;exact⟨xh ho hh hM x u (fun g hg=>hτ g (hg.mono fun j hj=>y3 _ hj)) hr.1,tQ ho hh hM bs xs us (fun g hg=>hτ g (hg.mono fun j hj=>p0 _ hj)) hr.2⟩
 |false::bs,x::xs,u::us,hτ,hr=>by unfold kD at hτ⊢;simp only[mA]at hr⊢;exact⟨oA.avoid hM _ _ hr.1,tQ ho hh hM bs xs us hτ hr.2⟩
end
section
variable {P:Program}{F:Nat→Prop}{ρ:xC}{h v:Nat→qA}{γ:Nat→Nat→Nat}{w:World}{nid:Nat}
theorem lj.append {σ τ:List Nat}{g:Nat}(hg:lj h γ (σ++τ) g):lj h γ σ g∨lj h γ τ g:=by
 rcases hg with hg|⟨j,i,h1,h2,h3⟩
 ·exact(aE.mp hg).imp .inl .inl
 ·exact(aE.mp h1).imp (fun q=>.inr ⟨j,i,q,h2,h3⟩) (fun q=>.inr ⟨j,i,q,h2,h3⟩)
def gm (j:Nat):Option Nat:=if top≤j then some j else none
theorem yi {γ:Nat→Nat}{s:Nat}:∀(l:List Nat),(∀i∈l,top≤γ i)→aR gm (l.map (kH γ s none))=l.map (kH γ s none)
 | [],_=>rfl
 |i::l,hl=>by have h1:gm (γ i)=some (γ i):=if_pos (hl i (by simp));simp only[cP,aR,yi l (fun i hi=>hl i (by simp[hi])),kH,Ev.Tz,h1]
theorem mS (γ:Nat→Nat)(s:Nat):∀l:List Nat,kK (l.map (kH γ s none))=true
 | []=>rfl
 |i::l=>by simp only[cP,kK,mS γ s l,kH,gI,Bool.and_self]
theorem vq {k:IntKind}{s:Nat}{rows:List (List Int)}{hole:Option (Nat×Nat)}(h:A0 (.nw k s rows hole)=true):hole=none:=by
 cases hole with
 |none=>rfl
 |some p=>cases h
theorem Ba {m:Nat→Option Nat}{x:qA}:(dI m x).isNw=x.isNw:=by cases x<;>rfl
theorem My (ho:fC h γ v)(hh:kA F ρ v w){σ τ:List Nat}{v0:V}{bs0:List qA}
  (hn:∀id,nid≤id→id<nid+(bs0.length-σ.length)→ρ id=none)(hnt:nid+(bs0.length-σ.length)≤top)(hσt:∀i∈σ,i<top∧(h i).isNw=false)(hτt:∀i∈τ,i<top)
  (hσ:σ.Nodup)(hle:σ.length≤bs0.length)(hbt:bs0.length≤top)(hwh:∀b∈bs0,A0 b=true)(hdis:∀j∈σ,j∉τ)
  {ρ0:xC}{h0:Nat→qA}(hρ0:∀j i,σ[j]?=some i→ρ0 j=ρ i)(hρ0':∀j,σ.length≤j→j<top→ρ0 j=none)(hρ0g:∀g,top≤g→ρ0 g=ρ g)
  (hl0:∀j i,σ[j]?=some i→((h0 j).live↔(v i).live))(hl0':∀j,σ.length≤j→¬(h0 j).live)
  {Fl:Nat→Prop}(hFl:∀b,av F (fA ρ v) b→(∀g,lj h γ (σ++τ) g→∀n C,ρ g=some ⟨some b,n,C⟩→¬(v g).live)→Fl b)
  {u:Value}{w':World}{ρ':xC}{v':Nat→qA}{γ':Nat→Nat→Nat}(hr1:∀j,j<σ.length→ρ' j=ρ0 j)(hrg:∀g p,top≤g→ρ0 g=some p→ρ' g=some p)(hr2:∀j,bs0.length≤j→j<top→ρ' j=none)(hbd:Bd ρ')
  (hfr:∀g,top≤g→(v' g).live→ρ0 g=none)(hO:fC (rA bs0) γ' v')(hH:kA Fl ρ' v' w')(hv:oA ρ' (av Fl (fA ρ' v')) w' v0 u)(he:qG (fA ρ0 h0) w (fA ρ' v') w'):
  ∃ρc vc,qN F ρ v w nid (cF σ τ nid v0 bs0).new.length (tG h nid (cF σ τ nid v0 bs0)) ρc vc w'∧oA ρc (av F (fA ρc vc)) w' (cF σ τ nid v0 bs0).val u:=by
 classical
 let on:=sF σ nid
 let new:Nat→Prop:=fun id=>nid≤id∧id<nid+(bs0.length-σ.length)
 obtain⟨idx,hidx⟩:∃idx:Nat→Nat,∀id∈σ,σ[idx id]?=some id:=
  ⟨fun id=>if h:id∈σ then Classical.choose (x5.mp h)else 0,fun id hid=>by simp only[dif_pos hid];exact Classical.choose_spec (x5.mp hid)⟩
 have hnew:(cF σ τ nid v0 bs0).new.length=bs0.length-σ.length:=by simp[cF,qR]
 generalize hout:cF σ τ nid v0 bs0=out at*;have hwr:out.wr=v8 σ (bs0.map (dI on))++(bif gI v0&&bs0.all mU then []else τ.map fun i=>(i,.dead)):=by subst hout;rfl
 have hnw:out.new=(bs0.map (dI on)).drop σ.length:=by subst hout;simp[cF,qR];rfl
 have hval:out.val=Tz on v0:=by subst hout;rfl
 generalize himm:(gI v0&&bs0.all mU)=imm at*
 let K:Nat→Prop:=fun id=>imm=false∧id∈τ
 let pull:Nat→Option Nat:=fun id=>if new id then some (σ.length+(id-nid))else if id∈σ then some (idx id)else none
 have hidxlt:∀id∈σ,idx id<σ.length:=fun id hid=>(zE.mp (hidx id hid)).1;have hpull:∀id j,pull id=some j→j<bs0.length∧on j=some id:=by
  intro id j hp;simp only[pull]at hp;split at hp
  ·rename_i hr;simp only[Option.some.injEq]at hp;subst hp;obtain⟨r1,r2⟩:=hr;refine⟨by omega,?_⟩;show sF σ nid _=_;rw[qZ (by omega) (by omega)];congr 1;omega
  ·split at hp
   ·rename_i hm;simp only[Option.some.injEq]at hp;subst hp;have:=hidxlt id hm;exact⟨by omega,rZ (hidx id hm)⟩
   ·cases hp
 have hpnone:∀id,pull id=none→¬new id∧id∉σ:=by
  intro id hp;simp only[pull]at hp;split at hp
  ·cases hp
  ·split at hp
   ·cases hp
   ·exact⟨by assumption,by assumption⟩
 let ρc:xC:=fun id=>if top≤id then ρ' id else if new id then ρ' (σ.length+(id-nid))else ρ id
 have hρcg:∀g,top≤g→ρc g=ρ' g:=fun g hg=>if_pos hg;have hρcn:∀id,id<top→¬new id→ρc id=ρ id:=fun id h1 h2=>by simp only[ρc];rw[if_neg (by omega),if_neg h2]
 have hρcp:∀id j,id<top→pull id=some j→ρc id=ρ' j:=by
  intro id j h1 hp;simp only[pull]at hp;split at hp
  ·rename_i hr;simp only[Option.some.injEq]at hp;subst hp;simp only[ρc];rw[if_neg (by omega),if_pos hr]
  ·rename_i hr;split at hp
   ·rename_i hm;simp only[Option.some.injEq]at hp;subst hp;rw[hρcn id h1 hr,hr1 _ (hidxlt id hm),hρ0 _ _ (hidx id hm)]
   ·cases hp
 have hsub:vL ρ ρc:=by
  intro id p hp;by_cases ht:top≤id
  ·rw[hρcg id ht];exact hrg id p ht (by rw[hρ0g id ht];exact hp)
  ·rw[hρcn id (by omega) (fun hr=>by rw[hn id hr.1 hr.2]at hp;cases hp)];exact hp
 have hren:∀j i p,on j=some i→ρ' j=some p→ρc i=some p:=by
  intro j i p hj hp;have hjt:j<top:=by
   rcases hP j top with q|q
   ·exact q
   ·rcases hP j σ.length with q2|q2
    ·omega
    ·rw[show on j=sF σ nid j from rfl,jk q2 q]at hj;cases hj
  have hjl:j<bs0.length:=by
   rcases hP j bs0.length with q|q
   ·exact q
   ·rw[hr2 j q hjt]at hp;cases hp
  rcases hP j σ.length with hlt|hge
  ·have hi:=yK hlt;have:i=σ[j]:=by have:=rZ (nid:=nid) hi;rw[show sF σ nid j=on j from rfl,hj]at this;exact Option.some.inj this
   subst this;rw[hr1 j hlt,hρ0 j _ hi]at hp;exact hsub _ _ hp
  ·have:i=nid+(j-σ.length):=by have:=qZ (nid:=nid) hge hjt;rw[show sF σ nid j=on j from rfl,hj]at this;exact Option.some.inj this
   subst this;have e:pull (nid+(j-σ.length))=some j:=by simp only[pull];rw[if_pos ⟨by omega,by omega⟩];congr 1;omega
   rw[hρcp _ j (by omega) e];exact hp
 have hHc:∀id,id<top→tG h nid out id=match pull id with|some j=>dI on (rA bs0 j)|none=>if K id then .dead else h id:=by
  intro id hid;have Hx:¬new id→tG h nid out id=bD h out.wr id:=fun hr=>by rw[fL,yD,gB (sO (by rw[hnew];exact hr))]
  by_cases hr:new id
  ·have e:pull id=some (σ.length+(id-nid)):=by simp only[pull];rw[if_pos hr]
   rw[e];dsimp only;rw[fL,yD,eV hr.1 (by rw[hnew];exact hr.2),hnw,←ay];rw[eC,eC];simp only[hA,List.getElem?_drop]
  ·rw[Hx hr,hwr,yD];by_cases hm:id∈σ
   ·have e:pull id=some (idx id):=by simp only[pull];rw[if_neg hr,if_pos hm]
    rw[e];dsimp only;rw[gB,fg σ _ h (idx id) id hσ (by simpa using hle) (hidx id hm),ay];intro hx;cases hc:imm<;>rw[hc]at hx<;>simp only[cond_true,cond_false,List.map_nil,u0]at hx;simp at hx;exact hdis id hm hx
   ·have e:pull id=none:=by simp only[pull];rw[if_neg hr,if_neg hm]
    rw[e];dsimp only;have hz:bD h (v8 σ (bs0.map (dI on))) id=h id:=gB (fun hx=>hm (kT _ _ _ hx));rcases(show imm=false∨imm=true by cases imm<;>simp)with hc|hc
    ·have hb:(bif imm then([]:List (Nat×qA))else τ.map fun i=>(i,.dead))=τ.map fun i=>(i,.dead):=by rw[hc];rfl
     rw[hb];by_cases hτ:id∈τ
     ·rw[aQ _ _ _ hτ,if_pos ⟨hc,hτ⟩]
     ·rw[gB (by simpa[Function.comp_def]using hτ),hz,if_neg (fun hk=>hτ hk.2)]
    ·have hb:(bif imm then([]:List (Nat×qA))else τ.map fun i=>(i,.dead))=[]:=by rw[hc];rfl
     rw[hb];simp only[bD];rw[hz,if_neg (fun hk=>by have:=hk.1;rw[hc]at this;cases this)]
 let vc:Nat→qA:=fun id=>if top≤id then(if(v' id).live then v' id else if ∃j i,K j∧uB h j i∧γ j i=id then .dead else v id)
  else match pull id with|some j=>(if(rA bs0 j).isNw then v' j else dI on (v' j))|none=>if K id then .dead else v id
 let γc:Nat→Nat→Nat:=fun id i=>match pull id with|some j=>γ' j i|none=>γ id i
 have hvg:∀g,top≤g→vc g=if(v' g).live then v' g else if ∃j i,K j∧uB h j i∧γ j i=g then .dead else v g:=fun g hg=>if_pos hg
 have hvl:∀id,id<top→vc id=match pull id with|some j=>(if(rA bs0 j).isNw then v' j else dI on (v' j))|none=>if K id then .dead else v id:=fun id hid=>if_neg (by omega)
 have hliveρ:∀g,(v g).live→ρ g≠none:=fun g hl e=>lK hh e hl;have hbl:∀j k s rows hole,rA bs0 j= .nw k s rows hole→j<bs0.length∧hole=none:=by
  intro j k s rows hole hj;have hjl:j<bs0.length:=by
   rcases hP j bs0.length with q|q
   ·exact q
   ·rw[eC,hA,hF q]at hj;cases hj
  refine⟨hjl,vq (k:=k) (s:=s) (rows:=rows) ?_⟩;rw[←hj,eC,hA,yK hjl];exact hwh _ (y4 hjl)
 have hlodg:∀j i,uB h j i→top≤γ j i∧(v (γ j i)).live∧pull j=none:=by
  rintro j i ⟨k,s,rows,hole,h1,h2,h3,h4⟩;obtain⟨q1,q2⟩:=ho.row j i k s rows hole h1 h2 h3 h4;refine⟨q1,by rw[q2];trivial,?_⟩;have hvj:(v j).live:=by rw[ho.nest j k s rows hole h1 h2];trivial
  simp only[pull];rw[if_neg (fun hr=>hliveρ j hvj (hn j hr.1 hr.2)),if_neg (fun hm=>by have:=(hσt j hm).2;rw[h2]at this;cases this)]
 have hlodc:∀j i,uB (tG h nid out) j i→(∃j',pull j=some j'∧uB (rA bs0) j' i)∨(pull j=none∧¬K j∧uB h j i):=by
  rintro j i ⟨k,s,rows,hole,h1,h2,h3,h4⟩;rw[hHc j h1]at h2;cases hp:pull j with
  |some j'=>
   rw[hp]at h2;dsimp only at h2;cases hb:rA bs0 j'<;>rw[hb]at h2<;>simp only[dI]at h2<;>try (cases h2;done)
   rename_i k1 s1 rows1 hole1;obtain⟨q1,q2⟩:=hbl _ _ _ _ _ hb;subst q2;cases h2;exact .inl ⟨j',rfl,k,s,rows,none,by omega,hb,h3,fun g e=>by cases e⟩
  |none=>
   rw[hp]at h2;dsimp only at h2;split at h2
   ·cases h2
   ·exact .inr ⟨rfl,by assumption,k,s,rows,hole,h1,h2,h3,h4⟩
 have hlod':∀j i,uB (rA bs0) j i→j<bs0.length∧top≤γ' j i∧(v' (γ' j i)).live∧(v' j).live:=by rintro j i ⟨k,s,rows,hole,h1,h2,h3,h4⟩;obtain⟨q1,q2⟩:=hO.row j i k s rows hole h1 h2 h3 h4;exact⟨(hbl _ _ _ _ _ h2).1,q1,by rw[q2];trivial,by rw[hO.nest j k s rows hole h1 h2];trivial⟩
 have hpj:∀j,j<bs0.length→(v' j).live→∃id,id<top∧pull id=some j:=by
  intro j hj hl;obtain⟨p,hp,_⟩:=hH.rel j hl;rcases hP j σ.length with hlt|hge
  ·have hi:=yK hlt;rw[hr1 j hlt,hρ0 j _ hi]at hp;have hm:σ[j]∈σ:=y4 hlt;refine⟨σ[j],(hσt _ hm).1,?_⟩;simp only[pull];rw[if_neg (fun hr=>by rw[hn _ hr.1 hr.2]at hp;cases hp),if_pos hm];congr 1;exact(List.getElem?_inj (hidxlt _ hm) hσ).mp (by rw[hidx _ hm,hi])
  ·refine⟨nid+(j-σ.length),by omega,?_⟩;simp only[pull];rw[if_pos ⟨by omega,by omega⟩];congr 1;omega
 have hop:fC (tG h nid out) γc vc:=by
  refine⟨?_,?_,?_,?_,?_,?_⟩
  ·intro j hj hnn;rw[hvl j hj];have e:=hHc j hj;rw[e]at hnn⊢;cases hp:pull j with
   |some j'=>rw[hp]at hnn;dsimp only at hnn⊢;rw[Ba]at hnn;rw[hnn];simp only[j1,if_false];rw[hO.plain j' (by have:=(hpull j j' hp).1;omega) hnn]
   |none=>
    rw[hp]at hnn;dsimp only at hnn⊢;by_cases hk:K j
    ·rw[if_pos hk,if_pos hk]
    ·rw[if_neg hk]at hnn;rw[if_neg hk,if_neg hk];exact ho.plain j hj hnn
  ·intro j k s rows hole hj e;rw[hvl j hj];rw[hHc j hj]at e;cases hp:pull j with
   |some j'=>
    rw[hp]at e;dsimp only at e⊢;cases hb:rA bs0 j'<;>rw[hb]at e<;>simp only[dI]at e<;>try (cases e;done)
    rename_i k1 s1 rows1 hole1;obtain⟨q1,q2⟩:=hbl _ _ _ _ _ hb;subst q2;cases e;simp only[qA.isNw,if_true];rw[hO.nest j' k s rows none (by omega) hb];have:γc j=γ' j':=by funext i;simp only[γc,hp]
    rw[this]
   |none=>
    rw[hp]at e;dsimp only at e⊢;split at e
    ·cases e
    ·rename_i hk;rw[if_neg hk];have:γc j=γ j:=by funext i;simp only[γc,hp]
     rw[this];exact ho.nest j k s rows hole hj e
  ·intro j i k s rows hole hj e hi hhole;rcases hlodc j i ⟨k,s,rows,hole,hj,e,hi,hhole⟩with⟨j',hp,hlo⟩|⟨hp,hk,hlo⟩
   ·have hγ:γc j i=γ' j' i:=by simp only[γc,hp]
    obtain⟨q1,q2,q3,_⟩:=hlod' j' i hlo;rw[hγ];refine⟨q2,?_⟩;rw[hvg _ q2,if_pos q3];obtain⟨k1,s1,rows1,hole1,r1,r2,r3,r4⟩:=hlo;rw[hHc j hj,hp]at e;dsimp only at e;rw[r2]at e;simp only[dI]at e;cases e;exact(hO.row j' i k s rows hole1 r1 r2 r3 r4).2
   ·have hγ:γc j i=γ j i:=by simp only[γc,hp]
    obtain⟨q1,q2,_⟩:=hlodg j i hlo;rw[hγ];refine⟨q1,?_⟩;rw[hvg _ q1,if_neg (fun hl=>hliveρ _ q2 (by rw[←hρ0g _ q1];exact hfr _ q1 hl)),if_neg (by rintro⟨j2,i2,r1,r2,r3⟩;have:=(ho.inj j2 i2 j i r2 hlo r3).1;subst this;exact hk r1)];obtain⟨k1,s1,rows1,hole1,r1,r2,r3,r4⟩:=hlo;rw[hHc j hj,hp]at e;dsimp only at e;rw[if_neg hk,r2]at e;cases e;exact(ho.row j i k s rows hole r1 r2 r3 r4).2
  ·intro j i j2 i2 h1 h2 e;rcases hlodc j i h1 with⟨j',hp,hlo⟩|⟨hp,hk,hlo⟩<;>rcases hlodc j2 i2 h2 with⟨j2',hp2,hlo2⟩|⟨hp2,hk2,hlo2⟩
   ·simp only[γc,hp,hp2]at e;obtain⟨q1,q2⟩:=hO.inj j' i j2' i2 hlo hlo2 e;subst q1;have a1:=(hpull j j' hp).2;have a2:=(hpull j2 j' hp2).2;rw[a1]at a2;exact⟨Option.some.inj a2,q2⟩
   ·simp only[γc,hp,hp2]at e;obtain⟨_,q2,q3,_⟩:=hlod' j' i hlo;obtain⟨_,q5,_⟩:=hlodg j2 i2 hlo2;rw[←e]at q5;exact absurd (by rw[←hρ0g _ q2];exact hfr _ q2 q3) (hliveρ _ q5)
   ·simp only[γc,hp,hp2]at e;obtain⟨_,q2,q3,_⟩:=hlod' j2' i2 hlo2;obtain⟨_,q5,_⟩:=hlodg j i hlo;rw[e]at q5;exact absurd (by rw[←hρ0g _ q2];exact hfr _ q2 q3) (hliveρ _ q5)
   ·simp only[γc,hp,hp2]at e;exact ho.inj j i j2 i2 hlo hlo2 e
  ·intro g hg hl;rw[hvg g hg]at hl;by_cases hl':(v' g).live
   ·obtain⟨j',i,q1,q2⟩:=hO.rest g hg hl';obtain⟨a1,a2,a3,a4⟩:=hlod' j' i q1;obtain⟨id,b1,b2⟩:=hpj j' a1 a4;obtain⟨k,s,rows,hole,r1,r2,r3,r4⟩:=q1;have hq:=(hbl _ _ _ _ _ r2).2;subst hq;refine⟨id,i,⟨k,s,rows,none,b1,by rw[hHc id b1,b2];dsimp only;rw[r2];rfl,r3,fun g e=>by cases e⟩,?_⟩;simp only[γc,b2];exact q2
   ·rw[if_neg hl']at hl;by_cases hK:∃j i,K j∧uB h j i∧γ j i=g
    ·rw[if_pos hK]at hl;exact hl.elim
    ·rw[if_neg hK]at hl;obtain⟨j,i,q1,q2⟩:=ho.rest g hg hl;have hkj:¬K j:=fun hk=>hK ⟨j,i,hk,q1,q2⟩;have hp:=(hlodg j i q1).2.2;obtain⟨k,s,rows,hole,r1,r2,r3,r4⟩:=q1;refine⟨j,i,⟨k,s,rows,hole,r1,by rw[hHc j r1,hp];dsimp only;rw[if_neg hkj];exact r2,r3,r4⟩,?_⟩;simp only[γc,hp];exact q2
  ·intro j hj;rw[fL,yD,gB (sO (by rw[hnew];omega)),gB,ho.high j hj];intro hx;rw[hwr,x3,aE]at hx;rcases hx with hx|hx
   ·have:=(hσt _ (kT _ _ _ hx)).1;omega
   ·cases hc:imm<;>rw[hc]at hx<;>simp only[cond_true,cond_false,List.map_nil,u0]at hx;simp at hx;have:=hτt _ hx;omega
 have src:∀id,(vc id).live→(∃j m,(∀i k p,m i=some k→ρ' i=some p→ρc k=some p)∧vc id=dI m (v' j)∧ρc id=ρ' j∧(v' j).live∧(imm=true→mU (v' j)=true)∧((id<top∧pull id=some j)∨(top≤id∧j=id)))∨
   (vc id=v id∧ρc id=ρ id∧(v id).live∧¬lj h γ σ id∧(imm=false→¬lj h γ τ id)):=by
  intro id hl;have hgmr:∀i k p,gm i=some k→ρ' i=some p→ρc k=some p:=by
   intro i k p h1 h2;unfold gm at h1;split at h1
   ·rename_i ht;simp only[Option.some.injEq]at h1;subst h1;rw[hρcg i ht];exact h2
   ·cases h1
  have hTσ:¬(id<top∧id∈σ)→¬lj h γ σ id:=by
   rintro hx (hx2|⟨j,i,h1,⟨k,s,rows,hole,_,h2,_⟩,h3⟩)
   ·exact hx ⟨(hσt id hx2).1,hx2⟩
   ·have:=(hσt j h1).2;rw[h2]at this;cases this
  by_cases ht:top≤id
  ·rw[hvg id ht]at hl;by_cases hl':(v' id).live
   ·refine .inl ⟨id,gm,hgmr,?_,hρcg id ht,hl',fun _=>?_,.inr ⟨ht,rfl⟩⟩
    ·rw[hvg id ht,if_pos hl'];obtain⟨j',i,⟨k,s,rows,hole,r1,r2,r3,r4⟩,q2⟩:=hO.rest id ht hl';rw[←q2,(hO.row j' i k s rows hole r1 r2 r3 r4).2];rfl
    ·obtain⟨j',i,⟨k,s,rows,hole,r1,r2,r3,r4⟩,q2⟩:=hO.rest id ht hl';rw[←q2,(hO.row j' i k s rows hole r1 r2 r3 r4).2];rfl
   ·rw[if_neg hl']at hl;by_cases hK:∃j i,K j∧uB h j i∧γ j i=id
    ·rw[if_pos hK]at hl;exact hl.elim
    ·rw[if_neg hK]at hl;refine .inr ⟨by rw[hvg id ht,if_neg hl',if_neg hK],?_,hl,hTσ (by omega),?_⟩
     ·rw[hρcg id ht];cases hr:ρ id with
      |none=>exact absurd hr (hliveρ id hl)
      |some p=>exact hrg id p ht (by rw[hρ0g id ht];exact hr)
     ·rintro hi (hx|⟨j,i,h1,h2,h3⟩)
      ·have:=hτt id hx;omega
      ·exact hK ⟨j,i,⟨hi,h1⟩,h2,h3⟩
  ·have ht':id<top:=by omega
   rw[hvl id ht']at hl;cases hp:pull id with
   |some j=>
    rw[hp]at hl;dsimp only at hl;obtain⟨a1,a2⟩:=hpull id j hp;cases hb:(rA bs0 j).isNw with
    |true=>
     rw[hb,if_pos rfl]at hl;obtain⟨k,s,rows,hole,e⟩:=tW hb;obtain⟨_,q2⟩:=hbl _ _ _ _ _ e;subst q2;have hvj:=hO.nest j k s rows none (by omega) e;refine .inl ⟨j,gm,hgmr,?_,hρcp id j ht' hp,hl,fun _=>?_,.inl ⟨ht',rfl⟩⟩
     ·rw[hvl id ht',hp];dsimp only;rw[hb,if_pos rfl,hvj];simp only[dI,jD];rw[yi _ (fun i hi=>(hO.row j i k s rows none (by omega) e (by simpa using hi) (fun g e=>by cases e)).1)]
     ·rw[hvj];exact mS _ _ _
    |false=>
     rw[hb]at hl;simp only[j1,if_false]at hl;refine .inl ⟨j,on,hren,?_,hρcp id j ht' hp,ee.mp hl,fun hi=>?_,.inl ⟨ht',rfl⟩⟩
     ·rw[hvl id ht',hp];dsimp only;rw[hb];rfl
     ·rw[hO.plain j (by omega) hb];have himm':=himm.trans hi;simp only[hB,hV]at himm';refine himm'.2 _ ?_;rw[eC,hA,yK a1];exact y4 a1
   |none=>
    rw[hp]at hl;dsimp only at hl;obtain⟨a1,a2⟩:=hpnone id hp;split at hl
    ·exact hl.elim
    ·rename_i hk;refine .inr ⟨by rw[hvl id ht',hp];dsimp only;rw[if_neg hk],hρcn id ht' a1,hl,hTσ (fun hx=>a2 hx.2),?_⟩;rintro hi (hx|⟨j,i,h1,h2,h3⟩)
     ·exact hk ⟨hi,hx⟩
     ·have:=(hlodg j i h2).1;omega
 have hliveM:∀b,fA ρ0 h0 b→∃i∈σ,∃n C,ρ i=some ⟨some b,n,C⟩∧(v i).live:=by
  rintro b ⟨j,n,C,h1,h2⟩;rcases hP j σ.length with hj|hj
  ·have hi:=yK hj;rw[hρ0 j _ hi]at h1;exact⟨_,r0 hi,n,C,h1,(hl0 j _ hi).mp h2⟩
  ·exact absurd h2 (hl0' j hj)
 have hliveM':∀b,fA ρ0 h0 b→fA ρ v b:=fun b hb=>by obtain⟨i,_,n,C,h1,h2⟩:=hliveM b hb;exact⟨i,n,C,h1,h2⟩
 have hext:qG (fA ρ v) w (fA ρc vc) w':=by
  refine⟨he.size,fun b hb hm=>he.same b hb (fun hx=>hm (hliveM' b hx)),?_,he.keeps⟩;rintro b ⟨id,n,C,h1,h2⟩;rcases src id h2 with⟨j,m,_,_,h3,h4,_⟩|⟨_,h3,h4,_⟩
  ·rw[h3]at h1;exact(he.sub b ⟨j,n,C,h1,h4⟩).imp (hliveM' b) (fun x=>x)
  ·rw[h3]at h1;exact .inl ⟨id,n,C,h1,h4⟩
 have havoid:imm=true∨∀b,av F (fA ρc vc) b→av Fl (fA ρ' v') b:=by
  cases hc:imm with
  |true=>exact .inl rfl
  |false=>
   refine .inr (fun b hb=>?_);rcases hb with hb|⟨id,n,C,h1,h2⟩
   ·exact .inl (hFl b (.inl hb) (fun g _ n C hp hl=>hh.out b ⟨g,n,C,hp,hl⟩ hb))
   ·rcases src id h2 with⟨j,m,_,_,h3,h4,_⟩|⟨_,h3,h4,h5,h6⟩
    ·rw[h3]at h1;exact .inr ⟨j,n,C,h1,h4⟩
    ·rw[h3]at h1;refine .inl (hFl b (.inr ⟨id,n,C,h1,h4⟩) (fun g hg n' C' hp hl=>?_));have:=hh.inj g id b n' C' n C hl h4 hp h1;subst this;exact hg.append.elim h5 (h6 hc)
 have hav1:∀{x:V},(imm=true→gI x=true)→((∀b,av F (fA ρc vc) b→av Fl (fA ρ' v') b)∨gI x=true):=fun hx=>havoid.elim (fun hc=>.inr (hx hc)) .inl;refine⟨ρc,vc,⟨hsub,fun id hid hid2=>hρcn id hid (fun hr=>by rw[hnew]at hid2;obtain⟨r1,r2⟩:=hr;omega),fun _=>?_,fun g hg hl=>?_,⟨γc,hop⟩,⟨?_,?_,?_,hh.low' hext,hh.out' hext⟩,hext⟩,?_⟩
 ·obtain⟨G,hG⟩:=hbd;exact⟨G+top,fun g hg=>by rw[hρcg g (by omega)];exact hG g (by omega)⟩
 ·rcases src g hl with⟨j,m,_,_,_,h4,_,⟨h5,_⟩|⟨_,h5⟩⟩|⟨_,_,h4,_⟩
  ·omega
  ·subst h5;exact .inr (by rw[←hρ0g j hg];exact hfr j hg h4)
  ·exact .inl h4
 ·intro id p hp;by_cases ht:top≤id
  ·rw[hρcg id ht]at hp;exact hH.wf _ _ hp
  ·by_cases hr:new id
   ·simp only[ρc]at hp;rw[if_neg ht,if_pos hr]at hp;exact hH.wf _ _ hp
   ·rw[hρcn id (by omega) hr]at hp;exact hh.wf _ _ hp
 ·intro id hl;rcases src id hl with⟨j,m,hm,h2,h3,h4,h5,_⟩|⟨h2,h3,h4,h5,_⟩
  ·obtain⟨p,hp,hb⟩:=hH.rel j h4;refine⟨p,by rw[h3];exact hp,?_⟩;rw[h2];refine jB.ren hm ?_ hb;rcases havoid with hc|hc
   ·exact .inr (h5 hc)
   ·exact .inl hc
  ·obtain⟨p,hp,hb⟩:=hh.rel id h4;refine⟨p,by rw[h3];exact hp,?_⟩;rw[h2];refine jB.mono hsub hext hb (fun b hb'=>?_);obtain⟨pb,pn,pC⟩:=p;dsimp only at hb';subst hb';refine he.same b (fA.lt hh ⟨id,pn,pC,hp,h4⟩) (fun hx=>?_);obtain⟨i,hi,n,C,h7,h8⟩:=hliveM b hx;have:=hh.inj i id b _ _ _ _ h8 h4 h7 hp;subst this;exact h5 (.inl hi)
 ·intro i i' b n C n' C' hi hi' hpi hpi';have cross:∀{j id n C n' C'},(v' j).live→ρ' j=some ⟨some b,n,C⟩→¬lj h γ σ id→(v id).live→ρ id=some ⟨some b,n',C'⟩→False:=by
   intro j id n C n' C' h1 h2 h3 h4 h5;rcases he.sub b ⟨j,n,C,h2,h1⟩with hx|hx
   ·obtain⟨i,hi,n2,C2,h6,h7⟩:=hliveM b hx;have:=hh.inj i id b _ _ _ _ h7 h4 h6 h5;subst this;exact h3 (.inl hi)
   ·have:=fA.lt hh ⟨id,n',C',h5,h4⟩;omega
  rcases src i hi with⟨j,m,_,_,h3,h4,_,h5⟩|⟨_,h3,h4,hm,_⟩<;>rcases src i' hi' with⟨j',m',_,_,h3',h4',_,h5'⟩|⟨_,h3',h4',hm',_⟩<;>rw[h3]at hpi<;>rw[h3']at hpi'
  ·have:=hH.inj j j' b _ _ _ _ h4 h4' hpi hpi';subst this;rcases h5 with⟨q1,q2⟩|⟨q1,q2⟩<;>rcases h5' with⟨q1',q2'⟩|⟨q1',q2'⟩
   ·have a1:=(hpull i j q2).2;have a2:=(hpull i' j q2').2;rw[a1]at a2;exact Option.some.inj a2
   ·have:=(hpull i j q2).1;omega
   ·have:=(hpull i' j q2').1;omega
   ·omega
  ·exact(cross h4 hpi hm' h4' hpi').elim
  ·exact(cross h4' hpi' hm h4 hpi).elim
  ·exact hh.inj i i' b _ _ _ _ h4 h4' hpi hpi'
 ·rw[hval];exact oA.ren hren _ _ (hav1 (fun hc=>by have:=himm.trans hc;simp only[hB]at this;exact this.1)) hv
theorem N2 {tab:Nat→Option yA}(htab:oX P tab)(ho:fC h γ v)(hh:kA F ρ v w)(hb:Bd ρ){f:Nat}{args:List V}{vs:List Value}{out:oF}(hc:an tab nid f args h out)(hn:∀id,nid≤id→id<nid+out.new.length→ρ id=none)(hnt:nid+out.new.length≤top)
  (hr:mA ρ (av F (fA ρ v)) w args vs):aO P f∧Calls P f vs.toArray w fun e w'=>∃u ρ' v',e= .returned u∧qN F ρ v w nid out.new.length (tG h nid out) ρ' v' w'∧oA ρ' (av F (fA ρ' v')) w' out.val u:=by
 obtain⟨e,at_,σ,enc,a,h1,h2,h3,h4,h5,h6,h7,h8,⟨h10,h11,h12,h13⟩,h9⟩:=hc;have hS:=htab f e h1 _ _ a enc h4;have hσ:=oZ σ h7;have hdis:∀j∈σ,j∉at_.2:=sP.mp (by rw[h8];rfl);have hσt:∀i∈σ,i<top∧(h i).isNw=false:=fun i hi=>by unfold iS at h10;rw[hV]at h10;have:=h10 i hi;simp only[hB,hW]at this;exact⟨aC this.1,this.2⟩
 have hτt:∀i∈at_.2,i<top:=fun i hi=>aC (hV.mp h11 i hi);have hσl:σ.length≤top:=a6 h6 h13;have hvh:∀i∈σ,v i=h i:=fun i hi=>ho.plain i (hσt i hi).1 (hσt i hi).2
 let ρ0:xC:=fun j=>if top≤j then ρ j else match σ[j]? with|some i=>ρ i|none=>none
 let Fl:Nat→Prop:=fun b=>av F (fA ρ v) b∧∀g,lj h γ (σ++at_.2) g→∀n C,ρ g=some ⟨some b,n,C⟩→¬(v g).live
 have hρ0:∀j i,σ[j]?=some i→ρ0 j=ρ i:=fun j i hj=>by have:=(zE.mp hj).1;simp only[ρ0,hj];rw[if_neg (by omega)]
 have hρ0':∀j,σ.length≤j→j<top→ρ0 j=none:=fun j hj hj2=>by simp only[ρ0,hF hj];rw[if_neg (by omega)]
 have hρ0g:∀g,top≤g→ρ0 g=ρ g:=fun g hg=>if_pos hg;have hb0:∀j i,σ[j]?=some i→rA (σ.map fun i=>dI (vH · σ 0) (h i)) j=dI (vH · σ 0) (h i):=fun j i hj=>by rw[eC,hA,u2,hj];rfl
 have hb0':∀j,σ.length≤j→rA (σ.map fun i=>dI (vH · σ 0) (h i)) j= .dead:=fun j hj=>by rw[eC,hA,u2,hF hj];rfl
 have hl0:∀j i,σ[j]?=some i→((rA (σ.map fun i=>dI (vH · σ 0) (h i)) j).live↔(v i).live):=fun j i hj=>by rw[hb0 j i hj,hvh i (r0 hj)];exact ee
 have hl0':∀j,σ.length≤j→¬(rA (σ.map fun i=>dI (vH · σ 0) (h i)) j).live:=fun j hj=>by rw[hb0' j hj];exact id
 have hren:∀i j p,vH i σ 0=some j→ρ i=some p→ρ0 j=some p:=fun i j p hj hp=>by have:=(sZ σ i 0 j hj).2;rw[hρ0 j i (by simpa using this)];exact hp
 generalize hbs:(σ.map fun i=>dI (vH · σ 0) (h i))=bs at*;have hlen:bs.length=σ.length:=by subst hbs;simp
 have hlm:∀b,fA ρ0 (rA bs) b→∃i∈σ,∃n C,ρ i=some ⟨some b,n,C⟩∧(v i).live:=by
  rintro b ⟨j,n,C,g1,g2⟩;rcases hP j σ.length with hj|hj
  ·have hi:=yK hj;rw[hρ0 j _ hi]at g1;exact⟨_,r0 hi,n,C,g1,(hl0 j _ hi).mp g2⟩
  ·exact absurd g2 (hl0' j hj)
 have hM:∀b,av Fl (fA ρ0 (rA bs)) b→av F (fA ρ v) b:=by
  rintro b (hb|hb)
  ·exact hb.1
  ·obtain⟨i,_,n,C,g1,g2⟩:=hlm b hb;exact .inr ⟨i,n,C,g1,g2⟩
 have hH:kA Fl ρ0 (rA bs) w:=by
  have hex:∀j,(rA bs j).live→∃i,σ[j]?=some i:=fun j hl=>by
   rcases hP j σ.length with hj|hj
   ·exact⟨_,yK hj⟩
   ·exact absurd hl (hl0' j hj)
  refine⟨?_,?_,?_,?_,?_⟩
  ·intro j p hp;by_cases ht:top≤j
   ·rw[hρ0g j ht]at hp;exact hh.wf _ _ hp
   ·rcases hP j σ.length with hj|hj
    ·rw[hρ0 j _ (yK hj)]at hp;exact hh.wf _ _ hp
    ·rw[hρ0' j hj (by omega)]at hp;cases hp
  ·intro j hl;obtain⟨i,hi⟩:=hex j hl;obtain⟨p,hp,hb⟩:=hh.rel i ((hl0 j i hi).mp hl);refine⟨p,by rw[hρ0 j i hi];exact hp,?_⟩;rw[hb0 j i hi,←hvh i (r0 hi)];exact jB.ren hren (.inl hM) hb
  ·intro j j' b n C n' C' hl hl' hp hp';obtain⟨i,hi⟩:=hex j hl;obtain⟨i',hi'⟩:=hex j' hl';rw[hρ0 j i hi]at hp;rw[hρ0 j' i' hi']at hp';have:=hh.inj i i' b _ _ _ _ ((hl0 j i hi).mp hl) ((hl0 j' i' hi').mp hl') hp hp';subst this;have hj:j<σ.length:=(zE.mp hi).1;exact(List.getElem?_inj hj hσ).mp (by rw[hi,hi'])
  ·rintro b ⟨hb,_⟩;rcases hb with hb|hb
   ·exact hh.low b hb
   ·exact fA.lt hh hb
  ·intro b hb hf;obtain⟨i,hi,n,C,g1,g2⟩:=hlm b hb;exact hf.2 i (.inl (by simp[hi])) n C g1 g2
 have hargs:mA ρ (av Fl (fA ρ0 (rA bs))) w at_.1 vs:=by
  have:=tQ (Ml:=av Fl (fA ρ0 (rA bs))) ho hh hM e.imm args vs ?_ hr
  ·rw[h2]at this;exact this
  ·rw[h2];intro g hg b n C hp hl hx;rcases hx with hx|hx
   ·exact hx.2 g (hg.mono fun j hj=>p0 _ hj) n C hp hl
   ·obtain⟨i,hi,n',C',g1,g2⟩:=hlm b hx;have:=hh.inj i g b _ _ _ _ g2 hl g1 hp;subst this;rcases hg with hg|⟨j,i',q1,q2,q3⟩
    ·exact hdis i hi hg
    ·obtain⟨k,s,rows,hole,r1,r2,r3,r4⟩:=q2;have:=(ho.row j i' k s rows hole r1 r2 r3 r4).1;have:=(hσt i hi).1;omega
 have hbd0:Bd ρ0:=by obtain⟨G,hG⟩:=hb;exact⟨G+top,fun g hg=>by rw[hρ0g g (by omega)];exact hG g (by omega)⟩
 refine⟨hS.callable,Calls.mono (hS.calls Fl ρ0 w vs hH (fun id hid hid2=>hρ0' id (by omega) hid2) hbd0 (by omega) (mA.ren hren _ _ (.inl (fun b hb=>hb)) hargs)) ?_⟩;rintro e' w' ⟨u,he',ρ',v',g1,g2,g3,g4,g5,g6,⟨γ',g7⟩,g8,g9,g10⟩;have hnew:out.new.length=(enc a).pick.2.length-σ.length:=by rw[h9];simp[cF,qR]
 obtain⟨ρc,vc,p1,p2⟩:=My (nid:=nid) ho hh (v0:=(enc a).pick.1) (bs0:=(enc a).pick.2) (fun id k1 k2=>hn id k1 (by omega)) (by omega) hσt hτt hσ h6 g5 (fun b hb=>hV.mp h12 b hb) hdis hρ0 hρ0' hρ0g hl0 hl0' (Fl:=Fl) (fun b k1 k2=>⟨k1,k2⟩) (fun j hj=>g1 j (by omega)) g2 g3 g4 (fun g hg hl=>g6 g hg hl) g7 g8 g9 g10;rw[←h9]at p1 p2;exact⟨u,ρc,vc,he',p1,p2⟩
end
structure dB (P:Program)(E:yC):Prop where
 ty:uD P E.ty
 tab:oX P E.tab
structure lh (E:yC)(F:Nat→Prop)(ρ:xC)(T:Nat→V)(h v:Nat→qA)(a:Act)(w:World):Prop where
 opn:T4 h v
 bd:Bd ρ
 heap:kA F ρ v w
 tmps:∀t,oA ρ (av F (fA ρ v)) w (T t) (a.eval (.tmp t))
 size:a.tmps.size=E.ntmps
 defers:a.defers=[]
theorem Bs {ρ:xC}{M:Nat→Prop}{w:World}(v:Value):oA ρ M w (kv v) v:=by
 unfold kv;split
 ·rename_i cs;simp only[oA];refine⟨cs,rfl,?_⟩;generalize cs.toList=l;induction l with
  |nil=>simp[mA]
  |cons x l ih=>simp only[cP,mA,oA];exact⟨trivial,ih⟩
 ·simp only[oA]
section
variable {P:Program}{E:yC}{F:Nat→Prop}{ρ:xC}{T:Nat→V}{h v:Nat→qA}{a:Act}{w:World}
theorem lh.ev (hr:lh E F ρ T h v a w)(x:Operand):oA ρ (av F (fA ρ v)) w (qp T x) (a.eval x):=by
 cases x with
 |tmp t=>exact hr.tmps t
 |const v=>exact Bs v
 |global g=>simp only[qp,oA]
 |func f=>simp only[qp,oA,Act.eval];exact⟨#[],#[],rfl,by simp[mA],by simp[mA]⟩
theorem lh.put {ρ':xC}{h' v':Nat→qA}{w':World}(hr:lh E F ρ T h v a w)(hs:vL ρ ρ')(ho:T4 h' v')(hb:Bd ρ')(hh:kA F ρ' v' w')(he:qG (fA ρ v) w (fA ρ' v') w'){d:Option Nat}(hd:wu E.ntmps d=true){x:V}{u:Value}(hx:oA ρ' (av F (fA ρ' v')) w' x u):
  lh E F ρ' (lI T d x) h' v' (a.put d u) w':=by
 have hm:∀t,oA ρ' (av F (fA ρ' v')) w' (T t) (a.eval (.tmp t)):=fun t=>oA.mono hs he _ _ (hr.tmps t);cases d with
 |none=>exact⟨ho,hb,hh,hm,hr.size,hr.defers⟩
 |some d=>
  have hlt:d<a.tmps.size:=by rw[hr.size];exact aC hd
  refine⟨ho,hb,hh,fun t=>?_,by simp[Act.put,hr.size],hr.defers⟩;simp only[lI,Act.put,Act.eval];by_cases ht:t=d
  ·subst ht;rw[if_pos rfl,xK,Array.getElem?_setIfInBounds_self_of_lt hlt];exact hx
  ·rw[if_neg ht,xK,Array.getElem?_setIfInBounds_ne (Ne.symm ht),←xK];exact hm t
theorem zt {all:Array Oper}(hr:lh E F ρ T h v a w){o:Oper}{b:Bool}(hw:nM all.toList T o=some b):Region.wanted o (yielded all a.tmps)=b:=by
 unfold nM at hw;unfold Region.wanted;cases hg:o.guard with
 |none=>rw[hg]at hw;simp only[Option.some.injEq]at hw;exact hw
 |some gw=>
  obtain⟨j,want⟩:=gw;rw[hg]at hw;dsimp only at hw⊢;unfold yielded;rw[j3]at hw;cases hd:(all[j]?).bind (·.dst)with
  |none=>rw[hd]at hw;cases hw
  |some g=>
   rw[hd]at hw;dsimp only at hw;have hv:=hr.tmps g;simp only[Option.bind_some];split at hw
   ·rename_i b' hb;rw[hb]at hv;simp only[oA,Act.eval]at hv;simp only[Option.some.injEq]at hw;rw[xK]at hv;cases ht:a.tmps[g]? with
    |none=>rw[ht]at hv;cases hv
    |some u=>rw[ht]at hv;simp only[hR]at hv;subst hv;rw[←hw];cases b'<;>cases want<;>rfl
   ·rename_i vs hb;rw[hb]at hv;simp only[oA,Act.eval]at hv;simp only[Option.some.injEq]at hw;rw[xK]at hv;rw[←hw];cases ht:a.tmps[g]? with
    |none=>rfl
    |some u=>rw[ht]at hv;simp only[hR]at hv;subst hv;rfl
   ·cases hw
theorem mA.map_evF {xs:List Operand}(hr:lh E F ρ T h v a w):mA ρ (av F (fA ρ v)) w (xs.map (qp T)) (xs.map a.eval):=by
 induction xs with
 |nil=>simp[mA]
 |cons x xs ih=>simp only[cP,mA];exact⟨hr.ev x,ih⟩
theorem Lv {o:Oper}{f:Operand}{args:Array Operand}{ts:Array TypeId}{g:FuncId}{va vc:Array Value}(ho:o.op= .call ⟨.value f,args,ts⟩)(hf:a.eval f= .func (.func g) va vc)(hc:aO P g):
  (execOp a.eval o).run P w= .ok (.enter g (va++args.map a.eval++vc)) w:=by
 obtain⟨fn,h1,h2,h3⟩:=hc;have h4:fn.name≠ "runtime.NumGoroutine" :=by simpa using h3
 cases hb:fn.body with
 |none=>rw[hb]at h2;cases h2
 |some c=>unfold execOp;rw[ho];simp[resolve,Deferred.ofValue,hf,invoke,callFunc,h1,h4,hb]
def fm (E:yC)(F:Nat→Prop)(len base:Nat)(ρ0:xC)(v0:Nat→qA)(w0:World)(T:Nat→V)(h:Nat→qA)(rem:List vJ)(a:Act)(w:World):Prop:=
 ∃ρ v,lh E F ρ T h v a w∧(∀x∈rem,∀id,x.nid≤id→id<x.nid+yN E.tab x.o.op→id<top→ρ id=none)∧rem.Pairwise (fun x y=>x.nid+yN E.tab x.o.op≤y.nid)∧
  (∀id,len≤id→id<top→ρ id=none)∧(∀id,id<base→id<top→ρ id=ρ0 id)∧(∀x∈rem,base≤x.nid)∧(∀g p,top≤g→ρ0 g=some p→ρ g=some p)∧(∀g,top≤g→(v g).live→(v0 g).live∨ρ0 g=none)∧qG (fA ρ0 v0) w0 (fA ρ v) w
theorem fm.next {len base:Nat}{ρ0:xC}{v0:Nat→qA}{w0:World}{pre post:List vJ}{x:vJ}(hr:lh E F ρ T h v a w)
  (h1:∀y∈pre++x::post,∀id,y.nid≤id→id<y.nid+yN E.tab y.o.op→id<top→ρ id=none)(h2:(pre++x::post).Pairwise (fun x y=>x.nid+yN E.tab x.o.op≤y.nid))
  (h3:∀id,len≤id→id<top→ρ id=none)(h4:∀id,id<base→id<top→ρ id=ρ0 id)(h5:∀y∈pre++x::post,base≤y.nid)(h7:∀g p,top≤g→ρ0 g=some p→ρ g=some p)(h8:∀g,top≤g→(v g).live→(v0 g).live∨ρ0 g=none)(h6:qG (fA ρ0 v0) w0 (fA ρ v) w)
  (hd:wu E.ntmps x.o.dst=true){out:oF}(hn:out.new.length≤yN E.tab x.o.op)(hl:x.nid+yN E.tab x.o.op≤len){u:Value}{w':World}{ρ':xC}{v':Nat→qA}(hp:qN F ρ v w x.nid out.new.length (tG h x.nid out) ρ' v' w')(hv:oA ρ' (av F (fA ρ' v')) w' out.val u):
  fm E F len base ρ0 v0 w0 (lI T x.o.dst out.val) (bD h (out.wr++jK x.nid out.new)) (pre++post) (a.put x.o.dst u) w':=by
 obtain⟨p1,p2,p3,p4,p5,p6,p7⟩:=hp;rw[fL]at p5;rw[e4]at h2;obtain⟨q1,q2,q3⟩:=h2;rw[n4]at q2;refine⟨ρ',v',hr.put p1 p5 (p3 hr.bd) p6 p7 hd hv,?_,?_,?_,?_,?_,?_,?_,h6.trans p7⟩
 ·intro y hy id k1 k2 k3;rcases aE.mp hy with hy|hy
  ·have:=q3 y hy x (by simp);rw[p2 id k3 (by omega)];exact h1 y (by simp[hy]) id k1 k2 k3
  ·have:=q2.1 y hy;rw[p2 id k3 (by omega)];exact h1 y (by simp[hy]) id k1 k2 k3
 ·rw[e4];exact⟨q1,q2.2,fun y hy z hz=>q3 y hy z (by simp[hz])⟩
 ·intro id hid hid2;rw[p2 id hid2 (by omega)];exact h3 id hid hid2
 ·intro id hid hid2;have:=h5 x (by simp);rw[p2 id hid2 (by omega)];exact h4 id hid hid2
 ·intro y hy;refine h5 y ?_;simp only[aE,hD]at hy⊢;rcases hy with hy|hy<;>simp[hy]
 ·intro g p hg hp;exact p1 g p (h7 g p hg hp)
 ·intro g hg hl;rcases p4 g hg hl with q|q
  ·exact h8 g hg q
  ·refine .inr ?_;cases hr:ρ0 g with
   |none=>rfl
   |some p=>have:=h7 g p hg hr;rw[q]at this;cases this
theorem yv (hE:dB P E){ops:Array Oper}{Q:Exit→Act→World→Prop}{len base:Nat}{ρ0:xC}{v0:Nat→qA}{w0:World}{pre post:List vJ}{x:vJ}{r:nX}{K:Act→World→Prop}
  (hc:rH E ops.toList len x T h r)(hI:fm E F len base ρ0 v0 w0 T h (pre++x::post) a w)(hx:ops[x.i]?=some x.o)
  (hK:∀a' w',fm E F len base ρ0 v0 w0 (lI T x.o.dst r.v) (bD h r.ups) (pre++post) a' w'→K a' w'):wpOp P ops Q x.i K a w:=by
 obtain⟨ρ,v,hr,h1,h2,h3,h4,h5,h7,h8,h6⟩:=hI;obtain⟨c1,hd,⟨hw,out,hex,rfl,hn,hl,htop,hwl⟩|⟨hw,rfl⟩⟩:=hc
 ·unfold wpOp;rw[hx];dsimp only;rw[zt hr hw,if_pos rfl];refine .inl ?_;unfold Oper.wp;have hslot:∀id,x.nid≤id→id<x.nid+out.new.length→ρ id=none:=fun id k1 k2=>h1 x (by simp) id k1 (by omega) (by omega);obtain⟨γ,ho⟩:=hr.opn;have bN:∀{u:Value} {w':World} {ρ':xC} {v':Nat→qA},qN F ρ v w x.nid out.new.length (tG h x.nid out) ρ' v' w'→oA ρ' (av F (fA ρ' v')) w' out.val u→K (a.put x.o.dst u) w':=
   fun hp hv=>hK _ _ (fm.next hr h1 h2 h3 h4 h5 h7 h8 h6 hd hn hl hp hv)
  rcases hex with⟨f,args,ts,g,first,cap,e1,e2,e3⟩|hact|⟨hnone,hact,htame⟩
  ·have hf:=hr.ev f;rw[e2]at hf;simp only[oA]at hf;obtain⟨va,vc,f1,f2,f3⟩:=hf;have hargs:mA ρ (av F (fA ρ v)) w (first++(args.toList.map (qp T)++cap)) (va.toList++(args.toList.map a.eval++vc.toList)):=
    f2.append ((mA.map_evF hr).append f3)
   obtain⟨hcal,hcalls⟩:=N2 hE.tab ho hr.heap hr.bd e3 hslot (by omega) hargs;rw[Lv e1 f1 hcal,Oper.upon_enter];have hav:(va++args.map a.eval++vc)=(va.toList++(args.toList.map a.eval++vc.toList)).toArray:=by apply Array.toList_inj.mp;simp
   rw[hav];refine Calls.mono hcalls ?_;rintro e w' ⟨u,ρ',v',rfl,p1,p2⟩;exact bN p1 p2
  ·obtain⟨u,w',ρ',v',hrun,p1,p2⟩:=Mu (P:=P) hE.ty ho hr.heap hr.bd hr.ev hslot (by omega) (fun p hp=>by have:=hwl p hp;omega) x.o hact;rcases hrun with hrun|⟨hrun,rfl⟩
   ·rw[hrun,Oper.upon_value];exact bN p1 p2
   ·rw[hrun,Oper.upon_skip];exact bN p1 p2
  ·obtain⟨u,w',ρ',v',hrun,p1,p2⟩:=F0 (P:=P) hE.ty ho hr.heap hr.ev hslot (by omega) x.o hact htame;rcases hrun with hrun|⟨hrun,rfl⟩
   ·rw[hrun,Oper.upon_value];exact bN p1 p2
   ·rw[hrun,Oper.upon_skip];exact bN p1 p2
 ·unfold wpOp;rw[hx];dsimp only;rw[zt hr hw];simp only[j1,if_false];refine hK _ _ ⟨ρ,v,hr.put (vL.refl _) hr.opn hr.bd hr.heap (qG.refl _ _) hd (by simp only[bI,oA];rfl),?_,?_,h3,h4,?_,h7,h8,h6⟩
  ·intro y hy;refine h1 y ?_;simp only[aE,hD]at hy⊢;rcases hy with hy|hy<;>simp[hy]
  ·exact h2.sublist (List.Sublist.append_left (s5 _ _) _)
  ·intro y hy;refine h5 y ?_;simp only[aE,hD]at hy⊢;rcases hy with hy|hy<;>simp[hy]
theorem xj (tab:Nat→Option yA):∀(ops:List Oper) (i nid:Nat),(eK tab i nid ops).map (·.i)=(List.range ops.length).map (i+ ·)
 | [],_,_=>rfl
 |o::r,i,nid=>by simp only[eK,cP,iX,l5,c5,xj tab r];simp[Function.comp_def,Nat.add_assoc,Nat.add_comm 1]
theorem xk (tab:Nat→Option yA):∀(ops:List Oper) (i nid:Nat),∀x∈eK tab i nid ops,i≤x.i∧ops[x.i-i]?=some x.o
 | [],_,_,x,hx=>by simp[eK]at hx
 |o::r,i,nid,x,hx=>by
  simp only[eK,hD]at hx;rcases hx with rfl|hx
  ·simp
  ·obtain⟨h1,h2⟩:=xk tab r _ _ x hx;refine⟨by omega,?_⟩;have:x.i-i=(x.i- (i+1))+1:=by omega
   rw[this];simpa using h2
theorem de (tab:Nat→Option yA):∀(ops:List Oper) (i nid:Nat),(∀x∈eK tab i nid ops,nid≤x.nid)∧(eK tab i nid ops).Pairwise (fun x y=>x.nid+yN tab x.o.op≤y.nid)
 | [],_,_=>⟨by simp[eK],by simp[eK]⟩
 |o::r,i,nid=>by
  obtain⟨h1,h2⟩:=de tab r (i+1) (nid+yN tab o.op);simp only[eK];refine⟨fun x hx=>?_,n4.mpr ⟨fun y hy=>h1 y hy,h2⟩⟩;rcases hD.mp hx with rfl|hx
  ·exact eX _
  ·exact a6 (Nat.le_add_right _ _) (h1 x hx)
theorem lh.heq {w':World}(hr:lh E F ρ T h v a w)(he:w'.heap=w.heap):lh E F ρ T h v a w':=
 ⟨hr.opn,hr.bd,hr.heap.heq he,fun t=>oA.world he _ _ (hr.tmps t),hr.size,hr.defers⟩
theorem Bu.rows {len:Nat}{all:List Oper}:∀(L:List (vJ×nX)) (T:Nat→V) (h:Nat→qA) {T':Nat→V} {h':Nat→qA},Bu E all len L T h T' h'→∀p∈L,p.2.i=p.1.i
 | [],_,_,_,_,_,p,hp=>by simp at hp
 |q::L,T,h,_,_,ht,p,hp=>by
  rcases hD.mp hp with rfl|hp
  ·exact ht.1.1
  ·exact Bu.rows L _ _ ht.2 p hp
theorem rb (H:List qA)(n:Nat):rA (H++List.replicate n .dead)=rA H:=by
 funext j;rw[eC,eC];simp only[hA,iB,List.getElem?_replicate];by_cases hj:j<H.length
 ·rw[if_pos hj]
 ·rw[if_neg hj,hF (by omega)];split<;>rfl
theorem B9 (hE:dB P E)(hmix:P.follows .mixedOrders=true){id:Nat}{ops:Array Oper}{draw:Bool}{s:St}{R:Type}{k:St→Option R}{r:R}(hr:jY E ops draw s k=some r):
  ∃s',k s'=some r∧s.H.length≤s'.H.length∧s'.H.length≤top∧∀F ρ v a w Q,lh E F ρ (fE s.T) (rA s.H) v a w→(∀j,s.H.length≤j→j<top→ρ j=none)→
   (∀ρ' v' a' w',lh E F ρ' (fE s'.T) (rA s'.H) v' a' w'→(∀j,s'.H.length≤j→j<top→ρ' j=none)→(∀j,j<s.H.length→j<top→ρ' j=ρ j)→(∀g p,top≤g→ρ g=some p→ρ' g=some p)→(∀g,top≤g→(v' g).live→(v g).live∨ρ g=none)→qG (fA ρ v) w (fA ρ' v') w'→Q .normal a' w')→
   (Code.region id ops draw).wp P Q a w:=by
 unfold jY at hr;obtain⟨rs,T',H',ht,hlen,hk⟩:=rz _ _ _ _ _ _ hr;obtain⟨hok0,hk⟩:=cA hk;obtain⟨hlt,hok⟩:=wA hok0;have hlt:=lE hlt;rw[rb]at ht;obtain⟨L,l1,l2,l3⟩:=ht.pairs;simp only[l4,List.length_replicate]at hlen l3;refine⟨⟨T',H'⟩,hk,by dsimp only;omega,hlt,?_⟩;intro F ρ v a w Q hrep hnone hQ;obtain⟨n1,n2⟩:=de E.tab ops.toList 0 s.H.length;have ho:∀p∈L,ops[p.1.i]?=some p.1.o:=by
  intro p hp;have hm:p.1∈eK E.tab 0 s.H.length ops.toList:=by rw[←l1];exact y0 hp
  have:=(xk _ _ _ _ _ hm).2;simpa using this
 have hI:∀w2:World,w2.heap=w.heap→sG w w2→fm E F (s.H.length+zW E.tab ops.toList) s.H.length ρ v w (fE s.T) (rA s.H) (L.map (·.1)) a w2:=by intro w2 hw2 hk2;rw[l1];exact⟨ρ,v,hrep.heq hw2,fun x hx id h1 h2 h3=>hnone id (a6 (n1 x hx) h1) h3,n2,fun id hid hid2=>hnone id (by omega) hid2,fun _ _ _=>rfl,n1,fun _ _ _ h=>h,fun _ _ h=>.inl h,qG.heq hw2 hk2⟩
 have hfin:∀a' w',fm E F (s.H.length+zW E.tab ops.toList) s.H.length ρ v w (fE T') (rA H') [] a' w'→Q .normal a' w':=by rintro a' w' ⟨ρ',v',r1,_,_,r2,r3,_,r5,r6,r4⟩;exact hQ ρ' v' a' w' r1 (fun j hj hj2=>r2 j (by dsimp only at hj;omega) hj2) r3 r5 r6 r4
 have hmi:L.map (·.1.i)=List.range ops.size:=by
  have:L.map (·.1.i)=(L.map (·.1)).map (·.i):=by simp[c5,Function.comp_def]
  rw[this,l1,xj];simp
 cases draw with
 |false=>refine wp_region ?_;rw[←hmi];exact Mq (fm E F _ s.H.length ρ v w) (fun T h pre x post r a w K hc hI hx hK=>yv hE hc hI hx hK) hfin L _ _ a w l3 (hI w rfl (.refl _)) ho
 |true=>
  simp only[x2,Bool.false_or,hB]at hok;obtain⟨⟨k1,k2⟩,k3⟩:=hok;refine wp_region_any hmix ?_;refine Mp (fm E F _ s.H.length ρ v w) (fun T h pre x post r a w K hc hI hx hK=>yv hE hc hI hx hK) k1 hfin ops.size _ L _ _ a _ l3 (hI _ rfl ⟨rfl,rfl,rfl,by first|exact eX _|exact Nat.le_succ _|exact Nat.le_add_right _ _⟩) ?_ (by simp) ?_ ho (l3.rows) ?_ ?_
  ·have:=congrArg List.length hmi;simp at this;omega
  ·rw[hmi];symm;rw[k4];intro i hi;simp only[y1]at hi;simp[xK,hi]
  ·have hp:=uN _ k3;rw[List.append_nil,List.pairwise_reverse,←l2,c5,List.pairwise_map]at hp;exact hp
  ·intro j o hj;rw[xK]at hj;simp[Array.getElem?_replicate]at hj;split at hj<;>simp_all
end
mutual
theorem oA.agree {ρ ρ':xC}{M:Nat→Prop}{w:World}:∀(x:V) (v:Value),(∀i∈mK x,∀p,ρ i=some p→ρ' i=some p)→oA ρ M w x v→oA ρ' M w x v
 | .c _,_,_,h=>by simpa only[oA]using h
 | .poison,_,_,_=>by simp only[oA]
 | .ptr id _ _,_,hm,h=>by simp only[oA]at h⊢;obtain⟨b,n,C,h1,h2,h3⟩:=h;exact⟨b,n,C,hm id (by simp[mK]) _ h1,h2,h3⟩
 | .sw id _,_,hm,h=>by
  simp only[oA]at h⊢;obtain⟨h0,⟨b,n,C,cap,h1,h2⟩|⟨h1,h2⟩⟩:=h
  ·exact⟨h0,.inl ⟨b,n,C,cap,hm id (by simp[mK]) _ h1,h2⟩⟩
  ·exact⟨h0,.inr ⟨hm id (by simp[mK]) _ h1,h2⟩⟩
 | .sl id _ _ _,_,hm,h=>by
  simp only[oA]at h⊢;obtain⟨h0,⟨b,n,C,cap,h1,h2⟩|⟨h1,h2⟩⟩:=h
  ·exact⟨h0,.inl ⟨b,n,C,cap,hm id (by simp[mK]) _ h1,h2⟩⟩
  ·exact⟨h0,.inr ⟨h1,h2⟩⟩
 | .mref id,_,hm,h=>by simp only[oA]at h⊢;obtain⟨b,h1,h2⟩:=h;exact⟨b,hm id (by simp[mK]) _ h1,h2⟩
 | .il _ _ _,_,_,h=>by simpa only[oA]using h
 | .iv _ _,_,_,h=>by simpa only[oA]using h
 | .ilp _ _ _ _,_,_,h=>by simpa only[oA]using h
 | .ivp _ _ _ _,_,_,h=>by simpa only[oA]using h
 | .inl _ _ _,_,_,h=>by simpa only[oA]using h
 | .inlp _ _ _ _,_,_,h=>by simpa only[oA]using h
 | .lv _,_,_,h=>by simpa only[oA]using h
 | .agg cs,_,hm,h=>by simp only[oA]at h⊢;obtain⟨vs,h1,h2⟩:=h;exact⟨vs,h1,mA.agree cs _ (fun i hi=>hm i (by simpa only[mK]using hi)) h2⟩
 | .tup cs,_,hm,h=>by simp only[oA]at h⊢;obtain⟨vs,h1,h2⟩:=h;exact⟨vs,h1,mA.agree cs _ (fun i hi=>hm i (by simpa only[mK]using hi)) h2⟩
 | .fn _ a c,_,hm,h=>by simp only[oA]at h⊢;obtain⟨va,vc,h1,h2,h3⟩:=h;exact⟨va,vc,h1,mA.agree a _ (fun i hi=>hm i (by simp only[mK,aE];exact .inl hi)) h2,mA.agree c _ (fun i hi=>hm i (by simp only[mK,aE];exact .inr hi)) h3⟩
theorem mA.agree {ρ ρ':xC}{M:Nat→Prop}{w:World}:∀(x:List V) (v:List Value),(∀i∈iF x,∀p,ρ i=some p→ρ' i=some p)→mA ρ M w x v→mA ρ' M w x v
 | [],[],_,_=>by simp only[mA]
 |x::xs,v::vs,hm,h=>by simp only[mA]at h⊢;exact⟨oA.agree x v (fun i hi=>hm i (by simp only[iF,aE];exact .inl hi)) h.1,mA.agree xs vs (fun i hi=>hm i (by simp only[iF,aE];exact .inr hi)) h.2⟩
 | [],_::_,_,h=>by simp only[mA]at h
 |_::_,[],_,h=>by simp only[mA]at h
end
theorem jB.agree {ρ ρ':xC}{M:Nat→Prop}{w:World}{p:Pl}{x:qA}(hm:∀i∈vS x,∀p,ρ i=some p→ρ' i=some p)(h:jB ρ M w p x):jB ρ' M w p x:=by
 cases x with
 |dead=>trivial
 |ints k l=>exact h
 |mp k n ks vs=>exact h
 |it mid gE rem cur=>obtain⟨h1,h2,b,mb,seen,h4,h5,h6,h7⟩:=h;exact⟨h1,h2,b,mb,seen,h4,h5,fun i hi=>hm i (by subst hi;simp[vS]) _ (h6 i hi),h7⟩
 |vals cs=>
  obtain⟨h1,h2|⟨b,c,h2,h3,h4,h5⟩⟩:=h
  ·exact⟨h1,.inl h2⟩
  ·exact⟨h1,.inr ⟨b,c,h2,h3,h4,mA.agree _ _ (fun i hi=>hm i hi) h5⟩⟩
 |nw _ _ _ _=>exact h.elim
 |bls l=>exact h
theorem jB.avoid {ρ:xC}{M M':Nat→Prop}{w:World}(hM:∀b,M' b→M b){p:Pl}{x:qA}(h:jB ρ M w p x):jB ρ M' w p x:=by
 cases x with
 |dead=>trivial
 |ints k l=>exact h
 |mp k n ks vs=>exact h
 |it mid gE rem cur=>exact h
 |vals cs=>
  obtain⟨h1,h2|⟨b,c,h2,h3,h4,h5⟩⟩:=h
  ·exact⟨h1,.inl h2⟩
  ·exact⟨h1,.inr ⟨b,c,h2,h3,h4,mA.avoid hM _ _ h5⟩⟩
 |nw _ _ _ _=>exact h.elim
 |bls l=>exact h
theorem cS {l:List Nat}(h:l.isEmpty=true):∀i,i∉l:=by
 intro i hi;cases l with
 |nil=>cases hi
 |cons=>cases h
structure iW (ρ ρ':xC)(src:List (Option Nat)):Prop where
 old:∀(j id:Nat),src[j]?=some (some id)→ρ' j=ρ id
 nil:∀j:Nat,src[j]?=some none→ρ' j=some ⟨none,0,0⟩
def By (x:qA):Prop:=(∃k,x= .ints k [])∨∃k s,x= .nw k s [] none
def kX (a x:qA):Prop:=a.live∧((x.isNw=false∧a.isNw=false)∨∃k s rows,x= .nw k s rows none∧a=x)
theorem kX.plain {a x y:qA}(h:a=y)(h1:y.live)(h2:y.isNw=false)(h3:x.isNw=false):kX a x:=by
 subst h;exact⟨h1,.inl ⟨h3,h2⟩⟩
theorem kX.nest {a:qA}{k:IntKind}{s:Nat}{rows:List (List Int)}(h:a= .nw k s rows none):kX a (.nw k s rows none):=by
 subst h;exact⟨trivial,.inr ⟨k,s,rows,rfl,rfl⟩⟩
structure wL (h:Nat→qA)(a:kR):Prop where
 len:a.src.length=a.blks.length
 nodup:∀(i j id:Nat),a.src[i]?=some (some id)→a.src[j]?=some (some id)→i=j
 virt:∀j:Nat,a.src[j]?=some none→∃x,a.blks[j]?=some x∧By x
 live:∀(j id:Nat) (x:qA),a.src[j]?=some (some id)→a.blks[j]?=some x→x.live→kX (h id) x
def uJ (h:Nat→qA)(ρ ρ':xC)(M:Nat→Prop)(w:World)(a:kR):Prop:=
 ∀(j id:Nat) (x:qA) (p:Pl),a.src[j]?=some (some id)→a.blks[j]?=some x→ρ id=some p→jB ρ M w p (h id)→jB ρ' M w p x
theorem eN {id:Nat}:∀(src:List (Option Nat)) (n j:Nat),dC id src n=some j→n≤j∧src[j-n]?=some (some id)
 | [],n,j,h=>by simp[dC]at h
 |some x::r,n,j,h=>by
  simp only[dC]at h;cases hb:Nat.beq x id<;>rw[hb]at h<;>simp only[cond_true,cond_false]at h
  ·obtain⟨h1,h2⟩:=eN r (n+1) j h;have:j-n=(j- (n+1))+1:=by omega
   exact⟨by omega,by rw[this];simpa using h2⟩
  ·simp only[Option.some.injEq]at h;subst h;have:=aB hb;subst this;simp
 |none::r,n,j,h=>by
  simp only[dC]at h;obtain⟨h1,h2⟩:=eN r (n+1) j h;have:j-n=(j- (n+1))+1:=by omega
  exact⟨by omega,by rw[this];simpa using h2⟩
theorem dN {id mid:Nat}(hne:mid≠id):∀(src:List (Option Nat)) (n:Nat),dC id src n=none→dC id (src++[some mid]) n=none
 | [],n,_=>by
  simp only[List.nil_append,dC];cases hb:Nat.beq mid id
  ·rfl
  ·exact absurd (aB hb) hne
 |some x::r,n,h=>by
  simp only[dC,q0]at h⊢;cases hb:Nat.beq x id<;>rw[hb]at h<;>simp only[cond_true,cond_false]at h⊢
  ·exact dN hne r (n+1) h
  ·cases h
 |none::r,n,h=>by simp only[dC,q0]at h⊢;exact dN hne r (n+1) h
theorem cN {id:Nat}:∀(src:List (Option Nat)) (n:Nat),dC id src n=none→∀j:Nat,src[j]?≠some (some id)
 | [],n,_,j=>by simp
 |some x::r,n,h,j=>by
  simp only[dC]at h;cases hb:Nat.beq x id<;>rw[hb]at h<;>simp only[cond_true,cond_false]at h
  ·cases j with
   |zero=>intro e;simp at e;subst e;simp at hb
   |succ j=>simpa using cN r _ h j
  ·cases h
 |none::r,n,h,j=>by
  simp only[dC]at h;cases j with
  |zero=>simp
  |succ j=>simpa using cN r _ h j
theorem wL.push {h:Nat→qA}{a:kR}(ha:wL h a){id:Nat}{x:qA}(hf:dC id a.src 0=none)(hx:x.live→kX (h id) x):wL h ⟨a.src++[some id],a.blks++[x]⟩:=by
 have hno:=cN _ _ hf;refine⟨by simp[ha.len],?_,?_,?_⟩
 ·intro i j id' hi hj;dsimp only at hi hj;rw[iB]at hi hj;split at hi<;>split at hj
  ·exact ha.nodup i j id' hi hj
  ·rw[iA]at hj;split at hj
   ·simp only[Option.some.injEq]at hj;subst hj;exact absurd hi (hno i)
   ·cases hj
  ·rw[iA]at hi;split at hi
   ·simp only[Option.some.injEq]at hi;subst hi;exact absurd hj (hno j)
   ·cases hi
  ·rw[iA]at hi hj;split at hi<;>split at hj<;>first|omega|(cases hi;done)|(cases hj;done)
 ·intro j hj;dsimp only at hj⊢;rw[iB]at hj;split at hj
  ·rename_i hlt;obtain⟨k,hk,hho⟩:=ha.virt j hj;exact⟨k,by rw[hN (by rw[←ha.len];exact hlt)];exact hk,hho⟩
  ·rw[iA]at hj;split at hj<;>simp at hj
 ·intro j id' y hj hy hl;dsimp only at hj hy;rw[iB]at hj hy;rw[←ha.len]at hy;split at hj
  ·rename_i hlt;rw[if_pos hlt]at hy;exact ha.live j id' y hj hy hl
  ·rename_i hge;rw[if_neg hge]at hy;rw[iA]at hj hy;split at hj
   ·rename_i h0;rw[if_pos h0]at hy;simp only[Option.some.injEq]at hj hy;subst hj;subst hy;exact hx hl
   ·cases hj
theorem uJ.push {h:Nat→qA}{ρ ρ':xC}{M:Nat→Prop}{w:World}{a:kR}(ha:wL h a)(hb:uJ h ρ ρ' M w a){id:Nat}{x:qA}(hx:∀p,jB ρ M w p (h id)→jB ρ' M w p x):uJ h ρ ρ' M w ⟨a.src++[some id],a.blks++[x]⟩:=by
 intro j id' y p hj hy hp hr;dsimp only at hj hy;rw[iB]at hj hy;rw[←ha.len]at hy;split at hj
 ·rename_i hlt;rw[if_pos hlt]at hy;exact hb j id' y p hj hy hp hr
 ·rename_i hge;rw[if_neg hge]at hy;rw[iA]at hj hy;split at hj
  ·rename_i h0;rw[if_pos h0]at hy;simp only[Option.some.injEq]at hj hy;subst hj;subst hy;exact hx p hr
  ·cases hj
theorem iW.pre {ρ ρ':xC}{src more:List (Option Nat)}(hc:iW ρ ρ' (src++more)):iW ρ ρ' src:=by
 refine⟨fun j id hj=>hc.old j id ?_,fun j hj=>hc.nil j ?_⟩<;>
 ·have:j<src.length:=(zE.mp hj).1;rw[hN this];exact hj
def HB (h:Nat→qA)(ρ:xC)(M:Nat→Prop)(w:World):Prop:=∀id p,(h id).live→(h id).isNw=false→ρ id=some p→jB ρ M w p (h id)
def xG (h:Nat→qA)(a a':kR)(Rn:xC→xC→(Nat→Prop)→World→Prop):Prop:=
 (∃more,a'.src=a.src++more)∧(wL h a→wL h a'∧∀ρ ρ' M w,HB h ρ M w→iW ρ ρ' a'.src→uJ h ρ ρ' M w a→uJ h ρ ρ' M w a'∧Rn ρ ρ' M w)
def Uu (v v':V)(ρ ρ':xC)(M:Nat→Prop)(w:World):Prop:=∀u,oA ρ M w v u→oA ρ' M w v' u
def Ut (v v':List V)(ρ ρ':xC)(M:Nat→Prop)(w:World):Prop:=∀u,mA ρ M w v u→mA ρ' M w v' u
theorem xG.same {h:Nat→qA}{a:kR}{Rn:xC→xC→(Nat→Prop)→World→Prop}(hr:∀ρ ρ' M w,iW ρ ρ' a.src→Rn ρ ρ' M w):xG h a a Rn:=
 ⟨⟨[],by simp⟩,fun ha=>⟨ha,fun ρ ρ' M w _ hc hb=>⟨hb,hr ρ ρ' M w hc⟩⟩⟩
theorem xG.new {h:Nat→qA}{a:kR}{id:Nat}{x:qA}{Rn:xC→xC→(Nat→Prop)→World→Prop}(hf:dC id a.src 0=none)(hx:x.live→kX (h id) x)(hb:∀ρ ρ' M w p,jB ρ M w p (h id)→jB ρ' M w p x)
  (hr:∀(ρ ρ':xC) M w,ρ' a.src.length=ρ id→Rn ρ ρ' M w):xG h a ⟨a.src++[some id],a.blks++[x]⟩ Rn:=
 ⟨⟨[some id],rfl⟩,fun ha=>⟨ha.push hf hx,fun ρ ρ' M w _ hc hk=>⟨hk.push ha (hb ρ ρ' M w),hr ρ ρ' M w (hc.old a.src.length id (by simp))⟩⟩⟩
theorem xG.sameq {h:Nat→qA}{a:kR}{Rn:xC→xC→(Nat→Prop)→World→Prop}(hr:∀ρ ρ' M w,HB h ρ M w→iW ρ ρ' a.src→Rn ρ ρ' M w):xG h a a Rn:=
 ⟨⟨[],by simp⟩,fun ha=>⟨ha,fun ρ ρ' M w hq hc hb=>⟨hb,hr ρ ρ' M w hq hc⟩⟩⟩
theorem xG.newq {h:Nat→qA}{a:kR}{id:Nat}{x:qA}{Rn:xC→xC→(Nat→Prop)→World→Prop}(hf:dC id a.src 0=none)(hx:x.live→kX (h id) x)(hb:∀ρ ρ' M w p,jB ρ M w p (h id)→jB ρ' M w p x)
  (hr:∀(ρ ρ':xC) M w,HB h ρ M w→ρ' a.src.length=ρ id→Rn ρ ρ' M w):xG h a ⟨a.src++[some id],a.blks++[x]⟩ Rn:=
 ⟨⟨[some id],rfl⟩,fun ha=>⟨ha.push hf hx,fun ρ ρ' M w hq hc hk=>⟨hk.push ha (hb ρ ρ' M w),hr ρ ρ' M w hq (hc.old a.src.length id (by simp))⟩⟩⟩
theorem yy {h:Nat→qA}{ρ ρ':xC}{M:Nat→Prop}{w:World}{id j s:Nat}{k:IntKind}{l:List Int}(hid:h id= .ints k l)(hq:HB h ρ M w)(he:ρ' j=ρ id){u:Value}(hr:oA ρ M w (.sw id s) u):oA ρ' M w (.sl j s 0 (gE s l.length)) u:=by
 have hl:∀p,ρ id=some p→l.length=p.n:=fun p hp=>by have:=hq id p (by rw[hid];trivial) (by rw[hid];rfl) hp;rw[hid]at this;exact this.1
 simp only[oA]at hr⊢;obtain⟨h0,⟨b,n,C,cap,h1,h2,h3,h4,h5⟩|⟨h1,h2⟩⟩:=hr
 ·have e1:l.length=n:=hl _ h1;have hn:n/s*s=n:=Nat.div_mul_cancel (w5 h2);refine⟨h0,.inl ⟨b,n,C,cap,by rw[he];exact h1,?_,?_,by omega,?_⟩⟩
  ·rw[mE,e1];omega
  ·rw[mE,e1];exact h3
  ·rw[mE,e1];exact h5
 ·have e1:l.length=0:=hl _ h1;exact⟨h0,.inr ⟨by rw[mE,e1];simp,none,h2⟩⟩
theorem oA.ptr_name {ρ ρ':xC}{M:Nat→Prop}{w:World}{id j off ext:Nat}(h:ρ' j=ρ id){u:Value}(hr:oA ρ M w (.ptr id off ext) u):oA ρ' M w (.ptr j off ext) u:=by
 simp only[oA]at hr⊢;rw[h];exact hr
theorem oA.mref_name {ρ ρ':xC}{M:Nat→Prop}{w:World}{id j:Nat}(h:ρ' j=ρ id){u:Value}(hr:oA ρ M w (.mref id) u):oA ρ' M w (.mref j) u:=by
 simp only[oA]at hr⊢;rw[h];exact hr
theorem oA.sw_name {ρ ρ':xC}{M:Nat→Prop}{w:World}{id j s:Nat}(h:ρ' j=ρ id){u:Value}(hr:oA ρ M w (.sw id s) u):oA ρ' M w (.sw j s) u:=by
 simp only[oA]at hr⊢;rw[h];exact hr
theorem oA.sl_name {ρ ρ':xC}{M:Nat→Prop}{w:World}{id j s off len:Nat}(h:ρ' j=ρ id){u:Value}(hr:oA ρ M w (.sl id s off len) u):oA ρ' M w (.sl j s off len) u:=by
 simp only[oA]at hr⊢;rw[h];exact hr
theorem zI {ρ ρ':xC}{M:Nat→Prop}{w:World}{p:Pl}{k:IntKind}{l:List Int}(h:jB ρ M w p (.ints k l)):jB ρ' M w p (.ints k l):=h
theorem wh {ρ ρ':xC}{M:Nat→Prop}{w:World}{p:Pl}{l:List Bool}(h:jB ρ M w p (.bls l)):jB ρ' M w p (.bls l):=h
theorem Cg {ρ ρ':xC}{M:Nat→Prop}{w:World}{p:Pl}{k:IntKind}{n:Nat}{ks:List (List Int)}{vs:xN}(h:jB ρ M w p (.mp k n ks vs)):jB ρ' M w p (.mp k n ks vs):=h
theorem Cf {ρ ρ':xC}{M:Nat→Prop}{w:World}{p:Pl}{mid j gE:Nat}{rem:List Nat}{cur:Nat}(hj:ρ' j=ρ mid)(h:jB ρ M w p (.it (some mid) gE rem cur)):jB ρ' M w p (.it (some j) gE rem cur):=by
 obtain⟨h1,h2,b,mb,seen,h4,h5,h6,h7⟩:=h;refine⟨h1,h2,b,mb,seen,h4,h5,fun i hi=>?_,h7⟩;simp only[Option.some.injEq]at hi;subst hi;rw[hj];exact h6 mid rfl
theorem yX {ρ ρ':xC}{M:Nat→Prop}{w:World}{p:Pl}{cs:List V}(hc:(iF cs).isEmpty=true)(h:jB ρ M w p (.vals cs)):jB ρ' M w p (.vals cs):=
 h.agree (fun i hi=>absurd hi (cS hc i))
theorem zK {ρ ρ':xC}{src:List (Option Nat)}{id j:Nat}(hf:dC id src 0=some j)(hc:iW ρ ρ' src):ρ' j=ρ id:=hc.old j id (by have:=(eN src 0 j hf).2;simpa using this)
theorem pD:∀(H:List qA) (i j:Nat) (x:qA),i<H.length→(oC H i x)[j]?=if j=i then some x else H[j]?
 | [],_,_,_,h=>by simp at h
 |b::r,0,0,x,_=>by simp[oC]
 |b::r,0,j+1,x,_=>by simp[oC]
 |b::r,n+1,0,x,_=>by simp[oC]
 |b::r,n+1,j+1,x,h=>by simp[oC,pD r n j x (by simpa using h)]
theorem ic {ρ ρ':xC}{M:Nat→Prop}{w:World}{src:List (Option Nat)}(hc:iW ρ ρ' src):∀(vs vs':List V),Al src vs=some vs'→∀us:List Value,mA ρ M w vs us→mA ρ' M w vs' us
 | [],vs',hs,us,hr=>by simp only[Al,Option.some.injEq]at hs;subst hs;cases us<;>simp_all[mA]
 |v::r,vs',hs,us,hr=>by
  cases us with
  |nil=>simp only[mA]at hr
  |cons u us=>
   cases v<;>simp only[Al]at hs<;>try cases hs
   split at hs
   ·rename_i j r' hf hr';simp only[Option.some.injEq]at hs;subst hs;simp only[mA]at hr⊢;exact⟨hr.1.ptr_name (zK hf hc),ic hc r r' hr' us hr.2⟩
   ·cases hs
theorem D0 {h:Nat→qA}{k:IntKind}{s:Nat}{v:V}{a:kR}{v':V}{a':kR}(hs:Cz h k s v a=some (v',a')):xG h a a' (Uu v v'):=by
 unfold Cz at hs;split at hs
 ·simp only[Option.some.injEq,Prod.mk.injEq]at hs;obtain⟨rfl,rfl⟩:=hs;exact .same (fun ρ ρ' M w hc u hr=>by simpa only[oA]using hr)
 ·rename_i id s';obtain⟨h0,h2⟩:=cA hs;clear hs;have hs:=h2;clear h2;have h3:=aB h0;clear h0;subst h3;split at hs
  ·rename_i j hf;simp only[Option.some.injEq,Prod.mk.injEq]at hs;obtain⟨rfl,rfl⟩:=hs;exact .same (fun ρ ρ' M w hc u hr=>hr.sw_name (zK hf hc))
  ·rename_i hf;split at hs
   ·rename_i k' l hid;obtain⟨h1,hs⟩:=cA hs;simp only[Option.some.injEq,Prod.mk.injEq]at hs;obtain⟨rfl,rfl⟩:=hs;exact .new hf (fun _=>.plain hid trivial rfl rfl) (fun ρ ρ' M w p hb=>by rw[hid]at hb;exact zI hb) (fun ρ ρ' M w he u hr=>hr.sw_name he)
   ·cases hs
 ·cases hs
theorem cf {h:Nat→qA}{k:IntKind}{s:Nat}:∀(vs:List V) (a:kR) (vs':List V) (a':kR),dY h k s vs a=some (vs',a')→xG h a a' (Ut vs vs')
 | [],a,vs',a',hs=>by simp only[dY,Option.some.injEq,Prod.mk.injEq]at hs;obtain⟨rfl,rfl⟩:=hs;exact .same (fun ρ ρ' M w hc u hr=>by cases u<;>simp_all[mA])
 |v::vs,a,vs',a',hs=>by
  unfold dY at hs;split at hs
  ·rename_i v1 a1 h1;split at hs
   ·rename_i vs1 a2 h2;simp only[Option.some.injEq,Prod.mk.injEq]at hs;obtain⟨rfl,rfl⟩:=hs;obtain⟨⟨m1,e1⟩,k1⟩:=D0 h1;obtain⟨⟨m2,e2⟩,k2⟩:=cf vs a1 vs1 a2 h2;refine⟨⟨m1++m2,by rw[e2,e1,c0]⟩,fun ha=>?_⟩;obtain⟨p1,p2⟩:=k1 ha;obtain⟨q1,q2⟩:=k2 p1;refine⟨q1,fun ρ ρ' M w hq hc hb=>?_⟩;obtain⟨r1,r2⟩:=p2 ρ ρ' M w hq (by rw[e2]at hc;exact hc.pre) hb;obtain⟨t1,t2⟩:=q2 ρ ρ' M w hq hc r1;refine⟨t1,fun u hr=>?_⟩;cases u with
    |nil=>simp only[mA]at hr
    |cons u us=>simp only[mA]at hr⊢;exact⟨r2 u hr.1,t2 us hr.2⟩
   ·cases hs
  ·cases hs
mutual
theorem Lz {h:Nat→qA}:∀(sh:Sh) (v:V) (a:kR) (v':V) (a':kR),iL h sh v a=some (v',a')→xG h a a' (Uu v v')
 | .any,v,a,v',a',hs=>by
  unfold iL at hs;cases hc:(mK v).isEmpty<;>rw[hc]at hs<;>simp only[cond_true,cond_false]at hs
  ·split at hs
   ·rename_i id off ext;split at hs
    ·rename_i j hf;simp only[Option.some.injEq,Prod.mk.injEq]at hs;obtain⟨rfl,rfl⟩:=hs;exact .same (fun ρ ρ' M w hc u hr=>hr.ptr_name (zK hf hc))
    ·rename_i hf;split at hs
     ·rename_i k l hid;simp only[Option.some.injEq,Prod.mk.injEq]at hs;obtain⟨rfl,rfl⟩:=hs;exact .new hf (fun _=>.plain hid trivial rfl rfl) (fun ρ ρ' M w p hb=>by rw[hid]at hb;exact zI hb) (fun ρ ρ' M w he u hr=>hr.ptr_name he)
     ·rename_i l hid;simp only[Option.some.injEq,Prod.mk.injEq]at hs;obtain⟨rfl,rfl⟩:=hs;exact .new hf (fun _=>.plain hid trivial rfl rfl) (fun ρ ρ' M w p hb=>by rw[hid]at hb;exact wh hb) (fun ρ ρ' M w he u hr=>hr.ptr_name he)
     ·rename_i cs hid;obtain⟨h1,h2⟩:=cA hs;simp only[Option.some.injEq,Prod.mk.injEq]at h2;obtain⟨rfl,rfl⟩:=h2;exact .new hf (fun _=>.plain hid trivial rfl rfl) (fun ρ ρ' M w p hb=>by rw[hid]at hb;exact yX h1 hb) (fun ρ ρ' M w he u hr=>hr.ptr_name he)
     ·cases hs
     ·cases hs
     ·cases hs
     ·rename_i mid gE rem cur hid;split at hs
      ·rename_i j hfm;simp only[Option.some.injEq,Prod.mk.injEq]at hs;obtain⟨rfl,rfl⟩:=hs;refine⟨⟨[some id],rfl⟩,fun ha=>⟨ha.push hf (fun _=>.plain hid trivial rfl rfl),fun ρ ρ' M w _ hc hk=>⟨hk.push ha (fun p hb=>by rw[hid]at hb;exact Cf (zK hfm hc.pre) hb),fun u hr=>hr.ptr_name (hc.old a.src.length id (by simp))⟩⟩⟩
      ·rename_i hfm;split at hs
       ·rename_i k n ks vs hmid;simp only[Option.some.injEq,Prod.mk.injEq]at hs;obtain⟨rfl,rfl⟩:=hs;have hne:mid≠id:=by rintro rfl;rw[hid]at hmid;cases hmid
        have hf2:dC id (a.src++[some mid]) 0=none:=dN hne _ _ hf;refine⟨⟨[some mid]++[some id],by simp⟩,fun ha=>?_⟩;have ha1:wL h ⟨a.src++[some mid],a.blks++[.mp k n ks vs]⟩:=ha.push hfm (fun _=>.plain hmid trivial rfl rfl);refine⟨ha1.push hf2 (fun _=>.plain hid trivial rfl rfl),fun ρ ρ' M w _ hc hk=>⟨?_,fun u hr=>hr.ptr_name (hc.old (a.src.length+1) id (by simp))⟩⟩;have hk1:uJ h ρ ρ' M w ⟨a.src++[some mid],a.blks++[.mp k n ks vs]⟩:=hk.push ha (fun p hb=>by rw[hmid]at hb;exact Cg hb);exact hk1.push ha1 (fun p hb=>by rw[hid]at hb;exact Cf (hc.old a.src.length mid (by simp)) hb)
       ·cases hs
     ·cases hs
   ·rename_i id s;split at hs
    ·rename_i j hf;simp only[Option.some.injEq,Prod.mk.injEq]at hs;obtain⟨rfl,rfl⟩:=hs;exact .same (fun ρ ρ' M w hc u hr=>hr.sw_name (zK hf hc))
    ·rename_i hf;split at hs
     ·rename_i k l hid;simp only[Option.some.injEq,Prod.mk.injEq]at hs;obtain⟨rfl,rfl⟩:=hs;exact .new hf (fun _=>.plain hid trivial rfl rfl) (fun ρ ρ' M w p hb=>by rw[hid]at hb;exact zI hb) (fun ρ ρ' M w he u hr=>hr.sw_name he)
     ·rename_i l hid;simp only[Option.some.injEq,Prod.mk.injEq]at hs;obtain⟨rfl,rfl⟩:=hs;exact .new hf (fun _=>.plain hid trivial rfl rfl) (fun ρ ρ' M w p hb=>by rw[hid]at hb;exact wh hb) (fun ρ ρ' M w he u hr=>hr.sw_name he)
     ·rename_i cs hid;obtain⟨h1,h2⟩:=cA hs;simp only[Option.some.injEq,Prod.mk.injEq]at h2;obtain⟨rfl,rfl⟩:=h2;exact .new hf (fun _=>.plain hid trivial rfl rfl) (fun ρ ρ' M w p hb=>by rw[hid]at hb;exact yX h1 hb) (fun ρ ρ' M w he u hr=>hr.sw_name he)
     ·rename_i k s0 rows hole hid;cases hole with
      |some _=>cases hs
      |none=>
      simp only[Option.some.injEq,Prod.mk.injEq]at hs;obtain⟨rfl,rfl⟩:=hs;exact .new hf (fun _=>.nest hid) (fun ρ ρ' M w p hb=>by rw[hid]at hb;exact hb.elim) (fun ρ ρ' M w he u hr=>hr.sw_name he)
     ·cases hs
     ·cases hs
     ·cases hs
   ·rename_i id s off len;split at hs
    ·rename_i j hf;simp only[Option.some.injEq,Prod.mk.injEq]at hs;obtain⟨rfl,rfl⟩:=hs;exact .same (fun ρ ρ' M w hc u hr=>hr.sl_name (zK hf hc))
    ·rename_i hf;split at hs
     ·rename_i k l hid;simp only[Option.some.injEq,Prod.mk.injEq]at hs;obtain⟨rfl,rfl⟩:=hs;exact .new hf (fun _=>.plain hid trivial rfl rfl) (fun ρ ρ' M w p hb=>by rw[hid]at hb;exact zI hb) (fun ρ ρ' M w he u hr=>hr.sl_name he)
     ·cases hs
     ·rename_i cs hid;obtain⟨h1,h2⟩:=cA hs;simp only[Option.some.injEq,Prod.mk.injEq]at h2;obtain⟨rfl,rfl⟩:=h2;exact .new hf (fun _=>.plain hid trivial rfl rfl) (fun ρ ρ' M w p hb=>by rw[hid]at hb;exact yX h1 hb) (fun ρ ρ' M w he u hr=>hr.sl_name he)
     ·cases hs
     ·cases hs
     ·cases hs
     ·cases hs
   ·rename_i id;split at hs
    ·rename_i j hf;simp only[Option.some.injEq,Prod.mk.injEq]at hs;obtain⟨rfl,rfl⟩:=hs;exact .same (fun ρ ρ' M w hc u hr=>hr.mref_name (zK hf hc))
    ·rename_i hf;split at hs
     ·rename_i k n ks vs hid;simp only[Option.some.injEq,Prod.mk.injEq]at hs;obtain⟨rfl,rfl⟩:=hs;exact .new hf (fun _=>.plain hid trivial rfl rfl) (fun ρ ρ' M w p hb=>by rw[hid]at hb;exact Cg hb) (fun ρ ρ' M w he u hr=>hr.mref_name he)
     ·cases hs
   ·rename_i f va vc;split at hs
    ·rename_i va' vc' ha hc;simp only[Option.some.injEq,Prod.mk.injEq]at hs;obtain⟨rfl,rfl⟩:=hs;refine .same (fun ρ ρ' M w hcons u hr=>?_);simp only[oA]at hr⊢;obtain⟨ua,uc,h1,h2,h3⟩:=hr;exact⟨ua,uc,h1,ic hcons va va' ha _ h2,ic hcons vc vc' hc _ h3⟩
    ·cases hs
   ·cases hs
  ·simp only[Option.some.injEq,Prod.mk.injEq]at hs;obtain⟨rfl,rfl⟩:=hs;exact .same (fun ρ ρ' M w _ u hr=>hr.agree _ _ (fun i hi=>absurd hi (cS hc i)))
 | .row k s,v,a,v',a',hs=>by
  unfold iL at hs;split at hs
  ·obtain⟨h0,hs⟩:=cA hs;have h0:=aC h0;simp only[Option.some.injEq,Prod.mk.injEq]at hs;obtain⟨rfl,rfl⟩:=hs;refine⟨⟨[none],rfl⟩,fun ha=>⟨⟨by simp[ha.len],?_,?_,?_⟩,fun ρ ρ' M w hq hc hb=>⟨?_,?_⟩⟩⟩
   ·intro i j id hi hj;dsimp only at hi hj;rw[iB]at hi hj;split at hi<;>split at hj<;>first
     |exact ha.nodup i j id hi hj
     |(rw[iA]at hi;split at hi<;>simp at hi)
     |(rw[iA]at hj;split at hj<;>simp at hj)
   ·intro j hj;dsimp only at hj⊢;rw[iB]at hj;split at hj
    ·rename_i hlt;obtain⟨k,hk,hho⟩:=ha.virt j hj;exact⟨k,by rw[hN (by rw[←ha.len];exact hlt)];exact hk,hho⟩
    ·rename_i hge;rw[iA]at hj;split at hj
     ·refine⟨.ints k [],?_,.inl ⟨k,rfl⟩⟩;rw[hU (by rw[←ha.len];omega),←ha.len];have:j-a.src.length=0:=by omega
      rw[this];rfl
     ·cases hj
   ·intro j id x hj hx hl;dsimp only at hj hx;rw[iB]at hj hx;rw[←ha.len]at hx;split at hj
    ·rename_i hlt;rw[if_pos hlt]at hx;exact ha.live j id x hj hx hl
    ·rw[iA]at hj;split at hj<;>simp at hj
   ·intro j id x p hj hx hp hr;dsimp only at hj hx;rw[iB]at hj hx;rw[←ha.len]at hx;split at hj
    ·rename_i hlt;rw[if_pos hlt]at hx;exact hb j id x p hj hx hp hr
    ·rw[iA]at hj;split at hj<;>simp at hj
   ·intro u hr;simp only[oA]at hr⊢;exact⟨h0,.inr ⟨hc.nil a.src.length (by simp),hr⟩⟩
  ·rename_i id s';obtain⟨h0,h2⟩:=cA hs;clear hs;have hs:=h2;clear h2;have h3:=aB h0;clear h0;subst h3;split at hs
   ·rename_i j hf;simp only[Option.some.injEq,Prod.mk.injEq]at hs;obtain⟨rfl,rfl⟩:=hs;exact .same (fun ρ ρ' M w hc u hr=>hr.sw_name (zK hf hc))
   ·rename_i hf;split at hs
    ·rename_i k' l hid;obtain⟨h1,hs⟩:=cA hs;simp only[Option.some.injEq,Prod.mk.injEq]at hs;obtain⟨rfl,rfl⟩:=hs;exact .new hf (fun _=>.plain hid trivial rfl rfl) (fun ρ ρ' M w p hb=>by rw[hid]at hb;exact zI hb) (fun ρ ρ' M w he u hr=>hr.sw_name he)
    ·cases hs
  ·cases hs
 | .nrow k s,v,a,v',a',hs=>by
  unfold iL at hs;split at hs
  ·have h0:0<1:=Nat.one_pos;simp only[Option.some.injEq,Prod.mk.injEq]at hs;obtain⟨rfl,rfl⟩:=hs;refine⟨⟨[none],rfl⟩,fun ha=>⟨⟨by simp[ha.len],?_,?_,?_⟩,fun ρ ρ' M w hq hc hb=>⟨?_,?_⟩⟩⟩
   ·intro i j id hi hj;dsimp only at hi hj;rw[iB]at hi hj;split at hi<;>split at hj<;>first
     |exact ha.nodup i j id hi hj
     |(rw[iA]at hi;split at hi<;>simp at hi)
     |(rw[iA]at hj;split at hj<;>simp at hj)
   ·intro j hj;dsimp only at hj⊢;rw[iB]at hj;split at hj
    ·rename_i hlt;obtain⟨k,hk,hho⟩:=ha.virt j hj;exact⟨k,by rw[hN (by rw[←ha.len];exact hlt)];exact hk,hho⟩
    ·rename_i hge;rw[iA]at hj;split at hj
     ·refine⟨.nw k s [] none,?_,.inr ⟨k,s,rfl⟩⟩;rw[hU (by rw[←ha.len];omega),←ha.len];have:j-a.src.length=0:=by omega
      rw[this];rfl
     ·cases hj
   ·intro j id x hj hx hl;dsimp only at hj hx;rw[iB]at hj hx;rw[←ha.len]at hx;split at hj
    ·rename_i hlt;rw[if_pos hlt]at hx;exact ha.live j id x hj hx hl
    ·rw[iA]at hj;split at hj<;>simp at hj
   ·intro j id x p hj hx hp hr;dsimp only at hj hx;rw[iB]at hj hx;rw[←ha.len]at hx;split at hj
    ·rename_i hlt;rw[if_pos hlt]at hx;exact hb j id x p hj hx hp hr
    ·rw[iA]at hj;split at hj<;>simp at hj
   ·intro u hr;simp only[oA]at hr⊢;exact⟨h0,.inr ⟨hc.nil a.src.length (by simp),hr⟩⟩
  ·rename_i id s';obtain⟨h0,h2⟩:=cA hs;clear hs;have hs:=h2;clear h2;have h3:=aB h0;clear h0;subst h3;split at hs
   ·rename_i j hf;simp only[Option.some.injEq,Prod.mk.injEq]at hs;obtain⟨rfl,rfl⟩:=hs;exact .same (fun ρ ρ' M w hc u hr=>hr.sw_name (zK hf hc))
   ·rename_i hf;split at hs
    ·rename_i k' s2 l hid;obtain⟨h1,hs⟩:=cA hs;simp only[Option.some.injEq,Prod.mk.injEq]at hs;obtain⟨rfl,rfl⟩:=hs;exact .new hf (fun _=>.nest hid) (fun ρ ρ' M w p hb=>by rw[hid]at hb;exact hb.elim) (fun ρ ρ' M w he u hr=>hr.sw_name he)
    ·cases hs
  ·cases hs
 | .part k s,v,a,v',a',hs=>by
  unfold iL at hs;split at hs
  ·obtain⟨h0,hs⟩:=cA hs;have h0:=aC h0;simp only[Option.some.injEq,Prod.mk.injEq]at hs;obtain⟨rfl,rfl⟩:=hs;refine⟨⟨[none],rfl⟩,fun ha=>⟨⟨by simp[ha.len],?_,?_,?_⟩,fun ρ ρ' M w hq hc hb=>⟨?_,?_⟩⟩⟩
   ·intro i j id hi hj;dsimp only at hi hj;rw[iB]at hi hj;split at hi<;>split at hj<;>first
     |exact ha.nodup i j id hi hj
     |(rw[iA]at hi;split at hi<;>simp at hi)
     |(rw[iA]at hj;split at hj<;>simp at hj)
   ·intro j hj;dsimp only at hj⊢;rw[iB]at hj;split at hj
    ·rename_i hlt;obtain⟨k,hk,hho⟩:=ha.virt j hj;exact⟨k,by rw[hN (by rw[←ha.len];exact hlt)];exact hk,hho⟩
    ·rename_i hge;rw[iA]at hj;split at hj
     ·refine⟨.ints k [],?_,.inl ⟨k,rfl⟩⟩;rw[hU (by rw[←ha.len];omega),←ha.len];have:j-a.src.length=0:=by omega
      rw[this];rfl
     ·cases hj
   ·intro j id x hj hx hl;dsimp only at hj hx;rw[iB]at hj hx;rw[←ha.len]at hx;split at hj
    ·rename_i hlt;rw[if_pos hlt]at hx;exact ha.live j id x hj hx hl
    ·rw[iA]at hj;split at hj<;>simp at hj
   ·intro j id x p hj hx hp hr;dsimp only at hj hx;rw[iB]at hj hx;rw[←ha.len]at hx;split at hj
    ·rename_i hlt;rw[if_pos hlt]at hx;exact hb j id x p hj hx hp hr
    ·rw[iA]at hj;split at hj<;>simp at hj
   ·intro u hr;simp only[oA]at hr⊢;exact⟨h0,.inr ⟨trivial,none,hr⟩⟩
  ·rename_i id s';obtain⟨h0,h2⟩:=cA hs;clear hs;have hs:=h2;clear h2;have h3:=aB h0;clear h0;subst h3;split at hs
   ·rename_i k' l hid;obtain⟨h1,hs2⟩:=cA hs;clear hs;have hs:=hs2;clear hs2;split at hs
    ·rename_i j hf;simp only[Option.some.injEq,Prod.mk.injEq]at hs;obtain⟨rfl,rfl⟩:=hs;exact .sameq (fun ρ ρ' M w hq hc u hr=>yy hid hq (zK hf hc) hr)
    ·rename_i hf;simp only[Option.some.injEq,Prod.mk.injEq]at hs;obtain⟨rfl,rfl⟩:=hs;exact .newq hf (fun _=>.plain hid trivial rfl rfl) (fun ρ ρ' M w p hb=>by rw[hid]at hb;exact zI hb) (fun ρ ρ' M w hq he u hr=>yy hid hq he hr)
   ·cases hs
  ·rename_i id s' off len;obtain⟨h0,h2⟩:=cA hs;clear hs;have hs:=h2;clear h2;split at hs
   ·rename_i k' l hid;obtain⟨h1,hs2⟩:=cA hs;clear hs;have hs:=hs2;clear hs2;split at hs
    ·rename_i j hf;simp only[Option.some.injEq,Prod.mk.injEq]at hs;obtain⟨rfl,rfl⟩:=hs;exact .same (fun ρ ρ' M w hc u hr=>hr.sl_name (zK hf hc))
    ·rename_i hf;simp only[Option.some.injEq,Prod.mk.injEq]at hs;obtain⟨rfl,rfl⟩:=hs;exact .new hf (fun _=>.plain hid trivial rfl rfl) (fun ρ ρ' M w p hb=>by rw[hid]at hb;exact zI hb) (fun ρ ρ' M w he u hr=>hr.sl_name he)
   ·cases hs
  ·cases hs
 | .il k s,v,a,v',a',hs=>by
  unfold iL at hs;split at hs
  ·obtain⟨h0,hs⟩:=cA hs;have h0:=aC h0;simp only[Option.some.injEq,Prod.mk.injEq]at hs;obtain⟨rfl,rfl⟩:=hs;refine .same (fun ρ ρ' M w hc u hr=>?_);simp only[oA]at hr⊢;exact⟨h0,by simp,.inl ⟨trivial,none,hr⟩⟩
  ·obtain⟨h0,hs⟩:=cA hs;simp only[Option.some.injEq,Prod.mk.injEq]at hs;obtain⟨rfl,rfl⟩:=hs;exact .same (fun ρ ρ' M w hc u hr=>by simpa only[oA]using hr)
  ·cases hs
 | .inl k s,v,a,v',a',hs=>by
  unfold iL at hs;split at hs
  ·obtain⟨h0,hs⟩:=cA hs;simp only[Option.some.injEq,Prod.mk.injEq]at hs;obtain⟨rfl,rfl⟩:=hs;refine .same (fun ρ ρ' M w hc u hr=>?_);simp only[oA]at hr⊢;exact .inl ⟨trivial,none,hr⟩
  ·obtain⟨h0,hs⟩:=cA hs;simp only[Option.some.injEq,Prod.mk.injEq]at hs;obtain⟨rfl,rfl⟩:=hs;exact .same (fun ρ ρ' M w hc u hr=>by simpa only[oA]using hr)
  ·cases hs
 | .box ss,v,a,v',a',hs=>by
  unfold iL at hs;split at hs
  ·rename_i id off ext;split at hs
   ·rename_i j hf;simp only[Option.some.injEq,Prod.mk.injEq]at hs;obtain⟨rfl,rfl⟩:=hs;exact .same (fun ρ ρ' M w hc u hr=>hr.ptr_name (zK hf hc))
   ·rename_i hf;split at hs
    ·rename_i cs hid;split at hs
     ·rename_i cs' a1 hL;simp only[Option.some.injEq,Prod.mk.injEq]at hs;obtain⟨rfl,rfl⟩:=hs;obtain⟨⟨more,hm⟩,hk⟩:=mG ss cs _ cs' a1 hL;refine⟨⟨[some id]++more,by rw[hm];simp⟩,fun ha=>?_⟩;obtain⟨k1,k2⟩:=hk (ha.push hf (fun hx=>hx.elim));have hsrc:a1.src[a.src.length]?=some (some id):=by rw[hm];simp
      have hlt:a.src.length<a1.blks.length:=by rw[←k1.len,hm];simp
      refine⟨⟨by rw[wB];exact k1.len,k1.nodup,?_,?_⟩,fun ρ ρ' M w hq hc hb=>?_⟩
      ·intro j hj;obtain⟨k,hk,hho⟩:=k1.virt j hj;refine⟨k,?_,hho⟩;dsimp only at hj⊢;rw[pD _ _ _ _ hlt,if_neg (fun e=>by subst e;rw[hsrc]at hj;cases hj)];exact hk
      ·intro j id' x hj hx hl;dsimp only at hj hx;rw[pD _ _ _ _ hlt]at hx;split at hx
       ·rename_i e;subst e;rw[hsrc]at hj;simp only[Option.some.injEq]at hj hx;subst hj;subst hx;exact .plain hid trivial rfl rfl
       ·exact k1.live j id' x hj hx hl
      ·obtain⟨b1,b2⟩:=k2 ρ ρ' M w hq hc (hb.push ha (fun p _=>trivial));refine⟨?_,fun u hr=>hr.ptr_name (hc.old _ _ hsrc)⟩;intro j id' x p hj hx hp hr;dsimp only at hj hx;rw[pD _ _ _ _ hlt]at hx;split at hx
       ·rename_i e;subst e;rw[hsrc]at hj;simp only[Option.some.injEq]at hj hx;subst hj;subst hx;rw[hid]at hr;obtain⟨h1,⟨h2,h3,h4⟩|⟨b,c,h2,h3,h4,h5⟩⟩:=hr
        ·subst h3;have:=b2 [] (by simp only[mA]);cases cs' with
         |nil=>exact⟨h1,.inl ⟨h2,rfl,h4⟩⟩
         |cons=>simp only[mA]at this
        ·have:=b2 _ h5;exact⟨by rw[←h1,this.length,h5.length],.inr ⟨b,c,h2,h3,h4,this⟩⟩
       ·exact b1 j id' x p hj hx hp hr
     ·cases hs
    ·cases hs
  ·cases hs
 | .vrow ss,v,a,v',a',hs=>by
  unfold iL at hs;split at hs
  ·rename_i id w0;split at hs
   ·rename_i j hf;simp only[Option.some.injEq,Prod.mk.injEq]at hs;obtain⟨rfl,rfl⟩:=hs;exact .same (fun ρ ρ' M w hc u hr=>hr.sw_name (zK hf hc))
   ·rename_i hf;split at hs
    ·rename_i cs hid;split at hs
     ·rename_i cs' a1 hL;simp only[Option.some.injEq,Prod.mk.injEq]at hs;obtain⟨rfl,rfl⟩:=hs;obtain⟨⟨more,hm⟩,hk⟩:=mG ss cs _ cs' a1 hL;refine⟨⟨[some id]++more,by rw[hm];simp⟩,fun ha=>?_⟩;obtain⟨k1,k2⟩:=hk (ha.push hf (fun hx=>hx.elim));have hsrc:a1.src[a.src.length]?=some (some id):=by rw[hm];simp
      have hlt:a.src.length<a1.blks.length:=by rw[←k1.len,hm];simp
      refine⟨⟨by rw[wB];exact k1.len,k1.nodup,?_,?_⟩,fun ρ ρ' M w hq hc hb=>?_⟩
      ·intro j hj;obtain⟨k,hk,hho⟩:=k1.virt j hj;refine⟨k,?_,hho⟩;dsimp only at hj⊢;rw[pD _ _ _ _ hlt,if_neg (fun e=>by subst e;rw[hsrc]at hj;cases hj)];exact hk
      ·intro j id' x hj hx hl;dsimp only at hj hx;rw[pD _ _ _ _ hlt]at hx;split at hx
       ·rename_i e;subst e;rw[hsrc]at hj;simp only[Option.some.injEq]at hj hx;subst hj;subst hx;exact .plain hid trivial rfl rfl
       ·exact k1.live j id' x hj hx hl
      ·obtain⟨b1,b2⟩:=k2 ρ ρ' M w hq hc (hb.push ha (fun p _=>trivial));refine⟨?_,fun u hr=>hr.sw_name (hc.old _ _ hsrc)⟩;intro j id' x p hj hx hp hr;dsimp only at hj hx;rw[pD _ _ _ _ hlt]at hx;split at hx
       ·rename_i e;subst e;rw[hsrc]at hj;simp only[Option.some.injEq]at hj hx;subst hj;subst hx;rw[hid]at hr;obtain⟨h1,⟨h2,h3,h4⟩|⟨b,c,h2,h3,h4,h5⟩⟩:=hr
        ·subst h3;have:=b2 [] (by simp only[mA]);cases cs' with
         |nil=>exact⟨h1,.inl ⟨h2,rfl,h4⟩⟩
         |cons=>simp only[mA]at this
        ·have:=b2 _ h5;exact⟨by rw[←h1,this.length,h5.length],.inr ⟨b,c,h2,h3,h4,this⟩⟩
       ·exact b1 j id' x p hj hx hp hr
     ·cases hs
    ·cases hs
  ·cases hs
 | .vrows k0 s0,v,a,v',a',hs=>by
  unfold iL at hs;split at hs
  ·simp only[Option.some.injEq,Prod.mk.injEq]at hs;obtain⟨rfl,rfl⟩:=hs;exact .same (fun ρ ρ' M w hc u hr=>by simpa only[oA]using hr)
  ·rename_i id w0;split at hs
   ·rename_i j hf;simp only[Option.some.injEq,Prod.mk.injEq]at hs;obtain⟨rfl,rfl⟩:=hs;exact .same (fun ρ ρ' M w hc u hr=>hr.sw_name (zK hf hc))
   ·rename_i hf;split at hs
    ·rename_i cs hid;split at hs
     ·rename_i cs' a1 hL;simp only[Option.some.injEq,Prod.mk.injEq]at hs;obtain⟨rfl,rfl⟩:=hs;obtain⟨⟨more,hm⟩,hk⟩:=cf cs _ cs' a1 hL;refine⟨⟨[some id]++more,by rw[hm];simp⟩,fun ha=>?_⟩;obtain⟨k1,k2⟩:=hk (ha.push hf (fun hx=>hx.elim));have hsrc:a1.src[a.src.length]?=some (some id):=by rw[hm];simp
      have hlt:a.src.length<a1.blks.length:=by rw[←k1.len,hm];simp
      refine⟨⟨by rw[wB];exact k1.len,k1.nodup,?_,?_⟩,fun ρ ρ' M w hq hc hb=>?_⟩
      ·intro j hj;obtain⟨k,hk,hho⟩:=k1.virt j hj;refine⟨k,?_,hho⟩;dsimp only at hj⊢;rw[pD _ _ _ _ hlt,if_neg (fun e=>by subst e;rw[hsrc]at hj;cases hj)];exact hk
      ·intro j id' x hj hx hl;dsimp only at hj hx;rw[pD _ _ _ _ hlt]at hx;split at hx
       ·rename_i e;subst e;rw[hsrc]at hj;simp only[Option.some.injEq]at hj hx;subst hj;subst hx;exact .plain hid trivial rfl rfl
       ·exact k1.live j id' x hj hx hl
      ·obtain⟨b1,b2⟩:=k2 ρ ρ' M w hq hc (hb.push ha (fun p _=>trivial));refine⟨?_,fun u hr=>hr.sw_name (hc.old _ _ hsrc)⟩;intro j id' x p hj hx hp hr;dsimp only at hj hx;rw[pD _ _ _ _ hlt]at hx;split at hx
       ·rename_i e;subst e;rw[hsrc]at hj;simp only[Option.some.injEq]at hj hx;subst hj;subst hx;rw[hid]at hr;obtain⟨h1,⟨h2,h3,h4⟩|⟨b,c,h2,h3,h4,h5⟩⟩:=hr
        ·subst h3;have:=b2 [] (by simp only[mA]);cases cs' with
         |nil=>exact⟨h1,.inl ⟨h2,rfl,h4⟩⟩
         |cons=>simp only[mA]at this
        ·have:=b2 _ h5;exact⟨by rw[←h1,this.length,h5.length],.inr ⟨b,c,h2,h3,h4,this⟩⟩
       ·exact b1 j id' x p hj hx hp hr
     ·cases hs
    ·cases hs
  ·cases hs
 | .fnc ss,v,a,v',a',hs=>by
  unfold iL at hs;split at hs
  ·rename_i f cs;split at hs
   ·rename_i cs' a1 hL;simp only[Option.some.injEq,Prod.mk.injEq]at hs;obtain⟨rfl,rfl⟩:=hs;obtain⟨h1,h2⟩:=mG ss cs a cs' a1 hL;refine⟨h1,fun ha=>?_⟩;obtain⟨h3,h4⟩:=h2 ha;refine⟨h3,fun ρ ρ' M w hq hc hb=>?_⟩;obtain⟨h5,h6⟩:=h4 ρ ρ' M w hq hc hb;refine⟨h5,fun u hr=>?_⟩;simp only[oA]at hr⊢;obtain⟨ua,uc,g1,g2,g3⟩:=hr;refine⟨ua,uc,g1,?_,h6 _ g3⟩;cases hx:ua.toList with
    |nil=>simp only[mA]
    |cons y r=>rw[hx]at g2;simp only[mA]at g2
   ·cases hs
  ·cases hs
 | .recd ss,v,a,v',a',hs=>by
  unfold iL at hs;split at hs
  ·rename_i cs;split at hs
   ·rename_i cs' a1 hL;simp only[Option.some.injEq,Prod.mk.injEq]at hs;obtain⟨rfl,rfl⟩:=hs;obtain⟨h1,hk⟩:=mG ss cs a cs' a1 hL;refine⟨h1,fun ha=>⟨(hk ha).1,fun ρ ρ' M w hq hc hb=>⟨((hk ha).2 ρ ρ' M w hq hc hb).1,fun u hr=>?_⟩⟩⟩;simp only[oA]at hr⊢;obtain⟨vs,e,hr⟩:=hr;exact⟨vs,e,((hk ha).2 ρ ρ' M w hq hc hb).2 _ hr⟩
   ·cases hs
  ·cases hs
 | .tup ss,v,a,v',a',hs=>by
  unfold iL at hs;split at hs
  ·rename_i cs;split at hs
   ·rename_i cs' a1 hL;simp only[Option.some.injEq,Prod.mk.injEq]at hs;obtain⟨rfl,rfl⟩:=hs;obtain⟨h1,hk⟩:=mG ss cs a cs' a1 hL;refine⟨h1,fun ha=>⟨(hk ha).1,fun ρ ρ' M w hq hc hb=>⟨((hk ha).2 ρ ρ' M w hq hc hb).1,fun u hr=>?_⟩⟩⟩;simp only[oA]at hr⊢;obtain⟨vs,e,hr⟩:=hr;exact⟨vs,e,((hk ha).2 ρ ρ' M w hq hc hb).2 _ hr⟩
   ·cases hs
  ·cases hs
theorem mG {h:Nat→qA}:∀(ss:List Sh) (vs:List V) (a:kR) (vs':List V) (a':kR),aI h ss vs a=some (vs',a')→xG h a a' (Ut vs vs')
 | [],[],a,vs',a',hs=>by simp only[aI,Option.some.injEq,Prod.mk.injEq]at hs;obtain⟨rfl,rfl⟩:=hs;exact .same (fun ρ ρ' M w hc u hr=>by cases u<;>simp_all[mA])
 |s::ss,v::vs,a,vs',a',hs=>by
  unfold aI at hs;split at hs
  ·rename_i v1 a1 h1;split at hs
   ·rename_i vs1 a2 h2;simp only[Option.some.injEq,Prod.mk.injEq]at hs;obtain⟨rfl,rfl⟩:=hs;obtain⟨⟨m1,e1⟩,k1⟩:=Lz s v a v1 a1 h1;obtain⟨⟨m2,e2⟩,k2⟩:=mG ss vs a1 vs1 a2 h2;refine⟨⟨m1++m2,by rw[e2,e1,c0]⟩,fun ha=>?_⟩;obtain⟨p1,p2⟩:=k1 ha;obtain⟨q1,q2⟩:=k2 p1;refine⟨q1,fun ρ ρ' M w hq hc hb=>?_⟩;obtain⟨r1,r2⟩:=p2 ρ ρ' M w hq (by rw[e2]at hc;exact hc.pre) hb;obtain⟨t1,t2⟩:=q2 ρ ρ' M w hq hc r1;refine⟨t1,fun u hr=>?_⟩;cases u with
    |nil=>simp only[mA]at hr
    |cons u us=>simp only[mA]at hr⊢;exact⟨r2 u hr.1,t2 us hr.2⟩
   ·cases hs
  ·cases hs
 | [],_::_,a,vs',a',hs=>by simp[aI]at hs
 |_::_,[],a,vs',a',hs=>by simp[aI]at hs
end
theorem cT:∀(H:List qA) (i:Nat) (x:qA) (j:Nat),(oC H i x)[j]?=H[j]?∨(oC H i x)[j]?=some x
 | [],_,_,_=>.inl (by simp[oC])
 |b::r,0,x,0=>.inr (by simp[oC])
 |b::r,0,x,j+1=>.inl (by simp[oC])
 |b::r,n+1,x,0=>.inl (by simp[oC])
 |b::r,n+1,x,j+1=>by simpa[oC]using cT r n x j
theorem dS:∀(bsh:List (Nat×List Sh)) (H:List qA),(fM bsh H).length=H.length
 | [],_=>rfl
 |p::r,H=>by simp only[fM];rw[dS r,wB]
theorem qV:∀(bsh:List (Nat×List Sh)) (H:List qA) (j:Nat),(fM bsh H)[j]?=H[j]?∨(fM bsh H)[j]?=some .dead
 | [],_,_=>.inl rfl
 |p::r,H,j=>by
  simp only[fM];rcases qV r (oC H p.1 .dead) j with h|h
  ·rcases cT H p.1 .dead j with g|g
   ·exact .inl (h.trans g)
   ·exact .inr (h.trans g)
  ·exact .inr h
theorem fa {h:Nat→qA}:∀(bsh:List (Nat×List Sh)) (a a':kR),s6 h bsh a=some a'→(∃more,a'.src=a.src++more)∧(wL h a→(∀p∈bsh,a.src[p.1]?=some (some p.1))→wL h a'∧∀ρ ρ' M w,HB h ρ M w→iW ρ ρ' a'.src→uJ h ρ ρ' M w a→uJ h ρ ρ' M w a')
 | [],a,a',hs=>by simp only[s6,Option.some.injEq]at hs;subst hs;exact⟨⟨[],by simp⟩,fun ha _=>⟨ha,fun ρ ρ' M w _ _ hb=>hb⟩⟩
 |(i,ss)::r,a,a',hs=>by
  simp only[s6]at hs;split at hs
  ·rename_i cs hid;split at hs
   ·rename_i cs' a1 hL;obtain⟨⟨m1,e1⟩,hk⟩:=mG ss cs a cs' a1 hL;obtain⟨⟨m2,e2⟩,hk2⟩:=fa r _ a' hs;dsimp only at e2;refine⟨⟨m1++m2,by rw[e2,e1,c0]⟩,fun ha hp=>?_⟩;obtain⟨k1,k2⟩:=hk ha;have hi:=hp (i,ss) (by simp);dsimp only at hi;have hilt:i<a.src.length:=(zE.mp hi).1;have hsrc:a1.src[i]?=some (some i):=by rw[e1,hN hilt];exact hi
    have hlt:i<a1.blks.length:=by rw[←k1.len,e1];simp;omega
    have hA2:wL h ⟨a1.src,oC a1.blks i (.vals cs')⟩:=by
     refine⟨by rw[wB];exact k1.len,k1.nodup,?_,?_⟩
     ·intro j hj;obtain⟨k,hk,hho⟩:=k1.virt j hj;refine⟨k,?_,hho⟩;dsimp only at hj⊢;rw[pD _ _ _ _ hlt,if_neg (fun e=>by subst e;rw[hsrc]at hj;cases hj)];exact hk
     ·intro j id' x hj hx hl;dsimp only at hj hx;rw[pD _ _ _ _ hlt]at hx;split at hx
      ·rename_i e;subst e;rw[hsrc]at hj;simp only[Option.some.injEq]at hj hx;subst hj;subst hx;exact .plain hid trivial rfl rfl
      ·exact k1.live j id' x hj hx hl
    obtain⟨q1,q2⟩:=hk2 hA2 (fun p hpr=>by have h0:=hp p (e0 _ hpr);have hlt0:p.1<a.src.length:=(zE.mp h0).1;dsimp only;rw[e1,hN hlt0];exact h0);refine⟨q1,fun ρ ρ' M w hq hc hb=>q2 ρ ρ' M w hq hc ?_⟩;obtain⟨b1,b2⟩:=k2 ρ ρ' M w hq (by rw[e2]at hc;exact hc.pre) hb;intro j id' x p hj hx hp hr;dsimp only at hj hx;rw[pD _ _ _ _ hlt]at hx;split at hx
    ·rename_i e;subst e;rw[hsrc]at hj;simp only[Option.some.injEq]at hj hx;subst hj;subst hx;rw[hid]at hr;obtain⟨h1,⟨h2,h3,h4⟩|⟨b,c,h2,h3,h4,h5⟩⟩:=hr
     ·subst h3;have:=b2 [] (by simp only[mA]);cases cs' with
      |nil=>exact⟨h1,.inl ⟨h2,rfl,h4⟩⟩
      |cons=>simp only[mA]at this
     ·have:=b2 _ h5;exact⟨by rw[←h1,this.length,h5.length],.inr ⟨b,c,h2,h3,h4,this⟩⟩
    ·exact b1 j id' x p hj hx hp hr
   ·cases hs
  ·cases hs
end Go.Proofs.YteaakcmkpacpaaaGreat.Ev
