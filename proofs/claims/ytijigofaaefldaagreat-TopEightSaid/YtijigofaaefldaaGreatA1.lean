import Derived.Test.YtijigofaaefldaaGreatA0
import Derived.OrdersIn
import Derived.Orders
import Derived.LoopN
import Derived.Scope
import Derived.KernelRfl
import Derived.RangeFuncRecord
import Derived.Shelf.SlSortCmp.NoneTotal
open Option.some renaming injEq→hC,inj→o4
open Prod.mk renaming injEq→hG
open List renaming getD_eq_getElem?_getD→xK,getElem?_singleton→yK,getElem?_eq_getElem→hN,mem_cons→hZ,mem_append→n0,getElem?_append→o0,map_cons→p0,getElem?_eq_none→r0,getElem?_append_left→u0,all_eq_true→x0,getElem?_eq_some_iff→y0,mem_of_getElem?→x1,getElem?_take_of_lt→y1,map_congr_left→n3,getElem?_append_right→w3,length_cons→x3,getElem?_take→b4,length_map→e4,append_assoc→j4,mem_filter→n4,mem_cons_of_mem→b5,cons_append→c5,getElem?_drop→l5,getElem?_map→n5,size_toArray→s5,replicate→w5,singleton_append→x5,mem_iff_getElem→a6,mem_map_of_mem→c6,nil_append→e6,mem_range→l6,flatMap_cons→p6,sublist_cons_self→s6,mem_append_right→x6,length_nil→b7,map_map→c7,mem_append_left→e7,mem_map→k7,nodup_cons→l7,pairwise_append→p7,eq_nil_of_length_eq_zero→x7,filter_eq_self→y7,length_append→b8,pairwise_cons→c8,ext_getElem?→e8,reverse_cons→k8,any_eq_true→x8,getElem_mem→y8,map_nil→b9,not_mem_nil→c9,getElem?_replicate→k9,map_append→l9,range_succ_eq_map→r9,getElem?_toArray→bc,length_replicate→bd,length_singleton→bm,filterMap_cons→cu,getElem?_range→cv
open Bool renaming and_eq_true→hP,not_eq_true'→w4,false_eq_true→a8
open Array renaming getD_eq_getD_getElem?→q0,getElem?_toList→x2,getElem?_eq_some_iff→u3,getElem?_append_left→u4,getElem?_replicate→j6,getElem?_modify→w6,eq_empty_of_size_eq_zero→a7,getElem?_eq_getElem→r8,toList_inj→s8,getElem?_append→ba,size_replicate→cb,toArray_toList→cq
open Nat renaming lt_of_lt_of_le→y2,le_refl→l4,lt_or_ge→e5,zero_add→j5,mul_div_cancel→k6,le_add_right→e9,div_one→x9,dvd_of_mod_eq_zero→y9,add_mul_div_right→bq,le_trans→cx,zero_le→cy
open Option renaming getD_some→b6
open Go.Sem renaming run_bind→s7,run_pure→w7
open Go.Result renaming andThen_ok→l8
set_option linter.unusedVariables false
set_option linter.unusedSimpArgs false
namespace Go.Proofs.YtijigofaaefldaaGreat.Ev
section
variable {P:Program}{F:Nat→Prop}{ρ:fC}{h:Nat→oA}{w:World}{nid:Nat}{ty:Nat→Option TI}{ev:Operand→V}{ae:Operand→Value}{out:jJ}{M:Nat→Prop}
theorem yI {y:V}{tc:List Nat}{v:Value}{s:Sem Value}(hh:lA F ρ h w)(hr:s.run P w= .ok v w)(hv:nA ρ (av F (gA ρ h)) w y v):gF F ρ h w nid {val:=y,touch:=tc} ((do pure (.value (←s)):Sem Next).run P w):=
 gF.pure hh (v:=v) (by simp[hr]) hv
theorem iA.map_ev (he:∀x,nA ρ M w (ev x) (ae x)):∀(xs:List Operand),iA ρ M w (xs.map ev) (xs.map ae)
 | []=>by simp[iA]
 |x::xs=>by simp only[p0,iA];exact⟨he x,iA.map_ev he xs⟩
theorem si {ti:TI}{c:Array Value}(h:iA ρ M w (bH ti) c.toList):rC ρ M w (bH ti).length c (lq ti):=by
 have hv:rC ρ M w (bH ti).length c (.vals (bH ti)):=by have hlen:=h.length;refine⟨rfl,by simp at hlen;omega,?_⟩;rw[List.take_of_length_le (by simp at hlen⊢;omega)];exact h
 unfold lq;split
 ·split
  ·rename_i hm;exact jl hm h
  ·exact hv
 ·exact hv
theorem Gy {g s:Nat}{pg:Pl}{u:Value}(hp:ρ g=some pg)(hu:nA ρ M w (.sw g s) u):0<s∧Hn ⟨pg.blk,pg.n,pg.C⟩ s u:=by
 simp only[nA]at hu;obtain⟨h0,⟨b,n,C,R,cap,q1,q2,q3,q4,q5⟩|⟨R,q1,q2⟩⟩:=hu
 ·rw[hp]at q1;obtain rfl:=o4 q1;exact⟨h0,.inl ⟨b,cap,rfl,q2,q3,q4,q5⟩⟩
 ·rw[hp]at q1;obtain rfl:=o4 q1;exact⟨h0,.inr ⟨rfl,rfl,q2⟩⟩
theorem km {c:Array Value}{u:Value}(h:c[0]?=some u):c.toList.take 1=[u]:=by
 cases c with|mk cl=>cases cl with
  |nil=>simp at h
  |cons y r=>simpa using h
theorem lr {ts:Array TypeId}{e:Nat}{te:TI}(hat:wx P ts e te)(hh:lA F ρ h w){d s:V}{vd vx:Value}(hd:nA ρ (av F (gA ρ h)) w d vd)(hx:nA ρ (av F (gA ρ h)) w s vx)
  (ha:sJ te h nid d s=some (true,out))(hn:∀id,nid≤id→id<nid+out.new.length→ρ id=none)(t':TypeId)(cs:Array Bool):
  gF F ρ h w nid out ((builtin .append ts t' cs [vd,vx].toArray).run P w):=by
 have run_eq:∀{v:Value} {w':World},(Builtin.append_ ts t' #[vd,vx]).run P w= .ok v w'→(builtin .append ts t' cs [vd,vx].toArray).run P w= .ok (.value v) w':=by intro v w' h1;simp[builtin,h1]
 unfold sJ at ha;split at ha
 ·rename_i ids w1;split at ha
  ·rename_i g w0 hids;split at ha
   ·rename_i r hrk;split at ha
    ·rename_i l hrow;obtain⟨hg,ha2⟩:=eA ha;clear ha;obtain⟨hg1,hg2⟩:=gB hg;obtain⟨hg3,hg4⟩:=gB hg1;obtain⟨hg5,hg6⟩:=gB hg2;have hw1:=yA hg3;have hsz:=yA hg4;have hw0:=yA hg5;have hgi:g≠ids:=fun e=>by subst e;simp at hg6
     subst hw1;subst hw0;obtain⟨hgf,hgl⟩:=vY hrow;obtain⟨pg,hpg,_⟩:=hh.rel g hgl;obtain⟨m,us,m1,m2,m3,m4,m5⟩:=cV (P:=P) hh (by omega) hx (s:=1) (l:=[.sw g r.w]) (tc:=[ids]) (by simp[zJ,jw,hids,sQ]);have hul:=m3.length;simp at m2 hul;subst m2;obtain⟨u,rfl⟩:∃u,us=[u]:=by
      cases us with
      |nil=>simp at hul
      |cons u r=>cases r with
       |nil=>exact⟨u,rfl⟩
       |cons _ _=>simp at hul
     simp only[iA,and_true]at m3;obtain⟨hs0,hrv⟩:=Gy hpg m3;have hsrc:Fy P w te.size 1 vx [u]:=⟨m1,by rw[hsz];rfl,m4,by rw[hsz];exact m5⟩
     split at ha2
     ·simp only[hC,hG]at ha2;obtain⟨g1,g2⟩:=ha2;have:=hd.c;subst this;subst g2;have hn1:=hn (nid+1) (by omega) (by simp);have hn0:=hn nid (l4 _) (by simp);have gn:g≠nid:=fun e=>by subst e;rw[hpg]at hn0;cases hn0
      have gn1:g≠nid+1:=fun e=>by subst e;rw[hpg]at hn1;cases hn1
      obtain⟨v1,v2⟩:=hh.virtual (nid:=nid+1) hn1 (x:=.pool r []) ⟨rfl,rfl,rfl,rfl,fun q pl l hq=>by simp at hq,fun q q' pl pl' b hq=>by simp at hq⟩;have sub1:iI ρ (fE ρ (nid+1) ⟨none,0,0,[]⟩):=qF hn1;generalize hρ1:fE ρ (nid+1) ⟨none,0,0,[]⟩=ρ1 at v1 v2 sub1;have hρ1g:ρ1 g=some pg:=by rw[←hρ1,tC _ gn1];exact hpg
      have hρ1p:ρ1 (nid+1)=some ⟨none,0,0,[]⟩:=by rw[←hρ1];exact lC _ _
      obtain⟨s1,s2,s3⟩:=v1.absorb (pid:=nid+1) (g:=g) (r:=r) (rows:=[]) (l:=l) (sB _ _) hρ1p (by rw[zB _ gn1];exact hrow) hρ1g;simp only[e6]at s1 s2 s3;generalize hρ2:fE ρ1 (nid+1) ⟨none,0,0,[⟨pg.blk,pg.n,pg.C⟩]⟩=ρ2 at s1 s2 s3;have hρ2n:ρ2 nid=none:=by rw[←hρ2,tC _ (by omega),←hρ1,tC _ (by omega)];exact hn0
      have hrel:nA ρ2 (av F (gA ρ2 (oB (oB (oB h (nid+1) (.pool r [])) g .dead) (nid+1) (.pool r [l])))) w (.rp (nid+1) 0 r.w) u:=by simp only[nA];exact⟨hs0,_,_,by rw[←hρ2];exact lC _ _,rfl,hrv⟩
      obtain⟨v,w',ρ',r1,r2,r3,r4,r5,r6⟩:=xM hat t' s2 hρ2n hsrc g1 (x:=.po r.w (nid+1) [0]) (fun e=>by cases e) (fun c a1 a2=>by refine⟨rfl,a1,?_⟩;rw[bm,km (a2 0 (by simp))];simp only[cL,p0,b9,iA,and_true];exact hrel);rw[hsz]at r5;have eo:cJ h nid {val:=.sw nid 1,wr:=[(g,.dead)],new:=[.po r.w (nid+1) [0],.pool r [l]],touch:=[ids,g]}=oB (oB (oB (oB h (nid+1) (.pool r [])) g .dead) (nid+1) (.pool r [l])) nid (.po r.w (nid+1) [0]):=by
       show pe (oB h g .dead) nid [_,_]=_;rw[C6];funext j;simp only[oB];by_cases j1:j=nid
       ·simp[j1]
       ·by_cases j2:j=nid+1
        ·simp[j2]
        ·by_cases j3:j=g
         ·subst j3;simp[j1,j2]
         ·simp[j1,j2,j3]
      refine⟨v,w',ρ',.inl (run_eq r1),(sub1.trans s1).trans r2,fun id hid hno=>?_,by rw[eo];exact r4,by rw[eo];exact r5,by rw[eo];exact(v2.trans s3).trans r6⟩;simp only[x3,b7]at hid;rw[r3 id (by omega),←hρ2,tC _ (by omega),←hρ1,tC _ (by omega)];exact hno
     ·rename_i id w2;split at ha2
      ·rename_i w' pid π hid;split at ha2
       ·rename_i r' rows hpool;split at ha2
        ·rename_i l' hrow';obtain⟨hq,ha3⟩:=eA ha2;clear ha2;obtain⟨hq1,hq2⟩:=gB hq;obtain⟨hq3,hq4⟩:=gB hq1;obtain⟨hq5,hq6⟩:=gB hq3;obtain⟨hq7,hq8⟩:=gB hq2;have e1:=yA hq5;have e2:=yA hq6;have e3:=yA hq4;subst e1;subst e3;have gi:g≠id:=fun e=>by subst e;simp at hq7
         have gp:g≠pid:=fun e=>by subst e;simp at hq8
         have ip:id≠pid:=fun e=>by subst e;rw[hid]at hpool;cases hpool
         simp only[hC,hG]at ha3;obtain⟨g1,g2⟩:=ha3;subst g2;have hn0:=hn nid (l4 _) (by simp);obtain⟨pp,hpp,hbp⟩:=hh.rel pid (by rw[hpool];trivial);have hR:pp.R.length=rows.length:=by rw[hpool]at hbp;exact hbp.2.2.2.1
         have pn:pid≠nid:=fun e=>by subst e;rw[hpp]at hn0;cases hn0
         obtain⟨s1,s2,s3⟩:=hh.absorb hpool hpp hrow' hpg;generalize hρ1:fE ρ pid ⟨pp.blk,pp.n,pp.C,pp.R++[⟨pg.blk,pg.n,pg.C⟩]⟩=ρ1 at s1 s2 s3;generalize hh1:oB (oB h g .dead) pid (.pool r' (rows++[l']))=h1 at s2 s3;have hρ1n:ρ1 nid=none:=by rw[←hρ1,tC _ (Ne.symm pn)];exact hn0
         have hid1:h1 id= .po r.w pid π:=by rw[←hh1,zB _ ip,zB _ (Ne.symm gi)];exact hid
         have hd1:=nA.mono s1 s3 _ _ hd;have hrel:nA ρ1 (av F (gA ρ1 h1)) w (.rp pid rows.length r.w) u:=by simp only[nA];exact⟨hs0,_,_,by rw[←hρ1];exact lC _ _,by rw[←hR];simp,hrv⟩
         have eo:cJ h nid {val:=.sw nid 1,wr:=[(g,.dead),(pid,.pool r' (rows++[l'])),(id,.dead)],new:=[.po r.w pid (π++[rows.length])],touch:=[id,pid,ids,g]}=oB (oB h1 id .dead) nid (.po r.w pid (π++[rows.length])):=by rw[←hh1];rfl
         have hsn:∀{ρ':fC},(∀id,id≠nid→ρ' id=ρ1 id)→∀j,(j<nid∨nid+1≤j)→ρ j=none→ρ' j=none:=by intro ρ' h3 j hj hno;rw[h3 j (by omega),←hρ1,tC];exact hno;rintro rfl;rw[hpp]at hno;cases hno
         obtain⟨_,⟨b,n,C,R,cap,c,h1',h2,h3,h4,h5,ho,hszc,hold⟩|⟨R,h1',h2,hk⟩⟩:=sF s2 hd1 (by rw[hid1];trivial) (by rw[hid1];trivial)
         ·subst h5;rw[hid1]at hold;have a1:=hold.1;have a2:=hold.2.1;simp only[cL,e4]at a1;obtain⟨v,w',ρ',r1,r2,r3,r4,r5,r6⟩:=pW hat t' s2 hρ1n hsrc (by rw[hid1];trivial) (by rw[hid1];trivial) h1' (by rw[hsz];exact h2) (by rw[hsz];exact h3) (by rw[hsz];exact h4) ho hszc (by omega) (by rw[hsz,x9];rw[←a1];exact g1) (x:=.po r.w pid (π++[rows.length])) (fun c' b1 b2 b3=>by
           show sM _ _ _ _ _ _;have e:cL r.w pid (π++[rows.length])=cL r.w pid π++[.rp pid rows.length r.w]:=by simp[cL]
           rw[e];exact rC.grow_vals hold (by simp only[iA,and_true];exact hrel) rfl b1 b2 b3)
          rw[hsz]at r5 r1;exact⟨v,w',ρ',.inl (run_eq r1),s1.trans r2,hsn r3,by rw[eo];exact r4,by rw[eo];exact r5,by rw[eo];exact s3.trans r6⟩
         ·rw[hid1]at hk;have hl:π=[]:=by rcases hk with⟨_,hk⟩|hk|⟨_,hk⟩|⟨_,_,hk⟩<;>cases hk;rfl
          subst hl;subst h2;obtain⟨z1,z2⟩:=s2.kill id;obtain⟨v,w',ρ',r1,r2,r3,r4,r5,r6⟩:=xM hat t' z1 hρ1n hsrc g1 (x:=.po r.w pid ([]++[rows.length])) (fun e=>by cases e) (fun c a1 a2=>by refine⟨rfl,a1,?_⟩;rw[bm,km (a2 0 (by simp))];simp only[cL,e6,p0,b9,iA,and_true];exact nA.mono (iI.refl _) z2 _ _ hrel);rw[hsz]at r5;exact⟨v,w',ρ',.inl (run_eq r1),s1.trans r2,hsn r3,by rw[eo];exact r4,by rw[eo];exact r5,by rw[eo];exact(s3.trans z2).trans r6⟩
        ·cases ha2
       ·cases ha2
      ·cases ha2
     ·cases ha2
    ·cases ha
   ·cases ha
  ·cases ha
 ·cases ha
theorem lx {ts:Array TypeId}{e:Nat}{te:TI}(hat:0<te.bytes→0<te.size→wx P ts e te)(hh:lA F ρ h w){d s:V}{vd vx:Value}(hd:nA ρ (av F (gA ρ h)) w d vd)(hx:nA ρ (av F (gA ρ h)) w s vx)
  (ha:wM te h nid d s=some (true,out))(hn:∀id,nid≤id→id<nid+out.new.length→ρ id=none)(t':TypeId)(cs:Array Bool):
  gF F ρ h w nid out ((builtin .append ts t' cs [vd,vx].toArray).run P w):=by
 have run_eq:∀{v:Value} {w':World},(Builtin.append_ ts t' #[vd,vx]).run P w= .ok v w'→(builtin .append ts t' cs [vd,vx].toArray).run P w= .ok (.value v) w':=by intro v w' h1;simp[builtin,h1]
 have hn1:out.new.length=1→ρ nid=none:=fun h=>hn nid (l4 _) (by omega);unfold wM at ha;cases hbs:(Nat.blt 0 te.bytes&&Nat.blt 0 te.size)with
 |false=>simp[hbs]at ha
 |true=>
 simp only[hbs,Bool.not_true,cond_false]at ha;obtain⟨hb,hsz⟩:=gB hbs;have hb:=nC hb;have hsz:=nC hsz;have hat:=hat hb hsz;have fin0:∀{x:oA} {us:List Value} {m:Nat} {tc:List Nat},vd= .slice none 0 0→out={val:=.sw nid te.size,new:=[x],touch:=tc}→Fy P w te.size m vx us→lB m te.bytes=true→(us=[]→gL x)→
   (∀c:Array Value,us.length≤c.size→(∀j,j<us.length→c[j]?=us[j]?)→rC ρ (av F (gA ρ h)) w us.length c x)→gF F ρ h w nid out ((builtin .append ts t' cs [vd,vx].toArray).run P w):=by
  intro x us m tc hv hout hs hroom hx0 hxx;subst hout;obtain⟨v,w',ρ',r1,r2,r3,r4,r5,r6⟩:=xM hat t' hh (hn1 rfl) hs hroom hx0 hxx;subst hv;exact⟨v,w',ρ',.inl (run_eq r1),r2,fun id hid hno=>by rw[r3 id (by simp at hid;omega)];exact hno,r4,r5,r6⟩
 have fin1:∀{x:oA} {us:List Value} {m:Nat} {tc:List Nat} {id:Nat},nA ρ (av F (gA ρ h)) w (.sw id te.size) vd→(h id).live→(h id).flat→out={val:=.sw nid te.size,wr:=[(id,.dead)],new:=[x],touch:=tc}→Fy P w te.size m vx us→
   (∀n:Nat,(∀{c},rC ρ (av F (gA ρ h)) w n c (h id)→lB (n/te.size+m) te.bytes=true∧
    ∀c c':Array Value,rC ρ (av F (gA ρ h)) w n c (h id)→n+us.length≤c'.size→(∀j,j<n→c'[j]?=c[j]?)→(∀j,j<us.length→c'[n+j]?=us[j]?)→rC ρ (av F (gA ρ h)) w (n+us.length) c' x))→
   (gL (h id)→lB m te.bytes=true∧(us=[]→gL x)∧(∀c:Array Value,us.length≤c.size→(∀j,j<us.length→c[j]?=us[j]?)→rC ρ (av F (gA ρ h)) w us.length c x))→
   gF F ρ h w nid out ((builtin .append ts t' cs [vd,vx].toArray).run P w):=by
  intro x us m tc id hrel hl hfl hout hs hrow hemp;subst hout;obtain⟨_,⟨b,n,C,R,cap,c,h1,h2,h3,h4,h5,ho,hszc,hold⟩|⟨R,h1,h2,hk⟩⟩:=sF hh hrel hl hfl
  ·obtain⟨q1,q2⟩:=hrow n hold;subst h5;obtain⟨v,w',ρ',r1,r2,r3,r4,r5,r6⟩:=pW hat t' hh (hn1 rfl) hs hl hfl h1 h2 h3 h4 ho hszc (by have:=hold.le;omega) q1 (x:=x) (fun c' a1 a2 a3=>q2 c c' hold a1 a2 a3);exact⟨v,w',ρ',.inl (run_eq r1),r2,fun id hid hno=>by rw[r3 id (by simp at hid;omega)];exact hno,r4,r5,r6⟩
  ·obtain⟨q1,q2,q3⟩:=hemp hk;subst h2;obtain⟨k1,k2⟩:=hh.kill id;obtain⟨v,w',ρ',r1,r2,r3,r4,r5,r6⟩:=xM hat t' k1 (hn1 rfl) hs q1 q2 (fun c a1 a2=>(q3 c a1 a2).mono (iI.refl _) k2);exact⟨v,w',ρ',.inl (run_eq r1),r2,fun id hid hno=>by rw[r3 id (by simp at hid;omega)];exact hno,r4,r5,k2.trans r6⟩
 split at ha
 ·rename_i k hk;split at ha
  ·cases ha
  ·rename_i src tc hs;obtain⟨m,m1,m2,m3⟩:=kh (P:=P) hh hsz hx hs;have hsrc:Fy P w te.size m vx (src.map (Value.int k)):=⟨m1,by simpa using m2,fZ _,m3⟩
   have hcells:∀c:Array Value,(src.map (Value.int k)).length≤c.size→(∀j,j<(src.map (Value.int k)).length→c[j]?=(src.map (Value.int k))[j]?)→rC ρ (av F (gA ρ h)) w (src.map (Value.int k)).length c (.ints k src):=by intro c a1 a2;refine⟨by simp,a1,fun i hi=>?_⟩;rw[a2 i (by simpa using hi),oX k src hi]
   split at ha
   ·simp only[hC,hG]at ha;obtain⟨g1,g2⟩:=ha;rw[jE,m2,uC hsz]at g1;exact fin0 hd.c g2.symm hsrc g1 (fun e=>.inl ⟨k,by simp at e;rw[e]⟩) hcells
   ·rename_i id s1;split at ha
    ·rename_i k' l hid;obtain⟨h1,h2⟩:=eA ha;obtain⟨h3,h4⟩:=gB h1;have h3:=yF h3;have h4:=yA h4;subst h3;subst h4;simp only[hC,hG]at h2;obtain⟨g1,g2⟩:=h2;rw[jE]at g1;refine fin1 hd (by rw[hid];trivial) (by rw[hid];trivial) g2.symm hsrc (fun n {c} hc=>?_) (fun hk2=>?_)
     ·rw[hid]at hc;have e1:=hc.len;refine⟨by rw[e1,m2,bq _ _ hsz]at g1;exact g1,fun c c' a0 a1 a2 a3=>?_⟩;rw[hid]at a0;exact a0.grow_ints (by simp) a1 a2 (fun j hj=>by rw[a3 j hj,oX k src (by simpa using hj)])
     ·rw[hid]at hk2;have hl:l=[]:=by rcases hk2 with⟨k2,hk2⟩|hk2|⟨_,hk2⟩|⟨_,_,hk2⟩<;>cases hk2;rfl
      subst hl;refine⟨by simpa[m2,uC hsz]using g1,fun e=>.inl ⟨k,by simp at e;rw[e];rfl⟩,by simpa using hcells⟩
    ·cases ha
   ·cases ha
 ·cases hsl:(te.isSl&& !(fY h s))<;>rw[hsl]at ha<;>simp only[cond_true,cond_false]at ha
  rotate_left
  ·exact lr hat hh hd hx ha hn t' cs
  split at ha
  ·cases ha
  ·rename_i src tc hs;obtain⟨m,us,m1,m2,m3,m4,m5⟩:=cV (P:=P) hh hsz hx hs;have hul:=m3.length;have hsrc:Fy P w te.size m vx us:=⟨m1,by omega,m4,m5⟩
   have hcells:∀c:Array Value,us.length≤c.size→(∀j,j<us.length→c[j]?=us[j]?)→rC ρ (av F (gA ρ h)) w us.length c (.vals src):=by
    intro c a1 a2;refine⟨hul,a1,?_⟩;have:c.toList.take us.length=us:=by
     apply e8;intro j;by_cases hj:j<us.length
     ·rw[y1 hj,x2,a2 j hj]
     ·rw[r0 (by simp;omega),r0 (by omega)]
    rw[this];exact m3
   have hemp:us=[]→gL (.vals src):=fun e=>.inr (.inl (by subst e;simp at hul;rw[hul]));split at ha
   ·simp only[hC,hG]at ha;obtain⟨g1,g2⟩:=ha;rw[jE,m2,uC hsz]at g1;exact fin0 hd.c g2.symm hsrc g1 hemp hcells
   ·rename_i id s1;split at ha
    ·rename_i l hid;obtain⟨h1,h2⟩:=eA ha;have h4:=yA h1;subst h4;simp only[hC,hG]at h2;obtain⟨g1,g2⟩:=h2;rw[jE]at g1;refine fin1 hd (by rw[hid];trivial) (by rw[hid];trivial) g2.symm hsrc (fun n {c} hc=>?_) (fun hk2=>?_)
     ·rw[hid]at hc;have e1:=hc.lenV;refine⟨by rw[e1,m2,bq _ _ hsz]at g1;exact g1,fun c c' a0 a1 a2 a3=>?_⟩;rw[hid]at a0;exact rC.grow_vals a0 m3 rfl a1 a2 a3
     ·rw[hid]at hk2;have hl:l=[]:=by rcases hk2 with⟨k2,hk2⟩|hk2|⟨_,hk2⟩|⟨_,_,hk2⟩<;>cases hk2;rfl
      subst hl;refine⟨by simpa[m2,uC hsz]using g1,by simpa using hemp,by simpa using hcells⟩
    ·cases ha
   ·cases ha
theorem Aa (k:IntKind)(a b:Int):Builtin.max2 (.int k a) (.int k b)=pure (.int k (Dp a b)):=rfl
theorem Ac (k:IntKind)(a b:Int):Builtin.min2 (.int k a) (.int k b)=pure (.int k (Fc a b)):=rfl
theorem mb (hty:eD P ty)(hh:lA F ρ h w){b:Builtin}{ts:Array TypeId}{xs:List V}{vs:List Value}(hr:iA ρ (av F (gA ρ h)) w xs vs)(ha:gM ty nid b ts.toList xs h=some (true,out))(hn:∀id,nid≤id→id<nid+out.new.length→ρ id=none)(t':TypeId)(cs:Array Bool):
  gF F ρ h w nid out ((builtin b ts t' cs vs.toArray).run P w):=by
 unfold gM at ha;split at ha
 ·
  rename_i x;split at ha
  ·rename_i t r hts;split at ha
   ·rename_i ti n tc ht hl;obtain⟨h1,h2⟩:=eA ha;simp only[hC,hG,true_and]at h2;subst h2;cases vs with
    |nil=>simp[iA]at hr
    |cons v vs=>
     cases vs with
     |cons _ _=>simp[iA]at hr
     |nil=>
      simp only[iA]at hr;have hts0:ts[0]?=some t:=by
       have:ts.toList[0]?=some t:=by rw[hts];rfl
       simpa using this
      have:=Gn (P:=P) hty hh ht hr.1 hl h1 ts hts0 t';exact gF.pure hh (v:=.int .i64 n) (by simp[builtin,this]) (nA.of_c _)
   ·cases ha
  ·cases ha
 ·obtain⟨x,r,v,h1,h2,h3⟩:=j9 (P:=P) Aa ha hr;subst h1;subst h2;exact gF.pure hh (v:=v) (by simp[builtin,Builtin.max_,h3]) (nA.of_c _)
 ·obtain⟨x,r,v,h1,h2,h3⟩:=j9 (P:=P) Ac ha hr;subst h1;subst h2;exact gF.pure hh (v:=v) (by simp[builtin,Builtin.min_,h3]) (nA.of_c _)
 ·
  rename_i d s;cases vs with
  |nil=>simp[iA]at hr
  |cons vd vs=>
   cases vs with
   |nil=>simp[iA]at hr
   |cons vx vs=>
    cases vs with
    |cons _ _=>simp[iA]at hr
    |nil=>
     simp only[iA]at hr;obtain⟨hd,hx,_⟩:=hr;split at ha
     ·rename_i t t2 r hts;have hts0:ts[0]?=some t:=by
       have:ts.toList[0]?=some t:=by rw[hts];rfl
       simpa using this
      have hts1:ts[1]?=some t2:=by
       have:ts.toList[1]?=some t2:=by rw[hts];rfl
       simpa using this
      split at ha
      ·rename_i e s0 b0 z0 tt2 ht ht2;have hu:=(hty _ _ ht).tk;simp only[fG]at hu;have key:((∃x,tt2.tk= .slice x)∨tt2.tk= .str)→(match ty e with|some ti=>wM ti h nid d s|none=>none)=some (true,out)→gF F ρ h w nid out ((builtin .append ts t' cs [vd,vx].toArray).run P w):=by
        intro htk2 ha;split at ha
        ·rename_i te hte;have hat:0<te.bytes→0<te.size→wx P ts e te:=fun hb hs=>by
          refine⟨⟨t,hts0,hu⟩,?_,hty _ _ hte,hb,hs⟩;have hk2:=(hty _ _ ht2).tk;rcases htk2 with⟨x,htk2⟩|htk2<;>rw[htk2]at hk2<;>simp only[fG]at hk2
          ·exact⟨t2,_,hts1,hk2,.inl ⟨x,rfl⟩⟩
          ·exact⟨t2,_,hts1,hk2,.inr rfl⟩
         exact lx hat hh hd hx ha hn t' cs
        ·cases ha
       split at ha
       ·rename_i y hy;exact key (.inl ⟨y,hy⟩) ha
       ·rename_i hy;exact key (.inr hy) ha
       ·cases ha
      ·cases ha
     ·cases ha
 ·
  rename_i d s;cases vs with
  |nil=>simp[iA]at hr
  |cons vd vs=>
   cases vs with
   |nil=>simp[iA]at hr
   |cons vx vs=>
    cases vs with
    |cons _ _=>simp[iA]at hr
    |nil=>
     simp only[iA]at hr;obtain⟨hd,hx,_⟩:=hr;split at ha
     ·rename_i t r hts;have hts0:ts[0]?=some t:=by
       have:ts.toList[0]?=some t:=by rw[hts];rfl
       simpa using this
      split at ha
      ·rename_i e s0 b0 z0 ht;have hu:=(hty _ _ ht).tk;simp only[fG]at hu;split at ha
       ·rename_i te hte;unfold gz at ha;split at ha
        ·cases ha
        ·rename_i k hk;split at ha
         ·cases ha
         ·rename_i src tc hs;split at ha
          ·rename_i id s1;split at ha
           ·rename_i k' l hid;obtain⟨h1,h2⟩:=eA ha;obtain⟨h3,h4⟩:=gB h1;have h3:=yF h3;have h4:=yA h4;subst h3;subst h4;simp only[hC,hG,true_and]at h2;subst h2;exact D6 hty hh hts0 hu hte t' hk hs hx hd hid
           ·cases ha
          ·cases ha
       ·cases ha
      ·cases ha
     ·cases ha
 ·cases ha
theorem xe (hty:eD P ty)(hh:lA F ρ h w)(he:∀x,nA ρ (av F (gA ρ h)) w (ev x) (ae x))(hn:∀id,nid≤id→id<nid+out.new.length→ρ id=none)(op:Op)(o:Oper)(hop:o.op=op)(ha:fO ty nid op ev h=some (true,out)):
  gF F ρ h w nid out ((execOp ae o).run P w):=by
 have hn1:out.new.length=1→ρ nid=none:=fun h=>hn nid (l4 _) (by omega);unfold execOp;rw[hop];cases op
 case move x=>have:=vB ha;subst this;exact gF.pure hh rfl (he x)
 case assign x=>have:=vB ha;subst this;exact gF.pure hh rfl (he x)
 case pick c a b=>
  simp only[fO]at ha;split at ha
  ·rename_i b' hc;have:=vB ha;subst this;have h1:=he c;rw[hc]at h1;have:=h1.bool;exact gF.pure hh (v:=if b' then ae a else ae b) (by simp[this,asBool]) (Dw (he a) (he b))
  ·cases ha
 case alloc t=>
  simp only[fO]at ha;split at ha
  ·rename_i ti ht;simp only[hC,hG,true_and]at ha;subst ha;exact xj (hty _ _ ht) hh (fun c hc=>si hc) (hn1 rfl)
  ·cases ha
 case box t x=>
  simp only[fO]at ha;split at ha
  ·rename_i ti ht;split at ha
   ·rename_i vs hvs;obtain⟨h1,h2⟩:=eA ha;simp only[hC,hG,true_and]at h2;subst h2;exact G4 hh (hn1 rfl) (he x) hvs (yA h1)
   ·cases ha
  ·cases ha
 case build t ps=>
  simp only[fO]at ha;split at ha
  ·rename_i ti ht;have key:∀cs,((∃fs,ti.tk= .struct fs∧fs.all (fun p=>(ty p.1).isSome)=true∧mK (wI ty fs) (bH ti) (ps.toList.map fun p=>(p.1,ev p.2))=some cs)∨
     (∃n e te,ti.tk= .arr n e∧ty e=some te∧mK (fun i=>some (i*te.size,te.size)) (bH ti) (ps.toList.map fun p=>(p.1,ev p.2))=some cs))→out={val:=.agg cs}→gF F ρ h w nid out ((do pure (.value (←Instr.build t (ps.map fun(i,x)=>(i,ae x)))):Sem Next).run P w):=by
    intro cs hb hout;subst hout;obtain⟨v,h1,h2⟩:=xr (P:=P) hty ht he hb;exact yI (nid:=nid) (tc:=[]) hh h1 h2
   split at ha
   ·rename_i fs htk;obtain⟨h1,h2⟩:=eA ha;split at h2
    ·rename_i cs hf;exact key cs (.inl ⟨fs,htk,h1,hf⟩) (vB h2)
    ·cases h2
   ·rename_i n e htk;split at ha
    ·rename_i te hte;split at ha
     ·rename_i cs hf;exact key cs (.inr ⟨n,e,te,htk,hte,hf⟩) (vB ha)
     ·cases ha
    ·cases ha
   ·cases ha
  ·cases ha
 case buildSlice t len ps=>
  simp only[fO]at ha;split at ha
  ·rename_i e s0 b0 z0 ht;split at ha
   ·rename_i te hte;obtain⟨h1,h2⟩:=eA ha;split at h2
    ·rename_i cs hf;split at h2
     ·rename_i b hm;simp only[hC,hG,true_and]at h2;subst h2;exact rZ hty hh (hn1 rfl) he ht rfl hte h1 hf hm
     ·cases h2
    ·cases h2
   ·cases ha
  ·cases ha
 case load t a=>
  simp only[fO]at ha;cases ht:ty t with
  |none=>rw[ht]at ha;simp at ha
  |some ti=>rw[ht]at ha;obtain⟨y,tc,v,h1,h2,h3⟩:=Dk (P:=P) (y:=.poison) hty hh (he a) ht ha;subst h1;exact yI hh h2 h3
 case store t a x=>
  simp only[fO]at ha;split at ha
  ·rename_i ti ht;exact Bn hty hh (he a) (he x) ht ha
  ·cases ha
 case nilCheck x=>
  simp only[fO]at ha;have hx:=he x;split at ha
  ·rename_i id off ext hp;have:=vB ha;subst this;rw[hp]at hx;have hx':=hx;simp only[nA]at hx;obtain⟨b,n,C,R,_,_,hv⟩:=hx;exact gF.pure hh (v:=ae x) (by simp[hv]) hx'
  ·rename_i k l off ext hp;have:=vB ha;subst this;rw[hp]at hx;have hx':=hx;simp only[nA]at hx;obtain⟨b,o,hv,_⟩:=hx;exact gF.pure hh (v:=ae x) (by simp[hv]) hx'
  ·rename_i l off ext hp;have:=vB ha;subst this;rw[hp]at hx;have hx':=hx;simp only[nA]at hx;obtain⟨b,o,hv,_⟩:=hx;exact gF.pure hh (v:=ae x) (by simp[hv]) hx'
  ·rename_i k s rows i hp;have:=vB ha;subst this;rw[hp]at hx;have hx':=hx;simp only[nA]at hx;obtain⟨b,o,hv,_⟩:=hx;exact gF.pure hh (v:=ae x) (by simp[hv]) hx'
  ·cases ha
 case binOp op t x y t2=>simp only[fO]at ha;obtain⟨v,h1,h2⟩:=Cx (P:=P) hty x y ha (he x) (he y);subst h1;exact yI (tc:=[]) hh h2 (nA.of_c _)
 case unOp op t x=>simp only[fO]at ha;obtain⟨v,h1,h2⟩:=H5 (P:=P) ha (he x);subst h1;exact yI (tc:=[]) hh h2 (nA.of_c _)
 case convert s d x=>simp only[fO]at ha;exact D5 hty hh (he x) ha hn1
 case makeFunc fn first cap=>
  cases fn with
  |func f=>simp only[fO]at ha;have:=vB ha;subst this;refine gF.pure hh (v:=.func (.func f) (first.map ae) (cap.map ae)) (by simp[Instr.makeFunc]) ?_;simp only[nA];exact⟨_,_,rfl,by simpa using iA.map_ev he first.toList,by simpa using iA.map_ev he cap.toList⟩
  |_=>cases ha
 case makeSlice t l c=>
  simp only[fO]at ha;split at ha
  ·rename_i e s0 b0 z0 n m ht hl hc;split at ha
   ·rename_i te hte;split at ha
    ·rename_i v bs hmk;simp only[hC,hG]at ha;obtain⟨h3,h4⟩:=ha;subst h4;have e1:=he l;have e2:=he c;rw[hl]at e1;rw[hc]at e2;have:=e1.int;have:=e2.int;simp only[*];exact A9 hty hh hn ht rfl hte hmk h3
    ·cases ha
   ·cases ha
  ·cases ha
 case slice t x lo hi mx=>simp only[fO]at ha;obtain⟨y,tc,v,h1,h2,h3⟩:=vk (P:=P) hty hh (he x) (kJ.of he) (kJ.of he) (kJ.of he) ha;subst h1;exact yI hh h2 h3
 case fieldAddr t x f=>
  simp only[fO]at ha;split at ha
  ·rename_i fs s0 b0 z0 ht;obtain⟨y,v,h1,h2,h3⟩:=cj (P:=P) hty ht rfl (he x) ha;subst h1;exact yI (tc:=[]) hh h2 h3
  ·cases ha
 case field t x f=>
  simp only[fO]at ha;split at ha
  ·rename_i fs s0 b0 z0 cs ht hp;split at ha
   ·rename_i t' fo hf;split at ha
    ·rename_i te hte;split at ha
     ·rename_i r hr;obtain⟨h1,h2⟩:=eA ha;have:=vB h2;subst this;have hx:=he x;rw[hp]at hx;obtain⟨v,h3,h4⟩:=yz (P:=P) hty ht rfl hx hf hte (nC h1) hr;exact yI (tc:=[]) hh h3 h4
     ·cases ha
    ·cases ha
   ·cases ha
  ·cases ha
 case indexAddr t x i=>simp only[fO]at ha;obtain⟨y,tc,v,h1,h2,h3⟩:=np (P:=P) hty hh (he x) (he i) ha;subst h1;exact yI hh h2 h3
 case index t x i=>simp only[fO]at ha;obtain⟨y,v,h1,h2,h3⟩:=nq (P:=P) hty (he x) (he i) ha;subst h1;exact yI (tc:=[]) hh h2 h3
 case extract t i=>
  simp only[fO]at ha;split at ha
  ·rename_i vs hp;split at ha
   ·rename_i v hv;have:=vB ha;subst this;have hx:=he t;rw[hp]at hx;obtain⟨u,h1,h2⟩:=mv (P:=P) hx hv;exact yI (tc:=[]) hh h1 h2
   ·cases ha
  ·cases ha
 case call c=>
  obtain⟨callee,args,ts⟩:=c;cases callee with
  |value f=>simp[fO]at ha
  |invoke r m=>simp[fO]at ha
  |builtin b=>
   simp only[fO]at ha;have hr:=mb (P:=P) hty hh (iA.map_ev he args.toList) ha hn o.type (args.map fun| .const _=>true|_=>false);have e1:(args.map ae)=(args.toList.map ae).toArray:=by apply Array.ext';simp
   simp only[resolve,s7,w7,l8,invoke,e1];exact hr
 all_goals cases ha
end
section
variable {ty:Nat→Option TI}{nid:Nat}{h h':Nat→oA}
theorem xU {x:V}{k:IntKind}{s:Nat}{l:List Int}{t:List Nat}(hr:uY h x=some (k,s,l,t))(ht:∀id∈t,h' id=h id):uY h' x=some (k,s,l,t):=by
 cases x<;>simp only[uY]at hr⊢
 case sw id s'=>
  split at hr
  ·rename_i k' l' hid;simp only[hC,hG]at hr;obtain⟨rfl,rfl,rfl,rfl⟩:=hr;rw[ht id (by simp),hid]
  ·cases hr
 case sl id s' off len=>
  split at hr
  ·rename_i k' l' hid;simp only[hC,hG]at hr;obtain⟨rfl,rfl,rfl,rfl⟩:=hr;rw[ht id (by simp),hid]
  ·cases hr
 all_goals first|exact hr|cases hr
theorem oi {x:V}{s:Nat}{l:List V}{t:List Nat}(hr:jw h x=some (s,l,t))(ht:∀id∈t,h' id=h id):jw h' x=some (s,l,t):=by
 cases x<;>simp only[jw]at hr⊢
 case sw id s'=>
  split at hr
  ·rename_i l' hid;simp only[hC,hG]at hr;obtain⟨rfl,rfl,rfl⟩:=hr;rw[ht id (by simp),hid]
  ·cases hr
 all_goals first|exact hr|cases hr
theorem xX {x:V}{n:Nat}{t:List Nat}(hr:gO h x=some (n,t))(ht:∀id∈t,h' id=h id):gO h' x=some (n,t):=by
 unfold gO at hr⊢;split at hr<;>first|exact hr|skip
 ·rename_i id s';have key:h' id=h id:=by
   refine ht id ?_;split at hr
   all_goals first
    |cases hr;done
    |(simp only[hC,hG]at hr
      obtain⟨rfl,rfl⟩:=hr;simp;done)
    |(obtain⟨_,hr2⟩:=eA hr
      simp only[hC,hG]at hr2;obtain⟨rfl,rfl⟩:=hr2;simp;done)
  try dsimp only
  rw[key];exact hr
 ·rename_i pid q w;have key:h' pid=h pid:=by
   refine ht pid ?_;split at hr
   ·obtain⟨_,hr2⟩:=eA hr;simp only[hC,hG]at hr2;obtain⟨rfl,rfl⟩:=hr2;simp
   ·cases hr
  try dsimp only
  rw[key];exact hr
theorem yL {k:IntKind}{s:Nat}{x:V}{l:List Int}{t:List Nat}(hr:yJ h k s x=some (l,t))(ht:∀id∈t,h' id=h id):yJ h' k s x=some (l,t):=by
 unfold yJ at hr⊢;split at hr<;>first|exact hr|skip
 rename_i h1 h2;split at hr
 ·rename_i k' w' l' t' hq;obtain⟨a1,a2⟩:=eA hr;simp only[hC,hG]at a2;obtain⟨rfl,rfl⟩:=a2;rw[xU hq ht];simp only[a1,cond_true]
 ·cases hr
theorem nQ {s:Nat}{x:V}{l:List V}{t:List Nat}(hr:zJ h s x=some (l,t))(ht:∀id∈t,h' id=h id):zJ h' s x=some (l,t):=by
 unfold zJ at hr⊢;split at hr<;>first|exact hr|skip
 rename_i h1;split at hr
 ·rename_i w' l' t' hq;obtain⟨a1,a2⟩:=eA hr;simp only[hC,hG]at a2;obtain⟨rfl,rfl⟩:=a2;rw[oi hq ht];simp only[a1,cond_true]
 ·cases hr
theorem iQ {ti:TI}{d:V}{ids w0:Nat}{b:Bool}{out:jJ}(hr:sJ ti h nid d (.sw ids w0)=some (b,out)):ids∈out.touch∧(∀g w,h ids= .vals [.sw g w]→g∈out.touch)∧∀id w,d= .sw id w→id∈out.touch∧∀s pid π,h id= .po s pid π→pid∈out.touch:=by
 unfold sJ at hr;dsimp only at hr;split at hr
 ·rename_i g w hids;split at hr
  ·split at hr
   ·obtain⟨_,hr2⟩:=eA hr;clear hr;split at hr2
    ·simp only[hC,hG]at hr2;obtain⟨rfl,rfl⟩:=hr2;refine⟨by simp,fun g' w' e=>?_,fun id w e=>by cases e⟩;rw[hids]at e;cases e;simp
    ·split at hr2
     ·rename_i w' pid π hid;split at hr2
      ·split at hr2
       ·obtain⟨_,hr3⟩:=eA hr2;simp only[hC,hG]at hr3;obtain⟨rfl,rfl⟩:=hr3;refine⟨by simp,fun g' w' e=>?_,fun id w e=>?_⟩
        ·rw[hids]at e;cases e;simp
        ·cases e;refine⟨by simp,fun s pid' π' e=>?_⟩;rw[hid]at e;cases e;simp
       ·cases hr2
      ·cases hr2
     ·cases hr2
    ·cases hr2
   ·cases hr
  ·cases hr
 ·cases hr
theorem qZ {ti:TI}{d s:V}{b:Bool}{out:jJ}(hr:sJ ti h nid d s=some (b,out))(ht:∀id∈out.touch,h' id=h id):sJ ti h' nid d s=some (b,out):=by
 cases s<;>try (unfold sJ at hr;cases hr;done)
 rename_i ids w0;obtain⟨t1,t2,t3⟩:=iQ hr;have e1:=ht ids t1;rw[←hr];unfold sJ at hr⊢;dsimp only at hr⊢;rw[e1];split at hr
 ·rename_i g w hids;have e2:=ht g (t2 g w hids)
  try rw[hids]
  try dsimp only
  rw[e2];split at hr
  ·rename_i r hrk;split at hr
   ·rename_i l hrow;obtain⟨hc,hr2⟩:=eA hr
    try rw[hrk]
    try dsimp only
    try rw[hrow]
    try dsimp only
    rw[hc];simp only[cond_true];split at hr2
    ·rfl
    ·rename_i id w2;obtain⟨u1,u2⟩:=t3 id w2 rfl;rw[ht id u1];split at hr2
     ·rename_i w' pid π hid
      try rw[hid]
      try dsimp only
      rw[ht pid (u2 _ _ _ hid)]
     ·cases hr2
    ·cases hr2
   ·cases hr
  ·cases hr
 ·cases hr
theorem zZ {s ids w0:Nat}{l:List V}{t:List Nat}(hr:zJ h s (.sw ids w0)=some (l,t)):t=[ids]:=by
 simp only[zJ,jw]at hr;split at hr
 ·rename_i w' l' t' hq;split at hq
  ·simp only[hC,hG]at hq;obtain⟨_,_,rfl⟩:=hq;obtain⟨_,a2⟩:=eA hr;simp only[hC,hG]at a2;exact a2.2.symm
  ·cases hq
 ·cases hr
theorem jQ {ti:TI}{d s:V}{b:Bool}{out:jJ}(hr:wM ti h nid d s=some (b,out))(ht:∀id∈out.touch,h' id=h id):wM ti h' nid d s=some (b,out):=by
 unfold wM at hr⊢;cases hc:(!(Nat.blt 0 ti.bytes&&Nat.blt 0 ti.size))<;>rw[hc]at hr<;>simp only[cond_false,cond_true]at hr⊢
 ·split at hr
  ·rename_i k hk
   try rw[hk]
   try dsimp only
   split at hr
   ·cases hr
   ·rename_i src t hsrc;split at hr
    ·simp only[hC,hG]at hr;obtain⟨rfl,rfl⟩:=hr;rw[yL hsrc ht]
    ·rename_i id w';split at hr
     ·rename_i k' l hid;obtain⟨a1,a2⟩:=eA hr;simp only[hC,hG]at a2;obtain⟨rfl,rfl⟩:=a2;simp only[hZ]at ht;rw[yL hsrc (fun id hid=>ht id (.inr hid))]
      try dsimp only
      rw[ht id (.inl rfl),hid];simp only[a1,cond_true]
     ·cases hr
    ·cases hr
  ·rename_i hk
   try rw[hk]
   try dsimp only
   have hn:∀ids w,s= .sw ids w→ids∈out.touch:=by
    intro ids w e;subst e;cases hsl:(ti.isSl&& !(fY h (.sw ids w)))<;>rw[hsl]at hr<;>simp only[cond_true,cond_false]at hr
    ·split at hr
     ·cases hr
     ·rename_i src t hsrc;have ht2:=zZ hsrc;subst ht2;split at hr
      ·simp only[hC,hG]at hr;obtain⟨rfl,rfl⟩:=hr;simp
      ·split at hr
       ·obtain⟨_,a2⟩:=eA hr;simp only[hC,hG]at a2;obtain⟨rfl,rfl⟩:=a2;simp
       ·cases hr
      ·cases hr
    ·exact(iQ hr).1
   have hnil:fY h' s=fY h s:=by cases s<;>simp only[fY];rename_i ids w;rw[ht ids (hn ids w rfl)]
   rw[hnil];cases hsl:(ti.isSl&& !(fY h s))<;>rw[hsl]at hr<;>simp only[cond_true,cond_false]at hr⊢
   rotate_left
   ·exact qZ hr ht
   split at hr
   ·cases hr
   ·rename_i src t hsrc;split at hr
    ·simp only[hC,hG]at hr;obtain⟨rfl,rfl⟩:=hr;rw[nQ hsrc ht]
    ·rename_i id w';split at hr
     ·rename_i l hid;obtain⟨a1,a2⟩:=eA hr;simp only[hC,hG]at a2;obtain⟨rfl,rfl⟩:=a2;simp only[hZ]at ht;rw[nQ hsrc (fun id hid=>ht id (.inr hid))]
      try dsimp only
      rw[ht id (.inl rfl),hid];simp only[a1,cond_true]
     ·cases hr
    ·cases hr
 ·cases hr
theorem ia {ti:TI}{d s:V}{b:Bool}{out:jJ}(hr:gz ti h d s=some (b,out))(ht:∀id∈out.touch,h' id=h id):gz ti h' d s=some (b,out):=by
 unfold gz at hr⊢;split at hr
 ·cases hr
 ·rename_i k hk
  try rw[hk]
  try dsimp only
  split at hr
  ·cases hr
  ·rename_i src t hsrc;split at hr
   ·rename_i id w';split at hr
    ·rename_i k' l hid;obtain⟨a1,a2⟩:=eA hr;simp only[hC,hG]at a2;obtain⟨rfl,rfl⟩:=a2;simp only[hZ]at ht;rw[yL hsrc (fun id hid=>ht id (.inr hid))]
     try dsimp only
     rw[ht id (.inl rfl),hid];simp only[a1,cond_true]
    ·cases hr
   ·cases hr
theorem uW {b:Builtin}{ts:List Nat}{xs:List V}{ok:Bool}{out:jJ}(hr:gM ty nid b ts xs h=some (ok,out))(ht:∀id∈out.touch,h' id=h id):gM ty nid b ts xs h'=some (ok,out):=by
 unfold gM at hr⊢;split at hr
 ·split at hr
  ·split at hr
   ·rename_i ti n tc hti hlen;obtain⟨a1,a2⟩:=eA hr;simp only[hC,hG]at a2;obtain⟨rfl,rfl⟩:=a2;simp only[hti,xX hlen ht,a1,cond_true]
   ·cases hr
  ·cases hr
 ·exact hr
 ·exact hr
 ·split at hr
  ·split at hr
   ·rename_i e _ _ _ t2 hti ht2
    try simp only[hti,ht2]
    split at hr
    ·rename_i htk
     try simp only[htk]
     split at hr
     ·rename_i te hte
      try simp only[hte]
      exact jQ hr ht
     ·cases hr
    ·rename_i htk
     try simp only[htk]
     split at hr
     ·rename_i te hte
      try simp only[hte]
      exact jQ hr ht
     ·cases hr
    ·cases hr
   ·cases hr
  ·cases hr
 ·split at hr
  ·split at hr
   ·rename_i e _ _ _ hti
    try simp only[hti]
    split at hr
    ·rename_i te hte
     try simp only[hte]
     exact ia hr ht
    ·cases hr
   ·cases hr
  ·cases hr
 ·cases hr
theorem uZ {t:Nat}{x i:V}{ok:Bool}{out:jJ}(hr:rP ty t x i h=some (ok,out))(ht:∀id∈out.touch,h' id=h id):rP ty t x i h'=some (ok,out):=by
 unfold rP at hr⊢;split at hr
 ·rename_i e _ _ _ hti
  try simp only[hti]
  split at hr
  ·cases hr
  ·rename_i te hte
   try simp only[hte]
   split at hr
   ·rename_i id w';obtain⟨a1,a2⟩:=eA hr;have key:h' id=h id:=by
     refine ht id ?_;split at a2
     all_goals first
      |cases a2;done
      |(simp only[hC,hG]at a2
        obtain⟨rfl,rfl⟩:=a2;simp;done)
      |(obtain⟨_,a3⟩:=eA a2
        simp only[hC,hG]at a3;obtain⟨rfl,rfl⟩:=a3;simp;done)
    try dsimp only
    rw[key];exact hr
   ·rename_i pid q w';obtain⟨a1,a2⟩:=eA hr;have key:h' pid=h pid:=by
     refine ht pid ?_;split at a2
     ·obtain⟨_,a3⟩:=eA a2;simp only[hC,hG]at a3;obtain⟨rfl,rfl⟩:=a3;simp
     ·cases a2
    try dsimp only
    rw[key];exact hr
   all_goals exact hr
 ·exact hr
 ·cases hr
theorem ea {t:Nat}{x:V}{lo hi mx:Option V}{ok:Bool}{out:jJ}(hr:fU ty t x lo hi mx h=some (ok,out))(ht:∀id∈out.touch,h' id=h id):fU ty t x lo hi mx h'=some (ok,out):=by
 unfold fU at hr⊢;split at hr
 ·cases hr
 ·rename_i ti hti
  try simp only[hti]
  cases hc:(hi.isNone&&mx.isSome)<;>simp only[hc,cond_true,cond_false]at hr⊢
  ·split at hr
   ·rename_i hlen;split at hr
    ·rename_i htk;simp only[gO]
     try simp only[htk]
     exact hr
    ·cases hr
   ·rename_i len tc hlen;split at hr
    ·rename_i l h1 m hl hh1 hm;split at hr
     ·rename_i s htk;simp only[gO]at hlen⊢;simp only[hC,hG]at hlen;obtain⟨rfl,rfl⟩:=hlen;simp only[hl,hh1,hm,htk];exact hr
     ·rename_i e id w' htk;split at hr
      ·rename_i te hte;obtain⟨a1,a2⟩:=eA hr;simp only[hC,hG]at a2;obtain⟨rfl,rfl⟩:=a2;simp only[xX hlen ht,hl,hh1,hm,htk,hte,a1,cond_true]
      ·cases hr
     ·rename_i e id w' off _ htk;simp only[gO]at hlen⊢;simp only[hC,hG]at hlen;obtain⟨rfl,rfl⟩:=hlen;simp only[hl,hh1,hm,htk];exact hr
     ·rename_i e k w' l0 htk;simp only[gO]at hlen⊢;simp only[hC,hG]at hlen;obtain⟨rfl,rfl⟩:=hlen;simp only[hl,hh1,hm,htk];exact hr
     ·rename_i e htk;simp only[gO]at hlen⊢;simp only[hC,hG]at hlen;obtain⟨rfl,rfl⟩:=hlen;simp only[hl,hh1,hm,htk];exact hr
     ·cases hr
    ·cases hr
  ·cases hr
theorem gu {s d:Nat}{x:V}{ok:Bool}{out:jJ}(hr:j7 ty nid s d x h=some (ok,out))(ht:∀id∈out.touch,h' id=h id):j7 ty nid s d x h'=some (ok,out):=by
 unfold j7 at hr⊢;split at hr
 ·rename_i ts td hts htd
  try simp only[hts,htd]
  split at hr
  ·rename_i htk;try simp only[htk]
   exact hr
  ·rename_i htk;try simp only[htk]
   exact hr
  ·rename_i htk;try simp only[htk]
   exact hr
  ·rename_i htk;try simp only[htk]
   exact hr
  ·rename_i htk _ _;split at hr
   ·rename_i e hts2;split at hr
    ·rename_i w' l t hte hrow;obtain⟨a1,a2⟩:=eA hr;simp only[hC,hG]at a2;obtain⟨rfl,rfl⟩:=a2;have hrow':=xU hrow ht;simp only[hts2,hte,hrow',a1,cond_true]
    ·cases hr
   ·cases hr
  ·cases hr
 ·cases hr
theorem je {ti:TI}{a:V}{ok:Bool}{out:jJ}(hr:vN ti a h=some (ok,out))(ht:∀id∈out.touch,h' id=h id):vN ti a h'=some (ok,out):=by
 unfold vN at hr⊢;split at hr
 ·rename_i id off ext;obtain⟨a1,a2⟩:=eA hr;split at a2
  ·rename_i v hv;simp only[hC,hG]at a2;obtain⟨rfl,rfl⟩:=a2;simp only[hZ,c9,or_false]at ht;simp only[a1,cond_true,ht id rfl,hv]
  ·cases a2
 ·exact hr
 ·exact hr
 ·exact hr
 ·rename_i id i w;have key:h' id=h id:=by
   refine ht id ?_;split at hr
   ·obtain⟨_,a2⟩:=eA hr;simp only[hC,hG]at a2;obtain⟨rfl,rfl⟩:=a2;simp
   ·cases hr
  try dsimp only
  rw[key];exact hr
 ·rename_i id q i w;have key:h' id=h id:=by
   refine ht id ?_;split at hr
   ·obtain⟨_,a2⟩:=eA hr;simp only[hC,hG]at a2;obtain⟨rfl,rfl⟩:=a2;simp
   ·cases hr
  try dsimp only
  rw[key];exact hr
 ·cases hr
theorem ej {ti:TI}{a x:V}{ok:Bool}{out:jJ}(hr:iU ti a x h=some (ok,out))(ht:∀id∈out.touch,h' id=h id):iU ti a x h'=some (ok,out):=by
 unfold iU at hr⊢;split at hr
 ·rename_i id off ext;split at hr
  ·rename_i vs hvs;obtain⟨a1,a2⟩:=eA hr;have key:h' id=h id∧∀s pid π g w,h id= .po s pid π→vs=[.sw g w]→h' pid=h pid∧h' g=h g:=by
    split at a2
    ·rename_i s pid π g w hid;split at a2
     ·split at a2
      ·obtain⟨_,a3⟩:=eA a2;simp only[hC,hG]at a3;obtain⟨rfl,rfl⟩:=a3;refine⟨ht id (by simp),fun s' pid' π' g' w' e1 e2=>?_⟩;rw[hid]at e1;cases e1;cases e2;exact⟨ht _ (by simp),ht _ (by simp)⟩
      ·cases a2
     ·cases a2
    ·rename_i hno;split at a2
     ·simp only[hC,hG]at a2;obtain⟨rfl,rfl⟩:=a2;exact⟨ht id (by simp),fun s pid π g w e1 e2=>(hno s pid π g w e1 e2).elim⟩
     ·cases a2
   obtain⟨k1,k2⟩:=key;rw[←hr];rw[k1];split at a2
   ·rename_i s pid π g w hid;obtain⟨k3,k4⟩:=k2 _ _ _ _ _ hid rfl;simp only[k3,k4]
   ·rfl
  ·cases hr
 ·rename_i id i w;have key:h' id=h id:=by
   refine ht id ?_;split at hr
   ·split at hr
    ·obtain⟨_,a2⟩:=eA hr;simp only[hC,hG]at a2;obtain⟨rfl,rfl⟩:=a2;simp
    ·cases hr
   ·cases hr
  try dsimp only
  rw[key];exact hr
 ·rename_i id q i w;have key:h' id=h id:=by
   refine ht id ?_;split at hr
   ·split at hr
    ·obtain⟨_,a2⟩:=eA hr;simp only[hC,hG]at a2;obtain⟨rfl,rfl⟩:=a2;simp
    ·cases hr
   ·cases hr
  try dsimp only
  rw[key];exact hr
 ·cases hr
theorem ga {ev:Operand→V}{op:Op}{ok:Bool}{out:jJ}(hr:fO ty nid op ev h=some (ok,out))(ht:∀id∈out.touch,h' id=h id):fO ty nid op ev h'=some (ok,out):=by
 cases op
 case convert s d x=>exact gu hr ht
 case slice t x lo hi mx=>exact ea hr ht
 case indexAddr t x i=>exact uZ hr ht
 case load t a=>
  simp only[fO]at hr⊢;split at hr
  ·exact je hr ht
  ·cases hr
 case call c=>
  obtain⟨cl,args,ts⟩:=c;cases cl
  case builtin b=>exact uW hr ht
  all_goals exact hr
 case store t a x=>
  simp only[fO]at hr⊢;split at hr
  ·exact ej hr ht
  ·cases hr
 case makeFunc f _ _=>cases f<;>exact hr
 all_goals exact hr
theorem nS {ev ev':Operand→V}(ps:Array (Nat×Operand))(he:∀x∈(ps.toList.map (·.2)).toArray,ev' x=ev x):(ps.toList.map fun p=>(p.1,ev' p.2))=ps.toList.map fun p=>(p.1,ev p.2):=
 n3 fun p hp=>by rw[he p.2 (by simp only[List.mem_toArray,k7];exact⟨p,hp,rfl⟩)]
theorem ay {ev ev':Operand→V}{op:Op}{r:pZ}(hr:fO ty nid op ev h=r)(he:∀x∈op.operands,ev' x=ev x):fO ty nid op ev' h=r:=by
 subst hr;cases op<;>simp only[Op.operands]at he<;>try rfl
 case build t ps=>simp only[fO,nS ps he]
 case buildSlice t n ps=>simp only[fO,nS ps he]
 case makeFunc fn first cap=>
  cases fn<;>try rfl
  simp only[fO];rw[n3 (l:=first.toList) (f:=ev') (g:=ev) fun x hx=>he x (by simp at hx;simp[hx]),n3 (l:=cap.toList) (f:=ev') (g:=ev) fun x hx=>he x (by simp at hx;simp[hx])]
 case call c=>
  obtain⟨cl,args,ts⟩:=c;cases cl<;>try rfl
  simp only[fO];rw[n3 (l:=args.toList) (f:=ev') (g:=ev) fun x hx=>he x (by simp at hx;simp[Call.operands,hx])]
 case slice t x lo hi mx=>simp only[fO];cases lo<;>cases hi<;>cases mx<;>simp_all
 all_goals (simp only[fO];simp_all)
end
theorem wm.go_pick {R:Type}(k:V→List oA→Option R):∀a:wm,a.go k=k a.pick.1 a.pick.2
 | .one _ _=>rfl
 | .two true _ _ _ _=>rfl
 | .two false _ _ _ _=>rfl
def x4 (tab:Nat→Option rA)(nid f:Nat)(args:List V)(h:Nat→oA)(out:jJ):Prop:=
 ∃e at_ σ enc a,tab f=some e∧pD h e.imm args=at_∧uU h 3 (uM [] (dF at_.1))=σ∧
  e.dec (uL (kG · σ 0) at_.1) (σ.map fun i=>jI (kG · σ 0) (h i))=some (some a,enc)∧
  (enc a).pick.2.length≤σ.length+e.fresh∧σ.length≤(enc a).pick.2.length∧nodup σ=true∧dY σ at_.2=false∧out=vG σ at_.2 nid (enc a).pick.1 (enc a).pick.2
theorem mc {R:Type}{tab:Nat→Option rA}{nid f:Nat}{args:List V}{h:Nat→oA}{k:jJ→Option R}{r:R}
  (hr:xv tab nid f args h k=some r):∃out,x4 tab nid f args h out∧k out=some r:=by
 unfold xv at hr;split at hr
 ·cases hr
 ·rename_i e he;dsimp only at hr;split at hr
  ·cases hr
  ·rename_i m enc hm;cases m with
   |none=>cases hr
   |some a=>dsimp only[Option.bind]at hr;rw[wm.go_pick]at hr;obtain⟨h1,h2⟩:=eA hr;simp only[hP,w4]at h1;obtain⟨⟨⟨h3,h4⟩,h5⟩,h6⟩:=h1;exact⟨_,⟨e,_,_,enc,a,he,rfl,rfl,hm,wF h3,wF h4,h5,h6,rfl⟩,h2⟩
theorem nI {i:Nat}:∀(r σ:List Nat),i∈σ→i∈uM σ r
 | [],σ,h=>h
 |j::r,σ,h=>by
  unfold uM;cases hc:σ.any (Nat.beq j)<;>simp only[cond_false,cond_true]
  ·exact nI r _ (by simp[h])
  ·exact nI r _ h
theorem lT {i:Nat}:∀(r σ:List Nat),i∈r→i∈uM σ r
 |j::r,σ,h=>by
  unfold uM;cases hc:σ.any (Nat.beq j)<;>simp only[cond_false,cond_true]
  ·rcases hZ.mp h with rfl|h
   ·exact nI r _ (by simp)
   ·exact lT r _ h
  ·rcases hZ.mp h with rfl|h
   ·simp only[x8]at hc;obtain⟨x,hx,hb⟩:=hc;have:=yA hb;subst this;exact nI r _ hx
   ·exact lT r _ h
theorem cU {h:Nat→oA}{i:Nat}:∀(n:Nat) (σ:List Nat),i∈σ→i∈uU h n σ
 |0,σ,hi=>hi
 |n+1,σ,hi=>cU n _ (nI _ _ hi)
theorem vU {h h':Nat→oA}:∀(n:Nat) (σ:List Nat),(∀id∈uU h n σ,h' id=h id)→uU h' n σ=uU h n σ
 |0,σ,_=>rfl
 |n+1,σ,he=>by
  unfold uU at he⊢;have h1:(σ.flatMap fun i=>sS (h' i))=σ.flatMap fun i=>sS (h i):=by
   have:∀i∈σ,sS (h' i)=sS (h i):=fun i hi=>by rw[he i (cU n _ (nI _ _ hi))]
   clear he;induction σ with
   |nil=>rfl
   |cons j σ ih=>simp only[p6];rw[this j (by simp),ih (fun i hi=>this i (by simp[hi]))]
  rw[h1];exact vU n _ he
mutual
theorem tX {h h':Nat→oA}:∀(v:V),(∀id,id∈dL (cH h v).1∨id∈(cH h v).2→h' id=h id)→cH h' v=cH h v
 | .sw id w,he=>by
  have:h' id=h id:=by
   refine he id ?_;unfold cH;split
   ·exact .inr (by simp)
   ·exact .inl (by simp[dL])
  unfold cH;rw[this]
 | .sl id w off len,he=>by
  have:h' id=h id:=by
   refine he id ?_;unfold cH;split
   ·exact .inr (by simp)
   ·exact .inl (by simp[dL])
  unfold cH;rw[this]
 | .agg cs,he=>by unfold cH at he⊢;rw[sX cs (fun id hid=>he id (by simpa[dL]using hid))]
 | .c _,_=>rfl
 | .poison,_=>rfl
 | .ptr _ _ _,_=>rfl
 | .rp _ _ _,_=>rfl
 | .ep _ _ _ _,_=>rfl
 | .tp _ _ _,_=>rfl
 | .yv _,_=>rfl
 | .inl _ _ _,_=>rfl
 | .inlp _ _ _ _,_=>rfl
 | .il _ _ _,_=>rfl
 | .iv _ _,_=>rfl
 | .ilp _ _ _ _,_=>rfl
 | .ivp _ _ _ _,_=>rfl
 | .tup _,_=>rfl
 | .fn _ _ _,_=>rfl
theorem sX {h h':Nat→oA}:∀(vs:List V),(∀id,id∈dF (wT h vs).1∨id∈(wT h vs).2→h' id=h id)→wT h' vs=wT h vs
 | [],_=>rfl
 |v::r,he=>by unfold wT at he⊢;rw[tX v (fun id hid=>he id (by simp only[dF,n0];rcases hid with h|h<;>simp[h])),sX r (fun id hid=>he id (by simp only[dF,n0];rcases hid with h|h<;>simp[h]))]
end
theorem rL {h h':Nat→oA}:∀(bs:List Bool) (vs:List V),(∀id,id∈dF (pD h bs vs).1∨id∈(pD h bs vs).2→h' id=h id)→pD h' bs vs=pD h bs vs
 | [],vs,_=>by simp[pD]
 |true::bs,[],_=>by simp[pD]
 |false::bs,[],_=>by simp[pD]
 |true::bs,v::r,he=>by unfold pD at he⊢;rw[tX v (fun id hid=>he id (by simp only[dF,n0];rcases hid with h|h<;>simp[h])),rL bs r (fun id hid=>he id (by simp only[dF,n0];rcases hid with h|h<;>simp[h]))]
 |false::bs,v::r,he=>by unfold pD at he⊢;rw[rL bs r (fun id hid=>he id (by simp only[dF,n0];rcases hid with h|h<;>simp[h]))]
theorem x4.congr_h {tab:Nat→Option rA}{nid f:Nat}{args:List V}{h h':Nat→oA}{out:jJ}(hc:x4 tab nid f args h out)(ht:∀id∈out.touch,h' id=h id):x4 tab nid f args h' out:=by
 obtain⟨e,at_,σ,enc,a,h1,h2,h3,h4,h5,h6,h7,h8,h9⟩:=hc;have ht':∀id,id∈σ∨id∈at_.2→h' id=h id:=fun id hid=>ht id (by subst h9;simpa[vG]using hid);have hσ:∀id∈dF at_.1,id∈σ:=fun id hid=>by subst h3;exact cU _ _ (lT _ _ hid)
 refine⟨e,at_,σ,enc,a,h1,?_,?_,?_,h5,h6,h7,h8,h9⟩
 ·rw[rL _ _ (fun id hid=>?_)]
  ·exact h2
  ·rw[h2]at hid;exact ht' id (hid.imp (hσ id) (fun x=>x))
 ·rw[vU _ _ (fun id hid=>ht' id (.inl (h3▸hid)))];exact h3
 ·rw[n3 (g:=fun i=>jI (kG · σ 0) (h i)) (fun i hi=>by rw[ht' i (.inl hi)])];exact h4
def fx (T:Nat→V):Operand→V
 | .tmp t=>T t
 | .const v=>fj v
 | .global _=>.poison
 | .func f=>.fn f [] []
theorem cf (T:List (Nat×V)):Hg T=fx (cE T):=by funext x;cases x<;>rfl
def fz (E:aC)(nid:Nat)(o:Oper)(T:Nat→V)(h:Nat→oA)(out:jJ):Prop:=
 (∃f args ts g first cap,o.op= .call ⟨.value f,args,ts⟩∧fx T f= .fn g first cap∧x4 E.tab nid g (first++(args.toList.map (fx T)++cap)) h out)∨
 fO E.ty nid o.op (fx T) h=some (true,out)∨
 (∃f args ts id,o.op= .call ⟨.value f,args,ts⟩∧fx T f= .yv id∧E.yld=true∧nP id (args.toList.map (fx T)) h=some (true,out))
theorem fu {id:Nat}{vs:List V}{h h':Nat→oA}{out:jJ}(hy:nP id vs h=some (true,out))(ht:∀j∈out.touch,h' j=h j):nP id vs h'=some (true,out):=by
 have hy0:=hy;unfold nP at hy;split at hy
 ·rename_i b w k m;split at hy
  ·rename_i A pre k' l hid hb;obtain⟨_,h2⟩:=eA hy;simp only[hC,hG]at h2;obtain⟨_,rfl⟩:=h2;unfold nP at hy0⊢;dsimp only at hy0⊢;rw[ht id (by simp),ht b (by simp)];exact hy0
  ·cases hy
 ·cases hy
theorem ir {R:Type}{E:aC}{nid:Nat}{o:Oper}{T:List (Nat×V)}{h:Nat→oA}{k:jJ→Option R}{r:R}(hr:cd E nid o T h k=some r):∃out,fz E nid o (cE T) h out∧k out=some r:=by
 unfold cd at hr;split at hr
 ·rename_i f args ts hop;rw[cf]at hr;split at hr
  ·rename_i g first cap hf
   obtain⟨out,h1,h2⟩:=mc hr;exact⟨out,.inl ⟨f,args,ts,g,first,cap,hop,hf,h1⟩,h2⟩
  ·rename_i id hf;split at hr
   ·rename_i ok out hy;obtain⟨h1,h2⟩:=eA hr;obtain⟨h3,h4⟩:=eA h2;subst h3;exact⟨out,.inr (.inr ⟨f,args,ts,id,hop,hf,h1,hy⟩),h4⟩
   ·cases hr
  ·cases hr
 ·rw[cf]at hr;split at hr
  ·cases hr
  ·rename_i ok out ha;obtain⟨h1,h2⟩:=eA hr;subst h1;exact⟨out,.inr (.inl ha),h2⟩
theorem fz.congr {E:aC}{nid:Nat}{o:Oper}{T T':Nat→V}{h h':Nat→oA}{out:jJ}(hx:fz E nid o T h out)(hT:∀x∈o.op.operands,fx T' x=fx T x)(ht:∀id∈out.touch,h' id=h id):fz E nid o T' h' out:=by
 rcases hx with⟨f,args,ts,g,first,cap,h1,h2,h3⟩|ha|⟨f,args,ts,id,h1,h2,hy,h3⟩
 rotate_right
 ·rw[h1]at hT;refine .inr (.inr ⟨f,args,ts,id,h1,?_,hy,?_⟩)
  ·rw[hT f (by simp[Op.operands,Call.operands])];exact h2
  ·rw[n3 (g:=fx T) (fun x hx=>hT x (by simp at hx;simp[Op.operands,Call.operands,hx]))];exact fu h3 ht
 ·rw[h1]at hT;refine .inl ⟨f,args,ts,g,first,cap,h1,?_,?_⟩
  ·rw[hT f (by simp[Op.operands,Call.operands])];exact h2
  ·rw[n3 (g:=fx T) (fun x hx=>hT x (by simp at hx;simp[Op.operands,Call.operands,hx]))];exact h3.congr_h ht
 ·exact .inr (.inl (ay (ga ha ht) hT))
def rM (all:List Oper)(T:Nat→V)(o:Oper):Option Bool:=match o.guard with
 |none=>some true
 |some (j,want)=>match(all[j]?).bind (·.dst)with
  |none=>none
  |some g=>match T g with
   | .c (.bool b)=>some (b==want)
   | .c (.tuple _)=>some false
   |_=>none
def dJ (T:Nat→V)(d:Option Nat)(v:V):Nat→V:=match d with
 |some d=>fun t=>if t=d then v else T t
 |none=>T
theorem jf (T:List (Nat×V))(d:Option Nat)(v:V):cE (ux T d v)=dJ (cE T) d v:=by
 cases d with
 |none=>rfl
 |some d=>
  funext t;simp only[ux,dJ,cE];cases hb:Nat.beq d t<;>simp only[cond_false,cond_true]
  ·rw[if_neg (fun e=>by subst e;simp at hb)]
  ·rw[if_pos (yA hb).symm]
theorem uP (T:List (Nat×V))(g:Nat)(v:V)(h:cE T g=v):cE ((g,v)::T)=cE T:=by
 funext t;simp only[cE];cases hb:Nat.beq g t<;>simp only[cond_false,cond_true];rw[←yA hb,h]
def fQ (nid:Nat):List oA→List (Nat×oA)
 | []=>[]
 |b::r=>(nid,b)::fQ (nid+1) r
theorem iJ (h:Nat→oA):∀(a b:List (Nat×oA)),lF h (a++b)=lF (lF h a) b:=by
 intro a;induction a generalizing h with
 |nil=>intro b;rfl
 |cons p a ih=>intro b;obtain⟨i,x⟩:=p;funext j;simp only[c5,lF];rw[ih]
theorem Ei (h:Nat→oA)(nid:Nat)(bs:List oA):pe h nid bs=lF h (fQ nid bs):=by
 induction bs generalizing h nid with
 |nil=>rfl
 |cons b r ih=>funext j;simp only[fQ,pe,lF];rw[ih]
theorem dq (h:Nat→oA)(nid:Nat)(out:jJ):cJ h nid out=lF h (out.wr++fQ nid out.new):=by
 unfold cJ;rw[Ei,iJ]
theorem oS (nid:Nat)(bs:List oA):(fQ nid bs).map (·.1)=(List.range bs.length).map (nid+ ·):=by
 induction bs generalizing nid with
 |nil=>rfl
 |cons b r ih=>simp only[fQ,p0,x3,r9,c7,ih];simp[Function.comp_def,Nat.add_assoc,Nat.add_comm 1]
theorem qC {h:Nat→oA}{ups:List (Nat×oA)}{j:Nat}(hj:j∉ups.map (·.1)):lF h ups j=h j:=by
 induction ups generalizing h with
 |nil=>rfl
 |cons p r ih=>obtain⟨i,b⟩:=p;simp only[p0,hZ,not_or]at hj;simp only[lF];rw[ih hj.2,if_neg hj.1]
theorem ku {h h':Nat→oA}{ups:List (Nat×oA)}{j:Nat}(hj:j∈ups.map (·.1)):lF h ups j=lF h' ups j:=by
 induction ups generalizing h h' with
 |nil=>cases hj
 |cons p r ih=>
  obtain⟨i,b⟩:=p;simp only[lF];by_cases hr:j∈r.map (·.1)
  ·exact ih hr
  ·simp only[p0,hZ,hr,or_false]at hj;rw[qC hr,qC hr,if_pos hj,if_pos hj]
theorem vv {h:Nat→oA}{a b:List (Nat×oA)}(hd:∀j∈a.map (·.1),j∉b.map (·.1)):lF (lF h a) b=lF (lF h b) a:=by
 funext j;by_cases ha:j∈a.map (·.1)
 ·rw[qC (hd j ha)];exact ku ha
 ·rw[qC (ups:=a) ha];by_cases hb:j∈b.map (·.1)
  ·exact ku hb
  ·rw[qC hb,qC hb,qC ha]
theorem uw {T:Nat→V}{x y:Option Nat}{v u:V}(h:∀d,x=some d→y≠some d):dJ (dJ T x v) y u=dJ (dJ T y u) x v:=by
 cases x with
 |none=>rfl
 |some d=>
  cases y with
  |none=>rfl
  |some e=>
   have hne:d≠e:=fun he=>h d rfl (he▸rfl);funext t;simp only[dJ];by_cases h1:t=e
   ·subst h1;rw[if_pos rfl,if_neg (Ne.symm hne),if_pos rfl]
   ·rw[if_neg h1];by_cases h2:t=d
    ·rw[if_pos h2,if_pos h2]
    ·rw[if_neg h2,if_neg h2,if_neg h1]
structure oW where
 i:Nat
 v:V
 touch:List Nat
 ups:List (Nat×oA)
def oW.fp (r:oW):Fp:=⟨r.i,r.touch,r.ups.map (·.1)⟩
structure rJ where
 i:Nat
 nid:Nat
 o:Oper
def qJ (tab:Nat→Option rA):Nat→Nat→List Oper→List rJ
 |_,_,[]=>[]
 |i,nid,o::r=>⟨i,nid,o⟩::qJ tab (i+1) (nid+iO tab o.op) r
def oJ (E:aC)(all:List Oper)(len:Nat)(x:rJ)(T:Nat→V)(h:Nat→oA)(r:oW):Prop:=
 r.i=x.i∧qg E.ntmps x.o.dst=true∧
 ((rM all T x.o=some true∧∃out,fz E x.nid x.o T h out∧r=⟨x.i,out.val,out.touch,out.wr++fQ x.nid out.new⟩∧out.new.length≤iO E.tab x.o.op∧x.nid+iO E.tab x.o.op≤len∧∀p∈out.wr,p.1<len)∨
  (rM all T x.o=some false∧r=⟨x.i,tI,[],[]⟩))
def Tr (E:aC)(all:List Oper)(len:Nat):List rJ→(Nat→V)→(Nat→oA)→List oW→(Nat→V)→(Nat→oA)→Prop
 | [],T,h,[],T',h'=>T'=T∧h'=h
 |x::xs,T,h,r::rs,T',h'=>oJ E all len x T h r∧Tr E all len xs (dJ T x.o.dst r.v) (lF h r.ups) rs T' h'
 |_,_,_,_,_,_=>False
theorem nE:∀(H:List oA) (i:Nat) (x:oA),(oD H i x).length=H.length
 | [],_,_=>rfl
 |_::_,0,_=>rfl
 |_::r,n+1,x=>by simp[oD,nE r]
theorem lZ:∀(ups:List (Nat×oA)) (H:List oA),(we H ups).length=H.length
 | [],_=>rfl
 |(i,b)::r,H=>by simp[we,lZ r,nE]
theorem qy:∀(bs:List oA) (H:List oA) (nid:Nat),Ak H nid bs=we H (fQ nid bs)
 | [],_,_=>rfl
 |b::r,H,nid=>by simp only[Ak,fQ,we];exact qy r _ _
theorem kZ:∀(a b:List (Nat×oA)) (H:List oA),we (we H a) b=we H (a++b)
 | [],_,_=>rfl
 |(i,x)::r,b,H=>by simp only[we,c5];exact kZ r b _
theorem q6:∀(H:List oA) (i:Nat) (x:oA),i<H.length→jA (oD H i x)=fun j=>if j=i then x else jA H j
 | [],_,_,h=>by simp at h
 |b::r,0,x,_=>by funext j;cases j<;>simp[oD,jA]
 |b::r,n+1,x,h=>by
  funext j;cases j with
  |zero=>simp[oD,jA]
  |succ j=>simp[oD,jA,q6 r n x (by simpa using h)]
theorem u6:∀(ups:List (Nat×oA)) (H:List oA),(∀p∈ups,p.1<H.length)→jA (we H ups)=lF (jA H) ups
 | [],_,_=>rfl
 |(i,b)::r,H,h=>by simp only[we];rw[u6 r _ (fun p hp=>by rw[nE];exact h p (by simp[hp])),q6 _ _ _ (h (i,b) (by simp))];rfl
theorem Dq {nid:Nat}{bs:List oA}{p:Nat×oA}(hp:p∈fQ nid bs):nid≤p.1∧p.1<nid+bs.length:=by
 have:p.1∈(fQ nid bs).map (·.1):=c6 hp;rw[oS]at this;simp at this;obtain⟨a,h1,h2⟩:=this;omega
theorem jX {R:Type}{E:aC}{all:List Oper}{r:R}{k:St→List Fp→Option R}:∀(rest:List Oper) (i nid:Nat) (T:List (Nat×V)) (H:List oA) (fps:List Fp),iX E all i rest nid T H fps k=some r→
  ∃rs T' H',Tr E all H.length (qJ E.tab i nid rest) (cE T) (jA H) rs (cE T') (jA H')∧H'.length=H.length∧k ⟨T',H'⟩ ((rs.map oW.fp).reverse++fps)=some r:=by
 intro rest;induction rest with
 |nil=>intro i nid T H fps hr;exact⟨[],T,H,⟨rfl,rfl⟩,rfl,hr⟩
 |cons o rest ih=>
  intro i nid T H fps hr;unfold iX at hr;dsimp only at hr;obtain⟨hd,hr⟩:=eA hr;have hgo:∀T1:List (Nat×V),cE T1=cE T→rM all (cE T) o=some true→(cd E nid o T1 (jA H) fun out=>bif Aq H nid (iO E.tab o.op) out then
    iX E all (i+1) rest (nid+iO E.tab o.op) (ux T1 o.dst out.val) (Ak (we H out.wr) nid out.new)
     (⟨i,out.touch,out.wr.map (·.1)++(List.range out.new.length).map (nid+ ·)⟩::fps) k
    else none)=some r→∃rs T' H',Tr E all H.length (qJ E.tab i nid (o::rest)) (cE T) (jA H) rs (cE T') (jA H')∧H'.length=H.length∧k ⟨T',H'⟩ ((rs.map oW.fp).reverse++fps)=some r:=by
   intro T1 hT1 hw hr;obtain⟨out,hx,hr⟩:=ir hr;obtain⟨hok,hr⟩:=eA hr;simp only[Aq,hP,x0]at hok;obtain⟨⟨o1,o2⟩,o3⟩:=hok;have o1:=wF o1;have o2:=wF o2;rw[qy,kZ]at hr;obtain⟨rs,T',H',h1,h2,h3⟩:=ih _ _ _ _ _ hr;rw[lZ]at h1 h2;rw[u6 _ _ (fun p hp=>by
    rcases n0.mp hp with hp|hp
    ·exact nC (o3 p hp)
    ·have:=Dq hp;omega)]at h1
   rw[jf,hT1]at h1;refine⟨⟨i,out.val,out.touch,out.wr++fQ nid out.new⟩::rs,T',H',⟨⟨rfl,hd,.inl ⟨hw,out,hT1▸hx,rfl,o1,o2,fun p hp=>nC (o3 p hp)⟩⟩,h1⟩,h2,?_⟩;simp only[p0,k8,j4,x5];unfold oW.fp;simp only[l9,oS];exact h3
  have hskip:∀T1:List (Nat×V),cE T1=cE T→rM all (cE T) o=some false→iX E all (i+1) rest (nid+iO E.tab o.op) (ux T1 o.dst tI) H (⟨i,[],[]⟩::fps) k=some r→
    ∃rs T' H',Tr E all H.length (qJ E.tab i nid (o::rest)) (cE T) (jA H) rs (cE T') (jA H')∧H'.length=H.length∧k ⟨T',H'⟩ ((rs.map oW.fp).reverse++fps)=some r:=by
   intro T1 hT1 hw hr;obtain⟨rs,T',H',h1,h2,h3⟩:=ih _ _ _ _ _ hr;rw[jf,hT1]at h1;refine⟨⟨i,tI,[],[]⟩::rs,T',H',⟨⟨rfl,hd,.inr ⟨hw,rfl⟩⟩,h1⟩,h2,?_⟩;simp only[p0,k8,j4,x5];exact h3
  split at hr
  ·rename_i hg;exact hgo T rfl (by simp[rM,hg]) hr
  ·rename_i j want hg;split at hr
   ·cases hr
   ·rename_i g hgd;have hwant:∀b,cE T g= .c (.bool b)→rM all (cE T) o=some (b==want):=fun b hb=>by simp[rM,hg,hgd,hb]
    split at hr
    ·rename_i hb;cases want<;>simp only[cond_true,cond_false]at hr
     ·exact hskip _ (uP _ _ _ hb) (hwant _ hb) hr
     ·exact hgo _ (uP _ _ _ hb) (hwant _ hb) hr
    ·rename_i hb;cases want<;>simp only[cond_true,cond_false]at hr
     ·exact hgo _ (uP _ _ _ hb) (hwant _ hb) hr
     ·exact hskip _ (uP _ _ _ hb) (hwant _ hb) hr
    ·rename_i vs hb;exact hskip _ rfl (by simp[rM,hg,hgd,hb]) hr
    ·cases hr
section
theorem bf {d:Nat}{l:List Nat}:l.any (Nat.beq d)=true↔d∈l:=by
 simp only[x8];constructor
 ·rintro⟨x,hx,hb⟩;have:=yA hb;subst this;exact hx
 ·intro h;exact⟨d,h,by simp⟩
theorem nL {d:Nat}{l:List Nat}:(!(l.any (Nat.beq d)))=true↔d∉l:=by
 rw[w4,←Bool.not_eq_true,bf]
theorem wP {a b:List Nat}:(!dY a b)=true↔∀j∈a,j∉b:=by
 unfold dY;rw[w4,←Bool.not_eq_true,x8];simp only[not_exists,not_and];constructor
 ·intro h j hj hb;exact h j hj (bf.mpr hb)
 ·intro h j hj hb;exact h j hj (bf.mp hb)
variable {E:aC}{all:List Oper}{len:Nat}
theorem oJ.congr {x:rJ}{T T':Nat→V}{h h':Nat→oA}{r:oW}(hc:oJ E all len x T h r)(hT:∀t∈sU all x.o,T' t=T t)(hh:∀id∈r.touch,h' id=h id):oJ E all len x T' h' r:=by
 obtain⟨h1,h2,h3⟩:=hc;have hop:∀y∈x.o.op.operands,fx T' y=fx T y:=by
  intro y hy;cases y with
  |tmp t=>refine hT t ?_;unfold sU Bv;exact e7 _ (List.mem_filterMap.mpr ⟨.tmp t,by simpa using hy,rfl⟩)
  |_=>rfl
 have hw:rM all T' x.o=rM all T x.o:=by
  unfold rM;cases hg:x.o.guard with
  |none=>rfl
  |some gw=>
   obtain⟨j,want⟩:=gw;dsimp only;cases hd:(all[j]?).bind (·.dst)with
   |none=>rfl
   |some g=>dsimp only;rw[hT g (by unfold sU;rw[hg];simp only[hd];exact x6 _ (by simp))]
 refine⟨h1,h2,?_⟩;rw[hw];rcases h3 with⟨a1,out,a2,a3,a4⟩|h3
 ·exact .inl ⟨a1,out,a2.congr hop (by subst a3;exact hh),a3,a4⟩
 ·exact .inr h3
structure wv (all:List Oper)(x y:rJ)(rx ry:oW):Prop where
 a1:∀d,x.o.dst=some d→d∉sU all y.o
 a2:∀d,x.o.dst=some d→y.o.dst≠some d
 a3:∀d,y.o.dst=some d→d∉sU all x.o
 b1:∀j∈rx.touch,j∉ry.ups.map (·.1)
 b2:∀j∈rx.ups.map (·.1),j∉ry.touch
 b3:∀j∈rx.ups.map (·.1),j∉ry.ups.map (·.1)
theorem p9 {T:Nat→V}{dst:Option Nat}{v:V}{t:Nat}(h:∀d,dst=some d→d≠t):dJ T dst v t=T t:=by
 cases dst with
 |none=>rfl
 |some d=>simp only[dJ];rw[if_neg (fun e=>h d rfl e.symm)]
theorem oJ.swap {x y:rJ}{T:Nat→V}{h:Nat→oA}{rx ry:oW}(hx:oJ E all len x T h rx)(hy:oJ E all len y (dJ T x.o.dst rx.v) (lF h rx.ups) ry)(ha:wv all x y rx ry):
  oJ E all len y T h ry∧oJ E all len x (dJ T y.o.dst ry.v) (lF h ry.ups) rx∧dJ (dJ T x.o.dst rx.v) y.o.dst ry.v=dJ (dJ T y.o.dst ry.v) x.o.dst rx.v∧lF (lF h rx.ups) ry.ups=lF (lF h ry.ups) rx.ups:=by
 have hy':oJ E all len y T h ry:=hy.congr (fun t ht=>(p9 (fun d hd he=>ha.a1 d hd (he▸ht))).symm) (fun id hid=>(qC (fun hm=>ha.b2 id hm hid)).symm);have hT:∀t∈sU all x.o,dJ T y.o.dst ry.v t=T t:=fun t ht=>p9 (fun d hd he=>ha.a3 d hd (he▸ht));refine⟨hy',?_,uw ha.a2,vv ha.b3⟩;exact hx.congr hT (fun id hid=>qC (ha.b1 id hid))
def wo (E:aC)(all:List Oper)(len:Nat):List (rJ×oW)→(Nat→V)→(Nat→oA)→(Nat→V)→(Nat→oA)→Prop
 | [],T,h,T',h'=>T'=T∧h'=h
 |p::xs,T,h,T',h'=>oJ E all len p.1 T h p.2∧wo E all len xs (dJ T p.1.o.dst p.2.v) (lF h p.2.ups) T' h'
theorem Tr.pairs:∀{xs:List rJ} {T:Nat→V} {h:Nat→oA} {rs:List oW} {T':Nat→V} {h':Nat→oA},Tr E all len xs T h rs T' h'→∃L:List (rJ×oW),L.map (·.1)=xs∧L.map (·.2)=rs∧wo E all len L T h T' h'
 | [],_,_,[],_,_,ht=>⟨[],rfl,rfl,ht⟩
 |x::xs,_,_,r::rs,_,_,ht=>by obtain⟨h1,h2⟩:=ht;obtain⟨L,a1,a2,a3⟩:=Tr.pairs h2;exact⟨(x,r)::L,by simp[a1],by simp[a2],h1,a3⟩
 | [],_,_,_::_,_,_,ht=>ht.elim
 |_::_,_,_,[],_,_,ht=>ht.elim
theorem wo.front {p:rJ×oW}{L2:List (rJ×oW)}{T':Nat→V}{h':Nat→oA}:∀(L1:List (rJ×oW)) (T:Nat→V) (h:Nat→oA),wo E all len (L1++p::L2) T h T' h'→(∀q∈L1,wv all q.1 p.1 q.2 p.2)→
  oJ E all len p.1 T h p.2∧wo E all len (L1++L2) (dJ T p.1.o.dst p.2.v) (lF h p.2.ups) T' h'
 | [],_,_,ht,_=>ht
 |q::L1,T,h,ht,ha=>by obtain⟨h1,h2⟩:=ht;obtain⟨h3,h4⟩:=wo.front L1 _ _ h2 (fun q hq=>ha q (by simp[hq]));obtain⟨s1,s2,s3,s4⟩:=h1.swap h3 (ha q (by simp));rw[s3,s4]at h4;exact⟨s1,s2,h4⟩
def bw (o:Oper):List Nat:=(o.after.toList.filter (Region.binds .any)).map (·.on)
theorem z8 {accf:Nat→Nat}{x:Nat}:∀(ds:List Nat) (m:Nat),(ds.foldl (fun m d=>m|||(1<<<d)|||accf d) m).testBit x=true→
  m.testBit x=true∨x∈ds∨∃d∈ds,(accf d).testBit x=true
 | [],m,h=>Or.inl h
 |d::ds,m,h=>by
  rw[List.foldl_cons]at h;rcases z8 ds _ h with h|h|⟨e,he,h⟩
  ·rw[Nat.testBit_or,Nat.testBit_or,Nat.testBit_shiftLeft]at h;simp only[Bool.or_eq_true,hP,decide_eq_true_eq]at h;rcases h with(h|⟨h1,h2⟩)|h
   ·exact Or.inl h
   ·have hz:x-d=0:=by
     rcases Nat.eq_zero_or_pos (x-d)with h|h
     ·exact h
     ·rw[Nat.testBit_lt_two_pow (Nat.one_lt_two_pow (by omega))]at h2;cases h2
    have:x=d:=by omega
    exact Or.inr (Or.inl (by simp[this]))
   ·exact Or.inr (Or.inr ⟨d,by simp,h⟩)
  ·exact Or.inr (Or.inl (b5 _ h))
  ·exact Or.inr (Or.inr ⟨e,b5 _ he,h⟩)
theorem bh {S:Nat→Prop}(hS:∀j o,S j→all[j]?=some o→∀d∈bw o,S d):
  ∀(rest:List Oper) (acc:List Nat),all=all.take acc.length++rest→acc.length≤all.length→(∀j o,j<acc.length→all[j]?=some o→(∀d∈bw o,S d)→∀x,(acc.reverse.getD j 0).testBit x=true→S x)→
   ∀j o,all[j]?=some o→(∀d∈bw o,S d)→∀x,((iL rest acc).getD j 0).testBit x=true→S x:=by
 intro rest;induction rest with
 |nil=>
  intro acc hall hle hinv j o hj hd x hx;simp only[iL]at hx;have:j<acc.length:=by have hjl:j<all.length:=(y0.mp hj).1;have:=congrArg List.length hall;simp at this;omega
  exact hinv j o this hj hd x hx
 |cons o rest ih=>
  intro acc hall hle hinv;have hlen:acc.length<all.length:=by have:=congrArg List.length hall;simp at this;omega
  have hat:all[acc.length]?=some o:=by
   have h2:(all.take acc.length++o::rest)[acc.length]?=some o:=by rw[w3 (by simp;omega)];simp[Nat.min_eq_left hle]
   rw[←hall]at h2;exact h2
  simp only[iL];refine ih _ ?_ (by simp;omega) ?_
  ·simp only[x3];rw[List.take_add_one,hat];simp only[Option.toList,j4,x5];exact hall
  ·intro j oj hj hoj hd x hx;simp only[k8]at hx;simp only[x3]at hj;rcases e5 j acc.length with hlt|hge
   ·refine hinv j oj hlt hoj hd x ?_;rw[xK,u0 (by simpa using hlt)]at hx;rw[xK];exact hx
   ·have:j=acc.length:=by omega
    subst this;rw[hat]at hoj;simp only[hC]at hoj;subst hoj;rw[xK,w3 (by simp)]at hx;simp only[List.length_reverse,Nat.sub_self,List.getElem?_cons_zero,b6]at hx;rcases z8 _ _ hx with hx|hx|⟨d,hd1,hx⟩
    ·rw[Nat.zero_testBit]at hx;cases hx
    ·exact hd x hx
    ·have hSd:=hd d hd1;rcases e5 d acc.length with hlt|hge
     ·have hdl:d<all.length:=by omega
      exact hinv d _ hlt (hN hdl) (fun d' hd'=>hS d _ hSd (hN hdl) d' hd') x hx
     ·rw[xK,r0 (by simpa using hge)]at hx;rw[Option.getD_none,Nat.zero_testBit]at hx;cases hx
theorem kQ:∀(rest:List Oper) (k:Nat),dM k rest=true→∀j o,rest[j]?=some o→∀d∈bw o,d<k+j
 | [],_,_,j,o,hj=>by simp at hj
 |x::r,k,hb,0,o,hj=>by simp at hj;subst hj;simp only[dM,hP,x0]at hb;intro d hd;simp only[bw,k7,n4]at hd;obtain⟨e,⟨h1,h2⟩,rfl⟩:=hd;have:=hb.1 e h1;rw[h2]at this;simp at this;omega
 |x::r,k,hb,j+1,o,hj=>by simp only[dM,hP]at hb;intro d hd;have:=kQ r (k+1) hb.2 j o (by simpa using hj) d hd;omega
theorem wN {bef:List Nat}:∀(l:List Fp),dn all bef l=true→l.Pairwise (fun y x=>iz all bef x y=true)
 | [],_=>.nil
 |y::r,h=>by simp only[dn,hP,x0]at h;exact .cons h.1 (wN r h.2)
section
variable {P:Program}{ops:Array Oper}{Q:Exit→Act→World→Prop}
theorem jj {o:Oper}{d:Nat}:d∈bw o↔∃e∈o.after,Region.binds .any e=true∧e.on=d:=by
 simp only[bw,k7,n4,Array.mem_toList_iff];constructor
 ·rintro⟨e,⟨h1,h2⟩,h3⟩;exact⟨e,h1,h2,h3⟩
 ·rintro⟨e,h1,h2,h3⟩;exact⟨e,⟨h1,h2⟩,h3⟩
theorem lV {l:Array Bool}{i:Nat}(h:l.getD i false=true):l.getD i true=true:=by
 rw[q0]at h⊢;cases hc:l[i]?<;>rw[hc]at h<;>simp_all
theorem mV {l:Array Bool}{i:Nat}(hi:i<l.size)(h:l.getD i true=true):l.getD i false=true:=by
 rw[q0,r8 hi]at h⊢;exact h
theorem Ca (I:(Nat→V)→(Nat→oA)→List rJ→Act→World→Prop){T':Nat→V}{h':Nat→oA}
  (hstep:∀T h pre x post r a w K,oJ E ops.toList len x T h r→I T h (pre++x::post) a w→ops[x.i]?=some x.o→(∀a' w',I (dJ T x.o.dst r.v) (lF h r.ups) (pre++post) a' w'→K a' w')→wpOp P ops Q x.i K a w)
  (hb:dM 0 ops.toList=true)(hQ:∀a w,I T' h' [] a w→Q .normal a w):
  ∀(fuel:Nat) (listed:Array Bool) (L:List (rJ×oW)) (T:Nat→V) (h:Nat→oA) (a:Act) (w:World),wo E ops.toList len L T h T' h'→I T h (L.map (·.1)) a w→L.length≤fuel→
   listed.size=ops.size→L.map (·.1.i)=(List.range ops.size).filter (fun i=>!listed.getD i true)→(∀p∈L,ops[p.1.i]?=some p.1.o)→(∀p∈L,p.2.i=p.1.i)→
   L.Pairwise (fun p q=>iz ops.toList (iL ops.toList []) p.2.fp q.2.fp=true)→
   (∀j o,listed.getD j false=true→ops[j]?=some o→∀d∈bw o,listed.getD d false=true)→
   wpAny P .any ops Q fuel listed a w:=by
 intro fuel;induction fuel with
 |zero=>
  intro listed L T h a w ht hI hlen hsz hL ho hri hpw hcl;have:L=[]:=List.length_eq_zero_iff.mp (by omega);subst this;obtain⟨rfl,rfl⟩:=ht;refine⟨?_,hQ a w hI⟩;rw[List.eq_nil_iff_forall_not_mem];intro j hj;rw[mem_ready]at hj;obtain⟨h0,o,hjo,_⟩:=hj;have hjl:j<ops.size:=(u3.mp hjo).1;have:j∈(List.range ops.size).filter (fun i=>!listed.getD i true):=by simp only[n4,l6];exact⟨hjl,by rw[h0];rfl⟩
  rw[←hL]at this;simp at this
 |succ fuel ih=>
  intro listed L T h a w ht hI hlen hsz hL ho hri hpw hcl;refine⟨fun hr=>?_,fun i hi=>?_⟩
  ·cases L with
   |nil=>obtain⟨rfl,rfl⟩:=ht;exact hQ a w hI
   |cons p L=>
    exfalso;have hpo:=ho p (by simp);have hpl:p.1.i<ops.size:=(u3.mp hpo).1;have hin:p.1.i∈(List.range ops.size).filter (fun i=>!listed.getD i true):=by rw[←hL];simp
    simp only[n4,l6,w4]at hin;have hfirst:∀j,j<p.1.i→listed.getD j true=true:=by
     intro j hj;cases hc:listed.getD j true with
     |true=>rfl
     |false=>
      exfalso;have hm:j∈(p::L).map (·.1.i):=by rw[hL];simp only[n4,l6];exact⟨by omega,by rw[hc];rfl⟩
      have hsorted:((p::L).map (·.1.i)).Pairwise (· < ·):=by rw[hL];exact List.Pairwise.filter _ List.pairwise_lt_range
      simp only[p0,c8,hZ]at hsorted hm;rcases hm with rfl|hm
      ·omega
      ·have:=hsorted.1 j hm;omega
    have hrd:p.1.i∈Region.ready .any ops listed:=by rw[mem_ready];refine⟨hin.2,p.1.o,hpo,fun e he hbe=>?_⟩;have hlt:e.on<0+p.1.i:=kQ _ _ hb p.1.i p.1.o (by simpa using hpo) e.on (jj.mpr ⟨e,he,hbe,rfl⟩);exact mV (by omega) (hfirst e.on (by omega))
    rw[hr]at hrd;cases hrd
  ·have hi':=hi;rw[mem_ready]at hi;obtain⟨h0,o,hio,hdeps⟩:=hi;have hil:i<ops.size:=(u3.mp hio).1;have hm:i∈L.map (·.1.i):=by rw[hL];simp only[n4,l6];exact⟨hil,by rw[h0];rfl⟩
   obtain⟨p,hpL,hpi⟩:=k7.mp hm;obtain⟨L1,L2,rfl⟩:=List.append_of_mem hpL;have hpo:=ho p hpL;have hd':∀d∈bw o,listed.getD d false=true:=fun d hd=>by obtain⟨e,he,hbe,rfl⟩:=jj.mp hd;exact hdeps e he hbe
   have hbef:∀x,((iL ops.toList []).getD i 0).testBit x=true→listed.getD x false=true:=
    bh (all:=ops.toList) (S:=fun j=>listed.getD j false=true) (fun j o hj hjo=>hcl j o hj (by simpa using hjo)) ops.toList [] (by simp) (by simp) (fun j o hj=>by simp at hj) i o (by simpa using hio) hd'
   have hap:∀q∈L1,wv ops.toList q.1 p.1 q.2 p.2:=by
    intro q hq;have hind:iz ops.toList (iL ops.toList []) q.2.fp p.2.fp=true:=by rw[p7]at hpw;exact hpw.2.2 q hq p (by simp)
    have hqL:q∈L1++p::L2:=by simp[hq]
    have hqu:listed.getD q.1.i true=false:=by have:q.1.i∈(L1++p::L2).map (·.1.i):=c6 hqL;rw[hL]at this;simp only[n4,w4]at this;exact this.2
    simp only[iz,oW.fp]at hind;rw[hri q hqL,hri p hpL,hpi,Bool.or_eq_true,hP,hP,hP]at hind;rcases hind with hind|⟨⟨⟨h1,h2⟩,h3⟩,h4⟩
    ·have:=lV (hbef _ hind);rw[hqu]at this;cases this
    ·have e1:ops.toList.getD q.1.i default=q.1.o:=by rw[xK];have:=ho q hqL;simp[this]
     have e2:ops.toList.getD i default=p.1.o:=by rw[←hpi,xK];simp[hpo]
     rw[e1,e2]at h1;simp only[xk,hP]at h1;refine⟨fun d hd=>?_,fun d hd he=>?_,fun d hd=>?_,wP.mp h2,wP.mp h3,wP.mp h4⟩
     ·have:=h1.1;rw[hd]at this;simp only[hP]at this;exact nL.mp this.1
     ·have:=h1.1;rw[hd]at this;simp only[hP]at this;exact nL.mp this.2 (by simp[he])
     ·have:=h1.2;rw[hd]at this;exact nL.mp this
   obtain⟨hc,ht'⟩:=wo.front L1 T h ht hap;rw[←hpi];refine hstep T h (L1.map (·.1)) p.1 (L2.map (·.1)) p.2 a w _ hc (by simpa using hI) hpo (fun a' w' hI'=>?_);refine ih _ (L1++L2) _ _ a' w' ht' (by simpa using hI') (by simp at hlen⊢;omega) (by simpa using hsz) ?_ ?_ ?_ ?_ ?_
   ·have hnd:((L1++p::L2).map (·.1.i)).Nodup:=by rw[hL];exact(List.nodup_range).filter _
    have hf:((List.range ops.size).filter fun j=>!(listed.setIfInBounds p.1.i true).getD j true)=(((List.range ops.size).filter fun j=>!listed.getD j true).filter fun j=>j != p.1.i):=by
     rw[List.filter_filter];refine List.filter_congr (fun j hj=>?_);by_cases hji:j=p.1.i
     ·subst hji;have:(listed.setIfInBounds p.1.i true).getD p.1.i true=true:=by
       rw[q0,Array.getElem?_setIfInBounds_self];split<;>rfl
      rw[this];simp
     ·rw[getD_set_ne true (Ne.symm hji)];simp[hji]
    rw[hf,←hL];simp only[l9,p0,List.filter_append,List.filter_cons,bne_self_eq_false,a8,if_false];simp only[l9,p0,List.nodup_append,l7,hZ]at hnd;obtain⟨_,⟨hn1,_⟩,hn2⟩:=hnd;rw[y7.mpr,y7.mpr]
    ·intro x hx;simp only[bne_iff_ne,ne_eq];rintro rfl;exact hn1 hx
    ·intro x hx;simp only[bne_iff_ne,ne_eq];rintro rfl;exact hn2 _ hx _ (.inl rfl) rfl
   ·intro q hq;refine ho q ?_;simp only[n0,hZ]at hq⊢;rcases hq with h|h<;>simp[h]
   ·intro q hq;refine hri q ?_;simp only[n0,hZ]at hq⊢;rcases hq with h|h<;>simp[h]
   ·exact hpw.sublist (List.Sublist.append_left (s6 _ _) _)
   ·intro j oj hj hoj d hd;by_cases hji:j=p.1.i
    ·subst hji;rw[hpi,hio]at hoj;simp only[hC]at hoj;subst hoj;exact getD_set_true (hd' d hd)
    ·rw[getD_set_ne false (Ne.symm hji)]at hj;exact getD_set_true (hcl j oj hj hoj d hd)
theorem jZ {G:Fence}{n:Nat}(I:(Nat→V)→(Nat→oA)→List rJ→Act→World→Prop){T':Nat→V}{h':Nat→oA}
  (hstep:∀T h pre x post r a w K,oJ E ops.toList len x T h r→I T h (pre++x::post) a w→ops[x.i]?=some x.o→(∀a' w',I (dJ T x.o.dst r.v) (lF h r.ups) (pre++post) a' w'→K a' w')→wpOpIn G n P ops Q x.i K a w)
  (hQ:∀a w,I T' h' [] a w→Q .normal a w):
  ∀(L:List (rJ×oW)) (T:Nat→V) (h:Nat→oA) (a:Act) (w:World),wo E ops.toList len L T h T' h'→I T h (L.map (·.1)) a w→(∀p∈L,ops[p.1.i]?=some p.1.o)→wpOpsIn G n P ops Q (L.map (·.1.i)) a w:=by
 intro L;induction L with
 |nil=>intro T h a w ht hI ho;obtain⟨rfl,rfl⟩:=ht;exact hQ a w hI
 |cons p L ih=>intro T h a w ht hI ho;simp only[p0];rw[wpOpsIn_cons];exact hstep T h [] p.1 (L.map (·.1)) p.2 a w _ ht.1 (by simpa using hI) (ho p (by simp)) (fun a' w' hI'=>ih _ _ a' w' ht.2 (by simpa using hI') (fun q hq=>ho q (by simp[hq])))
end
end
mutual
theorem nA.avoid {ρ:fC}{M M':Nat→Prop}{w:World}(hM:∀b,M' b→M b):∀(x:V) (v:Value),nA ρ M w x v→nA ρ M' w x v
 | .c _,_,h=>by simpa only[nA]using h
 | .poison,_,_=>by simp only[nA]
 | .ptr _ _ _,_,h=>by simpa only[nA]using h
 | .sw _ _,_,h=>by simpa only[nA]using h
 | .sl _ _ _ _,_,h=>by simpa only[nA]using h
 | .rp _ _ _,_,h=>by simpa only[nA]using h
 | .ep _ _ _ _,_,h=>by simpa only[nA]using h
 | .tp _ _ _,_,h=>by simpa only[nA]using h
 | .yv _,_,h=>by simpa only[nA]using h
 | .inl _ _ _,_,h=>by
  simp only[nA]at h⊢;obtain h2|⟨b,o,cap,h2,h3,h4,h5,h6⟩:=h
  ·exact .inl h2
  ·exact .inr ⟨b,o,cap,h2,h3,h4,fun hm=>h5 (hM b hm),fun i hi=>by obtain⟨u,hu,hr⟩:=h6 i hi;exact⟨u,hu,hr.avoid hM⟩⟩
 | .inlp _ _ _ _,_,h=>by simp only[nA]at h⊢;obtain⟨b,o,h2,h3,h4,h5,h6⟩:=h;exact⟨b,o,h2,h3,h4,fun hm=>h5 (hM b hm),fun i hi=>by obtain⟨u,hu,hr⟩:=h6 i hi;exact⟨u,hu,hr.avoid hM⟩⟩
 | .il _ _ _,_,h=>by
  simp only[nA]at h⊢;obtain⟨h0,h1,h2|⟨b,o,cap,h2,h3,h4,h5,h6⟩⟩:=h
  ·exact⟨h0,h1,.inl h2⟩
  ·exact⟨h0,h1,.inr ⟨b,o,cap,h2,h3,h4,fun hm=>h5 (hM b hm),h6⟩⟩
 | .iv _ _,_,h=>by
  simp only[nA]at h⊢;obtain⟨h0,h2|⟨b,o,cap,h2,h3,h4,h5,h7⟩⟩:=h
  ·exact⟨h0,.inl h2⟩
  ·exact⟨h0,.inr ⟨b,o,cap,h2,h3,h4,fun hm=>h5 (hM b hm),h7⟩⟩
 | .ilp _ _ _ _,_,h=>by simp only[nA]at h⊢;obtain⟨b,o,h2,h3,h4,h5,h6⟩:=h;exact⟨b,o,h2,h3,h4,fun hm=>h5 (hM b hm),h6⟩
 | .ivp _ _ _ _,_,h=>by simp only[nA]at h⊢;obtain⟨b,o,h2,h3,h4,h5,h7⟩:=h;exact⟨b,o,h2,h3,h4,fun hm=>h5 (hM b hm),h7⟩
 | .agg cs,_,h=>by simp only[nA]at h⊢;obtain⟨vs,h1,h2⟩:=h;exact⟨vs,h1,iA.avoid hM cs _ h2⟩
 | .tup cs,_,h=>by simp only[nA]at h⊢;obtain⟨vs,h1,h2⟩:=h;exact⟨vs,h1,iA.avoid hM cs _ h2⟩
 | .fn _ a c,_,h=>by simp only[nA]at h⊢;obtain⟨va,vc,h1,h2,h3⟩:=h;exact⟨va,vc,h1,iA.avoid hM a _ h2,iA.avoid hM c _ h3⟩
theorem iA.avoid {ρ:fC}{M M':Nat→Prop}{w:World}(hM:∀b,M' b→M b):∀(x:List V) (v:List Value),iA ρ M w x v→iA ρ M' w x v
 | [],[],_=>by simp only[iA]
 |x::xs,v::vs,h=>by simp only[iA]at h⊢;exact⟨nA.avoid hM x v h.1,iA.avoid hM xs vs h.2⟩
 | [],_::_,h=>by simp only[iA]at h
 |_::_,[],h=>by simp only[iA]at h
end
mutual
theorem nA.ren {ρ ρ':fC}{M M':Nat→Prop}{w:World}{m:Nat→Option Nat}(hm:∀i j p,m i=some j→ρ i=some p→ρ' j=some p):∀(x:V) (v:Value),((∀b,M' b→M b)∨eG x=true)→nA ρ M w x v→nA ρ' M' w (I4 m x) v
 | .c _,_,_,h=>by simpa only[nA,Ev.I4]using h
 | .poison,_,_,_=>by simp only[nA,Ev.I4]
 | .ptr id _ _,_,_,h=>by
  simp only[Ev.I4];cases hid:m id with
  |none=>simp only[nA]
  |some j=>simp only[nA]at h⊢;obtain⟨b,n,C,R,h1,h2,h3⟩:=h;exact⟨b,n,C,R,hm _ _ _ hid h1,h2,h3⟩
 | .sw id _,_,_,h=>by
  simp only[Ev.I4];cases hid:m id with
  |none=>simp only[nA]
  |some j=>
   simp only[nA]at h⊢;obtain⟨h0,⟨b,n,C,R,cap,h1,h2⟩|⟨R,h1,h2⟩⟩:=h
   ·exact⟨h0,.inl ⟨b,n,C,R,cap,hm _ _ _ hid h1,h2⟩⟩
   ·exact⟨h0,.inr ⟨R,hm _ _ _ hid h1,h2⟩⟩
 | .sl id _ _ _,_,_,h=>by
  simp only[Ev.I4];cases hid:m id with
  |none=>simp only[nA]
  |some j=>
   simp only[nA]at h⊢;obtain⟨h0,⟨b,n,C,R,cap,h1,h2⟩|⟨h1,h2⟩⟩:=h
   ·exact⟨h0,.inl ⟨b,n,C,R,cap,hm _ _ _ hid h1,h2⟩⟩
   ·exact⟨h0,.inr ⟨h1,h2⟩⟩
 | .rp id _ _,_,_,h=>by
  simp only[Ev.I4];cases hid:m id with
  |none=>simp only[nA]
  |some j=>simp only[nA]at h⊢;obtain⟨h0,p,pl,h1,h2⟩:=h;exact⟨h0,p,pl,hm _ _ _ hid h1,h2⟩
 | .ep id _ _ _,_,_,h=>by
  simp only[Ev.I4];cases hid:m id with
  |none=>simp only[nA]
  |some j=>simp only[nA]at h⊢;obtain⟨p,pl,b,h1,h2⟩:=h;exact⟨p,pl,b,hm _ _ _ hid h1,h2⟩
 | .tp id _ _,_,_,h=>by
  simp only[Ev.I4];cases hid:m id with
  |none=>simp only[nA]
  |some j=>simp only[nA]at h⊢;obtain⟨b,n,C,R,h1,h2,h3⟩:=h;exact⟨b,n,C,R,hm _ _ _ hid h1,h2,h3⟩
 | .yv id,_,_,h=>by
  simp only[Ev.I4];cases hid:m id with
  |none=>simp only[nA]
  |some j=>simp only[nA]at h⊢;obtain⟨p,h1,h2⟩:=h;exact⟨p,hm _ _ _ hid h1,h2⟩
 | .inl k s rows,v,hM,h=>by
  simp only[Ev.I4];rcases hM with hM|hM
  ·have:=nA.avoid hM _ _ h;simpa only[nA]using this
  ·simp[eG]at hM
 | .inlp k s rows i,v,hM,h=>by
  simp only[Ev.I4];rcases hM with hM|hM
  ·have:=nA.avoid hM _ _ h;simpa only[nA]using this
  ·simp[eG]at hM
 | .il k s l,v,hM,h=>by
  simp only[Ev.I4];rcases hM with hM|hM
  ·have:=nA.avoid hM _ _ h;simpa only[nA]using this
  ·simp[eG]at hM
 | .iv s l,v,hM,h=>by
  simp only[Ev.I4];rcases hM with hM|hM
  ·have:=nA.avoid hM _ _ h;simpa only[nA]using this
  ·simp[eG]at hM
 | .ilp k l off ext,v,hM,h=>by
  simp only[Ev.I4];rcases hM with hM|hM
  ·have:=nA.avoid hM _ _ h;simpa only[nA]using this
  ·simp[eG]at hM
 | .ivp l i off ext,v,hM,h=>by
  simp only[Ev.I4];rcases hM with hM|hM
  ·have:=nA.avoid hM _ _ h;simpa only[nA]using this
  ·simp[eG]at hM
 | .agg cs,_,hM,h=>by simp only[nA,Ev.I4]at h⊢;obtain⟨vs,h1,h2⟩:=h;exact⟨vs,h1,iA.ren hm cs _ (by simpa only[eG]using hM) h2⟩
 | .tup cs,_,hM,h=>by simp only[nA,Ev.I4]at h⊢;obtain⟨vs,h1,h2⟩:=h;exact⟨vs,h1,iA.ren hm cs _ (by simpa only[eG]using hM) h2⟩
 | .fn _ a c,_,hM,h=>by simp only[nA,Ev.I4]at h⊢;obtain⟨va,vc,h1,h2,h3⟩:=h;exact⟨va,vc,h1,iA.ren hm a _ (hM.imp id (fun h=>by simp only[eG,hP]at h;exact h.1)) h2,iA.ren hm c _ (hM.imp id (fun h=>by simp only[eG,hP]at h;exact h.2)) h3⟩
theorem iA.ren {ρ ρ':fC}{M M':Nat→Prop}{w:World}{m:Nat→Option Nat}(hm:∀i j p,m i=some j→ρ i=some p→ρ' j=some p):∀(x:List V) (v:List Value),((∀b,M' b→M b)∨sH x=true)→iA ρ M w x v→iA ρ' M' w (uL m x) v
 | [],[],_,_=>by simp only[iA,uL]
 |x::xs,v::vs,hM,h=>by simp only[iA,uL]at h⊢;exact⟨nA.ren hm x v (hM.imp id (fun h=>by simp only[sH,hP]at h;exact h.1)) h.1,iA.ren hm xs vs (hM.imp id (fun h=>by simp only[sH,hP]at h;exact h.2)) h.2⟩
 | [],_::_,_,h=>by simp only[iA]at h
 |_::_,[],_,h=>by simp only[iA]at h
end
theorem wU (m:Nat→Option Nat):∀l:List V,(uL m l).length=l.length
 | []=>rfl
 |_::r=>by simp[uL,wU m r]
theorem nM (m:Nat→Option Nat):∀l:List V,(∀x∈l,jc x)→uL m l=l
 | [],_=>rfl
 |x::r,h=>by simp only[uL,nM m r fun y hy=>h y (b5 _ hy)];have h0:=h x (by simp);cases x<;>first|rfl|exact h0.elim
theorem Dy (m:Nat→Option Nat)(s pid:Nat)(π:List Nat):uL m (cL s pid π)=match m pid with
  |some j=>cL s j π
  |none=>π.map fun _=>.poison:=by
 induction π with
 |nil=>simp only[cL,b9,uL];split<;>rfl
 |cons q r ih=>simp only[cL,p0,uL,Ev.I4]at ih⊢;rw[ih];cases m pid<;>rfl
theorem cB.ren {ρ ρ':fC}{M M':Nat→Prop}{w:World}{m:Nat→Option Nat}(hm:∀i j p,m i=some j→ρ i=some p→ρ' j=some p){p:Pl}{cs:List V}(hM:(∀b,M' b→M b)∨sH cs=true)(h:cB ρ M w p cs):cB ρ' M' w p (uL m cs):=by
 obtain⟨h1,⟨h2,h3,h4⟩|⟨b,c,h2,h3,h4,h5⟩⟩:=h
 ·subst h3;exact⟨h1,.inl ⟨h2,rfl,h4⟩⟩
 ·exact⟨by rw[wU];exact h1,.inr ⟨b,c,h2,h3,h4,iA.ren hm _ _ hM h5⟩⟩
theorem lJ.ren {M M':Nat→Prop}{w:World}{p:gT}{cs:List V}(hM:(∀b,M' b→M b)∨sH cs=true)(hl:∀x∈cs,jc x)(h:lJ M w p cs):lJ M' w p cs:=by
 obtain⟨h1,h2|⟨b,c,h2,h3,h4,h5⟩⟩:=h
 ·exact⟨h1,.inl h2⟩
 ·have:=iA.ren (ρ':=fun _=>none) (m:=fun _=>none) (fun i j p e=>by cases e) _ _ hM h5;rw[nM _ _ hl]at this;exact⟨h1,.inr ⟨b,c,h2,h3,h4,this⟩⟩
theorem gY (k:IntKind):∀l:List Int,sH ((RK.int k).flat l)=true
 | []=>rfl
 |x::l=>by rw[RK.flat_cons];simp only[RK.cells,c5,e6,sH,eG,gY k l,Bool.and_self]
theorem jm (s pid:Nat):∀π:List Nat,sH (cL s pid π)=true
 | []=>rfl
 |q::r=>by have:=jm s pid r;simp only[cL]at this;simp only[cL,p0,sH,eG,this,Bool.and_self]
theorem wA.ren {ρ ρ':fC}{M M':Nat→Prop}{w:World}{m:Nat→Option Nat}(hm:∀i j p,m i=some j→ρ i=some p→ρ' j=some p){p:Pl}{x:oA}(hM:(∀b,M' b→M b)∨rK x=true)(h:wA ρ M w p x):wA ρ' M' w p (jI m x):=by
 cases x with
 |dead=>trivial
 |ints k l=>exact h
 |vals cs=>exact cB.ren hm (by simpa only[rK]using hM) h
 |amb A pre=>exact h
 |tw r l=>have:=cB.ren hm (hM.imp id (fun h=>by cases h)) h;rw[nM _ _ (r.flat_leaf l)]at this;exact this
 |po s pid π=>
  have:=cB.ren (M':=M') hm (.inr (jm s pid π)) h;rw[Dy]at this;simp only[jI];cases hp:m pid with
  |none=>rw[hp]at this;exact this
  |some j=>rw[hp]at this;exact this
 |pool r rows=>
  obtain⟨h1,h2,h3,h4,h5,h6⟩:=h;refine⟨h1,h2,h3,h4,fun q pl l hq hl=>(h5 q pl l hq hl).ren ?_ (r.flat_leaf l),h6⟩;rcases hM with hM|hM
  ·exact .inl hM
  ·cases r with
   |int k=>exact .inr (gY k l)
   |zi=>cases hM
   |qr=>cases hM
   |sh=>cases hM
theorem sK {m:Nat→Option Nat}{x:oA}{p:Pl}{b:Nat}:(jI m x).has p b↔x.has p b:=by
 cases x<;>simp only[jI,oA.has];cases m _<;>simp only[oA.has]
theorem eU {m:Nat→Option Nat}{x:oA}:(jI m x).live↔x.live:=by
 cases x<;>simp only[jI,oA.live];cases m _<;>simp only[oA.live]
def qL (F:Nat→Prop)(ρ:fC)(bs:List oA)(w:World)(v:V)(bs':List oA)(v':Value)(w':World):Prop:=
 ∃ρ',iI ρ ρ'∧(∀id,id<bs.length→ρ id=none→ρ' id=none)∧(∀id,bs'.length≤id→ρ' id=none)∧lA F ρ' (jA bs') w'∧nA ρ' (av F (gA ρ' (jA bs'))) w' v v'∧nG (gA ρ (jA bs)) w (gA ρ' (jA bs')) w'
def lO (P:Program)(f:Nat):Prop:=∃fn,P.funcs[f]?=some fn∧fn.body.isNone=false∧(fn.name== "runtime.NumGoroutine")=false
structure dA (P:Program)(f:Nat)(args:List V)(bs:List oA)(v:V)(bs':List oA):Prop where
 callable:lO P f
 calls:∀F ρ w args',lA F ρ (jA bs) w→(∀id,bs.length≤id→ρ id=none)→iA ρ (av F (gA ρ (jA bs))) w args args'→
  Calls P f args'.toArray w fun e w'=>∃v',e= .returned v'∧qL F ρ bs w v bs' v' w'
def aF (P:Program)(tab:Nat→Option rA):Prop:=∀f e,tab f=some e→∀args bs a enc,e.dec args bs=some (some a,enc)→dA P f args bs (enc a).pick.1 (enc a).pick.2
theorem aD:∀(bs:List oA) (j:Nat),jA bs j=bs.getD j .dead
 | [],_=>by simp[jA]
 |_::_,0=>by simp[jA]
 |b::r,j+1=>by simp[jA,aD r j]
theorem xR:∀(bs:List oA) (n:Nat),u7 bs n=bs.drop n
 |_,0=>by simp[u7]
 | [],_+1=>by simp[u7]
 |_::r,n+1=>by simp[u7,xR r n]
theorem o6 {m:Nat→Option Nat}(bs:List oA)(j:Nat):jA (bs.map (jI m)) j=jI m (jA bs j):=by
 rw[aD,aD];simp only[xK,n5];cases bs[j]?<;>rfl
theorem vw {h:Nat→oA}{nid:Nat}{bs:List oA}{id:Nat}(h1:nid≤id)(h2:id<nid+bs.length):lF h (fQ nid bs) id=jA bs (id-nid):=by
 induction bs generalizing h nid with
 |nil=>simp at h2;omega
 |cons b r ih=>
  simp only[fQ,lF];by_cases he:id=nid
  ·subst he;rw[qC (fun hm=>by rw[oS]at hm;simp at hm;omega),if_pos rfl];simp[jA]
  ·rw[ih (by omega) (by simp at h2;omega)];have:id-nid=(id- (nid+1))+1:=by omega
   rw[this];rfl
theorem Ai {nid:Nat}{bs:List oA}{id:Nat}(h:¬(nid≤id∧id<nid+bs.length)):id∉(fQ nid bs).map (·.1):=by
 rw[oS];simp;intro x hx;omega
theorem eT:∀(σ:List Nat) (bs:List oA) (i:Nat),i∈(y3 σ bs).map (·.1)→i∈σ
 | [],_,i,h=>by simp[y3]at h
 |_::_,[],i,h=>by simp[y3]at h
 |j::r,b::s,i,h=>by simp only[y3,p0,hZ]at h⊢;exact h.imp id (eT r s i)
theorem iY:∀(σ:List Nat),nodup σ=true→σ.Nodup
 | [],_=>List.nodup_nil
 |i::r,h=>by simp only[nodup,hP]at h;exact l7.mpr ⟨nL.mp h.1,iY r h.2⟩
theorem ak:∀(σ:List Nat) (bs:List oA) (h:Nat→oA) (j i:Nat),σ.Nodup→σ.length≤bs.length→σ[j]?=some i→lF h (y3 σ bs) i=jA bs j
 | [],_,_,_,_,_,_,hi=>by simp at hi
 |x::r,[],_,_,_,_,hl,_=>by simp at hl
 |x::r,b::s,h,0,i,hn,hl,hi=>by simp at hi;subst hi;simp only[y3,lF];rw[qC (fun hm=>(l7.mp hn).1 (eT _ _ _ hm)),if_pos rfl];rfl
 |x::r,b::s,h,j+1,i,hn,hl,hi=>by simp only[y3,lF];rw[ak r s _ j i (l7.mp hn).2 (by simpa using hl) (by simpa using hi)];rfl
theorem aj:∀(τ:List Nat) (h:Nat→oA) (i:Nat),i∈τ→lF h (τ.map fun i=>(i,oA.dead)) i= .dead
 |x::r,h,i,hi=>by
  simp only[p0,lF];by_cases hr:i∈r
  ·exact aj r _ i hr
  ·rw[qC (by simpa[Function.comp_def]using hr)];rcases hZ.mp hi with rfl|hi
   ·rw[if_pos rfl]
   ·exact absurd hi hr
theorem mN:∀(σ:List Nat) (i n j:Nat),kG i σ n=some j→n≤j∧σ[j-n]?=some i
 | [],i,n,j,h=>by simp[kG]at h
 |x::r,i,n,j,h=>by
  simp only[kG]at h;cases hb:Nat.beq x i<;>rw[hb]at h<;>simp only[cond_true,cond_false]at h
  ·obtain⟨h1,h2⟩:=mN r i (n+1) j h;refine⟨by omega,?_⟩;have:j-n=(j- (n+1))+1:=by omega
   rw[this];simpa using h2
  ·simp only[hC]at h;subst h;have:=yA hb;subst this;simp
theorem mY {σ:List Nat}{nid j i:Nat}(h:σ[j]?=some i):dI σ nid j=some i:=by unfold dI;rw[h]
theorem lY {σ:List Nat}{nid j:Nat}(h:σ.length≤j):dI σ nid j=some (nid+(j-σ.length)):=by unfold dI;rw[r0 h]
section
variable {P:Program}{F:Nat→Prop}{ρ:fC}{h:Nat→oA}{w:World}{nid:Nat}
mutual
theorem qq (hh:lA F ρ h w){Ml:Nat→Prop}(hM:∀b,Ml b→av F (gA ρ h) b):∀(v:V) (u:Value),(∀id∈(cH h v).2,∀b p,ρ id=some p→(h id).has p b→¬Ml b)→nA ρ (av F (gA ρ h)) w v u→nA ρ Ml w (cH h v).1 u
 | .sw id s,u,hτ,hr=>by
  unfold cH at hτ⊢;split at hτ
  ·rename_i k l hid;have hl:(h id).live:=by rw[hid];trivial
   obtain⟨h0,⟨b,n,C,R,cap,c,h1,h2,h3,h4,h5,ho,hsz,hold⟩|⟨R,h1,h2,hk⟩⟩:=sF hh hr hl (by rw[hid];trivial)
   ·rw[hid]at hold;obtain⟨e1,e2,e3⟩:=hold;simp only[nA];refine⟨h0,by rw[e1];exact h2,.inr ⟨b,0,cap,by rw[e1];exact h5,by rw[e1];exact h3,ho.lt,hτ id (by simp) b _ h1 (by rw[hid];rfl),fun j hj=>?_⟩⟩;rw[j5,ho.cell];exact e3 j hj
   ·rw[hid]at hk;rcases hk with⟨k2,hk⟩|hk|⟨_,hk⟩|⟨_,_,hk⟩<;>cases hk;simp only[nA];exact⟨h0,by simp,.inl ⟨trivial,none,h2⟩⟩
  ·exact nA.avoid hM _ _ hr
 | .sl id s off len,u,hτ,hr=>by
  unfold cH at hτ⊢;split at hτ
  ·rename_i k l hid;have hl:(h id).live:=by rw[hid];trivial
   simp only[nA]at hr⊢;obtain⟨h0,⟨b,n,C,R,cap,h1,h2,h3,h4,h5⟩|⟨h1,a,h2⟩⟩:=hr
   ·obtain⟨c,ho,hsz,hold⟩:=hh.own hl (by rw[hid];trivial) h1;rw[hid]at hold;obtain⟨e1,e2,e3⟩:=hold;have hlen:((l.drop off).take (rH s len)).length=len*s:=by rw[rB];simp;omega
    rw[hlen];refine⟨h0,Nat.mul_mod_left _ _,.inr ⟨b,off,cap,by rw[k6 _ h0];exact h5,by rw[k6 _ h0];exact h3,ho.lt,hτ id (by simp) b _ h1 (by rw[hid];rfl),fun j hj=>?_⟩⟩;rw[ho.cell,e3 _ (by omega)];congr 2;simp only[xK];rw[y1 (by rw[rB];omega),l5]
   ·subst h1;have:(l.drop off).take (rH s 0)=[]:=by rw[rB];simp
    rw[this];exact⟨h0,by simp,.inl ⟨rfl,a,h2⟩⟩
  ·exact nA.avoid hM _ _ hr
 | .agg cs,u,hτ,hr=>by unfold cH at hτ⊢;simp only[nA]at hr⊢;obtain⟨vs,h1,h2⟩:=hr;exact⟨vs,h1,qp hh hM cs _ hτ h2⟩
 | .c _,u,_,hr=>by simp only[cH];exact nA.avoid hM _ _ hr
 | .poison,u,_,hr=>by simp only[cH];exact nA.avoid hM _ _ hr
 | .ptr _ _ _,u,_,hr=>by simp only[cH];exact nA.avoid hM _ _ hr
 | .rp _ _ _,u,_,hr=>by simp only[cH];exact nA.avoid hM _ _ hr
 | .ep _ _ _ _,u,_,hr=>by simp only[cH];exact nA.avoid hM _ _ hr
 | .tp _ _ _,u,_,hr=>by simp only[cH];exact nA.avoid hM _ _ hr
 | .yv _,u,_,hr=>by simp only[cH];exact nA.avoid hM _ _ hr
 | .inl _ _ _,u,_,hr=>by simp only[cH];exact nA.avoid hM _ _ hr
 | .inlp _ _ _ _,u,_,hr=>by simp only[cH];exact nA.avoid hM _ _ hr
 | .il _ _ _,u,_,hr=>by simp only[cH];exact nA.avoid hM _ _ hr
 | .iv _ _,u,_,hr=>by simp only[cH];exact nA.avoid hM _ _ hr
 | .ilp _ _ _ _,u,_,hr=>by simp only[cH];exact nA.avoid hM _ _ hr
 | .ivp _ _ _ _,u,_,hr=>by simp only[cH];exact nA.avoid hM _ _ hr
 | .tup _,u,_,hr=>by simp only[cH];exact nA.avoid hM _ _ hr
 | .fn _ _ _,u,_,hr=>by simp only[cH];exact nA.avoid hM _ _ hr
theorem qp (hh:lA F ρ h w){Ml:Nat→Prop}(hM:∀b,Ml b→av F (gA ρ h) b):∀(xs:List V) (us:List Value),(∀id∈(wT h xs).2,∀b p,ρ id=some p→(h id).has p b→¬Ml b)→iA ρ (av F (gA ρ h)) w xs us→iA ρ Ml w (wT h xs).1 us
 | [],[],_,_=>by simp only[wT,iA]
 |x::xs,u::us,hτ,hr=>by unfold wT at hτ⊢;simp only[iA]at hr⊢;exact⟨qq hh hM x u (fun id hid=>hτ id (e7 _ hid)) hr.1,qp hh hM xs us (fun id hid=>hτ id (x6 _ hid)) hr.2⟩
 | [],_::_,_,hr=>by simp only[iA]at hr
 |_::_,[],_,hr=>by simp only[iA]at hr
end
theorem xQ (hh:lA F ρ h w){Ml:Nat→Prop}(hM:∀b,Ml b→av F (gA ρ h) b):∀(bs:List Bool) (xs:List V) (us:List Value),(∀id∈(pD h bs xs).2,∀b p,ρ id=some p→(h id).has p b→¬Ml b)→iA ρ (av F (gA ρ h)) w xs us→iA ρ Ml w (pD h bs xs).1 us
 | [],xs,us,_,hr=>by simp only[pD];exact iA.avoid hM _ _ hr
 |true::bs,[],us,_,hr=>by simp only[pD];exact iA.avoid hM _ _ hr
 |false::bs,[],us,_,hr=>by simp only[pD];exact iA.avoid hM _ _ hr
 |_::_,_::_,[],_,hr=>by simp only[iA]at hr
 |true::bs,x::xs,u::us,hτ,hr=>by unfold pD at hτ⊢;simp only[iA]at hr⊢;exact⟨qq hh hM x u (fun id hid=>hτ id (e7 _ hid)) hr.1,xQ hh hM bs xs us (fun id hid=>hτ id (x6 _ hid)) hr.2⟩
 |false::bs,x::xs,u::us,hτ,hr=>by unfold pD at hτ⊢;simp only[iA]at hr⊢;exact⟨nA.avoid hM _ _ hr.1,xQ hh hM bs xs us hτ hr.2⟩
end
section
variable {P:Program}{F:Nat→Prop}{ρ:fC}{h:Nat→oA}{w:World}{nid:Nat}
def Co (F:Nat→Prop)(ρ:fC)(h:Nat→oA)(w:World)(nid:Nat)(out:jJ)(v:Value)(w':World)(ρ':fC):Prop:=
 iI ρ ρ'∧(∀id,(id<nid∨nid+out.new.length≤id)→ρ id=none→ρ' id=none)∧
  lA F ρ' (cJ h nid out) w'∧nA ρ' (av F (gA ρ' (cJ h nid out))) w' out.val v∧nG (gA ρ h) w (gA ρ' (cJ h nid out)) w'
theorem uv {σ:List Nat}(hσ:σ.Nodup){i j:Nat}(h:σ[j]?=some i):kG i σ 0=some j:=by
 have hm:i∈σ:=x1 h;have:∀(σ:List Nat) (n:Nat),i∈σ→∃j,kG i σ n=some j:=by
  intro σ;induction σ with
  |nil=>intro n hm;cases hm
  |cons x r ih=>
   intro n hm;simp only[kG];cases hb:Nat.beq x i<;>simp only[cond_true,cond_false]
   ·refine ih _ ((hZ.mp hm).resolve_left fun e=>?_);subst e;simp at hb
   ·exact⟨n,rfl⟩
 obtain⟨j',hj'⟩:=this σ 0 hm;have h2:=(mN σ i 0 j' hj').2;rw[Nat.sub_zero]at h2;have hlt:j'<σ.length:=(y0.mp h2).1;have e:j'=j:=(List.getElem?_inj hlt hσ).mp (h2.trans h.symm);rw[hj',e]
theorem Cv (hh:lA F ρ h w){σ τ:List Nat}{v0:V}{bs0:List oA}(hn:∀id,nid≤id→id<nid+(bs0.length-σ.length)→ρ id=none)
  (hσ:σ.Nodup)(hle:σ.length≤bs0.length)(hdis:∀j∈σ,j∉τ)
  {ρ0:fC}{h0:Nat→oA}(hρ0:∀j i,σ[j]?=some i→ρ0 j=ρ i)(hρ0':∀j,σ.length≤j→ρ0 j=none)(hl0:∀j i p b,σ[j]?=some i→((h0 j).has p b↔(h i).has p b))(hl0':∀j p b,σ.length≤j→¬(h0 j).has p b)
  {Fl:Nat→Prop}(hFl:∀b,av F (gA ρ h) b→(∀id∈σ++τ,∀p,ρ id=some p→¬(h id).has p b)→Fl b)
  {v':Value}{w':World}{ρ':fC}(hr0:iI ρ0 ρ')(hr1:∀j,j<σ.length→ρ0 j=none→ρ' j=none)(hr2:∀j,bs0.length≤j→ρ' j=none)
  (hH:lA Fl ρ' (jA bs0) w')(hv:nA ρ' (av Fl (gA ρ' (jA bs0))) w' v0 v')(he:nG (gA ρ0 h0) w (gA ρ' (jA bs0)) w'):
  ∃ρc,Co F ρ h w nid (vG σ τ nid v0 bs0) v' w' ρc:=by
 let on:=dI σ nid
 let ρc:fC:=fun id=>if nid≤id∧id<nid+(bs0.length-σ.length)then ρ' (σ.length+(id-nid))else match kG id σ 0 with|some j=>ρ' j|none=>ρ id
 have hnew:(vG σ τ nid v0 bs0).new.length=bs0.length-σ.length:=by simp[vG,xR]
 generalize hout:vG σ τ nid v0 bs0=out at*;have hwr:out.wr=y3 σ (bs0.map (jI on))++(bif eG v0&&bs0.all rK then []else τ.map fun i=>(i,.dead)):=by subst hout;rfl
 have hnw:out.new=(bs0.map (jI on)).drop σ.length:=by subst hout;simp[vG,xR];rfl
 have hval:out.val=I4 on v0:=by subst hout;rfl
 have H1:∀id,nid≤id→id<nid+(bs0.length-σ.length)→cJ h nid out id=jI on (jA bs0 (σ.length+(id-nid))):=by intro id h1 h2;rw[dq,iJ,vw h1 (by rw[hnew];exact h2),hnw,←o6];rw[aD,aD];simp only[xK,l5]
 have Hx:∀id,¬(nid≤id∧id<nid+(bs0.length-σ.length))→cJ h nid out id=lF h out.wr id:=by intro id hid;rw[dq,iJ,qC (Ai (by rw[hnew];exact hid))]
 have H2:∀id j,¬(nid≤id∧id<nid+(bs0.length-σ.length))→σ[j]?=some id→cJ h nid out id=jI on (jA bs0 j):=by intro id j hid hj;have hm:id∈σ:=x1 hj;rw[Hx id hid,hwr,iJ,qC,ak σ _ h j id hσ (by simpa using hle) hj,o6];intro hx;cases hc:(eG v0&&bs0.all rK)<;>rw[hc]at hx<;>simp only[cond_true,cond_false,b9,c9]at hx;simp at hx;exact hdis id hm hx
 have H4:∀id,¬(nid≤id∧id<nid+(bs0.length-σ.length))→id∉σ→(cJ h nid out id).live→cJ h nid out id=h id∧(id∈τ→(eG v0&&bs0.all rK)=true):=by
  intro id hid hm hl;rw[Hx id hid,hwr,iJ]at hl⊢;cases hc:(eG v0&&bs0.all rK)<;>rw[hc]at hl<;>simp only[cond_true,cond_false]at hl⊢
  ·have hτ:id∉τ:=by
    intro hτ;rw[aj _ _ _ hτ]at hl;exact hl
   rw[qC (by simpa[Function.comp_def]using hτ),qC (fun hx=>hm (eT _ _ _ hx))];exact⟨rfl,fun hx=>absurd hx hτ⟩
  ·simp only[lF];rw[qC (fun hx=>hm (eT _ _ _ hx))];exact⟨rfl,fun _=>trivial⟩
 have hliveM:∀b,gA ρ0 h0 b→∃i∈σ,∃p,ρ i=some p∧(h i).has p b:=by
  rintro b ⟨j,p,h1,h2⟩;rcases e5 j σ.length with hj|hj
  ·have hi:=hN hj;rw[hρ0 j _ hi]at h1;exact⟨_,x1 hi,p,h1,(hl0 j _ _ _ hi).mp h2⟩
  ·exact absurd h2 (hl0' j _ _ hj)
 have hliveM':∀b,gA ρ0 h0 b→gA ρ h b:=fun b hb=>by obtain⟨i,_,p,h1,h2⟩:=hliveM b hb;exact⟨i,p,h1,h2⟩
 have hρc1:∀id,nid≤id→id<nid+(bs0.length-σ.length)→ρc id=ρ' (σ.length+(id-nid)):=fun id h1 h2=>if_pos ⟨h1,h2⟩;have hρc2:∀id j,¬(nid≤id∧id<nid+(bs0.length-σ.length))→σ[j]?=some id→ρc id=ρ' j:=fun id j h1 h2=>by simp only[ρc];rw[if_neg h1,uv hσ h2]
 have hρc3:∀id,¬(nid≤id∧id<nid+(bs0.length-σ.length))→id∉σ→ρc id=ρ id:=fun id h1 h2=>by
  simp only[ρc];rw[if_neg h1];cases hp:kG id σ 0 with
  |none=>rfl
  |some j=>exact absurd (x1 (mN σ id 0 j hp).2) h2
 have src:∀id,(cJ h nid out id).live→(∃j,j<bs0.length∧on j=some id∧cJ h nid out id=jI on (jA bs0 j)∧ρc id=ρ' j∧(jA bs0 j).live)∨
   (id∉σ∧cJ h nid out id=h id∧ρc id=ρ id∧(h id).live∧(id∈τ→(eG v0&&bs0.all rK)=true)):=by
  intro id hl;by_cases hr:nid≤id∧id<nid+(bs0.length-σ.length)
  ·refine .inl ⟨σ.length+(id-nid),by omega,?_,H1 id hr.1 hr.2,hρc1 id hr.1 hr.2,?_⟩
   ·show dI σ nid _=_;rw[lY (by omega)];congr 1;omega
   ·rw[H1 id hr.1 hr.2]at hl;exact eU.mp hl
  ·by_cases hm:id∈σ
   ·obtain⟨j,hj,hij⟩:=a6.mp hm;have hj':σ[j]?=some id:=by rw[hN hj,hij]
    refine .inl ⟨j,by omega,mY hj',H2 id j hr hj',hρc2 id j hr hj',?_⟩;rw[H2 id j hr hj']at hl;exact eU.mp hl
   ·obtain⟨h1,h2⟩:=H4 id hr hm hl;exact .inr ⟨hm,h1,hρc3 id hr hm,h1▸hl,h2⟩
 have hren:∀j i p,on j=some i→ρ' j=some p→ρc i=some p:=by
  intro j i p hj hp;have hjl:j<bs0.length:=by
   rcases e5 j bs0.length with h|h
   ·exact h
   ·rw[hr2 j h]at hp;cases hp
  rcases e5 j σ.length with hlt|hge
  ·have hi:=hN hlt;have:i=σ[j]:=by have:=mY (nid:=nid) hi;rw[show dI σ nid j=on j from rfl,hj]at this;exact o4 this
   subst this;have hnr:¬(nid≤σ[j]∧σ[j]<nid+(bs0.length-σ.length)):=fun hr=>by have:=hr1 j hlt (by rw[hρ0 j _ hi];exact hn _ hr.1 hr.2);rw[hp]at this;cases this
   rw[hρc2 _ j hnr hi];exact hp
  ·have:i=nid+(j-σ.length):=by have:=lY (nid:=nid) hge;rw[show dI σ nid j=on j from rfl,hj]at this;exact o4 this
   subst this;rw[hρc1 _ (by omega) (by omega)];have:σ.length+(nid+(j-σ.length)-nid)=j:=by omega
   rw[this];exact hp
 have hsub:iI ρ ρc:=by
  intro id p hp;have hnr:¬(nid≤id∧id<nid+(bs0.length-σ.length)):=fun hr=>by rw[hn _ hr.1 hr.2]at hp;cases hp
  by_cases hm:id∈σ
  ·obtain⟨j,hj,hij⟩:=a6.mp hm;have hj':σ[j]?=some id:=by rw[hN hj,hij]
   rw[hρc2 id j hnr hj'];exact hr0 j p (by rw[hρ0 j id hj'];exact hp)
  ·exact⟨p,by rw[hρc3 id hnr hm];exact hp,.refl p⟩
 have hext:nG (gA ρ h) w (gA ρc (cJ h nid out)) w':=by
  refine⟨he.size,fun b hb hm=>he.same b hb (fun hx=>hm (hliveM' b hx)),?_,he.keeps⟩;rintro b ⟨id,p,h1,h2⟩;rcases src id h2.live with⟨j,_,_,h5,h3,h4⟩|⟨_,h5,h3,h4,_⟩
  ·rw[h3]at h1;rw[h5]at h2;exact(he.sub b ⟨j,p,h1,sK.mp h2⟩).imp (hliveM' b) (fun x=>x)
  ·rw[h3]at h1;rw[h5]at h2;exact .inl ⟨id,p,h1,h2⟩
 have havoid:(eG v0&&bs0.all rK)=true∨∀b,av F (gA ρc (cJ h nid out)) b→av Fl (gA ρ' (jA bs0)) b:=by
  cases hc:(eG v0&&bs0.all rK)with
  |true=>exact .inl rfl
  |false=>
   refine .inr (fun b hb=>?_);rcases hb with hb|⟨id,p,h1,h2⟩
   ·exact .inl (hFl b (.inl hb) (fun id _ p hp hl=>hh.out b ⟨id,p,hp,hl⟩ hb))
   ·rcases src id h2.live with⟨j,_,_,h5,h3,h4⟩|⟨hm,h5,h3,h4,hτ⟩
    ·rw[h3]at h1;rw[h5]at h2;exact .inr ⟨j,p,h1,sK.mp h2⟩
    ·rw[h3]at h1;rw[h5]at h2;refine .inl (hFl b (.inr ⟨id,p,h1,h2⟩) (fun id' hid' p' hp hl=>?_));have:=hh.inj id' id b _ _ hp h1 hl h2;subst this;rcases n0.mp hid' with hx|hx
     ·exact hm hx
     ·have:=hτ hx;rw[hc]at this;cases this
 have hav1:∀{x:V},((eG v0&&bs0.all rK)=true→eG x=true)→((∀b,av F (gA ρc (cJ h nid out)) b→av Fl (gA ρ' (jA bs0)) b)∨eG x=true):=fun hx=>havoid.elim (fun hc=>.inr (hx hc)) .inl;refine⟨ρc,hsub,fun id hid hno=>?_,⟨?_,?_,?_,hh.low' hext,hh.out' hext⟩,?_,hext⟩
 ·have hnr:¬(nid≤id∧id<nid+(bs0.length-σ.length)):=by rw[hnew]at hid;omega
  by_cases hm:id∈σ
  ·obtain⟨j,hj,hij⟩:=a6.mp hm;have hj':σ[j]?=some id:=by rw[hN hj,hij]
   rw[hρc2 id j hnr hj'];exact hr1 j hj (by rw[hρ0 j id hj'];exact hno)
  ·rw[hρc3 id hnr hm];exact hno
 ·intro id p hp;by_cases hr:nid≤id∧id<nid+(bs0.length-σ.length)
  ·rw[hρc1 id hr.1 hr.2]at hp;exact hH.wf _ _ hp
  ·by_cases hm:id∈σ
   ·obtain⟨j,hj,hij⟩:=a6.mp hm;have hj':σ[j]?=some id:=by rw[hN hj,hij]
    rw[hρc2 id j hr hj']at hp;exact hH.wf _ _ hp
   ·rw[hρc3 id hr hm]at hp;exact hh.wf _ _ hp
 ·intro id hl;rcases src id hl with⟨j,hjl,h1,h2,h3,h4⟩|⟨hm,h2,h3,h4,_⟩
  ·obtain⟨p,hp,hb⟩:=hH.rel j h4;refine⟨p,by rw[h3];exact hp,?_⟩;rw[h2];refine wA.ren hren ?_ hb;rcases havoid with hc|hc
   ·refine .inr ?_;simp only[hP,x0]at hc;refine hc.2 _ ?_;rw[aD,xK,hN hjl];exact y8 hjl
   ·exact .inl hc
  ·obtain⟨p,hp,hb⟩:=hh.rel id h4;refine⟨p,by rw[h3];exact hp,?_⟩;rw[h2];refine wA.mono hsub hext hb (fun b hb'=>?_);refine he.same b (gA.lt hh ⟨id,p,hp,hb'⟩) (fun hx=>?_);obtain⟨i,hi,p',h5,h6⟩:=hliveM b hx;have:=hh.inj i id b _ _ h5 hp h6 hb';subst this;exact hm hi
 ·intro i i' b p p' hpi hpi' hi hi';have cross:∀{j id p p'},ρ' j=some p→(jA bs0 j).has p b→id∉σ→ρ id=some p'→(h id).has p' b→False:=by
   intro j id p p' h1 h2 h3 h4 h5;rcases he.sub b ⟨j,p,h1,h2⟩with hx|hx
   ·obtain⟨i,hi,p2,h6,h7⟩:=hliveM b hx;have:=hh.inj i id b _ _ h6 h4 h7 h5;subst this;exact h3 hi
   ·have:=gA.lt hh ⟨id,p',h4,h5⟩;omega
  rcases src i hi.live with⟨j,_,h1,h2,h3,h4⟩|⟨hm,h2,h3,h4,_⟩<;>rcases src i' hi'.live with⟨j',_,h1',h2',h3',h4'⟩|⟨hm',h2',h3',h4',_⟩<;>rw[h3]at hpi<;>rw[h3']at hpi'<;>rw[h2]at hi<;>rw[h2']at hi'
  ·have:=hH.inj j j' b _ _ hpi hpi' (sK.mp hi) (sK.mp hi');subst this;rw[h1]at h1';exact o4 h1'
  ·exact(cross hpi (sK.mp hi) hm' hpi' hi').elim
  ·exact(cross hpi' (sK.mp hi') hm hpi hi).elim
  ·exact hh.inj i i' b _ _ hpi hpi' hi hi'
 ·rw[hval];exact nA.ren hren _ _ (hav1 (fun hc=>by simp only[hP]at hc;exact hc.1)) hv
theorem qb {tab:Nat→Option rA}(htab:aF P tab)(hh:lA F ρ h w){f:Nat}{args:List V}{vs:List Value}{out:jJ}(hc:x4 tab nid f args h out)(hn:∀id,nid≤id→id<nid+out.new.length→ρ id=none)
  (hr:iA ρ (av F (gA ρ h)) w args vs):lO P f∧Calls P f vs.toArray w fun e w'=>∃v' ρ',e= .returned v'∧Co F ρ h w nid out v' w' ρ':=by
 obtain⟨e,at_,σ,enc,a,h1,h2,h3,h4,h5,h6,h7,h8,h9⟩:=hc;have hS:=htab f e h1 _ _ a enc h4;have hσ:=iY σ h7;have hdis:∀j∈σ,j∉at_.2:=wP.mp (by rw[h8];rfl)
 let ρ0:fC:=fun j=>match σ[j]? with|some i=>ρ i|none=>none
 let Fl:Nat→Prop:=fun b=>av F (gA ρ h) b∧∀id∈σ++at_.2,∀p,ρ id=some p→¬(h id).has p b
 have hρ0:∀j i,σ[j]?=some i→ρ0 j=ρ i:=fun j i hj=>by simp only[ρ0,hj]
 have hρ0':∀j,σ.length≤j→ρ0 j=none:=fun j hj=>by simp only[ρ0,r0 hj]
 have hb0:∀j i,σ[j]?=some i→jA (σ.map fun i=>jI (kG · σ 0) (h i)) j=jI (kG · σ 0) (h i):=fun j i hj=>by rw[aD,xK,n5,hj];rfl
 have hb0':∀j,σ.length≤j→jA (σ.map fun i=>jI (kG · σ 0) (h i)) j= .dead:=fun j hj=>by rw[aD,xK,n5,r0 hj];rfl
 have hl0:∀j i p b,σ[j]?=some i→((jA (σ.map fun i=>jI (kG · σ 0) (h i)) j).has p b↔(h i).has p b):=fun j i p b hj=>by rw[hb0 j i hj];exact sK
 have hl0':∀j p b,σ.length≤j→¬(jA (σ.map fun i=>jI (kG · σ 0) (h i)) j).has p b:=fun j p b hj=>by rw[hb0' j hj];exact id
 have hren:∀i j p,kG i σ 0=some j→ρ i=some p→ρ0 j=some p:=fun i j p hj hp=>by have:=(mN σ i 0 j hj).2;rw[hρ0 j i (by simpa using this)];exact hp
 generalize hbs:(σ.map fun i=>jI (kG · σ 0) (h i))=bs at*;have hlen:bs.length=σ.length:=by subst hbs;simp
 have hlm:∀b,gA ρ0 (jA bs) b→∃i∈σ,∃p,ρ i=some p∧(h i).has p b:=by
  rintro b ⟨j,p,g1,g2⟩;rcases e5 j σ.length with hj|hj
  ·have hi:=hN hj;rw[hρ0 j _ hi]at g1;exact⟨_,x1 hi,p,g1,(hl0 j _ _ _ hi).mp g2⟩
  ·exact absurd g2 (hl0' j _ _ hj)
 have hM:∀b,av Fl (gA ρ0 (jA bs)) b→av F (gA ρ h) b:=by
  rintro b (hb|hb)
  ·exact hb.1
  ·obtain⟨i,_,p,g1,g2⟩:=hlm b hb;exact .inr ⟨i,p,g1,g2⟩
 have hH:lA Fl ρ0 (jA bs) w:=by
  have hex:∀j,(jA bs j).live→∃i,σ[j]?=some i:=fun j hl=>by
   rcases e5 j σ.length with hj|hj
   ·exact⟨_,hN hj⟩
   ·rw[hb0' j hj]at hl;exact hl.elim
  refine⟨?_,?_,?_,?_,?_⟩
  ·intro j p hp;rcases e5 j σ.length with hj|hj
   ·rw[hρ0 j _ (hN hj)]at hp;exact hh.wf _ _ hp
   ·rw[hρ0' j hj]at hp;cases hp
  ·intro j hl;obtain⟨i,hi⟩:=hex j hl;rw[hb0 j i hi]at hl;obtain⟨p,hp,hb⟩:=hh.rel i (eU.mp hl);refine⟨p,by rw[hρ0 j i hi];exact hp,?_⟩;rw[hb0 j i hi];exact wA.ren hren (.inl hM) hb
  ·intro j j' b p p' hp hp' hl hl';obtain⟨i,hi⟩:=hex j hl.live;obtain⟨i',hi'⟩:=hex j' hl'.live;rw[hρ0 j i hi]at hp;rw[hρ0 j' i' hi']at hp';have:=hh.inj i i' b _ _ hp hp' ((hl0 j i _ _ hi).mp hl) ((hl0 j' i' _ _ hi').mp hl');subst this;have hj:j<σ.length:=(y0.mp hi).1;exact(List.getElem?_inj hj hσ).mp (by rw[hi,hi'])
  ·rintro b ⟨hb,_⟩;rcases hb with hb|hb
   ·exact hh.low b hb
   ·exact gA.lt hh hb
  ·intro b hb hf;obtain⟨i,hi,p,g1,g2⟩:=hlm b hb;exact hf.2 i (by simp[hi]) p g1 g2
 have hargs:iA ρ (av Fl (gA ρ0 (jA bs))) w at_.1 vs:=by
  have:=xQ (Ml:=av Fl (gA ρ0 (jA bs))) hh hM e.imm args vs ?_ hr
  ·rw[h2]at this;exact this
  ·rw[h2];intro id hid b p hp hl hx;rcases hx with hx|hx
   ·exact hx.2 id (by simp[hid]) p hp hl
   ·obtain⟨i,hi,p',g1,g2⟩:=hlm b hx;have:=hh.inj i id b _ _ g1 hp g2 hl;subst this;exact hdis i hi hid
 refine⟨hS.callable,Calls.mono (hS.calls Fl ρ0 w vs hH (fun id hid=>hρ0' id (by omega)) (iA.ren hren _ _ (.inl (fun b hb=>hb)) hargs)) ?_⟩;rintro e' w' ⟨v',he',ρ',g0,g1,g2,g3,g4,g5⟩;have hnew:out.new.length=(enc a).pick.2.length-σ.length:=by rw[h9];simp[vG,xR]
 obtain⟨ρc,hpost⟩:=Cv (nid:=nid) hh (v0:=(enc a).pick.1) (bs0:=(enc a).pick.2) (fun id k1 k2=>hn id k1 (by omega)) hσ h6 hdis hρ0 hρ0' hl0 hl0' (Fl:=Fl) (fun b k1 k2=>⟨k1,k2⟩) g0 (fun j hj=>g1 j (by omega)) g2 g3 g4 g5;rw[←h9]at hpost;exact⟨v',ρc,he',hpost⟩
end
structure sA (P:Program)(E:aC):Prop where
 ty:eD P E.ty
 tab:aF P E.tab
 yld:E.yld=true→E8=P:=by first|exact fun _=>rfl|exact fun h=>(by cases h)
def pv (mark:Bool)(lo:Nat)(M:Nat→Prop)(a:Act)(w:World):Prop:=
 a.defers=[]∨(mark=true∧∃Ds:List Nat,a.defers=Ds.map (fun D=>{target:=.collected D,args:= #[]})∧Ds.Nodup∧∀D∈Ds,w.heap[D]?=some (.deferred (some []))∧¬M D∧lo≤D)
theorem pv.mono {mark:Bool}{lo:Nat}{M M':Nat→Prop}{a a':Act}{w w':World}(h:pv mark lo M a w)(he:nG M w M' w')(ha:a'.defers=a.defers):pv mark lo M' a' w':=by
 rcases h with h|⟨h0,Ds,h1,hn,h2⟩
 ·exact .inl (ha.trans h)
 ·refine .inr ⟨h0,Ds,ha.trans h1,hn,fun D hD=>?_⟩;obtain⟨h3,h4,h5⟩:=h2 D hD;have hlt:D<w.heap.size:=(u3.mp h3).1;exact⟨by rw[he.same D hlt h4];exact h3,fun hm=>(he.sub D hm).elim h4 (fun h=>absurd h (by omega)),h5⟩
theorem pv.avoid {mark:Bool}{lo:Nat}{M M':Nat→Prop}{a:Act}{w:World}(h:pv mark lo M a w)(hM:∀b,M' b→M b):pv mark lo M' a w:=by
 rcases h with h|⟨h0,Ds,h1,hn,h2⟩
 ·exact .inl h
 ·exact .inr ⟨h0,Ds,h1,hn,fun D hD=>⟨(h2 D hD).1,fun hm=>(h2 D hD).2.1 (hM D hm),(h2 D hD).2.2⟩⟩
theorem pv.heq {mark:Bool}{lo:Nat}{M:Nat→Prop}{a:Act}{w w':World}(h:pv mark lo M a w)(hw:w'.heap=w.heap):pv mark lo M a w':=by
 rcases h with h|⟨h0,Ds,h1,hn,h2⟩
 ·exact .inl h
 ·exact .inr ⟨h0,Ds,h1,hn,fun D hD=>⟨by rw[hw];exact(h2 D hD).1,(h2 D hD).2⟩⟩
structure nW (E:aC)(F:Nat→Prop)(ρ:fC)(T:Nat→V)(h:Nat→oA)(a:Act)(w:World):Prop where
 heap:lA F ρ h w
 tmps:∀t,nA ρ (av F (gA ρ h)) w (T t) (a.eval (.tmp t))
 size:a.tmps.size=E.ntmps
 defers:pv E.mark E.lo (gA ρ h) a w
theorem vz {ρ:fC}{M:Nat→Prop}{w:World}(v:Value):nA ρ M w (fj v) v:=by
 unfold fj;split
 ·rename_i cs;simp only[nA];refine⟨cs,rfl,?_⟩;generalize cs.toList=l;induction l with
  |nil=>simp[iA]
  |cons x l ih=>simp only[p0,iA,nA];exact⟨trivial,ih⟩
 ·simp only[nA]
section
variable {P:Program}{E:aC}{F:Nat→Prop}{ρ:fC}{T:Nat→V}{h:Nat→oA}{a:Act}{w:World}
theorem nW.ev (hr:nW E F ρ T h a w)(x:Operand):nA ρ (av F (gA ρ h)) w (fx T x) (a.eval x):=by
 cases x with
 |tmp t=>exact hr.tmps t
 |const v=>exact vz v
 |global g=>simp only[fx,nA]
 |func f=>simp only[fx,nA,Act.eval];exact⟨#[],#[],rfl,by simp[iA],by simp[iA]⟩
theorem nW.env {E':aC}(hr:nW E F ρ T h a w)(he:E'.ntmps=E.ntmps)(hm:E'.mark=E.mark)(hlo:E'.lo=E.lo):nW E' F ρ T h a w:=⟨hr.heap,hr.tmps,by rw[he];exact hr.size,by rw[hm,hlo];exact hr.defers⟩
theorem nW.put {ρ':fC}{h':Nat→oA}{w':World}(hr:nW E F ρ T h a w)(hs:iI ρ ρ')(hh:lA F ρ' h' w')(he:nG (gA ρ h) w (gA ρ' h') w'){d:Option Nat}(hd:qg E.ntmps d=true){x:V}{v:Value}(hx:nA ρ' (av F (gA ρ' h')) w' x v):
  nW E F ρ' (dJ T d x) h' (a.put d v) w':=by
 have hm:∀t,nA ρ' (av F (gA ρ' h')) w' (T t) (a.eval (.tmp t)):=fun t=>nA.mono hs he _ _ (hr.tmps t);cases d with
 |none=>exact⟨hh,hm,hr.size,hr.defers.mono he rfl⟩
 |some d=>
  have hlt:d<a.tmps.size:=by rw[hr.size];exact nC hd
  refine⟨hh,fun t=>?_,by simp[Act.put,hr.size],hr.defers.mono he rfl⟩;simp only[dJ,Act.put,Act.eval];by_cases ht:t=d
  ·subst ht;rw[if_pos rfl,q0,Array.getElem?_setIfInBounds_self_of_lt hlt];exact hx
  ·rw[if_neg ht,q0,Array.getElem?_setIfInBounds_ne (Ne.symm ht),←q0];exact hm t
theorem kW {all:Array Oper}(hr:nW E F ρ T h a w){o:Oper}{b:Bool}(hw:rM all.toList T o=some b):Region.wanted o (yielded all a.tmps)=b:=by
 unfold rM at hw;unfold Region.wanted;cases hg:o.guard with
 |none=>rw[hg]at hw;simp only[hC]at hw;exact hw
 |some gw=>
  obtain⟨j,want⟩:=gw;rw[hg]at hw;dsimp only at hw⊢;unfold yielded;rw[x2]at hw;cases hd:(all[j]?).bind (·.dst)with
  |none=>rw[hd]at hw;cases hw
  |some g=>
   rw[hd]at hw;dsimp only at hw;have hv:=hr.tmps g;simp only[Option.bind_some];split at hw
   ·rename_i b' hb;rw[hb]at hv;simp only[nA,Act.eval]at hv;simp only[hC]at hw;rw[q0]at hv;cases ht:a.tmps[g]? with
    |none=>rw[ht]at hv;cases hv
    |some u=>rw[ht]at hv;simp only[b6]at hv;subst hv;rw[←hw];cases b'<;>cases want<;>rfl
   ·rename_i vs hb;rw[hb]at hv;simp only[nA,Act.eval]at hv;simp only[hC]at hw;rw[q0]at hv;rw[←hw];cases ht:a.tmps[g]? with
    |none=>rfl
    |some u=>rw[ht]at hv;simp only[b6]at hv;subst hv;rfl
   ·cases hw
theorem iA.map_evF {xs:List Operand}(hr:nW E F ρ T h a w):iA ρ (av F (gA ρ h)) w (xs.map (fx T)) (xs.map a.eval):=by
 induction xs with
 |nil=>simp[iA]
 |cons x xs ih=>simp only[p0,iA];exact⟨hr.ev x,ih⟩
theorem jx {o:Oper}{f:Operand}{args:Array Operand}{ts:Array TypeId}{g:FuncId}{va vc:Array Value}(ho:o.op= .call ⟨.value f,args,ts⟩)(hf:a.eval f= .func (.func g) va vc)(hc:lO P g):
  (execOp a.eval o).run P w= .ok (.enter g (va++args.map a.eval++vc)) w:=by
 obtain⟨fn,h1,h2,h3⟩:=hc;have h4:fn.name≠ "runtime.NumGoroutine" :=by simpa using h3
 cases hb:fn.body with
 |none=>rw[hb]at h2;cases h2
 |some c=>unfold execOp;rw[ho];simp[resolve,Deferred.ofValue,hf,invoke,callFunc,h1,h4,hb]
theorem om {o:Oper}{f:Operand}{args:Array Operand}{ts:Array TypeId}{l:Nat}(ho:o.op= .call ⟨.value f,args,ts⟩)(hf:a.eval f= .func (.yield l) #[] #[]):
  (execOp a.eval o).run P w=(Instr.yield l (args.map a.eval)).run P w:=by
 unfold execOp;rw[ho];simp[resolve,Deferred.ofValue,hf,invoke]
theorem Cg (hh:lA F ρ h w){id:Nat}{p:Pl}(hp:ρ id=some p){vs:List V}{us:List Value}{out:jJ}(hy:nP id vs h=some (true,out))(hr:iA ρ (av F (gA ρ h)) w vs us){n:Nat}(nid:Nat):
  YieldAt Fence.wide n E8 p.C us.toArray w (fun e w'=>e= .returned (.bool true)∧∃ρ',Co F ρ h w nid out (.bool true) w' ρ'):=by
 unfold nP at hy;split at hy
 rotate_left
 ·cases hy
 rename_i b wd k m;split at hy
 rotate_left
 ·cases hy
 rename_i A pre k' l hid hb;obtain⟨hc,hy2⟩:=eA hy;obtain⟨hc1,hc2⟩:=gB hc;obtain⟨c1,c2⟩:=gB hc1;obtain⟨c3,c4⟩:=gB hc2;have c1:=yF c1;have c2:=yF c2;have c3:=yA c3;have hne:b≠id:=fun e=>by subst e;simp at c4
 subst c1;subst c2;subst c3;simp only[hC,hG]at hy2;obtain⟨hok,rfl⟩:=hy2;obtain⟨hpos,hok2⟩:=gB hok;obtain⟨hsmall,hcap⟩:=gB hok2;have hsmall:=nC hsmall;have hpos:=nC hpos;have hcap:=nC hcap;cases us with
 |nil=>simp only[iA]at hr
 |cons u1 us=>
 cases us with
 |nil=>simp only[iA,and_false]at hr
 |cons u2 us=>
 cases us with
 |cons _ _=>simp only[iA,and_false]at hr
 |nil=>
 simp only[iA,and_true]at hr;obtain⟨hr1,hr2⟩:=hr;have hr2:=hr2.c;subst hr2;obtain⟨p',hp',hB⟩:=hh.rel id (by rw[hid];trivial);rw[hp]at hp';cases hp';rw[hid]at hB;obtain⟨b1,b2,b3,hrule,hJ,hbd⟩:=hB;have hlb:(h b).live:=by rw[hb];trivial
 obtain⟨g0,⟨bb,nn,C,R,cap,c,g1,g2,g3,g4,g5,ho,hsz,hold⟩|⟨R,g1,g2,hk⟩⟩:=sF hh hr1 hlb (by rw[hb];trivial)
 rotate_left
 ·rw[hb]at hk;rcases hk with⟨k2,hk⟩|hk|⟨_,hk⟩|⟨_,_,hk⟩<;>cases hk;simp at hpos
 rw[hb]at hold;obtain⟨e1,e2,e3⟩:=hold;subst e1;rw[x9]at g3 g5;subst g5;have hhb:(h b).has ⟨some bb,l.length,C,R⟩ bb:=by rw[hb];rfl
 have hhi:∀c0,c0∈dE p.R→(h id).has p c0:=fun c0 hc0=>by rw[hid];exact qH.mp hc0
 have hnot:bb∉dE p.R:=fun hm=>hne (hh.inj b id bb _ _ g1 hp hhb (hhi bb hm));rw[b3];obtain⟨fn,tmps,assign,body,q1,q2⟩:=hrule.round (dE p.R) pre w l m bb cap hJ hcap hpos hsmall ho.lt hnot g3 (fun i hi=>by rw[ho.cell];exact e3 i hi) n;refine⟨fn,tmps,assign,body,q1,RoundIn.mono q2 ?_⟩;rintro e w' ⟨rfl,S',t1,t2,t3,t4,t5⟩;refine⟨rfl,?_⟩;obtain⟨pb,pn,pC,pR⟩:=p;dsimp only at b1 b2 b3;subst b1;subst b2;subst b3
 let R':List gT:=pR++(⟨some bb,0,0⟩::S'.map fun c0=>⟨some c0,0,0⟩)
 have hpl:dE R'=dE pR++bb::S':=by
  have hS:∀S:List Nat,(S.map fun c0=>(⟨some c0,0,0⟩:gT)).filterMap (·.blk)=S:=fun S=>by
   induction S with
   |nil=>rfl
   |cons x r ih=>simp only[p0,cu,ih]
  simp only[R',dE,List.filterMap_append,cu,hS]
 let p':Pl:=⟨none,0,A.l,R'⟩
 have hH:cJ h nid {val:=.c (.bool true),wr:=[(b,.dead),(id,.amb A (pre++[(l,m)]))],touch:=[id,b]}=oB (oB h b .dead) id (.amb A (pre++[(l,m)])):=rfl;have hsub:iI ρ (fE ρ id p'):=fun j q hq=>by
  by_cases hj:j=id
  ·subst hj;rw[hp]at hq;cases hq;exact⟨p',lC _ _,rfl,rfl,rfl,_,rfl⟩
  ·exact⟨q,by rw[tC _ hj];exact hq,.refl q⟩
 have hhas:∀j q c0,fE ρ id p' j=some q→(oB (oB h b .dead) id (.amb A (pre++[(l,m)])) j).has q c0→(j=id∧q=p'∧(c0∈dE pR∨c0=bb∨c0∈S'))∨(j≠id∧j≠b∧ρ j=some q∧(h j).has q c0):=by
  intro j q c0 hq hx;by_cases hj:j=id
  ·subst hj;rw[lC]at hq;cases hq;rw[sB]at hx;have:c0∈dE R':=qH.mpr hx;rw[hpl]at this;simp only[n0,hZ]at this;exact .inl ⟨rfl,rfl,this⟩
  ·rw[tC _ hj]at hq;rw[zB _ hj]at hx;by_cases hjb:j=b
   ·subst hjb;rw[sB]at hx;exact hx.elim
   ·rw[zB _ hjb]at hx;exact .inr ⟨hj,hjb,hq,hx⟩
 have hlt:∀j q c0,ρ j=some q→(h j).has q c0→c0<w.heap.size:=fun j q c0 k1 k2=>gA.lt hh ⟨j,q,k1,k2⟩;have hM:∀c0,gA (fE ρ id p') (oB (oB h b .dead) id (.amb A (pre++[(l,m)]))) c0→gA ρ h c0∨w.heap.size≤c0:=by
  rintro c0 ⟨j,q,k1,k2⟩;rcases hhas j q c0 k1 k2 with⟨rfl,rfl,h3⟩|⟨_,_,h3,h4⟩
  ·rcases h3 with h3|h3|h3
   ·exact .inl ⟨_,_,hp,hhi c0 h3⟩
   ·subst h3;exact .inl ⟨_,_,g1,hhb⟩
   ·exact .inr (t2 c0 h3).1
  ·exact .inl ⟨_,_,h3,h4⟩
 have hext:nG (gA ρ h) w (gA (fE ρ id p') (oB (oB h b .dead) id (.amb A (pre++[(l,m)])))) w':=
  ⟨t3,fun c0 k1 k2=>t4 c0 k1 (fun hm=>k2 ⟨_,_,hp,hhi c0 hm⟩),hM,t5⟩
 have hother:∀j q c0,j≠id→ρ j=some q→(h j).has q c0→c0∉dE pR:=fun j q c0 hj k1 k2 hm=>hj (hh.inj j id c0 _ _ k1 hp k2 (hhi c0 hm));refine⟨fE ρ id p',hsub,?_,?_,by simp only[nA],?_⟩
 ·intro j _ hj;by_cases hji:j=id
  ·subst hji;rw[hp]at hj;cases hj
  ·rw[tC _ hji];exact hj
 ·rw[hH];refine⟨?_,?_,?_,hh.low' hext,hh.out' hext⟩
  ·intro j q hq;by_cases hj:j=id
   ·subst hj;rw[lC]at hq;cases hq;exact cy _
   ·rw[tC _ hj]at hq;exact hh.wf _ _ hq
  ·intro j hl;by_cases hj:j=id
   ·subst hj;refine⟨p',lC _ _,?_⟩;rw[sB];refine⟨rfl,rfl,rfl,hrule,?_,?_⟩
    ·show A.J (dE R') _ _;rw[hpl];exact t1
    ·intro c0 hc0;have hc0:c0∈dE R':=hc0;rw[hpl]at hc0;simp only[n0,hZ]at hc0;rcases hc0 with hc0|hc0|hc0
     ·exact y2 (hbd c0 hc0) t3
     ·subst hc0;exact y2 ho.lt t3
     ·exact(t2 c0 hc0).2
   ·rw[zB _ hj]at hl⊢;by_cases hjb:j=b
    ·subst hjb;rw[sB]at hl;exact hl.elim
    ·rw[zB _ hjb]at hl⊢;obtain⟨q,hq,hbq⟩:=hh.rel j hl;refine⟨q,by rw[tC _ hj];exact hq,wA.mono hsub hext hbq fun c0 hc0=>t4 c0 (hlt j q c0 hq hc0) (hother j q c0 hj hq hc0)⟩
  ·intro i j c0 q q' hq hq' hx hx';rcases hhas i q c0 hq hx with⟨rfl,rfl,h3⟩|⟨n1,n2,h3,h4⟩<;>rcases hhas j q' c0 hq' hx' with⟨rfl,rfl,h3'⟩|⟨n1',n2',h3',h4'⟩
   ·rfl
   ·exfalso;rcases h3 with h3|h3|h3
    ·exact hother j q' c0 n1' h3' h4' h3
    ·subst h3;exact n2' (hh.inj j b c0 _ _ h3' g1 h4' hhb)
    ·have:=(t2 c0 h3).1;have:=hlt j q' c0 h3' h4';omega
   ·exfalso;rcases h3' with h3'|h3'|h3'
    ·exact hother i q c0 n1 h3 h4 h3'
    ·subst h3';exact n2 (hh.inj i b c0 _ _ h3 g1 h4 hhb)
    ·have:=(t2 c0 h3').1;have:=hlt i q c0 h3 h4;omega
   ·exact hh.inj i j c0 _ _ h3 h3' h4 h4'
 ·rw[hH];exact hext
def bL (n:Nat)(ρ ρ':fC):Prop:=∀j,j<n→(∀p,ρ j=some p→∃p',ρ' j=some p'∧p.le p')∧(ρ j=none→ρ' j=none)
theorem bL.refl (n:Nat)(ρ:fC):bL n ρ ρ:=fun j _=>⟨fun p h=>⟨p,h,.refl p⟩,fun h=>h⟩
theorem bL.trans {n:Nat}{ρ ρ' ρ'':fC}(h:bL n ρ ρ')(h':bL n ρ' ρ''):bL n ρ ρ'':=fun j hj=>⟨fun p hp=>by
 obtain⟨p',h1,h2⟩:=(h j hj).1 p hp;obtain⟨p'',h3,h4⟩:=(h' j hj).1 p' h1;exact⟨p'',h3,h2.trans h4⟩,fun hn=>(h' j hj).2 ((h j hj).2 hn)⟩
theorem bL.of {n:Nat}{ρ ρ':fC}(h:iI ρ ρ')(h':∀j,j<n→ρ j=none→ρ' j=none):bL n ρ ρ':=fun j hj=>⟨fun p hp=>h j p hp,h' j hj⟩
theorem bL.eq {n:Nat}{ρ ρ':fC}(h:∀j,j<n→ρ' j=ρ j):bL n ρ ρ':=fun j hj=>⟨fun p hp=>⟨p,by rw[h j hj];exact hp,.refl p⟩,fun hn=>by rw[h j hj];exact hn⟩
theorem bL.le {n m:Nat}{ρ ρ':fC}(h:bL n ρ ρ')(hm:m≤n):bL m ρ ρ':=fun j hj=>h j (by omega)
def aM (E:aC)(F:Nat→Prop)(len base:Nat)(ρ0:fC)(M0:Nat→Prop)(w0:World)(T:Nat→V)(h:Nat→oA)(rem:List rJ)(a:Act)(w:World):Prop:=
 ∃ρ,nW E F ρ T h a w∧(∀x∈rem,∀id,x.nid≤id→id<x.nid+iO E.tab x.o.op→ρ id=none)∧rem.Pairwise (fun x y=>x.nid+iO E.tab x.o.op≤y.nid)∧
  (∀id,len≤id→ρ id=none)∧bL base ρ0 ρ∧(∀x∈rem,base≤x.nid)∧nG M0 w0 (gA ρ h) w
theorem aM.next {len base:Nat}{ρ0:fC}{M0:Nat→Prop}{w0:World}{pre post:List rJ}{x:rJ}(hr:nW E F ρ T h a w)
  (h1:∀y∈pre++x::post,∀id,y.nid≤id→id<y.nid+iO E.tab y.o.op→ρ id=none)(h2:(pre++x::post).Pairwise (fun x y=>x.nid+iO E.tab x.o.op≤y.nid))
  (h3:∀id,len≤id→ρ id=none)(h4:bL base ρ0 ρ)(h5:∀y∈pre++x::post,base≤y.nid)(h6:nG M0 w0 (gA ρ h) w)
  (hd:qg E.ntmps x.o.dst=true){out:jJ}(hn:out.new.length≤iO E.tab x.o.op)(hl:x.nid+iO E.tab x.o.op≤len){v:Value}{w':World}{ρ':fC}(hp:Co F ρ h w x.nid out v w' ρ'):
  aM E F len base ρ0 M0 w0 (dJ T x.o.dst out.val) (lF h (out.wr++fQ x.nid out.new)) (pre++post) (a.put x.o.dst v) w':=by
 obtain⟨p1,p2,p3,p4,p5⟩:=hp;rw[dq]at p3 p4 p5;rw[p7]at h2;obtain⟨q1,q2,q3⟩:=h2;rw[c8]at q2;refine⟨ρ',hr.put p1 p3 p5 hd p4,?_,?_,?_,?_,?_,h6.trans p5⟩
 ·intro y hy id k1 k2;rcases n0.mp hy with hy|hy
  ·have:=q3 y hy x (by simp);exact p2 id (by omega) (h1 y (by simp[hy]) id k1 k2)
  ·have:=q2.1 y hy;exact p2 id (by omega) (h1 y (by simp[hy]) id k1 k2)
 ·rw[p7];exact⟨q1,q2.2,fun y hy z hz=>q3 y hy z (by simp[hz])⟩
 ·intro id hid;exact p2 id (by omega) (h3 id hid)
 ·have:=h5 x (by simp);exact h4.trans (.of p1 fun id hid=>p2 id (by omega))
 ·intro y hy;refine h5 y ?_;simp only[n0,hZ]at hy⊢;rcases hy with hy|hy<;>simp[hy]
theorem E7 (hE:sA P E)(hyl:E.yld=false){ops:Array Oper}{Q:Exit→Act→World→Prop}{len base:Nat}{ρ0:fC}{M0:Nat→Prop}{w0:World}{pre post:List rJ}{x:rJ}{r:oW}{K:Act→World→Prop}
  (hc:oJ E ops.toList len x T h r)(hI:aM E F len base ρ0 M0 w0 T h (pre++x::post) a w)(hx:ops[x.i]?=some x.o)
  (hK:∀a' w',aM E F len base ρ0 M0 w0 (dJ T x.o.dst r.v) (lF h r.ups) (pre++post) a' w'→K a' w'):wpOp P ops Q x.i K a w:=by
 obtain⟨ρ,hr,h1,h2,h3,h4,h5,h6⟩:=hI;obtain⟨c1,hd,⟨hw,out,hex,rfl,hn,hl,_⟩|⟨hw,rfl⟩⟩:=hc
 ·unfold wpOp;rw[hx];dsimp only;rw[kW hr hw,if_pos rfl];refine .inl ?_;unfold Oper.wp;have hslot:∀id,x.nid≤id→id<x.nid+out.new.length→ρ id=none:=fun id k1 k2=>h1 x (by simp) id k1 (by omega);rcases hex with⟨f,args,ts,g,first,cap,e1,e2,e3⟩|hact|⟨_,_,_,_,_,_,hy,_⟩
  rotate_right
  ·rw[hyl]at hy;cases hy
  ·have hf:=hr.ev f;rw[e2]at hf;simp only[nA]at hf;obtain⟨va,vc,f1,f2,f3⟩:=hf;have hargs:iA ρ (av F (gA ρ h)) w (first++(args.toList.map (fx T)++cap)) (va.toList++(args.toList.map a.eval++vc.toList)):=
    f2.append ((iA.map_evF hr).append f3)
   obtain⟨hcal,hcalls⟩:=qb hE.tab hr.heap e3 hslot hargs;rw[jx e1 f1 hcal,Oper.upon_enter];have hav:(va++args.map a.eval++vc)=(va.toList++(args.toList.map a.eval++vc.toList)).toArray:=by apply s8.mp;simp
   rw[hav];refine Calls.mono hcalls ?_;rintro e w' ⟨v',ρ',rfl,hp⟩;exact hK _ _ (aM.next hr h1 h2 h3 h4 h5 h6 hd hn hl hp)
  ·obtain⟨v,w',ρ',hrun,p⟩:=xe (P:=P) hE.ty hr.heap hr.ev hslot x.o.op x.o rfl hact;rcases hrun with hrun|⟨hrun,rfl⟩
   ·rw[hrun,Oper.upon_value];exact hK _ _ (aM.next hr h1 h2 h3 h4 h5 h6 hd hn hl p)
   ·rw[hrun,Oper.upon_skip];exact hK _ _ (aM.next hr h1 h2 h3 h4 h5 h6 hd hn hl p)
 ·unfold wpOp;rw[hx];dsimp only;rw[kW hr hw];simp only[a8,if_false];refine hK _ _ ⟨ρ,hr.put (iI.refl _) hr.heap (nG.refl _ _) hd (by simp only[tI,nA];rfl),?_,?_,h3,h4,?_,h6⟩
  ·intro y hy;refine h1 y ?_;simp only[n0,hZ]at hy⊢;rcases hy with hy|hy<;>simp[hy]
  ·exact h2.sublist (List.Sublist.append_left (s6 _ _) _)
  ·intro y hy;refine h5 y ?_;simp only[n0,hZ]at hy⊢;rcases hy with hy|hy<;>simp[hy]
abbrev wr (ro:Option Nat):Fence:={Fence.wide with round:=ro}
theorem ag {n:Nat}{ro:Option Nat}(hE:sA P E){ops:Array Oper}{Q:Exit→Act→World→Prop}{len base:Nat}{ρ0:fC}{M0:Nat→Prop}{w0:World}{pre post:List rJ}{x:rJ}{r:oW}{K:Act→World→Prop}
  (hc:oJ E ops.toList len x T h r)(hI:aM E F len base ρ0 M0 w0 T h (pre++x::post) a w)(hx:ops[x.i]?=some x.o)
  (hK:∀a' w',aM E F len base ρ0 M0 w0 (dJ T x.o.dst r.v) (lF h r.ups) (pre++post) a' w'→K a' w'):wpOpIn (wr ro) n P ops Q x.i K a w:=by
 obtain⟨ρ,hr,h1,h2,h3,h4,h5,h6⟩:=hI;obtain⟨c1,hd,⟨hw,out,hex,rfl,hn,hl,_⟩|⟨hw,rfl⟩⟩:=hc
 ·unfold wpOpIn;rw[hx];dsimp only;rw[kW hr hw,if_pos rfl];unfold Oper.wpIn;refine⟨fun _ _=>trivial,?_⟩;have hnd:∀c,x.o.op≠ .defer c:=fun c e=>by
   rcases hex with⟨f,args,ts,g,first,cap,e1,_⟩|hact|⟨f,args,ts,yid,e1,_⟩
   ·rw[e1]at e;cases e
   ·rw[e]at hact;cases hact
   ·rw[e1]at e;cases e
  rw[Oper.semAt_eq _ _ _ hnd];have hslot:∀id,x.nid≤id→id<x.nid+out.new.length→ρ id=none:=fun id k1 k2=>h1 x (by simp) id k1 (by omega);rcases hex with⟨f,args,ts,g,first,cap,e1,e2,e3⟩|hact|⟨f,args,ts,yid,e1,e2,hy,e3⟩
  rotate_right
  ·obtain rfl:=hE.yld hy;have hf:=hr.ev f;rw[e2]at hf;simp only[nA]at hf;obtain⟨p,f1,f2⟩:=hf;obtain⟨fn,tmps,assign,body,g1,g2⟩:=Cg (n:=n-1) hr.heap f1 e3 (iA.map_evF hr (xs:=args.toList)) x.nid;have hav:(args.toList.map a.eval).toArray=args.map a.eval:=by apply s8.mp;simp
   rw[hav]at g1;rw[om e1 f2,g1,Oper.uponIn_round];refine⟨fun h=>(by cases h),RoundIn.mono (show RoundIn (wr ro) _ _ _ _ _ _ _ _ _ from g2) ?_⟩;rintro e w' ⟨rfl,ρ',hp⟩;exact hK _ _ (aM.next hr h1 h2 h3 h4 h5 h6 hd hn hl hp)
  ·have hf:=hr.ev f;rw[e2]at hf;simp only[nA]at hf;obtain⟨va,vc,f1,f2,f3⟩:=hf;have hargs:iA ρ (av F (gA ρ h)) w (first++(args.toList.map (fx T)++cap)) (va.toList++(args.toList.map a.eval++vc.toList)):=
    f2.append ((iA.map_evF hr).append f3)
   obtain⟨hcal,hcalls⟩:=qb hE.tab hr.heap e3 hslot hargs;rw[jx e1 f1 hcal,Oper.uponIn_enter];have hav:(va++args.map a.eval++vc)=(va.toList++(args.toList.map a.eval++vc.toList)).toArray:=by apply s8.mp;simp
   rw[hav];refine⟨fun h=>(by cases h),show CallsIn (wr ro) _ _ _ _ _ _ from callsIn_wide.2 (Calls.mono hcalls ?_)⟩;rintro e w' ⟨v',ρ',rfl,hp⟩;exact hK _ _ (aM.next hr h1 h2 h3 h4 h5 h6 hd hn hl hp)
  ·obtain⟨v,w',ρ',hrun,p⟩:=xe (P:=P) hE.ty hr.heap hr.ev hslot x.o.op x.o rfl hact;rcases hrun with hrun|⟨hrun,rfl⟩
   ·rw[hrun,Oper.uponIn_value];exact hK _ _ (aM.next hr h1 h2 h3 h4 h5 h6 hd hn hl p)
   ·rw[hrun,Oper.uponIn_skip];exact hK _ _ (aM.next hr h1 h2 h3 h4 h5 h6 hd hn hl p)
 ·unfold wpOpIn;rw[hx];dsimp only;rw[kW hr hw];simp only[a8,if_false];refine⟨fun _ _=>trivial,?_⟩;refine hK _ _ ⟨ρ,hr.put (iI.refl _) hr.heap (nG.refl _ _) hd (by simp only[tI,nA];rfl),?_,?_,h3,h4,?_,h6⟩
  ·intro y hy;refine h1 y ?_;simp only[n0,hZ]at hy⊢;rcases hy with hy|hy<;>simp[hy]
  ·exact h2.sublist (List.Sublist.append_left (s6 _ _) _)
  ·intro y hy;refine h5 y ?_;simp only[n0,hZ]at hy⊢;rcases hy with hy|hy<;>simp[hy]
theorem ct (tab:Nat→Option rA):∀(ops:List Oper) (i nid:Nat),(qJ tab i nid ops).map (·.i)=(List.range ops.length).map (i+ ·)
 | [],_,_=>rfl
 |o::r,i,nid=>by simp only[qJ,p0,x3,r9,c7,ct tab r];simp[Function.comp_def,Nat.add_assoc,Nat.add_comm 1]
theorem cw (tab:Nat→Option rA):∀(ops:List Oper) (i nid:Nat),∀x∈qJ tab i nid ops,i≤x.i∧ops[x.i-i]?=some x.o
 | [],_,_,x,hx=>by simp[qJ]at hx
 |o::r,i,nid,x,hx=>by
  simp only[qJ,hZ]at hx;rcases hx with rfl|hx
  ·simp
  ·obtain⟨h1,h2⟩:=cw tab r _ _ x hx;refine⟨by omega,?_⟩;have:x.i-i=(x.i- (i+1))+1:=by omega
   rw[this];simpa using h2
theorem xT (tab:Nat→Option rA):∀(ops:List Oper) (i nid:Nat),(∀x∈qJ tab i nid ops,nid≤x.nid)∧(qJ tab i nid ops).Pairwise (fun x y=>x.nid+iO tab x.o.op≤y.nid)
 | [],_,_=>⟨by simp[qJ],by simp[qJ]⟩
 |o::r,i,nid=>by
  obtain⟨h1,h2⟩:=xT tab r (i+1) (nid+iO tab o.op);simp only[qJ];refine⟨fun x hx=>?_,c8.mpr ⟨fun y hy=>h1 y hy,h2⟩⟩;rcases hZ.mp hx with rfl|hx
  ·exact l4 _
  ·exact cx (e9 _ _) (h1 x hx)
theorem nW.heq {w':World}(hr:nW E F ρ T h a w)(he:w'.heap=w.heap):nW E F ρ T h a w':=
 ⟨hr.heap.heq he,fun t=>nA.world he _ _ (hr.tmps t),hr.size,hr.defers.heq he⟩
theorem wo.rows {len:Nat}{all:List Oper}:∀(L:List (rJ×oW)) (T:Nat→V) (h:Nat→oA) {T':Nat→V} {h':Nat→oA},wo E all len L T h T' h'→∀p∈L,p.2.i=p.1.i
 | [],_,_,_,_,_,p,hp=>by simp at hp
 |q::L,T,h,_,_,ht,p,hp=>by
  rcases hZ.mp hp with rfl|hp
  ·exact ht.1.1
  ·exact wo.rows L _ _ ht.2 p hp
theorem sW (H:List oA)(n:Nat):jA (H++w5 n .dead)=jA H:=by
 funext j;rw[aD,aD];simp only[xK,o0,k9];by_cases hj:j<H.length
 ·rw[if_pos hj]
 ·rw[if_neg hj,r0 (by omega)];split<;>rfl
theorem ve (hE:sA P E)(hmix:P.follows .mixedOrders=true){id:Nat}{ops:Array Oper}{draw:Bool}{s:St}{R:Type}{k:St→Option R}{r:R}(hr:tO E ops draw s k=some r):
  ∃s',k s'=some r∧s.H.length≤s'.H.length∧∀F ρ a w Q,nW E F ρ (cE s.T) (jA s.H) a w→(∀j,s.H.length≤j→ρ j=none)→
   (∀ρ' a' w',nW E F ρ' (cE s'.T) (jA s'.H) a' w'→(∀j,s'.H.length≤j→ρ' j=none)→bL s.H.length ρ ρ'→nG (gA ρ (jA s.H)) w (gA ρ' (jA s'.H)) w'→Q .normal a' w')→
   (Code.region id ops draw).wp P Q a w:=by
 unfold tO at hr;generalize hE0:(bif draw then{E with yld:=false} else E)=E0 at hr;have hE0':sA P E0∧E0.tab=E.tab∧E0.ntmps=E.ntmps∧E0.mark=E.mark∧E0.lo=E.lo∧(draw=true→E0.yld=false):=by
  subst hE0;cases draw
  ·exact⟨hE,rfl,rfl,rfl,rfl,fun h=>by cases h⟩
  ·exact⟨⟨hE.ty,hE.tab,fun h=>by cases h⟩,rfl,rfl,rfl,rfl,fun _=>rfl⟩
 clear hE0;obtain⟨hE,htab,hnt,hmk,hlo,hyl⟩:=hE0';rw[←htab]at hr;obtain⟨rs,T',H',ht,hlen,hk⟩:=jX _ _ _ _ _ _ hr;obtain⟨hok,hk⟩:=eA hk;rw[sW]at ht;obtain⟨L,l1,l2,l3⟩:=ht.pairs;simp only[b8,bd]at hlen l3;refine⟨⟨T',H'⟩,hk,by dsimp only;omega,?_⟩;intro F ρ a w Q hrep hnone hQ
 replace hrep:nW E0 F ρ (cE s.T) (jA s.H) a w:=hrep.env hnt hmk hlo
 obtain⟨n1,n2⟩:=xT E0.tab ops.toList 0 s.H.length;have ho:∀p∈L,ops[p.1.i]?=some p.1.o:=by
  intro p hp;have hm:p.1∈qJ E0.tab 0 s.H.length ops.toList:=by rw[←l1];exact c6 hp
  have:=(cw _ _ _ _ _ hm).2;simpa using this
 have hI:∀w2:World,w2.heap=w.heap→nF w w2→aM E0 F (s.H.length+aQ E0.tab ops.toList) s.H.length ρ (gA ρ (jA s.H)) w (cE s.T) (jA s.H) (L.map (·.1)) a w2:=by intro w2 hw2 hk2;rw[l1];exact⟨ρ,hrep.heq hw2,fun x hx id h1 h2=>hnone id (cx (n1 x hx) h1),n2,fun id hid=>hnone id (by omega),bL.refl _ _,n1,nG.heq hw2 hk2⟩
 have hfin:∀a' w',aM E0 F (s.H.length+aQ E0.tab ops.toList) s.H.length ρ (gA ρ (jA s.H)) w (cE T') (jA H') [] a' w'→Q .normal a' w':=by rintro a' w' ⟨ρ',r1,_,_,r2,r3,_,r4⟩;exact hQ ρ' a' w' (r1.env hnt.symm hmk.symm hlo.symm) (fun j hj=>r2 j (by dsimp only at hj;omega)) r3 r4
 have hmi:L.map (·.1.i)=List.range ops.size:=by
  have:L.map (·.1.i)=(L.map (·.1)).map (·.i):=by simp[c7,Function.comp_def]
  rw[this,l1,ct];simp
 cases draw with
 |false=>refine wpIn_wide.1 (wpIn_region (n:=0) (F:=wr none) ?_);rw[←hmi];exact jZ (n:=0) (aM E0 F _ s.H.length ρ (gA ρ (jA s.H)) w) (fun T h pre x post r a w K hc hI hx hK=>ag hE hc hI hx hK) hfin L _ _ a w l3 (hI w rfl (.refl _)) ho
 |true=>
  simp only[Bool.not_true,Bool.false_or,hP]at hok;obtain⟨⟨k1,k2⟩,k3⟩:=hok;refine wp_region_any hmix ?_;refine Ca (aM E0 F _ s.H.length ρ (gA ρ (jA s.H)) w) (fun T h pre x post r a w K hc hI hx hK=>E7 hE (hyl rfl) hc hI hx hK) k1 hfin ops.size _ L _ _ a _ l3 (hI _ rfl ⟨rfl,rfl,rfl,by first|exact l4 _|exact Nat.le_succ _|exact e9 _ _⟩) ?_ (by simp) ?_ ho (l3.rows) ?_ ?_
  ·have:=congrArg List.length hmi;simp at this;omega
  ·rw[hmi];symm;rw[y7];intro i hi;simp only[l6]at hi;simp[q0,hi]
  ·have hp:=wN _ k3;rw[List.append_nil,List.pairwise_reverse,←l2,c7,List.pairwise_map]at hp;exact hp
  ·intro j o hj;rw[q0]at hj;simp[j6]at hj;split at hj<;>simp_all
end
mutual
theorem nA.agree {ρ ρ':fC}{M:Nat→Prop}{w:World}:∀(x:V) (v:Value),(∀i∈dL x,∀p,ρ i=some p→ρ' i=some p)→nA ρ M w x v→nA ρ' M w x v
 | .c _,_,_,h=>by simpa only[nA]using h
 | .poison,_,_,_=>by simp only[nA]
 | .ptr id _ _,_,hm,h=>by simp only[nA]at h⊢;obtain⟨b,n,C,R,h1,h2,h3⟩:=h;exact⟨b,n,C,R,hm id (by simp[dL]) _ h1,h2,h3⟩
 | .sw id _,_,hm,h=>by
  simp only[nA]at h⊢;obtain⟨h0,⟨b,n,C,R,cap,h1,h2⟩|⟨R,h1,h2⟩⟩:=h
  ·exact⟨h0,.inl ⟨b,n,C,R,cap,hm id (by simp[dL]) _ h1,h2⟩⟩
  ·exact⟨h0,.inr ⟨R,hm id (by simp[dL]) _ h1,h2⟩⟩
 | .sl id _ _ _,_,hm,h=>by
  simp only[nA]at h⊢;obtain⟨h0,⟨b,n,C,R,cap,h1,h2⟩|⟨h1,h2⟩⟩:=h
  ·exact⟨h0,.inl ⟨b,n,C,R,cap,hm id (by simp[dL]) _ h1,h2⟩⟩
  ·exact⟨h0,.inr ⟨h1,h2⟩⟩
 | .rp id _ _,_,hm,h=>by simp only[nA]at h⊢;obtain⟨h0,p,pl,h1,h2⟩:=h;exact⟨h0,p,pl,hm id (by simp[dL]) _ h1,h2⟩
 | .ep id _ _ _,_,hm,h=>by simp only[nA]at h⊢;obtain⟨p,pl,b,h1,h2⟩:=h;exact⟨p,pl,b,hm id (by simp[dL]) _ h1,h2⟩
 | .tp id _ _,_,hm,h=>by simp only[nA]at h⊢;obtain⟨b,n,C,R,h1,h2,h3⟩:=h;exact⟨b,n,C,R,hm id (by simp[dL]) _ h1,h2,h3⟩
 | .yv id,_,hm,h=>by simp only[nA]at h⊢;obtain⟨p,h1,h2⟩:=h;exact⟨p,hm id (by simp[dL]) _ h1,h2⟩
 | .inl _ _ _,_,_,h=>by simpa only[nA]using h
 | .inlp _ _ _ _,_,_,h=>by simpa only[nA]using h
 | .il _ _ _,_,_,h=>by simpa only[nA]using h
 | .iv _ _,_,_,h=>by simpa only[nA]using h
 | .ilp _ _ _ _,_,_,h=>by simpa only[nA]using h
 | .ivp _ _ _ _,_,_,h=>by simpa only[nA]using h
 | .agg cs,_,hm,h=>by simp only[nA]at h⊢;obtain⟨vs,h1,h2⟩:=h;exact⟨vs,h1,iA.agree cs _ (fun i hi=>hm i (by simpa only[dL]using hi)) h2⟩
 | .tup cs,_,hm,h=>by simp only[nA]at h⊢;obtain⟨vs,h1,h2⟩:=h;exact⟨vs,h1,iA.agree cs _ (fun i hi=>hm i (by simpa only[dL]using hi)) h2⟩
 | .fn _ a c,_,hm,h=>by simp only[nA]at h⊢;obtain⟨va,vc,h1,h2,h3⟩:=h;exact⟨va,vc,h1,iA.agree a _ (fun i hi=>hm i (by simp only[dL,n0];exact .inl hi)) h2,iA.agree c _ (fun i hi=>hm i (by simp only[dL,n0];exact .inr hi)) h3⟩
theorem iA.agree {ρ ρ':fC}{M:Nat→Prop}{w:World}:∀(x:List V) (v:List Value),(∀i∈dF x,∀p,ρ i=some p→ρ' i=some p)→iA ρ M w x v→iA ρ' M w x v
 | [],[],_,_=>by simp only[iA]
 |x::xs,v::vs,hm,h=>by simp only[iA]at h⊢;exact⟨nA.agree x v (fun i hi=>hm i (by simp only[dF,n0];exact .inl hi)) h.1,iA.agree xs vs (fun i hi=>hm i (by simp only[dF,n0];exact .inr hi)) h.2⟩
 | [],_::_,_,h=>by simp only[iA]at h
 |_::_,[],_,h=>by simp only[iA]at h
end
theorem cB.agree {ρ ρ':fC}{M:Nat→Prop}{w:World}{p:Pl}{cs:List V}(hm:∀i∈dF cs,∀p,ρ i=some p→ρ' i=some p)(h:cB ρ M w p cs):cB ρ' M w p cs:=by
 obtain⟨h1,h2|⟨b,c,h2,h3,h4,h5⟩⟩:=h
 ·exact⟨h1,.inl h2⟩
 ·exact⟨h1,.inr ⟨b,c,h2,h3,h4,iA.agree _ _ hm h5⟩⟩
theorem cB.avoid {ρ:fC}{M M':Nat→Prop}{w:World}(hM:∀b,M' b→M b){p:Pl}{cs:List V}(h:cB ρ M w p cs):cB ρ M' w p cs:=by
 obtain⟨h1,h2|⟨b,c,h2,h3,h4,h5⟩⟩:=h
 ·exact⟨h1,.inl h2⟩
 ·exact⟨h1,.inr ⟨b,c,h2,h3,h4,iA.avoid hM _ _ h5⟩⟩
theorem sY:∀l:List V,(∀x∈l,jc x)→dF l=[]
 | [],_=>rfl
 |x::r,h=>by have h0:=h x (by simp);rw[dF,sY r fun y hy=>h y (b5 _ hy)];cases x<;>first|rfl|exact h0.elim
theorem jr (s pid:Nat):∀(π:List Nat),∀i∈dF (cL s pid π),i=pid
 | [],i,hi=>by simp[cL,dF]at hi
 |q::r,i,hi=>by simp only[cL,p0,dF,dL,x5,hZ]at hi;exact hi.elim id (jr s pid r i)
theorem cB.leaf {ρ ρ':fC}{M:Nat→Prop}{w:World}{p:Pl}{r:RK}{l:List r.El}(h:cB ρ M w p (r.flat l)):cB ρ' M w p (r.flat l):=
 h.agree fun i hi=>by rw[sY _ (r.flat_leaf l)]at hi;cases hi
theorem cB.poName {ρ ρ':fC}{M:Nat→Prop}{w:World}{p:Pl}{s pid j:Nat}{π:List Nat}(hj:ρ' j=ρ pid)(h:cB ρ M w p (cL s pid π)):cB ρ' M w p (cL s j π):=by
 obtain⟨h1,h2|⟨b,c,h2,h3,h4,h5⟩⟩:=h
 ·exact⟨by simpa[cL]using h1,.inl (by simpa[cL]using h2)⟩
 ·refine⟨by simpa[cL]using h1,.inr ⟨b,c,h2,h3,h4,?_⟩⟩;generalize c.toList.take p.n=us at h5;clear h1 h2 h3 h4;induction π generalizing us with
  |nil=>cases us<;>simp_all[cL,iA]
  |cons q r ih=>
   cases us with
   |nil=>simp[cL,iA]at h5
   |cons u us=>simp only[cL,p0,iA]at h5⊢;refine⟨?_,ih us h5.2⟩;have:=h5.1;simp only[nA]at this⊢;rw[hj];exact this
theorem wA.agree {ρ ρ':fC}{M:Nat→Prop}{w:World}{p:Pl}{x:oA}(hm:∀i∈sS x,∀p,ρ i=some p→ρ' i=some p)(h:wA ρ M w p x):wA ρ' M w p x:=by
 cases x with
 |dead=>trivial
 |ints k l=>exact h
 |vals cs=>exact cB.agree hm h
 |tw r l=>exact cB.leaf h
 |amb A pre=>exact h
 |po s pid π=>exact cB.agree (fun i hi=>hm i (by rw[jr s pid π i hi];simp[sS])) h
 |pool r rows=>exact h
theorem wA.avoid {ρ:fC}{M M':Nat→Prop}{w:World}(hM:∀b,M' b→M b){p:Pl}{x:oA}(h:wA ρ M w p x):wA ρ M' w p x:=by
 cases x with
 |dead=>trivial
 |ints k l=>exact h
 |vals cs=>exact cB.avoid hM h
 |tw r l=>exact cB.avoid hM h
 |amb A pre=>exact h
 |po s pid π=>exact cB.avoid hM h
 |pool r rows=>obtain⟨h1,h2,h3,h4,h5,h6⟩:=h;exact⟨h1,h2,h3,h4,fun q pl l hq hl=>(h5 q pl l hq hl).ren (.inl hM) (r.flat_leaf l),h6⟩
theorem jS {l:List Nat}(h:l.isEmpty=true):∀i,i∉l:=by
 intro i hi;cases l with
 |nil=>cases hi
 |cons=>cases h
structure oZ (ρ ρ':fC)(src:List (Option Nat)):Prop where
 old:∀(j id:Nat),src[j]?=some (some id)→ρ' j=ρ id
 nil:∀j:Nat,src[j]?=some none→ρ' j=some ⟨none,0,0,[]⟩
def kT (x:oA):Prop:=(∃k,x= .ints k [])∨(∃r,x= .pool r [])∨∃s j,x= .po s j []
structure zI (h:Nat→oA)(a:kO):Prop where
 len:a.src.length=a.blks.length
 nodup:∀(i j id:Nat),a.src[i]?=some (some id)→a.src[j]?=some (some id)→i=j
 virt:∀j:Nat,a.src[j]?=some none→∃x,a.blks[j]?=some x∧kT x
 live:∀(j id:Nat) (x:oA),a.src[j]?=some (some id)→a.blks[j]?=some x→x.live→(h id).live∧(x.flat↔(h id).flat)
def mI (h:Nat→oA)(ρ ρ':fC)(M:Nat→Prop)(w:World)(a:kO):Prop:=
 ∀(j id:Nat) (x:oA) (p:Pl),a.src[j]?=some (some id)→a.blks[j]?=some x→ρ id=some p→wA ρ M w p (h id)→wA ρ' M w p x
theorem dN {id:Nat}:∀(src:List (Option Nat)) (n j:Nat),wB id src n=some j→n≤j∧src[j-n]?=some (some id)
 | [],n,j,h=>by simp[wB]at h
 |some x::r,n,j,h=>by
  simp only[wB]at h;cases hb:Nat.beq x id<;>rw[hb]at h<;>simp only[cond_true,cond_false]at h
  ·obtain⟨h1,h2⟩:=dN r (n+1) j h;have:j-n=(j- (n+1))+1:=by omega
   exact⟨by omega,by rw[this];simpa using h2⟩
  ·simp only[hC]at h;subst h;have:=yA hb;subst this;simp
 |none::r,n,j,h=>by
  simp only[wB]at h;obtain⟨h1,h2⟩:=dN r (n+1) j h;have:j-n=(j- (n+1))+1:=by omega
  exact⟨by omega,by rw[this];simpa using h2⟩
theorem cN {id mid:Nat}(hne:mid≠id):∀(src:List (Option Nat)) (n:Nat),wB id src n=none→wB id (src++[some mid]) n=none
 | [],n,_=>by
  simp only[e6,wB];cases hb:Nat.beq mid id
  ·rfl
  ·exact absurd (yA hb) hne
 |some x::r,n,h=>by
  simp only[wB,c5]at h⊢;cases hb:Nat.beq x id<;>rw[hb]at h<;>simp only[cond_true,cond_false]at h⊢
  ·exact cN hne r (n+1) h
  ·cases h
 |none::r,n,h=>by simp only[wB,c5]at h⊢;exact cN hne r (n+1) h
theorem bN {id:Nat}:∀(src:List (Option Nat)) (n:Nat),wB id src n=none→∀j:Nat,src[j]?≠some (some id)
 | [],n,_,j=>by simp
 |some x::r,n,h,j=>by
  simp only[wB]at h;cases hb:Nat.beq x id<;>rw[hb]at h<;>simp only[cond_true,cond_false]at h
  ·cases j with
   |zero=>intro e;simp at e;subst e;simp at hb
   |succ j=>simpa using bN r _ h j
  ·cases h
 |none::r,n,h,j=>by
  simp only[wB]at h;cases j with
  |zero=>simp
  |succ j=>simpa using bN r _ h j
theorem zI.push {h:Nat→oA}{a:kO}(ha:zI h a){id:Nat}{x:oA}(hf:wB id a.src 0=none)(hx:x.live→(h id).live∧(x.flat↔(h id).flat)):zI h ⟨a.src++[some id],a.blks++[x]⟩:=by
 have hno:=bN _ _ hf;refine⟨by simp[ha.len],?_,?_,?_⟩
 ·intro i j id' hi hj;dsimp only at hi hj;rw[o0]at hi hj;split at hi<;>split at hj
  ·exact ha.nodup i j id' hi hj
  ·rw[yK]at hj;split at hj
   ·simp only[hC]at hj;subst hj;exact absurd hi (hno i)
   ·cases hj
  ·rw[yK]at hi;split at hi
   ·simp only[hC]at hi;subst hi;exact absurd hj (hno j)
   ·cases hi
  ·rw[yK]at hi hj;split at hi<;>split at hj<;>first|omega|(cases hi;done)|(cases hj;done)
 ·intro j hj;dsimp only at hj⊢;rw[o0]at hj;split at hj
  ·rename_i hlt;obtain⟨k,hk,hho⟩:=ha.virt j hj;exact⟨k,by rw[u0 (by rw[←ha.len];exact hlt)];exact hk,hho⟩
  ·rw[yK]at hj;split at hj<;>simp at hj
 ·intro j id' y hj hy hl;dsimp only at hj hy;rw[o0]at hj hy;rw[←ha.len]at hy;split at hj
  ·rename_i hlt;rw[if_pos hlt]at hy;exact ha.live j id' y hj hy hl
  ·rename_i hge;rw[if_neg hge]at hy;rw[yK]at hj hy;split at hj
   ·rename_i h0;rw[if_pos h0]at hy;simp only[hC]at hj hy;subst hj;subst hy;exact hx hl
   ·cases hj
theorem zI.pushN {h:Nat→oA}{a:kO}(ha:zI h a){x:oA}(hx:kT x):zI h ⟨a.src++[none],a.blks++[x]⟩:=by
 refine⟨by simp[ha.len],?_,?_,?_⟩
 ·intro i j id hi hj;dsimp only at hi hj;rw[o0]at hi hj;split at hi<;>split at hj<;>first
   |exact ha.nodup i j id hi hj
   |(rw[yK]at hi;split at hi<;>simp at hi)
   |(rw[yK]at hj;split at hj<;>simp at hj)
 ·intro j hj;dsimp only at hj⊢;rw[o0]at hj;split at hj
  ·rename_i hlt;obtain⟨k,hk,hho⟩:=ha.virt j hj;exact⟨k,by rw[u0 (by rw[←ha.len];exact hlt)];exact hk,hho⟩
  ·rename_i hge;rw[yK]at hj;split at hj
   ·refine⟨x,?_,hx⟩;rw[w3 (by rw[←ha.len];omega),←ha.len];have:j-a.src.length=0:=by omega
    rw[this];rfl
   ·cases hj
 ·intro j id y hj hy hl;dsimp only at hj hy;rw[o0]at hj hy;rw[←ha.len]at hy;split at hj
  ·rename_i hlt;rw[if_pos hlt]at hy;exact ha.live j id y hj hy hl
  ·rw[yK]at hj;split at hj<;>simp at hj
theorem mI.pushN {h:Nat→oA}{ρ ρ':fC}{M:Nat→Prop}{w:World}{a:kO}(ha:zI h a)(hb:mI h ρ ρ' M w a){x:oA}:mI h ρ ρ' M w ⟨a.src++[none],a.blks++[x]⟩:=by
 intro j id y p hj hy hp hr;dsimp only at hj hy;rw[o0]at hj hy;rw[←ha.len]at hy;split at hj
 ·rename_i hlt;rw[if_pos hlt]at hy;exact hb j id y p hj hy hp hr
 ·rw[yK]at hj;split at hj<;>simp at hj
theorem mI.push {h:Nat→oA}{ρ ρ':fC}{M:Nat→Prop}{w:World}{a:kO}(ha:zI h a)(hb:mI h ρ ρ' M w a){id:Nat}{x:oA}(hx:∀p,wA ρ M w p (h id)→wA ρ' M w p x):mI h ρ ρ' M w ⟨a.src++[some id],a.blks++[x]⟩:=by
 intro j id' y p hj hy hp hr;dsimp only at hj hy;rw[o0]at hj hy;rw[←ha.len]at hy;split at hj
 ·rename_i hlt;rw[if_pos hlt]at hy;exact hb j id' y p hj hy hp hr
 ·rename_i hge;rw[if_neg hge]at hy;rw[yK]at hj hy;split at hj
  ·rename_i h0;rw[if_pos h0]at hy;simp only[hC]at hj hy;subst hj;subst hy;exact hx p hr
  ·cases hj
theorem oZ.pre {ρ ρ':fC}{src more:List (Option Nat)}(hc:oZ ρ ρ' (src++more)):oZ ρ ρ' src:=by
 refine⟨fun j id hj=>hc.old j id ?_,fun j hj=>hc.nil j ?_⟩<;>
 ·have:j<src.length:=(y0.mp hj).1;rw[u0 this];exact hj
def HB (h:Nat→oA)(ρ:fC)(M:Nat→Prop)(w:World):Prop:=∀id p,(h id).live→ρ id=some p→wA ρ M w p (h id)
def tG (h:Nat→oA)(a a':kO)(Rn:fC→fC→(Nat→Prop)→World→Prop):Prop:=
 (∃more,a'.src=a.src++more)∧(zI h a→zI h a'∧∀ρ ρ' M w,HB h ρ M w→oZ ρ ρ' a'.src→mI h ρ ρ' M w a→mI h ρ ρ' M w a'∧Rn ρ ρ' M w)
def J0 (v v':V)(ρ ρ':fC)(M:Nat→Prop)(w:World):Prop:=∀u,nA ρ M w v u→nA ρ' M w v' u
def Jz (v v':List V)(ρ ρ':fC)(M:Nat→Prop)(w:World):Prop:=∀u,iA ρ M w v u→iA ρ' M w v' u
theorem tG.same {h:Nat→oA}{a:kO}{Rn:fC→fC→(Nat→Prop)→World→Prop}(hr:∀ρ ρ' M w,oZ ρ ρ' a.src→Rn ρ ρ' M w):tG h a a Rn:=
 ⟨⟨[],by simp⟩,fun ha=>⟨ha,fun ρ ρ' M w _ hc hb=>⟨hb,hr ρ ρ' M w hc⟩⟩⟩
theorem tG.new {h:Nat→oA}{a:kO}{id:Nat}{x:oA}{Rn:fC→fC→(Nat→Prop)→World→Prop}(hf:wB id a.src 0=none)(hx:x.live→(h id).live∧(x.flat↔(h id).flat))(hb:∀ρ ρ' M w p,wA ρ M w p (h id)→wA ρ' M w p x)
  (hr:∀(ρ ρ':fC) M w,ρ' a.src.length=ρ id→Rn ρ ρ' M w):tG h a ⟨a.src++[some id],a.blks++[x]⟩ Rn:=
 ⟨⟨[some id],rfl⟩,fun ha=>⟨ha.push hf hx,fun ρ ρ' M w _ hc hk=>⟨hk.push ha (hb ρ ρ' M w),hr ρ ρ' M w (hc.old a.src.length id (by simp))⟩⟩⟩
theorem tG.sameq {h:Nat→oA}{a:kO}{Rn:fC→fC→(Nat→Prop)→World→Prop}(hr:∀ρ ρ' M w,HB h ρ M w→oZ ρ ρ' a.src→Rn ρ ρ' M w):tG h a a Rn:=
 ⟨⟨[],by simp⟩,fun ha=>⟨ha,fun ρ ρ' M w hq hc hb=>⟨hb,hr ρ ρ' M w hq hc⟩⟩⟩
theorem tG.newq {h:Nat→oA}{a:kO}{id:Nat}{x:oA}{Rn:fC→fC→(Nat→Prop)→World→Prop}(hf:wB id a.src 0=none)(hx:x.live→(h id).live∧(x.flat↔(h id).flat))(hb:∀ρ ρ' M w p,wA ρ M w p (h id)→wA ρ' M w p x)
  (hr:∀(ρ ρ':fC) M w,HB h ρ M w→ρ' a.src.length=ρ id→Rn ρ ρ' M w):tG h a ⟨a.src++[some id],a.blks++[x]⟩ Rn:=
 ⟨⟨[some id],rfl⟩,fun ha=>⟨ha.push hf hx,fun ρ ρ' M w hq hc hk=>⟨hk.push ha (hb ρ ρ' M w),hr ρ ρ' M w hq (hc.old a.src.length id (by simp))⟩⟩⟩
theorem rk {h:Nat→oA}{ρ ρ':fC}{M:Nat→Prop}{w:World}{id j s:Nat}{k:IntKind}{l:List Int}(hid:h id= .ints k l)(hq:HB h ρ M w)(he:ρ' j=ρ id){u:Value}(hr:nA ρ M w (.sw id s) u):nA ρ' M w (.sl j s 0 (pJ s l.length)) u:=by
 have hl:∀p,ρ id=some p→l.length=p.n:=fun p hp=>by have:=hq id p (by rw[hid];trivial) hp;rw[hid]at this;exact this.1
 simp only[nA]at hr⊢;obtain⟨h0,⟨b,n,C,R,cap,h1,h2,h3,h4,h5⟩|⟨R,h1,h2⟩⟩:=hr
 ·have e1:l.length=n:=hl _ h1;have hn:n/s*s=n:=Nat.div_mul_cancel (y9 h2);refine⟨h0,.inl ⟨b,n,C,R,cap,by rw[he];exact h1,?_,?_,by omega,?_⟩⟩
  ·rw[jE,e1];omega
  ·rw[jE,e1];exact h3
  ·rw[jE,e1];exact h5
 ·have e1:l.length=0:=hl _ h1;exact⟨h0,.inr ⟨by rw[jE,e1];simp,none,h2⟩⟩
theorem nA.ptr_name {ρ ρ':fC}{M:Nat→Prop}{w:World}{id j off ext:Nat}(h:ρ' j=ρ id){u:Value}(hr:nA ρ M w (.ptr id off ext) u):nA ρ' M w (.ptr j off ext) u:=by
 simp only[nA]at hr⊢;rw[h];exact hr
theorem nA.rp_name {ρ ρ':fC}{M:Nat→Prop}{w:World}{id j q s:Nat}(h:ρ' j=ρ id){u:Value}(hr:nA ρ M w (.rp id q s) u):nA ρ' M w (.rp j q s) u:=by
 simp only[nA]at hr⊢;rw[h];exact hr
theorem nA.sw_name {ρ ρ':fC}{M:Nat→Prop}{w:World}{id j s:Nat}(h:ρ' j=ρ id){u:Value}(hr:nA ρ M w (.sw id s) u):nA ρ' M w (.sw j s) u:=by
 simp only[nA]at hr⊢;rw[h];exact hr
theorem nA.sl_name {ρ ρ':fC}{M:Nat→Prop}{w:World}{id j s off len:Nat}(h:ρ' j=ρ id){u:Value}(hr:nA ρ M w (.sl id s off len) u):nA ρ' M w (.sl j s off len) u:=by
 simp only[nA]at hr⊢;rw[h];exact hr
theorem gK {ρ ρ':fC}{M:Nat→Prop}{w:World}{p:Pl}{k:IntKind}{l:List Int}(h:wA ρ M w p (.ints k l)):wA ρ' M w p (.ints k l):=h
theorem tW {ρ ρ':fC}{M:Nat→Prop}{w:World}{p:Pl}{cs:List V}(hc:(dF cs).isEmpty=true)(h:wA ρ M w p (.vals cs)):wA ρ' M w p (.vals cs):=
 h.agree (fun i hi=>absurd hi (jS hc i))
theorem G3 {ρ ρ':fC}{M:Nat→Prop}{w:World}{p:Pl}{r:RK}{l:List r.El}(h:wA ρ M w p (.tw r l)):wA ρ' M w p (.tw r l):=cB.leaf h
theorem gl {ρ ρ':fC}{M:Nat→Prop}{w:World}{p:Pl}{r:RK}{rows:List (List r.El)}(h:wA ρ M w p (.pool r rows)):wA ρ' M w p (.pool r rows):=h
theorem xn {ρ ρ':fC}{M:Nat→Prop}{w:World}{p:Pl}{s pid j:Nat}{π:List Nat}(hj:ρ' j=ρ pid)(h:wA ρ M w p (.po s pid π)):wA ρ' M w p (.po s j π):=cB.poName hj h
theorem oK {ρ ρ':fC}{src:List (Option Nat)}{id j:Nat}(hf:wB id src 0=some j)(hc:oZ ρ ρ' src):ρ' j=ρ id:=hc.old j id (by have:=(dN src 0 j hf).2;simpa using this)
theorem wD:∀(H:List oA) (i j:Nat) (x:oA),i<H.length→(oD H i x)[j]?=if j=i then some x else H[j]?
 | [],_,_,_,h=>by simp at h
 |b::r,0,0,x,_=>by simp[oD]
 |b::r,0,j+1,x,_=>by simp[oD]
 |b::r,n+1,0,x,_=>by simp[oD]
 |b::r,n+1,j+1,x,h=>by simp[oD,wD r n j x (by simpa using h)]
theorem Az {h:Nat→oA}{id w0 s pid:Nat}{π:List Nat}{a:kO}{v':V}{a':kO}(hf:wB id a.src 0=none)(hid:h id= .po s pid π)(hs:Iu h id w0 s pid π a=some (v',a')):tG h a a' (J0 (.sw id w0) v'):=by
 unfold Iu at hs;split at hs
 ·rename_i j hfm;simp only[hC,hG]at hs;obtain⟨rfl,rfl⟩:=hs;exact⟨⟨[some id],rfl⟩,fun ha=>⟨ha.push hf (fun _=>by rw[hid];exact⟨trivial,Iff.rfl⟩),fun ρ ρ' M w _ hc hk=>⟨hk.push ha (fun p hb=>by rw[hid]at hb;exact xn (oK hfm hc.pre) hb),fun u hr=>hr.sw_name (hc.old a.src.length id (by simp))⟩⟩⟩
 ·rename_i hfm;split at hs
  ·rename_i r rows hmid;simp only[hC,hG]at hs;obtain⟨rfl,rfl⟩:=hs;have hne:pid≠id:=by rintro rfl;rw[hid]at hmid;cases hmid
   have hf2:wB id (a.src++[some pid]) 0=none:=cN hne _ _ hf;refine⟨⟨[some pid]++[some id],by simp⟩,fun ha=>?_⟩;have ha1:zI h ⟨a.src++[some pid],a.blks++[.pool r rows]⟩:=ha.push hfm (fun _=>by rw[hmid];exact⟨trivial,Iff.rfl⟩);refine⟨ha1.push hf2 (fun _=>by rw[hid];exact⟨trivial,Iff.rfl⟩),fun ρ ρ' M w _ hc hk=>⟨?_,fun u hr=>hr.sw_name (hc.old (a.src.length+1) id (by simp))⟩⟩;have hk1:mI h ρ ρ' M w ⟨a.src++[some pid],a.blks++[.pool r rows]⟩:=hk.push ha (fun p hb=>by rw[hmid]at hb;exact gl hb);exact hk1.push ha1 (fun p hb=>by rw[hid]at hb;exact xn (hc.old a.src.length pid (by simp)) hb)
  ·cases hs
theorem yw {h:Nat→oA}{k:IntKind}{s:Nat}{v:V}{a:kO}{v':V}{a':kO}(hs:yu h k s v a=some (v',a')):tG h a a' (J0 v v'):=by
 unfold yu at hs;split at hs
 ·simp only[hC,hG]at hs;obtain⟨rfl,rfl⟩:=hs;exact .same (fun ρ ρ' M w hc u hr=>by simpa only[nA]using hr)
 ·rename_i id s';obtain⟨h0,h2⟩:=eA hs;clear hs;have hs:=h2;clear h2;have h3:=yA h0;clear h0;subst h3;split at hs
  ·rename_i j hf;simp only[hC,hG]at hs;obtain⟨rfl,rfl⟩:=hs;exact .same (fun ρ ρ' M w hc u hr=>hr.sw_name (oK hf hc))
  ·rename_i hf;split at hs
   ·rename_i k' l hid;obtain⟨h1,hs⟩:=eA hs;simp only[hC,hG]at hs;obtain⟨rfl,rfl⟩:=hs;exact .new hf (fun _=>by rw[hid];exact⟨trivial,Iff.rfl⟩) (fun ρ ρ' M w p hb=>by rw[hid]at hb;exact gK hb) (fun ρ ρ' M w he u hr=>hr.sw_name he)
   ·cases hs
 ·cases hs
theorem j8 {h:Nat→oA}{k:IntKind}{s:Nat}:∀(vs:List V) (a:kO) (vs':List V) (a':kO),fX h k s vs a=some (vs',a')→tG h a a' (Jz vs vs')
 | [],a,vs',a',hs=>by simp only[fX,hC,hG]at hs;obtain⟨rfl,rfl⟩:=hs;exact .same (fun ρ ρ' M w hc u hr=>by cases u<;>simp_all[iA])
 |v::vs,a,vs',a',hs=>by
  unfold fX at hs;split at hs
  ·rename_i v1 a1 h1;split at hs
   ·rename_i vs1 a2 h2;simp only[hC,hG]at hs;obtain⟨rfl,rfl⟩:=hs;obtain⟨⟨m1,e1⟩,k1⟩:=yw h1;obtain⟨⟨m2,e2⟩,k2⟩:=j8 vs a1 vs1 a2 h2;refine⟨⟨m1++m2,by rw[e2,e1,j4]⟩,fun ha=>?_⟩;obtain⟨p1,p2⟩:=k1 ha;obtain⟨q1,q2⟩:=k2 p1;refine⟨q1,fun ρ ρ' M w hq hc hb=>?_⟩;obtain⟨r1,r2⟩:=p2 ρ ρ' M w hq (by rw[e2]at hc;exact hc.pre) hb;obtain⟨t1,t2⟩:=q2 ρ ρ' M w hq hc r1;refine⟨t1,fun u hr=>?_⟩;cases u with
    |nil=>simp only[iA]at hr
    |cons u us=>simp only[iA]at hr⊢;exact⟨r2 u hr.1,t2 us hr.2⟩
   ·cases hs
  ·cases hs
mutual
theorem Bb {h:Nat→oA}:∀(sh:Sh) (v:V) (a:kO) (v':V) (a':kO),oL h sh v a=some (v',a')→tG h a a' (J0 v v')
 | .any,v,a,v',a',hs=>by
  unfold oL at hs;cases hc:(dL v).isEmpty<;>rw[hc]at hs<;>simp only[cond_true,cond_false]at hs
  ·split at hs
   ·rename_i id off ext;split at hs
    ·rename_i j hf;simp only[hC,hG]at hs;obtain⟨rfl,rfl⟩:=hs;exact .same (fun ρ ρ' M w hc u hr=>hr.ptr_name (oK hf hc))
    ·rename_i hf;split at hs
     ·rename_i k l hid;simp only[hC,hG]at hs;obtain⟨rfl,rfl⟩:=hs;exact .new hf (fun _=>by rw[hid];exact⟨trivial,Iff.rfl⟩) (fun ρ ρ' M w p hb=>by rw[hid]at hb;exact gK hb) (fun ρ ρ' M w he u hr=>hr.ptr_name he)
     ·rename_i cs hid;obtain⟨h1,h2⟩:=eA hs;simp only[hC,hG]at h2;obtain⟨rfl,rfl⟩:=h2;exact .new hf (fun _=>by rw[hid];exact⟨trivial,Iff.rfl⟩) (fun ρ ρ' M w p hb=>by rw[hid]at hb;exact tW h1 hb) (fun ρ ρ' M w he u hr=>hr.ptr_name he)
     ·cases hs
     ·cases hs
     ·cases hs
     ·cases hs
     ·cases hs
   ·rename_i id s;split at hs
    ·rename_i j hf;simp only[hC,hG]at hs;obtain⟨rfl,rfl⟩:=hs;exact .same (fun ρ ρ' M w hc u hr=>hr.sw_name (oK hf hc))
    ·rename_i hf;split at hs
     ·rename_i k l hid;simp only[hC,hG]at hs;obtain⟨rfl,rfl⟩:=hs;exact .new hf (fun _=>by rw[hid];exact⟨trivial,Iff.rfl⟩) (fun ρ ρ' M w p hb=>by rw[hid]at hb;exact gK hb) (fun ρ ρ' M w he u hr=>hr.sw_name he)
     ·rename_i cs hid;obtain⟨h1,h2⟩:=eA hs;simp only[hC,hG]at h2;obtain⟨rfl,rfl⟩:=h2;exact .new hf (fun _=>by rw[hid];exact⟨trivial,Iff.rfl⟩) (fun ρ ρ' M w p hb=>by rw[hid]at hb;exact tW h1 hb) (fun ρ ρ' M w he u hr=>hr.sw_name he)
     ·rename_i r l hid;simp only[hC,hG]at hs;obtain⟨rfl,rfl⟩:=hs;exact .new hf (fun _=>by rw[hid];exact⟨trivial,Iff.rfl⟩) (fun ρ ρ' M w p hb=>by rw[hid]at hb;exact G3 hb) (fun ρ ρ' M w he u hr=>hr.sw_name he)
     ·rename_i s0 pid π hid;exact Az hf hid hs
     ·cases hs
     ·cases hs
     ·cases hs
   ·rename_i id s off len;split at hs
    ·rename_i j hf;simp only[hC,hG]at hs;obtain⟨rfl,rfl⟩:=hs;exact .same (fun ρ ρ' M w hc u hr=>hr.sl_name (oK hf hc))
    ·rename_i hf;split at hs
     ·rename_i k l hid;simp only[hC,hG]at hs;obtain⟨rfl,rfl⟩:=hs;exact .new hf (fun _=>by rw[hid];exact⟨trivial,Iff.rfl⟩) (fun ρ ρ' M w p hb=>by rw[hid]at hb;exact gK hb) (fun ρ ρ' M w he u hr=>hr.sl_name he)
     ·rename_i cs hid;obtain⟨h1,h2⟩:=eA hs;simp only[hC,hG]at h2;obtain⟨rfl,rfl⟩:=h2;exact .new hf (fun _=>by rw[hid];exact⟨trivial,Iff.rfl⟩) (fun ρ ρ' M w p hb=>by rw[hid]at hb;exact tW h1 hb) (fun ρ ρ' M w he u hr=>hr.sl_name he)
     ·cases hs
     ·cases hs
     ·cases hs
     ·cases hs
     ·cases hs
   ·rename_i id q w0;split at hs
    ·rename_i j hf;simp only[hC,hG]at hs;obtain⟨rfl,rfl⟩:=hs;exact .same (fun ρ ρ' M w hc u hr=>hr.rp_name (oK hf hc))
    ·rename_i hf;split at hs
     ·rename_i r rows hid;simp only[hC,hG]at hs;obtain⟨rfl,rfl⟩:=hs;exact .new hf (fun _=>by rw[hid];exact⟨trivial,Iff.rfl⟩) (fun ρ ρ' M w p hb=>by rw[hid]at hb;exact gl hb) (fun ρ ρ' M w he u hr=>hr.rp_name he)
     ·cases hs
   ·rename_i id;split at hs
    ·rename_i j hf;simp only[hC,hG]at hs;obtain⟨rfl,rfl⟩:=hs;refine .same (fun ρ ρ' M w hc u hr=>?_);simp only[nA]at hr⊢;obtain⟨p,h1,h2⟩:=hr;exact⟨p,by rw[oK hf hc];exact h1,h2⟩
    ·cases hs
   ·rename_i f va vc;simp only[hC,hG]at hs;obtain⟨rfl,rfl⟩:=hs;exact .same (fun ρ ρ' M w hcons u hr=>nA.ren (fun i j p h1 h2=>by rw[oK h1 hcons];exact h2) _ u (.inl fun b hb=>hb) hr)
   ·cases hs
  ·simp only[hC,hG]at hs;obtain⟨rfl,rfl⟩:=hs;exact .same (fun ρ ρ' M w _ u hr=>hr.agree _ _ (fun i hi=>absurd hi (jS hc i)))
 | .row k s,v,a,v',a',hs=>by
  unfold oL at hs;split at hs
  ·obtain⟨h0,hs⟩:=eA hs;have h0:=nC h0;simp only[hC,hG]at hs;obtain⟨rfl,rfl⟩:=hs;refine⟨⟨[none],rfl⟩,fun ha=>⟨⟨by simp[ha.len],?_,?_,?_⟩,fun ρ ρ' M w hq hc hb=>⟨?_,?_⟩⟩⟩
   ·intro i j id hi hj;dsimp only at hi hj;rw[o0]at hi hj;split at hi<;>split at hj<;>first
     |exact ha.nodup i j id hi hj
     |(rw[yK]at hi;split at hi<;>simp at hi)
     |(rw[yK]at hj;split at hj<;>simp at hj)
   ·intro j hj;dsimp only at hj⊢;rw[o0]at hj;split at hj
    ·rename_i hlt;obtain⟨k,hk,hho⟩:=ha.virt j hj;exact⟨k,by rw[u0 (by rw[←ha.len];exact hlt)];exact hk,hho⟩
    ·rename_i hge;rw[yK]at hj;split at hj
     ·refine⟨.ints k [],?_,.inl ⟨k,rfl⟩⟩;rw[w3 (by rw[←ha.len];omega),←ha.len];have:j-a.src.length=0:=by omega
      rw[this];rfl
     ·cases hj
   ·intro j id x hj hx hl;dsimp only at hj hx;rw[o0]at hj hx;rw[←ha.len]at hx;split at hj
    ·rename_i hlt;rw[if_pos hlt]at hx;exact ha.live j id x hj hx hl
    ·rw[yK]at hj;split at hj<;>simp at hj
   ·intro j id x p hj hx hp hr;dsimp only at hj hx;rw[o0]at hj hx;rw[←ha.len]at hx;split at hj
    ·rename_i hlt;rw[if_pos hlt]at hx;exact hb j id x p hj hx hp hr
    ·rw[yK]at hj;split at hj<;>simp at hj
   ·intro u hr;simp only[nA]at hr⊢;exact⟨h0,.inr ⟨_,hc.nil a.src.length (by simp),hr⟩⟩
  ·rename_i id s';obtain⟨h0,h2⟩:=eA hs;clear hs;have hs:=h2;clear h2;have h3:=yA h0;clear h0;subst h3;split at hs
   ·rename_i j hf;simp only[hC,hG]at hs;obtain⟨rfl,rfl⟩:=hs;exact .same (fun ρ ρ' M w hc u hr=>hr.sw_name (oK hf hc))
   ·rename_i hf;split at hs
    ·rename_i k' l hid;obtain⟨h1,hs⟩:=eA hs;simp only[hC,hG]at hs;obtain⟨rfl,rfl⟩:=hs;exact .new hf (fun _=>by rw[hid];exact⟨trivial,Iff.rfl⟩) (fun ρ ρ' M w p hb=>by rw[hid]at hb;exact gK hb) (fun ρ ρ' M w he u hr=>hr.sw_name he)
    ·cases hs
  ·cases hs
 | .mrow r,v,a,v',a',hs=>by
  unfold oL at hs;split at hs
  ·simp only[hC,hG]at hs;obtain⟨rfl,rfl⟩:=hs;refine⟨⟨[none]++[none],by simp⟩,fun ha=>?_⟩;have ha1:zI h ⟨a.src++[none],a.blks++[.pool r []]⟩:=ha.pushN (.inr (.inl ⟨r,rfl⟩));refine⟨ha1.pushN (.inr (.inr ⟨_,_,rfl⟩)),fun ρ ρ' M w hq hc hb=>⟨(hb.pushN ha).pushN ha1,fun u hr=>?_⟩⟩;simp only[nA]at hr⊢;exact⟨Nat.one_pos,.inr ⟨_,hc.nil (a.src.length+1) (by simp),hr⟩⟩
  ·rename_i id w0;split at hs
   ·rename_i j hf;simp only[hC,hG]at hs;obtain⟨rfl,rfl⟩:=hs;exact .same (fun ρ ρ' M w hc u hr=>hr.sw_name (oK hf hc))
   ·rename_i hf;split at hs
    ·rename_i s0 pid π hid;exact Az hf hid hs
    ·cases hs
  ·cases hs
 | .part k s,v,a,v',a',hs=>by
  unfold oL at hs;split at hs
  ·obtain⟨h0,hs⟩:=eA hs;have h0:=nC h0;simp only[hC,hG]at hs;obtain⟨rfl,rfl⟩:=hs;refine⟨⟨[none],rfl⟩,fun ha=>⟨⟨by simp[ha.len],?_,?_,?_⟩,fun ρ ρ' M w hq hc hb=>⟨?_,?_⟩⟩⟩
   ·intro i j id hi hj;dsimp only at hi hj;rw[o0]at hi hj;split at hi<;>split at hj<;>first
     |exact ha.nodup i j id hi hj
     |(rw[yK]at hi;split at hi<;>simp at hi)
     |(rw[yK]at hj;split at hj<;>simp at hj)
   ·intro j hj;dsimp only at hj⊢;rw[o0]at hj;split at hj
    ·rename_i hlt;obtain⟨k,hk,hho⟩:=ha.virt j hj;exact⟨k,by rw[u0 (by rw[←ha.len];exact hlt)];exact hk,hho⟩
    ·rename_i hge;rw[yK]at hj;split at hj
     ·refine⟨.ints k [],?_,.inl ⟨k,rfl⟩⟩;rw[w3 (by rw[←ha.len];omega),←ha.len];have:j-a.src.length=0:=by omega
      rw[this];rfl
     ·cases hj
   ·intro j id x hj hx hl;dsimp only at hj hx;rw[o0]at hj hx;rw[←ha.len]at hx;split at hj
    ·rename_i hlt;rw[if_pos hlt]at hx;exact ha.live j id x hj hx hl
    ·rw[yK]at hj;split at hj<;>simp at hj
   ·intro j id x p hj hx hp hr;dsimp only at hj hx;rw[o0]at hj hx;rw[←ha.len]at hx;split at hj
    ·rename_i hlt;rw[if_pos hlt]at hx;exact hb j id x p hj hx hp hr
    ·rw[yK]at hj;split at hj<;>simp at hj
   ·intro u hr;simp only[nA]at hr⊢;exact⟨h0,.inr ⟨trivial,none,hr⟩⟩
  ·rename_i id s';obtain⟨h0,h2⟩:=eA hs;clear hs;have hs:=h2;clear h2;have h3:=yA h0;clear h0;subst h3;split at hs
   ·rename_i k' l hid;obtain⟨h1,hs2⟩:=eA hs;clear hs;have hs:=hs2;clear hs2;split at hs
    ·rename_i j hf;simp only[hC,hG]at hs;obtain⟨rfl,rfl⟩:=hs;exact .sameq (fun ρ ρ' M w hq hc u hr=>rk hid hq (oK hf hc) hr)
    ·rename_i hf;simp only[hC,hG]at hs;obtain⟨rfl,rfl⟩:=hs;exact .newq hf (fun _=>by rw[hid];exact⟨trivial,Iff.rfl⟩) (fun ρ ρ' M w p hb=>by rw[hid]at hb;exact gK hb) (fun ρ ρ' M w hq he u hr=>rk hid hq he hr)
   ·cases hs
  ·rename_i id s' off len;obtain⟨h0,h2⟩:=eA hs;clear hs;have hs:=h2;clear h2;split at hs
   ·rename_i k' l hid;obtain⟨h1,hs2⟩:=eA hs;clear hs;have hs:=hs2;clear hs2;split at hs
    ·rename_i j hf;simp only[hC,hG]at hs;obtain⟨rfl,rfl⟩:=hs;exact .same (fun ρ ρ' M w hc u hr=>hr.sl_name (oK hf hc))
    ·rename_i hf;simp only[hC,hG]at hs;obtain⟨rfl,rfl⟩:=hs;exact .new hf (fun _=>by rw[hid];exact⟨trivial,Iff.rfl⟩) (fun ρ ρ' M w p hb=>by rw[hid]at hb;exact gK hb) (fun ρ ρ' M w he u hr=>hr.sl_name he)
   ·cases hs
  ·cases hs
 | .il k s,v,a,v',a',hs=>by
  unfold oL at hs;split at hs
  ·obtain⟨h0,hs⟩:=eA hs;have h0:=nC h0;simp only[hC,hG]at hs;obtain⟨rfl,rfl⟩:=hs;refine .same (fun ρ ρ' M w hc u hr=>?_);simp only[nA]at hr⊢;exact⟨h0,by simp,.inl ⟨trivial,none,hr⟩⟩
  ·obtain⟨h0,hs⟩:=eA hs;simp only[hC,hG]at hs;obtain⟨rfl,rfl⟩:=hs;exact .same (fun ρ ρ' M w hc u hr=>by simpa only[nA]using hr)
  ·cases hs
 | .inl k s,v,a,v',a',hs=>by
  unfold oL at hs;split at hs
  ·simp only[hC,hG]at hs;obtain⟨rfl,rfl⟩:=hs;refine .same (fun ρ ρ' M w hc u hr=>?_);simp only[nA]at hr⊢;exact .inl ⟨trivial,none,hr⟩
  ·obtain⟨h0,h2⟩:=eA hs;simp only[hC,hG]at h2;obtain⟨rfl,rfl⟩:=h2;exact .same (fun ρ ρ' M w hc u hr=>by simpa only[nA]using hr)
  ·cases hs
 | .box ss,v,a,v',a',hs=>by
  unfold oL at hs;split at hs
  ·rename_i id off ext;split at hs
   ·rename_i j hf;simp only[hC,hG]at hs;obtain⟨rfl,rfl⟩:=hs;exact .same (fun ρ ρ' M w hc u hr=>hr.ptr_name (oK hf hc))
   ·rename_i hf;split at hs
    ·rename_i cs hid;split at hs
     ·rename_i cs' a1 hL;simp only[hC,hG]at hs;obtain⟨rfl,rfl⟩:=hs;obtain⟨⟨more,hm⟩,hk⟩:=yG ss cs _ cs' a1 hL;refine⟨⟨[some id]++more,by rw[hm];simp⟩,fun ha=>?_⟩;obtain⟨k1,k2⟩:=hk (ha.push hf (fun hx=>hx.elim));have hsrc:a1.src[a.src.length]?=some (some id):=by rw[hm];simp
      have hlt:a.src.length<a1.blks.length:=by rw[←k1.len,hm];simp
      refine⟨⟨by rw[nE];exact k1.len,k1.nodup,?_,?_⟩,fun ρ ρ' M w hq hc hb=>?_⟩
      ·intro j hj;obtain⟨k,hk,hho⟩:=k1.virt j hj;refine⟨k,?_,hho⟩;dsimp only at hj⊢;rw[wD _ _ _ _ hlt,if_neg (fun e=>by subst e;rw[hsrc]at hj;cases hj)];exact hk
      ·intro j id' x hj hx hl;dsimp only at hj hx;rw[wD _ _ _ _ hlt]at hx;split at hx
       ·rename_i e;subst e;rw[hsrc]at hj;simp only[hC]at hj;subst hj;simp only[hC]at hx;subst hx;rw[hid];exact⟨trivial,Iff.rfl⟩
       ·exact k1.live j id' x hj hx hl
      ·obtain⟨b1,b2⟩:=k2 ρ ρ' M w hq hc (hb.push ha (fun p _=>trivial));refine⟨?_,fun u hr=>hr.ptr_name (hc.old _ _ hsrc)⟩;intro j id' x p hj hx hp hr;dsimp only at hj hx;rw[wD _ _ _ _ hlt]at hx;split at hx
       ·rename_i e;subst e;rw[hsrc]at hj;simp only[hC]at hj hx;subst hj;subst hx;rw[hid]at hr;obtain⟨h1,⟨h2,h3,h4⟩|⟨b,c,h2,h3,h4,h5⟩⟩:=hr
        ·subst h3;have:=b2 [] (by simp only[iA]);cases cs' with
         |nil=>exact⟨h1,.inl ⟨h2,rfl,h4⟩⟩
         |cons=>simp only[iA]at this
        ·have:=b2 _ h5;exact⟨by rw[←h1,this.length,h5.length],.inr ⟨b,c,h2,h3,h4,this⟩⟩
       ·exact b1 j id' x p hj hx hp hr
     ·cases hs
    ·cases hs
  ·cases hs
 | .vrow ss,v,a,v',a',hs=>by
  unfold oL at hs;split at hs
  ·rename_i id w0;split at hs
   ·rename_i j hf;simp only[hC,hG]at hs;obtain⟨rfl,rfl⟩:=hs;exact .same (fun ρ ρ' M w hc u hr=>hr.sw_name (oK hf hc))
   ·rename_i hf;split at hs
    ·rename_i cs hid;split at hs
     ·rename_i cs' a1 hL;simp only[hC,hG]at hs;obtain⟨rfl,rfl⟩:=hs;obtain⟨⟨more,hm⟩,hk⟩:=yG ss cs _ cs' a1 hL;refine⟨⟨[some id]++more,by rw[hm];simp⟩,fun ha=>?_⟩;obtain⟨k1,k2⟩:=hk (ha.push hf (fun hx=>hx.elim));have hsrc:a1.src[a.src.length]?=some (some id):=by rw[hm];simp
      have hlt:a.src.length<a1.blks.length:=by rw[←k1.len,hm];simp
      refine⟨⟨by rw[nE];exact k1.len,k1.nodup,?_,?_⟩,fun ρ ρ' M w hq hc hb=>?_⟩
      ·intro j hj;obtain⟨k,hk,hho⟩:=k1.virt j hj;refine⟨k,?_,hho⟩;dsimp only at hj⊢;rw[wD _ _ _ _ hlt,if_neg (fun e=>by subst e;rw[hsrc]at hj;cases hj)];exact hk
      ·intro j id' x hj hx hl;dsimp only at hj hx;rw[wD _ _ _ _ hlt]at hx;split at hx
       ·rename_i e;subst e;rw[hsrc]at hj;simp only[hC]at hj;subst hj;simp only[hC]at hx;subst hx;rw[hid];exact⟨trivial,Iff.rfl⟩
       ·exact k1.live j id' x hj hx hl
      ·obtain⟨b1,b2⟩:=k2 ρ ρ' M w hq hc (hb.push ha (fun p _=>trivial));refine⟨?_,fun u hr=>hr.sw_name (hc.old _ _ hsrc)⟩;intro j id' x p hj hx hp hr;dsimp only at hj hx;rw[wD _ _ _ _ hlt]at hx;split at hx
       ·rename_i e;subst e;rw[hsrc]at hj;simp only[hC]at hj hx;subst hj;subst hx;rw[hid]at hr;obtain⟨h1,⟨h2,h3,h4⟩|⟨b,c,h2,h3,h4,h5⟩⟩:=hr
        ·subst h3;have:=b2 [] (by simp only[iA]);cases cs' with
         |nil=>exact⟨h1,.inl ⟨h2,rfl,h4⟩⟩
         |cons=>simp only[iA]at this
        ·have:=b2 _ h5;exact⟨by rw[←h1,this.length,h5.length],.inr ⟨b,c,h2,h3,h4,this⟩⟩
       ·exact b1 j id' x p hj hx hp hr
     ·cases hs
    ·cases hs
  ·cases hs
 | .vrows k0 s0,v,a,v',a',hs=>by
  unfold oL at hs;split at hs
  ·simp only[hC,hG]at hs;obtain⟨rfl,rfl⟩:=hs;exact .same (fun ρ ρ' M w hc u hr=>by simpa only[nA]using hr)
  ·rename_i id w0;split at hs
   ·rename_i j hf;simp only[hC,hG]at hs;obtain⟨rfl,rfl⟩:=hs;exact .same (fun ρ ρ' M w hc u hr=>hr.sw_name (oK hf hc))
   ·rename_i hf;split at hs
    ·rename_i cs hid;split at hs
     ·rename_i cs' a1 hL;simp only[hC,hG]at hs;obtain⟨rfl,rfl⟩:=hs;obtain⟨⟨more,hm⟩,hk⟩:=j8 cs _ cs' a1 hL;refine⟨⟨[some id]++more,by rw[hm];simp⟩,fun ha=>?_⟩;obtain⟨k1,k2⟩:=hk (ha.push hf (fun hx=>hx.elim));have hsrc:a1.src[a.src.length]?=some (some id):=by rw[hm];simp
      have hlt:a.src.length<a1.blks.length:=by rw[←k1.len,hm];simp
      refine⟨⟨by rw[nE];exact k1.len,k1.nodup,?_,?_⟩,fun ρ ρ' M w hq hc hb=>?_⟩
      ·intro j hj;obtain⟨k,hk,hho⟩:=k1.virt j hj;refine⟨k,?_,hho⟩;dsimp only at hj⊢;rw[wD _ _ _ _ hlt,if_neg (fun e=>by subst e;rw[hsrc]at hj;cases hj)];exact hk
      ·intro j id' x hj hx hl;dsimp only at hj hx;rw[wD _ _ _ _ hlt]at hx;split at hx
       ·rename_i e;subst e;rw[hsrc]at hj;simp only[hC]at hj;subst hj;simp only[hC]at hx;subst hx;rw[hid];exact⟨trivial,Iff.rfl⟩
       ·exact k1.live j id' x hj hx hl
      ·obtain⟨b1,b2⟩:=k2 ρ ρ' M w hq hc (hb.push ha (fun p _=>trivial));refine⟨?_,fun u hr=>hr.sw_name (hc.old _ _ hsrc)⟩;intro j id' x p hj hx hp hr;dsimp only at hj hx;rw[wD _ _ _ _ hlt]at hx;split at hx
       ·rename_i e;subst e;rw[hsrc]at hj;simp only[hC]at hj hx;subst hj;subst hx;rw[hid]at hr;obtain⟨h1,⟨h2,h3,h4⟩|⟨b,c,h2,h3,h4,h5⟩⟩:=hr
        ·subst h3;have:=b2 [] (by simp only[iA]);cases cs' with
         |nil=>exact⟨h1,.inl ⟨h2,rfl,h4⟩⟩
         |cons=>simp only[iA]at this
        ·have:=b2 _ h5;exact⟨by rw[←h1,this.length,h5.length],.inr ⟨b,c,h2,h3,h4,this⟩⟩
       ·exact b1 j id' x p hj hx hp hr
     ·cases hs
    ·cases hs
  ·cases hs
 | .fnc ss,v,a,v',a',hs=>by
  unfold oL at hs;split at hs
  ·rename_i f cs;split at hs
   ·rename_i cs' a1 hL;simp only[hC,hG]at hs;obtain⟨rfl,rfl⟩:=hs;obtain⟨h1,h2⟩:=yG ss cs a cs' a1 hL;refine⟨h1,fun ha=>?_⟩;obtain⟨h3,h4⟩:=h2 ha;refine⟨h3,fun ρ ρ' M w hq hc hb=>?_⟩;obtain⟨h5,h6⟩:=h4 ρ ρ' M w hq hc hb;refine⟨h5,fun u hr=>?_⟩;simp only[nA]at hr⊢;obtain⟨ua,uc,g1,g2,g3⟩:=hr;refine⟨ua,uc,g1,?_,h6 _ g3⟩;cases hx:ua.toList with
    |nil=>simp only[iA]
    |cons y r=>rw[hx]at g2;simp only[iA]at g2
   ·cases hs
  ·cases hs
 | .recd ss,v,a,v',a',hs=>by
  unfold oL at hs;split at hs
  ·rename_i cs;split at hs
   ·rename_i cs' a1 hL;simp only[hC,hG]at hs;obtain⟨rfl,rfl⟩:=hs;obtain⟨h1,hk⟩:=yG ss cs a cs' a1 hL;refine⟨h1,fun ha=>⟨(hk ha).1,fun ρ ρ' M w hq hc hb=>⟨((hk ha).2 ρ ρ' M w hq hc hb).1,fun u hr=>?_⟩⟩⟩;simp only[nA]at hr⊢;obtain⟨vs,e,hr⟩:=hr;exact⟨vs,e,((hk ha).2 ρ ρ' M w hq hc hb).2 _ hr⟩
   ·cases hs
  ·cases hs
 | .tup ss,v,a,v',a',hs=>by
  unfold oL at hs;split at hs
  ·rename_i cs;split at hs
   ·rename_i cs' a1 hL;simp only[hC,hG]at hs;obtain⟨rfl,rfl⟩:=hs;obtain⟨h1,hk⟩:=yG ss cs a cs' a1 hL;refine⟨h1,fun ha=>⟨(hk ha).1,fun ρ ρ' M w hq hc hb=>⟨((hk ha).2 ρ ρ' M w hq hc hb).1,fun u hr=>?_⟩⟩⟩;simp only[nA]at hr⊢;obtain⟨vs,e,hr⟩:=hr;exact⟨vs,e,((hk ha).2 ρ ρ' M w hq hc hb).2 _ hr⟩
   ·cases hs
  ·cases hs
theorem yG {h:Nat→oA}:∀(ss:List Sh) (vs:List V) (a:kO) (vs':List V) (a':kO),fI h ss vs a=some (vs',a')→tG h a a' (Jz vs vs')
 | [],[],a,vs',a',hs=>by simp only[fI,hC,hG]at hs;obtain⟨rfl,rfl⟩:=hs;exact .same (fun ρ ρ' M w hc u hr=>by cases u<;>simp_all[iA])
 |s::ss,v::vs,a,vs',a',hs=>by
  unfold fI at hs;split at hs
  ·rename_i v1 a1 h1;split at hs
   ·rename_i vs1 a2 h2;simp only[hC,hG]at hs;obtain⟨rfl,rfl⟩:=hs;obtain⟨⟨m1,e1⟩,k1⟩:=Bb s v a v1 a1 h1;obtain⟨⟨m2,e2⟩,k2⟩:=yG ss vs a1 vs1 a2 h2;refine⟨⟨m1++m2,by rw[e2,e1,j4]⟩,fun ha=>?_⟩;obtain⟨p1,p2⟩:=k1 ha;obtain⟨q1,q2⟩:=k2 p1;refine⟨q1,fun ρ ρ' M w hq hc hb=>?_⟩;obtain⟨r1,r2⟩:=p2 ρ ρ' M w hq (by rw[e2]at hc;exact hc.pre) hb;obtain⟨t1,t2⟩:=q2 ρ ρ' M w hq hc r1;refine⟨t1,fun u hr=>?_⟩;cases u with
    |nil=>simp only[iA]at hr
    |cons u us=>simp only[iA]at hr⊢;exact⟨r2 u hr.1,t2 us hr.2⟩
   ·cases hs
  ·cases hs
 | [],_::_,a,vs',a',hs=>by simp[fI]at hs
 |_::_,[],a,vs',a',hs=>by simp[fI]at hs
end
theorem uS:∀(H:List oA) (i:Nat) (x:oA) (j:Nat),(oD H i x)[j]?=H[j]?∨(oD H i x)[j]?=some x
 | [],_,_,_=>.inl (by simp[oD])
 |b::r,0,x,0=>.inr (by simp[oD])
 |b::r,0,x,j+1=>.inl (by simp[oD])
 |b::r,n+1,x,0=>.inl (by simp[oD])
 |b::r,n+1,x,j+1=>by simpa[oD]using uS r n x j
theorem kS:∀(bsh:List (Nat×List Sh)) (H:List oA),(lM bsh H).length=H.length
 | [],_=>rfl
 |p::r,H=>by simp only[lM];rw[kS r,nE]
theorem qU:∀(bsh:List (Nat×List Sh)) (H:List oA) (j:Nat),(lM bsh H)[j]?=H[j]?∨(lM bsh H)[j]?=some .dead
 | [],_,_=>.inl rfl
 |p::r,H,j=>by
  simp only[lM];rcases qU r (oD H p.1 .dead) j with h|h
  ·rcases uS H p.1 .dead j with g|g
   ·exact .inl (h.trans g)
   ·exact .inr (h.trans g)
  ·exact .inr h
theorem aa {h:Nat→oA}:∀(bsh:List (Nat×List Sh)) (a a':kO),yY h bsh a=some a'→(∃more,a'.src=a.src++more)∧(zI h a→(∀p∈bsh,a.src[p.1]?=some (some p.1))→zI h a'∧∀ρ ρ' M w,HB h ρ M w→oZ ρ ρ' a'.src→mI h ρ ρ' M w a→mI h ρ ρ' M w a')
 | [],a,a',hs=>by simp only[yY,hC]at hs;subst hs;exact⟨⟨[],by simp⟩,fun ha _=>⟨ha,fun ρ ρ' M w _ _ hb=>hb⟩⟩
 |(i,ss)::r,a,a',hs=>by
  simp only[yY]at hs;split at hs
  ·rename_i cs hid;split at hs
   ·rename_i cs' a1 hL;obtain⟨⟨m1,e1⟩,hk⟩:=yG ss cs a cs' a1 hL;obtain⟨⟨m2,e2⟩,hk2⟩:=aa r _ a' hs;dsimp only at e2;refine⟨⟨m1++m2,by rw[e2,e1,j4]⟩,fun ha hp=>?_⟩;obtain⟨k1,k2⟩:=hk ha;have hi:=hp (i,ss) (by simp);dsimp only at hi;have hilt:i<a.src.length:=(y0.mp hi).1;have hsrc:a1.src[i]?=some (some i):=by rw[e1,u0 hilt];exact hi
    have hlt:i<a1.blks.length:=by rw[←k1.len,e1];simp;omega
    have hA2:zI h ⟨a1.src,oD a1.blks i (.vals cs')⟩:=by
     refine⟨by rw[nE];exact k1.len,k1.nodup,?_,?_⟩
     ·intro j hj;obtain⟨k,hk,hho⟩:=k1.virt j hj;refine⟨k,?_,hho⟩;dsimp only at hj⊢;rw[wD _ _ _ _ hlt,if_neg (fun e=>by subst e;rw[hsrc]at hj;cases hj)];exact hk
     ·intro j id' x hj hx hl;dsimp only at hj hx;rw[wD _ _ _ _ hlt]at hx;split at hx
      ·rename_i e;subst e;rw[hsrc]at hj;simp only[hC]at hj;subst hj;simp only[hC]at hx;subst hx;rw[hid];exact⟨trivial,Iff.rfl⟩
      ·exact k1.live j id' x hj hx hl
    obtain⟨q1,q2⟩:=hk2 hA2 (fun p hpr=>by have h0:=hp p (b5 _ hpr);have hlt0:p.1<a.src.length:=(y0.mp h0).1;dsimp only;rw[e1,u0 hlt0];exact h0);refine⟨q1,fun ρ ρ' M w hq hc hb=>q2 ρ ρ' M w hq hc ?_⟩;obtain⟨b1,b2⟩:=k2 ρ ρ' M w hq (by rw[e2]at hc;exact hc.pre) hb;intro j id' x p hj hx hp hr;dsimp only at hj hx;rw[wD _ _ _ _ hlt]at hx;split at hx
    ·rename_i e;subst e;rw[hsrc]at hj;simp only[hC]at hj hx;subst hj;subst hx;rw[hid]at hr;obtain⟨h1,⟨h2,h3,h4⟩|⟨b,c,h2,h3,h4,h5⟩⟩:=hr
     ·subst h3;have:=b2 [] (by simp only[iA]);cases cs' with
      |nil=>exact⟨h1,.inl ⟨h2,rfl,h4⟩⟩
      |cons=>simp only[iA]at this
     ·have:=b2 _ h5;exact⟨by rw[←h1,this.length,h5.length],.inr ⟨b,c,h2,h3,h4,this⟩⟩
    ·exact b1 j id' x p hj hx hp hr
   ·cases hs
  ·cases hs
structure bM where
 F:Nat→Prop
 ρ:fC
 bs:List oA
 w:World
def mW (E:aC)(S:bM)(s:St)(a:Act)(w:World):Prop:=
 ∃ρ,nW E S.F ρ (cE s.T) (jA s.H) a w∧(∀j,s.H.length≤j→ρ j=none)∧bL E.nb S.ρ ρ∧E.nb≤s.H.length∧nG (gA S.ρ (jA S.bs)) S.w (gA ρ (jA s.H)) w
theorem oH {H:List oA}{j:Nat}(hl:(jA H j).live):H[j]?=some (jA H j):=by
 rw[aD,xK]at hl⊢;cases h:H[j]? with
 |none=>rw[h]at hl;exact hl.elim
 |some x=>rfl
theorem zt {x y:oA}{p:Pl}{b:Nat}(hl:y.live)(hf:x.flat↔y.flat)(h:x.has p b):y.has p b:=by
 rcases oA.flat_or x with hx|⟨r,rows,rfl⟩|⟨A,pre,rfl⟩
 ·exact oA.flat_has (hf.mp hx) hl (oA.has_flat hx h)
 all_goals
  rcases oA.flat_or y with hy|⟨r',rows',rfl⟩|⟨A',pre',rfl⟩
  ·exact(hf.mpr hy).elim
  ·exact h
  ·exact h
theorem sI {x:oA}{b:Nat}(hx:kT x)(h:x.has ⟨none,0,0,[]⟩ b):False:=by
 rcases hx with⟨k,rfl⟩|⟨r,rfl⟩|⟨s,j,rfl⟩<;>simp[oA.has]at h
theorem qX {ρ:fC}{M:Nat→Prop}{w:World}{x:oA}(hx:kT x):wA ρ M w ⟨none,0,0,[]⟩ x:=by
 rcases hx with⟨k,rfl⟩|⟨r,rfl⟩|⟨s,j,rfl⟩
 ·exact⟨rfl,.inl ⟨rfl,rfl,rfl⟩⟩
 ·exact⟨rfl,rfl,rfl,rfl,fun q pl l h=>by simp at h,fun q q' pl pl' b h=>by simp at h⟩
 ·exact⟨rfl,.inl ⟨rfl,rfl,rfl⟩⟩
theorem fM {H:List oA}{j:Nat}{x:oA}(h:H[j]?=some x):jA H j=x:=by
 rw[aD,xK,h];rfl
theorem jL:∀(nb:Nat) (H:List oA),nT nb H=true→∀x∈H,∀i∈sS x,i<nb
 |_,[],_,x,hx=>by simp at hx
 |nb,b::r,h,x,hx=>by
  simp only[nT,hP,x0]at h;rcases hZ.mp hx with rfl|hx
  ·intro i hi;exact nC (h.1 i hi)
  ·exact jL nb r h.2 x hx
theorem aY:∀(keep:List (Nat×Sh)) (T:Nat→V) (vs:List V) (u:List Value) (ρ:fC) (M:Nat→Prop) (w:World) (ev:Nat→Value),iA ρ M w vs (keep.map fun p=>ev p.1)→∀t,nA ρ M w (cE (tB keep vs) t) (ev t)
 | [],_,vs,_,ρ,M,w,ev,hr,t=>by simp only[tB,cE,nA]
 |p::r,T,[],u,ρ,M,w,ev,hr,t=>by simp only[tB,cE,nA]
 |(d,sh)::r,T,v::vs,u,ρ,M,w,ev,hr,t=>by
  simp only[p0,iA]at hr;simp only[tB,cE];cases hb:Nat.beq d t<;>simp only[cond_true,cond_false]
  ·exact aY r T vs u ρ M w ev hr.2 t
  ·have:=yA hb;subst this;exact hr.1
theorem iA.map_fn {α:Type}{ρ:fC}{M:Nat→Prop}{w:World}(f:α→V)(g:α→Value)(h:∀x,nA ρ M w (f x) (g x)):∀l:List α,iA ρ M w (l.map f) (l.map g)
 | []=>by simp[iA]
 |x::l=>by simp only[p0,iA];exact⟨h x,iA.map_fn f g h l⟩
theorem wJ {E:aC}{S:bM}{keep:List (Nat×Sh)}{s:St}{vs:List V}{H:List oA}(hn:dj E.nb keep s=some (vs,H)){a:Act}{w:World}(hI:mW E S s a w):mW E S ⟨tB keep vs,H⟩ a w:=by
 obtain⟨ρ,hr,h1,h2,h3,h4⟩:=hI;unfold dj at hn;split at hn
 ·rename_i vs' acc hs;obtain⟨hok,hn⟩:=eA hn;simp only[hC,hG]at hn;obtain⟨rfl,rfl⟩:=hn;obtain⟨⟨more,hsrc⟩,hk⟩:=yG _ _ _ _ _ hs;have hst:∀j:Nat,(iH E.nb s.H).src[j]?=if j<E.nb then some (some j)else none:=by
   intro j;simp only[iH,n5];by_cases hj:j<E.nb
   ·rw[cv hj,if_pos hj];rfl
   ·rw[r0 (by simp;omega),if_neg hj];rfl
  have hlen0:(iH E.nb s.H).src.length=E.nb:=by simp[iH]
  have hst2:∀j:Nat,j<E.nb→(iH E.nb s.H).blks[j]?=s.H[j]?:=fun j hj=>by simp[iH,b4,hj]
  have hacc0:zI (jA s.H) (iH E.nb s.H):=by
   refine⟨by simp[iH,h3],?_,?_,?_⟩
   ·intro i j id hi hj;rw[hst]at hi hj;split at hi<;>split at hj<;>simp_all
   ·intro j hj;rw[hst]at hj;split at hj<;>simp at hj
   ·intro j id x hj hx hl;rw[hst]at hj;split at hj
    ·rename_i hlt;rw[hst2 j hlt]at hx;simp only[hC]at hj;subst hj;rw[fM hx];exact⟨hl,Iff.rfl⟩
    ·cases hj
  obtain⟨hA,hR⟩:=hk hacc0
  let ρ':fC:=fun j=>match acc.src[j]? with
   |some (some id)=>ρ id
   |some none=>some ⟨none,0,0,[]⟩
   |none=>none
  have hc:oZ ρ ρ' acc.src:=⟨fun j id hj=>by simp only[ρ',hj],fun j hj=>by simp only[ρ',hj]⟩
  have hpre:∀j,j<E.nb→acc.src[j]?=some (some j):=fun j hj=>by rw[hsrc,u0 (by rw[hlen0];exact hj),hst,if_pos hj]
  have hρ':∀j,j<E.nb→ρ' j=ρ j:=fun j hj=>hc.old j j (hpre j hj);have hb0:mI (jA s.H) ρ ρ' (av S.F (gA ρ (jA s.H))) w (iH E.nb s.H):=by
   intro j id x p hj hx hp hb;rw[hst]at hj;split at hj
   ·rename_i hlt;simp only[hC]at hj;subst hj;rw[hst2 j hlt]at hx;rw[fM hx]at hb;refine hb.agree (fun i hi p hp=>?_);have hin:x∈s.H.take E.nb:=x1 (i:=j) (by rw[b4,if_pos hlt];exact hx);rw[hρ' i (jL _ _ hok x hin i hi)];exact hp
   ·cases hj
  obtain⟨hB,hV⟩:=hR ρ ρ' _ w (fun id p hl hp=>by obtain⟨p',hp',hb'⟩:=hr.heap.rel id hl;rw[hp]at hp';cases hp';exact hb') hc hb0;have hsrcOf:∀j,(jA acc.blks j).live→(∃id,acc.src[j]?=some (some id)∧ρ' j=ρ id∧(jA s.H id).live)∨(acc.src[j]?=some none∧ρ' j=some ⟨none,0,0,[]⟩∧kT (jA acc.blks j)):=by
   intro j hl;have hx:=oH hl;have hj:j<acc.src.length:=by rw[hA.len];exact(y0.mp hx).1
   cases hsj:acc.src[j]with
   |some id=>
    have h0:acc.src[j]?=some (some id):=by rw[hN hj,hsj]
    exact .inl ⟨id,h0,hc.old j id h0,(hA.live j id _ h0 hx hl).1⟩
   |none=>
    have h0:acc.src[j]?=some none:=by rw[hN hj,hsj]
    obtain⟨x,hk,hho⟩:=hA.virt j h0;exact .inr ⟨h0,hc.nil j h0,by rw[fM hk];exact hho⟩
  have hhas:∀(j id:Nat) (p:Pl) (b:Nat),acc.src[j]?=some (some id)→ρ id=some p→(jA acc.blks j).has p b→(jA s.H id).has p b:=by intro j id p b hj hp hh;obtain⟨k1,k2⟩:=hA.live j id _ hj (oH hh.live) hh.live;exact zt k1 k2 hh
  have hM:∀b,gA ρ' (jA acc.blks) b→gA ρ (jA s.H) b:=by
   rintro b ⟨j,p,hp,hl⟩;rcases hsrcOf j hl.live with⟨id,g1,g2,g3⟩|⟨_,g2,g3⟩
   ·rw[g2]at hp;exact⟨id,p,hp,hhas j id p b g1 hp hl⟩
   ·rw[g2]at hp;cases hp;exact(sI g3 hl).elim
  have hMa:∀b,av S.F (gA ρ' (jA acc.blks)) b→av S.F (gA ρ (jA s.H)) b:=fun b hb=>hb.imp id (hM b);refine⟨ρ',⟨⟨?_,?_,?_,hr.heap.low,fun b hb=>hr.heap.out b (hM b hb)⟩,?_,hr.size,hr.defers.avoid hM⟩,?_,h2.trans (.eq hρ'),?_,⟨h4.size,h4.same,fun b hb=>h4.sub b (hM b hb),h4.keeps⟩⟩
  ·intro j p hp;simp only[ρ']at hp;split at hp
   ·exact hr.heap.wf _ _ hp
   ·simp only[hC]at hp;subst hp;exact l4 _
   ·cases hp
  ·intro j hl;dsimp only at hl⊢;rcases hsrcOf j hl with⟨id,g1,g2,g3⟩|⟨_,g2,g3⟩
   ·obtain⟨p,hp,hb⟩:=hr.heap.rel id g3;exact⟨p,by rw[g2];exact hp,wA.avoid hMa (hB j id _ p g1 (oH hl) hp hb)⟩
   ·exact⟨_,g2,qX g3⟩
  ·intro i j b p p' hpi hpj hi hj;rcases hsrcOf i hi.live with⟨id,g1,g2,g3⟩|⟨_,g2,g3⟩
   ·rcases hsrcOf j hj.live with⟨id',g1',g2',g3'⟩|⟨_,g2',g3'⟩
    ·rw[g2]at hpi;rw[g2']at hpj;have:=hr.heap.inj id id' b _ _ hpi hpj (hhas i id p b g1 hpi hi) (hhas j id' p' b g1' hpj hj);subst this;exact hA.nodup i j id g1 g1'
    ·rw[g2']at hpj;cases hpj;exact(sI g3' hj).elim
   ·rw[g2]at hpi;cases hpi;exact(sI g3 hi).elim
  ·intro t;refine nA.avoid hMa _ _ ?_;refine aY keep (cE s.T) vs' [] ρ' _ w (fun t=>a.eval (.tmp t)) (hV _ ?_) t;exact iA.map_fn _ _ (fun p=>hr.tmps p.1) keep
  ·intro j hj;dsimp only at hj;rw[←hA.len]at hj;simp only[ρ',r0 hj]
  ·dsimp only;rw[←hA.len,hsrc];simp[hlen0]
 ·cases hn
theorem Ao {E:aC}{S:bM}{bsh:List (Nat×List Sh)}{keep:List (Nat×Sh)}{s:St}{vs:List V}{H:List oA}(hn:An E.nb bsh keep s=some (vs,H)){a:Act}{w:World}(hI:mW E S s a w):mW E S ⟨tB keep vs,H⟩ a w:=by
 obtain⟨ρ,hr,h1,h2,h3,h4⟩:=hI;unfold An at hn;split at hn
 ·rename_i vs' acc0 hs;split at hn
  rotate_left
  ·cases hn
  rename_i acc hsB;obtain⟨hok0,hn⟩:=eA hn;obtain⟨hok,hall⟩:=gB hok0;simp only[hC,hG]at hn;obtain⟨rfl,rfl⟩:=hn;obtain⟨⟨more0,hsrc0⟩,hk0⟩:=yG _ _ _ _ _ hs;obtain⟨⟨more1,hsrc1⟩,hk1⟩:=aa _ _ _ hsB;have hsrc:acc.src=(List.range E.nb).map some++(more0++more1):=by rw[hsrc1,hsrc0,j4]
  have hst:∀j:Nat,((List.range E.nb).map some)[j]?=if j<E.nb then some (some j)else none:=by
   intro j;simp only[n5];by_cases hj:j<E.nb
   ·rw[cv hj,if_pos hj];rfl
   ·rw[r0 (by simp;omega),if_neg hj];rfl
  have hlen0:((List.range E.nb).map some).length=E.nb:=by simp
  have hst2:∀j:Nat,j<E.nb→(lM bsh (s.H.take E.nb))[j]?=s.H[j]?∨(lM bsh (s.H.take E.nb))[j]?=some .dead:=fun j hj=>by
   rcases qU bsh (s.H.take E.nb) j with h|h
   ·exact .inl (h.trans (by simp[b4,hj]))
   ·exact .inr h
  have hacc0:zI (jA s.H) ⟨(List.range E.nb).map some,lM bsh (s.H.take E.nb)⟩:=by
   refine⟨by simp[kS,h3],?_,?_,?_⟩
   ·intro i j id hi hj;rw[hst]at hi hj;split at hi<;>split at hj<;>simp_all
   ·intro j hj;rw[hst]at hj;split at hj<;>simp at hj
   ·intro j id x hj hx hl;rw[hst]at hj;split at hj
    ·rename_i hlt;simp only[hC]at hj;subst hj;rcases hst2 j hlt with g|g
     ·dsimp only at hx;rw[g]at hx;rw[fM hx];exact⟨hl,Iff.rfl⟩
     ·dsimp only at hx;rw[g]at hx;simp only[hC]at hx;subst hx;exact hl.elim
    ·cases hj
  obtain⟨hA0,hR0⟩:=hk0 hacc0;have hpre0:∀p∈bsh,acc0.src[p.1]?=some (some p.1):=fun p hp=>by have:=x0.mp hall p hp;have:=nC this;rw[hsrc0,u0 (by rw[hlen0];exact this),hst,if_pos this]
  obtain⟨hA,hR1⟩:=hk1 hA0 hpre0
  let ρ':fC:=fun j=>match acc.src[j]? with
   |some (some id)=>ρ id
   |some none=>some ⟨none,0,0,[]⟩
   |none=>none
  have hc:oZ ρ ρ' acc.src:=⟨fun j id hj=>by simp only[ρ',hj],fun j hj=>by simp only[ρ',hj]⟩
  have hpre:∀j,j<E.nb→acc.src[j]?=some (some j):=fun j hj=>by rw[hsrc,u0 (by rw[hlen0];exact hj),hst,if_pos hj]
  have hρ':∀j,j<E.nb→ρ' j=ρ j:=fun j hj=>hc.old j j (hpre j hj);have hb0:mI (jA s.H) ρ ρ' (av S.F (gA ρ (jA s.H))) w ⟨(List.range E.nb).map some,lM bsh (s.H.take E.nb)⟩:=by
   intro j id x p hj hx hp hb;rw[hst]at hj;split at hj
   ·rename_i hlt;simp only[hC]at hj;subst hj;dsimp only at hx;have hin:x∈lM bsh (s.H.take E.nb):=x1 hx;rcases hst2 j hlt with g|g
    ·rw[g]at hx;rw[fM hx]at hb;refine hb.agree (fun i hi p hp=>?_);rw[hρ' i (jL _ _ hok x hin i hi)];exact hp
    ·rw[g]at hx;simp only[hC]at hx;subst hx;trivial
   ·cases hj
  have hHB:HB (jA s.H) ρ (av S.F (gA ρ (jA s.H))) w:=fun id p hl hp=>by obtain⟨p',hp',hb'⟩:=hr.heap.rel id hl;rw[hp]at hp';cases hp';exact hb'
  obtain⟨hB0,hV⟩:=hR0 ρ ρ' _ w hHB (by rw[hsrc1]at hc;exact hc.pre) hb0;have hB:=hR1 ρ ρ' _ w hHB hc hB0;have hsrcOf:∀j,(jA acc.blks j).live→(∃id,acc.src[j]?=some (some id)∧ρ' j=ρ id∧(jA s.H id).live)∨(acc.src[j]?=some none∧ρ' j=some ⟨none,0,0,[]⟩∧kT (jA acc.blks j)):=by
   intro j hl;have hx:=oH hl;have hj:j<acc.src.length:=by rw[hA.len];exact(y0.mp hx).1
   cases hsj:acc.src[j]with
   |some id=>
    have h0:acc.src[j]?=some (some id):=by rw[hN hj,hsj]
    exact .inl ⟨id,h0,hc.old j id h0,(hA.live j id _ h0 hx hl).1⟩
   |none=>
    have h0:acc.src[j]?=some none:=by rw[hN hj,hsj]
    obtain⟨x,hk,hho⟩:=hA.virt j h0;exact .inr ⟨h0,hc.nil j h0,by rw[fM hk];exact hho⟩
  have hhas:∀(j id:Nat) (p:Pl) (b:Nat),acc.src[j]?=some (some id)→ρ id=some p→(jA acc.blks j).has p b→(jA s.H id).has p b:=by intro j id p b hj hp hh;obtain⟨k1,k2⟩:=hA.live j id _ hj (oH hh.live) hh.live;exact zt k1 k2 hh
  have hM:∀b,gA ρ' (jA acc.blks) b→gA ρ (jA s.H) b:=by
   rintro b ⟨j,p,hp,hl⟩;rcases hsrcOf j hl.live with⟨id,g1,g2,g3⟩|⟨_,g2,g3⟩
   ·rw[g2]at hp;exact⟨id,p,hp,hhas j id p b g1 hp hl⟩
   ·rw[g2]at hp;cases hp;exact(sI g3 hl).elim
  have hMa:∀b,av S.F (gA ρ' (jA acc.blks)) b→av S.F (gA ρ (jA s.H)) b:=fun b hb=>hb.imp id (hM b);refine⟨ρ',⟨⟨?_,?_,?_,hr.heap.low,fun b hb=>hr.heap.out b (hM b hb)⟩,?_,hr.size,hr.defers.avoid hM⟩,?_,h2.trans (.eq hρ'),?_,⟨h4.size,h4.same,fun b hb=>h4.sub b (hM b hb),h4.keeps⟩⟩
  ·intro j p hp;simp only[ρ']at hp;split at hp
   ·exact hr.heap.wf _ _ hp
   ·simp only[hC]at hp;subst hp;exact l4 _
   ·cases hp
  ·intro j hl;dsimp only at hl⊢;rcases hsrcOf j hl with⟨id,g1,g2,g3⟩|⟨_,g2,g3⟩
   ·obtain⟨p,hp,hb⟩:=hr.heap.rel id g3;exact⟨p,by rw[g2];exact hp,wA.avoid hMa (hB j id _ p g1 (oH hl) hp hb)⟩
   ·exact⟨_,g2,qX g3⟩
  ·intro i j b p p' hpi hpj hi hj;rcases hsrcOf i hi.live with⟨id,g1,g2,g3⟩|⟨_,g2,g3⟩
   ·rcases hsrcOf j hj.live with⟨id',g1',g2',g3'⟩|⟨_,g2',g3'⟩
    ·rw[g2]at hpi;rw[g2']at hpj;have:=hr.heap.inj id id' b _ _ hpi hpj (hhas i id p b g1 hpi hi) (hhas j id' p' b g1' hpj hj);subst this;exact hA.nodup i j id g1 g1'
    ·rw[g2']at hpj;cases hpj;exact(sI g3' hj).elim
   ·rw[g2]at hpi;cases hpi;exact(sI g3 hi).elim
  ·intro t;refine nA.avoid hMa _ _ ?_;refine aY keep (cE s.T) vs' [] ρ' _ w (fun t=>a.eval (.tmp t)) (hV _ ?_) t;exact iA.map_fn _ _ (fun p=>hr.tmps p.1) keep
  ·intro j hj;dsimp only at hj;rw[←hA.len]at hj;simp only[ρ',r0 hj]
  ·dsimp only;rw[←hA.len,hsrc];simp[hlen0]
 ·cases hn
section
variable {P:Program}{F:Nat→Prop}{ρ:fC}{h:Nat→oA}{w:World}
theorem Gl (hh:lA F ρ h w){ρ':fC}{M':Nat→Prop}{id pid:Nat}{π:List Nat}{k:IntKind}{rows:List (List Int)}(hid:h id= .po 1 pid π)(hpid:h pid= .pool (.int k) rows)(hMa:∀b,av F M' b→av F (gA ρ h) b)
  (k1:∀b p,ρ id=some p→(h id).has p b→¬av F M' b)(k2:∀b p,ρ pid=some p→(h pid).has p b→¬av F M' b){u:Value}(hr:nA ρ (av F (gA ρ h)) w (.sw id 1) u):
  nA ρ' (av F M') w (.inl k 1 (π.map fun q=>rows.getD q [])) u:=by
 have hl:(h id).live:=by rw[hid];trivial
 obtain⟨g0,⟨b,n,C,R,cap,c,g1,g2,g3,g4,g5,ho,hsz,hold⟩|⟨R,g1,g2,hk⟩⟩:=sF hh hr hl (by rw[hid];trivial)
 ·rw[hid]at hold;obtain⟨e1,e2,e3⟩:=hold;simp only[cL,e4]at e1;simp only[nA];refine .inr ⟨b,0,cap,by rw[e4,e1];simpa using g5,by rw[e4,e1];simpa using g3,ho.lt,k1 b _ g1 (by rw[hid];rfl),fun i hi=>?_⟩;rw[e4]at hi;obtain⟨v,hv,hrv⟩:=e3.get (i:=i) (x:=.rp pid (π[i]) 1) (by simp[cL,hi]);refine⟨v,by rw[j5,ho.cell,←hv,y1 (by omega),x2],?_⟩;obtain⟨hq,p,pl,a1,a2,a3,a4⟩:=dy hh (r:=.int k) hpid hrv;have e:(π.map fun q=>rows.getD q []).getD i []=rows.getD π[i] []:=by simp[xK,hi]
  rw[e];refine⟨Nat.one_pos,Nat.mod_one _,?_⟩;rcases a4 with⟨b',cap',b1,b2,b3⟩|⟨b1,b2⟩
  ·obtain⟨_,hlen,⟨d1,_⟩|⟨b2',c',d1,d2,d3,d4⟩⟩:=hh.poolRow hpid a1 a2
   ·rw[b1]at d1;cases d1
   ·rw[b1]at d1;obtain rfl:=o4 d1;rw[RK.flat_len]at hlen;refine .inr ⟨b',0,cap',by rw[x9];exact b3,by rw[x9];exact b2,d2.lt,k2 b' _ a1 (by rw[hpid];exact⟨pl,x1 a2,b1⟩),fun j hj=>?_⟩;obtain⟨v',q1,q2⟩:=d4.get (i:=j) (x:=.c (.int k ((rows.getD π[i] []).getD j 0))) (by
     have:=RK.flat_at (.int k) hj;simp only[RK.w,Nat.mul_one,RK.cells,RK.z]at this;have h1:=congrArg (fun l=>l[0]?) this;simpa using h1)
    simp only[nA]at q2;subst q2;rw[j5,d2.cell,←q1,y1 (by rw[←hlen];simpa[RK.w]using hj),x2]
  ·exact .inl ⟨x7 b1,none,b2⟩
 ·rw[hid]at hk;rcases hk with⟨k2,hk⟩|hk|⟨_,hk⟩|⟨_,_,hk⟩<;>cases hk;simp only[nA];exact .inl ⟨rfl,none,g2⟩
mutual
theorem tn (hh:lA F ρ h w){nb:Nat}{ρ':fC}{M':Nat→Prop}(hρ:∀i,i<nb→ρ' i=ρ i)(hM:∀b,M' b→gA ρ h b)(hM':∀b,M' b→∀id p,nb≤id→ρ id=some p→¬(h id).has p b):
  ∀(sh:Sh) (v v':V) (u:Value),zH nb h sh v=some v'→nA ρ (av F (gA ρ h)) w v u→nA ρ' (av F M') w v' u
 | .il k s,v,v',u,hf,hr=>by
  have hMa:∀b,av F M' b→av F (gA ρ h) b:=fun b hb=>hb.imp id (hM b);have key:∀id b p,nb≤id→(h id).has p b→ρ id=some p→¬av F M' b:=fun id b p h1 h2 h3 hb=>hb.elim (fun hf=>hh.out b ⟨id,p,h3,h2⟩ hf) (fun hm=>hM' b hm id p h1 h3 h2);unfold zH at hf;split at hf
  ·obtain⟨h0,hf⟩:=eA hf;simp only[hC]at hf;subst hf;simp only[nA]at hr⊢;exact⟨nC h0,by simp,.inl ⟨trivial,none,hr⟩⟩
  ·obtain⟨h0,hf⟩:=eA hf;simp only[hC]at hf;subst hf;have:=nA.avoid hMa _ _ hr;simpa only[nA]using this
  ·rename_i id s';obtain⟨h0,hf2⟩:=eA hf;clear hf;simp only[hP]at h0;have h1:=wF h0.1;have h2:=yA h0.2;clear h0;subst h2;split at hf2
   ·rename_i k' l hid;obtain⟨_,hf⟩:=eA hf2;simp only[hC]at hf;subst hf;have hl:(h id).live:=by rw[hid];trivial
    obtain⟨g0,⟨b,n,C,R,cap,c,g1,g2,g3,g4,g5,ho,hsz,hold⟩|⟨R,g1,g2,hk⟩⟩:=sF hh hr hl (by rw[hid];trivial)
    ·rw[hid]at hold;obtain⟨e1,e2,e3⟩:=hold;simp only[nA];refine⟨g0,by rw[e1];exact g2,.inr ⟨b,0,cap,by rw[e1];exact g5,by rw[e1];exact g3,ho.lt,key id b _ h1 (by rw[hid];rfl) g1,fun j hj=>?_⟩⟩;rw[j5,ho.cell];exact e3 j hj
    ·rw[hid]at hk;rcases hk with⟨k2,hk⟩|hk|⟨_,hk⟩|⟨_,_,hk⟩<;>cases hk;simp only[nA];exact⟨g0,by simp,.inl ⟨trivial,none,g2⟩⟩
   ·cases hf2
  ·rename_i id s' off len;obtain⟨h0,hf2⟩:=eA hf;clear hf;simp only[hP]at h0;have h1:=wF h0.1;have h2:=yA h0.2;clear h0;subst h2;split at hf2
   ·rename_i k' l hid;obtain⟨_,hf⟩:=eA hf2;simp only[hC]at hf;subst hf;have hl:(h id).live:=by rw[hid];trivial
    simp only[nA]at hr⊢;obtain⟨g0,⟨b,n,C,R,cap,g1,g2,g3,g4,g5⟩|⟨g1,a,g2⟩⟩:=hr
    ·obtain⟨c,ho,hsz,hold⟩:=hh.own hl (by rw[hid];trivial) g1;rw[hid]at hold;obtain⟨e1,e2,e3⟩:=hold;have hlen:((l.drop off).take (rH s len)).length=len*s:=by rw[rB];simp;omega
     rw[hlen];refine⟨g0,Nat.mul_mod_left _ _,.inr ⟨b,off,cap,by rw[k6 _ g0];exact g5,by rw[k6 _ g0];exact g3,ho.lt,key id b _ h1 (by rw[hid];rfl) g1,fun j hj=>?_⟩⟩;rw[ho.cell,e3 _ (by omega)];congr 2;simp only[xK];rw[y1 (by rw[rB];omega),l5]
    ·subst g1;have:(l.drop off).take (rH s 0)=[]:=by rw[rB];simp
     rw[this];exact⟨g0,by simp,.inl ⟨rfl,a,g2⟩⟩
   ·cases hf2
  ·cases hf
 | .inl k s,v,v',u,hf,hr=>by
  have hMa:∀b,av F M' b→av F (gA ρ h) b:=fun b hb=>hb.imp id (hM b);have key:∀id b p,nb≤id→(h id).has p b→ρ id=some p→¬av F M' b:=fun id b p h1 h2 h3 hb=>hb.elim (fun hf=>hh.out b ⟨id,p,h3,h2⟩ hf) (fun hm=>hM' b hm id p h1 h3 h2);unfold zH at hf;split at hf
  ·simp only[hC]at hf;subst hf;simp only[nA]at hr⊢;exact .inl ⟨trivial,none,hr⟩
  ·obtain⟨h0,hf⟩:=eA hf;simp only[hC]at hf;subst hf;have:=nA.avoid hMa _ _ hr;simpa only[nA]using this
  ·rename_i id w';obtain⟨h0,hf2⟩:=eA hf;clear hf;obtain⟨e1,h0⟩:=gB h0;obtain⟨h1,e2⟩:=gB h0;have e1:=yA e1;have e2:=yA e2;have h1:=wF h1;subst e1;subst e2;split at hf2
   rotate_left
   ·cases hf2
   rename_i s' pid π hid;obtain⟨h0,hf3⟩:=eA hf2;clear hf2;obtain⟨h2,e3⟩:=gB h0;have h2:=wF h2;have e3:=yA e3;subst e3;split at hf3
   rotate_left
   ·cases hf3
   rename_i k' rows hpid;obtain⟨_,hf⟩:=eA hf3;simp only[hC]at hf;subst hf;exact Gl hh hid hpid hMa (fun b p h3 h4=>key id b p h1 h4 h3) (fun b p h3 h4=>key pid b p h2 h4 h3) hr
  ·cases hf
 | .recd ss,v,v',u,hf,hr=>by
  unfold zH at hf;split at hf
  ·rename_i cs;split at hf
   ·rename_i cs' hL;simp only[hC]at hf;subst hf;simp only[nA]at hr⊢;obtain⟨vs,e,hr⟩:=hr;exact⟨vs,e,pK hh hρ hM hM' ss cs cs' _ hL hr⟩
   ·cases hf
  ·cases hf
 | .tup ss,v,v',u,hf,hr=>by
  unfold zH at hf;split at hf
  ·rename_i cs;split at hf
   ·rename_i cs' hL;simp only[hC]at hf;subst hf;simp only[nA]at hr⊢;obtain⟨vs,e,hr⟩:=hr;exact⟨vs,e,pK hh hρ hM hM' ss cs cs' _ hL hr⟩
   ·cases hf
  ·cases hf
 | .any,v,v',u,hf,hr=>by simp only[zH]at hf;obtain⟨h0,hf⟩:=eA hf;simp only[hC]at hf;subst hf;simp only[x0]at h0;exact nA.avoid (fun b hb=>hb.imp id (hM b)) _ _ (hr.agree _ _ (fun i hi p hp=>by rw[hρ i (nC (h0 i hi))];exact hp))
 | .row _ _,v,v',u,hf,hr=>by simp only[zH]at hf;obtain⟨h0,hf⟩:=eA hf;simp only[hC]at hf;subst hf;simp only[x0]at h0;exact nA.avoid (fun b hb=>hb.imp id (hM b)) _ _ (hr.agree _ _ (fun i hi p hp=>by rw[hρ i (nC (h0 i hi))];exact hp))
 | .part _ _,v,v',u,hf,hr=>by simp only[zH]at hf;obtain⟨h0,hf⟩:=eA hf;simp only[hC]at hf;subst hf;simp only[x0]at h0;exact nA.avoid (fun b hb=>hb.imp id (hM b)) _ _ (hr.agree _ _ (fun i hi p hp=>by rw[hρ i (nC (h0 i hi))];exact hp))
 | .mrow _,v,v',u,hf,hr=>by simp only[zH]at hf;obtain⟨h0,hf⟩:=eA hf;simp only[hC]at hf;subst hf;simp only[x0]at h0;exact nA.avoid (fun b hb=>hb.imp id (hM b)) _ _ (hr.agree _ _ (fun i hi p hp=>by rw[hρ i (nC (h0 i hi))];exact hp))
 | .vrows _ _,v,v',u,hf,hr=>by simp only[zH]at hf;obtain⟨h0,hf⟩:=eA hf;simp only[hC]at hf;subst hf;simp only[x0]at h0;exact nA.avoid (fun b hb=>hb.imp id (hM b)) _ _ (hr.agree _ _ (fun i hi p hp=>by rw[hρ i (nC (h0 i hi))];exact hp))
 | .vrow _,v,v',u,hf,hr=>by simp only[zH]at hf;obtain⟨h0,hf⟩:=eA hf;simp only[hC]at hf;subst hf;simp only[x0]at h0;exact nA.avoid (fun b hb=>hb.imp id (hM b)) _ _ (hr.agree _ _ (fun i hi p hp=>by rw[hρ i (nC (h0 i hi))];exact hp))
 | .fnc _,v,v',u,hf,hr=>by simp only[zH]at hf;obtain⟨h0,hf⟩:=eA hf;simp only[hC]at hf;subst hf;simp only[x0]at h0;exact nA.avoid (fun b hb=>hb.imp id (hM b)) _ _ (hr.agree _ _ (fun i hi p hp=>by rw[hρ i (nC (h0 i hi))];exact hp))
 | .box _,v,v',u,hf,hr=>by simp only[zH]at hf;obtain⟨h0,hf⟩:=eA hf;simp only[hC]at hf;subst hf;simp only[x0]at h0;exact nA.avoid (fun b hb=>hb.imp id (hM b)) _ _ (hr.agree _ _ (fun i hi p hp=>by rw[hρ i (nC (h0 i hi))];exact hp))
theorem pK (hh:lA F ρ h w){nb:Nat}{ρ':fC}{M':Nat→Prop}(hρ:∀i,i<nb→ρ' i=ρ i)(hM:∀b,M' b→gA ρ h b)(hM':∀b,M' b→∀id p,nb≤id→ρ id=some p→¬(h id).has p b):
  ∀(ss:List Sh) (vs vs':List V) (us:List Value),mH nb h ss vs=some vs'→iA ρ (av F (gA ρ h)) w vs us→iA ρ' (av F M') w vs' us
 | [],[],vs',us,hf,hr=>by simp only[mH,hC]at hf;subst hf;cases us<;>simp_all[iA]
 |s::ss,v::vs,vs',us,hf,hr=>by
  unfold mH at hf;split at hf
  ·rename_i v1 h1;split at hf
   ·rename_i vs1 h2;simp only[hC]at hf;subst hf;cases us with
    |nil=>simp only[iA]at hr
    |cons u us=>simp only[iA]at hr⊢;exact⟨tn hh hρ hM hM' s v v1 u h1 hr.1,pK hh hρ hM hM' ss vs vs1 us h2 hr.2⟩
   ·cases hf
  ·cases hf
 | [],_::_,vs',us,hf,hr=>by simp[mH]at hf
 |_::_,[],vs',us,hf,hr=>by simp[mH]at hf
end
theorem dW {E:aC}(hty:eD P E.ty){s:St}{a:Act}(hr:nW E F ρ (cE s.T) (jA s.H) a w):∀(rs:List ResultVar) (vs:List V),oc E s rs=some vs→
  ∃us,iA ρ (av F (gA ρ (jA s.H))) w vs us∧(rs.mapM (m:=Sem) fun
   | .tmp t=>pure (a.tmps.getD t undef)
   | .cell x t=>do loadVar t (←asAddr (a.tmps.getD x undef))).run P w= .ok us w
 | [],vs,h=>by simp only[oc,hC]at h;subst h;exact⟨[],by simp[iA],by simp⟩
 | .tmp t::r,vs,h=>by
  simp only[oc]at h;split at h
  ·rename_i vs1 h1;simp only[hC]at h;subst h;obtain⟨us,g1,g2⟩:=dW hty hr r vs1 h1;refine⟨_::us,⟨hr.tmps t,g1⟩,?_⟩;simp only[List.mapM_cons,s7,w7,l8,g2,Act.eval]
  ·cases h
 | .cell x t::r,vs,h=>by
  simp only[oc]at h;split at h
  ·rename_i ti id off ext hti hx;obtain⟨h0,h⟩:=eA h;simp only[hP]at h0;have hle:=wF h0.1;have hpos:=nC h0.2;split at h
   ·rename_i v1 vs1 hv h1;simp only[hC]at h;subst h;obtain⟨us,g1,g2⟩:=dW hty hr r vs1 h1;have hx':=hr.tmps x;rw[hx]at hx';simp only[nA]at hx';obtain⟨b,n,C,R,hp,hn,he⟩:=hx';have hlive:(jA s.H id).live:=by
     cases hb:jA s.H id with
     |dead=>rw[hb]at hv;simp[cI]at hv
     |_=>trivial
    have h0':=hty _ _ hti;obtain⟨v,r1,r2⟩:=iN (b:=b) (o:=0) h0' hpos (hr.heap.cellsAt hlive hp) (by omega) hv h0'.one;rw[j5]at r1;refine⟨v::us,⟨r2,g1⟩,?_⟩;simp only[Act.eval]at he;have ha:(asAddr (a.tmps.getD x undef)).run P w= .ok ⟨b,off,none⟩ w:=by rw[he];rfl
    simp only[List.mapM_cons,s7,w7,l8,ha,r1,g2]
   ·cases h
  ·cases h
theorem Ar {vs:List V}{us:List Value}{M:Nat→Prop}(hr:iA ρ M w vs us):nA ρ M w (one vs) (if h:us.toArray.size=1 then us.toArray[0]else .tuple us.toArray):=by
 have hl:=hr.length;unfold one;split
 ·rename_i v;cases us with
  |nil=>simp at hl
  |cons u us=>
   cases us with
   |nil=>simp only[iA]at hr;simpa using hr.1
   |cons=>simp at hl
 ·rename_i h1;have hne:¬us.toArray.size=1:=by
   intro he;simp at he;rw[←hl]at he;obtain⟨v,hv⟩:=List.length_eq_one_iff.mp he;exact h1 v hv
  rw[dif_neg hne];simp only[nA];exact⟨_,rfl,by simpa using hr⟩
theorem lL:∀(vs:List V) (us:List Value) (i t:Nat) (ρ:fC) (M:Nat→Prop) (w:World) (d:Value),iA ρ M w vs us→nA ρ M w (cE (lN i vs) t) (if i≤t∧t<i+us.length then us.getD (t-i) undef else d)
 | [],us,i,t,ρ,M,w,d,hr=>by simp only[lN,cE,nA]
 |v::vs,[],i,t,ρ,M,w,d,hr=>by simp only[iA]at hr
 |v::vs,u::us,i,t,ρ,M,w,d,hr=>by
  simp only[iA]at hr;simp only[lN,cE];cases hb:Nat.beq i t<;>simp only[cond_true,cond_false]
  ·have hne:i≠t:=fun e=>by subst e;simp at hb
   have:=lL vs us (i+1) t ρ M w d hr.2;by_cases hc:i≤t∧t<i+(us.length+1)
   ·rw[if_pos (by omega)]at this;rw[if_pos (by simp;omega)];have e:t-i=(t- (i+1))+1:=by omega
    rw[e];simpa using this
   ·rw[if_neg (by omega)]at this;rw[if_neg (by simp;omega)];exact this
  ·have:=yA hb;subst this;rw[if_pos (by simp)];simpa using hr.1
theorem tS {ρ:fC}{M:Nat→Prop}{w:World}:∀(i:Nat) (ss:List Sh) (vs:List V) (us:List Value),vs.length=ss.length→us.length=ss.length→(∀t,nA ρ M w (cE (tB (ky i ss) vs) (i+t)) (us.getD t undef))→iA ρ M w vs us
 |i,[],[],[],_,_,_=>by simp only[iA]
 |i,s::ss,v::vs,u::us,h1,h2,h=>by
  simp only[iA];have h0:=h 0;simp only[ky,tB,cE,Nat.add_zero,Nat.beq_refl,cond_true]at h0;refine⟨by simpa using h0,tS (i+1) ss vs us (by simpa using h1) (by simpa using h2) fun t=>?_⟩;have ht:=h (t+1);have hb:Nat.beq i (i+(t+1))=false:=by
   cases hc:Nat.beq i (i+(t+1))with
   |false=>rfl
   |true=>have:=yA hc;omega
  simp only[ky,tB,cE,hb,cond_false]at ht;have e:i+1+t=i+(t+1):=by omega
  rw[e];simpa using ht
 |i,[],_::_,_,h1,_,_=>by simp at h1
 |i,_::_,[],_,h1,_,_=>by simp at h1
 |i,[],[],_::_,_,h2,_=>by simp at h2
 |i,_::_,_::_,[],_,h2,_=>by simp at h2
theorem eV {S:bM}{nb:Nat}(hnb:nb=S.bs.length)(hS:∀j,S.bs.length≤j→S.ρ j=none){ρ':fC}(h:bL nb S.ρ ρ'):iI S.ρ ρ':=fun j p hp=>by
 by_cases hj:j<nb
 ·exact(h j hj).1 p hp
 ·rw[hS j (by omega)]at hp;cases hp
section
variable {w w2:World}(hc:∀ad v,w.cell? ad=some v→w2.cell? ad=some v)(hs:w.heap.size≤w2.heap.size)
include hc hs
theorem iG.cells {M:Nat→Prop}{k:IntKind}{s:Nat}{l:List Int}{v:Value}(h:iG M w k s l v):iG M w2 k s l v:=by
 obtain⟨h0,h1,h2|⟨b,o,cap,h2,h3,h4,h5,h6⟩⟩:=h
 ·exact⟨h0,h1,.inl h2⟩
 ·exact⟨h0,h1,.inr ⟨b,o,cap,h2,h3,y2 h4 hs,h5,fun j hj=>hc _ _ (h6 j hj)⟩⟩
mutual
theorem nA.cells2 {ρ:fC}{M:Nat→Prop}:∀(x:V) (v:Value),nA ρ M w x v→nA ρ M w2 x v
 | .c _,_,h=>by simpa only[nA]using h
 | .poison,_,_=>by simp only[nA]
 | .ptr _ _ _,_,h=>by simpa only[nA]using h
 | .sw _ _,_,h=>by simpa only[nA]using h
 | .sl _ _ _ _,_,h=>by simpa only[nA]using h
 | .rp _ _ _,_,h=>by simpa only[nA]using h
 | .ep _ _ _ _,_,h=>by simpa only[nA]using h
 | .tp _ _ _,_,h=>by simpa only[nA]using h
 | .yv _,_,h=>by simpa only[nA]using h
 | .il _ _ _,_,h=>(iG.cells hc hs (iG.of h)).rel
 | .iv _ cols,_,h=>by
  simp only[nA]at h⊢;obtain⟨h0,h2|⟨b,o,cap,h2,h3,h4,h5,h7⟩⟩:=h
  ·exact⟨h0,.inl h2⟩
  ·refine⟨h0,.inr ⟨b,o,cap,h2,h3,y2 h4 hs,h5,fun i hi j hj=>?_⟩⟩;have hj':j<(iK cols i).length:=by rw[vI];exact hj
   have:=h7 i hi j hj;rw[hN hj']at this⊢;exact hc _ _ this
 | .ilp _ _ _ _,_,h=>by simp only[nA]at h⊢;obtain⟨b,o,h2,h3,h4,h5,h6⟩:=h;exact⟨b,o,h2,h3,y2 h4 hs,h5,fun j hj=>hc _ _ (h6 j hj)⟩
 | .ivp cols i _ _,_,h=>by
  simp only[nA]at h⊢;obtain⟨b,o,h2,h3,h4,h5,h7⟩:=h;refine⟨b,o,h2,h3,y2 h4 hs,h5,fun j hj=>?_⟩;have hj':j<(iK cols i).length:=by rw[vI];exact hj
  have:=h7 j hj;rw[hN hj']at this⊢;exact hc _ _ this
 | .inl _ _ _,_,h=>by
  simp only[nA]at h⊢;obtain h2|⟨b,o,cap,h2,h3,h4,h5,h6⟩:=h
  ·exact .inl h2
  ·exact .inr ⟨b,o,cap,h2,h3,y2 h4 hs,h5,fun i hi=>by obtain⟨u,hu,hr⟩:=h6 i hi;exact⟨u,hc _ _ hu,iG.cells hc hs hr⟩⟩
 | .inlp _ _ _ _,_,h=>by simp only[nA]at h⊢;obtain⟨b,o,h2,h3,h4,h5,h6⟩:=h;exact⟨b,o,h2,h3,y2 h4 hs,h5,fun i hi=>by obtain⟨u,hu,hr⟩:=h6 i hi;exact⟨u,hc _ _ hu,iG.cells hc hs hr⟩⟩
 | .agg cs,_,h=>by simp only[nA]at h⊢;obtain⟨vs,h1,h2⟩:=h;exact⟨vs,h1,iA.cells2 cs _ h2⟩
 | .tup cs,_,h=>by simp only[nA]at h⊢;obtain⟨vs,h1,h2⟩:=h;exact⟨vs,h1,iA.cells2 cs _ h2⟩
 | .fn _ a c,_,h=>by simp only[nA]at h⊢;obtain⟨va,vc,h1,h2,h3⟩:=h;exact⟨va,vc,h1,iA.cells2 a _ h2,iA.cells2 c _ h3⟩
theorem iA.cells2 {ρ:fC}{M:Nat→Prop}:∀(x:List V) (v:List Value),iA ρ M w x v→iA ρ M w2 x v
 | [],[],_=>by simp only[iA]
 |x::xs,v::vs,h=>by have _:=hc;have _:=hs;simp only[iA]at h⊢;exact⟨nA.cells2 x v h.1,iA.cells2 xs vs h.2⟩
 | [],_::_,h=>by simp only[iA]at h
 |_::_,[],h=>by simp only[iA]at h
end
theorem wA.cells2 {ρ:fC}{M:Nat→Prop}{p:Pl}{x:oA}(h:wA ρ M w p x)(hb:∀b,x.has p b→w2.heap[b]?=w.heap[b]?):wA ρ M w2 p x:=by
 have vals:∀{cs:List V},cB ρ M w p cs→(∀b,p.blk=some b→w2.heap[b]?=w.heap[b]?)→cB ρ M w2 p cs:=by
  rintro cs ⟨h1,h2|⟨b,c,h2,h3,h5,h6⟩⟩ hb
  ·exact⟨h1,.inl h2⟩
  ·exact⟨h1,.inr ⟨b,c,h2,h3.same (hb b h2),h5,iA.cells2 hc hs _ _ h6⟩⟩
 cases x with
 |dead=>trivial
 |ints k l=>
  obtain⟨h1,h2|⟨b,c,h2,h3,h5⟩⟩:=h
  ·exact⟨h1,.inl h2⟩
  ·exact⟨h1,.inr ⟨b,c,h2,h3.same (hb b h2),h5⟩⟩
 |vals cs=>exact vals h fun b h=>hb b h
 |tw r l=>exact vals h fun b h=>hb b h
 |po s pid π=>exact vals h fun b h=>hb b h
 |amb A pre=>exact pQ.same h (fun b _ h=>hb b (qH.mp h)) hs
 |pool r rows=>
  obtain⟨h1,h2,h3,h4,h5,h6⟩:=h;refine⟨h1,h2,h3,h4,fun q pl l hq hl=>?_,h6⟩;obtain⟨g1,g2|⟨b,c,g2,g3,g5,g6⟩⟩:=h5 q pl l hq hl
  ·exact⟨g1,.inl g2⟩
  ·exact⟨g1,.inr ⟨b,c,g2,g3.same (hb b ⟨pl,x1 hq,g2⟩),g5,iA.cells2 hc hs _ _ g6⟩⟩
end
def Cq (S:bM)(a:Act)(w w2:World):Prop:=
 w2.heap.size=w.heap.size∧nF w w2∧∀b,w2.heap[b]?=w.heap[b]?∨(S.w.heap.size≤b∧({target:=.collected b,args:= #[]}:Deferred)∈a.defers)
theorem Cq.refl (S:bM)(a:Act)(w:World):Cq S a w w:=⟨rfl,.refl _,fun _=>.inl rfl⟩
theorem mW.shut {E:aC}{S:bM}{s:St}{a:Act}{w w2:World}(hI:mW E S s a w)(h:Cq S a w w2):mW E S s {a with defers:=[]} w2:=by
 obtain⟨ρ,hr,h1,h2,h3,h4⟩:=hI;obtain⟨z,hk,hsame⟩:=h;have hD:∀b,({target:=.collected b,args:= #[]}:Deferred)∈a.defers→w.heap[b]?=some (.deferred (some []))∧¬gA ρ (jA s.H) b:=by
  intro b hb;rcases hr.defers with h|⟨_,Ds,g1,_,g2⟩
  ·rw[h]at hb;cases hb
  ·rw[g1,k7]at hb;obtain⟨D,hD,e⟩:=hb;have:D=b:=by cases e;rfl
   subst this;exact⟨(g2 D hD).1,(g2 D hD).2.1⟩
 have hc:∀ad v,w.cell? ad=some v→w2.cell? ad=some v:=by
  intro ad v hv;rcases hsame ad.block with h|⟨_,h⟩
  ·unfold World.cell? at hv⊢;rw[h];exact hv
  ·unfold World.cell? at hv;rw[(hD _ h).1]at hv;simp at hv
 have hlive:∀b,gA ρ (jA s.H) b→w2.heap[b]?=w.heap[b]?:=fun b hb=>(hsame b).elim id (fun h=>absurd hb (hD b h.2).2);refine⟨ρ,⟨⟨hr.heap.wf,fun id hl=>?_,hr.heap.inj,fun b hb=>by have:=hr.heap.low b hb;omega,hr.heap.out⟩,fun t=>nA.cells2 hc (by omega) _ _ (hr.tmps t),hr.size,.inl rfl⟩,h1,h2,h3,⟨by have:=h4.size;omega,fun b hb hx=>?_,h4.sub,h4.keeps.trans hk⟩⟩
 ·obtain⟨p,hp,hb⟩:=hr.heap.rel id hl;exact⟨p,hp,wA.cells2 hc (by omega) hb fun b hx=>hlive b ⟨id,p,hp,hx⟩⟩
 ·rcases hsame b with h|⟨h,_⟩
  ·rw[h];exact h4.same b hb hx
  ·omega
def xb (P:Program)(fn:Func)(mark:Bool)(lo:Nat)(S:bM)(v:V)(bs:List oA)(a:Act)(w:World):Prop:=
 pv mark lo (fun _=>False) a w∧∀w2,Cq S a w w2→∃u,(results fn a.tmps).run P w2= .ok u w2∧qL S.F S.ρ S.bs S.w v bs u w2
theorem Df {E:aC}{fn:Func}(hty:eD P E.ty)(hres:E.res=fn.results.toList){S:bM}(hnb:E.nb=S.bs.length)(hS:∀j,S.bs.length≤j→S.ρ j=none){s:St}{v:V}{bs:List oA}(hf:wV E s=some (v,bs)){a:Act}(hI:mW E S s a w):∃u,(results fn a.tmps).run P w= .ok u w∧qL S.F S.ρ S.bs S.w v bs u w:=by
 obtain⟨ρ,hr,h1,h2,h3,h4⟩:=hI;unfold wV at hf;split at hf
 ·cases hf
 ·rename_i vs hvs;have hf0:=hf;clear hf;cases hrow:E.own<;>rw[hrow]at hf0<;>simp only[cond_true,cond_false]at hf0
  rotate_left
  ·split at hf0
   ·cases hf0
   ·rename_i vs' H' hn;obtain⟨hok,hf⟩:=eA hf0;simp only[hC,hG]at hf;obtain⟨rfl,rfl⟩:=hf;simp only[hP]at hok;have hl1:=yA hok.1;have hl2:=yA hok.2;obtain⟨us,g1,g2⟩:=dW hty hr _ _ hvs;have hlu:=g1.length;refine⟨if h:us.toArray.size=1 then us.toArray[0]else .tuple us.toArray,?_,?_⟩
    ·unfold results;rw[←cq (xs:=fn.results),List.mapM_toArray,←hres];simp only[bind_map_left,s7,w7];exact(congrArg (fun r=>Result.andThen r _) g2).trans rfl
    ·have hev:∀t,Act.eval ⟨us.toArray,[]⟩ (.tmp t)=us.getD t undef:=fun t=>by simp[Act.eval,xK]
     have hI1:mW {E with ntmps:=us.length} S ⟨lN 0 vs,s.H⟩ ⟨us.toArray,[]⟩ w:=by
      refine⟨ρ,⟨hr.heap,fun t=>?_,by simp,.inl rfl⟩,h1,h2,h3,h4⟩;have:=lL vs us 0 t ρ (av S.F (gA ρ (jA s.H))) w undef g1;rw[hev];dsimp only;split at this
      ·simpa using this
      ·rename_i hge;have:us.getD t undef=undef:=by
        rw[xK,r0 (by omega)];rfl
       rw[this];assumption
     obtain⟨ρ',k1,k2,k3,k4,k5⟩:=Ao (E:={E with ntmps:=us.length}) hn hI1;refine⟨ρ',eV hnb hS k3,fun j hj=>(k3 j (by dsimp only;omega)).2,k2,k1.heap,Ar (tS 0 E.rsh vs' us hl2 (by omega) fun t=>?_),k5⟩;have:=k1.tmps t;rw[hev]at this;rw[j5];exact this
  have hf:=hf0;clear hf0;split at hf
  ·cases hf
  ·rename_i vs' hfz;obtain⟨hok,hf⟩:=eA hf;simp only[hC,hG]at hf;obtain⟨rfl,rfl⟩:=hf;obtain⟨us,g1,g2⟩:=dW hty hr _ _ hvs;refine⟨if h:us.toArray.size=1 then us.toArray[0]else .tuple us.toArray,?_,?_⟩
   ·unfold results;rw[←cq (xs:=fn.results),List.mapM_toArray,←hres];simp only[bind_map_left,s7,w7];exact(congrArg (fun r=>Result.andThen r _) g2).trans rfl
   ·let ρ':fC:=fun j=>if j<E.nb then ρ j else none
    have hρ':∀j,j<E.nb→ρ' j=ρ j:=fun j hj=>if_pos hj;have hbt:∀j,jA (s.H.take E.nb) j=if j<E.nb then jA s.H j else .dead:=fun j=>by rw[aD,aD,xK,xK,b4];split<;>rfl
    have hlive:∀j,(jA (s.H.take E.nb) j).live→j<E.nb∧(jA s.H j).live:=fun j hl=>by
     rw[hbt]at hl;split at hl
     ·exact⟨by assumption,hl⟩
     ·exact hl.elim
    have hM:∀b,gA ρ' (jA (s.H.take E.nb)) b→gA ρ (jA s.H) b:=by rintro b ⟨j,p,hp,hl⟩;obtain⟨k1,k2⟩:=hlive j hl.live;rw[hρ' j k1]at hp;rw[hbt,if_pos k1]at hl;exact⟨j,p,hp,hl⟩
    have hMa:∀b,av S.F (gA ρ' (jA (s.H.take E.nb))) b→av S.F (gA ρ (jA s.H)) b:=fun b hb=>hb.imp id (hM b);have hup:bL E.nb S.ρ ρ':=h2.trans (.eq hρ');refine⟨ρ',eV hnb hS hup,fun j hj=>(hup j (by omega)).2,fun j hj=>?_,⟨?_,?_,?_,hr.heap.low,fun b hb=>hr.heap.out b (hM b hb)⟩,?_,⟨h4.size,h4.same,fun b hb=>h4.sub b (hM b hb),h4.keeps⟩⟩
    ·have:¬j<E.nb:=by simp[List.length_take]at hj;omega
     exact if_neg this
    ·intro j p hp;simp only[ρ']at hp;split at hp
     ·exact hr.heap.wf _ _ hp
     ·cases hp
    ·intro j hl;obtain⟨k1,k2⟩:=hlive j hl;obtain⟨p,hp,hb⟩:=hr.heap.rel j k2;refine⟨p,by rw[hρ' j k1];exact hp,?_⟩;rw[hbt,if_pos k1];refine wA.avoid hMa (hb.agree (fun i hi p hp=>?_));have hin:jA s.H j∈s.H.take E.nb:=x1 (i:=j) (by rw[b4,if_pos k1];exact oH k2);rw[hρ' i (jL _ _ hok _ hin i hi)];exact hp
    ·intro i j b p p' hpi hpj hi hj;obtain⟨k1,k2⟩:=hlive i hi.live;obtain⟨k3,k4⟩:=hlive j hj.live;rw[hρ' i k1]at hpi;rw[hρ' j k3]at hpj;rw[hbt,if_pos k1]at hi;rw[hbt,if_pos k3]at hj;exact hr.heap.inj i j b _ _ hpi hpj hi hj
    ·refine Ar (pK hr.heap hρ' hM ?_ _ _ _ _ hfz g1);rintro b ⟨j,p,hp,hl⟩ id p' hid hpi hli;obtain⟨k1,k2⟩:=hlive j hl.live;rw[hρ' j k1]at hp;rw[hbt,if_pos k1]at hl;have:=hr.heap.inj j id b _ _ hp hpi hl hli;omega
theorem my {E:aC}{fn:Func}(hty:eD P E.ty)(hres:E.res=fn.results.toList){S:bM}(hnb:E.nb=S.bs.length)(hS:∀j,S.bs.length≤j→S.ρ j=none){s:St}{v:V}{bs:List oA}(hf:wV E s=some (v,bs)){a:Act}(hI:mW E S s a w):xb P fn E.mark E.lo S v bs a w:=
 ⟨by obtain⟨ρ,hr,_⟩:=hI;exact hr.defers.avoid (fun _ h=>h.elim),fun w2 hsh=>Df (a:={a with defers:=[]}) hty hres hnb hS hf (hI.shut hsh)⟩
end
def dt (P:Program)(body:Code)(Q:Exit→Act→World→Prop):Nat→Code→Act→World→Prop
 |0,_,_,_=>False
 |n+1,c,a,w=>c.wp P (fun e a' w'=>match e with
  | .goto l=>∃rest,findLabel body l=some rest∧dt P body Q n rest a' w'
  |e=>Q e a' w') a w
theorem pV {P:Program}{body:Code}{Q:Exit→Act→World→Prop}{a:Act}{w:World}(n:Nat)(h:dt P body Q n body a w):(Code.scope body).wp P Q a w:=by
 intro b k cs;have key:∀n c a w,dt P body Q n c a w→∃e a' w',Q e a' w'∧Arrives P (lone (b.at a (.code c:: .inScope body::k)) cs w) b k cs e a' w':=by
  intro n;induction n with
  |zero=>intro c a w h;exact h.elim
  |succ n ih=>
   intro c a w h;obtain⟨e,a₁,w₁,hq,harr⟩:=h b (.inScope body::k) cs;cases e with
   |normal=>exact⟨.normal,a₁,w₁,hq,Steps.trans harr (.one step_inScope)⟩
   |exit id=>exact⟨.exit id,a₁,w₁,hq,fun k' hk=>harr k' (by simp[exitTo,hk])⟩
   |goto l=>obtain⟨rest,hf,hp⟩:=hq;obtain⟨e₂,a₂,w₂,hq₂,harr₂⟩:=ih rest a₁ w₁ hp;exact⟨e₂,a₂,w₂,hq₂,.of_steps (harr _ (by simp[gotoIn,hf])) harr₂⟩
   |ret=>exact⟨_,a₁,w₁,hq,harr⟩
   |panic ch=>exact⟨_,a₁,w₁,hq,harr⟩
   |outgrown=>exact⟨_,a₁,w₁,hq,harr⟩
 obtain⟨e,a₁,w₁,hq,harr⟩:=key n body a w h;exact⟨e,a₁,w₁,hq,.of_steps (.one step_scope) harr⟩
theorem vK:∀(c:Code) (l:Nat) (rest:Code),findLabel c l=some rest→∀x∈cA rest,x∈cA c
 | .seq a b,l,rest,h,x,hx=>by
  simp only[findLabel]at h;split at h
  ·rename_i r hr;simp only[hC]at h;subst h;simp only[cA,n0]at hx⊢;exact hx.imp (vK a l r hr x) (fun y=>y)
  ·simp only[cA,n0];exact .inr (vK b l rest h x hx)
 | .label l',l,rest,h,x,hx=>by
  simp only[findLabel]at h;split at h
  ·simp only[hC]at h;subst h;simp[cA]at hx
  ·cases h
 | .skip,_,_,h,_,_=>by simp[findLabel]at h
 | .region ..,_,_,h,_,_=>by simp[findLabel]at h
 | .cond ..,_,_,h,_,_=>by simp[findLabel]at h
 | .block ..,_,_,h,_,_=>by simp[findLabel]at h
 | .loop ..,_,_,h,_,_=>by simp[findLabel]at h
 | .scope ..,_,_,h,_,_=>by simp[findLabel]at h
 | .exit ..,_,_,h,_,_=>by simp[findLabel]at h
 | .goto ..,_,_,h,_,_=>by simp[findLabel]at h
 | .ret,_,_,h,_,_=>by simp[findLabel]at h
 | .rangeFunc ..,_,_,h,_,_=>by simp[findLabel]at h
 | .refuse ..,_,_,h,_,_=>by simp[findLabel]at h
section
variable {P:Program}{fn:Func}{E:aC}
def ax (E:aC)(S:bM):Prop:=E.nb=S.bs.length∧(∀j,S.bs.length≤j→S.ρ j=none)∧E.lo≤S.w.heap.size
theorem pv.none {mark:Bool}{lo:Nat}{M:Nat→Prop}{a:Act}{w:World}(h:pv mark lo M a w)(hm:mark=false):a.defers=[]:=h.elim id (fun⟨h0,_⟩=>by rw[hm]at h0;cases h0)
def Is (P:Program)(fn:Func)(E:aC)(S:bM):Ex→St→Exit→Act→World→Prop
 | .normal,s,x,a,w=>x= .normal∧mW E S s a w
 | .exit i,s,x,a,w=>x= .exit i∧mW E S s a w
 | .goto l,s,x,a,w=>x= .goto l∧mW E S s a w
 | .ret v bs,_,x,a,w=>x= .ret∧xb P fn E.mark E.lo S v bs a w
def Fx (P:Program)(fn:Func)(E:aC)(c:Code)(s:St){R:Type}(k:Ex→St→Option R)(r:R):Prop:=
 ∀S a w,ax E S→mW E S s a w→c.wp P (fun x a' w'=>∃ex s',k ex s'=some r∧Is P fn E S ex s' x a' w') a w
def eB (P:Program)(fn:Func)(E:aC):Code→Prop
 | .loop b=>∀e hd,E.cut (mC b)=some e→E.hint (mC b)=some hd→∀(R:Type) vs H (k:Ex→St→Option R) r,e.run vs H k=some r→Fx P fn E (.loop b) ⟨tB hd.keep vs,H⟩ k r
 | .scope b=>∀e hd,E.cut (1000000+mC b)=some e→E.hint (1000000+mC b)=some hd→∀(R:Type) vs H (k:Ex→St→Option R) r,e.run vs H k=some r→Fx P fn E (.scope b) ⟨tB hd.keep vs,H⟩ k r
 | .rangeFunc g ps asg b=>∀e hd,E.cut (2000000+mC asg)=some e→E.hint (2000000+mC asg)=some hd→∀(R:Type) vs H (k:Ex→St→Option R) r,e.run vs H k=some r→Fx P fn E (.rangeFunc g ps asg b) ⟨tB hd.keep vs,H⟩ k r
 |_=>True
def qV (P:Program)(fn:Func)(E:aC)(c:Code)(f:{R:Type}→St→(Ex→St→Option R)→Option R):Prop:=
 ∀(R:Type) s (k:Ex→St→Option R) r,f s k=some r→Fx P fn E c s k r
theorem tg {b:Code}{hd:uB}{f:{R:Type}→St→(Ex→St→Option R)→Option R}(hf:qV P fn E b f){R:Type}:∀(n:Nat) (vs:List V) (H:List oA) (k:Ex→St→Option R) (r:R),vA E.nb hd f n vs H k=some r→
  ∀S a w,ax E S→mW E S ⟨tB hd.keep vs,H⟩ a w→Code.rounds P b (fun x a' w'=>∃ex s',k ex s'=some r∧Is P fn E S ex s' x a' w') n a w:=by
 intro n;induction n with
 |zero=>intro vs H k r h;cases h
 |succ n ih=>
  intro vs H k r h S a w hnb hI;unfold vA at h;rw[rounds_succ];refine wp_mono (hf R _ _ _ h S a w hnb hI) ?_;rintro x a' w' ⟨ex,s1,h1,h2⟩;cases ex with
  |normal=>
   obtain⟨rfl,hI'⟩:=h2;dsimp only at h1;split at h1
   ·rename_i vs' H' hn;exact ih _ _ _ _ h1 S a' w' hnb (wJ hn hI')
   ·cases h1
  |ret v bs=>obtain⟨rfl,hI'⟩:=h2;exact⟨.ret v bs,.nil,h1,rfl,hI'⟩
  |exit i=>
   obtain⟨rfl,hI'⟩:=h2;dsimp only at h1;split at h1
   ·rename_i vs' H' hn;exact⟨.exit i,_,h1,rfl,wJ hn hI'⟩
   ·cases h1
  |goto l=>
   obtain⟨rfl,hI'⟩:=h2;dsimp only at h1;split at h1
   ·rename_i vs' H' hn;exact⟨.goto l,_,h1,rfl,wJ hn hI'⟩
   ·cases h1
theorem jN {b:Code}{hd:uB}{f:{R:Type}→St→(Ex→St→Option R)→Option R}(hf:qV P fn E b f){R:Type}{n:Nat}{vs:List V}{H:List oA}{k:Ex→St→Option R}{r:R}(h:vA E.nb hd f n vs H k=some r):
  Fx P fn E (.loop b) ⟨tB hd.keep vs,H⟩ k r:=fun S a w hnb hI=>wp_loop_rounds n (tg hf n vs H k r h S a w hnb hI)
theorem mq {body:Code}{hd:uB}{f:{R:Type}→Code→St→(Ex→St→Option R)→Option R}(hf:∀c,(∀x∈cA c,x∈cA body)→qV P fn E c (fun s k=>f c s k)){R:Type}:∀(n:Nat) (c:Code) (vs:List V) (H:List oA) (k:Ex→St→Option R) (r:R),(∀x∈cA c,x∈cA body)→
  vV E.nb hd f body n c vs H k=some r→∀S a w,ax E S→mW E S ⟨tB hd.keep vs,H⟩ a w→dt P body (fun x a' w'=>∃ex s',k ex s'=some r∧Is P fn E S ex s' x a' w') n c a w:=by
 intro n;induction n with
 |zero=>intro c vs H k r _ h;cases h
 |succ n ih=>
  intro c vs H k r hsub h S a w hnb hI;unfold vV at h;refine wp_mono (hf c hsub R _ _ _ h S a w hnb hI) ?_;rintro x a' w' ⟨ex,s1,h1,h2⟩;cases ex with
  |goto l=>
   obtain⟨rfl,hI'⟩:=h2;dsimp only at h1;split at h1
   ·rename_i rest hrest;split at h1
    ·rename_i vs' H' hn;exact⟨rest,hrest,ih rest _ _ _ _ (vK body l rest hrest) h1 S a' w' hnb (wJ hn hI')⟩
    ·cases h1
   ·cases h1
  |ret v bs=>obtain⟨rfl,hI'⟩:=h2;exact⟨.ret v bs,.nil,h1,rfl,hI'⟩
  |normal=>
   obtain⟨rfl,hI'⟩:=h2;dsimp only at h1;split at h1
   ·rename_i vs' H' hn;exact⟨.normal,_,h1,rfl,wJ hn hI'⟩
   ·cases h1
  |exit i=>
   obtain⟨rfl,hI'⟩:=h2;dsimp only at h1;split at h1
   ·rename_i vs' H' hn;exact⟨.exit i,_,h1,rfl,wJ hn hI'⟩
   ·cases h1
theorem uH (hE:sA P E)(hmix:P.follows .mixedOrders=true)(hres:E.res=fn.results.toList):∀(d:Nat) (c:Code),(∀b∈cA c,eB P fn E b)→qV P fn E c (fun s k=>tA E d c s k):=by
 intro d;induction d with
 |zero=>intro c _ R s k r h;cases h
 |succ d ih=>
  intro c hcut R s k r h S a w hnb hI;dsimp only at h;unfold tA at h;cases c with
  |skip=>exact wp_skip ⟨.normal,s,h,rfl,hI⟩
  |label l=>exact wp_label ⟨.normal,s,h,rfl,hI⟩
  |exit id=>exact wp_exit ⟨.exit id,s,h,rfl,hI⟩
  |goto l=>exact wp_goto ⟨.goto l,s,h,rfl,hI⟩
  |rangeFunc g ps asg b=>
   dsimp only at h;split at h
   ·cases h
   ·rename_i hd hhd;split at h
    ·cases h
    ·rename_i vs H hn;split at h
     ·rename_i e he;exact hcut (.rangeFunc g ps asg b) (by simp[cA]) e hd he hhd R vs H k r h S a w hnb (wJ hn hI)
     ·cases h
  |refuse=>cases h
  |ret=>
   dsimp only at h;split at h
   ·rename_i v bs hf;exact wp_ret ⟨.ret v bs,.nil,h,rfl,my hE.ty hres hnb.1 hnb.2.1 hf hI⟩
   ·cases h
  |region id ops draw=>dsimp only at h;obtain⟨s',h1,h2,h3⟩:=ve (id:=id) hE hmix h;obtain⟨ρ,r1,r2,r3,r4,r5⟩:=hI;exact h3 S.F ρ a w _ r1 r2 (fun ρ' a' w' q1 q2 q3 q4=>⟨.normal,s',h1,rfl,ρ',q1,q2,r3.trans (q3.le r4),by omega,r5.trans q4⟩)
  |seq x y=>
   refine wp_seq (wp_mono (ih x (fun b hb=>hcut b (by simp[cA,hb])) R _ _ _ h S a w hnb hI) ?_);rintro e a' w' ⟨ex,s1,h1,h2⟩;cases ex with
   |normal=>obtain⟨rfl,hI'⟩:=h2;exact ih y (fun b hb=>hcut b (by simp[cA,hb])) R _ _ _ h1 S a' w' hnb hI'
   |ret v bs=>obtain⟨rfl,hI'⟩:=h2;exact⟨.ret v bs,s1,h1,rfl,hI'⟩
   |exit i=>obtain⟨rfl,hI'⟩:=h2;exact⟨.exit i,s1,h1,rfl,hI'⟩
   |goto l=>obtain⟨rfl,hI'⟩:=h2;exact⟨.goto l,s1,h1,rfl,hI'⟩
  |cond c x y=>
   dsimp only at h;split at h
   ·rename_i b hb;rw[cf]at hb;have hev:a.eval c= .bool b:=by
     obtain⟨ρ,r1,_⟩:=hI;have:=r1.ev c;rw[hb]at this;simpa only[nA]using this
    cases b<;>simp only[cond_true,cond_false]at h
    ·exact wp_cond_false hev (ih y (fun b hb=>hcut b (by simp[cA,hb])) R _ _ _ h S a w hnb hI)
    ·exact wp_cond_true hev (ih x (fun b hb=>hcut b (by simp[cA,hb])) R _ _ _ h S a w hnb hI)
   ·cases h
  |block id b=>
   refine wp_block (wp_mono (ih b (fun x hx=>hcut x (by simpa[cA]using hx)) R _ _ _ h S a w hnb hI) ?_);rintro e a' w' ⟨ex,s1,h1,h2⟩;cases ex with
   |normal=>obtain⟨rfl,hI'⟩:=h2;exact⟨.normal,s1,h1,rfl,hI'⟩
   |ret v bs=>obtain⟨rfl,hI'⟩:=h2;exact⟨.ret v bs,s1,h1,rfl,hI'⟩
   |goto l=>obtain⟨rfl,hI'⟩:=h2;exact⟨.goto l,s1,h1,rfl,hI'⟩
   |exit i=>
    obtain⟨rfl,hI'⟩:=h2;dsimp only at h1;simp only[Exit.inBlock];cases hb:Nat.beq i id<;>rw[hb]at h1<;>simp only[cond_true,cond_false]at h1
    ·rw[if_neg (fun e=>by subst e;simp at hb)];exact⟨.exit i,s1,h1,rfl,hI'⟩
    ·rw[if_pos (yA hb)];exact⟨.normal,s1,h1,rfl,hI'⟩
  |loop b=>
   dsimp only at h;split at h
   ·cases h
   ·rename_i hd hhd;split at h
    ·cases h
    ·rename_i vs H hn;have key:Fx P fn E (.loop b) ⟨tB hd.keep vs,H⟩ k r:=by
      split at h
      ·rename_i e he;exact hcut (.loop b) (by simp[cA]) e hd he hhd R vs H k r h
      ·exact jN (ih b (fun x hx=>hcut x (by simp[cA,hx]))) h
     exact key S a w hnb (wJ hn hI)
  |scope b=>
   dsimp only at h;cases hj:zQ b 0<;>rw[hj]at h<;>simp only[cond_true,cond_false]at h
   ·refine wp_scope_straight (wp_mono (ih b (fun x hx=>hcut x (by simp[cA,hx])) R _ _ _ h S a w hnb hI) ?_);rintro e a' w' ⟨ex,s1,h1,h2⟩;cases ex with
    |goto l=>cases h1
    |normal=>obtain⟨rfl,hI'⟩:=h2;exact⟨.normal,s1,h1,rfl,hI'⟩
    |ret v bs=>obtain⟨rfl,hI'⟩:=h2;exact⟨.ret v bs,s1,h1,rfl,hI'⟩
    |exit i=>obtain⟨rfl,hI'⟩:=h2;exact⟨.exit i,s1,h1,rfl,hI'⟩
   ·split at h
    ·cases h
    ·rename_i hd hhd;split at h
     ·cases h
     ·rename_i vs H hn;have key:Fx P fn E (.scope b) ⟨tB hd.keep vs,H⟩ k r:=by
       split at h
       ·rename_i e he;exact hcut (.scope b) (by simp[cA]) e hd he hhd R vs H k r h
       ·exact fun S a w hnb hI=>pV E.N (mq (f:=fun c s k=>tA E d c s k) (body:=b) (fun c hc=>ih c (fun x hx=>hcut x (by simp[cA,hc x hx]))) E.N b vs H k r (fun _ hx=>hx) h S a w hnb hI)
      exact key S a w hnb (wJ hn hI)
structure kR (P:Program)(f:Nat)(args:List V)(bs:List oA){R:Type}(k:V→List oA→Option R)(r:R):Prop where
 callable:lO P f
 calls:∀F ρ w args',lA F ρ (jA bs) w→(∀id,bs.length≤id→ρ id=none)→iA ρ (av F (gA ρ (jA bs))) w args args'→
  Calls P f args'.toArray w fun e w'=>∃v bs' v',k v bs'=some r∧e= .returned v'∧qL F ρ bs w v bs' v' w'
theorem kR.of {f:Nat}{args:List V}{bs:List oA}{R:Type}{k:V→List oA→Option R}{r:R}(h:kR P f args bs k r){v0:V}{bs0:List oA}(hk:∀v bs',k v bs'=some r→v=v0∧bs'=bs0):dA P f args bs v0 bs0:=
 ⟨h.callable,fun F ρ w args' hH hn hr=>(h.calls F ρ w args' hH hn hr).mono fun e w' ⟨v,bs',v',h1,h2,h3⟩=>by obtain⟨rfl,rfl⟩:=hk v bs' h1;exact⟨v',h2,h3⟩⟩
theorem yy (hE:sA P E)(hmix:P.follows .mixedOrders=true){body:Code}(hres:E.res=fn.results.toList)(hnt:E.ntmps=fn.ntmps)
  {args:List V}{bs:List oA}(hnb:E.nb=bs.length)(hargs:args.length≤fn.ntmps)(hcut:∀b∈cA body,eB P fn E b){R:Type}{k:V→List oA→Option R}{r:R}(h:uA E body args bs k=some r)
  {F:Nat→Prop}{ρ:fC}{w:World}{args':List Value}(hH:lA F ρ (jA bs) w)(hn:∀id,bs.length≤id→ρ id=none)(hr:iA ρ (av F (gA ρ (jA bs))) w args args')(hlo:E.lo≤w.heap.size):
  body.wp P (fun x a' w'=>(x= .normal∨x= .ret)∧∃v bs',k v bs'=some r∧xb P fn E.mark E.lo ⟨F,ρ,bs,w⟩ v bs' a' w') {tmps:=args'.toArray++Array.replicate (fn.ntmps-args'.toArray.size) undef,defers:=[]} w:=by
 unfold uA at h;have hlen:=hr.length;have hI:mW E ⟨F,ρ,bs,w⟩ ⟨lN 0 args,bs⟩ {tmps:=args'.toArray++Array.replicate (fn.ntmps-args'.toArray.size) undef,defers:=[]} w:=by
  refine⟨ρ,⟨hH,fun t=>?_,?_,.inl rfl⟩,hn,.refl _ _,by dsimp only;omega,nG.refl _ _⟩
  ·have:=lL args args' 0 t ρ _ w undef hr;have e:(if 0≤t∧t<0+args'.length then args'.getD (t-0) undef else undef)=Act.eval {tmps:=args'.toArray++Array.replicate (fn.ntmps-args'.toArray.size) undef,defers:=[]} (.tmp t):=by
    simp only[Act.eval,q0,ba,s5,bc,j6];by_cases ht:t<args'.length
    ·rw[if_pos (by omega),if_pos ht];simp[xK]
    ·rw[if_neg (by omega),if_neg ht];split<;>rfl
   rw[←e];exact this
  ·simp only[Array.size_append,s5,cb,hnt];omega
 refine wp_mono (uH hE hmix hres yg body hcut R _ _ _ h ⟨F,ρ,bs,w⟩ _ w ⟨hnb,hn,hlo⟩ hI) ?_;rintro x a' w' ⟨ex,s',h1,hx⟩;cases ex with
 |normal=>
  obtain⟨rfl,hI'⟩:=hx;dsimp only at h1;split at h1
  ·rename_i v bs' hf;exact⟨.inl rfl,v,bs',h1,my hE.ty hres (S:=⟨F,ρ,bs,w⟩) hnb hn hf hI'⟩
  ·cases h1
 |ret v bs'=>obtain⟨rfl,hp⟩:=hx;exact⟨.inr rfl,v,bs',h1,hp⟩
 |exit i=>cases h1
 |goto l=>cases h1
theorem dS (hE:sA P E)(hmix:P.follows .mixedOrders=true){f:Nat}{body:Code}(hf:P.funcs[f]?=some fn)(hb:fn.body=some body)(hname:(fn.name== "runtime.NumGoroutine")=false)(hres:E.res=fn.results.toList)(hnt:E.ntmps=fn.ntmps)
  {args:List V}{bs:List oA}(hnb:E.nb=bs.length)(hargs:args.length≤fn.ntmps)(hcut:∀b∈cA body,eB P fn E b){R:Type}{k:V→List oA→Option R}{r:R}(h:uA E body args bs k=some r)(hmk:E.mark=false:=by rfl)(hlo:E.lo=0:=by rfl):
  kR P f args bs k r:=by
 refine⟨⟨fn,hf,by rw[hb];rfl,hname⟩,?_⟩;intro F ρ w args' hH hn hr;refine calls_of_wp hf hb ?_;unfold uA at h;have hlen:=hr.length;have hI:mW E ⟨F,ρ,bs,w⟩ ⟨lN 0 args,bs⟩ {tmps:=args'.toArray++Array.replicate (fn.ntmps-args'.toArray.size) undef,defers:=[]} w:=by
  refine⟨ρ,⟨hH,fun t=>?_,?_,.inl rfl⟩,hn,.refl _ _,by dsimp only;omega,nG.refl _ _⟩
  ·have:=lL args args' 0 t ρ _ w undef hr;have e:(if 0≤t∧t<0+args'.length then args'.getD (t-0) undef else undef)=Act.eval {tmps:=args'.toArray++Array.replicate (fn.ntmps-args'.toArray.size) undef,defers:=[]} (.tmp t):=by
    simp only[Act.eval,q0,ba,s5,bc,j6];by_cases ht:t<args'.length
    ·rw[if_pos (by omega),if_pos ht];simp[xK]
    ·rw[if_neg (by omega),if_neg ht];split<;>rfl
   rw[←e];exact this
  ·simp only[Array.size_append,s5,cb,hnt];omega
 refine wp_mono (uH hE hmix hres yg body hcut R _ _ _ h ⟨F,ρ,bs,w⟩ _ w ⟨hnb,hn,by rw[hlo];exact cy _⟩ hI) ?_;rintro x a' w' ⟨ex,s',h1,hx⟩;cases ex with
 |normal=>
  obtain⟨rfl,hI'⟩:=hx;dsimp only at h1;split at h1
  ·rename_i v bs' hf;obtain⟨hd,hp0⟩:=my hE.ty hres (S:=⟨F,ρ,bs,w⟩) hnb hn hf hI';obtain⟨u,hu,hp⟩:=hp0 w' (.refl _ _ _);exact⟨hd.none hmk,u,hu,v,bs',u,h1,rfl,hp⟩
  ·cases h1
 |ret v bs'=>obtain⟨rfl,hd,hp0⟩:=hx;obtain⟨u,hu,hp⟩:=hp0 w' (.refl _ _ _);exact⟨hd.none hmk,u,hu,v,bs',u,h1,rfl,hp⟩
 |exit i=>cases h1
 |goto l=>cases h1
theorem dA.of_freeze {f:Nat}{ss:List Sh}{args args2:List V}{v:V}{bs':List oA}(hz:mH 0 (fun _=>.dead) ss args=some args2)(h:dA P f args2 [] v bs'):dA P f args [] v bs':=by
 refine⟨h.callable,fun F ρ w args' hH hn hr=>h.calls F ρ w args' hH hn ?_⟩;have hd:jA []=fun _=>oA.dead:=by funext j;rfl
 rw[hd]at hH hr⊢;exact pK hH (fun i hi=>by omega) (fun b hb=>hb) (fun b hb id p _ _ hl=>hl.elim) ss args args2 args' hz hr
end
theorem eC {P:Program}{t:Nat}{ti:TI}(hi:(P.info? t).isSome=true)(hs:((P.info? t).getD default).size=ti.size)(hb:((P.info? t).getD default).bytes=ti.bytes)(hz:((P.info? t).getD default).zero.isSome=true)
  (hc:(((P.info? t).getD default).zero.getD undef).cells.toList=ti.zero)(hl:ti.zero.length=ti.size)(ho:(ti.isAgg||Nat.beq ti.size 1)=true)(hk:fG P t ti.tk)(he:(!ti.isAgg||(!P.stoodInHeld t&& !P.eqGuardType P.depth t))=true):cC P t ti:=by
 cases h:P.info? t with
 |none=>rw[h]at hi;cases hi
 |some i=>
  rw[h]at hs hb hz hc;simp only[b6]at hs hb hz hc;cases h2:i.zero with
  |none=>rw[h2]at hz;cases hz
  |some z=>
   rw[h2]at hc;simp only[b6]at hc;refine⟨⟨i,h,hs,hb,z,h2,hc⟩,hl,fun ha=>?_,hk,fun ha=>?_⟩
   ·rw[ha]at ho;exact yA ho
   ·rw[ha]at he;simpa using he
theorem eK {P:Program}{t:Nat}{fields:Array Field}{fs:List (Nat×Nat)}(h1:P.underlying t=some (.struct fields))(h2:fields.toList.map (fun f=>(f.type,f.offset))=fs)(h3:fields.toList.all (fun f=>!(f.name== "_"))=true):fG P t (.struct fs):=
 ⟨fields,h1,h2,fun f hf=>by rw[x0]at h3;have:=h3 f hf;simpa using this⟩
theorem eD.nil {P:Program}:eD P (bF []):=fun _ _ h=>by cases h
theorem eD.cons {P:Program}{t:Nat}{ti:TI}{l:List (Nat×TI)}(h:cC P t ti)(r:eD P (bF l)):eD P (bF ((t,ti)::l)):=by
 intro t' ti' ht;simp only[bF]at ht;cases hb:Nat.beq t t'<;>rw[hb]at ht<;>simp only[cond_true,cond_false]at ht
 ·exact r t' ti' ht
 ·have:=yA hb;subst this;simp only[hC]at ht;subst ht;exact h
def pA (P:Program)(f:Nat)(e:rA):Prop:=∀args bs a enc,e.dec args bs=some (some a,enc)→dA P f args bs (enc a).pick.1 (enc a).pick.2
theorem aF.nil {P:Program}:aF P (bF []):=fun _ _ h=>by cases h
theorem aF.cons {P:Program}{f:Nat}{e:rA}{l:List (Nat×rA)}(h:pA P f e)(r:aF P (bF l)):aF P (bF ((f,e)::l)):=by
 intro f' e' ht;simp only[bF]at ht;cases hb:Nat.beq f f'<;>rw[hb]at ht<;>simp only[cond_true,cond_false]at ht
 ·exact r f' e' ht
 ·have:=yA hb;subst this;simp only[hC]at ht;subst ht;exact h
def aA (P:Program)(fn:Func)(E:aC)(l:List Code):Prop:=∀b∈l,eB P fn E b
theorem aA.nil {P:Program}{fn:Func}{E:aC}:aA P fn E []:=fun _ h=>by cases h
theorem aA.cons {P:Program}{fn:Func}{E:aC}{c:Code}{l:List Code}(h:eB P fn E c)(r:aA P fn E l):aA P fn E (c::l):=fun b hb=>by
 rcases hZ.mp hb with rfl|hb
 ·exact h
 ·exact r b hb
theorem aA.of {P:Program}{fn:Func}{E:aC}{l l':List Code}(he:l'=l)(h:aA P fn E l):aA P fn E l':=he▸h
theorem pT {P:Program}{fn:Func}{E:aC}{b:Code}(h:(E.cut (1000000+mC b)).isNone=true):eB P fn E (.scope b):=fun e hd he=>by rw[he]at h;cases h
theorem yf {P:Program}{fn:Func}{E:aC}{b:Code}(h:(E.cut (mC b)).isNone=true):eB P fn E (.loop b):=fun e hd he=>by rw[he]at h;cases h
def G0 (h:Nat→oA):V→V
 | .sw id s=>(match h id with
  | .ints _ l=>.sl id s 0 (pJ s l.length)
  |_=>.sw id s)
 |v=>v
def sC (h:Nat→oA):List Bool→List V→List V
 |true::bs,v::r=>G0 h v::sC h bs r
 |false::bs,v::r=>v::sC h bs r
 |_,vs=>vs
theorem Ct {F:Nat→Prop}{ρ:fC}{h:Nat→oA}{w:World}(hh:lA F ρ h w){v:V}{u:Value}(hr:nA ρ (av F (gA ρ h)) w v u):nA ρ (av F (gA ρ h)) w (G0 h v) u:=by
 unfold G0;split
 ·rename_i id s;split
  ·rename_i k l hid;obtain⟨h0,⟨b,n,C,R,cap,c,h1,h2,h3,h4,h5,ho,hsz,hold⟩|⟨R,h1,h2,hk⟩⟩:=sF hh hr (by rw[hid];trivial) (by rw[hid];trivial)
   ·rw[hid]at hold;obtain⟨e1,e2,e3⟩:=hold;simp only[nA];have hn:n/s*s=n:=Nat.div_mul_cancel (y9 h2);refine⟨h0,.inl ⟨b,n,C,R,cap,h1,?_,?_,by omega,?_⟩⟩
    ·rw[jE,e1];omega
    ·rw[jE,e1];exact h3
    ·rw[jE,e1];exact h5
   ·rw[hid]at hk;rcases hk with⟨k2,hk⟩|hk|⟨_,hk⟩|⟨_,_,hk⟩<;>cases hk;simp only[nA];exact⟨h0,.inr ⟨by rw[jE];simp,none,h2⟩⟩
  ·exact hr
 ·exact hr
theorem rW {F:Nat→Prop}{ρ:fC}{h:Nat→oA}{w:World}(hh:lA F ρ h w):∀(bs:List Bool) (vs:List V) (us:List Value),iA ρ (av F (gA ρ h)) w vs us→iA ρ (av F (gA ρ h)) w (sC h bs vs) us
 |true::bs,v::r,[],hr=>by simp only[iA]at hr
 |true::bs,v::r,u::us,hr=>by simp only[iA,sC]at hr⊢;exact⟨Ct hh hr.1,rW hh bs r us hr.2⟩
 |false::bs,v::r,[],hr=>by simp only[iA]at hr
 |false::bs,v::r,u::us,hr=>by simp only[iA,sC]at hr⊢;exact⟨hr.1,rW hh bs r us hr.2⟩
 | [],vs,us,hr=>by simpa only[sC]using hr
 |_::_,[],us,hr=>by simpa only[sC]using hr
theorem dA.of_asSl {P:Program}{f:Nat}{fl:List Bool}{args:List V}{bs:List oA}{v:V}{bs':List oA}(h:dA P f (sC (jA bs) fl args) bs v bs'):dA P f args bs v bs':=
 ⟨h.callable,fun F ρ w args' hH hn hr=>h.calls F ρ w args' hH hn (rW hH fl args args' hr)⟩
theorem qL.kill {F:Nat→Prop}{ρ:fC}{bs:List oA}{w:World}{v:V}{bs':List oA}{v':Value}{w':World}(h:qL F ρ bs w v bs' v' w'):qL F ρ bs w v (w5 bs'.length .dead) v' w':=by
 obtain⟨ρ',h0,h1,h2,h3,h4,h5⟩:=h;have hdd:∀id,jA (w5 bs'.length oA.dead) id= .dead:=fun id=>by rw[aD,xK,k9];split<;>rfl
 have hd:∀id,¬(jA (w5 bs'.length oA.dead) id).live:=fun id hl=>by rw[hdd]at hl;exact hl
 have hM:∀b,gA ρ' (jA (w5 bs'.length oA.dead)) b→gA ρ' (jA bs') b:=by rintro b ⟨id,p,_,hl⟩;exact absurd hl.live (hd id)
 exact⟨ρ',h0,h1,fun id hid=>h2 id (by simpa using hid),⟨h3.wf,fun id hl=>absurd hl (hd id),fun i j b p p' _ _ hi=>absurd hi.live (hd i),h3.low,fun b hb=>h3.out b (hM b hb)⟩,nA.avoid (fun b hb=>hb.imp id (hM b)) _ _ h4,⟨h5.size,h5.same,fun b hb=>h5.sub b (hM b hb),h5.keeps⟩⟩
theorem kR.ofKill {P:Program}{f:Nat}{args:List V}{bs:List oA}{R:Type}{k:V→List oA→Option R}{r:R}(h:kR P f args bs k r){v0:V}{n:Nat}(hk:∀v bs',k v bs'=some r→v=v0∧bs'.length=n):dA P f args bs v0 (w5 n .dead):=
 ⟨h.callable,fun F ρ w args' hH hn hr=>(h.calls F ρ w args' hH hn hr).mono fun e w' ⟨v,bs',v',h1,h2,h3⟩=>by obtain⟨rfl,rfl⟩:=hk v bs' h1;exact⟨v',h2,h3.kill⟩⟩
theorem xB {P:Program}{fn:Func}{E:aC}(hE:sA P E)(hmix:P.follows .mixedOrders=true)(d:Nat){b:Code}{c:mF}{h:uB}(hcut:aA P fn E (cA b))
  (H:∀(R:Type) vs Hh (k:Ex→St→Option R) r,c.run vs Hh k=some r→∃n,vA E.nb h (fun s k=>tA E d b s k) n vs Hh k=some r)(e1:E.cut (mC b)=some c:=by kernel_rfl)(e2:E.hint (mC b)=some h:=by kernel_rfl)(hres:E.res=fn.results.toList:=by kernel_rfl):eB P fn E (.loop b):=fun e hd he hh R vs Hh k r hr=>by
 rw[e1]at he;rw[e2]at hh;cases he;cases hh;obtain⟨n,hn⟩:=H R vs Hh k r hr;exact jN (uH hE hmix hres d b hcut) hn
def bo (f:Func):Code:=f.body.getD .skip
theorem qA {P:Program}{E:aC}{fn:Func}{n:Nat}{A:Type}(hE:sA P E)(hmix:P.follows .mixedOrders=true)(hf:P.funcs[n]?=some fn)(hcut:aA P fn E (cA (bo fn))){args:List V}{bs:List oA}{dec:V→List oA→Option A}{r:A}
  (h:uA E (bo fn) args bs dec=some r){v0:V}{b0:List oA}(hd:∀v bs',dec v bs'=some r→v=v0∧bs'=b0)(h1:fn.body=some (bo fn):=by kernel_rfl)(h2:(fn.name== "runtime.NumGoroutine")=false:=by kernel_rfl)(h3:E.ntmps=fn.ntmps:=by kernel_rfl)(h4:E.nb=bs.length:=by kernel_rfl)
  (h5:Nat.ble args.length fn.ntmps=true:=by kernel_rfl)(hres:E.res=fn.results.toList:=by kernel_rfl)(hmk:E.mark=false:=by rfl)(hlo:E.lo=0:=by rfl):dA P n args bs v0 b0:=
 (dS hE hmix hf h1 h2 hres h3 h4 (Nat.le_of_ble_eq_true h5) hcut h hmk hlo).of hd
def tF (A:Type)(fresh:Nat)(imm:List Bool)(ss:List Sh)(sel:List V→Option (Option A×(A→wm))):rA:=
 {A:=A,fresh:=fresh,imm:=imm,dec:=fun args bs=>match mH 0 (fun _=>.dead) ss args,bs with
  |some a,[]=>sel a
  |_,_=>none}
theorem xA {P:Program}{f:Nat}{A:Type}{fresh:Nat}{imm:List Bool}{ss:List Sh}{sel:List V→Option (Option A×(A→wm))}(H:∀args a enc,sel args=some (some a,enc)→dA P f args [] (enc a).pick.1 (enc a).pick.2):pA P f (tF A fresh imm ss sel):=by
 intro args bs a enc h;simp only[tF]at h;split at h
 ·rename_i hz;exact dA.of_freeze hz (H _ _ _ h)
 ·cases h
theorem gC {A:Type}{x:Option A}{g enc:A→wm}{a:A}{Q:(A→wm)→Prop}(h:some (x,g)=some (some a,enc))(H:x=some a→Q g):Q enc:=by
 have h0:=o4 h;have h1:=congrArg Prod.fst h0;have h2:=congrArg Prod.snd h0;dsimp only at h1 h2;subst h2;exact H h1
def mD (ty:List (Nat×TI))(tab:List (Nat×rA))(hint:List (Nat×uB))(cut:List (Nat×mF))(N:Nat)(res:List ResultVar)(rsh:List Sh)(nb ntmps:Nat)(own:Bool:=false)(bsh:List (Nat×List Sh):=[])(yld:Bool:=false):aC:=
 {ty:=bF ty,tab:=bF tab,hint:=bF hint,cut:=bF cut,N:=N,res:=res,rsh:=rsh,nb:=nb,ntmps:=ntmps,own:=own,bsh:=bsh,yld:=yld}
theorem aA.n {P:Program}{fn:Func}{E:aC}{l:List Code}(h:l=[]:=by kernel_rfl):aA P fn E l:=aA.of h aA.nil
section
variable {P:Program}{fn:Func}{E:aC}
theorem js (hE:sA P E){id:Nat}{ops:Array Oper}{s:St}{R:Type}{k:St→Option R}{r:R}(hr:tO E ops false s k=some r){n:Nat}{ro:Option Nat}:
  ∃s',k s'=some r∧s.H.length≤s'.H.length∧∀F ρ a w Q,nW E F ρ (cE s.T) (jA s.H) a w→(∀j,s.H.length≤j→ρ j=none)→
   (∀ρ' a' w',nW E F ρ' (cE s'.T) (jA s'.H) a' w'→(∀j,s'.H.length≤j→ρ' j=none)→bL s.H.length ρ ρ'→nG (gA ρ (jA s.H)) w (gA ρ' (jA s'.H)) w'→Q .normal a' w')→
   (Code.region id ops false).wpIn (wr ro) n P Q a w:=by
 unfold tO at hr;simp only[cond_false]at hr;obtain⟨rs,T',H',ht,hlen,hk⟩:=jX _ _ _ _ _ _ hr;obtain⟨hok,hk⟩:=eA hk;rw[sW]at ht;obtain⟨L,l1,l2,l3⟩:=ht.pairs;simp only[b8,bd]at hlen l3;refine⟨⟨T',H'⟩,hk,by dsimp only;omega,?_⟩;intro F ρ a w Q hrep hnone hQ;obtain⟨n1,n2⟩:=xT E.tab ops.toList 0 s.H.length;have ho:∀p∈L,ops[p.1.i]?=some p.1.o:=by
  intro p hp;have hm:p.1∈qJ E.tab 0 s.H.length ops.toList:=by rw[←l1];exact c6 hp
  have:=(cw _ _ _ _ _ hm).2;simpa using this
 have hI:aM E F (s.H.length+aQ E.tab ops.toList) s.H.length ρ (gA ρ (jA s.H)) w (cE s.T) (jA s.H) (L.map (·.1)) a w:=by rw[l1];exact⟨ρ,hrep,fun x hx id h1 h2=>hnone id (cx (n1 x hx) h1),n2,fun id hid=>hnone id (by omega),bL.refl _ _,n1,nG.refl _ _⟩
 have hfin:∀a' w',aM E F (s.H.length+aQ E.tab ops.toList) s.H.length ρ (gA ρ (jA s.H)) w (cE T') (jA H') [] a' w'→Q .normal a' w':=by rintro a' w' ⟨ρ',r1,_,_,r2,r3,_,r4⟩;exact hQ ρ' a' w' r1 (fun j hj=>r2 j (by dsimp only at hj;omega)) r3 r4
 have hmi:L.map (·.1.i)=List.range ops.size:=by
  have:L.map (·.1.i)=(L.map (·.1)).map (·.i):=by simp[c7,Function.comp_def]
  rw[this,l1,ct];simp
 refine wpIn_region ?_;rw[←hmi];exact jZ (aM E F _ s.H.length ρ (gA ρ (jA s.H)) w) (fun T h pre x post r a w K hc hI hx hK=>ag hE hc hI hx hK) hfin L _ _ a w l3 hI ho
def rF:Code→Bool
 | .skip| .label _| .exit _| .goto _| .ret=>true
 | .region _ _ draw=>!draw
 | .seq a b=>rF a&&rF b
 | .cond _ a b=>rF a&&rF b
 | .block _ b=>rF b
 |_=>false
def Ix (E:aC)(S:bM):Ex→St→Exit→Act→World→Prop
 | .normal,s,x,a,w=>x= .normal∧mW E S s a w
 | .exit i,s,x,a,w=>x= .exit i∧mW E S s a w
 | .goto l,s,x,a,w=>x= .goto l∧mW E S s a w
 | .ret _ _,_,x,_,_=>x= .ret
theorem oU (hE:sA P E){n:Nat}{ro:Option Nat}:∀(d:Nat) (c:Code) {R:Type} (s:St) (k:Ex→St→Option R) (r:R),rF c=true→tA E d c s k=some r→
  ∀S a w,E.nb=S.bs.length→mW E S s a w→c.wpIn (wr ro) n P (fun x a' w'=>∃ex s',k ex s'=some r∧Ix E S ex s' x a' w') a w:=by
 intro d;induction d with
 |zero=>intro c R s k r _ h;cases h
 |succ d ih=>
  intro c R s k r hst h S a w hnb hI;unfold tA at h;cases c with
  |skip=>exact wpIn_skip ⟨.normal,s,h,rfl,hI⟩
  |label l=>exact wpIn_label ⟨.normal,s,h,rfl,hI⟩
  |exit id=>exact wpIn_exit ⟨.exit id,s,h,rfl,hI⟩
  |goto l=>exact wpIn_goto ⟨.goto l,s,h,rfl,hI⟩
  |ret=>
   dsimp only at h;split at h
   ·rename_i v bs hf;exact wpIn_ret ⟨.ret v bs,.nil,h,rfl⟩
   ·cases h
  |region id ops draw=>dsimp only at h;simp only[rF,w4]at hst;subst hst;obtain⟨s',h1,h2,h3⟩:=js (id:=id) hE h (n:=n) (ro:=ro);obtain⟨ρ,r1,r2,r3,r4,r5⟩:=hI;exact h3 S.F ρ a w _ r1 r2 (fun ρ' a' w' q1 q2 q3 q4=>⟨.normal,s',h1,rfl,ρ',q1,q2,r3.trans (q3.le r4),by omega,r5.trans q4⟩)
  |seq x y=>
   simp only[rF]at hst;obtain⟨t1,t2⟩:=gB hst;refine wpIn_seq (wpIn_mono (ih x _ _ _ t1 h S a w hnb hI) ?_);rintro e a' w' ⟨ex,s1,h1,h2⟩;cases ex with
   |normal=>obtain⟨rfl,hI'⟩:=h2;exact ih y _ _ _ t2 h1 S a' w' hnb hI'
   |ret v bs=>obtain rfl:=h2;exact⟨.ret v bs,s1,h1,rfl⟩
   |exit i=>obtain⟨rfl,hI'⟩:=h2;exact⟨.exit i,s1,h1,rfl,hI'⟩
   |goto l=>obtain⟨rfl,hI'⟩:=h2;exact⟨.goto l,s1,h1,rfl,hI'⟩
  |cond c x y=>
   simp only[rF]at hst;obtain⟨t1,t2⟩:=gB hst;dsimp only at h;split at h
   ·rename_i b hb;rw[cf]at hb;have hev:a.eval c= .bool b:=by
     obtain⟨ρ,r1,_⟩:=hI;have:=r1.ev c;rw[hb]at this;simpa only[nA]using this
    cases b<;>simp only[cond_true,cond_false]at h
    ·exact wpIn_cond_false hev (ih y _ _ _ t2 h S a w hnb hI)
    ·exact wpIn_cond_true hev (ih x _ _ _ t1 h S a w hnb hI)
   ·cases h
  |block id b=>
   simp only[rF]at hst;refine wpIn_block (wpIn_mono (ih b _ _ _ hst h S a w hnb hI) ?_);rintro e a' w' ⟨ex,s1,h1,h2⟩;cases ex with
   |normal=>obtain⟨rfl,hI'⟩:=h2;exact⟨.normal,s1,h1,rfl,hI'⟩
   |ret v bs=>obtain rfl:=h2;exact⟨.ret v bs,s1,h1,rfl⟩
   |goto l=>obtain⟨rfl,hI'⟩:=h2;exact⟨.goto l,s1,h1,rfl,hI'⟩
   |exit i=>
    obtain⟨rfl,hI'⟩:=h2;dsimp only at h1;simp only[Exit.inBlock];cases hb:Nat.beq i id<;>rw[hb]at h1<;>simp only[cond_true,cond_false]at h1
    ·rw[if_neg (fun e=>by subst e;simp at hb)];exact⟨.exit i,s1,h1,rfl,hI'⟩
    ·rw[if_pos (yA hb)];exact⟨.normal,s1,h1,rfl,hI'⟩
  |_=>simp[rF]at hst
end
theorem lA.move {F F':Nat→Prop}{ρ:fC}{h:Nat→oA}{w w':World}(hh:lA F ρ h w)(hsame:∀b,b<w.heap.size→¬F b→w'.heap[b]?=w.heap[b]?)(hs:w.heap.size≤w'.heap.size)
  (hF:∀b,F' b→F b∨w.heap.size≤b)(hlow:∀b,F' b→b<w'.heap.size):lA F' ρ h w':=by
 have hout:∀b,gA ρ h b→¬F' b:=fun b hb hf=>(hF b hf).elim (hh.out b hb) (fun h=>absurd (gA.lt hh hb) (by omega));refine⟨hh.wf,fun id hl=>?_,hh.inj,hlow,hout⟩;obtain⟨p,hp,hb⟩:=hh.rel id hl;refine⟨p,hp,?_⟩;have h1:wA ρ (av (fun _=>False) (fun b=>F b∨gA ρ h b)) w p (h id):=wA.avoid (fun b hb=>hb.elim False.elim (fun h=>h)) hb;have hext:nG (fun b=>F b∨gA ρ h b) w (fun b=>F' b∨gA ρ h b) {w with heap:=w'.heap}:=
  ⟨hs,fun b hb hm=>hsame b hb (fun hf=>hm (.inl hf)),fun b hb=>hb.elim (fun hf=>(hF b hf).imp .inl (fun h=>h)) (fun hl=>.inl (.inr hl)),⟨rfl,rfl,rfl,l4 _⟩⟩
 have h2:=wA.mono (iI.refl ρ) hext h1 (fun b hb=>hsame b (gA.lt hh ⟨id,p,hp,hb⟩) (hh.out b ⟨id,p,hp,hb⟩));have h3:wA ρ (av (fun _=>False) (fun b=>F' b∨gA ρ h b)) w' p (h id):=wA.world (w:={w with heap:=w'.heap}) (w':=w') rfl h2;exact wA.avoid (fun b hb=>.inr hb) h3
def eO (F:Nat→Prop)(B:Nat)(kept:List (List Int×Int))(w:World)(Lv:Nat→Prop):Prop:=
 ∃ρ H,lA F ρ (jA H) w∧(∀id,H.length≤id→ρ id=none)∧(∃n C R,ρ 0=some ⟨some B,n,C,R⟩)∧
  ((kept=[]∧H=[.vals [.c (.slice none 0 0)]])∨(kept≠ []∧H=[.vals [.sw 1 2],.vals (RK.sh.flat kept)]))∧∀b,gA ρ (jA H) b→Lv b
theorem eO.move {F F':Nat→Prop}{B:Nat}{kept:List (List Int×Int)}{w w':World}{Lv Lv':Nat→Prop}(hk:eO F B kept w Lv)(hsame:∀b,b<w.heap.size→¬F b→w'.heap[b]?=w.heap[b]?)(hs:w.heap.size≤w'.heap.size)
  (hF:∀b,F' b→F b∨w.heap.size≤b)(hlow:∀b,F' b→b<w'.heap.size)(hL:∀b,b<w.heap.size→Lv b→Lv' b):eO F' B kept w' Lv':=by
 obtain⟨ρ,H,h1,h2,h3,h4,h5⟩:=hk;exact⟨ρ,H,h1.move hsame hs hF hlow,h2,h3,h4,fun b hb=>hL b (gA.lt h1 hb) (h5 b hb)⟩
theorem eO.of {F:Nat→Prop}{ρ:fC}{H:List oA}{w:World}(hh:lA F ρ (jA H) w){B n C:Nat}{R:List gT}(h0:ρ 0=some ⟨some B,n,C,R⟩){j:Nat}{kept:List (List Int×Int)}(hne:kept≠ [])
  (hb0:jA H 0= .vals [.sw j 2])(hbj:jA H j= .vals (RK.sh.flat kept)):eO F B kept w (gA ρ (jA H)):=by
 have hj0:j≠0:=by
  intro e;subst e;rw[hb0]at hbj;simp only[oA.vals.injEq]at hbj;cases kept with
  |nil=>exact hne rfl
  |cons x r=>rw[RK.flat_cons]at hbj;simp[RK.cells]at hbj
 let ρ':fC:=fun i=>if i=0 then ρ 0 else if i=1 then ρ j else none
 have e0:ρ' 0=ρ 0:=rfl;have e1:ρ' 1=ρ j:=rfl
 let H':List oA:=[.vals [.sw 1 2],.vals (RK.sh.flat kept)]
 have hcase:∀i p b,ρ' i=some p→(jA H' i).has p b→(i=0∧ρ 0=some p∧(jA H 0).has p b)∨(i=1∧ρ j=some p∧(jA H j).has p b):=by
  intro i p b hp hx
  match i with
  |0=>exact .inl ⟨rfl,hp,by rw[hb0];exact hx⟩
  |1=>exact .inr ⟨rfl,hp,by rw[hbj];exact hx⟩
  |i+2=>cases hp
 have hM:∀b,gA ρ' (jA H') b→gA ρ (jA H) b:=by
  rintro b ⟨i,p,hp,hx⟩;rcases hcase i p b hp hx with⟨_,k1,k2⟩|⟨_,k1,k2⟩
  ·exact⟨0,p,k1,k2⟩
  ·exact⟨j,p,k1,k2⟩
 have hMa:∀b,av F (gA ρ' (jA H')) b→av F (gA ρ (jA H)) b:=fun b hb=>hb.imp id (hM b)
 let m:Nat→Option Nat:=fun i=>if i=j then some 1 else none
 have hm:∀i k p,m i=some k→ρ i=some p→ρ' k=some p:=by
  intro i k p h1 h2;simp only[m]at h1;split at h1
  ·rename_i e;subst e;cases h1;exact h2
  ·cases h1
 refine⟨ρ',H',⟨?_,?_,?_,hh.low,fun b hb=>hh.out b (hM b hb)⟩,?_,⟨n,C,R,h0⟩,.inr ⟨hne,rfl⟩,hM⟩
 ·intro i p hp;simp only[ρ']at hp;split at hp
  ·exact hh.wf _ _ hp
  ·split at hp
   ·exact hh.wf _ _ hp
   ·cases hp
 ·intro i hl
  match i with
  |0=>obtain⟨p,hp,hb⟩:=hh.rel 0 (by rw[hb0];trivial);refine⟨p,hp,?_⟩;rw[hb0]at hb;have:=wA.ren (x:=.vals [.sw j 2]) hm (.inl hMa) hb;simp only[jI,uL,Ev.I4,m,if_true]at this;exact this
  |1=>obtain⟨p,hp,hb⟩:=hh.rel j (by rw[hbj];trivial);refine⟨p,hp,?_⟩;rw[hbj]at hb;have:=wA.ren (x:=.vals (RK.sh.flat kept)) hm (.inl hMa) hb;simp only[jI]at this;rw[nM _ _ (RK.sh.flat_leaf kept)]at this;exact this
  |i+2=>exact hl.elim
 ·intro i i' b p p' hp hp' hx hx';rcases hcase i p b hp hx with⟨rfl,k1,k2⟩|⟨rfl,k1,k2⟩<;>rcases hcase i' p' b hp' hx' with⟨rfl,k1',k2'⟩|⟨rfl,k1',k2'⟩
  ·rfl
  ·exact absurd (hh.inj 0 j b _ _ k1 k1' k2 k2') (Ne.symm hj0)
  ·exact absurd (hh.inj j 0 b _ _ k1 k1' k2 k2') hj0
  ·rfl
 ·intro i hi;simp only[H',x3,b7]at hi;have a1:i≠0:=by omega
  have a2:i≠1:=by omega
  simp[ρ',a1,a2]
theorem eO.of_nil {F:Nat→Prop}{ρ:fC}{H:List oA}{w:World}(hh:lA F ρ (jA H) w){B n C:Nat}{R:List gT}(h0:ρ 0=some ⟨some B,n,C,R⟩)
  (hb0:jA H 0= .vals [.c (.slice none 0 0)]):eO F B [] w (gA ρ (jA H)):=by
 let ρ':fC:=fun i=>if i=0 then ρ 0 else none
 let H':List oA:=[.vals [.c (.slice none 0 0)]]
 have hcase:∀i p b,ρ' i=some p→(jA H' i).has p b→i=0∧ρ 0=some p∧(jA H 0).has p b:=by
  intro i p b hp hx
  match i with
  |0=>exact⟨rfl,hp,by rw[hb0];exact hx⟩
  |i+1=>cases hp
 have hM:∀b,gA ρ' (jA H') b→gA ρ (jA H) b:=by rintro b ⟨i,p,hp,hx⟩;obtain⟨_,k1,k2⟩:=hcase i p b hp hx;exact⟨0,p,k1,k2⟩
 refine⟨ρ',H',⟨?_,?_,?_,hh.low,fun b hb=>hh.out b (hM b hb)⟩,?_,⟨n,C,R,h0⟩,.inl ⟨rfl,rfl⟩,hM⟩
 ·intro i p hp;simp only[ρ']at hp;split at hp
  ·exact hh.wf _ _ hp
  ·cases hp
 ·intro i hl
  match i with
  |0=>
   obtain⟨p,hp,hb⟩:=hh.rel 0 (by rw[hb0];trivial);refine⟨p,hp,?_⟩;rw[hb0]at hb;obtain⟨h1,h2|⟨b,c,h2,h3,h4,h5⟩⟩:=hb
   ·exact⟨h1,.inl h2⟩
   ·refine⟨h1,.inr ⟨b,c,h2,h3,h4,?_⟩⟩;generalize c.toList.take p.n=us at h5⊢
    match us with
    | []=>simp[iA]at h5
    | [u]=>simpa[iA,nA]using h5
    |_::_::_=>simp[iA]at h5
  |i+1=>exact hl.elim
 ·intro i i' b p p' hp hp' hx hx';obtain⟨rfl,_⟩:=hcase i p b hp hx;obtain⟨rfl,_⟩:=hcase i' p' b hp' hx';rfl
 ·intro i hi;simp only[H',x3,b7]at hi;have a1:i≠0:=by omega
  simp[ρ',a1]
open Go.Shelf Go.RowKit Go.Lib Go.Sort
def xF:List Int→List Int→Int
 | [],[]=>0
 | [],_::_=> -1
 |_::_,[]=>1
 |a::x,b::y=>if a<b then-1 else if b<a then 1 else xF x y
def K5 (x y:List Int):Bool:=decide (xF x y<0)
theorem z6:∀x,xF x x=0
 | []=>rfl
 |a::x=>by unfold xF;simp[z6 x]
theorem qc:∀x y,xF x y=0→x=y
 | [],[],_=>rfl
 | [],_::_,h=>by cases h
 |_::_,[],h=>by cases h
 |a::x,b::y,h=>by
  unfold xF at h;split at h
  ·cases h
  ·split at h
   ·cases h
   ·rw[qc x y h];congr 1;omega
theorem uQ:∀x y z,xF x y≤0→xF y z≤0→xF x z≤0
 | [],_,[],_,_=>by simp[xF]
 | [],_,_::_,_,_=>by simp[xF]
 |_::_,[],_,h,_=>by simp[xF]at h
 |_::_,_::_,[],_,h=>by simp[xF]at h
 |a::x,b::y,c::z,h,k=>by
  have ih:=uQ x y z;unfold xF at h k⊢;by_cases h1:a<b
  ·by_cases h2:b<c
   ·rw[if_pos (by omega)];decide
   ·rw[if_neg h2]at k;by_cases h3:c<b
    ·rw[if_pos h3]at k;exact absurd k (by decide)
    ·rw[if_pos (by omega)];decide
  ·rw[if_neg h1]at h;by_cases h2:b<a
   ·rw[if_pos h2]at h;exact absurd h (by decide)
   ·rw[if_neg h2]at h;by_cases h3:b<c
    ·rw[if_pos (by omega)];decide
    ·rw[if_neg h3]at k;by_cases h4:c<b
     ·rw[if_pos h4]at k;exact absurd k (by decide)
     ·rw[if_neg h4]at k;rw[if_neg (by omega),if_neg (by omega)];exact ih h k
theorem qI:∀x y,xF y x= -xF x y
 | [],[]=>by simp[xF]
 | [],_::_=>by simp[xF]
 |_::_,[]=>by simp[xF]
 |a::x,b::y=>by
  unfold xF;by_cases h:a<b
  ·have h':¬b<a:=by omega
   simp[h,h']
  ·by_cases h2:b<a
   ·simp[h,h2]
   ·simp[h,h2,qI x y]
def J7 (x y:List Int×Int):Bool:=!(K5 y.1 x.1)
def xL (l:List (List Int×Int)):List (List Int×Int):=l.mergeSort J7
theorem wH (l:List (List Int×Int)):(xL l).Perm l:=List.mergeSort_perm l J7
def F5 (X:Nat→List Int)(n:Nat)(i j:Fin n):Int:=xF (X i) (X j)
theorem Js (X:Nat→List Int)(n:Nat):SWO (ltOf (F5 X n)) where
 irrefl x:=by simp[ltOf,F5,z6]
 trans x y z h1 h2:=by
  have h1:xF (X x) (X y)<0:=of_decide_eq_true h1;have h2:xF (X y) (X z)<0:=of_decide_eq_true h2;refine decide_eq_true (show xF (X x) (X z)<0 from ?_);have a:=qI (X x) (X z);have b:=qI (X x) (X y);by_cases h:xF (X z) (X x)≤0
  ·have:=uQ _ _ _ (by omega:xF (X y) (X z)≤0) h;omega
  ·omega
 ntrans x y z h1 h2:=by have h1:¬xF (X x) (X y)<0:=of_decide_eq_false h1;have h2:¬xF (X y) (X z)<0:=of_decide_eq_false h2;refine decide_eq_false (show ¬xF (X x) (X z)<0 from ?_);have a:=qI (X x) (X z);have b:=qI (X x) (X y);have c:=qI (X y) (X z);have:=uQ (X z) (X y) (X x) (by omega) (by omega);omega
theorem Ju (X:Nat→List Int)(n:Nat)(hinj:∀i j:Fin n,X i=X j→i=j)(x y:Fin n)(h:(ltOf (F5 X n)) x y=false)(k:(ltOf (F5 X n)) y x=false):x=y:=by
 have h:¬xF (X x) (X y)<0:=of_decide_eq_false h;have k:¬xF (X y) (X x)<0:=of_decide_eq_false k;have a:=qI (X x) (X y);exact hinj x y (qc _ _ (by omega))
section
variable {P:Program}{F:Nat→Prop}{ρ:fC}{h:Nat→oA}{w:World}
theorem lA.grow (hh:lA F ρ h w)(os:Array Obj):lA F ρ h (Go.Sort.grow w os)∧nG (gA ρ h) w (gA ρ h) (Go.Sort.grow w os):=by
 have hext:nG (gA ρ h) w (gA ρ h) (Go.Sort.grow w os):=by refine⟨by simp[Go.Sort.grow],fun b hb _=>?_,fun b hb=>.inl hb,⟨rfl,rfl,rfl,l4 _⟩⟩;simp only[Go.Sort.grow];rw[u4 hb]
 refine⟨⟨hh.wf,fun id hl=>?_,hh.inj,hh.low' hext,hh.out⟩,hext⟩;obtain⟨p,hp,hb⟩:=hh.rel id hl;refine⟨p,hp,wA.mono (iI.refl _) hext hb fun b hb'=>?_⟩;have hlt:=gA.lt hh ⟨id,p,hp,hb'⟩;simp only[Go.Sort.grow];rw[u4 hlt]
theorem kc {R:Ren}(L:SlLaysF0.n6 P R)(aE:∀w,(isAgg (R.t 24)).run P w= .ok true w)(zE:∀w,(Go.sizeOf (R.t 24)).run P w= .ok 2 w)(hcall:lO P (R.f 6)){g:Nat}(eg:∀args w,(callFunc g args).run P w= .ok (.enter g args) w)
  (l:List (List Int×Int))(hs:∀x∈l,∀y∈l,dA P g [.agg [.il .i64 1 x.1,.c (.int .i64 x.2)],.agg [.il .i64 1 y.1,.c (.int .i64 y.2)]] [] (.c (.int .i64 (xF x.1 y.1))) [])(hnd:(l.map (·.1)).Nodup)(hsz:l.length<4611686018427387904):
  dA P (R.f 6) [.sw 0 2,.fn g [] []] [.tw .sh l] (.c (.tuple #[])) [.tw .sh (xL l)]:=by
 refine⟨hcall,?_⟩;intro F ρ w args' hH hn hr;obtain⟨v0,v1,rfl⟩:∃a b,args'=[a,b]:=by
  have:=hr.length;simp at this
  match args',this with
  | [a,b],_=>exact⟨a,b,rfl⟩
 simp only[iA,and_true]at hr;obtain⟨hr0,hr1⟩:=hr;have hf:v1= .func (.func g) #[] #[]:=by simp only[nA]at hr1;obtain⟨va,vc,rfl,ha,hc⟩:=hr1;have ha:=ha.length;have hc:=hc.length;simp at ha hc;rw[show va= #[]from a7 (by simpa using ha.symm),show vc= #[]from a7 (by simpa using hc.symm)]
 subst hf;have hl0:(jA [oA.tw .sh l] 0).live:=trivial;have hb0:jA [oA.tw .sh l] 0= .tw .sh l:=rfl;have hset:∀x,oB (jA [oA.tw .sh l]) 0 x=jA [x]:=by intro x;funext j;cases j<;>simp[oB,jA]
 have nocase:∀(p:Option Addr) cap,l=[]→v0= .slice p 0 cap→Calls P (R.f 6) [v0,.func (.func g) #[] #[]].toArray w fun e w'=>∃v',e= .returned v'∧qL F ρ [.tw .sh l] w (.c (.tuple #[])) [.tw .sh (xL l)] v' w':=by
  rintro p cap rfl rfl;have hcon:=AnyF.slices_SortFunc_none L p cap (.func (.func g) #[] #[]) w;refine Calls.mono hcon ?_;rintro e' w' ⟨rfl,rfl⟩;have e:xL []=[]:=by simp[xL]
  rw[e];exact⟨_,rfl,ρ,iI.refl _,fun _ _ h=>h,hn,hH,nA.of_c _,nG.refl _ _⟩
 obtain⟨_,⟨b,n,C,R0,cap,c,h1,h2,h3,h4,h5,ho,hszc,hold⟩|⟨R0,h1,h2,hk⟩⟩:=sF hH hr0 hl0 trivial
 rotate_left
 ·rw[hb0]at hk;rcases hk with⟨_,hk⟩|hk|⟨r,hk⟩|⟨_,_,hk⟩<;>cases hk;exact nocase _ _ rfl h2
 rw[hb0]at hold;obtain⟨k1,k2,k3⟩:=hold;rw[RK.flat_len]at k1;have k1:l.length*2=n:=k1;have hn2:n/2=l.length:=by omega
 rw[hn2]at h3 h5;rcases Nat.eq_zero_or_pos l.length with hz|hpos
 ·have hl:=x7 hz;rw[hz]at h5;exact nocase _ _ hl h5
 subst h5;obtain⟨e,fr,g1,g2,g3⟩:=ho;have hblt:b<w.heap.size:=(u3.mp g1).1;have hMb:av F (gA ρ (jA [oA.tw .sh l])) b:=.inr ⟨0,_,h1,by rw[hb0];rfl⟩;have hcell:∀i:Fin l.length,∃u,c[2*i.1]?=some u∧nA ρ (av F (gA ρ (jA [oA.tw .sh l]))) w (.il .i64 1 l[i.1].1) u∧c[2*i.1+1]?=some (.int .i64 l[i.1].2):=by
  intro i;have hat:=RK.flat_at .sh (l:=l) (i:=i.1) i.2;simp only[RK.w,RK.cells,RK.z]at hat;have hd:l.getD i.1 ([],0)=l[i.1]:=by simp[xK,i.2]
  rw[hd]at hat;have hh0:((RK.sh).flat l)[i.1*2]?=some (.il .i64 1 l[i.1].1):=by have:=congrArg (fun x:List V=>x[0]?) hat;simpa[b4,l5]using this
  have hh1:((RK.sh).flat l)[i.1*2+1]?=some (.c (.int .i64 l[i.1].2)):=by have:=congrArg (fun x:List V=>x[1]?) hat;simpa[b4,l5]using this
  obtain⟨u,hu,hru⟩:=k3.get hh0;obtain⟨u1,hu1,hru1⟩:=k3.get hh1;have:=hru1.c;subst this;have i2:=i.2;refine⟨u,?_,hru,?_⟩
  ·rw[Nat.mul_comm,←x2];rwa[y1 (by omega)]at hu
  ·rw[Nat.mul_comm,←x2];rwa[y1 (by omega)]at hu1
 have hU:∃U:Fin l.length→Value,∀i:Fin l.length,c[2*i.1]?=some (U i)∧nA ρ (av F (gA ρ (jA [oA.tw .sh l]))) w (.il .i64 1 l[i.1].1) (U i)∧c[2*i.1+1]?=some (.int .i64 l[i.1].2):=
  ⟨fun i=>Classical.choose (hcell i),fun i=>Classical.choose_spec (hcell i)⟩
 obtain⟨U,hU⟩:=hU
 let N:=l.length
 have:Inhabited (Fin N):=⟨⟨0,hpos⟩⟩
 let Y:Nat→Int:=fun i=>(l.getD i ([],0)).2
 have hY:∀i:Fin N,Y i.1=l[i.1].2:=fun i=>by have i2:=i.2;simp only[Y,xK];rw[hN i2];rfl
 let enc:Fin N→List Value:=fun i=>[U i,.int .i64 (Y i.1)]
 let X:Nat→List Int:=fun i=>(l.getD i ([],0)).1
 have hX:∀i:Fin N,X i.1=l[i.1].1:=fun i=>by have i2:=i.2;simp only[X,xK];rw[hN i2];rfl
 let d:Array (Fin N):=(List.finRange N).toArray
 have hds:d.size=N:=by simp[d]
 have hdget:∀i,(hi:i<N)→d[i]! =⟨i,hi⟩:=fun i hi=>by rw[getElem!_pos d i (by omega)];simp[d]
 have hflat:∀(dk:Array (Fin N)) t,t<dk.size*2→(flatK enc 2 dk)[t]! =if t%2=0 then U dk[t/2]! else .int .i64 (Y (dk[t/2]!).1):=by
  intro dk t ht;rw[get_flatK _ _ _ _ ht];have:t%2=0∨t%2=1:=by omega
  rcases this with h0|h0<;>rw[h0]<;>simp[enc]
 have hH3:HoldsK enc 2 w b 0 d:=by
  intro j hj;rw[size_flatK,hds]at hj;have hj2:j<N*2:=hj;have hi:j/2<N:=by omega
  rw[hflat _ _ (by rw[hds];exact hj),hdget _ hi];have hjC:j<C:=by have:n≤c.size:=k2;omega
  refine⟨?_,?_⟩
  ·obtain⟨q1,_,q3⟩:=hU ⟨j/2,hi⟩;by_cases h0:j%2=0
   ·rw[if_pos h0];have e0:2*(j/2)=j:=by omega
    simp only at q1;rw[e0]at q1;simp[World.cell?,g1,q1]
   ·rw[if_neg h0];have e0:2*(j/2)+1=j:=by omega
    simp only at q3;rw[e0]at q3;have e1:=hY ⟨j/2,hi⟩;simp only at e1;rw[e1];simp[World.cell?,g1,q3]
  ·simp only[World.frozen?,g1,j5];have:=g3 j hjC;simp only[Bool.and_eq_false_iff,decide_eq_false_iff_not];omega
 have hcmp:CmpLays P g #[] enc 2 (F5 X N) b 0 d.size w:=by
  intro m os dk hszk x y;have hW:∀b',b'<w.heap.size→b'≠b→(sortWorldK enc 2 w b 0 m dk os).heap[b']?=w.heap[b']?:=by intro b' hb' hne;show((w.heap.modify b (onCells (putCells id 0 (flatK enc 2 dk))))++os)[b']?=_;rw[u4 (by simpa using hb'),w6,if_neg (Ne.symm hne)]
  have hWs:w.heap.size≤(sortWorldK enc 2 w b 0 m dk os).heap.size:=by show _≤((w.heap.modify b (onCells (putCells id 0 (flatK enc 2 dk))))++os).size;simp
  generalize sortWorldK enc 2 w b 0 m dk os=W at hW hWs;have h0:lA (fun b'=>b'=b) (fun _=>none) (jA []) W:=⟨fun _ _ hx=>(by cases hx),fun id hl=>(by simp[jA,oA.live]at hl),fun i j b p p' hi=>(by cases hi),fun b' hb=>by subst hb;omega,fun _ hb=>by obtain⟨_,_,hb,_⟩:=hb;cases hb⟩
  have hil:∀i:Fin N,nA (fun _=>none) (av (fun b'=>b'=b) (gA (fun _=>none) (jA []))) W (.il .i64 1 l[i.1].1) (U i):=by
   intro i;obtain⟨_,q2,_⟩:=hU i;simp only[nA]at q2⊢;obtain⟨r1,r2,r3|⟨b',o,cap',r3,r4,r5,r6,r7⟩⟩:=q2
   ·exact⟨r1,r2,.inl r3⟩
   ·have hne:b'≠b:=fun e=>r6 (e▸hMb);refine⟨r1,r2,.inr ⟨b',o,cap',r3,r4,by omega,?_,fun j hj=>?_⟩⟩
    ·rintro(hb|⟨_,_,hb,_⟩)
     ·exact hne hb
     ·cases hb
    ·rw[xC (w:=w) (hW b' r5 hne)];exact r7 j hj
  have hc:=(hs l[x.1] (y8 _) l[y.1] (y8 _)).calls (fun b'=>b'=b) (fun _=>none) W [.agg (enc x).toArray,.agg (enc y).toArray] h0 (fun _ _=>rfl) (by
   simp only[iA,and_true];refine⟨?_,?_⟩<;>(simp only[nA];refine⟨_,rfl,?_⟩;simp only[enc,iA,nA,and_true])
   ·exact⟨by simpa only[nA]using hil x,by rw[hY x]⟩
   ·exact⟨by simpa only[nA]using hil y,by rw[hY y]⟩)
  refine Calls.mono (by simpa using hc) ?_;rintro e w' ⟨v',rfl,ρ',_,_,_,hH,hv,hext⟩;have:=hv.c;subst this;refine⟨by show _=Ending.returned (.int .i64 (xF (X x.1) (X y.1)));rw[hX x,hX y],w'.drawn-W.drawn,w'.heap.extract W.heap.size w'.heap.size,?_⟩;have hk:=hext.keeps;have hheap:w'.heap=W.heap++w'.heap.extract W.heap.size w'.heap.size:=by
   apply Array.ext_getElem?;intro i;by_cases hi:i<W.heap.size
   ·rw[u4 hi];exact hext.same i hi (fun⟨id,p,h1,_⟩=>by cases h1)
   ·rw[Array.getElem?_append_right (by omega)];have hsz:=hext.size;simp only[Array.getElem?_extract];by_cases h2:i<w'.heap.size
    ·rw[if_pos (by omega)];congr 1;omega
    ·rw[if_neg (by omega),Array.getElem?_eq_none (by omega)]
  have hd:=hk.drawn;obtain⟨hp',t',d',o',u'⟩:=w';obtain⟨hp,t,d0,o,u⟩:=W;obtain⟨k1,k2,k3,k4⟩:=hk;simp only at k1 k2 k3 k4 hheap hd⊢;subst k1 k2 k3;simp only[Go.Sort.grow,World.drewN,World.mk.injEq,true_and,and_true];exact⟨hheap,by omega⟩
 have hinj:∀i j:Fin N,X i.1=X j.1→i=j:=by intro i j hij;rw[hX i,hX j]at hij;have i2:=i.2;have j2:=j.2;have:=(List.getElem_inj (xs:=l.map (·.1)) (i:=i.1) (j:=j.1) (h₀:=by rw[e4];exact i2) (h₁:=by rw[e4];exact j2) hnd).mp (by simpa using hij);exact Fin.ext this
 have hone:∀x:Fin N,∀v∈enc x,v.oneCell'=true:=by
  intro x v hv;simp only[enc,hZ,c9,or_false]at hv;rcases hv with rfl|rfl
  ·exact(hU x).2.1.oneCell rfl
  ·rfl
 have hcon:=AnyQ.slices_SortFunc_total L 2 aE zE enc (fun _=>rfl) hone (F5 X N) (Js X N) g #[] b 0 cap d w eg hcmp hH3 hblt (by rw[hds];exact hsz) (Ju X N hinj);rw[hds]at hcon;refine Calls.mono hcon ?_;rintro e' w' ⟨rfl,m,os,rfl⟩;have hsort:((d.toList.mergeSort fun x y=>!(ltOf (F5 X N)) y x).map fun i=>l[i.1])=xL l:=by
  unfold xL;rw[List.map_mergeSort (s:=J7) (fun a _ b _=>by show(!(decide (xF (X b.1) (X a.1)<0)))= !(decide (xF l[b.1].1 l[a.1].1<0));rw[hX a,hX b])];congr 1;simp only[d,List.toList_toArray];apply e8;intro i;by_cases hi:i<N
  ·have hi':i<l.length:=hi;simp[hi,hi']
  ·have hi':¬i<l.length:=hi;simp[hi,hi']
 generalize(d.toList.mergeSort fun x y=>!(ltOf (F5 X N)) y x)=D at hsort;have hDl:D.length=N:=by have:=congrArg List.length hsort;rw[e4,(wH l).length_eq]at this;exact this
 have hheap:(putRowK enc 2 (Sort.ahead w m) b 0 D.toArray).heap=w.heap.modify b (onCells (putCells id 0 (flatK enc 2 D.toArray))):=rfl;have hown:fT (putRowK enc 2 (Sort.ahead w m) b 0 D.toArray) b (putCells id 0 (flatK enc 2 D.toArray) c).size (putCells id 0 (flatK enc 2 D.toArray) c):=by refine⟨e,fr,?_,rfl,fun i hi=>g3 i (by simp[putCells]at hi;omega)⟩;rw[hheap,w6,if_pos rfl,g1];rfl
 have hcs:(putCells id 0 (flatK enc 2 D.toArray) c).size=c.size:=by simp[putCells]
 have hp:ρ 0=some ⟨some b,n,(putCells id 0 (flatK enc 2 D.toArray) c).size,R0⟩:=by rw[hcs,hszc];exact h1
 have hput:∀i,i<N*2→(putCells id 0 (flatK enc 2 D.toArray) c)[i]?=some (if i%2=0 then U (D.toArray[i/2]!)else .int .i64 (Y (D.toArray[i/2]!).1)):=by
  intro i hi;have hic:i<c.size:=by have:n≤c.size:=k2;omega
  simp only[putCells,Array.getElem?_mapIdx,size_flatK,s5,cy,true_and,j5,Nat.sub_zero,id_eq];rw[r8 hic];simp only[Option.map_some,hDl,hi,if_true];rw[hflat _ _ (by simp[hDl];exact hi)]
 have hholds:rC ρ (av F (gA ρ (jA [oA.tw .sh l]))) w n (putCells id 0 (flatK enc 2 D.toArray) c) (.tw .sh (xL l)):=by
  refine⟨by rw[RK.flat_len,(wH l).length_eq];exact k1,by rw[hcs];exact k2,?_⟩;have hlist:(putCells id 0 (flatK enc 2 D.toArray) c).toList.take n=D.flatMap fun i=>[U i,.int .i64 (Y i.1)]:=by
   apply e8;intro i;by_cases hi:i<n
   ·rw[y1 hi,x2,hput i (by omega)];have hlen:∀(D:List (Fin N)) (i:Nat),(hi:i<D.length*2)→(D.flatMap fun i=>[U i,Value.int .i64 (Y i.1)])[i]?=some (if i%2=0 then U (D.toArray[i/2]!)else .int .i64 (Y (D.toArray[i/2]!).1)):=by
     intro D;induction D with
     |nil=>intro i hi;simp at hi
     |cons a D ih=>
      intro i hi
      match i with
      |0=>simp
      |1=>simp
      |i+2=>
       have:=ih i (by simp at hi;omega);have e1:(i+2)%2=i%2:=by omega
       have e2:(i+2)/2=i/2+1:=by omega
       rw[e1,e2];simp only[p6,c5,e6,List.getElem?_cons_succ];rw[this];simp
    rw[hlen D i (by omega)]
   ·rw[r0 (by simp;omega),r0 (by
     have hll:∀D:List (Fin N),(D.flatMap fun i=>[U i,Value.int .i64 (Y i.1)]).length=D.length*2:=fun D=>by
      induction D with
      |nil=>rfl
      |cons a D ih=>simp only[p6,b8,x3,b7,ih];omega
     rw[hll,hDl];omega)]
  rw[hlist,←hsort];have:∀D:List (Fin N),iA ρ (av F (gA ρ (jA [oA.tw .sh l]))) w ((RK.sh).flat (D.map fun i=>l[i.1])) (D.flatMap fun i=>[U i,.int .i64 (Y i.1)]):=by
   intro D;induction D with
   |nil=>simp[RK.flat,iA]
   |cons a D ih=>simp only[p0,RK.flat_cons,p6];refine iA.append ?_ ih;simp only[RK.cells,iA,and_true];refine⟨(hU a).2.1,?_⟩;rw[hY a];exact nA.of_c _
  exact this D
 obtain⟨q1,q2⟩:=lA.write (w':=putRowK enc 2 (Sort.ahead w m) b 0 D.toArray) hH hl0 trivial hp ⟨by rw[hheap];simp,⟨rfl,rfl,rfl,e9 _ _⟩⟩ (fun b' hb'=>by rw[hheap,w6,if_neg (Ne.symm hb')]) hown hholds;rw[hset]at q1 q2;obtain⟨q3,q4⟩:=q1.grow os;exact⟨_,rfl,ρ,iI.refl _,fun _ _ h=>h,hn,q3,nA.of_c _,q2.trans q4⟩
end
end Go.Proofs.YtijigofaaefldaaGreat.Ev
