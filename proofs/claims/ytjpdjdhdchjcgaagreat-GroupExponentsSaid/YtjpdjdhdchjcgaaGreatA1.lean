import Derived.Test.YtjpdjdhdchjcgaaGreatA0
import Derived.Orders
import Derived.LoopN
import Derived.Scope
import Derived.KernelRfl
open List renaming getD_eq_getElem?_getD→iA,getElem?_singleton→iB,getElem?_eq_getElem→hC,mem_cons→cD,getElem?_eq_none→hD,mem_append→aE,getElem?_append→zE,getElem?_append_left→hG,map_cons→xK,all_eq_true→yK,getElem?_eq_some_iff→hN,getElem?_append_right→hO,mem_of_getElem?→hP,map_congr_left→dQ,length_cons→sS,mem_filter→hW,append_assoc→hX,getElem?_take→iX,getElem?_map→a0,cons_append→c0,mem_range→m0,getElem?_cons_zero→n0,not_mem_nil→p0,getElem?_toArray→q0,mem_append_right→r0,singleton_append→u0,mem_append_left→x0,mem_cons_of_mem→y0,nodup_cons→i1,pairwise_append→j1,filter_eq_self→w1,mem_map_of_mem→x1,getElem?_drop→y1,pairwise_cons→z1,reverse_cons→c2,any_eq_true→j2,getElem?_take_of_lt→v2,map_map→x2,mem_map→y2,getElem?_replicate→c3,map_append→i3,range_succ_eq_map→j3,sublist_cons_self→m3,getElem?_range→v3
open Bool renaming and_eq_true→zA,not_eq_true'→hY,or_eq_true→d3
open Array renaming getD_eq_getD_getElem?→zB,getElem?_eq_some_iff→e0,getElem?_setIfInBounds_self_of_lt→f0,getElem?_replicate→i2,toArray_toList→u3
open Nat renaming lt_or_ge→hU,mul_div_cancel→i0,zero_add→z2,dvd_of_mod_eq_zero→n3,le_refl→t3
open Option renaming getD_some→d0
open Go.Sem renaming run_bind→j0,run_pure→k0
open Go.Result renaming andThen_ok→o0
set_option linter.unusedVariables false
set_option linter.unusedSimpArgs false
namespace Go.Proofs.YtjpdjdhdchjcgaaGreat.Ev
section
variable {ty:Nat→Option TI}{nid:Nat}{h h':Nat→rA}
theorem qV {x:V}{k:IntKind}{s:Nat}{l:List Int}{t:List Nat}(hr:zZ h x=some (k,s,l,t))(ht:∀id∈t,h' id=h id):zZ h' x=some (k,s,l,t):=by
 cases x<;>simp only[zZ]at hr⊢
 case sw id s'=>
  split at hr
  ·rename_i k' l' hid;simp only[Option.some.injEq,Prod.mk.injEq]at hr;obtain⟨rfl,rfl,rfl,rfl⟩:=hr;rw[ht id (by simp),hid]
  ·cases hr
 case sl id s' off len=>
  split at hr
  ·rename_i k' l' hid;simp only[Option.some.injEq,Prod.mk.injEq]at hr;obtain⟨rfl,rfl,rfl,rfl⟩:=hr;rw[ht id (by simp),hid]
  ·cases hr
 all_goals first|exact hr|cases hr
theorem qh {x:V}{s:Nat}{l:List V}{t:List Nat}(hr:xq h x=some (s,l,t))(ht:∀id∈t,h' id=h id):xq h' x=some (s,l,t):=by
 cases x<;>simp only[xq]at hr⊢
 case sw id s'=>
  split at hr
  ·rename_i l' hid;simp only[Option.some.injEq,Prod.mk.injEq]at hr;obtain⟨rfl,rfl,rfl⟩:=hr;rw[ht id (by simp),hid]
  ·cases hr
 all_goals first|exact hr|cases hr
theorem tY {x:V}{n:Nat}{t:List Nat}(hr:kO h x=some (n,t))(ht:∀id∈t,h' id=h id):kO h' x=some (n,t):=by
 unfold kO at hr⊢;split at hr<;>first|exact hr|skip
 rename_i id s';split at hr
 all_goals first
  |cases hr;done
  |(simp only[Option.some.injEq,Prod.mk.injEq]at hr
    obtain⟨rfl,rfl⟩:=hr;rename_i hid
    try dsimp only
    rw[ht id (by simp),hid])
theorem xL {k:IntKind}{s:Nat}{x:V}{l:List Int}{t:List Nat}(hr:oJ h k s x=some (l,t))(ht:∀id∈t,h' id=h id):oJ h' k s x=some (l,t):=by
 unfold oJ at hr⊢;split at hr<;>first|exact hr|skip
 rename_i h1 h2;split at hr
 ·rename_i k' w' l' t' hq;obtain⟨a1,a2⟩:=kA hr;simp only[Option.some.injEq,Prod.mk.injEq]at a2;obtain⟨rfl,rfl⟩:=a2;rw[qV hq ht];simp only[a1,cond_true]
 ·cases hr
theorem qQ {s:Nat}{x:V}{l:List V}{t:List Nat}(hr:xP h s x=some (l,t))(ht:∀id∈t,h' id=h id):xP h' s x=some (l,t):=by
 unfold xP at hr⊢;split at hr<;>first|exact hr|skip
 rename_i h1;split at hr
 ·rename_i w' l' t' hq;obtain⟨a1,a2⟩:=kA hr;simp only[Option.some.injEq,Prod.mk.injEq]at a2;obtain⟨rfl,rfl⟩:=a2;rw[qh hq ht];simp only[a1,cond_true]
 ·cases hr
theorem gQ {ti:TI}{d s:V}{b:Bool}{out:iH}(hr:zM ti h nid d s=some (b,out))(ht:∀id∈out.touch,h' id=h id):zM ti h' nid d s=some (b,out):=by
 unfold zM at hr⊢;cases hc:(!(Nat.blt 0 ti.bytes&&Nat.blt 0 ti.size))<;>rw[hc]at hr<;>simp only[cond_false,cond_true]at hr⊢
 ·split at hr
  ·rename_i k hk
   try rw[hk]
   try dsimp only
   split at hr
   ·cases hr
   ·rename_i src t hsrc;split at hr
    ·simp only[Option.some.injEq,Prod.mk.injEq]at hr;obtain⟨rfl,rfl⟩:=hr;rw[xL hsrc ht]
    ·rename_i id w';split at hr
     ·rename_i k' l hid;obtain⟨a1,a2⟩:=kA hr;simp only[Option.some.injEq,Prod.mk.injEq]at a2;obtain⟨rfl,rfl⟩:=a2;simp only[cD]at ht;rw[xL hsrc (fun id hid=>ht id (.inr hid))]
      try dsimp only
      rw[ht id (.inl rfl),hid];simp only[a1,cond_true]
     ·cases hr
    ·cases hr
  ·rename_i hk
   try rw[hk]
   try dsimp only
   split at hr
   ·cases hr
   ·rename_i src t hsrc;split at hr
    ·simp only[Option.some.injEq,Prod.mk.injEq]at hr;obtain⟨rfl,rfl⟩:=hr;rw[qQ hsrc ht]
    ·rename_i id w';split at hr
     ·rename_i l hid;obtain⟨a1,a2⟩:=kA hr;simp only[Option.some.injEq,Prod.mk.injEq]at a2;obtain⟨rfl,rfl⟩:=a2;simp only[cD]at ht;rw[qQ hsrc (fun id hid=>ht id (.inr hid))]
      try dsimp only
      rw[ht id (.inl rfl),hid];simp only[a1,cond_true]
     ·cases hr
    ·cases hr
 ·cases hr
theorem je {ti:TI}{d s:V}{b:Bool}{out:iH}(hr:jd ti h d s=some (b,out))(ht:∀id∈out.touch,h' id=h id):jd ti h' d s=some (b,out):=by
 unfold jd at hr⊢;split at hr
 ·cases hr
 ·rename_i k hk
  try rw[hk]
  try dsimp only
  split at hr
  ·cases hr
  ·rename_i src t hsrc;split at hr
   ·rename_i id w';split at hr
    ·rename_i k' l hid;obtain⟨a1,a2⟩:=kA hr;simp only[Option.some.injEq,Prod.mk.injEq]at a2;obtain⟨rfl,rfl⟩:=a2;simp only[cD]at ht;rw[xL hsrc (fun id hid=>ht id (.inr hid))]
     try dsimp only
     rw[ht id (.inl rfl),hid];simp only[a1,cond_true]
    ·cases hr
   ·cases hr
theorem nX {b:Builtin}{ts:List Nat}{xs:List V}{ok:Bool}{out:iH}(hr:gM ty nid b ts xs h=some (ok,out))(ht:∀id∈out.touch,h' id=h id):gM ty nid b ts xs h'=some (ok,out):=by
 unfold gM at hr⊢;split at hr
 ·split at hr
  ·split at hr
   ·rename_i ti n tc hti hlen;obtain⟨a1,a2⟩:=kA hr;simp only[Option.some.injEq,Prod.mk.injEq]at a2;obtain⟨rfl,rfl⟩:=a2;simp only[hti,tY hlen ht,a1,cond_true]
   ·cases hr
  ·cases hr
 ·exact hr
 ·exact hr
 ·split at hr
  ·split at hr
   ·rename_i e _ _ _ t2 hti ht2
    try simp only[hti,ht2]
    split at hr
    ·rename_i htk
     try simp only[htk]
     split at hr
     ·rename_i te hte
      try simp only[hte]
      exact gQ hr ht
     ·cases hr
    ·rename_i htk
     try simp only[htk]
     split at hr
     ·rename_i te hte
      try simp only[hte]
      exact gQ hr ht
     ·cases hr
    ·cases hr
   ·cases hr
  ·cases hr
 ·split at hr
  ·split at hr
   ·rename_i e _ _ _ hti
    try simp only[hti]
    split at hr
    ·rename_i te hte
     try simp only[hte]
     exact je hr ht
    ·cases hr
   ·cases hr
  ·cases hr
 ·cases hr
theorem s7 {t:Nat}{x i:V}{ok:Bool}{out:iH}(hr:tP ty t x i h=some (ok,out))(ht:∀id∈out.touch,h' id=h id):tP ty t x i h'=some (ok,out):=by
 unfold tP at hr⊢;split at hr
 ·rename_i e _ _ _ hti
  try simp only[hti]
  split at hr
  ·cases hr
  ·rename_i te hte
   try simp only[hte]
   split at hr
   ·rename_i id w';obtain⟨a1,a2⟩:=kA hr;split at a2
    all_goals first
     |cases a2;done
     |(rename_i hid
       simp only[Option.some.injEq,Prod.mk.injEq]at a2;obtain⟨rfl,rfl⟩:=a2;simp only[cD,p0,or_false]at ht;simp only[a1,cond_true,ht id rfl,hid])
   all_goals exact hr
 ·exact hr
 ·cases hr
theorem gg {t:Nat}{x:V}{lo hi mx:Option V}{ok:Bool}{out:iH}(hr:rU ty t x lo hi mx h=some (ok,out))(ht:∀id∈out.touch,h' id=h id):rU ty t x lo hi mx h'=some (ok,out):=by
 unfold rU at hr⊢;split at hr
 ·cases hr
 ·rename_i ti hti
  try simp only[hti]
  cases hc:(hi.isNone&&mx.isSome)<;>simp only[hc,cond_true,cond_false]at hr⊢
  ·split at hr
   ·rename_i hlen;split at hr
    ·rename_i htk;simp only[kO]
     try simp only[htk]
     exact hr
    ·cases hr
   ·rename_i len tc hlen;split at hr
    ·rename_i l h1 m hl hh1 hm;split at hr
     ·rename_i s htk;simp only[kO]at hlen⊢;simp only[Option.some.injEq,Prod.mk.injEq]at hlen;obtain⟨rfl,rfl⟩:=hlen;simp only[hl,hh1,hm,htk];exact hr
     ·rename_i e id w' htk;split at hr
      ·rename_i te hte;obtain⟨a1,a2⟩:=kA hr;simp only[Option.some.injEq,Prod.mk.injEq]at a2;obtain⟨rfl,rfl⟩:=a2;simp only[tY hlen ht,hl,hh1,hm,htk,hte,a1,cond_true]
      ·cases hr
     ·rename_i e id w' off _ htk;simp only[kO]at hlen⊢;simp only[Option.some.injEq,Prod.mk.injEq]at hlen;obtain⟨rfl,rfl⟩:=hlen;simp only[hl,hh1,hm,htk];exact hr
     ·rename_i e k w' l0 htk;simp only[kO]at hlen⊢;simp only[Option.some.injEq,Prod.mk.injEq]at hlen;obtain⟨rfl,rfl⟩:=hlen;simp only[hl,hh1,hm,htk];exact hr
     ·rename_i e htk;simp only[kO]at hlen⊢;simp only[Option.some.injEq,Prod.mk.injEq]at hlen;obtain⟨rfl,rfl⟩:=hlen;simp only[hl,hh1,hm,htk];exact hr
     ·cases hr
    ·cases hr
  ·cases hr
theorem jc {s d:Nat}{x:V}{ok:Bool}{out:iH}(hr:g9 ty nid s d x h=some (ok,out))(ht:∀id∈out.touch,h' id=h id):g9 ty nid s d x h'=some (ok,out):=by
 unfold g9 at hr⊢;split at hr
 ·rename_i ts td hts htd
  try simp only[hts,htd]
  split at hr
  ·rename_i htk;try simp only[htk]
   exact hr
  ·rename_i htk;try simp only[htk]
   exact hr
  ·rename_i htk;try simp only[htk]
   exact hr
  ·rename_i htk;try simp only[htk]
   exact hr
  ·rename_i htk _ _;split at hr
   ·rename_i e hts2;split at hr
    ·rename_i w' l t hte hrow;obtain⟨a1,a2⟩:=kA hr;simp only[Option.some.injEq,Prod.mk.injEq]at a2;obtain⟨rfl,rfl⟩:=a2;have hrow':=qV hrow ht;simp only[hts2,hte,hrow',a1,cond_true]
    ·cases hr
   ·cases hr
  ·cases hr
 ·cases hr
theorem jw {ti:TI}{a:V}{ok:Bool}{out:iH}(hr:iS ti a h=some (ok,out))(ht:∀id∈out.touch,h' id=h id):iS ti a h'=some (ok,out):=by
 unfold iS at hr⊢;split at hr
 ·rename_i id off ext;obtain⟨a1,a2⟩:=kA hr;split at a2
  ·rename_i v hv;simp only[Option.some.injEq,Prod.mk.injEq]at a2;obtain⟨rfl,rfl⟩:=a2;simp only[cD,p0,or_false]at ht;simp only[a1,cond_true,ht id rfl,hv]
  ·cases a2
 ·exact hr
 ·exact hr
 ·cases hr
theorem y7 {t:Nat}{m i:V}{c ok:Bool}{out:iH}(hr:lJ ty t m i c h=some (ok,out))(ht:∀id∈out.touch,h' id=h id):lJ ty t m i c h'=some (ok,out):=by
 unfold lJ at hr⊢;split at hr
 ·rename_i kt et s0 b0 z0 id hti;split at hr
  ·rename_i k n ks vs tk te hid htk hte;have key:h' id=h id:=by
    refine ht id ?_;split at hr
    ·obtain⟨_,a2⟩:=kA hr;simp only[Option.some.injEq,Prod.mk.injEq]at a2;obtain⟨_,rfl⟩:=a2;simp
    ·cases hr
   simp only[key,hid];simp only[hti,htk,hte];exact hr
  ·cases hr
 ·cases hr
theorem fz {t:Nat}{m:V}{ok:Bool}{out:iH}(hr:mU ty nid t m h=some (ok,out))(ht:∀id∈out.touch,h' id=h id):mU ty nid t m h'=some (ok,out):=by
 unfold mU at hr⊢;split at hr
 ·rename_i kt et s0 b0 z0 id hti;split at hr
  ·rename_i k n ks vs hid;simp only[Option.some.injEq,Prod.mk.injEq]at hr;obtain⟨rfl,rfl⟩:=hr;have key:h' id=h id:=ht id (by simp);simp only[key,hid,hti]
  ·cases hr
 ·cases hr
theorem dr {m:V}{ok:Bool}{out:iH}(hr:vT m h=some (ok,out))(ht:∀id∈out.touch,h' id=h id):vT m h'=some (ok,out):=by
 unfold vT at hr⊢;split at hr
 ·rename_i id ext;split at hr
  ·rename_i mid tE rem cur hid;split at hr
   ·rename_i k n ks vs hmid;simp only[Option.some.injEq,Prod.mk.injEq]at hr;obtain⟨rfl,rfl⟩:=hr;have key:h' id=h id:=ht id (by simp);have key2:h' mid=h mid:=ht mid (by simp);simp only[key,hid,key2,hmid]
   ·cases hr
  ·cases hr
 ·cases hr
theorem nM {t:Nat}{m i x:V}{ok:Bool}{out:iH}(hr:yG ty t m i x h=some (ok,out))(ht:∀id∈out.touch,h' id=h id):yG ty t m i x h'=some (ok,out):=by
 unfold yG at hr⊢;split at hr
 ·rename_i kt et s0 b0 z0 id hti;split at hr
  ·rename_i k n ks vs tk hid htk;have key:h' id=h id:=by
    refine ht id ?_;split at hr
    ·split at hr
     ·obtain⟨_,a2⟩:=kA hr;simp only[Option.some.injEq,Prod.mk.injEq]at a2;obtain⟨_,rfl⟩:=a2;simp
     ·cases hr
    ·cases hr
   simp only[key,hid];simp only[hti,htk];exact hr
  ·cases hr
 ·cases hr
theorem cW {t:Nat}{m i:V}{ok:Bool}{out:iH}(hr:fH ty t m i h=some (ok,out))(ht:∀id∈out.touch,h' id=h id):fH ty t m i h'=some (ok,out):=by
 unfold fH at hr⊢;split at hr
 ·rename_i kt et s0 b0 z0 id hti;split at hr
  ·rename_i k n ks vs tk te hid htk hte;have key:h' id=h id:=by
    refine ht id ?_;split at hr
    ·split at hr
     ·obtain⟨_,a2⟩:=kA hr;simp only[Option.some.injEq,Prod.mk.injEq]at a2;obtain⟨_,rfl⟩:=a2;simp
     ·cases hr
    ·cases hr
   simp only[key,hid];simp only[hti,htk,hte];exact hr
  ·cases hr
 ·cases hr
theorem uR {m s x:V}{ok:Bool}{out:iH}(hr:cH m s x h=some (ok,out))(ht:∀id∈out.touch,h' id=h id):cH m s x h'=some (ok,out):=by
 unfold cH at hr⊢;split at hr
 ·rename_i id q;split at hr
  ·rename_i k n ks vs hid;have key:h' id=h id:=by
    refine ht id ?_;split at hr
    ·simp only[Option.some.injEq,Prod.mk.injEq]at hr;obtain⟨_,rfl⟩:=hr;simp
    ·cases hr
   simp only[key,hid];exact hr
  ·cases hr
 ·cases hr
theorem iu {ev:Operand→V}{op:Op}{ok:Bool}{out:iH}(hr:jO ty nid op ev h=some (ok,out))(ht:∀id∈out.touch,h' id=h id):jO ty nid op ev h'=some (ok,out):=by
 cases op
 case convert s d x=>exact jc hr ht
 case slice t x lo hi mx=>exact gg hr ht
 case indexAddr t x i=>exact s7 hr ht
 case load t a=>
  simp only[jO]at hr⊢;split at hr
  ·exact jw hr ht
  ·cases hr
 case call c=>
  obtain⟨cl,args,ts⟩:=c;cases cl
  case builtin b=>exact nX hr ht
  all_goals exact hr
 case store t a x=>
  simp only[jO]at hr⊢;split at hr
  ·rename_i ti id off ext hti ha;split at hr
   ·rename_i vs hvs;obtain⟨a1,a2⟩:=kA hr;split at a2
    ·rename_i b hb;simp only[Option.some.injEq,Prod.mk.injEq]at a2;obtain⟨rfl,rfl⟩:=a2;simp only[cD,p0,or_false]at ht;simp only[hti,ha,hvs,a1,cond_true,ht id rfl,hb]
    ·cases a2
   ·cases hr
  ·cases hr
 case makeFunc f _ _=>cases f<;>exact hr
 case makeMap t r=>cases r<;>exact hr
 case range t x=>exact fz hr ht
 case entry x=>exact dr hr ht
 case lookup t m i c=>exact y7 hr ht
 case mapUpdate t m i x=>exact nM hr ht
 case insert t m i x=>exact nM hr ht
 case mapEntry t m i=>exact cW hr ht
 case entryStore t m s x=>exact uR hr ht
 all_goals exact hr
theorem lS {ev ev':Operand→V}(ps:Array (Nat×Operand))(he:∀x∈(ps.toList.map (·.2)).toArray,ev' x=ev x):(ps.toList.map fun p=>(p.1,ev' p.2))=ps.toList.map fun p=>(p.1,ev p.2):=
 dQ fun p hp=>by rw[he p.2 (by simp only[List.mem_toArray,y2];exact⟨p,hp,rfl⟩)]
theorem cw {ev ev':Operand→V}{op:Op}{r:wV}(hr:jO ty nid op ev h=r)(he:∀x∈op.operands,ev' x=ev x):jO ty nid op ev' h=r:=by
 subst hr;cases op<;>simp only[Op.operands]at he<;>try rfl
 case build t ps=>simp only[jO,lS ps he]
 case buildSlice t n ps=>simp only[jO,lS ps he]
 case makeFunc fn first cap=>
  cases fn<;>try rfl
  simp only[jO];rw[dQ (l:=first.toList) (f:=ev') (g:=ev) fun x hx=>he x (by simp at hx;simp[hx]),dQ (l:=cap.toList) (f:=ev') (g:=ev) fun x hx=>he x (by simp at hx;simp[hx])]
 case call c=>
  obtain⟨cl,args,ts⟩:=c;cases cl<;>try rfl
  simp only[jO];rw[dQ (l:=args.toList) (f:=ev') (g:=ev) fun x hx=>he x (by simp at hx;simp[Call.operands,hx])]
 case slice t x lo hi mx=>simp only[jO];cases lo<;>cases hi<;>cases mx<;>simp_all
 case makeMap t r=>cases r<;>rfl
 all_goals (simp only[jO];simp_all)
end
theorem rk.go_pick {R:Type}(k:V→List rA→Option R):∀a:rk,a.go k=k a.pick.1 a.pick.2
 | .one _ _=>rfl
 | .two true _ _ _ _=>rfl
 | .two false _ _ _ _=>rfl
def o8 (tab:Nat→Option xA)(nid f:Nat)(args:List V)(h:Nat→rA)(out:iH):Prop:=
 ∃e at_ σ enc a,tab f=some e∧rD h e.imm args=at_∧mV h 3 (yM [] (fG at_.1))=σ∧
  e.dec (pU (rH · σ 0) at_.1) (σ.map fun i=>wL (rH · σ 0) (h i))=some (some a,enc)∧
  (enc a).pick.2.length≤σ.length+e.fresh∧σ.length≤(enc a).pick.2.length∧nodup σ=true∧aZ σ at_.2=false∧out=gG σ at_.2 nid (enc a).pick.1 (enc a).pick.2
theorem nt {R:Type}{tab:Nat→Option xA}{nid f:Nat}{args:List V}{h:Nat→rA}{k:iH→Option R}{r:R}
  (hr:zi tab nid f args h k=some r):∃out,o8 tab nid f args h out∧k out=some r:=by
 unfold zi at hr;split at hr
 ·cases hr
 ·rename_i e he;dsimp only at hr;split at hr
  ·cases hr
  ·rename_i m enc hm;cases m with
   |none=>cases hr
   |some a=>dsimp only[Option.bind]at hr;rw[rk.go_pick]at hr;obtain⟨h1,h2⟩:=kA hr;simp only[zA,hY]at h1;obtain⟨⟨⟨h3,h4⟩,h5⟩,h6⟩:=h1;exact⟨_,⟨e,_,_,enc,a,he,rfl,rfl,hm,yF h3,yF h4,h5,h6,rfl⟩,h2⟩
theorem dI {i:Nat}:∀(r σ:List Nat),i∈σ→i∈yM σ r
 | [],σ,h=>h
 |j::r,σ,h=>by
  unfold yM;cases hc:σ.any (Nat.beq j)<;>simp only[cond_false,cond_true]
  ·exact dI r _ (by simp[h])
  ·exact dI r _ h
theorem lT {i:Nat}:∀(r σ:List Nat),i∈r→i∈yM σ r
 |j::r,σ,h=>by
  unfold yM;cases hc:σ.any (Nat.beq j)<;>simp only[cond_false,cond_true]
  ·rcases cD.mp h with rfl|h
   ·exact dI r _ (by simp)
   ·exact lT r _ h
  ·rcases cD.mp h with rfl|h
   ·simp only[j2]at hc;obtain⟨x,hx,hb⟩:=hc;have:=rB hb;subst this;exact dI r _ hx
   ·exact lT r _ h
theorem nU {h:Nat→rA}{i:Nat}:∀(n:Nat) (σ:List Nat),i∈σ→i∈mV h n σ
 |0,σ,hi=>hi
 |n+1,σ,hi=>nU n _ (dI _ _ hi)
theorem nV {h h':Nat→rA}:∀(n:Nat) (σ:List Nat),(∀id∈mV h n σ,h' id=h id)→mV h' n σ=mV h n σ
 |0,σ,_=>rfl
 |n+1,σ,he=>by
  unfold mV at he⊢;have h1:(σ.flatMap fun i=>wS (h' i))=σ.flatMap fun i=>wS (h i):=by
   have:∀i∈σ,wS (h' i)=wS (h i):=fun i hi=>by rw[he i (nU n _ (dI _ _ hi))]
   clear he;induction σ with
   |nil=>rfl
   |cons j σ ih=>simp only[List.flatMap_cons];rw[this j (by simp),ih (fun i hi=>this i (by simp[hi]))]
  rw[h1];exact nV n _ he
mutual
theorem nY {h h':Nat→rA}:∀(v:V),(∀id,id∈lO (bI h v).1∨id∈(bI h v).2→h' id=h id)→bI h' v=bI h v
 | .sw id w,he=>by
  have:h' id=h id:=by
   refine he id ?_;unfold bI;split
   ·exact .inr (by simp)
   ·exact .inl (by simp[lO])
  unfold bI;rw[this]
 | .sl id w off len,he=>by
  have:h' id=h id:=by
   refine he id ?_;unfold bI;split
   ·exact .inr (by simp)
   ·exact .inl (by simp[lO])
  unfold bI;rw[this]
 | .agg cs,he=>by unfold bI at he⊢;rw[mY cs (fun id hid=>he id (by simpa[lO]using hid))]
 | .c _,_=>rfl
 | .poison,_=>rfl
 | .ptr _ _ _,_=>rfl
 | .mref _,_=>rfl
 | .il _ _ _,_=>rfl
 | .iv _ _,_=>rfl
 | .ilp _ _ _ _,_=>rfl
 | .ivp _ _ _ _,_=>rfl
 | .tup _,_=>rfl
 | .fn _ _ _,_=>rfl
theorem mY {h h':Nat→rA}:∀(vs:List V),(∀id,id∈fG (bU h vs).1∨id∈(bU h vs).2→h' id=h id)→bU h' vs=bU h vs
 | [],_=>rfl
 |v::r,he=>by unfold bU at he⊢;rw[nY v (fun id hid=>he id (by simp only[fG,aE];rcases hid with h|h<;>simp[h])),mY r (fun id hid=>he id (by simp only[fG,aE];rcases hid with h|h<;>simp[h]))]
end
theorem uL {h h':Nat→rA}:∀(bs:List Bool) (vs:List V),(∀id,id∈fG (rD h bs vs).1∨id∈(rD h bs vs).2→h' id=h id)→rD h' bs vs=rD h bs vs
 | [],vs,_=>by simp[rD]
 |true::bs,[],_=>by simp[rD]
 |false::bs,[],_=>by simp[rD]
 |true::bs,v::r,he=>by unfold rD at he⊢;rw[nY v (fun id hid=>he id (by simp only[fG,aE];rcases hid with h|h<;>simp[h])),uL bs r (fun id hid=>he id (by simp only[fG,aE];rcases hid with h|h<;>simp[h]))]
 |false::bs,v::r,he=>by unfold rD at he⊢;rw[uL bs r (fun id hid=>he id (by simp only[fG,aE];rcases hid with h|h<;>simp[h]))]
theorem o8.congr_h {tab:Nat→Option xA}{nid f:Nat}{args:List V}{h h':Nat→rA}{out:iH}(hc:o8 tab nid f args h out)(ht:∀id∈out.touch,h' id=h id):o8 tab nid f args h' out:=by
 obtain⟨e,at_,σ,enc,a,h1,h2,h3,h4,h5,h6,h7,h8,h9⟩:=hc;have ht':∀id,id∈σ∨id∈at_.2→h' id=h id:=fun id hid=>ht id (by subst h9;simpa[gG]using hid);have hσ:∀id∈fG at_.1,id∈σ:=fun id hid=>by subst h3;exact nU _ _ (lT _ _ hid)
 refine⟨e,at_,σ,enc,a,h1,?_,?_,?_,h5,h6,h7,h8,h9⟩
 ·rw[uL _ _ (fun id hid=>?_)]
  ·exact h2
  ·rw[h2]at hid;exact ht' id (hid.imp (hσ id) (fun x=>x))
 ·rw[nV _ _ (fun id hid=>ht' id (.inl (h3▸hid)))];exact h3
 ·rw[dQ (g:=fun i=>wL (rH · σ 0) (h i)) (fun i hi=>by rw[ht' i (.inl hi)])];exact h4
def se (T:Nat→V):Operand→V
 | .tmp t=>T t
 | .const v=>gu v
 | .global _=>.poison
 | .func f=>.fn f [] []
theorem du (T:List (Nat×V)):Fm T=se (yD T):=by funext x;cases x<;>rfl
def ik (E:bD)(nid:Nat)(o:Oper)(T:Nat→V)(h:Nat→rA)(out:iH):Prop:=
 (∃f args ts g first cap,o.op= .call ⟨.value f,args,ts⟩∧se T f= .fn g first cap∧o8 E.tab nid g (first++(args.toList.map (se T)++cap)) h out)∨
 jO E.ty nid o.op (se T) h=some (true,out)
theorem jl {R:Type}{E:bD}{nid:Nat}{o:Oper}{T:List (Nat×V)}{h:Nat→rA}{k:iH→Option R}{r:R}(hr:dt E nid o T h k=some r):∃out,ik E nid o (yD T) h out∧k out=some r:=by
 unfold dt at hr;split at hr
 ·rename_i f args ts hop;rw[du]at hr;split at hr
  ·rename_i g first cap hf
   obtain⟨out,h1,h2⟩:=nt hr;exact⟨out,.inl ⟨f,args,ts,g,first,cap,hop,hf,h1⟩,h2⟩
  ·cases hr
 ·rw[du]at hr;split at hr
  ·cases hr
  ·rename_i ok out ha;obtain⟨h1,h2⟩:=kA hr;subst h1;exact⟨out,.inr ha,h2⟩
theorem ik.congr {E:bD}{nid:Nat}{o:Oper}{T T':Nat→V}{h h':Nat→rA}{out:iH}(hx:ik E nid o T h out)(hT:∀x∈o.op.operands,se T' x=se T x)(ht:∀id∈out.touch,h' id=h id):ik E nid o T' h' out:=by
 rcases hx with⟨f,args,ts,g,first,cap,h1,h2,h3⟩|ha
 ·rw[h1]at hT;refine .inl ⟨f,args,ts,g,first,cap,h1,?_,?_⟩
  ·rw[hT f (by simp[Op.operands,Call.operands])];exact h2
  ·rw[dQ (g:=se T) (fun x hx=>hT x (by simp at hx;simp[Op.operands,Call.operands,hx]))];exact h3.congr_h ht
 ·exact .inr (cw (iu ha ht) hT)
def vM (all:List Oper)(T:Nat→V)(o:Oper):Option Bool:=match o.guard with
 |none=>some true
 |some (j,want)=>match(all[j]?).bind (·.dst)with
  |none=>none
  |some g=>match T g with
   | .c (.bool b)=>some (b==want)
   | .c (.tuple _)=>some false
   |_=>none
def mI (T:Nat→V)(d:Option Nat)(v:V):Nat→V:=match d with
 |some d=>fun t=>if t=d then v else T t
 |none=>T
theorem jS (T:List (Nat×V))(d:Option Nat)(v:V):yD (xc T d v)=mI (yD T) d v:=by
 cases d with
 |none=>rfl
 |some d=>
  funext t;simp only[xc,mI,yD];cases hb:Nat.beq d t<;>simp only[cond_false,cond_true]
  ·rw[if_neg (fun e=>by subst e;simp at hb)]
  ·rw[if_pos (rB hb).symm]
theorem uP (T:List (Nat×V))(g:Nat)(v:V)(h:yD T g=v):yD ((g,v)::T)=yD T:=by
 funext t;simp only[yD];cases hb:Nat.beq g t<;>simp only[cond_false,cond_true];rw[←rB hb,h]
def bP (nid:Nat):List rA→List (Nat×rA)
 | []=>[]
 |b::r=>(nid,b)::bP (nid+1) r
theorem aJ (h:Nat→rA):∀(a b:List (Nat×rA)),aF h (a++b)=aF (aF h a) b:=by
 intro a;induction a generalizing h with
 |nil=>intro b;rfl
 |cons p a ih=>intro b;obtain⟨i,x⟩:=p;funext j;simp only[c0,aF];rw[ih]
theorem Eb (h:Nat→rA)(nid:Nat)(bs:List rA):Ea h nid bs=aF h (bP nid bs):=by
 induction bs generalizing h nid with
 |nil=>rfl
 |cons b r ih=>funext j;simp only[bP,Ea,aF];rw[ih]
theorem fq (h:Nat→rA)(nid:Nat)(out:iH):rN h nid out=aF h (out.wr++bP nid out.new):=by
 unfold rN;rw[Eb,aJ]
theorem mS (nid:Nat)(bs:List rA):(bP nid bs).map (·.1)=(List.range bs.length).map (nid+ ·):=by
 induction bs generalizing nid with
 |nil=>rfl
 |cons b r ih=>simp only[bP,xK,sS,j3,x2,ih];simp[Function.comp_def,Nat.add_assoc,Nat.add_comm 1]
theorem rC {h:Nat→rA}{ups:List (Nat×rA)}{j:Nat}(hj:j∉ups.map (·.1)):aF h ups j=h j:=by
 induction ups generalizing h with
 |nil=>rfl
 |cons p r ih=>obtain⟨i,b⟩:=p;simp only[xK,cD,not_or]at hj;simp only[aF];rw[ih hj.2,if_neg hj.1]
theorem ms {h h':Nat→rA}{ups:List (Nat×rA)}{j:Nat}(hj:j∈ups.map (·.1)):aF h ups j=aF h' ups j:=by
 induction ups generalizing h h' with
 |nil=>cases hj
 |cons p r ih=>
  obtain⟨i,b⟩:=p;simp only[aF];by_cases hr:j∈r.map (·.1)
  ·exact ih hr
  ·simp only[xK,cD,hr,or_false]at hj;rw[rC hr,rC hr,if_pos hj,if_pos hj]
theorem yc {h:Nat→rA}{a b:List (Nat×rA)}(hd:∀j∈a.map (·.1),j∉b.map (·.1)):aF (aF h a) b=aF (aF h b) a:=by
 funext j;by_cases ha:j∈a.map (·.1)
 ·rw[rC (hd j ha)];exact ms ha
 ·rw[rC (ups:=a) ha];by_cases hb:j∈b.map (·.1)
  ·exact ms hb
  ·rw[rC hb,rC hb,rC ha]
theorem xb {T:Nat→V}{x y:Option Nat}{v u:V}(h:∀d,x=some d→y≠some d):mI (mI T x v) y u=mI (mI T y u) x v:=by
 cases x with
 |none=>rfl
 |some d=>
  cases y with
  |none=>rfl
  |some e=>
   have hne:d≠e:=fun he=>h d rfl (he▸rfl);funext t;simp only[mI];by_cases h1:t=e
   ·subst h1;rw[if_pos rfl,if_neg (Ne.symm hne),if_pos rfl]
   ·rw[if_neg h1];by_cases h2:t=d
    ·rw[if_pos h2,if_pos h2]
    ·rw[if_neg h2,if_neg h2,if_neg h1]
structure fX where
 i:Nat
 v:V
 touch:List Nat
 ups:List (Nat×rA)
def fX.fp (r:fX):Fp:=⟨r.i,r.touch,r.ups.map (·.1)⟩
structure xJ where
 i:Nat
 nid:Nat
 o:Oper
def jK (tab:Nat→Option xA):Nat→Nat→List Oper→List xJ
 |_,_,[]=>[]
 |i,nid,o::r=>⟨i,nid,o⟩::jK tab (i+1) (nid+mO tab o.op) r
def jH (E:bD)(all:List Oper)(len:Nat)(x:xJ)(T:Nat→V)(h:Nat→rA)(r:fX):Prop:=
 r.i=x.i∧rv E.ntmps x.o.dst=true∧
 ((vM all T x.o=some true∧∃out,ik E x.nid x.o T h out∧r=⟨x.i,out.val,out.touch,out.wr++bP x.nid out.new⟩∧out.new.length≤mO E.tab x.o.op∧x.nid+mO E.tab x.o.op≤len∧∀p∈out.wr,p.1<len)∨
  (vM all T x.o=some false∧r=⟨x.i,zL,[],[]⟩))
def Tr (E:bD)(all:List Oper)(len:Nat):List xJ→(Nat→V)→(Nat→rA)→List fX→(Nat→V)→(Nat→rA)→Prop
 | [],T,h,[],T',h'=>T'=T∧h'=h
 |x::xs,T,h,r::rs,T',h'=>jH E all len x T h r∧Tr E all len xs (mI T x.o.dst r.v) (aF h r.ups) rs T' h'
 |_,_,_,_,_,_=>False
theorem eF:∀(H:List rA) (i:Nat) (x:rA),(qD H i x).length=H.length
 | [],_,_=>rfl
 |_::_,0,_=>rfl
 |_::r,n+1,x=>by simp[qD,eF r]
theorem i7:∀(ups:List (Nat×rA)) (H:List rA),(yf H ups).length=H.length
 | [],_=>rfl
 |(i,b)::r,H=>by simp[yf,i7 r,eF]
theorem tz:∀(bs:List rA) (H:List rA) (nid:Nat),Bb H nid bs=yf H (bP nid bs)
 | [],_,_=>rfl
 |b::r,H,nid=>by simp only[Bb,bP,yf];exact tz r _ _
theorem f7:∀(a b:List (Nat×rA)) (H:List rA),yf (yf H a) b=yf H (a++b)
 | [],_,_=>rfl
 |(i,x)::r,b,H=>by simp only[yf,c0];exact f7 r b _
theorem oT:∀(H:List rA) (i:Nat) (x:rA),i<H.length→nA (qD H i x)=fun j=>if j=i then x else nA H j
 | [],_,_,h=>by simp at h
 |b::r,0,x,_=>by funext j;cases j<;>simp[qD,nA]
 |b::r,n+1,x,h=>by
  funext j;cases j with
  |zero=>simp[qD,nA]
  |succ j=>simp[qD,nA,oT r n x (by simpa using h)]
theorem z8:∀(ups:List (Nat×rA)) (H:List rA),(∀p∈ups,p.1<H.length)→nA (yf H ups)=aF (nA H) ups
 | [],_,_=>rfl
 |(i,b)::r,H,h=>by simp only[yf];rw[z8 r _ (fun p hp=>by rw[eF];exact h p (by simp[hp])),oT _ _ _ (h (i,b) (by simp))];rfl
theorem Dp {nid:Nat}{bs:List rA}{p:Nat×rA}(hp:p∈bP nid bs):nid≤p.1∧p.1<nid+bs.length:=by
 have:p.1∈(bP nid bs).map (·.1):=x1 hp;rw[mS]at this;simp at this;obtain⟨a,h1,h2⟩:=this;omega
theorem od {R:Type}{E:bD}{all:List Oper}{r:R}{k:St→List Fp→Option R}:∀(rest:List Oper) (i nid:Nat) (T:List (Nat×V)) (H:List rA) (fps:List Fp),zX E all i rest nid T H fps k=some r→
  ∃rs T' H',Tr E all H.length (jK E.tab i nid rest) (yD T) (nA H) rs (yD T') (nA H')∧H'.length=H.length∧k ⟨T',H'⟩ ((rs.map fX.fp).reverse++fps)=some r:=by
 intro rest;induction rest with
 |nil=>intro i nid T H fps hr;exact⟨[],T,H,⟨rfl,rfl⟩,rfl,hr⟩
 |cons o rest ih=>
  intro i nid T H fps hr;unfold zX at hr;dsimp only at hr;obtain⟨hd,hr⟩:=kA hr;have hgo:∀T1:List (Nat×V),yD T1=yD T→vM all (yD T) o=some true→(dt E nid o T1 (nA H) fun out=>bif Bj H nid (mO E.tab o.op) out then
    zX E all (i+1) rest (nid+mO E.tab o.op) (xc T1 o.dst out.val) (Bb (yf H out.wr) nid out.new)
     (⟨i,out.touch,out.wr.map (·.1)++(List.range out.new.length).map (nid+ ·)⟩::fps) k
    else none)=some r→∃rs T' H',Tr E all H.length (jK E.tab i nid (o::rest)) (yD T) (nA H) rs (yD T') (nA H')∧H'.length=H.length∧k ⟨T',H'⟩ ((rs.map fX.fp).reverse++fps)=some r:=by
   intro T1 hT1 hw hr;obtain⟨out,hx,hr⟩:=jl hr;obtain⟨hok,hr⟩:=kA hr;simp only[Bj,zA,yK]at hok;obtain⟨⟨o1,o2⟩,o3⟩:=hok;have o1:=yF o1;have o2:=yF o2;rw[tz,f7]at hr;obtain⟨rs,T',H',h1,h2,h3⟩:=ih _ _ _ _ _ hr;rw[i7]at h1 h2;rw[z8 _ _ (fun p hp=>by
    rcases aE.mp hp with hp|hp
    ·exact fD (o3 p hp)
    ·have:=Dp hp;omega)]at h1
   rw[jS,hT1]at h1;refine⟨⟨i,out.val,out.touch,out.wr++bP nid out.new⟩::rs,T',H',⟨⟨rfl,hd,.inl ⟨hw,out,hT1▸hx,rfl,o1,o2,fun p hp=>fD (o3 p hp)⟩⟩,h1⟩,h2,?_⟩;simp only[xK,c2,hX,u0];unfold fX.fp;simp only[i3,mS];exact h3
  have hskip:∀T1:List (Nat×V),yD T1=yD T→vM all (yD T) o=some false→zX E all (i+1) rest (nid+mO E.tab o.op) (xc T1 o.dst zL) H (⟨i,[],[]⟩::fps) k=some r→
    ∃rs T' H',Tr E all H.length (jK E.tab i nid (o::rest)) (yD T) (nA H) rs (yD T') (nA H')∧H'.length=H.length∧k ⟨T',H'⟩ ((rs.map fX.fp).reverse++fps)=some r:=by
   intro T1 hT1 hw hr;obtain⟨rs,T',H',h1,h2,h3⟩:=ih _ _ _ _ _ hr;rw[jS,hT1]at h1;refine⟨⟨i,zL,[],[]⟩::rs,T',H',⟨⟨rfl,hd,.inr ⟨hw,rfl⟩⟩,h1⟩,h2,?_⟩;simp only[xK,c2,hX,u0];exact h3
  split at hr
  ·rename_i hg;exact hgo T rfl (by simp[vM,hg]) hr
  ·rename_i j want hg;split at hr
   ·cases hr
   ·rename_i g hgd;have hwant:∀b,yD T g= .c (.bool b)→vM all (yD T) o=some (b==want):=fun b hb=>by simp[vM,hg,hgd,hb]
    split at hr
    ·rename_i hb;cases want<;>simp only[cond_true,cond_false]at hr
     ·exact hskip _ (uP _ _ _ hb) (hwant _ hb) hr
     ·exact hgo _ (uP _ _ _ hb) (hwant _ hb) hr
    ·rename_i hb;cases want<;>simp only[cond_true,cond_false]at hr
     ·exact hgo _ (uP _ _ _ hb) (hwant _ hb) hr
     ·exact hskip _ (uP _ _ _ hb) (hwant _ hb) hr
    ·rename_i vs hb;exact hskip _ rfl (by simp[vM,hg,hgd,hb]) hr
    ·cases hr
section
theorem da {d:Nat}{l:List Nat}:l.any (Nat.beq d)=true↔d∈l:=by
 simp only[j2];constructor
 ·rintro⟨x,hx,hb⟩;have:=rB hb;subst this;exact hx
 ·intro h;exact⟨d,h,by simp⟩
theorem jL {d:Nat}{l:List Nat}:(!(l.any (Nat.beq d)))=true↔d∉l:=by
 rw[hY,←Bool.not_eq_true,da]
theorem vP {a b:List Nat}:(!aZ a b)=true↔∀j∈a,j∉b:=by
 unfold aZ;rw[hY,←Bool.not_eq_true,j2];simp only[not_exists,not_and];constructor
 ·intro h j hj hb;exact h j hj (da.mpr hb)
 ·intro h j hj hb;exact h j hj (da.mp hb)
variable {E:bD}{all:List Oper}{len:Nat}
theorem jH.congr {x:xJ}{T T':Nat→V}{h h':Nat→rA}{r:fX}(hc:jH E all len x T h r)(hT:∀t∈iV all x.o,T' t=T t)(hh:∀id∈r.touch,h' id=h id):jH E all len x T' h' r:=by
 obtain⟨h1,h2,h3⟩:=hc;have hop:∀y∈x.o.op.operands,se T' y=se T y:=by
  intro y hy;cases y with
  |tmp t=>refine hT t ?_;unfold iV Ck;exact x0 _ (List.mem_filterMap.mpr ⟨.tmp t,by simpa using hy,rfl⟩)
  |_=>rfl
 have hw:vM all T' x.o=vM all T x.o:=by
  unfold vM;cases hg:x.o.guard with
  |none=>rfl
  |some gw=>
   obtain⟨j,want⟩:=gw;dsimp only;cases hd:(all[j]?).bind (·.dst)with
   |none=>rfl
   |some g=>dsimp only;rw[hT g (by unfold iV;rw[hg];simp only[hd];exact r0 _ (by simp))]
 refine⟨h1,h2,?_⟩;rw[hw];rcases h3 with⟨a1,out,a2,a3,a4⟩|h3
 ·exact .inl ⟨a1,out,a2.congr hop (by subst a3;exact hh),a3,a4⟩
 ·exact .inr h3
structure ym (all:List Oper)(x y:xJ)(rx ry:fX):Prop where
 a1:∀d,x.o.dst=some d→d∉iV all y.o
 a2:∀d,x.o.dst=some d→y.o.dst≠some d
 a3:∀d,y.o.dst=some d→d∉iV all x.o
 b1:(∀j∈rx.touch,j∉ry.ups.map (·.1))∨fb x.o.op y.o.op=true
 b2:∀j∈rx.ups.map (·.1),j∉ry.touch
 b3:∀j∈rx.ups.map (·.1),j∉ry.ups.map (·.1)
theorem ax {T:Nat→V}{dst:Option Nat}{v:V}{t:Nat}(h:∀d,dst=some d→d≠t):mI T dst v t=T t:=by
 cases dst with
 |none=>rfl
 |some d=>simp only[mI];rw[if_neg (fun e=>h d rfl e.symm)]
theorem tt {l:List Int}:∀(ks:List (List Int)) (n:Nat) {j:Nat},vE l ks n=some j→n≤j∧j<n+ks.length
 | [],_,_,h=>by simp[vE]at h
 |k::r,n,j,h=>by
  simp only[vE]at h;cases hb:yV l k<;>rw[hb]at h
  ·obtain⟨a,b⟩:=tt r (n+1) h;simp only[sS];omega
  ·simp only[cond_true,Option.some.injEq]at h;subst h;simp only[sS];omega
theorem jk:∀(l:List Int),yV l l=true
 | []=>rfl
 |a::r=>by simp[yV,jk r]
theorem kV {l:List Int}:∀(ks:List (List Int)) (n:Nat),vE l ks n=none→vE l (ks++[l]) n=some (n+ks.length)
 | [],n,_=>by simp[vE,jk]
 |k::r,n,h=>by
  simp only[vE]at h;cases hb:yV l k<;>rw[hb]at h
  ·simp only[c0,vE,hb,cond_false];rw[kV r (n+1) h];simp only[sS,Option.some.injEq];omega
  ·cases h
theorem cZ {α:Type}{d:α}{l:List Int}{ks:List (List Int)}{vs:List α}:
  (match vE l (vB l ks) 0 with|some j=>(eG l (match vE l ks 0 with|some j=>vs.getD j d|none=>d) ks (vs.take ks.length)).getD j d|none=>d)=
   (match vE l ks 0 with|some j=>vs.getD j d|none=>d):=by
 cases hm:vE l ks 0 with
 |none=>
  have hK:vB l ks=ks++[l]:=by simp[vB,cQ,hm]
  rw[hK,kV ks 0 hm];simp only[eG,hm];rw[iA];by_cases hl:ks.length≤vs.length
  ·rw[hO (by simp;omega)];simp[Nat.min_eq_left hl]
  ·rw[hD (by simp;omega)];rfl
 |some j=>
  have hj:=tt ks 0 hm;have hK:vB l ks=ks:=by simp[vB,cQ,hm]
  rw[hK,hm];simp only[eG,hm];rw[iA,iA];by_cases hv:j<vs.length
  ·rw[List.getElem?_set_self (by simp;omega)];rfl
  ·rw[hD (by simp;omega),hD (by omega)]
theorem ee {l:List Int}{ks:List (List Int)}{vs c:iO}{v:V}(hv:xG l ks vs=some v)(hc:cR l ks (yP ks.length vs) v=some c):
  xG l (vB l ks) c=some v∧∀te,aN te c=aN te vs:=by
 cases vs with
 |strs _=>simp[xG]at hv
 |ints k vs=>simp only[xG,Option.some.injEq]at hv;subst hv;simp only[yP,cR]at hc;obtain⟨_,h2⟩:=kA hc;simp only[Option.some.injEq]at h2;subst h2;refine⟨?_,fun te=>rfl⟩;simp only[xG,Option.some.injEq];congr 2;exact cZ
 |bools vs=>simp only[xG,Option.some.injEq]at hv;subst hv;simp only[yP,cR,Option.some.injEq]at hc;subst hc;refine⟨?_,fun te=>rfl⟩;simp only[xG,Option.some.injEq];congr 2;exact cZ
theorem pd {ty:Nat→Option TI}{t:Nat}{m i:V}{h:Nat→rA}{out outy:iH}(hx:lJ ty t m i false h=some (true,out))(hy:fH ty t m i h=some (true,outy)):
  outy.new=[]∧lJ ty t m i false (aF h outy.wr)=some (true,out):=by
 unfold fH at hy;split at hy
 ·rename_i kt et s0 b0 z0 id ht;split at hy
  ·rename_i k n ks vs tk te hid htk hte;split at hy
   ·rename_i l v hl hv;split at hy
    ·rename_i c hcol;obtain⟨hc,h2⟩:=kA hy;simp only[Option.some.injEq,Prod.mk.injEq,true_and]at h2;subst h2;refine⟨rfl,?_⟩;rw[hl]at hv;simp only at hv;obtain⟨g1,g2⟩:=ee hv hcol;unfold lJ at hx⊢;simp only[ht,hid,htk,hte,hl,hv]at hx;simp only[aF,ht,if_pos,htk,hte,hl,g1,g2];exact hx
    ·cases hy
   ·cases hy
  ·cases hy
 ·cases hy
theorem jH.look {x y:xJ}{T:Nat→V}{h:Nat→rA}{rx ry:fX}(hx:jH E all len x T h rx)(hy:jH E all len y T h ry)(hl:fb x.o.op y.o.op=true):jH E all len x T (aF h ry.ups) rx:=by
 obtain⟨h1,h2,h3⟩:=hx;obtain⟨_,_,hy⟩:=hy;refine⟨h1,h2,?_⟩;rcases h3 with⟨a1,out,a2,a3,a4⟩|h3
 ·rcases hy with⟨b1,outy,b2,b3,b4⟩|⟨_,b3⟩
  ·refine .inl ⟨a1,out,?_,a3,a4⟩;unfold fb at hl;split at hl
   ·rename_i t a b t' a' b' e1 e2;simp only[zA]at hl;obtain⟨l1,l2,l3⟩:=hl;have l1:=rB l1;have l2:=rB l2;have l3:=rB l3;subst l1;subst l2;subst l3;rcases a2 with⟨_,_,_,_,_,_,e3,_⟩|a2
    ·rw[e1]at e3;cases e3
    ·rcases b2 with⟨_,_,_,_,_,_,e3,_⟩|b2
     ·rw[e2]at e3;cases e3
     ·rw[e1]at a2;rw[e2]at b2;refine .inr ?_;rw[e1];obtain⟨g1,g2⟩:=pd (ty:=E.ty) a2 b2;subst b3;simp only[g1,bP,List.append_nil];exact g2
   ·cases hl
  ·subst b3;exact .inl ⟨a1,out,a2,a3,a4⟩
 ·exact .inr h3
theorem jH.swap {x y:xJ}{T:Nat→V}{h:Nat→rA}{rx ry:fX}(hx:jH E all len x T h rx)(hy:jH E all len y (mI T x.o.dst rx.v) (aF h rx.ups) ry)(ha:ym all x y rx ry):
  jH E all len y T h ry∧jH E all len x (mI T y.o.dst ry.v) (aF h ry.ups) rx∧mI (mI T x.o.dst rx.v) y.o.dst ry.v=mI (mI T y.o.dst ry.v) x.o.dst rx.v∧aF (aF h rx.ups) ry.ups=aF (aF h ry.ups) rx.ups:=by
 have hy':jH E all len y T h ry:=hy.congr (fun t ht=>(ax (fun d hd he=>ha.a1 d hd (he▸ht))).symm) (fun id hid=>(rC (fun hm=>ha.b2 id hm hid)).symm);have hT:∀t∈iV all x.o,mI T y.o.dst ry.v t=T t:=fun t ht=>ax (fun d hd he=>ha.a3 d hd (he▸ht));refine⟨hy',?_,xb ha.a2,yc ha.b3⟩;rcases ha.b1 with hb|hl
 ·exact hx.congr hT (fun id hid=>rC (hb id hid))
 ·exact(hx.look hy' hl).congr hT (fun _ _=>rfl)
def yg (E:bD)(all:List Oper)(len:Nat):List (xJ×fX)→(Nat→V)→(Nat→rA)→(Nat→V)→(Nat→rA)→Prop
 | [],T,h,T',h'=>T'=T∧h'=h
 |p::xs,T,h,T',h'=>jH E all len p.1 T h p.2∧yg E all len xs (mI T p.1.o.dst p.2.v) (aF h p.2.ups) T' h'
theorem Tr.pairs:∀{xs:List xJ} {T:Nat→V} {h:Nat→rA} {rs:List fX} {T':Nat→V} {h':Nat→rA},Tr E all len xs T h rs T' h'→∃L:List (xJ×fX),L.map (·.1)=xs∧L.map (·.2)=rs∧yg E all len L T h T' h'
 | [],_,_,[],_,_,ht=>⟨[],rfl,rfl,ht⟩
 |x::xs,_,_,r::rs,_,_,ht=>by obtain⟨h1,h2⟩:=ht;obtain⟨L,a1,a2,a3⟩:=Tr.pairs h2;exact⟨(x,r)::L,by simp[a1],by simp[a2],h1,a3⟩
 | [],_,_,_::_,_,_,ht=>ht.elim
 |_::_,_,_,[],_,_,ht=>ht.elim
theorem yg.front {p:xJ×fX}{L2:List (xJ×fX)}{T':Nat→V}{h':Nat→rA}:∀(L1:List (xJ×fX)) (T:Nat→V) (h:Nat→rA),yg E all len (L1++p::L2) T h T' h'→(∀q∈L1,ym all q.1 p.1 q.2 p.2)→
  jH E all len p.1 T h p.2∧yg E all len (L1++L2) (mI T p.1.o.dst p.2.v) (aF h p.2.ups) T' h'
 | [],_,_,ht,_=>ht
 |q::L1,T,h,ht,ha=>by obtain⟨h1,h2⟩:=ht;obtain⟨h3,h4⟩:=yg.front L1 _ _ h2 (fun q hq=>ha q (by simp[hq]));obtain⟨s1,s2,s3,s4⟩:=h1.swap h3 (ha q (by simp));rw[s3,s4]at h4;exact⟨s1,s2,h4⟩
def dj (o:Oper):List Nat:=(o.after.toList.filter (Region.binds .any)).map (·.on)
theorem al {accf:Nat→Nat}{x:Nat}:∀(ds:List Nat) (m:Nat),(ds.foldl (fun m d=>m|||(1<<<d)|||accf d) m).testBit x=true→
  m.testBit x=true∨x∈ds∨∃d∈ds,(accf d).testBit x=true
 | [],m,h=>Or.inl h
 |d::ds,m,h=>by
  rw[List.foldl_cons]at h;rcases al ds _ h with h|h|⟨e,he,h⟩
  ·rw[Nat.testBit_or,Nat.testBit_or,Nat.testBit_shiftLeft]at h;simp only[d3,zA,decide_eq_true_eq]at h;rcases h with(h|⟨h1,h2⟩)|h
   ·exact Or.inl h
   ·have hz:x-d=0:=by
     rcases Nat.eq_zero_or_pos (x-d)with h|h
     ·exact h
     ·rw[Nat.testBit_lt_two_pow (Nat.one_lt_two_pow (by omega))]at h2;cases h2
    have:x=d:=by omega
    exact Or.inr (Or.inl (by simp[this]))
   ·exact Or.inr (Or.inr ⟨d,by simp,h⟩)
  ·exact Or.inr (Or.inl (y0 _ h))
  ·exact Or.inr (Or.inr ⟨e,y0 _ he,h⟩)
theorem dc {S:Nat→Prop}(hS:∀j o,S j→all[j]?=some o→∀d∈dj o,S d):
  ∀(rest:List Oper) (acc:List Nat),all=all.take acc.length++rest→acc.length≤all.length→(∀j o,j<acc.length→all[j]?=some o→(∀d∈dj o,S d)→∀x,(acc.reverse.getD j 0).testBit x=true→S x)→
   ∀j o,all[j]?=some o→(∀d∈dj o,S d)→∀x,((zK rest acc).getD j 0).testBit x=true→S x:=by
 intro rest;induction rest with
 |nil=>
  intro acc hall hle hinv j o hj hd x hx;simp only[zK]at hx;have:j<acc.length:=by have hjl:j<all.length:=(hN.mp hj).1;have:=congrArg List.length hall;simp at this;omega
  exact hinv j o this hj hd x hx
 |cons o rest ih=>
  intro acc hall hle hinv;have hlen:acc.length<all.length:=by have:=congrArg List.length hall;simp at this;omega
  have hat:all[acc.length]?=some o:=by
   have h2:(all.take acc.length++o::rest)[acc.length]?=some o:=by rw[hO (by simp;omega)];simp[Nat.min_eq_left hle]
   rw[←hall]at h2;exact h2
  simp only[zK];refine ih _ ?_ (by simp;omega) ?_
  ·simp only[sS];rw[List.take_add_one,hat];simp only[Option.toList,hX,u0];exact hall
  ·intro j oj hj hoj hd x hx;simp only[c2]at hx;simp only[sS]at hj;rcases hU j acc.length with hlt|hge
   ·refine hinv j oj hlt hoj hd x ?_;rw[iA,hG (by simpa using hlt)]at hx;rw[iA];exact hx
   ·have:j=acc.length:=by omega
    subst this;rw[hat]at hoj;simp only[Option.some.injEq]at hoj;subst hoj;rw[iA,hO (by simp)]at hx;simp only[List.length_reverse,Nat.sub_self,n0,d0]at hx;rcases al _ _ hx with hx|hx|⟨d,hd1,hx⟩
    ·rw[Nat.zero_testBit]at hx;cases hx
    ·exact hd x hx
    ·have hSd:=hd d hd1;rcases hU d acc.length with hlt|hge
     ·have hdl:d<all.length:=by omega
      exact hinv d _ hlt (hC hdl) (fun d' hd'=>hS d _ hSd (hC hdl) d' hd') x hx
     ·rw[iA,hD (by simpa using hge)]at hx;rw[Option.getD_none,Nat.zero_testBit]at hx;cases hx
theorem iQ:∀(rest:List Oper) (k:Nat),dM k rest=true→∀j o,rest[j]?=some o→∀d∈dj o,d<k+j
 | [],_,_,j,o,hj=>by simp at hj
 |x::r,k,hb,0,o,hj=>by simp at hj;subst hj;simp only[dM,zA,yK]at hb;intro d hd;simp only[dj,y2,hW]at hd;obtain⟨e,⟨h1,h2⟩,rfl⟩:=hd;have:=hb.1 e h1;rw[h2]at this;simp at this;omega
 |x::r,k,hb,j+1,o,hj=>by simp only[dM,zA]at hb;intro d hd;have:=iQ r (k+1) hb.2 j o (by simpa using hj) d hd;omega
theorem dO {bef:List Nat}:∀(l:List Fp),fm all bef l=true→l.Pairwise (fun y x=>pY all bef x y=true)
 | [],_=>.nil
 |y::r,h=>by simp only[fm,zA,yK]at h;exact .cons h.1 (dO r h.2)
section
variable {P:Program}{ops:Array Oper}{Q:Exit→Act→World→Prop}
theorem ka {o:Oper}{d:Nat}:d∈dj o↔∃e∈o.after,Region.binds .any e=true∧e.on=d:=by
 simp only[dj,y2,hW,Array.mem_toList_iff];constructor
 ·rintro⟨e,⟨h1,h2⟩,h3⟩;exact⟨e,h1,h2,h3⟩
 ·rintro⟨e,h1,h2,h3⟩;exact⟨e,⟨h1,h2⟩,h3⟩
theorem aW {l:Array Bool}{i:Nat}(h:l.getD i false=true):l.getD i true=true:=by
 rw[zB]at h⊢;cases hc:l[i]?<;>rw[hc]at h<;>simp_all
theorem bW {l:Array Bool}{i:Nat}(hi:i<l.size)(h:l.getD i true=true):l.getD i false=true:=by
 rw[zB,Array.getElem?_eq_getElem hi]at h⊢;exact h
theorem Ct (I:(Nat→V)→(Nat→rA)→List xJ→Act→World→Prop){T':Nat→V}{h':Nat→rA}
  (hstep:∀T h pre x post r a w K,jH E ops.toList len x T h r→I T h (pre++x::post) a w→ops[x.i]?=some x.o→(∀a' w',I (mI T x.o.dst r.v) (aF h r.ups) (pre++post) a' w'→K a' w')→wpOp P ops Q x.i K a w)
  (hb:dM 0 ops.toList=true)(hQ:∀a w,I T' h' [] a w→Q .normal a w):
  ∀(fuel:Nat) (listed:Array Bool) (L:List (xJ×fX)) (T:Nat→V) (h:Nat→rA) (a:Act) (w:World),yg E ops.toList len L T h T' h'→I T h (L.map (·.1)) a w→L.length≤fuel→
   listed.size=ops.size→L.map (·.1.i)=(List.range ops.size).filter (fun i=>!listed.getD i true)→(∀p∈L,ops[p.1.i]?=some p.1.o)→(∀p∈L,p.2.i=p.1.i)→
   L.Pairwise (fun p q=>pY ops.toList (zK ops.toList []) p.2.fp q.2.fp=true)→
   (∀j o,listed.getD j false=true→ops[j]?=some o→∀d∈dj o,listed.getD d false=true)→
   wpAny P .any ops Q fuel listed a w:=by
 intro fuel;induction fuel with
 |zero=>
  intro listed L T h a w ht hI hlen hsz hL ho hri hpw hcl;have:L=[]:=List.length_eq_zero_iff.mp (by omega);subst this;obtain⟨rfl,rfl⟩:=ht;refine⟨?_,hQ a w hI⟩;rw[List.eq_nil_iff_forall_not_mem];intro j hj;rw[mem_ready]at hj;obtain⟨h0,o,hjo,_⟩:=hj;have hjl:j<ops.size:=(e0.mp hjo).1;have:j∈(List.range ops.size).filter (fun i=>!listed.getD i true):=by simp only[hW,m0];exact⟨hjl,by rw[h0];rfl⟩
  rw[←hL]at this;simp at this
 |succ fuel ih=>
  intro listed L T h a w ht hI hlen hsz hL ho hri hpw hcl;refine⟨fun hr=>?_,fun i hi=>?_⟩
  ·cases L with
   |nil=>obtain⟨rfl,rfl⟩:=ht;exact hQ a w hI
   |cons p L=>
    exfalso;have hpo:=ho p (by simp);have hpl:p.1.i<ops.size:=(e0.mp hpo).1;have hin:p.1.i∈(List.range ops.size).filter (fun i=>!listed.getD i true):=by rw[←hL];simp
    simp only[hW,m0,hY]at hin;have hfirst:∀j,j<p.1.i→listed.getD j true=true:=by
     intro j hj;cases hc:listed.getD j true with
     |true=>rfl
     |false=>
      exfalso;have hm:j∈(p::L).map (·.1.i):=by rw[hL];simp only[hW,m0];exact⟨by omega,by rw[hc];rfl⟩
      have hsorted:((p::L).map (·.1.i)).Pairwise (· < ·):=by rw[hL];exact List.Pairwise.filter _ List.pairwise_lt_range
      simp only[xK,z1,cD]at hsorted hm;rcases hm with rfl|hm
      ·omega
      ·have:=hsorted.1 j hm;omega
    have hrd:p.1.i∈Region.ready .any ops listed:=by rw[mem_ready];refine⟨hin.2,p.1.o,hpo,fun e he hbe=>?_⟩;have hlt:e.on<0+p.1.i:=iQ _ _ hb p.1.i p.1.o (by simpa using hpo) e.on (ka.mpr ⟨e,he,hbe,rfl⟩);exact bW (by omega) (hfirst e.on (by omega))
    rw[hr]at hrd;cases hrd
  ·have hi':=hi;rw[mem_ready]at hi;obtain⟨h0,o,hio,hdeps⟩:=hi;have hil:i<ops.size:=(e0.mp hio).1;have hm:i∈L.map (·.1.i):=by rw[hL];simp only[hW,m0];exact⟨hil,by rw[h0];rfl⟩
   obtain⟨p,hpL,hpi⟩:=y2.mp hm;obtain⟨L1,L2,rfl⟩:=List.append_of_mem hpL;have hpo:=ho p hpL;have hd':∀d∈dj o,listed.getD d false=true:=fun d hd=>by obtain⟨e,he,hbe,rfl⟩:=ka.mp hd;exact hdeps e he hbe
   have hbef:∀x,((zK ops.toList []).getD i 0).testBit x=true→listed.getD x false=true:=
    dc (all:=ops.toList) (S:=fun j=>listed.getD j false=true) (fun j o hj hjo=>hcl j o hj (by simpa using hjo)) ops.toList [] (by simp) (by simp) (fun j o hj=>by simp at hj) i o (by simpa using hio) hd'
   have hap:∀q∈L1,ym ops.toList q.1 p.1 q.2 p.2:=by
    intro q hq;have hind:pY ops.toList (zK ops.toList []) q.2.fp p.2.fp=true:=by rw[j1]at hpw;exact hpw.2.2 q hq p (by simp)
    have hqL:q∈L1++p::L2:=by simp[hq]
    have hqu:listed.getD q.1.i true=false:=by have:q.1.i∈(L1++p::L2).map (·.1.i):=x1 hqL;rw[hL]at this;simp only[hW,hY]at this;exact this.2
    simp only[pY,fX.fp]at hind;rw[hri q hqL,hri p hpL,hpi,d3,zA,zA,zA]at hind;rcases hind with hind|⟨⟨⟨h1,h2⟩,h3⟩,h4⟩
    ·have:=aW (hbef _ hind);rw[hqu]at this;cases this
    ·have e1:ops.toList.getD q.1.i default=q.1.o:=by rw[iA];have:=ho q hqL;simp[this]
     have e2:ops.toList.getD i default=p.1.o:=by rw[←hpi,iA];simp[hpo]
     rw[e1,e2]at h1 h2;simp only[yx,zA]at h1;refine⟨fun d hd=>?_,fun d hd he=>?_,fun d hd=>?_,((d3 _ _).mp h2).imp vP.mp id,vP.mp h3,vP.mp h4⟩
     ·have:=h1.1;rw[hd]at this;simp only[zA]at this;exact jL.mp this.1
     ·have:=h1.1;rw[hd]at this;simp only[zA]at this;exact jL.mp this.2 (by simp[he])
     ·have:=h1.2;rw[hd]at this;exact jL.mp this
   obtain⟨hc,ht'⟩:=yg.front L1 T h ht hap;rw[←hpi];refine hstep T h (L1.map (·.1)) p.1 (L2.map (·.1)) p.2 a w _ hc (by simpa using hI) hpo (fun a' w' hI'=>?_);refine ih _ (L1++L2) _ _ a' w' ht' (by simpa using hI') (by simp at hlen⊢;omega) (by simpa using hsz) ?_ ?_ ?_ ?_ ?_
   ·have hnd:((L1++p::L2).map (·.1.i)).Nodup:=by rw[hL];exact(List.nodup_range).filter _
    have hf:((List.range ops.size).filter fun j=>!(listed.setIfInBounds p.1.i true).getD j true)=(((List.range ops.size).filter fun j=>!listed.getD j true).filter fun j=>j != p.1.i):=by
     rw[List.filter_filter];refine List.filter_congr (fun j hj=>?_);by_cases hji:j=p.1.i
     ·subst hji;have:(listed.setIfInBounds p.1.i true).getD p.1.i true=true:=by
       rw[zB,Array.getElem?_setIfInBounds_self];split<;>rfl
      rw[this];simp
     ·rw[getD_set_ne true (Ne.symm hji)];simp[hji]
    rw[hf,←hL];simp only[i3,xK,List.filter_append,List.filter_cons,bne_self_eq_false,Bool.false_eq_true,if_false];simp only[i3,xK,List.nodup_append,i1,cD]at hnd;obtain⟨_,⟨hn1,_⟩,hn2⟩:=hnd;rw[w1.mpr,w1.mpr]
    ·intro x hx;simp only[bne_iff_ne,ne_eq];rintro rfl;exact hn1 hx
    ·intro x hx;simp only[bne_iff_ne,ne_eq];rintro rfl;exact hn2 _ hx _ (.inl rfl) rfl
   ·intro q hq;refine ho q ?_;simp only[aE,cD]at hq⊢;rcases hq with h|h<;>simp[h]
   ·intro q hq;refine hri q ?_;simp only[aE,cD]at hq⊢;rcases hq with h|h<;>simp[h]
   ·exact hpw.sublist (List.Sublist.append_left (m3 _ _) _)
   ·intro j oj hj hoj d hd;by_cases hji:j=p.1.i
    ·subst hji;rw[hpi,hio]at hoj;simp only[Option.some.injEq]at hoj;subst hoj;exact getD_set_true (hd' d hd)
    ·rw[getD_set_ne false (Ne.symm hji)]at hj;exact getD_set_true (hcl j oj hj hoj d hd)
theorem Cu (I:(Nat→V)→(Nat→rA)→List xJ→Act→World→Prop){T':Nat→V}{h':Nat→rA}
  (hstep:∀T h pre x post r a w K,jH E ops.toList len x T h r→I T h (pre++x::post) a w→ops[x.i]?=some x.o→(∀a' w',I (mI T x.o.dst r.v) (aF h r.ups) (pre++post) a' w'→K a' w')→wpOp P ops Q x.i K a w)
  (hQ:∀a w,I T' h' [] a w→Q .normal a w):
  ∀(L:List (xJ×fX)) (T:Nat→V) (h:Nat→rA) (a:Act) (w:World),yg E ops.toList len L T h T' h'→I T h (L.map (·.1)) a w→(∀p∈L,ops[p.1.i]?=some p.1.o)→wpOps P ops Q (L.map (·.1.i)) a w:=by
 intro L;induction L with
 |nil=>intro T h a w ht hI ho;obtain⟨rfl,rfl⟩:=ht;exact hQ a w hI
 |cons p L ih=>intro T h a w ht hI ho;simp only[xK];rw[wpOps_cons];exact hstep T h [] p.1 (L.map (·.1)) p.2 a w _ ht.1 (by simpa using hI) (ho p (by simp)) (fun a' w' hI'=>ih _ _ a' w' ht.2 (by simpa using hI') (fun q hq=>ho q (by simp[hq])))
end
end
mutual
theorem pA.avoid {ρ:pD}{M M':Nat→Prop}{w:World}(hM:∀b,M' b→M b):∀(x:V) (v:Value),pA ρ M w x v→pA ρ M' w x v
 | .c _,_,h=>by simpa only[pA]using h
 | .poison,_,_=>by simp only[pA]
 | .ptr _ _ _,_,h=>by simpa only[pA]using h
 | .sw _ _,_,h=>by simpa only[pA]using h
 | .sl _ _ _ _,_,h=>by simpa only[pA]using h
 | .mref _,_,h=>by simpa only[pA]using h
 | .il _ _ _,_,h=>by
  simp only[pA]at h⊢;obtain⟨h0,h1,h2|⟨b,o,cap,h2,h3,h4,h5,h6⟩⟩:=h
  ·exact⟨h0,h1,.inl h2⟩
  ·exact⟨h0,h1,.inr ⟨b,o,cap,h2,h3,h4,fun hm=>h5 (hM b hm),h6⟩⟩
 | .iv _ _,_,h=>by
  simp only[pA]at h⊢;obtain⟨h0,h2|⟨b,o,cap,h2,h3,h4,h5,h7⟩⟩:=h
  ·exact⟨h0,.inl h2⟩
  ·exact⟨h0,.inr ⟨b,o,cap,h2,h3,h4,fun hm=>h5 (hM b hm),h7⟩⟩
 | .ilp _ _ _ _,_,h=>by simp only[pA]at h⊢;obtain⟨b,o,h2,h3,h4,h5,h6⟩:=h;exact⟨b,o,h2,h3,h4,fun hm=>h5 (hM b hm),h6⟩
 | .ivp _ _ _ _,_,h=>by simp only[pA]at h⊢;obtain⟨b,o,h2,h3,h4,h5,h7⟩:=h;exact⟨b,o,h2,h3,h4,fun hm=>h5 (hM b hm),h7⟩
 | .agg cs,_,h=>by simp only[pA]at h⊢;obtain⟨vs,h1,h2⟩:=h;exact⟨vs,h1,lA.avoid hM cs _ h2⟩
 | .tup cs,_,h=>by simp only[pA]at h⊢;obtain⟨vs,h1,h2⟩:=h;exact⟨vs,h1,lA.avoid hM cs _ h2⟩
 | .fn _ a c,_,h=>by simp only[pA]at h⊢;obtain⟨va,vc,h1,h2,h3⟩:=h;exact⟨va,vc,h1,lA.avoid hM a _ h2,lA.avoid hM c _ h3⟩
theorem lA.avoid {ρ:pD}{M M':Nat→Prop}{w:World}(hM:∀b,M' b→M b):∀(x:List V) (v:List Value),lA ρ M w x v→lA ρ M' w x v
 | [],[],_=>by simp only[lA]
 |x::xs,v::vs,h=>by simp only[lA]at h⊢;exact⟨pA.avoid hM x v h.1,lA.avoid hM xs vs h.2⟩
 | [],_::_,h=>by simp only[lA]at h
 |_::_,[],h=>by simp only[lA]at h
end
mutual
theorem pA.ren {ρ ρ':pD}{M M':Nat→Prop}{w:World}{m:Nat→Option Nat}(hm:∀i j p,m i=some j→ρ i=some p→ρ' j=some p):∀(x:V) (v:Value),((∀b,M' b→M b)∨rG x=true)→pA ρ M w x v→pA ρ' M' w (H9 m x) v
 | .c _,_,_,h=>by simpa only[pA,Ev.H9]using h
 | .poison,_,_,_=>by simp only[pA,Ev.H9]
 | .ptr id _ _,_,_,h=>by
  simp only[Ev.H9];cases hid:m id with
  |none=>simp only[pA]
  |some j=>simp only[pA]at h⊢;obtain⟨b,n,C,h1,h2,h3⟩:=h;exact⟨b,n,C,hm _ _ _ hid h1,h2,h3⟩
 | .sw id _,_,_,h=>by
  simp only[Ev.H9];cases hid:m id with
  |none=>simp only[pA]
  |some j=>
   simp only[pA]at h⊢;obtain⟨h0,⟨b,n,C,cap,h1,h2⟩|⟨h1,h2⟩⟩:=h
   ·exact⟨h0,.inl ⟨b,n,C,cap,hm _ _ _ hid h1,h2⟩⟩
   ·exact⟨h0,.inr ⟨hm _ _ _ hid h1,h2⟩⟩
 | .sl id _ _ _,_,_,h=>by
  simp only[Ev.H9];cases hid:m id with
  |none=>simp only[pA]
  |some j=>
   simp only[pA]at h⊢;obtain⟨h0,⟨b,n,C,cap,h1,h2⟩|⟨h1,h2⟩⟩:=h
   ·exact⟨h0,.inl ⟨b,n,C,cap,hm _ _ _ hid h1,h2⟩⟩
   ·exact⟨h0,.inr ⟨h1,h2⟩⟩
 | .mref id,_,_,h=>by
  simp only[Ev.H9];cases hid:m id with
  |none=>simp only[pA]
  |some j=>simp only[pA]at h⊢;obtain⟨b,h1,h2⟩:=h;exact⟨b,hm _ _ _ hid h1,h2⟩
 | .il k s l,v,hM,h=>by
  simp only[Ev.H9];rcases hM with hM|hM
  ·have:=pA.avoid hM _ _ h;simpa only[pA]using this
  ·simp[rG]at hM
 | .iv s l,v,hM,h=>by
  simp only[Ev.H9];rcases hM with hM|hM
  ·have:=pA.avoid hM _ _ h;simpa only[pA]using this
  ·simp[rG]at hM
 | .ilp k l off ext,v,hM,h=>by
  simp only[Ev.H9];rcases hM with hM|hM
  ·have:=pA.avoid hM _ _ h;simpa only[pA]using this
  ·simp[rG]at hM
 | .ivp l i off ext,v,hM,h=>by
  simp only[Ev.H9];rcases hM with hM|hM
  ·have:=pA.avoid hM _ _ h;simpa only[pA]using this
  ·simp[rG]at hM
 | .agg cs,_,hM,h=>by simp only[pA,Ev.H9]at h⊢;obtain⟨vs,h1,h2⟩:=h;exact⟨vs,h1,lA.ren hm cs _ (by simpa only[rG]using hM) h2⟩
 | .tup cs,_,hM,h=>by simp only[pA,Ev.H9]at h⊢;obtain⟨vs,h1,h2⟩:=h;exact⟨vs,h1,lA.ren hm cs _ (by simpa only[rG]using hM) h2⟩
 | .fn _ a c,_,hM,h=>by simp only[pA,Ev.H9]at h⊢;obtain⟨va,vc,h1,h2,h3⟩:=h;exact⟨va,vc,h1,lA.ren hm a _ (hM.imp id (fun h=>by simp only[rG,zA]at h;exact h.1)) h2,lA.ren hm c _ (hM.imp id (fun h=>by simp only[rG,zA]at h;exact h.2)) h3⟩
theorem lA.ren {ρ ρ':pD}{M M':Nat→Prop}{w:World}{m:Nat→Option Nat}(hm:∀i j p,m i=some j→ρ i=some p→ρ' j=some p):∀(x:List V) (v:List Value),((∀b,M' b→M b)∨qN x=true)→lA ρ M w x v→lA ρ' M' w (pU m x) v
 | [],[],_,_=>by simp only[lA,pU]
 |x::xs,v::vs,hM,h=>by simp only[lA,pU]at h⊢;exact⟨pA.ren hm x v (hM.imp id (fun h=>by simp only[qN,zA]at h;exact h.1)) h.1,lA.ren hm xs vs (hM.imp id (fun h=>by simp only[qN,zA]at h;exact h.2)) h.2⟩
 | [],_::_,_,h=>by simp only[lA]at h
 |_::_,[],_,h=>by simp only[lA]at h
end
theorem pV (m:Nat→Option Nat):∀l:List V,(pU m l).length=l.length
 | []=>rfl
 |_::r=>by simp[pU,pV m r]
theorem oB.ren {ρ ρ':pD}{M M':Nat→Prop}{w:World}{m:Nat→Option Nat}(hm:∀i j p,m i=some j→ρ i=some p→ρ' j=some p){p:Pl}{x:rA}(hM:(∀b,M' b→M b)∨lK x=true)(h:oB ρ M w p x):oB ρ' M' w p (wL m x):=by
 cases x with
 |dead=>trivial
 |ints k l=>exact h
 |mp k n ks vs=>exact h
 |it mid tE rem cur=>
  obtain⟨h1,h2,b,mb,seen,h4,h5,h6,h7⟩:=h;refine⟨h1,h2,b,mb,seen,h4,h5,fun i hi=>?_,h7⟩;cases mid with
  |none=>cases hi
  |some j=>exact hm j i _ hi (h6 j rfl)
 |vals cs=>
  obtain⟨h1,⟨h2,h3,h4⟩|⟨b,c,h2,h3,h4,h5⟩⟩:=h
  ·subst h3;exact⟨h1,.inl ⟨h2,rfl,h4⟩⟩
  ·exact⟨by rw[pV];exact h1,.inr ⟨b,c,h2,h3,h4,lA.ren hm _ _ (by simpa only[lK]using hM) h5⟩⟩
theorem oU {m:Nat→Option Nat}{x:rA}:(wL m x).live↔x.live:=by cases x<;>simp[wL,rA.live]
def jT (F:Nat→Prop)(ρ:pD)(bs:List rA)(w:World)(v:V)(bs':List rA)(v':Value)(w':World):Prop:=
 ∃ρ',(∀id,id<bs.length→ρ' id=ρ id)∧(∀id,bs'.length≤id→ρ' id=none)∧mA F ρ' (nA bs') w'∧pA ρ' (av F (jA ρ' (nA bs'))) w' v v'∧yH (jA ρ (nA bs)) w (jA ρ' (nA bs')) w'
def nO (P:Program)(f:Nat):Prop:=∃fn,P.funcs[f]?=some fn∧fn.body.isNone=false∧(fn.name== "runtime.NumGoroutine")=false
structure fA (P:Program)(f:Nat)(args:List V)(bs:List rA)(v:V)(bs':List rA):Prop where
 callable:nO P f
 calls:∀F ρ w args',mA F ρ (nA bs) w→(∀id,bs.length≤id→ρ id=none)→lA ρ (av F (jA ρ (nA bs))) w args args'→
  Calls P f args'.toArray w fun e w'=>∃v',e= .returned v'∧jT F ρ bs w v bs' v' w'
def wK (P:Program)(tab:Nat→Option xA):Prop:=∀f e,tab f=some e→∀args bs a enc,e.dec args bs=some (some a,enc)→fA P f args bs (enc a).pick.1 (enc a).pick.2
theorem uC:∀(bs:List rA) (j:Nat),nA bs j=bs.getD j .dead
 | [],_=>by simp[nA]
 |_::_,0=>by simp[nA]
 |b::r,j+1=>by simp[nA,uC r j]
theorem tR:∀(bs:List rA) (n:Nat),m9 bs n=bs.drop n
 |_,0=>by simp[m9]
 | [],_+1=>by simp[m9]
 |_::r,n+1=>by simp[m9,tR r n]
theorem v8 {m:Nat→Option Nat}(bs:List rA)(j:Nat):nA (bs.map (wL m)) j=wL m (nA bs j):=by
 rw[uC,uC];simp only[iA,a0];cases bs[j]?<;>rfl
theorem yd {h:Nat→rA}{nid:Nat}{bs:List rA}{id:Nat}(h1:nid≤id)(h2:id<nid+bs.length):aF h (bP nid bs) id=nA bs (id-nid):=by
 induction bs generalizing h nid with
 |nil=>simp at h2;omega
 |cons b r ih=>
  simp only[bP,aF];by_cases he:id=nid
  ·subst he;rw[rC (fun hm=>by rw[mS]at hm;simp at hm;omega),if_pos rfl];simp[nA]
  ·rw[ih (by omega) (by simp at h2;omega)];have:id-nid=(id- (nid+1))+1:=by omega
   rw[this];rfl
theorem Ba {nid:Nat}{bs:List rA}{id:Nat}(h:¬(nid≤id∧id<nid+bs.length)):id∉(bP nid bs).map (·.1):=by
 rw[mS];simp;intro x hx;omega
theorem iT:∀(σ:List Nat) (bs:List rA) (i:Nat),i∈(n8 σ bs).map (·.1)→i∈σ
 | [],_,i,h=>by simp[n8]at h
 |_::_,[],i,h=>by simp[n8]at h
 |j::r,b::s,i,h=>by simp only[n8,xK,cD]at h⊢;exact h.imp id (iT r s i)
theorem fZ:∀(σ:List Nat),nodup σ=true→σ.Nodup
 | [],_=>List.nodup_nil
 |i::r,h=>by simp only[nodup,zA]at h;exact i1.mpr ⟨jL.mp h.1,fZ r h.2⟩
theorem ck:∀(σ:List Nat) (bs:List rA) (h:Nat→rA) (j i:Nat),σ.Nodup→σ.length≤bs.length→σ[j]?=some i→aF h (n8 σ bs) i=nA bs j
 | [],_,_,_,_,_,_,hi=>by simp at hi
 |x::r,[],_,_,_,_,hl,_=>by simp at hl
 |x::r,b::s,h,0,i,hn,hl,hi=>by simp at hi;subst hi;simp only[n8,aF];rw[rC (fun hm=>(i1.mp hn).1 (iT _ _ _ hm)),if_pos rfl];rfl
 |x::r,b::s,h,j+1,i,hn,hl,hi=>by simp only[n8,aF];rw[ck r s _ j i (i1.mp hn).2 (by simpa using hl) (by simpa using hi)];rfl
theorem ce:∀(τ:List Nat) (h:Nat→rA) (i:Nat),i∈τ→aF h (τ.map fun i=>(i,rA.dead)) i= .dead
 |x::r,h,i,hi=>by
  simp only[xK,aF];by_cases hr:i∈r
  ·exact ce r _ i hr
  ·rw[rC (by simpa[Function.comp_def]using hr)];rcases cD.mp hi with rfl|hi
   ·rw[if_pos rfl]
   ·exact absurd hi hr
theorem mZ:∀(σ:List Nat) (i n j:Nat),rH i σ n=some j→n≤j∧σ[j-n]?=some i
 | [],i,n,j,h=>by simp[rH]at h
 |x::r,i,n,j,h=>by
  simp only[rH]at h;cases hb:Nat.beq x i<;>rw[hb]at h<;>simp only[cond_true,cond_false]at h
  ·obtain⟨h1,h2⟩:=mZ r i (n+1) j h;refine⟨by omega,?_⟩;have:j-n=(j- (n+1))+1:=by omega
   rw[this];simpa using h2
  ·simp only[Option.some.injEq]at h;subst h;have:=rB hb;subst this;simp
theorem iZ {σ:List Nat}{nid j i:Nat}(h:σ[j]?=some i):qH σ nid j=some i:=by unfold qH;rw[h]
theorem hZ {σ:List Nat}{nid j:Nat}(h:σ.length≤j):qH σ nid j=some (nid+(j-σ.length)):=by unfold qH;rw[hD h]
section
variable {P:Program}{F:Nat→Prop}{ρ:pD}{h:Nat→rA}{w:World}{nid:Nat}
mutual
theorem sz (hh:mA F ρ h w){Ml:Nat→Prop}(hM:∀b,Ml b→av F (jA ρ h) b):∀(v:V) (u:Value),(∀id∈(bI h v).2,∀b n C,ρ id=some ⟨some b,n,C⟩→(h id).live→¬Ml b)→pA ρ (av F (jA ρ h)) w v u→pA ρ Ml w (bI h v).1 u
 | .sw id s,u,hτ,hr=>by
  unfold bI at hτ⊢;split at hτ
  ·rename_i k l hid;have hl:(h id).live:=by rw[hid];trivial
   obtain⟨h0,⟨b,n,C,cap,c,h1,h2,h3,h4,h5,ho,hsz,hold⟩|⟨h1,h2,hk⟩⟩:=uG hh hr hl (by rw[hid];trivial)
   ·rw[hid]at hold;obtain⟨e1,e2,e3⟩:=hold;simp only[pA];refine⟨h0,by rw[e1];exact h2,.inr ⟨b,0,cap,by rw[e1];exact h5,by rw[e1];exact h3,ho.lt,hτ id (by simp) b n C h1 hl,fun j hj=>?_⟩⟩;rw[z2,ho.cell];exact e3 j hj
   ·rw[hid]at hk;rcases hk with⟨k2,hk⟩|hk<;>cases hk;simp only[pA];exact⟨h0,by simp,.inl ⟨trivial,none,h2⟩⟩
  ·exact pA.avoid hM _ _ hr
 | .sl id s off len,u,hτ,hr=>by
  unfold bI at hτ⊢;split at hτ
  ·rename_i k l hid;have hl:(h id).live:=by rw[hid];trivial
   simp only[pA]at hr⊢;obtain⟨h0,⟨b,n,C,cap,h1,h2,h3,h4,h5⟩|⟨h1,a,h2⟩⟩:=hr
   ·obtain⟨c,ho,hsz,hold⟩:=hh.own hl (by rw[hid];trivial) h1;rw[hid]at hold;obtain⟨e1,e2,e3⟩:=hold;have hlen:((l.drop off).take (qG s len)).length=len*s:=by rw[yB];simp;omega
    rw[hlen];refine⟨h0,Nat.mul_mod_left _ _,.inr ⟨b,off,cap,by rw[i0 _ h0];exact h5,by rw[i0 _ h0];exact h3,ho.lt,hτ id (by simp) b n C h1 hl,fun j hj=>?_⟩⟩;rw[ho.cell,e3 _ (by omega)];congr 2;simp only[iA];rw[v2 (by rw[yB];omega),y1]
   ·subst h1;have:(l.drop off).take (qG s 0)=[]:=by rw[yB];simp
    rw[this];exact⟨h0,by simp,.inl ⟨rfl,a,h2⟩⟩
  ·exact pA.avoid hM _ _ hr
 | .agg cs,u,hτ,hr=>by unfold bI at hτ⊢;simp only[pA]at hr⊢;obtain⟨vs,h1,h2⟩:=hr;exact⟨vs,h1,sy hh hM cs _ hτ h2⟩
 | .c _,u,_,hr=>by simp only[bI];exact pA.avoid hM _ _ hr
 | .poison,u,_,hr=>by simp only[bI];exact pA.avoid hM _ _ hr
 | .ptr _ _ _,u,_,hr=>by simp only[bI];exact pA.avoid hM _ _ hr
 | .mref _,u,_,hr=>by simp only[bI];exact pA.avoid hM _ _ hr
 | .il _ _ _,u,_,hr=>by simp only[bI];exact pA.avoid hM _ _ hr
 | .iv _ _,u,_,hr=>by simp only[bI];exact pA.avoid hM _ _ hr
 | .ilp _ _ _ _,u,_,hr=>by simp only[bI];exact pA.avoid hM _ _ hr
 | .ivp _ _ _ _,u,_,hr=>by simp only[bI];exact pA.avoid hM _ _ hr
 | .tup _,u,_,hr=>by simp only[bI];exact pA.avoid hM _ _ hr
 | .fn _ _ _,u,_,hr=>by simp only[bI];exact pA.avoid hM _ _ hr
theorem sy (hh:mA F ρ h w){Ml:Nat→Prop}(hM:∀b,Ml b→av F (jA ρ h) b):∀(xs:List V) (us:List Value),(∀id∈(bU h xs).2,∀b n C,ρ id=some ⟨some b,n,C⟩→(h id).live→¬Ml b)→lA ρ (av F (jA ρ h)) w xs us→lA ρ Ml w (bU h xs).1 us
 | [],[],_,_=>by simp only[bU,lA]
 |x::xs,u::us,hτ,hr=>by unfold bU at hτ⊢;simp only[lA]at hr⊢;exact⟨sz hh hM x u (fun id hid=>hτ id (x0 _ hid)) hr.1,sy hh hM xs us (fun id hid=>hτ id (r0 _ hid)) hr.2⟩
 | [],_::_,_,hr=>by simp only[lA]at hr
 |_::_,[],_,hr=>by simp only[lA]at hr
end
theorem vQ (hh:mA F ρ h w){Ml:Nat→Prop}(hM:∀b,Ml b→av F (jA ρ h) b):∀(bs:List Bool) (xs:List V) (us:List Value),(∀id∈(rD h bs xs).2,∀b n C,ρ id=some ⟨some b,n,C⟩→(h id).live→¬Ml b)→lA ρ (av F (jA ρ h)) w xs us→lA ρ Ml w (rD h bs xs).1 us
 | [],xs,us,_,hr=>by simp only[rD];exact lA.avoid hM _ _ hr
 |true::bs,[],us,_,hr=>by simp only[rD];exact lA.avoid hM _ _ hr
 |false::bs,[],us,_,hr=>by simp only[rD];exact lA.avoid hM _ _ hr
 |_::_,_::_,[],_,hr=>by simp only[lA]at hr
 |true::bs,x::xs,u::us,hτ,hr=>by unfold rD at hτ⊢;simp only[lA]at hr⊢;exact⟨sz hh hM x u (fun id hid=>hτ id (x0 _ hid)) hr.1,vQ hh hM bs xs us (fun id hid=>hτ id (r0 _ hid)) hr.2⟩
 |false::bs,x::xs,u::us,hτ,hr=>by unfold rD at hτ⊢;simp only[lA]at hr⊢;exact⟨pA.avoid hM _ _ hr.1,vQ hh hM bs xs us hτ hr.2⟩
end
section
variable {P:Program}{F:Nat→Prop}{ρ:pD}{h:Nat→rA}{w:World}{nid:Nat}
def Fd (F:Nat→Prop)(ρ:pD)(h:Nat→rA)(w:World)(nid:Nat)(out:iH)(v:Value)(w':World)(ρ':pD):Prop:=
 oO ρ ρ'∧(∀id,(id<nid∨nid+out.new.length≤id)→ρ' id=ρ id)∧
  mA F ρ' (rN h nid out) w'∧pA ρ' (av F (jA ρ' (rN h nid out))) w' out.val v∧yH (jA ρ h) w (jA ρ' (rN h nid out)) w'
theorem D6 (hh:mA F ρ h w){σ τ:List Nat}{v0:V}{bs0:List rA}(hn:∀id,nid≤id→id<nid+(bs0.length-σ.length)→ρ id=none)
  (hσ:σ.Nodup)(hle:σ.length≤bs0.length)(hdis:∀j∈σ,j∉τ)
  {ρ0:pD}{h0:Nat→rA}(hρ0:∀j i,σ[j]?=some i→ρ0 j=ρ i)(hρ0':∀j,σ.length≤j→ρ0 j=none)(hl0:∀j i,σ[j]?=some i→((h0 j).live↔(h i).live))(hl0':∀j,σ.length≤j→¬(h0 j).live)
  {Fl:Nat→Prop}(hFl:∀b,av F (jA ρ h) b→(∀id∈σ++τ,∀n C,ρ id=some ⟨some b,n,C⟩→¬(h id).live)→Fl b)
  {v':Value}{w':World}{ρ':pD}(hr1:∀j,j<σ.length→ρ' j=ρ0 j)(hr2:∀j,bs0.length≤j→ρ' j=none)
  (hH:mA Fl ρ' (nA bs0) w')(hv:pA ρ' (av Fl (jA ρ' (nA bs0))) w' v0 v')(he:yH (jA ρ0 h0) w (jA ρ' (nA bs0)) w'):
  ∃ρc,Fd F ρ h w nid (gG σ τ nid v0 bs0) v' w' ρc:=by
 let on:=qH σ nid
 let ρc:pD:=fun id=>if nid≤id∧id<nid+(bs0.length-σ.length)then ρ' (σ.length+(id-nid))else ρ id
 have hnew:(gG σ τ nid v0 bs0).new.length=bs0.length-σ.length:=by simp[gG,tR]
 generalize hout:gG σ τ nid v0 bs0=out at*;have hwr:out.wr=n8 σ (bs0.map (wL on))++(bif rG v0&&bs0.all lK then []else τ.map fun i=>(i,.dead)):=by subst hout;rfl
 have hnw:out.new=(bs0.map (wL on)).drop σ.length:=by subst hout;simp[gG,tR];rfl
 have hval:out.val=H9 on v0:=by subst hout;rfl
 have H1:∀id,nid≤id→id<nid+(bs0.length-σ.length)→rN h nid out id=wL on (nA bs0 (σ.length+(id-nid))):=by intro id h1 h2;rw[fq,aJ,yd h1 (by rw[hnew];exact h2),hnw,←v8];rw[uC,uC];simp only[iA,y1]
 have Hx:∀id,¬(nid≤id∧id<nid+(bs0.length-σ.length))→rN h nid out id=aF h out.wr id:=by intro id hid;rw[fq,aJ,rC (Ba (by rw[hnew];exact hid))]
 have H2:∀id j,¬(nid≤id∧id<nid+(bs0.length-σ.length))→σ[j]?=some id→rN h nid out id=wL on (nA bs0 j):=by intro id j hid hj;have hm:id∈σ:=hP hj;rw[Hx id hid,hwr,aJ,rC,ck σ _ h j id hσ (by simpa using hle) hj,v8];intro hx;cases hc:(rG v0&&bs0.all lK)<;>rw[hc]at hx<;>simp only[cond_true,cond_false,List.map_nil,p0]at hx;simp at hx;exact hdis id hm hx
 have H4:∀id,¬(nid≤id∧id<nid+(bs0.length-σ.length))→id∉σ→(rN h nid out id).live→rN h nid out id=h id∧(id∈τ→(rG v0&&bs0.all lK)=true):=by
  intro id hid hm hl;rw[Hx id hid,hwr,aJ]at hl⊢;cases hc:(rG v0&&bs0.all lK)<;>rw[hc]at hl<;>simp only[cond_true,cond_false]at hl⊢
  ·have hτ:id∉τ:=by
    intro hτ;rw[ce _ _ _ hτ]at hl;exact hl
   rw[rC (by simpa[Function.comp_def]using hτ),rC (fun hx=>hm (iT _ _ _ hx))];exact⟨rfl,fun hx=>absurd hx hτ⟩
  ·simp only[aF];rw[rC (fun hx=>hm (iT _ _ _ hx))];exact⟨rfl,fun _=>trivial⟩
 have hliveM:∀b,jA ρ0 h0 b→∃i∈σ,∃n C,ρ i=some ⟨some b,n,C⟩∧(h i).live:=by
  rintro b ⟨j,n,C,h1,h2⟩;rcases hU j σ.length with hj|hj
  ·have hi:=hC hj;rw[hρ0 j _ hi]at h1;exact⟨_,hP hi,n,C,h1,(hl0 j _ hi).mp h2⟩
  ·exact absurd h2 (hl0' j hj)
 have hliveM':∀b,jA ρ0 h0 b→jA ρ h b:=fun b hb=>by obtain⟨i,_,n,C,h1,h2⟩:=hliveM b hb;exact⟨i,n,C,h1,h2⟩
 have hρc1:∀id,nid≤id→id<nid+(bs0.length-σ.length)→ρc id=ρ' (σ.length+(id-nid)):=fun id h1 h2=>if_pos ⟨h1,h2⟩;have hρc2:∀id,¬(nid≤id∧id<nid+(bs0.length-σ.length))→ρc id=ρ id:=fun id h1=>if_neg h1;have src:∀id,(rN h nid out id).live→(∃j,j<bs0.length∧on j=some id∧rN h nid out id=wL on (nA bs0 j)∧ρc id=ρ' j∧(nA bs0 j).live)∨
   (id∉σ∧rN h nid out id=h id∧ρc id=ρ id∧(h id).live∧(id∈τ→(rG v0&&bs0.all lK)=true)):=by
  intro id hl;by_cases hr:nid≤id∧id<nid+(bs0.length-σ.length)
  ·refine .inl ⟨σ.length+(id-nid),by omega,?_,H1 id hr.1 hr.2,hρc1 id hr.1 hr.2,?_⟩
   ·show qH σ nid _=_;rw[hZ (by omega)];congr 1;omega
   ·rw[H1 id hr.1 hr.2]at hl;exact oU.mp hl
  ·by_cases hm:id∈σ
   ·obtain⟨j,hj,hij⟩:=List.mem_iff_getElem.mp hm;have hj':σ[j]?=some id:=by rw[hC hj,hij]
    refine .inl ⟨j,by omega,iZ hj',H2 id j hr hj',?_,?_⟩
    ·rw[hρc2 id hr,hr1 j hj,hρ0 j id hj']
    ·rw[H2 id j hr hj']at hl;exact oU.mp hl
   ·obtain⟨h1,h2⟩:=H4 id hr hm hl;exact .inr ⟨hm,h1,hρc2 id hr,h1▸hl,h2⟩
 have hren:∀j i p,on j=some i→ρ' j=some p→ρc i=some p:=by
  intro j i p hj hp;have hjl:j<bs0.length:=by
   rcases hU j bs0.length with h|h
   ·exact h
   ·rw[hr2 j h]at hp;cases hp
  rcases hU j σ.length with hlt|hge
  ·have hi:=hC hlt;have:i=σ[j]:=by have:=iZ (nid:=nid) hi;rw[show qH σ nid j=on j from rfl,hj]at this;exact Option.some.inj this
   subst this;rw[hr1 j hlt,hρ0 j _ hi]at hp;have hnr:¬(nid≤σ[j]∧σ[j]<nid+(bs0.length-σ.length)):=fun hr=>by rw[hn _ hr.1 hr.2]at hp;cases hp
   rw[hρc2 _ hnr];exact hp
  ·have:i=nid+(j-σ.length):=by have:=hZ (nid:=nid) hge;rw[show qH σ nid j=on j from rfl,hj]at this;exact Option.some.inj this
   subst this;rw[hρc1 _ (by omega) (by omega)];have:σ.length+(nid+(j-σ.length)-nid)=j:=by omega
   rw[this];exact hp
 have hsub:oO ρ ρc:=by
  intro id p hp;have hnr:¬(nid≤id∧id<nid+(bs0.length-σ.length)):=fun hr=>by rw[hn _ hr.1 hr.2]at hp;cases hp
  rw[hρc2 id hnr];exact hp
 have hext:yH (jA ρ h) w (jA ρc (rN h nid out)) w':=by
  refine⟨he.size,fun b hb hm=>he.same b hb (fun hx=>hm (hliveM' b hx)),?_,he.keeps⟩;rintro b ⟨id,n,C,h1,h2⟩;rcases src id h2 with⟨j,_,_,_,h3,h4⟩|⟨_,_,h3,h4,_⟩
  ·rw[h3]at h1;exact(he.sub b ⟨j,n,C,h1,h4⟩).imp (hliveM' b) (fun x=>x)
  ·rw[h3]at h1;exact .inl ⟨id,n,C,h1,h4⟩
 have havoid:(rG v0&&bs0.all lK)=true∨∀b,av F (jA ρc (rN h nid out)) b→av Fl (jA ρ' (nA bs0)) b:=by
  cases hc:(rG v0&&bs0.all lK)with
  |true=>exact .inl rfl
  |false=>
   refine .inr (fun b hb=>?_);rcases hb with hb|⟨id,n,C,h1,h2⟩
   ·exact .inl (hFl b (.inl hb) (fun id _ n C hp hl=>hh.out b ⟨id,n,C,hp,hl⟩ hb))
   ·rcases src id h2 with⟨j,_,_,_,h3,h4⟩|⟨hm,_,h3,h4,hτ⟩
    ·rw[h3]at h1;exact .inr ⟨j,n,C,h1,h4⟩
    ·rw[h3]at h1;refine .inl (hFl b (.inr ⟨id,n,C,h1,h4⟩) (fun id' hid' n' C' hp hl=>?_));have:=hh.inj id' id b n' C' n C hl h4 hp h1;subst this;rcases aE.mp hid' with hx|hx
     ·exact hm hx
     ·have:=hτ hx;rw[hc]at this;cases this
 have hav1:∀{x:V},((rG v0&&bs0.all lK)=true→rG x=true)→((∀b,av F (jA ρc (rN h nid out)) b→av Fl (jA ρ' (nA bs0)) b)∨rG x=true):=fun hx=>havoid.elim (fun hc=>.inr (hx hc)) .inl;refine⟨ρc,hsub,fun id hid=>hρc2 id (by rw[hnew]at hid;omega),⟨?_,?_,?_,hh.low' hext,hh.out' hext⟩,?_,hext⟩
 ·intro id p hp;by_cases hr:nid≤id∧id<nid+(bs0.length-σ.length)
  ·rw[hρc1 id hr.1 hr.2]at hp;exact hH.wf _ _ hp
  ·rw[hρc2 id hr]at hp;exact hh.wf _ _ hp
 ·intro id hl;rcases src id hl with⟨j,hjl,h1,h2,h3,h4⟩|⟨hm,h2,h3,h4,_⟩
  ·obtain⟨p,hp,hb⟩:=hH.rel j h4;refine⟨p,by rw[h3];exact hp,?_⟩;rw[h2];refine oB.ren hren ?_ hb;rcases havoid with hc|hc
   ·refine .inr ?_;simp only[zA,yK]at hc;refine hc.2 _ ?_;rw[uC,iA,hC hjl];exact List.getElem_mem hjl
   ·exact .inl hc
  ·obtain⟨p,hp,hb⟩:=hh.rel id h4;refine⟨p,by rw[h3];exact hp,?_⟩;rw[h2];refine oB.mono hsub hext hb (fun b hb'=>?_);obtain⟨pb,pn,pC⟩:=p;dsimp only at hb';subst hb';refine he.same b (jA.lt hh ⟨id,pn,pC,hp,h4⟩) (fun hx=>?_);obtain⟨i,hi,n,C,h5,h6⟩:=hliveM b hx;have:=hh.inj i id b _ _ _ _ h6 h4 h5 hp;subst this;exact hm hi
 ·intro i i' b n C n' C' hi hi' hpi hpi';have cross:∀{j id n C n' C'},(nA bs0 j).live→ρ' j=some ⟨some b,n,C⟩→id∉σ→(h id).live→ρ id=some ⟨some b,n',C'⟩→False:=by
   intro j id n C n' C' h1 h2 h3 h4 h5;rcases he.sub b ⟨j,n,C,h2,h1⟩with hx|hx
   ·obtain⟨i,hi,n2,C2,h6,h7⟩:=hliveM b hx;have:=hh.inj i id b _ _ _ _ h7 h4 h6 h5;subst this;exact h3 hi
   ·have:=jA.lt hh ⟨id,n',C',h5,h4⟩;omega
  rcases src i hi with⟨j,_,h1,_,h3,h4⟩|⟨hm,_,h3,h4,_⟩<;>rcases src i' hi' with⟨j',_,h1',_,h3',h4'⟩|⟨hm',_,h3',h4',_⟩<;>rw[h3]at hpi<;>rw[h3']at hpi'
  ·have:=hH.inj j j' b _ _ _ _ h4 h4' hpi hpi';subst this;rw[h1]at h1';exact Option.some.inj h1'
  ·exact(cross h4 hpi hm' h4' hpi').elim
  ·exact(cross h4' hpi' hm h4 hpi).elim
  ·exact hh.inj i i' b _ _ _ _ h4 h4' hpi hpi'
 ·rw[hval];exact pA.ren hren _ _ (hav1 (fun hc=>by simp only[zA]at hc;exact hc.1)) hv
theorem D8 {tab:Nat→Option xA}(htab:wK P tab)(hh:mA F ρ h w){f:Nat}{args:List V}{vs:List Value}{out:iH}(hc:o8 tab nid f args h out)(hn:∀id,nid≤id→id<nid+out.new.length→ρ id=none)
  (hr:lA ρ (av F (jA ρ h)) w args vs):nO P f∧Calls P f vs.toArray w fun e w'=>∃v' ρ',e= .returned v'∧Fd F ρ h w nid out v' w' ρ':=by
 obtain⟨e,at_,σ,enc,a,h1,h2,h3,h4,h5,h6,h7,h8,h9⟩:=hc;have hS:=htab f e h1 _ _ a enc h4;have hσ:=fZ σ h7;have hdis:∀j∈σ,j∉at_.2:=vP.mp (by rw[h8];rfl)
 let ρ0:pD:=fun j=>match σ[j]? with|some i=>ρ i|none=>none
 let Fl:Nat→Prop:=fun b=>av F (jA ρ h) b∧∀id∈σ++at_.2,∀n C,ρ id=some ⟨some b,n,C⟩→¬(h id).live
 have hρ0:∀j i,σ[j]?=some i→ρ0 j=ρ i:=fun j i hj=>by simp only[ρ0,hj]
 have hρ0':∀j,σ.length≤j→ρ0 j=none:=fun j hj=>by simp only[ρ0,hD hj]
 have hb0:∀j i,σ[j]?=some i→nA (σ.map fun i=>wL (rH · σ 0) (h i)) j=wL (rH · σ 0) (h i):=fun j i hj=>by rw[uC,iA,a0,hj];rfl
 have hb0':∀j,σ.length≤j→nA (σ.map fun i=>wL (rH · σ 0) (h i)) j= .dead:=fun j hj=>by rw[uC,iA,a0,hD hj];rfl
 have hl0:∀j i,σ[j]?=some i→((nA (σ.map fun i=>wL (rH · σ 0) (h i)) j).live↔(h i).live):=fun j i hj=>by rw[hb0 j i hj];exact oU
 have hl0':∀j,σ.length≤j→¬(nA (σ.map fun i=>wL (rH · σ 0) (h i)) j).live:=fun j hj=>by rw[hb0' j hj];exact id
 have hren:∀i j p,rH i σ 0=some j→ρ i=some p→ρ0 j=some p:=fun i j p hj hp=>by have:=(mZ σ i 0 j hj).2;rw[hρ0 j i (by simpa using this)];exact hp
 generalize hbs:(σ.map fun i=>wL (rH · σ 0) (h i))=bs at*;have hlen:bs.length=σ.length:=by subst hbs;simp
 have hlm:∀b,jA ρ0 (nA bs) b→∃i∈σ,∃n C,ρ i=some ⟨some b,n,C⟩∧(h i).live:=by
  rintro b ⟨j,n,C,g1,g2⟩;rcases hU j σ.length with hj|hj
  ·have hi:=hC hj;rw[hρ0 j _ hi]at g1;exact⟨_,hP hi,n,C,g1,(hl0 j _ hi).mp g2⟩
  ·exact absurd g2 (hl0' j hj)
 have hM:∀b,av Fl (jA ρ0 (nA bs)) b→av F (jA ρ h) b:=by
  rintro b (hb|hb)
  ·exact hb.1
  ·obtain⟨i,_,n,C,g1,g2⟩:=hlm b hb;exact .inr ⟨i,n,C,g1,g2⟩
 have hH:mA Fl ρ0 (nA bs) w:=by
  have hex:∀j,(nA bs j).live→∃i,σ[j]?=some i:=fun j hl=>by
   rcases hU j σ.length with hj|hj
   ·exact⟨_,hC hj⟩
   ·exact absurd hl (hl0' j hj)
  refine⟨?_,?_,?_,?_,?_⟩
  ·intro j p hp;rcases hU j σ.length with hj|hj
   ·rw[hρ0 j _ (hC hj)]at hp;exact hh.wf _ _ hp
   ·rw[hρ0' j hj]at hp;cases hp
  ·intro j hl;obtain⟨i,hi⟩:=hex j hl;obtain⟨p,hp,hb⟩:=hh.rel i ((hl0 j i hi).mp hl);refine⟨p,by rw[hρ0 j i hi];exact hp,?_⟩;rw[hb0 j i hi];exact oB.ren hren (.inl hM) hb
  ·intro j j' b n C n' C' hl hl' hp hp';obtain⟨i,hi⟩:=hex j hl;obtain⟨i',hi'⟩:=hex j' hl';rw[hρ0 j i hi]at hp;rw[hρ0 j' i' hi']at hp';have:=hh.inj i i' b _ _ _ _ ((hl0 j i hi).mp hl) ((hl0 j' i' hi').mp hl') hp hp';subst this;have hj:j<σ.length:=(hN.mp hi).1;exact(List.getElem?_inj hj hσ).mp (by rw[hi,hi'])
  ·rintro b ⟨hb,_⟩;rcases hb with hb|hb
   ·exact hh.low b hb
   ·exact jA.lt hh hb
  ·intro b hb hf;obtain⟨i,hi,n,C,g1,g2⟩:=hlm b hb;exact hf.2 i (by simp[hi]) n C g1 g2
 have hargs:lA ρ (av Fl (jA ρ0 (nA bs))) w at_.1 vs:=by
  have:=vQ (Ml:=av Fl (jA ρ0 (nA bs))) hh hM e.imm args vs ?_ hr
  ·rw[h2]at this;exact this
  ·rw[h2];intro id hid b n C hp hl hx;rcases hx with hx|hx
   ·exact hx.2 id (by simp[hid]) n C hp hl
   ·obtain⟨i,hi,n',C',g1,g2⟩:=hlm b hx;have:=hh.inj i id b _ _ _ _ g2 hl g1 hp;subst this;exact hdis i hi hid
 refine⟨hS.callable,Calls.mono (hS.calls Fl ρ0 w vs hH (fun id hid=>hρ0' id (by omega)) (lA.ren hren _ _ (.inl (fun b hb=>hb)) hargs)) ?_⟩;rintro e' w' ⟨v',he',ρ',g1,g2,g3,g4,g5⟩;have hnew:out.new.length=(enc a).pick.2.length-σ.length:=by rw[h9];simp[gG,tR]
 obtain⟨ρc,hpost⟩:=D6 (nid:=nid) hh (v0:=(enc a).pick.1) (bs0:=(enc a).pick.2) (fun id k1 k2=>hn id k1 (by omega)) hσ h6 hdis hρ0 hρ0' hl0 hl0' (Fl:=Fl) (fun b k1 k2=>⟨k1,k2⟩) (fun j hj=>g1 j (by omega)) g2 g3 g4 g5;rw[←h9]at hpost;exact⟨v',ρc,he',hpost⟩
end
structure aB (P:Program)(E:bD):Prop where
 ty:vD P E.ty
 tab:wK P E.tab
structure ir (E:bD)(F:Nat→Prop)(ρ:pD)(T:Nat→V)(h:Nat→rA)(a:Act)(w:World):Prop where
 heap:mA F ρ h w
 tmps:∀t,pA ρ (av F (jA ρ h)) w (T t) (a.eval (.tmp t))
 size:a.tmps.size=E.ntmps
 defers:a.defers=[]
theorem ye {ρ:pD}{M:Nat→Prop}{w:World}(v:Value):pA ρ M w (gu v) v:=by
 unfold gu;split
 ·rename_i cs;simp only[pA];refine⟨cs,rfl,?_⟩;generalize cs.toList=l;induction l with
  |nil=>simp[lA]
  |cons x l ih=>simp only[xK,lA,pA];exact⟨trivial,ih⟩
 ·simp only[pA]
section
variable {P:Program}{E:bD}{F:Nat→Prop}{ρ:pD}{T:Nat→V}{h:Nat→rA}{a:Act}{w:World}
theorem ir.ev (hr:ir E F ρ T h a w)(x:Operand):pA ρ (av F (jA ρ h)) w (se T x) (a.eval x):=by
 cases x with
 |tmp t=>exact hr.tmps t
 |const v=>exact ye v
 |global g=>simp only[se,pA]
 |func f=>simp only[se,pA,Act.eval];exact⟨#[],#[],rfl,by simp[lA],by simp[lA]⟩
theorem ir.put {ρ':pD}{h':Nat→rA}{w':World}(hr:ir E F ρ T h a w)(hs:oO ρ ρ')(hh:mA F ρ' h' w')(he:yH (jA ρ h) w (jA ρ' h') w'){d:Option Nat}(hd:rv E.ntmps d=true){x:V}{v:Value}(hx:pA ρ' (av F (jA ρ' h')) w' x v):
  ir E F ρ' (mI T d x) h' (a.put d v) w':=by
 have hm:∀t,pA ρ' (av F (jA ρ' h')) w' (T t) (a.eval (.tmp t)):=fun t=>pA.mono hs he _ _ (hr.tmps t);cases d with
 |none=>exact⟨hh,hm,hr.size,hr.defers⟩
 |some d=>
  have hlt:d<a.tmps.size:=by rw[hr.size];exact fD hd
  refine⟨hh,fun t=>?_,by simp[Act.put,hr.size],hr.defers⟩;simp only[mI,Act.put,Act.eval];by_cases ht:t=d
  ·subst ht;rw[if_pos rfl,zB,f0 hlt];exact hx
  ·rw[if_neg ht,zB,Array.getElem?_setIfInBounds_ne (Ne.symm ht),←zB];exact hm t
theorem vg {all:Array Oper}(hr:ir E F ρ T h a w){o:Oper}{b:Bool}(hw:vM all.toList T o=some b):Region.wanted o (yielded all a.tmps)=b:=by
 unfold vM at hw;unfold Region.wanted;cases hg:o.guard with
 |none=>rw[hg]at hw;simp only[Option.some.injEq]at hw;exact hw
 |some gw=>
  obtain⟨j,want⟩:=gw;rw[hg]at hw;dsimp only at hw⊢;unfold yielded;rw[Array.getElem?_toList]at hw;cases hd:(all[j]?).bind (·.dst)with
  |none=>rw[hd]at hw;cases hw
  |some g=>
   rw[hd]at hw;dsimp only at hw;have hv:=hr.tmps g;simp only[Option.bind_some];split at hw
   ·rename_i b' hb;rw[hb]at hv;simp only[pA,Act.eval]at hv;simp only[Option.some.injEq]at hw;rw[zB]at hv;cases ht:a.tmps[g]? with
    |none=>rw[ht]at hv;cases hv
    |some u=>rw[ht]at hv;simp only[d0]at hv;subst hv;rw[←hw];cases b'<;>cases want<;>rfl
   ·rename_i vs hb;rw[hb]at hv;simp only[pA,Act.eval]at hv;simp only[Option.some.injEq]at hw;rw[zB]at hv;rw[←hw];cases ht:a.tmps[g]? with
    |none=>rfl
    |some u=>rw[ht]at hv;simp only[d0]at hv;subst hv;rfl
   ·cases hw
theorem lA.map_evF {xs:List Operand}(hr:ir E F ρ T h a w):lA ρ (av F (jA ρ h)) w (xs.map (se T)) (xs.map a.eval):=by
 induction xs with
 |nil=>simp[lA]
 |cons x xs ih=>simp only[xK,lA];exact⟨hr.ev x,ih⟩
theorem C5 {o:Oper}{f:Operand}{args:Array Operand}{ts:Array TypeId}{g:FuncId}{va vc:Array Value}(ho:o.op= .call ⟨.value f,args,ts⟩)(hf:a.eval f= .func (.func g) va vc)(hc:nO P g):
  (execOp a.eval o).run P w= .ok (.enter g (va++args.map a.eval++vc)) w:=by
 obtain⟨fn,h1,h2,h3⟩:=hc;have h4:fn.name≠ "runtime.NumGoroutine" :=by simpa using h3
 cases hb:fn.body with
 |none=>rw[hb]at h2;cases h2
 |some c=>unfold execOp;rw[ho];simp[resolve,Deferred.ofValue,hf,invoke,callFunc,h1,h4,hb]
def eX (E:bD)(F:Nat→Prop)(len base:Nat)(ρ0:pD)(M0:Nat→Prop)(w0:World)(T:Nat→V)(h:Nat→rA)(rem:List xJ)(a:Act)(w:World):Prop:=
 ∃ρ,ir E F ρ T h a w∧(∀x∈rem,∀id,x.nid≤id→id<x.nid+mO E.tab x.o.op→ρ id=none)∧rem.Pairwise (fun x y=>x.nid+mO E.tab x.o.op≤y.nid)∧
  (∀id,len≤id→ρ id=none)∧(∀id,id<base→ρ id=ρ0 id)∧(∀x∈rem,base≤x.nid)∧yH M0 w0 (jA ρ h) w
theorem eX.next {len base:Nat}{ρ0:pD}{M0:Nat→Prop}{w0:World}{pre post:List xJ}{x:xJ}(hr:ir E F ρ T h a w)
  (h1:∀y∈pre++x::post,∀id,y.nid≤id→id<y.nid+mO E.tab y.o.op→ρ id=none)(h2:(pre++x::post).Pairwise (fun x y=>x.nid+mO E.tab x.o.op≤y.nid))
  (h3:∀id,len≤id→ρ id=none)(h4:∀id,id<base→ρ id=ρ0 id)(h5:∀y∈pre++x::post,base≤y.nid)(h6:yH M0 w0 (jA ρ h) w)
  (hd:rv E.ntmps x.o.dst=true){out:iH}(hn:out.new.length≤mO E.tab x.o.op)(hl:x.nid+mO E.tab x.o.op≤len){v:Value}{w':World}{ρ':pD}(hp:Fd F ρ h w x.nid out v w' ρ'):
  eX E F len base ρ0 M0 w0 (mI T x.o.dst out.val) (aF h (out.wr++bP x.nid out.new)) (pre++post) (a.put x.o.dst v) w':=by
 obtain⟨p1,p2,p3,p4,p5⟩:=hp;rw[fq]at p3 p4 p5;rw[j1]at h2;obtain⟨q1,q2,q3⟩:=h2;rw[z1]at q2;refine⟨ρ',hr.put p1 p3 p5 hd p4,?_,?_,?_,?_,?_,h6.trans p5⟩
 ·intro y hy id k1 k2;rcases aE.mp hy with hy|hy
  ·have:=q3 y hy x (by simp);rw[p2 id (by omega)];exact h1 y (by simp[hy]) id k1 k2
  ·have:=q2.1 y hy;rw[p2 id (by omega)];exact h1 y (by simp[hy]) id k1 k2
 ·rw[j1];exact⟨q1,q2.2,fun y hy z hz=>q3 y hy z (by simp[hz])⟩
 ·intro id hid;rw[p2 id (by omega)];exact h3 id hid
 ·intro id hid;have:=h5 x (by simp);rw[p2 id (by omega)];exact h4 id hid
 ·intro y hy;refine h5 y ?_;simp only[aE,cD]at hy⊢;rcases hy with hy|hy<;>simp[hy]
theorem ut (hE:aB P E){ops:Array Oper}{Q:Exit→Act→World→Prop}{len base:Nat}{ρ0:pD}{M0:Nat→Prop}{w0:World}{pre post:List xJ}{x:xJ}{r:fX}{K:Act→World→Prop}
  (hc:jH E ops.toList len x T h r)(hI:eX E F len base ρ0 M0 w0 T h (pre++x::post) a w)(hx:ops[x.i]?=some x.o)
  (hK:∀a' w',eX E F len base ρ0 M0 w0 (mI T x.o.dst r.v) (aF h r.ups) (pre++post) a' w'→K a' w'):wpOp P ops Q x.i K a w:=by
 obtain⟨ρ,hr,h1,h2,h3,h4,h5,h6⟩:=hI;obtain⟨c1,hd,⟨hw,out,hex,rfl,hn,hl,_⟩|⟨hw,rfl⟩⟩:=hc
 ·unfold wpOp;rw[hx];dsimp only;rw[vg hr hw,if_pos rfl];refine .inl ?_;unfold Oper.wp;have hslot:∀id,x.nid≤id→id<x.nid+out.new.length→ρ id=none:=fun id k1 k2=>h1 x (by simp) id k1 (by omega);rcases hex with⟨f,args,ts,g,first,cap,e1,e2,e3⟩|hact
  ·have hf:=hr.ev f;rw[e2]at hf;simp only[pA]at hf;obtain⟨va,vc,f1,f2,f3⟩:=hf;have hargs:lA ρ (av F (jA ρ h)) w (first++(args.toList.map (se T)++cap)) (va.toList++(args.toList.map a.eval++vc.toList)):=
    f2.append ((lA.map_evF hr).append f3)
   obtain⟨hcal,hcalls⟩:=D8 hE.tab hr.heap e3 hslot hargs;rw[C5 e1 f1 hcal,Oper.upon_enter];have hav:(va++args.map a.eval++vc)=(va.toList++(args.toList.map a.eval++vc.toList)).toArray:=by apply Array.toList_inj.mp;simp
   rw[hav];refine Calls.mono hcalls ?_;rintro e w' ⟨v',ρ',rfl,hp⟩;exact hK _ _ (eX.next hr h1 h2 h3 h4 h5 h6 hd hn hl hp)
  ·obtain⟨v,w',ρ',hrun,p⟩:=Fg (P:=P) hE.ty hr.heap hr.ev hslot x.o.op x.o rfl hact;rcases hrun with hrun|⟨hrun,rfl⟩
   ·rw[hrun,Oper.upon_value];exact hK _ _ (eX.next hr h1 h2 h3 h4 h5 h6 hd hn hl p)
   ·rw[hrun,Oper.upon_skip];exact hK _ _ (eX.next hr h1 h2 h3 h4 h5 h6 hd hn hl p)
 ·unfold wpOp;rw[hx];dsimp only;rw[vg hr hw];simp only[Bool.false_eq_true,if_false];refine hK _ _ ⟨ρ,hr.put (oO.refl _) hr.heap (yH.refl _ _) hd (by simp only[zL,pA];rfl),?_,?_,h3,h4,?_,h6⟩
  ·intro y hy;refine h1 y ?_;simp only[aE,cD]at hy⊢;rcases hy with hy|hy<;>simp[hy]
  ·exact h2.sublist (List.Sublist.append_left (m3 _ _) _)
  ·intro y hy;refine h5 y ?_;simp only[aE,cD]at hy⊢;rcases hy with hy|hy<;>simp[hy]
theorem tg (tab:Nat→Option xA):∀(ops:List Oper) (i nid:Nat),(jK tab i nid ops).map (·.i)=(List.range ops.length).map (i+ ·)
 | [],_,_=>rfl
 |o::r,i,nid=>by simp only[jK,xK,sS,j3,x2,tg tab r];simp[Function.comp_def,Nat.add_assoc,Nat.add_comm 1]
theorem th (tab:Nat→Option xA):∀(ops:List Oper) (i nid:Nat),∀x∈jK tab i nid ops,i≤x.i∧ops[x.i-i]?=some x.o
 | [],_,_,x,hx=>by simp[jK]at hx
 |o::r,i,nid,x,hx=>by
  simp only[jK,cD]at hx;rcases hx with rfl|hx
  ·simp
  ·obtain⟨h1,h2⟩:=th tab r _ _ x hx;refine⟨by omega,?_⟩;have:x.i-i=(x.i- (i+1))+1:=by omega
   rw[this];simpa using h2
theorem af (tab:Nat→Option xA):∀(ops:List Oper) (i nid:Nat),(∀x∈jK tab i nid ops,nid≤x.nid)∧(jK tab i nid ops).Pairwise (fun x y=>x.nid+mO tab x.o.op≤y.nid)
 | [],_,_=>⟨by simp[jK],by simp[jK]⟩
 |o::r,i,nid=>by
  obtain⟨h1,h2⟩:=af tab r (i+1) (nid+mO tab o.op);simp only[jK];refine⟨fun x hx=>?_,z1.mpr ⟨fun y hy=>h1 y hy,h2⟩⟩;rcases cD.mp hx with rfl|hx
  ·exact t3 _
  ·exact Nat.le_trans (Nat.le_add_right _ _) (h1 x hx)
theorem ir.heq {w':World}(hr:ir E F ρ T h a w)(he:w'.heap=w.heap):ir E F ρ T h a w':=
 ⟨hr.heap.heq he,fun t=>pA.world he _ _ (hr.tmps t),hr.size,hr.defers⟩
theorem yg.rows {len:Nat}{all:List Oper}:∀(L:List (xJ×fX)) (T:Nat→V) (h:Nat→rA) {T':Nat→V} {h':Nat→rA},yg E all len L T h T' h'→∀p∈L,p.2.i=p.1.i
 | [],_,_,_,_,_,p,hp=>by simp at hp
 |q::L,T,h,_,_,ht,p,hp=>by
  rcases cD.mp hp with rfl|hp
  ·exact ht.1.1
  ·exact yg.rows L _ _ ht.2 p hp
theorem nr (H:List rA)(n:Nat):nA (H++List.replicate n .dead)=nA H:=by
 funext j;rw[uC,uC];simp only[iA,zE,c3];by_cases hj:j<H.length
 ·rw[if_pos hj]
 ·rw[if_neg hj,hD (by omega)];split<;>rfl
theorem xm (hE:aB P E)(hmix:P.follows .mixedOrders=true){id:Nat}{ops:Array Oper}{draw:Bool}{s:St}{R:Type}{k:St→Option R}{r:R}(hr:aY E ops draw s k=some r):
  ∃s',k s'=some r∧s.H.length≤s'.H.length∧∀F ρ a w Q,ir E F ρ (yD s.T) (nA s.H) a w→(∀j,s.H.length≤j→ρ j=none)→
   (∀ρ' a' w',ir E F ρ' (yD s'.T) (nA s'.H) a' w'→(∀j,s'.H.length≤j→ρ' j=none)→(∀j,j<s.H.length→ρ' j=ρ j)→yH (jA ρ (nA s.H)) w (jA ρ' (nA s'.H)) w'→Q .normal a' w')→
   (Code.region id ops draw).wp P Q a w:=by
 unfold aY at hr;obtain⟨rs,T',H',ht,hlen,hk⟩:=od _ _ _ _ _ _ hr;obtain⟨hok,hk⟩:=kA hk;rw[nr]at ht;obtain⟨L,l1,l2,l3⟩:=ht.pairs;simp only[List.length_append,List.length_replicate]at hlen l3;refine⟨⟨T',H'⟩,hk,by dsimp only;omega,?_⟩;intro F ρ a w Q hrep hnone hQ;obtain⟨n1,n2⟩:=af E.tab ops.toList 0 s.H.length;have ho:∀p∈L,ops[p.1.i]?=some p.1.o:=by
  intro p hp;have hm:p.1∈jK E.tab 0 s.H.length ops.toList:=by rw[←l1];exact x1 hp
  have:=(th _ _ _ _ _ hm).2;simpa using this
 have hI:∀w2:World,w2.heap=w.heap→bH w w2→eX E F (s.H.length+tW E.tab ops.toList) s.H.length ρ (jA ρ (nA s.H)) w (yD s.T) (nA s.H) (L.map (·.1)) a w2:=by intro w2 hw2 hk2;rw[l1];exact⟨ρ,hrep.heq hw2,fun x hx id h1 h2=>hnone id (Nat.le_trans (n1 x hx) h1),n2,fun id hid=>hnone id (by omega),fun _ _=>rfl,n1,yH.heq hw2 hk2⟩
 have hfin:∀a' w',eX E F (s.H.length+tW E.tab ops.toList) s.H.length ρ (jA ρ (nA s.H)) w (yD T') (nA H') [] a' w'→Q .normal a' w':=by rintro a' w' ⟨ρ',r1,_,_,r2,r3,_,r4⟩;exact hQ ρ' a' w' r1 (fun j hj=>r2 j (by dsimp only at hj;omega)) r3 r4
 have hmi:L.map (·.1.i)=List.range ops.size:=by
  have:L.map (·.1.i)=(L.map (·.1)).map (·.i):=by simp[x2,Function.comp_def]
  rw[this,l1,tg];simp
 cases draw with
 |false=>refine wp_region ?_;rw[←hmi];exact Cu (eX E F _ s.H.length ρ (jA ρ (nA s.H)) w) (fun T h pre x post r a w K hc hI hx hK=>ut hE hc hI hx hK) hfin L _ _ a w l3 (hI w rfl (.refl _)) ho
 |true=>
  simp only[Bool.not_true,Bool.false_or,zA]at hok;obtain⟨⟨k1,k2⟩,k3⟩:=hok;refine wp_region_any hmix ?_;refine Ct (eX E F _ s.H.length ρ (jA ρ (nA s.H)) w) (fun T h pre x post r a w K hc hI hx hK=>ut hE hc hI hx hK) k1 hfin ops.size _ L _ _ a _ l3 (hI _ rfl ⟨rfl,rfl,rfl,by first|exact t3 _|exact Nat.le_succ _|exact Nat.le_add_right _ _⟩) ?_ (by simp) ?_ ho (l3.rows) ?_ ?_
  ·have:=congrArg List.length hmi;simp at this;omega
  ·rw[hmi];symm;rw[w1];intro i hi;simp only[m0]at hi;simp[zB,hi]
  ·have hp:=dO _ k3;rw[List.append_nil,List.pairwise_reverse,←l2,x2,List.pairwise_map]at hp;exact hp
  ·intro j o hj;rw[zB]at hj;simp[i2]at hj;split at hj<;>simp_all
end
mutual
theorem pA.agree {ρ ρ':pD}{M:Nat→Prop}{w:World}:∀(x:V) (v:Value),(∀i∈lO x,∀p,ρ i=some p→ρ' i=some p)→pA ρ M w x v→pA ρ' M w x v
 | .c _,_,_,h=>by simpa only[pA]using h
 | .poison,_,_,_=>by simp only[pA]
 | .ptr id _ _,_,hm,h=>by simp only[pA]at h⊢;obtain⟨b,n,C,h1,h2,h3⟩:=h;exact⟨b,n,C,hm id (by simp[lO]) _ h1,h2,h3⟩
 | .sw id _,_,hm,h=>by
  simp only[pA]at h⊢;obtain⟨h0,⟨b,n,C,cap,h1,h2⟩|⟨h1,h2⟩⟩:=h
  ·exact⟨h0,.inl ⟨b,n,C,cap,hm id (by simp[lO]) _ h1,h2⟩⟩
  ·exact⟨h0,.inr ⟨hm id (by simp[lO]) _ h1,h2⟩⟩
 | .sl id _ _ _,_,hm,h=>by
  simp only[pA]at h⊢;obtain⟨h0,⟨b,n,C,cap,h1,h2⟩|⟨h1,h2⟩⟩:=h
  ·exact⟨h0,.inl ⟨b,n,C,cap,hm id (by simp[lO]) _ h1,h2⟩⟩
  ·exact⟨h0,.inr ⟨h1,h2⟩⟩
 | .mref id,_,hm,h=>by simp only[pA]at h⊢;obtain⟨b,h1,h2⟩:=h;exact⟨b,hm id (by simp[lO]) _ h1,h2⟩
 | .il _ _ _,_,_,h=>by simpa only[pA]using h
 | .iv _ _,_,_,h=>by simpa only[pA]using h
 | .ilp _ _ _ _,_,_,h=>by simpa only[pA]using h
 | .ivp _ _ _ _,_,_,h=>by simpa only[pA]using h
 | .agg cs,_,hm,h=>by simp only[pA]at h⊢;obtain⟨vs,h1,h2⟩:=h;exact⟨vs,h1,lA.agree cs _ (fun i hi=>hm i (by simpa only[lO]using hi)) h2⟩
 | .tup cs,_,hm,h=>by simp only[pA]at h⊢;obtain⟨vs,h1,h2⟩:=h;exact⟨vs,h1,lA.agree cs _ (fun i hi=>hm i (by simpa only[lO]using hi)) h2⟩
 | .fn _ a c,_,hm,h=>by simp only[pA]at h⊢;obtain⟨va,vc,h1,h2,h3⟩:=h;exact⟨va,vc,h1,lA.agree a _ (fun i hi=>hm i (by simp only[lO,aE];exact .inl hi)) h2,lA.agree c _ (fun i hi=>hm i (by simp only[lO,aE];exact .inr hi)) h3⟩
theorem lA.agree {ρ ρ':pD}{M:Nat→Prop}{w:World}:∀(x:List V) (v:List Value),(∀i∈fG x,∀p,ρ i=some p→ρ' i=some p)→lA ρ M w x v→lA ρ' M w x v
 | [],[],_,_=>by simp only[lA]
 |x::xs,v::vs,hm,h=>by simp only[lA]at h⊢;exact⟨pA.agree x v (fun i hi=>hm i (by simp only[fG,aE];exact .inl hi)) h.1,lA.agree xs vs (fun i hi=>hm i (by simp only[fG,aE];exact .inr hi)) h.2⟩
 | [],_::_,_,h=>by simp only[lA]at h
 |_::_,[],_,h=>by simp only[lA]at h
end
theorem oB.agree {ρ ρ':pD}{M:Nat→Prop}{w:World}{p:Pl}{x:rA}(hm:∀i∈wS x,∀p,ρ i=some p→ρ' i=some p)(h:oB ρ M w p x):oB ρ' M w p x:=by
 cases x with
 |dead=>trivial
 |ints k l=>exact h
 |mp k n ks vs=>exact h
 |it mid tE rem cur=>obtain⟨h1,h2,b,mb,seen,h4,h5,h6,h7⟩:=h;exact⟨h1,h2,b,mb,seen,h4,h5,fun i hi=>hm i (by subst hi;simp[wS]) _ (h6 i hi),h7⟩
 |vals cs=>
  obtain⟨h1,h2|⟨b,c,h2,h3,h4,h5⟩⟩:=h
  ·exact⟨h1,.inl h2⟩
  ·exact⟨h1,.inr ⟨b,c,h2,h3,h4,lA.agree _ _ (fun i hi=>hm i hi) h5⟩⟩
theorem oB.avoid {ρ:pD}{M M':Nat→Prop}{w:World}(hM:∀b,M' b→M b){p:Pl}{x:rA}(h:oB ρ M w p x):oB ρ M' w p x:=by
 cases x with
 |dead=>trivial
 |ints k l=>exact h
 |mp k n ks vs=>exact h
 |it mid tE rem cur=>exact h
 |vals cs=>
  obtain⟨h1,h2|⟨b,c,h2,h3,h4,h5⟩⟩:=h
  ·exact⟨h1,.inl h2⟩
  ·exact⟨h1,.inr ⟨b,c,h2,h3,h4,lA.avoid hM _ _ h5⟩⟩
theorem eS {l:List Nat}(h:l.isEmpty=true):∀i,i∉l:=by
 intro i hi;cases l with
 |nil=>cases hi
 |cons=>cases h
structure cX (ρ ρ':pD)(src:List (Option Nat)):Prop where
 old:∀(j id:Nat),src[j]?=some (some id)→ρ' j=ρ id
 nil:∀j:Nat,src[j]?=some none→ρ' j=some ⟨none,0,0⟩
structure cO (h:Nat→rA)(a:o7):Prop where
 len:a.src.length=a.blks.length
 nodup:∀(i j id:Nat),a.src[i]?=some (some id)→a.src[j]?=some (some id)→i=j
 virt:∀j:Nat,a.src[j]?=some none→∃k,a.blks[j]?=some (.ints k [])
 live:∀(j id:Nat) (x:rA),a.src[j]?=some (some id)→a.blks[j]?=some x→x.live→(h id).live
def rL (h:Nat→rA)(ρ ρ':pD)(M:Nat→Prop)(w:World)(a:o7):Prop:=
 ∀(j id:Nat) (x:rA) (p:Pl),a.src[j]?=some (some id)→a.blks[j]?=some x→ρ id=some p→oB ρ M w p (h id)→oB ρ' M w p x
theorem kN {id:Nat}:∀(src:List (Option Nat)) (n j:Nat),lC id src n=some j→n≤j∧src[j-n]?=some (some id)
 | [],n,j,h=>by simp[lC]at h
 |some x::r,n,j,h=>by
  simp only[lC]at h;cases hb:Nat.beq x id<;>rw[hb]at h<;>simp only[cond_true,cond_false]at h
  ·obtain⟨h1,h2⟩:=kN r (n+1) j h;have:j-n=(j- (n+1))+1:=by omega
   exact⟨by omega,by rw[this];simpa using h2⟩
  ·simp only[Option.some.injEq]at h;subst h;have:=rB hb;subst this;simp
 |none::r,n,j,h=>by
  simp only[lC]at h;obtain⟨h1,h2⟩:=kN r (n+1) j h;have:j-n=(j- (n+1))+1:=by omega
  exact⟨by omega,by rw[this];simpa using h2⟩
theorem jN {id mid:Nat}(hne:mid≠id):∀(src:List (Option Nat)) (n:Nat),lC id src n=none→lC id (src++[some mid]) n=none
 | [],n,_=>by
  simp only[List.nil_append,lC];cases hb:Nat.beq mid id
  ·rfl
  ·exact absurd (rB hb) hne
 |some x::r,n,h=>by
  simp only[lC,c0]at h⊢;cases hb:Nat.beq x id<;>rw[hb]at h<;>simp only[cond_true,cond_false]at h⊢
  ·exact jN hne r (n+1) h
  ·cases h
 |none::r,n,h=>by simp only[lC,c0]at h⊢;exact jN hne r (n+1) h
theorem iN {id:Nat}:∀(src:List (Option Nat)) (n:Nat),lC id src n=none→∀j:Nat,src[j]?≠some (some id)
 | [],n,_,j=>by simp
 |some x::r,n,h,j=>by
  simp only[lC]at h;cases hb:Nat.beq x id<;>rw[hb]at h<;>simp only[cond_true,cond_false]at h
  ·cases j with
   |zero=>intro e;simp at e;subst e;simp at hb
   |succ j=>simpa using iN r _ h j
  ·cases h
 |none::r,n,h,j=>by
  simp only[lC]at h;cases j with
  |zero=>simp
  |succ j=>simpa using iN r _ h j
theorem cO.push {h:Nat→rA}{a:o7}(ha:cO h a){id:Nat}{x:rA}(hf:lC id a.src 0=none)(hx:x.live→(h id).live):cO h ⟨a.src++[some id],a.blks++[x]⟩:=by
 have hno:=iN _ _ hf;refine⟨by simp[ha.len],?_,?_,?_⟩
 ·intro i j id' hi hj;dsimp only at hi hj;rw[zE]at hi hj;split at hi<;>split at hj
  ·exact ha.nodup i j id' hi hj
  ·rw[iB]at hj;split at hj
   ·simp only[Option.some.injEq]at hj;subst hj;exact absurd hi (hno i)
   ·cases hj
  ·rw[iB]at hi;split at hi
   ·simp only[Option.some.injEq]at hi;subst hi;exact absurd hj (hno j)
   ·cases hi
  ·rw[iB]at hi hj;split at hi<;>split at hj<;>first|omega|(cases hi;done)|(cases hj;done)
 ·intro j hj;dsimp only at hj⊢;rw[zE]at hj;split at hj
  ·rename_i hlt;obtain⟨k,hk⟩:=ha.virt j hj;exact⟨k,by rw[hG (by rw[←ha.len];exact hlt)];exact hk⟩
  ·rw[iB]at hj;split at hj<;>simp at hj
 ·intro j id' y hj hy hl;dsimp only at hj hy;rw[zE]at hj hy;rw[←ha.len]at hy;split at hj
  ·rename_i hlt;rw[if_pos hlt]at hy;exact ha.live j id' y hj hy hl
  ·rename_i hge;rw[if_neg hge]at hy;rw[iB]at hj hy;split at hj
   ·rename_i h0;rw[if_pos h0]at hy;simp only[Option.some.injEq]at hj hy;subst hj;subst hy;exact hx hl
   ·cases hj
theorem rL.push {h:Nat→rA}{ρ ρ':pD}{M:Nat→Prop}{w:World}{a:o7}(ha:cO h a)(hb:rL h ρ ρ' M w a){id:Nat}{x:rA}(hx:∀p,oB ρ M w p (h id)→oB ρ' M w p x):rL h ρ ρ' M w ⟨a.src++[some id],a.blks++[x]⟩:=by
 intro j id' y p hj hy hp hr;dsimp only at hj hy;rw[zE]at hj hy;rw[←ha.len]at hy;split at hj
 ·rename_i hlt;rw[if_pos hlt]at hy;exact hb j id' y p hj hy hp hr
 ·rename_i hge;rw[if_neg hge]at hy;rw[iB]at hj hy;split at hj
  ·rename_i h0;rw[if_pos h0]at hy;simp only[Option.some.injEq]at hj hy;subst hj;subst hy;exact hx p hr
  ·cases hj
theorem cX.pre {ρ ρ':pD}{src more:List (Option Nat)}(hc:cX ρ ρ' (src++more)):cX ρ ρ' src:=by
 refine⟨fun j id hj=>hc.old j id ?_,fun j hj=>hc.nil j ?_⟩<;>
 ·have:j<src.length:=(hN.mp hj).1;rw[hG this];exact hj
def HB (h:Nat→rA)(ρ:pD)(M:Nat→Prop)(w:World):Prop:=∀id p,(h id).live→ρ id=some p→oB ρ M w p (h id)
def pI (h:Nat→rA)(a a':o7)(Rn:pD→pD→(Nat→Prop)→World→Prop):Prop:=
 (∃more,a'.src=a.src++more)∧(cO h a→cO h a'∧∀ρ ρ' M w,HB h ρ M w→cX ρ ρ' a'.src→rL h ρ ρ' M w a→rL h ρ ρ' M w a'∧Rn ρ ρ' M w)
def I4 (v v':V)(ρ ρ':pD)(M:Nat→Prop)(w:World):Prop:=∀u,pA ρ M w v u→pA ρ' M w v' u
def I3 (v v':List V)(ρ ρ':pD)(M:Nat→Prop)(w:World):Prop:=∀u,lA ρ M w v u→lA ρ' M w v' u
theorem pI.same {h:Nat→rA}{a:o7}{Rn:pD→pD→(Nat→Prop)→World→Prop}(hr:∀ρ ρ' M w,cX ρ ρ' a.src→Rn ρ ρ' M w):pI h a a Rn:=
 ⟨⟨[],by simp⟩,fun ha=>⟨ha,fun ρ ρ' M w _ hc hb=>⟨hb,hr ρ ρ' M w hc⟩⟩⟩
theorem pI.new {h:Nat→rA}{a:o7}{id:Nat}{x:rA}{Rn:pD→pD→(Nat→Prop)→World→Prop}(hf:lC id a.src 0=none)(hx:x.live→(h id).live)(hb:∀ρ ρ' M w p,oB ρ M w p (h id)→oB ρ' M w p x)
  (hr:∀(ρ ρ':pD) M w,ρ' a.src.length=ρ id→Rn ρ ρ' M w):pI h a ⟨a.src++[some id],a.blks++[x]⟩ Rn:=
 ⟨⟨[some id],rfl⟩,fun ha=>⟨ha.push hf hx,fun ρ ρ' M w _ hc hk=>⟨hk.push ha (hb ρ ρ' M w),hr ρ ρ' M w (hc.old a.src.length id (by simp))⟩⟩⟩
theorem pI.sameq {h:Nat→rA}{a:o7}{Rn:pD→pD→(Nat→Prop)→World→Prop}(hr:∀ρ ρ' M w,HB h ρ M w→cX ρ ρ' a.src→Rn ρ ρ' M w):pI h a a Rn:=
 ⟨⟨[],by simp⟩,fun ha=>⟨ha,fun ρ ρ' M w hq hc hb=>⟨hb,hr ρ ρ' M w hq hc⟩⟩⟩
theorem pI.newq {h:Nat→rA}{a:o7}{id:Nat}{x:rA}{Rn:pD→pD→(Nat→Prop)→World→Prop}(hf:lC id a.src 0=none)(hx:x.live→(h id).live)(hb:∀ρ ρ' M w p,oB ρ M w p (h id)→oB ρ' M w p x)
  (hr:∀(ρ ρ':pD) M w,HB h ρ M w→ρ' a.src.length=ρ id→Rn ρ ρ' M w):pI h a ⟨a.src++[some id],a.blks++[x]⟩ Rn:=
 ⟨⟨[some id],rfl⟩,fun ha=>⟨ha.push hf hx,fun ρ ρ' M w hq hc hk=>⟨hk.push ha (hb ρ ρ' M w),hr ρ ρ' M w hq (hc.old a.src.length id (by simp))⟩⟩⟩
theorem uu {h:Nat→rA}{ρ ρ':pD}{M:Nat→Prop}{w:World}{id j s:Nat}{k:IntKind}{l:List Int}(hid:h id= .ints k l)(hq:HB h ρ M w)(he:ρ' j=ρ id){u:Value}(hr:pA ρ M w (.sw id s) u):pA ρ' M w (.sl j s 0 (tE s l.length)) u:=by
 have hl:∀p,ρ id=some p→l.length=p.n:=fun p hp=>by have:=hq id p (by rw[hid];trivial) hp;rw[hid]at this;exact this.1
 simp only[pA]at hr⊢;obtain⟨h0,⟨b,n,C,cap,h1,h2,h3,h4,h5⟩|⟨h1,h2⟩⟩:=hr
 ·have e1:l.length=n:=hl _ h1;have hn:n/s*s=n:=Nat.div_mul_cancel (n3 h2);refine⟨h0,.inl ⟨b,n,C,cap,by rw[he];exact h1,?_,?_,by omega,?_⟩⟩
  ·rw[uE,e1];omega
  ·rw[uE,e1];exact h3
  ·rw[uE,e1];exact h5
 ·have e1:l.length=0:=hl _ h1;exact⟨h0,.inr ⟨by rw[uE,e1];simp,none,h2⟩⟩
theorem pA.ptr_name {ρ ρ':pD}{M:Nat→Prop}{w:World}{id j off ext:Nat}(h:ρ' j=ρ id){u:Value}(hr:pA ρ M w (.ptr id off ext) u):pA ρ' M w (.ptr j off ext) u:=by
 simp only[pA]at hr⊢;rw[h];exact hr
theorem pA.mref_name {ρ ρ':pD}{M:Nat→Prop}{w:World}{id j:Nat}(h:ρ' j=ρ id){u:Value}(hr:pA ρ M w (.mref id) u):pA ρ' M w (.mref j) u:=by
 simp only[pA]at hr⊢;rw[h];exact hr
theorem pA.sw_name {ρ ρ':pD}{M:Nat→Prop}{w:World}{id j s:Nat}(h:ρ' j=ρ id){u:Value}(hr:pA ρ M w (.sw id s) u):pA ρ' M w (.sw j s) u:=by
 simp only[pA]at hr⊢;rw[h];exact hr
theorem pA.sl_name {ρ ρ':pD}{M:Nat→Prop}{w:World}{id j s off len:Nat}(h:ρ' j=ρ id){u:Value}(hr:pA ρ M w (.sl id s off len) u):pA ρ' M w (.sl j s off len) u:=by
 simp only[pA]at hr⊢;rw[h];exact hr
theorem fM {ρ ρ':pD}{M:Nat→Prop}{w:World}{p:Pl}{k:IntKind}{l:List Int}(h:oB ρ M w p (.ints k l)):oB ρ' M w p (.ints k l):=h
theorem yz {ρ ρ':pD}{M:Nat→Prop}{w:World}{p:Pl}{k:IntKind}{n:Nat}{ks:List (List Int)}{vs:iO}(h:oB ρ M w p (.mp k n ks vs)):oB ρ' M w p (.mp k n ks vs):=h
theorem yy {ρ ρ':pD}{M:Nat→Prop}{w:World}{p:Pl}{mid j tE:Nat}{rem:List Nat}{cur:Nat}(hj:ρ' j=ρ mid)(h:oB ρ M w p (.it (some mid) tE rem cur)):oB ρ' M w p (.it (some j) tE rem cur):=by
 obtain⟨h1,h2,b,mb,seen,h4,h5,h6,h7⟩:=h;refine⟨h1,h2,b,mb,seen,h4,h5,fun i hi=>?_,h7⟩;simp only[Option.some.injEq]at hi;subst hi;rw[hj];exact h6 mid rfl
theorem mX {ρ ρ':pD}{M:Nat→Prop}{w:World}{p:Pl}{cs:List V}(hc:(fG cs).isEmpty=true)(h:oB ρ M w p (.vals cs)):oB ρ' M w p (.vals cs):=
 h.agree (fun i hi=>absurd hi (eS hc i))
theorem mQ {ρ ρ':pD}{src:List (Option Nat)}{id j:Nat}(hf:lC id src 0=some j)(hc:cX ρ ρ' src):ρ' j=ρ id:=hc.old j id (by have:=(kN src 0 j hf).2;simpa using this)
theorem aH:∀(H:List rA) (i j:Nat) (x:rA),i<H.length→(qD H i x)[j]?=if j=i then some x else H[j]?
 | [],_,_,_,h=>by simp at h
 |b::r,0,0,x,_=>by simp[qD]
 |b::r,0,j+1,x,_=>by simp[qD]
 |b::r,n+1,0,x,_=>by simp[qD]
 |b::r,n+1,j+1,x,h=>by simp[qD,aH r n j x (by simpa using h)]
theorem dz {ρ ρ':pD}{M:Nat→Prop}{w:World}{src:List (Option Nat)}(hc:cX ρ ρ' src):∀(vs vs':List V),wk src vs=some vs'→∀us:List Value,lA ρ M w vs us→lA ρ' M w vs' us
 | [],vs',hs,us,hr=>by simp only[wk,Option.some.injEq]at hs;subst hs;cases us<;>simp_all[lA]
 |v::r,vs',hs,us,hr=>by
  cases us with
  |nil=>simp only[lA]at hr
  |cons u us=>
   cases v<;>simp only[wk]at hs<;>try cases hs
   split at hs
   ·rename_i j r' hf hr';simp only[Option.some.injEq]at hs;subst hs;simp only[lA]at hr⊢;exact⟨hr.1.ptr_name (mQ hf hc),dz hc r r' hr' us hr.2⟩
   ·cases hs
mutual
theorem C7 {h:Nat→rA}:∀(sh:Sh) (v:V) (a:o7) (v':V) (a':o7),aT h sh v a=some (v',a')→pI h a a' (I4 v v')
 | .any,v,a,v',a',hs=>by
  unfold aT at hs;cases hc:(lO v).isEmpty<;>rw[hc]at hs<;>simp only[cond_true,cond_false]at hs
  ·split at hs
   ·rename_i id off ext;split at hs
    ·rename_i j hf;simp only[Option.some.injEq,Prod.mk.injEq]at hs;obtain⟨rfl,rfl⟩:=hs;exact .same (fun ρ ρ' M w hc u hr=>hr.ptr_name (mQ hf hc))
    ·rename_i hf;split at hs
     ·rename_i k l hid;simp only[Option.some.injEq,Prod.mk.injEq]at hs;obtain⟨rfl,rfl⟩:=hs;exact .new hf (fun _=>by rw[hid];trivial) (fun ρ ρ' M w p hb=>by rw[hid]at hb;exact fM hb) (fun ρ ρ' M w he u hr=>hr.ptr_name he)
     ·rename_i cs hid;obtain⟨h1,h2⟩:=kA hs;simp only[Option.some.injEq,Prod.mk.injEq]at h2;obtain⟨rfl,rfl⟩:=h2;exact .new hf (fun _=>by rw[hid];trivial) (fun ρ ρ' M w p hb=>by rw[hid]at hb;exact mX h1 hb) (fun ρ ρ' M w he u hr=>hr.ptr_name he)
     ·cases hs
     ·cases hs
     ·rename_i mid tE rem cur hid;split at hs
      ·rename_i j hfm;simp only[Option.some.injEq,Prod.mk.injEq]at hs;obtain⟨rfl,rfl⟩:=hs;refine⟨⟨[some id],rfl⟩,fun ha=>⟨ha.push hf (fun _=>by rw[hid];trivial),fun ρ ρ' M w _ hc hk=>⟨hk.push ha (fun p hb=>by rw[hid]at hb;exact yy (mQ hfm hc.pre) hb),fun u hr=>hr.ptr_name (hc.old a.src.length id (by simp))⟩⟩⟩
      ·rename_i hfm;split at hs
       ·rename_i k n ks vs hmid;simp only[Option.some.injEq,Prod.mk.injEq]at hs;obtain⟨rfl,rfl⟩:=hs;have hne:mid≠id:=by rintro rfl;rw[hid]at hmid;cases hmid
        have hf2:lC id (a.src++[some mid]) 0=none:=jN hne _ _ hf;refine⟨⟨[some mid]++[some id],by simp⟩,fun ha=>?_⟩;have ha1:cO h ⟨a.src++[some mid],a.blks++[.mp k n ks vs]⟩:=ha.push hfm (fun _=>by rw[hmid];trivial);refine⟨ha1.push hf2 (fun _=>by rw[hid];trivial),fun ρ ρ' M w _ hc hk=>⟨?_,fun u hr=>hr.ptr_name (hc.old (a.src.length+1) id (by simp))⟩⟩;have hk1:rL h ρ ρ' M w ⟨a.src++[some mid],a.blks++[.mp k n ks vs]⟩:=hk.push ha (fun p hb=>by rw[hmid]at hb;exact yz hb);exact hk1.push ha1 (fun p hb=>by rw[hid]at hb;exact yy (hc.old a.src.length mid (by simp)) hb)
       ·cases hs
     ·cases hs
   ·rename_i id s;split at hs
    ·rename_i j hf;simp only[Option.some.injEq,Prod.mk.injEq]at hs;obtain⟨rfl,rfl⟩:=hs;exact .same (fun ρ ρ' M w hc u hr=>hr.sw_name (mQ hf hc))
    ·rename_i hf;split at hs
     ·rename_i k l hid;simp only[Option.some.injEq,Prod.mk.injEq]at hs;obtain⟨rfl,rfl⟩:=hs;exact .new hf (fun _=>by rw[hid];trivial) (fun ρ ρ' M w p hb=>by rw[hid]at hb;exact fM hb) (fun ρ ρ' M w he u hr=>hr.sw_name he)
     ·rename_i cs hid;obtain⟨h1,h2⟩:=kA hs;simp only[Option.some.injEq,Prod.mk.injEq]at h2;obtain⟨rfl,rfl⟩:=h2;exact .new hf (fun _=>by rw[hid];trivial) (fun ρ ρ' M w p hb=>by rw[hid]at hb;exact mX h1 hb) (fun ρ ρ' M w he u hr=>hr.sw_name he)
     ·cases hs
     ·cases hs
     ·cases hs
   ·rename_i id s off len;split at hs
    ·rename_i j hf;simp only[Option.some.injEq,Prod.mk.injEq]at hs;obtain⟨rfl,rfl⟩:=hs;exact .same (fun ρ ρ' M w hc u hr=>hr.sl_name (mQ hf hc))
    ·rename_i hf;split at hs
     ·rename_i k l hid;simp only[Option.some.injEq,Prod.mk.injEq]at hs;obtain⟨rfl,rfl⟩:=hs;exact .new hf (fun _=>by rw[hid];trivial) (fun ρ ρ' M w p hb=>by rw[hid]at hb;exact fM hb) (fun ρ ρ' M w he u hr=>hr.sl_name he)
     ·rename_i cs hid;obtain⟨h1,h2⟩:=kA hs;simp only[Option.some.injEq,Prod.mk.injEq]at h2;obtain⟨rfl,rfl⟩:=h2;exact .new hf (fun _=>by rw[hid];trivial) (fun ρ ρ' M w p hb=>by rw[hid]at hb;exact mX h1 hb) (fun ρ ρ' M w he u hr=>hr.sl_name he)
     ·cases hs
     ·cases hs
     ·cases hs
   ·rename_i id;split at hs
    ·rename_i j hf;simp only[Option.some.injEq,Prod.mk.injEq]at hs;obtain⟨rfl,rfl⟩:=hs;exact .same (fun ρ ρ' M w hc u hr=>hr.mref_name (mQ hf hc))
    ·rename_i hf;split at hs
     ·rename_i k n ks vs hid;simp only[Option.some.injEq,Prod.mk.injEq]at hs;obtain⟨rfl,rfl⟩:=hs;exact .new hf (fun _=>by rw[hid];trivial) (fun ρ ρ' M w p hb=>by rw[hid]at hb;exact yz hb) (fun ρ ρ' M w he u hr=>hr.mref_name he)
     ·cases hs
   ·rename_i f va vc;split at hs
    ·rename_i va' vc' ha hc;simp only[Option.some.injEq,Prod.mk.injEq]at hs;obtain⟨rfl,rfl⟩:=hs;refine .same (fun ρ ρ' M w hcons u hr=>?_);simp only[pA]at hr⊢;obtain⟨ua,uc,h1,h2,h3⟩:=hr;exact⟨ua,uc,h1,dz hcons va va' ha _ h2,dz hcons vc vc' hc _ h3⟩
    ·cases hs
   ·cases hs
  ·simp only[Option.some.injEq,Prod.mk.injEq]at hs;obtain⟨rfl,rfl⟩:=hs;exact .same (fun ρ ρ' M w _ u hr=>hr.agree _ _ (fun i hi=>absurd hi (eS hc i)))
 | .row k s,v,a,v',a',hs=>by
  unfold aT at hs;split at hs
  ·obtain⟨h0,hs⟩:=kA hs;have h0:=fD h0;simp only[Option.some.injEq,Prod.mk.injEq]at hs;obtain⟨rfl,rfl⟩:=hs;refine⟨⟨[none],rfl⟩,fun ha=>⟨⟨by simp[ha.len],?_,?_,?_⟩,fun ρ ρ' M w hq hc hb=>⟨?_,?_⟩⟩⟩
   ·intro i j id hi hj;dsimp only at hi hj;rw[zE]at hi hj;split at hi<;>split at hj<;>first
     |exact ha.nodup i j id hi hj
     |(rw[iB]at hi;split at hi<;>simp at hi)
     |(rw[iB]at hj;split at hj<;>simp at hj)
   ·intro j hj;dsimp only at hj⊢;rw[zE]at hj;split at hj
    ·rename_i hlt;obtain⟨k,hk⟩:=ha.virt j hj;exact⟨k,by rw[hG (by rw[←ha.len];exact hlt)];exact hk⟩
    ·rename_i hge;rw[iB]at hj;split at hj
     ·refine⟨k,?_⟩;rw[hO (by rw[←ha.len];omega),←ha.len];have:j-a.src.length=0:=by omega
      rw[this];rfl
     ·cases hj
   ·intro j id x hj hx hl;dsimp only at hj hx;rw[zE]at hj hx;rw[←ha.len]at hx;split at hj
    ·rename_i hlt;rw[if_pos hlt]at hx;exact ha.live j id x hj hx hl
    ·rw[iB]at hj;split at hj<;>simp at hj
   ·intro j id x p hj hx hp hr;dsimp only at hj hx;rw[zE]at hj hx;rw[←ha.len]at hx;split at hj
    ·rename_i hlt;rw[if_pos hlt]at hx;exact hb j id x p hj hx hp hr
    ·rw[iB]at hj;split at hj<;>simp at hj
   ·intro u hr;simp only[pA]at hr⊢;exact⟨h0,.inr ⟨hc.nil a.src.length (by simp),hr⟩⟩
  ·rename_i id s';obtain⟨h0,h2⟩:=kA hs;clear hs;have hs:=h2;clear h2;have h3:=rB h0;clear h0;subst h3;split at hs
   ·rename_i j hf;simp only[Option.some.injEq,Prod.mk.injEq]at hs;obtain⟨rfl,rfl⟩:=hs;exact .same (fun ρ ρ' M w hc u hr=>hr.sw_name (mQ hf hc))
   ·rename_i hf;split at hs
    ·rename_i k' l hid;obtain⟨h1,hs⟩:=kA hs;simp only[Option.some.injEq,Prod.mk.injEq]at hs;obtain⟨rfl,rfl⟩:=hs;exact .new hf (fun _=>by rw[hid];trivial) (fun ρ ρ' M w p hb=>by rw[hid]at hb;exact fM hb) (fun ρ ρ' M w he u hr=>hr.sw_name he)
    ·cases hs
  ·cases hs
 | .part k s,v,a,v',a',hs=>by
  unfold aT at hs;split at hs
  ·obtain⟨h0,hs⟩:=kA hs;have h0:=fD h0;simp only[Option.some.injEq,Prod.mk.injEq]at hs;obtain⟨rfl,rfl⟩:=hs;refine⟨⟨[none],rfl⟩,fun ha=>⟨⟨by simp[ha.len],?_,?_,?_⟩,fun ρ ρ' M w hq hc hb=>⟨?_,?_⟩⟩⟩
   ·intro i j id hi hj;dsimp only at hi hj;rw[zE]at hi hj;split at hi<;>split at hj<;>first
     |exact ha.nodup i j id hi hj
     |(rw[iB]at hi;split at hi<;>simp at hi)
     |(rw[iB]at hj;split at hj<;>simp at hj)
   ·intro j hj;dsimp only at hj⊢;rw[zE]at hj;split at hj
    ·rename_i hlt;obtain⟨k,hk⟩:=ha.virt j hj;exact⟨k,by rw[hG (by rw[←ha.len];exact hlt)];exact hk⟩
    ·rename_i hge;rw[iB]at hj;split at hj
     ·refine⟨k,?_⟩;rw[hO (by rw[←ha.len];omega),←ha.len];have:j-a.src.length=0:=by omega
      rw[this];rfl
     ·cases hj
   ·intro j id x hj hx hl;dsimp only at hj hx;rw[zE]at hj hx;rw[←ha.len]at hx;split at hj
    ·rename_i hlt;rw[if_pos hlt]at hx;exact ha.live j id x hj hx hl
    ·rw[iB]at hj;split at hj<;>simp at hj
   ·intro j id x p hj hx hp hr;dsimp only at hj hx;rw[zE]at hj hx;rw[←ha.len]at hx;split at hj
    ·rename_i hlt;rw[if_pos hlt]at hx;exact hb j id x p hj hx hp hr
    ·rw[iB]at hj;split at hj<;>simp at hj
   ·intro u hr;simp only[pA]at hr⊢;exact⟨h0,.inr ⟨trivial,none,hr⟩⟩
  ·rename_i id s';obtain⟨h0,h2⟩:=kA hs;clear hs;have hs:=h2;clear h2;have h3:=rB h0;clear h0;subst h3;split at hs
   ·rename_i k' l hid;obtain⟨h1,hs2⟩:=kA hs;clear hs;have hs:=hs2;clear hs2;split at hs
    ·rename_i j hf;simp only[Option.some.injEq,Prod.mk.injEq]at hs;obtain⟨rfl,rfl⟩:=hs;exact .sameq (fun ρ ρ' M w hq hc u hr=>uu hid hq (mQ hf hc) hr)
    ·rename_i hf;simp only[Option.some.injEq,Prod.mk.injEq]at hs;obtain⟨rfl,rfl⟩:=hs;exact .newq hf (fun _=>by rw[hid];trivial) (fun ρ ρ' M w p hb=>by rw[hid]at hb;exact fM hb) (fun ρ ρ' M w hq he u hr=>uu hid hq he hr)
   ·cases hs
  ·rename_i id s' off len;obtain⟨h0,h2⟩:=kA hs;clear hs;have hs:=h2;clear h2;split at hs
   ·rename_i k' l hid;obtain⟨h1,hs2⟩:=kA hs;clear hs;have hs:=hs2;clear hs2;split at hs
    ·rename_i j hf;simp only[Option.some.injEq,Prod.mk.injEq]at hs;obtain⟨rfl,rfl⟩:=hs;exact .same (fun ρ ρ' M w hc u hr=>hr.sl_name (mQ hf hc))
    ·rename_i hf;simp only[Option.some.injEq,Prod.mk.injEq]at hs;obtain⟨rfl,rfl⟩:=hs;exact .new hf (fun _=>by rw[hid];trivial) (fun ρ ρ' M w p hb=>by rw[hid]at hb;exact fM hb) (fun ρ ρ' M w he u hr=>hr.sl_name he)
   ·cases hs
  ·cases hs
 | .il k s,v,a,v',a',hs=>by
  unfold aT at hs;split at hs
  ·obtain⟨h0,hs⟩:=kA hs;have h0:=fD h0;simp only[Option.some.injEq,Prod.mk.injEq]at hs;obtain⟨rfl,rfl⟩:=hs;refine .same (fun ρ ρ' M w hc u hr=>?_);simp only[pA]at hr⊢;exact⟨h0,by simp,.inl ⟨trivial,none,hr⟩⟩
  ·obtain⟨h0,hs⟩:=kA hs;simp only[Option.some.injEq,Prod.mk.injEq]at hs;obtain⟨rfl,rfl⟩:=hs;exact .same (fun ρ ρ' M w hc u hr=>by simpa only[pA]using hr)
  ·cases hs
 | .box ss,v,a,v',a',hs=>by
  unfold aT at hs;split at hs
  ·rename_i id off ext;split at hs
   ·rename_i j hf;simp only[Option.some.injEq,Prod.mk.injEq]at hs;obtain⟨rfl,rfl⟩:=hs;exact .same (fun ρ ρ' M w hc u hr=>hr.ptr_name (mQ hf hc))
   ·rename_i hf;split at hs
    ·rename_i cs hid;split at hs
     ·rename_i cs' a1 hL;simp only[Option.some.injEq,Prod.mk.injEq]at hs;obtain⟨rfl,rfl⟩:=hs;obtain⟨⟨more,hm⟩,hk⟩:=nI ss cs _ cs' a1 hL;refine⟨⟨[some id]++more,by rw[hm];simp⟩,fun ha=>?_⟩;obtain⟨k1,k2⟩:=hk (ha.push hf (fun hx=>hx.elim));have hsrc:a1.src[a.src.length]?=some (some id):=by rw[hm];simp
      have hlt:a.src.length<a1.blks.length:=by rw[←k1.len,hm];simp
      refine⟨⟨by rw[eF];exact k1.len,k1.nodup,?_,?_⟩,fun ρ ρ' M w hq hc hb=>?_⟩
      ·intro j hj;obtain⟨k,hk⟩:=k1.virt j hj;refine⟨k,?_⟩;dsimp only at hj⊢;rw[aH _ _ _ _ hlt,if_neg (fun e=>by subst e;rw[hsrc]at hj;cases hj)];exact hk
      ·intro j id' x hj hx hl;dsimp only at hj hx;rw[aH _ _ _ _ hlt]at hx;split at hx
       ·rename_i e;subst e;rw[hsrc]at hj;simp only[Option.some.injEq]at hj;subst hj;rw[hid];trivial
       ·exact k1.live j id' x hj hx hl
      ·obtain⟨b1,b2⟩:=k2 ρ ρ' M w hq hc (hb.push ha (fun p _=>trivial));refine⟨?_,fun u hr=>hr.ptr_name (hc.old _ _ hsrc)⟩;intro j id' x p hj hx hp hr;dsimp only at hj hx;rw[aH _ _ _ _ hlt]at hx;split at hx
       ·rename_i e;subst e;rw[hsrc]at hj;simp only[Option.some.injEq]at hj hx;subst hj;subst hx;rw[hid]at hr;obtain⟨h1,⟨h2,h3,h4⟩|⟨b,c,h2,h3,h4,h5⟩⟩:=hr
        ·subst h3;have:=b2 [] (by simp only[lA]);cases cs' with
         |nil=>exact⟨h1,.inl ⟨h2,rfl,h4⟩⟩
         |cons=>simp only[lA]at this
        ·have:=b2 _ h5;exact⟨by rw[←h1,this.length,h5.length],.inr ⟨b,c,h2,h3,h4,this⟩⟩
       ·exact b1 j id' x p hj hx hp hr
     ·cases hs
    ·cases hs
  ·cases hs
 | .recd ss,v,a,v',a',hs=>by
  unfold aT at hs;split at hs
  ·rename_i cs;split at hs
   ·rename_i cs' a1 hL;simp only[Option.some.injEq,Prod.mk.injEq]at hs;obtain⟨rfl,rfl⟩:=hs;obtain⟨h1,hk⟩:=nI ss cs a cs' a1 hL;refine⟨h1,fun ha=>⟨(hk ha).1,fun ρ ρ' M w hq hc hb=>⟨((hk ha).2 ρ ρ' M w hq hc hb).1,fun u hr=>?_⟩⟩⟩;simp only[pA]at hr⊢;obtain⟨vs,e,hr⟩:=hr;exact⟨vs,e,((hk ha).2 ρ ρ' M w hq hc hb).2 _ hr⟩
   ·cases hs
  ·cases hs
 | .tup ss,v,a,v',a',hs=>by
  unfold aT at hs;split at hs
  ·rename_i cs;split at hs
   ·rename_i cs' a1 hL;simp only[Option.some.injEq,Prod.mk.injEq]at hs;obtain⟨rfl,rfl⟩:=hs;obtain⟨h1,hk⟩:=nI ss cs a cs' a1 hL;refine⟨h1,fun ha=>⟨(hk ha).1,fun ρ ρ' M w hq hc hb=>⟨((hk ha).2 ρ ρ' M w hq hc hb).1,fun u hr=>?_⟩⟩⟩;simp only[pA]at hr⊢;obtain⟨vs,e,hr⟩:=hr;exact⟨vs,e,((hk ha).2 ρ ρ' M w hq hc hb).2 _ hr⟩
   ·cases hs
  ·cases hs
theorem nI {h:Nat→rA}:∀(ss:List Sh) (vs:List V) (a:o7) (vs':List V) (a':o7),fJ h ss vs a=some (vs',a')→pI h a a' (I3 vs vs')
 | [],[],a,vs',a',hs=>by simp only[fJ,Option.some.injEq,Prod.mk.injEq]at hs;obtain⟨rfl,rfl⟩:=hs;exact .same (fun ρ ρ' M w hc u hr=>by cases u<;>simp_all[lA])
 |s::ss,v::vs,a,vs',a',hs=>by
  unfold fJ at hs;split at hs
  ·rename_i v1 a1 h1;split at hs
   ·rename_i vs1 a2 h2;simp only[Option.some.injEq,Prod.mk.injEq]at hs;obtain⟨rfl,rfl⟩:=hs;obtain⟨⟨m1,e1⟩,k1⟩:=C7 s v a v1 a1 h1;obtain⟨⟨m2,e2⟩,k2⟩:=nI ss vs a1 vs1 a2 h2;refine⟨⟨m1++m2,by rw[e2,e1,hX]⟩,fun ha=>?_⟩;obtain⟨p1,p2⟩:=k1 ha;obtain⟨q1,q2⟩:=k2 p1;refine⟨q1,fun ρ ρ' M w hq hc hb=>?_⟩;obtain⟨r1,r2⟩:=p2 ρ ρ' M w hq (by rw[e2]at hc;exact hc.pre) hb;obtain⟨t1,t2⟩:=q2 ρ ρ' M w hq hc r1;refine⟨t1,fun u hr=>?_⟩;cases u with
    |nil=>simp only[lA]at hr
    |cons u us=>simp only[lA]at hr⊢;exact⟨r2 u hr.1,t2 us hr.2⟩
   ·cases hs
  ·cases hs
 | [],_::_,a,vs',a',hs=>by simp[fJ]at hs
 |_::_,[],a,vs',a',hs=>by simp[fJ]at hs
end
theorem yS:∀(H:List rA) (i:Nat) (x:rA) (j:Nat),(qD H i x)[j]?=H[j]?∨(qD H i x)[j]?=some x
 | [],_,_,_=>.inl (by simp[qD])
 |b::r,0,x,0=>.inr (by simp[qD])
 |b::r,0,x,j+1=>.inl (by simp[qD])
 |b::r,n+1,x,0=>.inl (by simp[qD])
 |b::r,n+1,x,j+1=>by simpa[qD]using yS r n x j
theorem fS:∀(bsh:List (Nat×List Sh)) (H:List rA),(mM bsh H).length=H.length
 | [],_=>rfl
 |p::r,H=>by simp only[mM];rw[fS r,eF]
theorem fV:∀(bsh:List (Nat×List Sh)) (H:List rA) (j:Nat),(mM bsh H)[j]?=H[j]?∨(mM bsh H)[j]?=some .dead
 | [],_,_=>.inl rfl
 |p::r,H,j=>by
  simp only[mM];rcases fV r (qD H p.1 .dead) j with h|h
  ·rcases yS H p.1 .dead j with g|g
   ·exact .inl (h.trans g)
   ·exact .inr (h.trans g)
  ·exact .inr h
theorem bi {h:Nat→rA}:∀(bsh:List (Nat×List Sh)) (a a':o7),o5 h bsh a=some a'→(∃more,a'.src=a.src++more)∧(cO h a→(∀p∈bsh,a.src[p.1]?=some (some p.1))→cO h a'∧∀ρ ρ' M w,HB h ρ M w→cX ρ ρ' a'.src→rL h ρ ρ' M w a→rL h ρ ρ' M w a')
 | [],a,a',hs=>by simp only[o5,Option.some.injEq]at hs;subst hs;exact⟨⟨[],by simp⟩,fun ha _=>⟨ha,fun ρ ρ' M w _ _ hb=>hb⟩⟩
 |(i,ss)::r,a,a',hs=>by
  simp only[o5]at hs;split at hs
  ·rename_i cs hid;split at hs
   ·rename_i cs' a1 hL;obtain⟨⟨m1,e1⟩,hk⟩:=nI ss cs a cs' a1 hL;obtain⟨⟨m2,e2⟩,hk2⟩:=bi r _ a' hs;dsimp only at e2;refine⟨⟨m1++m2,by rw[e2,e1,hX]⟩,fun ha hp=>?_⟩;obtain⟨k1,k2⟩:=hk ha;have hi:=hp (i,ss) (by simp);dsimp only at hi;have hilt:i<a.src.length:=(hN.mp hi).1;have hsrc:a1.src[i]?=some (some i):=by rw[e1,hG hilt];exact hi
    have hlt:i<a1.blks.length:=by rw[←k1.len,e1];simp;omega
    have hA2:cO h ⟨a1.src,qD a1.blks i (.vals cs')⟩:=by
     refine⟨by rw[eF];exact k1.len,k1.nodup,?_,?_⟩
     ·intro j hj;obtain⟨k,hk⟩:=k1.virt j hj;refine⟨k,?_⟩;dsimp only at hj⊢;rw[aH _ _ _ _ hlt,if_neg (fun e=>by subst e;rw[hsrc]at hj;cases hj)];exact hk
     ·intro j id' x hj hx hl;dsimp only at hj hx;rw[aH _ _ _ _ hlt]at hx;split at hx
      ·rename_i e;subst e;rw[hsrc]at hj;simp only[Option.some.injEq]at hj;subst hj;rw[hid];trivial
      ·exact k1.live j id' x hj hx hl
    obtain⟨q1,q2⟩:=hk2 hA2 (fun p hpr=>by have h0:=hp p (y0 _ hpr);have hlt0:p.1<a.src.length:=(hN.mp h0).1;dsimp only;rw[e1,hG hlt0];exact h0);refine⟨q1,fun ρ ρ' M w hq hc hb=>q2 ρ ρ' M w hq hc ?_⟩;obtain⟨b1,b2⟩:=k2 ρ ρ' M w hq (by rw[e2]at hc;exact hc.pre) hb;intro j id' x p hj hx hp hr;dsimp only at hj hx;rw[aH _ _ _ _ hlt]at hx;split at hx
    ·rename_i e;subst e;rw[hsrc]at hj;simp only[Option.some.injEq]at hj hx;subst hj;subst hx;rw[hid]at hr;obtain⟨h1,⟨h2,h3,h4⟩|⟨b,c,h2,h3,h4,h5⟩⟩:=hr
     ·subst h3;have:=b2 [] (by simp only[lA]);cases cs' with
      |nil=>exact⟨h1,.inl ⟨h2,rfl,h4⟩⟩
      |cons=>simp only[lA]at this
     ·have:=b2 _ h5;exact⟨by rw[←h1,this.length,h5.length],.inr ⟨b,c,h2,h3,h4,this⟩⟩
    ·exact b1 j id' x p hj hx hp hr
   ·cases hs
  ·cases hs
structure p8 where
 F:Nat→Prop
 ρ:pD
 bs:List rA
 w:World
def lG (E:bD)(S:p8)(s:St)(a:Act)(w:World):Prop:=
 ∃ρ,ir E S.F ρ (yD s.T) (nA s.H) a w∧(∀j,s.H.length≤j→ρ j=none)∧(∀j,j<E.nb→ρ j=S.ρ j)∧E.nb≤s.H.length∧yH (jA S.ρ (nA S.bs)) S.w (jA ρ (nA s.H)) w
theorem zJ {H:List rA}{j:Nat}(hl:(nA H j).live):H[j]?=some (nA H j):=by
 rw[uC,iA]at hl⊢;cases h:H[j]? with
 |none=>rw[h]at hl;exact hl.elim
 |some x=>rfl
theorem eM {H:List rA}{j:Nat}{x:rA}(h:H[j]?=some x):nA H j=x:=by
 rw[uC,iA,h];rfl
theorem aL:∀(nb:Nat) (H:List rA),pT nb H=true→∀x∈H,∀i∈wS x,i<nb
 |_,[],_,x,hx=>by simp at hx
 |nb,b::r,h,x,hx=>by
  simp only[pT,zA,yK]at h;rcases cD.mp hx with rfl|hx
  ·intro i hi;exact fD (h.1 i hi)
  ·exact aL nb r h.2 x hx
theorem wY:∀(keep:List (Nat×Sh)) (T:Nat→V) (vs:List V) (u:List Value) (ρ:pD) (M:Nat→Prop) (w:World) (ev:Nat→Value),lA ρ M w vs (keep.map fun p=>ev p.1)→∀t,pA ρ M w (yD (dD keep vs) t) (ev t)
 | [],_,vs,_,ρ,M,w,ev,hr,t=>by simp only[dD,yD,pA]
 |p::r,T,[],u,ρ,M,w,ev,hr,t=>by simp only[dD,yD,pA]
 |(d,sh)::r,T,v::vs,u,ρ,M,w,ev,hr,t=>by
  simp only[xK,lA]at hr;simp only[dD,yD];cases hb:Nat.beq d t<;>simp only[cond_true,cond_false]
  ·exact wY r T vs u ρ M w ev hr.2 t
  ·have:=rB hb;subst this;exact hr.1
theorem lA.map_fn {α:Type}{ρ:pD}{M:Nat→Prop}{w:World}(f:α→V)(g:α→Value)(h:∀x,pA ρ M w (f x) (g x)):∀l:List α,lA ρ M w (l.map f) (l.map g)
 | []=>by simp[lA]
 |x::l=>by simp only[xK,lA];exact⟨h x,lA.map_fn f g h l⟩
theorem iL {E:bD}{S:p8}{keep:List (Nat×Sh)}{s:St}{vs:List V}{H:List rA}(hn:kj E.nb keep s=some (vs,H)){a:Act}{w:World}(hI:lG E S s a w):lG E S ⟨dD keep vs,H⟩ a w:=by
 obtain⟨ρ,hr,h1,h2,h3,h4⟩:=hI;unfold kj at hn;split at hn
 ·rename_i vs' acc hs;obtain⟨hok,hn⟩:=kA hn;simp only[Option.some.injEq,Prod.mk.injEq]at hn;obtain⟨rfl,rfl⟩:=hn;obtain⟨⟨more,hsrc⟩,hk⟩:=nI _ _ _ _ _ hs;have hst:∀j:Nat,(tG E.nb s.H).src[j]?=if j<E.nb then some (some j)else none:=by
   intro j;simp only[tG,a0];by_cases hj:j<E.nb
   ·rw[v3 hj,if_pos hj];rfl
   ·rw[hD (by simp;omega),if_neg hj];rfl
  have hlen0:(tG E.nb s.H).src.length=E.nb:=by simp[tG]
  have hst2:∀j:Nat,j<E.nb→(tG E.nb s.H).blks[j]?=s.H[j]?:=fun j hj=>by simp[tG,iX,hj]
  have hacc0:cO (nA s.H) (tG E.nb s.H):=by
   refine⟨by simp[tG,h3],?_,?_,?_⟩
   ·intro i j id hi hj;rw[hst]at hi hj;split at hi<;>split at hj<;>simp_all
   ·intro j hj;rw[hst]at hj;split at hj<;>simp at hj
   ·intro j id x hj hx hl;rw[hst]at hj;split at hj
    ·rename_i hlt;rw[hst2 j hlt]at hx;simp only[Option.some.injEq]at hj;subst hj;rw[eM hx];exact hl
    ·cases hj
  obtain⟨hA,hR⟩:=hk hacc0
  let ρ':pD:=fun j=>match acc.src[j]? with
   |some (some id)=>ρ id
   |some none=>some ⟨none,0,0⟩
   |none=>none
  have hc:cX ρ ρ' acc.src:=⟨fun j id hj=>by simp only[ρ',hj],fun j hj=>by simp only[ρ',hj]⟩
  have hpre:∀j,j<E.nb→acc.src[j]?=some (some j):=fun j hj=>by rw[hsrc,hG (by rw[hlen0];exact hj),hst,if_pos hj]
  have hρ':∀j,j<E.nb→ρ' j=ρ j:=fun j hj=>hc.old j j (hpre j hj);have hb0:rL (nA s.H) ρ ρ' (av S.F (jA ρ (nA s.H))) w (tG E.nb s.H):=by
   intro j id x p hj hx hp hb;rw[hst]at hj;split at hj
   ·rename_i hlt;simp only[Option.some.injEq]at hj;subst hj;rw[hst2 j hlt]at hx;rw[eM hx]at hb;refine hb.agree (fun i hi p hp=>?_);have hin:x∈s.H.take E.nb:=hP (i:=j) (by rw[iX,if_pos hlt];exact hx);rw[hρ' i (aL _ _ hok x hin i hi)];exact hp
   ·cases hj
  obtain⟨hB,hV⟩:=hR ρ ρ' _ w (fun id p hl hp=>by obtain⟨p',hp',hb'⟩:=hr.heap.rel id hl;rw[hp]at hp';cases hp';exact hb') hc hb0;have hsrcOf:∀j,(nA acc.blks j).live→(∃id,acc.src[j]?=some (some id)∧ρ' j=ρ id∧(nA s.H id).live)∨(acc.src[j]?=some none∧ρ' j=some ⟨none,0,0⟩∧∃k,nA acc.blks j= .ints k []):=by
   intro j hl;have hx:=zJ hl;have hj:j<acc.src.length:=by rw[hA.len];exact(hN.mp hx).1
   cases hsj:acc.src[j]with
   |some id=>
    have h0:acc.src[j]?=some (some id):=by rw[hC hj,hsj]
    exact .inl ⟨id,h0,hc.old j id h0,hA.live j id _ h0 hx hl⟩
   |none=>
    have h0:acc.src[j]?=some none:=by rw[hC hj,hsj]
    obtain⟨k,hk⟩:=hA.virt j h0;exact .inr ⟨h0,hc.nil j h0,k,eM hk⟩
  have hM:∀b,jA ρ' (nA acc.blks) b→jA ρ (nA s.H) b:=by
   rintro b ⟨j,n,C,hp,hl⟩;rcases hsrcOf j hl with⟨id,_,g2,g3⟩|⟨_,g2,_⟩
   ·rw[g2]at hp;exact⟨id,n,C,hp,g3⟩
   ·rw[g2]at hp;cases hp
  have hMa:∀b,av S.F (jA ρ' (nA acc.blks)) b→av S.F (jA ρ (nA s.H)) b:=fun b hb=>hb.imp id (hM b);refine⟨ρ',⟨⟨?_,?_,?_,hr.heap.low,fun b hb=>hr.heap.out b (hM b hb)⟩,?_,hr.size,hr.defers⟩,?_,fun j hj=>by rw[hρ' j hj];exact h2 j hj,?_,⟨h4.size,h4.same,fun b hb=>h4.sub b (hM b hb),h4.keeps⟩⟩
  ·intro j p hp;simp only[ρ']at hp;split at hp
   ·exact hr.heap.wf _ _ hp
   ·simp only[Option.some.injEq]at hp;subst hp;exact t3 _
   ·cases hp
  ·intro j hl;dsimp only at hl⊢;rcases hsrcOf j hl with⟨id,g1,g2,g3⟩|⟨_,g2,k,g3⟩
   ·obtain⟨p,hp,hb⟩:=hr.heap.rel id g3;exact⟨p,by rw[g2];exact hp,oB.avoid hMa (hB j id _ p g1 (zJ hl) hp hb)⟩
   ·exact⟨_,g2,by rw[g3];exact⟨rfl,.inl ⟨rfl,rfl,rfl⟩⟩⟩
  ·intro i j b n C n' C' hi hj hpi hpj;rcases hsrcOf i hi with⟨id,g1,g2,g3⟩|⟨_,g2,_⟩
   ·rcases hsrcOf j hj with⟨id',g1',g2',g3'⟩|⟨_,g2',_⟩
    ·rw[g2]at hpi;rw[g2']at hpj;have:=hr.heap.inj id id' b _ _ _ _ g3 g3' hpi hpj;subst this;exact hA.nodup i j id g1 g1'
    ·rw[g2']at hpj;cases hpj
   ·rw[g2]at hpi;cases hpi
  ·intro t;refine pA.avoid hMa _ _ ?_;refine wY keep (yD s.T) vs' [] ρ' _ w (fun t=>a.eval (.tmp t)) (hV _ ?_) t;exact lA.map_fn _ _ (fun p=>hr.tmps p.1) keep
  ·intro j hj;dsimp only at hj;rw[←hA.len]at hj;simp only[ρ',hD hj]
  ·dsimp only;rw[←hA.len,hsrc];simp[hlen0]
 ·cases hn
theorem Bg {E:bD}{S:p8}{bsh:List (Nat×List Sh)}{keep:List (Nat×Sh)}{s:St}{vs:List V}{H:List rA}(hn:Bf E.nb bsh keep s=some (vs,H)){a:Act}{w:World}(hI:lG E S s a w):lG E S ⟨dD keep vs,H⟩ a w:=by
 obtain⟨ρ,hr,h1,h2,h3,h4⟩:=hI;unfold Bf at hn;split at hn
 ·rename_i vs' acc0 hs;split at hn
  rotate_left
  ·cases hn
  rename_i acc hsB;obtain⟨hok0,hn⟩:=kA hn;obtain⟨hok,hall⟩:=wB hok0;simp only[Option.some.injEq,Prod.mk.injEq]at hn;obtain⟨rfl,rfl⟩:=hn;obtain⟨⟨more0,hsrc0⟩,hk0⟩:=nI _ _ _ _ _ hs;obtain⟨⟨more1,hsrc1⟩,hk1⟩:=bi _ _ _ hsB;have hsrc:acc.src=(List.range E.nb).map some++(more0++more1):=by rw[hsrc1,hsrc0,hX]
  have hst:∀j:Nat,((List.range E.nb).map some)[j]?=if j<E.nb then some (some j)else none:=by
   intro j;simp only[a0];by_cases hj:j<E.nb
   ·rw[v3 hj,if_pos hj];rfl
   ·rw[hD (by simp;omega),if_neg hj];rfl
  have hlen0:((List.range E.nb).map some).length=E.nb:=by simp
  have hst2:∀j:Nat,j<E.nb→(mM bsh (s.H.take E.nb))[j]?=s.H[j]?∨(mM bsh (s.H.take E.nb))[j]?=some .dead:=fun j hj=>by
   rcases fV bsh (s.H.take E.nb) j with h|h
   ·exact .inl (h.trans (by simp[iX,hj]))
   ·exact .inr h
  have hacc0:cO (nA s.H) ⟨(List.range E.nb).map some,mM bsh (s.H.take E.nb)⟩:=by
   refine⟨by simp[fS,h3],?_,?_,?_⟩
   ·intro i j id hi hj;rw[hst]at hi hj;split at hi<;>split at hj<;>simp_all
   ·intro j hj;rw[hst]at hj;split at hj<;>simp at hj
   ·intro j id x hj hx hl;rw[hst]at hj;split at hj
    ·rename_i hlt;simp only[Option.some.injEq]at hj;subst hj;rcases hst2 j hlt with g|g
     ·dsimp only at hx;rw[g]at hx;rw[eM hx];exact hl
     ·dsimp only at hx;rw[g]at hx;simp only[Option.some.injEq]at hx;subst hx;exact hl.elim
    ·cases hj
  obtain⟨hA0,hR0⟩:=hk0 hacc0;have hpre0:∀p∈bsh,acc0.src[p.1]?=some (some p.1):=fun p hp=>by have:=yK.mp hall p hp;have:=fD this;rw[hsrc0,hG (by rw[hlen0];exact this),hst,if_pos this]
  obtain⟨hA,hR1⟩:=hk1 hA0 hpre0
  let ρ':pD:=fun j=>match acc.src[j]? with
   |some (some id)=>ρ id
   |some none=>some ⟨none,0,0⟩
   |none=>none
  have hc:cX ρ ρ' acc.src:=⟨fun j id hj=>by simp only[ρ',hj],fun j hj=>by simp only[ρ',hj]⟩
  have hpre:∀j,j<E.nb→acc.src[j]?=some (some j):=fun j hj=>by rw[hsrc,hG (by rw[hlen0];exact hj),hst,if_pos hj]
  have hρ':∀j,j<E.nb→ρ' j=ρ j:=fun j hj=>hc.old j j (hpre j hj);have hb0:rL (nA s.H) ρ ρ' (av S.F (jA ρ (nA s.H))) w ⟨(List.range E.nb).map some,mM bsh (s.H.take E.nb)⟩:=by
   intro j id x p hj hx hp hb;rw[hst]at hj;split at hj
   ·rename_i hlt;simp only[Option.some.injEq]at hj;subst hj;dsimp only at hx;have hin:x∈mM bsh (s.H.take E.nb):=hP hx;rcases hst2 j hlt with g|g
    ·rw[g]at hx;rw[eM hx]at hb;refine hb.agree (fun i hi p hp=>?_);rw[hρ' i (aL _ _ hok x hin i hi)];exact hp
    ·rw[g]at hx;simp only[Option.some.injEq]at hx;subst hx;trivial
   ·cases hj
  have hHB:HB (nA s.H) ρ (av S.F (jA ρ (nA s.H))) w:=fun id p hl hp=>by obtain⟨p',hp',hb'⟩:=hr.heap.rel id hl;rw[hp]at hp';cases hp';exact hb'
  obtain⟨hB0,hV⟩:=hR0 ρ ρ' _ w hHB (by rw[hsrc1]at hc;exact hc.pre) hb0;have hB:=hR1 ρ ρ' _ w hHB hc hB0;have hsrcOf:∀j,(nA acc.blks j).live→(∃id,acc.src[j]?=some (some id)∧ρ' j=ρ id∧(nA s.H id).live)∨(acc.src[j]?=some none∧ρ' j=some ⟨none,0,0⟩∧∃k,nA acc.blks j= .ints k []):=by
   intro j hl;have hx:=zJ hl;have hj:j<acc.src.length:=by rw[hA.len];exact(hN.mp hx).1
   cases hsj:acc.src[j]with
   |some id=>
    have h0:acc.src[j]?=some (some id):=by rw[hC hj,hsj]
    exact .inl ⟨id,h0,hc.old j id h0,hA.live j id _ h0 hx hl⟩
   |none=>
    have h0:acc.src[j]?=some none:=by rw[hC hj,hsj]
    obtain⟨k,hk⟩:=hA.virt j h0;exact .inr ⟨h0,hc.nil j h0,k,eM hk⟩
  have hM:∀b,jA ρ' (nA acc.blks) b→jA ρ (nA s.H) b:=by
   rintro b ⟨j,n,C,hp,hl⟩;rcases hsrcOf j hl with⟨id,_,g2,g3⟩|⟨_,g2,_⟩
   ·rw[g2]at hp;exact⟨id,n,C,hp,g3⟩
   ·rw[g2]at hp;cases hp
  have hMa:∀b,av S.F (jA ρ' (nA acc.blks)) b→av S.F (jA ρ (nA s.H)) b:=fun b hb=>hb.imp id (hM b);refine⟨ρ',⟨⟨?_,?_,?_,hr.heap.low,fun b hb=>hr.heap.out b (hM b hb)⟩,?_,hr.size,hr.defers⟩,?_,fun j hj=>by rw[hρ' j hj];exact h2 j hj,?_,⟨h4.size,h4.same,fun b hb=>h4.sub b (hM b hb),h4.keeps⟩⟩
  ·intro j p hp;simp only[ρ']at hp;split at hp
   ·exact hr.heap.wf _ _ hp
   ·simp only[Option.some.injEq]at hp;subst hp;exact t3 _
   ·cases hp
  ·intro j hl;dsimp only at hl⊢;rcases hsrcOf j hl with⟨id,g1,g2,g3⟩|⟨_,g2,k,g3⟩
   ·obtain⟨p,hp,hb⟩:=hr.heap.rel id g3;exact⟨p,by rw[g2];exact hp,oB.avoid hMa (hB j id _ p g1 (zJ hl) hp hb)⟩
   ·exact⟨_,g2,by rw[g3];exact⟨rfl,.inl ⟨rfl,rfl,rfl⟩⟩⟩
  ·intro i j b n C n' C' hi hj hpi hpj;rcases hsrcOf i hi with⟨id,g1,g2,g3⟩|⟨_,g2,_⟩
   ·rcases hsrcOf j hj with⟨id',g1',g2',g3'⟩|⟨_,g2',_⟩
    ·rw[g2]at hpi;rw[g2']at hpj;have:=hr.heap.inj id id' b _ _ _ _ g3 g3' hpi hpj;subst this;exact hA.nodup i j id g1 g1'
    ·rw[g2']at hpj;cases hpj
   ·rw[g2]at hpi;cases hpi
  ·intro t;refine pA.avoid hMa _ _ ?_;refine wY keep (yD s.T) vs' [] ρ' _ w (fun t=>a.eval (.tmp t)) (hV _ ?_) t;exact lA.map_fn _ _ (fun p=>hr.tmps p.1) keep
  ·intro j hj;dsimp only at hj;rw[←hA.len]at hj;simp only[ρ',hD hj]
  ·dsimp only;rw[←hA.len,hsrc];simp[hlen0]
 ·cases hn
section
variable {P:Program}{F:Nat→Prop}{ρ:pD}{h:Nat→rA}{w:World}
mutual
theorem wl (hh:mA F ρ h w){nb:Nat}{ρ':pD}{M':Nat→Prop}(hρ:∀i,i<nb→ρ' i=ρ i)(hM:∀b,M' b→jA ρ h b)(hM':∀b,M' b→∀id n C,nb≤id→(h id).live→ρ id≠some ⟨some b,n,C⟩):
  ∀(sh:Sh) (v v':V) (u:Value),lN nb h sh v=some v'→pA ρ (av F (jA ρ h)) w v u→pA ρ' (av F M') w v' u
 | .il k s,v,v',u,hf,hr=>by
  have hMa:∀b,av F M' b→av F (jA ρ h) b:=fun b hb=>hb.imp id (hM b);have key:∀id b n C,nb≤id→(h id).live→ρ id=some ⟨some b,n,C⟩→¬av F M' b:=fun id b n C h1 h2 h3 hb=>hb.elim (fun hf=>hh.out b ⟨id,n,C,h3,h2⟩ hf) (fun hm=>hM' b hm id n C h1 h2 h3);unfold lN at hf;split at hf
  ·obtain⟨h0,hf⟩:=kA hf;simp only[Option.some.injEq]at hf;subst hf;simp only[pA]at hr⊢;exact⟨fD h0,by simp,.inl ⟨trivial,none,hr⟩⟩
  ·obtain⟨h0,hf⟩:=kA hf;simp only[Option.some.injEq]at hf;subst hf;have:=pA.avoid hMa _ _ hr;simpa only[pA]using this
  ·rename_i id s';obtain⟨h0,hf2⟩:=kA hf;clear hf;simp only[zA]at h0;have h1:=yF h0.1;have h2:=rB h0.2;clear h0;subst h2;split at hf2
   ·rename_i k' l hid;obtain⟨_,hf⟩:=kA hf2;simp only[Option.some.injEq]at hf;subst hf;have hl:(h id).live:=by rw[hid];trivial
    obtain⟨g0,⟨b,n,C,cap,c,g1,g2,g3,g4,g5,ho,hsz,hold⟩|⟨g1,g2,hk⟩⟩:=uG hh hr hl (by rw[hid];trivial)
    ·rw[hid]at hold;obtain⟨e1,e2,e3⟩:=hold;simp only[pA];refine⟨g0,by rw[e1];exact g2,.inr ⟨b,0,cap,by rw[e1];exact g5,by rw[e1];exact g3,ho.lt,key id b n C h1 hl g1,fun j hj=>?_⟩⟩;rw[z2,ho.cell];exact e3 j hj
    ·rw[hid]at hk;rcases hk with⟨k2,hk⟩|hk<;>cases hk;simp only[pA];exact⟨g0,by simp,.inl ⟨trivial,none,g2⟩⟩
   ·cases hf2
  ·rename_i id s' off len;obtain⟨h0,hf2⟩:=kA hf;clear hf;simp only[zA]at h0;have h1:=yF h0.1;have h2:=rB h0.2;clear h0;subst h2;split at hf2
   ·rename_i k' l hid;obtain⟨_,hf⟩:=kA hf2;simp only[Option.some.injEq]at hf;subst hf;have hl:(h id).live:=by rw[hid];trivial
    simp only[pA]at hr⊢;obtain⟨g0,⟨b,n,C,cap,g1,g2,g3,g4,g5⟩|⟨g1,a,g2⟩⟩:=hr
    ·obtain⟨c,ho,hsz,hold⟩:=hh.own hl (by rw[hid];trivial) g1;rw[hid]at hold;obtain⟨e1,e2,e3⟩:=hold;have hlen:((l.drop off).take (qG s len)).length=len*s:=by rw[yB];simp;omega
     rw[hlen];refine⟨g0,Nat.mul_mod_left _ _,.inr ⟨b,off,cap,by rw[i0 _ g0];exact g5,by rw[i0 _ g0];exact g3,ho.lt,key id b n C h1 hl g1,fun j hj=>?_⟩⟩;rw[ho.cell,e3 _ (by omega)];congr 2;simp only[iA];rw[v2 (by rw[yB];omega),y1]
    ·subst g1;have:(l.drop off).take (qG s 0)=[]:=by rw[yB];simp
     rw[this];exact⟨g0,by simp,.inl ⟨rfl,a,g2⟩⟩
   ·cases hf2
  ·cases hf
 | .recd ss,v,v',u,hf,hr=>by
  unfold lN at hf;split at hf
  ·rename_i cs;split at hf
   ·rename_i cs' hL;simp only[Option.some.injEq]at hf;subst hf;simp only[pA]at hr⊢;obtain⟨vs,e,hr⟩:=hr;exact⟨vs,e,gK hh hρ hM hM' ss cs cs' _ hL hr⟩
   ·cases hf
  ·cases hf
 | .tup ss,v,v',u,hf,hr=>by
  unfold lN at hf;split at hf
  ·rename_i cs;split at hf
   ·rename_i cs' hL;simp only[Option.some.injEq]at hf;subst hf;simp only[pA]at hr⊢;obtain⟨vs,e,hr⟩:=hr;exact⟨vs,e,gK hh hρ hM hM' ss cs cs' _ hL hr⟩
   ·cases hf
  ·cases hf
 | .any,v,v',u,hf,hr=>by simp only[lN]at hf;obtain⟨h0,hf⟩:=kA hf;simp only[Option.some.injEq]at hf;subst hf;simp only[yK]at h0;exact pA.avoid (fun b hb=>hb.imp id (hM b)) _ _ (hr.agree _ _ (fun i hi p hp=>by rw[hρ i (fD (h0 i hi))];exact hp))
 | .row _ _,v,v',u,hf,hr=>by simp only[lN]at hf;obtain⟨h0,hf⟩:=kA hf;simp only[Option.some.injEq]at hf;subst hf;simp only[yK]at h0;exact pA.avoid (fun b hb=>hb.imp id (hM b)) _ _ (hr.agree _ _ (fun i hi p hp=>by rw[hρ i (fD (h0 i hi))];exact hp))
 | .part _ _,v,v',u,hf,hr=>by simp only[lN]at hf;obtain⟨h0,hf⟩:=kA hf;simp only[Option.some.injEq]at hf;subst hf;simp only[yK]at h0;exact pA.avoid (fun b hb=>hb.imp id (hM b)) _ _ (hr.agree _ _ (fun i hi p hp=>by rw[hρ i (fD (h0 i hi))];exact hp))
 | .box _,v,v',u,hf,hr=>by simp only[lN]at hf;obtain⟨h0,hf⟩:=kA hf;simp only[Option.some.injEq]at hf;subst hf;simp only[yK]at h0;exact pA.avoid (fun b hb=>hb.imp id (hM b)) _ _ (hr.agree _ _ (fun i hi p hp=>by rw[hρ i (fD (h0 i hi))];exact hp))
theorem gK (hh:mA F ρ h w){nb:Nat}{ρ':pD}{M':Nat→Prop}(hρ:∀i,i<nb→ρ' i=ρ i)(hM:∀b,M' b→jA ρ h b)(hM':∀b,M' b→∀id n C,nb≤id→(h id).live→ρ id≠some ⟨some b,n,C⟩):
  ∀(ss:List Sh) (vs vs':List V) (us:List Value),lH nb h ss vs=some vs'→lA ρ (av F (jA ρ h)) w vs us→lA ρ' (av F M') w vs' us
 | [],[],vs',us,hf,hr=>by simp only[lH,Option.some.injEq]at hf;subst hf;cases us<;>simp_all[lA]
 |s::ss,v::vs,vs',us,hf,hr=>by
  unfold lH at hf;split at hf
  ·rename_i v1 h1;split at hf
   ·rename_i vs1 h2;simp only[Option.some.injEq]at hf;subst hf;cases us with
    |nil=>simp only[lA]at hr
    |cons u us=>simp only[lA]at hr⊢;exact⟨wl hh hρ hM hM' s v v1 u h1 hr.1,gK hh hρ hM hM' ss vs vs1 us h2 hr.2⟩
   ·cases hf
  ·cases hf
 | [],_::_,vs',us,hf,hr=>by simp[lH]at hf
 |_::_,[],vs',us,hf,hr=>by simp[lH]at hf
end
theorem sW {E:bD}(hty:vD P E.ty){s:St}{a:Act}(hr:ir E F ρ (yD s.T) (nA s.H) a w):∀(rs:List ResultVar) (vs:List V),qc E s rs=some vs→
  ∃us,lA ρ (av F (jA ρ (nA s.H))) w vs us∧(rs.mapM (m:=Sem) fun
   | .tmp t=>pure (a.tmps.getD t undef)
   | .cell x t=>do loadVar t (←asAddr (a.tmps.getD x undef))).run P w= .ok us w
 | [],vs,h=>by simp only[qc,Option.some.injEq]at h;subst h;exact⟨[],by simp[lA],by simp⟩
 | .tmp t::r,vs,h=>by
  simp only[qc]at h;split at h
  ·rename_i vs1 h1;simp only[Option.some.injEq]at h;subst h;obtain⟨us,g1,g2⟩:=sW hty hr r vs1 h1;refine⟨_::us,⟨hr.tmps t,g1⟩,?_⟩;simp only[List.mapM_cons,j0,k0,o0,g2,Act.eval]
  ·cases h
 | .cell x t::r,vs,h=>by
  simp only[qc]at h;split at h
  ·rename_i ti id off ext hti hx;obtain⟨h0,h⟩:=kA h;simp only[zA]at h0;have hle:=yF h0.1;have hpos:=fD h0.2;split at h
   ·rename_i v1 vs1 hv h1;simp only[Option.some.injEq]at h;subst h;obtain⟨us,g1,g2⟩:=sW hty hr r vs1 h1;have hx':=hr.tmps x;rw[hx]at hx';simp only[pA]at hx';obtain⟨b,n,C,hp,hn,he⟩:=hx';have hlive:(nA s.H id).live:=by
     cases hb:nA s.H id with
     |dead=>rw[hb]at hv;simp[oH]at hv
     |_=>trivial
    have h0':=hty _ _ hti;obtain⟨v,r1,r2⟩:=oN (b:=b) (o:=0) h0' hpos (hr.heap.cellsAt hlive hp) (by omega) hv h0'.one;rw[z2]at r1;refine⟨v::us,⟨r2,g1⟩,?_⟩;simp only[Act.eval]at he;have ha:(asAddr (a.tmps.getD x undef)).run P w= .ok ⟨b,off,none⟩ w:=by rw[he];rfl
    simp only[List.mapM_cons,j0,k0,o0,ha,r1,g2]
   ·cases h
  ·cases h
theorem Bm {vs:List V}{us:List Value}{M:Nat→Prop}(hr:lA ρ M w vs us):pA ρ M w (one vs) (if h:us.toArray.size=1 then us.toArray[0]else .tuple us.toArray):=by
 have hl:=hr.length;unfold one;split
 ·rename_i v;cases us with
  |nil=>simp at hl
  |cons u us=>
   cases us with
   |nil=>simp only[lA]at hr;simpa using hr.1
   |cons=>simp at hl
 ·rename_i h1;have hne:¬us.toArray.size=1:=by
   intro he;simp at he;rw[←hl]at he;obtain⟨v,hv⟩:=List.length_eq_one_iff.mp he;exact h1 v hv
  rw[dif_neg hne];simp only[pA];exact⟨_,rfl,by simpa using hr⟩
theorem xO:∀(vs:List V) (us:List Value) (i t:Nat) (ρ:pD) (M:Nat→Prop) (w:World) (d:Value),lA ρ M w vs us→pA ρ M w (yD (zO i vs) t) (if i≤t∧t<i+us.length then us.getD (t-i) undef else d)
 | [],us,i,t,ρ,M,w,d,hr=>by simp only[zO,yD,pA]
 |v::vs,[],i,t,ρ,M,w,d,hr=>by simp only[lA]at hr
 |v::vs,u::us,i,t,ρ,M,w,d,hr=>by
  simp only[lA]at hr;simp only[zO,yD];cases hb:Nat.beq i t<;>simp only[cond_true,cond_false]
  ·have hne:i≠t:=fun e=>by subst e;simp at hb
   have:=xO vs us (i+1) t ρ M w d hr.2;by_cases hc:i≤t∧t<i+(us.length+1)
   ·rw[if_pos (by omega)]at this;rw[if_pos (by simp;omega)];have e:t-i=(t- (i+1))+1:=by omega
    rw[e];simpa using this
   ·rw[if_neg (by omega)]at this;rw[if_neg (by simp;omega)];exact this
  ·have:=rB hb;subst this;rw[if_pos (by simp)];simpa using hr.1
theorem xS {ρ:pD}{M:Nat→Prop}{w:World}:∀(i:Nat) (ss:List Sh) (vs:List V) (us:List Value),vs.length=ss.length→us.length=ss.length→(∀t,pA ρ M w (yD (dD (my i ss) vs) (i+t)) (us.getD t undef))→lA ρ M w vs us
 |i,[],[],[],_,_,_=>by simp only[lA]
 |i,s::ss,v::vs,u::us,h1,h2,h=>by
  simp only[lA];have h0:=h 0;simp only[my,dD,yD,Nat.add_zero,Nat.beq_refl,cond_true]at h0;refine⟨by simpa using h0,xS (i+1) ss vs us (by simpa using h1) (by simpa using h2) fun t=>?_⟩;have ht:=h (t+1);have hb:Nat.beq i (i+(t+1))=false:=by
   cases hc:Nat.beq i (i+(t+1))with
   |false=>rfl
   |true=>have:=rB hc;omega
  simp only[my,dD,yD,hb,cond_false]at ht;have e:i+1+t=i+(t+1):=by omega
  rw[e];simpa using ht
 |i,[],_::_,_,h1,_,_=>by simp at h1
 |i,_::_,[],_,h1,_,_=>by simp at h1
 |i,[],[],_::_,_,h2,_=>by simp at h2
 |i,_::_,_::_,[],_,h2,_=>by simp at h2
def Ej (P:Program)(fn:Func)(S:p8)(v:V)(bs:List rA)(a:Act)(w:World):Prop:=
 a.defers=[]∧∃u,(results fn a.tmps).run P w= .ok u w∧jT S.F S.ρ S.bs S.w v bs u w
theorem Ag {E:bD}{fn:Func}(hty:vD P E.ty)(hres:E.res=fn.results.toList){S:p8}(hnb:E.nb=S.bs.length){s:St}{v:V}{bs:List rA}(hf:fin E s=some (v,bs)){a:Act}(hI:lG E S s a w):Ej P fn S v bs a w:=by
 obtain⟨ρ,hr,h1,h2,h3,h4⟩:=hI;refine⟨hr.defers,?_⟩;unfold fin at hf;split at hf
 ·cases hf
 ·rename_i vs hvs;have hf0:=hf;clear hf;cases hrow:E.own<;>rw[hrow]at hf0<;>simp only[cond_true,cond_false]at hf0
  rotate_left
  ·split at hf0
   ·cases hf0
   ·rename_i vs' H' hn;obtain⟨hok,hf⟩:=kA hf0;simp only[Option.some.injEq,Prod.mk.injEq]at hf;obtain⟨rfl,rfl⟩:=hf;simp only[zA]at hok;have hl1:=rB hok.1;have hl2:=rB hok.2;obtain⟨us,g1,g2⟩:=sW hty hr _ _ hvs;have hlu:=g1.length;refine⟨if h:us.toArray.size=1 then us.toArray[0]else .tuple us.toArray,?_,?_⟩
    ·unfold results;rw[←u3 (xs:=fn.results),List.mapM_toArray,←hres];simp only[bind_map_left,j0,k0];exact(congrArg (fun r=>Result.andThen r _) g2).trans rfl
    ·have hev:∀t,Act.eval ⟨us.toArray,[]⟩ (.tmp t)=us.getD t undef:=fun t=>by simp[Act.eval,iA]
     have hI1:lG {E with ntmps:=us.length} S ⟨zO 0 vs,s.H⟩ ⟨us.toArray,[]⟩ w:=by
      refine⟨ρ,⟨hr.heap,fun t=>?_,by simp,rfl⟩,h1,h2,h3,h4⟩;have:=xO vs us 0 t ρ (av S.F (jA ρ (nA s.H))) w undef g1;rw[hev];dsimp only;split at this
      ·simpa using this
      ·rename_i hge;have:us.getD t undef=undef:=by
        rw[iA,hD (by omega)];rfl
       rw[this];assumption
     obtain⟨ρ',k1,k2,k3,k4,k5⟩:=Bg (E:={E with ntmps:=us.length}) hn hI1;refine⟨ρ',fun j hj=>k3 j (by dsimp only;omega),k2,k1.heap,Bm (xS 0 E.rsh vs' us hl2 (by omega) fun t=>?_),k5⟩;have:=k1.tmps t;rw[hev]at this;rw[z2];exact this
  have hf:=hf0;clear hf0;split at hf
  ·cases hf
  ·rename_i vs' hfz;obtain⟨hok,hf⟩:=kA hf;simp only[Option.some.injEq,Prod.mk.injEq]at hf;obtain⟨rfl,rfl⟩:=hf;obtain⟨us,g1,g2⟩:=sW hty hr _ _ hvs;refine⟨if h:us.toArray.size=1 then us.toArray[0]else .tuple us.toArray,?_,?_⟩
   ·unfold results;rw[←u3 (xs:=fn.results),List.mapM_toArray,←hres];simp only[bind_map_left,j0,k0];exact(congrArg (fun r=>Result.andThen r _) g2).trans rfl
   ·let ρ':pD:=fun j=>if j<E.nb then ρ j else none
    have hρ':∀j,j<E.nb→ρ' j=ρ j:=fun j hj=>if_pos hj;have hbt:∀j,nA (s.H.take E.nb) j=if j<E.nb then nA s.H j else .dead:=fun j=>by rw[uC,uC,iA,iA,iX];split<;>rfl
    have hlive:∀j,(nA (s.H.take E.nb) j).live→j<E.nb∧(nA s.H j).live:=fun j hl=>by
     rw[hbt]at hl;split at hl
     ·exact⟨by assumption,hl⟩
     ·exact hl.elim
    have hM:∀b,jA ρ' (nA (s.H.take E.nb)) b→jA ρ (nA s.H) b:=by rintro b ⟨j,n,C,hp,hl⟩;obtain⟨k1,k2⟩:=hlive j hl;rw[hρ' j k1]at hp;exact⟨j,n,C,hp,k2⟩
    have hMa:∀b,av S.F (jA ρ' (nA (s.H.take E.nb))) b→av S.F (jA ρ (nA s.H)) b:=fun b hb=>hb.imp id (hM b);refine⟨ρ',fun j hj=>?_,fun j hj=>?_,⟨?_,?_,?_,hr.heap.low,fun b hb=>hr.heap.out b (hM b hb)⟩,?_,⟨h4.size,h4.same,fun b hb=>h4.sub b (hM b hb),h4.keeps⟩⟩
    ·rw[hρ' j (by omega)];exact h2 j (by omega)
    ·have:¬j<E.nb:=by simp[List.length_take]at hj;omega
     exact if_neg this
    ·intro j p hp;simp only[ρ']at hp;split at hp
     ·exact hr.heap.wf _ _ hp
     ·cases hp
    ·intro j hl;obtain⟨k1,k2⟩:=hlive j hl;obtain⟨p,hp,hb⟩:=hr.heap.rel j k2;refine⟨p,by rw[hρ' j k1];exact hp,?_⟩;rw[hbt,if_pos k1];refine oB.avoid hMa (hb.agree (fun i hi p hp=>?_));have hin:nA s.H j∈s.H.take E.nb:=hP (i:=j) (by rw[iX,if_pos k1];exact zJ k2);rw[hρ' i (aL _ _ hok _ hin i hi)];exact hp
    ·intro i j b n C n' C' hi hj hpi hpj;obtain⟨k1,k2⟩:=hlive i hi;obtain⟨k3,k4⟩:=hlive j hj;rw[hρ' i k1]at hpi;rw[hρ' j k3]at hpj;exact hr.heap.inj i j b _ _ _ _ k2 k4 hpi hpj
    ·refine Bm (gK hr.heap hρ' hM ?_ _ _ _ _ hfz g1);rintro b ⟨j,n,C,hp,hl⟩ id n' C' hid hli hpi;obtain⟨k1,k2⟩:=hlive j hl;rw[hρ' j k1]at hp;have:=hr.heap.inj j id b _ _ _ _ k2 hli hp hpi;omega
end
def ft (P:Program)(body:Code)(Q:Exit→Act→World→Prop):Nat→Code→Act→World→Prop
 |0,_,_,_=>False
 |n+1,c,a,w=>c.wp P (fun e a' w'=>match e with
  | .goto l=>∃rest,findLabel body l=some rest∧ft P body Q n rest a' w'
  |e=>Q e a' w') a w
theorem gO {P:Program}{body:Code}{Q:Exit→Act→World→Prop}{a:Act}{w:World}(n:Nat)(h:ft P body Q n body a w):(Code.scope body).wp P Q a w:=by
 intro b k cs;have key:∀n c a w,ft P body Q n c a w→∃e a' w',Q e a' w'∧Arrives P (lone (b.at a (.code c:: .inScope body::k)) cs w) b k cs e a' w':=by
  intro n;induction n with
  |zero=>intro c a w h;exact h.elim
  |succ n ih=>
   intro c a w h;obtain⟨e,a₁,w₁,hq,harr⟩:=h b (.inScope body::k) cs;cases e with
   |normal=>exact⟨.normal,a₁,w₁,hq,Steps.trans harr (.one step_inScope)⟩
   |exit id=>exact⟨.exit id,a₁,w₁,hq,fun k' hk=>harr k' (by simp[exitTo,hk])⟩
   |goto l=>obtain⟨rest,hf,hp⟩:=hq;obtain⟨e₂,a₂,w₂,hq₂,harr₂⟩:=ih rest a₁ w₁ hp;exact⟨e₂,a₂,w₂,hq₂,.of_steps (harr _ (by simp[gotoIn,hf])) harr₂⟩
   |ret=>exact⟨_,a₁,w₁,hq,harr⟩
   |panic ch=>exact⟨_,a₁,w₁,hq,harr⟩
   |outgrown=>exact⟨_,a₁,w₁,hq,harr⟩
 obtain⟨e,a₁,w₁,hq,harr⟩:=key n body a w h;exact⟨e,a₁,w₁,hq,.of_steps (.one step_scope) harr⟩
theorem sK:∀(c:Code) (l:Nat) (rest:Code),findLabel c l=some rest→∀x∈eA rest,x∈eA c
 | .seq a b,l,rest,h,x,hx=>by
  simp only[findLabel]at h;split at h
  ·rename_i r hr;simp only[Option.some.injEq]at h;subst h;simp only[eA,aE]at hx⊢;exact hx.imp (sK a l r hr x) (fun y=>y)
  ·simp only[eA,aE];exact .inr (sK b l rest h x hx)
 | .label l',l,rest,h,x,hx=>by
  simp only[findLabel]at h;split at h
  ·simp only[Option.some.injEq]at h;subst h;simp[eA]at hx
  ·cases h
 | .skip,_,_,h,_,_=>by simp[findLabel]at h
 | .region ..,_,_,h,_,_=>by simp[findLabel]at h
 | .cond ..,_,_,h,_,_=>by simp[findLabel]at h
 | .block ..,_,_,h,_,_=>by simp[findLabel]at h
 | .loop ..,_,_,h,_,_=>by simp[findLabel]at h
 | .scope ..,_,_,h,_,_=>by simp[findLabel]at h
 | .exit ..,_,_,h,_,_=>by simp[findLabel]at h
 | .goto ..,_,_,h,_,_=>by simp[findLabel]at h
 | .ret,_,_,h,_,_=>by simp[findLabel]at h
 | .rangeFunc ..,_,_,h,_,_=>by simp[findLabel]at h
 | .refuse ..,_,_,h,_,_=>by simp[findLabel]at h
section
variable {P:Program}{fn:Func}{E:bD}
def Is (P:Program)(fn:Func)(E:bD)(S:p8):Ex→St→Exit→Act→World→Prop
 | .normal,s,x,a,w=>x= .normal∧lG E S s a w
 | .exit i,s,x,a,w=>x= .exit i∧lG E S s a w
 | .goto l,s,x,a,w=>x= .goto l∧lG E S s a w
 | .ret v bs,_,x,a,w=>x= .ret∧Ej P fn S v bs a w
def Fe (P:Program)(fn:Func)(E:bD)(c:Code)(s:St){R:Type}(k:Ex→St→Option R)(r:R):Prop:=
 ∀S a w,E.nb=S.bs.length→lG E S s a w→c.wp P (fun x a' w'=>∃ex s',k ex s'=some r∧Is P fn E S ex s' x a' w') a w
def xB (P:Program)(fn:Func)(E:bD):Code→Prop
 | .loop b=>∀e hd,E.cut (yC b)=some e→E.hint (yC b)=some hd→∀(R:Type) vs H (k:Ex→St→Option R) r,e.run vs H k=some r→Fe P fn E (.loop b) ⟨dD hd.keep vs,H⟩ k r
 | .scope b=>∀e hd,E.cut (1000000+yC b)=some e→E.hint (1000000+yC b)=some hd→∀(R:Type) vs H (k:Ex→St→Option R) r,e.run vs H k=some r→Fe P fn E (.scope b) ⟨dD hd.keep vs,H⟩ k r
 |_=>True
def gW (P:Program)(fn:Func)(E:bD)(c:Code)(f:{R:Type}→St→(Ex→St→Option R)→Option R):Prop:=
 ∀(R:Type) s (k:Ex→St→Option R) r,f s k=some r→Fe P fn E c s k r
theorem wi {b:Code}{hd:eD}{f:{R:Type}→St→(Ex→St→Option R)→Option R}(hf:gW P fn E b f){R:Type}:∀(n:Nat) (vs:List V) (H:List rA) (k:Ex→St→Option R) (r:R),jB E.nb hd f n vs H k=some r→
  ∀S a w,E.nb=S.bs.length→lG E S ⟨dD hd.keep vs,H⟩ a w→Code.rounds P b (fun x a' w'=>∃ex s',k ex s'=some r∧Is P fn E S ex s' x a' w') n a w:=by
 intro n;induction n with
 |zero=>intro vs H k r h;cases h
 |succ n ih=>
  intro vs H k r h S a w hnb hI;unfold jB at h;rw[rounds_succ];refine wp_mono (hf R _ _ _ h S a w hnb hI) ?_;rintro x a' w' ⟨ex,s1,h1,h2⟩;cases ex with
  |normal=>
   obtain⟨rfl,hI'⟩:=h2;dsimp only at h1;split at h1
   ·rename_i vs' H' hn;exact ih _ _ _ _ h1 S a' w' hnb (iL hn hI')
   ·cases h1
  |ret v bs=>obtain⟨rfl,hI'⟩:=h2;exact⟨.ret v bs,.nil,h1,rfl,hI'⟩
  |exit i=>
   obtain⟨rfl,hI'⟩:=h2;dsimp only at h1;split at h1
   ·rename_i vs' H' hn;exact⟨.exit i,_,h1,rfl,iL hn hI'⟩
   ·cases h1
  |goto l=>
   obtain⟨rfl,hI'⟩:=h2;dsimp only at h1;split at h1
   ·rename_i vs' H' hn;exact⟨.goto l,_,h1,rfl,iL hn hI'⟩
   ·cases h1
theorem eL {b:Code}{hd:eD}{f:{R:Type}→St→(Ex→St→Option R)→Option R}(hf:gW P fn E b f){R:Type}{n:Nat}{vs:List V}{H:List rA}{k:Ex→St→Option R}{r:R}(h:jB E.nb hd f n vs H k=some r):
  Fe P fn E (.loop b) ⟨dD hd.keep vs,H⟩ k r:=fun S a w hnb hI=>wp_loop_rounds n (wi hf n vs H k r h S a w hnb hI)
theorem bY {body:Code}{hd:eD}{f:{R:Type}→Code→St→(Ex→St→Option R)→Option R}(hf:∀c,(∀x∈eA c,x∈eA body)→gW P fn E c (fun s k=>f c s k)){R:Type}:∀(n:Nat) (c:Code) (vs:List V) (H:List rA) (k:Ex→St→Option R) (r:R),(∀x∈eA c,x∈eA body)→
  gN E.nb hd f body n c vs H k=some r→∀S a w,E.nb=S.bs.length→lG E S ⟨dD hd.keep vs,H⟩ a w→ft P body (fun x a' w'=>∃ex s',k ex s'=some r∧Is P fn E S ex s' x a' w') n c a w:=by
 intro n;induction n with
 |zero=>intro c vs H k r _ h;cases h
 |succ n ih=>
  intro c vs H k r hsub h S a w hnb hI;unfold gN at h;refine wp_mono (hf c hsub R _ _ _ h S a w hnb hI) ?_;rintro x a' w' ⟨ex,s1,h1,h2⟩;cases ex with
  |goto l=>
   obtain⟨rfl,hI'⟩:=h2;dsimp only at h1;split at h1
   ·rename_i rest hrest;split at h1
    ·rename_i vs' H' hn;exact⟨rest,hrest,ih rest _ _ _ _ (sK body l rest hrest) h1 S a' w' hnb (iL hn hI')⟩
    ·cases h1
   ·cases h1
  |ret v bs=>obtain⟨rfl,hI'⟩:=h2;exact⟨.ret v bs,.nil,h1,rfl,hI'⟩
  |normal=>
   obtain⟨rfl,hI'⟩:=h2;dsimp only at h1;split at h1
   ·rename_i vs' H' hn;exact⟨.normal,_,h1,rfl,iL hn hI'⟩
   ·cases h1
  |exit i=>
   obtain⟨rfl,hI'⟩:=h2;dsimp only at h1;split at h1
   ·rename_i vs' H' hn;exact⟨.exit i,_,h1,rfl,iL hn hI'⟩
   ·cases h1
theorem nw {R:Type}{n:Nat}{f:Nat→Option R}{r:R}(h:sX n f=some r):∀i,i<n→f i=some r:=by
 unfold sX at h;split at h
 ·rename_i hx;simp only[Option.some.injEq]at h;rw[←h];exact Classical.choose_spec hx.2
 ·cases h
theorem eZ {id:Nat}{ops:Array Oper}{it:Operand}{d1 d2:Nat}(hn:oz ops.toList=some (it,d1,d2))(h1:Nat.blt d1 E.ntmps=true)(h2:Nat.blt d2 E.ntmps=true){s:St}{R:Type}{k:St→Option R}{r:R}(hr:oa d1 d2 (Fm s.T it) s.T s.H k=some r):
  ∀S a w,lG E S s a w→(Code.region id ops false).wp P (fun x a' w'=>x= .normal∧∃s',k s'=some r∧lG E S s' a' w') a w:=by
 intro S a w hI;unfold oz at hn;split at hn
 ·rename_i l o1 o2 hops;split at hn
  ·rename_i it' t0 t d2' e1 e2 e3 e4 e5 e6;obtain⟨ht,hn⟩:=kA hn;have ht:=rB ht;subst ht;simp only[Option.some.injEq,Prod.mk.injEq]at hn;obtain⟨rfl,rfl,rfl⟩:=hn;obtain rfl:ops= #[o1,o2]:=by apply Array.ext';simpa using hops
   obtain⟨ρ,hrep,q1,q2,q3,q4⟩:=hI;unfold oa at hr;split at hr
   ·rename_i idd ext hit;split at hr
    ·rename_i mid tE rem cur hid;split at hr
     rotate_left
     ·cases hr
     rename_i kd n ks vs hmid;obtain⟨hcn,hr0⟩:=kA hr;clear hr;have hr:=hr0;clear hr0;have hcn:=rB hcn;have hev:=hrep.ev it';rw[←du,hit]at hev;have hwanted:∀(o:Oper) (h:o.guard=none) (y:Nat→Option Bool),Region.wanted o y=true:=fun o h y=>by unfold Region.wanted;rw[h]
     have hl:idd<s.H.length:=by
      rcases hU idd s.H.length with h|h
      ·exact h
      ·have h0:s.H[idd]?=none:=hD h;rw[uC,iA,h0]at hid;cases hid
     have fin:∀(b:Bool) (v:Value) (w':World) (H':List rA),(Instr.next (a.eval it') false o1.type).run P w= .ok v w'→(Instr.extract v 0).run P w'= .ok (.bool b) w'→H'.length=s.H.length→
       mA S.F ρ (nA H') w'→yH (jA ρ (nA s.H)) w (jA ρ (nA H')) w'→k ⟨(d2',.c (.bool b))::(t,.poison)::s.T,H'⟩=some r→
       (Code.region id #[o1,o2] false).wp P (fun x a' w'=>x= .normal∧∃s',k s'=some r∧lG E S s' a' w') a w:=by
      intro b v w' H' hrun hext hlen hh he hk;have r1:ir E S.F ρ (yD s.T) (nA H') a w':=hrep.put (oO.refl _) hh he (d:=none) rfl (x:=.poison) (v:=.bool b) (by simp only[pA]);have r2:=r1.put (oO.refl _) hh (yH.refl _ _) (d:=some t) h1 (x:=.poison) (v:=v) (by simp only[pA]);have r3:=r2.put (oO.refl _) hh (yH.refl _ _) (d:=some d2') h2 (x:=.c (.bool b)) (v:=.bool b) (pA.of_c _);have hev1:(a.put (some t) v).eval (.tmp t)=v:=by
       have hlt:t<a.tmps.size:=by rw[hrep.size];exact fD h1
       simp only[Act.put,Act.eval];rw[zB,f0 hlt];rfl
      refine wp_region ?_;show wpOps P #[o1,o2] _ [0,1] a w;rw[wpOps_cons];unfold wpOp;simp only[q0,n0];rw[if_pos (hwanted o1 e3 _)];refine .inl ?_;unfold Oper.wp execOp;rw[e1];simp only[j0,hrun,o0,k0];rw[Oper.upon_value,e2,wpOps_cons];unfold wpOp;simp only[q0,n0,List.getElem?_cons_succ];rw[if_pos (hwanted o2 e6 _)];refine .inl ?_;unfold Oper.wp execOp;rw[e4];simp only[hev1,j0,hext,o0,k0];rw[Oper.upon_value,e5];refine⟨rfl,_,hk,ρ,?_,fun j hj=>q1 j (by dsimp only at hj;omega),q2,by dsimp only;omega,q4.trans he⟩;have e:yD ((d2',V.c (.bool b))::(t,.poison)::s.T)=mI (mI (yD s.T) (some t) .poison) (some d2') (.c (.bool b)):=by rw[←jS,←jS];rfl
      dsimp only;rw[e];exact r3
     rcases Dq (P:=P) hrep.heap hev hid hmid hcn o1.type with⟨hr0,hrun⟩|⟨p,u1,u2,w',hp,hrun,hh,he⟩
     ·subst hr0;simp only[List.isEmpty_nil,cond_true]at hr;exact fin false _ w s.H hrun (by simp[Instr.extract]) rfl hrep.heap (yH.refl _ _) hr
     ·have hne:rem.isEmpty=false:=by cases rem with
       |nil=>simp at hp
       |cons=>rfl
      simp only[hne,cond_false]at hr;have hk:=nw hr p hp;have hb:nA (qD s.H idd (.it (some mid) tE (rem.eraseIdx p) (rem.getD p 0)))=mB (nA s.H) idd (.it (some mid) tE (rem.eraseIdx p) (rem.getD p 0)):=oT _ _ _ hl;exact fin true _ w' _ hrun (by simp[Instr.extract]) (eF _ _ _) (by rw[hb];exact hh) (by rw[hb];exact he) hk
    ·cases hr
   ·cases hr
  ·cases hn
 ·cases hn
theorem jG (hE:aB P E)(hmix:P.follows .mixedOrders=true)(hres:E.res=fn.results.toList):∀(d:Nat) (c:Code),(∀b∈eA c,xB P fn E b)→gW P fn E c (fun s k=>bB E d c s k):=by
 intro d;induction d with
 |zero=>intro c _ R s k r h;cases h
 |succ d ih=>
  intro c hcut R s k r h S a w hnb hI;dsimp only at h;unfold bB at h;cases c with
  |skip=>exact wp_skip ⟨.normal,s,h,rfl,hI⟩
  |label l=>exact wp_label ⟨.normal,s,h,rfl,hI⟩
  |exit id=>exact wp_exit ⟨.exit id,s,h,rfl,hI⟩
  |goto l=>exact wp_goto ⟨.goto l,s,h,rfl,hI⟩
  |rangeFunc=>cases h
  |refuse=>cases h
  |ret=>
   dsimp only at h;split at h
   ·rename_i v bs hf;exact wp_ret ⟨.ret v bs,.nil,h,rfl,Ag hE.ty hres hnb hf hI⟩
   ·cases h
  |region id ops draw=>
   dsimp only at h;split at h
   ·rename_i it d1 d2 hn;obtain⟨hg,h'⟩:=kA h;clear h;obtain⟨hd,hg⟩:=wB hg;obtain⟨hd1,hd2⟩:=wB hg;have hd:draw=false:=by simpa using hd
    subst hd;refine wp_mono (eZ hn hd1 hd2 h' S a w hI) ?_;rintro x a' w' ⟨rfl,s',hk,hI'⟩;exact⟨.normal,s',hk,rfl,hI'⟩
   ·obtain⟨s',h1,h2,h3⟩:=xm (id:=id) hE hmix h;obtain⟨ρ,r1,r2,r3,r4,r5⟩:=hI;refine h3 S.F ρ a w _ r1 r2 (fun ρ' a' w' q1 q2 q3 q4=>⟨.normal,s',h1,rfl,ρ',q1,q2,fun j hj=>by rw[q3 j (by omega)];exact r3 j hj,by omega,r5.trans q4⟩)
  |seq x y=>
   refine wp_seq (wp_mono (ih x (fun b hb=>hcut b (by simp[eA,hb])) R _ _ _ h S a w hnb hI) ?_);rintro e a' w' ⟨ex,s1,h1,h2⟩;cases ex with
   |normal=>obtain⟨rfl,hI'⟩:=h2;exact ih y (fun b hb=>hcut b (by simp[eA,hb])) R _ _ _ h1 S a' w' hnb hI'
   |ret v bs=>obtain⟨rfl,hI'⟩:=h2;exact⟨.ret v bs,s1,h1,rfl,hI'⟩
   |exit i=>obtain⟨rfl,hI'⟩:=h2;exact⟨.exit i,s1,h1,rfl,hI'⟩
   |goto l=>obtain⟨rfl,hI'⟩:=h2;exact⟨.goto l,s1,h1,rfl,hI'⟩
  |cond c x y=>
   dsimp only at h;split at h
   ·rename_i b hb;rw[du]at hb;have hev:a.eval c= .bool b:=by
     obtain⟨ρ,r1,_⟩:=hI;have:=r1.ev c;rw[hb]at this;simpa only[pA]using this
    cases b<;>simp only[cond_true,cond_false]at h
    ·exact wp_cond_false hev (ih y (fun b hb=>hcut b (by simp[eA,hb])) R _ _ _ h S a w hnb hI)
    ·exact wp_cond_true hev (ih x (fun b hb=>hcut b (by simp[eA,hb])) R _ _ _ h S a w hnb hI)
   ·cases h
  |block id b=>
   refine wp_block (wp_mono (ih b (fun x hx=>hcut x (by simpa[eA]using hx)) R _ _ _ h S a w hnb hI) ?_);rintro e a' w' ⟨ex,s1,h1,h2⟩;cases ex with
   |normal=>obtain⟨rfl,hI'⟩:=h2;exact⟨.normal,s1,h1,rfl,hI'⟩
   |ret v bs=>obtain⟨rfl,hI'⟩:=h2;exact⟨.ret v bs,s1,h1,rfl,hI'⟩
   |goto l=>obtain⟨rfl,hI'⟩:=h2;exact⟨.goto l,s1,h1,rfl,hI'⟩
   |exit i=>
    obtain⟨rfl,hI'⟩:=h2;dsimp only at h1;simp only[Exit.inBlock];cases hb:Nat.beq i id<;>rw[hb]at h1<;>simp only[cond_true,cond_false]at h1
    ·rw[if_neg (fun e=>by subst e;simp at hb)];exact⟨.exit i,s1,h1,rfl,hI'⟩
    ·rw[if_pos (rB hb)];exact⟨.normal,s1,h1,rfl,hI'⟩
  |loop b=>
   dsimp only at h;split at h
   ·cases h
   ·rename_i hd hhd;split at h
    ·cases h
    ·rename_i vs H hn;have key:Fe P fn E (.loop b) ⟨dD hd.keep vs,H⟩ k r:=by
      split at h
      ·rename_i e he;exact hcut (.loop b) (by simp[eA]) e hd he hhd R vs H k r h
      ·exact eL (ih b (fun x hx=>hcut x (by simp[eA,hx]))) h
     exact key S a w hnb (iL hn hI)
  |scope b=>
   dsimp only at h;cases hj:wQ b 0<;>rw[hj]at h<;>simp only[cond_true,cond_false]at h
   ·refine wp_scope_straight (wp_mono (ih b (fun x hx=>hcut x (by simp[eA,hx])) R _ _ _ h S a w hnb hI) ?_);rintro e a' w' ⟨ex,s1,h1,h2⟩;cases ex with
    |goto l=>cases h1
    |normal=>obtain⟨rfl,hI'⟩:=h2;exact⟨.normal,s1,h1,rfl,hI'⟩
    |ret v bs=>obtain⟨rfl,hI'⟩:=h2;exact⟨.ret v bs,s1,h1,rfl,hI'⟩
    |exit i=>obtain⟨rfl,hI'⟩:=h2;exact⟨.exit i,s1,h1,rfl,hI'⟩
   ·split at h
    ·cases h
    ·rename_i hd hhd;split at h
     ·cases h
     ·rename_i vs H hn;have key:Fe P fn E (.scope b) ⟨dD hd.keep vs,H⟩ k r:=by
       split at h
       ·rename_i e he;exact hcut (.scope b) (by simp[eA]) e hd he hhd R vs H k r h
       ·exact fun S a w hnb hI=>gO E.N (bY (f:=fun c s k=>bB E d c s k) (body:=b) (fun c hc=>ih c (fun x hx=>hcut x (by simp[eA,hc x hx]))) E.N b vs H k r (fun _ hx=>hx) h S a w hnb hI)
      exact key S a w hnb (iL hn hI)
structure cn (P:Program)(f:Nat)(args:List V)(bs:List rA){R:Type}(k:V→List rA→Option R)(r:R):Prop where
 callable:nO P f
 calls:∀F ρ w args',mA F ρ (nA bs) w→(∀id,bs.length≤id→ρ id=none)→lA ρ (av F (jA ρ (nA bs))) w args args'→
  Calls P f args'.toArray w fun e w'=>∃v bs' v',k v bs'=some r∧e= .returned v'∧jT F ρ bs w v bs' v' w'
theorem cn.of {f:Nat}{args:List V}{bs:List rA}{R:Type}{k:V→List rA→Option R}{r:R}(h:cn P f args bs k r){v0:V}{bs0:List rA}(hk:∀v bs',k v bs'=some r→v=v0∧bs'=bs0):fA P f args bs v0 bs0:=
 ⟨h.callable,fun F ρ w args' hH hn hr=>(h.calls F ρ w args' hH hn hr).mono fun e w' ⟨v,bs',v',h1,h2,h3⟩=>by obtain⟨rfl,rfl⟩:=hk v bs' h1;exact⟨v',h2,h3⟩⟩
theorem wR (hE:aB P E)(hmix:P.follows .mixedOrders=true){f:Nat}{body:Code}(hf:P.funcs[f]?=some fn)(hb:fn.body=some body)(hname:(fn.name== "runtime.NumGoroutine")=false)(hres:E.res=fn.results.toList)(hnt:E.ntmps=fn.ntmps)
  {args:List V}{bs:List rA}(hnb:E.nb=bs.length)(hargs:args.length≤fn.ntmps)(hcut:∀b∈eA body,xB P fn E b){R:Type}{k:V→List rA→Option R}{r:R}(h:cB E body args bs k=some r):
  cn P f args bs k r:=by
 refine⟨⟨fn,hf,by rw[hb];rfl,hname⟩,?_⟩;intro F ρ w args' hH hn hr;refine calls_of_wp hf hb ?_;unfold cB at h;have hlen:=hr.length;have hI:lG E ⟨F,ρ,bs,w⟩ ⟨zO 0 args,bs⟩ {tmps:=args'.toArray++Array.replicate (fn.ntmps-args'.toArray.size) undef,defers:=[]} w:=by
  refine⟨ρ,⟨hH,fun t=>?_,?_,rfl⟩,hn,fun _ _=>rfl,by dsimp only;omega,yH.refl _ _⟩
  ·have:=xO args args' 0 t ρ _ w undef hr;have e:(if 0≤t∧t<0+args'.length then args'.getD (t-0) undef else undef)=Act.eval {tmps:=args'.toArray++Array.replicate (fn.ntmps-args'.toArray.size) undef,defers:=[]} (.tmp t):=by
    simp only[Act.eval,zB,Array.getElem?_append,List.size_toArray,q0,i2];by_cases ht:t<args'.length
    ·rw[if_pos (by omega),if_pos ht];simp[iA]
    ·rw[if_neg (by omega),if_neg ht];split<;>rfl
   rw[←e];exact this
  ·simp only[Array.size_append,List.size_toArray,Array.size_replicate,hnt];omega
 refine wp_mono (jG hE hmix hres En body hcut R _ _ _ h ⟨F,ρ,bs,w⟩ _ w hnb hI) ?_;rintro x a' w' ⟨ex,s',h1,hx⟩;cases ex with
 |normal=>
  obtain⟨rfl,hI'⟩:=hx;dsimp only at h1;split at h1
  ·rename_i v bs' hf;obtain⟨hd,u,hu,hp⟩:=Ag hE.ty hres hnb hf hI';exact⟨hd,u,hu,v,bs',u,h1,rfl,hp⟩
  ·cases h1
 |ret v bs'=>obtain⟨rfl,hd,u,hu,hp⟩:=hx;exact⟨hd,u,hu,v,bs',u,h1,rfl,hp⟩
 |exit i=>cases h1
 |goto l=>cases h1
theorem fA.of_freeze {f:Nat}{ss:List Sh}{args args2:List V}{v:V}{bs':List rA}(hz:lH 0 (fun _=>.dead) ss args=some args2)(h:fA P f args2 [] v bs'):fA P f args [] v bs':=by
 refine⟨h.callable,fun F ρ w args' hH hn hr=>h.calls F ρ w args' hH hn ?_⟩;have hd:nA []=fun _=>rA.dead:=by funext j;rfl
 rw[hd]at hH hr⊢;exact gK hH (fun i hi=>by omega) (fun b hb=>hb) (fun b hb=>by obtain⟨_,_,_,_,hl⟩:=hb;exact hl.elim) ss args args2 args' hz hr
end
theorem aD {P:Program}{t:Nat}{ti:TI}(hi:(P.info? t).isSome=true)(hs:((P.info? t).getD default).size=ti.size)(hb:((P.info? t).getD default).bytes=ti.bytes)(hz:((P.info? t).getD default).zero.isSome=true)
  (hc:(((P.info? t).getD default).zero.getD undef).cells.toList=ti.zero)(hl:ti.zero.length=ti.size)(ho:(ti.isAgg||Nat.beq ti.size 1)=true)(hk:qE P t ti.tk)(he:(!ti.isAgg||(!P.stoodInHeld t&& !P.eqGuardType P.depth t))=true):tC P t ti:=by
 cases h:P.info? t with
 |none=>rw[h]at hi;cases hi
 |some i=>
  rw[h]at hs hb hz hc;simp only[d0]at hs hb hz hc;cases h2:i.zero with
  |none=>rw[h2]at hz;cases hz
  |some z=>
   rw[h2]at hc;simp only[d0]at hc;refine⟨⟨i,h,hs,hb,z,h2,hc⟩,hl,fun ha=>?_,hk,fun ha=>?_⟩
   ·rw[ha]at ho;exact rB ho
   ·rw[ha]at he;simpa using he
theorem oI {P:Program}{t:Nat}{fields:Array Field}{fs:List (Nat×Nat)}(h1:P.underlying t=some (.struct fields))(h2:fields.toList.map (fun f=>(f.type,f.offset))=fs)(h3:fields.toList.all (fun f=>!(f.name== "_"))=true):qE P t (.struct fs):=
 ⟨fields,h1,h2,fun f hf=>by rw[yK]at h3;have:=h3 f hf;simpa using this⟩
def tj (P:Program)(e:Nat):Bool:=match P.info? e with
 |some i=>(match i.zero with|some z=>nZ z|none=>false)
 |none=>false
theorem Cj {P:Program}{t k e:Nat}(h1:P.underlying t=some (.map k e))(h2:tj P e=true):qE P t (.map k e):=by
 unfold tj at h2;split at h2
 ·rename_i i hi;split at h2
  ·rename_i z hz;exact⟨h1,i,z,hi,hz,h2⟩
  ·cases h2
 ·cases h2
theorem vD.nil {P:Program}:vD P (pG []):=fun _ _ h=>by cases h
theorem vD.cons {P:Program}{t:Nat}{ti:TI}{l:List (Nat×TI)}(h:tC P t ti)(r:vD P (pG l)):vD P (pG ((t,ti)::l)):=by
 intro t' ti' ht;simp only[pG]at ht;cases hb:Nat.beq t t'<;>rw[hb]at ht<;>simp only[cond_true,cond_false]at ht
 ·exact r t' ti' ht
 ·have:=rB hb;subst this;simp only[Option.some.injEq]at ht;subst ht;exact h
def uA (P:Program)(f:Nat)(e:xA):Prop:=∀args bs a enc,e.dec args bs=some (some a,enc)→fA P f args bs (enc a).pick.1 (enc a).pick.2
theorem wK.nil {P:Program}:wK P (pG []):=fun _ _ h=>by cases h
theorem wK.cons {P:Program}{f:Nat}{e:xA}{l:List (Nat×xA)}(h:uA P f e)(r:wK P (pG l)):wK P (pG ((f,e)::l)):=by
 intro f' e' ht;simp only[pG]at ht;cases hb:Nat.beq f f'<;>rw[hb]at ht<;>simp only[cond_true,cond_false]at ht
 ·exact r f' e' ht
 ·have:=rB hb;subst this;simp only[Option.some.injEq]at ht;subst ht;exact h
def dA (P:Program)(fn:Func)(E:bD)(l:List Code):Prop:=∀b∈l,xB P fn E b
theorem dA.nil {P:Program}{fn:Func}{E:bD}:dA P fn E []:=fun _ h=>by cases h
theorem dA.cons {P:Program}{fn:Func}{E:bD}{c:Code}{l:List Code}(h:xB P fn E c)(r:dA P fn E l):dA P fn E (c::l):=fun b hb=>by
 rcases cD.mp hb with rfl|hb
 ·exact h
 ·exact r b hb
theorem dA.of {P:Program}{fn:Func}{E:bD}{l l':List Code}(he:l'=l)(h:dA P fn E l):dA P fn E l':=he▸h
theorem qP {P:Program}{fn:Func}{E:bD}{b:Code}(h:(E.cut (1000000+yC b)).isNone=true):xB P fn E (.scope b):=fun e hd he=>by rw[he]at h;cases h
def Fh (h:Nat→rA):V→V
 | .sw id s=>(match h id with
  | .ints _ l=>.sl id s 0 (tE s l.length)
  |_=>.sw id s)
 |v=>v
def xF (h:Nat→rA):List Bool→List V→List V
 |true::bs,v::r=>Fh h v::xF h bs r
 |false::bs,v::r=>v::xF h bs r
 |_,vs=>vs
theorem D0 {F:Nat→Prop}{ρ:pD}{h:Nat→rA}{w:World}(hh:mA F ρ h w){v:V}{u:Value}(hr:pA ρ (av F (jA ρ h)) w v u):pA ρ (av F (jA ρ h)) w (Fh h v) u:=by
 unfold Fh;split
 ·rename_i id s;split
  ·rename_i k l hid;obtain⟨h0,⟨b,n,C,cap,c,h1,h2,h3,h4,h5,ho,hsz,hold⟩|⟨h1,h2,hk⟩⟩:=uG hh hr (by rw[hid];trivial) (by rw[hid];trivial)
   ·rw[hid]at hold;obtain⟨e1,e2,e3⟩:=hold;simp only[pA];have hn:n/s*s=n:=Nat.div_mul_cancel (n3 h2);refine⟨h0,.inl ⟨b,n,C,cap,h1,?_,?_,by omega,?_⟩⟩
    ·rw[uE,e1];omega
    ·rw[uE,e1];exact h3
    ·rw[uE,e1];exact h5
   ·rw[hid]at hk;rcases hk with⟨k2,hk⟩|hk<;>cases hk;simp only[pA];exact⟨h0,.inr ⟨by rw[uE];simp,none,h2⟩⟩
  ·exact hr
 ·exact hr
theorem lX {F:Nat→Prop}{ρ:pD}{h:Nat→rA}{w:World}(hh:mA F ρ h w):∀(bs:List Bool) (vs:List V) (us:List Value),lA ρ (av F (jA ρ h)) w vs us→lA ρ (av F (jA ρ h)) w (xF h bs vs) us
 |true::bs,v::r,[],hr=>by simp only[lA]at hr
 |true::bs,v::r,u::us,hr=>by simp only[lA,xF]at hr⊢;exact⟨D0 hh hr.1,lX hh bs r us hr.2⟩
 |false::bs,v::r,[],hr=>by simp only[lA]at hr
 |false::bs,v::r,u::us,hr=>by simp only[lA,xF]at hr⊢;exact⟨hr.1,lX hh bs r us hr.2⟩
 | [],vs,us,hr=>by simpa only[xF]using hr
 |_::_,[],us,hr=>by simpa only[xF]using hr
theorem fA.of_asSl {P:Program}{f:Nat}{fl:List Bool}{args:List V}{bs:List rA}{v:V}{bs':List rA}(h:fA P f (xF (nA bs) fl args) bs v bs'):fA P f args bs v bs':=
 ⟨h.callable,fun F ρ w args' hH hn hr=>h.calls F ρ w args' hH hn (lX hH fl args args' hr)⟩
theorem jT.kill {F:Nat→Prop}{ρ:pD}{bs:List rA}{w:World}{v:V}{bs':List rA}{v':Value}{w':World}(h:jT F ρ bs w v bs' v' w'):jT F ρ bs w v (List.replicate bs'.length .dead) v' w':=by
 obtain⟨ρ',h1,h2,h3,h4,h5⟩:=h;have hd:∀id,¬(nA (List.replicate bs'.length rA.dead) id).live:=fun id hl=>by rw[uC,iA,c3]at hl;split at hl<;>exact hl
 have hM:∀b,jA ρ' (nA (List.replicate bs'.length rA.dead)) b→jA ρ' (nA bs') b:=by rintro b ⟨id,n,C,_,hl⟩;exact absurd hl (hd id)
 exact⟨ρ',h1,fun id hid=>h2 id (by simpa using hid),⟨h3.wf,fun id hl=>absurd hl (hd id),fun i j b n C n' C' hi=>absurd hi (hd i),h3.low,fun b hb=>h3.out b (hM b hb)⟩,pA.avoid (fun b hb=>hb.imp id (hM b)) _ _ h4,⟨h5.size,h5.same,fun b hb=>h5.sub b (hM b hb),h5.keeps⟩⟩
theorem C6 {P:Program}{fn:Func}{E:bD}(hE:aB P E)(hmix:P.follows .mixedOrders=true)(hres:E.res=fn.results.toList){d:Nat}{b:Code}{hd:eD}(hcut:dA P fn E (eA b)){R:Type}{n:Nat}{vs:List V}{H:List rA}{k:Ex→St→Option R}{r:R}
  (h:gN E.nb hd (fun c s k=>bB E d c s k) b n b vs H k=some r):Fe P fn E (.scope b) ⟨dD hd.keep vs,H⟩ k r:=
 fun S a w hnb hI=>gO n (bY (f:=fun c s k=>bB E d c s k) (body:=b) (fun c hc=>jG hE hmix hres d c (fun x hx=>hcut x (hc x hx))) n b vs H k r (fun _ hx=>hx) h S a w hnb hI)
theorem gD {P:Program}{fn:Func}{E:bD}(hE:aB P E)(hmix:P.follows .mixedOrders=true)(d:Nat){b:Code}{c:xH}{h:eD}(hcut:dA P fn E (eA b))
  (H:∀(R:Type) vs Hh (k:Ex→St→Option R) r,c.run vs Hh k=some r→∃n,jB E.nb h (fun s k=>bB E d b s k) n vs Hh k=some r)(e1:E.cut (yC b)=some c:=by kernel_rfl)(e2:E.hint (yC b)=some h:=by kernel_rfl)(hres:E.res=fn.results.toList:=by kernel_rfl):xB P fn E (.loop b):=fun e hd he hh R vs Hh k r hr=>by
 rw[e1]at he;rw[e2]at hh;cases he;cases hh;obtain⟨n,hn⟩:=H R vs Hh k r hr;exact eL (jG hE hmix hres d b hcut) hn
def bo (f:Func):Code:=f.body.getD .skip
theorem vA {P:Program}{E:bD}{fn:Func}{n:Nat}{A:Type}(hE:aB P E)(hmix:P.follows .mixedOrders=true)(hf:P.funcs[n]?=some fn)(hcut:dA P fn E (eA (bo fn))){args:List V}{bs:List rA}{dec:V→List rA→Option A}{r:A}
  (h:cB E (bo fn) args bs dec=some r){v0:V}{b0:List rA}(hd:∀v bs',dec v bs'=some r→v=v0∧bs'=b0)(h1:fn.body=some (bo fn):=by kernel_rfl)(h2:(fn.name== "runtime.NumGoroutine")=false:=by kernel_rfl)(h3:E.ntmps=fn.ntmps:=by kernel_rfl)(h4:E.nb=bs.length:=by kernel_rfl)
  (h5:Nat.ble args.length fn.ntmps=true:=by kernel_rfl)(hres:E.res=fn.results.toList:=by kernel_rfl):fA P n args bs v0 b0:=
 (wR hE hmix hf h1 h2 hres h3 h4 (Nat.le_of_ble_eq_true h5) hcut h).of hd
def wF (A:Type)(fresh:Nat)(imm:List Bool)(ss:List Sh)(sel:List V→Option (Option A×(A→rk))):xA:=
 {A:=A,fresh:=fresh,imm:=imm,dec:=fun args bs=>match lH 0 (fun _=>.dead) ss args,bs with
  |some a,[]=>sel a
  |_,_=>none}
theorem yA {P:Program}{f:Nat}{A:Type}{fresh:Nat}{imm:List Bool}{ss:List Sh}{sel:List V→Option (Option A×(A→rk))}(H:∀args a enc,sel args=some (some a,enc)→fA P f args [] (enc a).pick.1 (enc a).pick.2):uA P f (wF A fresh imm ss sel):=by
 intro args bs a enc h;simp only[wF]at h;split at h
 ·rename_i hz;exact fA.of_freeze hz (H _ _ _ h)
 ·cases h
theorem nC {A:Type}{x:Option A}{g enc:A→rk}{a:A}{Q:(A→rk)→Prop}(h:some (x,g)=some (some a,enc))(H:x=some a→Q g):Q enc:=by
 have h0:=Option.some.inj h;have h1:=congrArg Prod.fst h0;have h2:=congrArg Prod.snd h0;dsimp only at h1 h2;subst h2;exact H h1
def bF (ty:List (Nat×TI))(tab:List (Nat×xA))(hint:List (Nat×eD))(cut:List (Nat×xH))(N:Nat)(res:List ResultVar)(rsh:List Sh)(nb ntmps:Nat)(own:Bool:=false)(bsh:List (Nat×List Sh):=[]):bD:=
 {ty:=pG ty,tab:=pG tab,hint:=pG hint,cut:=pG cut,N:=N,res:=res,rsh:=rsh,nb:=nb,ntmps:=ntmps,own:=own,bsh:=bsh}
theorem dA.n {P:Program}{fn:Func}{E:bD}{l:List Code}(h:l=[]:=by kernel_rfl):dA P fn E l:=dA.of h dA.nil
end Go.Proofs.YtjpdjdhdchjcgaaGreat.Ev
