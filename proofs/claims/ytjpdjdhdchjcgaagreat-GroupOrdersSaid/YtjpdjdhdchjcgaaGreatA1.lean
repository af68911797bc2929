import Derived.Test.YtjpdjdhdchjcgaaGreatA0
import Derived.Orders
import Derived.LoopN
import Derived.Scope
import Derived.KernelRfl
open List renaming getD_eq_getElem?_getD→iA,getElem?_singleton→zA,getElem?_append→zB,mem_cons→hC,getElem?_eq_getElem→hD,getElem?_eq_none→aE,mem_append→zE,getElem?_append_left→hG,map_cons→xK,all_eq_true→yK,getElem?_eq_some_iff→hN,getElem?_append_right→hP,mem_of_getElem?→dQ,map_congr_left→sS,length_cons→hU,mem_filter→hX,append_assoc→iX,getElem?_take→hY,getElem?_map→e0,cons_append→j0,mem_range→u0,getElem?_cons_zero→x0,not_mem_nil→j1,getElem?_toArray→x1,mem_append_right→y1,singleton_append→z1,mem_append_left→j2,mem_cons_of_mem→x2,nodup_cons→y2,pairwise_append→c3,filter_eq_self→j3,mem_map_of_mem→n3,getElem?_drop→u3,pairwise_cons→w3,reverse_cons→x3,any_eq_true→c4,getElem?_take_of_lt→l4,map_map→n4,mem_map→o4,getElem?_replicate→w4,append_nil→y4,map_append→b5,range_succ_eq_map→c5,sublist_cons_self→l5,getElem?_range→u5
open Bool renaming and_eq_true→iB,not_eq_true'→c0,or_eq_true→x4
open Array renaming getD_eq_getD_getElem?→cD,getElem?_eq_some_iff→n0,getElem?_setIfInBounds_self_of_lt→o0,getElem?_replicate→y3,toArray_toList→s5
open Nat renaming lt_or_ge→hW,mul_div_cancel→p0,zero_add→u4,dvd_of_mod_eq_zero→n5,le_refl→q5
open Option renaming getD_some→k0
open Go.Sem renaming run_bind→q0,run_pure→r0
open Go.Result renaming andThen_ok→y0
set_option linter.unusedVariables false
set_option linter.unusedSimpArgs false
namespace Go.Proofs.YtjpdjdhdchjcgaaGreat.Ev
section
variable {ty:Nat→Option TI}{nid:Nat}{h h':Nat→sA}
theorem gW {x:V}{k:IntKind}{s:Nat}{l:List Int}{t:List Nat}(hr:j9 h x=some (k,s,l,t))(ht:∀id∈t,h' id=h id):j9 h' x=some (k,s,l,t):=by
 cases x<;>simp only[j9]at hr⊢
 case sw id s'=>
  split at hr
  ·rename_i k' l' hid;simp only[Option.some.injEq,Prod.mk.injEq]at hr;obtain⟨rfl,rfl,rfl,rfl⟩:=hr;rw[ht id (by simp),hid]
  ·cases hr
 case sl id s' off len=>
  split at hr
  ·rename_i k' l' hid;simp only[Option.some.injEq,Prod.mk.injEq]at hr;obtain⟨rfl,rfl,rfl,rfl⟩:=hr;rw[ht id (by simp),hid]
  ·cases hr
 all_goals first|exact hr|cases hr
theorem vv {x:V}{s:Nat}{l:List V}{t:List Nat}(hr:qe h x=some (s,l,t))(ht:∀id∈t,h' id=h id):qe h' x=some (s,l,t):=by
 cases x<;>simp only[qe]at hr⊢
 case sw id s'=>
  split at hr
  ·rename_i l' hid;simp only[Option.some.injEq,Prod.mk.injEq]at hr;obtain⟨rfl,rfl,rfl⟩:=hr;rw[ht id (by simp),hid]
  ·cases hr
 all_goals first|exact hr|cases hr
theorem nZ {x:V}{n:Nat}{t:List Nat}(hr:zO h x=some (n,t))(ht:∀id∈t,h' id=h id):zO h' x=some (n,t):=by
 unfold zO at hr⊢;split at hr<;>first|exact hr|skip
 rename_i id s';split at hr
 all_goals first
  |cases hr;done
  |(simp only[Option.some.injEq,Prod.mk.injEq]at hr
    obtain⟨rfl,rfl⟩:=hr;rename_i hid
    try dsimp only
    rw[ht id (by simp),hid])
theorem fM {k:IntKind}{s:Nat}{x:V}{l:List Int}{t:List Nat}(hr:wJ h k s x=some (l,t))(ht:∀id∈t,h' id=h id):wJ h' k s x=some (l,t):=by
 unfold wJ at hr⊢;split at hr<;>first|exact hr|skip
 rename_i h1 h2;split at hr
 ·rename_i k' w' l' t' hq;obtain⟨a1,a2⟩:=gA hr;simp only[Option.some.injEq,Prod.mk.injEq]at a2;obtain⟨rfl,rfl⟩:=a2;rw[gW hq ht];simp only[a1,cond_true]
 ·cases hr
theorem kR {s:Nat}{x:V}{l:List V}{t:List Nat}(hr:xJ h s x=some (l,t))(ht:∀id∈t,h' id=h id):xJ h' s x=some (l,t):=by
 unfold xJ at hr⊢;split at hr<;>first|exact hr|skip
 rename_i h1;split at hr
 ·rename_i w' l' t' hq;obtain⟨a1,a2⟩:=gA hr;simp only[Option.some.injEq,Prod.mk.injEq]at a2;obtain⟨rfl,rfl⟩:=a2;rw[vv hq ht];simp only[a1,cond_true]
 ·cases hr
theorem fW {x:V}{k:IntKind}{s:Nat}{l:List Int}{t:List Nat}(hr:fm h x=some (k,s,l,t))(ht:∀id∈t,h' id=h id):fm h' x=some (k,s,l,t):=by
 cases x<;>simp only[fm]at hr⊢
 case sw id s'=>
  split at hr
  ·rename_i k' l' hid;simp only[Option.some.injEq,Prod.mk.injEq]at hr;obtain⟨rfl,rfl,rfl,rfl⟩:=hr;rw[ht id (by simp),hid]
  ·cases hr
 all_goals first|exact hr|cases hr
theorem ay {ti:TI}{d s:V}{b:Bool}{out:sH}(hr:kN ti h nid d s=some (b,out))(ht:∀id∈out.touch,h' id=h id):kN ti h' nid d s=some (b,out):=by
 unfold kN at hr;split at hr
 ·rename_i ids w1;split at hr
  ·rename_i e hids;split at hr
   ·rename_i k w l kl hrow;obtain⟨hg,hr2⟩:=gA hr;clear hr;unfold kN;dsimp only;split at hr2
    ·simp only[Option.some.injEq,Prod.mk.injEq]at hr2;obtain⟨rfl,rfl⟩:=hr2;simp only[hC]at ht;rw[ht ids (.inl rfl),hids];dsimp only;rw[fW hrow (fun id hid=>ht id (.inr hid))];dsimp only;rw[hg,cond_true]
    ·rename_i id w2;split at hr2
     ·rename_i k' w' dD hid;obtain⟨hq,hr3⟩:=gA hr2;simp only[Option.some.injEq,Prod.mk.injEq]at hr3;obtain⟨rfl,rfl⟩:=hr3;simp only[hC]at ht;rw[ht ids (.inr (.inl rfl)),hids];dsimp only;rw[fW hrow (fun id hid=>ht id (.inr (.inr hid)))];dsimp only;rw[hg,cond_true,ht id (.inl rfl),hid];dsimp only;rw[hq,cond_true]
     ·cases hr2
    ·cases hr2
   ·cases hr
  ·cases hr
 ·cases hr
theorem zQ {ti:TI}{d s:V}{b:Bool}{out:sH}(hr:lN ti h nid d s=some (b,out))(ht:∀id∈out.touch,h' id=h id):lN ti h' nid d s=some (b,out):=by
 unfold lN at hr⊢;cases hc:(!(Nat.blt 0 ti.bytes&&Nat.blt 0 ti.size))<;>rw[hc]at hr<;>simp only[cond_false,cond_true]at hr⊢
 ·split at hr
  ·rename_i k hk
   try rw[hk]
   try dsimp only
   split at hr
   ·cases hr
   ·rename_i src t hsrc;split at hr
    ·simp only[Option.some.injEq,Prod.mk.injEq]at hr;obtain⟨rfl,rfl⟩:=hr;rw[fM hsrc ht]
    ·rename_i id w';split at hr
     ·rename_i k' l hid;obtain⟨a1,a2⟩:=gA hr;simp only[Option.some.injEq,Prod.mk.injEq]at a2;obtain⟨rfl,rfl⟩:=a2;simp only[hC]at ht;rw[fM hsrc (fun id hid=>ht id (.inr hid))]
      try dsimp only
      rw[ht id (.inl rfl),hid];simp only[a1,cond_true]
     ·cases hr
    ·cases hr
  ·rename_i hk
   try rw[hk]
   try dsimp only
   cases hsl:ti.isSl<;>rw[hsl]at hr<;>simp only[cond_true,cond_false]at hr⊢
   rotate_left
   ·exact ay hr ht
   split at hr
   ·cases hr
   ·rename_i src t hsrc;split at hr
    ·simp only[Option.some.injEq,Prod.mk.injEq]at hr;obtain⟨rfl,rfl⟩:=hr;rw[kR hsrc ht]
    ·rename_i id w';split at hr
     ·rename_i l hid;obtain⟨a1,a2⟩:=gA hr;simp only[Option.some.injEq,Prod.mk.injEq]at a2;obtain⟨rfl,rfl⟩:=a2;simp only[hC]at ht;rw[kR hsrc (fun id hid=>ht id (.inr hid))]
      try dsimp only
      rw[ht id (.inl rfl),hid];simp only[a1,cond_true]
     ·cases hr
    ·cases hr
 ·cases hr
theorem nf {ti:TI}{d s:V}{b:Bool}{out:sH}(hr:na ti h d s=some (b,out))(ht:∀id∈out.touch,h' id=h id):na ti h' d s=some (b,out):=by
 unfold na at hr⊢;split at hr
 ·cases hr
 ·rename_i k hk
  try rw[hk]
  try dsimp only
  split at hr
  ·cases hr
  ·rename_i src t hsrc;split at hr
   ·rename_i id w';split at hr
    ·rename_i k' l hid;obtain⟨a1,a2⟩:=gA hr;simp only[Option.some.injEq,Prod.mk.injEq]at a2;obtain⟨rfl,rfl⟩:=a2;simp only[hC]at ht;rw[fM hsrc (fun id hid=>ht id (.inr hid))]
     try dsimp only
     rw[ht id (.inl rfl),hid];simp only[a1,cond_true]
    ·cases hr
   ·cases hr
theorem dY {b:Builtin}{ts:List Nat}{xs:List V}{ok:Bool}{out:sH}(hr:rM ty nid b ts xs h=some (ok,out))(ht:∀id∈out.touch,h' id=h id):rM ty nid b ts xs h'=some (ok,out):=by
 unfold rM at hr⊢;split at hr
 ·split at hr
  ·split at hr
   ·rename_i ti n tc hti hlen;obtain⟨a1,a2⟩:=gA hr;simp only[Option.some.injEq,Prod.mk.injEq]at a2;obtain⟨rfl,rfl⟩:=a2;simp only[hti,nZ hlen ht,a1,cond_true]
   ·cases hr
  ·cases hr
 ·exact hr
 ·exact hr
 ·split at hr
  ·split at hr
   ·rename_i e _ _ _ t2 hti ht2
    try simp only[hti,ht2]
    split at hr
    ·rename_i htk
     try simp only[htk]
     split at hr
     ·rename_i te hte
      try simp only[hte]
      exact zQ hr ht
     ·cases hr
    ·rename_i htk
     try simp only[htk]
     split at hr
     ·rename_i te hte
      try simp only[hte]
      exact zQ hr ht
     ·cases hr
    ·cases hr
   ·cases hr
  ·cases hr
 ·split at hr
  ·split at hr
   ·rename_i e _ _ _ hti
    try simp only[hti]
    split at hr
    ·rename_i te hte
     try simp only[hte]
     exact nf hr ht
    ·cases hr
   ·cases hr
  ·cases hr
 ·cases hr
theorem bg {t:Nat}{x i:V}{ok:Bool}{out:sH}(hr:nQ ty t x i h=some (ok,out))(ht:∀id∈out.touch,h' id=h id):nQ ty t x i h'=some (ok,out):=by
 unfold nQ at hr⊢;split at hr
 ·rename_i e _ _ _ hti
  try simp only[hti]
  split at hr
  ·cases hr
  ·rename_i te hte
   try simp only[hte]
   split at hr
   ·rename_i id w';obtain⟨a1,a2⟩:=gA hr;split at a2
    all_goals first
     |cases a2;done
     |(rename_i hid
       simp only[Option.some.injEq,Prod.mk.injEq]at a2;obtain⟨rfl,rfl⟩:=a2;simp only[hC,j1,or_false]at ht;simp only[a1,cond_true,ht id rfl,hid])
   all_goals exact hr
 ·exact hr
 ·cases hr
theorem km {t:Nat}{x:V}{lo hi mx:Option V}{ok:Bool}{out:sH}(hr:fV ty t x lo hi mx h=some (ok,out))(ht:∀id∈out.touch,h' id=h id):fV ty t x lo hi mx h'=some (ok,out):=by
 unfold fV at hr⊢;split at hr
 ·cases hr
 ·rename_i ti hti
  try simp only[hti]
  cases hc:(hi.isNone&&mx.isSome)<;>simp only[hc,cond_true,cond_false]at hr⊢
  ·split at hr
   ·rename_i hlen;split at hr
    ·rename_i htk;simp only[zO]
     try simp only[htk]
     exact hr
    ·cases hr
   ·rename_i len tc hlen;split at hr
    ·rename_i l h1 m hl hh1 hm;split at hr
     ·rename_i s htk;simp only[zO]at hlen⊢;simp only[Option.some.injEq,Prod.mk.injEq]at hlen;obtain⟨rfl,rfl⟩:=hlen;simp only[hl,hh1,hm,htk];exact hr
     ·rename_i e id w' htk;split at hr
      ·rename_i te hte;obtain⟨a1,a2⟩:=gA hr;simp only[Option.some.injEq,Prod.mk.injEq]at a2;obtain⟨rfl,rfl⟩:=a2;simp only[nZ hlen ht,hl,hh1,hm,htk,hte,a1,cond_true]
      ·cases hr
     ·rename_i e id w' off _ htk;simp only[zO]at hlen⊢;simp only[Option.some.injEq,Prod.mk.injEq]at hlen;obtain⟨rfl,rfl⟩:=hlen;simp only[hl,hh1,hm,htk];exact hr
     ·rename_i e k w' l0 htk;simp only[zO]at hlen⊢;simp only[Option.some.injEq,Prod.mk.injEq]at hlen;obtain⟨rfl,rfl⟩:=hlen;simp only[hl,hh1,hm,htk];exact hr
     ·rename_i e htk;simp only[zO]at hlen⊢;simp only[Option.some.injEq,Prod.mk.injEq]at hlen;obtain⟨rfl,rfl⟩:=hlen;simp only[hl,hh1,hm,htk];exact hr
     ·cases hr
    ·cases hr
  ·cases hr
theorem mz {s d:Nat}{x:V}{ok:Bool}{out:sH}(hr:df ty nid s d x h=some (ok,out))(ht:∀id∈out.touch,h' id=h id):df ty nid s d x h'=some (ok,out):=by
 unfold df at hr⊢;split at hr
 ·rename_i ts td hts htd
  try simp only[hts,htd]
  split at hr
  ·rename_i htk;try simp only[htk]
   exact hr
  ·rename_i htk;try simp only[htk]
   exact hr
  ·rename_i htk;try simp only[htk]
   exact hr
  ·rename_i htk;try simp only[htk]
   exact hr
  ·rename_i htk _ _;split at hr
   ·rename_i e hts2;split at hr
    ·rename_i w' l t hte hrow;obtain⟨a1,a2⟩:=gA hr;simp only[Option.some.injEq,Prod.mk.injEq]at a2;obtain⟨rfl,rfl⟩:=a2;have hrow':=gW hrow ht;simp only[hts2,hte,hrow',a1,cond_true]
    ·cases hr
   ·cases hr
  ·cases hr
 ·cases hr
theorem oi {ti:TI}{a:V}{ok:Bool}{out:sH}(hr:zS ti a h=some (ok,out))(ht:∀id∈out.touch,h' id=h id):zS ti a h'=some (ok,out):=by
 unfold zS at hr⊢;split at hr
 ·rename_i id off ext;obtain⟨a1,a2⟩:=gA hr;split at a2
  ·rename_i v hv;simp only[Option.some.injEq,Prod.mk.injEq]at a2;obtain⟨rfl,rfl⟩:=a2;simp only[hC,j1,or_false]at ht;simp only[a1,cond_true,ht id rfl,hv]
  ·cases a2
 ·exact hr
 ·exact hr
 ·cases hr
theorem bj {t:Nat}{m i:V}{c ok:Bool}{out:sH}(hr:uJ ty t m i c h=some (ok,out))(ht:∀id∈out.touch,h' id=h id):uJ ty t m i c h'=some (ok,out):=by
 unfold uJ at hr⊢;split at hr
 ·rename_i kt et s0 b0 z0 id hti;split at hr
  ·rename_i k n ks vs tk te hid htk hte;have key:h' id=h id:=by
    refine ht id ?_;split at hr
    ·obtain⟨_,a2⟩:=gA hr;simp only[Option.some.injEq,Prod.mk.injEq]at a2;obtain⟨_,rfl⟩:=a2;simp
    ·cases hr
   simp only[key,hid];simp only[hti,htk,hte];exact hr
  ·cases hr
 ·cases hr
theorem kc {t:Nat}{m:V}{ok:Bool}{out:sH}(hr:bV ty nid t m h=some (ok,out))(ht:∀id∈out.touch,h' id=h id):bV ty nid t m h'=some (ok,out):=by
 unfold bV at hr⊢;split at hr
 ·rename_i kt et s0 b0 z0 id hti;split at hr
  ·rename_i k n ks vs hid;simp only[Option.some.injEq,Prod.mk.injEq]at hr;obtain⟨rfl,rfl⟩:=hr;have key:h' id=h id:=ht id (by simp);simp only[key,hid,hti]
  ·cases hr
 ·cases hr
theorem ir {m:V}{ok:Bool}{out:sH}(hr:oU m h=some (ok,out))(ht:∀id∈out.touch,h' id=h id):oU m h'=some (ok,out):=by
 unfold oU at hr⊢;split at hr
 ·rename_i id ext;split at hr
  ·rename_i mid xE rem cur hid;split at hr
   ·rename_i k n ks vs hmid;simp only[Option.some.injEq,Prod.mk.injEq]at hr;obtain⟨rfl,rfl⟩:=hr;have key:h' id=h id:=ht id (by simp);have key2:h' mid=h mid:=ht mid (by simp);simp only[key,hid,key2,hmid]
   ·cases hr
  ·cases hr
 ·cases hr
theorem yM {t:Nat}{m i x:V}{ok:Bool}{out:sH}(hr:eH ty t m i x h=some (ok,out))(ht:∀id∈out.touch,h' id=h id):eH ty t m i x h'=some (ok,out):=by
 unfold eH at hr⊢;split at hr
 ·rename_i kt et s0 b0 z0 id hti;split at hr
  ·rename_i k n ks vs tk hid htk;have key:h' id=h id:=by
    refine ht id ?_;split at hr
    ·split at hr
     ·obtain⟨_,a2⟩:=gA hr;simp only[Option.some.injEq,Prod.mk.injEq]at a2;obtain⟨_,rfl⟩:=a2;simp
     ·cases hr
    ·cases hr
   simp only[key,hid];simp only[hti,htk];exact hr
  ·cases hr
 ·cases hr
theorem qW {t:Nat}{m i:V}{ok:Bool}{out:sH}(hr:oH ty t m i h=some (ok,out))(ht:∀id∈out.touch,h' id=h id):oH ty t m i h'=some (ok,out):=by
 unfold oH at hr⊢;split at hr
 ·rename_i kt et s0 b0 z0 id hti;split at hr
  ·rename_i k n ks vs tk te hid htk hte;have key:h' id=h id:=by
    refine ht id ?_;split at hr
    ·split at hr
     ·obtain⟨_,a2⟩:=gA hr;simp only[Option.some.injEq,Prod.mk.injEq]at a2;obtain⟨_,rfl⟩:=a2;simp
     ·cases hr
    ·cases hr
   simp only[key,hid];simp only[hti,htk,hte];exact hr
  ·cases hr
 ·cases hr
theorem oS {m s x:V}{ok:Bool}{out:sH}(hr:jH m s x h=some (ok,out))(ht:∀id∈out.touch,h' id=h id):jH m s x h'=some (ok,out):=by
 unfold jH at hr⊢;split at hr
 ·rename_i id q;split at hr
  ·rename_i k n ks vs hid;have key:h' id=h id:=by
    refine ht id ?_;split at hr
    ·simp only[Option.some.injEq,Prod.mk.injEq]at hr;obtain⟨_,rfl⟩:=hr;simp
    ·cases hr
   simp only[key,hid];exact hr
  ·cases hr
 ·cases hr
theorem mj {ev:Operand→V}{op:Op}{ok:Bool}{out:sH}(hr:yO ty nid op ev h=some (ok,out))(ht:∀id∈out.touch,h' id=h id):yO ty nid op ev h'=some (ok,out):=by
 cases op
 case convert s d x=>exact mz hr ht
 case slice t x lo hi mx=>exact km hr ht
 case indexAddr t x i=>exact bg hr ht
 case load t a=>
  simp only[yO]at hr⊢;split at hr
  ·exact oi hr ht
  ·cases hr
 case call c=>
  obtain⟨cl,args,ts⟩:=c;cases cl
  case builtin b=>exact dY hr ht
  all_goals exact hr
 case store t a x=>
  simp only[yO]at hr⊢;split at hr
  ·rename_i ti id off ext hti ha;split at hr
   ·rename_i vs hvs;obtain⟨a1,a2⟩:=gA hr;split at a2
    ·rename_i b hb;simp only[Option.some.injEq,Prod.mk.injEq]at a2;obtain⟨rfl,rfl⟩:=a2;simp only[hC,j1,or_false]at ht;simp only[hti,ha,hvs,a1,cond_true,ht id rfl,hb]
    ·cases a2
   ·cases hr
  ·cases hr
 case makeFunc f _ _=>cases f<;>exact hr
 case makeMap t r=>cases r<;>exact hr
 case range t x=>exact kc hr ht
 case entry x=>exact ir hr ht
 case lookup t m i c=>exact bj hr ht
 case mapUpdate t m i x=>exact yM hr ht
 case insert t m i x=>exact yM hr ht
 case mapEntry t m i=>exact qW hr ht
 case entryStore t m s x=>exact oS hr ht
 all_goals exact hr
theorem cT {ev ev':Operand→V}(ps:Array (Nat×Operand))(he:∀x∈(ps.toList.map (·.2)).toArray,ev' x=ev x):(ps.toList.map fun p=>(p.1,ev' p.2))=ps.toList.map fun p=>(p.1,ev p.2):=
 sS fun p hp=>by rw[he p.2 (by simp only[List.mem_toArray,o4];exact⟨p,hp,rfl⟩)]
theorem gq {ev ev':Operand→V}{op:Op}{r:lV}(hr:yO ty nid op ev h=r)(he:∀x∈op.operands,ev' x=ev x):yO ty nid op ev' h=r:=by
 subst hr;cases op<;>simp only[Op.operands]at he<;>try rfl
 case build t ps=>simp only[yO,cT ps he]
 case buildSlice t n ps=>simp only[yO,cT ps he]
 case makeFunc fn first cap=>
  cases fn<;>try rfl
  simp only[yO];rw[sS (l:=first.toList) (f:=ev') (g:=ev) fun x hx=>he x (by simp at hx;simp[hx]),sS (l:=cap.toList) (f:=ev') (g:=ev) fun x hx=>he x (by simp at hx;simp[hx])]
 case call c=>
  obtain⟨cl,args,ts⟩:=c;cases cl<;>try rfl
  simp only[yO];rw[sS (l:=args.toList) (f:=ev') (g:=ev) fun x hx=>he x (by simp at hx;simp[Call.operands,hx])]
 case slice t x lo hi mx=>simp only[yO];cases lo<;>cases hi<;>cases mx<;>simp_all
 case makeMap t r=>cases r<;>rfl
 all_goals (simp only[yO];simp_all)
end
theorem xc.go_pick {R:Type}(k:V→List sA→Option R):∀a:xc,a.go k=k a.pick.1 a.pick.2
 | .one _ _=>rfl
 | .two true _ _ _ _=>rfl
 | .two false _ _ _ _=>rfl
def cm (tab:Nat→Option uA)(nid f:Nat)(args:List V)(h:Nat→sA)(out:sH):Prop:=
 ∃e at_ σ enc a,tab f=some e∧zD h e.imm args=at_∧aW h 3 (jN [] (xF at_.1))=σ∧
  e.dec (aS (aI · σ 0) at_.1) (σ.map fun i=>eM (aI · σ 0) (h i))=some (some a,enc)∧
  (enc a).pick.2.length≤σ.length+e.fresh∧σ.length≤(enc a).pick.2.length∧nodup σ=true∧uZ σ at_.2=false∧out=pG σ at_.2 nid (enc a).pick.1 (enc a).pick.2
theorem tg {R:Type}{tab:Nat→Option uA}{nid f:Nat}{args:List V}{h:Nat→sA}{k:sH→Option R}{r:R}
  (hr:Ct tab nid f args h k=some r):∃out,cm tab nid f args h out∧k out=some r:=by
 unfold Ct at hr;split at hr
 ·cases hr
 ·rename_i e he;dsimp only at hr;split at hr
  ·cases hr
  ·rename_i m enc hm;cases m with
   |none=>cases hr
   |some a=>dsimp only[Option.bind]at hr;rw[xc.go_pick]at hr;obtain⟨h1,h2⟩:=gA hr;simp only[iB,c0]at h1;obtain⟨⟨⟨h3,h4⟩,h5⟩,h6⟩:=h1;exact⟨_,⟨e,_,_,enc,a,he,rfl,rfl,hm,gG h3,gG h4,h5,h6,rfl⟩,h2⟩
theorem kI {i:Nat}:∀(r σ:List Nat),i∈σ→i∈jN σ r
 | [],σ,h=>h
 |j::r,σ,h=>by
  unfold jN;cases hc:σ.any (Nat.beq j)<;>simp only[cond_false,cond_true]
  ·exact kI r _ (by simp[h])
  ·exact kI r _ h
theorem eU {i:Nat}:∀(r σ:List Nat),i∈r→i∈jN σ r
 |j::r,σ,h=>by
  unfold jN;cases hc:σ.any (Nat.beq j)<;>simp only[cond_false,cond_true]
  ·rcases hC.mp h with rfl|h
   ·exact kI r _ (by simp)
   ·exact eU r _ h
  ·rcases hC.mp h with rfl|h
   ·simp only[c4]at hc;obtain⟨x,hx,hb⟩:=hc;have:=vB hb;subst this;exact kI r _ hx
   ·exact eU r _ h
theorem cV {h:Nat→sA}{i:Nat}:∀(n:Nat) (σ:List Nat),i∈σ→i∈aW h n σ
 |0,σ,hi=>hi
 |n+1,σ,hi=>cV n _ (kI _ _ hi)
theorem bW {h h':Nat→sA}:∀(n:Nat) (σ:List Nat),(∀id∈aW h n σ,h' id=h id)→aW h' n σ=aW h n σ
 |0,σ,_=>rfl
 |n+1,σ,he=>by
  unfold aW at he⊢;have h1:(σ.flatMap fun i=>nT (h' i))=σ.flatMap fun i=>nT (h i):=by
   have:∀i∈σ,nT (h' i)=nT (h i):=fun i hi=>by rw[he i (cV n _ (kI _ _ hi))]
   clear he;induction σ with
   |nil=>rfl
   |cons j σ ih=>simp only[List.flatMap_cons];rw[this j (by simp),ih (fun i hi=>this i (by simp[hi]))]
  rw[h1];exact bW n _ he
mutual
theorem gZ {h h':Nat→sA}:∀(v:V),(∀id,id∈iO (iI h v).1∨id∈(iI h v).2→h' id=h id)→iI h' v=iI h v
 | .sw id w,he=>by
  have:h' id=h id:=by
   refine he id ?_;unfold iI;split
   ·exact .inr (by simp)
   ·exact .inl (by simp[iO])
  unfold iI;rw[this]
 | .sl id w off len,he=>by
  have:h' id=h id:=by
   refine he id ?_;unfold iI;split
   ·exact .inr (by simp)
   ·exact .inl (by simp[iO])
  unfold iI;rw[this]
 | .agg cs,he=>by unfold iI at he⊢;rw[fZ cs (fun id hid=>he id (by simpa[iO]using hid))]
 | .c _,_=>rfl
 | .poison,_=>rfl
 | .ptr _ _ _,_=>rfl
 | .mref _,_=>rfl
 | .il _ _ _,_=>rfl
 | .iv _ _,_=>rfl
 | .ilp _ _ _ _,_=>rfl
 | .ivp _ _ _ _,_=>rfl
 | .tup _,_=>rfl
 | .fn _ _ _,_=>rfl
theorem fZ {h h':Nat→sA}:∀(vs:List V),(∀id,id∈xF (rU h vs).1∨id∈(rU h vs).2→h' id=h id)→rU h' vs=rU h vs
 | [],_=>rfl
 |v::r,he=>by unfold rU at he⊢;rw[gZ v (fun id hid=>he id (by simp only[xF,zE];rcases hid with h|h<;>simp[h])),fZ r (fun id hid=>he id (by simp only[xF,zE];rcases hid with h|h<;>simp[h]))]
end
theorem bM {h h':Nat→sA}:∀(bs:List Bool) (vs:List V),(∀id,id∈xF (zD h bs vs).1∨id∈(zD h bs vs).2→h' id=h id)→zD h' bs vs=zD h bs vs
 | [],vs,_=>by simp[zD]
 |true::bs,[],_=>by simp[zD]
 |false::bs,[],_=>by simp[zD]
 |true::bs,v::r,he=>by unfold zD at he⊢;rw[gZ v (fun id hid=>he id (by simp only[xF,zE];rcases hid with h|h<;>simp[h])),bM bs r (fun id hid=>he id (by simp only[xF,zE];rcases hid with h|h<;>simp[h]))]
 |false::bs,v::r,he=>by unfold zD at he⊢;rw[bM bs r (fun id hid=>he id (by simp only[xF,zE];rcases hid with h|h<;>simp[h]))]
theorem cm.congr_h {tab:Nat→Option uA}{nid f:Nat}{args:List V}{h h':Nat→sA}{out:sH}(hc:cm tab nid f args h out)(ht:∀id∈out.touch,h' id=h id):cm tab nid f args h' out:=by
 obtain⟨e,at_,σ,enc,a,h1,h2,h3,h4,h5,h6,h7,h8,h9⟩:=hc;have ht':∀id,id∈σ∨id∈at_.2→h' id=h id:=fun id hid=>ht id (by subst h9;simpa[pG]using hid);have hσ:∀id∈xF at_.1,id∈σ:=fun id hid=>by subst h3;exact cV _ _ (eU _ _ hid)
 refine⟨e,at_,σ,enc,a,h1,?_,?_,?_,h5,h6,h7,h8,h9⟩
 ·rw[bM _ _ (fun id hid=>?_)]
  ·exact h2
  ·rw[h2]at hid;exact ht' id (hid.imp (hσ id) (fun x=>x))
 ·rw[bW _ _ (fun id hid=>ht' id (.inl (h3▸hid)))];exact h3
 ·rw[sS (g:=fun i=>eM (aI · σ 0) (h i)) (fun i hi=>by rw[ht' i (.inl hi)])];exact h4
def xl (T:Nat→V):Operand→V
 | .tmp t=>T t
 | .const v=>lf v
 | .global _=>.poison
 | .func f=>.fn f [] []
theorem iw (T:List (Nat×V)):It T=xl (kE T):=by funext x;cases x<;>rfl
def me (E:jC)(nid:Nat)(o:Oper)(T:Nat→V)(h:Nat→sA)(out:sH):Prop:=
 (∃f args ts g first cap,o.op= .call ⟨.value f,args,ts⟩∧xl T f= .fn g first cap∧cm E.tab nid g (first++(args.toList.map (xl T)++cap)) h out)∨
 yO E.ty nid o.op (xl T) h=some (true,out)
theorem ns {R:Type}{E:jC}{nid:Nat}{o:Oper}{T:List (Nat×V)}{h:Nat→sA}{k:sH→Option R}{r:R}(hr:iu E nid o T h k=some r):∃out,me E nid o (kE T) h out∧k out=some r:=by
 unfold iu at hr;split at hr
 ·rename_i f args ts hop;rw[iw]at hr;split at hr
  ·rename_i g first cap hf
   obtain⟨out,h1,h2⟩:=tg hr;exact⟨out,.inl ⟨f,args,ts,g,first,cap,hop,hf,h1⟩,h2⟩
  ·cases hr
 ·rw[iw]at hr;split at hr
  ·cases hr
  ·rename_i ok out ha;obtain⟨h1,h2⟩:=gA hr;subst h1;exact⟨out,.inr ha,h2⟩
theorem me.congr {E:jC}{nid:Nat}{o:Oper}{T T':Nat→V}{h h':Nat→sA}{out:sH}(hx:me E nid o T h out)(hT:∀x∈o.op.operands,xl T' x=xl T x)(ht:∀id∈out.touch,h' id=h id):me E nid o T' h' out:=by
 rcases hx with⟨f,args,ts,g,first,cap,h1,h2,h3⟩|ha
 ·rw[h1]at hT;refine .inl ⟨f,args,ts,g,first,cap,h1,?_,?_⟩
  ·rw[hT f (by simp[Op.operands,Call.operands])];exact h2
  ·rw[sS (g:=xl T) (fun x hx=>hT x (by simp at hx;simp[Op.operands,Call.operands,hx]))];exact h3.congr_h ht
 ·exact .inr (gq (mj ha ht) hT)
def fN (all:List Oper)(T:Nat→V)(o:Oper):Option Bool:=match o.guard with
 |none=>some true
 |some (j,want)=>match(all[j]?).bind (·.dst)with
  |none=>none
  |some g=>match T g with
   | .c (.bool b)=>some (b==want)
   | .c (.tuple _)=>some false
   |_=>none
def tI (T:Nat→V)(d:Option Nat)(v:V):Nat→V:=match d with
 |some d=>fun t=>if t=d then v else T t
 |none=>T
theorem aT (T:List (Nat×V))(d:Option Nat)(v:V):kE (Bb T d v)=tI (kE T) d v:=by
 cases d with
 |none=>rfl
 |some d=>
  funext t;simp only[Bb,tI,kE];cases hb:Nat.beq d t<;>simp only[cond_false,cond_true]
  ·rw[if_neg (fun e=>by subst e;simp at hb)]
  ·rw[if_pos (vB hb).symm]
theorem pQ (T:List (Nat×V))(g:Nat)(v:V)(h:kE T g=v):kE ((g,v)::T)=kE T:=by
 funext t;simp only[kE];cases hb:Nat.beq g t<;>simp only[cond_false,cond_true];rw[←vB hb,h]
def rP (nid:Nat):List sA→List (Nat×sA)
 | []=>[]
 |b::r=>(nid,b)::rP (nid+1) r
theorem iJ (h:Nat→sA):∀(a b:List (Nat×sA)),yD h (a++b)=yD (yD h a) b:=by
 intro a;induction a generalizing h with
 |nil=>intro b;rfl
 |cons p a ih=>intro b;obtain⟨i,x⟩:=p;funext j;simp only[j0,yD];rw[ih]
theorem Hi (h:Nat→sA)(nid:Nat)(bs:List sA):Hg h nid bs=yD h (rP nid bs):=by
 induction bs generalizing h nid with
 |nil=>rfl
 |cons b r ih=>funext j;simp only[rP,Hg,yD];rw[ih]
theorem ju (h:Nat→sA)(nid:Nat)(out:sH):cM h nid out=yD h (out.wr++rP nid out.new):=by
 unfold cM;rw[Hi,iJ]
theorem eT (nid:Nat)(bs:List sA):(rP nid bs).map (·.1)=(List.range bs.length).map (nid+ ·):=by
 induction bs generalizing nid with
 |nil=>rfl
 |cons b r ih=>simp only[rP,xK,hU,c5,n4,ih];simp[Function.comp_def,Nat.add_assoc,Nat.add_comm 1]
theorem zC {h:Nat→sA}{ups:List (Nat×sA)}{j:Nat}(hj:j∉ups.map (·.1)):yD h ups j=h j:=by
 induction ups generalizing h with
 |nil=>rfl
 |cons p r ih=>obtain⟨i,b⟩:=p;simp only[xK,hC,not_or]at hj;simp only[yD];rw[ih hj.2,if_neg hj.1]
theorem rl {h h':Nat→sA}{ups:List (Nat×sA)}{j:Nat}(hj:j∈ups.map (·.1)):yD h ups j=yD h' ups j:=by
 induction ups generalizing h h' with
 |nil=>cases hj
 |cons p r ih=>
  obtain⟨i,b⟩:=p;simp only[yD];by_cases hr:j∈r.map (·.1)
  ·exact ih hr
  ·simp only[xK,hC,hr,or_false]at hj;rw[zC hr,zC hr,if_pos hj,if_pos hj]
theorem C4 {h:Nat→sA}{a b:List (Nat×sA)}(hd:∀j∈a.map (·.1),j∉b.map (·.1)):yD (yD h a) b=yD (yD h b) a:=by
 funext j;by_cases ha:j∈a.map (·.1)
 ·rw[zC (hd j ha)];exact rl ha
 ·rw[zC (ups:=a) ha];by_cases hb:j∈b.map (·.1)
  ·exact rl hb
  ·rw[zC hb,zC hb,zC ha]
theorem Ba {T:Nat→V}{x y:Option Nat}{v u:V}(h:∀d,x=some d→y≠some d):tI (tI T x v) y u=tI (tI T y u) x v:=by
 cases x with
 |none=>rfl
 |some d=>
  cases y with
  |none=>rfl
  |some e=>
   have hne:d≠e:=fun he=>h d rfl (he▸rfl);funext t;simp only[tI];by_cases h1:t=e
   ·subst h1;rw[if_pos rfl,if_neg (Ne.symm hne),if_pos rfl]
   ·rw[if_neg h1];by_cases h2:t=d
    ·rw[if_pos h2,if_pos h2]
    ·rw[if_neg h2,if_neg h2,if_neg h1]
structure uX where
 i:Nat
 v:V
 touch:List Nat
 ups:List (Nat×sA)
def uX.fp (r:uX):Fp:=⟨r.i,r.touch,r.ups.map (·.1)⟩
structure eK where
 i:Nat
 nid:Nat
 o:Oper
def qK (tab:Nat→Option uA):Nat→Nat→List Oper→List eK
 |_,_,[]=>[]
 |i,nid,o::r=>⟨i,nid,o⟩::qK tab (i+1) (nid+aP tab o.op) r
def uH (E:jC)(all:List Oper)(len:Nat)(x:eK)(T:Nat→V)(h:Nat→sA)(r:uX):Prop:=
 r.i=x.i∧xj E.ntmps x.o.dst=true∧
 ((fN all T x.o=some true∧∃out,me E x.nid x.o T h out∧r=⟨x.i,out.val,out.touch,out.wr++rP x.nid out.new⟩∧out.new.length≤aP E.tab x.o.op∧x.nid+aP E.tab x.o.op≤len∧∀p∈out.wr,p.1<len)∨
  (fN all T x.o=some false∧r=⟨x.i,jM,[],[]⟩))
def Tr (E:jC)(all:List Oper)(len:Nat):List eK→(Nat→V)→(Nat→sA)→List uX→(Nat→V)→(Nat→sA)→Prop
 | [],T,h,[],T',h'=>T'=T∧h'=h
 |x::xs,T,h,r::rs,T',h'=>uH E all len x T h r∧Tr E all len xs (tI T x.o.dst r.v) (yD h r.ups) rs T' h'
 |_,_,_,_,_,_=>False
theorem hF:∀(H:List sA) (i:Nat) (x:sA),(xD H i x).length=H.length
 | [],_,_=>rfl
 |_::_,0,_=>rfl
 |_::r,n+1,x=>by simp[xD,hF r]
theorem ao:∀(ups:List (Nat×sA)) (H:List sA),(C7 H ups).length=H.length
 | [],_=>rfl
 |(i,b)::r,H=>by simp[C7,ao r,hF]
theorem yj:∀(bs:List sA) (H:List sA) (nid:Nat),Eb H nid bs=C7 H (rP nid bs)
 | [],_,_=>rfl
 |b::r,H,nid=>by simp only[Eb,rP,C7];exact yj r _ _
theorem an:∀(a b:List (Nat×sA)) (H:List sA),C7 (C7 H a) b=C7 H (a++b)
 | [],_,_=>rfl
 |(i,x)::r,b,H=>by simp only[C7,j0];exact an r b _
theorem iU:∀(H:List sA) (i:Nat) (x:sA),i<H.length→rA (xD H i x)=fun j=>if j=i then x else rA H j
 | [],_,_,h=>by simp at h
 |b::r,0,x,_=>by funext j;cases j<;>simp[xD,rA]
 |b::r,n+1,x,h=>by
  funext j;cases j with
  |zero=>simp[xD,rA]
  |succ j=>simp[xD,rA,iU r n x (by simpa using h)]
theorem db:∀(ups:List (Nat×sA)) (H:List sA),(∀p∈ups,p.1<H.length)→rA (C7 H ups)=yD (rA H) ups
 | [],_,_=>rfl
 |(i,b)::r,H,h=>by simp only[C7];rw[db r _ (fun p hp=>by rw[hF];exact h p (by simp[hp])),iU _ _ _ (h (i,b) (by simp))];rfl
theorem Gv {nid:Nat}{bs:List sA}{p:Nat×sA}(hp:p∈rP nid bs):nid≤p.1∧p.1<nid+bs.length:=by
 have:p.1∈(rP nid bs).map (·.1):=n3 hp;rw[eT]at this;simp at this;obtain⟨a,h1,h2⟩:=this;omega
theorem tv {R:Type}{E:jC}{all:List Oper}{r:R}{k:St→List Fp→Option R}:∀(rest:List Oper) (i nid:Nat) (T:List (Nat×V)) (H:List sA) (fps:List Fp),rY E all i rest nid T H fps k=some r→
  ∃rs T' H',Tr E all H.length (qK E.tab i nid rest) (kE T) (rA H) rs (kE T') (rA H')∧H'.length=H.length∧k ⟨T',H'⟩ ((rs.map uX.fp).reverse++fps)=some r:=by
 intro rest;induction rest with
 |nil=>intro i nid T H fps hr;exact⟨[],T,H,⟨rfl,rfl⟩,rfl,hr⟩
 |cons o rest ih=>
  intro i nid T H fps hr;unfold rY at hr;dsimp only at hr;obtain⟨hd,hr⟩:=gA hr;have hgo:∀T1:List (Nat×V),kE T1=kE T→fN all (kE T) o=some true→(iu E nid o T1 (rA H) fun out=>bif Ei H nid (aP E.tab o.op) out then
    rY E all (i+1) rest (nid+aP E.tab o.op) (Bb T1 o.dst out.val) (Eb (C7 H out.wr) nid out.new)
     (⟨i,out.touch,out.wr.map (·.1)++(List.range out.new.length).map (nid+ ·)⟩::fps) k
    else none)=some r→∃rs T' H',Tr E all H.length (qK E.tab i nid (o::rest)) (kE T) (rA H) rs (kE T') (rA H')∧H'.length=H.length∧k ⟨T',H'⟩ ((rs.map uX.fp).reverse++fps)=some r:=by
   intro T1 hT1 hw hr;obtain⟨out,hx,hr⟩:=ns hr;obtain⟨hok,hr⟩:=gA hr;simp only[Ei,iB,yK]at hok;obtain⟨⟨o1,o2⟩,o3⟩:=hok;have o1:=gG o1;have o2:=gG o2;rw[yj,an]at hr;obtain⟨rs,T',H',h1,h2,h3⟩:=ih _ _ _ _ _ hr;rw[ao]at h1 h2;rw[db _ _ (fun p hp=>by
    rcases zE.mp hp with hp|hp
    ·exact fD (o3 p hp)
    ·have:=Gv hp;omega)]at h1
   rw[aT,hT1]at h1;refine⟨⟨i,out.val,out.touch,out.wr++rP nid out.new⟩::rs,T',H',⟨⟨rfl,hd,.inl ⟨hw,out,hT1▸hx,rfl,o1,o2,fun p hp=>fD (o3 p hp)⟩⟩,h1⟩,h2,?_⟩;simp only[xK,x3,iX,z1];unfold uX.fp;simp only[b5,eT];exact h3
  have hskip:∀T1:List (Nat×V),kE T1=kE T→fN all (kE T) o=some false→rY E all (i+1) rest (nid+aP E.tab o.op) (Bb T1 o.dst jM) H (⟨i,[],[]⟩::fps) k=some r→
    ∃rs T' H',Tr E all H.length (qK E.tab i nid (o::rest)) (kE T) (rA H) rs (kE T') (rA H')∧H'.length=H.length∧k ⟨T',H'⟩ ((rs.map uX.fp).reverse++fps)=some r:=by
   intro T1 hT1 hw hr;obtain⟨rs,T',H',h1,h2,h3⟩:=ih _ _ _ _ _ hr;rw[aT,hT1]at h1;refine⟨⟨i,jM,[],[]⟩::rs,T',H',⟨⟨rfl,hd,.inr ⟨hw,rfl⟩⟩,h1⟩,h2,?_⟩;simp only[xK,x3,iX,z1];exact h3
  split at hr
  ·rename_i hg;exact hgo T rfl (by simp[fN,hg]) hr
  ·rename_i j want hg;split at hr
   ·cases hr
   ·rename_i g hgd;have hwant:∀b,kE T g= .c (.bool b)→fN all (kE T) o=some (b==want):=fun b hb=>by simp[fN,hg,hgd,hb]
    split at hr
    ·rename_i hb;cases want<;>simp only[cond_true,cond_false]at hr
     ·exact hskip _ (pQ _ _ _ hb) (hwant _ hb) hr
     ·exact hgo _ (pQ _ _ _ hb) (hwant _ hb) hr
    ·rename_i hb;cases want<;>simp only[cond_true,cond_false]at hr
     ·exact hgo _ (pQ _ _ _ hb) (hwant _ hb) hr
     ·exact hskip _ (pQ _ _ _ hb) (hwant _ hb) hr
    ·rename_i vs hb;exact hskip _ rfl (by simp[fN,hg,hgd,hb]) hr
    ·cases hr
section
theorem gu {d:Nat}{l:List Nat}:l.any (Nat.beq d)=true↔d∈l:=by
 simp only[c4];constructor
 ·rintro⟨x,hx,hb⟩;have:=vB hb;subst this;exact hx
 ·intro h;exact⟨d,h,by simp⟩
theorem nL {d:Nat}{l:List Nat}:(!(l.any (Nat.beq d)))=true↔d∉l:=by
 rw[c0,←Bool.not_eq_true,gu]
theorem qQ {a b:List Nat}:(!uZ a b)=true↔∀j∈a,j∉b:=by
 unfold uZ;rw[c0,←Bool.not_eq_true,c4];simp only[not_exists,not_and];constructor
 ·intro h j hj hb;exact h j hj (gu.mpr hb)
 ·intro h j hj hb;exact h j hj (gu.mp hb)
variable {E:jC}{all:List Oper}{len:Nat}
theorem uH.congr {x:eK}{T T':Nat→V}{h h':Nat→sA}{r:uX}(hc:uH E all len x T h r)(hT:∀t∈vV all x.o,T' t=T t)(hh:∀id∈r.touch,h' id=h id):uH E all len x T' h' r:=by
 obtain⟨h1,h2,h3⟩:=hc;have hop:∀y∈x.o.op.operands,xl T' y=xl T y:=by
  intro y hy;cases y with
  |tmp t=>refine hT t ?_;unfold vV Fq;exact j2 _ (List.mem_filterMap.mpr ⟨.tmp t,by simpa using hy,rfl⟩)
  |_=>rfl
 have hw:fN all T' x.o=fN all T x.o:=by
  unfold fN;cases hg:x.o.guard with
  |none=>rfl
  |some gw=>
   obtain⟨j,want⟩:=gw;dsimp only;cases hd:(all[j]?).bind (·.dst)with
   |none=>rfl
   |some g=>dsimp only;rw[hT g (by unfold vV;rw[hg];simp only[hd];exact y1 _ (by simp))]
 refine⟨h1,h2,?_⟩;rw[hw];rcases h3 with⟨a1,out,a2,a3,a4⟩|h3
 ·exact .inl ⟨a1,out,a2.congr hop (by subst a3;exact hh),a3,a4⟩
 ·exact .inr h3
structure Cc (all:List Oper)(x y:eK)(rx ry:uX):Prop where
 a1:∀d,x.o.dst=some d→d∉vV all y.o
 a2:∀d,x.o.dst=some d→y.o.dst≠some d
 a3:∀d,y.o.dst=some d→d∉vV all x.o
 b1:(∀j∈rx.touch,j∉ry.ups.map (·.1))∨jh x.o.op y.o.op=true
 b2:∀j∈rx.ups.map (·.1),j∉ry.touch
 b3:∀j∈rx.ups.map (·.1),j∉ry.ups.map (·.1)
theorem fg {T:Nat→V}{dst:Option Nat}{v:V}{t:Nat}(h:∀d,dst=some d→d≠t):tI T dst v t=T t:=by
 cases dst with
 |none=>rfl
 |some d=>simp only[tI];rw[if_neg (fun e=>h d rfl e.symm)]
theorem yg {l:List Int}:∀(ks:List (List Int)) (n:Nat) {j:Nat},cF l ks n=some j→n≤j∧j<n+ks.length
 | [],_,_,h=>by simp[cF]at h
 |k::r,n,j,h=>by
  simp only[cF]at h;cases hb:nW l k<;>rw[hb]at h
  ·obtain⟨a,b⟩:=yg r (n+1) h;simp only[hU];omega
  ·simp only[cond_true,Option.some.injEq]at h;subst h;simp only[hU];omega
theorem nr:∀(l:List Int),nW l l=true
 | []=>rfl
 |a::r=>by simp[nW,nr r]
theorem xV {l:List Int}:∀(ks:List (List Int)) (n:Nat),cF l ks n=none→cF l (ks++[l]) n=some (n+ks.length)
 | [],n,_=>by simp[cF,nr]
 |k::r,n,h=>by
  simp only[cF]at h;cases hb:nW l k<;>rw[hb]at h
  ·simp only[j0,cF,hb,cond_false];rw[xV r (n+1) h];simp only[hU,Option.some.injEq];omega
  ·cases h
theorem wZ {α:Type}{d:α}{l:List Int}{ks:List (List Int)}{vs:List α}:
  (match cF l (aC l ks) 0 with|some j=>(oG l (match cF l ks 0 with|some j=>vs.getD j d|none=>d) ks (vs.take ks.length)).getD j d|none=>d)=
   (match cF l ks 0 with|some j=>vs.getD j d|none=>d):=by
 cases hm:cF l ks 0 with
 |none=>
  have hK:aC l ks=ks++[l]:=by simp[aC,yQ,hm]
  rw[hK,xV ks 0 hm];simp only[oG,hm];rw[iA];by_cases hl:ks.length≤vs.length
  ·rw[hP (by simp;omega)];simp[Nat.min_eq_left hl]
  ·rw[aE (by simp;omega)];rfl
 |some j=>
  have hj:=yg ks 0 hm;have hK:aC l ks=ks:=by simp[aC,yQ,hm]
  rw[hK,hm];simp only[oG,hm];rw[iA,iA];by_cases hv:j<vs.length
  ·rw[List.getElem?_set_self (by simp;omega)];rfl
  ·rw[aE (by simp;omega),aE (by omega)]
theorem jc {l:List Int}{ks:List (List Int)}{vs c:xO}{v:V}(hv:cH l ks vs=some v)(hc:xR l ks (tQ ks.length vs) v=some c):
  cH l (aC l ks) c=some v∧∀te,nN te c=nN te vs:=by
 cases vs with
 |strs _=>simp[cH]at hv
 |ints k vs=>simp only[cH,Option.some.injEq]at hv;subst hv;simp only[tQ,xR]at hc;obtain⟨_,h2⟩:=gA hc;simp only[Option.some.injEq]at h2;subst h2;refine⟨?_,fun te=>rfl⟩;simp only[cH,Option.some.injEq];congr 2;exact wZ
 |bools vs=>simp only[cH,Option.some.injEq]at hv;subst hv;simp only[tQ,xR,Option.some.injEq]at hc;subst hc;refine⟨?_,fun te=>rfl⟩;simp only[cH,Option.some.injEq];congr 2;exact wZ
theorem uv {ty:Nat→Option TI}{t:Nat}{m i:V}{h:Nat→sA}{out outy:sH}(hx:uJ ty t m i false h=some (true,out))(hy:oH ty t m i h=some (true,outy)):
  outy.new=[]∧uJ ty t m i false (yD h outy.wr)=some (true,out):=by
 unfold oH at hy;split at hy
 ·rename_i kt et s0 b0 z0 id ht;split at hy
  ·rename_i k n ks vs tk te hid htk hte;split at hy
   ·rename_i l v hl hv;split at hy
    ·rename_i c hcol;obtain⟨hc,h2⟩:=gA hy;simp only[Option.some.injEq,Prod.mk.injEq,true_and]at h2;subst h2;refine⟨rfl,?_⟩;rw[hl]at hv;simp only at hv;obtain⟨g1,g2⟩:=jc hv hcol;unfold uJ at hx⊢;simp only[ht,hid,htk,hte,hl,hv]at hx;simp only[yD,ht,if_pos,htk,hte,hl,g1,g2];exact hx
    ·cases hy
   ·cases hy
  ·cases hy
 ·cases hy
theorem uH.look {x y:eK}{T:Nat→V}{h:Nat→sA}{rx ry:uX}(hx:uH E all len x T h rx)(hy:uH E all len y T h ry)(hl:jh x.o.op y.o.op=true):uH E all len x T (yD h ry.ups) rx:=by
 obtain⟨h1,h2,h3⟩:=hx;obtain⟨_,_,hy⟩:=hy;refine⟨h1,h2,?_⟩;rcases h3 with⟨a1,out,a2,a3,a4⟩|h3
 ·rcases hy with⟨b1,outy,b2,b3,b4⟩|⟨_,b3⟩
  ·refine .inl ⟨a1,out,?_,a3,a4⟩;unfold jh at hl;split at hl
   ·rename_i t a b t' a' b' e1 e2;simp only[iB]at hl;obtain⟨l1,l2,l3⟩:=hl;have l1:=vB l1;have l2:=vB l2;have l3:=vB l3;subst l1;subst l2;subst l3;rcases a2 with⟨_,_,_,_,_,_,e3,_⟩|a2
    ·rw[e1]at e3;cases e3
    ·rcases b2 with⟨_,_,_,_,_,_,e3,_⟩|b2
     ·rw[e2]at e3;cases e3
     ·rw[e1]at a2;rw[e2]at b2;refine .inr ?_;rw[e1];obtain⟨g1,g2⟩:=uv (ty:=E.ty) a2 b2;subst b3;simp only[g1,rP,y4];exact g2
   ·cases hl
  ·subst b3;exact .inl ⟨a1,out,a2,a3,a4⟩
 ·exact .inr h3
theorem uH.swap {x y:eK}{T:Nat→V}{h:Nat→sA}{rx ry:uX}(hx:uH E all len x T h rx)(hy:uH E all len y (tI T x.o.dst rx.v) (yD h rx.ups) ry)(ha:Cc all x y rx ry):
  uH E all len y T h ry∧uH E all len x (tI T y.o.dst ry.v) (yD h ry.ups) rx∧tI (tI T x.o.dst rx.v) y.o.dst ry.v=tI (tI T y.o.dst ry.v) x.o.dst rx.v∧yD (yD h rx.ups) ry.ups=yD (yD h ry.ups) rx.ups:=by
 have hy':uH E all len y T h ry:=hy.congr (fun t ht=>(fg (fun d hd he=>ha.a1 d hd (he▸ht))).symm) (fun id hid=>(zC (fun hm=>ha.b2 id hm hid)).symm);have hT:∀t∈vV all x.o,tI T y.o.dst ry.v t=T t:=fun t ht=>fg (fun d hd he=>ha.a3 d hd (he▸ht));refine⟨hy',?_,Ba ha.a2,C4 ha.b3⟩;rcases ha.b1 with hb|hl
 ·exact hx.congr hT (fun id hid=>zC (hb id hid))
 ·exact(hx.look hy' hl).congr hT (fun _ _=>rfl)
def C8 (E:jC)(all:List Oper)(len:Nat):List (eK×uX)→(Nat→V)→(Nat→sA)→(Nat→V)→(Nat→sA)→Prop
 | [],T,h,T',h'=>T'=T∧h'=h
 |p::xs,T,h,T',h'=>uH E all len p.1 T h p.2∧C8 E all len xs (tI T p.1.o.dst p.2.v) (yD h p.2.ups) T' h'
theorem Tr.pairs:∀{xs:List eK} {T:Nat→V} {h:Nat→sA} {rs:List uX} {T':Nat→V} {h':Nat→sA},Tr E all len xs T h rs T' h'→∃L:List (eK×uX),L.map (·.1)=xs∧L.map (·.2)=rs∧C8 E all len L T h T' h'
 | [],_,_,[],_,_,ht=>⟨[],rfl,rfl,ht⟩
 |x::xs,_,_,r::rs,_,_,ht=>by obtain⟨h1,h2⟩:=ht;obtain⟨L,a1,a2,a3⟩:=Tr.pairs h2;exact⟨(x,r)::L,by simp[a1],by simp[a2],h1,a3⟩
 | [],_,_,_::_,_,_,ht=>ht.elim
 |_::_,_,_,[],_,_,ht=>ht.elim
theorem C8.front {p:eK×uX}{L2:List (eK×uX)}{T':Nat→V}{h':Nat→sA}:∀(L1:List (eK×uX)) (T:Nat→V) (h:Nat→sA),C8 E all len (L1++p::L2) T h T' h'→(∀q∈L1,Cc all q.1 p.1 q.2 p.2)→
  uH E all len p.1 T h p.2∧C8 E all len (L1++L2) (tI T p.1.o.dst p.2.v) (yD h p.2.ups) T' h'
 | [],_,_,ht,_=>ht
 |q::L1,T,h,ht,ha=>by obtain⟨h1,h2⟩:=ht;obtain⟨h3,h4⟩:=C8.front L1 _ _ h2 (fun q hq=>ha q (by simp[hq]));obtain⟨s1,s2,s3,s4⟩:=h1.swap h3 (ha q (by simp));rw[s3,s4]at h4;exact⟨s1,s2,h4⟩
def ik (o:Oper):List Nat:=(o.after.toList.filter (Region.binds .any)).map (·.on)
theorem ej {accf:Nat→Nat}{x:Nat}:∀(ds:List Nat) (m:Nat),(ds.foldl (fun m d=>m|||(1<<<d)|||accf d) m).testBit x=true→
  m.testBit x=true∨x∈ds∨∃d∈ds,(accf d).testBit x=true
 | [],m,h=>Or.inl h
 |d::ds,m,h=>by
  rw[List.foldl_cons]at h;rcases ej ds _ h with h|h|⟨e,he,h⟩
  ·rw[Nat.testBit_or,Nat.testBit_or,Nat.testBit_shiftLeft]at h;simp only[x4,iB,decide_eq_true_eq]at h;rcases h with(h|⟨h1,h2⟩)|h
   ·exact Or.inl h
   ·have hz:x-d=0:=by
     rcases Nat.eq_zero_or_pos (x-d)with h|h
     ·exact h
     ·rw[Nat.testBit_lt_two_pow (Nat.one_lt_two_pow (by omega))]at h2;cases h2
    have:x=d:=by omega
    exact Or.inr (Or.inl (by simp[this]))
   ·exact Or.inr (Or.inr ⟨d,by simp,h⟩)
  ·exact Or.inr (Or.inl (x2 _ h))
  ·exact Or.inr (Or.inr ⟨e,x2 _ he,h⟩)
theorem ib {S:Nat→Prop}(hS:∀j o,S j→all[j]?=some o→∀d∈ik o,S d):
  ∀(rest:List Oper) (acc:List Nat),all=all.take acc.length++rest→acc.length≤all.length→(∀j o,j<acc.length→all[j]?=some o→(∀d∈ik o,S d)→∀x,(acc.reverse.getD j 0).testBit x=true→S x)→
   ∀j o,all[j]?=some o→(∀d∈ik o,S d)→∀x,((eL rest acc).getD j 0).testBit x=true→S x:=by
 intro rest;induction rest with
 |nil=>
  intro acc hall hle hinv j o hj hd x hx;simp only[eL]at hx;have:j<acc.length:=by have hjl:j<all.length:=(hN.mp hj).1;have:=congrArg List.length hall;simp at this;omega
  exact hinv j o this hj hd x hx
 |cons o rest ih=>
  intro acc hall hle hinv;have hlen:acc.length<all.length:=by have:=congrArg List.length hall;simp at this;omega
  have hat:all[acc.length]?=some o:=by
   have h2:(all.take acc.length++o::rest)[acc.length]?=some o:=by rw[hP (by simp;omega)];simp[Nat.min_eq_left hle]
   rw[←hall]at h2;exact h2
  simp only[eL];refine ih _ ?_ (by simp;omega) ?_
  ·simp only[hU];rw[List.take_add_one,hat];simp only[Option.toList,iX,z1];exact hall
  ·intro j oj hj hoj hd x hx;simp only[x3]at hx;simp only[hU]at hj;rcases hW j acc.length with hlt|hge
   ·refine hinv j oj hlt hoj hd x ?_;rw[iA,hG (by simpa using hlt)]at hx;rw[iA];exact hx
   ·have:j=acc.length:=by omega
    subst this;rw[hat]at hoj;simp only[Option.some.injEq]at hoj;subst hoj;rw[iA,hP (by simp)]at hx;simp only[List.length_reverse,Nat.sub_self,x0,k0]at hx;rcases ej _ _ hx with hx|hx|⟨d,hd1,hx⟩
    ·rw[Nat.zero_testBit]at hx;cases hx
    ·exact hd x hx
    ·have hSd:=hd d hd1;rcases hW d acc.length with hlt|hge
     ·have hdl:d<all.length:=by omega
      exact hinv d _ hlt (hD hdl) (fun d' hd'=>hS d _ hSd (hD hdl) d' hd') x hx
     ·rw[iA,aE (by simpa using hge)]at hx;rw[Option.getD_none,Nat.zero_testBit]at hx;cases hx
theorem aR:∀(rest:List Oper) (k:Nat),oM k rest=true→∀j o,rest[j]?=some o→∀d∈ik o,d<k+j
 | [],_,_,j,o,hj=>by simp at hj
 |x::r,k,hb,0,o,hj=>by simp at hj;subst hj;simp only[oM,iB,yK]at hb;intro d hd;simp only[ik,o4,hX]at hd;obtain⟨e,⟨h1,h2⟩,rfl⟩:=hd;have:=hb.1 e h1;rw[h2]at this;simp at this;omega
 |x::r,k,hb,j+1,o,hj=>by simp only[oM,iB]at hb;intro d hd;have:=aR r (k+1) hb.2 j o (by simpa using hj) d hd;omega
theorem tO {bef:List Nat}:∀(l:List Fp),jt all bef l=true→l.Pairwise (fun y x=>iZ all bef x y=true)
 | [],_=>.nil
 |y::r,h=>by simp only[jt,iB,yK]at h;exact .cons h.1 (tO r h.2)
section
variable {P:Program}{ops:Array Oper}{Q:Exit→Act→World→Prop}
theorem ot {o:Oper}{d:Nat}:d∈ik o↔∃e∈o.after,Region.binds .any e=true∧e.on=d:=by
 simp only[ik,o4,hX,Array.mem_toList_iff];constructor
 ·rintro⟨e,⟨h1,h2⟩,h3⟩;exact⟨e,h1,h2,h3⟩
 ·rintro⟨e,h1,h2,h3⟩;exact⟨e,⟨h1,h2⟩,h3⟩
theorem oW {l:Array Bool}{i:Nat}(h:l.getD i false=true):l.getD i true=true:=by
 rw[cD]at h⊢;cases hc:l[i]?<;>rw[hc]at h<;>simp_all
theorem pW {l:Array Bool}{i:Nat}(hi:i<l.size)(h:l.getD i true=true):l.getD i false=true:=by
 rw[cD,Array.getElem?_eq_getElem hi]at h⊢;exact h
theorem G5 (I:(Nat→V)→(Nat→sA)→List eK→Act→World→Prop){T':Nat→V}{h':Nat→sA}
  (hstep:∀T h pre x post r a w K,uH E ops.toList len x T h r→I T h (pre++x::post) a w→ops[x.i]?=some x.o→(∀a' w',I (tI T x.o.dst r.v) (yD h r.ups) (pre++post) a' w'→K a' w')→wpOp P ops Q x.i K a w)
  (hb:oM 0 ops.toList=true)(hQ:∀a w,I T' h' [] a w→Q .normal a w):
  ∀(fuel:Nat) (listed:Array Bool) (L:List (eK×uX)) (T:Nat→V) (h:Nat→sA) (a:Act) (w:World),C8 E ops.toList len L T h T' h'→I T h (L.map (·.1)) a w→L.length≤fuel→
   listed.size=ops.size→L.map (·.1.i)=(List.range ops.size).filter (fun i=>!listed.getD i true)→(∀p∈L,ops[p.1.i]?=some p.1.o)→(∀p∈L,p.2.i=p.1.i)→
   L.Pairwise (fun p q=>iZ ops.toList (eL ops.toList []) p.2.fp q.2.fp=true)→
   (∀j o,listed.getD j false=true→ops[j]?=some o→∀d∈ik o,listed.getD d false=true)→
   wpAny P .any ops Q fuel listed a w:=by
 intro fuel;induction fuel with
 |zero=>
  intro listed L T h a w ht hI hlen hsz hL ho hri hpw hcl;have:L=[]:=List.length_eq_zero_iff.mp (by omega);subst this;obtain⟨rfl,rfl⟩:=ht;refine⟨?_,hQ a w hI⟩;rw[List.eq_nil_iff_forall_not_mem];intro j hj;rw[mem_ready]at hj;obtain⟨h0,o,hjo,_⟩:=hj;have hjl:j<ops.size:=(n0.mp hjo).1;have:j∈(List.range ops.size).filter (fun i=>!listed.getD i true):=by simp only[hX,u0];exact⟨hjl,by rw[h0];rfl⟩
  rw[←hL]at this;simp at this
 |succ fuel ih=>
  intro listed L T h a w ht hI hlen hsz hL ho hri hpw hcl;refine⟨fun hr=>?_,fun i hi=>?_⟩
  ·cases L with
   |nil=>obtain⟨rfl,rfl⟩:=ht;exact hQ a w hI
   |cons p L=>
    exfalso;have hpo:=ho p (by simp);have hpl:p.1.i<ops.size:=(n0.mp hpo).1;have hin:p.1.i∈(List.range ops.size).filter (fun i=>!listed.getD i true):=by rw[←hL];simp
    simp only[hX,u0,c0]at hin;have hfirst:∀j,j<p.1.i→listed.getD j true=true:=by
     intro j hj;cases hc:listed.getD j true with
     |true=>rfl
     |false=>
      exfalso;have hm:j∈(p::L).map (·.1.i):=by rw[hL];simp only[hX,u0];exact⟨by omega,by rw[hc];rfl⟩
      have hsorted:((p::L).map (·.1.i)).Pairwise (· < ·):=by rw[hL];exact List.Pairwise.filter _ List.pairwise_lt_range
      simp only[xK,w3,hC]at hsorted hm;rcases hm with rfl|hm
      ·omega
      ·have:=hsorted.1 j hm;omega
    have hrd:p.1.i∈Region.ready .any ops listed:=by rw[mem_ready];refine⟨hin.2,p.1.o,hpo,fun e he hbe=>?_⟩;have hlt:e.on<0+p.1.i:=aR _ _ hb p.1.i p.1.o (by simpa using hpo) e.on (ot.mpr ⟨e,he,hbe,rfl⟩);exact pW (by omega) (hfirst e.on (by omega))
    rw[hr]at hrd;cases hrd
  ·have hi':=hi;rw[mem_ready]at hi;obtain⟨h0,o,hio,hdeps⟩:=hi;have hil:i<ops.size:=(n0.mp hio).1;have hm:i∈L.map (·.1.i):=by rw[hL];simp only[hX,u0];exact⟨hil,by rw[h0];rfl⟩
   obtain⟨p,hpL,hpi⟩:=o4.mp hm;obtain⟨L1,L2,rfl⟩:=List.append_of_mem hpL;have hpo:=ho p hpL;have hd':∀d∈ik o,listed.getD d false=true:=fun d hd=>by obtain⟨e,he,hbe,rfl⟩:=ot.mp hd;exact hdeps e he hbe
   have hbef:∀x,((eL ops.toList []).getD i 0).testBit x=true→listed.getD x false=true:=
    ib (all:=ops.toList) (S:=fun j=>listed.getD j false=true) (fun j o hj hjo=>hcl j o hj (by simpa using hjo)) ops.toList [] (by simp) (by simp) (fun j o hj=>by simp at hj) i o (by simpa using hio) hd'
   have hap:∀q∈L1,Cc ops.toList q.1 p.1 q.2 p.2:=by
    intro q hq;have hind:iZ ops.toList (eL ops.toList []) q.2.fp p.2.fp=true:=by rw[c3]at hpw;exact hpw.2.2 q hq p (by simp)
    have hqL:q∈L1++p::L2:=by simp[hq]
    have hqu:listed.getD q.1.i true=false:=by have:q.1.i∈(L1++p::L2).map (·.1.i):=n3 hqL;rw[hL]at this;simp only[hX,c0]at this;exact this.2
    simp only[iZ,uX.fp]at hind;rw[hri q hqL,hri p hpL,hpi,x4,iB,iB,iB]at hind;rcases hind with hind|⟨⟨⟨h1,h2⟩,h3⟩,h4⟩
    ·have:=oW (hbef _ hind);rw[hqu]at this;cases this
    ·have e1:ops.toList.getD q.1.i default=q.1.o:=by rw[iA];have:=ho q hqL;simp[this]
     have e2:ops.toList.getD i default=p.1.o:=by rw[←hpi,iA];simp[hpo]
     rw[e1,e2]at h1 h2;simp only[Cn,iB]at h1;refine⟨fun d hd=>?_,fun d hd he=>?_,fun d hd=>?_,((x4 _ _).mp h2).imp qQ.mp id,qQ.mp h3,qQ.mp h4⟩
     ·have:=h1.1;rw[hd]at this;simp only[iB]at this;exact nL.mp this.1
     ·have:=h1.1;rw[hd]at this;simp only[iB]at this;exact nL.mp this.2 (by simp[he])
     ·have:=h1.2;rw[hd]at this;exact nL.mp this
   obtain⟨hc,ht'⟩:=C8.front L1 T h ht hap;rw[←hpi];refine hstep T h (L1.map (·.1)) p.1 (L2.map (·.1)) p.2 a w _ hc (by simpa using hI) hpo (fun a' w' hI'=>?_);refine ih _ (L1++L2) _ _ a' w' ht' (by simpa using hI') (by simp at hlen⊢;omega) (by simpa using hsz) ?_ ?_ ?_ ?_ ?_
   ·have hnd:((L1++p::L2).map (·.1.i)).Nodup:=by rw[hL];exact(List.nodup_range).filter _
    have hf:((List.range ops.size).filter fun j=>!(listed.setIfInBounds p.1.i true).getD j true)=(((List.range ops.size).filter fun j=>!listed.getD j true).filter fun j=>j != p.1.i):=by
     rw[List.filter_filter];refine List.filter_congr (fun j hj=>?_);by_cases hji:j=p.1.i
     ·subst hji;have:(listed.setIfInBounds p.1.i true).getD p.1.i true=true:=by
       rw[cD,Array.getElem?_setIfInBounds_self];split<;>rfl
      rw[this];simp
     ·rw[getD_set_ne true (Ne.symm hji)];simp[hji]
    rw[hf,←hL];simp only[b5,xK,List.filter_append,List.filter_cons,bne_self_eq_false,Bool.false_eq_true,if_false];simp only[b5,xK,List.nodup_append,y2,hC]at hnd;obtain⟨_,⟨hn1,_⟩,hn2⟩:=hnd;rw[j3.mpr,j3.mpr]
    ·intro x hx;simp only[bne_iff_ne,ne_eq];rintro rfl;exact hn1 hx
    ·intro x hx;simp only[bne_iff_ne,ne_eq];rintro rfl;exact hn2 _ hx _ (.inl rfl) rfl
   ·intro q hq;refine ho q ?_;simp only[zE,hC]at hq⊢;rcases hq with h|h<;>simp[h]
   ·intro q hq;refine hri q ?_;simp only[zE,hC]at hq⊢;rcases hq with h|h<;>simp[h]
   ·exact hpw.sublist (List.Sublist.append_left (l5 _ _) _)
   ·intro j oj hj hoj d hd;by_cases hji:j=p.1.i
    ·subst hji;rw[hpi,hio]at hoj;simp only[Option.some.injEq]at hoj;subst hoj;exact getD_set_true (hd' d hd)
    ·rw[getD_set_ne false (Ne.symm hji)]at hj;exact getD_set_true (hcl j oj hj hoj d hd)
theorem G6 (I:(Nat→V)→(Nat→sA)→List eK→Act→World→Prop){T':Nat→V}{h':Nat→sA}
  (hstep:∀T h pre x post r a w K,uH E ops.toList len x T h r→I T h (pre++x::post) a w→ops[x.i]?=some x.o→(∀a' w',I (tI T x.o.dst r.v) (yD h r.ups) (pre++post) a' w'→K a' w')→wpOp P ops Q x.i K a w)
  (hQ:∀a w,I T' h' [] a w→Q .normal a w):
  ∀(L:List (eK×uX)) (T:Nat→V) (h:Nat→sA) (a:Act) (w:World),C8 E ops.toList len L T h T' h'→I T h (L.map (·.1)) a w→(∀p∈L,ops[p.1.i]?=some p.1.o)→wpOps P ops Q (L.map (·.1.i)) a w:=by
 intro L;induction L with
 |nil=>intro T h a w ht hI ho;obtain⟨rfl,rfl⟩:=ht;exact hQ a w hI
 |cons p L ih=>intro T h a w ht hI ho;simp only[xK];rw[wpOps_cons];exact hstep T h [] p.1 (L.map (·.1)) p.2 a w _ ht.1 (by simpa using hI) (ho p (by simp)) (fun a' w' hI'=>ih _ _ a' w' ht.2 (by simpa using hI') (fun q hq=>ho q (by simp[hq])))
end
end
mutual
theorem vA.avoid {ρ:vD}{M M':Nat→Prop}{w:World}(hM:∀b,M' b→M b):∀(x:V) (v:Value),vA ρ M w x v→vA ρ M' w x v
 | .c _,_,h=>by simpa only[vA]using h
 | .poison,_,_=>by simp only[vA]
 | .ptr _ _ _,_,h=>by simpa only[vA]using h
 | .sw _ _,_,h=>by simpa only[vA]using h
 | .sl _ _ _ _,_,h=>by simpa only[vA]using h
 | .mref _,_,h=>by simpa only[vA]using h
 | .il _ _ _,_,h=>by
  simp only[vA]at h⊢;obtain⟨h0,h1,h2|⟨b,o,cap,h2,h3,h4,h5,h6⟩⟩:=h
  ·exact⟨h0,h1,.inl h2⟩
  ·exact⟨h0,h1,.inr ⟨b,o,cap,h2,h3,h4,fun hm=>h5 (hM b hm),h6⟩⟩
 | .iv _ _,_,h=>by
  simp only[vA]at h⊢;obtain⟨h0,h2|⟨b,o,cap,h2,h3,h4,h5,h7⟩⟩:=h
  ·exact⟨h0,.inl h2⟩
  ·exact⟨h0,.inr ⟨b,o,cap,h2,h3,h4,fun hm=>h5 (hM b hm),h7⟩⟩
 | .ilp _ _ _ _,_,h=>by simp only[vA]at h⊢;obtain⟨b,o,h2,h3,h4,h5,h6⟩:=h;exact⟨b,o,h2,h3,h4,fun hm=>h5 (hM b hm),h6⟩
 | .ivp _ _ _ _,_,h=>by simp only[vA]at h⊢;obtain⟨b,o,h2,h3,h4,h5,h7⟩:=h;exact⟨b,o,h2,h3,h4,fun hm=>h5 (hM b hm),h7⟩
 | .agg cs,_,h=>by simp only[vA]at h⊢;obtain⟨vs,h1,h2⟩:=h;exact⟨vs,h1,lA.avoid hM cs _ h2⟩
 | .tup cs,_,h=>by simp only[vA]at h⊢;obtain⟨vs,h1,h2⟩:=h;exact⟨vs,h1,lA.avoid hM cs _ h2⟩
 | .fn _ a c,_,h=>by simp only[vA]at h⊢;obtain⟨va,vc,h1,h2,h3⟩:=h;exact⟨va,vc,h1,lA.avoid hM a _ h2,lA.avoid hM c _ h3⟩
theorem lA.avoid {ρ:vD}{M M':Nat→Prop}{w:World}(hM:∀b,M' b→M b):∀(x:List V) (v:List Value),lA ρ M w x v→lA ρ M' w x v
 | [],[],_=>by simp only[lA]
 |x::xs,v::vs,h=>by simp only[lA]at h⊢;exact⟨vA.avoid hM x v h.1,lA.avoid hM xs vs h.2⟩
 | [],_::_,h=>by simp only[lA]at h
 |_::_,[],h=>by simp only[lA]at h
end
mutual
theorem vA.ren {ρ ρ':vD}{M M':Nat→Prop}{w:World}{m:Nat→Option Nat}(hm:∀i j p,m i=some j→ρ i=some p→ρ' j=some p):∀(x:V) (v:Value),((∀b,M' b→M b)∨wG x=true)→vA ρ M w x v→vA ρ' M' w (K2 m x) v
 | .c _,_,_,h=>by simpa only[vA,Ev.K2]using h
 | .poison,_,_,_=>by simp only[vA,Ev.K2]
 | .ptr id _ _,_,_,h=>by
  simp only[Ev.K2];cases hid:m id with
  |none=>simp only[vA]
  |some j=>simp only[vA]at h⊢;obtain⟨b,n,C,h1,h2,h3⟩:=h;exact⟨b,n,C,hm _ _ _ hid h1,h2,h3⟩
 | .sw id _,_,_,h=>by
  simp only[Ev.K2];cases hid:m id with
  |none=>simp only[vA]
  |some j=>
   simp only[vA]at h⊢;obtain⟨h0,⟨b,n,C,cap,h1,h2⟩|⟨h1,h2⟩⟩:=h
   ·exact⟨h0,.inl ⟨b,n,C,cap,hm _ _ _ hid h1,h2⟩⟩
   ·exact⟨h0,.inr ⟨hm _ _ _ hid h1,h2⟩⟩
 | .sl id _ _ _,_,_,h=>by
  simp only[Ev.K2];cases hid:m id with
  |none=>simp only[vA]
  |some j=>
   simp only[vA]at h⊢;obtain⟨h0,⟨b,n,C,cap,h1,h2⟩|⟨h1,h2⟩⟩:=h
   ·exact⟨h0,.inl ⟨b,n,C,cap,hm _ _ _ hid h1,h2⟩⟩
   ·exact⟨h0,.inr ⟨h1,h2⟩⟩
 | .mref id,_,_,h=>by
  simp only[Ev.K2];cases hid:m id with
  |none=>simp only[vA]
  |some j=>simp only[vA]at h⊢;obtain⟨b,h1,h2⟩:=h;exact⟨b,hm _ _ _ hid h1,h2⟩
 | .il k s l,v,hM,h=>by
  simp only[Ev.K2];rcases hM with hM|hM
  ·have:=vA.avoid hM _ _ h;simpa only[vA]using this
  ·simp[wG]at hM
 | .iv s l,v,hM,h=>by
  simp only[Ev.K2];rcases hM with hM|hM
  ·have:=vA.avoid hM _ _ h;simpa only[vA]using this
  ·simp[wG]at hM
 | .ilp k l off ext,v,hM,h=>by
  simp only[Ev.K2];rcases hM with hM|hM
  ·have:=vA.avoid hM _ _ h;simpa only[vA]using this
  ·simp[wG]at hM
 | .ivp l i off ext,v,hM,h=>by
  simp only[Ev.K2];rcases hM with hM|hM
  ·have:=vA.avoid hM _ _ h;simpa only[vA]using this
  ·simp[wG]at hM
 | .agg cs,_,hM,h=>by simp only[vA,Ev.K2]at h⊢;obtain⟨vs,h1,h2⟩:=h;exact⟨vs,h1,lA.ren hm cs _ (by simpa only[wG]using hM) h2⟩
 | .tup cs,_,hM,h=>by simp only[vA,Ev.K2]at h⊢;obtain⟨vs,h1,h2⟩:=h;exact⟨vs,h1,lA.ren hm cs _ (by simpa only[wG]using hM) h2⟩
 | .fn _ a c,_,hM,h=>by simp only[vA,Ev.K2]at h⊢;obtain⟨va,vc,h1,h2,h3⟩:=h;exact⟨va,vc,h1,lA.ren hm a _ (hM.imp id (fun h=>by simp only[wG,iB]at h;exact h.1)) h2,lA.ren hm c _ (hM.imp id (fun h=>by simp only[wG,iB]at h;exact h.2)) h3⟩
theorem lA.ren {ρ ρ':vD}{M M':Nat→Prop}{w:World}{m:Nat→Option Nat}(hm:∀i j p,m i=some j→ρ i=some p→ρ' j=some p):∀(x:List V) (v:List Value),((∀b,M' b→M b)∨dO x=true)→lA ρ M w x v→lA ρ' M' w (aS m x) v
 | [],[],_,_=>by simp only[lA,aS]
 |x::xs,v::vs,hM,h=>by simp only[lA,aS]at h⊢;exact⟨vA.ren hm x v (hM.imp id (fun h=>by simp only[dO,iB]at h;exact h.1)) h.1,lA.ren hm xs vs (hM.imp id (fun h=>by simp only[dO,iB]at h;exact h.2)) h.2⟩
 | [],_::_,_,h=>by simp only[lA]at h
 |_::_,[],_,h=>by simp only[lA]at h
end
theorem dW (m:Nat→Option Nat):∀l:List V,(aS m l).length=l.length
 | []=>rfl
 |_::r=>by simp[aS,dW m r]
theorem yu (m:Nat→Option Nat)(k:IntKind)(s:Nat):∀dD:List (List Int),aS m (dD.map (.il k s))=dD.map (.il k s)
 | []=>rfl
 |_::r=>by simp only[xK,aS,Ev.K2,yu m k s r]
theorem qB.ren {ρ ρ':vD}{M M':Nat→Prop}{w:World}{m:Nat→Option Nat}(hm:∀i j p,m i=some j→ρ i=some p→ρ' j=some p){p:Pl}{x:sA}(hM:(∀b,M' b→M b)∨mJ x=true)(h:qB ρ M w p x):qB ρ' M' w p (eM m x):=by
 cases x with
 |dead=>trivial
 |ints k l=>exact h
 |mp k n ks vs=>exact h
 |it mid xE rem cur=>
  obtain⟨h1,h2,b,mb,seen,h4,h5,h6,h7⟩:=h;refine⟨h1,h2,b,mb,seen,h4,h5,fun i hi=>?_,h7⟩;cases mid with
  |none=>cases hi
  |some j=>exact hm j i _ hi (h6 j rfl)
 |vals cs=>
  obtain⟨h1,⟨h2,h3,h4⟩|⟨b,c,h2,h3,h4,h5⟩⟩:=h
  ·subst h3;exact⟨h1,.inl ⟨h2,rfl,h4⟩⟩
  ·exact⟨by rw[dW];exact h1,.inr ⟨b,c,h2,h3,h4,lA.ren hm _ _ (by simpa only[mJ]using hM) h5⟩⟩
 |nl k s dD=>
  obtain⟨h1,⟨h2,h3,h4⟩|⟨b,c,h2,h3,h4,h5⟩⟩:=h
  ·subst h3;exact⟨h1,.inl ⟨h2,rfl,h4⟩⟩
  ·have:=lA.ren hm _ _ (hM.imp id (fun h=>by simp[mJ]at h)) h5;rw[yu]at this;exact⟨h1,.inr ⟨b,c,h2,h3,h4,this⟩⟩
theorem dV {m:Nat→Option Nat}{x:sA}:(eM m x).live↔x.live:=by cases x<;>simp[eM,sA.live]
def cU (F:Nat→Prop)(ρ:vD)(bs:List sA)(w:World)(v:V)(bs':List sA)(v':Value)(w':World):Prop:=
 ∃ρ',(∀id,id<bs.length→ρ' id=ρ id)∧(∀id,bs'.length≤id→ρ' id=none)∧mA F ρ' (rA bs') w'∧vA ρ' (av F (kA ρ' (rA bs'))) w' v v'∧vH (kA ρ (rA bs)) w (kA ρ' (rA bs')) w'
def cP (P:Program)(f:Nat):Prop:=∃fn,P.funcs[f]?=some fn∧fn.body.isNone=false∧(fn.name== "runtime.NumGoroutine")=false
structure eA (P:Program)(f:Nat)(args:List V)(bs:List sA)(v:V)(bs':List sA):Prop where
 callable:cP P f
 calls:∀F ρ w args',mA F ρ (rA bs) w→(∀id,bs.length≤id→ρ id=none)→lA ρ (av F (kA ρ (rA bs))) w args args'→
  Calls P f args'.toArray w fun e w'=>∃v',e= .returned v'∧cU F ρ bs w v bs' v' w'
def dP (P:Program)(tab:Nat→Option uA):Prop:=∀f e,tab f=some e→∀args bs a enc,e.dec args bs=some (some a,enc)→eA P f args bs (enc a).pick.1 (enc a).pick.2
theorem bD:∀(bs:List sA) (j:Nat),rA bs j=bs.getD j .dead
 | [],_=>by simp[rA]
 |_::_,0=>by simp[rA]
 |b::r,j+1=>by simp[rA,bD r j]
theorem nS:∀(bs:List sA) (n:Nat),di bs n=bs.drop n
 |_,0=>by simp[di]
 | [],_+1=>by simp[di]
 |_::r,n+1=>by simp[di,nS r n]
theorem da {m:Nat→Option Nat}(bs:List sA)(j:Nat):rA (bs.map (eM m)) j=eM m (rA bs j):=by
 rw[bD,bD];simp only[iA,e0];cases bs[j]?<;>rfl
theorem C5 {h:Nat→sA}{nid:Nat}{bs:List sA}{id:Nat}(h1:nid≤id)(h2:id<nid+bs.length):yD h (rP nid bs) id=rA bs (id-nid):=by
 induction bs generalizing h nid with
 |nil=>simp at h2;omega
 |cons b r ih=>
  simp only[rP,yD];by_cases he:id=nid
  ·subst he;rw[zC (fun hm=>by rw[eT]at hm;simp at hm;omega),if_pos rfl];simp[rA]
  ·rw[ih (by omega) (by simp at h2;omega)];have:id-nid=(id- (nid+1))+1:=by omega
   rw[this];rfl
theorem Ea {nid:Nat}{bs:List sA}{id:Nat}(h:¬(nid≤id∧id<nid+bs.length)):id∉(rP nid bs).map (·.1):=by
 rw[eT];simp;intro x hx;omega
theorem zT:∀(σ:List Nat) (bs:List sA) (i:Nat),i∈(ck σ bs).map (·.1)→i∈σ
 | [],_,i,h=>by simp[ck]at h
 |_::_,[],i,h=>by simp[ck]at h
 |j::r,b::s,i,h=>by simp only[ck,xK,hC]at h⊢;exact h.imp id (zT r s i)
theorem j4:∀(σ:List Nat),nodup σ=true→σ.Nodup
 | [],_=>List.nodup_nil
 |i::r,h=>by simp only[nodup,iB]at h;exact y2.mpr ⟨nL.mp h.1,j4 r h.2⟩
theorem gh:∀(σ:List Nat) (bs:List sA) (h:Nat→sA) (j i:Nat),σ.Nodup→σ.length≤bs.length→σ[j]?=some i→yD h (ck σ bs) i=rA bs j
 | [],_,_,_,_,_,_,hi=>by simp at hi
 |x::r,[],_,_,_,_,hl,_=>by simp at hl
 |x::r,b::s,h,0,i,hn,hl,hi=>by simp at hi;subst hi;simp only[ck,yD];rw[zC (fun hm=>(y2.mp hn).1 (zT _ _ _ hm)),if_pos rfl];rfl
 |x::r,b::s,h,j+1,i,hn,hl,hi=>by simp only[ck,yD];rw[gh r s _ j i (y2.mp hn).2 (by simpa using hl) (by simpa using hi)];rfl
theorem gg:∀(τ:List Nat) (h:Nat→sA) (i:Nat),i∈τ→yD h (τ.map fun i=>(i,sA.dead)) i= .dead
 |x::r,h,i,hi=>by
  simp only[xK,yD];by_cases hr:i∈r
  ·exact gg r _ i hr
  ·rw[zC (by simpa[Function.comp_def]using hr)];rcases hC.mp hi with rfl|hi
   ·rw[if_pos rfl]
   ·exact absurd hi hr
theorem j7:∀(σ:List Nat) (i n j:Nat),aI i σ n=some j→n≤j∧σ[j-n]?=some i
 | [],i,n,j,h=>by simp[aI]at h
 |x::r,i,n,j,h=>by
  simp only[aI]at h;cases hb:Nat.beq x i<;>rw[hb]at h<;>simp only[cond_true,cond_false]at h
  ·obtain⟨h1,h2⟩:=j7 r i (n+1) j h;refine⟨by omega,?_⟩;have:j-n=(j- (n+1))+1:=by omega
   rw[this];simpa using h2
  ·simp only[Option.some.injEq]at h;subst h;have:=vB hb;subst this;simp
theorem j6 {σ:List Nat}{nid j i:Nat}(h:σ[j]?=some i):zH σ nid j=some i:=by unfold zH;rw[h]
theorem o5 {σ:List Nat}{nid j:Nat}(h:σ.length≤j):zH σ nid j=some (nid+(j-σ.length)):=by unfold zH;rw[aE h]
section
variable {P:Program}{F:Nat→Prop}{ρ:vD}{h:Nat→sA}{w:World}{nid:Nat}
mutual
theorem xu (hh:mA F ρ h w){Ml:Nat→Prop}(hM:∀b,Ml b→av F (kA ρ h) b):∀(v:V) (u:Value),(∀id∈(iI h v).2,∀b n C,ρ id=some ⟨some b,n,C⟩→(h id).live→¬Ml b)→vA ρ (av F (kA ρ h)) w v u→vA ρ Ml w (iI h v).1 u
 | .sw id s,u,hτ,hr=>by
  unfold iI at hτ⊢;split at hτ
  ·rename_i k l hid;have hl:(h id).live:=by rw[hid];trivial
   obtain⟨h0,⟨b,n,C,cap,c,h1,h2,h3,h4,h5,ho,hsz,hold⟩|⟨h1,h2,hk⟩⟩:=yF hh hr hl (by rw[hid];trivial)
   ·rw[hid]at hold;obtain⟨e1,e2,e3⟩:=hold;simp only[vA];refine⟨h0,by rw[e1];exact h2,.inr ⟨b,0,cap,by rw[e1];exact h5,by rw[e1];exact h3,ho.lt,hτ id (by simp) b n C h1 hl,fun j hj=>?_⟩⟩;rw[u4,ho.cell];exact e3 j hj
   ·rw[hid]at hk;rcases hk with⟨k2,hk⟩|hk|⟨_,_,hk⟩<;>cases hk;simp only[vA];exact⟨h0,by simp,.inl ⟨trivial,none,h2⟩⟩
  ·exact vA.avoid hM _ _ hr
 | .sl id s off len,u,hτ,hr=>by
  unfold iI at hτ⊢;split at hτ
  ·rename_i k l hid;have hl:(h id).live:=by rw[hid];trivial
   simp only[vA]at hr⊢;obtain⟨h0,⟨b,n,C,cap,h1,h2,h3,h4,h5⟩|⟨h1,a,h2⟩⟩:=hr
   ·obtain⟨c,ho,hsz,hold⟩:=hh.own hl (by rw[hid];trivial) h1;rw[hid]at hold;obtain⟨e1,e2,e3⟩:=hold;have hlen:((l.drop off).take (sG s len)).length=len*s:=by rw[dC];simp;omega
    rw[hlen];refine⟨h0,Nat.mul_mod_left _ _,.inr ⟨b,off,cap,by rw[p0 _ h0];exact h5,by rw[p0 _ h0];exact h3,ho.lt,hτ id (by simp) b n C h1 hl,fun j hj=>?_⟩⟩;rw[ho.cell,e3 _ (by omega)];congr 2;simp only[iA];rw[l4 (by rw[dC];omega),u3]
   ·subst h1;have:(l.drop off).take (sG s 0)=[]:=by rw[dC];simp
    rw[this];exact⟨h0,by simp,.inl ⟨rfl,a,h2⟩⟩
  ·exact vA.avoid hM _ _ hr
 | .agg cs,u,hτ,hr=>by unfold iI at hτ⊢;simp only[vA]at hr⊢;obtain⟨vs,h1,h2⟩:=hr;exact⟨vs,h1,xt hh hM cs _ hτ h2⟩
 | .c _,u,_,hr=>by simp only[iI];exact vA.avoid hM _ _ hr
 | .poison,u,_,hr=>by simp only[iI];exact vA.avoid hM _ _ hr
 | .ptr _ _ _,u,_,hr=>by simp only[iI];exact vA.avoid hM _ _ hr
 | .mref _,u,_,hr=>by simp only[iI];exact vA.avoid hM _ _ hr
 | .il _ _ _,u,_,hr=>by simp only[iI];exact vA.avoid hM _ _ hr
 | .iv _ _,u,_,hr=>by simp only[iI];exact vA.avoid hM _ _ hr
 | .ilp _ _ _ _,u,_,hr=>by simp only[iI];exact vA.avoid hM _ _ hr
 | .ivp _ _ _ _,u,_,hr=>by simp only[iI];exact vA.avoid hM _ _ hr
 | .tup _,u,_,hr=>by simp only[iI];exact vA.avoid hM _ _ hr
 | .fn _ _ _,u,_,hr=>by simp only[iI];exact vA.avoid hM _ _ hr
theorem xt (hh:mA F ρ h w){Ml:Nat→Prop}(hM:∀b,Ml b→av F (kA ρ h) b):∀(xs:List V) (us:List Value),(∀id∈(rU h xs).2,∀b n C,ρ id=some ⟨some b,n,C⟩→(h id).live→¬Ml b)→lA ρ (av F (kA ρ h)) w xs us→lA ρ Ml w (rU h xs).1 us
 | [],[],_,_=>by simp only[rU,lA]
 |x::xs,u::us,hτ,hr=>by unfold rU at hτ⊢;simp only[lA]at hr⊢;exact⟨xu hh hM x u (fun id hid=>hτ id (j2 _ hid)) hr.1,xt hh hM xs us (fun id hid=>hτ id (y1 _ hid)) hr.2⟩
 | [],_::_,_,hr=>by simp only[lA]at hr
 |_::_,[],_,hr=>by simp only[lA]at hr
end
theorem pR (hh:mA F ρ h w){Ml:Nat→Prop}(hM:∀b,Ml b→av F (kA ρ h) b):∀(bs:List Bool) (xs:List V) (us:List Value),(∀id∈(zD h bs xs).2,∀b n C,ρ id=some ⟨some b,n,C⟩→(h id).live→¬Ml b)→lA ρ (av F (kA ρ h)) w xs us→lA ρ Ml w (zD h bs xs).1 us
 | [],xs,us,_,hr=>by simp only[zD];exact lA.avoid hM _ _ hr
 |true::bs,[],us,_,hr=>by simp only[zD];exact lA.avoid hM _ _ hr
 |false::bs,[],us,_,hr=>by simp only[zD];exact lA.avoid hM _ _ hr
 |_::_,_::_,[],_,hr=>by simp only[lA]at hr
 |true::bs,x::xs,u::us,hτ,hr=>by unfold zD at hτ⊢;simp only[lA]at hr⊢;exact⟨xu hh hM x u (fun id hid=>hτ id (j2 _ hid)) hr.1,pR hh hM bs xs us (fun id hid=>hτ id (y1 _ hid)) hr.2⟩
 |false::bs,x::xs,u::us,hτ,hr=>by unfold zD at hτ⊢;simp only[lA]at hr⊢;exact⟨vA.avoid hM _ _ hr.1,pR hh hM bs xs us hτ hr.2⟩
end
section
variable {P:Program}{F:Nat→Prop}{ρ:vD}{h:Nat→sA}{w:World}{nid:Nat}
def Ii (F:Nat→Prop)(ρ:vD)(h:Nat→sA)(w:World)(nid:Nat)(out:sH)(v:Value)(w':World)(ρ':vD):Prop:=
 sO ρ ρ'∧(∀id,(id<nid∨nid+out.new.length≤id)→ρ' id=ρ id)∧
  mA F ρ' (cM h nid out) w'∧vA ρ' (av F (kA ρ' (cM h nid out))) w' out.val v∧vH (kA ρ h) w (kA ρ' (cM h nid out)) w'
theorem Gc (hh:mA F ρ h w){σ τ:List Nat}{v0:V}{bs0:List sA}(hn:∀id,nid≤id→id<nid+(bs0.length-σ.length)→ρ id=none)
  (hσ:σ.Nodup)(hle:σ.length≤bs0.length)(hdis:∀j∈σ,j∉τ)
  {ρ0:vD}{h0:Nat→sA}(hρ0:∀j i,σ[j]?=some i→ρ0 j=ρ i)(hρ0':∀j,σ.length≤j→ρ0 j=none)(hl0:∀j i,σ[j]?=some i→((h0 j).live↔(h i).live))(hl0':∀j,σ.length≤j→¬(h0 j).live)
  {Fl:Nat→Prop}(hFl:∀b,av F (kA ρ h) b→(∀id∈σ++τ,∀n C,ρ id=some ⟨some b,n,C⟩→¬(h id).live)→Fl b)
  {v':Value}{w':World}{ρ':vD}(hr1:∀j,j<σ.length→ρ' j=ρ0 j)(hr2:∀j,bs0.length≤j→ρ' j=none)
  (hH:mA Fl ρ' (rA bs0) w')(hv:vA ρ' (av Fl (kA ρ' (rA bs0))) w' v0 v')(he:vH (kA ρ0 h0) w (kA ρ' (rA bs0)) w'):
  ∃ρc,Ii F ρ h w nid (pG σ τ nid v0 bs0) v' w' ρc:=by
 let on:=zH σ nid
 let ρc:vD:=fun id=>if nid≤id∧id<nid+(bs0.length-σ.length)then ρ' (σ.length+(id-nid))else ρ id
 have hnew:(pG σ τ nid v0 bs0).new.length=bs0.length-σ.length:=by simp[pG,nS]
 generalize hout:pG σ τ nid v0 bs0=out at*;have hwr:out.wr=ck σ (bs0.map (eM on))++(bif wG v0&&bs0.all mJ then []else τ.map fun i=>(i,.dead)):=by subst hout;rfl
 have hnw:out.new=(bs0.map (eM on)).drop σ.length:=by subst hout;simp[pG,nS];rfl
 have hval:out.val=K2 on v0:=by subst hout;rfl
 have H1:∀id,nid≤id→id<nid+(bs0.length-σ.length)→cM h nid out id=eM on (rA bs0 (σ.length+(id-nid))):=by intro id h1 h2;rw[ju,iJ,C5 h1 (by rw[hnew];exact h2),hnw,←da];rw[bD,bD];simp only[iA,u3]
 have Hx:∀id,¬(nid≤id∧id<nid+(bs0.length-σ.length))→cM h nid out id=yD h out.wr id:=by intro id hid;rw[ju,iJ,zC (Ea (by rw[hnew];exact hid))]
 have H2:∀id j,¬(nid≤id∧id<nid+(bs0.length-σ.length))→σ[j]?=some id→cM h nid out id=eM on (rA bs0 j):=by intro id j hid hj;have hm:id∈σ:=dQ hj;rw[Hx id hid,hwr,iJ,zC,gh σ _ h j id hσ (by simpa using hle) hj,da];intro hx;cases hc:(wG v0&&bs0.all mJ)<;>rw[hc]at hx<;>simp only[cond_true,cond_false,List.map_nil,j1]at hx;simp at hx;exact hdis id hm hx
 have H4:∀id,¬(nid≤id∧id<nid+(bs0.length-σ.length))→id∉σ→(cM h nid out id).live→cM h nid out id=h id∧(id∈τ→(wG v0&&bs0.all mJ)=true):=by
  intro id hid hm hl;rw[Hx id hid,hwr,iJ]at hl⊢;cases hc:(wG v0&&bs0.all mJ)<;>rw[hc]at hl<;>simp only[cond_true,cond_false]at hl⊢
  ·have hτ:id∉τ:=by
    intro hτ;rw[gg _ _ _ hτ]at hl;exact hl
   rw[zC (by simpa[Function.comp_def]using hτ),zC (fun hx=>hm (zT _ _ _ hx))];exact⟨rfl,fun hx=>absurd hx hτ⟩
  ·simp only[yD];rw[zC (fun hx=>hm (zT _ _ _ hx))];exact⟨rfl,fun _=>trivial⟩
 have hliveM:∀b,kA ρ0 h0 b→∃i∈σ,∃n C,ρ i=some ⟨some b,n,C⟩∧(h i).live:=by
  rintro b ⟨j,n,C,h1,h2⟩;rcases hW j σ.length with hj|hj
  ·have hi:=hD hj;rw[hρ0 j _ hi]at h1;exact⟨_,dQ hi,n,C,h1,(hl0 j _ hi).mp h2⟩
  ·exact absurd h2 (hl0' j hj)
 have hliveM':∀b,kA ρ0 h0 b→kA ρ h b:=fun b hb=>by obtain⟨i,_,n,C,h1,h2⟩:=hliveM b hb;exact⟨i,n,C,h1,h2⟩
 have hρc1:∀id,nid≤id→id<nid+(bs0.length-σ.length)→ρc id=ρ' (σ.length+(id-nid)):=fun id h1 h2=>if_pos ⟨h1,h2⟩;have hρc2:∀id,¬(nid≤id∧id<nid+(bs0.length-σ.length))→ρc id=ρ id:=fun id h1=>if_neg h1;have src:∀id,(cM h nid out id).live→(∃j,j<bs0.length∧on j=some id∧cM h nid out id=eM on (rA bs0 j)∧ρc id=ρ' j∧(rA bs0 j).live)∨
   (id∉σ∧cM h nid out id=h id∧ρc id=ρ id∧(h id).live∧(id∈τ→(wG v0&&bs0.all mJ)=true)):=by
  intro id hl;by_cases hr:nid≤id∧id<nid+(bs0.length-σ.length)
  ·refine .inl ⟨σ.length+(id-nid),by omega,?_,H1 id hr.1 hr.2,hρc1 id hr.1 hr.2,?_⟩
   ·show zH σ nid _=_;rw[o5 (by omega)];congr 1;omega
   ·rw[H1 id hr.1 hr.2]at hl;exact dV.mp hl
  ·by_cases hm:id∈σ
   ·obtain⟨j,hj,hij⟩:=List.mem_iff_getElem.mp hm;have hj':σ[j]?=some id:=by rw[hD hj,hij]
    refine .inl ⟨j,by omega,j6 hj',H2 id j hr hj',?_,?_⟩
    ·rw[hρc2 id hr,hr1 j hj,hρ0 j id hj']
    ·rw[H2 id j hr hj']at hl;exact dV.mp hl
   ·obtain⟨h1,h2⟩:=H4 id hr hm hl;exact .inr ⟨hm,h1,hρc2 id hr,h1▸hl,h2⟩
 have hren:∀j i p,on j=some i→ρ' j=some p→ρc i=some p:=by
  intro j i p hj hp;have hjl:j<bs0.length:=by
   rcases hW j bs0.length with h|h
   ·exact h
   ·rw[hr2 j h]at hp;cases hp
  rcases hW j σ.length with hlt|hge
  ·have hi:=hD hlt;have:i=σ[j]:=by have:=j6 (nid:=nid) hi;rw[show zH σ nid j=on j from rfl,hj]at this;exact Option.some.inj this
   subst this;rw[hr1 j hlt,hρ0 j _ hi]at hp;have hnr:¬(nid≤σ[j]∧σ[j]<nid+(bs0.length-σ.length)):=fun hr=>by rw[hn _ hr.1 hr.2]at hp;cases hp
   rw[hρc2 _ hnr];exact hp
  ·have:i=nid+(j-σ.length):=by have:=o5 (nid:=nid) hge;rw[show zH σ nid j=on j from rfl,hj]at this;exact Option.some.inj this
   subst this;rw[hρc1 _ (by omega) (by omega)];have:σ.length+(nid+(j-σ.length)-nid)=j:=by omega
   rw[this];exact hp
 have hsub:sO ρ ρc:=by
  intro id p hp;have hnr:¬(nid≤id∧id<nid+(bs0.length-σ.length)):=fun hr=>by rw[hn _ hr.1 hr.2]at hp;cases hp
  rw[hρc2 id hnr];exact hp
 have hext:vH (kA ρ h) w (kA ρc (cM h nid out)) w':=by
  refine⟨he.size,fun b hb hm=>he.same b hb (fun hx=>hm (hliveM' b hx)),?_,he.keeps⟩;rintro b ⟨id,n,C,h1,h2⟩;rcases src id h2 with⟨j,_,_,_,h3,h4⟩|⟨_,_,h3,h4,_⟩
  ·rw[h3]at h1;exact(he.sub b ⟨j,n,C,h1,h4⟩).imp (hliveM' b) (fun x=>x)
  ·rw[h3]at h1;exact .inl ⟨id,n,C,h1,h4⟩
 have havoid:(wG v0&&bs0.all mJ)=true∨∀b,av F (kA ρc (cM h nid out)) b→av Fl (kA ρ' (rA bs0)) b:=by
  cases hc:(wG v0&&bs0.all mJ)with
  |true=>exact .inl rfl
  |false=>
   refine .inr (fun b hb=>?_);rcases hb with hb|⟨id,n,C,h1,h2⟩
   ·exact .inl (hFl b (.inl hb) (fun id _ n C hp hl=>hh.out b ⟨id,n,C,hp,hl⟩ hb))
   ·rcases src id h2 with⟨j,_,_,_,h3,h4⟩|⟨hm,_,h3,h4,hτ⟩
    ·rw[h3]at h1;exact .inr ⟨j,n,C,h1,h4⟩
    ·rw[h3]at h1;refine .inl (hFl b (.inr ⟨id,n,C,h1,h4⟩) (fun id' hid' n' C' hp hl=>?_));have:=hh.inj id' id b n' C' n C hl h4 hp h1;subst this;rcases zE.mp hid' with hx|hx
     ·exact hm hx
     ·have:=hτ hx;rw[hc]at this;cases this
 have hav1:∀{x:V},((wG v0&&bs0.all mJ)=true→wG x=true)→((∀b,av F (kA ρc (cM h nid out)) b→av Fl (kA ρ' (rA bs0)) b)∨wG x=true):=fun hx=>havoid.elim (fun hc=>.inr (hx hc)) .inl;refine⟨ρc,hsub,fun id hid=>hρc2 id (by rw[hnew]at hid;omega),⟨?_,?_,?_,hh.low' hext,hh.out' hext⟩,?_,hext⟩
 ·intro id p hp;by_cases hr:nid≤id∧id<nid+(bs0.length-σ.length)
  ·rw[hρc1 id hr.1 hr.2]at hp;exact hH.wf _ _ hp
  ·rw[hρc2 id hr]at hp;exact hh.wf _ _ hp
 ·intro id hl;rcases src id hl with⟨j,hjl,h1,h2,h3,h4⟩|⟨hm,h2,h3,h4,_⟩
  ·obtain⟨p,hp,hb⟩:=hH.rel j h4;refine⟨p,by rw[h3];exact hp,?_⟩;rw[h2];refine qB.ren hren ?_ hb;rcases havoid with hc|hc
   ·refine .inr ?_;simp only[iB,yK]at hc;refine hc.2 _ ?_;rw[bD,iA,hD hjl];exact List.getElem_mem hjl
   ·exact .inl hc
  ·obtain⟨p,hp,hb⟩:=hh.rel id h4;refine⟨p,by rw[h3];exact hp,?_⟩;rw[h2];refine qB.mono hsub hext hb (fun b hb'=>?_);obtain⟨pb,pn,pC⟩:=p;dsimp only at hb';subst hb';refine he.same b (kA.lt hh ⟨id,pn,pC,hp,h4⟩) (fun hx=>?_);obtain⟨i,hi,n,C,h5,h6⟩:=hliveM b hx;have:=hh.inj i id b _ _ _ _ h6 h4 h5 hp;subst this;exact hm hi
 ·intro i i' b n C n' C' hi hi' hpi hpi';have cross:∀{j id n C n' C'},(rA bs0 j).live→ρ' j=some ⟨some b,n,C⟩→id∉σ→(h id).live→ρ id=some ⟨some b,n',C'⟩→False:=by
   intro j id n C n' C' h1 h2 h3 h4 h5;rcases he.sub b ⟨j,n,C,h2,h1⟩with hx|hx
   ·obtain⟨i,hi,n2,C2,h6,h7⟩:=hliveM b hx;have:=hh.inj i id b _ _ _ _ h7 h4 h6 h5;subst this;exact h3 hi
   ·have:=kA.lt hh ⟨id,n',C',h5,h4⟩;omega
  rcases src i hi with⟨j,_,h1,_,h3,h4⟩|⟨hm,_,h3,h4,_⟩<;>rcases src i' hi' with⟨j',_,h1',_,h3',h4'⟩|⟨hm',_,h3',h4',_⟩<;>rw[h3]at hpi<;>rw[h3']at hpi'
  ·have:=hH.inj j j' b _ _ _ _ h4 h4' hpi hpi';subst this;rw[h1]at h1';exact Option.some.inj h1'
  ·exact(cross h4 hpi hm' h4' hpi').elim
  ·exact(cross h4' hpi' hm h4 hpi).elim
  ·exact hh.inj i i' b _ _ _ _ h4 h4' hpi hpi'
 ·rw[hval];exact vA.ren hren _ _ (hav1 (fun hc=>by simp only[iB]at hc;exact hc.1)) hv
theorem Ge {tab:Nat→Option uA}(htab:dP P tab)(hh:mA F ρ h w){f:Nat}{args:List V}{vs:List Value}{out:sH}(hc:cm tab nid f args h out)(hn:∀id,nid≤id→id<nid+out.new.length→ρ id=none)
  (hr:lA ρ (av F (kA ρ h)) w args vs):cP P f∧Calls P f vs.toArray w fun e w'=>∃v' ρ',e= .returned v'∧Ii F ρ h w nid out v' w' ρ':=by
 obtain⟨e,at_,σ,enc,a,h1,h2,h3,h4,h5,h6,h7,h8,h9⟩:=hc;have hS:=htab f e h1 _ _ a enc h4;have hσ:=j4 σ h7;have hdis:∀j∈σ,j∉at_.2:=qQ.mp (by rw[h8];rfl)
 let ρ0:vD:=fun j=>match σ[j]? with|some i=>ρ i|none=>none
 let Fl:Nat→Prop:=fun b=>av F (kA ρ h) b∧∀id∈σ++at_.2,∀n C,ρ id=some ⟨some b,n,C⟩→¬(h id).live
 have hρ0:∀j i,σ[j]?=some i→ρ0 j=ρ i:=fun j i hj=>by simp only[ρ0,hj]
 have hρ0':∀j,σ.length≤j→ρ0 j=none:=fun j hj=>by simp only[ρ0,aE hj]
 have hb0:∀j i,σ[j]?=some i→rA (σ.map fun i=>eM (aI · σ 0) (h i)) j=eM (aI · σ 0) (h i):=fun j i hj=>by rw[bD,iA,e0,hj];rfl
 have hb0':∀j,σ.length≤j→rA (σ.map fun i=>eM (aI · σ 0) (h i)) j= .dead:=fun j hj=>by rw[bD,iA,e0,aE hj];rfl
 have hl0:∀j i,σ[j]?=some i→((rA (σ.map fun i=>eM (aI · σ 0) (h i)) j).live↔(h i).live):=fun j i hj=>by rw[hb0 j i hj];exact dV
 have hl0':∀j,σ.length≤j→¬(rA (σ.map fun i=>eM (aI · σ 0) (h i)) j).live:=fun j hj=>by rw[hb0' j hj];exact id
 have hren:∀i j p,aI i σ 0=some j→ρ i=some p→ρ0 j=some p:=fun i j p hj hp=>by have:=(j7 σ i 0 j hj).2;rw[hρ0 j i (by simpa using this)];exact hp
 generalize hbs:(σ.map fun i=>eM (aI · σ 0) (h i))=bs at*;have hlen:bs.length=σ.length:=by subst hbs;simp
 have hlm:∀b,kA ρ0 (rA bs) b→∃i∈σ,∃n C,ρ i=some ⟨some b,n,C⟩∧(h i).live:=by
  rintro b ⟨j,n,C,g1,g2⟩;rcases hW j σ.length with hj|hj
  ·have hi:=hD hj;rw[hρ0 j _ hi]at g1;exact⟨_,dQ hi,n,C,g1,(hl0 j _ hi).mp g2⟩
  ·exact absurd g2 (hl0' j hj)
 have hM:∀b,av Fl (kA ρ0 (rA bs)) b→av F (kA ρ h) b:=by
  rintro b (hb|hb)
  ·exact hb.1
  ·obtain⟨i,_,n,C,g1,g2⟩:=hlm b hb;exact .inr ⟨i,n,C,g1,g2⟩
 have hH:mA Fl ρ0 (rA bs) w:=by
  have hex:∀j,(rA bs j).live→∃i,σ[j]?=some i:=fun j hl=>by
   rcases hW j σ.length with hj|hj
   ·exact⟨_,hD hj⟩
   ·exact absurd hl (hl0' j hj)
  refine⟨?_,?_,?_,?_,?_⟩
  ·intro j p hp;rcases hW j σ.length with hj|hj
   ·rw[hρ0 j _ (hD hj)]at hp;exact hh.wf _ _ hp
   ·rw[hρ0' j hj]at hp;cases hp
  ·intro j hl;obtain⟨i,hi⟩:=hex j hl;obtain⟨p,hp,hb⟩:=hh.rel i ((hl0 j i hi).mp hl);refine⟨p,by rw[hρ0 j i hi];exact hp,?_⟩;rw[hb0 j i hi];exact qB.ren hren (.inl hM) hb
  ·intro j j' b n C n' C' hl hl' hp hp';obtain⟨i,hi⟩:=hex j hl;obtain⟨i',hi'⟩:=hex j' hl';rw[hρ0 j i hi]at hp;rw[hρ0 j' i' hi']at hp';have:=hh.inj i i' b _ _ _ _ ((hl0 j i hi).mp hl) ((hl0 j' i' hi').mp hl') hp hp';subst this;have hj:j<σ.length:=(hN.mp hi).1;exact(List.getElem?_inj hj hσ).mp (by rw[hi,hi'])
  ·rintro b ⟨hb,_⟩;rcases hb with hb|hb
   ·exact hh.low b hb
   ·exact kA.lt hh hb
  ·intro b hb hf;obtain⟨i,hi,n,C,g1,g2⟩:=hlm b hb;exact hf.2 i (by simp[hi]) n C g1 g2
 have hargs:lA ρ (av Fl (kA ρ0 (rA bs))) w at_.1 vs:=by
  have:=pR (Ml:=av Fl (kA ρ0 (rA bs))) hh hM e.imm args vs ?_ hr
  ·rw[h2]at this;exact this
  ·rw[h2];intro id hid b n C hp hl hx;rcases hx with hx|hx
   ·exact hx.2 id (by simp[hid]) n C hp hl
   ·obtain⟨i,hi,n',C',g1,g2⟩:=hlm b hx;have:=hh.inj i id b _ _ _ _ g2 hl g1 hp;subst this;exact hdis i hi hid
 refine⟨hS.callable,Calls.mono (hS.calls Fl ρ0 w vs hH (fun id hid=>hρ0' id (by omega)) (lA.ren hren _ _ (.inl (fun b hb=>hb)) hargs)) ?_⟩;rintro e' w' ⟨v',he',ρ',g1,g2,g3,g4,g5⟩;have hnew:out.new.length=(enc a).pick.2.length-σ.length:=by rw[h9];simp[pG,nS]
 obtain⟨ρc,hpost⟩:=Gc (nid:=nid) hh (v0:=(enc a).pick.1) (bs0:=(enc a).pick.2) (fun id k1 k2=>hn id k1 (by omega)) hσ h6 hdis hρ0 hρ0' hl0 hl0' (Fl:=Fl) (fun b k1 k2=>⟨k1,k2⟩) (fun j hj=>g1 j (by omega)) g2 g3 g4 g5;rw[←h9]at hpost;exact⟨v',ρc,he',hpost⟩
end
structure yA (P:Program)(E:jC):Prop where
 ty:bF P E.ty
 tab:dP P E.tab
structure mi (E:jC)(F:Nat→Prop)(ρ:vD)(T:Nat→V)(h:Nat→sA)(a:Act)(w:World):Prop where
 heap:mA F ρ h w
 tmps:∀t,vA ρ (av F (kA ρ h)) w (T t) (a.eval (.tmp t))
 size:a.tmps.size=E.ntmps
 defers:a.defers=[]
theorem C6 {ρ:vD}{M:Nat→Prop}{w:World}(v:Value):vA ρ M w (lf v) v:=by
 unfold lf;split
 ·rename_i cs;simp only[vA];refine⟨cs,rfl,?_⟩;generalize cs.toList=l;induction l with
  |nil=>simp[lA]
  |cons x l ih=>simp only[xK,lA,vA];exact⟨trivial,ih⟩
 ·simp only[vA]
section
variable {P:Program}{E:jC}{F:Nat→Prop}{ρ:vD}{T:Nat→V}{h:Nat→sA}{a:Act}{w:World}
theorem mi.ev (hr:mi E F ρ T h a w)(x:Operand):vA ρ (av F (kA ρ h)) w (xl T x) (a.eval x):=by
 cases x with
 |tmp t=>exact hr.tmps t
 |const v=>exact C6 v
 |global g=>simp only[xl,vA]
 |func f=>simp only[xl,vA,Act.eval];exact⟨#[],#[],rfl,by simp[lA],by simp[lA]⟩
theorem mi.put {ρ':vD}{h':Nat→sA}{w':World}(hr:mi E F ρ T h a w)(hs:sO ρ ρ')(hh:mA F ρ' h' w')(he:vH (kA ρ h) w (kA ρ' h') w'){d:Option Nat}(hd:xj E.ntmps d=true){x:V}{v:Value}(hx:vA ρ' (av F (kA ρ' h')) w' x v):
  mi E F ρ' (tI T d x) h' (a.put d v) w':=by
 have hm:∀t,vA ρ' (av F (kA ρ' h')) w' (T t) (a.eval (.tmp t)):=fun t=>vA.mono hs he _ _ (hr.tmps t);cases d with
 |none=>exact⟨hh,hm,hr.size,hr.defers⟩
 |some d=>
  have hlt:d<a.tmps.size:=by rw[hr.size];exact fD hd
  refine⟨hh,fun t=>?_,by simp[Act.put,hr.size],hr.defers⟩;simp only[tI,Act.put,Act.eval];by_cases ht:t=d
  ·subst ht;rw[if_pos rfl,cD,o0 hlt];exact hx
  ·rw[if_neg ht,cD,Array.getElem?_setIfInBounds_ne (Ne.symm ht),←cD];exact hm t
theorem zl {all:Array Oper}(hr:mi E F ρ T h a w){o:Oper}{b:Bool}(hw:fN all.toList T o=some b):Region.wanted o (yielded all a.tmps)=b:=by
 unfold fN at hw;unfold Region.wanted;cases hg:o.guard with
 |none=>rw[hg]at hw;simp only[Option.some.injEq]at hw;exact hw
 |some gw=>
  obtain⟨j,want⟩:=gw;rw[hg]at hw;dsimp only at hw⊢;unfold yielded;rw[Array.getElem?_toList]at hw;cases hd:(all[j]?).bind (·.dst)with
  |none=>rw[hd]at hw;cases hw
  |some g=>
   rw[hd]at hw;dsimp only at hw;have hv:=hr.tmps g;simp only[Option.bind_some];split at hw
   ·rename_i b' hb;rw[hb]at hv;simp only[vA,Act.eval]at hv;simp only[Option.some.injEq]at hw;rw[cD]at hv;cases ht:a.tmps[g]? with
    |none=>rw[ht]at hv;cases hv
    |some u=>rw[ht]at hv;simp only[k0]at hv;subst hv;rw[←hw];cases b'<;>cases want<;>rfl
   ·rename_i vs hb;rw[hb]at hv;simp only[vA,Act.eval]at hv;simp only[Option.some.injEq]at hw;rw[cD]at hv;rw[←hw];cases ht:a.tmps[g]? with
    |none=>rfl
    |some u=>rw[ht]at hv;simp only[k0]at hv;subst hv;rfl
   ·cases hw
theorem lA.map_evF {xs:List Operand}(hr:mi E F ρ T h a w):lA ρ (av F (kA ρ h)) w (xs.map (xl T)) (xs.map a.eval):=by
 induction xs with
 |nil=>simp[lA]
 |cons x xs ih=>simp only[xK,lA];exact⟨hr.ev x,ih⟩
theorem F6 {o:Oper}{f:Operand}{args:Array Operand}{ts:Array TypeId}{g:FuncId}{va vc:Array Value}(ho:o.op= .call ⟨.value f,args,ts⟩)(hf:a.eval f= .func (.func g) va vc)(hc:cP P g):
  (execOp a.eval o).run P w= .ok (.enter g (va++args.map a.eval++vc)) w:=by
 obtain⟨fn,h1,h2,h3⟩:=hc;have h4:fn.name≠ "runtime.NumGoroutine" :=by simpa using h3
 cases hb:fn.body with
 |none=>rw[hb]at h2;cases h2
 |some c=>unfold execOp;rw[ho];simp[resolve,Deferred.ofValue,hf,invoke,callFunc,h1,h4,hb]
def tX (E:jC)(F:Nat→Prop)(len base:Nat)(ρ0:vD)(M0:Nat→Prop)(w0:World)(T:Nat→V)(h:Nat→sA)(rem:List eK)(a:Act)(w:World):Prop:=
 ∃ρ,mi E F ρ T h a w∧(∀x∈rem,∀id,x.nid≤id→id<x.nid+aP E.tab x.o.op→ρ id=none)∧rem.Pairwise (fun x y=>x.nid+aP E.tab x.o.op≤y.nid)∧
  (∀id,len≤id→ρ id=none)∧(∀id,id<base→ρ id=ρ0 id)∧(∀x∈rem,base≤x.nid)∧vH M0 w0 (kA ρ h) w
theorem tX.next {len base:Nat}{ρ0:vD}{M0:Nat→Prop}{w0:World}{pre post:List eK}{x:eK}(hr:mi E F ρ T h a w)
  (h1:∀y∈pre++x::post,∀id,y.nid≤id→id<y.nid+aP E.tab y.o.op→ρ id=none)(h2:(pre++x::post).Pairwise (fun x y=>x.nid+aP E.tab x.o.op≤y.nid))
  (h3:∀id,len≤id→ρ id=none)(h4:∀id,id<base→ρ id=ρ0 id)(h5:∀y∈pre++x::post,base≤y.nid)(h6:vH M0 w0 (kA ρ h) w)
  (hd:xj E.ntmps x.o.dst=true){out:sH}(hn:out.new.length≤aP E.tab x.o.op)(hl:x.nid+aP E.tab x.o.op≤len){v:Value}{w':World}{ρ':vD}(hp:Ii F ρ h w x.nid out v w' ρ'):
  tX E F len base ρ0 M0 w0 (tI T x.o.dst out.val) (yD h (out.wr++rP x.nid out.new)) (pre++post) (a.put x.o.dst v) w':=by
 obtain⟨p1,p2,p3,p4,p5⟩:=hp;rw[ju]at p3 p4 p5;rw[c3]at h2;obtain⟨q1,q2,q3⟩:=h2;rw[w3]at q2;refine⟨ρ',hr.put p1 p3 p5 hd p4,?_,?_,?_,?_,?_,h6.trans p5⟩
 ·intro y hy id k1 k2;rcases zE.mp hy with hy|hy
  ·have:=q3 y hy x (by simp);rw[p2 id (by omega)];exact h1 y (by simp[hy]) id k1 k2
  ·have:=q2.1 y hy;rw[p2 id (by omega)];exact h1 y (by simp[hy]) id k1 k2
 ·rw[c3];exact⟨q1,q2.2,fun y hy z hz=>q3 y hy z (by simp[hz])⟩
 ·intro id hid;rw[p2 id (by omega)];exact h3 id hid
 ·intro id hid;have:=h5 x (by simp);rw[p2 id (by omega)];exact h4 id hid
 ·intro y hy;refine h5 y ?_;simp only[zE,hC]at hy⊢;rcases hy with hy|hy<;>simp[hy]
theorem yy (hE:yA P E){ops:Array Oper}{Q:Exit→Act→World→Prop}{len base:Nat}{ρ0:vD}{M0:Nat→Prop}{w0:World}{pre post:List eK}{x:eK}{r:uX}{K:Act→World→Prop}
  (hc:uH E ops.toList len x T h r)(hI:tX E F len base ρ0 M0 w0 T h (pre++x::post) a w)(hx:ops[x.i]?=some x.o)
  (hK:∀a' w',tX E F len base ρ0 M0 w0 (tI T x.o.dst r.v) (yD h r.ups) (pre++post) a' w'→K a' w'):wpOp P ops Q x.i K a w:=by
 obtain⟨ρ,hr,h1,h2,h3,h4,h5,h6⟩:=hI;obtain⟨c1,hd,⟨hw,out,hex,rfl,hn,hl,_⟩|⟨hw,rfl⟩⟩:=hc
 ·unfold wpOp;rw[hx];dsimp only;rw[zl hr hw,if_pos rfl];refine .inl ?_;unfold Oper.wp;have hslot:∀id,x.nid≤id→id<x.nid+out.new.length→ρ id=none:=fun id k1 k2=>h1 x (by simp) id k1 (by omega);rcases hex with⟨f,args,ts,g,first,cap,e1,e2,e3⟩|hact
  ·have hf:=hr.ev f;rw[e2]at hf;simp only[vA]at hf;obtain⟨va,vc,f1,f2,f3⟩:=hf;have hargs:lA ρ (av F (kA ρ h)) w (first++(args.toList.map (xl T)++cap)) (va.toList++(args.toList.map a.eval++vc.toList)):=
    f2.append ((lA.map_evF hr).append f3)
   obtain⟨hcal,hcalls⟩:=Ge hE.tab hr.heap e3 hslot hargs;rw[F6 e1 f1 hcal,Oper.upon_enter];have hav:(va++args.map a.eval++vc)=(va.toList++(args.toList.map a.eval++vc.toList)).toArray:=by apply Array.toList_inj.mp;simp
   rw[hav];refine Calls.mono hcalls ?_;rintro e w' ⟨v',ρ',rfl,hp⟩;exact hK _ _ (tX.next hr h1 h2 h3 h4 h5 h6 hd hn hl hp)
  ·obtain⟨v,w',ρ',hrun,p⟩:=Im (P:=P) hE.ty hr.heap hr.ev hslot x.o.op x.o rfl hact;rcases hrun with hrun|⟨hrun,rfl⟩
   ·rw[hrun,Oper.upon_value];exact hK _ _ (tX.next hr h1 h2 h3 h4 h5 h6 hd hn hl p)
   ·rw[hrun,Oper.upon_skip];exact hK _ _ (tX.next hr h1 h2 h3 h4 h5 h6 hd hn hl p)
 ·unfold wpOp;rw[hx];dsimp only;rw[zl hr hw];simp only[Bool.false_eq_true,if_false];refine hK _ _ ⟨ρ,hr.put (sO.refl _) hr.heap (vH.refl _ _) hd (by simp only[jM,vA];rfl),?_,?_,h3,h4,?_,h6⟩
  ·intro y hy;refine h1 y ?_;simp only[zE,hC]at hy⊢;rcases hy with hy|hy<;>simp[hy]
  ·exact h2.sublist (List.Sublist.append_left (l5 _ _) _)
  ·intro y hy;refine h5 y ?_;simp only[zE,hC]at hy⊢;rcases hy with hy|hy<;>simp[hy]
theorem xx (tab:Nat→Option uA):∀(ops:List Oper) (i nid:Nat),(qK tab i nid ops).map (·.i)=(List.range ops.length).map (i+ ·)
 | [],_,_=>rfl
 |o::r,i,nid=>by simp only[qK,xK,hU,c5,n4,xx tab r];simp[Function.comp_def,Nat.add_assoc,Nat.add_comm 1]
theorem xz (tab:Nat→Option uA):∀(ops:List Oper) (i nid:Nat),∀x∈qK tab i nid ops,i≤x.i∧ops[x.i-i]?=some x.o
 | [],_,_,x,hx=>by simp[qK]at hx
 |o::r,i,nid,x,hx=>by
  simp only[qK,hC]at hx;rcases hx with rfl|hx
  ·simp
  ·obtain⟨h1,h2⟩:=xz tab r _ _ x hx;refine⟨by omega,?_⟩;have:x.i-i=(x.i- (i+1))+1:=by omega
   rw[this];simpa using h2
theorem dy (tab:Nat→Option uA):∀(ops:List Oper) (i nid:Nat),(∀x∈qK tab i nid ops,nid≤x.nid)∧(qK tab i nid ops).Pairwise (fun x y=>x.nid+aP tab x.o.op≤y.nid)
 | [],_,_=>⟨by simp[qK],by simp[qK]⟩
 |o::r,i,nid=>by
  obtain⟨h1,h2⟩:=dy tab r (i+1) (nid+aP tab o.op);simp only[qK];refine⟨fun x hx=>?_,w3.mpr ⟨fun y hy=>h1 y hy,h2⟩⟩;rcases hC.mp hx with rfl|hx
  ·exact q5 _
  ·exact Nat.le_trans (Nat.le_add_right _ _) (h1 x hx)
theorem mi.heq {w':World}(hr:mi E F ρ T h a w)(he:w'.heap=w.heap):mi E F ρ T h a w':=
 ⟨hr.heap.heq he,fun t=>vA.world he _ _ (hr.tmps t),hr.size,hr.defers⟩
theorem C8.rows {len:Nat}{all:List Oper}:∀(L:List (eK×uX)) (T:Nat→V) (h:Nat→sA) {T':Nat→V} {h':Nat→sA},C8 E all len L T h T' h'→∀p∈L,p.2.i=p.1.i
 | [],_,_,_,_,_,p,hp=>by simp at hp
 |q::L,T,h,_,_,ht,p,hp=>by
  rcases hC.mp hp with rfl|hp
  ·exact ht.1.1
  ·exact C8.rows L _ _ ht.2 p hp
theorem tb (H:List sA)(n:Nat):rA (H++List.replicate n .dead)=rA H:=by
 funext j;rw[bD,bD];simp only[iA,zB,w4];by_cases hj:j<H.length
 ·rw[if_pos hj]
 ·rw[if_neg hj,aE (by omega)];split<;>rfl
theorem Bn (hE:yA P E)(hmix:P.follows .mixedOrders=true){id:Nat}{ops:Array Oper}{draw:Bool}{s:St}{R:Type}{k:St→Option R}{r:R}(hr:sY E ops draw s k=some r):
  ∃s',k s'=some r∧s.H.length≤s'.H.length∧∀F ρ a w Q,mi E F ρ (kE s.T) (rA s.H) a w→(∀j,s.H.length≤j→ρ j=none)→
   (∀ρ' a' w',mi E F ρ' (kE s'.T) (rA s'.H) a' w'→(∀j,s'.H.length≤j→ρ' j=none)→(∀j,j<s.H.length→ρ' j=ρ j)→vH (kA ρ (rA s.H)) w (kA ρ' (rA s'.H)) w'→Q .normal a' w')→
   (Code.region id ops draw).wp P Q a w:=by
 unfold sY at hr;obtain⟨rs,T',H',ht,hlen,hk⟩:=tv _ _ _ _ _ _ hr;obtain⟨hok,hk⟩:=gA hk;rw[tb]at ht;obtain⟨L,l1,l2,l3⟩:=ht.pairs;simp only[List.length_append,List.length_replicate]at hlen l3;refine⟨⟨T',H'⟩,hk,by dsimp only;omega,?_⟩;intro F ρ a w Q hrep hnone hQ;obtain⟨n1,n2⟩:=dy E.tab ops.toList 0 s.H.length;have ho:∀p∈L,ops[p.1.i]?=some p.1.o:=by
  intro p hp;have hm:p.1∈qK E.tab 0 s.H.length ops.toList:=by rw[←l1];exact n3 hp
  have:=(xz _ _ _ _ _ hm).2;simpa using this
 have hI:∀w2:World,w2.heap=w.heap→iH w w2→tX E F (s.H.length+jX E.tab ops.toList) s.H.length ρ (kA ρ (rA s.H)) w (kE s.T) (rA s.H) (L.map (·.1)) a w2:=by intro w2 hw2 hk2;rw[l1];exact⟨ρ,hrep.heq hw2,fun x hx id h1 h2=>hnone id (Nat.le_trans (n1 x hx) h1),n2,fun id hid=>hnone id (by omega),fun _ _=>rfl,n1,vH.heq hw2 hk2⟩
 have hfin:∀a' w',tX E F (s.H.length+jX E.tab ops.toList) s.H.length ρ (kA ρ (rA s.H)) w (kE T') (rA H') [] a' w'→Q .normal a' w':=by rintro a' w' ⟨ρ',r1,_,_,r2,r3,_,r4⟩;exact hQ ρ' a' w' r1 (fun j hj=>r2 j (by dsimp only at hj;omega)) r3 r4
 have hmi:L.map (·.1.i)=List.range ops.size:=by
  have:L.map (·.1.i)=(L.map (·.1)).map (·.i):=by simp[n4,Function.comp_def]
  rw[this,l1,xx];simp
 cases draw with
 |false=>refine wp_region ?_;rw[←hmi];exact G6 (tX E F _ s.H.length ρ (kA ρ (rA s.H)) w) (fun T h pre x post r a w K hc hI hx hK=>yy hE hc hI hx hK) hfin L _ _ a w l3 (hI w rfl (.refl _)) ho
 |true=>
  simp only[Bool.not_true,Bool.false_or,iB]at hok;obtain⟨⟨k1,k2⟩,k3⟩:=hok;refine wp_region_any hmix ?_;refine G5 (tX E F _ s.H.length ρ (kA ρ (rA s.H)) w) (fun T h pre x post r a w K hc hI hx hK=>yy hE hc hI hx hK) k1 hfin ops.size _ L _ _ a _ l3 (hI _ rfl ⟨rfl,rfl,rfl,by first|exact q5 _|exact Nat.le_succ _|exact Nat.le_add_right _ _⟩) ?_ (by simp) ?_ ho (l3.rows) ?_ ?_
  ·have:=congrArg List.length hmi;simp at this;omega
  ·rw[hmi];symm;rw[j3];intro i hi;simp only[u0]at hi;simp[cD,hi]
  ·have hp:=tO _ k3;rw[y4,List.pairwise_reverse,←l2,n4,List.pairwise_map]at hp;exact hp
  ·intro j o hj;rw[cD]at hj;simp[y3]at hj;split at hj<;>simp_all
end
mutual
theorem vA.agree {ρ ρ':vD}{M:Nat→Prop}{w:World}:∀(x:V) (v:Value),(∀i∈iO x,∀p,ρ i=some p→ρ' i=some p)→vA ρ M w x v→vA ρ' M w x v
 | .c _,_,_,h=>by simpa only[vA]using h
 | .poison,_,_,_=>by simp only[vA]
 | .ptr id _ _,_,hm,h=>by simp only[vA]at h⊢;obtain⟨b,n,C,h1,h2,h3⟩:=h;exact⟨b,n,C,hm id (by simp[iO]) _ h1,h2,h3⟩
 | .sw id _,_,hm,h=>by
  simp only[vA]at h⊢;obtain⟨h0,⟨b,n,C,cap,h1,h2⟩|⟨h1,h2⟩⟩:=h
  ·exact⟨h0,.inl ⟨b,n,C,cap,hm id (by simp[iO]) _ h1,h2⟩⟩
  ·exact⟨h0,.inr ⟨hm id (by simp[iO]) _ h1,h2⟩⟩
 | .sl id _ _ _,_,hm,h=>by
  simp only[vA]at h⊢;obtain⟨h0,⟨b,n,C,cap,h1,h2⟩|⟨h1,h2⟩⟩:=h
  ·exact⟨h0,.inl ⟨b,n,C,cap,hm id (by simp[iO]) _ h1,h2⟩⟩
  ·exact⟨h0,.inr ⟨h1,h2⟩⟩
 | .mref id,_,hm,h=>by simp only[vA]at h⊢;obtain⟨b,h1,h2⟩:=h;exact⟨b,hm id (by simp[iO]) _ h1,h2⟩
 | .il _ _ _,_,_,h=>by simpa only[vA]using h
 | .iv _ _,_,_,h=>by simpa only[vA]using h
 | .ilp _ _ _ _,_,_,h=>by simpa only[vA]using h
 | .ivp _ _ _ _,_,_,h=>by simpa only[vA]using h
 | .agg cs,_,hm,h=>by simp only[vA]at h⊢;obtain⟨vs,h1,h2⟩:=h;exact⟨vs,h1,lA.agree cs _ (fun i hi=>hm i (by simpa only[iO]using hi)) h2⟩
 | .tup cs,_,hm,h=>by simp only[vA]at h⊢;obtain⟨vs,h1,h2⟩:=h;exact⟨vs,h1,lA.agree cs _ (fun i hi=>hm i (by simpa only[iO]using hi)) h2⟩
 | .fn _ a c,_,hm,h=>by simp only[vA]at h⊢;obtain⟨va,vc,h1,h2,h3⟩:=h;exact⟨va,vc,h1,lA.agree a _ (fun i hi=>hm i (by simp only[iO,zE];exact .inl hi)) h2,lA.agree c _ (fun i hi=>hm i (by simp only[iO,zE];exact .inr hi)) h3⟩
theorem lA.agree {ρ ρ':vD}{M:Nat→Prop}{w:World}:∀(x:List V) (v:List Value),(∀i∈xF x,∀p,ρ i=some p→ρ' i=some p)→lA ρ M w x v→lA ρ' M w x v
 | [],[],_,_=>by simp only[lA]
 |x::xs,v::vs,hm,h=>by simp only[lA]at h⊢;exact⟨vA.agree x v (fun i hi=>hm i (by simp only[xF,zE];exact .inl hi)) h.1,lA.agree xs vs (fun i hi=>hm i (by simp only[xF,zE];exact .inr hi)) h.2⟩
 | [],_::_,_,h=>by simp only[lA]at h
 |_::_,[],_,h=>by simp only[lA]at h
end
theorem po (k:IntKind)(s:Nat):∀dD:List (List Int),xF (dD.map (.il k s))=[]
 | []=>rfl
 |_::r=>by simp only[xK,xF,iO,po k s r,y4]
theorem qB.agree {ρ ρ':vD}{M:Nat→Prop}{w:World}{p:Pl}{x:sA}(hm:∀i∈nT x,∀p,ρ i=some p→ρ' i=some p)(h:qB ρ M w p x):qB ρ' M w p x:=by
 cases x with
 |dead=>trivial
 |ints k l=>exact h
 |mp k n ks vs=>exact h
 |it mid xE rem cur=>obtain⟨h1,h2,b,mb,seen,h4,h5,h6,h7⟩:=h;exact⟨h1,h2,b,mb,seen,h4,h5,fun i hi=>hm i (by subst hi;simp[nT]) _ (h6 i hi),h7⟩
 |vals cs=>
  obtain⟨h1,h2|⟨b,c,h2,h3,h4,h5⟩⟩:=h
  ·exact⟨h1,.inl h2⟩
  ·exact⟨h1,.inr ⟨b,c,h2,h3,h4,lA.agree _ _ (fun i hi=>hm i hi) h5⟩⟩
 |nl k s dD=>
  obtain⟨h1,h2|⟨b,c,h2,h3,h4,h5⟩⟩:=h
  ·exact⟨h1,.inl h2⟩
  ·exact⟨h1,.inr ⟨b,c,h2,h3,h4,lA.agree _ _ (fun i hi=>by rw[po]at hi;cases hi) h5⟩⟩
theorem qB.avoid {ρ:vD}{M M':Nat→Prop}{w:World}(hM:∀b,M' b→M b){p:Pl}{x:sA}(h:qB ρ M w p x):qB ρ M' w p x:=by
 cases x with
 |dead=>trivial
 |ints k l=>exact h
 |mp k n ks vs=>exact h
 |it mid xE rem cur=>exact h
 |vals cs=>
  obtain⟨h1,h2|⟨b,c,h2,h3,h4,h5⟩⟩:=h
  ·exact⟨h1,.inl h2⟩
  ·exact⟨h1,.inr ⟨b,c,h2,h3,h4,lA.avoid hM _ _ h5⟩⟩
 |nl k s dD=>
  obtain⟨h1,h2|⟨b,c,h2,h3,h4,h5⟩⟩:=h
  ·exact⟨h1,.inl h2⟩
  ·exact⟨h1,.inr ⟨b,c,h2,h3,h4,lA.avoid hM _ _ h5⟩⟩
theorem wS {l:List Nat}(h:l.isEmpty=true):∀i,i∉l:=by
 intro i hi;cases l with
 |nil=>cases hi
 |cons=>cases h
structure qX (ρ ρ':vD)(src:List (Option Nat)):Prop where
 old:∀(j id:Nat),src[j]?=some (some id)→ρ' j=ρ id
 nil:∀j:Nat,src[j]?=some none→ρ' j=some ⟨none,0,0⟩
def si (x:sA):Prop:=(∃k,x= .ints k [])∨∃k s,x= .nl k s []
structure rO (h:Nat→sA)(a:aw):Prop where
 len:a.src.length=a.blks.length
 nodup:∀(i j id:Nat),a.src[i]?=some (some id)→a.src[j]?=some (some id)→i=j
 virt:∀j:Nat,a.src[j]?=some none→∃x,a.blks[j]?=some x∧si x
 live:∀(j id:Nat) (x:sA),a.src[j]?=some (some id)→a.blks[j]?=some x→x.live→(h id).live
def xL (h:Nat→sA)(ρ ρ':vD)(M:Nat→Prop)(w:World)(a:aw):Prop:=
 ∀(j id:Nat) (x:sA) (p:Pl),a.src[j]?=some (some id)→a.blks[j]?=some x→ρ id=some p→qB ρ M w p (h id)→qB ρ' M w p x
theorem wN {id:Nat}:∀(src:List (Option Nat)) (n j:Nat),uC id src n=some j→n≤j∧src[j-n]?=some (some id)
 | [],n,j,h=>by simp[uC]at h
 |some x::r,n,j,h=>by
  simp only[uC]at h;cases hb:Nat.beq x id<;>rw[hb]at h<;>simp only[cond_true,cond_false]at h
  ·obtain⟨h1,h2⟩:=wN r (n+1) j h;have:j-n=(j- (n+1))+1:=by omega
   exact⟨by omega,by rw[this];simpa using h2⟩
  ·simp only[Option.some.injEq]at h;subst h;have:=vB hb;subst this;simp
 |none::r,n,j,h=>by
  simp only[uC]at h;obtain⟨h1,h2⟩:=wN r (n+1) j h;have:j-n=(j- (n+1))+1:=by omega
  exact⟨by omega,by rw[this];simpa using h2⟩
theorem vN {id mid:Nat}(hne:mid≠id):∀(src:List (Option Nat)) (n:Nat),uC id src n=none→uC id (src++[some mid]) n=none
 | [],n,_=>by
  simp only[List.nil_append,uC];cases hb:Nat.beq mid id
  ·rfl
  ·exact absurd (vB hb) hne
 |some x::r,n,h=>by
  simp only[uC,j0]at h⊢;cases hb:Nat.beq x id<;>rw[hb]at h<;>simp only[cond_true,cond_false]at h⊢
  ·exact vN hne r (n+1) h
  ·cases h
 |none::r,n,h=>by simp only[uC,j0]at h⊢;exact vN hne r (n+1) h
theorem uN {id:Nat}:∀(src:List (Option Nat)) (n:Nat),uC id src n=none→∀j:Nat,src[j]?≠some (some id)
 | [],n,_,j=>by simp
 |some x::r,n,h,j=>by
  simp only[uC]at h;cases hb:Nat.beq x id<;>rw[hb]at h<;>simp only[cond_true,cond_false]at h
  ·cases j with
   |zero=>intro e;simp at e;subst e;simp at hb
   |succ j=>simpa using uN r _ h j
  ·cases h
 |none::r,n,h,j=>by
  simp only[uC]at h;cases j with
  |zero=>simp
  |succ j=>simpa using uN r _ h j
theorem rO.push {h:Nat→sA}{a:aw}(ha:rO h a){id:Nat}{x:sA}(hf:uC id a.src 0=none)(hx:x.live→(h id).live):rO h ⟨a.src++[some id],a.blks++[x]⟩:=by
 have hno:=uN _ _ hf;refine⟨by simp[ha.len],?_,?_,?_⟩
 ·intro i j id' hi hj;dsimp only at hi hj;rw[zB]at hi hj;split at hi<;>split at hj
  ·exact ha.nodup i j id' hi hj
  ·rw[zA]at hj;split at hj
   ·simp only[Option.some.injEq]at hj;subst hj;exact absurd hi (hno i)
   ·cases hj
  ·rw[zA]at hi;split at hi
   ·simp only[Option.some.injEq]at hi;subst hi;exact absurd hj (hno j)
   ·cases hi
  ·rw[zA]at hi hj;split at hi<;>split at hj<;>first|omega|(cases hi;done)|(cases hj;done)
 ·intro j hj;dsimp only at hj⊢;rw[zB]at hj;split at hj
  ·rename_i hlt;obtain⟨k,hk,hho⟩:=ha.virt j hj;exact⟨k,by rw[hG (by rw[←ha.len];exact hlt)];exact hk,hho⟩
  ·rw[zA]at hj;split at hj<;>simp at hj
 ·intro j id' y hj hy hl;dsimp only at hj hy;rw[zB]at hj hy;rw[←ha.len]at hy;split at hj
  ·rename_i hlt;rw[if_pos hlt]at hy;exact ha.live j id' y hj hy hl
  ·rename_i hge;rw[if_neg hge]at hy;rw[zA]at hj hy;split at hj
   ·rename_i h0;rw[if_pos h0]at hy;simp only[Option.some.injEq]at hj hy;subst hj;subst hy;exact hx hl
   ·cases hj
theorem xL.push {h:Nat→sA}{ρ ρ':vD}{M:Nat→Prop}{w:World}{a:aw}(ha:rO h a)(hb:xL h ρ ρ' M w a){id:Nat}{x:sA}(hx:∀p,qB ρ M w p (h id)→qB ρ' M w p x):xL h ρ ρ' M w ⟨a.src++[some id],a.blks++[x]⟩:=by
 intro j id' y p hj hy hp hr;dsimp only at hj hy;rw[zB]at hj hy;rw[←ha.len]at hy;split at hj
 ·rename_i hlt;rw[if_pos hlt]at hy;exact hb j id' y p hj hy hp hr
 ·rename_i hge;rw[if_neg hge]at hy;rw[zA]at hj hy;split at hj
  ·rename_i h0;rw[if_pos h0]at hy;simp only[Option.some.injEq]at hj hy;subst hj;subst hy;exact hx p hr
  ·cases hj
theorem qX.pre {ρ ρ':vD}{src more:List (Option Nat)}(hc:qX ρ ρ' (src++more)):qX ρ ρ' src:=by
 refine⟨fun j id hj=>hc.old j id ?_,fun j hj=>hc.nil j ?_⟩<;>
 ·have:j<src.length:=(hN.mp hj).1;rw[hG this];exact hj
def HB (h:Nat→sA)(ρ:vD)(M:Nat→Prop)(w:World):Prop:=∀id p,(h id).live→ρ id=some p→qB ρ M w p (h id)
def wI (h:Nat→sA)(a a':aw)(Rn:vD→vD→(Nat→Prop)→World→Prop):Prop:=
 (∃more,a'.src=a.src++more)∧(rO h a→rO h a'∧∀ρ ρ' M w,HB h ρ M w→qX ρ ρ' a'.src→xL h ρ ρ' M w a→xL h ρ ρ' M w a'∧Rn ρ ρ' M w)
def Kx (v v':V)(ρ ρ':vD)(M:Nat→Prop)(w:World):Prop:=∀u,vA ρ M w v u→vA ρ' M w v' u
def Kw (v v':List V)(ρ ρ':vD)(M:Nat→Prop)(w:World):Prop:=∀u,lA ρ M w v u→lA ρ' M w v' u
theorem wI.same {h:Nat→sA}{a:aw}{Rn:vD→vD→(Nat→Prop)→World→Prop}(hr:∀ρ ρ' M w,qX ρ ρ' a.src→Rn ρ ρ' M w):wI h a a Rn:=
 ⟨⟨[],by simp⟩,fun ha=>⟨ha,fun ρ ρ' M w _ hc hb=>⟨hb,hr ρ ρ' M w hc⟩⟩⟩
theorem wI.new {h:Nat→sA}{a:aw}{id:Nat}{x:sA}{Rn:vD→vD→(Nat→Prop)→World→Prop}(hf:uC id a.src 0=none)(hx:x.live→(h id).live)(hb:∀ρ ρ' M w p,qB ρ M w p (h id)→qB ρ' M w p x)
  (hr:∀(ρ ρ':vD) M w,ρ' a.src.length=ρ id→Rn ρ ρ' M w):wI h a ⟨a.src++[some id],a.blks++[x]⟩ Rn:=
 ⟨⟨[some id],rfl⟩,fun ha=>⟨ha.push hf hx,fun ρ ρ' M w _ hc hk=>⟨hk.push ha (hb ρ ρ' M w),hr ρ ρ' M w (hc.old a.src.length id (by simp))⟩⟩⟩
theorem wI.sameq {h:Nat→sA}{a:aw}{Rn:vD→vD→(Nat→Prop)→World→Prop}(hr:∀ρ ρ' M w,HB h ρ M w→qX ρ ρ' a.src→Rn ρ ρ' M w):wI h a a Rn:=
 ⟨⟨[],by simp⟩,fun ha=>⟨ha,fun ρ ρ' M w hq hc hb=>⟨hb,hr ρ ρ' M w hq hc⟩⟩⟩
theorem wI.newq {h:Nat→sA}{a:aw}{id:Nat}{x:sA}{Rn:vD→vD→(Nat→Prop)→World→Prop}(hf:uC id a.src 0=none)(hx:x.live→(h id).live)(hb:∀ρ ρ' M w p,qB ρ M w p (h id)→qB ρ' M w p x)
  (hr:∀(ρ ρ':vD) M w,HB h ρ M w→ρ' a.src.length=ρ id→Rn ρ ρ' M w):wI h a ⟨a.src++[some id],a.blks++[x]⟩ Rn:=
 ⟨⟨[some id],rfl⟩,fun ha=>⟨ha.push hf hx,fun ρ ρ' M w hq hc hk=>⟨hk.push ha (hb ρ ρ' M w),hr ρ ρ' M w hq (hc.old a.src.length id (by simp))⟩⟩⟩
theorem yz {h:Nat→sA}{ρ ρ':vD}{M:Nat→Prop}{w:World}{id j s:Nat}{k:IntKind}{l:List Int}(hid:h id= .ints k l)(hq:HB h ρ M w)(he:ρ' j=ρ id){u:Value}(hr:vA ρ M w (.sw id s) u):vA ρ' M w (.sl j s 0 (xE s l.length)) u:=by
 have hl:∀p,ρ id=some p→l.length=p.n:=fun p hp=>by have:=hq id p (by rw[hid];trivial) hp;rw[hid]at this;exact this.1
 simp only[vA]at hr⊢;obtain⟨h0,⟨b,n,C,cap,h1,h2,h3,h4,h5⟩|⟨h1,h2⟩⟩:=hr
 ·have e1:l.length=n:=hl _ h1;have hn:n/s*s=n:=Nat.div_mul_cancel (n5 h2);refine⟨h0,.inl ⟨b,n,C,cap,by rw[he];exact h1,?_,?_,by omega,?_⟩⟩
  ·rw[qE,e1];omega
  ·rw[qE,e1];exact h3
  ·rw[qE,e1];exact h5
 ·have e1:l.length=0:=hl _ h1;exact⟨h0,.inr ⟨by rw[qE,e1];simp,none,h2⟩⟩
theorem vA.ptr_name {ρ ρ':vD}{M:Nat→Prop}{w:World}{id j off ext:Nat}(h:ρ' j=ρ id){u:Value}(hr:vA ρ M w (.ptr id off ext) u):vA ρ' M w (.ptr j off ext) u:=by
 simp only[vA]at hr⊢;rw[h];exact hr
theorem vA.mref_name {ρ ρ':vD}{M:Nat→Prop}{w:World}{id j:Nat}(h:ρ' j=ρ id){u:Value}(hr:vA ρ M w (.mref id) u):vA ρ' M w (.mref j) u:=by
 simp only[vA]at hr⊢;rw[h];exact hr
theorem vA.sw_name {ρ ρ':vD}{M:Nat→Prop}{w:World}{id j s:Nat}(h:ρ' j=ρ id){u:Value}(hr:vA ρ M w (.sw id s) u):vA ρ' M w (.sw j s) u:=by
 simp only[vA]at hr⊢;rw[h];exact hr
theorem vA.sl_name {ρ ρ':vD}{M:Nat→Prop}{w:World}{id j s off len:Nat}(h:ρ' j=ρ id){u:Value}(hr:vA ρ M w (.sl id s off len) u):vA ρ' M w (.sl j s off len) u:=by
 simp only[vA]at hr⊢;rw[h];exact hr
theorem qM {ρ ρ':vD}{M:Nat→Prop}{w:World}{p:Pl}{k:IntKind}{l:List Int}(h:qB ρ M w p (.ints k l)):qB ρ' M w p (.ints k l):=h
theorem Cp {ρ ρ':vD}{M:Nat→Prop}{w:World}{p:Pl}{k:IntKind}{n:Nat}{ks:List (List Int)}{vs:xO}(h:qB ρ M w p (.mp k n ks vs)):qB ρ' M w p (.mp k n ks vs):=h
theorem Co {ρ ρ':vD}{M:Nat→Prop}{w:World}{p:Pl}{mid j xE:Nat}{rem:List Nat}{cur:Nat}(hj:ρ' j=ρ mid)(h:qB ρ M w p (.it (some mid) xE rem cur)):qB ρ' M w p (.it (some j) xE rem cur):=by
 obtain⟨h1,h2,b,mb,seen,h4,h5,h6,h7⟩:=h;refine⟨h1,h2,b,mb,seen,h4,h5,fun i hi=>?_,h7⟩;simp only[Option.some.injEq]at hi;subst hi;rw[hj];exact h6 mid rfl
theorem cY {ρ ρ':vD}{M:Nat→Prop}{w:World}{p:Pl}{cs:List V}(hc:(xF cs).isEmpty=true)(h:qB ρ M w p (.vals cs)):qB ρ' M w p (.vals cs):=
 h.agree (fun i hi=>absurd hi (wS hc i))
theorem Cq {ρ ρ':vD}{M:Nat→Prop}{w:World}{p:Pl}{k:IntKind}{s:Nat}{dD:List (List Int)}(h:qB ρ M w p (.nl k s dD)):qB ρ' M w p (.nl k s dD):=
 h.agree (fun i hi=>by cases hi)
theorem mP {ρ ρ':vD}{src:List (Option Nat)}{id j:Nat}(hf:uC id src 0=some j)(hc:qX ρ ρ' src):ρ' j=ρ id:=hc.old j id (by have:=(wN src 0 j hf).2;simpa using this)
theorem gH:∀(H:List sA) (i j:Nat) (x:sA),i<H.length→(xD H i x)[j]?=if j=i then some x else H[j]?
 | [],_,_,_,h=>by simp at h
 |b::r,0,0,x,_=>by simp[xD]
 |b::r,0,j+1,x,_=>by simp[xD]
 |b::r,n+1,0,x,_=>by simp[xD]
 |b::r,n+1,j+1,x,h=>by simp[xD,gH r n j x (by simpa using h)]
theorem ja {ρ ρ':vD}{M:Nat→Prop}{w:World}{src:List (Option Nat)}(hc:qX ρ ρ' src):∀(vs vs':List V),Ar src vs=some vs'→∀us:List Value,lA ρ M w vs us→lA ρ' M w vs' us
 | [],vs',hs,us,hr=>by simp only[Ar,Option.some.injEq]at hs;subst hs;cases us<;>simp_all[lA]
 |v::r,vs',hs,us,hr=>by
  cases us with
  |nil=>simp only[lA]at hr
  |cons u us=>
   cases v<;>simp only[Ar]at hs<;>try cases hs
   split at hs
   ·rename_i j r' hf hr';simp only[Option.some.injEq]at hs;subst hs;simp only[lA]at hr⊢;exact⟨hr.1.ptr_name (mP hf hc),ja hc r r' hr' us hr.2⟩
   ·cases hs
mutual
theorem F8 {h:Nat→sA}:∀(sh:Sh) (v:V) (a:aw) (v':V) (a':aw),jR h sh v a=some (v',a')→wI h a a' (Kx v v')
 | .any,v,a,v',a',hs=>by
  unfold jR at hs;cases hc:(iO v).isEmpty<;>rw[hc]at hs<;>simp only[cond_true,cond_false]at hs
  ·split at hs
   ·rename_i id off ext;split at hs
    ·rename_i j hf;simp only[Option.some.injEq,Prod.mk.injEq]at hs;obtain⟨rfl,rfl⟩:=hs;exact .same (fun ρ ρ' M w hc u hr=>hr.ptr_name (mP hf hc))
    ·rename_i hf;split at hs
     ·rename_i k l hid;simp only[Option.some.injEq,Prod.mk.injEq]at hs;obtain⟨rfl,rfl⟩:=hs;exact .new hf (fun _=>by rw[hid];trivial) (fun ρ ρ' M w p hb=>by rw[hid]at hb;exact qM hb) (fun ρ ρ' M w he u hr=>hr.ptr_name he)
     ·rename_i cs hid;obtain⟨h1,h2⟩:=gA hs;simp only[Option.some.injEq,Prod.mk.injEq]at h2;obtain⟨rfl,rfl⟩:=h2;exact .new hf (fun _=>by rw[hid];trivial) (fun ρ ρ' M w p hb=>by rw[hid]at hb;exact cY h1 hb) (fun ρ ρ' M w he u hr=>hr.ptr_name he)
     ·cases hs
     ·cases hs
     ·cases hs
     ·rename_i mid xE rem cur hid;split at hs
      ·rename_i j hfm;simp only[Option.some.injEq,Prod.mk.injEq]at hs;obtain⟨rfl,rfl⟩:=hs;refine⟨⟨[some id],rfl⟩,fun ha=>⟨ha.push hf (fun _=>by rw[hid];trivial),fun ρ ρ' M w _ hc hk=>⟨hk.push ha (fun p hb=>by rw[hid]at hb;exact Co (mP hfm hc.pre) hb),fun u hr=>hr.ptr_name (hc.old a.src.length id (by simp))⟩⟩⟩
      ·rename_i hfm;split at hs
       ·rename_i k n ks vs hmid;simp only[Option.some.injEq,Prod.mk.injEq]at hs;obtain⟨rfl,rfl⟩:=hs;have hne:mid≠id:=by rintro rfl;rw[hid]at hmid;cases hmid
        have hf2:uC id (a.src++[some mid]) 0=none:=vN hne _ _ hf;refine⟨⟨[some mid]++[some id],by simp⟩,fun ha=>?_⟩;have ha1:rO h ⟨a.src++[some mid],a.blks++[.mp k n ks vs]⟩:=ha.push hfm (fun _=>by rw[hmid];trivial);refine⟨ha1.push hf2 (fun _=>by rw[hid];trivial),fun ρ ρ' M w _ hc hk=>⟨?_,fun u hr=>hr.ptr_name (hc.old (a.src.length+1) id (by simp))⟩⟩;have hk1:xL h ρ ρ' M w ⟨a.src++[some mid],a.blks++[.mp k n ks vs]⟩:=hk.push ha (fun p hb=>by rw[hmid]at hb;exact Cp hb);exact hk1.push ha1 (fun p hb=>by rw[hid]at hb;exact Co (hc.old a.src.length mid (by simp)) hb)
       ·cases hs
     ·cases hs
   ·rename_i id s;split at hs
    ·rename_i j hf;simp only[Option.some.injEq,Prod.mk.injEq]at hs;obtain⟨rfl,rfl⟩:=hs;exact .same (fun ρ ρ' M w hc u hr=>hr.sw_name (mP hf hc))
    ·rename_i hf;split at hs
     ·rename_i k l hid;simp only[Option.some.injEq,Prod.mk.injEq]at hs;obtain⟨rfl,rfl⟩:=hs;exact .new hf (fun _=>by rw[hid];trivial) (fun ρ ρ' M w p hb=>by rw[hid]at hb;exact qM hb) (fun ρ ρ' M w he u hr=>hr.sw_name he)
     ·rename_i cs hid;obtain⟨h1,h2⟩:=gA hs;simp only[Option.some.injEq,Prod.mk.injEq]at h2;obtain⟨rfl,rfl⟩:=h2;exact .new hf (fun _=>by rw[hid];trivial) (fun ρ ρ' M w p hb=>by rw[hid]at hb;exact cY h1 hb) (fun ρ ρ' M w he u hr=>hr.sw_name he)
     ·rename_i k s0 dD hid;simp only[Option.some.injEq,Prod.mk.injEq]at hs;obtain⟨rfl,rfl⟩:=hs;exact .new hf (fun _=>by rw[hid];trivial) (fun ρ ρ' M w p hb=>by rw[hid]at hb;exact Cq hb) (fun ρ ρ' M w he u hr=>hr.sw_name he)
     ·cases hs
     ·cases hs
     ·cases hs
   ·rename_i id s off len;split at hs
    ·rename_i j hf;simp only[Option.some.injEq,Prod.mk.injEq]at hs;obtain⟨rfl,rfl⟩:=hs;exact .same (fun ρ ρ' M w hc u hr=>hr.sl_name (mP hf hc))
    ·rename_i hf;split at hs
     ·rename_i k l hid;simp only[Option.some.injEq,Prod.mk.injEq]at hs;obtain⟨rfl,rfl⟩:=hs;exact .new hf (fun _=>by rw[hid];trivial) (fun ρ ρ' M w p hb=>by rw[hid]at hb;exact qM hb) (fun ρ ρ' M w he u hr=>hr.sl_name he)
     ·rename_i cs hid;obtain⟨h1,h2⟩:=gA hs;simp only[Option.some.injEq,Prod.mk.injEq]at h2;obtain⟨rfl,rfl⟩:=h2;exact .new hf (fun _=>by rw[hid];trivial) (fun ρ ρ' M w p hb=>by rw[hid]at hb;exact cY h1 hb) (fun ρ ρ' M w he u hr=>hr.sl_name he)
     ·cases hs
     ·cases hs
     ·cases hs
     ·cases hs
   ·rename_i id;split at hs
    ·rename_i j hf;simp only[Option.some.injEq,Prod.mk.injEq]at hs;obtain⟨rfl,rfl⟩:=hs;exact .same (fun ρ ρ' M w hc u hr=>hr.mref_name (mP hf hc))
    ·rename_i hf;split at hs
     ·rename_i k n ks vs hid;simp only[Option.some.injEq,Prod.mk.injEq]at hs;obtain⟨rfl,rfl⟩:=hs;exact .new hf (fun _=>by rw[hid];trivial) (fun ρ ρ' M w p hb=>by rw[hid]at hb;exact Cp hb) (fun ρ ρ' M w he u hr=>hr.mref_name he)
     ·cases hs
   ·rename_i f va vc;split at hs
    ·rename_i va' vc' ha hc;simp only[Option.some.injEq,Prod.mk.injEq]at hs;obtain⟨rfl,rfl⟩:=hs;refine .same (fun ρ ρ' M w hcons u hr=>?_);simp only[vA]at hr⊢;obtain⟨ua,uc,h1,h2,h3⟩:=hr;exact⟨ua,uc,h1,ja hcons va va' ha _ h2,ja hcons vc vc' hc _ h3⟩
    ·cases hs
   ·cases hs
  ·simp only[Option.some.injEq,Prod.mk.injEq]at hs;obtain⟨rfl,rfl⟩:=hs;exact .same (fun ρ ρ' M w _ u hr=>hr.agree _ _ (fun i hi=>absurd hi (wS hc i)))
 | .row k s,v,a,v',a',hs=>by
  unfold jR at hs;split at hs
  ·obtain⟨h0,hs⟩:=gA hs;have h0:=fD h0;simp only[Option.some.injEq,Prod.mk.injEq]at hs;obtain⟨rfl,rfl⟩:=hs;refine⟨⟨[none],rfl⟩,fun ha=>⟨⟨by simp[ha.len],?_,?_,?_⟩,fun ρ ρ' M w hq hc hb=>⟨?_,?_⟩⟩⟩
   ·intro i j id hi hj;dsimp only at hi hj;rw[zB]at hi hj;split at hi<;>split at hj<;>first
     |exact ha.nodup i j id hi hj
     |(rw[zA]at hi;split at hi<;>simp at hi)
     |(rw[zA]at hj;split at hj<;>simp at hj)
   ·intro j hj;dsimp only at hj⊢;rw[zB]at hj;split at hj
    ·rename_i hlt;obtain⟨k,hk,hho⟩:=ha.virt j hj;exact⟨k,by rw[hG (by rw[←ha.len];exact hlt)];exact hk,hho⟩
    ·rename_i hge;rw[zA]at hj;split at hj
     ·refine⟨.ints k [],?_,.inl ⟨k,rfl⟩⟩;rw[hP (by rw[←ha.len];omega),←ha.len];have:j-a.src.length=0:=by omega
      rw[this];rfl
     ·cases hj
   ·intro j id x hj hx hl;dsimp only at hj hx;rw[zB]at hj hx;rw[←ha.len]at hx;split at hj
    ·rename_i hlt;rw[if_pos hlt]at hx;exact ha.live j id x hj hx hl
    ·rw[zA]at hj;split at hj<;>simp at hj
   ·intro j id x p hj hx hp hr;dsimp only at hj hx;rw[zB]at hj hx;rw[←ha.len]at hx;split at hj
    ·rename_i hlt;rw[if_pos hlt]at hx;exact hb j id x p hj hx hp hr
    ·rw[zA]at hj;split at hj<;>simp at hj
   ·intro u hr;simp only[vA]at hr⊢;exact⟨h0,.inr ⟨hc.nil a.src.length (by simp),hr⟩⟩
  ·rename_i id s';obtain⟨h0,h2⟩:=gA hs;clear hs;have hs:=h2;clear h2;have h3:=vB h0;clear h0;subst h3;split at hs
   ·rename_i j hf;simp only[Option.some.injEq,Prod.mk.injEq]at hs;obtain⟨rfl,rfl⟩:=hs;exact .same (fun ρ ρ' M w hc u hr=>hr.sw_name (mP hf hc))
   ·rename_i hf;split at hs
    ·rename_i k' l hid;obtain⟨h1,hs⟩:=gA hs;simp only[Option.some.injEq,Prod.mk.injEq]at hs;obtain⟨rfl,rfl⟩:=hs;exact .new hf (fun _=>by rw[hid];trivial) (fun ρ ρ' M w p hb=>by rw[hid]at hb;exact qM hb) (fun ρ ρ' M w he u hr=>hr.sw_name he)
    ·cases hs
  ·cases hs
 | .nrow k s,v,a,v',a',hs=>by
  unfold jR at hs;split at hs
  ·have h0:0<1:=Nat.one_pos;simp only[Option.some.injEq,Prod.mk.injEq]at hs;obtain⟨rfl,rfl⟩:=hs;refine⟨⟨[none],rfl⟩,fun ha=>⟨⟨by simp[ha.len],?_,?_,?_⟩,fun ρ ρ' M w hq hc hb=>⟨?_,?_⟩⟩⟩
   ·intro i j id hi hj;dsimp only at hi hj;rw[zB]at hi hj;split at hi<;>split at hj<;>first
     |exact ha.nodup i j id hi hj
     |(rw[zA]at hi;split at hi<;>simp at hi)
     |(rw[zA]at hj;split at hj<;>simp at hj)
   ·intro j hj;dsimp only at hj⊢;rw[zB]at hj;split at hj
    ·rename_i hlt;obtain⟨k,hk,hho⟩:=ha.virt j hj;exact⟨k,by rw[hG (by rw[←ha.len];exact hlt)];exact hk,hho⟩
    ·rename_i hge;rw[zA]at hj;split at hj
     ·refine⟨.nl k s [],?_,.inr ⟨k,s,rfl⟩⟩;rw[hP (by rw[←ha.len];omega),←ha.len];have:j-a.src.length=0:=by omega
      rw[this];rfl
     ·cases hj
   ·intro j id x hj hx hl;dsimp only at hj hx;rw[zB]at hj hx;rw[←ha.len]at hx;split at hj
    ·rename_i hlt;rw[if_pos hlt]at hx;exact ha.live j id x hj hx hl
    ·rw[zA]at hj;split at hj<;>simp at hj
   ·intro j id x p hj hx hp hr;dsimp only at hj hx;rw[zB]at hj hx;rw[←ha.len]at hx;split at hj
    ·rename_i hlt;rw[if_pos hlt]at hx;exact hb j id x p hj hx hp hr
    ·rw[zA]at hj;split at hj<;>simp at hj
   ·intro u hr;simp only[vA]at hr⊢;exact⟨h0,.inr ⟨hc.nil a.src.length (by simp),hr⟩⟩
  ·rename_i id s';obtain⟨h0,h2⟩:=gA hs;clear hs;have hs:=h2;clear h2;have h3:=vB h0;clear h0;subst h3;split at hs
   ·rename_i j hf;simp only[Option.some.injEq,Prod.mk.injEq]at hs;obtain⟨rfl,rfl⟩:=hs;exact .same (fun ρ ρ' M w hc u hr=>hr.sw_name (mP hf hc))
   ·rename_i hf;split at hs
    ·rename_i k' s2 l hid;obtain⟨h1,hs⟩:=gA hs;simp only[Option.some.injEq,Prod.mk.injEq]at hs;obtain⟨rfl,rfl⟩:=hs;exact .new hf (fun _=>by rw[hid];trivial) (fun ρ ρ' M w p hb=>by rw[hid]at hb;exact Cq hb) (fun ρ ρ' M w he u hr=>hr.sw_name he)
    ·cases hs
  ·cases hs
 | .part k s,v,a,v',a',hs=>by
  unfold jR at hs;split at hs
  ·obtain⟨h0,hs⟩:=gA hs;have h0:=fD h0;simp only[Option.some.injEq,Prod.mk.injEq]at hs;obtain⟨rfl,rfl⟩:=hs;refine⟨⟨[none],rfl⟩,fun ha=>⟨⟨by simp[ha.len],?_,?_,?_⟩,fun ρ ρ' M w hq hc hb=>⟨?_,?_⟩⟩⟩
   ·intro i j id hi hj;dsimp only at hi hj;rw[zB]at hi hj;split at hi<;>split at hj<;>first
     |exact ha.nodup i j id hi hj
     |(rw[zA]at hi;split at hi<;>simp at hi)
     |(rw[zA]at hj;split at hj<;>simp at hj)
   ·intro j hj;dsimp only at hj⊢;rw[zB]at hj;split at hj
    ·rename_i hlt;obtain⟨k,hk,hho⟩:=ha.virt j hj;exact⟨k,by rw[hG (by rw[←ha.len];exact hlt)];exact hk,hho⟩
    ·rename_i hge;rw[zA]at hj;split at hj
     ·refine⟨.ints k [],?_,.inl ⟨k,rfl⟩⟩;rw[hP (by rw[←ha.len];omega),←ha.len];have:j-a.src.length=0:=by omega
      rw[this];rfl
     ·cases hj
   ·intro j id x hj hx hl;dsimp only at hj hx;rw[zB]at hj hx;rw[←ha.len]at hx;split at hj
    ·rename_i hlt;rw[if_pos hlt]at hx;exact ha.live j id x hj hx hl
    ·rw[zA]at hj;split at hj<;>simp at hj
   ·intro j id x p hj hx hp hr;dsimp only at hj hx;rw[zB]at hj hx;rw[←ha.len]at hx;split at hj
    ·rename_i hlt;rw[if_pos hlt]at hx;exact hb j id x p hj hx hp hr
    ·rw[zA]at hj;split at hj<;>simp at hj
   ·intro u hr;simp only[vA]at hr⊢;exact⟨h0,.inr ⟨trivial,none,hr⟩⟩
  ·rename_i id s';obtain⟨h0,h2⟩:=gA hs;clear hs;have hs:=h2;clear h2;have h3:=vB h0;clear h0;subst h3;split at hs
   ·rename_i k' l hid;obtain⟨h1,hs2⟩:=gA hs;clear hs;have hs:=hs2;clear hs2;split at hs
    ·rename_i j hf;simp only[Option.some.injEq,Prod.mk.injEq]at hs;obtain⟨rfl,rfl⟩:=hs;exact .sameq (fun ρ ρ' M w hq hc u hr=>yz hid hq (mP hf hc) hr)
    ·rename_i hf;simp only[Option.some.injEq,Prod.mk.injEq]at hs;obtain⟨rfl,rfl⟩:=hs;exact .newq hf (fun _=>by rw[hid];trivial) (fun ρ ρ' M w p hb=>by rw[hid]at hb;exact qM hb) (fun ρ ρ' M w hq he u hr=>yz hid hq he hr)
   ·cases hs
  ·rename_i id s' off len;obtain⟨h0,h2⟩:=gA hs;clear hs;have hs:=h2;clear h2;split at hs
   ·rename_i k' l hid;obtain⟨h1,hs2⟩:=gA hs;clear hs;have hs:=hs2;clear hs2;split at hs
    ·rename_i j hf;simp only[Option.some.injEq,Prod.mk.injEq]at hs;obtain⟨rfl,rfl⟩:=hs;exact .same (fun ρ ρ' M w hc u hr=>hr.sl_name (mP hf hc))
    ·rename_i hf;simp only[Option.some.injEq,Prod.mk.injEq]at hs;obtain⟨rfl,rfl⟩:=hs;exact .new hf (fun _=>by rw[hid];trivial) (fun ρ ρ' M w p hb=>by rw[hid]at hb;exact qM hb) (fun ρ ρ' M w he u hr=>hr.sl_name he)
   ·cases hs
  ·cases hs
 | .il k s,v,a,v',a',hs=>by
  unfold jR at hs;split at hs
  ·obtain⟨h0,hs⟩:=gA hs;have h0:=fD h0;simp only[Option.some.injEq,Prod.mk.injEq]at hs;obtain⟨rfl,rfl⟩:=hs;refine .same (fun ρ ρ' M w hc u hr=>?_);simp only[vA]at hr⊢;exact⟨h0,by simp,.inl ⟨trivial,none,hr⟩⟩
  ·obtain⟨h0,hs⟩:=gA hs;simp only[Option.some.injEq,Prod.mk.injEq]at hs;obtain⟨rfl,rfl⟩:=hs;exact .same (fun ρ ρ' M w hc u hr=>by simpa only[vA]using hr)
  ·cases hs
 | .box ss,v,a,v',a',hs=>by
  unfold jR at hs;split at hs
  ·rename_i id off ext;split at hs
   ·rename_i j hf;simp only[Option.some.injEq,Prod.mk.injEq]at hs;obtain⟨rfl,rfl⟩:=hs;exact .same (fun ρ ρ' M w hc u hr=>hr.ptr_name (mP hf hc))
   ·rename_i hf;split at hs
    ·rename_i cs hid;split at hs
     ·rename_i cs' a1 hL;simp only[Option.some.injEq,Prod.mk.injEq]at hs;obtain⟨rfl,rfl⟩:=hs;obtain⟨⟨more,hm⟩,hk⟩:=vI ss cs _ cs' a1 hL;refine⟨⟨[some id]++more,by rw[hm];simp⟩,fun ha=>?_⟩;obtain⟨k1,k2⟩:=hk (ha.push hf (fun hx=>hx.elim));have hsrc:a1.src[a.src.length]?=some (some id):=by rw[hm];simp
      have hlt:a.src.length<a1.blks.length:=by rw[←k1.len,hm];simp
      refine⟨⟨by rw[hF];exact k1.len,k1.nodup,?_,?_⟩,fun ρ ρ' M w hq hc hb=>?_⟩
      ·intro j hj;obtain⟨k,hk,hho⟩:=k1.virt j hj;refine⟨k,?_,hho⟩;dsimp only at hj⊢;rw[gH _ _ _ _ hlt,if_neg (fun e=>by subst e;rw[hsrc]at hj;cases hj)];exact hk
      ·intro j id' x hj hx hl;dsimp only at hj hx;rw[gH _ _ _ _ hlt]at hx;split at hx
       ·rename_i e;subst e;rw[hsrc]at hj;simp only[Option.some.injEq]at hj;subst hj;rw[hid];trivial
       ·exact k1.live j id' x hj hx hl
      ·obtain⟨b1,b2⟩:=k2 ρ ρ' M w hq hc (hb.push ha (fun p _=>trivial));refine⟨?_,fun u hr=>hr.ptr_name (hc.old _ _ hsrc)⟩;intro j id' x p hj hx hp hr;dsimp only at hj hx;rw[gH _ _ _ _ hlt]at hx;split at hx
       ·rename_i e;subst e;rw[hsrc]at hj;simp only[Option.some.injEq]at hj hx;subst hj;subst hx;rw[hid]at hr;obtain⟨h1,⟨h2,h3,h4⟩|⟨b,c,h2,h3,h4,h5⟩⟩:=hr
        ·subst h3;have:=b2 [] (by simp only[lA]);cases cs' with
         |nil=>exact⟨h1,.inl ⟨h2,rfl,h4⟩⟩
         |cons=>simp only[lA]at this
        ·have:=b2 _ h5;exact⟨by rw[←h1,this.length,h5.length],.inr ⟨b,c,h2,h3,h4,this⟩⟩
       ·exact b1 j id' x p hj hx hp hr
     ·cases hs
    ·cases hs
  ·cases hs
 | .recd ss,v,a,v',a',hs=>by
  unfold jR at hs;split at hs
  ·rename_i cs;split at hs
   ·rename_i cs' a1 hL;simp only[Option.some.injEq,Prod.mk.injEq]at hs;obtain⟨rfl,rfl⟩:=hs;obtain⟨h1,hk⟩:=vI ss cs a cs' a1 hL;refine⟨h1,fun ha=>⟨(hk ha).1,fun ρ ρ' M w hq hc hb=>⟨((hk ha).2 ρ ρ' M w hq hc hb).1,fun u hr=>?_⟩⟩⟩;simp only[vA]at hr⊢;obtain⟨vs,e,hr⟩:=hr;exact⟨vs,e,((hk ha).2 ρ ρ' M w hq hc hb).2 _ hr⟩
   ·cases hs
  ·cases hs
 | .tup ss,v,a,v',a',hs=>by
  unfold jR at hs;split at hs
  ·rename_i cs;split at hs
   ·rename_i cs' a1 hL;simp only[Option.some.injEq,Prod.mk.injEq]at hs;obtain⟨rfl,rfl⟩:=hs;obtain⟨h1,hk⟩:=vI ss cs a cs' a1 hL;refine⟨h1,fun ha=>⟨(hk ha).1,fun ρ ρ' M w hq hc hb=>⟨((hk ha).2 ρ ρ' M w hq hc hb).1,fun u hr=>?_⟩⟩⟩;simp only[vA]at hr⊢;obtain⟨vs,e,hr⟩:=hr;exact⟨vs,e,((hk ha).2 ρ ρ' M w hq hc hb).2 _ hr⟩
   ·cases hs
  ·cases hs
theorem vI {h:Nat→sA}:∀(ss:List Sh) (vs:List V) (a:aw) (vs':List V) (a':aw),nJ h ss vs a=some (vs',a')→wI h a a' (Kw vs vs')
 | [],[],a,vs',a',hs=>by simp only[nJ,Option.some.injEq,Prod.mk.injEq]at hs;obtain⟨rfl,rfl⟩:=hs;exact .same (fun ρ ρ' M w hc u hr=>by cases u<;>simp_all[lA])
 |s::ss,v::vs,a,vs',a',hs=>by
  unfold nJ at hs;split at hs
  ·rename_i v1 a1 h1;split at hs
   ·rename_i vs1 a2 h2;simp only[Option.some.injEq,Prod.mk.injEq]at hs;obtain⟨rfl,rfl⟩:=hs;obtain⟨⟨m1,e1⟩,k1⟩:=F8 s v a v1 a1 h1;obtain⟨⟨m2,e2⟩,k2⟩:=vI ss vs a1 vs1 a2 h2;refine⟨⟨m1++m2,by rw[e2,e1,iX]⟩,fun ha=>?_⟩;obtain⟨p1,p2⟩:=k1 ha;obtain⟨q1,q2⟩:=k2 p1;refine⟨q1,fun ρ ρ' M w hq hc hb=>?_⟩;obtain⟨r1,r2⟩:=p2 ρ ρ' M w hq (by rw[e2]at hc;exact hc.pre) hb;obtain⟨t1,t2⟩:=q2 ρ ρ' M w hq hc r1;refine⟨t1,fun u hr=>?_⟩;cases u with
    |nil=>simp only[lA]at hr
    |cons u us=>simp only[lA]at hr⊢;exact⟨r2 u hr.1,t2 us hr.2⟩
   ·cases hs
  ·cases hs
 | [],_::_,a,vs',a',hs=>by simp[nJ]at hs
 |_::_,[],a,vs',a',hs=>by simp[nJ]at hs
end
theorem pT:∀(H:List sA) (i:Nat) (x:sA) (j:Nat),(xD H i x)[j]?=H[j]?∨(xD H i x)[j]?=some x
 | [],_,_,_=>.inl (by simp[xD])
 |b::r,0,x,0=>.inr (by simp[xD])
 |b::r,0,x,j+1=>.inl (by simp[xD])
 |b::r,n+1,x,0=>.inl (by simp[xD])
 |b::r,n+1,x,j+1=>by simpa[xD]using pT r n x j
theorem xS:∀(bsh:List (Nat×List Sh)) (H:List sA),(xM bsh H).length=H.length
 | [],_=>rfl
 |p::r,H=>by simp only[xM];rw[xS r,hF]
theorem tV:∀(bsh:List (Nat×List Sh)) (H:List sA) (j:Nat),(xM bsh H)[j]?=H[j]?∨(xM bsh H)[j]?=some .dead
 | [],_,_=>.inl rfl
 |p::r,H,j=>by
  simp only[xM];rcases tV r (xD H p.1 .dead) j with h|h
  ·rcases pT H p.1 .dead j with g|g
   ·exact .inl (h.trans g)
   ·exact .inr (h.trans g)
  ·exact .inr h
theorem fu {h:Nat→sA}:∀(bsh:List (Nat×List Sh)) (a a':aw),u9 h bsh a=some a'→(∃more,a'.src=a.src++more)∧(rO h a→(∀p∈bsh,a.src[p.1]?=some (some p.1))→rO h a'∧∀ρ ρ' M w,HB h ρ M w→qX ρ ρ' a'.src→xL h ρ ρ' M w a→xL h ρ ρ' M w a')
 | [],a,a',hs=>by simp only[u9,Option.some.injEq]at hs;subst hs;exact⟨⟨[],by simp⟩,fun ha _=>⟨ha,fun ρ ρ' M w _ _ hb=>hb⟩⟩
 |(i,ss)::r,a,a',hs=>by
  simp only[u9]at hs;split at hs
  ·rename_i cs hid;split at hs
   ·rename_i cs' a1 hL;obtain⟨⟨m1,e1⟩,hk⟩:=vI ss cs a cs' a1 hL;obtain⟨⟨m2,e2⟩,hk2⟩:=fu r _ a' hs;dsimp only at e2;refine⟨⟨m1++m2,by rw[e2,e1,iX]⟩,fun ha hp=>?_⟩;obtain⟨k1,k2⟩:=hk ha;have hi:=hp (i,ss) (by simp);dsimp only at hi;have hilt:i<a.src.length:=(hN.mp hi).1;have hsrc:a1.src[i]?=some (some i):=by rw[e1,hG hilt];exact hi
    have hlt:i<a1.blks.length:=by rw[←k1.len,e1];simp;omega
    have hA2:rO h ⟨a1.src,xD a1.blks i (.vals cs')⟩:=by
     refine⟨by rw[hF];exact k1.len,k1.nodup,?_,?_⟩
     ·intro j hj;obtain⟨k,hk,hho⟩:=k1.virt j hj;refine⟨k,?_,hho⟩;dsimp only at hj⊢;rw[gH _ _ _ _ hlt,if_neg (fun e=>by subst e;rw[hsrc]at hj;cases hj)];exact hk
     ·intro j id' x hj hx hl;dsimp only at hj hx;rw[gH _ _ _ _ hlt]at hx;split at hx
      ·rename_i e;subst e;rw[hsrc]at hj;simp only[Option.some.injEq]at hj;subst hj;rw[hid];trivial
      ·exact k1.live j id' x hj hx hl
    obtain⟨q1,q2⟩:=hk2 hA2 (fun p hpr=>by have h0:=hp p (x2 _ hpr);have hlt0:p.1<a.src.length:=(hN.mp h0).1;dsimp only;rw[e1,hG hlt0];exact h0);refine⟨q1,fun ρ ρ' M w hq hc hb=>q2 ρ ρ' M w hq hc ?_⟩;obtain⟨b1,b2⟩:=k2 ρ ρ' M w hq (by rw[e2]at hc;exact hc.pre) hb;intro j id' x p hj hx hp hr;dsimp only at hj hx;rw[gH _ _ _ _ hlt]at hx;split at hx
    ·rename_i e;subst e;rw[hsrc]at hj;simp only[Option.some.injEq]at hj hx;subst hj;subst hx;rw[hid]at hr;obtain⟨h1,⟨h2,h3,h4⟩|⟨b,c,h2,h3,h4,h5⟩⟩:=hr
     ·subst h3;have:=b2 [] (by simp only[lA]);cases cs' with
      |nil=>exact⟨h1,.inl ⟨h2,rfl,h4⟩⟩
      |cons=>simp only[lA]at this
     ·have:=b2 _ h5;exact⟨by rw[←h1,this.length,h5.length],.inr ⟨b,c,h2,h3,h4,this⟩⟩
    ·exact b1 j id' x p hj hx hp hr
   ·cases hs
  ·cases hs
structure cn where
 F:Nat→Prop
 ρ:vD
 bs:List sA
 w:World
def rG (E:jC)(S:cn)(s:St)(a:Act)(w:World):Prop:=
 ∃ρ,mi E S.F ρ (kE s.T) (rA s.H) a w∧(∀j,s.H.length≤j→ρ j=none)∧(∀j,j<E.nb→ρ j=S.ρ j)∧E.nb≤s.H.length∧vH (kA S.ρ (rA S.bs)) S.w (kA ρ (rA s.H)) w
theorem gK {H:List sA}{j:Nat}(hl:(rA H j).live):H[j]?=some (rA H j):=by
 rw[bD,iA]at hl⊢;cases h:H[j]? with
 |none=>rw[h]at hl;exact hl.elim
 |some x=>rfl
theorem pM {H:List sA}{j:Nat}{x:sA}(h:H[j]?=some x):rA H j=x:=by
 rw[bD,iA,h];rfl
theorem fL:∀(nb:Nat) (H:List sA),jU nb H=true→∀x∈H,∀i∈nT x,i<nb
 |_,[],_,x,hx=>by simp at hx
 |nb,b::r,h,x,hx=>by
  simp only[jU,iB,yK]at h;rcases hC.mp hx with rfl|hx
  ·intro i hi;exact fD (h.1 i hi)
  ·exact fL nb r h.2 x hx
theorem qZ:∀(keep:List (Nat×Sh)) (T:Nat→V) (vs:List V) (u:List Value) (ρ:vD) (M:Nat→Prop) (w:World) (ev:Nat→Value),lA ρ M w vs (keep.map fun p=>ev p.1)→∀t,vA ρ M w (kE (bC keep vs) t) (ev t)
 | [],_,vs,_,ρ,M,w,ev,hr,t=>by simp only[bC,kE,vA]
 |p::r,T,[],u,ρ,M,w,ev,hr,t=>by simp only[bC,kE,vA]
 |(d,sh)::r,T,v::vs,u,ρ,M,w,ev,hr,t=>by
  simp only[xK,lA]at hr;simp only[bC,kE];cases hb:Nat.beq d t<;>simp only[cond_true,cond_false]
  ·exact qZ r T vs u ρ M w ev hr.2 t
  ·have:=vB hb;subst this;exact hr.1
theorem lA.map_fn {α:Type}{ρ:vD}{M:Nat→Prop}{w:World}(f:α→V)(g:α→Value)(h:∀x,vA ρ M w (f x) (g x)):∀l:List α,lA ρ M w (l.map f) (l.map g)
 | []=>by simp[lA]
 |x::l=>by simp only[xK,lA];exact⟨h x,lA.map_fn f g h l⟩
theorem mL {E:jC}{S:cn}{keep:List (Nat×Sh)}{s:St}{vs:List V}{H:List sA}(hn:pa E.nb keep s=some (vs,H)){a:Act}{w:World}(hI:rG E S s a w):rG E S ⟨bC keep vs,H⟩ a w:=by
 obtain⟨ρ,hr,h1,h2,h3,h4⟩:=hI;unfold pa at hn;split at hn
 ·rename_i vs' acc hs;obtain⟨hok,hn⟩:=gA hn;simp only[Option.some.injEq,Prod.mk.injEq]at hn;obtain⟨rfl,rfl⟩:=hn;obtain⟨⟨more,hsrc⟩,hk⟩:=vI _ _ _ _ _ hs;have hst:∀j:Nat,(yG E.nb s.H).src[j]?=if j<E.nb then some (some j)else none:=by
   intro j;simp only[yG,e0];by_cases hj:j<E.nb
   ·rw[u5 hj,if_pos hj];rfl
   ·rw[aE (by simp;omega),if_neg hj];rfl
  have hlen0:(yG E.nb s.H).src.length=E.nb:=by simp[yG]
  have hst2:∀j:Nat,j<E.nb→(yG E.nb s.H).blks[j]?=s.H[j]?:=fun j hj=>by simp[yG,hY,hj]
  have hacc0:rO (rA s.H) (yG E.nb s.H):=by
   refine⟨by simp[yG,h3],?_,?_,?_⟩
   ·intro i j id hi hj;rw[hst]at hi hj;split at hi<;>split at hj<;>simp_all
   ·intro j hj;rw[hst]at hj;split at hj<;>simp at hj
   ·intro j id x hj hx hl;rw[hst]at hj;split at hj
    ·rename_i hlt;rw[hst2 j hlt]at hx;simp only[Option.some.injEq]at hj;subst hj;rw[pM hx];exact hl
    ·cases hj
  obtain⟨hA,hR⟩:=hk hacc0
  let ρ':vD:=fun j=>match acc.src[j]? with
   |some (some id)=>ρ id
   |some none=>some ⟨none,0,0⟩
   |none=>none
  have hc:qX ρ ρ' acc.src:=⟨fun j id hj=>by simp only[ρ',hj],fun j hj=>by simp only[ρ',hj]⟩
  have hpre:∀j,j<E.nb→acc.src[j]?=some (some j):=fun j hj=>by rw[hsrc,hG (by rw[hlen0];exact hj),hst,if_pos hj]
  have hρ':∀j,j<E.nb→ρ' j=ρ j:=fun j hj=>hc.old j j (hpre j hj);have hb0:xL (rA s.H) ρ ρ' (av S.F (kA ρ (rA s.H))) w (yG E.nb s.H):=by
   intro j id x p hj hx hp hb;rw[hst]at hj;split at hj
   ·rename_i hlt;simp only[Option.some.injEq]at hj;subst hj;rw[hst2 j hlt]at hx;rw[pM hx]at hb;refine hb.agree (fun i hi p hp=>?_);have hin:x∈s.H.take E.nb:=dQ (i:=j) (by rw[hY,if_pos hlt];exact hx);rw[hρ' i (fL _ _ hok x hin i hi)];exact hp
   ·cases hj
  obtain⟨hB,hV⟩:=hR ρ ρ' _ w (fun id p hl hp=>by obtain⟨p',hp',hb'⟩:=hr.heap.rel id hl;rw[hp]at hp';cases hp';exact hb') hc hb0;have hsrcOf:∀j,(rA acc.blks j).live→(∃id,acc.src[j]?=some (some id)∧ρ' j=ρ id∧(rA s.H id).live)∨(acc.src[j]?=some none∧ρ' j=some ⟨none,0,0⟩∧si (rA acc.blks j)):=by
   intro j hl;have hx:=gK hl;have hj:j<acc.src.length:=by rw[hA.len];exact(hN.mp hx).1
   cases hsj:acc.src[j]with
   |some id=>
    have h0:acc.src[j]?=some (some id):=by rw[hD hj,hsj]
    exact .inl ⟨id,h0,hc.old j id h0,hA.live j id _ h0 hx hl⟩
   |none=>
    have h0:acc.src[j]?=some none:=by rw[hD hj,hsj]
    obtain⟨x,hk,hho⟩:=hA.virt j h0;exact .inr ⟨h0,hc.nil j h0,by rw[pM hk];exact hho⟩
  have hM:∀b,kA ρ' (rA acc.blks) b→kA ρ (rA s.H) b:=by
   rintro b ⟨j,n,C,hp,hl⟩;rcases hsrcOf j hl with⟨id,_,g2,g3⟩|⟨_,g2,_⟩
   ·rw[g2]at hp;exact⟨id,n,C,hp,g3⟩
   ·rw[g2]at hp;cases hp
  have hMa:∀b,av S.F (kA ρ' (rA acc.blks)) b→av S.F (kA ρ (rA s.H)) b:=fun b hb=>hb.imp id (hM b);refine⟨ρ',⟨⟨?_,?_,?_,hr.heap.low,fun b hb=>hr.heap.out b (hM b hb)⟩,?_,hr.size,hr.defers⟩,?_,fun j hj=>by rw[hρ' j hj];exact h2 j hj,?_,⟨h4.size,h4.same,fun b hb=>h4.sub b (hM b hb),h4.keeps⟩⟩
  ·intro j p hp;simp only[ρ']at hp;split at hp
   ·exact hr.heap.wf _ _ hp
   ·simp only[Option.some.injEq]at hp;subst hp;exact q5 _
   ·cases hp
  ·intro j hl;dsimp only at hl⊢;rcases hsrcOf j hl with⟨id,g1,g2,g3⟩|⟨_,g2,g3⟩
   ·obtain⟨p,hp,hb⟩:=hr.heap.rel id g3;exact⟨p,by rw[g2];exact hp,qB.avoid hMa (hB j id _ p g1 (gK hl) hp hb)⟩
   ·exact⟨_,g2,by rcases g3 with⟨k,g3⟩|⟨k,s,g3⟩<;>rw[g3]<;>exact⟨rfl,.inl ⟨rfl,rfl,rfl⟩⟩⟩
  ·intro i j b n C n' C' hi hj hpi hpj;rcases hsrcOf i hi with⟨id,g1,g2,g3⟩|⟨_,g2,_⟩
   ·rcases hsrcOf j hj with⟨id',g1',g2',g3'⟩|⟨_,g2',_⟩
    ·rw[g2]at hpi;rw[g2']at hpj;have:=hr.heap.inj id id' b _ _ _ _ g3 g3' hpi hpj;subst this;exact hA.nodup i j id g1 g1'
    ·rw[g2']at hpj;cases hpj
   ·rw[g2]at hpi;cases hpi
  ·intro t;refine vA.avoid hMa _ _ ?_;refine qZ keep (kE s.T) vs' [] ρ' _ w (fun t=>a.eval (.tmp t)) (hV _ ?_) t;exact lA.map_fn _ _ (fun p=>hr.tmps p.1) keep
  ·intro j hj;dsimp only at hj;rw[←hA.len]at hj;simp only[ρ',aE hj]
  ·dsimp only;rw[←hA.len,hsrc];simp[hlen0]
 ·cases hn
theorem Ef {E:jC}{S:cn}{bsh:List (Nat×List Sh)}{keep:List (Nat×Sh)}{s:St}{vs:List V}{H:List sA}(hn:Ee E.nb bsh keep s=some (vs,H)){a:Act}{w:World}(hI:rG E S s a w):rG E S ⟨bC keep vs,H⟩ a w:=by
 obtain⟨ρ,hr,h1,h2,h3,h4⟩:=hI;unfold Ee at hn;split at hn
 ·rename_i vs' acc0 hs;split at hn
  rotate_left
  ·cases hn
  rename_i acc hsB;obtain⟨hok0,hn⟩:=gA hn;obtain⟨hok,hall⟩:=wB hok0;simp only[Option.some.injEq,Prod.mk.injEq]at hn;obtain⟨rfl,rfl⟩:=hn;obtain⟨⟨more0,hsrc0⟩,hk0⟩:=vI _ _ _ _ _ hs;obtain⟨⟨more1,hsrc1⟩,hk1⟩:=fu _ _ _ hsB;have hsrc:acc.src=(List.range E.nb).map some++(more0++more1):=by rw[hsrc1,hsrc0,iX]
  have hst:∀j:Nat,((List.range E.nb).map some)[j]?=if j<E.nb then some (some j)else none:=by
   intro j;simp only[e0];by_cases hj:j<E.nb
   ·rw[u5 hj,if_pos hj];rfl
   ·rw[aE (by simp;omega),if_neg hj];rfl
  have hlen0:((List.range E.nb).map some).length=E.nb:=by simp
  have hst2:∀j:Nat,j<E.nb→(xM bsh (s.H.take E.nb))[j]?=s.H[j]?∨(xM bsh (s.H.take E.nb))[j]?=some .dead:=fun j hj=>by
   rcases tV bsh (s.H.take E.nb) j with h|h
   ·exact .inl (h.trans (by simp[hY,hj]))
   ·exact .inr h
  have hacc0:rO (rA s.H) ⟨(List.range E.nb).map some,xM bsh (s.H.take E.nb)⟩:=by
   refine⟨by simp[xS,h3],?_,?_,?_⟩
   ·intro i j id hi hj;rw[hst]at hi hj;split at hi<;>split at hj<;>simp_all
   ·intro j hj;rw[hst]at hj;split at hj<;>simp at hj
   ·intro j id x hj hx hl;rw[hst]at hj;split at hj
    ·rename_i hlt;simp only[Option.some.injEq]at hj;subst hj;rcases hst2 j hlt with g|g
     ·dsimp only at hx;rw[g]at hx;rw[pM hx];exact hl
     ·dsimp only at hx;rw[g]at hx;simp only[Option.some.injEq]at hx;subst hx;exact hl.elim
    ·cases hj
  obtain⟨hA0,hR0⟩:=hk0 hacc0;have hpre0:∀p∈bsh,acc0.src[p.1]?=some (some p.1):=fun p hp=>by have:=yK.mp hall p hp;have:=fD this;rw[hsrc0,hG (by rw[hlen0];exact this),hst,if_pos this]
  obtain⟨hA,hR1⟩:=hk1 hA0 hpre0
  let ρ':vD:=fun j=>match acc.src[j]? with
   |some (some id)=>ρ id
   |some none=>some ⟨none,0,0⟩
   |none=>none
  have hc:qX ρ ρ' acc.src:=⟨fun j id hj=>by simp only[ρ',hj],fun j hj=>by simp only[ρ',hj]⟩
  have hpre:∀j,j<E.nb→acc.src[j]?=some (some j):=fun j hj=>by rw[hsrc,hG (by rw[hlen0];exact hj),hst,if_pos hj]
  have hρ':∀j,j<E.nb→ρ' j=ρ j:=fun j hj=>hc.old j j (hpre j hj);have hb0:xL (rA s.H) ρ ρ' (av S.F (kA ρ (rA s.H))) w ⟨(List.range E.nb).map some,xM bsh (s.H.take E.nb)⟩:=by
   intro j id x p hj hx hp hb;rw[hst]at hj;split at hj
   ·rename_i hlt;simp only[Option.some.injEq]at hj;subst hj;dsimp only at hx;have hin:x∈xM bsh (s.H.take E.nb):=dQ hx;rcases hst2 j hlt with g|g
    ·rw[g]at hx;rw[pM hx]at hb;refine hb.agree (fun i hi p hp=>?_);rw[hρ' i (fL _ _ hok x hin i hi)];exact hp
    ·rw[g]at hx;simp only[Option.some.injEq]at hx;subst hx;trivial
   ·cases hj
  have hHB:HB (rA s.H) ρ (av S.F (kA ρ (rA s.H))) w:=fun id p hl hp=>by obtain⟨p',hp',hb'⟩:=hr.heap.rel id hl;rw[hp]at hp';cases hp';exact hb'
  obtain⟨hB0,hV⟩:=hR0 ρ ρ' _ w hHB (by rw[hsrc1]at hc;exact hc.pre) hb0;have hB:=hR1 ρ ρ' _ w hHB hc hB0;have hsrcOf:∀j,(rA acc.blks j).live→(∃id,acc.src[j]?=some (some id)∧ρ' j=ρ id∧(rA s.H id).live)∨(acc.src[j]?=some none∧ρ' j=some ⟨none,0,0⟩∧si (rA acc.blks j)):=by
   intro j hl;have hx:=gK hl;have hj:j<acc.src.length:=by rw[hA.len];exact(hN.mp hx).1
   cases hsj:acc.src[j]with
   |some id=>
    have h0:acc.src[j]?=some (some id):=by rw[hD hj,hsj]
    exact .inl ⟨id,h0,hc.old j id h0,hA.live j id _ h0 hx hl⟩
   |none=>
    have h0:acc.src[j]?=some none:=by rw[hD hj,hsj]
    obtain⟨x,hk,hho⟩:=hA.virt j h0;exact .inr ⟨h0,hc.nil j h0,by rw[pM hk];exact hho⟩
  have hM:∀b,kA ρ' (rA acc.blks) b→kA ρ (rA s.H) b:=by
   rintro b ⟨j,n,C,hp,hl⟩;rcases hsrcOf j hl with⟨id,_,g2,g3⟩|⟨_,g2,_⟩
   ·rw[g2]at hp;exact⟨id,n,C,hp,g3⟩
   ·rw[g2]at hp;cases hp
  have hMa:∀b,av S.F (kA ρ' (rA acc.blks)) b→av S.F (kA ρ (rA s.H)) b:=fun b hb=>hb.imp id (hM b);refine⟨ρ',⟨⟨?_,?_,?_,hr.heap.low,fun b hb=>hr.heap.out b (hM b hb)⟩,?_,hr.size,hr.defers⟩,?_,fun j hj=>by rw[hρ' j hj];exact h2 j hj,?_,⟨h4.size,h4.same,fun b hb=>h4.sub b (hM b hb),h4.keeps⟩⟩
  ·intro j p hp;simp only[ρ']at hp;split at hp
   ·exact hr.heap.wf _ _ hp
   ·simp only[Option.some.injEq]at hp;subst hp;exact q5 _
   ·cases hp
  ·intro j hl;dsimp only at hl⊢;rcases hsrcOf j hl with⟨id,g1,g2,g3⟩|⟨_,g2,g3⟩
   ·obtain⟨p,hp,hb⟩:=hr.heap.rel id g3;exact⟨p,by rw[g2];exact hp,qB.avoid hMa (hB j id _ p g1 (gK hl) hp hb)⟩
   ·exact⟨_,g2,by rcases g3 with⟨k,g3⟩|⟨k,s,g3⟩<;>rw[g3]<;>exact⟨rfl,.inl ⟨rfl,rfl,rfl⟩⟩⟩
  ·intro i j b n C n' C' hi hj hpi hpj;rcases hsrcOf i hi with⟨id,g1,g2,g3⟩|⟨_,g2,_⟩
   ·rcases hsrcOf j hj with⟨id',g1',g2',g3'⟩|⟨_,g2',_⟩
    ·rw[g2]at hpi;rw[g2']at hpj;have:=hr.heap.inj id id' b _ _ _ _ g3 g3' hpi hpj;subst this;exact hA.nodup i j id g1 g1'
    ·rw[g2']at hpj;cases hpj
   ·rw[g2]at hpi;cases hpi
  ·intro t;refine vA.avoid hMa _ _ ?_;refine qZ keep (kE s.T) vs' [] ρ' _ w (fun t=>a.eval (.tmp t)) (hV _ ?_) t;exact lA.map_fn _ _ (fun p=>hr.tmps p.1) keep
  ·intro j hj;dsimp only at hj;rw[←hA.len]at hj;simp only[ρ',aE hj]
  ·dsimp only;rw[←hA.len,hsrc];simp[hlen0]
 ·cases hn
section
variable {P:Program}{F:Nat→Prop}{ρ:vD}{h:Nat→sA}{w:World}
mutual
theorem As (hh:mA F ρ h w){nb:Nat}{ρ':vD}{M':Nat→Prop}(hρ:∀i,i<nb→ρ' i=ρ i)(hM:∀b,M' b→kA ρ h b)(hM':∀b,M' b→∀id n C,nb≤id→(h id).live→ρ id≠some ⟨some b,n,C⟩):
  ∀(sh:Sh) (v v':V) (u:Value),aM nb h sh v=some v'→vA ρ (av F (kA ρ h)) w v u→vA ρ' (av F M') w v' u
 | .il k s,v,v',u,hf,hr=>by
  have hMa:∀b,av F M' b→av F (kA ρ h) b:=fun b hb=>hb.imp id (hM b);have key:∀id b n C,nb≤id→(h id).live→ρ id=some ⟨some b,n,C⟩→¬av F M' b:=fun id b n C h1 h2 h3 hb=>hb.elim (fun hf=>hh.out b ⟨id,n,C,h3,h2⟩ hf) (fun hm=>hM' b hm id n C h1 h2 h3);unfold aM at hf;split at hf
  ·obtain⟨h0,hf⟩:=gA hf;simp only[Option.some.injEq]at hf;subst hf;simp only[vA]at hr⊢;exact⟨fD h0,by simp,.inl ⟨trivial,none,hr⟩⟩
  ·obtain⟨h0,hf⟩:=gA hf;simp only[Option.some.injEq]at hf;subst hf;have:=vA.avoid hMa _ _ hr;simpa only[vA]using this
  ·rename_i id s';obtain⟨h0,hf2⟩:=gA hf;clear hf;simp only[iB]at h0;have h1:=gG h0.1;have h2:=vB h0.2;clear h0;subst h2;split at hf2
   ·rename_i k' l hid;obtain⟨_,hf⟩:=gA hf2;simp only[Option.some.injEq]at hf;subst hf;have hl:(h id).live:=by rw[hid];trivial
    obtain⟨g0,⟨b,n,C,cap,c,g1,g2,g3,g4,g5,ho,hsz,hold⟩|⟨g1,g2,hk⟩⟩:=yF hh hr hl (by rw[hid];trivial)
    ·rw[hid]at hold;obtain⟨e1,e2,e3⟩:=hold;simp only[vA];refine⟨g0,by rw[e1];exact g2,.inr ⟨b,0,cap,by rw[e1];exact g5,by rw[e1];exact g3,ho.lt,key id b n C h1 hl g1,fun j hj=>?_⟩⟩;rw[u4,ho.cell];exact e3 j hj
    ·rw[hid]at hk;rcases hk with⟨k2,hk⟩|hk|⟨_,_,hk⟩<;>cases hk;simp only[vA];exact⟨g0,by simp,.inl ⟨trivial,none,g2⟩⟩
   ·cases hf2
  ·rename_i id s' off len;obtain⟨h0,hf2⟩:=gA hf;clear hf;simp only[iB]at h0;have h1:=gG h0.1;have h2:=vB h0.2;clear h0;subst h2;split at hf2
   ·rename_i k' l hid;obtain⟨_,hf⟩:=gA hf2;simp only[Option.some.injEq]at hf;subst hf;have hl:(h id).live:=by rw[hid];trivial
    simp only[vA]at hr⊢;obtain⟨g0,⟨b,n,C,cap,g1,g2,g3,g4,g5⟩|⟨g1,a,g2⟩⟩:=hr
    ·obtain⟨c,ho,hsz,hold⟩:=hh.own hl (by rw[hid];trivial) g1;rw[hid]at hold;obtain⟨e1,e2,e3⟩:=hold;have hlen:((l.drop off).take (sG s len)).length=len*s:=by rw[dC];simp;omega
     rw[hlen];refine⟨g0,Nat.mul_mod_left _ _,.inr ⟨b,off,cap,by rw[p0 _ g0];exact g5,by rw[p0 _ g0];exact g3,ho.lt,key id b n C h1 hl g1,fun j hj=>?_⟩⟩;rw[ho.cell,e3 _ (by omega)];congr 2;simp only[iA];rw[l4 (by rw[dC];omega),u3]
    ·subst g1;have:(l.drop off).take (sG s 0)=[]:=by rw[dC];simp
     rw[this];exact⟨g0,by simp,.inl ⟨rfl,a,g2⟩⟩
   ·cases hf2
  ·cases hf
 | .recd ss,v,v',u,hf,hr=>by
  unfold aM at hf;split at hf
  ·rename_i cs;split at hf
   ·rename_i cs' hL;simp only[Option.some.injEq]at hf;subst hf;simp only[vA]at hr⊢;obtain⟨vs,e,hr⟩:=hr;exact⟨vs,e,oK hh hρ hM hM' ss cs cs' _ hL hr⟩
   ·cases hf
  ·cases hf
 | .tup ss,v,v',u,hf,hr=>by
  unfold aM at hf;split at hf
  ·rename_i cs;split at hf
   ·rename_i cs' hL;simp only[Option.some.injEq]at hf;subst hf;simp only[vA]at hr⊢;obtain⟨vs,e,hr⟩:=hr;exact⟨vs,e,oK hh hρ hM hM' ss cs cs' _ hL hr⟩
   ·cases hf
  ·cases hf
 | .any,v,v',u,hf,hr=>by simp only[aM]at hf;obtain⟨h0,hf⟩:=gA hf;simp only[Option.some.injEq]at hf;subst hf;simp only[yK]at h0;exact vA.avoid (fun b hb=>hb.imp id (hM b)) _ _ (hr.agree _ _ (fun i hi p hp=>by rw[hρ i (fD (h0 i hi))];exact hp))
 | .row _ _,v,v',u,hf,hr=>by simp only[aM]at hf;obtain⟨h0,hf⟩:=gA hf;simp only[Option.some.injEq]at hf;subst hf;simp only[yK]at h0;exact vA.avoid (fun b hb=>hb.imp id (hM b)) _ _ (hr.agree _ _ (fun i hi p hp=>by rw[hρ i (fD (h0 i hi))];exact hp))
 | .part _ _,v,v',u,hf,hr=>by simp only[aM]at hf;obtain⟨h0,hf⟩:=gA hf;simp only[Option.some.injEq]at hf;subst hf;simp only[yK]at h0;exact vA.avoid (fun b hb=>hb.imp id (hM b)) _ _ (hr.agree _ _ (fun i hi p hp=>by rw[hρ i (fD (h0 i hi))];exact hp))
 | .nrow _ _,v,v',u,hf,hr=>by simp only[aM]at hf;obtain⟨h0,hf⟩:=gA hf;simp only[Option.some.injEq]at hf;subst hf;simp only[yK]at h0;exact vA.avoid (fun b hb=>hb.imp id (hM b)) _ _ (hr.agree _ _ (fun i hi p hp=>by rw[hρ i (fD (h0 i hi))];exact hp))
 | .box _,v,v',u,hf,hr=>by simp only[aM]at hf;obtain⟨h0,hf⟩:=gA hf;simp only[Option.some.injEq]at hf;subst hf;simp only[yK]at h0;exact vA.avoid (fun b hb=>hb.imp id (hM b)) _ _ (hr.agree _ _ (fun i hi p hp=>by rw[hρ i (fD (h0 i hi))];exact hp))
theorem oK (hh:mA F ρ h w){nb:Nat}{ρ':vD}{M':Nat→Prop}(hρ:∀i,i<nb→ρ' i=ρ i)(hM:∀b,M' b→kA ρ h b)(hM':∀b,M' b→∀id n C,nb≤id→(h id).live→ρ id≠some ⟨some b,n,C⟩):
  ∀(ss:List Sh) (vs vs':List V) (us:List Value),xH nb h ss vs=some vs'→lA ρ (av F (kA ρ h)) w vs us→lA ρ' (av F M') w vs' us
 | [],[],vs',us,hf,hr=>by simp only[xH,Option.some.injEq]at hf;subst hf;cases us<;>simp_all[lA]
 |s::ss,v::vs,vs',us,hf,hr=>by
  unfold xH at hf;split at hf
  ·rename_i v1 h1;split at hf
   ·rename_i vs1 h2;simp only[Option.some.injEq]at hf;subst hf;cases us with
    |nil=>simp only[lA]at hr
    |cons u us=>simp only[lA]at hr⊢;exact⟨As hh hρ hM hM' s v v1 u h1 hr.1,oK hh hρ hM hM' ss vs vs1 us h2 hr.2⟩
   ·cases hf
  ·cases hf
 | [],_::_,vs',us,hf,hr=>by simp[xH]at hf
 |_::_,[],vs',us,hf,hr=>by simp[xH]at hf
end
theorem gX {E:jC}(hty:bF P E.ty){s:St}{a:Act}(hr:mi E F ρ (kE s.T) (rA s.H) a w):∀(rs:List ResultVar) (vs:List V),vn E s rs=some vs→
  ∃us,lA ρ (av F (kA ρ (rA s.H))) w vs us∧(rs.mapM (m:=Sem) fun
   | .tmp t=>pure (a.tmps.getD t undef)
   | .cell x t=>do loadVar t (←asAddr (a.tmps.getD x undef))).run P w= .ok us w
 | [],vs,h=>by simp only[vn,Option.some.injEq]at h;subst h;exact⟨[],by simp[lA],by simp⟩
 | .tmp t::r,vs,h=>by
  simp only[vn]at h;split at h
  ·rename_i vs1 h1;simp only[Option.some.injEq]at h;subst h;obtain⟨us,g1,g2⟩:=gX hty hr r vs1 h1;refine⟨_::us,⟨hr.tmps t,g1⟩,?_⟩;simp only[List.mapM_cons,q0,r0,y0,g2,Act.eval]
  ·cases h
 | .cell x t::r,vs,h=>by
  simp only[vn]at h;split at h
  ·rename_i ti id off ext hti hx;obtain⟨h0,h⟩:=gA h;simp only[iB]at h0;have hle:=gG h0.1;have hpos:=fD h0.2;split at h
   ·rename_i v1 vs1 hv h1;simp only[Option.some.injEq]at h;subst h;obtain⟨us,g1,g2⟩:=gX hty hr r vs1 h1;have hx':=hr.tmps x;rw[hx]at hx';simp only[vA]at hx';obtain⟨b,n,C,hp,hn,he⟩:=hx';have hlive:(rA s.H id).live:=by
     cases hb:rA s.H id with
     |dead=>rw[hb]at hv;simp[zG]at hv
     |_=>trivial
    have h0':=hty _ _ hti;obtain⟨v,r1,r2⟩:=aO (b:=b) (o:=0) h0' hpos (hr.heap.cellsAt hlive hp) (by omega) hv h0'.one;rw[u4]at r1;refine⟨v::us,⟨r2,g1⟩,?_⟩;simp only[Act.eval]at he;have ha:(asAddr (a.tmps.getD x undef)).run P w= .ok ⟨b,off,none⟩ w:=by rw[he];rfl
    simp only[List.mapM_cons,q0,r0,y0,ha,r1,g2]
   ·cases h
  ·cases h
theorem Ek {vs:List V}{us:List Value}{M:Nat→Prop}(hr:lA ρ M w vs us):vA ρ M w (one vs) (if h:us.toArray.size=1 then us.toArray[0]else .tuple us.toArray):=by
 have hl:=hr.length;unfold one;split
 ·rename_i v;cases us with
  |nil=>simp at hl
  |cons u us=>
   cases us with
   |nil=>simp only[lA]at hr;simpa using hr.1
   |cons=>simp at hl
 ·rename_i h1;have hne:¬us.toArray.size=1:=by
   intro he;simp at he;rw[←hl]at he;obtain⟨v,hv⟩:=List.length_eq_one_iff.mp he;exact h1 v hv
  rw[dif_neg hne];simp only[vA];exact⟨_,rfl,by simpa using hr⟩
theorem oP:∀(vs:List V) (us:List Value) (i t:Nat) (ρ:vD) (M:Nat→Prop) (w:World) (d:Value),lA ρ M w vs us→vA ρ M w (kE (pP i vs) t) (if i≤t∧t<i+us.length then us.getD (t-i) undef else d)
 | [],us,i,t,ρ,M,w,d,hr=>by simp only[pP,kE,vA]
 |v::vs,[],i,t,ρ,M,w,d,hr=>by simp only[lA]at hr
 |v::vs,u::us,i,t,ρ,M,w,d,hr=>by
  simp only[lA]at hr;simp only[pP,kE];cases hb:Nat.beq i t<;>simp only[cond_true,cond_false]
  ·have hne:i≠t:=fun e=>by subst e;simp at hb
   have:=oP vs us (i+1) t ρ M w d hr.2;by_cases hc:i≤t∧t<i+(us.length+1)
   ·rw[if_pos (by omega)]at this;rw[if_pos (by simp;omega)];have e:t-i=(t- (i+1))+1:=by omega
    rw[e];simpa using this
   ·rw[if_neg (by omega)]at this;rw[if_neg (by simp;omega)];exact this
  ·have:=vB hb;subst this;rw[if_pos (by simp)];simpa using hr.1
theorem oT {ρ:vD}{M:Nat→Prop}{w:World}:∀(i:Nat) (ss:List Sh) (vs:List V) (us:List Value),vs.length=ss.length→us.length=ss.length→(∀t,vA ρ M w (kE (bC (ru i ss) vs) (i+t)) (us.getD t undef))→lA ρ M w vs us
 |i,[],[],[],_,_,_=>by simp only[lA]
 |i,s::ss,v::vs,u::us,h1,h2,h=>by
  simp only[lA];have h0:=h 0;simp only[ru,bC,kE,Nat.add_zero,Nat.beq_refl,cond_true]at h0;refine⟨by simpa using h0,oT (i+1) ss vs us (by simpa using h1) (by simpa using h2) fun t=>?_⟩;have ht:=h (t+1);have hb:Nat.beq i (i+(t+1))=false:=by
   cases hc:Nat.beq i (i+(t+1))with
   |false=>rfl
   |true=>have:=vB hc;omega
  simp only[ru,bC,kE,hb,cond_false]at ht;have e:i+1+t=i+(t+1):=by omega
  rw[e];simpa using ht
 |i,[],_::_,_,h1,_,_=>by simp at h1
 |i,_::_,[],_,h1,_,_=>by simp at h1
 |i,[],[],_::_,_,h2,_=>by simp at h2
 |i,_::_,_::_,[],_,h2,_=>by simp at h2
def Hr (P:Program)(fn:Func)(S:cn)(v:V)(bs:List sA)(a:Act)(w:World):Prop:=
 a.defers=[]∧∃u,(results fn a.tmps).run P w= .ok u w∧cU S.F S.ρ S.bs S.w v bs u w
theorem Dc {E:jC}{fn:Func}(hty:bF P E.ty)(hres:E.res=fn.results.toList){S:cn}(hnb:E.nb=S.bs.length){s:St}{v:V}{bs:List sA}(hf:fin E s=some (v,bs)){a:Act}(hI:rG E S s a w):Hr P fn S v bs a w:=by
 obtain⟨ρ,hr,h1,h2,h3,h4⟩:=hI;refine⟨hr.defers,?_⟩;unfold fin at hf;split at hf
 ·cases hf
 ·rename_i vs hvs;have hf0:=hf;clear hf;cases hrow:E.own<;>rw[hrow]at hf0<;>simp only[cond_true,cond_false]at hf0
  rotate_left
  ·split at hf0
   ·cases hf0
   ·rename_i vs' H' hn;obtain⟨hok,hf⟩:=gA hf0;simp only[Option.some.injEq,Prod.mk.injEq]at hf;obtain⟨rfl,rfl⟩:=hf;simp only[iB]at hok;have hl1:=vB hok.1;have hl2:=vB hok.2;obtain⟨us,g1,g2⟩:=gX hty hr _ _ hvs;have hlu:=g1.length;refine⟨if h:us.toArray.size=1 then us.toArray[0]else .tuple us.toArray,?_,?_⟩
    ·unfold results;rw[←s5 (xs:=fn.results),List.mapM_toArray,←hres];simp only[bind_map_left,q0,r0];exact(congrArg (fun r=>Result.andThen r _) g2).trans rfl
    ·have hev:∀t,Act.eval ⟨us.toArray,[]⟩ (.tmp t)=us.getD t undef:=fun t=>by simp[Act.eval,iA]
     have hI1:rG {E with ntmps:=us.length} S ⟨pP 0 vs,s.H⟩ ⟨us.toArray,[]⟩ w:=by
      refine⟨ρ,⟨hr.heap,fun t=>?_,by simp,rfl⟩,h1,h2,h3,h4⟩;have:=oP vs us 0 t ρ (av S.F (kA ρ (rA s.H))) w undef g1;rw[hev];dsimp only;split at this
      ·simpa using this
      ·rename_i hge;have:us.getD t undef=undef:=by
        rw[iA,aE (by omega)];rfl
       rw[this];assumption
     obtain⟨ρ',k1,k2,k3,k4,k5⟩:=Ef (E:={E with ntmps:=us.length}) hn hI1;refine⟨ρ',fun j hj=>k3 j (by dsimp only;omega),k2,k1.heap,Ek (oT 0 E.rsh vs' us hl2 (by omega) fun t=>?_),k5⟩;have:=k1.tmps t;rw[hev]at this;rw[u4];exact this
  have hf:=hf0;clear hf0;split at hf
  ·cases hf
  ·rename_i vs' hfz;obtain⟨hok,hf⟩:=gA hf;simp only[Option.some.injEq,Prod.mk.injEq]at hf;obtain⟨rfl,rfl⟩:=hf;obtain⟨us,g1,g2⟩:=gX hty hr _ _ hvs;refine⟨if h:us.toArray.size=1 then us.toArray[0]else .tuple us.toArray,?_,?_⟩
   ·unfold results;rw[←s5 (xs:=fn.results),List.mapM_toArray,←hres];simp only[bind_map_left,q0,r0];exact(congrArg (fun r=>Result.andThen r _) g2).trans rfl
   ·let ρ':vD:=fun j=>if j<E.nb then ρ j else none
    have hρ':∀j,j<E.nb→ρ' j=ρ j:=fun j hj=>if_pos hj;have hbt:∀j,rA (s.H.take E.nb) j=if j<E.nb then rA s.H j else .dead:=fun j=>by rw[bD,bD,iA,iA,hY];split<;>rfl
    have hlive:∀j,(rA (s.H.take E.nb) j).live→j<E.nb∧(rA s.H j).live:=fun j hl=>by
     rw[hbt]at hl;split at hl
     ·exact⟨by assumption,hl⟩
     ·exact hl.elim
    have hM:∀b,kA ρ' (rA (s.H.take E.nb)) b→kA ρ (rA s.H) b:=by rintro b ⟨j,n,C,hp,hl⟩;obtain⟨k1,k2⟩:=hlive j hl;rw[hρ' j k1]at hp;exact⟨j,n,C,hp,k2⟩
    have hMa:∀b,av S.F (kA ρ' (rA (s.H.take E.nb))) b→av S.F (kA ρ (rA s.H)) b:=fun b hb=>hb.imp id (hM b);refine⟨ρ',fun j hj=>?_,fun j hj=>?_,⟨?_,?_,?_,hr.heap.low,fun b hb=>hr.heap.out b (hM b hb)⟩,?_,⟨h4.size,h4.same,fun b hb=>h4.sub b (hM b hb),h4.keeps⟩⟩
    ·rw[hρ' j (by omega)];exact h2 j (by omega)
    ·have:¬j<E.nb:=by simp[List.length_take]at hj;omega
     exact if_neg this
    ·intro j p hp;simp only[ρ']at hp;split at hp
     ·exact hr.heap.wf _ _ hp
     ·cases hp
    ·intro j hl;obtain⟨k1,k2⟩:=hlive j hl;obtain⟨p,hp,hb⟩:=hr.heap.rel j k2;refine⟨p,by rw[hρ' j k1];exact hp,?_⟩;rw[hbt,if_pos k1];refine qB.avoid hMa (hb.agree (fun i hi p hp=>?_));have hin:rA s.H j∈s.H.take E.nb:=dQ (i:=j) (by rw[hY,if_pos k1];exact gK k2);rw[hρ' i (fL _ _ hok _ hin i hi)];exact hp
    ·intro i j b n C n' C' hi hj hpi hpj;obtain⟨k1,k2⟩:=hlive i hi;obtain⟨k3,k4⟩:=hlive j hj;rw[hρ' i k1]at hpi;rw[hρ' j k3]at hpj;exact hr.heap.inj i j b _ _ _ _ k2 k4 hpi hpj
    ·refine Ek (oK hr.heap hρ' hM ?_ _ _ _ _ hfz g1);rintro b ⟨j,n,C,hp,hl⟩ id n' C' hid hli hpi;obtain⟨k1,k2⟩:=hlive j hl;rw[hρ' j k1]at hp;have:=hr.heap.inj j id b _ _ _ _ k2 hli hp hpi;omega
end
def jv (P:Program)(body:Code)(Q:Exit→Act→World→Prop):Nat→Code→Act→World→Prop
 |0,_,_,_=>False
 |n+1,c,a,w=>c.wp P (fun e a' w'=>match e with
  | .goto l=>∃rest,findLabel body l=some rest∧jv P body Q n rest a' w'
  |e=>Q e a' w') a w
theorem wO {P:Program}{body:Code}{Q:Exit→Act→World→Prop}{a:Act}{w:World}(n:Nat)(h:jv P body Q n body a w):(Code.scope body).wp P Q a w:=by
 intro b k cs;have key:∀n c a w,jv P body Q n c a w→∃e a' w',Q e a' w'∧Arrives P (lone (b.at a (.code c:: .inScope body::k)) cs w) b k cs e a' w':=by
  intro n;induction n with
  |zero=>intro c a w h;exact h.elim
  |succ n ih=>
   intro c a w h;obtain⟨e,a₁,w₁,hq,harr⟩:=h b (.inScope body::k) cs;cases e with
   |normal=>exact⟨.normal,a₁,w₁,hq,Steps.trans harr (.one step_inScope)⟩
   |exit id=>exact⟨.exit id,a₁,w₁,hq,fun k' hk=>harr k' (by simp[exitTo,hk])⟩
   |goto l=>obtain⟨rest,hf,hp⟩:=hq;obtain⟨e₂,a₂,w₂,hq₂,harr₂⟩:=ih rest a₁ w₁ hp;exact⟨e₂,a₂,w₂,hq₂,.of_steps (harr _ (by simp[gotoIn,hf])) harr₂⟩
   |ret=>exact⟨_,a₁,w₁,hq,harr⟩
   |panic ch=>exact⟨_,a₁,w₁,hq,harr⟩
   |outgrown=>exact⟨_,a₁,w₁,hq,harr⟩
 obtain⟨e,a₁,w₁,hq,harr⟩:=key n body a w h;exact⟨e,a₁,w₁,hq,.of_steps (.one step_scope) harr⟩
theorem bL:∀(c:Code) (l:Nat) (rest:Code),findLabel c l=some rest→∀x∈dA rest,x∈dA c
 | .seq a b,l,rest,h,x,hx=>by
  simp only[findLabel]at h;split at h
  ·rename_i r hr;simp only[Option.some.injEq]at h;subst h;simp only[dA,zE]at hx⊢;exact hx.imp (bL a l r hr x) (fun y=>y)
  ·simp only[dA,zE];exact .inr (bL b l rest h x hx)
 | .label l',l,rest,h,x,hx=>by
  simp only[findLabel]at h;split at h
  ·simp only[Option.some.injEq]at h;subst h;simp[dA]at hx
  ·cases h
 | .skip,_,_,h,_,_=>by simp[findLabel]at h
 | .region ..,_,_,h,_,_=>by simp[findLabel]at h
 | .cond ..,_,_,h,_,_=>by simp[findLabel]at h
 | .block ..,_,_,h,_,_=>by simp[findLabel]at h
 | .loop ..,_,_,h,_,_=>by simp[findLabel]at h
 | .scope ..,_,_,h,_,_=>by simp[findLabel]at h
 | .exit ..,_,_,h,_,_=>by simp[findLabel]at h
 | .goto ..,_,_,h,_,_=>by simp[findLabel]at h
 | .ret,_,_,h,_,_=>by simp[findLabel]at h
 | .rangeFunc ..,_,_,h,_,_=>by simp[findLabel]at h
 | .refuse ..,_,_,h,_,_=>by simp[findLabel]at h
section
variable {P:Program}{fn:Func}{E:jC}
def Is (P:Program)(fn:Func)(E:jC)(S:cn):Ex→St→Exit→Act→World→Prop
 | .normal,s,x,a,w=>x= .normal∧rG E S s a w
 | .exit i,s,x,a,w=>x= .exit i∧rG E S s a w
 | .goto l,s,x,a,w=>x= .goto l∧rG E S s a w
 | .ret v bs,_,x,a,w=>x= .ret∧Hr P fn S v bs a w
def Ij (P:Program)(fn:Func)(E:jC)(c:Code)(s:St){R:Type}(k:Ex→St→Option R)(r:R):Prop:=
 ∀S a w,E.nb=S.bs.length→rG E S s a w→c.wp P (fun x a' w'=>∃ex s',k ex s'=some r∧Is P fn E S ex s' x a' w') a w
def gB (P:Program)(fn:Func)(E:jC):Code→Prop
 | .loop b=>∀e hd,E.cut (oD b)=some e→E.hint (oD b)=some hd→∀(R:Type) vs H (k:Ex→St→Option R) r,e.run vs H k=some r→Ij P fn E (.loop b) ⟨bC hd.keep vs,H⟩ k r
 | .scope b=>∀e hd,E.cut (1000000+oD b)=some e→E.hint (1000000+oD b)=some hd→∀(R:Type) vs H (k:Ex→St→Option R) r,e.run vs H k=some r→Ij P fn E (.scope b) ⟨bC hd.keep vs,H⟩ k r
 |_=>True
def sW (P:Program)(fn:Func)(E:jC)(c:Code)(f:{R:Type}→St→(Ex→St→Option R)→Option R):Prop:=
 ∀(R:Type) s (k:Ex→St→Option R) r,f s k=some r→Ij P fn E c s k r
theorem Aq {b:Code}{hd:xB}{f:{R:Type}→St→(Ex→St→Option R)→Option R}(hf:sW P fn E b f){R:Type}:∀(n:Nat) (vs:List V) (H:List sA) (k:Ex→St→Option R) (r:R),cB E.nb hd f n vs H k=some r→
  ∀S a w,E.nb=S.bs.length→rG E S ⟨bC hd.keep vs,H⟩ a w→Code.rounds P b (fun x a' w'=>∃ex s',k ex s'=some r∧Is P fn E S ex s' x a' w') n a w:=by
 intro n;induction n with
 |zero=>intro vs H k r h;cases h
 |succ n ih=>
  intro vs H k r h S a w hnb hI;unfold cB at h;rw[rounds_succ];refine wp_mono (hf R _ _ _ h S a w hnb hI) ?_;rintro x a' w' ⟨ex,s1,h1,h2⟩;cases ex with
  |normal=>
   obtain⟨rfl,hI'⟩:=h2;dsimp only at h1;split at h1
   ·rename_i vs' H' hn;exact ih _ _ _ _ h1 S a' w' hnb (mL hn hI')
   ·cases h1
  |ret v bs=>obtain⟨rfl,hI'⟩:=h2;exact⟨.ret v bs,.nil,h1,rfl,hI'⟩
  |exit i=>
   obtain⟨rfl,hI'⟩:=h2;dsimp only at h1;split at h1
   ·rename_i vs' H' hn;exact⟨.exit i,_,h1,rfl,mL hn hI'⟩
   ·cases h1
  |goto l=>
   obtain⟨rfl,hI'⟩:=h2;dsimp only at h1;split at h1
   ·rename_i vs' H' hn;exact⟨.goto l,_,h1,rfl,mL hn hI'⟩
   ·cases h1
theorem bO {b:Code}{hd:xB}{f:{R:Type}→St→(Ex→St→Option R)→Option R}(hf:sW P fn E b f){R:Type}{n:Nat}{vs:List V}{H:List sA}{k:Ex→St→Option R}{r:R}(h:cB E.nb hd f n vs H k=some r):
  Ij P fn E (.loop b) ⟨bC hd.keep vs,H⟩ k r:=fun S a w hnb hI=>wp_loop_rounds n (Aq hf n vs H k r h S a w hnb hI)
theorem tY {body:Code}{hd:xB}{f:{R:Type}→Code→St→(Ex→St→Option R)→Option R}(hf:∀c,(∀x∈dA c,x∈dA body)→sW P fn E c (fun s k=>f c s k)){R:Type}:∀(n:Nat) (c:Code) (vs:List V) (H:List sA) (k:Ex→St→Option R) (r:R),(∀x∈dA c,x∈dA body)→
  tN E.nb hd f body n c vs H k=some r→∀S a w,E.nb=S.bs.length→rG E S ⟨bC hd.keep vs,H⟩ a w→jv P body (fun x a' w'=>∃ex s',k ex s'=some r∧Is P fn E S ex s' x a' w') n c a w:=by
 intro n;induction n with
 |zero=>intro c vs H k r _ h;cases h
 |succ n ih=>
  intro c vs H k r hsub h S a w hnb hI;unfold tN at h;refine wp_mono (hf c hsub R _ _ _ h S a w hnb hI) ?_;rintro x a' w' ⟨ex,s1,h1,h2⟩;cases ex with
  |goto l=>
   obtain⟨rfl,hI'⟩:=h2;dsimp only at h1;split at h1
   ·rename_i rest hrest;split at h1
    ·rename_i vs' H' hn;exact⟨rest,hrest,ih rest _ _ _ _ (bL body l rest hrest) h1 S a' w' hnb (mL hn hI')⟩
    ·cases h1
   ·cases h1
  |ret v bs=>obtain⟨rfl,hI'⟩:=h2;exact⟨.ret v bs,.nil,h1,rfl,hI'⟩
  |normal=>
   obtain⟨rfl,hI'⟩:=h2;dsimp only at h1;split at h1
   ·rename_i vs' H' hn;exact⟨.normal,_,h1,rfl,mL hn hI'⟩
   ·cases h1
  |exit i=>
   obtain⟨rfl,hI'⟩:=h2;dsimp only at h1;split at h1
   ·rename_i vs' H' hn;exact⟨.exit i,_,h1,rfl,mL hn hI'⟩
   ·cases h1
theorem tl {R:Type}{n:Nat}{f:Nat→Option R}{r:R}(h:jY n f=some r):∀i,i<n→f i=some r:=by
 unfold jY at h;split at h
 ·rename_i hx;simp only[Option.some.injEq]at h;rw[←h];exact Classical.choose_spec hx.2
 ·cases h
theorem zZ {id:Nat}{ops:Array Oper}{it:Operand}{d1 d2:Nat}(hn:uo ops.toList=some (it,d1,d2))(h1:Nat.blt d1 E.ntmps=true)(h2:Nat.blt d2 E.ntmps=true){s:St}{R:Type}{k:St→Option R}{r:R}(hr:tu d1 d2 (It s.T it) s.T s.H k=some r):
  ∀S a w,rG E S s a w→(Code.region id ops false).wp P (fun x a' w'=>x= .normal∧∃s',k s'=some r∧rG E S s' a' w') a w:=by
 intro S a w hI;unfold uo at hn;split at hn
 ·rename_i l o1 o2 hops;split at hn
  ·rename_i it' t0 t d2' e1 e2 e3 e4 e5 e6;obtain⟨ht,hn⟩:=gA hn;have ht:=vB ht;subst ht;simp only[Option.some.injEq,Prod.mk.injEq]at hn;obtain⟨rfl,rfl,rfl⟩:=hn;obtain rfl:ops= #[o1,o2]:=by apply Array.ext';simpa using hops
   obtain⟨ρ,hrep,q1,q2,q3,q4⟩:=hI;unfold tu at hr;split at hr
   ·rename_i idd ext hit;split at hr
    ·rename_i mid xE rem cur hid;split at hr
     rotate_left
     ·cases hr
     rename_i kd n ks vs hmid;obtain⟨hcn,hr0⟩:=gA hr;clear hr;have hr:=hr0;clear hr0;have hcn:=vB hcn;have hev:=hrep.ev it';rw[←iw,hit]at hev;have hwanted:∀(o:Oper) (h:o.guard=none) (y:Nat→Option Bool),Region.wanted o y=true:=fun o h y=>by unfold Region.wanted;rw[h]
     have hl:idd<s.H.length:=by
      rcases hW idd s.H.length with h|h
      ·exact h
      ·have h0:s.H[idd]?=none:=aE h;rw[bD,iA,h0]at hid;cases hid
     have fin:∀(b:Bool) (v:Value) (w':World) (H':List sA),(Instr.next (a.eval it') false o1.type).run P w= .ok v w'→(Instr.extract v 0).run P w'= .ok (.bool b) w'→H'.length=s.H.length→
       mA S.F ρ (rA H') w'→vH (kA ρ (rA s.H)) w (kA ρ (rA H')) w'→k ⟨(d2',.c (.bool b))::(t,.poison)::s.T,H'⟩=some r→
       (Code.region id #[o1,o2] false).wp P (fun x a' w'=>x= .normal∧∃s',k s'=some r∧rG E S s' a' w') a w:=by
      intro b v w' H' hrun hext hlen hh he hk;have r1:mi E S.F ρ (kE s.T) (rA H') a w':=hrep.put (sO.refl _) hh he (d:=none) rfl (x:=.poison) (v:=.bool b) (by simp only[vA]);have r2:=r1.put (sO.refl _) hh (vH.refl _ _) (d:=some t) h1 (x:=.poison) (v:=v) (by simp only[vA]);have r3:=r2.put (sO.refl _) hh (vH.refl _ _) (d:=some d2') h2 (x:=.c (.bool b)) (v:=.bool b) (vA.of_c _);have hev1:(a.put (some t) v).eval (.tmp t)=v:=by
       have hlt:t<a.tmps.size:=by rw[hrep.size];exact fD h1
       simp only[Act.put,Act.eval];rw[cD,o0 hlt];rfl
      refine wp_region ?_;show wpOps P #[o1,o2] _ [0,1] a w;rw[wpOps_cons];unfold wpOp;simp only[x1,x0];rw[if_pos (hwanted o1 e3 _)];refine .inl ?_;unfold Oper.wp execOp;rw[e1];simp only[q0,hrun,y0,r0];rw[Oper.upon_value,e2,wpOps_cons];unfold wpOp;simp only[x1,x0,List.getElem?_cons_succ];rw[if_pos (hwanted o2 e6 _)];refine .inl ?_;unfold Oper.wp execOp;rw[e4];simp only[hev1,q0,hext,y0,r0];rw[Oper.upon_value,e5];refine⟨rfl,_,hk,ρ,?_,fun j hj=>q1 j (by dsimp only at hj;omega),q2,by dsimp only;omega,q4.trans he⟩;have e:kE ((d2',V.c (.bool b))::(t,.poison)::s.T)=tI (tI (kE s.T) (some t) .poison) (some d2') (.c (.bool b)):=by rw[←aT,←aT];rfl
      dsimp only;rw[e];exact r3
     rcases Gw (P:=P) hrep.heap hev hid hmid hcn o1.type with⟨hr0,hrun⟩|⟨p,u1,u2,w',hp,hrun,hh,he⟩
     ·subst hr0;simp only[List.isEmpty_nil,cond_true]at hr;exact fin false _ w s.H hrun (by simp[Instr.extract]) rfl hrep.heap (vH.refl _ _) hr
     ·have hne:rem.isEmpty=false:=by cases rem with
       |nil=>simp at hp
       |cons=>rfl
      simp only[hne,cond_false]at hr;have hk:=tl hr p hp;have hb:rA (xD s.H idd (.it (some mid) xE (rem.eraseIdx p) (rem.getD p 0)))=nB (rA s.H) idd (.it (some mid) xE (rem.eraseIdx p) (rem.getD p 0)):=iU _ _ _ hl;exact fin true _ w' _ hrun (by simp[Instr.extract]) (hF _ _ _) (by rw[hb];exact hh) (by rw[hb];exact he) hk
    ·cases hr
   ·cases hr
  ·cases hn
 ·cases hn
theorem kH (hE:yA P E)(hmix:P.follows .mixedOrders=true)(hres:E.res=fn.results.toList):∀(d:Nat) (c:Code),(∀b∈dA c,gB P fn E b)→sW P fn E c (fun s k=>aB E d c s k):=by
 intro d;induction d with
 |zero=>intro c _ R s k r h;cases h
 |succ d ih=>
  intro c hcut R s k r h S a w hnb hI;dsimp only at h;unfold aB at h;cases c with
  |skip=>exact wp_skip ⟨.normal,s,h,rfl,hI⟩
  |label l=>exact wp_label ⟨.normal,s,h,rfl,hI⟩
  |exit id=>exact wp_exit ⟨.exit id,s,h,rfl,hI⟩
  |goto l=>exact wp_goto ⟨.goto l,s,h,rfl,hI⟩
  |rangeFunc=>cases h
  |refuse=>cases h
  |ret=>
   dsimp only at h;split at h
   ·rename_i v bs hf;exact wp_ret ⟨.ret v bs,.nil,h,rfl,Dc hE.ty hres hnb hf hI⟩
   ·cases h
  |region id ops draw=>
   dsimp only at h;split at h
   ·rename_i it d1 d2 hn;obtain⟨hg,h'⟩:=gA h;clear h;obtain⟨hd,hg⟩:=wB hg;obtain⟨hd1,hd2⟩:=wB hg;have hd:draw=false:=by simpa using hd
    subst hd;refine wp_mono (zZ hn hd1 hd2 h' S a w hI) ?_;rintro x a' w' ⟨rfl,s',hk,hI'⟩;exact⟨.normal,s',hk,rfl,hI'⟩
   ·obtain⟨s',h1,h2,h3⟩:=Bn (id:=id) hE hmix h;obtain⟨ρ,r1,r2,r3,r4,r5⟩:=hI;refine h3 S.F ρ a w _ r1 r2 (fun ρ' a' w' q1 q2 q3 q4=>⟨.normal,s',h1,rfl,ρ',q1,q2,fun j hj=>by rw[q3 j (by omega)];exact r3 j hj,by omega,r5.trans q4⟩)
  |seq x y=>
   refine wp_seq (wp_mono (ih x (fun b hb=>hcut b (by simp[dA,hb])) R _ _ _ h S a w hnb hI) ?_);rintro e a' w' ⟨ex,s1,h1,h2⟩;cases ex with
   |normal=>obtain⟨rfl,hI'⟩:=h2;exact ih y (fun b hb=>hcut b (by simp[dA,hb])) R _ _ _ h1 S a' w' hnb hI'
   |ret v bs=>obtain⟨rfl,hI'⟩:=h2;exact⟨.ret v bs,s1,h1,rfl,hI'⟩
   |exit i=>obtain⟨rfl,hI'⟩:=h2;exact⟨.exit i,s1,h1,rfl,hI'⟩
   |goto l=>obtain⟨rfl,hI'⟩:=h2;exact⟨.goto l,s1,h1,rfl,hI'⟩
  |cond c x y=>
   dsimp only at h;split at h
   ·rename_i b hb;rw[iw]at hb;have hev:a.eval c= .bool b:=by
     obtain⟨ρ,r1,_⟩:=hI;have:=r1.ev c;rw[hb]at this;simpa only[vA]using this
    cases b<;>simp only[cond_true,cond_false]at h
    ·exact wp_cond_false hev (ih y (fun b hb=>hcut b (by simp[dA,hb])) R _ _ _ h S a w hnb hI)
    ·exact wp_cond_true hev (ih x (fun b hb=>hcut b (by simp[dA,hb])) R _ _ _ h S a w hnb hI)
   ·cases h
  |block id b=>
   refine wp_block (wp_mono (ih b (fun x hx=>hcut x (by simpa[dA]using hx)) R _ _ _ h S a w hnb hI) ?_);rintro e a' w' ⟨ex,s1,h1,h2⟩;cases ex with
   |normal=>obtain⟨rfl,hI'⟩:=h2;exact⟨.normal,s1,h1,rfl,hI'⟩
   |ret v bs=>obtain⟨rfl,hI'⟩:=h2;exact⟨.ret v bs,s1,h1,rfl,hI'⟩
   |goto l=>obtain⟨rfl,hI'⟩:=h2;exact⟨.goto l,s1,h1,rfl,hI'⟩
   |exit i=>
    obtain⟨rfl,hI'⟩:=h2;dsimp only at h1;simp only[Exit.inBlock];cases hb:Nat.beq i id<;>rw[hb]at h1<;>simp only[cond_true,cond_false]at h1
    ·rw[if_neg (fun e=>by subst e;simp at hb)];exact⟨.exit i,s1,h1,rfl,hI'⟩
    ·rw[if_pos (vB hb)];exact⟨.normal,s1,h1,rfl,hI'⟩
  |loop b=>
   dsimp only at h;split at h
   ·cases h
   ·rename_i hd hhd;split at h
    ·cases h
    ·rename_i vs H hn;have key:Ij P fn E (.loop b) ⟨bC hd.keep vs,H⟩ k r:=by
      split at h
      ·rename_i e he;exact hcut (.loop b) (by simp[dA]) e hd he hhd R vs H k r h
      ·exact bO (ih b (fun x hx=>hcut x (by simp[dA,hx]))) h
     exact key S a w hnb (mL hn hI)
  |scope b=>
   dsimp only at h;cases hj:qR b 0<;>rw[hj]at h<;>simp only[cond_true,cond_false]at h
   ·refine wp_scope_straight (wp_mono (ih b (fun x hx=>hcut x (by simp[dA,hx])) R _ _ _ h S a w hnb hI) ?_);rintro e a' w' ⟨ex,s1,h1,h2⟩;cases ex with
    |goto l=>cases h1
    |normal=>obtain⟨rfl,hI'⟩:=h2;exact⟨.normal,s1,h1,rfl,hI'⟩
    |ret v bs=>obtain⟨rfl,hI'⟩:=h2;exact⟨.ret v bs,s1,h1,rfl,hI'⟩
    |exit i=>obtain⟨rfl,hI'⟩:=h2;exact⟨.exit i,s1,h1,rfl,hI'⟩
   ·split at h
    ·cases h
    ·rename_i hd hhd;split at h
     ·cases h
     ·rename_i vs H hn;have key:Ij P fn E (.scope b) ⟨bC hd.keep vs,H⟩ k r:=by
       split at h
       ·rename_i e he;exact hcut (.scope b) (by simp[dA]) e hd he hhd R vs H k r h
       ·exact fun S a w hnb hI=>wO E.N (tY (f:=fun c s k=>aB E d c s k) (body:=b) (fun c hc=>ih c (fun x hx=>hcut x (by simp[dA,hc x hx]))) E.N b vs H k r (fun _ hx=>hx) h S a w hnb hI)
      exact key S a w hnb (mL hn hI)
structure gj (P:Program)(f:Nat)(args:List V)(bs:List sA){R:Type}(k:V→List sA→Option R)(r:R):Prop where
 callable:cP P f
 calls:∀F ρ w args',mA F ρ (rA bs) w→(∀id,bs.length≤id→ρ id=none)→lA ρ (av F (kA ρ (rA bs))) w args args'→
  Calls P f args'.toArray w fun e w'=>∃v bs' v',k v bs'=some r∧e= .returned v'∧cU F ρ bs w v bs' v' w'
theorem gj.of {f:Nat}{args:List V}{bs:List sA}{R:Type}{k:V→List sA→Option R}{r:R}(h:gj P f args bs k r){v0:V}{bs0:List sA}(hk:∀v bs',k v bs'=some r→v=v0∧bs'=bs0):eA P f args bs v0 bs0:=
 ⟨h.callable,fun F ρ w args' hH hn hr=>(h.calls F ρ w args' hH hn hr).mono fun e w' ⟨v,bs',v',h1,h2,h3⟩=>by obtain⟨rfl,rfl⟩:=hk v bs' h1;exact⟨v',h2,h3⟩⟩
theorem qY (hE:yA P E)(hmix:P.follows .mixedOrders=true){f:Nat}{body:Code}(hf:P.funcs[f]?=some fn)(hb:fn.body=some body)(hname:(fn.name== "runtime.NumGoroutine")=false)(hres:E.res=fn.results.toList)(hnt:E.ntmps=fn.ntmps)
  {args:List V}{bs:List sA}(hnb:E.nb=bs.length)(hargs:args.length≤fn.ntmps)(hcut:∀b∈dA body,gB P fn E b){R:Type}{k:V→List sA→Option R}{r:R}(h:bB E body args bs k=some r):
  gj P f args bs k r:=by
 refine⟨⟨fn,hf,by rw[hb];rfl,hname⟩,?_⟩;intro F ρ w args' hH hn hr;refine calls_of_wp hf hb ?_;unfold bB at h;have hlen:=hr.length;have hI:rG E ⟨F,ρ,bs,w⟩ ⟨pP 0 args,bs⟩ {tmps:=args'.toArray++Array.replicate (fn.ntmps-args'.toArray.size) undef,defers:=[]} w:=by
  refine⟨ρ,⟨hH,fun t=>?_,?_,rfl⟩,hn,fun _ _=>rfl,by dsimp only;omega,vH.refl _ _⟩
  ·have:=oP args args' 0 t ρ _ w undef hr;have e:(if 0≤t∧t<0+args'.length then args'.getD (t-0) undef else undef)=Act.eval {tmps:=args'.toArray++Array.replicate (fn.ntmps-args'.toArray.size) undef,defers:=[]} (.tmp t):=by
    simp only[Act.eval,cD,Array.getElem?_append,List.size_toArray,x1,y3];by_cases ht:t<args'.length
    ·rw[if_pos (by omega),if_pos ht];simp[iA]
    ·rw[if_neg (by omega),if_neg ht];split<;>rfl
   rw[←e];exact this
  ·simp only[Array.size_append,List.size_toArray,Array.size_replicate,hnt];omega
 refine wp_mono (kH hE hmix hres Hu body hcut R _ _ _ h ⟨F,ρ,bs,w⟩ _ w hnb hI) ?_;rintro x a' w' ⟨ex,s',h1,hx⟩;cases ex with
 |normal=>
  obtain⟨rfl,hI'⟩:=hx;dsimp only at h1;split at h1
  ·rename_i v bs' hf;obtain⟨hd,u,hu,hp⟩:=Dc hE.ty hres hnb hf hI';exact⟨hd,u,hu,v,bs',u,h1,rfl,hp⟩
  ·cases h1
 |ret v bs'=>obtain⟨rfl,hd,u,hu,hp⟩:=hx;exact⟨hd,u,hu,v,bs',u,h1,rfl,hp⟩
 |exit i=>cases h1
 |goto l=>cases h1
theorem eA.of_freeze {f:Nat}{ss:List Sh}{args args2:List V}{v:V}{bs':List sA}(hz:xH 0 (fun _=>.dead) ss args=some args2)(h:eA P f args2 [] v bs'):eA P f args [] v bs':=by
 refine⟨h.callable,fun F ρ w args' hH hn hr=>h.calls F ρ w args' hH hn ?_⟩;have hd:rA []=fun _=>sA.dead:=by funext j;rfl
 rw[hd]at hH hr⊢;exact oK hH (fun i hi=>by omega) (fun b hb=>hb) (fun b hb=>by obtain⟨_,_,_,_,hl⟩:=hb;exact hl.elim) ss args args2 args' hz hr
end
theorem kD {P:Program}{t:Nat}{ti:TI}(hi:(P.info? t).isSome=true)(hs:((P.info? t).getD default).size=ti.size)(hb:((P.info? t).getD default).bytes=ti.bytes)(hz:((P.info? t).getD default).zero.isSome=true)
  (hc:(((P.info? t).getD default).zero.getD undef).cells.toList=ti.zero)(hl:ti.zero.length=ti.size)(ho:(ti.isAgg||Nat.beq ti.size 1)=true)(hk:yE P t ti.tk)(he:(!ti.isAgg||(!P.stoodInHeld t&& !P.eqGuardType P.depth t))=true):aD P t ti:=by
 cases h:P.info? t with
 |none=>rw[h]at hi;cases hi
 |some i=>
  rw[h]at hs hb hz hc;simp only[k0]at hs hb hz hc;cases h2:i.zero with
  |none=>rw[h2]at hz;cases hz
  |some z=>
   rw[h2]at hc;simp only[k0]at hc;refine⟨⟨i,h,hs,hb,z,h2,hc⟩,hl,fun ha=>?_,hk,fun ha=>?_⟩
   ·rw[ha]at ho;exact vB ho
   ·rw[ha]at he;simpa using he
theorem qH {P:Program}{t:Nat}{fields:Array Field}{fs:List (Nat×Nat)}(h1:P.underlying t=some (.struct fields))(h2:fields.toList.map (fun f=>(f.type,f.offset))=fs)(h3:fields.toList.all (fun f=>!(f.name== "_"))=true):yE P t (.struct fs):=
 ⟨fields,h1,h2,fun f hf=>by rw[yK]at h3;have:=h3 f hf;simpa using this⟩
def ya (P:Program)(e:Nat):Bool:=match P.info? e with
 |some i=>(match i.zero with|some z=>o7 z|none=>false)
 |none=>false
theorem Fm {P:Program}{t k e:Nat}(h1:P.underlying t=some (.map k e))(h2:ya P e=true):yE P t (.map k e):=by
 unfold ya at h2;split at h2
 ·rename_i i hi;split at h2
  ·rename_i z hz;exact⟨h1,i,z,hi,hz,h2⟩
  ·cases h2
 ·cases h2
theorem bF.nil {P:Program}:bF P (fJ []):=fun _ _ h=>by cases h
theorem bF.cons {P:Program}{t:Nat}{ti:TI}{l:List (Nat×TI)}(h:aD P t ti)(r:bF P (fJ l)):bF P (fJ ((t,ti)::l)):=by
 intro t' ti' ht;simp only[fJ]at ht;cases hb:Nat.beq t t'<;>rw[hb]at ht<;>simp only[cond_true,cond_false]at ht
 ·exact r t' ti' ht
 ·have:=vB hb;subst this;simp only[Option.some.injEq]at ht;subst ht;exact h
def oA (P:Program)(f:Nat)(e:uA):Prop:=∀args bs a enc,e.dec args bs=some (some a,enc)→eA P f args bs (enc a).pick.1 (enc a).pick.2
theorem dP.nil {P:Program}:dP P (fJ []):=fun _ _ h=>by cases h
theorem dP.cons {P:Program}{f:Nat}{e:uA}{l:List (Nat×uA)}(h:oA P f e)(r:dP P (fJ l)):dP P (fJ ((f,e)::l)):=by
 intro f' e' ht;simp only[fJ]at ht;cases hb:Nat.beq f f'<;>rw[hb]at ht<;>simp only[cond_true,cond_false]at ht
 ·exact r f' e' ht
 ·have:=vB hb;subst this;simp only[Option.some.injEq]at ht;subst ht;exact h
def cA (P:Program)(fn:Func)(E:jC)(l:List Code):Prop:=∀b∈l,gB P fn E b
theorem cA.nil {P:Program}{fn:Func}{E:jC}:cA P fn E []:=fun _ h=>by cases h
theorem cA.cons {P:Program}{fn:Func}{E:jC}{c:Code}{l:List Code}(h:gB P fn E c)(r:cA P fn E l):cA P fn E (c::l):=fun b hb=>by
 rcases hC.mp hb with rfl|hb
 ·exact h
 ·exact r b hb
theorem cA.of {P:Program}{fn:Func}{E:jC}{l l':List Code}(he:l'=l)(h:cA P fn E l):cA P fn E l':=he▸h
theorem kQ {P:Program}{fn:Func}{E:jC}{b:Code}(h:(E.cut (1000000+oD b)).isNone=true):gB P fn E (.scope b):=fun e hd he=>by rw[he]at h;cases h
def Io (h:Nat→sA):V→V
 | .sw id s=>(match h id with
  | .ints _ l=>.sl id s 0 (xE s l.length)
  |_=>.sw id s)
 |v=>v
def fG (h:Nat→sA):List Bool→List V→List V
 |true::bs,v::r=>Io h v::fG h bs r
 |false::bs,v::r=>v::fG h bs r
 |_,vs=>vs
theorem Gb {F:Nat→Prop}{ρ:vD}{h:Nat→sA}{w:World}(hh:mA F ρ h w){v:V}{u:Value}(hr:vA ρ (av F (kA ρ h)) w v u):vA ρ (av F (kA ρ h)) w (Io h v) u:=by
 unfold Io;split
 ·rename_i id s;split
  ·rename_i k l hid;obtain⟨h0,⟨b,n,C,cap,c,h1,h2,h3,h4,h5,ho,hsz,hold⟩|⟨h1,h2,hk⟩⟩:=yF hh hr (by rw[hid];trivial) (by rw[hid];trivial)
   ·rw[hid]at hold;obtain⟨e1,e2,e3⟩:=hold;simp only[vA];have hn:n/s*s=n:=Nat.div_mul_cancel (n5 h2);refine⟨h0,.inl ⟨b,n,C,cap,h1,?_,?_,by omega,?_⟩⟩
    ·rw[qE,e1];omega
    ·rw[qE,e1];exact h3
    ·rw[qE,e1];exact h5
   ·rw[hid]at hk;rcases hk with⟨k2,hk⟩|hk|⟨_,_,hk⟩<;>cases hk;simp only[vA];exact⟨h0,.inr ⟨by rw[qE];simp,none,h2⟩⟩
  ·exact hr
 ·exact hr
theorem bY {F:Nat→Prop}{ρ:vD}{h:Nat→sA}{w:World}(hh:mA F ρ h w):∀(bs:List Bool) (vs:List V) (us:List Value),lA ρ (av F (kA ρ h)) w vs us→lA ρ (av F (kA ρ h)) w (fG h bs vs) us
 |true::bs,v::r,[],hr=>by simp only[lA]at hr
 |true::bs,v::r,u::us,hr=>by simp only[lA,fG]at hr⊢;exact⟨Gb hh hr.1,bY hh bs r us hr.2⟩
 |false::bs,v::r,[],hr=>by simp only[lA]at hr
 |false::bs,v::r,u::us,hr=>by simp only[lA,fG]at hr⊢;exact⟨hr.1,bY hh bs r us hr.2⟩
 | [],vs,us,hr=>by simpa only[fG]using hr
 |_::_,[],us,hr=>by simpa only[fG]using hr
theorem eA.of_asSl {P:Program}{f:Nat}{fl:List Bool}{args:List V}{bs:List sA}{v:V}{bs':List sA}(h:eA P f (fG (rA bs) fl args) bs v bs'):eA P f args bs v bs':=
 ⟨h.callable,fun F ρ w args' hH hn hr=>h.calls F ρ w args' hH hn (bY hH fl args args' hr)⟩
theorem cU.kill {F:Nat→Prop}{ρ:vD}{bs:List sA}{w:World}{v:V}{bs':List sA}{v':Value}{w':World}(h:cU F ρ bs w v bs' v' w'):cU F ρ bs w v (List.replicate bs'.length .dead) v' w':=by
 obtain⟨ρ',h1,h2,h3,h4,h5⟩:=h;have hd:∀id,¬(rA (List.replicate bs'.length sA.dead) id).live:=fun id hl=>by rw[bD,iA,w4]at hl;split at hl<;>exact hl
 have hM:∀b,kA ρ' (rA (List.replicate bs'.length sA.dead)) b→kA ρ' (rA bs') b:=by rintro b ⟨id,n,C,_,hl⟩;exact absurd hl (hd id)
 exact⟨ρ',h1,fun id hid=>h2 id (by simpa using hid),⟨h3.wf,fun id hl=>absurd hl (hd id),fun i j b n C n' C' hi=>absurd hi (hd i),h3.low,fun b hb=>h3.out b (hM b hb)⟩,vA.avoid (fun b hb=>hb.imp id (hM b)) _ _ h4,⟨h5.size,h5.same,fun b hb=>h5.sub b (hM b hb),h5.keeps⟩⟩
theorem F7 {P:Program}{fn:Func}{E:jC}(hE:yA P E)(hmix:P.follows .mixedOrders=true)(hres:E.res=fn.results.toList){d:Nat}{b:Code}{hd:xB}(hcut:cA P fn E (dA b)){R:Type}{n:Nat}{vs:List V}{H:List sA}{k:Ex→St→Option R}{r:R}
  (h:tN E.nb hd (fun c s k=>aB E d c s k) b n b vs H k=some r):Ij P fn E (.scope b) ⟨bC hd.keep vs,H⟩ k r:=
 fun S a w hnb hI=>wO n (tY (f:=fun c s k=>aB E d c s k) (body:=b) (fun c hc=>kH hE hmix hres d c (fun x hx=>hcut x (hc x hx))) n b vs H k r (fun _ hx=>hx) h S a w hnb hI)
theorem yB {P:Program}{fn:Func}{E:jC}(hE:yA P E)(hmix:P.follows .mixedOrders=true)(d:Nat){b:Code}{c:gF}{h:xB}(hcut:cA P fn E (dA b))
  (H:∀(R:Type) vs Hh (k:Ex→St→Option R) r,c.run vs Hh k=some r→∃n,cB E.nb h (fun s k=>aB E d b s k) n vs Hh k=some r)(e1:E.cut (oD b)=some c:=by kernel_rfl)(e2:E.hint (oD b)=some h:=by kernel_rfl)(hres:E.res=fn.results.toList:=by kernel_rfl):gB P fn E (.loop b):=fun e hd he hh R vs Hh k r hr=>by
 rw[e1]at he;rw[e2]at hh;cases he;cases hh;obtain⟨n,hn⟩:=H R vs Hh k r hr;exact bO (kH hE hmix hres d b hcut) hn
def bo (f:Func):Code:=f.body.getD .skip
theorem pA {P:Program}{E:jC}{fn:Func}{n:Nat}{A:Type}(hE:yA P E)(hmix:P.follows .mixedOrders=true)(hf:P.funcs[n]?=some fn)(hcut:cA P fn E (dA (bo fn))){args:List V}{bs:List sA}{dec:V→List sA→Option A}{r:A}
  (h:bB E (bo fn) args bs dec=some r){v0:V}{b0:List sA}(hd:∀v bs',dec v bs'=some r→v=v0∧bs'=b0)(h1:fn.body=some (bo fn):=by kernel_rfl)(h2:(fn.name== "runtime.NumGoroutine")=false:=by kernel_rfl)(h3:E.ntmps=fn.ntmps:=by kernel_rfl)(h4:E.nb=bs.length:=by kernel_rfl)
  (h5:Nat.ble args.length fn.ntmps=true:=by kernel_rfl)(hres:E.res=fn.results.toList:=by kernel_rfl):eA P n args bs v0 b0:=
 (qY hE hmix hf h1 h2 hres h3 h4 (Nat.le_of_ble_eq_true h5) hcut h).of hd
def wD (A:Type)(fresh:Nat)(imm:List Bool)(ss:List Sh)(sel:List V→Option (Option A×(A→xc))):uA:=
 {A:=A,fresh:=fresh,imm:=imm,dec:=fun args bs=>match xH 0 (fun _=>.dead) ss args,bs with
  |some a,[]=>sel a
  |_,_=>none}
theorem qA {P:Program}{f:Nat}{A:Type}{fresh:Nat}{imm:List Bool}{ss:List Sh}{sel:List V→Option (Option A×(A→xc))}(H:∀args a enc,sel args=some (some a,enc)→eA P f args [] (enc a).pick.1 (enc a).pick.2):oA P f (wD A fresh imm ss sel):=by
 intro args bs a enc h;simp only[wD]at h;split at h
 ·rename_i hz;exact eA.of_freeze hz (H _ _ _ h)
 ·cases h
theorem mB {A:Type}{x:Option A}{g enc:A→xc}{a:A}{Q:(A→xc)→Prop}(h:some (x,g)=some (some a,enc))(H:x=some a→Q g):Q enc:=by
 have h0:=Option.some.inj h;have h1:=congrArg Prod.fst h0;have h2:=congrArg Prod.snd h0;dsimp only at h1 h2;subst h2;exact H h1
def iD (ty:List (Nat×TI))(tab:List (Nat×uA))(hint:List (Nat×xB))(cut:List (Nat×gF))(N:Nat)(res:List ResultVar)(rsh:List Sh)(nb ntmps:Nat)(own:Bool:=false)(bsh:List (Nat×List Sh):=[]):jC:=
 {ty:=fJ ty,tab:=fJ tab,hint:=fJ hint,cut:=fJ cut,N:=N,res:=res,rsh:=rsh,nb:=nb,ntmps:=ntmps,own:=own,bsh:=bsh}
theorem cA.n {P:Program}{fn:Func}{E:jC}{l:List Code}(h:l=[]:=by kernel_rfl):cA P fn E l:=cA.of h cA.nil
end Go.Proofs.YtjpdjdhdchjcgaaGreat.Ev
