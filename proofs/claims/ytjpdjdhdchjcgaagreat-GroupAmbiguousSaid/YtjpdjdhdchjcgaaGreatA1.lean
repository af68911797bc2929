import Derived.Test.YtjpdjdhdchjcgaaGreatA0
import Derived.Orders
import Derived.LoopN
import Derived.Scope
import Derived.KernelRfl
open List renaming getD_eq_getElem?_getD→iA,getElem?_singleton→zA,getElem?_append→zB,mem_cons→hC,getElem?_eq_getElem→hD,getElem?_eq_none→aE,mem_append→zE,getElem?_append_left→hG,map_cons→xK,all_eq_true→yK,getElem?_eq_some_iff→hN,getElem?_append_right→hP,mem_of_getElem?→dQ,map_congr_left→sS,length_cons→hU,mem_filter→hX,append_assoc→iX,getElem?_take→hY,getElem?_map→e0,cons_append→j0,mem_range→u0,getElem?_cons_zero→x0,not_mem_nil→j1,getElem?_toArray→x1,mem_append_right→y1,singleton_append→z1,mem_append_left→j2,mem_cons_of_mem→x2,nodup_cons→y2,pairwise_append→c3,filter_eq_self→j3,mem_map_of_mem→n3,getElem?_drop→u3,pairwise_cons→w3,reverse_cons→x3,any_eq_true→c4,getElem?_take_of_lt→l4,map_map→n4,mem_map→o4,getElem?_replicate→w4,append_nil→y4,map_append→b5,range_succ_eq_map→c5,sublist_cons_self→l5,getElem?_range→u5
open Bool renaming and_eq_true→iB,not_eq_true'→c0,or_eq_true→x4
open Array renaming getD_eq_getD_getElem?→cD,getElem?_eq_some_iff→n0,getElem?_setIfInBounds_self_of_lt→o0,getElem?_replicate→y3,toArray_toList→s5
open Nat renaming lt_or_ge→hW,mul_div_cancel→p0,zero_add→u4,dvd_of_mod_eq_zero→n5,le_refl→q5
open Option renaming getD_some→k0
open Go.Sem renaming run_bind→q0,run_pure→r0
open Go.Result renaming andThen_ok→y0
set_option linter.unusedVariables false
set_option linter.unusedSimpArgs false
namespace Go.Proofs.YtjpdjdhdchjcgaaGreat.Ev
section
variable {ty:Nat→Option TI}{nid:Nat}{h h':Nat→rA}
theorem wV {x:V}{k:IntKind}{s:Nat}{l:List Int}{t:List Nat}(hr:s7 h x=some (k,s,l,t))(ht:∀id∈t,h' id=h id):s7 h' x=some (k,s,l,t):=by
 cases x<;>simp only[s7]at hr⊢
 case sw id s'=>
  split at hr
  ·rename_i k' l' hid;simp only[Option.some.injEq,Prod.mk.injEq]at hr;obtain⟨rfl,rfl,rfl,rfl⟩:=hr;rw[ht id (by simp),hid]
  ·cases hr
 case sl id s' off len=>
  split at hr
  ·rename_i k' l' hid;simp only[Option.some.injEq,Prod.mk.injEq]at hr;obtain⟨rfl,rfl,rfl,rfl⟩:=hr;rw[ht id (by simp),hid]
  ·cases hr
 all_goals first|exact hr|cases hr
theorem ux {x:V}{s:Nat}{l:List V}{t:List Nat}(hr:ou h x=some (s,l,t))(ht:∀id∈t,h' id=h id):ou h' x=some (s,l,t):=by
 cases x<;>simp only[ou]at hr⊢
 case sw id s'=>
  split at hr
  ·rename_i l' hid;simp only[Option.some.injEq,Prod.mk.injEq]at hr;obtain⟨rfl,rfl,rfl⟩:=hr;rw[ht id (by simp),hid]
  ·cases hr
 all_goals first|exact hr|cases hr
theorem fZ {x:V}{n:Nat}{t:List Nat}(hr:uO h x=some (n,t))(ht:∀id∈t,h' id=h id):uO h' x=some (n,t):=by
 unfold uO at hr⊢;split at hr<;>first|exact hr|skip
 rename_i id s';split at hr
 all_goals first
  |cases hr;done
  |(simp only[Option.some.injEq,Prod.mk.injEq]at hr
    obtain⟨rfl,rfl⟩:=hr;rename_i hid
    try dsimp only
    rw[ht id (by simp),hid])
theorem cM {k:IntKind}{s:Nat}{x:V}{l:List Int}{t:List Nat}(hr:sJ h k s x=some (l,t))(ht:∀id∈t,h' id=h id):sJ h' k s x=some (l,t):=by
 unfold sJ at hr⊢;split at hr<;>first|exact hr|skip
 rename_i h1 h2;split at hr
 ·rename_i k' w' l' t' hq;obtain⟨a1,a2⟩:=gA hr;simp only[Option.some.injEq,Prod.mk.injEq]at a2;obtain⟨rfl,rfl⟩:=a2;rw[wV hq ht];simp only[a1,cond_true]
 ·cases hr
theorem zQ {s:Nat}{x:V}{l:List V}{t:List Nat}(hr:tJ h s x=some (l,t))(ht:∀id∈t,h' id=h id):tJ h' s x=some (l,t):=by
 unfold tJ at hr⊢;split at hr<;>first|exact hr|skip
 rename_i h1;split at hr
 ·rename_i w' l' t' hq;obtain⟨a1,a2⟩:=gA hr;simp only[Option.some.injEq,Prod.mk.injEq]at a2;obtain⟨rfl,rfl⟩:=a2;rw[ux hq ht];simp only[a1,cond_true]
 ·cases hr
theorem vV {x:V}{k:IntKind}{s:Nat}{l:List Int}{t:List Nat}(hr:dw h x=some (k,s,l,t))(ht:∀id∈t,h' id=h id):dw h' x=some (k,s,l,t):=by
 cases x<;>simp only[dw]at hr⊢
 case sw id s'=>
  split at hr
  ·rename_i k' l' hid;simp only[Option.some.injEq,Prod.mk.injEq]at hr;obtain⟨rfl,rfl,rfl,rfl⟩:=hr;rw[ht id (by simp),hid]
  ·cases hr
 all_goals first|exact hr|cases hr
theorem p9 {ti:TI}{d s:V}{b:Bool}{out:sH}(hr:fN ti h nid d s=some (b,out))(ht:∀id∈out.touch,h' id=h id):fN ti h' nid d s=some (b,out):=by
 unfold fN at hr;split at hr
 ·rename_i ids w1;split at hr
  ·rename_i e hids;split at hr
   ·rename_i k w l kl hrow;obtain⟨hg,hr2⟩:=gA hr;clear hr;unfold fN;dsimp only;split at hr2
    ·simp only[Option.some.injEq,Prod.mk.injEq]at hr2;obtain⟨rfl,rfl⟩:=hr2;simp only[hC]at ht;rw[ht ids (.inl rfl),hids];dsimp only;rw[vV hrow (fun id hid=>ht id (.inr hid))];dsimp only;rw[hg,cond_true]
    ·rename_i id w2;split at hr2
     ·rename_i k' w' jD hid;obtain⟨hq,hr3⟩:=gA hr2;simp only[Option.some.injEq,Prod.mk.injEq]at hr3;obtain⟨rfl,rfl⟩:=hr3;simp only[hC]at ht;rw[ht ids (.inr (.inl rfl)),hids];dsimp only;rw[vV hrow (fun id hid=>ht id (.inr (.inr hid)))];dsimp only;rw[hg,cond_true,ht id (.inl rfl),hid];dsimp only;rw[hq,cond_true]
     ·cases hr2
    ·cases hr2
   ·cases hr
  ·cases hr
 ·cases hr
theorem pQ {ti:TI}{d s:V}{b:Bool}{out:sH}(hr:gN ti h nid d s=some (b,out))(ht:∀id∈out.touch,h' id=h id):gN ti h' nid d s=some (b,out):=by
 unfold gN at hr⊢;cases hc:(!(Nat.blt 0 ti.bytes&&Nat.blt 0 ti.size))<;>rw[hc]at hr<;>simp only[cond_false,cond_true]at hr⊢
 ·split at hr
  ·rename_i k hk
   try rw[hk]
   try dsimp only
   split at hr
   ·cases hr
   ·rename_i src t hsrc;split at hr
    ·simp only[Option.some.injEq,Prod.mk.injEq]at hr;obtain⟨rfl,rfl⟩:=hr;rw[cM hsrc ht]
    ·rename_i id w';split at hr
     ·rename_i k' l hid;obtain⟨a1,a2⟩:=gA hr;simp only[Option.some.injEq,Prod.mk.injEq]at a2;obtain⟨rfl,rfl⟩:=a2;simp only[hC]at ht;rw[cM hsrc (fun id hid=>ht id (.inr hid))]
      try dsimp only
      rw[ht id (.inl rfl),hid];simp only[a1,cond_true]
     ·cases hr
    ·cases hr
  ·rename_i hk
   try rw[hk]
   try dsimp only
   cases hsl:ti.isSl<;>rw[hsl]at hr<;>simp only[cond_true,cond_false]at hr⊢
   rotate_left
   ·exact p9 hr ht
   split at hr
   ·cases hr
   ·rename_i src t hsrc;split at hr
    ·simp only[Option.some.injEq,Prod.mk.injEq]at hr;obtain⟨rfl,rfl⟩:=hr;rw[zQ hsrc ht]
    ·rename_i id w';split at hr
     ·rename_i l hid;obtain⟨a1,a2⟩:=gA hr;simp only[Option.some.injEq,Prod.mk.injEq]at a2;obtain⟨rfl,rfl⟩:=a2;simp only[hC]at ht;rw[zQ hsrc (fun id hid=>ht id (.inr hid))]
      try dsimp only
      rw[ht id (.inl rfl),hid];simp only[a1,cond_true]
     ·cases hr
    ·cases hr
 ·cases hr
theorem ln {ti:TI}{d s:V}{b:Bool}{out:sH}(hr:ll ti h d s=some (b,out))(ht:∀id∈out.touch,h' id=h id):ll ti h' d s=some (b,out):=by
 unfold ll at hr⊢;split at hr
 ·cases hr
 ·rename_i k hk
  try rw[hk]
  try dsimp only
  split at hr
  ·cases hr
  ·rename_i src t hsrc;split at hr
   ·rename_i id w';split at hr
    ·rename_i k' l hid;obtain⟨a1,a2⟩:=gA hr;simp only[Option.some.injEq,Prod.mk.injEq]at a2;obtain⟨rfl,rfl⟩:=a2;simp only[hC]at ht;rw[cM hsrc (fun id hid=>ht id (.inr hid))]
     try dsimp only
     rw[ht id (.inl rfl),hid];simp only[a1,cond_true]
    ·cases hr
   ·cases hr
theorem wX {b:Builtin}{ts:List Nat}{xs:List V}{ok:Bool}{out:sH}(hr:mM ty nid b ts xs h=some (ok,out))(ht:∀id∈out.touch,h' id=h id):mM ty nid b ts xs h'=some (ok,out):=by
 unfold mM at hr⊢;split at hr
 ·split at hr
  ·split at hr
   ·rename_i ti n tc hti hlen;obtain⟨a1,a2⟩:=gA hr;simp only[Option.some.injEq,Prod.mk.injEq]at a2;obtain⟨rfl,rfl⟩:=a2;simp only[hti,fZ hlen ht,a1,cond_true]
   ·cases hr
  ·cases hr
 ·exact hr
 ·exact hr
 ·split at hr
  ·split at hr
   ·rename_i e _ _ _ t2 hti ht2
    try simp only[hti,ht2]
    split at hr
    ·rename_i htk
     try simp only[htk]
     split at hr
     ·rename_i te hte
      try simp only[hte]
      exact pQ hr ht
     ·cases hr
    ·rename_i htk
     try simp only[htk]
     split at hr
     ·rename_i te hte
      try simp only[hte]
      exact pQ hr ht
     ·cases hr
    ·cases hr
   ·cases hr
  ·cases hr
 ·split at hr
  ·split at hr
   ·rename_i e _ _ _ hti
    try simp only[hti]
    split at hr
    ·rename_i te hte
     try simp only[hte]
     exact ln hr ht
    ·cases hr
   ·cases hr
  ·cases hr
 ·cases hr
theorem u9 {t:Nat}{x i:V}{ok:Bool}{out:sH}(hr:gQ ty t x i h=some (ok,out))(ht:∀id∈out.touch,h' id=h id):gQ ty t x i h'=some (ok,out):=by
 unfold gQ at hr⊢;split at hr
 ·rename_i e _ _ _ hti
  try simp only[hti]
  split at hr
  ·cases hr
  ·rename_i te hte
   try simp only[hte]
   split at hr
   ·rename_i id w';obtain⟨a1,a2⟩:=gA hr;split at a2
    all_goals first
     |cases a2;done
     |(rename_i hid
       simp only[Option.some.injEq,Prod.mk.injEq]at a2;obtain⟨rfl,rfl⟩:=a2;simp only[hC,j1,or_false]at ht;simp only[a1,cond_true,ht id rfl,hid])
   all_goals exact hr
 ·exact hr
 ·cases hr
theorem jl {t:Nat}{x:V}{lo hi mx:Option V}{ok:Bool}{out:sH}(hr:wU ty t x lo hi mx h=some (ok,out))(ht:∀id∈out.touch,h' id=h id):wU ty t x lo hi mx h'=some (ok,out):=by
 unfold wU at hr⊢;split at hr
 ·cases hr
 ·rename_i ti hti
  try simp only[hti]
  cases hc:(hi.isNone&&mx.isSome)<;>simp only[hc,cond_true,cond_false]at hr⊢
  ·split at hr
   ·rename_i hlen;split at hr
    ·rename_i htk;simp only[uO]
     try simp only[htk]
     exact hr
    ·cases hr
   ·rename_i len tc hlen;split at hr
    ·rename_i l h1 m hl hh1 hm;split at hr
     ·rename_i s htk;simp only[uO]at hlen⊢;simp only[Option.some.injEq,Prod.mk.injEq]at hlen;obtain⟨rfl,rfl⟩:=hlen;simp only[hl,hh1,hm,htk];exact hr
     ·rename_i e id w' htk;split at hr
      ·rename_i te hte;obtain⟨a1,a2⟩:=gA hr;simp only[Option.some.injEq,Prod.mk.injEq]at a2;obtain⟨rfl,rfl⟩:=a2;simp only[fZ hlen ht,hl,hh1,hm,htk,hte,a1,cond_true]
      ·cases hr
     ·rename_i e id w' off _ htk;simp only[uO]at hlen⊢;simp only[Option.some.injEq,Prod.mk.injEq]at hlen;obtain⟨rfl,rfl⟩:=hlen;simp only[hl,hh1,hm,htk];exact hr
     ·rename_i e k w' l0 htk;simp only[uO]at hlen⊢;simp only[Option.some.injEq,Prod.mk.injEq]at hlen;obtain⟨rfl,rfl⟩:=hlen;simp only[hl,hh1,hm,htk];exact hr
     ·rename_i e htk;simp only[uO]at hlen⊢;simp only[Option.some.injEq,Prod.mk.injEq]at hlen;obtain⟨rfl,rfl⟩:=hlen;simp only[hl,hh1,hm,htk];exact hr
     ·cases hr
    ·cases hr
  ·cases hr
theorem lk {s d:Nat}{x:V}{ok:Bool}{out:sH}(hr:bj ty nid s d x h=some (ok,out))(ht:∀id∈out.touch,h' id=h id):bj ty nid s d x h'=some (ok,out):=by
 unfold bj at hr⊢;split at hr
 ·rename_i ts td hts htd
  try simp only[hts,htd]
  split at hr
  ·rename_i htk;try simp only[htk]
   exact hr
  ·rename_i htk;try simp only[htk]
   exact hr
  ·rename_i htk;try simp only[htk]
   exact hr
  ·rename_i htk;try simp only[htk]
   exact hr
  ·rename_i htk _ _;split at hr
   ·rename_i e hts2;split at hr
    ·rename_i w' l t hte hrow;obtain⟨a1,a2⟩:=gA hr;simp only[Option.some.injEq,Prod.mk.injEq]at a2;obtain⟨rfl,rfl⟩:=a2;have hrow':=wV hrow ht;simp only[hts2,hte,hrow',a1,cond_true]
    ·cases hr
   ·cases hr
  ·cases hr
 ·cases hr
theorem na {ti:TI}{a:V}{ok:Bool}{out:sH}(hr:rS ti a h=some (ok,out))(ht:∀id∈out.touch,h' id=h id):rS ti a h'=some (ok,out):=by
 unfold rS at hr⊢;split at hr
 ·rename_i id off ext;obtain⟨a1,a2⟩:=gA hr;split at a2
  ·rename_i v hv;simp only[Option.some.injEq,Prod.mk.injEq]at a2;obtain⟨rfl,rfl⟩:=a2;simp only[hC,j1,or_false]at ht;simp only[a1,cond_true,ht id rfl,hv]
  ·cases a2
 ·exact hr
 ·exact hr
 ·cases hr
theorem ag {t:Nat}{m i:V}{c ok:Bool}{out:sH}(hr:qJ ty t m i c h=some (ok,out))(ht:∀id∈out.touch,h' id=h id):qJ ty t m i c h'=some (ok,out):=by
 unfold qJ at hr⊢;split at hr
 ·rename_i kt et s0 b0 z0 id hti;split at hr
  ·rename_i k n ks vs tk te hid htk hte;have key:h' id=h id:=by
    refine ht id ?_;split at hr
    ·obtain⟨_,a2⟩:=gA hr;simp only[Option.some.injEq,Prod.mk.injEq]at a2;obtain⟨_,rfl⟩:=a2;simp
    ·cases hr
   simp only[key,hid];simp only[hti,htk,hte];exact hr
  ·cases hr
 ·cases hr
theorem jh {t:Nat}{m:V}{ok:Bool}{out:sH}(hr:sU ty nid t m h=some (ok,out))(ht:∀id∈out.touch,h' id=h id):sU ty nid t m h'=some (ok,out):=by
 unfold sU at hr⊢;split at hr
 ·rename_i kt et s0 b0 z0 id hti;split at hr
  ·rename_i k n ks vs hid;simp only[Option.some.injEq,Prod.mk.injEq]at hr;obtain⟨rfl,rfl⟩:=hr;have key:h' id=h id:=ht id (by simp);simp only[key,hid,hti]
  ·cases hr
 ·cases hr
theorem gf {m:V}{ok:Bool}{out:sH}(hr:bU m h=some (ok,out))(ht:∀id∈out.touch,h' id=h id):bU m h'=some (ok,out):=by
 unfold bU at hr⊢;split at hr
 ·rename_i id ext;split at hr
  ·rename_i mid wE rem cur hid;split at hr
   ·rename_i k n ks vs hmid;simp only[Option.some.injEq,Prod.mk.injEq]at hr;obtain⟨rfl,rfl⟩:=hr;have key:h' id=h id:=ht id (by simp);have key2:h' mid=h mid:=ht mid (by simp);simp only[key,hid,key2,hmid]
   ·cases hr
  ·cases hr
 ·cases hr
theorem sM {t:Nat}{m i x:V}{ok:Bool}{out:sH}(hr:eH ty t m i x h=some (ok,out))(ht:∀id∈out.touch,h' id=h id):eH ty t m i x h'=some (ok,out):=by
 unfold eH at hr⊢;split at hr
 ·rename_i kt et s0 b0 z0 id hti;split at hr
  ·rename_i k n ks vs tk hid htk;have key:h' id=h id:=by
    refine ht id ?_;split at hr
    ·split at hr
     ·obtain⟨_,a2⟩:=gA hr;simp only[Option.some.injEq,Prod.mk.injEq]at a2;obtain⟨_,rfl⟩:=a2;simp
     ·cases hr
    ·cases hr
   simp only[key,hid];simp only[hti,htk];exact hr
  ·cases hr
 ·cases hr
theorem fW {t:Nat}{m i:V}{ok:Bool}{out:sH}(hr:oH ty t m i h=some (ok,out))(ht:∀id∈out.touch,h' id=h id):oH ty t m i h'=some (ok,out):=by
 unfold oH at hr⊢;split at hr
 ·rename_i kt et s0 b0 z0 id hti;split at hr
  ·rename_i k n ks vs tk te hid htk hte;have key:h' id=h id:=by
    refine ht id ?_;split at hr
    ·split at hr
     ·obtain⟨_,a2⟩:=gA hr;simp only[Option.some.injEq,Prod.mk.injEq]at a2;obtain⟨_,rfl⟩:=a2;simp
     ·cases hr
    ·cases hr
   simp only[key,hid];simp only[hti,htk,hte];exact hr
  ·cases hr
 ·cases hr
theorem fS {m s x:V}{ok:Bool}{out:sH}(hr:jH m s x h=some (ok,out))(ht:∀id∈out.touch,h' id=h id):jH m s x h'=some (ok,out):=by
 unfold jH at hr⊢;split at hr
 ·rename_i id q;split at hr
  ·rename_i k n ks vs hid;have key:h' id=h id:=by
    refine ht id ?_;split at hr
    ·simp only[Option.some.injEq,Prod.mk.injEq]at hr;obtain⟨_,rfl⟩:=hr;simp
    ·cases hr
   simp only[key,hid];exact hr
  ·cases hr
 ·cases hr
theorem ko {ev:Operand→V}{op:Op}{ok:Bool}{out:sH}(hr:tO ty nid op ev h=some (ok,out))(ht:∀id∈out.touch,h' id=h id):tO ty nid op ev h'=some (ok,out):=by
 cases op
 case convert s d x=>exact lk hr ht
 case slice t x lo hi mx=>exact jl hr ht
 case indexAddr t x i=>exact u9 hr ht
 case load t a=>
  simp only[tO]at hr⊢;split at hr
  ·exact na hr ht
  ·cases hr
 case call c=>
  obtain⟨cl,args,ts⟩:=c;cases cl
  case builtin b=>exact wX hr ht
  all_goals exact hr
 case store t a x=>
  simp only[tO]at hr⊢;split at hr
  ·rename_i ti id off ext hti ha;split at hr
   ·rename_i vs hvs;obtain⟨a1,a2⟩:=gA hr;split at a2
    ·rename_i b hb;simp only[Option.some.injEq,Prod.mk.injEq]at a2;obtain⟨rfl,rfl⟩:=a2;simp only[hC,j1,or_false]at ht;simp only[hti,ha,hvs,a1,cond_true,ht id rfl,hb]
    ·cases a2
   ·cases hr
  ·cases hr
 case makeFunc f _ _=>cases f<;>exact hr
 case makeMap t r=>cases r<;>exact hr
 case range t x=>exact jh hr ht
 case entry x=>exact gf hr ht
 case lookup t m i c=>exact ag hr ht
 case mapUpdate t m i x=>exact sM hr ht
 case insert t m i x=>exact sM hr ht
 case mapEntry t m i=>exact fW hr ht
 case entryStore t m s x=>exact fS hr ht
 all_goals exact hr
theorem vS {ev ev':Operand→V}(ps:Array (Nat×Operand))(he:∀x∈(ps.toList.map (·.2)).toArray,ev' x=ev x):(ps.toList.map fun p=>(p.1,ev' p.2))=ps.toList.map fun p=>(p.1,ev p.2):=
 sS fun p hp=>by rw[he p.2 (by simp only[List.mem_toArray,o4];exact⟨p,hp,rfl⟩)]
theorem fj {ev ev':Operand→V}{op:Op}{r:bV}(hr:tO ty nid op ev h=r)(he:∀x∈op.operands,ev' x=ev x):tO ty nid op ev' h=r:=by
 subst hr;cases op<;>simp only[Op.operands]at he<;>try rfl
 case build t ps=>simp only[tO,vS ps he]
 case buildSlice t n ps=>simp only[tO,vS ps he]
 case makeFunc fn first cap=>
  cases fn<;>try rfl
  simp only[tO];rw[sS (l:=first.toList) (f:=ev') (g:=ev) fun x hx=>he x (by simp at hx;simp[hx]),sS (l:=cap.toList) (f:=ev') (g:=ev) fun x hx=>he x (by simp at hx;simp[hx])]
 case call c=>
  obtain⟨cl,args,ts⟩:=c;cases cl<;>try rfl
  simp only[tO];rw[sS (l:=args.toList) (f:=ev') (g:=ev) fun x hx=>he x (by simp at hx;simp[Call.operands,hx])]
 case slice t x lo hi mx=>simp only[tO];cases lo<;>cases hi<;>cases mx<;>simp_all
 case makeMap t r=>cases r<;>rfl
 all_goals (simp only[tO];simp_all)
end
theorem vu.go_pick {R:Type}(k:V→List rA→Option R):∀a:vu,a.go k=k a.pick.1 a.pick.2
 | .one _ _=>rfl
 | .two true _ _ _ _=>rfl
 | .two false _ _ _ _=>rfl
def ao (tab:Nat→Option uA)(nid f:Nat)(args:List V)(h:Nat→rA)(out:sH):Prop:=
 ∃e at_ σ enc a,tab f=some e∧wD h e.imm args=at_∧qV h 3 (eN [] (yF at_.1))=σ∧
  e.dec (pR (zH · σ 0) at_.1) (σ.map fun i=>bM (zH · σ 0) (h i))=some (some a,enc)∧
  (enc a).pick.2.length≤σ.length+e.fresh∧σ.length≤(enc a).pick.2.length∧nodup σ=true∧mZ σ at_.2=false∧out=oG σ at_.2 nid (enc a).pick.1 (enc a).pick.2
theorem rf {R:Type}{tab:Nat→Option uA}{nid f:Nat}{args:List V}{h:Nat→rA}{k:sH→Option R}{r:R}
  (hr:C4 tab nid f args h k=some r):∃out,ao tab nid f args h out∧k out=some r:=by
 unfold C4 at hr;split at hr
 ·cases hr
 ·rename_i e he;dsimp only at hr;split at hr
  ·cases hr
  ·rename_i m enc hm;cases m with
   |none=>cases hr
   |some a=>dsimp only[Option.bind]at hr;rw[vu.go_pick]at hr;obtain⟨h1,h2⟩:=gA hr;simp only[iB,c0]at h1;obtain⟨⟨⟨h3,h4⟩,h5⟩,h6⟩:=h1;exact⟨_,⟨e,_,_,enc,a,he,rfl,rfl,hm,gG h3,gG h4,h5,h6,rfl⟩,h2⟩
theorem lI {i:Nat}:∀(r σ:List Nat),i∈σ→i∈eN σ r
 | [],σ,h=>h
 |j::r,σ,h=>by
  unfold eN;cases hc:σ.any (Nat.beq j)<;>simp only[cond_false,cond_true]
  ·exact lI r _ (by simp[h])
  ·exact lI r _ h
theorem tT {i:Nat}:∀(r σ:List Nat),i∈r→i∈eN σ r
 |j::r,σ,h=>by
  unfold eN;cases hc:σ.any (Nat.beq j)<;>simp only[cond_false,cond_true]
  ·rcases hC.mp h with rfl|h
   ·exact lI r _ (by simp)
   ·exact tT r _ h
  ·rcases hC.mp h with rfl|h
   ·simp only[c4]at hc;obtain⟨x,hx,hb⟩:=hc;have:=vB hb;subst this;exact lI r _ hx
   ·exact tT r _ h
theorem tU {h:Nat→rA}{i:Nat}:∀(n:Nat) (σ:List Nat),i∈σ→i∈qV h n σ
 |0,σ,hi=>hi
 |n+1,σ,hi=>tU n _ (lI _ _ hi)
theorem rV {h h':Nat→rA}:∀(n:Nat) (σ:List Nat),(∀id∈qV h n σ,h' id=h id)→qV h' n σ=qV h n σ
 |0,σ,_=>rfl
 |n+1,σ,he=>by
  unfold qV at he⊢;have h1:(σ.flatMap fun i=>eT (h' i))=σ.flatMap fun i=>eT (h i):=by
   have:∀i∈σ,eT (h' i)=eT (h i):=fun i hi=>by rw[he i (tU n _ (lI _ _ hi))]
   clear he;induction σ with
   |nil=>rfl
   |cons j σ ih=>simp only[List.flatMap_cons];rw[this j (by simp),ih (fun i hi=>this i (by simp[hi]))]
  rw[h1];exact rV n _ he
mutual
theorem yY {h h':Nat→rA}:∀(v:V),(∀id,id∈cO (jI h v).1∨id∈(jI h v).2→h' id=h id)→jI h' v=jI h v
 | .sw id w,he=>by
  have:h' id=h id:=by
   refine he id ?_;unfold jI;split
   ·exact .inr (by simp)
   ·exact .inl (by simp[cO])
  unfold jI;rw[this]
 | .sl id w off len,he=>by
  have:h' id=h id:=by
   refine he id ?_;unfold jI;split
   ·exact .inr (by simp)
   ·exact .inl (by simp[cO])
  unfold jI;rw[this]
 | .agg cs,he=>by unfold jI at he⊢;rw[xY cs (fun id hid=>he id (by simpa[cO]using hid))]
 | .c _,_=>rfl
 | .poison,_=>rfl
 | .ptr _ _ _,_=>rfl
 | .mref _,_=>rfl
 | .il _ _ _,_=>rfl
 | .iv _ _,_=>rfl
 | .ilp _ _ _ _,_=>rfl
 | .ivp _ _ _ _,_=>rfl
 | .tup _,_=>rfl
 | .fn _ _ _,_=>rfl
theorem xY {h h':Nat→rA}:∀(vs:List V),(∀id,id∈yF (fU h vs).1∨id∈(fU h vs).2→h' id=h id)→fU h' vs=fU h vs
 | [],_=>rfl
 |v::r,he=>by unfold fU at he⊢;rw[yY v (fun id hid=>he id (by simp only[yF,zE];rcases hid with h|h<;>simp[h])),xY r (fun id hid=>he id (by simp only[yF,zE];rcases hid with h|h<;>simp[h]))]
end
theorem yL {h h':Nat→rA}:∀(bs:List Bool) (vs:List V),(∀id,id∈yF (wD h bs vs).1∨id∈(wD h bs vs).2→h' id=h id)→wD h' bs vs=wD h bs vs
 | [],vs,_=>by simp[wD]
 |true::bs,[],_=>by simp[wD]
 |false::bs,[],_=>by simp[wD]
 |true::bs,v::r,he=>by unfold wD at he⊢;rw[yY v (fun id hid=>he id (by simp only[yF,zE];rcases hid with h|h<;>simp[h])),yL bs r (fun id hid=>he id (by simp only[yF,zE];rcases hid with h|h<;>simp[h]))]
 |false::bs,v::r,he=>by unfold wD at he⊢;rw[yL bs r (fun id hid=>he id (by simp only[yF,zE];rcases hid with h|h<;>simp[h]))]
theorem ao.congr_h {tab:Nat→Option uA}{nid f:Nat}{args:List V}{h h':Nat→rA}{out:sH}(hc:ao tab nid f args h out)(ht:∀id∈out.touch,h' id=h id):ao tab nid f args h' out:=by
 obtain⟨e,at_,σ,enc,a,h1,h2,h3,h4,h5,h6,h7,h8,h9⟩:=hc;have ht':∀id,id∈σ∨id∈at_.2→h' id=h id:=fun id hid=>ht id (by subst h9;simpa[oG]using hid);have hσ:∀id∈yF at_.1,id∈σ:=fun id hid=>by subst h3;exact tU _ _ (tT _ _ hid)
 refine⟨e,at_,σ,enc,a,h1,?_,?_,?_,h5,h6,h7,h8,h9⟩
 ·rw[yL _ _ (fun id hid=>?_)]
  ·exact h2
  ·rw[h2]at hid;exact ht' id (hid.imp (hσ id) (fun x=>x))
 ·rw[rV _ _ (fun id hid=>ht' id (.inl (h3▸hid)))];exact h3
 ·rw[sS (g:=fun i=>bM (zH · σ 0) (h i)) (fun i hi=>by rw[ht' i (.inl hi)])];exact h4
def wj (T:Nat→V):Operand→V
 | .tmp t=>T t
 | .const v=>jv v
 | .global _=>.poison
 | .func f=>.fn f [] []
theorem gh (T:List (Nat×V)):Hw T=wj (iE T):=by funext x;cases x<;>rfl
def kf (E:jC)(nid:Nat)(o:Oper)(T:Nat→V)(h:Nat→rA)(out:sH):Prop:=
 (∃f args ts g first cap,o.op= .call ⟨.value f,args,ts⟩∧wj T f= .fn g first cap∧ao E.tab nid g (first++(args.toList.map (wj T)++cap)) h out)∨
 tO E.ty nid o.op (wj T) h=some (true,out)
theorem mg {R:Type}{E:jC}{nid:Nat}{o:Oper}{T:List (Nat×V)}{h:Nat→rA}{k:sH→Option R}{r:R}(hr:gg E nid o T h k=some r):∃out,kf E nid o (iE T) h out∧k out=some r:=by
 unfold gg at hr;split at hr
 ·rename_i f args ts hop;rw[gh]at hr;split at hr
  ·rename_i g first cap hf
   obtain⟨out,h1,h2⟩:=rf hr;exact⟨out,.inl ⟨f,args,ts,g,first,cap,hop,hf,h1⟩,h2⟩
  ·cases hr
 ·rw[gh]at hr;split at hr
  ·cases hr
  ·rename_i ok out ha;obtain⟨h1,h2⟩:=gA hr;subst h1;exact⟨out,.inr ha,h2⟩
theorem kf.congr {E:jC}{nid:Nat}{o:Oper}{T T':Nat→V}{h h':Nat→rA}{out:sH}(hx:kf E nid o T h out)(hT:∀x∈o.op.operands,wj T' x=wj T x)(ht:∀id∈out.touch,h' id=h id):kf E nid o T' h' out:=by
 rcases hx with⟨f,args,ts,g,first,cap,h1,h2,h3⟩|ha
 ·rw[h1]at hT;refine .inl ⟨f,args,ts,g,first,cap,h1,?_,?_⟩
  ·rw[hT f (by simp[Op.operands,Call.operands])];exact h2
  ·rw[sS (g:=wj T) (fun x hx=>hT x (by simp at hx;simp[Op.operands,Call.operands,hx]))];exact h3.congr_h ht
 ·exact .inr (fj (ko ha ht) hT)
def bN (all:List Oper)(T:Nat→V)(o:Oper):Option Bool:=match o.guard with
 |none=>some true
 |some (j,want)=>match(all[j]?).bind (·.dst)with
  |none=>none
  |some g=>match T g with
   | .c (.bool b)=>some (b==want)
   | .c (.tuple _)=>some false
   |_=>none
def tI (T:Nat→V)(d:Option Nat)(v:V):Nat→V:=match d with
 |some d=>fun t=>if t=d then v else T t
 |none=>T
theorem tS (T:List (Nat×V))(d:Option Nat)(v:V):iE (An T d v)=tI (iE T) d v:=by
 cases d with
 |none=>rfl
 |some d=>
  funext t;simp only[An,tI,iE];cases hb:Nat.beq d t<;>simp only[cond_false,cond_true]
  ·rw[if_neg (fun e=>by subst e;simp at hb)]
  ·rw[if_pos (vB hb).symm]
theorem iQ (T:List (Nat×V))(g:Nat)(v:V)(h:iE T g=v):iE ((g,v)::T)=iE T:=by
 funext t;simp only[iE];cases hb:Nat.beq g t<;>simp only[cond_false,cond_true];rw[←vB hb,h]
def lP (nid:Nat):List rA→List (Nat×rA)
 | []=>[]
 |b::r=>(nid,b)::lP (nid+1) r
theorem eJ (h:Nat→rA):∀(a b:List (Nat×rA)),vD h (a++b)=vD (vD h a) b:=by
 intro a;induction a generalizing h with
 |nil=>intro b;rfl
 |cons p a ih=>intro b;obtain⟨i,x⟩:=p;funext j;simp only[j0,vD];rw[ih]
theorem Gi (h:Nat→rA)(nid:Nat)(bs:List rA):Gh h nid bs=vD h (lP nid bs):=by
 induction bs generalizing h nid with
 |nil=>rfl
 |cons b r ih=>funext j;simp only[lP,Gh,vD];rw[ih]
theorem ja (h:Nat→rA)(nid:Nat)(out:sH):zL h nid out=vD h (out.wr++lP nid out.new):=by
 unfold zL;rw[Gi,eJ]
theorem wS (nid:Nat)(bs:List rA):(lP nid bs).map (·.1)=(List.range bs.length).map (nid+ ·):=by
 induction bs generalizing nid with
 |nil=>rfl
 |cons b r ih=>simp only[lP,xK,hU,c5,n4,ih];simp[Function.comp_def,Nat.add_assoc,Nat.add_comm 1]
theorem yC {h:Nat→rA}{ups:List (Nat×rA)}{j:Nat}(hj:j∉ups.map (·.1)):vD h ups j=h j:=by
 induction ups generalizing h with
 |nil=>rfl
 |cons p r ih=>obtain⟨i,b⟩:=p;simp only[xK,hC,not_or]at hj;simp only[vD];rw[ih hj.2,if_neg hj.1]
theorem qg {h h':Nat→rA}{ups:List (Nat×rA)}{j:Nat}(hj:j∈ups.map (·.1)):vD h ups j=vD h' ups j:=by
 induction ups generalizing h h' with
 |nil=>cases hj
 |cons p r ih=>
  obtain⟨i,b⟩:=p;simp only[vD];by_cases hr:j∈r.map (·.1)
  ·exact ih hr
  ·simp only[xK,hC,hr,or_false]at hj;rw[yC hr,yC hr,if_pos hj,if_pos hj]
theorem Bc {h:Nat→rA}{a b:List (Nat×rA)}(hd:∀j∈a.map (·.1),j∉b.map (·.1)):vD (vD h a) b=vD (vD h b) a:=by
 funext j;by_cases ha:j∈a.map (·.1)
 ·rw[yC (hd j ha)];exact qg ha
 ·rw[yC (ups:=a) ha];by_cases hb:j∈b.map (·.1)
  ·exact qg hb
  ·rw[yC hb,yC hb,yC ha]
theorem Am {T:Nat→V}{x y:Option Nat}{v u:V}(h:∀d,x=some d→y≠some d):tI (tI T x v) y u=tI (tI T y u) x v:=by
 cases x with
 |none=>rfl
 |some d=>
  cases y with
  |none=>rfl
  |some e=>
   have hne:d≠e:=fun he=>h d rfl (he▸rfl);funext t;simp only[tI];by_cases h1:t=e
   ·subst h1;rw[if_pos rfl,if_neg (Ne.symm hne),if_pos rfl]
   ·rw[if_neg h1];by_cases h2:t=d
    ·rw[if_pos h2,if_pos h2]
    ·rw[if_neg h2,if_neg h2,if_neg h1]
structure mX where
 i:Nat
 v:V
 touch:List Nat
 ups:List (Nat×rA)
def mX.fp (r:mX):Fp:=⟨r.i,r.touch,r.ups.map (·.1)⟩
structure aK where
 i:Nat
 nid:Nat
 o:Oper
def nK (tab:Nat→Option uA):Nat→Nat→List Oper→List aK
 |_,_,[]=>[]
 |i,nid,o::r=>⟨i,nid,o⟩::nK tab (i+1) (nid+vO tab o.op) r
def tH (E:jC)(all:List Oper)(len:Nat)(x:aK)(T:Nat→V)(h:Nat→rA)(r:mX):Prop:=
 r.i=x.i∧wh E.ntmps x.o.dst=true∧
 ((bN all T x.o=some true∧∃out,kf E x.nid x.o T h out∧r=⟨x.i,out.val,out.touch,out.wr++lP x.nid out.new⟩∧out.new.length≤vO E.tab x.o.op∧x.nid+vO E.tab x.o.op≤len∧∀p∈out.wr,p.1<len)∨
  (bN all T x.o=some false∧r=⟨x.i,eM,[],[]⟩))
def Tr (E:jC)(all:List Oper)(len:Nat):List aK→(Nat→V)→(Nat→rA)→List mX→(Nat→V)→(Nat→rA)→Prop
 | [],T,h,[],T',h'=>T'=T∧h'=h
 |x::xs,T,h,r::rs,T',h'=>tH E all len x T h r∧Tr E all len xs (tI T x.o.dst r.v) (vD h r.ups) rs T' h'
 |_,_,_,_,_,_=>False
theorem hF:∀(H:List rA) (i:Nat) (x:rA),(uD H i x).length=H.length
 | [],_,_=>rfl
 |_::_,0,_=>rfl
 |_::r,n+1,x=>by simp[uD,hF r]
theorem z8:∀(ups:List (Nat×rA)) (H:List rA),(Bg H ups).length=H.length
 | [],_=>rfl
 |(i,b)::r,H=>by simp[Bg,z8 r,hF]
theorem xm:∀(bs:List rA) (H:List rA) (nid:Nat),Dh H nid bs=Bg H (lP nid bs)
 | [],_,_=>rfl
 |b::r,H,nid=>by simp only[Dh,lP,Bg];exact xm r _ _
theorem v8:∀(a b:List (Nat×rA)) (H:List rA),Bg (Bg H a) b=Bg H (a++b)
 | [],_,_=>rfl
 |(i,x)::r,b,H=>by simp only[Bg,j0];exact v8 r b _
theorem wT:∀(H:List rA) (i:Nat) (x:rA),i<H.length→qA (uD H i x)=fun j=>if j=i then x else qA H j
 | [],_,_,h=>by simp at h
 |b::r,0,x,_=>by funext j;cases j<;>simp[uD,qA]
 |b::r,n+1,x,h=>by
  funext j;cases j with
  |zero=>simp[uD,qA]
  |succ j=>simp[uD,qA,wT r n x (by simpa using h)]
theorem az:∀(ups:List (Nat×rA)) (H:List rA),(∀p∈ups,p.1<H.length)→qA (Bg H ups)=vD (qA H) ups
 | [],_,_=>rfl
 |(i,b)::r,H,h=>by simp only[Bg];rw[az r _ (fun p hp=>by rw[hF];exact h p (by simp[hp])),wT _ _ _ (h (i,b) (by simp))];rfl
theorem Fu {nid:Nat}{bs:List rA}{p:Nat×rA}(hp:p∈lP nid bs):nid≤p.1∧p.1<nid+bs.length:=by
 have:p.1∈(lP nid bs).map (·.1):=n3 hp;rw[wS]at this;simp at this;obtain⟨a,h1,h2⟩:=this;omega
theorem se {R:Type}{E:jC}{all:List Oper}{r:R}{k:St→List Fp→Option R}:∀(rest:List Oper) (i nid:Nat) (T:List (Nat×V)) (H:List rA) (fps:List Fp),kY E all i rest nid T H fps k=some r→
  ∃rs T' H',Tr E all H.length (nK E.tab i nid rest) (iE T) (qA H) rs (iE T') (qA H')∧H'.length=H.length∧k ⟨T',H'⟩ ((rs.map mX.fp).reverse++fps)=some r:=by
 intro rest;induction rest with
 |nil=>intro i nid T H fps hr;exact⟨[],T,H,⟨rfl,rfl⟩,rfl,hr⟩
 |cons o rest ih=>
  intro i nid T H fps hr;unfold kY at hr;dsimp only at hr;obtain⟨hd,hr⟩:=gA hr;have hgo:∀T1:List (Nat×V),iE T1=iE T→bN all (iE T) o=some true→(gg E nid o T1 (qA H) fun out=>bif Dp H nid (vO E.tab o.op) out then
    kY E all (i+1) rest (nid+vO E.tab o.op) (An T1 o.dst out.val) (Dh (Bg H out.wr) nid out.new)
     (⟨i,out.touch,out.wr.map (·.1)++(List.range out.new.length).map (nid+ ·)⟩::fps) k
    else none)=some r→∃rs T' H',Tr E all H.length (nK E.tab i nid (o::rest)) (iE T) (qA H) rs (iE T') (qA H')∧H'.length=H.length∧k ⟨T',H'⟩ ((rs.map mX.fp).reverse++fps)=some r:=by
   intro T1 hT1 hw hr;obtain⟨out,hx,hr⟩:=mg hr;obtain⟨hok,hr⟩:=gA hr;simp only[Dp,iB,yK]at hok;obtain⟨⟨o1,o2⟩,o3⟩:=hok;have o1:=gG o1;have o2:=gG o2;rw[xm,v8]at hr;obtain⟨rs,T',H',h1,h2,h3⟩:=ih _ _ _ _ _ hr;rw[z8]at h1 h2;rw[az _ _ (fun p hp=>by
    rcases zE.mp hp with hp|hp
    ·exact dD (o3 p hp)
    ·have:=Fu hp;omega)]at h1
   rw[tS,hT1]at h1;refine⟨⟨i,out.val,out.touch,out.wr++lP nid out.new⟩::rs,T',H',⟨⟨rfl,hd,.inl ⟨hw,out,hT1▸hx,rfl,o1,o2,fun p hp=>dD (o3 p hp)⟩⟩,h1⟩,h2,?_⟩;simp only[xK,x3,iX,z1];unfold mX.fp;simp only[b5,wS];exact h3
  have hskip:∀T1:List (Nat×V),iE T1=iE T→bN all (iE T) o=some false→kY E all (i+1) rest (nid+vO E.tab o.op) (An T1 o.dst eM) H (⟨i,[],[]⟩::fps) k=some r→
    ∃rs T' H',Tr E all H.length (nK E.tab i nid (o::rest)) (iE T) (qA H) rs (iE T') (qA H')∧H'.length=H.length∧k ⟨T',H'⟩ ((rs.map mX.fp).reverse++fps)=some r:=by
   intro T1 hT1 hw hr;obtain⟨rs,T',H',h1,h2,h3⟩:=ih _ _ _ _ _ hr;rw[tS,hT1]at h1;refine⟨⟨i,eM,[],[]⟩::rs,T',H',⟨⟨rfl,hd,.inr ⟨hw,rfl⟩⟩,h1⟩,h2,?_⟩;simp only[xK,x3,iX,z1];exact h3
  split at hr
  ·rename_i hg;exact hgo T rfl (by simp[bN,hg]) hr
  ·rename_i j want hg;split at hr
   ·cases hr
   ·rename_i g hgd;have hwant:∀b,iE T g= .c (.bool b)→bN all (iE T) o=some (b==want):=fun b hb=>by simp[bN,hg,hgd,hb]
    split at hr
    ·rename_i hb;cases want<;>simp only[cond_true,cond_false]at hr
     ·exact hskip _ (iQ _ _ _ hb) (hwant _ hb) hr
     ·exact hgo _ (iQ _ _ _ hb) (hwant _ hb) hr
    ·rename_i hb;cases want<;>simp only[cond_true,cond_false]at hr
     ·exact hgo _ (iQ _ _ _ hb) (hwant _ hb) hr
     ·exact hskip _ (iQ _ _ _ hb) (hwant _ hb) hr
    ·rename_i vs hb;exact hskip _ rfl (by simp[bN,hg,hgd,hb]) hr
    ·cases hr
section
theorem fm {d:Nat}{l:List Nat}:l.any (Nat.beq d)=true↔d∈l:=by
 simp only[c4];constructor
 ·rintro⟨x,hx,hb⟩;have:=vB hb;subst this;exact hx
 ·intro h;exact⟨d,h,by simp⟩
theorem kL {d:Nat}{l:List Nat}:(!(l.any (Nat.beq d)))=true↔d∉l:=by
 rw[c0,←Bool.not_eq_true,fm]
theorem jQ {a b:List Nat}:(!mZ a b)=true↔∀j∈a,j∉b:=by
 unfold mZ;rw[c0,←Bool.not_eq_true,c4];simp only[not_exists,not_and];constructor
 ·intro h j hj hb;exact h j hj (fm.mpr hb)
 ·intro h j hj hb;exact h j hj (fm.mp hb)
variable {E:jC}{all:List Oper}{len:Nat}
theorem tH.congr {x:aK}{T T':Nat→V}{h h':Nat→rA}{r:mX}(hc:tH E all len x T h r)(hT:∀t∈mV all x.o,T' t=T t)(hh:∀id∈r.touch,h' id=h id):tH E all len x T' h' r:=by
 obtain⟨h1,h2,h3⟩:=hc;have hop:∀y∈x.o.op.operands,wj T' y=wj T y:=by
  intro y hy;cases y with
  |tmp t=>refine hT t ?_;unfold mV Ep;exact j2 _ (List.mem_filterMap.mpr ⟨.tmp t,by simpa using hy,rfl⟩)
  |_=>rfl
 have hw:bN all T' x.o=bN all T x.o:=by
  unfold bN;cases hg:x.o.guard with
  |none=>rfl
  |some gw=>
   obtain⟨j,want⟩:=gw;dsimp only;cases hd:(all[j]?).bind (·.dst)with
   |none=>rfl
   |some g=>dsimp only;rw[hT g (by unfold mV;rw[hg];simp only[hd];exact y1 _ (by simp))]
 refine⟨h1,h2,?_⟩;rw[hw];rcases h3 with⟨a1,out,a2,a3,a4⟩|h3
 ·exact .inl ⟨a1,out,a2.congr hop (by subst a3;exact hh),a3,a4⟩
 ·exact .inr h3
structure Bm (all:List Oper)(x y:aK)(rx ry:mX):Prop where
 a1:∀d,x.o.dst=some d→d∉mV all y.o
 a2:∀d,x.o.dst=some d→y.o.dst≠some d
 a3:∀d,y.o.dst=some d→d∉mV all x.o
 b1:(∀j∈rx.touch,j∉ry.ups.map (·.1))∨ie x.o.op y.o.op=true
 b2:∀j∈rx.ups.map (·.1),j∉ry.touch
 b3:∀j∈rx.ups.map (·.1),j∉ry.ups.map (·.1)
theorem dp {T:Nat→V}{dst:Option Nat}{v:V}{t:Nat}(h:∀d,dst=some d→d≠t):tI T dst v t=T t:=by
 cases dst with
 |none=>rfl
 |some d=>simp only[tI];rw[if_neg (fun e=>h d rfl e.symm)]
theorem xj {l:List Int}:∀(ks:List (List Int)) (n:Nat) {j:Nat},cF l ks n=some j→n≤j∧j<n+ks.length
 | [],_,_,h=>by simp[cF]at h
 |k::r,n,j,h=>by
  simp only[cF]at h;cases hb:bW l k<;>rw[hb]at h
  ·obtain⟨a,b⟩:=xj r (n+1) h;simp only[hU];omega
  ·simp only[cond_true,Option.some.injEq]at h;subst h;simp only[hU];omega
theorem mf:∀(l:List Int),bW l l=true
 | []=>rfl
 |a::r=>by simp[bW,mf r]
theorem oV {l:List Int}:∀(ks:List (List Int)) (n:Nat),cF l ks n=none→cF l (ks++[l]) n=some (n+ks.length)
 | [],n,_=>by simp[cF,mf]
 |k::r,n,h=>by
  simp only[cF]at h;cases hb:bW l k<;>rw[hb]at h
  ·simp only[j0,cF,hb,cond_false];rw[oV r (n+1) h];simp only[hU,Option.some.injEq];omega
  ·cases h
theorem oZ {α:Type}{d:α}{l:List Int}{ks:List (List Int)}{vs:List α}:
  (match cF l (yB l ks) 0 with|some j=>(nG l (match cF l ks 0 with|some j=>vs.getD j d|none=>d) ks (vs.take ks.length)).getD j d|none=>d)=
   (match cF l ks 0 with|some j=>vs.getD j d|none=>d):=by
 cases hm:cF l ks 0 with
 |none=>
  have hK:yB l ks=ks++[l]:=by simp[yB,oQ,hm]
  rw[hK,oV ks 0 hm];simp only[nG,hm];rw[iA];by_cases hl:ks.length≤vs.length
  ·rw[hP (by simp;omega)];simp[Nat.min_eq_left hl]
  ·rw[aE (by simp;omega)];rfl
 |some j=>
  have hj:=xj ks 0 hm;have hK:yB l ks=ks:=by simp[yB,oQ,hm]
  rw[hK,hm];simp only[nG,hm];rw[iA,iA];by_cases hv:j<vs.length
  ·rw[List.getElem?_set_self (by simp;omega)];rfl
  ·rw[aE (by simp;omega),aE (by omega)]
theorem gu {l:List Int}{ks:List (List Int)}{vs c:sO}{v:V}(hv:cH l ks vs=some v)(hc:mR l ks (lQ ks.length vs) v=some c):
  cH l (yB l ks) c=some v∧∀te,jN te c=jN te vs:=by
 cases vs with
 |strs _=>simp[cH]at hv
 |ints k vs=>simp only[cH,Option.some.injEq]at hv;subst hv;simp only[lQ,mR]at hc;obtain⟨_,h2⟩:=gA hc;simp only[Option.some.injEq]at h2;subst h2;refine⟨?_,fun te=>rfl⟩;simp only[cH,Option.some.injEq];congr 2;exact oZ
 |bools vs=>simp only[cH,Option.some.injEq]at hv;subst hv;simp only[lQ,mR,Option.some.injEq]at hc;subst hc;refine⟨?_,fun te=>rfl⟩;simp only[cH,Option.some.injEq];congr 2;exact oZ
theorem tq {ty:Nat→Option TI}{t:Nat}{m i:V}{h:Nat→rA}{out outy:sH}(hx:qJ ty t m i false h=some (true,out))(hy:oH ty t m i h=some (true,outy)):
  outy.new=[]∧qJ ty t m i false (vD h outy.wr)=some (true,out):=by
 unfold oH at hy;split at hy
 ·rename_i kt et s0 b0 z0 id ht;split at hy
  ·rename_i k n ks vs tk te hid htk hte;split at hy
   ·rename_i l v hl hv;split at hy
    ·rename_i c hcol;obtain⟨hc,h2⟩:=gA hy;simp only[Option.some.injEq,Prod.mk.injEq,true_and]at h2;subst h2;refine⟨rfl,?_⟩;rw[hl]at hv;simp only at hv;obtain⟨g1,g2⟩:=gu hv hcol;unfold qJ at hx⊢;simp only[ht,hid,htk,hte,hl,hv]at hx;simp only[vD,ht,if_pos,htk,hte,hl,g1,g2];exact hx
    ·cases hy
   ·cases hy
  ·cases hy
 ·cases hy
theorem tH.look {x y:aK}{T:Nat→V}{h:Nat→rA}{rx ry:mX}(hx:tH E all len x T h rx)(hy:tH E all len y T h ry)(hl:ie x.o.op y.o.op=true):tH E all len x T (vD h ry.ups) rx:=by
 obtain⟨h1,h2,h3⟩:=hx;obtain⟨_,_,hy⟩:=hy;refine⟨h1,h2,?_⟩;rcases h3 with⟨a1,out,a2,a3,a4⟩|h3
 ·rcases hy with⟨b1,outy,b2,b3,b4⟩|⟨_,b3⟩
  ·refine .inl ⟨a1,out,?_,a3,a4⟩;unfold ie at hl;split at hl
   ·rename_i t a b t' a' b' e1 e2;simp only[iB]at hl;obtain⟨l1,l2,l3⟩:=hl;have l1:=vB l1;have l2:=vB l2;have l3:=vB l3;subst l1;subst l2;subst l3;rcases a2 with⟨_,_,_,_,_,_,e3,_⟩|a2
    ·rw[e1]at e3;cases e3
    ·rcases b2 with⟨_,_,_,_,_,_,e3,_⟩|b2
     ·rw[e2]at e3;cases e3
     ·rw[e1]at a2;rw[e2]at b2;refine .inr ?_;rw[e1];obtain⟨g1,g2⟩:=tq (ty:=E.ty) a2 b2;subst b3;simp only[g1,lP,y4];exact g2
   ·cases hl
  ·subst b3;exact .inl ⟨a1,out,a2,a3,a4⟩
 ·exact .inr h3
theorem tH.swap {x y:aK}{T:Nat→V}{h:Nat→rA}{rx ry:mX}(hx:tH E all len x T h rx)(hy:tH E all len y (tI T x.o.dst rx.v) (vD h rx.ups) ry)(ha:Bm all x y rx ry):
  tH E all len y T h ry∧tH E all len x (tI T y.o.dst ry.v) (vD h ry.ups) rx∧tI (tI T x.o.dst rx.v) y.o.dst ry.v=tI (tI T y.o.dst ry.v) x.o.dst rx.v∧vD (vD h rx.ups) ry.ups=vD (vD h ry.ups) rx.ups:=by
 have hy':tH E all len y T h ry:=hy.congr (fun t ht=>(dp (fun d hd he=>ha.a1 d hd (he▸ht))).symm) (fun id hid=>(yC (fun hm=>ha.b2 id hm hid)).symm);have hT:∀t∈mV all x.o,tI T y.o.dst ry.v t=T t:=fun t ht=>dp (fun d hd he=>ha.a3 d hd (he▸ht));refine⟨hy',?_,Am ha.a2,Bc ha.b3⟩;rcases ha.b1 with hb|hl
 ·exact hx.congr hT (fun id hid=>yC (hb id hid))
 ·exact(hx.look hy' hl).congr hT (fun _ _=>rfl)
def Bh (E:jC)(all:List Oper)(len:Nat):List (aK×mX)→(Nat→V)→(Nat→rA)→(Nat→V)→(Nat→rA)→Prop
 | [],T,h,T',h'=>T'=T∧h'=h
 |p::xs,T,h,T',h'=>tH E all len p.1 T h p.2∧Bh E all len xs (tI T p.1.o.dst p.2.v) (vD h p.2.ups) T' h'
theorem Tr.pairs:∀{xs:List aK} {T:Nat→V} {h:Nat→rA} {rs:List mX} {T':Nat→V} {h':Nat→rA},Tr E all len xs T h rs T' h'→∃L:List (aK×mX),L.map (·.1)=xs∧L.map (·.2)=rs∧Bh E all len L T h T' h'
 | [],_,_,[],_,_,ht=>⟨[],rfl,rfl,ht⟩
 |x::xs,_,_,r::rs,_,_,ht=>by obtain⟨h1,h2⟩:=ht;obtain⟨L,a1,a2,a3⟩:=Tr.pairs h2;exact⟨(x,r)::L,by simp[a1],by simp[a2],h1,a3⟩
 | [],_,_,_::_,_,_,ht=>ht.elim
 |_::_,_,_,[],_,_,ht=>ht.elim
theorem Bh.front {p:aK×mX}{L2:List (aK×mX)}{T':Nat→V}{h':Nat→rA}:∀(L1:List (aK×mX)) (T:Nat→V) (h:Nat→rA),Bh E all len (L1++p::L2) T h T' h'→(∀q∈L1,Bm all q.1 p.1 q.2 p.2)→
  tH E all len p.1 T h p.2∧Bh E all len (L1++L2) (tI T p.1.o.dst p.2.v) (vD h p.2.ups) T' h'
 | [],_,_,ht,_=>ht
 |q::L1,T,h,ht,ha=>by obtain⟨h1,h2⟩:=ht;obtain⟨h3,h4⟩:=Bh.front L1 _ _ h2 (fun q hq=>ha q (by simp[hq]));obtain⟨s1,s2,s3,s4⟩:=h1.swap h3 (ha q (by simp));rw[s3,s4]at h4;exact⟨s1,s2,h4⟩
def fy (o:Oper):List Nat:=(o.after.toList.filter (Region.binds .any)).map (·.on)
theorem dc {accf:Nat→Nat}{x:Nat}:∀(ds:List Nat) (m:Nat),(ds.foldl (fun m d=>m|||(1<<<d)|||accf d) m).testBit x=true→
  m.testBit x=true∨x∈ds∨∃d∈ds,(accf d).testBit x=true
 | [],m,h=>Or.inl h
 |d::ds,m,h=>by
  rw[List.foldl_cons]at h;rcases dc ds _ h with h|h|⟨e,he,h⟩
  ·rw[Nat.testBit_or,Nat.testBit_or,Nat.testBit_shiftLeft]at h;simp only[x4,iB,decide_eq_true_eq]at h;rcases h with(h|⟨h1,h2⟩)|h
   ·exact Or.inl h
   ·have hz:x-d=0:=by
     rcases Nat.eq_zero_or_pos (x-d)with h|h
     ·exact h
     ·rw[Nat.testBit_lt_two_pow (Nat.one_lt_two_pow (by omega))]at h2;cases h2
    have:x=d:=by omega
    exact Or.inr (Or.inl (by simp[this]))
   ·exact Or.inr (Or.inr ⟨d,by simp,h⟩)
  ·exact Or.inr (Or.inl (x2 _ h))
  ·exact Or.inr (Or.inr ⟨e,x2 _ he,h⟩)
theorem ft {S:Nat→Prop}(hS:∀j o,S j→all[j]?=some o→∀d∈fy o,S d):
  ∀(rest:List Oper) (acc:List Nat),all=all.take acc.length++rest→acc.length≤all.length→(∀j o,j<acc.length→all[j]?=some o→(∀d∈fy o,S d)→∀x,(acc.reverse.getD j 0).testBit x=true→S x)→
   ∀j o,all[j]?=some o→(∀d∈fy o,S d)→∀x,((bL rest acc).getD j 0).testBit x=true→S x:=by
 intro rest;induction rest with
 |nil=>
  intro acc hall hle hinv j o hj hd x hx;simp only[bL]at hx;have:j<acc.length:=by have hjl:j<all.length:=(hN.mp hj).1;have:=congrArg List.length hall;simp at this;omega
  exact hinv j o this hj hd x hx
 |cons o rest ih=>
  intro acc hall hle hinv;have hlen:acc.length<all.length:=by have:=congrArg List.length hall;simp at this;omega
  have hat:all[acc.length]?=some o:=by
   have h2:(all.take acc.length++o::rest)[acc.length]?=some o:=by rw[hP (by simp;omega)];simp[Nat.min_eq_left hle]
   rw[←hall]at h2;exact h2
  simp only[bL];refine ih _ ?_ (by simp;omega) ?_
  ·simp only[hU];rw[List.take_add_one,hat];simp only[Option.toList,iX,z1];exact hall
  ·intro j oj hj hoj hd x hx;simp only[x3]at hx;simp only[hU]at hj;rcases hW j acc.length with hlt|hge
   ·refine hinv j oj hlt hoj hd x ?_;rw[iA,hG (by simpa using hlt)]at hx;rw[iA];exact hx
   ·have:j=acc.length:=by omega
    subst this;rw[hat]at hoj;simp only[Option.some.injEq]at hoj;subst hoj;rw[iA,hP (by simp)]at hx;simp only[List.length_reverse,Nat.sub_self,x0,k0]at hx;rcases dc _ _ hx with hx|hx|⟨d,hd1,hx⟩
    ·rw[Nat.zero_testBit]at hx;cases hx
    ·exact hd x hx
    ·have hSd:=hd d hd1;rcases hW d acc.length with hlt|hge
     ·have hdl:d<all.length:=by omega
      exact hinv d _ hlt (hD hdl) (fun d' hd'=>hS d _ hSd (hD hdl) d' hd') x hx
     ·rw[iA,aE (by simpa using hge)]at hx;rw[Option.getD_none,Nat.zero_testBit]at hx;cases hx
theorem qQ:∀(rest:List Oper) (k:Nat),jM k rest=true→∀j o,rest[j]?=some o→∀d∈fy o,d<k+j
 | [],_,_,j,o,hj=>by simp at hj
 |x::r,k,hb,0,o,hj=>by simp at hj;subst hj;simp only[jM,iB,yK]at hb;intro d hd;simp only[fy,o4,hX]at hd;obtain⟨e,⟨h1,h2⟩,rfl⟩:=hd;have:=hb.1 e h1;rw[h2]at this;simp at this;omega
 |x::r,k,hb,j+1,o,hj=>by simp only[jM,iB]at hb;intro d hd;have:=qQ r (k+1) hb.2 j o (by simpa using hj) d hd;omega
theorem oO {bef:List Nat}:∀(l:List Fp),iz all bef l=true→l.Pairwise (fun y x=>aZ all bef x y=true)
 | [],_=>.nil
 |y::r,h=>by simp only[iz,iB,yK]at h;exact .cons h.1 (oO r h.2)
section
variable {P:Program}{ops:Array Oper}{Q:Exit→Act→World→Prop}
theorem nj {o:Oper}{d:Nat}:d∈fy o↔∃e∈o.after,Region.binds .any e=true∧e.on=d:=by
 simp only[fy,o4,hX,Array.mem_toList_iff];constructor
 ·rintro⟨e,⟨h1,h2⟩,h3⟩;exact⟨e,h1,h2,h3⟩
 ·rintro⟨e,h1,h2,h3⟩;exact⟨e,⟨h1,h2⟩,h3⟩
theorem dW {l:Array Bool}{i:Nat}(h:l.getD i false=true):l.getD i true=true:=by
 rw[cD]at h⊢;cases hc:l[i]?<;>rw[hc]at h<;>simp_all
theorem eW {l:Array Bool}{i:Nat}(hi:i<l.size)(h:l.getD i true=true):l.getD i false=true:=by
 rw[cD,Array.getElem?_eq_getElem hi]at h⊢;exact h
theorem Ey (I:(Nat→V)→(Nat→rA)→List aK→Act→World→Prop){T':Nat→V}{h':Nat→rA}
  (hstep:∀T h pre x post r a w K,tH E ops.toList len x T h r→I T h (pre++x::post) a w→ops[x.i]?=some x.o→(∀a' w',I (tI T x.o.dst r.v) (vD h r.ups) (pre++post) a' w'→K a' w')→wpOp P ops Q x.i K a w)
  (hb:jM 0 ops.toList=true)(hQ:∀a w,I T' h' [] a w→Q .normal a w):
  ∀(fuel:Nat) (listed:Array Bool) (L:List (aK×mX)) (T:Nat→V) (h:Nat→rA) (a:Act) (w:World),Bh E ops.toList len L T h T' h'→I T h (L.map (·.1)) a w→L.length≤fuel→
   listed.size=ops.size→L.map (·.1.i)=(List.range ops.size).filter (fun i=>!listed.getD i true)→(∀p∈L,ops[p.1.i]?=some p.1.o)→(∀p∈L,p.2.i=p.1.i)→
   L.Pairwise (fun p q=>aZ ops.toList (bL ops.toList []) p.2.fp q.2.fp=true)→
   (∀j o,listed.getD j false=true→ops[j]?=some o→∀d∈fy o,listed.getD d false=true)→
   wpAny P .any ops Q fuel listed a w:=by
 intro fuel;induction fuel with
 |zero=>
  intro listed L T h a w ht hI hlen hsz hL ho hri hpw hcl;have:L=[]:=List.length_eq_zero_iff.mp (by omega);subst this;obtain⟨rfl,rfl⟩:=ht;refine⟨?_,hQ a w hI⟩;rw[List.eq_nil_iff_forall_not_mem];intro j hj;rw[mem_ready]at hj;obtain⟨h0,o,hjo,_⟩:=hj;have hjl:j<ops.size:=(n0.mp hjo).1;have:j∈(List.range ops.size).filter (fun i=>!listed.getD i true):=by simp only[hX,u0];exact⟨hjl,by rw[h0];rfl⟩
  rw[←hL]at this;simp at this
 |succ fuel ih=>
  intro listed L T h a w ht hI hlen hsz hL ho hri hpw hcl;refine⟨fun hr=>?_,fun i hi=>?_⟩
  ·cases L with
   |nil=>obtain⟨rfl,rfl⟩:=ht;exact hQ a w hI
   |cons p L=>
    exfalso;have hpo:=ho p (by simp);have hpl:p.1.i<ops.size:=(n0.mp hpo).1;have hin:p.1.i∈(List.range ops.size).filter (fun i=>!listed.getD i true):=by rw[←hL];simp
    simp only[hX,u0,c0]at hin;have hfirst:∀j,j<p.1.i→listed.getD j true=true:=by
     intro j hj;cases hc:listed.getD j true with
     |true=>rfl
     |false=>
      exfalso;have hm:j∈(p::L).map (·.1.i):=by rw[hL];simp only[hX,u0];exact⟨by omega,by rw[hc];rfl⟩
      have hsorted:((p::L).map (·.1.i)).Pairwise (· < ·):=by rw[hL];exact List.Pairwise.filter _ List.pairwise_lt_range
      simp only[xK,w3,hC]at hsorted hm;rcases hm with rfl|hm
      ·omega
      ·have:=hsorted.1 j hm;omega
    have hrd:p.1.i∈Region.ready .any ops listed:=by rw[mem_ready];refine⟨hin.2,p.1.o,hpo,fun e he hbe=>?_⟩;have hlt:e.on<0+p.1.i:=qQ _ _ hb p.1.i p.1.o (by simpa using hpo) e.on (nj.mpr ⟨e,he,hbe,rfl⟩);exact eW (by omega) (hfirst e.on (by omega))
    rw[hr]at hrd;cases hrd
  ·have hi':=hi;rw[mem_ready]at hi;obtain⟨h0,o,hio,hdeps⟩:=hi;have hil:i<ops.size:=(n0.mp hio).1;have hm:i∈L.map (·.1.i):=by rw[hL];simp only[hX,u0];exact⟨hil,by rw[h0];rfl⟩
   obtain⟨p,hpL,hpi⟩:=o4.mp hm;obtain⟨L1,L2,rfl⟩:=List.append_of_mem hpL;have hpo:=ho p hpL;have hd':∀d∈fy o,listed.getD d false=true:=fun d hd=>by obtain⟨e,he,hbe,rfl⟩:=nj.mp hd;exact hdeps e he hbe
   have hbef:∀x,((bL ops.toList []).getD i 0).testBit x=true→listed.getD x false=true:=
    ft (all:=ops.toList) (S:=fun j=>listed.getD j false=true) (fun j o hj hjo=>hcl j o hj (by simpa using hjo)) ops.toList [] (by simp) (by simp) (fun j o hj=>by simp at hj) i o (by simpa using hio) hd'
   have hap:∀q∈L1,Bm ops.toList q.1 p.1 q.2 p.2:=by
    intro q hq;have hind:aZ ops.toList (bL ops.toList []) q.2.fp p.2.fp=true:=by rw[c3]at hpw;exact hpw.2.2 q hq p (by simp)
    have hqL:q∈L1++p::L2:=by simp[hq]
    have hqu:listed.getD q.1.i true=false:=by have:q.1.i∈(L1++p::L2).map (·.1.i):=n3 hqL;rw[hL]at this;simp only[hX,c0]at this;exact this.2
    simp only[aZ,mX.fp]at hind;rw[hri q hqL,hri p hpL,hpi,x4,iB,iB,iB]at hind;rcases hind with hind|⟨⟨⟨h1,h2⟩,h3⟩,h4⟩
    ·have:=dW (hbef _ hind);rw[hqu]at this;cases this
    ·have e1:ops.toList.getD q.1.i default=q.1.o:=by rw[iA];have:=ho q hqL;simp[this]
     have e2:ops.toList.getD i default=p.1.o:=by rw[←hpi,iA];simp[hpo]
     rw[e1,e2]at h1 h2;simp only[Bw,iB]at h1;refine⟨fun d hd=>?_,fun d hd he=>?_,fun d hd=>?_,((x4 _ _).mp h2).imp jQ.mp id,jQ.mp h3,jQ.mp h4⟩
     ·have:=h1.1;rw[hd]at this;simp only[iB]at this;exact kL.mp this.1
     ·have:=h1.1;rw[hd]at this;simp only[iB]at this;exact kL.mp this.2 (by simp[he])
     ·have:=h1.2;rw[hd]at this;exact kL.mp this
   obtain⟨hc,ht'⟩:=Bh.front L1 T h ht hap;rw[←hpi];refine hstep T h (L1.map (·.1)) p.1 (L2.map (·.1)) p.2 a w _ hc (by simpa using hI) hpo (fun a' w' hI'=>?_);refine ih _ (L1++L2) _ _ a' w' ht' (by simpa using hI') (by simp at hlen⊢;omega) (by simpa using hsz) ?_ ?_ ?_ ?_ ?_
   ·have hnd:((L1++p::L2).map (·.1.i)).Nodup:=by rw[hL];exact(List.nodup_range).filter _
    have hf:((List.range ops.size).filter fun j=>!(listed.setIfInBounds p.1.i true).getD j true)=(((List.range ops.size).filter fun j=>!listed.getD j true).filter fun j=>j != p.1.i):=by
     rw[List.filter_filter];refine List.filter_congr (fun j hj=>?_);by_cases hji:j=p.1.i
     ·subst hji;have:(listed.setIfInBounds p.1.i true).getD p.1.i true=true:=by
       rw[cD,Array.getElem?_setIfInBounds_self];split<;>rfl
      rw[this];simp
     ·rw[getD_set_ne true (Ne.symm hji)];simp[hji]
    rw[hf,←hL];simp only[b5,xK,List.filter_append,List.filter_cons,bne_self_eq_false,Bool.false_eq_true,if_false];simp only[b5,xK,List.nodup_append,y2,hC]at hnd;obtain⟨_,⟨hn1,_⟩,hn2⟩:=hnd;rw[j3.mpr,j3.mpr]
    ·intro x hx;simp only[bne_iff_ne,ne_eq];rintro rfl;exact hn1 hx
    ·intro x hx;simp only[bne_iff_ne,ne_eq];rintro rfl;exact hn2 _ hx _ (.inl rfl) rfl
   ·intro q hq;refine ho q ?_;simp only[zE,hC]at hq⊢;rcases hq with h|h<;>simp[h]
   ·intro q hq;refine hri q ?_;simp only[zE,hC]at hq⊢;rcases hq with h|h<;>simp[h]
   ·exact hpw.sublist (List.Sublist.append_left (l5 _ _) _)
   ·intro j oj hj hoj d hd;by_cases hji:j=p.1.i
    ·subst hji;rw[hpi,hio]at hoj;simp only[Option.some.injEq]at hoj;subst hoj;exact getD_set_true (hd' d hd)
    ·rw[getD_set_ne false (Ne.symm hji)]at hj;exact getD_set_true (hcl j oj hj hoj d hd)
theorem Ez (I:(Nat→V)→(Nat→rA)→List aK→Act→World→Prop){T':Nat→V}{h':Nat→rA}
  (hstep:∀T h pre x post r a w K,tH E ops.toList len x T h r→I T h (pre++x::post) a w→ops[x.i]?=some x.o→(∀a' w',I (tI T x.o.dst r.v) (vD h r.ups) (pre++post) a' w'→K a' w')→wpOp P ops Q x.i K a w)
  (hQ:∀a w,I T' h' [] a w→Q .normal a w):
  ∀(L:List (aK×mX)) (T:Nat→V) (h:Nat→rA) (a:Act) (w:World),Bh E ops.toList len L T h T' h'→I T h (L.map (·.1)) a w→(∀p∈L,ops[p.1.i]?=some p.1.o)→wpOps P ops Q (L.map (·.1.i)) a w:=by
 intro L;induction L with
 |nil=>intro T h a w ht hI ho;obtain⟨rfl,rfl⟩:=ht;exact hQ a w hI
 |cons p L ih=>intro T h a w ht hI ho;simp only[xK];rw[wpOps_cons];exact hstep T h [] p.1 (L.map (·.1)) p.2 a w _ ht.1 (by simpa using hI) (ho p (by simp)) (fun a' w' hI'=>ih _ _ a' w' ht.2 (by simpa using hI') (fun q hq=>ho q (by simp[hq])))
end
end
mutual
theorem vA.avoid {ρ:sD}{M M':Nat→Prop}{w:World}(hM:∀b,M' b→M b):∀(x:V) (v:Value),vA ρ M w x v→vA ρ M' w x v
 | .c _,_,h=>by simpa only[vA]using h
 | .poison,_,_=>by simp only[vA]
 | .ptr _ _ _,_,h=>by simpa only[vA]using h
 | .sw _ _,_,h=>by simpa only[vA]using h
 | .sl _ _ _ _,_,h=>by simpa only[vA]using h
 | .mref _,_,h=>by simpa only[vA]using h
 | .il _ _ _,_,h=>by
  simp only[vA]at h⊢;obtain⟨h0,h1,h2|⟨b,o,cap,h2,h3,h4,h5,h6⟩⟩:=h
  ·exact⟨h0,h1,.inl h2⟩
  ·exact⟨h0,h1,.inr ⟨b,o,cap,h2,h3,h4,fun hm=>h5 (hM b hm),h6⟩⟩
 | .iv _ _,_,h=>by
  simp only[vA]at h⊢;obtain⟨h0,h2|⟨b,o,cap,h2,h3,h4,h5,h7⟩⟩:=h
  ·exact⟨h0,.inl h2⟩
  ·exact⟨h0,.inr ⟨b,o,cap,h2,h3,h4,fun hm=>h5 (hM b hm),h7⟩⟩
 | .ilp _ _ _ _,_,h=>by simp only[vA]at h⊢;obtain⟨b,o,h2,h3,h4,h5,h6⟩:=h;exact⟨b,o,h2,h3,h4,fun hm=>h5 (hM b hm),h6⟩
 | .ivp _ _ _ _,_,h=>by simp only[vA]at h⊢;obtain⟨b,o,h2,h3,h4,h5,h7⟩:=h;exact⟨b,o,h2,h3,h4,fun hm=>h5 (hM b hm),h7⟩
 | .agg cs,_,h=>by simp only[vA]at h⊢;obtain⟨vs,h1,h2⟩:=h;exact⟨vs,h1,lA.avoid hM cs _ h2⟩
 | .tup cs,_,h=>by simp only[vA]at h⊢;obtain⟨vs,h1,h2⟩:=h;exact⟨vs,h1,lA.avoid hM cs _ h2⟩
 | .fn _ a c,_,h=>by simp only[vA]at h⊢;obtain⟨va,vc,h1,h2,h3⟩:=h;exact⟨va,vc,h1,lA.avoid hM a _ h2,lA.avoid hM c _ h3⟩
theorem lA.avoid {ρ:sD}{M M':Nat→Prop}{w:World}(hM:∀b,M' b→M b):∀(x:List V) (v:List Value),lA ρ M w x v→lA ρ M' w x v
 | [],[],_=>by simp only[lA]
 |x::xs,v::vs,h=>by simp only[lA]at h⊢;exact⟨vA.avoid hM x v h.1,lA.avoid hM xs vs h.2⟩
 | [],_::_,h=>by simp only[lA]at h
 |_::_,[],h=>by simp only[lA]at h
end
mutual
theorem vA.ren {ρ ρ':sD}{M M':Nat→Prop}{w:World}{m:Nat→Option Nat}(hm:∀i j p,m i=some j→ρ i=some p→ρ' j=some p):∀(x:V) (v:Value),((∀b,M' b→M b)∨wG x=true)→vA ρ M w x v→vA ρ' M' w (Ja m x) v
 | .c _,_,_,h=>by simpa only[vA,Ev.Ja]using h
 | .poison,_,_,_=>by simp only[vA,Ev.Ja]
 | .ptr id _ _,_,_,h=>by
  simp only[Ev.Ja];cases hid:m id with
  |none=>simp only[vA]
  |some j=>simp only[vA]at h⊢;obtain⟨b,n,C,h1,h2,h3⟩:=h;exact⟨b,n,C,hm _ _ _ hid h1,h2,h3⟩
 | .sw id _,_,_,h=>by
  simp only[Ev.Ja];cases hid:m id with
  |none=>simp only[vA]
  |some j=>
   simp only[vA]at h⊢;obtain⟨h0,⟨b,n,C,cap,h1,h2⟩|⟨h1,h2⟩⟩:=h
   ·exact⟨h0,.inl ⟨b,n,C,cap,hm _ _ _ hid h1,h2⟩⟩
   ·exact⟨h0,.inr ⟨hm _ _ _ hid h1,h2⟩⟩
 | .sl id _ _ _,_,_,h=>by
  simp only[Ev.Ja];cases hid:m id with
  |none=>simp only[vA]
  |some j=>
   simp only[vA]at h⊢;obtain⟨h0,⟨b,n,C,cap,h1,h2⟩|⟨h1,h2⟩⟩:=h
   ·exact⟨h0,.inl ⟨b,n,C,cap,hm _ _ _ hid h1,h2⟩⟩
   ·exact⟨h0,.inr ⟨h1,h2⟩⟩
 | .mref id,_,_,h=>by
  simp only[Ev.Ja];cases hid:m id with
  |none=>simp only[vA]
  |some j=>simp only[vA]at h⊢;obtain⟨b,h1,h2⟩:=h;exact⟨b,hm _ _ _ hid h1,h2⟩
 | .il k s l,v,hM,h=>by
  simp only[Ev.Ja];rcases hM with hM|hM
  ·have:=vA.avoid hM _ _ h;simpa only[vA]using this
  ·simp[wG]at hM
 | .iv s l,v,hM,h=>by
  simp only[Ev.Ja];rcases hM with hM|hM
  ·have:=vA.avoid hM _ _ h;simpa only[vA]using this
  ·simp[wG]at hM
 | .ilp k l off ext,v,hM,h=>by
  simp only[Ev.Ja];rcases hM with hM|hM
  ·have:=vA.avoid hM _ _ h;simpa only[vA]using this
  ·simp[wG]at hM
 | .ivp l i off ext,v,hM,h=>by
  simp only[Ev.Ja];rcases hM with hM|hM
  ·have:=vA.avoid hM _ _ h;simpa only[vA]using this
  ·simp[wG]at hM
 | .agg cs,_,hM,h=>by simp only[vA,Ev.Ja]at h⊢;obtain⟨vs,h1,h2⟩:=h;exact⟨vs,h1,lA.ren hm cs _ (by simpa only[wG]using hM) h2⟩
 | .tup cs,_,hM,h=>by simp only[vA,Ev.Ja]at h⊢;obtain⟨vs,h1,h2⟩:=h;exact⟨vs,h1,lA.ren hm cs _ (by simpa only[wG]using hM) h2⟩
 | .fn _ a c,_,hM,h=>by simp only[vA,Ev.Ja]at h⊢;obtain⟨va,vc,h1,h2,h3⟩:=h;exact⟨va,vc,h1,lA.ren hm a _ (hM.imp id (fun h=>by simp only[wG,iB]at h;exact h.1)) h2,lA.ren hm c _ (hM.imp id (fun h=>by simp only[wG,iB]at h;exact h.2)) h3⟩
theorem lA.ren {ρ ρ':sD}{M M':Nat→Prop}{w:World}{m:Nat→Option Nat}(hm:∀i j p,m i=some j→ρ i=some p→ρ' j=some p):∀(x:List V) (v:List Value),((∀b,M' b→M b)∨yN x=true)→lA ρ M w x v→lA ρ' M' w (pR m x) v
 | [],[],_,_=>by simp only[lA,pR]
 |x::xs,v::vs,hM,h=>by simp only[lA,pR]at h⊢;exact⟨vA.ren hm x v (hM.imp id (fun h=>by simp only[yN,iB]at h;exact h.1)) h.1,lA.ren hm xs vs (hM.imp id (fun h=>by simp only[yN,iB]at h;exact h.2)) h.2⟩
 | [],_::_,_,h=>by simp only[lA]at h
 |_::_,[],_,h=>by simp only[lA]at h
end
theorem tV (m:Nat→Option Nat):∀l:List V,(pR m l).length=l.length
 | []=>rfl
 |_::r=>by simp[pR,tV m r]
theorem xx (m:Nat→Option Nat)(k:IntKind)(s:Nat):∀jD:List (List Int),pR m (jD.map (.il k s))=jD.map (.il k s)
 | []=>rfl
 |_::r=>by simp only[xK,pR,Ev.Ja,xx m k s r]
theorem qB.ren {ρ ρ':sD}{M M':Nat→Prop}{w:World}{m:Nat→Option Nat}(hm:∀i j p,m i=some j→ρ i=some p→ρ' j=some p){p:Pl}{x:rA}(hM:(∀b,M' b→M b)∨iJ x=true)(h:qB ρ M w p x):qB ρ' M' w p (bM m x):=by
 cases x with
 |dead=>trivial
 |ints k l=>exact h
 |mp k n ks vs=>exact h
 |it mid wE rem cur=>
  obtain⟨h1,h2,b,mb,seen,h4,h5,h6,h7⟩:=h;refine⟨h1,h2,b,mb,seen,h4,h5,fun i hi=>?_,h7⟩;cases mid with
  |none=>cases hi
  |some j=>exact hm j i _ hi (h6 j rfl)
 |vals cs=>
  obtain⟨h1,⟨h2,h3,h4⟩|⟨b,c,h2,h3,h4,h5⟩⟩:=h
  ·subst h3;exact⟨h1,.inl ⟨h2,rfl,h4⟩⟩
  ·exact⟨by rw[tV];exact h1,.inr ⟨b,c,h2,h3,h4,lA.ren hm _ _ (by simpa only[iJ]using hM) h5⟩⟩
 |nl k s jD=>
  obtain⟨h1,⟨h2,h3,h4⟩|⟨b,c,h2,h3,h4,h5⟩⟩:=h
  ·subst h3;exact⟨h1,.inl ⟨h2,rfl,h4⟩⟩
  ·have:=lA.ren hm _ _ (hM.imp id (fun h=>by simp[iJ]at h)) h5;rw[xx]at this;exact⟨h1,.inr ⟨b,c,h2,h3,h4,this⟩⟩
theorem uU {m:Nat→Option Nat}{x:rA}:(bM m x).live↔x.live:=by cases x<;>simp[bM,rA.live]
def qT (F:Nat→Prop)(ρ:sD)(bs:List rA)(w:World)(v:V)(bs':List rA)(v':Value)(w':World):Prop:=
 ∃ρ',(∀id,id<bs.length→ρ' id=ρ id)∧(∀id,bs'.length≤id→ρ' id=none)∧mA F ρ' (qA bs') w'∧vA ρ' (av F (kA ρ' (qA bs'))) w' v v'∧uH (kA ρ (qA bs)) w (kA ρ' (qA bs')) w'
def wO (P:Program)(f:Nat):Prop:=∃fn,P.funcs[f]?=some fn∧fn.body.isNone=false∧(fn.name== "runtime.NumGoroutine")=false
structure eA (P:Program)(f:Nat)(args:List V)(bs:List rA)(v:V)(bs':List rA):Prop where
 callable:wO P f
 calls:∀F ρ w args',mA F ρ (qA bs) w→(∀id,bs.length≤id→ρ id=none)→lA ρ (av F (kA ρ (qA bs))) w args args'→
  Calls P f args'.toArray w fun e w'=>∃v',e= .returned v'∧qT F ρ bs w v bs' v' w'
def xO (P:Program)(tab:Nat→Option uA):Prop:=∀f e,tab f=some e→∀args bs a enc,e.dec args bs=some (some a,enc)→eA P f args bs (enc a).pick.1 (enc a).pick.2
theorem aD:∀(bs:List rA) (j:Nat),qA bs j=bs.getD j .dead
 | [],_=>by simp[qA]
 |_::_,0=>by simp[qA]
 |b::r,j+1=>by simp[qA,aD r j]
theorem eS:∀(bs:List rA) (n:Nat),bl bs n=bs.drop n
 |_,0=>by simp[bl]
 | [],_+1=>by simp[bl]
 |_::r,n+1=>by simp[bl,eS r n]
theorem ay {m:Nat→Option Nat}(bs:List rA)(j:Nat):qA (bs.map (bM m)) j=bM m (qA bs j):=by
 rw[aD,aD];simp only[iA,e0];cases bs[j]?<;>rfl
theorem Be {h:Nat→rA}{nid:Nat}{bs:List rA}{id:Nat}(h1:nid≤id)(h2:id<nid+bs.length):vD h (lP nid bs) id=qA bs (id-nid):=by
 induction bs generalizing h nid with
 |nil=>simp at h2;omega
 |cons b r ih=>
  simp only[lP,vD];by_cases he:id=nid
  ·subst he;rw[yC (fun hm=>by rw[wS]at hm;simp at hm;omega),if_pos rfl];simp[qA]
  ·rw[ih (by omega) (by simp at h2;omega)];have:id-nid=(id- (nid+1))+1:=by omega
   rw[this];rfl
theorem Dg {nid:Nat}{bs:List rA}{id:Nat}(h:¬(nid≤id∧id<nid+bs.length)):id∉(lP nid bs).map (·.1):=by
 rw[wS];simp;intro x hx;omega
theorem oT:∀(σ:List Nat) (bs:List rA) (i:Nat),i∈(an σ bs).map (·.1)→i∈σ
 | [],_,i,h=>by simp[an]at h
 |_::_,[],i,h=>by simp[an]at h
 |j::r,b::s,i,h=>by simp only[an,xK,hC]at h⊢;exact h.imp id (oT r s i)
theorem rZ:∀(σ:List Nat),nodup σ=true→σ.Nodup
 | [],_=>List.nodup_nil
 |i::r,h=>by simp only[nodup,iB]at h;exact y2.mpr ⟨kL.mp h.1,rZ r h.2⟩
theorem fe:∀(σ:List Nat) (bs:List rA) (h:Nat→rA) (j i:Nat),σ.Nodup→σ.length≤bs.length→σ[j]?=some i→vD h (an σ bs) i=qA bs j
 | [],_,_,_,_,_,_,hi=>by simp at hi
 |x::r,[],_,_,_,_,hl,_=>by simp at hl
 |x::r,b::s,h,0,i,hn,hl,hi=>by simp at hi;subst hi;simp only[an,vD];rw[yC (fun hm=>(y2.mp hn).1 (oT _ _ _ hm)),if_pos rfl];rfl
 |x::r,b::s,h,j+1,i,hn,hl,hi=>by simp only[an,vD];rw[fe r s _ j i (y2.mp hn).2 (by simpa using hl) (by simpa using hi)];rfl
theorem fc:∀(τ:List Nat) (h:Nat→rA) (i:Nat),i∈τ→vD h (τ.map fun i=>(i,rA.dead)) i= .dead
 |x::r,h,i,hi=>by
  simp only[xK,vD];by_cases hr:i∈r
  ·exact fc r _ i hr
  ·rw[yC (by simpa[Function.comp_def]using hr)];rcases hC.mp hi with rfl|hi
   ·rw[if_pos rfl]
   ·exact absurd hi hr
theorem yZ:∀(σ:List Nat) (i n j:Nat),zH i σ n=some j→n≤j∧σ[j-n]?=some i
 | [],i,n,j,h=>by simp[zH]at h
 |x::r,i,n,j,h=>by
  simp only[zH]at h;cases hb:Nat.beq x i<;>rw[hb]at h<;>simp only[cond_true,cond_false]at h
  ·obtain⟨h1,h2⟩:=yZ r i (n+1) j h;refine⟨by omega,?_⟩;have:j-n=(j- (n+1))+1:=by omega
   rw[this];simpa using h2
  ·simp only[Option.some.injEq]at h;subst h;have:=vB hb;subst this;simp
theorem uZ {σ:List Nat}{nid j i:Nat}(h:σ[j]?=some i):yH σ nid j=some i:=by unfold yH;rw[h]
theorem tZ {σ:List Nat}{nid j:Nat}(h:σ.length≤j):yH σ nid j=some (nid+(j-σ.length)):=by unfold yH;rw[aE h]
section
variable {P:Program}{F:Nat→Prop}{ρ:sD}{h:Nat→rA}{w:World}{nid:Nat}
mutual
theorem wy (hh:mA F ρ h w){Ml:Nat→Prop}(hM:∀b,Ml b→av F (kA ρ h) b):∀(v:V) (u:Value),(∀id∈(jI h v).2,∀b n C,ρ id=some ⟨some b,n,C⟩→(h id).live→¬Ml b)→vA ρ (av F (kA ρ h)) w v u→vA ρ Ml w (jI h v).1 u
 | .sw id s,u,hτ,hr=>by
  unfold jI at hτ⊢;split at hτ
  ·rename_i k l hid;have hl:(h id).live:=by rw[hid];trivial
   obtain⟨h0,⟨b,n,C,cap,c,h1,h2,h3,h4,h5,ho,hsz,hold⟩|⟨h1,h2,hk⟩⟩:=zF hh hr hl (by rw[hid];trivial)
   ·rw[hid]at hold;obtain⟨e1,e2,e3⟩:=hold;simp only[vA];refine⟨h0,by rw[e1];exact h2,.inr ⟨b,0,cap,by rw[e1];exact h5,by rw[e1];exact h3,ho.lt,hτ id (by simp) b n C h1 hl,fun j hj=>?_⟩⟩;rw[u4,ho.cell];exact e3 j hj
   ·rw[hid]at hk;rcases hk with⟨k2,hk⟩|hk|⟨_,_,hk⟩<;>cases hk;simp only[vA];exact⟨h0,by simp,.inl ⟨trivial,none,h2⟩⟩
  ·exact vA.avoid hM _ _ hr
 | .sl id s off len,u,hτ,hr=>by
  unfold jI at hτ⊢;split at hτ
  ·rename_i k l hid;have hl:(h id).live:=by rw[hid];trivial
   simp only[vA]at hr⊢;obtain⟨h0,⟨b,n,C,cap,h1,h2,h3,h4,h5⟩|⟨h1,a,h2⟩⟩:=hr
   ·obtain⟨c,ho,hsz,hold⟩:=hh.own hl (by rw[hid];trivial) h1;rw[hid]at hold;obtain⟨e1,e2,e3⟩:=hold;have hlen:((l.drop off).take (rG s len)).length=len*s:=by rw[bC];simp;omega
    rw[hlen];refine⟨h0,Nat.mul_mod_left _ _,.inr ⟨b,off,cap,by rw[p0 _ h0];exact h5,by rw[p0 _ h0];exact h3,ho.lt,hτ id (by simp) b n C h1 hl,fun j hj=>?_⟩⟩;rw[ho.cell,e3 _ (by omega)];congr 2;simp only[iA];rw[l4 (by rw[bC];omega),u3]
   ·subst h1;have:(l.drop off).take (rG s 0)=[]:=by rw[bC];simp
    rw[this];exact⟨h0,by simp,.inl ⟨rfl,a,h2⟩⟩
  ·exact vA.avoid hM _ _ hr
 | .agg cs,u,hτ,hr=>by unfold jI at hτ⊢;simp only[vA]at hr⊢;obtain⟨vs,h1,h2⟩:=hr;exact⟨vs,h1,wx hh hM cs _ hτ h2⟩
 | .c _,u,_,hr=>by simp only[jI];exact vA.avoid hM _ _ hr
 | .poison,u,_,hr=>by simp only[jI];exact vA.avoid hM _ _ hr
 | .ptr _ _ _,u,_,hr=>by simp only[jI];exact vA.avoid hM _ _ hr
 | .mref _,u,_,hr=>by simp only[jI];exact vA.avoid hM _ _ hr
 | .il _ _ _,u,_,hr=>by simp only[jI];exact vA.avoid hM _ _ hr
 | .iv _ _,u,_,hr=>by simp only[jI];exact vA.avoid hM _ _ hr
 | .ilp _ _ _ _,u,_,hr=>by simp only[jI];exact vA.avoid hM _ _ hr
 | .ivp _ _ _ _,u,_,hr=>by simp only[jI];exact vA.avoid hM _ _ hr
 | .tup _,u,_,hr=>by simp only[jI];exact vA.avoid hM _ _ hr
 | .fn _ _ _,u,_,hr=>by simp only[jI];exact vA.avoid hM _ _ hr
theorem wx (hh:mA F ρ h w){Ml:Nat→Prop}(hM:∀b,Ml b→av F (kA ρ h) b):∀(xs:List V) (us:List Value),(∀id∈(fU h xs).2,∀b n C,ρ id=some ⟨some b,n,C⟩→(h id).live→¬Ml b)→lA ρ (av F (kA ρ h)) w xs us→lA ρ Ml w (fU h xs).1 us
 | [],[],_,_=>by simp only[fU,lA]
 |x::xs,u::us,hτ,hr=>by unfold fU at hτ⊢;simp only[lA]at hr⊢;exact⟨wy hh hM x u (fun id hid=>hτ id (j2 _ hid)) hr.1,wx hh hM xs us (fun id hid=>hτ id (y1 _ hid)) hr.2⟩
 | [],_::_,_,hr=>by simp only[lA]at hr
 |_::_,[],_,hr=>by simp only[lA]at hr
end
theorem eR (hh:mA F ρ h w){Ml:Nat→Prop}(hM:∀b,Ml b→av F (kA ρ h) b):∀(bs:List Bool) (xs:List V) (us:List Value),(∀id∈(wD h bs xs).2,∀b n C,ρ id=some ⟨some b,n,C⟩→(h id).live→¬Ml b)→lA ρ (av F (kA ρ h)) w xs us→lA ρ Ml w (wD h bs xs).1 us
 | [],xs,us,_,hr=>by simp only[wD];exact lA.avoid hM _ _ hr
 |true::bs,[],us,_,hr=>by simp only[wD];exact lA.avoid hM _ _ hr
 |false::bs,[],us,_,hr=>by simp only[wD];exact lA.avoid hM _ _ hr
 |_::_,_::_,[],_,hr=>by simp only[lA]at hr
 |true::bs,x::xs,u::us,hτ,hr=>by unfold wD at hτ⊢;simp only[lA]at hr⊢;exact⟨wy hh hM x u (fun id hid=>hτ id (j2 _ hid)) hr.1,eR hh hM bs xs us (fun id hid=>hτ id (y1 _ hid)) hr.2⟩
 |false::bs,x::xs,u::us,hτ,hr=>by unfold wD at hτ⊢;simp only[lA]at hr⊢;exact⟨vA.avoid hM _ _ hr.1,eR hh hM bs xs us hτ hr.2⟩
end
section
variable {P:Program}{F:Nat→Prop}{ρ:sD}{h:Nat→rA}{w:World}{nid:Nat}
def Hn (F:Nat→Prop)(ρ:sD)(h:Nat→rA)(w:World)(nid:Nat)(out:sH)(v:Value)(w':World)(ρ':sD):Prop:=
 nO ρ ρ'∧(∀id,(id<nid∨nid+out.new.length≤id)→ρ' id=ρ id)∧
  mA F ρ' (zL h nid out) w'∧vA ρ' (av F (kA ρ' (zL h nid out))) w' out.val v∧uH (kA ρ h) w (kA ρ' (zL h nid out)) w'
theorem F6 (hh:mA F ρ h w){σ τ:List Nat}{v0:V}{bs0:List rA}(hn:∀id,nid≤id→id<nid+(bs0.length-σ.length)→ρ id=none)
  (hσ:σ.Nodup)(hle:σ.length≤bs0.length)(hdis:∀j∈σ,j∉τ)
  {ρ0:sD}{h0:Nat→rA}(hρ0:∀j i,σ[j]?=some i→ρ0 j=ρ i)(hρ0':∀j,σ.length≤j→ρ0 j=none)(hl0:∀j i,σ[j]?=some i→((h0 j).live↔(h i).live))(hl0':∀j,σ.length≤j→¬(h0 j).live)
  {Fl:Nat→Prop}(hFl:∀b,av F (kA ρ h) b→(∀id∈σ++τ,∀n C,ρ id=some ⟨some b,n,C⟩→¬(h id).live)→Fl b)
  {v':Value}{w':World}{ρ':sD}(hr1:∀j,j<σ.length→ρ' j=ρ0 j)(hr2:∀j,bs0.length≤j→ρ' j=none)
  (hH:mA Fl ρ' (qA bs0) w')(hv:vA ρ' (av Fl (kA ρ' (qA bs0))) w' v0 v')(he:uH (kA ρ0 h0) w (kA ρ' (qA bs0)) w'):
  ∃ρc,Hn F ρ h w nid (oG σ τ nid v0 bs0) v' w' ρc:=by
 let on:=yH σ nid
 let ρc:sD:=fun id=>if nid≤id∧id<nid+(bs0.length-σ.length)then ρ' (σ.length+(id-nid))else ρ id
 have hnew:(oG σ τ nid v0 bs0).new.length=bs0.length-σ.length:=by simp[oG,eS]
 generalize hout:oG σ τ nid v0 bs0=out at*;have hwr:out.wr=an σ (bs0.map (bM on))++(bif wG v0&&bs0.all iJ then []else τ.map fun i=>(i,.dead)):=by subst hout;rfl
 have hnw:out.new=(bs0.map (bM on)).drop σ.length:=by subst hout;simp[oG,eS];rfl
 have hval:out.val=Ja on v0:=by subst hout;rfl
 have H1:∀id,nid≤id→id<nid+(bs0.length-σ.length)→zL h nid out id=bM on (qA bs0 (σ.length+(id-nid))):=by intro id h1 h2;rw[ja,eJ,Be h1 (by rw[hnew];exact h2),hnw,←ay];rw[aD,aD];simp only[iA,u3]
 have Hx:∀id,¬(nid≤id∧id<nid+(bs0.length-σ.length))→zL h nid out id=vD h out.wr id:=by intro id hid;rw[ja,eJ,yC (Dg (by rw[hnew];exact hid))]
 have H2:∀id j,¬(nid≤id∧id<nid+(bs0.length-σ.length))→σ[j]?=some id→zL h nid out id=bM on (qA bs0 j):=by intro id j hid hj;have hm:id∈σ:=dQ hj;rw[Hx id hid,hwr,eJ,yC,fe σ _ h j id hσ (by simpa using hle) hj,ay];intro hx;cases hc:(wG v0&&bs0.all iJ)<;>rw[hc]at hx<;>simp only[cond_true,cond_false,List.map_nil,j1]at hx;simp at hx;exact hdis id hm hx
 have H4:∀id,¬(nid≤id∧id<nid+(bs0.length-σ.length))→id∉σ→(zL h nid out id).live→zL h nid out id=h id∧(id∈τ→(wG v0&&bs0.all iJ)=true):=by
  intro id hid hm hl;rw[Hx id hid,hwr,eJ]at hl⊢;cases hc:(wG v0&&bs0.all iJ)<;>rw[hc]at hl<;>simp only[cond_true,cond_false]at hl⊢
  ·have hτ:id∉τ:=by
    intro hτ;rw[fc _ _ _ hτ]at hl;exact hl
   rw[yC (by simpa[Function.comp_def]using hτ),yC (fun hx=>hm (oT _ _ _ hx))];exact⟨rfl,fun hx=>absurd hx hτ⟩
  ·simp only[vD];rw[yC (fun hx=>hm (oT _ _ _ hx))];exact⟨rfl,fun _=>trivial⟩
 have hliveM:∀b,kA ρ0 h0 b→∃i∈σ,∃n C,ρ i=some ⟨some b,n,C⟩∧(h i).live:=by
  rintro b ⟨j,n,C,h1,h2⟩;rcases hW j σ.length with hj|hj
  ·have hi:=hD hj;rw[hρ0 j _ hi]at h1;exact⟨_,dQ hi,n,C,h1,(hl0 j _ hi).mp h2⟩
  ·exact absurd h2 (hl0' j hj)
 have hliveM':∀b,kA ρ0 h0 b→kA ρ h b:=fun b hb=>by obtain⟨i,_,n,C,h1,h2⟩:=hliveM b hb;exact⟨i,n,C,h1,h2⟩
 have hρc1:∀id,nid≤id→id<nid+(bs0.length-σ.length)→ρc id=ρ' (σ.length+(id-nid)):=fun id h1 h2=>if_pos ⟨h1,h2⟩;have hρc2:∀id,¬(nid≤id∧id<nid+(bs0.length-σ.length))→ρc id=ρ id:=fun id h1=>if_neg h1;have src:∀id,(zL h nid out id).live→(∃j,j<bs0.length∧on j=some id∧zL h nid out id=bM on (qA bs0 j)∧ρc id=ρ' j∧(qA bs0 j).live)∨
   (id∉σ∧zL h nid out id=h id∧ρc id=ρ id∧(h id).live∧(id∈τ→(wG v0&&bs0.all iJ)=true)):=by
  intro id hl;by_cases hr:nid≤id∧id<nid+(bs0.length-σ.length)
  ·refine .inl ⟨σ.length+(id-nid),by omega,?_,H1 id hr.1 hr.2,hρc1 id hr.1 hr.2,?_⟩
   ·show yH σ nid _=_;rw[tZ (by omega)];congr 1;omega
   ·rw[H1 id hr.1 hr.2]at hl;exact uU.mp hl
  ·by_cases hm:id∈σ
   ·obtain⟨j,hj,hij⟩:=List.mem_iff_getElem.mp hm;have hj':σ[j]?=some id:=by rw[hD hj,hij]
    refine .inl ⟨j,by omega,uZ hj',H2 id j hr hj',?_,?_⟩
    ·rw[hρc2 id hr,hr1 j hj,hρ0 j id hj']
    ·rw[H2 id j hr hj']at hl;exact uU.mp hl
   ·obtain⟨h1,h2⟩:=H4 id hr hm hl;exact .inr ⟨hm,h1,hρc2 id hr,h1▸hl,h2⟩
 have hren:∀j i p,on j=some i→ρ' j=some p→ρc i=some p:=by
  intro j i p hj hp;have hjl:j<bs0.length:=by
   rcases hW j bs0.length with h|h
   ·exact h
   ·rw[hr2 j h]at hp;cases hp
  rcases hW j σ.length with hlt|hge
  ·have hi:=hD hlt;have:i=σ[j]:=by have:=uZ (nid:=nid) hi;rw[show yH σ nid j=on j from rfl,hj]at this;exact Option.some.inj this
   subst this;rw[hr1 j hlt,hρ0 j _ hi]at hp;have hnr:¬(nid≤σ[j]∧σ[j]<nid+(bs0.length-σ.length)):=fun hr=>by rw[hn _ hr.1 hr.2]at hp;cases hp
   rw[hρc2 _ hnr];exact hp
  ·have:i=nid+(j-σ.length):=by have:=tZ (nid:=nid) hge;rw[show yH σ nid j=on j from rfl,hj]at this;exact Option.some.inj this
   subst this;rw[hρc1 _ (by omega) (by omega)];have:σ.length+(nid+(j-σ.length)-nid)=j:=by omega
   rw[this];exact hp
 have hsub:nO ρ ρc:=by
  intro id p hp;have hnr:¬(nid≤id∧id<nid+(bs0.length-σ.length)):=fun hr=>by rw[hn _ hr.1 hr.2]at hp;cases hp
  rw[hρc2 id hnr];exact hp
 have hext:uH (kA ρ h) w (kA ρc (zL h nid out)) w':=by
  refine⟨he.size,fun b hb hm=>he.same b hb (fun hx=>hm (hliveM' b hx)),?_,he.keeps⟩;rintro b ⟨id,n,C,h1,h2⟩;rcases src id h2 with⟨j,_,_,_,h3,h4⟩|⟨_,_,h3,h4,_⟩
  ·rw[h3]at h1;exact(he.sub b ⟨j,n,C,h1,h4⟩).imp (hliveM' b) (fun x=>x)
  ·rw[h3]at h1;exact .inl ⟨id,n,C,h1,h4⟩
 have havoid:(wG v0&&bs0.all iJ)=true∨∀b,av F (kA ρc (zL h nid out)) b→av Fl (kA ρ' (qA bs0)) b:=by
  cases hc:(wG v0&&bs0.all iJ)with
  |true=>exact .inl rfl
  |false=>
   refine .inr (fun b hb=>?_);rcases hb with hb|⟨id,n,C,h1,h2⟩
   ·exact .inl (hFl b (.inl hb) (fun id _ n C hp hl=>hh.out b ⟨id,n,C,hp,hl⟩ hb))
   ·rcases src id h2 with⟨j,_,_,_,h3,h4⟩|⟨hm,_,h3,h4,hτ⟩
    ·rw[h3]at h1;exact .inr ⟨j,n,C,h1,h4⟩
    ·rw[h3]at h1;refine .inl (hFl b (.inr ⟨id,n,C,h1,h4⟩) (fun id' hid' n' C' hp hl=>?_));have:=hh.inj id' id b n' C' n C hl h4 hp h1;subst this;rcases zE.mp hid' with hx|hx
     ·exact hm hx
     ·have:=hτ hx;rw[hc]at this;cases this
 have hav1:∀{x:V},((wG v0&&bs0.all iJ)=true→wG x=true)→((∀b,av F (kA ρc (zL h nid out)) b→av Fl (kA ρ' (qA bs0)) b)∨wG x=true):=fun hx=>havoid.elim (fun hc=>.inr (hx hc)) .inl;refine⟨ρc,hsub,fun id hid=>hρc2 id (by rw[hnew]at hid;omega),⟨?_,?_,?_,hh.low' hext,hh.out' hext⟩,?_,hext⟩
 ·intro id p hp;by_cases hr:nid≤id∧id<nid+(bs0.length-σ.length)
  ·rw[hρc1 id hr.1 hr.2]at hp;exact hH.wf _ _ hp
  ·rw[hρc2 id hr]at hp;exact hh.wf _ _ hp
 ·intro id hl;rcases src id hl with⟨j,hjl,h1,h2,h3,h4⟩|⟨hm,h2,h3,h4,_⟩
  ·obtain⟨p,hp,hb⟩:=hH.rel j h4;refine⟨p,by rw[h3];exact hp,?_⟩;rw[h2];refine qB.ren hren ?_ hb;rcases havoid with hc|hc
   ·refine .inr ?_;simp only[iB,yK]at hc;refine hc.2 _ ?_;rw[aD,iA,hD hjl];exact List.getElem_mem hjl
   ·exact .inl hc
  ·obtain⟨p,hp,hb⟩:=hh.rel id h4;refine⟨p,by rw[h3];exact hp,?_⟩;rw[h2];refine qB.mono hsub hext hb (fun b hb'=>?_);obtain⟨pb,pn,pC⟩:=p;dsimp only at hb';subst hb';refine he.same b (kA.lt hh ⟨id,pn,pC,hp,h4⟩) (fun hx=>?_);obtain⟨i,hi,n,C,h5,h6⟩:=hliveM b hx;have:=hh.inj i id b _ _ _ _ h6 h4 h5 hp;subst this;exact hm hi
 ·intro i i' b n C n' C' hi hi' hpi hpi';have cross:∀{j id n C n' C'},(qA bs0 j).live→ρ' j=some ⟨some b,n,C⟩→id∉σ→(h id).live→ρ id=some ⟨some b,n',C'⟩→False:=by
   intro j id n C n' C' h1 h2 h3 h4 h5;rcases he.sub b ⟨j,n,C,h2,h1⟩with hx|hx
   ·obtain⟨i,hi,n2,C2,h6,h7⟩:=hliveM b hx;have:=hh.inj i id b _ _ _ _ h7 h4 h6 h5;subst this;exact h3 hi
   ·have:=kA.lt hh ⟨id,n',C',h5,h4⟩;omega
  rcases src i hi with⟨j,_,h1,_,h3,h4⟩|⟨hm,_,h3,h4,_⟩<;>rcases src i' hi' with⟨j',_,h1',_,h3',h4'⟩|⟨hm',_,h3',h4',_⟩<;>rw[h3]at hpi<;>rw[h3']at hpi'
  ·have:=hH.inj j j' b _ _ _ _ h4 h4' hpi hpi';subst this;rw[h1]at h1';exact Option.some.inj h1'
  ·exact(cross h4 hpi hm' h4' hpi').elim
  ·exact(cross h4' hpi' hm h4 hpi).elim
  ·exact hh.inj i i' b _ _ _ _ h4 h4' hpi hpi'
 ·rw[hval];exact vA.ren hren _ _ (hav1 (fun hc=>by simp only[iB]at hc;exact hc.1)) hv
theorem F8 {tab:Nat→Option uA}(htab:xO P tab)(hh:mA F ρ h w){f:Nat}{args:List V}{vs:List Value}{out:sH}(hc:ao tab nid f args h out)(hn:∀id,nid≤id→id<nid+out.new.length→ρ id=none)
  (hr:lA ρ (av F (kA ρ h)) w args vs):wO P f∧Calls P f vs.toArray w fun e w'=>∃v' ρ',e= .returned v'∧Hn F ρ h w nid out v' w' ρ':=by
 obtain⟨e,at_,σ,enc,a,h1,h2,h3,h4,h5,h6,h7,h8,h9⟩:=hc;have hS:=htab f e h1 _ _ a enc h4;have hσ:=rZ σ h7;have hdis:∀j∈σ,j∉at_.2:=jQ.mp (by rw[h8];rfl)
 let ρ0:sD:=fun j=>match σ[j]? with|some i=>ρ i|none=>none
 let Fl:Nat→Prop:=fun b=>av F (kA ρ h) b∧∀id∈σ++at_.2,∀n C,ρ id=some ⟨some b,n,C⟩→¬(h id).live
 have hρ0:∀j i,σ[j]?=some i→ρ0 j=ρ i:=fun j i hj=>by simp only[ρ0,hj]
 have hρ0':∀j,σ.length≤j→ρ0 j=none:=fun j hj=>by simp only[ρ0,aE hj]
 have hb0:∀j i,σ[j]?=some i→qA (σ.map fun i=>bM (zH · σ 0) (h i)) j=bM (zH · σ 0) (h i):=fun j i hj=>by rw[aD,iA,e0,hj];rfl
 have hb0':∀j,σ.length≤j→qA (σ.map fun i=>bM (zH · σ 0) (h i)) j= .dead:=fun j hj=>by rw[aD,iA,e0,aE hj];rfl
 have hl0:∀j i,σ[j]?=some i→((qA (σ.map fun i=>bM (zH · σ 0) (h i)) j).live↔(h i).live):=fun j i hj=>by rw[hb0 j i hj];exact uU
 have hl0':∀j,σ.length≤j→¬(qA (σ.map fun i=>bM (zH · σ 0) (h i)) j).live:=fun j hj=>by rw[hb0' j hj];exact id
 have hren:∀i j p,zH i σ 0=some j→ρ i=some p→ρ0 j=some p:=fun i j p hj hp=>by have:=(yZ σ i 0 j hj).2;rw[hρ0 j i (by simpa using this)];exact hp
 generalize hbs:(σ.map fun i=>bM (zH · σ 0) (h i))=bs at*;have hlen:bs.length=σ.length:=by subst hbs;simp
 have hlm:∀b,kA ρ0 (qA bs) b→∃i∈σ,∃n C,ρ i=some ⟨some b,n,C⟩∧(h i).live:=by
  rintro b ⟨j,n,C,g1,g2⟩;rcases hW j σ.length with hj|hj
  ·have hi:=hD hj;rw[hρ0 j _ hi]at g1;exact⟨_,dQ hi,n,C,g1,(hl0 j _ hi).mp g2⟩
  ·exact absurd g2 (hl0' j hj)
 have hM:∀b,av Fl (kA ρ0 (qA bs)) b→av F (kA ρ h) b:=by
  rintro b (hb|hb)
  ·exact hb.1
  ·obtain⟨i,_,n,C,g1,g2⟩:=hlm b hb;exact .inr ⟨i,n,C,g1,g2⟩
 have hH:mA Fl ρ0 (qA bs) w:=by
  have hex:∀j,(qA bs j).live→∃i,σ[j]?=some i:=fun j hl=>by
   rcases hW j σ.length with hj|hj
   ·exact⟨_,hD hj⟩
   ·exact absurd hl (hl0' j hj)
  refine⟨?_,?_,?_,?_,?_⟩
  ·intro j p hp;rcases hW j σ.length with hj|hj
   ·rw[hρ0 j _ (hD hj)]at hp;exact hh.wf _ _ hp
   ·rw[hρ0' j hj]at hp;cases hp
  ·intro j hl;obtain⟨i,hi⟩:=hex j hl;obtain⟨p,hp,hb⟩:=hh.rel i ((hl0 j i hi).mp hl);refine⟨p,by rw[hρ0 j i hi];exact hp,?_⟩;rw[hb0 j i hi];exact qB.ren hren (.inl hM) hb
  ·intro j j' b n C n' C' hl hl' hp hp';obtain⟨i,hi⟩:=hex j hl;obtain⟨i',hi'⟩:=hex j' hl';rw[hρ0 j i hi]at hp;rw[hρ0 j' i' hi']at hp';have:=hh.inj i i' b _ _ _ _ ((hl0 j i hi).mp hl) ((hl0 j' i' hi').mp hl') hp hp';subst this;have hj:j<σ.length:=(hN.mp hi).1;exact(List.getElem?_inj hj hσ).mp (by rw[hi,hi'])
  ·rintro b ⟨hb,_⟩;rcases hb with hb|hb
   ·exact hh.low b hb
   ·exact kA.lt hh hb
  ·intro b hb hf;obtain⟨i,hi,n,C,g1,g2⟩:=hlm b hb;exact hf.2 i (by simp[hi]) n C g1 g2
 have hargs:lA ρ (av Fl (kA ρ0 (qA bs))) w at_.1 vs:=by
  have:=eR (Ml:=av Fl (kA ρ0 (qA bs))) hh hM e.imm args vs ?_ hr
  ·rw[h2]at this;exact this
  ·rw[h2];intro id hid b n C hp hl hx;rcases hx with hx|hx
   ·exact hx.2 id (by simp[hid]) n C hp hl
   ·obtain⟨i,hi,n',C',g1,g2⟩:=hlm b hx;have:=hh.inj i id b _ _ _ _ g2 hl g1 hp;subst this;exact hdis i hi hid
 refine⟨hS.callable,Calls.mono (hS.calls Fl ρ0 w vs hH (fun id hid=>hρ0' id (by omega)) (lA.ren hren _ _ (.inl (fun b hb=>hb)) hargs)) ?_⟩;rintro e' w' ⟨v',he',ρ',g1,g2,g3,g4,g5⟩;have hnew:out.new.length=(enc a).pick.2.length-σ.length:=by rw[h9];simp[oG,eS]
 obtain⟨ρc,hpost⟩:=F6 (nid:=nid) hh (v0:=(enc a).pick.1) (bs0:=(enc a).pick.2) (fun id k1 k2=>hn id k1 (by omega)) hσ h6 hdis hρ0 hρ0' hl0 hl0' (Fl:=Fl) (fun b k1 k2=>⟨k1,k2⟩) (fun j hj=>g1 j (by omega)) g2 g3 g4 g5;rw[←h9]at hpost;exact⟨v',ρc,he',hpost⟩
end
structure yA (P:Program)(E:jC):Prop where
 ty:bF P E.ty
 tab:xO P E.tab
structure km (E:jC)(F:Nat→Prop)(ρ:sD)(T:Nat→V)(h:Nat→rA)(a:Act)(w:World):Prop where
 heap:mA F ρ h w
 tmps:∀t,vA ρ (av F (kA ρ h)) w (T t) (a.eval (.tmp t))
 size:a.tmps.size=E.ntmps
 defers:a.defers=[]
theorem Bf {ρ:sD}{M:Nat→Prop}{w:World}(v:Value):vA ρ M w (jv v) v:=by
 unfold jv;split
 ·rename_i cs;simp only[vA];refine⟨cs,rfl,?_⟩;generalize cs.toList=l;induction l with
  |nil=>simp[lA]
  |cons x l ih=>simp only[xK,lA,vA];exact⟨trivial,ih⟩
 ·simp only[vA]
section
variable {P:Program}{E:jC}{F:Nat→Prop}{ρ:sD}{T:Nat→V}{h:Nat→rA}{a:Act}{w:World}
theorem km.ev (hr:km E F ρ T h a w)(x:Operand):vA ρ (av F (kA ρ h)) w (wj T x) (a.eval x):=by
 cases x with
 |tmp t=>exact hr.tmps t
 |const v=>exact Bf v
 |global g=>simp only[wj,vA]
 |func f=>simp only[wj,vA,Act.eval];exact⟨#[],#[],rfl,by simp[lA],by simp[lA]⟩
theorem km.put {ρ':sD}{h':Nat→rA}{w':World}(hr:km E F ρ T h a w)(hs:nO ρ ρ')(hh:mA F ρ' h' w')(he:uH (kA ρ h) w (kA ρ' h') w'){d:Option Nat}(hd:wh E.ntmps d=true){x:V}{v:Value}(hx:vA ρ' (av F (kA ρ' h')) w' x v):
  km E F ρ' (tI T d x) h' (a.put d v) w':=by
 have hm:∀t,vA ρ' (av F (kA ρ' h')) w' (T t) (a.eval (.tmp t)):=fun t=>vA.mono hs he _ _ (hr.tmps t);cases d with
 |none=>exact⟨hh,hm,hr.size,hr.defers⟩
 |some d=>
  have hlt:d<a.tmps.size:=by rw[hr.size];exact dD hd
  refine⟨hh,fun t=>?_,by simp[Act.put,hr.size],hr.defers⟩;simp only[tI,Act.put,Act.eval];by_cases ht:t=d
  ·subst ht;rw[if_pos rfl,cD,o0 hlt];exact hx
  ·rw[if_neg ht,cD,Array.getElem?_setIfInBounds_ne (Ne.symm ht),←cD];exact hm t
theorem yj {all:Array Oper}(hr:km E F ρ T h a w){o:Oper}{b:Bool}(hw:bN all.toList T o=some b):Region.wanted o (yielded all a.tmps)=b:=by
 unfold bN at hw;unfold Region.wanted;cases hg:o.guard with
 |none=>rw[hg]at hw;simp only[Option.some.injEq]at hw;exact hw
 |some gw=>
  obtain⟨j,want⟩:=gw;rw[hg]at hw;dsimp only at hw⊢;unfold yielded;rw[Array.getElem?_toList]at hw;cases hd:(all[j]?).bind (·.dst)with
  |none=>rw[hd]at hw;cases hw
  |some g=>
   rw[hd]at hw;dsimp only at hw;have hv:=hr.tmps g;simp only[Option.bind_some];split at hw
   ·rename_i b' hb;rw[hb]at hv;simp only[vA,Act.eval]at hv;simp only[Option.some.injEq]at hw;rw[cD]at hv;cases ht:a.tmps[g]? with
    |none=>rw[ht]at hv;cases hv
    |some u=>rw[ht]at hv;simp only[k0]at hv;subst hv;rw[←hw];cases b'<;>cases want<;>rfl
   ·rename_i vs hb;rw[hb]at hv;simp only[vA,Act.eval]at hv;simp only[Option.some.injEq]at hw;rw[cD]at hv;rw[←hw];cases ht:a.tmps[g]? with
    |none=>rfl
    |some u=>rw[ht]at hv;simp only[k0]at hv;subst hv;rfl
   ·cases hw
theorem lA.map_evF {xs:List Operand}(hr:km E F ρ T h a w):lA ρ (av F (kA ρ h)) w (xs.map (wj T)) (xs.map a.eval):=by
 induction xs with
 |nil=>simp[lA]
 |cons x xs ih=>simp only[xK,lA];exact⟨hr.ev x,ih⟩
theorem Eb {o:Oper}{f:Operand}{args:Array Operand}{ts:Array TypeId}{g:FuncId}{va vc:Array Value}(ho:o.op= .call ⟨.value f,args,ts⟩)(hf:a.eval f= .func (.func g) va vc)(hc:wO P g):
  (execOp a.eval o).run P w= .ok (.enter g (va++args.map a.eval++vc)) w:=by
 obtain⟨fn,h1,h2,h3⟩:=hc;have h4:fn.name≠ "runtime.NumGoroutine" :=by simpa using h3
 cases hb:fn.body with
 |none=>rw[hb]at h2;cases h2
 |some c=>unfold execOp;rw[ho];simp[resolve,Deferred.ofValue,hf,invoke,callFunc,h1,h4,hb]
def lX (E:jC)(F:Nat→Prop)(len base:Nat)(ρ0:sD)(M0:Nat→Prop)(w0:World)(T:Nat→V)(h:Nat→rA)(rem:List aK)(a:Act)(w:World):Prop:=
 ∃ρ,km E F ρ T h a w∧(∀x∈rem,∀id,x.nid≤id→id<x.nid+vO E.tab x.o.op→ρ id=none)∧rem.Pairwise (fun x y=>x.nid+vO E.tab x.o.op≤y.nid)∧
  (∀id,len≤id→ρ id=none)∧(∀id,id<base→ρ id=ρ0 id)∧(∀x∈rem,base≤x.nid)∧uH M0 w0 (kA ρ h) w
theorem lX.next {len base:Nat}{ρ0:sD}{M0:Nat→Prop}{w0:World}{pre post:List aK}{x:aK}(hr:km E F ρ T h a w)
  (h1:∀y∈pre++x::post,∀id,y.nid≤id→id<y.nid+vO E.tab y.o.op→ρ id=none)(h2:(pre++x::post).Pairwise (fun x y=>x.nid+vO E.tab x.o.op≤y.nid))
  (h3:∀id,len≤id→ρ id=none)(h4:∀id,id<base→ρ id=ρ0 id)(h5:∀y∈pre++x::post,base≤y.nid)(h6:uH M0 w0 (kA ρ h) w)
  (hd:wh E.ntmps x.o.dst=true){out:sH}(hn:out.new.length≤vO E.tab x.o.op)(hl:x.nid+vO E.tab x.o.op≤len){v:Value}{w':World}{ρ':sD}(hp:Hn F ρ h w x.nid out v w' ρ'):
  lX E F len base ρ0 M0 w0 (tI T x.o.dst out.val) (vD h (out.wr++lP x.nid out.new)) (pre++post) (a.put x.o.dst v) w':=by
 obtain⟨p1,p2,p3,p4,p5⟩:=hp;rw[ja]at p3 p4 p5;rw[c3]at h2;obtain⟨q1,q2,q3⟩:=h2;rw[w3]at q2;refine⟨ρ',hr.put p1 p3 p5 hd p4,?_,?_,?_,?_,?_,h6.trans p5⟩
 ·intro y hy id k1 k2;rcases zE.mp hy with hy|hy
  ·have:=q3 y hy x (by simp);rw[p2 id (by omega)];exact h1 y (by simp[hy]) id k1 k2
  ·have:=q2.1 y hy;rw[p2 id (by omega)];exact h1 y (by simp[hy]) id k1 k2
 ·rw[c3];exact⟨q1,q2.2,fun y hy z hz=>q3 y hy z (by simp[hz])⟩
 ·intro id hid;rw[p2 id (by omega)];exact h3 id hid
 ·intro id hid;have:=h5 x (by simp);rw[p2 id (by omega)];exact h4 id hid
 ·intro y hy;refine h5 y ?_;simp only[zE,hC]at hy⊢;rcases hy with hy|hy<;>simp[hy]
theorem yb (hE:yA P E){ops:Array Oper}{Q:Exit→Act→World→Prop}{len base:Nat}{ρ0:sD}{M0:Nat→Prop}{w0:World}{pre post:List aK}{x:aK}{r:mX}{K:Act→World→Prop}
  (hc:tH E ops.toList len x T h r)(hI:lX E F len base ρ0 M0 w0 T h (pre++x::post) a w)(hx:ops[x.i]?=some x.o)
  (hK:∀a' w',lX E F len base ρ0 M0 w0 (tI T x.o.dst r.v) (vD h r.ups) (pre++post) a' w'→K a' w'):wpOp P ops Q x.i K a w:=by
 obtain⟨ρ,hr,h1,h2,h3,h4,h5,h6⟩:=hI;obtain⟨c1,hd,⟨hw,out,hex,rfl,hn,hl,_⟩|⟨hw,rfl⟩⟩:=hc
 ·unfold wpOp;rw[hx];dsimp only;rw[yj hr hw,if_pos rfl];refine .inl ?_;unfold Oper.wp;have hslot:∀id,x.nid≤id→id<x.nid+out.new.length→ρ id=none:=fun id k1 k2=>h1 x (by simp) id k1 (by omega);rcases hex with⟨f,args,ts,g,first,cap,e1,e2,e3⟩|hact
  ·have hf:=hr.ev f;rw[e2]at hf;simp only[vA]at hf;obtain⟨va,vc,f1,f2,f3⟩:=hf;have hargs:lA ρ (av F (kA ρ h)) w (first++(args.toList.map (wj T)++cap)) (va.toList++(args.toList.map a.eval++vc.toList)):=
    f2.append ((lA.map_evF hr).append f3)
   obtain⟨hcal,hcalls⟩:=F8 hE.tab hr.heap e3 hslot hargs;rw[Eb e1 f1 hcal,Oper.upon_enter];have hav:(va++args.map a.eval++vc)=(va.toList++(args.toList.map a.eval++vc.toList)).toArray:=by apply Array.toList_inj.mp;simp
   rw[hav];refine Calls.mono hcalls ?_;rintro e w' ⟨v',ρ',rfl,hp⟩;exact hK _ _ (lX.next hr h1 h2 h3 h4 h5 h6 hd hn hl hp)
  ·obtain⟨v,w',ρ',hrun,p⟩:=Hr (P:=P) hE.ty hr.heap hr.ev hslot x.o.op x.o rfl hact;rcases hrun with hrun|⟨hrun,rfl⟩
   ·rw[hrun,Oper.upon_value];exact hK _ _ (lX.next hr h1 h2 h3 h4 h5 h6 hd hn hl p)
   ·rw[hrun,Oper.upon_skip];exact hK _ _ (lX.next hr h1 h2 h3 h4 h5 h6 hd hn hl p)
 ·unfold wpOp;rw[hx];dsimp only;rw[yj hr hw];simp only[Bool.false_eq_true,if_false];refine hK _ _ ⟨ρ,hr.put (nO.refl _) hr.heap (uH.refl _ _) hd (by simp only[eM,vA];rfl),?_,?_,h3,h4,?_,h6⟩
  ·intro y hy;refine h1 y ?_;simp only[zE,hC]at hy⊢;rcases hy with hy|hy<;>simp[hy]
  ·exact h2.sublist (List.Sublist.append_left (l5 _ _) _)
  ·intro y hy;refine h5 y ?_;simp only[zE,hC]at hy⊢;rcases hy with hy|hy<;>simp[hy]
theorem xc (tab:Nat→Option uA):∀(ops:List Oper) (i nid:Nat),(nK tab i nid ops).map (·.i)=(List.range ops.length).map (i+ ·)
 | [],_,_=>rfl
 |o::r,i,nid=>by simp only[nK,xK,hU,c5,n4,xc tab r];simp[Function.comp_def,Nat.add_assoc,Nat.add_comm 1]
theorem xd (tab:Nat→Option uA):∀(ops:List Oper) (i nid:Nat),∀x∈nK tab i nid ops,i≤x.i∧ops[x.i-i]?=some x.o
 | [],_,_,x,hx=>by simp[nK]at hx
 |o::r,i,nid,x,hx=>by
  simp only[nK,hC]at hx;rcases hx with rfl|hx
  ·simp
  ·obtain⟨h1,h2⟩:=xd tab r _ _ x hx;refine⟨by omega,?_⟩;have:x.i-i=(x.i- (i+1))+1:=by omega
   rw[this];simpa using h2
theorem cq (tab:Nat→Option uA):∀(ops:List Oper) (i nid:Nat),(∀x∈nK tab i nid ops,nid≤x.nid)∧(nK tab i nid ops).Pairwise (fun x y=>x.nid+vO tab x.o.op≤y.nid)
 | [],_,_=>⟨by simp[nK],by simp[nK]⟩
 |o::r,i,nid=>by
  obtain⟨h1,h2⟩:=cq tab r (i+1) (nid+vO tab o.op);simp only[nK];refine⟨fun x hx=>?_,w3.mpr ⟨fun y hy=>h1 y hy,h2⟩⟩;rcases hC.mp hx with rfl|hx
  ·exact q5 _
  ·exact Nat.le_trans (Nat.le_add_right _ _) (h1 x hx)
theorem km.heq {w':World}(hr:km E F ρ T h a w)(he:w'.heap=w.heap):km E F ρ T h a w':=
 ⟨hr.heap.heq he,fun t=>vA.world he _ _ (hr.tmps t),hr.size,hr.defers⟩
theorem Bh.rows {len:Nat}{all:List Oper}:∀(L:List (aK×mX)) (T:Nat→V) (h:Nat→rA) {T':Nat→V} {h':Nat→rA},Bh E all len L T h T' h'→∀p∈L,p.2.i=p.1.i
 | [],_,_,_,_,_,p,hp=>by simp at hp
 |q::L,T,h,_,_,ht,p,hp=>by
  rcases hC.mp hp with rfl|hp
  ·exact ht.1.1
  ·exact Bh.rows L _ _ ht.2 p hp
theorem ra (H:List rA)(n:Nat):qA (H++List.replicate n .dead)=qA H:=by
 funext j;rw[aD,aD];simp only[iA,zB,w4];by_cases hj:j<H.length
 ·rw[if_pos hj]
 ·rw[if_neg hj,aE (by omega)];split<;>rfl
theorem Ay (hE:yA P E)(hmix:P.follows .mixedOrders=true){id:Nat}{ops:Array Oper}{draw:Bool}{s:St}{R:Type}{k:St→Option R}{r:R}(hr:lY E ops draw s k=some r):
  ∃s',k s'=some r∧s.H.length≤s'.H.length∧∀F ρ a w Q,km E F ρ (iE s.T) (qA s.H) a w→(∀j,s.H.length≤j→ρ j=none)→
   (∀ρ' a' w',km E F ρ' (iE s'.T) (qA s'.H) a' w'→(∀j,s'.H.length≤j→ρ' j=none)→(∀j,j<s.H.length→ρ' j=ρ j)→uH (kA ρ (qA s.H)) w (kA ρ' (qA s'.H)) w'→Q .normal a' w')→
   (Code.region id ops draw).wp P Q a w:=by
 unfold lY at hr;obtain⟨rs,T',H',ht,hlen,hk⟩:=se _ _ _ _ _ _ hr;obtain⟨hok,hk⟩:=gA hk;rw[ra]at ht;obtain⟨L,l1,l2,l3⟩:=ht.pairs;simp only[List.length_append,List.length_replicate]at hlen l3;refine⟨⟨T',H'⟩,hk,by dsimp only;omega,?_⟩;intro F ρ a w Q hrep hnone hQ;obtain⟨n1,n2⟩:=cq E.tab ops.toList 0 s.H.length;have ho:∀p∈L,ops[p.1.i]?=some p.1.o:=by
  intro p hp;have hm:p.1∈nK E.tab 0 s.H.length ops.toList:=by rw[←l1];exact n3 hp
  have:=(xd _ _ _ _ _ hm).2;simpa using this
 have hI:∀w2:World,w2.heap=w.heap→iH w w2→lX E F (s.H.length+yW E.tab ops.toList) s.H.length ρ (kA ρ (qA s.H)) w (iE s.T) (qA s.H) (L.map (·.1)) a w2:=by intro w2 hw2 hk2;rw[l1];exact⟨ρ,hrep.heq hw2,fun x hx id h1 h2=>hnone id (Nat.le_trans (n1 x hx) h1),n2,fun id hid=>hnone id (by omega),fun _ _=>rfl,n1,uH.heq hw2 hk2⟩
 have hfin:∀a' w',lX E F (s.H.length+yW E.tab ops.toList) s.H.length ρ (kA ρ (qA s.H)) w (iE T') (qA H') [] a' w'→Q .normal a' w':=by rintro a' w' ⟨ρ',r1,_,_,r2,r3,_,r4⟩;exact hQ ρ' a' w' r1 (fun j hj=>r2 j (by dsimp only at hj;omega)) r3 r4
 have hmi:L.map (·.1.i)=List.range ops.size:=by
  have:L.map (·.1.i)=(L.map (·.1)).map (·.i):=by simp[n4,Function.comp_def]
  rw[this,l1,xc];simp
 cases draw with
 |false=>refine wp_region ?_;rw[←hmi];exact Ez (lX E F _ s.H.length ρ (kA ρ (qA s.H)) w) (fun T h pre x post r a w K hc hI hx hK=>yb hE hc hI hx hK) hfin L _ _ a w l3 (hI w rfl (.refl _)) ho
 |true=>
  simp only[Bool.not_true,Bool.false_or,iB]at hok;obtain⟨⟨k1,k2⟩,k3⟩:=hok;refine wp_region_any hmix ?_;refine Ey (lX E F _ s.H.length ρ (kA ρ (qA s.H)) w) (fun T h pre x post r a w K hc hI hx hK=>yb hE hc hI hx hK) k1 hfin ops.size _ L _ _ a _ l3 (hI _ rfl ⟨rfl,rfl,rfl,by first|exact q5 _|exact Nat.le_succ _|exact Nat.le_add_right _ _⟩) ?_ (by simp) ?_ ho (l3.rows) ?_ ?_
  ·have:=congrArg List.length hmi;simp at this;omega
  ·rw[hmi];symm;rw[j3];intro i hi;simp only[u0]at hi;simp[cD,hi]
  ·have hp:=oO _ k3;rw[y4,List.pairwise_reverse,←l2,n4,List.pairwise_map]at hp;exact hp
  ·intro j o hj;rw[cD]at hj;simp[y3]at hj;split at hj<;>simp_all
end
mutual
theorem vA.agree {ρ ρ':sD}{M:Nat→Prop}{w:World}:∀(x:V) (v:Value),(∀i∈cO x,∀p,ρ i=some p→ρ' i=some p)→vA ρ M w x v→vA ρ' M w x v
 | .c _,_,_,h=>by simpa only[vA]using h
 | .poison,_,_,_=>by simp only[vA]
 | .ptr id _ _,_,hm,h=>by simp only[vA]at h⊢;obtain⟨b,n,C,h1,h2,h3⟩:=h;exact⟨b,n,C,hm id (by simp[cO]) _ h1,h2,h3⟩
 | .sw id _,_,hm,h=>by
  simp only[vA]at h⊢;obtain⟨h0,⟨b,n,C,cap,h1,h2⟩|⟨h1,h2⟩⟩:=h
  ·exact⟨h0,.inl ⟨b,n,C,cap,hm id (by simp[cO]) _ h1,h2⟩⟩
  ·exact⟨h0,.inr ⟨hm id (by simp[cO]) _ h1,h2⟩⟩
 | .sl id _ _ _,_,hm,h=>by
  simp only[vA]at h⊢;obtain⟨h0,⟨b,n,C,cap,h1,h2⟩|⟨h1,h2⟩⟩:=h
  ·exact⟨h0,.inl ⟨b,n,C,cap,hm id (by simp[cO]) _ h1,h2⟩⟩
  ·exact⟨h0,.inr ⟨h1,h2⟩⟩
 | .mref id,_,hm,h=>by simp only[vA]at h⊢;obtain⟨b,h1,h2⟩:=h;exact⟨b,hm id (by simp[cO]) _ h1,h2⟩
 | .il _ _ _,_,_,h=>by simpa only[vA]using h
 | .iv _ _,_,_,h=>by simpa only[vA]using h
 | .ilp _ _ _ _,_,_,h=>by simpa only[vA]using h
 | .ivp _ _ _ _,_,_,h=>by simpa only[vA]using h
 | .agg cs,_,hm,h=>by simp only[vA]at h⊢;obtain⟨vs,h1,h2⟩:=h;exact⟨vs,h1,lA.agree cs _ (fun i hi=>hm i (by simpa only[cO]using hi)) h2⟩
 | .tup cs,_,hm,h=>by simp only[vA]at h⊢;obtain⟨vs,h1,h2⟩:=h;exact⟨vs,h1,lA.agree cs _ (fun i hi=>hm i (by simpa only[cO]using hi)) h2⟩
 | .fn _ a c,_,hm,h=>by simp only[vA]at h⊢;obtain⟨va,vc,h1,h2,h3⟩:=h;exact⟨va,vc,h1,lA.agree a _ (fun i hi=>hm i (by simp only[cO,zE];exact .inl hi)) h2,lA.agree c _ (fun i hi=>hm i (by simp only[cO,zE];exact .inr hi)) h3⟩
theorem lA.agree {ρ ρ':sD}{M:Nat→Prop}{w:World}:∀(x:List V) (v:List Value),(∀i∈yF x,∀p,ρ i=some p→ρ' i=some p)→lA ρ M w x v→lA ρ' M w x v
 | [],[],_,_=>by simp only[lA]
 |x::xs,v::vs,hm,h=>by simp only[lA]at h⊢;exact⟨vA.agree x v (fun i hi=>hm i (by simp only[yF,zE];exact .inl hi)) h.1,lA.agree xs vs (fun i hi=>hm i (by simp only[yF,zE];exact .inr hi)) h.2⟩
 | [],_::_,_,h=>by simp only[lA]at h
 |_::_,[],_,h=>by simp only[lA]at h
end
theorem oh (k:IntKind)(s:Nat):∀jD:List (List Int),yF (jD.map (.il k s))=[]
 | []=>rfl
 |_::r=>by simp only[xK,yF,cO,oh k s r,y4]
theorem qB.agree {ρ ρ':sD}{M:Nat→Prop}{w:World}{p:Pl}{x:rA}(hm:∀i∈eT x,∀p,ρ i=some p→ρ' i=some p)(h:qB ρ M w p x):qB ρ' M w p x:=by
 cases x with
 |dead=>trivial
 |ints k l=>exact h
 |mp k n ks vs=>exact h
 |it mid wE rem cur=>obtain⟨h1,h2,b,mb,seen,h4,h5,h6,h7⟩:=h;exact⟨h1,h2,b,mb,seen,h4,h5,fun i hi=>hm i (by subst hi;simp[eT]) _ (h6 i hi),h7⟩
 |vals cs=>
  obtain⟨h1,h2|⟨b,c,h2,h3,h4,h5⟩⟩:=h
  ·exact⟨h1,.inl h2⟩
  ·exact⟨h1,.inr ⟨b,c,h2,h3,h4,lA.agree _ _ (fun i hi=>hm i hi) h5⟩⟩
 |nl k s jD=>
  obtain⟨h1,h2|⟨b,c,h2,h3,h4,h5⟩⟩:=h
  ·exact⟨h1,.inl h2⟩
  ·exact⟨h1,.inr ⟨b,c,h2,h3,h4,lA.agree _ _ (fun i hi=>by rw[oh]at hi;cases hi) h5⟩⟩
theorem qB.avoid {ρ:sD}{M M':Nat→Prop}{w:World}(hM:∀b,M' b→M b){p:Pl}{x:rA}(h:qB ρ M w p x):qB ρ M' w p x:=by
 cases x with
 |dead=>trivial
 |ints k l=>exact h
 |mp k n ks vs=>exact h
 |it mid wE rem cur=>exact h
 |vals cs=>
  obtain⟨h1,h2|⟨b,c,h2,h3,h4,h5⟩⟩:=h
  ·exact⟨h1,.inl h2⟩
  ·exact⟨h1,.inr ⟨b,c,h2,h3,h4,lA.avoid hM _ _ h5⟩⟩
 |nl k s jD=>
  obtain⟨h1,h2|⟨b,c,h2,h3,h4,h5⟩⟩:=h
  ·exact⟨h1,.inl h2⟩
  ·exact⟨h1,.inr ⟨b,c,h2,h3,h4,lA.avoid hM _ _ h5⟩⟩
theorem oS {l:List Nat}(h:l.isEmpty=true):∀i,i∉l:=by
 intro i hi;cases l with
 |nil=>cases hi
 |cons=>cases h
structure gX (ρ ρ':sD)(src:List (Option Nat)):Prop where
 old:∀(j id:Nat),src[j]?=some (some id)→ρ' j=ρ id
 nil:∀j:Nat,src[j]?=some none→ρ' j=some ⟨none,0,0⟩
def qm (x:rA):Prop:=(∃k,x= .ints k [])∨∃k s,x= .nl k s []
structure mO (h:Nat→rA)(a:o9):Prop where
 len:a.src.length=a.blks.length
 nodup:∀(i j id:Nat),a.src[i]?=some (some id)→a.src[j]?=some (some id)→i=j
 virt:∀j:Nat,a.src[j]?=some none→∃x,a.blks[j]?=some x∧qm x
 live:∀(j id:Nat) (x:rA),a.src[j]?=some (some id)→a.blks[j]?=some x→x.live→(h id).live
def uL (h:Nat→rA)(ρ ρ':sD)(M:Nat→Prop)(w:World)(a:o9):Prop:=
 ∀(j id:Nat) (x:rA) (p:Pl),a.src[j]?=some (some id)→a.blks[j]?=some x→ρ id=some p→qB ρ M w p (h id)→qB ρ' M w p x
theorem sN {id:Nat}:∀(src:List (Option Nat)) (n j:Nat),uC id src n=some j→n≤j∧src[j-n]?=some (some id)
 | [],n,j,h=>by simp[uC]at h
 |some x::r,n,j,h=>by
  simp only[uC]at h;cases hb:Nat.beq x id<;>rw[hb]at h<;>simp only[cond_true,cond_false]at h
  ·obtain⟨h1,h2⟩:=sN r (n+1) j h;have:j-n=(j- (n+1))+1:=by omega
   exact⟨by omega,by rw[this];simpa using h2⟩
  ·simp only[Option.some.injEq]at h;subst h;have:=vB hb;subst this;simp
 |none::r,n,j,h=>by
  simp only[uC]at h;obtain⟨h1,h2⟩:=sN r (n+1) j h;have:j-n=(j- (n+1))+1:=by omega
  exact⟨by omega,by rw[this];simpa using h2⟩
theorem rN {id mid:Nat}(hne:mid≠id):∀(src:List (Option Nat)) (n:Nat),uC id src n=none→uC id (src++[some mid]) n=none
 | [],n,_=>by
  simp only[List.nil_append,uC];cases hb:Nat.beq mid id
  ·rfl
  ·exact absurd (vB hb) hne
 |some x::r,n,h=>by
  simp only[uC,j0]at h⊢;cases hb:Nat.beq x id<;>rw[hb]at h<;>simp only[cond_true,cond_false]at h⊢
  ·exact rN hne r (n+1) h
  ·cases h
 |none::r,n,h=>by simp only[uC,j0]at h⊢;exact rN hne r (n+1) h
theorem qN {id:Nat}:∀(src:List (Option Nat)) (n:Nat),uC id src n=none→∀j:Nat,src[j]?≠some (some id)
 | [],n,_,j=>by simp
 |some x::r,n,h,j=>by
  simp only[uC]at h;cases hb:Nat.beq x id<;>rw[hb]at h<;>simp only[cond_true,cond_false]at h
  ·cases j with
   |zero=>intro e;simp at e;subst e;simp at hb
   |succ j=>simpa using qN r _ h j
  ·cases h
 |none::r,n,h,j=>by
  simp only[uC]at h;cases j with
  |zero=>simp
  |succ j=>simpa using qN r _ h j
theorem mO.push {h:Nat→rA}{a:o9}(ha:mO h a){id:Nat}{x:rA}(hf:uC id a.src 0=none)(hx:x.live→(h id).live):mO h ⟨a.src++[some id],a.blks++[x]⟩:=by
 have hno:=qN _ _ hf;refine⟨by simp[ha.len],?_,?_,?_⟩
 ·intro i j id' hi hj;dsimp only at hi hj;rw[zB]at hi hj;split at hi<;>split at hj
  ·exact ha.nodup i j id' hi hj
  ·rw[zA]at hj;split at hj
   ·simp only[Option.some.injEq]at hj;subst hj;exact absurd hi (hno i)
   ·cases hj
  ·rw[zA]at hi;split at hi
   ·simp only[Option.some.injEq]at hi;subst hi;exact absurd hj (hno j)
   ·cases hi
  ·rw[zA]at hi hj;split at hi<;>split at hj<;>first|omega|(cases hi;done)|(cases hj;done)
 ·intro j hj;dsimp only at hj⊢;rw[zB]at hj;split at hj
  ·rename_i hlt;obtain⟨k,hk,hho⟩:=ha.virt j hj;exact⟨k,by rw[hG (by rw[←ha.len];exact hlt)];exact hk,hho⟩
  ·rw[zA]at hj;split at hj<;>simp at hj
 ·intro j id' y hj hy hl;dsimp only at hj hy;rw[zB]at hj hy;rw[←ha.len]at hy;split at hj
  ·rename_i hlt;rw[if_pos hlt]at hy;exact ha.live j id' y hj hy hl
  ·rename_i hge;rw[if_neg hge]at hy;rw[zA]at hj hy;split at hj
   ·rename_i h0;rw[if_pos h0]at hy;simp only[Option.some.injEq]at hj hy;subst hj;subst hy;exact hx hl
   ·cases hj
theorem uL.push {h:Nat→rA}{ρ ρ':sD}{M:Nat→Prop}{w:World}{a:o9}(ha:mO h a)(hb:uL h ρ ρ' M w a){id:Nat}{x:rA}(hx:∀p,qB ρ M w p (h id)→qB ρ' M w p x):uL h ρ ρ' M w ⟨a.src++[some id],a.blks++[x]⟩:=by
 intro j id' y p hj hy hp hr;dsimp only at hj hy;rw[zB]at hj hy;rw[←ha.len]at hy;split at hj
 ·rename_i hlt;rw[if_pos hlt]at hy;exact hb j id' y p hj hy hp hr
 ·rename_i hge;rw[if_neg hge]at hy;rw[zA]at hj hy;split at hj
  ·rename_i h0;rw[if_pos h0]at hy;simp only[Option.some.injEq]at hj hy;subst hj;subst hy;exact hx p hr
  ·cases hj
theorem gX.pre {ρ ρ':sD}{src more:List (Option Nat)}(hc:gX ρ ρ' (src++more)):gX ρ ρ' src:=by
 refine⟨fun j id hj=>hc.old j id ?_,fun j hj=>hc.nil j ?_⟩<;>
 ·have:j<src.length:=(hN.mp hj).1;rw[hG this];exact hj
def HB (h:Nat→rA)(ρ:sD)(M:Nat→Prop)(w:World):Prop:=∀id p,(h id).live→ρ id=some p→qB ρ M w p (h id)
def vI (h:Nat→rA)(a a':o9)(Rn:sD→sD→(Nat→Prop)→World→Prop):Prop:=
 (∃more,a'.src=a.src++more)∧(mO h a→mO h a'∧∀ρ ρ' M w,HB h ρ M w→gX ρ ρ' a'.src→uL h ρ ρ' M w a→uL h ρ ρ' M w a'∧Rn ρ ρ' M w)
def K3 (v v':V)(ρ ρ':sD)(M:Nat→Prop)(w:World):Prop:=∀u,vA ρ M w v u→vA ρ' M w v' u
def K2 (v v':List V)(ρ ρ':sD)(M:Nat→Prop)(w:World):Prop:=∀u,lA ρ M w v u→lA ρ' M w v' u
theorem vI.same {h:Nat→rA}{a:o9}{Rn:sD→sD→(Nat→Prop)→World→Prop}(hr:∀ρ ρ' M w,gX ρ ρ' a.src→Rn ρ ρ' M w):vI h a a Rn:=
 ⟨⟨[],by simp⟩,fun ha=>⟨ha,fun ρ ρ' M w _ hc hb=>⟨hb,hr ρ ρ' M w hc⟩⟩⟩
theorem vI.new {h:Nat→rA}{a:o9}{id:Nat}{x:rA}{Rn:sD→sD→(Nat→Prop)→World→Prop}(hf:uC id a.src 0=none)(hx:x.live→(h id).live)(hb:∀ρ ρ' M w p,qB ρ M w p (h id)→qB ρ' M w p x)
  (hr:∀(ρ ρ':sD) M w,ρ' a.src.length=ρ id→Rn ρ ρ' M w):vI h a ⟨a.src++[some id],a.blks++[x]⟩ Rn:=
 ⟨⟨[some id],rfl⟩,fun ha=>⟨ha.push hf hx,fun ρ ρ' M w _ hc hk=>⟨hk.push ha (hb ρ ρ' M w),hr ρ ρ' M w (hc.old a.src.length id (by simp))⟩⟩⟩
theorem vI.sameq {h:Nat→rA}{a:o9}{Rn:sD→sD→(Nat→Prop)→World→Prop}(hr:∀ρ ρ' M w,HB h ρ M w→gX ρ ρ' a.src→Rn ρ ρ' M w):vI h a a Rn:=
 ⟨⟨[],by simp⟩,fun ha=>⟨ha,fun ρ ρ' M w hq hc hb=>⟨hb,hr ρ ρ' M w hq hc⟩⟩⟩
theorem vI.newq {h:Nat→rA}{a:o9}{id:Nat}{x:rA}{Rn:sD→sD→(Nat→Prop)→World→Prop}(hf:uC id a.src 0=none)(hx:x.live→(h id).live)(hb:∀ρ ρ' M w p,qB ρ M w p (h id)→qB ρ' M w p x)
  (hr:∀(ρ ρ':sD) M w,HB h ρ M w→ρ' a.src.length=ρ id→Rn ρ ρ' M w):vI h a ⟨a.src++[some id],a.blks++[x]⟩ Rn:=
 ⟨⟨[some id],rfl⟩,fun ha=>⟨ha.push hf hx,fun ρ ρ' M w hq hc hk=>⟨hk.push ha (hb ρ ρ' M w),hr ρ ρ' M w hq (hc.old a.src.length id (by simp))⟩⟩⟩
theorem yc {h:Nat→rA}{ρ ρ':sD}{M:Nat→Prop}{w:World}{id j s:Nat}{k:IntKind}{l:List Int}(hid:h id= .ints k l)(hq:HB h ρ M w)(he:ρ' j=ρ id){u:Value}(hr:vA ρ M w (.sw id s) u):vA ρ' M w (.sl j s 0 (wE s l.length)) u:=by
 have hl:∀p,ρ id=some p→l.length=p.n:=fun p hp=>by have:=hq id p (by rw[hid];trivial) hp;rw[hid]at this;exact this.1
 simp only[vA]at hr⊢;obtain⟨h0,⟨b,n,C,cap,h1,h2,h3,h4,h5⟩|⟨h1,h2⟩⟩:=hr
 ·have e1:l.length=n:=hl _ h1;have hn:n/s*s=n:=Nat.div_mul_cancel (n5 h2);refine⟨h0,.inl ⟨b,n,C,cap,by rw[he];exact h1,?_,?_,by omega,?_⟩⟩
  ·rw[pE,e1];omega
  ·rw[pE,e1];exact h3
  ·rw[pE,e1];exact h5
 ·have e1:l.length=0:=hl _ h1;exact⟨h0,.inr ⟨by rw[pE,e1];simp,none,h2⟩⟩
theorem vA.ptr_name {ρ ρ':sD}{M:Nat→Prop}{w:World}{id j off ext:Nat}(h:ρ' j=ρ id){u:Value}(hr:vA ρ M w (.ptr id off ext) u):vA ρ' M w (.ptr j off ext) u:=by
 simp only[vA]at hr⊢;rw[h];exact hr
theorem vA.mref_name {ρ ρ':sD}{M:Nat→Prop}{w:World}{id j:Nat}(h:ρ' j=ρ id){u:Value}(hr:vA ρ M w (.mref id) u):vA ρ' M w (.mref j) u:=by
 simp only[vA]at hr⊢;rw[h];exact hr
theorem vA.sw_name {ρ ρ':sD}{M:Nat→Prop}{w:World}{id j s:Nat}(h:ρ' j=ρ id){u:Value}(hr:vA ρ M w (.sw id s) u):vA ρ' M w (.sw j s) u:=by
 simp only[vA]at hr⊢;rw[h];exact hr
theorem vA.sl_name {ρ ρ':sD}{M:Nat→Prop}{w:World}{id j s off len:Nat}(h:ρ' j=ρ id){u:Value}(hr:vA ρ M w (.sl id s off len) u):vA ρ' M w (.sl j s off len) u:=by
 simp only[vA]at hr⊢;rw[h];exact hr
theorem lM {ρ ρ':sD}{M:Nat→Prop}{w:World}{p:Pl}{k:IntKind}{l:List Int}(h:qB ρ M w p (.ints k l)):qB ρ' M w p (.ints k l):=h
theorem By {ρ ρ':sD}{M:Nat→Prop}{w:World}{p:Pl}{k:IntKind}{n:Nat}{ks:List (List Int)}{vs:sO}(h:qB ρ M w p (.mp k n ks vs)):qB ρ' M w p (.mp k n ks vs):=h
theorem Bx {ρ ρ':sD}{M:Nat→Prop}{w:World}{p:Pl}{mid j wE:Nat}{rem:List Nat}{cur:Nat}(hj:ρ' j=ρ mid)(h:qB ρ M w p (.it (some mid) wE rem cur)):qB ρ' M w p (.it (some j) wE rem cur):=by
 obtain⟨h1,h2,b,mb,seen,h4,h5,h6,h7⟩:=h;refine⟨h1,h2,b,mb,seen,h4,h5,fun i hi=>?_,h7⟩;simp only[Option.some.injEq]at hi;subst hi;rw[hj];exact h6 mid rfl
theorem vX {ρ ρ':sD}{M:Nat→Prop}{w:World}{p:Pl}{cs:List V}(hc:(yF cs).isEmpty=true)(h:qB ρ M w p (.vals cs)):qB ρ' M w p (.vals cs):=
 h.agree (fun i hi=>absurd hi (oS hc i))
theorem Bz {ρ ρ':sD}{M:Nat→Prop}{w:World}{p:Pl}{k:IntKind}{s:Nat}{jD:List (List Int)}(h:qB ρ M w p (.nl k s jD)):qB ρ' M w p (.nl k s jD):=
 h.agree (fun i hi=>by cases hi)
theorem eP {ρ ρ':sD}{src:List (Option Nat)}{id j:Nat}(hf:uC id src 0=some j)(hc:gX ρ ρ' src):ρ' j=ρ id:=hc.old j id (by have:=(sN src 0 j hf).2;simpa using this)
theorem gH:∀(H:List rA) (i j:Nat) (x:rA),i<H.length→(uD H i x)[j]?=if j=i then some x else H[j]?
 | [],_,_,_,h=>by simp at h
 |b::r,0,0,x,_=>by simp[uD]
 |b::r,0,j+1,x,_=>by simp[uD]
 |b::r,n+1,0,x,_=>by simp[uD]
 |b::r,n+1,j+1,x,h=>by simp[uD,gH r n j x (by simpa using h)]
theorem gm {ρ ρ':sD}{M:Nat→Prop}{w:World}{src:List (Option Nat)}(hc:gX ρ ρ' src):∀(vs vs':List V),A0 src vs=some vs'→∀us:List Value,lA ρ M w vs us→lA ρ' M w vs' us
 | [],vs',hs,us,hr=>by simp only[A0,Option.some.injEq]at hs;subst hs;cases us<;>simp_all[lA]
 |v::r,vs',hs,us,hr=>by
  cases us with
  |nil=>simp only[lA]at hr
  |cons u us=>
   cases v<;>simp only[A0]at hs<;>try cases hs
   split at hs
   ·rename_i j r' hf hr';simp only[Option.some.injEq]at hs;subst hs;simp only[lA]at hr⊢;exact⟨hr.1.ptr_name (eP hf hc),gm hc r r' hr' us hr.2⟩
   ·cases hs
mutual
theorem Ed {h:Nat→rA}:∀(sh:Sh) (v:V) (a:o9) (v':V) (a':o9),yQ h sh v a=some (v',a')→vI h a a' (K3 v v')
 | .any,v,a,v',a',hs=>by
  unfold yQ at hs;cases hc:(cO v).isEmpty<;>rw[hc]at hs<;>simp only[cond_true,cond_false]at hs
  ·split at hs
   ·rename_i id off ext;split at hs
    ·rename_i j hf;simp only[Option.some.injEq,Prod.mk.injEq]at hs;obtain⟨rfl,rfl⟩:=hs;exact .same (fun ρ ρ' M w hc u hr=>hr.ptr_name (eP hf hc))
    ·rename_i hf;split at hs
     ·rename_i k l hid;simp only[Option.some.injEq,Prod.mk.injEq]at hs;obtain⟨rfl,rfl⟩:=hs;exact .new hf (fun _=>by rw[hid];trivial) (fun ρ ρ' M w p hb=>by rw[hid]at hb;exact lM hb) (fun ρ ρ' M w he u hr=>hr.ptr_name he)
     ·rename_i cs hid;obtain⟨h1,h2⟩:=gA hs;simp only[Option.some.injEq,Prod.mk.injEq]at h2;obtain⟨rfl,rfl⟩:=h2;exact .new hf (fun _=>by rw[hid];trivial) (fun ρ ρ' M w p hb=>by rw[hid]at hb;exact vX h1 hb) (fun ρ ρ' M w he u hr=>hr.ptr_name he)
     ·cases hs
     ·cases hs
     ·cases hs
     ·rename_i mid wE rem cur hid;split at hs
      ·rename_i j hfm;simp only[Option.some.injEq,Prod.mk.injEq]at hs;obtain⟨rfl,rfl⟩:=hs;refine⟨⟨[some id],rfl⟩,fun ha=>⟨ha.push hf (fun _=>by rw[hid];trivial),fun ρ ρ' M w _ hc hk=>⟨hk.push ha (fun p hb=>by rw[hid]at hb;exact Bx (eP hfm hc.pre) hb),fun u hr=>hr.ptr_name (hc.old a.src.length id (by simp))⟩⟩⟩
      ·rename_i hfm;split at hs
       ·rename_i k n ks vs hmid;simp only[Option.some.injEq,Prod.mk.injEq]at hs;obtain⟨rfl,rfl⟩:=hs;have hne:mid≠id:=by rintro rfl;rw[hid]at hmid;cases hmid
        have hf2:uC id (a.src++[some mid]) 0=none:=rN hne _ _ hf;refine⟨⟨[some mid]++[some id],by simp⟩,fun ha=>?_⟩;have ha1:mO h ⟨a.src++[some mid],a.blks++[.mp k n ks vs]⟩:=ha.push hfm (fun _=>by rw[hmid];trivial);refine⟨ha1.push hf2 (fun _=>by rw[hid];trivial),fun ρ ρ' M w _ hc hk=>⟨?_,fun u hr=>hr.ptr_name (hc.old (a.src.length+1) id (by simp))⟩⟩;have hk1:uL h ρ ρ' M w ⟨a.src++[some mid],a.blks++[.mp k n ks vs]⟩:=hk.push ha (fun p hb=>by rw[hmid]at hb;exact By hb);exact hk1.push ha1 (fun p hb=>by rw[hid]at hb;exact Bx (hc.old a.src.length mid (by simp)) hb)
       ·cases hs
     ·cases hs
   ·rename_i id s;split at hs
    ·rename_i j hf;simp only[Option.some.injEq,Prod.mk.injEq]at hs;obtain⟨rfl,rfl⟩:=hs;exact .same (fun ρ ρ' M w hc u hr=>hr.sw_name (eP hf hc))
    ·rename_i hf;split at hs
     ·rename_i k l hid;simp only[Option.some.injEq,Prod.mk.injEq]at hs;obtain⟨rfl,rfl⟩:=hs;exact .new hf (fun _=>by rw[hid];trivial) (fun ρ ρ' M w p hb=>by rw[hid]at hb;exact lM hb) (fun ρ ρ' M w he u hr=>hr.sw_name he)
     ·rename_i cs hid;obtain⟨h1,h2⟩:=gA hs;simp only[Option.some.injEq,Prod.mk.injEq]at h2;obtain⟨rfl,rfl⟩:=h2;exact .new hf (fun _=>by rw[hid];trivial) (fun ρ ρ' M w p hb=>by rw[hid]at hb;exact vX h1 hb) (fun ρ ρ' M w he u hr=>hr.sw_name he)
     ·rename_i k s0 jD hid;simp only[Option.some.injEq,Prod.mk.injEq]at hs;obtain⟨rfl,rfl⟩:=hs;exact .new hf (fun _=>by rw[hid];trivial) (fun ρ ρ' M w p hb=>by rw[hid]at hb;exact Bz hb) (fun ρ ρ' M w he u hr=>hr.sw_name he)
     ·cases hs
     ·cases hs
     ·cases hs
   ·rename_i id s off len;split at hs
    ·rename_i j hf;simp only[Option.some.injEq,Prod.mk.injEq]at hs;obtain⟨rfl,rfl⟩:=hs;exact .same (fun ρ ρ' M w hc u hr=>hr.sl_name (eP hf hc))
    ·rename_i hf;split at hs
     ·rename_i k l hid;simp only[Option.some.injEq,Prod.mk.injEq]at hs;obtain⟨rfl,rfl⟩:=hs;exact .new hf (fun _=>by rw[hid];trivial) (fun ρ ρ' M w p hb=>by rw[hid]at hb;exact lM hb) (fun ρ ρ' M w he u hr=>hr.sl_name he)
     ·rename_i cs hid;obtain⟨h1,h2⟩:=gA hs;simp only[Option.some.injEq,Prod.mk.injEq]at h2;obtain⟨rfl,rfl⟩:=h2;exact .new hf (fun _=>by rw[hid];trivial) (fun ρ ρ' M w p hb=>by rw[hid]at hb;exact vX h1 hb) (fun ρ ρ' M w he u hr=>hr.sl_name he)
     ·cases hs
     ·cases hs
     ·cases hs
     ·cases hs
   ·rename_i id;split at hs
    ·rename_i j hf;simp only[Option.some.injEq,Prod.mk.injEq]at hs;obtain⟨rfl,rfl⟩:=hs;exact .same (fun ρ ρ' M w hc u hr=>hr.mref_name (eP hf hc))
    ·rename_i hf;split at hs
     ·rename_i k n ks vs hid;simp only[Option.some.injEq,Prod.mk.injEq]at hs;obtain⟨rfl,rfl⟩:=hs;exact .new hf (fun _=>by rw[hid];trivial) (fun ρ ρ' M w p hb=>by rw[hid]at hb;exact By hb) (fun ρ ρ' M w he u hr=>hr.mref_name he)
     ·cases hs
   ·rename_i f va vc;split at hs
    ·rename_i va' vc' ha hc;simp only[Option.some.injEq,Prod.mk.injEq]at hs;obtain⟨rfl,rfl⟩:=hs;refine .same (fun ρ ρ' M w hcons u hr=>?_);simp only[vA]at hr⊢;obtain⟨ua,uc,h1,h2,h3⟩:=hr;exact⟨ua,uc,h1,gm hcons va va' ha _ h2,gm hcons vc vc' hc _ h3⟩
    ·cases hs
   ·cases hs
  ·simp only[Option.some.injEq,Prod.mk.injEq]at hs;obtain⟨rfl,rfl⟩:=hs;exact .same (fun ρ ρ' M w _ u hr=>hr.agree _ _ (fun i hi=>absurd hi (oS hc i)))
 | .row k s,v,a,v',a',hs=>by
  unfold yQ at hs;split at hs
  ·obtain⟨h0,hs⟩:=gA hs;have h0:=dD h0;simp only[Option.some.injEq,Prod.mk.injEq]at hs;obtain⟨rfl,rfl⟩:=hs;refine⟨⟨[none],rfl⟩,fun ha=>⟨⟨by simp[ha.len],?_,?_,?_⟩,fun ρ ρ' M w hq hc hb=>⟨?_,?_⟩⟩⟩
   ·intro i j id hi hj;dsimp only at hi hj;rw[zB]at hi hj;split at hi<;>split at hj<;>first
     |exact ha.nodup i j id hi hj
     |(rw[zA]at hi;split at hi<;>simp at hi)
     |(rw[zA]at hj;split at hj<;>simp at hj)
   ·intro j hj;dsimp only at hj⊢;rw[zB]at hj;split at hj
    ·rename_i hlt;obtain⟨k,hk,hho⟩:=ha.virt j hj;exact⟨k,by rw[hG (by rw[←ha.len];exact hlt)];exact hk,hho⟩
    ·rename_i hge;rw[zA]at hj;split at hj
     ·refine⟨.ints k [],?_,.inl ⟨k,rfl⟩⟩;rw[hP (by rw[←ha.len];omega),←ha.len];have:j-a.src.length=0:=by omega
      rw[this];rfl
     ·cases hj
   ·intro j id x hj hx hl;dsimp only at hj hx;rw[zB]at hj hx;rw[←ha.len]at hx;split at hj
    ·rename_i hlt;rw[if_pos hlt]at hx;exact ha.live j id x hj hx hl
    ·rw[zA]at hj;split at hj<;>simp at hj
   ·intro j id x p hj hx hp hr;dsimp only at hj hx;rw[zB]at hj hx;rw[←ha.len]at hx;split at hj
    ·rename_i hlt;rw[if_pos hlt]at hx;exact hb j id x p hj hx hp hr
    ·rw[zA]at hj;split at hj<;>simp at hj
   ·intro u hr;simp only[vA]at hr⊢;exact⟨h0,.inr ⟨hc.nil a.src.length (by simp),hr⟩⟩
  ·rename_i id s';obtain⟨h0,h2⟩:=gA hs;clear hs;have hs:=h2;clear h2;have h3:=vB h0;clear h0;subst h3;split at hs
   ·rename_i j hf;simp only[Option.some.injEq,Prod.mk.injEq]at hs;obtain⟨rfl,rfl⟩:=hs;exact .same (fun ρ ρ' M w hc u hr=>hr.sw_name (eP hf hc))
   ·rename_i hf;split at hs
    ·rename_i k' l hid;obtain⟨h1,hs⟩:=gA hs;simp only[Option.some.injEq,Prod.mk.injEq]at hs;obtain⟨rfl,rfl⟩:=hs;exact .new hf (fun _=>by rw[hid];trivial) (fun ρ ρ' M w p hb=>by rw[hid]at hb;exact lM hb) (fun ρ ρ' M w he u hr=>hr.sw_name he)
    ·cases hs
  ·cases hs
 | .nrow k s,v,a,v',a',hs=>by
  unfold yQ at hs;split at hs
  ·have h0:0<1:=Nat.one_pos;simp only[Option.some.injEq,Prod.mk.injEq]at hs;obtain⟨rfl,rfl⟩:=hs;refine⟨⟨[none],rfl⟩,fun ha=>⟨⟨by simp[ha.len],?_,?_,?_⟩,fun ρ ρ' M w hq hc hb=>⟨?_,?_⟩⟩⟩
   ·intro i j id hi hj;dsimp only at hi hj;rw[zB]at hi hj;split at hi<;>split at hj<;>first
     |exact ha.nodup i j id hi hj
     |(rw[zA]at hi;split at hi<;>simp at hi)
     |(rw[zA]at hj;split at hj<;>simp at hj)
   ·intro j hj;dsimp only at hj⊢;rw[zB]at hj;split at hj
    ·rename_i hlt;obtain⟨k,hk,hho⟩:=ha.virt j hj;exact⟨k,by rw[hG (by rw[←ha.len];exact hlt)];exact hk,hho⟩
    ·rename_i hge;rw[zA]at hj;split at hj
     ·refine⟨.nl k s [],?_,.inr ⟨k,s,rfl⟩⟩;rw[hP (by rw[←ha.len];omega),←ha.len];have:j-a.src.length=0:=by omega
      rw[this];rfl
     ·cases hj
   ·intro j id x hj hx hl;dsimp only at hj hx;rw[zB]at hj hx;rw[←ha.len]at hx;split at hj
    ·rename_i hlt;rw[if_pos hlt]at hx;exact ha.live j id x hj hx hl
    ·rw[zA]at hj;split at hj<;>simp at hj
   ·intro j id x p hj hx hp hr;dsimp only at hj hx;rw[zB]at hj hx;rw[←ha.len]at hx;split at hj
    ·rename_i hlt;rw[if_pos hlt]at hx;exact hb j id x p hj hx hp hr
    ·rw[zA]at hj;split at hj<;>simp at hj
   ·intro u hr;simp only[vA]at hr⊢;exact⟨h0,.inr ⟨hc.nil a.src.length (by simp),hr⟩⟩
  ·rename_i id s';obtain⟨h0,h2⟩:=gA hs;clear hs;have hs:=h2;clear h2;have h3:=vB h0;clear h0;subst h3;split at hs
   ·rename_i j hf;simp only[Option.some.injEq,Prod.mk.injEq]at hs;obtain⟨rfl,rfl⟩:=hs;exact .same (fun ρ ρ' M w hc u hr=>hr.sw_name (eP hf hc))
   ·rename_i hf;split at hs
    ·rename_i k' s2 l hid;obtain⟨h1,hs⟩:=gA hs;simp only[Option.some.injEq,Prod.mk.injEq]at hs;obtain⟨rfl,rfl⟩:=hs;exact .new hf (fun _=>by rw[hid];trivial) (fun ρ ρ' M w p hb=>by rw[hid]at hb;exact Bz hb) (fun ρ ρ' M w he u hr=>hr.sw_name he)
    ·cases hs
  ·cases hs
 | .part k s,v,a,v',a',hs=>by
  unfold yQ at hs;split at hs
  ·obtain⟨h0,hs⟩:=gA hs;have h0:=dD h0;simp only[Option.some.injEq,Prod.mk.injEq]at hs;obtain⟨rfl,rfl⟩:=hs;refine⟨⟨[none],rfl⟩,fun ha=>⟨⟨by simp[ha.len],?_,?_,?_⟩,fun ρ ρ' M w hq hc hb=>⟨?_,?_⟩⟩⟩
   ·intro i j id hi hj;dsimp only at hi hj;rw[zB]at hi hj;split at hi<;>split at hj<;>first
     |exact ha.nodup i j id hi hj
     |(rw[zA]at hi;split at hi<;>simp at hi)
     |(rw[zA]at hj;split at hj<;>simp at hj)
   ·intro j hj;dsimp only at hj⊢;rw[zB]at hj;split at hj
    ·rename_i hlt;obtain⟨k,hk,hho⟩:=ha.virt j hj;exact⟨k,by rw[hG (by rw[←ha.len];exact hlt)];exact hk,hho⟩
    ·rename_i hge;rw[zA]at hj;split at hj
     ·refine⟨.ints k [],?_,.inl ⟨k,rfl⟩⟩;rw[hP (by rw[←ha.len];omega),←ha.len];have:j-a.src.length=0:=by omega
      rw[this];rfl
     ·cases hj
   ·intro j id x hj hx hl;dsimp only at hj hx;rw[zB]at hj hx;rw[←ha.len]at hx;split at hj
    ·rename_i hlt;rw[if_pos hlt]at hx;exact ha.live j id x hj hx hl
    ·rw[zA]at hj;split at hj<;>simp at hj
   ·intro j id x p hj hx hp hr;dsimp only at hj hx;rw[zB]at hj hx;rw[←ha.len]at hx;split at hj
    ·rename_i hlt;rw[if_pos hlt]at hx;exact hb j id x p hj hx hp hr
    ·rw[zA]at hj;split at hj<;>simp at hj
   ·intro u hr;simp only[vA]at hr⊢;exact⟨h0,.inr ⟨trivial,none,hr⟩⟩
  ·rename_i id s';obtain⟨h0,h2⟩:=gA hs;clear hs;have hs:=h2;clear h2;have h3:=vB h0;clear h0;subst h3;split at hs
   ·rename_i k' l hid;obtain⟨h1,hs2⟩:=gA hs;clear hs;have hs:=hs2;clear hs2;split at hs
    ·rename_i j hf;simp only[Option.some.injEq,Prod.mk.injEq]at hs;obtain⟨rfl,rfl⟩:=hs;exact .sameq (fun ρ ρ' M w hq hc u hr=>yc hid hq (eP hf hc) hr)
    ·rename_i hf;simp only[Option.some.injEq,Prod.mk.injEq]at hs;obtain⟨rfl,rfl⟩:=hs;exact .newq hf (fun _=>by rw[hid];trivial) (fun ρ ρ' M w p hb=>by rw[hid]at hb;exact lM hb) (fun ρ ρ' M w hq he u hr=>yc hid hq he hr)
   ·cases hs
  ·rename_i id s' off len;obtain⟨h0,h2⟩:=gA hs;clear hs;have hs:=h2;clear h2;split at hs
   ·rename_i k' l hid;obtain⟨h1,hs2⟩:=gA hs;clear hs;have hs:=hs2;clear hs2;split at hs
    ·rename_i j hf;simp only[Option.some.injEq,Prod.mk.injEq]at hs;obtain⟨rfl,rfl⟩:=hs;exact .same (fun ρ ρ' M w hc u hr=>hr.sl_name (eP hf hc))
    ·rename_i hf;simp only[Option.some.injEq,Prod.mk.injEq]at hs;obtain⟨rfl,rfl⟩:=hs;exact .new hf (fun _=>by rw[hid];trivial) (fun ρ ρ' M w p hb=>by rw[hid]at hb;exact lM hb) (fun ρ ρ' M w he u hr=>hr.sl_name he)
   ·cases hs
  ·cases hs
 | .il k s,v,a,v',a',hs=>by
  unfold yQ at hs;split at hs
  ·obtain⟨h0,hs⟩:=gA hs;have h0:=dD h0;simp only[Option.some.injEq,Prod.mk.injEq]at hs;obtain⟨rfl,rfl⟩:=hs;refine .same (fun ρ ρ' M w hc u hr=>?_);simp only[vA]at hr⊢;exact⟨h0,by simp,.inl ⟨trivial,none,hr⟩⟩
  ·obtain⟨h0,hs⟩:=gA hs;simp only[Option.some.injEq,Prod.mk.injEq]at hs;obtain⟨rfl,rfl⟩:=hs;exact .same (fun ρ ρ' M w hc u hr=>by simpa only[vA]using hr)
  ·cases hs
 | .box ss,v,a,v',a',hs=>by
  unfold yQ at hs;split at hs
  ·rename_i id off ext;split at hs
   ·rename_i j hf;simp only[Option.some.injEq,Prod.mk.injEq]at hs;obtain⟨rfl,rfl⟩:=hs;exact .same (fun ρ ρ' M w hc u hr=>hr.ptr_name (eP hf hc))
   ·rename_i hf;split at hs
    ·rename_i cs hid;split at hs
     ·rename_i cs' a1 hL;simp only[Option.some.injEq,Prod.mk.injEq]at hs;obtain⟨rfl,rfl⟩:=hs;obtain⟨⟨more,hm⟩,hk⟩:=uI ss cs _ cs' a1 hL;refine⟨⟨[some id]++more,by rw[hm];simp⟩,fun ha=>?_⟩;obtain⟨k1,k2⟩:=hk (ha.push hf (fun hx=>hx.elim));have hsrc:a1.src[a.src.length]?=some (some id):=by rw[hm];simp
      have hlt:a.src.length<a1.blks.length:=by rw[←k1.len,hm];simp
      refine⟨⟨by rw[hF];exact k1.len,k1.nodup,?_,?_⟩,fun ρ ρ' M w hq hc hb=>?_⟩
      ·intro j hj;obtain⟨k,hk,hho⟩:=k1.virt j hj;refine⟨k,?_,hho⟩;dsimp only at hj⊢;rw[gH _ _ _ _ hlt,if_neg (fun e=>by subst e;rw[hsrc]at hj;cases hj)];exact hk
      ·intro j id' x hj hx hl;dsimp only at hj hx;rw[gH _ _ _ _ hlt]at hx;split at hx
       ·rename_i e;subst e;rw[hsrc]at hj;simp only[Option.some.injEq]at hj;subst hj;rw[hid];trivial
       ·exact k1.live j id' x hj hx hl
      ·obtain⟨b1,b2⟩:=k2 ρ ρ' M w hq hc (hb.push ha (fun p _=>trivial));refine⟨?_,fun u hr=>hr.ptr_name (hc.old _ _ hsrc)⟩;intro j id' x p hj hx hp hr;dsimp only at hj hx;rw[gH _ _ _ _ hlt]at hx;split at hx
       ·rename_i e;subst e;rw[hsrc]at hj;simp only[Option.some.injEq]at hj hx;subst hj;subst hx;rw[hid]at hr;obtain⟨h1,⟨h2,h3,h4⟩|⟨b,c,h2,h3,h4,h5⟩⟩:=hr
        ·subst h3;have:=b2 [] (by simp only[lA]);cases cs' with
         |nil=>exact⟨h1,.inl ⟨h2,rfl,h4⟩⟩
         |cons=>simp only[lA]at this
        ·have:=b2 _ h5;exact⟨by rw[←h1,this.length,h5.length],.inr ⟨b,c,h2,h3,h4,this⟩⟩
       ·exact b1 j id' x p hj hx hp hr
     ·cases hs
    ·cases hs
  ·cases hs
 | .recd ss,v,a,v',a',hs=>by
  unfold yQ at hs;split at hs
  ·rename_i cs;split at hs
   ·rename_i cs' a1 hL;simp only[Option.some.injEq,Prod.mk.injEq]at hs;obtain⟨rfl,rfl⟩:=hs;obtain⟨h1,hk⟩:=uI ss cs a cs' a1 hL;refine⟨h1,fun ha=>⟨(hk ha).1,fun ρ ρ' M w hq hc hb=>⟨((hk ha).2 ρ ρ' M w hq hc hb).1,fun u hr=>?_⟩⟩⟩;simp only[vA]at hr⊢;obtain⟨vs,e,hr⟩:=hr;exact⟨vs,e,((hk ha).2 ρ ρ' M w hq hc hb).2 _ hr⟩
   ·cases hs
  ·cases hs
 | .tup ss,v,a,v',a',hs=>by
  unfold yQ at hs;split at hs
  ·rename_i cs;split at hs
   ·rename_i cs' a1 hL;simp only[Option.some.injEq,Prod.mk.injEq]at hs;obtain⟨rfl,rfl⟩:=hs;obtain⟨h1,hk⟩:=uI ss cs a cs' a1 hL;refine⟨h1,fun ha=>⟨(hk ha).1,fun ρ ρ' M w hq hc hb=>⟨((hk ha).2 ρ ρ' M w hq hc hb).1,fun u hr=>?_⟩⟩⟩;simp only[vA]at hr⊢;obtain⟨vs,e,hr⟩:=hr;exact⟨vs,e,((hk ha).2 ρ ρ' M w hq hc hb).2 _ hr⟩
   ·cases hs
  ·cases hs
theorem uI {h:Nat→rA}:∀(ss:List Sh) (vs:List V) (a:o9) (vs':List V) (a':o9),jJ h ss vs a=some (vs',a')→vI h a a' (K2 vs vs')
 | [],[],a,vs',a',hs=>by simp only[jJ,Option.some.injEq,Prod.mk.injEq]at hs;obtain⟨rfl,rfl⟩:=hs;exact .same (fun ρ ρ' M w hc u hr=>by cases u<;>simp_all[lA])
 |s::ss,v::vs,a,vs',a',hs=>by
  unfold jJ at hs;split at hs
  ·rename_i v1 a1 h1;split at hs
   ·rename_i vs1 a2 h2;simp only[Option.some.injEq,Prod.mk.injEq]at hs;obtain⟨rfl,rfl⟩:=hs;obtain⟨⟨m1,e1⟩,k1⟩:=Ed s v a v1 a1 h1;obtain⟨⟨m2,e2⟩,k2⟩:=uI ss vs a1 vs1 a2 h2;refine⟨⟨m1++m2,by rw[e2,e1,iX]⟩,fun ha=>?_⟩;obtain⟨p1,p2⟩:=k1 ha;obtain⟨q1,q2⟩:=k2 p1;refine⟨q1,fun ρ ρ' M w hq hc hb=>?_⟩;obtain⟨r1,r2⟩:=p2 ρ ρ' M w hq (by rw[e2]at hc;exact hc.pre) hb;obtain⟨t1,t2⟩:=q2 ρ ρ' M w hq hc r1;refine⟨t1,fun u hr=>?_⟩;cases u with
    |nil=>simp only[lA]at hr
    |cons u us=>simp only[lA]at hr⊢;exact⟨r2 u hr.1,t2 us hr.2⟩
   ·cases hs
  ·cases hs
 | [],_::_,a,vs',a',hs=>by simp[jJ]at hs
 |_::_,[],a,vs',a',hs=>by simp[jJ]at hs
end
theorem gT:∀(H:List rA) (i:Nat) (x:rA) (j:Nat),(uD H i x)[j]?=H[j]?∨(uD H i x)[j]?=some x
 | [],_,_,_=>.inl (by simp[uD])
 |b::r,0,x,0=>.inr (by simp[uD])
 |b::r,0,x,j+1=>.inl (by simp[uD])
 |b::r,n+1,x,0=>.inl (by simp[uD])
 |b::r,n+1,x,j+1=>by simpa[uD]using gT r n x j
theorem pS:∀(bsh:List (Nat×List Sh)) (H:List rA),(rM bsh H).length=H.length
 | [],_=>rfl
 |p::r,H=>by simp only[rM];rw[pS r,hF]
theorem kV:∀(bsh:List (Nat×List Sh)) (H:List rA) (j:Nat),(rM bsh H)[j]?=H[j]?∨(rM bsh H)[j]?=some .dead
 | [],_,_=>.inl rfl
 |p::r,H,j=>by
  simp only[rM];rcases kV r (uD H p.1 .dead) j with h|h
  ·rcases gT H p.1 .dead j with g|g
   ·exact .inl (h.trans g)
   ·exact .inr (h.trans g)
  ·exact .inr h
theorem dz {h:Nat→rA}:∀(bsh:List (Nat×List Sh)) (a a':o9),o8 h bsh a=some a'→(∃more,a'.src=a.src++more)∧(mO h a→(∀p∈bsh,a.src[p.1]?=some (some p.1))→mO h a'∧∀ρ ρ' M w,HB h ρ M w→gX ρ ρ' a'.src→uL h ρ ρ' M w a→uL h ρ ρ' M w a')
 | [],a,a',hs=>by simp only[o8,Option.some.injEq]at hs;subst hs;exact⟨⟨[],by simp⟩,fun ha _=>⟨ha,fun ρ ρ' M w _ _ hb=>hb⟩⟩
 |(i,ss)::r,a,a',hs=>by
  simp only[o8]at hs;split at hs
  ·rename_i cs hid;split at hs
   ·rename_i cs' a1 hL;obtain⟨⟨m1,e1⟩,hk⟩:=uI ss cs a cs' a1 hL;obtain⟨⟨m2,e2⟩,hk2⟩:=dz r _ a' hs;dsimp only at e2;refine⟨⟨m1++m2,by rw[e2,e1,iX]⟩,fun ha hp=>?_⟩;obtain⟨k1,k2⟩:=hk ha;have hi:=hp (i,ss) (by simp);dsimp only at hi;have hilt:i<a.src.length:=(hN.mp hi).1;have hsrc:a1.src[i]?=some (some i):=by rw[e1,hG hilt];exact hi
    have hlt:i<a1.blks.length:=by rw[←k1.len,e1];simp;omega
    have hA2:mO h ⟨a1.src,uD a1.blks i (.vals cs')⟩:=by
     refine⟨by rw[hF];exact k1.len,k1.nodup,?_,?_⟩
     ·intro j hj;obtain⟨k,hk,hho⟩:=k1.virt j hj;refine⟨k,?_,hho⟩;dsimp only at hj⊢;rw[gH _ _ _ _ hlt,if_neg (fun e=>by subst e;rw[hsrc]at hj;cases hj)];exact hk
     ·intro j id' x hj hx hl;dsimp only at hj hx;rw[gH _ _ _ _ hlt]at hx;split at hx
      ·rename_i e;subst e;rw[hsrc]at hj;simp only[Option.some.injEq]at hj;subst hj;rw[hid];trivial
      ·exact k1.live j id' x hj hx hl
    obtain⟨q1,q2⟩:=hk2 hA2 (fun p hpr=>by have h0:=hp p (x2 _ hpr);have hlt0:p.1<a.src.length:=(hN.mp h0).1;dsimp only;rw[e1,hG hlt0];exact h0);refine⟨q1,fun ρ ρ' M w hq hc hb=>q2 ρ ρ' M w hq hc ?_⟩;obtain⟨b1,b2⟩:=k2 ρ ρ' M w hq (by rw[e2]at hc;exact hc.pre) hb;intro j id' x p hj hx hp hr;dsimp only at hj hx;rw[gH _ _ _ _ hlt]at hx;split at hx
    ·rename_i e;subst e;rw[hsrc]at hj;simp only[Option.some.injEq]at hj hx;subst hj;subst hx;rw[hid]at hr;obtain⟨h1,⟨h2,h3,h4⟩|⟨b,c,h2,h3,h4,h5⟩⟩:=hr
     ·subst h3;have:=b2 [] (by simp only[lA]);cases cs' with
      |nil=>exact⟨h1,.inl ⟨h2,rfl,h4⟩⟩
      |cons=>simp only[lA]at this
     ·have:=b2 _ h5;exact⟨by rw[←h1,this.length,h5.length],.inr ⟨b,c,h2,h3,h4,this⟩⟩
    ·exact b1 j id' x p hj hx hp hr
   ·cases hs
  ·cases hs
structure aq where
 F:Nat→Prop
 ρ:sD
 bs:List rA
 w:World
def qG (E:jC)(S:aq)(s:St)(a:Act)(w:World):Prop:=
 ∃ρ,km E S.F ρ (iE s.T) (qA s.H) a w∧(∀j,s.H.length≤j→ρ j=none)∧(∀j,j<E.nb→ρ j=S.ρ j)∧E.nb≤s.H.length∧uH (kA S.ρ (qA S.bs)) S.w (kA ρ (qA s.H)) w
theorem dK {H:List rA}{j:Nat}(hl:(qA H j).live):H[j]?=some (qA H j):=by
 rw[aD,iA]at hl⊢;cases h:H[j]? with
 |none=>rw[h]at hl;exact hl.elim
 |some x=>rfl
theorem kM {H:List rA}{j:Nat}{x:rA}(h:H[j]?=some x):qA H j=x:=by
 rw[aD,iA,h];rfl
theorem cL:∀(nb:Nat) (H:List rA),xT nb H=true→∀x∈H,∀i∈eT x,i<nb
 |_,[],_,x,hx=>by simp at hx
 |nb,b::r,h,x,hx=>by
  simp only[xT,iB,yK]at h;rcases hC.mp hx with rfl|hx
  ·intro i hi;exact dD (h.1 i hi)
  ·exact cL nb r h.2 x hx
theorem iZ:∀(keep:List (Nat×Sh)) (T:Nat→V) (vs:List V) (u:List Value) (ρ:sD) (M:Nat→Prop) (w:World) (ev:Nat→Value),lA ρ M w vs (keep.map fun p=>ev p.1)→∀t,vA ρ M w (iE (fC keep vs) t) (ev t)
 | [],_,vs,_,ρ,M,w,ev,hr,t=>by simp only[fC,iE,vA]
 |p::r,T,[],u,ρ,M,w,ev,hr,t=>by simp only[fC,iE,vA]
 |(d,sh)::r,T,v::vs,u,ρ,M,w,ev,hr,t=>by
  simp only[xK,lA]at hr;simp only[fC,iE];cases hb:Nat.beq d t<;>simp only[cond_true,cond_false]
  ·exact iZ r T vs u ρ M w ev hr.2 t
  ·have:=vB hb;subst this;exact hr.1
theorem lA.map_fn {α:Type}{ρ:sD}{M:Nat→Prop}{w:World}(f:α→V)(g:α→Value)(h:∀x,vA ρ M w (f x) (g x)):∀l:List α,lA ρ M w (l.map f) (l.map g)
 | []=>by simp[lA]
 |x::l=>by simp only[xK,lA];exact⟨h x,lA.map_fn f g h l⟩
theorem jL {E:jC}{S:aq}{keep:List (Nat×Sh)}{s:St}{vs:List V}{H:List rA}(hn:nu E.nb keep s=some (vs,H)){a:Act}{w:World}(hI:qG E S s a w):qG E S ⟨fC keep vs,H⟩ a w:=by
 obtain⟨ρ,hr,h1,h2,h3,h4⟩:=hI;unfold nu at hn;split at hn
 ·rename_i vs' acc hs;obtain⟨hok,hn⟩:=gA hn;simp only[Option.some.injEq,Prod.mk.injEq]at hn;obtain⟨rfl,rfl⟩:=hn;obtain⟨⟨more,hsrc⟩,hk⟩:=uI _ _ _ _ _ hs;have hst:∀j:Nat,(yG E.nb s.H).src[j]?=if j<E.nb then some (some j)else none:=by
   intro j;simp only[yG,e0];by_cases hj:j<E.nb
   ·rw[u5 hj,if_pos hj];rfl
   ·rw[aE (by simp;omega),if_neg hj];rfl
  have hlen0:(yG E.nb s.H).src.length=E.nb:=by simp[yG]
  have hst2:∀j:Nat,j<E.nb→(yG E.nb s.H).blks[j]?=s.H[j]?:=fun j hj=>by simp[yG,hY,hj]
  have hacc0:mO (qA s.H) (yG E.nb s.H):=by
   refine⟨by simp[yG,h3],?_,?_,?_⟩
   ·intro i j id hi hj;rw[hst]at hi hj;split at hi<;>split at hj<;>simp_all
   ·intro j hj;rw[hst]at hj;split at hj<;>simp at hj
   ·intro j id x hj hx hl;rw[hst]at hj;split at hj
    ·rename_i hlt;rw[hst2 j hlt]at hx;simp only[Option.some.injEq]at hj;subst hj;rw[kM hx];exact hl
    ·cases hj
  obtain⟨hA,hR⟩:=hk hacc0
  let ρ':sD:=fun j=>match acc.src[j]? with
   |some (some id)=>ρ id
   |some none=>some ⟨none,0,0⟩
   |none=>none
  have hc:gX ρ ρ' acc.src:=⟨fun j id hj=>by simp only[ρ',hj],fun j hj=>by simp only[ρ',hj]⟩
  have hpre:∀j,j<E.nb→acc.src[j]?=some (some j):=fun j hj=>by rw[hsrc,hG (by rw[hlen0];exact hj),hst,if_pos hj]
  have hρ':∀j,j<E.nb→ρ' j=ρ j:=fun j hj=>hc.old j j (hpre j hj);have hb0:uL (qA s.H) ρ ρ' (av S.F (kA ρ (qA s.H))) w (yG E.nb s.H):=by
   intro j id x p hj hx hp hb;rw[hst]at hj;split at hj
   ·rename_i hlt;simp only[Option.some.injEq]at hj;subst hj;rw[hst2 j hlt]at hx;rw[kM hx]at hb;refine hb.agree (fun i hi p hp=>?_);have hin:x∈s.H.take E.nb:=dQ (i:=j) (by rw[hY,if_pos hlt];exact hx);rw[hρ' i (cL _ _ hok x hin i hi)];exact hp
   ·cases hj
  obtain⟨hB,hV⟩:=hR ρ ρ' _ w (fun id p hl hp=>by obtain⟨p',hp',hb'⟩:=hr.heap.rel id hl;rw[hp]at hp';cases hp';exact hb') hc hb0;have hsrcOf:∀j,(qA acc.blks j).live→(∃id,acc.src[j]?=some (some id)∧ρ' j=ρ id∧(qA s.H id).live)∨(acc.src[j]?=some none∧ρ' j=some ⟨none,0,0⟩∧qm (qA acc.blks j)):=by
   intro j hl;have hx:=dK hl;have hj:j<acc.src.length:=by rw[hA.len];exact(hN.mp hx).1
   cases hsj:acc.src[j]with
   |some id=>
    have h0:acc.src[j]?=some (some id):=by rw[hD hj,hsj]
    exact .inl ⟨id,h0,hc.old j id h0,hA.live j id _ h0 hx hl⟩
   |none=>
    have h0:acc.src[j]?=some none:=by rw[hD hj,hsj]
    obtain⟨x,hk,hho⟩:=hA.virt j h0;exact .inr ⟨h0,hc.nil j h0,by rw[kM hk];exact hho⟩
  have hM:∀b,kA ρ' (qA acc.blks) b→kA ρ (qA s.H) b:=by
   rintro b ⟨j,n,C,hp,hl⟩;rcases hsrcOf j hl with⟨id,_,g2,g3⟩|⟨_,g2,_⟩
   ·rw[g2]at hp;exact⟨id,n,C,hp,g3⟩
   ·rw[g2]at hp;cases hp
  have hMa:∀b,av S.F (kA ρ' (qA acc.blks)) b→av S.F (kA ρ (qA s.H)) b:=fun b hb=>hb.imp id (hM b);refine⟨ρ',⟨⟨?_,?_,?_,hr.heap.low,fun b hb=>hr.heap.out b (hM b hb)⟩,?_,hr.size,hr.defers⟩,?_,fun j hj=>by rw[hρ' j hj];exact h2 j hj,?_,⟨h4.size,h4.same,fun b hb=>h4.sub b (hM b hb),h4.keeps⟩⟩
  ·intro j p hp;simp only[ρ']at hp;split at hp
   ·exact hr.heap.wf _ _ hp
   ·simp only[Option.some.injEq]at hp;subst hp;exact q5 _
   ·cases hp
  ·intro j hl;dsimp only at hl⊢;rcases hsrcOf j hl with⟨id,g1,g2,g3⟩|⟨_,g2,g3⟩
   ·obtain⟨p,hp,hb⟩:=hr.heap.rel id g3;exact⟨p,by rw[g2];exact hp,qB.avoid hMa (hB j id _ p g1 (dK hl) hp hb)⟩
   ·exact⟨_,g2,by rcases g3 with⟨k,g3⟩|⟨k,s,g3⟩<;>rw[g3]<;>exact⟨rfl,.inl ⟨rfl,rfl,rfl⟩⟩⟩
  ·intro i j b n C n' C' hi hj hpi hpj;rcases hsrcOf i hi with⟨id,g1,g2,g3⟩|⟨_,g2,_⟩
   ·rcases hsrcOf j hj with⟨id',g1',g2',g3'⟩|⟨_,g2',_⟩
    ·rw[g2]at hpi;rw[g2']at hpj;have:=hr.heap.inj id id' b _ _ _ _ g3 g3' hpi hpj;subst this;exact hA.nodup i j id g1 g1'
    ·rw[g2']at hpj;cases hpj
   ·rw[g2]at hpi;cases hpi
  ·intro t;refine vA.avoid hMa _ _ ?_;refine iZ keep (iE s.T) vs' [] ρ' _ w (fun t=>a.eval (.tmp t)) (hV _ ?_) t;exact lA.map_fn _ _ (fun p=>hr.tmps p.1) keep
  ·intro j hj;dsimp only at hj;rw[←hA.len]at hj;simp only[ρ',aE hj]
  ·dsimp only;rw[←hA.len,hsrc];simp[hlen0]
 ·cases hn
theorem Dl {E:jC}{S:aq}{bsh:List (Nat×List Sh)}{keep:List (Nat×Sh)}{s:St}{vs:List V}{H:List rA}(hn:Dk E.nb bsh keep s=some (vs,H)){a:Act}{w:World}(hI:qG E S s a w):qG E S ⟨fC keep vs,H⟩ a w:=by
 obtain⟨ρ,hr,h1,h2,h3,h4⟩:=hI;unfold Dk at hn;split at hn
 ·rename_i vs' acc0 hs;split at hn
  rotate_left
  ·cases hn
  rename_i acc hsB;obtain⟨hok0,hn⟩:=gA hn;obtain⟨hok,hall⟩:=wB hok0;simp only[Option.some.injEq,Prod.mk.injEq]at hn;obtain⟨rfl,rfl⟩:=hn;obtain⟨⟨more0,hsrc0⟩,hk0⟩:=uI _ _ _ _ _ hs;obtain⟨⟨more1,hsrc1⟩,hk1⟩:=dz _ _ _ hsB;have hsrc:acc.src=(List.range E.nb).map some++(more0++more1):=by rw[hsrc1,hsrc0,iX]
  have hst:∀j:Nat,((List.range E.nb).map some)[j]?=if j<E.nb then some (some j)else none:=by
   intro j;simp only[e0];by_cases hj:j<E.nb
   ·rw[u5 hj,if_pos hj];rfl
   ·rw[aE (by simp;omega),if_neg hj];rfl
  have hlen0:((List.range E.nb).map some).length=E.nb:=by simp
  have hst2:∀j:Nat,j<E.nb→(rM bsh (s.H.take E.nb))[j]?=s.H[j]?∨(rM bsh (s.H.take E.nb))[j]?=some .dead:=fun j hj=>by
   rcases kV bsh (s.H.take E.nb) j with h|h
   ·exact .inl (h.trans (by simp[hY,hj]))
   ·exact .inr h
  have hacc0:mO (qA s.H) ⟨(List.range E.nb).map some,rM bsh (s.H.take E.nb)⟩:=by
   refine⟨by simp[pS,h3],?_,?_,?_⟩
   ·intro i j id hi hj;rw[hst]at hi hj;split at hi<;>split at hj<;>simp_all
   ·intro j hj;rw[hst]at hj;split at hj<;>simp at hj
   ·intro j id x hj hx hl;rw[hst]at hj;split at hj
    ·rename_i hlt;simp only[Option.some.injEq]at hj;subst hj;rcases hst2 j hlt with g|g
     ·dsimp only at hx;rw[g]at hx;rw[kM hx];exact hl
     ·dsimp only at hx;rw[g]at hx;simp only[Option.some.injEq]at hx;subst hx;exact hl.elim
    ·cases hj
  obtain⟨hA0,hR0⟩:=hk0 hacc0;have hpre0:∀p∈bsh,acc0.src[p.1]?=some (some p.1):=fun p hp=>by have:=yK.mp hall p hp;have:=dD this;rw[hsrc0,hG (by rw[hlen0];exact this),hst,if_pos this]
  obtain⟨hA,hR1⟩:=hk1 hA0 hpre0
  let ρ':sD:=fun j=>match acc.src[j]? with
   |some (some id)=>ρ id
   |some none=>some ⟨none,0,0⟩
   |none=>none
  have hc:gX ρ ρ' acc.src:=⟨fun j id hj=>by simp only[ρ',hj],fun j hj=>by simp only[ρ',hj]⟩
  have hpre:∀j,j<E.nb→acc.src[j]?=some (some j):=fun j hj=>by rw[hsrc,hG (by rw[hlen0];exact hj),hst,if_pos hj]
  have hρ':∀j,j<E.nb→ρ' j=ρ j:=fun j hj=>hc.old j j (hpre j hj);have hb0:uL (qA s.H) ρ ρ' (av S.F (kA ρ (qA s.H))) w ⟨(List.range E.nb).map some,rM bsh (s.H.take E.nb)⟩:=by
   intro j id x p hj hx hp hb;rw[hst]at hj;split at hj
   ·rename_i hlt;simp only[Option.some.injEq]at hj;subst hj;dsimp only at hx;have hin:x∈rM bsh (s.H.take E.nb):=dQ hx;rcases hst2 j hlt with g|g
    ·rw[g]at hx;rw[kM hx]at hb;refine hb.agree (fun i hi p hp=>?_);rw[hρ' i (cL _ _ hok x hin i hi)];exact hp
    ·rw[g]at hx;simp only[Option.some.injEq]at hx;subst hx;trivial
   ·cases hj
  have hHB:HB (qA s.H) ρ (av S.F (kA ρ (qA s.H))) w:=fun id p hl hp=>by obtain⟨p',hp',hb'⟩:=hr.heap.rel id hl;rw[hp]at hp';cases hp';exact hb'
  obtain⟨hB0,hV⟩:=hR0 ρ ρ' _ w hHB (by rw[hsrc1]at hc;exact hc.pre) hb0;have hB:=hR1 ρ ρ' _ w hHB hc hB0;have hsrcOf:∀j,(qA acc.blks j).live→(∃id,acc.src[j]?=some (some id)∧ρ' j=ρ id∧(qA s.H id).live)∨(acc.src[j]?=some none∧ρ' j=some ⟨none,0,0⟩∧qm (qA acc.blks j)):=by
   intro j hl;have hx:=dK hl;have hj:j<acc.src.length:=by rw[hA.len];exact(hN.mp hx).1
   cases hsj:acc.src[j]with
   |some id=>
    have h0:acc.src[j]?=some (some id):=by rw[hD hj,hsj]
    exact .inl ⟨id,h0,hc.old j id h0,hA.live j id _ h0 hx hl⟩
   |none=>
    have h0:acc.src[j]?=some none:=by rw[hD hj,hsj]
    obtain⟨x,hk,hho⟩:=hA.virt j h0;exact .inr ⟨h0,hc.nil j h0,by rw[kM hk];exact hho⟩
  have hM:∀b,kA ρ' (qA acc.blks) b→kA ρ (qA s.H) b:=by
   rintro b ⟨j,n,C,hp,hl⟩;rcases hsrcOf j hl with⟨id,_,g2,g3⟩|⟨_,g2,_⟩
   ·rw[g2]at hp;exact⟨id,n,C,hp,g3⟩
   ·rw[g2]at hp;cases hp
  have hMa:∀b,av S.F (kA ρ' (qA acc.blks)) b→av S.F (kA ρ (qA s.H)) b:=fun b hb=>hb.imp id (hM b);refine⟨ρ',⟨⟨?_,?_,?_,hr.heap.low,fun b hb=>hr.heap.out b (hM b hb)⟩,?_,hr.size,hr.defers⟩,?_,fun j hj=>by rw[hρ' j hj];exact h2 j hj,?_,⟨h4.size,h4.same,fun b hb=>h4.sub b (hM b hb),h4.keeps⟩⟩
  ·intro j p hp;simp only[ρ']at hp;split at hp
   ·exact hr.heap.wf _ _ hp
   ·simp only[Option.some.injEq]at hp;subst hp;exact q5 _
   ·cases hp
  ·intro j hl;dsimp only at hl⊢;rcases hsrcOf j hl with⟨id,g1,g2,g3⟩|⟨_,g2,g3⟩
   ·obtain⟨p,hp,hb⟩:=hr.heap.rel id g3;exact⟨p,by rw[g2];exact hp,qB.avoid hMa (hB j id _ p g1 (dK hl) hp hb)⟩
   ·exact⟨_,g2,by rcases g3 with⟨k,g3⟩|⟨k,s,g3⟩<;>rw[g3]<;>exact⟨rfl,.inl ⟨rfl,rfl,rfl⟩⟩⟩
  ·intro i j b n C n' C' hi hj hpi hpj;rcases hsrcOf i hi with⟨id,g1,g2,g3⟩|⟨_,g2,_⟩
   ·rcases hsrcOf j hj with⟨id',g1',g2',g3'⟩|⟨_,g2',_⟩
    ·rw[g2]at hpi;rw[g2']at hpj;have:=hr.heap.inj id id' b _ _ _ _ g3 g3' hpi hpj;subst this;exact hA.nodup i j id g1 g1'
    ·rw[g2']at hpj;cases hpj
   ·rw[g2]at hpi;cases hpi
  ·intro t;refine vA.avoid hMa _ _ ?_;refine iZ keep (iE s.T) vs' [] ρ' _ w (fun t=>a.eval (.tmp t)) (hV _ ?_) t;exact lA.map_fn _ _ (fun p=>hr.tmps p.1) keep
  ·intro j hj;dsimp only at hj;rw[←hA.len]at hj;simp only[ρ',aE hj]
  ·dsimp only;rw[←hA.len,hsrc];simp[hlen0]
 ·cases hn
section
variable {P:Program}{F:Nat→Prop}{ρ:sD}{h:Nat→rA}{w:World}
mutual
theorem A9 (hh:mA F ρ h w){nb:Nat}{ρ':sD}{M':Nat→Prop}(hρ:∀i,i<nb→ρ' i=ρ i)(hM:∀b,M' b→kA ρ h b)(hM':∀b,M' b→∀id n C,nb≤id→(h id).live→ρ id≠some ⟨some b,n,C⟩):
  ∀(sh:Sh) (v v':V) (u:Value),xL nb h sh v=some v'→vA ρ (av F (kA ρ h)) w v u→vA ρ' (av F M') w v' u
 | .il k s,v,v',u,hf,hr=>by
  have hMa:∀b,av F M' b→av F (kA ρ h) b:=fun b hb=>hb.imp id (hM b);have key:∀id b n C,nb≤id→(h id).live→ρ id=some ⟨some b,n,C⟩→¬av F M' b:=fun id b n C h1 h2 h3 hb=>hb.elim (fun hf=>hh.out b ⟨id,n,C,h3,h2⟩ hf) (fun hm=>hM' b hm id n C h1 h2 h3);unfold xL at hf;split at hf
  ·obtain⟨h0,hf⟩:=gA hf;simp only[Option.some.injEq]at hf;subst hf;simp only[vA]at hr⊢;exact⟨dD h0,by simp,.inl ⟨trivial,none,hr⟩⟩
  ·obtain⟨h0,hf⟩:=gA hf;simp only[Option.some.injEq]at hf;subst hf;have:=vA.avoid hMa _ _ hr;simpa only[vA]using this
  ·rename_i id s';obtain⟨h0,hf2⟩:=gA hf;clear hf;simp only[iB]at h0;have h1:=gG h0.1;have h2:=vB h0.2;clear h0;subst h2;split at hf2
   ·rename_i k' l hid;obtain⟨_,hf⟩:=gA hf2;simp only[Option.some.injEq]at hf;subst hf;have hl:(h id).live:=by rw[hid];trivial
    obtain⟨g0,⟨b,n,C,cap,c,g1,g2,g3,g4,g5,ho,hsz,hold⟩|⟨g1,g2,hk⟩⟩:=zF hh hr hl (by rw[hid];trivial)
    ·rw[hid]at hold;obtain⟨e1,e2,e3⟩:=hold;simp only[vA];refine⟨g0,by rw[e1];exact g2,.inr ⟨b,0,cap,by rw[e1];exact g5,by rw[e1];exact g3,ho.lt,key id b n C h1 hl g1,fun j hj=>?_⟩⟩;rw[u4,ho.cell];exact e3 j hj
    ·rw[hid]at hk;rcases hk with⟨k2,hk⟩|hk|⟨_,_,hk⟩<;>cases hk;simp only[vA];exact⟨g0,by simp,.inl ⟨trivial,none,g2⟩⟩
   ·cases hf2
  ·rename_i id s' off len;obtain⟨h0,hf2⟩:=gA hf;clear hf;simp only[iB]at h0;have h1:=gG h0.1;have h2:=vB h0.2;clear h0;subst h2;split at hf2
   ·rename_i k' l hid;obtain⟨_,hf⟩:=gA hf2;simp only[Option.some.injEq]at hf;subst hf;have hl:(h id).live:=by rw[hid];trivial
    simp only[vA]at hr⊢;obtain⟨g0,⟨b,n,C,cap,g1,g2,g3,g4,g5⟩|⟨g1,a,g2⟩⟩:=hr
    ·obtain⟨c,ho,hsz,hold⟩:=hh.own hl (by rw[hid];trivial) g1;rw[hid]at hold;obtain⟨e1,e2,e3⟩:=hold;have hlen:((l.drop off).take (rG s len)).length=len*s:=by rw[bC];simp;omega
     rw[hlen];refine⟨g0,Nat.mul_mod_left _ _,.inr ⟨b,off,cap,by rw[p0 _ g0];exact g5,by rw[p0 _ g0];exact g3,ho.lt,key id b n C h1 hl g1,fun j hj=>?_⟩⟩;rw[ho.cell,e3 _ (by omega)];congr 2;simp only[iA];rw[l4 (by rw[bC];omega),u3]
    ·subst g1;have:(l.drop off).take (rG s 0)=[]:=by rw[bC];simp
     rw[this];exact⟨g0,by simp,.inl ⟨rfl,a,g2⟩⟩
   ·cases hf2
  ·cases hf
 | .recd ss,v,v',u,hf,hr=>by
  unfold xL at hf;split at hf
  ·rename_i cs;split at hf
   ·rename_i cs' hL;simp only[Option.some.injEq]at hf;subst hf;simp only[vA]at hr⊢;obtain⟨vs,e,hr⟩:=hr;exact⟨vs,e,lK hh hρ hM hM' ss cs cs' _ hL hr⟩
   ·cases hf
  ·cases hf
 | .tup ss,v,v',u,hf,hr=>by
  unfold xL at hf;split at hf
  ·rename_i cs;split at hf
   ·rename_i cs' hL;simp only[Option.some.injEq]at hf;subst hf;simp only[vA]at hr⊢;obtain⟨vs,e,hr⟩:=hr;exact⟨vs,e,lK hh hρ hM hM' ss cs cs' _ hL hr⟩
   ·cases hf
  ·cases hf
 | .any,v,v',u,hf,hr=>by simp only[xL]at hf;obtain⟨h0,hf⟩:=gA hf;simp only[Option.some.injEq]at hf;subst hf;simp only[yK]at h0;exact vA.avoid (fun b hb=>hb.imp id (hM b)) _ _ (hr.agree _ _ (fun i hi p hp=>by rw[hρ i (dD (h0 i hi))];exact hp))
 | .row _ _,v,v',u,hf,hr=>by simp only[xL]at hf;obtain⟨h0,hf⟩:=gA hf;simp only[Option.some.injEq]at hf;subst hf;simp only[yK]at h0;exact vA.avoid (fun b hb=>hb.imp id (hM b)) _ _ (hr.agree _ _ (fun i hi p hp=>by rw[hρ i (dD (h0 i hi))];exact hp))
 | .part _ _,v,v',u,hf,hr=>by simp only[xL]at hf;obtain⟨h0,hf⟩:=gA hf;simp only[Option.some.injEq]at hf;subst hf;simp only[yK]at h0;exact vA.avoid (fun b hb=>hb.imp id (hM b)) _ _ (hr.agree _ _ (fun i hi p hp=>by rw[hρ i (dD (h0 i hi))];exact hp))
 | .nrow _ _,v,v',u,hf,hr=>by simp only[xL]at hf;obtain⟨h0,hf⟩:=gA hf;simp only[Option.some.injEq]at hf;subst hf;simp only[yK]at h0;exact vA.avoid (fun b hb=>hb.imp id (hM b)) _ _ (hr.agree _ _ (fun i hi p hp=>by rw[hρ i (dD (h0 i hi))];exact hp))
 | .box _,v,v',u,hf,hr=>by simp only[xL]at hf;obtain⟨h0,hf⟩:=gA hf;simp only[Option.some.injEq]at hf;subst hf;simp only[yK]at h0;exact vA.avoid (fun b hb=>hb.imp id (hM b)) _ _ (hr.agree _ _ (fun i hi p hp=>by rw[hρ i (dD (h0 i hi))];exact hp))
theorem lK (hh:mA F ρ h w){nb:Nat}{ρ':sD}{M':Nat→Prop}(hρ:∀i,i<nb→ρ' i=ρ i)(hM:∀b,M' b→kA ρ h b)(hM':∀b,M' b→∀id n C,nb≤id→(h id).live→ρ id≠some ⟨some b,n,C⟩):
  ∀(ss:List Sh) (vs vs':List V) (us:List Value),wH nb h ss vs=some vs'→lA ρ (av F (kA ρ h)) w vs us→lA ρ' (av F M') w vs' us
 | [],[],vs',us,hf,hr=>by simp only[wH,Option.some.injEq]at hf;subst hf;cases us<;>simp_all[lA]
 |s::ss,v::vs,vs',us,hf,hr=>by
  unfold wH at hf;split at hf
  ·rename_i v1 h1;split at hf
   ·rename_i vs1 h2;simp only[Option.some.injEq]at hf;subst hf;cases us with
    |nil=>simp only[lA]at hr
    |cons u us=>simp only[lA]at hr⊢;exact⟨A9 hh hρ hM hM' s v v1 u h1 hr.1,lK hh hρ hM hM' ss vs vs1 us h2 hr.2⟩
   ·cases hf
  ·cases hf
 | [],_::_,vs',us,hf,hr=>by simp[wH]at hf
 |_::_,[],vs',us,hf,hr=>by simp[wH]at hf
end
theorem xW {E:jC}(hty:bF P E.ty){s:St}{a:Act}(hr:km E F ρ (iE s.T) (qA s.H) a w):∀(rs:List ResultVar) (vs:List V),uk E s rs=some vs→
  ∃us,lA ρ (av F (kA ρ (qA s.H))) w vs us∧(rs.mapM (m:=Sem) fun
   | .tmp t=>pure (a.tmps.getD t undef)
   | .cell x t=>do loadVar t (←asAddr (a.tmps.getD x undef))).run P w= .ok us w
 | [],vs,h=>by simp only[uk,Option.some.injEq]at h;subst h;exact⟨[],by simp[lA],by simp⟩
 | .tmp t::r,vs,h=>by
  simp only[uk]at h;split at h
  ·rename_i vs1 h1;simp only[Option.some.injEq]at h;subst h;obtain⟨us,g1,g2⟩:=xW hty hr r vs1 h1;refine⟨_::us,⟨hr.tmps t,g1⟩,?_⟩;simp only[List.mapM_cons,q0,r0,y0,g2,Act.eval]
  ·cases h
 | .cell x t::r,vs,h=>by
  simp only[uk]at h;split at h
  ·rename_i ti id off ext hti hx;obtain⟨h0,h⟩:=gA h;simp only[iB]at h0;have hle:=gG h0.1;have hpos:=dD h0.2;split at h
   ·rename_i v1 vs1 hv h1;simp only[Option.some.injEq]at h;subst h;obtain⟨us,g1,g2⟩:=xW hty hr r vs1 h1;have hx':=hr.tmps x;rw[hx]at hx';simp only[vA]at hx';obtain⟨b,n,C,hp,hn,he⟩:=hx';have hlive:(qA s.H id).live:=by
     cases hb:qA s.H id with
     |dead=>rw[hb]at hv;simp[zG]at hv
     |_=>trivial
    have h0':=hty _ _ hti;obtain⟨v,r1,r2⟩:=vN (b:=b) (o:=0) h0' hpos (hr.heap.cellsAt hlive hp) (by omega) hv h0'.one;rw[u4]at r1;refine⟨v::us,⟨r2,g1⟩,?_⟩;simp only[Act.eval]at he;have ha:(asAddr (a.tmps.getD x undef)).run P w= .ok ⟨b,off,none⟩ w:=by rw[he];rfl
    simp only[List.mapM_cons,q0,r0,y0,ha,r1,g2]
   ·cases h
  ·cases h
theorem Dr {vs:List V}{us:List Value}{M:Nat→Prop}(hr:lA ρ M w vs us):vA ρ M w (one vs) (if h:us.toArray.size=1 then us.toArray[0]else .tuple us.toArray):=by
 have hl:=hr.length;unfold one;split
 ·rename_i v;cases us with
  |nil=>simp at hl
  |cons u us=>
   cases us with
   |nil=>simp only[lA]at hr;simpa using hr.1
   |cons=>simp at hl
 ·rename_i h1;have hne:¬us.toArray.size=1:=by
   intro he;simp at he;rw[←hl]at he;obtain⟨v,hv⟩:=List.length_eq_one_iff.mp he;exact h1 v hv
  rw[dif_neg hne];simp only[vA];exact⟨_,rfl,by simpa using hr⟩
theorem gP:∀(vs:List V) (us:List Value) (i t:Nat) (ρ:sD) (M:Nat→Prop) (w:World) (d:Value),lA ρ M w vs us→vA ρ M w (iE (jP i vs) t) (if i≤t∧t<i+us.length then us.getD (t-i) undef else d)
 | [],us,i,t,ρ,M,w,d,hr=>by simp only[jP,iE,vA]
 |v::vs,[],i,t,ρ,M,w,d,hr=>by simp only[lA]at hr
 |v::vs,u::us,i,t,ρ,M,w,d,hr=>by
  simp only[lA]at hr;simp only[jP,iE];cases hb:Nat.beq i t<;>simp only[cond_true,cond_false]
  ·have hne:i≠t:=fun e=>by subst e;simp at hb
   have:=gP vs us (i+1) t ρ M w d hr.2;by_cases hc:i≤t∧t<i+(us.length+1)
   ·rw[if_pos (by omega)]at this;rw[if_pos (by simp;omega)];have e:t-i=(t- (i+1))+1:=by omega
    rw[e];simpa using this
   ·rw[if_neg (by omega)]at this;rw[if_neg (by simp;omega)];exact this
  ·have:=vB hb;subst this;rw[if_pos (by simp)];simpa using hr.1
theorem fT {ρ:sD}{M:Nat→Prop}{w:World}:∀(i:Nat) (ss:List Sh) (vs:List V) (us:List Value),vs.length=ss.length→us.length=ss.length→(∀t,vA ρ M w (iE (fC (qj i ss) vs) (i+t)) (us.getD t undef))→lA ρ M w vs us
 |i,[],[],[],_,_,_=>by simp only[lA]
 |i,s::ss,v::vs,u::us,h1,h2,h=>by
  simp only[lA];have h0:=h 0;simp only[qj,fC,iE,Nat.add_zero,Nat.beq_refl,cond_true]at h0;refine⟨by simpa using h0,fT (i+1) ss vs us (by simpa using h1) (by simpa using h2) fun t=>?_⟩;have ht:=h (t+1);have hb:Nat.beq i (i+(t+1))=false:=by
   cases hc:Nat.beq i (i+(t+1))with
   |false=>rfl
   |true=>have:=vB hc;omega
  simp only[qj,fC,iE,hb,cond_false]at ht;have e:i+1+t=i+(t+1):=by omega
  rw[e];simpa using ht
 |i,[],_::_,_,h1,_,_=>by simp at h1
 |i,_::_,[],_,h1,_,_=>by simp at h1
 |i,[],[],_::_,_,h2,_=>by simp at h2
 |i,_::_,_::_,[],_,h2,_=>by simp at h2
def Gr (P:Program)(fn:Func)(S:aq)(v:V)(bs:List rA)(a:Act)(w:World):Prop:=
 a.defers=[]∧∃u,(results fn a.tmps).run P w= .ok u w∧qT S.F S.ρ S.bs S.w v bs u w
theorem Cj {E:jC}{fn:Func}(hty:bF P E.ty)(hres:E.res=fn.results.toList){S:aq}(hnb:E.nb=S.bs.length){s:St}{v:V}{bs:List rA}(hf:fin E s=some (v,bs)){a:Act}(hI:qG E S s a w):Gr P fn S v bs a w:=by
 obtain⟨ρ,hr,h1,h2,h3,h4⟩:=hI;refine⟨hr.defers,?_⟩;unfold fin at hf;split at hf
 ·cases hf
 ·rename_i vs hvs;have hf0:=hf;clear hf;cases hrow:E.own<;>rw[hrow]at hf0<;>simp only[cond_true,cond_false]at hf0
  rotate_left
  ·split at hf0
   ·cases hf0
   ·rename_i vs' H' hn;obtain⟨hok,hf⟩:=gA hf0;simp only[Option.some.injEq,Prod.mk.injEq]at hf;obtain⟨rfl,rfl⟩:=hf;simp only[iB]at hok;have hl1:=vB hok.1;have hl2:=vB hok.2;obtain⟨us,g1,g2⟩:=xW hty hr _ _ hvs;have hlu:=g1.length;refine⟨if h:us.toArray.size=1 then us.toArray[0]else .tuple us.toArray,?_,?_⟩
    ·unfold results;rw[←s5 (xs:=fn.results),List.mapM_toArray,←hres];simp only[bind_map_left,q0,r0];exact(congrArg (fun r=>Result.andThen r _) g2).trans rfl
    ·have hev:∀t,Act.eval ⟨us.toArray,[]⟩ (.tmp t)=us.getD t undef:=fun t=>by simp[Act.eval,iA]
     have hI1:qG {E with ntmps:=us.length} S ⟨jP 0 vs,s.H⟩ ⟨us.toArray,[]⟩ w:=by
      refine⟨ρ,⟨hr.heap,fun t=>?_,by simp,rfl⟩,h1,h2,h3,h4⟩;have:=gP vs us 0 t ρ (av S.F (kA ρ (qA s.H))) w undef g1;rw[hev];dsimp only;split at this
      ·simpa using this
      ·rename_i hge;have:us.getD t undef=undef:=by
        rw[iA,aE (by omega)];rfl
       rw[this];assumption
     obtain⟨ρ',k1,k2,k3,k4,k5⟩:=Dl (E:={E with ntmps:=us.length}) hn hI1;refine⟨ρ',fun j hj=>k3 j (by dsimp only;omega),k2,k1.heap,Dr (fT 0 E.rsh vs' us hl2 (by omega) fun t=>?_),k5⟩;have:=k1.tmps t;rw[hev]at this;rw[u4];exact this
  have hf:=hf0;clear hf0;split at hf
  ·cases hf
  ·rename_i vs' hfz;obtain⟨hok,hf⟩:=gA hf;simp only[Option.some.injEq,Prod.mk.injEq]at hf;obtain⟨rfl,rfl⟩:=hf;obtain⟨us,g1,g2⟩:=xW hty hr _ _ hvs;refine⟨if h:us.toArray.size=1 then us.toArray[0]else .tuple us.toArray,?_,?_⟩
   ·unfold results;rw[←s5 (xs:=fn.results),List.mapM_toArray,←hres];simp only[bind_map_left,q0,r0];exact(congrArg (fun r=>Result.andThen r _) g2).trans rfl
   ·let ρ':sD:=fun j=>if j<E.nb then ρ j else none
    have hρ':∀j,j<E.nb→ρ' j=ρ j:=fun j hj=>if_pos hj;have hbt:∀j,qA (s.H.take E.nb) j=if j<E.nb then qA s.H j else .dead:=fun j=>by rw[aD,aD,iA,iA,hY];split<;>rfl
    have hlive:∀j,(qA (s.H.take E.nb) j).live→j<E.nb∧(qA s.H j).live:=fun j hl=>by
     rw[hbt]at hl;split at hl
     ·exact⟨by assumption,hl⟩
     ·exact hl.elim
    have hM:∀b,kA ρ' (qA (s.H.take E.nb)) b→kA ρ (qA s.H) b:=by rintro b ⟨j,n,C,hp,hl⟩;obtain⟨k1,k2⟩:=hlive j hl;rw[hρ' j k1]at hp;exact⟨j,n,C,hp,k2⟩
    have hMa:∀b,av S.F (kA ρ' (qA (s.H.take E.nb))) b→av S.F (kA ρ (qA s.H)) b:=fun b hb=>hb.imp id (hM b);refine⟨ρ',fun j hj=>?_,fun j hj=>?_,⟨?_,?_,?_,hr.heap.low,fun b hb=>hr.heap.out b (hM b hb)⟩,?_,⟨h4.size,h4.same,fun b hb=>h4.sub b (hM b hb),h4.keeps⟩⟩
    ·rw[hρ' j (by omega)];exact h2 j (by omega)
    ·have:¬j<E.nb:=by simp[List.length_take]at hj;omega
     exact if_neg this
    ·intro j p hp;simp only[ρ']at hp;split at hp
     ·exact hr.heap.wf _ _ hp
     ·cases hp
    ·intro j hl;obtain⟨k1,k2⟩:=hlive j hl;obtain⟨p,hp,hb⟩:=hr.heap.rel j k2;refine⟨p,by rw[hρ' j k1];exact hp,?_⟩;rw[hbt,if_pos k1];refine qB.avoid hMa (hb.agree (fun i hi p hp=>?_));have hin:qA s.H j∈s.H.take E.nb:=dQ (i:=j) (by rw[hY,if_pos k1];exact dK k2);rw[hρ' i (cL _ _ hok _ hin i hi)];exact hp
    ·intro i j b n C n' C' hi hj hpi hpj;obtain⟨k1,k2⟩:=hlive i hi;obtain⟨k3,k4⟩:=hlive j hj;rw[hρ' i k1]at hpi;rw[hρ' j k3]at hpj;exact hr.heap.inj i j b _ _ _ _ k2 k4 hpi hpj
    ·refine Dr (lK hr.heap hρ' hM ?_ _ _ _ _ hfz g1);rintro b ⟨j,n,C,hp,hl⟩ id n' C' hid hli hpi;obtain⟨k1,k2⟩:=hlive j hl;rw[hρ' j k1]at hp;have:=hr.heap.inj j id b _ _ _ _ k2 hli hp hpi;omega
end
def jb (P:Program)(body:Code)(Q:Exit→Act→World→Prop):Nat→Code→Act→World→Prop
 |0,_,_,_=>False
 |n+1,c,a,w=>c.wp P (fun e a' w'=>match e with
  | .goto l=>∃rest,findLabel body l=some rest∧jb P body Q n rest a' w'
  |e=>Q e a' w') a w
theorem rO {P:Program}{body:Code}{Q:Exit→Act→World→Prop}{a:Act}{w:World}(n:Nat)(h:jb P body Q n body a w):(Code.scope body).wp P Q a w:=by
 intro b k cs;have key:∀n c a w,jb P body Q n c a w→∃e a' w',Q e a' w'∧Arrives P (lone (b.at a (.code c:: .inScope body::k)) cs w) b k cs e a' w':=by
  intro n;induction n with
  |zero=>intro c a w h;exact h.elim
  |succ n ih=>
   intro c a w h;obtain⟨e,a₁,w₁,hq,harr⟩:=h b (.inScope body::k) cs;cases e with
   |normal=>exact⟨.normal,a₁,w₁,hq,Steps.trans harr (.one step_inScope)⟩
   |exit id=>exact⟨.exit id,a₁,w₁,hq,fun k' hk=>harr k' (by simp[exitTo,hk])⟩
   |goto l=>obtain⟨rest,hf,hp⟩:=hq;obtain⟨e₂,a₂,w₂,hq₂,harr₂⟩:=ih rest a₁ w₁ hp;exact⟨e₂,a₂,w₂,hq₂,.of_steps (harr _ (by simp[gotoIn,hf])) harr₂⟩
   |ret=>exact⟨_,a₁,w₁,hq,harr⟩
   |panic ch=>exact⟨_,a₁,w₁,hq,harr⟩
   |outgrown=>exact⟨_,a₁,w₁,hq,harr⟩
 obtain⟨e,a₁,w₁,hq,harr⟩:=key n body a w h;exact⟨e,a₁,w₁,hq,.of_steps (.one step_scope) harr⟩
theorem vK:∀(c:Code) (l:Nat) (rest:Code),findLabel c l=some rest→∀x∈dA rest,x∈dA c
 | .seq a b,l,rest,h,x,hx=>by
  simp only[findLabel]at h;split at h
  ·rename_i r hr;simp only[Option.some.injEq]at h;subst h;simp only[dA,zE]at hx⊢;exact hx.imp (vK a l r hr x) (fun y=>y)
  ·simp only[dA,zE];exact .inr (vK b l rest h x hx)
 | .label l',l,rest,h,x,hx=>by
  simp only[findLabel]at h;split at h
  ·simp only[Option.some.injEq]at h;subst h;simp[dA]at hx
  ·cases h
 | .skip,_,_,h,_,_=>by simp[findLabel]at h
 | .region ..,_,_,h,_,_=>by simp[findLabel]at h
 | .cond ..,_,_,h,_,_=>by simp[findLabel]at h
 | .block ..,_,_,h,_,_=>by simp[findLabel]at h
 | .loop ..,_,_,h,_,_=>by simp[findLabel]at h
 | .scope ..,_,_,h,_,_=>by simp[findLabel]at h
 | .exit ..,_,_,h,_,_=>by simp[findLabel]at h
 | .goto ..,_,_,h,_,_=>by simp[findLabel]at h
 | .ret,_,_,h,_,_=>by simp[findLabel]at h
 | .rangeFunc ..,_,_,h,_,_=>by simp[findLabel]at h
 | .refuse ..,_,_,h,_,_=>by simp[findLabel]at h
section
variable {P:Program}{fn:Func}{E:jC}
def Is (P:Program)(fn:Func)(E:jC)(S:aq):Ex→St→Exit→Act→World→Prop
 | .normal,s,x,a,w=>x= .normal∧qG E S s a w
 | .exit i,s,x,a,w=>x= .exit i∧qG E S s a w
 | .goto l,s,x,a,w=>x= .goto l∧qG E S s a w
 | .ret v bs,_,x,a,w=>x= .ret∧Gr P fn S v bs a w
def Ho (P:Program)(fn:Func)(E:jC)(c:Code)(s:St){R:Type}(k:Ex→St→Option R)(r:R):Prop:=
 ∀S a w,E.nb=S.bs.length→qG E S s a w→c.wp P (fun x a' w'=>∃ex s',k ex s'=some r∧Is P fn E S ex s' x a' w') a w
def gB (P:Program)(fn:Func)(E:jC):Code→Prop
 | .loop b=>∀e hd,E.cut (nD b)=some e→E.hint (nD b)=some hd→∀(R:Type) vs H (k:Ex→St→Option R) r,e.run vs H k=some r→Ho P fn E (.loop b) ⟨fC hd.keep vs,H⟩ k r
 | .scope b=>∀e hd,E.cut (1000000+nD b)=some e→E.hint (1000000+nD b)=some hd→∀(R:Type) vs H (k:Ex→St→Option R) r,e.run vs H k=some r→Ho P fn E (.scope b) ⟨fC hd.keep vs,H⟩ k r
 |_=>True
def lW (P:Program)(fn:Func)(E:jC)(c:Code)(f:{R:Type}→St→(Ex→St→Option R)→Option R):Prop:=
 ∀(R:Type) s (k:Ex→St→Option R) r,f s k=some r→Ho P fn E c s k r
theorem zn {b:Code}{hd:cC}{f:{R:Type}→St→(Ex→St→Option R)→Option R}(hf:lW P fn E b f){R:Type}:∀(n:Nat) (vs:List V) (H:List rA) (k:Ex→St→Option R) (r:R),dB E.nb hd f n vs H k=some r→
  ∀S a w,E.nb=S.bs.length→qG E S ⟨fC hd.keep vs,H⟩ a w→Code.rounds P b (fun x a' w'=>∃ex s',k ex s'=some r∧Is P fn E S ex s' x a' w') n a w:=by
 intro n;induction n with
 |zero=>intro vs H k r h;cases h
 |succ n ih=>
  intro vs H k r h S a w hnb hI;unfold dB at h;rw[rounds_succ];refine wp_mono (hf R _ _ _ h S a w hnb hI) ?_;rintro x a' w' ⟨ex,s1,h1,h2⟩;cases ex with
  |normal=>
   obtain⟨rfl,hI'⟩:=h2;dsimp only at h1;split at h1
   ·rename_i vs' H' hn;exact ih _ _ _ _ h1 S a' w' hnb (jL hn hI')
   ·cases h1
  |ret v bs=>obtain⟨rfl,hI'⟩:=h2;exact⟨.ret v bs,.nil,h1,rfl,hI'⟩
  |exit i=>
   obtain⟨rfl,hI'⟩:=h2;dsimp only at h1;split at h1
   ·rename_i vs' H' hn;exact⟨.exit i,_,h1,rfl,jL hn hI'⟩
   ·cases h1
  |goto l=>
   obtain⟨rfl,hI'⟩:=h2;dsimp only at h1;split at h1
   ·rename_i vs' H' hn;exact⟨.goto l,_,h1,rfl,jL hn hI'⟩
   ·cases h1
theorem wN {b:Code}{hd:cC}{f:{R:Type}→St→(Ex→St→Option R)→Option R}(hf:lW P fn E b f){R:Type}{n:Nat}{vs:List V}{H:List rA}{k:Ex→St→Option R}{r:R}(h:dB E.nb hd f n vs H k=some r):
  Ho P fn E (.loop b) ⟨fC hd.keep vs,H⟩ k r:=fun S a w hnb hI=>wp_loop_rounds n (zn hf n vs H k r h S a w hnb hI)
theorem mY {body:Code}{hd:cC}{f:{R:Type}→Code→St→(Ex→St→Option R)→Option R}(hf:∀c,(∀x∈dA c,x∈dA body)→lW P fn E c (fun s k=>f c s k)){R:Type}:∀(n:Nat) (c:Code) (vs:List V) (H:List rA) (k:Ex→St→Option R) (r:R),(∀x∈dA c,x∈dA body)→
  pN E.nb hd f body n c vs H k=some r→∀S a w,E.nb=S.bs.length→qG E S ⟨fC hd.keep vs,H⟩ a w→jb P body (fun x a' w'=>∃ex s',k ex s'=some r∧Is P fn E S ex s' x a' w') n c a w:=by
 intro n;induction n with
 |zero=>intro c vs H k r _ h;cases h
 |succ n ih=>
  intro c vs H k r hsub h S a w hnb hI;unfold pN at h;refine wp_mono (hf c hsub R _ _ _ h S a w hnb hI) ?_;rintro x a' w' ⟨ex,s1,h1,h2⟩;cases ex with
  |goto l=>
   obtain⟨rfl,hI'⟩:=h2;dsimp only at h1;split at h1
   ·rename_i rest hrest;split at h1
    ·rename_i vs' H' hn;exact⟨rest,hrest,ih rest _ _ _ _ (vK body l rest hrest) h1 S a' w' hnb (jL hn hI')⟩
    ·cases h1
   ·cases h1
  |ret v bs=>obtain⟨rfl,hI'⟩:=h2;exact⟨.ret v bs,.nil,h1,rfl,hI'⟩
  |normal=>
   obtain⟨rfl,hI'⟩:=h2;dsimp only at h1;split at h1
   ·rename_i vs' H' hn;exact⟨.normal,_,h1,rfl,jL hn hI'⟩
   ·cases h1
  |exit i=>
   obtain⟨rfl,hI'⟩:=h2;dsimp only at h1;split at h1
   ·rename_i vs' H' hn;exact⟨.exit i,_,h1,rfl,jL hn hI'⟩
   ·cases h1
theorem rl {R:Type}{n:Nat}{f:Nat→Option R}{r:R}(h:bY n f=some r):∀i,i<n→f i=some r:=by
 unfold bY at h;split at h
 ·rename_i hx;simp only[Option.some.injEq]at h;rw[←h];exact Classical.choose_spec hx.2
 ·cases h
theorem qZ {id:Nat}{ops:Array Oper}{it:Operand}{d1 d2:Nat}(hn:tj ops.toList=some (it,d1,d2))(h1:Nat.blt d1 E.ntmps=true)(h2:Nat.blt d2 E.ntmps=true){s:St}{R:Type}{k:St→Option R}{r:R}(hr:rz d1 d2 (Hw s.T it) s.T s.H k=some r):
  ∀S a w,qG E S s a w→(Code.region id ops false).wp P (fun x a' w'=>x= .normal∧∃s',k s'=some r∧qG E S s' a' w') a w:=by
 intro S a w hI;unfold tj at hn;split at hn
 ·rename_i l o1 o2 hops;split at hn
  ·rename_i it' t0 t d2' e1 e2 e3 e4 e5 e6;obtain⟨ht,hn⟩:=gA hn;have ht:=vB ht;subst ht;simp only[Option.some.injEq,Prod.mk.injEq]at hn;obtain⟨rfl,rfl,rfl⟩:=hn;obtain rfl:ops= #[o1,o2]:=by apply Array.ext';simpa using hops
   obtain⟨ρ,hrep,q1,q2,q3,q4⟩:=hI;unfold rz at hr;split at hr
   ·rename_i idd ext hit;split at hr
    ·rename_i mid wE rem cur hid;split at hr
     rotate_left
     ·cases hr
     rename_i kd n ks vs hmid;obtain⟨hcn,hr0⟩:=gA hr;clear hr;have hr:=hr0;clear hr0;have hcn:=vB hcn;have hev:=hrep.ev it';rw[←gh,hit]at hev;have hwanted:∀(o:Oper) (h:o.guard=none) (y:Nat→Option Bool),Region.wanted o y=true:=fun o h y=>by unfold Region.wanted;rw[h]
     have hl:idd<s.H.length:=by
      rcases hW idd s.H.length with h|h
      ·exact h
      ·have h0:s.H[idd]?=none:=aE h;rw[aD,iA,h0]at hid;cases hid
     have fin:∀(b:Bool) (v:Value) (w':World) (H':List rA),(Instr.next (a.eval it') false o1.type).run P w= .ok v w'→(Instr.extract v 0).run P w'= .ok (.bool b) w'→H'.length=s.H.length→
       mA S.F ρ (qA H') w'→uH (kA ρ (qA s.H)) w (kA ρ (qA H')) w'→k ⟨(d2',.c (.bool b))::(t,.poison)::s.T,H'⟩=some r→
       (Code.region id #[o1,o2] false).wp P (fun x a' w'=>x= .normal∧∃s',k s'=some r∧qG E S s' a' w') a w:=by
      intro b v w' H' hrun hext hlen hh he hk;have r1:km E S.F ρ (iE s.T) (qA H') a w':=hrep.put (nO.refl _) hh he (d:=none) rfl (x:=.poison) (v:=.bool b) (by simp only[vA]);have r2:=r1.put (nO.refl _) hh (uH.refl _ _) (d:=some t) h1 (x:=.poison) (v:=v) (by simp only[vA]);have r3:=r2.put (nO.refl _) hh (uH.refl _ _) (d:=some d2') h2 (x:=.c (.bool b)) (v:=.bool b) (vA.of_c _);have hev1:(a.put (some t) v).eval (.tmp t)=v:=by
       have hlt:t<a.tmps.size:=by rw[hrep.size];exact dD h1
       simp only[Act.put,Act.eval];rw[cD,o0 hlt];rfl
      refine wp_region ?_;show wpOps P #[o1,o2] _ [0,1] a w;rw[wpOps_cons];unfold wpOp;simp only[x1,x0];rw[if_pos (hwanted o1 e3 _)];refine .inl ?_;unfold Oper.wp execOp;rw[e1];simp only[q0,hrun,y0,r0];rw[Oper.upon_value,e2,wpOps_cons];unfold wpOp;simp only[x1,x0,List.getElem?_cons_succ];rw[if_pos (hwanted o2 e6 _)];refine .inl ?_;unfold Oper.wp execOp;rw[e4];simp only[hev1,q0,hext,y0,r0];rw[Oper.upon_value,e5];refine⟨rfl,_,hk,ρ,?_,fun j hj=>q1 j (by dsimp only at hj;omega),q2,by dsimp only;omega,q4.trans he⟩;have e:iE ((d2',V.c (.bool b))::(t,.poison)::s.T)=tI (tI (iE s.T) (some t) .poison) (some d2') (.c (.bool b)):=by rw[←tS,←tS];rfl
      dsimp only;rw[e];exact r3
     rcases Fv (P:=P) hrep.heap hev hid hmid hcn o1.type with⟨hr0,hrun⟩|⟨p,u1,u2,w',hp,hrun,hh,he⟩
     ·subst hr0;simp only[List.isEmpty_nil,cond_true]at hr;exact fin false _ w s.H hrun (by simp[Instr.extract]) rfl hrep.heap (uH.refl _ _) hr
     ·have hne:rem.isEmpty=false:=by cases rem with
       |nil=>simp at hp
       |cons=>rfl
      simp only[hne,cond_false]at hr;have hk:=rl hr p hp;have hb:qA (uD s.H idd (.it (some mid) wE (rem.eraseIdx p) (rem.getD p 0)))=mB (qA s.H) idd (.it (some mid) wE (rem.eraseIdx p) (rem.getD p 0)):=wT _ _ _ hl;exact fin true _ w' _ hrun (by simp[Instr.extract]) (hF _ _ _) (by rw[hb];exact hh) (by rw[hb];exact he) hk
    ·cases hr
   ·cases hr
  ·cases hn
 ·cases hn
theorem kH (hE:yA P E)(hmix:P.follows .mixedOrders=true)(hres:E.res=fn.results.toList):∀(d:Nat) (c:Code),(∀b∈dA c,gB P fn E b)→lW P fn E c (fun s k=>bB E d c s k):=by
 intro d;induction d with
 |zero=>intro c _ R s k r h;cases h
 |succ d ih=>
  intro c hcut R s k r h S a w hnb hI;dsimp only at h;unfold bB at h;cases c with
  |skip=>exact wp_skip ⟨.normal,s,h,rfl,hI⟩
  |label l=>exact wp_label ⟨.normal,s,h,rfl,hI⟩
  |exit id=>exact wp_exit ⟨.exit id,s,h,rfl,hI⟩
  |goto l=>exact wp_goto ⟨.goto l,s,h,rfl,hI⟩
  |rangeFunc=>cases h
  |refuse=>cases h
  |ret=>
   dsimp only at h;split at h
   ·rename_i v bs hf;exact wp_ret ⟨.ret v bs,.nil,h,rfl,Cj hE.ty hres hnb hf hI⟩
   ·cases h
  |region id ops draw=>
   dsimp only at h;split at h
   ·rename_i it d1 d2 hn;obtain⟨hg,h'⟩:=gA h;clear h;obtain⟨hd,hg⟩:=wB hg;obtain⟨hd1,hd2⟩:=wB hg;have hd:draw=false:=by simpa using hd
    subst hd;refine wp_mono (qZ hn hd1 hd2 h' S a w hI) ?_;rintro x a' w' ⟨rfl,s',hk,hI'⟩;exact⟨.normal,s',hk,rfl,hI'⟩
   ·obtain⟨s',h1,h2,h3⟩:=Ay (id:=id) hE hmix h;obtain⟨ρ,r1,r2,r3,r4,r5⟩:=hI;refine h3 S.F ρ a w _ r1 r2 (fun ρ' a' w' q1 q2 q3 q4=>⟨.normal,s',h1,rfl,ρ',q1,q2,fun j hj=>by rw[q3 j (by omega)];exact r3 j hj,by omega,r5.trans q4⟩)
  |seq x y=>
   refine wp_seq (wp_mono (ih x (fun b hb=>hcut b (by simp[dA,hb])) R _ _ _ h S a w hnb hI) ?_);rintro e a' w' ⟨ex,s1,h1,h2⟩;cases ex with
   |normal=>obtain⟨rfl,hI'⟩:=h2;exact ih y (fun b hb=>hcut b (by simp[dA,hb])) R _ _ _ h1 S a' w' hnb hI'
   |ret v bs=>obtain⟨rfl,hI'⟩:=h2;exact⟨.ret v bs,s1,h1,rfl,hI'⟩
   |exit i=>obtain⟨rfl,hI'⟩:=h2;exact⟨.exit i,s1,h1,rfl,hI'⟩
   |goto l=>obtain⟨rfl,hI'⟩:=h2;exact⟨.goto l,s1,h1,rfl,hI'⟩
  |cond c x y=>
   dsimp only at h;split at h
   ·rename_i b hb;rw[gh]at hb;have hev:a.eval c= .bool b:=by
     obtain⟨ρ,r1,_⟩:=hI;have:=r1.ev c;rw[hb]at this;simpa only[vA]using this
    cases b<;>simp only[cond_true,cond_false]at h
    ·exact wp_cond_false hev (ih y (fun b hb=>hcut b (by simp[dA,hb])) R _ _ _ h S a w hnb hI)
    ·exact wp_cond_true hev (ih x (fun b hb=>hcut b (by simp[dA,hb])) R _ _ _ h S a w hnb hI)
   ·cases h
  |block id b=>
   refine wp_block (wp_mono (ih b (fun x hx=>hcut x (by simpa[dA]using hx)) R _ _ _ h S a w hnb hI) ?_);rintro e a' w' ⟨ex,s1,h1,h2⟩;cases ex with
   |normal=>obtain⟨rfl,hI'⟩:=h2;exact⟨.normal,s1,h1,rfl,hI'⟩
   |ret v bs=>obtain⟨rfl,hI'⟩:=h2;exact⟨.ret v bs,s1,h1,rfl,hI'⟩
   |goto l=>obtain⟨rfl,hI'⟩:=h2;exact⟨.goto l,s1,h1,rfl,hI'⟩
   |exit i=>
    obtain⟨rfl,hI'⟩:=h2;dsimp only at h1;simp only[Exit.inBlock];cases hb:Nat.beq i id<;>rw[hb]at h1<;>simp only[cond_true,cond_false]at h1
    ·rw[if_neg (fun e=>by subst e;simp at hb)];exact⟨.exit i,s1,h1,rfl,hI'⟩
    ·rw[if_pos (vB hb)];exact⟨.normal,s1,h1,rfl,hI'⟩
  |loop b=>
   dsimp only at h;split at h
   ·cases h
   ·rename_i hd hhd;split at h
    ·cases h
    ·rename_i vs H hn;have key:Ho P fn E (.loop b) ⟨fC hd.keep vs,H⟩ k r:=by
      split at h
      ·rename_i e he;exact hcut (.loop b) (by simp[dA]) e hd he hhd R vs H k r h
      ·exact wN (ih b (fun x hx=>hcut x (by simp[dA,hx]))) h
     exact key S a w hnb (jL hn hI)
  |scope b=>
   dsimp only at h;cases hj:fR b 0<;>rw[hj]at h<;>simp only[cond_true,cond_false]at h
   ·refine wp_scope_straight (wp_mono (ih b (fun x hx=>hcut x (by simp[dA,hx])) R _ _ _ h S a w hnb hI) ?_);rintro e a' w' ⟨ex,s1,h1,h2⟩;cases ex with
    |goto l=>cases h1
    |normal=>obtain⟨rfl,hI'⟩:=h2;exact⟨.normal,s1,h1,rfl,hI'⟩
    |ret v bs=>obtain⟨rfl,hI'⟩:=h2;exact⟨.ret v bs,s1,h1,rfl,hI'⟩
    |exit i=>obtain⟨rfl,hI'⟩:=h2;exact⟨.exit i,s1,h1,rfl,hI'⟩
   ·split at h
    ·cases h
    ·rename_i hd hhd;split at h
     ·cases h
     ·rename_i vs H hn;have key:Ho P fn E (.scope b) ⟨fC hd.keep vs,H⟩ k r:=by
       split at h
       ·rename_i e he;exact hcut (.scope b) (by simp[dA]) e hd he hhd R vs H k r h
       ·exact fun S a w hnb hI=>rO E.N (mY (f:=fun c s k=>bB E d c s k) (body:=b) (fun c hc=>ih c (fun x hx=>hcut x (by simp[dA,hc x hx]))) E.N b vs H k r (fun _ hx=>hx) h S a w hnb hI)
      exact key S a w hnb (jL hn hI)
structure fg (P:Program)(f:Nat)(args:List V)(bs:List rA){R:Type}(k:V→List rA→Option R)(r:R):Prop where
 callable:wO P f
 calls:∀F ρ w args',mA F ρ (qA bs) w→(∀id,bs.length≤id→ρ id=none)→lA ρ (av F (kA ρ (qA bs))) w args args'→
  Calls P f args'.toArray w fun e w'=>∃v bs' v',k v bs'=some r∧e= .returned v'∧qT F ρ bs w v bs' v' w'
theorem fg.of {f:Nat}{args:List V}{bs:List rA}{R:Type}{k:V→List rA→Option R}{r:R}(h:fg P f args bs k r){v0:V}{bs0:List rA}(hk:∀v bs',k v bs'=some r→v=v0∧bs'=bs0):eA P f args bs v0 bs0:=
 ⟨h.callable,fun F ρ w args' hH hn hr=>(h.calls F ρ w args' hH hn hr).mono fun e w' ⟨v,bs',v',h1,h2,h3⟩=>by obtain⟨rfl,rfl⟩:=hk v bs' h1;exact⟨v',h2,h3⟩⟩
theorem jY (hE:yA P E)(hmix:P.follows .mixedOrders=true){f:Nat}{body:Code}(hf:P.funcs[f]?=some fn)(hb:fn.body=some body)(hname:(fn.name== "runtime.NumGoroutine")=false)(hres:E.res=fn.results.toList)(hnt:E.ntmps=fn.ntmps)
  {args:List V}{bs:List rA}(hnb:E.nb=bs.length)(hargs:args.length≤fn.ntmps)(hcut:∀b∈dA body,gB P fn E b){R:Type}{k:V→List rA→Option R}{r:R}(h:aB E body args bs k=some r):
  fg P f args bs k r:=by
 refine⟨⟨fn,hf,by rw[hb];rfl,hname⟩,?_⟩;intro F ρ w args' hH hn hr;refine calls_of_wp hf hb ?_;unfold aB at h;have hlen:=hr.length;have hI:qG E ⟨F,ρ,bs,w⟩ ⟨jP 0 args,bs⟩ {tmps:=args'.toArray++Array.replicate (fn.ntmps-args'.toArray.size) undef,defers:=[]} w:=by
  refine⟨ρ,⟨hH,fun t=>?_,?_,rfl⟩,hn,fun _ _=>rfl,by dsimp only;omega,uH.refl _ _⟩
  ·have:=gP args args' 0 t ρ _ w undef hr;have e:(if 0≤t∧t<0+args'.length then args'.getD (t-0) undef else undef)=Act.eval {tmps:=args'.toArray++Array.replicate (fn.ntmps-args'.toArray.size) undef,defers:=[]} (.tmp t):=by
    simp only[Act.eval,cD,Array.getElem?_append,List.size_toArray,x1,y3];by_cases ht:t<args'.length
    ·rw[if_pos (by omega),if_pos ht];simp[iA]
    ·rw[if_neg (by omega),if_neg ht];split<;>rfl
   rw[←e];exact this
  ·simp only[Array.size_append,List.size_toArray,Array.size_replicate,hnt];omega
 refine wp_mono (kH hE hmix hres Gv body hcut R _ _ _ h ⟨F,ρ,bs,w⟩ _ w hnb hI) ?_;rintro x a' w' ⟨ex,s',h1,hx⟩;cases ex with
 |normal=>
  obtain⟨rfl,hI'⟩:=hx;dsimp only at h1;split at h1
  ·rename_i v bs' hf;obtain⟨hd,u,hu,hp⟩:=Cj hE.ty hres hnb hf hI';exact⟨hd,u,hu,v,bs',u,h1,rfl,hp⟩
  ·cases h1
 |ret v bs'=>obtain⟨rfl,hd,u,hu,hp⟩:=hx;exact⟨hd,u,hu,v,bs',u,h1,rfl,hp⟩
 |exit i=>cases h1
 |goto l=>cases h1
theorem eA.of_freeze {f:Nat}{ss:List Sh}{args args2:List V}{v:V}{bs':List rA}(hz:wH 0 (fun _=>.dead) ss args=some args2)(h:eA P f args2 [] v bs'):eA P f args [] v bs':=by
 refine⟨h.callable,fun F ρ w args' hH hn hr=>h.calls F ρ w args' hH hn ?_⟩;have hd:qA []=fun _=>rA.dead:=by funext j;rfl
 rw[hd]at hH hr⊢;exact lK hH (fun i hi=>by omega) (fun b hb=>hb) (fun b hb=>by obtain⟨_,_,_,_,hl⟩:=hb;exact hl.elim) ss args args2 args' hz hr
end
theorem gD {P:Program}{t:Nat}{ti:TI}(hi:(P.info? t).isSome=true)(hs:((P.info? t).getD default).size=ti.size)(hb:((P.info? t).getD default).bytes=ti.bytes)(hz:((P.info? t).getD default).zero.isSome=true)
  (hc:(((P.info? t).getD default).zero.getD undef).cells.toList=ti.zero)(hl:ti.zero.length=ti.size)(ho:(ti.isAgg||Nat.beq ti.size 1)=true)(hk:xE P t ti.tk)(he:(!ti.isAgg||(!P.stoodInHeld t&& !P.eqGuardType P.depth t))=true):zC P t ti:=by
 cases h:P.info? t with
 |none=>rw[h]at hi;cases hi
 |some i=>
  rw[h]at hs hb hz hc;simp only[k0]at hs hb hz hc;cases h2:i.zero with
  |none=>rw[h2]at hz;cases hz
  |some z=>
   rw[h2]at hc;simp only[k0]at hc;refine⟨⟨i,h,hs,hb,z,h2,hc⟩,hl,fun ha=>?_,hk,fun ha=>?_⟩
   ·rw[ha]at ho;exact vB ho
   ·rw[ha]at he;simpa using he
theorem qH {P:Program}{t:Nat}{fields:Array Field}{fs:List (Nat×Nat)}(h1:P.underlying t=some (.struct fields))(h2:fields.toList.map (fun f=>(f.type,f.offset))=fs)(h3:fields.toList.all (fun f=>!(f.name== "_"))=true):xE P t (.struct fs):=
 ⟨fields,h1,h2,fun f hf=>by rw[yK]at h3;have:=h3 f hf;simpa using this⟩
def xe (P:Program)(e:Nat):Bool:=match P.info? e with
 |some i=>(match i.zero with|some z=>zZ z|none=>false)
 |none=>false
theorem Eo {P:Program}{t k e:Nat}(h1:P.underlying t=some (.map k e))(h2:xe P e=true):xE P t (.map k e):=by
 unfold xe at h2;split at h2
 ·rename_i i hi;split at h2
  ·rename_i z hz;exact⟨h1,i,z,hi,hz,h2⟩
  ·cases h2
 ·cases h2
theorem bF.nil {P:Program}:bF P (cJ []):=fun _ _ h=>by cases h
theorem bF.cons {P:Program}{t:Nat}{ti:TI}{l:List (Nat×TI)}(h:zC P t ti)(r:bF P (cJ l)):bF P (cJ ((t,ti)::l)):=by
 intro t' ti' ht;simp only[cJ]at ht;cases hb:Nat.beq t t'<;>rw[hb]at ht<;>simp only[cond_true,cond_false]at ht
 ·exact r t' ti' ht
 ·have:=vB hb;subst this;simp only[Option.some.injEq]at ht;subst ht;exact h
def oA (P:Program)(f:Nat)(e:uA):Prop:=∀args bs a enc,e.dec args bs=some (some a,enc)→eA P f args bs (enc a).pick.1 (enc a).pick.2
theorem xO.nil {P:Program}:xO P (cJ []):=fun _ _ h=>by cases h
theorem xO.cons {P:Program}{f:Nat}{e:uA}{l:List (Nat×uA)}(h:oA P f e)(r:xO P (cJ l)):xO P (cJ ((f,e)::l)):=by
 intro f' e' ht;simp only[cJ]at ht;cases hb:Nat.beq f f'<;>rw[hb]at ht<;>simp only[cond_true,cond_false]at ht
 ·exact r f' e' ht
 ·have:=vB hb;subst this;simp only[Option.some.injEq]at ht;subst ht;exact h
def cA (P:Program)(fn:Func)(E:jC)(l:List Code):Prop:=∀b∈l,gB P fn E b
theorem cA.nil {P:Program}{fn:Func}{E:jC}:cA P fn E []:=fun _ h=>by cases h
theorem cA.cons {P:Program}{fn:Func}{E:jC}{c:Code}{l:List Code}(h:gB P fn E c)(r:cA P fn E l):cA P fn E (c::l):=fun b hb=>by
 rcases hC.mp hb with rfl|hb
 ·exact h
 ·exact r b hb
theorem cA.of {P:Program}{fn:Func}{E:jC}{l l':List Code}(he:l'=l)(h:cA P fn E l):cA P fn E l':=he▸h
theorem cQ {P:Program}{fn:Func}{E:jC}{b:Code}(h:(E.cut (1000000+nD b)).isNone=true):gB P fn E (.scope b):=fun e hd he=>by rw[he]at h;cases h
def Hs (h:Nat→rA):V→V
 | .sw id s=>(match h id with
  | .ints _ l=>.sl id s 0 (wE s l.length)
  |_=>.sw id s)
 |v=>v
def fG (h:Nat→rA):List Bool→List V→List V
 |true::bs,v::r=>Hs h v::fG h bs r
 |false::bs,v::r=>v::fG h bs r
 |_,vs=>vs
theorem F5 {F:Nat→Prop}{ρ:sD}{h:Nat→rA}{w:World}(hh:mA F ρ h w){v:V}{u:Value}(hr:vA ρ (av F (kA ρ h)) w v u):vA ρ (av F (kA ρ h)) w (Hs h v) u:=by
 unfold Hs;split
 ·rename_i id s;split
  ·rename_i k l hid;obtain⟨h0,⟨b,n,C,cap,c,h1,h2,h3,h4,h5,ho,hsz,hold⟩|⟨h1,h2,hk⟩⟩:=zF hh hr (by rw[hid];trivial) (by rw[hid];trivial)
   ·rw[hid]at hold;obtain⟨e1,e2,e3⟩:=hold;simp only[vA];have hn:n/s*s=n:=Nat.div_mul_cancel (n5 h2);refine⟨h0,.inl ⟨b,n,C,cap,h1,?_,?_,by omega,?_⟩⟩
    ·rw[pE,e1];omega
    ·rw[pE,e1];exact h3
    ·rw[pE,e1];exact h5
   ·rw[hid]at hk;rcases hk with⟨k2,hk⟩|hk|⟨_,_,hk⟩<;>cases hk;simp only[vA];exact⟨h0,.inr ⟨by rw[pE];simp,none,h2⟩⟩
  ·exact hr
 ·exact hr
theorem uX {F:Nat→Prop}{ρ:sD}{h:Nat→rA}{w:World}(hh:mA F ρ h w):∀(bs:List Bool) (vs:List V) (us:List Value),lA ρ (av F (kA ρ h)) w vs us→lA ρ (av F (kA ρ h)) w (fG h bs vs) us
 |true::bs,v::r,[],hr=>by simp only[lA]at hr
 |true::bs,v::r,u::us,hr=>by simp only[lA,fG]at hr⊢;exact⟨F5 hh hr.1,uX hh bs r us hr.2⟩
 |false::bs,v::r,[],hr=>by simp only[lA]at hr
 |false::bs,v::r,u::us,hr=>by simp only[lA,fG]at hr⊢;exact⟨hr.1,uX hh bs r us hr.2⟩
 | [],vs,us,hr=>by simpa only[fG]using hr
 |_::_,[],us,hr=>by simpa only[fG]using hr
theorem eA.of_asSl {P:Program}{f:Nat}{fl:List Bool}{args:List V}{bs:List rA}{v:V}{bs':List rA}(h:eA P f (fG (qA bs) fl args) bs v bs'):eA P f args bs v bs':=
 ⟨h.callable,fun F ρ w args' hH hn hr=>h.calls F ρ w args' hH hn (uX hH fl args args' hr)⟩
theorem qT.kill {F:Nat→Prop}{ρ:sD}{bs:List rA}{w:World}{v:V}{bs':List rA}{v':Value}{w':World}(h:qT F ρ bs w v bs' v' w'):qT F ρ bs w v (List.replicate bs'.length .dead) v' w':=by
 obtain⟨ρ',h1,h2,h3,h4,h5⟩:=h;have hd:∀id,¬(qA (List.replicate bs'.length rA.dead) id).live:=fun id hl=>by rw[aD,iA,w4]at hl;split at hl<;>exact hl
 have hM:∀b,kA ρ' (qA (List.replicate bs'.length rA.dead)) b→kA ρ' (qA bs') b:=by rintro b ⟨id,n,C,_,hl⟩;exact absurd hl (hd id)
 exact⟨ρ',h1,fun id hid=>h2 id (by simpa using hid),⟨h3.wf,fun id hl=>absurd hl (hd id),fun i j b n C n' C' hi=>absurd hi (hd i),h3.low,fun b hb=>h3.out b (hM b hb)⟩,vA.avoid (fun b hb=>hb.imp id (hM b)) _ _ h4,⟨h5.size,h5.same,fun b hb=>h5.sub b (hM b hb),h5.keeps⟩⟩
theorem Ec {P:Program}{fn:Func}{E:jC}(hE:yA P E)(hmix:P.follows .mixedOrders=true)(hres:E.res=fn.results.toList){d:Nat}{b:Code}{hd:cC}(hcut:cA P fn E (dA b)){R:Type}{n:Nat}{vs:List V}{H:List rA}{k:Ex→St→Option R}{r:R}
  (h:pN E.nb hd (fun c s k=>bB E d c s k) b n b vs H k=some r):Ho P fn E (.scope b) ⟨fC hd.keep vs,H⟩ k r:=
 fun S a w hnb hI=>rO n (mY (f:=fun c s k=>bB E d c s k) (body:=b) (fun c hc=>kH hE hmix hres d c (fun x hx=>hcut x (hc x hx))) n b vs H k r (fun _ hx=>hx) h S a w hnb hI)
theorem dC {P:Program}{fn:Func}{E:jC}(hE:yA P E)(hmix:P.follows .mixedOrders=true)(d:Nat){b:Code}{c:nF}{h:cC}(hcut:cA P fn E (dA b))
  (H:∀(R:Type) vs Hh (k:Ex→St→Option R) r,c.run vs Hh k=some r→∃n,dB E.nb h (fun s k=>bB E d b s k) n vs Hh k=some r)(e1:E.cut (nD b)=some c:=by kernel_rfl)(e2:E.hint (nD b)=some h:=by kernel_rfl)(hres:E.res=fn.results.toList:=by kernel_rfl):gB P fn E (.loop b):=fun e hd he hh R vs Hh k r hr=>by
 rw[e1]at he;rw[e2]at hh;cases he;cases hh;obtain⟨n,hn⟩:=H R vs Hh k r hr;exact wN (kH hE hmix hres d b hcut) hn
def bo (f:Func):Code:=f.body.getD .skip
theorem pA {P:Program}{E:jC}{fn:Func}{n:Nat}{A:Type}(hE:yA P E)(hmix:P.follows .mixedOrders=true)(hf:P.funcs[n]?=some fn)(hcut:cA P fn E (dA (bo fn))){args:List V}{bs:List rA}{dec:V→List rA→Option A}{r:A}
  (h:aB E (bo fn) args bs dec=some r){v0:V}{b0:List rA}(hd:∀v bs',dec v bs'=some r→v=v0∧bs'=b0)(h1:fn.body=some (bo fn):=by kernel_rfl)(h2:(fn.name== "runtime.NumGoroutine")=false:=by kernel_rfl)(h3:E.ntmps=fn.ntmps:=by kernel_rfl)(h4:E.nb=bs.length:=by kernel_rfl)
  (h5:Nat.ble args.length fn.ntmps=true:=by kernel_rfl)(hres:E.res=fn.results.toList:=by kernel_rfl):eA P n args bs v0 b0:=
 (jY hE hmix hf h1 h2 hres h3 h4 (Nat.le_of_ble_eq_true h5) hcut h).of hd
def tD (A:Type)(fresh:Nat)(imm:List Bool)(ss:List Sh)(sel:List V→Option (Option A×(A→vu))):uA:=
 {A:=A,fresh:=fresh,imm:=imm,dec:=fun args bs=>match wH 0 (fun _=>.dead) ss args,bs with
  |some a,[]=>sel a
  |_,_=>none}
theorem sA {P:Program}{f:Nat}{A:Type}{fresh:Nat}{imm:List Bool}{ss:List Sh}{sel:List V→Option (Option A×(A→vu))}(H:∀args a enc,sel args=some (some a,enc)→eA P f args [] (enc a).pick.1 (enc a).pick.2):oA P f (tD A fresh imm ss sel):=by
 intro args bs a enc h;simp only[tD]at h;split at h
 ·rename_i hz;exact eA.of_freeze hz (H _ _ _ h)
 ·cases h
theorem nB {A:Type}{x:Option A}{g enc:A→vu}{a:A}{Q:(A→vu)→Prop}(h:some (x,g)=some (some a,enc))(H:x=some a→Q g):Q enc:=by
 have h0:=Option.some.inj h;have h1:=congrArg Prod.fst h0;have h2:=congrArg Prod.snd h0;dsimp only at h1 h2;subst h2;exact H h1
def iD (ty:List (Nat×TI))(tab:List (Nat×uA))(hint:List (Nat×cC))(cut:List (Nat×nF))(N:Nat)(res:List ResultVar)(rsh:List Sh)(nb ntmps:Nat)(own:Bool:=false)(bsh:List (Nat×List Sh):=[]):jC:=
 {ty:=cJ ty,tab:=cJ tab,hint:=cJ hint,cut:=cJ cut,N:=N,res:=res,rsh:=rsh,nb:=nb,ntmps:=ntmps,own:=own,bsh:=bsh}
theorem cA.n {P:Program}{fn:Func}{E:jC}{l:List Code}(h:l=[]:=by kernel_rfl):cA P fn E l:=cA.of h cA.nil
end Go.Proofs.YtjpdjdhdchjcgaaGreat.Ev
