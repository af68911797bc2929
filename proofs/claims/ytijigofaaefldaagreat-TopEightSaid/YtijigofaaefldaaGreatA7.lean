import Derived.Test.YtijigofaaefldaaGreatA6
import Derived.WalkKit
import Derived.ProofKit
import Derived.OpenShut
import Derived.Below
import Derived.SizedLaws
import Derived.ChangeSlices
import Derived.Deep.Matrix
open List renaming getD_eq_getElem?_getD→hB,length_range→pC,length_map→hD
open Array renaming getElem?_eq_some_iff→hC
set_option linter.unusedVariables false
set_option linter.unusedSimpArgs false
namespace Go.Proofs.YtijigofaaefldaaGreat.Ev
open Go.RowKit Go.ChangeShapes Go.WideShapes Go.ChangeAt
theorem dA.calls0 {P:Program}{f:Nat}{args:List V}{v:V}(h:dA P f args [] v []){w:World}{args':List Value}(hr:iA (fun _=>none) (fun _=>False) w args args'):
  Calls P f args'.toArray w fun e w'=>∃u,e= .returned u∧(∃ρ,nA ρ (fun _=>False) w' v u)∧Below w.heap.size w w':=by
 have hno:∀(ρ:fC) b,¬gA ρ (jA []) b:=fun ρ b hb=>by obtain⟨id,p,h1,h2⟩:=hb;simp[jA,oA.has]at h2
 have hH:lA (fun _=>False) (fun _=>none) (jA []) w:=
  ⟨fun _ _ hx=>(by cases hx),fun id hl=>(by simp[jA,oA.live]at hl),fun i j b p p' hi=>(by cases hi),fun _ hb=>hb.elim,fun _ _ hb=>hb.elim⟩
 refine Calls.mono (h.calls (fun _=>False) (fun _=>none) w args' hH (fun _ _=>rfl) (iA.avoid (fun b hb=>hb.elim id (hno _ b)) _ _ hr)) ?_;rintro e w' ⟨u,he,ρ',h1,h2,h3,h4,h5,h6⟩;exact⟨u,he,⟨ρ',nA.avoid (M':=fun _=>False) (fun b hb=>hb.elim) _ _ h5⟩,⟨h6.keeps.os,h6.keeps.tape,h6.keeps.output,h6.size,fun k hk=>h6.same k hk (hno _ k)⟩⟩
section
variable {H:Type}{enc:TypeId×Value→H}{P:Program}{w:World}{base:Nat}{held:Bool}
theorem Bf {t e:TypeId}(ht:P.underlying t=some (.slice e)){base':Nat}{a:Addr}{len cap:Nat}(hok:Value.okWide P w .any base' t (.slice (some a) len cap)):a.spot=none∧a.block<w.heap.size:=by
 simp only[Value.okWide,ht,Cell.okWide,Cell.ok]at hok;obtain⟨_,_,_,h1,row,cells,h2,_⟩:=hok;refine⟨h1,?_⟩;unfold World.shape? at h2;split at h2
 ·rename_i c elem fr hc;exact(hC.mp hc).1
 ·cases h2
theorem xl {b o n:Nat}:(⟨b,o,none⟩:Addr).add n=⟨b,o+n,none⟩:=add_plain b o n
theorem me {a:Addr}{v:Value}(h:w.cell? a=some v):a.spot=none∧a.block<w.heap.size:=by
 unfold World.cell? at h;split at h
 ·rename_i c x y hc;refine⟨?_,(hC.mp hc).1⟩;split at h
  ·cases h
  ·rename_i hs;cases hs':a.spot with
   |none=>rfl
   |some s=>rw[hs']at hs;exact absurd rfl hs
 ·cases h
theorem vb {t e q:TypeId}{k:IntKind}(ht:P.underlying t=some (.slice e))(he:P.underlying e=some (.slice q))(hq:P.underlying q=some (.int k))(ce:P.cellsOf e=1)(cq:P.cellsOf q=1)
  {base':Nat}{v:Value}{d:DataW H}{ps:List MemPlace}(hok:Value.okWide P w .any base' t v)(hd:DataW.Trod enc P w base (fun _=>true) held t v d ps):
  ∃L:W5,nA (fun _=>none) (fun _=>False) w (.inl k 1 L) v:=by
 obtain⟨fuel,hd⟩:=hd;have hv:v.cells.toList=[v]:=by simp only[Value.okWide,ht,Cell.okWide]at hok;cases v<;>first|rfl|(simp[Cell.ok,ht]at hok)
 rw[hv]at hd;rcases Go.Deep.open_int_rows ht he hq ce cq hd with⟨hcs,_⟩|⟨a,len,cap,A,L,C,Z,hcs,_,hl,_,_,hrows⟩
 ·obtain rfl:v= .slice none 0 0:=by simpa using hcs
  exact⟨[],by rw[nA];exact .inl ⟨rfl,none,rfl⟩⟩
 ·obtain rfl:v= .slice (some a) len cap:=by simpa using hcs
  obtain⟨hs,hb⟩:=Bf ht hok;obtain⟨b,o,s⟩:=a;simp only at hs hb;subst hs;refine⟨(List.range len).map fun r=>(Z r).take (L r),?_⟩;rw[nA];refine .inr ⟨b,o,cap,by rw[hD,pC],by rw[hD,pC];exact hl,hb,fun h=>h.elim,fun i hi=>?_⟩;rw[hD,pC]at hi;obtain⟨h1,h2,_,h4,_,h6,h7⟩:=hrows i (by omega);rw[xl]at h1;refine⟨_,h1,?_⟩;have eg:((List.range len).map fun r=>(Z r).take (L r)).getD i []=(Z i).take (L i):=by rw[hB,List.getElem?_map,List.getElem?_range hi];rfl
  rw[eg];have hlen:((Z i).take (L i)).length=L i:=by rw[List.length_take];omega
  refine⟨Nat.one_pos,Nat.mod_one _,?_⟩;rw[hlen,Nat.div_one];cases hA:A i with
  |none=>
   have hc:=h6 hA;have hl0:L i=0:=by omega
   refine .inl ⟨by rw[hl0];rfl,none,by rw[hl0,hc]⟩
  |some a'=>
   obtain⟨_,h8⟩:=h7 a' hA;by_cases hc:C i=0
   ·have hl0:L i=0:=by omega
    exact .inl ⟨by rw[hl0];rfl,some a',by rw[hl0,hc]⟩
   ·obtain⟨p1,p2⟩:=me (h8 0 (by omega));obtain⟨b',o',s'⟩:=a';have p1:s'=none:=p1;subst p1;refine .inr ⟨b',o',C i,rfl,h2,p2,fun h=>h.elim,fun j hj=>?_⟩;have:=h8 j (by omega);rw[xl]at this;rw[this,hB,hB,List.getElem?_take,if_pos hj]
theorem J1.lt {sp:Nat→Bool}{t:TypeId}{v:Value}{d:DataW H}{ps:List MemPlace}(h:DataW.Trod enc P w base sp held t v d ps):∀x∈ps,x.block<w.heap.size:=by
 obtain⟨m,hm⟩:=h;exact DataW.trod_lt m _ _ _ hm
end
end Go.Proofs.YtijigofaaefldaaGreat.Ev
