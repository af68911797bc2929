import Derived.Test.YteaakcmkpacpaaaA5
import Derived.WalkKit
import Derived.ProofKit
import Derived.OpenShut
import Derived.ShutString
import Derived.ChangeOld
import Derived.Below
import Derived.SizedLaws
import Derived.ChangeSlices
import Derived.Deep.SlicePairs
set_option linter.unusedVariables false
set_option linter.unusedSimpArgs false
namespace Go.Proofs.Yteaakcmkpacpaaa.Ev
open Go.RowKit Go.ChangeShapes Go.WideShapes Go.ChangeAt
theorem kA.calls0 {P:Program}{f:Nat}{args:List V}{v:V}(h:kA P f args [] v []){w:World}{args':List Value}(hr:iA (fun _=>none) (fun _=>False) w args args')(hv:cJ v=[]:=by rfl):
  Calls P f args'.toArray w fun e w'=>∃u,e= .returned u∧mA (fun _=>none) (fun _=>False) w' v u∧Below w.heap.size w w':=by
 have hdd:∀i,¬(oA [] i).live:=fun i h=>h;have hno:∀(ρ:lC) b,¬cA ρ (oA []) b:=fun ρ b hb=>by obtain⟨_,_,_,_,hl⟩:=hb;exact hdd _ hl
 have hH:fA (fun _=>False) (fun _=>none) (oA []) w:=
  {wf:=fun id p hp=>by cases hp
   rel:=fun id hl=>absurd hl (hdd id)
   inj:=fun i j b n C n' C' hi=>absurd hi (hdd i)
   low:=fun b hb=>False.elim hb
   out:=fun b hb=>(hno _ b hb).elim}
 refine Calls.mono (h.calls (fun _=>False) (fun _=>none) w args' hH (fun _ _ _=>rfl) ⟨0,fun _ _=>rfl⟩ (Nat.zero_le _) (iA.avoid (fun b hb=>hb.elim id (hno _ b)) _ _ hr)) ?_;rintro e w' ⟨u,he,ρ',v1,h1,g1,h2,g2,g3,g4,g5,h3,h4,h5⟩;exact⟨u,he,mA.agree _ _ (fun i hi=>by rw[hv]at hi;cases hi) (mA.avoid (M':=fun _=>False) (fun b hb=>hb.elim) _ _ h4),⟨h5.keeps.os,h5.keeps.tape,h5.keeps.output,h5.size,fun k hk=>h5.same k hk (hno _ k)⟩⟩
section
variable {H:Type}{enc:TypeId×Value→H}{P:Program}{w:World}{base:Nat}{sp:Nat→Bool}{held:Bool}
theorem Eo {t:TypeId}{f0 f1 f2:Field}{k0 k1 k2:IntKind}(ht:P.underlying t=some (.struct #[f0,f1,f2]))(hc:P.cellsOf t=3)
  (o0:f0.offset=0)(o1:f1.offset=1)(o2:f2.offset=2)(c0:P.cellsOf f0.type=1)(c1:P.cellsOf f1.type=1)(c2:P.cellsOf f2.type=1)
  (u0:P.underlying f0.type=some (.int k0))(u1:P.underlying f1.type=some (.int k1))(u2:P.underlying f2.type=some (.int k2))
  {base':Nat}{v:Value}{d:DataW H}{ps:List MemPlace}(hok:Value.okWide P w .any base' t v)(hd:DataW.Trod enc P w base sp held t v d ps):
  ∃a b c,v= .agg #[.int k0 a,.int k1 b,.int k2 c]∧(Lit.int k0 a).wf=true∧(Lit.int k1 b).wf=true∧(Lit.int k2 c).wf=true:=by
 simp only[Value.okWide,ht]at hok;obtain⟨cs,rfl,hsz,_⟩:=hok;obtain⟨fuel,hy⟩:=hd;obtain⟨ys,m,_,_,hcl,hl,hf⟩:=DataW.trod_struct ht hy;have hy0:=hf 0 f0 rfl;have hy1:=hf 1 f1 rfl;have hy2:=hf 2 f2 rfl;have hl3:ys.length=3:=by simpa using hl
 rw[o0,c0]at hy0;rw[o1,c1]at hy1;rw[o2,c2]at hy2;have hcl':cs.toList.length=3:=by rw[←hc];exact hcl
 obtain⟨l⟩:=cs
 match l,hcl',ys,hl3 with
 | [x0,x1,x2],_,[y0,y1,y2],_=>simp[Value.cells]at hy0 hy1 hy2;obtain⟨a,e0,_,w0⟩:=DataW.trod_int u0 hy0;obtain⟨b,e1,_,w1⟩:=DataW.trod_int u1 hy1;obtain⟨c,e2,_,w2⟩:=DataW.trod_int u2 hy2;simp at e0 e1 e2;subst e0 e1 e2;exact⟨a,b,c,rfl,w0,w1,w2⟩
theorem Ff.lt {t:TypeId}{v:Value}{d:DataW H}{ps:List MemPlace}(h:DataW.Trod enc P w base sp held t v d ps):∀x∈ps,x.block<w.heap.size:=by
 obtain⟨m,hm⟩:=h;exact DataW.trod_lt m _ _ _ hm
end
end Go.Proofs.Yteaakcmkpacpaaa.Ev
