import Derived.Test.YteaakcmkpacpaaaGreatA7
import Derived.WalkKit
import Derived.ProofKit
import Derived.OpenShut
import Derived.ShutString
import Derived.ChangeOld
import Derived.Below
import Derived.SizedLaws
import Derived.ChangeSlices
import Derived.Deep.SlicePairs
set_option linter.unusedVariables false
set_option linter.unusedSimpArgs false
namespace Go.Proofs.YteaakcmkpacpaaaGreat.Ev
open Go.RowKit Go.ChangeShapes Go.WideShapes Go.ChangeAt
theorem lA.calls0 {P:Program}{f:Nat}{args:List V}{v:V}(h:lA P f args [] v []){w:World}{args':List Value}(hr:mA (fun _=>none) (fun _=>False) w args args')(hv:mK v=[]:=by rfl):
  Calls P f args'.toArray w fun e w'=>∃u,e= .returned u∧oA (fun _=>none) (fun _=>False) w' v u∧Below w.heap.size w w':=by
 have hdd:∀i,¬(rA [] i).live:=fun i h=>h;have hno:∀(ρ:xC) b,¬fA ρ (rA []) b:=fun ρ b hb=>by obtain⟨_,_,_,_,hl⟩:=hb;exact hdd _ hl
 have hH:kA (fun _=>False) (fun _=>none) (rA []) w:=
  {wf:=fun id p hp=>by cases hp
   rel:=fun id hl=>absurd hl (hdd id)
   inj:=fun i j b n C n' C' hi=>absurd hi (hdd i)
   low:=fun b hb=>False.elim hb
   out:=fun b hb=>(hno _ b hb).elim}
 refine Calls.mono (h.calls (fun _=>False) (fun _=>none) w args' hH (fun _ _ _=>rfl) ⟨0,fun _ _=>rfl⟩ (Nat.zero_le _) (mA.avoid (fun b hb=>hb.elim id (hno _ b)) _ _ hr)) ?_;rintro e w' ⟨u,he,ρ',v1,h1,g1,h2,g2,g3,g4,g5,h3,h4,h5⟩;exact⟨u,he,oA.agree _ _ (fun i hi=>by rw[hv]at hi;cases hi) (oA.avoid (M':=fun _=>False) (fun b hb=>hb.elim) _ _ h4),⟨h5.keeps.os,h5.keeps.tape,h5.keeps.output,h5.size,fun k hk=>h5.same k hk (hno _ k)⟩⟩
section
variable {H:Type}{enc:TypeId×Value→H}{P:Program}{w:World}{base:Nat}{sp:Nat→Bool}{held:Bool}
theorem Ux.lt {t:TypeId}{v:Value}{d:DataW H}{ps:List MemPlace}(h:DataW.Trod enc P w base sp held t v d ps):∀x∈ps,x.block<w.heap.size:=by
 obtain⟨m,hm⟩:=h;exact DataW.trod_lt m _ _ _ hm
end
end Go.Proofs.YteaakcmkpacpaaaGreat.Ev
