import Derived.Test.YteaakcmkpacpaaaA4
set_option linter.unusedVariables false
set_option linter.unusedSimpArgs false
namespace Go.Proofs.Yteaakcmkpacpaaa.Gen
open Go Go.Proofs.Yteaakcmkpacpaaa.Ev
open Go.Proofs.Yteaakcmkpacpaaa.Cls (uf hZ)
abbrev N0:Nat:=8589934700
theorem ag {d:Int}{l:List Int}(hd:uf d)(h:Q72.f N0 d=some l):Q75.f N0 d=some (l,0):=by
 obtain⟨R,r1,r2,r3,r4,r5⟩:=hZ (N:=N0) (by decide) hd;rw[r4]at h;obtain rfl:=Option.some.inj h;exact r3
theorem vw:Q75.f N0 (-20)=some ([1,0,5,2,2,3],0):=ag (d:= -20) (l:=[1,0,5,2,2,3]) ⟨by decide,by decide,by decide⟩ (by kernel_rfl)
theorem wg:Q93.f N0 (-20)=some ([[1,0,5],[2,2,3]],0):=by
 unfold Q93.f;rw[vw]
 kernel_rfl
theorem vz:Q75.f N0 (-23)=some ([1,1,6,2, -1,3,2,1,3],0):=ag (d:= -23) (l:=[1,1,6,2, -1,3,2,1,3]) ⟨by decide,by decide,by decide⟩ (by kernel_rfl)
theorem wh:Q93.f N0 (-23)=some ([[1,1,6,2, -1,3,2,1,3]],0):=by
 unfold Q93.f;rw[vz]
 kernel_rfl
theorem wc:Q75.f N0 (-56)=some ([1,0,14,2,0,7,3, -2,5,3,2,5],0):=ag (d:= -56) (l:=[1,0,14,2,0,7,3, -2,5,3,2,5]) ⟨by decide,by decide,by decide⟩ (by kernel_rfl)
theorem wi:Q93.f N0 (-56)=some ([[1,0,14,2,0,7],[3, -2,5,3,2,5]],0):=by
 unfold Q93.f;rw[wc]
 kernel_rfl
theorem dn:Q100.f N0=some true:=by
 unfold Q100.f;rw[wg]
 kernel_rfl
theorem GenusKnown:∃N,Q102.f N=some true:=by
 refine⟨N0,?_⟩;unfold Q102.f Q94.f;rw[wi,wh,dn]
 kernel_rfl
end Go.Proofs.Yteaakcmkpacpaaa.Gen
