/- The row of the law TopEight: its function's law, and its plain law. -/
import Derived.Test.YtijigofaaefldaaGreatA7
import Derived.Test.YtijigofaaefldaaGreatRows
set_option linter.unusedVariables false
set_option linter.unusedSimpArgs false
namespace Go.Proofs.YtijigofaaefldaaGreat.topEight
open Go Go.ChangeShapes Go.WideShapes Go.ChangeAt Go.RowKit Go.Proofs.YtijigofaaefldaaGreat.Ev
open Go.ChangeMaps (open_string shut_string)
theorem own:ownKnob Tryz.prog.godebug=none:=by kernel_rfl
theorem Di:laidOutB Tryz.prog=true:=by kernel_rfl
set_option maxRecDepth 100000 in
theorem lifted (os:Os)(started:os.Started)(H:Type)(enc:TypeId×Value→H):
  ReturnsInHanded {} Tryz.checked os 3 .any (Rows.topEightSpec.pre6 enc Tryz.prog Tryz.f3 Rows.topEightRow.domain false) (Rows.topEightSpec.post enc Tryz.prog Tryz.f3 false true false false):=by
 refine returnsInHanded_of_change_sized (C:=Tryz.checked) own started (by kernel_rfl) Tryz.func3
  (ChangeSpec.witness6 (enc:=enc) (C:=Tryz.checked) false ⟨#[],#[.slice none 0 0],[]⟩ 8 (by kernel_rfl) (by kernel_rfl) (by kernel_rfl) (by kernel_rfl)) ?_
 intro W base args ds gs before hval0 hW hcnd hsz0 _;have hsz:(DataW.weightsEach Tryz.prog (Tryz.f3.params.toList++Rows.topEightSpec.plain.varTypes Tryz.prog) (ds++gs)).all (· ≤reachBytes)=true:=hsz0;have hval:∀(j:Nat) t v,Tryz.f3.params[j]?=some t→args[j]?=some v→Value.okWide Tryz.prog W .any base t v:=hval0;have hW':=hW;obtain⟨p,q,hA0,hV,rfl,hfz,hnd⟩:=hW;have hA:DataW.TrodAll enc Tryz.prog W 0 (fun _=>true) true Tryz.f3.params.toList args.toList ds p:=hA0;rw[Tryz.params3]at hA hval hsz;obtain⟨v0,vs0,d0,ds0,p0,q0,hargs,rfl,rfl,h0,r0⟩:=trodAll_cons hA;obtain⟨rfl,rfl,rfl⟩:=trodAll_nil r0;obtain rfl:args= #[v0]:=by cases args;simp_all
 obtain⟨rfl,rfl⟩:=trodVars_none hV;have k0:=h0;obtain⟨a0,rw0⟩:=vb Tryz.underlying22 Tryz.underlying43 Tryz.underlying2 (by kernel_rfl) (by kernel_rfl) (hval 0 22 v0 rfl rfl) h0;obtain⟨N,hN⟩:=Law.Cm a0;refine(dA.calls0 (w:=W) (args':=[_]) (Q120.spec N a0 _ hN) (by simp only[iA];exact⟨rw0,trivial⟩)).mono fun e W' ⟨u,he,hu,bel⟩=>?_;obtain⟨_,hu⟩:=hu;simp only[nA]at hu;subst hu;subst he;exact⟨_,rfl,_,_,_,[],_,[],hW',trodAll_mk1 (shut_bool Tryz.underlying4 _),(trodAll_cons_mk (Below.trod Di (by kernel_rfl) (of_decide_eq_true (by kernel_rfl)) k0 bel (J1.lt k0)) trodAll_mk0),rfl,bel.frame _,fun h=>by cases h⟩
theorem over:Rows.topEightRow.holds Tryz.pinned (OpenSpec.ofChange Rows.topEightSpec):=
 OpenClaim.holds_of_wide 3 Tryz.f3 rfl rfl rfl rfl rfl rfl rfl ⟨rfl,rfl,rfl,rfl,rfl⟩ rfl rfl rfl rfl rfl (by kernel_rfl) Tryz.func3 (by kernel_rfl)
  (of_decide_eq_true (by kernel_rfl)) (by unfold Func.isWrapper;first|(rw[if_pos (by decide+kernel)];kernel_rfl)|(rw[if_neg (by decide+kernel)];exact⟨rfl,rfl⟩))
  (fun os started H enc _=>lifted os started H enc)
theorem proved:Rows.TopEightSaid:=over
end Go.Proofs.YtijigofaaefldaaGreat.topEight
namespace Go.Proofs.YtijigofaaefldaaGreat
theorem topEight_holds:Rows.TopEightSaid:=topEight.proved
end Go.Proofs.YtijigofaaefldaaGreat
