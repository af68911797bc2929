/- The row of the law GenusOne: its function's law, and its plain law. -/
import Derived.Test.YteaakcmkpacpaaaA6
import Derived.Test.YteaakcmkpacpaaaRows
set_option linter.unusedVariables false
set_option linter.unusedSimpArgs false
namespace Go.Proofs.Yteaakcmkpacpaaa.genusOne
open Go Go.ChangeShapes Go.WideShapes Go.ChangeAt Go.RowKit Go.Proofs.Yteaakcmkpacpaaa.Ev
open Go.ChangeMaps (open_string shut_string)
theorem own:ownKnob Try.prog.godebug=none:=by kernel_rfl
theorem Bb:laidOutB Try.prog=true:=by kernel_rfl
set_option maxRecDepth 100000 in
theorem lifted (os:Os)(started:os.Started)(H:Type)(enc:TypeId×Value→H):
  ReturnsInHanded {} Try.checked os 5 .any (Rows.genusOneSpec.pre6 enc Try.prog Try.f5 Rows.genusOneRow.domain false) (Rows.genusOneSpec.post enc Try.prog Try.f5 false true false false):=by
 refine returnsInHanded_of_change_sized (C:=Try.checked) own started (by kernel_rfl) Try.func5
  (ChangeSpec.witness6 (enc:=enc) (C:=Try.checked) false ⟨#[],#[.agg #[.int .i64 0,.int .i64 0,.int .i64 0]],[]⟩ 8 (by kernel_rfl) (by kernel_rfl) (by kernel_rfl) (by kernel_rfl)) ?_
 intro W base args ds gs before hval0 hW hcnd hsz0 _;have hsz:(DataW.weightsEach Try.prog (Try.f5.params.toList++Rows.genusOneSpec.plain.varTypes Try.prog) (ds++gs)).all (· ≤reachBytes)=true:=hsz0;have hval:∀(j:Nat) t v,Try.f5.params[j]?=some t→args[j]?=some v→Value.okWide Try.prog W .any base t v:=hval0;have hW':=hW;obtain⟨p,q,hA0,hV,rfl,hfz,hnd⟩:=hW;have hA:DataW.TrodAll enc Try.prog W 0 (fun _=>true) true Try.f5.params.toList args.toList ds p:=hA0;rw[Try.params5]at hA hval hsz;obtain⟨v0,vs0,d0,ds0,p0,q0,hargs,rfl,rfl,h0,r0⟩:=trodAll_cons hA;obtain⟨rfl,rfl,rfl⟩:=trodAll_nil r0;obtain rfl:args= #[v0]:=by cases args;simp_all
 obtain⟨rfl,rfl⟩:=trodVars_none hV;have k0:=h0;obtain⟨a0,b0,c0,rfl,wa0,wb0,wc0⟩:=Eo Try.underlying23 (by kernel_rfl) rfl rfl rfl (by kernel_rfl) (by kernel_rfl) (by kernel_rfl) Try.underlying2 Try.underlying2 Try.underlying2 (hval 0 23 v0 rfl rfl) h0;obtain⟨N,hN⟩:=Gen.GenusOne a0 b0 c0 wa0 wb0 wc0;refine(kA.calls0 (w:=W) (args':=[_]) (Q103.spec N a0 b0 c0 _ hN) (by simp only[iA];exact⟨(by simp only[mA];exact⟨_,rfl,rfl,rfl,rfl,trivial⟩),trivial⟩)).mono fun e W' ⟨u,he,hu,bel⟩=>?_;simp only[mA]at hu;subst hu;subst he;exact⟨_,rfl,_,_,_,[],_,[],hW',trodAll_mk1 (shut_bool Try.underlying4 _),(trodAll_cons_mk (Below.trod Bb (by kernel_rfl) (of_decide_eq_true (by kernel_rfl)) k0 bel (Ff.lt k0)) trodAll_mk0),rfl,bel.frame _,fun h=>by cases h⟩
theorem over:Rows.genusOneRow.holds Try.pinned (OpenSpec.ofChange Rows.genusOneSpec):=
 OpenClaim.holds_of_wide 5 Try.f5 rfl rfl rfl rfl rfl rfl rfl ⟨rfl,rfl,rfl,rfl,rfl⟩ rfl rfl rfl rfl rfl (by kernel_rfl) Try.func5 (by kernel_rfl)
  (of_decide_eq_true (by kernel_rfl)) (by unfold Func.isWrapper;first|(rw[if_pos (by decide+kernel)];kernel_rfl)|(rw[if_neg (by decide+kernel)];exact⟨rfl,rfl⟩))
  (fun os started H enc _=>lifted os started H enc)
theorem proved:Rows.GenusOneSaid:=over
end Go.Proofs.Yteaakcmkpacpaaa.genusOne
namespace Go.Proofs.Yteaakcmkpacpaaa
theorem genusOne_holds:Rows.GenusOneSaid:=genusOne.proved
end Go.Proofs.Yteaakcmkpacpaaa
