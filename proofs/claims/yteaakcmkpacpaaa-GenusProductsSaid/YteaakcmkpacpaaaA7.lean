/- The row of the law GenusProducts: its function's law, and its plain law. -/
import Derived.Test.YteaakcmkpacpaaaA6
import Derived.Test.YteaakcmkpacpaaaRows
set_option linter.unusedVariables false
set_option linter.unusedSimpArgs false
namespace Go.Proofs.Yteaakcmkpacpaaa.genusProducts
open Go Go.ChangeShapes Go.WideShapes Go.ChangeAt Go.RowKit Go.Proofs.Yteaakcmkpacpaaa.Ev
open Go.ChangeMaps (open_string shut_string)
theorem own:ownKnob Try.prog.godebug=none:=by kernel_rfl
theorem ny:laidOutB Try.prog=true:=by kernel_rfl
set_option maxRecDepth 100000 in
theorem lifted (os:Os)(started:os.Started)(H:Type)(enc:TypeId×Value→H):
  ReturnsInHanded {} Try.checked os 7 .any (Rows.genusProductsSpec.pre6 enc Try.prog Try.f7 Rows.genusProductsRow.domain false) (Rows.genusProductsSpec.post enc Try.prog Try.f7 false true false false):=by
 refine returnsInHanded_of_change_sized (C:=Try.checked) own started (by kernel_rfl) Try.func7
  (ChangeSpec.witness6 (enc:=enc) (C:=Try.checked) false ⟨#[],#[.agg #[.int .i64 0,.int .i64 0,.int .i64 0],.agg #[.int .i64 0,.int .i64 0,.int .i64 0]],[]⟩ 8 (by kernel_rfl) (by kernel_rfl) (by kernel_rfl) (by kernel_rfl)) ?_
 intro W base args ds gs before hval0 hW hcnd hsz0 _;have hsz:(DataW.weightsEach Try.prog (Try.f7.params.toList++Rows.genusProductsSpec.plain.varTypes Try.prog) (ds++gs)).all (· ≤reachBytes)=true:=hsz0;have hval:∀(j:Nat) t v,Try.f7.params[j]?=some t→args[j]?=some v→Value.okWide Try.prog W .any base t v:=hval0;have hW':=hW;obtain⟨p,q,hA0,hV,rfl,hfz,hnd⟩:=hW;have hA:DataW.TrodAll enc Try.prog W 0 (fun _=>true) true Try.f7.params.toList args.toList ds p:=hA0;rw[Try.params7]at hA hval hsz;obtain⟨v0,vs0,d0,ds0,p0,q0,hargs,rfl,rfl,h0,r0⟩:=trodAll_cons hA;obtain⟨v1,vs1,d1,ds1,p1,q1,rfl,rfl,rfl,h1,r1⟩:=trodAll_cons r0;obtain⟨rfl,rfl,rfl⟩:=trodAll_nil r1;obtain rfl:args= #[v0,v1]:=by cases args;simp_all
 obtain⟨rfl,rfl⟩:=trodVars_none hV;have k0:=h0;obtain⟨a0,b0,c0,rfl,wa0,wb0,wc0⟩:=Cm Try.underlying23 (by kernel_rfl) rfl rfl rfl (by kernel_rfl) (by kernel_rfl) (by kernel_rfl) Try.underlying2 Try.underlying2 Try.underlying2 (hval 0 23 v0 rfl rfl) h0;have k1:=h1;obtain⟨a1,b1,c1,rfl,wa1,wb1,wc1⟩:=Cm Try.underlying23 (by kernel_rfl) rfl rfl rfl (by kernel_rfl) (by kernel_rfl) (by kernel_rfl) Try.underlying2 Try.underlying2 Try.underlying2 (hval 1 23 v1 rfl rfl) h1;obtain⟨N,hN⟩:=Gen.GenusProducts a0 b0 c0 a1 b1 c1 wa0 wb0 wc0 wa1 wb1 wc1;refine(jA.calls0 (w:=W) (args':=[_,_]) (Q104.spec N a0 b0 c0 a1 b1 c1 _ hN) (by simp only[iA];exact⟨(by simp only[mA];exact⟨_,rfl,rfl,rfl,rfl,trivial⟩),(by simp only[mA];exact⟨_,rfl,rfl,rfl,rfl,trivial⟩),trivial⟩)).mono fun e W' ⟨u,he,hu,bel⟩=>?_;simp only[mA]at hu;subst hu;subst he;exact⟨_,rfl,_,_,_,[],_,[],hW',trodAll_mk1 (shut_bool Try.underlying4 _),(trodAll_cons_mk (Below.trod ny (by kernel_rfl) (of_decide_eq_true (by kernel_rfl)) k0 bel (E6.lt k0)) (trodAll_cons_mk (Below.trod ny (by kernel_rfl) (of_decide_eq_true (by kernel_rfl)) k1 bel (E6.lt k1)) trodAll_mk0)),rfl,bel.frame _,fun h=>by cases h⟩
theorem over:Rows.genusProductsRow.holds Try.pinned (OpenSpec.ofChange Rows.genusProductsSpec):=
 OpenClaim.holds_of_wide 7 Try.f7 rfl rfl rfl rfl rfl rfl rfl ⟨rfl,rfl,rfl,rfl,rfl⟩ rfl rfl rfl rfl rfl (by kernel_rfl) Try.func7 (by kernel_rfl)
  (of_decide_eq_true (by kernel_rfl)) (by unfold Func.isWrapper;first|(rw[if_pos (by decide+kernel)];kernel_rfl)|(rw[if_neg (by decide+kernel)];exact⟨rfl,rfl⟩))
  (fun os started H enc _=>lifted os started H enc)
theorem proved:Rows.GenusProductsSaid:=over
end Go.Proofs.Yteaakcmkpacpaaa.genusProducts
namespace Go.Proofs.Yteaakcmkpacpaaa
theorem genusProducts_holds:Rows.GenusProductsSaid:=genusProducts.proved
end Go.Proofs.Yteaakcmkpacpaaa
