-- The seat's functions as the evaluator goes through them: typed models and their laws.
import Derived.Test.YtndhfopllmbjhaaProg
import Derived.Test.YtndhfopllmbjhaaEvUse
import Derived.Test.YtndhfopllmbjhaaT4
import Derived.KernelRfl
namespace Go.Proofs.Ytndhfopllmbjhaa
open Go.Proofs.Ytndhfopllmbjhaa.Ev
set_option linter.unusedVariables false
open Go


/-! parquet/zint.must: function 71 -/
noncomputable def zint_must.f (N : Nat) (a1 : Bool) (a2 : List Int) (a3 : Int) : Option (Bool × List Int) :=
  some (a1, a2)
noncomputable def zint_must.body : Code := (Try.f71.body).getD .skip
noncomputable def zint_must.ty : List (Nat × TI) := [(27, ty27)]
noncomputable def zint_must.E (N : Nat) : Env := { ty := lookN zint_must.ty, tab := lookN [], hint := lookN [], cut := lookN [], N := N, res := [.cell 4 27], rsh := [.recd [.any, .il .u32 1]], nb := 0, ntmps := 6, own := false }
noncomputable def zint_must.dec (v : V) (bs : List Blk) : Option (Bool × List Int) := match v, bs with
  | .agg [.c (.bool z0), .il .u32 1 z1], [] => some (z0, z1)
  | _, _ => none
set_option maxRecDepth 100000 in
theorem zint_must.f_eq (N : Nat) (a1 : Bool) (a2 : List Int) (a3 : Int) :
    evFun (zint_must.E N) zint_must.body [.agg [.c (.bool a1), .il .u32 1 a2], .c (.int .i64 a3)] [] zint_must.dec = zint_must.f N a1 a2 a3 := by kernel_rfl
noncomputable def zint_must.ent (N : Nat) : Entry := { A := Bool × List Int, fresh := 0, imm := [true, true], dec := fun args bs => match freezeL 0 (fun _ => .dead) [.recd [.any, .il .u32 1], .any] args, bs with
  | some [.agg [.c (.bool a1), .il .u32 1 a2], .c (.int .i64 a3)], [] => some (zint_must.f N a1 a2 a3, fun r => .one (.agg [.c (.bool r.1), .il .u32 1 r.2]) [])
  | _, _ => none }
theorem zint_must.env (N : Nat) : EnvOK Try.prog (zint_must.E N) := ⟨(TyOK.cons ty27_ok TyOK.nil), TabOK.nil⟩
theorem zint_must.res_eq (N : Nat) : (zint_must.E N).res = Try.f71.results.toList := by kernel_rfl
theorem zint_must.spec (N : Nat) (a1 : Bool) (a2 : List Int) (a3 : Int) (r : Bool × List Int) (h : zint_must.f N a1 a2 a3 = some r) : FnSpec Try.prog 71 [.agg [.c (.bool a1), .il .u32 1 a2], .c (.int .i64 a3)] [] (.agg [.c (.bool r.1), .il .u32 1 r.2]) ([]) := by
  rw [← zint_must.f_eq] at h
  obtain ⟨v, bs', h1, h2⟩ := evFun_ok (zint_must.env N) Try_mixed Try.func71 (by kernel_rfl : Try.f71.body = some zint_must.body) (by kernel_rfl) (zint_must.res_eq N) (by kernel_rfl) (by kernel_rfl) (Nat.le_of_ble_eq_true (by kernel_rfl)) (AllCut.of (l := []) (by kernel_rfl) AllCut.nil) h
  unfold zint_must.dec at h1; split at h1
  · cases h1; exact h2
  · cases h1
theorem zint_must.ent_ok (N : Nat) : TabOK1 Try.prog 71 (zint_must.ent N) := by
  intro args bs a enc h
  simp only [zint_must.ent] at h
  split at h
  · rename_i hz; have h0 := Option.some.inj h; have h1 := congrArg Prod.fst h0; have h2 := congrArg Prod.snd h0; dsimp only at h1 h2; subst h2; exact FnSpec.of_freeze hz (zint_must.spec N _ _ _ a h1)
  · cases h
/-! parquet/zint.cofactors$1: function 81 -/
noncomputable def zint_cofactors_1.f (N : Nat) (a1 : Bool) (a2 : List Int) (a3 : Bool) (a4 : List Int) (a5 : Bool) (a6 : List Int) : Option (Bool × List Int) :=
  (zint_Mul.f N a3 a4 a5 a6).bind fun r7 =>
  (zint_must.f N r7.1 r7.2.1 r7.2.2).bind fun r8 =>
  (zint_Sub.f N a1 a2 r8.1 r8.2).bind fun r9 =>
  (zint_must.f N r9.1 r9.2.1 r9.2.2).bind fun r10 =>
  some (r10.1, r10.2)
noncomputable def zint_cofactors_1.body : Code := (Try.f81.body).getD .skip
noncomputable def zint_cofactors_1.ty : List (Nat × TI) := [(27, ty27)]
noncomputable def zint_cofactors_1.E (N : Nat) : Env := { ty := lookN zint_cofactors_1.ty, tab := lookN [(40, zint_Mul.ent N), (71, zint_must.ent N), (39, zint_Sub.ent N)], hint := lookN [], cut := lookN [], N := N, res := [.cell 6 27], rsh := [.recd [.any, .il .u32 1]], nb := 0, ntmps := 18, own := false }
noncomputable def zint_cofactors_1.dec (v : V) (bs : List Blk) : Option (Bool × List Int) := match v, bs with
  | .agg [.c (.bool z0), .il .u32 1 z1], [] => some (z0, z1)
  | _, _ => none
set_option maxRecDepth 100000 in
theorem zint_cofactors_1.f_eq (N : Nat) (a1 : Bool) (a2 : List Int) (a3 : Bool) (a4 : List Int) (a5 : Bool) (a6 : List Int) :
    evFun (zint_cofactors_1.E N) zint_cofactors_1.body [.agg [.c (.bool a1), .il .u32 1 a2], .agg [.c (.bool a3), .il .u32 1 a4], .agg [.c (.bool a5), .il .u32 1 a6]] [] zint_cofactors_1.dec = zint_cofactors_1.f N a1 a2 a3 a4 a5 a6 := by kernel_rfl
noncomputable def zint_cofactors_1.ent (N : Nat) : Entry := { A := Bool × List Int, fresh := 0, imm := [true, true, true], dec := fun args bs => match freezeL 0 (fun _ => .dead) [.recd [.any, .il .u32 1], .recd [.any, .il .u32 1], .recd [.any, .il .u32 1]] args, bs with
  | some [.agg [.c (.bool a1), .il .u32 1 a2], .agg [.c (.bool a3), .il .u32 1 a4], .agg [.c (.bool a5), .il .u32 1 a6]], [] => some (zint_cofactors_1.f N a1 a2 a3 a4 a5 a6, fun r => .one (.agg [.c (.bool r.1), .il .u32 1 r.2]) [])
  | _, _ => none }
theorem zint_cofactors_1.env (N : Nat) : EnvOK Try.prog (zint_cofactors_1.E N) := ⟨(TyOK.cons ty27_ok TyOK.nil), (TabOK.cons (zint_Mul.ent_ok N) (TabOK.cons (zint_must.ent_ok N) (TabOK.cons (zint_Sub.ent_ok N) TabOK.nil)))⟩
theorem zint_cofactors_1.res_eq (N : Nat) : (zint_cofactors_1.E N).res = Try.f81.results.toList := by kernel_rfl
theorem zint_cofactors_1.spec (N : Nat) (a1 : Bool) (a2 : List Int) (a3 : Bool) (a4 : List Int) (a5 : Bool) (a6 : List Int) (r : Bool × List Int) (h : zint_cofactors_1.f N a1 a2 a3 a4 a5 a6 = some r) : FnSpec Try.prog 81 [.agg [.c (.bool a1), .il .u32 1 a2], .agg [.c (.bool a3), .il .u32 1 a4], .agg [.c (.bool a5), .il .u32 1 a6]] [] (.agg [.c (.bool r.1), .il .u32 1 r.2]) ([]) := by
  rw [← zint_cofactors_1.f_eq] at h
  obtain ⟨v, bs', h1, h2⟩ := evFun_ok (zint_cofactors_1.env N) Try_mixed Try.func81 (by kernel_rfl : Try.f81.body = some zint_cofactors_1.body) (by kernel_rfl) (zint_cofactors_1.res_eq N) (by kernel_rfl) (by kernel_rfl) (Nat.le_of_ble_eq_true (by kernel_rfl)) (AllCut.of (l := []) (by kernel_rfl) AllCut.nil) h
  unfold zint_cofactors_1.dec at h1; split at h1
  · cases h1; exact h2
  · cases h1
theorem zint_cofactors_1.ent_ok (N : Nat) : TabOK1 Try.prog 81 (zint_cofactors_1.ent N) := by
  intro args bs a enc h
  simp only [zint_cofactors_1.ent] at h
  split at h
  · rename_i hz; have h0 := Option.some.inj h; have h1 := congrArg Prod.fst h0; have h2 := congrArg Prod.snd h0; dsimp only at h1 h2; subst h2; exact FnSpec.of_freeze hz (zint_cofactors_1.spec N _ _ _ _ _ _ a h1)
  · cases h
/-! parquet/zint.cofactors: function 70 -/
noncomputable def zint_cofactors.l5 {R : Type} (N : Nat) : Nat → Bool → List Int → Bool → List Int → Bool → Bool → Bool → List Int → Bool → List Int → Bool → List Int → Bool → List Int → Bool → List Int → Bool → List Int → (Bool → List Int → Bool → List Int → Bool → Bool → Bool → List Int → Bool → List Int → Option R) → Option R
  | 0, _, _, _, _, _, _, _, _, _, _, _, _, _, _, _, _, _, _, _ => none
  | n + 1, x9, x10, x11, x12, x13, x14, x15, x16, x17, x18, x19, x20, x21, x22, x23, x24, x25, x26, k0 =>
    (zint_Int_Sign.f N x15 x16).bind fun r27 =>
    bif r27 == 0 then
      k0 x9 x10 x11 x12 x13 x14 x19 x20 x23 x24
    else
    (zint_Quo.f N x17 x18 x15 x16).bind fun r38 =>
    (zint_cofactors_1.f N x19 x20 r38.1 r38.2.1 x21 x22).bind fun r39 =>
    (zint_cofactors_1.f N x23 x24 r38.1 r38.2.1 x25 x26).bind fun r40 =>
    zint_cofactors.l5 N n x9 x10 x11 x12 x13 x14 r38.2.2.1 r38.2.2.2.1 x15 x16 x21 x22 r39.1 r39.2 x25 x26 r40.1 r40.2 k0
noncomputable def zint_cofactors.f (N : Nat) (a1 : Bool) (a2 : List Int) (a3 : Bool) (a4 : List Int) : Option (Bool × List Int × Bool × List Int) :=
  (zint_Quo.f N a1 a2 a3 a4).bind fun r5 =>
  (zint_Of.f N 1).bind fun r6 =>
  (zint_Of.f N 1).bind fun r7 =>
  (zint_Neg.f N r5.1 r5.2.1).bind fun r8 =>
  zint_cofactors.l5 N N a1 a2 a3 a4 false false r5.2.2.1 r5.2.2.2.1 a3 a4 false [] r6.1 r6.2 r7.1 r7.2 r8.1 r8.2
    (fun y41 y42 y43 y44 y45 y46 y47 y48 y49 y50 =>
      (zint_Int_Sign.f N y47 y48).bind fun r51 =>
      bif decide (r51 < 0) then
        (zint_Add.f N y47 y48 y43 y44).bind fun r52 =>
        (zint_must.f N r52.1 r52.2.1 r52.2.2).bind fun r53 =>
        (zint_Sub.f N y49 y50 y41 y42).bind fun r54 =>
        (zint_must.f N r54.1 r54.2.1 r54.2.2).bind fun r55 =>
        some (r53.1, r53.2, r55.1, r55.2)
      else
      some (y47, y48, y49, y50))
noncomputable def zint_cofactors.body : Code := (Try.f70.body).getD .skip
noncomputable def zint_cofactors.ty : List (Nat × TI) := [(4, ty4), (25, ty25), (27, ty27)]
noncomputable def zint_cofactors.h5 : Hint := ⟨[(2, .box [.any, .il .u32 1]), (3, .box [.any, .il .u32 1]), (4, .box [.any, .any]), (5, .box [.any, .any]), (6, .any), (8, .box [.any, .il .u32 1]), (10, .box [.any, .il .u32 1]), (11, .box [.any, .il .u32 1]), (12, .box [.any, .il .u32 1]), (13, .box [.any, .il .u32 1]), (14, .box [.any, .il .u32 1])], [(2, .box [.any, .il .u32 1]), (3, .box [.any, .il .u32 1]), (4, .box [.any, .any]), (5, .box [.any, .any]), (11, .box [.any, .il .u32 1]), (13, .box [.any, .il .u32 1])]⟩
noncomputable def zint_cofactors.c5 (N : Nat) : Cut := ⟨fun vs H k => match vs, H with
  | [.ptr 0 0 2, .ptr 1 0 2, .ptr 2 0 2, .ptr 3 0 2, .fn 81 [] [], .ptr 4 0 2, .ptr 5 0 2, .ptr 6 0 2, .ptr 7 0 2, .ptr 8 0 2, .ptr 9 0 2], [.vals [.c (.bool x9), .il .u32 1 x10], .vals [.c (.bool x11), .il .u32 1 x12], .vals [.c (.bool x13), .c (.slice none 0 0)], .vals [.c (.bool x14), .c (.slice none 0 0)], .vals [.c (.bool x15), .il .u32 1 x16], .vals [.c (.bool x17), .il .u32 1 x18], .vals [.c (.bool x19), .il .u32 1 x20], .vals [.c (.bool x21), .il .u32 1 x22], .vals [.c (.bool x23), .il .u32 1 x24], .vals [.c (.bool x25), .il .u32 1 x26]] => zint_cofactors.l5 N N x9 x10 x11 x12 x13 x14 x15 x16 x17 x18 x19 x20 x21 x22 x23 x24 x25 x26 (fun x28 x29 x30 x31 x32 x33 x34 x35 x36 x37 => k (.exit 0) ⟨mkT zint_cofactors.h5.out [.ptr 0 0 2, .ptr 1 0 2, .ptr 2 0 2, .ptr 3 0 2, .ptr 4 0 2, .ptr 5 0 2], [.vals [.c (.bool x28), .il .u32 1 x29], .vals [.c (.bool x30), .il .u32 1 x31], .vals [.c (.bool x32), .c (.slice none 0 0)], .vals [.c (.bool x33), .c (.slice none 0 0)], .vals [.c (.bool x34), .il .u32 1 x35], .vals [.c (.bool x36), .il .u32 1 x37]]⟩)
  | _, _ => none⟩
noncomputable def zint_cofactors.E (N : Nat) : Env := { ty := lookN zint_cofactors.ty, tab := lookN [(18, zint_Quo.ent N), (24, zint_Of.ent N), (41, zint_Neg.ent N), (21, zint_Int_Sign.ent N), (81, zint_cofactors_1.ent N), (38, zint_Add.ent N), (71, zint_must.ent N), (39, zint_Sub.ent N)], hint := lookN [(5, zint_cofactors.h5)], cut := lookN [(5, zint_cofactors.c5 N)], N := N, res := [.cell 4 27, .cell 5 27], rsh := [.recd [.any, .il .u32 1], .recd [.any, .il .u32 1]], nb := 0, ntmps := 72, own := false }
noncomputable def zint_cofactors.b5 : Code := inner ((subLoops zint_cofactors.body).getD 1 .skip)
set_option maxRecDepth 100000 in
theorem zint_cofactors.l5_eq {R : Type} (N n : Nat) (x9 : Bool) (x10 : List Int) (x11 : Bool) (x12 : List Int) (x13 : Bool) (x14 : Bool) (x15 : Bool) (x16 : List Int) (x17 : Bool) (x18 : List Int) (x19 : Bool) (x20 : List Int) (x21 : Bool) (x22 : List Int) (x23 : Bool) (x24 : List Int) (x25 : Bool) (x26 : List Int) (k : Ex → St → Option R) :
    evLoop 0 zint_cofactors.h5 (fun s k => evCode (zint_cofactors.E N) 390 zint_cofactors.b5 s k) n [.ptr 0 0 2, .ptr 1 0 2, .ptr 2 0 2, .ptr 3 0 2, .fn 81 [] [], .ptr 4 0 2, .ptr 5 0 2, .ptr 6 0 2, .ptr 7 0 2, .ptr 8 0 2, .ptr 9 0 2] [.vals [.c (.bool x9), .il .u32 1 x10], .vals [.c (.bool x11), .il .u32 1 x12], .vals [.c (.bool x13), .c (.slice none 0 0)], .vals [.c (.bool x14), .c (.slice none 0 0)], .vals [.c (.bool x15), .il .u32 1 x16], .vals [.c (.bool x17), .il .u32 1 x18], .vals [.c (.bool x19), .il .u32 1 x20], .vals [.c (.bool x21), .il .u32 1 x22], .vals [.c (.bool x23), .il .u32 1 x24], .vals [.c (.bool x25), .il .u32 1 x26]] k = zint_cofactors.l5 N n x9 x10 x11 x12 x13 x14 x15 x16 x17 x18 x19 x20 x21 x22 x23 x24 x25 x26 (fun x28 x29 x30 x31 x32 x33 x34 x35 x36 x37 => k (.exit 0) ⟨mkT zint_cofactors.h5.out [.ptr 0 0 2, .ptr 1 0 2, .ptr 2 0 2, .ptr 3 0 2, .ptr 4 0 2, .ptr 5 0 2], [.vals [.c (.bool x28), .il .u32 1 x29], .vals [.c (.bool x30), .il .u32 1 x31], .vals [.c (.bool x32), .c (.slice none 0 0)], .vals [.c (.bool x33), .c (.slice none 0 0)], .vals [.c (.bool x34), .il .u32 1 x35], .vals [.c (.bool x36), .il .u32 1 x37]]⟩) := by
  induction n generalizing x9 x10 x11 x12 x13 x14 x15 x16 x17 x18 x19 x20 x21 x22 x23 x24 x25 x26 with
  | zero => kernel_rfl
  | succ n ih =>
    simp only [zint_cofactors.l5, ← ih]
    kernel_rfl
noncomputable def zint_cofactors.dec (v : V) (bs : List Blk) : Option (Bool × List Int × Bool × List Int) := match v, bs with
  | .tup [.agg [.c (.bool z0), .il .u32 1 z1], .agg [.c (.bool z2), .il .u32 1 z3]], [] => some (z0, z1, z2, z3)
  | _, _ => none
set_option maxRecDepth 100000 in
theorem zint_cofactors.f_eq (N : Nat) (a1 : Bool) (a2 : List Int) (a3 : Bool) (a4 : List Int) :
    evFun (zint_cofactors.E N) zint_cofactors.body [.agg [.c (.bool a1), .il .u32 1 a2], .agg [.c (.bool a3), .il .u32 1 a4]] [] zint_cofactors.dec = zint_cofactors.f N a1 a2 a3 a4 := by kernel_rfl
noncomputable def zint_cofactors.ent (N : Nat) : Entry := { A := Bool × List Int × Bool × List Int, fresh := 0, imm := [true, true], dec := fun args bs => match freezeL 0 (fun _ => .dead) [.recd [.any, .il .u32 1], .recd [.any, .il .u32 1]] args, bs with
  | some [.agg [.c (.bool a1), .il .u32 1 a2], .agg [.c (.bool a3), .il .u32 1 a4]], [] => some (zint_cofactors.f N a1 a2 a3 a4, fun r => .one (.tup [.agg [.c (.bool r.1), .il .u32 1 r.2.1], .agg [.c (.bool r.2.2.1), .il .u32 1 r.2.2.2]]) [])
  | _, _ => none }
theorem zint_cofactors.env (N : Nat) : EnvOK Try.prog (zint_cofactors.E N) := ⟨(TyOK.cons ty4_ok (TyOK.cons ty25_ok (TyOK.cons ty27_ok TyOK.nil))), (TabOK.cons (zint_Quo.ent_ok N) (TabOK.cons (zint_Of.ent_ok N) (TabOK.cons (zint_Neg.ent_ok N) (TabOK.cons (zint_Int_Sign.ent_ok N) (TabOK.cons (zint_cofactors_1.ent_ok N) (TabOK.cons (zint_Add.ent_ok N) (TabOK.cons (zint_must.ent_ok N) (TabOK.cons (zint_Sub.ent_ok N) TabOK.nil))))))))⟩
theorem zint_cofactors.res_eq (N : Nat) : (zint_cofactors.E N).res = Try.f70.results.toList := by kernel_rfl
theorem zint_cofactors.k5 (N : Nat) : CutOK Try.prog Try.f70 (zint_cofactors.E N) (.loop zint_cofactors.b5) := by
  intro e hd he hh R vs H k r h
  have e1 : (zint_cofactors.E N).cut (loopKey zint_cofactors.b5) = some (zint_cofactors.c5 N) := by kernel_rfl
  have e2 : (zint_cofactors.E N).hint (loopKey zint_cofactors.b5) = some zint_cofactors.h5 := by kernel_rfl
  rw [e1] at he; rw [e2] at hh; cases he; cases hh
  unfold zint_cofactors.c5 at h; dsimp only at h
  split at h
  · rw [← zint_cofactors.l5_eq] at h
    exact loop_ok (evCode_ok (zint_cofactors.env N) Try_mixed (zint_cofactors.res_eq N) 390 zint_cofactors.b5 (AllCut.of (l := []) (by kernel_rfl) AllCut.nil)) h
  · cases h
theorem zint_cofactors.spec (N : Nat) (a1 : Bool) (a2 : List Int) (a3 : Bool) (a4 : List Int) (r : Bool × List Int × Bool × List Int) (h : zint_cofactors.f N a1 a2 a3 a4 = some r) : FnSpec Try.prog 70 [.agg [.c (.bool a1), .il .u32 1 a2], .agg [.c (.bool a3), .il .u32 1 a4]] [] (.tup [.agg [.c (.bool r.1), .il .u32 1 r.2.1], .agg [.c (.bool r.2.2.1), .il .u32 1 r.2.2.2]]) ([]) := by
  rw [← zint_cofactors.f_eq] at h
  obtain ⟨v, bs', h1, h2⟩ := evFun_ok (zint_cofactors.env N) Try_mixed Try.func70 (by kernel_rfl : Try.f70.body = some zint_cofactors.body) (by kernel_rfl) (zint_cofactors.res_eq N) (by kernel_rfl) (by kernel_rfl) (Nat.le_of_ble_eq_true (by kernel_rfl)) (AllCut.of (l := [(.scope (inner ((subLoops zint_cofactors.body).getD 0 .skip))), (.loop (inner ((subLoops zint_cofactors.body).getD 1 .skip)))]) (by kernel_rfl) (AllCut.cons (cut_scope (by kernel_rfl)) (AllCut.cons (zint_cofactors.k5 N) AllCut.nil))) h
  unfold zint_cofactors.dec at h1; split at h1
  · cases h1; exact h2
  · cases h1
theorem zint_cofactors.ent_ok (N : Nat) : TabOK1 Try.prog 70 (zint_cofactors.ent N) := by
  intro args bs a enc h
  simp only [zint_cofactors.ent] at h
  split at h
  · rename_i hz; have h0 := Option.some.inj h; have h1 := congrArg Prod.fst h0; have h2 := congrArg Prod.snd h0; dsimp only at h1 h2; subst h2; exact FnSpec.of_freeze hz (zint_cofactors.spec N _ _ _ _ a h1)
  · cases h
/-! parquet/zint.Gcd: function 47 -/
noncomputable def zint_Gcd.f (N : Nat) (a1 : Bool) (a2 : List Int) (a3 : Bool) (a4 : List Int) : Option (List Int × Bool × List Int × Bool × List Int) :=
  (zint_Int_Sign.f N a3 a4).bind fun r5 =>
  bif r5 == 0 then
    (zint_Int_Sign.f N a1 a2).bind fun r6 =>
    (zint_Of.f N r6).bind fun r7 =>
    some (a2, r7.1, r7.2, false, [])
  else
  (nat_Gcd.f N a2 a4).bind fun r8 =>
  (zint_Make.f N false r8).bind fun r9 =>
  (zint_Exact.f N a1 a2 r9.1 r9.2).bind fun r10 =>
  (zint_must.f N r10.1 r10.2.1 r10.2.2).bind fun r11 =>
  (zint_Make.f N false a4).bind fun r12 =>
  (zint_Exact.f N r12.1 r12.2 r9.1 r9.2).bind fun r13 =>
  (zint_must.f N r13.1 r13.2.1 r13.2.2).bind fun r14 =>
  (zint_cofactors.f N r11.1 r11.2 r14.1 r14.2).bind fun r15 =>
  (zint_Make.f N (!(r15.2.2.1 == a3)) r15.2.2.2).bind fun r16 =>
  some (r8, r15.1, r15.2.1, r16.1, r16.2)
noncomputable def zint_Gcd.body : Code := (Try.f47.body).getD .skip
noncomputable def zint_Gcd.ty : List (Nat × TI) := [(4, ty4), (25, ty25), (27, ty27)]
noncomputable def zint_Gcd.E (N : Nat) : Env := { ty := lookN zint_Gcd.ty, tab := lookN [(21, zint_Int_Sign.ent N), (24, zint_Of.ent N), (69, nat_Gcd.ent N), (26, zint_Make.ent N), (19, zint_Exact.ent N), (71, zint_must.ent N), (70, zint_cofactors.ent N)], hint := lookN [], cut := lookN [], N := N, res := [.cell 4 25, .cell 5 27, .cell 6 27], rsh := [.recd [.il .u32 1], .recd [.any, .il .u32 1], .recd [.any, .il .u32 1]], nb := 0, ntmps := 52, own := false }
noncomputable def zint_Gcd.dec (v : V) (bs : List Blk) : Option (List Int × Bool × List Int × Bool × List Int) := match v, bs with
  | .tup [.agg [.il .u32 1 z0], .agg [.c (.bool z1), .il .u32 1 z2], .agg [.c (.bool z3), .il .u32 1 z4]], [] => some (z0, z1, z2, z3, z4)
  | _, _ => none
set_option maxRecDepth 100000 in
theorem zint_Gcd.f_eq (N : Nat) (a1 : Bool) (a2 : List Int) (a3 : Bool) (a4 : List Int) :
    evFun (zint_Gcd.E N) zint_Gcd.body [.agg [.c (.bool a1), .il .u32 1 a2], .agg [.c (.bool a3), .il .u32 1 a4]] [] zint_Gcd.dec = zint_Gcd.f N a1 a2 a3 a4 := by kernel_rfl
noncomputable def zint_Gcd.ent (N : Nat) : Entry := { A := List Int × Bool × List Int × Bool × List Int, fresh := 0, imm := [true, true], dec := fun args bs => match freezeL 0 (fun _ => .dead) [.recd [.any, .il .u32 1], .recd [.any, .il .u32 1]] args, bs with
  | some [.agg [.c (.bool a1), .il .u32 1 a2], .agg [.c (.bool a3), .il .u32 1 a4]], [] => some (zint_Gcd.f N a1 a2 a3 a4, fun r => .one (.tup [.agg [.il .u32 1 r.1], .agg [.c (.bool r.2.1), .il .u32 1 r.2.2.1], .agg [.c (.bool r.2.2.2.1), .il .u32 1 r.2.2.2.2]]) [])
  | _, _ => none }
theorem zint_Gcd.env (N : Nat) : EnvOK Try.prog (zint_Gcd.E N) := ⟨(TyOK.cons ty4_ok (TyOK.cons ty25_ok (TyOK.cons ty27_ok TyOK.nil))), (TabOK.cons (zint_Int_Sign.ent_ok N) (TabOK.cons (zint_Of.ent_ok N) (TabOK.cons (nat_Gcd.ent_ok N) (TabOK.cons (zint_Make.ent_ok N) (TabOK.cons (zint_Exact.ent_ok N) (TabOK.cons (zint_must.ent_ok N) (TabOK.cons (zint_cofactors.ent_ok N) TabOK.nil)))))))⟩
theorem zint_Gcd.res_eq (N : Nat) : (zint_Gcd.E N).res = Try.f47.results.toList := by kernel_rfl
theorem zint_Gcd.spec (N : Nat) (a1 : Bool) (a2 : List Int) (a3 : Bool) (a4 : List Int) (r : List Int × Bool × List Int × Bool × List Int) (h : zint_Gcd.f N a1 a2 a3 a4 = some r) : FnSpec Try.prog 47 [.agg [.c (.bool a1), .il .u32 1 a2], .agg [.c (.bool a3), .il .u32 1 a4]] [] (.tup [.agg [.il .u32 1 r.1], .agg [.c (.bool r.2.1), .il .u32 1 r.2.2.1], .agg [.c (.bool r.2.2.2.1), .il .u32 1 r.2.2.2.2]]) ([]) := by
  rw [← zint_Gcd.f_eq] at h
  obtain ⟨v, bs', h1, h2⟩ := evFun_ok (zint_Gcd.env N) Try_mixed Try.func47 (by kernel_rfl : Try.f47.body = some zint_Gcd.body) (by kernel_rfl) (zint_Gcd.res_eq N) (by kernel_rfl) (by kernel_rfl) (Nat.le_of_ble_eq_true (by kernel_rfl)) (AllCut.of (l := []) (by kernel_rfl) AllCut.nil) h
  unfold zint_Gcd.dec at h1; split at h1
  · cases h1; exact h2
  · cases h1
theorem zint_Gcd.ent_ok (N : Nat) : TabOK1 Try.prog 47 (zint_Gcd.ent N) := by
  intro args bs a enc h
  simp only [zint_Gcd.ent] at h
  split at h
  · rename_i hz; have h0 := Option.some.inj h; have h1 := congrArg Prod.fst h0; have h2 := congrArg Prod.snd h0; dsimp only at h1 h2; subst h2; exact FnSpec.of_freeze hz (zint_Gcd.spec N _ _ _ _ a h1)
  · cases h
/-! parquet/parquetref02.turned: function 73 -/
noncomputable def parquetref02_turned.l5 {R : Type} (N : Nat) : Nat → Bool → List Int → Bool → Bool → List Int → Bool → List Int → Bool → List Int → Bool → List Int → (Bool → List Int → Bool → Bool → List Int → Option R) → Option R
  | 0, _, _, _, _, _, _, _, _, _, _, _, _ => none
  | n + 1, x7, x8, x9, x10, x11, x12, x13, x14, x15, x16, x17, k0 =>
    (parquetref02_Zero.f N x12 x13).bind fun r18 =>
    bif !r18 then
      (parquetref02_Quo.f N x10 x11 x12 x13).bind fun r19 =>
      (parquetref02_Mul.f N r19.1 r19.2.1 x16 x17).bind fun r20 =>
      (parquetref02_Sub.f N x14 x15 r20.1 r20.2).bind fun r21 =>
      parquetref02_turned.l5 N n x7 x8 x9 x12 x13 r19.2.2.1 r19.2.2.2 x16 x17 r21.1 r21.2 k0
    else
    k0 x7 x8 x9 x14 x15
noncomputable def parquetref02_turned.f (N : Nat) (a1 : Bool) (a2 : List Int) (a3 : Bool) (a4 : List Int) : Option (Bool × List Int) :=
  (parquetref02_Quo.f N a1 a2 a3 a4).bind fun r5 =>
  (parquetref02_Of.f N 1).bind fun r6 =>
  parquetref02_turned.l5 N N a3 a4 false a3 a4 r5.2.2.1 r5.2.2.2 false [] r6.1 r6.2
    (fun y27 y28 y29 y30 y31 =>
      (parquetref02_Quo.f N y30 y31 y27 y28).bind fun r32 =>
      some (r32.2.2.1, r32.2.2.2))
noncomputable def parquetref02_turned.body : Code := (Try.f73.body).getD .skip
noncomputable def parquetref02_turned.ty : List (Nat × TI) := [(4, ty4), (31, ty31), (33, ty33)]
noncomputable def parquetref02_turned.h5 : Hint := ⟨[(3, .box [.any, .il .u32 1]), (4, .box [.any, .any]), (5, .box [.any, .il .u32 1]), (7, .box [.any, .il .u32 1]), (8, .box [.any, .il .u32 1]), (9, .box [.any, .il .u32 1])], [(3, .box [.any, .il .u32 1]), (4, .box [.any, .any]), (8, .box [.any, .il .u32 1])]⟩
noncomputable def parquetref02_turned.c5 (N : Nat) : Cut := ⟨fun vs H k => match vs, H with
  | [.ptr 0 0 2, .ptr 1 0 2, .ptr 2 0 2, .ptr 3 0 2, .ptr 4 0 2, .ptr 5 0 2], [.vals [.c (.bool x7), .il .u32 1 x8], .vals [.c (.bool x9), .c (.slice none 0 0)], .vals [.c (.bool x10), .il .u32 1 x11], .vals [.c (.bool x12), .il .u32 1 x13], .vals [.c (.bool x14), .il .u32 1 x15], .vals [.c (.bool x16), .il .u32 1 x17]] => parquetref02_turned.l5 N N x7 x8 x9 x10 x11 x12 x13 x14 x15 x16 x17 (fun x22 x23 x24 x25 x26 => k (.exit 0) ⟨mkT parquetref02_turned.h5.out [.ptr 0 0 2, .ptr 1 0 2, .ptr 2 0 2], [.vals [.c (.bool x22), .il .u32 1 x23], .vals [.c (.bool x24), .c (.slice none 0 0)], .vals [.c (.bool x25), .il .u32 1 x26]]⟩)
  | _, _ => none⟩
noncomputable def parquetref02_turned.E (N : Nat) : Env := { ty := lookN parquetref02_turned.ty, tab := lookN [(22, parquetref02_Quo.ent N), (25, parquetref02_Of.ent N), (20, parquetref02_Zero.ent N), (44, parquetref02_Mul.ent N), (43, parquetref02_Sub.ent N)], hint := lookN [(5, parquetref02_turned.h5)], cut := lookN [(5, parquetref02_turned.c5 N)], N := N, res := [.cell 4 33], rsh := [.recd [.any, .il .u32 1]], nb := 0, ntmps := 49, own := false }
noncomputable def parquetref02_turned.b5 : Code := inner ((subLoops parquetref02_turned.body).getD 0 .skip)
set_option maxRecDepth 100000 in
theorem parquetref02_turned.l5_eq {R : Type} (N n : Nat) (x7 : Bool) (x8 : List Int) (x9 : Bool) (x10 : Bool) (x11 : List Int) (x12 : Bool) (x13 : List Int) (x14 : Bool) (x15 : List Int) (x16 : Bool) (x17 : List Int) (k : Ex → St → Option R) :
    evLoop 0 parquetref02_turned.h5 (fun s k => evCode (parquetref02_turned.E N) 392 parquetref02_turned.b5 s k) n [.ptr 0 0 2, .ptr 1 0 2, .ptr 2 0 2, .ptr 3 0 2, .ptr 4 0 2, .ptr 5 0 2] [.vals [.c (.bool x7), .il .u32 1 x8], .vals [.c (.bool x9), .c (.slice none 0 0)], .vals [.c (.bool x10), .il .u32 1 x11], .vals [.c (.bool x12), .il .u32 1 x13], .vals [.c (.bool x14), .il .u32 1 x15], .vals [.c (.bool x16), .il .u32 1 x17]] k = parquetref02_turned.l5 N n x7 x8 x9 x10 x11 x12 x13 x14 x15 x16 x17 (fun x22 x23 x24 x25 x26 => k (.exit 0) ⟨mkT parquetref02_turned.h5.out [.ptr 0 0 2, .ptr 1 0 2, .ptr 2 0 2], [.vals [.c (.bool x22), .il .u32 1 x23], .vals [.c (.bool x24), .c (.slice none 0 0)], .vals [.c (.bool x25), .il .u32 1 x26]]⟩) := by
  induction n generalizing x7 x8 x9 x10 x11 x12 x13 x14 x15 x16 x17 with
  | zero => kernel_rfl
  | succ n ih =>
    simp only [parquetref02_turned.l5, ← ih]
    kernel_rfl
noncomputable def parquetref02_turned.dec (v : V) (bs : List Blk) : Option (Bool × List Int) := match v, bs with
  | .agg [.c (.bool z0), .il .u32 1 z1], [] => some (z0, z1)
  | _, _ => none
set_option maxRecDepth 100000 in
theorem parquetref02_turned.f_eq (N : Nat) (a1 : Bool) (a2 : List Int) (a3 : Bool) (a4 : List Int) :
    evFun (parquetref02_turned.E N) parquetref02_turned.body [.agg [.c (.bool a1), .il .u32 1 a2], .agg [.c (.bool a3), .il .u32 1 a4]] [] parquetref02_turned.dec = parquetref02_turned.f N a1 a2 a3 a4 := by kernel_rfl
noncomputable def parquetref02_turned.ent (N : Nat) : Entry := { A := Bool × List Int, fresh := 0, imm := [true, true], dec := fun args bs => match freezeL 0 (fun _ => .dead) [.recd [.any, .il .u32 1], .recd [.any, .il .u32 1]] args, bs with
  | some [.agg [.c (.bool a1), .il .u32 1 a2], .agg [.c (.bool a3), .il .u32 1 a4]], [] => some (parquetref02_turned.f N a1 a2 a3 a4, fun r => .one (.agg [.c (.bool r.1), .il .u32 1 r.2]) [])
  | _, _ => none }
theorem parquetref02_turned.env (N : Nat) : EnvOK Try.prog (parquetref02_turned.E N) := ⟨(TyOK.cons ty4_ok (TyOK.cons ty31_ok (TyOK.cons ty33_ok TyOK.nil))), (TabOK.cons (parquetref02_Quo.ent_ok N) (TabOK.cons (parquetref02_Of.ent_ok N) (TabOK.cons (parquetref02_Zero.ent_ok N) (TabOK.cons (parquetref02_Mul.ent_ok N) (TabOK.cons (parquetref02_Sub.ent_ok N) TabOK.nil)))))⟩
theorem parquetref02_turned.res_eq (N : Nat) : (parquetref02_turned.E N).res = Try.f73.results.toList := by kernel_rfl
theorem parquetref02_turned.k5 (N : Nat) : CutOK Try.prog Try.f73 (parquetref02_turned.E N) (.loop parquetref02_turned.b5) := by
  intro e hd he hh R vs H k r h
  have e1 : (parquetref02_turned.E N).cut (loopKey parquetref02_turned.b5) = some (parquetref02_turned.c5 N) := by kernel_rfl
  have e2 : (parquetref02_turned.E N).hint (loopKey parquetref02_turned.b5) = some parquetref02_turned.h5 := by kernel_rfl
  rw [e1] at he; rw [e2] at hh; cases he; cases hh
  unfold parquetref02_turned.c5 at h; dsimp only at h
  split at h
  · rw [← parquetref02_turned.l5_eq] at h
    exact loop_ok (evCode_ok (parquetref02_turned.env N) Try_mixed (parquetref02_turned.res_eq N) 392 parquetref02_turned.b5 (AllCut.of (l := []) (by kernel_rfl) AllCut.nil)) h
  · cases h
theorem parquetref02_turned.spec (N : Nat) (a1 : Bool) (a2 : List Int) (a3 : Bool) (a4 : List Int) (r : Bool × List Int) (h : parquetref02_turned.f N a1 a2 a3 a4 = some r) : FnSpec Try.prog 73 [.agg [.c (.bool a1), .il .u32 1 a2], .agg [.c (.bool a3), .il .u32 1 a4]] [] (.agg [.c (.bool r.1), .il .u32 1 r.2]) ([]) := by
  rw [← parquetref02_turned.f_eq] at h
  obtain ⟨v, bs', h1, h2⟩ := evFun_ok (parquetref02_turned.env N) Try_mixed Try.func73 (by kernel_rfl : Try.f73.body = some parquetref02_turned.body) (by kernel_rfl) (parquetref02_turned.res_eq N) (by kernel_rfl) (by kernel_rfl) (Nat.le_of_ble_eq_true (by kernel_rfl)) (AllCut.of (l := [(.loop (inner ((subLoops parquetref02_turned.body).getD 0 .skip)))]) (by kernel_rfl) (AllCut.cons (parquetref02_turned.k5 N) AllCut.nil)) h
  unfold parquetref02_turned.dec at h1; split at h1
  · cases h1; exact h2
  · cases h1
theorem parquetref02_turned.ent_ok (N : Nat) : TabOK1 Try.prog 73 (parquetref02_turned.ent N) := by
  intro args bs a enc h
  simp only [parquetref02_turned.ent] at h
  split at h
  · rename_i hz; have h0 := Option.some.inj h; have h1 := congrArg Prod.fst h0; have h2 := congrArg Prod.snd h0; dsimp only at h1 h2; subst h2; exact FnSpec.of_freeze hz (parquetref02_turned.spec N _ _ _ _ a h1)
  · cases h
/-! parquet/parquetref02.Gcd: function 48 -/
noncomputable def parquetref02_Gcd.f (N : Nat) (a1 : Bool) (a2 : List Int) (a3 : Bool) (a4 : List Int) : Option (List Int × Bool × List Int × Bool × List Int) :=
  (parquetref02_Zero.f N a3 a4).bind fun r5 =>
  bif r5 then
    (parquetref02_Sign.f N a1 a2).bind fun r6 =>
    (parquetref02_Of.f N r6).bind fun r7 =>
    some (a2, r7.1, r7.2, false, [])
  else
  (parquetref01_Gcd.f N a2 a4).bind fun r8 =>
  (parquetref02_Make.f N false r8).bind fun r9 =>
  (parquetref02_Make.f N false a4).bind fun r10 =>
  (parquetref02_Quo.f N r10.1 r10.2 r9.1 r9.2).bind fun r11 =>
  (parquetref02_Quo.f N a1 a2 r9.1 r9.2).bind fun r12 =>
  (parquetref02_turned.f N r12.1 r12.2.1 r11.1 r11.2.1).bind fun r13 =>
  (parquetref02_Mul.f N a1 a2 r13.1 r13.2).bind fun r14 =>
  (parquetref02_Sub.f N r9.1 r9.2 r14.1 r14.2).bind fun r15 =>
  (parquetref02_Quo.f N r15.1 r15.2 a3 a4).bind fun r16 =>
  some (r8, r13.1, r13.2, r16.1, r16.2.1)
noncomputable def parquetref02_Gcd.body : Code := (Try.f48.body).getD .skip
noncomputable def parquetref02_Gcd.ty : List (Nat × TI) := [(4, ty4), (31, ty31), (33, ty33)]
noncomputable def parquetref02_Gcd.E (N : Nat) : Env := { ty := lookN parquetref02_Gcd.ty, tab := lookN [(20, parquetref02_Zero.ent N), (32, parquetref02_Sign.ent N), (25, parquetref02_Of.ent N), (72, parquetref01_Gcd.ent N), (28, parquetref02_Make.ent N), (22, parquetref02_Quo.ent N), (73, parquetref02_turned.ent N), (44, parquetref02_Mul.ent N), (43, parquetref02_Sub.ent N)], hint := lookN [], cut := lookN [], N := N, res := [.tmp 4, .cell 5 33, .cell 6 33], rsh := [.il .u32 1, .recd [.any, .il .u32 1], .recd [.any, .il .u32 1]], nb := 0, ntmps := 61, own := false }
noncomputable def parquetref02_Gcd.dec (v : V) (bs : List Blk) : Option (List Int × Bool × List Int × Bool × List Int) := match v, bs with
  | .tup [.il .u32 1 z0, .agg [.c (.bool z1), .il .u32 1 z2], .agg [.c (.bool z3), .il .u32 1 z4]], [] => some (z0, z1, z2, z3, z4)
  | _, _ => none
set_option maxRecDepth 100000 in
theorem parquetref02_Gcd.f_eq (N : Nat) (a1 : Bool) (a2 : List Int) (a3 : Bool) (a4 : List Int) :
    evFun (parquetref02_Gcd.E N) parquetref02_Gcd.body [.agg [.c (.bool a1), .il .u32 1 a2], .agg [.c (.bool a3), .il .u32 1 a4]] [] parquetref02_Gcd.dec = parquetref02_Gcd.f N a1 a2 a3 a4 := by kernel_rfl
noncomputable def parquetref02_Gcd.ent (N : Nat) : Entry := { A := List Int × Bool × List Int × Bool × List Int, fresh := 0, imm := [true, true], dec := fun args bs => match freezeL 0 (fun _ => .dead) [.recd [.any, .il .u32 1], .recd [.any, .il .u32 1]] args, bs with
  | some [.agg [.c (.bool a1), .il .u32 1 a2], .agg [.c (.bool a3), .il .u32 1 a4]], [] => some (parquetref02_Gcd.f N a1 a2 a3 a4, fun r => .one (.tup [.il .u32 1 r.1, .agg [.c (.bool r.2.1), .il .u32 1 r.2.2.1], .agg [.c (.bool r.2.2.2.1), .il .u32 1 r.2.2.2.2]]) [])
  | _, _ => none }
theorem parquetref02_Gcd.env (N : Nat) : EnvOK Try.prog (parquetref02_Gcd.E N) := ⟨(TyOK.cons ty4_ok (TyOK.cons ty31_ok (TyOK.cons ty33_ok TyOK.nil))), (TabOK.cons (parquetref02_Zero.ent_ok N) (TabOK.cons (parquetref02_Sign.ent_ok N) (TabOK.cons (parquetref02_Of.ent_ok N) (TabOK.cons (parquetref01_Gcd.ent_ok N) (TabOK.cons (parquetref02_Make.ent_ok N) (TabOK.cons (parquetref02_Quo.ent_ok N) (TabOK.cons (parquetref02_turned.ent_ok N) (TabOK.cons (parquetref02_Mul.ent_ok N) (TabOK.cons (parquetref02_Sub.ent_ok N) TabOK.nil)))))))))⟩
theorem parquetref02_Gcd.res_eq (N : Nat) : (parquetref02_Gcd.E N).res = Try.f48.results.toList := by kernel_rfl
theorem parquetref02_Gcd.spec (N : Nat) (a1 : Bool) (a2 : List Int) (a3 : Bool) (a4 : List Int) (r : List Int × Bool × List Int × Bool × List Int) (h : parquetref02_Gcd.f N a1 a2 a3 a4 = some r) : FnSpec Try.prog 48 [.agg [.c (.bool a1), .il .u32 1 a2], .agg [.c (.bool a3), .il .u32 1 a4]] [] (.tup [.il .u32 1 r.1, .agg [.c (.bool r.2.1), .il .u32 1 r.2.2.1], .agg [.c (.bool r.2.2.2.1), .il .u32 1 r.2.2.2.2]]) ([]) := by
  rw [← parquetref02_Gcd.f_eq] at h
  obtain ⟨v, bs', h1, h2⟩ := evFun_ok (parquetref02_Gcd.env N) Try_mixed Try.func48 (by kernel_rfl : Try.f48.body = some parquetref02_Gcd.body) (by kernel_rfl) (parquetref02_Gcd.res_eq N) (by kernel_rfl) (by kernel_rfl) (Nat.le_of_ble_eq_true (by kernel_rfl)) (AllCut.of (l := []) (by kernel_rfl) AllCut.nil) h
  unfold parquetref02_Gcd.dec at h1; split at h1
  · cases h1; exact h2
  · cases h1
theorem parquetref02_Gcd.ent_ok (N : Nat) : TabOK1 Try.prog 48 (parquetref02_Gcd.ent N) := by
  intro args bs a enc h
  simp only [parquetref02_Gcd.ent] at h
  split at h
  · rename_i hz; have h0 := Option.some.inj h; have h1 := congrArg Prod.fst h0; have h2 := congrArg Prod.snd h0; dsimp only at h1 h2; subst h2; exact FnSpec.of_freeze hz (parquetref02_Gcd.spec N _ _ _ _ a h1)
  · cases h
/-! parquet/parquetlaw02.three: function 46 -/
noncomputable def parquetlaw02_three.f (N : Nat) (a1 : Bool) (a2 : List Int) (a3 : Bool) (a4 : List Int) (a5 : Bool) (a6 : List Int) (a7 : Int) : Option (Bool × List Int × Bool × List Int × Bool × List Int × Bool) :=
  bif ((decide (0 ≤ (mn2 (a2.length : Int) a7))) && (decide ((mn2 (a2.length : Int) a7) ≤ (a2.length : Int)))) && (decide ((a2.length : Int) ≤ (a2.length : Int))) then
    bif ((decide (0 ≤ (mn2 (a4.length : Int) a7))) && (decide ((mn2 (a4.length : Int) a7) ≤ (a4.length : Int)))) && (decide ((a4.length : Int) ≤ (a4.length : Int))) then
      bif ((decide (0 ≤ (mn2 (a6.length : Int) a7))) && (decide ((mn2 (a6.length : Int) a7) ≤ (a6.length : Int)))) && (decide ((a6.length : Int) ≤ (a6.length : Int))) then
        (parquetlaw02_Of.f N a1 ((a2.drop 0).take ((mn2 (a2.length : Int) a7).toNat))).bind fun r8 =>
        (parquetlaw02_Made.f N r8.1 r8.2).bind fun r9 =>
        (parquetlaw02_Of.f N a3 ((a4.drop 0).take ((mn2 (a4.length : Int) a7).toNat))).bind fun r10 =>
        (parquetlaw02_Made.f N r10.1 r10.2).bind fun r11 =>
        (parquetlaw02_Of.f N a5 ((a6.drop 0).take ((mn2 (a6.length : Int) a7).toNat))).bind fun r12 =>
        (parquetlaw02_Made.f N r12.1 r12.2).bind fun r13 =>
        bif r9.2.2 then
          bif r11.2.2 then
            some (r9.1, r9.2.1, r11.1, r11.2.1, r13.1, r13.2.1, r13.2.2)
          else
          some (r9.1, r9.2.1, r11.1, r11.2.1, r13.1, r13.2.1, false)
        else
        some (r9.1, r9.2.1, r11.1, r11.2.1, r13.1, r13.2.1, false)
      else none
    else none
  else none
noncomputable def parquetlaw02_three.body : Code := (Try.f46.body).getD .skip
noncomputable def parquetlaw02_three.ty : List (Nat × TI) := [(27, ty27), (39, ty39), (41, ty41), (87, ty87)]
noncomputable def parquetlaw02_three.E (N : Nat) : Env := { ty := lookN parquetlaw02_three.ty, tab := lookN [(16, parquetlaw02_Of.ent N), (17, parquetlaw02_Made.ent N)], hint := lookN [], cut := lookN [], N := N, res := [.cell 8 27, .cell 9 27, .cell 10 27, .tmp 11], rsh := [.recd [.any, .il .u32 1], .recd [.any, .il .u32 1], .recd [.any, .il .u32 1], .any], nb := 0, ntmps := 73, own := false }
noncomputable def parquetlaw02_three.dec (v : V) (bs : List Blk) : Option (Bool × List Int × Bool × List Int × Bool × List Int × Bool) := match v, bs with
  | .tup [.agg [.c (.bool z0), .il .u32 1 z1], .agg [.c (.bool z2), .il .u32 1 z3], .agg [.c (.bool z4), .il .u32 1 z5], .c (.bool z6)], [] => some (z0, z1, z2, z3, z4, z5, z6)
  | _, _ => none
set_option maxRecDepth 100000 in
theorem parquetlaw02_three.f_eq (N : Nat) (a1 : Bool) (a2 : List Int) (a3 : Bool) (a4 : List Int) (a5 : Bool) (a6 : List Int) (a7 : Int) :
    evFun (parquetlaw02_three.E N) parquetlaw02_three.body [.agg [.c (.bool a1), .il .u16 1 a2], .agg [.c (.bool a3), .il .u16 1 a4], .agg [.c (.bool a5), .il .u16 1 a6], .c (.int .i64 a7)] [] parquetlaw02_three.dec = parquetlaw02_three.f N a1 a2 a3 a4 a5 a6 a7 := by kernel_rfl
noncomputable def parquetlaw02_three.ent (N : Nat) : Entry := { A := Bool × List Int × Bool × List Int × Bool × List Int × Bool, fresh := 0, imm := [true, true, true, true], dec := fun args bs => match freezeL 0 (fun _ => .dead) [.recd [.any, .il .u16 1], .recd [.any, .il .u16 1], .recd [.any, .il .u16 1], .any] args, bs with
  | some [.agg [.c (.bool a1), .il .u16 1 a2], .agg [.c (.bool a3), .il .u16 1 a4], .agg [.c (.bool a5), .il .u16 1 a6], .c (.int .i64 a7)], [] => some (parquetlaw02_three.f N a1 a2 a3 a4 a5 a6 a7, fun r => .one (.tup [.agg [.c (.bool r.1), .il .u32 1 r.2.1], .agg [.c (.bool r.2.2.1), .il .u32 1 r.2.2.2.1], .agg [.c (.bool r.2.2.2.2.1), .il .u32 1 r.2.2.2.2.2.1], .c (.bool r.2.2.2.2.2.2)]) [])
  | _, _ => none }
theorem parquetlaw02_three.env (N : Nat) : EnvOK Try.prog (parquetlaw02_three.E N) := ⟨(TyOK.cons ty27_ok (TyOK.cons ty39_ok (TyOK.cons ty41_ok (TyOK.cons ty87_ok TyOK.nil)))), (TabOK.cons (parquetlaw02_Of.ent_ok N) (TabOK.cons (parquetlaw02_Made.ent_ok N) TabOK.nil))⟩
theorem parquetlaw02_three.res_eq (N : Nat) : (parquetlaw02_three.E N).res = Try.f46.results.toList := by kernel_rfl
theorem parquetlaw02_three.spec (N : Nat) (a1 : Bool) (a2 : List Int) (a3 : Bool) (a4 : List Int) (a5 : Bool) (a6 : List Int) (a7 : Int) (r : Bool × List Int × Bool × List Int × Bool × List Int × Bool) (h : parquetlaw02_three.f N a1 a2 a3 a4 a5 a6 a7 = some r) : FnSpec Try.prog 46 [.agg [.c (.bool a1), .il .u16 1 a2], .agg [.c (.bool a3), .il .u16 1 a4], .agg [.c (.bool a5), .il .u16 1 a6], .c (.int .i64 a7)] [] (.tup [.agg [.c (.bool r.1), .il .u32 1 r.2.1], .agg [.c (.bool r.2.2.1), .il .u32 1 r.2.2.2.1], .agg [.c (.bool r.2.2.2.2.1), .il .u32 1 r.2.2.2.2.2.1], .c (.bool r.2.2.2.2.2.2)]) ([]) := by
  rw [← parquetlaw02_three.f_eq] at h
  obtain ⟨v, bs', h1, h2⟩ := evFun_ok (parquetlaw02_three.env N) Try_mixed Try.func46 (by kernel_rfl : Try.f46.body = some parquetlaw02_three.body) (by kernel_rfl) (parquetlaw02_three.res_eq N) (by kernel_rfl) (by kernel_rfl) (Nat.le_of_ble_eq_true (by kernel_rfl)) (AllCut.of (l := []) (by kernel_rfl) AllCut.nil) h
  unfold parquetlaw02_three.dec at h1; split at h1
  · cases h1; exact h2
  · cases h1
theorem parquetlaw02_three.ent_ok (N : Nat) : TabOK1 Try.prog 46 (parquetlaw02_three.ent N) := by
  intro args bs a enc h
  simp only [parquetlaw02_three.ent] at h
  split at h
  · rename_i hz; have h0 := Option.some.inj h; have h1 := congrArg Prod.fst h0; have h2 := congrArg Prod.snd h0; dsimp only at h1 h2; subst h2; exact FnSpec.of_freeze hz (parquetlaw02_three.spec N _ _ _ _ _ _ _ a h1)
  · cases h
/-! parquet/parquetlaw02.ZintWords: function 5 -/
noncomputable def parquetlaw02_ZintWords.f (N : Nat) (a1 : Int) (a2 : Int) (a3 : Bool) (a4 : Int) : Option (Bool) :=
  (zint_Of.f N a1).bind fun r5 =>
  (parquetref02_Of.f N a1).bind fun r6 =>
  (nat_Of.f N a4).bind fun r7 =>
  (zint_Make.f N a3 r7).bind fun r8 =>
  (parquetref01_Of.f N a4).bind fun r9 =>
  (parquetref02_Make.f N a3 r9).bind fun r10 =>
  (zint_Int_Int64.f N r8.1 r8.2).bind fun r11 =>
  (parquetref02_Int64.f N r10.1 r10.2).bind fun r12 =>
  (zint_Int_Int64.f N r5.1 r5.2).bind fun r13 =>
  (zint_Int_Text.f N r5.1 r5.2).bind fun r14 =>
  (parquetref02_Text.f N r6.1 r6.2).bind fun r15 =>
  bif r14.toList == r15.toList then
    (zint_Int_Text.f N r8.1 r8.2).bind fun r16 =>
    (parquetref02_Text.f N r10.1 r10.2).bind fun r17 =>
    bif r16.toList == r17.toList then
      (zint_Int_Sign.f N r8.1 r8.2).bind fun r18 =>
      (parquetref02_Sign.f N r10.1 r10.2).bind fun r19 =>
      bif r18 == r19 then
        bif r11.1 == r12.1 then
          bif r11.2 == r12.2 then
            bif r13.1 == a1 then
              bif r13.2 then
                (zint_Of.f N a2).bind fun r20 =>
                (zint_Cmp.f N r5.1 r5.2 r20.1 r20.2).bind fun r21 =>
                (parquetref02_Of.f N a2).bind fun r22 =>
                (parquetref02_Cmp.f N r6.1 r6.2 r22.1 r22.2).bind fun r23 =>
                bif r21 == r23 then
                  (zint_Cmp.f N r5.1 r5.2 r8.1 r8.2).bind fun r24 =>
                  (parquetref02_Cmp.f N r6.1 r6.2 r10.1 r10.2).bind fun r25 =>
                  bif r24 == r25 then
                    (zint_Int_Abs.f N r8.1 r8.2).bind fun r26 =>
                    (nat_Nat_Text.f N r26).bind fun r27 =>
                    (parquetref01_Text.f N r10.2).bind fun r28 =>
                    bif r27.toList == r28.toList then
                      (parquetlaw02_wakes.f N).bind fun r29 =>
                      some r29
                    else
                    some false
                  else
                  some false
                else
                some false
              else
              some false
            else
            some false
          else
          some false
        else
        some false
      else
      some false
    else
    some false
  else
  some false
noncomputable def parquetlaw02_ZintWords.body : Code := (Try.f5.body).getD .skip
noncomputable def parquetlaw02_ZintWords.ty : List (Nat × TI) := [(4, ty4), (27, ty27), (31, ty31), (33, ty33)]
noncomputable def parquetlaw02_ZintWords.E (N : Nat) : Env := { ty := lookN parquetlaw02_ZintWords.ty, tab := lookN [(24, zint_Of.ent N), (25, parquetref02_Of.ent N), (27, nat_Of.ent N), (26, zint_Make.ent N), (29, parquetref01_Of.ent N), (28, parquetref02_Make.ent N), (30, zint_Int_Int64.ent N), (31, parquetref02_Int64.ent N), (14, zint_Int_Text.ent N), (15, parquetref02_Text.ent N), (21, zint_Int_Sign.ent N), (32, parquetref02_Sign.ent N), (33, zint_Cmp.ent N), (34, parquetref02_Cmp.ent N), (35, zint_Int_Abs.ent N), (36, nat_Nat_Text.ent N), (37, parquetref01_Text.ent N), (11, parquetlaw02_wakes.ent N)], hint := lookN [], cut := lookN [], N := N, res := [.tmp 8], rsh := [.any], nb := 0, ntmps := 117, own := false }
noncomputable def parquetlaw02_ZintWords.dec (v : V) (bs : List Blk) : Option (Bool) := match v, bs with
  | .c (.bool z0), [] => some z0
  | _, _ => none
set_option maxRecDepth 100000 in
theorem parquetlaw02_ZintWords.f_eq (N : Nat) (a1 : Int) (a2 : Int) (a3 : Bool) (a4 : Int) :
    evFun (parquetlaw02_ZintWords.E N) parquetlaw02_ZintWords.body [.c (.int .i64 a1), .c (.int .i64 a2), .c (.bool a3), .c (.int .u64 a4)] [] parquetlaw02_ZintWords.dec = parquetlaw02_ZintWords.f N a1 a2 a3 a4 := by kernel_rfl
noncomputable def parquetlaw02_ZintWords.ent (N : Nat) : Entry := { A := Bool, fresh := 0, imm := [true, true, true, true], dec := fun args bs => match freezeL 0 (fun _ => .dead) [.any, .any, .any, .any] args, bs with
  | some [.c (.int .i64 a1), .c (.int .i64 a2), .c (.bool a3), .c (.int .u64 a4)], [] => some (parquetlaw02_ZintWords.f N a1 a2 a3 a4, fun r => .one (.c (.bool r)) [])
  | _, _ => none }
theorem parquetlaw02_ZintWords.env (N : Nat) : EnvOK Try.prog (parquetlaw02_ZintWords.E N) := ⟨(TyOK.cons ty4_ok (TyOK.cons ty27_ok (TyOK.cons ty31_ok (TyOK.cons ty33_ok TyOK.nil)))), (TabOK.cons (zint_Of.ent_ok N) (TabOK.cons (parquetref02_Of.ent_ok N) (TabOK.cons (nat_Of.ent_ok N) (TabOK.cons (zint_Make.ent_ok N) (TabOK.cons (parquetref01_Of.ent_ok N) (TabOK.cons (parquetref02_Make.ent_ok N) (TabOK.cons (zint_Int_Int64.ent_ok N) (TabOK.cons (parquetref02_Int64.ent_ok N) (TabOK.cons (zint_Int_Text.ent_ok N) (TabOK.cons (parquetref02_Text.ent_ok N) (TabOK.cons (zint_Int_Sign.ent_ok N) (TabOK.cons (parquetref02_Sign.ent_ok N) (TabOK.cons (zint_Cmp.ent_ok N) (TabOK.cons (parquetref02_Cmp.ent_ok N) (TabOK.cons (zint_Int_Abs.ent_ok N) (TabOK.cons (nat_Nat_Text.ent_ok N) (TabOK.cons (parquetref01_Text.ent_ok N) (TabOK.cons (parquetlaw02_wakes.ent_ok N) TabOK.nil))))))))))))))))))⟩
theorem parquetlaw02_ZintWords.res_eq (N : Nat) : (parquetlaw02_ZintWords.E N).res = Try.f5.results.toList := by kernel_rfl
theorem parquetlaw02_ZintWords.spec (N : Nat) (a1 : Int) (a2 : Int) (a3 : Bool) (a4 : Int) (r : Bool) (h : parquetlaw02_ZintWords.f N a1 a2 a3 a4 = some r) : FnSpec Try.prog 5 [.c (.int .i64 a1), .c (.int .i64 a2), .c (.bool a3), .c (.int .u64 a4)] [] (.c (.bool r)) ([]) := by
  rw [← parquetlaw02_ZintWords.f_eq] at h
  obtain ⟨v, bs', h1, h2⟩ := evFun_ok (parquetlaw02_ZintWords.env N) Try_mixed Try.func5 (by kernel_rfl : Try.f5.body = some parquetlaw02_ZintWords.body) (by kernel_rfl) (parquetlaw02_ZintWords.res_eq N) (by kernel_rfl) (by kernel_rfl) (Nat.le_of_ble_eq_true (by kernel_rfl)) (AllCut.of (l := []) (by kernel_rfl) AllCut.nil) h
  unfold parquetlaw02_ZintWords.dec at h1; split at h1
  · cases h1; exact h2
  · cases h1
theorem parquetlaw02_ZintWords.ent_ok (N : Nat) : TabOK1 Try.prog 5 (parquetlaw02_ZintWords.ent N) := by
  intro args bs a enc h
  simp only [parquetlaw02_ZintWords.ent] at h
  split at h
  · rename_i hz; have h0 := Option.some.inj h; have h1 := congrArg Prod.fst h0; have h2 := congrArg Prod.snd h0; dsimp only at h1 h2; subst h2; exact FnSpec.of_freeze hz (parquetlaw02_ZintWords.spec N _ _ _ _ a h1)
  · cases h
/-! parquet/parquetlaw02.ZintRing: function 7 -/
noncomputable def parquetlaw02_ZintRing.f (N : Nat) (a1 : Bool) (a2 : List Int) (a3 : Bool) (a4 : List Int) (a5 : Bool) (a6 : List Int) : Option (Bool) :=
  (parquetlaw02_three.f N a1 a2 a3 a4 a5 a6 80).bind fun r7 =>
  bif !r7.2.2.2.2.2.2 then
    some false
  else
  (zint_Add.f N r7.1 r7.2.1 r7.2.2.1 r7.2.2.2.1).bind fun r8 =>
  (zint_Add.f N r7.2.2.1 r7.2.2.2.1 r7.1 r7.2.1).bind fun r9 =>
  (zint_Add.f N r7.2.2.1 r7.2.2.2.1 r7.2.2.2.2.1 r7.2.2.2.2.2.1).bind fun r10 =>
  (zint_Add.f N r8.1 r8.2.1 r7.2.2.2.2.1 r7.2.2.2.2.2.1).bind fun r11 =>
  (zint_Add.f N r7.1 r7.2.1 r10.1 r10.2.1).bind fun r12 =>
  (zint_Cmp.f N r8.1 r8.2.1 r9.1 r9.2.1).bind fun r13 =>
  bif r13 == 0 then
    (zint_Cmp.f N r11.1 r11.2.1 r12.1 r12.2.1).bind fun r14 =>
    (zint_Mul.f N r7.1 r7.2.1 r7.2.2.1 r7.2.2.2.1).bind fun r15 =>
    (zint_Mul.f N r7.2.2.1 r7.2.2.2.1 r7.1 r7.2.1).bind fun r16 =>
    (zint_Mul.f N r7.2.2.1 r7.2.2.2.1 r7.2.2.2.2.1 r7.2.2.2.2.2.1).bind fun r17 =>
    (zint_Mul.f N r15.1 r15.2.1 r7.2.2.2.2.1 r7.2.2.2.2.2.1).bind fun r18 =>
    (zint_Mul.f N r7.1 r7.2.1 r17.1 r17.2.1).bind fun r19 =>
    (zint_Cmp.f N r15.1 r15.2.1 r16.1 r16.2.1).bind fun r20 =>
    bif r20 == 0 then
      (zint_Cmp.f N r18.1 r18.2.1 r19.1 r19.2.1).bind fun r21 =>
      (zint_Mul.f N r7.1 r7.2.1 r7.2.2.2.2.1 r7.2.2.2.2.2.1).bind fun r22 =>
      (zint_Mul.f N r8.1 r8.2.1 r7.2.2.2.2.1 r7.2.2.2.2.2.1).bind fun r23 =>
      (zint_Add.f N r22.1 r22.2.1 r17.1 r17.2.1).bind fun r24 =>
      (zint_Sub.f N r7.1 r7.2.1 r7.2.2.1 r7.2.2.2.1).bind fun r25 =>
      (zint_Neg.f N r7.2.2.1 r7.2.2.2.1).bind fun r26 =>
      (zint_Add.f N r7.1 r7.2.1 r26.1 r26.2).bind fun r27 =>
      bif r14 == 0 then
        bif r21 == 0 then
          bif r24.2.2 == 0 then
            (zint_Cmp.f N r23.1 r23.2.1 r24.1 r24.2.1).bind fun r28 =>
            bif r28 == 0 then
              (zint_Cmp.f N r25.1 r25.2.1 r27.1 r27.2.1).bind fun r29 =>
              bif r29 == 0 then
                (parquetlaw02_wakes.f N).bind fun r30 =>
                some r30
              else
              some false
            else
            some false
          else
          some false
        else
        some false
      else
      some false
    else
    (zint_Mul.f N r7.1 r7.2.1 r7.2.2.2.2.1 r7.2.2.2.2.2.1).bind fun r31 =>
    (zint_Mul.f N r8.1 r8.2.1 r7.2.2.2.2.1 r7.2.2.2.2.2.1).bind fun r32 =>
    (zint_Add.f N r31.1 r31.2.1 r17.1 r17.2.1).bind fun r33 =>
    (zint_Sub.f N r7.1 r7.2.1 r7.2.2.1 r7.2.2.2.1).bind fun r34 =>
    (zint_Neg.f N r7.2.2.1 r7.2.2.2.1).bind fun r35 =>
    (zint_Add.f N r7.1 r7.2.1 r35.1 r35.2).bind fun r36 =>
    bif r14 == 0 then
      some false
    else
    some false
  else
  (zint_Mul.f N r7.1 r7.2.1 r7.2.2.1 r7.2.2.2.1).bind fun r37 =>
  (zint_Mul.f N r7.2.2.1 r7.2.2.2.1 r7.1 r7.2.1).bind fun r38 =>
  (zint_Mul.f N r7.2.2.1 r7.2.2.2.1 r7.2.2.2.2.1 r7.2.2.2.2.2.1).bind fun r39 =>
  (zint_Mul.f N r37.1 r37.2.1 r7.2.2.2.2.1 r7.2.2.2.2.2.1).bind fun r40 =>
  (zint_Mul.f N r7.1 r7.2.1 r39.1 r39.2.1).bind fun r41 =>
  (zint_Cmp.f N r37.1 r37.2.1 r38.1 r38.2.1).bind fun r42 =>
  bif r42 == 0 then
    (zint_Cmp.f N r40.1 r40.2.1 r41.1 r41.2.1).bind fun r43 =>
    (zint_Mul.f N r7.1 r7.2.1 r7.2.2.2.2.1 r7.2.2.2.2.2.1).bind fun r44 =>
    (zint_Mul.f N r8.1 r8.2.1 r7.2.2.2.2.1 r7.2.2.2.2.2.1).bind fun r45 =>
    (zint_Add.f N r44.1 r44.2.1 r39.1 r39.2.1).bind fun r46 =>
    (zint_Sub.f N r7.1 r7.2.1 r7.2.2.1 r7.2.2.2.1).bind fun r47 =>
    (zint_Neg.f N r7.2.2.1 r7.2.2.2.1).bind fun r48 =>
    (zint_Add.f N r7.1 r7.2.1 r48.1 r48.2).bind fun r49 =>
    some false
  else
  (zint_Mul.f N r7.1 r7.2.1 r7.2.2.2.2.1 r7.2.2.2.2.2.1).bind fun r50 =>
  (zint_Mul.f N r8.1 r8.2.1 r7.2.2.2.2.1 r7.2.2.2.2.2.1).bind fun r51 =>
  (zint_Add.f N r50.1 r50.2.1 r39.1 r39.2.1).bind fun r52 =>
  (zint_Sub.f N r7.1 r7.2.1 r7.2.2.1 r7.2.2.2.1).bind fun r53 =>
  (zint_Neg.f N r7.2.2.1 r7.2.2.2.1).bind fun r54 =>
  (zint_Add.f N r7.1 r7.2.1 r54.1 r54.2).bind fun r55 =>
  some false
noncomputable def parquetlaw02_ZintRing.body : Code := (Try.f7.body).getD .skip
noncomputable def parquetlaw02_ZintRing.ty : List (Nat × TI) := [(27, ty27), (41, ty41)]
noncomputable def parquetlaw02_ZintRing.E (N : Nat) : Env := { ty := lookN parquetlaw02_ZintRing.ty, tab := lookN [(46, parquetlaw02_three.ent N), (38, zint_Add.ent N), (33, zint_Cmp.ent N), (40, zint_Mul.ent N), (39, zint_Sub.ent N), (41, zint_Neg.ent N), (11, parquetlaw02_wakes.ent N)], hint := lookN [], cut := lookN [], N := N, res := [.tmp 6], rsh := [.any], nb := 0, ntmps := 181, own := false }
noncomputable def parquetlaw02_ZintRing.dec (v : V) (bs : List Blk) : Option (Bool) := match v, bs with
  | .c (.bool z0), [] => some z0
  | _, _ => none
set_option maxRecDepth 100000 in
theorem parquetlaw02_ZintRing.f_eq (N : Nat) (a1 : Bool) (a2 : List Int) (a3 : Bool) (a4 : List Int) (a5 : Bool) (a6 : List Int) :
    evFun (parquetlaw02_ZintRing.E N) parquetlaw02_ZintRing.body [.agg [.c (.bool a1), .il .u16 1 a2], .agg [.c (.bool a3), .il .u16 1 a4], .agg [.c (.bool a5), .il .u16 1 a6]] [] parquetlaw02_ZintRing.dec = parquetlaw02_ZintRing.f N a1 a2 a3 a4 a5 a6 := by kernel_rfl
noncomputable def parquetlaw02_ZintRing.ent (N : Nat) : Entry := { A := Bool, fresh := 0, imm := [true, true, true], dec := fun args bs => match freezeL 0 (fun _ => .dead) [.recd [.any, .il .u16 1], .recd [.any, .il .u16 1], .recd [.any, .il .u16 1]] args, bs with
  | some [.agg [.c (.bool a1), .il .u16 1 a2], .agg [.c (.bool a3), .il .u16 1 a4], .agg [.c (.bool a5), .il .u16 1 a6]], [] => some (parquetlaw02_ZintRing.f N a1 a2 a3 a4 a5 a6, fun r => .one (.c (.bool r)) [])
  | _, _ => none }
theorem parquetlaw02_ZintRing.env (N : Nat) : EnvOK Try.prog (parquetlaw02_ZintRing.E N) := ⟨(TyOK.cons ty27_ok (TyOK.cons ty41_ok TyOK.nil)), (TabOK.cons (parquetlaw02_three.ent_ok N) (TabOK.cons (zint_Add.ent_ok N) (TabOK.cons (zint_Cmp.ent_ok N) (TabOK.cons (zint_Mul.ent_ok N) (TabOK.cons (zint_Sub.ent_ok N) (TabOK.cons (zint_Neg.ent_ok N) (TabOK.cons (parquetlaw02_wakes.ent_ok N) TabOK.nil)))))))⟩
theorem parquetlaw02_ZintRing.res_eq (N : Nat) : (parquetlaw02_ZintRing.E N).res = Try.f7.results.toList := by kernel_rfl
theorem parquetlaw02_ZintRing.spec (N : Nat) (a1 : Bool) (a2 : List Int) (a3 : Bool) (a4 : List Int) (a5 : Bool) (a6 : List Int) (r : Bool) (h : parquetlaw02_ZintRing.f N a1 a2 a3 a4 a5 a6 = some r) : FnSpec Try.prog 7 [.agg [.c (.bool a1), .il .u16 1 a2], .agg [.c (.bool a3), .il .u16 1 a4], .agg [.c (.bool a5), .il .u16 1 a6]] [] (.c (.bool r)) ([]) := by
  rw [← parquetlaw02_ZintRing.f_eq] at h
  obtain ⟨v, bs', h1, h2⟩ := evFun_ok (parquetlaw02_ZintRing.env N) Try_mixed Try.func7 (by kernel_rfl : Try.f7.body = some parquetlaw02_ZintRing.body) (by kernel_rfl) (parquetlaw02_ZintRing.res_eq N) (by kernel_rfl) (by kernel_rfl) (Nat.le_of_ble_eq_true (by kernel_rfl)) (AllCut.of (l := []) (by kernel_rfl) AllCut.nil) h
  unfold parquetlaw02_ZintRing.dec at h1; split at h1
  · cases h1; exact h2
  · cases h1
theorem parquetlaw02_ZintRing.ent_ok (N : Nat) : TabOK1 Try.prog 7 (parquetlaw02_ZintRing.ent N) := by
  intro args bs a enc h
  simp only [parquetlaw02_ZintRing.ent] at h
  split at h
  · rename_i hz; have h0 := Option.some.inj h; have h1 := congrArg Prod.fst h0; have h2 := congrArg Prod.snd h0; dsimp only at h1 h2; subst h2; exact FnSpec.of_freeze hz (parquetlaw02_ZintRing.spec N _ _ _ _ _ _ a h1)
  · cases h
/-! parquet/parquetlaw02.ZintGcds: function 8 -/
noncomputable def parquetlaw02_ZintGcds.f (N : Nat) (a1 : Bool) (a2 : List Int) (a3 : Bool) (a4 : List Int) : Option (Bool) :=
  bif ((decide (0 ≤ (mn2 (a2.length : Int) 40))) && (decide ((mn2 (a2.length : Int) 40) ≤ (a2.length : Int)))) && (decide ((a2.length : Int) ≤ (a2.length : Int))) then
    bif ((decide (0 ≤ (mn2 (a4.length : Int) 40))) && (decide ((mn2 (a4.length : Int) 40) ≤ (a4.length : Int)))) && (decide ((a4.length : Int) ≤ (a4.length : Int))) then
      (parquetlaw02_Of.f N a1 ((a2.drop 0).take ((mn2 (a2.length : Int) 40).toNat))).bind fun r5 =>
      (parquetlaw02_Of.f N a3 ((a4.drop 0).take ((mn2 (a4.length : Int) 40).toNat))).bind fun r6 =>
      (parquetlaw02_Made.f N r5.1 r5.2).bind fun r7 =>
      (parquetlaw02_Made.f N r6.1 r6.2).bind fun r8 =>
      bif !r7.2.2 then
        some false
      else
      bif !r8.2.2 then
        some false
      else
      (zint_Gcd.f N r7.1 r7.2.1 r8.1 r8.2.1).bind fun r9 =>
      (parquetref02_Gcd.f N r5.1 r5.2 r6.1 r6.2).bind fun r10 =>
      (nat_Nat_Text.f N r9.1).bind fun r11 =>
      (parquetref01_Text.f N r10.1).bind fun r12 =>
      bif r11.toList == r12.toList then
        (parquetlaw02_is.f N r9.2.1 r9.2.2.1 0 r10.2.1 r10.2.2.1).bind fun r13 =>
        bif r13 then
          (parquetlaw02_is.f N r9.2.2.2.1 r9.2.2.2.2 0 r10.2.2.2.1 r10.2.2.2.2).bind fun r14 =>
          bif r14 then
            (parquetlaw02_wakes.f N).bind fun r15 =>
            some r15
          else
          some false
        else
        some false
      else
      some false
    else none
  else none
noncomputable def parquetlaw02_ZintGcds.body : Code := (Try.f8.body).getD .skip
noncomputable def parquetlaw02_ZintGcds.ty : List (Nat × TI) := [(25, ty25), (27, ty27), (33, ty33), (39, ty39), (41, ty41), (87, ty87)]
noncomputable def parquetlaw02_ZintGcds.E (N : Nat) : Env := { ty := lookN parquetlaw02_ZintGcds.ty, tab := lookN [(16, parquetlaw02_Of.ent N), (17, parquetlaw02_Made.ent N), (47, zint_Gcd.ent N), (48, parquetref02_Gcd.ent N), (36, nat_Nat_Text.ent N), (37, parquetref01_Text.ent N), (23, parquetlaw02_is.ent N), (11, parquetlaw02_wakes.ent N)], hint := lookN [], cut := lookN [], N := N, res := [.tmp 4], rsh := [.any], nb := 0, ntmps := 85, own := false }
noncomputable def parquetlaw02_ZintGcds.dec (v : V) (bs : List Blk) : Option (Bool) := match v, bs with
  | .c (.bool z0), [] => some z0
  | _, _ => none
set_option maxRecDepth 100000 in
theorem parquetlaw02_ZintGcds.f_eq (N : Nat) (a1 : Bool) (a2 : List Int) (a3 : Bool) (a4 : List Int) :
    evFun (parquetlaw02_ZintGcds.E N) parquetlaw02_ZintGcds.body [.agg [.c (.bool a1), .il .u16 1 a2], .agg [.c (.bool a3), .il .u16 1 a4]] [] parquetlaw02_ZintGcds.dec = parquetlaw02_ZintGcds.f N a1 a2 a3 a4 := by kernel_rfl
noncomputable def parquetlaw02_ZintGcds.ent (N : Nat) : Entry := { A := Bool, fresh := 0, imm := [true, true], dec := fun args bs => match freezeL 0 (fun _ => .dead) [.recd [.any, .il .u16 1], .recd [.any, .il .u16 1]] args, bs with
  | some [.agg [.c (.bool a1), .il .u16 1 a2], .agg [.c (.bool a3), .il .u16 1 a4]], [] => some (parquetlaw02_ZintGcds.f N a1 a2 a3 a4, fun r => .one (.c (.bool r)) [])
  | _, _ => none }
theorem parquetlaw02_ZintGcds.env (N : Nat) : EnvOK Try.prog (parquetlaw02_ZintGcds.E N) := ⟨(TyOK.cons ty25_ok (TyOK.cons ty27_ok (TyOK.cons ty33_ok (TyOK.cons ty39_ok (TyOK.cons ty41_ok (TyOK.cons ty87_ok TyOK.nil)))))), (TabOK.cons (parquetlaw02_Of.ent_ok N) (TabOK.cons (parquetlaw02_Made.ent_ok N) (TabOK.cons (zint_Gcd.ent_ok N) (TabOK.cons (parquetref02_Gcd.ent_ok N) (TabOK.cons (nat_Nat_Text.ent_ok N) (TabOK.cons (parquetref01_Text.ent_ok N) (TabOK.cons (parquetlaw02_is.ent_ok N) (TabOK.cons (parquetlaw02_wakes.ent_ok N) TabOK.nil))))))))⟩
theorem parquetlaw02_ZintGcds.res_eq (N : Nat) : (parquetlaw02_ZintGcds.E N).res = Try.f8.results.toList := by kernel_rfl
theorem parquetlaw02_ZintGcds.spec (N : Nat) (a1 : Bool) (a2 : List Int) (a3 : Bool) (a4 : List Int) (r : Bool) (h : parquetlaw02_ZintGcds.f N a1 a2 a3 a4 = some r) : FnSpec Try.prog 8 [.agg [.c (.bool a1), .il .u16 1 a2], .agg [.c (.bool a3), .il .u16 1 a4]] [] (.c (.bool r)) ([]) := by
  rw [← parquetlaw02_ZintGcds.f_eq] at h
  obtain ⟨v, bs', h1, h2⟩ := evFun_ok (parquetlaw02_ZintGcds.env N) Try_mixed Try.func8 (by kernel_rfl : Try.f8.body = some parquetlaw02_ZintGcds.body) (by kernel_rfl) (parquetlaw02_ZintGcds.res_eq N) (by kernel_rfl) (by kernel_rfl) (Nat.le_of_ble_eq_true (by kernel_rfl)) (AllCut.of (l := []) (by kernel_rfl) AllCut.nil) h
  unfold parquetlaw02_ZintGcds.dec at h1; split at h1
  · cases h1; exact h2
  · cases h1
theorem parquetlaw02_ZintGcds.ent_ok (N : Nat) : TabOK1 Try.prog 8 (parquetlaw02_ZintGcds.ent N) := by
  intro args bs a enc h
  simp only [parquetlaw02_ZintGcds.ent] at h
  split at h
  · rename_i hz; have h0 := Option.some.inj h; have h1 := congrArg Prod.fst h0; have h2 := congrArg Prod.snd h0; dsimp only at h1 h2; subst h2; exact FnSpec.of_freeze hz (parquetlaw02_ZintGcds.spec N _ _ _ _ a h1)
  · cases h
/-! parquet/parquetlaw02.ZintBack: function 9 -/
noncomputable def parquetlaw02_ZintBack.f (N : Nat) (a1 : Bool) (a2 : List Int) (a3 : Bool) (a4 : List Int) (a5 : Bool) (a6 : List Int) : Option (Bool) :=
  (parquetlaw02_three.f N a1 a2 a3 a4 a5 a6 60).bind fun r7 =>
  bif !r7.2.2.2.2.2.2 then
    some false
  else
  (zint_Gcd.f N r7.1 r7.2.1 r7.2.2.1 r7.2.2.2.1).bind fun r8 =>
  (zint_Make.f N false r8.1).bind fun r9 =>
  (zint_Mul.f N r7.1 r7.2.1 r8.2.1 r8.2.2.1).bind fun r10 =>
  (zint_Mul.f N r7.2.2.1 r7.2.2.2.1 r8.2.2.2.1 r8.2.2.2.2).bind fun r11 =>
  (zint_Add.f N r10.1 r10.2.1 r11.1 r11.2.1).bind fun r12 =>
  bif r12.2.2 != 0 then
    some false
  else
  (zint_Cmp.f N r12.1 r12.2.1 r9.1 r9.2).bind fun r13 =>
  bif r13 != 0 then
    some false
  else
  (zint_Mul.f N r7.1 r7.2.1 r7.2.2.2.2.1 r7.2.2.2.2.2.1).bind fun r14 =>
  (zint_Mul.f N r7.2.2.1 r7.2.2.2.1 r7.2.2.2.2.1 r7.2.2.2.2.2.1).bind fun r15 =>
  (zint_Gcd.f N r14.1 r14.2.1 r15.1 r15.2.1).bind fun r16 =>
  (zint_Int_Abs.f N r7.2.2.2.2.1 r7.2.2.2.2.2.1).bind fun r17 =>
  (zint_Make.f N false r17).bind fun r18 =>
  (zint_Mul.f N r9.1 r9.2 r18.1 r18.2).bind fun r19 =>
  (zint_Make.f N false r16.1).bind fun r20 =>
  (zint_Cmp.f N r20.1 r20.2 r19.1 r19.2.1).bind fun r21 =>
  bif r21 != 0 then
    some false
  else
  (zint_Int_Sign.f N r7.2.2.1 r7.2.2.2.1).bind fun r22 =>
  bif r22 == 0 then
    (parquetlaw02_wakes.f N).bind fun r23 =>
    some r23
  else
  (zint_Quo.f N r7.1 r7.2.1 r7.2.2.1 r7.2.2.2.1).bind fun r24 =>
  (zint_Mul.f N r24.1 r24.2.1 r7.2.2.1 r7.2.2.2.1).bind fun r25 =>
  (zint_Add.f N r25.1 r25.2.1 r24.2.2.1 r24.2.2.2.1).bind fun r26 =>
  (zint_Int_Abs.f N r7.2.2.1 r7.2.2.2.1).bind fun r27 =>
  (zint_Make.f N false r27).bind fun r28 =>
  (zint_Exact.f N r28.1 r28.2 r9.1 r9.2).bind fun r29 =>
  (zint_Exact.f N r7.1 r7.2.1 r9.1 r9.2).bind fun r30 =>
  bif r24.2.2.2.2 == 0 then
    bif r26.2.2 == 0 then
      (zint_Cmp.f N r26.1 r26.2.1 r7.1 r7.2.1).bind fun r31 =>
      bif r31 == 0 then
        (zint_Int_Sign.f N r24.2.2.1 r24.2.2.2.1).bind fun r32 =>
        bif decide (r32 ≥ 0) then
          (zint_Cmp.f N r24.2.2.1 r24.2.2.2.1 r28.1 r28.2).bind fun r33 =>
          bif decide (r33 < 0) then
            bif r29.2.2 == 0 then
              bif r30.2.2 == 0 then
                (zint_Int_Sign.f N r8.2.1 r8.2.2.1).bind fun r34 =>
                bif decide (r34 ≥ 0) then
                  (zint_Cmp.f N r8.2.1 r8.2.2.1 r29.1 r29.2.1).bind fun r35 =>
                  bif decide (r35 < 0) then
                    (parquetlaw02_wakes.f N).bind fun r36 =>
                    some r36
                  else
                  some false
                else
                some false
              else
              some false
            else
            some false
          else
          some false
        else
        some false
      else
      some false
    else
    some false
  else
  some false
noncomputable def parquetlaw02_ZintBack.body : Code := (Try.f9.body).getD .skip
noncomputable def parquetlaw02_ZintBack.ty : List (Nat × TI) := [(25, ty25), (27, ty27), (41, ty41)]
noncomputable def parquetlaw02_ZintBack.E (N : Nat) : Env := { ty := lookN parquetlaw02_ZintBack.ty, tab := lookN [(46, parquetlaw02_three.ent N), (47, zint_Gcd.ent N), (26, zint_Make.ent N), (40, zint_Mul.ent N), (38, zint_Add.ent N), (33, zint_Cmp.ent N), (35, zint_Int_Abs.ent N), (21, zint_Int_Sign.ent N), (11, parquetlaw02_wakes.ent N), (18, zint_Quo.ent N), (19, zint_Exact.ent N)], hint := lookN [], cut := lookN [], N := N, res := [.tmp 6], rsh := [.any], nb := 0, ntmps := 201, own := false }
noncomputable def parquetlaw02_ZintBack.dec (v : V) (bs : List Blk) : Option (Bool) := match v, bs with
  | .c (.bool z0), [] => some z0
  | _, _ => none
set_option maxRecDepth 100000 in
theorem parquetlaw02_ZintBack.f_eq (N : Nat) (a1 : Bool) (a2 : List Int) (a3 : Bool) (a4 : List Int) (a5 : Bool) (a6 : List Int) :
    evFun (parquetlaw02_ZintBack.E N) parquetlaw02_ZintBack.body [.agg [.c (.bool a1), .il .u16 1 a2], .agg [.c (.bool a3), .il .u16 1 a4], .agg [.c (.bool a5), .il .u16 1 a6]] [] parquetlaw02_ZintBack.dec = parquetlaw02_ZintBack.f N a1 a2 a3 a4 a5 a6 := by kernel_rfl
noncomputable def parquetlaw02_ZintBack.ent (N : Nat) : Entry := { A := Bool, fresh := 0, imm := [true, true, true], dec := fun args bs => match freezeL 0 (fun _ => .dead) [.recd [.any, .il .u16 1], .recd [.any, .il .u16 1], .recd [.any, .il .u16 1]] args, bs with
  | some [.agg [.c (.bool a1), .il .u16 1 a2], .agg [.c (.bool a3), .il .u16 1 a4], .agg [.c (.bool a5), .il .u16 1 a6]], [] => some (parquetlaw02_ZintBack.f N a1 a2 a3 a4 a5 a6, fun r => .one (.c (.bool r)) [])
  | _, _ => none }
theorem parquetlaw02_ZintBack.env (N : Nat) : EnvOK Try.prog (parquetlaw02_ZintBack.E N) := ⟨(TyOK.cons ty25_ok (TyOK.cons ty27_ok (TyOK.cons ty41_ok TyOK.nil))), (TabOK.cons (parquetlaw02_three.ent_ok N) (TabOK.cons (zint_Gcd.ent_ok N) (TabOK.cons (zint_Make.ent_ok N) (TabOK.cons (zint_Mul.ent_ok N) (TabOK.cons (zint_Add.ent_ok N) (TabOK.cons (zint_Cmp.ent_ok N) (TabOK.cons (zint_Int_Abs.ent_ok N) (TabOK.cons (zint_Int_Sign.ent_ok N) (TabOK.cons (parquetlaw02_wakes.ent_ok N) (TabOK.cons (zint_Quo.ent_ok N) (TabOK.cons (zint_Exact.ent_ok N) TabOK.nil)))))))))))⟩
theorem parquetlaw02_ZintBack.res_eq (N : Nat) : (parquetlaw02_ZintBack.E N).res = Try.f9.results.toList := by kernel_rfl
theorem parquetlaw02_ZintBack.spec (N : Nat) (a1 : Bool) (a2 : List Int) (a3 : Bool) (a4 : List Int) (a5 : Bool) (a6 : List Int) (r : Bool) (h : parquetlaw02_ZintBack.f N a1 a2 a3 a4 a5 a6 = some r) : FnSpec Try.prog 9 [.agg [.c (.bool a1), .il .u16 1 a2], .agg [.c (.bool a3), .il .u16 1 a4], .agg [.c (.bool a5), .il .u16 1 a6]] [] (.c (.bool r)) ([]) := by
  rw [← parquetlaw02_ZintBack.f_eq] at h
  obtain ⟨v, bs', h1, h2⟩ := evFun_ok (parquetlaw02_ZintBack.env N) Try_mixed Try.func9 (by kernel_rfl : Try.f9.body = some parquetlaw02_ZintBack.body) (by kernel_rfl) (parquetlaw02_ZintBack.res_eq N) (by kernel_rfl) (by kernel_rfl) (Nat.le_of_ble_eq_true (by kernel_rfl)) (AllCut.of (l := []) (by kernel_rfl) AllCut.nil) h
  unfold parquetlaw02_ZintBack.dec at h1; split at h1
  · cases h1; exact h2
  · cases h1
theorem parquetlaw02_ZintBack.ent_ok (N : Nat) : TabOK1 Try.prog 9 (parquetlaw02_ZintBack.ent N) := by
  intro args bs a enc h
  simp only [parquetlaw02_ZintBack.ent] at h
  split at h
  · rename_i hz; have h0 := Option.some.inj h; have h1 := congrArg Prod.fst h0; have h2 := congrArg Prod.snd h0; dsimp only at h1 h2; subst h2; exact FnSpec.of_freeze hz (parquetlaw02_ZintBack.spec N _ _ _ _ _ _ a h1)
  · cases h
end Go.Proofs.Ytndhfopllmbjhaa
