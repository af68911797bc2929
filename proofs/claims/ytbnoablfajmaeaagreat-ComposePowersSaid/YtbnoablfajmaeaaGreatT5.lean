-- The seat's functions as the evaluator goes through them: typed models and their laws.
import Derived.Test.YtbnoablfajmaeaaGreatProg
import Derived.Test.YtbnoablfajmaeaaGreatEvF
import Derived.Test.YtbnoablfajmaeaaGreatT4
import Derived.KernelRfl
namespace Go.Proofs.YtbnoablfajmaeaaGreat
open Go.Proofs.YtbnoablfajmaeaaGreat.Ev
set_option linter.unusedVariables false
open Go

noncomputable def ty53 : TI := ⟨.struct [(4, 0), (51, 1)], 2, 32, [.bool false, .slice none 0 0]⟩
theorem ty53_ok : TyOK1 Tryz.prog 53 ty53 := tyok_of (by kernel_rfl) (by kernel_rfl) (by kernel_rfl) (by kernel_rfl) (by kernel_rfl) (by kernel_rfl) (by kernel_rfl) (tk_struct Tryz.underlying53 (by kernel_rfl) (by kernel_rfl)) (by kernel_rfl)
/-! parquet/parquetref02.Make: function 53 -/
noncomputable def parquetref02_Make.f (N : Nat) (a1 : Bool) (a2 : List Int) : Option (Bool × List Int) :=
  (parquetref01_Bits.f N a2).bind fun r3 =>
  bif r3 == 0 then
    some (false, [])
  else
  some (a1, a2)
noncomputable def parquetref02_Make.body : Code := (Tryz.f53.body).getD .skip
noncomputable def parquetref02_Make.ty : List (Nat × TI) := [(4, ty4), (51, ty51), (53, ty53)]
noncomputable def parquetref02_Make.E (N : Nat) : Env := { ty := lookN parquetref02_Make.ty, tab := lookN [(78, parquetref01_Bits.ent N)], hint := lookN [], cut := lookN [], N := N, res := [.cell 4 53], rsh := [.recd [.any, .il .u32 1]], nb := 0, ntmps := 12, own := false }
noncomputable def parquetref02_Make.dec (v : V) (bs : List Blk) : Option (Bool × List Int) := match v, bs with
  | .agg [.c (.bool z0), .il .u32 1 z1], [] => some (z0, z1)
  | _, _ => none
set_option maxRecDepth 100000 in
theorem parquetref02_Make.f_eq (N : Nat) (a1 : Bool) (a2 : List Int) :
    evFun (parquetref02_Make.E N) parquetref02_Make.body [.c (.bool a1), .il .u32 1 a2] [] parquetref02_Make.dec = parquetref02_Make.f N a1 a2 := by kernel_rfl
noncomputable def parquetref02_Make.ent (N : Nat) : Entry := { A := Bool × List Int, fresh := 0, imm := [true, true], dec := fun args bs => match freezeL 0 (fun _ => .dead) [.any, .il .u32 1] args, bs with
  | some [.c (.bool a1), .il .u32 1 a2], [] => some (parquetref02_Make.f N a1 a2, fun r => .one (.agg [.c (.bool r.1), .il .u32 1 r.2]) [])
  | _, _ => none }
theorem parquetref02_Make.env (N : Nat) : EnvOK Tryz.prog (parquetref02_Make.E N) := ⟨(TyOK.cons ty4_ok (TyOK.cons ty51_ok (TyOK.cons ty53_ok TyOK.nil))), (TabOK.cons (parquetref01_Bits.ent_ok N) TabOK.nil)⟩
theorem parquetref02_Make.res_eq (N : Nat) : (parquetref02_Make.E N).res = Tryz.f53.results.toList := by kernel_rfl
theorem parquetref02_Make.spec (N : Nat) (a1 : Bool) (a2 : List Int) (r : Bool × List Int) (h : parquetref02_Make.f N a1 a2 = some r) : FnSpec Tryz.prog 53 [.c (.bool a1), .il .u32 1 a2] [] (.agg [.c (.bool r.1), .il .u32 1 r.2]) ([]) := by
  rw [← parquetref02_Make.f_eq] at h
  obtain ⟨v, bs', h1, h2⟩ := evFun_ok (parquetref02_Make.env N) Tryz_mixed Tryz.func53 (by kernel_rfl : Tryz.f53.body = some parquetref02_Make.body) (by kernel_rfl) (parquetref02_Make.res_eq N) (by kernel_rfl) (by kernel_rfl) (Nat.le_of_ble_eq_true (by kernel_rfl)) (AllCut.of (l := []) (by kernel_rfl) AllCut.nil) h
  unfold parquetref02_Make.dec at h1; split at h1
  · cases h1; exact h2
  · cases h1
theorem parquetref02_Make.ent_ok (N : Nat) : TabOK1 Tryz.prog 53 (parquetref02_Make.ent N) := by
  intro args bs a enc h
  simp only [parquetref02_Make.ent] at h
  split at h
  · rename_i hz; have h0 := Option.some.inj h; have h1 := congrArg Prod.fst h0; have h2 := congrArg Prod.snd h0; dsimp only at h1 h2; subst h2; exact FnSpec.of_freeze hz (parquetref02_Make.spec N _ _ a h1)
  · cases h
/-! parquet/parquetref02.Of: function 36 -/
noncomputable def parquetref02_Of.f (N : Nat) (a1 : Int) : Option (Bool × List Int) :=
  bif decide (a1 < 0) then
    (parquetref01_Of.f N (wu64 (0 - (wu64 a1)))).bind fun r2 =>
    (parquetref02_Make.f N true r2).bind fun r3 =>
    some (r3.1, r3.2)
  else
  (parquetref01_Of.f N (wu64 a1)).bind fun r4 =>
  (parquetref02_Make.f N false r4).bind fun r5 =>
  some (r5.1, r5.2)
noncomputable def parquetref02_Of.body : Code := (Tryz.f36.body).getD .skip
noncomputable def parquetref02_Of.ty : List (Nat × TI) := [(2, ty2), (41, ty41), (53, ty53)]
noncomputable def parquetref02_Of.E (N : Nat) : Env := { ty := lookN parquetref02_Of.ty, tab := lookN [(57, parquetref01_Of.ent N), (53, parquetref02_Make.ent N)], hint := lookN [], cut := lookN [], N := N, res := [.cell 2 53], rsh := [.recd [.any, .il .u32 1]], nb := 0, ntmps := 14, own := false }
noncomputable def parquetref02_Of.dec (v : V) (bs : List Blk) : Option (Bool × List Int) := match v, bs with
  | .agg [.c (.bool z0), .il .u32 1 z1], [] => some (z0, z1)
  | _, _ => none
set_option maxRecDepth 100000 in
theorem parquetref02_Of.f_eq (N : Nat) (a1 : Int) :
    evFun (parquetref02_Of.E N) parquetref02_Of.body [.c (.int .i64 a1)] [] parquetref02_Of.dec = parquetref02_Of.f N a1 := by kernel_rfl
noncomputable def parquetref02_Of.ent (N : Nat) : Entry := { A := Bool × List Int, fresh := 0, imm := [true], dec := fun args bs => match freezeL 0 (fun _ => .dead) [.any] args, bs with
  | some [.c (.int .i64 a1)], [] => some (parquetref02_Of.f N a1, fun r => .one (.agg [.c (.bool r.1), .il .u32 1 r.2]) [])
  | _, _ => none }
theorem parquetref02_Of.env (N : Nat) : EnvOK Tryz.prog (parquetref02_Of.E N) := ⟨(TyOK.cons ty2_ok (TyOK.cons ty41_ok (TyOK.cons ty53_ok TyOK.nil))), (TabOK.cons (parquetref01_Of.ent_ok N) (TabOK.cons (parquetref02_Make.ent_ok N) TabOK.nil))⟩
theorem parquetref02_Of.res_eq (N : Nat) : (parquetref02_Of.E N).res = Tryz.f36.results.toList := by kernel_rfl
theorem parquetref02_Of.spec (N : Nat) (a1 : Int) (r : Bool × List Int) (h : parquetref02_Of.f N a1 = some r) : FnSpec Tryz.prog 36 [.c (.int .i64 a1)] [] (.agg [.c (.bool r.1), .il .u32 1 r.2]) ([]) := by
  rw [← parquetref02_Of.f_eq] at h
  obtain ⟨v, bs', h1, h2⟩ := evFun_ok (parquetref02_Of.env N) Tryz_mixed Tryz.func36 (by kernel_rfl : Tryz.f36.body = some parquetref02_Of.body) (by kernel_rfl) (parquetref02_Of.res_eq N) (by kernel_rfl) (by kernel_rfl) (Nat.le_of_ble_eq_true (by kernel_rfl)) (AllCut.of (l := []) (by kernel_rfl) AllCut.nil) h
  unfold parquetref02_Of.dec at h1; split at h1
  · cases h1; exact h2
  · cases h1
theorem parquetref02_Of.ent_ok (N : Nat) : TabOK1 Tryz.prog 36 (parquetref02_Of.ent N) := by
  intro args bs a enc h
  simp only [parquetref02_Of.ent] at h
  split at h
  · rename_i hz; have h0 := Option.some.inj h; have h1 := congrArg Prod.fst h0; have h2 := congrArg Prod.snd h0; dsimp only at h1 h2; subst h2; exact FnSpec.of_freeze hz (parquetref02_Of.spec N _ a h1)
  · cases h
/-! parquet/parquetref02.Sign: function 62 -/
noncomputable def parquetref02_Sign.f (N : Nat) (a1 : Bool) (a2 : List Int) : Option (Int) :=
  (parquetref01_Bits.f N a2).bind fun r3 =>
  bif r3 == 0 then
    some 0
  else
  bif a1 then
    some (-1)
  else
  some 1
noncomputable def parquetref02_Sign.body : Code := (Tryz.f62.body).getD .skip
noncomputable def parquetref02_Sign.ty : List (Nat × TI) := [(4, ty4), (51, ty51), (53, ty53)]
noncomputable def parquetref02_Sign.E (N : Nat) : Env := { ty := lookN parquetref02_Sign.ty, tab := lookN [(78, parquetref01_Bits.ent N)], hint := lookN [], cut := lookN [], N := N, res := [.tmp 2], rsh := [.any], nb := 0, ntmps := 9, own := false }
noncomputable def parquetref02_Sign.dec (v : V) (bs : List Blk) : Option (Int) := match v, bs with
  | .c (.int .i64 z0), [] => some z0
  | _, _ => none
set_option maxRecDepth 100000 in
theorem parquetref02_Sign.f_eq (N : Nat) (a1 : Bool) (a2 : List Int) :
    evFun (parquetref02_Sign.E N) parquetref02_Sign.body [.agg [.c (.bool a1), .il .u32 1 a2]] [] parquetref02_Sign.dec = parquetref02_Sign.f N a1 a2 := by kernel_rfl
noncomputable def parquetref02_Sign.ent (N : Nat) : Entry := { A := Int, fresh := 0, imm := [true], dec := fun args bs => match freezeL 0 (fun _ => .dead) [.recd [.any, .il .u32 1]] args, bs with
  | some [.agg [.c (.bool a1), .il .u32 1 a2]], [] => some (parquetref02_Sign.f N a1 a2, fun r => .one (.c (.int .i64 r)) [])
  | _, _ => none }
theorem parquetref02_Sign.env (N : Nat) : EnvOK Tryz.prog (parquetref02_Sign.E N) := ⟨(TyOK.cons ty4_ok (TyOK.cons ty51_ok (TyOK.cons ty53_ok TyOK.nil))), (TabOK.cons (parquetref01_Bits.ent_ok N) TabOK.nil)⟩
theorem parquetref02_Sign.res_eq (N : Nat) : (parquetref02_Sign.E N).res = Tryz.f62.results.toList := by kernel_rfl
theorem parquetref02_Sign.spec (N : Nat) (a1 : Bool) (a2 : List Int) (r : Int) (h : parquetref02_Sign.f N a1 a2 = some r) : FnSpec Tryz.prog 62 [.agg [.c (.bool a1), .il .u32 1 a2]] [] (.c (.int .i64 r)) ([]) := by
  rw [← parquetref02_Sign.f_eq] at h
  obtain ⟨v, bs', h1, h2⟩ := evFun_ok (parquetref02_Sign.env N) Tryz_mixed Tryz.func62 (by kernel_rfl : Tryz.f62.body = some parquetref02_Sign.body) (by kernel_rfl) (parquetref02_Sign.res_eq N) (by kernel_rfl) (by kernel_rfl) (Nat.le_of_ble_eq_true (by kernel_rfl)) (AllCut.of (l := []) (by kernel_rfl) AllCut.nil) h
  unfold parquetref02_Sign.dec at h1; split at h1
  · cases h1; exact h2
  · cases h1
theorem parquetref02_Sign.ent_ok (N : Nat) : TabOK1 Tryz.prog 62 (parquetref02_Sign.ent N) := by
  intro args bs a enc h
  simp only [parquetref02_Sign.ent] at h
  split at h
  · rename_i hz; have h0 := Option.some.inj h; have h1 := congrArg Prod.fst h0; have h2 := congrArg Prod.snd h0; dsimp only at h1 h2; subst h2; exact FnSpec.of_freeze hz (parquetref02_Sign.spec N _ _ a h1)
  · cases h
/-! parquet/parquetref02.Zero: function 73 -/
noncomputable def parquetref02_Zero.f (N : Nat) (a1 : Bool) (a2 : List Int) : Option (Bool) :=
  (parquetref02_Sign.f N a1 a2).bind fun r3 =>
  some (r3 == 0)
noncomputable def parquetref02_Zero.body : Code := (Tryz.f73.body).getD .skip
noncomputable def parquetref02_Zero.ty : List (Nat × TI) := [(53, ty53)]
noncomputable def parquetref02_Zero.E (N : Nat) : Env := { ty := lookN parquetref02_Zero.ty, tab := lookN [(62, parquetref02_Sign.ent N)], hint := lookN [], cut := lookN [], N := N, res := [.tmp 2], rsh := [.any], nb := 0, ntmps := 6, own := false }
noncomputable def parquetref02_Zero.dec (v : V) (bs : List Blk) : Option (Bool) := match v, bs with
  | .c (.bool z0), [] => some z0
  | _, _ => none
set_option maxRecDepth 100000 in
theorem parquetref02_Zero.f_eq (N : Nat) (a1 : Bool) (a2 : List Int) :
    evFun (parquetref02_Zero.E N) parquetref02_Zero.body [.agg [.c (.bool a1), .il .u32 1 a2]] [] parquetref02_Zero.dec = parquetref02_Zero.f N a1 a2 := by kernel_rfl
noncomputable def parquetref02_Zero.ent (N : Nat) : Entry := { A := Bool, fresh := 0, imm := [true], dec := fun args bs => match freezeL 0 (fun _ => .dead) [.recd [.any, .il .u32 1]] args, bs with
  | some [.agg [.c (.bool a1), .il .u32 1 a2]], [] => some (parquetref02_Zero.f N a1 a2, fun r => .one (.c (.bool r)) [])
  | _, _ => none }
theorem parquetref02_Zero.env (N : Nat) : EnvOK Tryz.prog (parquetref02_Zero.E N) := ⟨(TyOK.cons ty53_ok TyOK.nil), (TabOK.cons (parquetref02_Sign.ent_ok N) TabOK.nil)⟩
theorem parquetref02_Zero.res_eq (N : Nat) : (parquetref02_Zero.E N).res = Tryz.f73.results.toList := by kernel_rfl
theorem parquetref02_Zero.spec (N : Nat) (a1 : Bool) (a2 : List Int) (r : Bool) (h : parquetref02_Zero.f N a1 a2 = some r) : FnSpec Tryz.prog 73 [.agg [.c (.bool a1), .il .u32 1 a2]] [] (.c (.bool r)) ([]) := by
  rw [← parquetref02_Zero.f_eq] at h
  obtain ⟨v, bs', h1, h2⟩ := evFun_ok (parquetref02_Zero.env N) Tryz_mixed Tryz.func73 (by kernel_rfl : Tryz.f73.body = some parquetref02_Zero.body) (by kernel_rfl) (parquetref02_Zero.res_eq N) (by kernel_rfl) (by kernel_rfl) (Nat.le_of_ble_eq_true (by kernel_rfl)) (AllCut.of (l := []) (by kernel_rfl) AllCut.nil) h
  unfold parquetref02_Zero.dec at h1; split at h1
  · cases h1; exact h2
  · cases h1
theorem parquetref02_Zero.ent_ok (N : Nat) : TabOK1 Tryz.prog 73 (parquetref02_Zero.ent N) := by
  intro args bs a enc h
  simp only [parquetref02_Zero.ent] at h
  split at h
  · rename_i hz; have h0 := Option.some.inj h; have h1 := congrArg Prod.fst h0; have h2 := congrArg Prod.snd h0; dsimp only at h1 h2; subst h2; exact FnSpec.of_freeze hz (parquetref02_Zero.spec N _ _ a h1)
  · cases h
/-! parquet/parquetref02.Int64: function 50 -/
noncomputable def parquetref02_Int64.f (N : Nat) (a1 : Bool) (a2 : List Int) : Option (Int × Bool) :=
  (parquetref01_Small.f N a2).bind fun r3 =>
  bif !r3.2 then
    some (0, false)
  else
  bif decide (r3.1 > 9223372036854775808) then
    some (0, false)
  else
  bif r3.1 == 9223372036854775808 then
    bif !a1 then
      some (0, false)
    else
    (parquetref02_Sign.f N a1 a2).bind fun r4 =>
    bif decide (r4 < 0) then
      some (wi64 (wu64 (0 - r3.1)), true)
    else
    some (wi64 r3.1, true)
  else
  (parquetref02_Sign.f N a1 a2).bind fun r5 =>
  bif decide (r5 < 0) then
    some (wi64 (wu64 (0 - r3.1)), true)
  else
  some (wi64 r3.1, true)
noncomputable def parquetref02_Int64.body : Code := (Tryz.f50.body).getD .skip
noncomputable def parquetref02_Int64.ty : List (Nat × TI) := [(2, ty2), (4, ty4), (41, ty41), (51, ty51), (53, ty53)]
noncomputable def parquetref02_Int64.E (N : Nat) : Env := { ty := lookN parquetref02_Int64.ty, tab := lookN [(76, parquetref01_Small.ent N), (62, parquetref02_Sign.ent N)], hint := lookN [], cut := lookN [], N := N, res := [.tmp 2, .tmp 3], rsh := [.any, .any], nb := 0, ntmps := 35, own := false }
noncomputable def parquetref02_Int64.dec (v : V) (bs : List Blk) : Option (Int × Bool) := match v, bs with
  | .tup [.c (.int .i64 z0), .c (.bool z1)], [] => some (z0, z1)
  | _, _ => none
set_option maxRecDepth 100000 in
theorem parquetref02_Int64.f_eq (N : Nat) (a1 : Bool) (a2 : List Int) :
    evFun (parquetref02_Int64.E N) parquetref02_Int64.body [.agg [.c (.bool a1), .il .u32 1 a2]] [] parquetref02_Int64.dec = parquetref02_Int64.f N a1 a2 := by kernel_rfl
noncomputable def parquetref02_Int64.ent (N : Nat) : Entry := { A := Int × Bool, fresh := 0, imm := [true], dec := fun args bs => match freezeL 0 (fun _ => .dead) [.recd [.any, .il .u32 1]] args, bs with
  | some [.agg [.c (.bool a1), .il .u32 1 a2]], [] => some (parquetref02_Int64.f N a1 a2, fun r => .one (.tup [.c (.int .i64 r.1), .c (.bool r.2)]) [])
  | _, _ => none }
theorem parquetref02_Int64.env (N : Nat) : EnvOK Tryz.prog (parquetref02_Int64.E N) := ⟨(TyOK.cons ty2_ok (TyOK.cons ty4_ok (TyOK.cons ty41_ok (TyOK.cons ty51_ok (TyOK.cons ty53_ok TyOK.nil))))), (TabOK.cons (parquetref01_Small.ent_ok N) (TabOK.cons (parquetref02_Sign.ent_ok N) TabOK.nil))⟩
theorem parquetref02_Int64.res_eq (N : Nat) : (parquetref02_Int64.E N).res = Tryz.f50.results.toList := by kernel_rfl
theorem parquetref02_Int64.spec (N : Nat) (a1 : Bool) (a2 : List Int) (r : Int × Bool) (h : parquetref02_Int64.f N a1 a2 = some r) : FnSpec Tryz.prog 50 [.agg [.c (.bool a1), .il .u32 1 a2]] [] (.tup [.c (.int .i64 r.1), .c (.bool r.2)]) ([]) := by
  rw [← parquetref02_Int64.f_eq] at h
  obtain ⟨v, bs', h1, h2⟩ := evFun_ok (parquetref02_Int64.env N) Tryz_mixed Tryz.func50 (by kernel_rfl : Tryz.f50.body = some parquetref02_Int64.body) (by kernel_rfl) (parquetref02_Int64.res_eq N) (by kernel_rfl) (by kernel_rfl) (Nat.le_of_ble_eq_true (by kernel_rfl)) (AllCut.of (l := []) (by kernel_rfl) AllCut.nil) h
  unfold parquetref02_Int64.dec at h1; split at h1
  · cases h1; exact h2
  · cases h1
theorem parquetref02_Int64.ent_ok (N : Nat) : TabOK1 Tryz.prog 50 (parquetref02_Int64.ent N) := by
  intro args bs a enc h
  simp only [parquetref02_Int64.ent] at h
  split at h
  · rename_i hz; have h0 := Option.some.inj h; have h1 := congrArg Prod.fst h0; have h2 := congrArg Prod.snd h0; dsimp only at h1 h2; subst h2; exact FnSpec.of_freeze hz (parquetref02_Int64.spec N _ _ a h1)
  · cases h
/-! parquet/parquetref02.Cmp: function 60 -/
noncomputable def parquetref02_Cmp.f (N : Nat) (a1 : Bool) (a2 : List Int) (a3 : Bool) (a4 : List Int) : Option (Int) :=
  (parquetref02_Sign.f N a1 a2).bind fun r5 =>
  (parquetref02_Sign.f N a3 a4).bind fun r6 =>
  bif decide (r5 < r6) then
    some (-1)
  else
  bif decide (r5 > r6) then
    some 1
  else
  bif decide (r5 < 0) then
    (parquetref01_Cmp.f N a4 a2).bind fun r7 =>
    some r7
  else
  (parquetref01_Cmp.f N a2 a4).bind fun r8 =>
  some r8
noncomputable def parquetref02_Cmp.body : Code := (Tryz.f60.body).getD .skip
noncomputable def parquetref02_Cmp.ty : List (Nat × TI) := [(51, ty51), (53, ty53)]
noncomputable def parquetref02_Cmp.E (N : Nat) : Env := { ty := lookN parquetref02_Cmp.ty, tab := lookN [(62, parquetref02_Sign.ent N), (55, parquetref01_Cmp.ent N)], hint := lookN [], cut := lookN [], N := N, res := [.tmp 4], rsh := [.any], nb := 0, ntmps := 32, own := false }
noncomputable def parquetref02_Cmp.dec (v : V) (bs : List Blk) : Option (Int) := match v, bs with
  | .c (.int .i64 z0), [] => some z0
  | _, _ => none
set_option maxRecDepth 100000 in
theorem parquetref02_Cmp.f_eq (N : Nat) (a1 : Bool) (a2 : List Int) (a3 : Bool) (a4 : List Int) :
    evFun (parquetref02_Cmp.E N) parquetref02_Cmp.body [.agg [.c (.bool a1), .il .u32 1 a2], .agg [.c (.bool a3), .il .u32 1 a4]] [] parquetref02_Cmp.dec = parquetref02_Cmp.f N a1 a2 a3 a4 := by kernel_rfl
noncomputable def parquetref02_Cmp.ent (N : Nat) : Entry := { A := Int, fresh := 0, imm := [true, true], dec := fun args bs => match freezeL 0 (fun _ => .dead) [.recd [.any, .il .u32 1], .recd [.any, .il .u32 1]] args, bs with
  | some [.agg [.c (.bool a1), .il .u32 1 a2], .agg [.c (.bool a3), .il .u32 1 a4]], [] => some (parquetref02_Cmp.f N a1 a2 a3 a4, fun r => .one (.c (.int .i64 r)) [])
  | _, _ => none }
theorem parquetref02_Cmp.env (N : Nat) : EnvOK Tryz.prog (parquetref02_Cmp.E N) := ⟨(TyOK.cons ty51_ok (TyOK.cons ty53_ok TyOK.nil)), (TabOK.cons (parquetref02_Sign.ent_ok N) (TabOK.cons (parquetref01_Cmp.ent_ok N) TabOK.nil))⟩
theorem parquetref02_Cmp.res_eq (N : Nat) : (parquetref02_Cmp.E N).res = Tryz.f60.results.toList := by kernel_rfl
theorem parquetref02_Cmp.spec (N : Nat) (a1 : Bool) (a2 : List Int) (a3 : Bool) (a4 : List Int) (r : Int) (h : parquetref02_Cmp.f N a1 a2 a3 a4 = some r) : FnSpec Tryz.prog 60 [.agg [.c (.bool a1), .il .u32 1 a2], .agg [.c (.bool a3), .il .u32 1 a4]] [] (.c (.int .i64 r)) ([]) := by
  rw [← parquetref02_Cmp.f_eq] at h
  obtain ⟨v, bs', h1, h2⟩ := evFun_ok (parquetref02_Cmp.env N) Tryz_mixed Tryz.func60 (by kernel_rfl : Tryz.f60.body = some parquetref02_Cmp.body) (by kernel_rfl) (parquetref02_Cmp.res_eq N) (by kernel_rfl) (by kernel_rfl) (Nat.le_of_ble_eq_true (by kernel_rfl)) (AllCut.of (l := []) (by kernel_rfl) AllCut.nil) h
  unfold parquetref02_Cmp.dec at h1; split at h1
  · cases h1; exact h2
  · cases h1
theorem parquetref02_Cmp.ent_ok (N : Nat) : TabOK1 Tryz.prog 60 (parquetref02_Cmp.ent N) := by
  intro args bs a enc h
  simp only [parquetref02_Cmp.ent] at h
  split at h
  · rename_i hz; have h0 := Option.some.inj h; have h1 := congrArg Prod.fst h0; have h2 := congrArg Prod.snd h0; dsimp only at h1 h2; subst h2; exact FnSpec.of_freeze hz (parquetref02_Cmp.spec N _ _ _ _ a h1)
  · cases h
/-! parquet/parquetref02.Neg: function 51 -/
noncomputable def parquetref02_Neg.f (N : Nat) (a1 : Bool) (a2 : List Int) : Option (Bool × List Int) :=
  (parquetref02_Make.f N (!a1) a2).bind fun r3 =>
  some (r3.1, r3.2)
noncomputable def parquetref02_Neg.body : Code := (Tryz.f51.body).getD .skip
noncomputable def parquetref02_Neg.ty : List (Nat × TI) := [(4, ty4), (51, ty51), (53, ty53)]
noncomputable def parquetref02_Neg.E (N : Nat) : Env := { ty := lookN parquetref02_Neg.ty, tab := lookN [(53, parquetref02_Make.ent N)], hint := lookN [], cut := lookN [], N := N, res := [.cell 2 53], rsh := [.recd [.any, .il .u32 1]], nb := 0, ntmps := 9, own := false }
noncomputable def parquetref02_Neg.dec (v : V) (bs : List Blk) : Option (Bool × List Int) := match v, bs with
  | .agg [.c (.bool z0), .il .u32 1 z1], [] => some (z0, z1)
  | _, _ => none
set_option maxRecDepth 100000 in
theorem parquetref02_Neg.f_eq (N : Nat) (a1 : Bool) (a2 : List Int) :
    evFun (parquetref02_Neg.E N) parquetref02_Neg.body [.agg [.c (.bool a1), .il .u32 1 a2]] [] parquetref02_Neg.dec = parquetref02_Neg.f N a1 a2 := by kernel_rfl
noncomputable def parquetref02_Neg.ent (N : Nat) : Entry := { A := Bool × List Int, fresh := 0, imm := [true], dec := fun args bs => match freezeL 0 (fun _ => .dead) [.recd [.any, .il .u32 1]] args, bs with
  | some [.agg [.c (.bool a1), .il .u32 1 a2]], [] => some (parquetref02_Neg.f N a1 a2, fun r => .one (.agg [.c (.bool r.1), .il .u32 1 r.2]) [])
  | _, _ => none }
theorem parquetref02_Neg.env (N : Nat) : EnvOK Tryz.prog (parquetref02_Neg.E N) := ⟨(TyOK.cons ty4_ok (TyOK.cons ty51_ok (TyOK.cons ty53_ok TyOK.nil))), (TabOK.cons (parquetref02_Make.ent_ok N) TabOK.nil)⟩
theorem parquetref02_Neg.res_eq (N : Nat) : (parquetref02_Neg.E N).res = Tryz.f51.results.toList := by kernel_rfl
theorem parquetref02_Neg.spec (N : Nat) (a1 : Bool) (a2 : List Int) (r : Bool × List Int) (h : parquetref02_Neg.f N a1 a2 = some r) : FnSpec Tryz.prog 51 [.agg [.c (.bool a1), .il .u32 1 a2]] [] (.agg [.c (.bool r.1), .il .u32 1 r.2]) ([]) := by
  rw [← parquetref02_Neg.f_eq] at h
  obtain ⟨v, bs', h1, h2⟩ := evFun_ok (parquetref02_Neg.env N) Tryz_mixed Tryz.func51 (by kernel_rfl : Tryz.f51.body = some parquetref02_Neg.body) (by kernel_rfl) (parquetref02_Neg.res_eq N) (by kernel_rfl) (by kernel_rfl) (Nat.le_of_ble_eq_true (by kernel_rfl)) (AllCut.of (l := []) (by kernel_rfl) AllCut.nil) h
  unfold parquetref02_Neg.dec at h1; split at h1
  · cases h1; exact h2
  · cases h1
theorem parquetref02_Neg.ent_ok (N : Nat) : TabOK1 Tryz.prog 51 (parquetref02_Neg.ent N) := by
  intro args bs a enc h
  simp only [parquetref02_Neg.ent] at h
  split at h
  · rename_i hz; have h0 := Option.some.inj h; have h1 := congrArg Prod.fst h0; have h2 := congrArg Prod.snd h0; dsimp only at h1 h2; subst h2; exact FnSpec.of_freeze hz (parquetref02_Neg.spec N _ _ a h1)
  · cases h
/-! parquet/parquetref02.Add: function 35 -/
noncomputable def parquetref02_Add.f (N : Nat) (a1 : Bool) (a2 : List Int) (a3 : Bool) (a4 : List Int) : Option (Bool × List Int) :=
  bif a1 == a3 then
    (parquetref01_Add.f N a2 a4).bind fun r5 =>
    (parquetref02_Make.f N a1 r5).bind fun r6 =>
    some (r6.1, r6.2)
  else
  (parquetref01_Cmp.f N a2 a4).bind fun r7 =>
  bif decide (r7 ≥ 0) then
    (parquetref01_Sub.f N a2 a4).bind fun r8 =>
    (parquetref02_Make.f N a1 r8).bind fun r9 =>
    some (r9.1, r9.2)
  else
  (parquetref01_Sub.f N a4 a2).bind fun r10 =>
  (parquetref02_Make.f N a3 r10).bind fun r11 =>
  some (r11.1, r11.2)
noncomputable def parquetref02_Add.body : Code := (Tryz.f35.body).getD .skip
noncomputable def parquetref02_Add.ty : List (Nat × TI) := [(4, ty4), (51, ty51), (53, ty53)]
noncomputable def parquetref02_Add.E (N : Nat) : Env := { ty := lookN parquetref02_Add.ty, tab := lookN [(54, parquetref01_Add.ent N), (53, parquetref02_Make.ent N), (55, parquetref01_Cmp.ent N), (56, parquetref01_Sub.ent N)], hint := lookN [], cut := lookN [], N := N, res := [.cell 4 53], rsh := [.recd [.any, .il .u32 1]], nb := 0, ntmps := 40, own := false }
noncomputable def parquetref02_Add.dec (v : V) (bs : List Blk) : Option (Bool × List Int) := match v, bs with
  | .agg [.c (.bool z0), .il .u32 1 z1], [] => some (z0, z1)
  | _, _ => none
set_option maxRecDepth 100000 in
theorem parquetref02_Add.f_eq (N : Nat) (a1 : Bool) (a2 : List Int) (a3 : Bool) (a4 : List Int) :
    evFun (parquetref02_Add.E N) parquetref02_Add.body [.agg [.c (.bool a1), .il .u32 1 a2], .agg [.c (.bool a3), .il .u32 1 a4]] [] parquetref02_Add.dec = parquetref02_Add.f N a1 a2 a3 a4 := by kernel_rfl
noncomputable def parquetref02_Add.ent (N : Nat) : Entry := { A := Bool × List Int, fresh := 0, imm := [true, true], dec := fun args bs => match freezeL 0 (fun _ => .dead) [.recd [.any, .il .u32 1], .recd [.any, .il .u32 1]] args, bs with
  | some [.agg [.c (.bool a1), .il .u32 1 a2], .agg [.c (.bool a3), .il .u32 1 a4]], [] => some (parquetref02_Add.f N a1 a2 a3 a4, fun r => .one (.agg [.c (.bool r.1), .il .u32 1 r.2]) [])
  | _, _ => none }
theorem parquetref02_Add.env (N : Nat) : EnvOK Tryz.prog (parquetref02_Add.E N) := ⟨(TyOK.cons ty4_ok (TyOK.cons ty51_ok (TyOK.cons ty53_ok TyOK.nil))), (TabOK.cons (parquetref01_Add.ent_ok N) (TabOK.cons (parquetref02_Make.ent_ok N) (TabOK.cons (parquetref01_Cmp.ent_ok N) (TabOK.cons (parquetref01_Sub.ent_ok N) TabOK.nil))))⟩
theorem parquetref02_Add.res_eq (N : Nat) : (parquetref02_Add.E N).res = Tryz.f35.results.toList := by kernel_rfl
theorem parquetref02_Add.spec (N : Nat) (a1 : Bool) (a2 : List Int) (a3 : Bool) (a4 : List Int) (r : Bool × List Int) (h : parquetref02_Add.f N a1 a2 a3 a4 = some r) : FnSpec Tryz.prog 35 [.agg [.c (.bool a1), .il .u32 1 a2], .agg [.c (.bool a3), .il .u32 1 a4]] [] (.agg [.c (.bool r.1), .il .u32 1 r.2]) ([]) := by
  rw [← parquetref02_Add.f_eq] at h
  obtain ⟨v, bs', h1, h2⟩ := evFun_ok (parquetref02_Add.env N) Tryz_mixed Tryz.func35 (by kernel_rfl : Tryz.f35.body = some parquetref02_Add.body) (by kernel_rfl) (parquetref02_Add.res_eq N) (by kernel_rfl) (by kernel_rfl) (Nat.le_of_ble_eq_true (by kernel_rfl)) (AllCut.of (l := []) (by kernel_rfl) AllCut.nil) h
  unfold parquetref02_Add.dec at h1; split at h1
  · cases h1; exact h2
  · cases h1
theorem parquetref02_Add.ent_ok (N : Nat) : TabOK1 Tryz.prog 35 (parquetref02_Add.ent N) := by
  intro args bs a enc h
  simp only [parquetref02_Add.ent] at h
  split at h
  · rename_i hz; have h0 := Option.some.inj h; have h1 := congrArg Prod.fst h0; have h2 := congrArg Prod.snd h0; dsimp only at h1 h2; subst h2; exact FnSpec.of_freeze hz (parquetref02_Add.spec N _ _ _ _ a h1)
  · cases h
/-! parquet/parquetref02.Sub: function 61 -/
noncomputable def parquetref02_Sub.f (N : Nat) (a1 : Bool) (a2 : List Int) (a3 : Bool) (a4 : List Int) : Option (Bool × List Int) :=
  (parquetref02_Neg.f N a3 a4).bind fun r5 =>
  (parquetref02_Add.f N a1 a2 r5.1 r5.2).bind fun r6 =>
  some (r6.1, r6.2)
noncomputable def parquetref02_Sub.body : Code := (Tryz.f61.body).getD .skip
noncomputable def parquetref02_Sub.ty : List (Nat × TI) := [(53, ty53)]
noncomputable def parquetref02_Sub.E (N : Nat) : Env := { ty := lookN parquetref02_Sub.ty, tab := lookN [(51, parquetref02_Neg.ent N), (35, parquetref02_Add.ent N)], hint := lookN [], cut := lookN [], N := N, res := [.cell 4 53], rsh := [.recd [.any, .il .u32 1]], nb := 0, ntmps := 9, own := false }
noncomputable def parquetref02_Sub.dec (v : V) (bs : List Blk) : Option (Bool × List Int) := match v, bs with
  | .agg [.c (.bool z0), .il .u32 1 z1], [] => some (z0, z1)
  | _, _ => none
set_option maxRecDepth 100000 in
theorem parquetref02_Sub.f_eq (N : Nat) (a1 : Bool) (a2 : List Int) (a3 : Bool) (a4 : List Int) :
    evFun (parquetref02_Sub.E N) parquetref02_Sub.body [.agg [.c (.bool a1), .il .u32 1 a2], .agg [.c (.bool a3), .il .u32 1 a4]] [] parquetref02_Sub.dec = parquetref02_Sub.f N a1 a2 a3 a4 := by kernel_rfl
noncomputable def parquetref02_Sub.ent (N : Nat) : Entry := { A := Bool × List Int, fresh := 0, imm := [true, true], dec := fun args bs => match freezeL 0 (fun _ => .dead) [.recd [.any, .il .u32 1], .recd [.any, .il .u32 1]] args, bs with
  | some [.agg [.c (.bool a1), .il .u32 1 a2], .agg [.c (.bool a3), .il .u32 1 a4]], [] => some (parquetref02_Sub.f N a1 a2 a3 a4, fun r => .one (.agg [.c (.bool r.1), .il .u32 1 r.2]) [])
  | _, _ => none }
theorem parquetref02_Sub.env (N : Nat) : EnvOK Tryz.prog (parquetref02_Sub.E N) := ⟨(TyOK.cons ty53_ok TyOK.nil), (TabOK.cons (parquetref02_Neg.ent_ok N) (TabOK.cons (parquetref02_Add.ent_ok N) TabOK.nil))⟩
theorem parquetref02_Sub.res_eq (N : Nat) : (parquetref02_Sub.E N).res = Tryz.f61.results.toList := by kernel_rfl
theorem parquetref02_Sub.spec (N : Nat) (a1 : Bool) (a2 : List Int) (a3 : Bool) (a4 : List Int) (r : Bool × List Int) (h : parquetref02_Sub.f N a1 a2 a3 a4 = some r) : FnSpec Tryz.prog 61 [.agg [.c (.bool a1), .il .u32 1 a2], .agg [.c (.bool a3), .il .u32 1 a4]] [] (.agg [.c (.bool r.1), .il .u32 1 r.2]) ([]) := by
  rw [← parquetref02_Sub.f_eq] at h
  obtain ⟨v, bs', h1, h2⟩ := evFun_ok (parquetref02_Sub.env N) Tryz_mixed Tryz.func61 (by kernel_rfl : Tryz.f61.body = some parquetref02_Sub.body) (by kernel_rfl) (parquetref02_Sub.res_eq N) (by kernel_rfl) (by kernel_rfl) (Nat.le_of_ble_eq_true (by kernel_rfl)) (AllCut.of (l := []) (by kernel_rfl) AllCut.nil) h
  unfold parquetref02_Sub.dec at h1; split at h1
  · cases h1; exact h2
  · cases h1
theorem parquetref02_Sub.ent_ok (N : Nat) : TabOK1 Tryz.prog 61 (parquetref02_Sub.ent N) := by
  intro args bs a enc h
  simp only [parquetref02_Sub.ent] at h
  split at h
  · rename_i hz; have h0 := Option.some.inj h; have h1 := congrArg Prod.fst h0; have h2 := congrArg Prod.snd h0; dsimp only at h1 h2; subst h2; exact FnSpec.of_freeze hz (parquetref02_Sub.spec N _ _ _ _ a h1)
  · cases h
/-! parquet/parquetref02.Mul: function 37 -/
noncomputable def parquetref02_Mul.f (N : Nat) (a1 : Bool) (a2 : List Int) (a3 : Bool) (a4 : List Int) : Option (Bool × List Int) :=
  (parquetref01_Mul.f N a2 a4).bind fun r5 =>
  (parquetref02_Make.f N (!(a1 == a3)) r5).bind fun r6 =>
  some (r6.1, r6.2)
noncomputable def parquetref02_Mul.body : Code := (Tryz.f37.body).getD .skip
noncomputable def parquetref02_Mul.ty : List (Nat × TI) := [(4, ty4), (51, ty51), (53, ty53)]
noncomputable def parquetref02_Mul.E (N : Nat) : Env := { ty := lookN parquetref02_Mul.ty, tab := lookN [(58, parquetref01_Mul.ent N), (53, parquetref02_Make.ent N)], hint := lookN [], cut := lookN [], N := N, res := [.cell 4 53], rsh := [.recd [.any, .il .u32 1]], nb := 0, ntmps := 16, own := false }
noncomputable def parquetref02_Mul.dec (v : V) (bs : List Blk) : Option (Bool × List Int) := match v, bs with
  | .agg [.c (.bool z0), .il .u32 1 z1], [] => some (z0, z1)
  | _, _ => none
set_option maxRecDepth 100000 in
theorem parquetref02_Mul.f_eq (N : Nat) (a1 : Bool) (a2 : List Int) (a3 : Bool) (a4 : List Int) :
    evFun (parquetref02_Mul.E N) parquetref02_Mul.body [.agg [.c (.bool a1), .il .u32 1 a2], .agg [.c (.bool a3), .il .u32 1 a4]] [] parquetref02_Mul.dec = parquetref02_Mul.f N a1 a2 a3 a4 := by kernel_rfl
noncomputable def parquetref02_Mul.ent (N : Nat) : Entry := { A := Bool × List Int, fresh := 0, imm := [true, true], dec := fun args bs => match freezeL 0 (fun _ => .dead) [.recd [.any, .il .u32 1], .recd [.any, .il .u32 1]] args, bs with
  | some [.agg [.c (.bool a1), .il .u32 1 a2], .agg [.c (.bool a3), .il .u32 1 a4]], [] => some (parquetref02_Mul.f N a1 a2 a3 a4, fun r => .one (.agg [.c (.bool r.1), .il .u32 1 r.2]) [])
  | _, _ => none }
theorem parquetref02_Mul.env (N : Nat) : EnvOK Tryz.prog (parquetref02_Mul.E N) := ⟨(TyOK.cons ty4_ok (TyOK.cons ty51_ok (TyOK.cons ty53_ok TyOK.nil))), (TabOK.cons (parquetref01_Mul.ent_ok N) (TabOK.cons (parquetref02_Make.ent_ok N) TabOK.nil))⟩
theorem parquetref02_Mul.res_eq (N : Nat) : (parquetref02_Mul.E N).res = Tryz.f37.results.toList := by kernel_rfl
theorem parquetref02_Mul.spec (N : Nat) (a1 : Bool) (a2 : List Int) (a3 : Bool) (a4 : List Int) (r : Bool × List Int) (h : parquetref02_Mul.f N a1 a2 a3 a4 = some r) : FnSpec Tryz.prog 37 [.agg [.c (.bool a1), .il .u32 1 a2], .agg [.c (.bool a3), .il .u32 1 a4]] [] (.agg [.c (.bool r.1), .il .u32 1 r.2]) ([]) := by
  rw [← parquetref02_Mul.f_eq] at h
  obtain ⟨v, bs', h1, h2⟩ := evFun_ok (parquetref02_Mul.env N) Tryz_mixed Tryz.func37 (by kernel_rfl : Tryz.f37.body = some parquetref02_Mul.body) (by kernel_rfl) (parquetref02_Mul.res_eq N) (by kernel_rfl) (by kernel_rfl) (Nat.le_of_ble_eq_true (by kernel_rfl)) (AllCut.of (l := []) (by kernel_rfl) AllCut.nil) h
  unfold parquetref02_Mul.dec at h1; split at h1
  · cases h1; exact h2
  · cases h1
theorem parquetref02_Mul.ent_ok (N : Nat) : TabOK1 Tryz.prog 37 (parquetref02_Mul.ent N) := by
  intro args bs a enc h
  simp only [parquetref02_Mul.ent] at h
  split at h
  · rename_i hz; have h0 := Option.some.inj h; have h1 := congrArg Prod.fst h0; have h2 := congrArg Prod.snd h0; dsimp only at h1 h2; subst h2; exact FnSpec.of_freeze hz (parquetref02_Mul.spec N _ _ _ _ a h1)
  · cases h
/-! parquet/parquetref02.Quo: function 59 -/
noncomputable def parquetref02_Quo.f (N : Nat) (a1 : Bool) (a2 : List Int) (a3 : Bool) (a4 : List Int) : Option (Bool × List Int × Bool × List Int) :=
  (parquetref01_Div.f N a2 a4).bind fun r5 =>
  (parquetref02_Make.f N (!(a1 == a3)) r5.1).bind fun r6 =>
  (parquetref02_Make.f N a1 r5.2).bind fun r7 =>
  (parquetref02_Sign.f N r7.1 r7.2).bind fun r8 =>
  bif decide (r8 < 0) then
    (parquetref02_Make.f N false a4).bind fun r9 =>
    (parquetref02_Add.f N r7.1 r7.2 r9.1 r9.2).bind fun r10 =>
    bif a3 then
      (parquetref02_Of.f N 1).bind fun r11 =>
      (parquetref02_Add.f N r6.1 r6.2 r11.1 r11.2).bind fun r12 =>
      some (r12.1, r12.2, r10.1, r10.2)
    else
    (parquetref02_Of.f N 1).bind fun r13 =>
    (parquetref02_Sub.f N r6.1 r6.2 r13.1 r13.2).bind fun r14 =>
    some (r14.1, r14.2, r10.1, r10.2)
  else
  some (r6.1, r6.2, r7.1, r7.2)
noncomputable def parquetref02_Quo.body : Code := (Tryz.f59.body).getD .skip
noncomputable def parquetref02_Quo.ty : List (Nat × TI) := [(4, ty4), (51, ty51), (53, ty53)]
noncomputable def parquetref02_Quo.E (N : Nat) : Env := { ty := lookN parquetref02_Quo.ty, tab := lookN [(80, parquetref01_Div.ent N), (53, parquetref02_Make.ent N), (62, parquetref02_Sign.ent N), (35, parquetref02_Add.ent N), (36, parquetref02_Of.ent N), (61, parquetref02_Sub.ent N)], hint := lookN [], cut := lookN [], N := N, res := [.cell 4 53, .cell 5 53], rsh := [.recd [.any, .il .u32 1], .recd [.any, .il .u32 1]], nb := 0, ntmps := 47, own := false }
noncomputable def parquetref02_Quo.dec (v : V) (bs : List Blk) : Option (Bool × List Int × Bool × List Int) := match v, bs with
  | .tup [.agg [.c (.bool z0), .il .u32 1 z1], .agg [.c (.bool z2), .il .u32 1 z3]], [] => some (z0, z1, z2, z3)
  | _, _ => none
set_option maxRecDepth 100000 in
theorem parquetref02_Quo.f_eq (N : Nat) (a1 : Bool) (a2 : List Int) (a3 : Bool) (a4 : List Int) :
    evFun (parquetref02_Quo.E N) parquetref02_Quo.body [.agg [.c (.bool a1), .il .u32 1 a2], .agg [.c (.bool a3), .il .u32 1 a4]] [] parquetref02_Quo.dec = parquetref02_Quo.f N a1 a2 a3 a4 := by kernel_rfl
noncomputable def parquetref02_Quo.ent (N : Nat) : Entry := { A := Bool × List Int × Bool × List Int, fresh := 0, imm := [true, true], dec := fun args bs => match freezeL 0 (fun _ => .dead) [.recd [.any, .il .u32 1], .recd [.any, .il .u32 1]] args, bs with
  | some [.agg [.c (.bool a1), .il .u32 1 a2], .agg [.c (.bool a3), .il .u32 1 a4]], [] => some (parquetref02_Quo.f N a1 a2 a3 a4, fun r => .one (.tup [.agg [.c (.bool r.1), .il .u32 1 r.2.1], .agg [.c (.bool r.2.2.1), .il .u32 1 r.2.2.2]]) [])
  | _, _ => none }
theorem parquetref02_Quo.env (N : Nat) : EnvOK Tryz.prog (parquetref02_Quo.E N) := ⟨(TyOK.cons ty4_ok (TyOK.cons ty51_ok (TyOK.cons ty53_ok TyOK.nil))), (TabOK.cons (parquetref01_Div.ent_ok N) (TabOK.cons (parquetref02_Make.ent_ok N) (TabOK.cons (parquetref02_Sign.ent_ok N) (TabOK.cons (parquetref02_Add.ent_ok N) (TabOK.cons (parquetref02_Of.ent_ok N) (TabOK.cons (parquetref02_Sub.ent_ok N) TabOK.nil))))))⟩
theorem parquetref02_Quo.res_eq (N : Nat) : (parquetref02_Quo.E N).res = Tryz.f59.results.toList := by kernel_rfl
theorem parquetref02_Quo.spec (N : Nat) (a1 : Bool) (a2 : List Int) (a3 : Bool) (a4 : List Int) (r : Bool × List Int × Bool × List Int) (h : parquetref02_Quo.f N a1 a2 a3 a4 = some r) : FnSpec Tryz.prog 59 [.agg [.c (.bool a1), .il .u32 1 a2], .agg [.c (.bool a3), .il .u32 1 a4]] [] (.tup [.agg [.c (.bool r.1), .il .u32 1 r.2.1], .agg [.c (.bool r.2.2.1), .il .u32 1 r.2.2.2]]) ([]) := by
  rw [← parquetref02_Quo.f_eq] at h
  obtain ⟨v, bs', h1, h2⟩ := evFun_ok (parquetref02_Quo.env N) Tryz_mixed Tryz.func59 (by kernel_rfl : Tryz.f59.body = some parquetref02_Quo.body) (by kernel_rfl) (parquetref02_Quo.res_eq N) (by kernel_rfl) (by kernel_rfl) (Nat.le_of_ble_eq_true (by kernel_rfl)) (AllCut.of (l := []) (by kernel_rfl) AllCut.nil) h
  unfold parquetref02_Quo.dec at h1; split at h1
  · cases h1; exact h2
  · cases h1
theorem parquetref02_Quo.ent_ok (N : Nat) : TabOK1 Tryz.prog 59 (parquetref02_Quo.ent N) := by
  intro args bs a enc h
  simp only [parquetref02_Quo.ent] at h
  split at h
  · rename_i hz; have h0 := Option.some.inj h; have h1 := congrArg Prod.fst h0; have h2 := congrArg Prod.snd h0; dsimp only at h1 h2; subst h2; exact FnSpec.of_freeze hz (parquetref02_Quo.spec N _ _ _ _ a h1)
  · cases h
/-! parquet/parquetref02.turned: function 75 -/
noncomputable def parquetref02_turned.l5 {R : Type} (N : Nat) : Nat → Bool → List Int → Bool → Bool → List Int → Bool → List Int → Bool → List Int → Bool → List Int → (Bool → List Int → Bool → Bool → List Int → Option R) → Option R
  | 0, _, _, _, _, _, _, _, _, _, _, _, _ => none
  | n + 1, x7, x8, x9, x10, x11, x12, x13, x14, x15, x16, x17, k0 =>
    (parquetref02_Zero.f N x12 x13).bind fun r18 =>
    bif !r18 then
      (parquetref02_Quo.f N x10 x11 x12 x13).bind fun r19 =>
      (parquetref02_Mul.f N r19.1 r19.2.1 x16 x17).bind fun r20 =>
      (parquetref02_Sub.f N x14 x15 r20.1 r20.2).bind fun r21 =>
      parquetref02_turned.l5 N n x7 x8 x9 x12 x13 r19.2.2.1 r19.2.2.2 x16 x17 r21.1 r21.2 k0
    else
    k0 x7 x8 x9 x14 x15
noncomputable def parquetref02_turned.f (N : Nat) (a1 : Bool) (a2 : List Int) (a3 : Bool) (a4 : List Int) : Option (Bool × List Int) :=
  (parquetref02_Quo.f N a1 a2 a3 a4).bind fun r5 =>
  (parquetref02_Of.f N 1).bind fun r6 =>
  parquetref02_turned.l5 N N a3 a4 false a3 a4 r5.2.2.1 r5.2.2.2 false [] r6.1 r6.2
    (fun y27 y28 y29 y30 y31 =>
      (parquetref02_Quo.f N y30 y31 y27 y28).bind fun r32 =>
      some (r32.2.2.1, r32.2.2.2))
noncomputable def parquetref02_turned.body : Code := (Tryz.f75.body).getD .skip
noncomputable def parquetref02_turned.ty : List (Nat × TI) := [(4, ty4), (51, ty51), (53, ty53)]
noncomputable def parquetref02_turned.h5 : Hint := ⟨[(3, .box [.any, .il .u32 1]), (4, .box [.any, .any]), (5, .box [.any, .il .u32 1]), (7, .box [.any, .il .u32 1]), (8, .box [.any, .il .u32 1]), (9, .box [.any, .il .u32 1])], [(3, .box [.any, .il .u32 1]), (4, .box [.any, .any]), (8, .box [.any, .il .u32 1])]⟩
noncomputable def parquetref02_turned.c5 (N : Nat) : Cut := ⟨fun vs H k => match vs, H with
  | [.ptr 0 0 2, .ptr 1 0 2, .ptr 2 0 2, .ptr 3 0 2, .ptr 4 0 2, .ptr 5 0 2], [.vals [.c (.bool x7), .il .u32 1 x8], .vals [.c (.bool x9), .c (.slice none 0 0)], .vals [.c (.bool x10), .il .u32 1 x11], .vals [.c (.bool x12), .il .u32 1 x13], .vals [.c (.bool x14), .il .u32 1 x15], .vals [.c (.bool x16), .il .u32 1 x17]] => parquetref02_turned.l5 N N x7 x8 x9 x10 x11 x12 x13 x14 x15 x16 x17 (fun x22 x23 x24 x25 x26 => k (.exit 0) ⟨mkT parquetref02_turned.h5.out [.ptr 0 0 2, .ptr 1 0 2, .ptr 2 0 2], [.vals [.c (.bool x22), .il .u32 1 x23], .vals [.c (.bool x24), .c (.slice none 0 0)], .vals [.c (.bool x25), .il .u32 1 x26]]⟩)
  | _, _ => none⟩
noncomputable def parquetref02_turned.E (N : Nat) : Env := { ty := lookN parquetref02_turned.ty, tab := lookN [(59, parquetref02_Quo.ent N), (36, parquetref02_Of.ent N), (73, parquetref02_Zero.ent N), (37, parquetref02_Mul.ent N), (61, parquetref02_Sub.ent N)], hint := lookN [(5, parquetref02_turned.h5)], cut := lookN [(5, parquetref02_turned.c5 N)], N := N, res := [.cell 4 53], rsh := [.recd [.any, .il .u32 1]], nb := 0, ntmps := 49, own := false }
noncomputable def parquetref02_turned.b5 : Code := inner ((subLoops parquetref02_turned.body).getD 0 .skip)
set_option maxRecDepth 100000 in
theorem parquetref02_turned.l5_eq {R : Type} (N n : Nat) (x7 : Bool) (x8 : List Int) (x9 : Bool) (x10 : Bool) (x11 : List Int) (x12 : Bool) (x13 : List Int) (x14 : Bool) (x15 : List Int) (x16 : Bool) (x17 : List Int) (k : Ex → St → Option R) :
    evLoop 0 parquetref02_turned.h5 (fun s k => evCode (parquetref02_turned.E N) 392 parquetref02_turned.b5 s k) n [.ptr 0 0 2, .ptr 1 0 2, .ptr 2 0 2, .ptr 3 0 2, .ptr 4 0 2, .ptr 5 0 2] [.vals [.c (.bool x7), .il .u32 1 x8], .vals [.c (.bool x9), .c (.slice none 0 0)], .vals [.c (.bool x10), .il .u32 1 x11], .vals [.c (.bool x12), .il .u32 1 x13], .vals [.c (.bool x14), .il .u32 1 x15], .vals [.c (.bool x16), .il .u32 1 x17]] k = parquetref02_turned.l5 N n x7 x8 x9 x10 x11 x12 x13 x14 x15 x16 x17 (fun x22 x23 x24 x25 x26 => k (.exit 0) ⟨mkT parquetref02_turned.h5.out [.ptr 0 0 2, .ptr 1 0 2, .ptr 2 0 2], [.vals [.c (.bool x22), .il .u32 1 x23], .vals [.c (.bool x24), .c (.slice none 0 0)], .vals [.c (.bool x25), .il .u32 1 x26]]⟩) := by
  induction n generalizing x7 x8 x9 x10 x11 x12 x13 x14 x15 x16 x17 with
  | zero => kernel_rfl
  | succ n ih =>
    simp only [parquetref02_turned.l5, ← ih]
    kernel_rfl
noncomputable def parquetref02_turned.dec (v : V) (bs : List Blk) : Option (Bool × List Int) := match v, bs with
  | .agg [.c (.bool z0), .il .u32 1 z1], [] => some (z0, z1)
  | _, _ => none
set_option maxRecDepth 100000 in
theorem parquetref02_turned.f_eq (N : Nat) (a1 : Bool) (a2 : List Int) (a3 : Bool) (a4 : List Int) :
    evFun (parquetref02_turned.E N) parquetref02_turned.body [.agg [.c (.bool a1), .il .u32 1 a2], .agg [.c (.bool a3), .il .u32 1 a4]] [] parquetref02_turned.dec = parquetref02_turned.f N a1 a2 a3 a4 := by kernel_rfl
noncomputable def parquetref02_turned.ent (N : Nat) : Entry := { A := Bool × List Int, fresh := 0, imm := [true, true], dec := fun args bs => match freezeL 0 (fun _ => .dead) [.recd [.any, .il .u32 1], .recd [.any, .il .u32 1]] args, bs with
  | some [.agg [.c (.bool a1), .il .u32 1 a2], .agg [.c (.bool a3), .il .u32 1 a4]], [] => some (parquetref02_turned.f N a1 a2 a3 a4, fun r => .one (.agg [.c (.bool r.1), .il .u32 1 r.2]) [])
  | _, _ => none }
theorem parquetref02_turned.env (N : Nat) : EnvOK Tryz.prog (parquetref02_turned.E N) := ⟨(TyOK.cons ty4_ok (TyOK.cons ty51_ok (TyOK.cons ty53_ok TyOK.nil))), (TabOK.cons (parquetref02_Quo.ent_ok N) (TabOK.cons (parquetref02_Of.ent_ok N) (TabOK.cons (parquetref02_Zero.ent_ok N) (TabOK.cons (parquetref02_Mul.ent_ok N) (TabOK.cons (parquetref02_Sub.ent_ok N) TabOK.nil)))))⟩
theorem parquetref02_turned.res_eq (N : Nat) : (parquetref02_turned.E N).res = Tryz.f75.results.toList := by kernel_rfl
theorem parquetref02_turned.k5 (N : Nat) : CutOK Tryz.prog Tryz.f75 (parquetref02_turned.E N) (.loop parquetref02_turned.b5) := by
  intro e hd he hh R vs H k r h
  have e1 : (parquetref02_turned.E N).cut (loopKey parquetref02_turned.b5) = some (parquetref02_turned.c5 N) := by kernel_rfl
  have e2 : (parquetref02_turned.E N).hint (loopKey parquetref02_turned.b5) = some parquetref02_turned.h5 := by kernel_rfl
  rw [e1] at he; rw [e2] at hh; cases he; cases hh
  unfold parquetref02_turned.c5 at h; dsimp only at h
  split at h
  · rw [← parquetref02_turned.l5_eq] at h
    exact loop_ok (evCode_ok (parquetref02_turned.env N) Tryz_mixed (parquetref02_turned.res_eq N) 392 parquetref02_turned.b5 (AllCut.of (l := []) (by kernel_rfl) AllCut.nil)) h
  · cases h
theorem parquetref02_turned.spec (N : Nat) (a1 : Bool) (a2 : List Int) (a3 : Bool) (a4 : List Int) (r : Bool × List Int) (h : parquetref02_turned.f N a1 a2 a3 a4 = some r) : FnSpec Tryz.prog 75 [.agg [.c (.bool a1), .il .u32 1 a2], .agg [.c (.bool a3), .il .u32 1 a4]] [] (.agg [.c (.bool r.1), .il .u32 1 r.2]) ([]) := by
  rw [← parquetref02_turned.f_eq] at h
  obtain ⟨v, bs', h1, h2⟩ := evFun_ok (parquetref02_turned.env N) Tryz_mixed Tryz.func75 (by kernel_rfl : Tryz.f75.body = some parquetref02_turned.body) (by kernel_rfl) (parquetref02_turned.res_eq N) (by kernel_rfl) (by kernel_rfl) (Nat.le_of_ble_eq_true (by kernel_rfl)) (AllCut.of (l := [(.loop (inner ((subLoops parquetref02_turned.body).getD 0 .skip)))]) (by kernel_rfl) (AllCut.cons (parquetref02_turned.k5 N) AllCut.nil)) h
  unfold parquetref02_turned.dec at h1; split at h1
  · cases h1; exact h2
  · cases h1
theorem parquetref02_turned.ent_ok (N : Nat) : TabOK1 Tryz.prog 75 (parquetref02_turned.ent N) := by
  intro args bs a enc h
  simp only [parquetref02_turned.ent] at h
  split at h
  · rename_i hz; have h0 := Option.some.inj h; have h1 := congrArg Prod.fst h0; have h2 := congrArg Prod.snd h0; dsimp only at h1 h2; subst h2; exact FnSpec.of_freeze hz (parquetref02_turned.spec N _ _ _ _ a h1)
  · cases h
/-! parquet/parquetref02.Gcd: function 49 -/
noncomputable def parquetref02_Gcd.f (N : Nat) (a1 : Bool) (a2 : List Int) (a3 : Bool) (a4 : List Int) : Option (List Int × Bool × List Int × Bool × List Int) :=
  (parquetref02_Zero.f N a3 a4).bind fun r5 =>
  bif r5 then
    (parquetref02_Sign.f N a1 a2).bind fun r6 =>
    (parquetref02_Of.f N r6).bind fun r7 =>
    some (a2, r7.1, r7.2, false, [])
  else
  (parquetref01_Gcd.f N a2 a4).bind fun r8 =>
  (parquetref02_Make.f N false r8).bind fun r9 =>
  (parquetref02_Make.f N false a4).bind fun r10 =>
  (parquetref02_Quo.f N r10.1 r10.2 r9.1 r9.2).bind fun r11 =>
  (parquetref02_Quo.f N a1 a2 r9.1 r9.2).bind fun r12 =>
  (parquetref02_turned.f N r12.1 r12.2.1 r11.1 r11.2.1).bind fun r13 =>
  (parquetref02_Mul.f N a1 a2 r13.1 r13.2).bind fun r14 =>
  (parquetref02_Sub.f N r9.1 r9.2 r14.1 r14.2).bind fun r15 =>
  (parquetref02_Quo.f N r15.1 r15.2 a3 a4).bind fun r16 =>
  some (r8, r13.1, r13.2, r16.1, r16.2.1)
noncomputable def parquetref02_Gcd.body : Code := (Tryz.f49.body).getD .skip
noncomputable def parquetref02_Gcd.ty : List (Nat × TI) := [(4, ty4), (51, ty51), (53, ty53)]
noncomputable def parquetref02_Gcd.E (N : Nat) : Env := { ty := lookN parquetref02_Gcd.ty, tab := lookN [(73, parquetref02_Zero.ent N), (62, parquetref02_Sign.ent N), (36, parquetref02_Of.ent N), (74, parquetref01_Gcd.ent N), (53, parquetref02_Make.ent N), (59, parquetref02_Quo.ent N), (75, parquetref02_turned.ent N), (37, parquetref02_Mul.ent N), (61, parquetref02_Sub.ent N)], hint := lookN [], cut := lookN [], N := N, res := [.tmp 4, .cell 5 53, .cell 6 53], rsh := [.il .u32 1, .recd [.any, .il .u32 1], .recd [.any, .il .u32 1]], nb := 0, ntmps := 61, own := false }
noncomputable def parquetref02_Gcd.dec (v : V) (bs : List Blk) : Option (List Int × Bool × List Int × Bool × List Int) := match v, bs with
  | .tup [.il .u32 1 z0, .agg [.c (.bool z1), .il .u32 1 z2], .agg [.c (.bool z3), .il .u32 1 z4]], [] => some (z0, z1, z2, z3, z4)
  | _, _ => none
set_option maxRecDepth 100000 in
theorem parquetref02_Gcd.f_eq (N : Nat) (a1 : Bool) (a2 : List Int) (a3 : Bool) (a4 : List Int) :
    evFun (parquetref02_Gcd.E N) parquetref02_Gcd.body [.agg [.c (.bool a1), .il .u32 1 a2], .agg [.c (.bool a3), .il .u32 1 a4]] [] parquetref02_Gcd.dec = parquetref02_Gcd.f N a1 a2 a3 a4 := by kernel_rfl
noncomputable def parquetref02_Gcd.ent (N : Nat) : Entry := { A := List Int × Bool × List Int × Bool × List Int, fresh := 0, imm := [true, true], dec := fun args bs => match freezeL 0 (fun _ => .dead) [.recd [.any, .il .u32 1], .recd [.any, .il .u32 1]] args, bs with
  | some [.agg [.c (.bool a1), .il .u32 1 a2], .agg [.c (.bool a3), .il .u32 1 a4]], [] => some (parquetref02_Gcd.f N a1 a2 a3 a4, fun r => .one (.tup [.il .u32 1 r.1, .agg [.c (.bool r.2.1), .il .u32 1 r.2.2.1], .agg [.c (.bool r.2.2.2.1), .il .u32 1 r.2.2.2.2]]) [])
  | _, _ => none }
theorem parquetref02_Gcd.env (N : Nat) : EnvOK Tryz.prog (parquetref02_Gcd.E N) := ⟨(TyOK.cons ty4_ok (TyOK.cons ty51_ok (TyOK.cons ty53_ok TyOK.nil))), (TabOK.cons (parquetref02_Zero.ent_ok N) (TabOK.cons (parquetref02_Sign.ent_ok N) (TabOK.cons (parquetref02_Of.ent_ok N) (TabOK.cons (parquetref01_Gcd.ent_ok N) (TabOK.cons (parquetref02_Make.ent_ok N) (TabOK.cons (parquetref02_Quo.ent_ok N) (TabOK.cons (parquetref02_turned.ent_ok N) (TabOK.cons (parquetref02_Mul.ent_ok N) (TabOK.cons (parquetref02_Sub.ent_ok N) TabOK.nil)))))))))⟩
theorem parquetref02_Gcd.res_eq (N : Nat) : (parquetref02_Gcd.E N).res = Tryz.f49.results.toList := by kernel_rfl
theorem parquetref02_Gcd.spec (N : Nat) (a1 : Bool) (a2 : List Int) (a3 : Bool) (a4 : List Int) (r : List Int × Bool × List Int × Bool × List Int) (h : parquetref02_Gcd.f N a1 a2 a3 a4 = some r) : FnSpec Tryz.prog 49 [.agg [.c (.bool a1), .il .u32 1 a2], .agg [.c (.bool a3), .il .u32 1 a4]] [] (.tup [.il .u32 1 r.1, .agg [.c (.bool r.2.1), .il .u32 1 r.2.2.1], .agg [.c (.bool r.2.2.2.1), .il .u32 1 r.2.2.2.2]]) ([]) := by
  rw [← parquetref02_Gcd.f_eq] at h
  obtain ⟨v, bs', h1, h2⟩ := evFun_ok (parquetref02_Gcd.env N) Tryz_mixed Tryz.func49 (by kernel_rfl : Tryz.f49.body = some parquetref02_Gcd.body) (by kernel_rfl) (parquetref02_Gcd.res_eq N) (by kernel_rfl) (by kernel_rfl) (Nat.le_of_ble_eq_true (by kernel_rfl)) (AllCut.of (l := []) (by kernel_rfl) AllCut.nil) h
  unfold parquetref02_Gcd.dec at h1; split at h1
  · cases h1; exact h2
  · cases h1
theorem parquetref02_Gcd.ent_ok (N : Nat) : TabOK1 Tryz.prog 49 (parquetref02_Gcd.ent N) := by
  intro args bs a enc h
  simp only [parquetref02_Gcd.ent] at h
  split at h
  · rename_i hz; have h0 := Option.some.inj h; have h1 := congrArg Prod.fst h0; have h2 := congrArg Prod.snd h0; dsimp only at h1 h2; subst h2; exact FnSpec.of_freeze hz (parquetref02_Gcd.spec N _ _ _ _ a h1)
  · cases h
/-! parquet/parquetref04.Mod: function 33 -/
noncomputable def parquetref04_Mod.f (N : Nat) (a1 : Int) (a2 : Int) : Option (Int) :=
  bif !(a2 == 0) then
    bif decide ((Int.tmod a1 a2) < 0) then
      some (wi64 ((Int.tmod a1 a2) + a2))
    else
    some (Int.tmod a1 a2)
  else none
noncomputable def parquetref04_Mod.body : Code := (Tryz.f33.body).getD .skip
noncomputable def parquetref04_Mod.ty : List (Nat × TI) := []
noncomputable def parquetref04_Mod.E (N : Nat) : Env := { ty := lookN parquetref04_Mod.ty, tab := lookN [], hint := lookN [], cut := lookN [], N := N, res := [.tmp 4], rsh := [.any], nb := 0, ntmps := 14, own := false }
noncomputable def parquetref04_Mod.dec (v : V) (bs : List Blk) : Option (Int) := match v, bs with
  | .c (.int .i64 z0), [] => some z0
  | _, _ => none
set_option maxRecDepth 100000 in
theorem parquetref04_Mod.f_eq (N : Nat) (a1 : Int) (a2 : Int) :
    evFun (parquetref04_Mod.E N) parquetref04_Mod.body [.c (.int .i64 a1), .c (.int .i64 a2)] [] parquetref04_Mod.dec = parquetref04_Mod.f N a1 a2 := by kernel_rfl
noncomputable def parquetref04_Mod.ent (N : Nat) : Entry := { A := Int, fresh := 0, imm := [true, true], dec := fun args bs => match freezeL 0 (fun _ => .dead) [.any, .any] args, bs with
  | some [.c (.int .i64 a1), .c (.int .i64 a2)], [] => some (parquetref04_Mod.f N a1 a2, fun r => .one (.c (.int .i64 r)) [])
  | _, _ => none }
theorem parquetref04_Mod.env (N : Nat) : EnvOK Tryz.prog (parquetref04_Mod.E N) := ⟨TyOK.nil, TabOK.nil⟩
theorem parquetref04_Mod.res_eq (N : Nat) : (parquetref04_Mod.E N).res = Tryz.f33.results.toList := by kernel_rfl
theorem parquetref04_Mod.spec (N : Nat) (a1 : Int) (a2 : Int) (r : Int) (h : parquetref04_Mod.f N a1 a2 = some r) : FnSpec Tryz.prog 33 [.c (.int .i64 a1), .c (.int .i64 a2)] [] (.c (.int .i64 r)) ([]) := by
  rw [← parquetref04_Mod.f_eq] at h
  obtain ⟨v, bs', h1, h2⟩ := evFun_ok (parquetref04_Mod.env N) Tryz_mixed Tryz.func33 (by kernel_rfl : Tryz.f33.body = some parquetref04_Mod.body) (by kernel_rfl) (parquetref04_Mod.res_eq N) (by kernel_rfl) (by kernel_rfl) (Nat.le_of_ble_eq_true (by kernel_rfl)) (AllCut.of (l := []) (by kernel_rfl) AllCut.nil) h
  unfold parquetref04_Mod.dec at h1; split at h1
  · cases h1; exact h2
  · cases h1
theorem parquetref04_Mod.ent_ok (N : Nat) : TabOK1 Tryz.prog 33 (parquetref04_Mod.ent N) := by
  intro args bs a enc h
  simp only [parquetref04_Mod.ent] at h
  split at h
  · rename_i hz; have h0 := Option.some.inj h; have h1 := congrArg Prod.fst h0; have h2 := congrArg Prod.snd h0; dsimp only at h1 h2; subst h2; exact FnSpec.of_freeze hz (parquetref04_Mod.spec N _ _ a h1)
  · cases h
/-! parquet/parquetref04.Common: function 48 -/
noncomputable def parquetref04_Common.l3 {R : Type} (N : Nat) : Nat → Int → Int → (Int → Option R) → Option R
  | 0, _, _, _ => none
  | n + 1, x3, x4, k0 =>
    bif decide (x4 > 0) then
      bif !(x4 == 0) then
        parquetref04_Common.l3 N n x4 (Int.tmod x3 x4) k0
      else none
    else
    k0 x3
noncomputable def parquetref04_Common.f (N : Nat) (a1 : Int) (a2 : Int) : Option (Int) :=
  parquetref04_Common.l3 N N (mx2 a1 (wi64 (0 - a1))) (mx2 a2 (wi64 (0 - a2)))
    (fun y6 =>
      some y6)
noncomputable def parquetref04_Common.body : Code := (Tryz.f48.body).getD .skip
noncomputable def parquetref04_Common.ty : List (Nat × TI) := []
noncomputable def parquetref04_Common.h3 : Hint := ⟨[(0, .any), (1, .any)], [(0, .any)]⟩
noncomputable def parquetref04_Common.c3 (N : Nat) : Cut := ⟨fun vs H k => match vs, H with
  | [.c (.int .i64 x3), .c (.int .i64 x4)], [] => parquetref04_Common.l3 N N x3 x4 (fun x5 => k (.exit 0) ⟨mkT parquetref04_Common.h3.out [.c (.int .i64 x5)], []⟩)
  | _, _ => none⟩
noncomputable def parquetref04_Common.E (N : Nat) : Env := { ty := lookN parquetref04_Common.ty, tab := lookN [], hint := lookN [(3, parquetref04_Common.h3)], cut := lookN [(3, parquetref04_Common.c3 N)], N := N, res := [.tmp 4], rsh := [.any], nb := 0, ntmps := 22, own := false }
noncomputable def parquetref04_Common.b3 : Code := inner ((subLoops parquetref04_Common.body).getD 0 .skip)
set_option maxRecDepth 100000 in
theorem parquetref04_Common.l3_eq {R : Type} (N n : Nat) (x3 : Int) (x4 : Int) (k : Ex → St → Option R) :
    evLoop 0 parquetref04_Common.h3 (fun s k => evCode (parquetref04_Common.E N) 394 parquetref04_Common.b3 s k) n [.c (.int .i64 x3), .c (.int .i64 x4)] [] k = parquetref04_Common.l3 N n x3 x4 (fun x5 => k (.exit 0) ⟨mkT parquetref04_Common.h3.out [.c (.int .i64 x5)], []⟩) := by
  induction n generalizing x3 x4 with
  | zero => kernel_rfl
  | succ n ih =>
    simp only [parquetref04_Common.l3, ← ih]
    kernel_rfl
noncomputable def parquetref04_Common.dec (v : V) (bs : List Blk) : Option (Int) := match v, bs with
  | .c (.int .i64 z0), [] => some z0
  | _, _ => none
set_option maxRecDepth 100000 in
theorem parquetref04_Common.f_eq (N : Nat) (a1 : Int) (a2 : Int) :
    evFun (parquetref04_Common.E N) parquetref04_Common.body [.c (.int .i64 a1), .c (.int .i64 a2)] [] parquetref04_Common.dec = parquetref04_Common.f N a1 a2 := by kernel_rfl
noncomputable def parquetref04_Common.ent (N : Nat) : Entry := { A := Int, fresh := 0, imm := [true, true], dec := fun args bs => match freezeL 0 (fun _ => .dead) [.any, .any] args, bs with
  | some [.c (.int .i64 a1), .c (.int .i64 a2)], [] => some (parquetref04_Common.f N a1 a2, fun r => .one (.c (.int .i64 r)) [])
  | _, _ => none }
theorem parquetref04_Common.env (N : Nat) : EnvOK Tryz.prog (parquetref04_Common.E N) := ⟨TyOK.nil, TabOK.nil⟩
theorem parquetref04_Common.res_eq (N : Nat) : (parquetref04_Common.E N).res = Tryz.f48.results.toList := by kernel_rfl
theorem parquetref04_Common.k3 (N : Nat) : CutOK Tryz.prog Tryz.f48 (parquetref04_Common.E N) (.loop parquetref04_Common.b3) := by
  intro e hd he hh R vs H k r h
  have e1 : (parquetref04_Common.E N).cut (loopKey parquetref04_Common.b3) = some (parquetref04_Common.c3 N) := by kernel_rfl
  have e2 : (parquetref04_Common.E N).hint (loopKey parquetref04_Common.b3) = some parquetref04_Common.h3 := by kernel_rfl
  rw [e1] at he; rw [e2] at hh; cases he; cases hh
  unfold parquetref04_Common.c3 at h; dsimp only at h
  split at h
  · rw [← parquetref04_Common.l3_eq] at h
    exact loop_ok (evCode_ok (parquetref04_Common.env N) Tryz_mixed (parquetref04_Common.res_eq N) 394 parquetref04_Common.b3 (AllCut.of (l := []) (by kernel_rfl) AllCut.nil)) h
  · cases h
theorem parquetref04_Common.spec (N : Nat) (a1 : Int) (a2 : Int) (r : Int) (h : parquetref04_Common.f N a1 a2 = some r) : FnSpec Tryz.prog 48 [.c (.int .i64 a1), .c (.int .i64 a2)] [] (.c (.int .i64 r)) ([]) := by
  rw [← parquetref04_Common.f_eq] at h
  obtain ⟨v, bs', h1, h2⟩ := evFun_ok (parquetref04_Common.env N) Tryz_mixed Tryz.func48 (by kernel_rfl : Tryz.f48.body = some parquetref04_Common.body) (by kernel_rfl) (parquetref04_Common.res_eq N) (by kernel_rfl) (by kernel_rfl) (Nat.le_of_ble_eq_true (by kernel_rfl)) (AllCut.of (l := [(.loop (inner ((subLoops parquetref04_Common.body).getD 0 .skip)))]) (by kernel_rfl) (AllCut.cons (parquetref04_Common.k3 N) AllCut.nil)) h
  unfold parquetref04_Common.dec at h1; split at h1
  · cases h1; exact h2
  · cases h1
theorem parquetref04_Common.ent_ok (N : Nat) : TabOK1 Tryz.prog 48 (parquetref04_Common.ent N) := by
  intro args bs a enc h
  simp only [parquetref04_Common.ent] at h
  split at h
  · rename_i hz; have h0 := Option.some.inj h; have h1 := congrArg Prod.fst h0; have h2 := congrArg Prod.snd h0; dsimp only at h1 h2; subst h2; exact FnSpec.of_freeze hz (parquetref04_Common.spec N _ _ a h1)
  · cases h
/-! parquet/parquetref08.small: function 45 -/
noncomputable def parquetref08_small.f (N : Nat) (a1 : Int) : Option (Bool) :=
  bif decide (a1 ≥ (-1073741824)) then
    some (decide (a1 ≤ 1073741824))
  else
  some false
noncomputable def parquetref08_small.body : Code := (Tryz.f45.body).getD .skip
noncomputable def parquetref08_small.ty : List (Nat × TI) := []
noncomputable def parquetref08_small.E (N : Nat) : Env := { ty := lookN parquetref08_small.ty, tab := lookN [], hint := lookN [], cut := lookN [], N := N, res := [.tmp 2], rsh := [.any], nb := 0, ntmps := 9, own := false }
noncomputable def parquetref08_small.dec (v : V) (bs : List Blk) : Option (Bool) := match v, bs with
  | .c (.bool z0), [] => some z0
  | _, _ => none
set_option maxRecDepth 100000 in
theorem parquetref08_small.f_eq (N : Nat) (a1 : Int) :
    evFun (parquetref08_small.E N) parquetref08_small.body [.c (.int .i64 a1)] [] parquetref08_small.dec = parquetref08_small.f N a1 := by kernel_rfl
noncomputable def parquetref08_small.ent (N : Nat) : Entry := { A := Bool, fresh := 0, imm := [true], dec := fun args bs => match freezeL 0 (fun _ => .dead) [.any] args, bs with
  | some [.c (.int .i64 a1)], [] => some (parquetref08_small.f N a1, fun r => .one (.c (.bool r)) [])
  | _, _ => none }
theorem parquetref08_small.env (N : Nat) : EnvOK Tryz.prog (parquetref08_small.E N) := ⟨TyOK.nil, TabOK.nil⟩
theorem parquetref08_small.res_eq (N : Nat) : (parquetref08_small.E N).res = Tryz.f45.results.toList := by kernel_rfl
theorem parquetref08_small.spec (N : Nat) (a1 : Int) (r : Bool) (h : parquetref08_small.f N a1 = some r) : FnSpec Tryz.prog 45 [.c (.int .i64 a1)] [] (.c (.bool r)) ([]) := by
  rw [← parquetref08_small.f_eq] at h
  obtain ⟨v, bs', h1, h2⟩ := evFun_ok (parquetref08_small.env N) Tryz_mixed Tryz.func45 (by kernel_rfl : Tryz.f45.body = some parquetref08_small.body) (by kernel_rfl) (parquetref08_small.res_eq N) (by kernel_rfl) (by kernel_rfl) (Nat.le_of_ble_eq_true (by kernel_rfl)) (AllCut.of (l := []) (by kernel_rfl) AllCut.nil) h
  unfold parquetref08_small.dec at h1; split at h1
  · cases h1; exact h2
  · cases h1
theorem parquetref08_small.ent_ok (N : Nat) : TabOK1 Tryz.prog 45 (parquetref08_small.ent N) := by
  intro args bs a enc h
  simp only [parquetref08_small.ent] at h
  split at h
  · rename_i hz; have h0 := Option.some.inj h; have h1 := congrArg Prod.fst h0; have h2 := congrArg Prod.snd h0; dsimp only at h1 h2; subst h2; exact FnSpec.of_freeze hz (parquetref08_small.spec N _ a h1)
  · cases h
/-! parquet/parquetref08.In: function 28 -/
noncomputable def parquetref08_In.f (N : Nat) (a1 : Int) (a2 : Int) (a3 : Int) : Option (Bool) :=
  (parquetref08_small.f N a1).bind fun r4 =>
  bif r4 then
    (parquetref08_small.f N a2).bind fun r5 =>
    bif r5 then
      (parquetref08_small.f N a3).bind fun r6 =>
      some r6
    else
    some false
  else
  some false
noncomputable def parquetref08_In.body : Code := (Tryz.f28.body).getD .skip
noncomputable def parquetref08_In.ty : List (Nat × TI) := [(2, ty2), (23, ty23)]
noncomputable def parquetref08_In.E (N : Nat) : Env := { ty := lookN parquetref08_In.ty, tab := lookN [(45, parquetref08_small.ent N)], hint := lookN [], cut := lookN [], N := N, res := [.tmp 2], rsh := [.any], nb := 0, ntmps := 16, own := false }
noncomputable def parquetref08_In.dec (v : V) (bs : List Blk) : Option (Bool) := match v, bs with
  | .c (.bool z0), [] => some z0
  | _, _ => none
set_option maxRecDepth 100000 in
theorem parquetref08_In.f_eq (N : Nat) (a1 : Int) (a2 : Int) (a3 : Int) :
    evFun (parquetref08_In.E N) parquetref08_In.body [.agg [.c (.int .i64 a1), .c (.int .i64 a2), .c (.int .i64 a3)]] [] parquetref08_In.dec = parquetref08_In.f N a1 a2 a3 := by kernel_rfl
noncomputable def parquetref08_In.ent (N : Nat) : Entry := { A := Bool, fresh := 0, imm := [true], dec := fun args bs => match freezeL 0 (fun _ => .dead) [.recd [.any, .any, .any]] args, bs with
  | some [.agg [.c (.int .i64 a1), .c (.int .i64 a2), .c (.int .i64 a3)]], [] => some (parquetref08_In.f N a1 a2 a3, fun r => .one (.c (.bool r)) [])
  | _, _ => none }
theorem parquetref08_In.env (N : Nat) : EnvOK Tryz.prog (parquetref08_In.E N) := ⟨(TyOK.cons ty2_ok (TyOK.cons ty23_ok TyOK.nil)), (TabOK.cons (parquetref08_small.ent_ok N) TabOK.nil)⟩
theorem parquetref08_In.res_eq (N : Nat) : (parquetref08_In.E N).res = Tryz.f28.results.toList := by kernel_rfl
theorem parquetref08_In.spec (N : Nat) (a1 : Int) (a2 : Int) (a3 : Int) (r : Bool) (h : parquetref08_In.f N a1 a2 a3 = some r) : FnSpec Tryz.prog 28 [.agg [.c (.int .i64 a1), .c (.int .i64 a2), .c (.int .i64 a3)]] [] (.c (.bool r)) ([]) := by
  rw [← parquetref08_In.f_eq] at h
  obtain ⟨v, bs', h1, h2⟩ := evFun_ok (parquetref08_In.env N) Tryz_mixed Tryz.func28 (by kernel_rfl : Tryz.f28.body = some parquetref08_In.body) (by kernel_rfl) (parquetref08_In.res_eq N) (by kernel_rfl) (by kernel_rfl) (Nat.le_of_ble_eq_true (by kernel_rfl)) (AllCut.of (l := []) (by kernel_rfl) AllCut.nil) h
  unfold parquetref08_In.dec at h1; split at h1
  · cases h1; exact h2
  · cases h1
theorem parquetref08_In.ent_ok (N : Nat) : TabOK1 Tryz.prog 28 (parquetref08_In.ent N) := by
  intro args bs a enc h
  simp only [parquetref08_In.ent] at h
  split at h
  · rename_i hz; have h0 := Option.some.inj h; have h1 := congrArg Prod.fst h0; have h2 := congrArg Prod.snd h0; dsimp only at h1 h2; subst h2; exact FnSpec.of_freeze hz (parquetref08_In.spec N _ _ _ a h1)
  · cases h
/-! parquet/parquetref08.Disc: function 18 -/
noncomputable def parquetref08_Disc.f (N : Nat) (a1 : Int) (a2 : Int) (a3 : Int) : Option (Int) :=
  (parquetref08_In.f N a1 a2 a3).bind fun r4 =>
  bif !r4 then
    some 0
  else
  some (wi64 ((wi64 (a2 * a2)) - (wi64 ((wi64 (4 * a1)) * a3))))
noncomputable def parquetref08_Disc.body : Code := (Tryz.f18.body).getD .skip
noncomputable def parquetref08_Disc.ty : List (Nat × TI) := [(2, ty2), (23, ty23)]
noncomputable def parquetref08_Disc.E (N : Nat) : Env := { ty := lookN parquetref08_Disc.ty, tab := lookN [(28, parquetref08_In.ent N)], hint := lookN [], cut := lookN [], N := N, res := [.tmp 2], rsh := [.any], nb := 0, ntmps := 18, own := false }
noncomputable def parquetref08_Disc.dec (v : V) (bs : List Blk) : Option (Int) := match v, bs with
  | .c (.int .i64 z0), [] => some z0
  | _, _ => none
set_option maxRecDepth 100000 in
theorem parquetref08_Disc.f_eq (N : Nat) (a1 : Int) (a2 : Int) (a3 : Int) :
    evFun (parquetref08_Disc.E N) parquetref08_Disc.body [.agg [.c (.int .i64 a1), .c (.int .i64 a2), .c (.int .i64 a3)]] [] parquetref08_Disc.dec = parquetref08_Disc.f N a1 a2 a3 := by kernel_rfl
noncomputable def parquetref08_Disc.ent (N : Nat) : Entry := { A := Int, fresh := 0, imm := [true], dec := fun args bs => match freezeL 0 (fun _ => .dead) [.recd [.any, .any, .any]] args, bs with
  | some [.agg [.c (.int .i64 a1), .c (.int .i64 a2), .c (.int .i64 a3)]], [] => some (parquetref08_Disc.f N a1 a2 a3, fun r => .one (.c (.int .i64 r)) [])
  | _, _ => none }
theorem parquetref08_Disc.env (N : Nat) : EnvOK Tryz.prog (parquetref08_Disc.E N) := ⟨(TyOK.cons ty2_ok (TyOK.cons ty23_ok TyOK.nil)), (TabOK.cons (parquetref08_In.ent_ok N) TabOK.nil)⟩
theorem parquetref08_Disc.res_eq (N : Nat) : (parquetref08_Disc.E N).res = Tryz.f18.results.toList := by kernel_rfl
theorem parquetref08_Disc.spec (N : Nat) (a1 : Int) (a2 : Int) (a3 : Int) (r : Int) (h : parquetref08_Disc.f N a1 a2 a3 = some r) : FnSpec Tryz.prog 18 [.agg [.c (.int .i64 a1), .c (.int .i64 a2), .c (.int .i64 a3)]] [] (.c (.int .i64 r)) ([]) := by
  rw [← parquetref08_Disc.f_eq] at h
  obtain ⟨v, bs', h1, h2⟩ := evFun_ok (parquetref08_Disc.env N) Tryz_mixed Tryz.func18 (by kernel_rfl : Tryz.f18.body = some parquetref08_Disc.body) (by kernel_rfl) (parquetref08_Disc.res_eq N) (by kernel_rfl) (by kernel_rfl) (Nat.le_of_ble_eq_true (by kernel_rfl)) (AllCut.of (l := []) (by kernel_rfl) AllCut.nil) h
  unfold parquetref08_Disc.dec at h1; split at h1
  · cases h1; exact h2
  · cases h1
theorem parquetref08_Disc.ent_ok (N : Nat) : TabOK1 Tryz.prog 18 (parquetref08_Disc.ent N) := by
  intro args bs a enc h
  simp only [parquetref08_Disc.ent] at h
  split at h
  · rename_i hz; have h0 := Option.some.inj h; have h1 := congrArg Prod.fst h0; have h2 := congrArg Prod.snd h0; dsimp only at h1 h2; subst h2; exact FnSpec.of_freeze hz (parquetref08_Disc.spec N _ _ _ a h1)
  · cases h
/-! parquet/parquetref08.Check: function 16 -/
noncomputable def parquetref08_Check.f (N : Nat) (a1 : Int) (a2 : Int) (a3 : Int) : Option (Int) :=
  (parquetref08_In.f N a1 a2 a3).bind fun r4 =>
  bif !r4 then
    some 3
  else
  bif decide (a1 ≤ 0) then
    some 81
  else
  (parquetref08_Disc.f N a1 a2 a3).bind fun r5 =>
  bif decide (r5 ≥ 0) then
    some 81
  else
  (parquetref08_Disc.f N a1 a2 a3).bind fun r6 =>
  bif decide (r6 < (-4294967296)) then
    some 80
  else
  some 0
noncomputable def parquetref08_Check.body : Code := (Tryz.f16.body).getD .skip
noncomputable def parquetref08_Check.ty : List (Nat × TI) := [(2, ty2), (23, ty23)]
noncomputable def parquetref08_Check.E (N : Nat) : Env := { ty := lookN parquetref08_Check.ty, tab := lookN [(28, parquetref08_In.ent N), (18, parquetref08_Disc.ent N)], hint := lookN [], cut := lookN [], N := N, res := [.tmp 2], rsh := [.any], nb := 0, ntmps := 17, own := false }
noncomputable def parquetref08_Check.dec (v : V) (bs : List Blk) : Option (Int) := match v, bs with
  | .c (.int .i64 z0), [] => some z0
  | _, _ => none
set_option maxRecDepth 100000 in
theorem parquetref08_Check.f_eq (N : Nat) (a1 : Int) (a2 : Int) (a3 : Int) :
    evFun (parquetref08_Check.E N) parquetref08_Check.body [.agg [.c (.int .i64 a1), .c (.int .i64 a2), .c (.int .i64 a3)]] [] parquetref08_Check.dec = parquetref08_Check.f N a1 a2 a3 := by kernel_rfl
noncomputable def parquetref08_Check.ent (N : Nat) : Entry := { A := Int, fresh := 0, imm := [true], dec := fun args bs => match freezeL 0 (fun _ => .dead) [.recd [.any, .any, .any]] args, bs with
  | some [.agg [.c (.int .i64 a1), .c (.int .i64 a2), .c (.int .i64 a3)]], [] => some (parquetref08_Check.f N a1 a2 a3, fun r => .one (.c (.int .i64 r)) [])
  | _, _ => none }
theorem parquetref08_Check.env (N : Nat) : EnvOK Tryz.prog (parquetref08_Check.E N) := ⟨(TyOK.cons ty2_ok (TyOK.cons ty23_ok TyOK.nil)), (TabOK.cons (parquetref08_In.ent_ok N) (TabOK.cons (parquetref08_Disc.ent_ok N) TabOK.nil))⟩
theorem parquetref08_Check.res_eq (N : Nat) : (parquetref08_Check.E N).res = Tryz.f16.results.toList := by kernel_rfl
theorem parquetref08_Check.spec (N : Nat) (a1 : Int) (a2 : Int) (a3 : Int) (r : Int) (h : parquetref08_Check.f N a1 a2 a3 = some r) : FnSpec Tryz.prog 16 [.agg [.c (.int .i64 a1), .c (.int .i64 a2), .c (.int .i64 a3)]] [] (.c (.int .i64 r)) ([]) := by
  rw [← parquetref08_Check.f_eq] at h
  obtain ⟨v, bs', h1, h2⟩ := evFun_ok (parquetref08_Check.env N) Tryz_mixed Tryz.func16 (by kernel_rfl : Tryz.f16.body = some parquetref08_Check.body) (by kernel_rfl) (parquetref08_Check.res_eq N) (by kernel_rfl) (by kernel_rfl) (Nat.le_of_ble_eq_true (by kernel_rfl)) (AllCut.of (l := []) (by kernel_rfl) AllCut.nil) h
  unfold parquetref08_Check.dec at h1; split at h1
  · cases h1; exact h2
  · cases h1
theorem parquetref08_Check.ent_ok (N : Nat) : TabOK1 Tryz.prog 16 (parquetref08_Check.ent N) := by
  intro args bs a enc h
  simp only [parquetref08_Check.ent] at h
  split at h
  · rename_i hz; have h0 := Option.some.inj h; have h1 := congrArg Prod.fst h0; have h2 := congrArg Prod.snd h0; dsimp only at h1 h2; subst h2; exact FnSpec.of_freeze hz (parquetref08_Check.spec N _ _ _ a h1)
  · cases h
/-! parquet/parquetref08.Is: function 46 -/
noncomputable def parquetref08_Is.f (N : Nat) (a1 : Int) (a2 : Int) (a3 : Int) : Option (Bool) :=
  bif decide ((wi64 (0 - a1)) < a2) then
    bif decide (a2 ≤ a1) then
      bif decide (a1 ≤ a3) then
        bif decide (a2 ≥ 0) then
          some true
        else
        some (a1 != a3)
      else
      some false
    else
    some false
  else
  some false
noncomputable def parquetref08_Is.body : Code := (Tryz.f46.body).getD .skip
noncomputable def parquetref08_Is.ty : List (Nat × TI) := [(2, ty2), (23, ty23)]
noncomputable def parquetref08_Is.E (N : Nat) : Env := { ty := lookN parquetref08_Is.ty, tab := lookN [], hint := lookN [], cut := lookN [], N := N, res := [.tmp 2], rsh := [.any], nb := 0, ntmps := 35, own := false }
noncomputable def parquetref08_Is.dec (v : V) (bs : List Blk) : Option (Bool) := match v, bs with
  | .c (.bool z0), [] => some z0
  | _, _ => none
set_option maxRecDepth 100000 in
theorem parquetref08_Is.f_eq (N : Nat) (a1 : Int) (a2 : Int) (a3 : Int) :
    evFun (parquetref08_Is.E N) parquetref08_Is.body [.agg [.c (.int .i64 a1), .c (.int .i64 a2), .c (.int .i64 a3)]] [] parquetref08_Is.dec = parquetref08_Is.f N a1 a2 a3 := by kernel_rfl
noncomputable def parquetref08_Is.ent (N : Nat) : Entry := { A := Bool, fresh := 0, imm := [true], dec := fun args bs => match freezeL 0 (fun _ => .dead) [.recd [.any, .any, .any]] args, bs with
  | some [.agg [.c (.int .i64 a1), .c (.int .i64 a2), .c (.int .i64 a3)]], [] => some (parquetref08_Is.f N a1 a2 a3, fun r => .one (.c (.bool r)) [])
  | _, _ => none }
theorem parquetref08_Is.env (N : Nat) : EnvOK Tryz.prog (parquetref08_Is.E N) := ⟨(TyOK.cons ty2_ok (TyOK.cons ty23_ok TyOK.nil)), TabOK.nil⟩
theorem parquetref08_Is.res_eq (N : Nat) : (parquetref08_Is.E N).res = Tryz.f46.results.toList := by kernel_rfl
theorem parquetref08_Is.spec (N : Nat) (a1 : Int) (a2 : Int) (a3 : Int) (r : Bool) (h : parquetref08_Is.f N a1 a2 a3 = some r) : FnSpec Tryz.prog 46 [.agg [.c (.int .i64 a1), .c (.int .i64 a2), .c (.int .i64 a3)]] [] (.c (.bool r)) ([]) := by
  rw [← parquetref08_Is.f_eq] at h
  obtain ⟨v, bs', h1, h2⟩ := evFun_ok (parquetref08_Is.env N) Tryz_mixed Tryz.func46 (by kernel_rfl : Tryz.f46.body = some parquetref08_Is.body) (by kernel_rfl) (parquetref08_Is.res_eq N) (by kernel_rfl) (by kernel_rfl) (Nat.le_of_ble_eq_true (by kernel_rfl)) (AllCut.of (l := []) (by kernel_rfl) AllCut.nil) h
  unfold parquetref08_Is.dec at h1; split at h1
  · cases h1; exact h2
  · cases h1
theorem parquetref08_Is.ent_ok (N : Nat) : TabOK1 Tryz.prog 46 (parquetref08_Is.ent N) := by
  intro args bs a enc h
  simp only [parquetref08_Is.ent] at h
  split at h
  · rename_i hz; have h0 := Option.some.inj h; have h1 := congrArg Prod.fst h0; have h2 := congrArg Prod.snd h0; dsimp only at h1 h2; subst h2; exact FnSpec.of_freeze hz (parquetref08_Is.spec N _ _ _ a h1)
  · cases h
/-! parquet/parquetref08.Floor: function 47 -/
noncomputable def parquetref08_Floor.f (N : Nat) (a1 : Int) (a2 : Int) : Option (Int) :=
  (parquetref04_Mod.f N a1 a2).bind fun r3 =>
  bif !(a2 == 0) then
    some (wi64 (Int.tdiv (wi64 (a1 - r3)) a2))
  else none
noncomputable def parquetref08_Floor.body : Code := (Tryz.f47.body).getD .skip
noncomputable def parquetref08_Floor.ty : List (Nat × TI) := []
noncomputable def parquetref08_Floor.E (N : Nat) : Env := { ty := lookN parquetref08_Floor.ty, tab := lookN [(33, parquetref04_Mod.ent N)], hint := lookN [], cut := lookN [], N := N, res := [.tmp 4], rsh := [.any], nb := 0, ntmps := 12, own := false }
noncomputable def parquetref08_Floor.dec (v : V) (bs : List Blk) : Option (Int) := match v, bs with
  | .c (.int .i64 z0), [] => some z0
  | _, _ => none
set_option maxRecDepth 100000 in
theorem parquetref08_Floor.f_eq (N : Nat) (a1 : Int) (a2 : Int) :
    evFun (parquetref08_Floor.E N) parquetref08_Floor.body [.c (.int .i64 a1), .c (.int .i64 a2)] [] parquetref08_Floor.dec = parquetref08_Floor.f N a1 a2 := by kernel_rfl
noncomputable def parquetref08_Floor.ent (N : Nat) : Entry := { A := Int, fresh := 0, imm := [true, true], dec := fun args bs => match freezeL 0 (fun _ => .dead) [.any, .any] args, bs with
  | some [.c (.int .i64 a1), .c (.int .i64 a2)], [] => some (parquetref08_Floor.f N a1 a2, fun r => .one (.c (.int .i64 r)) [])
  | _, _ => none }
theorem parquetref08_Floor.env (N : Nat) : EnvOK Tryz.prog (parquetref08_Floor.E N) := ⟨TyOK.nil, (TabOK.cons (parquetref04_Mod.ent_ok N) TabOK.nil)⟩
theorem parquetref08_Floor.res_eq (N : Nat) : (parquetref08_Floor.E N).res = Tryz.f47.results.toList := by kernel_rfl
theorem parquetref08_Floor.spec (N : Nat) (a1 : Int) (a2 : Int) (r : Int) (h : parquetref08_Floor.f N a1 a2 = some r) : FnSpec Tryz.prog 47 [.c (.int .i64 a1), .c (.int .i64 a2)] [] (.c (.int .i64 r)) ([]) := by
  rw [← parquetref08_Floor.f_eq] at h
  obtain ⟨v, bs', h1, h2⟩ := evFun_ok (parquetref08_Floor.env N) Tryz_mixed Tryz.func47 (by kernel_rfl : Tryz.f47.body = some parquetref08_Floor.body) (by kernel_rfl) (parquetref08_Floor.res_eq N) (by kernel_rfl) (by kernel_rfl) (Nat.le_of_ble_eq_true (by kernel_rfl)) (AllCut.of (l := []) (by kernel_rfl) AllCut.nil) h
  unfold parquetref08_Floor.dec at h1; split at h1
  · cases h1; exact h2
  · cases h1
theorem parquetref08_Floor.ent_ok (N : Nat) : TabOK1 Tryz.prog 47 (parquetref08_Floor.ent N) := by
  intro args bs a enc h
  simp only [parquetref08_Floor.ent] at h
  split at h
  · rename_i hz; have h0 := Option.some.inj h; have h1 := congrArg Prod.fst h0; have h2 := congrArg Prod.snd h0; dsimp only at h1 h2; subst h2; exact FnSpec.of_freeze hz (parquetref08_Floor.spec N _ _ a h1)
  · cases h
/-! parquet/parquetref08.Reduce: function 29 -/
noncomputable def parquetref08_Reduce.l5 {R : Type} (N : Nat) : Nat → Int → Int → Int → Int → Int → Int → Int → Int → Int → Int → Int → Int → Int → Int → (Int → Int → Int → Int → Int → Int → Int → Int → Int → Int → Int → Int → Int → Int → Option R) → Option R
  | 0, _, _, _, _, _, _, _, _, _, _, _, _, _, _, _ => none
  | n + 1, x5, x6, x7, x8, x9, x10, x11, x12, x13, x14, x15, x16, x17, x18, k0 =>
    (parquetref08_Is.f N x5 x6 x7).bind fun r19 =>
    bif !r19 then
      bif decide ((wi64 (0 - x5)) ≥ x6) then
        (parquetref08_Floor.f N (wi64 (x5 - x6)) (wi64 (2 * x5))).bind fun r20 =>
        parquetref08_Reduce.l5 N n x5 (wi64 (x6 + (wi64 ((wi64 (2 * r20)) * x5)))) (wi64 ((wi64 ((wi64 ((wi64 (x5 * r20)) + x6)) * r20)) + x7)) x8 x9 x10 x11 x12 x13 x14 x15 (wi64 ((wi64 (r20 * x15)) + x16)) x17 (wi64 ((wi64 (r20 * x17)) + x18)) k0
      else
      bif decide (x6 > x5) then
        (parquetref08_Floor.f N (wi64 (x5 - x6)) (wi64 (2 * x5))).bind fun r21 =>
        parquetref08_Reduce.l5 N n x5 (wi64 (x6 + (wi64 ((wi64 (2 * r21)) * x5)))) (wi64 ((wi64 ((wi64 ((wi64 (x5 * r21)) + x6)) * r21)) + x7)) x8 x9 x10 x11 x12 x13 x14 x15 (wi64 ((wi64 (r21 * x15)) + x16)) x17 (wi64 ((wi64 (r21 * x17)) + x18)) k0
      else
      parquetref08_Reduce.l5 N n x7 (wi64 (0 - x6)) x5 x8 x9 x10 x11 x12 x13 x14 x16 (wi64 (0 - x15)) x18 (wi64 (0 - x17)) k0
    else
    k0 x5 x6 x7 x8 x9 x10 x11 x12 x13 x14 x15 x16 x17 x18
noncomputable def parquetref08_Reduce.f (N : Nat) (a1 : Int) (a2 : Int) (a3 : Int) : Option (Int × Int × Int × Int × Int × Int × Int × Int) :=
  (parquetref08_Check.f N a1 a2 a3).bind fun r4 =>
  bif r4 != 0 then
    some (0, 0, 0, 0, 0, 0, 0, r4)
  else
  parquetref08_Reduce.l5 N N a1 a2 a3 0 0 0 0 0 0 0 1 0 0 1
    (fun y36 y37 y38 y39 y40 y41 y42 y43 y44 y45 y46 y47 y48 y49 =>
      some (y36, y37, y38, y46, y47, y48, y49, 0))
noncomputable def parquetref08_Reduce.body : Code := (Tryz.f29.body).getD .skip
noncomputable def parquetref08_Reduce.ty : List (Nat × TI) := [(2, ty2), (23, ty23), (37, ty37)]
noncomputable def parquetref08_Reduce.h5 : Hint := ⟨[(1, .box [.any, .any, .any]), (2, .box [.any, .any, .any]), (3, .box [.any, .any, .any, .any]), (6, .box [.any, .any, .any, .any])], [(1, .box [.any, .any, .any]), (2, .box [.any, .any, .any]), (3, .box [.any, .any, .any, .any]), (6, .box [.any, .any, .any, .any])]⟩
noncomputable def parquetref08_Reduce.c5 (N : Nat) : Cut := ⟨fun vs H k => match vs, H with
  | [.ptr 0 0 3, .ptr 1 0 3, .ptr 2 0 4, .ptr 3 0 4], [.vals [.c (.int .i64 x5), .c (.int .i64 x6), .c (.int .i64 x7)], .vals [.c (.int .i64 x8), .c (.int .i64 x9), .c (.int .i64 x10)], .vals [.c (.int .i64 x11), .c (.int .i64 x12), .c (.int .i64 x13), .c (.int .i64 x14)], .vals [.c (.int .i64 x15), .c (.int .i64 x16), .c (.int .i64 x17), .c (.int .i64 x18)]] => parquetref08_Reduce.l5 N N x5 x6 x7 x8 x9 x10 x11 x12 x13 x14 x15 x16 x17 x18 (fun x22 x23 x24 x25 x26 x27 x28 x29 x30 x31 x32 x33 x34 x35 => k (.exit 0) ⟨mkT parquetref08_Reduce.h5.out [.ptr 0 0 3, .ptr 1 0 3, .ptr 2 0 4, .ptr 3 0 4], [.vals [.c (.int .i64 x22), .c (.int .i64 x23), .c (.int .i64 x24)], .vals [.c (.int .i64 x25), .c (.int .i64 x26), .c (.int .i64 x27)], .vals [.c (.int .i64 x28), .c (.int .i64 x29), .c (.int .i64 x30), .c (.int .i64 x31)], .vals [.c (.int .i64 x32), .c (.int .i64 x33), .c (.int .i64 x34), .c (.int .i64 x35)]]⟩)
  | _, _ => none⟩
noncomputable def parquetref08_Reduce.E (N : Nat) : Env := { ty := lookN parquetref08_Reduce.ty, tab := lookN [(16, parquetref08_Check.ent N), (46, parquetref08_Is.ent N), (47, parquetref08_Floor.ent N)], hint := lookN [(5, parquetref08_Reduce.h5)], cut := lookN [(5, parquetref08_Reduce.c5 N)], N := N, res := [.cell 2 23, .cell 3 37, .tmp 4], rsh := [.recd [.any, .any, .any], .recd [.any, .any, .any, .any], .any], nb := 0, ntmps := 104, own := false }
noncomputable def parquetref08_Reduce.b5 : Code := inner ((subLoops parquetref08_Reduce.body).getD 0 .skip)
set_option maxRecDepth 100000 in
theorem parquetref08_Reduce.l5_eq {R : Type} (N n : Nat) (x5 : Int) (x6 : Int) (x7 : Int) (x8 : Int) (x9 : Int) (x10 : Int) (x11 : Int) (x12 : Int) (x13 : Int) (x14 : Int) (x15 : Int) (x16 : Int) (x17 : Int) (x18 : Int) (k : Ex → St → Option R) :
    evLoop 0 parquetref08_Reduce.h5 (fun s k => evCode (parquetref08_Reduce.E N) 393 parquetref08_Reduce.b5 s k) n [.ptr 0 0 3, .ptr 1 0 3, .ptr 2 0 4, .ptr 3 0 4] [.vals [.c (.int .i64 x5), .c (.int .i64 x6), .c (.int .i64 x7)], .vals [.c (.int .i64 x8), .c (.int .i64 x9), .c (.int .i64 x10)], .vals [.c (.int .i64 x11), .c (.int .i64 x12), .c (.int .i64 x13), .c (.int .i64 x14)], .vals [.c (.int .i64 x15), .c (.int .i64 x16), .c (.int .i64 x17), .c (.int .i64 x18)]] k = parquetref08_Reduce.l5 N n x5 x6 x7 x8 x9 x10 x11 x12 x13 x14 x15 x16 x17 x18 (fun x22 x23 x24 x25 x26 x27 x28 x29 x30 x31 x32 x33 x34 x35 => k (.exit 0) ⟨mkT parquetref08_Reduce.h5.out [.ptr 0 0 3, .ptr 1 0 3, .ptr 2 0 4, .ptr 3 0 4], [.vals [.c (.int .i64 x22), .c (.int .i64 x23), .c (.int .i64 x24)], .vals [.c (.int .i64 x25), .c (.int .i64 x26), .c (.int .i64 x27)], .vals [.c (.int .i64 x28), .c (.int .i64 x29), .c (.int .i64 x30), .c (.int .i64 x31)], .vals [.c (.int .i64 x32), .c (.int .i64 x33), .c (.int .i64 x34), .c (.int .i64 x35)]]⟩) := by
  induction n generalizing x5 x6 x7 x8 x9 x10 x11 x12 x13 x14 x15 x16 x17 x18 with
  | zero => kernel_rfl
  | succ n ih =>
    simp only [parquetref08_Reduce.l5, ← ih]
    kernel_rfl
noncomputable def parquetref08_Reduce.dec (v : V) (bs : List Blk) : Option (Int × Int × Int × Int × Int × Int × Int × Int) := match v, bs with
  | .tup [.agg [.c (.int .i64 z0), .c (.int .i64 z1), .c (.int .i64 z2)], .agg [.c (.int .i64 z3), .c (.int .i64 z4), .c (.int .i64 z5), .c (.int .i64 z6)], .c (.int .i64 z7)], [] => some (z0, z1, z2, z3, z4, z5, z6, z7)
  | _, _ => none
set_option maxRecDepth 100000 in
theorem parquetref08_Reduce.f_eq (N : Nat) (a1 : Int) (a2 : Int) (a3 : Int) :
    evFun (parquetref08_Reduce.E N) parquetref08_Reduce.body [.agg [.c (.int .i64 a1), .c (.int .i64 a2), .c (.int .i64 a3)]] [] parquetref08_Reduce.dec = parquetref08_Reduce.f N a1 a2 a3 := by kernel_rfl
noncomputable def parquetref08_Reduce.ent (N : Nat) : Entry := { A := Int × Int × Int × Int × Int × Int × Int × Int, fresh := 0, imm := [true], dec := fun args bs => match freezeL 0 (fun _ => .dead) [.recd [.any, .any, .any]] args, bs with
  | some [.agg [.c (.int .i64 a1), .c (.int .i64 a2), .c (.int .i64 a3)]], [] => some (parquetref08_Reduce.f N a1 a2 a3, fun r => .one (.tup [.agg [.c (.int .i64 r.1), .c (.int .i64 r.2.1), .c (.int .i64 r.2.2.1)], .agg [.c (.int .i64 r.2.2.2.1), .c (.int .i64 r.2.2.2.2.1), .c (.int .i64 r.2.2.2.2.2.1), .c (.int .i64 r.2.2.2.2.2.2.1)], .c (.int .i64 r.2.2.2.2.2.2.2)]) [])
  | _, _ => none }
theorem parquetref08_Reduce.env (N : Nat) : EnvOK Tryz.prog (parquetref08_Reduce.E N) := ⟨(TyOK.cons ty2_ok (TyOK.cons ty23_ok (TyOK.cons ty37_ok TyOK.nil))), (TabOK.cons (parquetref08_Check.ent_ok N) (TabOK.cons (parquetref08_Is.ent_ok N) (TabOK.cons (parquetref08_Floor.ent_ok N) TabOK.nil)))⟩
theorem parquetref08_Reduce.res_eq (N : Nat) : (parquetref08_Reduce.E N).res = Tryz.f29.results.toList := by kernel_rfl
theorem parquetref08_Reduce.k5 (N : Nat) : CutOK Tryz.prog Tryz.f29 (parquetref08_Reduce.E N) (.loop parquetref08_Reduce.b5) := by
  intro e hd he hh R vs H k r h
  have e1 : (parquetref08_Reduce.E N).cut (loopKey parquetref08_Reduce.b5) = some (parquetref08_Reduce.c5 N) := by kernel_rfl
  have e2 : (parquetref08_Reduce.E N).hint (loopKey parquetref08_Reduce.b5) = some parquetref08_Reduce.h5 := by kernel_rfl
  rw [e1] at he; rw [e2] at hh; cases he; cases hh
  unfold parquetref08_Reduce.c5 at h; dsimp only at h
  split at h
  · rw [← parquetref08_Reduce.l5_eq] at h
    exact loop_ok (evCode_ok (parquetref08_Reduce.env N) Tryz_mixed (parquetref08_Reduce.res_eq N) 393 parquetref08_Reduce.b5 (AllCut.of (l := []) (by kernel_rfl) AllCut.nil)) h
  · cases h
theorem parquetref08_Reduce.spec (N : Nat) (a1 : Int) (a2 : Int) (a3 : Int) (r : Int × Int × Int × Int × Int × Int × Int × Int) (h : parquetref08_Reduce.f N a1 a2 a3 = some r) : FnSpec Tryz.prog 29 [.agg [.c (.int .i64 a1), .c (.int .i64 a2), .c (.int .i64 a3)]] [] (.tup [.agg [.c (.int .i64 r.1), .c (.int .i64 r.2.1), .c (.int .i64 r.2.2.1)], .agg [.c (.int .i64 r.2.2.2.1), .c (.int .i64 r.2.2.2.2.1), .c (.int .i64 r.2.2.2.2.2.1), .c (.int .i64 r.2.2.2.2.2.2.1)], .c (.int .i64 r.2.2.2.2.2.2.2)]) ([]) := by
  rw [← parquetref08_Reduce.f_eq] at h
  obtain ⟨v, bs', h1, h2⟩ := evFun_ok (parquetref08_Reduce.env N) Tryz_mixed Tryz.func29 (by kernel_rfl : Tryz.f29.body = some parquetref08_Reduce.body) (by kernel_rfl) (parquetref08_Reduce.res_eq N) (by kernel_rfl) (by kernel_rfl) (Nat.le_of_ble_eq_true (by kernel_rfl)) (AllCut.of (l := [(.loop (inner ((subLoops parquetref08_Reduce.body).getD 0 .skip)))]) (by kernel_rfl) (AllCut.cons (parquetref08_Reduce.k5 N) AllCut.nil)) h
  unfold parquetref08_Reduce.dec at h1; split at h1
  · cases h1; exact h2
  · cases h1
theorem parquetref08_Reduce.ent_ok (N : Nat) : TabOK1 Tryz.prog 29 (parquetref08_Reduce.ent N) := by
  intro args bs a enc h
  simp only [parquetref08_Reduce.ent] at h
  split at h
  · rename_i hz; have h0 := Option.some.inj h; have h1 := congrArg Prod.fst h0; have h2 := congrArg Prod.snd h0; dsimp only at h1 h2; subst h2; exact FnSpec.of_freeze hz (parquetref08_Reduce.spec N _ _ _ a h1)
  · cases h
/-! parquet/parquetref08.Content: function 30 -/
noncomputable def parquetref08_Content.f (N : Nat) (a1 : Int) (a2 : Int) (a3 : Int) : Option (Int) :=
  (parquetref08_In.f N a1 a2 a3).bind fun r4 =>
  bif !r4 then
    some 0
  else
  (parquetref04_Common.f N a1 a2).bind fun r5 =>
  (parquetref04_Common.f N r5 a3).bind fun r6 =>
  some r6
noncomputable def parquetref08_Content.body : Code := (Tryz.f30.body).getD .skip
noncomputable def parquetref08_Content.ty : List (Nat × TI) := [(2, ty2), (23, ty23)]
noncomputable def parquetref08_Content.E (N : Nat) : Env := { ty := lookN parquetref08_Content.ty, tab := lookN [(28, parquetref08_In.ent N), (48, parquetref04_Common.ent N)], hint := lookN [], cut := lookN [], N := N, res := [.tmp 2], rsh := [.any], nb := 0, ntmps := 14, own := false }
noncomputable def parquetref08_Content.dec (v : V) (bs : List Blk) : Option (Int) := match v, bs with
  | .c (.int .i64 z0), [] => some z0
  | _, _ => none
set_option maxRecDepth 100000 in
theorem parquetref08_Content.f_eq (N : Nat) (a1 : Int) (a2 : Int) (a3 : Int) :
    evFun (parquetref08_Content.E N) parquetref08_Content.body [.agg [.c (.int .i64 a1), .c (.int .i64 a2), .c (.int .i64 a3)]] [] parquetref08_Content.dec = parquetref08_Content.f N a1 a2 a3 := by kernel_rfl
noncomputable def parquetref08_Content.ent (N : Nat) : Entry := { A := Int, fresh := 0, imm := [true], dec := fun args bs => match freezeL 0 (fun _ => .dead) [.recd [.any, .any, .any]] args, bs with
  | some [.agg [.c (.int .i64 a1), .c (.int .i64 a2), .c (.int .i64 a3)]], [] => some (parquetref08_Content.f N a1 a2 a3, fun r => .one (.c (.int .i64 r)) [])
  | _, _ => none }
theorem parquetref08_Content.env (N : Nat) : EnvOK Tryz.prog (parquetref08_Content.E N) := ⟨(TyOK.cons ty2_ok (TyOK.cons ty23_ok TyOK.nil)), (TabOK.cons (parquetref08_In.ent_ok N) (TabOK.cons (parquetref04_Common.ent_ok N) TabOK.nil))⟩
theorem parquetref08_Content.res_eq (N : Nat) : (parquetref08_Content.E N).res = Tryz.f30.results.toList := by kernel_rfl
theorem parquetref08_Content.spec (N : Nat) (a1 : Int) (a2 : Int) (a3 : Int) (r : Int) (h : parquetref08_Content.f N a1 a2 a3 = some r) : FnSpec Tryz.prog 30 [.agg [.c (.int .i64 a1), .c (.int .i64 a2), .c (.int .i64 a3)]] [] (.c (.int .i64 r)) ([]) := by
  rw [← parquetref08_Content.f_eq] at h
  obtain ⟨v, bs', h1, h2⟩ := evFun_ok (parquetref08_Content.env N) Tryz_mixed Tryz.func30 (by kernel_rfl : Tryz.f30.body = some parquetref08_Content.body) (by kernel_rfl) (parquetref08_Content.res_eq N) (by kernel_rfl) (by kernel_rfl) (Nat.le_of_ble_eq_true (by kernel_rfl)) (AllCut.of (l := []) (by kernel_rfl) AllCut.nil) h
  unfold parquetref08_Content.dec at h1; split at h1
  · cases h1; exact h2
  · cases h1
theorem parquetref08_Content.ent_ok (N : Nat) : TabOK1 Tryz.prog 30 (parquetref08_Content.ent N) := by
  intro args bs a enc h
  simp only [parquetref08_Content.ent] at h
  split at h
  · rename_i hz; have h0 := Option.some.inj h; have h1 := congrArg Prod.fst h0; have h2 := congrArg Prod.snd h0; dsimp only at h1 h2; subst h2; exact FnSpec.of_freeze hz (parquetref08_Content.spec N _ _ _ a h1)
  · cases h
end Go.Proofs.YtbnoablfajmaeaaGreat
