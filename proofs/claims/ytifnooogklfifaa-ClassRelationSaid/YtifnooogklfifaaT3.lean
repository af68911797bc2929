-- The seat's functions as the evaluator goes through them: typed models and their laws.
import Derived.Test.YtifnooogklfifaaProg
import Derived.Test.YtifnooogklfifaaEvF
import Derived.Test.YtifnooogklfifaaT2
import Derived.KernelRfl
namespace Go.Proofs.Ytifnooogklfifaa
open Go.Proofs.Ytifnooogklfifaa.Ev
set_option linter.unusedVariables false
open Go

noncomputable def ty2 : TI := ⟨.int .i64, 1, 8, [.int .i64 0]⟩
noncomputable def ty4 : TI := ⟨.bool, 1, 1, [.bool false]⟩
noncomputable def ty33 : TI := ⟨.struct [(2, 0), (2, 1), (2, 2)], 3, 24, [.int .i64 0, .int .i64 0, .int .i64 0]⟩
noncomputable def ty40 : TI := ⟨.struct [(2, 0), (2, 1), (2, 2), (2, 3)], 4, 32, [.int .i64 0, .int .i64 0, .int .i64 0, .int .i64 0]⟩
noncomputable def ty60 : TI := ⟨.struct [(33, 0), (40, 3)], 7, 56, [.int .i64 0, .int .i64 0, .int .i64 0, .int .i64 0, .int .i64 0, .int .i64 0, .int .i64 0]⟩
noncomputable def ty76 : TI := ⟨.struct [(4, 0), (74, 1)], 2, 32, [.bool false, .slice none 0 0]⟩
theorem ty2_ok : TyOK1 Try.prog 2 ty2 := tyok_of (by kernel_rfl) (by kernel_rfl) (by kernel_rfl) (by kernel_rfl) (by kernel_rfl) (by kernel_rfl) (by kernel_rfl) (Try.underlying2) (by kernel_rfl)
theorem ty4_ok : TyOK1 Try.prog 4 ty4 := tyok_of (by kernel_rfl) (by kernel_rfl) (by kernel_rfl) (by kernel_rfl) (by kernel_rfl) (by kernel_rfl) (by kernel_rfl) (Try.underlying4) (by kernel_rfl)
theorem ty33_ok : TyOK1 Try.prog 33 ty33 := tyok_of (by kernel_rfl) (by kernel_rfl) (by kernel_rfl) (by kernel_rfl) (by kernel_rfl) (by kernel_rfl) (by kernel_rfl) (tk_struct Try.underlying33 (by kernel_rfl) (by kernel_rfl)) (by kernel_rfl)
theorem ty40_ok : TyOK1 Try.prog 40 ty40 := tyok_of (by kernel_rfl) (by kernel_rfl) (by kernel_rfl) (by kernel_rfl) (by kernel_rfl) (by kernel_rfl) (by kernel_rfl) (tk_struct Try.underlying40 (by kernel_rfl) (by kernel_rfl)) (by kernel_rfl)
theorem ty60_ok : TyOK1 Try.prog 60 ty60 := tyok_of (by kernel_rfl) (by kernel_rfl) (by kernel_rfl) (by kernel_rfl) (by kernel_rfl) (by kernel_rfl) (by kernel_rfl) (tk_struct Try.underlying60 (by kernel_rfl) (by kernel_rfl)) (by kernel_rfl)
theorem ty76_ok : TyOK1 Try.prog 76 ty76 := tyok_of (by kernel_rfl) (by kernel_rfl) (by kernel_rfl) (by kernel_rfl) (by kernel_rfl) (by kernel_rfl) (by kernel_rfl) (tk_struct Try.underlying76 (by kernel_rfl) (by kernel_rfl)) (by kernel_rfl)
/-! parquet/zint.Make: function 55 -/
noncomputable def zint_Make.f (N : Nat) (a1 : Bool) (a2 : List Int) : Option (Bool × List Int) :=
  bif a1 then
    (nat_Nat_Bits.f N a2).bind fun r3 =>
    some (decide (r3 > 0), a2)
  else
  some (false, a2)
noncomputable def zint_Make.body : Code := (Try.f55.body).getD .skip
noncomputable def zint_Make.ty : List (Nat × TI) := [(4, ty4), (74, ty74), (76, ty76)]
noncomputable def zint_Make.E (N : Nat) : Env := { ty := lookN zint_Make.ty, tab := lookN [(73, nat_Nat_Bits.ent N)], hint := lookN [], cut := lookN [], N := N, res := [.cell 4 76], rsh := [.recd [.any, .il .u32 1]], nb := 0, ntmps := 13, own := false }
noncomputable def zint_Make.dec (v : V) (bs : List Blk) : Option (Bool × List Int) := match v, bs with
  | .agg [.c (.bool z0), .il .u32 1 z1], [] => some (z0, z1)
  | _, _ => none
set_option maxRecDepth 100000 in
theorem zint_Make.f_eq (N : Nat) (a1 : Bool) (a2 : List Int) :
    evFun (zint_Make.E N) zint_Make.body [.c (.bool a1), .agg [.il .u32 1 a2]] [] zint_Make.dec = zint_Make.f N a1 a2 := by kernel_rfl
noncomputable def zint_Make.ent (N : Nat) : Entry := { A := Bool × List Int, fresh := 0, imm := [true, true], dec := fun args bs => match freezeL 0 (fun _ => .dead) [.any, .recd [.il .u32 1]] args, bs with
  | some [.c (.bool a1), .agg [.il .u32 1 a2]], [] => some (zint_Make.f N a1 a2, fun r => .one (.agg [.c (.bool r.1), .il .u32 1 r.2]) [])
  | _, _ => none }
theorem zint_Make.env (N : Nat) : EnvOK Try.prog (zint_Make.E N) := ⟨(TyOK.cons ty4_ok (TyOK.cons ty74_ok (TyOK.cons ty76_ok TyOK.nil))), (TabOK.cons (nat_Nat_Bits.ent_ok N) TabOK.nil)⟩
theorem zint_Make.res_eq (N : Nat) : (zint_Make.E N).res = Try.f55.results.toList := by kernel_rfl
theorem zint_Make.spec (N : Nat) (a1 : Bool) (a2 : List Int) (r : Bool × List Int) (h : zint_Make.f N a1 a2 = some r) : FnSpec Try.prog 55 [.c (.bool a1), .agg [.il .u32 1 a2]] [] (.agg [.c (.bool r.1), .il .u32 1 r.2]) ([]) := by
  rw [← zint_Make.f_eq] at h
  refine (evFun_ok (zint_Make.env N) Try_mixed Try.func55 (by kernel_rfl : Try.f55.body = some zint_Make.body) (by kernel_rfl) (zint_Make.res_eq N) (by kernel_rfl) (by kernel_rfl) (Nat.le_of_ble_eq_true (by kernel_rfl)) (AllCut.of (l := []) (by kernel_rfl) AllCut.nil) h).of fun v bs' h1 => ?_
  unfold zint_Make.dec at h1; split at h1
  · cases h1; exact ⟨rfl, rfl⟩
  · cases h1
theorem zint_Make.ent_ok (N : Nat) : TabOK1 Try.prog 55 (zint_Make.ent N) := by
  intro args bs a enc h
  simp only [zint_Make.ent] at h
  split at h
  · rename_i hz; have h0 := Option.some.inj h; have h1 := congrArg Prod.fst h0; have h2 := congrArg Prod.snd h0; dsimp only at h1 h2; subst h2; exact FnSpec.of_freeze hz (zint_Make.spec N _ _ a h1)
  · cases h
/-! parquet/zint.Of: function 54 -/
noncomputable def zint_Of.f (N : Nat) (a1 : Int) : Option (Bool × List Int) :=
  bif decide (a1 < 0) then
    (nat_Of.f N (wu64 (0 - (wu64 a1)))).bind fun r2 =>
    some (true, r2)
  else
  (nat_Of.f N (wu64 a1)).bind fun r3 =>
  some (false, r3)
noncomputable def zint_Of.body : Code := (Try.f54.body).getD .skip
noncomputable def zint_Of.ty : List (Nat × TI) := [(2, ty2), (4, ty4), (74, ty74), (76, ty76), (94, ty94)]
noncomputable def zint_Of.E (N : Nat) : Env := { ty := lookN zint_Of.ty, tab := lookN [(72, nat_Of.ent N)], hint := lookN [], cut := lookN [], N := N, res := [.cell 2 76], rsh := [.recd [.any, .il .u32 1]], nb := 0, ntmps := 14, own := false }
noncomputable def zint_Of.dec (v : V) (bs : List Blk) : Option (Bool × List Int) := match v, bs with
  | .agg [.c (.bool z0), .il .u32 1 z1], [] => some (z0, z1)
  | _, _ => none
set_option maxRecDepth 100000 in
theorem zint_Of.f_eq (N : Nat) (a1 : Int) :
    evFun (zint_Of.E N) zint_Of.body [.c (.int .i64 a1)] [] zint_Of.dec = zint_Of.f N a1 := by kernel_rfl
noncomputable def zint_Of.ent (N : Nat) : Entry := { A := Bool × List Int, fresh := 0, imm := [true], dec := fun args bs => match freezeL 0 (fun _ => .dead) [.any] args, bs with
  | some [.c (.int .i64 a1)], [] => some (zint_Of.f N a1, fun r => .one (.agg [.c (.bool r.1), .il .u32 1 r.2]) [])
  | _, _ => none }
theorem zint_Of.env (N : Nat) : EnvOK Try.prog (zint_Of.E N) := ⟨(TyOK.cons ty2_ok (TyOK.cons ty4_ok (TyOK.cons ty74_ok (TyOK.cons ty76_ok (TyOK.cons ty94_ok TyOK.nil))))), (TabOK.cons (nat_Of.ent_ok N) TabOK.nil)⟩
theorem zint_Of.res_eq (N : Nat) : (zint_Of.E N).res = Try.f54.results.toList := by kernel_rfl
theorem zint_Of.spec (N : Nat) (a1 : Int) (r : Bool × List Int) (h : zint_Of.f N a1 = some r) : FnSpec Try.prog 54 [.c (.int .i64 a1)] [] (.agg [.c (.bool r.1), .il .u32 1 r.2]) ([]) := by
  rw [← zint_Of.f_eq] at h
  refine (evFun_ok (zint_Of.env N) Try_mixed Try.func54 (by kernel_rfl : Try.f54.body = some zint_Of.body) (by kernel_rfl) (zint_Of.res_eq N) (by kernel_rfl) (by kernel_rfl) (Nat.le_of_ble_eq_true (by kernel_rfl)) (AllCut.of (l := []) (by kernel_rfl) AllCut.nil) h).of fun v bs' h1 => ?_
  unfold zint_Of.dec at h1; split at h1
  · cases h1; exact ⟨rfl, rfl⟩
  · cases h1
theorem zint_Of.ent_ok (N : Nat) : TabOK1 Try.prog 54 (zint_Of.ent N) := by
  intro args bs a enc h
  simp only [zint_Of.ent] at h
  split at h
  · rename_i hz; have h0 := Option.some.inj h; have h1 := congrArg Prod.fst h0; have h2 := congrArg Prod.snd h0; dsimp only at h1 h2; subst h2; exact FnSpec.of_freeze hz (zint_Of.spec N _ a h1)
  · cases h
/-! (parquet/zint.Int).Int64: function 56 -/
noncomputable def zint_Int_Int64.f (N : Nat) (a1 : Bool) (a2 : List Int) : Option (Int × Bool) :=
  (nat_Nat_Uint64.f N a2).bind fun r3 =>
  bif !r3.2 then
    some (0, false)
  else
  bif decide (r3.1 > 9223372036854775808) then
    some (0, false)
  else
  bif r3.1 == 9223372036854775808 then
    bif !a1 then
      some (0, false)
    else
    bif a1 then
      some (wi64 (wu64 (0 - r3.1)), true)
    else
    some (wi64 r3.1, true)
  else
  bif a1 then
    some (wi64 (wu64 (0 - r3.1)), true)
  else
  some (wi64 r3.1, true)
noncomputable def zint_Int_Int64.body : Code := (Try.f56.body).getD .skip
noncomputable def zint_Int_Int64.ty : List (Nat × TI) := [(2, ty2), (4, ty4), (74, ty74), (76, ty76), (94, ty94)]
noncomputable def zint_Int_Int64.E (N : Nat) : Env := { ty := lookN zint_Int_Int64.ty, tab := lookN [(74, nat_Nat_Uint64.ent N)], hint := lookN [], cut := lookN [], N := N, res := [.tmp 2, .tmp 3], rsh := [.any, .any], nb := 0, ntmps := 36, own := false }
noncomputable def zint_Int_Int64.dec (v : V) (bs : List Blk) : Option (Int × Bool) := match v, bs with
  | .tup [.c (.int .i64 z0), .c (.bool z1)], [] => some (z0, z1)
  | _, _ => none
set_option maxRecDepth 100000 in
theorem zint_Int_Int64.f_eq (N : Nat) (a1 : Bool) (a2 : List Int) :
    evFun (zint_Int_Int64.E N) zint_Int_Int64.body [.agg [.c (.bool a1), .il .u32 1 a2]] [] zint_Int_Int64.dec = zint_Int_Int64.f N a1 a2 := by kernel_rfl
noncomputable def zint_Int_Int64.ent (N : Nat) : Entry := { A := Int × Bool, fresh := 0, imm := [true], dec := fun args bs => match freezeL 0 (fun _ => .dead) [.recd [.any, .il .u32 1]] args, bs with
  | some [.agg [.c (.bool a1), .il .u32 1 a2]], [] => some (zint_Int_Int64.f N a1 a2, fun r => .one (.tup [.c (.int .i64 r.1), .c (.bool r.2)]) [])
  | _, _ => none }
theorem zint_Int_Int64.env (N : Nat) : EnvOK Try.prog (zint_Int_Int64.E N) := ⟨(TyOK.cons ty2_ok (TyOK.cons ty4_ok (TyOK.cons ty74_ok (TyOK.cons ty76_ok (TyOK.cons ty94_ok TyOK.nil))))), (TabOK.cons (nat_Nat_Uint64.ent_ok N) TabOK.nil)⟩
theorem zint_Int_Int64.res_eq (N : Nat) : (zint_Int_Int64.E N).res = Try.f56.results.toList := by kernel_rfl
theorem zint_Int_Int64.spec (N : Nat) (a1 : Bool) (a2 : List Int) (r : Int × Bool) (h : zint_Int_Int64.f N a1 a2 = some r) : FnSpec Try.prog 56 [.agg [.c (.bool a1), .il .u32 1 a2]] [] (.tup [.c (.int .i64 r.1), .c (.bool r.2)]) ([]) := by
  rw [← zint_Int_Int64.f_eq] at h
  refine (evFun_ok (zint_Int_Int64.env N) Try_mixed Try.func56 (by kernel_rfl : Try.f56.body = some zint_Int_Int64.body) (by kernel_rfl) (zint_Int_Int64.res_eq N) (by kernel_rfl) (by kernel_rfl) (Nat.le_of_ble_eq_true (by kernel_rfl)) (AllCut.of (l := []) (by kernel_rfl) AllCut.nil) h).of fun v bs' h1 => ?_
  unfold zint_Int_Int64.dec at h1; split at h1
  · cases h1; exact ⟨rfl, rfl⟩
  · cases h1
theorem zint_Int_Int64.ent_ok (N : Nat) : TabOK1 Try.prog 56 (zint_Int_Int64.ent N) := by
  intro args bs a enc h
  simp only [zint_Int_Int64.ent] at h
  split at h
  · rename_i hz; have h0 := Option.some.inj h; have h1 := congrArg Prod.fst h0; have h2 := congrArg Prod.snd h0; dsimp only at h1 h2; subst h2; exact FnSpec.of_freeze hz (zint_Int_Int64.spec N _ _ a h1)
  · cases h
/-! parquet/zint.Add: function 86 -/
noncomputable def zint_Add.f (N : Nat) (a1 : Bool) (a2 : List Int) (a3 : Bool) (a4 : List Int) : Option (Bool × List Int × Int) :=
  bif a1 == a3 then
    (nat_Add.f N a2 a4).bind fun r5 =>
    (zint_Make.f N a1 r5.1).bind fun r6 =>
    some (r6.1, r6.2, r5.2)
  else
  (nat_Cmp.f N a2 a4).bind fun r7 =>
  bif decide (r7 < 0) then
    (nat_Sub.f N a4 a2).bind fun r8 =>
    (zint_Make.f N a3 r8.1).bind fun r9 =>
    some (r9.1, r9.2, r8.2)
  else
  (nat_Sub.f N a2 a4).bind fun r10 =>
  (zint_Make.f N a1 r10.1).bind fun r11 =>
  some (r11.1, r11.2, r10.2)
noncomputable def zint_Add.body : Code := (Try.f86.body).getD .skip
noncomputable def zint_Add.ty : List (Nat × TI) := [(4, ty4), (74, ty74), (76, ty76)]
noncomputable def zint_Add.E (N : Nat) : Env := { ty := lookN zint_Add.ty, tab := lookN [(93, nat_Add.ent N), (55, zint_Make.ent N), (89, nat_Cmp.ent N), (94, nat_Sub.ent N)], hint := lookN [], cut := lookN [], N := N, res := [.cell 4 76, .tmp 5], rsh := [.recd [.any, .il .u32 1], .any], nb := 0, ntmps := 49, own := false }
noncomputable def zint_Add.dec (v : V) (bs : List Blk) : Option (Bool × List Int × Int) := match v, bs with
  | .tup [.agg [.c (.bool z0), .il .u32 1 z1], .c (.int .i64 z2)], [] => some (z0, z1, z2)
  | _, _ => none
set_option maxRecDepth 100000 in
theorem zint_Add.f_eq (N : Nat) (a1 : Bool) (a2 : List Int) (a3 : Bool) (a4 : List Int) :
    evFun (zint_Add.E N) zint_Add.body [.agg [.c (.bool a1), .il .u32 1 a2], .agg [.c (.bool a3), .il .u32 1 a4]] [] zint_Add.dec = zint_Add.f N a1 a2 a3 a4 := by kernel_rfl
noncomputable def zint_Add.ent (N : Nat) : Entry := { A := Bool × List Int × Int, fresh := 0, imm := [true, true], dec := fun args bs => match freezeL 0 (fun _ => .dead) [.recd [.any, .il .u32 1], .recd [.any, .il .u32 1]] args, bs with
  | some [.agg [.c (.bool a1), .il .u32 1 a2], .agg [.c (.bool a3), .il .u32 1 a4]], [] => some (zint_Add.f N a1 a2 a3 a4, fun r => .one (.tup [.agg [.c (.bool r.1), .il .u32 1 r.2.1], .c (.int .i64 r.2.2)]) [])
  | _, _ => none }
theorem zint_Add.env (N : Nat) : EnvOK Try.prog (zint_Add.E N) := ⟨(TyOK.cons ty4_ok (TyOK.cons ty74_ok (TyOK.cons ty76_ok TyOK.nil))), (TabOK.cons (nat_Add.ent_ok N) (TabOK.cons (zint_Make.ent_ok N) (TabOK.cons (nat_Cmp.ent_ok N) (TabOK.cons (nat_Sub.ent_ok N) TabOK.nil))))⟩
theorem zint_Add.res_eq (N : Nat) : (zint_Add.E N).res = Try.f86.results.toList := by kernel_rfl
theorem zint_Add.spec (N : Nat) (a1 : Bool) (a2 : List Int) (a3 : Bool) (a4 : List Int) (r : Bool × List Int × Int) (h : zint_Add.f N a1 a2 a3 a4 = some r) : FnSpec Try.prog 86 [.agg [.c (.bool a1), .il .u32 1 a2], .agg [.c (.bool a3), .il .u32 1 a4]] [] (.tup [.agg [.c (.bool r.1), .il .u32 1 r.2.1], .c (.int .i64 r.2.2)]) ([]) := by
  rw [← zint_Add.f_eq] at h
  refine (evFun_ok (zint_Add.env N) Try_mixed Try.func86 (by kernel_rfl : Try.f86.body = some zint_Add.body) (by kernel_rfl) (zint_Add.res_eq N) (by kernel_rfl) (by kernel_rfl) (Nat.le_of_ble_eq_true (by kernel_rfl)) (AllCut.of (l := []) (by kernel_rfl) AllCut.nil) h).of fun v bs' h1 => ?_
  unfold zint_Add.dec at h1; split at h1
  · cases h1; exact ⟨rfl, rfl⟩
  · cases h1
theorem zint_Add.ent_ok (N : Nat) : TabOK1 Try.prog 86 (zint_Add.ent N) := by
  intro args bs a enc h
  simp only [zint_Add.ent] at h
  split at h
  · rename_i hz; have h0 := Option.some.inj h; have h1 := congrArg Prod.fst h0; have h2 := congrArg Prod.snd h0; dsimp only at h1 h2; subst h2; exact FnSpec.of_freeze hz (zint_Add.spec N _ _ _ _ a h1)
  · cases h
/-! parquet/zint.Mul: function 83 -/
noncomputable def zint_Mul.f (N : Nat) (a1 : Bool) (a2 : List Int) (a3 : Bool) (a4 : List Int) : Option (Bool × List Int × Int) :=
  (nat_Mul.f N a2 a4).bind fun r5 =>
  (zint_Make.f N (!(a1 == a3)) r5.1).bind fun r6 =>
  some (r6.1, r6.2, r5.2)
noncomputable def zint_Mul.body : Code := (Try.f83.body).getD .skip
noncomputable def zint_Mul.ty : List (Nat × TI) := [(4, ty4), (74, ty74), (76, ty76)]
noncomputable def zint_Mul.E (N : Nat) : Env := { ty := lookN zint_Mul.ty, tab := lookN [(92, nat_Mul.ent N), (55, zint_Make.ent N)], hint := lookN [], cut := lookN [], N := N, res := [.cell 4 76, .tmp 5], rsh := [.recd [.any, .il .u32 1], .any], nb := 0, ntmps := 24, own := false }
noncomputable def zint_Mul.dec (v : V) (bs : List Blk) : Option (Bool × List Int × Int) := match v, bs with
  | .tup [.agg [.c (.bool z0), .il .u32 1 z1], .c (.int .i64 z2)], [] => some (z0, z1, z2)
  | _, _ => none
set_option maxRecDepth 100000 in
theorem zint_Mul.f_eq (N : Nat) (a1 : Bool) (a2 : List Int) (a3 : Bool) (a4 : List Int) :
    evFun (zint_Mul.E N) zint_Mul.body [.agg [.c (.bool a1), .il .u32 1 a2], .agg [.c (.bool a3), .il .u32 1 a4]] [] zint_Mul.dec = zint_Mul.f N a1 a2 a3 a4 := by kernel_rfl
noncomputable def zint_Mul.ent (N : Nat) : Entry := { A := Bool × List Int × Int, fresh := 0, imm := [true, true], dec := fun args bs => match freezeL 0 (fun _ => .dead) [.recd [.any, .il .u32 1], .recd [.any, .il .u32 1]] args, bs with
  | some [.agg [.c (.bool a1), .il .u32 1 a2], .agg [.c (.bool a3), .il .u32 1 a4]], [] => some (zint_Mul.f N a1 a2 a3 a4, fun r => .one (.tup [.agg [.c (.bool r.1), .il .u32 1 r.2.1], .c (.int .i64 r.2.2)]) [])
  | _, _ => none }
theorem zint_Mul.env (N : Nat) : EnvOK Try.prog (zint_Mul.E N) := ⟨(TyOK.cons ty4_ok (TyOK.cons ty74_ok (TyOK.cons ty76_ok TyOK.nil))), (TabOK.cons (nat_Mul.ent_ok N) (TabOK.cons (zint_Make.ent_ok N) TabOK.nil))⟩
theorem zint_Mul.res_eq (N : Nat) : (zint_Mul.E N).res = Try.f83.results.toList := by kernel_rfl
theorem zint_Mul.spec (N : Nat) (a1 : Bool) (a2 : List Int) (a3 : Bool) (a4 : List Int) (r : Bool × List Int × Int) (h : zint_Mul.f N a1 a2 a3 a4 = some r) : FnSpec Try.prog 83 [.agg [.c (.bool a1), .il .u32 1 a2], .agg [.c (.bool a3), .il .u32 1 a4]] [] (.tup [.agg [.c (.bool r.1), .il .u32 1 r.2.1], .c (.int .i64 r.2.2)]) ([]) := by
  rw [← zint_Mul.f_eq] at h
  refine (evFun_ok (zint_Mul.env N) Try_mixed Try.func83 (by kernel_rfl : Try.f83.body = some zint_Mul.body) (by kernel_rfl) (zint_Mul.res_eq N) (by kernel_rfl) (by kernel_rfl) (Nat.le_of_ble_eq_true (by kernel_rfl)) (AllCut.of (l := []) (by kernel_rfl) AllCut.nil) h).of fun v bs' h1 => ?_
  unfold zint_Mul.dec at h1; split at h1
  · cases h1; exact ⟨rfl, rfl⟩
  · cases h1
theorem zint_Mul.ent_ok (N : Nat) : TabOK1 Try.prog 83 (zint_Mul.ent N) := by
  intro args bs a enc h
  simp only [zint_Mul.ent] at h
  split at h
  · rename_i hz; have h0 := Option.some.inj h; have h1 := congrArg Prod.fst h0; have h2 := congrArg Prod.snd h0; dsimp only at h1 h2; subst h2; exact FnSpec.of_freeze hz (zint_Mul.spec N _ _ _ _ a h1)
  · cases h
/-! (parquet/zint.Int).Sign: function 67 -/
noncomputable def zint_Int_Sign.f (N : Nat) (a1 : Bool) (a2 : List Int) : Option (Int) :=
  (nat_Nat_Bits.f N a2).bind fun r3 =>
  bif r3 == 0 then
    some 0
  else
  bif a1 then
    some (-1)
  else
  some 1
noncomputable def zint_Int_Sign.body : Code := (Try.f67.body).getD .skip
noncomputable def zint_Int_Sign.ty : List (Nat × TI) := [(4, ty4), (74, ty74), (76, ty76)]
noncomputable def zint_Int_Sign.E (N : Nat) : Env := { ty := lookN zint_Int_Sign.ty, tab := lookN [(73, nat_Nat_Bits.ent N)], hint := lookN [], cut := lookN [], N := N, res := [.tmp 2], rsh := [.any], nb := 0, ntmps := 11, own := false }
noncomputable def zint_Int_Sign.dec (v : V) (bs : List Blk) : Option (Int) := match v, bs with
  | .c (.int .i64 z0), [] => some z0
  | _, _ => none
set_option maxRecDepth 100000 in
theorem zint_Int_Sign.f_eq (N : Nat) (a1 : Bool) (a2 : List Int) :
    evFun (zint_Int_Sign.E N) zint_Int_Sign.body [.agg [.c (.bool a1), .il .u32 1 a2]] [] zint_Int_Sign.dec = zint_Int_Sign.f N a1 a2 := by kernel_rfl
noncomputable def zint_Int_Sign.ent (N : Nat) : Entry := { A := Int, fresh := 0, imm := [true], dec := fun args bs => match freezeL 0 (fun _ => .dead) [.recd [.any, .il .u32 1]] args, bs with
  | some [.agg [.c (.bool a1), .il .u32 1 a2]], [] => some (zint_Int_Sign.f N a1 a2, fun r => .one (.c (.int .i64 r)) [])
  | _, _ => none }
theorem zint_Int_Sign.env (N : Nat) : EnvOK Try.prog (zint_Int_Sign.E N) := ⟨(TyOK.cons ty4_ok (TyOK.cons ty74_ok (TyOK.cons ty76_ok TyOK.nil))), (TabOK.cons (nat_Nat_Bits.ent_ok N) TabOK.nil)⟩
theorem zint_Int_Sign.res_eq (N : Nat) : (zint_Int_Sign.E N).res = Try.f67.results.toList := by kernel_rfl
theorem zint_Int_Sign.spec (N : Nat) (a1 : Bool) (a2 : List Int) (r : Int) (h : zint_Int_Sign.f N a1 a2 = some r) : FnSpec Try.prog 67 [.agg [.c (.bool a1), .il .u32 1 a2]] [] (.c (.int .i64 r)) ([]) := by
  rw [← zint_Int_Sign.f_eq] at h
  refine (evFun_ok (zint_Int_Sign.env N) Try_mixed Try.func67 (by kernel_rfl : Try.f67.body = some zint_Int_Sign.body) (by kernel_rfl) (zint_Int_Sign.res_eq N) (by kernel_rfl) (by kernel_rfl) (Nat.le_of_ble_eq_true (by kernel_rfl)) (AllCut.of (l := []) (by kernel_rfl) AllCut.nil) h).of fun v bs' h1 => ?_
  unfold zint_Int_Sign.dec at h1; split at h1
  · cases h1; exact ⟨rfl, rfl⟩
  · cases h1
theorem zint_Int_Sign.ent_ok (N : Nat) : TabOK1 Try.prog 67 (zint_Int_Sign.ent N) := by
  intro args bs a enc h
  simp only [zint_Int_Sign.ent] at h
  split at h
  · rename_i hz; have h0 := Option.some.inj h; have h1 := congrArg Prod.fst h0; have h2 := congrArg Prod.snd h0; dsimp only at h1 h2; subst h2; exact FnSpec.of_freeze hz (zint_Int_Sign.spec N _ _ a h1)
  · cases h
/-! parquet/zint.Neg: function 85 -/
noncomputable def zint_Neg.f (N : Nat) (a1 : Bool) (a2 : List Int) : Option (Bool × List Int) :=
  (zint_Make.f N (!a1) a2).bind fun r3 =>
  some (r3.1, r3.2)
noncomputable def zint_Neg.body : Code := (Try.f85.body).getD .skip
noncomputable def zint_Neg.ty : List (Nat × TI) := [(4, ty4), (74, ty74), (76, ty76)]
noncomputable def zint_Neg.E (N : Nat) : Env := { ty := lookN zint_Neg.ty, tab := lookN [(55, zint_Make.ent N)], hint := lookN [], cut := lookN [], N := N, res := [.cell 2 76], rsh := [.recd [.any, .il .u32 1]], nb := 0, ntmps := 9, own := false }
noncomputable def zint_Neg.dec (v : V) (bs : List Blk) : Option (Bool × List Int) := match v, bs with
  | .agg [.c (.bool z0), .il .u32 1 z1], [] => some (z0, z1)
  | _, _ => none
set_option maxRecDepth 100000 in
theorem zint_Neg.f_eq (N : Nat) (a1 : Bool) (a2 : List Int) :
    evFun (zint_Neg.E N) zint_Neg.body [.agg [.c (.bool a1), .il .u32 1 a2]] [] zint_Neg.dec = zint_Neg.f N a1 a2 := by kernel_rfl
noncomputable def zint_Neg.ent (N : Nat) : Entry := { A := Bool × List Int, fresh := 0, imm := [true], dec := fun args bs => match freezeL 0 (fun _ => .dead) [.recd [.any, .il .u32 1]] args, bs with
  | some [.agg [.c (.bool a1), .il .u32 1 a2]], [] => some (zint_Neg.f N a1 a2, fun r => .one (.agg [.c (.bool r.1), .il .u32 1 r.2]) [])
  | _, _ => none }
theorem zint_Neg.env (N : Nat) : EnvOK Try.prog (zint_Neg.E N) := ⟨(TyOK.cons ty4_ok (TyOK.cons ty74_ok (TyOK.cons ty76_ok TyOK.nil))), (TabOK.cons (zint_Make.ent_ok N) TabOK.nil)⟩
theorem zint_Neg.res_eq (N : Nat) : (zint_Neg.E N).res = Try.f85.results.toList := by kernel_rfl
theorem zint_Neg.spec (N : Nat) (a1 : Bool) (a2 : List Int) (r : Bool × List Int) (h : zint_Neg.f N a1 a2 = some r) : FnSpec Try.prog 85 [.agg [.c (.bool a1), .il .u32 1 a2]] [] (.agg [.c (.bool r.1), .il .u32 1 r.2]) ([]) := by
  rw [← zint_Neg.f_eq] at h
  refine (evFun_ok (zint_Neg.env N) Try_mixed Try.func85 (by kernel_rfl : Try.f85.body = some zint_Neg.body) (by kernel_rfl) (zint_Neg.res_eq N) (by kernel_rfl) (by kernel_rfl) (Nat.le_of_ble_eq_true (by kernel_rfl)) (AllCut.of (l := []) (by kernel_rfl) AllCut.nil) h).of fun v bs' h1 => ?_
  unfold zint_Neg.dec at h1; split at h1
  · cases h1; exact ⟨rfl, rfl⟩
  · cases h1
theorem zint_Neg.ent_ok (N : Nat) : TabOK1 Try.prog 85 (zint_Neg.ent N) := by
  intro args bs a enc h
  simp only [zint_Neg.ent] at h
  split at h
  · rename_i hz; have h0 := Option.some.inj h; have h1 := congrArg Prod.fst h0; have h2 := congrArg Prod.snd h0; dsimp only at h1 h2; subst h2; exact FnSpec.of_freeze hz (zint_Neg.spec N _ _ a h1)
  · cases h
/-! parquet/zint.Sub: function 82 -/
noncomputable def zint_Sub.f (N : Nat) (a1 : Bool) (a2 : List Int) (a3 : Bool) (a4 : List Int) : Option (Bool × List Int × Int) :=
  (zint_Neg.f N a3 a4).bind fun r5 =>
  (zint_Add.f N a1 a2 r5.1 r5.2).bind fun r6 =>
  some (r6.1, r6.2.1, r6.2.2)
noncomputable def zint_Sub.body : Code := (Try.f82.body).getD .skip
noncomputable def zint_Sub.ty : List (Nat × TI) := [(76, ty76)]
noncomputable def zint_Sub.E (N : Nat) : Env := { ty := lookN zint_Sub.ty, tab := lookN [(85, zint_Neg.ent N), (86, zint_Add.ent N)], hint := lookN [], cut := lookN [], N := N, res := [.cell 4 76, .tmp 5], rsh := [.recd [.any, .il .u32 1], .any], nb := 0, ntmps := 12, own := false }
noncomputable def zint_Sub.dec (v : V) (bs : List Blk) : Option (Bool × List Int × Int) := match v, bs with
  | .tup [.agg [.c (.bool z0), .il .u32 1 z1], .c (.int .i64 z2)], [] => some (z0, z1, z2)
  | _, _ => none
set_option maxRecDepth 100000 in
theorem zint_Sub.f_eq (N : Nat) (a1 : Bool) (a2 : List Int) (a3 : Bool) (a4 : List Int) :
    evFun (zint_Sub.E N) zint_Sub.body [.agg [.c (.bool a1), .il .u32 1 a2], .agg [.c (.bool a3), .il .u32 1 a4]] [] zint_Sub.dec = zint_Sub.f N a1 a2 a3 a4 := by kernel_rfl
noncomputable def zint_Sub.ent (N : Nat) : Entry := { A := Bool × List Int × Int, fresh := 0, imm := [true, true], dec := fun args bs => match freezeL 0 (fun _ => .dead) [.recd [.any, .il .u32 1], .recd [.any, .il .u32 1]] args, bs with
  | some [.agg [.c (.bool a1), .il .u32 1 a2], .agg [.c (.bool a3), .il .u32 1 a4]], [] => some (zint_Sub.f N a1 a2 a3 a4, fun r => .one (.tup [.agg [.c (.bool r.1), .il .u32 1 r.2.1], .c (.int .i64 r.2.2)]) [])
  | _, _ => none }
theorem zint_Sub.env (N : Nat) : EnvOK Try.prog (zint_Sub.E N) := ⟨(TyOK.cons ty76_ok TyOK.nil), (TabOK.cons (zint_Neg.ent_ok N) (TabOK.cons (zint_Add.ent_ok N) TabOK.nil))⟩
theorem zint_Sub.res_eq (N : Nat) : (zint_Sub.E N).res = Try.f82.results.toList := by kernel_rfl
theorem zint_Sub.spec (N : Nat) (a1 : Bool) (a2 : List Int) (a3 : Bool) (a4 : List Int) (r : Bool × List Int × Int) (h : zint_Sub.f N a1 a2 a3 a4 = some r) : FnSpec Try.prog 82 [.agg [.c (.bool a1), .il .u32 1 a2], .agg [.c (.bool a3), .il .u32 1 a4]] [] (.tup [.agg [.c (.bool r.1), .il .u32 1 r.2.1], .c (.int .i64 r.2.2)]) ([]) := by
  rw [← zint_Sub.f_eq] at h
  refine (evFun_ok (zint_Sub.env N) Try_mixed Try.func82 (by kernel_rfl : Try.f82.body = some zint_Sub.body) (by kernel_rfl) (zint_Sub.res_eq N) (by kernel_rfl) (by kernel_rfl) (Nat.le_of_ble_eq_true (by kernel_rfl)) (AllCut.of (l := []) (by kernel_rfl) AllCut.nil) h).of fun v bs' h1 => ?_
  unfold zint_Sub.dec at h1; split at h1
  · cases h1; exact ⟨rfl, rfl⟩
  · cases h1
theorem zint_Sub.ent_ok (N : Nat) : TabOK1 Try.prog 82 (zint_Sub.ent N) := by
  intro args bs a enc h
  simp only [zint_Sub.ent] at h
  split at h
  · rename_i hz; have h0 := Option.some.inj h; have h1 := congrArg Prod.fst h0; have h2 := congrArg Prod.snd h0; dsimp only at h1 h2; subst h2; exact FnSpec.of_freeze hz (zint_Sub.spec N _ _ _ _ a h1)
  · cases h
/-! parquet/zint.Quo: function 84 -/
noncomputable def zint_Quo.f (N : Nat) (a1 : Bool) (a2 : List Int) (a3 : Bool) (a4 : List Int) : Option (Bool × List Int × Bool × List Int × Int) :=
  (nat_Div.f N a2 a4).bind fun r5 =>
  bif r5.2.2 != 0 then
    some (false, [], false, [], r5.2.2)
  else
  bif a1 then
    (nat_Nat_Bits.f N r5.2.1).bind fun r6 =>
    bif decide (r6 > 0) then
      (nat_Of.f N 1).bind fun r7 =>
      (nat_Add.f N r5.1 r7).bind fun r8 =>
      (nat_Sub.f N a4 r5.2.1).bind fun r9 =>
      (zint_Make.f N (!(a1 == a3)) r8.1).bind fun r10 =>
      (zint_Make.f N false r9.1).bind fun r11 =>
      some (r10.1, r10.2, r11.1, r11.2, 0)
    else
    (zint_Make.f N (!(a1 == a3)) r5.1).bind fun r12 =>
    (zint_Make.f N false r5.2.1).bind fun r13 =>
    some (r12.1, r12.2, r13.1, r13.2, 0)
  else
  (zint_Make.f N (!(a1 == a3)) r5.1).bind fun r14 =>
  (zint_Make.f N false r5.2.1).bind fun r15 =>
  some (r14.1, r14.2, r15.1, r15.2, 0)
noncomputable def zint_Quo.body : Code := (Try.f84.body).getD .skip
noncomputable def zint_Quo.ty : List (Nat × TI) := [(4, ty4), (74, ty74), (76, ty76)]
noncomputable def zint_Quo.E (N : Nat) : Env := { ty := lookN zint_Quo.ty, tab := lookN [(80, nat_Div.ent N), (73, nat_Nat_Bits.ent N), (72, nat_Of.ent N), (93, nat_Add.ent N), (94, nat_Sub.ent N), (55, zint_Make.ent N)], hint := lookN [], cut := lookN [], N := N, res := [.cell 4 76, .cell 5 76, .tmp 6], rsh := [.recd [.any, .il .u32 1], .recd [.any, .il .u32 1], .any], nb := 0, ntmps := 52, own := false }
noncomputable def zint_Quo.dec (v : V) (bs : List Blk) : Option (Bool × List Int × Bool × List Int × Int) := match v, bs with
  | .tup [.agg [.c (.bool z0), .il .u32 1 z1], .agg [.c (.bool z2), .il .u32 1 z3], .c (.int .i64 z4)], [] => some (z0, z1, z2, z3, z4)
  | _, _ => none
set_option maxRecDepth 100000 in
theorem zint_Quo.f_eq (N : Nat) (a1 : Bool) (a2 : List Int) (a3 : Bool) (a4 : List Int) :
    evFun (zint_Quo.E N) zint_Quo.body [.agg [.c (.bool a1), .il .u32 1 a2], .agg [.c (.bool a3), .il .u32 1 a4]] [] zint_Quo.dec = zint_Quo.f N a1 a2 a3 a4 := by kernel_rfl
noncomputable def zint_Quo.ent (N : Nat) : Entry := { A := Bool × List Int × Bool × List Int × Int, fresh := 0, imm := [true, true], dec := fun args bs => match freezeL 0 (fun _ => .dead) [.recd [.any, .il .u32 1], .recd [.any, .il .u32 1]] args, bs with
  | some [.agg [.c (.bool a1), .il .u32 1 a2], .agg [.c (.bool a3), .il .u32 1 a4]], [] => some (zint_Quo.f N a1 a2 a3 a4, fun r => .one (.tup [.agg [.c (.bool r.1), .il .u32 1 r.2.1], .agg [.c (.bool r.2.2.1), .il .u32 1 r.2.2.2.1], .c (.int .i64 r.2.2.2.2)]) [])
  | _, _ => none }
theorem zint_Quo.env (N : Nat) : EnvOK Try.prog (zint_Quo.E N) := ⟨(TyOK.cons ty4_ok (TyOK.cons ty74_ok (TyOK.cons ty76_ok TyOK.nil))), (TabOK.cons (nat_Div.ent_ok N) (TabOK.cons (nat_Nat_Bits.ent_ok N) (TabOK.cons (nat_Of.ent_ok N) (TabOK.cons (nat_Add.ent_ok N) (TabOK.cons (nat_Sub.ent_ok N) (TabOK.cons (zint_Make.ent_ok N) TabOK.nil))))))⟩
theorem zint_Quo.res_eq (N : Nat) : (zint_Quo.E N).res = Try.f84.results.toList := by kernel_rfl
theorem zint_Quo.spec (N : Nat) (a1 : Bool) (a2 : List Int) (a3 : Bool) (a4 : List Int) (r : Bool × List Int × Bool × List Int × Int) (h : zint_Quo.f N a1 a2 a3 a4 = some r) : FnSpec Try.prog 84 [.agg [.c (.bool a1), .il .u32 1 a2], .agg [.c (.bool a3), .il .u32 1 a4]] [] (.tup [.agg [.c (.bool r.1), .il .u32 1 r.2.1], .agg [.c (.bool r.2.2.1), .il .u32 1 r.2.2.2.1], .c (.int .i64 r.2.2.2.2)]) ([]) := by
  rw [← zint_Quo.f_eq] at h
  refine (evFun_ok (zint_Quo.env N) Try_mixed Try.func84 (by kernel_rfl : Try.f84.body = some zint_Quo.body) (by kernel_rfl) (zint_Quo.res_eq N) (by kernel_rfl) (by kernel_rfl) (Nat.le_of_ble_eq_true (by kernel_rfl)) (AllCut.of (l := []) (by kernel_rfl) AllCut.nil) h).of fun v bs' h1 => ?_
  unfold zint_Quo.dec at h1; split at h1
  · cases h1; exact ⟨rfl, rfl⟩
  · cases h1
theorem zint_Quo.ent_ok (N : Nat) : TabOK1 Try.prog 84 (zint_Quo.ent N) := by
  intro args bs a enc h
  simp only [zint_Quo.ent] at h
  split at h
  · rename_i hz; have h0 := Option.some.inj h; have h1 := congrArg Prod.fst h0; have h2 := congrArg Prod.snd h0; dsimp only at h1 h2; subst h2; exact FnSpec.of_freeze hz (zint_Quo.spec N _ _ _ _ a h1)
  · cases h
/-! parquet/zint.Exact: function 71 -/
noncomputable def zint_Exact.f (N : Nat) (a1 : Bool) (a2 : List Int) (a3 : Bool) (a4 : List Int) : Option (Bool × List Int × Int) :=
  (zint_Quo.f N a1 a2 a3 a4).bind fun r5 =>
  bif r5.2.2.2.2 != 0 then
    some (false, [], r5.2.2.2.2)
  else
  (zint_Int_Sign.f N r5.2.2.1 r5.2.2.2.1).bind fun r6 =>
  bif r6 != 0 then
    some (false, [], 2)
  else
  some (r5.1, r5.2.1, 0)
noncomputable def zint_Exact.body : Code := (Try.f71.body).getD .skip
noncomputable def zint_Exact.ty : List (Nat × TI) := [(4, ty4), (74, ty74), (76, ty76)]
noncomputable def zint_Exact.E (N : Nat) : Env := { ty := lookN zint_Exact.ty, tab := lookN [(84, zint_Quo.ent N), (67, zint_Int_Sign.ent N)], hint := lookN [], cut := lookN [], N := N, res := [.cell 4 76, .tmp 5], rsh := [.recd [.any, .il .u32 1], .any], nb := 0, ntmps := 27, own := false }
noncomputable def zint_Exact.dec (v : V) (bs : List Blk) : Option (Bool × List Int × Int) := match v, bs with
  | .tup [.agg [.c (.bool z0), .il .u32 1 z1], .c (.int .i64 z2)], [] => some (z0, z1, z2)
  | _, _ => none
set_option maxRecDepth 100000 in
theorem zint_Exact.f_eq (N : Nat) (a1 : Bool) (a2 : List Int) (a3 : Bool) (a4 : List Int) :
    evFun (zint_Exact.E N) zint_Exact.body [.agg [.c (.bool a1), .il .u32 1 a2], .agg [.c (.bool a3), .il .u32 1 a4]] [] zint_Exact.dec = zint_Exact.f N a1 a2 a3 a4 := by kernel_rfl
noncomputable def zint_Exact.ent (N : Nat) : Entry := { A := Bool × List Int × Int, fresh := 0, imm := [true, true], dec := fun args bs => match freezeL 0 (fun _ => .dead) [.recd [.any, .il .u32 1], .recd [.any, .il .u32 1]] args, bs with
  | some [.agg [.c (.bool a1), .il .u32 1 a2], .agg [.c (.bool a3), .il .u32 1 a4]], [] => some (zint_Exact.f N a1 a2 a3 a4, fun r => .one (.tup [.agg [.c (.bool r.1), .il .u32 1 r.2.1], .c (.int .i64 r.2.2)]) [])
  | _, _ => none }
theorem zint_Exact.env (N : Nat) : EnvOK Try.prog (zint_Exact.E N) := ⟨(TyOK.cons ty4_ok (TyOK.cons ty74_ok (TyOK.cons ty76_ok TyOK.nil))), (TabOK.cons (zint_Quo.ent_ok N) (TabOK.cons (zint_Int_Sign.ent_ok N) TabOK.nil))⟩
theorem zint_Exact.res_eq (N : Nat) : (zint_Exact.E N).res = Try.f71.results.toList := by kernel_rfl
theorem zint_Exact.spec (N : Nat) (a1 : Bool) (a2 : List Int) (a3 : Bool) (a4 : List Int) (r : Bool × List Int × Int) (h : zint_Exact.f N a1 a2 a3 a4 = some r) : FnSpec Try.prog 71 [.agg [.c (.bool a1), .il .u32 1 a2], .agg [.c (.bool a3), .il .u32 1 a4]] [] (.tup [.agg [.c (.bool r.1), .il .u32 1 r.2.1], .c (.int .i64 r.2.2)]) ([]) := by
  rw [← zint_Exact.f_eq] at h
  refine (evFun_ok (zint_Exact.env N) Try_mixed Try.func71 (by kernel_rfl : Try.f71.body = some zint_Exact.body) (by kernel_rfl) (zint_Exact.res_eq N) (by kernel_rfl) (by kernel_rfl) (Nat.le_of_ble_eq_true (by kernel_rfl)) (AllCut.of (l := []) (by kernel_rfl) AllCut.nil) h).of fun v bs' h1 => ?_
  unfold zint_Exact.dec at h1; split at h1
  · cases h1; exact ⟨rfl, rfl⟩
  · cases h1
theorem zint_Exact.ent_ok (N : Nat) : TabOK1 Try.prog 71 (zint_Exact.ent N) := by
  intro args bs a enc h
  simp only [zint_Exact.ent] at h
  split at h
  · rename_i hz; have h0 := Option.some.inj h; have h1 := congrArg Prod.fst h0; have h2 := congrArg Prod.snd h0; dsimp only at h1 h2; subst h2; exact FnSpec.of_freeze hz (zint_Exact.spec N _ _ _ _ a h1)
  · cases h
/-! parquet/zint.must: function 70 -/
noncomputable def zint_must.f (N : Nat) (a1 : Bool) (a2 : List Int) (a3 : Int) : Option (Bool × List Int) :=
  some (a1, a2)
noncomputable def zint_must.body : Code := (Try.f70.body).getD .skip
noncomputable def zint_must.ty : List (Nat × TI) := [(76, ty76)]
noncomputable def zint_must.E (N : Nat) : Env := { ty := lookN zint_must.ty, tab := lookN [], hint := lookN [], cut := lookN [], N := N, res := [.cell 4 76], rsh := [.recd [.any, .il .u32 1]], nb := 0, ntmps := 6, own := false }
noncomputable def zint_must.dec (v : V) (bs : List Blk) : Option (Bool × List Int) := match v, bs with
  | .agg [.c (.bool z0), .il .u32 1 z1], [] => some (z0, z1)
  | _, _ => none
set_option maxRecDepth 100000 in
theorem zint_must.f_eq (N : Nat) (a1 : Bool) (a2 : List Int) (a3 : Int) :
    evFun (zint_must.E N) zint_must.body [.agg [.c (.bool a1), .il .u32 1 a2], .c (.int .i64 a3)] [] zint_must.dec = zint_must.f N a1 a2 a3 := by kernel_rfl
noncomputable def zint_must.ent (N : Nat) : Entry := { A := Bool × List Int, fresh := 0, imm := [true, true], dec := fun args bs => match freezeL 0 (fun _ => .dead) [.recd [.any, .il .u32 1], .any] args, bs with
  | some [.agg [.c (.bool a1), .il .u32 1 a2], .c (.int .i64 a3)], [] => some (zint_must.f N a1 a2 a3, fun r => .one (.agg [.c (.bool r.1), .il .u32 1 r.2]) [])
  | _, _ => none }
theorem zint_must.env (N : Nat) : EnvOK Try.prog (zint_must.E N) := ⟨(TyOK.cons ty76_ok TyOK.nil), TabOK.nil⟩
theorem zint_must.res_eq (N : Nat) : (zint_must.E N).res = Try.f70.results.toList := by kernel_rfl
theorem zint_must.spec (N : Nat) (a1 : Bool) (a2 : List Int) (a3 : Int) (r : Bool × List Int) (h : zint_must.f N a1 a2 a3 = some r) : FnSpec Try.prog 70 [.agg [.c (.bool a1), .il .u32 1 a2], .c (.int .i64 a3)] [] (.agg [.c (.bool r.1), .il .u32 1 r.2]) ([]) := by
  rw [← zint_must.f_eq] at h
  refine (evFun_ok (zint_must.env N) Try_mixed Try.func70 (by kernel_rfl : Try.f70.body = some zint_must.body) (by kernel_rfl) (zint_must.res_eq N) (by kernel_rfl) (by kernel_rfl) (Nat.le_of_ble_eq_true (by kernel_rfl)) (AllCut.of (l := []) (by kernel_rfl) AllCut.nil) h).of fun v bs' h1 => ?_
  unfold zint_must.dec at h1; split at h1
  · cases h1; exact ⟨rfl, rfl⟩
  · cases h1
theorem zint_must.ent_ok (N : Nat) : TabOK1 Try.prog 70 (zint_must.ent N) := by
  intro args bs a enc h
  simp only [zint_must.ent] at h
  split at h
  · rename_i hz; have h0 := Option.some.inj h; have h1 := congrArg Prod.fst h0; have h2 := congrArg Prod.snd h0; dsimp only at h1 h2; subst h2; exact FnSpec.of_freeze hz (zint_must.spec N _ _ _ a h1)
  · cases h
/-! parquet/zint.cofactors$1: function 81 -/
noncomputable def zint_cofactors_1.f (N : Nat) (a1 : Bool) (a2 : List Int) (a3 : Bool) (a4 : List Int) (a5 : Bool) (a6 : List Int) : Option (Bool × List Int) :=
  (zint_Mul.f N a3 a4 a5 a6).bind fun r7 =>
  (zint_must.f N r7.1 r7.2.1 r7.2.2).bind fun r8 =>
  (zint_Sub.f N a1 a2 r8.1 r8.2).bind fun r9 =>
  (zint_must.f N r9.1 r9.2.1 r9.2.2).bind fun r10 =>
  some (r10.1, r10.2)
noncomputable def zint_cofactors_1.body : Code := (Try.f81.body).getD .skip
noncomputable def zint_cofactors_1.ty : List (Nat × TI) := [(76, ty76)]
noncomputable def zint_cofactors_1.E (N : Nat) : Env := { ty := lookN zint_cofactors_1.ty, tab := lookN [(83, zint_Mul.ent N), (70, zint_must.ent N), (82, zint_Sub.ent N)], hint := lookN [], cut := lookN [], N := N, res := [.cell 6 76], rsh := [.recd [.any, .il .u32 1]], nb := 0, ntmps := 18, own := false }
noncomputable def zint_cofactors_1.dec (v : V) (bs : List Blk) : Option (Bool × List Int) := match v, bs with
  | .agg [.c (.bool z0), .il .u32 1 z1], [] => some (z0, z1)
  | _, _ => none
set_option maxRecDepth 100000 in
theorem zint_cofactors_1.f_eq (N : Nat) (a1 : Bool) (a2 : List Int) (a3 : Bool) (a4 : List Int) (a5 : Bool) (a6 : List Int) :
    evFun (zint_cofactors_1.E N) zint_cofactors_1.body [.agg [.c (.bool a1), .il .u32 1 a2], .agg [.c (.bool a3), .il .u32 1 a4], .agg [.c (.bool a5), .il .u32 1 a6]] [] zint_cofactors_1.dec = zint_cofactors_1.f N a1 a2 a3 a4 a5 a6 := by kernel_rfl
noncomputable def zint_cofactors_1.ent (N : Nat) : Entry := { A := Bool × List Int, fresh := 0, imm := [true, true, true], dec := fun args bs => match freezeL 0 (fun _ => .dead) [.recd [.any, .il .u32 1], .recd [.any, .il .u32 1], .recd [.any, .il .u32 1]] args, bs with
  | some [.agg [.c (.bool a1), .il .u32 1 a2], .agg [.c (.bool a3), .il .u32 1 a4], .agg [.c (.bool a5), .il .u32 1 a6]], [] => some (zint_cofactors_1.f N a1 a2 a3 a4 a5 a6, fun r => .one (.agg [.c (.bool r.1), .il .u32 1 r.2]) [])
  | _, _ => none }
theorem zint_cofactors_1.env (N : Nat) : EnvOK Try.prog (zint_cofactors_1.E N) := ⟨(TyOK.cons ty76_ok TyOK.nil), (TabOK.cons (zint_Mul.ent_ok N) (TabOK.cons (zint_must.ent_ok N) (TabOK.cons (zint_Sub.ent_ok N) TabOK.nil)))⟩
theorem zint_cofactors_1.res_eq (N : Nat) : (zint_cofactors_1.E N).res = Try.f81.results.toList := by kernel_rfl
theorem zint_cofactors_1.spec (N : Nat) (a1 : Bool) (a2 : List Int) (a3 : Bool) (a4 : List Int) (a5 : Bool) (a6 : List Int) (r : Bool × List Int) (h : zint_cofactors_1.f N a1 a2 a3 a4 a5 a6 = some r) : FnSpec Try.prog 81 [.agg [.c (.bool a1), .il .u32 1 a2], .agg [.c (.bool a3), .il .u32 1 a4], .agg [.c (.bool a5), .il .u32 1 a6]] [] (.agg [.c (.bool r.1), .il .u32 1 r.2]) ([]) := by
  rw [← zint_cofactors_1.f_eq] at h
  refine (evFun_ok (zint_cofactors_1.env N) Try_mixed Try.func81 (by kernel_rfl : Try.f81.body = some zint_cofactors_1.body) (by kernel_rfl) (zint_cofactors_1.res_eq N) (by kernel_rfl) (by kernel_rfl) (Nat.le_of_ble_eq_true (by kernel_rfl)) (AllCut.of (l := []) (by kernel_rfl) AllCut.nil) h).of fun v bs' h1 => ?_
  unfold zint_cofactors_1.dec at h1; split at h1
  · cases h1; exact ⟨rfl, rfl⟩
  · cases h1
theorem zint_cofactors_1.ent_ok (N : Nat) : TabOK1 Try.prog 81 (zint_cofactors_1.ent N) := by
  intro args bs a enc h
  simp only [zint_cofactors_1.ent] at h
  split at h
  · rename_i hz; have h0 := Option.some.inj h; have h1 := congrArg Prod.fst h0; have h2 := congrArg Prod.snd h0; dsimp only at h1 h2; subst h2; exact FnSpec.of_freeze hz (zint_cofactors_1.spec N _ _ _ _ _ _ a h1)
  · cases h
/-! parquet/zint.cofactors: function 69 -/
noncomputable def zint_cofactors.l5 {R : Type} (N : Nat) : Nat → Bool → List Int → Bool → List Int → Bool → Bool → Bool → List Int → Bool → List Int → Bool → List Int → Bool → List Int → Bool → List Int → Bool → List Int → (Bool → List Int → Bool → List Int → Bool → Bool → Bool → List Int → Bool → List Int → Option R) → Option R
  | 0, _, _, _, _, _, _, _, _, _, _, _, _, _, _, _, _, _, _, _ => none
  | n + 1, x9, x10, x11, x12, x13, x14, x15, x16, x17, x18, x19, x20, x21, x22, x23, x24, x25, x26, k0 =>
    (zint_Int_Sign.f N x15 x16).bind fun r27 =>
    bif r27 == 0 then
      k0 x9 x10 x11 x12 x13 x14 x19 x20 x23 x24
    else
    (zint_Quo.f N x17 x18 x15 x16).bind fun r38 =>
    (zint_cofactors_1.f N x19 x20 r38.1 r38.2.1 x21 x22).bind fun r39 =>
    (zint_cofactors_1.f N x23 x24 r38.1 r38.2.1 x25 x26).bind fun r40 =>
    zint_cofactors.l5 N n x9 x10 x11 x12 x13 x14 r38.2.2.1 r38.2.2.2.1 x15 x16 x21 x22 r39.1 r39.2 x25 x26 r40.1 r40.2 k0
noncomputable def zint_cofactors.f (N : Nat) (a1 : Bool) (a2 : List Int) (a3 : Bool) (a4 : List Int) : Option (Bool × List Int × Bool × List Int) :=
  (zint_Quo.f N a1 a2 a3 a4).bind fun r5 =>
  (zint_Of.f N 1).bind fun r6 =>
  (zint_Of.f N 1).bind fun r7 =>
  (zint_Neg.f N r5.1 r5.2.1).bind fun r8 =>
  zint_cofactors.l5 N N a1 a2 a3 a4 false false r5.2.2.1 r5.2.2.2.1 a3 a4 false [] r6.1 r6.2 r7.1 r7.2 r8.1 r8.2
    (fun y41 y42 y43 y44 y45 y46 y47 y48 y49 y50 =>
      (zint_Int_Sign.f N y47 y48).bind fun r51 =>
      bif decide (r51 < 0) then
        (zint_Add.f N y47 y48 y43 y44).bind fun r52 =>
        (zint_must.f N r52.1 r52.2.1 r52.2.2).bind fun r53 =>
        (zint_Sub.f N y49 y50 y41 y42).bind fun r54 =>
        (zint_must.f N r54.1 r54.2.1 r54.2.2).bind fun r55 =>
        some (r53.1, r53.2, r55.1, r55.2)
      else
      some (y47, y48, y49, y50))
noncomputable def zint_cofactors.body : Code := (Try.f69.body).getD .skip
noncomputable def zint_cofactors.ty : List (Nat × TI) := [(4, ty4), (74, ty74), (76, ty76)]
noncomputable def zint_cofactors.h5 : Hint := ⟨[(2, .box [.any, .il .u32 1]), (3, .box [.any, .il .u32 1]), (4, .box [.any, .any]), (5, .box [.any, .any]), (6, .any), (8, .box [.any, .il .u32 1]), (10, .box [.any, .il .u32 1]), (11, .box [.any, .il .u32 1]), (12, .box [.any, .il .u32 1]), (13, .box [.any, .il .u32 1]), (14, .box [.any, .il .u32 1])], [(2, .box [.any, .il .u32 1]), (3, .box [.any, .il .u32 1]), (4, .box [.any, .any]), (5, .box [.any, .any]), (11, .box [.any, .il .u32 1]), (13, .box [.any, .il .u32 1])]⟩
noncomputable def zint_cofactors.c5 (N : Nat) : Cut := ⟨fun vs H k => match vs, H with
  | [.ptr 0 0 2, .ptr 1 0 2, .ptr 2 0 2, .ptr 3 0 2, .fn 81 [] [], .ptr 4 0 2, .ptr 5 0 2, .ptr 6 0 2, .ptr 7 0 2, .ptr 8 0 2, .ptr 9 0 2], [.vals [.c (.bool x9), .il .u32 1 x10], .vals [.c (.bool x11), .il .u32 1 x12], .vals [.c (.bool x13), .c (.slice none 0 0)], .vals [.c (.bool x14), .c (.slice none 0 0)], .vals [.c (.bool x15), .il .u32 1 x16], .vals [.c (.bool x17), .il .u32 1 x18], .vals [.c (.bool x19), .il .u32 1 x20], .vals [.c (.bool x21), .il .u32 1 x22], .vals [.c (.bool x23), .il .u32 1 x24], .vals [.c (.bool x25), .il .u32 1 x26]] => zint_cofactors.l5 N N x9 x10 x11 x12 x13 x14 x15 x16 x17 x18 x19 x20 x21 x22 x23 x24 x25 x26 (fun x28 x29 x30 x31 x32 x33 x34 x35 x36 x37 => k (.exit 0) ⟨mkT zint_cofactors.h5.out [.ptr 0 0 2, .ptr 1 0 2, .ptr 2 0 2, .ptr 3 0 2, .ptr 4 0 2, .ptr 5 0 2], [.vals [.c (.bool x28), .il .u32 1 x29], .vals [.c (.bool x30), .il .u32 1 x31], .vals [.c (.bool x32), .c (.slice none 0 0)], .vals [.c (.bool x33), .c (.slice none 0 0)], .vals [.c (.bool x34), .il .u32 1 x35], .vals [.c (.bool x36), .il .u32 1 x37]]⟩)
  | _, _ => none⟩
noncomputable def zint_cofactors.E (N : Nat) : Env := { ty := lookN zint_cofactors.ty, tab := lookN [(84, zint_Quo.ent N), (54, zint_Of.ent N), (85, zint_Neg.ent N), (67, zint_Int_Sign.ent N), (81, zint_cofactors_1.ent N), (86, zint_Add.ent N), (70, zint_must.ent N), (82, zint_Sub.ent N)], hint := lookN [(5, zint_cofactors.h5)], cut := lookN [(5, zint_cofactors.c5 N)], N := N, res := [.cell 4 76, .cell 5 76], rsh := [.recd [.any, .il .u32 1], .recd [.any, .il .u32 1]], nb := 0, ntmps := 72, own := false }
noncomputable def zint_cofactors.b5 : Code := inner ((subLoops zint_cofactors.body).getD 1 .skip)
set_option maxRecDepth 100000 in
theorem zint_cofactors.l5_eq {R : Type} (N n : Nat) (x9 : Bool) (x10 : List Int) (x11 : Bool) (x12 : List Int) (x13 : Bool) (x14 : Bool) (x15 : Bool) (x16 : List Int) (x17 : Bool) (x18 : List Int) (x19 : Bool) (x20 : List Int) (x21 : Bool) (x22 : List Int) (x23 : Bool) (x24 : List Int) (x25 : Bool) (x26 : List Int) (k : Ex → St → Option R) :
    evLoop 0 zint_cofactors.h5 (fun s k => evCode (zint_cofactors.E N) 390 zint_cofactors.b5 s k) n [.ptr 0 0 2, .ptr 1 0 2, .ptr 2 0 2, .ptr 3 0 2, .fn 81 [] [], .ptr 4 0 2, .ptr 5 0 2, .ptr 6 0 2, .ptr 7 0 2, .ptr 8 0 2, .ptr 9 0 2] [.vals [.c (.bool x9), .il .u32 1 x10], .vals [.c (.bool x11), .il .u32 1 x12], .vals [.c (.bool x13), .c (.slice none 0 0)], .vals [.c (.bool x14), .c (.slice none 0 0)], .vals [.c (.bool x15), .il .u32 1 x16], .vals [.c (.bool x17), .il .u32 1 x18], .vals [.c (.bool x19), .il .u32 1 x20], .vals [.c (.bool x21), .il .u32 1 x22], .vals [.c (.bool x23), .il .u32 1 x24], .vals [.c (.bool x25), .il .u32 1 x26]] k = zint_cofactors.l5 N n x9 x10 x11 x12 x13 x14 x15 x16 x17 x18 x19 x20 x21 x22 x23 x24 x25 x26 (fun x28 x29 x30 x31 x32 x33 x34 x35 x36 x37 => k (.exit 0) ⟨mkT zint_cofactors.h5.out [.ptr 0 0 2, .ptr 1 0 2, .ptr 2 0 2, .ptr 3 0 2, .ptr 4 0 2, .ptr 5 0 2], [.vals [.c (.bool x28), .il .u32 1 x29], .vals [.c (.bool x30), .il .u32 1 x31], .vals [.c (.bool x32), .c (.slice none 0 0)], .vals [.c (.bool x33), .c (.slice none 0 0)], .vals [.c (.bool x34), .il .u32 1 x35], .vals [.c (.bool x36), .il .u32 1 x37]]⟩) := by
  induction n generalizing x9 x10 x11 x12 x13 x14 x15 x16 x17 x18 x19 x20 x21 x22 x23 x24 x25 x26 with
  | zero => kernel_rfl
  | succ n ih =>
    simp only [zint_cofactors.l5, ← ih]
    kernel_rfl
noncomputable def zint_cofactors.dec (v : V) (bs : List Blk) : Option (Bool × List Int × Bool × List Int) := match v, bs with
  | .tup [.agg [.c (.bool z0), .il .u32 1 z1], .agg [.c (.bool z2), .il .u32 1 z3]], [] => some (z0, z1, z2, z3)
  | _, _ => none
set_option maxRecDepth 100000 in
theorem zint_cofactors.f_eq (N : Nat) (a1 : Bool) (a2 : List Int) (a3 : Bool) (a4 : List Int) :
    evFun (zint_cofactors.E N) zint_cofactors.body [.agg [.c (.bool a1), .il .u32 1 a2], .agg [.c (.bool a3), .il .u32 1 a4]] [] zint_cofactors.dec = zint_cofactors.f N a1 a2 a3 a4 := by kernel_rfl
noncomputable def zint_cofactors.ent (N : Nat) : Entry := { A := Bool × List Int × Bool × List Int, fresh := 0, imm := [true, true], dec := fun args bs => match freezeL 0 (fun _ => .dead) [.recd [.any, .il .u32 1], .recd [.any, .il .u32 1]] args, bs with
  | some [.agg [.c (.bool a1), .il .u32 1 a2], .agg [.c (.bool a3), .il .u32 1 a4]], [] => some (zint_cofactors.f N a1 a2 a3 a4, fun r => .one (.tup [.agg [.c (.bool r.1), .il .u32 1 r.2.1], .agg [.c (.bool r.2.2.1), .il .u32 1 r.2.2.2]]) [])
  | _, _ => none }
theorem zint_cofactors.env (N : Nat) : EnvOK Try.prog (zint_cofactors.E N) := ⟨(TyOK.cons ty4_ok (TyOK.cons ty74_ok (TyOK.cons ty76_ok TyOK.nil))), (TabOK.cons (zint_Quo.ent_ok N) (TabOK.cons (zint_Of.ent_ok N) (TabOK.cons (zint_Neg.ent_ok N) (TabOK.cons (zint_Int_Sign.ent_ok N) (TabOK.cons (zint_cofactors_1.ent_ok N) (TabOK.cons (zint_Add.ent_ok N) (TabOK.cons (zint_must.ent_ok N) (TabOK.cons (zint_Sub.ent_ok N) TabOK.nil))))))))⟩
theorem zint_cofactors.res_eq (N : Nat) : (zint_cofactors.E N).res = Try.f69.results.toList := by kernel_rfl
theorem zint_cofactors.k5 (N : Nat) : CutOK Try.prog Try.f69 (zint_cofactors.E N) (.loop zint_cofactors.b5) := by
  intro e hd he hh R vs H k r h
  have e1 : (zint_cofactors.E N).cut (loopKey zint_cofactors.b5) = some (zint_cofactors.c5 N) := by kernel_rfl
  have e2 : (zint_cofactors.E N).hint (loopKey zint_cofactors.b5) = some zint_cofactors.h5 := by kernel_rfl
  rw [e1] at he; rw [e2] at hh; cases he; cases hh
  unfold zint_cofactors.c5 at h; dsimp only at h
  split at h
  · rw [← zint_cofactors.l5_eq] at h
    exact loop_ok (evCode_ok (zint_cofactors.env N) Try_mixed (zint_cofactors.res_eq N) 390 zint_cofactors.b5 (AllCut.of (l := []) (by kernel_rfl) AllCut.nil)) h
  · cases h
theorem zint_cofactors.spec (N : Nat) (a1 : Bool) (a2 : List Int) (a3 : Bool) (a4 : List Int) (r : Bool × List Int × Bool × List Int) (h : zint_cofactors.f N a1 a2 a3 a4 = some r) : FnSpec Try.prog 69 [.agg [.c (.bool a1), .il .u32 1 a2], .agg [.c (.bool a3), .il .u32 1 a4]] [] (.tup [.agg [.c (.bool r.1), .il .u32 1 r.2.1], .agg [.c (.bool r.2.2.1), .il .u32 1 r.2.2.2]]) ([]) := by
  rw [← zint_cofactors.f_eq] at h
  refine (evFun_ok (zint_cofactors.env N) Try_mixed Try.func69 (by kernel_rfl : Try.f69.body = some zint_cofactors.body) (by kernel_rfl) (zint_cofactors.res_eq N) (by kernel_rfl) (by kernel_rfl) (Nat.le_of_ble_eq_true (by kernel_rfl)) (AllCut.of (l := [(.scope (inner ((subLoops zint_cofactors.body).getD 0 .skip))), (.loop (inner ((subLoops zint_cofactors.body).getD 1 .skip)))]) (by kernel_rfl) (AllCut.cons (cut_scope (by kernel_rfl)) (AllCut.cons (zint_cofactors.k5 N) AllCut.nil))) h).of fun v bs' h1 => ?_
  unfold zint_cofactors.dec at h1; split at h1
  · cases h1; exact ⟨rfl, rfl⟩
  · cases h1
theorem zint_cofactors.ent_ok (N : Nat) : TabOK1 Try.prog 69 (zint_cofactors.ent N) := by
  intro args bs a enc h
  simp only [zint_cofactors.ent] at h
  split at h
  · rename_i hz; have h0 := Option.some.inj h; have h1 := congrArg Prod.fst h0; have h2 := congrArg Prod.snd h0; dsimp only at h1 h2; subst h2; exact FnSpec.of_freeze hz (zint_cofactors.spec N _ _ _ _ a h1)
  · cases h
/-! parquet/zint.Gcd: function 53 -/
noncomputable def zint_Gcd.f (N : Nat) (a1 : Bool) (a2 : List Int) (a3 : Bool) (a4 : List Int) : Option (List Int × Bool × List Int × Bool × List Int) :=
  (zint_Int_Sign.f N a3 a4).bind fun r5 =>
  bif r5 == 0 then
    (zint_Int_Sign.f N a1 a2).bind fun r6 =>
    (zint_Of.f N r6).bind fun r7 =>
    some (a2, r7.1, r7.2, false, [])
  else
  (nat_Gcd.f N a2 a4).bind fun r8 =>
  (zint_Make.f N false r8).bind fun r9 =>
  (zint_Exact.f N a1 a2 r9.1 r9.2).bind fun r10 =>
  (zint_must.f N r10.1 r10.2.1 r10.2.2).bind fun r11 =>
  (zint_Make.f N false a4).bind fun r12 =>
  (zint_Exact.f N r12.1 r12.2 r9.1 r9.2).bind fun r13 =>
  (zint_must.f N r13.1 r13.2.1 r13.2.2).bind fun r14 =>
  (zint_cofactors.f N r11.1 r11.2 r14.1 r14.2).bind fun r15 =>
  (zint_Make.f N (!(r15.2.2.1 == a3)) r15.2.2.2).bind fun r16 =>
  some (r8, r15.1, r15.2.1, r16.1, r16.2)
noncomputable def zint_Gcd.body : Code := (Try.f53.body).getD .skip
noncomputable def zint_Gcd.ty : List (Nat × TI) := [(4, ty4), (74, ty74), (76, ty76)]
noncomputable def zint_Gcd.E (N : Nat) : Env := { ty := lookN zint_Gcd.ty, tab := lookN [(67, zint_Int_Sign.ent N), (54, zint_Of.ent N), (68, nat_Gcd.ent N), (55, zint_Make.ent N), (71, zint_Exact.ent N), (70, zint_must.ent N), (69, zint_cofactors.ent N)], hint := lookN [], cut := lookN [], N := N, res := [.cell 4 74, .cell 5 76, .cell 6 76], rsh := [.recd [.il .u32 1], .recd [.any, .il .u32 1], .recd [.any, .il .u32 1]], nb := 0, ntmps := 52, own := false }
noncomputable def zint_Gcd.dec (v : V) (bs : List Blk) : Option (List Int × Bool × List Int × Bool × List Int) := match v, bs with
  | .tup [.agg [.il .u32 1 z0], .agg [.c (.bool z1), .il .u32 1 z2], .agg [.c (.bool z3), .il .u32 1 z4]], [] => some (z0, z1, z2, z3, z4)
  | _, _ => none
set_option maxRecDepth 100000 in
theorem zint_Gcd.f_eq (N : Nat) (a1 : Bool) (a2 : List Int) (a3 : Bool) (a4 : List Int) :
    evFun (zint_Gcd.E N) zint_Gcd.body [.agg [.c (.bool a1), .il .u32 1 a2], .agg [.c (.bool a3), .il .u32 1 a4]] [] zint_Gcd.dec = zint_Gcd.f N a1 a2 a3 a4 := by kernel_rfl
noncomputable def zint_Gcd.ent (N : Nat) : Entry := { A := List Int × Bool × List Int × Bool × List Int, fresh := 0, imm := [true, true], dec := fun args bs => match freezeL 0 (fun _ => .dead) [.recd [.any, .il .u32 1], .recd [.any, .il .u32 1]] args, bs with
  | some [.agg [.c (.bool a1), .il .u32 1 a2], .agg [.c (.bool a3), .il .u32 1 a4]], [] => some (zint_Gcd.f N a1 a2 a3 a4, fun r => .one (.tup [.agg [.il .u32 1 r.1], .agg [.c (.bool r.2.1), .il .u32 1 r.2.2.1], .agg [.c (.bool r.2.2.2.1), .il .u32 1 r.2.2.2.2]]) [])
  | _, _ => none }
theorem zint_Gcd.env (N : Nat) : EnvOK Try.prog (zint_Gcd.E N) := ⟨(TyOK.cons ty4_ok (TyOK.cons ty74_ok (TyOK.cons ty76_ok TyOK.nil))), (TabOK.cons (zint_Int_Sign.ent_ok N) (TabOK.cons (zint_Of.ent_ok N) (TabOK.cons (nat_Gcd.ent_ok N) (TabOK.cons (zint_Make.ent_ok N) (TabOK.cons (zint_Exact.ent_ok N) (TabOK.cons (zint_must.ent_ok N) (TabOK.cons (zint_cofactors.ent_ok N) TabOK.nil)))))))⟩
theorem zint_Gcd.res_eq (N : Nat) : (zint_Gcd.E N).res = Try.f53.results.toList := by kernel_rfl
theorem zint_Gcd.spec (N : Nat) (a1 : Bool) (a2 : List Int) (a3 : Bool) (a4 : List Int) (r : List Int × Bool × List Int × Bool × List Int) (h : zint_Gcd.f N a1 a2 a3 a4 = some r) : FnSpec Try.prog 53 [.agg [.c (.bool a1), .il .u32 1 a2], .agg [.c (.bool a3), .il .u32 1 a4]] [] (.tup [.agg [.il .u32 1 r.1], .agg [.c (.bool r.2.1), .il .u32 1 r.2.2.1], .agg [.c (.bool r.2.2.2.1), .il .u32 1 r.2.2.2.2]]) ([]) := by
  rw [← zint_Gcd.f_eq] at h
  refine (evFun_ok (zint_Gcd.env N) Try_mixed Try.func53 (by kernel_rfl : Try.f53.body = some zint_Gcd.body) (by kernel_rfl) (zint_Gcd.res_eq N) (by kernel_rfl) (by kernel_rfl) (Nat.le_of_ble_eq_true (by kernel_rfl)) (AllCut.of (l := []) (by kernel_rfl) AllCut.nil) h).of fun v bs' h1 => ?_
  unfold zint_Gcd.dec at h1; split at h1
  · cases h1; exact ⟨rfl, rfl⟩
  · cases h1
theorem zint_Gcd.ent_ok (N : Nat) : TabOK1 Try.prog 53 (zint_Gcd.ent N) := by
  intro args bs a enc h
  simp only [zint_Gcd.ent] at h
  split at h
  · rename_i hz; have h0 := Option.some.inj h; have h1 := congrArg Prod.fst h0; have h2 := congrArg Prod.snd h0; dsimp only at h1 h2; subst h2; exact FnSpec.of_freeze hz (zint_Gcd.spec N _ _ _ _ a h1)
  · cases h
/-! parquet/modular.Gcd: function 47 -/
noncomputable def modular_Gcd.f (N : Nat) (a1 : Int) (a2 : Int) : Option (Int × Int × Int) :=
  bif decide ((mx2 a1 a2) > 4611686018427387904) then
    some (0, 0, 0)
  else
  bif decide ((mn2 a1 a2) < (-4611686018427387904)) then
    some (0, 0, 0)
  else
  (zint_Of.f N a1).bind fun r3 =>
  (zint_Of.f N a2).bind fun r4 =>
  (zint_Gcd.f N r3.1 r3.2 r4.1 r4.2).bind fun r5 =>
  (zint_Make.f N false r5.1).bind fun r6 =>
  (zint_Int_Int64.f N r6.1 r6.2).bind fun r7 =>
  (zint_Int_Int64.f N r5.2.1 r5.2.2.1).bind fun r8 =>
  (zint_Int_Int64.f N r5.2.2.2.1 r5.2.2.2.2).bind fun r9 =>
  some (r7.1, r8.1, r9.1)
noncomputable def modular_Gcd.body : Code := (Try.f47.body).getD .skip
noncomputable def modular_Gcd.ty : List (Nat × TI) := [(74, ty74), (76, ty76)]
noncomputable def modular_Gcd.E (N : Nat) : Env := { ty := lookN modular_Gcd.ty, tab := lookN [(54, zint_Of.ent N), (53, zint_Gcd.ent N), (55, zint_Make.ent N), (56, zint_Int_Int64.ent N)], hint := lookN [], cut := lookN [], N := N, res := [.tmp 4, .tmp 5, .tmp 6], rsh := [.any, .any, .any], nb := 0, ntmps := 48, own := false }
noncomputable def modular_Gcd.dec (v : V) (bs : List Blk) : Option (Int × Int × Int) := match v, bs with
  | .tup [.c (.int .i64 z0), .c (.int .i64 z1), .c (.int .i64 z2)], [] => some (z0, z1, z2)
  | _, _ => none
set_option maxRecDepth 100000 in
theorem modular_Gcd.f_eq (N : Nat) (a1 : Int) (a2 : Int) :
    evFun (modular_Gcd.E N) modular_Gcd.body [.c (.int .i64 a1), .c (.int .i64 a2)] [] modular_Gcd.dec = modular_Gcd.f N a1 a2 := by kernel_rfl
noncomputable def modular_Gcd.ent (N : Nat) : Entry := { A := Int × Int × Int, fresh := 0, imm := [true, true], dec := fun args bs => match freezeL 0 (fun _ => .dead) [.any, .any] args, bs with
  | some [.c (.int .i64 a1), .c (.int .i64 a2)], [] => some (modular_Gcd.f N a1 a2, fun r => .one (.tup [.c (.int .i64 r.1), .c (.int .i64 r.2.1), .c (.int .i64 r.2.2)]) [])
  | _, _ => none }
theorem modular_Gcd.env (N : Nat) : EnvOK Try.prog (modular_Gcd.E N) := ⟨(TyOK.cons ty74_ok (TyOK.cons ty76_ok TyOK.nil)), (TabOK.cons (zint_Of.ent_ok N) (TabOK.cons (zint_Gcd.ent_ok N) (TabOK.cons (zint_Make.ent_ok N) (TabOK.cons (zint_Int_Int64.ent_ok N) TabOK.nil))))⟩
theorem modular_Gcd.res_eq (N : Nat) : (modular_Gcd.E N).res = Try.f47.results.toList := by kernel_rfl
theorem modular_Gcd.spec (N : Nat) (a1 : Int) (a2 : Int) (r : Int × Int × Int) (h : modular_Gcd.f N a1 a2 = some r) : FnSpec Try.prog 47 [.c (.int .i64 a1), .c (.int .i64 a2)] [] (.tup [.c (.int .i64 r.1), .c (.int .i64 r.2.1), .c (.int .i64 r.2.2)]) ([]) := by
  rw [← modular_Gcd.f_eq] at h
  refine (evFun_ok (modular_Gcd.env N) Try_mixed Try.func47 (by kernel_rfl : Try.f47.body = some modular_Gcd.body) (by kernel_rfl) (modular_Gcd.res_eq N) (by kernel_rfl) (by kernel_rfl) (Nat.le_of_ble_eq_true (by kernel_rfl)) (AllCut.of (l := []) (by kernel_rfl) AllCut.nil) h).of fun v bs' h1 => ?_
  unfold modular_Gcd.dec at h1; split at h1
  · cases h1; exact ⟨rfl, rfl⟩
  · cases h1
theorem modular_Gcd.ent_ok (N : Nat) : TabOK1 Try.prog 47 (modular_Gcd.ent N) := by
  intro args bs a enc h
  simp only [modular_Gcd.ent] at h
  split at h
  · rename_i hz; have h0 := Option.some.inj h; have h1 := congrArg Prod.fst h0; have h2 := congrArg Prod.snd h0; dsimp only at h1 h2; subst h2; exact FnSpec.of_freeze hz (modular_Gcd.spec N _ _ a h1)
  · cases h
/-! parquet/binary.within: function 40 -/
noncomputable def binary_within.f (N : Nat) (a1 : Int) (a2 : Int) (a3 : Int) : Option (Bool) :=
  bif decide ((mx2 (mx2 a1 a2) a3) ≤ 1073741824) then
    some (decide ((mn2 (mn2 a1 a2) a3) ≥ (-1073741824)))
  else
  some false
noncomputable def binary_within.body : Code := (Try.f40.body).getD .skip
noncomputable def binary_within.ty : List (Nat × TI) := [(2, ty2), (33, ty33)]
noncomputable def binary_within.E (N : Nat) : Env := { ty := lookN binary_within.ty, tab := lookN [], hint := lookN [], cut := lookN [], N := N, res := [.tmp 2], rsh := [.any], nb := 0, ntmps := 21, own := false }
noncomputable def binary_within.dec (v : V) (bs : List Blk) : Option (Bool) := match v, bs with
  | .c (.bool z0), [] => some z0
  | _, _ => none
set_option maxRecDepth 100000 in
theorem binary_within.f_eq (N : Nat) (a1 : Int) (a2 : Int) (a3 : Int) :
    evFun (binary_within.E N) binary_within.body [.agg [.c (.int .i64 a1), .c (.int .i64 a2), .c (.int .i64 a3)]] [] binary_within.dec = binary_within.f N a1 a2 a3 := by kernel_rfl
noncomputable def binary_within.ent (N : Nat) : Entry := { A := Bool, fresh := 0, imm := [true], dec := fun args bs => match freezeL 0 (fun _ => .dead) [.recd [.any, .any, .any]] args, bs with
  | some [.agg [.c (.int .i64 a1), .c (.int .i64 a2), .c (.int .i64 a3)]], [] => some (binary_within.f N a1 a2 a3, fun r => .one (.c (.bool r)) [])
  | _, _ => none }
theorem binary_within.env (N : Nat) : EnvOK Try.prog (binary_within.E N) := ⟨(TyOK.cons ty2_ok (TyOK.cons ty33_ok TyOK.nil)), TabOK.nil⟩
theorem binary_within.res_eq (N : Nat) : (binary_within.E N).res = Try.f40.results.toList := by kernel_rfl
theorem binary_within.spec (N : Nat) (a1 : Int) (a2 : Int) (a3 : Int) (r : Bool) (h : binary_within.f N a1 a2 a3 = some r) : FnSpec Try.prog 40 [.agg [.c (.int .i64 a1), .c (.int .i64 a2), .c (.int .i64 a3)]] [] (.c (.bool r)) ([]) := by
  rw [← binary_within.f_eq] at h
  refine (evFun_ok (binary_within.env N) Try_mixed Try.func40 (by kernel_rfl : Try.f40.body = some binary_within.body) (by kernel_rfl) (binary_within.res_eq N) (by kernel_rfl) (by kernel_rfl) (Nat.le_of_ble_eq_true (by kernel_rfl)) (AllCut.of (l := []) (by kernel_rfl) AllCut.nil) h).of fun v bs' h1 => ?_
  unfold binary_within.dec at h1; split at h1
  · cases h1; exact ⟨rfl, rfl⟩
  · cases h1
theorem binary_within.ent_ok (N : Nat) : TabOK1 Try.prog 40 (binary_within.ent N) := by
  intro args bs a enc h
  simp only [binary_within.ent] at h
  split at h
  · rename_i hz; have h0 := Option.some.inj h; have h1 := congrArg Prod.fst h0; have h2 := congrArg Prod.snd h0; dsimp only at h1 h2; subst h2; exact FnSpec.of_freeze hz (binary_within.spec N _ _ _ a h1)
  · cases h
/-! parquet/binary.Disc: function 22 -/
noncomputable def binary_Disc.f (N : Nat) (a1 : Int) (a2 : Int) (a3 : Int) : Option (Int) :=
  (binary_within.f N a1 a2 a3).bind fun r4 =>
  bif !r4 then
    some 0
  else
  some (wi64 ((wi64 (a2 * a2)) - (wi64 ((wi64 (4 * a1)) * a3))))
noncomputable def binary_Disc.body : Code := (Try.f22.body).getD .skip
noncomputable def binary_Disc.ty : List (Nat × TI) := [(2, ty2), (33, ty33)]
noncomputable def binary_Disc.E (N : Nat) : Env := { ty := lookN binary_Disc.ty, tab := lookN [(40, binary_within.ent N)], hint := lookN [], cut := lookN [], N := N, res := [.tmp 2], rsh := [.any], nb := 0, ntmps := 18, own := false }
noncomputable def binary_Disc.dec (v : V) (bs : List Blk) : Option (Int) := match v, bs with
  | .c (.int .i64 z0), [] => some z0
  | _, _ => none
set_option maxRecDepth 100000 in
theorem binary_Disc.f_eq (N : Nat) (a1 : Int) (a2 : Int) (a3 : Int) :
    evFun (binary_Disc.E N) binary_Disc.body [.agg [.c (.int .i64 a1), .c (.int .i64 a2), .c (.int .i64 a3)]] [] binary_Disc.dec = binary_Disc.f N a1 a2 a3 := by kernel_rfl
noncomputable def binary_Disc.ent (N : Nat) : Entry := { A := Int, fresh := 0, imm := [true], dec := fun args bs => match freezeL 0 (fun _ => .dead) [.recd [.any, .any, .any]] args, bs with
  | some [.agg [.c (.int .i64 a1), .c (.int .i64 a2), .c (.int .i64 a3)]], [] => some (binary_Disc.f N a1 a2 a3, fun r => .one (.c (.int .i64 r)) [])
  | _, _ => none }
theorem binary_Disc.env (N : Nat) : EnvOK Try.prog (binary_Disc.E N) := ⟨(TyOK.cons ty2_ok (TyOK.cons ty33_ok TyOK.nil)), (TabOK.cons (binary_within.ent_ok N) TabOK.nil)⟩
theorem binary_Disc.res_eq (N : Nat) : (binary_Disc.E N).res = Try.f22.results.toList := by kernel_rfl
theorem binary_Disc.spec (N : Nat) (a1 : Int) (a2 : Int) (a3 : Int) (r : Int) (h : binary_Disc.f N a1 a2 a3 = some r) : FnSpec Try.prog 22 [.agg [.c (.int .i64 a1), .c (.int .i64 a2), .c (.int .i64 a3)]] [] (.c (.int .i64 r)) ([]) := by
  rw [← binary_Disc.f_eq] at h
  refine (evFun_ok (binary_Disc.env N) Try_mixed Try.func22 (by kernel_rfl : Try.f22.body = some binary_Disc.body) (by kernel_rfl) (binary_Disc.res_eq N) (by kernel_rfl) (by kernel_rfl) (Nat.le_of_ble_eq_true (by kernel_rfl)) (AllCut.of (l := []) (by kernel_rfl) AllCut.nil) h).of fun v bs' h1 => ?_
  unfold binary_Disc.dec at h1; split at h1
  · cases h1; exact ⟨rfl, rfl⟩
  · cases h1
theorem binary_Disc.ent_ok (N : Nat) : TabOK1 Try.prog 22 (binary_Disc.ent N) := by
  intro args bs a enc h
  simp only [binary_Disc.ent] at h
  split at h
  · rename_i hz; have h0 := Option.some.inj h; have h1 := congrArg Prod.fst h0; have h2 := congrArg Prod.snd h0; dsimp only at h1 h2; subst h2; exact FnSpec.of_freeze hz (binary_Disc.spec N _ _ _ a h1)
  · cases h
/-! parquet/binary.Check: function 41 -/
noncomputable def binary_Check.f (N : Nat) (a1 : Int) (a2 : Int) (a3 : Int) : Option (Int) :=
  (binary_Disc.f N a1 a2 a3).bind fun r4 =>
  (binary_within.f N a1 a2 a3).bind fun r5 =>
  bif !r5 then
    some 3
  else
  bif decide (a1 ≤ 0) then
    some 81
  else
  bif decide (r4 ≥ 0) then
    some 81
  else
  bif decide (r4 < (-4294967296)) then
    some 80
  else
  some 0
noncomputable def binary_Check.body : Code := (Try.f41.body).getD .skip
noncomputable def binary_Check.ty : List (Nat × TI) := [(2, ty2), (33, ty33)]
noncomputable def binary_Check.E (N : Nat) : Env := { ty := lookN binary_Check.ty, tab := lookN [(22, binary_Disc.ent N), (40, binary_within.ent N)], hint := lookN [], cut := lookN [], N := N, res := [.tmp 2], rsh := [.any], nb := 0, ntmps := 21, own := false }
noncomputable def binary_Check.dec (v : V) (bs : List Blk) : Option (Int) := match v, bs with
  | .c (.int .i64 z0), [] => some z0
  | _, _ => none
set_option maxRecDepth 100000 in
theorem binary_Check.f_eq (N : Nat) (a1 : Int) (a2 : Int) (a3 : Int) :
    evFun (binary_Check.E N) binary_Check.body [.agg [.c (.int .i64 a1), .c (.int .i64 a2), .c (.int .i64 a3)]] [] binary_Check.dec = binary_Check.f N a1 a2 a3 := by kernel_rfl
noncomputable def binary_Check.ent (N : Nat) : Entry := { A := Int, fresh := 0, imm := [true], dec := fun args bs => match freezeL 0 (fun _ => .dead) [.recd [.any, .any, .any]] args, bs with
  | some [.agg [.c (.int .i64 a1), .c (.int .i64 a2), .c (.int .i64 a3)]], [] => some (binary_Check.f N a1 a2 a3, fun r => .one (.c (.int .i64 r)) [])
  | _, _ => none }
theorem binary_Check.env (N : Nat) : EnvOK Try.prog (binary_Check.E N) := ⟨(TyOK.cons ty2_ok (TyOK.cons ty33_ok TyOK.nil)), (TabOK.cons (binary_Disc.ent_ok N) (TabOK.cons (binary_within.ent_ok N) TabOK.nil))⟩
theorem binary_Check.res_eq (N : Nat) : (binary_Check.E N).res = Try.f41.results.toList := by kernel_rfl
theorem binary_Check.spec (N : Nat) (a1 : Int) (a2 : Int) (a3 : Int) (r : Int) (h : binary_Check.f N a1 a2 a3 = some r) : FnSpec Try.prog 41 [.agg [.c (.int .i64 a1), .c (.int .i64 a2), .c (.int .i64 a3)]] [] (.c (.int .i64 r)) ([]) := by
  rw [← binary_Check.f_eq] at h
  refine (evFun_ok (binary_Check.env N) Try_mixed Try.func41 (by kernel_rfl : Try.f41.body = some binary_Check.body) (by kernel_rfl) (binary_Check.res_eq N) (by kernel_rfl) (by kernel_rfl) (Nat.le_of_ble_eq_true (by kernel_rfl)) (AllCut.of (l := []) (by kernel_rfl) AllCut.nil) h).of fun v bs' h1 => ?_
  unfold binary_Check.dec at h1; split at h1
  · cases h1; exact ⟨rfl, rfl⟩
  · cases h1
theorem binary_Check.ent_ok (N : Nat) : TabOK1 Try.prog 41 (binary_Check.ent N) := by
  intro args bs a enc h
  simp only [binary_Check.ent] at h
  split at h
  · rename_i hz; have h0 := Option.some.inj h; have h1 := congrArg Prod.fst h0; have h2 := congrArg Prod.snd h0; dsimp only at h1 h2; subst h2; exact FnSpec.of_freeze hz (binary_Check.spec N _ _ _ a h1)
  · cases h
/-! (*parquet/binary.walk).step: function 42 -/
noncomputable def binary_walk_step.f (N : Nat) (a1 : Int) (a2 : Int) (a3 : Int) (a4 : Int) (a5 : Int) (a6 : Int) (a7 : Int) : Option (Bool × Int × Int × Int × Int × Int × Int × Int) :=
  bif decide (a2 ≤ (wi64 (0 - a1))) then
    bif !((wi64 (2 * a1)) == 0) then
      bif !((wi64 (2 * a1)) == 0) then
        bif decide ((Int.tmod (wi64 (a1 - a2)) (wi64 (2 * a1))) < 0) then
          some (true, a1, wi64 (a2 + (wi64 ((wi64 (2 * (wi64 ((wi64 (Int.tdiv (wi64 (a1 - a2)) (wi64 (2 * a1)))) - 1)))) * a1))), wi64 ((wi64 ((wi64 ((wi64 (a1 * (wi64 ((wi64 (Int.tdiv (wi64 (a1 - a2)) (wi64 (2 * a1)))) - 1)))) + a2)) * (wi64 ((wi64 (Int.tdiv (wi64 (a1 - a2)) (wi64 (2 * a1)))) - 1)))) + a3), a4, wi64 ((wi64 ((wi64 ((wi64 (Int.tdiv (wi64 (a1 - a2)) (wi64 (2 * a1)))) - 1)) * a4)) + a5), a6, wi64 ((wi64 ((wi64 ((wi64 (Int.tdiv (wi64 (a1 - a2)) (wi64 (2 * a1)))) - 1)) * a6)) + a7))
        else
        some (true, a1, wi64 (a2 + (wi64 ((wi64 (2 * (wi64 (Int.tdiv (wi64 (a1 - a2)) (wi64 (2 * a1)))))) * a1))), wi64 ((wi64 ((wi64 ((wi64 (a1 * (wi64 (Int.tdiv (wi64 (a1 - a2)) (wi64 (2 * a1)))))) + a2)) * (wi64 (Int.tdiv (wi64 (a1 - a2)) (wi64 (2 * a1)))))) + a3), a4, wi64 ((wi64 ((wi64 (Int.tdiv (wi64 (a1 - a2)) (wi64 (2 * a1)))) * a4)) + a5), a6, wi64 ((wi64 ((wi64 (Int.tdiv (wi64 (a1 - a2)) (wi64 (2 * a1)))) * a6)) + a7))
      else none
    else none
  else
  bif decide (a2 > a1) then
    bif !((wi64 (2 * a1)) == 0) then
      bif !((wi64 (2 * a1)) == 0) then
        bif decide ((Int.tmod (wi64 (a1 - a2)) (wi64 (2 * a1))) < 0) then
          some (true, a1, wi64 (a2 + (wi64 ((wi64 (2 * (wi64 ((wi64 (Int.tdiv (wi64 (a1 - a2)) (wi64 (2 * a1)))) - 1)))) * a1))), wi64 ((wi64 ((wi64 ((wi64 (a1 * (wi64 ((wi64 (Int.tdiv (wi64 (a1 - a2)) (wi64 (2 * a1)))) - 1)))) + a2)) * (wi64 ((wi64 (Int.tdiv (wi64 (a1 - a2)) (wi64 (2 * a1)))) - 1)))) + a3), a4, wi64 ((wi64 ((wi64 ((wi64 (Int.tdiv (wi64 (a1 - a2)) (wi64 (2 * a1)))) - 1)) * a4)) + a5), a6, wi64 ((wi64 ((wi64 ((wi64 (Int.tdiv (wi64 (a1 - a2)) (wi64 (2 * a1)))) - 1)) * a6)) + a7))
        else
        some (true, a1, wi64 (a2 + (wi64 ((wi64 (2 * (wi64 (Int.tdiv (wi64 (a1 - a2)) (wi64 (2 * a1)))))) * a1))), wi64 ((wi64 ((wi64 ((wi64 (a1 * (wi64 (Int.tdiv (wi64 (a1 - a2)) (wi64 (2 * a1)))))) + a2)) * (wi64 (Int.tdiv (wi64 (a1 - a2)) (wi64 (2 * a1)))))) + a3), a4, wi64 ((wi64 ((wi64 (Int.tdiv (wi64 (a1 - a2)) (wi64 (2 * a1)))) * a4)) + a5), a6, wi64 ((wi64 ((wi64 (Int.tdiv (wi64 (a1 - a2)) (wi64 (2 * a1)))) * a6)) + a7))
      else none
    else none
  else
  bif decide (a1 > a3) then
    some (true, a3, wi64 (0 - a2), a1, a5, wi64 (0 - a4), a7, wi64 (0 - a6))
  else
  bif a1 == a3 then
    bif decide (a2 < 0) then
      some (true, a3, wi64 (0 - a2), a1, a5, wi64 (0 - a4), a7, wi64 (0 - a6))
    else
    some (false, a1, a2, a3, a4, a5, a6, a7)
  else
  some (false, a1, a2, a3, a4, a5, a6, a7)
noncomputable def binary_walk_step.body : Code := (Try.f42.body).getD .skip
noncomputable def binary_walk_step.ty : List (Nat × TI) := [(2, ty2), (33, ty33), (40, ty40), (60, ty60)]
noncomputable def binary_walk_step.E (N : Nat) : Env := { ty := lookN binary_walk_step.ty, tab := lookN [], hint := lookN [], cut := lookN [], N := N, res := [.tmp 2], rsh := [.any], nb := 1, ntmps := 164, own := false }
noncomputable def binary_walk_step.dec (v : V) (bs : List Blk) : Option (Bool × Int × Int × Int × Int × Int × Int × Int) := match v, bs with
  | .c (.bool z0), [.vals [.c (.int .i64 z1), .c (.int .i64 z2), .c (.int .i64 z3), .c (.int .i64 z4), .c (.int .i64 z5), .c (.int .i64 z6), .c (.int .i64 z7)]] => some (z0, z1, z2, z3, z4, z5, z6, z7)
  | _, _ => none
set_option maxRecDepth 100000 in
theorem binary_walk_step.f_eq (N : Nat) (a1 : Int) (a2 : Int) (a3 : Int) (a4 : Int) (a5 : Int) (a6 : Int) (a7 : Int) :
    evFun (binary_walk_step.E N) binary_walk_step.body [.ptr 0 0 7] [.vals [.c (.int .i64 a1), .c (.int .i64 a2), .c (.int .i64 a3), .c (.int .i64 a4), .c (.int .i64 a5), .c (.int .i64 a6), .c (.int .i64 a7)]] binary_walk_step.dec = binary_walk_step.f N a1 a2 a3 a4 a5 a6 a7 := by kernel_rfl
noncomputable def binary_walk_step.ent (N : Nat) : Entry := { A := Bool × Int × Int × Int × Int × Int × Int × Int, fresh := 0, imm := [false], dec := fun args bs => match asSlL (blkAt bs) [false] args, bs with
  | [.ptr 0 0 7], [.vals [.c (.int .i64 a1), .c (.int .i64 a2), .c (.int .i64 a3), .c (.int .i64 a4), .c (.int .i64 a5), .c (.int .i64 a6), .c (.int .i64 a7)]] => some (binary_walk_step.f N a1 a2 a3 a4 a5 a6 a7, fun r => .one (.c (.bool r.1)) [.vals [.c (.int .i64 r.2.1), .c (.int .i64 r.2.2.1), .c (.int .i64 r.2.2.2.1), .c (.int .i64 r.2.2.2.2.1), .c (.int .i64 r.2.2.2.2.2.1), .c (.int .i64 r.2.2.2.2.2.2.1), .c (.int .i64 r.2.2.2.2.2.2.2)]])
  | _, _ => none }
theorem binary_walk_step.env (N : Nat) : EnvOK Try.prog (binary_walk_step.E N) := ⟨(TyOK.cons ty2_ok (TyOK.cons ty33_ok (TyOK.cons ty40_ok (TyOK.cons ty60_ok TyOK.nil)))), TabOK.nil⟩
theorem binary_walk_step.res_eq (N : Nat) : (binary_walk_step.E N).res = Try.f42.results.toList := by kernel_rfl
theorem binary_walk_step.spec (N : Nat) (a1 : Int) (a2 : Int) (a3 : Int) (a4 : Int) (a5 : Int) (a6 : Int) (a7 : Int) (r : Bool × Int × Int × Int × Int × Int × Int × Int) (h : binary_walk_step.f N a1 a2 a3 a4 a5 a6 a7 = some r) : FnSpec Try.prog 42 [.ptr 0 0 7] [.vals [.c (.int .i64 a1), .c (.int .i64 a2), .c (.int .i64 a3), .c (.int .i64 a4), .c (.int .i64 a5), .c (.int .i64 a6), .c (.int .i64 a7)]] (.c (.bool r.1)) ([.vals [.c (.int .i64 r.2.1), .c (.int .i64 r.2.2.1), .c (.int .i64 r.2.2.2.1), .c (.int .i64 r.2.2.2.2.1), .c (.int .i64 r.2.2.2.2.2.1), .c (.int .i64 r.2.2.2.2.2.2.1), .c (.int .i64 r.2.2.2.2.2.2.2)]]) := by
  rw [← binary_walk_step.f_eq] at h
  refine (evFun_ok (binary_walk_step.env N) Try_mixed Try.func42 (by kernel_rfl : Try.f42.body = some binary_walk_step.body) (by kernel_rfl) (binary_walk_step.res_eq N) (by kernel_rfl) (by kernel_rfl) (Nat.le_of_ble_eq_true (by kernel_rfl)) (AllCut.of (l := []) (by kernel_rfl) AllCut.nil) h).of fun v bs' h1 => ?_
  unfold binary_walk_step.dec at h1; split at h1
  · cases h1; exact ⟨rfl, rfl⟩
  · cases h1
theorem binary_walk_step.ent_ok (N : Nat) : TabOK1 Try.prog 42 (binary_walk_step.ent N) := by
  intro args bs a enc h
  simp only [binary_walk_step.ent] at h
  split at h
  · rename_i hz; have h0 := Option.some.inj h; have h1 := congrArg Prod.fst h0; have h2 := congrArg Prod.snd h0; dsimp only at h1 h2; subst h2; exact FnSpec.of_asSl (fl := [false]) (by rw [hz]; exact binary_walk_step.spec N _ _ _ _ _ _ _ a h1)
  · cases h
/-! parquet/binary.Reduce: function 32 -/
noncomputable def binary_Reduce.l6 {R : Type} (N : Nat) : Nat → Int → Int → Int → Int → Int → Int → Int → Int → Int → Int → Int → Int → Int → Int → (Int → Int → Int → Int → Int → Int → Int → Int → Int → Int → Int → Int → Int → Int → Option R) → Option R
  | 0, _, _, _, _, _, _, _, _, _, _, _, _, _, _, _ => none
  | n + 1, x5, x6, x7, x8, x9, x10, x11, x12, x13, x14, x15, x16, x17, x18, k0 =>
    (binary_walk_step.f N x12 x13 x14 x15 x16 x17 x18).bind fun r19 =>
    bif r19.1 then
      binary_Reduce.l6 N n x5 x6 x7 x8 x9 x10 x11 r19.2.1 r19.2.2.1 r19.2.2.2.1 r19.2.2.2.2.1 r19.2.2.2.2.2.1 r19.2.2.2.2.2.2.1 r19.2.2.2.2.2.2.2 k0
    else
    k0 x5 x6 x7 x8 x9 x10 x11 r19.2.1 r19.2.2.1 r19.2.2.2.1 r19.2.2.2.2.1 r19.2.2.2.2.2.1 r19.2.2.2.2.2.2.1 r19.2.2.2.2.2.2.2
noncomputable def binary_Reduce.f (N : Nat) (a1 : Int) (a2 : Int) (a3 : Int) : Option (Int × Int × Int × Int × Int × Int × Int × Int) :=
  (binary_Check.f N a1 a2 a3).bind fun r4 =>
  bif r4 != 0 then
    some (0, 0, 0, 0, 0, 0, 0, r4)
  else
  binary_Reduce.l6 N N 0 0 0 0 0 0 0 a1 a2 a3 1 0 0 1
    (fun y34 y35 y36 y37 y38 y39 y40 y41 y42 y43 y44 y45 y46 y47 =>
      some (y41, y42, y43, y44, y45, y46, y47, 0))
noncomputable def binary_Reduce.body : Code := (Try.f32.body).getD .skip
noncomputable def binary_Reduce.ty : List (Nat × TI) := [(2, ty2), (33, ty33), (40, ty40), (60, ty60)]
noncomputable def binary_Reduce.h6 : Hint := ⟨[(2, .box [.any, .any, .any]), (3, .box [.any, .any, .any, .any]), (6, .box [.any, .any, .any, .any, .any, .any, .any]), (7, .any)], [(2, .box [.any, .any, .any]), (3, .box [.any, .any, .any, .any]), (6, .box [.any, .any, .any, .any, .any, .any, .any])]⟩
noncomputable def binary_Reduce.c6 (N : Nat) : Cut := ⟨fun vs H k => match vs, H with
  | [.ptr 0 0 3, .ptr 1 0 4, .ptr 2 0 7, .fn 42 [.ptr 2 0 7] []], [.vals [.c (.int .i64 x5), .c (.int .i64 x6), .c (.int .i64 x7)], .vals [.c (.int .i64 x8), .c (.int .i64 x9), .c (.int .i64 x10), .c (.int .i64 x11)], .vals [.c (.int .i64 x12), .c (.int .i64 x13), .c (.int .i64 x14), .c (.int .i64 x15), .c (.int .i64 x16), .c (.int .i64 x17), .c (.int .i64 x18)]] => binary_Reduce.l6 N N x5 x6 x7 x8 x9 x10 x11 x12 x13 x14 x15 x16 x17 x18 (fun x20 x21 x22 x23 x24 x25 x26 x27 x28 x29 x30 x31 x32 x33 => k (.exit 0) ⟨mkT binary_Reduce.h6.out [.ptr 0 0 3, .ptr 1 0 4, .ptr 2 0 7], [.vals [.c (.int .i64 x20), .c (.int .i64 x21), .c (.int .i64 x22)], .vals [.c (.int .i64 x23), .c (.int .i64 x24), .c (.int .i64 x25), .c (.int .i64 x26)], .vals [.c (.int .i64 x27), .c (.int .i64 x28), .c (.int .i64 x29), .c (.int .i64 x30), .c (.int .i64 x31), .c (.int .i64 x32), .c (.int .i64 x33)]]⟩)
  | _, _ => none⟩
noncomputable def binary_Reduce.E (N : Nat) : Env := { ty := lookN binary_Reduce.ty, tab := lookN [(41, binary_Check.ent N), (42, binary_walk_step.ent N)], hint := lookN [(6, binary_Reduce.h6)], cut := lookN [(6, binary_Reduce.c6 N)], N := N, res := [.cell 2 33, .cell 3 40, .tmp 4], rsh := [.recd [.any, .any, .any], .recd [.any, .any, .any, .any], .any], nb := 0, ntmps := 31, own := false }
noncomputable def binary_Reduce.b6 : Code := inner ((subLoops binary_Reduce.body).getD 0 .skip)
set_option maxRecDepth 100000 in
theorem binary_Reduce.l6_eq {R : Type} (N n : Nat) (x5 : Int) (x6 : Int) (x7 : Int) (x8 : Int) (x9 : Int) (x10 : Int) (x11 : Int) (x12 : Int) (x13 : Int) (x14 : Int) (x15 : Int) (x16 : Int) (x17 : Int) (x18 : Int) (k : Ex → St → Option R) :
    evLoop 0 binary_Reduce.h6 (fun s k => evCode (binary_Reduce.E N) 393 binary_Reduce.b6 s k) n [.ptr 0 0 3, .ptr 1 0 4, .ptr 2 0 7, .fn 42 [.ptr 2 0 7] []] [.vals [.c (.int .i64 x5), .c (.int .i64 x6), .c (.int .i64 x7)], .vals [.c (.int .i64 x8), .c (.int .i64 x9), .c (.int .i64 x10), .c (.int .i64 x11)], .vals [.c (.int .i64 x12), .c (.int .i64 x13), .c (.int .i64 x14), .c (.int .i64 x15), .c (.int .i64 x16), .c (.int .i64 x17), .c (.int .i64 x18)]] k = binary_Reduce.l6 N n x5 x6 x7 x8 x9 x10 x11 x12 x13 x14 x15 x16 x17 x18 (fun x20 x21 x22 x23 x24 x25 x26 x27 x28 x29 x30 x31 x32 x33 => k (.exit 0) ⟨mkT binary_Reduce.h6.out [.ptr 0 0 3, .ptr 1 0 4, .ptr 2 0 7], [.vals [.c (.int .i64 x20), .c (.int .i64 x21), .c (.int .i64 x22)], .vals [.c (.int .i64 x23), .c (.int .i64 x24), .c (.int .i64 x25), .c (.int .i64 x26)], .vals [.c (.int .i64 x27), .c (.int .i64 x28), .c (.int .i64 x29), .c (.int .i64 x30), .c (.int .i64 x31), .c (.int .i64 x32), .c (.int .i64 x33)]]⟩) := by
  induction n generalizing x5 x6 x7 x8 x9 x10 x11 x12 x13 x14 x15 x16 x17 x18 with
  | zero => kernel_rfl
  | succ n ih =>
    simp only [binary_Reduce.l6, ← ih]
    kernel_rfl
noncomputable def binary_Reduce.dec (v : V) (bs : List Blk) : Option (Int × Int × Int × Int × Int × Int × Int × Int) := match v, bs with
  | .tup [.agg [.c (.int .i64 z0), .c (.int .i64 z1), .c (.int .i64 z2)], .agg [.c (.int .i64 z3), .c (.int .i64 z4), .c (.int .i64 z5), .c (.int .i64 z6)], .c (.int .i64 z7)], [] => some (z0, z1, z2, z3, z4, z5, z6, z7)
  | _, _ => none
set_option maxRecDepth 100000 in
theorem binary_Reduce.f_eq (N : Nat) (a1 : Int) (a2 : Int) (a3 : Int) :
    evFun (binary_Reduce.E N) binary_Reduce.body [.agg [.c (.int .i64 a1), .c (.int .i64 a2), .c (.int .i64 a3)]] [] binary_Reduce.dec = binary_Reduce.f N a1 a2 a3 := by kernel_rfl
noncomputable def binary_Reduce.ent (N : Nat) : Entry := { A := Int × Int × Int × Int × Int × Int × Int × Int, fresh := 0, imm := [true], dec := fun args bs => match freezeL 0 (fun _ => .dead) [.recd [.any, .any, .any]] args, bs with
  | some [.agg [.c (.int .i64 a1), .c (.int .i64 a2), .c (.int .i64 a3)]], [] => some (binary_Reduce.f N a1 a2 a3, fun r => .one (.tup [.agg [.c (.int .i64 r.1), .c (.int .i64 r.2.1), .c (.int .i64 r.2.2.1)], .agg [.c (.int .i64 r.2.2.2.1), .c (.int .i64 r.2.2.2.2.1), .c (.int .i64 r.2.2.2.2.2.1), .c (.int .i64 r.2.2.2.2.2.2.1)], .c (.int .i64 r.2.2.2.2.2.2.2)]) [])
  | _, _ => none }
theorem binary_Reduce.env (N : Nat) : EnvOK Try.prog (binary_Reduce.E N) := ⟨(TyOK.cons ty2_ok (TyOK.cons ty33_ok (TyOK.cons ty40_ok (TyOK.cons ty60_ok TyOK.nil)))), (TabOK.cons (binary_Check.ent_ok N) (TabOK.cons (binary_walk_step.ent_ok N) TabOK.nil))⟩
theorem binary_Reduce.res_eq (N : Nat) : (binary_Reduce.E N).res = Try.f32.results.toList := by kernel_rfl
theorem binary_Reduce.k6 (N : Nat) : CutOK Try.prog Try.f32 (binary_Reduce.E N) (.loop binary_Reduce.b6) := by
  intro e hd he hh R vs H k r h
  have e1 : (binary_Reduce.E N).cut (loopKey binary_Reduce.b6) = some (binary_Reduce.c6 N) := by kernel_rfl
  have e2 : (binary_Reduce.E N).hint (loopKey binary_Reduce.b6) = some binary_Reduce.h6 := by kernel_rfl
  rw [e1] at he; rw [e2] at hh; cases he; cases hh
  unfold binary_Reduce.c6 at h; dsimp only at h
  split at h
  · rw [← binary_Reduce.l6_eq] at h
    exact loop_ok (evCode_ok (binary_Reduce.env N) Try_mixed (binary_Reduce.res_eq N) 393 binary_Reduce.b6 (AllCut.of (l := []) (by kernel_rfl) AllCut.nil)) h
  · cases h
theorem binary_Reduce.spec (N : Nat) (a1 : Int) (a2 : Int) (a3 : Int) (r : Int × Int × Int × Int × Int × Int × Int × Int) (h : binary_Reduce.f N a1 a2 a3 = some r) : FnSpec Try.prog 32 [.agg [.c (.int .i64 a1), .c (.int .i64 a2), .c (.int .i64 a3)]] [] (.tup [.agg [.c (.int .i64 r.1), .c (.int .i64 r.2.1), .c (.int .i64 r.2.2.1)], .agg [.c (.int .i64 r.2.2.2.1), .c (.int .i64 r.2.2.2.2.1), .c (.int .i64 r.2.2.2.2.2.1), .c (.int .i64 r.2.2.2.2.2.2.1)], .c (.int .i64 r.2.2.2.2.2.2.2)]) ([]) := by
  rw [← binary_Reduce.f_eq] at h
  refine (evFun_ok (binary_Reduce.env N) Try_mixed Try.func32 (by kernel_rfl : Try.f32.body = some binary_Reduce.body) (by kernel_rfl) (binary_Reduce.res_eq N) (by kernel_rfl) (by kernel_rfl) (Nat.le_of_ble_eq_true (by kernel_rfl)) (AllCut.of (l := [(.loop (inner ((subLoops binary_Reduce.body).getD 0 .skip)))]) (by kernel_rfl) (AllCut.cons (binary_Reduce.k6 N) AllCut.nil)) h).of fun v bs' h1 => ?_
  unfold binary_Reduce.dec at h1; split at h1
  · cases h1; exact ⟨rfl, rfl⟩
  · cases h1
theorem binary_Reduce.ent_ok (N : Nat) : TabOK1 Try.prog 32 (binary_Reduce.ent N) := by
  intro args bs a enc h
  simp only [binary_Reduce.ent] at h
  split at h
  · rename_i hz; have h0 := Option.some.inj h; have h1 := congrArg Prod.fst h0; have h2 := congrArg Prod.snd h0; dsimp only at h1 h2; subst h2; exact FnSpec.of_freeze hz (binary_Reduce.spec N _ _ _ a h1)
  · cases h
/-! parquet/binary.Reduced: function 24 -/
noncomputable def binary_Reduced.f (N : Nat) (a1 : Int) (a2 : Int) (a3 : Int) : Option (Bool) :=
  (binary_Check.f N a1 a2 a3).bind fun r4 =>
  bif r4 == 0 then
    (binary_walk_step.f N a1 a2 a3 0 0 0 0).bind fun r5 =>
    some (!r5.1)
  else
  some false
noncomputable def binary_Reduced.body : Code := (Try.f24.body).getD .skip
noncomputable def binary_Reduced.ty : List (Nat × TI) := [(33, ty33), (40, ty40), (60, ty60)]
noncomputable def binary_Reduced.E (N : Nat) : Env := { ty := lookN binary_Reduced.ty, tab := lookN [(41, binary_Check.ent N), (42, binary_walk_step.ent N)], hint := lookN [], cut := lookN [], N := N, res := [.tmp 2], rsh := [.any], nb := 0, ntmps := 13, own := false }
noncomputable def binary_Reduced.dec (v : V) (bs : List Blk) : Option (Bool) := match v, bs with
  | .c (.bool z0), [] => some z0
  | _, _ => none
set_option maxRecDepth 100000 in
theorem binary_Reduced.f_eq (N : Nat) (a1 : Int) (a2 : Int) (a3 : Int) :
    evFun (binary_Reduced.E N) binary_Reduced.body [.agg [.c (.int .i64 a1), .c (.int .i64 a2), .c (.int .i64 a3)]] [] binary_Reduced.dec = binary_Reduced.f N a1 a2 a3 := by kernel_rfl
noncomputable def binary_Reduced.ent (N : Nat) : Entry := { A := Bool, fresh := 0, imm := [true], dec := fun args bs => match freezeL 0 (fun _ => .dead) [.recd [.any, .any, .any]] args, bs with
  | some [.agg [.c (.int .i64 a1), .c (.int .i64 a2), .c (.int .i64 a3)]], [] => some (binary_Reduced.f N a1 a2 a3, fun r => .one (.c (.bool r)) [])
  | _, _ => none }
theorem binary_Reduced.env (N : Nat) : EnvOK Try.prog (binary_Reduced.E N) := ⟨(TyOK.cons ty33_ok (TyOK.cons ty40_ok (TyOK.cons ty60_ok TyOK.nil))), (TabOK.cons (binary_Check.ent_ok N) (TabOK.cons (binary_walk_step.ent_ok N) TabOK.nil))⟩
theorem binary_Reduced.res_eq (N : Nat) : (binary_Reduced.E N).res = Try.f24.results.toList := by kernel_rfl
theorem binary_Reduced.spec (N : Nat) (a1 : Int) (a2 : Int) (a3 : Int) (r : Bool) (h : binary_Reduced.f N a1 a2 a3 = some r) : FnSpec Try.prog 24 [.agg [.c (.int .i64 a1), .c (.int .i64 a2), .c (.int .i64 a3)]] [] (.c (.bool r)) ([]) := by
  rw [← binary_Reduced.f_eq] at h
  refine (evFun_ok (binary_Reduced.env N) Try_mixed Try.func24 (by kernel_rfl : Try.f24.body = some binary_Reduced.body) (by kernel_rfl) (binary_Reduced.res_eq N) (by kernel_rfl) (by kernel_rfl) (Nat.le_of_ble_eq_true (by kernel_rfl)) (AllCut.of (l := []) (by kernel_rfl) AllCut.nil) h).of fun v bs' h1 => ?_
  unfold binary_Reduced.dec at h1; split at h1
  · cases h1; exact ⟨rfl, rfl⟩
  · cases h1
theorem binary_Reduced.ent_ok (N : Nat) : TabOK1 Try.prog 24 (binary_Reduced.ent N) := by
  intro args bs a enc h
  simp only [binary_Reduced.ent] at h
  split at h
  · rename_i hz; have h0 := Option.some.inj h; have h1 := congrArg Prod.fst h0; have h2 := congrArg Prod.snd h0; dsimp only at h1 h2; subst h2; exact FnSpec.of_freeze hz (binary_Reduced.spec N _ _ _ a h1)
  · cases h
/-! parquet/binary.Content: function 33 -/
noncomputable def binary_Content.f (N : Nat) (a1 : Int) (a2 : Int) (a3 : Int) : Option (Int) :=
  (binary_within.f N a1 a2 a3).bind fun r4 =>
  bif !r4 then
    some 0
  else
  (modular_Gcd.f N a1 a2).bind fun r5 =>
  (modular_Gcd.f N r5.1 a3).bind fun r6 =>
  some r6.1
noncomputable def binary_Content.body : Code := (Try.f33.body).getD .skip
noncomputable def binary_Content.ty : List (Nat × TI) := [(2, ty2), (33, ty33)]
noncomputable def binary_Content.E (N : Nat) : Env := { ty := lookN binary_Content.ty, tab := lookN [(40, binary_within.ent N), (47, modular_Gcd.ent N)], hint := lookN [], cut := lookN [], N := N, res := [.tmp 2], rsh := [.any], nb := 0, ntmps := 27, own := false }
noncomputable def binary_Content.dec (v : V) (bs : List Blk) : Option (Int) := match v, bs with
  | .c (.int .i64 z0), [] => some z0
  | _, _ => none
set_option maxRecDepth 100000 in
theorem binary_Content.f_eq (N : Nat) (a1 : Int) (a2 : Int) (a3 : Int) :
    evFun (binary_Content.E N) binary_Content.body [.agg [.c (.int .i64 a1), .c (.int .i64 a2), .c (.int .i64 a3)]] [] binary_Content.dec = binary_Content.f N a1 a2 a3 := by kernel_rfl
noncomputable def binary_Content.ent (N : Nat) : Entry := { A := Int, fresh := 0, imm := [true], dec := fun args bs => match freezeL 0 (fun _ => .dead) [.recd [.any, .any, .any]] args, bs with
  | some [.agg [.c (.int .i64 a1), .c (.int .i64 a2), .c (.int .i64 a3)]], [] => some (binary_Content.f N a1 a2 a3, fun r => .one (.c (.int .i64 r)) [])
  | _, _ => none }
theorem binary_Content.env (N : Nat) : EnvOK Try.prog (binary_Content.E N) := ⟨(TyOK.cons ty2_ok (TyOK.cons ty33_ok TyOK.nil)), (TabOK.cons (binary_within.ent_ok N) (TabOK.cons (modular_Gcd.ent_ok N) TabOK.nil))⟩
theorem binary_Content.res_eq (N : Nat) : (binary_Content.E N).res = Try.f33.results.toList := by kernel_rfl
theorem binary_Content.spec (N : Nat) (a1 : Int) (a2 : Int) (a3 : Int) (r : Int) (h : binary_Content.f N a1 a2 a3 = some r) : FnSpec Try.prog 33 [.agg [.c (.int .i64 a1), .c (.int .i64 a2), .c (.int .i64 a3)]] [] (.c (.int .i64 r)) ([]) := by
  rw [← binary_Content.f_eq] at h
  refine (evFun_ok (binary_Content.env N) Try_mixed Try.func33 (by kernel_rfl : Try.f33.body = some binary_Content.body) (by kernel_rfl) (binary_Content.res_eq N) (by kernel_rfl) (by kernel_rfl) (Nat.le_of_ble_eq_true (by kernel_rfl)) (AllCut.of (l := []) (by kernel_rfl) AllCut.nil) h).of fun v bs' h1 => ?_
  unfold binary_Content.dec at h1; split at h1
  · cases h1; exact ⟨rfl, rfl⟩
  · cases h1
theorem binary_Content.ent_ok (N : Nat) : TabOK1 Try.prog 33 (binary_Content.ent N) := by
  intro args bs a enc h
  simp only [binary_Content.ent] at h
  split at h
  · rename_i hz; have h0 := Option.some.inj h; have h1 := congrArg Prod.fst h0; have h2 := congrArg Prod.snd h0; dsimp only at h1 h2; subst h2; exact FnSpec.of_freeze hz (binary_Content.spec N _ _ _ a h1)
  · cases h
/-! parquet/binary.Proper: function 23 -/
noncomputable def binary_Proper.f (N : Nat) (a1 : Int) (a2 : Int) (a3 : Int) (a4 : Int) (a5 : Int) (a6 : Int) : Option (Bool × Int) :=
  (binary_Reduce.f N a1 a2 a3).bind fun r7 =>
  bif r7.2.2.2.2.2.2.2 != 0 then
    some (false, r7.2.2.2.2.2.2.2)
  else
  (binary_Reduce.f N a4 a5 a6).bind fun r8 =>
  bif r8.2.2.2.2.2.2.2 == 0 then
    some ((r7.1 == r8.1) && ((r7.2.1 == r8.2.1) && (r7.2.2.1 == r8.2.2.1)), r8.2.2.2.2.2.2.2)
  else
  some (false, r8.2.2.2.2.2.2.2)
noncomputable def binary_Proper.body : Code := (Try.f23.body).getD .skip
noncomputable def binary_Proper.ty : List (Nat × TI) := [(2, ty2), (33, ty33), (40, ty40)]
noncomputable def binary_Proper.E (N : Nat) : Env := { ty := lookN binary_Proper.ty, tab := lookN [(32, binary_Reduce.ent N)], hint := lookN [], cut := lookN [], N := N, res := [.tmp 4, .tmp 5], rsh := [.any, .any], nb := 0, ntmps := 34, own := false }
noncomputable def binary_Proper.dec (v : V) (bs : List Blk) : Option (Bool × Int) := match v, bs with
  | .tup [.c (.bool z0), .c (.int .i64 z1)], [] => some (z0, z1)
  | _, _ => none
set_option maxRecDepth 100000 in
theorem binary_Proper.f_eq (N : Nat) (a1 : Int) (a2 : Int) (a3 : Int) (a4 : Int) (a5 : Int) (a6 : Int) :
    evFun (binary_Proper.E N) binary_Proper.body [.agg [.c (.int .i64 a1), .c (.int .i64 a2), .c (.int .i64 a3)], .agg [.c (.int .i64 a4), .c (.int .i64 a5), .c (.int .i64 a6)]] [] binary_Proper.dec = binary_Proper.f N a1 a2 a3 a4 a5 a6 := by kernel_rfl
noncomputable def binary_Proper.ent (N : Nat) : Entry := { A := Bool × Int, fresh := 0, imm := [true, true], dec := fun args bs => match freezeL 0 (fun _ => .dead) [.recd [.any, .any, .any], .recd [.any, .any, .any]] args, bs with
  | some [.agg [.c (.int .i64 a1), .c (.int .i64 a2), .c (.int .i64 a3)], .agg [.c (.int .i64 a4), .c (.int .i64 a5), .c (.int .i64 a6)]], [] => some (binary_Proper.f N a1 a2 a3 a4 a5 a6, fun r => .one (.tup [.c (.bool r.1), .c (.int .i64 r.2)]) [])
  | _, _ => none }
theorem binary_Proper.env (N : Nat) : EnvOK Try.prog (binary_Proper.E N) := ⟨(TyOK.cons ty2_ok (TyOK.cons ty33_ok (TyOK.cons ty40_ok TyOK.nil))), (TabOK.cons (binary_Reduce.ent_ok N) TabOK.nil)⟩
theorem binary_Proper.res_eq (N : Nat) : (binary_Proper.E N).res = Try.f23.results.toList := by kernel_rfl
theorem binary_Proper.spec (N : Nat) (a1 : Int) (a2 : Int) (a3 : Int) (a4 : Int) (a5 : Int) (a6 : Int) (r : Bool × Int) (h : binary_Proper.f N a1 a2 a3 a4 a5 a6 = some r) : FnSpec Try.prog 23 [.agg [.c (.int .i64 a1), .c (.int .i64 a2), .c (.int .i64 a3)], .agg [.c (.int .i64 a4), .c (.int .i64 a5), .c (.int .i64 a6)]] [] (.tup [.c (.bool r.1), .c (.int .i64 r.2)]) ([]) := by
  rw [← binary_Proper.f_eq] at h
  refine (evFun_ok (binary_Proper.env N) Try_mixed Try.func23 (by kernel_rfl : Try.f23.body = some binary_Proper.body) (by kernel_rfl) (binary_Proper.res_eq N) (by kernel_rfl) (by kernel_rfl) (Nat.le_of_ble_eq_true (by kernel_rfl)) (AllCut.of (l := []) (by kernel_rfl) AllCut.nil) h).of fun v bs' h1 => ?_
  unfold binary_Proper.dec at h1; split at h1
  · cases h1; exact ⟨rfl, rfl⟩
  · cases h1
theorem binary_Proper.ent_ok (N : Nat) : TabOK1 Try.prog 23 (binary_Proper.ent N) := by
  intro args bs a enc h
  simp only [binary_Proper.ent] at h
  split at h
  · rename_i hz; have h0 := Option.some.inj h; have h1 := congrArg Prod.fst h0; have h2 := congrArg Prod.snd h0; dsimp only at h1 h2; subst h2; exact FnSpec.of_freeze hz (binary_Proper.spec N _ _ _ _ _ _ a h1)
  · cases h
end Go.Proofs.Ytifnooogklfifaa
