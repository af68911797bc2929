-- The seat's functions as the evaluator goes through them: typed models and their laws.
import Derived.Test.YtckddgepjhclpaaProg
import Derived.Test.YtckddgepjhclpaaEvF
import Derived.Test.YtckddgepjhclpaaT3
import Derived.KernelRfl
namespace Go.Proofs.Ytckddgepjhclpaa
open Go.Proofs.Ytckddgepjhclpaa.Ev
set_option linter.unusedVariables false
open Go

noncomputable def ty2 : TI := ⟨.int .i64, 1, 8, [.int .i64 0]⟩
noncomputable def ty4 : TI := ⟨.bool, 1, 1, [.bool false]⟩
noncomputable def ty23 : TI := ⟨.struct [(2, 0), (2, 1), (2, 2)], 3, 24, [.int .i64 0, .int .i64 0, .int .i64 0]⟩
noncomputable def ty33 : TI := ⟨.struct [(2, 0), (2, 1), (2, 2), (2, 3)], 4, 32, [.int .i64 0, .int .i64 0, .int .i64 0, .int .i64 0]⟩
noncomputable def ty50 : TI := ⟨.arr 2 2, 2, 16, [.int .i64 0, .int .i64 0]⟩
noncomputable def ty52 : TI := ⟨.slice 2, 1, 24, [.slice none 0 0]⟩
noncomputable def ty58 : TI := ⟨.struct [(4, 0), (56, 1)], 2, 32, [.bool false, .slice none 0 0]⟩
noncomputable def ty62 : TI := ⟨.arr 3 2, 3, 24, [.int .i64 0, .int .i64 0, .int .i64 0]⟩
noncomputable def ty63 : TI := ⟨.slice 62, 1, 24, [.slice none 0 0]⟩
noncomputable def ty69 : TI := ⟨.struct [(23, 0), (33, 3)], 7, 56, [.int .i64 0, .int .i64 0, .int .i64 0, .int .i64 0, .int .i64 0, .int .i64 0, .int .i64 0]⟩
noncomputable def ty74 : TI := ⟨.slice 58, 1, 24, [.slice none 0 0]⟩
noncomputable def ty82 : TI := ⟨.struct [(4, 0), (80, 1)], 2, 32, [.bool false, .slice none 0 0]⟩
theorem ty2_ok : TyOK1 Try.prog 2 ty2 := tyok_of (by kernel_rfl) (by kernel_rfl) (by kernel_rfl) (by kernel_rfl) (by kernel_rfl) (by kernel_rfl) (by kernel_rfl) (Try.underlying2) (by kernel_rfl)
theorem ty4_ok : TyOK1 Try.prog 4 ty4 := tyok_of (by kernel_rfl) (by kernel_rfl) (by kernel_rfl) (by kernel_rfl) (by kernel_rfl) (by kernel_rfl) (by kernel_rfl) (Try.underlying4) (by kernel_rfl)
theorem ty23_ok : TyOK1 Try.prog 23 ty23 := tyok_of (by kernel_rfl) (by kernel_rfl) (by kernel_rfl) (by kernel_rfl) (by kernel_rfl) (by kernel_rfl) (by kernel_rfl) (tk_struct Try.underlying23 (by kernel_rfl) (by kernel_rfl)) (by kernel_rfl)
theorem ty33_ok : TyOK1 Try.prog 33 ty33 := tyok_of (by kernel_rfl) (by kernel_rfl) (by kernel_rfl) (by kernel_rfl) (by kernel_rfl) (by kernel_rfl) (by kernel_rfl) (tk_struct Try.underlying33 (by kernel_rfl) (by kernel_rfl)) (by kernel_rfl)
theorem ty50_ok : TyOK1 Try.prog 50 ty50 := tyok_of (by kernel_rfl) (by kernel_rfl) (by kernel_rfl) (by kernel_rfl) (by kernel_rfl) (by kernel_rfl) (by kernel_rfl) (Try.underlying50) (by kernel_rfl)
theorem ty52_ok : TyOK1 Try.prog 52 ty52 := tyok_of (by kernel_rfl) (by kernel_rfl) (by kernel_rfl) (by kernel_rfl) (by kernel_rfl) (by kernel_rfl) (by kernel_rfl) (Try.underlying52) (by kernel_rfl)
theorem ty58_ok : TyOK1 Try.prog 58 ty58 := tyok_of (by kernel_rfl) (by kernel_rfl) (by kernel_rfl) (by kernel_rfl) (by kernel_rfl) (by kernel_rfl) (by kernel_rfl) (tk_struct Try.underlying58 (by kernel_rfl) (by kernel_rfl)) (by kernel_rfl)
theorem ty62_ok : TyOK1 Try.prog 62 ty62 := tyok_of (by kernel_rfl) (by kernel_rfl) (by kernel_rfl) (by kernel_rfl) (by kernel_rfl) (by kernel_rfl) (by kernel_rfl) (Try.underlying62) (by kernel_rfl)
theorem ty63_ok : TyOK1 Try.prog 63 ty63 := tyok_of (by kernel_rfl) (by kernel_rfl) (by kernel_rfl) (by kernel_rfl) (by kernel_rfl) (by kernel_rfl) (by kernel_rfl) (Try.underlying63) (by kernel_rfl)
theorem ty69_ok : TyOK1 Try.prog 69 ty69 := tyok_of (by kernel_rfl) (by kernel_rfl) (by kernel_rfl) (by kernel_rfl) (by kernel_rfl) (by kernel_rfl) (by kernel_rfl) (tk_struct Try.underlying69 (by kernel_rfl) (by kernel_rfl)) (by kernel_rfl)
theorem ty74_ok : TyOK1 Try.prog 74 ty74 := tyok_of (by kernel_rfl) (by kernel_rfl) (by kernel_rfl) (by kernel_rfl) (by kernel_rfl) (by kernel_rfl) (by kernel_rfl) (Try.underlying74) (by kernel_rfl)
theorem ty82_ok : TyOK1 Try.prog 82 ty82 := tyok_of (by kernel_rfl) (by kernel_rfl) (by kernel_rfl) (by kernel_rfl) (by kernel_rfl) (by kernel_rfl) (by kernel_rfl) (tk_struct Try.underlying82 (by kernel_rfl) (by kernel_rfl)) (by kernel_rfl)
/-! parquet/zint.Make: function 52 -/
noncomputable def zint_Make.f (N : Nat) (a1 : Bool) (a2 : List Int) : Option (Bool × List Int) :=
  bif a1 then
    (nat_Nat_Bits.f N a2).bind fun r3 =>
    some (decide (r3 > 0), a2)
  else
  some (false, a2)
noncomputable def zint_Make.body : Code := (Try.f52.body).getD .skip
noncomputable def zint_Make.ty : List (Nat × TI) := [(4, ty4), (56, ty56), (58, ty58)]
noncomputable def zint_Make.E (N : Nat) : Env := { ty := lookN zint_Make.ty, tab := lookN [(73, nat_Nat_Bits.ent N)], hint := lookN [], cut := lookN [], N := N, res := [.cell 4 58], rsh := [.recd [.any, .il .u32 1]], nb := 0, ntmps := 13, own := false }
noncomputable def zint_Make.dec (v : V) (bs : List Blk) : Option (Bool × List Int) := match v, bs with
  | .agg [.c (.bool z0), .il .u32 1 z1], [] => some (z0, z1)
  | _, _ => none
set_option maxRecDepth 100000 in
theorem zint_Make.f_eq (N : Nat) (a1 : Bool) (a2 : List Int) :
    evFun (zint_Make.E N) zint_Make.body [.c (.bool a1), .agg [.il .u32 1 a2]] [] zint_Make.dec = zint_Make.f N a1 a2 := by kernel_rfl
noncomputable def zint_Make.ent (N : Nat) : Entry := { A := Bool × List Int, fresh := 0, imm := [true, true], dec := fun args bs => match freezeL 0 (fun _ => .dead) [.any, .recd [.il .u32 1]] args, bs with
  | some [.c (.bool a1), .agg [.il .u32 1 a2]], [] => some (zint_Make.f N a1 a2, fun r => .one (.agg [.c (.bool r.1), .il .u32 1 r.2]) [])
  | _, _ => none }
theorem zint_Make.env (N : Nat) : EnvOK Try.prog (zint_Make.E N) := ⟨(TyOK.cons ty4_ok (TyOK.cons ty56_ok (TyOK.cons ty58_ok TyOK.nil))), (TabOK.cons (nat_Nat_Bits.ent_ok N) TabOK.nil)⟩
theorem zint_Make.res_eq (N : Nat) : (zint_Make.E N).res = Try.f52.results.toList := by kernel_rfl
theorem zint_Make.spec (N : Nat) (a1 : Bool) (a2 : List Int) (r : Bool × List Int) (h : zint_Make.f N a1 a2 = some r) : FnSpec Try.prog 52 [.c (.bool a1), .agg [.il .u32 1 a2]] [] (.agg [.c (.bool r.1), .il .u32 1 r.2]) ([]) := by
  rw [← zint_Make.f_eq] at h
  obtain ⟨v, bs', h1, h2⟩ := evFun_ok (zint_Make.env N) Try_mixed Try.func52 (by kernel_rfl : Try.f52.body = some zint_Make.body) (by kernel_rfl) (zint_Make.res_eq N) (by kernel_rfl) (by kernel_rfl) (Nat.le_of_ble_eq_true (by kernel_rfl)) (AllCut.of (l := []) (by kernel_rfl) AllCut.nil) h
  unfold zint_Make.dec at h1; split at h1
  · cases h1; exact h2
  · cases h1
theorem zint_Make.ent_ok (N : Nat) : TabOK1 Try.prog 52 (zint_Make.ent N) := by
  intro args bs a enc h
  simp only [zint_Make.ent] at h
  split at h
  · rename_i hz; have h0 := Option.some.inj h; have h1 := congrArg Prod.fst h0; have h2 := congrArg Prod.snd h0; dsimp only at h1 h2; subst h2; exact FnSpec.of_freeze hz (zint_Make.spec N _ _ a h1)
  · cases h
/-! parquet/zint.Of: function 44 -/
noncomputable def zint_Of.f (N : Nat) (a1 : Int) : Option (Bool × List Int) :=
  bif decide (a1 < 0) then
    (nat_Of.f N (wu64 (0 - (wu64 a1)))).bind fun r2 =>
    some (true, r2)
  else
  (nat_Of.f N (wu64 a1)).bind fun r3 =>
  some (false, r3)
noncomputable def zint_Of.body : Code := (Try.f44.body).getD .skip
noncomputable def zint_Of.ty : List (Nat × TI) := [(2, ty2), (4, ty4), (56, ty56), (58, ty58), (92, ty92)]
noncomputable def zint_Of.E (N : Nat) : Env := { ty := lookN zint_Of.ty, tab := lookN [(58, nat_Of.ent N)], hint := lookN [], cut := lookN [], N := N, res := [.cell 2 58], rsh := [.recd [.any, .il .u32 1]], nb := 0, ntmps := 14, own := false }
noncomputable def zint_Of.dec (v : V) (bs : List Blk) : Option (Bool × List Int) := match v, bs with
  | .agg [.c (.bool z0), .il .u32 1 z1], [] => some (z0, z1)
  | _, _ => none
set_option maxRecDepth 100000 in
theorem zint_Of.f_eq (N : Nat) (a1 : Int) :
    evFun (zint_Of.E N) zint_Of.body [.c (.int .i64 a1)] [] zint_Of.dec = zint_Of.f N a1 := by kernel_rfl
noncomputable def zint_Of.ent (N : Nat) : Entry := { A := Bool × List Int, fresh := 0, imm := [true], dec := fun args bs => match freezeL 0 (fun _ => .dead) [.any] args, bs with
  | some [.c (.int .i64 a1)], [] => some (zint_Of.f N a1, fun r => .one (.agg [.c (.bool r.1), .il .u32 1 r.2]) [])
  | _, _ => none }
theorem zint_Of.env (N : Nat) : EnvOK Try.prog (zint_Of.E N) := ⟨(TyOK.cons ty2_ok (TyOK.cons ty4_ok (TyOK.cons ty56_ok (TyOK.cons ty58_ok (TyOK.cons ty92_ok TyOK.nil))))), (TabOK.cons (nat_Of.ent_ok N) TabOK.nil)⟩
theorem zint_Of.res_eq (N : Nat) : (zint_Of.E N).res = Try.f44.results.toList := by kernel_rfl
theorem zint_Of.spec (N : Nat) (a1 : Int) (r : Bool × List Int) (h : zint_Of.f N a1 = some r) : FnSpec Try.prog 44 [.c (.int .i64 a1)] [] (.agg [.c (.bool r.1), .il .u32 1 r.2]) ([]) := by
  rw [← zint_Of.f_eq] at h
  obtain ⟨v, bs', h1, h2⟩ := evFun_ok (zint_Of.env N) Try_mixed Try.func44 (by kernel_rfl : Try.f44.body = some zint_Of.body) (by kernel_rfl) (zint_Of.res_eq N) (by kernel_rfl) (by kernel_rfl) (Nat.le_of_ble_eq_true (by kernel_rfl)) (AllCut.of (l := []) (by kernel_rfl) AllCut.nil) h
  unfold zint_Of.dec at h1; split at h1
  · cases h1; exact h2
  · cases h1
theorem zint_Of.ent_ok (N : Nat) : TabOK1 Try.prog 44 (zint_Of.ent N) := by
  intro args bs a enc h
  simp only [zint_Of.ent] at h
  split at h
  · rename_i hz; have h0 := Option.some.inj h; have h1 := congrArg Prod.fst h0; have h2 := congrArg Prod.snd h0; dsimp only at h1 h2; subst h2; exact FnSpec.of_freeze hz (zint_Of.spec N _ a h1)
  · cases h
/-! (parquet/zint.Int).Int64: function 43 -/
noncomputable def zint_Int_Int64.f (N : Nat) (a1 : Bool) (a2 : List Int) : Option (Int × Bool) :=
  (nat_Nat_Uint64.f N a2).bind fun r3 =>
  bif !r3.2 then
    some (0, false)
  else
  bif decide (r3.1 > 9223372036854775808) then
    some (0, false)
  else
  bif r3.1 == 9223372036854775808 then
    bif !a1 then
      some (0, false)
    else
    bif a1 then
      some (wi64 (wu64 (0 - r3.1)), true)
    else
    some (wi64 r3.1, true)
  else
  bif a1 then
    some (wi64 (wu64 (0 - r3.1)), true)
  else
  some (wi64 r3.1, true)
noncomputable def zint_Int_Int64.body : Code := (Try.f43.body).getD .skip
noncomputable def zint_Int_Int64.ty : List (Nat × TI) := [(2, ty2), (4, ty4), (56, ty56), (58, ty58), (92, ty92)]
noncomputable def zint_Int_Int64.E (N : Nat) : Env := { ty := lookN zint_Int_Int64.ty, tab := lookN [(57, nat_Nat_Uint64.ent N)], hint := lookN [], cut := lookN [], N := N, res := [.tmp 2, .tmp 3], rsh := [.any, .any], nb := 0, ntmps := 36, own := false }
noncomputable def zint_Int_Int64.dec (v : V) (bs : List Blk) : Option (Int × Bool) := match v, bs with
  | .tup [.c (.int .i64 z0), .c (.bool z1)], [] => some (z0, z1)
  | _, _ => none
set_option maxRecDepth 100000 in
theorem zint_Int_Int64.f_eq (N : Nat) (a1 : Bool) (a2 : List Int) :
    evFun (zint_Int_Int64.E N) zint_Int_Int64.body [.agg [.c (.bool a1), .il .u32 1 a2]] [] zint_Int_Int64.dec = zint_Int_Int64.f N a1 a2 := by kernel_rfl
noncomputable def zint_Int_Int64.ent (N : Nat) : Entry := { A := Int × Bool, fresh := 0, imm := [true], dec := fun args bs => match freezeL 0 (fun _ => .dead) [.recd [.any, .il .u32 1]] args, bs with
  | some [.agg [.c (.bool a1), .il .u32 1 a2]], [] => some (zint_Int_Int64.f N a1 a2, fun r => .one (.tup [.c (.int .i64 r.1), .c (.bool r.2)]) [])
  | _, _ => none }
theorem zint_Int_Int64.env (N : Nat) : EnvOK Try.prog (zint_Int_Int64.E N) := ⟨(TyOK.cons ty2_ok (TyOK.cons ty4_ok (TyOK.cons ty56_ok (TyOK.cons ty58_ok (TyOK.cons ty92_ok TyOK.nil))))), (TabOK.cons (nat_Nat_Uint64.ent_ok N) TabOK.nil)⟩
theorem zint_Int_Int64.res_eq (N : Nat) : (zint_Int_Int64.E N).res = Try.f43.results.toList := by kernel_rfl
theorem zint_Int_Int64.spec (N : Nat) (a1 : Bool) (a2 : List Int) (r : Int × Bool) (h : zint_Int_Int64.f N a1 a2 = some r) : FnSpec Try.prog 43 [.agg [.c (.bool a1), .il .u32 1 a2]] [] (.tup [.c (.int .i64 r.1), .c (.bool r.2)]) ([]) := by
  rw [← zint_Int_Int64.f_eq] at h
  obtain ⟨v, bs', h1, h2⟩ := evFun_ok (zint_Int_Int64.env N) Try_mixed Try.func43 (by kernel_rfl : Try.f43.body = some zint_Int_Int64.body) (by kernel_rfl) (zint_Int_Int64.res_eq N) (by kernel_rfl) (by kernel_rfl) (Nat.le_of_ble_eq_true (by kernel_rfl)) (AllCut.of (l := []) (by kernel_rfl) AllCut.nil) h
  unfold zint_Int_Int64.dec at h1; split at h1
  · cases h1; exact h2
  · cases h1
theorem zint_Int_Int64.ent_ok (N : Nat) : TabOK1 Try.prog 43 (zint_Int_Int64.ent N) := by
  intro args bs a enc h
  simp only [zint_Int_Int64.ent] at h
  split at h
  · rename_i hz; have h0 := Option.some.inj h; have h1 := congrArg Prod.fst h0; have h2 := congrArg Prod.snd h0; dsimp only at h1 h2; subst h2; exact FnSpec.of_freeze hz (zint_Int_Int64.spec N _ _ a h1)
  · cases h
/-! parquet/zint.Add: function 42 -/
noncomputable def zint_Add.f (N : Nat) (a1 : Bool) (a2 : List Int) (a3 : Bool) (a4 : List Int) : Option (Bool × List Int × Int) :=
  bif a1 == a3 then
    (nat_Add.f N a2 a4).bind fun r5 =>
    (zint_Make.f N a1 r5.1).bind fun r6 =>
    some (r6.1, r6.2, r5.2)
  else
  (nat_Cmp.f N a2 a4).bind fun r7 =>
  bif decide (r7 < 0) then
    (nat_Sub.f N a4 a2).bind fun r8 =>
    (zint_Make.f N a3 r8.1).bind fun r9 =>
    some (r9.1, r9.2, r8.2)
  else
  (nat_Sub.f N a2 a4).bind fun r10 =>
  (zint_Make.f N a1 r10.1).bind fun r11 =>
  some (r11.1, r11.2, r10.2)
noncomputable def zint_Add.body : Code := (Try.f42.body).getD .skip
noncomputable def zint_Add.ty : List (Nat × TI) := [(4, ty4), (56, ty56), (58, ty58)]
noncomputable def zint_Add.E (N : Nat) : Env := { ty := lookN zint_Add.ty, tab := lookN [(54, nat_Add.ent N), (52, zint_Make.ent N), (55, nat_Cmp.ent N), (56, nat_Sub.ent N)], hint := lookN [], cut := lookN [], N := N, res := [.cell 4 58, .tmp 5], rsh := [.recd [.any, .il .u32 1], .any], nb := 0, ntmps := 49, own := false }
noncomputable def zint_Add.dec (v : V) (bs : List Blk) : Option (Bool × List Int × Int) := match v, bs with
  | .tup [.agg [.c (.bool z0), .il .u32 1 z1], .c (.int .i64 z2)], [] => some (z0, z1, z2)
  | _, _ => none
set_option maxRecDepth 100000 in
theorem zint_Add.f_eq (N : Nat) (a1 : Bool) (a2 : List Int) (a3 : Bool) (a4 : List Int) :
    evFun (zint_Add.E N) zint_Add.body [.agg [.c (.bool a1), .il .u32 1 a2], .agg [.c (.bool a3), .il .u32 1 a4]] [] zint_Add.dec = zint_Add.f N a1 a2 a3 a4 := by kernel_rfl
noncomputable def zint_Add.ent (N : Nat) : Entry := { A := Bool × List Int × Int, fresh := 0, imm := [true, true], dec := fun args bs => match freezeL 0 (fun _ => .dead) [.recd [.any, .il .u32 1], .recd [.any, .il .u32 1]] args, bs with
  | some [.agg [.c (.bool a1), .il .u32 1 a2], .agg [.c (.bool a3), .il .u32 1 a4]], [] => some (zint_Add.f N a1 a2 a3 a4, fun r => .one (.tup [.agg [.c (.bool r.1), .il .u32 1 r.2.1], .c (.int .i64 r.2.2)]) [])
  | _, _ => none }
theorem zint_Add.env (N : Nat) : EnvOK Try.prog (zint_Add.E N) := ⟨(TyOK.cons ty4_ok (TyOK.cons ty56_ok (TyOK.cons ty58_ok TyOK.nil))), (TabOK.cons (nat_Add.ent_ok N) (TabOK.cons (zint_Make.ent_ok N) (TabOK.cons (nat_Cmp.ent_ok N) (TabOK.cons (nat_Sub.ent_ok N) TabOK.nil))))⟩
theorem zint_Add.res_eq (N : Nat) : (zint_Add.E N).res = Try.f42.results.toList := by kernel_rfl
theorem zint_Add.spec (N : Nat) (a1 : Bool) (a2 : List Int) (a3 : Bool) (a4 : List Int) (r : Bool × List Int × Int) (h : zint_Add.f N a1 a2 a3 a4 = some r) : FnSpec Try.prog 42 [.agg [.c (.bool a1), .il .u32 1 a2], .agg [.c (.bool a3), .il .u32 1 a4]] [] (.tup [.agg [.c (.bool r.1), .il .u32 1 r.2.1], .c (.int .i64 r.2.2)]) ([]) := by
  rw [← zint_Add.f_eq] at h
  obtain ⟨v, bs', h1, h2⟩ := evFun_ok (zint_Add.env N) Try_mixed Try.func42 (by kernel_rfl : Try.f42.body = some zint_Add.body) (by kernel_rfl) (zint_Add.res_eq N) (by kernel_rfl) (by kernel_rfl) (Nat.le_of_ble_eq_true (by kernel_rfl)) (AllCut.of (l := []) (by kernel_rfl) AllCut.nil) h
  unfold zint_Add.dec at h1; split at h1
  · cases h1; exact h2
  · cases h1
theorem zint_Add.ent_ok (N : Nat) : TabOK1 Try.prog 42 (zint_Add.ent N) := by
  intro args bs a enc h
  simp only [zint_Add.ent] at h
  split at h
  · rename_i hz; have h0 := Option.some.inj h; have h1 := congrArg Prod.fst h0; have h2 := congrArg Prod.snd h0; dsimp only at h1 h2; subst h2; exact FnSpec.of_freeze hz (zint_Add.spec N _ _ _ _ a h1)
  · cases h
/-! parquet/zint.Mul: function 45 -/
noncomputable def zint_Mul.f (N : Nat) (a1 : Bool) (a2 : List Int) (a3 : Bool) (a4 : List Int) : Option (Bool × List Int × Int) :=
  (nat_Mul.f N a2 a4).bind fun r5 =>
  (zint_Make.f N (!(a1 == a3)) r5.1).bind fun r6 =>
  some (r6.1, r6.2, r5.2)
noncomputable def zint_Mul.body : Code := (Try.f45.body).getD .skip
noncomputable def zint_Mul.ty : List (Nat × TI) := [(4, ty4), (56, ty56), (58, ty58)]
noncomputable def zint_Mul.E (N : Nat) : Env := { ty := lookN zint_Mul.ty, tab := lookN [(59, nat_Mul.ent N), (52, zint_Make.ent N)], hint := lookN [], cut := lookN [], N := N, res := [.cell 4 58, .tmp 5], rsh := [.recd [.any, .il .u32 1], .any], nb := 0, ntmps := 24, own := false }
noncomputable def zint_Mul.dec (v : V) (bs : List Blk) : Option (Bool × List Int × Int) := match v, bs with
  | .tup [.agg [.c (.bool z0), .il .u32 1 z1], .c (.int .i64 z2)], [] => some (z0, z1, z2)
  | _, _ => none
set_option maxRecDepth 100000 in
theorem zint_Mul.f_eq (N : Nat) (a1 : Bool) (a2 : List Int) (a3 : Bool) (a4 : List Int) :
    evFun (zint_Mul.E N) zint_Mul.body [.agg [.c (.bool a1), .il .u32 1 a2], .agg [.c (.bool a3), .il .u32 1 a4]] [] zint_Mul.dec = zint_Mul.f N a1 a2 a3 a4 := by kernel_rfl
noncomputable def zint_Mul.ent (N : Nat) : Entry := { A := Bool × List Int × Int, fresh := 0, imm := [true, true], dec := fun args bs => match freezeL 0 (fun _ => .dead) [.recd [.any, .il .u32 1], .recd [.any, .il .u32 1]] args, bs with
  | some [.agg [.c (.bool a1), .il .u32 1 a2], .agg [.c (.bool a3), .il .u32 1 a4]], [] => some (zint_Mul.f N a1 a2 a3 a4, fun r => .one (.tup [.agg [.c (.bool r.1), .il .u32 1 r.2.1], .c (.int .i64 r.2.2)]) [])
  | _, _ => none }
theorem zint_Mul.env (N : Nat) : EnvOK Try.prog (zint_Mul.E N) := ⟨(TyOK.cons ty4_ok (TyOK.cons ty56_ok (TyOK.cons ty58_ok TyOK.nil))), (TabOK.cons (nat_Mul.ent_ok N) (TabOK.cons (zint_Make.ent_ok N) TabOK.nil))⟩
theorem zint_Mul.res_eq (N : Nat) : (zint_Mul.E N).res = Try.f45.results.toList := by kernel_rfl
theorem zint_Mul.spec (N : Nat) (a1 : Bool) (a2 : List Int) (a3 : Bool) (a4 : List Int) (r : Bool × List Int × Int) (h : zint_Mul.f N a1 a2 a3 a4 = some r) : FnSpec Try.prog 45 [.agg [.c (.bool a1), .il .u32 1 a2], .agg [.c (.bool a3), .il .u32 1 a4]] [] (.tup [.agg [.c (.bool r.1), .il .u32 1 r.2.1], .c (.int .i64 r.2.2)]) ([]) := by
  rw [← zint_Mul.f_eq] at h
  obtain ⟨v, bs', h1, h2⟩ := evFun_ok (zint_Mul.env N) Try_mixed Try.func45 (by kernel_rfl : Try.f45.body = some zint_Mul.body) (by kernel_rfl) (zint_Mul.res_eq N) (by kernel_rfl) (by kernel_rfl) (Nat.le_of_ble_eq_true (by kernel_rfl)) (AllCut.of (l := []) (by kernel_rfl) AllCut.nil) h
  unfold zint_Mul.dec at h1; split at h1
  · cases h1; exact h2
  · cases h1
theorem zint_Mul.ent_ok (N : Nat) : TabOK1 Try.prog 45 (zint_Mul.ent N) := by
  intro args bs a enc h
  simp only [zint_Mul.ent] at h
  split at h
  · rename_i hz; have h0 := Option.some.inj h; have h1 := congrArg Prod.fst h0; have h2 := congrArg Prod.snd h0; dsimp only at h1 h2; subst h2; exact FnSpec.of_freeze hz (zint_Mul.spec N _ _ _ _ a h1)
  · cases h
/-! parquet/binary.within: function 31 -/
noncomputable def binary_within.f (N : Nat) (a1 : Int) (a2 : Int) (a3 : Int) : Option (Bool) :=
  bif decide ((mx2 (mx2 a1 a2) a3) ≤ 1073741824) then
    some (decide ((mn2 (mn2 a1 a2) a3) ≥ (-1073741824)))
  else
  some false
noncomputable def binary_within.body : Code := (Try.f31.body).getD .skip
noncomputable def binary_within.ty : List (Nat × TI) := [(2, ty2), (23, ty23)]
noncomputable def binary_within.E (N : Nat) : Env := { ty := lookN binary_within.ty, tab := lookN [], hint := lookN [], cut := lookN [], N := N, res := [.tmp 2], rsh := [.any], nb := 0, ntmps := 21, own := false }
noncomputable def binary_within.dec (v : V) (bs : List Blk) : Option (Bool) := match v, bs with
  | .c (.bool z0), [] => some z0
  | _, _ => none
set_option maxRecDepth 100000 in
theorem binary_within.f_eq (N : Nat) (a1 : Int) (a2 : Int) (a3 : Int) :
    evFun (binary_within.E N) binary_within.body [.agg [.c (.int .i64 a1), .c (.int .i64 a2), .c (.int .i64 a3)]] [] binary_within.dec = binary_within.f N a1 a2 a3 := by kernel_rfl
noncomputable def binary_within.ent (N : Nat) : Entry := { A := Bool, fresh := 0, imm := [true], dec := fun args bs => match freezeL 0 (fun _ => .dead) [.recd [.any, .any, .any]] args, bs with
  | some [.agg [.c (.int .i64 a1), .c (.int .i64 a2), .c (.int .i64 a3)]], [] => some (binary_within.f N a1 a2 a3, fun r => .one (.c (.bool r)) [])
  | _, _ => none }
theorem binary_within.env (N : Nat) : EnvOK Try.prog (binary_within.E N) := ⟨(TyOK.cons ty2_ok (TyOK.cons ty23_ok TyOK.nil)), TabOK.nil⟩
theorem binary_within.res_eq (N : Nat) : (binary_within.E N).res = Try.f31.results.toList := by kernel_rfl
theorem binary_within.spec (N : Nat) (a1 : Int) (a2 : Int) (a3 : Int) (r : Bool) (h : binary_within.f N a1 a2 a3 = some r) : FnSpec Try.prog 31 [.agg [.c (.int .i64 a1), .c (.int .i64 a2), .c (.int .i64 a3)]] [] (.c (.bool r)) ([]) := by
  rw [← binary_within.f_eq] at h
  obtain ⟨v, bs', h1, h2⟩ := evFun_ok (binary_within.env N) Try_mixed Try.func31 (by kernel_rfl : Try.f31.body = some binary_within.body) (by kernel_rfl) (binary_within.res_eq N) (by kernel_rfl) (by kernel_rfl) (Nat.le_of_ble_eq_true (by kernel_rfl)) (AllCut.of (l := []) (by kernel_rfl) AllCut.nil) h
  unfold binary_within.dec at h1; split at h1
  · cases h1; exact h2
  · cases h1
theorem binary_within.ent_ok (N : Nat) : TabOK1 Try.prog 31 (binary_within.ent N) := by
  intro args bs a enc h
  simp only [binary_within.ent] at h
  split at h
  · rename_i hz; have h0 := Option.some.inj h; have h1 := congrArg Prod.fst h0; have h2 := congrArg Prod.snd h0; dsimp only at h1 h2; subst h2; exact FnSpec.of_freeze hz (binary_within.spec N _ _ _ a h1)
  · cases h
/-! parquet/binary.term: function 34 -/
noncomputable def binary_term.l3 {R : Type} (N : Nat) : Nat → List Int → Int → Int → Bool → Bool → List Int → (Bool → Bool → List Int → Option R) → Option R
  | 0, _, _, _, _, _, _, _ => none
  | n + 1, x3, x4, x5, x6, x7, x8, k0 =>
    bif decide (x5 < x4) then
      bif (decide (0 ≤ x5)) && (decide (x5 < (x3.length : Int))) then
        (zint_Of.f N (x3.getD x5.toNat 0)).bind fun r9 =>
        (zint_Mul.f N x7 x8 r9.1 r9.2).bind fun r10 =>
        binary_term.l3 N n x3 x4 (wi64 (x5 + 1)) x6 r10.1 r10.2.1 k0
      else none
    else
    k0 x6 x7 x8
noncomputable def binary_term.f (N : Nat) (a1 : List Int) : Option (Bool × List Int) :=
  (zint_Of.f N 1).bind fun r2 =>
  binary_term.l3 N N a1 (a1.length : Int) 0 false r2.1 r2.2
    (fun y14 y15 y16 =>
      some (y15, y16))
noncomputable def binary_term.body : Code := (Try.f34.body).getD .skip
noncomputable def binary_term.ty : List (Nat × TI) := [(2, ty2), (52, ty52), (58, ty58)]
noncomputable def binary_term.h3 : Hint := ⟨[(2, .box [.any, .any]), (3, .box [.any, .il .u32 1]), (7, .il .i64 1), (8, .any), (9, .any)], [(2, .box [.any, .any]), (3, .box [.any, .il .u32 1])]⟩
noncomputable def binary_term.c3 (N : Nat) : Cut := ⟨fun vs H k => match vs, H with
  | [.ptr 0 0 2, .ptr 1 0 2, .il .i64 1 x3, .c (.int .i64 x4), .c (.int .i64 x5)], [.vals [.c (.bool x6), .c (.slice none 0 0)], .vals [.c (.bool x7), .il .u32 1 x8]] => binary_term.l3 N N x3 x4 x5 x6 x7 x8 (fun x11 x12 x13 => k (.exit 0) ⟨mkT binary_term.h3.out [.ptr 0 0 2, .ptr 1 0 2], [.vals [.c (.bool x11), .c (.slice none 0 0)], .vals [.c (.bool x12), .il .u32 1 x13]]⟩)
  | _, _ => none⟩
noncomputable def binary_term.E (N : Nat) : Env := { ty := lookN binary_term.ty, tab := lookN [(44, zint_Of.ent N), (45, zint_Mul.ent N)], hint := lookN [(3, binary_term.h3)], cut := lookN [(3, binary_term.c3 N)], N := N, res := [.cell 2 58], rsh := [.recd [.any, .il .u32 1]], nb := 0, ntmps := 22, own := false }
noncomputable def binary_term.b3 : Code := inner ((subLoops binary_term.body).getD 0 .skip)
set_option maxRecDepth 100000 in
theorem binary_term.l3_eq {R : Type} (N n : Nat) (x3 : List Int) (x4 : Int) (x5 : Int) (x6 : Bool) (x7 : Bool) (x8 : List Int) (k : Ex → St → Option R) :
    evLoop 0 binary_term.h3 (fun s k => evCode (binary_term.E N) 394 binary_term.b3 s k) n [.ptr 0 0 2, .ptr 1 0 2, .il .i64 1 x3, .c (.int .i64 x4), .c (.int .i64 x5)] [.vals [.c (.bool x6), .c (.slice none 0 0)], .vals [.c (.bool x7), .il .u32 1 x8]] k = binary_term.l3 N n x3 x4 x5 x6 x7 x8 (fun x11 x12 x13 => k (.exit 0) ⟨mkT binary_term.h3.out [.ptr 0 0 2, .ptr 1 0 2], [.vals [.c (.bool x11), .c (.slice none 0 0)], .vals [.c (.bool x12), .il .u32 1 x13]]⟩) := by
  induction n generalizing x3 x4 x5 x6 x7 x8 with
  | zero => kernel_rfl
  | succ n ih =>
    simp only [binary_term.l3, ← ih]
    kernel_rfl
noncomputable def binary_term.dec (v : V) (bs : List Blk) : Option (Bool × List Int) := match v, bs with
  | .agg [.c (.bool z0), .il .u32 1 z1], [] => some (z0, z1)
  | _, _ => none
set_option maxRecDepth 100000 in
theorem binary_term.f_eq (N : Nat) (a1 : List Int) :
    evFun (binary_term.E N) binary_term.body [.il .i64 1 a1] [] binary_term.dec = binary_term.f N a1 := by kernel_rfl
noncomputable def binary_term.ent (N : Nat) : Entry := { A := Bool × List Int, fresh := 0, imm := [true], dec := fun args bs => match freezeL 0 (fun _ => .dead) [.il .i64 1] args, bs with
  | some [.il .i64 1 a1], [] => some (binary_term.f N a1, fun r => .one (.agg [.c (.bool r.1), .il .u32 1 r.2]) [])
  | _, _ => none }
theorem binary_term.env (N : Nat) : EnvOK Try.prog (binary_term.E N) := ⟨(TyOK.cons ty2_ok (TyOK.cons ty52_ok (TyOK.cons ty58_ok TyOK.nil))), (TabOK.cons (zint_Of.ent_ok N) (TabOK.cons (zint_Mul.ent_ok N) TabOK.nil))⟩
theorem binary_term.res_eq (N : Nat) : (binary_term.E N).res = Try.f34.results.toList := by kernel_rfl
theorem binary_term.k3 (N : Nat) : CutOK Try.prog Try.f34 (binary_term.E N) (.loop binary_term.b3) := by
  intro e hd he hh R vs H k r h
  have e1 : (binary_term.E N).cut (loopKey binary_term.b3) = some (binary_term.c3 N) := by kernel_rfl
  have e2 : (binary_term.E N).hint (loopKey binary_term.b3) = some binary_term.h3 := by kernel_rfl
  rw [e1] at he; rw [e2] at hh; cases he; cases hh
  unfold binary_term.c3 at h; dsimp only at h
  split at h
  · rw [← binary_term.l3_eq] at h
    exact loop_ok (evCode_ok (binary_term.env N) Try_mixed (binary_term.res_eq N) 394 binary_term.b3 (AllCut.of (l := []) (by kernel_rfl) AllCut.nil)) h
  · cases h
theorem binary_term.spec (N : Nat) (a1 : List Int) (r : Bool × List Int) (h : binary_term.f N a1 = some r) : FnSpec Try.prog 34 [.il .i64 1 a1] [] (.agg [.c (.bool r.1), .il .u32 1 r.2]) ([]) := by
  rw [← binary_term.f_eq] at h
  obtain ⟨v, bs', h1, h2⟩ := evFun_ok (binary_term.env N) Try_mixed Try.func34 (by kernel_rfl : Try.f34.body = some binary_term.body) (by kernel_rfl) (binary_term.res_eq N) (by kernel_rfl) (by kernel_rfl) (Nat.le_of_ble_eq_true (by kernel_rfl)) (AllCut.of (l := [(.loop (inner ((subLoops binary_term.body).getD 0 .skip)))]) (by kernel_rfl) (AllCut.cons (binary_term.k3 N) AllCut.nil)) h
  unfold binary_term.dec at h1; split at h1
  · cases h1; exact h2
  · cases h1
theorem binary_term.ent_ok (N : Nat) : TabOK1 Try.prog 34 (binary_term.ent N) := by
  intro args bs a enc h
  simp only [binary_term.ent] at h
  split at h
  · rename_i hz; have h0 := Option.some.inj h; have h1 := congrArg Prod.fst h0; have h2 := congrArg Prod.snd h0; dsimp only at h1 h2; subst h2; exact FnSpec.of_freeze hz (binary_term.spec N _ a h1)
  · cases h
/-! parquet/binary.coefficient: function 33 -/
noncomputable def binary_coefficient3.f (N : Nat) (a1 : Bool) (a2 : List Int) (a3 : Bool) (a4 : List Int) (a5 : Bool) (a6 : List Int) : Option (Int × Bool) :=
  (zint_Add.f N false [] a1 a2).bind fun r7 =>
  (zint_Add.f N r7.1 r7.2.1 a3 a4).bind fun r8 =>
  (zint_Add.f N r8.1 r8.2.1 a5 a6).bind fun r9 =>
  (zint_Int_Int64.f N r9.1 r9.2.1).bind fun r10 =>
  bif r10.2 then
    bif decide (r10.1 ≤ 1073741824) then
      some (r10.1, decide (r10.1 ≥ (-1073741824)))
    else
    some (r10.1, false)
  else
  some (r10.1, false)
noncomputable def binary_coefficient3.body : Code := (Try.f33.body).getD .skip
noncomputable def binary_coefficient3.ty : List (Nat × TI) := [(58, ty58), (74, ty74)]
noncomputable def binary_coefficient3.h3 : Hint := ⟨[(4, .box [.any, .any]), (9, .any), (10, .any), (11, .any)], [(4, .any)]⟩
noncomputable def binary_coefficient3.E (N : Nat) : Env := { ty := lookN binary_coefficient3.ty, tab := lookN [(42, zint_Add.ent N), (43, zint_Int_Int64.ent N)], hint := lookN [(3, binary_coefficient3.h3)], cut := lookN [], N := 40, res := [.tmp 2, .tmp 3], rsh := [.any, .any], nb := 1, ntmps := 37, own := false }
noncomputable def binary_coefficient3.dec (v : V) (bs : List Blk) : Option (Int × Bool) := match v, bs with
  | .tup [.c (.int .i64 z0), .c (.bool z1)], [.vals [.c (.bool _), .il .u32 1 _, .c (.bool _), .il .u32 1 _, .c (.bool _), .il .u32 1 _]] => some (z0, z1)
  | _, _ => none
set_option maxRecDepth 100000 in
theorem binary_coefficient3.f_eq (N : Nat) (a1 : Bool) (a2 : List Int) (a3 : Bool) (a4 : List Int) (a5 : Bool) (a6 : List Int) :
    evFun (binary_coefficient3.E N) binary_coefficient3.body [.sw 0 2] [.vals [.c (.bool a1), .il .u32 1 a2, .c (.bool a3), .il .u32 1 a4, .c (.bool a5), .il .u32 1 a6]] binary_coefficient3.dec = binary_coefficient3.f N a1 a2 a3 a4 a5 a6 := by kernel_rfl
theorem binary_coefficient3.env (N : Nat) : EnvOK Try.prog (binary_coefficient3.E N) := ⟨(TyOK.cons ty58_ok (TyOK.cons ty74_ok TyOK.nil)), (TabOK.cons (zint_Add.ent_ok N) (TabOK.cons (zint_Int_Int64.ent_ok N) TabOK.nil))⟩
theorem binary_coefficient3.res_eq (N : Nat) : (binary_coefficient3.E N).res = Try.f33.results.toList := by kernel_rfl
theorem binary_coefficient3.spec (N : Nat) (a1 : Bool) (a2 : List Int) (a3 : Bool) (a4 : List Int) (a5 : Bool) (a6 : List Int) (r : Int × Bool) (h : binary_coefficient3.f N a1 a2 a3 a4 a5 a6 = some r) : FnSpec Try.prog 33 [.sw 0 2] [.vals [.c (.bool a1), .il .u32 1 a2, .c (.bool a3), .il .u32 1 a4, .c (.bool a5), .il .u32 1 a6]] (.tup [.c (.int .i64 r.1), .c (.bool r.2)]) ([.dead]) := by
  rw [← binary_coefficient3.f_eq] at h
  obtain ⟨v, bs', h1, h2⟩ := evFun_ok (binary_coefficient3.env N) Try_mixed Try.func33 (by kernel_rfl : Try.f33.body = some binary_coefficient3.body) (by kernel_rfl) (binary_coefficient3.res_eq N) (by kernel_rfl) (by kernel_rfl) (Nat.le_of_ble_eq_true (by kernel_rfl)) (AllCut.of (l := [(.loop (inner ((subLoops binary_coefficient3.body).getD 0 .skip)))]) (by kernel_rfl) (AllCut.cons (cut_loop (by kernel_rfl)) AllCut.nil)) h
  unfold binary_coefficient3.dec at h1; split at h1
  · cases h1; exact h2.kill
  · cases h1
noncomputable def binary_coefficient4.f (N : Nat) (a1 : Bool) (a2 : List Int) (a3 : Bool) (a4 : List Int) (a5 : Bool) (a6 : List Int) (a7 : Bool) (a8 : List Int) : Option (Int × Bool) :=
  (zint_Add.f N false [] a1 a2).bind fun r9 =>
  (zint_Add.f N r9.1 r9.2.1 a3 a4).bind fun r10 =>
  (zint_Add.f N r10.1 r10.2.1 a5 a6).bind fun r11 =>
  (zint_Add.f N r11.1 r11.2.1 a7 a8).bind fun r12 =>
  (zint_Int_Int64.f N r12.1 r12.2.1).bind fun r13 =>
  bif r13.2 then
    bif decide (r13.1 ≤ 1073741824) then
      some (r13.1, decide (r13.1 ≥ (-1073741824)))
    else
    some (r13.1, false)
  else
  some (r13.1, false)
noncomputable def binary_coefficient4.body : Code := (Try.f33.body).getD .skip
noncomputable def binary_coefficient4.ty : List (Nat × TI) := [(58, ty58), (74, ty74)]
noncomputable def binary_coefficient4.h3 : Hint := ⟨[(4, .box [.any, .any]), (9, .any), (10, .any), (11, .any)], [(4, .any)]⟩
noncomputable def binary_coefficient4.E (N : Nat) : Env := { ty := lookN binary_coefficient4.ty, tab := lookN [(42, zint_Add.ent N), (43, zint_Int_Int64.ent N)], hint := lookN [(3, binary_coefficient4.h3)], cut := lookN [], N := 40, res := [.tmp 2, .tmp 3], rsh := [.any, .any], nb := 1, ntmps := 37, own := false }
noncomputable def binary_coefficient4.dec (v : V) (bs : List Blk) : Option (Int × Bool) := match v, bs with
  | .tup [.c (.int .i64 z0), .c (.bool z1)], [.vals [.c (.bool _), .il .u32 1 _, .c (.bool _), .il .u32 1 _, .c (.bool _), .il .u32 1 _, .c (.bool _), .il .u32 1 _]] => some (z0, z1)
  | _, _ => none
set_option maxRecDepth 100000 in
theorem binary_coefficient4.f_eq (N : Nat) (a1 : Bool) (a2 : List Int) (a3 : Bool) (a4 : List Int) (a5 : Bool) (a6 : List Int) (a7 : Bool) (a8 : List Int) :
    evFun (binary_coefficient4.E N) binary_coefficient4.body [.sw 0 2] [.vals [.c (.bool a1), .il .u32 1 a2, .c (.bool a3), .il .u32 1 a4, .c (.bool a5), .il .u32 1 a6, .c (.bool a7), .il .u32 1 a8]] binary_coefficient4.dec = binary_coefficient4.f N a1 a2 a3 a4 a5 a6 a7 a8 := by kernel_rfl
theorem binary_coefficient4.env (N : Nat) : EnvOK Try.prog (binary_coefficient4.E N) := ⟨(TyOK.cons ty58_ok (TyOK.cons ty74_ok TyOK.nil)), (TabOK.cons (zint_Add.ent_ok N) (TabOK.cons (zint_Int_Int64.ent_ok N) TabOK.nil))⟩
theorem binary_coefficient4.res_eq (N : Nat) : (binary_coefficient4.E N).res = Try.f33.results.toList := by kernel_rfl
theorem binary_coefficient4.spec (N : Nat) (a1 : Bool) (a2 : List Int) (a3 : Bool) (a4 : List Int) (a5 : Bool) (a6 : List Int) (a7 : Bool) (a8 : List Int) (r : Int × Bool) (h : binary_coefficient4.f N a1 a2 a3 a4 a5 a6 a7 a8 = some r) : FnSpec Try.prog 33 [.sw 0 2] [.vals [.c (.bool a1), .il .u32 1 a2, .c (.bool a3), .il .u32 1 a4, .c (.bool a5), .il .u32 1 a6, .c (.bool a7), .il .u32 1 a8]] (.tup [.c (.int .i64 r.1), .c (.bool r.2)]) ([.dead]) := by
  rw [← binary_coefficient4.f_eq] at h
  obtain ⟨v, bs', h1, h2⟩ := evFun_ok (binary_coefficient4.env N) Try_mixed Try.func33 (by kernel_rfl : Try.f33.body = some binary_coefficient4.body) (by kernel_rfl) (binary_coefficient4.res_eq N) (by kernel_rfl) (by kernel_rfl) (Nat.le_of_ble_eq_true (by kernel_rfl)) (AllCut.of (l := [(.loop (inner ((subLoops binary_coefficient4.body).getD 0 .skip)))]) (by kernel_rfl) (AllCut.cons (cut_loop (by kernel_rfl)) AllCut.nil)) h
  unfold binary_coefficient4.dec at h1; split at h1
  · cases h1; exact h2.kill
  · cases h1
noncomputable def binary_coefficient.ent (N : Nat) : Entry := { A := Int × Bool, fresh := 0, imm := [false], dec := fun args bs => match asSlL (blkAt bs) [false] args, bs with
  | [.sw 0 2], [.vals [.c (.bool a1), .il .u32 1 a2, .c (.bool a3), .il .u32 1 a4, .c (.bool a5), .il .u32 1 a6]] => some (binary_coefficient3.f N a1 a2 a3 a4 a5 a6, fun r => .one (.tup [.c (.int .i64 r.1), .c (.bool r.2)]) [.dead])
  | [.sw 0 2], [.vals [.c (.bool a1), .il .u32 1 a2, .c (.bool a3), .il .u32 1 a4, .c (.bool a5), .il .u32 1 a6, .c (.bool a7), .il .u32 1 a8]] => some (binary_coefficient4.f N a1 a2 a3 a4 a5 a6 a7 a8, fun r => .one (.tup [.c (.int .i64 r.1), .c (.bool r.2)]) [.dead])
  | _, _ => none }
theorem binary_coefficient.ent_ok (N : Nat) : TabOK1 Try.prog 33 (binary_coefficient.ent N) := by
  intro args bs a enc h
  simp only [binary_coefficient.ent] at h
  split at h
  · rename_i hz; have h0 := Option.some.inj h; have h1 := congrArg Prod.fst h0; have h2 := congrArg Prod.snd h0; dsimp only at h1 h2; subst h2; exact FnSpec.of_asSl (fl := [false]) (by rw [hz]; exact binary_coefficient3.spec N _ _ _ _ _ _ a h1)
  · rename_i hz; have h0 := Option.some.inj h; have h1 := congrArg Prod.fst h0; have h2 := congrArg Prod.snd h0; dsimp only at h1 h2; subst h2; exact FnSpec.of_asSl (fl := [false]) (by rw [hz]; exact binary_coefficient4.spec N _ _ _ _ _ _ _ _ a h1)
  · cases h
/-! parquet/binary.Act$1: function 32 -/
noncomputable def binary_Act_1.f (N : Nat) (a1 : Int) (a2 : Int) (a3 : Int) (a4 : Int) (a5 : Int) : Option (Int × Bool × Int × Int × Int) :=
  (binary_term.f N [a3, a1, a1]).bind fun r6 =>
  (binary_term.f N [a4, a1, a2]).bind fun r7 =>
  (binary_term.f N [a5, a2, a2]).bind fun r8 =>
  (binary_coefficient3.f N r6.1 r6.2 r7.1 r7.2 r8.1 r8.2).bind fun r9 =>
  some (r9.1, r9.2, a3, a4, a5)
noncomputable def binary_Act_1.body : Code := (Try.f32.body).getD .skip
noncomputable def binary_Act_1.ty : List (Nat × TI) := [(2, ty2), (23, ty23), (52, ty52), (58, ty58), (74, ty74)]
noncomputable def binary_Act_1.E (N : Nat) : Env := { ty := lookN binary_Act_1.ty, tab := lookN [(34, binary_term.ent N), (33, binary_coefficient.ent N)], hint := lookN [], cut := lookN [], N := N, res := [.tmp 5, .tmp 6], rsh := [.any, .any], nb := 1, ntmps := 29, own := false }
noncomputable def binary_Act_1.dec (v : V) (bs : List Blk) : Option (Int × Bool × Int × Int × Int) := match v, bs with
  | .tup [.c (.int .i64 z0), .c (.bool z1)], [.vals [.c (.int .i64 z2), .c (.int .i64 z3), .c (.int .i64 z4)]] => some (z0, z1, z2, z3, z4)
  | _, _ => none
set_option maxRecDepth 100000 in
theorem binary_Act_1.f_eq (N : Nat) (a1 : Int) (a2 : Int) (a3 : Int) (a4 : Int) (a5 : Int) :
    evFun (binary_Act_1.E N) binary_Act_1.body [.c (.int .i64 a1), .c (.int .i64 a2), .ptr 0 0 3] [.vals [.c (.int .i64 a3), .c (.int .i64 a4), .c (.int .i64 a5)]] binary_Act_1.dec = binary_Act_1.f N a1 a2 a3 a4 a5 := by kernel_rfl
noncomputable def binary_Act_1.ent (N : Nat) : Entry := { A := Int × Bool × Int × Int × Int, fresh := 0, imm := [true, true, false], dec := fun args bs => match asSlL (blkAt bs) [false, false, false] args, bs with
  | [.c (.int .i64 a1), .c (.int .i64 a2), .ptr 0 0 3], [.vals [.c (.int .i64 a3), .c (.int .i64 a4), .c (.int .i64 a5)]] => some (binary_Act_1.f N a1 a2 a3 a4 a5, fun r => .one (.tup [.c (.int .i64 r.1), .c (.bool r.2.1)]) [.vals [.c (.int .i64 r.2.2.1), .c (.int .i64 r.2.2.2.1), .c (.int .i64 r.2.2.2.2)]])
  | _, _ => none }
theorem binary_Act_1.env (N : Nat) : EnvOK Try.prog (binary_Act_1.E N) := ⟨(TyOK.cons ty2_ok (TyOK.cons ty23_ok (TyOK.cons ty52_ok (TyOK.cons ty58_ok (TyOK.cons ty74_ok TyOK.nil))))), (TabOK.cons (binary_term.ent_ok N) (TabOK.cons (binary_coefficient.ent_ok N) TabOK.nil))⟩
theorem binary_Act_1.res_eq (N : Nat) : (binary_Act_1.E N).res = Try.f32.results.toList := by kernel_rfl
theorem binary_Act_1.spec (N : Nat) (a1 : Int) (a2 : Int) (a3 : Int) (a4 : Int) (a5 : Int) (r : Int × Bool × Int × Int × Int) (h : binary_Act_1.f N a1 a2 a3 a4 a5 = some r) : FnSpec Try.prog 32 [.c (.int .i64 a1), .c (.int .i64 a2), .ptr 0 0 3] [.vals [.c (.int .i64 a3), .c (.int .i64 a4), .c (.int .i64 a5)]] (.tup [.c (.int .i64 r.1), .c (.bool r.2.1)]) ([.vals [.c (.int .i64 r.2.2.1), .c (.int .i64 r.2.2.2.1), .c (.int .i64 r.2.2.2.2)]]) := by
  rw [← binary_Act_1.f_eq] at h
  obtain ⟨v, bs', h1, h2⟩ := evFun_ok (binary_Act_1.env N) Try_mixed Try.func32 (by kernel_rfl : Try.f32.body = some binary_Act_1.body) (by kernel_rfl) (binary_Act_1.res_eq N) (by kernel_rfl) (by kernel_rfl) (Nat.le_of_ble_eq_true (by kernel_rfl)) (AllCut.of (l := []) (by kernel_rfl) AllCut.nil) h
  unfold binary_Act_1.dec at h1; split at h1
  · cases h1; exact h2
  · cases h1
theorem binary_Act_1.ent_ok (N : Nat) : TabOK1 Try.prog 32 (binary_Act_1.ent N) := by
  intro args bs a enc h
  simp only [binary_Act_1.ent] at h
  split at h
  · rename_i hz; have h0 := Option.some.inj h; have h1 := congrArg Prod.fst h0; have h2 := congrArg Prod.snd h0; dsimp only at h1 h2; subst h2; exact FnSpec.of_asSl (fl := [false, false, false]) (by rw [hz]; exact binary_Act_1.spec N _ _ _ _ _ a h1)
  · cases h
/-! parquet/binary.Act: function 16 -/
noncomputable def binary_Act.f (N : Nat) (a1 : Int) (a2 : Int) (a3 : Int) (a4 : Int) (a5 : Int) (a6 : Int) (a7 : Int) : Option (Int × Int × Int × Int) :=
  (binary_within.f N a1 a2 a3).bind fun r8 =>
  bif !r8 then
    some (0, 0, 0, 3)
  else
  (binary_Act_1.f N a4 a6 a1 a2 a3).bind fun r9 =>
  (binary_Act_1.f N a5 a7 r9.2.2.1 r9.2.2.2.1 r9.2.2.2.2).bind fun r10 =>
  (binary_term.f N [wi64 (2 * r10.2.2.1), a4, a5]).bind fun r11 =>
  (binary_term.f N [r10.2.2.2.1, a4, a7]).bind fun r12 =>
  (binary_term.f N [r10.2.2.2.1, a5, a6]).bind fun r13 =>
  (binary_term.f N [wi64 (2 * r10.2.2.2.2), a6, a7]).bind fun r14 =>
  (binary_coefficient4.f N r11.1 r11.2 r12.1 r12.2 r13.1 r13.2 r14.1 r14.2).bind fun r15 =>
  bif !r9.2.1 then
    some (0, 0, 0, 3)
  else
  bif !r10.2.1 then
    some (0, 0, 0, 3)
  else
  bif !r15.2 then
    some (0, 0, 0, 3)
  else
  some (r9.1, r15.1, r10.1, 0)
noncomputable def binary_Act.body : Code := (Try.f16.body).getD .skip
noncomputable def binary_Act.ty : List (Nat × TI) := [(2, ty2), (23, ty23), (33, ty33), (52, ty52), (58, ty58), (74, ty74)]
noncomputable def binary_Act.E (N : Nat) : Env := { ty := lookN binary_Act.ty, tab := lookN [(31, binary_within.ent N), (32, binary_Act_1.ent N), (34, binary_term.ent N), (33, binary_coefficient.ent N)], hint := lookN [], cut := lookN [], N := N, res := [.cell 4 23, .tmp 5], rsh := [.recd [.any, .any, .any], .any], nb := 0, ntmps := 90, own := false }
noncomputable def binary_Act.dec (v : V) (bs : List Blk) : Option (Int × Int × Int × Int) := match v, bs with
  | .tup [.agg [.c (.int .i64 z0), .c (.int .i64 z1), .c (.int .i64 z2)], .c (.int .i64 z3)], [] => some (z0, z1, z2, z3)
  | _, _ => none
set_option maxRecDepth 100000 in
theorem binary_Act.f_eq (N : Nat) (a1 : Int) (a2 : Int) (a3 : Int) (a4 : Int) (a5 : Int) (a6 : Int) (a7 : Int) :
    evFun (binary_Act.E N) binary_Act.body [.agg [.c (.int .i64 a1), .c (.int .i64 a2), .c (.int .i64 a3)], .agg [.c (.int .i64 a4), .c (.int .i64 a5), .c (.int .i64 a6), .c (.int .i64 a7)]] [] binary_Act.dec = binary_Act.f N a1 a2 a3 a4 a5 a6 a7 := by kernel_rfl
noncomputable def binary_Act.ent (N : Nat) : Entry := { A := Int × Int × Int × Int, fresh := 0, imm := [true, true], dec := fun args bs => match freezeL 0 (fun _ => .dead) [.recd [.any, .any, .any], .recd [.any, .any, .any, .any]] args, bs with
  | some [.agg [.c (.int .i64 a1), .c (.int .i64 a2), .c (.int .i64 a3)], .agg [.c (.int .i64 a4), .c (.int .i64 a5), .c (.int .i64 a6), .c (.int .i64 a7)]], [] => some (binary_Act.f N a1 a2 a3 a4 a5 a6 a7, fun r => .one (.tup [.agg [.c (.int .i64 r.1), .c (.int .i64 r.2.1), .c (.int .i64 r.2.2.1)], .c (.int .i64 r.2.2.2)]) [])
  | _, _ => none }
theorem binary_Act.env (N : Nat) : EnvOK Try.prog (binary_Act.E N) := ⟨(TyOK.cons ty2_ok (TyOK.cons ty23_ok (TyOK.cons ty33_ok (TyOK.cons ty52_ok (TyOK.cons ty58_ok (TyOK.cons ty74_ok TyOK.nil)))))), (TabOK.cons (binary_within.ent_ok N) (TabOK.cons (binary_Act_1.ent_ok N) (TabOK.cons (binary_term.ent_ok N) (TabOK.cons (binary_coefficient.ent_ok N) TabOK.nil))))⟩
theorem binary_Act.res_eq (N : Nat) : (binary_Act.E N).res = Try.f16.results.toList := by kernel_rfl
theorem binary_Act.spec (N : Nat) (a1 : Int) (a2 : Int) (a3 : Int) (a4 : Int) (a5 : Int) (a6 : Int) (a7 : Int) (r : Int × Int × Int × Int) (h : binary_Act.f N a1 a2 a3 a4 a5 a6 a7 = some r) : FnSpec Try.prog 16 [.agg [.c (.int .i64 a1), .c (.int .i64 a2), .c (.int .i64 a3)], .agg [.c (.int .i64 a4), .c (.int .i64 a5), .c (.int .i64 a6), .c (.int .i64 a7)]] [] (.tup [.agg [.c (.int .i64 r.1), .c (.int .i64 r.2.1), .c (.int .i64 r.2.2.1)], .c (.int .i64 r.2.2.2)]) ([]) := by
  rw [← binary_Act.f_eq] at h
  obtain ⟨v, bs', h1, h2⟩ := evFun_ok (binary_Act.env N) Try_mixed Try.func16 (by kernel_rfl : Try.f16.body = some binary_Act.body) (by kernel_rfl) (binary_Act.res_eq N) (by kernel_rfl) (by kernel_rfl) (Nat.le_of_ble_eq_true (by kernel_rfl)) (AllCut.of (l := []) (by kernel_rfl) AllCut.nil) h
  unfold binary_Act.dec at h1; split at h1
  · cases h1; exact h2
  · cases h1
theorem binary_Act.ent_ok (N : Nat) : TabOK1 Try.prog 16 (binary_Act.ent N) := by
  intro args bs a enc h
  simp only [binary_Act.ent] at h
  split at h
  · rename_i hz; have h0 := Option.some.inj h; have h1 := congrArg Prod.fst h0; have h2 := congrArg Prod.snd h0; dsimp only at h1 h2; subst h2; exact FnSpec.of_freeze hz (binary_Act.spec N _ _ _ _ _ _ _ a h1)
  · cases h
/-! parquet/parquetref02.Make: function 60 -/
noncomputable def parquetref02_Make.f (N : Nat) (a1 : Bool) (a2 : List Int) : Option (Bool × List Int) :=
  (parquetref01_Bits.f N a2).bind fun r3 =>
  bif r3 == 0 then
    some (false, [])
  else
  some (a1, a2)
noncomputable def parquetref02_Make.body : Code := (Try.f60.body).getD .skip
noncomputable def parquetref02_Make.ty : List (Nat × TI) := [(4, ty4), (80, ty80), (82, ty82)]
noncomputable def parquetref02_Make.E (N : Nat) : Env := { ty := lookN parquetref02_Make.ty, tab := lookN [(78, parquetref01_Bits.ent N)], hint := lookN [], cut := lookN [], N := N, res := [.cell 4 82], rsh := [.recd [.any, .il .u32 1]], nb := 0, ntmps := 12, own := false }
noncomputable def parquetref02_Make.dec (v : V) (bs : List Blk) : Option (Bool × List Int) := match v, bs with
  | .agg [.c (.bool z0), .il .u32 1 z1], [] => some (z0, z1)
  | _, _ => none
set_option maxRecDepth 100000 in
theorem parquetref02_Make.f_eq (N : Nat) (a1 : Bool) (a2 : List Int) :
    evFun (parquetref02_Make.E N) parquetref02_Make.body [.c (.bool a1), .il .u32 1 a2] [] parquetref02_Make.dec = parquetref02_Make.f N a1 a2 := by kernel_rfl
noncomputable def parquetref02_Make.ent (N : Nat) : Entry := { A := Bool × List Int, fresh := 0, imm := [true, true], dec := fun args bs => match freezeL 0 (fun _ => .dead) [.any, .il .u32 1] args, bs with
  | some [.c (.bool a1), .il .u32 1 a2], [] => some (parquetref02_Make.f N a1 a2, fun r => .one (.agg [.c (.bool r.1), .il .u32 1 r.2]) [])
  | _, _ => none }
theorem parquetref02_Make.env (N : Nat) : EnvOK Try.prog (parquetref02_Make.E N) := ⟨(TyOK.cons ty4_ok (TyOK.cons ty80_ok (TyOK.cons ty82_ok TyOK.nil))), (TabOK.cons (parquetref01_Bits.ent_ok N) TabOK.nil)⟩
theorem parquetref02_Make.res_eq (N : Nat) : (parquetref02_Make.E N).res = Try.f60.results.toList := by kernel_rfl
theorem parquetref02_Make.spec (N : Nat) (a1 : Bool) (a2 : List Int) (r : Bool × List Int) (h : parquetref02_Make.f N a1 a2 = some r) : FnSpec Try.prog 60 [.c (.bool a1), .il .u32 1 a2] [] (.agg [.c (.bool r.1), .il .u32 1 r.2]) ([]) := by
  rw [← parquetref02_Make.f_eq] at h
  obtain ⟨v, bs', h1, h2⟩ := evFun_ok (parquetref02_Make.env N) Try_mixed Try.func60 (by kernel_rfl : Try.f60.body = some parquetref02_Make.body) (by kernel_rfl) (parquetref02_Make.res_eq N) (by kernel_rfl) (by kernel_rfl) (Nat.le_of_ble_eq_true (by kernel_rfl)) (AllCut.of (l := []) (by kernel_rfl) AllCut.nil) h
  unfold parquetref02_Make.dec at h1; split at h1
  · cases h1; exact h2
  · cases h1
theorem parquetref02_Make.ent_ok (N : Nat) : TabOK1 Try.prog 60 (parquetref02_Make.ent N) := by
  intro args bs a enc h
  simp only [parquetref02_Make.ent] at h
  split at h
  · rename_i hz; have h0 := Option.some.inj h; have h1 := congrArg Prod.fst h0; have h2 := congrArg Prod.snd h0; dsimp only at h1 h2; subst h2; exact FnSpec.of_freeze hz (parquetref02_Make.spec N _ _ a h1)
  · cases h
/-! parquet/parquetref02.Of: function 48 -/
noncomputable def parquetref02_Of.f (N : Nat) (a1 : Int) : Option (Bool × List Int) :=
  bif decide (a1 < 0) then
    (parquetref01_Of.f N (wu64 (0 - (wu64 a1)))).bind fun r2 =>
    (parquetref02_Make.f N true r2).bind fun r3 =>
    some (r3.1, r3.2)
  else
  (parquetref01_Of.f N (wu64 a1)).bind fun r4 =>
  (parquetref02_Make.f N false r4).bind fun r5 =>
  some (r5.1, r5.2)
noncomputable def parquetref02_Of.body : Code := (Try.f48.body).getD .skip
noncomputable def parquetref02_Of.ty : List (Nat × TI) := [(2, ty2), (82, ty82), (92, ty92)]
noncomputable def parquetref02_Of.E (N : Nat) : Env := { ty := lookN parquetref02_Of.ty, tab := lookN [(62, parquetref01_Of.ent N), (60, parquetref02_Make.ent N)], hint := lookN [], cut := lookN [], N := N, res := [.cell 2 82], rsh := [.recd [.any, .il .u32 1]], nb := 0, ntmps := 14, own := false }
noncomputable def parquetref02_Of.dec (v : V) (bs : List Blk) : Option (Bool × List Int) := match v, bs with
  | .agg [.c (.bool z0), .il .u32 1 z1], [] => some (z0, z1)
  | _, _ => none
set_option maxRecDepth 100000 in
theorem parquetref02_Of.f_eq (N : Nat) (a1 : Int) :
    evFun (parquetref02_Of.E N) parquetref02_Of.body [.c (.int .i64 a1)] [] parquetref02_Of.dec = parquetref02_Of.f N a1 := by kernel_rfl
noncomputable def parquetref02_Of.ent (N : Nat) : Entry := { A := Bool × List Int, fresh := 0, imm := [true], dec := fun args bs => match freezeL 0 (fun _ => .dead) [.any] args, bs with
  | some [.c (.int .i64 a1)], [] => some (parquetref02_Of.f N a1, fun r => .one (.agg [.c (.bool r.1), .il .u32 1 r.2]) [])
  | _, _ => none }
theorem parquetref02_Of.env (N : Nat) : EnvOK Try.prog (parquetref02_Of.E N) := ⟨(TyOK.cons ty2_ok (TyOK.cons ty82_ok (TyOK.cons ty92_ok TyOK.nil))), (TabOK.cons (parquetref01_Of.ent_ok N) (TabOK.cons (parquetref02_Make.ent_ok N) TabOK.nil))⟩
theorem parquetref02_Of.res_eq (N : Nat) : (parquetref02_Of.E N).res = Try.f48.results.toList := by kernel_rfl
theorem parquetref02_Of.spec (N : Nat) (a1 : Int) (r : Bool × List Int) (h : parquetref02_Of.f N a1 = some r) : FnSpec Try.prog 48 [.c (.int .i64 a1)] [] (.agg [.c (.bool r.1), .il .u32 1 r.2]) ([]) := by
  rw [← parquetref02_Of.f_eq] at h
  obtain ⟨v, bs', h1, h2⟩ := evFun_ok (parquetref02_Of.env N) Try_mixed Try.func48 (by kernel_rfl : Try.f48.body = some parquetref02_Of.body) (by kernel_rfl) (parquetref02_Of.res_eq N) (by kernel_rfl) (by kernel_rfl) (Nat.le_of_ble_eq_true (by kernel_rfl)) (AllCut.of (l := []) (by kernel_rfl) AllCut.nil) h
  unfold parquetref02_Of.dec at h1; split at h1
  · cases h1; exact h2
  · cases h1
theorem parquetref02_Of.ent_ok (N : Nat) : TabOK1 Try.prog 48 (parquetref02_Of.ent N) := by
  intro args bs a enc h
  simp only [parquetref02_Of.ent] at h
  split at h
  · rename_i hz; have h0 := Option.some.inj h; have h1 := congrArg Prod.fst h0; have h2 := congrArg Prod.snd h0; dsimp only at h1 h2; subst h2; exact FnSpec.of_freeze hz (parquetref02_Of.spec N _ a h1)
  · cases h
/-! parquet/parquetref02.Sign: function 67 -/
noncomputable def parquetref02_Sign.f (N : Nat) (a1 : Bool) (a2 : List Int) : Option (Int) :=
  (parquetref01_Bits.f N a2).bind fun r3 =>
  bif r3 == 0 then
    some 0
  else
  bif a1 then
    some (-1)
  else
  some 1
noncomputable def parquetref02_Sign.body : Code := (Try.f67.body).getD .skip
noncomputable def parquetref02_Sign.ty : List (Nat × TI) := [(4, ty4), (80, ty80), (82, ty82)]
noncomputable def parquetref02_Sign.E (N : Nat) : Env := { ty := lookN parquetref02_Sign.ty, tab := lookN [(78, parquetref01_Bits.ent N)], hint := lookN [], cut := lookN [], N := N, res := [.tmp 2], rsh := [.any], nb := 0, ntmps := 9, own := false }
noncomputable def parquetref02_Sign.dec (v : V) (bs : List Blk) : Option (Int) := match v, bs with
  | .c (.int .i64 z0), [] => some z0
  | _, _ => none
set_option maxRecDepth 100000 in
theorem parquetref02_Sign.f_eq (N : Nat) (a1 : Bool) (a2 : List Int) :
    evFun (parquetref02_Sign.E N) parquetref02_Sign.body [.agg [.c (.bool a1), .il .u32 1 a2]] [] parquetref02_Sign.dec = parquetref02_Sign.f N a1 a2 := by kernel_rfl
noncomputable def parquetref02_Sign.ent (N : Nat) : Entry := { A := Int, fresh := 0, imm := [true], dec := fun args bs => match freezeL 0 (fun _ => .dead) [.recd [.any, .il .u32 1]] args, bs with
  | some [.agg [.c (.bool a1), .il .u32 1 a2]], [] => some (parquetref02_Sign.f N a1 a2, fun r => .one (.c (.int .i64 r)) [])
  | _, _ => none }
theorem parquetref02_Sign.env (N : Nat) : EnvOK Try.prog (parquetref02_Sign.E N) := ⟨(TyOK.cons ty4_ok (TyOK.cons ty80_ok (TyOK.cons ty82_ok TyOK.nil))), (TabOK.cons (parquetref01_Bits.ent_ok N) TabOK.nil)⟩
theorem parquetref02_Sign.res_eq (N : Nat) : (parquetref02_Sign.E N).res = Try.f67.results.toList := by kernel_rfl
theorem parquetref02_Sign.spec (N : Nat) (a1 : Bool) (a2 : List Int) (r : Int) (h : parquetref02_Sign.f N a1 a2 = some r) : FnSpec Try.prog 67 [.agg [.c (.bool a1), .il .u32 1 a2]] [] (.c (.int .i64 r)) ([]) := by
  rw [← parquetref02_Sign.f_eq] at h
  obtain ⟨v, bs', h1, h2⟩ := evFun_ok (parquetref02_Sign.env N) Try_mixed Try.func67 (by kernel_rfl : Try.f67.body = some parquetref02_Sign.body) (by kernel_rfl) (parquetref02_Sign.res_eq N) (by kernel_rfl) (by kernel_rfl) (Nat.le_of_ble_eq_true (by kernel_rfl)) (AllCut.of (l := []) (by kernel_rfl) AllCut.nil) h
  unfold parquetref02_Sign.dec at h1; split at h1
  · cases h1; exact h2
  · cases h1
theorem parquetref02_Sign.ent_ok (N : Nat) : TabOK1 Try.prog 67 (parquetref02_Sign.ent N) := by
  intro args bs a enc h
  simp only [parquetref02_Sign.ent] at h
  split at h
  · rename_i hz; have h0 := Option.some.inj h; have h1 := congrArg Prod.fst h0; have h2 := congrArg Prod.snd h0; dsimp only at h1 h2; subst h2; exact FnSpec.of_freeze hz (parquetref02_Sign.spec N _ _ a h1)
  · cases h
/-! parquet/parquetref02.Int64: function 50 -/
noncomputable def parquetref02_Int64.f (N : Nat) (a1 : Bool) (a2 : List Int) : Option (Int × Bool) :=
  (parquetref01_Small.f N a2).bind fun r3 =>
  bif !r3.2 then
    some (0, false)
  else
  bif decide (r3.1 > 9223372036854775808) then
    some (0, false)
  else
  bif r3.1 == 9223372036854775808 then
    bif !a1 then
      some (0, false)
    else
    (parquetref02_Sign.f N a1 a2).bind fun r4 =>
    bif decide (r4 < 0) then
      some (wi64 (wu64 (0 - r3.1)), true)
    else
    some (wi64 r3.1, true)
  else
  (parquetref02_Sign.f N a1 a2).bind fun r5 =>
  bif decide (r5 < 0) then
    some (wi64 (wu64 (0 - r3.1)), true)
  else
  some (wi64 r3.1, true)
noncomputable def parquetref02_Int64.body : Code := (Try.f50.body).getD .skip
noncomputable def parquetref02_Int64.ty : List (Nat × TI) := [(2, ty2), (4, ty4), (80, ty80), (82, ty82), (92, ty92)]
noncomputable def parquetref02_Int64.E (N : Nat) : Env := { ty := lookN parquetref02_Int64.ty, tab := lookN [(66, parquetref01_Small.ent N), (67, parquetref02_Sign.ent N)], hint := lookN [], cut := lookN [], N := N, res := [.tmp 2, .tmp 3], rsh := [.any, .any], nb := 0, ntmps := 35, own := false }
noncomputable def parquetref02_Int64.dec (v : V) (bs : List Blk) : Option (Int × Bool) := match v, bs with
  | .tup [.c (.int .i64 z0), .c (.bool z1)], [] => some (z0, z1)
  | _, _ => none
set_option maxRecDepth 100000 in
theorem parquetref02_Int64.f_eq (N : Nat) (a1 : Bool) (a2 : List Int) :
    evFun (parquetref02_Int64.E N) parquetref02_Int64.body [.agg [.c (.bool a1), .il .u32 1 a2]] [] parquetref02_Int64.dec = parquetref02_Int64.f N a1 a2 := by kernel_rfl
noncomputable def parquetref02_Int64.ent (N : Nat) : Entry := { A := Int × Bool, fresh := 0, imm := [true], dec := fun args bs => match freezeL 0 (fun _ => .dead) [.recd [.any, .il .u32 1]] args, bs with
  | some [.agg [.c (.bool a1), .il .u32 1 a2]], [] => some (parquetref02_Int64.f N a1 a2, fun r => .one (.tup [.c (.int .i64 r.1), .c (.bool r.2)]) [])
  | _, _ => none }
theorem parquetref02_Int64.env (N : Nat) : EnvOK Try.prog (parquetref02_Int64.E N) := ⟨(TyOK.cons ty2_ok (TyOK.cons ty4_ok (TyOK.cons ty80_ok (TyOK.cons ty82_ok (TyOK.cons ty92_ok TyOK.nil))))), (TabOK.cons (parquetref01_Small.ent_ok N) (TabOK.cons (parquetref02_Sign.ent_ok N) TabOK.nil))⟩
theorem parquetref02_Int64.res_eq (N : Nat) : (parquetref02_Int64.E N).res = Try.f50.results.toList := by kernel_rfl
theorem parquetref02_Int64.spec (N : Nat) (a1 : Bool) (a2 : List Int) (r : Int × Bool) (h : parquetref02_Int64.f N a1 a2 = some r) : FnSpec Try.prog 50 [.agg [.c (.bool a1), .il .u32 1 a2]] [] (.tup [.c (.int .i64 r.1), .c (.bool r.2)]) ([]) := by
  rw [← parquetref02_Int64.f_eq] at h
  obtain ⟨v, bs', h1, h2⟩ := evFun_ok (parquetref02_Int64.env N) Try_mixed Try.func50 (by kernel_rfl : Try.f50.body = some parquetref02_Int64.body) (by kernel_rfl) (parquetref02_Int64.res_eq N) (by kernel_rfl) (by kernel_rfl) (Nat.le_of_ble_eq_true (by kernel_rfl)) (AllCut.of (l := []) (by kernel_rfl) AllCut.nil) h
  unfold parquetref02_Int64.dec at h1; split at h1
  · cases h1; exact h2
  · cases h1
theorem parquetref02_Int64.ent_ok (N : Nat) : TabOK1 Try.prog 50 (parquetref02_Int64.ent N) := by
  intro args bs a enc h
  simp only [parquetref02_Int64.ent] at h
  split at h
  · rename_i hz; have h0 := Option.some.inj h; have h1 := congrArg Prod.fst h0; have h2 := congrArg Prod.snd h0; dsimp only at h1 h2; subst h2; exact FnSpec.of_freeze hz (parquetref02_Int64.spec N _ _ a h1)
  · cases h
/-! parquet/parquetref02.Add: function 49 -/
noncomputable def parquetref02_Add.f (N : Nat) (a1 : Bool) (a2 : List Int) (a3 : Bool) (a4 : List Int) : Option (Bool × List Int) :=
  bif a1 == a3 then
    (parquetref01_Add.f N a2 a4).bind fun r5 =>
    (parquetref02_Make.f N a1 r5).bind fun r6 =>
    some (r6.1, r6.2)
  else
  (parquetref01_Cmp.f N a2 a4).bind fun r7 =>
  bif decide (r7 ≥ 0) then
    (parquetref01_Sub.f N a2 a4).bind fun r8 =>
    (parquetref02_Make.f N a1 r8).bind fun r9 =>
    some (r9.1, r9.2)
  else
  (parquetref01_Sub.f N a4 a2).bind fun r10 =>
  (parquetref02_Make.f N a3 r10).bind fun r11 =>
  some (r11.1, r11.2)
noncomputable def parquetref02_Add.body : Code := (Try.f49.body).getD .skip
noncomputable def parquetref02_Add.ty : List (Nat × TI) := [(4, ty4), (80, ty80), (82, ty82)]
noncomputable def parquetref02_Add.E (N : Nat) : Env := { ty := lookN parquetref02_Add.ty, tab := lookN [(63, parquetref01_Add.ent N), (60, parquetref02_Make.ent N), (64, parquetref01_Cmp.ent N), (65, parquetref01_Sub.ent N)], hint := lookN [], cut := lookN [], N := N, res := [.cell 4 82], rsh := [.recd [.any, .il .u32 1]], nb := 0, ntmps := 40, own := false }
noncomputable def parquetref02_Add.dec (v : V) (bs : List Blk) : Option (Bool × List Int) := match v, bs with
  | .agg [.c (.bool z0), .il .u32 1 z1], [] => some (z0, z1)
  | _, _ => none
set_option maxRecDepth 100000 in
theorem parquetref02_Add.f_eq (N : Nat) (a1 : Bool) (a2 : List Int) (a3 : Bool) (a4 : List Int) :
    evFun (parquetref02_Add.E N) parquetref02_Add.body [.agg [.c (.bool a1), .il .u32 1 a2], .agg [.c (.bool a3), .il .u32 1 a4]] [] parquetref02_Add.dec = parquetref02_Add.f N a1 a2 a3 a4 := by kernel_rfl
noncomputable def parquetref02_Add.ent (N : Nat) : Entry := { A := Bool × List Int, fresh := 0, imm := [true, true], dec := fun args bs => match freezeL 0 (fun _ => .dead) [.recd [.any, .il .u32 1], .recd [.any, .il .u32 1]] args, bs with
  | some [.agg [.c (.bool a1), .il .u32 1 a2], .agg [.c (.bool a3), .il .u32 1 a4]], [] => some (parquetref02_Add.f N a1 a2 a3 a4, fun r => .one (.agg [.c (.bool r.1), .il .u32 1 r.2]) [])
  | _, _ => none }
theorem parquetref02_Add.env (N : Nat) : EnvOK Try.prog (parquetref02_Add.E N) := ⟨(TyOK.cons ty4_ok (TyOK.cons ty80_ok (TyOK.cons ty82_ok TyOK.nil))), (TabOK.cons (parquetref01_Add.ent_ok N) (TabOK.cons (parquetref02_Make.ent_ok N) (TabOK.cons (parquetref01_Cmp.ent_ok N) (TabOK.cons (parquetref01_Sub.ent_ok N) TabOK.nil))))⟩
theorem parquetref02_Add.res_eq (N : Nat) : (parquetref02_Add.E N).res = Try.f49.results.toList := by kernel_rfl
theorem parquetref02_Add.spec (N : Nat) (a1 : Bool) (a2 : List Int) (a3 : Bool) (a4 : List Int) (r : Bool × List Int) (h : parquetref02_Add.f N a1 a2 a3 a4 = some r) : FnSpec Try.prog 49 [.agg [.c (.bool a1), .il .u32 1 a2], .agg [.c (.bool a3), .il .u32 1 a4]] [] (.agg [.c (.bool r.1), .il .u32 1 r.2]) ([]) := by
  rw [← parquetref02_Add.f_eq] at h
  obtain ⟨v, bs', h1, h2⟩ := evFun_ok (parquetref02_Add.env N) Try_mixed Try.func49 (by kernel_rfl : Try.f49.body = some parquetref02_Add.body) (by kernel_rfl) (parquetref02_Add.res_eq N) (by kernel_rfl) (by kernel_rfl) (Nat.le_of_ble_eq_true (by kernel_rfl)) (AllCut.of (l := []) (by kernel_rfl) AllCut.nil) h
  unfold parquetref02_Add.dec at h1; split at h1
  · cases h1; exact h2
  · cases h1
theorem parquetref02_Add.ent_ok (N : Nat) : TabOK1 Try.prog 49 (parquetref02_Add.ent N) := by
  intro args bs a enc h
  simp only [parquetref02_Add.ent] at h
  split at h
  · rename_i hz; have h0 := Option.some.inj h; have h1 := congrArg Prod.fst h0; have h2 := congrArg Prod.snd h0; dsimp only at h1 h2; subst h2; exact FnSpec.of_freeze hz (parquetref02_Add.spec N _ _ _ _ a h1)
  · cases h
/-! parquet/parquetref02.Mul: function 47 -/
noncomputable def parquetref02_Mul.f (N : Nat) (a1 : Bool) (a2 : List Int) (a3 : Bool) (a4 : List Int) : Option (Bool × List Int) :=
  (parquetref01_Mul.f N a2 a4).bind fun r5 =>
  (parquetref02_Make.f N (!(a1 == a3)) r5).bind fun r6 =>
  some (r6.1, r6.2)
noncomputable def parquetref02_Mul.body : Code := (Try.f47.body).getD .skip
noncomputable def parquetref02_Mul.ty : List (Nat × TI) := [(4, ty4), (80, ty80), (82, ty82)]
noncomputable def parquetref02_Mul.E (N : Nat) : Env := { ty := lookN parquetref02_Mul.ty, tab := lookN [(61, parquetref01_Mul.ent N), (60, parquetref02_Make.ent N)], hint := lookN [], cut := lookN [], N := N, res := [.cell 4 82], rsh := [.recd [.any, .il .u32 1]], nb := 0, ntmps := 16, own := false }
noncomputable def parquetref02_Mul.dec (v : V) (bs : List Blk) : Option (Bool × List Int) := match v, bs with
  | .agg [.c (.bool z0), .il .u32 1 z1], [] => some (z0, z1)
  | _, _ => none
set_option maxRecDepth 100000 in
theorem parquetref02_Mul.f_eq (N : Nat) (a1 : Bool) (a2 : List Int) (a3 : Bool) (a4 : List Int) :
    evFun (parquetref02_Mul.E N) parquetref02_Mul.body [.agg [.c (.bool a1), .il .u32 1 a2], .agg [.c (.bool a3), .il .u32 1 a4]] [] parquetref02_Mul.dec = parquetref02_Mul.f N a1 a2 a3 a4 := by kernel_rfl
noncomputable def parquetref02_Mul.ent (N : Nat) : Entry := { A := Bool × List Int, fresh := 0, imm := [true, true], dec := fun args bs => match freezeL 0 (fun _ => .dead) [.recd [.any, .il .u32 1], .recd [.any, .il .u32 1]] args, bs with
  | some [.agg [.c (.bool a1), .il .u32 1 a2], .agg [.c (.bool a3), .il .u32 1 a4]], [] => some (parquetref02_Mul.f N a1 a2 a3 a4, fun r => .one (.agg [.c (.bool r.1), .il .u32 1 r.2]) [])
  | _, _ => none }
theorem parquetref02_Mul.env (N : Nat) : EnvOK Try.prog (parquetref02_Mul.E N) := ⟨(TyOK.cons ty4_ok (TyOK.cons ty80_ok (TyOK.cons ty82_ok TyOK.nil))), (TabOK.cons (parquetref01_Mul.ent_ok N) (TabOK.cons (parquetref02_Make.ent_ok N) TabOK.nil))⟩
theorem parquetref02_Mul.res_eq (N : Nat) : (parquetref02_Mul.E N).res = Try.f47.results.toList := by kernel_rfl
theorem parquetref02_Mul.spec (N : Nat) (a1 : Bool) (a2 : List Int) (a3 : Bool) (a4 : List Int) (r : Bool × List Int) (h : parquetref02_Mul.f N a1 a2 a3 a4 = some r) : FnSpec Try.prog 47 [.agg [.c (.bool a1), .il .u32 1 a2], .agg [.c (.bool a3), .il .u32 1 a4]] [] (.agg [.c (.bool r.1), .il .u32 1 r.2]) ([]) := by
  rw [← parquetref02_Mul.f_eq] at h
  obtain ⟨v, bs', h1, h2⟩ := evFun_ok (parquetref02_Mul.env N) Try_mixed Try.func47 (by kernel_rfl : Try.f47.body = some parquetref02_Mul.body) (by kernel_rfl) (parquetref02_Mul.res_eq N) (by kernel_rfl) (by kernel_rfl) (Nat.le_of_ble_eq_true (by kernel_rfl)) (AllCut.of (l := []) (by kernel_rfl) AllCut.nil) h
  unfold parquetref02_Mul.dec at h1; split at h1
  · cases h1; exact h2
  · cases h1
theorem parquetref02_Mul.ent_ok (N : Nat) : TabOK1 Try.prog 47 (parquetref02_Mul.ent N) := by
  intro args bs a enc h
  simp only [parquetref02_Mul.ent] at h
  split at h
  · rename_i hz; have h0 := Option.some.inj h; have h1 := congrArg Prod.fst h0; have h2 := congrArg Prod.snd h0; dsimp only at h1 h2; subst h2; exact FnSpec.of_freeze hz (parquetref02_Mul.spec N _ _ _ _ a h1)
  · cases h
/-! parquet/parquetref08.small: function 46 -/
noncomputable def parquetref08_small.f (N : Nat) (a1 : Int) : Option (Bool) :=
  bif decide (a1 ≥ (-1073741824)) then
    some (decide (a1 ≤ 1073741824))
  else
  some false
noncomputable def parquetref08_small.body : Code := (Try.f46.body).getD .skip
noncomputable def parquetref08_small.ty : List (Nat × TI) := []
noncomputable def parquetref08_small.E (N : Nat) : Env := { ty := lookN parquetref08_small.ty, tab := lookN [], hint := lookN [], cut := lookN [], N := N, res := [.tmp 2], rsh := [.any], nb := 0, ntmps := 9, own := false }
noncomputable def parquetref08_small.dec (v : V) (bs : List Blk) : Option (Bool) := match v, bs with
  | .c (.bool z0), [] => some z0
  | _, _ => none
set_option maxRecDepth 100000 in
theorem parquetref08_small.f_eq (N : Nat) (a1 : Int) :
    evFun (parquetref08_small.E N) parquetref08_small.body [.c (.int .i64 a1)] [] parquetref08_small.dec = parquetref08_small.f N a1 := by kernel_rfl
noncomputable def parquetref08_small.ent (N : Nat) : Entry := { A := Bool, fresh := 0, imm := [true], dec := fun args bs => match freezeL 0 (fun _ => .dead) [.any] args, bs with
  | some [.c (.int .i64 a1)], [] => some (parquetref08_small.f N a1, fun r => .one (.c (.bool r)) [])
  | _, _ => none }
theorem parquetref08_small.env (N : Nat) : EnvOK Try.prog (parquetref08_small.E N) := ⟨TyOK.nil, TabOK.nil⟩
theorem parquetref08_small.res_eq (N : Nat) : (parquetref08_small.E N).res = Try.f46.results.toList := by kernel_rfl
theorem parquetref08_small.spec (N : Nat) (a1 : Int) (r : Bool) (h : parquetref08_small.f N a1 = some r) : FnSpec Try.prog 46 [.c (.int .i64 a1)] [] (.c (.bool r)) ([]) := by
  rw [← parquetref08_small.f_eq] at h
  obtain ⟨v, bs', h1, h2⟩ := evFun_ok (parquetref08_small.env N) Try_mixed Try.func46 (by kernel_rfl : Try.f46.body = some parquetref08_small.body) (by kernel_rfl) (parquetref08_small.res_eq N) (by kernel_rfl) (by kernel_rfl) (Nat.le_of_ble_eq_true (by kernel_rfl)) (AllCut.of (l := []) (by kernel_rfl) AllCut.nil) h
  unfold parquetref08_small.dec at h1; split at h1
  · cases h1; exact h2
  · cases h1
theorem parquetref08_small.ent_ok (N : Nat) : TabOK1 Try.prog 46 (parquetref08_small.ent N) := by
  intro args bs a enc h
  simp only [parquetref08_small.ent] at h
  split at h
  · rename_i hz; have h0 := Option.some.inj h; have h1 := congrArg Prod.fst h0; have h2 := congrArg Prod.snd h0; dsimp only at h1 h2; subst h2; exact FnSpec.of_freeze hz (parquetref08_small.spec N _ a h1)
  · cases h
/-! parquet/parquetref08.In: function 35 -/
noncomputable def parquetref08_In.f (N : Nat) (a1 : Int) (a2 : Int) (a3 : Int) : Option (Bool) :=
  (parquetref08_small.f N a1).bind fun r4 =>
  bif r4 then
    (parquetref08_small.f N a2).bind fun r5 =>
    bif r5 then
      (parquetref08_small.f N a3).bind fun r6 =>
      some r6
    else
    some false
  else
  some false
noncomputable def parquetref08_In.body : Code := (Try.f35.body).getD .skip
noncomputable def parquetref08_In.ty : List (Nat × TI) := [(2, ty2), (23, ty23)]
noncomputable def parquetref08_In.E (N : Nat) : Env := { ty := lookN parquetref08_In.ty, tab := lookN [(46, parquetref08_small.ent N)], hint := lookN [], cut := lookN [], N := N, res := [.tmp 2], rsh := [.any], nb := 0, ntmps := 16, own := false }
noncomputable def parquetref08_In.dec (v : V) (bs : List Blk) : Option (Bool) := match v, bs with
  | .c (.bool z0), [] => some z0
  | _, _ => none
set_option maxRecDepth 100000 in
theorem parquetref08_In.f_eq (N : Nat) (a1 : Int) (a2 : Int) (a3 : Int) :
    evFun (parquetref08_In.E N) parquetref08_In.body [.agg [.c (.int .i64 a1), .c (.int .i64 a2), .c (.int .i64 a3)]] [] parquetref08_In.dec = parquetref08_In.f N a1 a2 a3 := by kernel_rfl
noncomputable def parquetref08_In.ent (N : Nat) : Entry := { A := Bool, fresh := 0, imm := [true], dec := fun args bs => match freezeL 0 (fun _ => .dead) [.recd [.any, .any, .any]] args, bs with
  | some [.agg [.c (.int .i64 a1), .c (.int .i64 a2), .c (.int .i64 a3)]], [] => some (parquetref08_In.f N a1 a2 a3, fun r => .one (.c (.bool r)) [])
  | _, _ => none }
theorem parquetref08_In.env (N : Nat) : EnvOK Try.prog (parquetref08_In.E N) := ⟨(TyOK.cons ty2_ok (TyOK.cons ty23_ok TyOK.nil)), (TabOK.cons (parquetref08_small.ent_ok N) TabOK.nil)⟩
theorem parquetref08_In.res_eq (N : Nat) : (parquetref08_In.E N).res = Try.f35.results.toList := by kernel_rfl
theorem parquetref08_In.spec (N : Nat) (a1 : Int) (a2 : Int) (a3 : Int) (r : Bool) (h : parquetref08_In.f N a1 a2 a3 = some r) : FnSpec Try.prog 35 [.agg [.c (.int .i64 a1), .c (.int .i64 a2), .c (.int .i64 a3)]] [] (.c (.bool r)) ([]) := by
  rw [← parquetref08_In.f_eq] at h
  obtain ⟨v, bs', h1, h2⟩ := evFun_ok (parquetref08_In.env N) Try_mixed Try.func35 (by kernel_rfl : Try.f35.body = some parquetref08_In.body) (by kernel_rfl) (parquetref08_In.res_eq N) (by kernel_rfl) (by kernel_rfl) (Nat.le_of_ble_eq_true (by kernel_rfl)) (AllCut.of (l := []) (by kernel_rfl) AllCut.nil) h
  unfold parquetref08_In.dec at h1; split at h1
  · cases h1; exact h2
  · cases h1
theorem parquetref08_In.ent_ok (N : Nat) : TabOK1 Try.prog 35 (parquetref08_In.ent N) := by
  intro args bs a enc h
  simp only [parquetref08_In.ent] at h
  split at h
  · rename_i hz; have h0 := Option.some.inj h; have h1 := congrArg Prod.fst h0; have h2 := congrArg Prod.snd h0; dsimp only at h1 h2; subst h2; exact FnSpec.of_freeze hz (parquetref08_In.spec N _ _ _ a h1)
  · cases h
/-! parquet/parquetref08.sum: function 36 -/
noncomputable def parquetref08_sum.l3 {R : Type} (N : Nat) : Nat → List Int → Int → Bool → List Int → (Bool → List Int → Option R) → Option R
  | 0, _, _, _, _, _ => none
  | n + 1, x2, x3, x4, x5, k0 =>
    bif decide (x3 < (x2.length / 3 : Int)) then
      bif (decide (0 ≤ x3)) && (decide (x3 < (x2.length / 3 : Int))) then
        (parquetref02_Of.f N (x2.getD (x3.toNat * 3) 0)).bind fun r6 =>
        bif (decide (0 ≤ x3)) && (decide (x3 < (x2.length / 3 : Int))) then
          (parquetref02_Of.f N (x2.getD ((x3.toNat * 3) + 1) 0)).bind fun r7 =>
          bif (decide (0 ≤ x3)) && (decide (x3 < (x2.length / 3 : Int))) then
            (parquetref02_Of.f N (x2.getD ((x3.toNat * 3) + 2) 0)).bind fun r8 =>
            (parquetref02_Mul.f N r7.1 r7.2 r8.1 r8.2).bind fun r9 =>
            (parquetref02_Mul.f N r6.1 r6.2 r9.1 r9.2).bind fun r10 =>
            (parquetref02_Add.f N x4 x5 r10.1 r10.2).bind fun r11 =>
            parquetref08_sum.l3 N n x2 (wi64 (x3 + 1)) r11.1 r11.2 k0
          else none
        else none
      else none
    else
    k0 x4 x5
noncomputable def parquetref08_sum.f (N : Nat) (a1 : List Int) : Option (Int × Bool) :=
  parquetref08_sum.l3 N N a1 0 false []
    (fun y14 y15 =>
      (parquetref02_Int64.f N y14 y15).bind fun r16 =>
      bif r16.2 then
        (parquetref08_small.f N r16.1).bind fun r17 =>
        some (r16.1, r17)
      else
      some (r16.1, false))
noncomputable def parquetref08_sum.body : Code := (Try.f36.body).getD .skip
noncomputable def parquetref08_sum.ty : List (Nat × TI) := [(2, ty2), (4, ty4), (62, ty62), (63, ty63), (80, ty80), (82, ty82)]
noncomputable def parquetref08_sum.h3 : Hint := ⟨[(0, .il .i64 3), (4, .box [.any, .il .u32 1]), (5, .any)], [(4, .box [.any, .il .u32 1])]⟩
noncomputable def parquetref08_sum.c3 (N : Nat) : Cut := ⟨fun vs H k => match vs, H with
  | [.il .i64 3 x2, .ptr 0 0 2, .c (.int .i64 x3)], [.vals [.c (.bool x4), .il .u32 1 x5]] => parquetref08_sum.l3 N N x2 x3 x4 x5 (fun x12 x13 => k (.exit 0) ⟨mkT parquetref08_sum.h3.out [.ptr 0 0 2], [.vals [.c (.bool x12), .il .u32 1 x13]]⟩)
  | _, _ => none⟩
noncomputable def parquetref08_sum.E (N : Nat) : Env := { ty := lookN parquetref08_sum.ty, tab := lookN [(48, parquetref02_Of.ent N), (47, parquetref02_Mul.ent N), (49, parquetref02_Add.ent N), (50, parquetref02_Int64.ent N), (46, parquetref08_small.ent N)], hint := lookN [(3, parquetref08_sum.h3)], cut := lookN [(3, parquetref08_sum.c3 N)], N := N, res := [.tmp 2, .tmp 3], rsh := [.any, .any], nb := 0, ntmps := 50, own := false }
noncomputable def parquetref08_sum.b3 : Code := inner ((subLoops parquetref08_sum.body).getD 0 .skip)
set_option maxRecDepth 100000 in
theorem parquetref08_sum.l3_eq {R : Type} (N n : Nat) (x2 : List Int) (x3 : Int) (x4 : Bool) (x5 : List Int) (k : Ex → St → Option R) :
    evLoop 0 parquetref08_sum.h3 (fun s k => evCode (parquetref08_sum.E N) 394 parquetref08_sum.b3 s k) n [.il .i64 3 x2, .ptr 0 0 2, .c (.int .i64 x3)] [.vals [.c (.bool x4), .il .u32 1 x5]] k = parquetref08_sum.l3 N n x2 x3 x4 x5 (fun x12 x13 => k (.exit 0) ⟨mkT parquetref08_sum.h3.out [.ptr 0 0 2], [.vals [.c (.bool x12), .il .u32 1 x13]]⟩) := by
  induction n generalizing x2 x3 x4 x5 with
  | zero => kernel_rfl
  | succ n ih =>
    simp only [parquetref08_sum.l3, ← ih]
    kernel_rfl
noncomputable def parquetref08_sum.dec (v : V) (bs : List Blk) : Option (Int × Bool) := match v, bs with
  | .tup [.c (.int .i64 z0), .c (.bool z1)], [] => some (z0, z1)
  | _, _ => none
set_option maxRecDepth 100000 in
theorem parquetref08_sum.f_eq (N : Nat) (a1 : List Int) :
    evFun (parquetref08_sum.E N) parquetref08_sum.body [.il .i64 3 a1] [] parquetref08_sum.dec = parquetref08_sum.f N a1 := by kernel_rfl
noncomputable def parquetref08_sum.ent (N : Nat) : Entry := { A := Int × Bool, fresh := 0, imm := [true], dec := fun args bs => match freezeL 0 (fun _ => .dead) [.il .i64 3] args, bs with
  | some [.il .i64 3 a1], [] => some (parquetref08_sum.f N a1, fun r => .one (.tup [.c (.int .i64 r.1), .c (.bool r.2)]) [])
  | _, _ => none }
theorem parquetref08_sum.env (N : Nat) : EnvOK Try.prog (parquetref08_sum.E N) := ⟨(TyOK.cons ty2_ok (TyOK.cons ty4_ok (TyOK.cons ty62_ok (TyOK.cons ty63_ok (TyOK.cons ty80_ok (TyOK.cons ty82_ok TyOK.nil)))))), (TabOK.cons (parquetref02_Of.ent_ok N) (TabOK.cons (parquetref02_Mul.ent_ok N) (TabOK.cons (parquetref02_Add.ent_ok N) (TabOK.cons (parquetref02_Int64.ent_ok N) (TabOK.cons (parquetref08_small.ent_ok N) TabOK.nil)))))⟩
theorem parquetref08_sum.res_eq (N : Nat) : (parquetref08_sum.E N).res = Try.f36.results.toList := by kernel_rfl
theorem parquetref08_sum.k3 (N : Nat) : CutOK Try.prog Try.f36 (parquetref08_sum.E N) (.loop parquetref08_sum.b3) := by
  intro e hd he hh R vs H k r h
  have e1 : (parquetref08_sum.E N).cut (loopKey parquetref08_sum.b3) = some (parquetref08_sum.c3 N) := by kernel_rfl
  have e2 : (parquetref08_sum.E N).hint (loopKey parquetref08_sum.b3) = some parquetref08_sum.h3 := by kernel_rfl
  rw [e1] at he; rw [e2] at hh; cases he; cases hh
  unfold parquetref08_sum.c3 at h; dsimp only at h
  split at h
  · rw [← parquetref08_sum.l3_eq] at h
    exact loop_ok (evCode_ok (parquetref08_sum.env N) Try_mixed (parquetref08_sum.res_eq N) 394 parquetref08_sum.b3 (AllCut.of (l := []) (by kernel_rfl) AllCut.nil)) h
  · cases h
theorem parquetref08_sum.spec (N : Nat) (a1 : List Int) (r : Int × Bool) (h : parquetref08_sum.f N a1 = some r) : FnSpec Try.prog 36 [.il .i64 3 a1] [] (.tup [.c (.int .i64 r.1), .c (.bool r.2)]) ([]) := by
  rw [← parquetref08_sum.f_eq] at h
  obtain ⟨v, bs', h1, h2⟩ := evFun_ok (parquetref08_sum.env N) Try_mixed Try.func36 (by kernel_rfl : Try.f36.body = some parquetref08_sum.body) (by kernel_rfl) (parquetref08_sum.res_eq N) (by kernel_rfl) (by kernel_rfl) (Nat.le_of_ble_eq_true (by kernel_rfl)) (AllCut.of (l := [(.loop (inner ((subLoops parquetref08_sum.body).getD 0 .skip)))]) (by kernel_rfl) (AllCut.cons (parquetref08_sum.k3 N) AllCut.nil)) h
  unfold parquetref08_sum.dec at h1; split at h1
  · cases h1; exact h2
  · cases h1
theorem parquetref08_sum.ent_ok (N : Nat) : TabOK1 Try.prog 36 (parquetref08_sum.ent N) := by
  intro args bs a enc h
  simp only [parquetref08_sum.ent] at h
  split at h
  · rename_i hz; have h0 := Option.some.inj h; have h1 := congrArg Prod.fst h0; have h2 := congrArg Prod.snd h0; dsimp only at h1 h2; subst h2; exact FnSpec.of_freeze hz (parquetref08_sum.spec N _ a h1)
  · cases h
/-! parquet/parquetref08.Act: function 17 -/
noncomputable def parquetref08_Act.f (N : Nat) (a1 : Int) (a2 : Int) (a3 : Int) (a4 : Int) (a5 : Int) (a6 : Int) (a7 : Int) : Option (Int × Int × Int × Int) :=
  (parquetref08_In.f N a1 a2 a3).bind fun r8 =>
  bif !r8 then
    some (0, 0, 0, 3)
  else
  (parquetref08_sum.f N [a1, a4, a4, a2, a4, a6, a3, a6, a6]).bind fun r9 =>
  (parquetref08_sum.f N [wi64 (2 * a1), a4, a5, a2, a4, a7, a2, a5, a6, wi64 (2 * a3), a6, a7]).bind fun r10 =>
  (parquetref08_sum.f N [a1, a5, a5, a2, a5, a7, a3, a7, a7]).bind fun r11 =>
  bif !r9.2 then
    some (0, 0, 0, 3)
  else
  bif !r10.2 then
    some (0, 0, 0, 3)
  else
  bif !r11.2 then
    some (0, 0, 0, 3)
  else
  some (r9.1, r10.1, r11.1, 0)
noncomputable def parquetref08_Act.body : Code := (Try.f17.body).getD .skip
noncomputable def parquetref08_Act.ty : List (Nat × TI) := [(2, ty2), (23, ty23), (33, ty33), (62, ty62), (63, ty63)]
noncomputable def parquetref08_Act.E (N : Nat) : Env := { ty := lookN parquetref08_Act.ty, tab := lookN [(35, parquetref08_In.ent N), (36, parquetref08_sum.ent N)], hint := lookN [], cut := lookN [], N := N, res := [.cell 4 23, .tmp 5], rsh := [.recd [.any, .any, .any], .any], nb := 0, ntmps := 118, own := false }
noncomputable def parquetref08_Act.dec (v : V) (bs : List Blk) : Option (Int × Int × Int × Int) := match v, bs with
  | .tup [.agg [.c (.int .i64 z0), .c (.int .i64 z1), .c (.int .i64 z2)], .c (.int .i64 z3)], [] => some (z0, z1, z2, z3)
  | _, _ => none
set_option maxRecDepth 100000 in
theorem parquetref08_Act.f_eq (N : Nat) (a1 : Int) (a2 : Int) (a3 : Int) (a4 : Int) (a5 : Int) (a6 : Int) (a7 : Int) :
    evFun (parquetref08_Act.E N) parquetref08_Act.body [.agg [.c (.int .i64 a1), .c (.int .i64 a2), .c (.int .i64 a3)], .agg [.c (.int .i64 a4), .c (.int .i64 a5), .c (.int .i64 a6), .c (.int .i64 a7)]] [] parquetref08_Act.dec = parquetref08_Act.f N a1 a2 a3 a4 a5 a6 a7 := by kernel_rfl
noncomputable def parquetref08_Act.ent (N : Nat) : Entry := { A := Int × Int × Int × Int, fresh := 0, imm := [true, true], dec := fun args bs => match freezeL 0 (fun _ => .dead) [.recd [.any, .any, .any], .recd [.any, .any, .any, .any]] args, bs with
  | some [.agg [.c (.int .i64 a1), .c (.int .i64 a2), .c (.int .i64 a3)], .agg [.c (.int .i64 a4), .c (.int .i64 a5), .c (.int .i64 a6), .c (.int .i64 a7)]], [] => some (parquetref08_Act.f N a1 a2 a3 a4 a5 a6 a7, fun r => .one (.tup [.agg [.c (.int .i64 r.1), .c (.int .i64 r.2.1), .c (.int .i64 r.2.2.1)], .c (.int .i64 r.2.2.2)]) [])
  | _, _ => none }
theorem parquetref08_Act.env (N : Nat) : EnvOK Try.prog (parquetref08_Act.E N) := ⟨(TyOK.cons ty2_ok (TyOK.cons ty23_ok (TyOK.cons ty33_ok (TyOK.cons ty62_ok (TyOK.cons ty63_ok TyOK.nil))))), (TabOK.cons (parquetref08_In.ent_ok N) (TabOK.cons (parquetref08_sum.ent_ok N) TabOK.nil))⟩
theorem parquetref08_Act.res_eq (N : Nat) : (parquetref08_Act.E N).res = Try.f17.results.toList := by kernel_rfl
theorem parquetref08_Act.spec (N : Nat) (a1 : Int) (a2 : Int) (a3 : Int) (a4 : Int) (a5 : Int) (a6 : Int) (a7 : Int) (r : Int × Int × Int × Int) (h : parquetref08_Act.f N a1 a2 a3 a4 a5 a6 a7 = some r) : FnSpec Try.prog 17 [.agg [.c (.int .i64 a1), .c (.int .i64 a2), .c (.int .i64 a3)], .agg [.c (.int .i64 a4), .c (.int .i64 a5), .c (.int .i64 a6), .c (.int .i64 a7)]] [] (.tup [.agg [.c (.int .i64 r.1), .c (.int .i64 r.2.1), .c (.int .i64 r.2.2.1)], .c (.int .i64 r.2.2.2)]) ([]) := by
  rw [← parquetref08_Act.f_eq] at h
  obtain ⟨v, bs', h1, h2⟩ := evFun_ok (parquetref08_Act.env N) Try_mixed Try.func17 (by kernel_rfl : Try.f17.body = some parquetref08_Act.body) (by kernel_rfl) (parquetref08_Act.res_eq N) (by kernel_rfl) (by kernel_rfl) (Nat.le_of_ble_eq_true (by kernel_rfl)) (AllCut.of (l := []) (by kernel_rfl) AllCut.nil) h
  unfold parquetref08_Act.dec at h1; split at h1
  · cases h1; exact h2
  · cases h1
theorem parquetref08_Act.ent_ok (N : Nat) : TabOK1 Try.prog 17 (parquetref08_Act.ent N) := by
  intro args bs a enc h
  simp only [parquetref08_Act.ent] at h
  split at h
  · rename_i hz; have h0 := Option.some.inj h; have h1 := congrArg Prod.fst h0; have h2 := congrArg Prod.snd h0; dsimp only at h1 h2; subst h2; exact FnSpec.of_freeze hz (parquetref08_Act.spec N _ _ _ _ _ _ _ a h1)
  · cases h
/-! parquet/binary.Disc: function 22 -/
noncomputable def binary_Disc.f (N : Nat) (a1 : Int) (a2 : Int) (a3 : Int) : Option (Int) :=
  (binary_within.f N a1 a2 a3).bind fun r4 =>
  bif !r4 then
    some 0
  else
  some (wi64 ((wi64 (a2 * a2)) - (wi64 ((wi64 (4 * a1)) * a3))))
noncomputable def binary_Disc.body : Code := (Try.f22.body).getD .skip
noncomputable def binary_Disc.ty : List (Nat × TI) := [(2, ty2), (23, ty23)]
noncomputable def binary_Disc.E (N : Nat) : Env := { ty := lookN binary_Disc.ty, tab := lookN [(31, binary_within.ent N)], hint := lookN [], cut := lookN [], N := N, res := [.tmp 2], rsh := [.any], nb := 0, ntmps := 18, own := false }
noncomputable def binary_Disc.dec (v : V) (bs : List Blk) : Option (Int) := match v, bs with
  | .c (.int .i64 z0), [] => some z0
  | _, _ => none
set_option maxRecDepth 100000 in
theorem binary_Disc.f_eq (N : Nat) (a1 : Int) (a2 : Int) (a3 : Int) :
    evFun (binary_Disc.E N) binary_Disc.body [.agg [.c (.int .i64 a1), .c (.int .i64 a2), .c (.int .i64 a3)]] [] binary_Disc.dec = binary_Disc.f N a1 a2 a3 := by kernel_rfl
noncomputable def binary_Disc.ent (N : Nat) : Entry := { A := Int, fresh := 0, imm := [true], dec := fun args bs => match freezeL 0 (fun _ => .dead) [.recd [.any, .any, .any]] args, bs with
  | some [.agg [.c (.int .i64 a1), .c (.int .i64 a2), .c (.int .i64 a3)]], [] => some (binary_Disc.f N a1 a2 a3, fun r => .one (.c (.int .i64 r)) [])
  | _, _ => none }
theorem binary_Disc.env (N : Nat) : EnvOK Try.prog (binary_Disc.E N) := ⟨(TyOK.cons ty2_ok (TyOK.cons ty23_ok TyOK.nil)), (TabOK.cons (binary_within.ent_ok N) TabOK.nil)⟩
theorem binary_Disc.res_eq (N : Nat) : (binary_Disc.E N).res = Try.f22.results.toList := by kernel_rfl
theorem binary_Disc.spec (N : Nat) (a1 : Int) (a2 : Int) (a3 : Int) (r : Int) (h : binary_Disc.f N a1 a2 a3 = some r) : FnSpec Try.prog 22 [.agg [.c (.int .i64 a1), .c (.int .i64 a2), .c (.int .i64 a3)]] [] (.c (.int .i64 r)) ([]) := by
  rw [← binary_Disc.f_eq] at h
  obtain ⟨v, bs', h1, h2⟩ := evFun_ok (binary_Disc.env N) Try_mixed Try.func22 (by kernel_rfl : Try.f22.body = some binary_Disc.body) (by kernel_rfl) (binary_Disc.res_eq N) (by kernel_rfl) (by kernel_rfl) (Nat.le_of_ble_eq_true (by kernel_rfl)) (AllCut.of (l := []) (by kernel_rfl) AllCut.nil) h
  unfold binary_Disc.dec at h1; split at h1
  · cases h1; exact h2
  · cases h1
theorem binary_Disc.ent_ok (N : Nat) : TabOK1 Try.prog 22 (binary_Disc.ent N) := by
  intro args bs a enc h
  simp only [binary_Disc.ent] at h
  split at h
  · rename_i hz; have h0 := Option.some.inj h; have h1 := congrArg Prod.fst h0; have h2 := congrArg Prod.snd h0; dsimp only at h1 h2; subst h2; exact FnSpec.of_freeze hz (binary_Disc.spec N _ _ _ a h1)
  · cases h
/-! parquet/binary.Check: function 19 -/
noncomputable def binary_Check.f (N : Nat) (a1 : Int) (a2 : Int) (a3 : Int) : Option (Int) :=
  (binary_Disc.f N a1 a2 a3).bind fun r4 =>
  (binary_within.f N a1 a2 a3).bind fun r5 =>
  bif !r5 then
    some 3
  else
  bif decide (a1 ≤ 0) then
    some 81
  else
  bif decide (r4 ≥ 0) then
    some 81
  else
  bif decide (r4 < (-4294967296)) then
    some 80
  else
  some 0
noncomputable def binary_Check.body : Code := (Try.f19.body).getD .skip
noncomputable def binary_Check.ty : List (Nat × TI) := [(2, ty2), (23, ty23)]
noncomputable def binary_Check.E (N : Nat) : Env := { ty := lookN binary_Check.ty, tab := lookN [(22, binary_Disc.ent N), (31, binary_within.ent N)], hint := lookN [], cut := lookN [], N := N, res := [.tmp 2], rsh := [.any], nb := 0, ntmps := 21, own := false }
noncomputable def binary_Check.dec (v : V) (bs : List Blk) : Option (Int) := match v, bs with
  | .c (.int .i64 z0), [] => some z0
  | _, _ => none
set_option maxRecDepth 100000 in
theorem binary_Check.f_eq (N : Nat) (a1 : Int) (a2 : Int) (a3 : Int) :
    evFun (binary_Check.E N) binary_Check.body [.agg [.c (.int .i64 a1), .c (.int .i64 a2), .c (.int .i64 a3)]] [] binary_Check.dec = binary_Check.f N a1 a2 a3 := by kernel_rfl
noncomputable def binary_Check.ent (N : Nat) : Entry := { A := Int, fresh := 0, imm := [true], dec := fun args bs => match freezeL 0 (fun _ => .dead) [.recd [.any, .any, .any]] args, bs with
  | some [.agg [.c (.int .i64 a1), .c (.int .i64 a2), .c (.int .i64 a3)]], [] => some (binary_Check.f N a1 a2 a3, fun r => .one (.c (.int .i64 r)) [])
  | _, _ => none }
theorem binary_Check.env (N : Nat) : EnvOK Try.prog (binary_Check.E N) := ⟨(TyOK.cons ty2_ok (TyOK.cons ty23_ok TyOK.nil)), (TabOK.cons (binary_Disc.ent_ok N) (TabOK.cons (binary_within.ent_ok N) TabOK.nil))⟩
theorem binary_Check.res_eq (N : Nat) : (binary_Check.E N).res = Try.f19.results.toList := by kernel_rfl
theorem binary_Check.spec (N : Nat) (a1 : Int) (a2 : Int) (a3 : Int) (r : Int) (h : binary_Check.f N a1 a2 a3 = some r) : FnSpec Try.prog 19 [.agg [.c (.int .i64 a1), .c (.int .i64 a2), .c (.int .i64 a3)]] [] (.c (.int .i64 r)) ([]) := by
  rw [← binary_Check.f_eq] at h
  obtain ⟨v, bs', h1, h2⟩ := evFun_ok (binary_Check.env N) Try_mixed Try.func19 (by kernel_rfl : Try.f19.body = some binary_Check.body) (by kernel_rfl) (binary_Check.res_eq N) (by kernel_rfl) (by kernel_rfl) (Nat.le_of_ble_eq_true (by kernel_rfl)) (AllCut.of (l := []) (by kernel_rfl) AllCut.nil) h
  unfold binary_Check.dec at h1; split at h1
  · cases h1; exact h2
  · cases h1
theorem binary_Check.ent_ok (N : Nat) : TabOK1 Try.prog 19 (binary_Check.ent N) := by
  intro args bs a enc h
  simp only [binary_Check.ent] at h
  split at h
  · rename_i hz; have h0 := Option.some.inj h; have h1 := congrArg Prod.fst h0; have h2 := congrArg Prod.snd h0; dsimp only at h1 h2; subst h2; exact FnSpec.of_freeze hz (binary_Check.spec N _ _ _ a h1)
  · cases h
/-! (*parquet/binary.walk).step: function 37 -/
noncomputable def binary_walk_step.f (N : Nat) (a1 : Int) (a2 : Int) (a3 : Int) (a4 : Int) (a5 : Int) (a6 : Int) (a7 : Int) : Option (Bool × Int × Int × Int × Int × Int × Int × Int) :=
  bif decide (a2 ≤ (wi64 (0 - a1))) then
    bif !((wi64 (2 * a1)) == 0) then
      bif !((wi64 (2 * a1)) == 0) then
        bif decide ((Int.tmod (wi64 (a1 - a2)) (wi64 (2 * a1))) < 0) then
          some (true, a1, wi64 (a2 + (wi64 ((wi64 (2 * (wi64 ((wi64 (Int.tdiv (wi64 (a1 - a2)) (wi64 (2 * a1)))) - 1)))) * a1))), wi64 ((wi64 ((wi64 ((wi64 (a1 * (wi64 ((wi64 (Int.tdiv (wi64 (a1 - a2)) (wi64 (2 * a1)))) - 1)))) + a2)) * (wi64 ((wi64 (Int.tdiv (wi64 (a1 - a2)) (wi64 (2 * a1)))) - 1)))) + a3), a4, wi64 ((wi64 ((wi64 ((wi64 (Int.tdiv (wi64 (a1 - a2)) (wi64 (2 * a1)))) - 1)) * a4)) + a5), a6, wi64 ((wi64 ((wi64 ((wi64 (Int.tdiv (wi64 (a1 - a2)) (wi64 (2 * a1)))) - 1)) * a6)) + a7))
        else
        some (true, a1, wi64 (a2 + (wi64 ((wi64 (2 * (wi64 (Int.tdiv (wi64 (a1 - a2)) (wi64 (2 * a1)))))) * a1))), wi64 ((wi64 ((wi64 ((wi64 (a1 * (wi64 (Int.tdiv (wi64 (a1 - a2)) (wi64 (2 * a1)))))) + a2)) * (wi64 (Int.tdiv (wi64 (a1 - a2)) (wi64 (2 * a1)))))) + a3), a4, wi64 ((wi64 ((wi64 (Int.tdiv (wi64 (a1 - a2)) (wi64 (2 * a1)))) * a4)) + a5), a6, wi64 ((wi64 ((wi64 (Int.tdiv (wi64 (a1 - a2)) (wi64 (2 * a1)))) * a6)) + a7))
      else none
    else none
  else
  bif decide (a2 > a1) then
    bif !((wi64 (2 * a1)) == 0) then
      bif !((wi64 (2 * a1)) == 0) then
        bif decide ((Int.tmod (wi64 (a1 - a2)) (wi64 (2 * a1))) < 0) then
          some (true, a1, wi64 (a2 + (wi64 ((wi64 (2 * (wi64 ((wi64 (Int.tdiv (wi64 (a1 - a2)) (wi64 (2 * a1)))) - 1)))) * a1))), wi64 ((wi64 ((wi64 ((wi64 (a1 * (wi64 ((wi64 (Int.tdiv (wi64 (a1 - a2)) (wi64 (2 * a1)))) - 1)))) + a2)) * (wi64 ((wi64 (Int.tdiv (wi64 (a1 - a2)) (wi64 (2 * a1)))) - 1)))) + a3), a4, wi64 ((wi64 ((wi64 ((wi64 (Int.tdiv (wi64 (a1 - a2)) (wi64 (2 * a1)))) - 1)) * a4)) + a5), a6, wi64 ((wi64 ((wi64 ((wi64 (Int.tdiv (wi64 (a1 - a2)) (wi64 (2 * a1)))) - 1)) * a6)) + a7))
        else
        some (true, a1, wi64 (a2 + (wi64 ((wi64 (2 * (wi64 (Int.tdiv (wi64 (a1 - a2)) (wi64 (2 * a1)))))) * a1))), wi64 ((wi64 ((wi64 ((wi64 (a1 * (wi64 (Int.tdiv (wi64 (a1 - a2)) (wi64 (2 * a1)))))) + a2)) * (wi64 (Int.tdiv (wi64 (a1 - a2)) (wi64 (2 * a1)))))) + a3), a4, wi64 ((wi64 ((wi64 (Int.tdiv (wi64 (a1 - a2)) (wi64 (2 * a1)))) * a4)) + a5), a6, wi64 ((wi64 ((wi64 (Int.tdiv (wi64 (a1 - a2)) (wi64 (2 * a1)))) * a6)) + a7))
      else none
    else none
  else
  bif decide (a1 > a3) then
    some (true, a3, wi64 (0 - a2), a1, a5, wi64 (0 - a4), a7, wi64 (0 - a6))
  else
  bif a1 == a3 then
    bif decide (a2 < 0) then
      some (true, a3, wi64 (0 - a2), a1, a5, wi64 (0 - a4), a7, wi64 (0 - a6))
    else
    some (false, a1, a2, a3, a4, a5, a6, a7)
  else
  some (false, a1, a2, a3, a4, a5, a6, a7)
noncomputable def binary_walk_step.body : Code := (Try.f37.body).getD .skip
noncomputable def binary_walk_step.ty : List (Nat × TI) := [(2, ty2), (23, ty23), (33, ty33), (69, ty69)]
noncomputable def binary_walk_step.E (N : Nat) : Env := { ty := lookN binary_walk_step.ty, tab := lookN [], hint := lookN [], cut := lookN [], N := N, res := [.tmp 2], rsh := [.any], nb := 1, ntmps := 164, own := false }
noncomputable def binary_walk_step.dec (v : V) (bs : List Blk) : Option (Bool × Int × Int × Int × Int × Int × Int × Int) := match v, bs with
  | .c (.bool z0), [.vals [.c (.int .i64 z1), .c (.int .i64 z2), .c (.int .i64 z3), .c (.int .i64 z4), .c (.int .i64 z5), .c (.int .i64 z6), .c (.int .i64 z7)]] => some (z0, z1, z2, z3, z4, z5, z6, z7)
  | _, _ => none
set_option maxRecDepth 100000 in
theorem binary_walk_step.f_eq (N : Nat) (a1 : Int) (a2 : Int) (a3 : Int) (a4 : Int) (a5 : Int) (a6 : Int) (a7 : Int) :
    evFun (binary_walk_step.E N) binary_walk_step.body [.ptr 0 0 7] [.vals [.c (.int .i64 a1), .c (.int .i64 a2), .c (.int .i64 a3), .c (.int .i64 a4), .c (.int .i64 a5), .c (.int .i64 a6), .c (.int .i64 a7)]] binary_walk_step.dec = binary_walk_step.f N a1 a2 a3 a4 a5 a6 a7 := by kernel_rfl
noncomputable def binary_walk_step.ent (N : Nat) : Entry := { A := Bool × Int × Int × Int × Int × Int × Int × Int, fresh := 0, imm := [false], dec := fun args bs => match asSlL (blkAt bs) [false] args, bs with
  | [.ptr 0 0 7], [.vals [.c (.int .i64 a1), .c (.int .i64 a2), .c (.int .i64 a3), .c (.int .i64 a4), .c (.int .i64 a5), .c (.int .i64 a6), .c (.int .i64 a7)]] => some (binary_walk_step.f N a1 a2 a3 a4 a5 a6 a7, fun r => .one (.c (.bool r.1)) [.vals [.c (.int .i64 r.2.1), .c (.int .i64 r.2.2.1), .c (.int .i64 r.2.2.2.1), .c (.int .i64 r.2.2.2.2.1), .c (.int .i64 r.2.2.2.2.2.1), .c (.int .i64 r.2.2.2.2.2.2.1), .c (.int .i64 r.2.2.2.2.2.2.2)]])
  | _, _ => none }
theorem binary_walk_step.env (N : Nat) : EnvOK Try.prog (binary_walk_step.E N) := ⟨(TyOK.cons ty2_ok (TyOK.cons ty23_ok (TyOK.cons ty33_ok (TyOK.cons ty69_ok TyOK.nil)))), TabOK.nil⟩
theorem binary_walk_step.res_eq (N : Nat) : (binary_walk_step.E N).res = Try.f37.results.toList := by kernel_rfl
theorem binary_walk_step.spec (N : Nat) (a1 : Int) (a2 : Int) (a3 : Int) (a4 : Int) (a5 : Int) (a6 : Int) (a7 : Int) (r : Bool × Int × Int × Int × Int × Int × Int × Int) (h : binary_walk_step.f N a1 a2 a3 a4 a5 a6 a7 = some r) : FnSpec Try.prog 37 [.ptr 0 0 7] [.vals [.c (.int .i64 a1), .c (.int .i64 a2), .c (.int .i64 a3), .c (.int .i64 a4), .c (.int .i64 a5), .c (.int .i64 a6), .c (.int .i64 a7)]] (.c (.bool r.1)) ([.vals [.c (.int .i64 r.2.1), .c (.int .i64 r.2.2.1), .c (.int .i64 r.2.2.2.1), .c (.int .i64 r.2.2.2.2.1), .c (.int .i64 r.2.2.2.2.2.1), .c (.int .i64 r.2.2.2.2.2.2.1), .c (.int .i64 r.2.2.2.2.2.2.2)]]) := by
  rw [← binary_walk_step.f_eq] at h
  obtain ⟨v, bs', h1, h2⟩ := evFun_ok (binary_walk_step.env N) Try_mixed Try.func37 (by kernel_rfl : Try.f37.body = some binary_walk_step.body) (by kernel_rfl) (binary_walk_step.res_eq N) (by kernel_rfl) (by kernel_rfl) (Nat.le_of_ble_eq_true (by kernel_rfl)) (AllCut.of (l := []) (by kernel_rfl) AllCut.nil) h
  unfold binary_walk_step.dec at h1; split at h1
  · cases h1; exact h2
  · cases h1
theorem binary_walk_step.ent_ok (N : Nat) : TabOK1 Try.prog 37 (binary_walk_step.ent N) := by
  intro args bs a enc h
  simp only [binary_walk_step.ent] at h
  split at h
  · rename_i hz; have h0 := Option.some.inj h; have h1 := congrArg Prod.fst h0; have h2 := congrArg Prod.snd h0; dsimp only at h1 h2; subst h2; exact FnSpec.of_asSl (fl := [false]) (by rw [hz]; exact binary_walk_step.spec N _ _ _ _ _ _ _ a h1)
  · cases h
/-! parquet/binary.Reduce: function 20 -/
noncomputable def binary_Reduce.l6 {R : Type} (N : Nat) : Nat → Int → Int → Int → Int → Int → Int → Int → Int → Int → Int → Int → Int → Int → Int → (Int → Int → Int → Int → Int → Int → Int → Int → Int → Int → Int → Int → Int → Int → Option R) → Option R
  | 0, _, _, _, _, _, _, _, _, _, _, _, _, _, _, _ => none
  | n + 1, x5, x6, x7, x8, x9, x10, x11, x12, x13, x14, x15, x16, x17, x18, k0 =>
    (binary_walk_step.f N x12 x13 x14 x15 x16 x17 x18).bind fun r19 =>
    bif r19.1 then
      binary_Reduce.l6 N n x5 x6 x7 x8 x9 x10 x11 r19.2.1 r19.2.2.1 r19.2.2.2.1 r19.2.2.2.2.1 r19.2.2.2.2.2.1 r19.2.2.2.2.2.2.1 r19.2.2.2.2.2.2.2 k0
    else
    k0 x5 x6 x7 x8 x9 x10 x11 r19.2.1 r19.2.2.1 r19.2.2.2.1 r19.2.2.2.2.1 r19.2.2.2.2.2.1 r19.2.2.2.2.2.2.1 r19.2.2.2.2.2.2.2
noncomputable def binary_Reduce.f (N : Nat) (a1 : Int) (a2 : Int) (a3 : Int) : Option (Int × Int × Int × Int × Int × Int × Int × Int) :=
  (binary_Check.f N a1 a2 a3).bind fun r4 =>
  bif r4 != 0 then
    some (0, 0, 0, 0, 0, 0, 0, r4)
  else
  binary_Reduce.l6 N N 0 0 0 0 0 0 0 a1 a2 a3 1 0 0 1
    (fun y34 y35 y36 y37 y38 y39 y40 y41 y42 y43 y44 y45 y46 y47 =>
      some (y41, y42, y43, y44, y45, y46, y47, 0))
noncomputable def binary_Reduce.body : Code := (Try.f20.body).getD .skip
noncomputable def binary_Reduce.ty : List (Nat × TI) := [(2, ty2), (23, ty23), (33, ty33), (69, ty69)]
noncomputable def binary_Reduce.h6 : Hint := ⟨[(2, .box [.any, .any, .any]), (3, .box [.any, .any, .any, .any]), (6, .box [.any, .any, .any, .any, .any, .any, .any]), (7, .any)], [(2, .box [.any, .any, .any]), (3, .box [.any, .any, .any, .any]), (6, .box [.any, .any, .any, .any, .any, .any, .any])]⟩
noncomputable def binary_Reduce.c6 (N : Nat) : Cut := ⟨fun vs H k => match vs, H with
  | [.ptr 0 0 3, .ptr 1 0 4, .ptr 2 0 7, .fn 37 [.ptr 2 0 7] []], [.vals [.c (.int .i64 x5), .c (.int .i64 x6), .c (.int .i64 x7)], .vals [.c (.int .i64 x8), .c (.int .i64 x9), .c (.int .i64 x10), .c (.int .i64 x11)], .vals [.c (.int .i64 x12), .c (.int .i64 x13), .c (.int .i64 x14), .c (.int .i64 x15), .c (.int .i64 x16), .c (.int .i64 x17), .c (.int .i64 x18)]] => binary_Reduce.l6 N N x5 x6 x7 x8 x9 x10 x11 x12 x13 x14 x15 x16 x17 x18 (fun x20 x21 x22 x23 x24 x25 x26 x27 x28 x29 x30 x31 x32 x33 => k (.exit 0) ⟨mkT binary_Reduce.h6.out [.ptr 0 0 3, .ptr 1 0 4, .ptr 2 0 7], [.vals [.c (.int .i64 x20), .c (.int .i64 x21), .c (.int .i64 x22)], .vals [.c (.int .i64 x23), .c (.int .i64 x24), .c (.int .i64 x25), .c (.int .i64 x26)], .vals [.c (.int .i64 x27), .c (.int .i64 x28), .c (.int .i64 x29), .c (.int .i64 x30), .c (.int .i64 x31), .c (.int .i64 x32), .c (.int .i64 x33)]]⟩)
  | _, _ => none⟩
noncomputable def binary_Reduce.E (N : Nat) : Env := { ty := lookN binary_Reduce.ty, tab := lookN [(19, binary_Check.ent N), (37, binary_walk_step.ent N)], hint := lookN [(6, binary_Reduce.h6)], cut := lookN [(6, binary_Reduce.c6 N)], N := N, res := [.cell 2 23, .cell 3 33, .tmp 4], rsh := [.recd [.any, .any, .any], .recd [.any, .any, .any, .any], .any], nb := 0, ntmps := 31, own := false }
noncomputable def binary_Reduce.b6 : Code := inner ((subLoops binary_Reduce.body).getD 0 .skip)
set_option maxRecDepth 100000 in
theorem binary_Reduce.l6_eq {R : Type} (N n : Nat) (x5 : Int) (x6 : Int) (x7 : Int) (x8 : Int) (x9 : Int) (x10 : Int) (x11 : Int) (x12 : Int) (x13 : Int) (x14 : Int) (x15 : Int) (x16 : Int) (x17 : Int) (x18 : Int) (k : Ex → St → Option R) :
    evLoop 0 binary_Reduce.h6 (fun s k => evCode (binary_Reduce.E N) 393 binary_Reduce.b6 s k) n [.ptr 0 0 3, .ptr 1 0 4, .ptr 2 0 7, .fn 37 [.ptr 2 0 7] []] [.vals [.c (.int .i64 x5), .c (.int .i64 x6), .c (.int .i64 x7)], .vals [.c (.int .i64 x8), .c (.int .i64 x9), .c (.int .i64 x10), .c (.int .i64 x11)], .vals [.c (.int .i64 x12), .c (.int .i64 x13), .c (.int .i64 x14), .c (.int .i64 x15), .c (.int .i64 x16), .c (.int .i64 x17), .c (.int .i64 x18)]] k = binary_Reduce.l6 N n x5 x6 x7 x8 x9 x10 x11 x12 x13 x14 x15 x16 x17 x18 (fun x20 x21 x22 x23 x24 x25 x26 x27 x28 x29 x30 x31 x32 x33 => k (.exit 0) ⟨mkT binary_Reduce.h6.out [.ptr 0 0 3, .ptr 1 0 4, .ptr 2 0 7], [.vals [.c (.int .i64 x20), .c (.int .i64 x21), .c (.int .i64 x22)], .vals [.c (.int .i64 x23), .c (.int .i64 x24), .c (.int .i64 x25), .c (.int .i64 x26)], .vals [.c (.int .i64 x27), .c (.int .i64 x28), .c (.int .i64 x29), .c (.int .i64 x30), .c (.int .i64 x31), .c (.int .i64 x32), .c (.int .i64 x33)]]⟩) := by
  induction n generalizing x5 x6 x7 x8 x9 x10 x11 x12 x13 x14 x15 x16 x17 x18 with
  | zero => kernel_rfl
  | succ n ih =>
    simp only [binary_Reduce.l6, ← ih]
    kernel_rfl
noncomputable def binary_Reduce.dec (v : V) (bs : List Blk) : Option (Int × Int × Int × Int × Int × Int × Int × Int) := match v, bs with
  | .tup [.agg [.c (.int .i64 z0), .c (.int .i64 z1), .c (.int .i64 z2)], .agg [.c (.int .i64 z3), .c (.int .i64 z4), .c (.int .i64 z5), .c (.int .i64 z6)], .c (.int .i64 z7)], [] => some (z0, z1, z2, z3, z4, z5, z6, z7)
  | _, _ => none
set_option maxRecDepth 100000 in
theorem binary_Reduce.f_eq (N : Nat) (a1 : Int) (a2 : Int) (a3 : Int) :
    evFun (binary_Reduce.E N) binary_Reduce.body [.agg [.c (.int .i64 a1), .c (.int .i64 a2), .c (.int .i64 a3)]] [] binary_Reduce.dec = binary_Reduce.f N a1 a2 a3 := by kernel_rfl
noncomputable def binary_Reduce.ent (N : Nat) : Entry := { A := Int × Int × Int × Int × Int × Int × Int × Int, fresh := 0, imm := [true], dec := fun args bs => match freezeL 0 (fun _ => .dead) [.recd [.any, .any, .any]] args, bs with
  | some [.agg [.c (.int .i64 a1), .c (.int .i64 a2), .c (.int .i64 a3)]], [] => some (binary_Reduce.f N a1 a2 a3, fun r => .one (.tup [.agg [.c (.int .i64 r.1), .c (.int .i64 r.2.1), .c (.int .i64 r.2.2.1)], .agg [.c (.int .i64 r.2.2.2.1), .c (.int .i64 r.2.2.2.2.1), .c (.int .i64 r.2.2.2.2.2.1), .c (.int .i64 r.2.2.2.2.2.2.1)], .c (.int .i64 r.2.2.2.2.2.2.2)]) [])
  | _, _ => none }
theorem binary_Reduce.env (N : Nat) : EnvOK Try.prog (binary_Reduce.E N) := ⟨(TyOK.cons ty2_ok (TyOK.cons ty23_ok (TyOK.cons ty33_ok (TyOK.cons ty69_ok TyOK.nil)))), (TabOK.cons (binary_Check.ent_ok N) (TabOK.cons (binary_walk_step.ent_ok N) TabOK.nil))⟩
theorem binary_Reduce.res_eq (N : Nat) : (binary_Reduce.E N).res = Try.f20.results.toList := by kernel_rfl
theorem binary_Reduce.k6 (N : Nat) : CutOK Try.prog Try.f20 (binary_Reduce.E N) (.loop binary_Reduce.b6) := by
  intro e hd he hh R vs H k r h
  have e1 : (binary_Reduce.E N).cut (loopKey binary_Reduce.b6) = some (binary_Reduce.c6 N) := by kernel_rfl
  have e2 : (binary_Reduce.E N).hint (loopKey binary_Reduce.b6) = some binary_Reduce.h6 := by kernel_rfl
  rw [e1] at he; rw [e2] at hh; cases he; cases hh
  unfold binary_Reduce.c6 at h; dsimp only at h
  split at h
  · rw [← binary_Reduce.l6_eq] at h
    exact loop_ok (evCode_ok (binary_Reduce.env N) Try_mixed (binary_Reduce.res_eq N) 393 binary_Reduce.b6 (AllCut.of (l := []) (by kernel_rfl) AllCut.nil)) h
  · cases h
theorem binary_Reduce.spec (N : Nat) (a1 : Int) (a2 : Int) (a3 : Int) (r : Int × Int × Int × Int × Int × Int × Int × Int) (h : binary_Reduce.f N a1 a2 a3 = some r) : FnSpec Try.prog 20 [.agg [.c (.int .i64 a1), .c (.int .i64 a2), .c (.int .i64 a3)]] [] (.tup [.agg [.c (.int .i64 r.1), .c (.int .i64 r.2.1), .c (.int .i64 r.2.2.1)], .agg [.c (.int .i64 r.2.2.2.1), .c (.int .i64 r.2.2.2.2.1), .c (.int .i64 r.2.2.2.2.2.1), .c (.int .i64 r.2.2.2.2.2.2.1)], .c (.int .i64 r.2.2.2.2.2.2.2)]) ([]) := by
  rw [← binary_Reduce.f_eq] at h
  obtain ⟨v, bs', h1, h2⟩ := evFun_ok (binary_Reduce.env N) Try_mixed Try.func20 (by kernel_rfl : Try.f20.body = some binary_Reduce.body) (by kernel_rfl) (binary_Reduce.res_eq N) (by kernel_rfl) (by kernel_rfl) (Nat.le_of_ble_eq_true (by kernel_rfl)) (AllCut.of (l := [(.loop (inner ((subLoops binary_Reduce.body).getD 0 .skip)))]) (by kernel_rfl) (AllCut.cons (binary_Reduce.k6 N) AllCut.nil)) h
  unfold binary_Reduce.dec at h1; split at h1
  · cases h1; exact h2
  · cases h1
theorem binary_Reduce.ent_ok (N : Nat) : TabOK1 Try.prog 20 (binary_Reduce.ent N) := by
  intro args bs a enc h
  simp only [binary_Reduce.ent] at h
  split at h
  · rename_i hz; have h0 := Option.some.inj h; have h1 := congrArg Prod.fst h0; have h2 := congrArg Prod.snd h0; dsimp only at h1 h2; subst h2; exact FnSpec.of_freeze hz (binary_Reduce.spec N _ _ _ a h1)
  · cases h
/-! parquet/binary.root: function 29 -/
noncomputable def binary_root.l5 {R : Type} (N : Nat) : Nat → Int → Int → Int → (Int → Int → Option R) → Option R
  | 0, _, _, _, _ => none
  | n + 1, x2, x3, x4, k0 =>
    bif decide (x4 > 0) then
      bif decide ((wi64 ((wi64 (x3 + x4)) * (wi64 (x3 + x4)))) ≤ x2) then
        binary_root.l5 N n x2 (wi64 (x3 + x4)) (Int.fdiv x4 (2 ^ 1)) k0
      else
      binary_root.l5 N n x2 x3 (Int.fdiv x4 (2 ^ 1)) k0
    else
    k0 x2 x3
noncomputable def binary_root.f (N : Nat) (a1 : Int) : Option (Int × Bool) :=
  bif decide (a1 < 0) then
    some (0, false)
  else
  binary_root.l5 N N a1 0 1073741824
    (fun y7 y8 =>
      some (y8, (wi64 (y8 * y8)) == y7))
noncomputable def binary_root.body : Code := (Try.f29.body).getD .skip
noncomputable def binary_root.ty : List (Nat × TI) := []
noncomputable def binary_root.h5 : Hint := ⟨[(0, .any), (4, .any), (5, .any)], [(0, .any), (4, .any)]⟩
noncomputable def binary_root.c5 (N : Nat) : Cut := ⟨fun vs H k => match vs, H with
  | [.c (.int .i64 x2), .c (.int .i64 x3), .c (.int .i64 x4)], [] => binary_root.l5 N N x2 x3 x4 (fun x5 x6 => k (.exit 0) ⟨mkT binary_root.h5.out [.c (.int .i64 x5), .c (.int .i64 x6)], []⟩)
  | _, _ => none⟩
noncomputable def binary_root.E (N : Nat) : Env := { ty := lookN binary_root.ty, tab := lookN [], hint := lookN [(5, binary_root.h5)], cut := lookN [(5, binary_root.c5 N)], N := N, res := [.tmp 2, .tmp 3], rsh := [.any, .any], nb := 0, ntmps := 30, own := false }
noncomputable def binary_root.b5 : Code := inner ((subLoops binary_root.body).getD 0 .skip)
set_option maxRecDepth 100000 in
theorem binary_root.l5_eq {R : Type} (N n : Nat) (x2 : Int) (x3 : Int) (x4 : Int) (k : Ex → St → Option R) :
    evLoop 0 binary_root.h5 (fun s k => evCode (binary_root.E N) 393 binary_root.b5 s k) n [.c (.int .i64 x2), .c (.int .i64 x3), .c (.int .i64 x4)] [] k = binary_root.l5 N n x2 x3 x4 (fun x5 x6 => k (.exit 0) ⟨mkT binary_root.h5.out [.c (.int .i64 x5), .c (.int .i64 x6)], []⟩) := by
  induction n generalizing x2 x3 x4 with
  | zero => kernel_rfl
  | succ n ih =>
    simp only [binary_root.l5, ← ih]
    kernel_rfl
noncomputable def binary_root.dec (v : V) (bs : List Blk) : Option (Int × Bool) := match v, bs with
  | .tup [.c (.int .i64 z0), .c (.bool z1)], [] => some (z0, z1)
  | _, _ => none
set_option maxRecDepth 100000 in
theorem binary_root.f_eq (N : Nat) (a1 : Int) :
    evFun (binary_root.E N) binary_root.body [.c (.int .i64 a1)] [] binary_root.dec = binary_root.f N a1 := by kernel_rfl
noncomputable def binary_root.ent (N : Nat) : Entry := { A := Int × Bool, fresh := 0, imm := [true], dec := fun args bs => match freezeL 0 (fun _ => .dead) [.any] args, bs with
  | some [.c (.int .i64 a1)], [] => some (binary_root.f N a1, fun r => .one (.tup [.c (.int .i64 r.1), .c (.bool r.2)]) [])
  | _, _ => none }
theorem binary_root.env (N : Nat) : EnvOK Try.prog (binary_root.E N) := ⟨TyOK.nil, TabOK.nil⟩
theorem binary_root.res_eq (N : Nat) : (binary_root.E N).res = Try.f29.results.toList := by kernel_rfl
theorem binary_root.k5 (N : Nat) : CutOK Try.prog Try.f29 (binary_root.E N) (.loop binary_root.b5) := by
  intro e hd he hh R vs H k r h
  have e1 : (binary_root.E N).cut (loopKey binary_root.b5) = some (binary_root.c5 N) := by kernel_rfl
  have e2 : (binary_root.E N).hint (loopKey binary_root.b5) = some binary_root.h5 := by kernel_rfl
  rw [e1] at he; rw [e2] at hh; cases he; cases hh
  unfold binary_root.c5 at h; dsimp only at h
  split at h
  · rw [← binary_root.l5_eq] at h
    exact loop_ok (evCode_ok (binary_root.env N) Try_mixed (binary_root.res_eq N) 393 binary_root.b5 (AllCut.of (l := []) (by kernel_rfl) AllCut.nil)) h
  · cases h
theorem binary_root.spec (N : Nat) (a1 : Int) (r : Int × Bool) (h : binary_root.f N a1 = some r) : FnSpec Try.prog 29 [.c (.int .i64 a1)] [] (.tup [.c (.int .i64 r.1), .c (.bool r.2)]) ([]) := by
  rw [← binary_root.f_eq] at h
  obtain ⟨v, bs', h1, h2⟩ := evFun_ok (binary_root.env N) Try_mixed Try.func29 (by kernel_rfl : Try.f29.body = some binary_root.body) (by kernel_rfl) (binary_root.res_eq N) (by kernel_rfl) (by kernel_rfl) (Nat.le_of_ble_eq_true (by kernel_rfl)) (AllCut.of (l := [(.loop (inner ((subLoops binary_root.body).getD 0 .skip)))]) (by kernel_rfl) (AllCut.cons (binary_root.k5 N) AllCut.nil)) h
  unfold binary_root.dec at h1; split at h1
  · cases h1; exact h2
  · cases h1
theorem binary_root.ent_ok (N : Nat) : TabOK1 Try.prog 29 (binary_root.ent N) := by
  intro args bs a enc h
  simp only [binary_root.ent] at h
  split at h
  · rename_i hz; have h0 := Option.some.inj h; have h1 := congrArg Prod.fst h0; have h2 := congrArg Prod.snd h0; dsimp only at h1 h2; subst h2; exact FnSpec.of_freeze hz (binary_root.spec N _ a h1)
  · cases h
/-! parquet/binary.Represents: function 11 -/
noncomputable def binary_Represents.l9 {R : Type} (N : Nat) : Nat → Int → Int → Int → Int → Int → Int → Int → Int → Int → Int → (Unit → Option R) → (Int → Int → Int → Option R) → Option R
  | 0, _, _, _, _, _, _, _, _, _, _, _, _ => none
  | n + 1, x7, x8, x9, x10, x11, x12, x13, x14, x15, x16, k1, kr =>
    bif decide ((wi64 ((wi64 ((wi64 (x8 * x9)) * x9)) + (wi64 ((wi64 (4 * x10)) * x7)))) < 0) then
      k1 ()
    else
    (binary_root.f N (wi64 ((wi64 ((wi64 (x8 * x9)) * x9)) + (wi64 ((wi64 (4 * x10)) * x7))))).bind fun r17 =>
    bif !r17.2 then
      binary_Represents.l9 N n x7 x8 (wi64 (x9 + 1)) x10 x11 x12 x13 x14 x15 x16 k1 kr
    else
    bif !((wi64 (2 * x10)) == 0) then
      bif (Int.tmod (wi64 (r17.1 - (wi64 (x11 * x9)))) (wi64 (2 * x10))) == 0 then
        bif !((wi64 (2 * x10)) == 0) then
          kr (wi64 ((wi64 (x13 * (wi64 (Int.tdiv (wi64 (r17.1 - (wi64 (x11 * x9)))) (wi64 (2 * x10)))))) + (wi64 (x14 * x9)))) (wi64 ((wi64 (x15 * (wi64 (Int.tdiv (wi64 (r17.1 - (wi64 (x11 * x9)))) (wi64 (2 * x10)))))) + (wi64 (x16 * x9)))) 0
        else none
      else
      bif !((wi64 (2 * x10)) == 0) then
        bif (Int.tmod (wi64 ((wi64 (0 - r17.1)) - (wi64 (x11 * x9)))) (wi64 (2 * x10))) == 0 then
          bif !((wi64 (2 * x10)) == 0) then
            kr (wi64 ((wi64 (x13 * (wi64 (Int.tdiv (wi64 ((wi64 (0 - r17.1)) - (wi64 (x11 * x9)))) (wi64 (2 * x10)))))) + (wi64 (x14 * x9)))) (wi64 ((wi64 (x15 * (wi64 (Int.tdiv (wi64 ((wi64 (0 - r17.1)) - (wi64 (x11 * x9)))) (wi64 (2 * x10)))))) + (wi64 (x16 * x9)))) 0
          else none
        else
        binary_Represents.l9 N n x7 x8 (wi64 (x9 + 1)) x10 x11 x12 x13 x14 x15 x16 k1 kr
      else none
    else none
noncomputable def binary_Represents.f (N : Nat) (a1 : Int) (a2 : Int) (a3 : Int) (a4 : Int) : Option (Int × Int × Int) :=
  (binary_Reduce.f N a1 a2 a3).bind fun r5 =>
  bif r5.2.2.2.2.2.2.2 != 0 then
    some (0, 0, r5.2.2.2.2.2.2.2)
  else
  bif decide (a4 < 1) then
    some (0, 0, 2)
  else
  bif decide (a4 > 1073741824) then
    some (0, 0, 2)
  else
  (binary_Disc.f N r5.1 r5.2.1 r5.2.2.1).bind fun r6 =>
  binary_Represents.l9 N N a4 r6 0 r5.1 r5.2.1 r5.2.2.1 r5.2.2.2.1 r5.2.2.2.2.1 r5.2.2.2.2.2.1 r5.2.2.2.2.2.2.1
    (fun (_ : Unit) =>
      some (0, 0, 41))
    (fun y21 y22 y23 =>
      some (y21, y22, y23))
noncomputable def binary_Represents.body : Code := (Try.f11.body).getD .skip
noncomputable def binary_Represents.ty : List (Nat × TI) := [(2, ty2), (23, ty23), (33, ty33), (50, ty50)]
noncomputable def binary_Represents.h9 : Hint := ⟨[(1, .any), (7, .box [.any, .any, .any]), (8, .box [.any, .any, .any, .any]), (9, .any), (10, .any)], []⟩
noncomputable def binary_Represents.h14 : Hint := ⟨[(1, .any), (7, .box [.any, .any, .any]), (8, .box [.any, .any, .any, .any]), (9, .any), (10, .any), (71, .recd [.any, .any]), (72, .any)], [(1, .any), (7, .any), (8, .any), (9, .any), (10, .any)]⟩
noncomputable def binary_Represents.c9 (N : Nat) : Cut := ⟨fun vs H k => match vs, H with
  | [.c (.int .i64 x7), .ptr 0 0 3, .ptr 1 0 4, .c (.int .i64 x8), .c (.int .i64 x9)], [.vals [.c (.int .i64 x10), .c (.int .i64 x11), .c (.int .i64 x12)], .vals [.c (.int .i64 x13), .c (.int .i64 x14), .c (.int .i64 x15), .c (.int .i64 x16)]] => binary_Represents.l9 N N x7 x8 x9 x10 x11 x12 x13 x14 x15 x16 (fun (_ : Unit) => k (.exit 1) ⟨mkT binary_Represents.h9.out [], []⟩) (fun x18 x19 x20 => k (.ret (.tup [.c (.int .i64 x18), .c (.int .i64 x19), .c (.int .i64 x20)]) []) .nil)
  | _, _ => none⟩
noncomputable def binary_Represents.E (N : Nat) : Env := { ty := lookN binary_Represents.ty, tab := lookN [(20, binary_Reduce.ent N), (22, binary_Disc.ent N), (29, binary_root.ent N)], hint := lookN [(9, binary_Represents.h9), (14, binary_Represents.h14)], cut := lookN [(9, binary_Represents.c9 N)], N := 40, res := [.tmp 4, .tmp 5, .tmp 6], rsh := [.any, .any, .any], nb := 0, ntmps := 105, own := false }
noncomputable def binary_Represents.b9 : Code := inner ((subLoops binary_Represents.body).getD 1 .skip)
set_option maxRecDepth 100000 in
theorem binary_Represents.l9_eq {R : Type} (N n : Nat) (x7 : Int) (x8 : Int) (x9 : Int) (x10 : Int) (x11 : Int) (x12 : Int) (x13 : Int) (x14 : Int) (x15 : Int) (x16 : Int) (k : Ex → St → Option R) :
    evLoop 0 binary_Represents.h9 (fun s k => evCode (binary_Represents.E N) 390 binary_Represents.b9 s k) n [.c (.int .i64 x7), .ptr 0 0 3, .ptr 1 0 4, .c (.int .i64 x8), .c (.int .i64 x9)] [.vals [.c (.int .i64 x10), .c (.int .i64 x11), .c (.int .i64 x12)], .vals [.c (.int .i64 x13), .c (.int .i64 x14), .c (.int .i64 x15), .c (.int .i64 x16)]] k = binary_Represents.l9 N n x7 x8 x9 x10 x11 x12 x13 x14 x15 x16 (fun (_ : Unit) => k (.exit 1) ⟨mkT binary_Represents.h9.out [], []⟩) (fun x18 x19 x20 => k (.ret (.tup [.c (.int .i64 x18), .c (.int .i64 x19), .c (.int .i64 x20)]) []) .nil) := by
  induction n generalizing x7 x8 x9 x10 x11 x12 x13 x14 x15 x16 with
  | zero => kernel_rfl
  | succ n ih =>
    simp only [binary_Represents.l9, ← ih]
    kernel_rfl
noncomputable def binary_Represents.dec (v : V) (bs : List Blk) : Option (Int × Int × Int) := match v, bs with
  | .tup [.c (.int .i64 z0), .c (.int .i64 z1), .c (.int .i64 z2)], [] => some (z0, z1, z2)
  | _, _ => none
set_option maxRecDepth 100000 in
theorem binary_Represents.f_eq (N : Nat) (a1 : Int) (a2 : Int) (a3 : Int) (a4 : Int) :
    evFun (binary_Represents.E N) binary_Represents.body [.agg [.c (.int .i64 a1), .c (.int .i64 a2), .c (.int .i64 a3)], .c (.int .i64 a4)] [] binary_Represents.dec = binary_Represents.f N a1 a2 a3 a4 := by kernel_rfl
noncomputable def binary_Represents.ent (N : Nat) : Entry := { A := Int × Int × Int, fresh := 0, imm := [true, true], dec := fun args bs => match freezeL 0 (fun _ => .dead) [.recd [.any, .any, .any], .any] args, bs with
  | some [.agg [.c (.int .i64 a1), .c (.int .i64 a2), .c (.int .i64 a3)], .c (.int .i64 a4)], [] => some (binary_Represents.f N a1 a2 a3 a4, fun r => .one (.tup [.c (.int .i64 r.1), .c (.int .i64 r.2.1), .c (.int .i64 r.2.2)]) [])
  | _, _ => none }
theorem binary_Represents.env (N : Nat) : EnvOK Try.prog (binary_Represents.E N) := ⟨(TyOK.cons ty2_ok (TyOK.cons ty23_ok (TyOK.cons ty33_ok (TyOK.cons ty50_ok TyOK.nil)))), (TabOK.cons (binary_Reduce.ent_ok N) (TabOK.cons (binary_Disc.ent_ok N) (TabOK.cons (binary_root.ent_ok N) TabOK.nil)))⟩
theorem binary_Represents.res_eq (N : Nat) : (binary_Represents.E N).res = Try.f11.results.toList := by kernel_rfl
theorem binary_Represents.k9 (N : Nat) : CutOK Try.prog Try.f11 (binary_Represents.E N) (.loop binary_Represents.b9) := by
  intro e hd he hh R vs H k r h
  have e1 : (binary_Represents.E N).cut (loopKey binary_Represents.b9) = some (binary_Represents.c9 N) := by kernel_rfl
  have e2 : (binary_Represents.E N).hint (loopKey binary_Represents.b9) = some binary_Represents.h9 := by kernel_rfl
  rw [e1] at he; rw [e2] at hh; cases he; cases hh
  unfold binary_Represents.c9 at h; dsimp only at h
  split at h
  · rw [← binary_Represents.l9_eq] at h
    exact loop_ok (evCode_ok (binary_Represents.env N) Try_mixed (binary_Represents.res_eq N) 390 binary_Represents.b9 (AllCut.of (l := [(.loop (inner ((subLoops binary_Represents.body).getD 2 .skip)))]) (by kernel_rfl) (AllCut.cons (cut_loop (by kernel_rfl)) AllCut.nil))) h
  · cases h
theorem binary_Represents.spec (N : Nat) (a1 : Int) (a2 : Int) (a3 : Int) (a4 : Int) (r : Int × Int × Int) (h : binary_Represents.f N a1 a2 a3 a4 = some r) : FnSpec Try.prog 11 [.agg [.c (.int .i64 a1), .c (.int .i64 a2), .c (.int .i64 a3)], .c (.int .i64 a4)] [] (.tup [.c (.int .i64 r.1), .c (.int .i64 r.2.1), .c (.int .i64 r.2.2)]) ([]) := by
  rw [← binary_Represents.f_eq] at h
  obtain ⟨v, bs', h1, h2⟩ := evFun_ok (binary_Represents.env N) Try_mixed Try.func11 (by kernel_rfl : Try.f11.body = some binary_Represents.body) (by kernel_rfl) (binary_Represents.res_eq N) (by kernel_rfl) (by kernel_rfl) (Nat.le_of_ble_eq_true (by kernel_rfl)) (AllCut.of (l := [(.scope (inner ((subLoops binary_Represents.body).getD 0 .skip))), (.loop (inner ((subLoops binary_Represents.body).getD 1 .skip))), (.loop (inner ((subLoops binary_Represents.body).getD 2 .skip)))]) (by kernel_rfl) (AllCut.cons (cut_scope (by kernel_rfl)) (AllCut.cons (binary_Represents.k9 N) (AllCut.cons (cut_loop (by kernel_rfl)) AllCut.nil)))) h
  unfold binary_Represents.dec at h1; split at h1
  · cases h1; exact h2
  · cases h1
theorem binary_Represents.ent_ok (N : Nat) : TabOK1 Try.prog 11 (binary_Represents.ent N) := by
  intro args bs a enc h
  simp only [binary_Represents.ent] at h
  split at h
  · rename_i hz; have h0 := Option.some.inj h; have h1 := congrArg Prod.fst h0; have h2 := congrArg Prod.snd h0; dsimp only at h1 h2; subst h2; exact FnSpec.of_freeze hz (binary_Represents.spec N _ _ _ _ a h1)
  · cases h
/-! parquet/parquetlaw08.wakes: function 13 -/
noncomputable def parquetlaw08_wakes.f (N : Nat) : Option (Bool) :=
  (binary_Reduce.f N 3 7 5).bind fun r1 =>
  (binary_Represents.f N 1 0 1 25).bind fun r2 =>
  bif r1.2.2.2.2.2.2.2 == 0 then
    bif (r1.1 == 1) && ((r1.2.1 == 1) && (r1.2.2.1 == 3)) then
      bif (r1.2.2.2.1 == (-1)) && ((r1.2.2.2.2.1 == (-2)) && ((r1.2.2.2.2.2.1 == 1) && (r1.2.2.2.2.2.2.1 == 1))) then
        bif r2.2.2 == 0 then
          bif r2.1 == 5 then
            some (r2.2.1 == 0)
          else
          some false
        else
        some false
      else
      some false
    else
    some false
  else
  some false
noncomputable def parquetlaw08_wakes.body : Code := (Try.f13.body).getD .skip
noncomputable def parquetlaw08_wakes.ty : List (Nat × TI) := [(2, ty2), (23, ty23), (33, ty33)]
noncomputable def parquetlaw08_wakes.E (N : Nat) : Env := { ty := lookN parquetlaw08_wakes.ty, tab := lookN [(20, binary_Reduce.ent N), (11, binary_Represents.ent N)], hint := lookN [], cut := lookN [], N := N, res := [.tmp 0], rsh := [.any], nb := 0, ntmps := 43, own := false }
noncomputable def parquetlaw08_wakes.dec (v : V) (bs : List Blk) : Option (Bool) := match v, bs with
  | .c (.bool z0), [] => some z0
  | _, _ => none
set_option maxRecDepth 100000 in
theorem parquetlaw08_wakes.f_eq (N : Nat) :
    evFun (parquetlaw08_wakes.E N) parquetlaw08_wakes.body [] [] parquetlaw08_wakes.dec = parquetlaw08_wakes.f N := by kernel_rfl
noncomputable def parquetlaw08_wakes.ent (N : Nat) : Entry := { A := Bool, fresh := 0, imm := [], dec := fun args bs => match freezeL 0 (fun _ => .dead) [] args, bs with
  | some [], [] => some (parquetlaw08_wakes.f N, fun r => .one (.c (.bool r)) [])
  | _, _ => none }
theorem parquetlaw08_wakes.env (N : Nat) : EnvOK Try.prog (parquetlaw08_wakes.E N) := ⟨(TyOK.cons ty2_ok (TyOK.cons ty23_ok (TyOK.cons ty33_ok TyOK.nil))), (TabOK.cons (binary_Reduce.ent_ok N) (TabOK.cons (binary_Represents.ent_ok N) TabOK.nil))⟩
theorem parquetlaw08_wakes.res_eq (N : Nat) : (parquetlaw08_wakes.E N).res = Try.f13.results.toList := by kernel_rfl
theorem parquetlaw08_wakes.spec (N : Nat) (r : Bool) (h : parquetlaw08_wakes.f N = some r) : FnSpec Try.prog 13 [] [] (.c (.bool r)) ([]) := by
  rw [← parquetlaw08_wakes.f_eq] at h
  obtain ⟨v, bs', h1, h2⟩ := evFun_ok (parquetlaw08_wakes.env N) Try_mixed Try.func13 (by kernel_rfl : Try.f13.body = some parquetlaw08_wakes.body) (by kernel_rfl) (parquetlaw08_wakes.res_eq N) (by kernel_rfl) (by kernel_rfl) (Nat.le_of_ble_eq_true (by kernel_rfl)) (AllCut.of (l := []) (by kernel_rfl) AllCut.nil) h
  unfold parquetlaw08_wakes.dec at h1; split at h1
  · cases h1; exact h2
  · cases h1
theorem parquetlaw08_wakes.ent_ok (N : Nat) : TabOK1 Try.prog 13 (parquetlaw08_wakes.ent N) := by
  intro args bs a enc h
  simp only [parquetlaw08_wakes.ent] at h
  split at h
  · rename_i hz; have h0 := Option.some.inj h; have h1 := congrArg Prod.fst h0; have h2 := congrArg Prod.snd h0; dsimp only at h1 h2; subst h2; exact FnSpec.of_freeze hz (parquetlaw08_wakes.spec N a h1)
  · cases h
/-! parquet/parquetlaw08.BinaryActs: function 5 -/
noncomputable def parquetlaw08_BinaryActs.f (N : Nat) (a1 : Int) (a2 : Int) (a3 : Int) (a4 : Int) (a5 : Int) (a6 : Int) (a7 : Int) : Option (Bool) :=
  (binary_Act.f N a1 a2 a3 a4 a5 a6 a7).bind fun r8 =>
  (parquetref08_Act.f N a1 a2 a3 a4 a5 a6 a7).bind fun r9 =>
  bif (r8.1 == r9.1) && ((r8.2.1 == r9.2.1) && (r8.2.2.1 == r9.2.2.1)) then
    bif r8.2.2.2 == r9.2.2.2 then
      (parquetlaw08_wakes.f N).bind fun r10 =>
      some r10
    else
    some false
  else
  some false
noncomputable def parquetlaw08_BinaryActs.body : Code := (Try.f5.body).getD .skip
noncomputable def parquetlaw08_BinaryActs.ty : List (Nat × TI) := [(2, ty2), (23, ty23), (33, ty33)]
noncomputable def parquetlaw08_BinaryActs.E (N : Nat) : Env := { ty := lookN parquetlaw08_BinaryActs.ty, tab := lookN [(16, binary_Act.ent N), (17, parquetref08_Act.ent N), (13, parquetlaw08_wakes.ent N)], hint := lookN [], cut := lookN [], N := N, res := [.tmp 4], rsh := [.any], nb := 0, ntmps := 32, own := false }
noncomputable def parquetlaw08_BinaryActs.dec (v : V) (bs : List Blk) : Option (Bool) := match v, bs with
  | .c (.bool z0), [] => some z0
  | _, _ => none
set_option maxRecDepth 100000 in
theorem parquetlaw08_BinaryActs.f_eq (N : Nat) (a1 : Int) (a2 : Int) (a3 : Int) (a4 : Int) (a5 : Int) (a6 : Int) (a7 : Int) :
    evFun (parquetlaw08_BinaryActs.E N) parquetlaw08_BinaryActs.body [.agg [.c (.int .i64 a1), .c (.int .i64 a2), .c (.int .i64 a3)], .agg [.c (.int .i64 a4), .c (.int .i64 a5), .c (.int .i64 a6), .c (.int .i64 a7)]] [] parquetlaw08_BinaryActs.dec = parquetlaw08_BinaryActs.f N a1 a2 a3 a4 a5 a6 a7 := by kernel_rfl
noncomputable def parquetlaw08_BinaryActs.ent (N : Nat) : Entry := { A := Bool, fresh := 0, imm := [true, true], dec := fun args bs => match freezeL 0 (fun _ => .dead) [.recd [.any, .any, .any], .recd [.any, .any, .any, .any]] args, bs with
  | some [.agg [.c (.int .i64 a1), .c (.int .i64 a2), .c (.int .i64 a3)], .agg [.c (.int .i64 a4), .c (.int .i64 a5), .c (.int .i64 a6), .c (.int .i64 a7)]], [] => some (parquetlaw08_BinaryActs.f N a1 a2 a3 a4 a5 a6 a7, fun r => .one (.c (.bool r)) [])
  | _, _ => none }
theorem parquetlaw08_BinaryActs.env (N : Nat) : EnvOK Try.prog (parquetlaw08_BinaryActs.E N) := ⟨(TyOK.cons ty2_ok (TyOK.cons ty23_ok (TyOK.cons ty33_ok TyOK.nil))), (TabOK.cons (binary_Act.ent_ok N) (TabOK.cons (parquetref08_Act.ent_ok N) (TabOK.cons (parquetlaw08_wakes.ent_ok N) TabOK.nil)))⟩
theorem parquetlaw08_BinaryActs.res_eq (N : Nat) : (parquetlaw08_BinaryActs.E N).res = Try.f5.results.toList := by kernel_rfl
theorem parquetlaw08_BinaryActs.spec (N : Nat) (a1 : Int) (a2 : Int) (a3 : Int) (a4 : Int) (a5 : Int) (a6 : Int) (a7 : Int) (r : Bool) (h : parquetlaw08_BinaryActs.f N a1 a2 a3 a4 a5 a6 a7 = some r) : FnSpec Try.prog 5 [.agg [.c (.int .i64 a1), .c (.int .i64 a2), .c (.int .i64 a3)], .agg [.c (.int .i64 a4), .c (.int .i64 a5), .c (.int .i64 a6), .c (.int .i64 a7)]] [] (.c (.bool r)) ([]) := by
  rw [← parquetlaw08_BinaryActs.f_eq] at h
  obtain ⟨v, bs', h1, h2⟩ := evFun_ok (parquetlaw08_BinaryActs.env N) Try_mixed Try.func5 (by kernel_rfl : Try.f5.body = some parquetlaw08_BinaryActs.body) (by kernel_rfl) (parquetlaw08_BinaryActs.res_eq N) (by kernel_rfl) (by kernel_rfl) (Nat.le_of_ble_eq_true (by kernel_rfl)) (AllCut.of (l := []) (by kernel_rfl) AllCut.nil) h
  unfold parquetlaw08_BinaryActs.dec at h1; split at h1
  · cases h1; exact h2
  · cases h1
theorem parquetlaw08_BinaryActs.ent_ok (N : Nat) : TabOK1 Try.prog 5 (parquetlaw08_BinaryActs.ent N) := by
  intro args bs a enc h
  simp only [parquetlaw08_BinaryActs.ent] at h
  split at h
  · rename_i hz; have h0 := Option.some.inj h; have h1 := congrArg Prod.fst h0; have h2 := congrArg Prod.snd h0; dsimp only at h1 h2; subst h2; exact FnSpec.of_freeze hz (parquetlaw08_BinaryActs.spec N _ _ _ _ _ _ _ a h1)
  · cases h
end Go.Proofs.Ytckddgepjhclpaa
