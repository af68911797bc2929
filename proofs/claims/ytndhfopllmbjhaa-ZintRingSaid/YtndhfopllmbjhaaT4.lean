-- The seat's functions as the evaluator goes through them: typed models and their laws.
import Derived.Test.YtndhfopllmbjhaaProg
import Derived.Test.YtndhfopllmbjhaaEvUse
import Derived.Test.YtndhfopllmbjhaaT3
import Derived.KernelRfl
namespace Go.Proofs.Ytndhfopllmbjhaa
open Go.Proofs.Ytndhfopllmbjhaa.Ev
set_option linter.unusedVariables false
open Go
def str2 : ByteArray := ⟨#[45, 48]⟩
def str3 : ByteArray := ⟨#[45]⟩
def str4 : ByteArray := ⟨#[45, 55]⟩
def str5 : ByteArray := ⟨#[45, 52]⟩
def str6 : ByteArray := ⟨#[49]⟩
def str7 : ByteArray := ⟨#[53]⟩
noncomputable def ty2 : TI := ⟨.int .i64, 1, 8, [.int .i64 0]⟩
noncomputable def ty4 : TI := ⟨.bool, 1, 1, [.bool false]⟩
noncomputable def ty27 : TI := ⟨.struct [(4, 0), (25, 1)], 2, 32, [.bool false, .slice none 0 0]⟩
noncomputable def ty33 : TI := ⟨.struct [(4, 0), (31, 1)], 2, 32, [.bool false, .slice none 0 0]⟩
noncomputable def ty39 : TI := ⟨.slice 87, 1, 24, [.slice none 0 0]⟩
noncomputable def ty41 : TI := ⟨.struct [(4, 0), (39, 1)], 2, 32, [.bool false, .slice none 0 0]⟩
noncomputable def ty87 : TI := ⟨.int .u16, 1, 2, [.int .u16 0]⟩
theorem ty2_ok : TyOK1 Try.prog 2 ty2 := tyok_of (by kernel_rfl) (by kernel_rfl) (by kernel_rfl) (by kernel_rfl) (by kernel_rfl) (by kernel_rfl) (by kernel_rfl) (Try.underlying2) (by kernel_rfl)
theorem ty4_ok : TyOK1 Try.prog 4 ty4 := tyok_of (by kernel_rfl) (by kernel_rfl) (by kernel_rfl) (by kernel_rfl) (by kernel_rfl) (by kernel_rfl) (by kernel_rfl) (Try.underlying4) (by kernel_rfl)
theorem ty27_ok : TyOK1 Try.prog 27 ty27 := tyok_of (by kernel_rfl) (by kernel_rfl) (by kernel_rfl) (by kernel_rfl) (by kernel_rfl) (by kernel_rfl) (by kernel_rfl) (tk_struct Try.underlying27 (by kernel_rfl) (by kernel_rfl)) (by kernel_rfl)
theorem ty33_ok : TyOK1 Try.prog 33 ty33 := tyok_of (by kernel_rfl) (by kernel_rfl) (by kernel_rfl) (by kernel_rfl) (by kernel_rfl) (by kernel_rfl) (by kernel_rfl) (tk_struct Try.underlying33 (by kernel_rfl) (by kernel_rfl)) (by kernel_rfl)
theorem ty39_ok : TyOK1 Try.prog 39 ty39 := tyok_of (by kernel_rfl) (by kernel_rfl) (by kernel_rfl) (by kernel_rfl) (by kernel_rfl) (by kernel_rfl) (by kernel_rfl) (Try.underlying39) (by kernel_rfl)
theorem ty41_ok : TyOK1 Try.prog 41 ty41 := tyok_of (by kernel_rfl) (by kernel_rfl) (by kernel_rfl) (by kernel_rfl) (by kernel_rfl) (by kernel_rfl) (by kernel_rfl) (tk_struct Try.underlying41 (by kernel_rfl) (by kernel_rfl)) (by kernel_rfl)
theorem ty87_ok : TyOK1 Try.prog 87 ty87 := tyok_of (by kernel_rfl) (by kernel_rfl) (by kernel_rfl) (by kernel_rfl) (by kernel_rfl) (by kernel_rfl) (by kernel_rfl) (Try.underlying87) (by kernel_rfl)
/-! parquet/zint.Make: function 26 -/
noncomputable def zint_Make.f (N : Nat) (a1 : Bool) (a2 : List Int) : Option (Bool × List Int) :=
  bif a1 then
    (nat_Nat_Bits.f N a2).bind fun r3 =>
    some (decide (r3 > 0), a2)
  else
  some (false, a2)
noncomputable def zint_Make.body : Code := (Try.f26.body).getD .skip
noncomputable def zint_Make.ty : List (Nat × TI) := [(4, ty4), (25, ty25), (27, ty27)]
noncomputable def zint_Make.E (N : Nat) : Env := { ty := lookN zint_Make.ty, tab := lookN [(53, nat_Nat_Bits.ent N)], hint := lookN [], cut := lookN [], N := N, res := [.cell 4 27], rsh := [.recd [.any, .il .u32 1]], nb := 0, ntmps := 13, own := false }
noncomputable def zint_Make.dec (v : V) (bs : List Blk) : Option (Bool × List Int) := match v, bs with
  | .agg [.c (.bool z0), .il .u32 1 z1], [] => some (z0, z1)
  | _, _ => none
set_option maxRecDepth 100000 in
theorem zint_Make.f_eq (N : Nat) (a1 : Bool) (a2 : List Int) :
    evFun (zint_Make.E N) zint_Make.body [.c (.bool a1), .agg [.il .u32 1 a2]] [] zint_Make.dec = zint_Make.f N a1 a2 := by kernel_rfl
noncomputable def zint_Make.ent (N : Nat) : Entry := { A := Bool × List Int, fresh := 0, imm := [true, true], dec := fun args bs => match freezeL 0 (fun _ => .dead) [.any, .recd [.il .u32 1]] args, bs with
  | some [.c (.bool a1), .agg [.il .u32 1 a2]], [] => some (zint_Make.f N a1 a2, fun r => .one (.agg [.c (.bool r.1), .il .u32 1 r.2]) [])
  | _, _ => none }
theorem zint_Make.env (N : Nat) : EnvOK Try.prog (zint_Make.E N) := ⟨(TyOK.cons ty4_ok (TyOK.cons ty25_ok (TyOK.cons ty27_ok TyOK.nil))), (TabOK.cons (nat_Nat_Bits.ent_ok N) TabOK.nil)⟩
theorem zint_Make.res_eq (N : Nat) : (zint_Make.E N).res = Try.f26.results.toList := by kernel_rfl
theorem zint_Make.spec (N : Nat) (a1 : Bool) (a2 : List Int) (r : Bool × List Int) (h : zint_Make.f N a1 a2 = some r) : FnSpec Try.prog 26 [.c (.bool a1), .agg [.il .u32 1 a2]] [] (.agg [.c (.bool r.1), .il .u32 1 r.2]) ([]) := by
  rw [← zint_Make.f_eq] at h
  obtain ⟨v, bs', h1, h2⟩ := evFun_ok (zint_Make.env N) Try_mixed Try.func26 (by kernel_rfl : Try.f26.body = some zint_Make.body) (by kernel_rfl) (zint_Make.res_eq N) (by kernel_rfl) (by kernel_rfl) (Nat.le_of_ble_eq_true (by kernel_rfl)) (AllCut.of (l := []) (by kernel_rfl) AllCut.nil) h
  unfold zint_Make.dec at h1; split at h1
  · cases h1; exact h2
  · cases h1
theorem zint_Make.ent_ok (N : Nat) : TabOK1 Try.prog 26 (zint_Make.ent N) := by
  intro args bs a enc h
  simp only [zint_Make.ent] at h
  split at h
  · rename_i hz; have h0 := Option.some.inj h; have h1 := congrArg Prod.fst h0; have h2 := congrArg Prod.snd h0; dsimp only at h1 h2; subst h2; exact FnSpec.of_freeze hz (zint_Make.spec N _ _ a h1)
  · cases h
/-! parquet/zint.Of: function 24 -/
noncomputable def zint_Of.f (N : Nat) (a1 : Int) : Option (Bool × List Int) :=
  bif decide (a1 < 0) then
    (nat_Of.f N (wu64 (0 - (wu64 a1)))).bind fun r2 =>
    some (true, r2)
  else
  (nat_Of.f N (wu64 a1)).bind fun r3 =>
  some (false, r3)
noncomputable def zint_Of.body : Code := (Try.f24.body).getD .skip
noncomputable def zint_Of.ty : List (Nat × TI) := [(2, ty2), (4, ty4), (25, ty25), (27, ty27), (54, ty54)]
noncomputable def zint_Of.E (N : Nat) : Env := { ty := lookN zint_Of.ty, tab := lookN [(27, nat_Of.ent N)], hint := lookN [], cut := lookN [], N := N, res := [.cell 2 27], rsh := [.recd [.any, .il .u32 1]], nb := 0, ntmps := 14, own := false }
noncomputable def zint_Of.dec (v : V) (bs : List Blk) : Option (Bool × List Int) := match v, bs with
  | .agg [.c (.bool z0), .il .u32 1 z1], [] => some (z0, z1)
  | _, _ => none
set_option maxRecDepth 100000 in
theorem zint_Of.f_eq (N : Nat) (a1 : Int) :
    evFun (zint_Of.E N) zint_Of.body [.c (.int .i64 a1)] [] zint_Of.dec = zint_Of.f N a1 := by kernel_rfl
noncomputable def zint_Of.ent (N : Nat) : Entry := { A := Bool × List Int, fresh := 0, imm := [true], dec := fun args bs => match freezeL 0 (fun _ => .dead) [.any] args, bs with
  | some [.c (.int .i64 a1)], [] => some (zint_Of.f N a1, fun r => .one (.agg [.c (.bool r.1), .il .u32 1 r.2]) [])
  | _, _ => none }
theorem zint_Of.env (N : Nat) : EnvOK Try.prog (zint_Of.E N) := ⟨(TyOK.cons ty2_ok (TyOK.cons ty4_ok (TyOK.cons ty25_ok (TyOK.cons ty27_ok (TyOK.cons ty54_ok TyOK.nil))))), (TabOK.cons (nat_Of.ent_ok N) TabOK.nil)⟩
theorem zint_Of.res_eq (N : Nat) : (zint_Of.E N).res = Try.f24.results.toList := by kernel_rfl
theorem zint_Of.spec (N : Nat) (a1 : Int) (r : Bool × List Int) (h : zint_Of.f N a1 = some r) : FnSpec Try.prog 24 [.c (.int .i64 a1)] [] (.agg [.c (.bool r.1), .il .u32 1 r.2]) ([]) := by
  rw [← zint_Of.f_eq] at h
  obtain ⟨v, bs', h1, h2⟩ := evFun_ok (zint_Of.env N) Try_mixed Try.func24 (by kernel_rfl : Try.f24.body = some zint_Of.body) (by kernel_rfl) (zint_Of.res_eq N) (by kernel_rfl) (by kernel_rfl) (Nat.le_of_ble_eq_true (by kernel_rfl)) (AllCut.of (l := []) (by kernel_rfl) AllCut.nil) h
  unfold zint_Of.dec at h1; split at h1
  · cases h1; exact h2
  · cases h1
theorem zint_Of.ent_ok (N : Nat) : TabOK1 Try.prog 24 (zint_Of.ent N) := by
  intro args bs a enc h
  simp only [zint_Of.ent] at h
  split at h
  · rename_i hz; have h0 := Option.some.inj h; have h1 := congrArg Prod.fst h0; have h2 := congrArg Prod.snd h0; dsimp only at h1 h2; subst h2; exact FnSpec.of_freeze hz (zint_Of.spec N _ a h1)
  · cases h
/-! parquet/zint.Parse: function 12 -/
noncomputable def zint_Parse.f (N : Nat) (a1 : ByteArray) : Option (Bool × List Int × Int) :=
  bif decide ((a1.size : Int) > 0) then
    bif decide (0 < (a1.size : Int)) then
      bif (byteAt a1 0) == 45 then
        bif ((decide (1 ≤ (a1.size : Int))) && (decide ((a1.size : Int) ≤ (a1.size : Int)))) && (decide ((a1.size : Int) ≤ (a1.size : Int))) then
          bif a1.toList == str2.toList then
            some (false, [], 12)
          else
          (nat_Parse.f N (a1.extract 1 ((a1.size : Int).toNat))).bind fun r2 =>
          bif r2.2 != 0 then
            some (false, [], r2.2)
          else
          (zint_Make.f N ((byteAt a1 0) == 45) r2.1).bind fun r3 =>
          some (r3.1, r3.2, 0)
        else none
      else
      bif a1.toList == str2.toList then
        some (false, [], 12)
      else
      (nat_Parse.f N a1).bind fun r4 =>
      bif r4.2 != 0 then
        some (false, [], r4.2)
      else
      (zint_Make.f N ((byteAt a1 0) == 45) r4.1).bind fun r5 =>
      some (r5.1, r5.2, 0)
    else none
  else
  bif a1.toList == str2.toList then
    some (false, [], 12)
  else
  (nat_Parse.f N a1).bind fun r6 =>
  bif r6.2 != 0 then
    some (false, [], r6.2)
  else
  (zint_Make.f N false r6.1).bind fun r7 =>
  some (r7.1, r7.2, 0)
noncomputable def zint_Parse.body : Code := (Try.f12.body).getD .skip
noncomputable def zint_Parse.ty : List (Nat × TI) := [(4, ty4), (9, ty9), (25, ty25), (27, ty27)]
noncomputable def zint_Parse.E (N : Nat) : Env := { ty := lookN zint_Parse.ty, tab := lookN [(49, nat_Parse.ent N), (26, zint_Make.ent N)], hint := lookN [], cut := lookN [], N := N, res := [.cell 2 27, .tmp 3], rsh := [.recd [.any, .il .u32 1], .any], nb := 0, ntmps := 35, own := false }
noncomputable def zint_Parse.dec (v : V) (bs : List Blk) : Option (Bool × List Int × Int) := match v, bs with
  | .tup [.agg [.c (.bool z0), .il .u32 1 z1], .c (.int .i64 z2)], [] => some (z0, z1, z2)
  | _, _ => none
set_option maxRecDepth 100000 in
theorem zint_Parse.f_eq (N : Nat) (a1 : ByteArray) :
    evFun (zint_Parse.E N) zint_Parse.body [.c (.string a1)] [] zint_Parse.dec = zint_Parse.f N a1 := by kernel_rfl
noncomputable def zint_Parse.ent (N : Nat) : Entry := { A := Bool × List Int × Int, fresh := 0, imm := [true], dec := fun args bs => match freezeL 0 (fun _ => .dead) [.any] args, bs with
  | some [.c (.string a1)], [] => some (zint_Parse.f N a1, fun r => .one (.tup [.agg [.c (.bool r.1), .il .u32 1 r.2.1], .c (.int .i64 r.2.2)]) [])
  | _, _ => none }
theorem zint_Parse.env (N : Nat) : EnvOK Try.prog (zint_Parse.E N) := ⟨(TyOK.cons ty4_ok (TyOK.cons ty9_ok (TyOK.cons ty25_ok (TyOK.cons ty27_ok TyOK.nil)))), (TabOK.cons (nat_Parse.ent_ok N) (TabOK.cons (zint_Make.ent_ok N) TabOK.nil))⟩
theorem zint_Parse.res_eq (N : Nat) : (zint_Parse.E N).res = Try.f12.results.toList := by kernel_rfl
theorem zint_Parse.spec (N : Nat) (a1 : ByteArray) (r : Bool × List Int × Int) (h : zint_Parse.f N a1 = some r) : FnSpec Try.prog 12 [.c (.string a1)] [] (.tup [.agg [.c (.bool r.1), .il .u32 1 r.2.1], .c (.int .i64 r.2.2)]) ([]) := by
  rw [← zint_Parse.f_eq] at h
  obtain ⟨v, bs', h1, h2⟩ := evFun_ok (zint_Parse.env N) Try_mixed Try.func12 (by kernel_rfl : Try.f12.body = some zint_Parse.body) (by kernel_rfl) (zint_Parse.res_eq N) (by kernel_rfl) (by kernel_rfl) (Nat.le_of_ble_eq_true (by kernel_rfl)) (AllCut.of (l := []) (by kernel_rfl) AllCut.nil) h
  unfold zint_Parse.dec at h1; split at h1
  · cases h1; exact h2
  · cases h1
theorem zint_Parse.ent_ok (N : Nat) : TabOK1 Try.prog 12 (zint_Parse.ent N) := by
  intro args bs a enc h
  simp only [zint_Parse.ent] at h
  split at h
  · rename_i hz; have h0 := Option.some.inj h; have h1 := congrArg Prod.fst h0; have h2 := congrArg Prod.snd h0; dsimp only at h1 h2; subst h2; exact FnSpec.of_freeze hz (zint_Parse.spec N _ a h1)
  · cases h
/-! (parquet/zint.Int).Text: function 14 -/
noncomputable def zint_Int_Text.f (N : Nat) (a1 : Bool) (a2 : List Int) : Option (ByteArray) :=
  bif a1 then
    (nat_Nat_Text.f N a2).bind fun r3 =>
    bif decide (((str3.size + r3.size : Nat) : Int) ≤ 9223372036854775807) then
      some (str3 ++ r3)
    else none
  else
  (nat_Nat_Text.f N a2).bind fun r4 =>
  some r4
noncomputable def zint_Int_Text.body : Code := (Try.f14.body).getD .skip
noncomputable def zint_Int_Text.ty : List (Nat × TI) := [(4, ty4), (25, ty25), (27, ty27)]
noncomputable def zint_Int_Text.E (N : Nat) : Env := { ty := lookN zint_Int_Text.ty, tab := lookN [(36, nat_Nat_Text.ent N)], hint := lookN [], cut := lookN [], N := N, res := [.tmp 2], rsh := [.any], nb := 0, ntmps := 12, own := false }
noncomputable def zint_Int_Text.dec (v : V) (bs : List Blk) : Option (ByteArray) := match v, bs with
  | .c (.string z0), [] => some z0
  | _, _ => none
set_option maxRecDepth 100000 in
theorem zint_Int_Text.f_eq (N : Nat) (a1 : Bool) (a2 : List Int) :
    evFun (zint_Int_Text.E N) zint_Int_Text.body [.agg [.c (.bool a1), .il .u32 1 a2]] [] zint_Int_Text.dec = zint_Int_Text.f N a1 a2 := by kernel_rfl
noncomputable def zint_Int_Text.ent (N : Nat) : Entry := { A := ByteArray, fresh := 0, imm := [true], dec := fun args bs => match freezeL 0 (fun _ => .dead) [.recd [.any, .il .u32 1]] args, bs with
  | some [.agg [.c (.bool a1), .il .u32 1 a2]], [] => some (zint_Int_Text.f N a1 a2, fun r => .one (.c (.string r)) [])
  | _, _ => none }
theorem zint_Int_Text.env (N : Nat) : EnvOK Try.prog (zint_Int_Text.E N) := ⟨(TyOK.cons ty4_ok (TyOK.cons ty25_ok (TyOK.cons ty27_ok TyOK.nil))), (TabOK.cons (nat_Nat_Text.ent_ok N) TabOK.nil)⟩
theorem zint_Int_Text.res_eq (N : Nat) : (zint_Int_Text.E N).res = Try.f14.results.toList := by kernel_rfl
theorem zint_Int_Text.spec (N : Nat) (a1 : Bool) (a2 : List Int) (r : ByteArray) (h : zint_Int_Text.f N a1 a2 = some r) : FnSpec Try.prog 14 [.agg [.c (.bool a1), .il .u32 1 a2]] [] (.c (.string r)) ([]) := by
  rw [← zint_Int_Text.f_eq] at h
  obtain ⟨v, bs', h1, h2⟩ := evFun_ok (zint_Int_Text.env N) Try_mixed Try.func14 (by kernel_rfl : Try.f14.body = some zint_Int_Text.body) (by kernel_rfl) (zint_Int_Text.res_eq N) (by kernel_rfl) (by kernel_rfl) (Nat.le_of_ble_eq_true (by kernel_rfl)) (AllCut.of (l := []) (by kernel_rfl) AllCut.nil) h
  unfold zint_Int_Text.dec at h1; split at h1
  · cases h1; exact h2
  · cases h1
theorem zint_Int_Text.ent_ok (N : Nat) : TabOK1 Try.prog 14 (zint_Int_Text.ent N) := by
  intro args bs a enc h
  simp only [zint_Int_Text.ent] at h
  split at h
  · rename_i hz; have h0 := Option.some.inj h; have h1 := congrArg Prod.fst h0; have h2 := congrArg Prod.snd h0; dsimp only at h1 h2; subst h2; exact FnSpec.of_freeze hz (zint_Int_Text.spec N _ _ a h1)
  · cases h
/-! (parquet/zint.Int).Int64: function 30 -/
noncomputable def zint_Int_Int64.f (N : Nat) (a1 : Bool) (a2 : List Int) : Option (Int × Bool) :=
  (nat_Nat_Uint64.f N a2).bind fun r3 =>
  bif !r3.2 then
    some (0, false)
  else
  bif decide (r3.1 > 9223372036854775808) then
    some (0, false)
  else
  bif r3.1 == 9223372036854775808 then
    bif !a1 then
      some (0, false)
    else
    bif a1 then
      some (wi64 (wu64 (0 - r3.1)), true)
    else
    some (wi64 r3.1, true)
  else
  bif a1 then
    some (wi64 (wu64 (0 - r3.1)), true)
  else
  some (wi64 r3.1, true)
noncomputable def zint_Int_Int64.body : Code := (Try.f30.body).getD .skip
noncomputable def zint_Int_Int64.ty : List (Nat × TI) := [(2, ty2), (4, ty4), (25, ty25), (27, ty27), (54, ty54)]
noncomputable def zint_Int_Int64.E (N : Nat) : Env := { ty := lookN zint_Int_Int64.ty, tab := lookN [(60, nat_Nat_Uint64.ent N)], hint := lookN [], cut := lookN [], N := N, res := [.tmp 2, .tmp 3], rsh := [.any, .any], nb := 0, ntmps := 36, own := false }
noncomputable def zint_Int_Int64.dec (v : V) (bs : List Blk) : Option (Int × Bool) := match v, bs with
  | .tup [.c (.int .i64 z0), .c (.bool z1)], [] => some (z0, z1)
  | _, _ => none
set_option maxRecDepth 100000 in
theorem zint_Int_Int64.f_eq (N : Nat) (a1 : Bool) (a2 : List Int) :
    evFun (zint_Int_Int64.E N) zint_Int_Int64.body [.agg [.c (.bool a1), .il .u32 1 a2]] [] zint_Int_Int64.dec = zint_Int_Int64.f N a1 a2 := by kernel_rfl
noncomputable def zint_Int_Int64.ent (N : Nat) : Entry := { A := Int × Bool, fresh := 0, imm := [true], dec := fun args bs => match freezeL 0 (fun _ => .dead) [.recd [.any, .il .u32 1]] args, bs with
  | some [.agg [.c (.bool a1), .il .u32 1 a2]], [] => some (zint_Int_Int64.f N a1 a2, fun r => .one (.tup [.c (.int .i64 r.1), .c (.bool r.2)]) [])
  | _, _ => none }
theorem zint_Int_Int64.env (N : Nat) : EnvOK Try.prog (zint_Int_Int64.E N) := ⟨(TyOK.cons ty2_ok (TyOK.cons ty4_ok (TyOK.cons ty25_ok (TyOK.cons ty27_ok (TyOK.cons ty54_ok TyOK.nil))))), (TabOK.cons (nat_Nat_Uint64.ent_ok N) TabOK.nil)⟩
theorem zint_Int_Int64.res_eq (N : Nat) : (zint_Int_Int64.E N).res = Try.f30.results.toList := by kernel_rfl
theorem zint_Int_Int64.spec (N : Nat) (a1 : Bool) (a2 : List Int) (r : Int × Bool) (h : zint_Int_Int64.f N a1 a2 = some r) : FnSpec Try.prog 30 [.agg [.c (.bool a1), .il .u32 1 a2]] [] (.tup [.c (.int .i64 r.1), .c (.bool r.2)]) ([]) := by
  rw [← zint_Int_Int64.f_eq] at h
  obtain ⟨v, bs', h1, h2⟩ := evFun_ok (zint_Int_Int64.env N) Try_mixed Try.func30 (by kernel_rfl : Try.f30.body = some zint_Int_Int64.body) (by kernel_rfl) (zint_Int_Int64.res_eq N) (by kernel_rfl) (by kernel_rfl) (Nat.le_of_ble_eq_true (by kernel_rfl)) (AllCut.of (l := []) (by kernel_rfl) AllCut.nil) h
  unfold zint_Int_Int64.dec at h1; split at h1
  · cases h1; exact h2
  · cases h1
theorem zint_Int_Int64.ent_ok (N : Nat) : TabOK1 Try.prog 30 (zint_Int_Int64.ent N) := by
  intro args bs a enc h
  simp only [zint_Int_Int64.ent] at h
  split at h
  · rename_i hz; have h0 := Option.some.inj h; have h1 := congrArg Prod.fst h0; have h2 := congrArg Prod.snd h0; dsimp only at h1 h2; subst h2; exact FnSpec.of_freeze hz (zint_Int_Int64.spec N _ _ a h1)
  · cases h
/-! (parquet/zint.Int).Sign: function 21 -/
noncomputable def zint_Int_Sign.f (N : Nat) (a1 : Bool) (a2 : List Int) : Option (Int) :=
  (nat_Nat_Bits.f N a2).bind fun r3 =>
  bif r3 == 0 then
    some 0
  else
  bif a1 then
    some (-1)
  else
  some 1
noncomputable def zint_Int_Sign.body : Code := (Try.f21.body).getD .skip
noncomputable def zint_Int_Sign.ty : List (Nat × TI) := [(4, ty4), (25, ty25), (27, ty27)]
noncomputable def zint_Int_Sign.E (N : Nat) : Env := { ty := lookN zint_Int_Sign.ty, tab := lookN [(53, nat_Nat_Bits.ent N)], hint := lookN [], cut := lookN [], N := N, res := [.tmp 2], rsh := [.any], nb := 0, ntmps := 11, own := false }
noncomputable def zint_Int_Sign.dec (v : V) (bs : List Blk) : Option (Int) := match v, bs with
  | .c (.int .i64 z0), [] => some z0
  | _, _ => none
set_option maxRecDepth 100000 in
theorem zint_Int_Sign.f_eq (N : Nat) (a1 : Bool) (a2 : List Int) :
    evFun (zint_Int_Sign.E N) zint_Int_Sign.body [.agg [.c (.bool a1), .il .u32 1 a2]] [] zint_Int_Sign.dec = zint_Int_Sign.f N a1 a2 := by kernel_rfl
noncomputable def zint_Int_Sign.ent (N : Nat) : Entry := { A := Int, fresh := 0, imm := [true], dec := fun args bs => match freezeL 0 (fun _ => .dead) [.recd [.any, .il .u32 1]] args, bs with
  | some [.agg [.c (.bool a1), .il .u32 1 a2]], [] => some (zint_Int_Sign.f N a1 a2, fun r => .one (.c (.int .i64 r)) [])
  | _, _ => none }
theorem zint_Int_Sign.env (N : Nat) : EnvOK Try.prog (zint_Int_Sign.E N) := ⟨(TyOK.cons ty4_ok (TyOK.cons ty25_ok (TyOK.cons ty27_ok TyOK.nil))), (TabOK.cons (nat_Nat_Bits.ent_ok N) TabOK.nil)⟩
theorem zint_Int_Sign.res_eq (N : Nat) : (zint_Int_Sign.E N).res = Try.f21.results.toList := by kernel_rfl
theorem zint_Int_Sign.spec (N : Nat) (a1 : Bool) (a2 : List Int) (r : Int) (h : zint_Int_Sign.f N a1 a2 = some r) : FnSpec Try.prog 21 [.agg [.c (.bool a1), .il .u32 1 a2]] [] (.c (.int .i64 r)) ([]) := by
  rw [← zint_Int_Sign.f_eq] at h
  obtain ⟨v, bs', h1, h2⟩ := evFun_ok (zint_Int_Sign.env N) Try_mixed Try.func21 (by kernel_rfl : Try.f21.body = some zint_Int_Sign.body) (by kernel_rfl) (zint_Int_Sign.res_eq N) (by kernel_rfl) (by kernel_rfl) (Nat.le_of_ble_eq_true (by kernel_rfl)) (AllCut.of (l := []) (by kernel_rfl) AllCut.nil) h
  unfold zint_Int_Sign.dec at h1; split at h1
  · cases h1; exact h2
  · cases h1
theorem zint_Int_Sign.ent_ok (N : Nat) : TabOK1 Try.prog 21 (zint_Int_Sign.ent N) := by
  intro args bs a enc h
  simp only [zint_Int_Sign.ent] at h
  split at h
  · rename_i hz; have h0 := Option.some.inj h; have h1 := congrArg Prod.fst h0; have h2 := congrArg Prod.snd h0; dsimp only at h1 h2; subst h2; exact FnSpec.of_freeze hz (zint_Int_Sign.spec N _ _ a h1)
  · cases h
/-! (parquet/zint.Int).Abs: function 35 -/
noncomputable def zint_Int_Abs.f (N : Nat) (a1 : Bool) (a2 : List Int) : Option (List Int) :=
  some a2
noncomputable def zint_Int_Abs.body : Code := (Try.f35.body).getD .skip
noncomputable def zint_Int_Abs.ty : List (Nat × TI) := [(25, ty25), (27, ty27)]
noncomputable def zint_Int_Abs.E (N : Nat) : Env := { ty := lookN zint_Int_Abs.ty, tab := lookN [], hint := lookN [], cut := lookN [], N := N, res := [.cell 2 25], rsh := [.recd [.il .u32 1]], nb := 0, ntmps := 5, own := false }
noncomputable def zint_Int_Abs.dec (v : V) (bs : List Blk) : Option (List Int) := match v, bs with
  | .agg [.il .u32 1 z0], [] => some z0
  | _, _ => none
set_option maxRecDepth 100000 in
theorem zint_Int_Abs.f_eq (N : Nat) (a1 : Bool) (a2 : List Int) :
    evFun (zint_Int_Abs.E N) zint_Int_Abs.body [.agg [.c (.bool a1), .il .u32 1 a2]] [] zint_Int_Abs.dec = zint_Int_Abs.f N a1 a2 := by kernel_rfl
noncomputable def zint_Int_Abs.ent (N : Nat) : Entry := { A := List Int, fresh := 0, imm := [true], dec := fun args bs => match freezeL 0 (fun _ => .dead) [.recd [.any, .il .u32 1]] args, bs with
  | some [.agg [.c (.bool a1), .il .u32 1 a2]], [] => some (zint_Int_Abs.f N a1 a2, fun r => .one (.agg [.il .u32 1 r]) [])
  | _, _ => none }
theorem zint_Int_Abs.env (N : Nat) : EnvOK Try.prog (zint_Int_Abs.E N) := ⟨(TyOK.cons ty25_ok (TyOK.cons ty27_ok TyOK.nil)), TabOK.nil⟩
theorem zint_Int_Abs.res_eq (N : Nat) : (zint_Int_Abs.E N).res = Try.f35.results.toList := by kernel_rfl
theorem zint_Int_Abs.spec (N : Nat) (a1 : Bool) (a2 : List Int) (r : List Int) (h : zint_Int_Abs.f N a1 a2 = some r) : FnSpec Try.prog 35 [.agg [.c (.bool a1), .il .u32 1 a2]] [] (.agg [.il .u32 1 r]) ([]) := by
  rw [← zint_Int_Abs.f_eq] at h
  obtain ⟨v, bs', h1, h2⟩ := evFun_ok (zint_Int_Abs.env N) Try_mixed Try.func35 (by kernel_rfl : Try.f35.body = some zint_Int_Abs.body) (by kernel_rfl) (zint_Int_Abs.res_eq N) (by kernel_rfl) (by kernel_rfl) (Nat.le_of_ble_eq_true (by kernel_rfl)) (AllCut.of (l := []) (by kernel_rfl) AllCut.nil) h
  unfold zint_Int_Abs.dec at h1; split at h1
  · cases h1; exact h2
  · cases h1
theorem zint_Int_Abs.ent_ok (N : Nat) : TabOK1 Try.prog 35 (zint_Int_Abs.ent N) := by
  intro args bs a enc h
  simp only [zint_Int_Abs.ent] at h
  split at h
  · rename_i hz; have h0 := Option.some.inj h; have h1 := congrArg Prod.fst h0; have h2 := congrArg Prod.snd h0; dsimp only at h1 h2; subst h2; exact FnSpec.of_freeze hz (zint_Int_Abs.spec N _ _ a h1)
  · cases h
/-! parquet/zint.Cmp: function 33 -/
noncomputable def zint_Cmp.f (N : Nat) (a1 : Bool) (a2 : List Int) (a3 : Bool) (a4 : List Int) : Option (Int) :=
  bif a1 then
    bif a3 then
      (nat_Cmp.f N a4 a2).bind fun r5 =>
      some r5
    else
    bif a1 then
      some (-1)
    else
    bif a3 then
      some 1
    else
    (nat_Cmp.f N a2 a4).bind fun r6 =>
    some r6
  else
  bif a1 then
    some (-1)
  else
  bif a3 then
    some 1
  else
  (nat_Cmp.f N a2 a4).bind fun r7 =>
  some r7
noncomputable def zint_Cmp.body : Code := (Try.f33.body).getD .skip
noncomputable def zint_Cmp.ty : List (Nat × TI) := [(4, ty4), (25, ty25), (27, ty27)]
noncomputable def zint_Cmp.E (N : Nat) : Env := { ty := lookN zint_Cmp.ty, tab := lookN [(62, nat_Cmp.ent N)], hint := lookN [], cut := lookN [], N := N, res := [.tmp 4], rsh := [.any], nb := 0, ntmps := 28, own := false }
noncomputable def zint_Cmp.dec (v : V) (bs : List Blk) : Option (Int) := match v, bs with
  | .c (.int .i64 z0), [] => some z0
  | _, _ => none
set_option maxRecDepth 100000 in
theorem zint_Cmp.f_eq (N : Nat) (a1 : Bool) (a2 : List Int) (a3 : Bool) (a4 : List Int) :
    evFun (zint_Cmp.E N) zint_Cmp.body [.agg [.c (.bool a1), .il .u32 1 a2], .agg [.c (.bool a3), .il .u32 1 a4]] [] zint_Cmp.dec = zint_Cmp.f N a1 a2 a3 a4 := by kernel_rfl
noncomputable def zint_Cmp.ent (N : Nat) : Entry := { A := Int, fresh := 0, imm := [true, true], dec := fun args bs => match freezeL 0 (fun _ => .dead) [.recd [.any, .il .u32 1], .recd [.any, .il .u32 1]] args, bs with
  | some [.agg [.c (.bool a1), .il .u32 1 a2], .agg [.c (.bool a3), .il .u32 1 a4]], [] => some (zint_Cmp.f N a1 a2 a3 a4, fun r => .one (.c (.int .i64 r)) [])
  | _, _ => none }
theorem zint_Cmp.env (N : Nat) : EnvOK Try.prog (zint_Cmp.E N) := ⟨(TyOK.cons ty4_ok (TyOK.cons ty25_ok (TyOK.cons ty27_ok TyOK.nil))), (TabOK.cons (nat_Cmp.ent_ok N) TabOK.nil)⟩
theorem zint_Cmp.res_eq (N : Nat) : (zint_Cmp.E N).res = Try.f33.results.toList := by kernel_rfl
theorem zint_Cmp.spec (N : Nat) (a1 : Bool) (a2 : List Int) (a3 : Bool) (a4 : List Int) (r : Int) (h : zint_Cmp.f N a1 a2 a3 a4 = some r) : FnSpec Try.prog 33 [.agg [.c (.bool a1), .il .u32 1 a2], .agg [.c (.bool a3), .il .u32 1 a4]] [] (.c (.int .i64 r)) ([]) := by
  rw [← zint_Cmp.f_eq] at h
  obtain ⟨v, bs', h1, h2⟩ := evFun_ok (zint_Cmp.env N) Try_mixed Try.func33 (by kernel_rfl : Try.f33.body = some zint_Cmp.body) (by kernel_rfl) (zint_Cmp.res_eq N) (by kernel_rfl) (by kernel_rfl) (Nat.le_of_ble_eq_true (by kernel_rfl)) (AllCut.of (l := []) (by kernel_rfl) AllCut.nil) h
  unfold zint_Cmp.dec at h1; split at h1
  · cases h1; exact h2
  · cases h1
theorem zint_Cmp.ent_ok (N : Nat) : TabOK1 Try.prog 33 (zint_Cmp.ent N) := by
  intro args bs a enc h
  simp only [zint_Cmp.ent] at h
  split at h
  · rename_i hz; have h0 := Option.some.inj h; have h1 := congrArg Prod.fst h0; have h2 := congrArg Prod.snd h0; dsimp only at h1 h2; subst h2; exact FnSpec.of_freeze hz (zint_Cmp.spec N _ _ _ _ a h1)
  · cases h
/-! parquet/zint.Neg: function 41 -/
noncomputable def zint_Neg.f (N : Nat) (a1 : Bool) (a2 : List Int) : Option (Bool × List Int) :=
  (zint_Make.f N (!a1) a2).bind fun r3 =>
  some (r3.1, r3.2)
noncomputable def zint_Neg.body : Code := (Try.f41.body).getD .skip
noncomputable def zint_Neg.ty : List (Nat × TI) := [(4, ty4), (25, ty25), (27, ty27)]
noncomputable def zint_Neg.E (N : Nat) : Env := { ty := lookN zint_Neg.ty, tab := lookN [(26, zint_Make.ent N)], hint := lookN [], cut := lookN [], N := N, res := [.cell 2 27], rsh := [.recd [.any, .il .u32 1]], nb := 0, ntmps := 9, own := false }
noncomputable def zint_Neg.dec (v : V) (bs : List Blk) : Option (Bool × List Int) := match v, bs with
  | .agg [.c (.bool z0), .il .u32 1 z1], [] => some (z0, z1)
  | _, _ => none
set_option maxRecDepth 100000 in
theorem zint_Neg.f_eq (N : Nat) (a1 : Bool) (a2 : List Int) :
    evFun (zint_Neg.E N) zint_Neg.body [.agg [.c (.bool a1), .il .u32 1 a2]] [] zint_Neg.dec = zint_Neg.f N a1 a2 := by kernel_rfl
noncomputable def zint_Neg.ent (N : Nat) : Entry := { A := Bool × List Int, fresh := 0, imm := [true], dec := fun args bs => match freezeL 0 (fun _ => .dead) [.recd [.any, .il .u32 1]] args, bs with
  | some [.agg [.c (.bool a1), .il .u32 1 a2]], [] => some (zint_Neg.f N a1 a2, fun r => .one (.agg [.c (.bool r.1), .il .u32 1 r.2]) [])
  | _, _ => none }
theorem zint_Neg.env (N : Nat) : EnvOK Try.prog (zint_Neg.E N) := ⟨(TyOK.cons ty4_ok (TyOK.cons ty25_ok (TyOK.cons ty27_ok TyOK.nil))), (TabOK.cons (zint_Make.ent_ok N) TabOK.nil)⟩
theorem zint_Neg.res_eq (N : Nat) : (zint_Neg.E N).res = Try.f41.results.toList := by kernel_rfl
theorem zint_Neg.spec (N : Nat) (a1 : Bool) (a2 : List Int) (r : Bool × List Int) (h : zint_Neg.f N a1 a2 = some r) : FnSpec Try.prog 41 [.agg [.c (.bool a1), .il .u32 1 a2]] [] (.agg [.c (.bool r.1), .il .u32 1 r.2]) ([]) := by
  rw [← zint_Neg.f_eq] at h
  obtain ⟨v, bs', h1, h2⟩ := evFun_ok (zint_Neg.env N) Try_mixed Try.func41 (by kernel_rfl : Try.f41.body = some zint_Neg.body) (by kernel_rfl) (zint_Neg.res_eq N) (by kernel_rfl) (by kernel_rfl) (Nat.le_of_ble_eq_true (by kernel_rfl)) (AllCut.of (l := []) (by kernel_rfl) AllCut.nil) h
  unfold zint_Neg.dec at h1; split at h1
  · cases h1; exact h2
  · cases h1
theorem zint_Neg.ent_ok (N : Nat) : TabOK1 Try.prog 41 (zint_Neg.ent N) := by
  intro args bs a enc h
  simp only [zint_Neg.ent] at h
  split at h
  · rename_i hz; have h0 := Option.some.inj h; have h1 := congrArg Prod.fst h0; have h2 := congrArg Prod.snd h0; dsimp only at h1 h2; subst h2; exact FnSpec.of_freeze hz (zint_Neg.spec N _ _ a h1)
  · cases h
/-! parquet/zint.Add: function 38 -/
noncomputable def zint_Add.f (N : Nat) (a1 : Bool) (a2 : List Int) (a3 : Bool) (a4 : List Int) : Option (Bool × List Int × Int) :=
  bif a1 == a3 then
    (nat_Add.f N a2 a4).bind fun r5 =>
    (zint_Make.f N a1 r5.1).bind fun r6 =>
    some (r6.1, r6.2, r5.2)
  else
  (nat_Cmp.f N a2 a4).bind fun r7 =>
  bif decide (r7 < 0) then
    (nat_Sub.f N a4 a2).bind fun r8 =>
    (zint_Make.f N a3 r8.1).bind fun r9 =>
    some (r9.1, r9.2, r8.2)
  else
  (nat_Sub.f N a2 a4).bind fun r10 =>
  (zint_Make.f N a1 r10.1).bind fun r11 =>
  some (r11.1, r11.2, r10.2)
noncomputable def zint_Add.body : Code := (Try.f38.body).getD .skip
noncomputable def zint_Add.ty : List (Nat × TI) := [(4, ty4), (25, ty25), (27, ty27)]
noncomputable def zint_Add.E (N : Nat) : Env := { ty := lookN zint_Add.ty, tab := lookN [(54, nat_Add.ent N), (26, zint_Make.ent N), (62, nat_Cmp.ent N), (55, nat_Sub.ent N)], hint := lookN [], cut := lookN [], N := N, res := [.cell 4 27, .tmp 5], rsh := [.recd [.any, .il .u32 1], .any], nb := 0, ntmps := 49, own := false }
noncomputable def zint_Add.dec (v : V) (bs : List Blk) : Option (Bool × List Int × Int) := match v, bs with
  | .tup [.agg [.c (.bool z0), .il .u32 1 z1], .c (.int .i64 z2)], [] => some (z0, z1, z2)
  | _, _ => none
set_option maxRecDepth 100000 in
theorem zint_Add.f_eq (N : Nat) (a1 : Bool) (a2 : List Int) (a3 : Bool) (a4 : List Int) :
    evFun (zint_Add.E N) zint_Add.body [.agg [.c (.bool a1), .il .u32 1 a2], .agg [.c (.bool a3), .il .u32 1 a4]] [] zint_Add.dec = zint_Add.f N a1 a2 a3 a4 := by kernel_rfl
noncomputable def zint_Add.ent (N : Nat) : Entry := { A := Bool × List Int × Int, fresh := 0, imm := [true, true], dec := fun args bs => match freezeL 0 (fun _ => .dead) [.recd [.any, .il .u32 1], .recd [.any, .il .u32 1]] args, bs with
  | some [.agg [.c (.bool a1), .il .u32 1 a2], .agg [.c (.bool a3), .il .u32 1 a4]], [] => some (zint_Add.f N a1 a2 a3 a4, fun r => .one (.tup [.agg [.c (.bool r.1), .il .u32 1 r.2.1], .c (.int .i64 r.2.2)]) [])
  | _, _ => none }
theorem zint_Add.env (N : Nat) : EnvOK Try.prog (zint_Add.E N) := ⟨(TyOK.cons ty4_ok (TyOK.cons ty25_ok (TyOK.cons ty27_ok TyOK.nil))), (TabOK.cons (nat_Add.ent_ok N) (TabOK.cons (zint_Make.ent_ok N) (TabOK.cons (nat_Cmp.ent_ok N) (TabOK.cons (nat_Sub.ent_ok N) TabOK.nil))))⟩
theorem zint_Add.res_eq (N : Nat) : (zint_Add.E N).res = Try.f38.results.toList := by kernel_rfl
theorem zint_Add.spec (N : Nat) (a1 : Bool) (a2 : List Int) (a3 : Bool) (a4 : List Int) (r : Bool × List Int × Int) (h : zint_Add.f N a1 a2 a3 a4 = some r) : FnSpec Try.prog 38 [.agg [.c (.bool a1), .il .u32 1 a2], .agg [.c (.bool a3), .il .u32 1 a4]] [] (.tup [.agg [.c (.bool r.1), .il .u32 1 r.2.1], .c (.int .i64 r.2.2)]) ([]) := by
  rw [← zint_Add.f_eq] at h
  obtain ⟨v, bs', h1, h2⟩ := evFun_ok (zint_Add.env N) Try_mixed Try.func38 (by kernel_rfl : Try.f38.body = some zint_Add.body) (by kernel_rfl) (zint_Add.res_eq N) (by kernel_rfl) (by kernel_rfl) (Nat.le_of_ble_eq_true (by kernel_rfl)) (AllCut.of (l := []) (by kernel_rfl) AllCut.nil) h
  unfold zint_Add.dec at h1; split at h1
  · cases h1; exact h2
  · cases h1
theorem zint_Add.ent_ok (N : Nat) : TabOK1 Try.prog 38 (zint_Add.ent N) := by
  intro args bs a enc h
  simp only [zint_Add.ent] at h
  split at h
  · rename_i hz; have h0 := Option.some.inj h; have h1 := congrArg Prod.fst h0; have h2 := congrArg Prod.snd h0; dsimp only at h1 h2; subst h2; exact FnSpec.of_freeze hz (zint_Add.spec N _ _ _ _ a h1)
  · cases h
/-! parquet/zint.Sub: function 39 -/
noncomputable def zint_Sub.f (N : Nat) (a1 : Bool) (a2 : List Int) (a3 : Bool) (a4 : List Int) : Option (Bool × List Int × Int) :=
  (zint_Neg.f N a3 a4).bind fun r5 =>
  (zint_Add.f N a1 a2 r5.1 r5.2).bind fun r6 =>
  some (r6.1, r6.2.1, r6.2.2)
noncomputable def zint_Sub.body : Code := (Try.f39.body).getD .skip
noncomputable def zint_Sub.ty : List (Nat × TI) := [(27, ty27)]
noncomputable def zint_Sub.E (N : Nat) : Env := { ty := lookN zint_Sub.ty, tab := lookN [(41, zint_Neg.ent N), (38, zint_Add.ent N)], hint := lookN [], cut := lookN [], N := N, res := [.cell 4 27, .tmp 5], rsh := [.recd [.any, .il .u32 1], .any], nb := 0, ntmps := 12, own := false }
noncomputable def zint_Sub.dec (v : V) (bs : List Blk) : Option (Bool × List Int × Int) := match v, bs with
  | .tup [.agg [.c (.bool z0), .il .u32 1 z1], .c (.int .i64 z2)], [] => some (z0, z1, z2)
  | _, _ => none
set_option maxRecDepth 100000 in
theorem zint_Sub.f_eq (N : Nat) (a1 : Bool) (a2 : List Int) (a3 : Bool) (a4 : List Int) :
    evFun (zint_Sub.E N) zint_Sub.body [.agg [.c (.bool a1), .il .u32 1 a2], .agg [.c (.bool a3), .il .u32 1 a4]] [] zint_Sub.dec = zint_Sub.f N a1 a2 a3 a4 := by kernel_rfl
noncomputable def zint_Sub.ent (N : Nat) : Entry := { A := Bool × List Int × Int, fresh := 0, imm := [true, true], dec := fun args bs => match freezeL 0 (fun _ => .dead) [.recd [.any, .il .u32 1], .recd [.any, .il .u32 1]] args, bs with
  | some [.agg [.c (.bool a1), .il .u32 1 a2], .agg [.c (.bool a3), .il .u32 1 a4]], [] => some (zint_Sub.f N a1 a2 a3 a4, fun r => .one (.tup [.agg [.c (.bool r.1), .il .u32 1 r.2.1], .c (.int .i64 r.2.2)]) [])
  | _, _ => none }
theorem zint_Sub.env (N : Nat) : EnvOK Try.prog (zint_Sub.E N) := ⟨(TyOK.cons ty27_ok TyOK.nil), (TabOK.cons (zint_Neg.ent_ok N) (TabOK.cons (zint_Add.ent_ok N) TabOK.nil))⟩
theorem zint_Sub.res_eq (N : Nat) : (zint_Sub.E N).res = Try.f39.results.toList := by kernel_rfl
theorem zint_Sub.spec (N : Nat) (a1 : Bool) (a2 : List Int) (a3 : Bool) (a4 : List Int) (r : Bool × List Int × Int) (h : zint_Sub.f N a1 a2 a3 a4 = some r) : FnSpec Try.prog 39 [.agg [.c (.bool a1), .il .u32 1 a2], .agg [.c (.bool a3), .il .u32 1 a4]] [] (.tup [.agg [.c (.bool r.1), .il .u32 1 r.2.1], .c (.int .i64 r.2.2)]) ([]) := by
  rw [← zint_Sub.f_eq] at h
  obtain ⟨v, bs', h1, h2⟩ := evFun_ok (zint_Sub.env N) Try_mixed Try.func39 (by kernel_rfl : Try.f39.body = some zint_Sub.body) (by kernel_rfl) (zint_Sub.res_eq N) (by kernel_rfl) (by kernel_rfl) (Nat.le_of_ble_eq_true (by kernel_rfl)) (AllCut.of (l := []) (by kernel_rfl) AllCut.nil) h
  unfold zint_Sub.dec at h1; split at h1
  · cases h1; exact h2
  · cases h1
theorem zint_Sub.ent_ok (N : Nat) : TabOK1 Try.prog 39 (zint_Sub.ent N) := by
  intro args bs a enc h
  simp only [zint_Sub.ent] at h
  split at h
  · rename_i hz; have h0 := Option.some.inj h; have h1 := congrArg Prod.fst h0; have h2 := congrArg Prod.snd h0; dsimp only at h1 h2; subst h2; exact FnSpec.of_freeze hz (zint_Sub.spec N _ _ _ _ a h1)
  · cases h
/-! parquet/zint.Mul: function 40 -/
noncomputable def zint_Mul.f (N : Nat) (a1 : Bool) (a2 : List Int) (a3 : Bool) (a4 : List Int) : Option (Bool × List Int × Int) :=
  (nat_Mul.f N a2 a4).bind fun r5 =>
  (zint_Make.f N (!(a1 == a3)) r5.1).bind fun r6 =>
  some (r6.1, r6.2, r5.2)
noncomputable def zint_Mul.body : Code := (Try.f40.body).getD .skip
noncomputable def zint_Mul.ty : List (Nat × TI) := [(4, ty4), (25, ty25), (27, ty27)]
noncomputable def zint_Mul.E (N : Nat) : Env := { ty := lookN zint_Mul.ty, tab := lookN [(65, nat_Mul.ent N), (26, zint_Make.ent N)], hint := lookN [], cut := lookN [], N := N, res := [.cell 4 27, .tmp 5], rsh := [.recd [.any, .il .u32 1], .any], nb := 0, ntmps := 24, own := false }
noncomputable def zint_Mul.dec (v : V) (bs : List Blk) : Option (Bool × List Int × Int) := match v, bs with
  | .tup [.agg [.c (.bool z0), .il .u32 1 z1], .c (.int .i64 z2)], [] => some (z0, z1, z2)
  | _, _ => none
set_option maxRecDepth 100000 in
theorem zint_Mul.f_eq (N : Nat) (a1 : Bool) (a2 : List Int) (a3 : Bool) (a4 : List Int) :
    evFun (zint_Mul.E N) zint_Mul.body [.agg [.c (.bool a1), .il .u32 1 a2], .agg [.c (.bool a3), .il .u32 1 a4]] [] zint_Mul.dec = zint_Mul.f N a1 a2 a3 a4 := by kernel_rfl
noncomputable def zint_Mul.ent (N : Nat) : Entry := { A := Bool × List Int × Int, fresh := 0, imm := [true, true], dec := fun args bs => match freezeL 0 (fun _ => .dead) [.recd [.any, .il .u32 1], .recd [.any, .il .u32 1]] args, bs with
  | some [.agg [.c (.bool a1), .il .u32 1 a2], .agg [.c (.bool a3), .il .u32 1 a4]], [] => some (zint_Mul.f N a1 a2 a3 a4, fun r => .one (.tup [.agg [.c (.bool r.1), .il .u32 1 r.2.1], .c (.int .i64 r.2.2)]) [])
  | _, _ => none }
theorem zint_Mul.env (N : Nat) : EnvOK Try.prog (zint_Mul.E N) := ⟨(TyOK.cons ty4_ok (TyOK.cons ty25_ok (TyOK.cons ty27_ok TyOK.nil))), (TabOK.cons (nat_Mul.ent_ok N) (TabOK.cons (zint_Make.ent_ok N) TabOK.nil))⟩
theorem zint_Mul.res_eq (N : Nat) : (zint_Mul.E N).res = Try.f40.results.toList := by kernel_rfl
theorem zint_Mul.spec (N : Nat) (a1 : Bool) (a2 : List Int) (a3 : Bool) (a4 : List Int) (r : Bool × List Int × Int) (h : zint_Mul.f N a1 a2 a3 a4 = some r) : FnSpec Try.prog 40 [.agg [.c (.bool a1), .il .u32 1 a2], .agg [.c (.bool a3), .il .u32 1 a4]] [] (.tup [.agg [.c (.bool r.1), .il .u32 1 r.2.1], .c (.int .i64 r.2.2)]) ([]) := by
  rw [← zint_Mul.f_eq] at h
  obtain ⟨v, bs', h1, h2⟩ := evFun_ok (zint_Mul.env N) Try_mixed Try.func40 (by kernel_rfl : Try.f40.body = some zint_Mul.body) (by kernel_rfl) (zint_Mul.res_eq N) (by kernel_rfl) (by kernel_rfl) (Nat.le_of_ble_eq_true (by kernel_rfl)) (AllCut.of (l := []) (by kernel_rfl) AllCut.nil) h
  unfold zint_Mul.dec at h1; split at h1
  · cases h1; exact h2
  · cases h1
theorem zint_Mul.ent_ok (N : Nat) : TabOK1 Try.prog 40 (zint_Mul.ent N) := by
  intro args bs a enc h
  simp only [zint_Mul.ent] at h
  split at h
  · rename_i hz; have h0 := Option.some.inj h; have h1 := congrArg Prod.fst h0; have h2 := congrArg Prod.snd h0; dsimp only at h1 h2; subst h2; exact FnSpec.of_freeze hz (zint_Mul.spec N _ _ _ _ a h1)
  · cases h
/-! parquet/zint.Quo: function 18 -/
noncomputable def zint_Quo.f (N : Nat) (a1 : Bool) (a2 : List Int) (a3 : Bool) (a4 : List Int) : Option (Bool × List Int × Bool × List Int × Int) :=
  (nat_Div.f N a2 a4).bind fun r5 =>
  bif r5.2.2 != 0 then
    some (false, [], false, [], r5.2.2)
  else
  bif a1 then
    (nat_Nat_Bits.f N r5.2.1).bind fun r6 =>
    bif decide (r6 > 0) then
      (nat_Of.f N 1).bind fun r7 =>
      (nat_Add.f N r5.1 r7).bind fun r8 =>
      (nat_Sub.f N a4 r5.2.1).bind fun r9 =>
      (zint_Make.f N (!(a1 == a3)) r8.1).bind fun r10 =>
      (zint_Make.f N false r9.1).bind fun r11 =>
      some (r10.1, r10.2, r11.1, r11.2, 0)
    else
    (zint_Make.f N (!(a1 == a3)) r5.1).bind fun r12 =>
    (zint_Make.f N false r5.2.1).bind fun r13 =>
    some (r12.1, r12.2, r13.1, r13.2, 0)
  else
  (zint_Make.f N (!(a1 == a3)) r5.1).bind fun r14 =>
  (zint_Make.f N false r5.2.1).bind fun r15 =>
  some (r14.1, r14.2, r15.1, r15.2, 0)
noncomputable def zint_Quo.body : Code := (Try.f18.body).getD .skip
noncomputable def zint_Quo.ty : List (Nat × TI) := [(4, ty4), (25, ty25), (27, ty27)]
noncomputable def zint_Quo.E (N : Nat) : Env := { ty := lookN zint_Quo.ty, tab := lookN [(52, nat_Div.ent N), (53, nat_Nat_Bits.ent N), (27, nat_Of.ent N), (54, nat_Add.ent N), (55, nat_Sub.ent N), (26, zint_Make.ent N)], hint := lookN [], cut := lookN [], N := N, res := [.cell 4 27, .cell 5 27, .tmp 6], rsh := [.recd [.any, .il .u32 1], .recd [.any, .il .u32 1], .any], nb := 0, ntmps := 52, own := false }
noncomputable def zint_Quo.dec (v : V) (bs : List Blk) : Option (Bool × List Int × Bool × List Int × Int) := match v, bs with
  | .tup [.agg [.c (.bool z0), .il .u32 1 z1], .agg [.c (.bool z2), .il .u32 1 z3], .c (.int .i64 z4)], [] => some (z0, z1, z2, z3, z4)
  | _, _ => none
set_option maxRecDepth 100000 in
theorem zint_Quo.f_eq (N : Nat) (a1 : Bool) (a2 : List Int) (a3 : Bool) (a4 : List Int) :
    evFun (zint_Quo.E N) zint_Quo.body [.agg [.c (.bool a1), .il .u32 1 a2], .agg [.c (.bool a3), .il .u32 1 a4]] [] zint_Quo.dec = zint_Quo.f N a1 a2 a3 a4 := by kernel_rfl
noncomputable def zint_Quo.ent (N : Nat) : Entry := { A := Bool × List Int × Bool × List Int × Int, fresh := 0, imm := [true, true], dec := fun args bs => match freezeL 0 (fun _ => .dead) [.recd [.any, .il .u32 1], .recd [.any, .il .u32 1]] args, bs with
  | some [.agg [.c (.bool a1), .il .u32 1 a2], .agg [.c (.bool a3), .il .u32 1 a4]], [] => some (zint_Quo.f N a1 a2 a3 a4, fun r => .one (.tup [.agg [.c (.bool r.1), .il .u32 1 r.2.1], .agg [.c (.bool r.2.2.1), .il .u32 1 r.2.2.2.1], .c (.int .i64 r.2.2.2.2)]) [])
  | _, _ => none }
theorem zint_Quo.env (N : Nat) : EnvOK Try.prog (zint_Quo.E N) := ⟨(TyOK.cons ty4_ok (TyOK.cons ty25_ok (TyOK.cons ty27_ok TyOK.nil))), (TabOK.cons (nat_Div.ent_ok N) (TabOK.cons (nat_Nat_Bits.ent_ok N) (TabOK.cons (nat_Of.ent_ok N) (TabOK.cons (nat_Add.ent_ok N) (TabOK.cons (nat_Sub.ent_ok N) (TabOK.cons (zint_Make.ent_ok N) TabOK.nil))))))⟩
theorem zint_Quo.res_eq (N : Nat) : (zint_Quo.E N).res = Try.f18.results.toList := by kernel_rfl
theorem zint_Quo.spec (N : Nat) (a1 : Bool) (a2 : List Int) (a3 : Bool) (a4 : List Int) (r : Bool × List Int × Bool × List Int × Int) (h : zint_Quo.f N a1 a2 a3 a4 = some r) : FnSpec Try.prog 18 [.agg [.c (.bool a1), .il .u32 1 a2], .agg [.c (.bool a3), .il .u32 1 a4]] [] (.tup [.agg [.c (.bool r.1), .il .u32 1 r.2.1], .agg [.c (.bool r.2.2.1), .il .u32 1 r.2.2.2.1], .c (.int .i64 r.2.2.2.2)]) ([]) := by
  rw [← zint_Quo.f_eq] at h
  obtain ⟨v, bs', h1, h2⟩ := evFun_ok (zint_Quo.env N) Try_mixed Try.func18 (by kernel_rfl : Try.f18.body = some zint_Quo.body) (by kernel_rfl) (zint_Quo.res_eq N) (by kernel_rfl) (by kernel_rfl) (Nat.le_of_ble_eq_true (by kernel_rfl)) (AllCut.of (l := []) (by kernel_rfl) AllCut.nil) h
  unfold zint_Quo.dec at h1; split at h1
  · cases h1; exact h2
  · cases h1
theorem zint_Quo.ent_ok (N : Nat) : TabOK1 Try.prog 18 (zint_Quo.ent N) := by
  intro args bs a enc h
  simp only [zint_Quo.ent] at h
  split at h
  · rename_i hz; have h0 := Option.some.inj h; have h1 := congrArg Prod.fst h0; have h2 := congrArg Prod.snd h0; dsimp only at h1 h2; subst h2; exact FnSpec.of_freeze hz (zint_Quo.spec N _ _ _ _ a h1)
  · cases h
/-! parquet/zint.Exact: function 19 -/
noncomputable def zint_Exact.f (N : Nat) (a1 : Bool) (a2 : List Int) (a3 : Bool) (a4 : List Int) : Option (Bool × List Int × Int) :=
  (zint_Quo.f N a1 a2 a3 a4).bind fun r5 =>
  bif r5.2.2.2.2 != 0 then
    some (false, [], r5.2.2.2.2)
  else
  (zint_Int_Sign.f N r5.2.2.1 r5.2.2.2.1).bind fun r6 =>
  bif r6 != 0 then
    some (false, [], 2)
  else
  some (r5.1, r5.2.1, 0)
noncomputable def zint_Exact.body : Code := (Try.f19.body).getD .skip
noncomputable def zint_Exact.ty : List (Nat × TI) := [(4, ty4), (25, ty25), (27, ty27)]
noncomputable def zint_Exact.E (N : Nat) : Env := { ty := lookN zint_Exact.ty, tab := lookN [(18, zint_Quo.ent N), (21, zint_Int_Sign.ent N)], hint := lookN [], cut := lookN [], N := N, res := [.cell 4 27, .tmp 5], rsh := [.recd [.any, .il .u32 1], .any], nb := 0, ntmps := 27, own := false }
noncomputable def zint_Exact.dec (v : V) (bs : List Blk) : Option (Bool × List Int × Int) := match v, bs with
  | .tup [.agg [.c (.bool z0), .il .u32 1 z1], .c (.int .i64 z2)], [] => some (z0, z1, z2)
  | _, _ => none
set_option maxRecDepth 100000 in
theorem zint_Exact.f_eq (N : Nat) (a1 : Bool) (a2 : List Int) (a3 : Bool) (a4 : List Int) :
    evFun (zint_Exact.E N) zint_Exact.body [.agg [.c (.bool a1), .il .u32 1 a2], .agg [.c (.bool a3), .il .u32 1 a4]] [] zint_Exact.dec = zint_Exact.f N a1 a2 a3 a4 := by kernel_rfl
noncomputable def zint_Exact.ent (N : Nat) : Entry := { A := Bool × List Int × Int, fresh := 0, imm := [true, true], dec := fun args bs => match freezeL 0 (fun _ => .dead) [.recd [.any, .il .u32 1], .recd [.any, .il .u32 1]] args, bs with
  | some [.agg [.c (.bool a1), .il .u32 1 a2], .agg [.c (.bool a3), .il .u32 1 a4]], [] => some (zint_Exact.f N a1 a2 a3 a4, fun r => .one (.tup [.agg [.c (.bool r.1), .il .u32 1 r.2.1], .c (.int .i64 r.2.2)]) [])
  | _, _ => none }
theorem zint_Exact.env (N : Nat) : EnvOK Try.prog (zint_Exact.E N) := ⟨(TyOK.cons ty4_ok (TyOK.cons ty25_ok (TyOK.cons ty27_ok TyOK.nil))), (TabOK.cons (zint_Quo.ent_ok N) (TabOK.cons (zint_Int_Sign.ent_ok N) TabOK.nil))⟩
theorem zint_Exact.res_eq (N : Nat) : (zint_Exact.E N).res = Try.f19.results.toList := by kernel_rfl
theorem zint_Exact.spec (N : Nat) (a1 : Bool) (a2 : List Int) (a3 : Bool) (a4 : List Int) (r : Bool × List Int × Int) (h : zint_Exact.f N a1 a2 a3 a4 = some r) : FnSpec Try.prog 19 [.agg [.c (.bool a1), .il .u32 1 a2], .agg [.c (.bool a3), .il .u32 1 a4]] [] (.tup [.agg [.c (.bool r.1), .il .u32 1 r.2.1], .c (.int .i64 r.2.2)]) ([]) := by
  rw [← zint_Exact.f_eq] at h
  obtain ⟨v, bs', h1, h2⟩ := evFun_ok (zint_Exact.env N) Try_mixed Try.func19 (by kernel_rfl : Try.f19.body = some zint_Exact.body) (by kernel_rfl) (zint_Exact.res_eq N) (by kernel_rfl) (by kernel_rfl) (Nat.le_of_ble_eq_true (by kernel_rfl)) (AllCut.of (l := []) (by kernel_rfl) AllCut.nil) h
  unfold zint_Exact.dec at h1; split at h1
  · cases h1; exact h2
  · cases h1
theorem zint_Exact.ent_ok (N : Nat) : TabOK1 Try.prog 19 (zint_Exact.ent N) := by
  intro args bs a enc h
  simp only [zint_Exact.ent] at h
  split at h
  · rename_i hz; have h0 := Option.some.inj h; have h1 := congrArg Prod.fst h0; have h2 := congrArg Prod.snd h0; dsimp only at h1 h2; subst h2; exact FnSpec.of_freeze hz (zint_Exact.spec N _ _ _ _ a h1)
  · cases h
/-! parquet/parquetref02.Make: function 28 -/
noncomputable def parquetref02_Make.f (N : Nat) (a1 : Bool) (a2 : List Int) : Option (Bool × List Int) :=
  (parquetref01_Bits.f N a2).bind fun r3 =>
  bif r3 == 0 then
    some (false, [])
  else
  some (a1, a2)
noncomputable def parquetref02_Make.body : Code := (Try.f28.body).getD .skip
noncomputable def parquetref02_Make.ty : List (Nat × TI) := [(4, ty4), (31, ty31), (33, ty33)]
noncomputable def parquetref02_Make.E (N : Nat) : Env := { ty := lookN parquetref02_Make.ty, tab := lookN [(59, parquetref01_Bits.ent N)], hint := lookN [], cut := lookN [], N := N, res := [.cell 4 33], rsh := [.recd [.any, .il .u32 1]], nb := 0, ntmps := 12, own := false }
noncomputable def parquetref02_Make.dec (v : V) (bs : List Blk) : Option (Bool × List Int) := match v, bs with
  | .agg [.c (.bool z0), .il .u32 1 z1], [] => some (z0, z1)
  | _, _ => none
set_option maxRecDepth 100000 in
theorem parquetref02_Make.f_eq (N : Nat) (a1 : Bool) (a2 : List Int) :
    evFun (parquetref02_Make.E N) parquetref02_Make.body [.c (.bool a1), .il .u32 1 a2] [] parquetref02_Make.dec = parquetref02_Make.f N a1 a2 := by kernel_rfl
noncomputable def parquetref02_Make.ent (N : Nat) : Entry := { A := Bool × List Int, fresh := 0, imm := [true, true], dec := fun args bs => match freezeL 0 (fun _ => .dead) [.any, .il .u32 1] args, bs with
  | some [.c (.bool a1), .il .u32 1 a2], [] => some (parquetref02_Make.f N a1 a2, fun r => .one (.agg [.c (.bool r.1), .il .u32 1 r.2]) [])
  | _, _ => none }
theorem parquetref02_Make.env (N : Nat) : EnvOK Try.prog (parquetref02_Make.E N) := ⟨(TyOK.cons ty4_ok (TyOK.cons ty31_ok (TyOK.cons ty33_ok TyOK.nil))), (TabOK.cons (parquetref01_Bits.ent_ok N) TabOK.nil)⟩
theorem parquetref02_Make.res_eq (N : Nat) : (parquetref02_Make.E N).res = Try.f28.results.toList := by kernel_rfl
theorem parquetref02_Make.spec (N : Nat) (a1 : Bool) (a2 : List Int) (r : Bool × List Int) (h : parquetref02_Make.f N a1 a2 = some r) : FnSpec Try.prog 28 [.c (.bool a1), .il .u32 1 a2] [] (.agg [.c (.bool r.1), .il .u32 1 r.2]) ([]) := by
  rw [← parquetref02_Make.f_eq] at h
  obtain ⟨v, bs', h1, h2⟩ := evFun_ok (parquetref02_Make.env N) Try_mixed Try.func28 (by kernel_rfl : Try.f28.body = some parquetref02_Make.body) (by kernel_rfl) (parquetref02_Make.res_eq N) (by kernel_rfl) (by kernel_rfl) (Nat.le_of_ble_eq_true (by kernel_rfl)) (AllCut.of (l := []) (by kernel_rfl) AllCut.nil) h
  unfold parquetref02_Make.dec at h1; split at h1
  · cases h1; exact h2
  · cases h1
theorem parquetref02_Make.ent_ok (N : Nat) : TabOK1 Try.prog 28 (parquetref02_Make.ent N) := by
  intro args bs a enc h
  simp only [parquetref02_Make.ent] at h
  split at h
  · rename_i hz; have h0 := Option.some.inj h; have h1 := congrArg Prod.fst h0; have h2 := congrArg Prod.snd h0; dsimp only at h1 h2; subst h2; exact FnSpec.of_freeze hz (parquetref02_Make.spec N _ _ a h1)
  · cases h
/-! parquet/parquetref02.Of: function 25 -/
noncomputable def parquetref02_Of.f (N : Nat) (a1 : Int) : Option (Bool × List Int) :=
  bif decide (a1 < 0) then
    (parquetref01_Of.f N (wu64 (0 - (wu64 a1)))).bind fun r2 =>
    (parquetref02_Make.f N true r2).bind fun r3 =>
    some (r3.1, r3.2)
  else
  (parquetref01_Of.f N (wu64 a1)).bind fun r4 =>
  (parquetref02_Make.f N false r4).bind fun r5 =>
  some (r5.1, r5.2)
noncomputable def parquetref02_Of.body : Code := (Try.f25.body).getD .skip
noncomputable def parquetref02_Of.ty : List (Nat × TI) := [(2, ty2), (33, ty33), (54, ty54)]
noncomputable def parquetref02_Of.E (N : Nat) : Env := { ty := lookN parquetref02_Of.ty, tab := lookN [(29, parquetref01_Of.ent N), (28, parquetref02_Make.ent N)], hint := lookN [], cut := lookN [], N := N, res := [.cell 2 33], rsh := [.recd [.any, .il .u32 1]], nb := 0, ntmps := 14, own := false }
noncomputable def parquetref02_Of.dec (v : V) (bs : List Blk) : Option (Bool × List Int) := match v, bs with
  | .agg [.c (.bool z0), .il .u32 1 z1], [] => some (z0, z1)
  | _, _ => none
set_option maxRecDepth 100000 in
theorem parquetref02_Of.f_eq (N : Nat) (a1 : Int) :
    evFun (parquetref02_Of.E N) parquetref02_Of.body [.c (.int .i64 a1)] [] parquetref02_Of.dec = parquetref02_Of.f N a1 := by kernel_rfl
noncomputable def parquetref02_Of.ent (N : Nat) : Entry := { A := Bool × List Int, fresh := 0, imm := [true], dec := fun args bs => match freezeL 0 (fun _ => .dead) [.any] args, bs with
  | some [.c (.int .i64 a1)], [] => some (parquetref02_Of.f N a1, fun r => .one (.agg [.c (.bool r.1), .il .u32 1 r.2]) [])
  | _, _ => none }
theorem parquetref02_Of.env (N : Nat) : EnvOK Try.prog (parquetref02_Of.E N) := ⟨(TyOK.cons ty2_ok (TyOK.cons ty33_ok (TyOK.cons ty54_ok TyOK.nil))), (TabOK.cons (parquetref01_Of.ent_ok N) (TabOK.cons (parquetref02_Make.ent_ok N) TabOK.nil))⟩
theorem parquetref02_Of.res_eq (N : Nat) : (parquetref02_Of.E N).res = Try.f25.results.toList := by kernel_rfl
theorem parquetref02_Of.spec (N : Nat) (a1 : Int) (r : Bool × List Int) (h : parquetref02_Of.f N a1 = some r) : FnSpec Try.prog 25 [.c (.int .i64 a1)] [] (.agg [.c (.bool r.1), .il .u32 1 r.2]) ([]) := by
  rw [← parquetref02_Of.f_eq] at h
  obtain ⟨v, bs', h1, h2⟩ := evFun_ok (parquetref02_Of.env N) Try_mixed Try.func25 (by kernel_rfl : Try.f25.body = some parquetref02_Of.body) (by kernel_rfl) (parquetref02_Of.res_eq N) (by kernel_rfl) (by kernel_rfl) (Nat.le_of_ble_eq_true (by kernel_rfl)) (AllCut.of (l := []) (by kernel_rfl) AllCut.nil) h
  unfold parquetref02_Of.dec at h1; split at h1
  · cases h1; exact h2
  · cases h1
theorem parquetref02_Of.ent_ok (N : Nat) : TabOK1 Try.prog 25 (parquetref02_Of.ent N) := by
  intro args bs a enc h
  simp only [parquetref02_Of.ent] at h
  split at h
  · rename_i hz; have h0 := Option.some.inj h; have h1 := congrArg Prod.fst h0; have h2 := congrArg Prod.snd h0; dsimp only at h1 h2; subst h2; exact FnSpec.of_freeze hz (parquetref02_Of.spec N _ a h1)
  · cases h
/-! parquet/parquetref02.Sign: function 32 -/
noncomputable def parquetref02_Sign.f (N : Nat) (a1 : Bool) (a2 : List Int) : Option (Int) :=
  (parquetref01_Bits.f N a2).bind fun r3 =>
  bif r3 == 0 then
    some 0
  else
  bif a1 then
    some (-1)
  else
  some 1
noncomputable def parquetref02_Sign.body : Code := (Try.f32.body).getD .skip
noncomputable def parquetref02_Sign.ty : List (Nat × TI) := [(4, ty4), (31, ty31), (33, ty33)]
noncomputable def parquetref02_Sign.E (N : Nat) : Env := { ty := lookN parquetref02_Sign.ty, tab := lookN [(59, parquetref01_Bits.ent N)], hint := lookN [], cut := lookN [], N := N, res := [.tmp 2], rsh := [.any], nb := 0, ntmps := 9, own := false }
noncomputable def parquetref02_Sign.dec (v : V) (bs : List Blk) : Option (Int) := match v, bs with
  | .c (.int .i64 z0), [] => some z0
  | _, _ => none
set_option maxRecDepth 100000 in
theorem parquetref02_Sign.f_eq (N : Nat) (a1 : Bool) (a2 : List Int) :
    evFun (parquetref02_Sign.E N) parquetref02_Sign.body [.agg [.c (.bool a1), .il .u32 1 a2]] [] parquetref02_Sign.dec = parquetref02_Sign.f N a1 a2 := by kernel_rfl
noncomputable def parquetref02_Sign.ent (N : Nat) : Entry := { A := Int, fresh := 0, imm := [true], dec := fun args bs => match freezeL 0 (fun _ => .dead) [.recd [.any, .il .u32 1]] args, bs with
  | some [.agg [.c (.bool a1), .il .u32 1 a2]], [] => some (parquetref02_Sign.f N a1 a2, fun r => .one (.c (.int .i64 r)) [])
  | _, _ => none }
theorem parquetref02_Sign.env (N : Nat) : EnvOK Try.prog (parquetref02_Sign.E N) := ⟨(TyOK.cons ty4_ok (TyOK.cons ty31_ok (TyOK.cons ty33_ok TyOK.nil))), (TabOK.cons (parquetref01_Bits.ent_ok N) TabOK.nil)⟩
theorem parquetref02_Sign.res_eq (N : Nat) : (parquetref02_Sign.E N).res = Try.f32.results.toList := by kernel_rfl
theorem parquetref02_Sign.spec (N : Nat) (a1 : Bool) (a2 : List Int) (r : Int) (h : parquetref02_Sign.f N a1 a2 = some r) : FnSpec Try.prog 32 [.agg [.c (.bool a1), .il .u32 1 a2]] [] (.c (.int .i64 r)) ([]) := by
  rw [← parquetref02_Sign.f_eq] at h
  obtain ⟨v, bs', h1, h2⟩ := evFun_ok (parquetref02_Sign.env N) Try_mixed Try.func32 (by kernel_rfl : Try.f32.body = some parquetref02_Sign.body) (by kernel_rfl) (parquetref02_Sign.res_eq N) (by kernel_rfl) (by kernel_rfl) (Nat.le_of_ble_eq_true (by kernel_rfl)) (AllCut.of (l := []) (by kernel_rfl) AllCut.nil) h
  unfold parquetref02_Sign.dec at h1; split at h1
  · cases h1; exact h2
  · cases h1
theorem parquetref02_Sign.ent_ok (N : Nat) : TabOK1 Try.prog 32 (parquetref02_Sign.ent N) := by
  intro args bs a enc h
  simp only [parquetref02_Sign.ent] at h
  split at h
  · rename_i hz; have h0 := Option.some.inj h; have h1 := congrArg Prod.fst h0; have h2 := congrArg Prod.snd h0; dsimp only at h1 h2; subst h2; exact FnSpec.of_freeze hz (parquetref02_Sign.spec N _ _ a h1)
  · cases h
/-! parquet/parquetref02.Zero: function 20 -/
noncomputable def parquetref02_Zero.f (N : Nat) (a1 : Bool) (a2 : List Int) : Option (Bool) :=
  (parquetref02_Sign.f N a1 a2).bind fun r3 =>
  some (r3 == 0)
noncomputable def parquetref02_Zero.body : Code := (Try.f20.body).getD .skip
noncomputable def parquetref02_Zero.ty : List (Nat × TI) := [(33, ty33)]
noncomputable def parquetref02_Zero.E (N : Nat) : Env := { ty := lookN parquetref02_Zero.ty, tab := lookN [(32, parquetref02_Sign.ent N)], hint := lookN [], cut := lookN [], N := N, res := [.tmp 2], rsh := [.any], nb := 0, ntmps := 6, own := false }
noncomputable def parquetref02_Zero.dec (v : V) (bs : List Blk) : Option (Bool) := match v, bs with
  | .c (.bool z0), [] => some z0
  | _, _ => none
set_option maxRecDepth 100000 in
theorem parquetref02_Zero.f_eq (N : Nat) (a1 : Bool) (a2 : List Int) :
    evFun (parquetref02_Zero.E N) parquetref02_Zero.body [.agg [.c (.bool a1), .il .u32 1 a2]] [] parquetref02_Zero.dec = parquetref02_Zero.f N a1 a2 := by kernel_rfl
noncomputable def parquetref02_Zero.ent (N : Nat) : Entry := { A := Bool, fresh := 0, imm := [true], dec := fun args bs => match freezeL 0 (fun _ => .dead) [.recd [.any, .il .u32 1]] args, bs with
  | some [.agg [.c (.bool a1), .il .u32 1 a2]], [] => some (parquetref02_Zero.f N a1 a2, fun r => .one (.c (.bool r)) [])
  | _, _ => none }
theorem parquetref02_Zero.env (N : Nat) : EnvOK Try.prog (parquetref02_Zero.E N) := ⟨(TyOK.cons ty33_ok TyOK.nil), (TabOK.cons (parquetref02_Sign.ent_ok N) TabOK.nil)⟩
theorem parquetref02_Zero.res_eq (N : Nat) : (parquetref02_Zero.E N).res = Try.f20.results.toList := by kernel_rfl
theorem parquetref02_Zero.spec (N : Nat) (a1 : Bool) (a2 : List Int) (r : Bool) (h : parquetref02_Zero.f N a1 a2 = some r) : FnSpec Try.prog 20 [.agg [.c (.bool a1), .il .u32 1 a2]] [] (.c (.bool r)) ([]) := by
  rw [← parquetref02_Zero.f_eq] at h
  obtain ⟨v, bs', h1, h2⟩ := evFun_ok (parquetref02_Zero.env N) Try_mixed Try.func20 (by kernel_rfl : Try.f20.body = some parquetref02_Zero.body) (by kernel_rfl) (parquetref02_Zero.res_eq N) (by kernel_rfl) (by kernel_rfl) (Nat.le_of_ble_eq_true (by kernel_rfl)) (AllCut.of (l := []) (by kernel_rfl) AllCut.nil) h
  unfold parquetref02_Zero.dec at h1; split at h1
  · cases h1; exact h2
  · cases h1
theorem parquetref02_Zero.ent_ok (N : Nat) : TabOK1 Try.prog 20 (parquetref02_Zero.ent N) := by
  intro args bs a enc h
  simp only [parquetref02_Zero.ent] at h
  split at h
  · rename_i hz; have h0 := Option.some.inj h; have h1 := congrArg Prod.fst h0; have h2 := congrArg Prod.snd h0; dsimp only at h1 h2; subst h2; exact FnSpec.of_freeze hz (parquetref02_Zero.spec N _ _ a h1)
  · cases h
/-! parquet/parquetref02.Long: function 57 -/
noncomputable def parquetref02_Long.f (N : Nat) (a1 : Bool) (a2 : List Int) : Option (Bool) :=
  (parquetref01_Long.f N a2).bind fun r3 =>
  some r3
noncomputable def parquetref02_Long.body : Code := (Try.f57.body).getD .skip
noncomputable def parquetref02_Long.ty : List (Nat × TI) := [(31, ty31), (33, ty33)]
noncomputable def parquetref02_Long.E (N : Nat) : Env := { ty := lookN parquetref02_Long.ty, tab := lookN [(75, parquetref01_Long.ent N)], hint := lookN [], cut := lookN [], N := N, res := [.tmp 2], rsh := [.any], nb := 0, ntmps := 6, own := false }
noncomputable def parquetref02_Long.dec (v : V) (bs : List Blk) : Option (Bool) := match v, bs with
  | .c (.bool z0), [] => some z0
  | _, _ => none
set_option maxRecDepth 100000 in
theorem parquetref02_Long.f_eq (N : Nat) (a1 : Bool) (a2 : List Int) :
    evFun (parquetref02_Long.E N) parquetref02_Long.body [.agg [.c (.bool a1), .il .u32 1 a2]] [] parquetref02_Long.dec = parquetref02_Long.f N a1 a2 := by kernel_rfl
noncomputable def parquetref02_Long.ent (N : Nat) : Entry := { A := Bool, fresh := 0, imm := [true], dec := fun args bs => match freezeL 0 (fun _ => .dead) [.recd [.any, .il .u32 1]] args, bs with
  | some [.agg [.c (.bool a1), .il .u32 1 a2]], [] => some (parquetref02_Long.f N a1 a2, fun r => .one (.c (.bool r)) [])
  | _, _ => none }
theorem parquetref02_Long.env (N : Nat) : EnvOK Try.prog (parquetref02_Long.E N) := ⟨(TyOK.cons ty31_ok (TyOK.cons ty33_ok TyOK.nil)), (TabOK.cons (parquetref01_Long.ent_ok N) TabOK.nil)⟩
theorem parquetref02_Long.res_eq (N : Nat) : (parquetref02_Long.E N).res = Try.f57.results.toList := by kernel_rfl
theorem parquetref02_Long.spec (N : Nat) (a1 : Bool) (a2 : List Int) (r : Bool) (h : parquetref02_Long.f N a1 a2 = some r) : FnSpec Try.prog 57 [.agg [.c (.bool a1), .il .u32 1 a2]] [] (.c (.bool r)) ([]) := by
  rw [← parquetref02_Long.f_eq] at h
  obtain ⟨v, bs', h1, h2⟩ := evFun_ok (parquetref02_Long.env N) Try_mixed Try.func57 (by kernel_rfl : Try.f57.body = some parquetref02_Long.body) (by kernel_rfl) (parquetref02_Long.res_eq N) (by kernel_rfl) (by kernel_rfl) (Nat.le_of_ble_eq_true (by kernel_rfl)) (AllCut.of (l := []) (by kernel_rfl) AllCut.nil) h
  unfold parquetref02_Long.dec at h1; split at h1
  · cases h1; exact h2
  · cases h1
theorem parquetref02_Long.ent_ok (N : Nat) : TabOK1 Try.prog 57 (parquetref02_Long.ent N) := by
  intro args bs a enc h
  simp only [parquetref02_Long.ent] at h
  split at h
  · rename_i hz; have h0 := Option.some.inj h; have h1 := congrArg Prod.fst h0; have h2 := congrArg Prod.snd h0; dsimp only at h1 h2; subst h2; exact FnSpec.of_freeze hz (parquetref02_Long.spec N _ _ a h1)
  · cases h
/-! parquet/parquetref02.Text: function 15 -/
noncomputable def parquetref02_Text.f (N : Nat) (a1 : Bool) (a2 : List Int) : Option (ByteArray) :=
  (parquetref02_Sign.f N a1 a2).bind fun r3 =>
  bif decide (r3 < 0) then
    (parquetref01_Text.f N a2).bind fun r4 =>
    bif decide (((str3.size + r4.size : Nat) : Int) ≤ 9223372036854775807) then
      some (str3 ++ r4)
    else none
  else
  (parquetref01_Text.f N a2).bind fun r5 =>
  some r5
noncomputable def parquetref02_Text.body : Code := (Try.f15.body).getD .skip
noncomputable def parquetref02_Text.ty : List (Nat × TI) := [(31, ty31), (33, ty33)]
noncomputable def parquetref02_Text.E (N : Nat) : Env := { ty := lookN parquetref02_Text.ty, tab := lookN [(32, parquetref02_Sign.ent N), (37, parquetref01_Text.ent N)], hint := lookN [], cut := lookN [], N := N, res := [.tmp 2], rsh := [.any], nb := 0, ntmps := 13, own := false }
noncomputable def parquetref02_Text.dec (v : V) (bs : List Blk) : Option (ByteArray) := match v, bs with
  | .c (.string z0), [] => some z0
  | _, _ => none
set_option maxRecDepth 100000 in
theorem parquetref02_Text.f_eq (N : Nat) (a1 : Bool) (a2 : List Int) :
    evFun (parquetref02_Text.E N) parquetref02_Text.body [.agg [.c (.bool a1), .il .u32 1 a2]] [] parquetref02_Text.dec = parquetref02_Text.f N a1 a2 := by kernel_rfl
noncomputable def parquetref02_Text.ent (N : Nat) : Entry := { A := ByteArray, fresh := 0, imm := [true], dec := fun args bs => match freezeL 0 (fun _ => .dead) [.recd [.any, .il .u32 1]] args, bs with
  | some [.agg [.c (.bool a1), .il .u32 1 a2]], [] => some (parquetref02_Text.f N a1 a2, fun r => .one (.c (.string r)) [])
  | _, _ => none }
theorem parquetref02_Text.env (N : Nat) : EnvOK Try.prog (parquetref02_Text.E N) := ⟨(TyOK.cons ty31_ok (TyOK.cons ty33_ok TyOK.nil)), (TabOK.cons (parquetref02_Sign.ent_ok N) (TabOK.cons (parquetref01_Text.ent_ok N) TabOK.nil))⟩
theorem parquetref02_Text.res_eq (N : Nat) : (parquetref02_Text.E N).res = Try.f15.results.toList := by kernel_rfl
theorem parquetref02_Text.spec (N : Nat) (a1 : Bool) (a2 : List Int) (r : ByteArray) (h : parquetref02_Text.f N a1 a2 = some r) : FnSpec Try.prog 15 [.agg [.c (.bool a1), .il .u32 1 a2]] [] (.c (.string r)) ([]) := by
  rw [← parquetref02_Text.f_eq] at h
  obtain ⟨v, bs', h1, h2⟩ := evFun_ok (parquetref02_Text.env N) Try_mixed Try.func15 (by kernel_rfl : Try.f15.body = some parquetref02_Text.body) (by kernel_rfl) (parquetref02_Text.res_eq N) (by kernel_rfl) (by kernel_rfl) (Nat.le_of_ble_eq_true (by kernel_rfl)) (AllCut.of (l := []) (by kernel_rfl) AllCut.nil) h
  unfold parquetref02_Text.dec at h1; split at h1
  · cases h1; exact h2
  · cases h1
theorem parquetref02_Text.ent_ok (N : Nat) : TabOK1 Try.prog 15 (parquetref02_Text.ent N) := by
  intro args bs a enc h
  simp only [parquetref02_Text.ent] at h
  split at h
  · rename_i hz; have h0 := Option.some.inj h; have h1 := congrArg Prod.fst h0; have h2 := congrArg Prod.snd h0; dsimp only at h1 h2; subst h2; exact FnSpec.of_freeze hz (parquetref02_Text.spec N _ _ a h1)
  · cases h
/-! parquet/parquetref02.Parse: function 13 -/
noncomputable def parquetref02_Parse.f (N : Nat) (a1 : ByteArray) : Option (Bool × List Int × Int) :=
  bif decide ((a1.size : Int) > 0) then
    bif decide (0 < (a1.size : Int)) then
      bif (byteAt a1 0) == 45 then
        bif ((decide (1 ≤ (a1.size : Int))) && (decide ((a1.size : Int) ≤ (a1.size : Int)))) && (decide ((a1.size : Int) ≤ (a1.size : Int))) then
          bif (a1.extract 1 ((a1.size : Int).toNat)).toList == str1.toList then
            some (false, [], 12)
          else
          (parquetref01_Digits.f N (a1.extract 1 ((a1.size : Int).toNat))).bind fun r2 =>
          bif !r2 then
            some (false, [], 12)
          else
          (parquetref01_Parse.f N (a1.extract 1 ((a1.size : Int).toNat))).bind fun r3 =>
          bif !r3.2 then
            some (false, [], 3)
          else
          (parquetref02_Make.f N (decide (((a1.extract 1 ((a1.size : Int).toNat)).size : Int) < (a1.size : Int))) r3.1).bind fun r4 =>
          some (r4.1, r4.2, 0)
        else none
      else
      (parquetref01_Digits.f N a1).bind fun r5 =>
      bif !r5 then
        some (false, [], 12)
      else
      (parquetref01_Parse.f N a1).bind fun r6 =>
      bif !r6.2 then
        some (false, [], 3)
      else
      (parquetref02_Make.f N (decide ((a1.size : Int) < (a1.size : Int))) r6.1).bind fun r7 =>
      some (r7.1, r7.2, 0)
    else none
  else
  (parquetref01_Digits.f N a1).bind fun r8 =>
  bif !r8 then
    some (false, [], 12)
  else
  (parquetref01_Parse.f N a1).bind fun r9 =>
  bif !r9.2 then
    some (false, [], 3)
  else
  (parquetref02_Make.f N (decide ((a1.size : Int) < (a1.size : Int))) r9.1).bind fun r10 =>
  some (r10.1, r10.2, 0)
noncomputable def parquetref02_Parse.body : Code := (Try.f13.body).getD .skip
noncomputable def parquetref02_Parse.ty : List (Nat × TI) := [(4, ty4), (9, ty9), (31, ty31), (33, ty33)]
noncomputable def parquetref02_Parse.E (N : Nat) : Env := { ty := lookN parquetref02_Parse.ty, tab := lookN [(50, parquetref01_Digits.ent N), (51, parquetref01_Parse.ent N), (28, parquetref02_Make.ent N)], hint := lookN [], cut := lookN [], N := N, res := [.cell 2 33, .tmp 3], rsh := [.recd [.any, .il .u32 1], .any], nb := 0, ntmps := 40, own := false }
noncomputable def parquetref02_Parse.dec (v : V) (bs : List Blk) : Option (Bool × List Int × Int) := match v, bs with
  | .tup [.agg [.c (.bool z0), .il .u32 1 z1], .c (.int .i64 z2)], [] => some (z0, z1, z2)
  | _, _ => none
set_option maxRecDepth 100000 in
theorem parquetref02_Parse.f_eq (N : Nat) (a1 : ByteArray) :
    evFun (parquetref02_Parse.E N) parquetref02_Parse.body [.c (.string a1)] [] parquetref02_Parse.dec = parquetref02_Parse.f N a1 := by kernel_rfl
noncomputable def parquetref02_Parse.ent (N : Nat) : Entry := { A := Bool × List Int × Int, fresh := 0, imm := [true], dec := fun args bs => match freezeL 0 (fun _ => .dead) [.any] args, bs with
  | some [.c (.string a1)], [] => some (parquetref02_Parse.f N a1, fun r => .one (.tup [.agg [.c (.bool r.1), .il .u32 1 r.2.1], .c (.int .i64 r.2.2)]) [])
  | _, _ => none }
theorem parquetref02_Parse.env (N : Nat) : EnvOK Try.prog (parquetref02_Parse.E N) := ⟨(TyOK.cons ty4_ok (TyOK.cons ty9_ok (TyOK.cons ty31_ok (TyOK.cons ty33_ok TyOK.nil)))), (TabOK.cons (parquetref01_Digits.ent_ok N) (TabOK.cons (parquetref01_Parse.ent_ok N) (TabOK.cons (parquetref02_Make.ent_ok N) TabOK.nil)))⟩
theorem parquetref02_Parse.res_eq (N : Nat) : (parquetref02_Parse.E N).res = Try.f13.results.toList := by kernel_rfl
theorem parquetref02_Parse.spec (N : Nat) (a1 : ByteArray) (r : Bool × List Int × Int) (h : parquetref02_Parse.f N a1 = some r) : FnSpec Try.prog 13 [.c (.string a1)] [] (.tup [.agg [.c (.bool r.1), .il .u32 1 r.2.1], .c (.int .i64 r.2.2)]) ([]) := by
  rw [← parquetref02_Parse.f_eq] at h
  obtain ⟨v, bs', h1, h2⟩ := evFun_ok (parquetref02_Parse.env N) Try_mixed Try.func13 (by kernel_rfl : Try.f13.body = some parquetref02_Parse.body) (by kernel_rfl) (parquetref02_Parse.res_eq N) (by kernel_rfl) (by kernel_rfl) (Nat.le_of_ble_eq_true (by kernel_rfl)) (AllCut.of (l := []) (by kernel_rfl) AllCut.nil) h
  unfold parquetref02_Parse.dec at h1; split at h1
  · cases h1; exact h2
  · cases h1
theorem parquetref02_Parse.ent_ok (N : Nat) : TabOK1 Try.prog 13 (parquetref02_Parse.ent N) := by
  intro args bs a enc h
  simp only [parquetref02_Parse.ent] at h
  split at h
  · rename_i hz; have h0 := Option.some.inj h; have h1 := congrArg Prod.fst h0; have h2 := congrArg Prod.snd h0; dsimp only at h1 h2; subst h2; exact FnSpec.of_freeze hz (parquetref02_Parse.spec N _ a h1)
  · cases h
/-! parquet/parquetref02.Int64: function 31 -/
noncomputable def parquetref02_Int64.f (N : Nat) (a1 : Bool) (a2 : List Int) : Option (Int × Bool) :=
  (parquetref01_Small.f N a2).bind fun r3 =>
  bif !r3.2 then
    some (0, false)
  else
  bif decide (r3.1 > 9223372036854775808) then
    some (0, false)
  else
  bif r3.1 == 9223372036854775808 then
    bif !a1 then
      some (0, false)
    else
    (parquetref02_Sign.f N a1 a2).bind fun r4 =>
    bif decide (r4 < 0) then
      some (wi64 (wu64 (0 - r3.1)), true)
    else
    some (wi64 r3.1, true)
  else
  (parquetref02_Sign.f N a1 a2).bind fun r5 =>
  bif decide (r5 < 0) then
    some (wi64 (wu64 (0 - r3.1)), true)
  else
  some (wi64 r3.1, true)
noncomputable def parquetref02_Int64.body : Code := (Try.f31.body).getD .skip
noncomputable def parquetref02_Int64.ty : List (Nat × TI) := [(2, ty2), (4, ty4), (31, ty31), (33, ty33), (54, ty54)]
noncomputable def parquetref02_Int64.E (N : Nat) : Env := { ty := lookN parquetref02_Int64.ty, tab := lookN [(61, parquetref01_Small.ent N), (32, parquetref02_Sign.ent N)], hint := lookN [], cut := lookN [], N := N, res := [.tmp 2, .tmp 3], rsh := [.any, .any], nb := 0, ntmps := 35, own := false }
noncomputable def parquetref02_Int64.dec (v : V) (bs : List Blk) : Option (Int × Bool) := match v, bs with
  | .tup [.c (.int .i64 z0), .c (.bool z1)], [] => some (z0, z1)
  | _, _ => none
set_option maxRecDepth 100000 in
theorem parquetref02_Int64.f_eq (N : Nat) (a1 : Bool) (a2 : List Int) :
    evFun (parquetref02_Int64.E N) parquetref02_Int64.body [.agg [.c (.bool a1), .il .u32 1 a2]] [] parquetref02_Int64.dec = parquetref02_Int64.f N a1 a2 := by kernel_rfl
noncomputable def parquetref02_Int64.ent (N : Nat) : Entry := { A := Int × Bool, fresh := 0, imm := [true], dec := fun args bs => match freezeL 0 (fun _ => .dead) [.recd [.any, .il .u32 1]] args, bs with
  | some [.agg [.c (.bool a1), .il .u32 1 a2]], [] => some (parquetref02_Int64.f N a1 a2, fun r => .one (.tup [.c (.int .i64 r.1), .c (.bool r.2)]) [])
  | _, _ => none }
theorem parquetref02_Int64.env (N : Nat) : EnvOK Try.prog (parquetref02_Int64.E N) := ⟨(TyOK.cons ty2_ok (TyOK.cons ty4_ok (TyOK.cons ty31_ok (TyOK.cons ty33_ok (TyOK.cons ty54_ok TyOK.nil))))), (TabOK.cons (parquetref01_Small.ent_ok N) (TabOK.cons (parquetref02_Sign.ent_ok N) TabOK.nil))⟩
theorem parquetref02_Int64.res_eq (N : Nat) : (parquetref02_Int64.E N).res = Try.f31.results.toList := by kernel_rfl
theorem parquetref02_Int64.spec (N : Nat) (a1 : Bool) (a2 : List Int) (r : Int × Bool) (h : parquetref02_Int64.f N a1 a2 = some r) : FnSpec Try.prog 31 [.agg [.c (.bool a1), .il .u32 1 a2]] [] (.tup [.c (.int .i64 r.1), .c (.bool r.2)]) ([]) := by
  rw [← parquetref02_Int64.f_eq] at h
  obtain ⟨v, bs', h1, h2⟩ := evFun_ok (parquetref02_Int64.env N) Try_mixed Try.func31 (by kernel_rfl : Try.f31.body = some parquetref02_Int64.body) (by kernel_rfl) (parquetref02_Int64.res_eq N) (by kernel_rfl) (by kernel_rfl) (Nat.le_of_ble_eq_true (by kernel_rfl)) (AllCut.of (l := []) (by kernel_rfl) AllCut.nil) h
  unfold parquetref02_Int64.dec at h1; split at h1
  · cases h1; exact h2
  · cases h1
theorem parquetref02_Int64.ent_ok (N : Nat) : TabOK1 Try.prog 31 (parquetref02_Int64.ent N) := by
  intro args bs a enc h
  simp only [parquetref02_Int64.ent] at h
  split at h
  · rename_i hz; have h0 := Option.some.inj h; have h1 := congrArg Prod.fst h0; have h2 := congrArg Prod.snd h0; dsimp only at h1 h2; subst h2; exact FnSpec.of_freeze hz (parquetref02_Int64.spec N _ _ a h1)
  · cases h
/-! parquet/parquetref02.Cmp: function 34 -/
noncomputable def parquetref02_Cmp.f (N : Nat) (a1 : Bool) (a2 : List Int) (a3 : Bool) (a4 : List Int) : Option (Int) :=
  (parquetref02_Sign.f N a1 a2).bind fun r5 =>
  (parquetref02_Sign.f N a3 a4).bind fun r6 =>
  bif decide (r5 < r6) then
    some (-1)
  else
  bif decide (r5 > r6) then
    some 1
  else
  bif decide (r5 < 0) then
    (parquetref01_Cmp.f N a4 a2).bind fun r7 =>
    some r7
  else
  (parquetref01_Cmp.f N a2 a4).bind fun r8 =>
  some r8
noncomputable def parquetref02_Cmp.body : Code := (Try.f34.body).getD .skip
noncomputable def parquetref02_Cmp.ty : List (Nat × TI) := [(31, ty31), (33, ty33)]
noncomputable def parquetref02_Cmp.E (N : Nat) : Env := { ty := lookN parquetref02_Cmp.ty, tab := lookN [(32, parquetref02_Sign.ent N), (63, parquetref01_Cmp.ent N)], hint := lookN [], cut := lookN [], N := N, res := [.tmp 4], rsh := [.any], nb := 0, ntmps := 32, own := false }
noncomputable def parquetref02_Cmp.dec (v : V) (bs : List Blk) : Option (Int) := match v, bs with
  | .c (.int .i64 z0), [] => some z0
  | _, _ => none
set_option maxRecDepth 100000 in
theorem parquetref02_Cmp.f_eq (N : Nat) (a1 : Bool) (a2 : List Int) (a3 : Bool) (a4 : List Int) :
    evFun (parquetref02_Cmp.E N) parquetref02_Cmp.body [.agg [.c (.bool a1), .il .u32 1 a2], .agg [.c (.bool a3), .il .u32 1 a4]] [] parquetref02_Cmp.dec = parquetref02_Cmp.f N a1 a2 a3 a4 := by kernel_rfl
noncomputable def parquetref02_Cmp.ent (N : Nat) : Entry := { A := Int, fresh := 0, imm := [true, true], dec := fun args bs => match freezeL 0 (fun _ => .dead) [.recd [.any, .il .u32 1], .recd [.any, .il .u32 1]] args, bs with
  | some [.agg [.c (.bool a1), .il .u32 1 a2], .agg [.c (.bool a3), .il .u32 1 a4]], [] => some (parquetref02_Cmp.f N a1 a2 a3 a4, fun r => .one (.c (.int .i64 r)) [])
  | _, _ => none }
theorem parquetref02_Cmp.env (N : Nat) : EnvOK Try.prog (parquetref02_Cmp.E N) := ⟨(TyOK.cons ty31_ok (TyOK.cons ty33_ok TyOK.nil)), (TabOK.cons (parquetref02_Sign.ent_ok N) (TabOK.cons (parquetref01_Cmp.ent_ok N) TabOK.nil))⟩
theorem parquetref02_Cmp.res_eq (N : Nat) : (parquetref02_Cmp.E N).res = Try.f34.results.toList := by kernel_rfl
theorem parquetref02_Cmp.spec (N : Nat) (a1 : Bool) (a2 : List Int) (a3 : Bool) (a4 : List Int) (r : Int) (h : parquetref02_Cmp.f N a1 a2 a3 a4 = some r) : FnSpec Try.prog 34 [.agg [.c (.bool a1), .il .u32 1 a2], .agg [.c (.bool a3), .il .u32 1 a4]] [] (.c (.int .i64 r)) ([]) := by
  rw [← parquetref02_Cmp.f_eq] at h
  obtain ⟨v, bs', h1, h2⟩ := evFun_ok (parquetref02_Cmp.env N) Try_mixed Try.func34 (by kernel_rfl : Try.f34.body = some parquetref02_Cmp.body) (by kernel_rfl) (parquetref02_Cmp.res_eq N) (by kernel_rfl) (by kernel_rfl) (Nat.le_of_ble_eq_true (by kernel_rfl)) (AllCut.of (l := []) (by kernel_rfl) AllCut.nil) h
  unfold parquetref02_Cmp.dec at h1; split at h1
  · cases h1; exact h2
  · cases h1
theorem parquetref02_Cmp.ent_ok (N : Nat) : TabOK1 Try.prog 34 (parquetref02_Cmp.ent N) := by
  intro args bs a enc h
  simp only [parquetref02_Cmp.ent] at h
  split at h
  · rename_i hz; have h0 := Option.some.inj h; have h1 := congrArg Prod.fst h0; have h2 := congrArg Prod.snd h0; dsimp only at h1 h2; subst h2; exact FnSpec.of_freeze hz (parquetref02_Cmp.spec N _ _ _ _ a h1)
  · cases h
/-! parquet/parquetref02.Neg: function 45 -/
noncomputable def parquetref02_Neg.f (N : Nat) (a1 : Bool) (a2 : List Int) : Option (Bool × List Int) :=
  (parquetref02_Make.f N (!a1) a2).bind fun r3 =>
  some (r3.1, r3.2)
noncomputable def parquetref02_Neg.body : Code := (Try.f45.body).getD .skip
noncomputable def parquetref02_Neg.ty : List (Nat × TI) := [(4, ty4), (31, ty31), (33, ty33)]
noncomputable def parquetref02_Neg.E (N : Nat) : Env := { ty := lookN parquetref02_Neg.ty, tab := lookN [(28, parquetref02_Make.ent N)], hint := lookN [], cut := lookN [], N := N, res := [.cell 2 33], rsh := [.recd [.any, .il .u32 1]], nb := 0, ntmps := 9, own := false }
noncomputable def parquetref02_Neg.dec (v : V) (bs : List Blk) : Option (Bool × List Int) := match v, bs with
  | .agg [.c (.bool z0), .il .u32 1 z1], [] => some (z0, z1)
  | _, _ => none
set_option maxRecDepth 100000 in
theorem parquetref02_Neg.f_eq (N : Nat) (a1 : Bool) (a2 : List Int) :
    evFun (parquetref02_Neg.E N) parquetref02_Neg.body [.agg [.c (.bool a1), .il .u32 1 a2]] [] parquetref02_Neg.dec = parquetref02_Neg.f N a1 a2 := by kernel_rfl
noncomputable def parquetref02_Neg.ent (N : Nat) : Entry := { A := Bool × List Int, fresh := 0, imm := [true], dec := fun args bs => match freezeL 0 (fun _ => .dead) [.recd [.any, .il .u32 1]] args, bs with
  | some [.agg [.c (.bool a1), .il .u32 1 a2]], [] => some (parquetref02_Neg.f N a1 a2, fun r => .one (.agg [.c (.bool r.1), .il .u32 1 r.2]) [])
  | _, _ => none }
theorem parquetref02_Neg.env (N : Nat) : EnvOK Try.prog (parquetref02_Neg.E N) := ⟨(TyOK.cons ty4_ok (TyOK.cons ty31_ok (TyOK.cons ty33_ok TyOK.nil))), (TabOK.cons (parquetref02_Make.ent_ok N) TabOK.nil)⟩
theorem parquetref02_Neg.res_eq (N : Nat) : (parquetref02_Neg.E N).res = Try.f45.results.toList := by kernel_rfl
theorem parquetref02_Neg.spec (N : Nat) (a1 : Bool) (a2 : List Int) (r : Bool × List Int) (h : parquetref02_Neg.f N a1 a2 = some r) : FnSpec Try.prog 45 [.agg [.c (.bool a1), .il .u32 1 a2]] [] (.agg [.c (.bool r.1), .il .u32 1 r.2]) ([]) := by
  rw [← parquetref02_Neg.f_eq] at h
  obtain ⟨v, bs', h1, h2⟩ := evFun_ok (parquetref02_Neg.env N) Try_mixed Try.func45 (by kernel_rfl : Try.f45.body = some parquetref02_Neg.body) (by kernel_rfl) (parquetref02_Neg.res_eq N) (by kernel_rfl) (by kernel_rfl) (Nat.le_of_ble_eq_true (by kernel_rfl)) (AllCut.of (l := []) (by kernel_rfl) AllCut.nil) h
  unfold parquetref02_Neg.dec at h1; split at h1
  · cases h1; exact h2
  · cases h1
theorem parquetref02_Neg.ent_ok (N : Nat) : TabOK1 Try.prog 45 (parquetref02_Neg.ent N) := by
  intro args bs a enc h
  simp only [parquetref02_Neg.ent] at h
  split at h
  · rename_i hz; have h0 := Option.some.inj h; have h1 := congrArg Prod.fst h0; have h2 := congrArg Prod.snd h0; dsimp only at h1 h2; subst h2; exact FnSpec.of_freeze hz (parquetref02_Neg.spec N _ _ a h1)
  · cases h
/-! parquet/parquetref02.Add: function 42 -/
noncomputable def parquetref02_Add.f (N : Nat) (a1 : Bool) (a2 : List Int) (a3 : Bool) (a4 : List Int) : Option (Bool × List Int) :=
  bif a1 == a3 then
    (parquetref01_Add.f N a2 a4).bind fun r5 =>
    (parquetref02_Make.f N a1 r5).bind fun r6 =>
    some (r6.1, r6.2)
  else
  (parquetref01_Cmp.f N a2 a4).bind fun r7 =>
  bif decide (r7 ≥ 0) then
    (parquetref01_Sub.f N a2 a4).bind fun r8 =>
    (parquetref02_Make.f N a1 r8).bind fun r9 =>
    some (r9.1, r9.2)
  else
  (parquetref01_Sub.f N a4 a2).bind fun r10 =>
  (parquetref02_Make.f N a3 r10).bind fun r11 =>
  some (r11.1, r11.2)
noncomputable def parquetref02_Add.body : Code := (Try.f42.body).getD .skip
noncomputable def parquetref02_Add.ty : List (Nat × TI) := [(4, ty4), (31, ty31), (33, ty33)]
noncomputable def parquetref02_Add.E (N : Nat) : Env := { ty := lookN parquetref02_Add.ty, tab := lookN [(66, parquetref01_Add.ent N), (28, parquetref02_Make.ent N), (63, parquetref01_Cmp.ent N), (67, parquetref01_Sub.ent N)], hint := lookN [], cut := lookN [], N := N, res := [.cell 4 33], rsh := [.recd [.any, .il .u32 1]], nb := 0, ntmps := 40, own := false }
noncomputable def parquetref02_Add.dec (v : V) (bs : List Blk) : Option (Bool × List Int) := match v, bs with
  | .agg [.c (.bool z0), .il .u32 1 z1], [] => some (z0, z1)
  | _, _ => none
set_option maxRecDepth 100000 in
theorem parquetref02_Add.f_eq (N : Nat) (a1 : Bool) (a2 : List Int) (a3 : Bool) (a4 : List Int) :
    evFun (parquetref02_Add.E N) parquetref02_Add.body [.agg [.c (.bool a1), .il .u32 1 a2], .agg [.c (.bool a3), .il .u32 1 a4]] [] parquetref02_Add.dec = parquetref02_Add.f N a1 a2 a3 a4 := by kernel_rfl
noncomputable def parquetref02_Add.ent (N : Nat) : Entry := { A := Bool × List Int, fresh := 0, imm := [true, true], dec := fun args bs => match freezeL 0 (fun _ => .dead) [.recd [.any, .il .u32 1], .recd [.any, .il .u32 1]] args, bs with
  | some [.agg [.c (.bool a1), .il .u32 1 a2], .agg [.c (.bool a3), .il .u32 1 a4]], [] => some (parquetref02_Add.f N a1 a2 a3 a4, fun r => .one (.agg [.c (.bool r.1), .il .u32 1 r.2]) [])
  | _, _ => none }
theorem parquetref02_Add.env (N : Nat) : EnvOK Try.prog (parquetref02_Add.E N) := ⟨(TyOK.cons ty4_ok (TyOK.cons ty31_ok (TyOK.cons ty33_ok TyOK.nil))), (TabOK.cons (parquetref01_Add.ent_ok N) (TabOK.cons (parquetref02_Make.ent_ok N) (TabOK.cons (parquetref01_Cmp.ent_ok N) (TabOK.cons (parquetref01_Sub.ent_ok N) TabOK.nil))))⟩
theorem parquetref02_Add.res_eq (N : Nat) : (parquetref02_Add.E N).res = Try.f42.results.toList := by kernel_rfl
theorem parquetref02_Add.spec (N : Nat) (a1 : Bool) (a2 : List Int) (a3 : Bool) (a4 : List Int) (r : Bool × List Int) (h : parquetref02_Add.f N a1 a2 a3 a4 = some r) : FnSpec Try.prog 42 [.agg [.c (.bool a1), .il .u32 1 a2], .agg [.c (.bool a3), .il .u32 1 a4]] [] (.agg [.c (.bool r.1), .il .u32 1 r.2]) ([]) := by
  rw [← parquetref02_Add.f_eq] at h
  obtain ⟨v, bs', h1, h2⟩ := evFun_ok (parquetref02_Add.env N) Try_mixed Try.func42 (by kernel_rfl : Try.f42.body = some parquetref02_Add.body) (by kernel_rfl) (parquetref02_Add.res_eq N) (by kernel_rfl) (by kernel_rfl) (Nat.le_of_ble_eq_true (by kernel_rfl)) (AllCut.of (l := []) (by kernel_rfl) AllCut.nil) h
  unfold parquetref02_Add.dec at h1; split at h1
  · cases h1; exact h2
  · cases h1
theorem parquetref02_Add.ent_ok (N : Nat) : TabOK1 Try.prog 42 (parquetref02_Add.ent N) := by
  intro args bs a enc h
  simp only [parquetref02_Add.ent] at h
  split at h
  · rename_i hz; have h0 := Option.some.inj h; have h1 := congrArg Prod.fst h0; have h2 := congrArg Prod.snd h0; dsimp only at h1 h2; subst h2; exact FnSpec.of_freeze hz (parquetref02_Add.spec N _ _ _ _ a h1)
  · cases h
/-! parquet/parquetref02.Sub: function 43 -/
noncomputable def parquetref02_Sub.f (N : Nat) (a1 : Bool) (a2 : List Int) (a3 : Bool) (a4 : List Int) : Option (Bool × List Int) :=
  (parquetref02_Neg.f N a3 a4).bind fun r5 =>
  (parquetref02_Add.f N a1 a2 r5.1 r5.2).bind fun r6 =>
  some (r6.1, r6.2)
noncomputable def parquetref02_Sub.body : Code := (Try.f43.body).getD .skip
noncomputable def parquetref02_Sub.ty : List (Nat × TI) := [(33, ty33)]
noncomputable def parquetref02_Sub.E (N : Nat) : Env := { ty := lookN parquetref02_Sub.ty, tab := lookN [(45, parquetref02_Neg.ent N), (42, parquetref02_Add.ent N)], hint := lookN [], cut := lookN [], N := N, res := [.cell 4 33], rsh := [.recd [.any, .il .u32 1]], nb := 0, ntmps := 9, own := false }
noncomputable def parquetref02_Sub.dec (v : V) (bs : List Blk) : Option (Bool × List Int) := match v, bs with
  | .agg [.c (.bool z0), .il .u32 1 z1], [] => some (z0, z1)
  | _, _ => none
set_option maxRecDepth 100000 in
theorem parquetref02_Sub.f_eq (N : Nat) (a1 : Bool) (a2 : List Int) (a3 : Bool) (a4 : List Int) :
    evFun (parquetref02_Sub.E N) parquetref02_Sub.body [.agg [.c (.bool a1), .il .u32 1 a2], .agg [.c (.bool a3), .il .u32 1 a4]] [] parquetref02_Sub.dec = parquetref02_Sub.f N a1 a2 a3 a4 := by kernel_rfl
noncomputable def parquetref02_Sub.ent (N : Nat) : Entry := { A := Bool × List Int, fresh := 0, imm := [true, true], dec := fun args bs => match freezeL 0 (fun _ => .dead) [.recd [.any, .il .u32 1], .recd [.any, .il .u32 1]] args, bs with
  | some [.agg [.c (.bool a1), .il .u32 1 a2], .agg [.c (.bool a3), .il .u32 1 a4]], [] => some (parquetref02_Sub.f N a1 a2 a3 a4, fun r => .one (.agg [.c (.bool r.1), .il .u32 1 r.2]) [])
  | _, _ => none }
theorem parquetref02_Sub.env (N : Nat) : EnvOK Try.prog (parquetref02_Sub.E N) := ⟨(TyOK.cons ty33_ok TyOK.nil), (TabOK.cons (parquetref02_Neg.ent_ok N) (TabOK.cons (parquetref02_Add.ent_ok N) TabOK.nil))⟩
theorem parquetref02_Sub.res_eq (N : Nat) : (parquetref02_Sub.E N).res = Try.f43.results.toList := by kernel_rfl
theorem parquetref02_Sub.spec (N : Nat) (a1 : Bool) (a2 : List Int) (a3 : Bool) (a4 : List Int) (r : Bool × List Int) (h : parquetref02_Sub.f N a1 a2 a3 a4 = some r) : FnSpec Try.prog 43 [.agg [.c (.bool a1), .il .u32 1 a2], .agg [.c (.bool a3), .il .u32 1 a4]] [] (.agg [.c (.bool r.1), .il .u32 1 r.2]) ([]) := by
  rw [← parquetref02_Sub.f_eq] at h
  obtain ⟨v, bs', h1, h2⟩ := evFun_ok (parquetref02_Sub.env N) Try_mixed Try.func43 (by kernel_rfl : Try.f43.body = some parquetref02_Sub.body) (by kernel_rfl) (parquetref02_Sub.res_eq N) (by kernel_rfl) (by kernel_rfl) (Nat.le_of_ble_eq_true (by kernel_rfl)) (AllCut.of (l := []) (by kernel_rfl) AllCut.nil) h
  unfold parquetref02_Sub.dec at h1; split at h1
  · cases h1; exact h2
  · cases h1
theorem parquetref02_Sub.ent_ok (N : Nat) : TabOK1 Try.prog 43 (parquetref02_Sub.ent N) := by
  intro args bs a enc h
  simp only [parquetref02_Sub.ent] at h
  split at h
  · rename_i hz; have h0 := Option.some.inj h; have h1 := congrArg Prod.fst h0; have h2 := congrArg Prod.snd h0; dsimp only at h1 h2; subst h2; exact FnSpec.of_freeze hz (parquetref02_Sub.spec N _ _ _ _ a h1)
  · cases h
/-! parquet/parquetref02.Mul: function 44 -/
noncomputable def parquetref02_Mul.f (N : Nat) (a1 : Bool) (a2 : List Int) (a3 : Bool) (a4 : List Int) : Option (Bool × List Int) :=
  (parquetref01_Mul.f N a2 a4).bind fun r5 =>
  (parquetref02_Make.f N (!(a1 == a3)) r5).bind fun r6 =>
  some (r6.1, r6.2)
noncomputable def parquetref02_Mul.body : Code := (Try.f44.body).getD .skip
noncomputable def parquetref02_Mul.ty : List (Nat × TI) := [(4, ty4), (31, ty31), (33, ty33)]
noncomputable def parquetref02_Mul.E (N : Nat) : Env := { ty := lookN parquetref02_Mul.ty, tab := lookN [(68, parquetref01_Mul.ent N), (28, parquetref02_Make.ent N)], hint := lookN [], cut := lookN [], N := N, res := [.cell 4 33], rsh := [.recd [.any, .il .u32 1]], nb := 0, ntmps := 16, own := false }
noncomputable def parquetref02_Mul.dec (v : V) (bs : List Blk) : Option (Bool × List Int) := match v, bs with
  | .agg [.c (.bool z0), .il .u32 1 z1], [] => some (z0, z1)
  | _, _ => none
set_option maxRecDepth 100000 in
theorem parquetref02_Mul.f_eq (N : Nat) (a1 : Bool) (a2 : List Int) (a3 : Bool) (a4 : List Int) :
    evFun (parquetref02_Mul.E N) parquetref02_Mul.body [.agg [.c (.bool a1), .il .u32 1 a2], .agg [.c (.bool a3), .il .u32 1 a4]] [] parquetref02_Mul.dec = parquetref02_Mul.f N a1 a2 a3 a4 := by kernel_rfl
noncomputable def parquetref02_Mul.ent (N : Nat) : Entry := { A := Bool × List Int, fresh := 0, imm := [true, true], dec := fun args bs => match freezeL 0 (fun _ => .dead) [.recd [.any, .il .u32 1], .recd [.any, .il .u32 1]] args, bs with
  | some [.agg [.c (.bool a1), .il .u32 1 a2], .agg [.c (.bool a3), .il .u32 1 a4]], [] => some (parquetref02_Mul.f N a1 a2 a3 a4, fun r => .one (.agg [.c (.bool r.1), .il .u32 1 r.2]) [])
  | _, _ => none }
theorem parquetref02_Mul.env (N : Nat) : EnvOK Try.prog (parquetref02_Mul.E N) := ⟨(TyOK.cons ty4_ok (TyOK.cons ty31_ok (TyOK.cons ty33_ok TyOK.nil))), (TabOK.cons (parquetref01_Mul.ent_ok N) (TabOK.cons (parquetref02_Make.ent_ok N) TabOK.nil))⟩
theorem parquetref02_Mul.res_eq (N : Nat) : (parquetref02_Mul.E N).res = Try.f44.results.toList := by kernel_rfl
theorem parquetref02_Mul.spec (N : Nat) (a1 : Bool) (a2 : List Int) (a3 : Bool) (a4 : List Int) (r : Bool × List Int) (h : parquetref02_Mul.f N a1 a2 a3 a4 = some r) : FnSpec Try.prog 44 [.agg [.c (.bool a1), .il .u32 1 a2], .agg [.c (.bool a3), .il .u32 1 a4]] [] (.agg [.c (.bool r.1), .il .u32 1 r.2]) ([]) := by
  rw [← parquetref02_Mul.f_eq] at h
  obtain ⟨v, bs', h1, h2⟩ := evFun_ok (parquetref02_Mul.env N) Try_mixed Try.func44 (by kernel_rfl : Try.f44.body = some parquetref02_Mul.body) (by kernel_rfl) (parquetref02_Mul.res_eq N) (by kernel_rfl) (by kernel_rfl) (Nat.le_of_ble_eq_true (by kernel_rfl)) (AllCut.of (l := []) (by kernel_rfl) AllCut.nil) h
  unfold parquetref02_Mul.dec at h1; split at h1
  · cases h1; exact h2
  · cases h1
theorem parquetref02_Mul.ent_ok (N : Nat) : TabOK1 Try.prog 44 (parquetref02_Mul.ent N) := by
  intro args bs a enc h
  simp only [parquetref02_Mul.ent] at h
  split at h
  · rename_i hz; have h0 := Option.some.inj h; have h1 := congrArg Prod.fst h0; have h2 := congrArg Prod.snd h0; dsimp only at h1 h2; subst h2; exact FnSpec.of_freeze hz (parquetref02_Mul.spec N _ _ _ _ a h1)
  · cases h
/-! parquet/parquetref02.Quo: function 22 -/
noncomputable def parquetref02_Quo.f (N : Nat) (a1 : Bool) (a2 : List Int) (a3 : Bool) (a4 : List Int) : Option (Bool × List Int × Bool × List Int) :=
  (parquetref01_Div.f N a2 a4).bind fun r5 =>
  (parquetref02_Make.f N (!(a1 == a3)) r5.1).bind fun r6 =>
  (parquetref02_Make.f N a1 r5.2).bind fun r7 =>
  (parquetref02_Sign.f N r7.1 r7.2).bind fun r8 =>
  bif decide (r8 < 0) then
    (parquetref02_Make.f N false a4).bind fun r9 =>
    (parquetref02_Add.f N r7.1 r7.2 r9.1 r9.2).bind fun r10 =>
    bif a3 then
      (parquetref02_Of.f N 1).bind fun r11 =>
      (parquetref02_Add.f N r6.1 r6.2 r11.1 r11.2).bind fun r12 =>
      some (r12.1, r12.2, r10.1, r10.2)
    else
    (parquetref02_Of.f N 1).bind fun r13 =>
    (parquetref02_Sub.f N r6.1 r6.2 r13.1 r13.2).bind fun r14 =>
    some (r14.1, r14.2, r10.1, r10.2)
  else
  some (r6.1, r6.2, r7.1, r7.2)
noncomputable def parquetref02_Quo.body : Code := (Try.f22.body).getD .skip
noncomputable def parquetref02_Quo.ty : List (Nat × TI) := [(4, ty4), (31, ty31), (33, ty33)]
noncomputable def parquetref02_Quo.E (N : Nat) : Env := { ty := lookN parquetref02_Quo.ty, tab := lookN [(56, parquetref01_Div.ent N), (28, parquetref02_Make.ent N), (32, parquetref02_Sign.ent N), (42, parquetref02_Add.ent N), (25, parquetref02_Of.ent N), (43, parquetref02_Sub.ent N)], hint := lookN [], cut := lookN [], N := N, res := [.cell 4 33, .cell 5 33], rsh := [.recd [.any, .il .u32 1], .recd [.any, .il .u32 1]], nb := 0, ntmps := 47, own := false }
noncomputable def parquetref02_Quo.dec (v : V) (bs : List Blk) : Option (Bool × List Int × Bool × List Int) := match v, bs with
  | .tup [.agg [.c (.bool z0), .il .u32 1 z1], .agg [.c (.bool z2), .il .u32 1 z3]], [] => some (z0, z1, z2, z3)
  | _, _ => none
set_option maxRecDepth 100000 in
theorem parquetref02_Quo.f_eq (N : Nat) (a1 : Bool) (a2 : List Int) (a3 : Bool) (a4 : List Int) :
    evFun (parquetref02_Quo.E N) parquetref02_Quo.body [.agg [.c (.bool a1), .il .u32 1 a2], .agg [.c (.bool a3), .il .u32 1 a4]] [] parquetref02_Quo.dec = parquetref02_Quo.f N a1 a2 a3 a4 := by kernel_rfl
noncomputable def parquetref02_Quo.ent (N : Nat) : Entry := { A := Bool × List Int × Bool × List Int, fresh := 0, imm := [true, true], dec := fun args bs => match freezeL 0 (fun _ => .dead) [.recd [.any, .il .u32 1], .recd [.any, .il .u32 1]] args, bs with
  | some [.agg [.c (.bool a1), .il .u32 1 a2], .agg [.c (.bool a3), .il .u32 1 a4]], [] => some (parquetref02_Quo.f N a1 a2 a3 a4, fun r => .one (.tup [.agg [.c (.bool r.1), .il .u32 1 r.2.1], .agg [.c (.bool r.2.2.1), .il .u32 1 r.2.2.2]]) [])
  | _, _ => none }
theorem parquetref02_Quo.env (N : Nat) : EnvOK Try.prog (parquetref02_Quo.E N) := ⟨(TyOK.cons ty4_ok (TyOK.cons ty31_ok (TyOK.cons ty33_ok TyOK.nil))), (TabOK.cons (parquetref01_Div.ent_ok N) (TabOK.cons (parquetref02_Make.ent_ok N) (TabOK.cons (parquetref02_Sign.ent_ok N) (TabOK.cons (parquetref02_Add.ent_ok N) (TabOK.cons (parquetref02_Of.ent_ok N) (TabOK.cons (parquetref02_Sub.ent_ok N) TabOK.nil))))))⟩
theorem parquetref02_Quo.res_eq (N : Nat) : (parquetref02_Quo.E N).res = Try.f22.results.toList := by kernel_rfl
theorem parquetref02_Quo.spec (N : Nat) (a1 : Bool) (a2 : List Int) (a3 : Bool) (a4 : List Int) (r : Bool × List Int × Bool × List Int) (h : parquetref02_Quo.f N a1 a2 a3 a4 = some r) : FnSpec Try.prog 22 [.agg [.c (.bool a1), .il .u32 1 a2], .agg [.c (.bool a3), .il .u32 1 a4]] [] (.tup [.agg [.c (.bool r.1), .il .u32 1 r.2.1], .agg [.c (.bool r.2.2.1), .il .u32 1 r.2.2.2]]) ([]) := by
  rw [← parquetref02_Quo.f_eq] at h
  obtain ⟨v, bs', h1, h2⟩ := evFun_ok (parquetref02_Quo.env N) Try_mixed Try.func22 (by kernel_rfl : Try.f22.body = some parquetref02_Quo.body) (by kernel_rfl) (parquetref02_Quo.res_eq N) (by kernel_rfl) (by kernel_rfl) (Nat.le_of_ble_eq_true (by kernel_rfl)) (AllCut.of (l := []) (by kernel_rfl) AllCut.nil) h
  unfold parquetref02_Quo.dec at h1; split at h1
  · cases h1; exact h2
  · cases h1
theorem parquetref02_Quo.ent_ok (N : Nat) : TabOK1 Try.prog 22 (parquetref02_Quo.ent N) := by
  intro args bs a enc h
  simp only [parquetref02_Quo.ent] at h
  split at h
  · rename_i hz; have h0 := Option.some.inj h; have h1 := congrArg Prod.fst h0; have h2 := congrArg Prod.snd h0; dsimp only at h1 h2; subst h2; exact FnSpec.of_freeze hz (parquetref02_Quo.spec N _ _ _ _ a h1)
  · cases h
/-! parquet/parquetlaw02.wakes: function 11 -/
noncomputable def parquetlaw02_wakes.f (N : Nat) : Option (Bool) :=
  (zint_Parse.f N str4).bind fun r1 =>
  (zint_Of.f N 2).bind fun r2 =>
  (zint_Quo.f N r1.1 r1.2.1 r2.1 r2.2).bind fun r3 =>
  (zint_Of.f N 12).bind fun r4 =>
  (zint_Add.f N r1.1 r1.2.1 r4.1 r4.2).bind fun r5 =>
  bif r1.2.2 == 0 then
    bif r3.2.2.2.2 == 0 then
      bif r5.2.2 == 0 then
        (zint_Int_Text.f N r3.1 r3.2.1).bind fun r6 =>
        bif r6.toList == str5.toList then
          (zint_Int_Text.f N r3.2.2.1 r3.2.2.2.1).bind fun r7 =>
          bif r7.toList == str6.toList then
            (zint_Int_Text.f N r5.1 r5.2.1).bind fun r8 =>
            bif r8.toList == str7.toList then
              (zint_Int_Sign.f N r1.1 r1.2.1).bind fun r9 =>
              some (r9 == (-1))
            else
            some false
          else
          some false
        else
        some false
      else
      some false
    else
    some false
  else
  some false
noncomputable def parquetlaw02_wakes.body : Code := (Try.f11.body).getD .skip
noncomputable def parquetlaw02_wakes.ty : List (Nat × TI) := [(27, ty27)]
noncomputable def parquetlaw02_wakes.E (N : Nat) : Env := { ty := lookN parquetlaw02_wakes.ty, tab := lookN [(12, zint_Parse.ent N), (24, zint_Of.ent N), (18, zint_Quo.ent N), (38, zint_Add.ent N), (14, zint_Int_Text.ent N), (21, zint_Int_Sign.ent N)], hint := lookN [], cut := lookN [], N := N, res := [.tmp 0], rsh := [.any], nb := 0, ntmps := 55, own := false }
noncomputable def parquetlaw02_wakes.dec (v : V) (bs : List Blk) : Option (Bool) := match v, bs with
  | .c (.bool z0), [] => some z0
  | _, _ => none
set_option maxRecDepth 100000 in
theorem parquetlaw02_wakes.f_eq (N : Nat) :
    evFun (parquetlaw02_wakes.E N) parquetlaw02_wakes.body [] [] parquetlaw02_wakes.dec = parquetlaw02_wakes.f N := by kernel_rfl
noncomputable def parquetlaw02_wakes.ent (N : Nat) : Entry := { A := Bool, fresh := 0, imm := [], dec := fun args bs => match freezeL 0 (fun _ => .dead) [] args, bs with
  | some [], [] => some (parquetlaw02_wakes.f N, fun r => .one (.c (.bool r)) [])
  | _, _ => none }
theorem parquetlaw02_wakes.env (N : Nat) : EnvOK Try.prog (parquetlaw02_wakes.E N) := ⟨(TyOK.cons ty27_ok TyOK.nil), (TabOK.cons (zint_Parse.ent_ok N) (TabOK.cons (zint_Of.ent_ok N) (TabOK.cons (zint_Quo.ent_ok N) (TabOK.cons (zint_Add.ent_ok N) (TabOK.cons (zint_Int_Text.ent_ok N) (TabOK.cons (zint_Int_Sign.ent_ok N) TabOK.nil))))))⟩
theorem parquetlaw02_wakes.res_eq (N : Nat) : (parquetlaw02_wakes.E N).res = Try.f11.results.toList := by kernel_rfl
theorem parquetlaw02_wakes.spec (N : Nat) (r : Bool) (h : parquetlaw02_wakes.f N = some r) : FnSpec Try.prog 11 [] [] (.c (.bool r)) ([]) := by
  rw [← parquetlaw02_wakes.f_eq] at h
  obtain ⟨v, bs', h1, h2⟩ := evFun_ok (parquetlaw02_wakes.env N) Try_mixed Try.func11 (by kernel_rfl : Try.f11.body = some parquetlaw02_wakes.body) (by kernel_rfl) (parquetlaw02_wakes.res_eq N) (by kernel_rfl) (by kernel_rfl) (Nat.le_of_ble_eq_true (by kernel_rfl)) (AllCut.of (l := []) (by kernel_rfl) AllCut.nil) h
  unfold parquetlaw02_wakes.dec at h1; split at h1
  · cases h1; exact h2
  · cases h1
theorem parquetlaw02_wakes.ent_ok (N : Nat) : TabOK1 Try.prog 11 (parquetlaw02_wakes.ent N) := by
  intro args bs a enc h
  simp only [parquetlaw02_wakes.ent] at h
  split at h
  · rename_i hz; have h0 := Option.some.inj h; have h1 := congrArg Prod.fst h0; have h2 := congrArg Prod.snd h0; dsimp only at h1 h2; subst h2; exact FnSpec.of_freeze hz (parquetlaw02_wakes.spec N a h1)
  · cases h
/-! parquet/parquetlaw02.Of: function 16 -/
noncomputable def parquetlaw02_Of.l3 {R : Type} (N : Nat) : Nat → Int → Bool → List Int → Bool → List Int → (Bool → List Int → Bool → List Int → Option R) → Option R
  | 0, _, _, _, _, _, _ => none
  | n + 1, x3, x4, x5, x6, x7, k0 =>
    bif decide (x3 < (x5.length : Int)) then
      bif decide (x3 < 256) then
        bif (decide (0 ≤ x3)) && (decide (x3 < (x5.length : Int))) then
          bif roomy (x7.length + 1) 4 then
            parquetlaw02_Of.l3 N n (wi64 (x3 + 1)) x4 x5 x6 (x7 ++ [wu32 (x5.getD x3.toNat 0)]) k0
          else none
        else none
      else
      k0 x4 x5 x6 x7
    else
    k0 x4 x5 x6 x7
noncomputable def parquetlaw02_Of.l6 {R : Type} (N : Nat) : Nat → Nat → Nat → Bool → List Int → Bool → List Int → (Nat → Nat → Bool → List Int → Bool → List Int → Option R) → Option R
  | 0, _, _, _, _, _, _, _ => none
  | n + 1, x16, x17, x18, x19, x20, x21, k2 =>
    bif decide ((x17 : Int) > 0) then
      bif (decide (0 ≤ (wi64 ((x17 : Int) - 1)))) && (decide ((wi64 ((x17 : Int) - 1)) < (x17 : Int))) then
        bif (x21.getD (x16 + ((wi64 ((x17 : Int) - 1)).toNat)) 0) == 0 then
          bif ((decide (0 ≤ (wi64 ((x17 : Int) - 1)))) && (decide ((wi64 ((x17 : Int) - 1)) ≤ (x17 : Int)))) && (decide ((x17 : Int) ≤ (x17 : Int))) then
            parquetlaw02_Of.l6 N n x16 ((wi64 ((x17 : Int) - 1)).toNat) x18 x19 x20 x21 k2
          else none
        else
        k2 x16 x17 x18 x19 x20 x21
      else none
    else
    k2 x16 x17 x18 x19 x20 x21
noncomputable def parquetlaw02_Of.f (N : Nat) (a1 : Bool) (a2 : List Int) : Option (Bool × List Int) :=
  parquetlaw02_Of.l3 N N 0 a1 a2 false []
    (fun y12 y13 y14 y15 =>
      parquetlaw02_Of.l6 N N 0 y15.length y12 y13 y14 y15
        (fun y28 y29 y30 y31 y32 y33 =>
          (parquetref02_Make.f N y30 ((y33.drop y28).take y29)).bind fun r34 =>
          some (r34.1, r34.2)))
noncomputable def parquetlaw02_Of.body : Code := (Try.f16.body).getD .skip
noncomputable def parquetlaw02_Of.ty : List (Nat × TI) := [(4, ty4), (31, ty31), (33, ty33), (39, ty39), (41, ty41), (86, ty86), (87, ty87)]
noncomputable def parquetlaw02_Of.h3 : Hint := ⟨[(1, .box [.any, .il .u16 1]), (2, .box [.any, .any]), (3, .row .u32 1), (4, .any)], [(1, .box [.any, .il .u16 1]), (2, .box [.any, .any]), (3, .row .u32 1)]⟩
noncomputable def parquetlaw02_Of.h6 : Hint := ⟨[(1, .box [.any, .il .u16 1]), (2, .box [.any, .any]), (3, .part .u32 1)], [(1, .box [.any, .il .u16 1]), (2, .box [.any, .any]), (3, .part .u32 1)]⟩
noncomputable def parquetlaw02_Of.c3 (N : Nat) : Cut := ⟨fun vs H k => match vs, H with
  | [.ptr 0 0 2, .ptr 1 0 2, .sw 2 1, .c (.int .i64 x3)], [.vals [.c (.bool x4), .il .u16 1 x5], .vals [.c (.bool x6), .c (.slice none 0 0)], .ints .u32 x7] => parquetlaw02_Of.l3 N N x3 x4 x5 x6 x7 (fun x8 x9 x10 x11 => k (.exit 0) ⟨mkT parquetlaw02_Of.h3.out [.ptr 0 0 2, .ptr 1 0 2, .sw 2 1], [.vals [.c (.bool x8), .il .u16 1 x9], .vals [.c (.bool x10), .c (.slice none 0 0)], .ints .u32 x11]⟩)
  | _, _ => none⟩
noncomputable def parquetlaw02_Of.c6 (N : Nat) : Cut := ⟨fun vs H k => match vs, H with
  | [.ptr 0 0 2, .ptr 1 0 2, .sl 2 1 x16 x17], [.vals [.c (.bool x18), .il .u16 1 x19], .vals [.c (.bool x20), .c (.slice none 0 0)], .ints .u32 x21] => parquetlaw02_Of.l6 N N x16 x17 x18 x19 x20 x21 (fun x22 x23 x24 x25 x26 x27 => k (.exit 2) ⟨mkT parquetlaw02_Of.h6.out [.ptr 0 0 2, .ptr 1 0 2, .sl 2 1 x22 x23], [.vals [.c (.bool x24), .il .u16 1 x25], .vals [.c (.bool x26), .c (.slice none 0 0)], .ints .u32 x27]⟩)
  | _, _ => none⟩
noncomputable def parquetlaw02_Of.E (N : Nat) : Env := { ty := lookN parquetlaw02_Of.ty, tab := lookN [(28, parquetref02_Make.ent N)], hint := lookN [(3, parquetlaw02_Of.h3), (6, parquetlaw02_Of.h6)], cut := lookN [(3, parquetlaw02_Of.c3 N), (6, parquetlaw02_Of.c6 N)], N := N, res := [.cell 2 33], rsh := [.recd [.any, .il .u32 1]], nb := 0, ntmps := 46, own := false }
noncomputable def parquetlaw02_Of.b3 : Code := inner ((subLoops parquetlaw02_Of.body).getD 0 .skip)
set_option maxRecDepth 100000 in
theorem parquetlaw02_Of.l3_eq {R : Type} (N n : Nat) (x3 : Int) (x4 : Bool) (x5 : List Int) (x6 : Bool) (x7 : List Int) (k : Ex → St → Option R) :
    evLoop 0 parquetlaw02_Of.h3 (fun s k => evCode (parquetlaw02_Of.E N) 394 parquetlaw02_Of.b3 s k) n [.ptr 0 0 2, .ptr 1 0 2, .sw 2 1, .c (.int .i64 x3)] [.vals [.c (.bool x4), .il .u16 1 x5], .vals [.c (.bool x6), .c (.slice none 0 0)], .ints .u32 x7] k = parquetlaw02_Of.l3 N n x3 x4 x5 x6 x7 (fun x8 x9 x10 x11 => k (.exit 0) ⟨mkT parquetlaw02_Of.h3.out [.ptr 0 0 2, .ptr 1 0 2, .sw 2 1], [.vals [.c (.bool x8), .il .u16 1 x9], .vals [.c (.bool x10), .c (.slice none 0 0)], .ints .u32 x11]⟩) := by
  induction n generalizing x3 x4 x5 x6 x7 with
  | zero => kernel_rfl
  | succ n ih =>
    simp only [parquetlaw02_Of.l3, ← ih]
    kernel_rfl
noncomputable def parquetlaw02_Of.b6 : Code := inner ((subLoops parquetlaw02_Of.body).getD 1 .skip)
set_option maxRecDepth 100000 in
theorem parquetlaw02_Of.l6_eq {R : Type} (N n : Nat) (x16 : Nat) (x17 : Nat) (x18 : Bool) (x19 : List Int) (x20 : Bool) (x21 : List Int) (k : Ex → St → Option R) :
    evLoop 0 parquetlaw02_Of.h6 (fun s k => evCode (parquetlaw02_Of.E N) 394 parquetlaw02_Of.b6 s k) n [.ptr 0 0 2, .ptr 1 0 2, .sl 2 1 x16 x17] [.vals [.c (.bool x18), .il .u16 1 x19], .vals [.c (.bool x20), .c (.slice none 0 0)], .ints .u32 x21] k = parquetlaw02_Of.l6 N n x16 x17 x18 x19 x20 x21 (fun x22 x23 x24 x25 x26 x27 => k (.exit 2) ⟨mkT parquetlaw02_Of.h6.out [.ptr 0 0 2, .ptr 1 0 2, .sl 2 1 x22 x23], [.vals [.c (.bool x24), .il .u16 1 x25], .vals [.c (.bool x26), .c (.slice none 0 0)], .ints .u32 x27]⟩) := by
  induction n generalizing x16 x17 x18 x19 x20 x21 with
  | zero => kernel_rfl
  | succ n ih =>
    simp only [parquetlaw02_Of.l6, ← ih]
    kernel_rfl
noncomputable def parquetlaw02_Of.dec (v : V) (bs : List Blk) : Option (Bool × List Int) := match v, bs with
  | .agg [.c (.bool z0), .il .u32 1 z1], [] => some (z0, z1)
  | _, _ => none
set_option maxRecDepth 100000 in
theorem parquetlaw02_Of.f_eq (N : Nat) (a1 : Bool) (a2 : List Int) :
    evFun (parquetlaw02_Of.E N) parquetlaw02_Of.body [.agg [.c (.bool a1), .il .u16 1 a2]] [] parquetlaw02_Of.dec = parquetlaw02_Of.f N a1 a2 := by kernel_rfl
noncomputable def parquetlaw02_Of.ent (N : Nat) : Entry := { A := Bool × List Int, fresh := 0, imm := [true], dec := fun args bs => match freezeL 0 (fun _ => .dead) [.recd [.any, .il .u16 1]] args, bs with
  | some [.agg [.c (.bool a1), .il .u16 1 a2]], [] => some (parquetlaw02_Of.f N a1 a2, fun r => .one (.agg [.c (.bool r.1), .il .u32 1 r.2]) [])
  | _, _ => none }
theorem parquetlaw02_Of.env (N : Nat) : EnvOK Try.prog (parquetlaw02_Of.E N) := ⟨(TyOK.cons ty4_ok (TyOK.cons ty31_ok (TyOK.cons ty33_ok (TyOK.cons ty39_ok (TyOK.cons ty41_ok (TyOK.cons ty86_ok (TyOK.cons ty87_ok TyOK.nil))))))), (TabOK.cons (parquetref02_Make.ent_ok N) TabOK.nil)⟩
theorem parquetlaw02_Of.res_eq (N : Nat) : (parquetlaw02_Of.E N).res = Try.f16.results.toList := by kernel_rfl
theorem parquetlaw02_Of.k6 (N : Nat) : CutOK Try.prog Try.f16 (parquetlaw02_Of.E N) (.loop parquetlaw02_Of.b6) := by
  intro e hd he hh R vs H k r h
  have e1 : (parquetlaw02_Of.E N).cut (loopKey parquetlaw02_Of.b6) = some (parquetlaw02_Of.c6 N) := by kernel_rfl
  have e2 : (parquetlaw02_Of.E N).hint (loopKey parquetlaw02_Of.b6) = some parquetlaw02_Of.h6 := by kernel_rfl
  rw [e1] at he; rw [e2] at hh; cases he; cases hh
  unfold parquetlaw02_Of.c6 at h; dsimp only at h
  split at h
  · rw [← parquetlaw02_Of.l6_eq] at h
    exact loop_ok (evCode_ok (parquetlaw02_Of.env N) Try_mixed (parquetlaw02_Of.res_eq N) 394 parquetlaw02_Of.b6 (AllCut.of (l := []) (by kernel_rfl) AllCut.nil)) h
  · cases h
theorem parquetlaw02_Of.k3 (N : Nat) : CutOK Try.prog Try.f16 (parquetlaw02_Of.E N) (.loop parquetlaw02_Of.b3) := by
  intro e hd he hh R vs H k r h
  have e1 : (parquetlaw02_Of.E N).cut (loopKey parquetlaw02_Of.b3) = some (parquetlaw02_Of.c3 N) := by kernel_rfl
  have e2 : (parquetlaw02_Of.E N).hint (loopKey parquetlaw02_Of.b3) = some parquetlaw02_Of.h3 := by kernel_rfl
  rw [e1] at he; rw [e2] at hh; cases he; cases hh
  unfold parquetlaw02_Of.c3 at h; dsimp only at h
  split at h
  · rw [← parquetlaw02_Of.l3_eq] at h
    exact loop_ok (evCode_ok (parquetlaw02_Of.env N) Try_mixed (parquetlaw02_Of.res_eq N) 394 parquetlaw02_Of.b3 (AllCut.of (l := []) (by kernel_rfl) AllCut.nil)) h
  · cases h
theorem parquetlaw02_Of.spec (N : Nat) (a1 : Bool) (a2 : List Int) (r : Bool × List Int) (h : parquetlaw02_Of.f N a1 a2 = some r) : FnSpec Try.prog 16 [.agg [.c (.bool a1), .il .u16 1 a2]] [] (.agg [.c (.bool r.1), .il .u32 1 r.2]) ([]) := by
  rw [← parquetlaw02_Of.f_eq] at h
  obtain ⟨v, bs', h1, h2⟩ := evFun_ok (parquetlaw02_Of.env N) Try_mixed Try.func16 (by kernel_rfl : Try.f16.body = some parquetlaw02_Of.body) (by kernel_rfl) (parquetlaw02_Of.res_eq N) (by kernel_rfl) (by kernel_rfl) (Nat.le_of_ble_eq_true (by kernel_rfl)) (AllCut.of (l := [(.loop (inner ((subLoops parquetlaw02_Of.body).getD 0 .skip))), (.loop (inner ((subLoops parquetlaw02_Of.body).getD 1 .skip)))]) (by kernel_rfl) (AllCut.cons (parquetlaw02_Of.k3 N) (AllCut.cons (parquetlaw02_Of.k6 N) AllCut.nil))) h
  unfold parquetlaw02_Of.dec at h1; split at h1
  · cases h1; exact h2
  · cases h1
theorem parquetlaw02_Of.ent_ok (N : Nat) : TabOK1 Try.prog 16 (parquetlaw02_Of.ent N) := by
  intro args bs a enc h
  simp only [parquetlaw02_Of.ent] at h
  split at h
  · rename_i hz; have h0 := Option.some.inj h; have h1 := congrArg Prod.fst h0; have h2 := congrArg Prod.snd h0; dsimp only at h1 h2; subst h2; exact FnSpec.of_freeze hz (parquetlaw02_Of.spec N _ _ a h1)
  · cases h
/-! parquet/parquetlaw02.Made: function 17 -/
noncomputable def parquetlaw02_Made.f (N : Nat) (a1 : Bool) (a2 : List Int) : Option (Bool × List Int × Bool) :=
  (parquetref02_Text.f N a1 a2).bind fun r3 =>
  (zint_Parse.f N r3).bind fun r4 =>
  bif r4.2.2 == 0 then
    (zint_Int_Text.f N r4.1 r4.2.1).bind fun r5 =>
    (parquetref02_Text.f N a1 a2).bind fun r6 =>
    some (r4.1, r4.2.1, r5.toList == r6.toList)
  else
  some (r4.1, r4.2.1, false)
noncomputable def parquetlaw02_Made.body : Code := (Try.f17.body).getD .skip
noncomputable def parquetlaw02_Made.ty : List (Nat × TI) := [(27, ty27), (33, ty33)]
noncomputable def parquetlaw02_Made.E (N : Nat) : Env := { ty := lookN parquetlaw02_Made.ty, tab := lookN [(15, parquetref02_Text.ent N), (12, zint_Parse.ent N), (14, zint_Int_Text.ent N)], hint := lookN [], cut := lookN [], N := N, res := [.cell 2 27, .tmp 3], rsh := [.recd [.any, .il .u32 1], .any], nb := 0, ntmps := 22, own := false }
noncomputable def parquetlaw02_Made.dec (v : V) (bs : List Blk) : Option (Bool × List Int × Bool) := match v, bs with
  | .tup [.agg [.c (.bool z0), .il .u32 1 z1], .c (.bool z2)], [] => some (z0, z1, z2)
  | _, _ => none
set_option maxRecDepth 100000 in
theorem parquetlaw02_Made.f_eq (N : Nat) (a1 : Bool) (a2 : List Int) :
    evFun (parquetlaw02_Made.E N) parquetlaw02_Made.body [.agg [.c (.bool a1), .il .u32 1 a2]] [] parquetlaw02_Made.dec = parquetlaw02_Made.f N a1 a2 := by kernel_rfl
noncomputable def parquetlaw02_Made.ent (N : Nat) : Entry := { A := Bool × List Int × Bool, fresh := 0, imm := [true], dec := fun args bs => match freezeL 0 (fun _ => .dead) [.recd [.any, .il .u32 1]] args, bs with
  | some [.agg [.c (.bool a1), .il .u32 1 a2]], [] => some (parquetlaw02_Made.f N a1 a2, fun r => .one (.tup [.agg [.c (.bool r.1), .il .u32 1 r.2.1], .c (.bool r.2.2)]) [])
  | _, _ => none }
theorem parquetlaw02_Made.env (N : Nat) : EnvOK Try.prog (parquetlaw02_Made.E N) := ⟨(TyOK.cons ty27_ok (TyOK.cons ty33_ok TyOK.nil)), (TabOK.cons (parquetref02_Text.ent_ok N) (TabOK.cons (zint_Parse.ent_ok N) (TabOK.cons (zint_Int_Text.ent_ok N) TabOK.nil)))⟩
theorem parquetlaw02_Made.res_eq (N : Nat) : (parquetlaw02_Made.E N).res = Try.f17.results.toList := by kernel_rfl
theorem parquetlaw02_Made.spec (N : Nat) (a1 : Bool) (a2 : List Int) (r : Bool × List Int × Bool) (h : parquetlaw02_Made.f N a1 a2 = some r) : FnSpec Try.prog 17 [.agg [.c (.bool a1), .il .u32 1 a2]] [] (.tup [.agg [.c (.bool r.1), .il .u32 1 r.2.1], .c (.bool r.2.2)]) ([]) := by
  rw [← parquetlaw02_Made.f_eq] at h
  obtain ⟨v, bs', h1, h2⟩ := evFun_ok (parquetlaw02_Made.env N) Try_mixed Try.func17 (by kernel_rfl : Try.f17.body = some parquetlaw02_Made.body) (by kernel_rfl) (parquetlaw02_Made.res_eq N) (by kernel_rfl) (by kernel_rfl) (Nat.le_of_ble_eq_true (by kernel_rfl)) (AllCut.of (l := []) (by kernel_rfl) AllCut.nil) h
  unfold parquetlaw02_Made.dec at h1; split at h1
  · cases h1; exact h2
  · cases h1
theorem parquetlaw02_Made.ent_ok (N : Nat) : TabOK1 Try.prog 17 (parquetlaw02_Made.ent N) := by
  intro args bs a enc h
  simp only [parquetlaw02_Made.ent] at h
  split at h
  · rename_i hz; have h0 := Option.some.inj h; have h1 := congrArg Prod.fst h0; have h2 := congrArg Prod.snd h0; dsimp only at h1 h2; subst h2; exact FnSpec.of_freeze hz (parquetlaw02_Made.spec N _ _ a h1)
  · cases h
/-! parquet/parquetlaw02.is: function 23 -/
noncomputable def parquetlaw02_is.f (N : Nat) (a1 : Bool) (a2 : List Int) (a3 : Int) (a4 : Bool) (a5 : List Int) : Option (Bool) :=
  (parquetref02_Long.f N a4 a5).bind fun r6 =>
  bif r6 then
    bif a3 == 3 then
      (zint_Int_Sign.f N a1 a2).bind fun r7 =>
      bif r7 == 0 then
        (zint_Int_Text.f N a1 a2).bind fun r8 =>
        some (r8.toList == str1.toList)
      else
      some false
    else
    some false
  else
  bif a3 == 0 then
    (zint_Int_Text.f N a1 a2).bind fun r9 =>
    (parquetref02_Text.f N a4 a5).bind fun r10 =>
    bif r9.toList == r10.toList then
      (zint_Int_Sign.f N a1 a2).bind fun r11 =>
      (parquetref02_Sign.f N a4 a5).bind fun r12 =>
      some (r11 == r12)
    else
    some false
  else
  some false
noncomputable def parquetlaw02_is.body : Code := (Try.f23.body).getD .skip
noncomputable def parquetlaw02_is.ty : List (Nat × TI) := [(27, ty27), (33, ty33)]
noncomputable def parquetlaw02_is.E (N : Nat) : Env := { ty := lookN parquetlaw02_is.ty, tab := lookN [(57, parquetref02_Long.ent N), (21, zint_Int_Sign.ent N), (14, zint_Int_Text.ent N), (15, parquetref02_Text.ent N), (32, parquetref02_Sign.ent N)], hint := lookN [], cut := lookN [], N := N, res := [.tmp 6], rsh := [.any], nb := 0, ntmps := 37, own := false }
noncomputable def parquetlaw02_is.dec (v : V) (bs : List Blk) : Option (Bool) := match v, bs with
  | .c (.bool z0), [] => some z0
  | _, _ => none
set_option maxRecDepth 100000 in
theorem parquetlaw02_is.f_eq (N : Nat) (a1 : Bool) (a2 : List Int) (a3 : Int) (a4 : Bool) (a5 : List Int) :
    evFun (parquetlaw02_is.E N) parquetlaw02_is.body [.agg [.c (.bool a1), .il .u32 1 a2], .c (.int .i64 a3), .agg [.c (.bool a4), .il .u32 1 a5]] [] parquetlaw02_is.dec = parquetlaw02_is.f N a1 a2 a3 a4 a5 := by kernel_rfl
noncomputable def parquetlaw02_is.ent (N : Nat) : Entry := { A := Bool, fresh := 0, imm := [true, true, true], dec := fun args bs => match freezeL 0 (fun _ => .dead) [.recd [.any, .il .u32 1], .any, .recd [.any, .il .u32 1]] args, bs with
  | some [.agg [.c (.bool a1), .il .u32 1 a2], .c (.int .i64 a3), .agg [.c (.bool a4), .il .u32 1 a5]], [] => some (parquetlaw02_is.f N a1 a2 a3 a4 a5, fun r => .one (.c (.bool r)) [])
  | _, _ => none }
theorem parquetlaw02_is.env (N : Nat) : EnvOK Try.prog (parquetlaw02_is.E N) := ⟨(TyOK.cons ty27_ok (TyOK.cons ty33_ok TyOK.nil)), (TabOK.cons (parquetref02_Long.ent_ok N) (TabOK.cons (zint_Int_Sign.ent_ok N) (TabOK.cons (zint_Int_Text.ent_ok N) (TabOK.cons (parquetref02_Text.ent_ok N) (TabOK.cons (parquetref02_Sign.ent_ok N) TabOK.nil)))))⟩
theorem parquetlaw02_is.res_eq (N : Nat) : (parquetlaw02_is.E N).res = Try.f23.results.toList := by kernel_rfl
theorem parquetlaw02_is.spec (N : Nat) (a1 : Bool) (a2 : List Int) (a3 : Int) (a4 : Bool) (a5 : List Int) (r : Bool) (h : parquetlaw02_is.f N a1 a2 a3 a4 a5 = some r) : FnSpec Try.prog 23 [.agg [.c (.bool a1), .il .u32 1 a2], .c (.int .i64 a3), .agg [.c (.bool a4), .il .u32 1 a5]] [] (.c (.bool r)) ([]) := by
  rw [← parquetlaw02_is.f_eq] at h
  obtain ⟨v, bs', h1, h2⟩ := evFun_ok (parquetlaw02_is.env N) Try_mixed Try.func23 (by kernel_rfl : Try.f23.body = some parquetlaw02_is.body) (by kernel_rfl) (parquetlaw02_is.res_eq N) (by kernel_rfl) (by kernel_rfl) (Nat.le_of_ble_eq_true (by kernel_rfl)) (AllCut.of (l := []) (by kernel_rfl) AllCut.nil) h
  unfold parquetlaw02_is.dec at h1; split at h1
  · cases h1; exact h2
  · cases h1
theorem parquetlaw02_is.ent_ok (N : Nat) : TabOK1 Try.prog 23 (parquetlaw02_is.ent N) := by
  intro args bs a enc h
  simp only [parquetlaw02_is.ent] at h
  split at h
  · rename_i hz; have h0 := Option.some.inj h; have h1 := congrArg Prod.fst h0; have h2 := congrArg Prod.snd h0; dsimp only at h1 h2; subst h2; exact FnSpec.of_freeze hz (parquetlaw02_is.spec N _ _ _ _ _ a h1)
  · cases h
/-! parquet/parquetlaw02.ZintTexts: function 3 -/
noncomputable def parquetlaw02_ZintTexts.f (N : Nat) (a1 : ByteArray) : Option (Bool) :=
  bif decide ((a1.size : Int) > 5000) then
    (parquetlaw02_wakes.f N).bind fun r2 =>
    some r2
  else
  (zint_Parse.f N a1).bind fun r3 =>
  (parquetref02_Parse.f N a1).bind fun r4 =>
  bif r3.2.2 != r4.2.2 then
    some false
  else
  (zint_Int_Text.f N r3.1 r3.2.1).bind fun r5 =>
  (parquetref02_Text.f N r4.1 r4.2.1).bind fun r6 =>
  bif !(r5.toList == r6.toList) then
    some false
  else
  bif r3.2.2 == 0 then
    (zint_Int_Text.f N r3.1 r3.2.1).bind fun r7 =>
    bif !(r7.toList == a1.toList) then
      some false
    else
    (parquetlaw02_wakes.f N).bind fun r8 =>
    some r8
  else
  (parquetlaw02_wakes.f N).bind fun r9 =>
  some r9
noncomputable def parquetlaw02_ZintTexts.body : Code := (Try.f3.body).getD .skip
noncomputable def parquetlaw02_ZintTexts.ty : List (Nat × TI) := [(9, ty9), (27, ty27), (33, ty33)]
noncomputable def parquetlaw02_ZintTexts.E (N : Nat) : Env := { ty := lookN parquetlaw02_ZintTexts.ty, tab := lookN [(11, parquetlaw02_wakes.ent N), (12, zint_Parse.ent N), (13, parquetref02_Parse.ent N), (14, zint_Int_Text.ent N), (15, parquetref02_Text.ent N)], hint := lookN [], cut := lookN [], N := N, res := [.tmp 2], rsh := [.any], nb := 0, ntmps := 40, own := false }
noncomputable def parquetlaw02_ZintTexts.dec (v : V) (bs : List Blk) : Option (Bool) := match v, bs with
  | .c (.bool z0), [] => some z0
  | _, _ => none
set_option maxRecDepth 100000 in
theorem parquetlaw02_ZintTexts.f_eq (N : Nat) (a1 : ByteArray) :
    evFun (parquetlaw02_ZintTexts.E N) parquetlaw02_ZintTexts.body [.c (.string a1)] [] parquetlaw02_ZintTexts.dec = parquetlaw02_ZintTexts.f N a1 := by kernel_rfl
noncomputable def parquetlaw02_ZintTexts.ent (N : Nat) : Entry := { A := Bool, fresh := 0, imm := [true], dec := fun args bs => match freezeL 0 (fun _ => .dead) [.any] args, bs with
  | some [.c (.string a1)], [] => some (parquetlaw02_ZintTexts.f N a1, fun r => .one (.c (.bool r)) [])
  | _, _ => none }
theorem parquetlaw02_ZintTexts.env (N : Nat) : EnvOK Try.prog (parquetlaw02_ZintTexts.E N) := ⟨(TyOK.cons ty9_ok (TyOK.cons ty27_ok (TyOK.cons ty33_ok TyOK.nil))), (TabOK.cons (parquetlaw02_wakes.ent_ok N) (TabOK.cons (zint_Parse.ent_ok N) (TabOK.cons (parquetref02_Parse.ent_ok N) (TabOK.cons (zint_Int_Text.ent_ok N) (TabOK.cons (parquetref02_Text.ent_ok N) TabOK.nil)))))⟩
theorem parquetlaw02_ZintTexts.res_eq (N : Nat) : (parquetlaw02_ZintTexts.E N).res = Try.f3.results.toList := by kernel_rfl
theorem parquetlaw02_ZintTexts.spec (N : Nat) (a1 : ByteArray) (r : Bool) (h : parquetlaw02_ZintTexts.f N a1 = some r) : FnSpec Try.prog 3 [.c (.string a1)] [] (.c (.bool r)) ([]) := by
  rw [← parquetlaw02_ZintTexts.f_eq] at h
  obtain ⟨v, bs', h1, h2⟩ := evFun_ok (parquetlaw02_ZintTexts.env N) Try_mixed Try.func3 (by kernel_rfl : Try.f3.body = some parquetlaw02_ZintTexts.body) (by kernel_rfl) (parquetlaw02_ZintTexts.res_eq N) (by kernel_rfl) (by kernel_rfl) (Nat.le_of_ble_eq_true (by kernel_rfl)) (AllCut.of (l := []) (by kernel_rfl) AllCut.nil) h
  unfold parquetlaw02_ZintTexts.dec at h1; split at h1
  · cases h1; exact h2
  · cases h1
theorem parquetlaw02_ZintTexts.ent_ok (N : Nat) : TabOK1 Try.prog 3 (parquetlaw02_ZintTexts.ent N) := by
  intro args bs a enc h
  simp only [parquetlaw02_ZintTexts.ent] at h
  split at h
  · rename_i hz; have h0 := Option.some.inj h; have h1 := congrArg Prod.fst h0; have h2 := congrArg Prod.snd h0; dsimp only at h1 h2; subst h2; exact FnSpec.of_freeze hz (parquetlaw02_ZintTexts.spec N _ a h1)
  · cases h
/-! parquet/parquetlaw02.ZintSums: function 6 -/
noncomputable def parquetlaw02_ZintSums.f (N : Nat) (a1 : Bool) (a2 : List Int) (a3 : Bool) (a4 : List Int) : Option (Bool) :=
  (parquetlaw02_Of.f N a1 a2).bind fun r5 =>
  (parquetlaw02_Of.f N a3 a4).bind fun r6 =>
  (parquetlaw02_Made.f N r5.1 r5.2).bind fun r7 =>
  (parquetlaw02_Made.f N r6.1 r6.2).bind fun r8 =>
  bif !r7.2.2 then
    some false
  else
  bif !r8.2.2 then
    some false
  else
  (zint_Add.f N r7.1 r7.2.1 r8.1 r8.2.1).bind fun r9 =>
  (zint_Sub.f N r7.1 r7.2.1 r8.1 r8.2.1).bind fun r10 =>
  (zint_Mul.f N r7.1 r7.2.1 r8.1 r8.2.1).bind fun r11 =>
  (zint_Neg.f N r7.1 r7.2.1).bind fun r12 =>
  (parquetref02_Add.f N r5.1 r5.2 r6.1 r6.2).bind fun r13 =>
  (parquetlaw02_is.f N r9.1 r9.2.1 r9.2.2 r13.1 r13.2).bind fun r14 =>
  bif r14 then
    (parquetref02_Sub.f N r5.1 r5.2 r6.1 r6.2).bind fun r15 =>
    (parquetlaw02_is.f N r10.1 r10.2.1 r10.2.2 r15.1 r15.2).bind fun r16 =>
    bif r16 then
      (parquetref02_Mul.f N r5.1 r5.2 r6.1 r6.2).bind fun r17 =>
      (parquetlaw02_is.f N r11.1 r11.2.1 r11.2.2 r17.1 r17.2).bind fun r18 =>
      bif r18 then
        (parquetref02_Neg.f N r5.1 r5.2).bind fun r19 =>
        (parquetlaw02_is.f N r12.1 r12.2 0 r19.1 r19.2).bind fun r20 =>
        bif r20 then
          (zint_Cmp.f N r7.1 r7.2.1 r8.1 r8.2.1).bind fun r21 =>
          (parquetref02_Cmp.f N r5.1 r5.2 r6.1 r6.2).bind fun r22 =>
          bif r21 == r22 then
            (zint_Int_Text.f N r7.1 r7.2.1).bind fun r23 =>
            (parquetref02_Text.f N r5.1 r5.2).bind fun r24 =>
            bif r23.toList == r24.toList then
              (zint_Int_Text.f N r8.1 r8.2.1).bind fun r25 =>
              (parquetref02_Text.f N r6.1 r6.2).bind fun r26 =>
              bif r25.toList == r26.toList then
                (parquetlaw02_wakes.f N).bind fun r27 =>
                some r27
              else
              some false
            else
            some false
          else
          some false
        else
        some false
      else
      some false
    else
    some false
  else
  some false
noncomputable def parquetlaw02_ZintSums.body : Code := (Try.f6.body).getD .skip
noncomputable def parquetlaw02_ZintSums.ty : List (Nat × TI) := [(27, ty27), (33, ty33), (41, ty41)]
noncomputable def parquetlaw02_ZintSums.E (N : Nat) : Env := { ty := lookN parquetlaw02_ZintSums.ty, tab := lookN [(16, parquetlaw02_Of.ent N), (17, parquetlaw02_Made.ent N), (38, zint_Add.ent N), (39, zint_Sub.ent N), (40, zint_Mul.ent N), (41, zint_Neg.ent N), (42, parquetref02_Add.ent N), (23, parquetlaw02_is.ent N), (43, parquetref02_Sub.ent N), (44, parquetref02_Mul.ent N), (45, parquetref02_Neg.ent N), (33, zint_Cmp.ent N), (34, parquetref02_Cmp.ent N), (14, zint_Int_Text.ent N), (15, parquetref02_Text.ent N), (11, parquetlaw02_wakes.ent N)], hint := lookN [], cut := lookN [], N := N, res := [.tmp 4], rsh := [.any], nb := 0, ntmps := 114, own := false }
noncomputable def parquetlaw02_ZintSums.dec (v : V) (bs : List Blk) : Option (Bool) := match v, bs with
  | .c (.bool z0), [] => some z0
  | _, _ => none
set_option maxRecDepth 100000 in
theorem parquetlaw02_ZintSums.f_eq (N : Nat) (a1 : Bool) (a2 : List Int) (a3 : Bool) (a4 : List Int) :
    evFun (parquetlaw02_ZintSums.E N) parquetlaw02_ZintSums.body [.agg [.c (.bool a1), .il .u16 1 a2], .agg [.c (.bool a3), .il .u16 1 a4]] [] parquetlaw02_ZintSums.dec = parquetlaw02_ZintSums.f N a1 a2 a3 a4 := by kernel_rfl
noncomputable def parquetlaw02_ZintSums.ent (N : Nat) : Entry := { A := Bool, fresh := 0, imm := [true, true], dec := fun args bs => match freezeL 0 (fun _ => .dead) [.recd [.any, .il .u16 1], .recd [.any, .il .u16 1]] args, bs with
  | some [.agg [.c (.bool a1), .il .u16 1 a2], .agg [.c (.bool a3), .il .u16 1 a4]], [] => some (parquetlaw02_ZintSums.f N a1 a2 a3 a4, fun r => .one (.c (.bool r)) [])
  | _, _ => none }
theorem parquetlaw02_ZintSums.env (N : Nat) : EnvOK Try.prog (parquetlaw02_ZintSums.E N) := ⟨(TyOK.cons ty27_ok (TyOK.cons ty33_ok (TyOK.cons ty41_ok TyOK.nil))), (TabOK.cons (parquetlaw02_Of.ent_ok N) (TabOK.cons (parquetlaw02_Made.ent_ok N) (TabOK.cons (zint_Add.ent_ok N) (TabOK.cons (zint_Sub.ent_ok N) (TabOK.cons (zint_Mul.ent_ok N) (TabOK.cons (zint_Neg.ent_ok N) (TabOK.cons (parquetref02_Add.ent_ok N) (TabOK.cons (parquetlaw02_is.ent_ok N) (TabOK.cons (parquetref02_Sub.ent_ok N) (TabOK.cons (parquetref02_Mul.ent_ok N) (TabOK.cons (parquetref02_Neg.ent_ok N) (TabOK.cons (zint_Cmp.ent_ok N) (TabOK.cons (parquetref02_Cmp.ent_ok N) (TabOK.cons (zint_Int_Text.ent_ok N) (TabOK.cons (parquetref02_Text.ent_ok N) (TabOK.cons (parquetlaw02_wakes.ent_ok N) TabOK.nil))))))))))))))))⟩
theorem parquetlaw02_ZintSums.res_eq (N : Nat) : (parquetlaw02_ZintSums.E N).res = Try.f6.results.toList := by kernel_rfl
theorem parquetlaw02_ZintSums.spec (N : Nat) (a1 : Bool) (a2 : List Int) (a3 : Bool) (a4 : List Int) (r : Bool) (h : parquetlaw02_ZintSums.f N a1 a2 a3 a4 = some r) : FnSpec Try.prog 6 [.agg [.c (.bool a1), .il .u16 1 a2], .agg [.c (.bool a3), .il .u16 1 a4]] [] (.c (.bool r)) ([]) := by
  rw [← parquetlaw02_ZintSums.f_eq] at h
  obtain ⟨v, bs', h1, h2⟩ := evFun_ok (parquetlaw02_ZintSums.env N) Try_mixed Try.func6 (by kernel_rfl : Try.f6.body = some parquetlaw02_ZintSums.body) (by kernel_rfl) (parquetlaw02_ZintSums.res_eq N) (by kernel_rfl) (by kernel_rfl) (Nat.le_of_ble_eq_true (by kernel_rfl)) (AllCut.of (l := []) (by kernel_rfl) AllCut.nil) h
  unfold parquetlaw02_ZintSums.dec at h1; split at h1
  · cases h1; exact h2
  · cases h1
theorem parquetlaw02_ZintSums.ent_ok (N : Nat) : TabOK1 Try.prog 6 (parquetlaw02_ZintSums.ent N) := by
  intro args bs a enc h
  simp only [parquetlaw02_ZintSums.ent] at h
  split at h
  · rename_i hz; have h0 := Option.some.inj h; have h1 := congrArg Prod.fst h0; have h2 := congrArg Prod.snd h0; dsimp only at h1 h2; subst h2; exact FnSpec.of_freeze hz (parquetlaw02_ZintSums.spec N _ _ _ _ a h1)
  · cases h
/-! parquet/parquetlaw02.ZintQuos: function 4 -/
noncomputable def parquetlaw02_ZintQuos.f (N : Nat) (a1 : Bool) (a2 : List Int) (a3 : Bool) (a4 : List Int) : Option (Bool) :=
  (parquetlaw02_Of.f N a1 a2).bind fun r5 =>
  (parquetlaw02_Of.f N a3 a4).bind fun r6 =>
  (parquetlaw02_Made.f N r5.1 r5.2).bind fun r7 =>
  (parquetlaw02_Made.f N r6.1 r6.2).bind fun r8 =>
  bif !r7.2.2 then
    some false
  else
  bif !r8.2.2 then
    some false
  else
  (zint_Quo.f N r7.1 r7.2.1 r8.1 r8.2.1).bind fun r9 =>
  (zint_Exact.f N r7.1 r7.2.1 r8.1 r8.2.1).bind fun r10 =>
  (parquetref02_Zero.f N r6.1 r6.2).bind fun r11 =>
  bif r11 then
    bif r9.2.2.2.2 == 11 then
      bif r10.2.2 == 11 then
        (zint_Int_Sign.f N r9.1 r9.2.1).bind fun r12 =>
        bif r12 == 0 then
          (zint_Int_Sign.f N r9.2.2.1 r9.2.2.2.1).bind fun r13 =>
          bif r13 == 0 then
            (zint_Int_Sign.f N r10.1 r10.2.1).bind fun r14 =>
            bif r14 == 0 then
              (parquetlaw02_wakes.f N).bind fun r15 =>
              some r15
            else
            some false
          else
          some false
        else
        some false
      else
      some false
    else
    some false
  else
  (parquetref02_Quo.f N r5.1 r5.2 r6.1 r6.2).bind fun r16 =>
  (parquetlaw02_is.f N r9.1 r9.2.1 r9.2.2.2.2 r16.1 r16.2.1).bind fun r17 =>
  bif !r17 then
    some false
  else
  (parquetlaw02_is.f N r9.2.2.1 r9.2.2.2.1 r9.2.2.2.2 r16.2.2.1 r16.2.2.2).bind fun r18 =>
  bif !r18 then
    some false
  else
  (parquetref02_Zero.f N r16.2.2.1 r16.2.2.2).bind fun r19 =>
  bif !r19 then
    bif r10.2.2 == 2 then
      (zint_Int_Sign.f N r10.1 r10.2.1).bind fun r20 =>
      bif r20 == 0 then
        (parquetlaw02_wakes.f N).bind fun r21 =>
        some r21
      else
      some false
    else
    some false
  else
  (parquetlaw02_is.f N r10.1 r10.2.1 r10.2.2 r16.1 r16.2.1).bind fun r22 =>
  bif r22 then
    (parquetlaw02_wakes.f N).bind fun r23 =>
    some r23
  else
  some false
noncomputable def parquetlaw02_ZintQuos.body : Code := (Try.f4.body).getD .skip
noncomputable def parquetlaw02_ZintQuos.ty : List (Nat × TI) := [(27, ty27), (33, ty33), (41, ty41)]
noncomputable def parquetlaw02_ZintQuos.E (N : Nat) : Env := { ty := lookN parquetlaw02_ZintQuos.ty, tab := lookN [(16, parquetlaw02_Of.ent N), (17, parquetlaw02_Made.ent N), (18, zint_Quo.ent N), (19, zint_Exact.ent N), (20, parquetref02_Zero.ent N), (21, zint_Int_Sign.ent N), (11, parquetlaw02_wakes.ent N), (22, parquetref02_Quo.ent N), (23, parquetlaw02_is.ent N)], hint := lookN [], cut := lookN [], N := N, res := [.tmp 4], rsh := [.any], nb := 0, ntmps := 115, own := false }
noncomputable def parquetlaw02_ZintQuos.dec (v : V) (bs : List Blk) : Option (Bool) := match v, bs with
  | .c (.bool z0), [] => some z0
  | _, _ => none
set_option maxRecDepth 100000 in
theorem parquetlaw02_ZintQuos.f_eq (N : Nat) (a1 : Bool) (a2 : List Int) (a3 : Bool) (a4 : List Int) :
    evFun (parquetlaw02_ZintQuos.E N) parquetlaw02_ZintQuos.body [.agg [.c (.bool a1), .il .u16 1 a2], .agg [.c (.bool a3), .il .u16 1 a4]] [] parquetlaw02_ZintQuos.dec = parquetlaw02_ZintQuos.f N a1 a2 a3 a4 := by kernel_rfl
noncomputable def parquetlaw02_ZintQuos.ent (N : Nat) : Entry := { A := Bool, fresh := 0, imm := [true, true], dec := fun args bs => match freezeL 0 (fun _ => .dead) [.recd [.any, .il .u16 1], .recd [.any, .il .u16 1]] args, bs with
  | some [.agg [.c (.bool a1), .il .u16 1 a2], .agg [.c (.bool a3), .il .u16 1 a4]], [] => some (parquetlaw02_ZintQuos.f N a1 a2 a3 a4, fun r => .one (.c (.bool r)) [])
  | _, _ => none }
theorem parquetlaw02_ZintQuos.env (N : Nat) : EnvOK Try.prog (parquetlaw02_ZintQuos.E N) := ⟨(TyOK.cons ty27_ok (TyOK.cons ty33_ok (TyOK.cons ty41_ok TyOK.nil))), (TabOK.cons (parquetlaw02_Of.ent_ok N) (TabOK.cons (parquetlaw02_Made.ent_ok N) (TabOK.cons (zint_Quo.ent_ok N) (TabOK.cons (zint_Exact.ent_ok N) (TabOK.cons (parquetref02_Zero.ent_ok N) (TabOK.cons (zint_Int_Sign.ent_ok N) (TabOK.cons (parquetlaw02_wakes.ent_ok N) (TabOK.cons (parquetref02_Quo.ent_ok N) (TabOK.cons (parquetlaw02_is.ent_ok N) TabOK.nil)))))))))⟩
theorem parquetlaw02_ZintQuos.res_eq (N : Nat) : (parquetlaw02_ZintQuos.E N).res = Try.f4.results.toList := by kernel_rfl
theorem parquetlaw02_ZintQuos.spec (N : Nat) (a1 : Bool) (a2 : List Int) (a3 : Bool) (a4 : List Int) (r : Bool) (h : parquetlaw02_ZintQuos.f N a1 a2 a3 a4 = some r) : FnSpec Try.prog 4 [.agg [.c (.bool a1), .il .u16 1 a2], .agg [.c (.bool a3), .il .u16 1 a4]] [] (.c (.bool r)) ([]) := by
  rw [← parquetlaw02_ZintQuos.f_eq] at h
  obtain ⟨v, bs', h1, h2⟩ := evFun_ok (parquetlaw02_ZintQuos.env N) Try_mixed Try.func4 (by kernel_rfl : Try.f4.body = some parquetlaw02_ZintQuos.body) (by kernel_rfl) (parquetlaw02_ZintQuos.res_eq N) (by kernel_rfl) (by kernel_rfl) (Nat.le_of_ble_eq_true (by kernel_rfl)) (AllCut.of (l := []) (by kernel_rfl) AllCut.nil) h
  unfold parquetlaw02_ZintQuos.dec at h1; split at h1
  · cases h1; exact h2
  · cases h1
theorem parquetlaw02_ZintQuos.ent_ok (N : Nat) : TabOK1 Try.prog 4 (parquetlaw02_ZintQuos.ent N) := by
  intro args bs a enc h
  simp only [parquetlaw02_ZintQuos.ent] at h
  split at h
  · rename_i hz; have h0 := Option.some.inj h; have h1 := congrArg Prod.fst h0; have h2 := congrArg Prod.snd h0; dsimp only at h1 h2; subst h2; exact FnSpec.of_freeze hz (parquetlaw02_ZintQuos.spec N _ _ _ _ a h1)
  · cases h
end Go.Proofs.Ytndhfopllmbjhaa
