-- The seat's functions as the evaluator goes through them: typed models and their laws.
import Derived.Test.YtnjlpjdncejfcaaProg
import Derived.Test.YtnjlpjdncejfcaaEvUse
import Derived.Test.YtnjlpjdncejfcaaT3
import Derived.KernelRfl
namespace Go.Proofs.Ytnjlpjdncejfcaa
open Go.Proofs.Ytnjlpjdncejfcaa.Ev
set_option linter.unusedVariables false
open Go
def str2 : ByteArray := ⟨#[51, 52, 48, 50, 56, 50, 51, 54, 54, 57, 50, 48, 57, 51, 56, 52, 54, 51, 52, 54, 51, 51, 55, 52, 54, 48, 55, 52, 51, 49, 55, 54, 56, 50, 49, 49, 52, 53, 54]⟩
def str3 : ByteArray := ⟨#[51, 52, 48, 50, 56, 50, 51, 54, 54, 57, 50, 48, 57, 51, 56, 52, 54, 51, 52, 54, 51, 51, 55, 52, 54, 48, 55, 52, 51, 49, 55, 54, 56, 50, 49, 49, 52, 53]⟩
def str4 : ByteArray := ⟨#[54]⟩
def str5 : ByteArray := ⟨#[48, 48, 55]⟩
def str6 : ByteArray := ⟨#[43, 49]⟩
def str7 : ByteArray := ⟨#[49]⟩
def str8 : ByteArray := ⟨#[57]⟩
noncomputable def ty4 : TI := ⟨.bool, 1, 1, [.bool false]⟩
noncomputable def ty45 : TI := ⟨.slice 27, 1, 24, [.slice none 0 0]⟩
noncomputable def ty69 : TI := ⟨.slice 9, 1, 24, [.slice none 0 0]⟩
theorem ty4_ok : TyOK1 Try.prog 4 ty4 := tyok_of (by kernel_rfl) (by kernel_rfl) (by kernel_rfl) (by kernel_rfl) (by kernel_rfl) (by kernel_rfl) (by kernel_rfl) (Try.underlying4) (by kernel_rfl)
theorem ty45_ok : TyOK1 Try.prog 45 ty45 := tyok_of (by kernel_rfl) (by kernel_rfl) (by kernel_rfl) (by kernel_rfl) (by kernel_rfl) (by kernel_rfl) (by kernel_rfl) (Try.underlying45) (by kernel_rfl)
theorem ty69_ok : TyOK1 Try.prog 69 ty69 := tyok_of (by kernel_rfl) (by kernel_rfl) (by kernel_rfl) (by kernel_rfl) (by kernel_rfl) (by kernel_rfl) (by kernel_rfl) (Try.underlying69) (by kernel_rfl)
/-! parquet/parquetlaw01.beyond: function 11 -/
noncomputable def parquetlaw01_beyond1.f (N : Nat) (a1 : ByteArray) : Option (Bool) :=
  bif decide ((a1.size : Int) > 16384) then
    some true
  else
  some false
noncomputable def parquetlaw01_beyond1.body : Code := (Try.f11.body).getD .skip
noncomputable def parquetlaw01_beyond1.ty : List (Nat × TI) := [(9, ty9), (69, ty69)]
noncomputable def parquetlaw01_beyond1.h2 : Hint := ⟨[(0, .any), (5, .any), (6, .any)], []⟩
noncomputable def parquetlaw01_beyond1.E (N : Nat) : Env := { ty := lookN parquetlaw01_beyond1.ty, tab := lookN [], hint := lookN [(2, parquetlaw01_beyond1.h2)], cut := lookN [], N := 40, res := [.tmp 2], rsh := [.any], nb := 1, ntmps := 16, own := false }
noncomputable def parquetlaw01_beyond1.dec (v : V) (bs : List Blk) : Option (Bool) := match v, bs with
  | .c (.bool z0), [.vals [.c (.string _)]] => some z0
  | _, _ => none
set_option maxRecDepth 100000 in
theorem parquetlaw01_beyond1.f_eq (N : Nat) (a1 : ByteArray) :
    evFun (parquetlaw01_beyond1.E N) parquetlaw01_beyond1.body [.sw 0 1] [.vals [.c (.string a1)]] parquetlaw01_beyond1.dec = parquetlaw01_beyond1.f N a1 := by kernel_rfl
theorem parquetlaw01_beyond1.env (N : Nat) : EnvOK Try.prog (parquetlaw01_beyond1.E N) := ⟨(TyOK.cons ty9_ok (TyOK.cons ty69_ok TyOK.nil)), TabOK.nil⟩
theorem parquetlaw01_beyond1.res_eq (N : Nat) : (parquetlaw01_beyond1.E N).res = Try.f11.results.toList := by kernel_rfl
theorem parquetlaw01_beyond1.spec (N : Nat) (a1 : ByteArray) (r : Bool) (h : parquetlaw01_beyond1.f N a1 = some r) : FnSpec Try.prog 11 [.sw 0 1] [.vals [.c (.string a1)]] (.c (.bool r)) ([.dead]) := by
  rw [← parquetlaw01_beyond1.f_eq] at h
  obtain ⟨v, bs', h1, h2⟩ := evFun_ok (parquetlaw01_beyond1.env N) Try_mixed Try.func11 (by kernel_rfl : Try.f11.body = some parquetlaw01_beyond1.body) (by kernel_rfl) (parquetlaw01_beyond1.res_eq N) (by kernel_rfl) (by kernel_rfl) (Nat.le_of_ble_eq_true (by kernel_rfl)) (AllCut.of (l := [(.loop (inner ((subLoops parquetlaw01_beyond1.body).getD 0 .skip)))]) (by kernel_rfl) (AllCut.cons (cut_loop (by kernel_rfl)) AllCut.nil)) h
  unfold parquetlaw01_beyond1.dec at h1; split at h1
  · cases h1; exact h2.kill
  · cases h1
noncomputable def parquetlaw01_beyond2.f (N : Nat) (a1 : ByteArray) (a2 : ByteArray) : Option (Bool) :=
  bif decide ((a1.size : Int) > 16384) then
    some true
  else
  bif decide ((a2.size : Int) > 16384) then
    some true
  else
  some false
noncomputable def parquetlaw01_beyond2.body : Code := (Try.f11.body).getD .skip
noncomputable def parquetlaw01_beyond2.ty : List (Nat × TI) := [(9, ty9), (69, ty69)]
noncomputable def parquetlaw01_beyond2.h2 : Hint := ⟨[(0, .any), (5, .any), (6, .any)], []⟩
noncomputable def parquetlaw01_beyond2.E (N : Nat) : Env := { ty := lookN parquetlaw01_beyond2.ty, tab := lookN [], hint := lookN [(2, parquetlaw01_beyond2.h2)], cut := lookN [], N := 40, res := [.tmp 2], rsh := [.any], nb := 1, ntmps := 16, own := false }
noncomputable def parquetlaw01_beyond2.dec (v : V) (bs : List Blk) : Option (Bool) := match v, bs with
  | .c (.bool z0), [.vals [.c (.string _), .c (.string _)]] => some z0
  | _, _ => none
set_option maxRecDepth 100000 in
theorem parquetlaw01_beyond2.f_eq (N : Nat) (a1 : ByteArray) (a2 : ByteArray) :
    evFun (parquetlaw01_beyond2.E N) parquetlaw01_beyond2.body [.sw 0 1] [.vals [.c (.string a1), .c (.string a2)]] parquetlaw01_beyond2.dec = parquetlaw01_beyond2.f N a1 a2 := by kernel_rfl
theorem parquetlaw01_beyond2.env (N : Nat) : EnvOK Try.prog (parquetlaw01_beyond2.E N) := ⟨(TyOK.cons ty9_ok (TyOK.cons ty69_ok TyOK.nil)), TabOK.nil⟩
theorem parquetlaw01_beyond2.res_eq (N : Nat) : (parquetlaw01_beyond2.E N).res = Try.f11.results.toList := by kernel_rfl
theorem parquetlaw01_beyond2.spec (N : Nat) (a1 : ByteArray) (a2 : ByteArray) (r : Bool) (h : parquetlaw01_beyond2.f N a1 a2 = some r) : FnSpec Try.prog 11 [.sw 0 1] [.vals [.c (.string a1), .c (.string a2)]] (.c (.bool r)) ([.dead]) := by
  rw [← parquetlaw01_beyond2.f_eq] at h
  obtain ⟨v, bs', h1, h2⟩ := evFun_ok (parquetlaw01_beyond2.env N) Try_mixed Try.func11 (by kernel_rfl : Try.f11.body = some parquetlaw01_beyond2.body) (by kernel_rfl) (parquetlaw01_beyond2.res_eq N) (by kernel_rfl) (by kernel_rfl) (Nat.le_of_ble_eq_true (by kernel_rfl)) (AllCut.of (l := [(.loop (inner ((subLoops parquetlaw01_beyond2.body).getD 0 .skip)))]) (by kernel_rfl) (AllCut.cons (cut_loop (by kernel_rfl)) AllCut.nil)) h
  unfold parquetlaw01_beyond2.dec at h1; split at h1
  · cases h1; exact h2.kill
  · cases h1
noncomputable def parquetlaw01_beyond3.f (N : Nat) (a1 : ByteArray) (a2 : ByteArray) (a3 : ByteArray) : Option (Bool) :=
  bif decide ((a1.size : Int) > 16384) then
    some true
  else
  bif decide ((a2.size : Int) > 16384) then
    some true
  else
  bif decide ((a3.size : Int) > 16384) then
    some true
  else
  some false
noncomputable def parquetlaw01_beyond3.body : Code := (Try.f11.body).getD .skip
noncomputable def parquetlaw01_beyond3.ty : List (Nat × TI) := [(9, ty9), (69, ty69)]
noncomputable def parquetlaw01_beyond3.h2 : Hint := ⟨[(0, .any), (5, .any), (6, .any)], []⟩
noncomputable def parquetlaw01_beyond3.E (N : Nat) : Env := { ty := lookN parquetlaw01_beyond3.ty, tab := lookN [], hint := lookN [(2, parquetlaw01_beyond3.h2)], cut := lookN [], N := 40, res := [.tmp 2], rsh := [.any], nb := 1, ntmps := 16, own := false }
noncomputable def parquetlaw01_beyond3.dec (v : V) (bs : List Blk) : Option (Bool) := match v, bs with
  | .c (.bool z0), [.vals [.c (.string _), .c (.string _), .c (.string _)]] => some z0
  | _, _ => none
set_option maxRecDepth 100000 in
theorem parquetlaw01_beyond3.f_eq (N : Nat) (a1 : ByteArray) (a2 : ByteArray) (a3 : ByteArray) :
    evFun (parquetlaw01_beyond3.E N) parquetlaw01_beyond3.body [.sw 0 1] [.vals [.c (.string a1), .c (.string a2), .c (.string a3)]] parquetlaw01_beyond3.dec = parquetlaw01_beyond3.f N a1 a2 a3 := by kernel_rfl
theorem parquetlaw01_beyond3.env (N : Nat) : EnvOK Try.prog (parquetlaw01_beyond3.E N) := ⟨(TyOK.cons ty9_ok (TyOK.cons ty69_ok TyOK.nil)), TabOK.nil⟩
theorem parquetlaw01_beyond3.res_eq (N : Nat) : (parquetlaw01_beyond3.E N).res = Try.f11.results.toList := by kernel_rfl
theorem parquetlaw01_beyond3.spec (N : Nat) (a1 : ByteArray) (a2 : ByteArray) (a3 : ByteArray) (r : Bool) (h : parquetlaw01_beyond3.f N a1 a2 a3 = some r) : FnSpec Try.prog 11 [.sw 0 1] [.vals [.c (.string a1), .c (.string a2), .c (.string a3)]] (.c (.bool r)) ([.dead]) := by
  rw [← parquetlaw01_beyond3.f_eq] at h
  obtain ⟨v, bs', h1, h2⟩ := evFun_ok (parquetlaw01_beyond3.env N) Try_mixed Try.func11 (by kernel_rfl : Try.f11.body = some parquetlaw01_beyond3.body) (by kernel_rfl) (parquetlaw01_beyond3.res_eq N) (by kernel_rfl) (by kernel_rfl) (Nat.le_of_ble_eq_true (by kernel_rfl)) (AllCut.of (l := [(.loop (inner ((subLoops parquetlaw01_beyond3.body).getD 0 .skip)))]) (by kernel_rfl) (AllCut.cons (cut_loop (by kernel_rfl)) AllCut.nil)) h
  unfold parquetlaw01_beyond3.dec at h1; split at h1
  · cases h1; exact h2.kill
  · cases h1
noncomputable def parquetlaw01_beyond.ent (N : Nat) : Entry := { A := Bool, fresh := 0, imm := [false], dec := fun args bs => match asSlL (blkAt bs) [false] args, bs with
  | [.sw 0 1], [.vals [.c (.string a1)]] => some (parquetlaw01_beyond1.f N a1, fun r => .one (.c (.bool r)) [.dead])
  | [.sw 0 1], [.vals [.c (.string a1), .c (.string a2)]] => some (parquetlaw01_beyond2.f N a1 a2, fun r => .one (.c (.bool r)) [.dead])
  | [.sw 0 1], [.vals [.c (.string a1), .c (.string a2), .c (.string a3)]] => some (parquetlaw01_beyond3.f N a1 a2 a3, fun r => .one (.c (.bool r)) [.dead])
  | _, _ => none }
theorem parquetlaw01_beyond.ent_ok (N : Nat) : TabOK1 Try.prog 11 (parquetlaw01_beyond.ent N) := by
  intro args bs a enc h
  simp only [parquetlaw01_beyond.ent] at h
  split at h
  · rename_i hz; have h0 := Option.some.inj h; have h1 := congrArg Prod.fst h0; have h2 := congrArg Prod.snd h0; dsimp only at h1 h2; subst h2; exact FnSpec.of_asSl (fl := [false]) (by rw [hz]; exact parquetlaw01_beyond1.spec N _ a h1)
  · rename_i hz; have h0 := Option.some.inj h; have h1 := congrArg Prod.fst h0; have h2 := congrArg Prod.snd h0; dsimp only at h1 h2; subst h2; exact FnSpec.of_asSl (fl := [false]) (by rw [hz]; exact parquetlaw01_beyond2.spec N _ _ a h1)
  · rename_i hz; have h0 := Option.some.inj h; have h1 := congrArg Prod.fst h0; have h2 := congrArg Prod.snd h0; dsimp only at h1 h2; subst h2; exact FnSpec.of_asSl (fl := [false]) (by rw [hz]; exact parquetlaw01_beyond3.spec N _ _ _ a h1)
  · cases h
/-! parquet/parquetlaw01.read: function 12 -/
noncomputable def parquetlaw01_read.f (N : Nat) (a1 : ByteArray) : Option (List Int × List Int × Bool) :=
  (nat_Parse.f N a1).bind fun r2 =>
  (parquetref01_Digits.f N a1).bind fun r3 =>
  bif !r3 then
    bif r2.2 == 12 then
      (nat_Nat_Text.f N r2.1).bind fun r4 =>
      some (r2.1, [], r4.toList == str1.toList)
    else
    some (r2.1, [], false)
  else
  (parquetref01_Parse.f N a1).bind fun r5 =>
  bif !r5.2 then
    bif r2.2 == 3 then
      (nat_Nat_Text.f N r2.1).bind fun r6 =>
      some (r2.1, [], r6.toList == str1.toList)
    else
    some (r2.1, [], false)
  else
  some (r2.1, r5.1, r2.2 == 0)
noncomputable def parquetlaw01_read.body : Code := (Try.f12.body).getD .skip
noncomputable def parquetlaw01_read.ty : List (Nat × TI) := [(27, ty27)]
noncomputable def parquetlaw01_read.E (N : Nat) : Env := { ty := lookN parquetlaw01_read.ty, tab := lookN [(21, nat_Parse.ent N), (46, parquetref01_Digits.ent N), (18, nat_Nat_Text.ent N), (47, parquetref01_Parse.ent N)], hint := lookN [], cut := lookN [], N := N, res := [.cell 2 27, .tmp 3, .tmp 4], rsh := [.recd [.il .u32 1], .il .u32 1, .any], nb := 0, ntmps := 44, own := false }
noncomputable def parquetlaw01_read.dec (v : V) (bs : List Blk) : Option (List Int × List Int × Bool) := match v, bs with
  | .tup [.agg [.il .u32 1 z0], .il .u32 1 z1, .c (.bool z2)], [] => some (z0, z1, z2)
  | _, _ => none
set_option maxRecDepth 100000 in
theorem parquetlaw01_read.f_eq (N : Nat) (a1 : ByteArray) :
    evFun (parquetlaw01_read.E N) parquetlaw01_read.body [.c (.string a1)] [] parquetlaw01_read.dec = parquetlaw01_read.f N a1 := by kernel_rfl
noncomputable def parquetlaw01_read.ent (N : Nat) : Entry := { A := List Int × List Int × Bool, fresh := 0, imm := [true], dec := fun args bs => match freezeL 0 (fun _ => .dead) [.any] args, bs with
  | some [.c (.string a1)], [] => some (parquetlaw01_read.f N a1, fun r => .one (.tup [.agg [.il .u32 1 r.1], .il .u32 1 r.2.1, .c (.bool r.2.2)]) [])
  | _, _ => none }
theorem parquetlaw01_read.env (N : Nat) : EnvOK Try.prog (parquetlaw01_read.E N) := ⟨(TyOK.cons ty27_ok TyOK.nil), (TabOK.cons (nat_Parse.ent_ok N) (TabOK.cons (parquetref01_Digits.ent_ok N) (TabOK.cons (nat_Nat_Text.ent_ok N) (TabOK.cons (parquetref01_Parse.ent_ok N) TabOK.nil))))⟩
theorem parquetlaw01_read.res_eq (N : Nat) : (parquetlaw01_read.E N).res = Try.f12.results.toList := by kernel_rfl
theorem parquetlaw01_read.spec (N : Nat) (a1 : ByteArray) (r : List Int × List Int × Bool) (h : parquetlaw01_read.f N a1 = some r) : FnSpec Try.prog 12 [.c (.string a1)] [] (.tup [.agg [.il .u32 1 r.1], .il .u32 1 r.2.1, .c (.bool r.2.2)]) ([]) := by
  rw [← parquetlaw01_read.f_eq] at h
  obtain ⟨v, bs', h1, h2⟩ := evFun_ok (parquetlaw01_read.env N) Try_mixed Try.func12 (by kernel_rfl : Try.f12.body = some parquetlaw01_read.body) (by kernel_rfl) (parquetlaw01_read.res_eq N) (by kernel_rfl) (by kernel_rfl) (Nat.le_of_ble_eq_true (by kernel_rfl)) (AllCut.of (l := []) (by kernel_rfl) AllCut.nil) h
  unfold parquetlaw01_read.dec at h1; split at h1
  · cases h1; exact h2
  · cases h1
theorem parquetlaw01_read.ent_ok (N : Nat) : TabOK1 Try.prog 12 (parquetlaw01_read.ent N) := by
  intro args bs a enc h
  simp only [parquetlaw01_read.ent] at h
  split at h
  · rename_i hz; have h0 := Option.some.inj h; have h1 := congrArg Prod.fst h0; have h2 := congrArg Prod.snd h0; dsimp only at h1 h2; subst h2; exact FnSpec.of_freeze hz (parquetlaw01_read.spec N _ a h1)
  · cases h
/-! parquet/parquetlaw01.same: function 33 -/
noncomputable def parquetlaw01_same.f (N : Nat) (a1 : List Int) (a2 : Int) (a3 : List Int) (a4 : Int) : Option (Bool) :=
  bif a4 != 0 then
    bif a2 == a4 then
      (nat_Nat_Text.f N a1).bind fun r5 =>
      some (r5.toList == str1.toList)
    else
    some false
  else
  bif a2 == 0 then
    (nat_Nat_Text.f N a1).bind fun r6 =>
    (parquetref01_Text.f N a3).bind fun r7 =>
    some (r6.toList == r7.toList)
  else
  some false
noncomputable def parquetlaw01_same.body : Code := (Try.f33.body).getD .skip
noncomputable def parquetlaw01_same.ty : List (Nat × TI) := [(27, ty27)]
noncomputable def parquetlaw01_same.E (N : Nat) : Env := { ty := lookN parquetlaw01_same.ty, tab := lookN [(18, nat_Nat_Text.ent N), (19, parquetref01_Text.ent N)], hint := lookN [], cut := lookN [], N := N, res := [.tmp 8], rsh := [.any], nb := 0, ntmps := 28, own := false }
noncomputable def parquetlaw01_same.dec (v : V) (bs : List Blk) : Option (Bool) := match v, bs with
  | .c (.bool z0), [] => some z0
  | _, _ => none
set_option maxRecDepth 100000 in
theorem parquetlaw01_same.f_eq (N : Nat) (a1 : List Int) (a2 : Int) (a3 : List Int) (a4 : Int) :
    evFun (parquetlaw01_same.E N) parquetlaw01_same.body [.agg [.il .u32 1 a1], .c (.int .i64 a2), .il .u32 1 a3, .c (.int .i64 a4)] [] parquetlaw01_same.dec = parquetlaw01_same.f N a1 a2 a3 a4 := by kernel_rfl
noncomputable def parquetlaw01_same.ent (N : Nat) : Entry := { A := Bool, fresh := 0, imm := [true, true, true, true], dec := fun args bs => match freezeL 0 (fun _ => .dead) [.recd [.il .u32 1], .any, .il .u32 1, .any] args, bs with
  | some [.agg [.il .u32 1 a1], .c (.int .i64 a2), .il .u32 1 a3, .c (.int .i64 a4)], [] => some (parquetlaw01_same.f N a1 a2 a3 a4, fun r => .one (.c (.bool r)) [])
  | _, _ => none }
theorem parquetlaw01_same.env (N : Nat) : EnvOK Try.prog (parquetlaw01_same.E N) := ⟨(TyOK.cons ty27_ok TyOK.nil), (TabOK.cons (nat_Nat_Text.ent_ok N) (TabOK.cons (parquetref01_Text.ent_ok N) TabOK.nil))⟩
theorem parquetlaw01_same.res_eq (N : Nat) : (parquetlaw01_same.E N).res = Try.f33.results.toList := by kernel_rfl
theorem parquetlaw01_same.spec (N : Nat) (a1 : List Int) (a2 : Int) (a3 : List Int) (a4 : Int) (r : Bool) (h : parquetlaw01_same.f N a1 a2 a3 a4 = some r) : FnSpec Try.prog 33 [.agg [.il .u32 1 a1], .c (.int .i64 a2), .il .u32 1 a3, .c (.int .i64 a4)] [] (.c (.bool r)) ([]) := by
  rw [← parquetlaw01_same.f_eq] at h
  obtain ⟨v, bs', h1, h2⟩ := evFun_ok (parquetlaw01_same.env N) Try_mixed Try.func33 (by kernel_rfl : Try.f33.body = some parquetlaw01_same.body) (by kernel_rfl) (parquetlaw01_same.res_eq N) (by kernel_rfl) (by kernel_rfl) (Nat.le_of_ble_eq_true (by kernel_rfl)) (AllCut.of (l := []) (by kernel_rfl) AllCut.nil) h
  unfold parquetlaw01_same.dec at h1; split at h1
  · cases h1; exact h2
  · cases h1
theorem parquetlaw01_same.ent_ok (N : Nat) : TabOK1 Try.prog 33 (parquetlaw01_same.ent N) := by
  intro args bs a enc h
  simp only [parquetlaw01_same.ent] at h
  split at h
  · rename_i hz; have h0 := Option.some.inj h; have h1 := congrArg Prod.fst h0; have h2 := congrArg Prod.snd h0; dsimp only at h1 h2; subst h2; exact FnSpec.of_freeze hz (parquetlaw01_same.spec N _ _ _ _ a h1)
  · cases h
/-! parquet/parquetlaw01.long: function 32 -/
noncomputable def parquetlaw01_long.f (N : Nat) (a1 : List Int) : Option (Int) :=
  (parquetref01_Long.f N a1).bind fun r2 =>
  bif r2 then
    some 3
  else
  some 0
noncomputable def parquetlaw01_long.body : Code := (Try.f32.body).getD .skip
noncomputable def parquetlaw01_long.ty : List (Nat × TI) := []
noncomputable def parquetlaw01_long.E (N : Nat) : Env := { ty := lookN parquetlaw01_long.ty, tab := lookN [(56, parquetref01_Long.ent N)], hint := lookN [], cut := lookN [], N := N, res := [.tmp 2], rsh := [.any], nb := 0, ntmps := 5, own := false }
noncomputable def parquetlaw01_long.dec (v : V) (bs : List Blk) : Option (Int) := match v, bs with
  | .c (.int .i64 z0), [] => some z0
  | _, _ => none
set_option maxRecDepth 100000 in
theorem parquetlaw01_long.f_eq (N : Nat) (a1 : List Int) :
    evFun (parquetlaw01_long.E N) parquetlaw01_long.body [.il .u32 1 a1] [] parquetlaw01_long.dec = parquetlaw01_long.f N a1 := by kernel_rfl
noncomputable def parquetlaw01_long.ent (N : Nat) : Entry := { A := Int, fresh := 0, imm := [true], dec := fun args bs => match freezeL 0 (fun _ => .dead) [.il .u32 1] args, bs with
  | some [.il .u32 1 a1], [] => some (parquetlaw01_long.f N a1, fun r => .one (.c (.int .i64 r)) [])
  | _, _ => none }
theorem parquetlaw01_long.env (N : Nat) : EnvOK Try.prog (parquetlaw01_long.E N) := ⟨TyOK.nil, (TabOK.cons (parquetref01_Long.ent_ok N) TabOK.nil)⟩
theorem parquetlaw01_long.res_eq (N : Nat) : (parquetlaw01_long.E N).res = Try.f32.results.toList := by kernel_rfl
theorem parquetlaw01_long.spec (N : Nat) (a1 : List Int) (r : Int) (h : parquetlaw01_long.f N a1 = some r) : FnSpec Try.prog 32 [.il .u32 1 a1] [] (.c (.int .i64 r)) ([]) := by
  rw [← parquetlaw01_long.f_eq] at h
  obtain ⟨v, bs', h1, h2⟩ := evFun_ok (parquetlaw01_long.env N) Try_mixed Try.func32 (by kernel_rfl : Try.f32.body = some parquetlaw01_long.body) (by kernel_rfl) (parquetlaw01_long.res_eq N) (by kernel_rfl) (by kernel_rfl) (Nat.le_of_ble_eq_true (by kernel_rfl)) (AllCut.of (l := []) (by kernel_rfl) AllCut.nil) h
  unfold parquetlaw01_long.dec at h1; split at h1
  · cases h1; exact h2
  · cases h1
theorem parquetlaw01_long.ent_ok (N : Nat) : TabOK1 Try.prog 32 (parquetlaw01_long.ent N) := by
  intro args bs a enc h
  simp only [parquetlaw01_long.ent] at h
  split at h
  · rename_i hz; have h0 := Option.some.inj h; have h1 := congrArg Prod.fst h0; have h2 := congrArg Prod.snd h0; dsimp only at h1 h2; subst h2; exact FnSpec.of_freeze hz (parquetlaw01_long.spec N _ a h1)
  · cases h
/-! parquet/parquetlaw01.works: function 10 -/
noncomputable def parquetlaw01_works.f (N : Nat) : Option (Bool) :=
  (nat_Parse.f N str2).bind fun r1 =>
  (nat_Of.f N 1).bind fun r2 =>
  (nat_Shl.f N r2 128).bind fun r3 =>
  (nat_Of.f N 10).bind fun r4 =>
  (nat_Div.f N r1.1 r4).bind fun r5 =>
  (nat_Of.f N 3).bind fun r6 =>
  (nat_Of.f N 5).bind fun r7 =>
  (nat_Sub.f N r6 r7).bind fun r8 =>
  bif r1.2 == 0 then
    bif r3.2 == 0 then
      bif r5.2.2 == 0 then
        (nat_Cmp.f N r1.1 r3.1).bind fun r9 =>
        bif r9 == 0 then
          (nat_Nat_Bits.f N r1.1).bind fun r10 =>
          bif r10 == 129 then
            (nat_Nat_Text.f N r5.1).bind fun r11 =>
            bif r11.toList == str3.toList then
              (nat_Nat_Text.f N r5.2.1).bind fun r12 =>
              bif r12.toList == str4.toList then
                some (r8.2 == 10)
              else
              some false
            else
            some false
          else
          some false
        else
        some false
      else
      some false
    else
    some false
  else
  some false
noncomputable def parquetlaw01_works.body : Code := (Try.f10.body).getD .skip
noncomputable def parquetlaw01_works.ty : List (Nat × TI) := [(27, ty27)]
noncomputable def parquetlaw01_works.E (N : Nat) : Env := { ty := lookN parquetlaw01_works.ty, tab := lookN [(21, nat_Parse.ent N), (15, nat_Of.ent N), (28, nat_Shl.ent N), (44, nat_Div.ent N), (27, nat_Sub.ent N), (22, nat_Cmp.ent N), (16, nat_Nat_Bits.ent N), (18, nat_Nat_Text.ent N)], hint := lookN [], cut := lookN [], N := N, res := [.tmp 0], rsh := [.any], nb := 0, ntmps := 67, own := false }
noncomputable def parquetlaw01_works.dec (v : V) (bs : List Blk) : Option (Bool) := match v, bs with
  | .c (.bool z0), [] => some z0
  | _, _ => none
set_option maxRecDepth 100000 in
theorem parquetlaw01_works.f_eq (N : Nat) :
    evFun (parquetlaw01_works.E N) parquetlaw01_works.body [] [] parquetlaw01_works.dec = parquetlaw01_works.f N := by kernel_rfl
noncomputable def parquetlaw01_works.ent (N : Nat) : Entry := { A := Bool, fresh := 0, imm := [], dec := fun args bs => match freezeL 0 (fun _ => .dead) [] args, bs with
  | some [], [] => some (parquetlaw01_works.f N, fun r => .one (.c (.bool r)) [])
  | _, _ => none }
theorem parquetlaw01_works.env (N : Nat) : EnvOK Try.prog (parquetlaw01_works.E N) := ⟨(TyOK.cons ty27_ok TyOK.nil), (TabOK.cons (nat_Parse.ent_ok N) (TabOK.cons (nat_Of.ent_ok N) (TabOK.cons (nat_Shl.ent_ok N) (TabOK.cons (nat_Div.ent_ok N) (TabOK.cons (nat_Sub.ent_ok N) (TabOK.cons (nat_Cmp.ent_ok N) (TabOK.cons (nat_Nat_Bits.ent_ok N) (TabOK.cons (nat_Nat_Text.ent_ok N) TabOK.nil))))))))⟩
theorem parquetlaw01_works.res_eq (N : Nat) : (parquetlaw01_works.E N).res = Try.f10.results.toList := by kernel_rfl
theorem parquetlaw01_works.spec (N : Nat) (r : Bool) (h : parquetlaw01_works.f N = some r) : FnSpec Try.prog 10 [] [] (.c (.bool r)) ([]) := by
  rw [← parquetlaw01_works.f_eq] at h
  obtain ⟨v, bs', h1, h2⟩ := evFun_ok (parquetlaw01_works.env N) Try_mixed Try.func10 (by kernel_rfl : Try.f10.body = some parquetlaw01_works.body) (by kernel_rfl) (parquetlaw01_works.res_eq N) (by kernel_rfl) (by kernel_rfl) (Nat.le_of_ble_eq_true (by kernel_rfl)) (AllCut.of (l := []) (by kernel_rfl) AllCut.nil) h
  unfold parquetlaw01_works.dec at h1; split at h1
  · cases h1; exact h2
  · cases h1
theorem parquetlaw01_works.ent_ok (N : Nat) : TabOK1 Try.prog 10 (parquetlaw01_works.ent N) := by
  intro args bs a enc h
  simp only [parquetlaw01_works.ent] at h
  split at h
  · rename_i hz; have h0 := Option.some.inj h; have h1 := congrArg Prod.fst h0; have h2 := congrArg Prod.snd h0; dsimp only at h1 h2; subst h2; exact FnSpec.of_freeze hz (parquetlaw01_works.spec N a h1)
  · cases h
/-! parquet/parquetlaw01.all: function 23 -/
noncomputable def parquetlaw01_all.f (N : Nat) (a1 : ByteArray) (a2 : ByteArray) (a3 : ByteArray) : Option (Bool × List Int × List Int × List Int × ByteArray × ByteArray × ByteArray) :=
  (nat_Parse.f N a1).bind fun r4 =>
  bif r4.2 != 0 then
    some (false, [], [], [], a1, a2, a3)
  else
  (nat_Parse.f N a2).bind fun r8 =>
  bif r8.2 != 0 then
    some (false, [], [], [], a1, a2, a3)
  else
  (nat_Parse.f N a3).bind fun r12 =>
  bif r12.2 != 0 then
    some (false, [], [], [], a1, a2, a3)
  else
  some (true, r4.1, r8.1, r12.1, a1, a2, a3)
noncomputable def parquetlaw01_all.body : Code := (Try.f23.body).getD .skip
noncomputable def parquetlaw01_all.ty : List (Nat × TI) := [(9, ty9), (27, ty27), (45, ty45), (69, ty69)]
noncomputable def parquetlaw01_all.h3 : Hint := ⟨[(0, .any), (4, .any), (9, .any), (10, .any)], [(4, .any)]⟩
noncomputable def parquetlaw01_all.E (N : Nat) : Env := { ty := lookN parquetlaw01_all.ty, tab := lookN [(21, nat_Parse.ent N)], hint := lookN [(3, parquetlaw01_all.h3)], cut := lookN [], N := 40, res := [.tmp 2, .tmp 3], rsh := [.any, .any], nb := 1, ntmps := 29, own := true }
noncomputable def parquetlaw01_all.dec (v : V) (bs : List Blk) : Option (Bool × List Int × List Int × List Int × ByteArray × ByteArray × ByteArray) := match v, bs with
  | .tup [.sw 1 1, .c (.bool true)], [.vals [.c (.string z3), .c (.string z4), .c (.string z5)], .vals [.il .u32 1 z0, .il .u32 1 z1, .il .u32 1 z2]] => some (true, z0, z1, z2, z3, z4, z5)
  | .tup [.c (.slice none 0 0), .c (.bool false)], [.vals [.c (.string z3), .c (.string z4), .c (.string z5)]] => some (false, [], [], [], z3, z4, z5)
  | _, _ => none
set_option maxRecDepth 100000 in
theorem parquetlaw01_all.f_eq (N : Nat) (a1 : ByteArray) (a2 : ByteArray) (a3 : ByteArray) :
    evFun (parquetlaw01_all.E N) parquetlaw01_all.body [.sw 0 1] [.vals [.c (.string a1), .c (.string a2), .c (.string a3)]] parquetlaw01_all.dec = parquetlaw01_all.f N a1 a2 a3 := by kernel_rfl
noncomputable def parquetlaw01_all.ent (N : Nat) : Entry := { A := Bool × List Int × List Int × List Int × ByteArray × ByteArray × ByteArray, fresh := 1, imm := [false], dec := fun args bs => match asSlL (blkAt bs) [false] args, bs with
  | [.sw 0 1], [.vals [.c (.string a1), .c (.string a2), .c (.string a3)]] => some (parquetlaw01_all.f N a1 a2 a3, fun r => .two r.1 (.tup [.sw 1 1, .c (.bool true)]) [.vals [.c (.string r.2.2.2.2.1), .c (.string r.2.2.2.2.2.1), .c (.string r.2.2.2.2.2.2)], .vals [.il .u32 1 r.2.1, .il .u32 1 r.2.2.1, .il .u32 1 r.2.2.2.1]] (.tup [.c (.slice none 0 0), .c (.bool false)]) [.vals [.c (.string r.2.2.2.2.1), .c (.string r.2.2.2.2.2.1), .c (.string r.2.2.2.2.2.2)]])
  | _, _ => none }
theorem parquetlaw01_all.env (N : Nat) : EnvOK Try.prog (parquetlaw01_all.E N) := ⟨(TyOK.cons ty9_ok (TyOK.cons ty27_ok (TyOK.cons ty45_ok (TyOK.cons ty69_ok TyOK.nil)))), (TabOK.cons (nat_Parse.ent_ok N) TabOK.nil)⟩
theorem parquetlaw01_all.res_eq (N : Nat) : (parquetlaw01_all.E N).res = Try.f23.results.toList := by kernel_rfl
theorem parquetlaw01_all.spec (N : Nat) (a1 : ByteArray) (a2 : ByteArray) (a3 : ByteArray) (r : Bool × List Int × List Int × List Int × ByteArray × ByteArray × ByteArray) (h : parquetlaw01_all.f N a1 a2 a3 = some r) : FnSpec Try.prog 23 [.sw 0 1] [.vals [.c (.string a1), .c (.string a2), .c (.string a3)]] ((Alt.two r.1 (.tup [.sw 1 1, .c (.bool true)]) [.vals [.c (.string r.2.2.2.2.1), .c (.string r.2.2.2.2.2.1), .c (.string r.2.2.2.2.2.2)], .vals [.il .u32 1 r.2.1, .il .u32 1 r.2.2.1, .il .u32 1 r.2.2.2.1]] (.tup [.c (.slice none 0 0), .c (.bool false)]) [.vals [.c (.string r.2.2.2.2.1), .c (.string r.2.2.2.2.2.1), .c (.string r.2.2.2.2.2.2)]]).pick.1) ((Alt.two r.1 (.tup [.sw 1 1, .c (.bool true)]) [.vals [.c (.string r.2.2.2.2.1), .c (.string r.2.2.2.2.2.1), .c (.string r.2.2.2.2.2.2)], .vals [.il .u32 1 r.2.1, .il .u32 1 r.2.2.1, .il .u32 1 r.2.2.2.1]] (.tup [.c (.slice none 0 0), .c (.bool false)]) [.vals [.c (.string r.2.2.2.2.1), .c (.string r.2.2.2.2.2.1), .c (.string r.2.2.2.2.2.2)]]).pick.2) := by
  rw [← parquetlaw01_all.f_eq] at h
  obtain ⟨v, bs', h1, h2⟩ := evFun_ok (parquetlaw01_all.env N) Try_mixed Try.func23 (by kernel_rfl : Try.f23.body = some parquetlaw01_all.body) (by kernel_rfl) (parquetlaw01_all.res_eq N) (by kernel_rfl) (by kernel_rfl) (Nat.le_of_ble_eq_true (by kernel_rfl)) (AllCut.of (l := [(.loop (inner ((subLoops parquetlaw01_all.body).getD 0 .skip)))]) (by kernel_rfl) (AllCut.cons (cut_loop (by kernel_rfl)) AllCut.nil)) h
  unfold parquetlaw01_all.dec at h1; split at h1
  · cases h1; exact h2
  · cases h1; exact h2
  · cases h1
theorem parquetlaw01_all.ent_ok (N : Nat) : TabOK1 Try.prog 23 (parquetlaw01_all.ent N) := by
  intro args bs a enc h
  simp only [parquetlaw01_all.ent] at h
  split at h
  · rename_i hz; have h0 := Option.some.inj h; have h1 := congrArg Prod.fst h0; have h2 := congrArg Prod.snd h0; dsimp only at h1 h2; subst h2; exact FnSpec.of_asSl (fl := [false]) (by rw [hz]; exact parquetlaw01_all.spec N _ _ _ a h1)
  · cases h
/-! parquet/parquetlaw01.two: function 25 -/
noncomputable def parquetlaw01_two.f (N : Nat) (a1 : List Int) (a2 : Int) (a3 : List Int) (a4 : Int) : Option (Bool) :=
  bif a2 != 0 then
    some true
  else
  bif a4 != 0 then
    some true
  else
  (nat_Cmp.f N a1 a3).bind fun r5 =>
  some (r5 == 0)
noncomputable def parquetlaw01_two.body : Code := (Try.f25.body).getD .skip
noncomputable def parquetlaw01_two.ty : List (Nat × TI) := [(27, ty27)]
noncomputable def parquetlaw01_two.E (N : Nat) : Env := { ty := lookN parquetlaw01_two.ty, tab := lookN [(22, nat_Cmp.ent N)], hint := lookN [], cut := lookN [], N := N, res := [.tmp 8], rsh := [.any], nb := 0, ntmps := 21, own := false }
noncomputable def parquetlaw01_two.dec (v : V) (bs : List Blk) : Option (Bool) := match v, bs with
  | .c (.bool z0), [] => some z0
  | _, _ => none
set_option maxRecDepth 100000 in
theorem parquetlaw01_two.f_eq (N : Nat) (a1 : List Int) (a2 : Int) (a3 : List Int) (a4 : Int) :
    evFun (parquetlaw01_two.E N) parquetlaw01_two.body [.agg [.il .u32 1 a1], .c (.int .i64 a2), .agg [.il .u32 1 a3], .c (.int .i64 a4)] [] parquetlaw01_two.dec = parquetlaw01_two.f N a1 a2 a3 a4 := by kernel_rfl
noncomputable def parquetlaw01_two.ent (N : Nat) : Entry := { A := Bool, fresh := 0, imm := [true, true, true, true], dec := fun args bs => match freezeL 0 (fun _ => .dead) [.recd [.il .u32 1], .any, .recd [.il .u32 1], .any] args, bs with
  | some [.agg [.il .u32 1 a1], .c (.int .i64 a2), .agg [.il .u32 1 a3], .c (.int .i64 a4)], [] => some (parquetlaw01_two.f N a1 a2 a3 a4, fun r => .one (.c (.bool r)) [])
  | _, _ => none }
theorem parquetlaw01_two.env (N : Nat) : EnvOK Try.prog (parquetlaw01_two.E N) := ⟨(TyOK.cons ty27_ok TyOK.nil), (TabOK.cons (nat_Cmp.ent_ok N) TabOK.nil)⟩
theorem parquetlaw01_two.res_eq (N : Nat) : (parquetlaw01_two.E N).res = Try.f25.results.toList := by kernel_rfl
theorem parquetlaw01_two.spec (N : Nat) (a1 : List Int) (a2 : Int) (a3 : List Int) (a4 : Int) (r : Bool) (h : parquetlaw01_two.f N a1 a2 a3 a4 = some r) : FnSpec Try.prog 25 [.agg [.il .u32 1 a1], .c (.int .i64 a2), .agg [.il .u32 1 a3], .c (.int .i64 a4)] [] (.c (.bool r)) ([]) := by
  rw [← parquetlaw01_two.f_eq] at h
  obtain ⟨v, bs', h1, h2⟩ := evFun_ok (parquetlaw01_two.env N) Try_mixed Try.func25 (by kernel_rfl : Try.f25.body = some parquetlaw01_two.body) (by kernel_rfl) (parquetlaw01_two.res_eq N) (by kernel_rfl) (by kernel_rfl) (Nat.le_of_ble_eq_true (by kernel_rfl)) (AllCut.of (l := []) (by kernel_rfl) AllCut.nil) h
  unfold parquetlaw01_two.dec at h1; split at h1
  · cases h1; exact h2
  · cases h1
theorem parquetlaw01_two.ent_ok (N : Nat) : TabOK1 Try.prog 25 (parquetlaw01_two.ent N) := by
  intro args bs a enc h
  simp only [parquetlaw01_two.ent] at h
  split at h
  · rename_i hz; have h0 := Option.some.inj h; have h1 := congrArg Prod.fst h0; have h2 := congrArg Prod.snd h0; dsimp only at h1 h2; subst h2; exact FnSpec.of_freeze hz (parquetlaw01_two.spec N _ _ _ _ a h1)
  · cases h
/-! parquet/parquetlaw01.NatReads: function 3 -/
noncomputable def parquetlaw01_NatReads.f (N : Nat) (a1 : ByteArray) (a2 : Int) : Option (Bool) :=
  (parquetlaw01_works.f N).bind fun r3 =>
  bif !r3 then
    (parquetlaw01_works.f N).bind fun r4 =>
    some r4
  else
  (parquetlaw01_beyond1.f N a1).bind fun r5 =>
  bif r5 then
    (parquetlaw01_works.f N).bind fun r6 =>
    some r6
  else
  (parquetlaw01_read.f N a1).bind fun r7 =>
  bif !r7.2.2 then
    some false
  else
  (nat_Nat_Uint64.f N r7.1).bind fun r8 =>
  (parquetref01_Small.f N r7.2.1).bind fun r9 =>
  (nat_Of.f N a2).bind fun r10 =>
  (nat_Nat_Uint64.f N r10).bind fun r11 =>
  bif r8.1 == r9.1 then
    bif r8.2 == r9.2 then
      (nat_Nat_Bits.f N r7.1).bind fun r12 =>
      (parquetref01_Bits.f N r7.2.1).bind fun r13 =>
      bif r12 == r13 then
        (nat_Nat_Text.f N r7.1).bind fun r14 =>
        (parquetref01_Text.f N r7.2.1).bind fun r15 =>
        bif r14.toList == r15.toList then
          (nat_Nat_Text.f N r10).bind fun r16 =>
          (parquetref01_Of.f N a2).bind fun r17 =>
          (parquetref01_Text.f N r17).bind fun r18 =>
          bif r16.toList == r18.toList then
            bif r11.1 == a2 then
              some r11.2
            else
            some false
          else
          some false
        else
        some false
      else
      some false
    else
    some false
  else
  some false
noncomputable def parquetlaw01_NatReads.body : Code := (Try.f3.body).getD .skip
noncomputable def parquetlaw01_NatReads.ty : List (Nat × TI) := [(4, ty4), (9, ty9), (27, ty27), (69, ty69)]
noncomputable def parquetlaw01_NatReads.E (N : Nat) : Env := { ty := lookN parquetlaw01_NatReads.ty, tab := lookN [(10, parquetlaw01_works.ent N), (11, parquetlaw01_beyond.ent N), (12, parquetlaw01_read.ent N), (13, nat_Nat_Uint64.ent N), (14, parquetref01_Small.ent N), (15, nat_Of.ent N), (16, nat_Nat_Bits.ent N), (17, parquetref01_Bits.ent N), (18, nat_Nat_Text.ent N), (19, parquetref01_Text.ent N), (20, parquetref01_Of.ent N)], hint := lookN [], cut := lookN [], N := N, res := [.tmp 4], rsh := [.any], nb := 0, ntmps := 86, own := false }
noncomputable def parquetlaw01_NatReads.dec (v : V) (bs : List Blk) : Option (Bool) := match v, bs with
  | .c (.bool z0), [] => some z0
  | _, _ => none
set_option maxRecDepth 100000 in
theorem parquetlaw01_NatReads.f_eq (N : Nat) (a1 : ByteArray) (a2 : Int) :
    evFun (parquetlaw01_NatReads.E N) parquetlaw01_NatReads.body [.c (.string a1), .c (.int .u64 a2)] [] parquetlaw01_NatReads.dec = parquetlaw01_NatReads.f N a1 a2 := by kernel_rfl
noncomputable def parquetlaw01_NatReads.ent (N : Nat) : Entry := { A := Bool, fresh := 0, imm := [true, true], dec := fun args bs => match freezeL 0 (fun _ => .dead) [.any, .any] args, bs with
  | some [.c (.string a1), .c (.int .u64 a2)], [] => some (parquetlaw01_NatReads.f N a1 a2, fun r => .one (.c (.bool r)) [])
  | _, _ => none }
theorem parquetlaw01_NatReads.env (N : Nat) : EnvOK Try.prog (parquetlaw01_NatReads.E N) := ⟨(TyOK.cons ty4_ok (TyOK.cons ty9_ok (TyOK.cons ty27_ok (TyOK.cons ty69_ok TyOK.nil)))), (TabOK.cons (parquetlaw01_works.ent_ok N) (TabOK.cons (parquetlaw01_beyond.ent_ok N) (TabOK.cons (parquetlaw01_read.ent_ok N) (TabOK.cons (nat_Nat_Uint64.ent_ok N) (TabOK.cons (parquetref01_Small.ent_ok N) (TabOK.cons (nat_Of.ent_ok N) (TabOK.cons (nat_Nat_Bits.ent_ok N) (TabOK.cons (parquetref01_Bits.ent_ok N) (TabOK.cons (nat_Nat_Text.ent_ok N) (TabOK.cons (parquetref01_Text.ent_ok N) (TabOK.cons (parquetref01_Of.ent_ok N) TabOK.nil)))))))))))⟩
theorem parquetlaw01_NatReads.res_eq (N : Nat) : (parquetlaw01_NatReads.E N).res = Try.f3.results.toList := by kernel_rfl
theorem parquetlaw01_NatReads.spec (N : Nat) (a1 : ByteArray) (a2 : Int) (r : Bool) (h : parquetlaw01_NatReads.f N a1 a2 = some r) : FnSpec Try.prog 3 [.c (.string a1), .c (.int .u64 a2)] [] (.c (.bool r)) ([]) := by
  rw [← parquetlaw01_NatReads.f_eq] at h
  obtain ⟨v, bs', h1, h2⟩ := evFun_ok (parquetlaw01_NatReads.env N) Try_mixed Try.func3 (by kernel_rfl : Try.f3.body = some parquetlaw01_NatReads.body) (by kernel_rfl) (parquetlaw01_NatReads.res_eq N) (by kernel_rfl) (by kernel_rfl) (Nat.le_of_ble_eq_true (by kernel_rfl)) (AllCut.of (l := []) (by kernel_rfl) AllCut.nil) h
  unfold parquetlaw01_NatReads.dec at h1; split at h1
  · cases h1; exact h2
  · cases h1
theorem parquetlaw01_NatReads.ent_ok (N : Nat) : TabOK1 Try.prog 3 (parquetlaw01_NatReads.ent N) := by
  intro args bs a enc h
  simp only [parquetlaw01_NatReads.ent] at h
  split at h
  · rename_i hz; have h0 := Option.some.inj h; have h1 := congrArg Prod.fst h0; have h2 := congrArg Prod.snd h0; dsimp only at h1 h2; subst h2; exact FnSpec.of_freeze hz (parquetlaw01_NatReads.spec N _ _ a h1)
  · cases h
/-! parquet/parquetlaw01.NatReckons: function 7 -/
noncomputable def parquetlaw01_NatReckons.f (N : Nat) (a1 : ByteArray) (a2 : ByteArray) : Option (Bool) :=
  (parquetlaw01_works.f N).bind fun r3 =>
  bif !r3 then
    (parquetlaw01_works.f N).bind fun r4 =>
    some r4
  else
  (parquetlaw01_beyond2.f N a1 a2).bind fun r5 =>
  bif r5 then
    (parquetlaw01_works.f N).bind fun r6 =>
    some r6
  else
  (parquetlaw01_read.f N a1).bind fun r7 =>
  (parquetlaw01_read.f N a2).bind fun r8 =>
  bif !r7.2.2 then
    some false
  else
  bif !r8.2.2 then
    some false
  else
  (nat_Add.f N r7.1 r8.1).bind fun r9 =>
  (parquetref01_Add.f N r7.2.1 r8.2.1).bind fun r10 =>
  (parquetlaw01_long.f N r10).bind fun r11 =>
  (parquetlaw01_same.f N r9.1 r9.2 r10 r11).bind fun r12 =>
  bif !r12 then
    some false
  else
  (nat_Cmp.f N r7.1 r8.1).bind fun r13 =>
  (parquetref01_Cmp.f N r7.2.1 r8.2.1).bind fun r14 =>
  bif r13 != r14 then
    some false
  else
  (nat_Mul.f N r7.1 r8.1).bind fun r15 =>
  (parquetref01_Mul.f N r7.2.1 r8.2.1).bind fun r16 =>
  (parquetlaw01_long.f N r16).bind fun r17 =>
  (parquetlaw01_same.f N r15.1 r15.2 r16 r17).bind fun r18 =>
  bif !r18 then
    some false
  else
  (nat_Sub.f N r7.1 r8.1).bind fun r19 =>
  (parquetref01_Cmp.f N r7.2.1 r8.2.1).bind fun r20 =>
  bif decide (r20 ≥ 0) then
    (parquetref01_Sub.f N r7.2.1 r8.2.1).bind fun r21 =>
    (parquetlaw01_same.f N r19.1 r19.2 r21 0).bind fun r22 =>
    bif !r22 then
      some false
    else
    (nat_Gcd.f N r7.1 r8.1).bind fun r23 =>
    (nat_Nat_Text.f N r23).bind fun r24 =>
    (parquetref01_Gcd.f N r7.2.1 r8.2.1).bind fun r25 =>
    (parquetref01_Text.f N r25).bind fun r26 =>
    bif !(r24.toList == r26.toList) then
      some false
    else
    (nat_Root.f N r7.1).bind fun r27 =>
    (nat_Nat_Text.f N r27).bind fun r28 =>
    (parquetref01_Root.f N r7.2.1).bind fun r29 =>
    (parquetref01_Text.f N r29).bind fun r30 =>
    bif !(r28.toList == r30.toList) then
      some false
    else
    (nat_Div.f N r7.1 r8.1).bind fun r31 =>
    bif (r8.2.1.length : Int) == 0 then
      bif r31.2.2 == 11 then
        (nat_Nat_Text.f N r31.1).bind fun r32 =>
        bif r32.toList == str1.toList then
          (nat_Nat_Text.f N r31.2.1).bind fun r33 =>
          some (r33.toList == str1.toList)
        else
        some false
      else
      some false
    else
    (parquetref01_Div.f N r7.2.1 r8.2.1).bind fun r34 =>
    bif r31.2.2 == 0 then
      (nat_Nat_Text.f N r31.1).bind fun r35 =>
      (parquetref01_Text.f N r34.1).bind fun r36 =>
      bif r35.toList == r36.toList then
        (nat_Nat_Text.f N r31.2.1).bind fun r37 =>
        (parquetref01_Text.f N r34.2).bind fun r38 =>
        bif r37.toList == r38.toList then
          (nat_Nat_Text.f N r7.1).bind fun r39 =>
          (parquetref01_Text.f N r7.2.1).bind fun r40 =>
          bif r39.toList == r40.toList then
            (nat_Nat_Text.f N r8.1).bind fun r41 =>
            (parquetref01_Text.f N r8.2.1).bind fun r42 =>
            some (r41.toList == r42.toList)
          else
          some false
        else
        some false
      else
      some false
    else
    some false
  else
  (parquetlaw01_same.f N r19.1 r19.2 r16 10).bind fun r43 =>
  bif !r43 then
    some false
  else
  (nat_Gcd.f N r7.1 r8.1).bind fun r44 =>
  (nat_Nat_Text.f N r44).bind fun r45 =>
  (parquetref01_Gcd.f N r7.2.1 r8.2.1).bind fun r46 =>
  (parquetref01_Text.f N r46).bind fun r47 =>
  bif !(r45.toList == r47.toList) then
    some false
  else
  (nat_Root.f N r7.1).bind fun r48 =>
  (nat_Nat_Text.f N r48).bind fun r49 =>
  (parquetref01_Root.f N r7.2.1).bind fun r50 =>
  (parquetref01_Text.f N r50).bind fun r51 =>
  bif !(r49.toList == r51.toList) then
    some false
  else
  (nat_Div.f N r7.1 r8.1).bind fun r52 =>
  bif (r8.2.1.length : Int) == 0 then
    bif r52.2.2 == 11 then
      (nat_Nat_Text.f N r52.1).bind fun r53 =>
      bif r53.toList == str1.toList then
        (nat_Nat_Text.f N r52.2.1).bind fun r54 =>
        some (r54.toList == str1.toList)
      else
      some false
    else
    some false
  else
  (parquetref01_Div.f N r7.2.1 r8.2.1).bind fun r55 =>
  bif r52.2.2 == 0 then
    (nat_Nat_Text.f N r52.1).bind fun r56 =>
    (parquetref01_Text.f N r55.1).bind fun r57 =>
    bif r56.toList == r57.toList then
      (nat_Nat_Text.f N r52.2.1).bind fun r58 =>
      (parquetref01_Text.f N r55.2).bind fun r59 =>
      bif r58.toList == r59.toList then
        (nat_Nat_Text.f N r7.1).bind fun r60 =>
        (parquetref01_Text.f N r7.2.1).bind fun r61 =>
        bif r60.toList == r61.toList then
          (nat_Nat_Text.f N r8.1).bind fun r62 =>
          (parquetref01_Text.f N r8.2.1).bind fun r63 =>
          some (r62.toList == r63.toList)
        else
        some false
      else
      some false
    else
    some false
  else
  some false
noncomputable def parquetlaw01_NatReckons.body : Code := (Try.f7.body).getD .skip
noncomputable def parquetlaw01_NatReckons.ty : List (Nat × TI) := [(9, ty9), (27, ty27), (28, ty28), (69, ty69)]
noncomputable def parquetlaw01_NatReckons.E (N : Nat) : Env := { ty := lookN parquetlaw01_NatReckons.ty, tab := lookN [(10, parquetlaw01_works.ent N), (11, parquetlaw01_beyond.ent N), (12, parquetlaw01_read.ent N), (24, nat_Add.ent N), (36, parquetref01_Add.ent N), (32, parquetlaw01_long.ent N), (33, parquetlaw01_same.ent N), (22, nat_Cmp.ent N), (37, parquetref01_Cmp.ent N), (26, nat_Mul.ent N), (38, parquetref01_Mul.ent N), (27, nat_Sub.ent N), (39, parquetref01_Sub.ent N), (40, nat_Gcd.ent N), (18, nat_Nat_Text.ent N), (41, parquetref01_Gcd.ent N), (19, parquetref01_Text.ent N), (42, nat_Root.ent N), (43, parquetref01_Root.ent N), (44, nat_Div.ent N), (45, parquetref01_Div.ent N)], hint := lookN [], cut := lookN [], N := N, res := [.tmp 4], rsh := [.any], nb := 0, ntmps := 186, own := false }
noncomputable def parquetlaw01_NatReckons.dec (v : V) (bs : List Blk) : Option (Bool) := match v, bs with
  | .c (.bool z0), [] => some z0
  | _, _ => none
set_option maxRecDepth 100000 in
theorem parquetlaw01_NatReckons.f_eq (N : Nat) (a1 : ByteArray) (a2 : ByteArray) :
    evFun (parquetlaw01_NatReckons.E N) parquetlaw01_NatReckons.body [.c (.string a1), .c (.string a2)] [] parquetlaw01_NatReckons.dec = parquetlaw01_NatReckons.f N a1 a2 := by kernel_rfl
noncomputable def parquetlaw01_NatReckons.ent (N : Nat) : Entry := { A := Bool, fresh := 0, imm := [true, true], dec := fun args bs => match freezeL 0 (fun _ => .dead) [.any, .any] args, bs with
  | some [.c (.string a1), .c (.string a2)], [] => some (parquetlaw01_NatReckons.f N a1 a2, fun r => .one (.c (.bool r)) [])
  | _, _ => none }
theorem parquetlaw01_NatReckons.env (N : Nat) : EnvOK Try.prog (parquetlaw01_NatReckons.E N) := ⟨(TyOK.cons ty9_ok (TyOK.cons ty27_ok (TyOK.cons ty28_ok (TyOK.cons ty69_ok TyOK.nil)))), (TabOK.cons (parquetlaw01_works.ent_ok N) (TabOK.cons (parquetlaw01_beyond.ent_ok N) (TabOK.cons (parquetlaw01_read.ent_ok N) (TabOK.cons (nat_Add.ent_ok N) (TabOK.cons (parquetref01_Add.ent_ok N) (TabOK.cons (parquetlaw01_long.ent_ok N) (TabOK.cons (parquetlaw01_same.ent_ok N) (TabOK.cons (nat_Cmp.ent_ok N) (TabOK.cons (parquetref01_Cmp.ent_ok N) (TabOK.cons (nat_Mul.ent_ok N) (TabOK.cons (parquetref01_Mul.ent_ok N) (TabOK.cons (nat_Sub.ent_ok N) (TabOK.cons (parquetref01_Sub.ent_ok N) (TabOK.cons (nat_Gcd.ent_ok N) (TabOK.cons (nat_Nat_Text.ent_ok N) (TabOK.cons (parquetref01_Gcd.ent_ok N) (TabOK.cons (parquetref01_Text.ent_ok N) (TabOK.cons (nat_Root.ent_ok N) (TabOK.cons (parquetref01_Root.ent_ok N) (TabOK.cons (nat_Div.ent_ok N) (TabOK.cons (parquetref01_Div.ent_ok N) TabOK.nil)))))))))))))))))))))⟩
theorem parquetlaw01_NatReckons.res_eq (N : Nat) : (parquetlaw01_NatReckons.E N).res = Try.f7.results.toList := by kernel_rfl
theorem parquetlaw01_NatReckons.spec (N : Nat) (a1 : ByteArray) (a2 : ByteArray) (r : Bool) (h : parquetlaw01_NatReckons.f N a1 a2 = some r) : FnSpec Try.prog 7 [.c (.string a1), .c (.string a2)] [] (.c (.bool r)) ([]) := by
  rw [← parquetlaw01_NatReckons.f_eq] at h
  obtain ⟨v, bs', h1, h2⟩ := evFun_ok (parquetlaw01_NatReckons.env N) Try_mixed Try.func7 (by kernel_rfl : Try.f7.body = some parquetlaw01_NatReckons.body) (by kernel_rfl) (parquetlaw01_NatReckons.res_eq N) (by kernel_rfl) (by kernel_rfl) (Nat.le_of_ble_eq_true (by kernel_rfl)) (AllCut.of (l := []) (by kernel_rfl) AllCut.nil) h
  unfold parquetlaw01_NatReckons.dec at h1; split at h1
  · cases h1; exact h2
  · cases h1
theorem parquetlaw01_NatReckons.ent_ok (N : Nat) : TabOK1 Try.prog 7 (parquetlaw01_NatReckons.ent N) := by
  intro args bs a enc h
  simp only [parquetlaw01_NatReckons.ent] at h
  split at h
  · rename_i hz; have h0 := Option.some.inj h; have h1 := congrArg Prod.fst h0; have h2 := congrArg Prod.snd h0; dsimp only at h1 h2; subst h2; exact FnSpec.of_freeze hz (parquetlaw01_NatReckons.spec N _ _ a h1)
  · cases h
/-! parquet/parquetlaw01.NatShifts: function 6 -/
noncomputable def parquetlaw01_NatShifts.f (N : Nat) (a1 : ByteArray) (a2 : Int) : Option (Bool) :=
  (parquetlaw01_works.f N).bind fun r3 =>
  bif !r3 then
    (parquetlaw01_works.f N).bind fun r4 =>
    some r4
  else
  (parquetlaw01_beyond1.f N a1).bind fun r5 =>
  bif r5 then
    (parquetlaw01_works.f N).bind fun r6 =>
    some r6
  else
  (parquetlaw01_read.f N a1).bind fun r7 =>
  bif !r7.2.2 then
    some false
  else
  (nat_Shl.f N r7.1 a2).bind fun r8 =>
  (nat_Shr.f N r7.1 a2).bind fun r9 =>
  (nat_Pow.f N r7.1 a2).bind fun r10 =>
  bif decide (a2 < 0) then
    bif r8.2 == 2 then
      bif r9.2 == 2 then
        bif r10.2 == 2 then
          (nat_Nat_Text.f N r8.1).bind fun r11 =>
          bif r11.toList == str1.toList then
            (nat_Nat_Text.f N r9.1).bind fun r12 =>
            bif r12.toList == str1.toList then
              (nat_Nat_Text.f N r10.1).bind fun r13 =>
              some (r13.toList == str1.toList)
            else
            some false
          else
          some false
        else
        some false
      else
      some false
    else
    some false
  else
  bif decide ((r7.2.1.length : Int) > 0) then
    bif decide (a2 > 4096) then
      (parquetlaw01_same.f N r8.1 r8.2 [] 3).bind fun r14 =>
      bif !r14 then
        some false
      else
      (parquetref01_Shr.f N r7.2.1 a2).bind fun r15 =>
      (parquetlaw01_same.f N r9.1 r9.2 r15 0).bind fun r16 =>
      bif !r16 then
        some false
      else
      (parquetref01_Pow.f N r7.2.1 a2).bind fun r17 =>
      bif !r17.2 then
        (parquetlaw01_same.f N r10.1 r10.2 r17.1 3).bind fun r18 =>
        some r18
      else
      (parquetlaw01_same.f N r10.1 r10.2 r17.1 0).bind fun r19 =>
      some r19
    else
    bif decide ((r7.2.1.length : Int) > 0) then
      (parquetref01_Shl.f N r7.2.1 a2).bind fun r20 =>
      (parquetlaw01_long.f N r20).bind fun r21 =>
      (parquetlaw01_same.f N r8.1 r8.2 r20 r21).bind fun r22 =>
      bif !r22 then
        some false
      else
      (parquetref01_Shr.f N r7.2.1 a2).bind fun r23 =>
      (parquetlaw01_same.f N r9.1 r9.2 r23 0).bind fun r24 =>
      bif !r24 then
        some false
      else
      (parquetref01_Pow.f N r7.2.1 a2).bind fun r25 =>
      bif !r25.2 then
        (parquetlaw01_same.f N r10.1 r10.2 r25.1 3).bind fun r26 =>
        some r26
      else
      (parquetlaw01_same.f N r10.1 r10.2 r25.1 0).bind fun r27 =>
      some r27
    else
    (parquetlaw01_same.f N r8.1 r8.2 [] 0).bind fun r28 =>
    bif !r28 then
      some false
    else
    (parquetref01_Shr.f N r7.2.1 a2).bind fun r29 =>
    (parquetlaw01_same.f N r9.1 r9.2 r29 0).bind fun r30 =>
    bif !r30 then
      some false
    else
    (parquetref01_Pow.f N r7.2.1 a2).bind fun r31 =>
    bif !r31.2 then
      (parquetlaw01_same.f N r10.1 r10.2 r31.1 3).bind fun r32 =>
      some r32
    else
    (parquetlaw01_same.f N r10.1 r10.2 r31.1 0).bind fun r33 =>
    some r33
  else
  bif decide ((r7.2.1.length : Int) > 0) then
    (parquetref01_Shl.f N r7.2.1 a2).bind fun r34 =>
    (parquetlaw01_long.f N r34).bind fun r35 =>
    (parquetlaw01_same.f N r8.1 r8.2 r34 r35).bind fun r36 =>
    bif !r36 then
      some false
    else
    (parquetref01_Shr.f N r7.2.1 a2).bind fun r37 =>
    (parquetlaw01_same.f N r9.1 r9.2 r37 0).bind fun r38 =>
    bif !r38 then
      some false
    else
    (parquetref01_Pow.f N r7.2.1 a2).bind fun r39 =>
    bif !r39.2 then
      (parquetlaw01_same.f N r10.1 r10.2 r39.1 3).bind fun r40 =>
      some r40
    else
    (parquetlaw01_same.f N r10.1 r10.2 r39.1 0).bind fun r41 =>
    some r41
  else
  (parquetlaw01_same.f N r8.1 r8.2 [] 0).bind fun r42 =>
  bif !r42 then
    some false
  else
  (parquetref01_Shr.f N r7.2.1 a2).bind fun r43 =>
  (parquetlaw01_same.f N r9.1 r9.2 r43 0).bind fun r44 =>
  bif !r44 then
    some false
  else
  (parquetref01_Pow.f N r7.2.1 a2).bind fun r45 =>
  bif !r45.2 then
    (parquetlaw01_same.f N r10.1 r10.2 r45.1 3).bind fun r46 =>
    some r46
  else
  (parquetlaw01_same.f N r10.1 r10.2 r45.1 0).bind fun r47 =>
  some r47
noncomputable def parquetlaw01_NatShifts.body : Code := (Try.f6.body).getD .skip
noncomputable def parquetlaw01_NatShifts.ty : List (Nat × TI) := [(9, ty9), (27, ty27), (28, ty28), (69, ty69)]
noncomputable def parquetlaw01_NatShifts.E (N : Nat) : Env := { ty := lookN parquetlaw01_NatShifts.ty, tab := lookN [(10, parquetlaw01_works.ent N), (11, parquetlaw01_beyond.ent N), (12, parquetlaw01_read.ent N), (28, nat_Shl.ent N), (29, nat_Shr.ent N), (30, nat_Pow.ent N), (18, nat_Nat_Text.ent N), (33, parquetlaw01_same.ent N), (34, parquetref01_Shr.ent N), (35, parquetref01_Pow.ent N), (31, parquetref01_Shl.ent N), (32, parquetlaw01_long.ent N)], hint := lookN [], cut := lookN [], N := N, res := [.tmp 4], rsh := [.any], nb := 0, ntmps := 123, own := false }
noncomputable def parquetlaw01_NatShifts.dec (v : V) (bs : List Blk) : Option (Bool) := match v, bs with
  | .c (.bool z0), [] => some z0
  | _, _ => none
set_option maxRecDepth 100000 in
theorem parquetlaw01_NatShifts.f_eq (N : Nat) (a1 : ByteArray) (a2 : Int) :
    evFun (parquetlaw01_NatShifts.E N) parquetlaw01_NatShifts.body [.c (.string a1), .c (.int .i64 a2)] [] parquetlaw01_NatShifts.dec = parquetlaw01_NatShifts.f N a1 a2 := by kernel_rfl
noncomputable def parquetlaw01_NatShifts.ent (N : Nat) : Entry := { A := Bool, fresh := 0, imm := [true, true], dec := fun args bs => match freezeL 0 (fun _ => .dead) [.any, .any] args, bs with
  | some [.c (.string a1), .c (.int .i64 a2)], [] => some (parquetlaw01_NatShifts.f N a1 a2, fun r => .one (.c (.bool r)) [])
  | _, _ => none }
theorem parquetlaw01_NatShifts.env (N : Nat) : EnvOK Try.prog (parquetlaw01_NatShifts.E N) := ⟨(TyOK.cons ty9_ok (TyOK.cons ty27_ok (TyOK.cons ty28_ok (TyOK.cons ty69_ok TyOK.nil)))), (TabOK.cons (parquetlaw01_works.ent_ok N) (TabOK.cons (parquetlaw01_beyond.ent_ok N) (TabOK.cons (parquetlaw01_read.ent_ok N) (TabOK.cons (nat_Shl.ent_ok N) (TabOK.cons (nat_Shr.ent_ok N) (TabOK.cons (nat_Pow.ent_ok N) (TabOK.cons (nat_Nat_Text.ent_ok N) (TabOK.cons (parquetlaw01_same.ent_ok N) (TabOK.cons (parquetref01_Shr.ent_ok N) (TabOK.cons (parquetref01_Pow.ent_ok N) (TabOK.cons (parquetref01_Shl.ent_ok N) (TabOK.cons (parquetlaw01_long.ent_ok N) TabOK.nil))))))))))))⟩
theorem parquetlaw01_NatShifts.res_eq (N : Nat) : (parquetlaw01_NatShifts.E N).res = Try.f6.results.toList := by kernel_rfl
theorem parquetlaw01_NatShifts.spec (N : Nat) (a1 : ByteArray) (a2 : Int) (r : Bool) (h : parquetlaw01_NatShifts.f N a1 a2 = some r) : FnSpec Try.prog 6 [.c (.string a1), .c (.int .i64 a2)] [] (.c (.bool r)) ([]) := by
  rw [← parquetlaw01_NatShifts.f_eq] at h
  obtain ⟨v, bs', h1, h2⟩ := evFun_ok (parquetlaw01_NatShifts.env N) Try_mixed Try.func6 (by kernel_rfl : Try.f6.body = some parquetlaw01_NatShifts.body) (by kernel_rfl) (parquetlaw01_NatShifts.res_eq N) (by kernel_rfl) (by kernel_rfl) (Nat.le_of_ble_eq_true (by kernel_rfl)) (AllCut.of (l := []) (by kernel_rfl) AllCut.nil) h
  unfold parquetlaw01_NatShifts.dec at h1; split at h1
  · cases h1; exact h2
  · cases h1
theorem parquetlaw01_NatShifts.ent_ok (N : Nat) : TabOK1 Try.prog 6 (parquetlaw01_NatShifts.ent N) := by
  intro args bs a enc h
  simp only [parquetlaw01_NatShifts.ent] at h
  split at h
  · rename_i hz; have h0 := Option.some.inj h; have h1 := congrArg Prod.fst h0; have h2 := congrArg Prod.snd h0; dsimp only at h1 h2; subst h2; exact FnSpec.of_freeze hz (parquetlaw01_NatShifts.spec N _ _ a h1)
  · cases h
/-! parquet/parquetlaw01.NatRing: function 5 -/
noncomputable def parquetlaw01_NatRing.f (N : Nat) (a1 : ByteArray) (a2 : ByteArray) (a3 : ByteArray) : Option (Bool) :=
  (parquetlaw01_works.f N).bind fun r4 =>
  bif !r4 then
    (parquetlaw01_works.f N).bind fun r5 =>
    some r5
  else
  (parquetlaw01_beyond3.f N a1 a2 a3).bind fun r6 =>
  bif r6 then
    (parquetlaw01_works.f N).bind fun r7 =>
    some r7
  else
  (parquetlaw01_all.f N a1 a2 a3).bind fun r8 =>
  bif r8.1 then
    (nat_Add.f N r8.2.1 r8.2.2.1).bind fun r9 =>
    (nat_Add.f N r8.2.2.1 r8.2.1).bind fun r10 =>
    bif r9.2 != r10.2 then
      some false
    else
    (parquetlaw01_two.f N r9.1 r9.2 r10.1 r10.2).bind fun r11 =>
    bif !r11 then
      some false
    else
    (nat_Mul.f N r8.2.1 r8.2.2.1).bind fun r12 =>
    (nat_Mul.f N r8.2.2.1 r8.2.1).bind fun r13 =>
    bif r12.2 != r13.2 then
      some false
    else
    (parquetlaw01_two.f N r12.1 r12.2 r13.1 r13.2).bind fun r14 =>
    bif !r14 then
      some false
    else
    bif r9.2 == 0 then
      (nat_Add.f N r8.2.2.1 r8.2.2.2.1).bind fun r15 =>
      (nat_Add.f N r9.1 r8.2.2.2.1).bind fun r16 =>
      bif r15.2 == 0 then
        (nat_Add.f N r8.2.1 r15.1).bind fun r17 =>
        bif r16.2 != r17.2 then
          some false
        else
        (parquetlaw01_two.f N r16.1 r16.2 r17.1 r17.2).bind fun r18 =>
        bif !r18 then
          some false
        else
        (nat_Mul.f N r9.1 r8.2.2.2.1).bind fun r19 =>
        (nat_Mul.f N r8.2.1 r8.2.2.2.1).bind fun r20 =>
        (nat_Mul.f N r8.2.2.1 r8.2.2.2.1).bind fun r21 =>
        bif r19.2 == 0 then
          (nat_Add.f N r20.1 r21.1).bind fun r22 =>
          bif r20.2 != 0 then
            some false
          else
          bif r21.2 != 0 then
            some false
          else
          bif r22.2 != 0 then
            some false
          else
          (nat_Cmp.f N r19.1 r22.1).bind fun r23 =>
          bif r23 != 0 then
            some false
          else
          (nat_Sub.f N r9.1 r8.2.2.1).bind fun r24 =>
          bif r24.2 != 0 then
            some false
          else
          (nat_Cmp.f N r24.1 r8.2.1).bind fun r25 =>
          bif r25 != 0 then
            some false
          else
          bif r12.2 == 0 then
            (nat_Mul.f N r8.2.2.1 r8.2.2.2.1).bind fun r26 =>
            (nat_Mul.f N r12.1 r8.2.2.2.1).bind fun r27 =>
            (nat_Mul.f N r8.2.1 r26.1).bind fun r28 =>
            bif r26.2 == 0 then
              bif r27.2 != r28.2 then
                some false
              else
              (parquetlaw01_two.f N r27.1 r27.2 r28.1 r28.2).bind fun r29 =>
              bif !r29 then
                some false
              else
              some true
            else
            some true
          else
          some true
        else
        (nat_Sub.f N r9.1 r8.2.2.1).bind fun r30 =>
        bif r30.2 != 0 then
          some false
        else
        (nat_Cmp.f N r30.1 r8.2.1).bind fun r31 =>
        bif r31 != 0 then
          some false
        else
        bif r12.2 == 0 then
          (nat_Mul.f N r8.2.2.1 r8.2.2.2.1).bind fun r32 =>
          (nat_Mul.f N r12.1 r8.2.2.2.1).bind fun r33 =>
          (nat_Mul.f N r8.2.1 r32.1).bind fun r34 =>
          bif r32.2 == 0 then
            bif r33.2 != r34.2 then
              some false
            else
            (parquetlaw01_two.f N r33.1 r33.2 r34.1 r34.2).bind fun r35 =>
            bif !r35 then
              some false
            else
            some true
          else
          some true
        else
        some true
      else
      (nat_Mul.f N r9.1 r8.2.2.2.1).bind fun r36 =>
      (nat_Mul.f N r8.2.1 r8.2.2.2.1).bind fun r37 =>
      (nat_Mul.f N r8.2.2.1 r8.2.2.2.1).bind fun r38 =>
      bif r36.2 == 0 then
        (nat_Add.f N r37.1 r38.1).bind fun r39 =>
        bif r37.2 != 0 then
          some false
        else
        bif r38.2 != 0 then
          some false
        else
        bif r39.2 != 0 then
          some false
        else
        (nat_Cmp.f N r36.1 r39.1).bind fun r40 =>
        bif r40 != 0 then
          some false
        else
        (nat_Sub.f N r9.1 r8.2.2.1).bind fun r41 =>
        bif r41.2 != 0 then
          some false
        else
        (nat_Cmp.f N r41.1 r8.2.1).bind fun r42 =>
        bif r42 != 0 then
          some false
        else
        bif r12.2 == 0 then
          (nat_Mul.f N r8.2.2.1 r8.2.2.2.1).bind fun r43 =>
          (nat_Mul.f N r12.1 r8.2.2.2.1).bind fun r44 =>
          (nat_Mul.f N r8.2.1 r43.1).bind fun r45 =>
          bif r43.2 == 0 then
            bif r44.2 != r45.2 then
              some false
            else
            (parquetlaw01_two.f N r44.1 r44.2 r45.1 r45.2).bind fun r46 =>
            bif !r46 then
              some false
            else
            some true
          else
          some true
        else
        some true
      else
      (nat_Sub.f N r9.1 r8.2.2.1).bind fun r47 =>
      bif r47.2 != 0 then
        some false
      else
      (nat_Cmp.f N r47.1 r8.2.1).bind fun r48 =>
      bif r48 != 0 then
        some false
      else
      bif r12.2 == 0 then
        (nat_Mul.f N r8.2.2.1 r8.2.2.2.1).bind fun r49 =>
        (nat_Mul.f N r12.1 r8.2.2.2.1).bind fun r50 =>
        (nat_Mul.f N r8.2.1 r49.1).bind fun r51 =>
        bif r49.2 == 0 then
          bif r50.2 != r51.2 then
            some false
          else
          (parquetlaw01_two.f N r50.1 r50.2 r51.1 r51.2).bind fun r52 =>
          bif !r52 then
            some false
          else
          some true
        else
        some true
      else
      some true
    else
    bif r12.2 == 0 then
      (nat_Mul.f N r8.2.2.1 r8.2.2.2.1).bind fun r53 =>
      (nat_Mul.f N r12.1 r8.2.2.2.1).bind fun r54 =>
      (nat_Mul.f N r8.2.1 r53.1).bind fun r55 =>
      bif r53.2 == 0 then
        bif r54.2 != r55.2 then
          some false
        else
        (parquetlaw01_two.f N r54.1 r54.2 r55.1 r55.2).bind fun r56 =>
        bif !r56 then
          some false
        else
        some true
      else
      some true
    else
    some true
  else
  some true
noncomputable def parquetlaw01_NatRing.body : Code := (Try.f5.body).getD .skip
noncomputable def parquetlaw01_NatRing.ty : List (Nat × TI) := [(9, ty9), (27, ty27), (45, ty45), (69, ty69)]
noncomputable def parquetlaw01_NatRing.E (N : Nat) : Env := { ty := lookN parquetlaw01_NatRing.ty, tab := lookN [(10, parquetlaw01_works.ent N), (11, parquetlaw01_beyond.ent N), (23, parquetlaw01_all.ent N), (24, nat_Add.ent N), (25, parquetlaw01_two.ent N), (26, nat_Mul.ent N), (22, nat_Cmp.ent N), (27, nat_Sub.ent N)], hint := lookN [], cut := lookN [], N := N, res := [.tmp 6], rsh := [.any], nb := 0, ntmps := 238, own := false }
noncomputable def parquetlaw01_NatRing.dec (v : V) (bs : List Blk) : Option (Bool) := match v, bs with
  | .c (.bool z0), [] => some z0
  | _, _ => none
set_option maxRecDepth 100000 in
theorem parquetlaw01_NatRing.f_eq (N : Nat) (a1 : ByteArray) (a2 : ByteArray) (a3 : ByteArray) :
    evFun (parquetlaw01_NatRing.E N) parquetlaw01_NatRing.body [.c (.string a1), .c (.string a2), .c (.string a3)] [] parquetlaw01_NatRing.dec = parquetlaw01_NatRing.f N a1 a2 a3 := by kernel_rfl
noncomputable def parquetlaw01_NatRing.ent (N : Nat) : Entry := { A := Bool, fresh := 0, imm := [true, true, true], dec := fun args bs => match freezeL 0 (fun _ => .dead) [.any, .any, .any] args, bs with
  | some [.c (.string a1), .c (.string a2), .c (.string a3)], [] => some (parquetlaw01_NatRing.f N a1 a2 a3, fun r => .one (.c (.bool r)) [])
  | _, _ => none }
theorem parquetlaw01_NatRing.env (N : Nat) : EnvOK Try.prog (parquetlaw01_NatRing.E N) := ⟨(TyOK.cons ty9_ok (TyOK.cons ty27_ok (TyOK.cons ty45_ok (TyOK.cons ty69_ok TyOK.nil)))), (TabOK.cons (parquetlaw01_works.ent_ok N) (TabOK.cons (parquetlaw01_beyond.ent_ok N) (TabOK.cons (parquetlaw01_all.ent_ok N) (TabOK.cons (nat_Add.ent_ok N) (TabOK.cons (parquetlaw01_two.ent_ok N) (TabOK.cons (nat_Mul.ent_ok N) (TabOK.cons (nat_Cmp.ent_ok N) (TabOK.cons (nat_Sub.ent_ok N) TabOK.nil))))))))⟩
theorem parquetlaw01_NatRing.res_eq (N : Nat) : (parquetlaw01_NatRing.E N).res = Try.f5.results.toList := by kernel_rfl
theorem parquetlaw01_NatRing.spec (N : Nat) (a1 : ByteArray) (a2 : ByteArray) (a3 : ByteArray) (r : Bool) (h : parquetlaw01_NatRing.f N a1 a2 a3 = some r) : FnSpec Try.prog 5 [.c (.string a1), .c (.string a2), .c (.string a3)] [] (.c (.bool r)) ([]) := by
  rw [← parquetlaw01_NatRing.f_eq] at h
  obtain ⟨v, bs', h1, h2⟩ := evFun_ok (parquetlaw01_NatRing.env N) Try_mixed Try.func5 (by kernel_rfl : Try.f5.body = some parquetlaw01_NatRing.body) (by kernel_rfl) (parquetlaw01_NatRing.res_eq N) (by kernel_rfl) (by kernel_rfl) (Nat.le_of_ble_eq_true (by kernel_rfl)) (AllCut.of (l := []) (by kernel_rfl) AllCut.nil) h
  unfold parquetlaw01_NatRing.dec at h1; split at h1
  · cases h1; exact h2
  · cases h1
theorem parquetlaw01_NatRing.ent_ok (N : Nat) : TabOK1 Try.prog 5 (parquetlaw01_NatRing.ent N) := by
  intro args bs a enc h
  simp only [parquetlaw01_NatRing.ent] at h
  split at h
  · rename_i hz; have h0 := Option.some.inj h; have h1 := congrArg Prod.fst h0; have h2 := congrArg Prod.snd h0; dsimp only at h1 h2; subst h2; exact FnSpec.of_freeze hz (parquetlaw01_NatRing.spec N _ _ _ a h1)
  · cases h
/-! parquet/parquetlaw01.NatBack: function 4 -/
noncomputable def parquetlaw01_NatBack.f (N : Nat) (a1 : ByteArray) (a2 : Int) : Option (Bool) :=
  (parquetlaw01_works.f N).bind fun r3 =>
  bif !r3 then
    (parquetlaw01_works.f N).bind fun r4 =>
    some r4
  else
  (parquetlaw01_beyond1.f N a1).bind fun r5 =>
  bif r5 then
    (parquetlaw01_works.f N).bind fun r6 =>
    some r6
  else
  (nat_Parse.f N a1).bind fun r7 =>
  bif r7.2 == 0 then
    (nat_Nat_Text.f N r7.1).bind fun r8 =>
    bif !(r8.toList == a1.toList) then
      some false
    else
    bif r7.2 != 0 then
      bif r7.2 != 12 then
        bif r7.2 != 3 then
          some false
        else
        (nat_Of.f N a2).bind fun r9 =>
        (nat_Nat_Text.f N r9).bind fun r10 =>
        (nat_Parse.f N r10).bind fun r11 =>
        (nat_Nat_Uint64.f N r11.1).bind fun r12 =>
        bif r11.2 == 0 then
          (nat_Cmp.f N r11.1 r9).bind fun r13 =>
          bif r13 == 0 then
            bif r12.2 then
              some (r12.1 == a2)
            else
            some false
          else
          some false
        else
        some false
      else
      (nat_Of.f N a2).bind fun r14 =>
      (nat_Nat_Text.f N r14).bind fun r15 =>
      (nat_Parse.f N r15).bind fun r16 =>
      (nat_Nat_Uint64.f N r16.1).bind fun r17 =>
      bif r16.2 == 0 then
        (nat_Cmp.f N r16.1 r14).bind fun r18 =>
        bif r18 == 0 then
          bif r17.2 then
            some (r17.1 == a2)
          else
          some false
        else
        some false
      else
      some false
    else
    (nat_Of.f N a2).bind fun r19 =>
    (nat_Nat_Text.f N r19).bind fun r20 =>
    (nat_Parse.f N r20).bind fun r21 =>
    (nat_Nat_Uint64.f N r21.1).bind fun r22 =>
    bif r21.2 == 0 then
      (nat_Cmp.f N r21.1 r19).bind fun r23 =>
      bif r23 == 0 then
        bif r22.2 then
          some (r22.1 == a2)
        else
        some false
      else
      some false
    else
    some false
  else
  bif r7.2 != 0 then
    bif r7.2 != 12 then
      bif r7.2 != 3 then
        some false
      else
      (nat_Of.f N a2).bind fun r24 =>
      (nat_Nat_Text.f N r24).bind fun r25 =>
      (nat_Parse.f N r25).bind fun r26 =>
      (nat_Nat_Uint64.f N r26.1).bind fun r27 =>
      bif r26.2 == 0 then
        (nat_Cmp.f N r26.1 r24).bind fun r28 =>
        bif r28 == 0 then
          bif r27.2 then
            some (r27.1 == a2)
          else
          some false
        else
        some false
      else
      some false
    else
    (nat_Of.f N a2).bind fun r29 =>
    (nat_Nat_Text.f N r29).bind fun r30 =>
    (nat_Parse.f N r30).bind fun r31 =>
    (nat_Nat_Uint64.f N r31.1).bind fun r32 =>
    bif r31.2 == 0 then
      (nat_Cmp.f N r31.1 r29).bind fun r33 =>
      bif r33 == 0 then
        bif r32.2 then
          some (r32.1 == a2)
        else
        some false
      else
      some false
    else
    some false
  else
  (nat_Of.f N a2).bind fun r34 =>
  (nat_Nat_Text.f N r34).bind fun r35 =>
  (nat_Parse.f N r35).bind fun r36 =>
  (nat_Nat_Uint64.f N r36.1).bind fun r37 =>
  bif r36.2 == 0 then
    (nat_Cmp.f N r36.1 r34).bind fun r38 =>
    bif r38 == 0 then
      bif r37.2 then
        some (r37.1 == a2)
      else
      some false
    else
    some false
  else
  some false
noncomputable def parquetlaw01_NatBack.body : Code := (Try.f4.body).getD .skip
noncomputable def parquetlaw01_NatBack.ty : List (Nat × TI) := [(9, ty9), (27, ty27), (69, ty69)]
noncomputable def parquetlaw01_NatBack.E (N : Nat) : Env := { ty := lookN parquetlaw01_NatBack.ty, tab := lookN [(10, parquetlaw01_works.ent N), (11, parquetlaw01_beyond.ent N), (21, nat_Parse.ent N), (18, nat_Nat_Text.ent N), (15, nat_Of.ent N), (13, nat_Nat_Uint64.ent N), (22, nat_Cmp.ent N)], hint := lookN [], cut := lookN [], N := N, res := [.tmp 4], rsh := [.any], nb := 0, ntmps := 74, own := false }
noncomputable def parquetlaw01_NatBack.dec (v : V) (bs : List Blk) : Option (Bool) := match v, bs with
  | .c (.bool z0), [] => some z0
  | _, _ => none
set_option maxRecDepth 100000 in
theorem parquetlaw01_NatBack.f_eq (N : Nat) (a1 : ByteArray) (a2 : Int) :
    evFun (parquetlaw01_NatBack.E N) parquetlaw01_NatBack.body [.c (.string a1), .c (.int .u64 a2)] [] parquetlaw01_NatBack.dec = parquetlaw01_NatBack.f N a1 a2 := by kernel_rfl
noncomputable def parquetlaw01_NatBack.ent (N : Nat) : Entry := { A := Bool, fresh := 0, imm := [true, true], dec := fun args bs => match freezeL 0 (fun _ => .dead) [.any, .any] args, bs with
  | some [.c (.string a1), .c (.int .u64 a2)], [] => some (parquetlaw01_NatBack.f N a1 a2, fun r => .one (.c (.bool r)) [])
  | _, _ => none }
theorem parquetlaw01_NatBack.env (N : Nat) : EnvOK Try.prog (parquetlaw01_NatBack.E N) := ⟨(TyOK.cons ty9_ok (TyOK.cons ty27_ok (TyOK.cons ty69_ok TyOK.nil))), (TabOK.cons (parquetlaw01_works.ent_ok N) (TabOK.cons (parquetlaw01_beyond.ent_ok N) (TabOK.cons (nat_Parse.ent_ok N) (TabOK.cons (nat_Nat_Text.ent_ok N) (TabOK.cons (nat_Of.ent_ok N) (TabOK.cons (nat_Nat_Uint64.ent_ok N) (TabOK.cons (nat_Cmp.ent_ok N) TabOK.nil)))))))⟩
theorem parquetlaw01_NatBack.res_eq (N : Nat) : (parquetlaw01_NatBack.E N).res = Try.f4.results.toList := by kernel_rfl
theorem parquetlaw01_NatBack.spec (N : Nat) (a1 : ByteArray) (a2 : Int) (r : Bool) (h : parquetlaw01_NatBack.f N a1 a2 = some r) : FnSpec Try.prog 4 [.c (.string a1), .c (.int .u64 a2)] [] (.c (.bool r)) ([]) := by
  rw [← parquetlaw01_NatBack.f_eq] at h
  obtain ⟨v, bs', h1, h2⟩ := evFun_ok (parquetlaw01_NatBack.env N) Try_mixed Try.func4 (by kernel_rfl : Try.f4.body = some parquetlaw01_NatBack.body) (by kernel_rfl) (parquetlaw01_NatBack.res_eq N) (by kernel_rfl) (by kernel_rfl) (Nat.le_of_ble_eq_true (by kernel_rfl)) (AllCut.of (l := []) (by kernel_rfl) AllCut.nil) h
  unfold parquetlaw01_NatBack.dec at h1; split at h1
  · cases h1; exact h2
  · cases h1
theorem parquetlaw01_NatBack.ent_ok (N : Nat) : TabOK1 Try.prog 4 (parquetlaw01_NatBack.ent N) := by
  intro args bs a enc h
  simp only [parquetlaw01_NatBack.ent] at h
  split at h
  · rename_i hz; have h0 := Option.some.inj h; have h1 := congrArg Prod.fst h0; have h2 := congrArg Prod.snd h0; dsimp only at h1 h2; subst h2; exact FnSpec.of_freeze hz (parquetlaw01_NatBack.spec N _ _ a h1)
  · cases h
/-! parquet/parquetlaw01.NatKnown: function 9 -/
noncomputable def parquetlaw01_NatKnown.f (N : Nat) : Option (Bool) :=
  (nat_Parse.f N ByteArray.empty).bind fun r1 =>
  (nat_Parse.f N str5).bind fun r2 =>
  (nat_Parse.f N str6).bind fun r3 =>
  (nat_Of.f N 1).bind fun r4 =>
  (nat_Shl.f N r4 4095).bind fun r5 =>
  (nat_Of.f N 1).bind fun r6 =>
  (nat_Shl.f N r6 4096).bind fun r7 =>
  (nat_Add.f N r5.1 r5.1).bind fun r8 =>
  (nat_Shl.f N [] 4611686018427387904).bind fun r9 =>
  (nat_Of.f N 2).bind fun r10 =>
  (nat_Mul.f N r5.1 r10).bind fun r11 =>
  (nat_Of.f N 1).bind fun r12 =>
  (nat_Sub.f N r5.1 r12).bind fun r13 =>
  (nat_Nat_Text.f N r13.1).bind fun r14 =>
  (nat_Parse.f N r14).bind fun r15 =>
  (nat_Pow.f N [] 0).bind fun r16 =>
  bif r1.2 == 12 then
    bif r2.2 == 12 then
      bif r3.2 == 12 then
        bif r5.2 == 0 then
          (nat_Nat_Bits.f N r5.1).bind fun r17 =>
          bif r17 == 4096 then
            bif r7.2 == 3 then
              bif r8.2 == 3 then
                bif r9.2 == 0 then
                  (nat_Nat_Bits.f N r9.1).bind fun r18 =>
                  bif r18 == 0 then
                    bif r11.2 == 3 then
                      bif r13.2 == 0 then
                        bif r15.2 == 0 then
                          (nat_Cmp.f N r15.1 r13.1).bind fun r19 =>
                          bif r19 == 0 then
                            bif r16.2 == 0 then
                              (nat_Nat_Text.f N r16.1).bind fun r20 =>
                              bif r20.toList == str7.toList then
                                (nat_Nat_Text.f N []).bind fun r21 =>
                                bif r21.toList == str1.toList then
                                  (nat_Of.f N 99).bind fun r22 =>
                                  (nat_Root.f N r22).bind fun r23 =>
                                  (nat_Nat_Text.f N r23).bind fun r24 =>
                                  bif r24.toList == str8.toList then
                                    (nat_Of.f N 12).bind fun r25 =>
                                    (nat_Of.f N 18).bind fun r26 =>
                                    (nat_Gcd.f N r25 r26).bind fun r27 =>
                                    (nat_Nat_Text.f N r27).bind fun r28 =>
                                    bif r28.toList == str4.toList then
                                      (parquetlaw01_works.f N).bind fun r29 =>
                                      some r29
                                    else
                                    some false
                                  else
                                  some false
                                else
                                some false
                              else
                              some false
                            else
                            some false
                          else
                          some false
                        else
                        some false
                      else
                      some false
                    else
                    some false
                  else
                  some false
                else
                some false
              else
              some false
            else
            some false
          else
          some false
        else
        some false
      else
      some false
    else
    some false
  else
  some false
noncomputable def parquetlaw01_NatKnown.body : Code := (Try.f9.body).getD .skip
noncomputable def parquetlaw01_NatKnown.ty : List (Nat × TI) := [(25, ty25), (27, ty27)]
noncomputable def parquetlaw01_NatKnown.E (N : Nat) : Env := { ty := lookN parquetlaw01_NatKnown.ty, tab := lookN [(21, nat_Parse.ent N), (15, nat_Of.ent N), (28, nat_Shl.ent N), (24, nat_Add.ent N), (26, nat_Mul.ent N), (27, nat_Sub.ent N), (18, nat_Nat_Text.ent N), (30, nat_Pow.ent N), (16, nat_Nat_Bits.ent N), (22, nat_Cmp.ent N), (42, nat_Root.ent N), (40, nat_Gcd.ent N), (10, parquetlaw01_works.ent N)], hint := lookN [], cut := lookN [], N := N, res := [.tmp 0], rsh := [.any], nb := 0, ntmps := 164, own := false }
noncomputable def parquetlaw01_NatKnown.dec (v : V) (bs : List Blk) : Option (Bool) := match v, bs with
  | .c (.bool z0), [] => some z0
  | _, _ => none
set_option maxRecDepth 100000 in
theorem parquetlaw01_NatKnown.f_eq (N : Nat) :
    evFun (parquetlaw01_NatKnown.E N) parquetlaw01_NatKnown.body [] [] parquetlaw01_NatKnown.dec = parquetlaw01_NatKnown.f N := by kernel_rfl
noncomputable def parquetlaw01_NatKnown.ent (N : Nat) : Entry := { A := Bool, fresh := 0, imm := [], dec := fun args bs => match freezeL 0 (fun _ => .dead) [] args, bs with
  | some [], [] => some (parquetlaw01_NatKnown.f N, fun r => .one (.c (.bool r)) [])
  | _, _ => none }
theorem parquetlaw01_NatKnown.env (N : Nat) : EnvOK Try.prog (parquetlaw01_NatKnown.E N) := ⟨(TyOK.cons ty25_ok (TyOK.cons ty27_ok TyOK.nil)), (TabOK.cons (nat_Parse.ent_ok N) (TabOK.cons (nat_Of.ent_ok N) (TabOK.cons (nat_Shl.ent_ok N) (TabOK.cons (nat_Add.ent_ok N) (TabOK.cons (nat_Mul.ent_ok N) (TabOK.cons (nat_Sub.ent_ok N) (TabOK.cons (nat_Nat_Text.ent_ok N) (TabOK.cons (nat_Pow.ent_ok N) (TabOK.cons (nat_Nat_Bits.ent_ok N) (TabOK.cons (nat_Cmp.ent_ok N) (TabOK.cons (nat_Root.ent_ok N) (TabOK.cons (nat_Gcd.ent_ok N) (TabOK.cons (parquetlaw01_works.ent_ok N) TabOK.nil)))))))))))))⟩
theorem parquetlaw01_NatKnown.res_eq (N : Nat) : (parquetlaw01_NatKnown.E N).res = Try.f9.results.toList := by kernel_rfl
theorem parquetlaw01_NatKnown.spec (N : Nat) (r : Bool) (h : parquetlaw01_NatKnown.f N = some r) : FnSpec Try.prog 9 [] [] (.c (.bool r)) ([]) := by
  rw [← parquetlaw01_NatKnown.f_eq] at h
  obtain ⟨v, bs', h1, h2⟩ := evFun_ok (parquetlaw01_NatKnown.env N) Try_mixed Try.func9 (by kernel_rfl : Try.f9.body = some parquetlaw01_NatKnown.body) (by kernel_rfl) (parquetlaw01_NatKnown.res_eq N) (by kernel_rfl) (by kernel_rfl) (Nat.le_of_ble_eq_true (by kernel_rfl)) (AllCut.of (l := []) (by kernel_rfl) AllCut.nil) h
  unfold parquetlaw01_NatKnown.dec at h1; split at h1
  · cases h1; exact h2
  · cases h1
theorem parquetlaw01_NatKnown.ent_ok (N : Nat) : TabOK1 Try.prog 9 (parquetlaw01_NatKnown.ent N) := by
  intro args bs a enc h
  simp only [parquetlaw01_NatKnown.ent] at h
  split at h
  · rename_i hz; have h0 := Option.some.inj h; have h1 := congrArg Prod.fst h0; have h2 := congrArg Prod.snd h0; dsimp only at h1 h2; subst h2; exact FnSpec.of_freeze hz (parquetlaw01_NatKnown.spec N a h1)
  · cases h
end Go.Proofs.Ytnjlpjdncejfcaa
