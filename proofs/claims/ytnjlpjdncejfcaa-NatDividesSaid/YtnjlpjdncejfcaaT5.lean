-- The seat's functions as the evaluator goes through them: typed models and their laws.
import Derived.Test.YtnjlpjdncejfcaaProg
import Derived.Test.YtnjlpjdncejfcaaEvUse
import Derived.Test.YtnjlpjdncejfcaaT4
import Derived.KernelRfl
namespace Go.Proofs.Ytnjlpjdncejfcaa
open Go.Proofs.Ytnjlpjdncejfcaa.Ev
set_option linter.unusedVariables false
open Go


/-! parquet/parquetlaw01.NatDivides: function 8 -/
noncomputable def parquetlaw01_NatDivides.j0 (N : Nat) (a4 : Int) (r9 : Bool × List Int × List Int × List Int × ByteArray × ByteArray × ByteArray) : Option (Bool) :=
  bif decide (a4 < 0) then
    some true
  else
  bif decide (a4 > 4000) then
    some true
  else
  (nat_Shl.f N r9.2.1 a4).bind fun r36 =>
  (nat_Of.f N 1).bind fun r37 =>
  (nat_Shl.f N r37 a4).bind fun r38 =>
  (nat_Mul.f N r9.2.1 r38.1).bind fun r39 =>
  (nat_Shr.f N r9.2.1 a4).bind fun r40 =>
  (nat_Div.f N r9.2.1 r38.1).bind fun r41 =>
  bif r38.2 == 0 then
    bif r36.2 == r39.2 then
      (parquetlaw01_two.f N r36.1 r36.2 r39.1 r39.2).bind fun r42 =>
      bif r42 then
        bif r40.2 == 0 then
          bif r41.2.2 == 0 then
            (nat_Cmp.f N r40.1 r41.1).bind fun r43 =>
            some (r43 == 0)
          else
          some false
        else
        some false
      else
      some false
    else
    some false
  else
  some false
noncomputable def parquetlaw01_NatDivides.j1 (N : Nat) (r9 : Bool × List Int × List Int × List Int × ByteArray × ByteArray × ByteArray) (a4 : Int) : Option (Bool) :=
  (nat_Root.f N r9.2.1).bind fun r29 =>
  (nat_Mul.f N r29 r29).bind fun r30 =>
  (nat_Of.f N 1).bind fun r31 =>
  (nat_Add.f N r29 r31).bind fun r32 =>
  bif r30.2 != 0 then
    some false
  else
  bif r32.2 != 0 then
    some false
  else
  (nat_Cmp.f N r30.1 r9.2.1).bind fun r33 =>
  bif decide (r33 > 0) then
    some false
  else
  (nat_Mul.f N r32.1 r32.1).bind fun r34 =>
  bif r34.2 == 0 then
    (nat_Cmp.f N r34.1 r9.2.1).bind fun r35 =>
    bif decide (r35 ≤ 0) then
      some false
    else
    parquetlaw01_NatDivides.j0 N a4 r9
  else
  parquetlaw01_NatDivides.j0 N a4 r9
noncomputable def parquetlaw01_NatDivides.j2 (N : Nat) (r9 : Bool × List Int × List Int × List Int × ByteArray × ByteArray × ByteArray) (r15 : List Int) (a4 : Int) : Option (Bool) :=
  (nat_Mul.f N r9.2.1 r9.2.2.2.1).bind fun r24 =>
  bif r24.2 == 0 then
    (nat_Mul.f N r9.2.2.1 r9.2.2.2.1).bind fun r25 =>
    bif r25.2 == 0 then
      (nat_Mul.f N r15 r9.2.2.2.1).bind fun r26 =>
      bif r26.2 != 0 then
        some false
      else
      (nat_Gcd.f N r24.1 r25.1).bind fun r27 =>
      (nat_Cmp.f N r27 r26.1).bind fun r28 =>
      bif r28 != 0 then
        some false
      else
      parquetlaw01_NatDivides.j1 N r9 a4
    else
    parquetlaw01_NatDivides.j1 N r9 a4
  else
  parquetlaw01_NatDivides.j1 N r9 a4
noncomputable def parquetlaw01_NatDivides.j3 (N : Nat) (r20 : List Int × List Int × Int) (r9 : Bool × List Int × List Int × List Int × ByteArray × ByteArray × ByteArray) (r15 : List Int) (a4 : Int) : Option (Bool) :=
  bif r20.2.2 != 0 then
    (nat_Nat_Bits.f N r9.2.1).bind fun r22 =>
    bif r22 != 0 then
      some false
    else
    (nat_Nat_Bits.f N r9.2.2.1).bind fun r23 =>
    bif r23 != 0 then
      some false
    else
    parquetlaw01_NatDivides.j2 N r9 r15 a4
  else
  parquetlaw01_NatDivides.j2 N r9 r15 a4
noncomputable def parquetlaw01_NatDivides.j4 (N : Nat) (r9 : Bool × List Int × List Int × List Int × ByteArray × ByteArray × ByteArray) (r15 : List Int) (a4 : Int) : Option (Bool) :=
  (nat_Div.f N r9.2.2.1 r15).bind fun r20 =>
  bif r20.2.2 == 0 then
    (nat_Nat_Bits.f N r20.2.1).bind fun r21 =>
    bif r21 != 0 then
      some false
    else
    parquetlaw01_NatDivides.j3 N r20 r9 r15 a4
  else
  parquetlaw01_NatDivides.j3 N r20 r9 r15 a4
noncomputable def parquetlaw01_NatDivides.j5 (N : Nat) (r16 : List Int × List Int × Int) (r9 : Bool × List Int × List Int × List Int × ByteArray × ByteArray × ByteArray) (r15 : List Int) (a4 : Int) : Option (Bool) :=
  bif r16.2.2 != 0 then
    (nat_Nat_Bits.f N r9.2.1).bind fun r18 =>
    bif r18 != 0 then
      some false
    else
    (nat_Nat_Bits.f N r9.2.2.1).bind fun r19 =>
    bif r19 != 0 then
      some false
    else
    parquetlaw01_NatDivides.j4 N r9 r15 a4
  else
  parquetlaw01_NatDivides.j4 N r9 r15 a4
noncomputable def parquetlaw01_NatDivides.j6 (N : Nat) (r9 : Bool × List Int × List Int × List Int × ByteArray × ByteArray × ByteArray) (a4 : Int) : Option (Bool) :=
  (nat_Gcd.f N r9.2.1 r9.2.2.1).bind fun r15 =>
  (nat_Div.f N r9.2.1 r15).bind fun r16 =>
  bif r16.2.2 == 0 then
    (nat_Nat_Bits.f N r16.2.1).bind fun r17 =>
    bif r17 != 0 then
      some false
    else
    parquetlaw01_NatDivides.j5 N r16 r9 r15 a4
  else
  parquetlaw01_NatDivides.j5 N r16 r9 r15 a4
noncomputable def parquetlaw01_NatDivides.f (N : Nat) (a1 : ByteArray) (a2 : ByteArray) (a3 : ByteArray) (a4 : Int) : Option (Bool) :=
  (parquetlaw01_works.f N).bind fun r5 =>
  bif !r5 then
    (parquetlaw01_works.f N).bind fun r6 =>
    some r6
  else
  (parquetlaw01_beyond3.f N a1 a2 a3).bind fun r7 =>
  bif r7 then
    (parquetlaw01_works.f N).bind fun r8 =>
    some r8
  else
  (parquetlaw01_all.f N a1 a2 a3).bind fun r9 =>
  bif r9.1 then
    (nat_Div.f N r9.2.1 r9.2.2.1).bind fun r10 =>
    bif r10.2.2 == 0 then
      (nat_Mul.f N r10.1 r9.2.2.1).bind fun r11 =>
      (nat_Add.f N r11.1 r10.2.1).bind fun r12 =>
      bif r11.2 != 0 then
        some false
      else
      bif r12.2 != 0 then
        some false
      else
      (nat_Cmp.f N r12.1 r9.2.1).bind fun r13 =>
      bif r13 != 0 then
        some false
      else
      (nat_Cmp.f N r10.2.1 r9.2.2.1).bind fun r14 =>
      bif decide (r14 ≥ 0) then
        some false
      else
      parquetlaw01_NatDivides.j6 N r9 a4
    else
    bif r10.2.2 != 11 then
      some false
    else
    (nat_Nat_Bits.f N r9.2.2.1).bind fun r1230 =>
    bif r1230 != 0 then
      some false
    else
    parquetlaw01_NatDivides.j6 N r9 a4
  else
  some true
noncomputable def parquetlaw01_NatDivides.body : Code := (Try.f8.body).getD .skip
noncomputable def parquetlaw01_NatDivides.ty : List (Nat × TI) := [(9, ty9), (27, ty27), (45, ty45), (69, ty69)]
noncomputable def parquetlaw01_NatDivides.h17 : Hint := ⟨[(3, .any), (11, .box [.il .u32 1]), (12, .box [.il .u32 1]), (13, .box [.il .u32 1]), (21, .box [.il .u32 1]), (128, .any), (129, .any), (130, .any)], [(3, .any), (11, .any), (12, .any), (13, .any), (21, .any)]⟩
noncomputable def parquetlaw01_NatDivides.E (N : Nat) : Env := { ty := lookN parquetlaw01_NatDivides.ty, tab := lookN [(10, parquetlaw01_works.ent N), (11, parquetlaw01_beyond.ent N), (23, parquetlaw01_all.ent N), (44, nat_Div.ent N), (26, nat_Mul.ent N), (24, nat_Add.ent N), (22, nat_Cmp.ent N), (40, nat_Gcd.ent N), (16, nat_Nat_Bits.ent N), (42, nat_Root.ent N), (15, nat_Of.ent N), (28, nat_Shl.ent N), (29, nat_Shr.ent N), (25, parquetlaw01_two.ent N)], hint := lookN [(17, parquetlaw01_NatDivides.h17)], cut := lookN [], N := 40, res := [.tmp 8], rsh := [.any], nb := 0, ntmps := 300, own := false }
noncomputable def parquetlaw01_NatDivides.dec (v : V) (bs : List Blk) : Option (Bool) := match v, bs with
  | .c (.bool z0), [] => some z0
  | _, _ => none
set_option maxRecDepth 100000 in
theorem parquetlaw01_NatDivides.f_eq (N : Nat) (a1 : ByteArray) (a2 : ByteArray) (a3 : ByteArray) (a4 : Int) :
    evFun (parquetlaw01_NatDivides.E N) parquetlaw01_NatDivides.body [.c (.string a1), .c (.string a2), .c (.string a3), .c (.int .i64 a4)] [] parquetlaw01_NatDivides.dec = parquetlaw01_NatDivides.f N a1 a2 a3 a4 := by kernel_rfl
noncomputable def parquetlaw01_NatDivides.ent (N : Nat) : Entry := { A := Bool, fresh := 0, imm := [true, true, true, true], dec := fun args bs => match freezeL 0 (fun _ => .dead) [.any, .any, .any, .any] args, bs with
  | some [.c (.string a1), .c (.string a2), .c (.string a3), .c (.int .i64 a4)], [] => some (parquetlaw01_NatDivides.f N a1 a2 a3 a4, fun r => .one (.c (.bool r)) [])
  | _, _ => none }
theorem parquetlaw01_NatDivides.env (N : Nat) : EnvOK Try.prog (parquetlaw01_NatDivides.E N) := ⟨(TyOK.cons ty9_ok (TyOK.cons ty27_ok (TyOK.cons ty45_ok (TyOK.cons ty69_ok TyOK.nil)))), (TabOK.cons (parquetlaw01_works.ent_ok N) (TabOK.cons (parquetlaw01_beyond.ent_ok N) (TabOK.cons (parquetlaw01_all.ent_ok N) (TabOK.cons (nat_Div.ent_ok N) (TabOK.cons (nat_Mul.ent_ok N) (TabOK.cons (nat_Add.ent_ok N) (TabOK.cons (nat_Cmp.ent_ok N) (TabOK.cons (nat_Gcd.ent_ok N) (TabOK.cons (nat_Nat_Bits.ent_ok N) (TabOK.cons (nat_Root.ent_ok N) (TabOK.cons (nat_Of.ent_ok N) (TabOK.cons (nat_Shl.ent_ok N) (TabOK.cons (nat_Shr.ent_ok N) (TabOK.cons (parquetlaw01_two.ent_ok N) TabOK.nil))))))))))))))⟩
theorem parquetlaw01_NatDivides.res_eq (N : Nat) : (parquetlaw01_NatDivides.E N).res = Try.f8.results.toList := by kernel_rfl
theorem parquetlaw01_NatDivides.spec (N : Nat) (a1 : ByteArray) (a2 : ByteArray) (a3 : ByteArray) (a4 : Int) (r : Bool) (h : parquetlaw01_NatDivides.f N a1 a2 a3 a4 = some r) : FnSpec Try.prog 8 [.c (.string a1), .c (.string a2), .c (.string a3), .c (.int .i64 a4)] [] (.c (.bool r)) ([]) := by
  rw [← parquetlaw01_NatDivides.f_eq] at h
  obtain ⟨v, bs', h1, h2⟩ := evFun_ok (parquetlaw01_NatDivides.env N) Try_mixed Try.func8 (by kernel_rfl : Try.f8.body = some parquetlaw01_NatDivides.body) (by kernel_rfl) (parquetlaw01_NatDivides.res_eq N) (by kernel_rfl) (by kernel_rfl) (Nat.le_of_ble_eq_true (by kernel_rfl)) (AllCut.of (l := [(.loop (inner ((subLoops parquetlaw01_NatDivides.body).getD 0 .skip)))]) (by kernel_rfl) (AllCut.cons (cut_loop (by kernel_rfl)) AllCut.nil)) h
  unfold parquetlaw01_NatDivides.dec at h1; split at h1
  · cases h1; exact h2
  · cases h1
theorem parquetlaw01_NatDivides.ent_ok (N : Nat) : TabOK1 Try.prog 8 (parquetlaw01_NatDivides.ent N) := by
  intro args bs a enc h
  simp only [parquetlaw01_NatDivides.ent] at h
  split at h
  · rename_i hz; have h0 := Option.some.inj h; have h1 := congrArg Prod.fst h0; have h2 := congrArg Prod.snd h0; dsimp only at h1 h2; subst h2; exact FnSpec.of_freeze hz (parquetlaw01_NatDivides.spec N _ _ _ _ a h1)
  · cases h
end Go.Proofs.Ytnjlpjdncejfcaa
