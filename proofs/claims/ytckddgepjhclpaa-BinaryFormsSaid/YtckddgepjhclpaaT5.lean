-- The seat's functions as the evaluator goes through them: typed models and their laws.
import Derived.Test.YtckddgepjhclpaaProg
import Derived.Test.YtckddgepjhclpaaEvF
import Derived.Test.YtckddgepjhclpaaT4
import Derived.KernelRfl
namespace Go.Proofs.Ytckddgepjhclpaa
open Go.Proofs.Ytckddgepjhclpaa.Ev
set_option linter.unusedVariables false
open Go

noncomputable def ty37 : TI := ⟨.slice 66, 1, 24, [.slice none 0 0]⟩
noncomputable def ty38 : TI := ⟨.int .i16, 1, 2, [.int .i16 0]⟩
noncomputable def ty64 : TI := ⟨.int .i8, 1, 1, [.int .i8 0]⟩
noncomputable def ty66 : TI := ⟨.struct [(64, 0), (4, 1)], 2, 2, [.int .i8 0, .bool false]⟩
theorem ty37_ok : TyOK1 Try.prog 37 ty37 := tyok_of (by kernel_rfl) (by kernel_rfl) (by kernel_rfl) (by kernel_rfl) (by kernel_rfl) (by kernel_rfl) (by kernel_rfl) (Try.underlying37) (by kernel_rfl)
theorem ty38_ok : TyOK1 Try.prog 38 ty38 := tyok_of (by kernel_rfl) (by kernel_rfl) (by kernel_rfl) (by kernel_rfl) (by kernel_rfl) (by kernel_rfl) (by kernel_rfl) (Try.underlying38) (by kernel_rfl)
theorem ty64_ok : TyOK1 Try.prog 64 ty64 := tyok_of (by kernel_rfl) (by kernel_rfl) (by kernel_rfl) (by kernel_rfl) (by kernel_rfl) (by kernel_rfl) (by kernel_rfl) (Try.underlying64) (by kernel_rfl)
theorem ty66_ok : TyOK1 Try.prog 66 ty66 := tyok_of (by kernel_rfl) (by kernel_rfl) (by kernel_rfl) (by kernel_rfl) (by kernel_rfl) (by kernel_rfl) (by kernel_rfl) (tk_struct Try.underlying66 (by kernel_rfl) (by kernel_rfl)) (by kernel_rfl)
/-! parquet/parquetref04.Mod: function 53 -/
noncomputable def parquetref04_Mod.f (N : Nat) (a1 : Int) (a2 : Int) : Option (Int) :=
  bif !(a2 == 0) then
    bif decide ((Int.tmod a1 a2) < 0) then
      some (wi64 ((Int.tmod a1 a2) + a2))
    else
    some (Int.tmod a1 a2)
  else none
noncomputable def parquetref04_Mod.body : Code := (Try.f53.body).getD .skip
noncomputable def parquetref04_Mod.ty : List (Nat × TI) := []
noncomputable def parquetref04_Mod.E (N : Nat) : Env := { ty := lookN parquetref04_Mod.ty, tab := lookN [], hint := lookN [], cut := lookN [], N := N, res := [.tmp 4], rsh := [.any], nb := 0, ntmps := 14, own := false }
noncomputable def parquetref04_Mod.dec (v : V) (bs : List Blk) : Option (Int) := match v, bs with
  | .c (.int .i64 z0), [] => some z0
  | _, _ => none
set_option maxRecDepth 100000 in
theorem parquetref04_Mod.f_eq (N : Nat) (a1 : Int) (a2 : Int) :
    evFun (parquetref04_Mod.E N) parquetref04_Mod.body [.c (.int .i64 a1), .c (.int .i64 a2)] [] parquetref04_Mod.dec = parquetref04_Mod.f N a1 a2 := by kernel_rfl
noncomputable def parquetref04_Mod.ent (N : Nat) : Entry := { A := Int, fresh := 0, imm := [true, true], dec := fun args bs => match freezeL 0 (fun _ => .dead) [.any, .any] args, bs with
  | some [.c (.int .i64 a1), .c (.int .i64 a2)], [] => some (parquetref04_Mod.f N a1 a2, fun r => .one (.c (.int .i64 r)) [])
  | _, _ => none }
theorem parquetref04_Mod.env (N : Nat) : EnvOK Try.prog (parquetref04_Mod.E N) := ⟨TyOK.nil, TabOK.nil⟩
theorem parquetref04_Mod.res_eq (N : Nat) : (parquetref04_Mod.E N).res = Try.f53.results.toList := by kernel_rfl
theorem parquetref04_Mod.spec (N : Nat) (a1 : Int) (a2 : Int) (r : Int) (h : parquetref04_Mod.f N a1 a2 = some r) : FnSpec Try.prog 53 [.c (.int .i64 a1), .c (.int .i64 a2)] [] (.c (.int .i64 r)) ([]) := by
  rw [← parquetref04_Mod.f_eq] at h
  obtain ⟨v, bs', h1, h2⟩ := evFun_ok (parquetref04_Mod.env N) Try_mixed Try.func53 (by kernel_rfl : Try.f53.body = some parquetref04_Mod.body) (by kernel_rfl) (parquetref04_Mod.res_eq N) (by kernel_rfl) (by kernel_rfl) (Nat.le_of_ble_eq_true (by kernel_rfl)) (AllCut.of (l := []) (by kernel_rfl) AllCut.nil) h
  unfold parquetref04_Mod.dec at h1; split at h1
  · cases h1; exact h2
  · cases h1
theorem parquetref04_Mod.ent_ok (N : Nat) : TabOK1 Try.prog 53 (parquetref04_Mod.ent N) := by
  intro args bs a enc h
  simp only [parquetref04_Mod.ent] at h
  split at h
  · rename_i hz; have h0 := Option.some.inj h; have h1 := congrArg Prod.fst h0; have h2 := congrArg Prod.snd h0; dsimp only at h1 h2; subst h2; exact FnSpec.of_freeze hz (parquetref04_Mod.spec N _ _ a h1)
  · cases h
/-! parquet/parquetref08.Disc: function 23 -/
noncomputable def parquetref08_Disc.f (N : Nat) (a1 : Int) (a2 : Int) (a3 : Int) : Option (Int) :=
  (parquetref08_In.f N a1 a2 a3).bind fun r4 =>
  bif !r4 then
    some 0
  else
  some (wi64 ((wi64 (a2 * a2)) - (wi64 ((wi64 (4 * a1)) * a3))))
noncomputable def parquetref08_Disc.body : Code := (Try.f23.body).getD .skip
noncomputable def parquetref08_Disc.ty : List (Nat × TI) := [(2, ty2), (23, ty23)]
noncomputable def parquetref08_Disc.E (N : Nat) : Env := { ty := lookN parquetref08_Disc.ty, tab := lookN [(35, parquetref08_In.ent N)], hint := lookN [], cut := lookN [], N := N, res := [.tmp 2], rsh := [.any], nb := 0, ntmps := 18, own := false }
noncomputable def parquetref08_Disc.dec (v : V) (bs : List Blk) : Option (Int) := match v, bs with
  | .c (.int .i64 z0), [] => some z0
  | _, _ => none
set_option maxRecDepth 100000 in
theorem parquetref08_Disc.f_eq (N : Nat) (a1 : Int) (a2 : Int) (a3 : Int) :
    evFun (parquetref08_Disc.E N) parquetref08_Disc.body [.agg [.c (.int .i64 a1), .c (.int .i64 a2), .c (.int .i64 a3)]] [] parquetref08_Disc.dec = parquetref08_Disc.f N a1 a2 a3 := by kernel_rfl
noncomputable def parquetref08_Disc.ent (N : Nat) : Entry := { A := Int, fresh := 0, imm := [true], dec := fun args bs => match freezeL 0 (fun _ => .dead) [.recd [.any, .any, .any]] args, bs with
  | some [.agg [.c (.int .i64 a1), .c (.int .i64 a2), .c (.int .i64 a3)]], [] => some (parquetref08_Disc.f N a1 a2 a3, fun r => .one (.c (.int .i64 r)) [])
  | _, _ => none }
theorem parquetref08_Disc.env (N : Nat) : EnvOK Try.prog (parquetref08_Disc.E N) := ⟨(TyOK.cons ty2_ok (TyOK.cons ty23_ok TyOK.nil)), (TabOK.cons (parquetref08_In.ent_ok N) TabOK.nil)⟩
theorem parquetref08_Disc.res_eq (N : Nat) : (parquetref08_Disc.E N).res = Try.f23.results.toList := by kernel_rfl
theorem parquetref08_Disc.spec (N : Nat) (a1 : Int) (a2 : Int) (a3 : Int) (r : Int) (h : parquetref08_Disc.f N a1 a2 a3 = some r) : FnSpec Try.prog 23 [.agg [.c (.int .i64 a1), .c (.int .i64 a2), .c (.int .i64 a3)]] [] (.c (.int .i64 r)) ([]) := by
  rw [← parquetref08_Disc.f_eq] at h
  obtain ⟨v, bs', h1, h2⟩ := evFun_ok (parquetref08_Disc.env N) Try_mixed Try.func23 (by kernel_rfl : Try.f23.body = some parquetref08_Disc.body) (by kernel_rfl) (parquetref08_Disc.res_eq N) (by kernel_rfl) (by kernel_rfl) (Nat.le_of_ble_eq_true (by kernel_rfl)) (AllCut.of (l := []) (by kernel_rfl) AllCut.nil) h
  unfold parquetref08_Disc.dec at h1; split at h1
  · cases h1; exact h2
  · cases h1
theorem parquetref08_Disc.ent_ok (N : Nat) : TabOK1 Try.prog 23 (parquetref08_Disc.ent N) := by
  intro args bs a enc h
  simp only [parquetref08_Disc.ent] at h
  split at h
  · rename_i hz; have h0 := Option.some.inj h; have h1 := congrArg Prod.fst h0; have h2 := congrArg Prod.snd h0; dsimp only at h1 h2; subst h2; exact FnSpec.of_freeze hz (parquetref08_Disc.spec N _ _ _ a h1)
  · cases h
/-! parquet/parquetref08.Check: function 24 -/
noncomputable def parquetref08_Check.f (N : Nat) (a1 : Int) (a2 : Int) (a3 : Int) : Option (Int) :=
  (parquetref08_In.f N a1 a2 a3).bind fun r4 =>
  bif !r4 then
    some 3
  else
  bif decide (a1 ≤ 0) then
    some 81
  else
  (parquetref08_Disc.f N a1 a2 a3).bind fun r5 =>
  bif decide (r5 ≥ 0) then
    some 81
  else
  (parquetref08_Disc.f N a1 a2 a3).bind fun r6 =>
  bif decide (r6 < (-4294967296)) then
    some 80
  else
  some 0
noncomputable def parquetref08_Check.body : Code := (Try.f24.body).getD .skip
noncomputable def parquetref08_Check.ty : List (Nat × TI) := [(2, ty2), (23, ty23)]
noncomputable def parquetref08_Check.E (N : Nat) : Env := { ty := lookN parquetref08_Check.ty, tab := lookN [(35, parquetref08_In.ent N), (23, parquetref08_Disc.ent N)], hint := lookN [], cut := lookN [], N := N, res := [.tmp 2], rsh := [.any], nb := 0, ntmps := 17, own := false }
noncomputable def parquetref08_Check.dec (v : V) (bs : List Blk) : Option (Int) := match v, bs with
  | .c (.int .i64 z0), [] => some z0
  | _, _ => none
set_option maxRecDepth 100000 in
theorem parquetref08_Check.f_eq (N : Nat) (a1 : Int) (a2 : Int) (a3 : Int) :
    evFun (parquetref08_Check.E N) parquetref08_Check.body [.agg [.c (.int .i64 a1), .c (.int .i64 a2), .c (.int .i64 a3)]] [] parquetref08_Check.dec = parquetref08_Check.f N a1 a2 a3 := by kernel_rfl
noncomputable def parquetref08_Check.ent (N : Nat) : Entry := { A := Int, fresh := 0, imm := [true], dec := fun args bs => match freezeL 0 (fun _ => .dead) [.recd [.any, .any, .any]] args, bs with
  | some [.agg [.c (.int .i64 a1), .c (.int .i64 a2), .c (.int .i64 a3)]], [] => some (parquetref08_Check.f N a1 a2 a3, fun r => .one (.c (.int .i64 r)) [])
  | _, _ => none }
theorem parquetref08_Check.env (N : Nat) : EnvOK Try.prog (parquetref08_Check.E N) := ⟨(TyOK.cons ty2_ok (TyOK.cons ty23_ok TyOK.nil)), (TabOK.cons (parquetref08_In.ent_ok N) (TabOK.cons (parquetref08_Disc.ent_ok N) TabOK.nil))⟩
theorem parquetref08_Check.res_eq (N : Nat) : (parquetref08_Check.E N).res = Try.f24.results.toList := by kernel_rfl
theorem parquetref08_Check.spec (N : Nat) (a1 : Int) (a2 : Int) (a3 : Int) (r : Int) (h : parquetref08_Check.f N a1 a2 a3 = some r) : FnSpec Try.prog 24 [.agg [.c (.int .i64 a1), .c (.int .i64 a2), .c (.int .i64 a3)]] [] (.c (.int .i64 r)) ([]) := by
  rw [← parquetref08_Check.f_eq] at h
  obtain ⟨v, bs', h1, h2⟩ := evFun_ok (parquetref08_Check.env N) Try_mixed Try.func24 (by kernel_rfl : Try.f24.body = some parquetref08_Check.body) (by kernel_rfl) (parquetref08_Check.res_eq N) (by kernel_rfl) (by kernel_rfl) (Nat.le_of_ble_eq_true (by kernel_rfl)) (AllCut.of (l := []) (by kernel_rfl) AllCut.nil) h
  unfold parquetref08_Check.dec at h1; split at h1
  · cases h1; exact h2
  · cases h1
theorem parquetref08_Check.ent_ok (N : Nat) : TabOK1 Try.prog 24 (parquetref08_Check.ent N) := by
  intro args bs a enc h
  simp only [parquetref08_Check.ent] at h
  split at h
  · rename_i hz; have h0 := Option.some.inj h; have h1 := congrArg Prod.fst h0; have h2 := congrArg Prod.snd h0; dsimp only at h1 h2; subst h2; exact FnSpec.of_freeze hz (parquetref08_Check.spec N _ _ _ a h1)
  · cases h
/-! parquet/parquetref08.Is: function 40 -/
noncomputable def parquetref08_Is.f (N : Nat) (a1 : Int) (a2 : Int) (a3 : Int) : Option (Bool) :=
  bif decide ((wi64 (0 - a1)) < a2) then
    bif decide (a2 ≤ a1) then
      bif decide (a1 ≤ a3) then
        bif decide (a2 ≥ 0) then
          some true
        else
        some (a1 != a3)
      else
      some false
    else
    some false
  else
  some false
noncomputable def parquetref08_Is.body : Code := (Try.f40.body).getD .skip
noncomputable def parquetref08_Is.ty : List (Nat × TI) := [(2, ty2), (23, ty23)]
noncomputable def parquetref08_Is.E (N : Nat) : Env := { ty := lookN parquetref08_Is.ty, tab := lookN [], hint := lookN [], cut := lookN [], N := N, res := [.tmp 2], rsh := [.any], nb := 0, ntmps := 35, own := false }
noncomputable def parquetref08_Is.dec (v : V) (bs : List Blk) : Option (Bool) := match v, bs with
  | .c (.bool z0), [] => some z0
  | _, _ => none
set_option maxRecDepth 100000 in
theorem parquetref08_Is.f_eq (N : Nat) (a1 : Int) (a2 : Int) (a3 : Int) :
    evFun (parquetref08_Is.E N) parquetref08_Is.body [.agg [.c (.int .i64 a1), .c (.int .i64 a2), .c (.int .i64 a3)]] [] parquetref08_Is.dec = parquetref08_Is.f N a1 a2 a3 := by kernel_rfl
noncomputable def parquetref08_Is.ent (N : Nat) : Entry := { A := Bool, fresh := 0, imm := [true], dec := fun args bs => match freezeL 0 (fun _ => .dead) [.recd [.any, .any, .any]] args, bs with
  | some [.agg [.c (.int .i64 a1), .c (.int .i64 a2), .c (.int .i64 a3)]], [] => some (parquetref08_Is.f N a1 a2 a3, fun r => .one (.c (.bool r)) [])
  | _, _ => none }
theorem parquetref08_Is.env (N : Nat) : EnvOK Try.prog (parquetref08_Is.E N) := ⟨(TyOK.cons ty2_ok (TyOK.cons ty23_ok TyOK.nil)), TabOK.nil⟩
theorem parquetref08_Is.res_eq (N : Nat) : (parquetref08_Is.E N).res = Try.f40.results.toList := by kernel_rfl
theorem parquetref08_Is.spec (N : Nat) (a1 : Int) (a2 : Int) (a3 : Int) (r : Bool) (h : parquetref08_Is.f N a1 a2 a3 = some r) : FnSpec Try.prog 40 [.agg [.c (.int .i64 a1), .c (.int .i64 a2), .c (.int .i64 a3)]] [] (.c (.bool r)) ([]) := by
  rw [← parquetref08_Is.f_eq] at h
  obtain ⟨v, bs', h1, h2⟩ := evFun_ok (parquetref08_Is.env N) Try_mixed Try.func40 (by kernel_rfl : Try.f40.body = some parquetref08_Is.body) (by kernel_rfl) (parquetref08_Is.res_eq N) (by kernel_rfl) (by kernel_rfl) (Nat.le_of_ble_eq_true (by kernel_rfl)) (AllCut.of (l := []) (by kernel_rfl) AllCut.nil) h
  unfold parquetref08_Is.dec at h1; split at h1
  · cases h1; exact h2
  · cases h1
theorem parquetref08_Is.ent_ok (N : Nat) : TabOK1 Try.prog 40 (parquetref08_Is.ent N) := by
  intro args bs a enc h
  simp only [parquetref08_Is.ent] at h
  split at h
  · rename_i hz; have h0 := Option.some.inj h; have h1 := congrArg Prod.fst h0; have h2 := congrArg Prod.snd h0; dsimp only at h1 h2; subst h2; exact FnSpec.of_freeze hz (parquetref08_Is.spec N _ _ _ a h1)
  · cases h
/-! parquet/parquetref08.Reduced: function 27 -/
noncomputable def parquetref08_Reduced.f (N : Nat) (a1 : Int) (a2 : Int) (a3 : Int) : Option (Bool) :=
  (parquetref08_Check.f N a1 a2 a3).bind fun r4 =>
  bif r4 == 0 then
    (parquetref08_Is.f N a1 a2 a3).bind fun r5 =>
    some r5
  else
  some false
noncomputable def parquetref08_Reduced.body : Code := (Try.f27.body).getD .skip
noncomputable def parquetref08_Reduced.ty : List (Nat × TI) := [(23, ty23)]
noncomputable def parquetref08_Reduced.E (N : Nat) : Env := { ty := lookN parquetref08_Reduced.ty, tab := lookN [(24, parquetref08_Check.ent N), (40, parquetref08_Is.ent N)], hint := lookN [], cut := lookN [], N := N, res := [.tmp 2], rsh := [.any], nb := 0, ntmps := 10, own := false }
noncomputable def parquetref08_Reduced.dec (v : V) (bs : List Blk) : Option (Bool) := match v, bs with
  | .c (.bool z0), [] => some z0
  | _, _ => none
set_option maxRecDepth 100000 in
theorem parquetref08_Reduced.f_eq (N : Nat) (a1 : Int) (a2 : Int) (a3 : Int) :
    evFun (parquetref08_Reduced.E N) parquetref08_Reduced.body [.agg [.c (.int .i64 a1), .c (.int .i64 a2), .c (.int .i64 a3)]] [] parquetref08_Reduced.dec = parquetref08_Reduced.f N a1 a2 a3 := by kernel_rfl
noncomputable def parquetref08_Reduced.ent (N : Nat) : Entry := { A := Bool, fresh := 0, imm := [true], dec := fun args bs => match freezeL 0 (fun _ => .dead) [.recd [.any, .any, .any]] args, bs with
  | some [.agg [.c (.int .i64 a1), .c (.int .i64 a2), .c (.int .i64 a3)]], [] => some (parquetref08_Reduced.f N a1 a2 a3, fun r => .one (.c (.bool r)) [])
  | _, _ => none }
theorem parquetref08_Reduced.env (N : Nat) : EnvOK Try.prog (parquetref08_Reduced.E N) := ⟨(TyOK.cons ty23_ok TyOK.nil), (TabOK.cons (parquetref08_Check.ent_ok N) (TabOK.cons (parquetref08_Is.ent_ok N) TabOK.nil))⟩
theorem parquetref08_Reduced.res_eq (N : Nat) : (parquetref08_Reduced.E N).res = Try.f27.results.toList := by kernel_rfl
theorem parquetref08_Reduced.spec (N : Nat) (a1 : Int) (a2 : Int) (a3 : Int) (r : Bool) (h : parquetref08_Reduced.f N a1 a2 a3 = some r) : FnSpec Try.prog 27 [.agg [.c (.int .i64 a1), .c (.int .i64 a2), .c (.int .i64 a3)]] [] (.c (.bool r)) ([]) := by
  rw [← parquetref08_Reduced.f_eq] at h
  obtain ⟨v, bs', h1, h2⟩ := evFun_ok (parquetref08_Reduced.env N) Try_mixed Try.func27 (by kernel_rfl : Try.f27.body = some parquetref08_Reduced.body) (by kernel_rfl) (parquetref08_Reduced.res_eq N) (by kernel_rfl) (by kernel_rfl) (Nat.le_of_ble_eq_true (by kernel_rfl)) (AllCut.of (l := []) (by kernel_rfl) AllCut.nil) h
  unfold parquetref08_Reduced.dec at h1; split at h1
  · cases h1; exact h2
  · cases h1
theorem parquetref08_Reduced.ent_ok (N : Nat) : TabOK1 Try.prog 27 (parquetref08_Reduced.ent N) := by
  intro args bs a enc h
  simp only [parquetref08_Reduced.ent] at h
  split at h
  · rename_i hz; have h0 := Option.some.inj h; have h1 := congrArg Prod.fst h0; have h2 := congrArg Prod.snd h0; dsimp only at h1 h2; subst h2; exact FnSpec.of_freeze hz (parquetref08_Reduced.spec N _ _ _ a h1)
  · cases h
/-! parquet/parquetref08.Floor: function 41 -/
noncomputable def parquetref08_Floor.f (N : Nat) (a1 : Int) (a2 : Int) : Option (Int) :=
  (parquetref04_Mod.f N a1 a2).bind fun r3 =>
  bif !(a2 == 0) then
    some (wi64 (Int.tdiv (wi64 (a1 - r3)) a2))
  else none
noncomputable def parquetref08_Floor.body : Code := (Try.f41.body).getD .skip
noncomputable def parquetref08_Floor.ty : List (Nat × TI) := []
noncomputable def parquetref08_Floor.E (N : Nat) : Env := { ty := lookN parquetref08_Floor.ty, tab := lookN [(53, parquetref04_Mod.ent N)], hint := lookN [], cut := lookN [], N := N, res := [.tmp 4], rsh := [.any], nb := 0, ntmps := 12, own := false }
noncomputable def parquetref08_Floor.dec (v : V) (bs : List Blk) : Option (Int) := match v, bs with
  | .c (.int .i64 z0), [] => some z0
  | _, _ => none
set_option maxRecDepth 100000 in
theorem parquetref08_Floor.f_eq (N : Nat) (a1 : Int) (a2 : Int) :
    evFun (parquetref08_Floor.E N) parquetref08_Floor.body [.c (.int .i64 a1), .c (.int .i64 a2)] [] parquetref08_Floor.dec = parquetref08_Floor.f N a1 a2 := by kernel_rfl
noncomputable def parquetref08_Floor.ent (N : Nat) : Entry := { A := Int, fresh := 0, imm := [true, true], dec := fun args bs => match freezeL 0 (fun _ => .dead) [.any, .any] args, bs with
  | some [.c (.int .i64 a1), .c (.int .i64 a2)], [] => some (parquetref08_Floor.f N a1 a2, fun r => .one (.c (.int .i64 r)) [])
  | _, _ => none }
theorem parquetref08_Floor.env (N : Nat) : EnvOK Try.prog (parquetref08_Floor.E N) := ⟨TyOK.nil, (TabOK.cons (parquetref04_Mod.ent_ok N) TabOK.nil)⟩
theorem parquetref08_Floor.res_eq (N : Nat) : (parquetref08_Floor.E N).res = Try.f41.results.toList := by kernel_rfl
theorem parquetref08_Floor.spec (N : Nat) (a1 : Int) (a2 : Int) (r : Int) (h : parquetref08_Floor.f N a1 a2 = some r) : FnSpec Try.prog 41 [.c (.int .i64 a1), .c (.int .i64 a2)] [] (.c (.int .i64 r)) ([]) := by
  rw [← parquetref08_Floor.f_eq] at h
  obtain ⟨v, bs', h1, h2⟩ := evFun_ok (parquetref08_Floor.env N) Try_mixed Try.func41 (by kernel_rfl : Try.f41.body = some parquetref08_Floor.body) (by kernel_rfl) (parquetref08_Floor.res_eq N) (by kernel_rfl) (by kernel_rfl) (Nat.le_of_ble_eq_true (by kernel_rfl)) (AllCut.of (l := []) (by kernel_rfl) AllCut.nil) h
  unfold parquetref08_Floor.dec at h1; split at h1
  · cases h1; exact h2
  · cases h1
theorem parquetref08_Floor.ent_ok (N : Nat) : TabOK1 Try.prog 41 (parquetref08_Floor.ent N) := by
  intro args bs a enc h
  simp only [parquetref08_Floor.ent] at h
  split at h
  · rename_i hz; have h0 := Option.some.inj h; have h1 := congrArg Prod.fst h0; have h2 := congrArg Prod.snd h0; dsimp only at h1 h2; subst h2; exact FnSpec.of_freeze hz (parquetref08_Floor.spec N _ _ a h1)
  · cases h
/-! parquet/parquetref08.Reduce: function 28 -/
noncomputable def parquetref08_Reduce.l5 {R : Type} (N : Nat) : Nat → Int → Int → Int → Int → Int → Int → Int → Int → Int → Int → Int → Int → Int → Int → (Int → Int → Int → Int → Int → Int → Int → Int → Int → Int → Int → Int → Int → Int → Option R) → Option R
  | 0, _, _, _, _, _, _, _, _, _, _, _, _, _, _, _ => none
  | n + 1, x5, x6, x7, x8, x9, x10, x11, x12, x13, x14, x15, x16, x17, x18, k0 =>
    (parquetref08_Is.f N x5 x6 x7).bind fun r19 =>
    bif !r19 then
      bif decide ((wi64 (0 - x5)) ≥ x6) then
        (parquetref08_Floor.f N (wi64 (x5 - x6)) (wi64 (2 * x5))).bind fun r20 =>
        parquetref08_Reduce.l5 N n x5 (wi64 (x6 + (wi64 ((wi64 (2 * r20)) * x5)))) (wi64 ((wi64 ((wi64 ((wi64 (x5 * r20)) + x6)) * r20)) + x7)) x8 x9 x10 x11 x12 x13 x14 x15 (wi64 ((wi64 (r20 * x15)) + x16)) x17 (wi64 ((wi64 (r20 * x17)) + x18)) k0
      else
      bif decide (x6 > x5) then
        (parquetref08_Floor.f N (wi64 (x5 - x6)) (wi64 (2 * x5))).bind fun r21 =>
        parquetref08_Reduce.l5 N n x5 (wi64 (x6 + (wi64 ((wi64 (2 * r21)) * x5)))) (wi64 ((wi64 ((wi64 ((wi64 (x5 * r21)) + x6)) * r21)) + x7)) x8 x9 x10 x11 x12 x13 x14 x15 (wi64 ((wi64 (r21 * x15)) + x16)) x17 (wi64 ((wi64 (r21 * x17)) + x18)) k0
      else
      parquetref08_Reduce.l5 N n x7 (wi64 (0 - x6)) x5 x8 x9 x10 x11 x12 x13 x14 x16 (wi64 (0 - x15)) x18 (wi64 (0 - x17)) k0
    else
    k0 x5 x6 x7 x8 x9 x10 x11 x12 x13 x14 x15 x16 x17 x18
noncomputable def parquetref08_Reduce.f (N : Nat) (a1 : Int) (a2 : Int) (a3 : Int) : Option (Int × Int × Int × Int × Int × Int × Int × Int) :=
  (parquetref08_Check.f N a1 a2 a3).bind fun r4 =>
  bif r4 != 0 then
    some (0, 0, 0, 0, 0, 0, 0, r4)
  else
  parquetref08_Reduce.l5 N N a1 a2 a3 0 0 0 0 0 0 0 1 0 0 1
    (fun y36 y37 y38 y39 y40 y41 y42 y43 y44 y45 y46 y47 y48 y49 =>
      some (y36, y37, y38, y46, y47, y48, y49, 0))
noncomputable def parquetref08_Reduce.body : Code := (Try.f28.body).getD .skip
noncomputable def parquetref08_Reduce.ty : List (Nat × TI) := [(2, ty2), (23, ty23), (33, ty33)]
noncomputable def parquetref08_Reduce.h5 : Hint := ⟨[(1, .box [.any, .any, .any]), (2, .box [.any, .any, .any]), (3, .box [.any, .any, .any, .any]), (6, .box [.any, .any, .any, .any])], [(1, .box [.any, .any, .any]), (2, .box [.any, .any, .any]), (3, .box [.any, .any, .any, .any]), (6, .box [.any, .any, .any, .any])]⟩
noncomputable def parquetref08_Reduce.c5 (N : Nat) : Cut := ⟨fun vs H k => match vs, H with
  | [.ptr 0 0 3, .ptr 1 0 3, .ptr 2 0 4, .ptr 3 0 4], [.vals [.c (.int .i64 x5), .c (.int .i64 x6), .c (.int .i64 x7)], .vals [.c (.int .i64 x8), .c (.int .i64 x9), .c (.int .i64 x10)], .vals [.c (.int .i64 x11), .c (.int .i64 x12), .c (.int .i64 x13), .c (.int .i64 x14)], .vals [.c (.int .i64 x15), .c (.int .i64 x16), .c (.int .i64 x17), .c (.int .i64 x18)]] => parquetref08_Reduce.l5 N N x5 x6 x7 x8 x9 x10 x11 x12 x13 x14 x15 x16 x17 x18 (fun x22 x23 x24 x25 x26 x27 x28 x29 x30 x31 x32 x33 x34 x35 => k (.exit 0) ⟨mkT parquetref08_Reduce.h5.out [.ptr 0 0 3, .ptr 1 0 3, .ptr 2 0 4, .ptr 3 0 4], [.vals [.c (.int .i64 x22), .c (.int .i64 x23), .c (.int .i64 x24)], .vals [.c (.int .i64 x25), .c (.int .i64 x26), .c (.int .i64 x27)], .vals [.c (.int .i64 x28), .c (.int .i64 x29), .c (.int .i64 x30), .c (.int .i64 x31)], .vals [.c (.int .i64 x32), .c (.int .i64 x33), .c (.int .i64 x34), .c (.int .i64 x35)]]⟩)
  | _, _ => none⟩
noncomputable def parquetref08_Reduce.E (N : Nat) : Env := { ty := lookN parquetref08_Reduce.ty, tab := lookN [(24, parquetref08_Check.ent N), (40, parquetref08_Is.ent N), (41, parquetref08_Floor.ent N)], hint := lookN [(5, parquetref08_Reduce.h5)], cut := lookN [(5, parquetref08_Reduce.c5 N)], N := N, res := [.cell 2 23, .cell 3 33, .tmp 4], rsh := [.recd [.any, .any, .any], .recd [.any, .any, .any, .any], .any], nb := 0, ntmps := 104, own := false }
noncomputable def parquetref08_Reduce.b5 : Code := inner ((subLoops parquetref08_Reduce.body).getD 0 .skip)
set_option maxRecDepth 100000 in
theorem parquetref08_Reduce.l5_eq {R : Type} (N n : Nat) (x5 : Int) (x6 : Int) (x7 : Int) (x8 : Int) (x9 : Int) (x10 : Int) (x11 : Int) (x12 : Int) (x13 : Int) (x14 : Int) (x15 : Int) (x16 : Int) (x17 : Int) (x18 : Int) (k : Ex → St → Option R) :
    evLoop 0 parquetref08_Reduce.h5 (fun s k => evCode (parquetref08_Reduce.E N) 393 parquetref08_Reduce.b5 s k) n [.ptr 0 0 3, .ptr 1 0 3, .ptr 2 0 4, .ptr 3 0 4] [.vals [.c (.int .i64 x5), .c (.int .i64 x6), .c (.int .i64 x7)], .vals [.c (.int .i64 x8), .c (.int .i64 x9), .c (.int .i64 x10)], .vals [.c (.int .i64 x11), .c (.int .i64 x12), .c (.int .i64 x13), .c (.int .i64 x14)], .vals [.c (.int .i64 x15), .c (.int .i64 x16), .c (.int .i64 x17), .c (.int .i64 x18)]] k = parquetref08_Reduce.l5 N n x5 x6 x7 x8 x9 x10 x11 x12 x13 x14 x15 x16 x17 x18 (fun x22 x23 x24 x25 x26 x27 x28 x29 x30 x31 x32 x33 x34 x35 => k (.exit 0) ⟨mkT parquetref08_Reduce.h5.out [.ptr 0 0 3, .ptr 1 0 3, .ptr 2 0 4, .ptr 3 0 4], [.vals [.c (.int .i64 x22), .c (.int .i64 x23), .c (.int .i64 x24)], .vals [.c (.int .i64 x25), .c (.int .i64 x26), .c (.int .i64 x27)], .vals [.c (.int .i64 x28), .c (.int .i64 x29), .c (.int .i64 x30), .c (.int .i64 x31)], .vals [.c (.int .i64 x32), .c (.int .i64 x33), .c (.int .i64 x34), .c (.int .i64 x35)]]⟩) := by
  induction n generalizing x5 x6 x7 x8 x9 x10 x11 x12 x13 x14 x15 x16 x17 x18 with
  | zero => kernel_rfl
  | succ n ih =>
    simp only [parquetref08_Reduce.l5, ← ih]
    kernel_rfl
noncomputable def parquetref08_Reduce.dec (v : V) (bs : List Blk) : Option (Int × Int × Int × Int × Int × Int × Int × Int) := match v, bs with
  | .tup [.agg [.c (.int .i64 z0), .c (.int .i64 z1), .c (.int .i64 z2)], .agg [.c (.int .i64 z3), .c (.int .i64 z4), .c (.int .i64 z5), .c (.int .i64 z6)], .c (.int .i64 z7)], [] => some (z0, z1, z2, z3, z4, z5, z6, z7)
  | _, _ => none
set_option maxRecDepth 100000 in
theorem parquetref08_Reduce.f_eq (N : Nat) (a1 : Int) (a2 : Int) (a3 : Int) :
    evFun (parquetref08_Reduce.E N) parquetref08_Reduce.body [.agg [.c (.int .i64 a1), .c (.int .i64 a2), .c (.int .i64 a3)]] [] parquetref08_Reduce.dec = parquetref08_Reduce.f N a1 a2 a3 := by kernel_rfl
noncomputable def parquetref08_Reduce.ent (N : Nat) : Entry := { A := Int × Int × Int × Int × Int × Int × Int × Int, fresh := 0, imm := [true], dec := fun args bs => match freezeL 0 (fun _ => .dead) [.recd [.any, .any, .any]] args, bs with
  | some [.agg [.c (.int .i64 a1), .c (.int .i64 a2), .c (.int .i64 a3)]], [] => some (parquetref08_Reduce.f N a1 a2 a3, fun r => .one (.tup [.agg [.c (.int .i64 r.1), .c (.int .i64 r.2.1), .c (.int .i64 r.2.2.1)], .agg [.c (.int .i64 r.2.2.2.1), .c (.int .i64 r.2.2.2.2.1), .c (.int .i64 r.2.2.2.2.2.1), .c (.int .i64 r.2.2.2.2.2.2.1)], .c (.int .i64 r.2.2.2.2.2.2.2)]) [])
  | _, _ => none }
theorem parquetref08_Reduce.env (N : Nat) : EnvOK Try.prog (parquetref08_Reduce.E N) := ⟨(TyOK.cons ty2_ok (TyOK.cons ty23_ok (TyOK.cons ty33_ok TyOK.nil))), (TabOK.cons (parquetref08_Check.ent_ok N) (TabOK.cons (parquetref08_Is.ent_ok N) (TabOK.cons (parquetref08_Floor.ent_ok N) TabOK.nil)))⟩
theorem parquetref08_Reduce.res_eq (N : Nat) : (parquetref08_Reduce.E N).res = Try.f28.results.toList := by kernel_rfl
theorem parquetref08_Reduce.k5 (N : Nat) : CutOK Try.prog Try.f28 (parquetref08_Reduce.E N) (.loop parquetref08_Reduce.b5) := by
  intro e hd he hh R vs H k r h
  have e1 : (parquetref08_Reduce.E N).cut (loopKey parquetref08_Reduce.b5) = some (parquetref08_Reduce.c5 N) := by kernel_rfl
  have e2 : (parquetref08_Reduce.E N).hint (loopKey parquetref08_Reduce.b5) = some parquetref08_Reduce.h5 := by kernel_rfl
  rw [e1] at he; rw [e2] at hh; cases he; cases hh
  unfold parquetref08_Reduce.c5 at h; dsimp only at h
  split at h
  · rw [← parquetref08_Reduce.l5_eq] at h
    exact loop_ok (evCode_ok (parquetref08_Reduce.env N) Try_mixed (parquetref08_Reduce.res_eq N) 393 parquetref08_Reduce.b5 (AllCut.of (l := []) (by kernel_rfl) AllCut.nil)) h
  · cases h
theorem parquetref08_Reduce.spec (N : Nat) (a1 : Int) (a2 : Int) (a3 : Int) (r : Int × Int × Int × Int × Int × Int × Int × Int) (h : parquetref08_Reduce.f N a1 a2 a3 = some r) : FnSpec Try.prog 28 [.agg [.c (.int .i64 a1), .c (.int .i64 a2), .c (.int .i64 a3)]] [] (.tup [.agg [.c (.int .i64 r.1), .c (.int .i64 r.2.1), .c (.int .i64 r.2.2.1)], .agg [.c (.int .i64 r.2.2.2.1), .c (.int .i64 r.2.2.2.2.1), .c (.int .i64 r.2.2.2.2.2.1), .c (.int .i64 r.2.2.2.2.2.2.1)], .c (.int .i64 r.2.2.2.2.2.2.2)]) ([]) := by
  rw [← parquetref08_Reduce.f_eq] at h
  obtain ⟨v, bs', h1, h2⟩ := evFun_ok (parquetref08_Reduce.env N) Try_mixed Try.func28 (by kernel_rfl : Try.f28.body = some parquetref08_Reduce.body) (by kernel_rfl) (parquetref08_Reduce.res_eq N) (by kernel_rfl) (by kernel_rfl) (Nat.le_of_ble_eq_true (by kernel_rfl)) (AllCut.of (l := [(.loop (inner ((subLoops parquetref08_Reduce.body).getD 0 .skip)))]) (by kernel_rfl) (AllCut.cons (parquetref08_Reduce.k5 N) AllCut.nil)) h
  unfold parquetref08_Reduce.dec at h1; split at h1
  · cases h1; exact h2
  · cases h1
theorem parquetref08_Reduce.ent_ok (N : Nat) : TabOK1 Try.prog 28 (parquetref08_Reduce.ent N) := by
  intro args bs a enc h
  simp only [parquetref08_Reduce.ent] at h
  split at h
  · rename_i hz; have h0 := Option.some.inj h; have h1 := congrArg Prod.fst h0; have h2 := congrArg Prod.snd h0; dsimp only at h1 h2; subst h2; exact FnSpec.of_freeze hz (parquetref08_Reduce.spec N _ _ _ a h1)
  · cases h
/-! parquet/parquetref08.Proper: function 15 -/
noncomputable def parquetref08_Proper.f (N : Nat) (a1 : Int) (a2 : Int) (a3 : Int) (a4 : Int) (a5 : Int) (a6 : Int) : Option (Bool × Int) :=
  (parquetref08_Reduce.f N a1 a2 a3).bind fun r7 =>
  bif r7.2.2.2.2.2.2.2 != 0 then
    some (false, r7.2.2.2.2.2.2.2)
  else
  (parquetref08_Reduce.f N a4 a5 a6).bind fun r8 =>
  bif r8.2.2.2.2.2.2.2 != 0 then
    some (false, r8.2.2.2.2.2.2.2)
  else
  some ((r7.1 == r8.1) && ((r7.2.1 == r8.2.1) && (r7.2.2.1 == r8.2.2.1)), 0)
noncomputable def parquetref08_Proper.body : Code := (Try.f15.body).getD .skip
noncomputable def parquetref08_Proper.ty : List (Nat × TI) := [(2, ty2), (23, ty23), (33, ty33)]
noncomputable def parquetref08_Proper.E (N : Nat) : Env := { ty := lookN parquetref08_Proper.ty, tab := lookN [(28, parquetref08_Reduce.ent N)], hint := lookN [], cut := lookN [], N := N, res := [.tmp 4, .tmp 5], rsh := [.any, .any], nb := 0, ntmps := 32, own := false }
noncomputable def parquetref08_Proper.dec (v : V) (bs : List Blk) : Option (Bool × Int) := match v, bs with
  | .tup [.c (.bool z0), .c (.int .i64 z1)], [] => some (z0, z1)
  | _, _ => none
set_option maxRecDepth 100000 in
theorem parquetref08_Proper.f_eq (N : Nat) (a1 : Int) (a2 : Int) (a3 : Int) (a4 : Int) (a5 : Int) (a6 : Int) :
    evFun (parquetref08_Proper.E N) parquetref08_Proper.body [.agg [.c (.int .i64 a1), .c (.int .i64 a2), .c (.int .i64 a3)], .agg [.c (.int .i64 a4), .c (.int .i64 a5), .c (.int .i64 a6)]] [] parquetref08_Proper.dec = parquetref08_Proper.f N a1 a2 a3 a4 a5 a6 := by kernel_rfl
noncomputable def parquetref08_Proper.ent (N : Nat) : Entry := { A := Bool × Int, fresh := 0, imm := [true, true], dec := fun args bs => match freezeL 0 (fun _ => .dead) [.recd [.any, .any, .any], .recd [.any, .any, .any]] args, bs with
  | some [.agg [.c (.int .i64 a1), .c (.int .i64 a2), .c (.int .i64 a3)], .agg [.c (.int .i64 a4), .c (.int .i64 a5), .c (.int .i64 a6)]], [] => some (parquetref08_Proper.f N a1 a2 a3 a4 a5 a6, fun r => .one (.tup [.c (.bool r.1), .c (.int .i64 r.2)]) [])
  | _, _ => none }
theorem parquetref08_Proper.env (N : Nat) : EnvOK Try.prog (parquetref08_Proper.E N) := ⟨(TyOK.cons ty2_ok (TyOK.cons ty23_ok (TyOK.cons ty33_ok TyOK.nil))), (TabOK.cons (parquetref08_Reduce.ent_ok N) TabOK.nil)⟩
theorem parquetref08_Proper.res_eq (N : Nat) : (parquetref08_Proper.E N).res = Try.f15.results.toList := by kernel_rfl
theorem parquetref08_Proper.spec (N : Nat) (a1 : Int) (a2 : Int) (a3 : Int) (a4 : Int) (a5 : Int) (a6 : Int) (r : Bool × Int) (h : parquetref08_Proper.f N a1 a2 a3 a4 a5 a6 = some r) : FnSpec Try.prog 15 [.agg [.c (.int .i64 a1), .c (.int .i64 a2), .c (.int .i64 a3)], .agg [.c (.int .i64 a4), .c (.int .i64 a5), .c (.int .i64 a6)]] [] (.tup [.c (.bool r.1), .c (.int .i64 r.2)]) ([]) := by
  rw [← parquetref08_Proper.f_eq] at h
  obtain ⟨v, bs', h1, h2⟩ := evFun_ok (parquetref08_Proper.env N) Try_mixed Try.func15 (by kernel_rfl : Try.f15.body = some parquetref08_Proper.body) (by kernel_rfl) (parquetref08_Proper.res_eq N) (by kernel_rfl) (by kernel_rfl) (Nat.le_of_ble_eq_true (by kernel_rfl)) (AllCut.of (l := []) (by kernel_rfl) AllCut.nil) h
  unfold parquetref08_Proper.dec at h1; split at h1
  · cases h1; exact h2
  · cases h1
theorem parquetref08_Proper.ent_ok (N : Nat) : TabOK1 Try.prog 15 (parquetref08_Proper.ent N) := by
  intro args bs a enc h
  simp only [parquetref08_Proper.ent] at h
  split at h
  · rename_i hz; have h0 := Option.some.inj h; have h1 := congrArg Prod.fst h0; have h2 := congrArg Prod.snd h0; dsimp only at h1 h2; subst h2; exact FnSpec.of_freeze hz (parquetref08_Proper.spec N _ _ _ _ _ _ a h1)
  · cases h
/-! parquet/parquetref08.Root: function 30 -/
noncomputable def parquetref08_Root.l3 {R : Type} (N : Nat) : Nat → Int → Int → Int → (Int → Option R) → Option R
  | 0, _, _, _, _ => none
  | n + 1, x2, x3, x4, k0 =>
    bif decide (x4 ≥ 0) then
      bif decide (0 ≤ x4) then
        bif decide ((wi64 ((wi64 (x3 + (wi64 (1 * 2 ^ (min x4.toNat 64))))) * (wi64 (x3 + (wi64 (1 * 2 ^ (min x4.toNat 64))))))) ≤ x2) then
          bif decide ((wi64 (x3 + (wi64 (1 * 2 ^ (min x4.toNat 64))))) < 2147483648) then
            parquetref08_Root.l3 N n x2 (wi64 (x3 + (wi64 (1 * 2 ^ (min x4.toNat 64))))) (wi64 (x4 - 1)) k0
          else
          parquetref08_Root.l3 N n x2 x3 (wi64 (x4 - 1)) k0
        else
        parquetref08_Root.l3 N n x2 x3 (wi64 (x4 - 1)) k0
      else none
    else
    k0 x3
noncomputable def parquetref08_Root.f (N : Nat) (a1 : Int) : Option (Int) :=
  parquetref08_Root.l3 N N a1 0 31
    (fun y6 =>
      some y6)
noncomputable def parquetref08_Root.body : Code := (Try.f30.body).getD .skip
noncomputable def parquetref08_Root.ty : List (Nat × TI) := []
noncomputable def parquetref08_Root.h3 : Hint := ⟨[(0, .any), (3, .any), (4, .any)], [(3, .any)]⟩
noncomputable def parquetref08_Root.c3 (N : Nat) : Cut := ⟨fun vs H k => match vs, H with
  | [.c (.int .i64 x2), .c (.int .i64 x3), .c (.int .i64 x4)], [] => parquetref08_Root.l3 N N x2 x3 x4 (fun x5 => k (.exit 0) ⟨mkT parquetref08_Root.h3.out [.c (.int .i64 x5)], []⟩)
  | _, _ => none⟩
noncomputable def parquetref08_Root.E (N : Nat) : Env := { ty := lookN parquetref08_Root.ty, tab := lookN [], hint := lookN [(3, parquetref08_Root.h3)], cut := lookN [(3, parquetref08_Root.c3 N)], N := N, res := [.tmp 2], rsh := [.any], nb := 0, ntmps := 25, own := false }
noncomputable def parquetref08_Root.b3 : Code := inner ((subLoops parquetref08_Root.body).getD 0 .skip)
set_option maxRecDepth 100000 in
theorem parquetref08_Root.l3_eq {R : Type} (N n : Nat) (x2 : Int) (x3 : Int) (x4 : Int) (k : Ex → St → Option R) :
    evLoop 0 parquetref08_Root.h3 (fun s k => evCode (parquetref08_Root.E N) 394 parquetref08_Root.b3 s k) n [.c (.int .i64 x2), .c (.int .i64 x3), .c (.int .i64 x4)] [] k = parquetref08_Root.l3 N n x2 x3 x4 (fun x5 => k (.exit 0) ⟨mkT parquetref08_Root.h3.out [.c (.int .i64 x5)], []⟩) := by
  induction n generalizing x2 x3 x4 with
  | zero => kernel_rfl
  | succ n ih =>
    simp only [parquetref08_Root.l3, ← ih]
    kernel_rfl
noncomputable def parquetref08_Root.dec (v : V) (bs : List Blk) : Option (Int) := match v, bs with
  | .c (.int .i64 z0), [] => some z0
  | _, _ => none
set_option maxRecDepth 100000 in
theorem parquetref08_Root.f_eq (N : Nat) (a1 : Int) :
    evFun (parquetref08_Root.E N) parquetref08_Root.body [.c (.int .i64 a1)] [] parquetref08_Root.dec = parquetref08_Root.f N a1 := by kernel_rfl
noncomputable def parquetref08_Root.ent (N : Nat) : Entry := { A := Int, fresh := 0, imm := [true], dec := fun args bs => match freezeL 0 (fun _ => .dead) [.any] args, bs with
  | some [.c (.int .i64 a1)], [] => some (parquetref08_Root.f N a1, fun r => .one (.c (.int .i64 r)) [])
  | _, _ => none }
theorem parquetref08_Root.env (N : Nat) : EnvOK Try.prog (parquetref08_Root.E N) := ⟨TyOK.nil, TabOK.nil⟩
theorem parquetref08_Root.res_eq (N : Nat) : (parquetref08_Root.E N).res = Try.f30.results.toList := by kernel_rfl
theorem parquetref08_Root.k3 (N : Nat) : CutOK Try.prog Try.f30 (parquetref08_Root.E N) (.loop parquetref08_Root.b3) := by
  intro e hd he hh R vs H k r h
  have e1 : (parquetref08_Root.E N).cut (loopKey parquetref08_Root.b3) = some (parquetref08_Root.c3 N) := by kernel_rfl
  have e2 : (parquetref08_Root.E N).hint (loopKey parquetref08_Root.b3) = some parquetref08_Root.h3 := by kernel_rfl
  rw [e1] at he; rw [e2] at hh; cases he; cases hh
  unfold parquetref08_Root.c3 at h; dsimp only at h
  split at h
  · rw [← parquetref08_Root.l3_eq] at h
    exact loop_ok (evCode_ok (parquetref08_Root.env N) Try_mixed (parquetref08_Root.res_eq N) 394 parquetref08_Root.b3 (AllCut.of (l := []) (by kernel_rfl) AllCut.nil)) h
  · cases h
theorem parquetref08_Root.spec (N : Nat) (a1 : Int) (r : Int) (h : parquetref08_Root.f N a1 = some r) : FnSpec Try.prog 30 [.c (.int .i64 a1)] [] (.c (.int .i64 r)) ([]) := by
  rw [← parquetref08_Root.f_eq] at h
  obtain ⟨v, bs', h1, h2⟩ := evFun_ok (parquetref08_Root.env N) Try_mixed Try.func30 (by kernel_rfl : Try.f30.body = some parquetref08_Root.body) (by kernel_rfl) (parquetref08_Root.res_eq N) (by kernel_rfl) (by kernel_rfl) (Nat.le_of_ble_eq_true (by kernel_rfl)) (AllCut.of (l := [(.loop (inner ((subLoops parquetref08_Root.body).getD 0 .skip)))]) (by kernel_rfl) (AllCut.cons (parquetref08_Root.k3 N) AllCut.nil)) h
  unfold parquetref08_Root.dec at h1; split at h1
  · cases h1; exact h2
  · cases h1
theorem parquetref08_Root.ent_ok (N : Nat) : TabOK1 Try.prog 30 (parquetref08_Root.ent N) := by
  intro args bs a enc h
  simp only [parquetref08_Root.ent] at h
  split at h
  · rename_i hz; have h0 := Option.some.inj h; have h1 := congrArg Prod.fst h0; have h2 := congrArg Prod.snd h0; dsimp only at h1 h2; subst h2; exact FnSpec.of_freeze hz (parquetref08_Root.spec N _ a h1)
  · cases h
/-! parquet/parquetref08.Represents: function 12 -/
noncomputable def parquetref08_Represents.l14 {R : Type} (N : Nat) : Nat → Int → Int → Int → Int → Int → Int → Int → Int → Int → Int → Int → Int → List Int → (Int → Int → Int → Int → Int → Int → Int → Int → Int → Int → Option R) → (Int → Int → Int → Option R) → Option R
  | 0, _, _, _, _, _, _, _, _, _, _, _, _, _, _, _ => none
  | n + 1, x18, x19, x20, x21, x22, x23, x24, x25, x26, x27, x28, x29, x30, k2, kr =>
    bif decide (x22 < x21) then
      bif (decide (0 ≤ x22)) && (decide (x22 < (x30.length : Int))) then
        bif !((wi64 (2 * x23)) == 0) then
          bif (Int.tmod (x30.getD x22.toNat 0) (wi64 (2 * x23))) == 0 then
            bif !((wi64 (2 * x23)) == 0) then
              kr (wi64 ((wi64 (x26 * (wi64 (Int.tdiv (x30.getD x22.toNat 0) (wi64 (2 * x23)))))) + (wi64 (x27 * x20)))) (wi64 ((wi64 (x28 * (wi64 (Int.tdiv (x30.getD x22.toNat 0) (wi64 (2 * x23)))))) + (wi64 (x29 * x20)))) 0
            else none
          else
          parquetref08_Represents.l14 N n x18 x19 x20 x21 (wi64 (x22 + 1)) x23 x24 x25 x26 x27 x28 x29 x30 k2 kr
        else none
      else none
    else
    k2 x18 x19 x20 x23 x24 x25 x26 x27 x28 x29
noncomputable def parquetref08_Represents.l8 {R : Type} (N : Nat) : Nat → Int → Int → Int → Int → Int → Int → Int → Int → Int → Int → (Unit → Option R) → (Int → Int → Int → Option R) → Option R
  | 0, _, _, _, _, _, _, _, _, _, _, _, _ => none
  | n + 1, x7, x8, x9, x10, x11, x12, x13, x14, x15, x16, k0, kr =>
    bif decide ((wi64 ((wi64 ((wi64 (x8 * x9)) * x9)) + (wi64 ((wi64 (4 * x10)) * x7)))) ≥ 0) then
      (parquetref08_Root.f N (wi64 ((wi64 ((wi64 (x8 * x9)) * x9)) + (wi64 ((wi64 (4 * x10)) * x7))))).bind fun r17 =>
      bif (wi64 (r17 * r17)) != (wi64 ((wi64 ((wi64 (x8 * x9)) * x9)) + (wi64 ((wi64 (4 * x10)) * x7)))) then
        parquetref08_Represents.l8 N n x7 x8 (wi64 (x9 + 1)) x10 x11 x12 x13 x14 x15 x16 k0 kr
      else
      parquetref08_Represents.l14 N N x7 x8 x9 2 0 x10 x11 x12 x13 x14 x15 x16 [wi64 (r17 - (wi64 (x11 * x9))), wi64 ((wi64 (0 - r17)) - (wi64 (x11 * x9)))]
        (fun y44 y45 y46 y47 y48 y49 y50 y51 y52 y53 =>
          parquetref08_Represents.l8 N n y44 y45 (wi64 (y46 + 1)) y47 y48 y49 y50 y51 y52 y53 k0 kr)
        (fun y54 y55 y56 =>
          kr y54 y55 y56)
    else
    k0 ()
noncomputable def parquetref08_Represents.f (N : Nat) (a1 : Int) (a2 : Int) (a3 : Int) (a4 : Int) : Option (Int × Int × Int) :=
  (parquetref08_Reduce.f N a1 a2 a3).bind fun r5 =>
  bif r5.2.2.2.2.2.2.2 != 0 then
    some (0, 0, r5.2.2.2.2.2.2.2)
  else
  bif decide (a4 < 1) then
    some (0, 0, 2)
  else
  bif decide (a4 > 1073741824) then
    some (0, 0, 2)
  else
  (parquetref08_Disc.f N r5.1 r5.2.1 r5.2.2.1).bind fun r6 =>
  parquetref08_Represents.l8 N N a4 r6 0 r5.1 r5.2.1 r5.2.2.1 r5.2.2.2.1 r5.2.2.2.2.1 r5.2.2.2.2.2.1 r5.2.2.2.2.2.2.1
    (fun (_ : Unit) =>
      some (0, 0, 41))
    (fun y60 y61 y62 =>
      some (y60, y61, y62))
noncomputable def parquetref08_Represents.body : Code := (Try.f12.body).getD .skip
noncomputable def parquetref08_Represents.ty : List (Nat × TI) := [(2, ty2), (23, ty23), (33, ty33), (52, ty52)]
noncomputable def parquetref08_Represents.h8 : Hint := ⟨[(1, .any), (7, .box [.any, .any, .any]), (8, .box [.any, .any, .any, .any]), (10, .any), (11, .any)], []⟩
noncomputable def parquetref08_Represents.h14 : Hint := ⟨[(1, .any), (7, .box [.any, .any, .any]), (8, .box [.any, .any, .any, .any]), (10, .any), (11, .any), (79, .row .i64 1), (80, .any), (81, .any)], [(1, .any), (7, .box [.any, .any, .any]), (8, .box [.any, .any, .any, .any]), (10, .any), (11, .any)]⟩
noncomputable def parquetref08_Represents.c14 (N : Nat) : Cut := ⟨fun vs H k => match vs, H with
  | [.c (.int .i64 x18), .ptr 0 0 3, .ptr 1 0 4, .c (.int .i64 x19), .c (.int .i64 x20), .sw 2 1, .c (.int .i64 x21), .c (.int .i64 x22)], [.vals [.c (.int .i64 x23), .c (.int .i64 x24), .c (.int .i64 x25)], .vals [.c (.int .i64 x26), .c (.int .i64 x27), .c (.int .i64 x28), .c (.int .i64 x29)], .ints .i64 x30] => parquetref08_Represents.l14 N N x18 x19 x20 x21 x22 x23 x24 x25 x26 x27 x28 x29 x30 (fun x34 x35 x36 x37 x38 x39 x40 x41 x42 x43 => k (.exit 2) ⟨mkT parquetref08_Represents.h14.out [.c (.int .i64 x34), .ptr 0 0 3, .ptr 1 0 4, .c (.int .i64 x35), .c (.int .i64 x36)], [.vals [.c (.int .i64 x37), .c (.int .i64 x38), .c (.int .i64 x39)], .vals [.c (.int .i64 x40), .c (.int .i64 x41), .c (.int .i64 x42), .c (.int .i64 x43)]]⟩) (fun x31 x32 x33 => k (.ret (.tup [.c (.int .i64 x31), .c (.int .i64 x32), .c (.int .i64 x33)]) []) .nil)
  | _, _ => none⟩
noncomputable def parquetref08_Represents.c8 (N : Nat) : Cut := ⟨fun vs H k => match vs, H with
  | [.c (.int .i64 x7), .ptr 0 0 3, .ptr 1 0 4, .c (.int .i64 x8), .c (.int .i64 x9)], [.vals [.c (.int .i64 x10), .c (.int .i64 x11), .c (.int .i64 x12)], .vals [.c (.int .i64 x13), .c (.int .i64 x14), .c (.int .i64 x15), .c (.int .i64 x16)]] => parquetref08_Represents.l8 N N x7 x8 x9 x10 x11 x12 x13 x14 x15 x16 (fun (_ : Unit) => k (.exit 0) ⟨mkT parquetref08_Represents.h8.out [], []⟩) (fun x57 x58 x59 => k (.ret (.tup [.c (.int .i64 x57), .c (.int .i64 x58), .c (.int .i64 x59)]) []) .nil)
  | _, _ => none⟩
noncomputable def parquetref08_Represents.E (N : Nat) : Env := { ty := lookN parquetref08_Represents.ty, tab := lookN [(28, parquetref08_Reduce.ent N), (23, parquetref08_Disc.ent N), (30, parquetref08_Root.ent N)], hint := lookN [(8, parquetref08_Represents.h8), (14, parquetref08_Represents.h14)], cut := lookN [(14, parquetref08_Represents.c14 N), (8, parquetref08_Represents.c8 N)], N := N, res := [.tmp 4, .tmp 5, .tmp 6], rsh := [.any, .any, .any], nb := 0, ntmps := 115, own := false }
noncomputable def parquetref08_Represents.b14 : Code := inner ((subLoops parquetref08_Represents.body).getD 1 .skip)
set_option maxRecDepth 100000 in
theorem parquetref08_Represents.l14_eq {R : Type} (N n : Nat) (x18 : Int) (x19 : Int) (x20 : Int) (x21 : Int) (x22 : Int) (x23 : Int) (x24 : Int) (x25 : Int) (x26 : Int) (x27 : Int) (x28 : Int) (x29 : Int) (x30 : List Int) (k : Ex → St → Option R) :
    evLoop 0 parquetref08_Represents.h14 (fun s k => evCode (parquetref08_Represents.E N) 382 parquetref08_Represents.b14 s k) n [.c (.int .i64 x18), .ptr 0 0 3, .ptr 1 0 4, .c (.int .i64 x19), .c (.int .i64 x20), .sw 2 1, .c (.int .i64 x21), .c (.int .i64 x22)] [.vals [.c (.int .i64 x23), .c (.int .i64 x24), .c (.int .i64 x25)], .vals [.c (.int .i64 x26), .c (.int .i64 x27), .c (.int .i64 x28), .c (.int .i64 x29)], .ints .i64 x30] k = parquetref08_Represents.l14 N n x18 x19 x20 x21 x22 x23 x24 x25 x26 x27 x28 x29 x30 (fun x34 x35 x36 x37 x38 x39 x40 x41 x42 x43 => k (.exit 2) ⟨mkT parquetref08_Represents.h14.out [.c (.int .i64 x34), .ptr 0 0 3, .ptr 1 0 4, .c (.int .i64 x35), .c (.int .i64 x36)], [.vals [.c (.int .i64 x37), .c (.int .i64 x38), .c (.int .i64 x39)], .vals [.c (.int .i64 x40), .c (.int .i64 x41), .c (.int .i64 x42), .c (.int .i64 x43)]]⟩) (fun x31 x32 x33 => k (.ret (.tup [.c (.int .i64 x31), .c (.int .i64 x32), .c (.int .i64 x33)]) []) .nil) := by
  induction n generalizing x18 x19 x20 x21 x22 x23 x24 x25 x26 x27 x28 x29 x30 with
  | zero => kernel_rfl
  | succ n ih =>
    simp only [parquetref08_Represents.l14, ← ih]
    kernel_rfl
noncomputable def parquetref08_Represents.b8 : Code := inner ((subLoops parquetref08_Represents.body).getD 0 .skip)
set_option maxRecDepth 100000 in
theorem parquetref08_Represents.l8_eq {R : Type} (N n : Nat) (x7 : Int) (x8 : Int) (x9 : Int) (x10 : Int) (x11 : Int) (x12 : Int) (x13 : Int) (x14 : Int) (x15 : Int) (x16 : Int) (k : Ex → St → Option R) :
    evLoop 0 parquetref08_Represents.h8 (fun s k => evCode (parquetref08_Represents.E N) 391 parquetref08_Represents.b8 s k) n [.c (.int .i64 x7), .ptr 0 0 3, .ptr 1 0 4, .c (.int .i64 x8), .c (.int .i64 x9)] [.vals [.c (.int .i64 x10), .c (.int .i64 x11), .c (.int .i64 x12)], .vals [.c (.int .i64 x13), .c (.int .i64 x14), .c (.int .i64 x15), .c (.int .i64 x16)]] k = parquetref08_Represents.l8 N n x7 x8 x9 x10 x11 x12 x13 x14 x15 x16 (fun (_ : Unit) => k (.exit 0) ⟨mkT parquetref08_Represents.h8.out [], []⟩) (fun x57 x58 x59 => k (.ret (.tup [.c (.int .i64 x57), .c (.int .i64 x58), .c (.int .i64 x59)]) []) .nil) := by
  induction n generalizing x7 x8 x9 x10 x11 x12 x13 x14 x15 x16 with
  | zero => kernel_rfl
  | succ n ih =>
    simp only [parquetref08_Represents.l8, ← ih]
    kernel_rfl
noncomputable def parquetref08_Represents.dec (v : V) (bs : List Blk) : Option (Int × Int × Int) := match v, bs with
  | .tup [.c (.int .i64 z0), .c (.int .i64 z1), .c (.int .i64 z2)], [] => some (z0, z1, z2)
  | _, _ => none
set_option maxRecDepth 100000 in
theorem parquetref08_Represents.f_eq (N : Nat) (a1 : Int) (a2 : Int) (a3 : Int) (a4 : Int) :
    evFun (parquetref08_Represents.E N) parquetref08_Represents.body [.agg [.c (.int .i64 a1), .c (.int .i64 a2), .c (.int .i64 a3)], .c (.int .i64 a4)] [] parquetref08_Represents.dec = parquetref08_Represents.f N a1 a2 a3 a4 := by kernel_rfl
noncomputable def parquetref08_Represents.ent (N : Nat) : Entry := { A := Int × Int × Int, fresh := 0, imm := [true, true], dec := fun args bs => match freezeL 0 (fun _ => .dead) [.recd [.any, .any, .any], .any] args, bs with
  | some [.agg [.c (.int .i64 a1), .c (.int .i64 a2), .c (.int .i64 a3)], .c (.int .i64 a4)], [] => some (parquetref08_Represents.f N a1 a2 a3 a4, fun r => .one (.tup [.c (.int .i64 r.1), .c (.int .i64 r.2.1), .c (.int .i64 r.2.2)]) [])
  | _, _ => none }
theorem parquetref08_Represents.env (N : Nat) : EnvOK Try.prog (parquetref08_Represents.E N) := ⟨(TyOK.cons ty2_ok (TyOK.cons ty23_ok (TyOK.cons ty33_ok (TyOK.cons ty52_ok TyOK.nil)))), (TabOK.cons (parquetref08_Reduce.ent_ok N) (TabOK.cons (parquetref08_Disc.ent_ok N) (TabOK.cons (parquetref08_Root.ent_ok N) TabOK.nil)))⟩
theorem parquetref08_Represents.res_eq (N : Nat) : (parquetref08_Represents.E N).res = Try.f12.results.toList := by kernel_rfl
theorem parquetref08_Represents.k14 (N : Nat) : CutOK Try.prog Try.f12 (parquetref08_Represents.E N) (.loop parquetref08_Represents.b14) := by
  intro e hd he hh R vs H k r h
  have e1 : (parquetref08_Represents.E N).cut (loopKey parquetref08_Represents.b14) = some (parquetref08_Represents.c14 N) := by kernel_rfl
  have e2 : (parquetref08_Represents.E N).hint (loopKey parquetref08_Represents.b14) = some parquetref08_Represents.h14 := by kernel_rfl
  rw [e1] at he; rw [e2] at hh; cases he; cases hh
  unfold parquetref08_Represents.c14 at h; dsimp only at h
  split at h
  · rw [← parquetref08_Represents.l14_eq] at h
    exact loop_ok (evCode_ok (parquetref08_Represents.env N) Try_mixed (parquetref08_Represents.res_eq N) 382 parquetref08_Represents.b14 (AllCut.of (l := []) (by kernel_rfl) AllCut.nil)) h
  · cases h
theorem parquetref08_Represents.k8 (N : Nat) : CutOK Try.prog Try.f12 (parquetref08_Represents.E N) (.loop parquetref08_Represents.b8) := by
  intro e hd he hh R vs H k r h
  have e1 : (parquetref08_Represents.E N).cut (loopKey parquetref08_Represents.b8) = some (parquetref08_Represents.c8 N) := by kernel_rfl
  have e2 : (parquetref08_Represents.E N).hint (loopKey parquetref08_Represents.b8) = some parquetref08_Represents.h8 := by kernel_rfl
  rw [e1] at he; rw [e2] at hh; cases he; cases hh
  unfold parquetref08_Represents.c8 at h; dsimp only at h
  split at h
  · rw [← parquetref08_Represents.l8_eq] at h
    exact loop_ok (evCode_ok (parquetref08_Represents.env N) Try_mixed (parquetref08_Represents.res_eq N) 391 parquetref08_Represents.b8 (AllCut.of (l := [(.loop (inner ((subLoops parquetref08_Represents.body).getD 1 .skip)))]) (by kernel_rfl) (AllCut.cons (parquetref08_Represents.k14 N) AllCut.nil))) h
  · cases h
theorem parquetref08_Represents.spec (N : Nat) (a1 : Int) (a2 : Int) (a3 : Int) (a4 : Int) (r : Int × Int × Int) (h : parquetref08_Represents.f N a1 a2 a3 a4 = some r) : FnSpec Try.prog 12 [.agg [.c (.int .i64 a1), .c (.int .i64 a2), .c (.int .i64 a3)], .c (.int .i64 a4)] [] (.tup [.c (.int .i64 r.1), .c (.int .i64 r.2.1), .c (.int .i64 r.2.2)]) ([]) := by
  rw [← parquetref08_Represents.f_eq] at h
  obtain ⟨v, bs', h1, h2⟩ := evFun_ok (parquetref08_Represents.env N) Try_mixed Try.func12 (by kernel_rfl : Try.f12.body = some parquetref08_Represents.body) (by kernel_rfl) (parquetref08_Represents.res_eq N) (by kernel_rfl) (by kernel_rfl) (Nat.le_of_ble_eq_true (by kernel_rfl)) (AllCut.of (l := [(.loop (inner ((subLoops parquetref08_Represents.body).getD 0 .skip))), (.loop (inner ((subLoops parquetref08_Represents.body).getD 1 .skip)))]) (by kernel_rfl) (AllCut.cons (parquetref08_Represents.k8 N) (AllCut.cons (parquetref08_Represents.k14 N) AllCut.nil))) h
  unfold parquetref08_Represents.dec at h1; split at h1
  · cases h1; exact h2
  · cases h1
theorem parquetref08_Represents.ent_ok (N : Nat) : TabOK1 Try.prog 12 (parquetref08_Represents.ent N) := by
  intro args bs a enc h
  simp only [parquetref08_Represents.ent] at h
  split at h
  · rename_i hz; have h0 := Option.some.inj h; have h1 := congrArg Prod.fst h0; have h2 := congrArg Prod.snd h0; dsimp only at h1 h2; subst h2; exact FnSpec.of_freeze hz (parquetref08_Represents.spec N _ _ _ _ a h1)
  · cases h
/-! parquet/binary.Proper: function 14 -/
noncomputable def binary_Proper.f (N : Nat) (a1 : Int) (a2 : Int) (a3 : Int) (a4 : Int) (a5 : Int) (a6 : Int) : Option (Bool × Int) :=
  (binary_Reduce.f N a1 a2 a3).bind fun r7 =>
  bif r7.2.2.2.2.2.2.2 != 0 then
    some (false, r7.2.2.2.2.2.2.2)
  else
  (binary_Reduce.f N a4 a5 a6).bind fun r8 =>
  bif r8.2.2.2.2.2.2.2 == 0 then
    some ((r7.1 == r8.1) && ((r7.2.1 == r8.2.1) && (r7.2.2.1 == r8.2.2.1)), r8.2.2.2.2.2.2.2)
  else
  some (false, r8.2.2.2.2.2.2.2)
noncomputable def binary_Proper.body : Code := (Try.f14.body).getD .skip
noncomputable def binary_Proper.ty : List (Nat × TI) := [(2, ty2), (23, ty23), (33, ty33)]
noncomputable def binary_Proper.E (N : Nat) : Env := { ty := lookN binary_Proper.ty, tab := lookN [(20, binary_Reduce.ent N)], hint := lookN [], cut := lookN [], N := N, res := [.tmp 4, .tmp 5], rsh := [.any, .any], nb := 0, ntmps := 34, own := false }
noncomputable def binary_Proper.dec (v : V) (bs : List Blk) : Option (Bool × Int) := match v, bs with
  | .tup [.c (.bool z0), .c (.int .i64 z1)], [] => some (z0, z1)
  | _, _ => none
set_option maxRecDepth 100000 in
theorem binary_Proper.f_eq (N : Nat) (a1 : Int) (a2 : Int) (a3 : Int) (a4 : Int) (a5 : Int) (a6 : Int) :
    evFun (binary_Proper.E N) binary_Proper.body [.agg [.c (.int .i64 a1), .c (.int .i64 a2), .c (.int .i64 a3)], .agg [.c (.int .i64 a4), .c (.int .i64 a5), .c (.int .i64 a6)]] [] binary_Proper.dec = binary_Proper.f N a1 a2 a3 a4 a5 a6 := by kernel_rfl
noncomputable def binary_Proper.ent (N : Nat) : Entry := { A := Bool × Int, fresh := 0, imm := [true, true], dec := fun args bs => match freezeL 0 (fun _ => .dead) [.recd [.any, .any, .any], .recd [.any, .any, .any]] args, bs with
  | some [.agg [.c (.int .i64 a1), .c (.int .i64 a2), .c (.int .i64 a3)], .agg [.c (.int .i64 a4), .c (.int .i64 a5), .c (.int .i64 a6)]], [] => some (binary_Proper.f N a1 a2 a3 a4 a5 a6, fun r => .one (.tup [.c (.bool r.1), .c (.int .i64 r.2)]) [])
  | _, _ => none }
theorem binary_Proper.env (N : Nat) : EnvOK Try.prog (binary_Proper.E N) := ⟨(TyOK.cons ty2_ok (TyOK.cons ty23_ok (TyOK.cons ty33_ok TyOK.nil))), (TabOK.cons (binary_Reduce.ent_ok N) TabOK.nil)⟩
theorem binary_Proper.res_eq (N : Nat) : (binary_Proper.E N).res = Try.f14.results.toList := by kernel_rfl
theorem binary_Proper.spec (N : Nat) (a1 : Int) (a2 : Int) (a3 : Int) (a4 : Int) (a5 : Int) (a6 : Int) (r : Bool × Int) (h : binary_Proper.f N a1 a2 a3 a4 a5 a6 = some r) : FnSpec Try.prog 14 [.agg [.c (.int .i64 a1), .c (.int .i64 a2), .c (.int .i64 a3)], .agg [.c (.int .i64 a4), .c (.int .i64 a5), .c (.int .i64 a6)]] [] (.tup [.c (.bool r.1), .c (.int .i64 r.2)]) ([]) := by
  rw [← binary_Proper.f_eq] at h
  obtain ⟨v, bs', h1, h2⟩ := evFun_ok (binary_Proper.env N) Try_mixed Try.func14 (by kernel_rfl : Try.f14.body = some binary_Proper.body) (by kernel_rfl) (binary_Proper.res_eq N) (by kernel_rfl) (by kernel_rfl) (Nat.le_of_ble_eq_true (by kernel_rfl)) (AllCut.of (l := []) (by kernel_rfl) AllCut.nil) h
  unfold binary_Proper.dec at h1; split at h1
  · cases h1; exact h2
  · cases h1
theorem binary_Proper.ent_ok (N : Nat) : TabOK1 Try.prog 14 (binary_Proper.ent N) := by
  intro args bs a enc h
  simp only [binary_Proper.ent] at h
  split at h
  · rename_i hz; have h0 := Option.some.inj h; have h1 := congrArg Prod.fst h0; have h2 := congrArg Prod.snd h0; dsimp only at h1 h2; subst h2; exact FnSpec.of_freeze hz (binary_Proper.spec N _ _ _ _ _ _ a h1)
  · cases h
/-! parquet/binary.Reduced: function 21 -/
noncomputable def binary_Reduced.f (N : Nat) (a1 : Int) (a2 : Int) (a3 : Int) : Option (Bool) :=
  (binary_Check.f N a1 a2 a3).bind fun r4 =>
  bif r4 == 0 then
    (binary_walk_step.f N a1 a2 a3 0 0 0 0).bind fun r5 =>
    some (!r5.1)
  else
  some false
noncomputable def binary_Reduced.body : Code := (Try.f21.body).getD .skip
noncomputable def binary_Reduced.ty : List (Nat × TI) := [(23, ty23), (33, ty33), (69, ty69)]
noncomputable def binary_Reduced.E (N : Nat) : Env := { ty := lookN binary_Reduced.ty, tab := lookN [(19, binary_Check.ent N), (37, binary_walk_step.ent N)], hint := lookN [], cut := lookN [], N := N, res := [.tmp 2], rsh := [.any], nb := 0, ntmps := 13, own := false }
noncomputable def binary_Reduced.dec (v : V) (bs : List Blk) : Option (Bool) := match v, bs with
  | .c (.bool z0), [] => some z0
  | _, _ => none
set_option maxRecDepth 100000 in
theorem binary_Reduced.f_eq (N : Nat) (a1 : Int) (a2 : Int) (a3 : Int) :
    evFun (binary_Reduced.E N) binary_Reduced.body [.agg [.c (.int .i64 a1), .c (.int .i64 a2), .c (.int .i64 a3)]] [] binary_Reduced.dec = binary_Reduced.f N a1 a2 a3 := by kernel_rfl
noncomputable def binary_Reduced.ent (N : Nat) : Entry := { A := Bool, fresh := 0, imm := [true], dec := fun args bs => match freezeL 0 (fun _ => .dead) [.recd [.any, .any, .any]] args, bs with
  | some [.agg [.c (.int .i64 a1), .c (.int .i64 a2), .c (.int .i64 a3)]], [] => some (binary_Reduced.f N a1 a2 a3, fun r => .one (.c (.bool r)) [])
  | _, _ => none }
theorem binary_Reduced.env (N : Nat) : EnvOK Try.prog (binary_Reduced.E N) := ⟨(TyOK.cons ty23_ok (TyOK.cons ty33_ok (TyOK.cons ty69_ok TyOK.nil))), (TabOK.cons (binary_Check.ent_ok N) (TabOK.cons (binary_walk_step.ent_ok N) TabOK.nil))⟩
theorem binary_Reduced.res_eq (N : Nat) : (binary_Reduced.E N).res = Try.f21.results.toList := by kernel_rfl
theorem binary_Reduced.spec (N : Nat) (a1 : Int) (a2 : Int) (a3 : Int) (r : Bool) (h : binary_Reduced.f N a1 a2 a3 = some r) : FnSpec Try.prog 21 [.agg [.c (.int .i64 a1), .c (.int .i64 a2), .c (.int .i64 a3)]] [] (.c (.bool r)) ([]) := by
  rw [← binary_Reduced.f_eq] at h
  obtain ⟨v, bs', h1, h2⟩ := evFun_ok (binary_Reduced.env N) Try_mixed Try.func21 (by kernel_rfl : Try.f21.body = some binary_Reduced.body) (by kernel_rfl) (binary_Reduced.res_eq N) (by kernel_rfl) (by kernel_rfl) (Nat.le_of_ble_eq_true (by kernel_rfl)) (AllCut.of (l := []) (by kernel_rfl) AllCut.nil) h
  unfold binary_Reduced.dec at h1; split at h1
  · cases h1; exact h2
  · cases h1
theorem binary_Reduced.ent_ok (N : Nat) : TabOK1 Try.prog 21 (binary_Reduced.ent N) := by
  intro args bs a enc h
  simp only [binary_Reduced.ent] at h
  split at h
  · rename_i hz; have h0 := Option.some.inj h; have h1 := congrArg Prod.fst h0; have h2 := congrArg Prod.snd h0; dsimp only at h1 h2; subst h2; exact FnSpec.of_freeze hz (binary_Reduced.spec N _ _ _ a h1)
  · cases h
/-! parquet/parquetlaw08.turn: function 18 -/
noncomputable def parquetlaw08_turn.l3 {R : Type} (N : Nat) : Nat → Nat → List Int → List Bool → Int → Int → Int → Int → Int → Int → Int → Int → Int → (Int → Int → Int → Int → Int → Int → Int → Int → Option R) → Option R
  | 0, _, _, _, _, _, _, _, _, _, _, _, _, _ => none
  | n + 1, x4, x5, x6, x7, x8, x9, x10, x11, x12, x13, x14, x15, k0 =>
    bif decide (x7 < (x4 : Int)) then
      bif decide (x7 < 12) then
        bif (decide (0 ≤ x7)) && (decide (x7 < (x4 : Int))) then
          bif (decide (0 ≤ x7)) && (decide (x7 < (x4 : Int))) then
            bif x6.getD x7.toNat false then
              parquetlaw08_turn.l3 N n x4 x5 x6 (wi64 (x7 + 1)) x8 x9 x10 x11 (wi64 ((wi64 ((wi64 (Int.tmod (x5.getD x7.toNat 0) 4)) * x12)) + x13)) (wi64 (0 - x12)) (wi64 ((wi64 ((wi64 (Int.tmod (x5.getD x7.toNat 0) 4)) * x14)) + x15)) (wi64 (0 - x14)) k0
            else
            parquetlaw08_turn.l3 N n x4 x5 x6 (wi64 (x7 + 1)) x8 x9 x10 x11 x12 (wi64 ((wi64 ((wi64 (Int.tmod (x5.getD x7.toNat 0) 4)) * x12)) + x13)) x14 (wi64 ((wi64 ((wi64 (Int.tmod (x5.getD x7.toNat 0) 4)) * x14)) + x15)) k0
          else none
        else none
      else
      k0 x8 x9 x10 x11 x12 x13 x14 x15
    else
    k0 x8 x9 x10 x11 x12 x13 x14 x15
noncomputable def parquetlaw08_turn.f (N : Nat) (a1 : Nat) (a2 : List Int) (a3 : List Bool) : Option (Int × Int × Int × Int) :=
  parquetlaw08_turn.l3 N N a1 a2 a3 0 0 0 0 0 1 0 0 1
    (fun y24 y25 y26 y27 y28 y29 y30 y31 =>
      some (y28, y29, y30, y31))
noncomputable def parquetlaw08_turn.body : Code := (Try.f18.body).getD .skip
noncomputable def parquetlaw08_turn.ty : List (Nat × TI) := [(2, ty2), (4, ty4), (33, ty33), (37, ty37), (64, ty64), (66, ty66)]
noncomputable def parquetlaw08_turn.h3 : Hint := ⟨[(0, .any), (2, .box [.any, .any, .any, .any]), (3, .box [.any, .any, .any, .any]), (4, .any)], [(2, .box [.any, .any, .any, .any]), (3, .box [.any, .any, .any, .any])]⟩
noncomputable def parquetlaw08_turn.c3 (N : Nat) : Cut := ⟨fun vs H k => match vs, H with
  | [.iv x4 [.ints .i8 x5, .bools x6], .ptr 0 0 4, .ptr 1 0 4, .c (.int .i64 x7)], [.vals [.c (.int .i64 x8), .c (.int .i64 x9), .c (.int .i64 x10), .c (.int .i64 x11)], .vals [.c (.int .i64 x12), .c (.int .i64 x13), .c (.int .i64 x14), .c (.int .i64 x15)]] => parquetlaw08_turn.l3 N N x4 x5 x6 x7 x8 x9 x10 x11 x12 x13 x14 x15 (fun x16 x17 x18 x19 x20 x21 x22 x23 => k (.exit 0) ⟨mkT parquetlaw08_turn.h3.out [.ptr 0 0 4, .ptr 1 0 4], [.vals [.c (.int .i64 x16), .c (.int .i64 x17), .c (.int .i64 x18), .c (.int .i64 x19)], .vals [.c (.int .i64 x20), .c (.int .i64 x21), .c (.int .i64 x22), .c (.int .i64 x23)]]⟩)
  | _, _ => none⟩
noncomputable def parquetlaw08_turn.E (N : Nat) : Env := { ty := lookN parquetlaw08_turn.ty, tab := lookN [], hint := lookN [(3, parquetlaw08_turn.h3)], cut := lookN [(3, parquetlaw08_turn.c3 N)], N := N, res := [.cell 2 33], rsh := [.recd [.any, .any, .any, .any]], nb := 0, ntmps := 60, own := false }
noncomputable def parquetlaw08_turn.b3 : Code := inner ((subLoops parquetlaw08_turn.body).getD 0 .skip)
set_option maxRecDepth 100000 in
theorem parquetlaw08_turn.l3_eq {R : Type} (N n : Nat) (x4 : Nat) (x5 : List Int) (x6 : List Bool) (x7 : Int) (x8 : Int) (x9 : Int) (x10 : Int) (x11 : Int) (x12 : Int) (x13 : Int) (x14 : Int) (x15 : Int) (k : Ex → St → Option R) :
    evLoop 0 parquetlaw08_turn.h3 (fun s k => evCode (parquetlaw08_turn.E N) 394 parquetlaw08_turn.b3 s k) n [.iv x4 [.ints .i8 x5, .bools x6], .ptr 0 0 4, .ptr 1 0 4, .c (.int .i64 x7)] [.vals [.c (.int .i64 x8), .c (.int .i64 x9), .c (.int .i64 x10), .c (.int .i64 x11)], .vals [.c (.int .i64 x12), .c (.int .i64 x13), .c (.int .i64 x14), .c (.int .i64 x15)]] k = parquetlaw08_turn.l3 N n x4 x5 x6 x7 x8 x9 x10 x11 x12 x13 x14 x15 (fun x16 x17 x18 x19 x20 x21 x22 x23 => k (.exit 0) ⟨mkT parquetlaw08_turn.h3.out [.ptr 0 0 4, .ptr 1 0 4], [.vals [.c (.int .i64 x16), .c (.int .i64 x17), .c (.int .i64 x18), .c (.int .i64 x19)], .vals [.c (.int .i64 x20), .c (.int .i64 x21), .c (.int .i64 x22), .c (.int .i64 x23)]]⟩) := by
  induction n generalizing x4 x5 x6 x7 x8 x9 x10 x11 x12 x13 x14 x15 with
  | zero => kernel_rfl
  | succ n ih =>
    simp only [parquetlaw08_turn.l3, ← ih]
    kernel_rfl
noncomputable def parquetlaw08_turn.dec (v : V) (bs : List Blk) : Option (Int × Int × Int × Int) := match v, bs with
  | .agg [.c (.int .i64 z0), .c (.int .i64 z1), .c (.int .i64 z2), .c (.int .i64 z3)], [] => some (z0, z1, z2, z3)
  | _, _ => none
set_option maxRecDepth 100000 in
theorem parquetlaw08_turn.f_eq (N : Nat) (a1 : Nat) (a2 : List Int) (a3 : List Bool) :
    evFun (parquetlaw08_turn.E N) parquetlaw08_turn.body [.iv a1 [.ints .i8 a2, .bools a3]] [] parquetlaw08_turn.dec = parquetlaw08_turn.f N a1 a2 a3 := by kernel_rfl
noncomputable def parquetlaw08_turn.ent (N : Nat) : Entry := { A := Int × Int × Int × Int, fresh := 0, imm := [true], dec := fun args bs => match freezeL 0 (fun _ => .dead) [.any] args, bs with
  | some [.iv a1 [.ints .i8 a2, .bools a3]], [] => some (parquetlaw08_turn.f N a1 a2 a3, fun r => .one (.agg [.c (.int .i64 r.1), .c (.int .i64 r.2.1), .c (.int .i64 r.2.2.1), .c (.int .i64 r.2.2.2)]) [])
  | _, _ => none }
theorem parquetlaw08_turn.env (N : Nat) : EnvOK Try.prog (parquetlaw08_turn.E N) := ⟨(TyOK.cons ty2_ok (TyOK.cons ty4_ok (TyOK.cons ty33_ok (TyOK.cons ty37_ok (TyOK.cons ty64_ok (TyOK.cons ty66_ok TyOK.nil)))))), TabOK.nil⟩
theorem parquetlaw08_turn.res_eq (N : Nat) : (parquetlaw08_turn.E N).res = Try.f18.results.toList := by kernel_rfl
theorem parquetlaw08_turn.k3 (N : Nat) : CutOK Try.prog Try.f18 (parquetlaw08_turn.E N) (.loop parquetlaw08_turn.b3) := by
  intro e hd he hh R vs H k r h
  have e1 : (parquetlaw08_turn.E N).cut (loopKey parquetlaw08_turn.b3) = some (parquetlaw08_turn.c3 N) := by kernel_rfl
  have e2 : (parquetlaw08_turn.E N).hint (loopKey parquetlaw08_turn.b3) = some parquetlaw08_turn.h3 := by kernel_rfl
  rw [e1] at he; rw [e2] at hh; cases he; cases hh
  unfold parquetlaw08_turn.c3 at h; dsimp only at h
  split at h
  · rw [← parquetlaw08_turn.l3_eq] at h
    exact loop_ok (evCode_ok (parquetlaw08_turn.env N) Try_mixed (parquetlaw08_turn.res_eq N) 394 parquetlaw08_turn.b3 (AllCut.of (l := []) (by kernel_rfl) AllCut.nil)) h
  · cases h
theorem parquetlaw08_turn.spec (N : Nat) (a1 : Nat) (a2 : List Int) (a3 : List Bool) (r : Int × Int × Int × Int) (h : parquetlaw08_turn.f N a1 a2 a3 = some r) : FnSpec Try.prog 18 [.iv a1 [.ints .i8 a2, .bools a3]] [] (.agg [.c (.int .i64 r.1), .c (.int .i64 r.2.1), .c (.int .i64 r.2.2.1), .c (.int .i64 r.2.2.2)]) ([]) := by
  rw [← parquetlaw08_turn.f_eq] at h
  obtain ⟨v, bs', h1, h2⟩ := evFun_ok (parquetlaw08_turn.env N) Try_mixed Try.func18 (by kernel_rfl : Try.f18.body = some parquetlaw08_turn.body) (by kernel_rfl) (parquetlaw08_turn.res_eq N) (by kernel_rfl) (by kernel_rfl) (Nat.le_of_ble_eq_true (by kernel_rfl)) (AllCut.of (l := [(.loop (inner ((subLoops parquetlaw08_turn.body).getD 0 .skip)))]) (by kernel_rfl) (AllCut.cons (parquetlaw08_turn.k3 N) AllCut.nil)) h
  unfold parquetlaw08_turn.dec at h1; split at h1
  · cases h1; exact h2
  · cases h1
theorem parquetlaw08_turn.ent_ok (N : Nat) : TabOK1 Try.prog 18 (parquetlaw08_turn.ent N) := by
  intro args bs a enc h
  simp only [parquetlaw08_turn.ent] at h
  split at h
  · rename_i hz; have h0 := Option.some.inj h; have h1 := congrArg Prod.fst h0; have h2 := congrArg Prod.snd h0; dsimp only at h1 h2; subst h2; exact FnSpec.of_freeze hz (parquetlaw08_turn.spec N _ _ _ a h1)
  · cases h
/-! parquet/parquetlaw08.BinaryTurns: function 6 -/
noncomputable def parquetlaw08_BinaryTurns.f (N : Nat) (a1 : Int) (a2 : Int) (a3 : Int) (a4 : Nat) (a5 : List Int) (a6 : List Bool) (a7 : Nat) (a8 : List Int) (a9 : List Bool) (a10 : Int) (a11 : Int) : Option (Bool) :=
  (parquetlaw08_turn.f N a4 a5 a6).bind fun r12 =>
  (parquetlaw08_turn.f N a7 a8 a9).bind fun r13 =>
  (binary_Act.f N (Int.tmod a1 1000) (Int.tmod a2 1000) (Int.tmod a3 1000) r12.1 r12.2.1 r12.2.2.1 r12.2.2.2).bind fun r14 =>
  (binary_Act.f N r14.1 r14.2.1 r14.2.2.1 r13.1 r13.2.1 r13.2.2.1 r13.2.2.2).bind fun r15 =>
  (binary_Act.f N (Int.tmod a1 1000) (Int.tmod a2 1000) (Int.tmod a3 1000) (wi64 ((wi64 (r12.1 * r13.1)) + (wi64 (r12.2.1 * r13.2.2.1)))) (wi64 ((wi64 (r12.1 * r13.2.1)) + (wi64 (r12.2.1 * r13.2.2.2)))) (wi64 ((wi64 (r12.2.2.1 * r13.1)) + (wi64 (r12.2.2.2 * r13.2.2.1)))) (wi64 ((wi64 (r12.2.2.1 * r13.2.1)) + (wi64 (r12.2.2.2 * r13.2.2.2))))).bind fun r16 =>
  bif r14.2.2.2 != 0 then
    (parquetlaw08_wakes.f N).bind fun r17 =>
    some r17
  else
  bif r15.2.2.2 != 0 then
    (parquetlaw08_wakes.f N).bind fun r18 =>
    some r18
  else
  bif r16.2.2.2 != 0 then
    (parquetlaw08_wakes.f N).bind fun r19 =>
    some r19
  else
  bif (r15.1 == r16.1) && ((r15.2.1 == r16.2.1) && (r15.2.2.1 == r16.2.2.1)) then
    bif (wi64 ((wi64 ((wi64 ((wi64 (r14.1 * (wi64 (Int.tmod a10 100)))) * (wi64 (Int.tmod a10 100)))) + (wi64 ((wi64 (r14.2.1 * (wi64 (Int.tmod a10 100)))) * (wi64 (Int.tmod a11 100)))))) + (wi64 ((wi64 (r14.2.2.1 * (wi64 (Int.tmod a11 100)))) * (wi64 (Int.tmod a11 100)))))) == (wi64 ((wi64 ((wi64 ((wi64 ((Int.tmod a1 1000) * (wi64 ((wi64 (r12.1 * (wi64 (Int.tmod a10 100)))) + (wi64 (r12.2.1 * (wi64 (Int.tmod a11 100)))))))) * (wi64 ((wi64 (r12.1 * (wi64 (Int.tmod a10 100)))) + (wi64 (r12.2.1 * (wi64 (Int.tmod a11 100)))))))) + (wi64 ((wi64 ((Int.tmod a2 1000) * (wi64 ((wi64 (r12.1 * (wi64 (Int.tmod a10 100)))) + (wi64 (r12.2.1 * (wi64 (Int.tmod a11 100)))))))) * (wi64 ((wi64 (r12.2.2.1 * (wi64 (Int.tmod a10 100)))) + (wi64 (r12.2.2.2 * (wi64 (Int.tmod a11 100)))))))))) + (wi64 ((wi64 ((Int.tmod a3 1000) * (wi64 ((wi64 (r12.2.2.1 * (wi64 (Int.tmod a10 100)))) + (wi64 (r12.2.2.2 * (wi64 (Int.tmod a11 100)))))))) * (wi64 ((wi64 (r12.2.2.1 * (wi64 (Int.tmod a10 100)))) + (wi64 (r12.2.2.2 * (wi64 (Int.tmod a11 100)))))))))) then
      (parquetlaw08_wakes.f N).bind fun r20 =>
      some r20
    else
    some false
  else
  some false
noncomputable def parquetlaw08_BinaryTurns.body : Code := (Try.f6.body).getD .skip
noncomputable def parquetlaw08_BinaryTurns.ty : List (Nat × TI) := [(2, ty2), (23, ty23), (33, ty33), (38, ty38)]
noncomputable def parquetlaw08_BinaryTurns.E (N : Nat) : Env := { ty := lookN parquetlaw08_BinaryTurns.ty, tab := lookN [(18, parquetlaw08_turn.ent N), (16, binary_Act.ent N), (13, parquetlaw08_wakes.ent N)], hint := lookN [], cut := lookN [], N := N, res := [.tmp 10], rsh := [.any], nb := 0, ntmps := 183, own := false }
noncomputable def parquetlaw08_BinaryTurns.dec (v : V) (bs : List Blk) : Option (Bool) := match v, bs with
  | .c (.bool z0), [] => some z0
  | _, _ => none
set_option maxRecDepth 100000 in
theorem parquetlaw08_BinaryTurns.f_eq (N : Nat) (a1 : Int) (a2 : Int) (a3 : Int) (a4 : Nat) (a5 : List Int) (a6 : List Bool) (a7 : Nat) (a8 : List Int) (a9 : List Bool) (a10 : Int) (a11 : Int) :
    evFun (parquetlaw08_BinaryTurns.E N) parquetlaw08_BinaryTurns.body [.agg [.c (.int .i64 a1), .c (.int .i64 a2), .c (.int .i64 a3)], .iv a4 [.ints .i8 a5, .bools a6], .iv a7 [.ints .i8 a8, .bools a9], .c (.int .i16 a10), .c (.int .i16 a11)] [] parquetlaw08_BinaryTurns.dec = parquetlaw08_BinaryTurns.f N a1 a2 a3 a4 a5 a6 a7 a8 a9 a10 a11 := by kernel_rfl
noncomputable def parquetlaw08_BinaryTurns.ent (N : Nat) : Entry := { A := Bool, fresh := 0, imm := [true, true, true, true, true], dec := fun args bs => match freezeL 0 (fun _ => .dead) [.recd [.any, .any, .any], .any, .any, .any, .any] args, bs with
  | some [.agg [.c (.int .i64 a1), .c (.int .i64 a2), .c (.int .i64 a3)], .iv a4 [.ints .i8 a5, .bools a6], .iv a7 [.ints .i8 a8, .bools a9], .c (.int .i16 a10), .c (.int .i16 a11)], [] => some (parquetlaw08_BinaryTurns.f N a1 a2 a3 a4 a5 a6 a7 a8 a9 a10 a11, fun r => .one (.c (.bool r)) [])
  | _, _ => none }
theorem parquetlaw08_BinaryTurns.env (N : Nat) : EnvOK Try.prog (parquetlaw08_BinaryTurns.E N) := ⟨(TyOK.cons ty2_ok (TyOK.cons ty23_ok (TyOK.cons ty33_ok (TyOK.cons ty38_ok TyOK.nil)))), (TabOK.cons (parquetlaw08_turn.ent_ok N) (TabOK.cons (binary_Act.ent_ok N) (TabOK.cons (parquetlaw08_wakes.ent_ok N) TabOK.nil)))⟩
theorem parquetlaw08_BinaryTurns.res_eq (N : Nat) : (parquetlaw08_BinaryTurns.E N).res = Try.f6.results.toList := by kernel_rfl
theorem parquetlaw08_BinaryTurns.spec (N : Nat) (a1 : Int) (a2 : Int) (a3 : Int) (a4 : Nat) (a5 : List Int) (a6 : List Bool) (a7 : Nat) (a8 : List Int) (a9 : List Bool) (a10 : Int) (a11 : Int) (r : Bool) (h : parquetlaw08_BinaryTurns.f N a1 a2 a3 a4 a5 a6 a7 a8 a9 a10 a11 = some r) : FnSpec Try.prog 6 [.agg [.c (.int .i64 a1), .c (.int .i64 a2), .c (.int .i64 a3)], .iv a4 [.ints .i8 a5, .bools a6], .iv a7 [.ints .i8 a8, .bools a9], .c (.int .i16 a10), .c (.int .i16 a11)] [] (.c (.bool r)) ([]) := by
  rw [← parquetlaw08_BinaryTurns.f_eq] at h
  obtain ⟨v, bs', h1, h2⟩ := evFun_ok (parquetlaw08_BinaryTurns.env N) Try_mixed Try.func6 (by kernel_rfl : Try.f6.body = some parquetlaw08_BinaryTurns.body) (by kernel_rfl) (parquetlaw08_BinaryTurns.res_eq N) (by kernel_rfl) (by kernel_rfl) (Nat.le_of_ble_eq_true (by kernel_rfl)) (AllCut.of (l := []) (by kernel_rfl) AllCut.nil) h
  unfold parquetlaw08_BinaryTurns.dec at h1; split at h1
  · cases h1; exact h2
  · cases h1
theorem parquetlaw08_BinaryTurns.ent_ok (N : Nat) : TabOK1 Try.prog 6 (parquetlaw08_BinaryTurns.ent N) := by
  intro args bs a enc h
  simp only [parquetlaw08_BinaryTurns.ent] at h
  split at h
  · rename_i hz; have h0 := Option.some.inj h; have h1 := congrArg Prod.fst h0; have h2 := congrArg Prod.snd h0; dsimp only at h1 h2; subst h2; exact FnSpec.of_freeze hz (parquetlaw08_BinaryTurns.spec N _ _ _ _ _ _ _ _ _ _ _ a h1)
  · cases h
/-! parquet/parquetlaw08.BinaryTells: function 7 -/
noncomputable def parquetlaw08_BinaryTells.f (N : Nat) (a1 : Int) (a2 : Int) (a3 : Int) (a4 : Int) (a5 : Int) (a6 : Int) (a7 : Nat) (a8 : List Int) (a9 : List Bool) : Option (Bool) :=
  (binary_Check.f N (Int.tmod a1 1000) (Int.tmod a2 1000) (Int.tmod a3 1000)).bind fun r10 =>
  bif r10 != 0 then
    (parquetlaw08_wakes.f N).bind fun r11 =>
    some r11
  else
  bif decide ((wi64 ((wi64 ((wi64 ((wi64 ((Int.tmod a1 1000) * (wi64 (Int.tmod a4 100)))) * (wi64 (Int.tmod a4 100)))) + (wi64 ((wi64 ((Int.tmod a2 1000) * (wi64 (Int.tmod a4 100)))) * (wi64 (Int.tmod a5 100)))))) + (wi64 ((wi64 ((Int.tmod a3 1000) * (wi64 (Int.tmod a5 100)))) * (wi64 (Int.tmod a5 100)))))) > 0) then
    (binary_Represents.f N (Int.tmod a1 1000) (Int.tmod a2 1000) (Int.tmod a3 1000) (wi64 ((wi64 ((wi64 ((wi64 ((Int.tmod a1 1000) * (wi64 (Int.tmod a4 100)))) * (wi64 (Int.tmod a4 100)))) + (wi64 ((wi64 ((Int.tmod a2 1000) * (wi64 (Int.tmod a4 100)))) * (wi64 (Int.tmod a5 100)))))) + (wi64 ((wi64 ((Int.tmod a3 1000) * (wi64 (Int.tmod a5 100)))) * (wi64 (Int.tmod a5 100))))))).bind fun r12 =>
    bif r12.2.2 != 0 then
      some false
    else
    bif (wi64 ((wi64 ((wi64 ((wi64 ((Int.tmod a1 1000) * r12.1)) * r12.1)) + (wi64 ((wi64 ((Int.tmod a2 1000) * r12.1)) * r12.2.1)))) + (wi64 ((wi64 ((Int.tmod a3 1000) * r12.2.1)) * r12.2.1)))) != (wi64 ((wi64 ((wi64 ((wi64 ((Int.tmod a1 1000) * (wi64 (Int.tmod a4 100)))) * (wi64 (Int.tmod a4 100)))) + (wi64 ((wi64 ((Int.tmod a2 1000) * (wi64 (Int.tmod a4 100)))) * (wi64 (Int.tmod a5 100)))))) + (wi64 ((wi64 ((Int.tmod a3 1000) * (wi64 (Int.tmod a5 100)))) * (wi64 (Int.tmod a5 100)))))) then
      some false
    else
    (binary_Represents.f N (Int.tmod a1 1000) (Int.tmod a2 1000) (Int.tmod a3 1000) (wi64 ((Int.tmod (wi64 ((Int.tmod a6 100000) + 100000)) 100000) + 1))).bind fun r13 =>
    bif r13.2.2 == 0 then
      bif (wi64 ((wi64 ((wi64 ((wi64 ((Int.tmod a1 1000) * r13.1)) * r13.1)) + (wi64 ((wi64 ((Int.tmod a2 1000) * r13.1)) * r13.2.1)))) + (wi64 ((wi64 ((Int.tmod a3 1000) * r13.2.1)) * r13.2.1)))) != (wi64 ((Int.tmod (wi64 ((Int.tmod a6 100000) + 100000)) 100000) + 1)) then
        some false
      else
      bif r13.2.2 != 0 then
        bif r13.2.2 != 41 then
          some false
        else
        (parquetlaw08_turn.f N a7 a8 a9).bind fun r14 =>
        (binary_Act.f N (Int.tmod a1 1000) (Int.tmod a2 1000) (Int.tmod a3 1000) r14.1 r14.2.1 r14.2.2.1 r14.2.2.2).bind fun r15 =>
        bif r15.2.2.2 != 0 then
          (parquetlaw08_wakes.f N).bind fun r16 =>
          some r16
        else
        (binary_Represents.f N r15.1 r15.2.1 r15.2.2.1 (wi64 ((Int.tmod (wi64 ((Int.tmod a6 100000) + 100000)) 100000) + 1))).bind fun r17 =>
        bif r17.2.2 == r13.2.2 then
          (parquetlaw08_wakes.f N).bind fun r18 =>
          some r18
        else
        some false
      else
      (parquetlaw08_turn.f N a7 a8 a9).bind fun r19 =>
      (binary_Act.f N (Int.tmod a1 1000) (Int.tmod a2 1000) (Int.tmod a3 1000) r19.1 r19.2.1 r19.2.2.1 r19.2.2.2).bind fun r20 =>
      bif r20.2.2.2 != 0 then
        (parquetlaw08_wakes.f N).bind fun r21 =>
        some r21
      else
      (binary_Represents.f N r20.1 r20.2.1 r20.2.2.1 (wi64 ((Int.tmod (wi64 ((Int.tmod a6 100000) + 100000)) 100000) + 1))).bind fun r22 =>
      bif r22.2.2 == r13.2.2 then
        (parquetlaw08_wakes.f N).bind fun r23 =>
        some r23
      else
      some false
    else
    bif r13.2.2 != 0 then
      bif r13.2.2 != 41 then
        some false
      else
      (parquetlaw08_turn.f N a7 a8 a9).bind fun r24 =>
      (binary_Act.f N (Int.tmod a1 1000) (Int.tmod a2 1000) (Int.tmod a3 1000) r24.1 r24.2.1 r24.2.2.1 r24.2.2.2).bind fun r25 =>
      bif r25.2.2.2 != 0 then
        (parquetlaw08_wakes.f N).bind fun r26 =>
        some r26
      else
      (binary_Represents.f N r25.1 r25.2.1 r25.2.2.1 (wi64 ((Int.tmod (wi64 ((Int.tmod a6 100000) + 100000)) 100000) + 1))).bind fun r27 =>
      bif r27.2.2 == r13.2.2 then
        (parquetlaw08_wakes.f N).bind fun r28 =>
        some r28
      else
      some false
    else
    (parquetlaw08_turn.f N a7 a8 a9).bind fun r29 =>
    (binary_Act.f N (Int.tmod a1 1000) (Int.tmod a2 1000) (Int.tmod a3 1000) r29.1 r29.2.1 r29.2.2.1 r29.2.2.2).bind fun r30 =>
    bif r30.2.2.2 != 0 then
      (parquetlaw08_wakes.f N).bind fun r31 =>
      some r31
    else
    (binary_Represents.f N r30.1 r30.2.1 r30.2.2.1 (wi64 ((Int.tmod (wi64 ((Int.tmod a6 100000) + 100000)) 100000) + 1))).bind fun r32 =>
    bif r32.2.2 == r13.2.2 then
      (parquetlaw08_wakes.f N).bind fun r33 =>
      some r33
    else
    some false
  else
  (binary_Represents.f N (Int.tmod a1 1000) (Int.tmod a2 1000) (Int.tmod a3 1000) (wi64 ((Int.tmod (wi64 ((Int.tmod a6 100000) + 100000)) 100000) + 1))).bind fun r34 =>
  bif r34.2.2 == 0 then
    bif (wi64 ((wi64 ((wi64 ((wi64 ((Int.tmod a1 1000) * r34.1)) * r34.1)) + (wi64 ((wi64 ((Int.tmod a2 1000) * r34.1)) * r34.2.1)))) + (wi64 ((wi64 ((Int.tmod a3 1000) * r34.2.1)) * r34.2.1)))) != (wi64 ((Int.tmod (wi64 ((Int.tmod a6 100000) + 100000)) 100000) + 1)) then
      some false
    else
    bif r34.2.2 != 0 then
      bif r34.2.2 != 41 then
        some false
      else
      (parquetlaw08_turn.f N a7 a8 a9).bind fun r35 =>
      (binary_Act.f N (Int.tmod a1 1000) (Int.tmod a2 1000) (Int.tmod a3 1000) r35.1 r35.2.1 r35.2.2.1 r35.2.2.2).bind fun r36 =>
      bif r36.2.2.2 != 0 then
        (parquetlaw08_wakes.f N).bind fun r37 =>
        some r37
      else
      (binary_Represents.f N r36.1 r36.2.1 r36.2.2.1 (wi64 ((Int.tmod (wi64 ((Int.tmod a6 100000) + 100000)) 100000) + 1))).bind fun r38 =>
      bif r38.2.2 == r34.2.2 then
        (parquetlaw08_wakes.f N).bind fun r39 =>
        some r39
      else
      some false
    else
    (parquetlaw08_turn.f N a7 a8 a9).bind fun r40 =>
    (binary_Act.f N (Int.tmod a1 1000) (Int.tmod a2 1000) (Int.tmod a3 1000) r40.1 r40.2.1 r40.2.2.1 r40.2.2.2).bind fun r41 =>
    bif r41.2.2.2 != 0 then
      (parquetlaw08_wakes.f N).bind fun r42 =>
      some r42
    else
    (binary_Represents.f N r41.1 r41.2.1 r41.2.2.1 (wi64 ((Int.tmod (wi64 ((Int.tmod a6 100000) + 100000)) 100000) + 1))).bind fun r43 =>
    bif r43.2.2 == r34.2.2 then
      (parquetlaw08_wakes.f N).bind fun r44 =>
      some r44
    else
    some false
  else
  bif r34.2.2 != 0 then
    bif r34.2.2 != 41 then
      some false
    else
    (parquetlaw08_turn.f N a7 a8 a9).bind fun r45 =>
    (binary_Act.f N (Int.tmod a1 1000) (Int.tmod a2 1000) (Int.tmod a3 1000) r45.1 r45.2.1 r45.2.2.1 r45.2.2.2).bind fun r46 =>
    bif r46.2.2.2 != 0 then
      (parquetlaw08_wakes.f N).bind fun r47 =>
      some r47
    else
    (binary_Represents.f N r46.1 r46.2.1 r46.2.2.1 (wi64 ((Int.tmod (wi64 ((Int.tmod a6 100000) + 100000)) 100000) + 1))).bind fun r48 =>
    bif r48.2.2 == r34.2.2 then
      (parquetlaw08_wakes.f N).bind fun r49 =>
      some r49
    else
    some false
  else
  (parquetlaw08_turn.f N a7 a8 a9).bind fun r50 =>
  (binary_Act.f N (Int.tmod a1 1000) (Int.tmod a2 1000) (Int.tmod a3 1000) r50.1 r50.2.1 r50.2.2.1 r50.2.2.2).bind fun r51 =>
  bif r51.2.2.2 != 0 then
    (parquetlaw08_wakes.f N).bind fun r52 =>
    some r52
  else
  (binary_Represents.f N r51.1 r51.2.1 r51.2.2.1 (wi64 ((Int.tmod (wi64 ((Int.tmod a6 100000) + 100000)) 100000) + 1))).bind fun r53 =>
  bif r53.2.2 == r34.2.2 then
    (parquetlaw08_wakes.f N).bind fun r54 =>
    some r54
  else
  some false
noncomputable def parquetlaw08_BinaryTells.body : Code := (Try.f7.body).getD .skip
noncomputable def parquetlaw08_BinaryTells.ty : List (Nat × TI) := [(2, ty2), (23, ty23), (38, ty38)]
noncomputable def parquetlaw08_BinaryTells.E (N : Nat) : Env := { ty := lookN parquetlaw08_BinaryTells.ty, tab := lookN [(19, binary_Check.ent N), (13, parquetlaw08_wakes.ent N), (11, binary_Represents.ent N), (18, parquetlaw08_turn.ent N), (16, binary_Act.ent N)], hint := lookN [], cut := lookN [], N := N, res := [.tmp 10], rsh := [.any], nb := 0, ntmps := 169, own := false }
noncomputable def parquetlaw08_BinaryTells.dec (v : V) (bs : List Blk) : Option (Bool) := match v, bs with
  | .c (.bool z0), [] => some z0
  | _, _ => none
set_option maxRecDepth 100000 in
theorem parquetlaw08_BinaryTells.f_eq (N : Nat) (a1 : Int) (a2 : Int) (a3 : Int) (a4 : Int) (a5 : Int) (a6 : Int) (a7 : Nat) (a8 : List Int) (a9 : List Bool) :
    evFun (parquetlaw08_BinaryTells.E N) parquetlaw08_BinaryTells.body [.agg [.c (.int .i64 a1), .c (.int .i64 a2), .c (.int .i64 a3)], .c (.int .i16 a4), .c (.int .i16 a5), .c (.int .i64 a6), .iv a7 [.ints .i8 a8, .bools a9]] [] parquetlaw08_BinaryTells.dec = parquetlaw08_BinaryTells.f N a1 a2 a3 a4 a5 a6 a7 a8 a9 := by kernel_rfl
noncomputable def parquetlaw08_BinaryTells.ent (N : Nat) : Entry := { A := Bool, fresh := 0, imm := [true, true, true, true, true], dec := fun args bs => match freezeL 0 (fun _ => .dead) [.recd [.any, .any, .any], .any, .any, .any, .any] args, bs with
  | some [.agg [.c (.int .i64 a1), .c (.int .i64 a2), .c (.int .i64 a3)], .c (.int .i16 a4), .c (.int .i16 a5), .c (.int .i64 a6), .iv a7 [.ints .i8 a8, .bools a9]], [] => some (parquetlaw08_BinaryTells.f N a1 a2 a3 a4 a5 a6 a7 a8 a9, fun r => .one (.c (.bool r)) [])
  | _, _ => none }
theorem parquetlaw08_BinaryTells.env (N : Nat) : EnvOK Try.prog (parquetlaw08_BinaryTells.E N) := ⟨(TyOK.cons ty2_ok (TyOK.cons ty23_ok (TyOK.cons ty38_ok TyOK.nil))), (TabOK.cons (binary_Check.ent_ok N) (TabOK.cons (parquetlaw08_wakes.ent_ok N) (TabOK.cons (binary_Represents.ent_ok N) (TabOK.cons (parquetlaw08_turn.ent_ok N) (TabOK.cons (binary_Act.ent_ok N) TabOK.nil)))))⟩
theorem parquetlaw08_BinaryTells.res_eq (N : Nat) : (parquetlaw08_BinaryTells.E N).res = Try.f7.results.toList := by kernel_rfl
theorem parquetlaw08_BinaryTells.spec (N : Nat) (a1 : Int) (a2 : Int) (a3 : Int) (a4 : Int) (a5 : Int) (a6 : Int) (a7 : Nat) (a8 : List Int) (a9 : List Bool) (r : Bool) (h : parquetlaw08_BinaryTells.f N a1 a2 a3 a4 a5 a6 a7 a8 a9 = some r) : FnSpec Try.prog 7 [.agg [.c (.int .i64 a1), .c (.int .i64 a2), .c (.int .i64 a3)], .c (.int .i16 a4), .c (.int .i16 a5), .c (.int .i64 a6), .iv a7 [.ints .i8 a8, .bools a9]] [] (.c (.bool r)) ([]) := by
  rw [← parquetlaw08_BinaryTells.f_eq] at h
  obtain ⟨v, bs', h1, h2⟩ := evFun_ok (parquetlaw08_BinaryTells.env N) Try_mixed Try.func7 (by kernel_rfl : Try.f7.body = some parquetlaw08_BinaryTells.body) (by kernel_rfl) (parquetlaw08_BinaryTells.res_eq N) (by kernel_rfl) (by kernel_rfl) (Nat.le_of_ble_eq_true (by kernel_rfl)) (AllCut.of (l := []) (by kernel_rfl) AllCut.nil) h
  unfold parquetlaw08_BinaryTells.dec at h1; split at h1
  · cases h1; exact h2
  · cases h1
theorem parquetlaw08_BinaryTells.ent_ok (N : Nat) : TabOK1 Try.prog 7 (parquetlaw08_BinaryTells.ent N) := by
  intro args bs a enc h
  simp only [parquetlaw08_BinaryTells.ent] at h
  split at h
  · rename_i hz; have h0 := Option.some.inj h; have h1 := congrArg Prod.fst h0; have h2 := congrArg Prod.snd h0; dsimp only at h1 h2; subst h2; exact FnSpec.of_freeze hz (parquetlaw08_BinaryTells.spec N _ _ _ _ _ _ _ _ _ a h1)
  · cases h
/-! parquet/parquetlaw08.BinaryReduces: function 8 -/
noncomputable def parquetlaw08_BinaryReduces.f (N : Nat) (a1 : Int) (a2 : Int) (a3 : Int) (a4 : Nat) (a5 : List Int) (a6 : List Bool) : Option (Bool) :=
  (binary_Reduce.f N a1 a2 a3).bind fun r7 =>
  bif r7.2.2.2.2.2.2.2 != 0 then
    (binary_Check.f N a1 a2 a3).bind fun r8 =>
    bif r7.2.2.2.2.2.2.2 == r8 then
      (parquetlaw08_wakes.f N).bind fun r9 =>
      some r9
    else
    some false
  else
  (binary_Act.f N a1 a2 a3 r7.2.2.2.1 r7.2.2.2.2.1 r7.2.2.2.2.2.1 r7.2.2.2.2.2.2.1).bind fun r10 =>
  (binary_Reduce.f N r7.1 r7.2.1 r7.2.2.1).bind fun r11 =>
  (binary_Reduced.f N r7.1 r7.2.1 r7.2.2.1).bind fun r12 =>
  bif r12 then
    (binary_Disc.f N r7.1 r7.2.1 r7.2.2.1).bind fun r13 =>
    (binary_Disc.f N a1 a2 a3).bind fun r14 =>
    bif r13 == r14 then
      bif (wi64 ((wi64 (r7.2.2.2.1 * r7.2.2.2.2.2.2.1)) - (wi64 (r7.2.2.2.2.1 * r7.2.2.2.2.2.1)))) == 1 then
        bif r10.2.2.2 == 0 then
          bif (r10.1 == r7.1) && ((r10.2.1 == r7.2.1) && (r10.2.2.1 == r7.2.2.1)) then
            bif (r11.1 == r7.1) && ((r11.2.1 == r7.2.1) && (r11.2.2.1 == r7.2.2.1)) then
              bif !((r11.2.2.2.1 == 1) && ((r11.2.2.2.2.1 == 0) && ((r11.2.2.2.2.2.1 == 0) && (r11.2.2.2.2.2.2.1 == 1)))) then
                some false
              else
              bif decide (r7.2.1 > r7.1) then
                some false
              else
              bif decide (r7.2.1 ≤ (wi64 (0 - r7.1))) then
                some false
              else
              bif decide (r7.1 > r7.2.2.1) then
                some false
              else
              bif r7.1 == r7.2.2.1 then
                bif decide (r7.2.1 < 0) then
                  some false
                else
                (parquetlaw08_turn.f N a4 a5 a6).bind fun r15 =>
                (binary_Act.f N a1 a2 a3 r15.1 r15.2.1 r15.2.2.1 r15.2.2.2).bind fun r16 =>
                bif r16.2.2.2 != 0 then
                  bif r16.2.2.2 == 3 then
                    (parquetlaw08_wakes.f N).bind fun r17 =>
                    some r17
                  else
                  some false
                else
                (binary_Reduce.f N r16.1 r16.2.1 r16.2.2.1).bind fun r18 =>
                (binary_Proper.f N a1 a2 a3 r16.1 r16.2.1 r16.2.2.1).bind fun r19 =>
                bif r18.2.2.2.2.2.2.2 == 0 then
                  bif (r18.1 == r7.1) && ((r18.2.1 == r7.2.1) && (r18.2.2.1 == r7.2.2.1)) then
                    bif r19.1 then
                      bif r19.2 == 0 then
                        (parquetlaw08_wakes.f N).bind fun r20 =>
                        some r20
                      else
                      some false
                    else
                    some false
                  else
                  some false
                else
                some false
              else
              (parquetlaw08_turn.f N a4 a5 a6).bind fun r21 =>
              (binary_Act.f N a1 a2 a3 r21.1 r21.2.1 r21.2.2.1 r21.2.2.2).bind fun r22 =>
              bif r22.2.2.2 != 0 then
                bif r22.2.2.2 == 3 then
                  (parquetlaw08_wakes.f N).bind fun r23 =>
                  some r23
                else
                some false
              else
              (binary_Reduce.f N r22.1 r22.2.1 r22.2.2.1).bind fun r24 =>
              (binary_Proper.f N a1 a2 a3 r22.1 r22.2.1 r22.2.2.1).bind fun r25 =>
              bif r24.2.2.2.2.2.2.2 == 0 then
                bif (r24.1 == r7.1) && ((r24.2.1 == r7.2.1) && (r24.2.2.1 == r7.2.2.1)) then
                  bif r25.1 then
                    bif r25.2 == 0 then
                      (parquetlaw08_wakes.f N).bind fun r26 =>
                      some r26
                    else
                    some false
                  else
                  some false
                else
                some false
              else
              some false
            else
            some false
          else
          some false
        else
        some false
      else
      some false
    else
    some false
  else
  some false
noncomputable def parquetlaw08_BinaryReduces.body : Code := (Try.f8.body).getD .skip
noncomputable def parquetlaw08_BinaryReduces.ty : List (Nat × TI) := [(2, ty2), (23, ty23), (33, ty33)]
noncomputable def parquetlaw08_BinaryReduces.E (N : Nat) : Env := { ty := lookN parquetlaw08_BinaryReduces.ty, tab := lookN [(20, binary_Reduce.ent N), (19, binary_Check.ent N), (13, parquetlaw08_wakes.ent N), (16, binary_Act.ent N), (21, binary_Reduced.ent N), (22, binary_Disc.ent N), (18, parquetlaw08_turn.ent N), (14, binary_Proper.ent N)], hint := lookN [], cut := lookN [], N := N, res := [.tmp 4], rsh := [.any], nb := 0, ntmps := 169, own := false }
noncomputable def parquetlaw08_BinaryReduces.dec (v : V) (bs : List Blk) : Option (Bool) := match v, bs with
  | .c (.bool z0), [] => some z0
  | _, _ => none
set_option maxRecDepth 100000 in
theorem parquetlaw08_BinaryReduces.f_eq (N : Nat) (a1 : Int) (a2 : Int) (a3 : Int) (a4 : Nat) (a5 : List Int) (a6 : List Bool) :
    evFun (parquetlaw08_BinaryReduces.E N) parquetlaw08_BinaryReduces.body [.agg [.c (.int .i64 a1), .c (.int .i64 a2), .c (.int .i64 a3)], .iv a4 [.ints .i8 a5, .bools a6]] [] parquetlaw08_BinaryReduces.dec = parquetlaw08_BinaryReduces.f N a1 a2 a3 a4 a5 a6 := by kernel_rfl
noncomputable def parquetlaw08_BinaryReduces.ent (N : Nat) : Entry := { A := Bool, fresh := 0, imm := [true, true], dec := fun args bs => match freezeL 0 (fun _ => .dead) [.recd [.any, .any, .any], .any] args, bs with
  | some [.agg [.c (.int .i64 a1), .c (.int .i64 a2), .c (.int .i64 a3)], .iv a4 [.ints .i8 a5, .bools a6]], [] => some (parquetlaw08_BinaryReduces.f N a1 a2 a3 a4 a5 a6, fun r => .one (.c (.bool r)) [])
  | _, _ => none }
theorem parquetlaw08_BinaryReduces.env (N : Nat) : EnvOK Try.prog (parquetlaw08_BinaryReduces.E N) := ⟨(TyOK.cons ty2_ok (TyOK.cons ty23_ok (TyOK.cons ty33_ok TyOK.nil))), (TabOK.cons (binary_Reduce.ent_ok N) (TabOK.cons (binary_Check.ent_ok N) (TabOK.cons (parquetlaw08_wakes.ent_ok N) (TabOK.cons (binary_Act.ent_ok N) (TabOK.cons (binary_Reduced.ent_ok N) (TabOK.cons (binary_Disc.ent_ok N) (TabOK.cons (parquetlaw08_turn.ent_ok N) (TabOK.cons (binary_Proper.ent_ok N) TabOK.nil))))))))⟩
theorem parquetlaw08_BinaryReduces.res_eq (N : Nat) : (parquetlaw08_BinaryReduces.E N).res = Try.f8.results.toList := by kernel_rfl
theorem parquetlaw08_BinaryReduces.spec (N : Nat) (a1 : Int) (a2 : Int) (a3 : Int) (a4 : Nat) (a5 : List Int) (a6 : List Bool) (r : Bool) (h : parquetlaw08_BinaryReduces.f N a1 a2 a3 a4 a5 a6 = some r) : FnSpec Try.prog 8 [.agg [.c (.int .i64 a1), .c (.int .i64 a2), .c (.int .i64 a3)], .iv a4 [.ints .i8 a5, .bools a6]] [] (.c (.bool r)) ([]) := by
  rw [← parquetlaw08_BinaryReduces.f_eq] at h
  obtain ⟨v, bs', h1, h2⟩ := evFun_ok (parquetlaw08_BinaryReduces.env N) Try_mixed Try.func8 (by kernel_rfl : Try.f8.body = some parquetlaw08_BinaryReduces.body) (by kernel_rfl) (parquetlaw08_BinaryReduces.res_eq N) (by kernel_rfl) (by kernel_rfl) (Nat.le_of_ble_eq_true (by kernel_rfl)) (AllCut.of (l := []) (by kernel_rfl) AllCut.nil) h
  unfold parquetlaw08_BinaryReduces.dec at h1; split at h1
  · cases h1; exact h2
  · cases h1
theorem parquetlaw08_BinaryReduces.ent_ok (N : Nat) : TabOK1 Try.prog 8 (parquetlaw08_BinaryReduces.ent N) := by
  intro args bs a enc h
  simp only [parquetlaw08_BinaryReduces.ent] at h
  split at h
  · rename_i hz; have h0 := Option.some.inj h; have h1 := congrArg Prod.fst h0; have h2 := congrArg Prod.snd h0; dsimp only at h1 h2; subst h2; exact FnSpec.of_freeze hz (parquetlaw08_BinaryReduces.spec N _ _ _ _ _ _ a h1)
  · cases h
end Go.Proofs.Ytckddgepjhclpaa
