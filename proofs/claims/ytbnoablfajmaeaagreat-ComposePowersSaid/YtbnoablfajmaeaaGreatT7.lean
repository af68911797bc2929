-- The seat's functions as the evaluator goes through them: typed models and their laws.
import Derived.Test.YtbnoablfajmaeaaGreatProg
import Derived.Test.YtbnoablfajmaeaaGreatEvF
import Derived.Test.YtbnoablfajmaeaaGreatT6
import Derived.KernelRfl
namespace Go.Proofs.YtbnoablfajmaeaaGreat
open Go.Proofs.YtbnoablfajmaeaaGreat.Ev
set_option linter.unusedVariables false
open Go


/-! parquet/parquetref04.Times: function 32 -/
noncomputable def parquetref04_Times.l2 {R : Type} (N : Nat) : Nat → Int → Int → Int → Int → (Int → Option R) → Option R
  | 0, _, _, _, _, _ => none
  | n + 1, x4, x5, x6, x7, k0 =>
    bif decide (x5 > 0) then
      bif (Int.tmod x5 2) == 1 then
        bif !(x6 == 0) then
          bif !(x6 == 0) then
            parquetref04_Times.l2 N n (Int.tmod (wi64 (x4 + x4)) x6) (wi64 (Int.tdiv x5 2)) x6 (Int.tmod (wi64 (x7 + x4)) x6) k0
          else none
        else none
      else
      bif !(x6 == 0) then
        parquetref04_Times.l2 N n (Int.tmod (wi64 (x4 + x4)) x6) (wi64 (Int.tdiv x5 2)) x6 x7 k0
      else none
    else
    k0 x7
noncomputable def parquetref04_Times.f (N : Nat) (a1 : Int) (a2 : Int) (a3 : Int) : Option (Int) :=
  parquetref04_Times.l2 N N a1 a2 a3 0
    (fun y9 =>
      some y9)
noncomputable def parquetref04_Times.body : Code := (Tryz.f32.body).getD .skip
noncomputable def parquetref04_Times.ty : List (Nat × TI) := []
noncomputable def parquetref04_Times.h2 : Hint := ⟨[(0, .any), (1, .any), (2, .any), (7, .any)], [(7, .any)]⟩
noncomputable def parquetref04_Times.c2 (N : Nat) : Cut := ⟨fun vs H k => match vs, H with
  | [.c (.int .i64 x4), .c (.int .i64 x5), .c (.int .i64 x6), .c (.int .i64 x7)], [] => parquetref04_Times.l2 N N x4 x5 x6 x7 (fun x8 => k (.exit 0) ⟨mkT parquetref04_Times.h2.out [.c (.int .i64 x8)], []⟩)
  | _, _ => none⟩
noncomputable def parquetref04_Times.E (N : Nat) : Env := { ty := lookN parquetref04_Times.ty, tab := lookN [], hint := lookN [(2, parquetref04_Times.h2)], cut := lookN [(2, parquetref04_Times.c2 N)], N := N, res := [.tmp 6], rsh := [.any], nb := 0, ntmps := 26, own := false }
noncomputable def parquetref04_Times.b2 : Code := inner ((subLoops parquetref04_Times.body).getD 0 .skip)
set_option maxRecDepth 100000 in
theorem parquetref04_Times.l2_eq {R : Type} (N n : Nat) (x4 : Int) (x5 : Int) (x6 : Int) (x7 : Int) (k : Ex → St → Option R) :
    evLoop 0 parquetref04_Times.h2 (fun s k => evCode (parquetref04_Times.E N) 395 parquetref04_Times.b2 s k) n [.c (.int .i64 x4), .c (.int .i64 x5), .c (.int .i64 x6), .c (.int .i64 x7)] [] k = parquetref04_Times.l2 N n x4 x5 x6 x7 (fun x8 => k (.exit 0) ⟨mkT parquetref04_Times.h2.out [.c (.int .i64 x8)], []⟩) := by
  induction n generalizing x4 x5 x6 x7 with
  | zero => kernel_rfl
  | succ n ih =>
    simp only [parquetref04_Times.l2, ← ih]
    kernel_rfl
noncomputable def parquetref04_Times.dec (v : V) (bs : List Blk) : Option (Int) := match v, bs with
  | .c (.int .i64 z0), [] => some z0
  | _, _ => none
set_option maxRecDepth 100000 in
theorem parquetref04_Times.f_eq (N : Nat) (a1 : Int) (a2 : Int) (a3 : Int) :
    evFun (parquetref04_Times.E N) parquetref04_Times.body [.c (.int .i64 a1), .c (.int .i64 a2), .c (.int .i64 a3)] [] parquetref04_Times.dec = parquetref04_Times.f N a1 a2 a3 := by kernel_rfl
noncomputable def parquetref04_Times.ent (N : Nat) : Entry := { A := Int, fresh := 0, imm := [true, true, true], dec := fun args bs => match freezeL 0 (fun _ => .dead) [.any, .any, .any] args, bs with
  | some [.c (.int .i64 a1), .c (.int .i64 a2), .c (.int .i64 a3)], [] => some (parquetref04_Times.f N a1 a2 a3, fun r => .one (.c (.int .i64 r)) [])
  | _, _ => none }
theorem parquetref04_Times.env (N : Nat) : EnvOK Tryz.prog (parquetref04_Times.E N) := ⟨TyOK.nil, TabOK.nil⟩
theorem parquetref04_Times.res_eq (N : Nat) : (parquetref04_Times.E N).res = Tryz.f32.results.toList := by kernel_rfl
theorem parquetref04_Times.k2 (N : Nat) : CutOK Tryz.prog Tryz.f32 (parquetref04_Times.E N) (.loop parquetref04_Times.b2) := by
  intro e hd he hh R vs H k r h
  have e1 : (parquetref04_Times.E N).cut (loopKey parquetref04_Times.b2) = some (parquetref04_Times.c2 N) := by kernel_rfl
  have e2 : (parquetref04_Times.E N).hint (loopKey parquetref04_Times.b2) = some parquetref04_Times.h2 := by kernel_rfl
  rw [e1] at he; rw [e2] at hh; cases he; cases hh
  unfold parquetref04_Times.c2 at h; dsimp only at h
  split at h
  · rw [← parquetref04_Times.l2_eq] at h
    exact loop_ok (evCode_ok (parquetref04_Times.env N) Tryz_mixed (parquetref04_Times.res_eq N) 395 parquetref04_Times.b2 (AllCut.of (l := []) (by kernel_rfl) AllCut.nil)) h
  · cases h
theorem parquetref04_Times.spec (N : Nat) (a1 : Int) (a2 : Int) (a3 : Int) (r : Int) (h : parquetref04_Times.f N a1 a2 a3 = some r) : FnSpec Tryz.prog 32 [.c (.int .i64 a1), .c (.int .i64 a2), .c (.int .i64 a3)] [] (.c (.int .i64 r)) ([]) := by
  rw [← parquetref04_Times.f_eq] at h
  obtain ⟨v, bs', h1, h2⟩ := evFun_ok (parquetref04_Times.env N) Tryz_mixed Tryz.func32 (by kernel_rfl : Tryz.f32.body = some parquetref04_Times.body) (by kernel_rfl) (parquetref04_Times.res_eq N) (by kernel_rfl) (by kernel_rfl) (Nat.le_of_ble_eq_true (by kernel_rfl)) (AllCut.of (l := [(.loop (inner ((subLoops parquetref04_Times.body).getD 0 .skip)))]) (by kernel_rfl) (AllCut.cons (parquetref04_Times.k2 N) AllCut.nil)) h
  unfold parquetref04_Times.dec at h1; split at h1
  · cases h1; exact h2
  · cases h1
theorem parquetref04_Times.ent_ok (N : Nat) : TabOK1 Tryz.prog 32 (parquetref04_Times.ent N) := by
  intro args bs a enc h
  simp only [parquetref04_Times.ent] at h
  split at h
  · rename_i hz; have h0 := Option.some.inj h; have h1 := congrArg Prod.fst h0; have h2 := congrArg Prod.snd h0; dsimp only at h1 h2; subst h2; exact FnSpec.of_freeze hz (parquetref04_Times.spec N _ _ _ a h1)
  · cases h
/-! parquet/parquetref04.turned: function 77 -/
noncomputable def parquetref04_turned.l5 {R : Type} (N : Nat) : Nat → Int → Int → Int → Int → Int → (Int → Int → Option R) → Option R
  | 0, _, _, _, _, _, _ => none
  | n + 1, x4, x5, x6, x7, x8, k0 =>
    bif decide (x6 > 0) then
      bif !(x6 == 0) then
        parquetref04_turned.l5 N n x4 x6 (wi64 (x5 - (wi64 ((wi64 (Int.tdiv x5 x6)) * x6)))) x8 (wi64 (x7 - (wi64 ((wi64 (Int.tdiv x5 x6)) * x8)))) k0
      else none
    else
    k0 x4 x7
noncomputable def parquetref04_turned.f (N : Nat) (a1 : Int) (a2 : Int) : Option (Int) :=
  (parquetref04_Mod.f N a1 a2).bind fun r3 =>
  parquetref04_turned.l5 N N a2 a2 r3 0 1
    (fun y11 y12 =>
      (parquetref04_Mod.f N y12 y11).bind fun r13 =>
      some r13)
noncomputable def parquetref04_turned.body : Code := (Tryz.f77.body).getD .skip
noncomputable def parquetref04_turned.ty : List (Nat × TI) := []
noncomputable def parquetref04_turned.h5 : Hint := ⟨[(1, .any), (5, .any), (6, .any), (7, .any), (8, .any)], [(1, .any), (7, .any)]⟩
noncomputable def parquetref04_turned.c5 (N : Nat) : Cut := ⟨fun vs H k => match vs, H with
  | [.c (.int .i64 x4), .c (.int .i64 x5), .c (.int .i64 x6), .c (.int .i64 x7), .c (.int .i64 x8)], [] => parquetref04_turned.l5 N N x4 x5 x6 x7 x8 (fun x9 x10 => k (.exit 0) ⟨mkT parquetref04_turned.h5.out [.c (.int .i64 x9), .c (.int .i64 x10)], []⟩)
  | _, _ => none⟩
noncomputable def parquetref04_turned.E (N : Nat) : Env := { ty := lookN parquetref04_turned.ty, tab := lookN [(33, parquetref04_Mod.ent N)], hint := lookN [(5, parquetref04_turned.h5)], cut := lookN [(5, parquetref04_turned.c5 N)], N := N, res := [.tmp 4], rsh := [.any], nb := 0, ntmps := 38, own := false }
noncomputable def parquetref04_turned.b5 : Code := inner ((subLoops parquetref04_turned.body).getD 0 .skip)
set_option maxRecDepth 100000 in
theorem parquetref04_turned.l5_eq {R : Type} (N n : Nat) (x4 : Int) (x5 : Int) (x6 : Int) (x7 : Int) (x8 : Int) (k : Ex → St → Option R) :
    evLoop 0 parquetref04_turned.h5 (fun s k => evCode (parquetref04_turned.E N) 392 parquetref04_turned.b5 s k) n [.c (.int .i64 x4), .c (.int .i64 x5), .c (.int .i64 x6), .c (.int .i64 x7), .c (.int .i64 x8)] [] k = parquetref04_turned.l5 N n x4 x5 x6 x7 x8 (fun x9 x10 => k (.exit 0) ⟨mkT parquetref04_turned.h5.out [.c (.int .i64 x9), .c (.int .i64 x10)], []⟩) := by
  induction n generalizing x4 x5 x6 x7 x8 with
  | zero => kernel_rfl
  | succ n ih =>
    simp only [parquetref04_turned.l5, ← ih]
    kernel_rfl
noncomputable def parquetref04_turned.dec (v : V) (bs : List Blk) : Option (Int) := match v, bs with
  | .c (.int .i64 z0), [] => some z0
  | _, _ => none
set_option maxRecDepth 100000 in
theorem parquetref04_turned.f_eq (N : Nat) (a1 : Int) (a2 : Int) :
    evFun (parquetref04_turned.E N) parquetref04_turned.body [.c (.int .i64 a1), .c (.int .i64 a2)] [] parquetref04_turned.dec = parquetref04_turned.f N a1 a2 := by kernel_rfl
noncomputable def parquetref04_turned.ent (N : Nat) : Entry := { A := Int, fresh := 0, imm := [true, true], dec := fun args bs => match freezeL 0 (fun _ => .dead) [.any, .any] args, bs with
  | some [.c (.int .i64 a1), .c (.int .i64 a2)], [] => some (parquetref04_turned.f N a1 a2, fun r => .one (.c (.int .i64 r)) [])
  | _, _ => none }
theorem parquetref04_turned.env (N : Nat) : EnvOK Tryz.prog (parquetref04_turned.E N) := ⟨TyOK.nil, (TabOK.cons (parquetref04_Mod.ent_ok N) TabOK.nil)⟩
theorem parquetref04_turned.res_eq (N : Nat) : (parquetref04_turned.E N).res = Tryz.f77.results.toList := by kernel_rfl
theorem parquetref04_turned.k5 (N : Nat) : CutOK Tryz.prog Tryz.f77 (parquetref04_turned.E N) (.loop parquetref04_turned.b5) := by
  intro e hd he hh R vs H k r h
  have e1 : (parquetref04_turned.E N).cut (loopKey parquetref04_turned.b5) = some (parquetref04_turned.c5 N) := by kernel_rfl
  have e2 : (parquetref04_turned.E N).hint (loopKey parquetref04_turned.b5) = some parquetref04_turned.h5 := by kernel_rfl
  rw [e1] at he; rw [e2] at hh; cases he; cases hh
  unfold parquetref04_turned.c5 at h; dsimp only at h
  split at h
  · rw [← parquetref04_turned.l5_eq] at h
    exact loop_ok (evCode_ok (parquetref04_turned.env N) Tryz_mixed (parquetref04_turned.res_eq N) 392 parquetref04_turned.b5 (AllCut.of (l := []) (by kernel_rfl) AllCut.nil)) h
  · cases h
theorem parquetref04_turned.spec (N : Nat) (a1 : Int) (a2 : Int) (r : Int) (h : parquetref04_turned.f N a1 a2 = some r) : FnSpec Tryz.prog 77 [.c (.int .i64 a1), .c (.int .i64 a2)] [] (.c (.int .i64 r)) ([]) := by
  rw [← parquetref04_turned.f_eq] at h
  obtain ⟨v, bs', h1, h2⟩ := evFun_ok (parquetref04_turned.env N) Tryz_mixed Tryz.func77 (by kernel_rfl : Tryz.f77.body = some parquetref04_turned.body) (by kernel_rfl) (parquetref04_turned.res_eq N) (by kernel_rfl) (by kernel_rfl) (Nat.le_of_ble_eq_true (by kernel_rfl)) (AllCut.of (l := [(.loop (inner ((subLoops parquetref04_turned.body).getD 0 .skip)))]) (by kernel_rfl) (AllCut.cons (parquetref04_turned.k5 N) AllCut.nil)) h
  unfold parquetref04_turned.dec at h1; split at h1
  · cases h1; exact h2
  · cases h1
theorem parquetref04_turned.ent_ok (N : Nat) : TabOK1 Tryz.prog 77 (parquetref04_turned.ent N) := by
  intro args bs a enc h
  simp only [parquetref04_turned.ent] at h
  split at h
  · rename_i hz; have h0 := Option.some.inj h; have h1 := congrArg Prod.fst h0; have h2 := congrArg Prod.snd h0; dsimp only at h1 h2; subst h2; exact FnSpec.of_freeze hz (parquetref04_turned.spec N _ _ a h1)
  · cases h
/-! parquet/parquetref04.Inverse: function 52 -/
noncomputable def parquetref04_Inverse.f (N : Nat) (a1 : Int) (a2 : Int) : Option (Int × Int) :=
  bif decide (a2 < 1) then
    some (0, 2)
  else
  bif decide (a2 > 4611686018427387904) then
    some (0, 2)
  else
  (parquetref04_Mod.f N a1 a2).bind fun r3 =>
  (parquetref04_Common.f N r3 a2).bind fun r4 =>
  bif r4 != 1 then
    some (0, 41)
  else
  (parquetref04_turned.f N a1 a2).bind fun r5 =>
  some (r5, 0)
noncomputable def parquetref04_Inverse.body : Code := (Tryz.f52.body).getD .skip
noncomputable def parquetref04_Inverse.ty : List (Nat × TI) := []
noncomputable def parquetref04_Inverse.E (N : Nat) : Env := { ty := lookN parquetref04_Inverse.ty, tab := lookN [(33, parquetref04_Mod.ent N), (48, parquetref04_Common.ent N), (77, parquetref04_turned.ent N)], hint := lookN [], cut := lookN [], N := N, res := [.tmp 4, .tmp 5], rsh := [.any, .any], nb := 0, ntmps := 21, own := false }
noncomputable def parquetref04_Inverse.dec (v : V) (bs : List Blk) : Option (Int × Int) := match v, bs with
  | .tup [.c (.int .i64 z0), .c (.int .i64 z1)], [] => some (z0, z1)
  | _, _ => none
set_option maxRecDepth 100000 in
theorem parquetref04_Inverse.f_eq (N : Nat) (a1 : Int) (a2 : Int) :
    evFun (parquetref04_Inverse.E N) parquetref04_Inverse.body [.c (.int .i64 a1), .c (.int .i64 a2)] [] parquetref04_Inverse.dec = parquetref04_Inverse.f N a1 a2 := by kernel_rfl
noncomputable def parquetref04_Inverse.ent (N : Nat) : Entry := { A := Int × Int, fresh := 0, imm := [true, true], dec := fun args bs => match freezeL 0 (fun _ => .dead) [.any, .any] args, bs with
  | some [.c (.int .i64 a1), .c (.int .i64 a2)], [] => some (parquetref04_Inverse.f N a1 a2, fun r => .one (.tup [.c (.int .i64 r.1), .c (.int .i64 r.2)]) [])
  | _, _ => none }
theorem parquetref04_Inverse.env (N : Nat) : EnvOK Tryz.prog (parquetref04_Inverse.E N) := ⟨TyOK.nil, (TabOK.cons (parquetref04_Mod.ent_ok N) (TabOK.cons (parquetref04_Common.ent_ok N) (TabOK.cons (parquetref04_turned.ent_ok N) TabOK.nil)))⟩
theorem parquetref04_Inverse.res_eq (N : Nat) : (parquetref04_Inverse.E N).res = Tryz.f52.results.toList := by kernel_rfl
theorem parquetref04_Inverse.spec (N : Nat) (a1 : Int) (a2 : Int) (r : Int × Int) (h : parquetref04_Inverse.f N a1 a2 = some r) : FnSpec Tryz.prog 52 [.c (.int .i64 a1), .c (.int .i64 a2)] [] (.tup [.c (.int .i64 r.1), .c (.int .i64 r.2)]) ([]) := by
  rw [← parquetref04_Inverse.f_eq] at h
  obtain ⟨v, bs', h1, h2⟩ := evFun_ok (parquetref04_Inverse.env N) Tryz_mixed Tryz.func52 (by kernel_rfl : Tryz.f52.body = some parquetref04_Inverse.body) (by kernel_rfl) (parquetref04_Inverse.res_eq N) (by kernel_rfl) (by kernel_rfl) (Nat.le_of_ble_eq_true (by kernel_rfl)) (AllCut.of (l := []) (by kernel_rfl) AllCut.nil) h
  unfold parquetref04_Inverse.dec at h1; split at h1
  · cases h1; exact h2
  · cases h1
theorem parquetref04_Inverse.ent_ok (N : Nat) : TabOK1 Tryz.prog 52 (parquetref04_Inverse.ent N) := by
  intro args bs a enc h
  simp only [parquetref04_Inverse.ent] at h
  split at h
  · rename_i hz; have h0 := Option.some.inj h; have h1 := congrArg Prod.fst h0; have h2 := congrArg Prod.snd h0; dsimp only at h1 h2; subst h2; exact FnSpec.of_freeze hz (parquetref04_Inverse.spec N _ _ a h1)
  · cases h
/-! parquet/parquetref10.inverse: function 34 -/
noncomputable def parquetref10_inverse.f (N : Nat) (a1 : Int) (a2 : Int) : Option (Int) :=
  (parquetref04_Inverse.f N a1 a2).bind fun r3 =>
  some r3.1
noncomputable def parquetref10_inverse.body : Code := (Tryz.f34.body).getD .skip
noncomputable def parquetref10_inverse.ty : List (Nat × TI) := []
noncomputable def parquetref10_inverse.E (N : Nat) : Env := { ty := lookN parquetref10_inverse.ty, tab := lookN [(52, parquetref04_Inverse.ent N)], hint := lookN [], cut := lookN [], N := N, res := [.tmp 4], rsh := [.any], nb := 0, ntmps := 14, own := false }
noncomputable def parquetref10_inverse.dec (v : V) (bs : List Blk) : Option (Int) := match v, bs with
  | .c (.int .i64 z0), [] => some z0
  | _, _ => none
set_option maxRecDepth 100000 in
theorem parquetref10_inverse.f_eq (N : Nat) (a1 : Int) (a2 : Int) :
    evFun (parquetref10_inverse.E N) parquetref10_inverse.body [.c (.int .i64 a1), .c (.int .i64 a2)] [] parquetref10_inverse.dec = parquetref10_inverse.f N a1 a2 := by kernel_rfl
noncomputable def parquetref10_inverse.ent (N : Nat) : Entry := { A := Int, fresh := 0, imm := [true, true], dec := fun args bs => match freezeL 0 (fun _ => .dead) [.any, .any] args, bs with
  | some [.c (.int .i64 a1), .c (.int .i64 a2)], [] => some (parquetref10_inverse.f N a1 a2, fun r => .one (.c (.int .i64 r)) [])
  | _, _ => none }
theorem parquetref10_inverse.env (N : Nat) : EnvOK Tryz.prog (parquetref10_inverse.E N) := ⟨TyOK.nil, (TabOK.cons (parquetref04_Inverse.ent_ok N) TabOK.nil)⟩
theorem parquetref10_inverse.res_eq (N : Nat) : (parquetref10_inverse.E N).res = Tryz.f34.results.toList := by kernel_rfl
theorem parquetref10_inverse.spec (N : Nat) (a1 : Int) (a2 : Int) (r : Int) (h : parquetref10_inverse.f N a1 a2 = some r) : FnSpec Tryz.prog 34 [.c (.int .i64 a1), .c (.int .i64 a2)] [] (.c (.int .i64 r)) ([]) := by
  rw [← parquetref10_inverse.f_eq] at h
  obtain ⟨v, bs', h1, h2⟩ := evFun_ok (parquetref10_inverse.env N) Tryz_mixed Tryz.func34 (by kernel_rfl : Tryz.f34.body = some parquetref10_inverse.body) (by kernel_rfl) (parquetref10_inverse.res_eq N) (by kernel_rfl) (by kernel_rfl) (Nat.le_of_ble_eq_true (by kernel_rfl)) (AllCut.of (l := []) (by kernel_rfl) AllCut.nil) h
  unfold parquetref10_inverse.dec at h1; split at h1
  · cases h1; exact h2
  · cases h1
theorem parquetref10_inverse.ent_ok (N : Nat) : TabOK1 Tryz.prog 34 (parquetref10_inverse.ent N) := by
  intro args bs a enc h
  simp only [parquetref10_inverse.ent] at h
  split at h
  · rename_i hz; have h0 := Option.some.inj h; have h1 := congrArg Prod.fst h0; have h2 := congrArg Prod.snd h0; dsimp only at h1 h2; subst h2; exact FnSpec.of_freeze hz (parquetref10_inverse.spec N _ _ a h1)
  · cases h
/-! parquet/parquetref10.prime: function 31 -/
noncomputable def parquetref10_prime.l4 {R : Type} (N : Nat) : Nat → Int → Int → Int → Int → Int → Int → Int → Int → Int → (Int → Int → Int → Int → Int → Int → Int → Int → Option R) → (Int → Int → Int → Option R) → Option R
  | 0, _, _, _, _, _, _, _, _, _, _, _ => none
  | n + 1, x13, x14, x15, x16, x17, x18, x19, x20, x21, k2, kr =>
    bif decide (x15 ≤ x14) then
      (parquetref04_Common.f N x15 (wi64 (x14 - x15))).bind fun r22 =>
      bif r22 != 1 then
        parquetref10_prime.l4 N n x13 x14 (wi64 (x15 + 1)) x16 x17 x18 x19 x20 x21 k2 kr
      else
      (parquetref04_Common.f N (wi64 ((wi64 ((wi64 ((wi64 (x16 * x15)) * x15)) + (wi64 ((wi64 (x17 * x15)) * (wi64 (x14 - x15)))))) + (wi64 ((wi64 (x18 * (wi64 (x14 - x15)))) * (wi64 (x14 - x15)))))) x13).bind fun r23 =>
      bif r23 != 1 then
        parquetref10_prime.l4 N n x13 x14 (wi64 (x15 + 1)) x16 x17 x18 x19 x20 x21 k2 kr
      else
      (parquetref02_Of.f N x15).bind fun r24 =>
      (parquetref02_Of.f N (wi64 (x14 - x15))).bind fun r25 =>
      (parquetref02_Gcd.f N r24.1 r24.2 r25.1 r25.2).bind fun r26 =>
      (parquetref02_Int64.f N r26.2.1 r26.2.2.1).bind fun r27 =>
      (parquetref02_Neg.f N r26.2.2.2.1 r26.2.2.2.2).bind fun r28 =>
      (parquetref02_Int64.f N r28.1 r28.2).bind fun r29 =>
      kr (wi64 ((wi64 ((wi64 ((wi64 (x16 * x15)) * x15)) + (wi64 ((wi64 (x17 * x15)) * (wi64 (x14 - x15)))))) + (wi64 ((wi64 (x18 * (wi64 (x14 - x15)))) * (wi64 (x14 - x15)))))) (wi64 ((wi64 ((wi64 ((wi64 ((wi64 (2 * x16)) * x15)) * r29.1)) + (wi64 (x17 * (wi64 ((wi64 (x15 * r27.1)) + (wi64 (r29.1 * (wi64 (x14 - x15)))))))))) + (wi64 ((wi64 ((wi64 (2 * x18)) * (wi64 (x14 - x15)))) * r27.1)))) (wi64 ((wi64 ((wi64 ((wi64 (x16 * r29.1)) * r29.1)) + (wi64 ((wi64 (x17 * r29.1)) * r27.1)))) + (wi64 ((wi64 (x18 * r27.1)) * r27.1))))
    else
    k2 x13 x14 x16 x17 x18 x19 x20 x21
noncomputable def parquetref10_prime.l3 {R : Type} (N : Nat) : Nat → Int → Int → Int → Int → Int → Int → Int → Int → (Int → Int → Int → Option R) → Option R
  | 0, _, _, _, _, _, _, _, _, _ => none
  | n + 1, x5, x6, x7, x8, x9, x10, x11, x12, kr =>
    parquetref10_prime.l4 N N x5 x6 0 x7 x8 x9 x10 x11 x12
      (fun y41 y42 y43 y44 y45 y46 y47 y48 =>
        parquetref10_prime.l3 N n y41 (wi64 (y42 + 1)) y43 y44 y45 y46 y47 y48 kr)
      (fun y49 y50 y51 =>
        kr y49 y50 y51)
noncomputable def parquetref10_prime.f (N : Nat) (a1 : Int) (a2 : Int) (a3 : Int) (a4 : Int) : Option (Int × Int × Int) :=
  parquetref10_prime.l3 N N a4 1 a1 a2 a3 0 0 0
    (fun y55 y56 y57 =>
      some (y55, y56, y57))
noncomputable def parquetref10_prime.body : Code := (Tryz.f31.body).getD .skip
noncomputable def parquetref10_prime.ty : List (Nat × TI) := [(2, ty2), (23, ty23), (53, ty53)]
noncomputable def parquetref10_prime.h3 : Hint := ⟨[(1, .any), (2, .box [.any, .any, .any]), (4, .box [.any, .any, .any]), (5, .any)], []⟩
noncomputable def parquetref10_prime.h4 : Hint := ⟨[(1, .any), (2, .box [.any, .any, .any]), (4, .box [.any, .any, .any]), (5, .any), (6, .any)], [(1, .any), (2, .box [.any, .any, .any]), (4, .box [.any, .any, .any]), (5, .any)]⟩
noncomputable def parquetref10_prime.c4 (N : Nat) : Cut := ⟨fun vs H k => match vs, H with
  | [.c (.int .i64 x13), .ptr 0 0 3, .ptr 1 0 3, .c (.int .i64 x14), .c (.int .i64 x15)], [.vals [.c (.int .i64 x16), .c (.int .i64 x17), .c (.int .i64 x18)], .vals [.c (.int .i64 x19), .c (.int .i64 x20), .c (.int .i64 x21)]] => parquetref10_prime.l4 N N x13 x14 x15 x16 x17 x18 x19 x20 x21 (fun x33 x34 x35 x36 x37 x38 x39 x40 => k (.exit 2) ⟨mkT parquetref10_prime.h4.out [.c (.int .i64 x33), .ptr 0 0 3, .ptr 1 0 3, .c (.int .i64 x34)], [.vals [.c (.int .i64 x35), .c (.int .i64 x36), .c (.int .i64 x37)], .vals [.c (.int .i64 x38), .c (.int .i64 x39), .c (.int .i64 x40)]]⟩) (fun x30 x31 x32 => k (.ret (.agg [.c (.int .i64 x30), .c (.int .i64 x31), .c (.int .i64 x32)]) []) .nil)
  | _, _ => none⟩
noncomputable def parquetref10_prime.c3 (N : Nat) : Cut := ⟨fun vs H k => match vs, H with
  | [.c (.int .i64 x5), .ptr 0 0 3, .ptr 1 0 3, .c (.int .i64 x6)], [.vals [.c (.int .i64 x7), .c (.int .i64 x8), .c (.int .i64 x9)], .vals [.c (.int .i64 x10), .c (.int .i64 x11), .c (.int .i64 x12)]] => parquetref10_prime.l3 N N x5 x6 x7 x8 x9 x10 x11 x12 (fun x52 x53 x54 => k (.ret (.agg [.c (.int .i64 x52), .c (.int .i64 x53), .c (.int .i64 x54)]) []) .nil)
  | _, _ => none⟩
noncomputable def parquetref10_prime.E (N : Nat) : Env := { ty := lookN parquetref10_prime.ty, tab := lookN [(48, parquetref04_Common.ent N), (36, parquetref02_Of.ent N), (49, parquetref02_Gcd.ent N), (50, parquetref02_Int64.ent N), (51, parquetref02_Neg.ent N)], hint := lookN [(3, parquetref10_prime.h3), (4, parquetref10_prime.h4)], cut := lookN [(4, parquetref10_prime.c4 N), (3, parquetref10_prime.c3 N)], N := N, res := [.cell 4 23], rsh := [.recd [.any, .any, .any]], nb := 0, ntmps := 122, own := false }
noncomputable def parquetref10_prime.b4 : Code := inner ((subLoops parquetref10_prime.body).getD 1 .skip)
set_option maxRecDepth 100000 in
theorem parquetref10_prime.l4_eq {R : Type} (N n : Nat) (x13 : Int) (x14 : Int) (x15 : Int) (x16 : Int) (x17 : Int) (x18 : Int) (x19 : Int) (x20 : Int) (x21 : Int) (k : Ex → St → Option R) :
    evLoop 0 parquetref10_prime.h4 (fun s k => evCode (parquetref10_prime.E N) 391 parquetref10_prime.b4 s k) n [.c (.int .i64 x13), .ptr 0 0 3, .ptr 1 0 3, .c (.int .i64 x14), .c (.int .i64 x15)] [.vals [.c (.int .i64 x16), .c (.int .i64 x17), .c (.int .i64 x18)], .vals [.c (.int .i64 x19), .c (.int .i64 x20), .c (.int .i64 x21)]] k = parquetref10_prime.l4 N n x13 x14 x15 x16 x17 x18 x19 x20 x21 (fun x33 x34 x35 x36 x37 x38 x39 x40 => k (.exit 2) ⟨mkT parquetref10_prime.h4.out [.c (.int .i64 x33), .ptr 0 0 3, .ptr 1 0 3, .c (.int .i64 x34)], [.vals [.c (.int .i64 x35), .c (.int .i64 x36), .c (.int .i64 x37)], .vals [.c (.int .i64 x38), .c (.int .i64 x39), .c (.int .i64 x40)]]⟩) (fun x30 x31 x32 => k (.ret (.agg [.c (.int .i64 x30), .c (.int .i64 x31), .c (.int .i64 x32)]) []) .nil) := by
  induction n generalizing x13 x14 x15 x16 x17 x18 x19 x20 x21 with
  | zero => kernel_rfl
  | succ n ih =>
    simp only [parquetref10_prime.l4, ← ih]
    kernel_rfl
noncomputable def parquetref10_prime.b3 : Code := inner ((subLoops parquetref10_prime.body).getD 0 .skip)
set_option maxRecDepth 100000 in
theorem parquetref10_prime.l3_eq {R : Type} (N n : Nat) (x5 : Int) (x6 : Int) (x7 : Int) (x8 : Int) (x9 : Int) (x10 : Int) (x11 : Int) (x12 : Int) (k : Ex → St → Option R) :
    evLoop 0 parquetref10_prime.h3 (fun s k => evCode (parquetref10_prime.E N) 396 parquetref10_prime.b3 s k) n [.c (.int .i64 x5), .ptr 0 0 3, .ptr 1 0 3, .c (.int .i64 x6)] [.vals [.c (.int .i64 x7), .c (.int .i64 x8), .c (.int .i64 x9)], .vals [.c (.int .i64 x10), .c (.int .i64 x11), .c (.int .i64 x12)]] k = parquetref10_prime.l3 N n x5 x6 x7 x8 x9 x10 x11 x12 (fun x52 x53 x54 => k (.ret (.agg [.c (.int .i64 x52), .c (.int .i64 x53), .c (.int .i64 x54)]) []) .nil) := by
  induction n generalizing x5 x6 x7 x8 x9 x10 x11 x12 with
  | zero => kernel_rfl
  | succ n ih =>
    simp only [parquetref10_prime.l3, ← ih]
    kernel_rfl
noncomputable def parquetref10_prime.dec (v : V) (bs : List Blk) : Option (Int × Int × Int) := match v, bs with
  | .agg [.c (.int .i64 z0), .c (.int .i64 z1), .c (.int .i64 z2)], [] => some (z0, z1, z2)
  | _, _ => none
set_option maxRecDepth 100000 in
theorem parquetref10_prime.f_eq (N : Nat) (a1 : Int) (a2 : Int) (a3 : Int) (a4 : Int) :
    evFun (parquetref10_prime.E N) parquetref10_prime.body [.agg [.c (.int .i64 a1), .c (.int .i64 a2), .c (.int .i64 a3)], .c (.int .i64 a4)] [] parquetref10_prime.dec = parquetref10_prime.f N a1 a2 a3 a4 := by kernel_rfl
noncomputable def parquetref10_prime.ent (N : Nat) : Entry := { A := Int × Int × Int, fresh := 0, imm := [true, true], dec := fun args bs => match freezeL 0 (fun _ => .dead) [.recd [.any, .any, .any], .any] args, bs with
  | some [.agg [.c (.int .i64 a1), .c (.int .i64 a2), .c (.int .i64 a3)], .c (.int .i64 a4)], [] => some (parquetref10_prime.f N a1 a2 a3 a4, fun r => .one (.agg [.c (.int .i64 r.1), .c (.int .i64 r.2.1), .c (.int .i64 r.2.2)]) [])
  | _, _ => none }
theorem parquetref10_prime.env (N : Nat) : EnvOK Tryz.prog (parquetref10_prime.E N) := ⟨(TyOK.cons ty2_ok (TyOK.cons ty23_ok (TyOK.cons ty53_ok TyOK.nil))), (TabOK.cons (parquetref04_Common.ent_ok N) (TabOK.cons (parquetref02_Of.ent_ok N) (TabOK.cons (parquetref02_Gcd.ent_ok N) (TabOK.cons (parquetref02_Int64.ent_ok N) (TabOK.cons (parquetref02_Neg.ent_ok N) TabOK.nil)))))⟩
theorem parquetref10_prime.res_eq (N : Nat) : (parquetref10_prime.E N).res = Tryz.f31.results.toList := by kernel_rfl
theorem parquetref10_prime.k4 (N : Nat) : CutOK Tryz.prog Tryz.f31 (parquetref10_prime.E N) (.loop parquetref10_prime.b4) := by
  intro e hd he hh R vs H k r h
  have e1 : (parquetref10_prime.E N).cut (loopKey parquetref10_prime.b4) = some (parquetref10_prime.c4 N) := by kernel_rfl
  have e2 : (parquetref10_prime.E N).hint (loopKey parquetref10_prime.b4) = some parquetref10_prime.h4 := by kernel_rfl
  rw [e1] at he; rw [e2] at hh; cases he; cases hh
  unfold parquetref10_prime.c4 at h; dsimp only at h
  split at h
  · rw [← parquetref10_prime.l4_eq] at h
    exact loop_ok (evCode_ok (parquetref10_prime.env N) Tryz_mixed (parquetref10_prime.res_eq N) 391 parquetref10_prime.b4 (AllCut.of (l := []) (by kernel_rfl) AllCut.nil)) h
  · cases h
theorem parquetref10_prime.k3 (N : Nat) : CutOK Tryz.prog Tryz.f31 (parquetref10_prime.E N) (.loop parquetref10_prime.b3) := by
  intro e hd he hh R vs H k r h
  have e1 : (parquetref10_prime.E N).cut (loopKey parquetref10_prime.b3) = some (parquetref10_prime.c3 N) := by kernel_rfl
  have e2 : (parquetref10_prime.E N).hint (loopKey parquetref10_prime.b3) = some parquetref10_prime.h3 := by kernel_rfl
  rw [e1] at he; rw [e2] at hh; cases he; cases hh
  unfold parquetref10_prime.c3 at h; dsimp only at h
  split at h
  · rw [← parquetref10_prime.l3_eq] at h
    exact loop_ok (evCode_ok (parquetref10_prime.env N) Tryz_mixed (parquetref10_prime.res_eq N) 396 parquetref10_prime.b3 (AllCut.of (l := [(.loop (inner ((subLoops parquetref10_prime.body).getD 1 .skip)))]) (by kernel_rfl) (AllCut.cons (parquetref10_prime.k4 N) AllCut.nil))) h
  · cases h
theorem parquetref10_prime.spec (N : Nat) (a1 : Int) (a2 : Int) (a3 : Int) (a4 : Int) (r : Int × Int × Int) (h : parquetref10_prime.f N a1 a2 a3 a4 = some r) : FnSpec Tryz.prog 31 [.agg [.c (.int .i64 a1), .c (.int .i64 a2), .c (.int .i64 a3)], .c (.int .i64 a4)] [] (.agg [.c (.int .i64 r.1), .c (.int .i64 r.2.1), .c (.int .i64 r.2.2)]) ([]) := by
  rw [← parquetref10_prime.f_eq] at h
  obtain ⟨v, bs', h1, h2⟩ := evFun_ok (parquetref10_prime.env N) Tryz_mixed Tryz.func31 (by kernel_rfl : Tryz.f31.body = some parquetref10_prime.body) (by kernel_rfl) (parquetref10_prime.res_eq N) (by kernel_rfl) (by kernel_rfl) (Nat.le_of_ble_eq_true (by kernel_rfl)) (AllCut.of (l := [(.loop (inner ((subLoops parquetref10_prime.body).getD 0 .skip))), (.loop (inner ((subLoops parquetref10_prime.body).getD 1 .skip)))]) (by kernel_rfl) (AllCut.cons (parquetref10_prime.k3 N) (AllCut.cons (parquetref10_prime.k4 N) AllCut.nil))) h
  unfold parquetref10_prime.dec at h1; split at h1
  · cases h1; exact h2
  · cases h1
theorem parquetref10_prime.ent_ok (N : Nat) : TabOK1 Tryz.prog 31 (parquetref10_prime.ent N) := by
  intro args bs a enc h
  simp only [parquetref10_prime.ent] at h
  split at h
  · rename_i hz; have h0 := Option.some.inj h; have h1 := congrArg Prod.fst h0; have h2 := congrArg Prod.snd h0; dsimp only at h1 h2; subst h2; exact FnSpec.of_freeze hz (parquetref10_prime.spec N _ _ _ _ a h1)
  · cases h
/-! parquet/parquetref10.reduced: function 38 -/
noncomputable def parquetref10_reduced.l2 {R : Type} (N : Nat) : Nat → Int → Bool → List Int → Bool → List Int → Int → Int → Int → Bool → List Int → (Int → Int → Int → Option R) → Option R
  | 0, _, _, _, _, _, _, _, _, _, _, _ => none
  | n + 1, x7, x8, x9, x10, x11, x12, x13, x14, x15, x16, kr =>
    (parquetref02_Of.f N 2).bind fun r17 =>
    (parquetref02_Mul.f N x8 x9 r17.1 r17.2).bind fun r18 =>
    (parquetref02_Quo.f N x10 x11 r18.1 r18.2).bind fun r19 =>
    (parquetref02_Cmp.f N r19.2.2.1 r19.2.2.2 x8 x9).bind fun r20 =>
    bif decide (r20 > 0) then
      (parquetref02_Sub.f N r19.2.2.1 r19.2.2.2 r18.1 r18.2).bind fun r21 =>
      (parquetref02_Mul.f N r21.1 r21.2 r21.1 r21.2).bind fun r22 =>
      (parquetref02_Of.f N x7).bind fun r23 =>
      (parquetref02_Sub.f N r22.1 r22.2 r23.1 r23.2).bind fun r24 =>
      (parquetref02_Mul.f N x15 x16 x8 x9).bind fun r25 =>
      (parquetref02_Quo.f N r24.1 r24.2 r25.1 r25.2).bind fun r26 =>
      (parquetref02_Cmp.f N x8 x9 r26.1 r26.2.1).bind fun r27 =>
      bif decide (r27 < 0) then
        (parquetref02_Int64.f N x8 x9).bind fun r28 =>
        (parquetref02_Int64.f N r21.1 r21.2).bind fun r29 =>
        (parquetref02_Int64.f N r26.1 r26.2.1).bind fun r30 =>
        kr r28.1 r29.1 r30.1
      else
      bif r27 == 0 then
        (parquetref02_Sign.f N r21.1 r21.2).bind fun r34 =>
        bif decide (r34 ≥ 0) then
          (parquetref02_Int64.f N x8 x9).bind fun r35 =>
          (parquetref02_Int64.f N r21.1 r21.2).bind fun r36 =>
          (parquetref02_Int64.f N r26.1 r26.2.1).bind fun r37 =>
          kr r35.1 r36.1 r37.1
        else
        (parquetref02_Neg.f N r21.1 r21.2).bind fun r38 =>
        parquetref10_reduced.l2 N n x7 r26.1 r26.2.1 r38.1 r38.2 x12 x13 x14 x15 x16 kr
      else
      (parquetref02_Neg.f N r21.1 r21.2).bind fun r39 =>
      parquetref10_reduced.l2 N n x7 r26.1 r26.2.1 r39.1 r39.2 x12 x13 x14 x15 x16 kr
    else
    (parquetref02_Mul.f N r19.2.2.1 r19.2.2.2 r19.2.2.1 r19.2.2.2).bind fun r40 =>
    (parquetref02_Of.f N x7).bind fun r41 =>
    (parquetref02_Sub.f N r40.1 r40.2 r41.1 r41.2).bind fun r42 =>
    (parquetref02_Mul.f N x15 x16 x8 x9).bind fun r43 =>
    (parquetref02_Quo.f N r42.1 r42.2 r43.1 r43.2).bind fun r44 =>
    (parquetref02_Cmp.f N x8 x9 r44.1 r44.2.1).bind fun r45 =>
    bif decide (r45 < 0) then
      (parquetref02_Int64.f N x8 x9).bind fun r46 =>
      (parquetref02_Int64.f N r19.2.2.1 r19.2.2.2).bind fun r47 =>
      (parquetref02_Int64.f N r44.1 r44.2.1).bind fun r48 =>
      kr r46.1 r47.1 r48.1
    else
    bif r45 == 0 then
      (parquetref02_Sign.f N r19.2.2.1 r19.2.2.2).bind fun r49 =>
      bif decide (r49 ≥ 0) then
        (parquetref02_Int64.f N x8 x9).bind fun r50 =>
        (parquetref02_Int64.f N r19.2.2.1 r19.2.2.2).bind fun r51 =>
        (parquetref02_Int64.f N r44.1 r44.2.1).bind fun r52 =>
        kr r50.1 r51.1 r52.1
      else
      (parquetref02_Neg.f N r19.2.2.1 r19.2.2.2).bind fun r53 =>
      parquetref10_reduced.l2 N n x7 r44.1 r44.2.1 r53.1 r53.2 x12 x13 x14 x15 x16 kr
    else
    (parquetref02_Neg.f N r19.2.2.1 r19.2.2.2).bind fun r54 =>
    parquetref10_reduced.l2 N n x7 r44.1 r44.2.1 r54.1 r54.2 x12 x13 x14 x15 x16 kr
noncomputable def parquetref10_reduced.f (N : Nat) (a1 : Bool) (a2 : List Int) (a3 : Bool) (a4 : List Int) (a5 : Int) : Option (Int × Int × Int) :=
  (parquetref02_Of.f N 4).bind fun r6 =>
  parquetref10_reduced.l2 N N a5 a1 a2 a3 a4 0 0 0 r6.1 r6.2
    (fun y55 y56 y57 =>
      some (y55, y56, y57))
noncomputable def parquetref10_reduced.body : Code := (Tryz.f38.body).getD .skip
noncomputable def parquetref10_reduced.ty : List (Nat × TI) := [(2, ty2), (23, ty23), (53, ty53)]
noncomputable def parquetref10_reduced.h2 : Hint := ⟨[(2, .any), (3, .box [.any, .il .u32 1]), (4, .box [.any, .il .u32 1]), (6, .box [.any, .any, .any]), (7, .box [.any, .il .u32 1])], []⟩
noncomputable def parquetref10_reduced.c2 (N : Nat) : Cut := ⟨fun vs H k => match vs, H with
  | [.c (.int .i64 x7), .ptr 0 0 2, .ptr 1 0 2, .ptr 2 0 3, .ptr 3 0 2], [.vals [.c (.bool x8), .il .u32 1 x9], .vals [.c (.bool x10), .il .u32 1 x11], .vals [.c (.int .i64 x12), .c (.int .i64 x13), .c (.int .i64 x14)], .vals [.c (.bool x15), .il .u32 1 x16]] => parquetref10_reduced.l2 N N x7 x8 x9 x10 x11 x12 x13 x14 x15 x16 (fun x31 x32 x33 => k (.ret (.agg [.c (.int .i64 x31), .c (.int .i64 x32), .c (.int .i64 x33)]) []) .nil)
  | _, _ => none⟩
noncomputable def parquetref10_reduced.E (N : Nat) : Env := { ty := lookN parquetref10_reduced.ty, tab := lookN [(36, parquetref02_Of.ent N), (37, parquetref02_Mul.ent N), (59, parquetref02_Quo.ent N), (60, parquetref02_Cmp.ent N), (61, parquetref02_Sub.ent N), (50, parquetref02_Int64.ent N), (62, parquetref02_Sign.ent N), (51, parquetref02_Neg.ent N)], hint := lookN [(2, parquetref10_reduced.h2)], cut := lookN [(2, parquetref10_reduced.c2 N)], N := N, res := [.cell 6 23], rsh := [.recd [.any, .any, .any]], nb := 0, ntmps := 87, own := false }
noncomputable def parquetref10_reduced.b2 : Code := inner ((subLoops parquetref10_reduced.body).getD 0 .skip)
set_option maxRecDepth 100000 in
theorem parquetref10_reduced.l2_eq {R : Type} (N n : Nat) (x7 : Int) (x8 : Bool) (x9 : List Int) (x10 : Bool) (x11 : List Int) (x12 : Int) (x13 : Int) (x14 : Int) (x15 : Bool) (x16 : List Int) (k : Ex → St → Option R) :
    evLoop 0 parquetref10_reduced.h2 (fun s k => evCode (parquetref10_reduced.E N) 396 parquetref10_reduced.b2 s k) n [.c (.int .i64 x7), .ptr 0 0 2, .ptr 1 0 2, .ptr 2 0 3, .ptr 3 0 2] [.vals [.c (.bool x8), .il .u32 1 x9], .vals [.c (.bool x10), .il .u32 1 x11], .vals [.c (.int .i64 x12), .c (.int .i64 x13), .c (.int .i64 x14)], .vals [.c (.bool x15), .il .u32 1 x16]] k = parquetref10_reduced.l2 N n x7 x8 x9 x10 x11 x12 x13 x14 x15 x16 (fun x31 x32 x33 => k (.ret (.agg [.c (.int .i64 x31), .c (.int .i64 x32), .c (.int .i64 x33)]) []) .nil) := by
  induction n generalizing x7 x8 x9 x10 x11 x12 x13 x14 x15 x16 with
  | zero => kernel_rfl
  | succ n ih =>
    simp only [parquetref10_reduced.l2, ← ih]
    kernel_rfl
noncomputable def parquetref10_reduced.dec (v : V) (bs : List Blk) : Option (Int × Int × Int) := match v, bs with
  | .agg [.c (.int .i64 z0), .c (.int .i64 z1), .c (.int .i64 z2)], [] => some (z0, z1, z2)
  | _, _ => none
set_option maxRecDepth 100000 in
theorem parquetref10_reduced.f_eq (N : Nat) (a1 : Bool) (a2 : List Int) (a3 : Bool) (a4 : List Int) (a5 : Int) :
    evFun (parquetref10_reduced.E N) parquetref10_reduced.body [.agg [.c (.bool a1), .il .u32 1 a2], .agg [.c (.bool a3), .il .u32 1 a4], .c (.int .i64 a5)] [] parquetref10_reduced.dec = parquetref10_reduced.f N a1 a2 a3 a4 a5 := by kernel_rfl
noncomputable def parquetref10_reduced.ent (N : Nat) : Entry := { A := Int × Int × Int, fresh := 0, imm := [true, true, true], dec := fun args bs => match freezeL 0 (fun _ => .dead) [.recd [.any, .il .u32 1], .recd [.any, .il .u32 1], .any] args, bs with
  | some [.agg [.c (.bool a1), .il .u32 1 a2], .agg [.c (.bool a3), .il .u32 1 a4], .c (.int .i64 a5)], [] => some (parquetref10_reduced.f N a1 a2 a3 a4 a5, fun r => .one (.agg [.c (.int .i64 r.1), .c (.int .i64 r.2.1), .c (.int .i64 r.2.2)]) [])
  | _, _ => none }
theorem parquetref10_reduced.env (N : Nat) : EnvOK Tryz.prog (parquetref10_reduced.E N) := ⟨(TyOK.cons ty2_ok (TyOK.cons ty23_ok (TyOK.cons ty53_ok TyOK.nil))), (TabOK.cons (parquetref02_Of.ent_ok N) (TabOK.cons (parquetref02_Mul.ent_ok N) (TabOK.cons (parquetref02_Quo.ent_ok N) (TabOK.cons (parquetref02_Cmp.ent_ok N) (TabOK.cons (parquetref02_Sub.ent_ok N) (TabOK.cons (parquetref02_Int64.ent_ok N) (TabOK.cons (parquetref02_Sign.ent_ok N) (TabOK.cons (parquetref02_Neg.ent_ok N) TabOK.nil))))))))⟩
theorem parquetref10_reduced.res_eq (N : Nat) : (parquetref10_reduced.E N).res = Tryz.f38.results.toList := by kernel_rfl
theorem parquetref10_reduced.k2 (N : Nat) : CutOK Tryz.prog Tryz.f38 (parquetref10_reduced.E N) (.loop parquetref10_reduced.b2) := by
  intro e hd he hh R vs H k r h
  have e1 : (parquetref10_reduced.E N).cut (loopKey parquetref10_reduced.b2) = some (parquetref10_reduced.c2 N) := by kernel_rfl
  have e2 : (parquetref10_reduced.E N).hint (loopKey parquetref10_reduced.b2) = some parquetref10_reduced.h2 := by kernel_rfl
  rw [e1] at he; rw [e2] at hh; cases he; cases hh
  unfold parquetref10_reduced.c2 at h; dsimp only at h
  split at h
  · rw [← parquetref10_reduced.l2_eq] at h
    exact loop_ok (evCode_ok (parquetref10_reduced.env N) Tryz_mixed (parquetref10_reduced.res_eq N) 396 parquetref10_reduced.b2 (AllCut.of (l := []) (by kernel_rfl) AllCut.nil)) h
  · cases h
theorem parquetref10_reduced.spec (N : Nat) (a1 : Bool) (a2 : List Int) (a3 : Bool) (a4 : List Int) (a5 : Int) (r : Int × Int × Int) (h : parquetref10_reduced.f N a1 a2 a3 a4 a5 = some r) : FnSpec Tryz.prog 38 [.agg [.c (.bool a1), .il .u32 1 a2], .agg [.c (.bool a3), .il .u32 1 a4], .c (.int .i64 a5)] [] (.agg [.c (.int .i64 r.1), .c (.int .i64 r.2.1), .c (.int .i64 r.2.2)]) ([]) := by
  rw [← parquetref10_reduced.f_eq] at h
  obtain ⟨v, bs', h1, h2⟩ := evFun_ok (parquetref10_reduced.env N) Tryz_mixed Tryz.func38 (by kernel_rfl : Tryz.f38.body = some parquetref10_reduced.body) (by kernel_rfl) (parquetref10_reduced.res_eq N) (by kernel_rfl) (by kernel_rfl) (Nat.le_of_ble_eq_true (by kernel_rfl)) (AllCut.of (l := [(.loop (inner ((subLoops parquetref10_reduced.body).getD 0 .skip)))]) (by kernel_rfl) (AllCut.cons (parquetref10_reduced.k2 N) AllCut.nil)) h
  unfold parquetref10_reduced.dec at h1; split at h1
  · cases h1; exact h2
  · cases h1
theorem parquetref10_reduced.ent_ok (N : Nat) : TabOK1 Tryz.prog 38 (parquetref10_reduced.ent N) := by
  intro args bs a enc h
  simp only [parquetref10_reduced.ent] at h
  split at h
  · rename_i hz; have h0 := Option.some.inj h; have h1 := congrArg Prod.fst h0; have h2 := congrArg Prod.snd h0; dsimp only at h1 h2; subst h2; exact FnSpec.of_freeze hz (parquetref10_reduced.spec N _ _ _ _ _ a h1)
  · cases h
/-! parquet/parquetref10.Product: function 19 -/
noncomputable def parquetref10_Product.f (N : Nat) (a1 : Int) (a2 : Int) (a3 : Int) (a4 : Int) (a5 : Int) (a6 : Int) : Option (Int × Int × Int) :=
  (parquetref10_prime.f N a4 a5 a6 a1).bind fun r7 =>
  (parquetref08_Disc.f N a1 a2 a3).bind fun r8 =>
  (parquetref04_Mod.f N (wi64 (Int.tdiv (wi64 (r7.2.1 - a2)) 2)) r7.1).bind fun r9 =>
  (parquetref10_inverse.f N a1 r7.1).bind fun r10 =>
  (parquetref04_Times.f N r9 r10 r7.1).bind fun r11 =>
  (parquetref02_Of.f N a2).bind fun r12 =>
  (parquetref02_Of.f N (wi64 (2 * a1))).bind fun r13 =>
  (parquetref02_Of.f N r11).bind fun r14 =>
  (parquetref02_Mul.f N r13.1 r13.2 r14.1 r14.2).bind fun r15 =>
  (parquetref02_Add.f N r12.1 r12.2 r15.1 r15.2).bind fun r16 =>
  (parquetref02_Of.f N a1).bind fun r17 =>
  (parquetref02_Of.f N r7.1).bind fun r18 =>
  (parquetref02_Mul.f N r17.1 r17.2 r18.1 r18.2).bind fun r19 =>
  (parquetref10_reduced.f N r19.1 r19.2 r16.1 r16.2 r8).bind fun r20 =>
  some (r20.1, r20.2.1, r20.2.2)
noncomputable def parquetref10_Product.body : Code := (Tryz.f19.body).getD .skip
noncomputable def parquetref10_Product.ty : List (Nat × TI) := [(2, ty2), (23, ty23), (53, ty53)]
noncomputable def parquetref10_Product.E (N : Nat) : Env := { ty := lookN parquetref10_Product.ty, tab := lookN [(31, parquetref10_prime.ent N), (18, parquetref08_Disc.ent N), (33, parquetref04_Mod.ent N), (34, parquetref10_inverse.ent N), (32, parquetref04_Times.ent N), (36, parquetref02_Of.ent N), (37, parquetref02_Mul.ent N), (35, parquetref02_Add.ent N), (38, parquetref10_reduced.ent N)], hint := lookN [], cut := lookN [], N := N, res := [.cell 4 23], rsh := [.recd [.any, .any, .any]], nb := 0, ntmps := 55, own := false }
noncomputable def parquetref10_Product.dec (v : V) (bs : List Blk) : Option (Int × Int × Int) := match v, bs with
  | .agg [.c (.int .i64 z0), .c (.int .i64 z1), .c (.int .i64 z2)], [] => some (z0, z1, z2)
  | _, _ => none
set_option maxRecDepth 100000 in
theorem parquetref10_Product.f_eq (N : Nat) (a1 : Int) (a2 : Int) (a3 : Int) (a4 : Int) (a5 : Int) (a6 : Int) :
    evFun (parquetref10_Product.E N) parquetref10_Product.body [.agg [.c (.int .i64 a1), .c (.int .i64 a2), .c (.int .i64 a3)], .agg [.c (.int .i64 a4), .c (.int .i64 a5), .c (.int .i64 a6)]] [] parquetref10_Product.dec = parquetref10_Product.f N a1 a2 a3 a4 a5 a6 := by kernel_rfl
noncomputable def parquetref10_Product.ent (N : Nat) : Entry := { A := Int × Int × Int, fresh := 0, imm := [true, true], dec := fun args bs => match freezeL 0 (fun _ => .dead) [.recd [.any, .any, .any], .recd [.any, .any, .any]] args, bs with
  | some [.agg [.c (.int .i64 a1), .c (.int .i64 a2), .c (.int .i64 a3)], .agg [.c (.int .i64 a4), .c (.int .i64 a5), .c (.int .i64 a6)]], [] => some (parquetref10_Product.f N a1 a2 a3 a4 a5 a6, fun r => .one (.agg [.c (.int .i64 r.1), .c (.int .i64 r.2.1), .c (.int .i64 r.2.2)]) [])
  | _, _ => none }
theorem parquetref10_Product.env (N : Nat) : EnvOK Tryz.prog (parquetref10_Product.E N) := ⟨(TyOK.cons ty2_ok (TyOK.cons ty23_ok (TyOK.cons ty53_ok TyOK.nil))), (TabOK.cons (parquetref10_prime.ent_ok N) (TabOK.cons (parquetref08_Disc.ent_ok N) (TabOK.cons (parquetref04_Mod.ent_ok N) (TabOK.cons (parquetref10_inverse.ent_ok N) (TabOK.cons (parquetref04_Times.ent_ok N) (TabOK.cons (parquetref02_Of.ent_ok N) (TabOK.cons (parquetref02_Mul.ent_ok N) (TabOK.cons (parquetref02_Add.ent_ok N) (TabOK.cons (parquetref10_reduced.ent_ok N) TabOK.nil)))))))))⟩
theorem parquetref10_Product.res_eq (N : Nat) : (parquetref10_Product.E N).res = Tryz.f19.results.toList := by kernel_rfl
theorem parquetref10_Product.spec (N : Nat) (a1 : Int) (a2 : Int) (a3 : Int) (a4 : Int) (a5 : Int) (a6 : Int) (r : Int × Int × Int) (h : parquetref10_Product.f N a1 a2 a3 a4 a5 a6 = some r) : FnSpec Tryz.prog 19 [.agg [.c (.int .i64 a1), .c (.int .i64 a2), .c (.int .i64 a3)], .agg [.c (.int .i64 a4), .c (.int .i64 a5), .c (.int .i64 a6)]] [] (.agg [.c (.int .i64 r.1), .c (.int .i64 r.2.1), .c (.int .i64 r.2.2)]) ([]) := by
  rw [← parquetref10_Product.f_eq] at h
  obtain ⟨v, bs', h1, h2⟩ := evFun_ok (parquetref10_Product.env N) Tryz_mixed Tryz.func19 (by kernel_rfl : Tryz.f19.body = some parquetref10_Product.body) (by kernel_rfl) (parquetref10_Product.res_eq N) (by kernel_rfl) (by kernel_rfl) (Nat.le_of_ble_eq_true (by kernel_rfl)) (AllCut.of (l := []) (by kernel_rfl) AllCut.nil) h
  unfold parquetref10_Product.dec at h1; split at h1
  · cases h1; exact h2
  · cases h1
theorem parquetref10_Product.ent_ok (N : Nat) : TabOK1 Tryz.prog 19 (parquetref10_Product.ent N) := by
  intro args bs a enc h
  simp only [parquetref10_Product.ent] at h
  split at h
  · rename_i hz; have h0 := Option.some.inj h; have h1 := congrArg Prod.fst h0; have h2 := congrArg Prod.snd h0; dsimp only at h1 h2; subst h2; exact FnSpec.of_freeze hz (parquetref10_Product.spec N _ _ _ _ _ _ a h1)
  · cases h
/-! parquet/parquetref10.primitive: function 17 -/
noncomputable def parquetref10_primitive.f (N : Nat) (a1 : Int) (a2 : Int) (a3 : Int) : Option (Int × Int × Int × Int) :=
  (parquetref08_Reduce.f N a1 a2 a3).bind fun r4 =>
  bif r4.2.2.2.2.2.2.2 != 0 then
    some (r4.1, r4.2.1, r4.2.2.1, r4.2.2.2.2.2.2.2)
  else
  (parquetref08_Content.f N a1 a2 a3).bind fun r5 =>
  bif r5 != 1 then
    some (0, 0, 0, 81)
  else
  some (r4.1, r4.2.1, r4.2.2.1, 0)
noncomputable def parquetref10_primitive.body : Code := (Tryz.f17.body).getD .skip
noncomputable def parquetref10_primitive.ty : List (Nat × TI) := [(2, ty2), (23, ty23), (37, ty37)]
noncomputable def parquetref10_primitive.E (N : Nat) : Env := { ty := lookN parquetref10_primitive.ty, tab := lookN [(29, parquetref08_Reduce.ent N), (30, parquetref08_Content.ent N)], hint := lookN [], cut := lookN [], N := N, res := [.cell 2 23, .tmp 3], rsh := [.recd [.any, .any, .any], .any], nb := 0, ntmps := 22, own := false }
noncomputable def parquetref10_primitive.dec (v : V) (bs : List Blk) : Option (Int × Int × Int × Int) := match v, bs with
  | .tup [.agg [.c (.int .i64 z0), .c (.int .i64 z1), .c (.int .i64 z2)], .c (.int .i64 z3)], [] => some (z0, z1, z2, z3)
  | _, _ => none
set_option maxRecDepth 100000 in
theorem parquetref10_primitive.f_eq (N : Nat) (a1 : Int) (a2 : Int) (a3 : Int) :
    evFun (parquetref10_primitive.E N) parquetref10_primitive.body [.agg [.c (.int .i64 a1), .c (.int .i64 a2), .c (.int .i64 a3)]] [] parquetref10_primitive.dec = parquetref10_primitive.f N a1 a2 a3 := by kernel_rfl
noncomputable def parquetref10_primitive.ent (N : Nat) : Entry := { A := Int × Int × Int × Int, fresh := 0, imm := [true], dec := fun args bs => match freezeL 0 (fun _ => .dead) [.recd [.any, .any, .any]] args, bs with
  | some [.agg [.c (.int .i64 a1), .c (.int .i64 a2), .c (.int .i64 a3)]], [] => some (parquetref10_primitive.f N a1 a2 a3, fun r => .one (.tup [.agg [.c (.int .i64 r.1), .c (.int .i64 r.2.1), .c (.int .i64 r.2.2.1)], .c (.int .i64 r.2.2.2)]) [])
  | _, _ => none }
theorem parquetref10_primitive.env (N : Nat) : EnvOK Tryz.prog (parquetref10_primitive.E N) := ⟨(TyOK.cons ty2_ok (TyOK.cons ty23_ok (TyOK.cons ty37_ok TyOK.nil))), (TabOK.cons (parquetref08_Reduce.ent_ok N) (TabOK.cons (parquetref08_Content.ent_ok N) TabOK.nil))⟩
theorem parquetref10_primitive.res_eq (N : Nat) : (parquetref10_primitive.E N).res = Tryz.f17.results.toList := by kernel_rfl
theorem parquetref10_primitive.spec (N : Nat) (a1 : Int) (a2 : Int) (a3 : Int) (r : Int × Int × Int × Int) (h : parquetref10_primitive.f N a1 a2 a3 = some r) : FnSpec Tryz.prog 17 [.agg [.c (.int .i64 a1), .c (.int .i64 a2), .c (.int .i64 a3)]] [] (.tup [.agg [.c (.int .i64 r.1), .c (.int .i64 r.2.1), .c (.int .i64 r.2.2.1)], .c (.int .i64 r.2.2.2)]) ([]) := by
  rw [← parquetref10_primitive.f_eq] at h
  obtain ⟨v, bs', h1, h2⟩ := evFun_ok (parquetref10_primitive.env N) Tryz_mixed Tryz.func17 (by kernel_rfl : Tryz.f17.body = some parquetref10_primitive.body) (by kernel_rfl) (parquetref10_primitive.res_eq N) (by kernel_rfl) (by kernel_rfl) (Nat.le_of_ble_eq_true (by kernel_rfl)) (AllCut.of (l := []) (by kernel_rfl) AllCut.nil) h
  unfold parquetref10_primitive.dec at h1; split at h1
  · cases h1; exact h2
  · cases h1
theorem parquetref10_primitive.ent_ok (N : Nat) : TabOK1 Tryz.prog 17 (parquetref10_primitive.ent N) := by
  intro args bs a enc h
  simp only [parquetref10_primitive.ent] at h
  split at h
  · rename_i hz; have h0 := Option.some.inj h; have h1 := congrArg Prod.fst h0; have h2 := congrArg Prod.snd h0; dsimp only at h1 h2; subst h2; exact FnSpec.of_freeze hz (parquetref10_primitive.spec N _ _ _ a h1)
  · cases h
/-! parquet/parquetref10.opposite: function 21 -/
noncomputable def parquetref10_opposite.f (N : Nat) (a1 : Int) (a2 : Int) (a3 : Int) : Option (Int × Int × Int) :=
  (parquetref08_Reduce.f N a1 (wi64 (0 - a2)) a3).bind fun r4 =>
  some (r4.1, r4.2.1, r4.2.2.1)
noncomputable def parquetref10_opposite.body : Code := (Tryz.f21.body).getD .skip
noncomputable def parquetref10_opposite.ty : List (Nat × TI) := [(2, ty2), (23, ty23), (37, ty37)]
noncomputable def parquetref10_opposite.E (N : Nat) : Env := { ty := lookN parquetref10_opposite.ty, tab := lookN [(29, parquetref08_Reduce.ent N)], hint := lookN [], cut := lookN [], N := N, res := [.cell 2 23], rsh := [.recd [.any, .any, .any]], nb := 0, ntmps := 20, own := false }
noncomputable def parquetref10_opposite.dec (v : V) (bs : List Blk) : Option (Int × Int × Int) := match v, bs with
  | .agg [.c (.int .i64 z0), .c (.int .i64 z1), .c (.int .i64 z2)], [] => some (z0, z1, z2)
  | _, _ => none
set_option maxRecDepth 100000 in
theorem parquetref10_opposite.f_eq (N : Nat) (a1 : Int) (a2 : Int) (a3 : Int) :
    evFun (parquetref10_opposite.E N) parquetref10_opposite.body [.agg [.c (.int .i64 a1), .c (.int .i64 a2), .c (.int .i64 a3)]] [] parquetref10_opposite.dec = parquetref10_opposite.f N a1 a2 a3 := by kernel_rfl
noncomputable def parquetref10_opposite.ent (N : Nat) : Entry := { A := Int × Int × Int, fresh := 0, imm := [true], dec := fun args bs => match freezeL 0 (fun _ => .dead) [.recd [.any, .any, .any]] args, bs with
  | some [.agg [.c (.int .i64 a1), .c (.int .i64 a2), .c (.int .i64 a3)]], [] => some (parquetref10_opposite.f N a1 a2 a3, fun r => .one (.agg [.c (.int .i64 r.1), .c (.int .i64 r.2.1), .c (.int .i64 r.2.2)]) [])
  | _, _ => none }
theorem parquetref10_opposite.env (N : Nat) : EnvOK Tryz.prog (parquetref10_opposite.E N) := ⟨(TyOK.cons ty2_ok (TyOK.cons ty23_ok (TyOK.cons ty37_ok TyOK.nil))), (TabOK.cons (parquetref08_Reduce.ent_ok N) TabOK.nil)⟩
theorem parquetref10_opposite.res_eq (N : Nat) : (parquetref10_opposite.E N).res = Tryz.f21.results.toList := by kernel_rfl
theorem parquetref10_opposite.spec (N : Nat) (a1 : Int) (a2 : Int) (a3 : Int) (r : Int × Int × Int) (h : parquetref10_opposite.f N a1 a2 a3 = some r) : FnSpec Tryz.prog 21 [.agg [.c (.int .i64 a1), .c (.int .i64 a2), .c (.int .i64 a3)]] [] (.agg [.c (.int .i64 r.1), .c (.int .i64 r.2.1), .c (.int .i64 r.2.2)]) ([]) := by
  rw [← parquetref10_opposite.f_eq] at h
  obtain ⟨v, bs', h1, h2⟩ := evFun_ok (parquetref10_opposite.env N) Tryz_mixed Tryz.func21 (by kernel_rfl : Tryz.f21.body = some parquetref10_opposite.body) (by kernel_rfl) (parquetref10_opposite.res_eq N) (by kernel_rfl) (by kernel_rfl) (Nat.le_of_ble_eq_true (by kernel_rfl)) (AllCut.of (l := []) (by kernel_rfl) AllCut.nil) h
  unfold parquetref10_opposite.dec at h1; split at h1
  · cases h1; exact h2
  · cases h1
theorem parquetref10_opposite.ent_ok (N : Nat) : TabOK1 Tryz.prog 21 (parquetref10_opposite.ent N) := by
  intro args bs a enc h
  simp only [parquetref10_opposite.ent] at h
  split at h
  · rename_i hz; have h0 := Option.some.inj h; have h1 := congrArg Prod.fst h0; have h2 := congrArg Prod.snd h0; dsimp only at h1 h2; subst h2; exact FnSpec.of_freeze hz (parquetref10_opposite.spec N _ _ _ a h1)
  · cases h
/-! parquet/parquetref10.Compose: function 6 -/
noncomputable def parquetref10_Compose.f (N : Nat) (a1 : Int) (a2 : Int) (a3 : Int) (a4 : Int) (a5 : Int) (a6 : Int) : Option (Int × Int × Int × Int) :=
  (parquetref08_Check.f N a1 a2 a3).bind fun r7 =>
  bif r7 != 0 then
    some (0, 0, 0, r7)
  else
  (parquetref08_Check.f N a4 a5 a6).bind fun r8 =>
  bif r8 != 0 then
    some (0, 0, 0, r8)
  else
  (parquetref10_primitive.f N a1 a2 a3).bind fun r9 =>
  bif r9.2.2.2 != 0 then
    some (0, 0, 0, r9.2.2.2)
  else
  (parquetref10_primitive.f N a4 a5 a6).bind fun r10 =>
  bif r10.2.2.2 != 0 then
    some (0, 0, 0, r10.2.2.2)
  else
  (parquetref08_Disc.f N a1 a2 a3).bind fun r11 =>
  (parquetref08_Disc.f N a4 a5 a6).bind fun r12 =>
  bif r11 != r12 then
    some (0, 0, 0, 100)
  else
  (parquetref10_Product.f N r9.1 r9.2.1 r9.2.2.1 r10.1 r10.2.1 r10.2.2.1).bind fun r13 =>
  some (r13.1, r13.2.1, r13.2.2, 0)
noncomputable def parquetref10_Compose.body : Code := (Tryz.f6.body).getD .skip
noncomputable def parquetref10_Compose.ty : List (Nat × TI) := [(2, ty2), (23, ty23)]
noncomputable def parquetref10_Compose.E (N : Nat) : Env := { ty := lookN parquetref10_Compose.ty, tab := lookN [(16, parquetref08_Check.ent N), (17, parquetref10_primitive.ent N), (18, parquetref08_Disc.ent N), (19, parquetref10_Product.ent N)], hint := lookN [], cut := lookN [], N := N, res := [.cell 4 23, .tmp 5], rsh := [.recd [.any, .any, .any], .any], nb := 0, ntmps := 48, own := false }
noncomputable def parquetref10_Compose.dec (v : V) (bs : List Blk) : Option (Int × Int × Int × Int) := match v, bs with
  | .tup [.agg [.c (.int .i64 z0), .c (.int .i64 z1), .c (.int .i64 z2)], .c (.int .i64 z3)], [] => some (z0, z1, z2, z3)
  | _, _ => none
set_option maxRecDepth 100000 in
theorem parquetref10_Compose.f_eq (N : Nat) (a1 : Int) (a2 : Int) (a3 : Int) (a4 : Int) (a5 : Int) (a6 : Int) :
    evFun (parquetref10_Compose.E N) parquetref10_Compose.body [.agg [.c (.int .i64 a1), .c (.int .i64 a2), .c (.int .i64 a3)], .agg [.c (.int .i64 a4), .c (.int .i64 a5), .c (.int .i64 a6)]] [] parquetref10_Compose.dec = parquetref10_Compose.f N a1 a2 a3 a4 a5 a6 := by kernel_rfl
noncomputable def parquetref10_Compose.ent (N : Nat) : Entry := { A := Int × Int × Int × Int, fresh := 0, imm := [true, true], dec := fun args bs => match freezeL 0 (fun _ => .dead) [.recd [.any, .any, .any], .recd [.any, .any, .any]] args, bs with
  | some [.agg [.c (.int .i64 a1), .c (.int .i64 a2), .c (.int .i64 a3)], .agg [.c (.int .i64 a4), .c (.int .i64 a5), .c (.int .i64 a6)]], [] => some (parquetref10_Compose.f N a1 a2 a3 a4 a5 a6, fun r => .one (.tup [.agg [.c (.int .i64 r.1), .c (.int .i64 r.2.1), .c (.int .i64 r.2.2.1)], .c (.int .i64 r.2.2.2)]) [])
  | _, _ => none }
theorem parquetref10_Compose.env (N : Nat) : EnvOK Tryz.prog (parquetref10_Compose.E N) := ⟨(TyOK.cons ty2_ok (TyOK.cons ty23_ok TyOK.nil)), (TabOK.cons (parquetref08_Check.ent_ok N) (TabOK.cons (parquetref10_primitive.ent_ok N) (TabOK.cons (parquetref08_Disc.ent_ok N) (TabOK.cons (parquetref10_Product.ent_ok N) TabOK.nil))))⟩
theorem parquetref10_Compose.res_eq (N : Nat) : (parquetref10_Compose.E N).res = Tryz.f6.results.toList := by kernel_rfl
theorem parquetref10_Compose.spec (N : Nat) (a1 : Int) (a2 : Int) (a3 : Int) (a4 : Int) (a5 : Int) (a6 : Int) (r : Int × Int × Int × Int) (h : parquetref10_Compose.f N a1 a2 a3 a4 a5 a6 = some r) : FnSpec Tryz.prog 6 [.agg [.c (.int .i64 a1), .c (.int .i64 a2), .c (.int .i64 a3)], .agg [.c (.int .i64 a4), .c (.int .i64 a5), .c (.int .i64 a6)]] [] (.tup [.agg [.c (.int .i64 r.1), .c (.int .i64 r.2.1), .c (.int .i64 r.2.2.1)], .c (.int .i64 r.2.2.2)]) ([]) := by
  rw [← parquetref10_Compose.f_eq] at h
  obtain ⟨v, bs', h1, h2⟩ := evFun_ok (parquetref10_Compose.env N) Tryz_mixed Tryz.func6 (by kernel_rfl : Tryz.f6.body = some parquetref10_Compose.body) (by kernel_rfl) (parquetref10_Compose.res_eq N) (by kernel_rfl) (by kernel_rfl) (Nat.le_of_ble_eq_true (by kernel_rfl)) (AllCut.of (l := []) (by kernel_rfl) AllCut.nil) h
  unfold parquetref10_Compose.dec at h1; split at h1
  · cases h1; exact h2
  · cases h1
theorem parquetref10_Compose.ent_ok (N : Nat) : TabOK1 Tryz.prog 6 (parquetref10_Compose.ent N) := by
  intro args bs a enc h
  simp only [parquetref10_Compose.ent] at h
  split at h
  · rename_i hz; have h0 := Option.some.inj h; have h1 := congrArg Prod.fst h0; have h2 := congrArg Prod.snd h0; dsimp only at h1 h2; subst h2; exact FnSpec.of_freeze hz (parquetref10_Compose.spec N _ _ _ _ _ _ a h1)
  · cases h
/-! parquet/parquetref10.Inverse: function 8 -/
noncomputable def parquetref10_Inverse.f (N : Nat) (a1 : Int) (a2 : Int) (a3 : Int) : Option (Int × Int × Int × Int) :=
  (parquetref10_primitive.f N a1 a2 a3).bind fun r4 =>
  bif r4.2.2.2 != 0 then
    some (0, 0, 0, r4.2.2.2)
  else
  (parquetref10_opposite.f N r4.1 r4.2.1 r4.2.2.1).bind fun r5 =>
  some (r5.1, r5.2.1, r5.2.2, 0)
noncomputable def parquetref10_Inverse.body : Code := (Tryz.f8.body).getD .skip
noncomputable def parquetref10_Inverse.ty : List (Nat × TI) := [(2, ty2), (23, ty23)]
noncomputable def parquetref10_Inverse.E (N : Nat) : Env := { ty := lookN parquetref10_Inverse.ty, tab := lookN [(17, parquetref10_primitive.ent N), (21, parquetref10_opposite.ent N)], hint := lookN [], cut := lookN [], N := N, res := [.cell 2 23, .tmp 3], rsh := [.recd [.any, .any, .any], .any], nb := 0, ntmps := 17, own := false }
noncomputable def parquetref10_Inverse.dec (v : V) (bs : List Blk) : Option (Int × Int × Int × Int) := match v, bs with
  | .tup [.agg [.c (.int .i64 z0), .c (.int .i64 z1), .c (.int .i64 z2)], .c (.int .i64 z3)], [] => some (z0, z1, z2, z3)
  | _, _ => none
set_option maxRecDepth 100000 in
theorem parquetref10_Inverse.f_eq (N : Nat) (a1 : Int) (a2 : Int) (a3 : Int) :
    evFun (parquetref10_Inverse.E N) parquetref10_Inverse.body [.agg [.c (.int .i64 a1), .c (.int .i64 a2), .c (.int .i64 a3)]] [] parquetref10_Inverse.dec = parquetref10_Inverse.f N a1 a2 a3 := by kernel_rfl
noncomputable def parquetref10_Inverse.ent (N : Nat) : Entry := { A := Int × Int × Int × Int, fresh := 0, imm := [true], dec := fun args bs => match freezeL 0 (fun _ => .dead) [.recd [.any, .any, .any]] args, bs with
  | some [.agg [.c (.int .i64 a1), .c (.int .i64 a2), .c (.int .i64 a3)]], [] => some (parquetref10_Inverse.f N a1 a2 a3, fun r => .one (.tup [.agg [.c (.int .i64 r.1), .c (.int .i64 r.2.1), .c (.int .i64 r.2.2.1)], .c (.int .i64 r.2.2.2)]) [])
  | _, _ => none }
theorem parquetref10_Inverse.env (N : Nat) : EnvOK Tryz.prog (parquetref10_Inverse.E N) := ⟨(TyOK.cons ty2_ok (TyOK.cons ty23_ok TyOK.nil)), (TabOK.cons (parquetref10_primitive.ent_ok N) (TabOK.cons (parquetref10_opposite.ent_ok N) TabOK.nil))⟩
theorem parquetref10_Inverse.res_eq (N : Nat) : (parquetref10_Inverse.E N).res = Tryz.f8.results.toList := by kernel_rfl
theorem parquetref10_Inverse.spec (N : Nat) (a1 : Int) (a2 : Int) (a3 : Int) (r : Int × Int × Int × Int) (h : parquetref10_Inverse.f N a1 a2 a3 = some r) : FnSpec Tryz.prog 8 [.agg [.c (.int .i64 a1), .c (.int .i64 a2), .c (.int .i64 a3)]] [] (.tup [.agg [.c (.int .i64 r.1), .c (.int .i64 r.2.1), .c (.int .i64 r.2.2.1)], .c (.int .i64 r.2.2.2)]) ([]) := by
  rw [← parquetref10_Inverse.f_eq] at h
  obtain ⟨v, bs', h1, h2⟩ := evFun_ok (parquetref10_Inverse.env N) Tryz_mixed Tryz.func8 (by kernel_rfl : Tryz.f8.body = some parquetref10_Inverse.body) (by kernel_rfl) (parquetref10_Inverse.res_eq N) (by kernel_rfl) (by kernel_rfl) (Nat.le_of_ble_eq_true (by kernel_rfl)) (AllCut.of (l := []) (by kernel_rfl) AllCut.nil) h
  unfold parquetref10_Inverse.dec at h1; split at h1
  · cases h1; exact h2
  · cases h1
theorem parquetref10_Inverse.ent_ok (N : Nat) : TabOK1 Tryz.prog 8 (parquetref10_Inverse.ent N) := by
  intro args bs a enc h
  simp only [parquetref10_Inverse.ent] at h
  split at h
  · rename_i hz; have h0 := Option.some.inj h; have h1 := congrArg Prod.fst h0; have h2 := congrArg Prod.snd h0; dsimp only at h1 h2; subst h2; exact FnSpec.of_freeze hz (parquetref10_Inverse.spec N _ _ _ a h1)
  · cases h
/-! parquet/parquetref10.Power: function 11 -/
noncomputable def parquetref10_Power.l9 {R : Type} (N : Nat) : Nat → Int → Int → Int → Int → Int → Int → Int → Int → Int → Int → (Int → Int → Int → Int → Int → Int → Option R) → Option R
  | 0, _, _, _, _, _, _, _, _, _, _, _ => none
  | n + 1, x9, x10, x11, x12, x13, x14, x15, x16, x17, x18, k0 =>
    bif decide (x9 > 0) then
      bif (Int.tmod x9 2) == 1 then
        (parquetref10_Product.f N x16 x17 x18 x13 x14 x15).bind fun r19 =>
        (parquetref10_Product.f N x13 x14 x15 x13 x14 x15).bind fun r20 =>
        parquetref10_Power.l9 N n (wu64 (Int.tdiv x9 2)) x10 x11 x12 r20.1 r20.2.1 r20.2.2 r19.1 r19.2.1 r19.2.2 k0
      else
      (parquetref10_Product.f N x13 x14 x15 x13 x14 x15).bind fun r21 =>
      parquetref10_Power.l9 N n (wu64 (Int.tdiv x9 2)) x10 x11 x12 r21.1 r21.2.1 r21.2.2 x16 x17 x18 k0
    else
    k0 x10 x11 x12 x16 x17 x18
noncomputable def parquetref10_Power.f (N : Nat) (a1 : Int) (a2 : Int) (a3 : Int) (a4 : Int) : Option (Int × Int × Int × Int) :=
  (parquetref10_primitive.f N a1 a2 a3).bind fun r5 =>
  bif r5.2.2.2 != 0 then
    some (0, 0, 0, r5.2.2.2)
  else
  bif decide (a4 < 0) then
    (parquetref10_opposite.f N r5.1 r5.2.1 r5.2.2.1).bind fun r6 =>
    (parquetref08_Disc.f N a1 a2 a3).bind fun r7 =>
    (parquetref10_One.f N r7).bind fun r8 =>
    parquetref10_Power.l9 N N (wu64 (0 - (wu64 a4))) 0 0 0 r6.1 r6.2.1 r6.2.2 r8.1 r8.2.1 r8.2.2.1
      (fun y28 y29 y30 y31 y32 y33 =>
        some (y31, y32, y33, 0))
  else
  (parquetref08_Disc.f N a1 a2 a3).bind fun r34 =>
  (parquetref10_One.f N r34).bind fun r35 =>
  parquetref10_Power.l9 N N (wu64 a4) 0 0 0 r5.1 r5.2.1 r5.2.2.1 r35.1 r35.2.1 r35.2.2.1
    (fun y36 y37 y38 y39 y40 y41 =>
      some (y39, y40, y41, 0))
noncomputable def parquetref10_Power.body : Code := (Tryz.f11.body).getD .skip
noncomputable def parquetref10_Power.ty : List (Nat × TI) := [(2, ty2), (23, ty23), (41, ty41)]
noncomputable def parquetref10_Power.h9 : Hint := ⟨[(4, .box [.any, .any, .any]), (6, .box [.any, .any, .any]), (8, .any), (9, .box [.any, .any, .any])], [(4, .box [.any, .any, .any]), (9, .box [.any, .any, .any])]⟩
noncomputable def parquetref10_Power.c9 (N : Nat) : Cut := ⟨fun vs H k => match vs, H with
  | [.ptr 0 0 3, .ptr 1 0 3, .c (.int .u64 x9), .ptr 2 0 3], [.vals [.c (.int .i64 x10), .c (.int .i64 x11), .c (.int .i64 x12)], .vals [.c (.int .i64 x13), .c (.int .i64 x14), .c (.int .i64 x15)], .vals [.c (.int .i64 x16), .c (.int .i64 x17), .c (.int .i64 x18)]] => parquetref10_Power.l9 N N x9 x10 x11 x12 x13 x14 x15 x16 x17 x18 (fun x22 x23 x24 x25 x26 x27 => k (.exit 0) ⟨mkT parquetref10_Power.h9.out [.ptr 0 0 3, .ptr 1 0 3], [.vals [.c (.int .i64 x22), .c (.int .i64 x23), .c (.int .i64 x24)], .vals [.c (.int .i64 x25), .c (.int .i64 x26), .c (.int .i64 x27)]]⟩)
  | _, _ => none⟩
noncomputable def parquetref10_Power.E (N : Nat) : Env := { ty := lookN parquetref10_Power.ty, tab := lookN [(17, parquetref10_primitive.ent N), (21, parquetref10_opposite.ent N), (18, parquetref08_Disc.ent N), (23, parquetref10_One.ent N), (19, parquetref10_Product.ent N)], hint := lookN [(9, parquetref10_Power.h9)], cut := lookN [(9, parquetref10_Power.c9 N)], N := N, res := [.cell 4 23, .tmp 5], rsh := [.recd [.any, .any, .any], .any], nb := 0, ntmps := 48, own := false }
noncomputable def parquetref10_Power.b9 : Code := inner ((subLoops parquetref10_Power.body).getD 0 .skip)
set_option maxRecDepth 100000 in
theorem parquetref10_Power.l9_eq {R : Type} (N n : Nat) (x9 : Int) (x10 : Int) (x11 : Int) (x12 : Int) (x13 : Int) (x14 : Int) (x15 : Int) (x16 : Int) (x17 : Int) (x18 : Int) (k : Ex → St → Option R) :
    evLoop 0 parquetref10_Power.h9 (fun s k => evCode (parquetref10_Power.E N) 391 parquetref10_Power.b9 s k) n [.ptr 0 0 3, .ptr 1 0 3, .c (.int .u64 x9), .ptr 2 0 3] [.vals [.c (.int .i64 x10), .c (.int .i64 x11), .c (.int .i64 x12)], .vals [.c (.int .i64 x13), .c (.int .i64 x14), .c (.int .i64 x15)], .vals [.c (.int .i64 x16), .c (.int .i64 x17), .c (.int .i64 x18)]] k = parquetref10_Power.l9 N n x9 x10 x11 x12 x13 x14 x15 x16 x17 x18 (fun x22 x23 x24 x25 x26 x27 => k (.exit 0) ⟨mkT parquetref10_Power.h9.out [.ptr 0 0 3, .ptr 1 0 3], [.vals [.c (.int .i64 x22), .c (.int .i64 x23), .c (.int .i64 x24)], .vals [.c (.int .i64 x25), .c (.int .i64 x26), .c (.int .i64 x27)]]⟩) := by
  induction n generalizing x9 x10 x11 x12 x13 x14 x15 x16 x17 x18 with
  | zero => kernel_rfl
  | succ n ih =>
    simp only [parquetref10_Power.l9, ← ih]
    kernel_rfl
noncomputable def parquetref10_Power.dec (v : V) (bs : List Blk) : Option (Int × Int × Int × Int) := match v, bs with
  | .tup [.agg [.c (.int .i64 z0), .c (.int .i64 z1), .c (.int .i64 z2)], .c (.int .i64 z3)], [] => some (z0, z1, z2, z3)
  | _, _ => none
set_option maxRecDepth 100000 in
theorem parquetref10_Power.f_eq (N : Nat) (a1 : Int) (a2 : Int) (a3 : Int) (a4 : Int) :
    evFun (parquetref10_Power.E N) parquetref10_Power.body [.agg [.c (.int .i64 a1), .c (.int .i64 a2), .c (.int .i64 a3)], .c (.int .i64 a4)] [] parquetref10_Power.dec = parquetref10_Power.f N a1 a2 a3 a4 := by kernel_rfl
noncomputable def parquetref10_Power.ent (N : Nat) : Entry := { A := Int × Int × Int × Int, fresh := 0, imm := [true, true], dec := fun args bs => match freezeL 0 (fun _ => .dead) [.recd [.any, .any, .any], .any] args, bs with
  | some [.agg [.c (.int .i64 a1), .c (.int .i64 a2), .c (.int .i64 a3)], .c (.int .i64 a4)], [] => some (parquetref10_Power.f N a1 a2 a3 a4, fun r => .one (.tup [.agg [.c (.int .i64 r.1), .c (.int .i64 r.2.1), .c (.int .i64 r.2.2.1)], .c (.int .i64 r.2.2.2)]) [])
  | _, _ => none }
theorem parquetref10_Power.env (N : Nat) : EnvOK Tryz.prog (parquetref10_Power.E N) := ⟨(TyOK.cons ty2_ok (TyOK.cons ty23_ok (TyOK.cons ty41_ok TyOK.nil))), (TabOK.cons (parquetref10_primitive.ent_ok N) (TabOK.cons (parquetref10_opposite.ent_ok N) (TabOK.cons (parquetref08_Disc.ent_ok N) (TabOK.cons (parquetref10_One.ent_ok N) (TabOK.cons (parquetref10_Product.ent_ok N) TabOK.nil)))))⟩
theorem parquetref10_Power.res_eq (N : Nat) : (parquetref10_Power.E N).res = Tryz.f11.results.toList := by kernel_rfl
theorem parquetref10_Power.k9 (N : Nat) : CutOK Tryz.prog Tryz.f11 (parquetref10_Power.E N) (.loop parquetref10_Power.b9) := by
  intro e hd he hh R vs H k r h
  have e1 : (parquetref10_Power.E N).cut (loopKey parquetref10_Power.b9) = some (parquetref10_Power.c9 N) := by kernel_rfl
  have e2 : (parquetref10_Power.E N).hint (loopKey parquetref10_Power.b9) = some parquetref10_Power.h9 := by kernel_rfl
  rw [e1] at he; rw [e2] at hh; cases he; cases hh
  unfold parquetref10_Power.c9 at h; dsimp only at h
  split at h
  · rw [← parquetref10_Power.l9_eq] at h
    exact loop_ok (evCode_ok (parquetref10_Power.env N) Tryz_mixed (parquetref10_Power.res_eq N) 391 parquetref10_Power.b9 (AllCut.of (l := []) (by kernel_rfl) AllCut.nil)) h
  · cases h
theorem parquetref10_Power.spec (N : Nat) (a1 : Int) (a2 : Int) (a3 : Int) (a4 : Int) (r : Int × Int × Int × Int) (h : parquetref10_Power.f N a1 a2 a3 a4 = some r) : FnSpec Tryz.prog 11 [.agg [.c (.int .i64 a1), .c (.int .i64 a2), .c (.int .i64 a3)], .c (.int .i64 a4)] [] (.tup [.agg [.c (.int .i64 r.1), .c (.int .i64 r.2.1), .c (.int .i64 r.2.2.1)], .c (.int .i64 r.2.2.2)]) ([]) := by
  rw [← parquetref10_Power.f_eq] at h
  obtain ⟨v, bs', h1, h2⟩ := evFun_ok (parquetref10_Power.env N) Tryz_mixed Tryz.func11 (by kernel_rfl : Tryz.f11.body = some parquetref10_Power.body) (by kernel_rfl) (parquetref10_Power.res_eq N) (by kernel_rfl) (by kernel_rfl) (Nat.le_of_ble_eq_true (by kernel_rfl)) (AllCut.of (l := [(.loop (inner ((subLoops parquetref10_Power.body).getD 0 .skip)))]) (by kernel_rfl) (AllCut.cons (parquetref10_Power.k9 N) AllCut.nil)) h
  unfold parquetref10_Power.dec at h1; split at h1
  · cases h1; exact h2
  · cases h1
theorem parquetref10_Power.ent_ok (N : Nat) : TabOK1 Tryz.prog 11 (parquetref10_Power.ent N) := by
  intro args bs a enc h
  simp only [parquetref10_Power.ent] at h
  split at h
  · rename_i hz; have h0 := Option.some.inj h; have h1 := congrArg Prod.fst h0; have h2 := congrArg Prod.snd h0; dsimp only at h1 h2; subst h2; exact FnSpec.of_freeze hz (parquetref10_Power.spec N _ _ _ _ a h1)
  · cases h
/-! parquet/parquetlaw10.ComposePairs: function 3 -/
noncomputable def parquetlaw10_ComposePairs.f (N : Nat) (a1 : Int) (a2 : Int) (a3 : Int) (a4 : Int) (a5 : Int) (a6 : Int) : Option (Bool) :=
  (compose_Compose.f N a1 a2 a3 a4 a5 a6).bind fun r7 =>
  (parquetref10_Compose.f N a1 a2 a3 a4 a5 a6).bind fun r8 =>
  (compose_Inverse.f N a1 a2 a3).bind fun r9 =>
  (parquetref10_Inverse.f N a1 a2 a3).bind fun r10 =>
  bif (r7.1 == r8.1) && ((r7.2.1 == r8.2.1) && (r7.2.2.1 == r8.2.2.1)) then
    bif r7.2.2.2 == r8.2.2.2 then
      bif (r9.1 == r10.1) && ((r9.2.1 == r10.2.1) && (r9.2.2.1 == r10.2.2.1)) then
        bif r9.2.2.2 == r10.2.2.2 then
          (parquetlaw10_wakes.f N).bind fun r11 =>
          some r11
        else
        some false
      else
      some false
    else
    some false
  else
  some false
noncomputable def parquetlaw10_ComposePairs.body : Code := (Tryz.f3.body).getD .skip
noncomputable def parquetlaw10_ComposePairs.ty : List (Nat × TI) := [(2, ty2), (23, ty23)]
noncomputable def parquetlaw10_ComposePairs.E (N : Nat) : Env := { ty := lookN parquetlaw10_ComposePairs.ty, tab := lookN [(5, compose_Compose.ent N), (6, parquetref10_Compose.ent N), (7, compose_Inverse.ent N), (8, parquetref10_Inverse.ent N), (9, parquetlaw10_wakes.ent N)], hint := lookN [], cut := lookN [], N := N, res := [.tmp 4], rsh := [.any], nb := 0, ntmps := 56, own := false }
noncomputable def parquetlaw10_ComposePairs.dec (v : V) (bs : List Blk) : Option (Bool) := match v, bs with
  | .c (.bool z0), [] => some z0
  | _, _ => none
set_option maxRecDepth 100000 in
theorem parquetlaw10_ComposePairs.f_eq (N : Nat) (a1 : Int) (a2 : Int) (a3 : Int) (a4 : Int) (a5 : Int) (a6 : Int) :
    evFun (parquetlaw10_ComposePairs.E N) parquetlaw10_ComposePairs.body [.agg [.c (.int .i64 a1), .c (.int .i64 a2), .c (.int .i64 a3)], .agg [.c (.int .i64 a4), .c (.int .i64 a5), .c (.int .i64 a6)]] [] parquetlaw10_ComposePairs.dec = parquetlaw10_ComposePairs.f N a1 a2 a3 a4 a5 a6 := by kernel_rfl
noncomputable def parquetlaw10_ComposePairs.ent (N : Nat) : Entry := { A := Bool, fresh := 0, imm := [true, true], dec := fun args bs => match freezeL 0 (fun _ => .dead) [.recd [.any, .any, .any], .recd [.any, .any, .any]] args, bs with
  | some [.agg [.c (.int .i64 a1), .c (.int .i64 a2), .c (.int .i64 a3)], .agg [.c (.int .i64 a4), .c (.int .i64 a5), .c (.int .i64 a6)]], [] => some (parquetlaw10_ComposePairs.f N a1 a2 a3 a4 a5 a6, fun r => .one (.c (.bool r)) [])
  | _, _ => none }
theorem parquetlaw10_ComposePairs.env (N : Nat) : EnvOK Tryz.prog (parquetlaw10_ComposePairs.E N) := ⟨(TyOK.cons ty2_ok (TyOK.cons ty23_ok TyOK.nil)), (TabOK.cons (compose_Compose.ent_ok N) (TabOK.cons (parquetref10_Compose.ent_ok N) (TabOK.cons (compose_Inverse.ent_ok N) (TabOK.cons (parquetref10_Inverse.ent_ok N) (TabOK.cons (parquetlaw10_wakes.ent_ok N) TabOK.nil)))))⟩
theorem parquetlaw10_ComposePairs.res_eq (N : Nat) : (parquetlaw10_ComposePairs.E N).res = Tryz.f3.results.toList := by kernel_rfl
theorem parquetlaw10_ComposePairs.spec (N : Nat) (a1 : Int) (a2 : Int) (a3 : Int) (a4 : Int) (a5 : Int) (a6 : Int) (r : Bool) (h : parquetlaw10_ComposePairs.f N a1 a2 a3 a4 a5 a6 = some r) : FnSpec Tryz.prog 3 [.agg [.c (.int .i64 a1), .c (.int .i64 a2), .c (.int .i64 a3)], .agg [.c (.int .i64 a4), .c (.int .i64 a5), .c (.int .i64 a6)]] [] (.c (.bool r)) ([]) := by
  rw [← parquetlaw10_ComposePairs.f_eq] at h
  obtain ⟨v, bs', h1, h2⟩ := evFun_ok (parquetlaw10_ComposePairs.env N) Tryz_mixed Tryz.func3 (by kernel_rfl : Tryz.f3.body = some parquetlaw10_ComposePairs.body) (by kernel_rfl) (parquetlaw10_ComposePairs.res_eq N) (by kernel_rfl) (by kernel_rfl) (Nat.le_of_ble_eq_true (by kernel_rfl)) (AllCut.of (l := []) (by kernel_rfl) AllCut.nil) h
  unfold parquetlaw10_ComposePairs.dec at h1; split at h1
  · cases h1; exact h2
  · cases h1
theorem parquetlaw10_ComposePairs.ent_ok (N : Nat) : TabOK1 Tryz.prog 3 (parquetlaw10_ComposePairs.ent N) := by
  intro args bs a enc h
  simp only [parquetlaw10_ComposePairs.ent] at h
  split at h
  · rename_i hz; have h0 := Option.some.inj h; have h1 := congrArg Prod.fst h0; have h2 := congrArg Prod.snd h0; dsimp only at h1 h2; subst h2; exact FnSpec.of_freeze hz (parquetlaw10_ComposePairs.spec N _ _ _ _ _ _ a h1)
  · cases h
/-! parquet/parquetlaw10.ComposePowers: function 4 -/
noncomputable def parquetlaw10_ComposePowers.f (N : Nat) (a1 : Int) (a2 : Int) (a3 : Int) (a4 : Int) : Option (Bool) :=
  (compose_Power.f N a1 a2 a3 a4).bind fun r5 =>
  (parquetref10_Power.f N a1 a2 a3 a4).bind fun r6 =>
  bif (r5.1 == r6.1) && ((r5.2.1 == r6.2.1) && (r5.2.2.1 == r6.2.2.1)) then
    bif r5.2.2.2 == r6.2.2.2 then
      (parquetlaw10_wakes.f N).bind fun r7 =>
      some r7
    else
    some false
  else
  some false
noncomputable def parquetlaw10_ComposePowers.body : Code := (Tryz.f4.body).getD .skip
noncomputable def parquetlaw10_ComposePowers.ty : List (Nat × TI) := [(2, ty2), (23, ty23)]
noncomputable def parquetlaw10_ComposePowers.E (N : Nat) : Env := { ty := lookN parquetlaw10_ComposePowers.ty, tab := lookN [(10, compose_Power.ent N), (11, parquetref10_Power.ent N), (9, parquetlaw10_wakes.ent N)], hint := lookN [], cut := lookN [], N := N, res := [.tmp 4], rsh := [.any], nb := 0, ntmps := 32, own := false }
noncomputable def parquetlaw10_ComposePowers.dec (v : V) (bs : List Blk) : Option (Bool) := match v, bs with
  | .c (.bool z0), [] => some z0
  | _, _ => none
set_option maxRecDepth 100000 in
theorem parquetlaw10_ComposePowers.f_eq (N : Nat) (a1 : Int) (a2 : Int) (a3 : Int) (a4 : Int) :
    evFun (parquetlaw10_ComposePowers.E N) parquetlaw10_ComposePowers.body [.agg [.c (.int .i64 a1), .c (.int .i64 a2), .c (.int .i64 a3)], .c (.int .i64 a4)] [] parquetlaw10_ComposePowers.dec = parquetlaw10_ComposePowers.f N a1 a2 a3 a4 := by kernel_rfl
noncomputable def parquetlaw10_ComposePowers.ent (N : Nat) : Entry := { A := Bool, fresh := 0, imm := [true, true], dec := fun args bs => match freezeL 0 (fun _ => .dead) [.recd [.any, .any, .any], .any] args, bs with
  | some [.agg [.c (.int .i64 a1), .c (.int .i64 a2), .c (.int .i64 a3)], .c (.int .i64 a4)], [] => some (parquetlaw10_ComposePowers.f N a1 a2 a3 a4, fun r => .one (.c (.bool r)) [])
  | _, _ => none }
theorem parquetlaw10_ComposePowers.env (N : Nat) : EnvOK Tryz.prog (parquetlaw10_ComposePowers.E N) := ⟨(TyOK.cons ty2_ok (TyOK.cons ty23_ok TyOK.nil)), (TabOK.cons (compose_Power.ent_ok N) (TabOK.cons (parquetref10_Power.ent_ok N) (TabOK.cons (parquetlaw10_wakes.ent_ok N) TabOK.nil)))⟩
theorem parquetlaw10_ComposePowers.res_eq (N : Nat) : (parquetlaw10_ComposePowers.E N).res = Tryz.f4.results.toList := by kernel_rfl
theorem parquetlaw10_ComposePowers.spec (N : Nat) (a1 : Int) (a2 : Int) (a3 : Int) (a4 : Int) (r : Bool) (h : parquetlaw10_ComposePowers.f N a1 a2 a3 a4 = some r) : FnSpec Tryz.prog 4 [.agg [.c (.int .i64 a1), .c (.int .i64 a2), .c (.int .i64 a3)], .c (.int .i64 a4)] [] (.c (.bool r)) ([]) := by
  rw [← parquetlaw10_ComposePowers.f_eq] at h
  obtain ⟨v, bs', h1, h2⟩ := evFun_ok (parquetlaw10_ComposePowers.env N) Tryz_mixed Tryz.func4 (by kernel_rfl : Tryz.f4.body = some parquetlaw10_ComposePowers.body) (by kernel_rfl) (parquetlaw10_ComposePowers.res_eq N) (by kernel_rfl) (by kernel_rfl) (Nat.le_of_ble_eq_true (by kernel_rfl)) (AllCut.of (l := []) (by kernel_rfl) AllCut.nil) h
  unfold parquetlaw10_ComposePowers.dec at h1; split at h1
  · cases h1; exact h2
  · cases h1
theorem parquetlaw10_ComposePowers.ent_ok (N : Nat) : TabOK1 Tryz.prog 4 (parquetlaw10_ComposePowers.ent N) := by
  intro args bs a enc h
  simp only [parquetlaw10_ComposePowers.ent] at h
  split at h
  · rename_i hz; have h0 := Option.some.inj h; have h1 := congrArg Prod.fst h0; have h2 := congrArg Prod.snd h0; dsimp only at h1 h2; subst h2; exact FnSpec.of_freeze hz (parquetlaw10_ComposePowers.spec N _ _ _ _ a h1)
  · cases h
end Go.Proofs.YtbnoablfajmaeaaGreat
