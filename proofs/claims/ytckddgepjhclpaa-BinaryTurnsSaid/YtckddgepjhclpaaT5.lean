-- The seat's functions as the evaluator goes through them: typed models and their laws.
import Derived.Test.YtckddgepjhclpaaProg
import Derived.Test.YtckddgepjhclpaaEvUse
import Derived.Test.YtckddgepjhclpaaT4
import Derived.KernelRfl
namespace Go.Proofs.Ytckddgepjhclpaa
open Go.Proofs.Ytckddgepjhclpaa.Ev
set_option linter.unusedVariables false
open Go

noncomputable def ty37 : TI := ⟨.slice 66, 1, 24, [.slice none 0 0]⟩
noncomputable def ty38 : TI := ⟨.int .i16, 1, 2, [.int .i16 0]⟩
noncomputable def ty64 : TI := ⟨.int .i8, 1, 1, [.int .i8 0]⟩
noncomputable def ty66 : TI := ⟨.struct [(64, 0), (4, 1)], 2, 2, [.int .i8 0, .bool false]⟩
theorem ty37_ok : TyOK1 Try.prog 37 ty37 := tyok_of (by kernel_rfl) (by kernel_rfl) (by kernel_rfl) (by kernel_rfl) (by kernel_rfl) (by kernel_rfl) (by kernel_rfl) (Try.underlying37) (by kernel_rfl)
theorem ty38_ok : TyOK1 Try.prog 38 ty38 := tyok_of (by kernel_rfl) (by kernel_rfl) (by kernel_rfl) (by kernel_rfl) (by kernel_rfl) (by kernel_rfl) (by kernel_rfl) (Try.underlying38) (by kernel_rfl)
theorem ty64_ok : TyOK1 Try.prog 64 ty64 := tyok_of (by kernel_rfl) (by kernel_rfl) (by kernel_rfl) (by kernel_rfl) (by kernel_rfl) (by kernel_rfl) (by kernel_rfl) (Try.underlying64) (by kernel_rfl)
theorem ty66_ok : TyOK1 Try.prog 66 ty66 := tyok_of (by kernel_rfl) (by kernel_rfl) (by kernel_rfl) (by kernel_rfl) (by kernel_rfl) (by kernel_rfl) (by kernel_rfl) (tk_struct Try.underlying66 (by kernel_rfl) (by kernel_rfl)) (by kernel_rfl)
/-! parquet/binary.Proper: function 14 -/
noncomputable def binary_Proper.f (N : Nat) (a1 : Int) (a2 : Int) (a3 : Int) (a4 : Int) (a5 : Int) (a6 : Int) : Option (Bool × Int) :=
  (binary_Reduce.f N a1 a2 a3).bind fun r7 =>
  bif r7.2.2.2.2.2.2.2 != 0 then
    some (false, r7.2.2.2.2.2.2.2)
  else
  (binary_Reduce.f N a4 a5 a6).bind fun r8 =>
  bif r8.2.2.2.2.2.2.2 == 0 then
    some ((r7.1 == r8.1) && ((r7.2.1 == r8.2.1) && (r7.2.2.1 == r8.2.2.1)), r8.2.2.2.2.2.2.2)
  else
  some (false, r8.2.2.2.2.2.2.2)
noncomputable def binary_Proper.body : Code := (Try.f14.body).getD .skip
noncomputable def binary_Proper.ty : List (Nat × TI) := [(2, ty2), (23, ty23), (33, ty33)]
noncomputable def binary_Proper.E (N : Nat) : Env := { ty := lookN binary_Proper.ty, tab := lookN [(20, binary_Reduce.ent N)], hint := lookN [], cut := lookN [], N := N, res := [.tmp 4, .tmp 5], rsh := [.any, .any], nb := 0, ntmps := 34, own := false }
noncomputable def binary_Proper.dec (v : V) (bs : List Blk) : Option (Bool × Int) := match v, bs with
  | .tup [.c (.bool z0), .c (.int .i64 z1)], [] => some (z0, z1)
  | _, _ => none
set_option maxRecDepth 100000 in
theorem binary_Proper.f_eq (N : Nat) (a1 : Int) (a2 : Int) (a3 : Int) (a4 : Int) (a5 : Int) (a6 : Int) :
    evFun (binary_Proper.E N) binary_Proper.body [.agg [.c (.int .i64 a1), .c (.int .i64 a2), .c (.int .i64 a3)], .agg [.c (.int .i64 a4), .c (.int .i64 a5), .c (.int .i64 a6)]] [] binary_Proper.dec = binary_Proper.f N a1 a2 a3 a4 a5 a6 := by kernel_rfl
noncomputable def binary_Proper.ent (N : Nat) : Entry := { A := Bool × Int, fresh := 0, imm := [true, true], dec := fun args bs => match freezeL 0 (fun _ => .dead) [.recd [.any, .any, .any], .recd [.any, .any, .any]] args, bs with
  | some [.agg [.c (.int .i64 a1), .c (.int .i64 a2), .c (.int .i64 a3)], .agg [.c (.int .i64 a4), .c (.int .i64 a5), .c (.int .i64 a6)]], [] => some (binary_Proper.f N a1 a2 a3 a4 a5 a6, fun r => .one (.tup [.c (.bool r.1), .c (.int .i64 r.2)]) [])
  | _, _ => none }
theorem binary_Proper.env (N : Nat) : EnvOK Try.prog (binary_Proper.E N) := ⟨(TyOK.cons ty2_ok (TyOK.cons ty23_ok (TyOK.cons ty33_ok TyOK.nil))), (TabOK.cons (binary_Reduce.ent_ok N) TabOK.nil)⟩
theorem binary_Proper.res_eq (N : Nat) : (binary_Proper.E N).res = Try.f14.results.toList := by kernel_rfl
theorem binary_Proper.spec (N : Nat) (a1 : Int) (a2 : Int) (a3 : Int) (a4 : Int) (a5 : Int) (a6 : Int) (r : Bool × Int) (h : binary_Proper.f N a1 a2 a3 a4 a5 a6 = some r) : FnSpec Try.prog 14 [.agg [.c (.int .i64 a1), .c (.int .i64 a2), .c (.int .i64 a3)], .agg [.c (.int .i64 a4), .c (.int .i64 a5), .c (.int .i64 a6)]] [] (.tup [.c (.bool r.1), .c (.int .i64 r.2)]) ([]) := by
  rw [← binary_Proper.f_eq] at h
  obtain ⟨v, bs', h1, h2⟩ := evFun_ok (binary_Proper.env N) Try_mixed Try.func14 (by kernel_rfl : Try.f14.body = some binary_Proper.body) (by kernel_rfl) (binary_Proper.res_eq N) (by kernel_rfl) (by kernel_rfl) (Nat.le_of_ble_eq_true (by kernel_rfl)) (AllCut.of (l := []) (by kernel_rfl) AllCut.nil) h
  unfold binary_Proper.dec at h1; split at h1
  · cases h1; exact h2
  · cases h1
theorem binary_Proper.ent_ok (N : Nat) : TabOK1 Try.prog 14 (binary_Proper.ent N) := by
  intro args bs a enc h
  simp only [binary_Proper.ent] at h
  split at h
  · rename_i hz; have h0 := Option.some.inj h; have h1 := congrArg Prod.fst h0; have h2 := congrArg Prod.snd h0; dsimp only at h1 h2; subst h2; exact FnSpec.of_freeze hz (binary_Proper.spec N _ _ _ _ _ _ a h1)
  · cases h
/-! parquet/binary.Reduced: function 21 -/
noncomputable def binary_Reduced.f (N : Nat) (a1 : Int) (a2 : Int) (a3 : Int) : Option (Bool) :=
  (binary_Check.f N a1 a2 a3).bind fun r4 =>
  bif r4 == 0 then
    (binary_walk_step.f N a1 a2 a3 0 0 0 0).bind fun r5 =>
    some (!r5.1)
  else
  some false
noncomputable def binary_Reduced.body : Code := (Try.f21.body).getD .skip
noncomputable def binary_Reduced.ty : List (Nat × TI) := [(23, ty23), (33, ty33), (69, ty69)]
noncomputable def binary_Reduced.E (N : Nat) : Env := { ty := lookN binary_Reduced.ty, tab := lookN [(19, binary_Check.ent N), (37, binary_walk_step.ent N)], hint := lookN [], cut := lookN [], N := N, res := [.tmp 2], rsh := [.any], nb := 0, ntmps := 13, own := false }
noncomputable def binary_Reduced.dec (v : V) (bs : List Blk) : Option (Bool) := match v, bs with
  | .c (.bool z0), [] => some z0
  | _, _ => none
set_option maxRecDepth 100000 in
theorem binary_Reduced.f_eq (N : Nat) (a1 : Int) (a2 : Int) (a3 : Int) :
    evFun (binary_Reduced.E N) binary_Reduced.body [.agg [.c (.int .i64 a1), .c (.int .i64 a2), .c (.int .i64 a3)]] [] binary_Reduced.dec = binary_Reduced.f N a1 a2 a3 := by kernel_rfl
noncomputable def binary_Reduced.ent (N : Nat) : Entry := { A := Bool, fresh := 0, imm := [true], dec := fun args bs => match freezeL 0 (fun _ => .dead) [.recd [.any, .any, .any]] args, bs with
  | some [.agg [.c (.int .i64 a1), .c (.int .i64 a2), .c (.int .i64 a3)]], [] => some (binary_Reduced.f N a1 a2 a3, fun r => .one (.c (.bool r)) [])
  | _, _ => none }
theorem binary_Reduced.env (N : Nat) : EnvOK Try.prog (binary_Reduced.E N) := ⟨(TyOK.cons ty23_ok (TyOK.cons ty33_ok (TyOK.cons ty69_ok TyOK.nil))), (TabOK.cons (binary_Check.ent_ok N) (TabOK.cons (binary_walk_step.ent_ok N) TabOK.nil))⟩
theorem binary_Reduced.res_eq (N : Nat) : (binary_Reduced.E N).res = Try.f21.results.toList := by kernel_rfl
theorem binary_Reduced.spec (N : Nat) (a1 : Int) (a2 : Int) (a3 : Int) (r : Bool) (h : binary_Reduced.f N a1 a2 a3 = some r) : FnSpec Try.prog 21 [.agg [.c (.int .i64 a1), .c (.int .i64 a2), .c (.int .i64 a3)]] [] (.c (.bool r)) ([]) := by
  rw [← binary_Reduced.f_eq] at h
  obtain ⟨v, bs', h1, h2⟩ := evFun_ok (binary_Reduced.env N) Try_mixed Try.func21 (by kernel_rfl : Try.f21.body = some binary_Reduced.body) (by kernel_rfl) (binary_Reduced.res_eq N) (by kernel_rfl) (by kernel_rfl) (Nat.le_of_ble_eq_true (by kernel_rfl)) (AllCut.of (l := []) (by kernel_rfl) AllCut.nil) h
  unfold binary_Reduced.dec at h1; split at h1
  · cases h1; exact h2
  · cases h1
theorem binary_Reduced.ent_ok (N : Nat) : TabOK1 Try.prog 21 (binary_Reduced.ent N) := by
  intro args bs a enc h
  simp only [binary_Reduced.ent] at h
  split at h
  · rename_i hz; have h0 := Option.some.inj h; have h1 := congrArg Prod.fst h0; have h2 := congrArg Prod.snd h0; dsimp only at h1 h2; subst h2; exact FnSpec.of_freeze hz (binary_Reduced.spec N _ _ _ a h1)
  · cases h
/-! parquet/parquetlaw08.turn: function 18 -/
noncomputable def parquetlaw08_turn.l3 {R : Type} (N : Nat) : Nat → Nat → List Int → List Bool → Int → Int → Int → Int → Int → Int → Int → Int → Int → (Int → Int → Int → Int → Int → Int → Int → Int → Option R) → Option R
  | 0, _, _, _, _, _, _, _, _, _, _, _, _, _ => none
  | n + 1, x4, x5, x6, x7, x8, x9, x10, x11, x12, x13, x14, x15, k0 =>
    bif decide (x7 < (x4 : Int)) then
      bif decide (x7 < 12) then
        bif (decide (0 ≤ x7)) && (decide (x7 < (x4 : Int))) then
          bif (decide (0 ≤ x7)) && (decide (x7 < (x4 : Int))) then
            bif x6.getD x7.toNat false then
              parquetlaw08_turn.l3 N n x4 x5 x6 (wi64 (x7 + 1)) x8 x9 x10 x11 (wi64 ((wi64 ((wi64 (Int.tmod (x5.getD x7.toNat 0) 4)) * x12)) + x13)) (wi64 (0 - x12)) (wi64 ((wi64 ((wi64 (Int.tmod (x5.getD x7.toNat 0) 4)) * x14)) + x15)) (wi64 (0 - x14)) k0
            else
            parquetlaw08_turn.l3 N n x4 x5 x6 (wi64 (x7 + 1)) x8 x9 x10 x11 x12 (wi64 ((wi64 ((wi64 (Int.tmod (x5.getD x7.toNat 0) 4)) * x12)) + x13)) x14 (wi64 ((wi64 ((wi64 (Int.tmod (x5.getD x7.toNat 0) 4)) * x14)) + x15)) k0
          else none
        else none
      else
      k0 x8 x9 x10 x11 x12 x13 x14 x15
    else
    k0 x8 x9 x10 x11 x12 x13 x14 x15
noncomputable def parquetlaw08_turn.f (N : Nat) (a1 : Nat) (a2 : List Int) (a3 : List Bool) : Option (Int × Int × Int × Int) :=
  parquetlaw08_turn.l3 N N a1 a2 a3 0 0 0 0 0 1 0 0 1
    (fun y24 y25 y26 y27 y28 y29 y30 y31 =>
      some (y28, y29, y30, y31))
noncomputable def parquetlaw08_turn.body : Code := (Try.f18.body).getD .skip
noncomputable def parquetlaw08_turn.ty : List (Nat × TI) := [(2, ty2), (4, ty4), (33, ty33), (37, ty37), (64, ty64), (66, ty66)]
noncomputable def parquetlaw08_turn.h3 : Hint := ⟨[(0, .any), (2, .box [.any, .any, .any, .any]), (3, .box [.any, .any, .any, .any]), (4, .any)], [(2, .box [.any, .any, .any, .any]), (3, .box [.any, .any, .any, .any])]⟩
noncomputable def parquetlaw08_turn.c3 (N : Nat) : Cut := ⟨fun vs H k => match vs, H with
  | [.iv x4 [.ints .i8 x5, .bools x6], .ptr 0 0 4, .ptr 1 0 4, .c (.int .i64 x7)], [.vals [.c (.int .i64 x8), .c (.int .i64 x9), .c (.int .i64 x10), .c (.int .i64 x11)], .vals [.c (.int .i64 x12), .c (.int .i64 x13), .c (.int .i64 x14), .c (.int .i64 x15)]] => parquetlaw08_turn.l3 N N x4 x5 x6 x7 x8 x9 x10 x11 x12 x13 x14 x15 (fun x16 x17 x18 x19 x20 x21 x22 x23 => k (.exit 0) ⟨mkT parquetlaw08_turn.h3.out [.ptr 0 0 4, .ptr 1 0 4], [.vals [.c (.int .i64 x16), .c (.int .i64 x17), .c (.int .i64 x18), .c (.int .i64 x19)], .vals [.c (.int .i64 x20), .c (.int .i64 x21), .c (.int .i64 x22), .c (.int .i64 x23)]]⟩)
  | _, _ => none⟩
noncomputable def parquetlaw08_turn.E (N : Nat) : Env := { ty := lookN parquetlaw08_turn.ty, tab := lookN [], hint := lookN [(3, parquetlaw08_turn.h3)], cut := lookN [(3, parquetlaw08_turn.c3 N)], N := N, res := [.cell 2 33], rsh := [.recd [.any, .any, .any, .any]], nb := 0, ntmps := 60, own := false }
noncomputable def parquetlaw08_turn.b3 : Code := inner ((subLoops parquetlaw08_turn.body).getD 0 .skip)
set_option maxRecDepth 100000 in
theorem parquetlaw08_turn.l3_eq {R : Type} (N n : Nat) (x4 : Nat) (x5 : List Int) (x6 : List Bool) (x7 : Int) (x8 : Int) (x9 : Int) (x10 : Int) (x11 : Int) (x12 : Int) (x13 : Int) (x14 : Int) (x15 : Int) (k : Ex → St → Option R) :
    evLoop 0 parquetlaw08_turn.h3 (fun s k => evCode (parquetlaw08_turn.E N) 394 parquetlaw08_turn.b3 s k) n [.iv x4 [.ints .i8 x5, .bools x6], .ptr 0 0 4, .ptr 1 0 4, .c (.int .i64 x7)] [.vals [.c (.int .i64 x8), .c (.int .i64 x9), .c (.int .i64 x10), .c (.int .i64 x11)], .vals [.c (.int .i64 x12), .c (.int .i64 x13), .c (.int .i64 x14), .c (.int .i64 x15)]] k = parquetlaw08_turn.l3 N n x4 x5 x6 x7 x8 x9 x10 x11 x12 x13 x14 x15 (fun x16 x17 x18 x19 x20 x21 x22 x23 => k (.exit 0) ⟨mkT parquetlaw08_turn.h3.out [.ptr 0 0 4, .ptr 1 0 4], [.vals [.c (.int .i64 x16), .c (.int .i64 x17), .c (.int .i64 x18), .c (.int .i64 x19)], .vals [.c (.int .i64 x20), .c (.int .i64 x21), .c (.int .i64 x22), .c (.int .i64 x23)]]⟩) := by
  induction n generalizing x4 x5 x6 x7 x8 x9 x10 x11 x12 x13 x14 x15 with
  | zero => kernel_rfl
  | succ n ih =>
    simp only [parquetlaw08_turn.l3, ← ih]
    kernel_rfl
noncomputable def parquetlaw08_turn.dec (v : V) (bs : List Blk) : Option (Int × Int × Int × Int) := match v, bs with
  | .agg [.c (.int .i64 z0), .c (.int .i64 z1), .c (.int .i64 z2), .c (.int .i64 z3)], [] => some (z0, z1, z2, z3)
  | _, _ => none
set_option maxRecDepth 100000 in
theorem parquetlaw08_turn.f_eq (N : Nat) (a1 : Nat) (a2 : List Int) (a3 : List Bool) :
    evFun (parquetlaw08_turn.E N) parquetlaw08_turn.body [.iv a1 [.ints .i8 a2, .bools a3]] [] parquetlaw08_turn.dec = parquetlaw08_turn.f N a1 a2 a3 := by kernel_rfl
noncomputable def parquetlaw08_turn.ent (N : Nat) : Entry := { A := Int × Int × Int × Int, fresh := 0, imm := [true], dec := fun args bs => match freezeL 0 (fun _ => .dead) [.any] args, bs with
  | some [.iv a1 [.ints .i8 a2, .bools a3]], [] => some (parquetlaw08_turn.f N a1 a2 a3, fun r => .one (.agg [.c (.int .i64 r.1), .c (.int .i64 r.2.1), .c (.int .i64 r.2.2.1), .c (.int .i64 r.2.2.2)]) [])
  | _, _ => none }
theorem parquetlaw08_turn.env (N : Nat) : EnvOK Try.prog (parquetlaw08_turn.E N) := ⟨(TyOK.cons ty2_ok (TyOK.cons ty4_ok (TyOK.cons ty33_ok (TyOK.cons ty37_ok (TyOK.cons ty64_ok (TyOK.cons ty66_ok TyOK.nil)))))), TabOK.nil⟩
theorem parquetlaw08_turn.res_eq (N : Nat) : (parquetlaw08_turn.E N).res = Try.f18.results.toList := by kernel_rfl
theorem parquetlaw08_turn.k3 (N : Nat) : CutOK Try.prog Try.f18 (parquetlaw08_turn.E N) (.loop parquetlaw08_turn.b3) := by
  intro e hd he hh R vs H k r h
  have e1 : (parquetlaw08_turn.E N).cut (loopKey parquetlaw08_turn.b3) = some (parquetlaw08_turn.c3 N) := by kernel_rfl
  have e2 : (parquetlaw08_turn.E N).hint (loopKey parquetlaw08_turn.b3) = some parquetlaw08_turn.h3 := by kernel_rfl
  rw [e1] at he; rw [e2] at hh; cases he; cases hh
  unfold parquetlaw08_turn.c3 at h; dsimp only at h
  split at h
  · rw [← parquetlaw08_turn.l3_eq] at h
    exact loop_ok (evCode_ok (parquetlaw08_turn.env N) Try_mixed (parquetlaw08_turn.res_eq N) 394 parquetlaw08_turn.b3 (AllCut.of (l := []) (by kernel_rfl) AllCut.nil)) h
  · cases h
theorem parquetlaw08_turn.spec (N : Nat) (a1 : Nat) (a2 : List Int) (a3 : List Bool) (r : Int × Int × Int × Int) (h : parquetlaw08_turn.f N a1 a2 a3 = some r) : FnSpec Try.prog 18 [.iv a1 [.ints .i8 a2, .bools a3]] [] (.agg [.c (.int .i64 r.1), .c (.int .i64 r.2.1), .c (.int .i64 r.2.2.1), .c (.int .i64 r.2.2.2)]) ([]) := by
  rw [← parquetlaw08_turn.f_eq] at h
  obtain ⟨v, bs', h1, h2⟩ := evFun_ok (parquetlaw08_turn.env N) Try_mixed Try.func18 (by kernel_rfl : Try.f18.body = some parquetlaw08_turn.body) (by kernel_rfl) (parquetlaw08_turn.res_eq N) (by kernel_rfl) (by kernel_rfl) (Nat.le_of_ble_eq_true (by kernel_rfl)) (AllCut.of (l := [(.loop (inner ((subLoops parquetlaw08_turn.body).getD 0 .skip)))]) (by kernel_rfl) (AllCut.cons (parquetlaw08_turn.k3 N) AllCut.nil)) h
  unfold parquetlaw08_turn.dec at h1; split at h1
  · cases h1; exact h2
  · cases h1
theorem parquetlaw08_turn.ent_ok (N : Nat) : TabOK1 Try.prog 18 (parquetlaw08_turn.ent N) := by
  intro args bs a enc h
  simp only [parquetlaw08_turn.ent] at h
  split at h
  · rename_i hz; have h0 := Option.some.inj h; have h1 := congrArg Prod.fst h0; have h2 := congrArg Prod.snd h0; dsimp only at h1 h2; subst h2; exact FnSpec.of_freeze hz (parquetlaw08_turn.spec N _ _ _ a h1)
  · cases h
/-! parquet/parquetlaw08.BinaryTurns: function 6 -/
noncomputable def parquetlaw08_BinaryTurns.f (N : Nat) (a1 : Int) (a2 : Int) (a3 : Int) (a4 : Nat) (a5 : List Int) (a6 : List Bool) (a7 : Nat) (a8 : List Int) (a9 : List Bool) (a10 : Int) (a11 : Int) : Option (Bool) :=
  (parquetlaw08_turn.f N a4 a5 a6).bind fun r12 =>
  (parquetlaw08_turn.f N a7 a8 a9).bind fun r13 =>
  (binary_Act.f N (Int.tmod a1 1000) (Int.tmod a2 1000) (Int.tmod a3 1000) r12.1 r12.2.1 r12.2.2.1 r12.2.2.2).bind fun r14 =>
  (binary_Act.f N r14.1 r14.2.1 r14.2.2.1 r13.1 r13.2.1 r13.2.2.1 r13.2.2.2).bind fun r15 =>
  (binary_Act.f N (Int.tmod a1 1000) (Int.tmod a2 1000) (Int.tmod a3 1000) (wi64 ((wi64 (r12.1 * r13.1)) + (wi64 (r12.2.1 * r13.2.2.1)))) (wi64 ((wi64 (r12.1 * r13.2.1)) + (wi64 (r12.2.1 * r13.2.2.2)))) (wi64 ((wi64 (r12.2.2.1 * r13.1)) + (wi64 (r12.2.2.2 * r13.2.2.1)))) (wi64 ((wi64 (r12.2.2.1 * r13.2.1)) + (wi64 (r12.2.2.2 * r13.2.2.2))))).bind fun r16 =>
  bif r14.2.2.2 != 0 then
    (parquetlaw08_wakes.f N).bind fun r17 =>
    some r17
  else
  bif r15.2.2.2 != 0 then
    (parquetlaw08_wakes.f N).bind fun r18 =>
    some r18
  else
  bif r16.2.2.2 != 0 then
    (parquetlaw08_wakes.f N).bind fun r19 =>
    some r19
  else
  bif (r15.1 == r16.1) && ((r15.2.1 == r16.2.1) && (r15.2.2.1 == r16.2.2.1)) then
    bif (wi64 ((wi64 ((wi64 ((wi64 (r14.1 * (wi64 (Int.tmod a10 100)))) * (wi64 (Int.tmod a10 100)))) + (wi64 ((wi64 (r14.2.1 * (wi64 (Int.tmod a10 100)))) * (wi64 (Int.tmod a11 100)))))) + (wi64 ((wi64 (r14.2.2.1 * (wi64 (Int.tmod a11 100)))) * (wi64 (Int.tmod a11 100)))))) == (wi64 ((wi64 ((wi64 ((wi64 ((Int.tmod a1 1000) * (wi64 ((wi64 (r12.1 * (wi64 (Int.tmod a10 100)))) + (wi64 (r12.2.1 * (wi64 (Int.tmod a11 100)))))))) * (wi64 ((wi64 (r12.1 * (wi64 (Int.tmod a10 100)))) + (wi64 (r12.2.1 * (wi64 (Int.tmod a11 100)))))))) + (wi64 ((wi64 ((Int.tmod a2 1000) * (wi64 ((wi64 (r12.1 * (wi64 (Int.tmod a10 100)))) + (wi64 (r12.2.1 * (wi64 (Int.tmod a11 100)))))))) * (wi64 ((wi64 (r12.2.2.1 * (wi64 (Int.tmod a10 100)))) + (wi64 (r12.2.2.2 * (wi64 (Int.tmod a11 100)))))))))) + (wi64 ((wi64 ((Int.tmod a3 1000) * (wi64 ((wi64 (r12.2.2.1 * (wi64 (Int.tmod a10 100)))) + (wi64 (r12.2.2.2 * (wi64 (Int.tmod a11 100)))))))) * (wi64 ((wi64 (r12.2.2.1 * (wi64 (Int.tmod a10 100)))) + (wi64 (r12.2.2.2 * (wi64 (Int.tmod a11 100)))))))))) then
      (parquetlaw08_wakes.f N).bind fun r20 =>
      some r20
    else
    some false
  else
  some false
noncomputable def parquetlaw08_BinaryTurns.body : Code := (Try.f6.body).getD .skip
noncomputable def parquetlaw08_BinaryTurns.ty : List (Nat × TI) := [(2, ty2), (23, ty23), (33, ty33), (38, ty38)]
noncomputable def parquetlaw08_BinaryTurns.E (N : Nat) : Env := { ty := lookN parquetlaw08_BinaryTurns.ty, tab := lookN [(18, parquetlaw08_turn.ent N), (16, binary_Act.ent N), (13, parquetlaw08_wakes.ent N)], hint := lookN [], cut := lookN [], N := N, res := [.tmp 10], rsh := [.any], nb := 0, ntmps := 183, own := false }
noncomputable def parquetlaw08_BinaryTurns.dec (v : V) (bs : List Blk) : Option (Bool) := match v, bs with
  | .c (.bool z0), [] => some z0
  | _, _ => none
set_option maxRecDepth 100000 in
theorem parquetlaw08_BinaryTurns.f_eq (N : Nat) (a1 : Int) (a2 : Int) (a3 : Int) (a4 : Nat) (a5 : List Int) (a6 : List Bool) (a7 : Nat) (a8 : List Int) (a9 : List Bool) (a10 : Int) (a11 : Int) :
    evFun (parquetlaw08_BinaryTurns.E N) parquetlaw08_BinaryTurns.body [.agg [.c (.int .i64 a1), .c (.int .i64 a2), .c (.int .i64 a3)], .iv a4 [.ints .i8 a5, .bools a6], .iv a7 [.ints .i8 a8, .bools a9], .c (.int .i16 a10), .c (.int .i16 a11)] [] parquetlaw08_BinaryTurns.dec = parquetlaw08_BinaryTurns.f N a1 a2 a3 a4 a5 a6 a7 a8 a9 a10 a11 := by kernel_rfl
noncomputable def parquetlaw08_BinaryTurns.ent (N : Nat) : Entry := { A := Bool, fresh := 0, imm := [true, true, true, true, true], dec := fun args bs => match freezeL 0 (fun _ => .dead) [.recd [.any, .any, .any], .any, .any, .any, .any] args, bs with
  | some [.agg [.c (.int .i64 a1), .c (.int .i64 a2), .c (.int .i64 a3)], .iv a4 [.ints .i8 a5, .bools a6], .iv a7 [.ints .i8 a8, .bools a9], .c (.int .i16 a10), .c (.int .i16 a11)], [] => some (parquetlaw08_BinaryTurns.f N a1 a2 a3 a4 a5 a6 a7 a8 a9 a10 a11, fun r => .one (.c (.bool r)) [])
  | _, _ => none }
theorem parquetlaw08_BinaryTurns.env (N : Nat) : EnvOK Try.prog (parquetlaw08_BinaryTurns.E N) := ⟨(TyOK.cons ty2_ok (TyOK.cons ty23_ok (TyOK.cons ty33_ok (TyOK.cons ty38_ok TyOK.nil)))), (TabOK.cons (parquetlaw08_turn.ent_ok N) (TabOK.cons (binary_Act.ent_ok N) (TabOK.cons (parquetlaw08_wakes.ent_ok N) TabOK.nil)))⟩
theorem parquetlaw08_BinaryTurns.res_eq (N : Nat) : (parquetlaw08_BinaryTurns.E N).res = Try.f6.results.toList := by kernel_rfl
theorem parquetlaw08_BinaryTurns.spec (N : Nat) (a1 : Int) (a2 : Int) (a3 : Int) (a4 : Nat) (a5 : List Int) (a6 : List Bool) (a7 : Nat) (a8 : List Int) (a9 : List Bool) (a10 : Int) (a11 : Int) (r : Bool) (h : parquetlaw08_BinaryTurns.f N a1 a2 a3 a4 a5 a6 a7 a8 a9 a10 a11 = some r) : FnSpec Try.prog 6 [.agg [.c (.int .i64 a1), .c (.int .i64 a2), .c (.int .i64 a3)], .iv a4 [.ints .i8 a5, .bools a6], .iv a7 [.ints .i8 a8, .bools a9], .c (.int .i16 a10), .c (.int .i16 a11)] [] (.c (.bool r)) ([]) := by
  rw [← parquetlaw08_BinaryTurns.f_eq] at h
  obtain ⟨v, bs', h1, h2⟩ := evFun_ok (parquetlaw08_BinaryTurns.env N) Try_mixed Try.func6 (by kernel_rfl : Try.f6.body = some parquetlaw08_BinaryTurns.body) (by kernel_rfl) (parquetlaw08_BinaryTurns.res_eq N) (by kernel_rfl) (by kernel_rfl) (Nat.le_of_ble_eq_true (by kernel_rfl)) (AllCut.of (l := []) (by kernel_rfl) AllCut.nil) h
  unfold parquetlaw08_BinaryTurns.dec at h1; split at h1
  · cases h1; exact h2
  · cases h1
theorem parquetlaw08_BinaryTurns.ent_ok (N : Nat) : TabOK1 Try.prog 6 (parquetlaw08_BinaryTurns.ent N) := by
  intro args bs a enc h
  simp only [parquetlaw08_BinaryTurns.ent] at h
  split at h
  · rename_i hz; have h0 := Option.some.inj h; have h1 := congrArg Prod.fst h0; have h2 := congrArg Prod.snd h0; dsimp only at h1 h2; subst h2; exact FnSpec.of_freeze hz (parquetlaw08_BinaryTurns.spec N _ _ _ _ _ _ _ _ _ _ _ a h1)
  · cases h
/-! parquet/parquetlaw08.BinaryTells: function 7 -/
noncomputable def parquetlaw08_BinaryTells.f (N : Nat) (a1 : Int) (a2 : Int) (a3 : Int) (a4 : Int) (a5 : Int) (a6 : Int) (a7 : Nat) (a8 : List Int) (a9 : List Bool) : Option (Bool) :=
  (binary_Check.f N (Int.tmod a1 1000) (Int.tmod a2 1000) (Int.tmod a3 1000)).bind fun r10 =>
  bif r10 != 0 then
    (parquetlaw08_wakes.f N).bind fun r11 =>
    some r11
  else
  bif decide ((wi64 ((wi64 ((wi64 ((wi64 ((Int.tmod a1 1000) * (wi64 (Int.tmod a4 100)))) * (wi64 (Int.tmod a4 100)))) + (wi64 ((wi64 ((Int.tmod a2 1000) * (wi64 (Int.tmod a4 100)))) * (wi64 (Int.tmod a5 100)))))) + (wi64 ((wi64 ((Int.tmod a3 1000) * (wi64 (Int.tmod a5 100)))) * (wi64 (Int.tmod a5 100)))))) > 0) then
    (binary_Represents.f N (Int.tmod a1 1000) (Int.tmod a2 1000) (Int.tmod a3 1000) (wi64 ((wi64 ((wi64 ((wi64 ((Int.tmod a1 1000) * (wi64 (Int.tmod a4 100)))) * (wi64 (Int.tmod a4 100)))) + (wi64 ((wi64 ((Int.tmod a2 1000) * (wi64 (Int.tmod a4 100)))) * (wi64 (Int.tmod a5 100)))))) + (wi64 ((wi64 ((Int.tmod a3 1000) * (wi64 (Int.tmod a5 100)))) * (wi64 (Int.tmod a5 100))))))).bind fun r12 =>
    bif r12.2.2 != 0 then
      some false
    else
    bif (wi64 ((wi64 ((wi64 ((wi64 ((Int.tmod a1 1000) * r12.1)) * r12.1)) + (wi64 ((wi64 ((Int.tmod a2 1000) * r12.1)) * r12.2.1)))) + (wi64 ((wi64 ((Int.tmod a3 1000) * r12.2.1)) * r12.2.1)))) != (wi64 ((wi64 ((wi64 ((wi64 ((Int.tmod a1 1000) * (wi64 (Int.tmod a4 100)))) * (wi64 (Int.tmod a4 100)))) + (wi64 ((wi64 ((Int.tmod a2 1000) * (wi64 (Int.tmod a4 100)))) * (wi64 (Int.tmod a5 100)))))) + (wi64 ((wi64 ((Int.tmod a3 1000) * (wi64 (Int.tmod a5 100)))) * (wi64 (Int.tmod a5 100)))))) then
      some false
    else
    (binary_Represents.f N (Int.tmod a1 1000) (Int.tmod a2 1000) (Int.tmod a3 1000) (wi64 ((Int.tmod (wi64 ((Int.tmod a6 100000) + 100000)) 100000) + 1))).bind fun r13 =>
    bif r13.2.2 == 0 then
      bif (wi64 ((wi64 ((wi64 ((wi64 ((Int.tmod a1 1000) * r13.1)) * r13.1)) + (wi64 ((wi64 ((Int.tmod a2 1000) * r13.1)) * r13.2.1)))) + (wi64 ((wi64 ((Int.tmod a3 1000) * r13.2.1)) * r13.2.1)))) != (wi64 ((Int.tmod (wi64 ((Int.tmod a6 100000) + 100000)) 100000) + 1)) then
        some false
      else
      bif r13.2.2 != 0 then
        bif r13.2.2 != 41 then
          some false
        else
        (parquetlaw08_turn.f N a7 a8 a9).bind fun r14 =>
        (binary_Act.f N (Int.tmod a1 1000) (Int.tmod a2 1000) (Int.tmod a3 1000) r14.1 r14.2.1 r14.2.2.1 r14.2.2.2).bind fun r15 =>
        bif r15.2.2.2 != 0 then
          (parquetlaw08_wakes.f N).bind fun r16 =>
          some r16
        else
        (binary_Represents.f N r15.1 r15.2.1 r15.2.2.1 (wi64 ((Int.tmod (wi64 ((Int.tmod a6 100000) + 100000)) 100000) + 1))).bind fun r17 =>
        bif r17.2.2 == r13.2.2 then
          (parquetlaw08_wakes.f N).bind fun r18 =>
          some r18
        else
        some false
      else
      (parquetlaw08_turn.f N a7 a8 a9).bind fun r19 =>
      (binary_Act.f N (Int.tmod a1 1000) (Int.tmod a2 1000) (Int.tmod a3 1000) r19.1 r19.2.1 r19.2.2.1 r19.2.2.2).bind fun r20 =>
      bif r20.2.2.2 != 0 then
        (parquetlaw08_wakes.f N).bind fun r21 =>
        some r21
      else
      (binary_Represents.f N r20.1 r20.2.1 r20.2.2.1 (wi64 ((Int.tmod (wi64 ((Int.tmod a6 100000) + 100000)) 100000) + 1))).bind fun r22 =>
      bif r22.2.2 == r13.2.2 then
        (parquetlaw08_wakes.f N).bind fun r23 =>
        some r23
      else
      some false
    else
    bif r13.2.2 != 0 then
      bif r13.2.2 != 41 then
        some false
      else
      (parquetlaw08_turn.f N a7 a8 a9).bind fun r24 =>
      (binary_Act.f N (Int.tmod a1 1000) (Int.tmod a2 1000) (Int.tmod a3 1000) r24.1 r24.2.1 r24.2.2.1 r24.2.2.2).bind fun r25 =>
      bif r25.2.2.2 != 0 then
        (parquetlaw08_wakes.f N).bind fun r26 =>
        some r26
      else
      (binary_Represents.f N r25.1 r25.2.1 r25.2.2.1 (wi64 ((Int.tmod (wi64 ((Int.tmod a6 100000) + 100000)) 100000) + 1))).bind fun r27 =>
      bif r27.2.2 == r13.2.2 then
        (parquetlaw08_wakes.f N).bind fun r28 =>
        some r28
      else
      some false
    else
    (parquetlaw08_turn.f N a7 a8 a9).bind fun r29 =>
    (binary_Act.f N (Int.tmod a1 1000) (Int.tmod a2 1000) (Int.tmod a3 1000) r29.1 r29.2.1 r29.2.2.1 r29.2.2.2).bind fun r30 =>
    bif r30.2.2.2 != 0 then
      (parquetlaw08_wakes.f N).bind fun r31 =>
      some r31
    else
    (binary_Represents.f N r30.1 r30.2.1 r30.2.2.1 (wi64 ((Int.tmod (wi64 ((Int.tmod a6 100000) + 100000)) 100000) + 1))).bind fun r32 =>
    bif r32.2.2 == r13.2.2 then
      (parquetlaw08_wakes.f N).bind fun r33 =>
      some r33
    else
    some false
  else
  (binary_Represents.f N (Int.tmod a1 1000) (Int.tmod a2 1000) (Int.tmod a3 1000) (wi64 ((Int.tmod (wi64 ((Int.tmod a6 100000) + 100000)) 100000) + 1))).bind fun r34 =>
  bif r34.2.2 == 0 then
    bif (wi64 ((wi64 ((wi64 ((wi64 ((Int.tmod a1 1000) * r34.1)) * r34.1)) + (wi64 ((wi64 ((Int.tmod a2 1000) * r34.1)) * r34.2.1)))) + (wi64 ((wi64 ((Int.tmod a3 1000) * r34.2.1)) * r34.2.1)))) != (wi64 ((Int.tmod (wi64 ((Int.tmod a6 100000) + 100000)) 100000) + 1)) then
      some false
    else
    bif r34.2.2 != 0 then
      bif r34.2.2 != 41 then
        some false
      else
      (parquetlaw08_turn.f N a7 a8 a9).bind fun r35 =>
      (binary_Act.f N (Int.tmod a1 1000) (Int.tmod a2 1000) (Int.tmod a3 1000) r35.1 r35.2.1 r35.2.2.1 r35.2.2.2).bind fun r36 =>
      bif r36.2.2.2 != 0 then
        (parquetlaw08_wakes.f N).bind fun r37 =>
        some r37
      else
      (binary_Represents.f N r36.1 r36.2.1 r36.2.2.1 (wi64 ((Int.tmod (wi64 ((Int.tmod a6 100000) + 100000)) 100000) + 1))).bind fun r38 =>
      bif r38.2.2 == r34.2.2 then
        (parquetlaw08_wakes.f N).bind fun r39 =>
        some r39
      else
      some false
    else
    (parquetlaw08_turn.f N a7 a8 a9).bind fun r40 =>
    (binary_Act.f N (Int.tmod a1 1000) (Int.tmod a2 1000) (Int.tmod a3 1000) r40.1 r40.2.1 r40.2.2.1 r40.2.2.2).bind fun r41 =>
    bif r41.2.2.2 != 0 then
      (parquetlaw08_wakes.f N).bind fun r42 =>
      some r42
    else
    (binary_Represents.f N r41.1 r41.2.1 r41.2.2.1 (wi64 ((Int.tmod (wi64 ((Int.tmod a6 100000) + 100000)) 100000) + 1))).bind fun r43 =>
    bif r43.2.2 == r34.2.2 then
      (parquetlaw08_wakes.f N).bind fun r44 =>
      some r44
    else
    some false
  else
  bif r34.2.2 != 0 then
    bif r34.2.2 != 41 then
      some false
    else
    (parquetlaw08_turn.f N a7 a8 a9).bind fun r45 =>
    (binary_Act.f N (Int.tmod a1 1000) (Int.tmod a2 1000) (Int.tmod a3 1000) r45.1 r45.2.1 r45.2.2.1 r45.2.2.2).bind fun r46 =>
    bif r46.2.2.2 != 0 then
      (parquetlaw08_wakes.f N).bind fun r47 =>
      some r47
    else
    (binary_Represents.f N r46.1 r46.2.1 r46.2.2.1 (wi64 ((Int.tmod (wi64 ((Int.tmod a6 100000) + 100000)) 100000) + 1))).bind fun r48 =>
    bif r48.2.2 == r34.2.2 then
      (parquetlaw08_wakes.f N).bind fun r49 =>
      some r49
    else
    some false
  else
  (parquetlaw08_turn.f N a7 a8 a9).bind fun r50 =>
  (binary_Act.f N (Int.tmod a1 1000) (Int.tmod a2 1000) (Int.tmod a3 1000) r50.1 r50.2.1 r50.2.2.1 r50.2.2.2).bind fun r51 =>
  bif r51.2.2.2 != 0 then
    (parquetlaw08_wakes.f N).bind fun r52 =>
    some r52
  else
  (binary_Represents.f N r51.1 r51.2.1 r51.2.2.1 (wi64 ((Int.tmod (wi64 ((Int.tmod a6 100000) + 100000)) 100000) + 1))).bind fun r53 =>
  bif r53.2.2 == r34.2.2 then
    (parquetlaw08_wakes.f N).bind fun r54 =>
    some r54
  else
  some false
noncomputable def parquetlaw08_BinaryTells.body : Code := (Try.f7.body).getD .skip
noncomputable def parquetlaw08_BinaryTells.ty : List (Nat × TI) := [(2, ty2), (23, ty23), (38, ty38)]
noncomputable def parquetlaw08_BinaryTells.E (N : Nat) : Env := { ty := lookN parquetlaw08_BinaryTells.ty, tab := lookN [(19, binary_Check.ent N), (13, parquetlaw08_wakes.ent N), (11, binary_Represents.ent N), (18, parquetlaw08_turn.ent N), (16, binary_Act.ent N)], hint := lookN [], cut := lookN [], N := N, res := [.tmp 10], rsh := [.any], nb := 0, ntmps := 169, own := false }
noncomputable def parquetlaw08_BinaryTells.dec (v : V) (bs : List Blk) : Option (Bool) := match v, bs with
  | .c (.bool z0), [] => some z0
  | _, _ => none
set_option maxRecDepth 100000 in
theorem parquetlaw08_BinaryTells.f_eq (N : Nat) (a1 : Int) (a2 : Int) (a3 : Int) (a4 : Int) (a5 : Int) (a6 : Int) (a7 : Nat) (a8 : List Int) (a9 : List Bool) :
    evFun (parquetlaw08_BinaryTells.E N) parquetlaw08_BinaryTells.body [.agg [.c (.int .i64 a1), .c (.int .i64 a2), .c (.int .i64 a3)], .c (.int .i16 a4), .c (.int .i16 a5), .c (.int .i64 a6), .iv a7 [.ints .i8 a8, .bools a9]] [] parquetlaw08_BinaryTells.dec = parquetlaw08_BinaryTells.f N a1 a2 a3 a4 a5 a6 a7 a8 a9 := by kernel_rfl
noncomputable def parquetlaw08_BinaryTells.ent (N : Nat) : Entry := { A := Bool, fresh := 0, imm := [true, true, true, true, true], dec := fun args bs => match freezeL 0 (fun _ => .dead) [.recd [.any, .any, .any], .any, .any, .any, .any] args, bs with
  | some [.agg [.c (.int .i64 a1), .c (.int .i64 a2), .c (.int .i64 a3)], .c (.int .i16 a4), .c (.int .i16 a5), .c (.int .i64 a6), .iv a7 [.ints .i8 a8, .bools a9]], [] => some (parquetlaw08_BinaryTells.f N a1 a2 a3 a4 a5 a6 a7 a8 a9, fun r => .one (.c (.bool r)) [])
  | _, _ => none }
theorem parquetlaw08_BinaryTells.env (N : Nat) : EnvOK Try.prog (parquetlaw08_BinaryTells.E N) := ⟨(TyOK.cons ty2_ok (TyOK.cons ty23_ok (TyOK.cons ty38_ok TyOK.nil))), (TabOK.cons (binary_Check.ent_ok N) (TabOK.cons (parquetlaw08_wakes.ent_ok N) (TabOK.cons (binary_Represents.ent_ok N) (TabOK.cons (parquetlaw08_turn.ent_ok N) (TabOK.cons (binary_Act.ent_ok N) TabOK.nil)))))⟩
theorem parquetlaw08_BinaryTells.res_eq (N : Nat) : (parquetlaw08_BinaryTells.E N).res = Try.f7.results.toList := by kernel_rfl
theorem parquetlaw08_BinaryTells.spec (N : Nat) (a1 : Int) (a2 : Int) (a3 : Int) (a4 : Int) (a5 : Int) (a6 : Int) (a7 : Nat) (a8 : List Int) (a9 : List Bool) (r : Bool) (h : parquetlaw08_BinaryTells.f N a1 a2 a3 a4 a5 a6 a7 a8 a9 = some r) : FnSpec Try.prog 7 [.agg [.c (.int .i64 a1), .c (.int .i64 a2), .c (.int .i64 a3)], .c (.int .i16 a4), .c (.int .i16 a5), .c (.int .i64 a6), .iv a7 [.ints .i8 a8, .bools a9]] [] (.c (.bool r)) ([]) := by
  rw [← parquetlaw08_BinaryTells.f_eq] at h
  obtain ⟨v, bs', h1, h2⟩ := evFun_ok (parquetlaw08_BinaryTells.env N) Try_mixed Try.func7 (by kernel_rfl : Try.f7.body = some parquetlaw08_BinaryTells.body) (by kernel_rfl) (parquetlaw08_BinaryTells.res_eq N) (by kernel_rfl) (by kernel_rfl) (Nat.le_of_ble_eq_true (by kernel_rfl)) (AllCut.of (l := []) (by kernel_rfl) AllCut.nil) h
  unfold parquetlaw08_BinaryTells.dec at h1; split at h1
  · cases h1; exact h2
  · cases h1
theorem parquetlaw08_BinaryTells.ent_ok (N : Nat) : TabOK1 Try.prog 7 (parquetlaw08_BinaryTells.ent N) := by
  intro args bs a enc h
  simp only [parquetlaw08_BinaryTells.ent] at h
  split at h
  · rename_i hz; have h0 := Option.some.inj h; have h1 := congrArg Prod.fst h0; have h2 := congrArg Prod.snd h0; dsimp only at h1 h2; subst h2; exact FnSpec.of_freeze hz (parquetlaw08_BinaryTells.spec N _ _ _ _ _ _ _ _ _ a h1)
  · cases h
/-! parquet/parquetlaw08.BinaryReduces: function 8 -/
noncomputable def parquetlaw08_BinaryReduces.f (N : Nat) (a1 : Int) (a2 : Int) (a3 : Int) (a4 : Nat) (a5 : List Int) (a6 : List Bool) : Option (Bool) :=
  (binary_Reduce.f N a1 a2 a3).bind fun r7 =>
  bif r7.2.2.2.2.2.2.2 != 0 then
    (binary_Check.f N a1 a2 a3).bind fun r8 =>
    bif r7.2.2.2.2.2.2.2 == r8 then
      (parquetlaw08_wakes.f N).bind fun r9 =>
      some r9
    else
    some false
  else
  (binary_Act.f N a1 a2 a3 r7.2.2.2.1 r7.2.2.2.2.1 r7.2.2.2.2.2.1 r7.2.2.2.2.2.2.1).bind fun r10 =>
  (binary_Reduce.f N r7.1 r7.2.1 r7.2.2.1).bind fun r11 =>
  (binary_Reduced.f N r7.1 r7.2.1 r7.2.2.1).bind fun r12 =>
  bif r12 then
    (binary_Disc.f N r7.1 r7.2.1 r7.2.2.1).bind fun r13 =>
    (binary_Disc.f N a1 a2 a3).bind fun r14 =>
    bif r13 == r14 then
      bif (wi64 ((wi64 (r7.2.2.2.1 * r7.2.2.2.2.2.2.1)) - (wi64 (r7.2.2.2.2.1 * r7.2.2.2.2.2.1)))) == 1 then
        bif r10.2.2.2 == 0 then
          bif (r10.1 == r7.1) && ((r10.2.1 == r7.2.1) && (r10.2.2.1 == r7.2.2.1)) then
            bif (r11.1 == r7.1) && ((r11.2.1 == r7.2.1) && (r11.2.2.1 == r7.2.2.1)) then
              bif !((r11.2.2.2.1 == 1) && ((r11.2.2.2.2.1 == 0) && ((r11.2.2.2.2.2.1 == 0) && (r11.2.2.2.2.2.2.1 == 1)))) then
                some false
              else
              bif decide (r7.2.1 > r7.1) then
                some false
              else
              bif decide (r7.2.1 ≤ (wi64 (0 - r7.1))) then
                some false
              else
              bif decide (r7.1 > r7.2.2.1) then
                some false
              else
              bif r7.1 == r7.2.2.1 then
                bif decide (r7.2.1 < 0) then
                  some false
                else
                (parquetlaw08_turn.f N a4 a5 a6).bind fun r15 =>
                (binary_Act.f N a1 a2 a3 r15.1 r15.2.1 r15.2.2.1 r15.2.2.2).bind fun r16 =>
                bif r16.2.2.2 != 0 then
                  bif r16.2.2.2 == 3 then
                    (parquetlaw08_wakes.f N).bind fun r17 =>
                    some r17
                  else
                  some false
                else
                (binary_Reduce.f N r16.1 r16.2.1 r16.2.2.1).bind fun r18 =>
                (binary_Proper.f N a1 a2 a3 r16.1 r16.2.1 r16.2.2.1).bind fun r19 =>
                bif r18.2.2.2.2.2.2.2 == 0 then
                  bif (r18.1 == r7.1) && ((r18.2.1 == r7.2.1) && (r18.2.2.1 == r7.2.2.1)) then
                    bif r19.1 then
                      bif r19.2 == 0 then
                        (parquetlaw08_wakes.f N).bind fun r20 =>
                        some r20
                      else
                      some false
                    else
                    some false
                  else
                  some false
                else
                some false
              else
              (parquetlaw08_turn.f N a4 a5 a6).bind fun r21 =>
              (binary_Act.f N a1 a2 a3 r21.1 r21.2.1 r21.2.2.1 r21.2.2.2).bind fun r22 =>
              bif r22.2.2.2 != 0 then
                bif r22.2.2.2 == 3 then
                  (parquetlaw08_wakes.f N).bind fun r23 =>
                  some r23
                else
                some false
              else
              (binary_Reduce.f N r22.1 r22.2.1 r22.2.2.1).bind fun r24 =>
              (binary_Proper.f N a1 a2 a3 r22.1 r22.2.1 r22.2.2.1).bind fun r25 =>
              bif r24.2.2.2.2.2.2.2 == 0 then
                bif (r24.1 == r7.1) && ((r24.2.1 == r7.2.1) && (r24.2.2.1 == r7.2.2.1)) then
                  bif r25.1 then
                    bif r25.2 == 0 then
                      (parquetlaw08_wakes.f N).bind fun r26 =>
                      some r26
                    else
                    some false
                  else
                  some false
                else
                some false
              else
              some false
            else
            some false
          else
          some false
        else
        some false
      else
      some false
    else
    some false
  else
  some false
noncomputable def parquetlaw08_BinaryReduces.body : Code := (Try.f8.body).getD .skip
noncomputable def parquetlaw08_BinaryReduces.ty : List (Nat × TI) := [(2, ty2), (23, ty23), (33, ty33)]
noncomputable def parquetlaw08_BinaryReduces.E (N : Nat) : Env := { ty := lookN parquetlaw08_BinaryReduces.ty, tab := lookN [(20, binary_Reduce.ent N), (19, binary_Check.ent N), (13, parquetlaw08_wakes.ent N), (16, binary_Act.ent N), (21, binary_Reduced.ent N), (22, binary_Disc.ent N), (18, parquetlaw08_turn.ent N), (14, binary_Proper.ent N)], hint := lookN [], cut := lookN [], N := N, res := [.tmp 4], rsh := [.any], nb := 0, ntmps := 169, own := false }
noncomputable def parquetlaw08_BinaryReduces.dec (v : V) (bs : List Blk) : Option (Bool) := match v, bs with
  | .c (.bool z0), [] => some z0
  | _, _ => none
set_option maxRecDepth 100000 in
theorem parquetlaw08_BinaryReduces.f_eq (N : Nat) (a1 : Int) (a2 : Int) (a3 : Int) (a4 : Nat) (a5 : List Int) (a6 : List Bool) :
    evFun (parquetlaw08_BinaryReduces.E N) parquetlaw08_BinaryReduces.body [.agg [.c (.int .i64 a1), .c (.int .i64 a2), .c (.int .i64 a3)], .iv a4 [.ints .i8 a5, .bools a6]] [] parquetlaw08_BinaryReduces.dec = parquetlaw08_BinaryReduces.f N a1 a2 a3 a4 a5 a6 := by kernel_rfl
noncomputable def parquetlaw08_BinaryReduces.ent (N : Nat) : Entry := { A := Bool, fresh := 0, imm := [true, true], dec := fun args bs => match freezeL 0 (fun _ => .dead) [.recd [.any, .any, .any], .any] args, bs with
  | some [.agg [.c (.int .i64 a1), .c (.int .i64 a2), .c (.int .i64 a3)], .iv a4 [.ints .i8 a5, .bools a6]], [] => some (parquetlaw08_BinaryReduces.f N a1 a2 a3 a4 a5 a6, fun r => .one (.c (.bool r)) [])
  | _, _ => none }
theorem parquetlaw08_BinaryReduces.env (N : Nat) : EnvOK Try.prog (parquetlaw08_BinaryReduces.E N) := ⟨(TyOK.cons ty2_ok (TyOK.cons ty23_ok (TyOK.cons ty33_ok TyOK.nil))), (TabOK.cons (binary_Reduce.ent_ok N) (TabOK.cons (binary_Check.ent_ok N) (TabOK.cons (parquetlaw08_wakes.ent_ok N) (TabOK.cons (binary_Act.ent_ok N) (TabOK.cons (binary_Reduced.ent_ok N) (TabOK.cons (binary_Disc.ent_ok N) (TabOK.cons (parquetlaw08_turn.ent_ok N) (TabOK.cons (binary_Proper.ent_ok N) TabOK.nil))))))))⟩
theorem parquetlaw08_BinaryReduces.res_eq (N : Nat) : (parquetlaw08_BinaryReduces.E N).res = Try.f8.results.toList := by kernel_rfl
theorem parquetlaw08_BinaryReduces.spec (N : Nat) (a1 : Int) (a2 : Int) (a3 : Int) (a4 : Nat) (a5 : List Int) (a6 : List Bool) (r : Bool) (h : parquetlaw08_BinaryReduces.f N a1 a2 a3 a4 a5 a6 = some r) : FnSpec Try.prog 8 [.agg [.c (.int .i64 a1), .c (.int .i64 a2), .c (.int .i64 a3)], .iv a4 [.ints .i8 a5, .bools a6]] [] (.c (.bool r)) ([]) := by
  rw [← parquetlaw08_BinaryReduces.f_eq] at h
  obtain ⟨v, bs', h1, h2⟩ := evFun_ok (parquetlaw08_BinaryReduces.env N) Try_mixed Try.func8 (by kernel_rfl : Try.f8.body = some parquetlaw08_BinaryReduces.body) (by kernel_rfl) (parquetlaw08_BinaryReduces.res_eq N) (by kernel_rfl) (by kernel_rfl) (Nat.le_of_ble_eq_true (by kernel_rfl)) (AllCut.of (l := []) (by kernel_rfl) AllCut.nil) h
  unfold parquetlaw08_BinaryReduces.dec at h1; split at h1
  · cases h1; exact h2
  · cases h1
theorem parquetlaw08_BinaryReduces.ent_ok (N : Nat) : TabOK1 Try.prog 8 (parquetlaw08_BinaryReduces.ent N) := by
  intro args bs a enc h
  simp only [parquetlaw08_BinaryReduces.ent] at h
  split at h
  · rename_i hz; have h0 := Option.some.inj h; have h1 := congrArg Prod.fst h0; have h2 := congrArg Prod.snd h0; dsimp only at h1 h2; subst h2; exact FnSpec.of_freeze hz (parquetlaw08_BinaryReduces.spec N _ _ _ _ _ _ a h1)
  · cases h
end Go.Proofs.Ytckddgepjhclpaa
