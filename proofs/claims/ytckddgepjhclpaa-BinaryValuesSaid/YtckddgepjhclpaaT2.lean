import Derived.Test.YtckddgepjhclpaaProg
import Derived.Test.YtckddgepjhclpaaEvUse
import Derived.KernelRfl
namespace Go.Proofs.Ytckddgepjhclpaa
open Go.Proofs.Ytckddgepjhclpaa.Ev
set_option linter.unusedVariables false
open Go
noncomputable def ty2 : TI := ⟨.int .i64, 1, 8, [.int .i64 0]⟩
noncomputable def ty4 : TI := ⟨.bool, 1, 1, [.bool false]⟩
noncomputable def ty23 : TI := ⟨.struct [(2, 0), (2, 1), (2, 2)], 3, 24, [.int .i64 0, .int .i64 0, .int .i64 0]⟩
noncomputable def ty33 : TI := ⟨.struct [(2, 0), (2, 1), (2, 2), (2, 3)], 4, 32, [.int .i64 0, .int .i64 0, .int .i64 0, .int .i64 0]⟩
noncomputable def ty50 : TI := ⟨.arr 2 2, 2, 16, [.int .i64 0, .int .i64 0]⟩
noncomputable def ty52 : TI := ⟨.slice 2, 1, 24, [.slice none 0 0]⟩
noncomputable def ty69 : TI := ⟨.struct [(23, 0), (33, 3)], 7, 56, [.int .i64 0, .int .i64 0, .int .i64 0, .int .i64 0, .int .i64 0, .int .i64 0, .int .i64 0]⟩
theorem Try_mixed : Try.prog.follows .mixedOrders = true := by kernel_rfl
theorem ty2_ok : TyOK1 Try.prog 2 ty2 := tyok_of (by kernel_rfl) (by kernel_rfl) (by kernel_rfl) (by kernel_rfl) (by kernel_rfl) (by kernel_rfl) (by kernel_rfl) (Try.underlying2) (by kernel_rfl)
theorem ty4_ok : TyOK1 Try.prog 4 ty4 := tyok_of (by kernel_rfl) (by kernel_rfl) (by kernel_rfl) (by kernel_rfl) (by kernel_rfl) (by kernel_rfl) (by kernel_rfl) (Try.underlying4) (by kernel_rfl)
theorem ty23_ok : TyOK1 Try.prog 23 ty23 := tyok_of (by kernel_rfl) (by kernel_rfl) (by kernel_rfl) (by kernel_rfl) (by kernel_rfl) (by kernel_rfl) (by kernel_rfl) (tk_struct Try.underlying23 (by kernel_rfl) (by kernel_rfl)) (by kernel_rfl)
theorem ty33_ok : TyOK1 Try.prog 33 ty33 := tyok_of (by kernel_rfl) (by kernel_rfl) (by kernel_rfl) (by kernel_rfl) (by kernel_rfl) (by kernel_rfl) (by kernel_rfl) (tk_struct Try.underlying33 (by kernel_rfl) (by kernel_rfl)) (by kernel_rfl)
theorem ty50_ok : TyOK1 Try.prog 50 ty50 := tyok_of (by kernel_rfl) (by kernel_rfl) (by kernel_rfl) (by kernel_rfl) (by kernel_rfl) (by kernel_rfl) (by kernel_rfl) (Try.underlying50) (by kernel_rfl)
theorem ty52_ok : TyOK1 Try.prog 52 ty52 := tyok_of (by kernel_rfl) (by kernel_rfl) (by kernel_rfl) (by kernel_rfl) (by kernel_rfl) (by kernel_rfl) (by kernel_rfl) (Try.underlying52) (by kernel_rfl)
theorem ty69_ok : TyOK1 Try.prog 69 ty69 := tyok_of (by kernel_rfl) (by kernel_rfl) (by kernel_rfl) (by kernel_rfl) (by kernel_rfl) (by kernel_rfl) (by kernel_rfl) (tk_struct Try.underlying69 (by kernel_rfl) (by kernel_rfl)) (by kernel_rfl)
/-! parquet/binary.within: function 31 -/
noncomputable def binary_within.f (N : Nat) (a1 : Int) (a2 : Int) (a3 : Int) : Option (Bool) :=
  bif decide ((mx2 (mx2 a1 a2) a3) ≤ 1073741824) then
    some (decide ((mn2 (mn2 a1 a2) a3) ≥ (-1073741824)))
  else
  some false
noncomputable def binary_within.body : Code := (Try.f31.body).getD .skip
noncomputable def binary_within.ty : List (Nat × TI) := [(2, ty2), (23, ty23)]
noncomputable def binary_within.E (N : Nat) : Env := { ty := lookN binary_within.ty, tab := lookN [], hint := lookN [], cut := lookN [], N := N, res := [.tmp 2], rsh := [.any], nb := 0, ntmps := 21 }
noncomputable def binary_within.dec (v : V) (bs : List Blk) : Option (Bool) := match v, bs with
  | .c (.bool z0), [] => some z0
  | _, _ => none
set_option maxRecDepth 100000 in
theorem binary_within.f_eq (N : Nat) (a1 : Int) (a2 : Int) (a3 : Int) :
    evFun (binary_within.E N) binary_within.body [.agg [.c (.int .i64 a1), .c (.int .i64 a2), .c (.int .i64 a3)]] [] binary_within.dec = binary_within.f N a1 a2 a3 := by kernel_rfl
noncomputable def binary_within.ent (N : Nat) : Entry := { A := Bool, fresh := 0, imm := [true], dec := fun args bs => match freezeL 0 (fun _ => .dead) [.recd [.any, .any, .any]] args, bs with
  | some [.agg [.c (.int .i64 a1), .c (.int .i64 a2), .c (.int .i64 a3)]], [] => some (binary_within.f N a1 a2 a3, fun r => (.c (.bool r), []))
  | _, _ => none }
theorem binary_within.env (N : Nat) : EnvOK Try.prog (binary_within.E N) := ⟨(TyOK.cons ty2_ok (TyOK.cons ty23_ok TyOK.nil)), TabOK.nil⟩
theorem binary_within.res_eq (N : Nat) : (binary_within.E N).res = Try.f31.results.toList := by kernel_rfl
theorem binary_within.spec (N : Nat) (a1 : Int) (a2 : Int) (a3 : Int) (r : Bool) (h : binary_within.f N a1 a2 a3 = some r) : FnSpec Try.prog 31 [.agg [.c (.int .i64 a1), .c (.int .i64 a2), .c (.int .i64 a3)]] [] (.c (.bool r)) [] := by
  rw [← binary_within.f_eq] at h
  obtain ⟨v, bs', h1, h2⟩ := evFun_ok (binary_within.env N) Try_mixed Try.func31 (by kernel_rfl : Try.f31.body = some binary_within.body) (by kernel_rfl) (binary_within.res_eq N) (by kernel_rfl) (by kernel_rfl) (Nat.le_of_ble_eq_true (by kernel_rfl)) (AllCut.of (l := []) (by kernel_rfl) AllCut.nil) h
  unfold binary_within.dec at h1; split at h1
  · cases h1; exact h2
  · cases h1
theorem binary_within.ent_ok (N : Nat) : TabOK1 Try.prog 31 (binary_within.ent N) := by
  intro args bs a enc h
  simp only [binary_within.ent] at h
  split at h
  · rename_i hz; have h0 := Option.some.inj h; have h1 := congrArg Prod.fst h0; have h2 := congrArg Prod.snd h0; dsimp only at h1 h2; subst h2; exact FnSpec.of_freeze hz (binary_within.spec N _ _ _ a h1)
  · cases h
/-! parquet/binary.Disc: function 22 -/
noncomputable def binary_Disc.f (N : Nat) (a1 : Int) (a2 : Int) (a3 : Int) : Option (Int) :=
  (binary_within.f N a1 a2 a3).bind fun r4 =>
  bif !r4 then
    some 0
  else
  some (wi64 ((wi64 (a2 * a2)) - (wi64 ((wi64 (4 * a1)) * a3))))
noncomputable def binary_Disc.body : Code := (Try.f22.body).getD .skip
noncomputable def binary_Disc.ty : List (Nat × TI) := [(2, ty2), (23, ty23)]
noncomputable def binary_Disc.E (N : Nat) : Env := { ty := lookN binary_Disc.ty, tab := lookN [(31, binary_within.ent N)], hint := lookN [], cut := lookN [], N := N, res := [.tmp 2], rsh := [.any], nb := 0, ntmps := 18 }
noncomputable def binary_Disc.dec (v : V) (bs : List Blk) : Option (Int) := match v, bs with
  | .c (.int .i64 z0), [] => some z0
  | _, _ => none
set_option maxRecDepth 100000 in
theorem binary_Disc.f_eq (N : Nat) (a1 : Int) (a2 : Int) (a3 : Int) :
    evFun (binary_Disc.E N) binary_Disc.body [.agg [.c (.int .i64 a1), .c (.int .i64 a2), .c (.int .i64 a3)]] [] binary_Disc.dec = binary_Disc.f N a1 a2 a3 := by kernel_rfl
noncomputable def binary_Disc.ent (N : Nat) : Entry := { A := Int, fresh := 0, imm := [true], dec := fun args bs => match freezeL 0 (fun _ => .dead) [.recd [.any, .any, .any]] args, bs with
  | some [.agg [.c (.int .i64 a1), .c (.int .i64 a2), .c (.int .i64 a3)]], [] => some (binary_Disc.f N a1 a2 a3, fun r => (.c (.int .i64 r), []))
  | _, _ => none }
theorem binary_Disc.env (N : Nat) : EnvOK Try.prog (binary_Disc.E N) := ⟨(TyOK.cons ty2_ok (TyOK.cons ty23_ok TyOK.nil)), (TabOK.cons (binary_within.ent_ok N) TabOK.nil)⟩
theorem binary_Disc.res_eq (N : Nat) : (binary_Disc.E N).res = Try.f22.results.toList := by kernel_rfl
theorem binary_Disc.spec (N : Nat) (a1 : Int) (a2 : Int) (a3 : Int) (r : Int) (h : binary_Disc.f N a1 a2 a3 = some r) : FnSpec Try.prog 22 [.agg [.c (.int .i64 a1), .c (.int .i64 a2), .c (.int .i64 a3)]] [] (.c (.int .i64 r)) [] := by
  rw [← binary_Disc.f_eq] at h
  obtain ⟨v, bs', h1, h2⟩ := evFun_ok (binary_Disc.env N) Try_mixed Try.func22 (by kernel_rfl : Try.f22.body = some binary_Disc.body) (by kernel_rfl) (binary_Disc.res_eq N) (by kernel_rfl) (by kernel_rfl) (Nat.le_of_ble_eq_true (by kernel_rfl)) (AllCut.of (l := []) (by kernel_rfl) AllCut.nil) h
  unfold binary_Disc.dec at h1; split at h1
  · cases h1; exact h2
  · cases h1
theorem binary_Disc.ent_ok (N : Nat) : TabOK1 Try.prog 22 (binary_Disc.ent N) := by
  intro args bs a enc h
  simp only [binary_Disc.ent] at h
  split at h
  · rename_i hz; have h0 := Option.some.inj h; have h1 := congrArg Prod.fst h0; have h2 := congrArg Prod.snd h0; dsimp only at h1 h2; subst h2; exact FnSpec.of_freeze hz (binary_Disc.spec N _ _ _ a h1)
  · cases h
/-! parquet/binary.Check: function 19 -/
noncomputable def binary_Check.f (N : Nat) (a1 : Int) (a2 : Int) (a3 : Int) : Option (Int) :=
  (binary_Disc.f N a1 a2 a3).bind fun r4 =>
  (binary_within.f N a1 a2 a3).bind fun r5 =>
  bif !r5 then
    some 3
  else
  bif decide (a1 ≤ 0) then
    some 81
  else
  bif decide (r4 ≥ 0) then
    some 81
  else
  bif decide (r4 < (-4294967296)) then
    some 80
  else
  some 0
noncomputable def binary_Check.body : Code := (Try.f19.body).getD .skip
noncomputable def binary_Check.ty : List (Nat × TI) := [(2, ty2), (23, ty23)]
noncomputable def binary_Check.E (N : Nat) : Env := { ty := lookN binary_Check.ty, tab := lookN [(22, binary_Disc.ent N), (31, binary_within.ent N)], hint := lookN [], cut := lookN [], N := N, res := [.tmp 2], rsh := [.any], nb := 0, ntmps := 21 }
noncomputable def binary_Check.dec (v : V) (bs : List Blk) : Option (Int) := match v, bs with
  | .c (.int .i64 z0), [] => some z0
  | _, _ => none
set_option maxRecDepth 100000 in
theorem binary_Check.f_eq (N : Nat) (a1 : Int) (a2 : Int) (a3 : Int) :
    evFun (binary_Check.E N) binary_Check.body [.agg [.c (.int .i64 a1), .c (.int .i64 a2), .c (.int .i64 a3)]] [] binary_Check.dec = binary_Check.f N a1 a2 a3 := by kernel_rfl
noncomputable def binary_Check.ent (N : Nat) : Entry := { A := Int, fresh := 0, imm := [true], dec := fun args bs => match freezeL 0 (fun _ => .dead) [.recd [.any, .any, .any]] args, bs with
  | some [.agg [.c (.int .i64 a1), .c (.int .i64 a2), .c (.int .i64 a3)]], [] => some (binary_Check.f N a1 a2 a3, fun r => (.c (.int .i64 r), []))
  | _, _ => none }
theorem binary_Check.env (N : Nat) : EnvOK Try.prog (binary_Check.E N) := ⟨(TyOK.cons ty2_ok (TyOK.cons ty23_ok TyOK.nil)), (TabOK.cons (binary_Disc.ent_ok N) (TabOK.cons (binary_within.ent_ok N) TabOK.nil))⟩
theorem binary_Check.res_eq (N : Nat) : (binary_Check.E N).res = Try.f19.results.toList := by kernel_rfl
theorem binary_Check.spec (N : Nat) (a1 : Int) (a2 : Int) (a3 : Int) (r : Int) (h : binary_Check.f N a1 a2 a3 = some r) : FnSpec Try.prog 19 [.agg [.c (.int .i64 a1), .c (.int .i64 a2), .c (.int .i64 a3)]] [] (.c (.int .i64 r)) [] := by
  rw [← binary_Check.f_eq] at h
  obtain ⟨v, bs', h1, h2⟩ := evFun_ok (binary_Check.env N) Try_mixed Try.func19 (by kernel_rfl : Try.f19.body = some binary_Check.body) (by kernel_rfl) (binary_Check.res_eq N) (by kernel_rfl) (by kernel_rfl) (Nat.le_of_ble_eq_true (by kernel_rfl)) (AllCut.of (l := []) (by kernel_rfl) AllCut.nil) h
  unfold binary_Check.dec at h1; split at h1
  · cases h1; exact h2
  · cases h1
theorem binary_Check.ent_ok (N : Nat) : TabOK1 Try.prog 19 (binary_Check.ent N) := by
  intro args bs a enc h
  simp only [binary_Check.ent] at h
  split at h
  · rename_i hz; have h0 := Option.some.inj h; have h1 := congrArg Prod.fst h0; have h2 := congrArg Prod.snd h0; dsimp only at h1 h2; subst h2; exact FnSpec.of_freeze hz (binary_Check.spec N _ _ _ a h1)
  · cases h
/-! (*parquet/binary.walk).step: function 37 -/
noncomputable def binary_walk_step.f (N : Nat) (a1 : Int) (a2 : Int) (a3 : Int) (a4 : Int) (a5 : Int) (a6 : Int) (a7 : Int) : Option (Bool × Int × Int × Int × Int × Int × Int × Int) :=
  bif decide (a2 ≤ (wi64 (0 - a1))) then
    bif !((wi64 (2 * a1)) == 0) then
      bif !((wi64 (2 * a1)) == 0) then
        bif decide ((Int.tmod (wi64 (a1 - a2)) (wi64 (2 * a1))) < 0) then
          some (true, a1, wi64 (a2 + (wi64 ((wi64 (2 * (wi64 ((wi64 (Int.tdiv (wi64 (a1 - a2)) (wi64 (2 * a1)))) - 1)))) * a1))), wi64 ((wi64 ((wi64 ((wi64 (a1 * (wi64 ((wi64 (Int.tdiv (wi64 (a1 - a2)) (wi64 (2 * a1)))) - 1)))) + a2)) * (wi64 ((wi64 (Int.tdiv (wi64 (a1 - a2)) (wi64 (2 * a1)))) - 1)))) + a3), a4, wi64 ((wi64 ((wi64 ((wi64 (Int.tdiv (wi64 (a1 - a2)) (wi64 (2 * a1)))) - 1)) * a4)) + a5), a6, wi64 ((wi64 ((wi64 ((wi64 (Int.tdiv (wi64 (a1 - a2)) (wi64 (2 * a1)))) - 1)) * a6)) + a7))
        else
        some (true, a1, wi64 (a2 + (wi64 ((wi64 (2 * (wi64 (Int.tdiv (wi64 (a1 - a2)) (wi64 (2 * a1)))))) * a1))), wi64 ((wi64 ((wi64 ((wi64 (a1 * (wi64 (Int.tdiv (wi64 (a1 - a2)) (wi64 (2 * a1)))))) + a2)) * (wi64 (Int.tdiv (wi64 (a1 - a2)) (wi64 (2 * a1)))))) + a3), a4, wi64 ((wi64 ((wi64 (Int.tdiv (wi64 (a1 - a2)) (wi64 (2 * a1)))) * a4)) + a5), a6, wi64 ((wi64 ((wi64 (Int.tdiv (wi64 (a1 - a2)) (wi64 (2 * a1)))) * a6)) + a7))
      else none
    else none
  else
  bif decide (a2 > a1) then
    bif !((wi64 (2 * a1)) == 0) then
      bif !((wi64 (2 * a1)) == 0) then
        bif decide ((Int.tmod (wi64 (a1 - a2)) (wi64 (2 * a1))) < 0) then
          some (true, a1, wi64 (a2 + (wi64 ((wi64 (2 * (wi64 ((wi64 (Int.tdiv (wi64 (a1 - a2)) (wi64 (2 * a1)))) - 1)))) * a1))), wi64 ((wi64 ((wi64 ((wi64 (a1 * (wi64 ((wi64 (Int.tdiv (wi64 (a1 - a2)) (wi64 (2 * a1)))) - 1)))) + a2)) * (wi64 ((wi64 (Int.tdiv (wi64 (a1 - a2)) (wi64 (2 * a1)))) - 1)))) + a3), a4, wi64 ((wi64 ((wi64 ((wi64 (Int.tdiv (wi64 (a1 - a2)) (wi64 (2 * a1)))) - 1)) * a4)) + a5), a6, wi64 ((wi64 ((wi64 ((wi64 (Int.tdiv (wi64 (a1 - a2)) (wi64 (2 * a1)))) - 1)) * a6)) + a7))
        else
        some (true, a1, wi64 (a2 + (wi64 ((wi64 (2 * (wi64 (Int.tdiv (wi64 (a1 - a2)) (wi64 (2 * a1)))))) * a1))), wi64 ((wi64 ((wi64 ((wi64 (a1 * (wi64 (Int.tdiv (wi64 (a1 - a2)) (wi64 (2 * a1)))))) + a2)) * (wi64 (Int.tdiv (wi64 (a1 - a2)) (wi64 (2 * a1)))))) + a3), a4, wi64 ((wi64 ((wi64 (Int.tdiv (wi64 (a1 - a2)) (wi64 (2 * a1)))) * a4)) + a5), a6, wi64 ((wi64 ((wi64 (Int.tdiv (wi64 (a1 - a2)) (wi64 (2 * a1)))) * a6)) + a7))
      else none
    else none
  else
  bif decide (a1 > a3) then
    some (true, a3, wi64 (0 - a2), a1, a5, wi64 (0 - a4), a7, wi64 (0 - a6))
  else
  bif a1 == a3 then
    bif decide (a2 < 0) then
      some (true, a3, wi64 (0 - a2), a1, a5, wi64 (0 - a4), a7, wi64 (0 - a6))
    else
    some (false, a1, a2, a3, a4, a5, a6, a7)
  else
  some (false, a1, a2, a3, a4, a5, a6, a7)
noncomputable def binary_walk_step.body : Code := (Try.f37.body).getD .skip
noncomputable def binary_walk_step.ty : List (Nat × TI) := [(2, ty2), (23, ty23), (33, ty33), (69, ty69)]
noncomputable def binary_walk_step.E (N : Nat) : Env := { ty := lookN binary_walk_step.ty, tab := lookN [], hint := lookN [], cut := lookN [], N := N, res := [.tmp 2], rsh := [.any], nb := 1, ntmps := 164 }
noncomputable def binary_walk_step.dec (v : V) (bs : List Blk) : Option (Bool × Int × Int × Int × Int × Int × Int × Int) := match v, bs with
  | .c (.bool z0), [.vals [.c (.int .i64 z1), .c (.int .i64 z2), .c (.int .i64 z3), .c (.int .i64 z4), .c (.int .i64 z5), .c (.int .i64 z6), .c (.int .i64 z7)]] => some (z0, z1, z2, z3, z4, z5, z6, z7)
  | _, _ => none
set_option maxRecDepth 100000 in
theorem binary_walk_step.f_eq (N : Nat) (a1 : Int) (a2 : Int) (a3 : Int) (a4 : Int) (a5 : Int) (a6 : Int) (a7 : Int) :
    evFun (binary_walk_step.E N) binary_walk_step.body [.ptr 0 0 7] [.vals [.c (.int .i64 a1), .c (.int .i64 a2), .c (.int .i64 a3), .c (.int .i64 a4), .c (.int .i64 a5), .c (.int .i64 a6), .c (.int .i64 a7)]] binary_walk_step.dec = binary_walk_step.f N a1 a2 a3 a4 a5 a6 a7 := by kernel_rfl
noncomputable def binary_walk_step.ent (N : Nat) : Entry := { A := Bool × Int × Int × Int × Int × Int × Int × Int, fresh := 0, imm := [false], dec := fun args bs => match args, bs with
  | [.ptr 0 0 7], [.vals [.c (.int .i64 a1), .c (.int .i64 a2), .c (.int .i64 a3), .c (.int .i64 a4), .c (.int .i64 a5), .c (.int .i64 a6), .c (.int .i64 a7)]] => some (binary_walk_step.f N a1 a2 a3 a4 a5 a6 a7, fun r => (.c (.bool r.1), [.vals [.c (.int .i64 r.2.1), .c (.int .i64 r.2.2.1), .c (.int .i64 r.2.2.2.1), .c (.int .i64 r.2.2.2.2.1), .c (.int .i64 r.2.2.2.2.2.1), .c (.int .i64 r.2.2.2.2.2.2.1), .c (.int .i64 r.2.2.2.2.2.2.2)]]))
  | _, _ => none }
theorem binary_walk_step.env (N : Nat) : EnvOK Try.prog (binary_walk_step.E N) := ⟨(TyOK.cons ty2_ok (TyOK.cons ty23_ok (TyOK.cons ty33_ok (TyOK.cons ty69_ok TyOK.nil)))), TabOK.nil⟩
theorem binary_walk_step.res_eq (N : Nat) : (binary_walk_step.E N).res = Try.f37.results.toList := by kernel_rfl
theorem binary_walk_step.spec (N : Nat) (a1 : Int) (a2 : Int) (a3 : Int) (a4 : Int) (a5 : Int) (a6 : Int) (a7 : Int) (r : Bool × Int × Int × Int × Int × Int × Int × Int) (h : binary_walk_step.f N a1 a2 a3 a4 a5 a6 a7 = some r) : FnSpec Try.prog 37 [.ptr 0 0 7] [.vals [.c (.int .i64 a1), .c (.int .i64 a2), .c (.int .i64 a3), .c (.int .i64 a4), .c (.int .i64 a5), .c (.int .i64 a6), .c (.int .i64 a7)]] (.c (.bool r.1)) [.vals [.c (.int .i64 r.2.1), .c (.int .i64 r.2.2.1), .c (.int .i64 r.2.2.2.1), .c (.int .i64 r.2.2.2.2.1), .c (.int .i64 r.2.2.2.2.2.1), .c (.int .i64 r.2.2.2.2.2.2.1), .c (.int .i64 r.2.2.2.2.2.2.2)]] := by
  rw [← binary_walk_step.f_eq] at h
  obtain ⟨v, bs', h1, h2⟩ := evFun_ok (binary_walk_step.env N) Try_mixed Try.func37 (by kernel_rfl : Try.f37.body = some binary_walk_step.body) (by kernel_rfl) (binary_walk_step.res_eq N) (by kernel_rfl) (by kernel_rfl) (Nat.le_of_ble_eq_true (by kernel_rfl)) (AllCut.of (l := []) (by kernel_rfl) AllCut.nil) h
  unfold binary_walk_step.dec at h1; split at h1
  · cases h1; exact h2
  · cases h1
theorem binary_walk_step.ent_ok (N : Nat) : TabOK1 Try.prog 37 (binary_walk_step.ent N) := by
  intro args bs a enc h
  simp only [binary_walk_step.ent] at h
  split at h
  · have h0 := Option.some.inj h; have h1 := congrArg Prod.fst h0; have h2 := congrArg Prod.snd h0; dsimp only at h1 h2; subst h2; exact binary_walk_step.spec N _ _ _ _ _ _ _ a h1
  · cases h
/-! parquet/binary.Reduce: function 20 -/
noncomputable def binary_Reduce.l6 {R : Type} (N : Nat) : Nat → Int → Int → Int → Int → Int → Int → Int → Int → Int → Int → Int → Int → Int → Int → (Int → Int → Int → Int → Int → Int → Int → Int → Int → Int → Int → Int → Int → Int → Option R) → Option R
  | 0, _, _, _, _, _, _, _, _, _, _, _, _, _, _, _ => none
  | n + 1, x5, x6, x7, x8, x9, x10, x11, x12, x13, x14, x15, x16, x17, x18, k0 =>
    (binary_walk_step.f N x12 x13 x14 x15 x16 x17 x18).bind fun r19 =>
    bif r19.1 then
      binary_Reduce.l6 N n x5 x6 x7 x8 x9 x10 x11 r19.2.1 r19.2.2.1 r19.2.2.2.1 r19.2.2.2.2.1 r19.2.2.2.2.2.1 r19.2.2.2.2.2.2.1 r19.2.2.2.2.2.2.2 k0
    else
    k0 x5 x6 x7 x8 x9 x10 x11 r19.2.1 r19.2.2.1 r19.2.2.2.1 r19.2.2.2.2.1 r19.2.2.2.2.2.1 r19.2.2.2.2.2.2.1 r19.2.2.2.2.2.2.2
noncomputable def binary_Reduce.f (N : Nat) (a1 : Int) (a2 : Int) (a3 : Int) : Option (Int × Int × Int × Int × Int × Int × Int × Int) :=
  (binary_Check.f N a1 a2 a3).bind fun r4 =>
  bif r4 != 0 then
    some (0, 0, 0, 0, 0, 0, 0, r4)
  else
  binary_Reduce.l6 N N 0 0 0 0 0 0 0 a1 a2 a3 1 0 0 1
    (fun y34 y35 y36 y37 y38 y39 y40 y41 y42 y43 y44 y45 y46 y47 =>
      some (y41, y42, y43, y44, y45, y46, y47, 0))
noncomputable def binary_Reduce.body : Code := (Try.f20.body).getD .skip
noncomputable def binary_Reduce.ty : List (Nat × TI) := [(2, ty2), (23, ty23), (33, ty33), (69, ty69)]
noncomputable def binary_Reduce.h6 : Hint := ⟨[(2, .box [.any, .any, .any]), (3, .box [.any, .any, .any, .any]), (6, .box [.any, .any, .any, .any, .any, .any, .any]), (7, .any)], [(2, .box [.any, .any, .any]), (3, .box [.any, .any, .any, .any]), (6, .box [.any, .any, .any, .any, .any, .any, .any])]⟩
noncomputable def binary_Reduce.c6 (N : Nat) : Cut := ⟨fun vs H k => match vs, H with
  | [.ptr 0 0 3, .ptr 1 0 4, .ptr 2 0 7, .fn 37 [.ptr 2 0 7] []], [.vals [.c (.int .i64 x5), .c (.int .i64 x6), .c (.int .i64 x7)], .vals [.c (.int .i64 x8), .c (.int .i64 x9), .c (.int .i64 x10), .c (.int .i64 x11)], .vals [.c (.int .i64 x12), .c (.int .i64 x13), .c (.int .i64 x14), .c (.int .i64 x15), .c (.int .i64 x16), .c (.int .i64 x17), .c (.int .i64 x18)]] => binary_Reduce.l6 N N x5 x6 x7 x8 x9 x10 x11 x12 x13 x14 x15 x16 x17 x18 (fun x20 x21 x22 x23 x24 x25 x26 x27 x28 x29 x30 x31 x32 x33 => k (.exit 0) ⟨mkT binary_Reduce.h6.out [.ptr 0 0 3, .ptr 1 0 4, .ptr 2 0 7], [.vals [.c (.int .i64 x20), .c (.int .i64 x21), .c (.int .i64 x22)], .vals [.c (.int .i64 x23), .c (.int .i64 x24), .c (.int .i64 x25), .c (.int .i64 x26)], .vals [.c (.int .i64 x27), .c (.int .i64 x28), .c (.int .i64 x29), .c (.int .i64 x30), .c (.int .i64 x31), .c (.int .i64 x32), .c (.int .i64 x33)]]⟩)
  | _, _ => none⟩
noncomputable def binary_Reduce.E (N : Nat) : Env := { ty := lookN binary_Reduce.ty, tab := lookN [(19, binary_Check.ent N), (37, binary_walk_step.ent N)], hint := lookN [(6, binary_Reduce.h6)], cut := lookN [(6, binary_Reduce.c6 N)], N := N, res := [.cell 2 23, .cell 3 33, .tmp 4], rsh := [.recd [.any, .any, .any], .recd [.any, .any, .any, .any], .any], nb := 0, ntmps := 31 }
noncomputable def binary_Reduce.b6 : Code := inner ((subLoops binary_Reduce.body).getD 0 .skip)
set_option maxRecDepth 100000 in
theorem binary_Reduce.l6_eq {R : Type} (N n : Nat) (x5 : Int) (x6 : Int) (x7 : Int) (x8 : Int) (x9 : Int) (x10 : Int) (x11 : Int) (x12 : Int) (x13 : Int) (x14 : Int) (x15 : Int) (x16 : Int) (x17 : Int) (x18 : Int) (k : Ex → St → Option R) :
    evLoop 0 binary_Reduce.h6 (fun s k => evCode (binary_Reduce.E N) 393 binary_Reduce.b6 s k) n [.ptr 0 0 3, .ptr 1 0 4, .ptr 2 0 7, .fn 37 [.ptr 2 0 7] []] [.vals [.c (.int .i64 x5), .c (.int .i64 x6), .c (.int .i64 x7)], .vals [.c (.int .i64 x8), .c (.int .i64 x9), .c (.int .i64 x10), .c (.int .i64 x11)], .vals [.c (.int .i64 x12), .c (.int .i64 x13), .c (.int .i64 x14), .c (.int .i64 x15), .c (.int .i64 x16), .c (.int .i64 x17), .c (.int .i64 x18)]] k = binary_Reduce.l6 N n x5 x6 x7 x8 x9 x10 x11 x12 x13 x14 x15 x16 x17 x18 (fun x20 x21 x22 x23 x24 x25 x26 x27 x28 x29 x30 x31 x32 x33 => k (.exit 0) ⟨mkT binary_Reduce.h6.out [.ptr 0 0 3, .ptr 1 0 4, .ptr 2 0 7], [.vals [.c (.int .i64 x20), .c (.int .i64 x21), .c (.int .i64 x22)], .vals [.c (.int .i64 x23), .c (.int .i64 x24), .c (.int .i64 x25), .c (.int .i64 x26)], .vals [.c (.int .i64 x27), .c (.int .i64 x28), .c (.int .i64 x29), .c (.int .i64 x30), .c (.int .i64 x31), .c (.int .i64 x32), .c (.int .i64 x33)]]⟩) := by
  induction n generalizing x5 x6 x7 x8 x9 x10 x11 x12 x13 x14 x15 x16 x17 x18 with
  | zero => kernel_rfl
  | succ n ih =>
    simp only [binary_Reduce.l6, ← ih]
    kernel_rfl
noncomputable def binary_Reduce.dec (v : V) (bs : List Blk) : Option (Int × Int × Int × Int × Int × Int × Int × Int) := match v, bs with
  | .tup [.agg [.c (.int .i64 z0), .c (.int .i64 z1), .c (.int .i64 z2)], .agg [.c (.int .i64 z3), .c (.int .i64 z4), .c (.int .i64 z5), .c (.int .i64 z6)], .c (.int .i64 z7)], [] => some (z0, z1, z2, z3, z4, z5, z6, z7)
  | _, _ => none
set_option maxRecDepth 100000 in
theorem binary_Reduce.f_eq (N : Nat) (a1 : Int) (a2 : Int) (a3 : Int) :
    evFun (binary_Reduce.E N) binary_Reduce.body [.agg [.c (.int .i64 a1), .c (.int .i64 a2), .c (.int .i64 a3)]] [] binary_Reduce.dec = binary_Reduce.f N a1 a2 a3 := by kernel_rfl
noncomputable def binary_Reduce.ent (N : Nat) : Entry := { A := Int × Int × Int × Int × Int × Int × Int × Int, fresh := 0, imm := [true], dec := fun args bs => match freezeL 0 (fun _ => .dead) [.recd [.any, .any, .any]] args, bs with
  | some [.agg [.c (.int .i64 a1), .c (.int .i64 a2), .c (.int .i64 a3)]], [] => some (binary_Reduce.f N a1 a2 a3, fun r => (.tup [.agg [.c (.int .i64 r.1), .c (.int .i64 r.2.1), .c (.int .i64 r.2.2.1)], .agg [.c (.int .i64 r.2.2.2.1), .c (.int .i64 r.2.2.2.2.1), .c (.int .i64 r.2.2.2.2.2.1), .c (.int .i64 r.2.2.2.2.2.2.1)], .c (.int .i64 r.2.2.2.2.2.2.2)], []))
  | _, _ => none }
theorem binary_Reduce.env (N : Nat) : EnvOK Try.prog (binary_Reduce.E N) := ⟨(TyOK.cons ty2_ok (TyOK.cons ty23_ok (TyOK.cons ty33_ok (TyOK.cons ty69_ok TyOK.nil)))), (TabOK.cons (binary_Check.ent_ok N) (TabOK.cons (binary_walk_step.ent_ok N) TabOK.nil))⟩
theorem binary_Reduce.res_eq (N : Nat) : (binary_Reduce.E N).res = Try.f20.results.toList := by kernel_rfl
theorem binary_Reduce.k6 (N : Nat) : CutOK Try.prog Try.f20 (binary_Reduce.E N) (.loop binary_Reduce.b6) := by
  intro e hd he hh R vs H k r h
  have e1 : (binary_Reduce.E N).cut (loopKey binary_Reduce.b6) = some (binary_Reduce.c6 N) := by kernel_rfl
  have e2 : (binary_Reduce.E N).hint (loopKey binary_Reduce.b6) = some binary_Reduce.h6 := by kernel_rfl
  rw [e1] at he; rw [e2] at hh; cases he; cases hh
  unfold binary_Reduce.c6 at h; dsimp only at h
  split at h
  · rw [← binary_Reduce.l6_eq] at h
    exact loop_ok (evCode_ok (binary_Reduce.env N) Try_mixed (binary_Reduce.res_eq N) 393 binary_Reduce.b6 (AllCut.of (l := []) (by kernel_rfl) AllCut.nil)) h
  · cases h
theorem binary_Reduce.spec (N : Nat) (a1 : Int) (a2 : Int) (a3 : Int) (r : Int × Int × Int × Int × Int × Int × Int × Int) (h : binary_Reduce.f N a1 a2 a3 = some r) : FnSpec Try.prog 20 [.agg [.c (.int .i64 a1), .c (.int .i64 a2), .c (.int .i64 a3)]] [] (.tup [.agg [.c (.int .i64 r.1), .c (.int .i64 r.2.1), .c (.int .i64 r.2.2.1)], .agg [.c (.int .i64 r.2.2.2.1), .c (.int .i64 r.2.2.2.2.1), .c (.int .i64 r.2.2.2.2.2.1), .c (.int .i64 r.2.2.2.2.2.2.1)], .c (.int .i64 r.2.2.2.2.2.2.2)]) [] := by
  rw [← binary_Reduce.f_eq] at h
  obtain ⟨v, bs', h1, h2⟩ := evFun_ok (binary_Reduce.env N) Try_mixed Try.func20 (by kernel_rfl : Try.f20.body = some binary_Reduce.body) (by kernel_rfl) (binary_Reduce.res_eq N) (by kernel_rfl) (by kernel_rfl) (Nat.le_of_ble_eq_true (by kernel_rfl)) (AllCut.of (l := [(.loop (inner ((subLoops binary_Reduce.body).getD 0 .skip)))]) (by kernel_rfl) (AllCut.cons (binary_Reduce.k6 N) AllCut.nil)) h
  unfold binary_Reduce.dec at h1; split at h1
  · cases h1; exact h2
  · cases h1
theorem binary_Reduce.ent_ok (N : Nat) : TabOK1 Try.prog 20 (binary_Reduce.ent N) := by
  intro args bs a enc h
  simp only [binary_Reduce.ent] at h
  split at h
  · rename_i hz; have h0 := Option.some.inj h; have h1 := congrArg Prod.fst h0; have h2 := congrArg Prod.snd h0; dsimp only at h1 h2; subst h2; exact FnSpec.of_freeze hz (binary_Reduce.spec N _ _ _ a h1)
  · cases h
/-! parquet/binary.root: function 29 -/
noncomputable def binary_root.l5 {R : Type} (N : Nat) : Nat → Int → Int → Int → (Int → Int → Option R) → Option R
  | 0, _, _, _, _ => none
  | n + 1, x2, x3, x4, k0 =>
    bif decide (x4 > 0) then
      bif decide ((wi64 ((wi64 (x3 + x4)) * (wi64 (x3 + x4)))) ≤ x2) then
        binary_root.l5 N n x2 (wi64 (x3 + x4)) (Int.fdiv x4 (2 ^ 1)) k0
      else
      binary_root.l5 N n x2 x3 (Int.fdiv x4 (2 ^ 1)) k0
    else
    k0 x2 x3
noncomputable def binary_root.f (N : Nat) (a1 : Int) : Option (Int × Bool) :=
  bif decide (a1 < 0) then
    some (0, false)
  else
  binary_root.l5 N N a1 0 1073741824
    (fun y7 y8 =>
      some (y8, (wi64 (y8 * y8)) == y7))
noncomputable def binary_root.body : Code := (Try.f29.body).getD .skip
noncomputable def binary_root.ty : List (Nat × TI) := []
noncomputable def binary_root.h5 : Hint := ⟨[(0, .any), (4, .any), (5, .any)], [(0, .any), (4, .any)]⟩
noncomputable def binary_root.c5 (N : Nat) : Cut := ⟨fun vs H k => match vs, H with
  | [.c (.int .i64 x2), .c (.int .i64 x3), .c (.int .i64 x4)], [] => binary_root.l5 N N x2 x3 x4 (fun x5 x6 => k (.exit 0) ⟨mkT binary_root.h5.out [.c (.int .i64 x5), .c (.int .i64 x6)], []⟩)
  | _, _ => none⟩
noncomputable def binary_root.E (N : Nat) : Env := { ty := lookN binary_root.ty, tab := lookN [], hint := lookN [(5, binary_root.h5)], cut := lookN [(5, binary_root.c5 N)], N := N, res := [.tmp 2, .tmp 3], rsh := [.any, .any], nb := 0, ntmps := 30 }
noncomputable def binary_root.b5 : Code := inner ((subLoops binary_root.body).getD 0 .skip)
set_option maxRecDepth 100000 in
theorem binary_root.l5_eq {R : Type} (N n : Nat) (x2 : Int) (x3 : Int) (x4 : Int) (k : Ex → St → Option R) :
    evLoop 0 binary_root.h5 (fun s k => evCode (binary_root.E N) 393 binary_root.b5 s k) n [.c (.int .i64 x2), .c (.int .i64 x3), .c (.int .i64 x4)] [] k = binary_root.l5 N n x2 x3 x4 (fun x5 x6 => k (.exit 0) ⟨mkT binary_root.h5.out [.c (.int .i64 x5), .c (.int .i64 x6)], []⟩) := by
  induction n generalizing x2 x3 x4 with
  | zero => kernel_rfl
  | succ n ih =>
    simp only [binary_root.l5, ← ih]
    kernel_rfl
noncomputable def binary_root.dec (v : V) (bs : List Blk) : Option (Int × Bool) := match v, bs with
  | .tup [.c (.int .i64 z0), .c (.bool z1)], [] => some (z0, z1)
  | _, _ => none
set_option maxRecDepth 100000 in
theorem binary_root.f_eq (N : Nat) (a1 : Int) :
    evFun (binary_root.E N) binary_root.body [.c (.int .i64 a1)] [] binary_root.dec = binary_root.f N a1 := by kernel_rfl
noncomputable def binary_root.ent (N : Nat) : Entry := { A := Int × Bool, fresh := 0, imm := [true], dec := fun args bs => match freezeL 0 (fun _ => .dead) [.any] args, bs with
  | some [.c (.int .i64 a1)], [] => some (binary_root.f N a1, fun r => (.tup [.c (.int .i64 r.1), .c (.bool r.2)], []))
  | _, _ => none }
theorem binary_root.env (N : Nat) : EnvOK Try.prog (binary_root.E N) := ⟨TyOK.nil, TabOK.nil⟩
theorem binary_root.res_eq (N : Nat) : (binary_root.E N).res = Try.f29.results.toList := by kernel_rfl
theorem binary_root.k5 (N : Nat) : CutOK Try.prog Try.f29 (binary_root.E N) (.loop binary_root.b5) := by
  intro e hd he hh R vs H k r h
  have e1 : (binary_root.E N).cut (loopKey binary_root.b5) = some (binary_root.c5 N) := by kernel_rfl
  have e2 : (binary_root.E N).hint (loopKey binary_root.b5) = some binary_root.h5 := by kernel_rfl
  rw [e1] at he; rw [e2] at hh; cases he; cases hh
  unfold binary_root.c5 at h; dsimp only at h
  split at h
  · rw [← binary_root.l5_eq] at h
    exact loop_ok (evCode_ok (binary_root.env N) Try_mixed (binary_root.res_eq N) 393 binary_root.b5 (AllCut.of (l := []) (by kernel_rfl) AllCut.nil)) h
  · cases h
theorem binary_root.spec (N : Nat) (a1 : Int) (r : Int × Bool) (h : binary_root.f N a1 = some r) : FnSpec Try.prog 29 [.c (.int .i64 a1)] [] (.tup [.c (.int .i64 r.1), .c (.bool r.2)]) [] := by
  rw [← binary_root.f_eq] at h
  obtain ⟨v, bs', h1, h2⟩ := evFun_ok (binary_root.env N) Try_mixed Try.func29 (by kernel_rfl : Try.f29.body = some binary_root.body) (by kernel_rfl) (binary_root.res_eq N) (by kernel_rfl) (by kernel_rfl) (Nat.le_of_ble_eq_true (by kernel_rfl)) (AllCut.of (l := [(.loop (inner ((subLoops binary_root.body).getD 0 .skip)))]) (by kernel_rfl) (AllCut.cons (binary_root.k5 N) AllCut.nil)) h
  unfold binary_root.dec at h1; split at h1
  · cases h1; exact h2
  · cases h1
theorem binary_root.ent_ok (N : Nat) : TabOK1 Try.prog 29 (binary_root.ent N) := by
  intro args bs a enc h
  simp only [binary_root.ent] at h
  split at h
  · rename_i hz; have h0 := Option.some.inj h; have h1 := congrArg Prod.fst h0; have h2 := congrArg Prod.snd h0; dsimp only at h1 h2; subst h2; exact FnSpec.of_freeze hz (binary_root.spec N _ a h1)
  · cases h
/-! parquet/binary.Represents: function 11 -/
noncomputable def binary_Represents.l9 {R : Type} (N : Nat) : Nat → Int → Int → Int → Int → Int → Int → Int → Int → Int → Int → (Unit → Option R) → (Int → Int → Int → Option R) → Option R
  | 0, _, _, _, _, _, _, _, _, _, _, _, _ => none
  | n + 1, x7, x8, x9, x10, x11, x12, x13, x14, x15, x16, k1, kr =>
    bif decide ((wi64 ((wi64 ((wi64 (x8 * x9)) * x9)) + (wi64 ((wi64 (4 * x10)) * x7)))) < 0) then
      k1 ()
    else
    (binary_root.f N (wi64 ((wi64 ((wi64 (x8 * x9)) * x9)) + (wi64 ((wi64 (4 * x10)) * x7))))).bind fun r17 =>
    bif !r17.2 then
      binary_Represents.l9 N n x7 x8 (wi64 (x9 + 1)) x10 x11 x12 x13 x14 x15 x16 k1 kr
    else
    bif !((wi64 (2 * x10)) == 0) then
      bif (Int.tmod (wi64 (r17.1 - (wi64 (x11 * x9)))) (wi64 (2 * x10))) == 0 then
        bif !((wi64 (2 * x10)) == 0) then
          kr (wi64 ((wi64 (x13 * (wi64 (Int.tdiv (wi64 (r17.1 - (wi64 (x11 * x9)))) (wi64 (2 * x10)))))) + (wi64 (x14 * x9)))) (wi64 ((wi64 (x15 * (wi64 (Int.tdiv (wi64 (r17.1 - (wi64 (x11 * x9)))) (wi64 (2 * x10)))))) + (wi64 (x16 * x9)))) 0
        else none
      else
      bif !((wi64 (2 * x10)) == 0) then
        bif (Int.tmod (wi64 ((wi64 (0 - r17.1)) - (wi64 (x11 * x9)))) (wi64 (2 * x10))) == 0 then
          bif !((wi64 (2 * x10)) == 0) then
            kr (wi64 ((wi64 (x13 * (wi64 (Int.tdiv (wi64 ((wi64 (0 - r17.1)) - (wi64 (x11 * x9)))) (wi64 (2 * x10)))))) + (wi64 (x14 * x9)))) (wi64 ((wi64 (x15 * (wi64 (Int.tdiv (wi64 ((wi64 (0 - r17.1)) - (wi64 (x11 * x9)))) (wi64 (2 * x10)))))) + (wi64 (x16 * x9)))) 0
          else none
        else
        binary_Represents.l9 N n x7 x8 (wi64 (x9 + 1)) x10 x11 x12 x13 x14 x15 x16 k1 kr
      else none
    else none
noncomputable def binary_Represents.f (N : Nat) (a1 : Int) (a2 : Int) (a3 : Int) (a4 : Int) : Option (Int × Int × Int) :=
  (binary_Reduce.f N a1 a2 a3).bind fun r5 =>
  bif r5.2.2.2.2.2.2.2 != 0 then
    some (0, 0, r5.2.2.2.2.2.2.2)
  else
  bif decide (a4 < 1) then
    some (0, 0, 2)
  else
  bif decide (a4 > 1073741824) then
    some (0, 0, 2)
  else
  (binary_Disc.f N r5.1 r5.2.1 r5.2.2.1).bind fun r6 =>
  binary_Represents.l9 N N a4 r6 0 r5.1 r5.2.1 r5.2.2.1 r5.2.2.2.1 r5.2.2.2.2.1 r5.2.2.2.2.2.1 r5.2.2.2.2.2.2.1
    (fun (_ : Unit) =>
      some (0, 0, 41))
    (fun y21 y22 y23 =>
      some (y21, y22, y23))
noncomputable def binary_Represents.body : Code := (Try.f11.body).getD .skip
noncomputable def binary_Represents.ty : List (Nat × TI) := [(2, ty2), (23, ty23), (33, ty33), (50, ty50)]
noncomputable def binary_Represents.h9 : Hint := ⟨[(1, .any), (7, .box [.any, .any, .any]), (8, .box [.any, .any, .any, .any]), (9, .any), (10, .any)], []⟩
noncomputable def binary_Represents.h14 : Hint := ⟨[(1, .any), (7, .box [.any, .any, .any]), (8, .box [.any, .any, .any, .any]), (9, .any), (10, .any), (71, .recd [.any, .any]), (72, .any)], [(1, .any), (7, .any), (8, .any), (9, .any), (10, .any)]⟩
noncomputable def binary_Represents.c9 (N : Nat) : Cut := ⟨fun vs H k => match vs, H with
  | [.c (.int .i64 x7), .ptr 0 0 3, .ptr 1 0 4, .c (.int .i64 x8), .c (.int .i64 x9)], [.vals [.c (.int .i64 x10), .c (.int .i64 x11), .c (.int .i64 x12)], .vals [.c (.int .i64 x13), .c (.int .i64 x14), .c (.int .i64 x15), .c (.int .i64 x16)]] => binary_Represents.l9 N N x7 x8 x9 x10 x11 x12 x13 x14 x15 x16 (fun (_ : Unit) => k (.exit 1) ⟨mkT binary_Represents.h9.out [], []⟩) (fun x18 x19 x20 => k (.ret (.tup [.c (.int .i64 x18), .c (.int .i64 x19), .c (.int .i64 x20)]) []) .nil)
  | _, _ => none⟩
noncomputable def binary_Represents.E (N : Nat) : Env := { ty := lookN binary_Represents.ty, tab := lookN [(20, binary_Reduce.ent N), (22, binary_Disc.ent N), (29, binary_root.ent N)], hint := lookN [(9, binary_Represents.h9), (14, binary_Represents.h14)], cut := lookN [(9, binary_Represents.c9 N)], N := 40, res := [.tmp 4, .tmp 5, .tmp 6], rsh := [.any, .any, .any], nb := 0, ntmps := 105 }
noncomputable def binary_Represents.b9 : Code := inner ((subLoops binary_Represents.body).getD 1 .skip)
set_option maxRecDepth 100000 in
theorem binary_Represents.l9_eq {R : Type} (N n : Nat) (x7 : Int) (x8 : Int) (x9 : Int) (x10 : Int) (x11 : Int) (x12 : Int) (x13 : Int) (x14 : Int) (x15 : Int) (x16 : Int) (k : Ex → St → Option R) :
    evLoop 0 binary_Represents.h9 (fun s k => evCode (binary_Represents.E N) 390 binary_Represents.b9 s k) n [.c (.int .i64 x7), .ptr 0 0 3, .ptr 1 0 4, .c (.int .i64 x8), .c (.int .i64 x9)] [.vals [.c (.int .i64 x10), .c (.int .i64 x11), .c (.int .i64 x12)], .vals [.c (.int .i64 x13), .c (.int .i64 x14), .c (.int .i64 x15), .c (.int .i64 x16)]] k = binary_Represents.l9 N n x7 x8 x9 x10 x11 x12 x13 x14 x15 x16 (fun (_ : Unit) => k (.exit 1) ⟨mkT binary_Represents.h9.out [], []⟩) (fun x18 x19 x20 => k (.ret (.tup [.c (.int .i64 x18), .c (.int .i64 x19), .c (.int .i64 x20)]) []) .nil) := by
  induction n generalizing x7 x8 x9 x10 x11 x12 x13 x14 x15 x16 with
  | zero => kernel_rfl
  | succ n ih =>
    simp only [binary_Represents.l9, ← ih]
    kernel_rfl
noncomputable def binary_Represents.dec (v : V) (bs : List Blk) : Option (Int × Int × Int) := match v, bs with
  | .tup [.c (.int .i64 z0), .c (.int .i64 z1), .c (.int .i64 z2)], [] => some (z0, z1, z2)
  | _, _ => none
set_option maxRecDepth 100000 in
theorem binary_Represents.f_eq (N : Nat) (a1 : Int) (a2 : Int) (a3 : Int) (a4 : Int) :
    evFun (binary_Represents.E N) binary_Represents.body [.agg [.c (.int .i64 a1), .c (.int .i64 a2), .c (.int .i64 a3)], .c (.int .i64 a4)] [] binary_Represents.dec = binary_Represents.f N a1 a2 a3 a4 := by kernel_rfl
noncomputable def binary_Represents.ent (N : Nat) : Entry := { A := Int × Int × Int, fresh := 0, imm := [true, true], dec := fun args bs => match freezeL 0 (fun _ => .dead) [.recd [.any, .any, .any], .any] args, bs with
  | some [.agg [.c (.int .i64 a1), .c (.int .i64 a2), .c (.int .i64 a3)], .c (.int .i64 a4)], [] => some (binary_Represents.f N a1 a2 a3 a4, fun r => (.tup [.c (.int .i64 r.1), .c (.int .i64 r.2.1), .c (.int .i64 r.2.2)], []))
  | _, _ => none }
theorem binary_Represents.env (N : Nat) : EnvOK Try.prog (binary_Represents.E N) := ⟨(TyOK.cons ty2_ok (TyOK.cons ty23_ok (TyOK.cons ty33_ok (TyOK.cons ty50_ok TyOK.nil)))), (TabOK.cons (binary_Reduce.ent_ok N) (TabOK.cons (binary_Disc.ent_ok N) (TabOK.cons (binary_root.ent_ok N) TabOK.nil)))⟩
theorem binary_Represents.res_eq (N : Nat) : (binary_Represents.E N).res = Try.f11.results.toList := by kernel_rfl
theorem binary_Represents.k9 (N : Nat) : CutOK Try.prog Try.f11 (binary_Represents.E N) (.loop binary_Represents.b9) := by
  intro e hd he hh R vs H k r h
  have e1 : (binary_Represents.E N).cut (loopKey binary_Represents.b9) = some (binary_Represents.c9 N) := by kernel_rfl
  have e2 : (binary_Represents.E N).hint (loopKey binary_Represents.b9) = some binary_Represents.h9 := by kernel_rfl
  rw [e1] at he; rw [e2] at hh; cases he; cases hh
  unfold binary_Represents.c9 at h; dsimp only at h
  split at h
  · rw [← binary_Represents.l9_eq] at h
    exact loop_ok (evCode_ok (binary_Represents.env N) Try_mixed (binary_Represents.res_eq N) 390 binary_Represents.b9 (AllCut.of (l := [(.loop (inner ((subLoops binary_Represents.body).getD 2 .skip)))]) (by kernel_rfl) (AllCut.cons (cut_loop (by kernel_rfl)) AllCut.nil))) h
  · cases h
theorem binary_Represents.spec (N : Nat) (a1 : Int) (a2 : Int) (a3 : Int) (a4 : Int) (r : Int × Int × Int) (h : binary_Represents.f N a1 a2 a3 a4 = some r) : FnSpec Try.prog 11 [.agg [.c (.int .i64 a1), .c (.int .i64 a2), .c (.int .i64 a3)], .c (.int .i64 a4)] [] (.tup [.c (.int .i64 r.1), .c (.int .i64 r.2.1), .c (.int .i64 r.2.2)]) [] := by
  rw [← binary_Represents.f_eq] at h
  obtain ⟨v, bs', h1, h2⟩ := evFun_ok (binary_Represents.env N) Try_mixed Try.func11 (by kernel_rfl : Try.f11.body = some binary_Represents.body) (by kernel_rfl) (binary_Represents.res_eq N) (by kernel_rfl) (by kernel_rfl) (Nat.le_of_ble_eq_true (by kernel_rfl)) (AllCut.of (l := [(.scope (inner ((subLoops binary_Represents.body).getD 0 .skip))), (.loop (inner ((subLoops binary_Represents.body).getD 1 .skip))), (.loop (inner ((subLoops binary_Represents.body).getD 2 .skip)))]) (by kernel_rfl) (AllCut.cons (cut_scope (by kernel_rfl)) (AllCut.cons (binary_Represents.k9 N) (AllCut.cons (cut_loop (by kernel_rfl)) AllCut.nil)))) h
  unfold binary_Represents.dec at h1; split at h1
  · cases h1; exact h2
  · cases h1
theorem binary_Represents.ent_ok (N : Nat) : TabOK1 Try.prog 11 (binary_Represents.ent N) := by
  intro args bs a enc h
  simp only [binary_Represents.ent] at h
  split at h
  · rename_i hz; have h0 := Option.some.inj h; have h1 := congrArg Prod.fst h0; have h2 := congrArg Prod.snd h0; dsimp only at h1 h2; subst h2; exact FnSpec.of_freeze hz (binary_Represents.spec N _ _ _ _ a h1)
  · cases h
/-! parquet/binary.Proper: function 14 -/
noncomputable def binary_Proper.f (N : Nat) (a1 : Int) (a2 : Int) (a3 : Int) (a4 : Int) (a5 : Int) (a6 : Int) : Option (Bool × Int) :=
  (binary_Reduce.f N a1 a2 a3).bind fun r7 =>
  bif r7.2.2.2.2.2.2.2 != 0 then
    some (false, r7.2.2.2.2.2.2.2)
  else
  (binary_Reduce.f N a4 a5 a6).bind fun r8 =>
  bif r8.2.2.2.2.2.2.2 == 0 then
    some ((r7.1 == r8.1) && ((r7.2.1 == r8.2.1) && (r7.2.2.1 == r8.2.2.1)), r8.2.2.2.2.2.2.2)
  else
  some (false, r8.2.2.2.2.2.2.2)
noncomputable def binary_Proper.body : Code := (Try.f14.body).getD .skip
noncomputable def binary_Proper.ty : List (Nat × TI) := [(2, ty2), (23, ty23), (33, ty33)]
noncomputable def binary_Proper.E (N : Nat) : Env := { ty := lookN binary_Proper.ty, tab := lookN [(20, binary_Reduce.ent N)], hint := lookN [], cut := lookN [], N := N, res := [.tmp 4, .tmp 5], rsh := [.any, .any], nb := 0, ntmps := 34 }
noncomputable def binary_Proper.dec (v : V) (bs : List Blk) : Option (Bool × Int) := match v, bs with
  | .tup [.c (.bool z0), .c (.int .i64 z1)], [] => some (z0, z1)
  | _, _ => none
set_option maxRecDepth 100000 in
theorem binary_Proper.f_eq (N : Nat) (a1 : Int) (a2 : Int) (a3 : Int) (a4 : Int) (a5 : Int) (a6 : Int) :
    evFun (binary_Proper.E N) binary_Proper.body [.agg [.c (.int .i64 a1), .c (.int .i64 a2), .c (.int .i64 a3)], .agg [.c (.int .i64 a4), .c (.int .i64 a5), .c (.int .i64 a6)]] [] binary_Proper.dec = binary_Proper.f N a1 a2 a3 a4 a5 a6 := by kernel_rfl
noncomputable def binary_Proper.ent (N : Nat) : Entry := { A := Bool × Int, fresh := 0, imm := [true, true], dec := fun args bs => match freezeL 0 (fun _ => .dead) [.recd [.any, .any, .any], .recd [.any, .any, .any]] args, bs with
  | some [.agg [.c (.int .i64 a1), .c (.int .i64 a2), .c (.int .i64 a3)], .agg [.c (.int .i64 a4), .c (.int .i64 a5), .c (.int .i64 a6)]], [] => some (binary_Proper.f N a1 a2 a3 a4 a5 a6, fun r => (.tup [.c (.bool r.1), .c (.int .i64 r.2)], []))
  | _, _ => none }
theorem binary_Proper.env (N : Nat) : EnvOK Try.prog (binary_Proper.E N) := ⟨(TyOK.cons ty2_ok (TyOK.cons ty23_ok (TyOK.cons ty33_ok TyOK.nil))), (TabOK.cons (binary_Reduce.ent_ok N) TabOK.nil)⟩
theorem binary_Proper.res_eq (N : Nat) : (binary_Proper.E N).res = Try.f14.results.toList := by kernel_rfl
theorem binary_Proper.spec (N : Nat) (a1 : Int) (a2 : Int) (a3 : Int) (a4 : Int) (a5 : Int) (a6 : Int) (r : Bool × Int) (h : binary_Proper.f N a1 a2 a3 a4 a5 a6 = some r) : FnSpec Try.prog 14 [.agg [.c (.int .i64 a1), .c (.int .i64 a2), .c (.int .i64 a3)], .agg [.c (.int .i64 a4), .c (.int .i64 a5), .c (.int .i64 a6)]] [] (.tup [.c (.bool r.1), .c (.int .i64 r.2)]) [] := by
  rw [← binary_Proper.f_eq] at h
  obtain ⟨v, bs', h1, h2⟩ := evFun_ok (binary_Proper.env N) Try_mixed Try.func14 (by kernel_rfl : Try.f14.body = some binary_Proper.body) (by kernel_rfl) (binary_Proper.res_eq N) (by kernel_rfl) (by kernel_rfl) (Nat.le_of_ble_eq_true (by kernel_rfl)) (AllCut.of (l := []) (by kernel_rfl) AllCut.nil) h
  unfold binary_Proper.dec at h1; split at h1
  · cases h1; exact h2
  · cases h1
theorem binary_Proper.ent_ok (N : Nat) : TabOK1 Try.prog 14 (binary_Proper.ent N) := by
  intro args bs a enc h
  simp only [binary_Proper.ent] at h
  split at h
  · rename_i hz; have h0 := Option.some.inj h; have h1 := congrArg Prod.fst h0; have h2 := congrArg Prod.snd h0; dsimp only at h1 h2; subst h2; exact FnSpec.of_freeze hz (binary_Proper.spec N _ _ _ _ _ _ a h1)
  · cases h
/-! parquet/parquetref08.small: function 46 -/
noncomputable def parquetref08_small.f (N : Nat) (a1 : Int) : Option (Bool) :=
  bif decide (a1 ≥ (-1073741824)) then
    some (decide (a1 ≤ 1073741824))
  else
  some false
noncomputable def parquetref08_small.body : Code := (Try.f46.body).getD .skip
noncomputable def parquetref08_small.ty : List (Nat × TI) := []
noncomputable def parquetref08_small.E (N : Nat) : Env := { ty := lookN parquetref08_small.ty, tab := lookN [], hint := lookN [], cut := lookN [], N := N, res := [.tmp 2], rsh := [.any], nb := 0, ntmps := 9 }
noncomputable def parquetref08_small.dec (v : V) (bs : List Blk) : Option (Bool) := match v, bs with
  | .c (.bool z0), [] => some z0
  | _, _ => none
set_option maxRecDepth 100000 in
theorem parquetref08_small.f_eq (N : Nat) (a1 : Int) :
    evFun (parquetref08_small.E N) parquetref08_small.body [.c (.int .i64 a1)] [] parquetref08_small.dec = parquetref08_small.f N a1 := by kernel_rfl
noncomputable def parquetref08_small.ent (N : Nat) : Entry := { A := Bool, fresh := 0, imm := [true], dec := fun args bs => match freezeL 0 (fun _ => .dead) [.any] args, bs with
  | some [.c (.int .i64 a1)], [] => some (parquetref08_small.f N a1, fun r => (.c (.bool r), []))
  | _, _ => none }
theorem parquetref08_small.env (N : Nat) : EnvOK Try.prog (parquetref08_small.E N) := ⟨TyOK.nil, TabOK.nil⟩
theorem parquetref08_small.res_eq (N : Nat) : (parquetref08_small.E N).res = Try.f46.results.toList := by kernel_rfl
theorem parquetref08_small.spec (N : Nat) (a1 : Int) (r : Bool) (h : parquetref08_small.f N a1 = some r) : FnSpec Try.prog 46 [.c (.int .i64 a1)] [] (.c (.bool r)) [] := by
  rw [← parquetref08_small.f_eq] at h
  obtain ⟨v, bs', h1, h2⟩ := evFun_ok (parquetref08_small.env N) Try_mixed Try.func46 (by kernel_rfl : Try.f46.body = some parquetref08_small.body) (by kernel_rfl) (parquetref08_small.res_eq N) (by kernel_rfl) (by kernel_rfl) (Nat.le_of_ble_eq_true (by kernel_rfl)) (AllCut.of (l := []) (by kernel_rfl) AllCut.nil) h
  unfold parquetref08_small.dec at h1; split at h1
  · cases h1; exact h2
  · cases h1
theorem parquetref08_small.ent_ok (N : Nat) : TabOK1 Try.prog 46 (parquetref08_small.ent N) := by
  intro args bs a enc h
  simp only [parquetref08_small.ent] at h
  split at h
  · rename_i hz; have h0 := Option.some.inj h; have h1 := congrArg Prod.fst h0; have h2 := congrArg Prod.snd h0; dsimp only at h1 h2; subst h2; exact FnSpec.of_freeze hz (parquetref08_small.spec N _ a h1)
  · cases h
/-! parquet/parquetref08.In: function 35 -/
noncomputable def parquetref08_In.f (N : Nat) (a1 : Int) (a2 : Int) (a3 : Int) : Option (Bool) :=
  (parquetref08_small.f N a1).bind fun r4 =>
  bif r4 then
    (parquetref08_small.f N a2).bind fun r5 =>
    bif r5 then
      (parquetref08_small.f N a3).bind fun r6 =>
      some r6
    else
    some false
  else
  some false
noncomputable def parquetref08_In.body : Code := (Try.f35.body).getD .skip
noncomputable def parquetref08_In.ty : List (Nat × TI) := [(2, ty2), (23, ty23)]
noncomputable def parquetref08_In.E (N : Nat) : Env := { ty := lookN parquetref08_In.ty, tab := lookN [(46, parquetref08_small.ent N)], hint := lookN [], cut := lookN [], N := N, res := [.tmp 2], rsh := [.any], nb := 0, ntmps := 16 }
noncomputable def parquetref08_In.dec (v : V) (bs : List Blk) : Option (Bool) := match v, bs with
  | .c (.bool z0), [] => some z0
  | _, _ => none
set_option maxRecDepth 100000 in
theorem parquetref08_In.f_eq (N : Nat) (a1 : Int) (a2 : Int) (a3 : Int) :
    evFun (parquetref08_In.E N) parquetref08_In.body [.agg [.c (.int .i64 a1), .c (.int .i64 a2), .c (.int .i64 a3)]] [] parquetref08_In.dec = parquetref08_In.f N a1 a2 a3 := by kernel_rfl
noncomputable def parquetref08_In.ent (N : Nat) : Entry := { A := Bool, fresh := 0, imm := [true], dec := fun args bs => match freezeL 0 (fun _ => .dead) [.recd [.any, .any, .any]] args, bs with
  | some [.agg [.c (.int .i64 a1), .c (.int .i64 a2), .c (.int .i64 a3)]], [] => some (parquetref08_In.f N a1 a2 a3, fun r => (.c (.bool r), []))
  | _, _ => none }
theorem parquetref08_In.env (N : Nat) : EnvOK Try.prog (parquetref08_In.E N) := ⟨(TyOK.cons ty2_ok (TyOK.cons ty23_ok TyOK.nil)), (TabOK.cons (parquetref08_small.ent_ok N) TabOK.nil)⟩
theorem parquetref08_In.res_eq (N : Nat) : (parquetref08_In.E N).res = Try.f35.results.toList := by kernel_rfl
theorem parquetref08_In.spec (N : Nat) (a1 : Int) (a2 : Int) (a3 : Int) (r : Bool) (h : parquetref08_In.f N a1 a2 a3 = some r) : FnSpec Try.prog 35 [.agg [.c (.int .i64 a1), .c (.int .i64 a2), .c (.int .i64 a3)]] [] (.c (.bool r)) [] := by
  rw [← parquetref08_In.f_eq] at h
  obtain ⟨v, bs', h1, h2⟩ := evFun_ok (parquetref08_In.env N) Try_mixed Try.func35 (by kernel_rfl : Try.f35.body = some parquetref08_In.body) (by kernel_rfl) (parquetref08_In.res_eq N) (by kernel_rfl) (by kernel_rfl) (Nat.le_of_ble_eq_true (by kernel_rfl)) (AllCut.of (l := []) (by kernel_rfl) AllCut.nil) h
  unfold parquetref08_In.dec at h1; split at h1
  · cases h1; exact h2
  · cases h1
theorem parquetref08_In.ent_ok (N : Nat) : TabOK1 Try.prog 35 (parquetref08_In.ent N) := by
  intro args bs a enc h
  simp only [parquetref08_In.ent] at h
  split at h
  · rename_i hz; have h0 := Option.some.inj h; have h1 := congrArg Prod.fst h0; have h2 := congrArg Prod.snd h0; dsimp only at h1 h2; subst h2; exact FnSpec.of_freeze hz (parquetref08_In.spec N _ _ _ a h1)
  · cases h
/-! parquet/parquetref08.Disc: function 23 -/
noncomputable def parquetref08_Disc.f (N : Nat) (a1 : Int) (a2 : Int) (a3 : Int) : Option (Int) :=
  (parquetref08_In.f N a1 a2 a3).bind fun r4 =>
  bif !r4 then
    some 0
  else
  some (wi64 ((wi64 (a2 * a2)) - (wi64 ((wi64 (4 * a1)) * a3))))
noncomputable def parquetref08_Disc.body : Code := (Try.f23.body).getD .skip
noncomputable def parquetref08_Disc.ty : List (Nat × TI) := [(2, ty2), (23, ty23)]
noncomputable def parquetref08_Disc.E (N : Nat) : Env := { ty := lookN parquetref08_Disc.ty, tab := lookN [(35, parquetref08_In.ent N)], hint := lookN [], cut := lookN [], N := N, res := [.tmp 2], rsh := [.any], nb := 0, ntmps := 18 }
noncomputable def parquetref08_Disc.dec (v : V) (bs : List Blk) : Option (Int) := match v, bs with
  | .c (.int .i64 z0), [] => some z0
  | _, _ => none
set_option maxRecDepth 100000 in
theorem parquetref08_Disc.f_eq (N : Nat) (a1 : Int) (a2 : Int) (a3 : Int) :
    evFun (parquetref08_Disc.E N) parquetref08_Disc.body [.agg [.c (.int .i64 a1), .c (.int .i64 a2), .c (.int .i64 a3)]] [] parquetref08_Disc.dec = parquetref08_Disc.f N a1 a2 a3 := by kernel_rfl
noncomputable def parquetref08_Disc.ent (N : Nat) : Entry := { A := Int, fresh := 0, imm := [true], dec := fun args bs => match freezeL 0 (fun _ => .dead) [.recd [.any, .any, .any]] args, bs with
  | some [.agg [.c (.int .i64 a1), .c (.int .i64 a2), .c (.int .i64 a3)]], [] => some (parquetref08_Disc.f N a1 a2 a3, fun r => (.c (.int .i64 r), []))
  | _, _ => none }
theorem parquetref08_Disc.env (N : Nat) : EnvOK Try.prog (parquetref08_Disc.E N) := ⟨(TyOK.cons ty2_ok (TyOK.cons ty23_ok TyOK.nil)), (TabOK.cons (parquetref08_In.ent_ok N) TabOK.nil)⟩
theorem parquetref08_Disc.res_eq (N : Nat) : (parquetref08_Disc.E N).res = Try.f23.results.toList := by kernel_rfl
theorem parquetref08_Disc.spec (N : Nat) (a1 : Int) (a2 : Int) (a3 : Int) (r : Int) (h : parquetref08_Disc.f N a1 a2 a3 = some r) : FnSpec Try.prog 23 [.agg [.c (.int .i64 a1), .c (.int .i64 a2), .c (.int .i64 a3)]] [] (.c (.int .i64 r)) [] := by
  rw [← parquetref08_Disc.f_eq] at h
  obtain ⟨v, bs', h1, h2⟩ := evFun_ok (parquetref08_Disc.env N) Try_mixed Try.func23 (by kernel_rfl : Try.f23.body = some parquetref08_Disc.body) (by kernel_rfl) (parquetref08_Disc.res_eq N) (by kernel_rfl) (by kernel_rfl) (Nat.le_of_ble_eq_true (by kernel_rfl)) (AllCut.of (l := []) (by kernel_rfl) AllCut.nil) h
  unfold parquetref08_Disc.dec at h1; split at h1
  · cases h1; exact h2
  · cases h1
theorem parquetref08_Disc.ent_ok (N : Nat) : TabOK1 Try.prog 23 (parquetref08_Disc.ent N) := by
  intro args bs a enc h
  simp only [parquetref08_Disc.ent] at h
  split at h
  · rename_i hz; have h0 := Option.some.inj h; have h1 := congrArg Prod.fst h0; have h2 := congrArg Prod.snd h0; dsimp only at h1 h2; subst h2; exact FnSpec.of_freeze hz (parquetref08_Disc.spec N _ _ _ a h1)
  · cases h
/-! parquet/parquetref08.Check: function 24 -/
noncomputable def parquetref08_Check.f (N : Nat) (a1 : Int) (a2 : Int) (a3 : Int) : Option (Int) :=
  (parquetref08_In.f N a1 a2 a3).bind fun r4 =>
  bif !r4 then
    some 3
  else
  bif decide (a1 ≤ 0) then
    some 81
  else
  (parquetref08_Disc.f N a1 a2 a3).bind fun r5 =>
  bif decide (r5 ≥ 0) then
    some 81
  else
  (parquetref08_Disc.f N a1 a2 a3).bind fun r6 =>
  bif decide (r6 < (-4294967296)) then
    some 80
  else
  some 0
noncomputable def parquetref08_Check.body : Code := (Try.f24.body).getD .skip
noncomputable def parquetref08_Check.ty : List (Nat × TI) := [(2, ty2), (23, ty23)]
noncomputable def parquetref08_Check.E (N : Nat) : Env := { ty := lookN parquetref08_Check.ty, tab := lookN [(35, parquetref08_In.ent N), (23, parquetref08_Disc.ent N)], hint := lookN [], cut := lookN [], N := N, res := [.tmp 2], rsh := [.any], nb := 0, ntmps := 17 }
noncomputable def parquetref08_Check.dec (v : V) (bs : List Blk) : Option (Int) := match v, bs with
  | .c (.int .i64 z0), [] => some z0
  | _, _ => none
set_option maxRecDepth 100000 in
theorem parquetref08_Check.f_eq (N : Nat) (a1 : Int) (a2 : Int) (a3 : Int) :
    evFun (parquetref08_Check.E N) parquetref08_Check.body [.agg [.c (.int .i64 a1), .c (.int .i64 a2), .c (.int .i64 a3)]] [] parquetref08_Check.dec = parquetref08_Check.f N a1 a2 a3 := by kernel_rfl
noncomputable def parquetref08_Check.ent (N : Nat) : Entry := { A := Int, fresh := 0, imm := [true], dec := fun args bs => match freezeL 0 (fun _ => .dead) [.recd [.any, .any, .any]] args, bs with
  | some [.agg [.c (.int .i64 a1), .c (.int .i64 a2), .c (.int .i64 a3)]], [] => some (parquetref08_Check.f N a1 a2 a3, fun r => (.c (.int .i64 r), []))
  | _, _ => none }
theorem parquetref08_Check.env (N : Nat) : EnvOK Try.prog (parquetref08_Check.E N) := ⟨(TyOK.cons ty2_ok (TyOK.cons ty23_ok TyOK.nil)), (TabOK.cons (parquetref08_In.ent_ok N) (TabOK.cons (parquetref08_Disc.ent_ok N) TabOK.nil))⟩
theorem parquetref08_Check.res_eq (N : Nat) : (parquetref08_Check.E N).res = Try.f24.results.toList := by kernel_rfl
theorem parquetref08_Check.spec (N : Nat) (a1 : Int) (a2 : Int) (a3 : Int) (r : Int) (h : parquetref08_Check.f N a1 a2 a3 = some r) : FnSpec Try.prog 24 [.agg [.c (.int .i64 a1), .c (.int .i64 a2), .c (.int .i64 a3)]] [] (.c (.int .i64 r)) [] := by
  rw [← parquetref08_Check.f_eq] at h
  obtain ⟨v, bs', h1, h2⟩ := evFun_ok (parquetref08_Check.env N) Try_mixed Try.func24 (by kernel_rfl : Try.f24.body = some parquetref08_Check.body) (by kernel_rfl) (parquetref08_Check.res_eq N) (by kernel_rfl) (by kernel_rfl) (Nat.le_of_ble_eq_true (by kernel_rfl)) (AllCut.of (l := []) (by kernel_rfl) AllCut.nil) h
  unfold parquetref08_Check.dec at h1; split at h1
  · cases h1; exact h2
  · cases h1
theorem parquetref08_Check.ent_ok (N : Nat) : TabOK1 Try.prog 24 (parquetref08_Check.ent N) := by
  intro args bs a enc h
  simp only [parquetref08_Check.ent] at h
  split at h
  · rename_i hz; have h0 := Option.some.inj h; have h1 := congrArg Prod.fst h0; have h2 := congrArg Prod.snd h0; dsimp only at h1 h2; subst h2; exact FnSpec.of_freeze hz (parquetref08_Check.spec N _ _ _ a h1)
  · cases h
/-! parquet/parquetref08.Is: function 40 -/
noncomputable def parquetref08_Is.f (N : Nat) (a1 : Int) (a2 : Int) (a3 : Int) : Option (Bool) :=
  bif decide ((wi64 (0 - a1)) < a2) then
    bif decide (a2 ≤ a1) then
      bif decide (a1 ≤ a3) then
        bif decide (a2 ≥ 0) then
          some true
        else
        some (a1 != a3)
      else
      some false
    else
    some false
  else
  some false
noncomputable def parquetref08_Is.body : Code := (Try.f40.body).getD .skip
noncomputable def parquetref08_Is.ty : List (Nat × TI) := [(2, ty2), (23, ty23)]
noncomputable def parquetref08_Is.E (N : Nat) : Env := { ty := lookN parquetref08_Is.ty, tab := lookN [], hint := lookN [], cut := lookN [], N := N, res := [.tmp 2], rsh := [.any], nb := 0, ntmps := 35 }
noncomputable def parquetref08_Is.dec (v : V) (bs : List Blk) : Option (Bool) := match v, bs with
  | .c (.bool z0), [] => some z0
  | _, _ => none
set_option maxRecDepth 100000 in
theorem parquetref08_Is.f_eq (N : Nat) (a1 : Int) (a2 : Int) (a3 : Int) :
    evFun (parquetref08_Is.E N) parquetref08_Is.body [.agg [.c (.int .i64 a1), .c (.int .i64 a2), .c (.int .i64 a3)]] [] parquetref08_Is.dec = parquetref08_Is.f N a1 a2 a3 := by kernel_rfl
noncomputable def parquetref08_Is.ent (N : Nat) : Entry := { A := Bool, fresh := 0, imm := [true], dec := fun args bs => match freezeL 0 (fun _ => .dead) [.recd [.any, .any, .any]] args, bs with
  | some [.agg [.c (.int .i64 a1), .c (.int .i64 a2), .c (.int .i64 a3)]], [] => some (parquetref08_Is.f N a1 a2 a3, fun r => (.c (.bool r), []))
  | _, _ => none }
theorem parquetref08_Is.env (N : Nat) : EnvOK Try.prog (parquetref08_Is.E N) := ⟨(TyOK.cons ty2_ok (TyOK.cons ty23_ok TyOK.nil)), TabOK.nil⟩
theorem parquetref08_Is.res_eq (N : Nat) : (parquetref08_Is.E N).res = Try.f40.results.toList := by kernel_rfl
theorem parquetref08_Is.spec (N : Nat) (a1 : Int) (a2 : Int) (a3 : Int) (r : Bool) (h : parquetref08_Is.f N a1 a2 a3 = some r) : FnSpec Try.prog 40 [.agg [.c (.int .i64 a1), .c (.int .i64 a2), .c (.int .i64 a3)]] [] (.c (.bool r)) [] := by
  rw [← parquetref08_Is.f_eq] at h
  obtain ⟨v, bs', h1, h2⟩ := evFun_ok (parquetref08_Is.env N) Try_mixed Try.func40 (by kernel_rfl : Try.f40.body = some parquetref08_Is.body) (by kernel_rfl) (parquetref08_Is.res_eq N) (by kernel_rfl) (by kernel_rfl) (Nat.le_of_ble_eq_true (by kernel_rfl)) (AllCut.of (l := []) (by kernel_rfl) AllCut.nil) h
  unfold parquetref08_Is.dec at h1; split at h1
  · cases h1; exact h2
  · cases h1
theorem parquetref08_Is.ent_ok (N : Nat) : TabOK1 Try.prog 40 (parquetref08_Is.ent N) := by
  intro args bs a enc h
  simp only [parquetref08_Is.ent] at h
  split at h
  · rename_i hz; have h0 := Option.some.inj h; have h1 := congrArg Prod.fst h0; have h2 := congrArg Prod.snd h0; dsimp only at h1 h2; subst h2; exact FnSpec.of_freeze hz (parquetref08_Is.spec N _ _ _ a h1)
  · cases h
/-! parquet/parquetref04.Mod: function 53 -/
noncomputable def parquetref04_Mod.f (N : Nat) (a1 : Int) (a2 : Int) : Option (Int) :=
  bif !(a2 == 0) then
    bif decide ((Int.tmod a1 a2) < 0) then
      some (wi64 ((Int.tmod a1 a2) + a2))
    else
    some (Int.tmod a1 a2)
  else none
noncomputable def parquetref04_Mod.body : Code := (Try.f53.body).getD .skip
noncomputable def parquetref04_Mod.ty : List (Nat × TI) := []
noncomputable def parquetref04_Mod.E (N : Nat) : Env := { ty := lookN parquetref04_Mod.ty, tab := lookN [], hint := lookN [], cut := lookN [], N := N, res := [.tmp 4], rsh := [.any], nb := 0, ntmps := 14 }
noncomputable def parquetref04_Mod.dec (v : V) (bs : List Blk) : Option (Int) := match v, bs with
  | .c (.int .i64 z0), [] => some z0
  | _, _ => none
set_option maxRecDepth 100000 in
theorem parquetref04_Mod.f_eq (N : Nat) (a1 : Int) (a2 : Int) :
    evFun (parquetref04_Mod.E N) parquetref04_Mod.body [.c (.int .i64 a1), .c (.int .i64 a2)] [] parquetref04_Mod.dec = parquetref04_Mod.f N a1 a2 := by kernel_rfl
noncomputable def parquetref04_Mod.ent (N : Nat) : Entry := { A := Int, fresh := 0, imm := [true, true], dec := fun args bs => match freezeL 0 (fun _ => .dead) [.any, .any] args, bs with
  | some [.c (.int .i64 a1), .c (.int .i64 a2)], [] => some (parquetref04_Mod.f N a1 a2, fun r => (.c (.int .i64 r), []))
  | _, _ => none }
theorem parquetref04_Mod.env (N : Nat) : EnvOK Try.prog (parquetref04_Mod.E N) := ⟨TyOK.nil, TabOK.nil⟩
theorem parquetref04_Mod.res_eq (N : Nat) : (parquetref04_Mod.E N).res = Try.f53.results.toList := by kernel_rfl
theorem parquetref04_Mod.spec (N : Nat) (a1 : Int) (a2 : Int) (r : Int) (h : parquetref04_Mod.f N a1 a2 = some r) : FnSpec Try.prog 53 [.c (.int .i64 a1), .c (.int .i64 a2)] [] (.c (.int .i64 r)) [] := by
  rw [← parquetref04_Mod.f_eq] at h
  obtain ⟨v, bs', h1, h2⟩ := evFun_ok (parquetref04_Mod.env N) Try_mixed Try.func53 (by kernel_rfl : Try.f53.body = some parquetref04_Mod.body) (by kernel_rfl) (parquetref04_Mod.res_eq N) (by kernel_rfl) (by kernel_rfl) (Nat.le_of_ble_eq_true (by kernel_rfl)) (AllCut.of (l := []) (by kernel_rfl) AllCut.nil) h
  unfold parquetref04_Mod.dec at h1; split at h1
  · cases h1; exact h2
  · cases h1
theorem parquetref04_Mod.ent_ok (N : Nat) : TabOK1 Try.prog 53 (parquetref04_Mod.ent N) := by
  intro args bs a enc h
  simp only [parquetref04_Mod.ent] at h
  split at h
  · rename_i hz; have h0 := Option.some.inj h; have h1 := congrArg Prod.fst h0; have h2 := congrArg Prod.snd h0; dsimp only at h1 h2; subst h2; exact FnSpec.of_freeze hz (parquetref04_Mod.spec N _ _ a h1)
  · cases h
/-! parquet/parquetref08.Floor: function 41 -/
noncomputable def parquetref08_Floor.f (N : Nat) (a1 : Int) (a2 : Int) : Option (Int) :=
  (parquetref04_Mod.f N a1 a2).bind fun r3 =>
  bif !(a2 == 0) then
    some (wi64 (Int.tdiv (wi64 (a1 - r3)) a2))
  else none
noncomputable def parquetref08_Floor.body : Code := (Try.f41.body).getD .skip
noncomputable def parquetref08_Floor.ty : List (Nat × TI) := []
noncomputable def parquetref08_Floor.E (N : Nat) : Env := { ty := lookN parquetref08_Floor.ty, tab := lookN [(53, parquetref04_Mod.ent N)], hint := lookN [], cut := lookN [], N := N, res := [.tmp 4], rsh := [.any], nb := 0, ntmps := 12 }
noncomputable def parquetref08_Floor.dec (v : V) (bs : List Blk) : Option (Int) := match v, bs with
  | .c (.int .i64 z0), [] => some z0
  | _, _ => none
set_option maxRecDepth 100000 in
theorem parquetref08_Floor.f_eq (N : Nat) (a1 : Int) (a2 : Int) :
    evFun (parquetref08_Floor.E N) parquetref08_Floor.body [.c (.int .i64 a1), .c (.int .i64 a2)] [] parquetref08_Floor.dec = parquetref08_Floor.f N a1 a2 := by kernel_rfl
noncomputable def parquetref08_Floor.ent (N : Nat) : Entry := { A := Int, fresh := 0, imm := [true, true], dec := fun args bs => match freezeL 0 (fun _ => .dead) [.any, .any] args, bs with
  | some [.c (.int .i64 a1), .c (.int .i64 a2)], [] => some (parquetref08_Floor.f N a1 a2, fun r => (.c (.int .i64 r), []))
  | _, _ => none }
theorem parquetref08_Floor.env (N : Nat) : EnvOK Try.prog (parquetref08_Floor.E N) := ⟨TyOK.nil, (TabOK.cons (parquetref04_Mod.ent_ok N) TabOK.nil)⟩
theorem parquetref08_Floor.res_eq (N : Nat) : (parquetref08_Floor.E N).res = Try.f41.results.toList := by kernel_rfl
theorem parquetref08_Floor.spec (N : Nat) (a1 : Int) (a2 : Int) (r : Int) (h : parquetref08_Floor.f N a1 a2 = some r) : FnSpec Try.prog 41 [.c (.int .i64 a1), .c (.int .i64 a2)] [] (.c (.int .i64 r)) [] := by
  rw [← parquetref08_Floor.f_eq] at h
  obtain ⟨v, bs', h1, h2⟩ := evFun_ok (parquetref08_Floor.env N) Try_mixed Try.func41 (by kernel_rfl : Try.f41.body = some parquetref08_Floor.body) (by kernel_rfl) (parquetref08_Floor.res_eq N) (by kernel_rfl) (by kernel_rfl) (Nat.le_of_ble_eq_true (by kernel_rfl)) (AllCut.of (l := []) (by kernel_rfl) AllCut.nil) h
  unfold parquetref08_Floor.dec at h1; split at h1
  · cases h1; exact h2
  · cases h1
theorem parquetref08_Floor.ent_ok (N : Nat) : TabOK1 Try.prog 41 (parquetref08_Floor.ent N) := by
  intro args bs a enc h
  simp only [parquetref08_Floor.ent] at h
  split at h
  · rename_i hz; have h0 := Option.some.inj h; have h1 := congrArg Prod.fst h0; have h2 := congrArg Prod.snd h0; dsimp only at h1 h2; subst h2; exact FnSpec.of_freeze hz (parquetref08_Floor.spec N _ _ a h1)
  · cases h
/-! parquet/parquetref08.Reduce: function 28 -/
noncomputable def parquetref08_Reduce.l5 {R : Type} (N : Nat) : Nat → Int → Int → Int → Int → Int → Int → Int → Int → Int → Int → Int → Int → Int → Int → (Int → Int → Int → Int → Int → Int → Int → Int → Int → Int → Int → Int → Int → Int → Option R) → Option R
  | 0, _, _, _, _, _, _, _, _, _, _, _, _, _, _, _ => none
  | n + 1, x5, x6, x7, x8, x9, x10, x11, x12, x13, x14, x15, x16, x17, x18, k0 =>
    (parquetref08_Is.f N x5 x6 x7).bind fun r19 =>
    bif !r19 then
      bif decide ((wi64 (0 - x5)) ≥ x6) then
        (parquetref08_Floor.f N (wi64 (x5 - x6)) (wi64 (2 * x5))).bind fun r20 =>
        parquetref08_Reduce.l5 N n x5 (wi64 (x6 + (wi64 ((wi64 (2 * r20)) * x5)))) (wi64 ((wi64 ((wi64 ((wi64 (x5 * r20)) + x6)) * r20)) + x7)) x8 x9 x10 x11 x12 x13 x14 x15 (wi64 ((wi64 (r20 * x15)) + x16)) x17 (wi64 ((wi64 (r20 * x17)) + x18)) k0
      else
      bif decide (x6 > x5) then
        (parquetref08_Floor.f N (wi64 (x5 - x6)) (wi64 (2 * x5))).bind fun r21 =>
        parquetref08_Reduce.l5 N n x5 (wi64 (x6 + (wi64 ((wi64 (2 * r21)) * x5)))) (wi64 ((wi64 ((wi64 ((wi64 (x5 * r21)) + x6)) * r21)) + x7)) x8 x9 x10 x11 x12 x13 x14 x15 (wi64 ((wi64 (r21 * x15)) + x16)) x17 (wi64 ((wi64 (r21 * x17)) + x18)) k0
      else
      parquetref08_Reduce.l5 N n x7 (wi64 (0 - x6)) x5 x8 x9 x10 x11 x12 x13 x14 x16 (wi64 (0 - x15)) x18 (wi64 (0 - x17)) k0
    else
    k0 x5 x6 x7 x8 x9 x10 x11 x12 x13 x14 x15 x16 x17 x18
noncomputable def parquetref08_Reduce.f (N : Nat) (a1 : Int) (a2 : Int) (a3 : Int) : Option (Int × Int × Int × Int × Int × Int × Int × Int) :=
  (parquetref08_Check.f N a1 a2 a3).bind fun r4 =>
  bif r4 != 0 then
    some (0, 0, 0, 0, 0, 0, 0, r4)
  else
  parquetref08_Reduce.l5 N N a1 a2 a3 0 0 0 0 0 0 0 1 0 0 1
    (fun y36 y37 y38 y39 y40 y41 y42 y43 y44 y45 y46 y47 y48 y49 =>
      some (y36, y37, y38, y46, y47, y48, y49, 0))
noncomputable def parquetref08_Reduce.body : Code := (Try.f28.body).getD .skip
noncomputable def parquetref08_Reduce.ty : List (Nat × TI) := [(2, ty2), (23, ty23), (33, ty33)]
noncomputable def parquetref08_Reduce.h5 : Hint := ⟨[(1, .box [.any, .any, .any]), (2, .box [.any, .any, .any]), (3, .box [.any, .any, .any, .any]), (6, .box [.any, .any, .any, .any])], [(1, .box [.any, .any, .any]), (2, .box [.any, .any, .any]), (3, .box [.any, .any, .any, .any]), (6, .box [.any, .any, .any, .any])]⟩
noncomputable def parquetref08_Reduce.c5 (N : Nat) : Cut := ⟨fun vs H k => match vs, H with
  | [.ptr 0 0 3, .ptr 1 0 3, .ptr 2 0 4, .ptr 3 0 4], [.vals [.c (.int .i64 x5), .c (.int .i64 x6), .c (.int .i64 x7)], .vals [.c (.int .i64 x8), .c (.int .i64 x9), .c (.int .i64 x10)], .vals [.c (.int .i64 x11), .c (.int .i64 x12), .c (.int .i64 x13), .c (.int .i64 x14)], .vals [.c (.int .i64 x15), .c (.int .i64 x16), .c (.int .i64 x17), .c (.int .i64 x18)]] => parquetref08_Reduce.l5 N N x5 x6 x7 x8 x9 x10 x11 x12 x13 x14 x15 x16 x17 x18 (fun x22 x23 x24 x25 x26 x27 x28 x29 x30 x31 x32 x33 x34 x35 => k (.exit 0) ⟨mkT parquetref08_Reduce.h5.out [.ptr 0 0 3, .ptr 1 0 3, .ptr 2 0 4, .ptr 3 0 4], [.vals [.c (.int .i64 x22), .c (.int .i64 x23), .c (.int .i64 x24)], .vals [.c (.int .i64 x25), .c (.int .i64 x26), .c (.int .i64 x27)], .vals [.c (.int .i64 x28), .c (.int .i64 x29), .c (.int .i64 x30), .c (.int .i64 x31)], .vals [.c (.int .i64 x32), .c (.int .i64 x33), .c (.int .i64 x34), .c (.int .i64 x35)]]⟩)
  | _, _ => none⟩
noncomputable def parquetref08_Reduce.E (N : Nat) : Env := { ty := lookN parquetref08_Reduce.ty, tab := lookN [(24, parquetref08_Check.ent N), (40, parquetref08_Is.ent N), (41, parquetref08_Floor.ent N)], hint := lookN [(5, parquetref08_Reduce.h5)], cut := lookN [(5, parquetref08_Reduce.c5 N)], N := N, res := [.cell 2 23, .cell 3 33, .tmp 4], rsh := [.recd [.any, .any, .any], .recd [.any, .any, .any, .any], .any], nb := 0, ntmps := 104 }
noncomputable def parquetref08_Reduce.b5 : Code := inner ((subLoops parquetref08_Reduce.body).getD 0 .skip)
set_option maxRecDepth 100000 in
theorem parquetref08_Reduce.l5_eq {R : Type} (N n : Nat) (x5 : Int) (x6 : Int) (x7 : Int) (x8 : Int) (x9 : Int) (x10 : Int) (x11 : Int) (x12 : Int) (x13 : Int) (x14 : Int) (x15 : Int) (x16 : Int) (x17 : Int) (x18 : Int) (k : Ex → St → Option R) :
    evLoop 0 parquetref08_Reduce.h5 (fun s k => evCode (parquetref08_Reduce.E N) 393 parquetref08_Reduce.b5 s k) n [.ptr 0 0 3, .ptr 1 0 3, .ptr 2 0 4, .ptr 3 0 4] [.vals [.c (.int .i64 x5), .c (.int .i64 x6), .c (.int .i64 x7)], .vals [.c (.int .i64 x8), .c (.int .i64 x9), .c (.int .i64 x10)], .vals [.c (.int .i64 x11), .c (.int .i64 x12), .c (.int .i64 x13), .c (.int .i64 x14)], .vals [.c (.int .i64 x15), .c (.int .i64 x16), .c (.int .i64 x17), .c (.int .i64 x18)]] k = parquetref08_Reduce.l5 N n x5 x6 x7 x8 x9 x10 x11 x12 x13 x14 x15 x16 x17 x18 (fun x22 x23 x24 x25 x26 x27 x28 x29 x30 x31 x32 x33 x34 x35 => k (.exit 0) ⟨mkT parquetref08_Reduce.h5.out [.ptr 0 0 3, .ptr 1 0 3, .ptr 2 0 4, .ptr 3 0 4], [.vals [.c (.int .i64 x22), .c (.int .i64 x23), .c (.int .i64 x24)], .vals [.c (.int .i64 x25), .c (.int .i64 x26), .c (.int .i64 x27)], .vals [.c (.int .i64 x28), .c (.int .i64 x29), .c (.int .i64 x30), .c (.int .i64 x31)], .vals [.c (.int .i64 x32), .c (.int .i64 x33), .c (.int .i64 x34), .c (.int .i64 x35)]]⟩) := by
  induction n generalizing x5 x6 x7 x8 x9 x10 x11 x12 x13 x14 x15 x16 x17 x18 with
  | zero => kernel_rfl
  | succ n ih =>
    simp only [parquetref08_Reduce.l5, ← ih]
    kernel_rfl
noncomputable def parquetref08_Reduce.dec (v : V) (bs : List Blk) : Option (Int × Int × Int × Int × Int × Int × Int × Int) := match v, bs with
  | .tup [.agg [.c (.int .i64 z0), .c (.int .i64 z1), .c (.int .i64 z2)], .agg [.c (.int .i64 z3), .c (.int .i64 z4), .c (.int .i64 z5), .c (.int .i64 z6)], .c (.int .i64 z7)], [] => some (z0, z1, z2, z3, z4, z5, z6, z7)
  | _, _ => none
set_option maxRecDepth 100000 in
theorem parquetref08_Reduce.f_eq (N : Nat) (a1 : Int) (a2 : Int) (a3 : Int) :
    evFun (parquetref08_Reduce.E N) parquetref08_Reduce.body [.agg [.c (.int .i64 a1), .c (.int .i64 a2), .c (.int .i64 a3)]] [] parquetref08_Reduce.dec = parquetref08_Reduce.f N a1 a2 a3 := by kernel_rfl
noncomputable def parquetref08_Reduce.ent (N : Nat) : Entry := { A := Int × Int × Int × Int × Int × Int × Int × Int, fresh := 0, imm := [true], dec := fun args bs => match freezeL 0 (fun _ => .dead) [.recd [.any, .any, .any]] args, bs with
  | some [.agg [.c (.int .i64 a1), .c (.int .i64 a2), .c (.int .i64 a3)]], [] => some (parquetref08_Reduce.f N a1 a2 a3, fun r => (.tup [.agg [.c (.int .i64 r.1), .c (.int .i64 r.2.1), .c (.int .i64 r.2.2.1)], .agg [.c (.int .i64 r.2.2.2.1), .c (.int .i64 r.2.2.2.2.1), .c (.int .i64 r.2.2.2.2.2.1), .c (.int .i64 r.2.2.2.2.2.2.1)], .c (.int .i64 r.2.2.2.2.2.2.2)], []))
  | _, _ => none }
theorem parquetref08_Reduce.env (N : Nat) : EnvOK Try.prog (parquetref08_Reduce.E N) := ⟨(TyOK.cons ty2_ok (TyOK.cons ty23_ok (TyOK.cons ty33_ok TyOK.nil))), (TabOK.cons (parquetref08_Check.ent_ok N) (TabOK.cons (parquetref08_Is.ent_ok N) (TabOK.cons (parquetref08_Floor.ent_ok N) TabOK.nil)))⟩
theorem parquetref08_Reduce.res_eq (N : Nat) : (parquetref08_Reduce.E N).res = Try.f28.results.toList := by kernel_rfl
theorem parquetref08_Reduce.k5 (N : Nat) : CutOK Try.prog Try.f28 (parquetref08_Reduce.E N) (.loop parquetref08_Reduce.b5) := by
  intro e hd he hh R vs H k r h
  have e1 : (parquetref08_Reduce.E N).cut (loopKey parquetref08_Reduce.b5) = some (parquetref08_Reduce.c5 N) := by kernel_rfl
  have e2 : (parquetref08_Reduce.E N).hint (loopKey parquetref08_Reduce.b5) = some parquetref08_Reduce.h5 := by kernel_rfl
  rw [e1] at he; rw [e2] at hh; cases he; cases hh
  unfold parquetref08_Reduce.c5 at h; dsimp only at h
  split at h
  · rw [← parquetref08_Reduce.l5_eq] at h
    exact loop_ok (evCode_ok (parquetref08_Reduce.env N) Try_mixed (parquetref08_Reduce.res_eq N) 393 parquetref08_Reduce.b5 (AllCut.of (l := []) (by kernel_rfl) AllCut.nil)) h
  · cases h
theorem parquetref08_Reduce.spec (N : Nat) (a1 : Int) (a2 : Int) (a3 : Int) (r : Int × Int × Int × Int × Int × Int × Int × Int) (h : parquetref08_Reduce.f N a1 a2 a3 = some r) : FnSpec Try.prog 28 [.agg [.c (.int .i64 a1), .c (.int .i64 a2), .c (.int .i64 a3)]] [] (.tup [.agg [.c (.int .i64 r.1), .c (.int .i64 r.2.1), .c (.int .i64 r.2.2.1)], .agg [.c (.int .i64 r.2.2.2.1), .c (.int .i64 r.2.2.2.2.1), .c (.int .i64 r.2.2.2.2.2.1), .c (.int .i64 r.2.2.2.2.2.2.1)], .c (.int .i64 r.2.2.2.2.2.2.2)]) [] := by
  rw [← parquetref08_Reduce.f_eq] at h
  obtain ⟨v, bs', h1, h2⟩ := evFun_ok (parquetref08_Reduce.env N) Try_mixed Try.func28 (by kernel_rfl : Try.f28.body = some parquetref08_Reduce.body) (by kernel_rfl) (parquetref08_Reduce.res_eq N) (by kernel_rfl) (by kernel_rfl) (Nat.le_of_ble_eq_true (by kernel_rfl)) (AllCut.of (l := [(.loop (inner ((subLoops parquetref08_Reduce.body).getD 0 .skip)))]) (by kernel_rfl) (AllCut.cons (parquetref08_Reduce.k5 N) AllCut.nil)) h
  unfold parquetref08_Reduce.dec at h1; split at h1
  · cases h1; exact h2
  · cases h1
theorem parquetref08_Reduce.ent_ok (N : Nat) : TabOK1 Try.prog 28 (parquetref08_Reduce.ent N) := by
  intro args bs a enc h
  simp only [parquetref08_Reduce.ent] at h
  split at h
  · rename_i hz; have h0 := Option.some.inj h; have h1 := congrArg Prod.fst h0; have h2 := congrArg Prod.snd h0; dsimp only at h1 h2; subst h2; exact FnSpec.of_freeze hz (parquetref08_Reduce.spec N _ _ _ a h1)
  · cases h
/-! parquet/parquetref08.Root: function 30 -/
noncomputable def parquetref08_Root.l3 {R : Type} (N : Nat) : Nat → Int → Int → Int → (Int → Option R) → Option R
  | 0, _, _, _, _ => none
  | n + 1, x2, x3, x4, k0 =>
    bif decide (x4 ≥ 0) then
      bif decide (0 ≤ x4) then
        bif decide ((wi64 ((wi64 (x3 + (wi64 (1 * 2 ^ (min x4.toNat 64))))) * (wi64 (x3 + (wi64 (1 * 2 ^ (min x4.toNat 64))))))) ≤ x2) then
          bif decide ((wi64 (x3 + (wi64 (1 * 2 ^ (min x4.toNat 64))))) < 2147483648) then
            parquetref08_Root.l3 N n x2 (wi64 (x3 + (wi64 (1 * 2 ^ (min x4.toNat 64))))) (wi64 (x4 - 1)) k0
          else
          parquetref08_Root.l3 N n x2 x3 (wi64 (x4 - 1)) k0
        else
        parquetref08_Root.l3 N n x2 x3 (wi64 (x4 - 1)) k0
      else none
    else
    k0 x3
noncomputable def parquetref08_Root.f (N : Nat) (a1 : Int) : Option (Int) :=
  parquetref08_Root.l3 N N a1 0 31
    (fun y6 =>
      some y6)
noncomputable def parquetref08_Root.body : Code := (Try.f30.body).getD .skip
noncomputable def parquetref08_Root.ty : List (Nat × TI) := []
noncomputable def parquetref08_Root.h3 : Hint := ⟨[(0, .any), (3, .any), (4, .any)], [(3, .any)]⟩
noncomputable def parquetref08_Root.c3 (N : Nat) : Cut := ⟨fun vs H k => match vs, H with
  | [.c (.int .i64 x2), .c (.int .i64 x3), .c (.int .i64 x4)], [] => parquetref08_Root.l3 N N x2 x3 x4 (fun x5 => k (.exit 0) ⟨mkT parquetref08_Root.h3.out [.c (.int .i64 x5)], []⟩)
  | _, _ => none⟩
noncomputable def parquetref08_Root.E (N : Nat) : Env := { ty := lookN parquetref08_Root.ty, tab := lookN [], hint := lookN [(3, parquetref08_Root.h3)], cut := lookN [(3, parquetref08_Root.c3 N)], N := N, res := [.tmp 2], rsh := [.any], nb := 0, ntmps := 25 }
noncomputable def parquetref08_Root.b3 : Code := inner ((subLoops parquetref08_Root.body).getD 0 .skip)
set_option maxRecDepth 100000 in
theorem parquetref08_Root.l3_eq {R : Type} (N n : Nat) (x2 : Int) (x3 : Int) (x4 : Int) (k : Ex → St → Option R) :
    evLoop 0 parquetref08_Root.h3 (fun s k => evCode (parquetref08_Root.E N) 394 parquetref08_Root.b3 s k) n [.c (.int .i64 x2), .c (.int .i64 x3), .c (.int .i64 x4)] [] k = parquetref08_Root.l3 N n x2 x3 x4 (fun x5 => k (.exit 0) ⟨mkT parquetref08_Root.h3.out [.c (.int .i64 x5)], []⟩) := by
  induction n generalizing x2 x3 x4 with
  | zero => kernel_rfl
  | succ n ih =>
    simp only [parquetref08_Root.l3, ← ih]
    kernel_rfl
noncomputable def parquetref08_Root.dec (v : V) (bs : List Blk) : Option (Int) := match v, bs with
  | .c (.int .i64 z0), [] => some z0
  | _, _ => none
set_option maxRecDepth 100000 in
theorem parquetref08_Root.f_eq (N : Nat) (a1 : Int) :
    evFun (parquetref08_Root.E N) parquetref08_Root.body [.c (.int .i64 a1)] [] parquetref08_Root.dec = parquetref08_Root.f N a1 := by kernel_rfl
noncomputable def parquetref08_Root.ent (N : Nat) : Entry := { A := Int, fresh := 0, imm := [true], dec := fun args bs => match freezeL 0 (fun _ => .dead) [.any] args, bs with
  | some [.c (.int .i64 a1)], [] => some (parquetref08_Root.f N a1, fun r => (.c (.int .i64 r), []))
  | _, _ => none }
theorem parquetref08_Root.env (N : Nat) : EnvOK Try.prog (parquetref08_Root.E N) := ⟨TyOK.nil, TabOK.nil⟩
theorem parquetref08_Root.res_eq (N : Nat) : (parquetref08_Root.E N).res = Try.f30.results.toList := by kernel_rfl
theorem parquetref08_Root.k3 (N : Nat) : CutOK Try.prog Try.f30 (parquetref08_Root.E N) (.loop parquetref08_Root.b3) := by
  intro e hd he hh R vs H k r h
  have e1 : (parquetref08_Root.E N).cut (loopKey parquetref08_Root.b3) = some (parquetref08_Root.c3 N) := by kernel_rfl
  have e2 : (parquetref08_Root.E N).hint (loopKey parquetref08_Root.b3) = some parquetref08_Root.h3 := by kernel_rfl
  rw [e1] at he; rw [e2] at hh; cases he; cases hh
  unfold parquetref08_Root.c3 at h; dsimp only at h
  split at h
  · rw [← parquetref08_Root.l3_eq] at h
    exact loop_ok (evCode_ok (parquetref08_Root.env N) Try_mixed (parquetref08_Root.res_eq N) 394 parquetref08_Root.b3 (AllCut.of (l := []) (by kernel_rfl) AllCut.nil)) h
  · cases h
theorem parquetref08_Root.spec (N : Nat) (a1 : Int) (r : Int) (h : parquetref08_Root.f N a1 = some r) : FnSpec Try.prog 30 [.c (.int .i64 a1)] [] (.c (.int .i64 r)) [] := by
  rw [← parquetref08_Root.f_eq] at h
  obtain ⟨v, bs', h1, h2⟩ := evFun_ok (parquetref08_Root.env N) Try_mixed Try.func30 (by kernel_rfl : Try.f30.body = some parquetref08_Root.body) (by kernel_rfl) (parquetref08_Root.res_eq N) (by kernel_rfl) (by kernel_rfl) (Nat.le_of_ble_eq_true (by kernel_rfl)) (AllCut.of (l := [(.loop (inner ((subLoops parquetref08_Root.body).getD 0 .skip)))]) (by kernel_rfl) (AllCut.cons (parquetref08_Root.k3 N) AllCut.nil)) h
  unfold parquetref08_Root.dec at h1; split at h1
  · cases h1; exact h2
  · cases h1
theorem parquetref08_Root.ent_ok (N : Nat) : TabOK1 Try.prog 30 (parquetref08_Root.ent N) := by
  intro args bs a enc h
  simp only [parquetref08_Root.ent] at h
  split at h
  · rename_i hz; have h0 := Option.some.inj h; have h1 := congrArg Prod.fst h0; have h2 := congrArg Prod.snd h0; dsimp only at h1 h2; subst h2; exact FnSpec.of_freeze hz (parquetref08_Root.spec N _ a h1)
  · cases h
/-! parquet/parquetref08.Represents: function 12 -/
noncomputable def parquetref08_Represents.l14 {R : Type} (N : Nat) : Nat → Int → Int → Int → Int → Int → Int → Int → Int → Int → Int → Int → Int → List Int → (Int → Int → Int → Int → Int → Int → Int → Int → Int → Int → Option R) → (Int → Int → Int → Option R) → Option R
  | 0, _, _, _, _, _, _, _, _, _, _, _, _, _, _, _ => none
  | n + 1, x18, x19, x20, x21, x22, x23, x24, x25, x26, x27, x28, x29, x30, k2, kr =>
    bif decide (x22 < x21) then
      bif (decide (0 ≤ x22)) && (decide (x22 < (x30.length : Int))) then
        bif !((wi64 (2 * x23)) == 0) then
          bif (Int.tmod (x30.getD x22.toNat 0) (wi64 (2 * x23))) == 0 then
            bif !((wi64 (2 * x23)) == 0) then
              kr (wi64 ((wi64 (x26 * (wi64 (Int.tdiv (x30.getD x22.toNat 0) (wi64 (2 * x23)))))) + (wi64 (x27 * x20)))) (wi64 ((wi64 (x28 * (wi64 (Int.tdiv (x30.getD x22.toNat 0) (wi64 (2 * x23)))))) + (wi64 (x29 * x20)))) 0
            else none
          else
          parquetref08_Represents.l14 N n x18 x19 x20 x21 (wi64 (x22 + 1)) x23 x24 x25 x26 x27 x28 x29 x30 k2 kr
        else none
      else none
    else
    k2 x18 x19 x20 x23 x24 x25 x26 x27 x28 x29
noncomputable def parquetref08_Represents.l8 {R : Type} (N : Nat) : Nat → Int → Int → Int → Int → Int → Int → Int → Int → Int → Int → (Unit → Option R) → (Int → Int → Int → Option R) → Option R
  | 0, _, _, _, _, _, _, _, _, _, _, _, _ => none
  | n + 1, x7, x8, x9, x10, x11, x12, x13, x14, x15, x16, k0, kr =>
    bif decide ((wi64 ((wi64 ((wi64 (x8 * x9)) * x9)) + (wi64 ((wi64 (4 * x10)) * x7)))) ≥ 0) then
      (parquetref08_Root.f N (wi64 ((wi64 ((wi64 (x8 * x9)) * x9)) + (wi64 ((wi64 (4 * x10)) * x7))))).bind fun r17 =>
      bif (wi64 (r17 * r17)) != (wi64 ((wi64 ((wi64 (x8 * x9)) * x9)) + (wi64 ((wi64 (4 * x10)) * x7)))) then
        parquetref08_Represents.l8 N n x7 x8 (wi64 (x9 + 1)) x10 x11 x12 x13 x14 x15 x16 k0 kr
      else
      parquetref08_Represents.l14 N N x7 x8 x9 2 0 x10 x11 x12 x13 x14 x15 x16 [wi64 (r17 - (wi64 (x11 * x9))), wi64 ((wi64 (0 - r17)) - (wi64 (x11 * x9)))]
        (fun y44 y45 y46 y47 y48 y49 y50 y51 y52 y53 =>
          parquetref08_Represents.l8 N n y44 y45 (wi64 (y46 + 1)) y47 y48 y49 y50 y51 y52 y53 k0 kr)
        (fun y54 y55 y56 =>
          kr y54 y55 y56)
    else
    k0 ()
noncomputable def parquetref08_Represents.f (N : Nat) (a1 : Int) (a2 : Int) (a3 : Int) (a4 : Int) : Option (Int × Int × Int) :=
  (parquetref08_Reduce.f N a1 a2 a3).bind fun r5 =>
  bif r5.2.2.2.2.2.2.2 != 0 then
    some (0, 0, r5.2.2.2.2.2.2.2)
  else
  bif decide (a4 < 1) then
    some (0, 0, 2)
  else
  bif decide (a4 > 1073741824) then
    some (0, 0, 2)
  else
  (parquetref08_Disc.f N r5.1 r5.2.1 r5.2.2.1).bind fun r6 =>
  parquetref08_Represents.l8 N N a4 r6 0 r5.1 r5.2.1 r5.2.2.1 r5.2.2.2.1 r5.2.2.2.2.1 r5.2.2.2.2.2.1 r5.2.2.2.2.2.2.1
    (fun (_ : Unit) =>
      some (0, 0, 41))
    (fun y60 y61 y62 =>
      some (y60, y61, y62))
noncomputable def parquetref08_Represents.body : Code := (Try.f12.body).getD .skip
noncomputable def parquetref08_Represents.ty : List (Nat × TI) := [(2, ty2), (23, ty23), (33, ty33), (52, ty52)]
noncomputable def parquetref08_Represents.h8 : Hint := ⟨[(1, .any), (7, .box [.any, .any, .any]), (8, .box [.any, .any, .any, .any]), (10, .any), (11, .any)], []⟩
noncomputable def parquetref08_Represents.h14 : Hint := ⟨[(1, .any), (7, .box [.any, .any, .any]), (8, .box [.any, .any, .any, .any]), (10, .any), (11, .any), (79, .row .i64 1), (80, .any), (81, .any)], [(1, .any), (7, .box [.any, .any, .any]), (8, .box [.any, .any, .any, .any]), (10, .any), (11, .any)]⟩
noncomputable def parquetref08_Represents.c14 (N : Nat) : Cut := ⟨fun vs H k => match vs, H with
  | [.c (.int .i64 x18), .ptr 0 0 3, .ptr 1 0 4, .c (.int .i64 x19), .c (.int .i64 x20), .sw 2 1, .c (.int .i64 x21), .c (.int .i64 x22)], [.vals [.c (.int .i64 x23), .c (.int .i64 x24), .c (.int .i64 x25)], .vals [.c (.int .i64 x26), .c (.int .i64 x27), .c (.int .i64 x28), .c (.int .i64 x29)], .ints .i64 x30] => parquetref08_Represents.l14 N N x18 x19 x20 x21 x22 x23 x24 x25 x26 x27 x28 x29 x30 (fun x34 x35 x36 x37 x38 x39 x40 x41 x42 x43 => k (.exit 2) ⟨mkT parquetref08_Represents.h14.out [.c (.int .i64 x34), .ptr 0 0 3, .ptr 1 0 4, .c (.int .i64 x35), .c (.int .i64 x36)], [.vals [.c (.int .i64 x37), .c (.int .i64 x38), .c (.int .i64 x39)], .vals [.c (.int .i64 x40), .c (.int .i64 x41), .c (.int .i64 x42), .c (.int .i64 x43)]]⟩) (fun x31 x32 x33 => k (.ret (.tup [.c (.int .i64 x31), .c (.int .i64 x32), .c (.int .i64 x33)]) []) .nil)
  | _, _ => none⟩
noncomputable def parquetref08_Represents.c8 (N : Nat) : Cut := ⟨fun vs H k => match vs, H with
  | [.c (.int .i64 x7), .ptr 0 0 3, .ptr 1 0 4, .c (.int .i64 x8), .c (.int .i64 x9)], [.vals [.c (.int .i64 x10), .c (.int .i64 x11), .c (.int .i64 x12)], .vals [.c (.int .i64 x13), .c (.int .i64 x14), .c (.int .i64 x15), .c (.int .i64 x16)]] => parquetref08_Represents.l8 N N x7 x8 x9 x10 x11 x12 x13 x14 x15 x16 (fun (_ : Unit) => k (.exit 0) ⟨mkT parquetref08_Represents.h8.out [], []⟩) (fun x57 x58 x59 => k (.ret (.tup [.c (.int .i64 x57), .c (.int .i64 x58), .c (.int .i64 x59)]) []) .nil)
  | _, _ => none⟩
noncomputable def parquetref08_Represents.E (N : Nat) : Env := { ty := lookN parquetref08_Represents.ty, tab := lookN [(28, parquetref08_Reduce.ent N), (23, parquetref08_Disc.ent N), (30, parquetref08_Root.ent N)], hint := lookN [(8, parquetref08_Represents.h8), (14, parquetref08_Represents.h14)], cut := lookN [(14, parquetref08_Represents.c14 N), (8, parquetref08_Represents.c8 N)], N := N, res := [.tmp 4, .tmp 5, .tmp 6], rsh := [.any, .any, .any], nb := 0, ntmps := 115 }
noncomputable def parquetref08_Represents.b14 : Code := inner ((subLoops parquetref08_Represents.body).getD 1 .skip)
set_option maxRecDepth 100000 in
theorem parquetref08_Represents.l14_eq {R : Type} (N n : Nat) (x18 : Int) (x19 : Int) (x20 : Int) (x21 : Int) (x22 : Int) (x23 : Int) (x24 : Int) (x25 : Int) (x26 : Int) (x27 : Int) (x28 : Int) (x29 : Int) (x30 : List Int) (k : Ex → St → Option R) :
    evLoop 0 parquetref08_Represents.h14 (fun s k => evCode (parquetref08_Represents.E N) 382 parquetref08_Represents.b14 s k) n [.c (.int .i64 x18), .ptr 0 0 3, .ptr 1 0 4, .c (.int .i64 x19), .c (.int .i64 x20), .sw 2 1, .c (.int .i64 x21), .c (.int .i64 x22)] [.vals [.c (.int .i64 x23), .c (.int .i64 x24), .c (.int .i64 x25)], .vals [.c (.int .i64 x26), .c (.int .i64 x27), .c (.int .i64 x28), .c (.int .i64 x29)], .ints .i64 x30] k = parquetref08_Represents.l14 N n x18 x19 x20 x21 x22 x23 x24 x25 x26 x27 x28 x29 x30 (fun x34 x35 x36 x37 x38 x39 x40 x41 x42 x43 => k (.exit 2) ⟨mkT parquetref08_Represents.h14.out [.c (.int .i64 x34), .ptr 0 0 3, .ptr 1 0 4, .c (.int .i64 x35), .c (.int .i64 x36)], [.vals [.c (.int .i64 x37), .c (.int .i64 x38), .c (.int .i64 x39)], .vals [.c (.int .i64 x40), .c (.int .i64 x41), .c (.int .i64 x42), .c (.int .i64 x43)]]⟩) (fun x31 x32 x33 => k (.ret (.tup [.c (.int .i64 x31), .c (.int .i64 x32), .c (.int .i64 x33)]) []) .nil) := by
  induction n generalizing x18 x19 x20 x21 x22 x23 x24 x25 x26 x27 x28 x29 x30 with
  | zero => kernel_rfl
  | succ n ih =>
    simp only [parquetref08_Represents.l14, ← ih]
    kernel_rfl
noncomputable def parquetref08_Represents.b8 : Code := inner ((subLoops parquetref08_Represents.body).getD 0 .skip)
set_option maxRecDepth 100000 in
theorem parquetref08_Represents.l8_eq {R : Type} (N n : Nat) (x7 : Int) (x8 : Int) (x9 : Int) (x10 : Int) (x11 : Int) (x12 : Int) (x13 : Int) (x14 : Int) (x15 : Int) (x16 : Int) (k : Ex → St → Option R) :
    evLoop 0 parquetref08_Represents.h8 (fun s k => evCode (parquetref08_Represents.E N) 391 parquetref08_Represents.b8 s k) n [.c (.int .i64 x7), .ptr 0 0 3, .ptr 1 0 4, .c (.int .i64 x8), .c (.int .i64 x9)] [.vals [.c (.int .i64 x10), .c (.int .i64 x11), .c (.int .i64 x12)], .vals [.c (.int .i64 x13), .c (.int .i64 x14), .c (.int .i64 x15), .c (.int .i64 x16)]] k = parquetref08_Represents.l8 N n x7 x8 x9 x10 x11 x12 x13 x14 x15 x16 (fun (_ : Unit) => k (.exit 0) ⟨mkT parquetref08_Represents.h8.out [], []⟩) (fun x57 x58 x59 => k (.ret (.tup [.c (.int .i64 x57), .c (.int .i64 x58), .c (.int .i64 x59)]) []) .nil) := by
  induction n generalizing x7 x8 x9 x10 x11 x12 x13 x14 x15 x16 with
  | zero => kernel_rfl
  | succ n ih =>
    simp only [parquetref08_Represents.l8, ← ih]
    kernel_rfl
noncomputable def parquetref08_Represents.dec (v : V) (bs : List Blk) : Option (Int × Int × Int) := match v, bs with
  | .tup [.c (.int .i64 z0), .c (.int .i64 z1), .c (.int .i64 z2)], [] => some (z0, z1, z2)
  | _, _ => none
set_option maxRecDepth 100000 in
theorem parquetref08_Represents.f_eq (N : Nat) (a1 : Int) (a2 : Int) (a3 : Int) (a4 : Int) :
    evFun (parquetref08_Represents.E N) parquetref08_Represents.body [.agg [.c (.int .i64 a1), .c (.int .i64 a2), .c (.int .i64 a3)], .c (.int .i64 a4)] [] parquetref08_Represents.dec = parquetref08_Represents.f N a1 a2 a3 a4 := by kernel_rfl
noncomputable def parquetref08_Represents.ent (N : Nat) : Entry := { A := Int × Int × Int, fresh := 0, imm := [true, true], dec := fun args bs => match freezeL 0 (fun _ => .dead) [.recd [.any, .any, .any], .any] args, bs with
  | some [.agg [.c (.int .i64 a1), .c (.int .i64 a2), .c (.int .i64 a3)], .c (.int .i64 a4)], [] => some (parquetref08_Represents.f N a1 a2 a3 a4, fun r => (.tup [.c (.int .i64 r.1), .c (.int .i64 r.2.1), .c (.int .i64 r.2.2)], []))
  | _, _ => none }
theorem parquetref08_Represents.env (N : Nat) : EnvOK Try.prog (parquetref08_Represents.E N) := ⟨(TyOK.cons ty2_ok (TyOK.cons ty23_ok (TyOK.cons ty33_ok (TyOK.cons ty52_ok TyOK.nil)))), (TabOK.cons (parquetref08_Reduce.ent_ok N) (TabOK.cons (parquetref08_Disc.ent_ok N) (TabOK.cons (parquetref08_Root.ent_ok N) TabOK.nil)))⟩
theorem parquetref08_Represents.res_eq (N : Nat) : (parquetref08_Represents.E N).res = Try.f12.results.toList := by kernel_rfl
theorem parquetref08_Represents.k14 (N : Nat) : CutOK Try.prog Try.f12 (parquetref08_Represents.E N) (.loop parquetref08_Represents.b14) := by
  intro e hd he hh R vs H k r h
  have e1 : (parquetref08_Represents.E N).cut (loopKey parquetref08_Represents.b14) = some (parquetref08_Represents.c14 N) := by kernel_rfl
  have e2 : (parquetref08_Represents.E N).hint (loopKey parquetref08_Represents.b14) = some parquetref08_Represents.h14 := by kernel_rfl
  rw [e1] at he; rw [e2] at hh; cases he; cases hh
  unfold parquetref08_Represents.c14 at h; dsimp only at h
  split at h
  · rw [← parquetref08_Represents.l14_eq] at h
    exact loop_ok (evCode_ok (parquetref08_Represents.env N) Try_mixed (parquetref08_Represents.res_eq N) 382 parquetref08_Represents.b14 (AllCut.of (l := []) (by kernel_rfl) AllCut.nil)) h
  · cases h
theorem parquetref08_Represents.k8 (N : Nat) : CutOK Try.prog Try.f12 (parquetref08_Represents.E N) (.loop parquetref08_Represents.b8) := by
  intro e hd he hh R vs H k r h
  have e1 : (parquetref08_Represents.E N).cut (loopKey parquetref08_Represents.b8) = some (parquetref08_Represents.c8 N) := by kernel_rfl
  have e2 : (parquetref08_Represents.E N).hint (loopKey parquetref08_Represents.b8) = some parquetref08_Represents.h8 := by kernel_rfl
  rw [e1] at he; rw [e2] at hh; cases he; cases hh
  unfold parquetref08_Represents.c8 at h; dsimp only at h
  split at h
  · rw [← parquetref08_Represents.l8_eq] at h
    exact loop_ok (evCode_ok (parquetref08_Represents.env N) Try_mixed (parquetref08_Represents.res_eq N) 391 parquetref08_Represents.b8 (AllCut.of (l := [(.loop (inner ((subLoops parquetref08_Represents.body).getD 1 .skip)))]) (by kernel_rfl) (AllCut.cons (parquetref08_Represents.k14 N) AllCut.nil))) h
  · cases h
theorem parquetref08_Represents.spec (N : Nat) (a1 : Int) (a2 : Int) (a3 : Int) (a4 : Int) (r : Int × Int × Int) (h : parquetref08_Represents.f N a1 a2 a3 a4 = some r) : FnSpec Try.prog 12 [.agg [.c (.int .i64 a1), .c (.int .i64 a2), .c (.int .i64 a3)], .c (.int .i64 a4)] [] (.tup [.c (.int .i64 r.1), .c (.int .i64 r.2.1), .c (.int .i64 r.2.2)]) [] := by
  rw [← parquetref08_Represents.f_eq] at h
  obtain ⟨v, bs', h1, h2⟩ := evFun_ok (parquetref08_Represents.env N) Try_mixed Try.func12 (by kernel_rfl : Try.f12.body = some parquetref08_Represents.body) (by kernel_rfl) (parquetref08_Represents.res_eq N) (by kernel_rfl) (by kernel_rfl) (Nat.le_of_ble_eq_true (by kernel_rfl)) (AllCut.of (l := [(.loop (inner ((subLoops parquetref08_Represents.body).getD 0 .skip))), (.loop (inner ((subLoops parquetref08_Represents.body).getD 1 .skip)))]) (by kernel_rfl) (AllCut.cons (parquetref08_Represents.k8 N) (AllCut.cons (parquetref08_Represents.k14 N) AllCut.nil))) h
  unfold parquetref08_Represents.dec at h1; split at h1
  · cases h1; exact h2
  · cases h1
theorem parquetref08_Represents.ent_ok (N : Nat) : TabOK1 Try.prog 12 (parquetref08_Represents.ent N) := by
  intro args bs a enc h
  simp only [parquetref08_Represents.ent] at h
  split at h
  · rename_i hz; have h0 := Option.some.inj h; have h1 := congrArg Prod.fst h0; have h2 := congrArg Prod.snd h0; dsimp only at h1 h2; subst h2; exact FnSpec.of_freeze hz (parquetref08_Represents.spec N _ _ _ _ a h1)
  · cases h
/-! parquet/parquetref08.Proper: function 15 -/
noncomputable def parquetref08_Proper.f (N : Nat) (a1 : Int) (a2 : Int) (a3 : Int) (a4 : Int) (a5 : Int) (a6 : Int) : Option (Bool × Int) :=
  (parquetref08_Reduce.f N a1 a2 a3).bind fun r7 =>
  bif r7.2.2.2.2.2.2.2 != 0 then
    some (false, r7.2.2.2.2.2.2.2)
  else
  (parquetref08_Reduce.f N a4 a5 a6).bind fun r8 =>
  bif r8.2.2.2.2.2.2.2 != 0 then
    some (false, r8.2.2.2.2.2.2.2)
  else
  some ((r7.1 == r8.1) && ((r7.2.1 == r8.2.1) && (r7.2.2.1 == r8.2.2.1)), 0)
noncomputable def parquetref08_Proper.body : Code := (Try.f15.body).getD .skip
noncomputable def parquetref08_Proper.ty : List (Nat × TI) := [(2, ty2), (23, ty23), (33, ty33)]
noncomputable def parquetref08_Proper.E (N : Nat) : Env := { ty := lookN parquetref08_Proper.ty, tab := lookN [(28, parquetref08_Reduce.ent N)], hint := lookN [], cut := lookN [], N := N, res := [.tmp 4, .tmp 5], rsh := [.any, .any], nb := 0, ntmps := 32 }
noncomputable def parquetref08_Proper.dec (v : V) (bs : List Blk) : Option (Bool × Int) := match v, bs with
  | .tup [.c (.bool z0), .c (.int .i64 z1)], [] => some (z0, z1)
  | _, _ => none
set_option maxRecDepth 100000 in
theorem parquetref08_Proper.f_eq (N : Nat) (a1 : Int) (a2 : Int) (a3 : Int) (a4 : Int) (a5 : Int) (a6 : Int) :
    evFun (parquetref08_Proper.E N) parquetref08_Proper.body [.agg [.c (.int .i64 a1), .c (.int .i64 a2), .c (.int .i64 a3)], .agg [.c (.int .i64 a4), .c (.int .i64 a5), .c (.int .i64 a6)]] [] parquetref08_Proper.dec = parquetref08_Proper.f N a1 a2 a3 a4 a5 a6 := by kernel_rfl
noncomputable def parquetref08_Proper.ent (N : Nat) : Entry := { A := Bool × Int, fresh := 0, imm := [true, true], dec := fun args bs => match freezeL 0 (fun _ => .dead) [.recd [.any, .any, .any], .recd [.any, .any, .any]] args, bs with
  | some [.agg [.c (.int .i64 a1), .c (.int .i64 a2), .c (.int .i64 a3)], .agg [.c (.int .i64 a4), .c (.int .i64 a5), .c (.int .i64 a6)]], [] => some (parquetref08_Proper.f N a1 a2 a3 a4 a5 a6, fun r => (.tup [.c (.bool r.1), .c (.int .i64 r.2)], []))
  | _, _ => none }
theorem parquetref08_Proper.env (N : Nat) : EnvOK Try.prog (parquetref08_Proper.E N) := ⟨(TyOK.cons ty2_ok (TyOK.cons ty23_ok (TyOK.cons ty33_ok TyOK.nil))), (TabOK.cons (parquetref08_Reduce.ent_ok N) TabOK.nil)⟩
theorem parquetref08_Proper.res_eq (N : Nat) : (parquetref08_Proper.E N).res = Try.f15.results.toList := by kernel_rfl
theorem parquetref08_Proper.spec (N : Nat) (a1 : Int) (a2 : Int) (a3 : Int) (a4 : Int) (a5 : Int) (a6 : Int) (r : Bool × Int) (h : parquetref08_Proper.f N a1 a2 a3 a4 a5 a6 = some r) : FnSpec Try.prog 15 [.agg [.c (.int .i64 a1), .c (.int .i64 a2), .c (.int .i64 a3)], .agg [.c (.int .i64 a4), .c (.int .i64 a5), .c (.int .i64 a6)]] [] (.tup [.c (.bool r.1), .c (.int .i64 r.2)]) [] := by
  rw [← parquetref08_Proper.f_eq] at h
  obtain ⟨v, bs', h1, h2⟩ := evFun_ok (parquetref08_Proper.env N) Try_mixed Try.func15 (by kernel_rfl : Try.f15.body = some parquetref08_Proper.body) (by kernel_rfl) (parquetref08_Proper.res_eq N) (by kernel_rfl) (by kernel_rfl) (Nat.le_of_ble_eq_true (by kernel_rfl)) (AllCut.of (l := []) (by kernel_rfl) AllCut.nil) h
  unfold parquetref08_Proper.dec at h1; split at h1
  · cases h1; exact h2
  · cases h1
theorem parquetref08_Proper.ent_ok (N : Nat) : TabOK1 Try.prog 15 (parquetref08_Proper.ent N) := by
  intro args bs a enc h
  simp only [parquetref08_Proper.ent] at h
  split at h
  · rename_i hz; have h0 := Option.some.inj h; have h1 := congrArg Prod.fst h0; have h2 := congrArg Prod.snd h0; dsimp only at h1 h2; subst h2; exact FnSpec.of_freeze hz (parquetref08_Proper.spec N _ _ _ _ _ _ a h1)
  · cases h
/-! parquet/parquetlaw08.wakes: function 13 -/
noncomputable def parquetlaw08_wakes.f (N : Nat) : Option (Bool) :=
  (binary_Reduce.f N 3 7 5).bind fun r1 =>
  (binary_Represents.f N 1 0 1 25).bind fun r2 =>
  bif r1.2.2.2.2.2.2.2 == 0 then
    bif (r1.1 == 1) && ((r1.2.1 == 1) && (r1.2.2.1 == 3)) then
      bif (r1.2.2.2.1 == (-1)) && ((r1.2.2.2.2.1 == (-2)) && ((r1.2.2.2.2.2.1 == 1) && (r1.2.2.2.2.2.2.1 == 1))) then
        bif r2.2.2 == 0 then
          bif r2.1 == 5 then
            some (r2.2.1 == 0)
          else
          some false
        else
        some false
      else
      some false
    else
    some false
  else
  some false
noncomputable def parquetlaw08_wakes.body : Code := (Try.f13.body).getD .skip
noncomputable def parquetlaw08_wakes.ty : List (Nat × TI) := [(2, ty2), (23, ty23), (33, ty33)]
noncomputable def parquetlaw08_wakes.E (N : Nat) : Env := { ty := lookN parquetlaw08_wakes.ty, tab := lookN [(20, binary_Reduce.ent N), (11, binary_Represents.ent N)], hint := lookN [], cut := lookN [], N := N, res := [.tmp 0], rsh := [.any], nb := 0, ntmps := 43 }
noncomputable def parquetlaw08_wakes.dec (v : V) (bs : List Blk) : Option (Bool) := match v, bs with
  | .c (.bool z0), [] => some z0
  | _, _ => none
set_option maxRecDepth 100000 in
theorem parquetlaw08_wakes.f_eq (N : Nat) :
    evFun (parquetlaw08_wakes.E N) parquetlaw08_wakes.body [] [] parquetlaw08_wakes.dec = parquetlaw08_wakes.f N := by kernel_rfl
noncomputable def parquetlaw08_wakes.ent (N : Nat) : Entry := { A := Bool, fresh := 0, imm := [], dec := fun args bs => match freezeL 0 (fun _ => .dead) [] args, bs with
  | some [], [] => some (parquetlaw08_wakes.f N, fun r => (.c (.bool r), []))
  | _, _ => none }
theorem parquetlaw08_wakes.env (N : Nat) : EnvOK Try.prog (parquetlaw08_wakes.E N) := ⟨(TyOK.cons ty2_ok (TyOK.cons ty23_ok (TyOK.cons ty33_ok TyOK.nil))), (TabOK.cons (binary_Reduce.ent_ok N) (TabOK.cons (binary_Represents.ent_ok N) TabOK.nil))⟩
theorem parquetlaw08_wakes.res_eq (N : Nat) : (parquetlaw08_wakes.E N).res = Try.f13.results.toList := by kernel_rfl
theorem parquetlaw08_wakes.spec (N : Nat) (r : Bool) (h : parquetlaw08_wakes.f N = some r) : FnSpec Try.prog 13 [] [] (.c (.bool r)) [] := by
  rw [← parquetlaw08_wakes.f_eq] at h
  obtain ⟨v, bs', h1, h2⟩ := evFun_ok (parquetlaw08_wakes.env N) Try_mixed Try.func13 (by kernel_rfl : Try.f13.body = some parquetlaw08_wakes.body) (by kernel_rfl) (parquetlaw08_wakes.res_eq N) (by kernel_rfl) (by kernel_rfl) (Nat.le_of_ble_eq_true (by kernel_rfl)) (AllCut.of (l := []) (by kernel_rfl) AllCut.nil) h
  unfold parquetlaw08_wakes.dec at h1; split at h1
  · cases h1; exact h2
  · cases h1
theorem parquetlaw08_wakes.ent_ok (N : Nat) : TabOK1 Try.prog 13 (parquetlaw08_wakes.ent N) := by
  intro args bs a enc h
  simp only [parquetlaw08_wakes.ent] at h
  split at h
  · rename_i hz; have h0 := Option.some.inj h; have h1 := congrArg Prod.fst h0; have h2 := congrArg Prod.snd h0; dsimp only at h1 h2; subst h2; exact FnSpec.of_freeze hz (parquetlaw08_wakes.spec N a h1)
  · cases h
/-! parquet/parquetlaw08.BinaryValues: function 3 -/
noncomputable def parquetlaw08_BinaryValues.f (N : Nat) (a1 : Int) (a2 : Int) (a3 : Int) (a4 : Int) : Option (Bool) :=
  (binary_Represents.f N a1 a2 a3 a4).bind fun r5 =>
  (parquetref08_Represents.f N a1 a2 a3 a4).bind fun r6 =>
  bif r5.1 == r6.1 then
    bif r5.2.1 == r6.2.1 then
      bif r5.2.2 == r6.2.2 then
        (parquetlaw08_wakes.f N).bind fun r7 =>
        some r7
      else
      some false
    else
    some false
  else
  some false
noncomputable def parquetlaw08_BinaryValues.body : Code := (Try.f3.body).getD .skip
noncomputable def parquetlaw08_BinaryValues.ty : List (Nat × TI) := [(23, ty23)]
noncomputable def parquetlaw08_BinaryValues.E (N : Nat) : Env := { ty := lookN parquetlaw08_BinaryValues.ty, tab := lookN [(11, binary_Represents.ent N), (12, parquetref08_Represents.ent N), (13, parquetlaw08_wakes.ent N)], hint := lookN [], cut := lookN [], N := N, res := [.tmp 4], rsh := [.any], nb := 0, ntmps := 41 }
noncomputable def parquetlaw08_BinaryValues.dec (v : V) (bs : List Blk) : Option (Bool) := match v, bs with
  | .c (.bool z0), [] => some z0
  | _, _ => none
set_option maxRecDepth 100000 in
theorem parquetlaw08_BinaryValues.f_eq (N : Nat) (a1 : Int) (a2 : Int) (a3 : Int) (a4 : Int) :
    evFun (parquetlaw08_BinaryValues.E N) parquetlaw08_BinaryValues.body [.agg [.c (.int .i64 a1), .c (.int .i64 a2), .c (.int .i64 a3)], .c (.int .i64 a4)] [] parquetlaw08_BinaryValues.dec = parquetlaw08_BinaryValues.f N a1 a2 a3 a4 := by kernel_rfl
noncomputable def parquetlaw08_BinaryValues.ent (N : Nat) : Entry := { A := Bool, fresh := 0, imm := [true, true], dec := fun args bs => match freezeL 0 (fun _ => .dead) [.recd [.any, .any, .any], .any] args, bs with
  | some [.agg [.c (.int .i64 a1), .c (.int .i64 a2), .c (.int .i64 a3)], .c (.int .i64 a4)], [] => some (parquetlaw08_BinaryValues.f N a1 a2 a3 a4, fun r => (.c (.bool r), []))
  | _, _ => none }
theorem parquetlaw08_BinaryValues.env (N : Nat) : EnvOK Try.prog (parquetlaw08_BinaryValues.E N) := ⟨(TyOK.cons ty23_ok TyOK.nil), (TabOK.cons (binary_Represents.ent_ok N) (TabOK.cons (parquetref08_Represents.ent_ok N) (TabOK.cons (parquetlaw08_wakes.ent_ok N) TabOK.nil)))⟩
theorem parquetlaw08_BinaryValues.res_eq (N : Nat) : (parquetlaw08_BinaryValues.E N).res = Try.f3.results.toList := by kernel_rfl
theorem parquetlaw08_BinaryValues.spec (N : Nat) (a1 : Int) (a2 : Int) (a3 : Int) (a4 : Int) (r : Bool) (h : parquetlaw08_BinaryValues.f N a1 a2 a3 a4 = some r) : FnSpec Try.prog 3 [.agg [.c (.int .i64 a1), .c (.int .i64 a2), .c (.int .i64 a3)], .c (.int .i64 a4)] [] (.c (.bool r)) [] := by
  rw [← parquetlaw08_BinaryValues.f_eq] at h
  obtain ⟨v, bs', h1, h2⟩ := evFun_ok (parquetlaw08_BinaryValues.env N) Try_mixed Try.func3 (by kernel_rfl : Try.f3.body = some parquetlaw08_BinaryValues.body) (by kernel_rfl) (parquetlaw08_BinaryValues.res_eq N) (by kernel_rfl) (by kernel_rfl) (Nat.le_of_ble_eq_true (by kernel_rfl)) (AllCut.of (l := []) (by kernel_rfl) AllCut.nil) h
  unfold parquetlaw08_BinaryValues.dec at h1; split at h1
  · cases h1; exact h2
  · cases h1
theorem parquetlaw08_BinaryValues.ent_ok (N : Nat) : TabOK1 Try.prog 3 (parquetlaw08_BinaryValues.ent N) := by
  intro args bs a enc h
  simp only [parquetlaw08_BinaryValues.ent] at h
  split at h
  · rename_i hz; have h0 := Option.some.inj h; have h1 := congrArg Prod.fst h0; have h2 := congrArg Prod.snd h0; dsimp only at h1 h2; subst h2; exact FnSpec.of_freeze hz (parquetlaw08_BinaryValues.spec N _ _ _ _ a h1)
  · cases h
/-! parquet/parquetlaw08.BinaryPropers: function 4 -/
noncomputable def parquetlaw08_BinaryPropers.f (N : Nat) (a1 : Int) (a2 : Int) (a3 : Int) (a4 : Int) (a5 : Int) (a6 : Int) : Option (Bool) :=
  (binary_Proper.f N a1 a2 a3 a4 a5 a6).bind fun r7 =>
  (parquetref08_Proper.f N a1 a2 a3 a4 a5 a6).bind fun r8 =>
  bif r7.1 == r8.1 then
    bif r7.2 == r8.2 then
      (parquetlaw08_wakes.f N).bind fun r9 =>
      some r9
    else
    some false
  else
  some false
noncomputable def parquetlaw08_BinaryPropers.body : Code := (Try.f4.body).getD .skip
noncomputable def parquetlaw08_BinaryPropers.ty : List (Nat × TI) := [(4, ty4), (23, ty23)]
noncomputable def parquetlaw08_BinaryPropers.E (N : Nat) : Env := { ty := lookN parquetlaw08_BinaryPropers.ty, tab := lookN [(14, binary_Proper.ent N), (15, parquetref08_Proper.ent N), (13, parquetlaw08_wakes.ent N)], hint := lookN [], cut := lookN [], N := N, res := [.tmp 4], rsh := [.any], nb := 0, ntmps := 32 }
noncomputable def parquetlaw08_BinaryPropers.dec (v : V) (bs : List Blk) : Option (Bool) := match v, bs with
  | .c (.bool z0), [] => some z0
  | _, _ => none
set_option maxRecDepth 100000 in
theorem parquetlaw08_BinaryPropers.f_eq (N : Nat) (a1 : Int) (a2 : Int) (a3 : Int) (a4 : Int) (a5 : Int) (a6 : Int) :
    evFun (parquetlaw08_BinaryPropers.E N) parquetlaw08_BinaryPropers.body [.agg [.c (.int .i64 a1), .c (.int .i64 a2), .c (.int .i64 a3)], .agg [.c (.int .i64 a4), .c (.int .i64 a5), .c (.int .i64 a6)]] [] parquetlaw08_BinaryPropers.dec = parquetlaw08_BinaryPropers.f N a1 a2 a3 a4 a5 a6 := by kernel_rfl
noncomputable def parquetlaw08_BinaryPropers.ent (N : Nat) : Entry := { A := Bool, fresh := 0, imm := [true, true], dec := fun args bs => match freezeL 0 (fun _ => .dead) [.recd [.any, .any, .any], .recd [.any, .any, .any]] args, bs with
  | some [.agg [.c (.int .i64 a1), .c (.int .i64 a2), .c (.int .i64 a3)], .agg [.c (.int .i64 a4), .c (.int .i64 a5), .c (.int .i64 a6)]], [] => some (parquetlaw08_BinaryPropers.f N a1 a2 a3 a4 a5 a6, fun r => (.c (.bool r), []))
  | _, _ => none }
theorem parquetlaw08_BinaryPropers.env (N : Nat) : EnvOK Try.prog (parquetlaw08_BinaryPropers.E N) := ⟨(TyOK.cons ty4_ok (TyOK.cons ty23_ok TyOK.nil)), (TabOK.cons (binary_Proper.ent_ok N) (TabOK.cons (parquetref08_Proper.ent_ok N) (TabOK.cons (parquetlaw08_wakes.ent_ok N) TabOK.nil)))⟩
theorem parquetlaw08_BinaryPropers.res_eq (N : Nat) : (parquetlaw08_BinaryPropers.E N).res = Try.f4.results.toList := by kernel_rfl
theorem parquetlaw08_BinaryPropers.spec (N : Nat) (a1 : Int) (a2 : Int) (a3 : Int) (a4 : Int) (a5 : Int) (a6 : Int) (r : Bool) (h : parquetlaw08_BinaryPropers.f N a1 a2 a3 a4 a5 a6 = some r) : FnSpec Try.prog 4 [.agg [.c (.int .i64 a1), .c (.int .i64 a2), .c (.int .i64 a3)], .agg [.c (.int .i64 a4), .c (.int .i64 a5), .c (.int .i64 a6)]] [] (.c (.bool r)) [] := by
  rw [← parquetlaw08_BinaryPropers.f_eq] at h
  obtain ⟨v, bs', h1, h2⟩ := evFun_ok (parquetlaw08_BinaryPropers.env N) Try_mixed Try.func4 (by kernel_rfl : Try.f4.body = some parquetlaw08_BinaryPropers.body) (by kernel_rfl) (parquetlaw08_BinaryPropers.res_eq N) (by kernel_rfl) (by kernel_rfl) (Nat.le_of_ble_eq_true (by kernel_rfl)) (AllCut.of (l := []) (by kernel_rfl) AllCut.nil) h
  unfold parquetlaw08_BinaryPropers.dec at h1; split at h1
  · cases h1; exact h2
  · cases h1
theorem parquetlaw08_BinaryPropers.ent_ok (N : Nat) : TabOK1 Try.prog 4 (parquetlaw08_BinaryPropers.ent N) := by
  intro args bs a enc h
  simp only [parquetlaw08_BinaryPropers.ent] at h
  split at h
  · rename_i hz; have h0 := Option.some.inj h; have h1 := congrArg Prod.fst h0; have h2 := congrArg Prod.snd h0; dsimp only at h1 h2; subst h2; exact FnSpec.of_freeze hz (parquetlaw08_BinaryPropers.spec N _ _ _ _ _ _ a h1)
  · cases h
end Go.Proofs.Ytckddgepjhclpaa
